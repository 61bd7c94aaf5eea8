import Derived.Test.YtnomldjkblednaaB3
set_option linter.unusedVariables false
set_option linter.unusedSimpArgs false
namespace Go.Vc
theorem TriV.fn {P : Program} {f : FuncId} {fr cap : Array Value} {args : List Value} {I : Imm} {F : Heap} {Q : Ending → Imm → Heap → Prop} (he : Enters P f) {vs : Array Value} (hv : fr ++ args.toArray ++ cap = vs) (h : Tri P f vs I F Q) : TriV P (.func (.func f) fr cap) args I F Q :=
  fun w hw => .inl ⟨f, fr, cap, rfl, he, by rw [hv]; exact h w hw⟩
theorem TriD.mono {P : Program} {f : FuncId} {args : List Value} {u : FrameMode} {I : Imm} {F : Heap} {Q Q' : Ending → FrameMode → Imm → Heap → Prop} (h : TriD P f args u I F Q) (k : ∀ e u' I' G, Imm.le I I' → Q e u' I' G → Q' e u' I' G) : TriD P f args u I F Q' :=
  fun w hw => (h w hw).mono fun e u' w' ⟨I', F', h1, h2, h3⟩ => ⟨I', F', h1, h2, k _ _ _ _ h1 h3⟩
theorem TriD.perm {P : Program} {f : FuncId} {args : List Value} {u : FrameMode} {I : Imm} {F G : Heap} {Q : Ending → FrameMode → Imm → Heap → Prop} (h : TriD P f args u I F Q) (p : G.Perm F) : TriD P f args u I G Q := fun w hw => h w (hw.perm p)
end Go.Vc
namespace Go.Lx
open Go.Vc
abbrev errOf (n : Int) : Ending := if n = 0 then .returned (.tuple #[]) else .panicked (wrongP n)
theorem caught_spec {look : Fn} {lf lc : Array Value} {n : Int} {I : Imm} {F : Heap} (h : ∀ b : Nat, TriV P (.func look lf lc) [] I ((b, .cells #[.int .i64 0] 32 (0, 0)) :: F) fun e I' G => e = errOf n ∧ G = (b, .cells #[.int .i64 0] 32 (0, 0)) :: F) :
    Tri P 39 #[.func look lf lc] I F (Ret (.int .i64 n) F) := by
  refine tree_caught.vc ?_
  unfold tree_caught.V
  intro b_e
  refine (h b_e).mono fun e I1 G hI1 ⟨he, hG⟩ => ?_
  subst hG
  by_cases hn : n = 0
  · subst hn
    refine .inl ⟨he, F, .refl _, (tree_caught_1_none.vc recTo_nil (Q := fun e I' G => e = .returned (.tuple #[]) ∧ G = (b_e, .cells #[.int .i64 0] 32 (0, 0)) :: F) fun b_x => ⟨rfl, rfl⟩).mono fun e u I2 G _ ⟨hu, he, hG⟩ => ?_⟩
    subst hu
    exact ⟨_, he, 0, F, by rw [hG], .inl ⟨rfl, rfl, rfl⟩⟩
  · rw [errOf, if_neg hn] at he
    refine .inr ⟨_, he, F, .refl _, (tree_caught_1_some.vc (recTo_one _) (Q := fun e I' G => e = .returned (.tuple #[]) ∧ G = (b_e, .cells #[.int .i64 n] 32 (0, 0)) :: F) fun b_x => ⟨rfl, rfl⟩).mono fun e u I2 G _ ⟨hu, he, hG⟩ => ?_⟩
    subst hu
    exact ⟨_, he, n, F, by rw [hG], .inl ⟨rfl, rfl, rfl⟩⟩
theorem enters_ce1 : Enters P 40 := hP_of [40] (by kernel_rfl) _ (by decide)
theorem enters_le1 : Enters P 42 := hP_of [42] (by kernel_rfl) _ (by decide)
theorem enters_de1 : Enters P 45 := hP_of [45] (by kernel_rfl) _ (by decide)
theorem nd_rd {b : Nat} {t : Nd} {I : Imm} {G : Heap} (h : (b, Obj.cells #[.int .u8 t.kind, .int .u8 t.oper, .int .u8 t.typ, .int .i64 t.n, .int .u8 t.field, .string t.name, .slice t.a t.kids.length t.c, .int .i64 t.pos] 28 (0, 0)) ∈ G) : Rd I G (⟨b, 0, none⟩ : Addr) t.enc := Rd.of_own h 0 fun j hj => by simp
theorem checkExpr_spec (t : Nd) (hs : t.px.size ≤ 1048576) (I : Imm) (F : Heap) (ht : NdOk I F t) : Tri P 11 #[t.v] I F (Ret (.int .i64 t.px.checkE) F) := by
  refine tree_CheckExpr.vc ?_
  unfold tree_CheckExpr.V
  intro b_n
  refine (caught_spec (n := t.px.checkE) fun b => TriV.fn enters_ce1 (by simp) (check1_spec hs (ht.cons.cons) (nd_rd (List.mem_cons_of_mem _ (List.mem_cons_self ..))))).mono fun e I1 G hI1 ⟨he, hG⟩ => ?_
  subst hG
  exact ⟨_, he, _, _, _, _, _, _, _, _, _, _, F, .refl _, rfl, rfl⟩
def Px.levelE (x : Px) : Int := if x.formed then x.level else 0
def Px.depthE (x : Px) : Int := if x.formed then x.depth else 0
theorem Level_spec (t : Nd) (hs : t.px.size ≤ 1048576) (I : Imm) (F : Heap) (ht : NdOk I F t) : Tri P 12 #[t.v] I F (Ret (.int .i64 t.px.levelE) F) := by
  refine tree_Level.vc ?_
  unfold tree_Level.V
  intro b_n
  refine (caught_spec (n := if t.px.formed then 0 else 120) fun b => TriV.fn enters_le1 (by simp) ((level1_spec hs (ht.cons.cons) (nd_rd (List.mem_cons_of_mem _ (List.mem_cons_self ..)))).mono fun e I' G _ ⟨he, hG⟩ => ⟨by rw [he]; cases t.px.formed <;> rfl, hG⟩)).mono fun e I1 G hI1 ⟨he, hG⟩ => ?_
  subst hG
  refine ⟨_, he, _, _, _, _, _, _, _, _, _, _, F, .refl _, fun h => ?_, fun h => Tri.ret (tlevel_spec t I1 _) fun I2 _ => ⟨_, rfl, F, .refl _, ?_⟩⟩
  · unfold Px.levelE
    cases hf : t.px.formed with
    | true => rw [hf] at h; simp at h
    | false => exact ⟨rfl, rfl⟩
  · unfold Px.levelE
    cases hf : t.px.formed with
    | true => exact ⟨rfl, rfl⟩
    | false => rw [hf] at h; simp at h
theorem Depth_spec (t : Nd) (hs : t.px.size ≤ 1048576) (I : Imm) (F : Heap) (ht : NdOk I F t) : Tri P 13 #[t.v] I F (Ret (.int .i64 t.px.depthE) F) := by
  refine tree_Depth.vc ?_
  unfold tree_Depth.V
  intro b_n
  refine (caught_spec (n := if t.px.formed then 0 else 120) fun b => TriV.fn enters_de1 (by simp) ((depth1_spec hs (ht.cons.cons) (nd_rd (List.mem_cons_of_mem _ (List.mem_cons_self ..)))).mono fun e I' G _ ⟨he, hG⟩ => ⟨by rw [he]; cases t.px.formed <;> rfl, hG⟩)).mono fun e I1 G hI1 ⟨he, hG⟩ => ?_
  subst hG
  have hf : ∀ (h : (((if t.px.formed = true then (0 : Int) else 120) != 0) = false)), t.px.formed = true := fun h => by
    cases hf : t.px.formed with
    | true => rfl
    | false => rw [hf] at h; simp at h
  refine ⟨_, he, _, _, _, _, _, _, _, _, _, _, F, .refl _, fun h => ?_, fun h => Tri.ret (tdepth_spec t hs (hf h) I1 _ (ht.mono hI1 fun _ h => h).cons) fun I2 _ => ⟨_, rfl, F, .refl _, ?_⟩⟩
  · unfold Px.depthE
    cases hf : t.px.formed with
    | true => rw [hf] at h; simp at h
    | false => exact ⟨rfl, rfl⟩
  · unfold Px.depthE
    rw [hf h]; exact ⟨rfl, rfl⟩
end Go.Lx
namespace Go.Lx
open Go.Vc
def shT_t3 : List (Nat × List Sh) := [(3, [.one (.int .i64)]), (4, [.one .bool]), (26, [.one .slc]), (28, [.agg [(.int .u8), (.int .u8), (.int .u8), (.int .i64), (.int .u8), .str, .slc, (.int .i64)]]), (30, [.one .fn]), (54, [.one .slc]), (74, [.one .fn]), (113, [.one .map])]
set_option maxRecDepth 100000 in
def tree_All.V (vb : Int → Value) (n_0 n_1 n_2 n_3 n_4 : Int) (n_5 : ByteArray) (n_6_a : Option Addr) (n_6_n n_6_c : Nat) (n_7 : Int) (I : Imm) (F : Heap) (Q : PostQ)  : Prop := ∀ b_n : Nat, Q (.returned (Value.func (.func 77) #[] #[Value.pointer (some (⟨b_n, 0, none⟩ : Addr))])) I (((b_n, Obj.cells #[vb n_0, vb n_1, vb n_2, Value.int .i64 n_3, vb n_4, Value.string n_5, Value.slice n_6_a n_6_n n_6_c, Value.int .i64 n_7] 28 (0, 0)) :: F))
set_option maxRecDepth 100000 in
theorem tree_All.vc {n_0 n_1 n_2 n_3 n_4 : Int} {n_5 : ByteArray} {n_6_a : Option Addr} {n_6_n n_6_c : Nat} {n_7 : Int} {I : Imm} {F : Heap} {Q : PostQ}  (h : tree_All.V (.int .u8) n_0 n_1 n_2 n_3 n_4 n_5 n_6_a n_6_n n_6_c n_7 I F Q) : Tri P 33 #[Value.agg #[Value.int .u8 n_0, Value.int .u8 n_1, Value.int .u8 n_2, Value.int .i64 n_3, Value.int .u8 n_4, Value.string n_5, Value.slice n_6_a n_6_n n_6_c, Value.int .i64 n_7]] I (F) Q :=
  tri_of_V (A := (annL [] [] [] shT_t3 [] [] [0] [] [] [] [])) (args := [.a (.v (Value.agg #[Value.int .u8 n_0, Value.int .u8 n_1, Value.int .u8 n_2, Value.int .i64 n_3, Value.int .u8 n_4, Value.string n_5, Value.slice n_6_a n_6_n n_6_c, Value.int .i64 n_7]))]) (own := []) (keep := []) [] Go.Proofs.Try.func33 h (by kernel_rfl) (by kernel_rfl) (by kernel_rfl) (by kernel_rfl) (by kernel_rfl) (by simp [AV.wf, At.wf]) (by simp [AV.wf, At.wf]) rfl
set_option maxRecDepth 100000 in
def tree_All_1.V (vb vi : Int → Value) (vp : Option Addr → Value) (yield : Fn) (yield_f yield_c : Array Value) (c : Addr) (I : Imm) (F : Heap) (Q : PostQ)  : Prop := ∀ b_yield : Nat, ∀ b_down : Nat, ∃ (cs : List Value) (el : Nat) (F1 : Heap), List.Perm ((b_down, Obj.cells #[Value.nilFunc] 30 (0, 0)) :: ((b_yield, Obj.cells #[Value.func yield yield_f yield_c] 30 (0, 0)) :: F)) (((⟨b_down, 0, none⟩ : Addr).block, Obj.cells cs.toArray el (0, 0)) :: F1) ∧ (⟨b_down, 0, none⟩ : Addr).spot = none ∧ (⟨b_down, 0, none⟩ : Addr).off + 1 ≤ cs.length ∧ ∃ (m : Fn) (m_f m_c : Array Value), Rd I ((((⟨b_down, 0, none⟩ : Addr).block, Obj.cells (splice (⟨b_down, 0, none⟩ : Addr).off [Value.func (.func 78) #[] #[vp (some (⟨b_yield, 0, none⟩ : Addr)), vp (some (⟨b_down, 0, none⟩ : Addr))]] cs).toArray el (0, 0)) :: F1)) (⟨b_down, 0, none⟩ : Addr) [Value.func m m_f m_c] ∧ ∃ (m_0 m_1 m_2 m_3 m_4 : Int) (m_5 : ByteArray) (m_6_a : Option Addr) (m_6_n m_6_c : Nat) (m_7 : Int), Rd I ((((⟨b_down, 0, none⟩ : Addr).block, Obj.cells (splice (⟨b_down, 0, none⟩ : Addr).off [Value.func (.func 78) #[] #[vp (some (⟨b_yield, 0, none⟩ : Addr)), vp (some (⟨b_down, 0, none⟩ : Addr))]] cs).toArray el (0, 0)) :: F1)) c [vb m_0, vb m_1, vb m_2, vi m_3, vb m_4, Value.string m_5, Value.slice m_6_a m_6_n m_6_c, vi m_7] ∧ TriV P (Value.func m m_f m_c) [Value.agg #[vb m_0, vb m_1, vb m_2, vi m_3, vb m_4, Value.string m_5, Value.slice m_6_a m_6_n m_6_c, vi m_7]] I ((((⟨b_down, 0, none⟩ : Addr).block, Obj.cells (splice (⟨b_down, 0, none⟩ : Addr).off [Value.func (.func 78) #[] #[vp (some (⟨b_yield, 0, none⟩ : Addr)), vp (some (⟨b_down, 0, none⟩ : Addr))]] cs).toArray el (0, 0)) :: F1)) fun e1 I1 G1 => ∃ (r : Bool), e1 = .returned (Value.bool r) ∧ ∃ F2 : Heap, List.Perm G1 (F2) ∧ Q (.returned (Value.tuple #[])) I1 (F2)
set_option maxRecDepth 100000 in
theorem tree_All_1.vc {yield : Fn} {yield_f yield_c : Array Value} {c : Addr} {I : Imm} {F : Heap} {Q : PostQ}  (h : tree_All_1.V (.int .u8) (.int .i64) .pointer yield yield_f yield_c c I F Q) : Tri P 77 #[Value.func yield yield_f yield_c, Value.pointer (some c)] I (F) Q :=
  tri_of_V (A := (annL [] [] [] shT_t3 [] [] [0, 1000] [] [3002] [] [])) (args := [.a (.v (Value.func yield yield_f yield_c)), .a (.v (Value.pointer (some c)))]) (own := []) (keep := []) [] Go.Proofs.Try.func77 h (by kernel_rfl) (by kernel_rfl) (by kernel_rfl) (by kernel_rfl) (by kernel_rfl) (by simp [AV.wf, At.wf]) (by simp [AV.wf, At.wf]) rfl
set_option maxRecDepth 100000 in
def tree_All_1_1.V (c_n : Nat → Nat × Obj) (nV : Int → Int → Int → Int → Int → ByteArray → Option Addr → Nat → Nat → Int → Value) (nL : Int → Int → Int → Int → Int → ByteArray → Option Addr → Nat → Nat → Int → List Value) (vb : Int → Value) (vt : Bool → Value) (n_0 n_1 n_2 n_3 n_4 : Int) (n_5 : ByteArray) (n_6_a : Option Addr) (n_6_n n_6_c : Nat) (n_7 : Int) (c c1 : Addr) (I : Imm) (F : Heap) (Q : PostQ) (Inv14 : Option Addr → Bool → Int → Nat → Imm → Heap → Imm → Heap → Prop) : Prop := ∀ b_n : Nat, ∃ (m : Fn) (m_f m_c : Array Value), Rd I (((c_n b_n) :: F)) c [Value.func m m_f m_c] ∧ ∃ (m_0 m_1 m_2 m_3 m_4 : Int) (m_5 : ByteArray) (m_6_a : Option Addr) (m_6_n m_6_c : Nat) (m_7 : Int), Rd I (((c_n b_n) :: F)) (⟨b_n, 0, none⟩ : Addr) (nL m_0 m_1 m_2 m_3 m_4 m_5 m_6_a m_6_n m_6_c m_7) ∧ TriV P (Value.func m m_f m_c) [nV m_0 m_1 m_2 m_3 m_4 m_5 m_6_a m_6_n m_6_c m_7] I (((c_n b_n) :: F)) fun e1 I1 G1 => ∃ (r : Bool), e1 = .returned (vt r) ∧ ∃ F1 : Heap, List.Perm G1 (F1) ∧ (((!r) = true → Q (.returned (vt false)) I1 (F1)) ∧ ((!r) = false → ∃ (m_a : Option Addr) (m_n m_c1 : Nat), Rd I1 (F1) ((⟨b_n, 0, none⟩ : Addr).add 6) [Value.slice m_a m_n m_c1] ∧ (∃ m1 : Nat, Inv14 (some (⟨b_n, 0, none⟩ : Addr)) false 0 m1 I1 F1 I1 F1) ∧ ∀ (x : Bool) (x1 : Int) (m2 : Nat) (I2 : Imm) (F2 : Heap), Imm.le I1 I2 → Inv14 (some (⟨b_n, 0, none⟩ : Addr)) x x1 m2 I1 F1 I2 F2 → ((decide (x1 < ((m_n : Nat) : Int)) = true → ((0 ≤ x1 ∧ x1 < (m_n : Int)) ∧ ∃ ad : Addr, m_a = some ad ∧ ∃ (m_01 m_11 m_21 m_31 m_41 : Int) (m_51 : ByteArray) (m_6_a1 : Option Addr) (m_6_n1 m_6_c1 : Nat) (m_71 : Int), Rd I2 (F2) (ad.add (Int.toNat (x1) * 8)) (nL m_01 m_11 m_21 m_31 m_41 m_51 m_6_a1 m_6_n1 m_6_c1 m_71) ∧ ∀ b_k : Nat, ∃ (cs : List Value) (el : Nat) (F3 : Heap), List.Perm ((b_k, Obj.cells #[vb 0, vb 0, vb 0, Value.int .i64 0, vb 0, Value.string (⟨#[]⟩ : ByteArray), Value.slice none 0 0, Value.int .i64 0] 28 (0, 0)) :: F2) (((⟨b_k, 0, none⟩ : Addr).block, Obj.cells cs.toArray el (0, 0)) :: F3) ∧ (⟨b_k, 0, none⟩ : Addr).spot = none ∧ (⟨b_k, 0, none⟩ : Addr).off + 8 ≤ cs.length ∧ ∃ (m3 : Fn) (m_f1 m_c2 : Array Value), Rd I2 ((((⟨b_k, 0, none⟩ : Addr).block, Obj.cells (splice (⟨b_k, 0, none⟩ : Addr).off (nL m_01 m_11 m_21 m_31 m_41 m_51 m_6_a1 m_6_n1 m_6_c1 m_71) cs).toArray el (0, 0)) :: F3)) c1 [Value.func m3 m_f1 m_c2] ∧ ∃ (m_02 m_12 m_22 m_32 m_42 : Int) (m_52 : ByteArray) (m_6_a2 : Option Addr) (m_6_n2 m_6_c2 : Nat) (m_72 : Int), Rd I2 ((((⟨b_k, 0, none⟩ : Addr).block, Obj.cells (splice (⟨b_k, 0, none⟩ : Addr).off (nL m_01 m_11 m_21 m_31 m_41 m_51 m_6_a1 m_6_n1 m_6_c1 m_71) cs).toArray el (0, 0)) :: F3)) (⟨b_k, 0, none⟩ : Addr) (nL m_02 m_12 m_22 m_32 m_42 m_52 m_6_a2 m_6_n2 m_6_c2 m_72) ∧ TriV P (Value.func m3 m_f1 m_c2) [nV m_02 m_12 m_22 m_32 m_42 m_52 m_6_a2 m_6_n2 m_6_c2 m_72] I2 ((((⟨b_k, 0, none⟩ : Addr).block, Obj.cells (splice (⟨b_k, 0, none⟩ : Addr).off (nL m_01 m_11 m_21 m_31 m_41 m_51 m_6_a1 m_6_n1 m_6_c1 m_71) cs).toArray el (0, 0)) :: F3)) fun e2 I3 G2 => ∃ (r1 : Bool), e2 = .returned (vt r1) ∧ ∃ F4 : Heap, List.Perm G2 (F4) ∧ (((!r1) = true → Q (.returned (vt false)) I3 (F4)) ∧ ((!r1) = false → (∃ m4 : Nat, m4 < m2 ∧ Inv14 (some (⟨b_n, 0, none⟩ : Addr)) x (IntKind.wrap .i64 (x1 + 1)) m4 I1 F1 I3 F4))))) ∧ (decide (x1 < ((m_n : Nat) : Int)) = false → Q (.returned (vt true)) I2 (F2)))))
set_option maxRecDepth 100000 in
theorem tree_All_1_1.vc {n_0 n_1 n_2 n_3 n_4 : Int} {n_5 : ByteArray} {n_6_a : Option Addr} {n_6_n n_6_c : Nat} {n_7 : Int} {c c1 : Addr} {I : Imm} {F : Heap} {Q : PostQ} (Inv14 : Option Addr → Bool → Int → Nat → Imm → Heap → Imm → Heap → Prop) (h : tree_All_1_1.V (fun b => (b, Obj.cells #[Value.int .u8 n_0, Value.int .u8 n_1, Value.int .u8 n_2, Value.int .i64 n_3, Value.int .u8 n_4, Value.string n_5, Value.slice n_6_a n_6_n n_6_c, Value.int .i64 n_7] 28 (0, 0))) (fun k o t n f s a l c q => .agg #[Value.int .u8 k, Value.int .u8 o, Value.int .u8 t, Value.int .i64 n, Value.int .u8 f, Value.string s, Value.slice a l c, Value.int .i64 q]) (fun k o t n f s a l c q => [Value.int .u8 k, Value.int .u8 o, Value.int .u8 t, Value.int .i64 n, Value.int .u8 f, Value.string s, Value.slice a l c, Value.int .i64 q]) (.int .u8) .bool n_0 n_1 n_2 n_3 n_4 n_5 n_6_a n_6_n n_6_c n_7 c c1 I F Q Inv14) : Tri P 78 #[Value.agg #[Value.int .u8 n_0, Value.int .u8 n_1, Value.int .u8 n_2, Value.int .i64 n_3, Value.int .u8 n_4, Value.string n_5, Value.slice n_6_a n_6_n n_6_c, Value.int .i64 n_7], Value.pointer (some c), Value.pointer (some c1)] I (F) Q :=
  tri_of_V (A := (annL [1003, 4000, 6003] [] [] shT_t3 [(14, ⟨[(4, .bool), (14, (.int .i64))], [], fun fs I0 F0 vs m I F => match fs, vs with | [.pointer y0], [.bool y1, .int _ y2] => Inv14 y0 y1 y2 m I0 F0 I F | _, _ => False, [3], []⟩)] [] [0, 5002] [] [1002, 6002] [] [])) (args := [.a (.v (Value.agg #[Value.int .u8 n_0, Value.int .u8 n_1, Value.int .u8 n_2, Value.int .i64 n_3, Value.int .u8 n_4, Value.string n_5, Value.slice n_6_a n_6_n n_6_c, Value.int .i64 n_7])), .a (.v (Value.pointer (some c))), .a (.v (Value.pointer (some c1)))]) (own := []) (keep := []) [] Go.Proofs.Try.func78 h (by kernel_rfl) (by kernel_rfl) (by kernel_rfl) (by kernel_rfl) (by kernel_rfl) (by simp [AV.wf, At.wf]) (by simp [AV.wf, At.wf]) rfl
set_option maxRecDepth 100000 in
def tree_Size.V (c_n c_many : Nat → Nat × Obj) (nV : Int → Int → Int → Int → Int → ByteArray → Option Addr → Nat → Nat → Int → Value) (vi : Int → Value) (n_0 n_1 n_2 n_3 n_4 : Int) (n_5 : ByteArray) (n_6_a : Option Addr) (n_6_n n_6_c : Nat) (n_7 : Int) (I : Imm) (F : Heap) (Q : PostQ)  : Prop := ∀ b_n : Nat, ∀ b_many : Nat, Tri P 33 (#[nV n_0 n_1 n_2 n_3 n_4 n_5 n_6_a n_6_n n_6_c n_7]) I ((c_n b_n) :: (c_many b_many) :: F) fun e1 I1 G1 => ∃ (r : Fn) (r_f r_c : Array Value), e1 = .returned (Value.func r r_f r_c) ∧ ∃ F1 : Heap, List.Perm G1 ((c_n b_n) :: (c_many b_many) :: F1) ∧ ∀ (Y : Fn) (L Lb : Heap) (Lx : Option Nat → Heap) (D : Nat), (∀ (x_0 x_1 x_2 x_3 x_4 : Int) (x_5 : ByteArray) (x_6_a : Option Addr) (x_6_n x_6_c : Nat) (x_7 b_many_v : Int) (I2 : Imm) (F2 : Heap) (Q1 : Ending → Imm → Heap → Prop), Imm.le I1 I2 → (∃ F3 : Heap, List.Perm (L ++ F2) (L ++ F3) ∧ ∃ F4 : Heap, List.Perm (Lb ++ F3) (Lb ++ F4) ∧ Q1 (.returned (.bool true)) I2 ((c_n b_n) :: (b_many, Obj.cells #[vi (IntKind.wrap .i64 (b_many_v + 1))] 3 (0, 0)) :: (L ++ F4))) → TriV P (Value.func Y #[] #[]) [nV x_0 x_1 x_2 x_3 x_4 x_5 x_6_a x_6_n x_6_c x_7] I2 ((c_n b_n) :: (b_many, Obj.cells #[vi b_many_v] 3 (0, 0)) :: (L ++ F2)) Q1) → TriC P (Value.func r r_f r_c) [Value.func Y #[] #[]] I1 ((c_n b_n) :: (c_many b_many) :: (L ++ F1)) fun e2 I3 G2 => ∃ r1 : Value, e2 = .returned r1 ∧ ((∃ (b_many_v1 : Int), ∃ F5 : Heap, List.Perm G2 ((c_n b_n) :: (b_many, Obj.cells #[vi b_many_v1] 3 (0, 0)) :: (L ++ F5)) ∧ ∃ F6 : Heap, List.Perm ((D, Obj.deferred (some [])) :: F5) ((D, Obj.deferred (some [])) :: F6) ∧ Q (.returned (vi b_many_v1)) I3 (F6)) ∨ False)
set_option maxRecDepth 100000 in
theorem tree_Size.vc {n_0 n_1 n_2 n_3 n_4 : Int} {n_5 : ByteArray} {n_6_a : Option Addr} {n_6_n n_6_c : Nat} {n_7 : Int} {I : Imm} {F : Heap} {Q : PostQ}  (h : tree_Size.V (fun b => (b, Obj.cells #[Value.int .u8 n_0, Value.int .u8 n_1, Value.int .u8 n_2, Value.int .i64 n_3, Value.int .u8 n_4, Value.string n_5, Value.slice n_6_a n_6_n n_6_c, Value.int .i64 n_7] 28 (0, 0))) (fun b => (b, Obj.cells #[Value.int .i64 0] 3 (0, 0))) (fun k o t n f s a l c q => .agg #[Value.int .u8 k, Value.int .u8 o, Value.int .u8 t, Value.int .i64 n, Value.int .u8 f, Value.string s, Value.slice a l c, Value.int .i64 q]) (.int .i64) n_0 n_1 n_2 n_3 n_4 n_5 n_6_a n_6_n n_6_c n_7 I F Q) : Tri P 14 #[Value.agg #[Value.int .u8 n_0, Value.int .u8 n_1, Value.int .u8 n_2, Value.int .i64 n_3, Value.int .u8 n_4, Value.string n_5, Value.slice n_6_a n_6_n n_6_c, Value.int .i64 n_7]] I (F) Q :=
  tri_of_V (A := (annL [] [] [33] shT_t3 [(8, ⟨[], [(1, [(.int .i64)])], fun _ _ _ _ _ _ _ => True, [], [.agg [(.int .u8), (.int .u8), (.int .u8), (.int .i64), (.int .u8), .str, .slc, (.int .i64)]]⟩)] [] [] [] [] [] [])) (args := [.a (.v (Value.agg #[Value.int .u8 n_0, Value.int .u8 n_1, Value.int .u8 n_2, Value.int .i64 n_3, Value.int .u8 n_4, Value.string n_5, Value.slice n_6_a n_6_n n_6_c, Value.int .i64 n_7]))]) (own := []) (keep := []) [33] Go.Proofs.Try.func14 h (by kernel_rfl) (by kernel_rfl) (by kernel_rfl) (by kernel_rfl) (by kernel_rfl) (by simp [AV.wf, At.wf]) (by simp [AV.wf, At.wf]) rfl
set_option maxRecDepth 100000 in
def tree_Reads.V (c_n c_l c_m : Nat → Nat × Obj) (nV : Int → Int → Int → Int → Int → ByteArray → Option Addr → Nat → Nat → Int → Value) (nO : Int → Int → Int → Int → Int → ByteArray → Option Addr → Nat → Nat → Int → Obj) (vi vu16 : Int → Value) (vs : ByteArray → Value) (vl : Option Addr → Nat → Nat → Value) (n_0 n_1 n_2 n_3 n_4 : Int) (n_5 : ByteArray) (n_6_a : Option Addr) (n_6_n n_6_c : Nat) (n_7 : Int) (I : Imm) (F : Heap) (Q : PostQ)  : Prop := ∀ b_n : Nat, ∀ b_m : Nat, ∀ b_l : Nat, TriE P (Instr.makeMap 113 none) I ((c_n b_n) :: (c_m b_m) :: (c_l b_l) :: F) fun v I1 G1 => ∃ (r : Option Nat), v = Value.map r ∧ ∃ F1 : Heap, List.Perm G1 ((c_n b_n) :: (c_m b_m) :: (c_l b_l) :: F1) ∧ ∀ b_met : Nat, Tri P 33 (#[nV n_0 n_1 n_2 n_3 n_4 n_5 n_6_a n_6_n n_6_c n_7]) I1 ((c_n b_n) :: (c_m b_m) :: (c_l b_l) :: (b_met, Obj.cells #[Value.map r] 113 (0, 0)) :: F1) fun e1 I2 G2 => ∃ (r1 : Fn) (r_f r_c : Array Value), e1 = .returned (Value.func r1 r_f r_c) ∧ ∃ F2 : Heap, List.Perm G2 ((c_n b_n) :: (c_m b_m) :: (c_l b_l) :: (b_met, Obj.cells #[Value.map r] 113 (0, 0)) :: F2) ∧ ∀ (Y : Fn) (L Lb : Heap) (Lx : Option Nat → Heap) (D : Nat), (∀ (x_0 x_1 x_2 x_3 x_4 : Int) (x_5 : ByteArray) (x_6_a : Option Addr) (x_6_n x_6_c : Nat) (x_7 b_m_v : Int) (b_l_v_a : Option Addr) (b_l_v_n b_l_v_c : Nat) (I3 : Imm) (F3 : Heap) (Q1 : Ending → Imm → Heap → Prop), Imm.le I2 I3 → (∀ b_x : Nat, ∃ F4 : Heap, List.Perm (L ++ F3) (L ++ F4) ∧ (((x_0 == 3) = true → ((decide (x_4 < 16) = true → ((0 ≤ x_4) ∧ ∃ F5 : Heap, List.Perm (Lb ++ F4) (Lb ++ F5) ∧ Q1 (.returned (.bool true)) I3 ((c_n b_n) :: (b_m, Obj.cells #[vu16 (IntKind.wrap .u16 (BitVec.toNat ((BitVec.ofInt 16 b_m_v) ||| (BitVec.ofInt 16 (IntKind.wrap .u16 (1 * 2 ^ (min (Int.toNat x_4) 16))))) : Int))] 53 (0, 0)) :: (b_l, Obj.cells #[vl b_l_v_a b_l_v_n b_l_v_c] 54 (0, 0)) :: (b_met, Obj.cells #[Value.map r] 113 (0, 0)) :: (L ++ F5)))) ∧ (decide (x_4 < 16) = false → ∃ F6 : Heap, List.Perm (Lb ++ F4) (Lb ++ F6) ∧ Q1 (.returned (.bool true)) I3 ((c_n b_n) :: (b_m, Obj.cells #[vu16 b_m_v] 53 (0, 0)) :: (b_l, Obj.cells #[vl b_l_v_a b_l_v_n b_l_v_c] 54 (0, 0)) :: (b_met, Obj.cells #[Value.map r] 113 (0, 0)) :: (L ++ F6))))) ∧ ((x_0 == 3) = false → (((x_0 == 4) = true → ((decide (x_4 < 16) = true → ((0 ≤ x_4) ∧ ∃ F7 : Heap, List.Perm (Lb ++ F4) (Lb ++ F7) ∧ Q1 (.returned (.bool true)) I3 ((c_n b_n) :: (b_m, Obj.cells #[vu16 (IntKind.wrap .u16 (BitVec.toNat ((BitVec.ofInt 16 b_m_v) ||| (BitVec.ofInt 16 (IntKind.wrap .u16 (1 * 2 ^ (min (Int.toNat x_4) 16))))) : Int))] 53 (0, 0)) :: (b_l, Obj.cells #[vl b_l_v_a b_l_v_n b_l_v_c] 54 (0, 0)) :: (b_met, Obj.cells #[Value.map r] 113 (0, 0)) :: (L ++ F7)))) ∧ (decide (x_4 < 16) = false → ∃ F8 : Heap, List.Perm (Lb ++ F4) (Lb ++ F8) ∧ Q1 (.returned (.bool true)) I3 ((c_n b_n) :: (b_m, Obj.cells #[vu16 b_m_v] 53 (0, 0)) :: (b_l, Obj.cells #[vl b_l_v_a b_l_v_n b_l_v_c] 54 (0, 0)) :: (b_met, Obj.cells #[Value.map r] 113 (0, 0)) :: (L ++ F8))))) ∧ ((x_0 == 4) = false → (((x_0 == 2) = true → TriE P (Instr.lookup 113 (Value.map r) (vs x_5) false) I3 ((c_n b_n) :: (b_m, Obj.cells #[vu16 b_m_v] 53 (0, 0)) :: (b_l, Obj.cells #[vl b_l_v_a b_l_v_n b_l_v_c] 54 (0, 0)) :: (b_met, Obj.cells #[Value.map r] 113 (0, 0)) :: (b_x, nO x_0 x_1 x_2 x_3 x_4 x_5 x_6_a x_6_n x_6_c x_7) :: (Lb ++ F4)) fun v1 I4 G3 => ∃ (r2 : Int), v1 = vi r2 ∧ ∃ F9 : Heap, List.Perm G3 ((c_n b_n) :: (b_m, Obj.cells #[vu16 b_m_v] 53 (0, 0)) :: (b_l, Obj.cells #[vl b_l_v_a b_l_v_n b_l_v_c] 54 (0, 0)) :: (b_met, Obj.cells #[Value.map r] 113 (0, 0)) :: (b_x, nO x_0 x_1 x_2 x_3 x_4 x_5 x_6_a x_6_n x_6_c x_7) :: F9) ∧ (((r2 == 0) = true → ∀ (b : Nat) (I5 : Imm), Imm.le I4 I5 → I5 b = some (Obj.cells #[vs x_5] 9 (0, 0)) → TriE P (Builtin.append_ #[54, 54] 54 #[vl b_l_v_a b_l_v_n b_l_v_c, vl (some ⟨b, 0, none⟩) 1 1]) I5 ((c_n b_n) :: (b_m, Obj.cells #[vu16 b_m_v] 53 (0, 0)) :: (b_l, Obj.cells #[vl b_l_v_a b_l_v_n b_l_v_c] 54 (0, 0)) :: (b_met, Obj.cells #[Value.map r] 113 (0, 0)) :: (b_x, nO x_0 x_1 x_2 x_3 x_4 x_5 x_6_a x_6_n x_6_c x_7) :: F9) fun v2 I6 G4 => ∃ (r_a : Option Addr) (r_n r_c1 : Nat), v2 = vl r_a r_n r_c1 ∧ ∃ F10 : Heap, List.Perm G4 ((c_n b_n) :: (b_m, Obj.cells #[vu16 b_m_v] 53 (0, 0)) :: (b_l, Obj.cells #[vl b_l_v_a b_l_v_n b_l_v_c] 54 (0, 0)) :: (b_met, Obj.cells #[Value.map r] 113 (0, 0)) :: (b_x, nO x_0 x_1 x_2 x_3 x_4 x_5 x_6_a x_6_n x_6_c x_7) :: F10) ∧ TriE P (Instr.lookup 113 (Value.map r) (vs x_5) false) I6 ((c_n b_n) :: (b_m, Obj.cells #[vu16 b_m_v] 53 (0, 0)) :: (b_l, Obj.cells #[vl r_a r_n r_c1] 54 (0, 0)) :: (b_met, Obj.cells #[Value.map r] 113 (0, 0)) :: (b_x, nO x_0 x_1 x_2 x_3 x_4 x_5 x_6_a x_6_n x_6_c x_7) :: F10) fun v3 I7 G5 => ∃ (r3 : Int), v3 = vi r3 ∧ ∃ F11 : Heap, List.Perm G5 ((c_n b_n) :: (b_m, Obj.cells #[vu16 b_m_v] 53 (0, 0)) :: (b_l, Obj.cells #[vl r_a r_n r_c1] 54 (0, 0)) :: (b_met, Obj.cells #[Value.map r] 113 (0, 0)) :: (b_x, nO x_0 x_1 x_2 x_3 x_4 x_5 x_6_a x_6_n x_6_c x_7) :: F11) ∧ TriU P (Instr.mapUpdate 113 (Value.map r) (vs x_5) (vi (IntKind.wrap .i64 (r3 + 1)))) I7 ((c_n b_n) :: (b_m, Obj.cells #[vu16 b_m_v] 53 (0, 0)) :: (b_l, Obj.cells #[vl r_a r_n r_c1] 54 (0, 0)) :: (b_met, Obj.cells #[Value.map r] 113 (0, 0)) :: (b_x, nO x_0 x_1 x_2 x_3 x_4 x_5 x_6_a x_6_n x_6_c x_7) :: F11) fun I8 G6 => ∃ F12 : Heap, List.Perm G6 ((c_n b_n) :: (b_m, Obj.cells #[vu16 b_m_v] 53 (0, 0)) :: (b_l, Obj.cells #[vl r_a r_n r_c1] 54 (0, 0)) :: (b_met, Obj.cells #[Value.map r] 113 (0, 0)) :: (b_x, nO x_0 x_1 x_2 x_3 x_4 x_5 x_6_a x_6_n x_6_c x_7) :: F12) ∧ ∃ F13 : Heap, List.Perm F12 (Lb ++ F13) ∧ Q1 (.returned (.bool true)) I8 ((c_n b_n) :: (b_m, Obj.cells #[vu16 b_m_v] 53 (0, 0)) :: (b_l, Obj.cells #[vl r_a r_n r_c1] 54 (0, 0)) :: (b_met, Obj.cells #[Value.map r] 113 (0, 0)) :: (L ++ F13))) ∧ ((r2 == 0) = false → TriE P (Instr.lookup 113 (Value.map r) (vs x_5) false) I4 ((c_n b_n) :: (b_m, Obj.cells #[vu16 b_m_v] 53 (0, 0)) :: (b_l, Obj.cells #[vl b_l_v_a b_l_v_n b_l_v_c] 54 (0, 0)) :: (b_met, Obj.cells #[Value.map r] 113 (0, 0)) :: (b_x, nO x_0 x_1 x_2 x_3 x_4 x_5 x_6_a x_6_n x_6_c x_7) :: F9) fun v4 I9 G7 => ∃ (r4 : Int), v4 = vi r4 ∧ ∃ F14 : Heap, List.Perm G7 ((c_n b_n) :: (b_m, Obj.cells #[vu16 b_m_v] 53 (0, 0)) :: (b_l, Obj.cells #[vl b_l_v_a b_l_v_n b_l_v_c] 54 (0, 0)) :: (b_met, Obj.cells #[Value.map r] 113 (0, 0)) :: (b_x, nO x_0 x_1 x_2 x_3 x_4 x_5 x_6_a x_6_n x_6_c x_7) :: F14) ∧ TriU P (Instr.mapUpdate 113 (Value.map r) (vs x_5) (vi (IntKind.wrap .i64 (r4 + 1)))) I9 ((c_n b_n) :: (b_m, Obj.cells #[vu16 b_m_v] 53 (0, 0)) :: (b_l, Obj.cells #[vl b_l_v_a b_l_v_n b_l_v_c] 54 (0, 0)) :: (b_met, Obj.cells #[Value.map r] 113 (0, 0)) :: (b_x, nO x_0 x_1 x_2 x_3 x_4 x_5 x_6_a x_6_n x_6_c x_7) :: F14) fun I10 G8 => ∃ F15 : Heap, List.Perm G8 ((c_n b_n) :: (b_m, Obj.cells #[vu16 b_m_v] 53 (0, 0)) :: (b_l, Obj.cells #[vl b_l_v_a b_l_v_n b_l_v_c] 54 (0, 0)) :: (b_met, Obj.cells #[Value.map r] 113 (0, 0)) :: (b_x, nO x_0 x_1 x_2 x_3 x_4 x_5 x_6_a x_6_n x_6_c x_7) :: F15) ∧ ∃ F16 : Heap, List.Perm F15 (Lb ++ F16) ∧ Q1 (.returned (.bool true)) I10 ((c_n b_n) :: (b_m, Obj.cells #[vu16 b_m_v] 53 (0, 0)) :: (b_l, Obj.cells #[vl b_l_v_a b_l_v_n b_l_v_c] 54 (0, 0)) :: (b_met, Obj.cells #[Value.map r] 113 (0, 0)) :: (L ++ F16))))) ∧ ((x_0 == 2) = false → ∃ F17 : Heap, List.Perm (Lb ++ F4) (Lb ++ F17) ∧ Q1 (.returned (.bool true)) I3 ((c_n b_n) :: (b_m, Obj.cells #[vu16 b_m_v] 53 (0, 0)) :: (b_l, Obj.cells #[vl b_l_v_a b_l_v_n b_l_v_c] 54 (0, 0)) :: (b_met, Obj.cells #[Value.map r] 113 (0, 0)) :: (L ++ F17))))))))) → TriV P (Value.func Y #[] #[]) [nV x_0 x_1 x_2 x_3 x_4 x_5 x_6_a x_6_n x_6_c x_7] I3 ((c_n b_n) :: (b_m, Obj.cells #[vu16 b_m_v] 53 (0, 0)) :: (b_l, Obj.cells #[vl b_l_v_a b_l_v_n b_l_v_c] 54 (0, 0)) :: (b_met, Obj.cells #[Value.map r] 113 (0, 0)) :: (L ++ F3)) Q1) → TriC P (Value.func r1 r_f r_c) [Value.func Y #[] #[]] I2 ((c_n b_n) :: (c_m b_m) :: (c_l b_l) :: (b_met, Obj.cells #[Value.map r] 113 (0, 0)) :: (L ++ F2)) fun e2 I11 G9 => ∃ r5 : Value, e2 = .returned r5 ∧ ((∃ (b_m_v1 : Int) (b_l_v_a1 : Option Addr) (b_l_v_n1 b_l_v_c1 : Nat), ∃ F18 : Heap, List.Perm G9 ((c_n b_n) :: (b_m, Obj.cells #[vu16 b_m_v1] 53 (0, 0)) :: (b_l, Obj.cells #[vl b_l_v_a1 b_l_v_n1 b_l_v_c1] 54 (0, 0)) :: (b_met, Obj.cells #[Value.map r] 113 (0, 0)) :: (L ++ F18)) ∧ ∃ F19 : Heap, List.Perm ((D, Obj.deferred (some [])) :: F18) ((D, Obj.deferred (some [])) :: F19) ∧ Q (.returned (Value.tuple #[vu16 b_m_v1, vl b_l_v_a1 b_l_v_n1 b_l_v_c1])) I11 (F19)) ∨ False)
set_option maxRecDepth 100000 in
theorem tree_Reads.vc {n_0 n_1 n_2 n_3 n_4 : Int} {n_5 : ByteArray} {n_6_a : Option Addr} {n_6_n n_6_c : Nat} {n_7 : Int} {I : Imm} {F : Heap} {Q : PostQ}  (h : tree_Reads.V (fun b => (b, Obj.cells #[Value.int .u8 n_0, Value.int .u8 n_1, Value.int .u8 n_2, Value.int .i64 n_3, Value.int .u8 n_4, Value.string n_5, Value.slice n_6_a n_6_n n_6_c, Value.int .i64 n_7] 28 (0, 0))) (fun b => (b, Obj.cells #[Value.slice none 0 0] 54 (0, 0))) (fun b => (b, Obj.cells #[Value.int .u16 0] 53 (0, 0))) (fun k o t n f s a l c q => .agg #[Value.int .u8 k, Value.int .u8 o, Value.int .u8 t, Value.int .i64 n, Value.int .u8 f, Value.string s, Value.slice a l c, Value.int .i64 q]) (fun k o t n f s a l c q => .cells #[Value.int .u8 k, Value.int .u8 o, Value.int .u8 t, Value.int .i64 n, Value.int .u8 f, Value.string s, Value.slice a l c, Value.int .i64 q] 28 (0, 0)) (.int .i64) (.int .u16) .string .slice n_0 n_1 n_2 n_3 n_4 n_5 n_6_a n_6_n n_6_c n_7 I F Q) : Tri P 27 #[Value.agg #[Value.int .u8 n_0, Value.int .u8 n_1, Value.int .u8 n_2, Value.int .i64 n_3, Value.int .u8 n_4, Value.string n_5, Value.slice n_6_a n_6_n n_6_c, Value.int .i64 n_7]] I (F) Q :=
  tri_of_V (A := (annL [7000, 8000, 9002, 11000, 12004] [] [33] shT_t3 [(12, ⟨[], [(1, [(.int .u16)]), (2, [.slc])], fun _ _ _ _ _ _ _ => True, [], [.agg [(.int .u8), (.int .u8), (.int .u8), (.int .i64), (.int .u8), .str, .slc, (.int .i64)]]⟩)] [13003] [] [] [] [] [])) (args := [.a (.v (Value.agg #[Value.int .u8 n_0, Value.int .u8 n_1, Value.int .u8 n_2, Value.int .i64 n_3, Value.int .u8 n_4, Value.string n_5, Value.slice n_6_a n_6_n n_6_c, Value.int .i64 n_7]))]) (own := []) (keep := []) [33] Go.Proofs.Try.func27 h (by kernel_rfl) (by kernel_rfl) (by kernel_rfl) (by kernel_rfl) (by kernel_rfl) (by simp [AV.wf, At.wf]) (by simp [AV.wf, At.wf]) rfl
end Go.Lx
namespace Go.Lx
open Go.Vc
theorem enters_down : Enters P 78 := hP_of [78] (by kernel_rfl) _ (by decide)
theorem enters_all1 : Enters P 77 := hP_of [77] (by kernel_rfl) _ (by decide)
theorem Rd.one {b : Nat} {o : Obj} {I : Imm} {G : Heap} {cells : Array Value} {e : Nat} (h : I b = some (.cells cells e (0, 0)) ∨ (b, Obj.cells cells e (0, 0)) ∈ G) (i : Nat) {v : Value} (hv : cells[i]? = some v) : Rd I G (⟨b, i, none⟩ : Addr) [v] :=
  ⟨rfl, cells, e, (0, 0), h, fun j hj => by
    have : j = 0 := by simpa using hj
    subst this
    rw [Nat.add_zero, hv]; rfl⟩
def Went (S : Nat → Imm → Heap → Prop) (X : Imm → Heap → Prop) (k : Nat) (e : Ending) (I : Imm) (G : Heap) : Prop := (e = .returned (.bool true) ∧ S k I G) ∨ (e = .returned (.bool false) ∧ X I G)
theorem down_spec {xs : List Nd} {y : Fn} {ya yb : Array Value} {cY cD : Addr} {S : Nat → Imm → Heap → Prop} {X : Imm → Heap → Prop} {I1 : Imm} (hcY : ∀ J G, Imm.le I1 J → Rd J G cY [.func y ya yb])
    (hcD : ∀ J G, Imm.le I1 J → Rd J G cD [.func (.func 78) #[] #[.pointer (some cY), .pointer (some cD)]])
    (hS : ∀ k I2 I3 F F', S k I2 F → Imm.le I2 I3 → F.Perm F' → S k I3 F') (hX : ∀ I2 I3 F F', X I2 F → Imm.le I2 I3 → F.Perm F' → X I3 F')
    (hround : ∀ k x I2 F2, xs[k]? = some x → Imm.le I1 I2 → S k I2 F2 → TriV P (.func y ya yb) [x.v] I2 F2 (Went S X (k + 1))) :
    ∀ t : Nd, t.px.size ≤ 1048576 → (∀ k I2 F2, Imm.le I1 I2 → S k I2 F2 → NdOk I2 F2 t) → ∀ k, (∀ j x, t.nodes[j]? = some x → xs[k + j]? = some x) → ∀ I2 F2, Imm.le I1 I2 → S k I2 F2 →
      Tri P 78 #[t.v, .pointer (some cY), .pointer (some cD)] I2 F2 (Went S X (k + t.nodes.length)) := by
  refine Nd.ind fun t ih hs hread k hxs I2 F2 hI2 hS2 => ?_
  have hln := size_len hs
  refine tree_All_1_1.vc (fun bn x i m I0 F0 I' F' => 0 ≤ i ∧ i ≤ t.kids.length ∧ m = (t.kids.length - i).toNat ∧ S (k + 1 + (Nd.nodesL (t.kids.take i.toNat)).length) I' F') ?_
  unfold tree_All_1_1.V
  intro b_n
  have ht0 : t.nodes[0]? = some t := by rw [Nd.nodes_eq]; rfl
  refine ⟨y, ya, yb, hcY _ _ hI2, _, _, _, _, _, _, _, _, _, _, nd_rd (List.mem_cons_self ..), TriV.promote fun hp => (hround k t _ F2 (by simpa using hxs 0 t ht0) (Imm.le_trans hI2 hp) (hS _ _ _ _ _ hS2 hp (.refl _))).mono fun e I3 G hI3 hq => ?_⟩
  have hb3 := hI3.at (Imm.put_same I2 b_n (.cells t.enc.toArray 28 (0, 0)))
  have hl3 := Imm.le_trans hI2 (Imm.le_trans hp hI3)
  rcases hq with ⟨he, hq⟩ | ⟨he, hq⟩
  · refine ⟨true, he, G, .refl _, fun h => by (cases h), fun _ => ⟨t.a, t.kids.length, t.c, ?_, ⟨_, by omega, by omega, rfl, hq⟩, fun x i m I4 F4 hI4 ⟨g0, g1, gm, gS⟩ => ⟨fun hlt => ?_, fun hlt => .inl ⟨rfl, ?_⟩⟩⟩⟩
    · rw [add_lit0]; exact Rd.one (o := default) (.inl hb3) 6 rfl
    · have hlt := of_decide_eq_true hlt
      have hl4 := Imm.le_trans hl3 hI4
      have ht4 := hread _ _ _ hl4 gS
      obtain ⟨ad, z, had, hz, hrd, hzo, hzm⟩ := ht4.kids.at g0 hlt
      refine ⟨⟨g0, hlt⟩, ad, had, _, _, _, _, _, _, _, _, _, _, hrd, fun b_k => ⟨_, _, F4, .refl _, rfl, (by decide : 0 + 8 ≤ 8), _, _, _, hcD _ _ hl4, _, _, _, _, _, _, _, _, _, _, nd_rd (t := z) (List.mem_cons_self ..), ?_⟩⟩
      refine TriV.promote (b := b_k) (o := .cells z.enc.toArray 28 (0, 0)) fun hp4 => TriV.fn enters_down (vs := #[z.v, .pointer (some cY), .pointer (some cD)]) (by simp) ?_
      have hzn : ∀ j u, z.nodes[j]? = some u → xs[k + 1 + (Nd.nodesL (t.kids.take i.toNat)).length + j]? = some u := fun j u hu => by
        have h1 : t.nodes[1 + ((Nd.nodesL (t.kids.take i.toNat)).length + j)]? = some u := by
          rw [Nd.nodes_eq, Nat.add_comm 1, List.getElem?_cons_succ]
          have h2 : Nd.nodesL t.kids = Nd.nodesL (t.kids.take i.toNat) ++ (z.nodes ++ Nd.nodesL (t.kids.drop (i.toNat + 1))) := by
            conv => lhs; rw [← List.take_append_drop (i.toNat + 1) t.kids, nodesL_app, nodesL_take hz, List.append_assoc]
          rw [h2, List.getElem?_append_right (by omega), Nat.add_sub_cancel_left, List.getElem?_append_left (List.getElem?_eq_some_iff.1 hu).1]; exact hu
        have := hxs _ _ h1
        rw [← this]; congr 1; omega
      refine (ih z hzm (size_kid hzm hs) (fun k' I' F' hl' hS' => (hread k' I' F' hl' hS').kid z hzm) _ hzn _ F4 (Imm.le_trans hl4 hp4) (hS _ _ _ _ _ gS hp4 (.refl _))).mono fun e2 I5 G5 hI5 hq5 => ?_
      rcases hq5 with ⟨he5, hq5⟩ | ⟨he5, hq5⟩
      · refine ⟨true, he5, G5, .refl _, fun h => by (cases h), fun _ => ⟨(t.kids.length - (i + 1)).toNat, by omega, ?_⟩⟩
        rw [w64 (n := i + 1) (by omega)]
        refine ⟨by omega, by omega, rfl, ?_⟩
        rw [show (i + 1).toNat = i.toNat + 1 by omega, nodesL_take hz, List.length_append, ← Nat.add_assoc]; exact hq5
      · exact ⟨false, he5, G5, .refl _, fun _ => .inr ⟨rfl, hq5⟩, fun h => by (cases h)⟩
    · have hlt := of_decide_eq_false hlt
      rw [List.take_of_length_le (by omega)] at gS
      rw [Nd.nodes_eq, List.length_cons, Nat.add_comm (Nd.nodesL t.kids).length, ← Nat.add_assoc]; exact gS
  · exact ⟨false, he, G, .refl _, fun _ => .inr ⟨rfl, hq⟩, fun h => by (cases h)⟩
theorem tAll_spec (t : Nd) (I : Imm) (F : Heap) : Tri P 33 #[t.v] I F fun e I' G => ∃ b, e = .returned (.func (.func 77) #[] #[.pointer (some ⟨b, 0, none⟩)]) ∧ I' b = some (.cells t.enc.toArray 28 (0, 0)) ∧ G = F := by
  refine Tri.keep (Q := fun e I' G => ∃ b, e = .returned (.func (.func 77) #[] #[.pointer (some ⟨b, 0, none⟩)]) ∧ G = (b, Obj.cells #[.int .u8 t.kind, .int .u8 t.oper, .int .u8 t.typ, .int .i64 t.n, .int .u8 t.field, .string t.name, .slice t.a t.kids.length t.c, .int .i64 t.pos] 28 (0, 0)) :: F) (tree_All.vc fun b => ⟨b, rfl, rfl⟩) fun e I' G w hl hs ⟨b, he, hG⟩ => ?_
  subst hG
  obtain ⟨h1, h2⟩ := hs.promote
  exact ⟨_, _, h1, h2, b, he, Imm.put_same _ _ _, rfl⟩
def IterN (P : Program) (v : Value) (I : Imm) (t : Nd) : Prop :=
  ∀ (y : Fn) (ya yb : Array Value) (S : Nat → Imm → Heap → Prop) (X : Imm → Heap → Prop) (I1 : Imm) (F1 : Heap), Imm.le I I1 →
    (∀ k I2 I3 F F', S k I2 F → Imm.le I2 I3 → F.Perm F' → S k I3 F') → (∀ I2 I3 F F', X I2 F → Imm.le I2 I3 → F.Perm F' → X I3 F') → (∀ k I2 F2, Imm.le I1 I2 → S k I2 F2 → NdOk I2 F2 t) →
    (∀ k x I2 F2, t.nodes[k]? = some x → Imm.le I1 I2 → S k I2 F2 → TriV P (.func y ya yb) [x.v] I2 F2 (Went S X (k + 1))) →
    S 0 I1 F1 → TriC P v [.func y ya yb] I1 F1 fun e I2 G => ∃ r, e = .returned r ∧ (S t.nodes.length I2 G ∨ X I2 G)
theorem tAll_iter {t : Nd} (hs : t.px.size ≤ 1048576) {I : Imm} {b : Nat} (hb : I b = some (.cells t.enc.toArray 28 (0, 0))) : IterN P (.func (.func 77) #[] #[.pointer (some ⟨b, 0, none⟩)]) I t := by
  intro y ya yb S X I1 F1 hI1 hS hX hread hround h0
  intro w hw
  refine ⟨77, #[], #[.pointer (some ⟨b, 0, none⟩)], rfl, enters_all1, ?_⟩
  have hb1 := hI1.at hb
  revert w
  refine tree_All_1.vc ?_
  unfold tree_All_1.V
  intro b_yield b_down
  refine ⟨_, _, _, .refl _, rfl, (by decide : 0 + 1 ≤ 1), .func 78, #[], #[.pointer (some ⟨b_yield, 0, none⟩), .pointer (some ⟨b_down, 0, none⟩)], Rd.one (o := default) (.inr (List.mem_cons_self ..)) 0 rfl, _, _, _, _, _, _, _, _, _, _, Rd.of_imm (cs := t.enc) hb1 _ 0 fun j hj => by simp, ?_⟩
  refine TriV.promote (b := b_down) (o := .cells #[.func (.func 78) #[] #[.pointer (some ⟨b_yield, 0, none⟩), .pointer (some ⟨b_down, 0, none⟩)]] 30 (0, 0)) fun hp1 => ?_
  refine TriV.promote (b := b_yield) (o := .cells #[.func y ya yb] 30 (0, 0)) fun hp2 => TriV.fn enters_down (vs := #[t.v, .pointer (some ⟨b_yield, 0, none⟩), .pointer (some ⟨b_down, 0, none⟩)]) (by simp) ?_
  have hl := Imm.le_trans hp1 hp2
  have hd := hp2.at (Imm.put_same I1 b_down (.cells #[.func (.func 78) #[] #[.pointer (some ⟨b_yield, 0, none⟩), .pointer (some ⟨b_down, 0, none⟩)]] 30 (0, 0)))
  have hy := Imm.put_same (I1.put b_down (.cells #[.func (.func 78) #[] #[.pointer (some ⟨b_yield, 0, none⟩), .pointer (some ⟨b_down, 0, none⟩)]] 30 (0, 0))) b_yield (.cells #[.func y ya yb] 30 (0, 0))
  refine (down_spec (xs := t.nodes) (y := y) (ya := ya) (yb := yb) (cY := ⟨b_yield, 0, none⟩) (cD := ⟨b_down, 0, none⟩) (S := S) (X := X) (fun J G hJ => Rd.one (o := default) (.inl (hJ.at hy)) 0 rfl) (fun J G hJ => Rd.one (o := default) (.inl (hJ.at hd)) 0 rfl) hS hX
    (fun k x I2 F2 hx hle hk => hround k x I2 F2 hx (Imm.le_trans hl hle) hk) t hs (fun k I2 F2 hle hk => hread k I2 F2 (Imm.le_trans hl hle) hk) 0 (fun j x hx => by rw [Nat.zero_add]; exact hx) _ F1 (Imm.le_refl _) (hS _ _ _ _ _ h0 hl (.refl _))).mono fun e I3 G hI3 hq => ?_
  rw [Nat.zero_add] at hq
  rcases hq with ⟨he, hq⟩ | ⟨he, hq⟩
  · exact ⟨true, he, G, .refl _, _, rfl, .inl hq⟩
  · exact ⟨false, he, G, .refl _, _, rfl, .inr hq⟩
end Go.Lx
namespace Go.Vc
open Go.MapKept
def MapG {κ β : Type} (key : κ → Value) (val : β → Value) (g : κ → Option β) (es : Array MapEntry) (clock : Nat) : Prop :=
  Stamped es clock ∧ (∀ x ∈ es.toList, ∃ k b, x.key = key k ∧ x.val = val b ∧ g k = some b) ∧ (∀ k b, g k = some b → ∃ x ∈ es.toList, x.key = key k)
theorem MapG.nil {κ β : Type} {key : κ → Value} {val : β → Value} (c : Nat) : MapG key val (fun _ => none) #[] c := ⟨stamped_empty c, by simp, fun k b h => by cases h⟩
theorem MapG.congr {κ β : Type} {key : κ → Value} {val : β → Value} {g g' : κ → Option β} {es : Array MapEntry} {clock : Nat} (h : MapG key val g es clock) (e : ∀ k, g k = g' k) : MapG key val g' es clock := by
  rw [← funext e]; exact h
theorem nodup_ne {α : Type} : ∀ {l : List α} {i j : Nat} {x : α}, l.Nodup → i < j → l[i]? = some x → l[j]? = some x → False
  | [], _, _, _, _, _, h, _ => by simp at h
  | y :: l, 0, j + 1, x, hn, _, h1, h2 => by
    simp only [List.getElem?_cons_zero, Option.some.injEq] at h1
    subst h1
    exact (List.nodup_cons.1 hn).1 (List.mem_of_getElem? (by simpa using h2))
  | y :: l, i + 1, j + 1, x, hn, hl, h1, h2 => nodup_ne (l := l) (x := x) (i := i) (j := j) (List.nodup_cons.1 hn).2 (by omega) (by simpa using h1) (by simpa using h2)
def putG {κ β : Type} [DecidableEq κ] (g : κ → Option β) (k : κ) (b : β) : κ → Option β := fun j => if j = k then some b else g j
section
variable {P : Program} {κ β : Type} {d : TypeDesc} {key : κ → Value} {val : β → Value} {g : κ → Option β} {es : Array MapEntry} {clock : Nat} {t kt et : TypeId} {I : Imm} {F : Heap} {r : Nat} {k : κ} {z : Value}
theorem MapG.find (hk : ∀ k, IsKey d (key k)) (hi : ∀ k k', key k = key k' → k = k') (h : MapG key val g es clock) (k : κ) :
    (Instr.findNow d (key k) es.toList 0 = some none ∧ (∀ x ∈ es.toList, x.key ≠ key k) ∧ g k = none) ∨
    ∃ j e b, Instr.findNow d (key k) es.toList 0 = some (some (j, val b)) ∧ es[j]? = some e ∧ e.key = key k ∧ e.val = val b ∧ g k = some b := by
  obtain ⟨hs, h1, h2⟩ := h
  have hks : ∀ x ∈ es.toList, IsKey d x.key := fun x hx => by obtain ⟨k', b, e, _⟩ := h1 x hx; rw [e]; exact hk k'
  rcases findNow_spec (hk k) es.toList 0 hks with ⟨g1, g2⟩ | ⟨j, e, g1, g2, g3⟩
  · refine .inl ⟨g1, g2, ?_⟩
    cases hg : g k with
    | none => rfl
    | some b => obtain ⟨x, hx, e⟩ := h2 k b hg; exact absurd e (g2 x hx)
  · obtain ⟨k', b, e1, e2, e3⟩ := h1 e (List.mem_of_getElem? g2)
    obtain rfl : k' = k := hi _ _ (e1.symm.trans g3)
    refine .inr ⟨j, e, b, ?_, by simpa using g2, g3, e2, e3⟩
    rw [g1, e2, Nat.zero_add]
theorem run_zero {et : TypeId} {z : Value} (hz : (P.info? et).map (·.zero) = some (some z)) (w : World) : (zeroValue et).run P w = .ok z w := by
  cases h : P.info? et with
  | none => rw [h] at hz; cases hz
  | some i =>
    rw [h] at hz
    simp only [Option.map_some, Option.some.injEq] at hz
    simp [zeroValue, typeInfo, h, hz, Result.andThen]
theorem map_at (hm : I r = some (.map es clock) ∨ (r, Obj.map es clock) ∈ F) {w : World} (hw : Sat I F w) : w.heap[r]? = some (.map es clock) := hm.elim (hw.imm _ _) (hw.own _ _)
theorem lookup_one (ht : P.underlying t = some (.map kt et)) (hd : P.underlying kt = some d) (hk : ∀ k, IsKey d (key k)) (hi : ∀ k k', key k = key k' → k = k') (hz : (P.info? et).map (·.zero) = some (some z))
    (h : MapG key val g es clock) (hm : I r = some (.map es clock) ∨ (r, Obj.map es clock) ∈ F) (k : κ) :
    TriE P (Instr.lookup t (.map (some r)) (key k) false) I F fun v I' G => v = (g k).elim z val ∧ I' = I ∧ G = F := by
  intro w hw
  have hb := map_at hm hw
  rcases h.find hk hi k with ⟨h1, _, hg⟩ | ⟨j, e, b, h1, _, _, _, hg⟩
  · refine ⟨_, w, I, F, ?_, Imm.le_refl I, hw, rfl, rfl, rfl⟩
    simp [Instr.lookup, run_underlying ht, MapKept.run_getObj_map hb, run_checkKey hd (hk k), run_findKey hd h1, run_zero hz, Result.andThen, hg]
  · refine ⟨_, w, I, F, ?_, Imm.le_refl I, hw, rfl, rfl, rfl⟩
    simp [Instr.lookup, run_underlying ht, MapKept.run_getObj_map hb, run_checkKey hd (hk k), run_findKey hd h1, Result.andThen, hg]
theorem makeMap_spec : TriE P (Instr.makeMap t none) I F fun v I' G => ∃ b, v = .map (some b) ∧ I' = I ∧ G = (b, Obj.map #[] 0) :: F := by
  intro w hw
  exact ⟨_, _, I, _, rfl, Imm.le_refl I, hw.alloc _, _, rfl, rfl, rfl⟩
variable [DecidableEq κ]
theorem MapG.push (hi : ∀ k k', key k = key k' → k = k') (h : MapG key val g es clock) (hno : ∀ x ∈ es.toList, x.key ≠ key k) (b : β) : MapG key val (putG g k b) (es.push { key := key k, val := val b, born := clock }) (clock + 1) := by
  obtain ⟨hs, h1, h2⟩ := h
  refine ⟨stamped_push hs hno, fun x hx => ?_, fun k' b' hg => ?_⟩
  · simp only [Array.toList_push, List.mem_append, List.mem_singleton] at hx
    rcases hx with hx | rfl
    · obtain ⟨k', b', e1, e2, e3⟩ := h1 x hx
      refine ⟨k', b', e1, e2, ?_⟩
      unfold putG; rw [if_neg]
      · exact e3
      · intro e; subst e; exact hno x hx e1
    · exact ⟨k, b, rfl, rfl, if_pos rfl⟩
  · unfold putG at hg
    by_cases e : k' = k
    · subst e; exact ⟨_, by simp; exact .inr rfl, rfl⟩
    · rw [if_neg e] at hg
      obtain ⟨x, hx, e⟩ := h2 k' b' hg
      exact ⟨x, by simp only [Array.toList_push, List.mem_append]; exact .inl hx, e⟩
theorem MapG.modify (hi : ∀ k k', key k = key k' → k = k') (h : MapG key val g es clock) {j : Nat} {e : MapEntry} (hj : es[j]? = some e) (he : e.key = key k) (b : β) {f : MapEntry → MapEntry} (hf : ∀ x, (f x).born = x.born)
    (hfk : ∀ x, x.key = key k → (f x).key = key k) (hv : ∀ x, (f x).val = val b) : MapG key val (putG g k b) (es.modify j f) clock := by
  obtain ⟨hs, h1, h2⟩ := h
  have hkey : ∀ e', es[j]? = some e' → (f e').key = e'.key := fun e' he' => by rw [hj] at he'; cases he'; rw [hfk _ he, he]
  refine ⟨stamped_modify hs _ _ (fun x _ => hf x) fun x _ hx => hkey x hx, fun x hx => ?_, fun k' b' hg => ?_⟩
  · obtain ⟨i, hx'⟩ := List.mem_iff_getElem?.1 hx
    simp only [Array.getElem?_toList, Array.getElem?_modify] at hx'
    by_cases hij : j = i
    · subst hij
      rw [if_pos rfl, hj] at hx'
      simp only [Option.map_some, Option.some.injEq] at hx'
      subst hx'
      exact ⟨k, b, hfk _ he, hv _, if_pos rfl⟩
    · rw [if_neg hij] at hx'
      obtain ⟨k', b', e1, e2, e3⟩ := h1 x (List.mem_of_getElem? (by simpa using hx'))
      refine ⟨k', b', e1, e2, ?_⟩
      unfold putG; rw [if_neg]
      · exact e3
      · intro ek; subst ek
        have hnd := hs.2.2
        have : i < es.size := (Array.getElem?_eq_some_iff.1 hx').1
        have : j < es.size := (Array.getElem?_eq_some_iff.1 hj).1
        rcases Nat.lt_or_gt_of_ne hij with hlt | hlt
        · exact nodup_ne hnd hlt (by simp [hj]; exact he) (by simp [hx']; exact e1)
        · exact nodup_ne hnd hlt (by simp [hx']; exact e1) (by simp [hj]; exact he)
  · have hk' : key k' ∈ es.toList.map (·.key) := by
      by_cases e' : k' = k
      · subst e'; exact List.mem_map.2 ⟨e, List.mem_of_getElem? (by simpa using hj), he⟩
      · unfold putG at hg
        rw [if_neg e'] at hg
        obtain ⟨x, hx, ex⟩ := h2 k' b' hg
        exact List.mem_map.2 ⟨x, hx, ex⟩
    rw [← modify_keys j f hkey] at hk'
    obtain ⟨x, hx, ex⟩ := List.mem_map.1 hk'
    exact ⟨x, hx, ex⟩
theorem update_spec (ht : P.underlying t = some (.map kt et)) (hd : P.underlying kt = some d) (hk : ∀ k, IsKey d (key k)) (hi : ∀ k k', key k = key k' → k = k') (h : MapG key val g es clock) (k : κ) (b : β) :
    TriU P (Instr.mapUpdate t (.map (some r)) (key k) (val b)) I ((r, Obj.map es clock) :: F) fun I' G => I' = I ∧ ∃ es' c', G = (r, Obj.map es' c') :: F ∧ MapG key val (putG g k b) es' c' := by
  intro w hw
  have hb : w.heap[r]? = some (.map es clock) := hw.own _ _ (List.mem_cons_self ..)
  rcases h.find hk hi k with ⟨h1, h2, hg⟩ | ⟨j, e, b', h1, h2, h3, h4, hg⟩
  · refine ⟨_, I, _, ?_, Imm.le_refl I, hw.set (w' := { w with heap := w.heap.setIfInBounds r (.map (es.push { key := key k, val := val b, born := clock }) (clock + 1)) }) rfl ⟨rfl, rfl⟩, rfl, _, _, rfl, h.push hi h2 b⟩
    simp [Instr.mapUpdate, run_underlying ht, MapKept.run_getObj_map hb, run_checkKey hd (hk k), run_findKey hd h1, run_setObj_map _ hb, Result.andThen]
  · refine ⟨_, I, _, ?_, Imm.le_refl I, hw.set (w' := { w with heap := w.heap.setIfInBounds r (.map (es.modify j fun e => { e with key := key k, val := val b }) clock) }) rfl ⟨rfl, rfl⟩, rfl, _, _, rfl, h.modify hi h2 h3 b (fun _ => rfl) (fun _ _ => rfl) (fun _ => rfl)⟩
    simp [Instr.mapUpdate, run_underlying ht, MapKept.run_getObj_map hb, run_checkKey hd (hk k), run_findKey hd h1, h2, h3, run_keyThatStays (hk k), run_setObj_map _ hb, Result.andThen]
end
end Go.Vc
namespace Go.Vc
theorem TriU.perm {P : Program} {s : Sem Unit} {I : Imm} {F G : Heap} {Q : Imm → Heap → Prop} (h : TriU P s I F Q) (p : G.Perm F) : TriU P s I G Q := fun w hw => h w (hw.perm p)
theorem TriU.mono {P : Program} {s : Sem Unit} {I : Imm} {F : Heap} {Q Q' : Imm → Heap → Prop} (h : TriU P s I F Q) (k : ∀ I' F', Imm.le I I' → Q I' F' → Q' I' F') : TriU P s I F Q' :=
  fun w hw => let ⟨w', I', F', hr, hl, hs, hq⟩ := h w hw; ⟨w', I', F', hr, hl, hs, k _ _ hl hq⟩
theorem str_key : ∀ s : ByteArray, MapKept.IsKey .string (Value.string s) := fun _ => trivial
theorem str_inj : ∀ s t : ByteArray, Value.string s = Value.string t → s = t := fun _ _ h => by cases h; rfl
end Go.Vc
namespace Go.Lx
open Go.Vc
theorem tSize_spec (t : Nd) (hs : t.px.size ≤ 1048576) (I : Imm) (F : Heap) (ht : NdOk I F t) : Tri P 14 #[t.v] I F (Ret (.int .i64 t.px.size) F) := by
  refine tree_Size.vc ?_
  unfold tree_Size.V
  intro b_n b_many
  have hlen := nodes_len t
  refine (tAll_spec t I _).mono fun e I1 G hI1 ⟨b, he, hb, hG⟩ => ?_
  subst hG
  refine ⟨_, _, _, he, F, .refl _, ?_⟩
  intro Y L Lb Lx D hTr
  refine (tAll_iter hs hb Y #[] #[] (fun k I' G => G.Perm ((b_n, Obj.cells #[.int .u8 t.kind, .int .u8 t.oper, .int .u8 t.typ, .int .i64 t.n, .int .u8 t.field, .string t.name, .slice t.a t.kids.length t.c, .int .i64 t.pos] 28 (0, 0)) :: (b_many, .cells #[.int .i64 (k : Int)] 3 (0, 0)) :: (L ++ F))) (fun _ _ => False) I1 _ (Imm.le_refl _) (fun k I2 I3 F' F'' hp _ hp' => hp'.symm.trans hp) (fun _ _ _ _ h => h.elim) ?_ ?_ (.refl _)).mono ?_
  · exact fun k I2 F2 hle hp => ht.mono (Imm.le_trans hI1 hle) fun x hx => hp.mem_iff.2 (List.mem_cons_of_mem _ (List.mem_cons_of_mem _ (List.mem_append_right _ hx)))
  · intro k x I2 F2 hk hle hp
    have hlt := (List.getElem?_eq_some_iff.1 hk).1
    refine TriV.perm (hTr x.kind x.oper x.typ x.n x.field x.name x.a x.kids.length x.c x.pos k I2 F _ hle ⟨F, .refl _, F, .refl _, .inl ⟨rfl, ?_⟩⟩) hp
    have : IntKind.wrap .i64 ((k : Int) + 1) = ((k + 1 : Nat) : Int) := by rw [w64 (by omega)]; omega
    rw [this]
  · intro e I6 G hI6 ⟨r, he, hq⟩
    rcases hq with hp | hq
    · exact ⟨r, he, .inl ⟨_, F, hp, F, .refl _, by rw [hlen], rfl⟩⟩
    · exact hq.elim
end Go.Lx
namespace Go.Lx
open Go.Vc
def Met (l : List ByteArray) (k : Nat) (g : ByteArray → Option Int) : Prop := ∀ s, (hasS l s = true → ∃ m, g s = some m ∧ 1 ≤ m ∧ m ≤ k) ∧ (hasS l s = false → g s = none)
theorem Met.nil : Met [] 0 fun _ => none := fun s => ⟨fun h => by simp [hasS] at h, fun _ => rfl⟩
theorem Met.mono {l : List ByteArray} {k : Nat} {g : ByteArray → Option Int} (h : Met l k g) : Met l (k + 1) g := fun s => ⟨fun hs => let ⟨m, h1, h2, h3⟩ := (h s).1 hs; ⟨m, h1, h2, by omega⟩, (h s).2⟩
theorem Met.new {l : List ByteArray} {k : Nat} {g : ByteArray → Option Int} (h : Met l k g) {s : ByteArray} : Met (l ++ [s]) (k + 1) (putG g s 1) := fun t => by
  have e : hasS (l ++ [s]) t = (hasS l t || decide (s = t)) := by unfold hasS; rw [List.any_append]; simp
  rw [e]
  unfold putG
  by_cases hts : t = s
  · subst hts; rw [if_pos rfl]; exact ⟨fun _ => ⟨1, rfl, by omega, by omega⟩, fun h => by simp at h⟩
  · rw [if_neg hts]
    have : decide (s = t) = false := decide_eq_false fun e => hts e.symm
    rw [this, Bool.or_false]; exact h.mono t
theorem Met.more {l : List ByteArray} {k : Nat} {g : ByteArray → Option Int} (h : Met l k g) {s : ByteArray} {m : Int} (hs : hasS l s = true) (h1 : 1 ≤ m) (h2 : m ≤ k) : Met l (k + 1) (putG g s (m + 1)) := fun t => by
  unfold putG
  by_cases hts : t = s
  · subst hts; rw [if_pos rfl]; exact ⟨fun _ => ⟨_, rfl, by omega, by omega⟩, fun h => by rw [hs] at h; cases h⟩
  · rw [if_neg hts]; exact h.mono t
theorem tReads_spec (t : Nd) (hs : t.px.size ≤ 1048576) (hw : t.px.Wf) (I : Imm) (F : Heap) (ht : NdOk I F t) :
    Tri P 27 #[t.v] I F fun e I' G => ∃ a n c A, e = .returned (.tuple #[.int .u16 (masks t.px.nodes), .slice a n c]) ∧ Acc 1 encS 9 a n c (namesOf t.px.nodes) A ∧ G = A ++ F := by
  refine Tri.keep (Q := fun e I' G => ∃ a n c A R, e = .returned (.tuple #[.int .u16 (masks t.px.nodes), .slice a n c]) ∧ Acc 1 encS 9 a n c (namesOf t.px.nodes) A ∧ G.Perm (R ++ (A ++ F))) ?_ fun e I' G w hl hsat ⟨a, n, c, A, R, he, hA, hp⟩ => ⟨I', A ++ F, Imm.le_refl _, (hsat.perm hp).drop, a, n, c, A, he, hA, rfl⟩
  refine tree_Reads.vc ?_
  unfold tree_Reads.V
  intro b_n b_m b_l
  have hlen := nodes_len t
  have htm : P.underlying 113 = some (.map 9 3) := by kernel_rfl
  have hts : P.underlying 9 = some .string := by kernel_rfl
  have hti : (P.info? 3).map (·.zero) = some (some (.int .i64 0)) := by kernel_rfl
  refine TriE.mono makeMap_spec fun v I1 G hI1 ⟨r, hv, hI, hG⟩ => ?_
  subst hG hI
  refine ⟨some r, hv, (r, .map #[] 0) :: F, (perm_of fun z => by simp only [cn_app, cn_cons, cn_nil]; omega), fun b_met => ?_⟩
  refine (tAll_spec t I1 _).mono fun e I2 G hI2 ⟨b, he, hb, hG⟩ => ?_
  subst hG
  refine ⟨_, _, _, he, (r, .map #[] 0) :: F, .refl _, ?_⟩
  intro Y L Lb Lx D hTr
  refine (tAll_iter hs hb Y #[] #[] (fun k I' G => ∃ a n c A g es cl, G.Perm ((b_n, Obj.cells #[.int .u8 t.kind, .int .u8 t.oper, .int .u8 t.typ, .int .i64 t.n, .int .u8 t.field, .string t.name, .slice t.a t.kids.length t.c, .int .i64 t.pos] 28 (0, 0)) :: (b_m, Obj.cells #[.int .u16 (masks ((t.nodes.take k).map Nd.px))] 53 (0, 0)) :: (b_l, Obj.cells #[.slice a n c] 54 (0, 0)) :: (b_met, Obj.cells #[.map (some r)] 113 (0, 0)) :: (L ++ (A ++ ((r, .map es cl) :: F)))) ∧ Acc 1 encS 9 a n c (namesOf ((t.nodes.take k).map Nd.px)) A ∧
    MapG Value.string (Value.int .i64) g es cl ∧ Met (namesOf ((t.nodes.take k).map Nd.px)) k g) (fun _ _ => False) I2 _ (Imm.le_refl _) (fun k I2 I3 F' F'' ⟨a, n, c, A, g, es, cl, hp, hq⟩ _ hp' => ⟨a, n, c, A, g, es, cl, hp'.symm.trans hp, hq⟩) (fun _ _ _ _ h => h.elim) ?_ ?_ ⟨none, 0, 0, [], _, _, _, .refl _, Acc.nil, MapG.nil 0, Met.nil⟩).mono ?_
  · exact fun k I3 F3 hle ⟨a, n, c, A, g, es, cl, hp, _⟩ => ht.mono (Imm.le_trans hI2 hle) fun x hx => hp.mem_iff.2 (by simp only [List.mem_cons, List.mem_append]; exact .inr (.inr (.inr (.inr (.inr (.inr (.inr hx)))))))
  · intro k x I3 F3 hk hle ⟨a, n, c, A, g, es, cl, hp, hA, hM, hmet⟩
    have hlt := (List.getElem?_eq_some_iff.1 hk).1
    have hfit := Wf.nd hw x (List.mem_of_getElem? hk)
    have hf0 : 0 ≤ x.field := by have := hfit.2.2.2.2.1.1; rwa [Nd.px_field] at this
    have hnl := names_len ((t.nodes.take k).map Nd.px)
    rw [List.length_map, List.length_take] at hnl
    have hmk := mask_take hk
    have hnk := names_take hk
    unfold rdMask at hmk
    unfold rdNames at hnk
    rw [Nd.px_kind, Nd.px_field] at hmk
    rw [Nd.px_kind, Nd.px_name] at hnk
    refine TriV.perm (hTr x.kind x.oper x.typ x.n x.field x.name x.a x.kids.length x.c x.pos (masks ((t.nodes.take k).map Nd.px)) a n c I3 (A ++ ((r, .map es cl) :: F)) _ hle ?_) hp
    intro b_x
    have fin : ∀ m1 : Int, x.kind ≠ 2 → m1 = masks ((t.nodes.take (k + 1)).map Nd.px) → Went (fun k I' G => ∃ a n c A g es cl, G.Perm ((b_n, Obj.cells #[.int .u8 t.kind, .int .u8 t.oper, .int .u8 t.typ, .int .i64 t.n, .int .u8 t.field, .string t.name, .slice t.a t.kids.length t.c, .int .i64 t.pos] 28 (0, 0)) :: (b_m, Obj.cells #[.int .u16 (masks ((t.nodes.take k).map Nd.px))] 53 (0, 0)) :: (b_l, Obj.cells #[.slice a n c] 54 (0, 0)) :: (b_met, Obj.cells #[.map (some r)] 113 (0, 0)) :: (L ++ (A ++ ((r, .map es cl) :: F)))) ∧ Acc 1 encS 9 a n c (namesOf ((t.nodes.take k).map Nd.px)) A ∧
        MapG Value.string (Value.int .i64) g es cl ∧ Met (namesOf ((t.nodes.take k).map Nd.px)) k g) (fun _ _ => False) (k + 1) (.returned (.bool true)) I3 ((b_n, Obj.cells #[.int .u8 t.kind, .int .u8 t.oper, .int .u8 t.typ, .int .i64 t.n, .int .u8 t.field, .string t.name, .slice t.a t.kids.length t.c, .int .i64 t.pos] 28 (0, 0)) :: (b_m, Obj.cells #[.int .u16 (m1)] 53 (0, 0)) :: (b_l, Obj.cells #[.slice a n c] 54 (0, 0)) :: (b_met, Obj.cells #[.map (some r)] 113 (0, 0)) :: (L ++ (A ++ ((r, .map es cl) :: F)))) := fun m1 hk2 hm1 => by
      refine .inl ⟨rfl, a, n, c, A, g, es, cl, by rw [hm1], ?_⟩
      rw [if_neg (fun h => hk2 h.1)] at hnk
      rw [hnk]; exact ⟨hA, hM, hmet.mono⟩
    refine ⟨A ++ ((r, .map es cl) :: F), .refl _, fun h3 => ⟨fun h16 => ⟨hf0, _, .refl _, fin _ ?_ ?_⟩, fun h16 => ⟨_, .refl _, fin _ ?_ ?_⟩⟩, fun h3 => ⟨fun h4 => ⟨fun h16 => ⟨hf0, _, .refl _, fin _ ?_ ?_⟩, fun h16 => ⟨_, .refl _, fin _ ?_ ?_⟩⟩, fun h4 => ⟨fun h2 => ?_, fun h2 => ⟨_, .refl _, fin _ ?_ ?_⟩⟩⟩⟩
    all_goals (try have h16 := of_decide_eq_true h16)
    all_goals (try have h16 := of_decide_eq_false h16)
    all_goals (simp only [beq_iff_eq, beq_eq_false_iff_ne] at h3)
    all_goals (try simp only [beq_iff_eq, beq_eq_false_iff_ne] at h4)
    all_goals (try simp only [beq_iff_eq, beq_eq_false_iff_ne] at h2)
    all_goals first
      | omega
      | (rw [hmk]; split <;> first | rfl | (exfalso; omega))
      | skip
    have hmk' : masks ((t.nodes.take (k + 1)).map Nd.px) = masks ((t.nodes.take k).map Nd.px) := by rw [hmk, if_neg (by omega)]
    refine TriE.mono (lookup_one htm hts str_key str_inj hti hM (.inr (by simp)) x.name) fun v1 I4 G4 hI4 ⟨hv1, hI, hG⟩ => ?_
    subst hI hG
    by_cases hin : hasS (namesOf ((t.nodes.take k).map Nd.px)) x.name = true
    · obtain ⟨m, hg, hm1, hm2⟩ := (hmet x.name).1 hin
      rw [hg] at hv1
      refine ⟨m, hv1, Lb ++ (A ++ ((r, .map es cl) :: F)), .refl _, fun h => ?_, fun _ => ?_⟩
      · have : m = 0 := by simpa using h
        omega
      refine TriE.mono (lookup_one htm hts str_key str_inj hti hM (.inr (by simp)) x.name) fun v2 I5 G5 hI5 ⟨hv2, hI, hG⟩ => ?_
      subst hI hG
      rw [hg] at hv2
      refine ⟨m, hv2, Lb ++ (A ++ ((r, .map es cl) :: F)), .refl _, ?_⟩
      have hw1 : IntKind.wrap .i64 (m + 1) = m + 1 := w64 (by omega)
      rw [hw1]
      refine TriU.perm (TriU.mono (update_spec htm hts str_key str_inj hM x.name (m + 1) (F := (b_n, Obj.cells #[.int .u8 t.kind, .int .u8 t.oper, .int .u8 t.typ, .int .i64 t.n, .int .u8 t.field, .string t.name, .slice t.a t.kids.length t.c, .int .i64 t.pos] 28 (0, 0)) :: (b_m, Obj.cells #[.int .u16 (masks ((t.nodes.take k).map Nd.px))] 53 (0, 0)) :: (b_l, Obj.cells #[.slice a n c] 54 (0, 0)) :: (b_met, Obj.cells #[.map (some r)] 113 (0, 0)) :: (b_x, Obj.cells #[.int .u8 x.kind, .int .u8 x.oper, .int .u8 x.typ, .int .i64 x.n, .int .u8 x.field, .string x.name, .slice x.a x.kids.length x.c, .int .i64 x.pos] 28 (0, 0)) :: (Lb ++ (A ++ F)))) fun I6 G6 hI6 ⟨hI, es', cl', hG, hM'⟩ => ?_) (perm_of fun z => by simp only [cn_app, cn_cons, cn_nil]; omega)
      subst hI hG
      refine ⟨Lb ++ (A ++ ((r, .map es' cl') :: F)), (perm_of fun z => by simp only [cn_app, cn_cons, cn_nil]; omega), A ++ ((r, .map es' cl') :: F), .refl _, .inl ⟨rfl, a, n, c, A, _, es', cl', by rw [hmk'], ?_, hM', ?_⟩⟩
      · rw [hnk, if_neg (fun h => by rw [hin] at h; cases h.2)]; exact hA
      · rw [hnk, if_neg (fun h => by rw [hin] at h; cases h.2)]; exact hmet.more hin hm1 hm2
    · have hin : hasS (namesOf ((t.nodes.take k).map Nd.px)) x.name = false := by simpa using hin
      have hg := (hmet x.name).2 hin
      rw [hg] at hv1
      refine ⟨0, hv1, Lb ++ (A ++ ((r, .map es cl) :: F)), .refl _, fun _ => ?_, fun h => by (cases h)⟩
      intro b I5 hI5 hb5
      refine TriE.perm (TriE.mono (append_str hA (by omega) x.name rfl hb5 (F := (b_n, Obj.cells #[.int .u8 t.kind, .int .u8 t.oper, .int .u8 t.typ, .int .i64 t.n, .int .u8 t.field, .string t.name, .slice t.a t.kids.length t.c, .int .i64 t.pos] 28 (0, 0)) :: (b_m, Obj.cells #[.int .u16 (masks ((t.nodes.take k).map Nd.px))] 53 (0, 0)) :: (b_l, Obj.cells #[.slice a n c] 54 (0, 0)) :: (b_met, Obj.cells #[.map (some r)] 113 (0, 0)) :: (b_x, Obj.cells #[.int .u8 x.kind, .int .u8 x.oper, .int .u8 x.typ, .int .i64 x.n, .int .u8 x.field, .string x.name, .slice x.a x.kids.length x.c, .int .i64 x.pos] 28 (0, 0)) :: (Lb ++ ((r, .map es cl) :: F)))) fun v3 I6 G6 hI6 ⟨a', n', c', A', hv3, hA', hG⟩ => ?_) (perm_of fun z => by simp only [cn_app, cn_cons, cn_nil]; omega)
      subst hG
      refine ⟨a', n', c', hv3, Lb ++ (A' ++ ((r, .map es cl) :: F)), (perm_of fun z => by simp only [cn_app, cn_cons, cn_nil]; omega), ?_⟩
      refine TriE.mono (lookup_one htm hts str_key str_inj hti hM (.inr (by simp)) x.name) fun v2 I7 G7 hI7 ⟨hv2, hI, hG⟩ => ?_
      subst hI hG
      rw [hg] at hv2
      refine ⟨0, hv2, Lb ++ (A' ++ ((r, .map es cl) :: F)), .refl _, ?_⟩
      refine TriU.perm (TriU.mono (update_spec htm hts str_key str_inj hM x.name (1 : Int) (F := (b_n, Obj.cells #[.int .u8 t.kind, .int .u8 t.oper, .int .u8 t.typ, .int .i64 t.n, .int .u8 t.field, .string t.name, .slice t.a t.kids.length t.c, .int .i64 t.pos] 28 (0, 0)) :: (b_m, Obj.cells #[.int .u16 (masks ((t.nodes.take k).map Nd.px))] 53 (0, 0)) :: (b_l, Obj.cells #[.slice a' n' c'] 54 (0, 0)) :: (b_met, Obj.cells #[.map (some r)] 113 (0, 0)) :: (b_x, Obj.cells #[.int .u8 x.kind, .int .u8 x.oper, .int .u8 x.typ, .int .i64 x.n, .int .u8 x.field, .string x.name, .slice x.a x.kids.length x.c, .int .i64 x.pos] 28 (0, 0)) :: (Lb ++ (A' ++ F)))) fun I8 G8 hI8 ⟨hI, es', cl', hG, hM'⟩ => ?_) (perm_of fun z => by simp only [cn_app, cn_cons, cn_nil]; omega)
      subst hI hG
      refine ⟨Lb ++ (A' ++ ((r, .map es' cl') :: F)), (perm_of fun z => by simp only [cn_app, cn_cons, cn_nil]; omega), A' ++ ((r, .map es' cl') :: F), .refl _, .inl ⟨rfl, a', n', c', A', _, es', cl', by rw [hmk'], ?_, hM', ?_⟩⟩
      · rw [hnk, if_pos ⟨h2, hin⟩]; exact hA'
      · rw [hnk, if_pos ⟨h2, hin⟩]; exact hmet.new
  · intro e I6 G hI6 ⟨r1, he, hq⟩
    rcases hq with ⟨a, n, c, A, g, es, cl, hp, hA, _⟩ | hq
    · rw [List.take_length, nodes_px] at hp hA
      exact ⟨r1, he, .inl ⟨_, a, n, c, A ++ ((r, .map es cl) :: F), hp, A ++ ((r, .map es cl) :: F), .refl _, a, n, c, A, [(r, .map es cl)], rfl, hA, (perm_of fun z => by simp only [cn_app, cn_cons, cn_nil]; omega)⟩⟩
    · exact hq.elim
end Go.Lx
namespace Go.Lx
open Go.Vc
structure RegP where
  name : ByteArray
  typ : Int
  init : Px
  pos : Int
structure SlotP where
  name : ByteArray
  pos : Int
structure DoP where
  kind : Int
  order : Int
  name : ByteArray
  side : Px
  qty : Px
  price : Px
  value : Px
  pos : Int
structure RuleP where
  when : Px
  dos : List DoP
  pos : Int
structure StateP where
  name : ByteArray
  rules : List RuleP
  pos : Int
structure StgP where
  name : ByteArray
  regs : List RegP
  slots : List SlotP
  states : List StateP
structure RegN where
  name : ByteArray
  typ : Int
  init : Nd
  pos : Int
structure DoN where
  kind : Int
  order : Int
  name : ByteArray
  side : Nd
  qty : Nd
  price : Nd
  value : Nd
  pos : Int
structure RuleN where
  when : Nd
  a : Option Addr
  c : Nat
  dos : List DoN
  pos : Int
structure StateN where
  name : ByteArray
  a : Option Addr
  c : Nat
  rules : List RuleN
  pos : Int
structure StgN where
  name : ByteArray
  ra : Option Addr
  rc : Nat
  regs : List RegN
  sa : Option Addr
  sc : Nat
  slots : List SlotP
  ta : Option Addr
  tc : Nat
  states : List StateN
def RegN.p (r : RegN) : RegP := ⟨r.name, r.typ, r.init.px, r.pos⟩
def DoN.p (d : DoN) : DoP := ⟨d.kind, d.order, d.name, d.side.px, d.qty.px, d.price.px, d.value.px, d.pos⟩
def RuleN.p (r : RuleN) : RuleP := ⟨r.when.px, r.dos.map DoN.p, r.pos⟩
def StateN.p (s : StateN) : StateP := ⟨s.name, s.rules.map RuleN.p, s.pos⟩
def StgN.p (s : StgN) : StgP := ⟨s.name, s.regs.map RegN.p, s.slots, s.states.map StateN.p⟩
abbrev RegN.enc (r : RegN) : List Value := [.string r.name, .int .u8 r.typ, .int .u8 r.init.kind, .int .u8 r.init.oper, .int .u8 r.init.typ, .int .i64 r.init.n, .int .u8 r.init.field, .string r.init.name, .slice r.init.a r.init.kids.length r.init.c, .int .i64 r.init.pos, .int .i64 r.pos]
abbrev SlotP.enc (r : SlotP) : List Value := [.string r.name, .int .i64 r.pos]
abbrev DoN.enc (d : DoN) : List Value := [.int .u8 d.kind, .int .u8 d.order, .string d.name, .int .u8 d.side.kind, .int .u8 d.side.oper, .int .u8 d.side.typ, .int .i64 d.side.n, .int .u8 d.side.field, .string d.side.name, .slice d.side.a d.side.kids.length d.side.c, .int .i64 d.side.pos, .int .u8 d.qty.kind, .int .u8 d.qty.oper, .int .u8 d.qty.typ, .int .i64 d.qty.n, .int .u8 d.qty.field, .string d.qty.name, .slice d.qty.a d.qty.kids.length d.qty.c, .int .i64 d.qty.pos, .int .u8 d.price.kind, .int .u8 d.price.oper, .int .u8 d.price.typ, .int .i64 d.price.n, .int .u8 d.price.field, .string d.price.name, .slice d.price.a d.price.kids.length d.price.c, .int .i64 d.price.pos, .int .u8 d.value.kind, .int .u8 d.value.oper, .int .u8 d.value.typ, .int .i64 d.value.n, .int .u8 d.value.field, .string d.value.name, .slice d.value.a d.value.kids.length d.value.c, .int .i64 d.value.pos, .int .i64 d.pos]
abbrev RuleN.enc (r : RuleN) : List Value := [.int .u8 r.when.kind, .int .u8 r.when.oper, .int .u8 r.when.typ, .int .i64 r.when.n, .int .u8 r.when.field, .string r.when.name, .slice r.when.a r.when.kids.length r.when.c, .int .i64 r.when.pos, .slice r.a r.dos.length r.c, .int .i64 r.pos]
abbrev StateN.enc (s : StateN) : List Value := [.string s.name, .slice s.a s.rules.length s.c, .int .i64 s.pos]
abbrev RegN.v (r : RegN) : Value := .agg #[.string r.name, .int .u8 r.typ, .int .u8 r.init.kind, .int .u8 r.init.oper, .int .u8 r.init.typ, .int .i64 r.init.n, .int .u8 r.init.field, .string r.init.name, .slice r.init.a r.init.kids.length r.init.c, .int .i64 r.init.pos, .int .i64 r.pos]
abbrev SlotP.v (r : SlotP) : Value := .agg #[.string r.name, .int .i64 r.pos]
abbrev DoN.v (d : DoN) : Value := .agg #[.int .u8 d.kind, .int .u8 d.order, .string d.name, .int .u8 d.side.kind, .int .u8 d.side.oper, .int .u8 d.side.typ, .int .i64 d.side.n, .int .u8 d.side.field, .string d.side.name, .slice d.side.a d.side.kids.length d.side.c, .int .i64 d.side.pos, .int .u8 d.qty.kind, .int .u8 d.qty.oper, .int .u8 d.qty.typ, .int .i64 d.qty.n, .int .u8 d.qty.field, .string d.qty.name, .slice d.qty.a d.qty.kids.length d.qty.c, .int .i64 d.qty.pos, .int .u8 d.price.kind, .int .u8 d.price.oper, .int .u8 d.price.typ, .int .i64 d.price.n, .int .u8 d.price.field, .string d.price.name, .slice d.price.a d.price.kids.length d.price.c, .int .i64 d.price.pos, .int .u8 d.value.kind, .int .u8 d.value.oper, .int .u8 d.value.typ, .int .i64 d.value.n, .int .u8 d.value.field, .string d.value.name, .slice d.value.a d.value.kids.length d.value.c, .int .i64 d.value.pos, .int .i64 d.pos]
abbrev RuleN.v (r : RuleN) : Value := .agg #[.int .u8 r.when.kind, .int .u8 r.when.oper, .int .u8 r.when.typ, .int .i64 r.when.n, .int .u8 r.when.field, .string r.when.name, .slice r.when.a r.when.kids.length r.when.c, .int .i64 r.when.pos, .slice r.a r.dos.length r.c, .int .i64 r.pos]
abbrev StateN.v (s : StateN) : Value := .agg #[.string s.name, .slice s.a s.rules.length s.c, .int .i64 s.pos]
abbrev StgN.enc (s : StgN) : List Value := [.string s.name, .slice s.ra s.regs.length s.rc, .slice s.sa s.slots.length s.sc, .slice s.ta s.states.length s.tc]
abbrev StgN.v (s : StgN) : Value := .agg #[.string s.name, .slice s.ra s.regs.length s.rc, .slice s.sa s.slots.length s.sc, .slice s.ta s.states.length s.tc]
def RegN.Ok (I : Imm) (G : Heap) (r : RegN) : Prop := NdOk I G r.init
def DoN.Ok (I : Imm) (G : Heap) (d : DoN) : Prop := NdOk I G d.side ∧ NdOk I G d.qty ∧ NdOk I G d.price ∧ NdOk I G d.value
def RuleN.Ok (I : Imm) (G : Heap) (r : RuleN) : Prop := NdOk I G r.when ∧ SlG I G 36 DoN.enc r.a r.dos.length r.dos ∧ ∀ d ∈ r.dos, d.Ok I G
def StateN.Ok (I : Imm) (G : Heap) (s : StateN) : Prop := SlG I G 10 RuleN.enc s.a s.rules.length s.rules ∧ ∀ r ∈ s.rules, r.Ok I G
structure StgN.Ok (I : Imm) (G : Heap) (s : StgN) : Prop where
  regs : SlG I G 11 RegN.enc s.ra s.regs.length s.regs
  reg : ∀ r ∈ s.regs, r.Ok I G
  slots : SlG I G 2 SlotP.enc s.sa s.slots.length s.slots
  states : SlG I G 3 StateN.enc s.ta s.states.length s.states
  state : ∀ x ∈ s.states, x.Ok I G
section
variable {I J : Imm} {G H : Heap}
theorem RegN.Ok.mono {r : RegN} (h : r.Ok I G) (hl : Imm.le I J) (hs : ∀ x, x ∈ G → x ∈ H) : r.Ok J H := NdOk.mono h hl hs
theorem DoN.Ok.mono {d : DoN} (h : d.Ok I G) (hl : Imm.le I J) (hs : ∀ x, x ∈ G → x ∈ H) : d.Ok J H := ⟨h.1.mono hl hs, h.2.1.mono hl hs, h.2.2.1.mono hl hs, h.2.2.2.mono hl hs⟩
theorem RuleN.Ok.mono {r : RuleN} (h : r.Ok I G) (hl : Imm.le I J) (hs : ∀ x, x ∈ G → x ∈ H) : r.Ok J H := ⟨h.1.mono hl hs, h.2.1.mono hl hs, fun d hd => (h.2.2 d hd).mono hl hs⟩
theorem StateN.Ok.mono {s : StateN} (h : s.Ok I G) (hl : Imm.le I J) (hs : ∀ x, x ∈ G → x ∈ H) : s.Ok J H := ⟨h.1.mono hl hs, fun r hr => (h.2 r hr).mono hl hs⟩
theorem StgN.Ok.mono {s : StgN} (h : s.Ok I G) (hl : Imm.le I J) (hs : ∀ x, x ∈ G → x ∈ H) : s.Ok J H :=
  ⟨h.regs.mono hl hs, fun r hr => (h.reg r hr).mono hl hs, h.slots.mono hl hs, h.states.mono hl hs, fun r hr => (h.state r hr).mono hl hs⟩
theorem StgN.Ok.cons {s : StgN} (h : s.Ok I G) {x : Nat × Obj} : s.Ok I (x :: G) := h.mono (Imm.le_refl I) fun _ h => List.mem_cons_of_mem _ h
theorem RuleN.Ok.cons {s : RuleN} (h : s.Ok I G) {x : Nat × Obj} : s.Ok I (x :: G) := h.mono (Imm.le_refl I) fun _ h => List.mem_cons_of_mem _ h
theorem StateN.Ok.cons {s : StateN} (h : s.Ok I G) {x : Nat × Obj} : s.Ok I (x :: G) := h.mono (Imm.le_refl I) fun _ h => List.mem_cons_of_mem _ h
theorem DoN.Ok.cons {s : DoN} (h : s.Ok I G) {x : Nat × Obj} : s.Ok I (x :: G) := h.mono (Imm.le_refl I) fun _ h => List.mem_cons_of_mem _ h
end
def DoP.nds (d : DoP) : List Px := [d.side, d.qty, d.price, d.value]
def RuleP.nds (r : RuleP) : List Px := r.when :: r.dos.flatMap DoP.nds
def StgP.nds (s : StgP) : List Px := s.regs.map RegP.init ++ s.states.flatMap fun x => x.rules.flatMap RuleP.nds
def errB (b : Bool) (n : Int) : Int := if b then 0 else n
def thenE (a b : Int) : Int := if a = 0 then b else a
def Px.noneB (x : Px) : Bool := x.kind == 0 && (x.oper == 0 && (x.typ == 0 && (x.n == 0 && (x.field == 0 && (x.name.toList == []))))) && decide (x.kids.length = 0)
def partE (is : Bool) (x : Px) : Int := if is then x.checkE else errB x.noneB 120
def Px.beginB (x : Px) : Bool := if x.kind = 5 ∧ x.oper = 1 then (match x.kids with | k :: _ => decide (k.kind = 1 ∧ k.typ ≤ 4) | [] => false) else decide (x.kind = 1)
def RegP.check (r : RegP) : Int := errB (nameB r.name && (decide (1 ≤ r.typ ∧ r.typ ≤ 6) && (r.init.formed && r.init.beginB))) 120
def DoP.kindB (d : DoP) : Bool := decide (1 ≤ d.kind ∧ d.kind ≤ 6)
def DoP.orderB (d : DoP) : Bool := decide (d.kind = 1 ∧ 1 ≤ d.order ∧ d.order ≤ 5 ∨ d.kind ≠ 1 ∧ d.order = 0)
def DoP.nameB (d : DoP) : Bool := if d.kind = 6 then d.name.toList == [] else if d.kind ≠ 1 ∨ d.name.toList ≠ [] then Lx.nameB d.name else true
def DoP.check (d : DoP) : Int := thenE (errB d.kindB 120) (thenE (errB d.orderB 120) (thenE (errB d.nameB 120) (thenE (partE (decide (d.kind = 1)) d.side) (thenE (partE (decide (d.kind = 1 ∨ d.kind = 2)) d.qty)
  (thenE (partE (decide (d.kind = 1 ∧ d.order ≠ 2 ∨ d.kind = 2)) d.price) (partE (decide (d.kind = 4)) d.value))))))
def firstE {α : Type} (f : α → Int) : List α → Int
  | [] => 0
  | x :: r => thenE (f x) (firstE f r)
def RuleP.check (r : RuleP) : Int := thenE r.when.checkE (thenE (errB (decide (0 < r.dos.length)) 120) (thenE (errB (decide (r.dos.length ≤ 8)) 121) (firstE DoP.check r.dos)))
def StateP.check (s : StateP) : Int := thenE (errB (nameB s.name) 120) (thenE (errB (decide (s.rules.length ≤ 12)) 121) (firstE RuleP.check s.rules))
def SlotP.check (s : SlotP) : Int := errB (nameB s.name) 120
def StgP.check (s : StgP) : Int := thenE (errB (nameB s.name) 120) (thenE (errB (decide (s.regs.length ≤ 12)) 121) (thenE (firstE RegP.check s.regs) (thenE (errB (decide (s.slots.length ≤ 4)) 121) (thenE (firstE SlotP.check s.slots)
  (thenE (errB (decide (0 < s.states.length)) 120) (thenE (errB (decide (s.states.length ≤ 12)) 121) (firstE StateP.check s.states)))))))
theorem thenE_zero (b : Int) : thenE 0 b = b := rfl
theorem thenE_ne {a : Int} (h : a ≠ 0) (b : Int) : thenE a b = a := if_neg h
theorem thenE_assoc (a b c : Int) : thenE (thenE a b) c = thenE a (thenE b c) := by unfold thenE; split <;> simp [*]
end Go.Lx
namespace Go.Lx
open Go.Vc
def shT_t4 : List (Nat × List Sh) := [(0, []), (3, [.one (.int .i64)]), (4, [.one .bool]), (9, [.one .str]), (28, [.agg [(.int .u8), (.int .u8), (.int .u8), (.int .i64), (.int .u8), .str, .slc, (.int .i64)]]), (32, [.one (.int .i64)]), (55, [.one (.int .u16), .one .slc]), (82, [.one .slc]), (83, [.one .slc]), (84, [.one .slc]), (86, [.agg [.str, .slc, .slc, .slc]]), (90, [.agg [(.int .u8), (.int .u8), (.int .u8), (.int .i64), (.int .u8), .str, .slc, (.int .i64), .slc, (.int .i64)]]), (91, [.one .slc]), (93, [.agg [.str, .slc, (.int .i64)]]), (97, [.agg [(.int .u8), (.int .u8), (.int .u8), (.int .i64), (.int .u8), .str]]), (128, [.agg [.str, (.int .u8), (.int .u8), (.int .u8), (.int .u8), (.int .i64), (.int .u8), .str, .slc, (.int .i64), (.int .i64)]]), (130, [.agg [.str, (.int .i64)]]), (135, [.agg [(.int .u8), (.int .u8), .str, (.int .u8), (.int .u8), (.int .u8), (.int .i64), (.int .u8), .str, .slc, (.int .i64), (.int .u8), (.int .u8), (.int .u8), (.int .i64), (.int .u8), .str, .slc, (.int .i64), (.int .u8), (.int .u8), (.int .u8), (.int .i64), (.int .u8), .str, .slc, (.int .i64), (.int .u8), (.int .u8), (.int .u8), (.int .i64), (.int .u8), .str, .slc, (.int .i64), (.int .i64)]])]
set_option maxRecDepth 100000 in
def tree_Check.V (vl : Option Addr → Nat → Nat → Value) (s_0 : ByteArray) (s_1_a : Option Addr) (s_1_n s_1_c : Nat) (s_2_a : Option Addr) (s_2_n s_2_c : Nat) (s_3_a : Option Addr) (s_3_n s_3_c : Nat) (I : Imm) (F : Heap) (Q : PostQ)  : Prop := ∀ b_s : Nat, Tri P 39 (#[Value.func (.func 79) #[] #[Value.pointer (some ⟨b_s, 0, none⟩)]]) I ((b_s, Obj.cells #[Value.string s_0, vl s_1_a s_1_n s_1_c, vl s_2_a s_2_n s_2_c, vl s_3_a s_3_n s_3_c] 86 (0, 0)) :: F) fun e1 I1 G1 => ∃ (r : Int), e1 = .returned (Value.int .i64 r) ∧ ∃ (b_s_0 : ByteArray) (b_s_1_a : Option Addr) (b_s_1_n b_s_1_c : Nat) (b_s_2_a : Option Addr) (b_s_2_n b_s_2_c : Nat) (b_s_3_a : Option Addr) (b_s_3_n b_s_3_c : Nat), ∃ F1 : Heap, List.Perm G1 ((b_s, Obj.cells #[Value.string b_s_0, vl b_s_1_a b_s_1_n b_s_1_c, vl b_s_2_a b_s_2_n b_s_2_c, vl b_s_3_a b_s_3_n b_s_3_c] 86 (0, 0)) :: F1) ∧ Q (.returned (Value.int .i64 r)) I1 (F1)
set_option maxRecDepth 100000 in
theorem tree_Check.vc {s_0 : ByteArray} {s_1_a : Option Addr} {s_1_n s_1_c : Nat} {s_2_a : Option Addr} {s_2_n s_2_c : Nat} {s_3_a : Option Addr} {s_3_n s_3_c : Nat} {I : Imm} {F : Heap} {Q : PostQ}  (h : tree_Check.V .slice s_0 s_1_a s_1_n s_1_c s_2_a s_2_n s_2_c s_3_a s_3_n s_3_c I F Q) : Tri P 36 #[Value.agg #[Value.string s_0, Value.slice s_1_a s_1_n s_1_c, Value.slice s_2_a s_2_n s_2_c, Value.slice s_3_a s_3_n s_3_c]] I (F) Q :=
  tri_of_V (A := (annL [] [] [39] shT_t4 [] [] [] [] [] [] [])) (args := [.a (.v (Value.agg #[Value.string s_0, Value.slice s_1_a s_1_n s_1_c, Value.slice s_2_a s_2_n s_2_c, Value.slice s_3_a s_3_n s_3_c]))]) (own := []) (keep := []) [39] Go.Proofs.Try.func36 h (by kernel_rfl) (by kernel_rfl) (by kernel_rfl) (by kernel_rfl) (by kernel_rfl) (by simp [AV.wf, At.wf]) (by simp [AV.wf, At.wf]) rfl
set_option maxRecDepth 100000 in
def tree_Check_1.V (nV : Int → Int → Int → Int → Int → ByteArray → Option Addr → Nat → Nat → Int → Value) (vb vi : Int → Value) (vs : ByteArray → Value) (vl : Option Addr → Nat → Nat → Value) (vt : Bool → Value) (wr : Int → Int) (c : Addr) (I : Imm) (F : Heap) (Q : PostQ) (Inv8 : Int → Nat → Imm → Heap → Imm → Heap → Prop) (Inv31 : Int → Nat → Imm → Heap → Imm → Heap → Prop) (Inv51 : Int → Nat → Imm → Heap → Imm → Heap → Prop) (Inv69 : Int → Int → Nat → Imm → Heap → Imm → Heap → Prop) : Prop := ∃ (m : ByteArray), Rd I (F) (c.add 0) [vs m] ∧ Tri P 80 (#[vs m]) I (F) fun e1 I1 G1 => ((e1 = .returned (Value.tuple #[]) ∧ ∃ F1 : Heap, List.Perm G1 (F1) ∧ ∃ (m_a : Option Addr) (m_n m_c : Nat), Rd I1 (F1) (c.add 1) [vl m_a m_n m_c] ∧ Tri P 81 (#[vt (decide (((m_n : Nat) : Int) ≤ 12)), vi 121]) I1 (F1) fun e2 I2 G2 => ((e2 = .returned (Value.tuple #[]) ∧ ∃ F2 : Heap, List.Perm G2 (F2) ∧ ∃ (m_a1 : Option Addr) (m_n1 m_c1 : Nat), Rd I2 (F2) (c.add 1) [vl m_a1 m_n1 m_c1] ∧ (∃ m1 : Nat, Inv8 0 m1 I2 F2 I2 F2) ∧ ∀ (x : Int) (m2 : Nat) (I3 : Imm) (F3 : Heap), Imm.le I2 I3 → Inv8 x m2 I2 F2 I3 F3 → ((decide (x < ((m_n1 : Nat) : Int)) = true → ((0 ≤ x ∧ x < (m_n1 : Int)) ∧ ∃ ad : Addr, m_a1 = some ad ∧ ∃ (m_0 : ByteArray) (m_1 m_2 m_3 m_4 m_5 m_6 : Int) (m_7 : ByteArray) (m_8_a : Option Addr) (m_8_n m_8_c : Nat) (m_9 m_10 : Int), Rd I3 (F3) (ad.add (Int.toNat (x) * 11)) [vs m_0, vb m_1, vb m_2, vb m_3, vb m_4, vi m_5, vb m_6, vs m_7, vl m_8_a m_8_n m_8_c, vi m_9, vi m_10] ∧ ∀ b_r : Nat, Tri P 80 (#[vs m_0]) I3 ((b_r, Obj.cells #[vs m_0, vb m_1, vb m_2, vb m_3, vb m_4, vi m_5, vb m_6, vs m_7, vl m_8_a m_8_n m_8_c, vi m_9, vi m_10] 128 (0, 0)) :: F3) fun e3 I4 G3 => ((e3 = .returned (Value.tuple #[]) ∧ ∃ F4 : Heap, List.Perm G3 ((b_r, Obj.cells #[vs m_0, vb m_1, vb m_2, vb m_3, vb m_4, vi m_5, vb m_6, vs m_7, vl m_8_a m_8_n m_8_c, vi m_9, vi m_10] 128 (0, 0)) :: F4) ∧ ((decide (1 ≤ m_1) = true → Tri P 81 (#[vt (decide (m_1 ≤ 6)), vi 120]) I4 ((b_r, Obj.cells #[vs m_0, vb m_1, vb m_2, vb m_3, vb m_4, vi m_5, vb m_6, vs m_7, vl m_8_a m_8_n m_8_c, vi m_9, vi m_10] 128 (0, 0)) :: F4) fun e4 I5 G4 => ((e4 = .returned (Value.tuple #[]) ∧ ∃ F5 : Heap, List.Perm G4 ((b_r, Obj.cells #[vs m_0, vb m_1, vb m_2, vb m_3, vb m_4, vi m_5, vb m_6, vs m_7, vl m_8_a m_8_n m_8_c, vi m_9, vi m_10] 128 (0, 0)) :: F5) ∧ Tri P 82 (#[nV m_2 m_3 m_4 m_5 m_6 m_7 m_8_a m_8_n m_8_c m_9]) I5 ((b_r, Obj.cells #[vs m_0, vb m_1, vb m_2, vb m_3, vb m_4, vi m_5, vb m_6, vs m_7, vl m_8_a m_8_n m_8_c, vi m_9, vi m_10] 128 (0, 0)) :: F5) fun e5 I6 G5 => ((e5 = .returned (Value.tuple #[]) ∧ ∃ F6 : Heap, List.Perm G5 ((b_r, Obj.cells #[vs m_0, vb m_1, vb m_2, vb m_3, vb m_4, vi m_5, vb m_6, vs m_7, vl m_8_a m_8_n m_8_c, vi m_9, vi m_10] 128 (0, 0)) :: F6) ∧ (∃ m3 : Nat, m3 < m2 ∧ Inv8 (wr (x + 1)) m3 I2 F2 I6 F6)) ∨ (∃ ch : List PanicEntry, e5 = .panicked ch ∧ ∃ F7 : Heap, List.Perm G5 ((b_r, Obj.cells #[vs m_0, vb m_1, vb m_2, vb m_3, vb m_4, vi m_5, vb m_6, vs m_7, vl m_8_a m_8_n m_8_c, vi m_9, vi m_10] 128 (0, 0)) :: F7) ∧ Q (.panicked ch) I6 (F7)))) ∨ (∃ ch1 : List PanicEntry, e4 = .panicked ch1 ∧ ∃ F8 : Heap, List.Perm G4 ((b_r, Obj.cells #[vs m_0, vb m_1, vb m_2, vb m_3, vb m_4, vi m_5, vb m_6, vs m_7, vl m_8_a m_8_n m_8_c, vi m_9, vi m_10] 128 (0, 0)) :: F8) ∧ Q (.panicked ch1) I5 (F8)))) ∧ (decide (1 ≤ m_1) = false → Tri P 81 (#[vt false, vi 120]) I4 ((b_r, Obj.cells #[vs m_0, vb m_1, vb m_2, vb m_3, vb m_4, vi m_5, vb m_6, vs m_7, vl m_8_a m_8_n m_8_c, vi m_9, vi m_10] 128 (0, 0)) :: F4) fun e6 I7 G6 => ((e6 = .returned (Value.tuple #[]) ∧ ∃ F9 : Heap, List.Perm G6 ((b_r, Obj.cells #[vs m_0, vb m_1, vb m_2, vb m_3, vb m_4, vi m_5, vb m_6, vs m_7, vl m_8_a m_8_n m_8_c, vi m_9, vi m_10] 128 (0, 0)) :: F9) ∧ Tri P 82 (#[nV m_2 m_3 m_4 m_5 m_6 m_7 m_8_a m_8_n m_8_c m_9]) I7 ((b_r, Obj.cells #[vs m_0, vb m_1, vb m_2, vb m_3, vb m_4, vi m_5, vb m_6, vs m_7, vl m_8_a m_8_n m_8_c, vi m_9, vi m_10] 128 (0, 0)) :: F9) fun e7 I8 G7 => ((e7 = .returned (Value.tuple #[]) ∧ ∃ F10 : Heap, List.Perm G7 ((b_r, Obj.cells #[vs m_0, vb m_1, vb m_2, vb m_3, vb m_4, vi m_5, vb m_6, vs m_7, vl m_8_a m_8_n m_8_c, vi m_9, vi m_10] 128 (0, 0)) :: F10) ∧ (∃ m4 : Nat, m4 < m2 ∧ Inv8 (wr (x + 1)) m4 I2 F2 I8 F10)) ∨ (∃ ch2 : List PanicEntry, e7 = .panicked ch2 ∧ ∃ F11 : Heap, List.Perm G7 ((b_r, Obj.cells #[vs m_0, vb m_1, vb m_2, vb m_3, vb m_4, vi m_5, vb m_6, vs m_7, vl m_8_a m_8_n m_8_c, vi m_9, vi m_10] 128 (0, 0)) :: F11) ∧ Q (.panicked ch2) I8 (F11)))) ∨ (∃ ch3 : List PanicEntry, e6 = .panicked ch3 ∧ ∃ F12 : Heap, List.Perm G6 ((b_r, Obj.cells #[vs m_0, vb m_1, vb m_2, vb m_3, vb m_4, vi m_5, vb m_6, vs m_7, vl m_8_a m_8_n m_8_c, vi m_9, vi m_10] 128 (0, 0)) :: F12) ∧ Q (.panicked ch3) I7 (F12)))))) ∨ (∃ ch4 : List PanicEntry, e3 = .panicked ch4 ∧ ∃ F13 : Heap, List.Perm G3 ((b_r, Obj.cells #[vs m_0, vb m_1, vb m_2, vb m_3, vb m_4, vi m_5, vb m_6, vs m_7, vl m_8_a m_8_n m_8_c, vi m_9, vi m_10] 128 (0, 0)) :: F13) ∧ Q (.panicked ch4) I4 (F13))))) ∧ (decide (x < ((m_n1 : Nat) : Int)) = false → ∃ (m_a2 : Option Addr) (m_n2 m_c2 : Nat), Rd I3 (F3) (c.add 2) [vl m_a2 m_n2 m_c2] ∧ Tri P 81 (#[vt (decide (((m_n2 : Nat) : Int) ≤ 4)), vi 121]) I3 (F3) fun e8 I9 G8 => ((e8 = .returned (Value.tuple #[]) ∧ ∃ F14 : Heap, List.Perm G8 (F14) ∧ ∃ (m_a3 : Option Addr) (m_n3 m_c3 : Nat), Rd I9 (F14) (c.add 2) [vl m_a3 m_n3 m_c3] ∧ (∃ m5 : Nat, Inv31 0 m5 I9 F14 I9 F14) ∧ ∀ (x1 : Int) (m6 : Nat) (I10 : Imm) (F15 : Heap), Imm.le I9 I10 → Inv31 x1 m6 I9 F14 I10 F15 → ((decide (x1 < ((m_n3 : Nat) : Int)) = true → ((0 ≤ x1 ∧ x1 < (m_n3 : Int)) ∧ ∃ ad1 : Addr, m_a3 = some ad1 ∧ ∃ (m_01 : ByteArray) (m_11 : Int), Rd I10 (F15) (ad1.add (Int.toNat (x1) * 2)) [vs m_01, vi m_11] ∧ ∀ b_x : Nat, Tri P 80 (#[vs m_01]) I10 ((b_x, Obj.cells #[vs m_01, vi m_11] 130 (0, 0)) :: F15) fun e9 I11 G9 => ((e9 = .returned (Value.tuple #[]) ∧ ∃ F16 : Heap, List.Perm G9 ((b_x, Obj.cells #[vs m_01, vi m_11] 130 (0, 0)) :: F16) ∧ (∃ m7 : Nat, m7 < m6 ∧ Inv31 (wr (x1 + 1)) m7 I9 F14 I11 F16)) ∨ (∃ ch5 : List PanicEntry, e9 = .panicked ch5 ∧ ∃ F17 : Heap, List.Perm G9 ((b_x, Obj.cells #[vs m_01, vi m_11] 130 (0, 0)) :: F17) ∧ Q (.panicked ch5) I11 (F17))))) ∧ (decide (x1 < ((m_n3 : Nat) : Int)) = false → ∃ (m_a4 : Option Addr) (m_n4 m_c4 : Nat), Rd I10 (F15) (c.add 3) [vl m_a4 m_n4 m_c4] ∧ Tri P 81 (#[vt (decide (((m_n4 : Nat) : Int) > 0)), vi 120]) I10 (F15) fun e10 I12 G10 => ((e10 = .returned (Value.tuple #[]) ∧ ∃ F18 : Heap, List.Perm G10 (F18) ∧ ∃ (m_a5 : Option Addr) (m_n5 m_c5 : Nat), Rd I12 (F18) (c.add 3) [vl m_a5 m_n5 m_c5] ∧ Tri P 81 (#[vt (decide (((m_n5 : Nat) : Int) ≤ 12)), vi 121]) I12 (F18) fun e11 I13 G11 => ((e11 = .returned (Value.tuple #[]) ∧ ∃ F19 : Heap, List.Perm G11 (F19) ∧ ∃ (m_a6 : Option Addr) (m_n6 m_c6 : Nat), Rd I13 (F19) (c.add 3) [vl m_a6 m_n6 m_c6] ∧ (∃ m8 : Nat, Inv51 0 m8 I13 F19 I13 F19) ∧ ∀ (x2 : Int) (m9 : Nat) (I14 : Imm) (F20 : Heap), Imm.le I13 I14 → Inv51 x2 m9 I13 F19 I14 F20 → ((decide (x2 < ((m_n6 : Nat) : Int)) = true → ((0 ≤ x2 ∧ x2 < (m_n6 : Int)) ∧ ∃ ad2 : Addr, m_a6 = some ad2 ∧ ∃ (m_02 : ByteArray) (m_1_a : Option Addr) (m_1_n m_1_c : Nat) (m_21 : Int), Rd I14 (F20) (ad2.add (Int.toNat (x2) * 3)) [vs m_02, vl m_1_a m_1_n m_1_c, vi m_21] ∧ ∀ b_x1 : Nat, Tri P 80 (#[vs m_02]) I14 ((b_x1, Obj.cells #[vs m_02, vl m_1_a m_1_n m_1_c, vi m_21] 93 (0, 0)) :: F20) fun e12 I15 G12 => ((e12 = .returned (Value.tuple #[]) ∧ ∃ F21 : Heap, List.Perm G12 ((b_x1, Obj.cells #[vs m_02, vl m_1_a m_1_n m_1_c, vi m_21] 93 (0, 0)) :: F21) ∧ Tri P 81 (#[vt (decide (((m_1_n : Nat) : Int) ≤ 12)), vi 121]) I15 ((b_x1, Obj.cells #[vs m_02, vl m_1_a m_1_n m_1_c, vi m_21] 93 (0, 0)) :: F21) fun e13 I16 G13 => ((e13 = .returned (Value.tuple #[]) ∧ ∃ F22 : Heap, List.Perm G13 ((b_x1, Obj.cells #[vs m_02, vl m_1_a m_1_n m_1_c, vi m_21] 93 (0, 0)) :: F22) ∧ (∃ m10 : Nat, Inv69 x2 0 m10 I16 F22 I16 F22) ∧ ∀ (x3 : Int) (m11 : Nat) (I17 : Imm) (F23 : Heap), Imm.le I16 I17 → Inv69 x2 x3 m11 I16 F22 I17 F23 → ((decide (x3 < ((m_1_n : Nat) : Int)) = true → ((0 ≤ x3 ∧ x3 < (m_1_n : Int)) ∧ ∃ ad3 : Addr, m_1_a = some ad3 ∧ ∃ (m_03 m_12 m_22 m_31 m_41 : Int) (m_51 : ByteArray) (m_6_a : Option Addr) (m_6_n m_6_c : Nat) (m_71 : Int) (m_8_a1 : Option Addr) (m_8_n1 m_8_c1 : Nat) (m_91 : Int), Rd I17 ((b_x1, Obj.cells #[vs m_02, vl m_1_a m_1_n m_1_c, vi m_21] 93 (0, 0)) :: F23) (ad3.add (Int.toNat (x3) * 10)) [vb m_03, vb m_12, vb m_22, vi m_31, vb m_41, vs m_51, vl m_6_a m_6_n m_6_c, vi m_71, vl m_8_a1 m_8_n1 m_8_c1, vi m_91] ∧ ∀ b_r1 : Nat, Tri P 83 (#[Value.agg #[vb m_03, vb m_12, vb m_22, vi m_31, vb m_41, vs m_51, vl m_6_a m_6_n m_6_c, vi m_71, vl m_8_a1 m_8_n1 m_8_c1, vi m_91]]) I17 ((b_x1, Obj.cells #[vs m_02, vl m_1_a m_1_n m_1_c, vi m_21] 93 (0, 0)) :: (b_r1, Obj.cells #[vb m_03, vb m_12, vb m_22, vi m_31, vb m_41, vs m_51, vl m_6_a m_6_n m_6_c, vi m_71, vl m_8_a1 m_8_n1 m_8_c1, vi m_91] 90 (0, 0)) :: F23) fun e14 I18 G14 => ((e14 = .returned (Value.tuple #[]) ∧ ∃ F24 : Heap, List.Perm G14 ((b_x1, Obj.cells #[vs m_02, vl m_1_a m_1_n m_1_c, vi m_21] 93 (0, 0)) :: (b_r1, Obj.cells #[vb m_03, vb m_12, vb m_22, vi m_31, vb m_41, vs m_51, vl m_6_a m_6_n m_6_c, vi m_71, vl m_8_a1 m_8_n1 m_8_c1, vi m_91] 90 (0, 0)) :: F24) ∧ (∃ m12 : Nat, m12 < m11 ∧ Inv69 x2 (wr (x3 + 1)) m12 I16 F22 I18 F24)) ∨ (∃ ch6 : List PanicEntry, e14 = .panicked ch6 ∧ ∃ F25 : Heap, List.Perm G14 ((b_x1, Obj.cells #[vs m_02, vl m_1_a m_1_n m_1_c, vi m_21] 93 (0, 0)) :: (b_r1, Obj.cells #[vb m_03, vb m_12, vb m_22, vi m_31, vb m_41, vs m_51, vl m_6_a m_6_n m_6_c, vi m_71, vl m_8_a1 m_8_n1 m_8_c1, vi m_91] 90 (0, 0)) :: F25) ∧ Q (.panicked ch6) I18 (F25))))) ∧ (decide (x3 < ((m_1_n : Nat) : Int)) = false → (∃ m13 : Nat, m13 < m9 ∧ Inv51 (wr (x2 + 1)) m13 I13 F19 I17 F23)))) ∨ (∃ ch7 : List PanicEntry, e13 = .panicked ch7 ∧ ∃ F26 : Heap, List.Perm G13 ((b_x1, Obj.cells #[vs m_02, vl m_1_a m_1_n m_1_c, vi m_21] 93 (0, 0)) :: F26) ∧ Q (.panicked ch7) I16 (F26)))) ∨ (∃ ch8 : List PanicEntry, e12 = .panicked ch8 ∧ ∃ F27 : Heap, List.Perm G12 ((b_x1, Obj.cells #[vs m_02, vl m_1_a m_1_n m_1_c, vi m_21] 93 (0, 0)) :: F27) ∧ Q (.panicked ch8) I15 (F27))))) ∧ (decide (x2 < ((m_n6 : Nat) : Int)) = false → Q (.returned (Value.tuple #[])) I14 (F20)))) ∨ (∃ ch9 : List PanicEntry, e11 = .panicked ch9 ∧ ∃ F28 : Heap, List.Perm G11 (F28) ∧ Q (.panicked ch9) I13 (F28)))) ∨ (∃ ch10 : List PanicEntry, e10 = .panicked ch10 ∧ ∃ F29 : Heap, List.Perm G10 (F29) ∧ Q (.panicked ch10) I12 (F29)))))) ∨ (∃ ch11 : List PanicEntry, e8 = .panicked ch11 ∧ ∃ F30 : Heap, List.Perm G8 (F30) ∧ Q (.panicked ch11) I9 (F30)))))) ∨ (∃ ch12 : List PanicEntry, e2 = .panicked ch12 ∧ ∃ F31 : Heap, List.Perm G2 (F31) ∧ Q (.panicked ch12) I2 (F31)))) ∨ (∃ ch13 : List PanicEntry, e1 = .panicked ch13 ∧ ∃ F32 : Heap, List.Perm G1 (F32) ∧ Q (.panicked ch13) I1 (F32)))
set_option maxRecDepth 100000 in
theorem tree_Check_1.vc {c : Addr} {I : Imm} {F : Heap} {Q : PostQ} (Inv8 : Int → Nat → Imm → Heap → Imm → Heap → Prop) (Inv31 : Int → Nat → Imm → Heap → Imm → Heap → Prop) (Inv51 : Int → Nat → Imm → Heap → Imm → Heap → Prop) (Inv69 : Int → Int → Nat → Imm → Heap → Imm → Heap → Prop) (h : tree_Check_1.V (fun k o t n f s a l c q => .agg #[Value.int .u8 k, Value.int .u8 o, Value.int .u8 t, Value.int .i64 n, Value.int .u8 f, Value.string s, Value.slice a l c, Value.int .i64 q]) (.int .u8) (.int .i64) .string .slice .bool (IntKind.wrap .i64) c I F Q Inv8 Inv31 Inv51 Inv69) : Tri P 79 #[Value.pointer (some c)] I (F) Q :=
  tri_of_V (A := (annL [3000, 6002, 11000, 18000, 23000] [80, 81, 82, 83] [80, 81, 82, 83] shT_t4 [(8, ⟨[(20, (.int .i64))], [], fun fs I0 F0 vs m I F => match fs, vs with | [], [.int _ y0] => Inv8 y0 m I0 F0 I F | _, _ => False, [], []⟩), (31, ⟨[(48, (.int .i64))], [], fun fs I0 F0 vs m I F => match fs, vs with | [], [.int _ y0] => Inv31 y0 m I0 F0 I F | _, _ => False, [], []⟩), (51, ⟨[(69, (.int .i64))], [], fun fs I0 F0 vs m I F => match fs, vs with | [], [.int _ y0] => Inv51 y0 m I0 F0 I F | _, _ => False, [], []⟩), (69, ⟨[(84, (.int .i64))], [], fun fs I0 F0 vs m I F => match fs, vs with | [.int _ y0], [.int _ y1] => Inv69 y0 y1 m I0 F0 I F | _, _ => False, [69], []⟩)] [] [] [] [] [] [])) (args := [.a (.v (Value.pointer (some c)))]) (own := []) (keep := []) [80, 81, 82, 83] Go.Proofs.Try.func79 h (by kernel_rfl) (by kernel_rfl) (by kernel_rfl) (by kernel_rfl) (by kernel_rfl) (by simp [AV.wf, At.wf]) (by simp [AV.wf, At.wf]) rfl
set_option maxRecDepth 100000 in
def tree_named.V (s : ByteArray) (I : Imm) (F : Heap) (Q : PostQ)  : Prop := Tri P 86 (#[Value.string s]) I (F) fun e1 I1 G1 => ∃ (r : Bool), e1 = .returned (Value.bool r) ∧ ∃ F1 : Heap, List.Perm G1 (F1) ∧ Tri P 81 (#[Value.bool r, Value.int .i64 120]) I1 (F1) fun e2 I2 G2 => ((e2 = .returned (Value.tuple #[]) ∧ ∃ F2 : Heap, List.Perm G2 (F2) ∧ Q (.returned (Value.tuple #[])) I2 (F2)) ∨ (∃ ch : List PanicEntry, e2 = .panicked ch ∧ ∃ F3 : Heap, List.Perm G2 (F3) ∧ Q (.panicked ch) I2 (F3)))
set_option maxRecDepth 100000 in
theorem tree_named.vc {s : ByteArray} {I : Imm} {F : Heap} {Q : PostQ}  (h : tree_named.V s I F Q) : Tri P 80 #[Value.string s] I (F) Q :=
  tri_of_V (A := (annL [] [81] [81, 86] shT_t4 [] [] [] [] [] [] [])) (args := [.a (.v (Value.string s))]) (own := []) (keep := []) [81, 86] Go.Proofs.Try.func80 h (by kernel_rfl) (by kernel_rfl) (by kernel_rfl) (by kernel_rfl) (by kernel_rfl) (by simp [AV.wf, At.wf]) (by simp [AV.wf, At.wf]) rfl
set_option maxRecDepth 100000 in
def tree_unnamed.V (c_n : Nat → Nat × Obj) (vb vi : Int → Value) (vs : ByteArray → Value) (n_0 n_1 n_2 n_3 n_4 : Int) (n_5 : ByteArray) (n_6_a : Option Addr) (n_6_n n_6_c : Nat) (n_7 : Int) (I : Imm) (F : Heap) (Q : PostQ)  : Prop := ∀ b_n : Nat, Tri P 47 (#[Value.agg #[vb n_0, vb n_1, vb n_2, vi n_3, vb n_4, vs n_5, Value.slice n_6_a n_6_n n_6_c, vi n_7]]) I ((c_n b_n) :: F) fun e1 I1 G1 => ∃ (r_0 r_1 r_2 r_3 r_4 : Int) (r_5 : ByteArray), e1 = .returned (Value.agg #[vb r_0, vb r_1, vb r_2, vi r_3, vb r_4, vs r_5]) ∧ ∃ F1 : Heap, List.Perm G1 ((c_n b_n) :: F1) ∧ ∃ q : Bool, BinRun P .eql 97 (.tmp 3) (.tmp 4) (Value.agg #[vb r_0, vb r_1, vb r_2, vi r_3, vb r_4, vs r_5]) (Value.agg #[vb 0, vb 0, vb 0, vi 0, vb 0, vs (⟨#[]⟩ : ByteArray)]) q ∧ ((q = true → Tri P 81 (#[Value.bool (((n_6_n : Nat) : Int) == 0), vi 120]) I1 ((c_n b_n) :: F1) fun e2 I2 G2 => ((e2 = .returned (Value.tuple #[]) ∧ ∃ F2 : Heap, List.Perm G2 ((c_n b_n) :: F2) ∧ Q (.returned (Value.tuple #[])) I2 (F2)) ∨ (∃ ch : List PanicEntry, e2 = .panicked ch ∧ ∃ F3 : Heap, List.Perm G2 ((c_n b_n) :: F3) ∧ Q (.panicked ch) I2 (F3)))) ∧ (q = false → Tri P 81 (#[Value.bool false, vi 120]) I1 ((c_n b_n) :: F1) fun e3 I3 G3 => ((e3 = .returned (Value.tuple #[]) ∧ ∃ F4 : Heap, List.Perm G3 ((c_n b_n) :: F4) ∧ Q (.returned (Value.tuple #[])) I3 (F4)) ∨ (∃ ch1 : List PanicEntry, e3 = .panicked ch1 ∧ ∃ F5 : Heap, List.Perm G3 ((c_n b_n) :: F5) ∧ Q (.panicked ch1) I3 (F5)))))
set_option maxRecDepth 100000 in
theorem tree_unnamed.vc {n_0 n_1 n_2 n_3 n_4 : Int} {n_5 : ByteArray} {n_6_a : Option Addr} {n_6_n n_6_c : Nat} {n_7 : Int} {I : Imm} {F : Heap} {Q : PostQ}  (h : tree_unnamed.V (fun b => (b, Obj.cells #[Value.int .u8 n_0, Value.int .u8 n_1, Value.int .u8 n_2, Value.int .i64 n_3, Value.int .u8 n_4, Value.string n_5, Value.slice n_6_a n_6_n n_6_c, Value.int .i64 n_7] 28 (0, 0))) (.int .u8) (.int .i64) .string n_0 n_1 n_2 n_3 n_4 n_5 n_6_a n_6_n n_6_c n_7 I F Q) : Tri P 108 #[Value.agg #[Value.int .u8 n_0, Value.int .u8 n_1, Value.int .u8 n_2, Value.int .i64 n_3, Value.int .u8 n_4, Value.string n_5, Value.slice n_6_a n_6_n n_6_c, Value.int .i64 n_7]] I (F) Q :=
  tri_of_V (A := (annL [1003] [81] [47, 81] shT_t4 [] [] [] [] [] [] [])) (args := [.a (.v (Value.agg #[Value.int .u8 n_0, Value.int .u8 n_1, Value.int .u8 n_2, Value.int .i64 n_3, Value.int .u8 n_4, Value.string n_5, Value.slice n_6_a n_6_n n_6_c, Value.int .i64 n_7]))]) (own := []) (keep := []) [47, 81] Go.Proofs.Try.func108 h (by kernel_rfl) (by kernel_rfl) (by kernel_rfl) (by kernel_rfl) (by kernel_rfl) (by simp [AV.wf, At.wf]) (by simp [AV.wf, At.wf]) rfl
set_option maxRecDepth 100000 in
def tree_part.V (c_n : Nat → Nat × Obj) (nV : Int → Int → Int → Int → Int → ByteArray → Option Addr → Nat → Nat → Int → Value) (is : Bool) (n_0 n_1 n_2 n_3 n_4 : Int) (n_5 : ByteArray) (n_6_a : Option Addr) (n_6_n n_6_c : Nat) (n_7 : Int) (I : Imm) (F : Heap) (Q : PostQ)  : Prop := ∀ b_n : Nat, ((is = true → Tri P 41 (#[nV n_0 n_1 n_2 n_3 n_4 n_5 n_6_a n_6_n n_6_c n_7]) I ((c_n b_n) :: F) fun e1 I1 G1 => ((e1 = .returned (Value.tuple #[]) ∧ ∃ F1 : Heap, List.Perm G1 ((c_n b_n) :: F1) ∧ Q (.returned (Value.tuple #[])) I1 (F1)) ∨ (∃ ch : List PanicEntry, e1 = .panicked ch ∧ ∃ F2 : Heap, List.Perm G1 ((c_n b_n) :: F2) ∧ Q (.panicked ch) I1 (F2)))) ∧ (is = false → Tri P 108 (#[nV n_0 n_1 n_2 n_3 n_4 n_5 n_6_a n_6_n n_6_c n_7]) I ((c_n b_n) :: F) fun e2 I2 G2 => ((e2 = .returned (Value.tuple #[]) ∧ ∃ F3 : Heap, List.Perm G2 ((c_n b_n) :: F3) ∧ Q (.returned (Value.tuple #[])) I2 (F3)) ∨ (∃ ch1 : List PanicEntry, e2 = .panicked ch1 ∧ ∃ F4 : Heap, List.Perm G2 ((c_n b_n) :: F4) ∧ Q (.panicked ch1) I2 (F4)))))
set_option maxRecDepth 100000 in
theorem tree_part.vc {is : Bool} {n_0 n_1 n_2 n_3 n_4 : Int} {n_5 : ByteArray} {n_6_a : Option Addr} {n_6_n n_6_c : Nat} {n_7 : Int} {I : Imm} {F : Heap} {Q : PostQ}  (h : tree_part.V (fun b => (b, Obj.cells #[Value.int .u8 n_0, Value.int .u8 n_1, Value.int .u8 n_2, Value.int .i64 n_3, Value.int .u8 n_4, Value.string n_5, Value.slice n_6_a n_6_n n_6_c, Value.int .i64 n_7] 28 (0, 0))) (fun k o t n f s a l c q => .agg #[Value.int .u8 k, Value.int .u8 o, Value.int .u8 t, Value.int .i64 n, Value.int .u8 f, Value.string s, Value.slice a l c, Value.int .i64 q]) is n_0 n_1 n_2 n_3 n_4 n_5 n_6_a n_6_n n_6_c n_7 I F Q) : Tri P 101 #[Value.bool is, Value.agg #[Value.int .u8 n_0, Value.int .u8 n_1, Value.int .u8 n_2, Value.int .i64 n_3, Value.int .u8 n_4, Value.string n_5, Value.slice n_6_a n_6_n n_6_c, Value.int .i64 n_7]] I (F) Q :=
  tri_of_V (A := (annL [1000] [41, 108] [41, 108] shT_t4 [] [] [] [] [] [] [])) (args := [.a (.v (Value.bool is)), .a (.v (Value.agg #[Value.int .u8 n_0, Value.int .u8 n_1, Value.int .u8 n_2, Value.int .i64 n_3, Value.int .u8 n_4, Value.string n_5, Value.slice n_6_a n_6_n n_6_c, Value.int .i64 n_7]))]) (own := []) (keep := []) [41, 108] Go.Proofs.Try.func101 h (by kernel_rfl) (by kernel_rfl) (by kernel_rfl) (by kernel_rfl) (by kernel_rfl) (by simp [AV.wf, At.wf]) (by simp [AV.wf, At.wf]) rfl
set_option maxRecDepth 100000 in
def tree_do.V (c_d : Nat → Nat × Obj) (nV : Int → Int → Int → Int → Int → ByteArray → Option Addr → Nat → Nat → Int → Value) (vi : Int → Value) (vt : Bool → Value) (d_0 d_1 : Int) (d_2 : ByteArray) (d_3 d_4 d_5 d_6 d_7 : Int) (d_8 : ByteArray) (d_9_a : Option Addr) (d_9_n d_9_c : Nat) (d_10 d_11 d_12 d_13 d_14 d_15 : Int) (d_16 : ByteArray) (d_17_a : Option Addr) (d_17_n d_17_c : Nat) (d_18 d_19 d_20 d_21 d_22 d_23 : Int) (d_24 : ByteArray) (d_25_a : Option Addr) (d_25_n d_25_c : Nat) (d_26 d_27 d_28 d_29 d_30 d_31 : Int) (d_32 : ByteArray) (d_33_a : Option Addr) (d_33_n d_33_c : Nat) (d_34 d_35 : Int) (I : Imm) (F : Heap) (Q : PostQ) (Inv4 : Imm → Heap → Prop) (Inv6 : Imm → Heap → Prop) (Inv8 : Imm → Heap → Prop) (Inv19 : Imm → Heap → Prop) (Inv21 : Imm → Heap → Prop) (Inv23 : Imm → Heap → Prop) : Prop := ∀ b_d : Nat, (((decide (1 ≤ d_0) = true → Tri P 81 (#[vt (decide (d_0 ≤ 6)), vi 120]) I ((c_d b_d) :: F) fun e1 I1 G1 => ((e1 = .returned (Value.tuple #[]) ∧ ∃ F1 : Heap, List.Perm G1 ((c_d b_d) :: F1) ∧ Inv4 I1 F1) ∨ (∃ ch : List PanicEntry, e1 = .panicked ch ∧ ∃ F2 : Heap, List.Perm G1 ((c_d b_d) :: F2) ∧ Q (.panicked ch) I1 (F2)))) ∧ (decide (1 ≤ d_0) = false → Tri P 81 (#[vt false, vi 120]) I ((c_d b_d) :: F) fun e2 I2 G2 => ((e2 = .returned (Value.tuple #[]) ∧ ∃ F3 : Heap, List.Perm G2 ((c_d b_d) :: F3) ∧ Inv4 I2 F3) ∨ (∃ ch1 : List PanicEntry, e2 = .panicked ch1 ∧ ∃ F4 : Heap, List.Perm G2 ((c_d b_d) :: F4) ∧ Q (.panicked ch1) I2 (F4)))))) ∧ ∀ (I3 : Imm) (F5 : Heap), Imm.le I I3 → Inv4 I3 F5 → ((((d_0 == 1) = true → ((decide (1 ≤ d_1) = true → ((decide (d_1 ≤ 5) = true → Tri P 81 (#[vt true, vi 120]) I3 ((c_d b_d) :: F5) fun e3 I4 G3 => ((e3 = .returned (Value.tuple #[]) ∧ ∃ F6 : Heap, List.Perm G3 ((c_d b_d) :: F6) ∧ Inv6 I4 F6) ∨ (∃ ch2 : List PanicEntry, e3 = .panicked ch2 ∧ ∃ F7 : Heap, List.Perm G3 ((c_d b_d) :: F7) ∧ Q (.panicked ch2) I4 (F7)))) ∧ (decide (d_1 ≤ 5) = false → (((!(d_0 == 1)) = true → Tri P 81 (#[vt (d_1 == 0), vi 120]) I3 ((c_d b_d) :: F5) fun e4 I5 G4 => ((e4 = .returned (Value.tuple #[]) ∧ ∃ F8 : Heap, List.Perm G4 ((c_d b_d) :: F8) ∧ Inv6 I5 F8) ∨ (∃ ch3 : List PanicEntry, e4 = .panicked ch3 ∧ ∃ F9 : Heap, List.Perm G4 ((c_d b_d) :: F9) ∧ Q (.panicked ch3) I5 (F9)))) ∧ ((!(d_0 == 1)) = false → Tri P 81 (#[vt false, vi 120]) I3 ((c_d b_d) :: F5) fun e5 I6 G5 => ((e5 = .returned (Value.tuple #[]) ∧ ∃ F10 : Heap, List.Perm G5 ((c_d b_d) :: F10) ∧ Inv6 I6 F10) ∨ (∃ ch4 : List PanicEntry, e5 = .panicked ch4 ∧ ∃ F11 : Heap, List.Perm G5 ((c_d b_d) :: F11) ∧ Q (.panicked ch4) I6 (F11)))))))) ∧ (decide (1 ≤ d_1) = false → (((!(d_0 == 1)) = true → Tri P 81 (#[vt (d_1 == 0), vi 120]) I3 ((c_d b_d) :: F5) fun e6 I7 G6 => ((e6 = .returned (Value.tuple #[]) ∧ ∃ F12 : Heap, List.Perm G6 ((c_d b_d) :: F12) ∧ Inv6 I7 F12) ∨ (∃ ch5 : List PanicEntry, e6 = .panicked ch5 ∧ ∃ F13 : Heap, List.Perm G6 ((c_d b_d) :: F13) ∧ Q (.panicked ch5) I7 (F13)))) ∧ ((!(d_0 == 1)) = false → Tri P 81 (#[vt false, vi 120]) I3 ((c_d b_d) :: F5) fun e7 I8 G7 => ((e7 = .returned (Value.tuple #[]) ∧ ∃ F14 : Heap, List.Perm G7 ((c_d b_d) :: F14) ∧ Inv6 I8 F14) ∨ (∃ ch6 : List PanicEntry, e7 = .panicked ch6 ∧ ∃ F15 : Heap, List.Perm G7 ((c_d b_d) :: F15) ∧ Q (.panicked ch6) I8 (F15)))))))) ∧ ((d_0 == 1) = false → (((!(d_0 == 1)) = true → Tri P 81 (#[vt (d_1 == 0), vi 120]) I3 ((c_d b_d) :: F5) fun e8 I9 G8 => ((e8 = .returned (Value.tuple #[]) ∧ ∃ F16 : Heap, List.Perm G8 ((c_d b_d) :: F16) ∧ Inv6 I9 F16) ∨ (∃ ch7 : List PanicEntry, e8 = .panicked ch7 ∧ ∃ F17 : Heap, List.Perm G8 ((c_d b_d) :: F17) ∧ Q (.panicked ch7) I9 (F17)))) ∧ ((!(d_0 == 1)) = false → Tri P 81 (#[vt false, vi 120]) I3 ((c_d b_d) :: F5) fun e9 I10 G9 => ((e9 = .returned (Value.tuple #[]) ∧ ∃ F18 : Heap, List.Perm G9 ((c_d b_d) :: F18) ∧ Inv6 I10 F18) ∨ (∃ ch8 : List PanicEntry, e9 = .panicked ch8 ∧ ∃ F19 : Heap, List.Perm G9 ((c_d b_d) :: F19) ∧ Q (.panicked ch8) I10 (F19)))))))) ∧ ∀ (I11 : Imm) (F20 : Heap), Imm.le I3 I11 → Inv6 I11 F20 → ((((d_0 == 6) = true → Tri P 81 (#[vt (d_2.toList == (⟨#[]⟩ : ByteArray).toList), vi 120]) I11 ((c_d b_d) :: F20) fun e10 I12 G10 => ((e10 = .returned (Value.tuple #[]) ∧ ∃ F21 : Heap, List.Perm G10 ((c_d b_d) :: F21) ∧ Inv8 I12 F21) ∨ (∃ ch9 : List PanicEntry, e10 = .panicked ch9 ∧ ∃ F22 : Heap, List.Perm G10 ((c_d b_d) :: F22) ∧ Q (.panicked ch9) I12 (F22)))) ∧ ((d_0 == 6) = false → (((!(d_0 == 1)) = true → Tri P 80 (#[Value.string d_2]) I11 ((c_d b_d) :: F20) fun e11 I13 G11 => ((e11 = .returned (Value.tuple #[]) ∧ ∃ F23 : Heap, List.Perm G11 ((c_d b_d) :: F23) ∧ Inv8 I13 F23) ∨ (∃ ch10 : List PanicEntry, e11 = .panicked ch10 ∧ ∃ F24 : Heap, List.Perm G11 ((c_d b_d) :: F24) ∧ Q (.panicked ch10) I13 (F24)))) ∧ ((!(d_0 == 1)) = false → (((!(d_2.toList == (⟨#[]⟩ : ByteArray).toList)) = true → Tri P 80 (#[Value.string d_2]) I11 ((c_d b_d) :: F20) fun e12 I14 G12 => ((e12 = .returned (Value.tuple #[]) ∧ ∃ F25 : Heap, List.Perm G12 ((c_d b_d) :: F25) ∧ Inv8 I14 F25) ∨ (∃ ch11 : List PanicEntry, e12 = .panicked ch11 ∧ ∃ F26 : Heap, List.Perm G12 ((c_d b_d) :: F26) ∧ Q (.panicked ch11) I14 (F26)))) ∧ ((!(d_2.toList == (⟨#[]⟩ : ByteArray).toList)) = false → Inv8 I11 F20))))))) ∧ ∀ (I15 : Imm) (F27 : Heap), Imm.le I11 I15 → Inv8 I15 F27 → (Tri P 101 (#[vt (d_0 == 1), nV d_3 d_4 d_5 d_6 d_7 d_8 d_9_a d_9_n d_9_c d_10]) I15 ((c_d b_d) :: F27) fun e13 I16 G13 => ((e13 = .returned (Value.tuple #[]) ∧ ∃ F28 : Heap, List.Perm G13 ((c_d b_d) :: F28) ∧ Inv19 I16 F28) ∨ (∃ ch12 : List PanicEntry, e13 = .panicked ch12 ∧ ∃ F29 : Heap, List.Perm G13 ((c_d b_d) :: F29) ∧ Q (.panicked ch12) I16 (F29)))) ∧ ∀ (I17 : Imm) (F30 : Heap), Imm.le I15 I17 → Inv19 I17 F30 → ((((d_0 == 1) = true → Tri P 101 (#[vt true, nV d_11 d_12 d_13 d_14 d_15 d_16 d_17_a d_17_n d_17_c d_18]) I17 ((c_d b_d) :: F30) fun e14 I18 G14 => ((e14 = .returned (Value.tuple #[]) ∧ ∃ F31 : Heap, List.Perm G14 ((c_d b_d) :: F31) ∧ Inv21 I18 F31) ∨ (∃ ch13 : List PanicEntry, e14 = .panicked ch13 ∧ ∃ F32 : Heap, List.Perm G14 ((c_d b_d) :: F32) ∧ Q (.panicked ch13) I18 (F32)))) ∧ ((d_0 == 1) = false → Tri P 101 (#[vt (d_0 == 2), nV d_11 d_12 d_13 d_14 d_15 d_16 d_17_a d_17_n d_17_c d_18]) I17 ((c_d b_d) :: F30) fun e15 I19 G15 => ((e15 = .returned (Value.tuple #[]) ∧ ∃ F33 : Heap, List.Perm G15 ((c_d b_d) :: F33) ∧ Inv21 I19 F33) ∨ (∃ ch14 : List PanicEntry, e15 = .panicked ch14 ∧ ∃ F34 : Heap, List.Perm G15 ((c_d b_d) :: F34) ∧ Q (.panicked ch14) I19 (F34)))))) ∧ ∀ (I20 : Imm) (F35 : Heap), Imm.le I17 I20 → Inv21 I20 F35 → ((((d_0 == 1) = true → (((d_1 != 2) = true → Tri P 101 (#[vt true, nV d_19 d_20 d_21 d_22 d_23 d_24 d_25_a d_25_n d_25_c d_26]) I20 ((c_d b_d) :: F35) fun e16 I21 G16 => ((e16 = .returned (Value.tuple #[]) ∧ ∃ F36 : Heap, List.Perm G16 ((c_d b_d) :: F36) ∧ Inv23 I21 F36) ∨ (∃ ch15 : List PanicEntry, e16 = .panicked ch15 ∧ ∃ F37 : Heap, List.Perm G16 ((c_d b_d) :: F37) ∧ Q (.panicked ch15) I21 (F37)))) ∧ ((d_1 != 2) = false → Tri P 101 (#[vt (d_0 == 2), nV d_19 d_20 d_21 d_22 d_23 d_24 d_25_a d_25_n d_25_c d_26]) I20 ((c_d b_d) :: F35) fun e17 I22 G17 => ((e17 = .returned (Value.tuple #[]) ∧ ∃ F38 : Heap, List.Perm G17 ((c_d b_d) :: F38) ∧ Inv23 I22 F38) ∨ (∃ ch16 : List PanicEntry, e17 = .panicked ch16 ∧ ∃ F39 : Heap, List.Perm G17 ((c_d b_d) :: F39) ∧ Q (.panicked ch16) I22 (F39)))))) ∧ ((d_0 == 1) = false → Tri P 101 (#[vt (d_0 == 2), nV d_19 d_20 d_21 d_22 d_23 d_24 d_25_a d_25_n d_25_c d_26]) I20 ((c_d b_d) :: F35) fun e18 I23 G18 => ((e18 = .returned (Value.tuple #[]) ∧ ∃ F40 : Heap, List.Perm G18 ((c_d b_d) :: F40) ∧ Inv23 I23 F40) ∨ (∃ ch17 : List PanicEntry, e18 = .panicked ch17 ∧ ∃ F41 : Heap, List.Perm G18 ((c_d b_d) :: F41) ∧ Q (.panicked ch17) I23 (F41)))))) ∧ ∀ (I24 : Imm) (F42 : Heap), Imm.le I20 I24 → Inv23 I24 F42 → Tri P 101 (#[vt (d_0 == 4), nV d_27 d_28 d_29 d_30 d_31 d_32 d_33_a d_33_n d_33_c d_34]) I24 ((c_d b_d) :: F42) fun e19 I25 G19 => ((e19 = .returned (Value.tuple #[]) ∧ ∃ F43 : Heap, List.Perm G19 ((c_d b_d) :: F43) ∧ Q (.returned (Value.tuple #[])) I25 (F43)) ∨ (∃ ch18 : List PanicEntry, e19 = .panicked ch18 ∧ ∃ F44 : Heap, List.Perm G19 ((c_d b_d) :: F44) ∧ Q (.panicked ch18) I25 (F44)))
set_option maxRecDepth 100000 in
theorem tree_do.vc {d_0 d_1 : Int} {d_2 : ByteArray} {d_3 d_4 d_5 d_6 d_7 : Int} {d_8 : ByteArray} {d_9_a : Option Addr} {d_9_n d_9_c : Nat} {d_10 d_11 d_12 d_13 d_14 d_15 : Int} {d_16 : ByteArray} {d_17_a : Option Addr} {d_17_n d_17_c : Nat} {d_18 d_19 d_20 d_21 d_22 d_23 : Int} {d_24 : ByteArray} {d_25_a : Option Addr} {d_25_n d_25_c : Nat} {d_26 d_27 d_28 d_29 d_30 d_31 : Int} {d_32 : ByteArray} {d_33_a : Option Addr} {d_33_n d_33_c : Nat} {d_34 d_35 : Int} {I : Imm} {F : Heap} {Q : PostQ} (Inv4 : Imm → Heap → Prop) (Inv6 : Imm → Heap → Prop) (Inv8 : Imm → Heap → Prop) (Inv19 : Imm → Heap → Prop) (Inv21 : Imm → Heap → Prop) (Inv23 : Imm → Heap → Prop) (h : tree_do.V (fun b => (b, Obj.cells #[Value.int .u8 d_0, Value.int .u8 d_1, Value.string d_2, Value.int .u8 d_3, Value.int .u8 d_4, Value.int .u8 d_5, Value.int .i64 d_6, Value.int .u8 d_7, Value.string d_8, Value.slice d_9_a d_9_n d_9_c, Value.int .i64 d_10, Value.int .u8 d_11, Value.int .u8 d_12, Value.int .u8 d_13, Value.int .i64 d_14, Value.int .u8 d_15, Value.string d_16, Value.slice d_17_a d_17_n d_17_c, Value.int .i64 d_18, Value.int .u8 d_19, Value.int .u8 d_20, Value.int .u8 d_21, Value.int .i64 d_22, Value.int .u8 d_23, Value.string d_24, Value.slice d_25_a d_25_n d_25_c, Value.int .i64 d_26, Value.int .u8 d_27, Value.int .u8 d_28, Value.int .u8 d_29, Value.int .i64 d_30, Value.int .u8 d_31, Value.string d_32, Value.slice d_33_a d_33_n d_33_c, Value.int .i64 d_34, Value.int .i64 d_35] 135 (0, 0))) (fun k o t n f s a l c q => .agg #[Value.int .u8 k, Value.int .u8 o, Value.int .u8 t, Value.int .i64 n, Value.int .u8 f, Value.string s, Value.slice a l c, Value.int .i64 q]) (.int .i64) .bool d_0 d_1 d_2 d_3 d_4 d_5 d_6 d_7 d_8 d_9_a d_9_n d_9_c d_10 d_11 d_12 d_13 d_14 d_15 d_16 d_17_a d_17_n d_17_c d_18 d_19 d_20 d_21 d_22 d_23 d_24 d_25_a d_25_n d_25_c d_26 d_27 d_28 d_29 d_30 d_31 d_32 d_33_a d_33_n d_33_c d_34 d_35 I F Q Inv4 Inv6 Inv8 Inv19 Inv21 Inv23) : Tri P 93 #[Value.agg #[Value.int .u8 d_0, Value.int .u8 d_1, Value.string d_2, Value.int .u8 d_3, Value.int .u8 d_4, Value.int .u8 d_5, Value.int .i64 d_6, Value.int .u8 d_7, Value.string d_8, Value.slice d_9_a d_9_n d_9_c, Value.int .i64 d_10, Value.int .u8 d_11, Value.int .u8 d_12, Value.int .u8 d_13, Value.int .i64 d_14, Value.int .u8 d_15, Value.string d_16, Value.slice d_17_a d_17_n d_17_c, Value.int .i64 d_18, Value.int .u8 d_19, Value.int .u8 d_20, Value.int .u8 d_21, Value.int .i64 d_22, Value.int .u8 d_23, Value.string d_24, Value.slice d_25_a d_25_n d_25_c, Value.int .i64 d_26, Value.int .u8 d_27, Value.int .u8 d_28, Value.int .u8 d_29, Value.int .i64 d_30, Value.int .u8 d_31, Value.string d_32, Value.slice d_33_a d_33_n d_33_c, Value.int .i64 d_34, Value.int .i64 d_35]] I (F) Q :=
  tri_of_V (A := (annL [2002, 3000, 3004, 3009, 3013, 4002, 6001, 6005, 9000, 10000, 10004] [80, 81, 101] [80, 81, 101] shT_t4 [(4, ⟨[], [], fun _ _ _ vs m I F => match vs with | [] => Inv4  I F | _ => False, [], []⟩), (6, ⟨[], [], fun _ _ _ vs m I F => match vs with | [] => Inv6  I F | _ => False, [], []⟩), (8, ⟨[], [], fun _ _ _ vs m I F => match vs with | [] => Inv8  I F | _ => False, [], []⟩), (19, ⟨[], [], fun _ _ _ vs m I F => match vs with | [] => Inv19  I F | _ => False, [], []⟩), (21, ⟨[], [], fun _ _ _ vs m I F => match vs with | [] => Inv21  I F | _ => False, [], []⟩), (23, ⟨[], [], fun _ _ _ vs m I F => match vs with | [] => Inv23  I F | _ => False, [], []⟩)] [] [] [] [] [] [])) (args := [.a (.v (Value.agg #[Value.int .u8 d_0, Value.int .u8 d_1, Value.string d_2, Value.int .u8 d_3, Value.int .u8 d_4, Value.int .u8 d_5, Value.int .i64 d_6, Value.int .u8 d_7, Value.string d_8, Value.slice d_9_a d_9_n d_9_c, Value.int .i64 d_10, Value.int .u8 d_11, Value.int .u8 d_12, Value.int .u8 d_13, Value.int .i64 d_14, Value.int .u8 d_15, Value.string d_16, Value.slice d_17_a d_17_n d_17_c, Value.int .i64 d_18, Value.int .u8 d_19, Value.int .u8 d_20, Value.int .u8 d_21, Value.int .i64 d_22, Value.int .u8 d_23, Value.string d_24, Value.slice d_25_a d_25_n d_25_c, Value.int .i64 d_26, Value.int .u8 d_27, Value.int .u8 d_28, Value.int .u8 d_29, Value.int .i64 d_30, Value.int .u8 d_31, Value.string d_32, Value.slice d_33_a d_33_n d_33_c, Value.int .i64 d_34, Value.int .i64 d_35]))]) (own := []) (keep := []) [80, 81, 101] Go.Proofs.Try.func93 h (by kernel_rfl) (by kernel_rfl) (by kernel_rfl) (by kernel_rfl) (by kernel_rfl) (by simp [AV.wf, At.wf]) (by simp [AV.wf, At.wf]) rfl
set_option maxRecDepth 100000 in
def tree_begin.V (c_n : Nat → Nat × Obj) (nO : Int → Int → Int → Int → Int → ByteArray → Option Addr → Nat → Nat → Int → Obj) (vb vi : Int → Value) (vt : Bool → Value) (n_0 n_1 n_2 n_3 n_4 : Int) (n_5 : ByteArray) (n_6_a : Option Addr) (n_6_n n_6_c : Nat) (n_7 : Int) (I : Imm) (F : Heap) (Q : PostQ)  : Prop := ∀ b_n : Nat, Tri P 43 (#[Value.agg #[vb n_0, vb n_1, vb n_2, vi n_3, vb n_4, Value.string n_5, Value.slice n_6_a n_6_n n_6_c, vi n_7]]) I ((c_n b_n) :: F) fun e1 I1 G1 => ((e1 = .returned (Value.tuple #[]) ∧ ∃ F1 : Heap, List.Perm G1 ((c_n b_n) :: F1) ∧ (((n_0 == 5) = true → (((n_1 == 1) = true → ((0 ≤ (0 : Int) ∧ (0 : Int) < (n_6_n : Int)) ∧ ∃ ad : Addr, n_6_a = some ad ∧ ∃ (m_0 m_1 m_2 m_3 m_4 : Int) (m_5 : ByteArray) (m_6_a : Option Addr) (m_6_n m_6_c : Nat) (m_7 : Int), Rd I1 ((c_n b_n) :: F1) (ad.add (Int.toNat (0) * 8)) [vb m_0, vb m_1, vb m_2, vi m_3, vb m_4, Value.string m_5, Value.slice m_6_a m_6_n m_6_c, vi m_7] ∧ (((m_0 == 1) = true → Tri P 81 (#[vt (decide (m_2 ≤ 4)), vi 120]) I1 ((b_n, nO m_0 m_1 m_2 m_3 m_4 m_5 m_6_a m_6_n m_6_c m_7) :: F1) fun e2 I2 G2 => ((e2 = .returned (Value.tuple #[]) ∧ ∃ F2 : Heap, List.Perm G2 ((b_n, nO m_0 m_1 m_2 m_3 m_4 m_5 m_6_a m_6_n m_6_c m_7) :: F2) ∧ Tri P 81 (#[vt (m_0 == 1), vi 120]) I2 ((b_n, nO m_0 m_1 m_2 m_3 m_4 m_5 m_6_a m_6_n m_6_c m_7) :: F2) fun e3 I3 G3 => ((e3 = .returned (Value.tuple #[]) ∧ ∃ F3 : Heap, List.Perm G3 ((b_n, nO m_0 m_1 m_2 m_3 m_4 m_5 m_6_a m_6_n m_6_c m_7) :: F3) ∧ Q (.returned (Value.tuple #[])) I3 (F3)) ∨ (∃ ch : List PanicEntry, e3 = .panicked ch ∧ ∃ F4 : Heap, List.Perm G3 ((b_n, nO m_0 m_1 m_2 m_3 m_4 m_5 m_6_a m_6_n m_6_c m_7) :: F4) ∧ Q (.panicked ch) I3 (F4)))) ∨ (∃ ch1 : List PanicEntry, e2 = .panicked ch1 ∧ ∃ F5 : Heap, List.Perm G2 ((b_n, nO m_0 m_1 m_2 m_3 m_4 m_5 m_6_a m_6_n m_6_c m_7) :: F5) ∧ Q (.panicked ch1) I2 (F5)))) ∧ ((m_0 == 1) = false → Tri P 81 (#[vt false, vi 120]) I1 ((b_n, nO m_0 m_1 m_2 m_3 m_4 m_5 m_6_a m_6_n m_6_c m_7) :: F1) fun e4 I4 G4 => ((e4 = .returned (Value.tuple #[]) ∧ ∃ F6 : Heap, List.Perm G4 ((b_n, nO m_0 m_1 m_2 m_3 m_4 m_5 m_6_a m_6_n m_6_c m_7) :: F6) ∧ Tri P 81 (#[vt (m_0 == 1), vi 120]) I4 ((b_n, nO m_0 m_1 m_2 m_3 m_4 m_5 m_6_a m_6_n m_6_c m_7) :: F6) fun e5 I5 G5 => ((e5 = .returned (Value.tuple #[]) ∧ ∃ F7 : Heap, List.Perm G5 ((b_n, nO m_0 m_1 m_2 m_3 m_4 m_5 m_6_a m_6_n m_6_c m_7) :: F7) ∧ Q (.returned (Value.tuple #[])) I5 (F7)) ∨ (∃ ch2 : List PanicEntry, e5 = .panicked ch2 ∧ ∃ F8 : Heap, List.Perm G5 ((b_n, nO m_0 m_1 m_2 m_3 m_4 m_5 m_6_a m_6_n m_6_c m_7) :: F8) ∧ Q (.panicked ch2) I5 (F8)))) ∨ (∃ ch3 : List PanicEntry, e4 = .panicked ch3 ∧ ∃ F9 : Heap, List.Perm G4 ((b_n, nO m_0 m_1 m_2 m_3 m_4 m_5 m_6_a m_6_n m_6_c m_7) :: F9) ∧ Q (.panicked ch3) I4 (F9))))))) ∧ ((n_1 == 1) = false → Tri P 81 (#[vt (n_0 == 1), vi 120]) I1 ((c_n b_n) :: F1) fun e6 I6 G6 => ((e6 = .returned (Value.tuple #[]) ∧ ∃ F10 : Heap, List.Perm G6 ((c_n b_n) :: F10) ∧ Q (.returned (Value.tuple #[])) I6 (F10)) ∨ (∃ ch4 : List PanicEntry, e6 = .panicked ch4 ∧ ∃ F11 : Heap, List.Perm G6 ((c_n b_n) :: F11) ∧ Q (.panicked ch4) I6 (F11)))))) ∧ ((n_0 == 5) = false → Tri P 81 (#[vt (n_0 == 1), vi 120]) I1 ((c_n b_n) :: F1) fun e7 I7 G7 => ((e7 = .returned (Value.tuple #[]) ∧ ∃ F12 : Heap, List.Perm G7 ((c_n b_n) :: F12) ∧ Q (.returned (Value.tuple #[])) I7 (F12)) ∨ (∃ ch5 : List PanicEntry, e7 = .panicked ch5 ∧ ∃ F13 : Heap, List.Perm G7 ((c_n b_n) :: F13) ∧ Q (.panicked ch5) I7 (F13)))))) ∨ (∃ ch6 : List PanicEntry, e1 = .panicked ch6 ∧ ∃ F14 : Heap, List.Perm G1 ((c_n b_n) :: F14) ∧ Q (.panicked ch6) I1 (F14)))
set_option maxRecDepth 100000 in
theorem tree_begin.vc {n_0 n_1 n_2 n_3 n_4 : Int} {n_5 : ByteArray} {n_6_a : Option Addr} {n_6_n n_6_c : Nat} {n_7 : Int} {I : Imm} {F : Heap} {Q : PostQ}  (h : tree_begin.V (fun b => (b, Obj.cells #[Value.int .u8 n_0, Value.int .u8 n_1, Value.int .u8 n_2, Value.int .i64 n_3, Value.int .u8 n_4, Value.string n_5, Value.slice n_6_a n_6_n n_6_c, Value.int .i64 n_7] 28 (0, 0))) (fun k o t n f s a l c q => .cells #[Value.int .u8 k, Value.int .u8 o, Value.int .u8 t, Value.int .i64 n, Value.int .u8 f, Value.string s, Value.slice a l c, Value.int .i64 q] 28 (0, 0)) (.int .u8) (.int .i64) .bool n_0 n_1 n_2 n_3 n_4 n_5 n_6_a n_6_n n_6_c n_7 I F Q) : Tri P 82 #[Value.agg #[Value.int .u8 n_0, Value.int .u8 n_1, Value.int .u8 n_2, Value.int .i64 n_3, Value.int .u8 n_4, Value.string n_5, Value.slice n_6_a n_6_n n_6_c, Value.int .i64 n_7]] I (F) Q :=
  tri_of_V (A := (annL [2002, 2006, 4002] [43, 81] [43, 81] shT_t4 [] [] [] [] [] [] [])) (args := [.a (.v (Value.agg #[Value.int .u8 n_0, Value.int .u8 n_1, Value.int .u8 n_2, Value.int .i64 n_3, Value.int .u8 n_4, Value.string n_5, Value.slice n_6_a n_6_n n_6_c, Value.int .i64 n_7]))]) (own := []) (keep := []) [43, 81] Go.Proofs.Try.func82 h (by kernel_rfl) (by kernel_rfl) (by kernel_rfl) (by kernel_rfl) (by kernel_rfl) (by simp [AV.wf, At.wf]) (by simp [AV.wf, At.wf]) rfl
set_option maxRecDepth 100000 in
def tree_rule.V (c_r : Nat → Nat × Obj) (vb vi : Int → Value) (vs : ByteArray → Value) (vl : Option Addr → Nat → Nat → Value) (r_0 r_1 r_2 r_3 r_4 : Int) (r_5 : ByteArray) (r_6_a : Option Addr) (r_6_n r_6_c : Nat) (r_7 : Int) (r_8_a : Option Addr) (r_8_n r_8_c : Nat) (r_9 : Int) (I : Imm) (F : Heap) (Q : PostQ) (Inv11 : Int → Nat → Imm → Heap → Prop) : Prop := ∀ b_r : Nat, Tri P 41 (#[Value.agg #[vb r_0, vb r_1, vb r_2, vi r_3, vb r_4, vs r_5, vl r_6_a r_6_n r_6_c, vi r_7]]) I ((c_r b_r) :: F) fun e1 I1 G1 => ((e1 = .returned (Value.tuple #[]) ∧ ∃ F1 : Heap, List.Perm G1 ((c_r b_r) :: F1) ∧ Tri P 81 (#[Value.bool (decide (((r_8_n : Nat) : Int) > 0)), vi 120]) I1 ((c_r b_r) :: F1) fun e2 I2 G2 => ((e2 = .returned (Value.tuple #[]) ∧ ∃ F2 : Heap, List.Perm G2 ((c_r b_r) :: F2) ∧ Tri P 81 (#[Value.bool (decide (((r_8_n : Nat) : Int) ≤ 8)), vi 121]) I2 ((c_r b_r) :: F2) fun e3 I3 G3 => ((e3 = .returned (Value.tuple #[]) ∧ ∃ F3 : Heap, List.Perm G3 ((c_r b_r) :: F3) ∧ (∃ m : Nat, Inv11 0 m I3 F3) ∧ ∀ (x : Int) (m1 : Nat) (I4 : Imm) (F4 : Heap), Imm.le I3 I4 → Inv11 x m1 I4 F4 → ((decide (x < ((r_8_n : Nat) : Int)) = true → ((0 ≤ x ∧ x < (r_8_n : Int)) ∧ ∃ ad : Addr, r_8_a = some ad ∧ ∃ (m_0 m_1 : Int) (m_2 : ByteArray) (m_3 m_4 m_5 m_6 m_7 : Int) (m_8 : ByteArray) (m_9_a : Option Addr) (m_9_n m_9_c : Nat) (m_10 m_11 m_12 m_13 m_14 m_15 : Int) (m_16 : ByteArray) (m_17_a : Option Addr) (m_17_n m_17_c : Nat) (m_18 m_19 m_20 m_21 m_22 m_23 : Int) (m_24 : ByteArray) (m_25_a : Option Addr) (m_25_n m_25_c : Nat) (m_26 m_27 m_28 m_29 m_30 m_31 : Int) (m_32 : ByteArray) (m_33_a : Option Addr) (m_33_n m_33_c : Nat) (m_34 m_35 : Int), Rd I4 ((c_r b_r) :: F4) (ad.add (Int.toNat (x) * 36)) [vb m_0, vb m_1, vs m_2, vb m_3, vb m_4, vb m_5, vi m_6, vb m_7, vs m_8, vl m_9_a m_9_n m_9_c, vi m_10, vb m_11, vb m_12, vb m_13, vi m_14, vb m_15, vs m_16, vl m_17_a m_17_n m_17_c, vi m_18, vb m_19, vb m_20, vb m_21, vi m_22, vb m_23, vs m_24, vl m_25_a m_25_n m_25_c, vi m_26, vb m_27, vb m_28, vb m_29, vi m_30, vb m_31, vs m_32, vl m_33_a m_33_n m_33_c, vi m_34, vi m_35] ∧ ∀ b_d : Nat, Tri P 93 (#[Value.agg #[vb m_0, vb m_1, vs m_2, vb m_3, vb m_4, vb m_5, vi m_6, vb m_7, vs m_8, vl m_9_a m_9_n m_9_c, vi m_10, vb m_11, vb m_12, vb m_13, vi m_14, vb m_15, vs m_16, vl m_17_a m_17_n m_17_c, vi m_18, vb m_19, vb m_20, vb m_21, vi m_22, vb m_23, vs m_24, vl m_25_a m_25_n m_25_c, vi m_26, vb m_27, vb m_28, vb m_29, vi m_30, vb m_31, vs m_32, vl m_33_a m_33_n m_33_c, vi m_34, vi m_35]]) I4 ((c_r b_r) :: (b_d, Obj.cells #[vb m_0, vb m_1, vs m_2, vb m_3, vb m_4, vb m_5, vi m_6, vb m_7, vs m_8, vl m_9_a m_9_n m_9_c, vi m_10, vb m_11, vb m_12, vb m_13, vi m_14, vb m_15, vs m_16, vl m_17_a m_17_n m_17_c, vi m_18, vb m_19, vb m_20, vb m_21, vi m_22, vb m_23, vs m_24, vl m_25_a m_25_n m_25_c, vi m_26, vb m_27, vb m_28, vb m_29, vi m_30, vb m_31, vs m_32, vl m_33_a m_33_n m_33_c, vi m_34, vi m_35] 135 (0, 0)) :: F4) fun e4 I5 G4 => ((e4 = .returned (Value.tuple #[]) ∧ ∃ F5 : Heap, List.Perm G4 ((c_r b_r) :: (b_d, Obj.cells #[vb m_0, vb m_1, vs m_2, vb m_3, vb m_4, vb m_5, vi m_6, vb m_7, vs m_8, vl m_9_a m_9_n m_9_c, vi m_10, vb m_11, vb m_12, vb m_13, vi m_14, vb m_15, vs m_16, vl m_17_a m_17_n m_17_c, vi m_18, vb m_19, vb m_20, vb m_21, vi m_22, vb m_23, vs m_24, vl m_25_a m_25_n m_25_c, vi m_26, vb m_27, vb m_28, vb m_29, vi m_30, vb m_31, vs m_32, vl m_33_a m_33_n m_33_c, vi m_34, vi m_35] 135 (0, 0)) :: F5) ∧ (∃ m2 : Nat, m2 < m1 ∧ Inv11 (IntKind.wrap .i64 (x + 1)) m2 I5 F5)) ∨ (∃ ch : List PanicEntry, e4 = .panicked ch ∧ ∃ F6 : Heap, List.Perm G4 ((c_r b_r) :: (b_d, Obj.cells #[vb m_0, vb m_1, vs m_2, vb m_3, vb m_4, vb m_5, vi m_6, vb m_7, vs m_8, vl m_9_a m_9_n m_9_c, vi m_10, vb m_11, vb m_12, vb m_13, vi m_14, vb m_15, vs m_16, vl m_17_a m_17_n m_17_c, vi m_18, vb m_19, vb m_20, vb m_21, vi m_22, vb m_23, vs m_24, vl m_25_a m_25_n m_25_c, vi m_26, vb m_27, vb m_28, vb m_29, vi m_30, vb m_31, vs m_32, vl m_33_a m_33_n m_33_c, vi m_34, vi m_35] 135 (0, 0)) :: F6) ∧ Q (.panicked ch) I5 (F6))))) ∧ (decide (x < ((r_8_n : Nat) : Int)) = false → Q (.returned (Value.tuple #[])) I4 (F4)))) ∨ (∃ ch1 : List PanicEntry, e3 = .panicked ch1 ∧ ∃ F7 : Heap, List.Perm G3 ((c_r b_r) :: F7) ∧ Q (.panicked ch1) I3 (F7)))) ∨ (∃ ch2 : List PanicEntry, e2 = .panicked ch2 ∧ ∃ F8 : Heap, List.Perm G2 ((c_r b_r) :: F8) ∧ Q (.panicked ch2) I2 (F8)))) ∨ (∃ ch3 : List PanicEntry, e1 = .panicked ch3 ∧ ∃ F9 : Heap, List.Perm G1 ((c_r b_r) :: F9) ∧ Q (.panicked ch3) I1 (F9)))
set_option maxRecDepth 100000 in
theorem tree_rule.vc {r_0 r_1 r_2 r_3 r_4 : Int} {r_5 : ByteArray} {r_6_a : Option Addr} {r_6_n r_6_c : Nat} {r_7 : Int} {r_8_a : Option Addr} {r_8_n r_8_c : Nat} {r_9 : Int} {I : Imm} {F : Heap} {Q : PostQ} (Inv11 : Int → Nat → Imm → Heap → Prop) (h : tree_rule.V (fun b => (b, Obj.cells #[Value.int .u8 r_0, Value.int .u8 r_1, Value.int .u8 r_2, Value.int .i64 r_3, Value.int .u8 r_4, Value.string r_5, Value.slice r_6_a r_6_n r_6_c, Value.int .i64 r_7, Value.slice r_8_a r_8_n r_8_c, Value.int .i64 r_9] 90 (0, 0))) (.int .u8) (.int .i64) .string .slice r_0 r_1 r_2 r_3 r_4 r_5 r_6_a r_6_n r_6_c r_7 r_8_a r_8_n r_8_c r_9 I F Q Inv11) : Tri P 83 #[Value.agg #[Value.int .u8 r_0, Value.int .u8 r_1, Value.int .u8 r_2, Value.int .i64 r_3, Value.int .u8 r_4, Value.string r_5, Value.slice r_6_a r_6_n r_6_c, Value.int .i64 r_7, Value.slice r_8_a r_8_n r_8_c, Value.int .i64 r_9]] I (F) Q :=
  tri_of_V (A := (annL [5000] [41, 81, 93] [41, 81, 93] shT_t4 [(11, ⟨[(20, (.int .i64))], [], fun _ _ _ vs m I F => match vs with | [.int _ y0] => Inv11 y0 m I F | _ => False, [], []⟩)] [] [] [] [] [] [])) (args := [.a (.v (Value.agg #[Value.int .u8 r_0, Value.int .u8 r_1, Value.int .u8 r_2, Value.int .i64 r_3, Value.int .u8 r_4, Value.string r_5, Value.slice r_6_a r_6_n r_6_c, Value.int .i64 r_7, Value.slice r_8_a r_8_n r_8_c, Value.int .i64 r_9]))]) (own := []) (keep := []) [41, 81, 93] Go.Proofs.Try.func83 h (by kernel_rfl) (by kernel_rfl) (by kernel_rfl) (by kernel_rfl) (by kernel_rfl) (by simp [AV.wf, At.wf]) (by simp [AV.wf, At.wf]) rfl
set_option maxRecDepth 100000 in
def law12_farExpr.V (nO : Int → Int → Int → Int → Int → ByteArray → Option Addr → Nat → Nat → Int → Obj) (vb vi : Int → Value) (n_0 n_1 n_2 n_3 n_4 : Int) (n_5 : ByteArray) (n_6_a : Option Addr) (n_6_n n_6_c : Nat) (n_7 : Int) (I : Imm) (F : Heap) (Q : PostQ)  : Prop := ∀ b_n : Nat, Tri P 38 (#[Value.agg #[vb n_0, vb n_1, vb n_2, vi n_3, vb n_4, Value.string n_5, Value.slice n_6_a n_6_n n_6_c, vi n_7], vi 0, vi 0]) I ((b_n, nO n_0 n_1 n_2 n_3 n_4 n_5 n_6_a n_6_n n_6_c n_7) :: F) fun e1 I1 G1 => ∃ (r : Int), e1 = .returned (vi r) ∧ ∃ F1 : Heap, List.Perm G1 ((b_n, nO n_0 n_1 n_2 n_3 n_4 n_5 n_6_a n_6_n n_6_c n_7) :: F1) ∧ Q (.returned (Value.bool (decide (r > 1048576)))) I1 (F1)
set_option maxRecDepth 100000 in
theorem law12_farExpr.vc {n_0 n_1 n_2 n_3 n_4 : Int} {n_5 : ByteArray} {n_6_a : Option Addr} {n_6_n n_6_c : Nat} {n_7 : Int} {I : Imm} {F : Heap} {Q : PostQ}  (h : law12_farExpr.V (fun k o t n f s a l c q => .cells #[Value.int .u8 k, Value.int .u8 o, Value.int .u8 t, Value.int .i64 n, Value.int .u8 f, Value.string s, Value.slice a l c, Value.int .i64 q] 28 (0, 0)) (.int .u8) (.int .i64) n_0 n_1 n_2 n_3 n_4 n_5 n_6_a n_6_n n_6_c n_7 I F Q) : Tri P 9 #[Value.agg #[Value.int .u8 n_0, Value.int .u8 n_1, Value.int .u8 n_2, Value.int .i64 n_3, Value.int .u8 n_4, Value.string n_5, Value.slice n_6_a n_6_n n_6_c, Value.int .i64 n_7]] I (F) Q :=
  tri_of_V (A := (annL [] [] [38] shT_t4 [] [] [] [] [] [] [])) (args := [.a (.v (Value.agg #[Value.int .u8 n_0, Value.int .u8 n_1, Value.int .u8 n_2, Value.int .i64 n_3, Value.int .u8 n_4, Value.string n_5, Value.slice n_6_a n_6_n n_6_c, Value.int .i64 n_7]))]) (own := []) (keep := []) [38] Go.Proofs.Try.func9 h (by kernel_rfl) (by kernel_rfl) (by kernel_rfl) (by kernel_rfl) (by kernel_rfl) (by simp [AV.wf, At.wf]) (by simp [AV.wf, At.wf]) rfl
set_option maxRecDepth 100000 in
def law12_sum.V (vb vi : Int → Value) (vs : ByteArray → Value) (vl : Option Addr → Nat → Nat → Value) (I : Imm) (F : Heap) (Q : PostQ)  : Prop := ∀ b : Nat, ∀ (b1 : Nat) (I1 : Imm), Imm.le I I1 → I1 b1 = some (Obj.cells #[vb 1, vb 0, vb 1, vi 2, vb 0, vs (⟨#[]⟩ : ByteArray), vl none 0 0, vi 0, vb 1, vb 0, vb 1, vi 3, vb 0, vs (⟨#[]⟩ : ByteArray), vl none 0 0, vi 0] 28 (0, 0)) → ∀ b_in : Nat, ∀ (b2 : Nat) (I2 : Imm), Imm.le I1 I2 → I2 b2 = some (Obj.cells #[vb 1, vb 0, vb 1, vi 1, vb 0, vs (⟨#[]⟩ : ByteArray), vl none 0 0, vi 0, vb 6, vb 6, vb 0, vi 0, vb 0, vs (⟨#[]⟩ : ByteArray), vl (some ⟨b1, 0, none⟩) 2 2, vi 5] 28 (0, 0)) → Q (.returned (Value.agg #[vb 6, vb 6, vb 0, vi 0, vb 0, vs (⟨#[]⟩ : ByteArray), vl (some ⟨b2, 0, none⟩) 2 2, vi 0])) I2 (F)
set_option maxRecDepth 100000 in
theorem law12_sum.vc  {I : Imm} {F : Heap} {Q : PostQ}  (h : law12_sum.V (.int .u8) (.int .i64) .string .slice I F Q) : Tri P 35 #[] I (F) Q :=
  tri_of_V (A := (annL [] [] [] shT_t4 [] [1002, 2002] [] [] [] [] [])) (args := []) (own := []) (keep := []) [] Go.Proofs.Try.func35 h (by kernel_rfl) (by kernel_rfl) (by kernel_rfl) (by kernel_rfl) (by kernel_rfl) (by simp [AV.wf, At.wf]) (by simp [AV.wf, At.wf]) rfl
set_option maxRecDepth 100000 in
def law12_least.V (vb vi : Int → Value) (vs : ByteArray → Value) (vl : Option Addr → Nat → Nat → Value) (I : Imm) (F : Heap) (Q : PostQ)  : Prop := ∀ b : Nat, ∀ b_when : Nat, ∀ (b1 : Nat) (I1 : Imm), Imm.le I I1 → I1 b1 = some (Obj.cells #[vb 6, vb 0, vs (⟨#[]⟩ : ByteArray), vb 0, vb 0, vb 0, vi 0, vb 0, vs (⟨#[]⟩ : ByteArray), vl none 0 0, vi 0, vb 0, vb 0, vb 0, vi 0, vb 0, vs (⟨#[]⟩ : ByteArray), vl none 0 0, vi 0, vb 0, vb 0, vb 0, vi 0, vb 0, vs (⟨#[]⟩ : ByteArray), vl none 0 0, vi 0, vb 0, vb 0, vb 0, vi 0, vb 0, vs (⟨#[]⟩ : ByteArray), vl none 0 0, vi 0, vi 0] 135 (0, 0)) → ∀ (b2 : Nat) (I2 : Imm), Imm.le I1 I2 → I2 b2 = some (Obj.cells #[vb 4, vb 0, vb 0, vi 0, vb 1, vs (⟨#[]⟩ : ByteArray), vl none 0 0, vi 0, vl (some ⟨b1, 0, none⟩) 1 1, vi 0] 90 (0, 0)) → ∀ (b3 : Nat) (I3 : Imm), Imm.le I2 I3 → I3 b3 = some (Obj.cells #[vs (⟨#[97]⟩ : ByteArray), vl (some ⟨b2, 0, none⟩) 1 1, vi 0] 93 (0, 0)) → Q (.returned (Value.agg #[vs (⟨#[115]⟩ : ByteArray), vl none 0 0, vl none 0 0, vl (some ⟨b3, 0, none⟩) 1 1])) I3 (F)
set_option maxRecDepth 100000 in
theorem law12_least.vc  {I : Imm} {F : Heap} {Q : PostQ}  (h : law12_least.V (.int .u8) (.int .i64) .string .slice I F Q) : Tri P 37 #[] I (F) Q :=
  tri_of_V (A := (annL [] [] [] shT_t4 [] [2002, 2004, 2006] [] [] [] [] [])) (args := []) (own := []) (keep := []) [] Go.Proofs.Try.func37 h (by kernel_rfl) (by kernel_rfl) (by kernel_rfl) (by kernel_rfl) (by kernel_rfl) (by simp [AV.wf, At.wf]) (by simp [AV.wf, At.wf]) rfl
set_option maxRecDepth 100000 in
def law12_awake.V (nV : Int → Int → Int → Int → Int → ByteArray → Option Addr → Nat → Nat → Int → Value) (nO : Int → Int → Int → Int → Int → ByteArray → Option Addr → Nat → Nat → Int → Obj) (vb vi : Int → Value) (vs : ByteArray → Value) (vl : Option Addr → Nat → Nat → Value) (vt : Bool → Value) (I : Imm) (F : Heap) (Q : PostQ)  : Prop := Tri P 35 (#[]) I (F) fun e1 I1 G1 => ∃ (r_0 r_1 r_2 r_3 r_4 : Int) (r_5 : ByteArray) (r_6_a : Option Addr) (r_6_n r_6_c : Nat) (r_7 : Int), e1 = .returned (nV r_0 r_1 r_2 r_3 r_4 r_5 r_6_a r_6_n r_6_c r_7) ∧ ∃ F1 : Heap, List.Perm G1 (F1) ∧ ∀ b_n : Nat, Tri P 12 (#[nV r_0 r_1 r_2 r_3 r_4 r_5 r_6_a r_6_n r_6_c r_7]) I1 ((b_n, nO r_0 r_1 r_2 r_3 r_4 r_5 r_6_a r_6_n r_6_c r_7) :: F1) fun e2 I2 G2 => ∃ (r : Int), e2 = .returned (vi r) ∧ ∃ F2 : Heap, List.Perm G2 ((b_n, nO r_0 r_1 r_2 r_3 r_4 r_5 r_6_a r_6_n r_6_c r_7) :: F2) ∧ Tri P 13 (#[nV r_0 r_1 r_2 r_3 r_4 r_5 r_6_a r_6_n r_6_c r_7]) I2 ((b_n, nO r_0 r_1 r_2 r_3 r_4 r_5 r_6_a r_6_n r_6_c r_7) :: F2) fun e3 I3 G3 => ∃ (r1 : Int), e3 = .returned (vi r1) ∧ ∃ F3 : Heap, List.Perm G3 ((b_n, nO r_0 r_1 r_2 r_3 r_4 r_5 r_6_a r_6_n r_6_c r_7) :: F3) ∧ Tri P 14 (#[nV r_0 r_1 r_2 r_3 r_4 r_5 r_6_a r_6_n r_6_c r_7]) I3 ((b_n, nO r_0 r_1 r_2 r_3 r_4 r_5 r_6_a r_6_n r_6_c r_7) :: F3) fun e4 I4 G4 => ∃ (r2 : Int), e4 = .returned (vi r2) ∧ ∃ F4 : Heap, List.Perm G4 ((b_n, nO r_0 r_1 r_2 r_3 r_4 r_5 r_6_a r_6_n r_6_c r_7) :: F4) ∧ Tri P 11 (#[nV r_0 r_1 r_2 r_3 r_4 r_5 r_6_a r_6_n r_6_c r_7]) I4 ((b_n, nO r_0 r_1 r_2 r_3 r_4 r_5 r_6_a r_6_n r_6_c r_7) :: F4) fun e5 I5 G5 => ∃ (r3 : Int), e5 = .returned (vi r3) ∧ ∃ F5 : Heap, List.Perm G5 ((b_n, nO r_0 r_1 r_2 r_3 r_4 r_5 r_6_a r_6_n r_6_c r_7) :: F5) ∧ Tri P 11 (#[nV 1 0 6 0 0 (⟨#[]⟩ : ByteArray) none 0 0 0]) I5 ((b_n, nO r_0 r_1 r_2 r_3 r_4 r_5 r_6_a r_6_n r_6_c r_7) :: F5) fun e6 I6 G6 => ∃ (r4 : Int), e6 = .returned (vi r4) ∧ ∃ F6 : Heap, List.Perm G6 ((b_n, nO r_0 r_1 r_2 r_3 r_4 r_5 r_6_a r_6_n r_6_c r_7) :: F6) ∧ Tri P 37 (#[]) I6 ((b_n, nO r_0 r_1 r_2 r_3 r_4 r_5 r_6_a r_6_n r_6_c r_7) :: F6) fun e7 I7 G7 => ∃ (r_01 : ByteArray) (r_1_a : Option Addr) (r_1_n r_1_c : Nat) (r_2_a : Option Addr) (r_2_n r_2_c : Nat) (r_3_a : Option Addr) (r_3_n r_3_c : Nat), e7 = .returned (Value.agg #[vs r_01, vl r_1_a r_1_n r_1_c, vl r_2_a r_2_n r_2_c, vl r_3_a r_3_n r_3_c]) ∧ ∃ F7 : Heap, List.Perm G7 ((b_n, nO r_0 r_1 r_2 r_3 r_4 r_5 r_6_a r_6_n r_6_c r_7) :: F7) ∧ Tri P 36 (#[Value.agg #[vs r_01, vl r_1_a r_1_n r_1_c, vl r_2_a r_2_n r_2_c, vl r_3_a r_3_n r_3_c]]) I7 ((b_n, nO r_0 r_1 r_2 r_3 r_4 r_5 r_6_a r_6_n r_6_c r_7) :: F7) fun e8 I8 G8 => ∃ (r5 : Int), e8 = .returned (vi r5) ∧ ∃ F8 : Heap, List.Perm G8 ((b_n, nO r_0 r_1 r_2 r_3 r_4 r_5 r_6_a r_6_n r_6_c r_7) :: F8) ∧ Tri P 36 (#[Value.agg #[vs (⟨#[115]⟩ : ByteArray), vl none 0 0, vl none 0 0, vl none 0 0]]) I8 ((b_n, nO r_0 r_1 r_2 r_3 r_4 r_5 r_6_a r_6_n r_6_c r_7) :: F8) fun e9 I9 G9 => ∃ (r6 : Int), e9 = .returned (vi r6) ∧ ∃ F9 : Heap, List.Perm G9 ((b_n, nO r_0 r_1 r_2 r_3 r_4 r_5 r_6_a r_6_n r_6_c r_7) :: F9) ∧ Tri P 37 (#[]) I9 ((b_n, nO r_0 r_1 r_2 r_3 r_4 r_5 r_6_a r_6_n r_6_c r_7) :: F9) fun e10 I10 G10 => ∃ (r_02 : ByteArray) (r_1_a1 : Option Addr) (r_1_n1 r_1_c1 : Nat) (r_2_a1 : Option Addr) (r_2_n1 r_2_c1 : Nat) (r_3_a1 : Option Addr) (r_3_n1 r_3_c1 : Nat), e10 = .returned (Value.agg #[vs r_02, vl r_1_a1 r_1_n1 r_1_c1, vl r_2_a1 r_2_n1 r_2_c1, vl r_3_a1 r_3_n1 r_3_c1]) ∧ ∃ F10 : Heap, List.Perm G10 ((b_n, nO r_0 r_1 r_2 r_3 r_4 r_5 r_6_a r_6_n r_6_c r_7) :: F10) ∧ ((0 ≤ (0 : Int) ∧ (0 : Int) < (r_3_n1 : Int)) ∧ ∃ ad : Addr, r_3_a1 = some ad ∧ ∃ (m_a : Option Addr) (m_n m_c : Nat), Rd I10 ((b_n, nO r_0 r_1 r_2 r_3 r_4 r_5 r_6_a r_6_n r_6_c r_7) :: F10) ((ad.add (Int.toNat (0) * 3)).add 1) [vl m_a m_n m_c] ∧ ((0 ≤ (0 : Int) ∧ (0 : Int) < (m_n : Int)) ∧ ∃ ad1 : Addr, m_a = some ad1 ∧ ∃ (m_0 m_1 m_2 m_3 m_4 : Int) (m_5 : ByteArray) (m_6_a : Option Addr) (m_6_n m_6_c : Nat) (m_7 : Int), Rd I10 ((b_n, nO r_0 r_1 r_2 r_3 r_4 r_5 r_6_a r_6_n r_6_c r_7) :: F10) ((ad1.add (Int.toNat (0) * 10)).add 0) [vb m_0, vb m_1, vb m_2, vi m_3, vb m_4, vs m_5, vl m_6_a m_6_n m_6_c, vi m_7] ∧ Tri P 27 (#[nV m_0 m_1 m_2 m_3 m_4 m_5 m_6_a m_6_n m_6_c m_7]) I10 ((b_n, nO r_0 r_1 r_2 r_3 r_4 r_5 r_6_a r_6_n r_6_c r_7) :: F10) fun e11 I11 G11 => ∃ (r0 : Int) (r1_a : Option Addr) (r1_n r1_c : Nat), e11 = .returned (Value.tuple #[Value.int .u16 r0, vl r1_a r1_n r1_c]) ∧ ∃ F11 : Heap, List.Perm G11 ((b_n, nO r_0 r_1 r_2 r_3 r_4 r_5 r_6_a r_6_n r_6_c r_7) :: F11) ∧ Tri P 16 (#[nV r_0 r_1 r_2 r_3 r_4 r_5 r_6_a r_6_n r_6_c r_7]) I11 ((b_n, nO r_0 r_1 r_2 r_3 r_4 r_5 r_6_a r_6_n r_6_c r_7) :: F11) fun e12 I12 G12 => ∃ (r_03 r_11 r_21 r_31 r_41 : Int) (r_51 : ByteArray) (r_6_a1 : Option Addr) (r_6_n1 r_6_c1 : Nat) (r_71 : Int), e12 = .returned (nV r_03 r_11 r_21 r_31 r_41 r_51 r_6_a1 r_6_n1 r_6_c1 r_71) ∧ ∃ F12 : Heap, List.Perm G12 ((b_n, nO r_0 r_1 r_2 r_3 r_4 r_5 r_6_a r_6_n r_6_c r_7) :: F12) ∧ ∀ b_b : Nat, Tri P 15 (#[nV r_0 r_1 r_2 r_3 r_4 r_5 r_6_a r_6_n r_6_c r_7, nV r_03 r_11 r_21 r_31 r_41 r_51 r_6_a1 r_6_n1 r_6_c1 r_71]) I12 ((b_n, nO r_0 r_1 r_2 r_3 r_4 r_5 r_6_a r_6_n r_6_c r_7) :: (b_b, nO r_03 r_11 r_21 r_31 r_41 r_51 r_6_a1 r_6_n1 r_6_c1 r_71) :: F12) fun e13 I13 G13 => ∃ (r7 : Bool), e13 = .returned (vt r7) ∧ ∃ F13 : Heap, List.Perm G13 ((b_n, nO r_0 r_1 r_2 r_3 r_4 r_5 r_6_a r_6_n r_6_c r_7) :: (b_b, nO r_03 r_11 r_21 r_31 r_41 r_51 r_6_a1 r_6_n1 r_6_c1 r_71) :: F13) ∧ (((r == 5) = true → (((r1 == 1) = true → (((r2 == 5) = true → (((r3 == 0) = true → (((r4 == 120) = true → (((r5 == 0) = true → (((r6 == 120) = true → (((r0 == 2) = true → (((((r1_n : Nat) : Int) == 0) = true → ((r7 = true → (((((r_6_n1 : Nat) : Int) == 2) = true → ((0 ≤ (1 : Int) ∧ (1 : Int) < (r_6_n1 : Int)) ∧ ∃ ad2 : Addr, r_6_a1 = some ad2 ∧ ∃ (m : Int), Rd I13 ((b_n, nO r_0 r_1 r_2 r_3 r_4 r_5 r_6_a r_6_n r_6_c r_7) :: (b_b, nO r_03 r_11 r_21 r_31 r_41 r_51 r_6_a1 r_6_n1 r_6_c1 r_71) :: F13) ((ad2.add (Int.toNat (1) * 8)).add 7) [vi m] ∧ Q (.returned (vt (m == 0))) I13 (F13))) ∧ ((((r_6_n1 : Nat) : Int) == 2) = false → Q (.returned (vt false)) I13 (F13)))) ∧ (r7 = false → Q (.returned (vt false)) I13 (F13)))) ∧ ((((r1_n : Nat) : Int) == 0) = false → Q (.returned (vt false)) I13 (F13)))) ∧ ((r0 == 2) = false → Q (.returned (vt false)) I13 (F13)))) ∧ ((r6 == 120) = false → Q (.returned (vt false)) I13 (F13)))) ∧ ((r5 == 0) = false → Q (.returned (vt false)) I13 (F13)))) ∧ ((r4 == 120) = false → Q (.returned (vt false)) I13 (F13)))) ∧ ((r3 == 0) = false → Q (.returned (vt false)) I13 (F13)))) ∧ ((r2 == 5) = false → Q (.returned (vt false)) I13 (F13)))) ∧ ((r1 == 1) = false → Q (.returned (vt false)) I13 (F13)))) ∧ ((r == 5) = false → Q (.returned (vt false)) I13 (F13)))))
set_option maxRecDepth 100000 in
theorem law12_awake.vc  {I : Imm} {F : Heap} {Q : PostQ}  (h : law12_awake.V (fun k o t n f s a l c q => .agg #[Value.int .u8 k, Value.int .u8 o, Value.int .u8 t, Value.int .i64 n, Value.int .u8 f, Value.string s, Value.slice a l c, Value.int .i64 q]) (fun k o t n f s a l c q => .cells #[Value.int .u8 k, Value.int .u8 o, Value.int .u8 t, Value.int .i64 n, Value.int .u8 f, Value.string s, Value.slice a l c, Value.int .i64 q] 28 (0, 0)) (.int .u8) (.int .i64) .string .slice .bool I F Q) : Tri P 8 #[] I (F) Q :=
  tri_of_V (A := (annL [12001, 12004, 12008, 12012, 12016, 12020, 12024, 12028, 12033, 12036, 12042] [] [11, 12, 13, 14, 15, 16, 27, 35, 36, 37] shT_t4 [] [] [] [] [] [] [])) (args := []) (own := []) (keep := []) [11, 12, 13, 14, 15, 16, 27, 35, 36, 37] Go.Proofs.Try.func8 h (by kernel_rfl) (by kernel_rfl) (by kernel_rfl) (by kernel_rfl) (by kernel_rfl) (by simp [AV.wf, At.wf]) (by simp [AV.wf, At.wf]) rfl
end Go.Lx
namespace Go.Lx
open Go.Vc
def Errs (n : Int) (F : Heap) (e : Ending) (I : Imm) (G : Heap) : Prop := e = errOf n ∧ G = F
theorem Errs.use {Pr : Program} {f : FuncId} {args : Array Value} {I : Imm} {F : Heap} {n : Int} {Q : Ending → Imm → Heap → Prop} (h : Tri Pr f args I F (Errs n F))
    (k1 : n = 0 → ∀ I', Imm.le I I' → Q (.returned (.tuple #[])) I' F) (k2 : n ≠ 0 → ∀ I', Imm.le I I' → Q (.panicked (wrongP n)) I' F) : Tri Pr f args I F Q :=
  h.mono fun e I' G hl ⟨he, hG⟩ => by
    subst hG
    by_cases hn : n = 0
    · rw [errOf, if_pos hn] at he; subst he; exact k1 hn I' hl
    · rw [errOf, if_neg hn] at he; subst he; exact k2 hn I' hl
theorem Errs.fail {n b N : Int} {F : Heap} {I : Imm} (h : N = thenE n b) (hn : n ≠ 0) : Errs N F (.panicked (wrongP n)) I F := ⟨by rw [h, thenE_ne hn, errOf, if_neg hn], rfl⟩
theorem Errs.fail1 {n N : Int} {F : Heap} {I : Imm} (h : N = n) (hn : n ≠ 0) : Errs N F (.panicked (wrongP n)) I F := ⟨by rw [h, errOf, if_neg hn], rfl⟩
theorem Errs.done {N : Int} {F : Heap} {I : Imm} (h : N = 0) : Errs N F (.returned (.tuple #[])) I F := ⟨by rw [h, errOf, if_pos rfl], rfl⟩
theorem Errs.look {b : Bool} {err : Int} (he : err ≠ 0) {Pr : Program} {f : FuncId} {args : Array Value} {I : Imm} {F : Heap} (h : Tri Pr f args I F (Look b err F)) : Tri Pr f args I F (Errs (errB b err) F) :=
  h.mono fun e I' G _ ⟨h1, h2⟩ => ⟨by rw [h1]; cases b <;> simp [errB, errOf, he], h2⟩
theorem must_errs (b : Bool) {err : Int} (he : err ≠ 0) (I : Imm) (F : Heap) : Tri P 81 #[.bool b, .int .i64 err] I F (Errs (errB b err) F) := Errs.look he (must_spec b err I F)
theorem named_spec (s : ByteArray) (I : Imm) (F : Heap) : Tri P 80 #[.string s] I F (Errs (errB (nameB s) 120) F) := by
  refine tree_named.vc ?_
  unfold tree_named.V
  exact Tri.ret (Name_spec (t := s) I _) fun I1 _ => ⟨_, rfl, F, .refl _, Errs.use (must_errs _ (by decide) I1 _) (fun q I2 _ => .inl ⟨rfl, F, .refl _, .done q⟩) (fun q I2 _ => .inr ⟨_, rfl, F, .refl _, .fail1 rfl q⟩)⟩
theorem none_eq (t : Nd) : t.px.noneB = (bEq t.kind t.oper t.typ t.n t.field t.name 0 0 0 0 0 ⟨#[]⟩ && decide (t.kids.length = 0)) := by
  unfold Px.noneB bEq
  rw [Nd.px_kind, Nd.px_oper, Nd.px_typ, Nd.px_n, Nd.px_field, Nd.px_name, Nd.px_len, empty_list]
  simp only [Bool.and_true]
theorem unnamed_spec (t : Nd) (I : Imm) (F : Heap) : Tri P 108 #[t.v] I F (Errs (errB t.px.noneB 120) F) := by
  refine tree_unnamed.vc ?_
  unfold tree_unnamed.V
  intro b_n
  rw [none_eq]
  refine (alone_spec t I _).mono fun e I1 G hI1 ⟨he, hG⟩ => ?_
  subst hG
  refine ⟨_, _, _, _, _, _, he, F, .refl _, _, bare_eql t.kind t.oper t.typ t.n t.field t.name 0 0 0 0 0 ⟨#[]⟩, fun hq => ?_, fun hq => ?_⟩
  · rw [hq, Bool.true_and]
    have e : (((t.kids.length : Nat) : Int) == 0) = decide (t.kids.length = 0) := by rw [Bool.eq_iff_iff]; simp
    rw [e]
    refine Errs.use (must_errs _ (by decide) I1 _) (fun q2 I2 hI2 => .inl ⟨rfl, _, .refl _, ?_⟩) (fun q2 I2 hI2 => .inr ⟨_, rfl, _, .refl _, ?_⟩)
    · exact .done q2
    · exact .fail1 rfl q2
  · rw [hq, Bool.false_and]
    refine Errs.use (must_errs _ (by decide) I1 _) (fun q2 I2 hI2 => .inl ⟨rfl, _, .refl _, ?_⟩) (fun q2 I2 hI2 => .inr ⟨_, rfl, _, .refl _, ?_⟩)
    · exact .done q2
    · exact .fail1 rfl q2
theorem part_spec (is : Bool) (t : Nd) (hs : t.px.size ≤ 1048576) (I : Imm) (F : Heap) (ht : NdOk I F t) : Tri P 101 #[.bool is, t.v] I F (Errs (partE is t.px) F) := by
  refine tree_part.vc ?_
  unfold tree_part.V partE
  intro b_n
  refine ⟨fun h => ?_, fun h => ?_⟩
  · rw [h]
    refine Errs.use (expr_spec t hs I _ ht.cons) (fun q1 I1 hI1 => .inl ⟨rfl, _, .refl _, ?_⟩) (fun q1 I1 hI1 => .inr ⟨_, rfl, _, .refl _, ?_⟩)
    · exact .done q1
    · exact .fail1 rfl q1
  · rw [h]
    refine Errs.use (unnamed_spec t I _) (fun q1 I1 hI1 => .inl ⟨rfl, _, .refl _, ?_⟩) (fun q1 I1 hI1 => .inr ⟨_, rfl, _, .refl _, ?_⟩)
    · exact .done q1
    · exact .fail1 rfl q1
theorem errB_zero {b : Bool} {n : Int} (hn : n ≠ 0) (h : errB b n = 0) : b = true := by
  unfold errB at h; cases b <;> simp_all
theorem errB_ne {b : Bool} {n : Int} (h : errB b n ≠ 0) : b = false ∧ errB b n = n := by
  unfold errB at h ⊢; cases b <;> simp_all
theorem begin_spec (t : Nd) (hs : t.px.size ≤ 1048576) (I : Imm) (F : Heap) (ht : NdOk I F t) : Tri P 82 #[t.v] I F (Errs (errB (t.px.formed && t.px.beginB) 120) F) := by
  refine tree_begin.vc ?_
  unfold tree_begin.V
  intro b_n
  refine Errs.use (Errs.look (by decide) (node_spec t hs I _ ht.cons)) (fun q1 I1 hI1 => .inl ⟨rfl, _, .refl _, ?_⟩) (fun q1 I1 hI1 => .inr ⟨_, rfl, _, .refl _, ?_⟩)
  · have hf := errB_zero (by decide) q1
    rw [hf, Bool.true_and]
    unfold Px.beginB
    rw [Nd.px_kind, Nd.px_oper]
    have hk1 : (t.kind == 1) = decide (t.kind = 1) := rfl
    refine ⟨fun h5 => ⟨fun h1 => ?_, fun h1 => ?_⟩, fun h5 => ?_⟩
    · have h5 : t.kind = 5 := by simpa using h5
      have h1 : t.oper = 1 := by simpa using h1
      have hlen : t.kids.length = 1 := by
        have := Px.formed_eq t.px
        rw [hf] at this
        have h2 := (Bool.and_eq_true _ _ ▸ this.symm).1
        unfold Px.oneB at h2
        simp only [Bool.and_eq_true, decide_eq_true_eq] at h2
        have h3 := h2.2
        unfold Px.arity at h3
        rw [Nd.px_kind, if_pos (.inl h5), Nd.px_len] at h3
        exact h3
      obtain ⟨ad, x, had, hx, hrd, hxo, hxm⟩ := ((ht.mono hI1 fun _ h => h).cons (x := (b_n, Obj.cells #[.int .u8 t.kind, .int .u8 t.oper, .int .u8 t.typ, .int .i64 t.n, .int .u8 t.field, .string t.name, .slice t.a t.kids.length t.c, .int .i64 t.pos] 28 (0, 0)))).kids.at (i := 0) (by decide) (by omega)
      have hks : t.px.kids = [x.px] := by
        rw [Nd.px_kids]
        match hk : t.kids with
        | [y] => rw [hk] at hx; simp at hx; rw [hx]; rfl
        | [] => rw [hk] at hlen; simp at hlen
        | y :: z :: r => rw [hk] at hlen; simp at hlen
      rw [if_pos ⟨h5, h1⟩, hks]
      simp only
      rw [Nd.px_kind, Nd.px_typ]
      refine ⟨⟨by omega, by omega⟩, ad, had, _, _, _, _, _, _, _, _, _, _, hrd, fun hk => ?_, fun hk => ?_⟩
      · have hk' : x.kind = 1 := by simpa using hk
        refine Errs.use (must_errs _ (by decide) I1 _) (fun q2 I2 hI2 => .inl ⟨rfl, _, .refl _, ?_⟩) (fun q2 I2 hI2 => .inr ⟨_, rfl, _, .refl _, ?_⟩)
        · have := errB_zero (by decide) q2
          have h2 : decide (x.kind = 1 ∧ x.typ ≤ 4) = true := decide_eq_true ⟨hk', of_decide_eq_true this⟩
          rw [h2, hk]
          refine Errs.use (must_errs _ (by decide) I2 _) (fun q3 I3 hI3 => .inl ⟨rfl, _, .refl _, ?_⟩) (fun q3 I3 hI3 => .inr ⟨_, rfl, _, .refl _, ?_⟩)
          · exact .done rfl
          · exact absurd rfl q3
        · have h2 : decide (x.kind = 1 ∧ x.typ ≤ 4) = false := decide_eq_false fun h => by
            have := (errB_ne q2).1; rw [decide_eq_true h.2] at this; cases this
          rw [h2]
          exact .fail1 (errB_ne q2).2.symm q2
      · have hk' : x.kind ≠ 1 := by simpa using hk
        have h2 : decide (x.kind = 1 ∧ x.typ ≤ 4) = false := decide_eq_false fun h => hk' h.1
        rw [h2]
        refine Errs.use (must_errs _ (by decide) I1 _) (fun q2 I2 hI2 => .inl ⟨rfl, _, .refl _, ?_⟩) (fun q2 I2 hI2 => .inr ⟨_, rfl, _, .refl _, ?_⟩)
        · cases q2
        · exact .fail1 rfl q2
    · have h1 : t.oper ≠ 1 := by simpa using h1
      rw [if_neg fun h => h1 h.2, ← hk1]
      refine Errs.use (must_errs _ (by decide) I1 _) (fun q2 I2 hI2 => .inl ⟨rfl, _, .refl _, ?_⟩) (fun q2 I2 hI2 => .inr ⟨_, rfl, _, .refl _, ?_⟩)
      · exact .done q2
      · exact .fail1 rfl q2
    · have h5 : t.kind ≠ 5 := by simpa using h5
      rw [if_neg fun h => h5 h.1, ← hk1]
      refine Errs.use (must_errs _ (by decide) I1 _) (fun q2 I2 hI2 => .inl ⟨rfl, _, .refl _, ?_⟩) (fun q2 I2 hI2 => .inr ⟨_, rfl, _, .refl _, ?_⟩)
      · exact .done q2
      · exact .fail1 rfl q2
  · exact .fail1 (by rw [(errB_ne q1).1]; rfl) q1
end Go.Lx
namespace Go.Lx
open Go.Vc
def Small (l : List Px) : Prop := ∀ x ∈ l, x.size ≤ 1048576
theorem str_empty (s : ByteArray) : (s.toList == (⟨#[]⟩ : ByteArray).toList) = (s.toList == []) := by rw [empty_list]
theorem do_spec (d : DoN) (hs : Small d.p.nds) (I : Imm) (F : Heap) (hd : d.Ok I F) : Tri P 93 #[d.v] I F (Errs d.p.check F) := by
  have hs1 := hs d.side.px (by simp [DoP.nds, DoN.p])
  have hs2 := hs d.qty.px (by simp [DoP.nds, DoN.p])
  have hs3 := hs d.price.px (by simp [DoP.nds, DoN.p])
  have hs4 := hs d.value.px (by simp [DoP.nds, DoN.p])
  have hn : d.p.check = thenE (errB d.p.kindB 120) (thenE (errB d.p.orderB 120) (thenE (errB d.p.nameB 120) (thenE (partE (decide (d.kind = 1)) d.side.px) (thenE (partE (decide (d.kind = 1 ∨ d.kind = 2)) d.qty.px)
    (thenE (partE (decide (d.kind = 1 ∧ d.order ≠ 2 ∨ d.kind = 2)) d.price.px) (partE (decide (d.kind = 4)) d.value.px)))))) := rfl
  refine tree_do.vc (fun I' F' => Imm.le I I' ∧ F' = F ∧ d.p.check = thenE (errB d.p.orderB 120) (thenE (errB d.p.nameB 120) (thenE (partE (decide (d.kind = 1)) d.side.px) (thenE (partE (decide (d.kind = 1 ∨ d.kind = 2)) d.qty.px)
    (thenE (partE (decide (d.kind = 1 ∧ d.order ≠ 2 ∨ d.kind = 2)) d.price.px) (partE (decide (d.kind = 4)) d.value.px))))))
    (fun I' F' => Imm.le I I' ∧ F' = F ∧ d.p.check = thenE (errB d.p.nameB 120) (thenE (partE (decide (d.kind = 1)) d.side.px) (thenE (partE (decide (d.kind = 1 ∨ d.kind = 2)) d.qty.px)
    (thenE (partE (decide (d.kind = 1 ∧ d.order ≠ 2 ∨ d.kind = 2)) d.price.px) (partE (decide (d.kind = 4)) d.value.px)))))
    (fun I' F' => Imm.le I I' ∧ F' = F ∧ d.p.check = (thenE (partE (decide (d.kind = 1)) d.side.px) (thenE (partE (decide (d.kind = 1 ∨ d.kind = 2)) d.qty.px)
    (thenE (partE (decide (d.kind = 1 ∧ d.order ≠ 2 ∨ d.kind = 2)) d.price.px) (partE (decide (d.kind = 4)) d.value.px)))))
    (fun I' F' => Imm.le I I' ∧ F' = F ∧ d.p.check = ((thenE (partE (decide (d.kind = 1 ∨ d.kind = 2)) d.qty.px)
    (thenE (partE (decide (d.kind = 1 ∧ d.order ≠ 2 ∨ d.kind = 2)) d.price.px) (partE (decide (d.kind = 4)) d.value.px)))))
    (fun I' F' => Imm.le I I' ∧ F' = F ∧ d.p.check = ((thenE (partE (decide (d.kind = 1 ∧ d.order ≠ 2 ∨ d.kind = 2)) d.price.px) (partE (decide (d.kind = 4)) d.value.px))))
    (fun I' F' => Imm.le I I' ∧ F' = F ∧ d.p.check = partE (decide (d.kind = 4)) d.value.px) ?_
  unfold tree_do.V
  intro b_d
  have k1 : (d.kind == 1) = decide (d.kind = 1) := rfl
  have k2 : (d.kind == 2) = decide (d.kind = 2) := rfl
  have k4 : (d.kind == 4) = decide (d.kind = 4) := rfl
  refine ⟨⟨fun h => ?_, fun h => ?_⟩, fun I1 F1 hI1 ⟨hl1, hF1, hc1⟩ => ?_⟩
  · have e : d.p.kindB = decide (d.kind ≤ 6) := by
      have h := of_decide_eq_true h
      unfold DoP.kindB; rw [Bool.eq_iff_iff]; simp only [decide_eq_true_eq]; exact ⟨fun h => h.2, fun h' => ⟨h, h'⟩⟩
    rw [e] at hn
    refine Errs.use (must_errs _ (by decide) I _) (fun q2 I2 hI2 => .inl ⟨rfl, _, .refl _, ?_⟩) (fun q2 I2 hI2 => .inr ⟨_, rfl, _, .refl _, ?_⟩)
    · rw [q2, thenE_zero] at hn
      exact ⟨hI2, rfl, hn⟩
    · exact .fail hn q2
  · have e : d.p.kindB = false := by
      have h := of_decide_eq_false h
      exact decide_eq_false fun h' => h h'.1
    rw [e] at hn
    refine Errs.use (must_errs _ (by decide) I _) (fun q2 I2 hI2 => .inl ⟨rfl, _, .refl _, ?_⟩) (fun q2 I2 hI2 => .inr ⟨_, rfl, _, .refl _, ?_⟩)
    · cases q2
    · exact .fail hn q2
  subst hF1
  clear hn
  refine ⟨?_, fun I2 F2 hI2 ⟨hl2, hF2, hc2⟩ => ?_⟩
  · have key : ∀ b : Bool, b = d.p.orderB → Tri P 81 #[.bool b, .int .i64 120] I1 ((b_d, Obj.cells #[.int .u8 d.kind, .int .u8 d.order, .string d.name, .int .u8 d.side.kind, .int .u8 d.side.oper, .int .u8 d.side.typ, .int .i64 d.side.n, .int .u8 d.side.field, .string d.side.name, .slice d.side.a d.side.kids.length d.side.c, .int .i64 d.side.pos, .int .u8 d.qty.kind, .int .u8 d.qty.oper, .int .u8 d.qty.typ, .int .i64 d.qty.n, .int .u8 d.qty.field, .string d.qty.name, .slice d.qty.a d.qty.kids.length d.qty.c, .int .i64 d.qty.pos, .int .u8 d.price.kind, .int .u8 d.price.oper, .int .u8 d.price.typ, .int .i64 d.price.n, .int .u8 d.price.field, .string d.price.name, .slice d.price.a d.price.kids.length d.price.c, .int .i64 d.price.pos, .int .u8 d.value.kind, .int .u8 d.value.oper, .int .u8 d.value.typ, .int .i64 d.value.n, .int .u8 d.value.field, .string d.value.name, .slice d.value.a d.value.kids.length d.value.c, .int .i64 d.value.pos, .int .i64 d.pos] 135 (0, 0)) :: F1) fun e1 I2 G1 => (e1 = .returned (.tuple #[]) ∧ ∃ F1' : Heap, List.Perm G1 ((b_d, Obj.cells #[.int .u8 d.kind, .int .u8 d.order, .string d.name, .int .u8 d.side.kind, .int .u8 d.side.oper, .int .u8 d.side.typ, .int .i64 d.side.n, .int .u8 d.side.field, .string d.side.name, .slice d.side.a d.side.kids.length d.side.c, .int .i64 d.side.pos, .int .u8 d.qty.kind, .int .u8 d.qty.oper, .int .u8 d.qty.typ, .int .i64 d.qty.n, .int .u8 d.qty.field, .string d.qty.name, .slice d.qty.a d.qty.kids.length d.qty.c, .int .i64 d.qty.pos, .int .u8 d.price.kind, .int .u8 d.price.oper, .int .u8 d.price.typ, .int .i64 d.price.n, .int .u8 d.price.field, .string d.price.name, .slice d.price.a d.price.kids.length d.price.c, .int .i64 d.price.pos, .int .u8 d.value.kind, .int .u8 d.value.oper, .int .u8 d.value.typ, .int .i64 d.value.n, .int .u8 d.value.field, .string d.value.name, .slice d.value.a d.value.kids.length d.value.c, .int .i64 d.value.pos, .int .i64 d.pos] 135 (0, 0)) :: F1') ∧ (Imm.le I I2 ∧ F1' = F1 ∧ d.p.check = thenE (errB d.p.nameB 120) (thenE (partE (decide (d.kind = 1)) d.side.px) (thenE (partE (decide (d.kind = 1 ∨ d.kind = 2)) d.qty.px)
        (thenE (partE (decide (d.kind = 1 ∧ d.order ≠ 2 ∨ d.kind = 2)) d.price.px) (partE (decide (d.kind = 4)) d.value.px)))))) ∨ (∃ ch : List PanicEntry, e1 = .panicked ch ∧ ∃ F2 : Heap, List.Perm G1 ((b_d, Obj.cells #[.int .u8 d.kind, .int .u8 d.order, .string d.name, .int .u8 d.side.kind, .int .u8 d.side.oper, .int .u8 d.side.typ, .int .i64 d.side.n, .int .u8 d.side.field, .string d.side.name, .slice d.side.a d.side.kids.length d.side.c, .int .i64 d.side.pos, .int .u8 d.qty.kind, .int .u8 d.qty.oper, .int .u8 d.qty.typ, .int .i64 d.qty.n, .int .u8 d.qty.field, .string d.qty.name, .slice d.qty.a d.qty.kids.length d.qty.c, .int .i64 d.qty.pos, .int .u8 d.price.kind, .int .u8 d.price.oper, .int .u8 d.price.typ, .int .i64 d.price.n, .int .u8 d.price.field, .string d.price.name, .slice d.price.a d.price.kids.length d.price.c, .int .i64 d.price.pos, .int .u8 d.value.kind, .int .u8 d.value.oper, .int .u8 d.value.typ, .int .i64 d.value.n, .int .u8 d.value.field, .string d.value.name, .slice d.value.a d.value.kids.length d.value.c, .int .i64 d.value.pos, .int .i64 d.pos] 135 (0, 0)) :: F2) ∧ Errs d.p.check F1 (.panicked ch) I2 F2) := fun b hb => by
      subst hb
      refine Errs.use (must_errs _ (by decide) I1 _) (fun q2 I2 hI2 => .inl ⟨rfl, _, .refl _, ?_⟩) (fun q2 I2 hI2 => .inr ⟨_, rfl, _, .refl _, ?_⟩)
      · rw [q2, thenE_zero] at hc1
        exact ⟨Imm.le_trans hl1 hI2, rfl, hc1⟩
      · exact .fail hc1 q2
    have eo : d.p.orderB = decide (d.kind = 1 ∧ 1 ≤ d.order ∧ d.order ≤ 5 ∨ d.kind ≠ 1 ∧ d.order = 0) := rfl
    refine ⟨fun h => ⟨fun h2 => ⟨fun h3 => key _ ?_, fun h3 => ⟨fun h4 => key _ ?_, fun h4 => key _ ?_⟩⟩, fun h2 => ⟨fun h4 => key _ ?_, fun h4 => key _ ?_⟩⟩, fun h => ⟨fun h4 => key _ ?_, fun h4 => key _ ?_⟩⟩
    all_goals
      rw [eo, Bool.eq_iff_iff]
      simp only [decide_eq_true_eq, decide_eq_false_iff_not, beq_iff_eq, beq_eq_false_iff_ne, Bool.not_eq_true', Bool.not_eq_false', iff_true, true_iff, false_iff, Bool.false_eq_true] at *
      omega
  subst hF2
  clear hc1
  have en : d.p.nameB = if d.kind = 6 then d.name.toList == [] else if d.kind ≠ 1 ∨ d.name.toList ≠ [] then Lx.nameB d.name else true := rfl
  refine ⟨⟨fun h => ?_, fun h => ⟨fun h2 => ?_, fun h2 => ⟨fun h3 => ?_, fun h3 => ?_⟩⟩⟩, fun I3 F3 hI3 ⟨hl3, hF3, hc3⟩ => ?_⟩
  · have h : d.kind = 6 := by simpa using h
    rw [if_pos h] at en
    rw [str_empty, ← en]
    refine Errs.use (must_errs _ (by decide) I2 _) (fun q3 I3 hI3 => .inl ⟨rfl, _, .refl _, ?_⟩) (fun q3 I3 hI3 => .inr ⟨_, rfl, _, .refl _, ?_⟩)
    · rw [q3, thenE_zero] at hc2; exact ⟨Imm.le_trans hl2 hI3, rfl, hc2⟩
    · exact .fail hc2 q3
  · have h : d.kind ≠ 6 := by simpa using h
    have h2 : d.kind ≠ 1 := by simpa using h2
    rw [if_neg h, if_pos (.inl h2)] at en
    refine Errs.use (named_spec d.name I2 _) (fun q3 I3 hI3 => .inl ⟨rfl, _, .refl _, ?_⟩) (fun q3 I3 hI3 => .inr ⟨_, rfl, _, .refl _, ?_⟩)
    · rw [en, q3, thenE_zero] at hc2; exact ⟨Imm.le_trans hl2 hI3, rfl, hc2⟩
    · rw [en] at hc2; exact .fail hc2 q3
  · have h : d.kind ≠ 6 := by simpa using h
    rw [str_empty] at h3
    rw [if_neg h, if_pos (.inr (by simpa using h3))] at en
    refine Errs.use (named_spec d.name I2 _) (fun q3 I3 hI3 => .inl ⟨rfl, _, .refl _, ?_⟩) (fun q3 I3 hI3 => .inr ⟨_, rfl, _, .refl _, ?_⟩)
    · rw [en, q3, thenE_zero] at hc2; exact ⟨Imm.le_trans hl2 hI3, rfl, hc2⟩
    · rw [en] at hc2; exact .fail hc2 q3
  · have h : d.kind ≠ 6 := by simpa using h
    have h2 : d.kind = 1 := by simpa using h2
    rw [str_empty] at h3
    have h3 : d.name.toList = [] := by simpa using h3
    rw [if_neg h, if_neg (by simp [h2, h3])] at en
    rw [en] at hc2
    exact ⟨hl2, rfl, hc2⟩
  subst hF3
  clear hc2 en
  have ok : ∀ {J : Imm}, Imm.le I J → d.Ok J ((b_d, Obj.cells #[.int .u8 d.kind, .int .u8 d.order, .string d.name, .int .u8 d.side.kind, .int .u8 d.side.oper, .int .u8 d.side.typ, .int .i64 d.side.n, .int .u8 d.side.field, .string d.side.name, .slice d.side.a d.side.kids.length d.side.c, .int .i64 d.side.pos, .int .u8 d.qty.kind, .int .u8 d.qty.oper, .int .u8 d.qty.typ, .int .i64 d.qty.n, .int .u8 d.qty.field, .string d.qty.name, .slice d.qty.a d.qty.kids.length d.qty.c, .int .i64 d.qty.pos, .int .u8 d.price.kind, .int .u8 d.price.oper, .int .u8 d.price.typ, .int .i64 d.price.n, .int .u8 d.price.field, .string d.price.name, .slice d.price.a d.price.kids.length d.price.c, .int .i64 d.price.pos, .int .u8 d.value.kind, .int .u8 d.value.oper, .int .u8 d.value.typ, .int .i64 d.value.n, .int .u8 d.value.field, .string d.value.name, .slice d.value.a d.value.kids.length d.value.c, .int .i64 d.value.pos, .int .i64 d.pos] 135 (0, 0)) :: F3) := fun hJ => (hd.mono hJ fun _ h => h).cons
  refine ⟨?_, fun I4 F4 hI4 ⟨hl4, hF4, hc4⟩ => ?_⟩
  · rw [k1]
    refine Errs.use (part_spec _ d.side hs1 I3 _ (ok hl3).1) (fun q4 I4 hI4 => .inl ⟨rfl, _, .refl _, ?_⟩) (fun q4 I4 hI4 => .inr ⟨_, rfl, _, .refl _, ?_⟩)
    · rw [q4, thenE_zero] at hc3; exact ⟨Imm.le_trans hl3 hI4, rfl, hc3⟩
    · exact .fail hc3 q4
  subst hF4
  refine ⟨?_, fun I5 F5 hI5 ⟨hl5, hF5, hc5⟩ => ?_⟩
  · have key : ∀ b : Bool, b = decide (d.kind = 1 ∨ d.kind = 2) → Tri P 101 #[.bool b, d.qty.v] I4 ((b_d, Obj.cells #[.int .u8 d.kind, .int .u8 d.order, .string d.name, .int .u8 d.side.kind, .int .u8 d.side.oper, .int .u8 d.side.typ, .int .i64 d.side.n, .int .u8 d.side.field, .string d.side.name, .slice d.side.a d.side.kids.length d.side.c, .int .i64 d.side.pos, .int .u8 d.qty.kind, .int .u8 d.qty.oper, .int .u8 d.qty.typ, .int .i64 d.qty.n, .int .u8 d.qty.field, .string d.qty.name, .slice d.qty.a d.qty.kids.length d.qty.c, .int .i64 d.qty.pos, .int .u8 d.price.kind, .int .u8 d.price.oper, .int .u8 d.price.typ, .int .i64 d.price.n, .int .u8 d.price.field, .string d.price.name, .slice d.price.a d.price.kids.length d.price.c, .int .i64 d.price.pos, .int .u8 d.value.kind, .int .u8 d.value.oper, .int .u8 d.value.typ, .int .i64 d.value.n, .int .u8 d.value.field, .string d.value.name, .slice d.value.a d.value.kids.length d.value.c, .int .i64 d.value.pos, .int .i64 d.pos] 135 (0, 0)) :: F4) fun e1 I2 G1 => (e1 = .returned (.tuple #[]) ∧ ∃ F1' : Heap, List.Perm G1 ((b_d, Obj.cells #[.int .u8 d.kind, .int .u8 d.order, .string d.name, .int .u8 d.side.kind, .int .u8 d.side.oper, .int .u8 d.side.typ, .int .i64 d.side.n, .int .u8 d.side.field, .string d.side.name, .slice d.side.a d.side.kids.length d.side.c, .int .i64 d.side.pos, .int .u8 d.qty.kind, .int .u8 d.qty.oper, .int .u8 d.qty.typ, .int .i64 d.qty.n, .int .u8 d.qty.field, .string d.qty.name, .slice d.qty.a d.qty.kids.length d.qty.c, .int .i64 d.qty.pos, .int .u8 d.price.kind, .int .u8 d.price.oper, .int .u8 d.price.typ, .int .i64 d.price.n, .int .u8 d.price.field, .string d.price.name, .slice d.price.a d.price.kids.length d.price.c, .int .i64 d.price.pos, .int .u8 d.value.kind, .int .u8 d.value.oper, .int .u8 d.value.typ, .int .i64 d.value.n, .int .u8 d.value.field, .string d.value.name, .slice d.value.a d.value.kids.length d.value.c, .int .i64 d.value.pos, .int .i64 d.pos] 135 (0, 0)) :: F1') ∧ (Imm.le I I2 ∧ F1' = F4 ∧ d.p.check = 
        (thenE (partE (decide (d.kind = 1 ∧ d.order ≠ 2 ∨ d.kind = 2)) d.price.px) (partE (decide (d.kind = 4)) d.value.px)))) ∨ (∃ ch : List PanicEntry, e1 = .panicked ch ∧ ∃ F2 : Heap, List.Perm G1 ((b_d, Obj.cells #[.int .u8 d.kind, .int .u8 d.order, .string d.name, .int .u8 d.side.kind, .int .u8 d.side.oper, .int .u8 d.side.typ, .int .i64 d.side.n, .int .u8 d.side.field, .string d.side.name, .slice d.side.a d.side.kids.length d.side.c, .int .i64 d.side.pos, .int .u8 d.qty.kind, .int .u8 d.qty.oper, .int .u8 d.qty.typ, .int .i64 d.qty.n, .int .u8 d.qty.field, .string d.qty.name, .slice d.qty.a d.qty.kids.length d.qty.c, .int .i64 d.qty.pos, .int .u8 d.price.kind, .int .u8 d.price.oper, .int .u8 d.price.typ, .int .i64 d.price.n, .int .u8 d.price.field, .string d.price.name, .slice d.price.a d.price.kids.length d.price.c, .int .i64 d.price.pos, .int .u8 d.value.kind, .int .u8 d.value.oper, .int .u8 d.value.typ, .int .i64 d.value.n, .int .u8 d.value.field, .string d.value.name, .slice d.value.a d.value.kids.length d.value.c, .int .i64 d.value.pos, .int .i64 d.pos] 135 (0, 0)) :: F2) ∧ Errs d.p.check F4 (.panicked ch) I2 F2) := fun b hb => by
      subst hb
      refine Errs.use (part_spec _ d.qty hs2 I4 _ (ok hl4).2.1) (fun q5 I5 hI5 => .inl ⟨rfl, _, .refl _, ?_⟩) (fun q5 I5 hI5 => .inr ⟨_, rfl, _, .refl _, ?_⟩)
      · rw [q5, thenE_zero] at hc4; exact ⟨Imm.le_trans hl4 hI5, rfl, hc4⟩
      · exact .fail hc4 q5
    refine ⟨fun h => key _ ?_, fun h => key _ ?_⟩
    · simp only [beq_iff_eq] at h; simp [h]
    · simp only [beq_eq_false_iff_ne] at h; rw [Bool.eq_iff_iff]; simp [h]
  subst hF5
  refine ⟨?_, fun I6 F6 hI6 ⟨hl6, hF6, hc6⟩ => ?_⟩
  · have key : ∀ b : Bool, b = decide (d.kind = 1 ∧ d.order ≠ 2 ∨ d.kind = 2) → Tri P 101 #[.bool b, d.price.v] I5 ((b_d, Obj.cells #[.int .u8 d.kind, .int .u8 d.order, .string d.name, .int .u8 d.side.kind, .int .u8 d.side.oper, .int .u8 d.side.typ, .int .i64 d.side.n, .int .u8 d.side.field, .string d.side.name, .slice d.side.a d.side.kids.length d.side.c, .int .i64 d.side.pos, .int .u8 d.qty.kind, .int .u8 d.qty.oper, .int .u8 d.qty.typ, .int .i64 d.qty.n, .int .u8 d.qty.field, .string d.qty.name, .slice d.qty.a d.qty.kids.length d.qty.c, .int .i64 d.qty.pos, .int .u8 d.price.kind, .int .u8 d.price.oper, .int .u8 d.price.typ, .int .i64 d.price.n, .int .u8 d.price.field, .string d.price.name, .slice d.price.a d.price.kids.length d.price.c, .int .i64 d.price.pos, .int .u8 d.value.kind, .int .u8 d.value.oper, .int .u8 d.value.typ, .int .i64 d.value.n, .int .u8 d.value.field, .string d.value.name, .slice d.value.a d.value.kids.length d.value.c, .int .i64 d.value.pos, .int .i64 d.pos] 135 (0, 0)) :: F5) fun e1 I2 G1 => (e1 = .returned (.tuple #[]) ∧ ∃ F1' : Heap, List.Perm G1 ((b_d, Obj.cells #[.int .u8 d.kind, .int .u8 d.order, .string d.name, .int .u8 d.side.kind, .int .u8 d.side.oper, .int .u8 d.side.typ, .int .i64 d.side.n, .int .u8 d.side.field, .string d.side.name, .slice d.side.a d.side.kids.length d.side.c, .int .i64 d.side.pos, .int .u8 d.qty.kind, .int .u8 d.qty.oper, .int .u8 d.qty.typ, .int .i64 d.qty.n, .int .u8 d.qty.field, .string d.qty.name, .slice d.qty.a d.qty.kids.length d.qty.c, .int .i64 d.qty.pos, .int .u8 d.price.kind, .int .u8 d.price.oper, .int .u8 d.price.typ, .int .i64 d.price.n, .int .u8 d.price.field, .string d.price.name, .slice d.price.a d.price.kids.length d.price.c, .int .i64 d.price.pos, .int .u8 d.value.kind, .int .u8 d.value.oper, .int .u8 d.value.typ, .int .i64 d.value.n, .int .u8 d.value.field, .string d.value.name, .slice d.value.a d.value.kids.length d.value.c, .int .i64 d.value.pos, .int .i64 d.pos] 135 (0, 0)) :: F1') ∧ (Imm.le I I2 ∧ F1' = F5 ∧ d.p.check = 
        partE (decide (d.kind = 4)) d.value.px)) ∨ (∃ ch : List PanicEntry, e1 = .panicked ch ∧ ∃ F2 : Heap, List.Perm G1 ((b_d, Obj.cells #[.int .u8 d.kind, .int .u8 d.order, .string d.name, .int .u8 d.side.kind, .int .u8 d.side.oper, .int .u8 d.side.typ, .int .i64 d.side.n, .int .u8 d.side.field, .string d.side.name, .slice d.side.a d.side.kids.length d.side.c, .int .i64 d.side.pos, .int .u8 d.qty.kind, .int .u8 d.qty.oper, .int .u8 d.qty.typ, .int .i64 d.qty.n, .int .u8 d.qty.field, .string d.qty.name, .slice d.qty.a d.qty.kids.length d.qty.c, .int .i64 d.qty.pos, .int .u8 d.price.kind, .int .u8 d.price.oper, .int .u8 d.price.typ, .int .i64 d.price.n, .int .u8 d.price.field, .string d.price.name, .slice d.price.a d.price.kids.length d.price.c, .int .i64 d.price.pos, .int .u8 d.value.kind, .int .u8 d.value.oper, .int .u8 d.value.typ, .int .i64 d.value.n, .int .u8 d.value.field, .string d.value.name, .slice d.value.a d.value.kids.length d.value.c, .int .i64 d.value.pos, .int .i64 d.pos] 135 (0, 0)) :: F2) ∧ Errs d.p.check F5 (.panicked ch) I2 F2) := fun b hb => by
      subst hb
      refine Errs.use (part_spec _ d.price hs3 I5 _ (ok hl5).2.2.1) (fun q6 I6 hI6 => .inl ⟨rfl, _, .refl _, ?_⟩) (fun q6 I6 hI6 => .inr ⟨_, rfl, _, .refl _, ?_⟩)
      · rw [q6, thenE_zero] at hc5; exact ⟨Imm.le_trans hl5 hI6, rfl, hc5⟩
      · exact .fail hc5 q6
    refine ⟨fun h => ⟨fun h2 => key _ ?_, fun h2 => key _ ?_⟩, fun h => key _ ?_⟩
    all_goals simp only [beq_iff_eq, beq_eq_false_iff_ne, bne_iff_ne, bne_eq_false_iff_eq] at *
    · simp [h, h2]
    · rw [Bool.eq_iff_iff]; simp [h, h2]
    · rw [Bool.eq_iff_iff]; simp [h]
  subst hF6
  rw [k4]
  refine Errs.use (part_spec _ d.value hs4 I6 _ (ok hl6).2.2.2) (fun q7 I7 hI7 => .inl ⟨rfl, _, .refl _, ?_⟩) (fun q7 I7 hI7 => .inr ⟨_, rfl, _, .refl _, ?_⟩)
  · rw [q7] at hc6; exact .done hc6
  · exact .fail1 hc6 q7
end Go.Lx
namespace Go.Lx
open Go.Vc
theorem firstE_map {α β : Type} (f : β → Int) (g : α → β) {l : List α} {i : Nat} {x : α} (h : l[i]? = some x) : firstE f ((l.drop i).map g) = thenE (f (g x)) (firstE f ((l.drop (i + 1)).map g)) := by
  obtain ⟨hk, rfl⟩ := List.getElem?_eq_some_iff.1 h
  rw [List.drop_eq_getElem_cons hk, List.map_cons, firstE]
theorem firstE_end {α β : Type} (f : β → Int) (g : α → β) {l : List α} {i : Nat} (h : l.length ≤ i) : firstE f ((l.drop i).map g) = 0 := by rw [List.drop_eq_nil_of_le h]; rfl
theorem SlG.atm {α : Type} {I : Imm} {G : Heap} {z : Nat} {f : α → List Value} {a : Option Addr} {n : Nat} {l : List α} (h : SlG I G z f a n l) {i : Int} (h0 : 0 ≤ i) (h1 : i < n) :
    ∃ ad x, a = some ad ∧ l[i.toNat]? = some x ∧ Rd I G (ad.add (Int.toNat i * z)) (f x) ∧ x ∈ l := by
  obtain ⟨ad, x, g1, g2, g3⟩ := h.at h0 h1
  exact ⟨ad, x, g1, g2, g3, List.mem_of_getElem? g2⟩
theorem rule_spec (r : RuleN) (hs : Small r.p.nds) (I : Imm) (F : Heap) (hr : r.Ok I F) (hlen : r.dos.length ≤ 1000000000) : Tri P 83 #[r.v] I F (Errs r.p.check F) := by
  have hsw := hs r.when.px (by simp [RuleP.nds, RuleN.p])
  have hsd : ∀ d ∈ r.dos, Small d.p.nds := fun d hd x hx => hs x (by
    simp only [RuleP.nds, RuleN.p, List.mem_cons, List.mem_flatMap, List.mem_map]
    exact .inr ⟨_, ⟨d, hd, rfl⟩, hx⟩)
  have hc : r.p.check = thenE r.when.px.checkE (thenE (errB (decide (0 < r.dos.length)) 120) (thenE (errB (decide (r.dos.length ≤ 8)) 121) (firstE DoP.check (r.dos.map DoN.p)))) := by
    show thenE _ (thenE (errB (decide (0 < (r.dos.map DoN.p).length)) 120) (thenE (errB (decide ((r.dos.map DoN.p).length ≤ 8)) 121) _)) = _
    rw [List.length_map]; rfl
  refine tree_rule.vc (fun i m I' F' => 0 ≤ i ∧ i ≤ r.dos.length ∧ m = (r.dos.length - i).toNat ∧ Imm.le I I' ∧ F' = F ∧ r.p.check = firstE DoP.check ((r.dos.drop i.toNat).map DoN.p)) ?_
  unfold tree_rule.V
  intro b_r
  refine Errs.use (expr_spec r.when hsw I _ hr.1.cons) (fun q1 I1 hI1 => .inl ⟨rfl, _, .refl _, ?_⟩) (fun q1 I1 hI1 => .inr ⟨_, rfl, _, .refl _, ?_⟩)
  · rw [q1, thenE_zero] at hc
    have e1 : decide (((r.dos.length : Nat) : Int) > 0) = decide (0 < r.dos.length) := by rw [Bool.eq_iff_iff]; simp only [decide_eq_true_eq]; omega
    have e2 : decide (((r.dos.length : Nat) : Int) ≤ 8) = decide (r.dos.length ≤ 8) := by rw [Bool.eq_iff_iff]; simp only [decide_eq_true_eq]; omega
    rw [e1, e2]
    refine Errs.use (must_errs _ (by decide) I1 _) (fun q2 I2 hI2 => .inl ⟨rfl, _, .refl _, ?_⟩) (fun q2 I2 hI2 => .inr ⟨_, rfl, _, .refl _, ?_⟩)
    · rw [q2, thenE_zero] at hc
      refine Errs.use (must_errs _ (by decide) I2 _) (fun q3 I3 hI3 => .inl ⟨rfl, _, .refl _, ?_⟩) (fun q3 I3 hI3 => .inr ⟨_, rfl, _, .refl _, ?_⟩)
      · rw [q3, thenE_zero] at hc
        refine ⟨⟨_, by omega, by omega, rfl, Imm.le_trans hI1 (Imm.le_trans hI2 hI3), rfl, hc⟩, fun i m I4 F4 hI4 ⟨g0, g1, gm, hl, hF, gc⟩ => ⟨fun hlt => ?_, fun hlt => ?_⟩⟩
        · have hlt := of_decide_eq_true hlt
          subst hF
          have hr4 := (hr.mono hl fun _ h => h).cons (x := (b_r, Obj.cells #[.int .u8 r.when.kind, .int .u8 r.when.oper, .int .u8 r.when.typ, .int .i64 r.when.n, .int .u8 r.when.field, .string r.when.name, .slice r.when.a r.when.kids.length r.when.c, .int .i64 r.when.pos, .slice r.a r.dos.length r.c, .int .i64 r.pos] 90 (0, 0)))
          obtain ⟨ad, d, had, hd, hrd, hdm⟩ := SlG.atm hr4.2.1 g0 hlt
          refine ⟨⟨g0, hlt⟩, ad, had, _, _, _, _, _, _, _, _, _, _, _, _, _, _, _, _, _, _, _, _, _, _, _, _, _, _, _, _, _, _, _, _, _, _, _, _, _, _, _, _, _, _, _, _, hrd, fun b_d => ?_⟩
          rw [firstE_map _ _ hd] at gc
          have hd4 : d.Ok I4 ((b_r, Obj.cells #[.int .u8 r.when.kind, .int .u8 r.when.oper, .int .u8 r.when.typ, .int .i64 r.when.n, .int .u8 r.when.field, .string r.when.name, .slice r.when.a r.when.kids.length r.when.c, .int .i64 r.when.pos, .slice r.a r.dos.length r.c, .int .i64 r.pos] 90 (0, 0)) :: (b_d, Obj.cells #[.int .u8 d.kind, .int .u8 d.order, .string d.name, .int .u8 d.side.kind, .int .u8 d.side.oper, .int .u8 d.side.typ, .int .i64 d.side.n, .int .u8 d.side.field, .string d.side.name, .slice d.side.a d.side.kids.length d.side.c, .int .i64 d.side.pos, .int .u8 d.qty.kind, .int .u8 d.qty.oper, .int .u8 d.qty.typ, .int .i64 d.qty.n, .int .u8 d.qty.field, .string d.qty.name, .slice d.qty.a d.qty.kids.length d.qty.c, .int .i64 d.qty.pos, .int .u8 d.price.kind, .int .u8 d.price.oper, .int .u8 d.price.typ, .int .i64 d.price.n, .int .u8 d.price.field, .string d.price.name, .slice d.price.a d.price.kids.length d.price.c, .int .i64 d.price.pos, .int .u8 d.value.kind, .int .u8 d.value.oper, .int .u8 d.value.typ, .int .i64 d.value.n, .int .u8 d.value.field, .string d.value.name, .slice d.value.a d.value.kids.length d.value.c, .int .i64 d.value.pos, .int .i64 d.pos] 135 (0, 0)) :: F4) := ((hr.2.2 d hdm).mono hl fun _ h => h).cons.cons
          refine Errs.use (do_spec d (hsd d hdm) I4 _ hd4) (fun q5 I5 hI5 => .inl ⟨rfl, _, .refl _, ?_⟩) (fun q5 I5 hI5 => .inr ⟨_, rfl, _, .refl _, ?_⟩)
          · rw [q5, thenE_zero] at gc
            refine ⟨(r.dos.length - (i + 1)).toNat, by omega, ?_⟩
            rw [w64 (n := i + 1) (by omega)]
            exact ⟨by omega, by omega, rfl, Imm.le_trans hl hI5, rfl, by rw [gc, show (i + 1).toNat = i.toNat + 1 by omega]⟩
          · exact .fail gc q5
        · have hlt := of_decide_eq_false hlt
          subst hF
          rw [firstE_end _ _ (by omega)] at gc
          exact .done gc
      · exact .fail hc q3
    · exact .fail hc q2
  · exact .fail hc q1
structure StgN.Lens (s : StgN) : Prop where
  regs : s.regs.length ≤ 1000000000
  slots : s.slots.length ≤ 1000000000
  states : s.states.length ≤ 1000000000
  rules : ∀ x ∈ s.states, x.rules.length ≤ 1000000000
  dos : ∀ x ∈ s.states, ∀ r ∈ x.rules, r.dos.length ≤ 1000000000
theorem check1S_spec (s : StgN) (hs : Small s.p.nds) (hl : s.Lens) (I : Imm) (F : Heap) (hok : s.Ok I F) {c : Addr} (hc : Rd I F c s.enc) : Tri P 79 #[.pointer (some c)] I F (Errs s.p.check F) := by
  have hsr : ∀ r ∈ s.regs, r.init.px.size ≤ 1048576 := fun r hr => hs _ (by
    simp only [StgP.nds, StgN.p, List.mem_append, List.mem_map]
    exact .inl ⟨_, ⟨r, hr, rfl⟩, rfl⟩)
  have hss : ∀ x ∈ s.states, ∀ r ∈ x.rules, Small r.p.nds := fun x hx r hr y hy => hs y (by
    simp only [StgP.nds, StgN.p, List.mem_append, List.mem_flatMap, List.mem_map]
    exact .inr ⟨_, ⟨x, hx, rfl⟩, _, by simp only [StateN.p, List.mem_map]; exact ⟨r, hr, rfl⟩, hy⟩)
  have hck : s.p.check = thenE (errB (nameB s.name) 120) (thenE (errB (decide (s.regs.length ≤ 12)) 121) (thenE (firstE RegP.check (s.regs.map RegN.p)) (thenE (errB (decide (s.slots.length ≤ 4)) 121) (thenE (firstE SlotP.check s.slots)
      (thenE (errB (decide (0 < s.states.length)) 120) (thenE (errB (decide (s.states.length ≤ 12)) 121) (firstE StateP.check (s.states.map StateN.p)))))))) := by
    show thenE _ (thenE (errB (decide ((s.regs.map RegN.p).length ≤ 12)) 121) (thenE _ (thenE _ (thenE _ (thenE (errB (decide (0 < (s.states.map StateN.p).length)) 120) (thenE (errB (decide ((s.states.map StateN.p).length ≤ 12)) 121) _)))))) = _
    rw [List.length_map, List.length_map]; rfl
  refine tree_Check_1.vc
    (fun i m _ _ I' F' => 0 ≤ i ∧ i ≤ s.regs.length ∧ m = (s.regs.length - i).toNat ∧ Imm.le I I' ∧ F' = F ∧ s.p.check = thenE (firstE RegP.check ((s.regs.drop i.toNat).map RegN.p)) (thenE (errB (decide (s.slots.length ≤ 4)) 121) (thenE (firstE SlotP.check s.slots)
      (thenE (errB (decide (0 < s.states.length)) 120) (thenE (errB (decide (s.states.length ≤ 12)) 121) (firstE StateP.check (s.states.map StateN.p)))))))
    (fun i m _ _ I' F' => 0 ≤ i ∧ i ≤ s.slots.length ∧ m = (s.slots.length - i).toNat ∧ Imm.le I I' ∧ F' = F ∧ s.p.check = thenE (firstE SlotP.check ((s.slots.drop i.toNat).map id))
      (thenE (errB (decide (0 < s.states.length)) 120) (thenE (errB (decide (s.states.length ≤ 12)) 121) (firstE StateP.check (s.states.map StateN.p)))))
    (fun i m _ _ I' F' => 0 ≤ i ∧ i ≤ s.states.length ∧ m = (s.states.length - i).toNat ∧ Imm.le I I' ∧ F' = F ∧ s.p.check = firstE StateP.check ((s.states.drop i.toNat).map StateN.p))
    (fun i j n _ _ I' F' => Imm.le I I' ∧ F' = F ∧ 0 ≤ j ∧ ∃ x : StateN, s.states[i.toNat]? = some x ∧ j ≤ x.rules.length ∧ n = (x.rules.length - j).toNat ∧ s.p.check = thenE (firstE RuleP.check ((x.rules.drop j.toNat).map RuleN.p)) (firstE StateP.check ((s.states.drop (i.toNat + 1)).map StateN.p))) ?_
  unfold tree_Check_1.V
  have rd : ∀ {J : Imm}, Imm.le I J → ∀ (o : Nat) (v : Value), s.enc[o]? = some v → Rd J F (c.add o) [v] := fun hJ o v hv => (hc.sub hJ fun _ h => h).field hv
  have ok : ∀ {J : Imm}, Imm.le I J → s.Ok J F := fun hJ => hok.mono hJ fun _ h => h
  have e12 : ∀ n : Nat, decide ((n : Int) ≤ 12) = decide (n ≤ 12) := fun n => by rw [Bool.eq_iff_iff]; simp only [decide_eq_true_eq]; omega
  have e4 : ∀ n : Nat, decide ((n : Int) ≤ 4) = decide (n ≤ 4) := fun n => by rw [Bool.eq_iff_iff]; simp only [decide_eq_true_eq]; omega
  have e0 : ∀ n : Nat, decide ((n : Int) > 0) = decide (0 < n) := fun n => by rw [Bool.eq_iff_iff]; simp only [decide_eq_true_eq]; omega
  have hlr := hl.regs
  have hls := hl.slots
  have hlt' := hl.states
  refine ⟨s.name, rd (Imm.le_refl I) 0 _ rfl, Errs.use (named_spec s.name I _) (fun q1 I1 hI1 => .inl ⟨rfl, _, .refl _, ?_⟩) (fun q1 I1 hI1 => .inr ⟨_, rfl, _, .refl _, ?_⟩)⟩
  case refine_2 => exact .fail hck q1
  rw [q1, thenE_zero] at hck
  refine ⟨_, _, _, rd hI1 1 _ rfl, ?_⟩
  rw [e12]
  refine Errs.use (must_errs _ (by decide) I1 _) (fun q2 I2 hI2 => .inl ⟨rfl, _, .refl _, ?_⟩) (fun q2 I2 hI2 => .inr ⟨_, rfl, _, .refl _, ?_⟩)
  case refine_2 => exact .fail hck q2
  rw [q2, thenE_zero] at hck
  have hl2 := Imm.le_trans hI1 hI2
  refine ⟨_, _, _, rd hl2 1 _ rfl, ⟨_, by omega, by omega, rfl, hl2, rfl, hck⟩, ?_⟩
  clear hck
  intro i m I3 F3 hI3 ⟨g0, g1, gm, hl3, hF3, gc⟩
  subst hF3
  refine ⟨fun hlt => ?_, fun hlt => ?_⟩
  · have hlt := of_decide_eq_true hlt
    obtain ⟨ad, r, had, hr, hrd, hrm⟩ := SlG.atm (ok hl3).regs g0 hlt
    rw [firstE_map _ _ hr, thenE_assoc] at gc
    have rc : r.p.check = errB (nameB r.name && (decide (1 ≤ r.typ ∧ r.typ ≤ 6) && (r.init.px.formed && r.init.px.beginB))) 120 := rfl
    refine ⟨⟨g0, hlt⟩, ad, had, _, _, _, _, _, _, _, _, _, _, _, _, _, hrd, fun b_r => Errs.use (named_spec r.name I3 _) (fun q4 I4 hI4 => .inl ⟨rfl, _, .refl _, ?_⟩) (fun q4 I4 hI4 => .inr ⟨_, rfl, _, .refl _, ?_⟩)⟩
    · have h4 := errB_zero (by decide) q4
      rw [h4, Bool.true_and] at rc
      have bad : (decide (1 ≤ r.typ ∧ r.typ ≤ 6)) = false → s.p.check = thenE 120 (thenE (firstE RegP.check ((s.regs.drop (i.toNat + 1)).map RegN.p)) (thenE (errB (decide (s.slots.length ≤ 4)) 121) (thenE (firstE SlotP.check s.slots)
          (thenE (errB (decide (0 < s.states.length)) 120) (thenE (errB (decide (s.states.length ≤ 12)) 121) (firstE StateP.check (s.states.map StateN.p))))))) := fun h => by
        rw [gc, rc, h]; rfl
      refine ⟨fun h1 => ?_, fun h1 => ?_⟩
      · have h1 := of_decide_eq_true h1
        refine Errs.use (must_errs _ (by decide) I4 _) (fun q5 I5 hI5 => .inl ⟨rfl, _, .refl _, ?_⟩) (fun q5 I5 hI5 => .inr ⟨_, rfl, _, .refl _, ?_⟩)
        · have h5 := of_decide_eq_true (errB_zero (by decide) q5)
          rw [decide_eq_true ⟨h1, h5⟩, Bool.true_and] at rc
          have hl5 := Imm.le_trans hl3 (Imm.le_trans hI4 hI5)
          refine Errs.use (begin_spec r.init (hsr r hrm) I5 _ (((ok hl5).reg r hrm : NdOk _ _ _).cons)) (fun q6 I6 hI6 => .inl ⟨rfl, _, .refl _, ?_⟩) (fun q6 I6 hI6 => .inr ⟨_, rfl, _, .refl _, ?_⟩)
          · rw [rc, q6, thenE_zero] at gc
            refine ⟨(s.regs.length - (i + 1)).toNat, by omega, ?_⟩
            rw [w64 (n := i + 1) (by omega)]
            exact ⟨by omega, by omega, rfl, Imm.le_trans hl5 hI6, rfl, by rw [gc, show (i + 1).toNat = i.toNat + 1 by omega]⟩
          · rw [rc] at gc; exact .fail gc q6
        · have h5 := (errB_ne q5).1
          have h6 := (errB_ne q5).2
          rw [h6] at q5 ⊢
          exact .fail (bad (decide_eq_false fun h => by rw [decide_eq_true h.2] at h5; cases h5)) q5
      · have h1 := of_decide_eq_false h1
        refine Errs.use (must_errs _ (by decide) I4 _) (fun q5 I5 hI5 => .inl ⟨rfl, _, .refl _, ?_⟩) (fun q5 I5 hI5 => .inr ⟨_, rfl, _, .refl _, ?_⟩)
        · cases q5
        · exact .fail (bad (decide_eq_false fun h => h1 h.1)) q5
    · have h4 := errB_ne q4
      rw [h4.2] at q4 ⊢
      rw [h4.1, Bool.false_and] at rc
      rw [rc] at gc
      exact .fail gc q4
  have hlt := of_decide_eq_false hlt
  rw [firstE_end _ _ (by omega), thenE_zero] at gc
  refine ⟨_, _, _, rd hl3 2 _ rfl, ?_⟩
  rw [e4]
  refine Errs.use (must_errs _ (by decide) I3 _) (fun q4 I4 hI4 => .inl ⟨rfl, _, .refl _, ?_⟩) (fun q4 I4 hI4 => .inr ⟨_, rfl, _, .refl _, ?_⟩)
  case refine_2 => exact .fail gc q4
  rw [q4, thenE_zero] at gc
  have hl4 := Imm.le_trans hl3 hI4
  refine ⟨_, _, _, rd hl4 2 _ rfl, ⟨_, by omega, by omega, rfl, hl4, rfl, by rw [gc]; simp⟩, ?_⟩
  clear gc
  clear gm
  intro i m I5 F5 hI5 ⟨g0, g1, gm, hl5, hF5, gc⟩
  subst hF5
  refine ⟨fun hlt => ?_, fun hlt => ?_⟩
  · have hlt := of_decide_eq_true hlt
    obtain ⟨ad, x, had, hx, hrd, hxm⟩ := SlG.atm (ok hl5).slots g0 hlt
    rw [firstE_map _ _ hx, thenE_assoc] at gc
    refine ⟨⟨g0, hlt⟩, ad, had, _, _, hrd, fun b_x => Errs.use (named_spec x.name I5 _) (fun q6 I6 hI6 => .inl ⟨rfl, _, .refl _, ?_⟩) (fun q6 I6 hI6 => .inr ⟨_, rfl, _, .refl _, ?_⟩)⟩
    · have e : SlotP.check (id x) = errB (nameB x.name) 120 := rfl
      rw [e, q6, thenE_zero] at gc
      refine ⟨(s.slots.length - (i + 1)).toNat, by omega, ?_⟩
      rw [w64 (n := i + 1) (by omega)]
      exact ⟨by omega, by omega, rfl, Imm.le_trans hl5 hI6, rfl, by rw [gc, show (i + 1).toNat = i.toNat + 1 by omega]⟩
    · exact .fail gc q6
  have hlt := of_decide_eq_false hlt
  rw [firstE_end _ _ (by omega), thenE_zero] at gc
  refine ⟨_, _, _, rd hl5 3 _ rfl, ?_⟩
  rw [e0]
  refine Errs.use (must_errs _ (by decide) I5 _) (fun q6 I6 hI6 => .inl ⟨rfl, _, .refl _, ?_⟩) (fun q6 I6 hI6 => .inr ⟨_, rfl, _, .refl _, ?_⟩)
  case refine_2 => exact .fail gc q6
  rw [q6, thenE_zero] at gc
  have hl6 := Imm.le_trans hl5 hI6
  refine ⟨_, _, _, rd hl6 3 _ rfl, ?_⟩
  rw [e12]
  refine Errs.use (must_errs _ (by decide) I6 _) (fun q7 I7 hI7 => .inl ⟨rfl, _, .refl _, ?_⟩) (fun q7 I7 hI7 => .inr ⟨_, rfl, _, .refl _, ?_⟩)
  case refine_2 => exact .fail gc q7
  rw [q7, thenE_zero] at gc
  have hl7 := Imm.le_trans hl6 hI7
  refine ⟨_, _, _, rd hl7 3 _ rfl, ⟨_, by omega, by omega, rfl, hl7, rfl, gc⟩, ?_⟩
  clear gc
  clear gm
  intro i m I8 F8 hI8 ⟨g0, g1, gm, hl8, hF8, gc⟩
  subst hF8
  refine ⟨fun hlt => ?_, fun hlt => ?_⟩
  · have hlt := of_decide_eq_true hlt
    obtain ⟨ad, x, had, hx, hrd, hxm⟩ := SlG.atm (ok hl8).states g0 hlt
    have hxl := hl.rules x hxm
    rw [firstE_map _ _ hx] at gc
    have ec : x.p.check = thenE (errB (nameB x.name) 120) (thenE (errB (decide (x.rules.length ≤ 12)) 121) (firstE RuleP.check (x.rules.map RuleN.p))) := by
      show thenE _ (thenE (errB (decide ((x.rules.map RuleN.p).length ≤ 12)) 121) _) = _
      rw [List.length_map]; rfl
    rw [ec, thenE_assoc, thenE_assoc] at gc
    refine ⟨⟨g0, hlt⟩, ad, had, _, _, _, _, _, hrd, fun b_x => Errs.use (named_spec x.name I8 _) (fun q9 I9 hI9 => .inl ⟨rfl, _, .refl _, ?_⟩) (fun q9 I9 hI9 => .inr ⟨_, rfl, _, .refl _, ?_⟩)⟩
    case refine_2 => exact .fail gc q9
    rw [q9, thenE_zero] at gc
    rw [e12]
    refine Errs.use (must_errs _ (by decide) I9 _) (fun q10 I10 hI10 => .inl ⟨rfl, _, .refl _, ?_⟩) (fun q10 I10 hI10 => .inr ⟨_, rfl, _, .refl _, ?_⟩)
    case refine_2 => exact .fail gc q10
    rw [q10, thenE_zero] at gc
    have hl10 := Imm.le_trans hl8 (Imm.le_trans hI9 hI10)
    refine ⟨⟨_, hl10, rfl, by omega, x, hx, by omega, rfl, gc⟩, ?_⟩
    clear gc
    intro j n I11 F11 hI11 ⟨hl11, hF11, j0, y, hy, j1, gn, gc⟩
    subst hF11
    rw [hx] at hy
    cases hy
    refine ⟨fun hlt2 => ?_, fun hlt2 => ?_⟩
    · have hlt2 := of_decide_eq_true hlt2
      have hok11 := ((ok hl11).state x hxm).cons (x := (b_x, Obj.cells #[.string x.name, .slice x.a x.rules.length x.c, .int .i64 x.pos] 93 (0, 0)))
      obtain ⟨ad3, r, had3, hr, hrd3, hrm⟩ := SlG.atm hok11.1 j0 hlt2
      rw [firstE_map _ _ hr, thenE_assoc] at gc
      refine ⟨⟨j0, hlt2⟩, ad3, had3, _, _, _, _, _, _, _, _, _, _, _, _, _, _, hrd3, fun b_r => Errs.use (rule_spec r (hss x hxm r hrm) I11 _ ((((ok hl11).state x hxm).2 r hrm).cons.cons) (hl.dos x hxm r hrm)) (fun q12 I12 hI12 => .inl ⟨rfl, _, .refl _, ?_⟩) (fun q12 I12 hI12 => .inr ⟨_, rfl, _, .refl _, ?_⟩)⟩
      · rw [q12, thenE_zero] at gc
        refine ⟨(x.rules.length - (j + 1)).toNat, by omega, ?_⟩
        rw [w64 (n := j + 1) (by omega)]
        exact ⟨Imm.le_trans hl11 hI12, rfl, by omega, x, hx, by omega, rfl, by rw [gc, show (j + 1).toNat = j.toNat + 1 by omega]⟩
      · exact .fail gc q12
    · have hlt2 := of_decide_eq_false hlt2
      rw [firstE_end _ _ (by omega), thenE_zero] at gc
      refine ⟨(s.states.length - (i + 1)).toNat, by omega, ?_⟩
      rw [w64 (n := i + 1) (by omega)]
      exact ⟨by omega, by omega, rfl, hl11, rfl, by rw [gc, show (i + 1).toNat = i.toNat + 1 by omega]⟩
  · have hlt := of_decide_eq_false hlt
    rw [firstE_end _ _ (by omega)] at gc
    exact .done gc
end Go.Lx
namespace Go.Lx
open Go.Vc
theorem enters_ck1 : Enters P 79 := hP_of [79] (by kernel_rfl) _ (by decide)
theorem Check_spec (s : StgN) (hs : Small s.p.nds) (hl : s.Lens) (I : Imm) (F : Heap) (hok : s.Ok I F) : Tri P 36 #[s.v] I F (Ret (.int .i64 s.p.check) F) := by
  refine tree_Check.vc ?_
  unfold tree_Check.V
  intro b_s
  have hrd : ∀ {b : Nat} {I : Imm} {G : Heap}, (b, Obj.cells #[.string s.name, .slice s.ra s.regs.length s.rc, .slice s.sa s.slots.length s.sc, .slice s.ta s.states.length s.tc] 86 (0, 0)) ∈ G → Rd I G (⟨b, 0, none⟩ : Addr) s.enc := fun h => Rd.of_own h 0 fun j hj => by simp
  refine (caught_spec (n := s.p.check) fun b => TriV.fn enters_ck1 (by simp) (check1S_spec s hs hl I _ hok.cons.cons (hrd (List.mem_cons_of_mem _ (List.mem_cons_self ..))))).mono fun e I1 G hI1 ⟨he, hG⟩ => ?_
  subst hG
  exact ⟨_, he, _, _, _, _, _, _, _, _, _, _, F, .refl _, rfl, rfl⟩
theorem SlG.of_imm {α : Type} {I : Imm} {z : Nat} {f : α → List Value} (hz : ∀ x, (f x).length = z) {b e : Nat} {fz : Nat × Nat} {l : List α} {cells : Array Value} (h : I b = some (.cells cells e fz)) (hc : cells.toList = l.flatMap f) (G : Heap) : SlG I G z f (some ⟨b, 0, none⟩) l.length l :=
  (Sl.of_cells hz h hc).slg G
theorem SlG.nil {α : Type} {I : Imm} {G : Heap} {z : Nat} {f : α → List Value} {a : Option Addr} : SlG I G z f a 0 ([] : List α) := ⟨rfl, fun h => absurd rfl h⟩
theorem NdOk.leaf {I : Imm} {G : Heap} {k o ty n f : Int} {s : ByteArray} {a : Option Addr} {c : Nat} {q : Int} : NdOk I G (.mk k o ty n f s a c [] q) := .mk SlG.nil fun k hk => by cases hk
def litN (n : Int) : Nd := .mk 1 0 1 n 0 ⟨#[]⟩ none 0 [] 0
def sumN (b1 b2 : Nat) : Nd := .mk 6 6 0 0 0 ⟨#[]⟩ (some ⟨b2, 0, none⟩) 2 [litN 1, .mk 6 6 0 0 0 ⟨#[]⟩ (some ⟨b1, 0, none⟩) 2 [litN 2, litN 3] 5] 0
def sumP : Px := .mk 6 6 0 0 0 ⟨#[]⟩ [.mk 1 0 1 1 0 ⟨#[]⟩ [] 0, .mk 6 6 0 0 0 ⟨#[]⟩ [.mk 1 0 1 2 0 ⟨#[]⟩ [] 0, .mk 1 0 1 3 0 ⟨#[]⟩ [] 0] 5] 0
theorem sum_spec (I : Imm) (F : Heap) : Tri P 35 #[] I F fun e I' G => ∃ t : Nd, e = .returned t.v ∧ t.px = sumP ∧ (∀ G, NdOk I' G t) ∧ G = F := by
  refine law12_sum.vc ?_
  unfold law12_sum.V
  intro b b1 I1 hI1 hb1 b_in b2 I2 hI2 hb2
  refine ⟨sumN b1 b2, rfl, rfl, fun G => ?_, rfl⟩
  have h1 := hI2.at hb1
  refine .mk (SlG.of_imm (z := 8) (f := Nd.enc) (l := [litN 1, .mk 6 6 0 0 0 ⟨#[]⟩ (some ⟨b1, 0, none⟩) 2 [litN 2, litN 3] 5]) (fun _ => rfl) hb2 rfl G) fun k hk => ?_
  rcases List.mem_cons.1 hk with rfl | hk
  · exact NdOk.leaf
  · obtain rfl : k = .mk 6 6 0 0 0 ⟨#[]⟩ (some ⟨b1, 0, none⟩) 2 [litN 2, litN 3] 5 := by simpa using hk
    refine .mk (SlG.of_imm (z := 8) (f := Nd.enc) (l := [litN 2, litN 3]) (fun _ => rfl) h1 rfl G) fun k hk => ?_
    rcases List.mem_cons.1 hk with rfl | hk
    · exact NdOk.leaf
    · obtain rfl : k = litN 3 := by simpa using hk
      exact NdOk.leaf
def zeroP : Px := .mk 0 0 0 0 0 ⟨#[]⟩ [] 0
def haltN : DoN := ⟨6, 0, ⟨#[]⟩, zNd, zNd, zNd, zNd, 0⟩
def bidN : Nd := .mk 4 0 0 0 1 ⟨#[]⟩ none 0 [] 0
def bidP : Px := .mk 4 0 0 0 1 ⟨#[]⟩ [] 0
def leastP : StgP := ⟨⟨#[115]⟩, [], [], [⟨⟨#[97]⟩, [⟨bidP, [⟨6, 0, ⟨#[]⟩, zeroP, zeroP, zeroP, zeroP, 0⟩], 0⟩], 0⟩]⟩
theorem least_spec (I : Imm) (F : Heap) : Tri P 37 #[] I F fun e I' G => ∃ b1 b2 b3 : Nat, ∃ s : StgN, s = ⟨⟨#[115]⟩, none, 0, [], none, 0, [], some ⟨b3, 0, none⟩, 1, [⟨⟨#[97]⟩, some ⟨b2, 0, none⟩, 1, [⟨bidN, some ⟨b1, 0, none⟩, 1, [haltN], 0⟩], 0⟩]⟩ ∧ e = .returned s.v ∧ (∀ G, s.Ok I' G) ∧ G = F := by
  refine law12_least.vc ?_
  unfold law12_least.V
  intro b b_when b1 I1 hI1 hb1 b2 I2 hI2 hb2 b3 I3 hI3 hb3
  refine ⟨b1, b2, b3, _, rfl, rfl, fun G => ?_, rfl⟩
  have h1 := (Imm.le_trans hI2 hI3).at hb1
  have h2 := hI3.at hb2
  have hd : DoN.Ok I3 G haltN := ⟨NdOk.leaf, NdOk.leaf, NdOk.leaf, NdOk.leaf⟩
  have hr : RuleN.Ok I3 G ⟨bidN, some ⟨b1, 0, none⟩, 1, [haltN], 0⟩ := ⟨NdOk.leaf, SlG.of_imm (z := 36) (f := DoN.enc) (l := [haltN]) (fun _ => rfl) h1 rfl G, fun d hd' => by
    obtain rfl : d = haltN := by simpa using hd'
    exact hd⟩
  refine ⟨SlG.nil, fun r hr => (by cases hr), SlG.nil, SlG.of_imm (z := 3) (f := StateN.enc) (l := [⟨⟨#[97]⟩, some ⟨b2, 0, none⟩, 1, [⟨bidN, some ⟨b1, 0, none⟩, 1, [haltN], 0⟩], 0⟩]) (fun _ => rfl) hb3 rfl G, fun x hx => ?_⟩
  simp only [List.mem_singleton] at hx
  subst hx
  exact ⟨SlG.of_imm (z := 10) (f := RuleN.enc) (l := [⟨bidN, some ⟨b1, 0, none⟩, 1, [haltN], 0⟩]) (fun _ => rfl) h2 rfl G, fun r hr' => by
    simp only [List.mem_singleton] at hr'
    subst hr'; exact hr⟩
theorem farExpr_spec (t : Nd) (hs : t.px.ShortP) (I : Imm) (F : Heap) (ht : NdOk I F t) : Tri P 9 #[t.v] I F (Ret (.bool (decide (t.px.weigh 0 0 > 1048576))) F) := by
  refine law12_farExpr.vc ?_
  unfold law12_farExpr.V
  intro b_n
  exact Tri.ret (weigh_spec t hs 0 0 I _ ht.cons (by decide) (by decide) (by decide) (by decide)) fun I1 _ => ⟨_, rfl, F, .refl _, rfl, rfl⟩
theorem ex_level : sumP.levelE = 5 := by decide +kernel
theorem ex_depth : sumP.depthE = 1 := by decide +kernel
theorem ex_size : sumP.size = 5 := by decide +kernel
theorem ex_check : sumP.checkE = 0 := by decide +kernel
theorem ex_side : (Px.mk 1 0 6 0 0 ⟨#[]⟩ [] 0).checkE = 120 := by decide +kernel
theorem ex_none : (⟨⟨#[115]⟩, [], [], []⟩ : StgP).check = 120 := by decide +kernel
theorem ex_least : leastP.check = 0 := by decide +kernel
theorem ex_like : sumP.like sumP.bare = true := by decide +kernel
end Go.Lx
namespace Go.Lx
open Go.Vc
theorem Rd.pre {I : Imm} {G : Heap} {ad : Addr} {cs ds : List Value} (h : Rd I G ad (cs ++ ds)) : Rd I G ad cs := by
  obtain ⟨h1, cells, e, fz, h2, h3⟩ := h
  exact ⟨h1, cells, e, fz, h2, fun j hj => by rw [h3 j (by rw [List.length_append]; omega), List.getElem?_append_left hj]⟩
theorem ex_reads : masks bidP.nodes = 2 ∧ namesOf bidP.nodes = [] := by decide +kernel
theorem ex_fit : bidP.Wf := by
  intro y hy
  have : y = bidP := by
    have h : bidP.nodes = [bidP] := rfl
    rw [h] at hy; simpa using hy
  subst this
  simp only [Px.Fit, bidP, Px.kind, Px.oper, Px.typ, Px.n, Px.field, Px.pos]; omega
theorem awake_spec (I : Imm) (F : Heap) : Tri P 8 #[] I F (Ret (.bool true) F) := by
  refine Tri.keep (Q := fun e I' G => e = .returned (.bool true) ∧ ∃ H, G.Perm (H ++ F)) ?_ fun e I' G w hl hs ⟨he, H, hp⟩ => ⟨I', F, Imm.le_refl _, (hs.perm hp).drop, he, rfl⟩
  refine law12_awake.vc ?_
  unfold law12_awake.V
  refine (sum_spec I F).mono fun e I1 G hI1 ⟨t, he, hpx, hok, hG⟩ => ?_
  subst hG
  have hs : t.px.size ≤ 1048576 := by rw [hpx, ex_size]; decide
  refine ⟨_, _, _, _, _, _, _, _, _, _, he, G, .refl _, fun b_n => ?_⟩
  refine Tri.ret (Level_spec t hs I1 _ (hok _)) fun I2 hI2 => ⟨_, rfl, G, .refl _, ?_⟩
  have ok2 : ∀ {J : Imm} {H : Heap}, Imm.le I1 J → NdOk J H t := fun hJ => (hok _).mono hJ fun _ h => h
  refine Tri.ret (Depth_spec t hs I2 _ (ok2 hI2)) fun I3 hI3 => ⟨_, rfl, G, .refl _, ?_⟩
  have l3 := Imm.le_trans hI2 hI3
  refine Tri.ret (tSize_spec t hs I3 _ (ok2 l3)) fun I4 hI4 => ⟨_, rfl, G, .refl _, ?_⟩
  have l4 := Imm.le_trans l3 hI4
  refine Tri.ret (checkExpr_spec t hs I4 _ (ok2 l4)) fun I5 hI5 => ⟨_, rfl, G, .refl _, ?_⟩
  have l5 := Imm.le_trans l4 hI5
  refine Tri.ret (checkExpr_spec (.mk 1 0 6 0 0 ⟨#[]⟩ none 0 [] 0) (by decide +kernel) I5 _ NdOk.leaf) fun I6 hI6 => ⟨_, rfl, G, .refl _, ?_⟩
  have l6 := Imm.le_trans l5 hI6
  refine (least_spec I6 _).mono fun e I7 G7 hI7 ⟨b1, b2, b3, s, hse, he, hsok, hG⟩ => ?_
  subst hG
  have l7 := Imm.le_trans l6 hI7
  have hsp : s.p = leastP := by rw [hse]; rfl
  have hsm : Small s.p.nds := by rw [hsp]; show ∀ x ∈ leastP.nds, x.size ≤ 1048576; decide +kernel
  have hln : s.Lens := by
    rw [hse]
    refine ⟨Nat.le_of_ble_eq_true rfl, Nat.le_of_ble_eq_true rfl, Nat.le_of_ble_eq_true rfl, fun x hx => ?_, fun x hx r hr => ?_⟩
    · simp only [List.mem_singleton] at hx
      subst hx; exact Nat.le_of_ble_eq_true rfl
    · simp only [List.mem_singleton] at hx
      subst hx
      simp only [List.mem_singleton] at hr
      subst hr; exact Nat.le_of_ble_eq_true rfl
  refine ⟨_, _, _, _, _, _, _, _, _, _, he, G, .refl _, ?_⟩
  refine Tri.ret (Check_spec s hsm hln I7 _ (hsok _)) fun I8 hI8 => ⟨_, rfl, G, .refl _, ?_⟩
  have l8 := Imm.le_trans l7 hI8
  refine Tri.ret (Check_spec ⟨⟨#[115]⟩, none, 0, [], none, 0, [], none, 0, []⟩ (fun x hx => by cases hx) ⟨by decide, by decide, by decide, fun x hx => (by cases hx), fun x hx => (by cases hx)⟩ I8 _ ⟨SlG.nil, fun x hx => (by cases hx), SlG.nil, SlG.nil, fun x hx => (by cases hx)⟩) fun I9 hI9 => ⟨_, rfl, G, .refl _, ?_⟩
  have l9 := Imm.le_trans l8 hI9
  refine (least_spec I9 _).mono fun e I10 G10 hI10 ⟨c1, c2, c3, u, hue, he, huok, hG⟩ => ?_
  subst hG
  have l10 := Imm.le_trans l9 hI10
  refine ⟨_, _, _, _, _, _, _, _, _, _, he, G, .refl _, ?_⟩
  have huk := huok ((b_n, Obj.cells #[.int .u8 t.kind, .int .u8 t.oper, .int .u8 t.typ, .int .i64 t.n, .int .u8 t.field, .string t.name, .slice t.a t.kids.length t.c, .int .i64 t.pos] 28 (0, 0)) :: G)
  subst hue
  obtain ⟨ad, x, had, hx, hrd, hxm⟩ := SlG.atm huk.states (i := 0) (by decide) (show (0 : Int) < 1 by decide)
  simp only [List.mem_singleton] at hxm
  have hr := huk.state x (by simp [hxm])
  subst hxm
  obtain ⟨ad1, r, had1, hr1, hrd1, hrm⟩ := SlG.atm hr.1 (i := 0) (by decide) (show (0 : Int) < 1 by decide)
  simp only [List.mem_singleton] at hrm
  subst hrm
  refine ⟨⟨by decide, show (0 : Int) < 1 by decide⟩, ad, had, _, _, _, hrd.field2 (p := 0) (q := 1) rfl, ⟨by decide, show (0 : Int) < 1 by decide⟩, ad1, had1, _, _, _, _, _, _, _, _, _, _, Rd.pre (cs := bidN.enc) (ds := [.slice (some ⟨c1, 0, none⟩) 1 1, .int .i64 0]) hrd1, ?_⟩
  refine (tReads_spec bidN (by decide +kernel) ex_fit I10 _ NdOk.leaf).mono fun e I11 G11 hI11 ⟨na, nn, nc, A, he, hA, hG⟩ => ?_
  subst hG
  have l11 := Imm.le_trans l10 hI11
  have hbp : bidN.px = bidP := rfl
  rw [hbp, ex_reads.1] at he
  rw [hbp, ex_reads.2] at hA
  have hnn : nn = 0 := hA.1
  subst hnn
  refine ⟨_, _, _, _, he, A ++ G, (perm_of fun z => by simp only [cn_app, cn_cons, cn_nil]; omega), ?_⟩
  refine (bareExpr_spec t hs I11 _ (ok2 l11)).mono fun e I12 G12 hI12 ⟨t', H, he, hpx', hO, hG⟩ => ?_
  have l12 := Imm.le_trans l11 hI12
  rw [hpx] at hpx'
  refine ⟨_, _, _, _, _, _, _, _, _, _, he, H ++ (A ++ G), hG.trans (perm_of fun z => by simp only [cn_app, cn_cons, cn_nil]; omega), fun b_b => ?_⟩
  have ok' : ∀ {J : Imm}, NdOk J ((b_n, Obj.cells #[.int .u8 t.kind, .int .u8 t.oper, .int .u8 t.typ, .int .i64 t.n, .int .u8 t.field, .string t.name, .slice t.a t.kids.length t.c, .int .i64 t.pos] 28 (0, 0)) :: (b_b, Obj.cells #[.int .u8 t'.kind, .int .u8 t'.oper, .int .u8 t'.typ, .int .i64 t'.n, .int .u8 t'.field, .string t'.name, .slice t'.a t'.kids.length t'.c, .int .i64 t'.pos] 28 (0, 0)) :: (H ++ (A ++ G))) t' := hO.ok fun x hx => List.mem_cons_of_mem _ (List.mem_cons_of_mem _ (List.mem_append_left _ hx))
  refine Tri.ret (sameExpr_spec t hs t' I12 _ (ok2 l12) ok') fun I13 hI13 => ⟨_, rfl, H ++ (A ++ G), .refl _, ?_⟩
  rw [hpx', hpx, ex_level, ex_depth, ex_size, ex_check, ex_like]
  have hkl : t'.kids.map Nd.px = sumP.bare.kids := by rw [← Nd.px_kids, hpx']
  have hk2 : t'.kids.length = 2 := by have := congrArg List.length hkl; rw [List.length_map] at this; rw [this]; rfl
  have e4 : (Nd.mk 1 0 6 0 0 ⟨#[]⟩ none 0 [] 0).px.checkE = 120 := ex_side
  have e5 : s.p.check = 0 := by rw [hsp]; exact ex_least
  have e6 : (⟨⟨#[115]⟩, none, 0, [], none, 0, [], none, 0, []⟩ : StgN).p.check = 120 := ex_none
  rw [e4, e5, e6]
  refine ⟨fun _ => ⟨fun _ => ⟨fun _ => ⟨fun _ => ⟨fun _ => ⟨fun _ => ⟨fun _ => ⟨fun _ => ⟨fun _ => ⟨fun _ => ⟨fun _ => ?_, fun h => by (rw [hk2] at h; cases h)⟩, fun h => by (cases h)⟩, fun h => by (cases h)⟩, fun h => by (cases h)⟩, fun h => by (cases h)⟩, fun h => by (cases h)⟩, fun h => by (cases h)⟩, fun h => by (cases h)⟩, fun h => by (cases h)⟩, fun h => by (cases h)⟩, fun h => by (cases h)⟩
  have ok13 : NdOk I13 ((b_n, Obj.cells #[.int .u8 t.kind, .int .u8 t.oper, .int .u8 t.typ, .int .i64 t.n, .int .u8 t.field, .string t.name, .slice t.a t.kids.length t.c, .int .i64 t.pos] 28 (0, 0)) :: (b_b, Obj.cells #[.int .u8 t'.kind, .int .u8 t'.oper, .int .u8 t'.typ, .int .i64 t'.n, .int .u8 t'.field, .string t'.name, .slice t'.a t'.kids.length t'.c, .int .i64 t'.pos] 28 (0, 0)) :: (H ++ (A ++ G))) t' := ok'
  obtain ⟨ad2, y, had2, hy, hrd2, hyo, hym⟩ := ok13.kids.at (i := 1) (by decide) (by omega)
  refine ⟨⟨by decide, by omega⟩, ad2, had2, y.pos, hrd2.field (o := 7) rfl, ?_, H ++ A, by rw [List.append_assoc]⟩
  have hyp : y.px.pos = 0 := by
    have h1 : (t'.kids.map Nd.px)[1]? = some y.px := by rw [List.getElem?_map]; rw [show (1 : Int).toNat = 1 from rfl] at hy; rw [hy]; rfl
    rw [hkl] at h1
    have h2 : sumP.bare.kids[1]? = some (Px.mk 6 6 0 0 0 ⟨#[]⟩ [.mk 1 0 1 2 0 ⟨#[]⟩ [] 0, .mk 1 0 1 3 0 ⟨#[]⟩ [] 0] 0) := rfl
    rw [h2] at h1
    rw [← Option.some.inj h1]; rfl
  rw [Nd.px_pos] at hyp
  rw [hyp]; rfl
end Go.Lx
namespace Go.Lx
open Go.Vc
theorem Px.ShortP.bare : ∀ {x : Px}, x.ShortP → x.bare.ShortP := by
  refine @(Px.ind fun x ih h => ?_)
  rw [Px.bare_eq]
  refine .mk h.name (by show (x.kids.map Px.bare).length ≤ _; rw [List.length_map]; exact h.len) fun k hk => ?_
  have hk : k ∈ x.kids.map Px.bare := hk
  obtain ⟨y, hy, rfl⟩ := List.mem_map.1 hk
  exact ih y hy (h.kid y hy)
theorem far_size {x : Px} (h : decide (x.weigh 0 0 > 1048576) = false) : x.size ≤ 1048576 := by
  have h := of_decide_eq_false h
  have := Px.weigh_size x 0 0 (by omega)
  omega
end Go.Lx
namespace Go.Lx
open Go.Vc
def Nd.withKids (t : Nd) (l : List Nd) : Nd := .mk t.kind t.oper t.typ t.n t.field t.name t.a t.c l t.pos
theorem withKids_enc {t : Nd} {l : List Nd} (h : l.length = t.kids.length) : (t.withKids l).enc = t.enc := by
  cases t; unfold Nd.withKids Nd.enc; simp only [Nd.kids] at h ⊢; rw [h]; rfl
inductive Sub : Nd → Addr → Nd → (Nd → Nd) → Prop
  | here {t y : Nd} {a : Addr} {j : Nat} : t.kids[j]? = some y → t.a = some a → Sub t (a.add (j * 8)) y fun y' => t.withKids (t.kids.set j y')
  | down {t k y : Nd} {ad : Addr} {j : Nat} {f : Nd → Nd} : t.kids[j]? = some k → Sub k ad y f → Sub t ad y fun y' => t.withKids (t.kids.set j (f y'))
theorem Sub.kid {t y : Nd} {ad : Addr} {f : Nd → Nd} (h : Sub t ad y f) : ∀ {z : Nd} {a : Addr} {j : Nat}, y.kids[j]? = some z → y.a = some a → ∃ g, Sub t (a.add (j * 8)) z g := by
  induction h with
  | here h1 h2 => intro z a j hz ha; exact ⟨_, .down h1 (.here hz ha)⟩
  | down h1 h2 ih => intro z a j hz ha; obtain ⟨g, hg⟩ := ih hz ha; exact ⟨_, .down h1 hg⟩
theorem Sub.enc {t y : Nd} {ad : Addr} {f : Nd → Nd} (h : Sub t ad y f) (y' : Nd) : (f y').enc = t.enc := by
  cases h <;> exact withKids_enc (List.length_set ..)
theorem flatH_take {n : Nat} {hs : Nat → Heap} {j : Nat} (hj : j < n) : (flatH n hs).Perm (hs j ++ flatH n fun i => if i = j then [] else hs i) := by
  induction n with
  | zero => omega
  | succ n ih =>
    rw [flatH_last, flatH_last]
    by_cases e : n = j
    · subst e
      rw [if_pos rfl, List.append_nil, flatH_congr (hs' := hs) fun i hi => if_neg (by omega)]
      exact List.perm_append_comm
    · rw [if_neg e, ← List.append_assoc]
      exact (ih (by omega)).append_right _
theorem splice_at {α : Type} (P vs ws S : List α) (h : vs.length = ws.length) : splice P.length vs (P ++ (ws ++ S)) = P ++ (vs ++ S) := by
  rw [splice_eq _ _ _ (by simp only [List.length_append]; omega)]
  have h2 : (P ++ (ws ++ S)).drop (P.length + vs.length) = S := by rw [h, ← List.append_assoc, ← List.length_append]; exact List.drop_left
  rw [h2, List.take_left]
theorem _root_.Go.Vc.Acc.split {E n c j : Nat} {a : Option Addr} {l : List Nd} {A : Heap} {y : Nd} (h : Acc 8 Nd.enc E a n c l A) (hy : l[j]? = some y) :
    ∃ b P S, a = some ⟨b, 0, none⟩ ∧ P.length = j * 8 ∧ A = [(b, Obj.cells (P ++ (y.enc ++ S)).toArray E (0, 0))] ∧ ∀ y' : Nd, Acc 8 Nd.enc E a n c (l.set j y') [(b, Obj.cells (P ++ (y'.enc ++ S)).toArray E (0, 0))] := by
  obtain ⟨hn, ⟨ha, hc, hl, hA⟩ | ⟨b, cells, ha, hA, hcs, hnc, htk⟩⟩ := h
  · subst hl; simp at hy
  · obtain ⟨hlt, hyv⟩ := List.getElem?_eq_some_iff.1 hy
    have hl : l = l.take j ++ y :: l.drop (j + 1) := by
      rw [← hyv, ← List.drop_eq_getElem_cons hlt]; exact (List.take_append_drop j l).symm
    have hset : ∀ y', l.set j y' = l.take j ++ y' :: l.drop (j + 1) := fun y' => by rw [List.set_eq_take_append_cons_drop, if_pos hlt]
    have hP : ((l.take j).flatMap Nd.enc).length = j * 8 := by rw [flat_len Nd.enc_len, List.length_take]; congr 1; omega
    have hS : ((l.drop (j + 1)).flatMap Nd.enc).length = (n - (j + 1)) * 8 := by rw [flat_len Nd.enc_len, List.length_drop, hn]
    have hfl : ∀ y' : Nd, (l.set j y').flatMap Nd.enc = (l.take j).flatMap Nd.enc ++ (y'.enc ++ (l.drop (j + 1)).flatMap Nd.enc) := fun y' => by rw [hset, List.flatMap_append, List.flatMap_cons]
    have hcl : cells.toList = (l.take j).flatMap Nd.enc ++ (y.enc ++ ((l.drop (j + 1)).flatMap Nd.enc ++ cells.toList.drop (n * 8))) := by
      conv => lhs; rw [← List.take_append_drop (n * 8) cells.toList, htk, hl, List.flatMap_append, List.flatMap_cons]
      simp only [List.append_assoc]
    have hcz : cells.toList.length = c * 8 := by rw [Array.length_toList]; exact hcs
    refine ⟨b, (l.take j).flatMap Nd.enc, (l.drop (j + 1)).flatMap Nd.enc ++ cells.toList.drop (n * 8), ha, hP, ?_, fun y' => ⟨by rw [List.length_set]; exact hn, .inr ⟨b, _, ha, rfl, ?_, hnc, ?_⟩⟩⟩
    · rw [hA, ← hcl]
    · have h1 : n * 8 ≤ c * 8 := Nat.mul_le_mul_right 8 hnc
      have h2 : (j + 1) * 8 ≤ n * 8 := Nat.mul_le_mul_right 8 (by omega)
      rw [List.size_toArray]
      simp only [List.length_append, hP, hS, Nd.enc_len, List.length_drop, hcz, Nat.sub_mul]
      omega
    · rw [hfl y']
      have e : (l.take j).flatMap Nd.enc ++ (y'.enc ++ ((l.drop (j + 1)).flatMap Nd.enc ++ cells.toList.drop (n * 8))) = ((l.take j).flatMap Nd.enc ++ (y'.enc ++ (l.drop (j + 1)).flatMap Nd.enc)) ++ cells.toList.drop (n * 8) := by simp only [List.append_assoc]
      have h2 : (j + 1) * 8 ≤ n * 8 := Nat.mul_le_mul_right 8 (by omega)
      show ((l.take j).flatMap Nd.enc ++ (y'.enc ++ ((l.drop (j + 1)).flatMap Nd.enc ++ cells.toList.drop (n * 8)))).take (n * 8) = _
      rw [e, List.take_left']
      simp only [List.length_append, hP, hS, Nd.enc_len, Nat.sub_mul]
      omega
theorem _root_.Go.Vc.Acc.congr {E n c : Nat} {a : Option Addr} {l l' : List Nd} {A : Heap} (h : Acc 8 Nd.enc E a n c l A) (hl : l.length = l'.length) (he : l.flatMap Nd.enc = l'.flatMap Nd.enc) : Acc 8 Nd.enc E a n c l' A := by
  obtain ⟨hn, ⟨ha, hc, hnil, hA⟩ | ⟨b, cells, ha, hA, hcs, hnc, htk⟩⟩ := h
  · subst hnil
    cases l' with
    | nil => exact ⟨hn, .inl ⟨ha, hc, rfl, hA⟩⟩
    | cons x l' => simp at hl
  · exact ⟨hn.trans hl, .inr ⟨b, cells, ha, hA, hcs, hnc, htk.trans he⟩⟩
theorem OwnT.set {E : Nat} {t k' : Nd} {j : Nat} {A : Heap} {hs : Nat → Heap} {H' : Heap} (hj : j < t.kids.length) (hA : Acc 8 Nd.enc E t.a t.kids.length t.c (t.kids.set j k') A) (hk : ∀ (i : Nat) (k : Nd), t.kids[i]? = some k → OwnT E false k (hs i))
    (hk' : OwnT E false k' H') : ∃ H, OwnT E false (t.withKids (t.kids.set j k')) H ∧ H.Perm (A ++ (H' ++ flatH t.kids.length fun i => if i = j then [] else hs i)) := by
  refine ⟨_, .mk (t := t.withKids (t.kids.set j k')) (A := A) (hs := fun i => if i = j then H' else hs i) ?_ (fun h => by cases h) fun i k hi => ?_, ?_⟩
  · show Acc 8 Nd.enc E t.a (t.kids.set j k').length t.c (t.kids.set j k') A
    rw [List.length_set]; exact hA
  · have hi : (t.kids.set j k')[i]? = some k := hi
    rw [List.getElem?_set] at hi
    by_cases e : j = i
    · subst e
      rw [if_pos rfl, if_pos hj] at hi
      rw [if_pos rfl, ← Option.some.inj hi]; exact hk'
    · rw [if_neg e] at hi
      rw [if_neg (Ne.symm e)]; exact hk i k hi
  · show (A ++ flatH (t.kids.set j k').length fun i => if i = j then H' else hs i).Perm _
    rw [List.length_set]
    refine .append_left _ ((flatH_take hj).trans ?_)
    rw [if_pos rfl, flatH_congr (hs' := fun i => if i = j then [] else hs i) fun i hi => by split <;> rfl]
theorem Sub.focus {t y : Nd} {ad : Addr} {f : Nd → Nd} (h : Sub t ad y f) : ∀ {E : Nat} {H : Heap}, OwnT E false t H → ∃ b P S Hy R, ad = ⟨b, P.length, none⟩ ∧ H.Perm ((b, Obj.cells (P ++ (y.enc ++ S)).toArray E (0, 0)) :: (Hy ++ R)) ∧ OwnT E false y Hy ∧
    ∀ y' Hy', OwnT E false y' Hy' → ∃ H', OwnT E false (f y') H' ∧ H'.Perm ((b, Obj.cells (P ++ (y'.enc ++ S)).toArray E (0, 0)) :: (Hy' ++ R)) := by
  induction h with
  | @here t y a j h1 h2 =>
    intro E H hO
    obtain ⟨A, hs, rfl, hA, -, hk⟩ := hO.inv
    obtain ⟨b, P, S, ha, hP, hAe, hset⟩ := hA.split h1
    have hj := (List.getElem?_eq_some_iff.1 h1).1
    rw [h2] at ha
    have ha := Option.some.inj ha
    subst ha
    refine ⟨b, P, S, hs j, flatH t.kids.length fun i => if i = j then [] else hs i, ?_, ?_, hk j y h1, fun y' Hy' hO' => ?_⟩
    · rw [hP, add_lit0]
    · rw [hAe]; exact .cons _ (flatH_take hj)
    · obtain ⟨H', g1, g2⟩ := OwnT.set hj (hset y') hk hO'
      exact ⟨H', g1, g2⟩
  | @down t k y ad j f h1 h2 ih =>
    intro E H hO
    obtain ⟨A, hs, rfl, hA, -, hk⟩ := hO.inv
    obtain ⟨b, P, S, Hy, R, had, hp, hOy, hup⟩ := ih (hk j k h1)
    have hj := (List.getElem?_eq_some_iff.1 h1).1
    have hf := flatH_take (hs := hs) hj
    refine ⟨b, P, S, Hy, R ++ (A ++ flatH t.kids.length fun i => if i = j then [] else hs i), had, (perm_of fun z => by have q0 := cn_perm hf z; have q1 := cn_perm hp z; simp only [cn_app, cn_cons, cn_nil] at q0 q1 ⊢; omega), hOy, fun y' Hy' hO' => ?_⟩
    obtain ⟨H', hO2, hp2⟩ := hup y' Hy' hO'
    have hA' : Acc 8 Nd.enc E t.a t.kids.length t.c (t.kids.set j (f y')) A := by
      refine hA.congr (List.length_set ..).symm ?_
      obtain ⟨hlt, hkv⟩ := List.getElem?_eq_some_iff.1 h1
      rw [List.set_eq_take_append_cons_drop, if_pos hlt, List.flatMap_append, List.flatMap_cons, h2.enc y', ← hkv, ← List.flatMap_cons, ← List.drop_eq_getElem_cons hlt, ← List.flatMap_append, List.take_append_drop]
    obtain ⟨H3, g1, g2⟩ := OwnT.set hj hA' hk hO2
    exact ⟨H3, g1, (perm_of fun z => by have q0 := cn_perm g2 z; have q1 := cn_perm hp2 z; simp only [cn_app, cn_cons, cn_nil] at q0 q1 ⊢; omega)⟩
def Dif (a b : Px) : Prop := a.like b = false ∧ b.like a = false
theorem likeL_set : ∀ (l : List Px) (j : Nat) (x v : Px), l[j]? = some x → Dif x v → Px.likeL l (l.set j v) = false ∧ Px.likeL (l.set j v) l = false
  | [], j, x, v, h, _ => by simp at h
  | a :: l, 0, x, v, h, hd => by
    simp only [List.getElem?_cons_zero, Option.some.injEq] at h
    subst h
    rw [List.set_cons_zero, Px.likeL, Px.likeL, hd.1, hd.2]
    exact ⟨rfl, rfl⟩
  | a :: l, j + 1, x, v, h, hd => by
    rw [List.getElem?_cons_succ] at h
    obtain ⟨h1, h2⟩ := likeL_set l j x v h hd
    rw [List.set_cons_succ, Px.likeL, Px.likeL, h1, h2, Bool.and_false]
    exact ⟨rfl, rfl⟩
theorem Dif.set {t k k' : Nd} {j : Nat} (h : t.kids[j]? = some k) (hd : Dif k.px k'.px) : Dif t.px (t.withKids (t.kids.set j k')).px := by
  have hj : (t.kids.map Nd.px)[j]? = some k.px := by rw [List.getElem?_map, h]; rfl
  obtain ⟨h1, h2⟩ := likeL_set _ j _ _ hj hd
  have e : (t.withKids (t.kids.set j k')).px.kids = (t.kids.map Nd.px).set j k'.px := by rw [Nd.px_kids]; exact List.map_set
  refine ⟨?_, ?_⟩
  · rw [Px.like_eq, e, Nd.px_kids, h1, Bool.and_false, Bool.and_false]
  · rw [Px.like_eq, e, Nd.px_kids, h2, Bool.and_false, Bool.and_false]
theorem Sub.dif {t y : Nd} {ad : Addr} {f : Nd → Nd} (h : Sub t ad y f) {y' : Nd} (hd : Dif y.px y'.px) : Dif t.px (f y').px := by
  induction h with
  | here h1 h2 => exact hd.set h1
  | down h1 h2 ih => exact (ih hd).set h1
theorem sizeL_set : ∀ (l : List Px) (j : Nat) (x v : Px), l[j]? = some x → v.size ≤ x.size + 1 → Px.sizeL (l.set j v) ≤ Px.sizeL l + 1
  | [], j, x, v, h, _ => by simp at h
  | a :: l, 0, x, v, h, hd => by
    simp only [List.getElem?_cons_zero, Option.some.injEq] at h
    subst h
    rw [List.set_cons_zero, Px.sizeL, Px.sizeL]; omega
  | a :: l, j + 1, x, v, h, hd => by
    rw [List.getElem?_cons_succ] at h
    have := sizeL_set l j x v h hd
    rw [List.set_cons_succ, Px.sizeL, Px.sizeL]; omega
theorem size_set {t k k' : Nd} {j : Nat} (h : t.kids[j]? = some k) (hd : k'.px.size ≤ k.px.size + 1) : (t.withKids (t.kids.set j k')).px.size ≤ t.px.size + 1 := by
  have hj : (t.kids.map Nd.px)[j]? = some k.px := by rw [List.getElem?_map, h]; rfl
  have h1 := sizeL_set _ j _ _ hj hd
  have e : (t.withKids (t.kids.set j k')).px.kids = (t.kids.map Nd.px).set j k'.px := by rw [Nd.px_kids]; exact List.map_set
  rw [Px.size_eq, Px.size_eq t.px, e, Nd.px_kids]; omega
theorem Sub.size {t y : Nd} {ad : Addr} {f : Nd → Nd} (h : Sub t ad y f) {y' : Nd} (hd : y'.px.size ≤ y.px.size + 1) : (f y').px.size ≤ t.px.size + 1 := by
  induction h with
  | here h1 h2 => exact size_set h1 hd
  | down h1 h2 ih => exact size_set h1 (ih hd)
def rootN (b : Nat) (x : Nd) : Nd := .mk 0 0 0 0 0 ⟨#[]⟩ (some ⟨b, 0, none⟩) 1 [x] 0
theorem root_sub (b : Nat) (x : Nd) : ∃ f, Sub (rootN b x) ⟨b, 0, none⟩ x f := by
  have h : Sub (rootN b x) ((⟨b, 0, none⟩ : Addr).add (0 * 8)) x _ := .here (j := 0) rfl rfl
  rw [add_lit0] at h
  exact ⟨_, h⟩
theorem root_out {b : Nat} {x y : Nd} {ad : Addr} {f : Nd → Nd} (h : Sub (rootN b x) ad y f) (y' : Nd) : ∃ x', f y' = rootN b x' ∧ (Dif y.px y'.px → Dif x.px x'.px) ∧ (y'.px.size ≤ y.px.size + 1 → x'.px.size ≤ x.px.size + 1) := by
  cases h with
  | @here _ _ a j h1 h2 =>
    cases j with
    | succ j => cases h1
    | zero =>
      cases h1
      exact ⟨y', rfl, id, id⟩
  | @down _ k _ _ j g h1 h2 =>
    cases j with
    | succ j => cases h1
    | zero =>
      cases h1
      exact ⟨g y', rfl, h2.dif, h2.size⟩
theorem root_own {E b : Nat} {x : Nd} {Hx : Heap} (h : OwnT E false x Hx) : OwnT E false (rootN b x) ((b, Obj.cells x.enc.toArray E (0, 0)) :: Hx) := by
  have h1 : OwnT E false (rootN b x) ([(b, Obj.cells x.enc.toArray E (0, 0))] ++ flatH 1 fun _ => Hx) :=
    .mk (t := rootN b x) (A := [(b, Obj.cells x.enc.toArray E (0, 0))]) (hs := fun _ => Hx) ⟨rfl, .inr ⟨b, _, rfl, rfl, by rw [List.size_toArray, Nd.enc_len]; rfl, Nat.le_refl _, by
      show x.enc.toArray.toList.take (1 * 8) = [x].flatMap Nd.enc
      rw [show [x].flatMap Nd.enc = x.enc by simp, List.take_of_length_le (by simp [Nd.enc_len])]⟩⟩ (fun h => by cases h) fun i k hi => by
        cases i with
        | zero => cases hi; exact h
        | succ i => cases hi
  have e : flatH 1 (fun _ => Hx) = Hx := by rw [flatH_succ, flatH_zero, List.append_nil]
  rw [e] at h1
  exact h1
theorem root_inv {E b : Nat} {x : Nd} {H : Heap} (h : OwnT E false (rootN b x) H) : ∃ Hx, OwnT E false x Hx ∧ H = (b, Obj.cells x.enc.toArray E (0, 0)) :: Hx := by
  obtain ⟨A, hs, rfl, hA, -, hk⟩ := h.inv
  refine ⟨hs 0, hk 0 x rfl, ?_⟩
  obtain ⟨hn, ⟨ha, hc, hl, hA⟩ | ⟨b', cells, ha, hA, hcs, hnc, htk⟩⟩ := hA
  · cases ha
  · cases ha
    have e : cells = x.enc.toArray := by
      have h1 : cells.toList.take 8 = [x].flatMap Nd.enc := htk
      rw [show [x].flatMap Nd.enc = x.enc by simp, List.take_of_length_le (by rw [Array.length_toList, hcs]; exact Nat.le_refl _)] at h1
      rw [← h1]
    subst e
    rw [hA]
    show [(b, Obj.cells x.enc.toArray E (0, 0))] ++ flatH 1 hs = _
    rw [flatH_succ, flatH_zero, List.append_nil]; rfl
theorem turn_key {E b_x : Nat} {x y : Nd} {Hx : Heap} {ad : Addr} {f : Nd → Nd} (hS : Sub (rootN b_x x) ad y f) (hO : OwnT E false x Hx) :
    ∃ b P S Hy R, ad = ⟨b, P.length, none⟩ ∧ ((b_x, Obj.cells x.enc.toArray E (0, 0)) :: Hx).Perm ((b, Obj.cells (P ++ (y.enc ++ S)).toArray E (0, 0)) :: (Hy ++ R)) ∧ OwnT E false y Hy ∧
      ∀ y' Hy', OwnT E false y' Hy' → Dif y.px y'.px → y'.px.size ≤ y.px.size + 1 → ∃ x' H', OwnT E false x' H' ∧ ((b_x, Obj.cells x'.enc.toArray E (0, 0)) :: H').Perm ((b, Obj.cells (P ++ (y'.enc ++ S)).toArray E (0, 0)) :: (Hy' ++ R)) ∧ Dif x.px x'.px ∧ x'.px.size ≤ x.px.size + 1 := by
  obtain ⟨b, P, S, Hy, R, h1, h2, h3, h4⟩ := hS.focus (root_own (b := b_x) hO)
  refine ⟨b, P, S, Hy, R, h1, h2, h3, fun y' Hy' hO' hd hz => ?_⟩
  obtain ⟨H', g1, g2⟩ := h4 y' Hy' hO'
  obtain ⟨x', e, q1, q2⟩ := root_out hS y'
  rw [e] at g1
  obtain ⟨Hx', k1, rfl⟩ := root_inv g1
  exact ⟨x', Hx', k1, g2, q1 hd, q2 hz⟩
theorem ofInt_wrap64 (n : Int) : BitVec.ofInt 64 (IntKind.wrap .i64 n) = BitVec.ofInt 64 n := by
  apply BitVec.eq_of_toInt_eq
  simp only [BitVec.toInt_ofInt]
  simp only [IntKind.wrap, IntKind.bits, IntKind.signed]
  simp only [Int.bmod]
  simp
  split <;> omega
theorem ofInt_wrap8 (n : Int) : BitVec.ofInt 8 (IntKind.wrap .u8 n) = BitVec.ofInt 8 n := by
  apply BitVec.eq_of_toInt_eq
  simp only [BitVec.toInt_ofInt]
  simp only [IntKind.wrap, IntKind.bits, IntKind.signed]
  simp only [Int.bmod]
  simp
theorem flip64 (m : Int) : IntKind.wrap .i64 (BitVec.toNat ((BitVec.ofInt 64 m) ^^^ (BitVec.ofInt 64 1))) ≠ m := fun h => by
  have h1 := ofInt_wrap64 (BitVec.toNat ((BitVec.ofInt 64 m) ^^^ (BitVec.ofInt 64 1)))
  rw [h, BitVec.ofInt_natCast, BitVec.ofNat_toNat] at h1
  simp only [BitVec.setWidth_eq] at h1
  generalize BitVec.ofInt 64 m = z at h1
  have h2 := congrArg (fun v => v.getLsbD 0) h1
  rw [show BitVec.ofInt 64 1 = 1#64 from rfl] at h2
  simp at h2
theorem flip8 (m : Int) : IntKind.wrap .u8 (BitVec.toNat ((BitVec.ofInt 8 m) ^^^ (BitVec.ofInt 8 1))) ≠ m := fun h => by
  have h1 := ofInt_wrap8 (BitVec.toNat ((BitVec.ofInt 8 m) ^^^ (BitVec.ofInt 8 1)))
  rw [h, BitVec.ofInt_natCast, BitVec.ofNat_toNat] at h1
  simp only [BitVec.setWidth_eq] at h1
  generalize BitVec.ofInt 8 m = z at h1
  have h2 := congrArg (fun v => v.getLsbD 0) h1
  rw [show BitVec.ofInt 8 1 = 1#8 from rfl] at h2
  simp at h2
end Go.Lx
namespace Go.Vc
open Go.ChangeShapes Go.WideShapes Go.ChangeAt Go.RowKit
def Imm.all (w : World) : Imm := ⟨fun b => w.heap[b]?, w.os, w.output⟩
theorem Sat.all (w : World) : Sat (Imm.all w) [] w := ⟨fun _ _ h => h, fun _ _ h => by simp at h, fun _ _ h => by simp at h, List.nodup_nil, rfl, rfl⟩
structure Stays (w w' : World) : Prop where
  heap : ∀ i, i < w.heap.size → w'.heap[i]? = w.heap[i]?
  os : w'.os = w.os
  out : w'.output = w.output
theorem Stays.of {w w' : World} {I : Imm} {F : Heap} (hl : Imm.le (Imm.all w) I) (hs : Sat I F w') : Stays w w' := by
  refine ⟨fun i hi => ?_, hs.env.1.trans hl.2.1, hs.env.2.trans hl.2.2⟩
  obtain ⟨o, ho⟩ : ∃ o, w.heap[i]? = some o := ⟨_, Array.getElem?_eq_getElem hi⟩
  rw [ho]
  exact hs.imm _ _ (hl.1 i o ho)
theorem Stays.kept {w w' : World} (h : Stays w w') (may : MemPlace → Prop) : w.keptBut w' may := by
  refine ⟨h.os, h.out, fun i hi => ?_⟩
  rw [h.heap i hi]
  cases w.heap[i]? with
  | none => rfl
  | some o => cases o with
    | cells c t fr => exact ⟨rfl, rfl, rfl, fun _ _ => rfl⟩
    | map es clock => exact .inr ⟨rfl, rfl⟩
    | _ => rfl
theorem Stays.frozen {w w' : World} (h : Stays w w') {a : Addr} (ha : a.block < w.heap.size) : w'.frozen? a = w.frozen? a := by
  unfold World.frozen?; rw [h.heap _ ha]
theorem post_stays {H : Type} {enc : TypeId × Value → H} {P : Program} {f : Func} {s : ChangeSpec} {apart fresh handsOn again : Bool} {W W' : World} {args : Array Value} {v : Value} {ds gs : List (DataW H)} {before pa pv : List MemPlace}
    (hW : DataW.Whole enc P f.params.toList s.vars apart W args.toList ds gs before)
    (hres : ∀ (b : Nat) (sp : Nat → Bool) (hd : Bool), DataW.TrodAll enc P W' b sp hd f.resultTypes.toList (v.resultList f.resultTypes.size) (s.fn H (ds ++ gs)).results [])
    (hargs : ∀ sp : Nat → Bool, (∀ p ∈ before, sp p.block = true) → DataW.TrodAll enc P W' 0 sp true f.params.toList args.toList (s.fn H (ds ++ gs)).args pa)
    (hvars : ∀ sp : Nat → Bool, (∀ p ∈ before, sp p.block = true) → DataW.TrodVars enc P W' sp s.vars (s.fn H (ds ++ gs)).vars pv)
    (hps : before = pa ++ pv) (hk : Stays W W')
    (hok : ∀ (j : Nat) (t : TypeId) (r : Value), f.resultTypes[j]? = some t → (v.resultList f.resultTypes.size)[j]? = some r → Value.okWide P W' .any 0 t r) :
    s.post enc P f apart fresh handsOn again W args v W' := by
  have hold : ∀ p ∈ before, (fun b => decide (b < W.heap.size)) p.block = true := fun p hp => by simpa using hW.lt p hp
  have hlt : ∀ p ∈ before, p.block < W.heap.size := fun p hp => hW.lt p hp
  refine ⟨ds, gs, before, [], pa, pv, hW, hres _ _ _, hargs _ hold, hvars _ hold, World.keptBut_mono (fun p hp => ⟨hp, ?_⟩) (hk.kept (· ∈ before)), fun _ => ?_⟩
  · rw [hps, List.mem_append] at hp
    exact Or.inr hp
  · obtain ⟨_, _, _, _, _, hz, hn⟩ := hW
    refine ⟨hok, _, _, ([] ++ pa) ++ pv, ⟨[] ++ pa, pv, trodAll_append (hargs _ (fun _ _ => rfl)) (hres _ _ _), hvars _ (fun _ _ => rfl), rfl, ?_, ?_⟩, ?_⟩
    · intro b off hp
      have hp' : MemPlace.cell b off ∈ before := by rw [hps]; simpa using hp
      rw [hk.frozen (hlt _ hp')]
      exact hz b off hp'
    · intro ha
      have := hn ha
      rw [hps] at this
      simpa using this
    · intro p hp _
      rw [hps]
      simpa using hp
end Go.Vc
namespace Go.Vc
open Go.ChangeShapes Go.WideShapes Go.ChangeAt Go.RowKit
theorem Stays.cell {w w' : World} (h : Stays w w') {a : Addr} (ha : a.block < w.heap.size) : w'.cell? a = w.cell? a := by
  unfold World.cell?; rw [h.heap _ ha]
theorem Stays.same {w w' : World} (h : Stays w w') {p : MemPlace} (hp : p.block < w.heap.size) : w.sameAt w' p := by
  cases p with
  | cell b off => exact h.cell (a := ⟨b, off, none⟩) hp
  | map b => exact h.heap b hp
theorem trodAll_stays {H : Type} {enc : TypeId × Value → H} {P : Program} {T : TypeId → Prop} {w w' : World} (K : Kids P T) (hsz : ∀ {t e : TypeId}, T t → P.underlying t = some (.slice e) → 0 < P.cellsOf e) (st : Stays w w') {sp' : Nat → Bool} :
    ∀ {ts : List TypeId} {vs : List Value} {ds : List (DataW H)} {ps : List MemPlace}, (∀ t ∈ ts, T t) → DataW.TrodAll enc P w 0 (fun _ => true) true ts vs ds ps → (∀ p ∈ ps, sp' p.block = true) → DataW.TrodAll enc P w' 0 sp' true ts vs ds ps
  | [], [], [], ps, _, h, _ => h
  | t :: ts, v :: vs, d :: ds, ps, ht, ⟨p, q, ⟨n, h1⟩, h2, e⟩, hs => by
    subst e
    have hlt : ∀ x ∈ p, x.block < w.heap.size := DataW.trod_lt n t v.cells.toList (d, p) h1
    refine ⟨p, q, ⟨n, ?_⟩, trodAll_stays K hsz st (fun t' ht' => ht t' (List.mem_cons_of_mem _ ht')) h2 (fun x hx => hs x (List.mem_append_right _ hx)), rfl⟩
    exact DataW.trod_stays K hsz (fun h => by cases h) (ht t (List.mem_cons_self ..)) h1 (fun x hx => st.same (hlt x hx)) (fun x hx => hs x (List.mem_append_left _ hx))
  | [], _ :: _, _, _, _, h, _ => h.elim
  | [], [], _ :: _, _, _, h, _ => h.elim
  | _ :: _, [], _, _, _, h, _ => h.elim
  | _ :: _, _ :: _, [], _, _, h, _ => h.elim
end Go.Vc
namespace Go.Vc
open Go.ChangeShapes Go.WideShapes Go.ChangeAt Go.RowKit
theorem list_choice {α : Type} {p : Nat → α → Prop} : ∀ (n : Nat), (∀ i, i < n → ∃ x, p i x) → ∃ l : List α, l.length = n ∧ ∀ (i : Nat) (x : α), l[i]? = some x → p i x
  | 0, _ => ⟨[], rfl, fun i x h => by simp at h⟩
  | n + 1, h => by
    obtain ⟨l, hl, hp⟩ := list_choice n fun i hi => h i (by omega)
    obtain ⟨x, hx⟩ := h n (by omega)
    refine ⟨l ++ [x], by simp [hl], fun i y hy => ?_⟩
    rw [List.getElem?_append] at hy
    split at hy
    · exact hp i y hy
    · rename_i hi
      have : i - l.length = 0 := by
        rcases Nat.eq_zero_or_pos (i - l.length) with h | h
        · exact h
        · rw [List.getElem?_eq_none (by simp; omega)] at hy; cases hy
      rw [this] at hy
      simp only [List.getElem?_cons_zero, Option.some.injEq] at hy
      subst hy
      have : i = n := by omega
      rw [this]; exact hx
theorem Rd.of_row {W : World} {ad : Addr} {n : Nat} {cs : List Value} {base : Nat} (h : W.cells? base ad n = some cs) (hn : 0 < n) (G : Heap) : ad.spot = none → Rd (Imm.all W) G ad cs := by
  intro hsp
  obtain ⟨_, hl, hc⟩ := World.cells?_some h
  have h0 : W.cell? ad = cs[0]? := by have := hc 0 hn; rwa [show ad.add 0 = ad from rfl] at this
  have hlen : cs.length = n := hl
  unfold World.cell? at h0
  cases hb : W.heap[ad.block]? with
  | none => rw [hb] at h0; simp only at h0; rw [List.getElem?_eq_getElem (by omega)] at h0; cases h0
  | some o =>
    cases o with
    | cells c e fz =>
      refine ⟨hsp, c, e, fz, .inl hb, fun j hj => ?_⟩
      have h1 := hc j (by omega)
      have hadd : ad.add j = ⟨ad.block, ad.off + j, none⟩ := by
        obtain ⟨b, off, sp⟩ := ad
        simp only at hsp; subst hsp
        unfold Addr.add; split <;> simp_all
      rw [hadd] at h1
      unfold World.cell? at h1
      simp only [hb] at h1
      simpa using h1
    | _ => rw [hb] at h0; simp only at h0; rw [List.getElem?_eq_getElem (by omega)] at h0; cases h0
end Go.Vc
namespace Go.Vc
open Go.ChangeShapes Go.WideShapes Go.ChangeAt Go.RowKit
def Opens {H α : Type} (en : TypeId × Value → H) (P : Program) (W : World) (sp : Nat → Bool) (hd : Bool) (n : Nat) (t : TypeId) (f : α → List Value) (R S : α → Prop) : Prop :=
  ∀ cs d ps, DataW.trod en P W 0 sp hd n t cs = some (d, ps) → ∃ x, cs = f x ∧ R x ∧ ((∀ m ∈ d.weights P t, m ≤ reachBytes) → S x)
def OpensF {H α : Type} (en : TypeId × Value → H) (P : Program) (W : World) (sp : Nat → Bool) (hd : Bool) (n : Nat) (z : Nat) (fs : List (TypeId × Nat)) (o : Nat) (f : α → List Value) (R S : α → Prop) : Prop :=
  ∀ (cs : List Value) (xs : List (DataW H × List MemPlace)), (fs.mapM fun p => DataW.trod en P W 0 sp hd n p.1 ((cs.drop p.2).take (P.cellsOf p.1))) = some xs → cs.length = z → ∃ x, cs.drop o = f x ∧ R x ∧ ((∀ m ∈ DataW.weightsEach P (fs.map Prod.fst) (xs.map Prod.fst), m ≤ reachBytes) → S x)
def structB (P : Program) (t : TypeId) (l : List (TypeId × Nat)) (z : Nat) : Bool := match P.underlying t with
  | some (.struct fs) => (fs.toList.map fun f => (f.type, f.offset)) == l && P.cellsOf t == z
  | _ => false
theorem mapM_via {α β γ : Type} (h : α → β) (g : β → Option γ) : ∀ l : List α, (l.map h).mapM g = l.mapM fun x => g (h x)
  | [] => rfl
  | x :: l => by simp [List.mapM_cons, mapM_via h g l]
section
variable {H : Type} {en : TypeId × Value → H} {P : Program} {W : World} {sp : Nat → Bool} {hd : Bool} {n : Nat}
theorem OpensF.nil {z : Nat} : OpensF en P W sp hd n z [] z (fun _ : Unit => []) (fun _ => True) (fun _ => True) := by
  intro cs xs h hl
  exact ⟨(), List.drop_eq_nil_of_le (by omega), trivial, fun _ => trivial⟩
theorem OpensF.cons {α β : Type} {z o k : Nat} {t : TypeId} {fs : List (TypeId × Nat)} {f : α → List Value} {g : β → List Value} {R S : α → Prop} {R' S' : β → Prop} (h : Opens en P W sp hd n t f R S) (hc : P.cellsOf t = k)
    (hs : OpensF en P W sp hd n z fs (o + k) g R' S') : OpensF en P W sp hd n z ((t, o) :: fs) o (fun x : α × β => f x.1 ++ g x.2) (fun x => R x.1 ∧ R' x.2) (fun x => S x.1 ∧ S' x.2) := by
  intro cs xs hm hl
  rw [List.mapM_cons] at hm
  cases h0 : DataW.trod en P W 0 sp hd n t ((cs.drop o).take (P.cellsOf t)) with
  | none => simp [h0] at hm
  | some x0 =>
    cases h1 : (fs.mapM fun p => DataW.trod en P W 0 sp hd n p.1 ((cs.drop p.2).take (P.cellsOf p.1))) with
    | none => simp [h0, h1] at hm
    | some ys =>
      simp [h0, h1] at hm
      subst hm
      obtain ⟨d0, p0⟩ := x0
      obtain ⟨x, e1, r1, s1⟩ := h _ _ _ h0
      obtain ⟨y, e2, r2, s2⟩ := hs _ _ h1 hl
      refine ⟨(x, y), ?_, ⟨r1, r2⟩, fun hw => ⟨s1 fun m hm => hw m ?_, s2 fun m hm => hw m ?_⟩⟩
      · show cs.drop o = f x ++ g y
        rw [← e1, ← e2, hc, ← List.drop_drop, List.take_append_drop]
      · simp only [List.map_cons, DataW.weightsEach, List.mem_append]; exact .inl hm
      · simp only [List.map_cons, DataW.weightsEach, List.mem_append]; exact .inr hm
theorem Opens.struct {α : Type} {z : Nat} {t : TypeId} {fs : List (TypeId × Nat)} {f : α → List Value} {R S : α → Prop} (ht : structB P t fs z = true) (h : OpensF en P W sp hd n z fs 0 f R S) : Opens en P W sp hd (n + 1) t f R S := by
  intro cs d ps hr
  unfold structB at ht
  split at ht
  · rename_i gs hg
    simp only [Bool.and_eq_true, beq_iff_eq] at ht
    obtain ⟨ht, hz⟩ := ht
    simp only [DataW.trod, hg] at hr
    split at hr
    · rename_i hl
      rw [hz] at hl
      cases hm : gs.toList.mapM fun f => DataW.trod en P W 0 sp hd n f.type ((cs.drop f.offset).take (P.cellsOf f.type)) with
      | none => rw [hm] at hr; cases hr
      | some xs =>
        rw [hm] at hr
        simp only [Option.map_some, Option.some.injEq, Prod.mk.injEq] at hr
        have hm' : (fs.mapM fun p => DataW.trod en P W 0 sp hd n p.1 ((cs.drop p.2).take (P.cellsOf p.1))) = some xs := by rw [← ht, mapM_via]; exact hm
        obtain ⟨x, e, r, s⟩ := h cs xs hm' hl
        refine ⟨x, by simpa using e, r, fun hw => s fun m hmm => hw m ?_⟩
        rw [← hr.1]
        simp only [DataW.weights, hg]
        have : gs.toList.map (fun f => f.type) = fs.map Prod.fst := by rw [← ht, List.map_map]; rfl
        rw [this]; exact hmm
    · cases hr
  · cases ht
theorem Opens.map {α β : Type} {t : TypeId} {f : α → List Value} {g : β → List Value} {R S : α → Prop} {R' S' : β → Prop} (h : Opens en P W sp hd n t f R S) (φ : α → β) (hf : ∀ x, R x → f x = g (φ x)) (hr : ∀ x, R x → R' (φ x)) (hs : ∀ x, R x → S x → S' (φ x)) : Opens en P W sp hd n t g R' S' := by
  intro cs d ps hd
  obtain ⟨x, e, r, s⟩ := h cs d ps hd
  exact ⟨φ x, e.trans (hf x r), hr x r, fun hw => hs x r (s hw)⟩
theorem Opens.int {k : IntKind} {t : TypeId} (ht : P.underlying t = some (.int k)) : Opens en P W sp hd n t (fun x : Int => [.int k x]) (fun x => (Lit.int k x).wf = true) (fun _ => True) := by
  intro cs d ps h
  obtain ⟨x, e, _, hw⟩ := DataW.trod_int ht h
  exact ⟨x, e, hw, fun _ => trivial⟩
theorem Opens.str {t : TypeId} (ht : P.underlying t = some .string) : Opens en P W sp hd n t (fun x : ByteArray => [.string x]) (fun x => x.size ≤ maxLen) (fun x => x.size ≤ reachBytes) := by
  intro cs d ps h
  obtain ⟨s, e, hx, hl⟩ := DataW.trod_string ht h
  refine ⟨s, e, hl, fun hw => ?_⟩
  simp only [Prod.mk.injEq] at hx
  have := hw s.data.toList.length (by rw [hx.1]; simp [DataW.weights])
  simpa using this
structure SlV (β : Type) where
  a : Option Addr
  n : Nat
  c : Nat
  l : List β
theorem Opens.slice {β : Type} {z by' : Nat} {t e : TypeId} {f : β → List Value} {R S : β → Prop} (ht : P.underlying t = some (.slice e)) (hc : P.cellsOf e = z) (hz : 0 < z) (hb : P.bytesOf e = by') (hb1 : 1 ≤ by') (hf : ∀ x, (f x).length = z) (h : Opens en P W sp hd n e f R S) :
    Opens en P W sp hd (n + 1) t (fun s : SlV β => [.slice s.a s.n s.c]) (fun s => SlG (Imm.all W) [] z f s.a s.n s.l ∧ ∀ x ∈ s.l, R x) (fun s => s.l.length ≤ reachBytes ∧ ∀ x ∈ s.l, S x) := by
  intro cs d ps hr
  rcases DataW.trod_slice ht hr with ⟨h1, h2⟩ | ⟨ad, len, cap, elems, rest, n', hn, hcs, hx, _, _, _, hlen, hel, _, _⟩
  · exact ⟨⟨none, 0, 0, []⟩, h1, ⟨⟨rfl, fun h => absurd rfl h⟩, fun x hx => by cases hx⟩, fun _ => ⟨by simp, fun x hx => by cases hx⟩⟩
  · cases hn
    simp only [Prod.mk.injEq] at hx
    obtain ⟨hdd, hps⟩ := hx
    clear hps
    subst hcs
    have hone : ∀ i, i < len → ∃ x, Rd (Imm.all W) [] (ad.add (i * z)) (f x) ∧ R x ∧ ((∀ y ∈ elems, ∀ m ∈ y.1.weights P e, m ≤ reachBytes) → S x) := by
      intro i hi
      have hfy := hel i hi
      obtain ⟨y, hy⟩ : ∃ y, elems[i]? = some y := ⟨_, List.getElem?_eq_getElem (by omega)⟩
      rw [hc, hy] at hfy
      cases hcs : W.cells? 0 (ad.add (i * z)) z with
      | none => rw [hcs] at hfy; cases hfy
      | some cs =>
        rw [hcs] at hfy
        simp only [Option.bind_some] at hfy
        obtain ⟨x, e1, r1, s1⟩ := h cs y.1 y.2 hfy
        subst e1
        have hspk : (ad.add (i * z)).spot = none := by
          obtain ⟨_, hl, hc'⟩ := World.cells?_some hcs
          have h0 := hc' 0 hz
          rw [show (ad.add (i * z)).add 0 = ad.add (i * z) from rfl, List.getElem?_eq_getElem (by rw [hf]; omega)] at h0
          cases hs : (ad.add (i * z)).spot with
          | none => rfl
          | some q =>
            unfold World.cell? at h0
            split at h0 <;> simp_all
        refine ⟨x, Rd.of_row hcs hz [] hspk, r1, fun hw => s1 fun m hm => hw y (List.mem_of_getElem? hy) m hm⟩
    obtain ⟨l, hll, hlx⟩ := list_choice len hone
    refine ⟨⟨some ad, len, cap, l⟩, rfl, ⟨⟨hll.symm, fun _ => ⟨ad, rfl, fun i x hx => (hlx i x hx).1⟩⟩, fun x hx => ?_⟩, fun hw => ⟨?_, fun x hx => ?_⟩⟩
    · obtain ⟨i, hi, rfl⟩ := List.mem_iff_getElem.1 hx
      exact (hlx i _ (List.getElem?_eq_getElem hi)).2.1
    · have h1 := hw ((elems.length + rest.length) * by') (by rw [hdd]; simp only [DataW.weights, ht, List.length_map, hb]; exact List.mem_cons_self ..)
      have h2 : elems.length + rest.length ≤ (elems.length + rest.length) * by' := Nat.le_mul_of_pos_right _ hb1
      show l.length ≤ reachBytes
      omega
    · obtain ⟨i, hi, rfl⟩ := List.mem_iff_getElem.1 hx
      refine (hlx i _ (List.getElem?_eq_getElem hi)).2.2 fun y hy m hm => hw m ?_
      rw [hdd]
      simp only [DataW.weights, ht]
      refine List.mem_cons_of_mem _ (List.mem_append_left _ ?_)
      clear hx hlen hel hone hlx hdd hr hw hi hll
      induction elems with
      | nil => cases hy
      | cons q qs ihq =>
        simp only [List.map_cons, DataW.weightsAll, List.mem_append]
        rcases List.mem_cons.1 hy with rfl | hy
        · exact .inl hm
        · exact .inr (ihq hy)
theorem Opens.zero {α : Type} {t : TypeId} {f : α → List Value} {R S : α → Prop} : Opens en P W sp hd 0 t f R S := fun cs d ps h => by cases h
end
end Go.Vc
namespace Go.Lx
open Go.Vc Go.ChangeShapes Go.WideShapes Go.ChangeAt Go.RowKit
def ndF : List (TypeId × Nat) := [(22, 0), (23, 1), (24, 2), (2, 3), (25, 4), (9, 5), (26, 6), (3, 7)]
theorem wf8 {x : Int} (h : (Lit.int .u8 x).wf = true) : 0 ≤ x ∧ x ≤ 255 := by
  simp [Lit.wf, IntKind.min, IntKind.max, IntKind.signed, IntKind.bits] at h; omega
theorem wf64 {x : Int} (h : (Lit.int .i64 x).wf = true) : -9223372036854775808 ≤ x ∧ x ≤ 9223372036854775807 := by
  simp [Lit.wf, IntKind.min, IntKind.max, IntKind.signed, IntKind.bits] at h; omega
theorem Wf.mk {t : Nd} (h : t.px.Fit) (hk : ∀ k ∈ t.kids, k.px.Wf) : t.px.Wf := by
  intro y hy
  rw [← nodes_px] at hy
  obtain ⟨x, hx, rfl⟩ := List.mem_map.1 hy
  rw [Nd.nodes_eq] at hx
  rcases List.mem_cons.1 hx with rfl | hx
  · exact h
  · have hL : ∀ l : List Nd, (∀ k ∈ l, k.px.Wf) → x ∈ Nd.nodesL l → x.px.Fit := by
      intro l
      induction l with
      | nil => intro _ h; rw [Nd.nodesL] at h; cases h
      | cons z r ih =>
        intro hz h
        rw [Nd.nodesL] at h
        rcases List.mem_append.1 h with h | h
        · exact Wf.nd (hz z (List.mem_cons_self ..)) x h
        · exact ih (fun k hk => hz k (List.mem_cons_of_mem _ hk)) h
    exact hL _ hk hx
theorem open_nd {H : Type} {en : TypeId × Value → H} {W : World} {sp : Nat → Bool} {hd : Bool} : ∀ n, Opens en P W sp hd n 28 Nd.enc (fun t => NdOk (Imm.all W) [] t ∧ t.px.Wf) (fun t => t.px.ShortP) := by
  intro n
  induction n using Nat.strongRecOn with
  | ind n ih =>
    cases n with
    | zero => exact Opens.zero
    | succ n =>
      have hsl : Opens en P W sp hd n 26 (fun s : SlV Nd => [.slice s.a s.n s.c]) (fun s => SlG (Imm.all W) [] 8 Nd.enc s.a s.n s.l ∧ ∀ x ∈ s.l, NdOk (Imm.all W) [] x ∧ x.px.Wf) (fun s => s.l.length ≤ reachBytes ∧ ∀ x ∈ s.l, x.px.ShortP) := by
        cases n with
        | zero => exact Opens.zero
        | succ n => exact Opens.slice (z := 8) (by' := 72) (by kernel_rfl) (by kernel_rfl) (by decide) (by kernel_rfl) (by decide) Nd.enc_len (ih n (by omega))
      refine (Opens.struct (z := 8) (fs := ndF) (by kernel_rfl) ((OpensF.cons (k := 1) (Opens.int (k := .u8) (by kernel_rfl)) (by kernel_rfl) <| OpensF.cons (k := 1) (Opens.int (k := .u8) (by kernel_rfl)) (by kernel_rfl) <| OpensF.cons (k := 1) (Opens.int (k := .u8) (by kernel_rfl)) (by kernel_rfl) <|
        OpensF.cons (k := 1) (Opens.int (k := .i64) (by kernel_rfl)) (by kernel_rfl) <| OpensF.cons (k := 1) (Opens.int (k := .u8) (by kernel_rfl)) (by kernel_rfl) <| OpensF.cons (k := 1) (Opens.str (by kernel_rfl)) (by kernel_rfl) <| OpensF.cons (k := 1) hsl (by kernel_rfl) <|
        OpensF.cons (k := 1) (Opens.int (k := .i64) (by kernel_rfl)) (by kernel_rfl) OpensF.nil))).map (fun x => Nd.mk x.1 x.2.1 x.2.2.1 x.2.2.2.1 x.2.2.2.2.1 x.2.2.2.2.2.1 x.2.2.2.2.2.2.1.a x.2.2.2.2.2.2.1.c x.2.2.2.2.2.2.1.l x.2.2.2.2.2.2.2.1) ?_ ?_ ?_
      · intro ⟨k, o, ty, m, f, s, ⟨a, l, c, ks⟩, q, u⟩ ⟨_, _, _, _, _, _, ⟨h7, _⟩, _⟩
        have hl : l = ks.length := h7.1
        subst hl; rfl
      · intro ⟨k, o, ty, m, f, s, ⟨a, l, c, ks⟩, q, u⟩ ⟨h1, h2, h3, h4, h5, h6, ⟨h7, h8⟩, h9, _⟩
        have hl : l = ks.length := h7.1
        subst hl
        refine ⟨.mk h7 fun x hx => (h8 x hx).1, Wf.mk ?_ fun x hx => (h8 x hx).2⟩
        unfold Px.Fit
        rw [Nd.px_kind, Nd.px_oper, Nd.px_typ, Nd.px_n, Nd.px_field, Nd.px_pos]
        exact ⟨wf8 h1, wf8 h2, wf8 h3, wf64 h4, wf8 h5, wf64 h9⟩
      · intro ⟨k, o, ty, m, f, s, ⟨a, l, c, ks⟩, q, u⟩ _ ⟨_, _, _, _, _, g6, ⟨g7, g8⟩, _⟩
        refine .mk (by rw [Nd.px_name]; exact g6) (by rw [Nd.px_len]; exact g7) fun x hx => ?_
        rw [Nd.px_kids] at hx
        obtain ⟨y, hy, rfl⟩ := List.mem_map.1 hx
        exact g8 y hy
theorem agg_of {P : Program} {W : World} {r : Reach} {b0 : Nat} {t : TypeId} {v : Value} {fs : List (TypeId × Nat)} {z : Nat} (hst : structB P t fs z = true) (hval : Value.okWide P W r b0 t v) : v = .agg v.cells.toList.toArray := by
  unfold structB at hst
  split at hst
  · rename_i gs hg
    have h5 := okWide_struct hg hval
    obtain ⟨cs, hv, hcs⟩ := h5
    clear hcs
    subst hv
    rfl
  · cases hst
set_option maxRecDepth 100000 in
theorem open_node {H : Type} {en : TypeId × Value → H} {W : World} {base : Nat} {sp : Nat → Bool} {hd : Bool} {v : Value} {d : DataW H} {ps : List MemPlace} {r : Reach} (hval : Value.okWide P W r base 28 v) (h : DataW.Trod en P W 0 sp hd 28 v d ps) :
    ∃ t : Nd, v = t.v ∧ NdOk (Imm.all W) [] t ∧ t.px.Wf ∧ ((∀ m ∈ d.weights P 28, m ≤ reachBytes) → t.px.ShortP) := by
  have hv := agg_of (fs := ndF) (z := 8) (by kernel_rfl) hval
  obtain ⟨fuel, hf⟩ := h
  obtain ⟨t, e, ⟨h1, h2⟩, h3⟩ := open_nd fuel _ d ps hf
  exact ⟨t, by rw [hv, e], h1, h2, h3⟩
end Go.Lx
