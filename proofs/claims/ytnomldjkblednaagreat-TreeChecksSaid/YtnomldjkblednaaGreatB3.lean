import Derived.Test.YtnomldjkblednaaGreatB2
set_option linter.unusedVariables false
set_option linter.unusedSimpArgs false
set_option maxRecDepth 100000
namespace Go.Lx
open Go.Vc
theorem size_kid {t x : Nd} (h : x ∈ t.kids) {n : Int} (hs : t.px.size ≤ n) : x.px.size ≤ n := by
  have h1 := Px.sizeL_mem (List.mem_map_of_mem (f := Nd.px) h)
  rw [Px.size_eq, Nd.px_kids] at hs
  omega
theorem size_len {t : Nd} {n : Int} (hs : t.px.size ≤ n) : (t.kids.length : Int) < n := by
  have h1 := Px.sizeL_len (t.kids.map Nd.px)
  rw [Px.size_eq, Nd.px_kids] at hs
  rw [List.length_map] at h1
  omega
def zNd : Nd := .mk 0 0 0 0 0 ⟨#[]⟩ none 0 [] 0
def Made (E : Nat) (R : Bool) (x : Px) (F : Heap) (e : Ending) (I : Imm) (G : Heap) : Prop := ∃ (t' : Nd) (H : Heap), e = .returned t'.v ∧ t'.px = x ∧ OwnT E R t' H ∧ G.Perm (H ++ F)
theorem take_map_snoc {f : Px → Px} {l : List Nd} {i : Nat} {x : Nd} (h : l[i]? = some x) : ((l.take (i + 1)).map Nd.px).map f = ((l.take i).map Nd.px).map f ++ [f x.px] := by
  obtain ⟨hk, rfl⟩ := List.getElem?_eq_some_iff.1 h
  rw [List.take_succ_eq_append_getElem hk, List.map_append, List.map_append]; rfl
theorem bare_spec : ∀ (t : Nd), t.px.size ≤ 1048576 → ∀ (I : Imm) (F : Heap), NdOk I F t → Tri P 56 #[t.v] I F (Made 55 false t.px.bare F) := by
  refine Nd.ind fun t ih hs I F ht => ?_
  have hln := size_len hs
  refine ref00_BareNode.vc (fun a n c i m I' F' => 0 ≤ i ∧ i ≤ t.kids.length ∧ m = (t.kids.length - i).toNat ∧ ∃ (ks : List Nd) (A : Heap) (hs : Nat → Heap), Acc 8 Nd.enc 55 a n c ks A ∧
    ks.map Nd.px = ((t.kids.take i.toNat).map Nd.px).map Px.bare ∧ (∀ (j : Nat) (k : Nd), ks[j]? = some k → OwnT 55 false k (hs j)) ∧ F'.Perm (A ++ (flatH ks.length hs ++ F)) ∧ (ks.length : Int) = i) ?_
  unfold ref00_BareNode.V
  intro b_x b
  refine ⟨⟨_, by omega, by omega, rfl, [], [], fun _ => [], Acc.nil, by simp, fun j k h => by simp at h, .refl _, rfl⟩, fun a n c i m I1 F1 hI ⟨g0, g1, gm, ks, A, hh, hA, hp, hk, hF, hl⟩ => ⟨fun hlt => ?_, fun hlt => ?_⟩⟩
  · have hlt := of_decide_eq_true hlt
    have ht1 : NdOk I1 F1 t := ht.mono hI fun x hx => hF.mem_iff.2 (List.mem_append_right _ (List.mem_append_right _ hx))
    obtain ⟨ad, x, had, hx, hrd, hxo, hxm⟩ := (ht1.cons.cons (x := (b_x, .cells #[.int .u8 t.kind, .int .u8 t.oper, .int .u8 t.typ, .int .i64 t.n, .int .u8 t.field, .string t.name, .slice t.a t.kids.length t.c, .int .i64 0] 55 (0, 0))) (t := t)).kids.at g0 hlt
    refine ⟨⟨g0, hlt⟩, ad, had, _, _, _, _, _, _, _, _, _, _, hrd, (ih x hxm (size_kid hxm hs) I1 _ hxo).mono fun e I2 G hI2 ⟨t', H, he, hpx, hO, hG⟩ => ?_⟩
    subst he
    refine ⟨_, _, _, _, _, _, _, _, _, _, rfl, H ++ F1, hG.trans (perm_of fun x => by simp only [cn_app, cn_cons]; omega), fun b1 I3 hI3 hb1 => ?_⟩
    refine TriE.perm (TriE.mono (append_spec' (f := Nd.enc) (z := 8) (zv := zNd.v) Nd.enc_len (by' := 72) (by kernel_rfl) (by kernel_rfl) rfl (by decide) hA (xs := [t']) (fun x _ => x.enc_one) (by simp) rfl ?_ ?_
      (F := (b_x, .cells #[.int .u8 t.kind, .int .u8 t.oper, .int .u8 t.typ, .int .i64 t.n, .int .u8 t.field, .string t.name, .slice t.a t.kids.length t.c, .int .i64 0] 55 (0, 0)) :: (b, .cells #[.int .u8 0, .int .u8 0, .int .u8 0, .int .i64 0, .int .u8 0, .string ⟨#[]⟩, .slice none 0 0, .int .i64 0] 55 (0, 0)) :: (H ++ (flatH ks.length hh ++ F)))) fun v I4 G hI4 ⟨a', n', c', A', hv, hA', hG', _⟩ => ?_) ?_
    · exact ⟨rfl, _, _, _, .inl hb1, fun j hj => by simp⟩
    · simp only [List.length_cons, List.length_nil]; omega
    · subst hG'
      refine ⟨_, _, _, hv, A' ++ (H ++ (flatH ks.length hh ++ F)), perm_of fun x => by simp only [cn_app, cn_cons]; omega, (t.kids.length - (i + 1)).toNat, by omega, ?_⟩
      rw [w64 (n := i + 1) (by omega)]
      refine ⟨by omega, by omega, rfl, ks ++ [t'], A', fun j => if j < ks.length then hh j else H, hA', ?_, fun j k hj => ?_, ?_, by rw [List.length_append]; simp; omega⟩
      · rw [show (i + 1).toNat = i.toNat + 1 by omega, take_map_snoc hx, List.map_append, hp, List.map_singleton, hpx]
      · show OwnT _ _ k (if j < ks.length then hh j else H)
        rw [List.getElem?_append] at hj
        split at hj
        · rename_i hlt'; rw [if_pos hlt']; exact hk j k hj
        · rename_i hge
          have hj' := List.mem_of_getElem? hj
          rw [List.mem_singleton] at hj'
          rw [if_neg hge, hj']; exact hO
      · rw [List.length_append, List.length_singleton, flatH_last, if_neg (Nat.lt_irrefl _), flatH_congr (hs' := hh) fun j hj => if_pos hj]
        exact perm_of fun x => by simp only [cn_app, cn_cons]; omega
    · exact perm_of fun x => by have := cn_perm hF x; simp only [cn_app, cn_cons] at this ⊢; omega
  · have hlt := of_decide_eq_false hlt
    have hn := hA.1
    subst hn
    refine ⟨.mk t.kind t.oper t.typ t.n t.field t.name a c ks 0, A ++ flatH ks.length hh, rfl, ?_, .mk (t := .mk t.kind t.oper t.typ t.n t.field t.name a c ks 0) hA (fun h => by cases h) hk, by rw [List.append_assoc]; exact hF⟩
    rw [Nd.px, Nd.pxs_map, hp, Px.bare_eq, Nd.px_kids, List.take_of_length_le (by omega), Nd.px_kind, Nd.px_oper, Nd.px_typ, Nd.px_n, Nd.px_field, Nd.px_name]
end Go.Lx
namespace Go.Lx
open Go.Vc
def shT_t1 : List (Nat × List Sh) := [(3, [.one (.int .i64)]), (4, [.one .bool]), (55, [.agg [(.int .u8), (.int .u8), (.int .u8), (.int .i64), (.int .u8), .str, .slc, (.int .i64)]])]
def ref12_zero.V (vt : Bool → Value) (i a b c d : Int) (e : Bs) (f : OA) (g h : Nat) (j : Int) (I : Imm) (F : Heap) (Q : PostQ)  : Prop := ∀ k : Nat, (((a == 0) = true → (((b == 0) = true → (((c == 0) = true → (((d == 0) = true → Q (.returned (vt (e.toList == (⟨#[]⟩ : Bs).toList))) I (F)) ∧ ((d == 0) = false → Q (.returned (vt false)) I (F)))) ∧ ((c == 0) = false → Q (.returned (vt false)) I (F)))) ∧ ((b == 0) = false → Q (.returned (vt false)) I (F)))) ∧ ((a == 0) = false → Q (.returned (vt false)) I (F)))
theorem ref12_zero.vc {n_0 n_1 n_2 n_3 n_4 : Int} {n_5 : Bs} {n_6_a : OA} {n_6_n n_6_c : Nat} {n_7 : Int} {I : Imm} {F : Heap} {Q : PostQ}  (h : ref12_zero.V .bool n_0 n_1 n_2 n_3 n_4 n_5 n_6_a n_6_n n_6_c n_7 I F Q) : Tri P 125 #[.agg #[.int .u8 n_0, .int .u8 n_1, .int .u8 n_2, .int .i64 n_3, .int .u8 n_4, .string n_5, .slice n_6_a n_6_n n_6_c, .int .i64 n_7]] I (F) Q :=
  tv (A := (annL [1002, 1006, 1011, 1016] [] [] shT_t1 [] [] [] [] [] [] [])) (args := [.a (.v (.agg #[.int .u8 n_0, .int .u8 n_1, .int .u8 n_2, .int .i64 n_3, .int .u8 n_4, .string n_5, .slice n_6_a n_6_n n_6_c, .int .i64 n_7]))]) (own := []) (keep := []) [] Go.Proofs.Tryz.func125 h
def ref12_literal.V (nO : Int → Int → Int → Int → Int → Bs → OA → Nat → Nat → Int → Obj) (vb : Int → Value) (vt : Bool → Value) (f g a b h : Int) (i : Bs) (d : OA) (c e : Nat) (j : Int) (I : Imm) (F : Heap) (Q : PostQ) (Inv4 : Bool → Imm → Heap → Prop) : Prop := ∀ k : Nat, ((((a == 1) = true → Inv4 (decide (b ≥ 0)) I F) ∧ ((a == 1) = false → (((a == 2) = true → Inv4 (decide (b ≥ 0)) I F) ∧ ((a == 2) = false → (((a == 3) = true → Inv4 (decide (b ≥ 0)) I F) ∧ ((a == 3) = false → (((a == 4) = true → Inv4 (decide (b ≥ 0)) I F) ∧ ((a == 4) = false → (((a == 5) = true → (((b == 0) = true → Inv4 true I F) ∧ ((b == 0) = false → Inv4 (b == 1) I F))) ∧ ((a == 5) = false → (((a == 6) = true → (((b == 1) = true → Inv4 true I F) ∧ ((b == 1) = false → Inv4 (b == 2) I F))) ∧ ((a == 6) = false → Inv4 false I F))))))))))))) ∧ ∀ (ok : Bool) (I1 : Imm) (F1 : Heap), Imm.le I I1 → Inv4 ok I1 F1 → ((ok = true → Tri P 125 (#[.agg #[vb f, vb g, vb 0, .int .i64 0, vb h, .string i, .slice d c e, .int .i64 j]]) I1 ((k, nO f g 0 0 h i d c e j) :: F1) fun e1 I2 G1 => ∃ (r : Bool), e1 = .returned (vt r) ∧ ∃ F2 : Heap, List.Perm G1 ((k, nO f g 0 0 h i d c e j) :: F2) ∧ ((r = true → Q (.returned (vt (((c : Nat) : Int) == 0))) I2 (F2)) ∧ (r = false → Q (.returned (vt false)) I2 (F2)))) ∧ (ok = false → Q (.returned (vt false)) I1 (F1)))
theorem ref12_literal.vc {n_0 n_1 n_2 n_3 n_4 : Int} {n_5 : Bs} {n_6_a : OA} {n_6_n n_6_c : Nat} {n_7 : Int} {I : Imm} {F : Heap} {Q : PostQ} (Inv4 : Bool → Imm → Heap → Prop) (h : ref12_literal.V (fun k o t n f s a l c q => .cells #[.int .u8 k, .int .u8 o, .int .u8 t, .int .i64 n, .int .u8 f, .string s, .slice a l c, .int .i64 q] 55 (0, 0)) (.int .u8) .bool n_0 n_1 n_2 n_3 n_4 n_5 n_6_a n_6_n n_6_c n_7 I F Q Inv4) : Tri P 124 #[.agg #[.int .u8 n_0, .int .u8 n_1, .int .u8 n_2, .int .i64 n_3, .int .u8 n_4, .string n_5, .slice n_6_a n_6_n n_6_c, .int .i64 n_7]] I (F) Q :=
  tv (A := (annL [3000, 4000, 5000, 6000, 8000, 9002, 10000, 11002, 14000, 14003] [] [125] shT_t1 [(4, ⟨[(3, .bool)], [], fun _ _ _ vs m I F => match vs with | [.bool y0] => Inv4 y0 I F | _ => False, [], []⟩)] [] [] [] [] [] [])) (args := [.a (.v (.agg #[.int .u8 n_0, .int .u8 n_1, .int .u8 n_2, .int .i64 n_3, .int .u8 n_4, .string n_5, .slice n_6_a n_6_n n_6_c, .int .i64 n_7]))]) (own := []) (keep := []) [125] Go.Proofs.Tryz.func124 h
def ref12_one.V (w : Nat → Nat × Obj) (nV : Int → Int → Int → Int → Int → Bs → OA → Nat → Nat → Int → Value) (nO : Int → Int → Int → Int → Int → Bs → OA → Nat → Nat → Int → Obj) (vt : Bool → Value) (a e g h f : Int) (i : Bs) (b : OA) (c d : Nat) (j : Int) (I : Imm) (F : Heap) (Q : PostQ) (Inv6 : Bool → Int → Bool → Int → Int → Int → Int → Int → Bs → OA → Nat → Nat → Int → Imm → Heap → Prop) : Prop := ∀ v : Nat, ((((a == 1) = true → Tri P 124 (#[nV a e g h f i b c d j]) I ((w v) :: F) fun e1 I1 G1 => ∃ (r : Bool), e1 = .returned (vt r) ∧ ∃ F1 : Heap, List.Perm G1 ((w v) :: F1) ∧ Q (.returned (vt r)) I1 (F1)) ∧ ((a == 1) = false → (((a == 2) = true → Tri P 73 (#[.string i]) I ((w v) :: F) fun e2 I2 G2 => ∃ (r1 : Bool), e2 = .returned (vt r1) ∧ ∃ F2 : Heap, List.Perm G2 ((w v) :: F2) ∧ Inv6 false 0 r1 a e g h f (⟨#[]⟩ : Bs) b c d j I2 F2) ∧ ((a == 2) = false → (((a == 3) = true → ((decide (f ≥ 1) = true → Inv6 false 0 (decide (f ≤ 6)) a e g h 0 i b c d j I F) ∧ (decide (f ≥ 1) = false → Inv6 false 0 false a e g h 0 i b c d j I F))) ∧ ((a == 3) = false → (((a == 4) = true → ((decide (f ≥ 1) = true → Inv6 false 0 (decide (f ≤ 3)) a e g h 0 i b c d j I F) ∧ (decide (f ≥ 1) = false → Inv6 false 0 false a e g h 0 i b c d j I F))) ∧ ((a == 4) = false → (((a == 5) = true → (((e == 1) = true → Inv6 false 1 true a 0 g h f i b c d j I F) ∧ ((e == 1) = false → Inv6 false 1 (e == 2) a 0 g h f i b c d j I F))) ∧ ((a == 5) = false → (((a == 6) = true → ((decide (e ≥ 6) = true → Inv6 false 2 (decide (e ≤ 18)) a 0 g h f i b c d j I F) ∧ (decide (e ≥ 6) = false → Inv6 false 2 false a 0 g h f i b c d j I F))) ∧ ((a == 6) = false → (((a == 7) = true → Inv6 false 3 true a e g h f i b c d j I F) ∧ ((a == 7) = false → (((a == 8) = true → ((decide (e ≥ 3) = true → (((e == 3) = true → Inv6 false 1 (decide (e ≤ 5)) a 0 g h f i b c d j I F) ∧ ((e == 3) = false → Inv6 false 2 (decide (e ≤ 5)) a 0 g h f i b c d j I F))) ∧ (decide (e ≥ 3) = false → (((e == 3) = true → Inv6 false 1 false a 0 g h f i b c d j I F) ∧ ((e == 3) = false → Inv6 false 2 false a 0 g h f i b c d j I F))))) ∧ ((a == 8) = false → (((a == 9) = true → ((decide (g ≥ 1) = true → Inv6 false 1 (decide (g ≤ 4)) a e 0 h f i b c d j I F) ∧ (decide (g ≥ 1) = false → Inv6 false 1 false a e 0 h f i b c d j I F))) ∧ ((a == 9) = false → Inv6 false 0 false a e g h f i b c d j I F))))))))))))))))))) ∧ ∀ (x : Bool) (y : Int) (ok : Bool) (n o p q s : Int) (t : Bs) (l : OA) (k m : Nat) (u : Int) (I3 : Imm) (F3 : Heap), Imm.le I I3 → Inv6 x y ok n o p q s t l k m u I3 F3 → ((ok = true → Tri P 125 (#[nV n o p q s t l k m u]) I3 ((v, nO n o p q s t l k m u) :: F3) fun e3 I4 G3 => ∃ (r2 : Bool), e3 = .returned (vt r2) ∧ ∃ F4 : Heap, List.Perm G3 ((v, nO n o p q s t l k m u) :: F4) ∧ ((r2 = true → Q (.returned (vt (((k : Nat) : Int) == y))) I4 (F4)) ∧ (r2 = false → Q (.returned (vt false)) I4 (F4)))) ∧ (ok = false → Q (.returned (vt false)) I3 (F3)))
theorem ref12_one.vc {n_0 n_1 n_2 n_3 n_4 : Int} {n_5 : Bs} {n_6_a : OA} {n_6_n n_6_c : Nat} {n_7 : Int} {I : Imm} {F : Heap} {Q : PostQ} (Inv6 : Bool → Int → Bool → Int → Int → Int → Int → Int → Bs → OA → Nat → Nat → Int → Imm → Heap → Prop) (h : ref12_one.V (fun b => (b, Obj.cells #[.int .u8 n_0, .int .u8 n_1, .int .u8 n_2, .int .i64 n_3, .int .u8 n_4, .string n_5, .slice n_6_a n_6_n n_6_c, .int .i64 n_7] 55 (0, 0))) (fun k o t n f s a l c q => .agg #[.int .u8 k, .int .u8 o, .int .u8 t, .int .i64 n, .int .u8 f, .string s, .slice a l c, .int .i64 q]) (fun k o t n f s a l c q => .cells #[.int .u8 k, .int .u8 o, .int .u8 t, .int .i64 n, .int .u8 f, .string s, .slice a l c, .int .i64 q] 55 (0, 0)) .bool n_0 n_1 n_2 n_3 n_4 n_5 n_6_a n_6_n n_6_c n_7 I F Q Inv6) : Tri P 118 #[.agg #[.int .u8 n_0, .int .u8 n_1, .int .u8 n_2, .int .i64 n_3, .int .u8 n_4, .string n_5, .slice n_6_a n_6_n n_6_c, .int .i64 n_7]] I (F) Q :=
  tv (A := (annL [4000, 6000, 9000, 10002, 12000, 13002, 15000, 16002, 19000, 20002, 23000, 26000, 27002, 29002, 32000, 33002, 36000, 36003] [] [73, 124, 125] shT_t1 [(6, ⟨[(2, .bool), (3, (.int .i64)), (4, .bool)], [(0, [(.int .u8), (.int .u8), (.int .u8), (.int .i64), (.int .u8), .str, .slc, (.int .i64)])], fun _ _ _ vs m I F => match vs with | [.bool y0, .int _ y1, .bool y2, .int _ y3, .int _ y4, .int _ y5, .int _ y6, .int _ y7, .string y8, .slice y9 y10 y11, .int _ y12] => Inv6 y0 y1 y2 y3 y4 y5 y6 y7 y8 y9 y10 y11 y12 I F | _ => False, [], []⟩)] [] [] [] [] [] [])) (args := [.a (.v (.agg #[.int .u8 n_0, .int .u8 n_1, .int .u8 n_2, .int .i64 n_3, .int .u8 n_4, .string n_5, .slice n_6_a n_6_n n_6_c, .int .i64 n_7]))]) (own := []) (keep := []) [73, 124, 125] Go.Proofs.Tryz.func118 h
def ref12_Formed.V (b : Nat → Nat × Obj) (nV : Int → Int → Int → Int → Int → Bs → OA → Nat → Nat → Int → Value) (vb : Int → Value) (vt : Bool → Value) (s t u v w : Int) (x : Bs) (d : OA) (a h : Nat) (y : Int) (I : Imm) (F : Heap) (Q : PostQ) (Inv8 : Bool → Int → Nat → Imm → Heap → Prop) : Prop := ∀ c : Nat, Tri P 118 (#[nV s t u v w x d a h y]) I ((b c) :: F) fun e1 I1 G1 => ∃ (r : Bool), e1 = .returned (vt r) ∧ ∃ F1 : Heap, List.Perm G1 ((b c) :: F1) ∧ (∃ m : Nat, Inv8 r 0 m I1 F1) ∧ ∀ (ok : Bool) (i : Int) (m1 : Nat) (I2 : Imm) (F2 : Heap), Imm.le I1 I2 → Inv8 ok i m1 I2 F2 → ((decide (i < ((a : Nat) : Int)) = true → ((ok = true → ((0 ≤ i ∧ i < (a : Int)) ∧ ∃ ad : Addr, d = some ad ∧ ∃ (j k l n o : Int) (p : Bs) (e : OA) (f g : Nat) (q : Int), Rd I2 ((b c) :: F2) (ad.add (Int.toNat (i) * 8)) [vb j, vb k, vb l, .int .i64 n, vb o, .string p, .slice e f g, .int .i64 q] ∧ Tri P 111 (#[nV j k l n o p e f g q]) I2 ((b c) :: F2) fun e2 I3 G2 => ∃ (r1 : Bool), e2 = .returned (vt r1) ∧ ∃ F3 : Heap, List.Perm G2 ((b c) :: F3) ∧ (∃ m2 : Nat, m2 < m1 ∧ Inv8 r1 (IntKind.wrap .i64 (i + 1)) m2 I3 F3))) ∧ (ok = false → Q (.returned (vt ok)) I2 (F2)))) ∧ (decide (i < ((a : Nat) : Int)) = false → Q (.returned (vt ok)) I2 (F2)))
theorem ref12_Formed.vc {n_0 n_1 n_2 n_3 n_4 : Int} {n_5 : Bs} {n_6_a : OA} {n_6_n n_6_c : Nat} {n_7 : Int} {I : Imm} {F : Heap} {Q : PostQ} (Inv8 : Bool → Int → Nat → Imm → Heap → Prop) (h : ref12_Formed.V (fun b => (b, Obj.cells #[.int .u8 n_0, .int .u8 n_1, .int .u8 n_2, .int .i64 n_3, .int .u8 n_4, .string n_5, .slice n_6_a n_6_n n_6_c, .int .i64 n_7] 55 (0, 0))) (fun k o t n f s a l c q => .agg #[.int .u8 k, .int .u8 o, .int .u8 t, .int .i64 n, .int .u8 f, .string s, .slice a l c, .int .i64 q]) (.int .u8) .bool n_0 n_1 n_2 n_3 n_4 n_5 n_6_a n_6_n n_6_c n_7 I F Q Inv8) : Tri P 111 #[.agg #[.int .u8 n_0, .int .u8 n_1, .int .u8 n_2, .int .i64 n_3, .int .u8 n_4, .string n_5, .slice n_6_a n_6_n n_6_c, .int .i64 n_7]] I (F) Q :=
  tv (A := (annL [3004, 3006] [] [111, 118] shT_t1 [(8, ⟨[(3, .bool), (4, (.int .i64))], [], fun _ _ _ vs m I F => match vs with | [.bool y0, .int _ y1] => Inv8 y0 y1 m I F | _ => False, [], []⟩)] [] [] [] [] [] [])) (args := [.a (.v (.agg #[.int .u8 n_0, .int .u8 n_1, .int .u8 n_2, .int .i64 n_3, .int .u8 n_4, .string n_5, .slice n_6_a n_6_n n_6_c, .int .i64 n_7]))]) (own := []) (keep := []) [111, 118] Go.Proofs.Tryz.func111 h
def ref12_level.V (vi : Int → Value) (b a f g h : Int) (i : Bs) (c : OA) (d e : Nat) (j : Int) (I : Imm) (F : Heap) (Q : PostQ)  : Prop := ∀ k : Nat, (((b == 7) = true → Q (.returned (vi 1)) I (F)) ∧ ((b == 7) = false → (((b == 5) = true → Q (.returned (vi 7)) I (F)) ∧ ((b == 5) = false → (((b == 6) = true → (((a == 18) = true → Q (.returned (vi 2)) I (F)) ∧ ((a == 18) = false → (((a == 17) = true → Q (.returned (vi 3)) I (F)) ∧ ((a == 17) = false → ((decide (a ≥ 11) = true → Q (.returned (vi 4)) I (F)) ∧ (decide (a ≥ 11) = false → ((decide (a ≤ 7) = true → Q (.returned (vi 5)) I (F)) ∧ (decide (a ≤ 7) = false → Q (.returned (vi 6)) I (F)))))))))) ∧ ((b == 6) = false → Q (.returned (vi 8)) I (F)))))))
theorem ref12_level.vc {n_0 n_1 n_2 n_3 n_4 : Int} {n_5 : Bs} {n_6_a : OA} {n_6_n n_6_c : Nat} {n_7 : Int} {I : Imm} {F : Heap} {Q : PostQ}  (h : ref12_level.V (.int .i64) n_0 n_1 n_2 n_3 n_4 n_5 n_6_a n_6_n n_6_c n_7 I F Q) : Tri P 129 #[.agg #[.int .u8 n_0, .int .u8 n_1, .int .u8 n_2, .int .i64 n_3, .int .u8 n_4, .string n_5, .slice n_6_a n_6_n n_6_c, .int .i64 n_7]] I (F) Q :=
  tv (A := (annL [2000, 4000, 6000, 7002, 9002, 11002, 13002] [] [] shT_t1 [] [] [] [] [] [] [])) (args := [.a (.v (.agg #[.int .u8 n_0, .int .u8 n_1, .int .u8 n_2, .int .i64 n_3, .int .u8 n_4, .string n_5, .slice n_6_a n_6_n n_6_c, .int .i64 n_7]))]) (own := []) (keep := []) [] Go.Proofs.Tryz.func129 h
def ref12_Asks.V (nO : Int → Int → Int → Int → Int → Bs → OA → Nat → Nat → Int → Obj) (vb vi : Int → Value) (a e f g h : Int) (j : Bs) (b : OA) (c d : Nat) (k i : Int) (I : Imm) (F : Heap) (Q : PostQ)  : Prop := ∀ l : Nat, Tri P 129 (#[.agg #[vb a, vb e, vb f, vi g, vb h, .string j, .slice b c d, vi k]]) I ((l, nO a e f g h j b c d k) :: F) fun e1 I1 G1 => ∃ (r : Int), e1 = .returned (vi r) ∧ ∃ F1 : Heap, List.Perm G1 ((l, nO a e f g h j b c d k) :: F1) ∧ (((a == 7) = true → (((i == 0) = true → Q (.returned (vi 2)) I1 (F1)) ∧ ((i == 0) = false → Q (.returned (vi 1)) I1 (F1)))) ∧ ((a == 7) = false → (((a == 5) = true → Q (.returned (vi 7)) I1 (F1)) ∧ ((a == 5) = false → (((a == 6) = true → (((r == 4) = true → Q (.returned (vi 5)) I1 (F1)) ∧ ((r == 4) = false → Q (.returned (vi (IntKind.wrap .i64 (r + i)))) I1 (F1)))) ∧ ((a == 6) = false → Q (.returned (vi 1)) I1 (F1)))))))
theorem ref12_Asks.vc {n_0 n_1 n_2 n_3 n_4 : Int} {n_5 : Bs} {n_6_a : OA} {n_6_n n_6_c : Nat} {n_7 i : Int} {I : Imm} {F : Heap} {Q : PostQ}  (h : ref12_Asks.V (fun k o t n f s a l c q => .cells #[.int .u8 k, .int .u8 o, .int .u8 t, .int .i64 n, .int .u8 f, .string s, .slice a l c, .int .i64 q] 55 (0, 0)) (.int .u8) (.int .i64) n_0 n_1 n_2 n_3 n_4 n_5 n_6_a n_6_n n_6_c n_7 i I F Q) : Tri P 130 #[.agg #[.int .u8 n_0, .int .u8 n_1, .int .u8 n_2, .int .i64 n_3, .int .u8 n_4, .string n_5, .slice n_6_a n_6_n n_6_c, .int .i64 n_7], .int .i64 i] I (F) Q :=
  tv (A := (annL [3000, 4001, 7000, 9000, 10001] [] [129] shT_t1 [] [] [] [] [] [] [])) (args := [.a (.v (.agg #[.int .u8 n_0, .int .u8 n_1, .int .u8 n_2, .int .i64 n_3, .int .u8 n_4, .string n_5, .slice n_6_a n_6_n n_6_c, .int .i64 n_7])), .a (.v (.int .i64 i))]) (own := []) (keep := []) [129] Go.Proofs.Tryz.func130 h
def ref12_Bracketed.V (a : Nat → Nat × Obj) (nV : Int → Int → Int → Int → Int → Bs → OA → Nat → Nat → Int → Value) (vb vi : Int → Value) (q s t u v : Int) (w : Bs) (c : OA) (d h : Nat) (x i : Int) (I : Imm) (F : Heap) (Q : PostQ)  : Prop := ∀ b : Nat, ((0 ≤ i ∧ i < (d : Int)) ∧ ∃ ad : Addr, c = some ad ∧ ∃ (j k l m n : Int) (o : Bs) (e : OA) (f g : Nat) (p : Int), Rd I ((a b) :: F) (ad.add (Int.toNat (i) * 8)) [vb j, vb k, vb l, vi m, vb n, .string o, .slice e f g, vi p] ∧ ∃ (r : Int), (Tri P 129 (#[nV j k l m n o e f g p]) I ((a b) :: F) fun e1 I1 G1 => e1 = .returned (vi r) ∧ List.Perm G1 ((a b) :: F)) ∧ ∃ (r1 : Int), (Tri P 130 (#[nV q s t u v w c d h x, vi i]) I ((a b) :: F) fun e2 I2 G2 => e2 = .returned (vi r1) ∧ List.Perm G2 ((a b) :: F)) ∧ Q (.returned (.bool (decide (r < r1)))) I (F))
theorem ref12_Bracketed.vc {n_0 n_1 n_2 n_3 n_4 : Int} {n_5 : Bs} {n_6_a : OA} {n_6_n n_6_c : Nat} {n_7 i : Int} {I : Imm} {F : Heap} {Q : PostQ}  (h : ref12_Bracketed.V (fun b => (b, Obj.cells #[.int .u8 n_0, .int .u8 n_1, .int .u8 n_2, .int .i64 n_3, .int .u8 n_4, .string n_5, .slice n_6_a n_6_n n_6_c, .int .i64 n_7] 55 (0, 0))) (fun k o t n f s a l c q => .agg #[.int .u8 k, .int .u8 o, .int .u8 t, .int .i64 n, .int .u8 f, .string s, .slice a l c, .int .i64 q]) (.int .u8) (.int .i64) n_0 n_1 n_2 n_3 n_4 n_5 n_6_a n_6_n n_6_c n_7 i I F Q) : Tri P 126 #[.agg #[.int .u8 n_0, .int .u8 n_1, .int .u8 n_2, .int .i64 n_3, .int .u8 n_4, .string n_5, .slice n_6_a n_6_n n_6_c, .int .i64 n_7], .int .i64 i] I (F) Q :=
  tv (A := (annL [] [] [129, 130] shT_t1 [] [] [] [] [] [] [])) (args := [.a (.v (.agg #[.int .u8 n_0, .int .u8 n_1, .int .u8 n_2, .int .i64 n_3, .int .u8 n_4, .string n_5, .slice n_6_a n_6_n n_6_c, .int .i64 n_7])), .a (.v (.int .i64 i))]) (own := []) (keep := []) [129, 130] Go.Proofs.Tryz.func126 h
def ref12_depth.V (d : Nat → Nat × Obj) (nV : Int → Int → Int → Int → Int → Bs → OA → Nat → Nat → Int → Value) (vb vi : Int → Value) (wr : Int → Int) (b al am an ao : Int) (ap : Bs) (f : OA) (c k : Nat) (aq : Int) (I : Imm) (F : Heap) (Q : PostQ) (Inv8 : Int → Int → Nat → Imm → Heap → Prop) : Prop := ∀ e : Nat, (∃ m : Nat, Inv8 0 0 m I F) ∧ ∀ (a i : Int) (m1 : Nat) (I1 : Imm) (F1 : Heap), Imm.le I I1 → Inv8 a i m1 I1 F1 → ((decide (i < ((c : Nat) : Int)) = true → ((0 ≤ i ∧ i < (c : Int)) ∧ ∃ ad : Addr, f = some ad ∧ ∃ (l n o p q : Int) (s : Bs) (g : OA) (h j : Nat) (t : Int), Rd I1 ((d e) :: F1) (ad.add (Int.toNat (i) * 8)) [vb l, vb n, vb o, vi p, vb q, .string s, .slice g h j, vi t] ∧ Tri P 119 (#[nV l n o p q s g h j t]) I1 ((d e) :: F1) fun e1 I2 G1 => ∃ (r : Int), e1 = .returned (vi r) ∧ ∃ F2 : Heap, List.Perm G1 ((d e) :: F2) ∧ Tri P 126 (#[nV b al am an ao ap f c k aq, vi i]) I2 ((d e) :: F2) fun e2 I3 G2 => ∃ (r1 : Bool), e2 = .returned (.bool r1) ∧ ∃ F3 : Heap, List.Perm G2 ((d e) :: F3) ∧ ((r1 = true → (((b == 5) = true → ((decide ((wr ((wr (r + 1)) + 1)) > a) = true → (∃ m2 : Nat, m2 < m1 ∧ Inv8 (wr ((wr (r + 1)) + 1)) (wr (i + 1)) m2 I3 F3)) ∧ (decide ((wr ((wr (r + 1)) + 1)) > a) = false → (∃ m3 : Nat, m3 < m1 ∧ Inv8 a (wr (i + 1)) m3 I3 F3)))) ∧ ((b == 5) = false → (((b == 8) = true → ((decide ((wr ((wr (r + 1)) + 1)) > a) = true → (∃ m4 : Nat, m4 < m1 ∧ Inv8 (wr ((wr (r + 1)) + 1)) (wr (i + 1)) m4 I3 F3)) ∧ (decide ((wr ((wr (r + 1)) + 1)) > a) = false → (∃ m5 : Nat, m5 < m1 ∧ Inv8 a (wr (i + 1)) m5 I3 F3)))) ∧ ((b == 8) = false → (((b == 9) = true → ((decide ((wr ((wr (r + 1)) + 1)) > a) = true → (∃ m6 : Nat, m6 < m1 ∧ Inv8 (wr ((wr (r + 1)) + 1)) (wr (i + 1)) m6 I3 F3)) ∧ (decide ((wr ((wr (r + 1)) + 1)) > a) = false → (∃ m7 : Nat, m7 < m1 ∧ Inv8 a (wr (i + 1)) m7 I3 F3)))) ∧ ((b == 9) = false → (((b == 7) = true → ((decide (i > 0) = true → ((decide ((wr ((wr (r + 1)) + 1)) > a) = true → (∃ m8 : Nat, m8 < m1 ∧ Inv8 (wr ((wr (r + 1)) + 1)) (wr (i + 1)) m8 I3 F3)) ∧ (decide ((wr ((wr (r + 1)) + 1)) > a) = false → (∃ m9 : Nat, m9 < m1 ∧ Inv8 a (wr (i + 1)) m9 I3 F3)))) ∧ (decide (i > 0) = false → ((decide ((wr (r + 1)) > a) = true → (∃ u : Nat, u < m1 ∧ Inv8 (wr (r + 1)) (wr (i + 1)) u I3 F3)) ∧ (decide ((wr (r + 1)) > a) = false → (∃ v : Nat, v < m1 ∧ Inv8 a (wr (i + 1)) v I3 F3)))))) ∧ ((b == 7) = false → ((decide ((wr (r + 1)) > a) = true → (∃ w : Nat, w < m1 ∧ Inv8 (wr (r + 1)) (wr (i + 1)) w I3 F3)) ∧ (decide ((wr (r + 1)) > a) = false → (∃ x : Nat, x < m1 ∧ Inv8 a (wr (i + 1)) x I3 F3)))))))))))) ∧ (r1 = false → (((b == 5) = true → ((decide ((wr (r + 1)) > a) = true → (∃ y : Nat, y < m1 ∧ Inv8 (wr (r + 1)) (wr (i + 1)) y I3 F3)) ∧ (decide ((wr (r + 1)) > a) = false → (∃ z : Nat, z < m1 ∧ Inv8 a (wr (i + 1)) z I3 F3)))) ∧ ((b == 5) = false → (((b == 8) = true → ((decide ((wr (r + 1)) > a) = true → (∃ aa : Nat, aa < m1 ∧ Inv8 (wr (r + 1)) (wr (i + 1)) aa I3 F3)) ∧ (decide ((wr (r + 1)) > a) = false → (∃ ab : Nat, ab < m1 ∧ Inv8 a (wr (i + 1)) ab I3 F3)))) ∧ ((b == 8) = false → (((b == 9) = true → ((decide ((wr (r + 1)) > a) = true → (∃ ac : Nat, ac < m1 ∧ Inv8 (wr (r + 1)) (wr (i + 1)) ac I3 F3)) ∧ (decide ((wr (r + 1)) > a) = false → (∃ ae : Nat, ae < m1 ∧ Inv8 a (wr (i + 1)) ae I3 F3)))) ∧ ((b == 9) = false → (((b == 7) = true → ((decide (i > 0) = true → ((decide ((wr (r + 1)) > a) = true → (∃ af : Nat, af < m1 ∧ Inv8 (wr (r + 1)) (wr (i + 1)) af I3 F3)) ∧ (decide ((wr (r + 1)) > a) = false → (∃ ag : Nat, ag < m1 ∧ Inv8 a (wr (i + 1)) ag I3 F3)))) ∧ (decide (i > 0) = false → ((decide (r > a) = true → (∃ ah : Nat, ah < m1 ∧ Inv8 r (wr (i + 1)) ah I3 F3)) ∧ (decide (r > a) = false → (∃ ai : Nat, ai < m1 ∧ Inv8 a (wr (i + 1)) ai I3 F3)))))) ∧ ((b == 7) = false → ((decide (r > a) = true → (∃ aj : Nat, aj < m1 ∧ Inv8 r (wr (i + 1)) aj I3 F3)) ∧ (decide (r > a) = false → (∃ ak : Nat, ak < m1 ∧ Inv8 a (wr (i + 1)) ak I3 F3))))))))))))))) ∧ (decide (i < ((c : Nat) : Int)) = false → Q (.returned (vi a)) I1 (F1)))
theorem ref12_depth.vc {n_0 n_1 n_2 n_3 n_4 : Int} {n_5 : Bs} {n_6_a : OA} {n_6_n n_6_c : Nat} {n_7 : Int} {I : Imm} {F : Heap} {Q : PostQ} (Inv8 : Int → Int → Nat → Imm → Heap → Prop) (h : ref12_depth.V (fun b => (b, Obj.cells #[.int .u8 n_0, .int .u8 n_1, .int .u8 n_2, .int .i64 n_3, .int .u8 n_4, .string n_5, .slice n_6_a n_6_n n_6_c, .int .i64 n_7] 55 (0, 0))) (fun k o t n f s a l c q => .agg #[.int .u8 k, .int .u8 o, .int .u8 t, .int .i64 n, .int .u8 f, .string s, .slice a l c, .int .i64 q]) (.int .u8) (.int .i64) (IntKind.wrap .i64) n_0 n_1 n_2 n_3 n_4 n_5 n_6_a n_6_n n_6_c n_7 I F Q Inv8) : Tri P 119 #[.agg #[.int .u8 n_0, .int .u8 n_1, .int .u8 n_2, .int .i64 n_3, .int .u8 n_4, .string n_5, .slice n_6_a n_6_n n_6_c, .int .i64 n_7]] I (F) Q :=
  tv (A := (annL [3004, 7000, 9002, 9006, 9011, 9016, 9019, 11002] [] [119, 126] shT_t1 [(8, ⟨[(3, (.int .i64)), (4, (.int .i64))], [], fun _ _ _ vs m I F => match vs with | [.int _ y0, .int _ y1] => Inv8 y0 y1 m I F | _ => False, [], []⟩)] [] [] [] [] [] [])) (args := [.a (.v (.agg #[.int .u8 n_0, .int .u8 n_1, .int .u8 n_2, .int .i64 n_3, .int .u8 n_4, .string n_5, .slice n_6_a n_6_n n_6_c, .int .i64 n_7]))]) (own := []) (keep := []) [119, 126] Go.Proofs.Tryz.func119 h
def ref12_CheckExpr.V (a : Nat → Nat × Obj) (nV : Int → Int → Int → Int → Int → Bs → OA → Nat → Nat → Int → Value) (vi : Int → Value) (f g h i j : Int) (k : Bs) (b : OA) (c d : Nat) (l : Int) (I : Imm) (F : Heap) (Q : PostQ)  : Prop := ∀ e : Nat, Tri P 111 (#[nV f g h i j k b c d l]) I ((a e) :: F) fun e1 I1 G1 => ∃ (r : Bool), e1 = .returned (.bool r) ∧ ∃ F1 : Heap, List.Perm G1 ((a e) :: F1) ∧ (((!r) = true → Q (.returned (vi 120)) I1 (F1)) ∧ ((!r) = false → Tri P 119 (#[nV f g h i j k b c d l]) I1 ((a e) :: F1) fun e2 I2 G2 => ∃ (r1 : Int), e2 = .returned (vi r1) ∧ ∃ F2 : Heap, List.Perm G2 ((a e) :: F2) ∧ ((decide (r1 > 24) = true → Q (.returned (vi 122)) I2 (F2)) ∧ (decide (r1 > 24) = false → Q (.returned (vi 0)) I2 (F2)))))
theorem ref12_CheckExpr.vc {n_0 n_1 n_2 n_3 n_4 : Int} {n_5 : Bs} {n_6_a : OA} {n_6_n n_6_c : Nat} {n_7 : Int} {I : Imm} {F : Heap} {Q : PostQ}  (h : ref12_CheckExpr.V (fun b => (b, Obj.cells #[.int .u8 n_0, .int .u8 n_1, .int .u8 n_2, .int .i64 n_3, .int .u8 n_4, .string n_5, .slice n_6_a n_6_n n_6_c, .int .i64 n_7] 55 (0, 0))) (fun k o t n f s a l c q => .agg #[.int .u8 k, .int .u8 o, .int .u8 t, .int .i64 n, .int .u8 f, .string s, .slice a l c, .int .i64 q]) (.int .i64) n_0 n_1 n_2 n_3 n_4 n_5 n_6_a n_6_n n_6_c n_7 I F Q) : Tri P 112 #[.agg #[.int .u8 n_0, .int .u8 n_1, .int .u8 n_2, .int .i64 n_3, .int .u8 n_4, .string n_5, .slice n_6_a n_6_n n_6_c, .int .i64 n_7]] I (F) Q :=
  tv (A := (annL [2001, 4002] [] [111, 119] shT_t1 [] [] [] [] [] [] [])) (args := [.a (.v (.agg #[.int .u8 n_0, .int .u8 n_1, .int .u8 n_2, .int .i64 n_3, .int .u8 n_4, .string n_5, .slice n_6_a n_6_n n_6_c, .int .i64 n_7]))]) (own := []) (keep := []) [111, 119] Go.Proofs.Tryz.func112 h
end Go.Lx
namespace Go.Lx
open Go.Vc
def zB (o ty n f : Int) (s : ByteArray) : Bool := o == 0 && (ty == 0 && (n == 0 && (f == 0 && (s.toList == (⟨#[]⟩ : ByteArray).toList))))
theorem zero_spec (k o ty n f : Int) (s : ByteArray) (a : Option Addr) (l c : Nat) (q : Int) (I : Imm) (F : Heap) :
    Tri P 125 #[.agg #[.int .u8 k, .int .u8 o, .int .u8 ty, .int .i64 n, .int .u8 f, .string s, .slice a l c, .int .i64 q]] I F (Ret (.bool (zB o ty n f s)) F) := by
  refine ref12_zero.vc ?_
  unfold ref12_zero.V
  intro b_n
  unfold zB
  refine ⟨fun h => ⟨fun h1 => ⟨fun h2 => ⟨fun h3 => ⟨?_, rfl⟩, fun h3 => ⟨?_, rfl⟩⟩, fun h2 => ⟨?_, rfl⟩⟩, fun h1 => ⟨?_, rfl⟩⟩, fun h => ⟨?_, rfl⟩⟩ <;> simp [*]
theorem literal_spec (t : Nd) (I : Imm) (F : Heap) : Tri P 124 #[t.v] I F (Ret (.bool (t.px.litB && (zB t.oper 0 0 t.field t.name && decide (t.kids.length = 0)))) F) := by
  refine ref12_literal.vc (fun ok I' F' => ok = t.px.litB ∧ F' = F) ?_
  unfold ref12_literal.V
  intro b_n
  unfold Px.litB
  rw [Nd.px_typ, Nd.px_n]
  refine ⟨⟨fun h => ⟨?_, rfl⟩, fun h1 => ⟨fun h => ⟨?_, rfl⟩, fun h2 => ⟨fun h => ⟨?_, rfl⟩, fun h3 => ⟨fun h => ⟨?_, rfl⟩, fun h4 => ⟨fun h => ⟨fun h' => ⟨?_, rfl⟩, fun h' => ⟨?_, rfl⟩⟩, fun h5 => ⟨fun h => ⟨fun h' => ⟨?_, rfl⟩, fun h' => ⟨?_, rfl⟩⟩, fun h6 => ⟨?_, rfl⟩⟩⟩⟩⟩⟩⟩, fun ok I1 F1 hI ⟨g1, gF⟩ => ?_⟩
  · have h : t.typ = 1 := by simpa using h
    simp [h]
  · have h : t.typ = 2 := by simpa using h
    simp [h]
  · have h : t.typ = 3 := by simpa using h
    simp [h]
  · have h : t.typ = 4 := by simpa using h
    simp [h]
  · have h : t.typ = 5 := by simpa using h
    have h' : t.n = 0 := by simpa using h'
    simp [h, h']
  · have h : t.typ = 5 := by simpa using h
    have h' : t.n ≠ 0 := by simpa using h'
    rw [if_neg (by omega), if_pos h, Bool.eq_iff_iff]; simp [h']
  · have h : t.typ = 6 := by simpa using h
    have h' : t.n = 1 := by simpa using h'
    simp [h, h']
  · have h : t.typ = 6 := by simpa using h
    have h' : t.n ≠ 1 := by simpa using h'
    rw [if_pos h, Bool.eq_iff_iff]; simp [h']
  · have e1 : t.typ ≠ 1 := by simpa using h1
    have e2 : t.typ ≠ 2 := by simpa using h2
    have e3 : t.typ ≠ 3 := by simpa using h3
    have e4 : t.typ ≠ 4 := by simpa using h4
    have e5 : t.typ ≠ 5 := by simpa using h5
    have e6 : t.typ ≠ 6 := by simpa using h6
    rw [if_neg e6, if_neg e5, if_neg (by omega)]
  · subst gF
    rw [← g1]
    refine ⟨fun h => Tri.ret (zero_spec t.kind t.oper 0 0 t.field t.name t.a t.kids.length t.c t.pos I1 _) fun I2 h2 => ⟨_, rfl, F1, .refl _, fun h' => ⟨?_, rfl⟩, fun h' => ⟨?_, rfl⟩⟩, fun h => ⟨?_, rfl⟩⟩
    · rw [h, h']; congr 2; rw [Bool.eq_iff_iff]; simp
    · rw [h']; simp
    · rw [h]; simp
theorem one_spec (t : Nd) (I : Imm) (F : Heap) : Tri P 118 #[t.v] I F (Ret (.bool t.px.oneB) F) := by
  refine ref12_one.vc (fun x kids ok k o ty n f s a l c q I' F' => (ok && (zB o ty n f s && decide (l = kids.toNat))) = t.px.oneB ∧ 0 ≤ kids ∧ F' = F) ?_
  unfold ref12_one.V
  intro b_n
  unfold Px.oneB Px.fitB Px.zeroB Px.arity
  simp only [Nd.px_kind, Nd.px_oper, Nd.px_typ, Nd.px_n, Nd.px_field, Nd.px_name, Nd.px_len]
  refine ⟨⟨fun h => ?_, fun h1 => ⟨fun h => ?_, fun h2 => ⟨fun h => ⟨fun h' => ⟨?_, by decide, by trivial⟩, fun h' => ⟨?_, by decide, by trivial⟩⟩, fun h3 => ⟨fun h => ⟨fun h' => ⟨?_, by decide, by trivial⟩, fun h' => ⟨?_, by decide, by trivial⟩⟩, fun h4 => ⟨fun h => ⟨fun h' => ⟨?_, by decide, by trivial⟩, fun h' => ⟨?_, by decide, by trivial⟩⟩,
    fun h5 => ⟨fun h => ⟨fun h' => ⟨?_, by decide, by trivial⟩, fun h' => ⟨?_, by decide, by trivial⟩⟩, fun h6 => ⟨fun h => ⟨?_, by decide, by trivial⟩, fun h7 => ⟨fun h => ⟨fun h' => ⟨fun h'' => ⟨?_, by decide, by trivial⟩, fun h'' => ⟨?_, by decide, by trivial⟩⟩, fun h' => ⟨fun h'' => ⟨?_, by decide, by trivial⟩, fun h'' => ⟨?_, by decide, by trivial⟩⟩⟩, fun h8 => ⟨fun h => ⟨fun h' => ⟨?_, by decide, by trivial⟩, fun h' => ⟨?_, by decide, by trivial⟩⟩, fun h9 => ⟨?_, by decide, by trivial⟩⟩⟩⟩⟩⟩⟩⟩⟩⟩, fun x kids ok k o ty n f s a l c q I3 F3 hI ⟨g1, gk, gF⟩ => ?_⟩
  · refine Tri.ret (literal_spec t I _) fun I2 h2 => ⟨_, rfl, F, .refl _, ?_, by trivial⟩
    have hk : t.kind = 1 := by simpa using h
    simp [hk, zB, empty_list, Bool.and_assoc]
  · refine Tri.ret (rName_spec I _) fun I2 h2 => ⟨_, rfl, F, .refl _, ?_, by decide, by trivial⟩
    have hk : t.kind = 2 := by simpa using h
    simp [hk, zB, empty_list, Bool.and_assoc]
  all_goals first
    | (subst gF
       rw [← g1]
       refine ⟨fun h => Tri.ret (zero_spec k o ty n f s a l c q I3 _) fun I2 h2 => ⟨_, rfl, F3, .refl _, fun h' => ⟨?_, by trivial⟩, fun h' => ⟨?_, by trivial⟩⟩, fun h => ⟨?_, by trivial⟩⟩
       · rw [h, h']; congr 2; rw [Bool.eq_iff_iff]; simp; omega
       · rw [h']; simp
       · rw [h]; simp)
    | (simp only [beq_iff_eq] at h
       try simp only [decide_eq_true_eq, decide_eq_false_iff_not, beq_iff_eq, beq_eq_false_iff_ne] at h'
       try simp only [decide_eq_true_eq, decide_eq_false_iff_not, beq_iff_eq, beq_eq_false_iff_ne] at h''
       simp [*, zB, empty_list, Bool.and_assoc]
       done)
    | skip
  · have h : t.kind = 5 := by simpa using h
    have h' : t.oper ≠ 1 := by simpa using h'
    have : decide (t.oper = 1 ∨ t.oper = 2) = (t.oper == 2) := by rw [Bool.eq_iff_iff]; simp [h']
    simp [h, this, zB, empty_list, Bool.and_assoc]
  · exfalso
    have h' := of_decide_eq_false h'
    have h'' : t.oper = 3 := by simpa using h''
    omega
  · have e1 : t.kind ≠ 1 := by simpa using h1
    have e2 : t.kind ≠ 2 := by simpa using h2
    have e3 : t.kind ≠ 3 := by simpa using h3
    have e4 : t.kind ≠ 4 := by simpa using h4
    have e5 : t.kind ≠ 5 := by simpa using h5
    have e6 : t.kind ≠ 6 := by simpa using h6
    have e7 : t.kind ≠ 7 := by simpa using h7
    have e8 : t.kind ≠ 8 := by simpa using h8
    have e9 : t.kind ≠ 9 := by simpa using h9
    simp [e1, e2, e3, e4, e5, e6, e7, e8, e9]
theorem formed_spec : ∀ (t : Nd), t.px.size ≤ 1048576 → ∀ (I : Imm) (F : Heap), NdOk I F t → Tri P 111 #[t.v] I F (Ret (.bool t.px.formed) F) := by
  refine Nd.ind fun t ih hs I F ht => ?_
  have hln := size_len hs
  refine ref12_Formed.vc (fun ok i m I' F' => 0 ≤ i ∧ i ≤ t.kids.length ∧ m = (t.kids.length - i).toNat ∧ t.px.formed = (ok && Px.formedL ((t.kids.drop i.toNat).map Nd.px)) ∧ F' = F) ?_
  unfold ref12_Formed.V
  intro b_n
  refine Tri.ret (one_spec t I _) fun I1 hI1 => ⟨_, rfl, F, .refl _, ⟨_, by omega, by omega, rfl, ?_, rfl⟩, fun ok i m I2 F2 hI ⟨g0, g1, gm, gf, gF⟩ => ⟨fun hlt => ⟨fun hok => ?_, fun hok => ⟨?_, gF⟩⟩, fun hlt => ⟨?_, gF⟩⟩⟩
  · rw [Px.formed_eq, Nd.px_kids]; rfl
  · have hlt := of_decide_eq_true hlt
    subst gF
    obtain ⟨ad, x, had, hx, hrd, hxo, hxm⟩ := ((ht.mono (Imm.le_trans hI1 hI) fun _ h => h).cons (x := (b_n, .cells t.enc.toArray 55 (0, 0)))).kids.at g0 hlt
    refine ⟨⟨g0, hlt⟩, ad, had, _, _, _, _, _, _, _, _, _, _, hrd, Tri.ret (ih x hxm (size_kid hxm hs) I2 _ hxo) fun I3 hI3 => ⟨_, rfl, F2, .refl _, (t.kids.length - (i + 1)).toNat, by omega, ?_⟩⟩
    rw [w64 (n := i + 1) (by omega)]
    refine ⟨by omega, by omega, rfl, ?_, rfl⟩
    rw [gf, hok, drop_map hx, Px.formedL, show (i + 1).toNat = i.toNat + 1 by omega]; rfl
  · rw [gf, hok]; rfl
  · have hlt := of_decide_eq_false hlt
    rw [gf, drop_end (by omega), Px.formedL, Bool.and_true]
theorem rlevel_spec (t : Nd) (I : Imm) (F : Heap) : Tri P 129 #[t.v] I F (Ret (.int .i64 t.px.level) F) := by
  refine ref12_level.vc ?_
  unfold ref12_level.V
  intro b_n
  unfold Px.level
  rw [Nd.px_kind, Nd.px_oper]
  refine ⟨fun h => ⟨?_, rfl⟩, fun h1 => ⟨fun h => ⟨?_, rfl⟩, fun h2 => ⟨fun h => ⟨fun h' => ⟨?_, rfl⟩, fun h3 => ⟨fun h' => ⟨?_, rfl⟩, fun h4 => ⟨fun h' => ⟨?_, rfl⟩, fun h5 => ⟨fun h' => ⟨?_, rfl⟩, fun h6 => ⟨?_, rfl⟩⟩⟩⟩⟩, fun h => ⟨?_, rfl⟩⟩⟩⟩
  all_goals (try simp only [decide_eq_true_eq, decide_eq_false_iff_not, beq_iff_eq, beq_eq_false_iff_ne] at *)
  all_goals (congr 2; (repeat' split) <;> first | rfl | omega)
end Go.Lx
namespace Go.Lx
open Go.Vc
theorem level_range (x : Px) : 1 ≤ x.level ∧ x.level ≤ 8 := by
  unfold Px.level; (repeat' split) <;> omega
theorem asks_spec (t : Nd) (i : Int) (h0 : 0 ≤ i) (h1 : i ≤ 1048576) (I : Imm) (F : Heap) : Tri P 130 #[t.v, .int .i64 i] I F (Ret (.int .i64 (t.px.asks i)) F) := by
  refine ref12_Asks.vc ?_
  unfold ref12_Asks.V
  intro b_n
  have hr := level_range t.px
  refine Tri.ret (rlevel_spec t I _) fun I1 hI1 => ⟨_, rfl, F, .refl _, ?_⟩
  unfold Px.asks
  rw [Nd.px_kind]
  refine ⟨fun h => ⟨fun h' => ⟨?_, rfl⟩, fun h' => ⟨?_, rfl⟩⟩, fun h1 => ⟨fun h => ⟨?_, rfl⟩, fun h2 => ⟨fun h => ⟨fun h' => ⟨?_, rfl⟩, fun h' => ⟨?_, rfl⟩⟩, fun h => ⟨?_, rfl⟩⟩⟩⟩
  all_goals (try simp only [decide_eq_true_eq, decide_eq_false_iff_not, beq_iff_eq, beq_eq_false_iff_ne] at *)
  all_goals (congr 2; (repeat' split) <;> first | rfl | omega | (rw [w64 (by omega)]))
theorem bracketed_spec (t x : Nd) {i : Int} (h0 : 0 ≤ i) (h1 : i < t.kids.length) (h2 : t.kids[i.toNat]? = some x) (h3 : (t.kids.length : Int) ≤ 1048576) (I : Imm) (F : Heap) (ht : NdOk I F t) :
    Tri P 126 #[t.v, .int .i64 i] I F (Ret (.bool (decide (x.px.level < t.px.asks i))) F) := by
  refine ref12_Bracketed.vc ?_
  unfold ref12_Bracketed.V
  intro b_n
  obtain ⟨ad, y, had, hy, hrd, hyo, hym⟩ := (ht.cons (x := (b_n, .cells t.enc.toArray 55 (0, 0)))).kids.at h0 h1
  obtain rfl : x = y := by rw [h2] at hy; exact Option.some.inj hy
  exact ⟨⟨h0, h1⟩, ad, had, _, _, _, _, _, _, _, _, _, _, hrd, _, (rlevel_spec x I _).perm', _, (asks_spec t i h0 (by omega) I _).perm', rfl, rfl⟩
theorem Px.formed_kid {x : Px} (h : x.formed = true) : ∀ k ∈ x.kids, k.formed = true := by
  have hL : ∀ l : List Px, Px.formedL l = true → ∀ k ∈ l, k.formed = true := by
    intro l
    induction l with
    | nil => intro _ k hk; cases hk
    | cons y r ih =>
      intro h k hk
      rw [Px.formedL, Bool.and_eq_true] at h
      rcases List.mem_cons.1 hk with rfl | hk
      · exact h.1
      · exact ih h.2 k hk
  rw [Px.formed_eq, Bool.and_eq_true] at h
  exact hL _ h.2
theorem Px.formed_kind {x : Px} (h : x.formed = true) (hk : x.kids ≠ []) : 5 ≤ x.kind ∧ x.kind ≤ 9 := by
  rw [Px.formed_eq, Bool.and_eq_true] at h
  have h1 := h.1
  unfold Px.oneB at h1
  simp only [Bool.and_eq_true, decide_eq_true_eq] at h1
  have h2 := h1.2
  have h3 : 0 < x.kids.length := List.length_pos_iff.2 hk
  unfold Px.arity at h2
  (repeat' split at h2) <;> omega
theorem adds_range (x k : Px) (i : Int) : 0 ≤ x.adds k i ∧ x.adds k i ≤ 2 := by
  unfold Px.adds; (repeat' split) <;> omega
theorem depth_range : ∀ x : Px, 0 ≤ x.depth ∧ x.depth ≤ 2 * x.size := by
  have hL : ∀ (t : Px) (l : List Px), (∀ x ∈ l, 0 ≤ Px.depth x ∧ Px.depth x ≤ 2 * Px.size x) → ∀ (i most : Int), 0 ≤ most → 0 ≤ Px.depthL t i l most ∧ Px.depthL t i l most ≤ max most (2 * Px.sizeL l + 2) := by
    intro t l
    induction l with
    | nil => intro _ i most h; rw [Px.depthL, Px.sizeL]; omega
    | cons x r ih =>
      intro hx i most h
      have h1 := hx x (List.mem_cons_self ..)
      have h2 := adds_range t x i
      have h3 := ih (fun y hy => hx y (List.mem_cons_of_mem _ hy)) (i + 1) (max most (Px.depth x + t.adds x i)) (by omega)
      have h4 := Px.sizeL_nonneg r
      have h5 := Px.size_pos x
      rw [Px.depthL, Px.sizeL]
      omega
  refine Px.ind fun x h => ?_
  have := hL x x.kids h 0 0 (by omega)
  have h4 := Px.sizeL_nonneg x.kids
  rw [Px.depth_eq, Px.size_eq]
  omega
theorem rdepth_spec : ∀ (t : Nd), t.px.size ≤ 1048576 → t.px.formed = true → ∀ (I : Imm) (F : Heap), NdOk I F t → Tri P 119 #[t.v] I F (Ret (.int .i64 t.px.depth) F) := by
  refine Nd.ind fun t ih hs hf I F ht => ?_
  have hln := size_len hs
  refine ref12_depth.vc (fun most i m I' F' => 0 ≤ i ∧ i ≤ t.kids.length ∧ m = (t.kids.length - i).toNat ∧ 0 ≤ most ∧ most ≤ 4194304 ∧ t.px.depth = Px.depthL t.px i ((t.kids.drop i.toNat).map Nd.px) most ∧ F' = F) ?_
  unfold ref12_depth.V
  intro b_n
  refine ⟨⟨_, by omega, by omega, rfl, by omega, by omega, ?_, rfl⟩, fun most i m I1 F1 hI ⟨g0, g1, gm, g2, g3, gf, gF⟩ => ⟨fun hlt => ?_, fun hlt => ⟨?_, gF⟩⟩⟩
  · rw [Px.depth_eq, Nd.px_kids]; rfl
  · have hlt := of_decide_eq_true hlt
    subst gF
    have ht1 : NdOk I1 ((b_n, .cells t.enc.toArray 55 (0, 0)) :: F1) t := (ht.mono hI fun _ h => h).cons
    obtain ⟨ad, x, had, hx, hrd, hxo, hxm⟩ := ht1.kids.at g0 hlt
    have hxp : x.px ∈ t.px.kids := by rw [Nd.px_kids]; exact List.mem_map_of_mem hxm
    have hkd := Px.formed_kind hf (fun e => by rw [e] at hxp; cases hxp)
    rw [Nd.px_kind] at hkd
    have hdr := depth_range x.px
    have hsz := size_kid hxm hs
    refine ⟨⟨g0, hlt⟩, ad, had, _, _, _, _, _, _, _, _, _, _, hrd, Tri.ret (ih x hxm hsz (Px.formed_kid hf _ hxp) I1 _ hxo) fun I2 hI2 => ⟨_, rfl, F1, .refl _,
      Tri.ret (bracketed_spec t x g0 hlt hx (by omega) I2 _ (ht1.mono hI2 fun _ h => h)) fun I3 hI3 => ⟨_, rfl, F1, .refl _, ?_⟩⟩⟩
    have key : ∀ D : Int, D = x.px.depth + t.px.adds x.px i →
        (decide (D > most) = true → ∃ m2 : Nat, m2 < m ∧ (0 ≤ IntKind.wrap .i64 (i + 1) ∧ IntKind.wrap .i64 (i + 1) ≤ t.kids.length ∧ m2 = (t.kids.length - IntKind.wrap .i64 (i + 1)).toNat ∧ 0 ≤ D ∧ D ≤ 4194304 ∧
          t.px.depth = Px.depthL t.px (IntKind.wrap .i64 (i + 1)) ((t.kids.drop (IntKind.wrap .i64 (i + 1)).toNat).map Nd.px) D ∧ F1 = F1)) ∧
        (decide (D > most) = false → ∃ m2 : Nat, m2 < m ∧ (0 ≤ IntKind.wrap .i64 (i + 1) ∧ IntKind.wrap .i64 (i + 1) ≤ t.kids.length ∧ m2 = (t.kids.length - IntKind.wrap .i64 (i + 1)).toNat ∧ 0 ≤ most ∧ most ≤ 4194304 ∧
          t.px.depth = Px.depthL t.px (IntKind.wrap .i64 (i + 1)) ((t.kids.drop (IntKind.wrap .i64 (i + 1)).toNat).map Nd.px) most ∧ F1 = F1)) := by
      intro D hD
      have har := adds_range t.px x.px i
      rw [w64 (n := i + 1) (by omega)]
      rw [drop_map hx, Px.depthL, ← hD] at gf
      refine ⟨fun h => ⟨(t.kids.length - (i + 1)).toNat, by omega, by omega, by omega, rfl, by omega, by omega, ?_, rfl⟩, fun h => ⟨(t.kids.length - (i + 1)).toNat, by omega, by omega, by omega, rfl, by omega, by omega, ?_, rfl⟩⟩
      · have h := of_decide_eq_true h
        rw [gf, show max most D = D by omega, show (i + 1).toNat = i.toNat + 1 by omega]
      · have h := of_decide_eq_false h
        rw [gf, show max most D = most by omega, show (i + 1).toNat = i.toNat + 1 by omega]
    have e1 : IntKind.wrap .i64 (x.px.depth + 1) = x.px.depth + 1 := w64 (by omega)
    have e2 : IntKind.wrap .i64 (x.px.depth + 1 + 1) = x.px.depth + 1 + 1 := w64 (by omega)
    rw [e1, e2]
    unfold Px.adds at key
    rw [Nd.px_kind] at key
    refine ⟨fun hb => ⟨fun h => key _ ?_, fun h1 => ⟨fun h => key _ ?_, fun h2 => ⟨fun h => key _ ?_, fun h3 => ⟨fun h => ⟨fun hi => key _ ?_, fun hi => key _ ?_⟩, fun h4 => key _ ?_⟩⟩⟩⟩,
      fun hb => ⟨fun h => key _ ?_, fun h1 => ⟨fun h => key _ ?_, fun h2 => ⟨fun h => key _ ?_, fun h3 => ⟨fun h => ⟨fun hi => key _ ?_, fun hi => key _ ?_⟩, fun h4 => key _ ?_⟩⟩⟩⟩⟩
    all_goals clear key gf
    all_goals (simp only [decide_eq_true_eq, decide_eq_false_iff_not, beq_iff_eq, beq_eq_false_iff_ne] at *)
    all_goals ((repeat' split) <;> omega)
  · have hlt := of_decide_eq_false hlt
    rw [gf, drop_end (by omega), Px.depthL]
def Px.checkE (x : Px) : Int := if x.formed then (if 24 < x.depth then 122 else 0) else 120
theorem rCheckExpr_spec (t : Nd) (hs : t.px.size ≤ 1048576) (I : Imm) (F : Heap) (ht : NdOk I F t) : Tri P 112 #[t.v] I F (Ret (.int .i64 t.px.checkE) F) := by
  refine ref12_CheckExpr.vc ?_
  unfold ref12_CheckExpr.V
  intro b_n
  unfold Px.checkE
  refine Tri.ret (formed_spec t hs I _ ht.cons) fun I1 hI1 => ⟨_, rfl, F, .refl _, fun h => ⟨?_, rfl⟩, fun h => Tri.ret (rdepth_spec t hs (by simpa using h) I1 _ (ht.mono hI1 fun _ h => h).cons) fun I2 hI2 => ⟨_, rfl, F, .refl _, fun h' => ⟨?_, rfl⟩, fun h' => ⟨?_, rfl⟩⟩⟩
  · rw [if_neg (by simpa using h)]
  · rw [if_pos (by simpa using h), if_pos (of_decide_eq_true h')]
  · rw [if_pos (by simpa using h), if_neg (of_decide_eq_false h')]
end Go.Lx
namespace Go.Lx
open Go.Vc
def shT_t2 : List (Nat × List Sh) := [(0, []), (3, [.one (.int .i64)]), (4, [.one .bool]), (30, [.one (.int .i64)]), (53, [.one .slc]), (55, [.agg [(.int .u8), (.int .u8), (.int .u8), (.int .i64), (.int .u8), .str, .slc, (.int .i64)]]), (129, [.agg [(.int .u8), (.int .u8), (.int .u8), (.int .i64), (.int .u8), .str]])]
def tree_must.V (is : Bool) (e1 : Int) (I : Imm) (F : Heap) (Q : PostQ)  : Prop := (((!is) = true → Q (.panicked ([{ v := Value.iface 135 (.agg #[.int .i64 e1]), recovered := false }])) I (F)) ∧ ((!is) = false → Q (.returned (.tuple #[])) I (F)))
theorem tree_must.vc {is : Bool} {e1 : Int} {I : Imm} {F : Heap} {Q : PostQ}  (h : tree_must.V is e1 I F Q) : Tri P 32 #[.bool is, .int .i64 e1] I (F) Q :=
  tv (A := (annL [1] [] [] shT_t2 [] [] [] [] [] [] [])) (args := [.a (.v (.bool is)), .a (.v (.int .i64 e1))]) (own := []) (keep := []) [] Go.Proofs.Tryz.func32 h
def tree_alone.V (vb : Int → Value) (a c d e f : Int) (g : Bs) (h : OA) (i j : Nat) (k : Int) (I : Imm) (F : Heap) (Q : PostQ)  : Prop := ∀ l : Nat, ∀ b : Nat, Q (.returned (.agg #[vb a, vb c, vb d, .int .i64 e, vb f, .string g])) I (F)
theorem tree_alone.vc {n_0 n_1 n_2 n_3 n_4 : Int} {n_5 : Bs} {n_6_a : OA} {n_6_n n_6_c : Nat} {n_7 : Int} {I : Imm} {F : Heap} {Q : PostQ}  (h : tree_alone.V (.int .u8) n_0 n_1 n_2 n_3 n_4 n_5 n_6_a n_6_n n_6_c n_7 I F Q) : Tri P 85 #[.agg #[.int .u8 n_0, .int .u8 n_1, .int .u8 n_2, .int .i64 n_3, .int .u8 n_4, .string n_5, .slice n_6_a n_6_n n_6_c, .int .i64 n_7]] I (F) Q :=
  tv (A := (annL [] [] [] shT_t2 [] [] [] [] [] [] [])) (args := [.a (.v (.agg #[.int .u8 n_0, .int .u8 n_1, .int .u8 n_2, .int .i64 n_3, .int .u8 n_4, .string n_5, .slice n_6_a n_6_n n_6_c, .int .i64 n_7]))]) (own := []) (keep := []) [] Go.Proofs.Tryz.func85 h
def tree_literal.V (vt : Bool → Value) (wr : Int → Int) (f g a b h : Int) (i : Bs) (c : OA) (d e : Nat) (j : Int) (I : Imm) (F : Heap) (Q : PostQ)  : Prop := ∀ k : Nat, (((a == 6) = true → (((b == (wr (0 + 1))) = true → Q (.returned (vt true)) I (F)) ∧ ((b == (wr (0 + 1))) = false → Q (.returned (vt (b == (wr ((wr (0 + 1)) + 1))))) I (F)))) ∧ ((a == 6) = false → (((a == 5) = true → (((b == 0) = true → Q (.returned (vt true)) I (F)) ∧ ((b == 0) = false → Q (.returned (vt (b == (wr (0 + 1))))) I (F)))) ∧ ((a == 5) = false → (((a == 1) = true → Q (.returned (vt (decide (b ≥ 0)))) I (F)) ∧ ((a == 1) = false → (((a == 2) = true → Q (.returned (vt (decide (b ≥ 0)))) I (F)) ∧ ((a == 2) = false → (((a == 3) = true → Q (.returned (vt (decide (b ≥ 0)))) I (F)) ∧ ((a == 3) = false → (((a == 4) = true → Q (.returned (vt (decide (b ≥ 0)))) I (F)) ∧ ((a == 4) = false → Q (.returned (vt false)) I (F)))))))))))))
theorem tree_literal.vc {n_0 n_1 n_2 n_3 n_4 : Int} {n_5 : Bs} {n_6_a : OA} {n_6_n n_6_c : Nat} {n_7 : Int} {I : Imm} {F : Heap} {Q : PostQ}  (h : tree_literal.V .bool (IntKind.wrap .i64) n_0 n_1 n_2 n_3 n_4 n_5 n_6_a n_6_n n_6_c n_7 I F Q) : Tri P 101 #[.agg #[.int .u8 n_0, .int .u8 n_1, .int .u8 n_2, .int .i64 n_3, .int .u8 n_4, .string n_5, .slice n_6_a n_6_n n_6_c, .int .i64 n_7]] I (F) Q :=
  tv (A := (annL [3000, 4000, 5000, 6000, 7000, 8000, 10003] [] [] shT_t2 [] [] [] [] [] [] [])) (args := [.a (.v (.agg #[.int .u8 n_0, .int .u8 n_1, .int .u8 n_2, .int .i64 n_3, .int .u8 n_4, .string n_5, .slice n_6_a n_6_n n_6_c, .int .i64 n_7]))]) (own := []) (keep := []) [] Go.Proofs.Tryz.func101 h
def tree_node.V (i : Nat → Nat × Obj) (nV : Int → Int → Int → Int → Int → Bs → OA → Nat → Nat → Int → Value) (nO : Int → Int → Int → Int → Int → Bs → OA → Nat → Nat → Int → Obj) (nL : Int → Int → Int → Int → Int → Bs → OA → Nat → Nat → Int → List Value) (vb vi : Int → Value) (vs : Bs → Value) (vt : Bool → Value) (h k w au n : Int) (ar : Bs) (y : OA) (l aE : Nat) (aH : Int) (I : Imm) (F : Heap) (Q : PostQ) (Inv4 : Int → Bool → Int → Int → Int → Int → Int → Bs → Imm → Heap → Prop) (Inv70 : Int → Nat → Imm → Heap → Prop) : Prop := ∀ j : Nat, ∀ g : Nat, ((((h == 1) = true → Tri P 101 (#[nV h k w au n ar y l aE aH]) I ((i j) :: (g, Obj.cells #[vb h, vb 0, vb w, vi au, vb 0, vs (⟨#[]⟩ : Bs)] 129 (0, 0)) :: F) fun e1 I1 G1 => ∃ (r : Bool), e1 = .returned (vt r) ∧ ∃ F1 : Heap, List.Perm G1 ((i j) :: (g, Obj.cells #[vb h, vb 0, vb w, vi au, vb 0, vs (⟨#[]⟩ : Bs)] 129 (0, 0)) :: F1) ∧ Inv4 0 r h 0 w au 0 (⟨#[]⟩ : Bs) I1 F1) ∧ ((h == 1) = false → (((h == 2) = true → Tri P 90 (#[vs ar]) I ((i j) :: (g, Obj.cells #[vb h, vb 0, vb 0, vi 0, vb 0, vs ar] 129 (0, 0)) :: F) fun e2 I2 G2 => ∃ (r1 : Bool), e2 = .returned (vt r1) ∧ ∃ F2 : Heap, List.Perm G2 ((i j) :: (g, Obj.cells #[vb h, vb 0, vb 0, vi 0, vb 0, vs ar] 129 (0, 0)) :: F2) ∧ Inv4 0 r1 h 0 0 0 0 ar I2 F2) ∧ ((h == 2) = false → (((h == 3) = true → ((decide (n ≥ 1) = true → ((decide (n ≤ 3) = true → Inv4 0 true h 0 0 0 n (⟨#[]⟩ : Bs) I F) ∧ (decide (n ≤ 3) = false → (((h == 3) = true → Inv4 0 (decide (n ≤ 6)) h 0 0 0 n (⟨#[]⟩ : Bs) I F) ∧ ((h == 3) = false → Inv4 0 false h 0 0 0 n (⟨#[]⟩ : Bs) I F))))) ∧ (decide (n ≥ 1) = false → Inv4 0 false h 0 0 0 n (⟨#[]⟩ : Bs) I F))) ∧ ((h == 3) = false → (((h == 4) = true → ((decide (n ≥ 1) = true → ((decide (n ≤ 3) = true → Inv4 0 true h 0 0 0 n (⟨#[]⟩ : Bs) I F) ∧ (decide (n ≤ 3) = false → (((h == 3) = true → Inv4 0 (decide (n ≤ 6)) h 0 0 0 n (⟨#[]⟩ : Bs) I F) ∧ ((h == 3) = false → Inv4 0 false h 0 0 0 n (⟨#[]⟩ : Bs) I F))))) ∧ (decide (n ≥ 1) = false → Inv4 0 false h 0 0 0 n (⟨#[]⟩ : Bs) I F))) ∧ ((h == 4) = false → (((h == 5) = true → (((k == 1) = true → Inv4 1 true h k 0 0 0 (⟨#[]⟩ : Bs) I F) ∧ ((k == 1) = false → Inv4 1 (k == 2) h k 0 0 0 (⟨#[]⟩ : Bs) I F))) ∧ ((h == 5) = false → (((h == 6) = true → ((decide (6 ≤ k) = true → Inv4 2 (decide (k ≤ 18)) h k 0 0 0 (⟨#[]⟩ : Bs) I F) ∧ (decide (6 ≤ k) = false → Inv4 2 false h k 0 0 0 (⟨#[]⟩ : Bs) I F))) ∧ ((h == 6) = false → (((h == 7) = true → Inv4 3 true h 0 0 0 0 (⟨#[]⟩ : Bs) I F) ∧ ((h == 7) = false → (((h == 8) = true → (((k == 3) = true → ((decide (3 ≤ k) = true → Inv4 1 (decide (k ≤ 5)) h k 0 0 0 (⟨#[]⟩ : Bs) I F) ∧ (decide (3 ≤ k) = false → Inv4 1 false h k 0 0 0 (⟨#[]⟩ : Bs) I F))) ∧ ((k == 3) = false → ((decide (3 ≤ k) = true → Inv4 2 (decide (k ≤ 5)) h k 0 0 0 (⟨#[]⟩ : Bs) I F) ∧ (decide (3 ≤ k) = false → Inv4 2 false h k 0 0 0 (⟨#[]⟩ : Bs) I F))))) ∧ ((h == 8) = false → (((h == 9) = true → ((decide (1 ≤ w) = true → Inv4 1 (decide (w ≤ 4)) h 0 w 0 0 (⟨#[]⟩ : Bs) I F) ∧ (decide (1 ≤ w) = false → Inv4 1 false h 0 w 0 0 (⟨#[]⟩ : Bs) I F))) ∧ ((h == 9) = false → Inv4 0 false h 0 0 0 0 (⟨#[]⟩ : Bs) I F))))))))))))))))))) ∧ ∀ (aF : Int) (is : Bool) (a b c d e : Int) (f : Bs) (I3 : Imm) (F3 : Heap), Imm.le I I3 → Inv4 aF is a b c d e f I3 F3 → ((is = true → ∃ (aI aJ aK aL aM : Int) (aN : Bs), (Tri P 85 (#[nV h k w au n ar y l aE aH]) I3 ((i j) :: (g, Obj.cells #[vb a, vb b, vb c, vi d, vb e, vs f] 129 (0, 0)) :: F3) fun e3 I4 G3 => e3 = .returned (.agg #[vb aI, vb aJ, vb aK, vi aL, vb aM, vs aN]) ∧ List.Perm G3 ((i j) :: (g, Obj.cells #[vb a, vb b, vb c, vi d, vb e, vs f] 129 (0, 0)) :: F3)) ∧ ∃ q : Bool, BinRun P .eql 129 (.tmp 113) (.tmp 115) (.agg #[vb a, vb b, vb c, vi d, vb e, vs f]) (.agg #[vb aI, vb aJ, vb aK, vi aL, vb aM, vs aN]) q ∧ ((q = true → Tri P 32 (#[vt (((l : Nat) : Int) == aF), vi 120]) I3 ((i j) :: (g, Obj.cells #[vb a, vb b, vb c, vi d, vb e, vs f] 129 (0, 0)) :: F3) fun e4 I5 G4 => ((e4 = .returned (.tuple #[]) ∧ ∃ F4 : Heap, List.Perm G4 ((i j) :: (g, Obj.cells #[vb a, vb b, vb c, vi d, vb e, vs f] 129 (0, 0)) :: F4) ∧ (∃ m : Nat, Inv70 0 m I5 F4) ∧ ∀ (x : Int) (m1 : Nat) (I6 : Imm) (F5 : Heap), Imm.le I5 I6 → Inv70 x m1 I6 F5 → ((decide (x < ((l : Nat) : Int)) = true → ((0 ≤ x ∧ x < (l : Int)) ∧ ∃ ad : Addr, y = some ad ∧ ∃ (av aw ax ay az : Int) (aA : Bs) (z : OA) (aa ab : Nat) (aB : Int), Rd I6 ((i j) :: (g, Obj.cells #[vb a, vb b, vb c, vi d, vb e, vs f] 129 (0, 0)) :: F5) (ad.add (Int.toNat (x) * 8)) (nL av aw ax ay az aA z aa ab aB) ∧ ∀ aG : Nat, Tri P 77 (#[nV av aw ax ay az aA z aa ab aB]) I6 ((i j) :: (g, Obj.cells #[vb a, vb b, vb c, vi d, vb e, vs f] 129 (0, 0)) :: (aG, nO av aw ax ay az aA z aa ab aB) :: F5) fun e5 I7 G5 => ((e5 = .returned (.tuple #[]) ∧ ∃ F6 : Heap, List.Perm G5 ((i j) :: (g, Obj.cells #[vb a, vb b, vb c, vi d, vb e, vs f] 129 (0, 0)) :: (aG, nO av aw ax ay az aA z aa ab aB) :: F6) ∧ (∃ m2 : Nat, m2 < m1 ∧ Inv70 (IntKind.wrap .i64 (x + 1)) m2 I7 F6)) ∨ (∃ ch : List PanicEntry, e5 = .panicked ch ∧ ∃ F7 : Heap, List.Perm G5 ((i j) :: (g, Obj.cells #[vb a, vb b, vb c, vi d, vb e, vs f] 129 (0, 0)) :: (aG, nO av aw ax ay az aA z aa ab aB) :: F7) ∧ Q (.panicked ch) I7 (F7))))) ∧ (decide (x < ((l : Nat) : Int)) = false → Q (.returned (.tuple #[])) I6 (F5)))) ∨ (∃ aO : List PanicEntry, e4 = .panicked aO ∧ ∃ F8 : Heap, List.Perm G4 ((i j) :: (g, Obj.cells #[vb a, vb b, vb c, vi d, vb e, vs f] 129 (0, 0)) :: F8) ∧ Q (.panicked aO) I5 (F8)))) ∧ (q = false → Tri P 32 (#[vt false, vi 120]) I3 ((i j) :: (g, Obj.cells #[vb a, vb b, vb c, vi d, vb e, vs f] 129 (0, 0)) :: F3) fun e6 I8 G6 => ((e6 = .returned (.tuple #[]) ∧ ∃ F9 : Heap, List.Perm G6 ((i j) :: (g, Obj.cells #[vb a, vb b, vb c, vi d, vb e, vs f] 129 (0, 0)) :: F9) ∧ (∃ m3 : Nat, Inv70 0 m3 I8 F9) ∧ ∀ (x1 : Int) (m4 : Nat) (I9 : Imm) (F10 : Heap), Imm.le I8 I9 → Inv70 x1 m4 I9 F10 → ((decide (x1 < ((l : Nat) : Int)) = true → ((0 ≤ x1 ∧ x1 < (l : Int)) ∧ ∃ aP : Addr, y = some aP ∧ ∃ (ac ae af ag ah : Int) (ai : Bs) (o : OA) (p s : Nat) (aj : Int), Rd I9 ((i j) :: (g, Obj.cells #[vb a, vb b, vb c, vi d, vb e, vs f] 129 (0, 0)) :: F10) (aP.add (Int.toNat (x1) * 8)) (nL ac ae af ag ah ai o p s aj) ∧ ∀ aC : Nat, Tri P 77 (#[nV ac ae af ag ah ai o p s aj]) I9 ((i j) :: (g, Obj.cells #[vb a, vb b, vb c, vi d, vb e, vs f] 129 (0, 0)) :: (aC, nO ac ae af ag ah ai o p s aj) :: F10) fun e7 I10 G7 => ((e7 = .returned (.tuple #[]) ∧ ∃ F11 : Heap, List.Perm G7 ((i j) :: (g, Obj.cells #[vb a, vb b, vb c, vi d, vb e, vs f] 129 (0, 0)) :: (aC, nO ac ae af ag ah ai o p s aj) :: F11) ∧ (∃ m5 : Nat, m5 < m4 ∧ Inv70 (IntKind.wrap .i64 (x1 + 1)) m5 I10 F11)) ∨ (∃ aQ : List PanicEntry, e7 = .panicked aQ ∧ ∃ F12 : Heap, List.Perm G7 ((i j) :: (g, Obj.cells #[vb a, vb b, vb c, vi d, vb e, vs f] 129 (0, 0)) :: (aC, nO ac ae af ag ah ai o p s aj) :: F12) ∧ Q (.panicked aQ) I10 (F12))))) ∧ (decide (x1 < ((l : Nat) : Int)) = false → Q (.returned (.tuple #[])) I9 (F10)))) ∨ (∃ aR : List PanicEntry, e6 = .panicked aR ∧ ∃ F13 : Heap, List.Perm G6 ((i j) :: (g, Obj.cells #[vb a, vb b, vb c, vi d, vb e, vs f] 129 (0, 0)) :: F13) ∧ Q (.panicked aR) I8 (F13)))))) ∧ (is = false → Tri P 32 (#[vt false, vi 120]) I3 ((i j) :: (g, Obj.cells #[vb a, vb b, vb c, vi d, vb e, vs f] 129 (0, 0)) :: F3) fun e8 I11 G8 => ((e8 = .returned (.tuple #[]) ∧ ∃ F14 : Heap, List.Perm G8 ((i j) :: (g, Obj.cells #[vb a, vb b, vb c, vi d, vb e, vs f] 129 (0, 0)) :: F14) ∧ (∃ m6 : Nat, Inv70 0 m6 I11 F14) ∧ ∀ (x2 : Int) (m7 : Nat) (I12 : Imm) (F15 : Heap), Imm.le I11 I12 → Inv70 x2 m7 I12 F15 → ((decide (x2 < ((l : Nat) : Int)) = true → ((0 ≤ x2 ∧ x2 < (l : Int)) ∧ ∃ aS : Addr, y = some aS ∧ ∃ (ak al am an ao : Int) (ap : Bs) (t : OA) (u v : Nat) (aq : Int), Rd I12 ((i j) :: (g, Obj.cells #[vb a, vb b, vb c, vi d, vb e, vs f] 129 (0, 0)) :: F15) (aS.add (Int.toNat (x2) * 8)) (nL ak al am an ao ap t u v aq) ∧ ∀ aD : Nat, Tri P 77 (#[nV ak al am an ao ap t u v aq]) I12 ((i j) :: (g, Obj.cells #[vb a, vb b, vb c, vi d, vb e, vs f] 129 (0, 0)) :: (aD, nO ak al am an ao ap t u v aq) :: F15) fun e9 I13 G9 => ((e9 = .returned (.tuple #[]) ∧ ∃ F16 : Heap, List.Perm G9 ((i j) :: (g, Obj.cells #[vb a, vb b, vb c, vi d, vb e, vs f] 129 (0, 0)) :: (aD, nO ak al am an ao ap t u v aq) :: F16) ∧ (∃ m8 : Nat, m8 < m7 ∧ Inv70 (IntKind.wrap .i64 (x2 + 1)) m8 I13 F16)) ∨ (∃ aT : List PanicEntry, e9 = .panicked aT ∧ ∃ F17 : Heap, List.Perm G9 ((i j) :: (g, Obj.cells #[vb a, vb b, vb c, vi d, vb e, vs f] 129 (0, 0)) :: (aD, nO ak al am an ao ap t u v aq) :: F17) ∧ Q (.panicked aT) I13 (F17))))) ∧ (decide (x2 < ((l : Nat) : Int)) = false → Q (.returned (.tuple #[])) I12 (F15)))) ∨ (∃ aU : List PanicEntry, e8 = .panicked aU ∧ ∃ F18 : Heap, List.Perm G8 ((i j) :: (g, Obj.cells #[vb a, vb b, vb c, vi d, vb e, vs f] 129 (0, 0)) :: F18) ∧ Q (.panicked aU) I11 (F18)))))
theorem tree_node.vc {n_0 n_1 n_2 n_3 n_4 : Int} {n_5 : Bs} {n_6_a : OA} {n_6_n n_6_c : Nat} {n_7 : Int} {I : Imm} {F : Heap} {Q : PostQ} (Inv4 : Int → Bool → Int → Int → Int → Int → Int → Bs → Imm → Heap → Prop) (Inv70 : Int → Nat → Imm → Heap → Prop) (h : tree_node.V (fun b => (b, Obj.cells #[.int .u8 n_0, .int .u8 n_1, .int .u8 n_2, .int .i64 n_3, .int .u8 n_4, .string n_5, .slice n_6_a n_6_n n_6_c, .int .i64 n_7] 55 (0, 0))) (fun k o t n f s a l c q => .agg #[.int .u8 k, .int .u8 o, .int .u8 t, .int .i64 n, .int .u8 f, .string s, .slice a l c, .int .i64 q]) (fun k o t n f s a l c q => .cells #[.int .u8 k, .int .u8 o, .int .u8 t, .int .i64 n, .int .u8 f, .string s, .slice a l c, .int .i64 q] 55 (0, 0)) (fun k o t n f s a l c q => [.int .u8 k, .int .u8 o, .int .u8 t, .int .i64 n, .int .u8 f, .string s, .slice a l c, .int .i64 q]) (.int .u8) (.int .i64) .string .bool n_0 n_1 n_2 n_3 n_4 n_5 n_6_a n_6_n n_6_c n_7 I F Q Inv4 Inv70) : Tri P 77 #[.agg #[.int .u8 n_0, .int .u8 n_1, .int .u8 n_2, .int .i64 n_3, .int .u8 n_4, .string n_5, .slice n_6_a n_6_n n_6_c, .int .i64 n_7]] I (F) Q :=
  tv (A := (annL [4000, 7000, 10000, 11000, 13002, 13006, 13010, 14000, 16002, 17000, 19002, 20000, 22000, 24002, 26002, 27000, 29002, 30000, 30005, 32000] [32, 77] [32, 77, 85, 90, 101] shT_t2 [(4, ⟨[(3, (.int .i64)), (4, .bool)], [(1, [(.int .u8), (.int .u8), (.int .u8), (.int .i64), (.int .u8), .str])], fun _ _ _ vs m I F => match vs with | [.int _ y0, .bool y1, .int _ y2, .int _ y3, .int _ y4, .int _ y5, .int _ y6, .string y7] => Inv4 y0 y1 y2 y3 y4 y5 y6 y7 I F | _ => False, [], []⟩), (70, ⟨[(129, (.int .i64))], [], fun _ _ _ vs m I F => match vs with | [.int _ y0] => Inv70 y0 m I F | _ => False, [], []⟩)] [] [] [(5, 5, [1])] [] [] [(5, 6), (30, 14)])) (args := [.a (.v (.agg #[.int .u8 n_0, .int .u8 n_1, .int .u8 n_2, .int .i64 n_3, .int .u8 n_4, .string n_5, .slice n_6_a n_6_n n_6_c, .int .i64 n_7]))]) (own := []) (keep := []) [32, 77, 85, 90, 101] Go.Proofs.Tryz.func77 h
def tree_expr.V (a : Nat → Nat × Obj) (nV : Int → Int → Int → Int → Int → Bs → OA → Nat → Nat → Int → Value) (f g h i j : Int) (k : Bs) (c : OA) (d e : Nat) (l : Int) (I : Imm) (F : Heap) (Q : PostQ)  : Prop := ∀ b : Nat, Tri P 77 (#[nV f g h i j k c d e l]) I ((a b) :: F) fun e1 I1 G1 => ((e1 = .returned (.tuple #[]) ∧ ∃ F1 : Heap, List.Perm G1 ((a b) :: F1) ∧ Tri P 80 (#[nV f g h i j k c d e l]) I1 ((a b) :: F1) fun e2 I2 G2 => ∃ (r : Int), e2 = .returned (.int .i64 r) ∧ ∃ F2 : Heap, List.Perm G2 ((a b) :: F2) ∧ Tri P 32 (#[.bool (decide (r ≤ 24)), .int .i64 122]) I2 ((a b) :: F2) fun e3 I3 G3 => ((e3 = .returned (.tuple #[]) ∧ ∃ F3 : Heap, List.Perm G3 ((a b) :: F3) ∧ Q (.returned (.tuple #[])) I3 (F3)) ∨ (∃ ch : List PanicEntry, e3 = .panicked ch ∧ ∃ F4 : Heap, List.Perm G3 ((a b) :: F4) ∧ Q (.panicked ch) I3 (F4)))) ∨ (∃ m : List PanicEntry, e1 = .panicked m ∧ ∃ F5 : Heap, List.Perm G1 ((a b) :: F5) ∧ Q (.panicked m) I1 (F5)))
theorem tree_expr.vc {n_0 n_1 n_2 n_3 n_4 : Int} {n_5 : Bs} {n_6_a : OA} {n_6_n n_6_c : Nat} {n_7 : Int} {I : Imm} {F : Heap} {Q : PostQ}  (h : tree_expr.V (fun b => (b, Obj.cells #[.int .u8 n_0, .int .u8 n_1, .int .u8 n_2, .int .i64 n_3, .int .u8 n_4, .string n_5, .slice n_6_a n_6_n n_6_c, .int .i64 n_7] 55 (0, 0))) (fun k o t n f s a l c q => .agg #[.int .u8 k, .int .u8 o, .int .u8 t, .int .i64 n, .int .u8 f, .string s, .slice a l c, .int .i64 q]) n_0 n_1 n_2 n_3 n_4 n_5 n_6_a n_6_n n_6_c n_7 I F Q) : Tri P 83 #[.agg #[.int .u8 n_0, .int .u8 n_1, .int .u8 n_2, .int .i64 n_3, .int .u8 n_4, .string n_5, .slice n_6_a n_6_n n_6_c, .int .i64 n_7]] I (F) Q :=
  tv (A := (annL [] [32, 77] [32, 77, 80] shT_t2 [] [] [] [] [] [] [])) (args := [.a (.v (.agg #[.int .u8 n_0, .int .u8 n_1, .int .u8 n_2, .int .i64 n_3, .int .u8 n_4, .string n_5, .slice n_6_a n_6_n n_6_c, .int .i64 n_7]))]) (own := []) (keep := []) [32, 77, 80] Go.Proofs.Tryz.func83 h
def tree_CheckExpr.V (nO : Int → Int → Int → Int → Int → Bs → OA → Nat → Nat → Int → Obj) (o p q s t : Int) (u : Bs) (e : OA) (f g : Nat) (v : Int) (I : Imm) (F : Heap) (Q : PostQ)  : Prop := ∀ d : Nat, Tri P 29 (#[.func (.func 82) #[] #[.pointer (some ⟨d, 0, none⟩)]]) I ((d, nO o p q s t u e f g v) :: F) fun e1 I1 G1 => ∃ (r : Int), e1 = .returned (.int .i64 r) ∧ ∃ (h i j k l : Int) (m : Bs) (a : OA) (b c : Nat) (n : Int), ∃ F1 : Heap, List.Perm G1 ((d, nO h i j k l m a b c n) :: F1) ∧ Q (.returned (.int .i64 r)) I1 (F1)
theorem tree_CheckExpr.vc {n_0 n_1 n_2 n_3 n_4 : Int} {n_5 : Bs} {n_6_a : OA} {n_6_n n_6_c : Nat} {n_7 : Int} {I : Imm} {F : Heap} {Q : PostQ}  (h : tree_CheckExpr.V (fun k o t n f s a l c q => .cells #[.int .u8 k, .int .u8 o, .int .u8 t, .int .i64 n, .int .u8 f, .string s, .slice a l c, .int .i64 q] 55 (0, 0)) n_0 n_1 n_2 n_3 n_4 n_5 n_6_a n_6_n n_6_c n_7 I F Q) : Tri P 21 #[.agg #[.int .u8 n_0, .int .u8 n_1, .int .u8 n_2, .int .i64 n_3, .int .u8 n_4, .string n_5, .slice n_6_a n_6_n n_6_c, .int .i64 n_7]] I (F) Q :=
  tv (A := (annL [] [] [29] shT_t2 [] [] [] [] [] [] [])) (args := [.a (.v (.agg #[.int .u8 n_0, .int .u8 n_1, .int .u8 n_2, .int .i64 n_3, .int .u8 n_4, .string n_5, .slice n_6_a n_6_n n_6_c, .int .i64 n_7]))]) (own := []) (keep := []) [29] Go.Proofs.Tryz.func21 h
def tree_CheckExpr_1.V (vb vi : Int → Value) (c : Addr) (I : Imm) (F : Heap) (Q : PostQ)  : Prop := ∃ (e f g h i : Int) (j : Bs) (a : OA) (b d : Nat) (k : Int), Rd I (F) c [vb e, vb f, vb g, vi h, vb i, .string j, .slice a b d, vi k] ∧ Tri P 83 (#[.agg #[vb e, vb f, vb g, vi h, vb i, .string j, .slice a b d, vi k]]) I (F) fun e1 I1 G1 => ((e1 = .returned (.tuple #[]) ∧ ∃ F1 : Heap, List.Perm G1 (F1) ∧ Q (.returned (.tuple #[])) I1 (F1)) ∨ (∃ ch : List PanicEntry, e1 = .panicked ch ∧ ∃ F2 : Heap, List.Perm G1 (F2) ∧ Q (.panicked ch) I1 (F2)))
theorem tree_CheckExpr_1.vc {c : Addr} {I : Imm} {F : Heap} {Q : PostQ}  (h : tree_CheckExpr_1.V (.int .u8) (.int .i64) c I F Q) : Tri P 82 #[.pointer (some c)] I (F) Q :=
  tv (A := (annL [] [83] [83] shT_t2 [] [] [] [] [] [] [])) (args := [.a (.v (.pointer (some c)))]) (own := []) (keep := []) [83] Go.Proofs.Tryz.func82 h
def tree_level.V (vi : Int → Value) (b a f g h : Int) (i : Bs) (c : OA) (d e : Nat) (j : Int) (I : Imm) (F : Heap) (Q : PostQ)  : Prop := ∀ k : Nat, (((b == 7) = true → Q (.returned (vi 1)) I (F)) ∧ ((b == 7) = false → (((b == 5) = true → Q (.returned (vi 7)) I (F)) ∧ ((b == 5) = false → (((b == 6) = true → (((a == 18) = true → Q (.returned (vi 2)) I (F)) ∧ ((a == 18) = false → (((a == 17) = true → Q (.returned (vi 3)) I (F)) ∧ ((a == 17) = false → ((decide (a ≥ 11) = true → Q (.returned (vi 4)) I (F)) ∧ (decide (a ≥ 11) = false → ((decide (a ≥ 8) = true → Q (.returned (vi 6)) I (F)) ∧ (decide (a ≥ 8) = false → Q (.returned (vi 5)) I (F)))))))))) ∧ ((b == 6) = false → Q (.returned (vi 8)) I (F)))))))
theorem tree_level.vc {n_0 n_1 n_2 n_3 n_4 : Int} {n_5 : Bs} {n_6_a : OA} {n_6_n n_6_c : Nat} {n_7 : Int} {I : Imm} {F : Heap} {Q : PostQ}  (h : tree_level.V (.int .i64) n_0 n_1 n_2 n_3 n_4 n_5 n_6_a n_6_n n_6_c n_7 I F Q) : Tri P 78 #[.agg #[.int .u8 n_0, .int .u8 n_1, .int .u8 n_2, .int .i64 n_3, .int .u8 n_4, .string n_5, .slice n_6_a n_6_n n_6_c, .int .i64 n_7]] I (F) Q :=
  tv (A := (annL [2000, 4000, 6000, 8001, 10001, 12001, 14001] [] [] shT_t2 [] [] [] [] [] [] [])) (args := [.a (.v (.agg #[.int .u8 n_0, .int .u8 n_1, .int .u8 n_2, .int .i64 n_3, .int .u8 n_4, .string n_5, .slice n_6_a n_6_n n_6_c, .int .i64 n_7]))]) (own := []) (keep := []) [] Go.Proofs.Tryz.func78 h
def tree_place.V (nO : Int → Int → Int → Int → Int → Bs → OA → Nat → Nat → Int → Obj) (vb vi : Int → Value) (e f g h i : Int) (j : Bs) (a : OA) (b c : Nat) (k d : Int) (I : Imm) (F : Heap) (Q : PostQ)  : Prop := ∀ l : Nat, Tri P 78 (#[.agg #[vb e, vb f, vb g, vi h, vb i, .string j, .slice a b c, vi k]]) I ((l, nO e f g h i j a b c k) :: F) fun e1 I1 G1 => ∃ (r : Int), e1 = .returned (vi r) ∧ ∃ F1 : Heap, List.Perm G1 ((l, nO e f g h i j a b c k) :: F1) ∧ (((r == 1) = true → (((d == 0) = true → Q (.returned (vi 2)) I1 (F1)) ∧ ((d == 0) = false → (((r == 4) = true → Q (.returned (vi 5)) I1 (F1)) ∧ ((r == 4) = false → (((r == 7) = true → Q (.returned (vi 7)) I1 (F1)) ∧ ((r == 7) = false → (((r == 1) = true → Q (.returned (vi 1)) I1 (F1)) ∧ ((r == 1) = false → (((r == 8) = true → Q (.returned (vi 1)) I1 (F1)) ∧ ((r == 8) = false → Q (.returned (vi (IntKind.wrap .i64 (r + d)))) I1 (F1)))))))))))) ∧ ((r == 1) = false → (((r == 4) = true → Q (.returned (vi 5)) I1 (F1)) ∧ ((r == 4) = false → (((r == 7) = true → Q (.returned (vi 7)) I1 (F1)) ∧ ((r == 7) = false → (((r == 1) = true → Q (.returned (vi 1)) I1 (F1)) ∧ ((r == 1) = false → (((r == 8) = true → Q (.returned (vi 1)) I1 (F1)) ∧ ((r == 8) = false → Q (.returned (vi (IntKind.wrap .i64 (r + d)))) I1 (F1)))))))))))
theorem tree_place.vc {n_0 n_1 n_2 n_3 n_4 : Int} {n_5 : Bs} {n_6_a : OA} {n_6_n n_6_c : Nat} {n_7 kid : Int} {I : Imm} {F : Heap} {Q : PostQ}  (h : tree_place.V (fun k o t n f s a l c q => .cells #[.int .u8 k, .int .u8 o, .int .u8 t, .int .i64 n, .int .u8 f, .string s, .slice a l c, .int .i64 q] 55 (0, 0)) (.int .u8) (.int .i64) n_0 n_1 n_2 n_3 n_4 n_5 n_6_a n_6_n n_6_c n_7 kid I F Q) : Tri P 102 #[.agg #[.int .u8 n_0, .int .u8 n_1, .int .u8 n_2, .int .i64 n_3, .int .u8 n_4, .string n_5, .slice n_6_a n_6_n n_6_c, .int .i64 n_7], .int .i64 kid] I (F) Q :=
  tv (A := (annL [3001, 3004, 5001, 7001, 9001, 9004] [] [78] shT_t2 [] [] [] [] [] [] [])) (args := [.a (.v (.agg #[.int .u8 n_0, .int .u8 n_1, .int .u8 n_2, .int .i64 n_3, .int .u8 n_4, .string n_5, .slice n_6_a n_6_n n_6_c, .int .i64 n_7])), .a (.v (.int .i64 kid))]) (own := []) (keep := []) [78] Go.Proofs.Tryz.func102 h
def tree_depth.V (o : Nat → Nat × Obj) (nV : Int → Int → Int → Int → Int → Bs → OA → Nat → Nat → Int → Value) (nO : Int → Int → Int → Int → Int → Bs → OA → Nat → Nat → Int → Obj) (vb vi : Int → Value) (wr : Int → Int) (e u v w y : Int) (z : Bs) (s : OA) (n t : Nat) (aa : Int) (I : Imm) (F : Heap) (Q : PostQ) (Inv8 : Int → Int → Nat → Imm → Heap → Prop) : Prop := ∀ p : Nat, (∃ m : Nat, Inv8 0 0 m I F) ∧ ∀ (a x : Int) (m1 : Nat) (I1 : Imm) (F1 : Heap), Imm.le I I1 → Inv8 a x m1 I1 F1 → ((decide (x < ((n : Nat) : Int)) = true → ((0 ≤ x ∧ x < (n : Int)) ∧ ∃ ad : Addr, s = some ad ∧ ∃ (f g h i j : Int) (k : Bs) (b : OA) (c d : Nat) (l : Int), Rd I1 ((o p) :: F1) (ad.add (Int.toNat (x) * 8)) [vb f, vb g, vb h, vi i, vb j, .string k, .slice b c d, vi l] ∧ ∀ q : Nat, Tri P 80 (#[nV f g h i j k b c d l]) I1 ((o p) :: (q, nO f g h i j k b c d l) :: F1) fun e1 I2 G1 => ∃ (r : Int), e1 = .returned (vi r) ∧ ∃ F2 : Heap, List.Perm G1 ((o p) :: (q, nO f g h i j k b c d l) :: F2) ∧ ∃ (r1 : Int), (Tri P 78 (#[nV f g h i j k b c d l]) I2 ((o p) :: (q, nO f g h i j k b c d l) :: F2) fun e2 I3 G2 => e2 = .returned (vi r1) ∧ List.Perm G2 ((o p) :: (q, nO f g h i j k b c d l) :: F2)) ∧ ∃ (r2 : Int), (Tri P 102 (#[nV e u v w y z s n t aa, vi x]) I2 ((o p) :: (q, nO f g h i j k b c d l) :: F2) fun e3 I4 G3 => e3 = .returned (vi r2) ∧ List.Perm G3 ((o p) :: (q, nO f g h i j k b c d l) :: F2)) ∧ ((decide (r1 < r2) = true → (((e == 6) = true → (∃ m2 : Nat, m2 < m1 ∧ Inv8 (if (wr (r + 1)) > a then wr (r + 1) else a) (wr (x + 1)) m2 I2 F2)) ∧ ((e == 6) = false → (((e == 7) = true → (∃ m3 : Nat, m3 < m1 ∧ Inv8 (if (wr ((wr (r + 1)) + (if 1 < x then 1 else x))) > a then wr ((wr (r + 1)) + (if 1 < x then 1 else x)) else a) (wr (x + 1)) m3 I2 F2)) ∧ ((e == 7) = false → (∃ m4 : Nat, m4 < m1 ∧ Inv8 (if (wr ((wr (r + 1)) + 1)) > a then wr ((wr (r + 1)) + 1) else a) (wr (x + 1)) m4 I2 F2)))))) ∧ (decide (r1 < r2) = false → (((e == 6) = true → (∃ m5 : Nat, m5 < m1 ∧ Inv8 (if r > a then r else a) (wr (x + 1)) m5 I2 F2)) ∧ ((e == 6) = false → (((e == 7) = true → (∃ m6 : Nat, m6 < m1 ∧ Inv8 (if (wr (r + (if 1 < x then 1 else x))) > a then wr (r + (if 1 < x then 1 else x)) else a) (wr (x + 1)) m6 I2 F2)) ∧ ((e == 7) = false → (∃ m7 : Nat, m7 < m1 ∧ Inv8 (if (wr (r + 1)) > a then wr (r + 1) else a) (wr (x + 1)) m7 I2 F2))))))))) ∧ (decide (x < ((n : Nat) : Int)) = false → Q (.returned (vi a)) I1 (F1)))
theorem tree_depth.vc {n_0 n_1 n_2 n_3 n_4 : Int} {n_5 : Bs} {n_6_a : OA} {n_6_n n_6_c : Nat} {n_7 : Int} {I : Imm} {F : Heap} {Q : PostQ} (Inv8 : Int → Int → Nat → Imm → Heap → Prop) (h : tree_depth.V (fun b => (b, Obj.cells #[.int .u8 n_0, .int .u8 n_1, .int .u8 n_2, .int .i64 n_3, .int .u8 n_4, .string n_5, .slice n_6_a n_6_n n_6_c, .int .i64 n_7] 55 (0, 0))) (fun k o t n f s a l c q => .agg #[.int .u8 k, .int .u8 o, .int .u8 t, .int .i64 n, .int .u8 f, .string s, .slice a l c, .int .i64 q]) (fun k o t n f s a l c q => .cells #[.int .u8 k, .int .u8 o, .int .u8 t, .int .i64 n, .int .u8 f, .string s, .slice a l c, .int .i64 q] 55 (0, 0)) (.int .u8) (.int .i64) (IntKind.wrap .i64) n_0 n_1 n_2 n_3 n_4 n_5 n_6_a n_6_n n_6_c n_7 I F Q Inv8) : Tri P 80 #[.agg #[.int .u8 n_0, .int .u8 n_1, .int .u8 n_2, .int .i64 n_3, .int .u8 n_4, .string n_5, .slice n_6_a n_6_n n_6_c, .int .i64 n_7]] I (F) Q :=
  tv (A := (annL [3000, 6005, 10000, 11000] [] [78, 80, 102] shT_t2 [(8, ⟨[(3, (.int .i64)), (10, (.int .i64))], [], fun _ _ _ vs m I F => match vs with | [.int _ y0, .int _ y1] => Inv8 y0 y1 m I F | _ => False, [], []⟩)] [] [] [] [] [] [])) (args := [.a (.v (.agg #[.int .u8 n_0, .int .u8 n_1, .int .u8 n_2, .int .i64 n_3, .int .u8 n_4, .string n_5, .slice n_6_a n_6_n n_6_c, .int .i64 n_7]))]) (own := []) (keep := []) [78, 80, 102] Go.Proofs.Tryz.func80 h
def tree_Level.V (nO : Int → Int → Int → Int → Int → Bs → OA → Nat → Nat → Int → Obj) (vb vi : Int → Value) (o p q s t : Int) (u : Bs) (l : OA) (m n : Nat) (v : Int) (I : Imm) (F : Heap) (Q : PostQ)  : Prop := ∀ k : Nat, Tri P 29 (#[.func (.func 76) #[] #[.pointer (some ⟨k, 0, none⟩)]]) I ((k, nO o p q s t u l m n v) :: F) fun e1 I1 G1 => ∃ (r : Int), e1 = .returned (vi r) ∧ ∃ (d e f g h : Int) (i : Bs) (a : OA) (b c : Nat) (j : Int), ∃ F1 : Heap, List.Perm G1 ((k, nO d e f g h i a b c j) :: F1) ∧ (((r != 0) = true → Q (.returned (vi 0)) I1 (F1)) ∧ ((r != 0) = false → Tri P 78 (#[.agg #[vb d, vb e, vb f, vi g, vb h, .string i, .slice a b c, vi j]]) I1 ((k, nO d e f g h i a b c j) :: F1) fun e2 I2 G2 => ∃ (r1 : Int), e2 = .returned (vi r1) ∧ ∃ F2 : Heap, List.Perm G2 ((k, nO d e f g h i a b c j) :: F2) ∧ Q (.returned (vi r1)) I2 (F2)))
theorem tree_Level.vc {n_0 n_1 n_2 n_3 n_4 : Int} {n_5 : Bs} {n_6_a : OA} {n_6_n n_6_c : Nat} {n_7 : Int} {I : Imm} {F : Heap} {Q : PostQ}  (h : tree_Level.V (fun k o t n f s a l c q => .cells #[.int .u8 k, .int .u8 o, .int .u8 t, .int .i64 n, .int .u8 f, .string s, .slice a l c, .int .i64 q] 55 (0, 0)) (.int .u8) (.int .i64) n_0 n_1 n_2 n_3 n_4 n_5 n_6_a n_6_n n_6_c n_7 I F Q) : Tri P 18 #[.agg #[.int .u8 n_0, .int .u8 n_1, .int .u8 n_2, .int .i64 n_3, .int .u8 n_4, .string n_5, .slice n_6_a n_6_n n_6_c, .int .i64 n_7]] I (F) Q :=
  tv (A := (annL [1002] [] [29, 78] shT_t2 [] [] [] [] [] [] [])) (args := [.a (.v (.agg #[.int .u8 n_0, .int .u8 n_1, .int .u8 n_2, .int .i64 n_3, .int .u8 n_4, .string n_5, .slice n_6_a n_6_n n_6_c, .int .i64 n_7]))]) (own := []) (keep := []) [29, 78] Go.Proofs.Tryz.func18 h
def tree_Level_1.V (vb vi : Int → Value) (c : Addr) (I : Imm) (F : Heap) (Q : PostQ)  : Prop := ∃ (e f g h i : Int) (j : Bs) (a : OA) (b d : Nat) (k : Int), Rd I (F) c [vb e, vb f, vb g, vi h, vb i, .string j, .slice a b d, vi k] ∧ Tri P 77 (#[.agg #[vb e, vb f, vb g, vi h, vb i, .string j, .slice a b d, vi k]]) I (F) fun e1 I1 G1 => ((e1 = .returned (.tuple #[]) ∧ ∃ F1 : Heap, List.Perm G1 (F1) ∧ Q (.returned (.tuple #[])) I1 (F1)) ∨ (∃ ch : List PanicEntry, e1 = .panicked ch ∧ ∃ F2 : Heap, List.Perm G1 (F2) ∧ Q (.panicked ch) I1 (F2)))
theorem tree_Level_1.vc {c : Addr} {I : Imm} {F : Heap} {Q : PostQ}  (h : tree_Level_1.V (.int .u8) (.int .i64) c I F Q) : Tri P 76 #[.pointer (some c)] I (F) Q :=
  tv (A := (annL [] [77] [77] shT_t2 [] [] [] [] [] [] [])) (args := [.a (.v (.pointer (some c)))]) (own := []) (keep := []) [77] Go.Proofs.Tryz.func76 h
def tree_Depth.V (nO : Int → Int → Int → Int → Int → Bs → OA → Nat → Nat → Int → Obj) (vb vi : Int → Value) (o p q s t : Int) (u : Bs) (l : OA) (m n : Nat) (v : Int) (I : Imm) (F : Heap) (Q : PostQ)  : Prop := ∀ k : Nat, Tri P 29 (#[.func (.func 79) #[] #[.pointer (some ⟨k, 0, none⟩)]]) I ((k, nO o p q s t u l m n v) :: F) fun e1 I1 G1 => ∃ (r : Int), e1 = .returned (vi r) ∧ ∃ (d e f g h : Int) (i : Bs) (a : OA) (b c : Nat) (j : Int), ∃ F1 : Heap, List.Perm G1 ((k, nO d e f g h i a b c j) :: F1) ∧ (((r != 0) = true → Q (.returned (vi 0)) I1 (F1)) ∧ ((r != 0) = false → Tri P 80 (#[.agg #[vb d, vb e, vb f, vi g, vb h, .string i, .slice a b c, vi j]]) I1 ((k, nO d e f g h i a b c j) :: F1) fun e2 I2 G2 => ∃ (r1 : Int), e2 = .returned (vi r1) ∧ ∃ F2 : Heap, List.Perm G2 ((k, nO d e f g h i a b c j) :: F2) ∧ Q (.returned (vi r1)) I2 (F2)))
theorem tree_Depth.vc {n_0 n_1 n_2 n_3 n_4 : Int} {n_5 : Bs} {n_6_a : OA} {n_6_n n_6_c : Nat} {n_7 : Int} {I : Imm} {F : Heap} {Q : PostQ}  (h : tree_Depth.V (fun k o t n f s a l c q => .cells #[.int .u8 k, .int .u8 o, .int .u8 t, .int .i64 n, .int .u8 f, .string s, .slice a l c, .int .i64 q] 55 (0, 0)) (.int .u8) (.int .i64) n_0 n_1 n_2 n_3 n_4 n_5 n_6_a n_6_n n_6_c n_7 I F Q) : Tri P 19 #[.agg #[.int .u8 n_0, .int .u8 n_1, .int .u8 n_2, .int .i64 n_3, .int .u8 n_4, .string n_5, .slice n_6_a n_6_n n_6_c, .int .i64 n_7]] I (F) Q :=
  tv (A := (annL [1002] [] [29, 80] shT_t2 [] [] [] [] [] [] [])) (args := [.a (.v (.agg #[.int .u8 n_0, .int .u8 n_1, .int .u8 n_2, .int .i64 n_3, .int .u8 n_4, .string n_5, .slice n_6_a n_6_n n_6_c, .int .i64 n_7]))]) (own := []) (keep := []) [29, 80] Go.Proofs.Tryz.func19 h
def tree_Depth_1.V (vb vi : Int → Value) (c : Addr) (I : Imm) (F : Heap) (Q : PostQ)  : Prop := ∃ (e f g h i : Int) (j : Bs) (a : OA) (b d : Nat) (k : Int), Rd I (F) c [vb e, vb f, vb g, vi h, vb i, .string j, .slice a b d, vi k] ∧ Tri P 77 (#[.agg #[vb e, vb f, vb g, vi h, vb i, .string j, .slice a b d, vi k]]) I (F) fun e1 I1 G1 => ((e1 = .returned (.tuple #[]) ∧ ∃ F1 : Heap, List.Perm G1 (F1) ∧ Q (.returned (.tuple #[])) I1 (F1)) ∨ (∃ ch : List PanicEntry, e1 = .panicked ch ∧ ∃ F2 : Heap, List.Perm G1 (F2) ∧ Q (.panicked ch) I1 (F2)))
theorem tree_Depth_1.vc {c : Addr} {I : Imm} {F : Heap} {Q : PostQ}  (h : tree_Depth_1.V (.int .u8) (.int .i64) c I F Q) : Tri P 79 #[.pointer (some c)] I (F) Q :=
  tv (A := (annL [] [77] [77] shT_t2 [] [] [] [] [] [] [])) (args := [.a (.v (.pointer (some c)))]) (own := []) (keep := []) [77] Go.Proofs.Tryz.func79 h
def tree_each.V (nV : Int → Int → Int → Int → Int → Bs → OA → Nat → Nat → Int → Value) (nO : Int → Int → Int → Int → Int → Bs → OA → Nat → Nat → Int → Obj) (vb : Int → Value) (vl : OA → Nat → Nat → Value) (ai : OA) (u al : Nat) (f : Fn) (aj ak : Array Value) (I : Imm) (F : Heap) (Q : PostQ) (Inv8 : OA → Nat → Nat → Int → Nat → Imm → Heap → Prop) : Prop := (∃ m : Nat, Inv8 none 0 0 0 m I F) ∧ ∀ (n : OA) (o p : Nat) (x : Int) (m1 : Nat) (I1 : Imm) (F1 : Heap), Imm.le I I1 → Inv8 n o p x m1 I1 F1 → ((decide (x < ((u : Nat) : Int)) = true → ((0 ≤ x ∧ x < (u : Int)) ∧ ∃ ad : Addr, ai = some ad ∧ ∃ (e g h i j : Int) (k : Bs) (a : OA) (c d : Nat) (l : Int), Rd I1 (F1) (ad.add (Int.toNat (x) * 8)) [vb e, vb g, vb h, .int .i64 i, vb j, .string k, vl a c d, .int .i64 l] ∧ ∀ t : Nat, TriV P (.func f aj ak) [nV e g h i j k a c d l] I1 ((t, nO e g h i j k a c d l) :: F1) fun e1 I2 G1 => ∃ (w y z aa ab : Int) (ac : Bs) (q : OA) (r s : Nat) (ae : Int), e1 = .returned (nV w y z aa ab ac q r s ae) ∧ ∃ F2 : Heap, List.Perm G1 ((t, nO e g h i j k a c d l) :: F2) ∧ ∀ (b : Nat) (I3 : Imm), Imm.le I2 I3 → I3 b = some (nO w y z aa ab ac q r s ae) → TriE P (Builtin.append_ #[53, 53] 53 #[vl n o p, vl (some ⟨b, 0, none⟩) 1 1]) I3 ((t, nO e g h i j k a c d l) :: F2) fun v I4 G2 => ∃ (af : OA) (ag ah : Nat), v = vl af ag ah ∧ ∃ F3 : Heap, List.Perm G2 ((t, nO e g h i j k a c d l) :: F3) ∧ (∃ m2 : Nat, m2 < m1 ∧ Inv8 af ag ah (IntKind.wrap .i64 (x + 1)) m2 I4 F3))) ∧ (decide (x < ((u : Nat) : Int)) = false → Q (.returned (vl n o p)) I1 (F1)))
theorem tree_each.vc {l_a : OA} {l_n l_c : Nat} {f : Fn} {f_f f_c : Array Value} {I : Imm} {F : Heap} {Q : PostQ} (Inv8 : OA → Nat → Nat → Int → Nat → Imm → Heap → Prop) (h : tree_each.V (fun k o t n f s a l c q => .agg #[.int .u8 k, .int .u8 o, .int .u8 t, .int .i64 n, .int .u8 f, .string s, .slice a l c, .int .i64 q]) (fun k o t n f s a l c q => .cells #[.int .u8 k, .int .u8 o, .int .u8 t, .int .i64 n, .int .u8 f, .string s, .slice a l c, .int .i64 q] 55 (0, 0)) (.int .u8) .slice l_a l_n l_c f f_f f_c I F Q Inv8) : Tri P 84 #[.slice l_a l_n l_c, .func f f_f f_c] I (F) Q :=
  tv (A := (annL [3000] [] [] shT_t2 [(8, ⟨[(5, .slc), (10, (.int .i64))], [], fun _ _ _ vs m I F => match vs with | [.slice y0 y1 y2, .int _ y3] => Inv8 y0 y1 y2 y3 m I F | _ => False, [], []⟩)] [5004] [] [] [5003] [] [])) (args := [.a (.v (.slice l_a l_n l_c)), .a (.v (.func f f_f f_c))]) (own := []) (keep := []) [] Go.Proofs.Tryz.func84 h
def tree_BareExpr.V (nO : Int → Int → Int → Int → Int → Bs → OA → Nat → Nat → Int → Obj) (vb : Int → Value) (e f g h i : Int) (j : Bs) (a : OA) (c d : Nat) (o : Int) (I : Imm) (F : Heap) (Q : PostQ)  : Prop := ∀ n : Nat, ∀ b : Nat, Tri P 84 (#[.slice a c d, .func (.func 24) #[] #[]]) I ((n, nO e f g h i j a c d 0) :: (b, nO 0 0 0 0 0 (⟨#[]⟩ : Bs) none 0 0 0) :: F) fun e1 I1 G1 => ∃ (k : OA) (l m : Nat), e1 = .returned (.slice k l m) ∧ ∃ F1 : Heap, List.Perm G1 ((n, nO e f g h i j a c d 0) :: (b, nO 0 0 0 0 0 (⟨#[]⟩ : Bs) none 0 0 0) :: F1) ∧ Q (.returned (.agg #[vb e, vb f, vb g, .int .i64 h, vb i, .string j, .slice k l m, .int .i64 0])) I1 (F1)
theorem tree_BareExpr.vc {n_0 n_1 n_2 n_3 n_4 : Int} {n_5 : Bs} {n_6_a : OA} {n_6_n n_6_c : Nat} {n_7 : Int} {I : Imm} {F : Heap} {Q : PostQ}  (h : tree_BareExpr.V (fun k o t n f s a l c q => .cells #[.int .u8 k, .int .u8 o, .int .u8 t, .int .i64 n, .int .u8 f, .string s, .slice a l c, .int .i64 q] 55 (0, 0)) (.int .u8) n_0 n_1 n_2 n_3 n_4 n_5 n_6_a n_6_n n_6_c n_7 I F Q) : Tri P 24 #[.agg #[.int .u8 n_0, .int .u8 n_1, .int .u8 n_2, .int .i64 n_3, .int .u8 n_4, .string n_5, .slice n_6_a n_6_n n_6_c, .int .i64 n_7]] I (F) Q :=
  tv (A := (annL [] [] [84] shT_t2 [] [] [] [] [] [] [])) (args := [.a (.v (.agg #[.int .u8 n_0, .int .u8 n_1, .int .u8 n_2, .int .i64 n_3, .int .u8 n_4, .string n_5, .slice n_6_a n_6_n n_6_c, .int .i64 n_7]))]) (own := []) (keep := []) [84] Go.Proofs.Tryz.func24 h
def tree_both.V (nV : Int → Int → Int → Int → Int → Bs → OA → Nat → Nat → Int → Value) (nL : Int → Int → Int → Int → Int → Bs → OA → Nat → Nat → Int → List Value) (vt : Bool → Value) (ae : OA) (a ag : Nat) (af : OA) (h ah : Nat) (ac : Fn) (i j : Array Value) (I : Imm) (F : Heap) (Q : PostQ) (Inv14 : Bool → Int → Nat → Imm → Heap → Prop) : Prop := (((((a : Nat) : Int) != ((h : Nat) : Int)) = true → Q (.returned (vt false)) I (F)) ∧ ((((a : Nat) : Int) != ((h : Nat) : Int)) = false → (∃ m : Nat, Inv14 false 0 m I F) ∧ ∀ (x : Bool) (x1 : Int) (m1 : Nat) (I1 : Imm) (F1 : Heap), Imm.le I I1 → Inv14 x x1 m1 I1 F1 → ((decide (x1 < ((a : Nat) : Int)) = true → ((0 ≤ x1 ∧ x1 < (a : Int)) ∧ ∃ ad : Addr, ae = some ad ∧ ((0 ≤ x1 ∧ x1 < (h : Int)) ∧ ∃ ab : Addr, af = some ab ∧ ∃ (t u v w y : Int) (z : Bs) (e : OA) (f g : Nat) (aa : Int), Rd I1 (F1) (ad.add (Int.toNat (x1) * 8)) (nL t u v w y z e f g aa) ∧ ∃ (k l n o p : Int) (q : Bs) (b : OA) (c d : Nat) (s : Int), Rd I1 (F1) (ab.add (Int.toNat (x1) * 8)) (nL k l n o p q b c d s) ∧ TriV P (.func ac i j) [nV t u v w y z e f g aa, nV k l n o p q b c d s] I1 (F1) fun e1 I2 G1 => ∃ (r : Bool), e1 = .returned (vt r) ∧ ∃ F2 : Heap, List.Perm G1 (F2) ∧ (((!r) = true → Q (.returned (vt false)) I2 (F2)) ∧ ((!r) = false → (∃ m2 : Nat, m2 < m1 ∧ Inv14 x (IntKind.wrap .i64 (x1 + 1)) m2 I2 F2)))))) ∧ (decide (x1 < ((a : Nat) : Int)) = false → Q (.returned (vt true)) I1 (F1)))))
theorem tree_both.vc {a_a : OA} {a_n a_c : Nat} {b_a : OA} {b_n b_c : Nat} {same : Fn} {same_f same_c : Array Value} {I : Imm} {F : Heap} {Q : PostQ} (Inv14 : Bool → Int → Nat → Imm → Heap → Prop) (h : tree_both.V (fun k o t n f s a l c q => .agg #[.int .u8 k, .int .u8 o, .int .u8 t, .int .i64 n, .int .u8 f, .string s, .slice a l c, .int .i64 q]) (fun k o t n f s a l c q => [.int .u8 k, .int .u8 o, .int .u8 t, .int .i64 n, .int .u8 f, .string s, .slice a l c, .int .i64 q]) .bool a_a a_n a_c b_a b_n b_c same same_f same_c I F Q Inv14) : Tri P 86 #[.slice a_a a_n a_c, .slice b_a b_n b_c, .func same same_f same_c] I (F) Q :=
  tv (A := (annL [1004, 4000, 6010] [] [] shT_t2 [(14, ⟨[(6, .bool), (15, (.int .i64))], [], fun _ _ _ vs m I F => match vs with | [.bool y0, .int _ y1] => Inv14 y0 y1 m I F | _ => False, [], []⟩)] [] [] [] [6009] [(6, [0, 1, 2, 3, 5, 6, 7, 4, 8, 9, 10])] [])) (args := [.a (.v (.slice a_a a_n a_c)), .a (.v (.slice b_a b_n b_c)), .a (.v (.func same same_f same_c))]) (own := []) (keep := []) [] Go.Proofs.Tryz.func86 h
def tree_SameExpr.V (a b : Nat → Nat × Obj) (nV : Int → Int → Int → Int → Int → Bs → OA → Nat → Nat → Int → Value) (vb vi : Int → Value) (vs : Bs → Value) (y z aa ab ac : Int) (ad : Bs) (e : OA) (f g : Nat) (ae af ag ah ai aj : Int) (ak : Bs) (h : OA) (i j : Nat) (al : Int) (I : Imm) (F : Heap) (Q : PostQ)  : Prop := ∀ c : Nat, ∀ d : Nat, ∃ (s t u v w : Int) (x : Bs), (Tri P 85 (#[nV y z aa ab ac ad e f g ae]) I ((a c) :: (b d) :: F) fun e1 I1 G1 => e1 = .returned (.agg #[vb s, vb t, vb u, vi v, vb w, vs x]) ∧ List.Perm G1 ((a c) :: (b d) :: F)) ∧ ∃ (k l m n o : Int) (p : Bs), (Tri P 85 (#[nV af ag ah ai aj ak h i j al]) I ((a c) :: (b d) :: F) fun e2 I2 G2 => e2 = .returned (.agg #[vb k, vb l, vb m, vi n, vb o, vs p]) ∧ List.Perm G2 ((a c) :: (b d) :: F)) ∧ ∃ q : Bool, BinRun P .eql 129 (.tmp 6) (.tmp 8) (.agg #[vb s, vb t, vb u, vi v, vb w, vs x]) (.agg #[vb k, vb l, vb m, vi n, vb o, vs p]) q ∧ ((q = true → ∃ (r : Bool), (Tri P 86 (#[.slice e f g, .slice h i j, .func (.func 25) #[] #[]]) I ((a c) :: (b d) :: F) fun e3 I3 G3 => e3 = .returned (.bool r) ∧ List.Perm G3 ((a c) :: (b d) :: F)) ∧ Q (.returned (.bool r)) I (F)) ∧ (q = false → Q (.returned (.bool false)) I (F)))
theorem tree_SameExpr.vc {a_0 a_1 a_2 a_3 a_4 : Int} {a_5 : Bs} {a_6_a : OA} {a_6_n a_6_c : Nat} {a_7 b_0 b_1 b_2 b_3 b_4 : Int} {b_5 : Bs} {b_6_a : OA} {b_6_n b_6_c : Nat} {b_7 : Int} {I : Imm} {F : Heap} {Q : PostQ}  (h : tree_SameExpr.V (fun b => (b, Obj.cells #[.int .u8 a_0, .int .u8 a_1, .int .u8 a_2, .int .i64 a_3, .int .u8 a_4, .string a_5, .slice a_6_a a_6_n a_6_c, .int .i64 a_7] 55 (0, 0))) (fun b => (b, Obj.cells #[.int .u8 b_0, .int .u8 b_1, .int .u8 b_2, .int .i64 b_3, .int .u8 b_4, .string b_5, .slice b_6_a b_6_n b_6_c, .int .i64 b_7] 55 (0, 0))) (fun k o t n f s a l c q => .agg #[.int .u8 k, .int .u8 o, .int .u8 t, .int .i64 n, .int .u8 f, .string s, .slice a l c, .int .i64 q]) (.int .u8) (.int .i64) .string a_0 a_1 a_2 a_3 a_4 a_5 a_6_a a_6_n a_6_c a_7 b_0 b_1 b_2 b_3 b_4 b_5 b_6_a b_6_n b_6_c b_7 I F Q) : Tri P 25 #[.agg #[.int .u8 a_0, .int .u8 a_1, .int .u8 a_2, .int .i64 a_3, .int .u8 a_4, .string a_5, .slice a_6_a a_6_n a_6_c, .int .i64 a_7], .agg #[.int .u8 b_0, .int .u8 b_1, .int .u8 b_2, .int .i64 b_3, .int .u8 b_4, .string b_5, .slice b_6_a b_6_n b_6_c, .int .i64 b_7]] I (F) Q :=
  tv (A := (annL [1004] [] [85, 86] shT_t2 [] [] [] [] [] [] [])) (args := [.a (.v (.agg #[.int .u8 a_0, .int .u8 a_1, .int .u8 a_2, .int .i64 a_3, .int .u8 a_4, .string a_5, .slice a_6_a a_6_n a_6_c, .int .i64 a_7])), .a (.v (.agg #[.int .u8 b_0, .int .u8 b_1, .int .u8 b_2, .int .i64 b_3, .int .u8 b_4, .string b_5, .slice b_6_a b_6_n b_6_c, .int .i64 b_7]))]) (own := []) (keep := []) [85, 86] Go.Proofs.Tryz.func25 h
def tree_caught.V (b : Nat → Nat × Obj) (vi : Int → Value) (i : Fn) (e f : Array Value) (I : Imm) (F : Heap) (Q : PostQ)  : Prop := ∀ a : Nat, TriV P (.func i e f) [] I ((b a) :: F) fun e1 I1 G1 => ((e1 = .returned (.tuple #[]) ∧ ∃ F1 : Heap, List.Perm G1 ((b a) :: F1) ∧ TriD P 89 [.pointer (some ⟨a, 0, none⟩)] .returning I1 ((b a) :: F1) fun e2 u I2 G2 => ∃ v : Value, e2 = .returned v ∧ ∃ (d : Int), ∃ F2 : Heap, List.Perm G2 ((a, Obj.cells #[vi d] 30 (0, 0)) :: F2) ∧ ((settle u = .returning ∧ Q (.returned (vi d)) I2 (F2)) ∨ (∃ ch : List PanicEntry, settle u = .panicking ch ∧ Q (.panicked ch) I2 (F2)))) ∨ (∃ g : List PanicEntry, e1 = .panicked g ∧ ∃ F3 : Heap, List.Perm G1 ((b a) :: F3) ∧ TriD P 89 [.pointer (some ⟨a, 0, none⟩)] (.panicking g) I1 ((b a) :: F3) fun e3 u1 I3 G3 => ∃ v1 : Value, e3 = .returned v1 ∧ ∃ (c : Int), ∃ F4 : Heap, List.Perm G3 ((a, Obj.cells #[vi c] 30 (0, 0)) :: F4) ∧ ((settle u1 = .returning ∧ Q (.returned (vi c)) I3 (F4)) ∨ (∃ h : List PanicEntry, settle u1 = .panicking h ∧ Q (.panicked h) I3 (F4)))))
theorem tree_caught.vc {look : Fn} {look_f look_c : Array Value} {I : Imm} {F : Heap} {Q : PostQ}  (h : tree_caught.V (fun b => (b, Obj.cells #[.int .i64 0] 30 (0, 0))) (.int .i64) look look_f look_c I F Q) : Tri P 29 #[.func look look_f look_c] I (F) Q :=
  tv (A := (annL [] [0] [89] shT_t2 [] [] [] [] [2001] [] [])) (args := [.a (.v (.func look look_f look_c))]) (own := []) (keep := []) [89] Go.Proofs.Tryz.func29 h
end Go.Lx
namespace Go.Lx
open Go.Vc
def wrongP (e : Int) : List PanicEntry := [{ v := .iface 135 (.agg #[.int .i64 e]), recovered := false }]
def Look (b : Bool) (err : Int) (F : Heap) (e : Ending) (I : Imm) (G : Heap) : Prop := e = (if b then .returned (.tuple #[]) else .panicked (wrongP err)) ∧ G = F
theorem must_spec (b : Bool) (err : Int) (I : Imm) (F : Heap) : Tri P 32 #[.bool b, .int .i64 err] I F (Look b err F) := by
  refine tree_must.vc ?_
  unfold tree_must.V
  refine ⟨fun h => ⟨?_, rfl⟩, fun h => ⟨?_, rfl⟩⟩
  · rw [if_neg (by simpa using h)]; rfl
  · rw [if_pos (by simpa using h)]
theorem alone_spec (t : Nd) (I : Imm) (F : Heap) : Tri P 85 #[t.v] I F (Ret (.agg #[.int .u8 t.kind, .int .u8 t.oper, .int .u8 t.typ, .int .i64 t.n, .int .u8 t.field, .string t.name]) F) := by
  refine tree_alone.vc ?_
  unfold tree_alone.V
  exact fun b_n b => ⟨rfl, rfl⟩
theorem tliteral_spec (t : Nd) (I : Imm) (F : Heap) : Tri P 101 #[t.v] I F (Ret (.bool t.px.litB) F) := by
  refine tree_literal.vc ?_
  unfold tree_literal.V
  intro b_n
  unfold Px.litB
  rw [Nd.px_typ, Nd.px_n]
  have w1 : IntKind.wrap .i64 (0 + 1) = 1 := by decide
  have w2 : IntKind.wrap .i64 (1 + 1) = 2 := by decide
  rw [w1, w2]
  refine ⟨fun h => ⟨fun h' => ⟨?_, rfl⟩, fun h' => ⟨?_, rfl⟩⟩, fun h1 => ⟨fun h => ⟨fun h' => ⟨?_, rfl⟩, fun h' => ⟨?_, rfl⟩⟩, fun h2 => ⟨fun h => ⟨?_, rfl⟩, fun h3 => ⟨fun h => ⟨?_, rfl⟩, fun h4 => ⟨fun h => ⟨?_, rfl⟩, fun h5 => ⟨fun h => ⟨?_, rfl⟩, fun h6 => ⟨?_, rfl⟩⟩⟩⟩⟩⟩⟩
  · have h : t.typ = 6 := by simpa using h
    have h' : t.n = 1 := by simpa using h'
    simp [h, h']
  · have h : t.typ = 6 := by simpa using h
    have h' : t.n ≠ 1 := by simpa using h'
    congr 2; rw [if_pos h, Bool.eq_iff_iff]; simp [h']
  · have h : t.typ = 5 := by simpa using h
    have h' : t.n = 0 := by simpa using h'
    simp [h, h']
  · have h : t.typ = 5 := by simpa using h
    have h' : t.n ≠ 0 := by simpa using h'
    congr 2; rw [if_neg (by omega), if_pos h, Bool.eq_iff_iff]; simp [h']
  · have h : t.typ = 1 := by simpa using h
    simp [h]
  · have h : t.typ = 2 := by simpa using h
    simp [h]
  · have h : t.typ = 3 := by simpa using h
    simp [h]
  · have h : t.typ = 4 := by simpa using h
    simp [h]
  · have e6 : t.typ ≠ 6 := by simpa using h1
    have e5 : t.typ ≠ 5 := by simpa using h2
    have e1 : t.typ ≠ 1 := by simpa using h3
    have e2 : t.typ ≠ 2 := by simpa using h4
    have e3 : t.typ ≠ 3 := by simpa using h5
    have e4 : t.typ ≠ 4 := by simpa using h6
    rw [if_neg e6, if_neg e5, if_neg (by omega)]
theorem tlevel_spec (t : Nd) (I : Imm) (F : Heap) : Tri P 78 #[t.v] I F (Ret (.int .i64 t.px.level) F) := by
  refine tree_level.vc ?_
  unfold tree_level.V
  intro b_n
  unfold Px.level
  rw [Nd.px_kind, Nd.px_oper]
  refine ⟨fun h => ⟨?_, rfl⟩, fun h1 => ⟨fun h => ⟨?_, rfl⟩, fun h2 => ⟨fun h => ⟨fun h' => ⟨?_, rfl⟩, fun h3 => ⟨fun h' => ⟨?_, rfl⟩, fun h4 => ⟨fun h' => ⟨?_, rfl⟩, fun h5 => ⟨fun h' => ⟨?_, rfl⟩, fun h6 => ⟨?_, rfl⟩⟩⟩⟩⟩, fun h => ⟨?_, rfl⟩⟩⟩⟩
  all_goals (try simp only [decide_eq_true_eq, decide_eq_false_iff_not, beq_iff_eq, beq_eq_false_iff_ne] at *)
  all_goals (congr 2; (repeat' split) <;> first | rfl | omega)
theorem bare_under : P.underlying 129 = some (.struct (P.fieldsOf 129)) := by kernel_rfl
theorem bare_stood : P.stoodInHeld 129 = false := by kernel_rfl
theorem bare_guard : P.eqGuardType P.depth 129 = false := by kernel_rfl
def bEq (k o ty n f : Int) (s : ByteArray) (k' o' ty' n' f' : Int) (s' : ByteArray) : Bool := k == k' && (o == o' && (ty == ty' && (n == n' && (f == f' && (s.toList == s'.toList && true)))))
theorem bare_flat (k o ty n f : Int) (s : ByteArray) (k' o' ty' n' f' : Int) (s' : ByteArray) :
    flatEq P #[.int .u8 k, .int .u8 o, .int .u8 ty, .int .i64 n, .int .u8 f, .string s] #[.int .u8 k', .int .u8 o', .int .u8 ty', .int .i64 n', .int .u8 f', .string s'] (P.fieldsOf 129).toList = some (bEq k o ty n f s k' o' ty' n' f' s') := by kernel_rfl
theorem bare_eql (k o ty n f : Int) (s : ByteArray) (k' o' ty' n' f' : Int) (s' : ByteArray) {x y : Operand} :
    BinRun P .eql 129 x y (.agg #[.int .u8 k, .int .u8 o, .int .u8 ty, .int .i64 n, .int .u8 f, .string s]) (.agg #[.int .u8 k', .int .u8 o', .int .u8 ty', .int .i64 n', .int .u8 f', .string s']) (bEq k o ty n f s k' o' ty' n' f' s') :=
  struct_eql bare_under bare_stood bare_guard (bare_flat ..)
end Go.Lx
namespace Go.Lx
open Go.Vc
theorem Look.use {Pr : Program} {f : FuncId} {args : Array Value} {I : Imm} {F : Heap} {b : Bool} {err : Int} {Q : Ending → Imm → Heap → Prop} (h : Tri Pr f args I F (Look b err F))
    (k1 : b = true → ∀ I', Imm.le I I' → Q (.returned (.tuple #[])) I' F) (k2 : b = false → ∀ I', Imm.le I I' → Q (.panicked (wrongP err)) I' F) : Tri Pr f args I F Q :=
  h.mono fun e I' G hl ⟨he, hG⟩ => by
    subst hG
    cases hb : b with
    | true => rw [hb] at he; subst he; exact k1 hb I' hl
    | false => rw [hb] at he; subst he; exact k2 hb I' hl
def wantB (t : Nd) (kids : Int) (is : Bool) (k o ty n f : Int) (s : ByteArray) : Bool := is && (bEq k o ty n f s t.kind t.oper t.typ t.n t.field t.name && decide (t.kids.length = kids.toNat))
theorem node_spec : ∀ (t : Nd), t.px.size ≤ 1048576 → ∀ (I : Imm) (F : Heap), NdOk I F t → Tri P 77 #[t.v] I F (Look t.px.formed 120 F) := by
  refine Nd.ind fun t ih hs I F ht => ?_
  have hln := size_len hs
  refine tree_node.vc (fun kids is k o ty n f s I' F' => wantB t kids is k o ty n f s = t.px.oneB ∧ 0 ≤ kids ∧ F' = F)
    (fun i m I' F' => 0 ≤ i ∧ i ≤ t.kids.length ∧ m = (t.kids.length - i).toNat ∧ t.px.formed = Px.formedL ((t.kids.drop i.toNat).map Nd.px) ∧ F' = F) ?_
  unfold tree_node.V
  intro b_n b_want
  refine ⟨?_, fun kids is k o ty n f s I3 F3 hI3 ⟨hw, hk0, hF⟩ => ?_⟩
  · unfold wantB bEq Px.oneB Px.fitB Px.zeroB Px.arity
    simp only [Nd.px_kind, Nd.px_oper, Nd.px_typ, Nd.px_n, Nd.px_field, Nd.px_name, Nd.px_len]
    have zb : ∀ x : Int, (0 == x) = (x == 0) := fun x => by rw [Bool.eq_iff_iff]; simp only [beq_iff_eq]; omega
    have sb : ∀ s : ByteArray, ((⟨#[]⟩ : ByteArray).toList == s.toList) = (s.toList == []) := fun s => by rw [empty_list, Bool.eq_iff_iff]; simp only [beq_iff_eq]; exact eq_comm
    refine ⟨fun h => Tri.ret (tliteral_spec t I _) fun I1 hI1 => ⟨_, rfl, F, .refl _, ?_, Int.le_refl 0, rfl⟩, fun h1 => ⟨fun h => Tri.ret (Name_spec (t := t.name) I _) fun I1 hI1 => ⟨_, rfl, F, .refl _, ?_, Int.le_refl 0, rfl⟩,
      fun h2 => ⟨fun h => ⟨fun h' => ⟨fun h'' => ⟨?_, by decide, by trivial⟩, fun h'' => ⟨fun h3' => ⟨?_, by decide, by trivial⟩, fun h3' => ⟨?_, by decide, by trivial⟩⟩⟩, fun h' => ⟨?_, by decide, by trivial⟩⟩,
      fun h3 => ⟨fun h => ⟨fun h' => ⟨fun h'' => ⟨?_, by decide, by trivial⟩, fun h'' => ⟨fun h3' => ⟨?_, by decide, by trivial⟩, fun h3' => ⟨?_, by decide, by trivial⟩⟩⟩, fun h' => ⟨?_, by decide, by trivial⟩⟩,
      fun h4 => ⟨fun h => ⟨fun h' => ⟨?_, by decide, by trivial⟩, fun h' => ⟨?_, by decide, by trivial⟩⟩,
      fun h5 => ⟨fun h => ⟨fun h' => ⟨?_, by decide, by trivial⟩, fun h' => ⟨?_, by decide, by trivial⟩⟩,
      fun h6 => ⟨fun h => ⟨?_, by decide, by trivial⟩,
      fun h7 => ⟨fun h => ⟨fun h' => ⟨fun h'' => ⟨?_, by decide, by trivial⟩, fun h'' => ⟨?_, by decide, by trivial⟩⟩, fun h' => ⟨fun h'' => ⟨?_, by decide, by trivial⟩, fun h'' => ⟨?_, by decide, by trivial⟩⟩⟩,
      fun h8 => ⟨fun h => ⟨fun h' => ⟨?_, by decide, by trivial⟩, fun h' => ⟨?_, by decide, by trivial⟩⟩,
      fun h9 => ⟨?_, by decide, by trivial⟩⟩⟩⟩⟩⟩⟩⟩⟩⟩
    all_goals first
      | (simp only [beq_iff_eq] at h
         try simp only [decide_eq_true_eq, decide_eq_false_iff_not, beq_iff_eq, beq_eq_false_iff_ne] at h'
         try simp only [decide_eq_true_eq, decide_eq_false_iff_not, beq_iff_eq, beq_eq_false_iff_ne] at h''
         try simp only [decide_eq_true_eq, decide_eq_false_iff_not, beq_iff_eq, beq_eq_false_iff_ne] at h3'
         simp [*, Bool.and_assoc]
         done)
      | (exfalso
         simp only [decide_eq_true_eq, decide_eq_false_iff_not, beq_iff_eq, beq_eq_false_iff_ne] at *
         omega)
      | skip
    · have h : t.kind = 3 := by simpa using h
      have h' := of_decide_eq_true h'
      have h'' := of_decide_eq_true h''
      have : decide (1 ≤ t.field ∧ t.field ≤ 6) = true := decide_eq_true (by omega)
      simp [h, this, zb, sb, Bool.and_assoc]
    · have h : t.kind = 5 := by simpa using h
      have h' : t.oper ≠ 1 := by simpa using h'
      have : decide (t.oper = 1 ∨ t.oper = 2) = (t.oper == 2) := by rw [Bool.eq_iff_iff]; simp [h']
      simp [h, this, zb, sb, Bool.and_assoc]
    · have e1 : t.kind ≠ 1 := by simpa using h1
      have e2 : t.kind ≠ 2 := by simpa using h2
      have e3 : t.kind ≠ 3 := by simpa using h3
      have e4 : t.kind ≠ 4 := by simpa using h4
      have e5 : t.kind ≠ 5 := by simpa using h5
      have e6 : t.kind ≠ 6 := by simpa using h6
      have e7 : t.kind ≠ 7 := by simpa using h7
      have e8 : t.kind ≠ 8 := by simpa using h8
      have e9 : t.kind ≠ 9 := by simpa using h9
      simp [e1, e2, e3, e4, e5, e6, e7, e8, e9]
  · subst hF
    refine ⟨fun his => ⟨_, _, _, _, _, _, (alone_spec t I3 _).perm', _, bare_eql k o ty n f s t.kind t.oper t.typ t.n t.field t.name, fun hq => Look.use (must_spec _ 120 I3 _) (fun hb I5 hI5 => .inl ⟨rfl, F3, .refl _, ?_⟩) (fun hb I5 hI5 => .inr ⟨_, rfl, F3, .refl _, ?_, rfl⟩),
      fun hq => Look.use (must_spec _ 120 I3 _) (fun hb I5 hI5 => by cases hb) (fun hb I5 hI5 => .inr ⟨_, rfl, F3, .refl _, ?_, rfl⟩)⟩,
      fun his => Look.use (must_spec _ 120 I3 _) (fun hb I5 hI5 => by cases hb) (fun hb I5 hI5 => .inr ⟨_, rfl, F3, .refl _, ?_, rfl⟩)⟩
    · have hone : t.px.oneB = true := by
        rw [← hw, wantB, his, hq, Bool.true_and, Bool.true_and, decide_eq_true_iff]
        have : (t.kids.length : Int) = kids := by simpa using hb
        omega
      refine ⟨⟨_, by omega, by omega, rfl, by rw [Px.formed_eq, hone, Nd.px_kids]; rfl, rfl⟩, fun x m I6 F5 hI6 ⟨g0, g1, gm, gf, gF⟩ => ⟨fun hlt => ?_, fun hlt => ⟨?_, gF⟩⟩⟩
      · have hlt := of_decide_eq_true hlt
        subst gF
        have ht1 : NdOk I6 ((b_n, .cells t.enc.toArray 55 (0, 0)) :: (b_want, .cells #[.int .u8 k, .int .u8 o, .int .u8 ty, .int .i64 n, .int .u8 f, .string s] 129 (0, 0)) :: F5) t := (ht.mono (Imm.le_trans hI3 (Imm.le_trans hI5 hI6)) fun _ h => h).cons.cons
        obtain ⟨ad, y, had, hy, hrd, hyo, hym⟩ := ht1.kids.at g0 hlt
        refine ⟨⟨g0, hlt⟩, ad, had, _, _, _, _, _, _, _, _, _, _, hrd, fun b_k => Look.use (ih y hym (size_kid hym hs) I6 _ (hyo.mono (Imm.le_refl _) fun z hz => by
            rcases List.mem_cons.1 hz with hz | hz
            · exact hz ▸ List.mem_cons_self ..
            · rcases List.mem_cons.1 hz with hz | hz
              · exact List.mem_cons_of_mem _ (hz ▸ List.mem_cons_self ..)
              · exact List.mem_cons_of_mem _ (List.mem_cons_of_mem _ (List.mem_cons_of_mem _ hz))))
          (fun hb2 I7 hI7 => .inl ⟨rfl, F5, .refl _, (t.kids.length - (x + 1)).toNat, by omega, ?_⟩) (fun hb2 I7 hI7 => .inr ⟨_, rfl, F5, .refl _, ?_, rfl⟩)⟩
        · rw [w64 (n := x + 1) (by omega)]
          refine ⟨by omega, by omega, rfl, ?_, rfl⟩
          rw [gf, drop_map hy, Px.formedL, hb2, show (x + 1).toNat = x.toNat + 1 by omega]; rfl
        · rw [gf, drop_map hy, Px.formedL, hb2]; rfl
      · have hlt := of_decide_eq_false hlt
        rw [gf, drop_end (by omega), Px.formedL]; rfl
    · have hone : t.px.oneB = false := by
        rw [← hw, wantB, decide_eq_false (fun e => by
          have : (t.kids.length : Int) = kids := by omega
          rw [this] at hb; simp at hb)]; simp
      rw [Px.formed_eq, hone]; rfl
    · have hone : t.px.oneB = false := by rw [← hw, wantB, hq]; simp
      rw [Px.formed_eq, hone]; rfl
    · have hone : t.px.oneB = false := by rw [← hw, wantB, his]; rfl
      rw [Px.formed_eq, hone]; rfl
end Go.Lx
namespace Go.Lx
open Go.Vc
theorem level_cases (x : Px) : (x.kind = 7 ∧ x.level = 1) ∨ (x.kind = 5 ∧ x.level = 7) ∨ (x.kind = 6 ∧ 2 ≤ x.level ∧ x.level ≤ 6) ∨ (x.kind ≠ 5 ∧ x.kind ≠ 6 ∧ x.kind ≠ 7 ∧ x.level = 8) := by
  unfold Px.level; (repeat' split) <;> omega
theorem place_spec (t : Nd) (i : Int) (h0 : 0 ≤ i) (h1 : i ≤ 1048576) (I : Imm) (F : Heap) : Tri P 102 #[t.v, .int .i64 i] I F (Ret (.int .i64 (t.px.asks i)) F) := by
  refine tree_place.vc ?_
  unfold tree_place.V
  intro b_n
  have hc := level_cases t.px
  refine Tri.ret (tlevel_spec t I _) fun I1 hI1 => ⟨_, rfl, F, .refl _, ?_⟩
  unfold Px.asks
  rw [Nd.px_kind] at hc ⊢
  refine ⟨fun h => ⟨fun h' => ⟨?_, rfl⟩, fun h' => ⟨fun h2 => ⟨?_, rfl⟩, fun h2 => ⟨fun h3 => ⟨?_, rfl⟩, fun h3 => ⟨fun h4 => ⟨?_, rfl⟩, fun h4 => ⟨fun h5 => ⟨?_, rfl⟩, fun h5 => ⟨?_, rfl⟩⟩⟩⟩⟩⟩,
    fun h => ⟨fun h2 => ⟨?_, rfl⟩, fun h2 => ⟨fun h3 => ⟨?_, rfl⟩, fun h3 => ⟨fun h4 => ⟨?_, rfl⟩, fun h4 => ⟨fun h5 => ⟨?_, rfl⟩, fun h5 => ⟨?_, rfl⟩⟩⟩⟩⟩⟩
  all_goals (try simp only [decide_eq_true_eq, decide_eq_false_iff_not, beq_iff_eq, beq_eq_false_iff_ne] at *)
  all_goals (congr 2; (repeat' split) <;> first | rfl | omega | (rw [w64 (by omega)]))
theorem tdepth_spec : ∀ (t : Nd), t.px.size ≤ 1048576 → t.px.formed = true → ∀ (I : Imm) (F : Heap), NdOk I F t → Tri P 80 #[t.v] I F (Ret (.int .i64 t.px.depth) F) := by
  refine Nd.ind fun t ih hs hf I F ht => ?_
  have hln := size_len hs
  refine tree_depth.vc (fun most i m I' F' => 0 ≤ i ∧ i ≤ t.kids.length ∧ m = (t.kids.length - i).toNat ∧ 0 ≤ most ∧ most ≤ 4194304 ∧ t.px.depth = Px.depthL t.px i ((t.kids.drop i.toNat).map Nd.px) most ∧ F' = F) ?_
  unfold tree_depth.V
  intro b_n
  refine ⟨⟨_, by omega, by omega, rfl, by omega, by omega, ?_, rfl⟩, fun most i m I1 F1 hI ⟨g0, g1, gm, g2, g3, gf, gF⟩ => ⟨fun hlt => ?_, fun hlt => ⟨?_, gF⟩⟩⟩
  · rw [Px.depth_eq, Nd.px_kids]; rfl
  · have hlt := of_decide_eq_true hlt
    subst gF
    have ht1 : NdOk I1 ((b_n, .cells t.enc.toArray 55 (0, 0)) :: F1) t := (ht.mono hI fun _ h => h).cons
    obtain ⟨ad, x, had, hx, hrd, hxo, hxm⟩ := ht1.kids.at g0 hlt
    have hxp : x.px ∈ t.px.kids := by rw [Nd.px_kids]; exact List.mem_map_of_mem hxm
    have hkd := Px.formed_kind hf (fun e => by rw [e] at hxp; cases hxp)
    rw [Nd.px_kind] at hkd
    have hdr := depth_range x.px
    have hsz := size_kid hxm hs
    have hxo2 : ∀ b_k : Nat, NdOk I1 ((b_n, .cells t.enc.toArray 55 (0, 0)) :: (b_k, .cells x.enc.toArray 55 (0, 0)) :: F1) x := fun b_k => hxo.mono (Imm.le_refl _) fun z hz => by
      rcases List.mem_cons.1 hz with hz | hz
      · exact hz ▸ List.mem_cons_self ..
      · exact List.mem_cons_of_mem _ (List.mem_cons_of_mem _ hz)
    refine ⟨⟨g0, hlt⟩, ad, had, _, _, _, _, _, _, _, _, _, _, hrd, fun b_k => Tri.ret (ih x hxm hsz (Px.formed_kid hf _ hxp) I1 _ (hxo2 b_k)) fun I2 hI2 => ⟨_, rfl, F1, .refl _,
      _, (tlevel_spec x I2 _).perm', _, (place_spec t i g0 (by omega) I2 _).perm', ?_⟩⟩
    have key : ∀ D : Int, D = x.px.depth + t.px.adds x.px i →
        (∃ m2 : Nat, m2 < m ∧ (0 ≤ IntKind.wrap .i64 (i + 1) ∧ IntKind.wrap .i64 (i + 1) ≤ t.kids.length ∧ m2 = (t.kids.length - IntKind.wrap .i64 (i + 1)).toNat ∧ 0 ≤ (if D > most then D else most) ∧ (if D > most then D else most) ≤ 4194304 ∧
          t.px.depth = Px.depthL t.px (IntKind.wrap .i64 (i + 1)) ((t.kids.drop (IntKind.wrap .i64 (i + 1)).toNat).map Nd.px) (if D > most then D else most) ∧ F1 = F1)) := by
      intro D hD
      have har := adds_range t.px x.px i
      rw [w64 (n := i + 1) (by omega)]
      rw [drop_map hx, Px.depthL, ← hD] at gf
      have hmx : (if D > most then D else most) = max most D := by split <;> omega
      rw [hmx]
      refine ⟨(t.kids.length - (i + 1)).toNat, by omega, by omega, by omega, rfl, by omega, by omega, ?_, rfl⟩
      rw [gf, show (i + 1).toNat = i.toNat + 1 by omega]
    have e1 : IntKind.wrap .i64 (x.px.depth + 1) = x.px.depth + 1 := w64 (by omega)
    have e2 : IntKind.wrap .i64 (x.px.depth + 1 + 1) = x.px.depth + 1 + 1 := w64 (by omega)
    have em : (if 1 < i then 1 else i) = if 0 < i then (1 : Int) else 0 := by (repeat' split) <;> omega
    have e3 : IntKind.wrap .i64 (x.px.depth + (if 1 < i then 1 else i)) = x.px.depth + (if 1 < i then 1 else i) := w64 (by (repeat' split) <;> omega)
    have e4 : IntKind.wrap .i64 (x.px.depth + 1 + (if 1 < i then 1 else i)) = x.px.depth + 1 + (if 1 < i then 1 else i) := w64 (by (repeat' split) <;> omega)
    rw [e1, e2, e3, e4]
    unfold Px.adds at key
    rw [Nd.px_kind] at key
    refine ⟨fun hb => ⟨fun h => key _ ?_, fun h1 => ⟨fun h => key _ ?_, fun h2 => key _ ?_⟩⟩, fun hb => ⟨fun h => key _ ?_, fun h1 => ⟨fun h => key _ ?_, fun h2 => key _ ?_⟩⟩⟩
    all_goals clear key gf
    all_goals (simp only [decide_eq_true_eq, decide_eq_false_iff_not, beq_iff_eq, beq_eq_false_iff_ne] at *)
    all_goals ((repeat' split) <;> omega)
  · have hlt := of_decide_eq_false hlt
    rw [gf, drop_end (by omega), Px.depthL]
theorem expr_spec (t : Nd) (hs : t.px.size ≤ 1048576) (I : Imm) (F : Heap) (ht : NdOk I F t) : Tri P 83 #[t.v] I F fun e I' G => e = (if t.px.checkE = 0 then .returned (.tuple #[]) else .panicked (wrongP t.px.checkE)) ∧ G = F := by
  refine tree_expr.vc ?_
  unfold tree_expr.V
  intro b_n
  unfold Px.checkE
  refine Look.use (node_spec t hs I _ ht.cons) (fun hb I1 hI1 => .inl ⟨rfl, F, .refl _, Tri.ret (tdepth_spec t hs hb I1 _ (ht.mono hI1 fun _ h => h).cons) fun I2 hI2 => ⟨_, rfl, F, .refl _,
    Look.use (must_spec _ 122 I2 _) (fun h2 I3 hI3 => .inl ⟨rfl, F, .refl _, ?_, rfl⟩) (fun h2 I3 hI3 => .inr ⟨_, rfl, F, .refl _, ?_, rfl⟩)⟩⟩) (fun hb I1 hI1 => .inr ⟨_, rfl, F, .refl _, ?_, rfl⟩)
  · have h2 := of_decide_eq_true h2
    rw [if_pos hb, show (if 24 < t.px.depth then (122 : Int) else 0) = 0 from if_neg (by omega)]; rfl
  · have h2 := of_decide_eq_false h2
    rw [if_pos hb, show (if 24 < t.px.depth then (122 : Int) else 0) = 122 from if_pos (by omega)]; rfl
  · rw [hb]; rfl
end Go.Lx
namespace Go.Lx
open Go.Vc
theorem check1_spec {t : Nd} (hs : t.px.size ≤ 1048576) {I : Imm} {F : Heap} (ht : NdOk I F t) {c : Addr} (hc : Rd I F c t.enc) :
    Tri P 82 #[.pointer (some c)] I F fun e I' G => e = (if t.px.checkE = 0 then .returned (.tuple #[]) else .panicked (wrongP t.px.checkE)) ∧ G = F := by
  refine tree_CheckExpr_1.vc ?_
  unfold tree_CheckExpr_1.V
  refine ⟨_, _, _, _, _, _, _, _, _, _, hc, (expr_spec t hs I F ht).mono fun e I1 G hl ⟨he, hG⟩ => ?_⟩
  subst hG
  by_cases h : t.px.checkE = 0
  · rw [if_pos h] at he
    exact .inl ⟨he, G, .refl _, by rw [if_pos h], rfl⟩
  · rw [if_neg h] at he
    exact .inr ⟨_, he, G, .refl _, by rw [if_neg h], rfl⟩
theorem level1_spec {t : Nd} (hs : t.px.size ≤ 1048576) {I : Imm} {F : Heap} (ht : NdOk I F t) {c : Addr} (hc : Rd I F c t.enc) : Tri P 76 #[.pointer (some c)] I F (Look t.px.formed 120 F) := by
  refine tree_Level_1.vc ?_
  unfold tree_Level_1.V
  exact ⟨_, _, _, _, _, _, _, _, _, _, hc, Look.use (node_spec t hs I F ht) (fun hb I1 hI1 => .inl ⟨rfl, F, .refl _, by rw [hb]; rfl, rfl⟩) (fun hb I1 hI1 => .inr ⟨_, rfl, F, .refl _, by rw [hb]; rfl, rfl⟩)⟩
theorem depth1_spec {t : Nd} (hs : t.px.size ≤ 1048576) {I : Imm} {F : Heap} (ht : NdOk I F t) {c : Addr} (hc : Rd I F c t.enc) : Tri P 79 #[.pointer (some c)] I F (Look t.px.formed 120 F) := by
  refine tree_Depth_1.vc ?_
  unfold tree_Depth_1.V
  exact ⟨_, _, _, _, _, _, _, _, _, _, hc, Look.use (node_spec t hs I F ht) (fun hb I1 hI1 => .inl ⟨rfl, F, .refl _, by rw [hb]; rfl, rfl⟩) (fun hb I1 hI1 => .inr ⟨_, rfl, F, .refl _, by rw [hb]; rfl, rfl⟩)⟩
end Go.Lx
namespace Go.Lx
open Go.Vc
theorem _root_.Go.Vc.TriV.of {P : Program} {f : FuncId} {args : List Value} {I : Imm} {F : Heap} {Q : Ending → Imm → Heap → Prop} (he : Enters P f) (h : Tri P f args.toArray I F Q) : TriV P (.func (.func f) #[] #[]) args I F Q :=
  fun w hw => .inl ⟨f, #[], #[], rfl, he, by rw [show (#[] : Array Value) ++ args.toArray ++ #[] = args.toArray by simp]; exact h w hw⟩
theorem enters_same : Enters P 25 := hP_of [25] (by kernel_rfl) _ (by decide)
theorem sameExpr_spec' : ∀ (t : Nd), t.px.size ≤ 1048577 → ∀ (u : Nd) (I : Imm) (F : Heap), NdOk I F t → NdOk I F u → Tri P 25 #[t.v, u.v] I F (Ret (.bool (t.px.like u.px)) F) := by
  refine Nd.ind fun t ih hs u I F ht hu => ?_
  have hln := size_len hs
  refine tree_SameExpr.vc ?_
  unfold tree_SameExpr.V
  intro b_a b_b
  have hal : bEq t.kind t.oper t.typ t.n t.field t.name u.kind u.oper u.typ u.n u.field u.name = t.px.aloneEq u.px := by
    unfold Px.aloneEq bEq
    rw [Nd.px_kind, Nd.px_kind, Nd.px_oper, Nd.px_oper, Nd.px_typ, Nd.px_typ, Nd.px_n, Nd.px_n, Nd.px_field, Nd.px_field, Nd.px_name, Nd.px_name]
  refine ⟨_, _, _, _, _, _, (alone_spec t I _).perm', _, _, _, _, _, _, (alone_spec u I _).perm', _, bare_eql t.kind t.oper t.typ t.n t.field t.name u.kind u.oper u.typ u.n u.field u.name, fun hq => ?_, fun hq => ⟨?_, rfl⟩⟩
  · rw [hal] at hq
    refine ⟨t.px.like u.px, ?_, rfl, rfl⟩
    refine Tri.perm' ?_
    have hb : Tri P 86 #[.slice t.a t.kids.length t.c, .slice u.a u.kids.length u.c, .func (.func 25) #[] #[]] I ((b_a, .cells t.enc.toArray 55 (0, 0)) :: (b_b, .cells u.enc.toArray 55 (0, 0)) :: F)
        (Ret (.bool (t.px.like u.px)) ((b_a, .cells t.enc.toArray 55 (0, 0)) :: (b_b, .cells u.enc.toArray 55 (0, 0)) :: F)) := by
      generalize hX : ((b_a, Obj.cells t.enc.toArray 55 (0, 0)) :: (b_b, Obj.cells u.enc.toArray 55 (0, 0)) :: F) = X
      have htX : NdOk I X t := by rw [← hX]; exact ht.cons.cons
      have huX : NdOk I X u := by rw [← hX]; exact hu.cons.cons
      refine tree_both.vc (fun x i m I' F' => 0 ≤ i ∧ i ≤ t.kids.length ∧ m = (t.kids.length - i).toNat ∧ Px.likeL (t.kids.map Nd.px) (u.kids.map Nd.px) = Px.likeL ((t.kids.drop i.toNat).map Nd.px) ((u.kids.drop i.toNat).map Nd.px) ∧ F' = X) ?_
      unfold tree_both.V
      rw [Px.like_eq, hq, Nd.px_kids, Nd.px_kids, List.length_map, List.length_map, Bool.true_and]
      refine ⟨fun h => ⟨?_, rfl⟩, fun h => ⟨⟨_, by omega, by omega, rfl, rfl, rfl⟩, fun x i m I1 F1 hI ⟨g0, g1, gm, gl, gF⟩ => ?_⟩⟩
      · rw [decide_eq_false (show ¬ t.kids.length = u.kids.length from fun e => by rw [e] at h; simp at h)]; rfl
      have hlen : t.kids.length = u.kids.length := by
        have : (t.kids.length : Int) = u.kids.length := by simpa using h
        omega
      rw [decide_eq_true hlen, Bool.true_and]
      subst gF
      refine ⟨fun hlt => ?_, fun hlt => ⟨?_, rfl⟩⟩
      · have hlt := of_decide_eq_true hlt
        obtain ⟨ad, x, had, hx, hrd, hxo, hxm⟩ := (htX.mono hI fun _ h => h).kids.at g0 hlt
        obtain ⟨ad', y, had', hy, hrd', hyo, hym⟩ := (huX.mono hI fun _ h => h).kids.at g0 (show i < u.kids.length by omega)
        refine ⟨⟨g0, hlt⟩, ad, had, ⟨g0, by omega⟩, ad', had', _, _, _, _, _, _, _, _, _, _, hrd, _, _, _, _, _, _, _, _, _, _, hrd', TriV.of enters_same (Tri.ret (ih x hxm (size_kid hxm hs) y I1 _ hxo hyo) fun I2 hI2 => ⟨_, rfl, F1, .refl _, fun h => ⟨?_, rfl⟩, fun h => ⟨(t.kids.length - (i + 1)).toNat, by omega, ?_⟩⟩)⟩
        · rw [gl, drop_map hx, drop_map hy, Px.likeL, show x.px.like y.px = false by simpa using h]; rfl
        · rw [w64 (n := i + 1) (by omega)]
          refine ⟨by omega, by omega, rfl, ?_, rfl⟩
          rw [gl, drop_map hx, drop_map hy, Px.likeL, show x.px.like y.px = true by simpa using h, show (i + 1).toNat = i.toNat + 1 by omega]; rfl
      · have hlt := of_decide_eq_false hlt
        rw [gl, drop_end (by omega), Px.likeL]
    exact hb
  · rw [hal] at hq
    rw [Px.like_eq, hq]; rfl
theorem sameExpr_spec (t : Nd) (hs : t.px.size ≤ 1048576) (u : Nd) (I : Imm) (F : Heap) (ht : NdOk I F t) (hu : NdOk I F u) : Tri P 25 #[t.v, u.v] I F (Ret (.bool (t.px.like u.px)) F) := sameExpr_spec' t (by omega) u I F ht hu
end Go.Lx
namespace Go.Lx
open Go.Vc
theorem enters_bare : Enters P 24 := hP_of [24] (by kernel_rfl) _ (by decide)
theorem bareExpr_spec : ∀ (t : Nd), t.px.size ≤ 1048576 → ∀ (I : Imm) (F : Heap), NdOk I F t → Tri P 24 #[t.v] I F (Made 55 false t.px.bare F) := by
  refine Nd.ind fun t ih hs I F ht => ?_
  have hln := size_len hs
  refine tree_BareExpr.vc ?_
  unfold tree_BareExpr.V
  intro b_n b
  generalize hX : ((b_n, Obj.cells #[.int .u8 t.kind, .int .u8 t.oper, .int .u8 t.typ, .int .i64 t.n, .int .u8 t.field, .string t.name, .slice t.a t.kids.length t.c, .int .i64 0] 55 (0, 0)) ::
    (b, Obj.cells #[.int .u8 0, .int .u8 0, .int .u8 0, .int .i64 0, .int .u8 0, .string ⟨#[]⟩, .slice none 0 0, .int .i64 0] 55 (0, 0)) :: F) = X
  have htX : NdOk I X t := by rw [← hX]; exact ht.cons.cons
  have he : Tri P 84 #[.slice t.a t.kids.length t.c, .func (.func 24) #[] #[]] I X fun e I' G => ∃ (a : Option Addr) (n c : Nat) (ks : List Nd) (A : Heap) (hs : Nat → Heap), e = .returned (.slice a n c) ∧ Acc 8 Nd.enc 55 a n c ks A ∧
      ks.map Nd.px = (t.kids.map Nd.px).map Px.bare ∧ (∀ (j : Nat) (k : Nd), ks[j]? = some k → OwnT 55 false k (hs j)) ∧ G.Perm (A ++ (flatH ks.length hs ++ X)) := by
    refine tree_each.vc (fun a n c i m I' F' => 0 ≤ i ∧ i ≤ t.kids.length ∧ m = (t.kids.length - i).toNat ∧ ∃ (ks : List Nd) (A : Heap) (hs : Nat → Heap), Acc 8 Nd.enc 55 a n c ks A ∧
      ks.map Nd.px = ((t.kids.take i.toNat).map Nd.px).map Px.bare ∧ (∀ (j : Nat) (k : Nd), ks[j]? = some k → OwnT 55 false k (hs j)) ∧ F'.Perm (A ++ (flatH ks.length hs ++ X)) ∧ (ks.length : Int) = i) ?_
    unfold tree_each.V
    refine ⟨⟨_, by omega, by omega, rfl, [], [], fun _ => [], Acc.nil, by simp, fun j k h => by simp at h, .refl _, rfl⟩, fun a n c i m I1 F1 hI ⟨g0, g1, gm, ks, A, hh, hA, hp, hk, hF, hl⟩ => ⟨fun hlt => ?_, fun hlt => ?_⟩⟩
    · have hlt := of_decide_eq_true hlt
      have ht1 : NdOk I1 F1 t := htX.mono hI fun x hx => hF.mem_iff.2 (List.mem_append_right _ (List.mem_append_right _ hx))
      obtain ⟨ad, x, had, hx, hrd, hxo, hxm⟩ := ht1.kids.at g0 hlt
      refine ⟨⟨g0, hlt⟩, ad, had, _, _, _, _, _, _, _, _, _, _, hrd, fun b_x => TriV.of enters_bare ((ih x hxm (size_kid hxm hs) I1 _ hxo.cons).mono fun e I2 G hI2 ⟨t', H, he, hpx, hO, hG⟩ => ?_)⟩
      subst he
      refine ⟨_, _, _, _, _, _, _, _, _, _, rfl, H ++ F1, hG.trans (perm_of fun x => by simp only [cn_app, cn_cons]; omega), fun b1 I3 hI3 hb1 => ?_⟩
      refine TriE.perm (TriE.mono (append_spec' (f := Nd.enc) (z := 8) (zv := zNd.v) Nd.enc_len (by' := 72) (by kernel_rfl) (by kernel_rfl) rfl (by decide) hA (xs := [t']) (fun x _ => x.enc_one) (by simp) rfl ?_ ?_
        (F := (b_x, .cells #[.int .u8 x.kind, .int .u8 x.oper, .int .u8 x.typ, .int .i64 x.n, .int .u8 x.field, .string x.name, .slice x.a x.kids.length x.c, .int .i64 x.pos] 55 (0, 0)) :: (H ++ (flatH ks.length hh ++ X)))) fun v I4 G hI4 ⟨a', n', c', A', hv, hA', hG', _⟩ => ?_) ?_
      · exact ⟨rfl, _, _, _, .inl hb1, fun j hj => by simp⟩
      · simp only [List.length_cons, List.length_nil]; omega
      · subst hG'
        refine ⟨_, _, _, hv, A' ++ (H ++ (flatH ks.length hh ++ X)), perm_of fun z => by simp only [cn_app, cn_cons]; omega, (t.kids.length - (i + 1)).toNat, by omega, ?_⟩
        rw [w64 (n := i + 1) (by omega)]
        refine ⟨by omega, by omega, rfl, ks ++ [t'], A', fun j => if j < ks.length then hh j else H, hA', ?_, fun j k hj => ?_, ?_, by rw [List.length_append]; simp; omega⟩
        · rw [show (i + 1).toNat = i.toNat + 1 by omega, take_map_snoc hx, List.map_append, hp, List.map_singleton, hpx]
        · show OwnT _ _ k (if j < ks.length then hh j else H)
          rw [List.getElem?_append] at hj
          split at hj
          · rename_i hlt'; rw [if_pos hlt']; exact hk j k hj
          · rename_i hge
            have hj' := List.mem_of_getElem? hj
            rw [List.mem_singleton] at hj'
            rw [if_neg hge, hj']; exact hO
        · rw [List.length_append, List.length_singleton, flatH_last, if_neg (Nat.lt_irrefl _), flatH_congr (hs' := hh) fun j hj => if_pos hj]
          exact perm_of fun x => by simp only [cn_app, cn_cons]; omega
      · exact perm_of fun z => by have := cn_perm hF z; simp only [cn_app, cn_cons] at this ⊢; omega
    · have hlt := of_decide_eq_false hlt
      refine ⟨a, n, c, ks, A, hh, rfl, hA, ?_, hk, hF⟩
      rw [hp, List.take_of_length_le (by omega)]
  refine he.mono fun e I1 G hI ⟨a, n, c, ks, A, hh, he, hA, hp, hk, hG⟩ => ⟨a, n, c, he, A ++ (flatH ks.length hh ++ F), hG.trans ?_, ?_⟩
  · rw [← hX]
    exact perm_of fun x => by simp only [cn_app, cn_cons]; omega
  · have hn := hA.1
    subst hn
    refine ⟨.mk t.kind t.oper t.typ t.n t.field t.name a c ks 0, A ++ flatH ks.length hh, rfl, ?_, .mk (t := .mk t.kind t.oper t.typ t.n t.field t.name a c ks 0) hA (fun h => by cases h) hk, by rw [List.append_assoc]⟩
    rw [Nd.px, Nd.pxs_map, hp, Px.bare_eq, Nd.px_kids, Nd.px_kind, Nd.px_oper, Nd.px_typ, Nd.px_n, Nd.px_field, Nd.px_name]
end Go.Lx
namespace Go.Lx
open Go.Vc
def shT_o1 : List (Nat × List Sh) := [(3, [.one (.int .i64)]), (22, [.one .slc]), (23, [.one .slc]), (24, [.one .slc]), (34, [.one .slc]), (35, [.one .slc]), (36, [.one .slc]), (37, [.one .slc]), (38, [.one .slc]), (39, [.one .slc]), (40, [.one .slc]), (41, [.one .slc]), (42, [.one .slc]), (43, [.one .slc]), (53, [.one .slc]), (65, [.one .slc]), (68, [.one .slc]), (138, [.one .slc]), (143, [.one .slc]), (147, [.one .slc]), (152, [.one .slc])]
def ownG.V0 (vi : Int → Value) (vl : Option Addr → Nat → Nat → Value) (vt : Bool → Value) (wr : Int → Int) (z o E S S1 : Nat) (nw : Int → List Value) (l_a : Option Addr) (l_n l_c : Nat) (I : Imm) (F : Heap) (Q : PostQ) (Inv8 : Int → Nat → Imm → Heap → Imm → Heap → Prop) (Inv20 : Int → Int → Nat → Imm → Heap → Imm → Heap → Prop) (Inv36 : Option Addr → Nat → Nat → Int → Nat → Imm → Heap → Imm → Heap → Prop) (Inv51 : Option Addr → Nat → Nat → Int → Option Addr → Nat → Nat → Int → Nat → Imm → Heap → Imm → Heap → Prop) (Inv68 : Option Addr → Nat → Nat → Bool → Int → Nat → Imm → Heap → Imm → Heap → Prop) (Inv83 : Option Addr → Nat → Nat → Int → Int → Bool → Int → Nat → Imm → Heap → Imm → Heap → Prop) (Inv103 : Option Addr → Nat → Nat → Int → Int → Bool → Int → Nat → Imm → Heap → Imm → Heap → Prop) : Prop := (∃ m : Nat, Inv8 0 m I F I F) ∧ ∀ (i : Int) (m1 : Nat) (I1 : Imm) (F1 : Heap), Imm.le I I1 → Inv8 i m1 I F I1 F1 → ((decide (i < ((l_n : Nat) : Int)) = true → (∃ m2 : Nat, Inv20 i 0 m2 I1 F1 I1 F1) ∧ ∀ (k : Int) (m3 : Nat) (I2 : Imm) (F2 : Heap), Imm.le I1 I2 → Inv20 i k m3 I1 F1 I2 F2 → ((0 ≤ i ∧ i < (l_n : Int)) ∧ ∃ ad : Addr, l_a = some ad ∧ ∃ (m_a : Option Addr) (m_n m_c : Nat), Rd I2 (F2) (ad.add (Int.toNat (i) * 1)) [vl m_a m_n m_c] ∧ ((decide (k < ((m_n : Nat) : Int)) = true → ((0 ≤ i ∧ i < (l_n : Int)) ∧ ∃ ad1 : Addr, l_a = some ad1 ∧ ∃ (m_a1 : Option Addr) (m_n1 m_c1 : Nat), Rd I2 (F2) (ad1.add (Int.toNat (i) * 1)) [vl m_a1 m_n1 m_c1] ∧ ∃ (r : Int), (Tri P 94 (#[vi i, vi k]) I2 (F2) fun e1 I3 G1 => e1 = .returned (vi r) ∧ List.Perm G1 (F2)) ∧ ((0 ≤ k ∧ k < (m_n1 : Int)) ∧ ∃ ad2 : Addr, m_a1 = some ad2 ∧ ∃ (cs : List Value) (el : Nat) (F3 : Heap), List.Perm F2 ((((ad2.add (Int.toNat (k) * z)).add o).block, Obj.cells cs.toArray el (0, 0)) :: F3) ∧ ((ad2.add (Int.toNat (k) * z)).add o).spot = none ∧ ((ad2.add (Int.toNat (k) * z)).add o).off + 1 ≤ cs.length ∧ (∃ m4 : Nat, m4 < m3 ∧ Inv20 i (wr (k + 1)) m4 I1 F1 I2 ((((ad2.add (Int.toNat (k) * z)).add o).block, Obj.cells (splice ((ad2.add (Int.toNat (k) * z)).add o).off [vi r] cs).toArray el (0, 0)) :: F3))))) ∧ (decide (k < ((m_n : Nat) : Int)) = false → (∃ m5 : Nat, m5 < m1 ∧ Inv8 (wr (i + 1)) m5 I F I2 F2))))) ∧ (decide (i < ((l_n : Nat) : Int)) = false → (∃ m6 : Nat, Inv36 none 0 0 0 m6 I1 F1 I1 F1) ∧ ∀ (long_a : Option Addr) (long_n long_c : Nat) (i1 : Int) (m7 : Nat) (I4 : Imm) (F4 : Heap), Imm.le I1 I4 → Inv36 long_a long_n long_c i1 m7 I1 F1 I4 F4 → ((decide (i1 < ((l_n : Nat) : Int)) = true → ((0 ≤ i1 ∧ i1 < (l_n : Int)) ∧ ∃ ad3 : Addr, l_a = some ad3 ∧ ∃ (m_a2 : Option Addr) (m_n2 m_c2 : Nat), Rd I4 (F4) (ad3.add (Int.toNat (i1) * 1)) [vl m_a2 m_n2 m_c2] ∧ (∃ m8 : Nat, Inv51 long_a long_n long_c i1 m_a2 m_n2 m_c2 0 m8 I4 F4 I4 F4) ∧ ∀ (x_a : Option Addr) (x_n x_c : Nat) (k1 : Int) (m9 : Nat) (I5 : Imm) (F5 : Heap), Imm.le I4 I5 → Inv51 long_a long_n long_c i1 x_a x_n x_c k1 m9 I4 F4 I5 F5 → ((decide (k1 < 8) = true → Tri P 95 (#[vi i1, vi k1]) I5 (F5) fun e2 I6 G2 => ∃ (r1 : Int), e2 = .returned (vi r1) ∧ ∃ F6 : Heap, List.Perm G2 (F6) ∧ ∀ (b : Nat) (I7 : Imm), Imm.le I6 I7 → I7 b = some (Obj.cells (nw r1).toArray E (0, 0)) → TriE P (Builtin.append_ #[S, S] S #[vl x_a x_n x_c, vl (some ⟨b, 0, none⟩) 1 1]) I7 (F6) fun v I8 G3 => ∃ (r_a : Option Addr) (r_n r_c : Nat), v = vl r_a r_n r_c ∧ ∃ F7 : Heap, List.Perm G3 (F7) ∧ (∃ m10 : Nat, m10 < m9 ∧ Inv51 long_a long_n long_c i1 r_a r_n r_c (wr (k1 + 1)) m10 I4 F4 I8 F7)) ∧ (decide (k1 < 8) = false → ∀ (b1 : Nat) (I9 : Imm), Imm.le I5 I9 → I9 b1 = some (Obj.cells #[vl x_a x_n x_c] S (0, 0)) → TriE P (Builtin.append_ #[S1, S1] S1 #[vl long_a long_n long_c, vl (some ⟨b1, 0, none⟩) 1 1]) I9 (F5) fun v1 I10 G4 => ∃ (r_a1 : Option Addr) (r_n1 r_c1 : Nat), v1 = vl r_a1 r_n1 r_c1 ∧ ∃ F8 : Heap, List.Perm G4 (F8) ∧ (∃ m11 : Nat, m11 < m7 ∧ Inv36 r_a1 r_n1 r_c1 (wr (i1 + 1)) m11 I1 F1 I10 F8))))) ∧ (decide (i1 < ((l_n : Nat) : Int)) = false → (∃ m12 : Nat, Inv68 long_a long_n long_c false 0 m12 I4 F4 I4 F4) ∧ ∀ (x : Bool) (i2 : Int) (m13 : Nat) (I11 : Imm) (F9 : Heap), Imm.le I4 I11 → Inv68 long_a long_n long_c x i2 m13 I4 F4 I11 F9 → ((decide (i2 < ((l_n : Nat) : Int)) = true → ((0 ≤ i2 ∧ i2 < (l_n : Int)) ∧ ∃ ad4 : Addr, l_a = some ad4 ∧ ∃ (m_a3 : Option Addr) (m_n3 m_c3 : Nat), Rd I11 (F9) (ad4.add (Int.toNat (i2) * 1)) [vl m_a3 m_n3 m_c3] ∧ (∃ m14 : Nat, Inv83 long_a long_n long_c i2 ((m_n3 : Nat) : Int) x 0 m14 I11 F9 I11 F9) ∧ ∀ (x1 : Bool) (k2 : Int) (m15 : Nat) (I12 : Imm) (F10 : Heap), Imm.le I11 I12 → Inv83 long_a long_n long_c i2 ((m_n3 : Nat) : Int) x1 k2 m15 I11 F9 I12 F10 → ((decide (k2 < ((m_n3 : Nat) : Int)) = true → ((0 ≤ i2 ∧ i2 < (l_n : Int)) ∧ ∃ ad5 : Addr, l_a = some ad5 ∧ ∃ (m_a4 : Option Addr) (m_n4 m_c4 : Nat), Rd I12 (F10) (ad5.add (Int.toNat (i2) * 1)) [vl m_a4 m_n4 m_c4] ∧ ((0 ≤ k2 ∧ k2 < (m_n4 : Int)) ∧ ∃ ad6 : Addr, m_a4 = some ad6 ∧ ∃ (m16 : Int), Rd I12 (F10) ((ad6.add (Int.toNat (k2) * z)).add o) [vi m16] ∧ ∃ (r2 : Int), (Tri P 94 (#[vi i2, vi k2]) I12 (F10) fun e3 I13 G5 => e3 = .returned (vi r2) ∧ List.Perm G5 (F10)) ∧ (((m16 != r2) = true → Q (.returned (vt false)) I12 (F10)) ∧ ((m16 != r2) = false → ((0 ≤ i2 ∧ i2 < (long_n : Int)) ∧ ∃ ad7 : Addr, long_a = some ad7 ∧ ∃ (m_a5 : Option Addr) (m_n5 m_c5 : Nat), Rd I12 (F10) (ad7.add (Int.toNat (i2) * 1)) [vl m_a5 m_n5 m_c5] ∧ ((0 ≤ k2 ∧ k2 < (m_n5 : Int)) ∧ ∃ ad8 : Addr, m_a5 = some ad8 ∧ ∃ (m17 : Int), Rd I12 (F10) ((ad8.add (Int.toNat (k2) * z)).add o) [vi m17] ∧ ∃ (r3 : Int), (Tri P 94 (#[vi i2, vi k2]) I12 (F10) fun e4 I14 G6 => e4 = .returned (vi r3) ∧ List.Perm G6 (F10)) ∧ (((m17 != r3) = true → Q (.returned (vt false)) I12 (F10)) ∧ ((m17 != r3) = false → (∃ m18 : Nat, m18 < m15 ∧ Inv83 long_a long_n long_c i2 ((m_n3 : Nat) : Int) x1 (wr (k2 + 1)) m18 I11 F9 I12 F10)))))))))) ∧ (decide (k2 < ((m_n3 : Nat) : Int)) = false → (∃ m19 : Nat, Inv103 long_a long_n long_c i2 ((m_n3 : Nat) : Int) x1 0 m19 I12 F10 I12 F10) ∧ ∀ (x2 : Bool) (k3 : Int) (m20 : Nat) (I15 : Imm) (F11 : Heap), Imm.le I12 I15 → Inv103 long_a long_n long_c i2 ((m_n3 : Nat) : Int) x2 k3 m20 I12 F10 I15 F11 → ((decide (k3 < 8) = true → ((0 ≤ i2 ∧ i2 < (long_n : Int)) ∧ ∃ ad9 : Addr, long_a = some ad9 ∧ ∃ (m_a6 : Option Addr) (m_n6 m_c6 : Nat), Rd I15 (F11) (ad9.add (Int.toNat (i2) * 1)) [vl m_a6 m_n6 m_c6] ∧ ((0 ≤ (wr (((m_n3 : Nat) : Int) + k3)) ∧ (wr (((m_n3 : Nat) : Int) + k3)) < (m_n6 : Int)) ∧ ∃ ad10 : Addr, m_a6 = some ad10 ∧ ∃ (m21 : Int), Rd I15 (F11) ((ad10.add (Int.toNat (wr (((m_n3 : Nat) : Int) + k3)) * z)).add o) [vi m21] ∧ ∃ (r4 : Int), (Tri P 95 (#[vi i2, vi k3]) I15 (F11) fun e5 I16 G7 => e5 = .returned (vi r4) ∧ List.Perm G7 (F11)) ∧ (((m21 != r4) = true → Q (.returned (vt false)) I15 (F11)) ∧ ((m21 != r4) = false → (∃ m22 : Nat, m22 < m20 ∧ Inv103 long_a long_n long_c i2 ((m_n3 : Nat) : Int) x2 (wr (k3 + 1)) m22 I12 F10 I15 F11)))))) ∧ (decide (k3 < 8) = false → (∃ m23 : Nat, m23 < m13 ∧ Inv68 long_a long_n long_c x2 (wr (i2 + 1)) m23 I4 F4 I15 F11))))))) ∧ (decide (i2 < ((l_n : Nat) : Int)) = false → Q (.returned (vt true)) I11 (F9)))))))
def ownG.V (z o E S S1 : Nat) (nw : Int → List Value) (a : OA) (b c : Nat) (I : Imm) (F : Heap) (Q : PostQ) (Inv8 : Int → Nat → Imm → Heap → Imm → Heap → Prop) (Inv20 : Int → Int → Nat → Imm → Heap → Imm → Heap → Prop) (Inv36 : OA → Nat → Nat → Int → Nat → Imm → Heap → Imm → Heap → Prop) (Inv51 : OA → Nat → Nat → Int → OA → Nat → Nat → Int → Nat → Imm → Heap → Imm → Heap → Prop) (Inv68 : OA → Nat → Nat → Bool → Int → Nat → Imm → Heap → Imm → Heap → Prop) (Inv83 : OA → Nat → Nat → Int → Int → Bool → Int → Nat → Imm → Heap → Imm → Heap → Prop) (Inv103 : OA → Nat → Nat → Int → Int → Bool → Int → Nat → Imm → Heap → Imm → Heap → Prop) : Prop := ownG.V0 (.int .i64) .slice .bool (IntKind.wrap .i64) z o E S S1 nw a b c I F Q Inv8 Inv20 Inv36 Inv51 Inv68 Inv83 Inv103
theorem ref00_ownTokens.vc {l_a : OA} {l_n l_c : Nat} {I : Imm} {F : Heap} {Q : PostQ} (Inv8 : Int → Nat → Imm → Heap → Imm → Heap → Prop) (Inv20 : Int → Int → Nat → Imm → Heap → Imm → Heap → Prop) (Inv36 : OA → Nat → Nat → Int → Nat → Imm → Heap → Imm → Heap → Prop) (Inv51 : OA → Nat → Nat → Int → OA → Nat → Nat → Int → Nat → Imm → Heap → Imm → Heap → Prop) (Inv68 : OA → Nat → Nat → Bool → Int → Nat → Imm → Heap → Imm → Heap → Prop) (Inv83 : OA → Nat → Nat → Int → Int → Bool → Int → Nat → Imm → Heap → Imm → Heap → Prop) (Inv103 : OA → Nat → Nat → Int → Int → Bool → Int → Nat → Imm → Heap → Imm → Heap → Prop) (h : ownG.V 5 4 142 138 34 (fun r => [.int .u8 0, .string (⟨#[]⟩ : Bs), .int .u8 0, .int .i64 0, .int .i64 r]) l_a l_n l_c I F Q Inv8 Inv20 Inv36 Inv51 Inv68 Inv83 Inv103) : Tri P 61 #[.slice l_a l_n l_c] I (F) Q :=
  tv (A := (annL [3003, 6006, 10003, 14001, 19003, 23002, 25011, 25024, 28001, 30013] [] [94, 95] shT_o1 [(8, ⟨[(4, (.int .i64))], [], fun fs I0 F0 vs m I F => match fs, vs with | [], [.int _ y0] => Inv8 y0 m I0 F0 I F | _, _ => False, [], []⟩), (20, ⟨[(5, (.int .i64))], [], fun fs I0 F0 vs m I F => match fs, vs with | [.int _ y0], [.int _ y1] => Inv20 y0 y1 m I0 F0 I F | _, _ => False, [4], []⟩), (36, ⟨[(3, .slc), (6, (.int .i64))], [], fun fs I0 F0 vs m I F => match fs, vs with | [], [.slice y0 y1 y2, .int _ y3] => Inv36 y0 y1 y2 y3 m I0 F0 I F | _, _ => False, [], []⟩), (51, ⟨[(7, .slc), (8, (.int .i64))], [], fun fs I0 F0 vs m I F => match fs, vs with | [.slice y0 y1 y2, .int _ y3], [.slice y4 y5 y6, .int _ y7] => Inv51 y0 y1 y2 y3 y4 y5 y6 y7 m I0 F0 I F | _, _ => False, [3, 6], []⟩), (68, ⟨[(2, .bool), (9, (.int .i64))], [], fun fs I0 F0 vs m I F => match fs, vs with | [.slice y0 y1 y2], [.bool y3, .int _ y4] => Inv68 y0 y1 y2 y3 y4 m I0 F0 I F | _, _ => False, [3], []⟩), (83, ⟨[(2, .bool), (11, (.int .i64))], [], fun fs I0 F0 vs m I F => match fs, vs with | [.slice y0 y1 y2, .int _ y3, .int _ y4], [.bool y5, .int _ y6] => Inv83 y0 y1 y2 y3 y4 y5 y6 m I0 F0 I F | _, _ => False, [3, 9, 10], []⟩), (103, ⟨[(2, .bool), (12, (.int .i64))], [], fun fs I0 F0 vs m I F => match fs, vs with | [.slice y0 y1 y2, .int _ y3, .int _ y4], [.bool y5, .int _ y6] => Inv103 y0 y1 y2 y3 y4 y5 y6 m I0 F0 I F | _, _ => False, [3, 9, 10], []⟩)] [16005, 17002] [] [(8, 10, [])] [] [] [])) (args := [.a (.v (.slice l_a l_n l_c))]) (own := []) (keep := []) [94, 95] Go.Proofs.Tryz.func61 h
theorem ref00_ownNodes.vc {l_a : OA} {l_n l_c : Nat} {I : Imm} {F : Heap} {Q : PostQ} (Inv8 : Int → Nat → Imm → Heap → Imm → Heap → Prop) (Inv20 : Int → Int → Nat → Imm → Heap → Imm → Heap → Prop) (Inv36 : OA → Nat → Nat → Int → Nat → Imm → Heap → Imm → Heap → Prop) (Inv51 : OA → Nat → Nat → Int → OA → Nat → Nat → Int → Nat → Imm → Heap → Imm → Heap → Prop) (Inv68 : OA → Nat → Nat → Bool → Int → Nat → Imm → Heap → Imm → Heap → Prop) (Inv83 : OA → Nat → Nat → Int → Int → Bool → Int → Nat → Imm → Heap → Imm → Heap → Prop) (Inv103 : OA → Nat → Nat → Int → Int → Bool → Int → Nat → Imm → Heap → Imm → Heap → Prop) (h : ownG.V 8 7 55 53 35 (fun r => [.int .u8 0, .int .u8 0, .int .u8 0, .int .i64 0, .int .u8 0, .string (⟨#[]⟩ : Bs), .slice none 0 0, .int .i64 r]) l_a l_n l_c I F Q Inv8 Inv20 Inv36 Inv51 Inv68 Inv83 Inv103) : Tri P 62 #[.slice l_a l_n l_c] I (F) Q :=
  tv (A := (annL [3003, 6006, 10003, 14001, 19003, 23002, 25011, 25024, 28001, 30013] [] [94, 95] shT_o1 [(8, ⟨[(4, (.int .i64))], [], fun fs I0 F0 vs m I F => match fs, vs with | [], [.int _ y0] => Inv8 y0 m I0 F0 I F | _, _ => False, [], []⟩), (20, ⟨[(5, (.int .i64))], [], fun fs I0 F0 vs m I F => match fs, vs with | [.int _ y0], [.int _ y1] => Inv20 y0 y1 m I0 F0 I F | _, _ => False, [4], []⟩), (36, ⟨[(3, .slc), (6, (.int .i64))], [], fun fs I0 F0 vs m I F => match fs, vs with | [], [.slice y0 y1 y2, .int _ y3] => Inv36 y0 y1 y2 y3 m I0 F0 I F | _, _ => False, [], []⟩), (51, ⟨[(7, .slc), (8, (.int .i64))], [], fun fs I0 F0 vs m I F => match fs, vs with | [.slice y0 y1 y2, .int _ y3], [.slice y4 y5 y6, .int _ y7] => Inv51 y0 y1 y2 y3 y4 y5 y6 y7 m I0 F0 I F | _, _ => False, [3, 6], []⟩), (68, ⟨[(2, .bool), (9, (.int .i64))], [], fun fs I0 F0 vs m I F => match fs, vs with | [.slice y0 y1 y2], [.bool y3, .int _ y4] => Inv68 y0 y1 y2 y3 y4 m I0 F0 I F | _, _ => False, [3], []⟩), (83, ⟨[(2, .bool), (11, (.int .i64))], [], fun fs I0 F0 vs m I F => match fs, vs with | [.slice y0 y1 y2, .int _ y3, .int _ y4], [.bool y5, .int _ y6] => Inv83 y0 y1 y2 y3 y4 y5 y6 m I0 F0 I F | _, _ => False, [3, 9, 10], []⟩), (103, ⟨[(2, .bool), (12, (.int .i64))], [], fun fs I0 F0 vs m I F => match fs, vs with | [.slice y0 y1 y2, .int _ y3, .int _ y4], [.bool y5, .int _ y6] => Inv103 y0 y1 y2 y3 y4 y5 y6 m I0 F0 I F | _, _ => False, [3, 9, 10], []⟩)] [16005, 17002] [] [(8, 10, [])] [] [] [])) (args := [.a (.v (.slice l_a l_n l_c))]) (own := []) (keep := []) [94, 95] Go.Proofs.Tryz.func62 h
theorem ref00_ownRegs.vc {l_a : OA} {l_n l_c : Nat} {I : Imm} {F : Heap} {Q : PostQ} (Inv8 : Int → Nat → Imm → Heap → Imm → Heap → Prop) (Inv20 : Int → Int → Nat → Imm → Heap → Imm → Heap → Prop) (Inv36 : OA → Nat → Nat → Int → Nat → Imm → Heap → Imm → Heap → Prop) (Inv51 : OA → Nat → Nat → Int → OA → Nat → Nat → Int → Nat → Imm → Heap → Imm → Heap → Prop) (Inv68 : OA → Nat → Nat → Bool → Int → Nat → Imm → Heap → Imm → Heap → Prop) (Inv83 : OA → Nat → Nat → Int → Int → Bool → Int → Nat → Imm → Heap → Imm → Heap → Prop) (Inv103 : OA → Nat → Nat → Int → Int → Bool → Int → Nat → Imm → Heap → Imm → Heap → Prop) (h : ownG.V 11 10 75 22 36 (fun r => [.string (⟨#[]⟩ : Bs), .int .u8 0, .int .u8 0, .int .u8 0, .int .u8 0, .int .i64 0, .int .u8 0, .string (⟨#[]⟩ : Bs), .slice none 0 0, .int .i64 0, .int .i64 r]) l_a l_n l_c I F Q Inv8 Inv20 Inv36 Inv51 Inv68 Inv83 Inv103) : Tri P 63 #[.slice l_a l_n l_c] I (F) Q :=
  tv (A := (annL [3003, 6006, 10003, 14001, 19003, 23002, 25011, 25024, 28001, 30013] [] [94, 95] shT_o1 [(8, ⟨[(4, (.int .i64))], [], fun fs I0 F0 vs m I F => match fs, vs with | [], [.int _ y0] => Inv8 y0 m I0 F0 I F | _, _ => False, [], []⟩), (20, ⟨[(5, (.int .i64))], [], fun fs I0 F0 vs m I F => match fs, vs with | [.int _ y0], [.int _ y1] => Inv20 y0 y1 m I0 F0 I F | _, _ => False, [4], []⟩), (36, ⟨[(3, .slc), (6, (.int .i64))], [], fun fs I0 F0 vs m I F => match fs, vs with | [], [.slice y0 y1 y2, .int _ y3] => Inv36 y0 y1 y2 y3 m I0 F0 I F | _, _ => False, [], []⟩), (51, ⟨[(7, .slc), (8, (.int .i64))], [], fun fs I0 F0 vs m I F => match fs, vs with | [.slice y0 y1 y2, .int _ y3], [.slice y4 y5 y6, .int _ y7] => Inv51 y0 y1 y2 y3 y4 y5 y6 y7 m I0 F0 I F | _, _ => False, [3, 6], []⟩), (68, ⟨[(2, .bool), (9, (.int .i64))], [], fun fs I0 F0 vs m I F => match fs, vs with | [.slice y0 y1 y2], [.bool y3, .int _ y4] => Inv68 y0 y1 y2 y3 y4 m I0 F0 I F | _, _ => False, [3], []⟩), (83, ⟨[(2, .bool), (11, (.int .i64))], [], fun fs I0 F0 vs m I F => match fs, vs with | [.slice y0 y1 y2, .int _ y3, .int _ y4], [.bool y5, .int _ y6] => Inv83 y0 y1 y2 y3 y4 y5 y6 m I0 F0 I F | _, _ => False, [3, 9, 10], []⟩), (103, ⟨[(2, .bool), (12, (.int .i64))], [], fun fs I0 F0 vs m I F => match fs, vs with | [.slice y0 y1 y2, .int _ y3, .int _ y4], [.bool y5, .int _ y6] => Inv103 y0 y1 y2 y3 y4 y5 y6 m I0 F0 I F | _, _ => False, [3, 9, 10], []⟩)] [16005, 17002] [] [(8, 10, [])] [] [] [])) (args := [.a (.v (.slice l_a l_n l_c))]) (own := []) (keep := []) [94, 95] Go.Proofs.Tryz.func63 h
theorem ref00_ownSlots.vc {l_a : OA} {l_n l_c : Nat} {I : Imm} {F : Heap} {Q : PostQ} (Inv8 : Int → Nat → Imm → Heap → Imm → Heap → Prop) (Inv20 : Int → Int → Nat → Imm → Heap → Imm → Heap → Prop) (Inv36 : OA → Nat → Nat → Int → Nat → Imm → Heap → Imm → Heap → Prop) (Inv51 : OA → Nat → Nat → Int → OA → Nat → Nat → Int → Nat → Imm → Heap → Imm → Heap → Prop) (Inv68 : OA → Nat → Nat → Bool → Int → Nat → Imm → Heap → Imm → Heap → Prop) (Inv83 : OA → Nat → Nat → Int → Int → Bool → Int → Nat → Imm → Heap → Imm → Heap → Prop) (Inv103 : OA → Nat → Nat → Int → Int → Bool → Int → Nat → Imm → Heap → Imm → Heap → Prop) (h : ownG.V 2 1 77 23 37 (fun r => [.string (⟨#[]⟩ : Bs), .int .i64 r]) l_a l_n l_c I F Q Inv8 Inv20 Inv36 Inv51 Inv68 Inv83 Inv103) : Tri P 64 #[.slice l_a l_n l_c] I (F) Q :=
  tv (A := (annL [3003, 6006, 10003, 14001, 19003, 23002, 25011, 25024, 28001, 30013] [] [94, 95] shT_o1 [(8, ⟨[(4, (.int .i64))], [], fun fs I0 F0 vs m I F => match fs, vs with | [], [.int _ y0] => Inv8 y0 m I0 F0 I F | _, _ => False, [], []⟩), (20, ⟨[(5, (.int .i64))], [], fun fs I0 F0 vs m I F => match fs, vs with | [.int _ y0], [.int _ y1] => Inv20 y0 y1 m I0 F0 I F | _, _ => False, [4], []⟩), (36, ⟨[(3, .slc), (6, (.int .i64))], [], fun fs I0 F0 vs m I F => match fs, vs with | [], [.slice y0 y1 y2, .int _ y3] => Inv36 y0 y1 y2 y3 m I0 F0 I F | _, _ => False, [], []⟩), (51, ⟨[(7, .slc), (8, (.int .i64))], [], fun fs I0 F0 vs m I F => match fs, vs with | [.slice y0 y1 y2, .int _ y3], [.slice y4 y5 y6, .int _ y7] => Inv51 y0 y1 y2 y3 y4 y5 y6 y7 m I0 F0 I F | _, _ => False, [3, 6], []⟩), (68, ⟨[(2, .bool), (9, (.int .i64))], [], fun fs I0 F0 vs m I F => match fs, vs with | [.slice y0 y1 y2], [.bool y3, .int _ y4] => Inv68 y0 y1 y2 y3 y4 m I0 F0 I F | _, _ => False, [3], []⟩), (83, ⟨[(2, .bool), (11, (.int .i64))], [], fun fs I0 F0 vs m I F => match fs, vs with | [.slice y0 y1 y2, .int _ y3, .int _ y4], [.bool y5, .int _ y6] => Inv83 y0 y1 y2 y3 y4 y5 y6 m I0 F0 I F | _, _ => False, [3, 9, 10], []⟩), (103, ⟨[(2, .bool), (12, (.int .i64))], [], fun fs I0 F0 vs m I F => match fs, vs with | [.slice y0 y1 y2, .int _ y3, .int _ y4], [.bool y5, .int _ y6] => Inv103 y0 y1 y2 y3 y4 y5 y6 m I0 F0 I F | _, _ => False, [3, 9, 10], []⟩)] [16005, 17002] [] [(8, 10, [])] [] [] [])) (args := [.a (.v (.slice l_a l_n l_c))]) (own := []) (keep := []) [94, 95] Go.Proofs.Tryz.func64 h
theorem ref00_ownDos.vc {l_a : OA} {l_n l_c : Nat} {I : Imm} {F : Heap} {Q : PostQ} (Inv8 : Int → Nat → Imm → Heap → Imm → Heap → Prop) (Inv20 : Int → Int → Nat → Imm → Heap → Imm → Heap → Prop) (Inv36 : OA → Nat → Nat → Int → Nat → Imm → Heap → Imm → Heap → Prop) (Inv51 : OA → Nat → Nat → Int → OA → Nat → Nat → Int → Nat → Imm → Heap → Imm → Heap → Prop) (Inv68 : OA → Nat → Nat → Bool → Int → Nat → Imm → Heap → Imm → Heap → Prop) (Inv83 : OA → Nat → Nat → Int → Int → Bool → Int → Nat → Imm → Heap → Imm → Heap → Prop) (Inv103 : OA → Nat → Nat → Int → Int → Bool → Int → Nat → Imm → Heap → Imm → Heap → Prop) (h : ownG.V 36 35 89 65 40 (fun r => [.int .u8 0, .int .u8 0, .string (⟨#[]⟩ : Bs), .int .u8 0, .int .u8 0, .int .u8 0, .int .i64 0, .int .u8 0, .string (⟨#[]⟩ : Bs), .slice none 0 0, .int .i64 0, .int .u8 0, .int .u8 0, .int .u8 0, .int .i64 0, .int .u8 0, .string (⟨#[]⟩ : Bs), .slice none 0 0, .int .i64 0, .int .u8 0, .int .u8 0, .int .u8 0, .int .i64 0, .int .u8 0, .string (⟨#[]⟩ : Bs), .slice none 0 0, .int .i64 0, .int .u8 0, .int .u8 0, .int .u8 0, .int .i64 0, .int .u8 0, .string (⟨#[]⟩ : Bs), .slice none 0 0, .int .i64 0, .int .i64 r]) l_a l_n l_c I F Q Inv8 Inv20 Inv36 Inv51 Inv68 Inv83 Inv103) : Tri P 65 #[.slice l_a l_n l_c] I (F) Q :=
  tv (A := (annL [3003, 6006, 10003, 14001, 19003, 23002, 25011, 25024, 28001, 30013] [] [94, 95] shT_o1 [(8, ⟨[(4, (.int .i64))], [], fun fs I0 F0 vs m I F => match fs, vs with | [], [.int _ y0] => Inv8 y0 m I0 F0 I F | _, _ => False, [], []⟩), (20, ⟨[(5, (.int .i64))], [], fun fs I0 F0 vs m I F => match fs, vs with | [.int _ y0], [.int _ y1] => Inv20 y0 y1 m I0 F0 I F | _, _ => False, [4], []⟩), (36, ⟨[(3, .slc), (6, (.int .i64))], [], fun fs I0 F0 vs m I F => match fs, vs with | [], [.slice y0 y1 y2, .int _ y3] => Inv36 y0 y1 y2 y3 m I0 F0 I F | _, _ => False, [], []⟩), (51, ⟨[(7, .slc), (8, (.int .i64))], [], fun fs I0 F0 vs m I F => match fs, vs with | [.slice y0 y1 y2, .int _ y3], [.slice y4 y5 y6, .int _ y7] => Inv51 y0 y1 y2 y3 y4 y5 y6 y7 m I0 F0 I F | _, _ => False, [3, 6], []⟩), (68, ⟨[(2, .bool), (9, (.int .i64))], [], fun fs I0 F0 vs m I F => match fs, vs with | [.slice y0 y1 y2], [.bool y3, .int _ y4] => Inv68 y0 y1 y2 y3 y4 m I0 F0 I F | _, _ => False, [3], []⟩), (83, ⟨[(2, .bool), (11, (.int .i64))], [], fun fs I0 F0 vs m I F => match fs, vs with | [.slice y0 y1 y2, .int _ y3, .int _ y4], [.bool y5, .int _ y6] => Inv83 y0 y1 y2 y3 y4 y5 y6 m I0 F0 I F | _, _ => False, [3, 9, 10], []⟩), (103, ⟨[(2, .bool), (12, (.int .i64))], [], fun fs I0 F0 vs m I F => match fs, vs with | [.slice y0 y1 y2, .int _ y3, .int _ y4], [.bool y5, .int _ y6] => Inv103 y0 y1 y2 y3 y4 y5 y6 m I0 F0 I F | _, _ => False, [3, 9, 10], []⟩)] [16005, 17002] [] [(8, 10, [])] [] [] [])) (args := [.a (.v (.slice l_a l_n l_c))]) (own := []) (keep := []) [94, 95] Go.Proofs.Tryz.func65 h
theorem ref00_ownRules.vc {l_a : OA} {l_n l_c : Nat} {I : Imm} {F : Heap} {Q : PostQ} (Inv8 : Int → Nat → Imm → Heap → Imm → Heap → Prop) (Inv20 : Int → Int → Nat → Imm → Heap → Imm → Heap → Prop) (Inv36 : OA → Nat → Nat → Int → Nat → Imm → Heap → Imm → Heap → Prop) (Inv51 : OA → Nat → Nat → Int → OA → Nat → Nat → Int → Nat → Imm → Heap → Imm → Heap → Prop) (Inv68 : OA → Nat → Nat → Bool → Int → Nat → Imm → Heap → Imm → Heap → Prop) (Inv83 : OA → Nat → Nat → Int → Int → Bool → Int → Nat → Imm → Heap → Imm → Heap → Prop) (Inv103 : OA → Nat → Nat → Int → Int → Bool → Int → Nat → Imm → Heap → Imm → Heap → Prop) (h : ownG.V 10 9 67 68 39 (fun r => [.int .u8 0, .int .u8 0, .int .u8 0, .int .i64 0, .int .u8 0, .string (⟨#[]⟩ : Bs), .slice none 0 0, .int .i64 0, .slice none 0 0, .int .i64 r]) l_a l_n l_c I F Q Inv8 Inv20 Inv36 Inv51 Inv68 Inv83 Inv103) : Tri P 66 #[.slice l_a l_n l_c] I (F) Q :=
  tv (A := (annL [3003, 6006, 10003, 14001, 19003, 23002, 25011, 25024, 28001, 30013] [] [94, 95] shT_o1 [(8, ⟨[(4, (.int .i64))], [], fun fs I0 F0 vs m I F => match fs, vs with | [], [.int _ y0] => Inv8 y0 m I0 F0 I F | _, _ => False, [], []⟩), (20, ⟨[(5, (.int .i64))], [], fun fs I0 F0 vs m I F => match fs, vs with | [.int _ y0], [.int _ y1] => Inv20 y0 y1 m I0 F0 I F | _, _ => False, [4], []⟩), (36, ⟨[(3, .slc), (6, (.int .i64))], [], fun fs I0 F0 vs m I F => match fs, vs with | [], [.slice y0 y1 y2, .int _ y3] => Inv36 y0 y1 y2 y3 m I0 F0 I F | _, _ => False, [], []⟩), (51, ⟨[(7, .slc), (8, (.int .i64))], [], fun fs I0 F0 vs m I F => match fs, vs with | [.slice y0 y1 y2, .int _ y3], [.slice y4 y5 y6, .int _ y7] => Inv51 y0 y1 y2 y3 y4 y5 y6 y7 m I0 F0 I F | _, _ => False, [3, 6], []⟩), (68, ⟨[(2, .bool), (9, (.int .i64))], [], fun fs I0 F0 vs m I F => match fs, vs with | [.slice y0 y1 y2], [.bool y3, .int _ y4] => Inv68 y0 y1 y2 y3 y4 m I0 F0 I F | _, _ => False, [3], []⟩), (83, ⟨[(2, .bool), (11, (.int .i64))], [], fun fs I0 F0 vs m I F => match fs, vs with | [.slice y0 y1 y2, .int _ y3, .int _ y4], [.bool y5, .int _ y6] => Inv83 y0 y1 y2 y3 y4 y5 y6 m I0 F0 I F | _, _ => False, [3, 9, 10], []⟩), (103, ⟨[(2, .bool), (12, (.int .i64))], [], fun fs I0 F0 vs m I F => match fs, vs with | [.slice y0 y1 y2, .int _ y3, .int _ y4], [.bool y5, .int _ y6] => Inv103 y0 y1 y2 y3 y4 y5 y6 m I0 F0 I F | _, _ => False, [3, 9, 10], []⟩)] [16005, 17002] [] [(8, 10, [])] [] [] [])) (args := [.a (.v (.slice l_a l_n l_c))]) (own := []) (keep := []) [94, 95] Go.Proofs.Tryz.func66 h
theorem ref00_ownStates.vc {l_a : OA} {l_n l_c : Nat} {I : Imm} {F : Heap} {Q : PostQ} (Inv8 : Int → Nat → Imm → Heap → Imm → Heap → Prop) (Inv20 : Int → Int → Nat → Imm → Heap → Imm → Heap → Prop) (Inv36 : OA → Nat → Nat → Int → Nat → Imm → Heap → Imm → Heap → Prop) (Inv51 : OA → Nat → Nat → Int → OA → Nat → Nat → Int → Nat → Imm → Heap → Imm → Heap → Prop) (Inv68 : OA → Nat → Nat → Bool → Int → Nat → Imm → Heap → Imm → Heap → Prop) (Inv83 : OA → Nat → Nat → Int → Int → Bool → Int → Nat → Imm → Heap → Imm → Heap → Prop) (Inv103 : OA → Nat → Nat → Int → Int → Bool → Int → Nat → Imm → Heap → Imm → Heap → Prop) (h : ownG.V 3 2 70 24 38 (fun r => [.string (⟨#[]⟩ : Bs), .slice none 0 0, .int .i64 r]) l_a l_n l_c I F Q Inv8 Inv20 Inv36 Inv51 Inv68 Inv83 Inv103) : Tri P 67 #[.slice l_a l_n l_c] I (F) Q :=
  tv (A := (annL [3003, 6006, 10003, 14001, 19003, 23002, 25011, 25024, 28001, 30013] [] [94, 95] shT_o1 [(8, ⟨[(4, (.int .i64))], [], fun fs I0 F0 vs m I F => match fs, vs with | [], [.int _ y0] => Inv8 y0 m I0 F0 I F | _, _ => False, [], []⟩), (20, ⟨[(5, (.int .i64))], [], fun fs I0 F0 vs m I F => match fs, vs with | [.int _ y0], [.int _ y1] => Inv20 y0 y1 m I0 F0 I F | _, _ => False, [4], []⟩), (36, ⟨[(3, .slc), (6, (.int .i64))], [], fun fs I0 F0 vs m I F => match fs, vs with | [], [.slice y0 y1 y2, .int _ y3] => Inv36 y0 y1 y2 y3 m I0 F0 I F | _, _ => False, [], []⟩), (51, ⟨[(7, .slc), (8, (.int .i64))], [], fun fs I0 F0 vs m I F => match fs, vs with | [.slice y0 y1 y2, .int _ y3], [.slice y4 y5 y6, .int _ y7] => Inv51 y0 y1 y2 y3 y4 y5 y6 y7 m I0 F0 I F | _, _ => False, [3, 6], []⟩), (68, ⟨[(2, .bool), (9, (.int .i64))], [], fun fs I0 F0 vs m I F => match fs, vs with | [.slice y0 y1 y2], [.bool y3, .int _ y4] => Inv68 y0 y1 y2 y3 y4 m I0 F0 I F | _, _ => False, [3], []⟩), (83, ⟨[(2, .bool), (11, (.int .i64))], [], fun fs I0 F0 vs m I F => match fs, vs with | [.slice y0 y1 y2, .int _ y3, .int _ y4], [.bool y5, .int _ y6] => Inv83 y0 y1 y2 y3 y4 y5 y6 m I0 F0 I F | _, _ => False, [3, 9, 10], []⟩), (103, ⟨[(2, .bool), (12, (.int .i64))], [], fun fs I0 F0 vs m I F => match fs, vs with | [.slice y0 y1 y2, .int _ y3, .int _ y4], [.bool y5, .int _ y6] => Inv103 y0 y1 y2 y3 y4 y5 y6 m I0 F0 I F | _, _ => False, [3, 9, 10], []⟩)] [16005, 17002] [] [(8, 10, [])] [] [] [])) (args := [.a (.v (.slice l_a l_n l_c))]) (own := []) (keep := []) [94, 95] Go.Proofs.Tryz.func67 h
theorem ref00_ownInstrs.vc {l_a : OA} {l_n l_c : Nat} {I : Imm} {F : Heap} {Q : PostQ} (Inv8 : Int → Nat → Imm → Heap → Imm → Heap → Prop) (Inv20 : Int → Int → Nat → Imm → Heap → Imm → Heap → Prop) (Inv36 : OA → Nat → Nat → Int → Nat → Imm → Heap → Imm → Heap → Prop) (Inv51 : OA → Nat → Nat → Int → OA → Nat → Nat → Int → Nat → Imm → Heap → Imm → Heap → Prop) (Inv68 : OA → Nat → Nat → Bool → Int → Nat → Imm → Heap → Imm → Heap → Prop) (Inv83 : OA → Nat → Nat → Int → Int → Bool → Int → Nat → Imm → Heap → Imm → Heap → Prop) (Inv103 : OA → Nat → Nat → Int → Int → Bool → Int → Nat → Imm → Heap → Imm → Heap → Prop) (h : ownG.V 2 1 146 143 41 (fun r => [.int .u8 0, .int .i64 r]) l_a l_n l_c I F Q Inv8 Inv20 Inv36 Inv51 Inv68 Inv83 Inv103) : Tri P 68 #[.slice l_a l_n l_c] I (F) Q :=
  tv (A := (annL [3003, 6006, 10003, 14001, 19003, 23002, 25011, 25024, 28001, 30013] [] [94, 95] shT_o1 [(8, ⟨[(4, (.int .i64))], [], fun fs I0 F0 vs m I F => match fs, vs with | [], [.int _ y0] => Inv8 y0 m I0 F0 I F | _, _ => False, [], []⟩), (20, ⟨[(5, (.int .i64))], [], fun fs I0 F0 vs m I F => match fs, vs with | [.int _ y0], [.int _ y1] => Inv20 y0 y1 m I0 F0 I F | _, _ => False, [4], []⟩), (36, ⟨[(3, .slc), (6, (.int .i64))], [], fun fs I0 F0 vs m I F => match fs, vs with | [], [.slice y0 y1 y2, .int _ y3] => Inv36 y0 y1 y2 y3 m I0 F0 I F | _, _ => False, [], []⟩), (51, ⟨[(7, .slc), (8, (.int .i64))], [], fun fs I0 F0 vs m I F => match fs, vs with | [.slice y0 y1 y2, .int _ y3], [.slice y4 y5 y6, .int _ y7] => Inv51 y0 y1 y2 y3 y4 y5 y6 y7 m I0 F0 I F | _, _ => False, [3, 6], []⟩), (68, ⟨[(2, .bool), (9, (.int .i64))], [], fun fs I0 F0 vs m I F => match fs, vs with | [.slice y0 y1 y2], [.bool y3, .int _ y4] => Inv68 y0 y1 y2 y3 y4 m I0 F0 I F | _, _ => False, [3], []⟩), (83, ⟨[(2, .bool), (11, (.int .i64))], [], fun fs I0 F0 vs m I F => match fs, vs with | [.slice y0 y1 y2, .int _ y3, .int _ y4], [.bool y5, .int _ y6] => Inv83 y0 y1 y2 y3 y4 y5 y6 m I0 F0 I F | _, _ => False, [3, 9, 10], []⟩), (103, ⟨[(2, .bool), (12, (.int .i64))], [], fun fs I0 F0 vs m I F => match fs, vs with | [.slice y0 y1 y2, .int _ y3, .int _ y4], [.bool y5, .int _ y6] => Inv103 y0 y1 y2 y3 y4 y5 y6 m I0 F0 I F | _, _ => False, [3, 9, 10], []⟩)] [16005, 17002] [] [(8, 10, [])] [] [] [])) (args := [.a (.v (.slice l_a l_n l_c))]) (own := []) (keep := []) [94, 95] Go.Proofs.Tryz.func68 h
theorem ref00_ownRows.vc {l_a : OA} {l_n l_c : Nat} {I : Imm} {F : Heap} {Q : PostQ} (Inv8 : Int → Nat → Imm → Heap → Imm → Heap → Prop) (Inv20 : Int → Int → Nat → Imm → Heap → Imm → Heap → Prop) (Inv36 : OA → Nat → Nat → Int → Nat → Imm → Heap → Imm → Heap → Prop) (Inv51 : OA → Nat → Nat → Int → OA → Nat → Nat → Int → Nat → Imm → Heap → Imm → Heap → Prop) (Inv68 : OA → Nat → Nat → Bool → Int → Nat → Imm → Heap → Imm → Heap → Prop) (Inv83 : OA → Nat → Nat → Int → Int → Bool → Int → Nat → Imm → Heap → Imm → Heap → Prop) (Inv103 : OA → Nat → Nat → Int → Int → Bool → Int → Nat → Imm → Heap → Imm → Heap → Prop) (h : ownG.V 11 2 151 147 43 (fun r => [.int .u8 0, .int .u8 0, .int .i64 r, .int .i64 0, .int .i64 0, .int .i64 0, .int .i64 0, .int .i64 0, .int .i64 0, .int .i64 0, .int .i64 0]) l_a l_n l_c I F Q Inv8 Inv20 Inv36 Inv51 Inv68 Inv83 Inv103) : Tri P 69 #[.slice l_a l_n l_c] I (F) Q :=
  tv (A := (annL [3003, 6006, 10003, 14001, 19003, 23002, 25011, 25024, 28001, 30013] [] [94, 95] shT_o1 [(8, ⟨[(4, (.int .i64))], [], fun fs I0 F0 vs m I F => match fs, vs with | [], [.int _ y0] => Inv8 y0 m I0 F0 I F | _, _ => False, [], []⟩), (20, ⟨[(5, (.int .i64))], [], fun fs I0 F0 vs m I F => match fs, vs with | [.int _ y0], [.int _ y1] => Inv20 y0 y1 m I0 F0 I F | _, _ => False, [4], []⟩), (36, ⟨[(3, .slc), (6, (.int .i64))], [], fun fs I0 F0 vs m I F => match fs, vs with | [], [.slice y0 y1 y2, .int _ y3] => Inv36 y0 y1 y2 y3 m I0 F0 I F | _, _ => False, [], []⟩), (51, ⟨[(7, .slc), (8, (.int .i64))], [], fun fs I0 F0 vs m I F => match fs, vs with | [.slice y0 y1 y2, .int _ y3], [.slice y4 y5 y6, .int _ y7] => Inv51 y0 y1 y2 y3 y4 y5 y6 y7 m I0 F0 I F | _, _ => False, [3, 6], []⟩), (68, ⟨[(2, .bool), (9, (.int .i64))], [], fun fs I0 F0 vs m I F => match fs, vs with | [.slice y0 y1 y2], [.bool y3, .int _ y4] => Inv68 y0 y1 y2 y3 y4 m I0 F0 I F | _, _ => False, [3], []⟩), (83, ⟨[(2, .bool), (11, (.int .i64))], [], fun fs I0 F0 vs m I F => match fs, vs with | [.slice y0 y1 y2, .int _ y3, .int _ y4], [.bool y5, .int _ y6] => Inv83 y0 y1 y2 y3 y4 y5 y6 m I0 F0 I F | _, _ => False, [3, 9, 10], []⟩), (103, ⟨[(2, .bool), (12, (.int .i64))], [], fun fs I0 F0 vs m I F => match fs, vs with | [.slice y0 y1 y2, .int _ y3, .int _ y4], [.bool y5, .int _ y6] => Inv103 y0 y1 y2 y3 y4 y5 y6 m I0 F0 I F | _, _ => False, [3, 9, 10], []⟩)] [16005, 17002] [] [(8, 10, [])] [] [] [])) (args := [.a (.v (.slice l_a l_n l_c))]) (own := []) (keep := []) [94, 95] Go.Proofs.Tryz.func69 h
def ref00_ownGuards.V (vi : Int → Value) (vl : OA → Nat → Nat → Value) (vt : Bool → Value) (wr : Int → Int) (h : OA) (f aR : Nat) (I : Imm) (F : Heap) (Q : PostQ) (Inv8 : Int → Nat → Imm → Heap → Imm → Heap → Prop) (Inv20 : Int → Int → Nat → Imm → Heap → Imm → Heap → Prop) (Inv36 : OA → Nat → Nat → Int → Nat → Imm → Heap → Imm → Heap → Prop) (Inv51 : OA → Nat → Nat → Int → OA → Nat → Nat → Int → Nat → Imm → Heap → Imm → Heap → Prop) (Inv68 : OA → Nat → Nat → Bool → Int → Nat → Imm → Heap → Imm → Heap → Prop) (Inv83 : OA → Nat → Nat → Int → Int → Bool → Int → Nat → Imm → Heap → Imm → Heap → Prop) (Inv103 : OA → Nat → Nat → Int → Int → Bool → Int → Nat → Imm → Heap → Imm → Heap → Prop) : Prop := (∃ m : Nat, Inv8 0 m I F I F) ∧ ∀ (i : Int) (m1 : Nat) (I1 : Imm) (F1 : Heap), Imm.le I I1 → Inv8 i m1 I F I1 F1 → ((decide (i < ((f : Nat) : Int)) = true → (∃ m2 : Nat, Inv20 i 0 m2 I1 F1 I1 F1) ∧ ∀ (k : Int) (m3 : Nat) (I2 : Imm) (F2 : Heap), Imm.le I1 I2 → Inv20 i k m3 I1 F1 I2 F2 → ((0 ≤ i ∧ i < (f : Int)) ∧ ∃ ad : Addr, h = some ad ∧ ∃ (aM : OA) (j aN : Nat), Rd I2 (F2) (ad.add (Int.toNat (i) * 1)) [vl aM j aN] ∧ ((decide (k < ((j : Nat) : Int)) = true → ((0 ≤ i ∧ i < (f : Int)) ∧ ∃ ar : Addr, h = some ar ∧ ∃ (l : OA) (n aG : Nat), Rd I2 (F2) (ar.add (Int.toNat (i) * 1)) [vl l n aG] ∧ ∃ (r : Int), (Tri P 94 (#[vi i, vi k]) I2 (F2) fun e1 I3 G1 => e1 = .returned (vi r) ∧ List.Perm G1 (F2)) ∧ ((0 ≤ k ∧ k < (n : Int)) ∧ ∃ g : Addr, l = some g ∧ ∃ (cs : List Value) (el : Nat) (F3 : Heap), List.Perm F2 (((((g.add (Int.toNat (k) * 5)).add 0).add 0).block, Obj.cells cs.toArray el (0, 0)) :: F3) ∧ (((g.add (Int.toNat (k) * 5)).add 0).add 0).spot = none ∧ (((g.add (Int.toNat (k) * 5)).add 0).add 0).off + 1 ≤ cs.length ∧ (∃ m4 : Nat, m4 < m3 ∧ Inv20 i (wr (k + 1)) m4 I1 F1 I2 (((((g.add (Int.toNat (k) * 5)).add 0).add 0).block, Obj.cells (splice (((g.add (Int.toNat (k) * 5)).add 0).add 0).off [vi r] cs).toArray el (0, 0)) :: F3))))) ∧ (decide (k < ((j : Nat) : Int)) = false → (∃ m5 : Nat, m5 < m1 ∧ Inv8 (wr (i + 1)) m5 I F I2 F2))))) ∧ (decide (i < ((f : Nat) : Int)) = false → (∃ m6 : Nat, Inv36 none 0 0 0 m6 I1 F1 I1 F1) ∧ ∀ (a : OA) (c d : Nat) (i1 : Int) (m7 : Nat) (I4 : Imm) (F4 : Heap), Imm.le I1 I4 → Inv36 a c d i1 m7 I1 F1 I4 F4 → ((decide (i1 < ((f : Nat) : Int)) = true → ((0 ≤ i1 ∧ i1 < (f : Int)) ∧ ∃ au : Addr, h = some au ∧ ∃ (o : OA) (p q : Nat), Rd I4 (F4) (au.add (Int.toNat (i1) * 1)) [vl o p q] ∧ (∃ m8 : Nat, Inv51 a c d i1 o p q 0 m8 I4 F4 I4 F4) ∧ ∀ (s : OA) (t u : Nat) (k1 : Int) (m9 : Nat) (I5 : Imm) (F5 : Heap), Imm.le I4 I5 → Inv51 a c d i1 s t u k1 m9 I4 F4 I5 F5 → ((decide (k1 < 8) = true → Tri P 95 (#[vi i1, vi k1]) I5 (F5) fun e2 I6 G2 => ∃ (r1 : Int), e2 = .returned (vi r1) ∧ ∃ F6 : Heap, List.Perm G2 (F6) ∧ ∀ (b : Nat) (I7 : Imm), Imm.le I6 I7 → I7 b = some (Obj.cells #[vi r1, vi 0, .int .u16 0, .int .u16 0, vl none 0 0] 154 (0, 0)) → TriE P (Builtin.append_ #[152, 152] 152 #[vl s t u, vl (some ⟨b, 0, none⟩) 1 1]) I7 (F6) fun v I8 G3 => ∃ (al : OA) (am an : Nat), v = vl al am an ∧ ∃ F7 : Heap, List.Perm G3 (F7) ∧ (∃ av : Nat, av < m9 ∧ Inv51 a c d i1 al am an (wr (k1 + 1)) av I4 F4 I8 F7)) ∧ (decide (k1 < 8) = false → ∀ (b1 : Nat) (I9 : Imm), Imm.le I5 I9 → I9 b1 = some (Obj.cells #[vl s t u] 152 (0, 0)) → TriE P (Builtin.append_ #[42, 42] 42 #[vl a c d, vl (some ⟨b1, 0, none⟩) 1 1]) I9 (F5) fun v1 I10 G4 => ∃ (w : OA) (y z : Nat), v1 = vl w y z ∧ ∃ F8 : Heap, List.Perm G4 (F8) ∧ (∃ aw : Nat, aw < m7 ∧ Inv36 w y z (wr (i1 + 1)) aw I1 F1 I10 F8))))) ∧ (decide (i1 < ((f : Nat) : Int)) = false → (∃ aO : Nat, Inv68 a c d false 0 aO I4 F4 I4 F4) ∧ ∀ (x : Bool) (i2 : Int) (ao : Nat) (I11 : Imm) (F9 : Heap), Imm.le I4 I11 → Inv68 a c d x i2 ao I4 F4 I11 F9 → ((decide (i2 < ((f : Nat) : Int)) = true → ((0 ≤ i2 ∧ i2 < (f : Int)) ∧ ∃ ax : Addr, h = some ax ∧ ∃ (aH : OA) (e aI : Nat), Rd I11 (F9) (ax.add (Int.toNat (i2) * 1)) [vl aH e aI] ∧ (∃ aP : Nat, Inv83 a c d i2 ((e : Nat) : Int) x 0 aP I11 F9 I11 F9) ∧ ∀ (x1 : Bool) (k2 : Int) (ap : Nat) (I12 : Imm) (F10 : Heap), Imm.le I11 I12 → Inv83 a c d i2 ((e : Nat) : Int) x1 k2 ap I11 F9 I12 F10 → ((decide (k2 < ((e : Nat) : Int)) = true → ((0 ≤ i2 ∧ i2 < (f : Int)) ∧ ∃ ay : Addr, h = some ay ∧ ∃ (aa : OA) (ab aJ : Nat), Rd I12 (F10) (ay.add (Int.toNat (i2) * 1)) [vl aa ab aJ] ∧ ((0 ≤ k2 ∧ k2 < (ab : Int)) ∧ ∃ az : Addr, aa = some az ∧ ∃ (ac : Int), Rd I12 (F10) (((az.add (Int.toNat (k2) * 5)).add 0).add 0) [vi ac] ∧ ∃ (r2 : Int), (Tri P 94 (#[vi i2, vi k2]) I12 (F10) fun e3 I13 G5 => e3 = .returned (vi r2) ∧ List.Perm G5 (F10)) ∧ (((ac != r2) = true → Q (.returned (vt false)) I12 (F10)) ∧ ((ac != r2) = false → ((0 ≤ i2 ∧ i2 < (c : Int)) ∧ ∃ aA : Addr, a = some aA ∧ ∃ (ae : OA) (af aK : Nat), Rd I12 (F10) (aA.add (Int.toNat (i2) * 1)) [vl ae af aK] ∧ ((0 ≤ k2 ∧ k2 < (af : Int)) ∧ ∃ aB : Addr, ae = some aB ∧ ∃ (ag : Int), Rd I12 (F10) (((aB.add (Int.toNat (k2) * 5)).add 0).add 0) [vi ag] ∧ ∃ (r3 : Int), (Tri P 94 (#[vi i2, vi k2]) I12 (F10) fun e4 I14 G6 => e4 = .returned (vi r3) ∧ List.Perm G6 (F10)) ∧ (((ag != r3) = true → Q (.returned (vt false)) I12 (F10)) ∧ ((ag != r3) = false → (∃ aC : Nat, aC < ap ∧ Inv83 a c d i2 ((e : Nat) : Int) x1 (wr (k2 + 1)) aC I11 F9 I12 F10)))))))))) ∧ (decide (k2 < ((e : Nat) : Int)) = false → (∃ aQ : Nat, Inv103 a c d i2 ((e : Nat) : Int) x1 0 aQ I12 F10 I12 F10) ∧ ∀ (x2 : Bool) (k3 : Int) (aq : Nat) (I15 : Imm) (F11 : Heap), Imm.le I12 I15 → Inv103 a c d i2 ((e : Nat) : Int) x2 k3 aq I12 F10 I15 F11 → ((decide (k3 < 8) = true → ((0 ≤ i2 ∧ i2 < (c : Int)) ∧ ∃ aD : Addr, a = some aD ∧ ∃ (ah : OA) (ai aL : Nat), Rd I15 (F11) (aD.add (Int.toNat (i2) * 1)) [vl ah ai aL] ∧ ((0 ≤ (wr (((e : Nat) : Int) + k3)) ∧ (wr (((e : Nat) : Int) + k3)) < (ai : Int)) ∧ ∃ ak : Addr, ah = some ak ∧ ∃ (aj : Int), Rd I15 (F11) (((ak.add (Int.toNat (wr (((e : Nat) : Int) + k3)) * 5)).add 0).add 0) [vi aj] ∧ ∃ (r4 : Int), (Tri P 95 (#[vi i2, vi k3]) I15 (F11) fun e5 I16 G7 => e5 = .returned (vi r4) ∧ List.Perm G7 (F11)) ∧ (((aj != r4) = true → Q (.returned (vt false)) I15 (F11)) ∧ ((aj != r4) = false → (∃ aE : Nat, aE < aq ∧ Inv103 a c d i2 ((e : Nat) : Int) x2 (wr (k3 + 1)) aE I12 F10 I15 F11)))))) ∧ (decide (k3 < 8) = false → (∃ aF : Nat, aF < ao ∧ Inv68 a c d x2 (wr (i2 + 1)) aF I4 F4 I15 F11))))))) ∧ (decide (i2 < ((f : Nat) : Int)) = false → Q (.returned (vt true)) I11 (F9)))))))
theorem ref00_ownGuards.vc {l_a : OA} {l_n l_c : Nat} {I : Imm} {F : Heap} {Q : PostQ} (Inv8 : Int → Nat → Imm → Heap → Imm → Heap → Prop) (Inv20 : Int → Int → Nat → Imm → Heap → Imm → Heap → Prop) (Inv36 : OA → Nat → Nat → Int → Nat → Imm → Heap → Imm → Heap → Prop) (Inv51 : OA → Nat → Nat → Int → OA → Nat → Nat → Int → Nat → Imm → Heap → Imm → Heap → Prop) (Inv68 : OA → Nat → Nat → Bool → Int → Nat → Imm → Heap → Imm → Heap → Prop) (Inv83 : OA → Nat → Nat → Int → Int → Bool → Int → Nat → Imm → Heap → Imm → Heap → Prop) (Inv103 : OA → Nat → Nat → Int → Int → Bool → Int → Nat → Imm → Heap → Imm → Heap → Prop) (h : ref00_ownGuards.V (.int .i64) .slice .bool (IntKind.wrap .i64) l_a l_n l_c I F Q Inv8 Inv20 Inv36 Inv51 Inv68 Inv83 Inv103) : Tri P 70 #[.slice l_a l_n l_c] I (F) Q :=
  tv (A := (annL [3003, 6006, 10003, 14001, 19003, 23002, 25012, 25026, 28001, 30014] [] [94, 95] shT_o1 [(8, ⟨[(4, (.int .i64))], [], fun fs I0 F0 vs m I F => match fs, vs with | [], [.int _ y0] => Inv8 y0 m I0 F0 I F | _, _ => False, [], []⟩), (20, ⟨[(5, (.int .i64))], [], fun fs I0 F0 vs m I F => match fs, vs with | [.int _ y0], [.int _ y1] => Inv20 y0 y1 m I0 F0 I F | _, _ => False, [4], []⟩), (36, ⟨[(3, .slc), (6, (.int .i64))], [], fun fs I0 F0 vs m I F => match fs, vs with | [], [.slice y0 y1 y2, .int _ y3] => Inv36 y0 y1 y2 y3 m I0 F0 I F | _, _ => False, [], []⟩), (51, ⟨[(7, .slc), (8, (.int .i64))], [], fun fs I0 F0 vs m I F => match fs, vs with | [.slice y0 y1 y2, .int _ y3], [.slice y4 y5 y6, .int _ y7] => Inv51 y0 y1 y2 y3 y4 y5 y6 y7 m I0 F0 I F | _, _ => False, [3, 6], []⟩), (68, ⟨[(2, .bool), (9, (.int .i64))], [], fun fs I0 F0 vs m I F => match fs, vs with | [.slice y0 y1 y2], [.bool y3, .int _ y4] => Inv68 y0 y1 y2 y3 y4 m I0 F0 I F | _, _ => False, [3], []⟩), (83, ⟨[(2, .bool), (11, (.int .i64))], [], fun fs I0 F0 vs m I F => match fs, vs with | [.slice y0 y1 y2, .int _ y3, .int _ y4], [.bool y5, .int _ y6] => Inv83 y0 y1 y2 y3 y4 y5 y6 m I0 F0 I F | _, _ => False, [3, 9, 10], []⟩), (103, ⟨[(2, .bool), (12, (.int .i64))], [], fun fs I0 F0 vs m I F => match fs, vs with | [.slice y0 y1 y2, .int _ y3, .int _ y4], [.bool y5, .int _ y6] => Inv103 y0 y1 y2 y3 y4 y5 y6 m I0 F0 I F | _, _ => False, [3, 9, 10], []⟩)] [16006, 17002] [] [(8, 11, [])] [] [] [])) (args := [.a (.v (.slice l_a l_n l_c))]) (own := []) (keep := []) [94, 95] Go.Proofs.Tryz.func70 h
end Go.Lx
namespace Go.Lx
open Go.Vc
theorem ownG_spec {z o E S S1 B f : Nat} {zv : Value} {nw : Int → List Value} (hvc : ∀ {la : Option Addr} {ln lc : Nat} {I : Imm} {F : Heap} {Q : PostQ} (Inv8 : Int → Nat → Imm → Heap → Imm → Heap → Prop) (Inv20 : Int → Int → Nat → Imm → Heap → Imm → Heap → Prop) (Inv36 : Option Addr → Nat → Nat → Int → Nat → Imm → Heap → Imm → Heap → Prop) (Inv51 : Option Addr → Nat → Nat → Int → Option Addr → Nat → Nat → Int → Nat → Imm → Heap → Imm → Heap → Prop) (Inv68 : Option Addr → Nat → Nat → Bool → Int → Nat → Imm → Heap → Imm → Heap → Prop) (Inv83 : Option Addr → Nat → Nat → Int → Int → Bool → Int → Nat → Imm → Heap → Imm → Heap → Prop) (Inv103 : Option Addr → Nat → Nat → Int → Int → Bool → Int → Nat → Imm → Heap → Imm → Heap → Prop), ownG.V z o E S S1 nw la ln lc I F Q Inv8 Inv20 Inv36 Inv51 Inv68 Inv83 Inv103 → Tri P f #[.slice la ln lc] I F Q)
    (ho : o < z) (hnl : ∀ v, (nw v).length = z) (hno : ∀ v, (nw v)[o]? = some (.int .i64 v)) (hn1 : ∀ v, ∀ u ∈ nw v, u.oneCell' = true) (h1 : P.underlying S = some (.slice E)) (h2 : (P.info? E).map (fun i => (i.zero, i.size, i.bytes)) = some (some zv, z, B)) (hzs : zv.cells.size = z) (hB : 1 ≤ B) (hB2 : B ≤ 1000)
    (h3 : P.underlying S1 = some (.slice S)) (h4 : (P.info? S).map (fun i => (i.zero, i.size, i.bytes)) = some (some (.slice none 0 0), 1, 24))
    {rs : List Row} {ls : List (List (Ck z))} {H F : Heap} {la : Option Addr} {ln lc : Nat} {I : Imm} (hS : Sl I 1 Row.enc la ln rs) (hH : RowsH z E rs ls H) (hb : Bd ls) (hrs : rs.length ≤ 1000000000) :
    Tri P f #[.slice la ln lc] I (H ++ F) fun e I' G => e = .returned (.bool true) ∧ G = F := by
  refine OwnPost.keep ?_
  have hln := hS.1
  refine hvc
    (fun i m I0 F0 I' F' => 0 ≤ i ∧ i ≤ ln ∧ m = (ln - i).toNat ∧ ∃ ls H, RowsH z E rs ls H ∧ F'.Perm (H ++ F) ∧ Bd ls ∧ ∀ (j : Nat) l, (j : Int) < i → ls[j]? = some l → MkAll o mkV j l)
    (fun i k m I0 F0 I' F' => 0 ≤ i ∧ 0 ≤ k ∧ ∃ r, rs[i.toNat]? = some r ∧ k ≤ r.n ∧ m = (r.n - k).toNat ∧ ∃ ls H, RowsH z E rs ls H ∧ F'.Perm (H ++ F) ∧ Bd ls ∧ (∀ (j : Nat) l, (j : Int) < i → ls[j]? = some l → MkAll o mkV j l) ∧
      ∀ l, ls[i.toNat]? = some l → MkTo o mkV i k l)
    (fun a n c i m I0 F0 I' F' => 0 ≤ i ∧ i ≤ ln ∧ m = (ln - i).toNat ∧ ∃ ls H xs Al, RowsH z E (rs.drop i.toNat) (ls.drop i.toNat) H ∧ Acc 1 Row.enc S a n c xs Al ∧ F'.Perm (Al ++ (H ++ F)) ∧ (xs.length : Int) = i ∧ Bd ls ∧
      (∀ (j : Nat) l, ls[j]? = some l → MkAll o mkV j l) ∧ ∀ (j : Nat) r x, (j : Int) < i → rs[j]? = some r → xs[j]? = some x → Done (z := z) o 8 mkV bhV I' j r x)
    (fun a n c i xa xn xc k m I0 F0 I' F' => 0 ≤ i ∧ i < ln ∧ 0 ≤ k ∧ k ≤ 8 ∧ m = (8 - k).toNat ∧ ∃ (ls : List (List (Ck z))) (H : Heap) (xs : List Row) (Al : Heap) (r : Row) (l t : List (Ck z)) (A : Heap), rs[i.toNat]? = some r ∧ RowsH z E (rs.drop (i.toNat + 1)) (ls.drop (i.toNat + 1)) H ∧ Acc 1 Row.enc S a n c xs Al ∧
      Acc z cv E xa xn xc (l ++ t) A ∧ F'.Perm (A ++ (Al ++ (H ++ F))) ∧ (xs.length : Int) = i ∧ Bd ls ∧ (∀ (j : Nat) l, ls[j]? = some l → MkAll o mkV j l) ∧ MkAll o mkV i l ∧ (t.length : Int) = k ∧ MkAll o bhV i t ∧ r.n = l.length ∧ l.length ≤ 1000000000 ∧
      (xa = r.a ∨ Sl I' z cv r.a r.n l) ∧ ∀ (j : Nat) r x, (j : Int) < i → rs[j]? = some r → xs[j]? = some x → Done (z := z) o 8 mkV bhV I' j r x)
    (fun a n c x i m I0 F0 I' F' => 0 ≤ i ∧ i ≤ ln ∧ m = (ln - i).toNat ∧ (∃ A, F'.Perm (A ++ F)) ∧ ∃ xs, SlG I' F' 1 Row.enc a n xs ∧ xs.length = ln ∧ ∀ (j : Nat) r x, rs[j]? = some r → xs[j]? = some x → Done (z := z) o 8 mkV bhV I' j r x)
    (fun a n c i nn x k m I0 F0 I' F' => 0 ≤ i ∧ i < ln ∧ 0 ≤ k ∧ (∃ r, rs[i.toNat]? = some r ∧ nn = r.n ∧ r.n ≤ 1000000000 ∧ k ≤ r.n ∧ m = (r.n - k).toNat) ∧ (∃ A, F'.Perm (A ++ F)) ∧ ∃ xs, SlG I' F' 1 Row.enc a n xs ∧ xs.length = ln ∧ ∀ (j : Nat) r x, rs[j]? = some r → xs[j]? = some x → Done (z := z) o 8 mkV bhV I' j r x)
    (fun a n c i nn x k m I0 F0 I' F' => 0 ≤ i ∧ i < ln ∧ 0 ≤ k ∧ k ≤ 8 ∧ m = (8 - k).toNat ∧ (∃ r, rs[i.toNat]? = some r ∧ nn = r.n ∧ r.n ≤ 1000000000) ∧ (∃ A, F'.Perm (A ++ F)) ∧ ∃ xs, SlG I' F' 1 Row.enc a n xs ∧ xs.length = ln ∧ ∀ (j : Nat) r x, rs[j]? = some r → xs[j]? = some x → Done (z := z) o 8 mkV bhV I' j r x) ?_
  unfold ownG.V
  refine ⟨⟨_, by omega, by omega, rfl, ls, H, hH, .refl _, hb, fun j l hj => by omega⟩, ?_⟩
  intro i m1 I1 F1 hI1 ⟨i0, i1, im, ls1, H1, hH1, hp1, hb1, hm1⟩
  have hS1 := hS.mono hI1
  refine ⟨fun hlt => ?_, fun hlt => ?_⟩
  · -- the marks of row i
    have hlt := of_decide_eq_true hlt
    obtain ⟨ad, r, had, hr, hrd⟩ := hS1.at (i := i) i0 (by omega)
    refine ⟨⟨_, i0, by omega, r, hr, by omega, rfl, ls1, H1, hH1, hp1, hb1, hm1, fun l _ q x _ hq => by omega⟩, ?_⟩
    intro k m3 I2 F2 hI2 ⟨_, k0, r', hr', k1, km, ls2, H2, hH2, hp2, hb2, hm2, hmk⟩
    obtain rfl : r = r' := by rw [hr] at hr'; exact Option.some.inj hr'
    have hrd2 := fun G => (hrd G).mono hI2
    refine ⟨⟨i0, by omega⟩, ad, had, _, _, _, hrd2 _, fun hk => ?_, fun hk => ?_⟩
    · have hk := of_decide_eq_true hk
      refine ⟨⟨i0, by omega⟩, ad, had, _, _, _, hrd2 _, spotV i k, (spot_spec i k I2 _).mono fun e I' G _ ⟨h1, h2⟩ => ⟨h1, by rw [h2]⟩, ⟨k0, by omega⟩, ?_⟩
      obtain ⟨l, A, R, hl, hA, hpA, hset⟩ := hH2.focus hr
      obtain ⟨b, cs, ha, hAe, hlen, hA'⟩ := hA.put (k := k.toNat) (o := o) (by omega) ho (mkV i k)
      obtain ⟨H3, hH3, hp3⟩ := hset _ _ hA'
      subst hAe
      refine ⟨⟨b, 0, none⟩, ha, cs, E, R ++ F, ?_, ?_, ?_, m3 - 1, by omega, ?_⟩
      · rw [add_add]; exact hp2.trans (List.Perm.append_right F hpA)
      · rw [add_add]
      · rw [add_add]; exact hlen
      · rw [add_add, w64 (by have := hb2 _ _ hl; have := hA.1; omega)]
        refine ⟨i0, by omega, r, hr, by omega, by omega, _, H3, hH3, ?_, hb2.set hl _, marks_set hm2 _ i0, fun l' hl' => ?_⟩
        · exact (List.Perm.append_right F hp3).symm
        · have hlt2 : i.toNat < ls2.length := (List.getElem?_eq_some_iff.1 hl).1
          rw [List.getElem?_set_self hlt2] at hl'
          obtain rfl : l.modify k.toNat (setC o (mkV i k)) = l' := Option.some.inj hl'
          exact (hmk l hl).step ho k0
    · have hk := of_decide_eq_false hk
      rw [w64 (by omega)]
      refine ⟨_, ?_, by omega, by omega, rfl, ls2, H2, hH2, hp2, hb2, fun j l hj hl => ?_⟩
      · omega
      · rcases Int.lt_or_eq_of_le (Int.lt_add_one_iff.1 hj) with h | h
        · exact hm2 j l h hl
        · have hji : j = i.toNat := by omega
          subst hji
          have hmk' := hmk l hl
          obtain ⟨l', A, R, hl', hA, _⟩ := hH2.focus hr
          obtain rfl : l' = l := by rw [hl'] at hl; exact Option.some.inj hl
          intro q x hx
          have hq := (List.getElem?_eq_some_iff.1 hx).1
          rw [h]
          exact hmk' q x hx (by have := hA.1; omega)
  · -- the rows grow
    have hlt := of_decide_eq_false hlt
    have hall : ∀ (j : Nat) l, ls1[j]? = some l → MkAll o mkV j l := fun j l hl => hm1 j l (by have := hH1.len; have := (List.getElem?_eq_some_iff.1 hl).1; omega) hl
    refine ⟨⟨_, by omega, by omega, rfl, ls1, H1, [], [], hH1, Acc.nil, hp1, rfl, hb1, hall, fun j r x hj => by omega⟩, ?_⟩
    intro a n c i m7 I4 F4 hI4 ⟨i0, i1, im, ls4, H4, xs, Al, hH4, hAl, hp4, hxl, hb4, hm4, hd4⟩
    have hS4 := hS1.mono hI4
    refine ⟨fun hlt => ?_, fun hlt => ?_⟩
    · have hlt := of_decide_eq_true hlt
      obtain ⟨ad, r, had, hr, hrd⟩ := hS4.at (i := i) i0 (by omega)
      obtain ⟨l, A, H5, hl, hHe, hA, hH5⟩ := hH4.drop hr
      subst hHe
      refine ⟨⟨i0, by omega⟩, ad, had, _, _, _, hrd _, ⟨_, i0, by omega, by omega, by omega, rfl, ls4, H5, xs, Al, r, l, [], A, hr, hH5, hAl, by rw [List.append_nil]; exact hA, ?_, hxl, hb4, hm4, by have := hm4 _ _ hl; rwa [Int.toNat_of_nonneg i0] at this, rfl, fun q x hx => by simp at hx, hA.1, hb4 _ _ hl, .inl rfl, hd4⟩, ?_⟩
      · refine hp4.trans ?_
        rw [List.append_assoc A H5 F, ← List.append_assoc Al A, ← List.append_assoc A Al]
        exact List.Perm.append_right _ List.perm_append_comm
      intro xa xn xc k m9 I5 F5 hI5 ⟨_, _, k0, k1, km, ls5, H5', xs5, Al5, r5, l5, t5, A5, hr5, hH5', hAl5, hA5, hp5, hxl5, hb5, hm5, hml5, ht5, hmt5, hrn5, hl5, hor5, hd5⟩
      obtain rfl : r = r5 := by rw [hr] at hr5; exact Option.some.inj hr5
      refine ⟨fun hk => ?_, fun hk => ?_⟩
      · have hk := of_decide_eq_true hk
        refine Tri.ret (behind_spec i k I5 _) fun I6 hI6 => ⟨_, rfl, F5, .refl _, ?_⟩
        intro b I7 hI7 hb7
        let y : Ck z := ⟨nw (behindV i k), hnl _⟩
        refine TriE.perm (TriE.mono (append_spec' (f := cv) (z := z) (zv := zv) cv_len (by' := B) h1 h2 hzs hB hA5 (xs := [y]) ?_ (by simp) rfl ?_ ?_ (F := Al5 ++ (H5' ++ F)))
          fun v I8 G3 hI8 ⟨a', n', c', A', hv, hA', hG, hor⟩ => ?_) hp5
        · intro x hx u hu
          rw [List.mem_singleton] at hx; subst hx
          exact hn1 _ u hu
        · exact ⟨rfl, _, _, _, .inl hb7, fun j hj => by simp [y, cv]⟩
        · rw [List.length_append, List.length_singleton]
          exact Nat.le_trans (Nat.mul_le_mul (show l5.length + t5.length + 1 ≤ 1000000009 by omega) hB2) (by decide)
        subst hG
        have hle8 : Imm.le I5 I8 := Imm.le_trans hI6 (Imm.le_trans hI7 hI8)
        refine ⟨_, _, _, hv, _, .refl _, m9 - 1, by omega, i0, by omega, by rw [w64 (by omega)]; omega, by rw [w64 (by omega)]; omega, by rw [w64 (by omega)]; omega,
          ls5, H5', xs5, Al5, r, l5, t5 ++ [y], A', hr, hH5', hAl5, by rw [← List.append_assoc]; exact hA', .refl _, hxl5, hb5, hm5, hml5, ?_, ?_, hrn5, hl5, ?_, fun j r x hj hr hx => (hd5 j r x hj hr hx).mono hle8⟩
        · rw [w64 (by omega), List.length_append, List.length_singleton]; omega
        · refine hmt5.snoc ?_
          show (nw (behindV i k))[o]? = _
          rw [hno, ht5]; rfl
        · rcases hor5 with h | h
          · rcases hor with h' | h'
            · exact .inl (h'.trans h)
            · right
              rw [← h, hrn5]
              exact Sl.prefix h'
          · exact .inr (h.mono hle8)
      · have hk := of_decide_eq_false hk
        intro b1 I9 hI9 hb9
        refine TriE.pre fun w hw => ?_
        obtain ⟨J, hJ, hsJ, hSx⟩ := hA5.keep cv_len (hw.perm hp5)
        have hle9 : Imm.le I5 J := Imm.le_trans hI9 hJ
        refine ⟨J, _, hJ, hsJ, ?_⟩
        refine TriE.mono (append_spec' (f := Row.enc) (z := 1) (zv := .slice none 0 0) (fun _ => rfl) (by' := 24) h3 h4 rfl (by decide) hAl5 (xs := [⟨xa, xn, xc⟩]) (fun x _ => rows_one x) (by simp) rfl ?_ ?_ (F := H5' ++ F))
          fun v I10 G4 hI10 ⟨a', n', c', A', hv, hA', hG, hor⟩ => ?_
        · exact ⟨rfl, _, _, _, .inl (hJ.at hb9), fun j hj => by simp [Row.enc]⟩
        · simp only [List.length_cons, List.length_nil]; omega
        subst hG
        have hle10 : Imm.le I5 I10 := Imm.le_trans hle9 hI10
        refine ⟨_, _, _, hv, _, .refl _, m7 - 1, by omega, by rw [w64 (by omega)]; omega, by rw [w64 (by omega)]; omega, by rw [w64 (by omega)]; omega, ls5, H5', xs5 ++ [⟨xa, xn, xc⟩], A', ?_, hA', .refl _, ?_, hb5, hm5, ?_⟩
        · rw [w64 (by omega), show (i + 1).toNat = i.toNat + 1 by omega]; exact hH5'
        · rw [w64 (by omega), List.length_append, List.length_singleton]; omega
        · intro j r' x' hj hr' hx'
          rw [w64 (by omega)] at hj
          rcases Int.lt_or_eq_of_le (Int.lt_add_one_iff.1 hj) with h | h
          · rw [List.getElem?_append_left (by omega)] at hx'
            exact (hd5 j r' x' h hr' hx').mono hle10
          · have hji : j = i.toNat := by omega
            subst hji
            obtain rfl : r = r' := by rw [hr] at hr'; exact Option.some.inj hr'
            have hx2 : x' = ⟨xa, xn, xc⟩ := by
              have : i.toNat = xs5.length := by omega
              rw [this, List.getElem?_append_right (Nat.le_refl _), Nat.sub_self] at hx'
              simpa using hx'.symm
            subst hx2
            rw [h]
            refine ⟨l5, t5, ?_, hml5, hSx.mono hI10, by omega, hmt5⟩
            rcases hor5 with h' | h'
            · rw [← h', hrn5]; exact (Sl.prefix hSx).mono hI10
            · exact h'.mono hle10
    · -- the look at all of them
      have hlt := of_decide_eq_false hlt
      have hxs : xs.length = ln := by omega
      refine ⟨⟨_, by omega, by omega, rfl, ⟨Al ++ H4, by rw [List.append_assoc]; exact hp4⟩, xs, (Acc.slg (z := 1) (f := Row.enc) (fun _ => rfl) hAl I4 (G := F4) fun x hx => hp4.mem_iff.2 (List.mem_append_left _ hx)), hxs,
        fun j r x hr hx => hd4 j r x (by have := (List.getElem?_eq_some_iff.1 hx).1; omega) hr hx⟩, ?_⟩
      intro x i m13 I11 F9 hI11 ⟨i0, i1, im, ⟨A9, hp9⟩, xs, hsl, hxs, hd⟩
      have hS11 := hS4.mono hI11
      refine ⟨fun hlt => ?_, fun hlt => ⟨rfl, A9, hp9⟩⟩
      have hlt := of_decide_eq_true hlt
      obtain ⟨ad, r, had, hr, hrd⟩ := hS11.at (i := i) i0 (by omega)
      obtain ⟨adx, xr, hadx, hxr, hrdx⟩ := hsl.at (i := i) i0 (by have := hsl.1; omega)
      have hrn : r.n ≤ 1000000000 := by
        obtain ⟨l, A, R, hl, hA, _⟩ := hH.focus hr
        have := hb _ _ hl
        have := hA.1
        omega
      refine ⟨⟨i0, by omega⟩, ad, had, _, _, _, hrd _, ⟨_, i0, by omega, by omega, ⟨r, hr, rfl, hrn, by omega, rfl⟩, ⟨A9, hp9⟩, xs, hsl, hxs, hd⟩, ?_⟩
      intro x1 k m15 I12 F10 hI12 ⟨_, _, k0, ⟨r', hr', hnn, _, k1, km⟩, ⟨A10, hp10⟩, xs2, hsl2, hxs2, hd2⟩
      obtain rfl : r = r' := by rw [hr] at hr'; exact Option.some.inj hr'
      obtain ⟨adx2, xr2, hadx2, hxr2, hrdx2⟩ := hsl2.at (i := i) i0 (by have := hsl2.1; omega)
      obtain ⟨l, t, hSl, hml, hSx, htl, hmt⟩ := hd2 _ _ _ hr hxr2
      have hrl := hSl.1
      have hxl := hSx.1
      rw [List.length_append] at hxl
      have hrd2 := fun G => (hrd G).mono hI12
      have hii : ((i.toNat : Nat) : Int) = i := Int.toNat_of_nonneg i0
      rw [hii] at hml hmt
      refine ⟨fun hk => ?_, fun hk => ?_⟩
      · have hk := of_decide_eq_true hk
        obtain ⟨ad6, y, ha6, hy, hrd6⟩ := hSl.at (i := k) k0 (by omega)
        have hyv := hml _ _ hy
        have hkk : ((k.toNat : Nat) : Int) = k := Int.toNat_of_nonneg k0
        rw [hkk] at hyv
        obtain ⟨ad8, y', ha8, hy', hrd8⟩ := hSx.at (i := k) k0 (by omega)
        obtain rfl : y = y' := by
          rw [List.getElem?_append_left (by omega), hy] at hy'; exact Option.some.inj hy'
        have hsp : ∀ X : Heap, Tri P 94 #[.int .i64 i, .int .i64 k] I12 X fun e I' G => e = .returned (.int .i64 (spotV i k)) ∧ G.Perm X := fun X => (spot_spec i k I12 X).mono fun e I' G _ ⟨h1, h2⟩ => ⟨h1, by rw [h2]⟩
        refine ⟨⟨i0, by omega⟩, ad, had, _, _, _, hrd2 _, ⟨k0, by omega⟩, ad6, ha6, spotV i k, (hrd6 _).field hyv, spotV i k, hsp _, fun h => by simp at h, fun _ => ⟨⟨i0, by have := hsl2.1; omega⟩, adx2, hadx2, _, _, _, hrdx2, ⟨k0, by omega⟩, ad8, ha8, spotV i k, (hrd8 _).field hyv, spotV i k, hsp _, fun h => by simp at h, fun _ => ?_⟩⟩
        rw [w64 (by omega)]
        exact ⟨_, by omega, i0, by omega, by omega, ⟨r, hr, hnn, hrn, by omega, rfl⟩, ⟨A10, hp10⟩, xs2, hsl2, hxs2, hd2⟩
      · have hk := of_decide_eq_false hk
        refine ⟨⟨_, i0, by omega, by omega, by omega, rfl, ⟨r, hr, rfl, hrn⟩, ⟨A10, hp10⟩, xs2, hsl2, hxs2, hd2⟩, ?_⟩
        intro x2 k3 m20 I15 F11 hI15 ⟨_, _, k0', k1', km', ⟨r', hr', hnn', _⟩, ⟨A11, hp11⟩, xs3, hsl3, hxs3, hd3⟩
        refine ⟨fun hk => ?_, fun hk => ?_⟩
        · have hk := of_decide_eq_true hk
          obtain ⟨adx3, xr3, hadx3, hxr3, hrdx3⟩ := hsl3.at (i := i) i0 (by have := hsl3.1; omega)
          obtain ⟨l3, t3, hSl3, hml3, hSx3, htl3, hmt3⟩ := hd3 _ _ _ hr hxr3
          have hrl3 := hSl3.1
          have hxl3 := hSx3.1
          rw [List.length_append] at hxl3
          rw [hii] at hmt3
          rw [w64 (by omega)]
          obtain ⟨ad10, y, ha10, hy, hrd10⟩ := hSx3.at (i := ((r.n : Nat) : Int) + k3) (by omega) (by omega)
          rw [List.getElem?_append_right (by omega), show (((r.n : Nat) : Int) + k3).toNat - l3.length = k3.toNat by omega] at hy
          have hyv := hmt3 _ _ hy
          have hkk : ((k3.toNat : Nat) : Int) = k3 := Int.toNat_of_nonneg k0'
          rw [hkk] at hyv
          refine ⟨⟨i0, by have := hsl3.1; omega⟩, adx3, hadx3, _, _, _, hrdx3, ⟨by omega, by omega⟩, ad10, ha10, behindV i k3, (hrd10 _).field hyv, behindV i k3, (behind_spec i k3 I15 _).mono fun e I' G _ ⟨h1, h2⟩ => ⟨h1, by rw [h2]⟩, fun h => by simp at h, fun _ => ?_⟩
          rw [w64 (by omega)]
          exact ⟨_, by omega, i0, by omega, by omega, by omega, rfl, ⟨r, hr, rfl, hrn⟩, ⟨A11, hp11⟩, xs3, hsl3, hxs3, hd3⟩
        · rw [w64 (by omega)]
          exact ⟨_, by omega, by omega, by omega, rfl, ⟨A11, hp11⟩, xs3, hsl3, hxs3, hd3⟩
end Go.Lx
namespace Go.Lx
open Go.Vc
theorem ownTokens_spec {rs : List Row} {ls : List (List (Ck 5))} {H F : Heap} {la : Option Addr} {ln lc : Nat} {I : Imm} (hS : Sl I 1 Row.enc la ln rs) (hH : RowsH 5 142 rs ls H) (hb : Bd ls) (hrs : rs.length ≤ 1000000000) : Tri P 61 #[.slice la ln lc] I (H ++ F) fun e I' G => e = .returned (.bool true) ∧ G = F :=
  ownG_spec (zv := .agg #[.int .u8 0, .string (⟨#[]⟩ : ByteArray), .int .u8 0, .int .i64 0, .int .i64 0]) (B := 48) ref00_ownTokens.vc (by decide) (fun _ => rfl) (fun _ => rfl) (fun v u hu => List.all_eq_true.1 (rfl : List.all [Value.int .u8 0, Value.string (⟨#[]⟩ : ByteArray), Value.int .u8 0, Value.int .i64 0, Value.int .i64 v] (fun u => u.oneCell') = true) u hu) (by kernel_rfl) (by kernel_rfl) rfl (by decide) (by decide) (by kernel_rfl) (by kernel_rfl) hS hH hb hrs
theorem ownNodes_spec {rs : List Row} {ls : List (List (Ck 8))} {H F : Heap} {la : Option Addr} {ln lc : Nat} {I : Imm} (hS : Sl I 1 Row.enc la ln rs) (hH : RowsH 8 55 rs ls H) (hb : Bd ls) (hrs : rs.length ≤ 1000000000) : Tri P 62 #[.slice la ln lc] I (H ++ F) fun e I' G => e = .returned (.bool true) ∧ G = F :=
  ownG_spec (zv := .agg #[.int .u8 0, .int .u8 0, .int .u8 0, .int .i64 0, .int .u8 0, .string (⟨#[]⟩ : ByteArray), .slice none 0 0, .int .i64 0]) (B := 72) ref00_ownNodes.vc (by decide) (fun _ => rfl) (fun _ => rfl) (fun v u hu => List.all_eq_true.1 (rfl : List.all [Value.int .u8 0, Value.int .u8 0, Value.int .u8 0, Value.int .i64 0, Value.int .u8 0, Value.string (⟨#[]⟩ : ByteArray), Value.slice none 0 0, Value.int .i64 v] (fun u => u.oneCell') = true) u hu) (by kernel_rfl) (by kernel_rfl) rfl (by decide) (by decide) (by kernel_rfl) (by kernel_rfl) hS hH hb hrs
theorem ownRegs_spec {rs : List Row} {ls : List (List (Ck 11))} {H F : Heap} {la : Option Addr} {ln lc : Nat} {I : Imm} (hS : Sl I 1 Row.enc la ln rs) (hH : RowsH 11 75 rs ls H) (hb : Bd ls) (hrs : rs.length ≤ 1000000000) : Tri P 63 #[.slice la ln lc] I (H ++ F) fun e I' G => e = .returned (.bool true) ∧ G = F :=
  ownG_spec (zv := .agg #[.string (⟨#[]⟩ : ByteArray), .int .u8 0, .int .u8 0, .int .u8 0, .int .u8 0, .int .i64 0, .int .u8 0, .string (⟨#[]⟩ : ByteArray), .slice none 0 0, .int .i64 0, .int .i64 0]) (B := 104) ref00_ownRegs.vc (by decide) (fun _ => rfl) (fun _ => rfl) (fun v u hu => List.all_eq_true.1 (rfl : List.all [Value.string (⟨#[]⟩ : ByteArray), Value.int .u8 0, Value.int .u8 0, Value.int .u8 0, Value.int .u8 0, Value.int .i64 0, Value.int .u8 0, Value.string (⟨#[]⟩ : ByteArray), Value.slice none 0 0, Value.int .i64 0, Value.int .i64 v] (fun u => u.oneCell') = true) u hu) (by kernel_rfl) (by kernel_rfl) rfl (by decide) (by decide) (by kernel_rfl) (by kernel_rfl) hS hH hb hrs
theorem ownSlots_spec {rs : List Row} {ls : List (List (Ck 2))} {H F : Heap} {la : Option Addr} {ln lc : Nat} {I : Imm} (hS : Sl I 1 Row.enc la ln rs) (hH : RowsH 2 77 rs ls H) (hb : Bd ls) (hrs : rs.length ≤ 1000000000) : Tri P 64 #[.slice la ln lc] I (H ++ F) fun e I' G => e = .returned (.bool true) ∧ G = F :=
  ownG_spec (zv := .agg #[.string (⟨#[]⟩ : ByteArray), .int .i64 0]) (B := 24) ref00_ownSlots.vc (by decide) (fun _ => rfl) (fun _ => rfl) (fun v u hu => List.all_eq_true.1 (rfl : List.all [Value.string (⟨#[]⟩ : ByteArray), Value.int .i64 v] (fun u => u.oneCell') = true) u hu) (by kernel_rfl) (by kernel_rfl) rfl (by decide) (by decide) (by kernel_rfl) (by kernel_rfl) hS hH hb hrs
theorem ownDos_spec {rs : List Row} {ls : List (List (Ck 36))} {H F : Heap} {la : Option Addr} {ln lc : Nat} {I : Imm} (hS : Sl I 1 Row.enc la ln rs) (hH : RowsH 36 89 rs ls H) (hb : Bd ls) (hrs : rs.length ≤ 1000000000) : Tri P 65 #[.slice la ln lc] I (H ++ F) fun e I' G => e = .returned (.bool true) ∧ G = F :=
  ownG_spec (zv := .agg #[.int .u8 0, .int .u8 0, .string (⟨#[]⟩ : ByteArray), .int .u8 0, .int .u8 0, .int .u8 0, .int .i64 0, .int .u8 0, .string (⟨#[]⟩ : ByteArray), .slice none 0 0, .int .i64 0, .int .u8 0, .int .u8 0, .int .u8 0, .int .i64 0, .int .u8 0, .string (⟨#[]⟩ : ByteArray), .slice none 0 0, .int .i64 0, .int .u8 0, .int .u8 0, .int .u8 0, .int .i64 0, .int .u8 0, .string (⟨#[]⟩ : ByteArray), .slice none 0 0, .int .i64 0, .int .u8 0, .int .u8 0, .int .u8 0, .int .i64 0, .int .u8 0, .string (⟨#[]⟩ : ByteArray), .slice none 0 0, .int .i64 0, .int .i64 0]) (B := 320) ref00_ownDos.vc (by decide) (fun _ => rfl) (fun _ => rfl) (fun v u hu => List.all_eq_true.1 (rfl : List.all [Value.int .u8 0, Value.int .u8 0, Value.string (⟨#[]⟩ : ByteArray), Value.int .u8 0, Value.int .u8 0, Value.int .u8 0, Value.int .i64 0, Value.int .u8 0, Value.string (⟨#[]⟩ : ByteArray), Value.slice none 0 0, Value.int .i64 0, Value.int .u8 0, Value.int .u8 0, Value.int .u8 0, Value.int .i64 0, Value.int .u8 0, Value.string (⟨#[]⟩ : ByteArray), Value.slice none 0 0, Value.int .i64 0, Value.int .u8 0, Value.int .u8 0, Value.int .u8 0, Value.int .i64 0, Value.int .u8 0, Value.string (⟨#[]⟩ : ByteArray), Value.slice none 0 0, Value.int .i64 0, Value.int .u8 0, Value.int .u8 0, Value.int .u8 0, Value.int .i64 0, Value.int .u8 0, Value.string (⟨#[]⟩ : ByteArray), Value.slice none 0 0, Value.int .i64 0, Value.int .i64 v] (fun u => u.oneCell') = true) u hu) (by kernel_rfl) (by kernel_rfl) rfl (by decide) (by decide) (by kernel_rfl) (by kernel_rfl) hS hH hb hrs
theorem ownRules_spec {rs : List Row} {ls : List (List (Ck 10))} {H F : Heap} {la : Option Addr} {ln lc : Nat} {I : Imm} (hS : Sl I 1 Row.enc la ln rs) (hH : RowsH 10 67 rs ls H) (hb : Bd ls) (hrs : rs.length ≤ 1000000000) : Tri P 66 #[.slice la ln lc] I (H ++ F) fun e I' G => e = .returned (.bool true) ∧ G = F :=
  ownG_spec (zv := .agg #[.int .u8 0, .int .u8 0, .int .u8 0, .int .i64 0, .int .u8 0, .string (⟨#[]⟩ : ByteArray), .slice none 0 0, .int .i64 0, .slice none 0 0, .int .i64 0]) (B := 104) ref00_ownRules.vc (by decide) (fun _ => rfl) (fun _ => rfl) (fun v u hu => List.all_eq_true.1 (rfl : List.all [Value.int .u8 0, Value.int .u8 0, Value.int .u8 0, Value.int .i64 0, Value.int .u8 0, Value.string (⟨#[]⟩ : ByteArray), Value.slice none 0 0, Value.int .i64 0, Value.slice none 0 0, Value.int .i64 v] (fun u => u.oneCell') = true) u hu) (by kernel_rfl) (by kernel_rfl) rfl (by decide) (by decide) (by kernel_rfl) (by kernel_rfl) hS hH hb hrs
theorem ownStates_spec {rs : List Row} {ls : List (List (Ck 3))} {H F : Heap} {la : Option Addr} {ln lc : Nat} {I : Imm} (hS : Sl I 1 Row.enc la ln rs) (hH : RowsH 3 70 rs ls H) (hb : Bd ls) (hrs : rs.length ≤ 1000000000) : Tri P 67 #[.slice la ln lc] I (H ++ F) fun e I' G => e = .returned (.bool true) ∧ G = F :=
  ownG_spec (zv := .agg #[.string (⟨#[]⟩ : ByteArray), .slice none 0 0, .int .i64 0]) (B := 48) ref00_ownStates.vc (by decide) (fun _ => rfl) (fun _ => rfl) (fun v u hu => List.all_eq_true.1 (rfl : List.all [Value.string (⟨#[]⟩ : ByteArray), Value.slice none 0 0, Value.int .i64 v] (fun u => u.oneCell') = true) u hu) (by kernel_rfl) (by kernel_rfl) rfl (by decide) (by decide) (by kernel_rfl) (by kernel_rfl) hS hH hb hrs
theorem ownInstrs_spec {rs : List Row} {ls : List (List (Ck 2))} {H F : Heap} {la : Option Addr} {ln lc : Nat} {I : Imm} (hS : Sl I 1 Row.enc la ln rs) (hH : RowsH 2 146 rs ls H) (hb : Bd ls) (hrs : rs.length ≤ 1000000000) : Tri P 68 #[.slice la ln lc] I (H ++ F) fun e I' G => e = .returned (.bool true) ∧ G = F :=
  ownG_spec (zv := .agg #[.int .u8 0, .int .i64 0]) (B := 16) ref00_ownInstrs.vc (by decide) (fun _ => rfl) (fun _ => rfl) (fun v u hu => List.all_eq_true.1 (rfl : List.all [Value.int .u8 0, Value.int .i64 v] (fun u => u.oneCell') = true) u hu) (by kernel_rfl) (by kernel_rfl) rfl (by decide) (by decide) (by kernel_rfl) (by kernel_rfl) hS hH hb hrs
theorem ownRows_spec {rs : List Row} {ls : List (List (Ck 11))} {H F : Heap} {la : Option Addr} {ln lc : Nat} {I : Imm} (hS : Sl I 1 Row.enc la ln rs) (hH : RowsH 11 151 rs ls H) (hb : Bd ls) (hrs : rs.length ≤ 1000000000) : Tri P 69 #[.slice la ln lc] I (H ++ F) fun e I' G => e = .returned (.bool true) ∧ G = F :=
  ownG_spec (zv := .agg #[.int .u8 0, .int .u8 0, .int .i64 0, .int .i64 0, .int .i64 0, .int .i64 0, .int .i64 0, .int .i64 0, .int .i64 0, .int .i64 0, .int .i64 0]) (B := 80) ref00_ownRows.vc (by decide) (fun _ => rfl) (fun _ => rfl) (fun v u hu => List.all_eq_true.1 (rfl : List.all [Value.int .u8 0, Value.int .u8 0, Value.int .i64 v, Value.int .i64 0, Value.int .i64 0, Value.int .i64 0, Value.int .i64 0, Value.int .i64 0, Value.int .i64 0, Value.int .i64 0, Value.int .i64 0] (fun u => u.oneCell') = true) u hu) (by kernel_rfl) (by kernel_rfl) rfl (by decide) (by decide) (by kernel_rfl) (by kernel_rfl) hS hH hb hrs
theorem ownGuards_spec {rs : List Row} {ls : List (List (Ck 5))} {H F : Heap} {la : Option Addr} {ln lc : Nat} {I : Imm} (hS : Sl I 1 Row.enc la ln rs) (hH : RowsH 5 154 rs ls H) (hb : Bd ls) (hrs : rs.length ≤ 1000000000) :
    Tri P 70 #[.slice la ln lc] I (H ++ F) fun e I' G => e = .returned (.bool true) ∧ G = F := by
  refine OwnPost.keep ?_
  have hln := hS.1
  refine ref00_ownGuards.vc
    (fun i m I0 F0 I' F' => 0 ≤ i ∧ i ≤ ln ∧ m = (ln - i).toNat ∧ ∃ ls H, RowsH 5 154 rs ls H ∧ F'.Perm (H ++ F) ∧ Bd ls ∧ ∀ (j : Nat) l, (j : Int) < i → ls[j]? = some l → MkAll 0 mkV j l)
    (fun i k m I0 F0 I' F' => 0 ≤ i ∧ 0 ≤ k ∧ ∃ r, rs[i.toNat]? = some r ∧ k ≤ r.n ∧ m = (r.n - k).toNat ∧ ∃ ls H, RowsH 5 154 rs ls H ∧ F'.Perm (H ++ F) ∧ Bd ls ∧ (∀ (j : Nat) l, (j : Int) < i → ls[j]? = some l → MkAll 0 mkV j l) ∧
      ∀ l, ls[i.toNat]? = some l → MkTo 0 mkV i k l)
    (fun a n c i m I0 F0 I' F' => 0 ≤ i ∧ i ≤ ln ∧ m = (ln - i).toNat ∧ ∃ ls H xs Al, RowsH 5 154 (rs.drop i.toNat) (ls.drop i.toNat) H ∧ Acc 1 Row.enc 152 a n c xs Al ∧ F'.Perm (Al ++ (H ++ F)) ∧ (xs.length : Int) = i ∧ Bd ls ∧
      (∀ (j : Nat) l, ls[j]? = some l → MkAll 0 mkV j l) ∧ ∀ (j : Nat) r x, (j : Int) < i → rs[j]? = some r → xs[j]? = some x → Done (z := 5) 0 8 mkV bhV I' j r x)
    (fun a n c i xa xn xc k m I0 F0 I' F' => 0 ≤ i ∧ i < ln ∧ 0 ≤ k ∧ k ≤ 8 ∧ m = (8 - k).toNat ∧ ∃ (ls : List (List (Ck 5))) (H : Heap) (xs : List Row) (Al : Heap) (r : Row) (l t : List (Ck 5)) (A : Heap), rs[i.toNat]? = some r ∧ RowsH 5 154 (rs.drop (i.toNat + 1)) (ls.drop (i.toNat + 1)) H ∧ Acc 1 Row.enc 152 a n c xs Al ∧
      Acc 5 cv 154 xa xn xc (l ++ t) A ∧ F'.Perm (A ++ (Al ++ (H ++ F))) ∧ (xs.length : Int) = i ∧ Bd ls ∧ (∀ (j : Nat) l, ls[j]? = some l → MkAll 0 mkV j l) ∧ MkAll 0 mkV i l ∧ (t.length : Int) = k ∧ MkAll 0 bhV i t ∧ r.n = l.length ∧ l.length ≤ 1000000000 ∧
      (xa = r.a ∨ Sl I' 5 cv r.a r.n l) ∧ ∀ (j : Nat) r x, (j : Int) < i → rs[j]? = some r → xs[j]? = some x → Done (z := 5) 0 8 mkV bhV I' j r x)
    (fun a n c x i m I0 F0 I' F' => 0 ≤ i ∧ i ≤ ln ∧ m = (ln - i).toNat ∧ (∃ A, F'.Perm (A ++ F)) ∧ ∃ xs, SlG I' F' 1 Row.enc a n xs ∧ xs.length = ln ∧ ∀ (j : Nat) r x, rs[j]? = some r → xs[j]? = some x → Done (z := 5) 0 8 mkV bhV I' j r x)
    (fun a n c i nn x k m I0 F0 I' F' => 0 ≤ i ∧ i < ln ∧ 0 ≤ k ∧ (∃ r, rs[i.toNat]? = some r ∧ nn = r.n ∧ r.n ≤ 1000000000 ∧ k ≤ r.n ∧ m = (r.n - k).toNat) ∧ (∃ A, F'.Perm (A ++ F)) ∧ ∃ xs, SlG I' F' 1 Row.enc a n xs ∧ xs.length = ln ∧ ∀ (j : Nat) r x, rs[j]? = some r → xs[j]? = some x → Done (z := 5) 0 8 mkV bhV I' j r x)
    (fun a n c i nn x k m I0 F0 I' F' => 0 ≤ i ∧ i < ln ∧ 0 ≤ k ∧ k ≤ 8 ∧ m = (8 - k).toNat ∧ (∃ r, rs[i.toNat]? = some r ∧ nn = r.n ∧ r.n ≤ 1000000000) ∧ (∃ A, F'.Perm (A ++ F)) ∧ ∃ xs, SlG I' F' 1 Row.enc a n xs ∧ xs.length = ln ∧ ∀ (j : Nat) r x, rs[j]? = some r → xs[j]? = some x → Done (z := 5) 0 8 mkV bhV I' j r x) ?_
  unfold ref00_ownGuards.V
  refine ⟨⟨_, by omega, by omega, rfl, ls, H, hH, .refl _, hb, fun j l hj => by omega⟩, ?_⟩
  intro i m1 I1 F1 hI1 ⟨i0, i1, im, ls1, H1, hH1, hp1, hb1, hm1⟩
  have hS1 := hS.mono hI1
  refine ⟨fun hlt => ?_, fun hlt => ?_⟩
  · -- the marks of row i
    have hlt := of_decide_eq_true hlt
    obtain ⟨ad, r, had, hr, hrd⟩ := hS1.at (i := i) i0 (by omega)
    refine ⟨⟨_, i0, by omega, r, hr, by omega, rfl, ls1, H1, hH1, hp1, hb1, hm1, fun l _ q x _ hq => by omega⟩, ?_⟩
    intro k m3 I2 F2 hI2 ⟨_, k0, r', hr', k1, km, ls2, H2, hH2, hp2, hb2, hm2, hmk⟩
    obtain rfl : r = r' := by rw [hr] at hr'; exact Option.some.inj hr'
    have hrd2 := fun G => (hrd G).mono hI2
    refine ⟨⟨i0, by omega⟩, ad, had, _, _, _, hrd2 _, fun hk => ?_, fun hk => ?_⟩
    · have hk := of_decide_eq_true hk
      refine ⟨⟨i0, by omega⟩, ad, had, _, _, _, hrd2 _, spotV i k, (spot_spec i k I2 _).mono fun e I' G _ ⟨h1, h2⟩ => ⟨h1, by rw [h2]⟩, ⟨k0, by omega⟩, ?_⟩
      obtain ⟨l, A, R, hl, hA, hpA, hset⟩ := hH2.focus hr
      obtain ⟨b, cs, ha, hAe, hlen, hA'⟩ := hA.put (k := k.toNat) (o := 0) (by omega) (by decide) (mkV i k)
      obtain ⟨H3, hH3, hp3⟩ := hset _ _ hA'
      subst hAe
      refine ⟨⟨b, 0, none⟩, ha, cs, 154, R ++ F, ?_, ?_, ?_, m3 - 1, by omega, ?_⟩
      · rw [add_add2]; exact hp2.trans (List.Perm.append_right F hpA)
      · rw [add_add2]
      · rw [add_add2]; exact hlen
      · rw [add_add2, w64 (by have := hb2 _ _ hl; have := hA.1; omega)]
        refine ⟨i0, by omega, r, hr, by omega, by omega, _, H3, hH3, ?_, hb2.set hl _, marks_set hm2 _ i0, fun l' hl' => ?_⟩
        · exact (List.Perm.append_right F hp3).symm
        · have hlt2 : i.toNat < ls2.length := (List.getElem?_eq_some_iff.1 hl).1
          rw [List.getElem?_set_self hlt2] at hl'
          obtain rfl : l.modify k.toNat (setC 0 (mkV i k)) = l' := Option.some.inj hl'
          exact (hmk l hl).step (by decide) k0
    · have hk := of_decide_eq_false hk
      rw [w64 (by omega)]
      refine ⟨_, ?_, by omega, by omega, rfl, ls2, H2, hH2, hp2, hb2, fun j l hj hl => ?_⟩
      · omega
      · rcases Int.lt_or_eq_of_le (Int.lt_add_one_iff.1 hj) with h | h
        · exact hm2 j l h hl
        · have hji : j = i.toNat := by omega
          subst hji
          have hmk' := hmk l hl
          obtain ⟨l', A, R, hl', hA, _⟩ := hH2.focus hr
          obtain rfl : l' = l := by rw [hl'] at hl; exact Option.some.inj hl
          intro q x hx
          have hq := (List.getElem?_eq_some_iff.1 hx).1
          rw [h]
          exact hmk' q x hx (by have := hA.1; omega)
  · -- the rows grow
    have hlt := of_decide_eq_false hlt
    have hall : ∀ (j : Nat) l, ls1[j]? = some l → MkAll 0 mkV j l := fun j l hl => hm1 j l (by have := hH1.len; have := (List.getElem?_eq_some_iff.1 hl).1; omega) hl
    refine ⟨⟨_, by omega, by omega, rfl, ls1, H1, [], [], hH1, Acc.nil, hp1, rfl, hb1, hall, fun j r x hj => by omega⟩, ?_⟩
    intro a n c i m7 I4 F4 hI4 ⟨i0, i1, im, ls4, H4, xs, Al, hH4, hAl, hp4, hxl, hb4, hm4, hd4⟩
    have hS4 := hS1.mono hI4
    refine ⟨fun hlt => ?_, fun hlt => ?_⟩
    · have hlt := of_decide_eq_true hlt
      obtain ⟨ad, r, had, hr, hrd⟩ := hS4.at (i := i) i0 (by omega)
      obtain ⟨l, A, H5, hl, hHe, hA, hH5⟩ := hH4.drop hr
      subst hHe
      refine ⟨⟨i0, by omega⟩, ad, had, _, _, _, hrd _, ⟨_, i0, by omega, by omega, by omega, rfl, ls4, H5, xs, Al, r, l, [], A, hr, hH5, hAl, by rw [List.append_nil]; exact hA, ?_, hxl, hb4, hm4, by have := hm4 _ _ hl; rwa [Int.toNat_of_nonneg i0] at this, rfl, fun q x hx => by simp at hx, hA.1, hb4 _ _ hl, .inl rfl, hd4⟩, ?_⟩
      · refine hp4.trans ?_
        rw [List.append_assoc A H5 F, ← List.append_assoc Al A, ← List.append_assoc A Al]
        exact List.Perm.append_right _ List.perm_append_comm
      intro xa xn xc k m9 I5 F5 hI5 ⟨_, _, k0, k1, km, ls5, H5', xs5, Al5, r5, l5, t5, A5, hr5, hH5', hAl5, hA5, hp5, hxl5, hb5, hm5, hml5, ht5, hmt5, hrn5, hl5, hor5, hd5⟩
      obtain rfl : r = r5 := by rw [hr] at hr5; exact Option.some.inj hr5
      refine ⟨fun hk => ?_, fun hk => ?_⟩
      · have hk := of_decide_eq_true hk
        refine Tri.ret (behind_spec i k I5 _) fun I6 hI6 => ⟨_, rfl, F5, .refl _, ?_⟩
        intro b I7 hI7 hb7
        let y : Ck 5 := ⟨[bhV i k, .int .i64 0, .int .u16 0, .int .u16 0, .slice none 0 0], rfl⟩
        refine TriE.perm (TriE.mono (append_spec' (f := cv) (z := 5) (zv := .agg #[.int .i64 0, .int .i64 0, .int .u16 0, .int .u16 0, .slice none 0 0]) cv_len (by' := 48) (by kernel_rfl) (by kernel_rfl) rfl (by decide) hA5 (xs := [y]) ?_ (by simp) rfl ?_ ?_ (F := Al5 ++ (H5' ++ F)))
          fun v I8 G3 hI8 ⟨a', n', c', A', hv, hA', hG, hor⟩ => ?_) hp5
        · intro x hx u hu
          rw [List.mem_singleton] at hx; subst hx
          exact List.all_eq_true.1 (show (cv y).all (fun u => u.oneCell') = true from rfl) u hu
        · exact ⟨rfl, _, _, _, .inl hb7, fun j hj => by simp [y, cv, bhV]⟩
        · rw [List.length_append]; simp only [List.length_cons, List.length_nil]; omega
        subst hG
        have hle8 : Imm.le I5 I8 := Imm.le_trans hI6 (Imm.le_trans hI7 hI8)
        refine ⟨_, _, _, hv, _, .refl _, m9 - 1, by omega, i0, by omega, by rw [w64 (by omega)]; omega, by rw [w64 (by omega)]; omega, by rw [w64 (by omega)]; omega,
          ls5, H5', xs5, Al5, r, l5, t5 ++ [y], A', hr, hH5', hAl5, by rw [← List.append_assoc]; exact hA', .refl _, hxl5, hb5, hm5, hml5, ?_, ?_, hrn5, hl5, ?_, fun j r x hj hr hx => (hd5 j r x hj hr hx).mono hle8⟩
        · rw [w64 (by omega), List.length_append, List.length_singleton]; omega
        · refine hmt5.snoc ?_
          show some (bhV i k) = _
          rw [ht5]
        · rcases hor5 with h | h
          · rcases hor with h' | h'
            · exact .inl (h'.trans h)
            · right
              rw [← h, hrn5]
              exact Sl.prefix h'
          · exact .inr (h.mono hle8)
      · have hk := of_decide_eq_false hk
        intro b1 I9 hI9 hb9
        refine TriE.pre fun w hw => ?_
        obtain ⟨J, hJ, hsJ, hSx⟩ := hA5.keep cv_len (hw.perm hp5)
        have hle9 : Imm.le I5 J := Imm.le_trans hI9 hJ
        refine ⟨J, _, hJ, hsJ, ?_⟩
        refine TriE.mono (append_spec' (f := Row.enc) (z := 1) (zv := .slice none 0 0) (fun _ => rfl) (by' := 24) (by kernel_rfl) (by kernel_rfl) rfl (by decide) hAl5 (xs := [⟨xa, xn, xc⟩]) (fun x _ => rows_one x) (by simp) rfl ?_ ?_ (F := H5' ++ F))
          fun v I10 G4 hI10 ⟨a', n', c', A', hv, hA', hG, hor⟩ => ?_
        · exact ⟨rfl, _, _, _, .inl (hJ.at hb9), fun j hj => by simp [Row.enc]⟩
        · simp only [List.length_cons, List.length_nil]; omega
        subst hG
        have hle10 : Imm.le I5 I10 := Imm.le_trans hle9 hI10
        refine ⟨_, _, _, hv, _, .refl _, m7 - 1, by omega, by rw [w64 (by omega)]; omega, by rw [w64 (by omega)]; omega, by rw [w64 (by omega)]; omega, ls5, H5', xs5 ++ [⟨xa, xn, xc⟩], A', ?_, hA', .refl _, ?_, hb5, hm5, ?_⟩
        · rw [w64 (by omega), show (i + 1).toNat = i.toNat + 1 by omega]; exact hH5'
        · rw [w64 (by omega), List.length_append, List.length_singleton]; omega
        · intro j r' x' hj hr' hx'
          rw [w64 (by omega)] at hj
          rcases Int.lt_or_eq_of_le (Int.lt_add_one_iff.1 hj) with h | h
          · rw [List.getElem?_append_left (by omega)] at hx'
            exact (hd5 j r' x' h hr' hx').mono hle10
          · have hji : j = i.toNat := by omega
            subst hji
            obtain rfl : r = r' := by rw [hr] at hr'; exact Option.some.inj hr'
            have hx2 : x' = ⟨xa, xn, xc⟩ := by
              have : i.toNat = xs5.length := by omega
              rw [this, List.getElem?_append_right (Nat.le_refl _), Nat.sub_self] at hx'
              simpa using hx'.symm
            subst hx2
            rw [h]
            refine ⟨l5, t5, ?_, hml5, hSx.mono hI10, by omega, hmt5⟩
            rcases hor5 with h' | h'
            · rw [← h', hrn5]; exact (Sl.prefix hSx).mono hI10
            · exact h'.mono hle10
    · -- the look at all of them
      have hlt := of_decide_eq_false hlt
      have hxs : xs.length = ln := by omega
      refine ⟨⟨_, by omega, by omega, rfl, ⟨Al ++ H4, by rw [List.append_assoc]; exact hp4⟩, xs, (Acc.slg (z := 1) (f := Row.enc) (fun _ => rfl) hAl I4 (G := F4) fun x hx => hp4.mem_iff.2 (List.mem_append_left _ hx)), hxs,
        fun j r x hr hx => hd4 j r x (by have := (List.getElem?_eq_some_iff.1 hx).1; omega) hr hx⟩, ?_⟩
      intro x i m13 I11 F9 hI11 ⟨i0, i1, im, ⟨A9, hp9⟩, xs, hsl, hxs, hd⟩
      have hS11 := hS4.mono hI11
      refine ⟨fun hlt => ?_, fun hlt => ⟨rfl, A9, hp9⟩⟩
      have hlt := of_decide_eq_true hlt
      obtain ⟨ad, r, had, hr, hrd⟩ := hS11.at (i := i) i0 (by omega)
      obtain ⟨adx, xr, hadx, hxr, hrdx⟩ := hsl.at (i := i) i0 (by have := hsl.1; omega)
      have hrn : r.n ≤ 1000000000 := by
        obtain ⟨l, A, R, hl, hA, _⟩ := hH.focus hr
        have := hb _ _ hl
        have := hA.1
        omega
      refine ⟨⟨i0, by omega⟩, ad, had, _, _, _, hrd _, ⟨_, i0, by omega, by omega, ⟨r, hr, rfl, hrn, by omega, rfl⟩, ⟨A9, hp9⟩, xs, hsl, hxs, hd⟩, ?_⟩
      intro x1 k m15 I12 F10 hI12 ⟨_, _, k0, ⟨r', hr', hnn, _, k1, km⟩, ⟨A10, hp10⟩, xs2, hsl2, hxs2, hd2⟩
      obtain rfl : r = r' := by rw [hr] at hr'; exact Option.some.inj hr'
      obtain ⟨adx2, xr2, hadx2, hxr2, hrdx2⟩ := hsl2.at (i := i) i0 (by have := hsl2.1; omega)
      obtain ⟨l, t, hSl, hml, hSx, htl, hmt⟩ := hd2 _ _ _ hr hxr2
      have hrl := hSl.1
      have hxl := hSx.1
      rw [List.length_append] at hxl
      have hrd2 := fun G => (hrd G).mono hI12
      have hii : ((i.toNat : Nat) : Int) = i := Int.toNat_of_nonneg i0
      rw [hii] at hml hmt
      refine ⟨fun hk => ?_, fun hk => ?_⟩
      · have hk := of_decide_eq_true hk
        obtain ⟨ad6, y, ha6, hy, hrd6⟩ := hSl.at (i := k) k0 (by omega)
        have hyv := hml _ _ hy
        have hkk : ((k.toNat : Nat) : Int) = k := Int.toNat_of_nonneg k0
        rw [hkk] at hyv
        obtain ⟨ad8, y', ha8, hy', hrd8⟩ := hSx.at (i := k) k0 (by omega)
        obtain rfl : y = y' := by
          rw [List.getElem?_append_left (by omega), hy] at hy'; exact Option.some.inj hy'
        have hsp : ∀ X : Heap, Tri P 94 #[.int .i64 i, .int .i64 k] I12 X fun e I' G => e = .returned (.int .i64 (spotV i k)) ∧ G.Perm X := fun X => (spot_spec i k I12 X).mono fun e I' G _ ⟨h1, h2⟩ => ⟨h1, by rw [h2]⟩
        refine ⟨⟨i0, by omega⟩, ad, had, _, _, _, hrd2 _, ⟨k0, by omega⟩, ad6, ha6, spotV i k, (hrd6 _).field2 (p := 0) (q := 0) hyv, spotV i k, hsp _, fun h => by simp at h, fun _ => ⟨⟨i0, by have := hsl2.1; omega⟩, adx2, hadx2, _, _, _, hrdx2, ⟨k0, by omega⟩, ad8, ha8, spotV i k, (hrd8 _).field2 (p := 0) (q := 0) hyv, spotV i k, hsp _, fun h => by simp at h, fun _ => ?_⟩⟩
        rw [w64 (by omega)]
        exact ⟨_, by omega, i0, by omega, by omega, ⟨r, hr, hnn, hrn, by omega, rfl⟩, ⟨A10, hp10⟩, xs2, hsl2, hxs2, hd2⟩
      · have hk := of_decide_eq_false hk
        refine ⟨⟨_, i0, by omega, by omega, by omega, rfl, ⟨r, hr, rfl, hrn⟩, ⟨A10, hp10⟩, xs2, hsl2, hxs2, hd2⟩, ?_⟩
        intro x2 k3 m20 I15 F11 hI15 ⟨_, _, k0', k1', km', ⟨r', hr', hnn', _⟩, ⟨A11, hp11⟩, xs3, hsl3, hxs3, hd3⟩
        refine ⟨fun hk => ?_, fun hk => ?_⟩
        · have hk := of_decide_eq_true hk
          obtain ⟨adx3, xr3, hadx3, hxr3, hrdx3⟩ := hsl3.at (i := i) i0 (by have := hsl3.1; omega)
          obtain ⟨l3, t3, hSl3, hml3, hSx3, htl3, hmt3⟩ := hd3 _ _ _ hr hxr3
          have hrl3 := hSl3.1
          have hxl3 := hSx3.1
          rw [List.length_append] at hxl3
          rw [hii] at hmt3
          rw [w64 (by omega)]
          obtain ⟨ad10, y, ha10, hy, hrd10⟩ := hSx3.at (i := ((r.n : Nat) : Int) + k3) (by omega) (by omega)
          rw [List.getElem?_append_right (by omega), show (((r.n : Nat) : Int) + k3).toNat - l3.length = k3.toNat by omega] at hy
          have hyv := hmt3 _ _ hy
          have hkk : ((k3.toNat : Nat) : Int) = k3 := Int.toNat_of_nonneg k0'
          rw [hkk] at hyv
          refine ⟨⟨i0, by have := hsl3.1; omega⟩, adx3, hadx3, _, _, _, hrdx3, ⟨by omega, by omega⟩, ad10, ha10, behindV i k3, (hrd10 _).field2 (p := 0) (q := 0) hyv, behindV i k3, (behind_spec i k3 I15 _).mono fun e I' G _ ⟨h1, h2⟩ => ⟨h1, by rw [h2]⟩, fun h => by simp at h, fun _ => ?_⟩
          rw [w64 (by omega)]
          exact ⟨_, by omega, i0, by omega, by omega, by omega, rfl, ⟨r, hr, rfl, hrn⟩, ⟨A11, hp11⟩, xs3, hsl3, hxs3, hd3⟩
        · rw [w64 (by omega)]
          exact ⟨_, by omega, by omega, by omega, rfl, ⟨A11, hp11⟩, xs3, hsl3, hxs3, hd3⟩
end Go.Lx
namespace Go.Lx
open Go.Vc
def shT_o2 : List (Nat × List Sh) := [(2, [.one (.int .i64)]), (3, [.one (.int .i64)]), (4, [.one .bool]), (34, [.one .slc]), (35, [.one .slc]), (36, [.one .slc]), (37, [.one .slc]), (38, [.one .slc]), (39, [.one .slc]), (40, [.one .slc]), (41, [.one .slc]), (42, [.one .slc]), (43, [.one .slc]), (44, [.one .slc]), (45, [.one .slc]), (152, [.one .slc]), (155, [.one .slc])]
def ref00_ownWhole.V (vi : Int → Value) (vl : OA → Nat → Nat → Value) (vt : Bool → Value) (wr : Int → Int) (g : OA) (f a1 : Nat) (I : Imm) (F : Heap) (Q : PostQ) (Inv8 : Int → Nat → Imm → Heap → Imm → Heap → Prop) (Inv20 : Int → Int → Nat → Imm → Heap → Imm → Heap → Prop) (Inv36 : OA → Nat → Nat → Int → Nat → Imm → Heap → Imm → Heap → Prop) (Inv51 : OA → Nat → Nat → Int → OA → Nat → Nat → Int → Nat → Imm → Heap → Imm → Heap → Prop) (Inv68 : OA → Nat → Nat → Bool → Int → Nat → Imm → Heap → Imm → Heap → Prop) (Inv83 : OA → Nat → Nat → Int → Int → Bool → Int → Nat → Imm → Heap → Imm → Heap → Prop) (Inv103 : OA → Nat → Nat → Int → Int → Bool → Int → Nat → Imm → Heap → Imm → Heap → Prop) : Prop := (∃ m : Nat, Inv8 0 m I F I F) ∧ ∀ (i : Int) (m1 : Nat) (I1 : Imm) (F1 : Heap), Imm.le I I1 → Inv8 i m1 I F I1 F1 → ((decide (i < ((f : Nat) : Int)) = true → (∃ m2 : Nat, Inv20 i 0 m2 I1 F1 I1 F1) ∧ ∀ (k : Int) (m3 : Nat) (I2 : Imm) (F2 : Heap), Imm.le I1 I2 → Inv20 i k m3 I1 F1 I2 F2 → ((0 ≤ i ∧ i < (f : Int)) ∧ ∃ ad : Addr, g = some ad ∧ ∃ (aW : OA) (h aX : Nat), Rd I2 (F2) (ad.add (Int.toNat (i) * 1)) [vl aW h aX] ∧ ((decide (k < ((h : Nat) : Int)) = true → ((0 ≤ i ∧ i < (f : Int)) ∧ ∃ ay : Addr, g = some ay ∧ ∃ (aL : OA) (aM aN : Nat), Rd I2 (F2) (ay.add (Int.toNat (i) * 1)) [vl aL aM aN] ∧ ∃ (r : Int), (Tri P 94 (#[vi i, vi k]) I2 (F2) fun e1 I3 G1 => e1 = .returned (vi r) ∧ List.Perm G1 (F2)) ∧ False)) ∧ (decide (k < ((h : Nat) : Int)) = false → (∃ m4 : Nat, m4 < m1 ∧ Inv8 (wr (i + 1)) m4 I F I2 F2))))) ∧ (decide (i < ((f : Nat) : Int)) = false → (∃ m5 : Nat, Inv36 none 0 0 0 m5 I1 F1 I1 F1) ∧ ∀ (a : OA) (c d : Nat) (i1 : Int) (m6 : Nat) (I4 : Imm) (F3 : Heap), Imm.le I1 I4 → Inv36 a c d i1 m6 I1 F1 I4 F3 → ((decide (i1 < ((f : Nat) : Int)) = true → ((0 ≤ i1 ∧ i1 < (f : Int)) ∧ ∃ az : Addr, g = some az ∧ ∃ (j : OA) (l n : Nat), Rd I4 (F3) (az.add (Int.toNat (i1) * 1)) [vl j l n] ∧ (∃ m7 : Nat, Inv51 a c d i1 j l n 0 m7 I4 F3 I4 F3) ∧ ∀ (o : OA) (p q : Nat) (k1 : Int) (m8 : Nat) (I5 : Imm) (F4 : Heap), Imm.le I4 I5 → Inv51 a c d i1 o p q k1 m8 I4 F3 I5 F4 → ((decide (k1 < 8) = true → Tri P 95 (#[vi i1, vi k1]) I5 (F4) fun e2 I6 G2 => ∃ (r1 : Int), e2 = .returned (vi r1) ∧ ∃ F5 : Heap, List.Perm G2 (F5) ∧ ∀ (b : Nat) (I7 : Imm), Imm.le I6 I7 → I7 b = some (Obj.cells #[vi r1, vi 0, .int .u16 0, .int .u16 0, vl none 0 0] 154 (0, 0)) → ∀ (b1 : Nat) (I8 : Imm), Imm.le I7 I8 → I8 b1 = some (Obj.cells #[vl (some ⟨b, 0, none⟩) 1 1] 152 (0, 0)) → TriE P (Builtin.append_ #[42, 42] 42 #[vl o p q, vl (some ⟨b1, 0, none⟩) 1 1]) I8 (F5) fun v I9 G3 => ∃ (aq : OA) (ar au : Nat), v = vl aq ar au ∧ ∃ F6 : Heap, List.Perm G3 (F6) ∧ (∃ m9 : Nat, m9 < m8 ∧ Inv51 a c d i1 aq ar au (wr (k1 + 1)) m9 I4 F3 I9 F6)) ∧ (decide (k1 < 8) = false → ∀ (b2 : Nat) (I10 : Imm), Imm.le I5 I10 → I10 b2 = some (Obj.cells #[vl o p q] 42 (0, 0)) → TriE P (Builtin.append_ #[44, 44] 44 #[vl a c d, vl (some ⟨b2, 0, none⟩) 1 1]) I10 (F4) fun v1 I11 G4 => ∃ (s : OA) (t u : Nat), v1 = vl s t u ∧ ∃ F7 : Heap, List.Perm G4 (F7) ∧ (∃ aA : Nat, aA < m6 ∧ Inv36 s t u (wr (i1 + 1)) aA I1 F1 I11 F7))))) ∧ (decide (i1 < ((f : Nat) : Int)) = false → (∃ aY : Nat, Inv68 a c d false 0 aY I4 F3 I4 F3) ∧ ∀ (x : Bool) (i2 : Int) (av : Nat) (I12 : Imm) (F8 : Heap), Imm.le I4 I12 → Inv68 a c d x i2 av I4 F3 I12 F8 → ((decide (i2 < ((f : Nat) : Int)) = true → ((0 ≤ i2 ∧ i2 < (f : Int)) ∧ ∃ aB : Addr, g = some aB ∧ ∃ (aO : OA) (e aP : Nat), Rd I12 (F8) (aB.add (Int.toNat (i2) * 1)) [vl aO e aP] ∧ (∃ aZ : Nat, Inv83 a c d i2 ((e : Nat) : Int) x 0 aZ I12 F8 I12 F8) ∧ ∀ (x1 : Bool) (k2 : Int) (aw : Nat) (I13 : Imm) (F9 : Heap), Imm.le I12 I13 → Inv83 a c d i2 ((e : Nat) : Int) x1 k2 aw I12 F8 I13 F9 → ((decide (k2 < ((e : Nat) : Int)) = true → ((0 ≤ i2 ∧ i2 < (f : Int)) ∧ ∃ aC : Addr, g = some aC ∧ ∃ (w : OA) (y aQ : Nat), Rd I13 (F9) (aC.add (Int.toNat (i2) * 1)) [vl w y aQ] ∧ ((0 ≤ k2 ∧ k2 < (y : Int)) ∧ ∃ aD : Addr, w = some aD ∧ ∃ (z : OA) (aa aR : Nat), Rd I13 (F9) (aD.add (Int.toNat (k2) * 1)) [vl z aa aR] ∧ ((0 ≤ (0 : Int) ∧ (0 : Int) < (aa : Int)) ∧ ∃ aE : Addr, z = some aE ∧ ∃ (ab : Int), Rd I13 (F9) (((aE.add (Int.toNat (0) * 5)).add 0).add 0) [vi ab] ∧ ∃ (r2 : Int), (Tri P 94 (#[vi i2, vi k2]) I13 (F9) fun e3 I14 G5 => e3 = .returned (vi r2) ∧ List.Perm G5 (F9)) ∧ (((ab != r2) = true → Q (.returned (vt false)) I13 (F9)) ∧ ((ab != r2) = false → ((0 ≤ i2 ∧ i2 < (c : Int)) ∧ ∃ aF : Addr, a = some aF ∧ ∃ (ac : OA) (ae aS : Nat), Rd I13 (F9) (aF.add (Int.toNat (i2) * 1)) [vl ac ae aS] ∧ ((0 ≤ k2 ∧ k2 < (ae : Int)) ∧ ∃ aG : Addr, ac = some aG ∧ ∃ (af : OA) (ag aT : Nat), Rd I13 (F9) (aG.add (Int.toNat (k2) * 1)) [vl af ag aT] ∧ ((0 ≤ (0 : Int) ∧ (0 : Int) < (ag : Int)) ∧ ∃ aH : Addr, af = some aH ∧ ∃ (ah : Int), Rd I13 (F9) (((aH.add (Int.toNat (0) * 5)).add 0).add 0) [vi ah] ∧ ∃ (r3 : Int), (Tri P 94 (#[vi i2, vi k2]) I13 (F9) fun e4 I15 G6 => e4 = .returned (vi r3) ∧ List.Perm G6 (F9)) ∧ (((ah != r3) = true → Q (.returned (vt false)) I13 (F9)) ∧ ((ah != r3) = false → (∃ aI : Nat, aI < aw ∧ Inv83 a c d i2 ((e : Nat) : Int) x1 (wr (k2 + 1)) aI I12 F8 I13 F9)))))))))))) ∧ (decide (k2 < ((e : Nat) : Int)) = false → (∃ a0 : Nat, Inv103 a c d i2 ((e : Nat) : Int) x1 0 a0 I13 F9 I13 F9) ∧ ∀ (x2 : Bool) (k3 : Int) (ax : Nat) (I16 : Imm) (F10 : Heap), Imm.le I13 I16 → Inv103 a c d i2 ((e : Nat) : Int) x2 k3 ax I13 F9 I16 F10 → ((decide (k3 < 8) = true → ((0 ≤ i2 ∧ i2 < (c : Int)) ∧ ∃ an : Addr, a = some an ∧ ∃ (ai : OA) (aj aU : Nat), Rd I16 (F10) (an.add (Int.toNat (i2) * 1)) [vl ai aj aU] ∧ ((0 ≤ (wr (((e : Nat) : Int) + k3)) ∧ (wr (((e : Nat) : Int) + k3)) < (aj : Int)) ∧ ∃ ao : Addr, ai = some ao ∧ ∃ (ak : OA) (al aV : Nat), Rd I16 (F10) (ao.add (Int.toNat (wr (((e : Nat) : Int) + k3)) * 1)) [vl ak al aV] ∧ ((0 ≤ (0 : Int) ∧ (0 : Int) < (al : Int)) ∧ ∃ ap : Addr, ak = some ap ∧ ∃ (am : Int), Rd I16 (F10) (((ap.add (Int.toNat (0) * 5)).add 0).add 0) [vi am] ∧ ∃ (r4 : Int), (Tri P 95 (#[vi i2, vi k3]) I16 (F10) fun e5 I17 G7 => e5 = .returned (vi r4) ∧ List.Perm G7 (F10)) ∧ (((am != r4) = true → Q (.returned (vt false)) I16 (F10)) ∧ ((am != r4) = false → (∃ aJ : Nat, aJ < ax ∧ Inv103 a c d i2 ((e : Nat) : Int) x2 (wr (k3 + 1)) aJ I13 F9 I16 F10))))))) ∧ (decide (k3 < 8) = false → (∃ aK : Nat, aK < av ∧ Inv68 a c d x2 (wr (i2 + 1)) aK I4 F3 I16 F10))))))) ∧ (decide (i2 < ((f : Nat) : Int)) = false → Q (.returned (vt true)) I12 (F8)))))))
theorem ref00_ownWhole.vc {l_a : OA} {l_n l_c : Nat} {I : Imm} {F : Heap} {Q : PostQ} (Inv8 : Int → Nat → Imm → Heap → Imm → Heap → Prop) (Inv20 : Int → Int → Nat → Imm → Heap → Imm → Heap → Prop) (Inv36 : OA → Nat → Nat → Int → Nat → Imm → Heap → Imm → Heap → Prop) (Inv51 : OA → Nat → Nat → Int → OA → Nat → Nat → Int → Nat → Imm → Heap → Imm → Heap → Prop) (Inv68 : OA → Nat → Nat → Bool → Int → Nat → Imm → Heap → Imm → Heap → Prop) (Inv83 : OA → Nat → Nat → Int → Int → Bool → Int → Nat → Imm → Heap → Imm → Heap → Prop) (Inv103 : OA → Nat → Nat → Int → Int → Bool → Int → Nat → Imm → Heap → Imm → Heap → Prop) (h : ref00_ownWhole.V (.int .i64) .slice .bool (IntKind.wrap .i64) l_a l_n l_c I F Q Inv8 Inv20 Inv36 Inv51 Inv68 Inv83 Inv103) : Tri P 71 #[.slice l_a l_n l_c] I (F) Q :=
  tv (A := (annL [3003, 6006, 10003, 14001, 19003, 23002, 25014, 25030, 28001, 30016] [] [94, 95] shT_o2 [(8, ⟨[(4, (.int .i64))], [], fun fs I0 F0 vs m I F => match fs, vs with | [], [.int _ y0] => Inv8 y0 m I0 F0 I F | _, _ => False, [], []⟩), (20, ⟨[(5, (.int .i64))], [], fun fs I0 F0 vs m I F => match fs, vs with | [.int _ y0], [.int _ y1] => Inv20 y0 y1 m I0 F0 I F | _, _ => False, [4], []⟩), (36, ⟨[(3, .slc), (6, (.int .i64))], [], fun fs I0 F0 vs m I F => match fs, vs with | [], [.slice y0 y1 y2, .int _ y3] => Inv36 y0 y1 y2 y3 m I0 F0 I F | _, _ => False, [], []⟩), (51, ⟨[(7, .slc), (8, (.int .i64))], [], fun fs I0 F0 vs m I F => match fs, vs with | [.slice y0 y1 y2, .int _ y3], [.slice y4 y5 y6, .int _ y7] => Inv51 y0 y1 y2 y3 y4 y5 y6 y7 m I0 F0 I F | _, _ => False, [3, 6], []⟩), (68, ⟨[(2, .bool), (9, (.int .i64))], [], fun fs I0 F0 vs m I F => match fs, vs with | [.slice y0 y1 y2], [.bool y3, .int _ y4] => Inv68 y0 y1 y2 y3 y4 m I0 F0 I F | _, _ => False, [3], []⟩), (83, ⟨[(2, .bool), (11, (.int .i64))], [], fun fs I0 F0 vs m I F => match fs, vs with | [.slice y0 y1 y2, .int _ y3, .int _ y4], [.bool y5, .int _ y6] => Inv83 y0 y1 y2 y3 y4 y5 y6 m I0 F0 I F | _, _ => False, [3, 9, 10], []⟩), (103, ⟨[(2, .bool), (12, (.int .i64))], [], fun fs I0 F0 vs m I F => match fs, vs with | [.slice y0 y1 y2, .int _ y3, .int _ y4], [.bool y5, .int _ y6] => Inv103 y0 y1 y2 y3 y4 y5 y6 m I0 F0 I F | _, _ => False, [3, 9, 10], []⟩)] [16006, 16007, 17002] [] [] [] [] [])) (args := [.a (.v (.slice l_a l_n l_c))]) (own := []) (keep := []) [94, 95] Go.Proofs.Tryz.func71 h
def ref00_ownLongs.V (vi : Int → Value) (vl : OA → Nat → Nat → Value) (vt : Bool → Value) (wr : Int → Int) (g : OA) (c aQ : Nat) (I : Imm) (F : Heap) (Q : PostQ) (Inv6 : Int → Nat → Imm → Heap → Imm → Heap → Prop) (Inv18 : Int → Nat → Imm → Heap → Imm → Heap → Prop) (Inv36 : OA → Nat → Nat → Int → Nat → Imm → Heap → Imm → Heap → Prop) (Inv51 : Int → Int → OA → Nat → Nat → Int → Nat → Imm → Heap → Imm → Heap → Prop) (Inv68 : Int → Bool → Int → Nat → Imm → Heap → Imm → Heap → Prop) (Inv83 : Int → Int → Int → Bool → Int → Nat → Imm → Heap → Imm → Heap → Prop) (Inv103 : Int → Int → Int → Bool → Int → Nat → Imm → Heap → Imm → Heap → Prop) : Prop := (∃ m : Nat, Inv6 0 m I F I F) ∧ ∀ (i : Int) (m1 : Nat) (I1 : Imm) (F1 : Heap), Imm.le I I1 → Inv6 i m1 I F I1 F1 → ((decide (i < ((c : Nat) : Int)) = true → (∃ m2 : Nat, Inv18 0 m2 I1 F1 I1 F1) ∧ ∀ (k : Int) (m3 : Nat) (I2 : Imm) (F2 : Heap), Imm.le I1 I2 → Inv18 k m3 I1 F1 I2 F2 → ((0 ≤ i ∧ i < (c : Int)) ∧ ∃ ad : Addr, g = some ad ∧ ∃ (aL : OA) (j aM : Nat), Rd I2 (F2) (ad.add (Int.toNat (i) * 1)) [vl aL j aM] ∧ ((decide (k < ((j : Nat) : Int)) = true → ((0 ≤ i ∧ i < (c : Int)) ∧ ∃ aq : Addr, g = some aq ∧ ∃ (l : OA) (n aF : Nat), Rd I2 (F2) (aq.add (Int.toNat (i) * 1)) [vl l n aF] ∧ ((0 ≤ k ∧ k < (n : Int)) ∧ ∃ f : Addr, l = some f ∧ ∃ (cs : List Value) (el : Nat) (F3 : Heap), List.Perm F2 (((f.add (Int.toNat (k) * 1)).block, Obj.cells cs.toArray el (0, 0)) :: F3) ∧ (f.add (Int.toNat (k) * 1)).spot = none ∧ (f.add (Int.toNat (k) * 1)).off + 1 ≤ cs.length ∧ (∃ m4 : Nat, m4 < m3 ∧ Inv18 (wr (k + 1)) m4 I1 F1 I2 (((f.add (Int.toNat (k) * 1)).block, Obj.cells (splice (f.add (Int.toNat (k) * 1)).off [vi (wr ((wr (i * 1000)) + k))] cs).toArray el (0, 0)) :: F3))))) ∧ (decide (k < ((j : Nat) : Int)) = false → (∃ m5 : Nat, m5 < m1 ∧ Inv6 (wr (i + 1)) m5 I F I2 F2))))) ∧ (decide (i < ((c : Nat) : Int)) = false → (∃ m6 : Nat, Inv36 none 0 0 0 m6 I1 F1 I1 F1) ∧ ∀ (d : OA) (e h : Nat) (i1 : Int) (m7 : Nat) (I3 : Imm) (F4 : Heap), Imm.le I1 I3 → Inv36 d e h i1 m7 I1 F1 I3 F4 → ((decide (i1 < ((c : Nat) : Int)) = true → ((0 ≤ i1 ∧ i1 < (c : Int)) ∧ ∃ ar : Addr, g = some ar ∧ ∃ (o : OA) (p q : Nat), Rd I3 (F4) (ar.add (Int.toNat (i1) * 1)) [vl o p q] ∧ (∃ m8 : Nat, Inv51 i i1 o p q 0 m8 I3 F4 I3 F4) ∧ ∀ (r : OA) (s t : Nat) (k1 : Int) (m9 : Nat) (I4 : Imm) (F5 : Heap), Imm.le I3 I4 → Inv51 i i1 r s t k1 m9 I3 F4 I4 F5 → ((decide (k1 < 16) = true → ∀ (b : Nat) (I5 : Imm), Imm.le I4 I5 → I5 b = some (Obj.cells #[vi (wr ((wr ((wr ((-1) - i1)) * 1000)) - k1))] 2 (0, 0)) → TriE P (Builtin.append_ #[155, 155] 155 #[vl r s t, vl (some ⟨b, 0, none⟩) 1 1]) I5 (F5) fun v I6 G1 => ∃ (ak : OA) (al am : Nat), v = vl ak al am ∧ ∃ F6 : Heap, List.Perm G1 (F6) ∧ (∃ au : Nat, au < m9 ∧ Inv51 i i1 ak al am (wr (k1 + 1)) au I3 F4 I6 F6)) ∧ (decide (k1 < 16) = false → ∀ (b1 : Nat) (I7 : Imm), Imm.le I4 I7 → I7 b1 = some (Obj.cells #[vl r s t] 155 (0, 0)) → TriE P (Builtin.append_ #[45, 45] 45 #[vl d e h, vl (some ⟨b1, 0, none⟩) 1 1]) I7 (F5) fun v1 I8 G2 => ∃ (u : OA) (w y : Nat), v1 = vl u w y ∧ ∃ F7 : Heap, List.Perm G2 (F7) ∧ (∃ av : Nat, av < m7 ∧ Inv36 u w y (wr (i1 + 1)) av I1 F1 I8 F7))))) ∧ (decide (i1 < ((c : Nat) : Int)) = false → (∃ aN : Nat, Inv68 i false 0 aN I3 F4 I3 F4) ∧ ∀ (x : Bool) (i2 : Int) (an : Nat) (I9 : Imm) (F8 : Heap), Imm.le I3 I9 → Inv68 i x i2 an I3 F4 I9 F8 → ((decide (i2 < ((c : Nat) : Int)) = true → ((0 ≤ i2 ∧ i2 < (c : Int)) ∧ ∃ aw : Addr, g = some aw ∧ ∃ (aG : OA) (a aH : Nat), Rd I9 (F8) (aw.add (Int.toNat (i2) * 1)) [vl aG a aH] ∧ (∃ aO : Nat, Inv83 i i2 ((a : Nat) : Int) x 0 aO I9 F8 I9 F8) ∧ ∀ (x1 : Bool) (k2 : Int) (ao : Nat) (I10 : Imm) (F9 : Heap), Imm.le I9 I10 → Inv83 i i2 ((a : Nat) : Int) x1 k2 ao I9 F8 I10 F9 → ((decide (k2 < ((a : Nat) : Int)) = true → ((0 ≤ i2 ∧ i2 < (c : Int)) ∧ ∃ ax : Addr, g = some ax ∧ ∃ (z : OA) (aa aI : Nat), Rd I10 (F9) (ax.add (Int.toNat (i2) * 1)) [vl z aa aI] ∧ ((0 ≤ k2 ∧ k2 < (aa : Int)) ∧ ∃ ay : Addr, z = some ay ∧ ∃ (ab : Int), Rd I10 (F9) (ay.add (Int.toNat (k2) * 1)) [vi ab] ∧ (((ab != (wr ((wr (i2 * 1000)) + k2))) = true → Q (.returned (vt false)) I10 (F9)) ∧ ((ab != (wr ((wr (i2 * 1000)) + k2))) = false → ((0 ≤ i2 ∧ i2 < (e : Int)) ∧ ∃ az : Addr, d = some az ∧ ∃ (ac : OA) (ae aJ : Nat), Rd I10 (F9) (az.add (Int.toNat (i2) * 1)) [vl ac ae aJ] ∧ ((0 ≤ k2 ∧ k2 < (ae : Int)) ∧ ∃ aA : Addr, ac = some aA ∧ ∃ (af : Int), Rd I10 (F9) (aA.add (Int.toNat (k2) * 1)) [vi af] ∧ (((af != (wr ((wr (i2 * 1000)) + k2))) = true → Q (.returned (vt false)) I10 (F9)) ∧ ((af != (wr ((wr (i2 * 1000)) + k2))) = false → (∃ aB : Nat, aB < ao ∧ Inv83 i i2 ((a : Nat) : Int) x1 (wr (k2 + 1)) aB I9 F8 I10 F9)))))))))) ∧ (decide (k2 < ((a : Nat) : Int)) = false → (∃ aP : Nat, Inv103 i i2 ((a : Nat) : Int) x1 0 aP I10 F9 I10 F9) ∧ ∀ (x2 : Bool) (k3 : Int) (ap : Nat) (I11 : Imm) (F10 : Heap), Imm.le I10 I11 → Inv103 i i2 ((a : Nat) : Int) x2 k3 ap I10 F9 I11 F10 → ((decide (k3 < 16) = true → ((0 ≤ i2 ∧ i2 < (e : Int)) ∧ ∃ aC : Addr, d = some aC ∧ ∃ (ag : OA) (ah aK : Nat), Rd I11 (F10) (aC.add (Int.toNat (i2) * 1)) [vl ag ah aK] ∧ ((0 ≤ (wr (((a : Nat) : Int) + k3)) ∧ (wr (((a : Nat) : Int) + k3)) < (ah : Int)) ∧ ∃ aj : Addr, ag = some aj ∧ ∃ (ai : Int), Rd I11 (F10) (aj.add (Int.toNat (wr (((a : Nat) : Int) + k3)) * 1)) [vi ai] ∧ (((ai != (wr ((wr ((wr ((-1) - i2)) * 1000)) - k3))) = true → Q (.returned (vt false)) I11 (F10)) ∧ ((ai != (wr ((wr ((wr ((-1) - i2)) * 1000)) - k3))) = false → (∃ aD : Nat, aD < ap ∧ Inv103 i i2 ((a : Nat) : Int) x2 (wr (k3 + 1)) aD I10 F9 I11 F10)))))) ∧ (decide (k3 < 16) = false → (∃ aE : Nat, aE < an ∧ Inv68 i x2 (wr (i2 + 1)) aE I3 F4 I11 F10))))))) ∧ (decide (i2 < ((c : Nat) : Int)) = false → Q (.returned (vt true)) I9 (F8)))))))
theorem ref00_ownLongs.vc {l_a : OA} {l_n l_c : Nat} {I : Imm} {F : Heap} {Q : PostQ} (Inv6 : Int → Nat → Imm → Heap → Imm → Heap → Prop) (Inv18 : Int → Nat → Imm → Heap → Imm → Heap → Prop) (Inv36 : OA → Nat → Nat → Int → Nat → Imm → Heap → Imm → Heap → Prop) (Inv51 : Int → Int → OA → Nat → Nat → Int → Nat → Imm → Heap → Imm → Heap → Prop) (Inv68 : Int → Bool → Int → Nat → Imm → Heap → Imm → Heap → Prop) (Inv83 : Int → Int → Int → Bool → Int → Nat → Imm → Heap → Imm → Heap → Prop) (Inv103 : Int → Int → Int → Bool → Int → Nat → Imm → Heap → Imm → Heap → Prop) (h : ref00_ownLongs.V (.int .i64) .slice .bool (IntKind.wrap .i64) l_a l_n l_c I F Q Inv6 Inv18 Inv36 Inv51 Inv68 Inv83 Inv103) : Tri P 72 #[.slice l_a l_n l_c] I (F) Q :=
  tv (A := (annL [2003, 5006, 10003, 14001, 19003, 23002, 25011, 25024, 28001, 30014] [] [] shT_o2 [(6, ⟨[(3, (.int .i64))], [], fun fs I0 F0 vs m I F => match fs, vs with | [], [.int _ y0] => Inv6 y0 m I0 F0 I F | _, _ => False, [], []⟩), (18, ⟨[(4, (.int .i64))], [], fun fs I0 F0 vs m I F => match fs, vs with | [], [.int _ y0] => Inv18 y0 m I0 F0 I F | _, _ => False, [], []⟩), (36, ⟨[(5, .slc), (6, (.int .i64))], [], fun fs I0 F0 vs m I F => match fs, vs with | [], [.slice y0 y1 y2, .int _ y3] => Inv36 y0 y1 y2 y3 m I0 F0 I F | _, _ => False, [], []⟩), (51, ⟨[(7, .slc), (8, (.int .i64))], [], fun fs I0 F0 vs m I F => match fs, vs with | [.int _ y0, .int _ y1], [.slice y2 y3 y4, .int _ y5] => Inv51 y0 y1 y2 y3 y4 y5 m I0 F0 I F | _, _ => False, [3, 6], []⟩), (68, ⟨[(2, .bool), (9, (.int .i64))], [], fun fs I0 F0 vs m I F => match fs, vs with | [.int _ y0], [.bool y1, .int _ y2] => Inv68 y0 y1 y2 m I0 F0 I F | _, _ => False, [3], []⟩), (83, ⟨[(2, .bool), (11, (.int .i64))], [], fun fs I0 F0 vs m I F => match fs, vs with | [.int _ y0, .int _ y1, .int _ y2], [.bool y3, .int _ y4] => Inv83 y0 y1 y2 y3 y4 m I0 F0 I F | _, _ => False, [3, 9, 10], []⟩), (103, ⟨[(2, .bool), (12, (.int .i64))], [], fun fs I0 F0 vs m I F => match fs, vs with | [.int _ y0, .int _ y1, .int _ y2], [.bool y3, .int _ y4] => Inv103 y0 y1 y2 y3 y4 m I0 F0 I F | _, _ => False, [3, 9, 10], []⟩)] [16006, 17002] [] [] [] [] [])) (args := [.a (.v (.slice l_a l_n l_c))]) (own := []) (keep := []) [] Go.Proofs.Tryz.func72 h
def ref00_Trees_Own.V (vl : OA → Nat → Nat → Value) (vt : Bool → Value) (b : OA) (I : Imm) (F : Heap) (Q : PostQ)  : Prop := ∃ ad : Addr, b = some ad ∧ ∃ (an : OA) (ao ap : Nat), Rd I (F) (ad.add 0) [vl an ao ap] ∧ Tri P 61 (#[vl an ao ap]) I (F) fun e1 I1 G1 => ∃ (r : Bool), e1 = .returned (vt r) ∧ ∃ F1 : Heap, List.Perm G1 (F1) ∧ ∃ ar : Addr, b = some ar ∧ ∃ (h : OA) (i j : Nat), Rd I1 (F1) (ar.add 1) [vl h i j] ∧ Tri P 62 (#[vl h i j]) I1 (F1) fun e2 I2 G2 => ∃ (r1 : Bool), e2 = .returned (vt r1) ∧ ∃ F2 : Heap, List.Perm G2 (F2) ∧ ∃ au : Addr, b = some au ∧ ∃ (k : OA) (l m : Nat), Rd I2 (F2) (au.add 2) [vl k l m] ∧ Tri P 63 (#[vl k l m]) I2 (F2) fun e3 I3 G3 => ∃ (r2 : Bool), e3 = .returned (vt r2) ∧ ∃ F3 : Heap, List.Perm G3 (F3) ∧ ∃ av : Addr, b = some av ∧ ∃ (n : OA) (o p : Nat), Rd I3 (F3) (av.add 3) [vl n o p] ∧ Tri P 64 (#[vl n o p]) I3 (F3) fun e4 I4 G4 => ∃ (r3 : Bool), e4 = .returned (vt r3) ∧ ∃ F4 : Heap, List.Perm G4 (F4) ∧ ∃ aw : Addr, b = some aw ∧ ∃ (q : OA) (s t : Nat), Rd I4 (F4) (aw.add 6) [vl q s t] ∧ Tri P 65 (#[vl q s t]) I4 (F4) fun e5 I5 G5 => ∃ (r4 : Bool), e5 = .returned (vt r4) ∧ ∃ F5 : Heap, List.Perm G5 (F5) ∧ ∃ ax : Addr, b = some ax ∧ ∃ (u : OA) (v w : Nat), Rd I5 (F5) (ax.add 5) [vl u v w] ∧ Tri P 66 (#[vl u v w]) I5 (F5) fun e6 I6 G6 => ∃ (r5 : Bool), e6 = .returned (vt r5) ∧ ∃ F6 : Heap, List.Perm G6 (F6) ∧ ∃ ay : Addr, b = some ay ∧ ∃ (x : OA) (y z : Nat), Rd I6 (F6) (ay.add 4) [vl x y z] ∧ Tri P 67 (#[vl x y z]) I6 (F6) fun e7 I7 G7 => ∃ (r6 : Bool), e7 = .returned (vt r6) ∧ ∃ F7 : Heap, List.Perm G7 (F7) ∧ ∃ az : Addr, b = some az ∧ ∃ (aa : OA) (ab ac : Nat), Rd I7 (F7) (az.add 7) [vl aa ab ac] ∧ Tri P 68 (#[vl aa ab ac]) I7 (F7) fun e8 I8 G8 => ∃ (r7 : Bool), e8 = .returned (vt r7) ∧ ∃ F8 : Heap, List.Perm G8 (F8) ∧ ∃ aA : Addr, b = some aA ∧ ∃ (ae : OA) (af ag : Nat), Rd I8 (F8) (aA.add 9) [vl ae af ag] ∧ Tri P 69 (#[vl ae af ag]) I8 (F8) fun e9 I9 G9 => ∃ (r8 : Bool), e9 = .returned (vt r8) ∧ ∃ F9 : Heap, List.Perm G9 (F9) ∧ ∃ aB : Addr, b = some aB ∧ ∃ (ah : OA) (ai aj : Nat), Rd I9 (F9) (aB.add 8) [vl ah ai aj] ∧ Tri P 70 (#[vl ah ai aj]) I9 (F9) fun aC I10 G10 => ∃ (r9 : Bool), aC = .returned (vt r9) ∧ ∃ F10 : Heap, List.Perm G10 (F10) ∧ ∃ al : Addr, b = some al ∧ ∃ (a : OA) (c d : Nat), Rd I10 (F10) (al.add 10) [vl a c d] ∧ Tri P 71 (#[vl a c d]) I10 (F10) fun aD I11 G11 => ∃ (ak : Bool), aD = .returned (vt ak) ∧ ∃ F11 : Heap, List.Perm G11 (F11) ∧ ∃ am : Addr, b = some am ∧ ∃ (e : OA) (f g : Nat), Rd I11 (F11) (am.add 11) [vl e f g] ∧ Tri P 72 (#[vl e f g]) I11 (F11) fun aE I12 G12 => ∃ (aq : Bool), aE = .returned (vt aq) ∧ ∃ F12 : Heap, List.Perm G12 (F12) ∧ ((r = true → ((r1 = true → ((r2 = true → ((r3 = true → ((r4 = true → ((r5 = true → ((r6 = true → ((r7 = true → ((r8 = true → ((r9 = true → ((ak = true → Q (.returned (vt aq)) I12 (F12)) ∧ (ak = false → Q (.returned (vt false)) I12 (F12)))) ∧ (r9 = false → Q (.returned (vt false)) I12 (F12)))) ∧ (r8 = false → Q (.returned (vt false)) I12 (F12)))) ∧ (r7 = false → Q (.returned (vt false)) I12 (F12)))) ∧ (r6 = false → Q (.returned (vt false)) I12 (F12)))) ∧ (r5 = false → Q (.returned (vt false)) I12 (F12)))) ∧ (r4 = false → Q (.returned (vt false)) I12 (F12)))) ∧ (r3 = false → Q (.returned (vt false)) I12 (F12)))) ∧ (r2 = false → Q (.returned (vt false)) I12 (F12)))) ∧ (r1 = false → Q (.returned (vt false)) I12 (F12)))) ∧ (r = false → Q (.returned (vt false)) I12 (F12)))
theorem ref00_Trees_Own.vc {b : OA} {I : Imm} {F : Heap} {Q : PostQ}  (h : ref00_Trees_Own.V .slice .bool b I F Q) : Tri P 15 #[.pointer b] I (F) Q :=
  tv (A := (annL [13000, 13002, 13005, 13008, 13011, 13014, 13017, 13020, 13023, 13026, 13029] [] [61, 62, 63, 64, 65, 66, 67, 68, 69, 70, 71, 72] shT_o2 [] [] [] [] [] [] [])) (args := [.a (.v (.pointer b))]) (own := []) (keep := []) [61, 62, 63, 64, 65, 66, 67, 68, 69, 70, 71, 72] Go.Proofs.Tryz.func15 h
end Go.Lx
namespace Go.Lx
open Go.Vc
theorem Tri.pre {P : Program} {f : FuncId} {args : Array Value} {I : Imm} {F : Heap} {Q : Ending → Imm → Heap → Prop} (h : ∀ w, Sat I F w → ∃ J G, Imm.le I J ∧ Sat J G w ∧ Tri P f args J G Q) : Tri P f args I F Q := fun w hw =>
  let ⟨J, G, hl, hs, ht⟩ := h w hw
  (ht w hs).mono fun e w' ⟨I', F', h1, h2, h3⟩ => ⟨I', F', Imm.le_trans hl h1, h2, h3⟩
def _root_.Go.Vc.Row.v (r : Row) : Value := .slice r.a r.n r.c
def OwnCall (f : Nat) (r : Row) (H : Heap) : Prop := ∀ (I : Imm) (F : Heap), Tri P f #[r.v] I (H ++ F) fun e I' G => e = .returned (.bool true) ∧ G = F
theorem own_call {f z e S : Nat} (spec : ∀ {rs : List Row} {ls : List (List (Ck z))} {H F : Heap} {la : Option Addr} {ln lc : Nat} {I : Imm}, Sl I 1 Row.enc la ln rs → RowsH z e rs ls H → Bd ls → rs.length ≤ 1000000000 →
      Tri P f #[.slice la ln lc] I (H ++ F) fun e I' G => e = .returned (.bool true) ∧ G = F)
    {r : Row} {rs : List Row} {ls : List (List (Ck z))} {Al H : Heap} (hA : Acc 1 Row.enc S r.a r.n r.c rs Al) (hH : RowsH z e rs ls H) (hb : Bd ls) (hl : rs.length ≤ 1000000000) : OwnCall f r (Al ++ H) := by
  intro I F
  refine Tri.pre fun w hw => ?_
  rw [List.append_assoc] at hw
  obtain ⟨J, hJ, hs, hS⟩ := Acc.keep (z := 1) (f := Row.enc) (fun _ => rfl) hA hw
  exact ⟨J, _, hJ, hs, spec hS hH hb hl⟩
theorem own_nil {f z e : Nat} (spec : ∀ {rs : List Row} {ls : List (List (Ck z))} {H F : Heap} {la : Option Addr} {ln lc : Nat} {I : Imm}, Sl I 1 Row.enc la ln rs → RowsH z e rs ls H → Bd ls → rs.length ≤ 1000000000 →
      Tri P f #[.slice la ln lc] I (H ++ F) fun e I' G => e = .returned (.bool true) ∧ G = F) : OwnCall f ⟨none, 0, 0⟩ [] := fun I F =>
  spec (rs := []) (ls := []) (H := []) ⟨rfl, fun h => absurd rfl h⟩ rfl (fun j l h => by simp at h) (by decide)
theorem ownLongs_nil : OwnCall 72 ⟨none, 0, 0⟩ [] := by
  intro I F
  refine ref00_ownLongs.vc (fun i m I0 F0 I' F' => i = 0 ∧ F' = F) (fun k m I0 F0 I' F' => False) (fun a n c i m I0 F0 I' F' => i = 0 ∧ F' = F) (fun _ _ _ _ _ _ _ _ _ _ _ => False)
    (fun _ x i m I0 F0 I' F' => i = 0 ∧ F' = F) (fun _ _ _ _ _ _ _ _ _ _ => False) (fun _ _ _ _ _ _ _ _ _ _ => False) ?_
  unfold ref00_ownLongs.V
  refine ⟨⟨0, rfl, rfl⟩, fun i m1 I1 F1 _ ⟨hi, hF⟩ => ?_⟩
  subst hi hF
  refine ⟨fun h => absurd h (by decide), fun _ => ⟨⟨0, rfl, rfl⟩, fun a n c i m7 I4 F4 _ ⟨hi, hF⟩ => ?_⟩⟩
  subst hi hF
  refine ⟨fun h => absurd h (by decide), fun _ => ⟨⟨0, rfl, rfl⟩, fun x i m I11 F9 _ ⟨hi, hF⟩ => ?_⟩⟩
  subst hi hF
  exact ⟨fun h => absurd h (by decide), fun _ => ⟨rfl, rfl⟩⟩
def treeCells (rw : Nat → Row) : Array Value := #[(rw 0).v, (rw 1).v, (rw 2).v, (rw 3).v, (rw 4).v, (rw 5).v, (rw 6).v, (rw 7).v, (rw 8).v, (rw 9).v, (rw 10).v, (rw 11).v]
theorem tree_rd {I : Imm} {G : Heap} {b : Nat} {cells : Array Value} (h : (b, Obj.cells cells 47 (0, 0)) ∈ G) {k : Nat} {v : Value} (hv : cells[k]? = some v) : Rd I G ((⟨b, 0, none⟩ : Addr).add k) [v] := by
  rw [add_lit0]
  refine ⟨rfl, _, _, _, .inr h, fun j hj => ?_⟩
  have : j = 0 := by simpa using hj
  subst this
  simpa using hv
theorem own_step {f : Nat} {r : Row} {H R : Heap} {I : Imm} {b : Nat × Obj} {Q : Ending → Imm → Heap → Prop} (h : OwnCall f r H) (k : ∀ I', Imm.le I I' → Q (.returned (.bool true)) I' (b :: R)) : Tri P f #[r.v] I (b :: (H ++ R)) Q :=
  Tri.perm ((h I (b :: R)).mono fun e I' G hl ⟨he, hG⟩ => by subst he; subst hG; exact k I' hl) List.perm_middle.symm
theorem TreesOwn_spec {rw : Nat → Row} {Hs : Nat → Heap} {b : Nat} {I : Imm} {F : Heap} (h0 : OwnCall 61 (rw 0) (Hs 0)) (h1 : OwnCall 62 (rw 1) (Hs 1)) (h2 : OwnCall 63 (rw 2) (Hs 2)) (h3 : OwnCall 64 (rw 3) (Hs 3))
    (h6 : OwnCall 65 (rw 6) (Hs 6)) (h5 : OwnCall 66 (rw 5) (Hs 5)) (h4 : OwnCall 67 (rw 4) (Hs 4)) (h7 : OwnCall 68 (rw 7) (Hs 7)) (h9 : OwnCall 69 (rw 9) (Hs 9)) (h8 : OwnCall 70 (rw 8) (Hs 8)) (h10 : OwnCall 71 (rw 10) (Hs 10)) (h11 : OwnCall 72 (rw 11) (Hs 11)) :
    Tri P 15 #[.pointer (some ⟨b, 0, none⟩)] I ((b, Obj.cells (treeCells rw) 47 (0, 0)) :: (Hs 0 ++ (Hs 1 ++ (Hs 2 ++ (Hs 3 ++ (Hs 6 ++ (Hs 5 ++ (Hs 4 ++ (Hs 7 ++ (Hs 9 ++ (Hs 8 ++ (Hs 10 ++ (Hs 11 ++ F)))))))))))))
      fun e I' G => e = .returned (.bool true) ∧ G = F := by
  refine Tri.keep (Q := fun e I' G => e = .returned (.bool true) ∧ G = (b, Obj.cells (treeCells rw) 47 (0, 0)) :: F) ?_ fun e I' G w hl hs ⟨he, hG⟩ => ⟨I', F, Imm.le_refl _, by subst hG; exact hs.sub (List.sublist_cons_self _ _), he, rfl⟩
  refine ref00_Trees_Own.vc ?_
  unfold ref00_Trees_Own.V
  refine ⟨_, rfl, _, _, _, tree_rd (List.mem_cons_self ..) rfl, own_step h0 fun I1 g1 => ⟨_, rfl, _, .refl _, ?_⟩⟩
  refine ⟨_, rfl, _, _, _, tree_rd (List.mem_cons_self ..) rfl, own_step h1 fun I1 g1 => ⟨_, rfl, _, .refl _, ?_⟩⟩
  refine ⟨_, rfl, _, _, _, tree_rd (List.mem_cons_self ..) rfl, own_step h2 fun I1 g1 => ⟨_, rfl, _, .refl _, ?_⟩⟩
  refine ⟨_, rfl, _, _, _, tree_rd (List.mem_cons_self ..) rfl, own_step h3 fun I1 g1 => ⟨_, rfl, _, .refl _, ?_⟩⟩
  refine ⟨_, rfl, _, _, _, tree_rd (List.mem_cons_self ..) rfl, own_step h6 fun I1 g1 => ⟨_, rfl, _, .refl _, ?_⟩⟩
  refine ⟨_, rfl, _, _, _, tree_rd (List.mem_cons_self ..) rfl, own_step h5 fun I1 g1 => ⟨_, rfl, _, .refl _, ?_⟩⟩
  refine ⟨_, rfl, _, _, _, tree_rd (List.mem_cons_self ..) rfl, own_step h4 fun I1 g1 => ⟨_, rfl, _, .refl _, ?_⟩⟩
  refine ⟨_, rfl, _, _, _, tree_rd (List.mem_cons_self ..) rfl, own_step h7 fun I1 g1 => ⟨_, rfl, _, .refl _, ?_⟩⟩
  refine ⟨_, rfl, _, _, _, tree_rd (List.mem_cons_self ..) rfl, own_step h9 fun I1 g1 => ⟨_, rfl, _, .refl _, ?_⟩⟩
  refine ⟨_, rfl, _, _, _, tree_rd (List.mem_cons_self ..) rfl, own_step h8 fun I1 g1 => ⟨_, rfl, _, .refl _, ?_⟩⟩
  refine ⟨_, rfl, _, _, _, tree_rd (List.mem_cons_self ..) rfl, own_step h10 fun I1 g1 => ⟨_, rfl, _, .refl _, ?_⟩⟩
  refine ⟨_, rfl, _, _, _, tree_rd (List.mem_cons_self ..) rfl, own_step h11 fun I1 g1 => ⟨_, rfl, _, .refl _, ?_⟩⟩
  repeat (refine ⟨fun _ => ?_, fun h => by (cases h)⟩)
  exact ⟨rfl, rfl⟩
theorem ownWhole_nil : OwnCall 71 ⟨none, 0, 0⟩ [] := by
  intro I F
  refine ref00_ownWhole.vc (fun i m I0 F0 I' F' => i = 0 ∧ F' = F) (fun _ k m I0 F0 I' F' => False) (fun a n c i m I0 F0 I' F' => i = 0 ∧ F' = F) (fun _ _ _ _ _ _ _ _ _ _ _ _ _ => False)
    (fun _ _ _ x i m I0 F0 I' F' => i = 0 ∧ F' = F) (fun _ _ _ _ _ _ _ _ _ _ _ _ => False) (fun _ _ _ _ _ _ _ _ _ _ _ _ => False) ?_
  unfold ref00_ownWhole.V
  refine ⟨⟨0, rfl, rfl⟩, fun i m1 I1 F1 _ ⟨hi, hF⟩ => ?_⟩
  subst hi hF
  refine ⟨fun h => absurd h (by decide), fun _ => ⟨⟨0, rfl, rfl⟩, fun a n c i m7 I4 F4 _ ⟨hi, hF⟩ => ?_⟩⟩
  subst hi hF
  refine ⟨fun h => absurd h (by decide), fun _ => ⟨⟨0, rfl, rfl⟩, fun x i m I11 F9 _ ⟨hi, hF⟩ => ?_⟩⟩
  subst hi hF
  exact ⟨fun h => absurd h (by decide), fun _ => ⟨rfl, rfl⟩⟩
theorem RowsH.snoc {z e : Nat} : ∀ {rs : List Row} {ls : List (List (Ck z))} {H : Heap} {r : Row} {l : List (Ck z)} {A : Heap}, RowsH z e rs ls H → Acc z cv e r.a r.n r.c l A → RowsH z e (rs ++ [r]) (ls ++ [l]) (H ++ A)
  | [], [], H, r, l, A, h, hA => by
    have : H = [] := h
    subst this
    exact ⟨A, [], by simp, hA, rfl⟩
  | r0 :: rs, l0 :: ls, H, r, l, A, ⟨B, H', hH, hB, hR⟩, hA => by
    subst hH
    exact ⟨B, H' ++ A, by rw [List.append_assoc], hB, RowsH.snoc hR hA⟩
  | [], _ :: _, _, _, _, _, h, _ => h.elim
  | _ :: _, [], _, _, _, _, h, _ => h.elim
theorem Bd.snoc {z : Nat} {ls : List (List (Ck z))} (h : Bd ls) {l : List (Ck z)} (hl : l.length ≤ 1000000000) : Bd (ls ++ [l]) := by
  intro j l' hj
  rw [List.getElem?_append] at hj
  split at hj
  · exact h j l' hj
  · have := List.mem_of_getElem? hj
    rw [List.mem_singleton] at this
    rw [this]; exact hl
end Go.Lx
