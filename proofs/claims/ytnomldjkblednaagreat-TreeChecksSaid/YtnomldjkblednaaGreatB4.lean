import Derived.Test.YtnomldjkblednaaGreatB3
set_option linter.unusedVariables false
set_option linter.unusedSimpArgs false
set_option maxRecDepth 100000
namespace Go.Lx
open Go.Vc
theorem rowsL_app : ∀ (l m : List Nd), Nd.rowsL (l ++ m) = Nd.rowsL l ++ Nd.rowsL m
  | [], m => rfl
  | x :: l, m => by rw [List.cons_append, Nd.rowsL, Nd.rowsL, rowsL_app l m, List.append_assoc]
theorem rowsL_take {l : List Nd} {i : Nat} {x : Nd} (h : l[i]? = some x) : Nd.rowsL (l.take (i + 1)) = Nd.rowsL (l.take i) ++ x.rows := by
  obtain ⟨hk, rfl⟩ := List.getElem?_eq_some_iff.1 h
  rw [List.take_succ_eq_append_getElem hk, rowsL_app, Nd.rowsL, Nd.rowsL, List.append_nil]
def upd (rw : Nat → Row) (j : Nat) (r : Row) : Nat → Row := fun k => if k = j then r else rw k
theorem upd_upd (rw : Nat → Row) (j : Nat) (r r' : Row) : upd (upd rw j r) j r' = upd rw j r' := by
  funext k; unfold upd; split <;> rfl
theorem upd_same (rw : Nat → Row) (j : Nat) (r : Row) : upd rw j r j = r := if_pos rfl
theorem TreesNode_spec : ∀ (t : Nd), t.px.size ≤ 1048576 → ∀ {rw : Nat → Row} {b : Nat} {rs : List Row} {Al R : Heap}, Acc 1 Row.enc 53 (rw 1).a (rw 1).n (rw 1).c rs Al → (rs.length : Int) + t.px.size ≤ 1000000000 → ∀ (I : Imm), NdOk I R t →
    Tri P 60 #[.pointer (some ⟨b, 0, none⟩), t.v] I ((b, Obj.cells (treeCells rw) 47 (0, 0)) :: (Al ++ R)) fun e I' G => e = .returned (.tuple #[]) ∧
      ∃ r' Al', Acc 1 Row.enc 53 r'.a r'.n r'.c (rs ++ t.rows) Al' ∧ G.Perm ((b, Obj.cells (treeCells (upd rw 1 r')) 47 (0, 0)) :: (Al' ++ R)) := by
  refine Nd.ind fun t ih hs rw b rs Al R hA hl I ht => ?_
  have hln := size_len hs
  have hsz : t.px.size = 1 + Px.sizeL (t.kids.map Nd.px) := by rw [Px.size_eq, Nd.px_kids]
  have hrl : ∀ i, (Nd.rowsL (t.kids.take i)).length + (0 : Int) ≤ Px.sizeL (t.kids.map Nd.px) := by
    have h1 : ∀ l : List Nd, ((Nd.rowsL l).length : Int) = Px.sizeL (l.map Nd.px) := by
      intro l
      induction l with
      | nil => rfl
      | cons x r ihl => rw [Nd.rowsL, List.map_cons, Px.sizeL, List.length_append, ← ihl, ← rows_len]; omega
    have h2 : ∀ l m : List Nd, Px.sizeL ((l ++ m).map Nd.px) = Px.sizeL (l.map Nd.px) + Px.sizeL (m.map Nd.px) := by
      intro l m
      rw [← h1, ← h1, ← h1, rowsL_app, List.length_append]; omega
    intro i
    have h3 := h2 (t.kids.take i) (t.kids.drop i)
    rw [List.take_append_drop] at h3
    have h4 := Px.sizeL_nonneg ((t.kids.drop i).map Nd.px)
    rw [h1]; omega
  refine ref00_Trees_Node.vc (fun i m I' F' => 0 ≤ i ∧ i ≤ t.kids.length ∧ m = (t.kids.length - i).toNat ∧ ∃ r' Al', Acc 1 Row.enc 53 r'.a r'.n r'.c (rs ++ (⟨t.a, t.kids.length, t.c⟩ :: Nd.rowsL (t.kids.take i.toNat))) Al' ∧
    F'.Perm ((b, Obj.cells (treeCells (upd rw 1 r')) 47 (0, 0)) :: (Al' ++ R))) ?_
  unfold ref00_Trees_Node.V
  intro b_x
  refine ⟨_, rfl, _, _, _, tree_rd (List.mem_cons_of_mem _ (List.mem_cons_self ..)) rfl, ?_⟩
  intro b1 I1 hI1 hb1
  refine TriE.perm (TriE.mono (append_spec' (f := Row.enc) (z := 1) (zv := .slice none 0 0) (fun _ => rfl) (by' := 24) (by kernel_rfl) (by kernel_rfl) rfl (by decide) hA (xs := [⟨t.a, t.kids.length, t.c⟩]) (fun x _ => rows_one x) (by simp) rfl ?_ ?_
    (F := (b_x, .cells #[.int .u8 t.kind, .int .u8 t.oper, .int .u8 t.typ, .int .i64 t.n, .int .u8 t.field, .string t.name, .slice t.a t.kids.length t.c, .int .i64 t.pos] 55 (0, 0)) :: (b, Obj.cells (treeCells rw) 47 (0, 0)) :: R)) fun v I2 G hI2 ⟨a', n', c', A', hv, hA', hG', _⟩ => ?_) (perm_of fun x => by simp only [cn_app, cn_cons]; omega)
  · exact ⟨rfl, _, _, _, .inl hb1, fun j hj => by simp [Row.enc]⟩
  · have := Px.size_pos t.px; simp only [List.length_cons, List.length_nil]; omega
  subst hG'
  refine ⟨_, _, _, hv, (b, Obj.cells (treeCells rw) 47 (0, 0)) :: (A' ++ R), perm_of fun x => by simp only [cn_app, cn_cons]; omega, _, rfl, (treeCells rw).toList, 47, A' ++ R, ?_, ?_, ?_, ⟨_, by omega, by omega, rfl, ⟨a', n', c'⟩, A', ?_, ?_⟩, ?_⟩
  · exact .refl _
  · rw [add_lit0]
  · rw [add_lit0]; exact (by decide : 1 + 1 ≤ 12)
  · exact hA'
  · rw [add_lit0]; exact .refl _
  intro i m I3 F3 hI3 ⟨g0, g1, gm, r', Al', hAc, hF⟩
  refine ⟨fun hlt => ?_, fun hlt => ⟨rfl, r', Al', ?_, hF⟩⟩
  · have hlt := of_decide_eq_true hlt
    have hle := Imm.le_trans hI1 (Imm.le_trans hI2 hI3)
    have ht3 : NdOk I3 F3 t := ht.mono hle fun x hx => hF.mem_iff.2 (List.mem_cons_of_mem _ (List.mem_append_right _ hx))
    obtain ⟨ad, x, had, hx, hrd, hxo, hxm⟩ := (ht3.cons (x := (b_x, .cells t.enc.toArray 55 (0, 0)))).kids.at g0 hlt
    have hlen := hrl (i.toNat + 1)
    rw [rowsL_take hx, List.length_append] at hlen
    have hxr := rows_len x
    refine ⟨⟨g0, hlt⟩, ad, had, _, _, _, _, _, _, _, _, _, _, hrd, Tri.perm ((ih x hxm (size_kid hxm hs) (rw := upd rw 1 r') (b := b) (rs := rs ++ (⟨t.a, t.kids.length, t.c⟩ :: Nd.rowsL (t.kids.take i.toNat))) (Al := Al') (R := (b_x, .cells #[.int .u8 t.kind, .int .u8 t.oper, .int .u8 t.typ, .int .i64 t.n, .int .u8 t.field, .string t.name, .slice t.a t.kids.length t.c, .int .i64 t.pos] 55 (0, 0)) :: R)
      (by rw [upd_same]; exact hAc) ?_ I3 ((ht.mono hle fun _ h => h).cons.kid x hxm)).mono fun e I4 G hI4 ⟨he, r2, Al2, hA2, hG⟩ => ?_) ?_⟩
    · rw [List.length_append, List.length_cons]; omega
    · subst he
      rw [upd_upd] at hG
      refine ⟨rfl, (b, Obj.cells (treeCells (upd rw 1 r2)) 47 (0, 0)) :: (Al2 ++ R), hG.trans (perm_of fun x => by simp only [cn_app, cn_cons]; omega), (t.kids.length - (i + 1)).toNat, by omega, ?_⟩
      rw [w64 (n := i + 1) (by omega)]
      refine ⟨by omega, by omega, rfl, r2, Al2, ?_, .refl _⟩
      rw [show (i + 1).toNat = i.toNat + 1 by omega, rowsL_take hx, ← List.cons_append, ← List.append_assoc]; exact hA2
    · exact perm_of fun x => by have := cn_perm hF x; simp only [cn_app, cn_cons] at this ⊢; omega
  · have hlt := of_decide_eq_false hlt
    rw [Nd.rows_eq]
    rw [List.take_of_length_le (l := t.kids) (i := i.toNat) (by omega)] at hAc
    exact hAc
end Go.Lx
namespace Go.Lx
open Go.Vc
mutual
def Nd.nodes : Nd → List Nd
  | .mk k o t n f s a c l q => .mk k o t n f s a c l q :: Nd.nodesL l
def Nd.nodesL : List Nd → List Nd
  | [] => []
  | x :: r => Nd.nodes x ++ Nd.nodesL r
end
theorem Nd.nodes_eq (t : Nd) : t.nodes = t :: Nd.nodesL t.kids := by cases t; rw [Nd.nodes]; rfl
theorem nodesL_app : ∀ (l m : List Nd), Nd.nodesL (l ++ m) = Nd.nodesL l ++ Nd.nodesL m
  | [], m => rfl
  | x :: l, m => by rw [List.cons_append, Nd.nodesL, Nd.nodesL, nodesL_app l m, List.append_assoc]
theorem nodesL_take {l : List Nd} {i : Nat} {x : Nd} (h : l[i]? = some x) : Nd.nodesL (l.take (i + 1)) = Nd.nodesL (l.take i) ++ x.nodes := by
  obtain ⟨hk, rfl⟩ := List.getElem?_eq_some_iff.1 h
  rw [List.take_succ_eq_append_getElem hk, nodesL_app, Nd.nodesL, Nd.nodesL, List.append_nil]
theorem nodes_px : ∀ t : Nd, t.nodes.map Nd.px = t.px.nodes := by
  have hL : ∀ l : List Nd, (∀ x ∈ l, (Nd.nodes x).map Nd.px = x.px.nodes) → (Nd.nodesL l).map Nd.px = Px.nodesL (l.map Nd.px) := by
    intro l
    induction l with
    | nil => intro _; rfl
    | cons x r ih =>
      intro h
      rw [Nd.nodesL, List.map_append, List.map_cons, Px.nodesL, h x (List.mem_cons_self ..), ih fun y hy => h y (List.mem_cons_of_mem _ hy)]
  refine Nd.ind fun t h => ?_
  rw [Nd.nodes_eq, Px.nodes_eq, List.map_cons, hL t.kids h, Nd.px_kids]
theorem nodes_len (t : Nd) : (t.nodes.length : Int) = t.px.size := by rw [← Px.nodes_len, ← nodes_px, List.length_map]
theorem NdOk.nodes {I : Imm} {G : Heap} : ∀ {t : Nd}, NdOk I G t → ∀ x ∈ t.nodes, NdOk I G x := by
  refine @(Nd.ind fun t ih h x hx => ?_)
  rw [Nd.nodes_eq] at hx
  rcases List.mem_cons.1 hx with rfl | hx
  · exact h
  · have hL : ∀ l : List Nd, (∀ k ∈ l, ∀ x ∈ k.nodes, NdOk I G x) → ∀ x ∈ Nd.nodesL l, NdOk I G x := by
      intro l
      induction l with
      | nil => intro _ x h; rw [Nd.nodesL] at h; cases h
      | cons y r ihl =>
        intro hk x h
        rw [Nd.nodesL] at h
        rcases List.mem_append.1 h with h | h
        · exact hk y (List.mem_cons_self ..) x h
        · exact ihl (fun k hk' => hk k (List.mem_cons_of_mem _ hk')) x h
    exact hL _ (fun k hk => ih k hk (h.kid k hk)) x hx
instance decBA : DecidableEq ByteArray := fun a b => decidable_of_iff (a.data = b.data) ⟨fun h => by cases a; cases b; simp_all, fun h => by rw [h]⟩
abbrev orBit (m f : Int) : Int := IntKind.wrap .u16 (BitVec.toNat ((BitVec.ofInt 16 m) ||| (BitVec.ofInt 16 (IntKind.wrap .u16 (1 * 2 ^ (min (Int.toNat f) 16))))) : Int)
def rdMask (m : Int) (x : Px) : Int := if (x.kind = 3 ∨ x.kind = 4) ∧ x.field < 16 then orBit m x.field else m
def hasS (l : List ByteArray) (s : ByteArray) : Bool := l.any fun y => decide (y = s)
def rdNames (l : List ByteArray) (x : Px) : List ByteArray := if x.kind = 2 ∧ hasS l x.name = false then l ++ [x.name] else l
def masks (l : List Px) : Int := l.foldl rdMask 0
def namesOf (l : List Px) : List ByteArray := l.foldl rdNames []
theorem append_str {a : Option Addr} {n c : Nat} {l : List ByteArray} {A : Heap} (hA : Acc 1 encS 9 a n c l A) (hl : l.length < 1000000000) (x : ByteArray) {b : Nat} {I : Imm} {F : Heap} {o : Obj} (ho : o = .cells #[.string x] 9 (0, 0)) (hb : I b = some o) :
    TriE P (Builtin.append_ #[62, 62] 62 #[.slice a n c, .slice (some ⟨b, 0, none⟩) 1 1]) I (A ++ F) fun v I' G => ∃ a' n' c' A', v = .slice a' n' c' ∧ Acc 1 encS 9 a' n' c' (l ++ [x]) A' ∧ G = A' ++ F := by
  subst ho
  refine TriE.mono (append_spec' (f := encS) (z := 1) (zv := .string ⟨#[]⟩) (fun _ => rfl) (by' := 16) (by kernel_rfl) (by kernel_rfl) rfl (by decide) hA (xs := [x]) (fun x _ u hu => by simp [encS] at hu; subst hu; rfl) (by simp) rfl ?_ ?_ (F := F)) fun v I2 G hI2 ⟨a', n', c', A', hv, hA', hG', _⟩ => ⟨a', n', c', A', hv, hA', hG'⟩
  · exact ⟨rfl, _, _, _, .inl hb, fun j hj => by simp [encS]⟩
  · simp only [List.length_cons, List.length_nil]; omega
theorem rdNames_len (l : List Px) (m : List ByteArray) : (l.foldl rdNames m).length ≤ m.length + l.length := by
  induction l generalizing m with
  | nil => simp
  | cons x l ih =>
    rw [List.foldl_cons]
    have h1 := ih (rdNames m x)
    have h2 : (rdNames m x).length ≤ m.length + 1 := by unfold rdNames; split <;> simp
    rw [List.length_cons]; omega
end Go.Lx
namespace Go.Lx
open Go.Vc
def Px.Fit (x : Px) : Prop := (0 ≤ x.kind ∧ x.kind ≤ 255) ∧ (0 ≤ x.oper ∧ x.oper ≤ 255) ∧ (0 ≤ x.typ ∧ x.typ ≤ 255) ∧ (-9223372036854775808 ≤ x.n ∧ x.n ≤ 9223372036854775807) ∧ (0 ≤ x.field ∧ x.field ≤ 255) ∧ (-9223372036854775808 ≤ x.pos ∧ x.pos ≤ 9223372036854775807)
def Px.Wf (x : Px) : Prop := ∀ y ∈ x.nodes, y.Fit
theorem Wf.nd {t : Nd} (h : t.px.Wf) : ∀ x ∈ t.nodes, x.px.Fit := fun x hx => h _ (by rw [← nodes_px]; exact List.mem_map_of_mem hx)
theorem mask_take {l : List Nd} {i : Nat} {x : Nd} (h : l[i]? = some x) : masks ((l.take (i + 1)).map Nd.px) = rdMask (masks ((l.take i).map Nd.px)) x.px := by
  obtain ⟨hk, rfl⟩ := List.getElem?_eq_some_iff.1 h
  unfold masks
  rw [List.take_succ_eq_append_getElem hk, List.map_append, List.foldl_append]; rfl
theorem names_take {l : List Nd} {i : Nat} {x : Nd} (h : l[i]? = some x) : namesOf ((l.take (i + 1)).map Nd.px) = rdNames (namesOf ((l.take i).map Nd.px)) x.px := by
  obtain ⟨hk, rfl⟩ := List.getElem?_eq_some_iff.1 h
  unfold namesOf
  rw [List.take_succ_eq_append_getElem hk, List.map_append, List.foldl_append]; rfl
theorem names_len (l : List Px) : (namesOf l).length ≤ l.length := by
  have := rdNames_len l []
  unfold namesOf; simpa using this
end Go.Lx
namespace Go.Vc
theorem splice_eq {α : Type} : ∀ (n : Nat) (vs cs : List α), n + vs.length ≤ cs.length → splice n vs cs = cs.take n ++ (vs ++ cs.drop (n + vs.length))
  | 0, [], [], _ => rfl
  | 0, v :: vs, [], h => by simp at h
  | n + 1, vs, [], h => by simp at h
  | n + 1, vs, c :: cs, h => by
    rw [splice, splice_eq n vs cs (by simp at h; omega), List.take_succ_cons, List.cons_append, show n + 1 + vs.length = n + vs.length + 1 by omega, List.drop_succ_cons]
  | 0, [], c :: cs, _ => by simp [splice]
  | 0, v :: vs, c :: cs, h => by
    rw [splice, splice_eq 0 vs cs (by simp at h; omega)]
    simp
theorem splice_len {α : Type} {n : Nat} {vs cs : List α} (h : n + vs.length ≤ cs.length) : (splice n vs cs).length = cs.length := by
  rw [splice_eq n vs cs h]; simp; omega
theorem splice_take {α : Type} {n : Nat} {vs cs : List α} (h : n + vs.length ≤ cs.length) : (splice n vs cs).take (n + vs.length) = cs.take n ++ vs := by
  rw [splice_eq n vs cs h, ← List.append_assoc]
  have : (cs.take n ++ vs).length = n + vs.length := by simp; omega
  rw [← this]; exact List.take_left
theorem make_spec {P : Program} {t e : TypeId} {z by' : Nat} {zv : Value} (ht : P.underlying t = some (.slice e)) (hi : (P.info? e).map (fun i => (i.zero, i.size, i.bytes)) = some (some zv, z, by')) {l c : Int} (h0 : 0 ≤ l) (hlc : l ≤ c) (hb : (by' : Int) * c ≤ 281474976710656) (hc : c ≤ 9223372036854775807) {I : Imm} {F : Heap} :
    TriE P (Instr.makeSlice t (.int .i64 l) (.int .i64 c)) I F fun v I' G => ∃ (b : Nat) (cs : List Value), v = .slice (some ⟨b, 0, none⟩) l.toNat c.toNat ∧ cs.length = c.toNat * z ∧ cs.toArray = madeCells zv.cells (c.toNat * z) ∧ I' = I ∧ G = (b, Obj.cells cs.toArray e (0, 0)) :: F := by
  intro w hw
  cases h : P.info? e with
  | none => rw [h] at hi; cases hi
  | some i =>
    rw [h] at hi
    simp only [Option.map_some, Option.some.injEq, Prod.mk.injEq] at hi
    have hr := run_make (P := P) w t e i zv ht h hi.1 .i64 .i64 l c h0 hlc (by rw [hi.2.2]; exact hb) hc
    rw [hi.2.1] at hr
    refine ⟨_, _, I, _, hr, Imm.le_refl I, hw.alloc _, w.heap.size, (madeCells zv.cells (c.toNat * z)).toList, rfl, ?_, by simp, rfl, by simp⟩
    simp [size_madeCells]
theorem slice0 (c z : Nat) (a : Option Addr) : (if c = Int.toNat 0 then a else Option.map (fun x : Addr => x.add (Int.toNat 0 * z)) a) = a := by
  split
  · rfl
  · cases a with
    | none => rfl
    | some x => show some (x.add (0 * z)) = some x; rw [Nat.zero_mul]; rfl
end Go.Vc
namespace Go.Lx
open Go.Vc
theorem lend_spec : ∀ (t : Nd), t.px.size ≤ 1048576 → ∀ (I : Imm) (F : Heap), NdOk I F t → Tri P 27 #[t.v] I F (Made 55 true t.px F) := by
  refine Nd.ind fun t ih hs I F ht => ?_
  have hln := size_len hs
  refine ref00_LendNode.vc (fun bx ra rn rc i m I0 F0 I' F' => 0 ≤ i ∧ i ≤ t.kids.length ∧ m = (t.kids.length - i).toNat ∧ ∃ (b : Nat) (cs : List Value) (ks : List Nd) (hs : Nat → Heap), ra = some ⟨b, 0, none⟩ ∧ rn = t.kids.length + 2 ∧ rc = t.kids.length + 2 ∧
    cs.length = (t.kids.length + 2) * 8 ∧ cs.take (i.toNat * 8) = ks.flatMap Nd.enc ∧ ks.map Nd.px = (t.kids.take i.toNat).map Nd.px ∧ (∀ (j : Nat) (k : Nd), ks[j]? = some k → OwnT 55 true k (hs j)) ∧ (ks.length : Int) = i ∧
    F'.Perm ((b, Obj.cells cs.toArray 55 (0, 0)) :: (flatH ks.length hs ++ F))) ?_
  unfold ref00_LendNode.V
  intro b_x b0
  have hw2 : IntKind.wrap .i64 ((t.kids.length : Int) + 2) = (t.kids.length : Int) + 2 := w64 (by omega)
  rw [hw2]
  refine TriE.mono (make_spec (e := 55) (z := 8) (by' := 72) (zv := zNd.v) (by kernel_rfl) (by kernel_rfl) (by omega) (Int.le_refl _) (by omega) (by omega)) fun v I1 G hI1 ⟨b, cs, hv, hcl, _, hI, hG⟩ => ?_
  subst hG
  have htn : ((t.kids.length : Int) + 2).toNat = t.kids.length + 2 := by omega
  rw [htn] at hv hcl
  refine ⟨_, _, _, hv, (b, .cells cs.toArray 55 (0, 0)) :: F, (perm_of fun z => by simp only [cn_app, cn_cons, cn_nil]; omega), ⟨_, by omega, by omega, rfl, b, cs, [], fun _ => [], rfl, rfl, rfl, hcl, by simp, by simp, fun j k h => by simp at h, rfl, .refl _⟩, ?_⟩
  intro i m I2 F2 hI2 ⟨g0, g1, gm, b', cs, ks, hh, hra, _, _, hcl, htk, hp, hk, hl, hF⟩
  simp only [Option.some.injEq, Addr.mk.injEq, and_true] at hra
  subst hra
  have hle := Imm.le_trans hI1 hI2
  refine ⟨fun hlt => ?_, fun hlt => ?_⟩
  · have hlt := of_decide_eq_true hlt
    have ht1 : NdOk I2 F2 t := ht.mono hle fun x hx => hF.mem_iff.2 (List.mem_cons_of_mem _ (List.mem_append_right _ hx))
    obtain ⟨ad, x, had, hx, hrd, hxo, hxm⟩ := (ht1.cons.cons (x := (b_x, Obj.cells #[.int .u8 t.kind, .int .u8 t.oper, .int .u8 t.typ, .int .i64 t.n, .int .u8 t.field, .string t.name, .slice t.a t.kids.length t.c, .int .i64 t.pos] 55 (0, 0))) (t := t)).kids.at g0 hlt
    refine ⟨⟨g0, hlt⟩, ad, had, _, _, _, _, _, _, _, _, _, _, hrd, (ih x hxm (size_kid hxm hs) I2 _ hxo).mono fun e I3 G hI3 ⟨t', H, he, hpx, hO, hG⟩ => ?_⟩
    subst he
    refine ⟨_, _, _, _, _, _, _, _, _, _, rfl, H ++ F2, hG.trans (perm_of fun z => by simp only [cn_app, cn_cons, cn_nil]; omega), ⟨g0, by omega⟩, _, rfl, cs, 55, H ++ (flatH ks.length hh ++ F), ?_, ?_, ?_, (t.kids.length - (i + 1)).toNat, by omega, ?_⟩
    all_goals rw [add_lit0]
    · exact (perm_of fun z => by have q0 := cn_perm hF z; simp only [cn_app, cn_cons, cn_nil] at q0 ⊢; omega)
    · show i.toNat * 8 + 8 ≤ cs.length
      omega
    · rw [w64 (n := i + 1) (by omega)]
      have hfit : i.toNat * 8 + t'.enc.length ≤ cs.length := by rw [Nd.enc_len]; omega
      refine ⟨by omega, by omega, rfl, b, splice (i.toNat * 8) t'.enc cs, ks ++ [t'], fun j => if j < ks.length then hh j else H, rfl, rfl, rfl, (splice_len hfit).trans hcl, ?_, ?_, fun j k hj => ?_, by rw [List.length_append]; simp; omega, ?_⟩
      · have := splice_take hfit
        rw [Nd.enc_len] at this
        rw [show (i + 1).toNat * 8 = i.toNat * 8 + 8 by omega, this, htk, List.flatMap_append]; simp
      · have := take_map_snoc (f := id) hx
        rw [List.map_id, List.map_id] at this
        rw [show (i + 1).toNat = i.toNat + 1 by omega, this, List.map_append, hp, List.map_singleton, hpx]; rfl
      · show OwnT _ _ k (if j < ks.length then hh j else H)
        rw [List.getElem?_append] at hj
        split at hj
        · rename_i hlt'; rw [if_pos hlt']; exact hk j k hj
        · rename_i hge
          have hj' := List.mem_of_getElem? hj
          rw [List.mem_singleton] at hj'
          rw [if_neg hge, hj']; exact hO
      · rw [List.length_append, List.length_singleton, flatH_last, if_neg (Nat.lt_irrefl _), flatH_congr (hs' := hh) fun j hj => if_pos hj]
        exact (List.Perm.of_eq rfl).trans ((perm_of fun z => by simp only [cn_app, cn_cons, cn_nil]; omega) : List.Perm ((b, Obj.cells (splice (i.toNat * 8) t'.enc cs).toArray 55 (0, 0)) :: (H ++ (flatH ks.length hh ++ F))) _)
  · have hlt := of_decide_eq_false hlt
    have hi : i = t.kids.length := by omega
    have hw1 : IntKind.wrap .i64 ((t.kids.length : Int) + 1) = (t.kids.length : Int) + 1 := w64 (by omega)
    rw [hw1]
    refine ⟨⟨by omega, by omega⟩, _, rfl, cs, 55, flatH ks.length hh ++ F, ?_, ?_, ?_, ⟨by omega, by omega⟩, _, rfl, cs.set (t.kids.length * 8 + 7) (.int .i64 (-771)), 55, flatH ks.length hh ++ F, ?_, ?_, ?_, ⟨by omega, by omega, by omega⟩, ?_⟩
    all_goals (try rw [add_add])
    all_goals (try rw [add_add])
    · exact hF
    · simp only [Int.toNat_natCast]; omega
    · simp only [Int.toNat_natCast]
      rw [splice_one _ _ _ (by omega)]
    · rw [List.length_set]; show ((t.kids.length : Int) + 1).toNat * 8 + 7 + 1 ≤ _; omega
    · have e1 : ((t.kids.length : Int) + 1).toNat * 8 + 7 = (t.kids.length + 1) * 8 + 7 := by omega
      dsimp only
      rw [slice0, e1, splice_one _ _ _ (by rw [List.length_set]; omega)]
      have hkl : ks.length = t.kids.length := by omega
      have hi8 : i.toNat * 8 = t.kids.length * 8 := by omega
      rw [hi8] at htk
      refine ⟨.mk t.kind t.oper t.typ t.n t.field t.name (some ⟨b, 0, none⟩) (t.kids.length + 2) ks t.pos, _, ?_, ?_, .mk (t := .mk t.kind t.oper t.typ t.n t.field t.name (some ⟨b, 0, none⟩) (t.kids.length + 2) ks t.pos)
        (A := [(b, Obj.cells ((cs.set (t.kids.length * 8 + 7) (.int .i64 (-771))).set ((t.kids.length + 1) * 8 + 7) (.int .i64 (-772))).toArray 55 (0, 0))]) ⟨rfl, .inr ⟨b, _, rfl, rfl, ?_, ?_, ?_⟩⟩ (fun _ => ⟨b, _, _, rfl, rfl, ?_, ?_, ?_⟩) hk, ?_⟩
      · show Ending.returned (.agg #[.int .u8 t.kind, .int .u8 t.oper, .int .u8 t.typ, .int .i64 t.n, .int .u8 t.field, .string t.name, .slice (some ⟨b, 0, none⟩) (t.kids.length - Int.toNat 0) (t.kids.length + 2 - Int.toNat 0), .int .i64 t.pos]) = .returned (.agg #[.int .u8 t.kind, .int .u8 t.oper, .int .u8 t.typ, .int .i64 t.n, .int .u8 t.field, .string t.name, .slice (some ⟨b, 0, none⟩) ks.length (t.kids.length + 2), .int .i64 t.pos])
        rw [hkl]; rfl
      · rw [Nd.px, Nd.pxs_map, hp, List.take_of_length_le (by omega), ← Nd.px_kids, ← Nd.px_kind, ← Nd.px_oper, ← Nd.px_typ, ← Nd.px_n, ← Nd.px_field, ← Nd.px_name, ← Nd.px_pos]; exact (Px.eta _).symm
      · simp [hcl]; rfl
      · show ks.length ≤ t.kids.length + 2; omega
      · show ((cs.set _ _).set _ _).take (ks.length * 8) = _
        rw [List.take_set_of_le (by omega), List.take_set_of_le (by omega), hkl]; exact htk
      · show t.kids.length + 2 = ks.length + 2; omega
      · show ((cs.set _ _).set _ _).toArray[ks.length * 8 + 7]? = _
        rw [hkl]
        simp only [List.getElem?_toArray]
        rw [List.getElem?_set_ne (by omega), List.getElem?_set_self (by omega)]
      · show ((cs.set _ _).set _ _).toArray[(ks.length + 1) * 8 + 7]? = _
        rw [hkl]
        simp only [List.getElem?_toArray]
        rw [List.getElem?_set_self (by rw [List.length_set]; omega)]
      · exact .refl _
end Go.Lx
namespace Go.Lx
open Go.Vc
theorem OwnT.inv {E : Nat} {R : Bool} {t : Nd} {H : Heap} (h : OwnT E R t H) : ∃ (A : Heap) (hs : Nat → Heap), H = A ++ flatH t.kids.length hs ∧ Acc 8 Nd.enc E t.a t.kids.length t.c t.kids A ∧ (R = true → TailOk t.kids.length t.a t.c A) ∧
    ∀ (i : Nat) (k : Nd), t.kids[i]? = some k → OwnT E R k (hs i) := by
  cases h with
  | mk h1 h2 h3 => exact ⟨_, _, rfl, h1, h2, h3⟩
theorem room_spec : ∀ (t : Nd), t.px.size ≤ 1048576 → ∀ (H : Heap) (I : Imm) (F : Heap), OwnT 55 true t H → (∀ x, x ∈ H → x ∈ F) → Tri P 55 #[t.v] I F (Ret (.bool true) F) := by
  refine Nd.ind fun t ih hs H I F hO hF => ?_
  have hln := size_len hs
  obtain ⟨A, hh, rfl, hA, hR, hk⟩ := hO.inv
  obtain ⟨b, cells, e, ha, hAe, hc, hm1, hm2⟩ := hR rfl
  subst hAe
  refine ref00_roomNode.vc (fun x i m I' F' => 0 ≤ i ∧ i ≤ t.kids.length ∧ m = (t.kids.length - i).toNat ∧ F' = F) ?_
  unfold ref00_roomNode.V
  intro b_x
  have hw2 : IntKind.wrap .i64 ((t.kids.length : Int) + 2) = (t.kids.length : Int) + 2 := w64 (by omega)
  have hw1 : IntKind.wrap .i64 ((t.kids.length : Int) + 1) = (t.kids.length : Int) + 1 := w64 (by omega)
  rw [hw2, hw1, slice0]
  have hmem : (b, Obj.cells cells e (0, 0)) ∈ (b_x, Obj.cells #[.int .u8 t.kind, .int .u8 t.oper, .int .u8 t.typ, .int .i64 t.n, .int .u8 t.field, .string t.name, .slice t.a t.kids.length t.c, .int .i64 t.pos] 55 (0, 0)) :: F := List.mem_cons_of_mem _ (hF _ (List.mem_append_left _ (List.mem_cons_self ..)))
  have hrd : ∀ (k : Nat) (v : Value), cells[k]? = some v → Rd I ((b_x, Obj.cells #[.int .u8 t.kind, .int .u8 t.oper, .int .u8 t.typ, .int .i64 t.n, .int .u8 t.field, .string t.name, .slice t.a t.kids.length t.c, .int .i64 t.pos] 55 (0, 0)) :: F) (⟨b, k, none⟩ : Addr) [v] := fun k v hv => Rd.of_own hmem k fun j hj => by
    have : j = 0 := by simpa using hj
    subst this
    rw [Nat.add_zero, hv]; rfl
  refine ⟨⟨by omega, by omega, by omega⟩, ⟨by omega, by omega⟩, _, ha, -771, ?_, fun h => absurd h (by decide), fun _ => ⟨⟨by omega, by omega⟩, _, ha, -772, ?_, fun h => absurd h (by decide), fun _ => ⟨⟨_, by omega, by omega, rfl, rfl⟩, fun x i m I1 F1 hI ⟨g0, g1, gm, hF1⟩ => ⟨fun hlt => ?_, fun hlt => ⟨rfl, hF1⟩⟩⟩⟩⟩
  · rw [add_add, Int.toNat_natCast]; exact hrd _ _ hm1
  · rw [add_add, show ((t.kids.length : Int) + 1).toNat * 8 + 7 = (t.kids.length + 1) * 8 + 7 by omega]; exact hrd _ _ hm2
  · have hlt := of_decide_eq_true hlt
    subst hF1
    have ht1 : NdOk I1 ((b_x, Obj.cells #[.int .u8 t.kind, .int .u8 t.oper, .int .u8 t.typ, .int .i64 t.n, .int .u8 t.field, .string t.name, .slice t.a t.kids.length t.c, .int .i64 t.pos] 55 (0, 0)) :: F1) t := hO.ok fun x hx => List.mem_cons_of_mem _ (hF x hx)
    obtain ⟨ad, x, had, hx, hrd, hxo, hxm⟩ := ht1.kids.at g0 hlt
    refine ⟨⟨g0, hlt⟩, ad, had, _, _, _, _, _, _, _, _, _, _, hrd, Tri.ret (ih x hxm (size_kid hxm hs) (hh i.toNat) I1 _ (hk _ _ hx) fun z hz => List.mem_cons_of_mem _ (hF z (List.mem_append_right _ (flatH_mem (by omega) hz)))) fun I2 hI2 => ⟨_, rfl, F1, .refl _, fun h => by (cases h), fun _ => ⟨(t.kids.length - (i + 1)).toNat, by omega, ?_⟩⟩⟩
    rw [w64 (n := i + 1) (by omega)]
    exact ⟨by omega, by omega, rfl, rfl⟩
end Go.Lx
namespace Go.Vc
def RecTo : FrameMode → Value → FrameMode → Prop
  | .returning, v, u => v = .nilIface ∧ u = .returning
  | .panicking ({ v := x, recovered := false, goexit := false } :: older), v, u => v = x ∧ u = .panicking ({ v := x, recovered := true } :: older)
  | _, _, _ => False
theorem recTo_nil : RecTo .returning .nilIface .returning := ⟨rfl, rfl⟩
theorem recTo_one (v : Value) : RecTo (.panicking [{ v := v, recovered := false }]) v (.panicking [{ v := v, recovered := true }]) := ⟨rfl, rfl⟩
def recB (o : Oper) : Bool := match o.op, o.guard with
  | .call { callee := .builtin .recover, args := _, argTypes := _ }, none => true
  | _, _ => false
theorem RecTo.at {c : Frame} {cs : List Frame} {u u1 : FrameMode} {v : Value} (hu : c.mode = u) (h : RecTo u v u1) :
    recoverD (c :: cs) = some (v, { c with mode := u1 } :: cs) ∨ (recoverD (c :: cs) = none ∧ v = .nilIface ∧ { c with mode := u1 } :: cs = c :: cs) := by
  subst hu
  unfold RecTo at h
  split at h
  · rename_i hm
    obtain ⟨h1, h2⟩ := h
    refine .inr ⟨by simp [recoverD, hm], h1, ?_⟩
    subst h2
    rw [← hm]
  · rename_i hm
    obtain ⟨h1, h2⟩ := h
    subst h1 h2
    exact .inl (by simp [recoverD, hm])
  · exact h.elim
theorem wpSIn_rec {P : Program} {id : Nat} {ops : Array Oper} {o : Oper} {r : List Oper} {Q : Exit → Act → List Frame → World → Prop} {a : Act} {cs cs' : List Frame} {w : World} {v : Value} (hl : ops.toList = o :: r) (ho : recB o = true)
    (hrec : recoverD cs = some (v, cs') ∨ (recoverD cs = none ∧ v = .nilIface ∧ cs' = cs)) (h : wpListIn Fence.wide 0 P ops (fun e a' w' => Q e a' cs' w') r (a.put o.dst v) w) :
    (Code.region id ops false).wpSIn Fence.wide 0 P Q a cs w := by
  intro b k hb hr hF hroom
  have hsz : ops.size = r.length + 1 := by rw [← Array.length_toList, hl]; rfl
  have h0 : ops[0]? = some o := by rw [← Array.getElem?_toList, hl]; rfl
  have hrest : ∀ j, r[j]? = ops[1 + j]? := fun j => by rw [← Array.getElem?_toList, hl, Nat.add_comm]; rfl
  rw [← wpOpsIn_eq_wpListIn r 1 hrest] at h
  have hex : ∀ ci, o.op = .call ci → True := fun _ _ => trivial
  have hop : ∃ ci, o.op = .call ci ∧ ci.callee = .builtin .recover ∧ o.guard = none := by
    unfold recB at ho
    split at ho
    · rename_i h1 h2; exact ⟨_, h1, rfl, h2⟩
    · cases ho
  obtain ⟨ci, hci, hcal, hgd⟩ := hop
  have hw : Region.wanted o (yielded ops a.tmps) = true := by unfold Region.wanted; rw [hgd]
  have hrun : (execOp a.eval o).run P w = .ok .recover w := by
    obtain ⟨cal, args, tys⟩ := ci
    simp only at hcal
    subst hcal
    simp only [execOp, hci]
    rfl
  have hlen : cs'.length = cs.length := by
    rcases hrec with hrec | ⟨_, _, rfl⟩
    · exact recoverD_length hrec
    · rfl
  obtain ⟨e, a', w', q, harr⟩ := wp_opsIn _ _ _ h b k cs' (hr.trans rfl) hF (hlen ▸ hroom)
  refine ⟨e, a', cs', w', hlen, q, .of_steps (.one (fenced_calm hF hroom rfl) stepR_region) ?_⟩
  rw [List.range_eq_range', hsz, List.range'_succ]
  have hg := stepGR_op (P := P) (b := b) (k := k) (cs := cs) (w := w) (rest := List.range' (0 + 1) r.length) h0 hw
  rw [hr, Oper.semAt_none] at hg
  have hfin : ∀ v, (b.atR a (.inRegion ops (0 :: List.range' (0 + 1) r.length) :: k)).finish v = b.atR (a.put o.dst v) (.inRegion ops (List.range' (0 + 1) r.length) :: k) := by
    intro v; rw [Frame.finish_atR, h0]; rfl
  have hk : (b.atR a (.inRegion ops (0 :: List.range' (0 + 1) r.length) :: k)).kind = .deferred := hb
  have htr := tryRecover_deferred hk cs
  refine .of_steps (.one (fenced_oper hF hroom h0 fun f _ => trivial) (step_lone_go ?_)) harr
  rw [hg, ← hfin]
  simp only [Frame.atR, hr] at htr ⊢
  rcases hrec with hrec | ⟨hrec, rfl, rfl⟩
  · simp [stepG.apply, hrun, htr, hrec]
  · simp [stepG.apply, hrun, htr, hrec]
def kEndR (P : Program) (rs : List ResultVar) (keep : List Nat) (Q : Ending → Imm → Heap → Prop) (u : Option (List PanicEntry)) (σ : S) (I : Imm) (F : Heap) : Prop := match σ.df with
  | [] => match u with
    | none => (match resAll P σ rs with
      | some vs => Q (.returned (resVal vs)) I (blks (pick σ.own keep) ++ F)
      | none => False)
    | some ch => Q (.panicked ch) I (blks (pick σ.own keep) ++ F)
  | _ => False
def kBodyR (P : Program) (rs : List ResultVar) (keep : List Nat) (Q : Ending → Imm → Heap → Prop) : Kt
  | .normal, σ, I, F => kEndR P rs keep Q none σ I F
  | .ret, σ, I, F => kEndR P rs keep Q none σ I F
  | .panic ch, σ, I, F => kEndR P rs keep Q (some ch) σ I F
  | _, _, _, _ => False
def wRec (P : Program) (A : Ann) (v : Value) (rs : List ResultVar) (keep : List Nat) (Q : Ending → Imm → Heap → Prop) (σ : S) (I : Imm) (F : Heap) : Code → Prop
  | .seq (.region id ops false) rest => match ops.toList with
    | o :: r => cond (recB o) (wOps P A id ops r 1 (σ.put o.dst (some (.a (.v v)))) I F (W P A none rest 2 (kBodyR P rs keep Q)) (fun ch => kBodyR P rs keep Q (.panic ch))) False
    | [] => False
  | _ => False
section
variable {P : Program} {A : Ann}
theorem endR {fn : Func} {keep : List Nat} (hk : asc 0 keep = true) {Q : Ending → Imm → Heap → Prop} {c0 : Frame} {cs : List Frame} {u1 : FrameMode} {R : Ending → FrameMode → World → Prop} {I0 : Imm}
    (hR : ∀ e I' F' w', Imm.le I0 I' → Sat I' F' w' → Q e I' F' → R e u1 w') {e : Exit} {σ : S} {I : Imm} {F : Heap} {a : Act} {w : World} (hr : Rel σ I F a w) (hl : Imm.le I0 I)
    (h : kBodyR P fn.results.toList keep Q e σ I F) : bodyPostS P fn c0 cs R e a ({ c0 with mode := u1 } :: cs) w := by
  have hsub : Sat I (blks (pick σ.own keep) ++ F) w := by
    have h5 := pick_sub keep 0 σ.own hk
    rw [List.drop_zero] at h5
    exact hr.sat.sub ((h5.map _).append (List.Sublist.refl F))
  have key : ∀ u, kEndR P fn.results.toList keep Q u σ I F → a.defers = [] ∧ match u with
      | none => ∃ v, (results fn a.tmps).run P w = .ok v w ∧ Q (.returned v) I (blks (pick σ.own keep) ++ F)
      | some ch => Q (.panicked ch) I (blks (pick σ.own keep) ++ F) := by
    intro u h
    unfold kEndR at h
    split at h
    · rename_i hd
      refine ⟨by rw [hr.defers, hd]; rfl, ?_⟩
      cases u with
      | none =>
        simp only at h ⊢
        split at h
        · rename_i vs hvs; exact ⟨_, results_run hr hvs, h⟩
        · exact h.elim
      | some ch => exact h
    · exact h.elim
  cases e with
  | normal => obtain ⟨h1, v, h2, h3⟩ := key none h; exact ⟨h1, u1, rfl, v, h2, hR _ _ _ _ hl hsub h3⟩
  | ret => obtain ⟨h1, v, h2, h3⟩ := key none h; exact ⟨h1, u1, rfl, v, h2, hR _ _ _ _ hl hsub h3⟩
  | panic ch => obtain ⟨h1, h2⟩ := key (some ch) h; exact ⟨h1, u1, rfl, hR _ _ _ _ hl hsub h2⟩
  | exit id => exact h.elim
  | goto l => exact h.elim
  | outgrown => exact h.elim
theorem triD_of_W (hP : ∀ f, A.good f = true → Enters P f) {f : FuncId} {fn : Func} {c : Code} (hf : P.funcs[f]? = some fn) (hb : fn.body = some c) {args : List AV} {own : List Blk}
    {I : Imm} {F : Heap} {keep : List Nat} {Q : Ending → Imm → Heap → Prop} (hk : asc 0 keep = true) (hwa : ∀ x ∈ args, AV.wf own x) (hwo : ∀ b ∈ own, ∀ x ∈ b.cells, AV.wf own x) {u u1 : FrameMode} {v : Value} (hrec : RecTo u v u1)
    (h : wRec P A v fn.results.toList keep Q ⟨argTm args fn.ntmps, own, []⟩ I F c) {vs : List Value} (hv : vs = args.map AV.g) : TriD P f vs u I (blks own ++ F) fun e u' I' G => u' = u1 ∧ Q e I' G := by
  subst hv
  intro w hw
  unfold wRec at h
  split at h
  · rename_i id ops rest
    split at h
    · rename_i o r hl
      obtain ⟨ho, h⟩ := cond_out h
      refine callsDIn_of_wpSIn hf hb trivial fun c0 cs hu => ?_
      refine wpSIn_seq (wpSIn_rec hl ho (RecTo.at hu hrec) ?_)
      have hrel : Rel ⟨argTm args fn.ntmps, own, []⟩ I F { tmps := (args.map AV.g).toArray ++ Array.replicate (fn.ntmps - (args.map AV.g).toArray.size) undef, defers := [] } w := by
        refine ⟨by simp [argTm], ?_, rfl, ?_, ?_, hw⟩
        · intro t av ht
          simp only [argTm, List.getElem?_append] at ht
          split at ht
          · rename_i hlt
            simp only [List.getElem?_map] at ht
            cases ha : args[t]? with
            | none => rw [ha] at ht; simp at ht
            | some x =>
              rw [ha] at ht
              simp only [Option.map_some, Option.some.injEq] at ht
              subst ht
              simp at hlt
              rw [Array.getElem?_append_left (by simpa using hlt)]
              simp [ha]
          · rw [List.getElem?_replicate] at ht; split at ht <;> cases ht
        · intro t av ht
          simp only [argTm, List.getElem?_append] at ht
          split at ht
          · simp only [List.getElem?_map] at ht
            cases ha : args[t]? with
            | none => rw [ha] at ht; simp at ht
            | some x =>
              rw [ha] at ht
              simp only [Option.map_some, Option.some.injEq] at ht
              subst ht
              exact hwa _ (List.mem_of_getElem? ha)
          · rw [List.getElem?_replicate] at ht; split at ht <;> cases ht
        · exact fun i b hb' x hx => hwo b (List.mem_of_getElem? hb') x hx
      have hrel2 := hrel.put o.dst (av := .a (.v v)) (v := v) rfl trivial
      refine wOps_sound (ro := none) hP r 1 _ I F _ w (.inl rfl) h hrel2 ?_ ?_
      · intro σ' I' F' a' w' h1 h2 h3 _
        refine wpSIn_of_wpIn rfl (wpIn_mono (W_sound hP rest 2 _ none none σ' I' F' a' w' rfl h3 h1) ?_)
        intro e a2 w2 ⟨σ2, I2, F2, g1, g2, g3, _⟩
        exact endR (fn := fn) hk (fun e I3 F3 w3 hl3 hs3 hq3 => ⟨I3, F3, hl3, hs3, rfl, hq3⟩) g1 (Imm.le_trans h2 g2) g3
      · intro ch σ' I' F' a' w' h1 h2 h3 _
        show bodyPostS P fn c0 cs (fun e u' w' => ∃ I' F', I.le I' ∧ Sat I' F' w' ∧ u' = u1 ∧ Q e I' F') (.panic ch) a' _ w'
        exact endR (fn := fn) hk (e := .panic ch) (fun e I3 F3 w3 hl3 hs3 hq3 => ⟨I3, F3, hl3, hs3, rfl, hq3⟩) h1 h2 h3
    · exact h.elim
  · exact h.elim
theorem triD_of_V {f : FuncId} {fn : Func} {args : List AV} {own : List Blk} {I : Imm} {F : Heap} {keep : List Nat} {Q : PostQ} {V : Prop} {u u1 : FrameMode} {v : Value} (gd : List Nat) (hf : P.funcs[f]? = some fn) (hrec : RecTo u v u1) (h : V)
    (e : wRec P A v fn.results.toList keep Q ⟨argTm args fn.ntmps, own, []⟩ I F (fn.body.getD .skip) = V) (hg : A.good = memB gd) (hG : gd.all (goodB P) = true) (hb : fn.body = some (fn.body.getD .skip)) (hk : asc 0 keep = true)
    (hwa : ∀ x ∈ args, AV.wf own x) (hwo : ∀ b ∈ own, ∀ x ∈ b.cells, AV.wf own x) {vs : List Value} (hv : vs = args.map AV.g) : TriD P f vs u I (blks own ++ F) fun e u' I' G => u' = u1 ∧ Q e I' G :=
  triD_of_W (fun f hf' => hP_of gd hG f (by rw [← hg]; exact hf')) hf hb hk hwa hwo hrec (by rw [← e] at h; exact h) hv
end
end Go.Vc
namespace Go.Lx
open Go.Vc
def shT_t6 : List (Nat × List Sh) := []
def tree_caught_1_none.V (a : Nat) (c : Int) (I : Imm) (F : Heap) (Q : PostQ)  : Prop := ∀ b : Nat, Q (.returned (.tuple #[])) I ((a, Obj.cells #[.int .i64 c] 30 (0, 0)) :: F)
theorem tree_caught_1_none.vc {b_c : Nat} {c : Int} {u u1 : FrameMode} (hrec : RecTo u (Value.nilIface) u1) {I : Imm} {F : Heap} {Q : PostQ}  (h : tree_caught_1_none.V b_c c I F Q) : TriD P 89 [.pointer (some ⟨b_c, 0, none⟩)] u I ((b_c, Obj.cells #[.int .i64 c] 30 (0, 0)) :: F) (fun e u' I' G => u' = u1 ∧ Q e I' G) :=
  triD_of_V (A := (annL [] [] [] shT_t6 [] [] [] [] [] [] [])) (args := [.a (.p 0 b_c 0)]) (own := [⟨b_c, 30, false, [.a (.v (.int .i64 c))]⟩]) (keep := [0]) [] Go.Proofs.Tryz.func89 hrec h (by kernel_rfl) (by kernel_rfl) (by kernel_rfl) (by kernel_rfl) (by kernel_rfl) (by simp [AV.wf, At.wf]) (by simp [AV.wf, At.wf]) rfl
def tree_caught_1_some.V (a : Nat) (c b : Int) (I : Imm) (F : Heap) (Q : PostQ)  : Prop := ∀ d : Nat, Q (.returned (.tuple #[])) I ((a, Obj.cells #[.int .i64 b] 30 (0, 0)) :: F)
theorem tree_caught_1_some.vc {b_c : Nat} {c err : Int} {u u1 : FrameMode} (hrec : RecTo u (Value.iface 135 (.agg #[.int .i64 err])) u1) {I : Imm} {F : Heap} {Q : PostQ}  (h : tree_caught_1_some.V b_c c err I F Q) : TriD P 89 [.pointer (some ⟨b_c, 0, none⟩)] u I ((b_c, Obj.cells #[.int .i64 c] 30 (0, 0)) :: F) (fun e u' I' G => u' = u1 ∧ Q e I' G) :=
  triD_of_V (A := (annL [] [] [] shT_t6 [] [] [] [] [] [] [])) (args := [.a (.p 0 b_c 0)]) (own := [⟨b_c, 30, false, [.a (.v (.int .i64 c))]⟩]) (keep := [0]) [] Go.Proofs.Tryz.func89 hrec h (by kernel_rfl) (by kernel_rfl) (by kernel_rfl) (by kernel_rfl) (by kernel_rfl) (by simp [AV.wf, At.wf]) (by simp [AV.wf, At.wf]) rfl
end Go.Lx
namespace Go.Vc
theorem TriV.fn {P : Program} {f : FuncId} {fr cap : Array Value} {args : List Value} {I : Imm} {F : Heap} {Q : Ending → Imm → Heap → Prop} (he : Enters P f) {vs : Array Value} (hv : fr ++ args.toArray ++ cap = vs) (h : Tri P f vs I F Q) : TriV P (.func (.func f) fr cap) args I F Q :=
  fun w hw => .inl ⟨f, fr, cap, rfl, he, by rw [hv]; exact h w hw⟩
theorem TriD.mono {P : Program} {f : FuncId} {args : List Value} {u : FrameMode} {I : Imm} {F : Heap} {Q Q' : Ending → FrameMode → Imm → Heap → Prop} (h : TriD P f args u I F Q) (k : ∀ e u' I' G, Imm.le I I' → Q e u' I' G → Q' e u' I' G) : TriD P f args u I F Q' :=
  fun w hw => (h w hw).mono fun e u' w' ⟨I', F', h1, h2, h3⟩ => ⟨I', F', h1, h2, k _ _ _ _ h1 h3⟩
theorem TriD.perm {P : Program} {f : FuncId} {args : List Value} {u : FrameMode} {I : Imm} {F G : Heap} {Q : Ending → FrameMode → Imm → Heap → Prop} (h : TriD P f args u I F Q) (p : G.Perm F) : TriD P f args u I G Q := fun w hw => h w (hw.perm p)
end Go.Vc
namespace Go.Lx
open Go.Vc
abbrev errOf (n : Int) : Ending := if n = 0 then .returned (.tuple #[]) else .panicked (wrongP n)
theorem caught_spec {look : Fn} {lf lc : Array Value} {n : Int} {I : Imm} {F : Heap} (h : ∀ b : Nat, TriV P (.func look lf lc) [] I ((b, .cells #[.int .i64 0] 30 (0, 0)) :: F) fun e I' G => e = errOf n ∧ G = (b, .cells #[.int .i64 0] 30 (0, 0)) :: F) :
    Tri P 29 #[.func look lf lc] I F (Ret (.int .i64 n) F) := by
  refine tree_caught.vc ?_
  unfold tree_caught.V
  intro b_e
  refine (h b_e).mono fun e I1 G hI1 ⟨he, hG⟩ => ?_
  subst hG
  by_cases hn : n = 0
  · subst hn
    refine .inl ⟨he, F, .refl _, (tree_caught_1_none.vc recTo_nil (Q := fun e I' G => e = .returned (.tuple #[]) ∧ G = (b_e, .cells #[.int .i64 0] 30 (0, 0)) :: F) fun b_x => ⟨rfl, rfl⟩).mono fun e u I2 G _ ⟨hu, he, hG⟩ => ?_⟩
    subst hu
    exact ⟨_, he, 0, F, by rw [hG], .inl ⟨rfl, rfl, rfl⟩⟩
  · rw [errOf, if_neg hn] at he
    refine .inr ⟨_, he, F, .refl _, (tree_caught_1_some.vc (recTo_one _) (Q := fun e I' G => e = .returned (.tuple #[]) ∧ G = (b_e, .cells #[.int .i64 n] 30 (0, 0)) :: F) fun b_x => ⟨rfl, rfl⟩).mono fun e u I2 G _ ⟨hu, he, hG⟩ => ?_⟩
    subst hu
    exact ⟨_, he, n, F, by rw [hG], .inl ⟨rfl, rfl, rfl⟩⟩
theorem enters_ce1 : Enters P 82 := hP_of [82] (by kernel_rfl) _ (by decide)
theorem enters_le1 : Enters P 76 := hP_of [76] (by kernel_rfl) _ (by decide)
theorem enters_de1 : Enters P 79 := hP_of [79] (by kernel_rfl) _ (by decide)
theorem nd_rd {b : Nat} {t : Nd} {I : Imm} {G : Heap} (h : (b, Obj.cells #[.int .u8 t.kind, .int .u8 t.oper, .int .u8 t.typ, .int .i64 t.n, .int .u8 t.field, .string t.name, .slice t.a t.kids.length t.c, .int .i64 t.pos] 55 (0, 0)) ∈ G) : Rd I G (⟨b, 0, none⟩ : Addr) t.enc := Rd.of_own h 0 fun j hj => by simp
theorem checkExpr_spec (t : Nd) (hs : t.px.size ≤ 1048576) (I : Imm) (F : Heap) (ht : NdOk I F t) : Tri P 21 #[t.v] I F (Ret (.int .i64 t.px.checkE) F) := by
  refine tree_CheckExpr.vc ?_
  unfold tree_CheckExpr.V
  intro b_n
  refine (caught_spec (n := t.px.checkE) fun b => TriV.fn enters_ce1 (by simp) (check1_spec hs (ht.cons.cons) (nd_rd (List.mem_cons_of_mem _ (List.mem_cons_self ..))))).mono fun e I1 G hI1 ⟨he, hG⟩ => ?_
  subst hG
  exact ⟨_, he, _, _, _, _, _, _, _, _, _, _, F, .refl _, rfl, rfl⟩
def Px.levelE (x : Px) : Int := if x.formed then x.level else 0
def Px.depthE (x : Px) : Int := if x.formed then x.depth else 0
theorem Level_spec (t : Nd) (hs : t.px.size ≤ 1048576) (I : Imm) (F : Heap) (ht : NdOk I F t) : Tri P 18 #[t.v] I F (Ret (.int .i64 t.px.levelE) F) := by
  refine tree_Level.vc ?_
  unfold tree_Level.V
  intro b_n
  refine (caught_spec (n := if t.px.formed then 0 else 120) fun b => TriV.fn enters_le1 (by simp) ((level1_spec hs (ht.cons.cons) (nd_rd (List.mem_cons_of_mem _ (List.mem_cons_self ..)))).mono fun e I' G _ ⟨he, hG⟩ => ⟨by rw [he]; cases t.px.formed <;> rfl, hG⟩)).mono fun e I1 G hI1 ⟨he, hG⟩ => ?_
  subst hG
  refine ⟨_, he, _, _, _, _, _, _, _, _, _, _, F, .refl _, fun h => ?_, fun h => Tri.ret (tlevel_spec t I1 _) fun I2 _ => ⟨_, rfl, F, .refl _, ?_⟩⟩
  · unfold Px.levelE
    cases hf : t.px.formed with
    | true => rw [hf] at h; simp at h
    | false => exact ⟨rfl, rfl⟩
  · unfold Px.levelE
    cases hf : t.px.formed with
    | true => exact ⟨rfl, rfl⟩
    | false => rw [hf] at h; simp at h
theorem Depth_spec (t : Nd) (hs : t.px.size ≤ 1048576) (I : Imm) (F : Heap) (ht : NdOk I F t) : Tri P 19 #[t.v] I F (Ret (.int .i64 t.px.depthE) F) := by
  refine tree_Depth.vc ?_
  unfold tree_Depth.V
  intro b_n
  refine (caught_spec (n := if t.px.formed then 0 else 120) fun b => TriV.fn enters_de1 (by simp) ((depth1_spec hs (ht.cons.cons) (nd_rd (List.mem_cons_of_mem _ (List.mem_cons_self ..)))).mono fun e I' G _ ⟨he, hG⟩ => ⟨by rw [he]; cases t.px.formed <;> rfl, hG⟩)).mono fun e I1 G hI1 ⟨he, hG⟩ => ?_
  subst hG
  have hf : ∀ (h : (((if t.px.formed = true then (0 : Int) else 120) != 0) = false)), t.px.formed = true := fun h => by
    cases hf : t.px.formed with
    | true => rfl
    | false => rw [hf] at h; simp at h
  refine ⟨_, he, _, _, _, _, _, _, _, _, _, _, F, .refl _, fun h => ?_, fun h => Tri.ret (tdepth_spec t hs (hf h) I1 _ (ht.mono hI1 fun _ h => h).cons) fun I2 _ => ⟨_, rfl, F, .refl _, ?_⟩⟩
  · unfold Px.depthE
    cases hf : t.px.formed with
    | true => rw [hf] at h; simp at h
    | false => exact ⟨rfl, rfl⟩
  · unfold Px.depthE
    rw [hf h]; exact ⟨rfl, rfl⟩
end Go.Lx
namespace Go.Lx
open Go.Vc
def shT_t3 : List (Nat × List Sh) := [(3, [.one (.int .i64)]), (4, [.one .bool]), (53, [.one .slc]), (55, [.agg [(.int .u8), (.int .u8), (.int .u8), (.int .i64), (.int .u8), .str, .slc, (.int .i64)]]), (62, [.one .slc]), (107, [.one .fn]), (124, [.one .fn]), (126, [.one .map])]
def tree_All.V (vb : Int → Value) (e f g h i : Int) (j : Bs) (a : OA) (b c : Nat) (k : Int) (I : Imm) (F : Heap) (Q : PostQ)  : Prop := ∀ d : Nat, Q (.returned (.func (.func 103) #[] #[.pointer (some (⟨d, 0, none⟩ : Addr))])) I (((d, Obj.cells #[vb e, vb f, vb g, .int .i64 h, vb i, .string j, .slice a b c, .int .i64 k] 55 (0, 0)) :: F))
theorem tree_All.vc {n_0 n_1 n_2 n_3 n_4 : Int} {n_5 : Bs} {n_6_a : OA} {n_6_n n_6_c : Nat} {n_7 : Int} {I : Imm} {F : Heap} {Q : PostQ}  (h : tree_All.V (.int .u8) n_0 n_1 n_2 n_3 n_4 n_5 n_6_a n_6_n n_6_c n_7 I F Q) : Tri P 81 #[.agg #[.int .u8 n_0, .int .u8 n_1, .int .u8 n_2, .int .i64 n_3, .int .u8 n_4, .string n_5, .slice n_6_a n_6_n n_6_c, .int .i64 n_7]] I (F) Q :=
  tv (A := (annL [] [] [] shT_t3 [] [] [0] [] [] [] [])) (args := [.a (.v (.agg #[.int .u8 n_0, .int .u8 n_1, .int .u8 n_2, .int .i64 n_3, .int .u8 n_4, .string n_5, .slice n_6_a n_6_n n_6_c, .int .i64 n_7]))]) (own := []) (keep := []) [] Go.Proofs.Tryz.func81 h
def tree_All_1.V (vb vi : Int → Value) (vp : OA → Value) (i : Fn) (g h : Array Value) (c : Addr) (I : Imm) (F : Heap) (Q : PostQ)  : Prop := ∀ b : Nat, ∀ a : Nat, ∃ (cs : List Value) (el : Nat) (F1 : Heap), List.Perm ((a, Obj.cells #[Value.nilFunc] 107 (0, 0)) :: ((b, Obj.cells #[.func i g h] 107 (0, 0)) :: F)) (((⟨a, 0, none⟩ : Addr).block, Obj.cells cs.toArray el (0, 0)) :: F1) ∧ (⟨a, 0, none⟩ : Addr).spot = none ∧ (⟨a, 0, none⟩ : Addr).off + 1 ≤ cs.length ∧ ∃ (m : Fn) (j k : Array Value), Rd I ((((⟨a, 0, none⟩ : Addr).block, Obj.cells (splice (⟨a, 0, none⟩ : Addr).off [.func (.func 104) #[] #[vp (some (⟨b, 0, none⟩ : Addr)), vp (some (⟨a, 0, none⟩ : Addr))]] cs).toArray el (0, 0)) :: F1)) (⟨a, 0, none⟩ : Addr) [.func m j k] ∧ ∃ (l n o p q : Int) (s : Bs) (d : OA) (e f : Nat) (t : Int), Rd I ((((⟨a, 0, none⟩ : Addr).block, Obj.cells (splice (⟨a, 0, none⟩ : Addr).off [.func (.func 104) #[] #[vp (some (⟨b, 0, none⟩ : Addr)), vp (some (⟨a, 0, none⟩ : Addr))]] cs).toArray el (0, 0)) :: F1)) c [vb l, vb n, vb o, vi p, vb q, .string s, .slice d e f, vi t] ∧ TriV P (.func m j k) [.agg #[vb l, vb n, vb o, vi p, vb q, .string s, .slice d e f, vi t]] I ((((⟨a, 0, none⟩ : Addr).block, Obj.cells (splice (⟨a, 0, none⟩ : Addr).off [.func (.func 104) #[] #[vp (some (⟨b, 0, none⟩ : Addr)), vp (some (⟨a, 0, none⟩ : Addr))]] cs).toArray el (0, 0)) :: F1)) fun e1 I1 G1 => ∃ (r : Bool), e1 = .returned (.bool r) ∧ ∃ F2 : Heap, List.Perm G1 (F2) ∧ Q (.returned (.tuple #[])) I1 (F2)
theorem tree_All_1.vc {yield : Fn} {yield_f yield_c : Array Value} {c : Addr} {I : Imm} {F : Heap} {Q : PostQ}  (h : tree_All_1.V (.int .u8) (.int .i64) .pointer yield yield_f yield_c c I F Q) : Tri P 103 #[.func yield yield_f yield_c, .pointer (some c)] I (F) Q :=
  tv (A := (annL [] [] [] shT_t3 [] [] [0, 1000] [] [3002] [] [])) (args := [.a (.v (.func yield yield_f yield_c)), .a (.v (.pointer (some c)))]) (own := []) (keep := []) [] Go.Proofs.Tryz.func103 h
def tree_All_1_1.V (w : Nat → Nat × Obj) (nV : Int → Int → Int → Int → Int → Bs → OA → Nat → Nat → Int → Value) (nL : Int → Int → Int → Int → Int → Bs → OA → Nat → Nat → Int → List Value) (vb : Int → Value) (vt : Bool → Value) (ay az aA aB aC : Int) (aD : Bs) (av : OA) (aw ax : Nat) (aE : Int) (c c1 : Addr) (I : Imm) (F : Heap) (Q : PostQ) (Inv14 : OA → Bool → Int → Nat → Imm → Heap → Imm → Heap → Prop) : Prop := ∀ f : Nat, ∃ (m : Fn) (ai aj : Array Value), Rd I (((w f) :: F)) c [.func m ai aj] ∧ ∃ (ak al am an ao : Int) (ap : Bs) (s : OA) (t u : Nat) (aq : Int), Rd I (((w f) :: F)) (⟨f, 0, none⟩ : Addr) (nL ak al am an ao ap s t u aq) ∧ TriV P (.func m ai aj) [nV ak al am an ao ap s t u aq] I (((w f) :: F)) fun e1 I1 G1 => ∃ (r : Bool), e1 = .returned (vt r) ∧ ∃ F1 : Heap, List.Perm G1 (F1) ∧ (((!r) = true → Q (.returned (vt false)) I1 (F1)) ∧ ((!r) = false → ∃ (ar : OA) (v au : Nat), Rd I1 (F1) ((⟨f, 0, none⟩ : Addr).add 6) [.slice ar v au] ∧ (∃ m1 : Nat, Inv14 (some (⟨f, 0, none⟩ : Addr)) false 0 m1 I1 F1 I1 F1) ∧ ∀ (x : Bool) (x1 : Int) (m2 : Nat) (I2 : Imm) (F2 : Heap), Imm.le I1 I2 → Inv14 (some (⟨f, 0, none⟩ : Addr)) x x1 m2 I1 F1 I2 F2 → ((decide (x1 < ((v : Nat) : Int)) = true → ((0 ≤ x1 ∧ x1 < (v : Int)) ∧ ∃ ad : Addr, ar = some ad ∧ ∃ (g h i j k : Int) (l : Bs) (b : OA) (d e : Nat) (n : Int), Rd I2 (F2) (ad.add (Int.toNat (x1) * 8)) (nL g h i j k l b d e n) ∧ ∀ a : Nat, ∃ (cs : List Value) (el : Nat) (F3 : Heap), List.Perm ((a, Obj.cells #[vb 0, vb 0, vb 0, .int .i64 0, vb 0, .string (⟨#[]⟩ : Bs), .slice none 0 0, .int .i64 0] 55 (0, 0)) :: F2) (((⟨a, 0, none⟩ : Addr).block, Obj.cells cs.toArray el (0, 0)) :: F3) ∧ (⟨a, 0, none⟩ : Addr).spot = none ∧ (⟨a, 0, none⟩ : Addr).off + 8 ≤ cs.length ∧ ∃ (m3 : Fn) (y z : Array Value), Rd I2 ((((⟨a, 0, none⟩ : Addr).block, Obj.cells (splice (⟨a, 0, none⟩ : Addr).off (nL g h i j k l b d e n) cs).toArray el (0, 0)) :: F3)) c1 [.func m3 y z] ∧ ∃ (aa ab ac ae af : Int) (ag : Bs) (o : OA) (p q : Nat) (ah : Int), Rd I2 ((((⟨a, 0, none⟩ : Addr).block, Obj.cells (splice (⟨a, 0, none⟩ : Addr).off (nL g h i j k l b d e n) cs).toArray el (0, 0)) :: F3)) (⟨a, 0, none⟩ : Addr) (nL aa ab ac ae af ag o p q ah) ∧ TriV P (.func m3 y z) [nV aa ab ac ae af ag o p q ah] I2 ((((⟨a, 0, none⟩ : Addr).block, Obj.cells (splice (⟨a, 0, none⟩ : Addr).off (nL g h i j k l b d e n) cs).toArray el (0, 0)) :: F3)) fun e2 I3 G2 => ∃ (r1 : Bool), e2 = .returned (vt r1) ∧ ∃ F4 : Heap, List.Perm G2 (F4) ∧ (((!r1) = true → Q (.returned (vt false)) I3 (F4)) ∧ ((!r1) = false → (∃ m4 : Nat, m4 < m2 ∧ Inv14 (some (⟨f, 0, none⟩ : Addr)) x (IntKind.wrap .i64 (x1 + 1)) m4 I1 F1 I3 F4))))) ∧ (decide (x1 < ((v : Nat) : Int)) = false → Q (.returned (vt true)) I2 (F2)))))
theorem tree_All_1_1.vc {n_0 n_1 n_2 n_3 n_4 : Int} {n_5 : Bs} {n_6_a : OA} {n_6_n n_6_c : Nat} {n_7 : Int} {c c1 : Addr} {I : Imm} {F : Heap} {Q : PostQ} (Inv14 : OA → Bool → Int → Nat → Imm → Heap → Imm → Heap → Prop) (h : tree_All_1_1.V (fun b => (b, Obj.cells #[.int .u8 n_0, .int .u8 n_1, .int .u8 n_2, .int .i64 n_3, .int .u8 n_4, .string n_5, .slice n_6_a n_6_n n_6_c, .int .i64 n_7] 55 (0, 0))) (fun k o t n f s a l c q => .agg #[.int .u8 k, .int .u8 o, .int .u8 t, .int .i64 n, .int .u8 f, .string s, .slice a l c, .int .i64 q]) (fun k o t n f s a l c q => [.int .u8 k, .int .u8 o, .int .u8 t, .int .i64 n, .int .u8 f, .string s, .slice a l c, .int .i64 q]) (.int .u8) .bool n_0 n_1 n_2 n_3 n_4 n_5 n_6_a n_6_n n_6_c n_7 c c1 I F Q Inv14) : Tri P 104 #[.agg #[.int .u8 n_0, .int .u8 n_1, .int .u8 n_2, .int .i64 n_3, .int .u8 n_4, .string n_5, .slice n_6_a n_6_n n_6_c, .int .i64 n_7], .pointer (some c), .pointer (some c1)] I (F) Q :=
  tv (A := (annL [1003, 4000, 6003] [] [] shT_t3 [(14, ⟨[(4, .bool), (14, (.int .i64))], [], fun fs I0 F0 vs m I F => match fs, vs with | [.pointer y0], [.bool y1, .int _ y2] => Inv14 y0 y1 y2 m I0 F0 I F | _, _ => False, [3], []⟩)] [] [0, 5002] [] [1002, 6002] [] [])) (args := [.a (.v (.agg #[.int .u8 n_0, .int .u8 n_1, .int .u8 n_2, .int .i64 n_3, .int .u8 n_4, .string n_5, .slice n_6_a n_6_n n_6_c, .int .i64 n_7])), .a (.v (.pointer (some c))), .a (.v (.pointer (some c1)))]) (own := []) (keep := []) [] Go.Proofs.Tryz.func104 h
def tree_Size.V (e c : Nat → Nat × Obj) (nV : Int → Int → Int → Int → Int → Bs → OA → Nat → Nat → Int → Value) (vi : Int → Value) (o p q s t : Int) (u : Bs) (g : OA) (h i : Nat) (v : Int) (I : Imm) (F : Heap) (Q : PostQ)  : Prop := ∀ f : Nat, ∀ a : Nat, Tri P 81 (#[nV o p q s t u g h i v]) I ((e f) :: (c a) :: F) fun e1 I1 G1 => ∃ (r : Fn) (m n : Array Value), e1 = .returned (.func r m n) ∧ ∃ F1 : Heap, List.Perm G1 ((e f) :: (c a) :: F1) ∧ ∀ (Y : Fn) (L Lb : Heap) (Lx : Option Nat → Heap) (D : Nat), (∀ (w x y z aa : Int) (ab : Bs) (j : OA) (k l : Nat) (ac d : Int) (I2 : Imm) (F2 : Heap) (Q1 : Ending → Imm → Heap → Prop), Imm.le I1 I2 → (∃ F3 : Heap, List.Perm (L ++ F2) (L ++ F3) ∧ ∃ F4 : Heap, List.Perm (Lb ++ F3) (Lb ++ F4) ∧ Q1 (.returned (.bool true)) I2 ((e f) :: (a, Obj.cells #[vi (IntKind.wrap .i64 (d + 1))] 3 (0, 0)) :: (L ++ F4))) → TriV P (.func Y #[] #[]) [nV w x y z aa ab j k l ac] I2 ((e f) :: (a, Obj.cells #[vi d] 3 (0, 0)) :: (L ++ F2)) Q1) → TriC P (.func r m n) [.func Y #[] #[]] I1 ((e f) :: (c a) :: (L ++ F1)) fun e2 I3 G2 => ∃ r1 : Value, e2 = .returned r1 ∧ ((∃ (b : Int), ∃ F5 : Heap, List.Perm G2 ((e f) :: (a, Obj.cells #[vi b] 3 (0, 0)) :: (L ++ F5)) ∧ ∃ F6 : Heap, List.Perm ((D, Obj.deferred (some [])) :: F5) ((D, Obj.deferred (some [])) :: F6) ∧ Q (.returned (vi b)) I3 (F6)) ∨ False)
theorem tree_Size.vc {n_0 n_1 n_2 n_3 n_4 : Int} {n_5 : Bs} {n_6_a : OA} {n_6_n n_6_c : Nat} {n_7 : Int} {I : Imm} {F : Heap} {Q : PostQ}  (h : tree_Size.V (fun b => (b, Obj.cells #[.int .u8 n_0, .int .u8 n_1, .int .u8 n_2, .int .i64 n_3, .int .u8 n_4, .string n_5, .slice n_6_a n_6_n n_6_c, .int .i64 n_7] 55 (0, 0))) (fun b => (b, Obj.cells #[.int .i64 0] 3 (0, 0))) (fun k o t n f s a l c q => .agg #[.int .u8 k, .int .u8 o, .int .u8 t, .int .i64 n, .int .u8 f, .string s, .slice a l c, .int .i64 q]) (.int .i64) n_0 n_1 n_2 n_3 n_4 n_5 n_6_a n_6_n n_6_c n_7 I F Q) : Tri P 20 #[.agg #[.int .u8 n_0, .int .u8 n_1, .int .u8 n_2, .int .i64 n_3, .int .u8 n_4, .string n_5, .slice n_6_a n_6_n n_6_c, .int .i64 n_7]] I (F) Q :=
  tv (A := (annL [] [] [81] shT_t3 [(8, ⟨[], [(1, [(.int .i64)])], fun _ _ _ _ _ _ _ => True, [], [.agg [(.int .u8), (.int .u8), (.int .u8), (.int .i64), (.int .u8), .str, .slc, (.int .i64)]]⟩)] [] [] [] [] [] [])) (args := [.a (.v (.agg #[.int .u8 n_0, .int .u8 n_1, .int .u8 n_2, .int .i64 n_3, .int .u8 n_4, .string n_5, .slice n_6_a n_6_n n_6_c, .int .i64 n_7]))]) (own := []) (keep := []) [81] Go.Proofs.Tryz.func20 h
def tree_Reads.V (h ae af : Nat → Nat × Obj) (nV : Int → Int → Int → Int → Int → Bs → OA → Nat → Nat → Int → Value) (nO : Int → Int → Int → Int → Int → Bs → OA → Nat → Nat → Int → Obj) (vi g : Int → Value) (vs : Bs → Value) (vl : OA → Nat → Nat → Value) (am an ao ap aq : Int) (ar : Bs) (ah : OA) (ai aj : Nat) (au : Int) (I : Imm) (F : Heap) (Q : PostQ)  : Prop := ∀ i : Nat, ∀ j : Nat, ∀ k : Nat, TriE P (Instr.makeMap 126 none) I ((h i) :: (af j) :: (ae k) :: F) fun v I1 G1 => ∃ (r : Option Nat), v = .map r ∧ ∃ F1 : Heap, List.Perm G1 ((h i) :: (af j) :: (ae k) :: F1) ∧ ∀ a : Nat, Tri P 81 (#[nV am an ao ap aq ar ah ai aj au]) I1 ((h i) :: (af j) :: (ae k) :: (a, Obj.cells #[.map r] 126 (0, 0)) :: F1) fun e1 I2 G2 => ∃ (r1 : Fn) (ak al : Array Value), e1 = .returned (.func r1 ak al) ∧ ∃ F2 : Heap, List.Perm G2 ((h i) :: (af j) :: (ae k) :: (a, Obj.cells #[.map r] 126 (0, 0)) :: F2) ∧ ∀ (Y : Fn) (L Lb : Heap) (Lx : Option Nat → Heap) (D : Nat), (∀ (p s t u o : Int) (q : Bs) (l : OA) (m n : Nat) (w f : Int) (c : OA) (d e : Nat) (I3 : Imm) (F3 : Heap) (Q1 : Ending → Imm → Heap → Prop), Imm.le I2 I3 → (∀ x : Nat, ∃ F4 : Heap, List.Perm (L ++ F3) (L ++ F4) ∧ (((p == 3) = true → ((decide (o < 16) = true → ((0 ≤ o) ∧ ∃ F5 : Heap, List.Perm (Lb ++ F4) (Lb ++ F5) ∧ Q1 (.returned (.bool true)) I3 ((h i) :: (j, Obj.cells #[g (IntKind.wrap .u16 (BitVec.toNat ((BitVec.ofInt 16 f) ||| (BitVec.ofInt 16 (IntKind.wrap .u16 (1 * 2 ^ (min (Int.toNat o) 16))))) : Int))] 61 (0, 0)) :: (k, Obj.cells #[vl c d e] 62 (0, 0)) :: (a, Obj.cells #[.map r] 126 (0, 0)) :: (L ++ F5)))) ∧ (decide (o < 16) = false → ∃ F6 : Heap, List.Perm (Lb ++ F4) (Lb ++ F6) ∧ Q1 (.returned (.bool true)) I3 ((h i) :: (j, Obj.cells #[g f] 61 (0, 0)) :: (k, Obj.cells #[vl c d e] 62 (0, 0)) :: (a, Obj.cells #[.map r] 126 (0, 0)) :: (L ++ F6))))) ∧ ((p == 3) = false → (((p == 4) = true → ((decide (o < 16) = true → ((0 ≤ o) ∧ ∃ F7 : Heap, List.Perm (Lb ++ F4) (Lb ++ F7) ∧ Q1 (.returned (.bool true)) I3 ((h i) :: (j, Obj.cells #[g (IntKind.wrap .u16 (BitVec.toNat ((BitVec.ofInt 16 f) ||| (BitVec.ofInt 16 (IntKind.wrap .u16 (1 * 2 ^ (min (Int.toNat o) 16))))) : Int))] 61 (0, 0)) :: (k, Obj.cells #[vl c d e] 62 (0, 0)) :: (a, Obj.cells #[.map r] 126 (0, 0)) :: (L ++ F7)))) ∧ (decide (o < 16) = false → ∃ F8 : Heap, List.Perm (Lb ++ F4) (Lb ++ F8) ∧ Q1 (.returned (.bool true)) I3 ((h i) :: (j, Obj.cells #[g f] 61 (0, 0)) :: (k, Obj.cells #[vl c d e] 62 (0, 0)) :: (a, Obj.cells #[.map r] 126 (0, 0)) :: (L ++ F8))))) ∧ ((p == 4) = false → (((p == 2) = true → TriE P (Instr.lookup 126 (.map r) (vs q) false) I3 ((h i) :: (j, Obj.cells #[g f] 61 (0, 0)) :: (k, Obj.cells #[vl c d e] 62 (0, 0)) :: (a, Obj.cells #[.map r] 126 (0, 0)) :: (x, nO p s t u o q l m n w) :: (Lb ++ F4)) fun v1 I4 G3 => ∃ (r2 : Int), v1 = vi r2 ∧ ∃ F9 : Heap, List.Perm G3 ((h i) :: (j, Obj.cells #[g f] 61 (0, 0)) :: (k, Obj.cells #[vl c d e] 62 (0, 0)) :: (a, Obj.cells #[.map r] 126 (0, 0)) :: (x, nO p s t u o q l m n w) :: F9) ∧ (((r2 == 0) = true → ∀ (b : Nat) (I5 : Imm), Imm.le I4 I5 → I5 b = some (Obj.cells #[vs q] 9 (0, 0)) → TriE P (Builtin.append_ #[62, 62] 62 #[vl c d e, vl (some ⟨b, 0, none⟩) 1 1]) I5 ((h i) :: (j, Obj.cells #[g f] 61 (0, 0)) :: (k, Obj.cells #[vl c d e] 62 (0, 0)) :: (a, Obj.cells #[.map r] 126 (0, 0)) :: (x, nO p s t u o q l m n w) :: F9) fun v2 I6 G4 => ∃ (ac : OA) (ad y : Nat), v2 = vl ac ad y ∧ ∃ F10 : Heap, List.Perm G4 ((h i) :: (j, Obj.cells #[g f] 61 (0, 0)) :: (k, Obj.cells #[vl c d e] 62 (0, 0)) :: (a, Obj.cells #[.map r] 126 (0, 0)) :: (x, nO p s t u o q l m n w) :: F10) ∧ TriE P (Instr.lookup 126 (.map r) (vs q) false) I6 ((h i) :: (j, Obj.cells #[g f] 61 (0, 0)) :: (k, Obj.cells #[vl ac ad y] 62 (0, 0)) :: (a, Obj.cells #[.map r] 126 (0, 0)) :: (x, nO p s t u o q l m n w) :: F10) fun v3 I7 G5 => ∃ (r3 : Int), v3 = vi r3 ∧ ∃ F11 : Heap, List.Perm G5 ((h i) :: (j, Obj.cells #[g f] 61 (0, 0)) :: (k, Obj.cells #[vl ac ad y] 62 (0, 0)) :: (a, Obj.cells #[.map r] 126 (0, 0)) :: (x, nO p s t u o q l m n w) :: F11) ∧ TriU P (Instr.mapUpdate 126 (.map r) (vs q) (vi (IntKind.wrap .i64 (r3 + 1)))) I7 ((h i) :: (j, Obj.cells #[g f] 61 (0, 0)) :: (k, Obj.cells #[vl ac ad y] 62 (0, 0)) :: (a, Obj.cells #[.map r] 126 (0, 0)) :: (x, nO p s t u o q l m n w) :: F11) fun I8 G6 => ∃ F12 : Heap, List.Perm G6 ((h i) :: (j, Obj.cells #[g f] 61 (0, 0)) :: (k, Obj.cells #[vl ac ad y] 62 (0, 0)) :: (a, Obj.cells #[.map r] 126 (0, 0)) :: (x, nO p s t u o q l m n w) :: F12) ∧ ∃ F13 : Heap, List.Perm F12 (Lb ++ F13) ∧ Q1 (.returned (.bool true)) I8 ((h i) :: (j, Obj.cells #[g f] 61 (0, 0)) :: (k, Obj.cells #[vl ac ad y] 62 (0, 0)) :: (a, Obj.cells #[.map r] 126 (0, 0)) :: (L ++ F13))) ∧ ((r2 == 0) = false → TriE P (Instr.lookup 126 (.map r) (vs q) false) I4 ((h i) :: (j, Obj.cells #[g f] 61 (0, 0)) :: (k, Obj.cells #[vl c d e] 62 (0, 0)) :: (a, Obj.cells #[.map r] 126 (0, 0)) :: (x, nO p s t u o q l m n w) :: F9) fun v4 I9 G7 => ∃ (r4 : Int), v4 = vi r4 ∧ ∃ F14 : Heap, List.Perm G7 ((h i) :: (j, Obj.cells #[g f] 61 (0, 0)) :: (k, Obj.cells #[vl c d e] 62 (0, 0)) :: (a, Obj.cells #[.map r] 126 (0, 0)) :: (x, nO p s t u o q l m n w) :: F14) ∧ TriU P (Instr.mapUpdate 126 (.map r) (vs q) (vi (IntKind.wrap .i64 (r4 + 1)))) I9 ((h i) :: (j, Obj.cells #[g f] 61 (0, 0)) :: (k, Obj.cells #[vl c d e] 62 (0, 0)) :: (a, Obj.cells #[.map r] 126 (0, 0)) :: (x, nO p s t u o q l m n w) :: F14) fun I10 G8 => ∃ F15 : Heap, List.Perm G8 ((h i) :: (j, Obj.cells #[g f] 61 (0, 0)) :: (k, Obj.cells #[vl c d e] 62 (0, 0)) :: (a, Obj.cells #[.map r] 126 (0, 0)) :: (x, nO p s t u o q l m n w) :: F15) ∧ ∃ F16 : Heap, List.Perm F15 (Lb ++ F16) ∧ Q1 (.returned (.bool true)) I10 ((h i) :: (j, Obj.cells #[g f] 61 (0, 0)) :: (k, Obj.cells #[vl c d e] 62 (0, 0)) :: (a, Obj.cells #[.map r] 126 (0, 0)) :: (L ++ F16))))) ∧ ((p == 2) = false → ∃ F17 : Heap, List.Perm (Lb ++ F4) (Lb ++ F17) ∧ Q1 (.returned (.bool true)) I3 ((h i) :: (j, Obj.cells #[g f] 61 (0, 0)) :: (k, Obj.cells #[vl c d e] 62 (0, 0)) :: (a, Obj.cells #[.map r] 126 (0, 0)) :: (L ++ F17))))))))) → TriV P (.func Y #[] #[]) [nV p s t u o q l m n w] I3 ((h i) :: (j, Obj.cells #[g f] 61 (0, 0)) :: (k, Obj.cells #[vl c d e] 62 (0, 0)) :: (a, Obj.cells #[.map r] 126 (0, 0)) :: (L ++ F3)) Q1) → TriC P (.func r1 ak al) [.func Y #[] #[]] I2 ((h i) :: (af j) :: (ae k) :: (a, Obj.cells #[.map r] 126 (0, 0)) :: (L ++ F2)) fun e2 I11 G9 => ∃ r5 : Value, e2 = .returned r5 ∧ ((∃ (ag : Int) (z : OA) (aa ab : Nat), ∃ F18 : Heap, List.Perm G9 ((h i) :: (j, Obj.cells #[g ag] 61 (0, 0)) :: (k, Obj.cells #[vl z aa ab] 62 (0, 0)) :: (a, Obj.cells #[.map r] 126 (0, 0)) :: (L ++ F18)) ∧ ∃ F19 : Heap, List.Perm ((D, Obj.deferred (some [])) :: F18) ((D, Obj.deferred (some [])) :: F19) ∧ Q (.returned (.tuple #[g ag, vl z aa ab])) I11 (F19)) ∨ False)
theorem tree_Reads.vc {n_0 n_1 n_2 n_3 n_4 : Int} {n_5 : Bs} {n_6_a : OA} {n_6_n n_6_c : Nat} {n_7 : Int} {I : Imm} {F : Heap} {Q : PostQ}  (h : tree_Reads.V (fun b => (b, Obj.cells #[.int .u8 n_0, .int .u8 n_1, .int .u8 n_2, .int .i64 n_3, .int .u8 n_4, .string n_5, .slice n_6_a n_6_n n_6_c, .int .i64 n_7] 55 (0, 0))) (fun b => (b, Obj.cells #[.slice none 0 0] 62 (0, 0))) (fun b => (b, Obj.cells #[.int .u16 0] 61 (0, 0))) (fun k o t n f s a l c q => .agg #[.int .u8 k, .int .u8 o, .int .u8 t, .int .i64 n, .int .u8 f, .string s, .slice a l c, .int .i64 q]) (fun k o t n f s a l c q => .cells #[.int .u8 k, .int .u8 o, .int .u8 t, .int .i64 n, .int .u8 f, .string s, .slice a l c, .int .i64 q] 55 (0, 0)) (.int .i64) (.int .u16) .string .slice n_0 n_1 n_2 n_3 n_4 n_5 n_6_a n_6_n n_6_c n_7 I F Q) : Tri P 23 #[.agg #[.int .u8 n_0, .int .u8 n_1, .int .u8 n_2, .int .i64 n_3, .int .u8 n_4, .string n_5, .slice n_6_a n_6_n n_6_c, .int .i64 n_7]] I (F) Q :=
  tv (A := (annL [7000, 8000, 9002, 11000, 12004] [] [81] shT_t3 [(12, ⟨[], [(1, [(.int .u16)]), (2, [.slc])], fun _ _ _ _ _ _ _ => True, [], [.agg [(.int .u8), (.int .u8), (.int .u8), (.int .i64), (.int .u8), .str, .slc, (.int .i64)]]⟩)] [13003] [] [] [] [] [])) (args := [.a (.v (.agg #[.int .u8 n_0, .int .u8 n_1, .int .u8 n_2, .int .i64 n_3, .int .u8 n_4, .string n_5, .slice n_6_a n_6_n n_6_c, .int .i64 n_7]))]) (own := []) (keep := []) [81] Go.Proofs.Tryz.func23 h
end Go.Lx
namespace Go.Lx
open Go.Vc
theorem enters_down : Enters P 104 := hP_of [104] (by kernel_rfl) _ (by decide)
theorem enters_all1 : Enters P 103 := hP_of [103] (by kernel_rfl) _ (by decide)
theorem Rd.one {b : Nat} {o : Obj} {I : Imm} {G : Heap} {cells : Array Value} {e : Nat} (h : I b = some (.cells cells e (0, 0)) ∨ (b, Obj.cells cells e (0, 0)) ∈ G) (i : Nat) {v : Value} (hv : cells[i]? = some v) : Rd I G (⟨b, i, none⟩ : Addr) [v] :=
  ⟨rfl, cells, e, (0, 0), h, fun j hj => by
    have : j = 0 := by simpa using hj
    subst this
    rw [Nat.add_zero, hv]; rfl⟩
def Went (S : Nat → Imm → Heap → Prop) (X : Imm → Heap → Prop) (k : Nat) (e : Ending) (I : Imm) (G : Heap) : Prop := (e = .returned (.bool true) ∧ S k I G) ∨ (e = .returned (.bool false) ∧ X I G)
theorem down_spec {xs : List Nd} {y : Fn} {ya yb : Array Value} {cY cD : Addr} {S : Nat → Imm → Heap → Prop} {X : Imm → Heap → Prop} {I1 : Imm} (hcY : ∀ J G, Imm.le I1 J → Rd J G cY [.func y ya yb])
    (hcD : ∀ J G, Imm.le I1 J → Rd J G cD [.func (.func 104) #[] #[.pointer (some cY), .pointer (some cD)]])
    (hS : ∀ k I2 I3 F F', S k I2 F → Imm.le I2 I3 → F.Perm F' → S k I3 F') (hX : ∀ I2 I3 F F', X I2 F → Imm.le I2 I3 → F.Perm F' → X I3 F')
    (hround : ∀ k x I2 F2, xs[k]? = some x → Imm.le I1 I2 → S k I2 F2 → TriV P (.func y ya yb) [x.v] I2 F2 (Went S X (k + 1))) :
    ∀ t : Nd, t.px.size ≤ 1048576 → (∀ k I2 F2, Imm.le I1 I2 → S k I2 F2 → NdOk I2 F2 t) → ∀ k, (∀ j x, t.nodes[j]? = some x → xs[k + j]? = some x) → ∀ I2 F2, Imm.le I1 I2 → S k I2 F2 →
      Tri P 104 #[t.v, .pointer (some cY), .pointer (some cD)] I2 F2 (Went S X (k + t.nodes.length)) := by
  refine Nd.ind fun t ih hs hread k hxs I2 F2 hI2 hS2 => ?_
  have hln := size_len hs
  refine tree_All_1_1.vc (fun bn x i m I0 F0 I' F' => 0 ≤ i ∧ i ≤ t.kids.length ∧ m = (t.kids.length - i).toNat ∧ S (k + 1 + (Nd.nodesL (t.kids.take i.toNat)).length) I' F') ?_
  unfold tree_All_1_1.V
  intro b_n
  have ht0 : t.nodes[0]? = some t := by rw [Nd.nodes_eq]; rfl
  refine ⟨y, ya, yb, hcY _ _ hI2, _, _, _, _, _, _, _, _, _, _, nd_rd (List.mem_cons_self ..), TriV.promote fun hp => (hround k t _ F2 (by simpa using hxs 0 t ht0) (Imm.le_trans hI2 hp) (hS _ _ _ _ _ hS2 hp (.refl _))).mono fun e I3 G hI3 hq => ?_⟩
  have hb3 := hI3.at (Imm.put_same I2 b_n (.cells t.enc.toArray 55 (0, 0)))
  have hl3 := Imm.le_trans hI2 (Imm.le_trans hp hI3)
  rcases hq with ⟨he, hq⟩ | ⟨he, hq⟩
  · refine ⟨true, he, G, .refl _, fun h => by (cases h), fun _ => ⟨t.a, t.kids.length, t.c, ?_, ⟨_, by omega, by omega, rfl, hq⟩, fun x i m I4 F4 hI4 ⟨g0, g1, gm, gS⟩ => ⟨fun hlt => ?_, fun hlt => .inl ⟨rfl, ?_⟩⟩⟩⟩
    · rw [add_lit0]; exact Rd.one (o := default) (.inl hb3) 6 rfl
    · have hlt := of_decide_eq_true hlt
      have hl4 := Imm.le_trans hl3 hI4
      have ht4 := hread _ _ _ hl4 gS
      obtain ⟨ad, z, had, hz, hrd, hzo, hzm⟩ := ht4.kids.at g0 hlt
      refine ⟨⟨g0, hlt⟩, ad, had, _, _, _, _, _, _, _, _, _, _, hrd, fun b_k => ⟨_, _, F4, .refl _, rfl, (by decide : 0 + 8 ≤ 8), _, _, _, hcD _ _ hl4, _, _, _, _, _, _, _, _, _, _, nd_rd (t := z) (List.mem_cons_self ..), ?_⟩⟩
      refine TriV.promote (b := b_k) (o := .cells z.enc.toArray 55 (0, 0)) fun hp4 => TriV.fn enters_down (vs := #[z.v, .pointer (some cY), .pointer (some cD)]) (by simp) ?_
      have hzn : ∀ j u, z.nodes[j]? = some u → xs[k + 1 + (Nd.nodesL (t.kids.take i.toNat)).length + j]? = some u := fun j u hu => by
        have h1 : t.nodes[1 + ((Nd.nodesL (t.kids.take i.toNat)).length + j)]? = some u := by
          rw [Nd.nodes_eq, Nat.add_comm 1, List.getElem?_cons_succ]
          have h2 : Nd.nodesL t.kids = Nd.nodesL (t.kids.take i.toNat) ++ (z.nodes ++ Nd.nodesL (t.kids.drop (i.toNat + 1))) := by
            conv => lhs; rw [← List.take_append_drop (i.toNat + 1) t.kids, nodesL_app, nodesL_take hz, List.append_assoc]
          rw [h2, List.getElem?_append_right (by omega), Nat.add_sub_cancel_left, List.getElem?_append_left (List.getElem?_eq_some_iff.1 hu).1]; exact hu
        have := hxs _ _ h1
        rw [← this]; congr 1; omega
      refine (ih z hzm (size_kid hzm hs) (fun k' I' F' hl' hS' => (hread k' I' F' hl' hS').kid z hzm) _ hzn _ F4 (Imm.le_trans hl4 hp4) (hS _ _ _ _ _ gS hp4 (.refl _))).mono fun e2 I5 G5 hI5 hq5 => ?_
      rcases hq5 with ⟨he5, hq5⟩ | ⟨he5, hq5⟩
      · refine ⟨true, he5, G5, .refl _, fun h => by (cases h), fun _ => ⟨(t.kids.length - (i + 1)).toNat, by omega, ?_⟩⟩
        rw [w64 (n := i + 1) (by omega)]
        refine ⟨by omega, by omega, rfl, ?_⟩
        rw [show (i + 1).toNat = i.toNat + 1 by omega, nodesL_take hz, List.length_append, ← Nat.add_assoc]; exact hq5
      · exact ⟨false, he5, G5, .refl _, fun _ => .inr ⟨rfl, hq5⟩, fun h => by (cases h)⟩
    · have hlt := of_decide_eq_false hlt
      rw [List.take_of_length_le (by omega)] at gS
      rw [Nd.nodes_eq, List.length_cons, Nat.add_comm (Nd.nodesL t.kids).length, ← Nat.add_assoc]; exact gS
  · exact ⟨false, he, G, .refl _, fun _ => .inr ⟨rfl, hq⟩, fun h => by (cases h)⟩
theorem tAll_spec (t : Nd) (I : Imm) (F : Heap) : Tri P 81 #[t.v] I F fun e I' G => ∃ b, e = .returned (.func (.func 103) #[] #[.pointer (some ⟨b, 0, none⟩)]) ∧ I' b = some (.cells t.enc.toArray 55 (0, 0)) ∧ G = F := by
  refine Tri.keep (Q := fun e I' G => ∃ b, e = .returned (.func (.func 103) #[] #[.pointer (some ⟨b, 0, none⟩)]) ∧ G = (b, Obj.cells #[.int .u8 t.kind, .int .u8 t.oper, .int .u8 t.typ, .int .i64 t.n, .int .u8 t.field, .string t.name, .slice t.a t.kids.length t.c, .int .i64 t.pos] 55 (0, 0)) :: F) (tree_All.vc fun b => ⟨b, rfl, rfl⟩) fun e I' G w hl hs ⟨b, he, hG⟩ => ?_
  subst hG
  obtain ⟨h1, h2⟩ := hs.promote
  exact ⟨_, _, h1, h2, b, he, Imm.put_same _ _ _, rfl⟩
def IterN (P : Program) (v : Value) (I : Imm) (t : Nd) : Prop :=
  ∀ (y : Fn) (ya yb : Array Value) (S : Nat → Imm → Heap → Prop) (X : Imm → Heap → Prop) (I1 : Imm) (F1 : Heap), Imm.le I I1 →
    (∀ k I2 I3 F F', S k I2 F → Imm.le I2 I3 → F.Perm F' → S k I3 F') → (∀ I2 I3 F F', X I2 F → Imm.le I2 I3 → F.Perm F' → X I3 F') → (∀ k I2 F2, Imm.le I1 I2 → S k I2 F2 → NdOk I2 F2 t) →
    (∀ k x I2 F2, t.nodes[k]? = some x → Imm.le I1 I2 → S k I2 F2 → TriV P (.func y ya yb) [x.v] I2 F2 (Went S X (k + 1))) →
    S 0 I1 F1 → TriC P v [.func y ya yb] I1 F1 fun e I2 G => ∃ r, e = .returned r ∧ (S t.nodes.length I2 G ∨ X I2 G)
theorem tAll_iter {t : Nd} (hs : t.px.size ≤ 1048576) {I : Imm} {b : Nat} (hb : I b = some (.cells t.enc.toArray 55 (0, 0))) : IterN P (.func (.func 103) #[] #[.pointer (some ⟨b, 0, none⟩)]) I t := by
  intro y ya yb S X I1 F1 hI1 hS hX hread hround h0
  intro w hw
  refine ⟨103, #[], #[.pointer (some ⟨b, 0, none⟩)], rfl, enters_all1, ?_⟩
  have hb1 := hI1.at hb
  revert w
  refine tree_All_1.vc ?_
  unfold tree_All_1.V
  intro b_yield b_down
  refine ⟨_, _, _, .refl _, rfl, (by decide : 0 + 1 ≤ 1), .func 104, #[], #[.pointer (some ⟨b_yield, 0, none⟩), .pointer (some ⟨b_down, 0, none⟩)], Rd.one (o := default) (.inr (List.mem_cons_self ..)) 0 rfl, _, _, _, _, _, _, _, _, _, _, Rd.of_imm (cs := t.enc) hb1 _ 0 fun j hj => by simp, ?_⟩
  refine TriV.promote (b := b_down) (o := .cells #[.func (.func 104) #[] #[.pointer (some ⟨b_yield, 0, none⟩), .pointer (some ⟨b_down, 0, none⟩)]] 107 (0, 0)) fun hp1 => ?_
  refine TriV.promote (b := b_yield) (o := .cells #[.func y ya yb] 107 (0, 0)) fun hp2 => TriV.fn enters_down (vs := #[t.v, .pointer (some ⟨b_yield, 0, none⟩), .pointer (some ⟨b_down, 0, none⟩)]) (by simp) ?_
  have hl := Imm.le_trans hp1 hp2
  have hd := hp2.at (Imm.put_same I1 b_down (.cells #[.func (.func 104) #[] #[.pointer (some ⟨b_yield, 0, none⟩), .pointer (some ⟨b_down, 0, none⟩)]] 107 (0, 0)))
  have hy := Imm.put_same (I1.put b_down (.cells #[.func (.func 104) #[] #[.pointer (some ⟨b_yield, 0, none⟩), .pointer (some ⟨b_down, 0, none⟩)]] 107 (0, 0))) b_yield (.cells #[.func y ya yb] 107 (0, 0))
  refine (down_spec (xs := t.nodes) (y := y) (ya := ya) (yb := yb) (cY := ⟨b_yield, 0, none⟩) (cD := ⟨b_down, 0, none⟩) (S := S) (X := X) (fun J G hJ => Rd.one (o := default) (.inl (hJ.at hy)) 0 rfl) (fun J G hJ => Rd.one (o := default) (.inl (hJ.at hd)) 0 rfl) hS hX
    (fun k x I2 F2 hx hle hk => hround k x I2 F2 hx (Imm.le_trans hl hle) hk) t hs (fun k I2 F2 hle hk => hread k I2 F2 (Imm.le_trans hl hle) hk) 0 (fun j x hx => by rw [Nat.zero_add]; exact hx) _ F1 (Imm.le_refl _) (hS _ _ _ _ _ h0 hl (.refl _))).mono fun e I3 G hI3 hq => ?_
  rw [Nat.zero_add] at hq
  rcases hq with ⟨he, hq⟩ | ⟨he, hq⟩
  · exact ⟨true, he, G, .refl _, _, rfl, .inl hq⟩
  · exact ⟨false, he, G, .refl _, _, rfl, .inr hq⟩
end Go.Lx
namespace Go.Vc
open Go.MapKept
def MapG {κ β : Type} (key : κ → Value) (val : β → Value) (g : κ → Option β) (es : Array MapEntry) (clock : Nat) : Prop :=
  Stamped es clock ∧ (∀ x ∈ es.toList, ∃ k b, x.key = key k ∧ x.val = val b ∧ g k = some b) ∧ (∀ k b, g k = some b → ∃ x ∈ es.toList, x.key = key k)
theorem MapG.nil {κ β : Type} {key : κ → Value} {val : β → Value} (c : Nat) : MapG key val (fun _ => none) #[] c := ⟨stamped_empty c, by simp, fun k b h => by cases h⟩
theorem MapG.congr {κ β : Type} {key : κ → Value} {val : β → Value} {g g' : κ → Option β} {es : Array MapEntry} {clock : Nat} (h : MapG key val g es clock) (e : ∀ k, g k = g' k) : MapG key val g' es clock := by
  rw [← funext e]; exact h
theorem nodup_ne {α : Type} : ∀ {l : List α} {i j : Nat} {x : α}, l.Nodup → i < j → l[i]? = some x → l[j]? = some x → False
  | [], _, _, _, _, _, h, _ => by simp at h
  | y :: l, 0, j + 1, x, hn, _, h1, h2 => by
    simp only [List.getElem?_cons_zero, Option.some.injEq] at h1
    subst h1
    exact (List.nodup_cons.1 hn).1 (List.mem_of_getElem? (by simpa using h2))
  | y :: l, i + 1, j + 1, x, hn, hl, h1, h2 => nodup_ne (l := l) (x := x) (i := i) (j := j) (List.nodup_cons.1 hn).2 (by omega) (by simpa using h1) (by simpa using h2)
def putG {κ β : Type} [DecidableEq κ] (g : κ → Option β) (k : κ) (b : β) : κ → Option β := fun j => if j = k then some b else g j
section
variable {P : Program} {κ β : Type} {d : TypeDesc} {key : κ → Value} {val : β → Value} {g : κ → Option β} {es : Array MapEntry} {clock : Nat} {t kt et : TypeId} {I : Imm} {F : Heap} {r : Nat} {k : κ} {z : Value}
theorem MapG.find (hk : ∀ k, IsKey d (key k)) (hi : ∀ k k', key k = key k' → k = k') (h : MapG key val g es clock) (k : κ) :
    (Instr.findNow d (key k) es.toList 0 = some none ∧ (∀ x ∈ es.toList, x.key ≠ key k) ∧ g k = none) ∨
    ∃ j e b, Instr.findNow d (key k) es.toList 0 = some (some (j, val b)) ∧ es[j]? = some e ∧ e.key = key k ∧ e.val = val b ∧ g k = some b := by
  obtain ⟨hs, h1, h2⟩ := h
  have hks : ∀ x ∈ es.toList, IsKey d x.key := fun x hx => by obtain ⟨k', b, e, _⟩ := h1 x hx; rw [e]; exact hk k'
  rcases findNow_spec (hk k) es.toList 0 hks with ⟨g1, g2⟩ | ⟨j, e, g1, g2, g3⟩
  · refine .inl ⟨g1, g2, ?_⟩
    cases hg : g k with
    | none => rfl
    | some b => obtain ⟨x, hx, e⟩ := h2 k b hg; exact absurd e (g2 x hx)
  · obtain ⟨k', b, e1, e2, e3⟩ := h1 e (List.mem_of_getElem? g2)
    obtain rfl : k' = k := hi _ _ (e1.symm.trans g3)
    refine .inr ⟨j, e, b, ?_, by simpa using g2, g3, e2, e3⟩
    rw [g1, e2, Nat.zero_add]
theorem run_zero {et : TypeId} {z : Value} (hz : (P.info? et).map (·.zero) = some (some z)) (w : World) : (zeroValue et).run P w = .ok z w := by
  cases h : P.info? et with
  | none => rw [h] at hz; cases hz
  | some i =>
    rw [h] at hz
    simp only [Option.map_some, Option.some.injEq] at hz
    simp [zeroValue, typeInfo, h, hz, Result.andThen]
theorem map_at (hm : I r = some (.map es clock) ∨ (r, Obj.map es clock) ∈ F) {w : World} (hw : Sat I F w) : w.heap[r]? = some (.map es clock) := hm.elim (hw.imm _ _) (hw.own _ _)
theorem lookup_one (ht : P.underlying t = some (.map kt et)) (hd : P.underlying kt = some d) (hk : ∀ k, IsKey d (key k)) (hi : ∀ k k', key k = key k' → k = k') (hz : (P.info? et).map (·.zero) = some (some z))
    (h : MapG key val g es clock) (hm : I r = some (.map es clock) ∨ (r, Obj.map es clock) ∈ F) (k : κ) :
    TriE P (Instr.lookup t (.map (some r)) (key k) false) I F fun v I' G => v = (g k).elim z val ∧ I' = I ∧ G = F := by
  intro w hw
  have hb := map_at hm hw
  rcases h.find hk hi k with ⟨h1, _, hg⟩ | ⟨j, e, b, h1, _, _, _, hg⟩
  · refine ⟨_, w, I, F, ?_, Imm.le_refl I, hw, rfl, rfl, rfl⟩
    simp [Instr.lookup, run_underlying ht, MapKept.run_getObj_map hb, run_checkKey hd (hk k), run_findKey hd h1, run_zero hz, Result.andThen, hg]
  · refine ⟨_, w, I, F, ?_, Imm.le_refl I, hw, rfl, rfl, rfl⟩
    simp [Instr.lookup, run_underlying ht, MapKept.run_getObj_map hb, run_checkKey hd (hk k), run_findKey hd h1, Result.andThen, hg]
theorem makeMap_spec : TriE P (Instr.makeMap t none) I F fun v I' G => ∃ b, v = .map (some b) ∧ I' = I ∧ G = (b, Obj.map #[] 0) :: F := by
  intro w hw
  exact ⟨_, _, I, _, rfl, Imm.le_refl I, hw.alloc _, _, rfl, rfl, rfl⟩
variable [DecidableEq κ]
theorem MapG.push (hi : ∀ k k', key k = key k' → k = k') (h : MapG key val g es clock) (hno : ∀ x ∈ es.toList, x.key ≠ key k) (b : β) : MapG key val (putG g k b) (es.push { key := key k, val := val b, born := clock }) (clock + 1) := by
  obtain ⟨hs, h1, h2⟩ := h
  refine ⟨stamped_push hs hno, fun x hx => ?_, fun k' b' hg => ?_⟩
  · simp only [Array.toList_push, List.mem_append, List.mem_singleton] at hx
    rcases hx with hx | rfl
    · obtain ⟨k', b', e1, e2, e3⟩ := h1 x hx
      refine ⟨k', b', e1, e2, ?_⟩
      unfold putG; rw [if_neg]
      · exact e3
      · intro e; subst e; exact hno x hx e1
    · exact ⟨k, b, rfl, rfl, if_pos rfl⟩
  · unfold putG at hg
    by_cases e : k' = k
    · subst e; exact ⟨_, by simp; exact .inr rfl, rfl⟩
    · rw [if_neg e] at hg
      obtain ⟨x, hx, e⟩ := h2 k' b' hg
      exact ⟨x, by simp only [Array.toList_push, List.mem_append]; exact .inl hx, e⟩
theorem MapG.modify (hi : ∀ k k', key k = key k' → k = k') (h : MapG key val g es clock) {j : Nat} {e : MapEntry} (hj : es[j]? = some e) (he : e.key = key k) (b : β) {f : MapEntry → MapEntry} (hf : ∀ x, (f x).born = x.born)
    (hfk : ∀ x, x.key = key k → (f x).key = key k) (hv : ∀ x, (f x).val = val b) : MapG key val (putG g k b) (es.modify j f) clock := by
  obtain ⟨hs, h1, h2⟩ := h
  have hkey : ∀ e', es[j]? = some e' → (f e').key = e'.key := fun e' he' => by rw [hj] at he'; cases he'; rw [hfk _ he, he]
  refine ⟨stamped_modify hs _ _ (fun x _ => hf x) fun x _ hx => hkey x hx, fun x hx => ?_, fun k' b' hg => ?_⟩
  · obtain ⟨i, hx'⟩ := List.mem_iff_getElem?.1 hx
    simp only [Array.getElem?_toList, Array.getElem?_modify] at hx'
    by_cases hij : j = i
    · subst hij
      rw [if_pos rfl, hj] at hx'
      simp only [Option.map_some, Option.some.injEq] at hx'
      subst hx'
      exact ⟨k, b, hfk _ he, hv _, if_pos rfl⟩
    · rw [if_neg hij] at hx'
      obtain ⟨k', b', e1, e2, e3⟩ := h1 x (List.mem_of_getElem? (by simpa using hx'))
      refine ⟨k', b', e1, e2, ?_⟩
      unfold putG; rw [if_neg]
      · exact e3
      · intro ek; subst ek
        have hnd := hs.2.2
        have : i < es.size := (Array.getElem?_eq_some_iff.1 hx').1
        have : j < es.size := (Array.getElem?_eq_some_iff.1 hj).1
        rcases Nat.lt_or_gt_of_ne hij with hlt | hlt
        · exact nodup_ne hnd hlt (by simp [hj]; exact he) (by simp [hx']; exact e1)
        · exact nodup_ne hnd hlt (by simp [hx']; exact e1) (by simp [hj]; exact he)
  · have hk' : key k' ∈ es.toList.map (·.key) := by
      by_cases e' : k' = k
      · subst e'; exact List.mem_map.2 ⟨e, List.mem_of_getElem? (by simpa using hj), he⟩
      · unfold putG at hg
        rw [if_neg e'] at hg
        obtain ⟨x, hx, ex⟩ := h2 k' b' hg
        exact List.mem_map.2 ⟨x, hx, ex⟩
    rw [← modify_keys j f hkey] at hk'
    obtain ⟨x, hx, ex⟩ := List.mem_map.1 hk'
    exact ⟨x, hx, ex⟩
theorem update_spec (ht : P.underlying t = some (.map kt et)) (hd : P.underlying kt = some d) (hk : ∀ k, IsKey d (key k)) (hi : ∀ k k', key k = key k' → k = k') (h : MapG key val g es clock) (k : κ) (b : β) :
    TriU P (Instr.mapUpdate t (.map (some r)) (key k) (val b)) I ((r, Obj.map es clock) :: F) fun I' G => I' = I ∧ ∃ es' c', G = (r, Obj.map es' c') :: F ∧ MapG key val (putG g k b) es' c' := by
  intro w hw
  have hb : w.heap[r]? = some (.map es clock) := hw.own _ _ (List.mem_cons_self ..)
  rcases h.find hk hi k with ⟨h1, h2, hg⟩ | ⟨j, e, b', h1, h2, h3, h4, hg⟩
  · refine ⟨_, I, _, ?_, Imm.le_refl I, hw.set (w' := { w with heap := w.heap.setIfInBounds r (.map (es.push { key := key k, val := val b, born := clock }) (clock + 1)) }) rfl ⟨rfl, rfl⟩, rfl, _, _, rfl, h.push hi h2 b⟩
    simp [Instr.mapUpdate, run_underlying ht, MapKept.run_getObj_map hb, run_checkKey hd (hk k), run_findKey hd h1, run_setObj_map _ hb, Result.andThen]
  · refine ⟨_, I, _, ?_, Imm.le_refl I, hw.set (w' := { w with heap := w.heap.setIfInBounds r (.map (es.modify j fun e => { e with key := key k, val := val b }) clock) }) rfl ⟨rfl, rfl⟩, rfl, _, _, rfl, h.modify hi h2 h3 b (fun _ => rfl) (fun _ _ => rfl) (fun _ => rfl)⟩
    simp [Instr.mapUpdate, run_underlying ht, MapKept.run_getObj_map hb, run_checkKey hd (hk k), run_findKey hd h1, h2, h3, run_keyThatStays (hk k), run_setObj_map _ hb, Result.andThen]
end
end Go.Vc
namespace Go.Vc
theorem TriU.perm {P : Program} {s : Sem Unit} {I : Imm} {F G : Heap} {Q : Imm → Heap → Prop} (h : TriU P s I F Q) (p : G.Perm F) : TriU P s I G Q := fun w hw => h w (hw.perm p)
theorem TriU.mono {P : Program} {s : Sem Unit} {I : Imm} {F : Heap} {Q Q' : Imm → Heap → Prop} (h : TriU P s I F Q) (k : ∀ I' F', Imm.le I I' → Q I' F' → Q' I' F') : TriU P s I F Q' :=
  fun w hw => let ⟨w', I', F', hr, hl, hs, hq⟩ := h w hw; ⟨w', I', F', hr, hl, hs, k _ _ hl hq⟩
theorem str_key : ∀ s : ByteArray, MapKept.IsKey .string (Value.string s) := fun _ => trivial
theorem str_inj : ∀ s t : ByteArray, Value.string s = Value.string t → s = t := fun _ _ h => by cases h; rfl
end Go.Vc
namespace Go.Lx
open Go.Vc
theorem tSize_spec (t : Nd) (hs : t.px.size ≤ 1048576) (I : Imm) (F : Heap) (ht : NdOk I F t) : Tri P 20 #[t.v] I F (Ret (.int .i64 t.px.size) F) := by
  refine tree_Size.vc ?_
  unfold tree_Size.V
  intro b_n b_many
  have hlen := nodes_len t
  refine (tAll_spec t I _).mono fun e I1 G hI1 ⟨b, he, hb, hG⟩ => ?_
  subst hG
  refine ⟨_, _, _, he, F, .refl _, ?_⟩
  intro Y L Lb Lx D hTr
  refine (tAll_iter hs hb Y #[] #[] (fun k I' G => G.Perm ((b_n, Obj.cells #[.int .u8 t.kind, .int .u8 t.oper, .int .u8 t.typ, .int .i64 t.n, .int .u8 t.field, .string t.name, .slice t.a t.kids.length t.c, .int .i64 t.pos] 55 (0, 0)) :: (b_many, .cells #[.int .i64 (k : Int)] 3 (0, 0)) :: (L ++ F))) (fun _ _ => False) I1 _ (Imm.le_refl _) (fun k I2 I3 F' F'' hp _ hp' => hp'.symm.trans hp) (fun _ _ _ _ h => h.elim) ?_ ?_ (.refl _)).mono ?_
  · exact fun k I2 F2 hle hp => ht.mono (Imm.le_trans hI1 hle) fun x hx => hp.mem_iff.2 (List.mem_cons_of_mem _ (List.mem_cons_of_mem _ (List.mem_append_right _ hx)))
  · intro k x I2 F2 hk hle hp
    have hlt := (List.getElem?_eq_some_iff.1 hk).1
    refine TriV.perm (hTr x.kind x.oper x.typ x.n x.field x.name x.a x.kids.length x.c x.pos k I2 F _ hle ⟨F, .refl _, F, .refl _, .inl ⟨rfl, ?_⟩⟩) hp
    have : IntKind.wrap .i64 ((k : Int) + 1) = ((k + 1 : Nat) : Int) := by rw [w64 (by omega)]; omega
    rw [this]
  · intro e I6 G hI6 ⟨r, he, hq⟩
    rcases hq with hp | hq
    · exact ⟨r, he, .inl ⟨_, F, hp, F, .refl _, by rw [hlen], rfl⟩⟩
    · exact hq.elim
end Go.Lx
namespace Go.Lx
open Go.Vc
def Met (l : List ByteArray) (k : Nat) (g : ByteArray → Option Int) : Prop := ∀ s, (hasS l s = true → ∃ m, g s = some m ∧ 1 ≤ m ∧ m ≤ k) ∧ (hasS l s = false → g s = none)
theorem Met.nil : Met [] 0 fun _ => none := fun s => ⟨fun h => by simp [hasS] at h, fun _ => rfl⟩
theorem Met.mono {l : List ByteArray} {k : Nat} {g : ByteArray → Option Int} (h : Met l k g) : Met l (k + 1) g := fun s => ⟨fun hs => let ⟨m, h1, h2, h3⟩ := (h s).1 hs; ⟨m, h1, h2, by omega⟩, (h s).2⟩
theorem Met.new {l : List ByteArray} {k : Nat} {g : ByteArray → Option Int} (h : Met l k g) {s : ByteArray} : Met (l ++ [s]) (k + 1) (putG g s 1) := fun t => by
  have e : hasS (l ++ [s]) t = (hasS l t || decide (s = t)) := by unfold hasS; rw [List.any_append]; simp
  rw [e]
  unfold putG
  by_cases hts : t = s
  · subst hts; rw [if_pos rfl]; exact ⟨fun _ => ⟨1, rfl, by omega, by omega⟩, fun h => by simp at h⟩
  · rw [if_neg hts]
    have : decide (s = t) = false := decide_eq_false fun e => hts e.symm
    rw [this, Bool.or_false]; exact h.mono t
theorem Met.more {l : List ByteArray} {k : Nat} {g : ByteArray → Option Int} (h : Met l k g) {s : ByteArray} {m : Int} (hs : hasS l s = true) (h1 : 1 ≤ m) (h2 : m ≤ k) : Met l (k + 1) (putG g s (m + 1)) := fun t => by
  unfold putG
  by_cases hts : t = s
  · subst hts; rw [if_pos rfl]; exact ⟨fun _ => ⟨_, rfl, by omega, by omega⟩, fun h => by rw [hs] at h; cases h⟩
  · rw [if_neg hts]; exact h.mono t
theorem tReads_spec (t : Nd) (hs : t.px.size ≤ 1048576) (hw : t.px.Wf) (I : Imm) (F : Heap) (ht : NdOk I F t) :
    Tri P 23 #[t.v] I F fun e I' G => ∃ a n c A, e = .returned (.tuple #[.int .u16 (masks t.px.nodes), .slice a n c]) ∧ Acc 1 encS 9 a n c (namesOf t.px.nodes) A ∧ G = A ++ F := by
  refine Tri.keep (Q := fun e I' G => ∃ a n c A R, e = .returned (.tuple #[.int .u16 (masks t.px.nodes), .slice a n c]) ∧ Acc 1 encS 9 a n c (namesOf t.px.nodes) A ∧ G.Perm (R ++ (A ++ F))) ?_ fun e I' G w hl hsat ⟨a, n, c, A, R, he, hA, hp⟩ => ⟨I', A ++ F, Imm.le_refl _, (hsat.perm hp).drop, a, n, c, A, he, hA, rfl⟩
  refine tree_Reads.vc ?_
  unfold tree_Reads.V
  intro b_n b_m b_l
  have hlen := nodes_len t
  have htm : P.underlying 126 = some (.map 9 3) := by kernel_rfl
  have hts : P.underlying 9 = some .string := by kernel_rfl
  have hti : (P.info? 3).map (·.zero) = some (some (.int .i64 0)) := by kernel_rfl
  refine TriE.mono makeMap_spec fun v I1 G hI1 ⟨r, hv, hI, hG⟩ => ?_
  subst hG hI
  refine ⟨some r, hv, (r, .map #[] 0) :: F, (perm_of fun z => by simp only [cn_app, cn_cons, cn_nil]; omega), fun b_met => ?_⟩
  refine (tAll_spec t I1 _).mono fun e I2 G hI2 ⟨b, he, hb, hG⟩ => ?_
  subst hG
  refine ⟨_, _, _, he, (r, .map #[] 0) :: F, .refl _, ?_⟩
  intro Y L Lb Lx D hTr
  refine (tAll_iter hs hb Y #[] #[] (fun k I' G => ∃ a n c A g es cl, G.Perm ((b_n, Obj.cells #[.int .u8 t.kind, .int .u8 t.oper, .int .u8 t.typ, .int .i64 t.n, .int .u8 t.field, .string t.name, .slice t.a t.kids.length t.c, .int .i64 t.pos] 55 (0, 0)) :: (b_m, Obj.cells #[.int .u16 (masks ((t.nodes.take k).map Nd.px))] 61 (0, 0)) :: (b_l, Obj.cells #[.slice a n c] 62 (0, 0)) :: (b_met, Obj.cells #[.map (some r)] 126 (0, 0)) :: (L ++ (A ++ ((r, .map es cl) :: F)))) ∧ Acc 1 encS 9 a n c (namesOf ((t.nodes.take k).map Nd.px)) A ∧
    MapG Value.string (Value.int .i64) g es cl ∧ Met (namesOf ((t.nodes.take k).map Nd.px)) k g) (fun _ _ => False) I2 _ (Imm.le_refl _) (fun k I2 I3 F' F'' ⟨a, n, c, A, g, es, cl, hp, hq⟩ _ hp' => ⟨a, n, c, A, g, es, cl, hp'.symm.trans hp, hq⟩) (fun _ _ _ _ h => h.elim) ?_ ?_ ⟨none, 0, 0, [], _, _, _, .refl _, Acc.nil, MapG.nil 0, Met.nil⟩).mono ?_
  · exact fun k I3 F3 hle ⟨a, n, c, A, g, es, cl, hp, _⟩ => ht.mono (Imm.le_trans hI2 hle) fun x hx => hp.mem_iff.2 (by simp only [List.mem_cons, List.mem_append]; exact .inr (.inr (.inr (.inr (.inr (.inr (.inr hx)))))))
  · intro k x I3 F3 hk hle ⟨a, n, c, A, g, es, cl, hp, hA, hM, hmet⟩
    have hlt := (List.getElem?_eq_some_iff.1 hk).1
    have hfit := Wf.nd hw x (List.mem_of_getElem? hk)
    have hf0 : 0 ≤ x.field := by have := hfit.2.2.2.2.1.1; rwa [Nd.px_field] at this
    have hnl := names_len ((t.nodes.take k).map Nd.px)
    rw [List.length_map, List.length_take] at hnl
    have hmk := mask_take hk
    have hnk := names_take hk
    unfold rdMask at hmk
    unfold rdNames at hnk
    rw [Nd.px_kind, Nd.px_field] at hmk
    rw [Nd.px_kind, Nd.px_name] at hnk
    refine TriV.perm (hTr x.kind x.oper x.typ x.n x.field x.name x.a x.kids.length x.c x.pos (masks ((t.nodes.take k).map Nd.px)) a n c I3 (A ++ ((r, .map es cl) :: F)) _ hle ?_) hp
    intro b_x
    have fin : ∀ m1 : Int, x.kind ≠ 2 → m1 = masks ((t.nodes.take (k + 1)).map Nd.px) → Went (fun k I' G => ∃ a n c A g es cl, G.Perm ((b_n, Obj.cells #[.int .u8 t.kind, .int .u8 t.oper, .int .u8 t.typ, .int .i64 t.n, .int .u8 t.field, .string t.name, .slice t.a t.kids.length t.c, .int .i64 t.pos] 55 (0, 0)) :: (b_m, Obj.cells #[.int .u16 (masks ((t.nodes.take k).map Nd.px))] 61 (0, 0)) :: (b_l, Obj.cells #[.slice a n c] 62 (0, 0)) :: (b_met, Obj.cells #[.map (some r)] 126 (0, 0)) :: (L ++ (A ++ ((r, .map es cl) :: F)))) ∧ Acc 1 encS 9 a n c (namesOf ((t.nodes.take k).map Nd.px)) A ∧
        MapG Value.string (Value.int .i64) g es cl ∧ Met (namesOf ((t.nodes.take k).map Nd.px)) k g) (fun _ _ => False) (k + 1) (.returned (.bool true)) I3 ((b_n, Obj.cells #[.int .u8 t.kind, .int .u8 t.oper, .int .u8 t.typ, .int .i64 t.n, .int .u8 t.field, .string t.name, .slice t.a t.kids.length t.c, .int .i64 t.pos] 55 (0, 0)) :: (b_m, Obj.cells #[.int .u16 (m1)] 61 (0, 0)) :: (b_l, Obj.cells #[.slice a n c] 62 (0, 0)) :: (b_met, Obj.cells #[.map (some r)] 126 (0, 0)) :: (L ++ (A ++ ((r, .map es cl) :: F)))) := fun m1 hk2 hm1 => by
      refine .inl ⟨rfl, a, n, c, A, g, es, cl, by rw [hm1], ?_⟩
      rw [if_neg (fun h => hk2 h.1)] at hnk
      rw [hnk]; exact ⟨hA, hM, hmet.mono⟩
    refine ⟨A ++ ((r, .map es cl) :: F), .refl _, fun h3 => ⟨fun h16 => ⟨hf0, _, .refl _, fin _ ?_ ?_⟩, fun h16 => ⟨_, .refl _, fin _ ?_ ?_⟩⟩, fun h3 => ⟨fun h4 => ⟨fun h16 => ⟨hf0, _, .refl _, fin _ ?_ ?_⟩, fun h16 => ⟨_, .refl _, fin _ ?_ ?_⟩⟩, fun h4 => ⟨fun h2 => ?_, fun h2 => ⟨_, .refl _, fin _ ?_ ?_⟩⟩⟩⟩
    all_goals (try have h16 := of_decide_eq_true h16)
    all_goals (try have h16 := of_decide_eq_false h16)
    all_goals (simp only [beq_iff_eq, beq_eq_false_iff_ne] at h3)
    all_goals (try simp only [beq_iff_eq, beq_eq_false_iff_ne] at h4)
    all_goals (try simp only [beq_iff_eq, beq_eq_false_iff_ne] at h2)
    all_goals first
      | omega
      | (rw [hmk]; split <;> first | rfl | (exfalso; omega))
      | skip
    have hmk' : masks ((t.nodes.take (k + 1)).map Nd.px) = masks ((t.nodes.take k).map Nd.px) := by rw [hmk, if_neg (by omega)]
    refine TriE.mono (lookup_one htm hts str_key str_inj hti hM (.inr (by simp)) x.name) fun v1 I4 G4 hI4 ⟨hv1, hI, hG⟩ => ?_
    subst hI hG
    by_cases hin : hasS (namesOf ((t.nodes.take k).map Nd.px)) x.name = true
    · obtain ⟨m, hg, hm1, hm2⟩ := (hmet x.name).1 hin
      rw [hg] at hv1
      refine ⟨m, hv1, Lb ++ (A ++ ((r, .map es cl) :: F)), .refl _, fun h => ?_, fun _ => ?_⟩
      · have : m = 0 := by simpa using h
        omega
      refine TriE.mono (lookup_one htm hts str_key str_inj hti hM (.inr (by simp)) x.name) fun v2 I5 G5 hI5 ⟨hv2, hI, hG⟩ => ?_
      subst hI hG
      rw [hg] at hv2
      refine ⟨m, hv2, Lb ++ (A ++ ((r, .map es cl) :: F)), .refl _, ?_⟩
      have hw1 : IntKind.wrap .i64 (m + 1) = m + 1 := w64 (by omega)
      rw [hw1]
      refine TriU.perm (TriU.mono (update_spec htm hts str_key str_inj hM x.name (m + 1) (F := (b_n, Obj.cells #[.int .u8 t.kind, .int .u8 t.oper, .int .u8 t.typ, .int .i64 t.n, .int .u8 t.field, .string t.name, .slice t.a t.kids.length t.c, .int .i64 t.pos] 55 (0, 0)) :: (b_m, Obj.cells #[.int .u16 (masks ((t.nodes.take k).map Nd.px))] 61 (0, 0)) :: (b_l, Obj.cells #[.slice a n c] 62 (0, 0)) :: (b_met, Obj.cells #[.map (some r)] 126 (0, 0)) :: (b_x, Obj.cells #[.int .u8 x.kind, .int .u8 x.oper, .int .u8 x.typ, .int .i64 x.n, .int .u8 x.field, .string x.name, .slice x.a x.kids.length x.c, .int .i64 x.pos] 55 (0, 0)) :: (Lb ++ (A ++ F)))) fun I6 G6 hI6 ⟨hI, es', cl', hG, hM'⟩ => ?_) (perm_of fun z => by simp only [cn_app, cn_cons, cn_nil]; omega)
      subst hI hG
      refine ⟨Lb ++ (A ++ ((r, .map es' cl') :: F)), (perm_of fun z => by simp only [cn_app, cn_cons, cn_nil]; omega), A ++ ((r, .map es' cl') :: F), .refl _, .inl ⟨rfl, a, n, c, A, _, es', cl', by rw [hmk'], ?_, hM', ?_⟩⟩
      · rw [hnk, if_neg (fun h => by rw [hin] at h; cases h.2)]; exact hA
      · rw [hnk, if_neg (fun h => by rw [hin] at h; cases h.2)]; exact hmet.more hin hm1 hm2
    · have hin : hasS (namesOf ((t.nodes.take k).map Nd.px)) x.name = false := by simpa using hin
      have hg := (hmet x.name).2 hin
      rw [hg] at hv1
      refine ⟨0, hv1, Lb ++ (A ++ ((r, .map es cl) :: F)), .refl _, fun _ => ?_, fun h => by (cases h)⟩
      intro b I5 hI5 hb5
      refine TriE.perm (TriE.mono (append_str hA (by omega) x.name rfl hb5 (F := (b_n, Obj.cells #[.int .u8 t.kind, .int .u8 t.oper, .int .u8 t.typ, .int .i64 t.n, .int .u8 t.field, .string t.name, .slice t.a t.kids.length t.c, .int .i64 t.pos] 55 (0, 0)) :: (b_m, Obj.cells #[.int .u16 (masks ((t.nodes.take k).map Nd.px))] 61 (0, 0)) :: (b_l, Obj.cells #[.slice a n c] 62 (0, 0)) :: (b_met, Obj.cells #[.map (some r)] 126 (0, 0)) :: (b_x, Obj.cells #[.int .u8 x.kind, .int .u8 x.oper, .int .u8 x.typ, .int .i64 x.n, .int .u8 x.field, .string x.name, .slice x.a x.kids.length x.c, .int .i64 x.pos] 55 (0, 0)) :: (Lb ++ ((r, .map es cl) :: F)))) fun v3 I6 G6 hI6 ⟨a', n', c', A', hv3, hA', hG⟩ => ?_) (perm_of fun z => by simp only [cn_app, cn_cons, cn_nil]; omega)
      subst hG
      refine ⟨a', n', c', hv3, Lb ++ (A' ++ ((r, .map es cl) :: F)), (perm_of fun z => by simp only [cn_app, cn_cons, cn_nil]; omega), ?_⟩
      refine TriE.mono (lookup_one htm hts str_key str_inj hti hM (.inr (by simp)) x.name) fun v2 I7 G7 hI7 ⟨hv2, hI, hG⟩ => ?_
      subst hI hG
      rw [hg] at hv2
      refine ⟨0, hv2, Lb ++ (A' ++ ((r, .map es cl) :: F)), .refl _, ?_⟩
      refine TriU.perm (TriU.mono (update_spec htm hts str_key str_inj hM x.name (1 : Int) (F := (b_n, Obj.cells #[.int .u8 t.kind, .int .u8 t.oper, .int .u8 t.typ, .int .i64 t.n, .int .u8 t.field, .string t.name, .slice t.a t.kids.length t.c, .int .i64 t.pos] 55 (0, 0)) :: (b_m, Obj.cells #[.int .u16 (masks ((t.nodes.take k).map Nd.px))] 61 (0, 0)) :: (b_l, Obj.cells #[.slice a' n' c'] 62 (0, 0)) :: (b_met, Obj.cells #[.map (some r)] 126 (0, 0)) :: (b_x, Obj.cells #[.int .u8 x.kind, .int .u8 x.oper, .int .u8 x.typ, .int .i64 x.n, .int .u8 x.field, .string x.name, .slice x.a x.kids.length x.c, .int .i64 x.pos] 55 (0, 0)) :: (Lb ++ (A' ++ F)))) fun I8 G8 hI8 ⟨hI, es', cl', hG, hM'⟩ => ?_) (perm_of fun z => by simp only [cn_app, cn_cons, cn_nil]; omega)
      subst hI hG
      refine ⟨Lb ++ (A' ++ ((r, .map es' cl') :: F)), (perm_of fun z => by simp only [cn_app, cn_cons, cn_nil]; omega), A' ++ ((r, .map es' cl') :: F), .refl _, .inl ⟨rfl, a', n', c', A', _, es', cl', by rw [hmk'], ?_, hM', ?_⟩⟩
      · rw [hnk, if_pos ⟨h2, hin⟩]; exact hA'
      · rw [hnk, if_pos ⟨h2, hin⟩]; exact hmet.new
  · intro e I6 G hI6 ⟨r1, he, hq⟩
    rcases hq with ⟨a, n, c, A, g, es, cl, hp, hA, _⟩ | hq
    · rw [List.take_length, nodes_px] at hp hA
      exact ⟨r1, he, .inl ⟨_, a, n, c, A ++ ((r, .map es cl) :: F), hp, A ++ ((r, .map es cl) :: F), .refl _, a, n, c, A, [(r, .map es cl)], rfl, hA, (perm_of fun z => by simp only [cn_app, cn_cons, cn_nil]; omega)⟩⟩
    · exact hq.elim
end Go.Lx
namespace Go.Lx
open Go.Vc
structure RegP where
  name : ByteArray
  typ : Int
  init : Px
  pos : Int
structure SlotP where
  name : ByteArray
  pos : Int
structure DoP where
  kind : Int
  order : Int
  name : ByteArray
  side : Px
  qty : Px
  price : Px
  value : Px
  pos : Int
structure RuleP where
  when : Px
  dos : List DoP
  pos : Int
structure StateP where
  name : ByteArray
  rules : List RuleP
  pos : Int
structure StgP where
  name : ByteArray
  regs : List RegP
  slots : List SlotP
  states : List StateP
structure RegN where
  name : ByteArray
  typ : Int
  init : Nd
  pos : Int
structure DoN where
  kind : Int
  order : Int
  name : ByteArray
  side : Nd
  qty : Nd
  price : Nd
  value : Nd
  pos : Int
structure RuleN where
  when : Nd
  a : Option Addr
  c : Nat
  dos : List DoN
  pos : Int
structure StateN where
  name : ByteArray
  a : Option Addr
  c : Nat
  rules : List RuleN
  pos : Int
structure StgN where
  name : ByteArray
  ra : Option Addr
  rc : Nat
  regs : List RegN
  sa : Option Addr
  sc : Nat
  slots : List SlotP
  ta : Option Addr
  tc : Nat
  states : List StateN
def RegN.p (r : RegN) : RegP := ⟨r.name, r.typ, r.init.px, r.pos⟩
def DoN.p (d : DoN) : DoP := ⟨d.kind, d.order, d.name, d.side.px, d.qty.px, d.price.px, d.value.px, d.pos⟩
def RuleN.p (r : RuleN) : RuleP := ⟨r.when.px, r.dos.map DoN.p, r.pos⟩
def StateN.p (s : StateN) : StateP := ⟨s.name, s.rules.map RuleN.p, s.pos⟩
def StgN.p (s : StgN) : StgP := ⟨s.name, s.regs.map RegN.p, s.slots, s.states.map StateN.p⟩
abbrev RegN.enc (r : RegN) : List Value := [.string r.name, .int .u8 r.typ, .int .u8 r.init.kind, .int .u8 r.init.oper, .int .u8 r.init.typ, .int .i64 r.init.n, .int .u8 r.init.field, .string r.init.name, .slice r.init.a r.init.kids.length r.init.c, .int .i64 r.init.pos, .int .i64 r.pos]
abbrev SlotP.enc (r : SlotP) : List Value := [.string r.name, .int .i64 r.pos]
abbrev DoN.enc (d : DoN) : List Value := [.int .u8 d.kind, .int .u8 d.order, .string d.name, .int .u8 d.side.kind, .int .u8 d.side.oper, .int .u8 d.side.typ, .int .i64 d.side.n, .int .u8 d.side.field, .string d.side.name, .slice d.side.a d.side.kids.length d.side.c, .int .i64 d.side.pos, .int .u8 d.qty.kind, .int .u8 d.qty.oper, .int .u8 d.qty.typ, .int .i64 d.qty.n, .int .u8 d.qty.field, .string d.qty.name, .slice d.qty.a d.qty.kids.length d.qty.c, .int .i64 d.qty.pos, .int .u8 d.price.kind, .int .u8 d.price.oper, .int .u8 d.price.typ, .int .i64 d.price.n, .int .u8 d.price.field, .string d.price.name, .slice d.price.a d.price.kids.length d.price.c, .int .i64 d.price.pos, .int .u8 d.value.kind, .int .u8 d.value.oper, .int .u8 d.value.typ, .int .i64 d.value.n, .int .u8 d.value.field, .string d.value.name, .slice d.value.a d.value.kids.length d.value.c, .int .i64 d.value.pos, .int .i64 d.pos]
abbrev RuleN.enc (r : RuleN) : List Value := [.int .u8 r.when.kind, .int .u8 r.when.oper, .int .u8 r.when.typ, .int .i64 r.when.n, .int .u8 r.when.field, .string r.when.name, .slice r.when.a r.when.kids.length r.when.c, .int .i64 r.when.pos, .slice r.a r.dos.length r.c, .int .i64 r.pos]
abbrev StateN.enc (s : StateN) : List Value := [.string s.name, .slice s.a s.rules.length s.c, .int .i64 s.pos]
abbrev RegN.v (r : RegN) : Value := .agg #[.string r.name, .int .u8 r.typ, .int .u8 r.init.kind, .int .u8 r.init.oper, .int .u8 r.init.typ, .int .i64 r.init.n, .int .u8 r.init.field, .string r.init.name, .slice r.init.a r.init.kids.length r.init.c, .int .i64 r.init.pos, .int .i64 r.pos]
abbrev SlotP.v (r : SlotP) : Value := .agg #[.string r.name, .int .i64 r.pos]
abbrev DoN.v (d : DoN) : Value := .agg #[.int .u8 d.kind, .int .u8 d.order, .string d.name, .int .u8 d.side.kind, .int .u8 d.side.oper, .int .u8 d.side.typ, .int .i64 d.side.n, .int .u8 d.side.field, .string d.side.name, .slice d.side.a d.side.kids.length d.side.c, .int .i64 d.side.pos, .int .u8 d.qty.kind, .int .u8 d.qty.oper, .int .u8 d.qty.typ, .int .i64 d.qty.n, .int .u8 d.qty.field, .string d.qty.name, .slice d.qty.a d.qty.kids.length d.qty.c, .int .i64 d.qty.pos, .int .u8 d.price.kind, .int .u8 d.price.oper, .int .u8 d.price.typ, .int .i64 d.price.n, .int .u8 d.price.field, .string d.price.name, .slice d.price.a d.price.kids.length d.price.c, .int .i64 d.price.pos, .int .u8 d.value.kind, .int .u8 d.value.oper, .int .u8 d.value.typ, .int .i64 d.value.n, .int .u8 d.value.field, .string d.value.name, .slice d.value.a d.value.kids.length d.value.c, .int .i64 d.value.pos, .int .i64 d.pos]
abbrev RuleN.v (r : RuleN) : Value := .agg #[.int .u8 r.when.kind, .int .u8 r.when.oper, .int .u8 r.when.typ, .int .i64 r.when.n, .int .u8 r.when.field, .string r.when.name, .slice r.when.a r.when.kids.length r.when.c, .int .i64 r.when.pos, .slice r.a r.dos.length r.c, .int .i64 r.pos]
abbrev StateN.v (s : StateN) : Value := .agg #[.string s.name, .slice s.a s.rules.length s.c, .int .i64 s.pos]
abbrev StgN.enc (s : StgN) : List Value := [.string s.name, .slice s.ra s.regs.length s.rc, .slice s.sa s.slots.length s.sc, .slice s.ta s.states.length s.tc]
abbrev StgN.v (s : StgN) : Value := .agg #[.string s.name, .slice s.ra s.regs.length s.rc, .slice s.sa s.slots.length s.sc, .slice s.ta s.states.length s.tc]
def RegN.Ok (I : Imm) (G : Heap) (r : RegN) : Prop := NdOk I G r.init
def DoN.Ok (I : Imm) (G : Heap) (d : DoN) : Prop := NdOk I G d.side ∧ NdOk I G d.qty ∧ NdOk I G d.price ∧ NdOk I G d.value
def RuleN.Ok (I : Imm) (G : Heap) (r : RuleN) : Prop := NdOk I G r.when ∧ SlG I G 36 DoN.enc r.a r.dos.length r.dos ∧ ∀ d ∈ r.dos, d.Ok I G
def StateN.Ok (I : Imm) (G : Heap) (s : StateN) : Prop := SlG I G 10 RuleN.enc s.a s.rules.length s.rules ∧ ∀ r ∈ s.rules, r.Ok I G
structure StgN.Ok (I : Imm) (G : Heap) (s : StgN) : Prop where
  regs : SlG I G 11 RegN.enc s.ra s.regs.length s.regs
  reg : ∀ r ∈ s.regs, r.Ok I G
  slots : SlG I G 2 SlotP.enc s.sa s.slots.length s.slots
  states : SlG I G 3 StateN.enc s.ta s.states.length s.states
  state : ∀ x ∈ s.states, x.Ok I G
section
variable {I J : Imm} {G H : Heap}
theorem RegN.Ok.mono {r : RegN} (h : r.Ok I G) (hl : Imm.le I J) (hs : ∀ x, x ∈ G → x ∈ H) : r.Ok J H := NdOk.mono h hl hs
theorem DoN.Ok.mono {d : DoN} (h : d.Ok I G) (hl : Imm.le I J) (hs : ∀ x, x ∈ G → x ∈ H) : d.Ok J H := ⟨h.1.mono hl hs, h.2.1.mono hl hs, h.2.2.1.mono hl hs, h.2.2.2.mono hl hs⟩
theorem RuleN.Ok.mono {r : RuleN} (h : r.Ok I G) (hl : Imm.le I J) (hs : ∀ x, x ∈ G → x ∈ H) : r.Ok J H := ⟨h.1.mono hl hs, h.2.1.mono hl hs, fun d hd => (h.2.2 d hd).mono hl hs⟩
theorem StateN.Ok.mono {s : StateN} (h : s.Ok I G) (hl : Imm.le I J) (hs : ∀ x, x ∈ G → x ∈ H) : s.Ok J H := ⟨h.1.mono hl hs, fun r hr => (h.2 r hr).mono hl hs⟩
theorem StgN.Ok.mono {s : StgN} (h : s.Ok I G) (hl : Imm.le I J) (hs : ∀ x, x ∈ G → x ∈ H) : s.Ok J H :=
  ⟨h.regs.mono hl hs, fun r hr => (h.reg r hr).mono hl hs, h.slots.mono hl hs, h.states.mono hl hs, fun r hr => (h.state r hr).mono hl hs⟩
theorem StgN.Ok.cons {s : StgN} (h : s.Ok I G) {x : Nat × Obj} : s.Ok I (x :: G) := h.mono (Imm.le_refl I) fun _ h => List.mem_cons_of_mem _ h
theorem RuleN.Ok.cons {s : RuleN} (h : s.Ok I G) {x : Nat × Obj} : s.Ok I (x :: G) := h.mono (Imm.le_refl I) fun _ h => List.mem_cons_of_mem _ h
theorem StateN.Ok.cons {s : StateN} (h : s.Ok I G) {x : Nat × Obj} : s.Ok I (x :: G) := h.mono (Imm.le_refl I) fun _ h => List.mem_cons_of_mem _ h
theorem DoN.Ok.cons {s : DoN} (h : s.Ok I G) {x : Nat × Obj} : s.Ok I (x :: G) := h.mono (Imm.le_refl I) fun _ h => List.mem_cons_of_mem _ h
end
def DoP.nds (d : DoP) : List Px := [d.side, d.qty, d.price, d.value]
def RuleP.nds (r : RuleP) : List Px := r.when :: r.dos.flatMap DoP.nds
def StgP.nds (s : StgP) : List Px := s.regs.map RegP.init ++ s.states.flatMap fun x => x.rules.flatMap RuleP.nds
def errB (b : Bool) (n : Int) : Int := if b then 0 else n
def thenE (a b : Int) : Int := if a = 0 then b else a
def Px.noneB (x : Px) : Bool := x.kind == 0 && (x.oper == 0 && (x.typ == 0 && (x.n == 0 && (x.field == 0 && (x.name.toList == []))))) && decide (x.kids.length = 0)
def partE (is : Bool) (x : Px) : Int := if is then x.checkE else errB x.noneB 120
def Px.beginB (x : Px) : Bool := if x.kind = 5 ∧ x.oper = 1 then (match x.kids with | k :: _ => decide (k.kind = 1 ∧ k.typ ≤ 4) | [] => false) else decide (x.kind = 1)
def RegP.check (r : RegP) : Int := errB (nameB r.name && (decide (1 ≤ r.typ ∧ r.typ ≤ 6) && (r.init.formed && r.init.beginB))) 120
def DoP.kindB (d : DoP) : Bool := decide (1 ≤ d.kind ∧ d.kind ≤ 6)
def DoP.orderB (d : DoP) : Bool := decide (d.kind = 1 ∧ 1 ≤ d.order ∧ d.order ≤ 5 ∨ d.kind ≠ 1 ∧ d.order = 0)
def DoP.nameB (d : DoP) : Bool := if d.kind = 6 then d.name.toList == [] else if d.kind ≠ 1 ∨ d.name.toList ≠ [] then Lx.nameB d.name else true
def DoP.check (d : DoP) : Int := thenE (errB d.kindB 120) (thenE (errB d.orderB 120) (thenE (errB d.nameB 120) (thenE (partE (decide (d.kind = 1)) d.side) (thenE (partE (decide (d.kind = 1 ∨ d.kind = 2)) d.qty)
  (thenE (partE (decide (d.kind = 1 ∧ d.order ≠ 2 ∨ d.kind = 2)) d.price) (partE (decide (d.kind = 4)) d.value))))))
def firstE {α : Type} (f : α → Int) : List α → Int
  | [] => 0
  | x :: r => thenE (f x) (firstE f r)
def RuleP.check (r : RuleP) : Int := thenE r.when.checkE (thenE (errB (decide (0 < r.dos.length)) 120) (thenE (errB (decide (r.dos.length ≤ 8)) 121) (firstE DoP.check r.dos)))
def StateP.check (s : StateP) : Int := thenE (errB (nameB s.name) 120) (thenE (errB (decide (s.rules.length ≤ 12)) 121) (firstE RuleP.check s.rules))
def SlotP.check (s : SlotP) : Int := errB (nameB s.name) 120
def StgP.check (s : StgP) : Int := thenE (errB (nameB s.name) 120) (thenE (errB (decide (s.regs.length ≤ 12)) 121) (thenE (firstE RegP.check s.regs) (thenE (errB (decide (s.slots.length ≤ 4)) 121) (thenE (firstE SlotP.check s.slots)
  (thenE (errB (decide (0 < s.states.length)) 120) (thenE (errB (decide (s.states.length ≤ 12)) 121) (firstE StateP.check s.states)))))))
theorem firstE_take {α : Type} (f : α → Int) {l : List α} {i : Nat} {x : α} (h : l[i]? = some x) : firstE f (l.drop i) = thenE (f x) (firstE f (l.drop (i + 1))) := by
  obtain ⟨hk, rfl⟩ := List.getElem?_eq_some_iff.1 h
  rw [List.drop_eq_getElem_cons hk, firstE]
theorem thenE_zero (b : Int) : thenE 0 b = b := rfl
theorem thenE_ne {a : Int} (h : a ≠ 0) (b : Int) : thenE a b = a := if_neg h
theorem thenE_assoc (a b c : Int) : thenE (thenE a b) c = thenE a (thenE b c) := by unfold thenE; split <;> simp [*]
end Go.Lx
namespace Go.Lx
open Go.Vc
def shT_t4 : List (Nat × List Sh) := [(0, []), (3, [.one (.int .i64)]), (4, [.one .bool]), (9, [.one .str]), (22, [.one .slc]), (23, [.one .slc]), (24, [.one .slc]), (26, [.agg [.str, .slc, .slc, .slc]]), (30, [.one (.int .i64)]), (55, [.agg [(.int .u8), (.int .u8), (.int .u8), (.int .i64), (.int .u8), .str, .slc, (.int .i64)]]), (63, [.one (.int .u16), .one .slc]), (67, [.agg [(.int .u8), (.int .u8), (.int .u8), (.int .i64), (.int .u8), .str, .slc, (.int .i64), .slc, (.int .i64)]]), (68, [.one .slc]), (70, [.agg [.str, .slc, (.int .i64)]]), (75, [.agg [.str, (.int .u8), (.int .u8), (.int .u8), (.int .u8), (.int .i64), (.int .u8), .str, .slc, (.int .i64), (.int .i64)]]), (77, [.agg [.str, (.int .i64)]]), (89, [.agg [(.int .u8), (.int .u8), .str, (.int .u8), (.int .u8), (.int .u8), (.int .i64), (.int .u8), .str, .slc, (.int .i64), (.int .u8), (.int .u8), (.int .u8), (.int .i64), (.int .u8), .str, .slc, (.int .i64), (.int .u8), (.int .u8), (.int .u8), (.int .i64), (.int .u8), .str, .slc, (.int .i64), (.int .u8), (.int .u8), (.int .u8), (.int .i64), (.int .u8), .str, .slc, (.int .i64), (.int .i64)]]), (129, [.agg [(.int .u8), (.int .u8), (.int .u8), (.int .i64), (.int .u8), .str]])]
def tree_Check.V (vl : OA → Nat → Nat → Value) (v : Bs) (k : OA) (l m : Nat) (n : OA) (o p : Nat) (q : OA) (s t : Nat) (I : Imm) (F : Heap) (Q : PostQ)  : Prop := ∀ j : Nat, Tri P 29 (#[.func (.func 30) #[] #[.pointer (some ⟨j, 0, none⟩)]]) I ((j, Obj.cells #[.string v, vl k l m, vl n o p, vl q s t] 26 (0, 0)) :: F) fun e1 I1 G1 => ∃ (r : Int), e1 = .returned (.int .i64 r) ∧ ∃ (u : Bs) (a : OA) (b c : Nat) (d : OA) (e f : Nat) (g : OA) (h i : Nat), ∃ F1 : Heap, List.Perm G1 ((j, Obj.cells #[.string u, vl a b c, vl d e f, vl g h i] 26 (0, 0)) :: F1) ∧ Q (.returned (.int .i64 r)) I1 (F1)
theorem tree_Check.vc {s_0 : Bs} {s_1_a : OA} {s_1_n s_1_c : Nat} {s_2_a : OA} {s_2_n s_2_c : Nat} {s_3_a : OA} {s_3_n s_3_c : Nat} {I : Imm} {F : Heap} {Q : PostQ}  (h : tree_Check.V .slice s_0 s_1_a s_1_n s_1_c s_2_a s_2_n s_2_c s_3_a s_3_n s_3_c I F Q) : Tri P 7 #[.agg #[.string s_0, .slice s_1_a s_1_n s_1_c, .slice s_2_a s_2_n s_2_c, .slice s_3_a s_3_n s_3_c]] I (F) Q :=
  tv (A := (annL [] [] [29] shT_t4 [] [] [] [] [] [] [])) (args := [.a (.v (.agg #[.string s_0, .slice s_1_a s_1_n s_1_c, .slice s_2_a s_2_n s_2_c, .slice s_3_a s_3_n s_3_c]))]) (own := []) (keep := []) [29] Go.Proofs.Tryz.func7 h
def tree_Check_1.V (nV : Int → Int → Int → Int → Int → Bs → OA → Nat → Nat → Int → Value) (vb vi : Int → Value) (vs : Bs → Value) (vl : OA → Nat → Nat → Value) (vt : Bool → Value) (wr : Int → Int) (c : Addr) (I : Imm) (F : Heap) (Q : PostQ) (Inv8 : Int → Nat → Imm → Heap → Imm → Heap → Prop) (Inv31 : Int → Nat → Imm → Heap → Imm → Heap → Prop) (Inv51 : Int → Nat → Imm → Heap → Imm → Heap → Prop) (Inv69 : Int → Int → Nat → Imm → Heap → Imm → Heap → Prop) : Prop := ∃ (m : Bs), Rd I (F) (c.add 0) [vs m] ∧ Tri P 31 (#[vs m]) I (F) fun e1 I1 G1 => ((e1 = .returned (.tuple #[]) ∧ ∃ F1 : Heap, List.Perm G1 (F1) ∧ ∃ (a9 : OA) (aF ba : Nat), Rd I1 (F1) (c.add 1) [vl a9 aF ba] ∧ Tri P 32 (#[vt (decide (((aF : Nat) : Int) ≤ 12)), vi 121]) I1 (F1) fun e2 I2 G2 => ((e2 = .returned (.tuple #[]) ∧ ∃ F2 : Heap, List.Perm G2 (F2) ∧ ∃ (au : OA) (an a0 : Nat), Rd I2 (F2) (c.add 1) [vl au an a0] ∧ (∃ m1 : Nat, Inv8 0 m1 I2 F2 I2 F2) ∧ ∀ (x : Int) (m2 : Nat) (I3 : Imm) (F3 : Heap), Imm.le I2 I3 → Inv8 x m2 I2 F2 I3 F3 → ((decide (x < ((an : Nat) : Int)) = true → ((0 ≤ x ∧ x < (an : Int)) ∧ ∃ ad : Addr, au = some ad ∧ ∃ (r : Bs) (h j k l n o : Int) (p : Bs) (a : OA) (b d : Nat) (q f : Int), Rd I3 (F3) (ad.add (Int.toNat (x) * 11)) [vs r, vb h, vb j, vb k, vb l, vi n, vb o, vs p, vl a b d, vi q, vi f] ∧ ∀ u : Nat, Tri P 31 (#[vs r]) I3 ((u, Obj.cells #[vs r, vb h, vb j, vb k, vb l, vi n, vb o, vs p, vl a b d, vi q, vi f] 75 (0, 0)) :: F3) fun e3 I4 G3 => ((e3 = .returned (.tuple #[]) ∧ ∃ F4 : Heap, List.Perm G3 ((u, Obj.cells #[vs r, vb h, vb j, vb k, vb l, vi n, vb o, vs p, vl a b d, vi q, vi f] 75 (0, 0)) :: F4) ∧ ((decide (1 ≤ h) = true → Tri P 32 (#[vt (decide (h ≤ 6)), vi 120]) I4 ((u, Obj.cells #[vs r, vb h, vb j, vb k, vb l, vi n, vb o, vs p, vl a b d, vi q, vi f] 75 (0, 0)) :: F4) fun e4 I5 G4 => ((e4 = .returned (.tuple #[]) ∧ ∃ F5 : Heap, List.Perm G4 ((u, Obj.cells #[vs r, vb h, vb j, vb k, vb l, vi n, vb o, vs p, vl a b d, vi q, vi f] 75 (0, 0)) :: F5) ∧ Tri P 33 (#[nV j k l n o p a b d q]) I5 ((u, Obj.cells #[vs r, vb h, vb j, vb k, vb l, vi n, vb o, vs p, vl a b d, vi q, vi f] 75 (0, 0)) :: F5) fun e5 I6 G5 => ((e5 = .returned (.tuple #[]) ∧ ∃ F6 : Heap, List.Perm G5 ((u, Obj.cells #[vs r, vb h, vb j, vb k, vb l, vi n, vb o, vs p, vl a b d, vi q, vi f] 75 (0, 0)) :: F6) ∧ (∃ m3 : Nat, m3 < m2 ∧ Inv8 (wr (x + 1)) m3 I2 F2 I6 F6)) ∨ (∃ ch : List PanicEntry, e5 = .panicked ch ∧ ∃ F7 : Heap, List.Perm G5 ((u, Obj.cells #[vs r, vb h, vb j, vb k, vb l, vi n, vb o, vs p, vl a b d, vi q, vi f] 75 (0, 0)) :: F7) ∧ Q (.panicked ch) I6 (F7)))) ∨ (∃ aH : List PanicEntry, e4 = .panicked aH ∧ ∃ F8 : Heap, List.Perm G4 ((u, Obj.cells #[vs r, vb h, vb j, vb k, vb l, vi n, vb o, vs p, vl a b d, vi q, vi f] 75 (0, 0)) :: F8) ∧ Q (.panicked aH) I5 (F8)))) ∧ (decide (1 ≤ h) = false → Tri P 32 (#[vt false, vi 120]) I4 ((u, Obj.cells #[vs r, vb h, vb j, vb k, vb l, vi n, vb o, vs p, vl a b d, vi q, vi f] 75 (0, 0)) :: F4) fun e6 I7 G6 => ((e6 = .returned (.tuple #[]) ∧ ∃ F9 : Heap, List.Perm G6 ((u, Obj.cells #[vs r, vb h, vb j, vb k, vb l, vi n, vb o, vs p, vl a b d, vi q, vi f] 75 (0, 0)) :: F9) ∧ Tri P 33 (#[nV j k l n o p a b d q]) I7 ((u, Obj.cells #[vs r, vb h, vb j, vb k, vb l, vi n, vb o, vs p, vl a b d, vi q, vi f] 75 (0, 0)) :: F9) fun e7 I8 G7 => ((e7 = .returned (.tuple #[]) ∧ ∃ F10 : Heap, List.Perm G7 ((u, Obj.cells #[vs r, vb h, vb j, vb k, vb l, vi n, vb o, vs p, vl a b d, vi q, vi f] 75 (0, 0)) :: F10) ∧ (∃ m4 : Nat, m4 < m2 ∧ Inv8 (wr (x + 1)) m4 I2 F2 I8 F10)) ∨ (∃ aI : List PanicEntry, e7 = .panicked aI ∧ ∃ F11 : Heap, List.Perm G7 ((u, Obj.cells #[vs r, vb h, vb j, vb k, vb l, vi n, vb o, vs p, vl a b d, vi q, vi f] 75 (0, 0)) :: F11) ∧ Q (.panicked aI) I8 (F11)))) ∨ (∃ aJ : List PanicEntry, e6 = .panicked aJ ∧ ∃ F12 : Heap, List.Perm G6 ((u, Obj.cells #[vs r, vb h, vb j, vb k, vb l, vi n, vb o, vs p, vl a b d, vi q, vi f] 75 (0, 0)) :: F12) ∧ Q (.panicked aJ) I7 (F12)))))) ∨ (∃ aK : List PanicEntry, e3 = .panicked aK ∧ ∃ F13 : Heap, List.Perm G3 ((u, Obj.cells #[vs r, vb h, vb j, vb k, vb l, vi n, vb o, vs p, vl a b d, vi q, vi f] 75 (0, 0)) :: F13) ∧ Q (.panicked aK) I4 (F13))))) ∧ (decide (x < ((an : Nat) : Int)) = false → ∃ (a1 : OA) (av a2 : Nat), Rd I3 (F3) (c.add 2) [vl a1 av a2] ∧ Tri P 32 (#[vt (decide (((av : Nat) : Int) ≤ 4)), vi 121]) I3 (F3) fun e8 I9 G8 => ((e8 = .returned (.tuple #[]) ∧ ∃ F14 : Heap, List.Perm G8 (F14) ∧ ∃ (aw : OA) (ao a3 : Nat), Rd I9 (F14) (c.add 2) [vl aw ao a3] ∧ (∃ m5 : Nat, Inv31 0 m5 I9 F14 I9 F14) ∧ ∀ (x1 : Int) (m6 : Nat) (I10 : Imm) (F15 : Heap), Imm.le I9 I10 → Inv31 x1 m6 I9 F14 I10 F15 → ((decide (x1 < ((ao : Nat) : Int)) = true → ((0 ≤ x1 ∧ x1 < (ao : Int)) ∧ ∃ aL : Addr, aw = some aL ∧ ∃ (ae : Bs) (ap : Int), Rd I10 (F15) (aL.add (Int.toNat (x1) * 2)) [vs ae, vi ap] ∧ ∀ aA : Nat, Tri P 31 (#[vs ae]) I10 ((aA, Obj.cells #[vs ae, vi ap] 77 (0, 0)) :: F15) fun e9 I11 G9 => ((e9 = .returned (.tuple #[]) ∧ ∃ F16 : Heap, List.Perm G9 ((aA, Obj.cells #[vs ae, vi ap] 77 (0, 0)) :: F16) ∧ (∃ m7 : Nat, m7 < m6 ∧ Inv31 (wr (x1 + 1)) m7 I9 F14 I11 F16)) ∨ (∃ aM : List PanicEntry, e9 = .panicked aM ∧ ∃ F17 : Heap, List.Perm G9 ((aA, Obj.cells #[vs ae, vi ap] 77 (0, 0)) :: F17) ∧ Q (.panicked aM) I11 (F17))))) ∧ (decide (x1 < ((ao : Nat) : Int)) = false → ∃ (a4 : OA) (ax a5 : Nat), Rd I10 (F15) (c.add 3) [vl a4 ax a5] ∧ Tri P 32 (#[vt (decide (((ax : Nat) : Int) > 0)), vi 120]) I10 (F15) fun aV I12 G10 => ((aV = .returned (.tuple #[]) ∧ ∃ F18 : Heap, List.Perm G10 (F18) ∧ ∃ (a6 : OA) (ay a7 : Nat), Rd I12 (F18) (c.add 3) [vl a6 ay a7] ∧ Tri P 32 (#[vt (decide (((ay : Nat) : Int) ≤ 12)), vi 121]) I12 (F18) fun aW I13 G11 => ((aW = .returned (.tuple #[]) ∧ ∃ F19 : Heap, List.Perm G11 (F19) ∧ ∃ (az : OA) (aq a8 : Nat), Rd I13 (F19) (c.add 3) [vl az aq a8] ∧ (∃ m8 : Nat, Inv51 0 m8 I13 F19 I13 F19) ∧ ∀ (x2 : Int) (m9 : Nat) (I14 : Imm) (F20 : Heap), Imm.le I13 I14 → Inv51 x2 m9 I13 F19 I14 F20 → ((decide (x2 < ((aq : Nat) : Int)) = true → ((0 ≤ x2 ∧ x2 < (aq : Int)) ∧ ∃ aN : Addr, az = some aN ∧ ∃ (s : Bs) (g : OA) (e i : Nat) (t : Int), Rd I14 (F20) (aN.add (Int.toNat (x2) * 3)) [vs s, vl g e i, vi t] ∧ ∀ v : Nat, Tri P 31 (#[vs s]) I14 ((v, Obj.cells #[vs s, vl g e i, vi t] 70 (0, 0)) :: F20) fun aX I15 G12 => ((aX = .returned (.tuple #[]) ∧ ∃ F21 : Heap, List.Perm G12 ((v, Obj.cells #[vs s, vl g e i, vi t] 70 (0, 0)) :: F21) ∧ Tri P 32 (#[vt (decide (((e : Nat) : Int) ≤ 12)), vi 121]) I15 ((v, Obj.cells #[vs s, vl g e i, vi t] 70 (0, 0)) :: F21) fun aY I16 G13 => ((aY = .returned (.tuple #[]) ∧ ∃ F22 : Heap, List.Perm G13 ((v, Obj.cells #[vs s, vl g e i, vi t] 70 (0, 0)) :: F22) ∧ (∃ bb : Nat, Inv69 x2 0 bb I16 F22 I16 F22) ∧ ∀ (x3 : Int) (aG : Nat) (I17 : Imm) (F23 : Heap), Imm.le I16 I17 → Inv69 x2 x3 aG I16 F22 I17 F23 → ((decide (x3 < ((e : Nat) : Int)) = true → ((0 ≤ x3 ∧ x3 < (e : Int)) ∧ ∃ aO : Addr, g = some aO ∧ ∃ (af ag ah ai aj : Int) (ak : Bs) (aa : OA) (ab ac : Nat) (al : Int) (w : OA) (y z : Nat) (am : Int), Rd I17 ((v, Obj.cells #[vs s, vl g e i, vi t] 70 (0, 0)) :: F23) (aO.add (Int.toNat (x3) * 10)) [vb af, vb ag, vb ah, vi ai, vb aj, vs ak, vl aa ab ac, vi al, vl w y z, vi am] ∧ ∀ ar : Nat, Tri P 34 (#[.agg #[vb af, vb ag, vb ah, vi ai, vb aj, vs ak, vl aa ab ac, vi al, vl w y z, vi am]]) I17 ((v, Obj.cells #[vs s, vl g e i, vi t] 70 (0, 0)) :: (ar, Obj.cells #[vb af, vb ag, vb ah, vi ai, vb aj, vs ak, vl aa ab ac, vi al, vl w y z, vi am] 67 (0, 0)) :: F23) fun aZ I18 G14 => ((aZ = .returned (.tuple #[]) ∧ ∃ F24 : Heap, List.Perm G14 ((v, Obj.cells #[vs s, vl g e i, vi t] 70 (0, 0)) :: (ar, Obj.cells #[vb af, vb ag, vb ah, vi ai, vb aj, vs ak, vl aa ab ac, vi al, vl w y z, vi am] 67 (0, 0)) :: F24) ∧ (∃ aP : Nat, aP < aG ∧ Inv69 x2 (wr (x3 + 1)) aP I16 F22 I18 F24)) ∨ (∃ aQ : List PanicEntry, aZ = .panicked aQ ∧ ∃ F25 : Heap, List.Perm G14 ((v, Obj.cells #[vs s, vl g e i, vi t] 70 (0, 0)) :: (ar, Obj.cells #[vb af, vb ag, vb ah, vi ai, vb aj, vs ak, vl aa ab ac, vi al, vl w y z, vi am] 67 (0, 0)) :: F25) ∧ Q (.panicked aQ) I18 (F25))))) ∧ (decide (x3 < ((e : Nat) : Int)) = false → (∃ aR : Nat, aR < m9 ∧ Inv51 (wr (x2 + 1)) aR I13 F19 I17 F23)))) ∨ (∃ aS : List PanicEntry, aY = .panicked aS ∧ ∃ F26 : Heap, List.Perm G13 ((v, Obj.cells #[vs s, vl g e i, vi t] 70 (0, 0)) :: F26) ∧ Q (.panicked aS) I16 (F26)))) ∨ (∃ aT : List PanicEntry, aX = .panicked aT ∧ ∃ F27 : Heap, List.Perm G12 ((v, Obj.cells #[vs s, vl g e i, vi t] 70 (0, 0)) :: F27) ∧ Q (.panicked aT) I15 (F27))))) ∧ (decide (x2 < ((aq : Nat) : Int)) = false → Q (.returned (.tuple #[])) I14 (F20)))) ∨ (∃ aU : List PanicEntry, aW = .panicked aU ∧ ∃ F28 : Heap, List.Perm G11 (F28) ∧ Q (.panicked aU) I13 (F28)))) ∨ (∃ aB : List PanicEntry, aV = .panicked aB ∧ ∃ F29 : Heap, List.Perm G10 (F29) ∧ Q (.panicked aB) I12 (F29)))))) ∨ (∃ aC : List PanicEntry, e8 = .panicked aC ∧ ∃ F30 : Heap, List.Perm G8 (F30) ∧ Q (.panicked aC) I9 (F30)))))) ∨ (∃ aD : List PanicEntry, e2 = .panicked aD ∧ ∃ F31 : Heap, List.Perm G2 (F31) ∧ Q (.panicked aD) I2 (F31)))) ∨ (∃ aE : List PanicEntry, e1 = .panicked aE ∧ ∃ F32 : Heap, List.Perm G1 (F32) ∧ Q (.panicked aE) I1 (F32)))
theorem tree_Check_1.vc {c : Addr} {I : Imm} {F : Heap} {Q : PostQ} (Inv8 : Int → Nat → Imm → Heap → Imm → Heap → Prop) (Inv31 : Int → Nat → Imm → Heap → Imm → Heap → Prop) (Inv51 : Int → Nat → Imm → Heap → Imm → Heap → Prop) (Inv69 : Int → Int → Nat → Imm → Heap → Imm → Heap → Prop) (h : tree_Check_1.V (fun k o t n f s a l c q => .agg #[.int .u8 k, .int .u8 o, .int .u8 t, .int .i64 n, .int .u8 f, .string s, .slice a l c, .int .i64 q]) (.int .u8) (.int .i64) .string .slice .bool (IntKind.wrap .i64) c I F Q Inv8 Inv31 Inv51 Inv69) : Tri P 30 #[.pointer (some c)] I (F) Q :=
  tv (A := (annL [3000, 6002, 11000, 18000, 23000] [31, 32, 33, 34] [31, 32, 33, 34] shT_t4 [(8, ⟨[(20, (.int .i64))], [], fun fs I0 F0 vs m I F => match fs, vs with | [], [.int _ y0] => Inv8 y0 m I0 F0 I F | _, _ => False, [], []⟩), (31, ⟨[(48, (.int .i64))], [], fun fs I0 F0 vs m I F => match fs, vs with | [], [.int _ y0] => Inv31 y0 m I0 F0 I F | _, _ => False, [], []⟩), (51, ⟨[(69, (.int .i64))], [], fun fs I0 F0 vs m I F => match fs, vs with | [], [.int _ y0] => Inv51 y0 m I0 F0 I F | _, _ => False, [], []⟩), (69, ⟨[(84, (.int .i64))], [], fun fs I0 F0 vs m I F => match fs, vs with | [.int _ y0], [.int _ y1] => Inv69 y0 y1 m I0 F0 I F | _, _ => False, [69], []⟩)] [] [] [] [] [] [])) (args := [.a (.v (.pointer (some c)))]) (own := []) (keep := []) [31, 32, 33, 34] Go.Proofs.Tryz.func30 h
def tree_named.V (s : Bs) (I : Imm) (F : Heap) (Q : PostQ)  : Prop := Tri P 90 (#[.string s]) I (F) fun e1 I1 G1 => ∃ (r : Bool), e1 = .returned (.bool r) ∧ ∃ F1 : Heap, List.Perm G1 (F1) ∧ Tri P 32 (#[.bool r, .int .i64 120]) I1 (F1) fun e2 I2 G2 => ((e2 = .returned (.tuple #[]) ∧ ∃ F2 : Heap, List.Perm G2 (F2) ∧ Q (.returned (.tuple #[])) I2 (F2)) ∨ (∃ ch : List PanicEntry, e2 = .panicked ch ∧ ∃ F3 : Heap, List.Perm G2 (F3) ∧ Q (.panicked ch) I2 (F3)))
theorem tree_named.vc {s : Bs} {I : Imm} {F : Heap} {Q : PostQ}  (h : tree_named.V s I F Q) : Tri P 31 #[.string s] I (F) Q :=
  tv (A := (annL [] [32] [32, 90] shT_t4 [] [] [] [] [] [] [])) (args := [.a (.v (.string s))]) (own := []) (keep := []) [32, 90] Go.Proofs.Tryz.func31 h
def tree_unnamed.V (a : Nat → Nat × Obj) (vb vi : Int → Value) (vs : Bs → Value) (m n o p r : Int) (s : Bs) (d : OA) (c e : Nat) (t : Int) (I : Imm) (F : Heap) (Q : PostQ)  : Prop := ∀ b : Nat, Tri P 85 (#[.agg #[vb m, vb n, vb o, vi p, vb r, vs s, .slice d c e, vi t]]) I ((a b) :: F) fun e1 I1 G1 => ∃ (f g h i j : Int) (k : Bs), e1 = .returned (.agg #[vb f, vb g, vb h, vi i, vb j, vs k]) ∧ ∃ F1 : Heap, List.Perm G1 ((a b) :: F1) ∧ ∃ q : Bool, BinRun P .eql 129 (.tmp 3) (.tmp 4) (.agg #[vb f, vb g, vb h, vi i, vb j, vs k]) (.agg #[vb 0, vb 0, vb 0, vi 0, vb 0, vs (⟨#[]⟩ : Bs)]) q ∧ ((q = true → Tri P 32 (#[.bool (((c : Nat) : Int) == 0), vi 120]) I1 ((a b) :: F1) fun e2 I2 G2 => ((e2 = .returned (.tuple #[]) ∧ ∃ F2 : Heap, List.Perm G2 ((a b) :: F2) ∧ Q (.returned (.tuple #[])) I2 (F2)) ∨ (∃ ch : List PanicEntry, e2 = .panicked ch ∧ ∃ F3 : Heap, List.Perm G2 ((a b) :: F3) ∧ Q (.panicked ch) I2 (F3)))) ∧ (q = false → Tri P 32 (#[.bool false, vi 120]) I1 ((a b) :: F1) fun e3 I3 G3 => ((e3 = .returned (.tuple #[]) ∧ ∃ F4 : Heap, List.Perm G3 ((a b) :: F4) ∧ Q (.returned (.tuple #[])) I3 (F4)) ∨ (∃ l : List PanicEntry, e3 = .panicked l ∧ ∃ F5 : Heap, List.Perm G3 ((a b) :: F5) ∧ Q (.panicked l) I3 (F5)))))
theorem tree_unnamed.vc {n_0 n_1 n_2 n_3 n_4 : Int} {n_5 : Bs} {n_6_a : OA} {n_6_n n_6_c : Nat} {n_7 : Int} {I : Imm} {F : Heap} {Q : PostQ}  (h : tree_unnamed.V (fun b => (b, Obj.cells #[.int .u8 n_0, .int .u8 n_1, .int .u8 n_2, .int .i64 n_3, .int .u8 n_4, .string n_5, .slice n_6_a n_6_n n_6_c, .int .i64 n_7] 55 (0, 0))) (.int .u8) (.int .i64) .string n_0 n_1 n_2 n_3 n_4 n_5 n_6_a n_6_n n_6_c n_7 I F Q) : Tri P 117 #[.agg #[.int .u8 n_0, .int .u8 n_1, .int .u8 n_2, .int .i64 n_3, .int .u8 n_4, .string n_5, .slice n_6_a n_6_n n_6_c, .int .i64 n_7]] I (F) Q :=
  tv (A := (annL [1003] [32] [32, 85] shT_t4 [] [] [] [] [] [] [])) (args := [.a (.v (.agg #[.int .u8 n_0, .int .u8 n_1, .int .u8 n_2, .int .i64 n_3, .int .u8 n_4, .string n_5, .slice n_6_a n_6_n n_6_c, .int .i64 n_7]))]) (own := []) (keep := []) [32, 85] Go.Proofs.Tryz.func117 h
def tree_part.V (a : Nat → Nat × Obj) (nV : Int → Int → Int → Int → Int → Bs → OA → Nat → Nat → Int → Value) (is : Bool) (f g h i j : Int) (k : Bs) (c : OA) (d e : Nat) (l : Int) (I : Imm) (F : Heap) (Q : PostQ)  : Prop := ∀ b : Nat, ((is = true → Tri P 83 (#[nV f g h i j k c d e l]) I ((a b) :: F) fun e1 I1 G1 => ((e1 = .returned (.tuple #[]) ∧ ∃ F1 : Heap, List.Perm G1 ((a b) :: F1) ∧ Q (.returned (.tuple #[])) I1 (F1)) ∨ (∃ ch : List PanicEntry, e1 = .panicked ch ∧ ∃ F2 : Heap, List.Perm G1 ((a b) :: F2) ∧ Q (.panicked ch) I1 (F2)))) ∧ (is = false → Tri P 117 (#[nV f g h i j k c d e l]) I ((a b) :: F) fun e2 I2 G2 => ((e2 = .returned (.tuple #[]) ∧ ∃ F3 : Heap, List.Perm G2 ((a b) :: F3) ∧ Q (.returned (.tuple #[])) I2 (F3)) ∨ (∃ m : List PanicEntry, e2 = .panicked m ∧ ∃ F4 : Heap, List.Perm G2 ((a b) :: F4) ∧ Q (.panicked m) I2 (F4)))))
theorem tree_part.vc {is : Bool} {n_0 n_1 n_2 n_3 n_4 : Int} {n_5 : Bs} {n_6_a : OA} {n_6_n n_6_c : Nat} {n_7 : Int} {I : Imm} {F : Heap} {Q : PostQ}  (h : tree_part.V (fun b => (b, Obj.cells #[.int .u8 n_0, .int .u8 n_1, .int .u8 n_2, .int .i64 n_3, .int .u8 n_4, .string n_5, .slice n_6_a n_6_n n_6_c, .int .i64 n_7] 55 (0, 0))) (fun k o t n f s a l c q => .agg #[.int .u8 k, .int .u8 o, .int .u8 t, .int .i64 n, .int .u8 f, .string s, .slice a l c, .int .i64 q]) is n_0 n_1 n_2 n_3 n_4 n_5 n_6_a n_6_n n_6_c n_7 I F Q) : Tri P 108 #[.bool is, .agg #[.int .u8 n_0, .int .u8 n_1, .int .u8 n_2, .int .i64 n_3, .int .u8 n_4, .string n_5, .slice n_6_a n_6_n n_6_c, .int .i64 n_7]] I (F) Q :=
  tv (A := (annL [1000] [83, 117] [83, 117] shT_t4 [] [] [] [] [] [] [])) (args := [.a (.v (.bool is)), .a (.v (.agg #[.int .u8 n_0, .int .u8 n_1, .int .u8 n_2, .int .i64 n_3, .int .u8 n_4, .string n_5, .slice n_6_a n_6_n n_6_c, .int .i64 n_7]))]) (own := []) (keep := []) [83, 117] Go.Proofs.Tryz.func108 h
def tree_do.V (a : Nat → Nat × Obj) (nV : Int → Int → Int → Int → Int → Bs → OA → Nat → Nat → Int → Value) (vi : Int → Value) (vt : Bool → Value) (c d : Int) (h : Bs) (aR aS aT aU aV : Int) (aW : Bs) (al : OA) (am an : Nat) (aJ s t u v w : Int) (x : Bs) (i : OA) (j k : Nat) (y l m n o p : Int) (q : Bs) (e : OA) (f g : Nat) (r aK aL aM aN aO : Int) (aP : Bs) (z : OA) (aa ab : Nat) (aQ aX : Int) (I : Imm) (F : Heap) (Q : PostQ) (Inv4 : Imm → Heap → Prop) (Inv6 : Imm → Heap → Prop) (Inv8 : Imm → Heap → Prop) (Inv19 : Imm → Heap → Prop) (Inv21 : Imm → Heap → Prop) (Inv23 : Imm → Heap → Prop) : Prop := ∀ b : Nat, (((decide (1 ≤ c) = true → Tri P 32 (#[vt (decide (c ≤ 6)), vi 120]) I ((a b) :: F) fun e1 I1 G1 => ((e1 = .returned (.tuple #[]) ∧ ∃ F1 : Heap, List.Perm G1 ((a b) :: F1) ∧ Inv4 I1 F1) ∨ (∃ ch : List PanicEntry, e1 = .panicked ch ∧ ∃ F2 : Heap, List.Perm G1 ((a b) :: F2) ∧ Q (.panicked ch) I1 (F2)))) ∧ (decide (1 ≤ c) = false → Tri P 32 (#[vt false, vi 120]) I ((a b) :: F) fun e2 I2 G2 => ((e2 = .returned (.tuple #[]) ∧ ∃ F3 : Heap, List.Perm G2 ((a b) :: F3) ∧ Inv4 I2 F3) ∨ (∃ ao : List PanicEntry, e2 = .panicked ao ∧ ∃ F4 : Heap, List.Perm G2 ((a b) :: F4) ∧ Q (.panicked ao) I2 (F4)))))) ∧ ∀ (I3 : Imm) (F5 : Heap), Imm.le I I3 → Inv4 I3 F5 → ((((c == 1) = true → ((decide (1 ≤ d) = true → ((decide (d ≤ 5) = true → Tri P 32 (#[vt true, vi 120]) I3 ((a b) :: F5) fun e3 I4 G3 => ((e3 = .returned (.tuple #[]) ∧ ∃ F6 : Heap, List.Perm G3 ((a b) :: F6) ∧ Inv6 I4 F6) ∨ (∃ ap : List PanicEntry, e3 = .panicked ap ∧ ∃ F7 : Heap, List.Perm G3 ((a b) :: F7) ∧ Q (.panicked ap) I4 (F7)))) ∧ (decide (d ≤ 5) = false → (((!(c == 1)) = true → Tri P 32 (#[vt (d == 0), vi 120]) I3 ((a b) :: F5) fun e4 I5 G4 => ((e4 = .returned (.tuple #[]) ∧ ∃ F8 : Heap, List.Perm G4 ((a b) :: F8) ∧ Inv6 I5 F8) ∨ (∃ aq : List PanicEntry, e4 = .panicked aq ∧ ∃ F9 : Heap, List.Perm G4 ((a b) :: F9) ∧ Q (.panicked aq) I5 (F9)))) ∧ ((!(c == 1)) = false → Tri P 32 (#[vt false, vi 120]) I3 ((a b) :: F5) fun e5 I6 G5 => ((e5 = .returned (.tuple #[]) ∧ ∃ F10 : Heap, List.Perm G5 ((a b) :: F10) ∧ Inv6 I6 F10) ∨ (∃ ar : List PanicEntry, e5 = .panicked ar ∧ ∃ F11 : Heap, List.Perm G5 ((a b) :: F11) ∧ Q (.panicked ar) I6 (F11)))))))) ∧ (decide (1 ≤ d) = false → (((!(c == 1)) = true → Tri P 32 (#[vt (d == 0), vi 120]) I3 ((a b) :: F5) fun e6 I7 G6 => ((e6 = .returned (.tuple #[]) ∧ ∃ F12 : Heap, List.Perm G6 ((a b) :: F12) ∧ Inv6 I7 F12) ∨ (∃ au : List PanicEntry, e6 = .panicked au ∧ ∃ F13 : Heap, List.Perm G6 ((a b) :: F13) ∧ Q (.panicked au) I7 (F13)))) ∧ ((!(c == 1)) = false → Tri P 32 (#[vt false, vi 120]) I3 ((a b) :: F5) fun e7 I8 G7 => ((e7 = .returned (.tuple #[]) ∧ ∃ F14 : Heap, List.Perm G7 ((a b) :: F14) ∧ Inv6 I8 F14) ∨ (∃ av : List PanicEntry, e7 = .panicked av ∧ ∃ F15 : Heap, List.Perm G7 ((a b) :: F15) ∧ Q (.panicked av) I8 (F15)))))))) ∧ ((c == 1) = false → (((!(c == 1)) = true → Tri P 32 (#[vt (d == 0), vi 120]) I3 ((a b) :: F5) fun e8 I9 G8 => ((e8 = .returned (.tuple #[]) ∧ ∃ F16 : Heap, List.Perm G8 ((a b) :: F16) ∧ Inv6 I9 F16) ∨ (∃ aw : List PanicEntry, e8 = .panicked aw ∧ ∃ F17 : Heap, List.Perm G8 ((a b) :: F17) ∧ Q (.panicked aw) I9 (F17)))) ∧ ((!(c == 1)) = false → Tri P 32 (#[vt false, vi 120]) I3 ((a b) :: F5) fun e9 I10 G9 => ((e9 = .returned (.tuple #[]) ∧ ∃ F18 : Heap, List.Perm G9 ((a b) :: F18) ∧ Inv6 I10 F18) ∨ (∃ ax : List PanicEntry, e9 = .panicked ax ∧ ∃ F19 : Heap, List.Perm G9 ((a b) :: F19) ∧ Q (.panicked ax) I10 (F19)))))))) ∧ ∀ (I11 : Imm) (F20 : Heap), Imm.le I3 I11 → Inv6 I11 F20 → ((((c == 6) = true → Tri P 32 (#[vt (h.toList == (⟨#[]⟩ : Bs).toList), vi 120]) I11 ((a b) :: F20) fun az I12 G10 => ((az = .returned (.tuple #[]) ∧ ∃ F21 : Heap, List.Perm G10 ((a b) :: F21) ∧ Inv8 I12 F21) ∨ (∃ ay : List PanicEntry, az = .panicked ay ∧ ∃ F22 : Heap, List.Perm G10 ((a b) :: F22) ∧ Q (.panicked ay) I12 (F22)))) ∧ ((c == 6) = false → (((!(c == 1)) = true → Tri P 31 (#[.string h]) I11 ((a b) :: F20) fun aA I13 G11 => ((aA = .returned (.tuple #[]) ∧ ∃ F23 : Heap, List.Perm G11 ((a b) :: F23) ∧ Inv8 I13 F23) ∨ (∃ ac : List PanicEntry, aA = .panicked ac ∧ ∃ F24 : Heap, List.Perm G11 ((a b) :: F24) ∧ Q (.panicked ac) I13 (F24)))) ∧ ((!(c == 1)) = false → (((!(h.toList == (⟨#[]⟩ : Bs).toList)) = true → Tri P 31 (#[.string h]) I11 ((a b) :: F20) fun aB I14 G12 => ((aB = .returned (.tuple #[]) ∧ ∃ F25 : Heap, List.Perm G12 ((a b) :: F25) ∧ Inv8 I14 F25) ∨ (∃ ad : List PanicEntry, aB = .panicked ad ∧ ∃ F26 : Heap, List.Perm G12 ((a b) :: F26) ∧ Q (.panicked ad) I14 (F26)))) ∧ ((!(h.toList == (⟨#[]⟩ : Bs).toList)) = false → Inv8 I11 F20))))))) ∧ ∀ (I15 : Imm) (F27 : Heap), Imm.le I11 I15 → Inv8 I15 F27 → (Tri P 108 (#[vt (c == 1), nV aR aS aT aU aV aW al am an aJ]) I15 ((a b) :: F27) fun aC I16 G13 => ((aC = .returned (.tuple #[]) ∧ ∃ F28 : Heap, List.Perm G13 ((a b) :: F28) ∧ Inv19 I16 F28) ∨ (∃ ae : List PanicEntry, aC = .panicked ae ∧ ∃ F29 : Heap, List.Perm G13 ((a b) :: F29) ∧ Q (.panicked ae) I16 (F29)))) ∧ ∀ (I17 : Imm) (F30 : Heap), Imm.le I15 I17 → Inv19 I17 F30 → ((((c == 1) = true → Tri P 108 (#[vt true, nV s t u v w x i j k y]) I17 ((a b) :: F30) fun aD I18 G14 => ((aD = .returned (.tuple #[]) ∧ ∃ F31 : Heap, List.Perm G14 ((a b) :: F31) ∧ Inv21 I18 F31) ∨ (∃ af : List PanicEntry, aD = .panicked af ∧ ∃ F32 : Heap, List.Perm G14 ((a b) :: F32) ∧ Q (.panicked af) I18 (F32)))) ∧ ((c == 1) = false → Tri P 108 (#[vt (c == 2), nV s t u v w x i j k y]) I17 ((a b) :: F30) fun aE I19 G15 => ((aE = .returned (.tuple #[]) ∧ ∃ F33 : Heap, List.Perm G15 ((a b) :: F33) ∧ Inv21 I19 F33) ∨ (∃ ag : List PanicEntry, aE = .panicked ag ∧ ∃ F34 : Heap, List.Perm G15 ((a b) :: F34) ∧ Q (.panicked ag) I19 (F34)))))) ∧ ∀ (I20 : Imm) (F35 : Heap), Imm.le I17 I20 → Inv21 I20 F35 → ((((c == 1) = true → (((d != 2) = true → Tri P 108 (#[vt true, nV l m n o p q e f g r]) I20 ((a b) :: F35) fun aF I21 G16 => ((aF = .returned (.tuple #[]) ∧ ∃ F36 : Heap, List.Perm G16 ((a b) :: F36) ∧ Inv23 I21 F36) ∨ (∃ ah : List PanicEntry, aF = .panicked ah ∧ ∃ F37 : Heap, List.Perm G16 ((a b) :: F37) ∧ Q (.panicked ah) I21 (F37)))) ∧ ((d != 2) = false → Tri P 108 (#[vt (c == 2), nV l m n o p q e f g r]) I20 ((a b) :: F35) fun aG I22 G17 => ((aG = .returned (.tuple #[]) ∧ ∃ F38 : Heap, List.Perm G17 ((a b) :: F38) ∧ Inv23 I22 F38) ∨ (∃ ai : List PanicEntry, aG = .panicked ai ∧ ∃ F39 : Heap, List.Perm G17 ((a b) :: F39) ∧ Q (.panicked ai) I22 (F39)))))) ∧ ((c == 1) = false → Tri P 108 (#[vt (c == 2), nV l m n o p q e f g r]) I20 ((a b) :: F35) fun aH I23 G18 => ((aH = .returned (.tuple #[]) ∧ ∃ F40 : Heap, List.Perm G18 ((a b) :: F40) ∧ Inv23 I23 F40) ∨ (∃ aj : List PanicEntry, aH = .panicked aj ∧ ∃ F41 : Heap, List.Perm G18 ((a b) :: F41) ∧ Q (.panicked aj) I23 (F41)))))) ∧ ∀ (I24 : Imm) (F42 : Heap), Imm.le I20 I24 → Inv23 I24 F42 → Tri P 108 (#[vt (c == 4), nV aK aL aM aN aO aP z aa ab aQ]) I24 ((a b) :: F42) fun aI I25 G19 => ((aI = .returned (.tuple #[]) ∧ ∃ F43 : Heap, List.Perm G19 ((a b) :: F43) ∧ Q (.returned (.tuple #[])) I25 (F43)) ∨ (∃ ak : List PanicEntry, aI = .panicked ak ∧ ∃ F44 : Heap, List.Perm G19 ((a b) :: F44) ∧ Q (.panicked ak) I25 (F44)))
theorem tree_do.vc {d_0 d_1 : Int} {d_2 : Bs} {d_3 d_4 d_5 d_6 d_7 : Int} {d_8 : Bs} {d_9_a : OA} {d_9_n d_9_c : Nat} {d_10 d_11 d_12 d_13 d_14 d_15 : Int} {d_16 : Bs} {d_17_a : OA} {d_17_n d_17_c : Nat} {d_18 d_19 d_20 d_21 d_22 d_23 : Int} {d_24 : Bs} {d_25_a : OA} {d_25_n d_25_c : Nat} {d_26 d_27 d_28 d_29 d_30 d_31 : Int} {d_32 : Bs} {d_33_a : OA} {d_33_n d_33_c : Nat} {d_34 d_35 : Int} {I : Imm} {F : Heap} {Q : PostQ} (Inv4 : Imm → Heap → Prop) (Inv6 : Imm → Heap → Prop) (Inv8 : Imm → Heap → Prop) (Inv19 : Imm → Heap → Prop) (Inv21 : Imm → Heap → Prop) (Inv23 : Imm → Heap → Prop) (h : tree_do.V (fun b => (b, Obj.cells #[.int .u8 d_0, .int .u8 d_1, .string d_2, .int .u8 d_3, .int .u8 d_4, .int .u8 d_5, .int .i64 d_6, .int .u8 d_7, .string d_8, .slice d_9_a d_9_n d_9_c, .int .i64 d_10, .int .u8 d_11, .int .u8 d_12, .int .u8 d_13, .int .i64 d_14, .int .u8 d_15, .string d_16, .slice d_17_a d_17_n d_17_c, .int .i64 d_18, .int .u8 d_19, .int .u8 d_20, .int .u8 d_21, .int .i64 d_22, .int .u8 d_23, .string d_24, .slice d_25_a d_25_n d_25_c, .int .i64 d_26, .int .u8 d_27, .int .u8 d_28, .int .u8 d_29, .int .i64 d_30, .int .u8 d_31, .string d_32, .slice d_33_a d_33_n d_33_c, .int .i64 d_34, .int .i64 d_35] 89 (0, 0))) (fun k o t n f s a l c q => .agg #[.int .u8 k, .int .u8 o, .int .u8 t, .int .i64 n, .int .u8 f, .string s, .slice a l c, .int .i64 q]) (.int .i64) .bool d_0 d_1 d_2 d_3 d_4 d_5 d_6 d_7 d_8 d_9_a d_9_n d_9_c d_10 d_11 d_12 d_13 d_14 d_15 d_16 d_17_a d_17_n d_17_c d_18 d_19 d_20 d_21 d_22 d_23 d_24 d_25_a d_25_n d_25_c d_26 d_27 d_28 d_29 d_30 d_31 d_32 d_33_a d_33_n d_33_c d_34 d_35 I F Q Inv4 Inv6 Inv8 Inv19 Inv21 Inv23) : Tri P 91 #[.agg #[.int .u8 d_0, .int .u8 d_1, .string d_2, .int .u8 d_3, .int .u8 d_4, .int .u8 d_5, .int .i64 d_6, .int .u8 d_7, .string d_8, .slice d_9_a d_9_n d_9_c, .int .i64 d_10, .int .u8 d_11, .int .u8 d_12, .int .u8 d_13, .int .i64 d_14, .int .u8 d_15, .string d_16, .slice d_17_a d_17_n d_17_c, .int .i64 d_18, .int .u8 d_19, .int .u8 d_20, .int .u8 d_21, .int .i64 d_22, .int .u8 d_23, .string d_24, .slice d_25_a d_25_n d_25_c, .int .i64 d_26, .int .u8 d_27, .int .u8 d_28, .int .u8 d_29, .int .i64 d_30, .int .u8 d_31, .string d_32, .slice d_33_a d_33_n d_33_c, .int .i64 d_34, .int .i64 d_35]] I (F) Q :=
  tv (A := (annL [2002, 3000, 3004, 3009, 3013, 4002, 6001, 6005, 9000, 10000, 10004] [31, 32, 108] [31, 32, 108] shT_t4 [(4, ⟨[], [], fun _ _ _ vs m I F => match vs with | [] => Inv4  I F | _ => False, [], []⟩), (6, ⟨[], [], fun _ _ _ vs m I F => match vs with | [] => Inv6  I F | _ => False, [], []⟩), (8, ⟨[], [], fun _ _ _ vs m I F => match vs with | [] => Inv8  I F | _ => False, [], []⟩), (19, ⟨[], [], fun _ _ _ vs m I F => match vs with | [] => Inv19  I F | _ => False, [], []⟩), (21, ⟨[], [], fun _ _ _ vs m I F => match vs with | [] => Inv21  I F | _ => False, [], []⟩), (23, ⟨[], [], fun _ _ _ vs m I F => match vs with | [] => Inv23  I F | _ => False, [], []⟩)] [] [] [] [] [] [])) (args := [.a (.v (.agg #[.int .u8 d_0, .int .u8 d_1, .string d_2, .int .u8 d_3, .int .u8 d_4, .int .u8 d_5, .int .i64 d_6, .int .u8 d_7, .string d_8, .slice d_9_a d_9_n d_9_c, .int .i64 d_10, .int .u8 d_11, .int .u8 d_12, .int .u8 d_13, .int .i64 d_14, .int .u8 d_15, .string d_16, .slice d_17_a d_17_n d_17_c, .int .i64 d_18, .int .u8 d_19, .int .u8 d_20, .int .u8 d_21, .int .i64 d_22, .int .u8 d_23, .string d_24, .slice d_25_a d_25_n d_25_c, .int .i64 d_26, .int .u8 d_27, .int .u8 d_28, .int .u8 d_29, .int .i64 d_30, .int .u8 d_31, .string d_32, .slice d_33_a d_33_n d_33_c, .int .i64 d_34, .int .i64 d_35]))]) (own := []) (keep := []) [31, 32, 108] Go.Proofs.Tryz.func91 h
def tree_begin.V (l : Nat → Nat × Obj) (nO : Int → Int → Int → Int → Int → Bs → OA → Nat → Nat → Int → Obj) (vb vi : Int → Value) (vt : Bool → Value) (m p x y z : Int) (aa : Bs) (n : OA) (o q : Nat) (ab : Int) (I : Imm) (F : Heap) (Q : PostQ)  : Prop := ∀ d : Nat, Tri P 77 (#[.agg #[vb m, vb p, vb x, vi y, vb z, .string aa, .slice n o q, vi ab]]) I ((l d) :: F) fun e1 I1 G1 => ((e1 = .returned (.tuple #[]) ∧ ∃ F1 : Heap, List.Perm G1 ((l d) :: F1) ∧ (((m == 5) = true → (((p == 1) = true → ((0 ≤ (0 : Int) ∧ (0 : Int) < (o : Int)) ∧ ∃ ad : Addr, n = some ad ∧ ∃ (e g f h i : Int) (j : Bs) (a : OA) (b c : Nat) (k : Int), Rd I1 ((l d) :: F1) (ad.add (Int.toNat (0) * 8)) [vb e, vb g, vb f, vi h, vb i, .string j, .slice a b c, vi k] ∧ (((e == 1) = true → Tri P 32 (#[vt (decide (f ≤ 4)), vi 120]) I1 ((d, nO e g f h i j a b c k) :: F1) fun e2 I2 G2 => ((e2 = .returned (.tuple #[]) ∧ ∃ F2 : Heap, List.Perm G2 ((d, nO e g f h i j a b c k) :: F2) ∧ Tri P 32 (#[vt (e == 1), vi 120]) I2 ((d, nO e g f h i j a b c k) :: F2) fun e3 I3 G3 => ((e3 = .returned (.tuple #[]) ∧ ∃ F3 : Heap, List.Perm G3 ((d, nO e g f h i j a b c k) :: F3) ∧ Q (.returned (.tuple #[])) I3 (F3)) ∨ (∃ ch : List PanicEntry, e3 = .panicked ch ∧ ∃ F4 : Heap, List.Perm G3 ((d, nO e g f h i j a b c k) :: F4) ∧ Q (.panicked ch) I3 (F4)))) ∨ (∃ r : List PanicEntry, e2 = .panicked r ∧ ∃ F5 : Heap, List.Perm G2 ((d, nO e g f h i j a b c k) :: F5) ∧ Q (.panicked r) I2 (F5)))) ∧ ((e == 1) = false → Tri P 32 (#[vt false, vi 120]) I1 ((d, nO e g f h i j a b c k) :: F1) fun e4 I4 G4 => ((e4 = .returned (.tuple #[]) ∧ ∃ F6 : Heap, List.Perm G4 ((d, nO e g f h i j a b c k) :: F6) ∧ Tri P 32 (#[vt (e == 1), vi 120]) I4 ((d, nO e g f h i j a b c k) :: F6) fun e5 I5 G5 => ((e5 = .returned (.tuple #[]) ∧ ∃ F7 : Heap, List.Perm G5 ((d, nO e g f h i j a b c k) :: F7) ∧ Q (.returned (.tuple #[])) I5 (F7)) ∨ (∃ s : List PanicEntry, e5 = .panicked s ∧ ∃ F8 : Heap, List.Perm G5 ((d, nO e g f h i j a b c k) :: F8) ∧ Q (.panicked s) I5 (F8)))) ∨ (∃ t : List PanicEntry, e4 = .panicked t ∧ ∃ F9 : Heap, List.Perm G4 ((d, nO e g f h i j a b c k) :: F9) ∧ Q (.panicked t) I4 (F9))))))) ∧ ((p == 1) = false → Tri P 32 (#[vt (m == 1), vi 120]) I1 ((l d) :: F1) fun e6 I6 G6 => ((e6 = .returned (.tuple #[]) ∧ ∃ F10 : Heap, List.Perm G6 ((l d) :: F10) ∧ Q (.returned (.tuple #[])) I6 (F10)) ∨ (∃ u : List PanicEntry, e6 = .panicked u ∧ ∃ F11 : Heap, List.Perm G6 ((l d) :: F11) ∧ Q (.panicked u) I6 (F11)))))) ∧ ((m == 5) = false → Tri P 32 (#[vt (m == 1), vi 120]) I1 ((l d) :: F1) fun e7 I7 G7 => ((e7 = .returned (.tuple #[]) ∧ ∃ F12 : Heap, List.Perm G7 ((l d) :: F12) ∧ Q (.returned (.tuple #[])) I7 (F12)) ∨ (∃ v : List PanicEntry, e7 = .panicked v ∧ ∃ F13 : Heap, List.Perm G7 ((l d) :: F13) ∧ Q (.panicked v) I7 (F13)))))) ∨ (∃ w : List PanicEntry, e1 = .panicked w ∧ ∃ F14 : Heap, List.Perm G1 ((l d) :: F14) ∧ Q (.panicked w) I1 (F14)))
theorem tree_begin.vc {n_0 n_1 n_2 n_3 n_4 : Int} {n_5 : Bs} {n_6_a : OA} {n_6_n n_6_c : Nat} {n_7 : Int} {I : Imm} {F : Heap} {Q : PostQ}  (h : tree_begin.V (fun b => (b, Obj.cells #[.int .u8 n_0, .int .u8 n_1, .int .u8 n_2, .int .i64 n_3, .int .u8 n_4, .string n_5, .slice n_6_a n_6_n n_6_c, .int .i64 n_7] 55 (0, 0))) (fun k o t n f s a l c q => .cells #[.int .u8 k, .int .u8 o, .int .u8 t, .int .i64 n, .int .u8 f, .string s, .slice a l c, .int .i64 q] 55 (0, 0)) (.int .u8) (.int .i64) .bool n_0 n_1 n_2 n_3 n_4 n_5 n_6_a n_6_n n_6_c n_7 I F Q) : Tri P 33 #[.agg #[.int .u8 n_0, .int .u8 n_1, .int .u8 n_2, .int .i64 n_3, .int .u8 n_4, .string n_5, .slice n_6_a n_6_n n_6_c, .int .i64 n_7]] I (F) Q :=
  tv (A := (annL [2002, 2006, 4002] [32, 77] [32, 77] shT_t4 [] [] [] [] [] [] [])) (args := [.a (.v (.agg #[.int .u8 n_0, .int .u8 n_1, .int .u8 n_2, .int .i64 n_3, .int .u8 n_4, .string n_5, .slice n_6_a n_6_n n_6_c, .int .i64 n_7]))]) (own := []) (keep := []) [32, 77] Go.Proofs.Tryz.func33 h
def tree_rule.V (a : Nat → Nat × Obj) (vb vi : Int → Value) (vs : Bs → Value) (vl : OA → Nat → Nat → Value) (aI aJ aK aL aM : Int) (aN : Bs) (aB : OA) (aC aD : Nat) (aO : Int) (aE : OA) (l aP : Nat) (aQ : Int) (I : Imm) (F : Heap) (Q : PostQ) (Inv11 : Int → Nat → Imm → Heap → Prop) : Prop := ∀ b : Nat, Tri P 83 (#[.agg #[vb aI, vb aJ, vb aK, vi aL, vb aM, vs aN, vl aB aC aD, vi aO]]) I ((a b) :: F) fun e1 I1 G1 => ((e1 = .returned (.tuple #[]) ∧ ∃ F1 : Heap, List.Perm G1 ((a b) :: F1) ∧ Tri P 32 (#[.bool (decide (((l : Nat) : Int) > 0)), vi 120]) I1 ((a b) :: F1) fun e2 I2 G2 => ((e2 = .returned (.tuple #[]) ∧ ∃ F2 : Heap, List.Perm G2 ((a b) :: F2) ∧ Tri P 32 (#[.bool (decide (((l : Nat) : Int) ≤ 8)), vi 121]) I2 ((a b) :: F2) fun e3 I3 G3 => ((e3 = .returned (.tuple #[]) ∧ ∃ F3 : Heap, List.Perm G3 ((a b) :: F3) ∧ (∃ m : Nat, Inv11 0 m I3 F3) ∧ ∀ (x : Int) (m1 : Nat) (I4 : Imm) (F4 : Heap), Imm.le I3 I4 → Inv11 x m1 I4 F4 → ((decide (x < ((l : Nat) : Int)) = true → ((0 ≤ x ∧ x < (l : Int)) ∧ ∃ ad : Addr, aE = some ad ∧ ∃ (ap aq : Int) (ar : Bs) (au av aw ax ay : Int) (az : Bs) (n : OA) (o p : Nat) (q r s t u v : Int) (w : Bs) (c : OA) (d e : Nat) (y z aa ab ac ae : Int) (af : Bs) (f : OA) (g h : Nat) (ag ah ai aj ak al : Int) (am : Bs) (i : OA) (j k : Nat) (an ao : Int), Rd I4 ((a b) :: F4) (ad.add (Int.toNat (x) * 36)) [vb ap, vb aq, vs ar, vb au, vb av, vb aw, vi ax, vb ay, vs az, vl n o p, vi q, vb r, vb s, vb t, vi u, vb v, vs w, vl c d e, vi y, vb z, vb aa, vb ab, vi ac, vb ae, vs af, vl f g h, vi ag, vb ah, vb ai, vb aj, vi ak, vb al, vs am, vl i j k, vi an, vi ao] ∧ ∀ aA : Nat, Tri P 91 (#[.agg #[vb ap, vb aq, vs ar, vb au, vb av, vb aw, vi ax, vb ay, vs az, vl n o p, vi q, vb r, vb s, vb t, vi u, vb v, vs w, vl c d e, vi y, vb z, vb aa, vb ab, vi ac, vb ae, vs af, vl f g h, vi ag, vb ah, vb ai, vb aj, vi ak, vb al, vs am, vl i j k, vi an, vi ao]]) I4 ((a b) :: (aA, Obj.cells #[vb ap, vb aq, vs ar, vb au, vb av, vb aw, vi ax, vb ay, vs az, vl n o p, vi q, vb r, vb s, vb t, vi u, vb v, vs w, vl c d e, vi y, vb z, vb aa, vb ab, vi ac, vb ae, vs af, vl f g h, vi ag, vb ah, vb ai, vb aj, vi ak, vb al, vs am, vl i j k, vi an, vi ao] 89 (0, 0)) :: F4) fun e4 I5 G4 => ((e4 = .returned (.tuple #[]) ∧ ∃ F5 : Heap, List.Perm G4 ((a b) :: (aA, Obj.cells #[vb ap, vb aq, vs ar, vb au, vb av, vb aw, vi ax, vb ay, vs az, vl n o p, vi q, vb r, vb s, vb t, vi u, vb v, vs w, vl c d e, vi y, vb z, vb aa, vb ab, vi ac, vb ae, vs af, vl f g h, vi ag, vb ah, vb ai, vb aj, vi ak, vb al, vs am, vl i j k, vi an, vi ao] 89 (0, 0)) :: F5) ∧ (∃ m2 : Nat, m2 < m1 ∧ Inv11 (IntKind.wrap .i64 (x + 1)) m2 I5 F5)) ∨ (∃ ch : List PanicEntry, e4 = .panicked ch ∧ ∃ F6 : Heap, List.Perm G4 ((a b) :: (aA, Obj.cells #[vb ap, vb aq, vs ar, vb au, vb av, vb aw, vi ax, vb ay, vs az, vl n o p, vi q, vb r, vb s, vb t, vi u, vb v, vs w, vl c d e, vi y, vb z, vb aa, vb ab, vi ac, vb ae, vs af, vl f g h, vi ag, vb ah, vb ai, vb aj, vi ak, vb al, vs am, vl i j k, vi an, vi ao] 89 (0, 0)) :: F6) ∧ Q (.panicked ch) I5 (F6))))) ∧ (decide (x < ((l : Nat) : Int)) = false → Q (.returned (.tuple #[])) I4 (F4)))) ∨ (∃ aF : List PanicEntry, e3 = .panicked aF ∧ ∃ F7 : Heap, List.Perm G3 ((a b) :: F7) ∧ Q (.panicked aF) I3 (F7)))) ∨ (∃ aG : List PanicEntry, e2 = .panicked aG ∧ ∃ F8 : Heap, List.Perm G2 ((a b) :: F8) ∧ Q (.panicked aG) I2 (F8)))) ∨ (∃ aH : List PanicEntry, e1 = .panicked aH ∧ ∃ F9 : Heap, List.Perm G1 ((a b) :: F9) ∧ Q (.panicked aH) I1 (F9)))
theorem tree_rule.vc {r_0 r_1 r_2 r_3 r_4 : Int} {r_5 : Bs} {r_6_a : OA} {r_6_n r_6_c : Nat} {r_7 : Int} {r_8_a : OA} {r_8_n r_8_c : Nat} {r_9 : Int} {I : Imm} {F : Heap} {Q : PostQ} (Inv11 : Int → Nat → Imm → Heap → Prop) (h : tree_rule.V (fun b => (b, Obj.cells #[.int .u8 r_0, .int .u8 r_1, .int .u8 r_2, .int .i64 r_3, .int .u8 r_4, .string r_5, .slice r_6_a r_6_n r_6_c, .int .i64 r_7, .slice r_8_a r_8_n r_8_c, .int .i64 r_9] 67 (0, 0))) (.int .u8) (.int .i64) .string .slice r_0 r_1 r_2 r_3 r_4 r_5 r_6_a r_6_n r_6_c r_7 r_8_a r_8_n r_8_c r_9 I F Q Inv11) : Tri P 34 #[.agg #[.int .u8 r_0, .int .u8 r_1, .int .u8 r_2, .int .i64 r_3, .int .u8 r_4, .string r_5, .slice r_6_a r_6_n r_6_c, .int .i64 r_7, .slice r_8_a r_8_n r_8_c, .int .i64 r_9]] I (F) Q :=
  tv (A := (annL [5000] [32, 83, 91] [32, 83, 91] shT_t4 [(11, ⟨[(20, (.int .i64))], [], fun _ _ _ vs m I F => match vs with | [.int _ y0] => Inv11 y0 m I F | _ => False, [], []⟩)] [] [] [] [] [] [])) (args := [.a (.v (.agg #[.int .u8 r_0, .int .u8 r_1, .int .u8 r_2, .int .i64 r_3, .int .u8 r_4, .string r_5, .slice r_6_a r_6_n r_6_c, .int .i64 r_7, .slice r_8_a r_8_n r_8_c, .int .i64 r_9]))]) (own := []) (keep := []) [32, 83, 91] Go.Proofs.Tryz.func34 h
def law12_sum.V (vb vi : Int → Value) (vs : Bs → Value) (vl : OA → Nat → Nat → Value) (I : Imm) (F : Heap) (Q : PostQ)  : Prop := ∀ b : Nat, ∀ (b1 : Nat) (I1 : Imm), Imm.le I I1 → I1 b1 = some (Obj.cells #[vb 1, vb 0, vb 1, vi 2, vb 0, vs (⟨#[]⟩ : Bs), vl none 0 0, vi 0, vb 1, vb 0, vb 1, vi 3, vb 0, vs (⟨#[]⟩ : Bs), vl none 0 0, vi 0] 55 (0, 0)) → ∀ a : Nat, ∀ (b2 : Nat) (I2 : Imm), Imm.le I1 I2 → I2 b2 = some (Obj.cells #[vb 1, vb 0, vb 1, vi 1, vb 0, vs (⟨#[]⟩ : Bs), vl none 0 0, vi 0, vb 6, vb 6, vb 0, vi 0, vb 0, vs (⟨#[]⟩ : Bs), vl (some ⟨b1, 0, none⟩) 2 2, vi 5] 55 (0, 0)) → Q (.returned (.agg #[vb 6, vb 6, vb 0, vi 0, vb 0, vs (⟨#[]⟩ : Bs), vl (some ⟨b2, 0, none⟩) 2 2, vi 0])) I2 (F)
theorem law12_sum.vc  {I : Imm} {F : Heap} {Q : PostQ}  (h : law12_sum.V (.int .u8) (.int .i64) .string .slice I F Q) : Tri P 17 #[] I (F) Q :=
  tv (A := (annL [] [] [] shT_t4 [] [1002, 2002] [] [] [] [] [])) (args := []) (own := []) (keep := []) [] Go.Proofs.Tryz.func17 h
def law12_least.V (vb vi : Int → Value) (vs : Bs → Value) (vl : OA → Nat → Nat → Value) (I : Imm) (F : Heap) (Q : PostQ)  : Prop := ∀ b : Nat, ∀ a : Nat, ∀ (b1 : Nat) (I1 : Imm), Imm.le I I1 → I1 b1 = some (Obj.cells #[vb 6, vb 0, vs (⟨#[]⟩ : Bs), vb 0, vb 0, vb 0, vi 0, vb 0, vs (⟨#[]⟩ : Bs), vl none 0 0, vi 0, vb 0, vb 0, vb 0, vi 0, vb 0, vs (⟨#[]⟩ : Bs), vl none 0 0, vi 0, vb 0, vb 0, vb 0, vi 0, vb 0, vs (⟨#[]⟩ : Bs), vl none 0 0, vi 0, vb 0, vb 0, vb 0, vi 0, vb 0, vs (⟨#[]⟩ : Bs), vl none 0 0, vi 0, vi 0] 89 (0, 0)) → ∀ (b2 : Nat) (I2 : Imm), Imm.le I1 I2 → I2 b2 = some (Obj.cells #[vb 4, vb 0, vb 0, vi 0, vb 1, vs (⟨#[]⟩ : Bs), vl none 0 0, vi 0, vl (some ⟨b1, 0, none⟩) 1 1, vi 0] 67 (0, 0)) → ∀ (b3 : Nat) (I3 : Imm), Imm.le I2 I3 → I3 b3 = some (Obj.cells #[vs (⟨#[97]⟩ : Bs), vl (some ⟨b2, 0, none⟩) 1 1, vi 0] 70 (0, 0)) → Q (.returned (.agg #[vs (⟨#[115]⟩ : Bs), vl none 0 0, vl none 0 0, vl (some ⟨b3, 0, none⟩) 1 1])) I3 (F)
theorem law12_least.vc  {I : Imm} {F : Heap} {Q : PostQ}  (h : law12_least.V (.int .u8) (.int .i64) .string .slice I F Q) : Tri P 22 #[] I (F) Q :=
  tv (A := (annL [] [] [] shT_t4 [] [2002, 2004, 2006] [] [] [] [] [])) (args := []) (own := []) (keep := []) [] Go.Proofs.Tryz.func22 h
def law12_awake.V (nV : Int → Int → Int → Int → Int → Bs → OA → Nat → Nat → Int → Value) (nO : Int → Int → Int → Int → Int → Bs → OA → Nat → Nat → Int → Obj) (vb vi : Int → Value) (vs : Bs → Value) (vl : OA → Nat → Nat → Value) (vt : Bool → Value) (I : Imm) (F : Heap) (Q : PostQ)  : Prop := Tri P 17 (#[]) I (F) fun e1 I1 G1 => ∃ (d e f g h : Int) (i : Bs) (a : OA) (b c : Nat) (j : Int), e1 = .returned (nV d e f g h i a b c j) ∧ ∃ F1 : Heap, List.Perm G1 (F1) ∧ ∀ k : Nat, Tri P 18 (#[nV d e f g h i a b c j]) I1 ((k, nO d e f g h i a b c j) :: F1) fun e2 I2 G2 => ∃ (r : Int), e2 = .returned (vi r) ∧ ∃ F2 : Heap, List.Perm G2 ((k, nO d e f g h i a b c j) :: F2) ∧ Tri P 19 (#[nV d e f g h i a b c j]) I2 ((k, nO d e f g h i a b c j) :: F2) fun e3 I3 G3 => ∃ (r1 : Int), e3 = .returned (vi r1) ∧ ∃ F3 : Heap, List.Perm G3 ((k, nO d e f g h i a b c j) :: F3) ∧ Tri P 20 (#[nV d e f g h i a b c j]) I3 ((k, nO d e f g h i a b c j) :: F3) fun e4 I4 G4 => ∃ (r2 : Int), e4 = .returned (vi r2) ∧ ∃ F4 : Heap, List.Perm G4 ((k, nO d e f g h i a b c j) :: F4) ∧ Tri P 21 (#[nV d e f g h i a b c j]) I4 ((k, nO d e f g h i a b c j) :: F4) fun e5 I5 G5 => ∃ (r3 : Int), e5 = .returned (vi r3) ∧ ∃ F5 : Heap, List.Perm G5 ((k, nO d e f g h i a b c j) :: F5) ∧ Tri P 21 (#[nV 1 0 6 0 0 (⟨#[]⟩ : Bs) none 0 0 0]) I5 ((k, nO d e f g h i a b c j) :: F5) fun e6 I6 G6 => ∃ (r4 : Int), e6 = .returned (vi r4) ∧ ∃ F6 : Heap, List.Perm G6 ((k, nO d e f g h i a b c j) :: F6) ∧ Tri P 22 (#[]) I6 ((k, nO d e f g h i a b c j) :: F6) fun e7 I7 G7 => ∃ (an : Bs) (aa : OA) (ab ac : Nat) (ae : OA) (af ag : Nat) (ah : OA) (ai aj : Nat), e7 = .returned (.agg #[vs an, vl aa ab ac, vl ae af ag, vl ah ai aj]) ∧ ∃ F7 : Heap, List.Perm G7 ((k, nO d e f g h i a b c j) :: F7) ∧ Tri P 7 (#[.agg #[vs an, vl aa ab ac, vl ae af ag, vl ah ai aj]]) I7 ((k, nO d e f g h i a b c j) :: F7) fun e8 I8 G8 => ∃ (r5 : Int), e8 = .returned (vi r5) ∧ ∃ F8 : Heap, List.Perm G8 ((k, nO d e f g h i a b c j) :: F8) ∧ Tri P 7 (#[.agg #[vs (⟨#[115]⟩ : Bs), vl none 0 0, vl none 0 0, vl none 0 0]]) I8 ((k, nO d e f g h i a b c j) :: F8) fun e9 I9 G9 => ∃ (r6 : Int), e9 = .returned (vi r6) ∧ ∃ F9 : Heap, List.Perm G9 ((k, nO d e f g h i a b c j) :: F9) ∧ Tri P 22 (#[]) I9 ((k, nO d e f g h i a b c j) :: F9) fun aN I10 G10 => ∃ (aJ : Bs) (ao : OA) (ap aq : Nat) (ar : OA) (au av : Nat) (x : OA) (y aw : Nat), aN = .returned (.agg #[vs aJ, vl ao ap aq, vl ar au av, vl x y aw]) ∧ ∃ F10 : Heap, List.Perm G10 ((k, nO d e f g h i a b c j) :: F10) ∧ ((0 ≤ (0 : Int) ∧ (0 : Int) < (y : Int)) ∧ ∃ ad : Addr, x = some ad ∧ ∃ (ay : OA) (az aM : Nat), Rd I10 ((k, nO d e f g h i a b c j) :: F10) ((ad.add (Int.toNat (0) * 3)).add 1) [vl ay az aM] ∧ ((0 ≤ (0 : Int) ∧ (0 : Int) < (az : Int)) ∧ ∃ aH : Addr, ay = some aH ∧ ∃ (aA aB aC aD aE : Int) (aF : Bs) (ak : OA) (al am : Nat) (aG : Int), Rd I10 ((k, nO d e f g h i a b c j) :: F10) ((aH.add (Int.toNat (0) * 10)).add 0) [vb aA, vb aB, vb aC, vi aD, vb aE, vs aF, vl ak al am, vi aG] ∧ Tri P 23 (#[nV aA aB aC aD aE aF ak al am aG]) I10 ((k, nO d e f g h i a b c j) :: F10) fun aO I11 G11 => ∃ (r0 : Int) (aK : OA) (z aL : Nat), aO = .returned (.tuple #[.int .u16 r0, vl aK z aL]) ∧ ∃ F11 : Heap, List.Perm G11 ((k, nO d e f g h i a b c j) :: F11) ∧ Tri P 24 (#[nV d e f g h i a b c j]) I11 ((k, nO d e f g h i a b c j) :: F11) fun aP I12 G12 => ∃ (p q s t u : Int) (v : Bs) (n : OA) (l o : Nat) (w : Int), aP = .returned (nV p q s t u v n l o w) ∧ ∃ F12 : Heap, List.Perm G12 ((k, nO d e f g h i a b c j) :: F12) ∧ ∀ ax : Nat, Tri P 25 (#[nV d e f g h i a b c j, nV p q s t u v n l o w]) I12 ((k, nO d e f g h i a b c j) :: (ax, nO p q s t u v n l o w) :: F12) fun aQ I13 G13 => ∃ (r7 : Bool), aQ = .returned (vt r7) ∧ ∃ F13 : Heap, List.Perm G13 ((k, nO d e f g h i a b c j) :: (ax, nO p q s t u v n l o w) :: F13) ∧ (((r == 5) = true → (((r1 == 1) = true → (((r2 == 5) = true → (((r3 == 0) = true → (((r4 == 120) = true → (((r5 == 0) = true → (((r6 == 120) = true → (((r0 == 2) = true → (((((z : Nat) : Int) == 0) = true → ((r7 = true → (((((l : Nat) : Int) == 2) = true → ((0 ≤ (1 : Int) ∧ (1 : Int) < (l : Int)) ∧ ∃ aI : Addr, n = some aI ∧ ∃ (m : Int), Rd I13 ((k, nO d e f g h i a b c j) :: (ax, nO p q s t u v n l o w) :: F13) ((aI.add (Int.toNat (1) * 8)).add 7) [vi m] ∧ Q (.returned (vt (m == 0))) I13 (F13))) ∧ ((((l : Nat) : Int) == 2) = false → Q (.returned (vt false)) I13 (F13)))) ∧ (r7 = false → Q (.returned (vt false)) I13 (F13)))) ∧ ((((z : Nat) : Int) == 0) = false → Q (.returned (vt false)) I13 (F13)))) ∧ ((r0 == 2) = false → Q (.returned (vt false)) I13 (F13)))) ∧ ((r6 == 120) = false → Q (.returned (vt false)) I13 (F13)))) ∧ ((r5 == 0) = false → Q (.returned (vt false)) I13 (F13)))) ∧ ((r4 == 120) = false → Q (.returned (vt false)) I13 (F13)))) ∧ ((r3 == 0) = false → Q (.returned (vt false)) I13 (F13)))) ∧ ((r2 == 5) = false → Q (.returned (vt false)) I13 (F13)))) ∧ ((r1 == 1) = false → Q (.returned (vt false)) I13 (F13)))) ∧ ((r == 5) = false → Q (.returned (vt false)) I13 (F13)))))
theorem law12_awake.vc  {I : Imm} {F : Heap} {Q : PostQ}  (h : law12_awake.V (fun k o t n f s a l c q => .agg #[.int .u8 k, .int .u8 o, .int .u8 t, .int .i64 n, .int .u8 f, .string s, .slice a l c, .int .i64 q]) (fun k o t n f s a l c q => .cells #[.int .u8 k, .int .u8 o, .int .u8 t, .int .i64 n, .int .u8 f, .string s, .slice a l c, .int .i64 q] 55 (0, 0)) (.int .u8) (.int .i64) .string .slice .bool I F Q) : Tri P 4 #[] I (F) Q :=
  tv (A := (annL [12001, 12004, 12008, 12012, 12016, 12020, 12024, 12028, 12033, 12036, 12042] [] [7, 17, 18, 19, 20, 21, 22, 23, 24, 25] shT_t4 [] [] [] [] [] [] [])) (args := []) (own := []) (keep := []) [7, 17, 18, 19, 20, 21, 22, 23, 24, 25] Go.Proofs.Tryz.func4 h
end Go.Lx
namespace Go.Lx
open Go.Vc
def Errs (n : Int) (F : Heap) (e : Ending) (I : Imm) (G : Heap) : Prop := e = errOf n ∧ G = F
theorem Errs.use {Pr : Program} {f : FuncId} {args : Array Value} {I : Imm} {F : Heap} {n : Int} {Q : Ending → Imm → Heap → Prop} (h : Tri Pr f args I F (Errs n F))
    (k1 : n = 0 → ∀ I', Imm.le I I' → Q (.returned (.tuple #[])) I' F) (k2 : n ≠ 0 → ∀ I', Imm.le I I' → Q (.panicked (wrongP n)) I' F) : Tri Pr f args I F Q :=
  h.mono fun e I' G hl ⟨he, hG⟩ => by
    subst hG
    by_cases hn : n = 0
    · rw [errOf, if_pos hn] at he; subst he; exact k1 hn I' hl
    · rw [errOf, if_neg hn] at he; subst he; exact k2 hn I' hl
theorem Errs.fail {n b N : Int} {F : Heap} {I : Imm} (h : N = thenE n b) (hn : n ≠ 0) : Errs N F (.panicked (wrongP n)) I F := ⟨by rw [h, thenE_ne hn, errOf, if_neg hn], rfl⟩
theorem Errs.fail1 {n N : Int} {F : Heap} {I : Imm} (h : N = n) (hn : n ≠ 0) : Errs N F (.panicked (wrongP n)) I F := ⟨by rw [h, errOf, if_neg hn], rfl⟩
theorem Errs.done {N : Int} {F : Heap} {I : Imm} (h : N = 0) : Errs N F (.returned (.tuple #[])) I F := ⟨by rw [h, errOf, if_pos rfl], rfl⟩
theorem Errs.look {b : Bool} {err : Int} (he : err ≠ 0) {Pr : Program} {f : FuncId} {args : Array Value} {I : Imm} {F : Heap} (h : Tri Pr f args I F (Look b err F)) : Tri Pr f args I F (Errs (errB b err) F) :=
  h.mono fun e I' G _ ⟨h1, h2⟩ => ⟨by rw [h1]; cases b <;> simp [errB, errOf, he], h2⟩
theorem must_errs (b : Bool) {err : Int} (he : err ≠ 0) (I : Imm) (F : Heap) : Tri P 32 #[.bool b, .int .i64 err] I F (Errs (errB b err) F) := Errs.look he (must_spec b err I F)
theorem named_spec (s : ByteArray) (I : Imm) (F : Heap) : Tri P 31 #[.string s] I F (Errs (errB (nameB s) 120) F) := by
  refine tree_named.vc ?_
  unfold tree_named.V
  exact Tri.ret (Name_spec (t := s) I _) fun I1 _ => ⟨_, rfl, F, .refl _, Errs.use (must_errs _ (by decide) I1 _) (fun q I2 _ => .inl ⟨rfl, F, .refl _, .done q⟩) (fun q I2 _ => .inr ⟨_, rfl, F, .refl _, .fail1 rfl q⟩)⟩
theorem none_eq (t : Nd) : t.px.noneB = (bEq t.kind t.oper t.typ t.n t.field t.name 0 0 0 0 0 ⟨#[]⟩ && decide (t.kids.length = 0)) := by
  unfold Px.noneB bEq
  rw [Nd.px_kind, Nd.px_oper, Nd.px_typ, Nd.px_n, Nd.px_field, Nd.px_name, Nd.px_len, empty_list]
  simp only [Bool.and_true]
theorem unnamed_spec (t : Nd) (I : Imm) (F : Heap) : Tri P 117 #[t.v] I F (Errs (errB t.px.noneB 120) F) := by
  refine tree_unnamed.vc ?_
  unfold tree_unnamed.V
  intro b_n
  rw [none_eq]
  refine (alone_spec t I _).mono fun e I1 G hI1 ⟨he, hG⟩ => ?_
  subst hG
  refine ⟨_, _, _, _, _, _, he, F, .refl _, _, bare_eql t.kind t.oper t.typ t.n t.field t.name 0 0 0 0 0 ⟨#[]⟩, fun hq => ?_, fun hq => ?_⟩
  · rw [hq, Bool.true_and]
    have e : (((t.kids.length : Nat) : Int) == 0) = decide (t.kids.length = 0) := by rw [Bool.eq_iff_iff]; simp
    rw [e]
    refine Errs.use (must_errs _ (by decide) I1 _) (fun q2 I2 hI2 => .inl ⟨rfl, _, .refl _, ?_⟩) (fun q2 I2 hI2 => .inr ⟨_, rfl, _, .refl _, ?_⟩)
    · exact .done q2
    · exact .fail1 rfl q2
  · rw [hq, Bool.false_and]
    refine Errs.use (must_errs _ (by decide) I1 _) (fun q2 I2 hI2 => .inl ⟨rfl, _, .refl _, ?_⟩) (fun q2 I2 hI2 => .inr ⟨_, rfl, _, .refl _, ?_⟩)
    · exact .done q2
    · exact .fail1 rfl q2
theorem part_spec (is : Bool) (t : Nd) (hs : t.px.size ≤ 1048576) (I : Imm) (F : Heap) (ht : NdOk I F t) : Tri P 108 #[.bool is, t.v] I F (Errs (partE is t.px) F) := by
  refine tree_part.vc ?_
  unfold tree_part.V partE
  intro b_n
  refine ⟨fun h => ?_, fun h => ?_⟩
  · rw [h]
    refine Errs.use (expr_spec t hs I _ ht.cons) (fun q1 I1 hI1 => .inl ⟨rfl, _, .refl _, ?_⟩) (fun q1 I1 hI1 => .inr ⟨_, rfl, _, .refl _, ?_⟩)
    · exact .done q1
    · exact .fail1 rfl q1
  · rw [h]
    refine Errs.use (unnamed_spec t I _) (fun q1 I1 hI1 => .inl ⟨rfl, _, .refl _, ?_⟩) (fun q1 I1 hI1 => .inr ⟨_, rfl, _, .refl _, ?_⟩)
    · exact .done q1
    · exact .fail1 rfl q1
theorem errB_zero {b : Bool} {n : Int} (hn : n ≠ 0) (h : errB b n = 0) : b = true := by
  unfold errB at h; cases b <;> simp_all
theorem errB_ne {b : Bool} {n : Int} (h : errB b n ≠ 0) : b = false ∧ errB b n = n := by
  unfold errB at h ⊢; cases b <;> simp_all
theorem begin_spec (t : Nd) (hs : t.px.size ≤ 1048576) (I : Imm) (F : Heap) (ht : NdOk I F t) : Tri P 33 #[t.v] I F (Errs (errB (t.px.formed && t.px.beginB) 120) F) := by
  refine tree_begin.vc ?_
  unfold tree_begin.V
  intro b_n
  refine Errs.use (Errs.look (by decide) (node_spec t hs I _ ht.cons)) (fun q1 I1 hI1 => .inl ⟨rfl, _, .refl _, ?_⟩) (fun q1 I1 hI1 => .inr ⟨_, rfl, _, .refl _, ?_⟩)
  · have hf := errB_zero (by decide) q1
    rw [hf, Bool.true_and]
    unfold Px.beginB
    rw [Nd.px_kind, Nd.px_oper]
    have hk1 : (t.kind == 1) = decide (t.kind = 1) := rfl
    refine ⟨fun h5 => ⟨fun h1 => ?_, fun h1 => ?_⟩, fun h5 => ?_⟩
    · have h5 : t.kind = 5 := by simpa using h5
      have h1 : t.oper = 1 := by simpa using h1
      have hlen : t.kids.length = 1 := by
        have := Px.formed_eq t.px
        rw [hf] at this
        have h2 := (Bool.and_eq_true _ _ ▸ this.symm).1
        unfold Px.oneB at h2
        simp only [Bool.and_eq_true, decide_eq_true_eq] at h2
        have h3 := h2.2
        unfold Px.arity at h3
        rw [Nd.px_kind, if_pos (.inl h5), Nd.px_len] at h3
        exact h3
      obtain ⟨ad, x, had, hx, hrd, hxo, hxm⟩ := ((ht.mono hI1 fun _ h => h).cons (x := (b_n, Obj.cells #[.int .u8 t.kind, .int .u8 t.oper, .int .u8 t.typ, .int .i64 t.n, .int .u8 t.field, .string t.name, .slice t.a t.kids.length t.c, .int .i64 t.pos] 55 (0, 0)))).kids.at (i := 0) (by decide) (by omega)
      have hks : t.px.kids = [x.px] := by
        rw [Nd.px_kids]
        match hk : t.kids with
        | [y] => rw [hk] at hx; simp at hx; rw [hx]; rfl
        | [] => rw [hk] at hlen; simp at hlen
        | y :: z :: r => rw [hk] at hlen; simp at hlen
      rw [if_pos ⟨h5, h1⟩, hks]
      simp only
      rw [Nd.px_kind, Nd.px_typ]
      refine ⟨⟨by omega, by omega⟩, ad, had, _, _, _, _, _, _, _, _, _, _, hrd, fun hk => ?_, fun hk => ?_⟩
      · have hk' : x.kind = 1 := by simpa using hk
        refine Errs.use (must_errs _ (by decide) I1 _) (fun q2 I2 hI2 => .inl ⟨rfl, _, .refl _, ?_⟩) (fun q2 I2 hI2 => .inr ⟨_, rfl, _, .refl _, ?_⟩)
        · have := errB_zero (by decide) q2
          have h2 : decide (x.kind = 1 ∧ x.typ ≤ 4) = true := decide_eq_true ⟨hk', of_decide_eq_true this⟩
          rw [h2, hk]
          refine Errs.use (must_errs _ (by decide) I2 _) (fun q3 I3 hI3 => .inl ⟨rfl, _, .refl _, ?_⟩) (fun q3 I3 hI3 => .inr ⟨_, rfl, _, .refl _, ?_⟩)
          · exact .done rfl
          · exact absurd rfl q3
        · have h2 : decide (x.kind = 1 ∧ x.typ ≤ 4) = false := decide_eq_false fun h => by
            have := (errB_ne q2).1; rw [decide_eq_true h.2] at this; cases this
          rw [h2]
          exact .fail1 (errB_ne q2).2.symm q2
      · have hk' : x.kind ≠ 1 := by simpa using hk
        have h2 : decide (x.kind = 1 ∧ x.typ ≤ 4) = false := decide_eq_false fun h => hk' h.1
        rw [h2]
        refine Errs.use (must_errs _ (by decide) I1 _) (fun q2 I2 hI2 => .inl ⟨rfl, _, .refl _, ?_⟩) (fun q2 I2 hI2 => .inr ⟨_, rfl, _, .refl _, ?_⟩)
        · cases q2
        · exact .fail1 rfl q2
    · have h1 : t.oper ≠ 1 := by simpa using h1
      rw [if_neg fun h => h1 h.2, ← hk1]
      refine Errs.use (must_errs _ (by decide) I1 _) (fun q2 I2 hI2 => .inl ⟨rfl, _, .refl _, ?_⟩) (fun q2 I2 hI2 => .inr ⟨_, rfl, _, .refl _, ?_⟩)
      · exact .done q2
      · exact .fail1 rfl q2
    · have h5 : t.kind ≠ 5 := by simpa using h5
      rw [if_neg fun h => h5 h.1, ← hk1]
      refine Errs.use (must_errs _ (by decide) I1 _) (fun q2 I2 hI2 => .inl ⟨rfl, _, .refl _, ?_⟩) (fun q2 I2 hI2 => .inr ⟨_, rfl, _, .refl _, ?_⟩)
      · exact .done q2
      · exact .fail1 rfl q2
  · exact .fail1 (by rw [(errB_ne q1).1]; rfl) q1
end Go.Lx
namespace Go.Lx
open Go.Vc
def Small (l : List Px) : Prop := ∀ x ∈ l, x.size ≤ 1048576
theorem str_empty (s : ByteArray) : (s.toList == (⟨#[]⟩ : ByteArray).toList) = (s.toList == []) := by rw [empty_list]
theorem do_spec (d : DoN) (hs : Small d.p.nds) (I : Imm) (F : Heap) (hd : d.Ok I F) : Tri P 91 #[d.v] I F (Errs d.p.check F) := by
  have hs1 := hs d.side.px (by simp [DoP.nds, DoN.p])
  have hs2 := hs d.qty.px (by simp [DoP.nds, DoN.p])
  have hs3 := hs d.price.px (by simp [DoP.nds, DoN.p])
  have hs4 := hs d.value.px (by simp [DoP.nds, DoN.p])
  have hn : d.p.check = thenE (errB d.p.kindB 120) (thenE (errB d.p.orderB 120) (thenE (errB d.p.nameB 120) (thenE (partE (decide (d.kind = 1)) d.side.px) (thenE (partE (decide (d.kind = 1 ∨ d.kind = 2)) d.qty.px)
    (thenE (partE (decide (d.kind = 1 ∧ d.order ≠ 2 ∨ d.kind = 2)) d.price.px) (partE (decide (d.kind = 4)) d.value.px)))))) := rfl
  refine tree_do.vc (fun I' F' => Imm.le I I' ∧ F' = F ∧ d.p.check = thenE (errB d.p.orderB 120) (thenE (errB d.p.nameB 120) (thenE (partE (decide (d.kind = 1)) d.side.px) (thenE (partE (decide (d.kind = 1 ∨ d.kind = 2)) d.qty.px)
    (thenE (partE (decide (d.kind = 1 ∧ d.order ≠ 2 ∨ d.kind = 2)) d.price.px) (partE (decide (d.kind = 4)) d.value.px))))))
    (fun I' F' => Imm.le I I' ∧ F' = F ∧ d.p.check = thenE (errB d.p.nameB 120) (thenE (partE (decide (d.kind = 1)) d.side.px) (thenE (partE (decide (d.kind = 1 ∨ d.kind = 2)) d.qty.px)
    (thenE (partE (decide (d.kind = 1 ∧ d.order ≠ 2 ∨ d.kind = 2)) d.price.px) (partE (decide (d.kind = 4)) d.value.px)))))
    (fun I' F' => Imm.le I I' ∧ F' = F ∧ d.p.check = (thenE (partE (decide (d.kind = 1)) d.side.px) (thenE (partE (decide (d.kind = 1 ∨ d.kind = 2)) d.qty.px)
    (thenE (partE (decide (d.kind = 1 ∧ d.order ≠ 2 ∨ d.kind = 2)) d.price.px) (partE (decide (d.kind = 4)) d.value.px)))))
    (fun I' F' => Imm.le I I' ∧ F' = F ∧ d.p.check = ((thenE (partE (decide (d.kind = 1 ∨ d.kind = 2)) d.qty.px)
    (thenE (partE (decide (d.kind = 1 ∧ d.order ≠ 2 ∨ d.kind = 2)) d.price.px) (partE (decide (d.kind = 4)) d.value.px)))))
    (fun I' F' => Imm.le I I' ∧ F' = F ∧ d.p.check = ((thenE (partE (decide (d.kind = 1 ∧ d.order ≠ 2 ∨ d.kind = 2)) d.price.px) (partE (decide (d.kind = 4)) d.value.px))))
    (fun I' F' => Imm.le I I' ∧ F' = F ∧ d.p.check = partE (decide (d.kind = 4)) d.value.px) ?_
  unfold tree_do.V
  intro b_d
  have k1 : (d.kind == 1) = decide (d.kind = 1) := rfl
  have k2 : (d.kind == 2) = decide (d.kind = 2) := rfl
  have k4 : (d.kind == 4) = decide (d.kind = 4) := rfl
  refine ⟨⟨fun h => ?_, fun h => ?_⟩, fun I1 F1 hI1 ⟨hl1, hF1, hc1⟩ => ?_⟩
  · have e : d.p.kindB = decide (d.kind ≤ 6) := by
      have h := of_decide_eq_true h
      unfold DoP.kindB; rw [Bool.eq_iff_iff]; simp only [decide_eq_true_eq]; exact ⟨fun h => h.2, fun h' => ⟨h, h'⟩⟩
    rw [e] at hn
    refine Errs.use (must_errs _ (by decide) I _) (fun q2 I2 hI2 => .inl ⟨rfl, _, .refl _, ?_⟩) (fun q2 I2 hI2 => .inr ⟨_, rfl, _, .refl _, ?_⟩)
    · rw [q2, thenE_zero] at hn
      exact ⟨hI2, rfl, hn⟩
    · exact .fail hn q2
  · have e : d.p.kindB = false := by
      have h := of_decide_eq_false h
      exact decide_eq_false fun h' => h h'.1
    rw [e] at hn
    refine Errs.use (must_errs _ (by decide) I _) (fun q2 I2 hI2 => .inl ⟨rfl, _, .refl _, ?_⟩) (fun q2 I2 hI2 => .inr ⟨_, rfl, _, .refl _, ?_⟩)
    · cases q2
    · exact .fail hn q2
  subst hF1
  clear hn
  refine ⟨?_, fun I2 F2 hI2 ⟨hl2, hF2, hc2⟩ => ?_⟩
  · have key : ∀ b : Bool, b = d.p.orderB → Tri P 32 #[.bool b, .int .i64 120] I1 ((b_d, Obj.cells #[.int .u8 d.kind, .int .u8 d.order, .string d.name, .int .u8 d.side.kind, .int .u8 d.side.oper, .int .u8 d.side.typ, .int .i64 d.side.n, .int .u8 d.side.field, .string d.side.name, .slice d.side.a d.side.kids.length d.side.c, .int .i64 d.side.pos, .int .u8 d.qty.kind, .int .u8 d.qty.oper, .int .u8 d.qty.typ, .int .i64 d.qty.n, .int .u8 d.qty.field, .string d.qty.name, .slice d.qty.a d.qty.kids.length d.qty.c, .int .i64 d.qty.pos, .int .u8 d.price.kind, .int .u8 d.price.oper, .int .u8 d.price.typ, .int .i64 d.price.n, .int .u8 d.price.field, .string d.price.name, .slice d.price.a d.price.kids.length d.price.c, .int .i64 d.price.pos, .int .u8 d.value.kind, .int .u8 d.value.oper, .int .u8 d.value.typ, .int .i64 d.value.n, .int .u8 d.value.field, .string d.value.name, .slice d.value.a d.value.kids.length d.value.c, .int .i64 d.value.pos, .int .i64 d.pos] 89 (0, 0)) :: F1) fun e1 I2 G1 => (e1 = .returned (.tuple #[]) ∧ ∃ F1' : Heap, List.Perm G1 ((b_d, Obj.cells #[.int .u8 d.kind, .int .u8 d.order, .string d.name, .int .u8 d.side.kind, .int .u8 d.side.oper, .int .u8 d.side.typ, .int .i64 d.side.n, .int .u8 d.side.field, .string d.side.name, .slice d.side.a d.side.kids.length d.side.c, .int .i64 d.side.pos, .int .u8 d.qty.kind, .int .u8 d.qty.oper, .int .u8 d.qty.typ, .int .i64 d.qty.n, .int .u8 d.qty.field, .string d.qty.name, .slice d.qty.a d.qty.kids.length d.qty.c, .int .i64 d.qty.pos, .int .u8 d.price.kind, .int .u8 d.price.oper, .int .u8 d.price.typ, .int .i64 d.price.n, .int .u8 d.price.field, .string d.price.name, .slice d.price.a d.price.kids.length d.price.c, .int .i64 d.price.pos, .int .u8 d.value.kind, .int .u8 d.value.oper, .int .u8 d.value.typ, .int .i64 d.value.n, .int .u8 d.value.field, .string d.value.name, .slice d.value.a d.value.kids.length d.value.c, .int .i64 d.value.pos, .int .i64 d.pos] 89 (0, 0)) :: F1') ∧ (Imm.le I I2 ∧ F1' = F1 ∧ d.p.check = thenE (errB d.p.nameB 120) (thenE (partE (decide (d.kind = 1)) d.side.px) (thenE (partE (decide (d.kind = 1 ∨ d.kind = 2)) d.qty.px)
        (thenE (partE (decide (d.kind = 1 ∧ d.order ≠ 2 ∨ d.kind = 2)) d.price.px) (partE (decide (d.kind = 4)) d.value.px)))))) ∨ (∃ ch : List PanicEntry, e1 = .panicked ch ∧ ∃ F2 : Heap, List.Perm G1 ((b_d, Obj.cells #[.int .u8 d.kind, .int .u8 d.order, .string d.name, .int .u8 d.side.kind, .int .u8 d.side.oper, .int .u8 d.side.typ, .int .i64 d.side.n, .int .u8 d.side.field, .string d.side.name, .slice d.side.a d.side.kids.length d.side.c, .int .i64 d.side.pos, .int .u8 d.qty.kind, .int .u8 d.qty.oper, .int .u8 d.qty.typ, .int .i64 d.qty.n, .int .u8 d.qty.field, .string d.qty.name, .slice d.qty.a d.qty.kids.length d.qty.c, .int .i64 d.qty.pos, .int .u8 d.price.kind, .int .u8 d.price.oper, .int .u8 d.price.typ, .int .i64 d.price.n, .int .u8 d.price.field, .string d.price.name, .slice d.price.a d.price.kids.length d.price.c, .int .i64 d.price.pos, .int .u8 d.value.kind, .int .u8 d.value.oper, .int .u8 d.value.typ, .int .i64 d.value.n, .int .u8 d.value.field, .string d.value.name, .slice d.value.a d.value.kids.length d.value.c, .int .i64 d.value.pos, .int .i64 d.pos] 89 (0, 0)) :: F2) ∧ Errs d.p.check F1 (.panicked ch) I2 F2) := fun b hb => by
      subst hb
      refine Errs.use (must_errs _ (by decide) I1 _) (fun q2 I2 hI2 => .inl ⟨rfl, _, .refl _, ?_⟩) (fun q2 I2 hI2 => .inr ⟨_, rfl, _, .refl _, ?_⟩)
      · rw [q2, thenE_zero] at hc1
        exact ⟨Imm.le_trans hl1 hI2, rfl, hc1⟩
      · exact .fail hc1 q2
    have eo : d.p.orderB = decide (d.kind = 1 ∧ 1 ≤ d.order ∧ d.order ≤ 5 ∨ d.kind ≠ 1 ∧ d.order = 0) := rfl
    refine ⟨fun h => ⟨fun h2 => ⟨fun h3 => key _ ?_, fun h3 => ⟨fun h4 => key _ ?_, fun h4 => key _ ?_⟩⟩, fun h2 => ⟨fun h4 => key _ ?_, fun h4 => key _ ?_⟩⟩, fun h => ⟨fun h4 => key _ ?_, fun h4 => key _ ?_⟩⟩
    all_goals
      rw [eo, Bool.eq_iff_iff]
      simp only [decide_eq_true_eq, decide_eq_false_iff_not, beq_iff_eq, beq_eq_false_iff_ne, Bool.not_eq_true', Bool.not_eq_false', iff_true, true_iff, false_iff, Bool.false_eq_true] at *
      omega
  subst hF2
  clear hc1
  have en : d.p.nameB = if d.kind = 6 then d.name.toList == [] else if d.kind ≠ 1 ∨ d.name.toList ≠ [] then Lx.nameB d.name else true := rfl
  refine ⟨⟨fun h => ?_, fun h => ⟨fun h2 => ?_, fun h2 => ⟨fun h3 => ?_, fun h3 => ?_⟩⟩⟩, fun I3 F3 hI3 ⟨hl3, hF3, hc3⟩ => ?_⟩
  · have h : d.kind = 6 := by simpa using h
    rw [if_pos h] at en
    rw [str_empty, ← en]
    refine Errs.use (must_errs _ (by decide) I2 _) (fun q3 I3 hI3 => .inl ⟨rfl, _, .refl _, ?_⟩) (fun q3 I3 hI3 => .inr ⟨_, rfl, _, .refl _, ?_⟩)
    · rw [q3, thenE_zero] at hc2; exact ⟨Imm.le_trans hl2 hI3, rfl, hc2⟩
    · exact .fail hc2 q3
  · have h : d.kind ≠ 6 := by simpa using h
    have h2 : d.kind ≠ 1 := by simpa using h2
    rw [if_neg h, if_pos (.inl h2)] at en
    refine Errs.use (named_spec d.name I2 _) (fun q3 I3 hI3 => .inl ⟨rfl, _, .refl _, ?_⟩) (fun q3 I3 hI3 => .inr ⟨_, rfl, _, .refl _, ?_⟩)
    · rw [en, q3, thenE_zero] at hc2; exact ⟨Imm.le_trans hl2 hI3, rfl, hc2⟩
    · rw [en] at hc2; exact .fail hc2 q3
  · have h : d.kind ≠ 6 := by simpa using h
    rw [str_empty] at h3
    rw [if_neg h, if_pos (.inr (by simpa using h3))] at en
    refine Errs.use (named_spec d.name I2 _) (fun q3 I3 hI3 => .inl ⟨rfl, _, .refl _, ?_⟩) (fun q3 I3 hI3 => .inr ⟨_, rfl, _, .refl _, ?_⟩)
    · rw [en, q3, thenE_zero] at hc2; exact ⟨Imm.le_trans hl2 hI3, rfl, hc2⟩
    · rw [en] at hc2; exact .fail hc2 q3
  · have h : d.kind ≠ 6 := by simpa using h
    have h2 : d.kind = 1 := by simpa using h2
    rw [str_empty] at h3
    have h3 : d.name.toList = [] := by simpa using h3
    rw [if_neg h, if_neg (by simp [h2, h3])] at en
    rw [en] at hc2
    exact ⟨hl2, rfl, hc2⟩
  subst hF3
  clear hc2 en
  have ok : ∀ {J : Imm}, Imm.le I J → d.Ok J ((b_d, Obj.cells #[.int .u8 d.kind, .int .u8 d.order, .string d.name, .int .u8 d.side.kind, .int .u8 d.side.oper, .int .u8 d.side.typ, .int .i64 d.side.n, .int .u8 d.side.field, .string d.side.name, .slice d.side.a d.side.kids.length d.side.c, .int .i64 d.side.pos, .int .u8 d.qty.kind, .int .u8 d.qty.oper, .int .u8 d.qty.typ, .int .i64 d.qty.n, .int .u8 d.qty.field, .string d.qty.name, .slice d.qty.a d.qty.kids.length d.qty.c, .int .i64 d.qty.pos, .int .u8 d.price.kind, .int .u8 d.price.oper, .int .u8 d.price.typ, .int .i64 d.price.n, .int .u8 d.price.field, .string d.price.name, .slice d.price.a d.price.kids.length d.price.c, .int .i64 d.price.pos, .int .u8 d.value.kind, .int .u8 d.value.oper, .int .u8 d.value.typ, .int .i64 d.value.n, .int .u8 d.value.field, .string d.value.name, .slice d.value.a d.value.kids.length d.value.c, .int .i64 d.value.pos, .int .i64 d.pos] 89 (0, 0)) :: F3) := fun hJ => (hd.mono hJ fun _ h => h).cons
  refine ⟨?_, fun I4 F4 hI4 ⟨hl4, hF4, hc4⟩ => ?_⟩
  · rw [k1]
    refine Errs.use (part_spec _ d.side hs1 I3 _ (ok hl3).1) (fun q4 I4 hI4 => .inl ⟨rfl, _, .refl _, ?_⟩) (fun q4 I4 hI4 => .inr ⟨_, rfl, _, .refl _, ?_⟩)
    · rw [q4, thenE_zero] at hc3; exact ⟨Imm.le_trans hl3 hI4, rfl, hc3⟩
    · exact .fail hc3 q4
  subst hF4
  refine ⟨?_, fun I5 F5 hI5 ⟨hl5, hF5, hc5⟩ => ?_⟩
  · have key : ∀ b : Bool, b = decide (d.kind = 1 ∨ d.kind = 2) → Tri P 108 #[.bool b, d.qty.v] I4 ((b_d, Obj.cells #[.int .u8 d.kind, .int .u8 d.order, .string d.name, .int .u8 d.side.kind, .int .u8 d.side.oper, .int .u8 d.side.typ, .int .i64 d.side.n, .int .u8 d.side.field, .string d.side.name, .slice d.side.a d.side.kids.length d.side.c, .int .i64 d.side.pos, .int .u8 d.qty.kind, .int .u8 d.qty.oper, .int .u8 d.qty.typ, .int .i64 d.qty.n, .int .u8 d.qty.field, .string d.qty.name, .slice d.qty.a d.qty.kids.length d.qty.c, .int .i64 d.qty.pos, .int .u8 d.price.kind, .int .u8 d.price.oper, .int .u8 d.price.typ, .int .i64 d.price.n, .int .u8 d.price.field, .string d.price.name, .slice d.price.a d.price.kids.length d.price.c, .int .i64 d.price.pos, .int .u8 d.value.kind, .int .u8 d.value.oper, .int .u8 d.value.typ, .int .i64 d.value.n, .int .u8 d.value.field, .string d.value.name, .slice d.value.a d.value.kids.length d.value.c, .int .i64 d.value.pos, .int .i64 d.pos] 89 (0, 0)) :: F4) fun e1 I2 G1 => (e1 = .returned (.tuple #[]) ∧ ∃ F1' : Heap, List.Perm G1 ((b_d, Obj.cells #[.int .u8 d.kind, .int .u8 d.order, .string d.name, .int .u8 d.side.kind, .int .u8 d.side.oper, .int .u8 d.side.typ, .int .i64 d.side.n, .int .u8 d.side.field, .string d.side.name, .slice d.side.a d.side.kids.length d.side.c, .int .i64 d.side.pos, .int .u8 d.qty.kind, .int .u8 d.qty.oper, .int .u8 d.qty.typ, .int .i64 d.qty.n, .int .u8 d.qty.field, .string d.qty.name, .slice d.qty.a d.qty.kids.length d.qty.c, .int .i64 d.qty.pos, .int .u8 d.price.kind, .int .u8 d.price.oper, .int .u8 d.price.typ, .int .i64 d.price.n, .int .u8 d.price.field, .string d.price.name, .slice d.price.a d.price.kids.length d.price.c, .int .i64 d.price.pos, .int .u8 d.value.kind, .int .u8 d.value.oper, .int .u8 d.value.typ, .int .i64 d.value.n, .int .u8 d.value.field, .string d.value.name, .slice d.value.a d.value.kids.length d.value.c, .int .i64 d.value.pos, .int .i64 d.pos] 89 (0, 0)) :: F1') ∧ (Imm.le I I2 ∧ F1' = F4 ∧ d.p.check = 
        (thenE (partE (decide (d.kind = 1 ∧ d.order ≠ 2 ∨ d.kind = 2)) d.price.px) (partE (decide (d.kind = 4)) d.value.px)))) ∨ (∃ ch : List PanicEntry, e1 = .panicked ch ∧ ∃ F2 : Heap, List.Perm G1 ((b_d, Obj.cells #[.int .u8 d.kind, .int .u8 d.order, .string d.name, .int .u8 d.side.kind, .int .u8 d.side.oper, .int .u8 d.side.typ, .int .i64 d.side.n, .int .u8 d.side.field, .string d.side.name, .slice d.side.a d.side.kids.length d.side.c, .int .i64 d.side.pos, .int .u8 d.qty.kind, .int .u8 d.qty.oper, .int .u8 d.qty.typ, .int .i64 d.qty.n, .int .u8 d.qty.field, .string d.qty.name, .slice d.qty.a d.qty.kids.length d.qty.c, .int .i64 d.qty.pos, .int .u8 d.price.kind, .int .u8 d.price.oper, .int .u8 d.price.typ, .int .i64 d.price.n, .int .u8 d.price.field, .string d.price.name, .slice d.price.a d.price.kids.length d.price.c, .int .i64 d.price.pos, .int .u8 d.value.kind, .int .u8 d.value.oper, .int .u8 d.value.typ, .int .i64 d.value.n, .int .u8 d.value.field, .string d.value.name, .slice d.value.a d.value.kids.length d.value.c, .int .i64 d.value.pos, .int .i64 d.pos] 89 (0, 0)) :: F2) ∧ Errs d.p.check F4 (.panicked ch) I2 F2) := fun b hb => by
      subst hb
      refine Errs.use (part_spec _ d.qty hs2 I4 _ (ok hl4).2.1) (fun q5 I5 hI5 => .inl ⟨rfl, _, .refl _, ?_⟩) (fun q5 I5 hI5 => .inr ⟨_, rfl, _, .refl _, ?_⟩)
      · rw [q5, thenE_zero] at hc4; exact ⟨Imm.le_trans hl4 hI5, rfl, hc4⟩
      · exact .fail hc4 q5
    refine ⟨fun h => key _ ?_, fun h => key _ ?_⟩
    · simp only [beq_iff_eq] at h; simp [h]
    · simp only [beq_eq_false_iff_ne] at h; rw [Bool.eq_iff_iff]; simp [h]
  subst hF5
  refine ⟨?_, fun I6 F6 hI6 ⟨hl6, hF6, hc6⟩ => ?_⟩
  · have key : ∀ b : Bool, b = decide (d.kind = 1 ∧ d.order ≠ 2 ∨ d.kind = 2) → Tri P 108 #[.bool b, d.price.v] I5 ((b_d, Obj.cells #[.int .u8 d.kind, .int .u8 d.order, .string d.name, .int .u8 d.side.kind, .int .u8 d.side.oper, .int .u8 d.side.typ, .int .i64 d.side.n, .int .u8 d.side.field, .string d.side.name, .slice d.side.a d.side.kids.length d.side.c, .int .i64 d.side.pos, .int .u8 d.qty.kind, .int .u8 d.qty.oper, .int .u8 d.qty.typ, .int .i64 d.qty.n, .int .u8 d.qty.field, .string d.qty.name, .slice d.qty.a d.qty.kids.length d.qty.c, .int .i64 d.qty.pos, .int .u8 d.price.kind, .int .u8 d.price.oper, .int .u8 d.price.typ, .int .i64 d.price.n, .int .u8 d.price.field, .string d.price.name, .slice d.price.a d.price.kids.length d.price.c, .int .i64 d.price.pos, .int .u8 d.value.kind, .int .u8 d.value.oper, .int .u8 d.value.typ, .int .i64 d.value.n, .int .u8 d.value.field, .string d.value.name, .slice d.value.a d.value.kids.length d.value.c, .int .i64 d.value.pos, .int .i64 d.pos] 89 (0, 0)) :: F5) fun e1 I2 G1 => (e1 = .returned (.tuple #[]) ∧ ∃ F1' : Heap, List.Perm G1 ((b_d, Obj.cells #[.int .u8 d.kind, .int .u8 d.order, .string d.name, .int .u8 d.side.kind, .int .u8 d.side.oper, .int .u8 d.side.typ, .int .i64 d.side.n, .int .u8 d.side.field, .string d.side.name, .slice d.side.a d.side.kids.length d.side.c, .int .i64 d.side.pos, .int .u8 d.qty.kind, .int .u8 d.qty.oper, .int .u8 d.qty.typ, .int .i64 d.qty.n, .int .u8 d.qty.field, .string d.qty.name, .slice d.qty.a d.qty.kids.length d.qty.c, .int .i64 d.qty.pos, .int .u8 d.price.kind, .int .u8 d.price.oper, .int .u8 d.price.typ, .int .i64 d.price.n, .int .u8 d.price.field, .string d.price.name, .slice d.price.a d.price.kids.length d.price.c, .int .i64 d.price.pos, .int .u8 d.value.kind, .int .u8 d.value.oper, .int .u8 d.value.typ, .int .i64 d.value.n, .int .u8 d.value.field, .string d.value.name, .slice d.value.a d.value.kids.length d.value.c, .int .i64 d.value.pos, .int .i64 d.pos] 89 (0, 0)) :: F1') ∧ (Imm.le I I2 ∧ F1' = F5 ∧ d.p.check = 
        partE (decide (d.kind = 4)) d.value.px)) ∨ (∃ ch : List PanicEntry, e1 = .panicked ch ∧ ∃ F2 : Heap, List.Perm G1 ((b_d, Obj.cells #[.int .u8 d.kind, .int .u8 d.order, .string d.name, .int .u8 d.side.kind, .int .u8 d.side.oper, .int .u8 d.side.typ, .int .i64 d.side.n, .int .u8 d.side.field, .string d.side.name, .slice d.side.a d.side.kids.length d.side.c, .int .i64 d.side.pos, .int .u8 d.qty.kind, .int .u8 d.qty.oper, .int .u8 d.qty.typ, .int .i64 d.qty.n, .int .u8 d.qty.field, .string d.qty.name, .slice d.qty.a d.qty.kids.length d.qty.c, .int .i64 d.qty.pos, .int .u8 d.price.kind, .int .u8 d.price.oper, .int .u8 d.price.typ, .int .i64 d.price.n, .int .u8 d.price.field, .string d.price.name, .slice d.price.a d.price.kids.length d.price.c, .int .i64 d.price.pos, .int .u8 d.value.kind, .int .u8 d.value.oper, .int .u8 d.value.typ, .int .i64 d.value.n, .int .u8 d.value.field, .string d.value.name, .slice d.value.a d.value.kids.length d.value.c, .int .i64 d.value.pos, .int .i64 d.pos] 89 (0, 0)) :: F2) ∧ Errs d.p.check F5 (.panicked ch) I2 F2) := fun b hb => by
      subst hb
      refine Errs.use (part_spec _ d.price hs3 I5 _ (ok hl5).2.2.1) (fun q6 I6 hI6 => .inl ⟨rfl, _, .refl _, ?_⟩) (fun q6 I6 hI6 => .inr ⟨_, rfl, _, .refl _, ?_⟩)
      · rw [q6, thenE_zero] at hc5; exact ⟨Imm.le_trans hl5 hI6, rfl, hc5⟩
      · exact .fail hc5 q6
    refine ⟨fun h => ⟨fun h2 => key _ ?_, fun h2 => key _ ?_⟩, fun h => key _ ?_⟩
    all_goals simp only [beq_iff_eq, beq_eq_false_iff_ne, bne_iff_ne, bne_eq_false_iff_eq] at *
    · simp [h, h2]
    · rw [Bool.eq_iff_iff]; simp [h, h2]
    · rw [Bool.eq_iff_iff]; simp [h]
  subst hF6
  rw [k4]
  refine Errs.use (part_spec _ d.value hs4 I6 _ (ok hl6).2.2.2) (fun q7 I7 hI7 => .inl ⟨rfl, _, .refl _, ?_⟩) (fun q7 I7 hI7 => .inr ⟨_, rfl, _, .refl _, ?_⟩)
  · rw [q7] at hc6; exact .done hc6
  · exact .fail1 hc6 q7
end Go.Lx
namespace Go.Lx
open Go.Vc
theorem firstE_map {α β : Type} (f : β → Int) (g : α → β) {l : List α} {i : Nat} {x : α} (h : l[i]? = some x) : firstE f ((l.drop i).map g) = thenE (f (g x)) (firstE f ((l.drop (i + 1)).map g)) := by
  obtain ⟨hk, rfl⟩ := List.getElem?_eq_some_iff.1 h
  rw [List.drop_eq_getElem_cons hk, List.map_cons, firstE]
theorem firstE_end {α β : Type} (f : β → Int) (g : α → β) {l : List α} {i : Nat} (h : l.length ≤ i) : firstE f ((l.drop i).map g) = 0 := by rw [List.drop_eq_nil_of_le h]; rfl
theorem SlG.atm {α : Type} {I : Imm} {G : Heap} {z : Nat} {f : α → List Value} {a : Option Addr} {n : Nat} {l : List α} (h : SlG I G z f a n l) {i : Int} (h0 : 0 ≤ i) (h1 : i < n) :
    ∃ ad x, a = some ad ∧ l[i.toNat]? = some x ∧ Rd I G (ad.add (Int.toNat i * z)) (f x) ∧ x ∈ l := by
  obtain ⟨ad, x, g1, g2, g3⟩ := h.at h0 h1
  exact ⟨ad, x, g1, g2, g3, List.mem_of_getElem? g2⟩
theorem rule_spec (r : RuleN) (hs : Small r.p.nds) (I : Imm) (F : Heap) (hr : r.Ok I F) (hlen : r.dos.length ≤ 1000000000) : Tri P 34 #[r.v] I F (Errs r.p.check F) := by
  have hsw := hs r.when.px (by simp [RuleP.nds, RuleN.p])
  have hsd : ∀ d ∈ r.dos, Small d.p.nds := fun d hd x hx => hs x (by
    simp only [RuleP.nds, RuleN.p, List.mem_cons, List.mem_flatMap, List.mem_map]
    exact .inr ⟨_, ⟨d, hd, rfl⟩, hx⟩)
  have hc : r.p.check = thenE r.when.px.checkE (thenE (errB (decide (0 < r.dos.length)) 120) (thenE (errB (decide (r.dos.length ≤ 8)) 121) (firstE DoP.check (r.dos.map DoN.p)))) := by
    show thenE _ (thenE (errB (decide (0 < (r.dos.map DoN.p).length)) 120) (thenE (errB (decide ((r.dos.map DoN.p).length ≤ 8)) 121) _)) = _
    rw [List.length_map]; rfl
  refine tree_rule.vc (fun i m I' F' => 0 ≤ i ∧ i ≤ r.dos.length ∧ m = (r.dos.length - i).toNat ∧ Imm.le I I' ∧ F' = F ∧ r.p.check = firstE DoP.check ((r.dos.drop i.toNat).map DoN.p)) ?_
  unfold tree_rule.V
  intro b_r
  refine Errs.use (expr_spec r.when hsw I _ hr.1.cons) (fun q1 I1 hI1 => .inl ⟨rfl, _, .refl _, ?_⟩) (fun q1 I1 hI1 => .inr ⟨_, rfl, _, .refl _, ?_⟩)
  · rw [q1, thenE_zero] at hc
    have e1 : decide (((r.dos.length : Nat) : Int) > 0) = decide (0 < r.dos.length) := by rw [Bool.eq_iff_iff]; simp only [decide_eq_true_eq]; omega
    have e2 : decide (((r.dos.length : Nat) : Int) ≤ 8) = decide (r.dos.length ≤ 8) := by rw [Bool.eq_iff_iff]; simp only [decide_eq_true_eq]; omega
    rw [e1, e2]
    refine Errs.use (must_errs _ (by decide) I1 _) (fun q2 I2 hI2 => .inl ⟨rfl, _, .refl _, ?_⟩) (fun q2 I2 hI2 => .inr ⟨_, rfl, _, .refl _, ?_⟩)
    · rw [q2, thenE_zero] at hc
      refine Errs.use (must_errs _ (by decide) I2 _) (fun q3 I3 hI3 => .inl ⟨rfl, _, .refl _, ?_⟩) (fun q3 I3 hI3 => .inr ⟨_, rfl, _, .refl _, ?_⟩)
      · rw [q3, thenE_zero] at hc
        refine ⟨⟨_, by omega, by omega, rfl, Imm.le_trans hI1 (Imm.le_trans hI2 hI3), rfl, hc⟩, fun i m I4 F4 hI4 ⟨g0, g1, gm, hl, hF, gc⟩ => ⟨fun hlt => ?_, fun hlt => ?_⟩⟩
        · have hlt := of_decide_eq_true hlt
          subst hF
          have hr4 := (hr.mono hl fun _ h => h).cons (x := (b_r, Obj.cells #[.int .u8 r.when.kind, .int .u8 r.when.oper, .int .u8 r.when.typ, .int .i64 r.when.n, .int .u8 r.when.field, .string r.when.name, .slice r.when.a r.when.kids.length r.when.c, .int .i64 r.when.pos, .slice r.a r.dos.length r.c, .int .i64 r.pos] 67 (0, 0)))
          obtain ⟨ad, d, had, hd, hrd, hdm⟩ := SlG.atm hr4.2.1 g0 hlt
          refine ⟨⟨g0, hlt⟩, ad, had, _, _, _, _, _, _, _, _, _, _, _, _, _, _, _, _, _, _, _, _, _, _, _, _, _, _, _, _, _, _, _, _, _, _, _, _, _, _, _, _, _, _, _, _, hrd, fun b_d => ?_⟩
          rw [firstE_map _ _ hd] at gc
          have hd4 : d.Ok I4 ((b_r, Obj.cells #[.int .u8 r.when.kind, .int .u8 r.when.oper, .int .u8 r.when.typ, .int .i64 r.when.n, .int .u8 r.when.field, .string r.when.name, .slice r.when.a r.when.kids.length r.when.c, .int .i64 r.when.pos, .slice r.a r.dos.length r.c, .int .i64 r.pos] 67 (0, 0)) :: (b_d, Obj.cells #[.int .u8 d.kind, .int .u8 d.order, .string d.name, .int .u8 d.side.kind, .int .u8 d.side.oper, .int .u8 d.side.typ, .int .i64 d.side.n, .int .u8 d.side.field, .string d.side.name, .slice d.side.a d.side.kids.length d.side.c, .int .i64 d.side.pos, .int .u8 d.qty.kind, .int .u8 d.qty.oper, .int .u8 d.qty.typ, .int .i64 d.qty.n, .int .u8 d.qty.field, .string d.qty.name, .slice d.qty.a d.qty.kids.length d.qty.c, .int .i64 d.qty.pos, .int .u8 d.price.kind, .int .u8 d.price.oper, .int .u8 d.price.typ, .int .i64 d.price.n, .int .u8 d.price.field, .string d.price.name, .slice d.price.a d.price.kids.length d.price.c, .int .i64 d.price.pos, .int .u8 d.value.kind, .int .u8 d.value.oper, .int .u8 d.value.typ, .int .i64 d.value.n, .int .u8 d.value.field, .string d.value.name, .slice d.value.a d.value.kids.length d.value.c, .int .i64 d.value.pos, .int .i64 d.pos] 89 (0, 0)) :: F4) := ((hr.2.2 d hdm).mono hl fun _ h => h).cons.cons
          refine Errs.use (do_spec d (hsd d hdm) I4 _ hd4) (fun q5 I5 hI5 => .inl ⟨rfl, _, .refl _, ?_⟩) (fun q5 I5 hI5 => .inr ⟨_, rfl, _, .refl _, ?_⟩)
          · rw [q5, thenE_zero] at gc
            refine ⟨(r.dos.length - (i + 1)).toNat, by omega, ?_⟩
            rw [w64 (n := i + 1) (by omega)]
            exact ⟨by omega, by omega, rfl, Imm.le_trans hl hI5, rfl, by rw [gc, show (i + 1).toNat = i.toNat + 1 by omega]⟩
          · exact .fail gc q5
        · have hlt := of_decide_eq_false hlt
          subst hF
          rw [firstE_end _ _ (by omega)] at gc
          exact .done gc
      · exact .fail hc q3
    · exact .fail hc q2
  · exact .fail hc q1
structure StgN.Lens (s : StgN) : Prop where
  regs : s.regs.length ≤ 1000000000
  slots : s.slots.length ≤ 1000000000
  states : s.states.length ≤ 1000000000
  rules : ∀ x ∈ s.states, x.rules.length ≤ 1000000000
  dos : ∀ x ∈ s.states, ∀ r ∈ x.rules, r.dos.length ≤ 1000000000
theorem check1S_spec (s : StgN) (hs : Small s.p.nds) (hl : s.Lens) (I : Imm) (F : Heap) (hok : s.Ok I F) {c : Addr} (hc : Rd I F c s.enc) : Tri P 30 #[.pointer (some c)] I F (Errs s.p.check F) := by
  have hsr : ∀ r ∈ s.regs, r.init.px.size ≤ 1048576 := fun r hr => hs _ (by
    simp only [StgP.nds, StgN.p, List.mem_append, List.mem_map]
    exact .inl ⟨_, ⟨r, hr, rfl⟩, rfl⟩)
  have hss : ∀ x ∈ s.states, ∀ r ∈ x.rules, Small r.p.nds := fun x hx r hr y hy => hs y (by
    simp only [StgP.nds, StgN.p, List.mem_append, List.mem_flatMap, List.mem_map]
    exact .inr ⟨_, ⟨x, hx, rfl⟩, _, by simp only [StateN.p, List.mem_map]; exact ⟨r, hr, rfl⟩, hy⟩)
  have hck : s.p.check = thenE (errB (nameB s.name) 120) (thenE (errB (decide (s.regs.length ≤ 12)) 121) (thenE (firstE RegP.check (s.regs.map RegN.p)) (thenE (errB (decide (s.slots.length ≤ 4)) 121) (thenE (firstE SlotP.check s.slots)
      (thenE (errB (decide (0 < s.states.length)) 120) (thenE (errB (decide (s.states.length ≤ 12)) 121) (firstE StateP.check (s.states.map StateN.p)))))))) := by
    show thenE _ (thenE (errB (decide ((s.regs.map RegN.p).length ≤ 12)) 121) (thenE _ (thenE _ (thenE _ (thenE (errB (decide (0 < (s.states.map StateN.p).length)) 120) (thenE (errB (decide ((s.states.map StateN.p).length ≤ 12)) 121) _)))))) = _
    rw [List.length_map, List.length_map]; rfl
  refine tree_Check_1.vc
    (fun i m _ _ I' F' => 0 ≤ i ∧ i ≤ s.regs.length ∧ m = (s.regs.length - i).toNat ∧ Imm.le I I' ∧ F' = F ∧ s.p.check = thenE (firstE RegP.check ((s.regs.drop i.toNat).map RegN.p)) (thenE (errB (decide (s.slots.length ≤ 4)) 121) (thenE (firstE SlotP.check s.slots)
      (thenE (errB (decide (0 < s.states.length)) 120) (thenE (errB (decide (s.states.length ≤ 12)) 121) (firstE StateP.check (s.states.map StateN.p)))))))
    (fun i m _ _ I' F' => 0 ≤ i ∧ i ≤ s.slots.length ∧ m = (s.slots.length - i).toNat ∧ Imm.le I I' ∧ F' = F ∧ s.p.check = thenE (firstE SlotP.check ((s.slots.drop i.toNat).map id))
      (thenE (errB (decide (0 < s.states.length)) 120) (thenE (errB (decide (s.states.length ≤ 12)) 121) (firstE StateP.check (s.states.map StateN.p)))))
    (fun i m _ _ I' F' => 0 ≤ i ∧ i ≤ s.states.length ∧ m = (s.states.length - i).toNat ∧ Imm.le I I' ∧ F' = F ∧ s.p.check = firstE StateP.check ((s.states.drop i.toNat).map StateN.p))
    (fun i j n _ _ I' F' => Imm.le I I' ∧ F' = F ∧ 0 ≤ j ∧ ∃ x : StateN, s.states[i.toNat]? = some x ∧ j ≤ x.rules.length ∧ n = (x.rules.length - j).toNat ∧ s.p.check = thenE (firstE RuleP.check ((x.rules.drop j.toNat).map RuleN.p)) (firstE StateP.check ((s.states.drop (i.toNat + 1)).map StateN.p))) ?_
  unfold tree_Check_1.V
  have rd : ∀ {J : Imm}, Imm.le I J → ∀ (o : Nat) (v : Value), s.enc[o]? = some v → Rd J F (c.add o) [v] := fun hJ o v hv => (hc.sub hJ fun _ h => h).field hv
  have ok : ∀ {J : Imm}, Imm.le I J → s.Ok J F := fun hJ => hok.mono hJ fun _ h => h
  have e12 : ∀ n : Nat, decide ((n : Int) ≤ 12) = decide (n ≤ 12) := fun n => by rw [Bool.eq_iff_iff]; simp only [decide_eq_true_eq]; omega
  have e4 : ∀ n : Nat, decide ((n : Int) ≤ 4) = decide (n ≤ 4) := fun n => by rw [Bool.eq_iff_iff]; simp only [decide_eq_true_eq]; omega
  have e0 : ∀ n : Nat, decide ((n : Int) > 0) = decide (0 < n) := fun n => by rw [Bool.eq_iff_iff]; simp only [decide_eq_true_eq]; omega
  have hlr := hl.regs
  have hls := hl.slots
  have hlt' := hl.states
  refine ⟨s.name, rd (Imm.le_refl I) 0 _ rfl, Errs.use (named_spec s.name I _) (fun q1 I1 hI1 => .inl ⟨rfl, _, .refl _, ?_⟩) (fun q1 I1 hI1 => .inr ⟨_, rfl, _, .refl _, ?_⟩)⟩
  case refine_2 => exact .fail hck q1
  rw [q1, thenE_zero] at hck
  refine ⟨_, _, _, rd hI1 1 _ rfl, ?_⟩
  rw [e12]
  refine Errs.use (must_errs _ (by decide) I1 _) (fun q2 I2 hI2 => .inl ⟨rfl, _, .refl _, ?_⟩) (fun q2 I2 hI2 => .inr ⟨_, rfl, _, .refl _, ?_⟩)
  case refine_2 => exact .fail hck q2
  rw [q2, thenE_zero] at hck
  have hl2 := Imm.le_trans hI1 hI2
  refine ⟨_, _, _, rd hl2 1 _ rfl, ⟨_, by omega, by omega, rfl, hl2, rfl, hck⟩, ?_⟩
  clear hck
  intro i m I3 F3 hI3 ⟨g0, g1, gm, hl3, hF3, gc⟩
  subst hF3
  refine ⟨fun hlt => ?_, fun hlt => ?_⟩
  · have hlt := of_decide_eq_true hlt
    obtain ⟨ad, r, had, hr, hrd, hrm⟩ := SlG.atm (ok hl3).regs g0 hlt
    rw [firstE_map _ _ hr, thenE_assoc] at gc
    have rc : r.p.check = errB (nameB r.name && (decide (1 ≤ r.typ ∧ r.typ ≤ 6) && (r.init.px.formed && r.init.px.beginB))) 120 := rfl
    refine ⟨⟨g0, hlt⟩, ad, had, _, _, _, _, _, _, _, _, _, _, _, _, _, hrd, fun b_r => Errs.use (named_spec r.name I3 _) (fun q4 I4 hI4 => .inl ⟨rfl, _, .refl _, ?_⟩) (fun q4 I4 hI4 => .inr ⟨_, rfl, _, .refl _, ?_⟩)⟩
    · have h4 := errB_zero (by decide) q4
      rw [h4, Bool.true_and] at rc
      have bad : (decide (1 ≤ r.typ ∧ r.typ ≤ 6)) = false → s.p.check = thenE 120 (thenE (firstE RegP.check ((s.regs.drop (i.toNat + 1)).map RegN.p)) (thenE (errB (decide (s.slots.length ≤ 4)) 121) (thenE (firstE SlotP.check s.slots)
          (thenE (errB (decide (0 < s.states.length)) 120) (thenE (errB (decide (s.states.length ≤ 12)) 121) (firstE StateP.check (s.states.map StateN.p))))))) := fun h => by
        rw [gc, rc, h]; rfl
      refine ⟨fun h1 => ?_, fun h1 => ?_⟩
      · have h1 := of_decide_eq_true h1
        refine Errs.use (must_errs _ (by decide) I4 _) (fun q5 I5 hI5 => .inl ⟨rfl, _, .refl _, ?_⟩) (fun q5 I5 hI5 => .inr ⟨_, rfl, _, .refl _, ?_⟩)
        · have h5 := of_decide_eq_true (errB_zero (by decide) q5)
          rw [decide_eq_true ⟨h1, h5⟩, Bool.true_and] at rc
          have hl5 := Imm.le_trans hl3 (Imm.le_trans hI4 hI5)
          refine Errs.use (begin_spec r.init (hsr r hrm) I5 _ (((ok hl5).reg r hrm : NdOk _ _ _).cons)) (fun q6 I6 hI6 => .inl ⟨rfl, _, .refl _, ?_⟩) (fun q6 I6 hI6 => .inr ⟨_, rfl, _, .refl _, ?_⟩)
          · rw [rc, q6, thenE_zero] at gc
            refine ⟨(s.regs.length - (i + 1)).toNat, by omega, ?_⟩
            rw [w64 (n := i + 1) (by omega)]
            exact ⟨by omega, by omega, rfl, Imm.le_trans hl5 hI6, rfl, by rw [gc, show (i + 1).toNat = i.toNat + 1 by omega]⟩
          · rw [rc] at gc; exact .fail gc q6
        · have h5 := (errB_ne q5).1
          have h6 := (errB_ne q5).2
          rw [h6] at q5 ⊢
          exact .fail (bad (decide_eq_false fun h => by rw [decide_eq_true h.2] at h5; cases h5)) q5
      · have h1 := of_decide_eq_false h1
        refine Errs.use (must_errs _ (by decide) I4 _) (fun q5 I5 hI5 => .inl ⟨rfl, _, .refl _, ?_⟩) (fun q5 I5 hI5 => .inr ⟨_, rfl, _, .refl _, ?_⟩)
        · cases q5
        · exact .fail (bad (decide_eq_false fun h => h1 h.1)) q5
    · have h4 := errB_ne q4
      rw [h4.2] at q4 ⊢
      rw [h4.1, Bool.false_and] at rc
      rw [rc] at gc
      exact .fail gc q4
  have hlt := of_decide_eq_false hlt
  rw [firstE_end _ _ (by omega), thenE_zero] at gc
  refine ⟨_, _, _, rd hl3 2 _ rfl, ?_⟩
  rw [e4]
  refine Errs.use (must_errs _ (by decide) I3 _) (fun q4 I4 hI4 => .inl ⟨rfl, _, .refl _, ?_⟩) (fun q4 I4 hI4 => .inr ⟨_, rfl, _, .refl _, ?_⟩)
  case refine_2 => exact .fail gc q4
  rw [q4, thenE_zero] at gc
  have hl4 := Imm.le_trans hl3 hI4
  refine ⟨_, _, _, rd hl4 2 _ rfl, ⟨_, by omega, by omega, rfl, hl4, rfl, by rw [gc]; simp⟩, ?_⟩
  clear gc
  clear gm
  intro i m I5 F5 hI5 ⟨g0, g1, gm, hl5, hF5, gc⟩
  subst hF5
  refine ⟨fun hlt => ?_, fun hlt => ?_⟩
  · have hlt := of_decide_eq_true hlt
    obtain ⟨ad, x, had, hx, hrd, hxm⟩ := SlG.atm (ok hl5).slots g0 hlt
    rw [firstE_map _ _ hx, thenE_assoc] at gc
    refine ⟨⟨g0, hlt⟩, ad, had, _, _, hrd, fun b_x => Errs.use (named_spec x.name I5 _) (fun q6 I6 hI6 => .inl ⟨rfl, _, .refl _, ?_⟩) (fun q6 I6 hI6 => .inr ⟨_, rfl, _, .refl _, ?_⟩)⟩
    · have e : SlotP.check (id x) = errB (nameB x.name) 120 := rfl
      rw [e, q6, thenE_zero] at gc
      refine ⟨(s.slots.length - (i + 1)).toNat, by omega, ?_⟩
      rw [w64 (n := i + 1) (by omega)]
      exact ⟨by omega, by omega, rfl, Imm.le_trans hl5 hI6, rfl, by rw [gc, show (i + 1).toNat = i.toNat + 1 by omega]⟩
    · exact .fail gc q6
  have hlt := of_decide_eq_false hlt
  rw [firstE_end _ _ (by omega), thenE_zero] at gc
  refine ⟨_, _, _, rd hl5 3 _ rfl, ?_⟩
  rw [e0]
  refine Errs.use (must_errs _ (by decide) I5 _) (fun q6 I6 hI6 => .inl ⟨rfl, _, .refl _, ?_⟩) (fun q6 I6 hI6 => .inr ⟨_, rfl, _, .refl _, ?_⟩)
  case refine_2 => exact .fail gc q6
  rw [q6, thenE_zero] at gc
  have hl6 := Imm.le_trans hl5 hI6
  refine ⟨_, _, _, rd hl6 3 _ rfl, ?_⟩
  rw [e12]
  refine Errs.use (must_errs _ (by decide) I6 _) (fun q7 I7 hI7 => .inl ⟨rfl, _, .refl _, ?_⟩) (fun q7 I7 hI7 => .inr ⟨_, rfl, _, .refl _, ?_⟩)
  case refine_2 => exact .fail gc q7
  rw [q7, thenE_zero] at gc
  have hl7 := Imm.le_trans hl6 hI7
  refine ⟨_, _, _, rd hl7 3 _ rfl, ⟨_, by omega, by omega, rfl, hl7, rfl, gc⟩, ?_⟩
  clear gc
  clear gm
  intro i m I8 F8 hI8 ⟨g0, g1, gm, hl8, hF8, gc⟩
  subst hF8
  refine ⟨fun hlt => ?_, fun hlt => ?_⟩
  · have hlt := of_decide_eq_true hlt
    obtain ⟨ad, x, had, hx, hrd, hxm⟩ := SlG.atm (ok hl8).states g0 hlt
    have hxl := hl.rules x hxm
    rw [firstE_map _ _ hx] at gc
    have ec : x.p.check = thenE (errB (nameB x.name) 120) (thenE (errB (decide (x.rules.length ≤ 12)) 121) (firstE RuleP.check (x.rules.map RuleN.p))) := by
      show thenE _ (thenE (errB (decide ((x.rules.map RuleN.p).length ≤ 12)) 121) _) = _
      rw [List.length_map]; rfl
    rw [ec, thenE_assoc, thenE_assoc] at gc
    refine ⟨⟨g0, hlt⟩, ad, had, _, _, _, _, _, hrd, fun b_x => Errs.use (named_spec x.name I8 _) (fun q9 I9 hI9 => .inl ⟨rfl, _, .refl _, ?_⟩) (fun q9 I9 hI9 => .inr ⟨_, rfl, _, .refl _, ?_⟩)⟩
    case refine_2 => exact .fail gc q9
    rw [q9, thenE_zero] at gc
    rw [e12]
    refine Errs.use (must_errs _ (by decide) I9 _) (fun q10 I10 hI10 => .inl ⟨rfl, _, .refl _, ?_⟩) (fun q10 I10 hI10 => .inr ⟨_, rfl, _, .refl _, ?_⟩)
    case refine_2 => exact .fail gc q10
    rw [q10, thenE_zero] at gc
    have hl10 := Imm.le_trans hl8 (Imm.le_trans hI9 hI10)
    refine ⟨⟨_, hl10, rfl, by omega, x, hx, by omega, rfl, gc⟩, ?_⟩
    clear gc
    intro j n I11 F11 hI11 ⟨hl11, hF11, j0, y, hy, j1, gn, gc⟩
    subst hF11
    rw [hx] at hy
    cases hy
    refine ⟨fun hlt2 => ?_, fun hlt2 => ?_⟩
    · have hlt2 := of_decide_eq_true hlt2
      have hok11 := ((ok hl11).state x hxm).cons (x := (b_x, Obj.cells #[.string x.name, .slice x.a x.rules.length x.c, .int .i64 x.pos] 70 (0, 0)))
      obtain ⟨ad3, r, had3, hr, hrd3, hrm⟩ := SlG.atm hok11.1 j0 hlt2
      rw [firstE_map _ _ hr, thenE_assoc] at gc
      refine ⟨⟨j0, hlt2⟩, ad3, had3, _, _, _, _, _, _, _, _, _, _, _, _, _, _, hrd3, fun b_r => Errs.use (rule_spec r (hss x hxm r hrm) I11 _ ((((ok hl11).state x hxm).2 r hrm).cons.cons) (hl.dos x hxm r hrm)) (fun q12 I12 hI12 => .inl ⟨rfl, _, .refl _, ?_⟩) (fun q12 I12 hI12 => .inr ⟨_, rfl, _, .refl _, ?_⟩)⟩
      · rw [q12, thenE_zero] at gc
        refine ⟨(x.rules.length - (j + 1)).toNat, by omega, ?_⟩
        rw [w64 (n := j + 1) (by omega)]
        exact ⟨Imm.le_trans hl11 hI12, rfl, by omega, x, hx, by omega, rfl, by rw [gc, show (j + 1).toNat = j.toNat + 1 by omega]⟩
      · exact .fail gc q12
    · have hlt2 := of_decide_eq_false hlt2
      rw [firstE_end _ _ (by omega), thenE_zero] at gc
      refine ⟨(s.states.length - (i + 1)).toNat, by omega, ?_⟩
      rw [w64 (n := i + 1) (by omega)]
      exact ⟨by omega, by omega, rfl, hl11, rfl, by rw [gc, show (i + 1).toNat = i.toNat + 1 by omega]⟩
  · have hlt := of_decide_eq_false hlt
    rw [firstE_end _ _ (by omega)] at gc
    exact .done gc
end Go.Lx
namespace Go.Lx
open Go.Vc
theorem enters_ck1 : Enters P 30 := hP_of [30] (by kernel_rfl) _ (by decide)
theorem Check_spec (s : StgN) (hs : Small s.p.nds) (hl : s.Lens) (I : Imm) (F : Heap) (hok : s.Ok I F) : Tri P 7 #[s.v] I F (Ret (.int .i64 s.p.check) F) := by
  refine tree_Check.vc ?_
  unfold tree_Check.V
  intro b_s
  have hrd : ∀ {b : Nat} {I : Imm} {G : Heap}, (b, Obj.cells #[.string s.name, .slice s.ra s.regs.length s.rc, .slice s.sa s.slots.length s.sc, .slice s.ta s.states.length s.tc] 26 (0, 0)) ∈ G → Rd I G (⟨b, 0, none⟩ : Addr) s.enc := fun h => Rd.of_own h 0 fun j hj => by simp
  refine (caught_spec (n := s.p.check) fun b => TriV.fn enters_ck1 (by simp) (check1S_spec s hs hl I _ hok.cons.cons (hrd (List.mem_cons_of_mem _ (List.mem_cons_self ..))))).mono fun e I1 G hI1 ⟨he, hG⟩ => ?_
  subst hG
  exact ⟨_, he, _, _, _, _, _, _, _, _, _, _, F, .refl _, rfl, rfl⟩
theorem SlG.of_imm {α : Type} {I : Imm} {z : Nat} {f : α → List Value} (hz : ∀ x, (f x).length = z) {b e : Nat} {fz : Nat × Nat} {l : List α} {cells : Array Value} (h : I b = some (.cells cells e fz)) (hc : cells.toList = l.flatMap f) (G : Heap) : SlG I G z f (some ⟨b, 0, none⟩) l.length l :=
  (Sl.of_cells hz h hc).slg G
theorem SlG.nil {α : Type} {I : Imm} {G : Heap} {z : Nat} {f : α → List Value} {a : Option Addr} : SlG I G z f a 0 ([] : List α) := ⟨rfl, fun h => absurd rfl h⟩
theorem NdOk.leaf {I : Imm} {G : Heap} {k o ty n f : Int} {s : ByteArray} {a : Option Addr} {c : Nat} {q : Int} : NdOk I G (.mk k o ty n f s a c [] q) := .mk SlG.nil fun k hk => by cases hk
def litN (n : Int) : Nd := .mk 1 0 1 n 0 ⟨#[]⟩ none 0 [] 0
def sumN (b1 b2 : Nat) : Nd := .mk 6 6 0 0 0 ⟨#[]⟩ (some ⟨b2, 0, none⟩) 2 [litN 1, .mk 6 6 0 0 0 ⟨#[]⟩ (some ⟨b1, 0, none⟩) 2 [litN 2, litN 3] 5] 0
def sumP : Px := .mk 6 6 0 0 0 ⟨#[]⟩ [.mk 1 0 1 1 0 ⟨#[]⟩ [] 0, .mk 6 6 0 0 0 ⟨#[]⟩ [.mk 1 0 1 2 0 ⟨#[]⟩ [] 0, .mk 1 0 1 3 0 ⟨#[]⟩ [] 0] 5] 0
theorem sum_spec (I : Imm) (F : Heap) : Tri P 17 #[] I F fun e I' G => ∃ t : Nd, e = .returned t.v ∧ t.px = sumP ∧ (∀ G, NdOk I' G t) ∧ G = F := by
  refine law12_sum.vc ?_
  unfold law12_sum.V
  intro b b1 I1 hI1 hb1 b_in b2 I2 hI2 hb2
  refine ⟨sumN b1 b2, rfl, rfl, fun G => ?_, rfl⟩
  have h1 := hI2.at hb1
  refine .mk (SlG.of_imm (z := 8) (f := Nd.enc) (l := [litN 1, .mk 6 6 0 0 0 ⟨#[]⟩ (some ⟨b1, 0, none⟩) 2 [litN 2, litN 3] 5]) (fun _ => rfl) hb2 rfl G) fun k hk => ?_
  rcases List.mem_cons.1 hk with rfl | hk
  · exact NdOk.leaf
  · obtain rfl : k = .mk 6 6 0 0 0 ⟨#[]⟩ (some ⟨b1, 0, none⟩) 2 [litN 2, litN 3] 5 := by simpa using hk
    refine .mk (SlG.of_imm (z := 8) (f := Nd.enc) (l := [litN 2, litN 3]) (fun _ => rfl) h1 rfl G) fun k hk => ?_
    rcases List.mem_cons.1 hk with rfl | hk
    · exact NdOk.leaf
    · obtain rfl : k = litN 3 := by simpa using hk
      exact NdOk.leaf
def zeroP : Px := .mk 0 0 0 0 0 ⟨#[]⟩ [] 0
def haltN : DoN := ⟨6, 0, ⟨#[]⟩, zNd, zNd, zNd, zNd, 0⟩
def bidN : Nd := .mk 4 0 0 0 1 ⟨#[]⟩ none 0 [] 0
def bidP : Px := .mk 4 0 0 0 1 ⟨#[]⟩ [] 0
def leastP : StgP := ⟨⟨#[115]⟩, [], [], [⟨⟨#[97]⟩, [⟨bidP, [⟨6, 0, ⟨#[]⟩, zeroP, zeroP, zeroP, zeroP, 0⟩], 0⟩], 0⟩]⟩
theorem least_spec (I : Imm) (F : Heap) : Tri P 22 #[] I F fun e I' G => ∃ b1 b2 b3 : Nat, ∃ s : StgN, s = ⟨⟨#[115]⟩, none, 0, [], none, 0, [], some ⟨b3, 0, none⟩, 1, [⟨⟨#[97]⟩, some ⟨b2, 0, none⟩, 1, [⟨bidN, some ⟨b1, 0, none⟩, 1, [haltN], 0⟩], 0⟩]⟩ ∧ e = .returned s.v ∧ (∀ G, s.Ok I' G) ∧ G = F := by
  refine law12_least.vc ?_
  unfold law12_least.V
  intro b b_when b1 I1 hI1 hb1 b2 I2 hI2 hb2 b3 I3 hI3 hb3
  refine ⟨b1, b2, b3, _, rfl, rfl, fun G => ?_, rfl⟩
  have h1 := (Imm.le_trans hI2 hI3).at hb1
  have h2 := hI3.at hb2
  have hd : DoN.Ok I3 G haltN := ⟨NdOk.leaf, NdOk.leaf, NdOk.leaf, NdOk.leaf⟩
  have hr : RuleN.Ok I3 G ⟨bidN, some ⟨b1, 0, none⟩, 1, [haltN], 0⟩ := ⟨NdOk.leaf, SlG.of_imm (z := 36) (f := DoN.enc) (l := [haltN]) (fun _ => rfl) h1 rfl G, fun d hd' => by
    obtain rfl : d = haltN := by simpa using hd'
    exact hd⟩
  refine ⟨SlG.nil, fun r hr => (by cases hr), SlG.nil, SlG.of_imm (z := 3) (f := StateN.enc) (l := [⟨⟨#[97]⟩, some ⟨b2, 0, none⟩, 1, [⟨bidN, some ⟨b1, 0, none⟩, 1, [haltN], 0⟩], 0⟩]) (fun _ => rfl) hb3 rfl G, fun x hx => ?_⟩
  simp only [List.mem_singleton] at hx
  subst hx
  exact ⟨SlG.of_imm (z := 10) (f := RuleN.enc) (l := [⟨bidN, some ⟨b1, 0, none⟩, 1, [haltN], 0⟩]) (fun _ => rfl) h2 rfl G, fun r hr' => by
    simp only [List.mem_singleton] at hr'
    subst hr'; exact hr⟩
theorem ex_level : sumP.levelE = 5 := by decide +kernel
theorem ex_depth : sumP.depthE = 1 := by decide +kernel
theorem ex_size : sumP.size = 5 := by decide +kernel
theorem ex_check : sumP.checkE = 0 := by decide +kernel
theorem ex_side : (Px.mk 1 0 6 0 0 ⟨#[]⟩ [] 0).checkE = 120 := by decide +kernel
theorem ex_none : (⟨⟨#[115]⟩, [], [], []⟩ : StgP).check = 120 := by decide +kernel
theorem ex_least : leastP.check = 0 := by decide +kernel
theorem ex_like : sumP.like sumP.bare = true := by decide +kernel
end Go.Lx
