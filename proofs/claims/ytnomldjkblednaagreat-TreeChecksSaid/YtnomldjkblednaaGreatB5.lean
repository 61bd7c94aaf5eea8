import Derived.Test.YtnomldjkblednaaGreatB4
set_option linter.unusedVariables false
set_option linter.unusedSimpArgs false
set_option maxRecDepth 100000
namespace Go.Lx
open Go.Vc
def shT_t7 : List (Nat × List Sh) := [(3, [.one (.int .i64)]), (4, [.one .bool]), (9, [.one .str]), (22, [.one .slc]), (23, [.one .slc]), (24, [.one .slc]), (26, [.agg [.str, .slc, .slc, .slc]]), (55, [.agg [(.int .u8), (.int .u8), (.int .u8), (.int .i64), (.int .u8), .str, .slc, (.int .i64)]]), (65, [.one .slc]), (67, [.agg [(.int .u8), (.int .u8), (.int .u8), (.int .i64), (.int .u8), .str, .slc, (.int .i64), .slc, (.int .i64)]]), (68, [.one .slc]), (70, [.agg [.str, .slc, (.int .i64)]]), (75, [.agg [.str, (.int .u8), (.int .u8), (.int .u8), (.int .u8), (.int .i64), (.int .u8), .str, .slc, (.int .i64), (.int .i64)]]), (77, [.agg [.str, (.int .i64)]]), (89, [.agg [(.int .u8), (.int .u8), .str, (.int .u8), (.int .u8), (.int .u8), (.int .i64), (.int .u8), .str, .slc, (.int .i64), (.int .u8), (.int .u8), (.int .u8), (.int .i64), (.int .u8), .str, .slc, (.int .i64), (.int .u8), (.int .u8), (.int .u8), (.int .i64), (.int .u8), .str, .slc, (.int .i64), (.int .u8), (.int .u8), (.int .u8), (.int .i64), (.int .u8), .str, .slc, (.int .i64), (.int .i64)]])]
def ref00_weighDo.V (a : Nat → Nat × Obj) (nV : Int → Int → Int → Int → Int → Bs → OA → Nat → Nat → Int → Value) (vi : Int → Value) (aw ax : Int) (am : Bs) (an ao ap aq ar : Int) (au : Bs) (l : OA) (m o : Nat) (p q s t u v : Int) (w : Bs) (c : OA) (d e : Nat) (x y z aa ab ac : Int) (ad : Bs) (f : OA) (g h : Nat) (ae af ag ah ai aj : Int) (ak : Bs) (i : OA) (j k : Nat) (al av n : Int) (I : Imm) (F : Heap) (Q : PostQ)  : Prop := ∀ b : Nat, Tri P 87 (#[nV an ao ap aq ar au l m o p, vi (IntKind.wrap .i64 (n + (am.size : Int))), vi 0]) I ((a b) :: F) fun e1 I1 G1 => ∃ (r : Int), e1 = .returned (vi r) ∧ ∃ F1 : Heap, List.Perm G1 ((a b) :: F1) ∧ Tri P 87 (#[nV q s t u v w c d e x, vi r, vi 0]) I1 ((a b) :: F1) fun e2 I2 G2 => ∃ (r1 : Int), e2 = .returned (vi r1) ∧ ∃ F2 : Heap, List.Perm G2 ((a b) :: F2) ∧ Tri P 87 (#[nV y z aa ab ac ad f g h ae, vi r1, vi 0]) I2 ((a b) :: F2) fun e3 I3 G3 => ∃ (r2 : Int), e3 = .returned (vi r2) ∧ ∃ F3 : Heap, List.Perm G3 ((a b) :: F3) ∧ Tri P 87 (#[nV af ag ah ai aj ak i j k al, vi r2, vi 0]) I3 ((a b) :: F3) fun e4 I4 G4 => ∃ (r3 : Int), e4 = .returned (vi r3) ∧ ∃ F4 : Heap, List.Perm G4 ((a b) :: F4) ∧ Q (.returned (vi r3)) I4 (F4)
theorem ref00_weighDo.vc {d_0 d_1 : Int} {d_2 : Bs} {d_3 d_4 d_5 d_6 d_7 : Int} {d_8 : Bs} {d_9_a : OA} {d_9_n d_9_c : Nat} {d_10 d_11 d_12 d_13 d_14 d_15 : Int} {d_16 : Bs} {d_17_a : OA} {d_17_n d_17_c : Nat} {d_18 d_19 d_20 d_21 d_22 d_23 : Int} {d_24 : Bs} {d_25_a : OA} {d_25_n d_25_c : Nat} {d_26 d_27 d_28 d_29 d_30 d_31 : Int} {d_32 : Bs} {d_33_a : OA} {d_33_n d_33_c : Nat} {d_34 d_35 n : Int} {I : Imm} {F : Heap} {Q : PostQ}  (h : ref00_weighDo.V (fun b => (b, Obj.cells #[.int .u8 d_0, .int .u8 d_1, .string d_2, .int .u8 d_3, .int .u8 d_4, .int .u8 d_5, .int .i64 d_6, .int .u8 d_7, .string d_8, .slice d_9_a d_9_n d_9_c, .int .i64 d_10, .int .u8 d_11, .int .u8 d_12, .int .u8 d_13, .int .i64 d_14, .int .u8 d_15, .string d_16, .slice d_17_a d_17_n d_17_c, .int .i64 d_18, .int .u8 d_19, .int .u8 d_20, .int .u8 d_21, .int .i64 d_22, .int .u8 d_23, .string d_24, .slice d_25_a d_25_n d_25_c, .int .i64 d_26, .int .u8 d_27, .int .u8 d_28, .int .u8 d_29, .int .i64 d_30, .int .u8 d_31, .string d_32, .slice d_33_a d_33_n d_33_c, .int .i64 d_34, .int .i64 d_35] 89 (0, 0))) (fun k o t n f s a l c q => .agg #[.int .u8 k, .int .u8 o, .int .u8 t, .int .i64 n, .int .u8 f, .string s, .slice a l c, .int .i64 q]) (.int .i64) d_0 d_1 d_2 d_3 d_4 d_5 d_6 d_7 d_8 d_9_a d_9_n d_9_c d_10 d_11 d_12 d_13 d_14 d_15 d_16 d_17_a d_17_n d_17_c d_18 d_19 d_20 d_21 d_22 d_23 d_24 d_25_a d_25_n d_25_c d_26 d_27 d_28 d_29 d_30 d_31 d_32 d_33_a d_33_n d_33_c d_34 d_35 n I F Q) : Tri P 88 #[.agg #[.int .u8 d_0, .int .u8 d_1, .string d_2, .int .u8 d_3, .int .u8 d_4, .int .u8 d_5, .int .i64 d_6, .int .u8 d_7, .string d_8, .slice d_9_a d_9_n d_9_c, .int .i64 d_10, .int .u8 d_11, .int .u8 d_12, .int .u8 d_13, .int .i64 d_14, .int .u8 d_15, .string d_16, .slice d_17_a d_17_n d_17_c, .int .i64 d_18, .int .u8 d_19, .int .u8 d_20, .int .u8 d_21, .int .i64 d_22, .int .u8 d_23, .string d_24, .slice d_25_a d_25_n d_25_c, .int .i64 d_26, .int .u8 d_27, .int .u8 d_28, .int .u8 d_29, .int .i64 d_30, .int .u8 d_31, .string d_32, .slice d_33_a d_33_n d_33_c, .int .i64 d_34, .int .i64 d_35], .int .i64 n] I (F) Q :=
  tv (A := (annL [] [] [87] shT_t7 [] [] [] [] [] [] [])) (args := [.a (.v (.agg #[.int .u8 d_0, .int .u8 d_1, .string d_2, .int .u8 d_3, .int .u8 d_4, .int .u8 d_5, .int .i64 d_6, .int .u8 d_7, .string d_8, .slice d_9_a d_9_n d_9_c, .int .i64 d_10, .int .u8 d_11, .int .u8 d_12, .int .u8 d_13, .int .i64 d_14, .int .u8 d_15, .string d_16, .slice d_17_a d_17_n d_17_c, .int .i64 d_18, .int .u8 d_19, .int .u8 d_20, .int .u8 d_21, .int .i64 d_22, .int .u8 d_23, .string d_24, .slice d_25_a d_25_n d_25_c, .int .i64 d_26, .int .u8 d_27, .int .u8 d_28, .int .u8 d_29, .int .i64 d_30, .int .u8 d_31, .string d_32, .slice d_33_a d_33_n d_33_c, .int .i64 d_34, .int .i64 d_35])), .a (.v (.int .i64 n))]) (own := []) (keep := []) [87] Go.Proofs.Tryz.func88 h
def ref00_WeighStrategy.V (a : Nat → Nat × Obj) (nV : Int → Int → Int → Int → Int → Bs → OA → Nat → Nat → Int → Value) (nL : Int → Int → Int → Int → Int → Bs → OA → Nat → Nat → Int → List Value) (vb vi : Int → Value) (vs : Bs → Value) (vl : OA → Nat → Nat → Value) (wr : Int → Int) (br : Bs) (z : OA) (c bv : Nat) (aZ : OA) (f bw : Nat) (aa : OA) (d bx : Nat) (I : Imm) (F : Heap) (Q : PostQ) (Inv4 : Int → Imm → Heap → Imm → Heap → Prop) (Inv8 : Int → Int → Nat → Imm → Heap → Imm → Heap → Prop) (Inv19 : Int → Imm → Heap → Imm → Heap → Prop) (Inv23 : Int → Int → Nat → Imm → Heap → Imm → Heap → Prop) (Inv34 : Int → Imm → Heap → Imm → Heap → Prop) (Inv38 : Int → Int → Nat → Imm → Heap → Imm → Heap → Prop) (Inv54 : Int → Int → Int → Nat → Imm → Heap → Imm → Heap → Prop) (Inv68 : Int → Int → Int → Int → Nat → Imm → Heap → Imm → Heap → Prop) : Prop := ∀ b : Nat, ((∃ m : Nat, Inv8 (br.size : Int) 0 m I F I F) ∧ ∀ (n i : Int) (m1 : Nat) (I1 : Imm) (F1 : Heap), Imm.le I I1 → Inv8 n i m1 I F I1 F1 → ((decide (i < ((c : Nat) : Int)) = true → ((decide (n ≤ 1048576) = true → ((0 ≤ i ∧ i < (c : Int)) ∧ ∃ ad : Addr, z = some ad ∧ ∃ (a0 a1 a2 a3 a4 : Int) (a5 : Bs) (ab : OA) (ac ae : Nat) (a6 : Int), Rd I1 ((a b) :: F1) ((ad.add (Int.toNat (i) * 11)).add 2) (nL a0 a1 a2 a3 a4 a5 ab ac ae a6) ∧ ((0 ≤ i ∧ i < (c : Int)) ∧ ∃ bb : Addr, z = some bb ∧ ∃ (m2 : Bs), Rd I1 ((a b) :: F1) ((bb.add (Int.toNat (i) * 11)).add 0) [vs m2] ∧ ∃ (r : Int), (Tri P 87 (#[nV a0 a1 a2 a3 a4 a5 ab ac ae a6, vi (wr ((wr (n + 1)) + (m2.size : Int))), vi 0]) I1 ((a b) :: F1) fun e1 I2 G1 => e1 = .returned (vi r) ∧ List.Perm G1 ((a b) :: F1)) ∧ (∃ m3 : Nat, m3 < m1 ∧ Inv8 r (wr (i + 1)) m3 I F I1 F1)))) ∧ (decide (n ≤ 1048576) = false → Inv4 n I F I1 F1))) ∧ (decide (i < ((c : Nat) : Int)) = false → Inv4 n I F I1 F1))) ∧ ∀ (n1 : Int) (I3 : Imm) (F2 : Heap), Imm.le I I3 → Inv4 n1 I F I3 F2 → ((∃ m4 : Nat, Inv23 n1 0 m4 I3 F2 I3 F2) ∧ ∀ (n2 i1 : Int) (m5 : Nat) (I4 : Imm) (F3 : Heap), Imm.le I3 I4 → Inv23 n2 i1 m5 I3 F2 I4 F3 → ((decide (i1 < ((f : Nat) : Int)) = true → ((decide (n2 ≤ 1048576) = true → ((0 ≤ i1 ∧ i1 < (f : Int)) ∧ ∃ bc : Addr, aZ = some bc ∧ ∃ (m6 : Bs), Rd I4 ((a b) :: F3) ((bc.add (Int.toNat (i1) * 2)).add 0) [vs m6] ∧ (∃ m7 : Nat, m7 < m5 ∧ Inv23 (wr ((wr (n2 + 1)) + (m6.size : Int))) (wr (i1 + 1)) m7 I3 F2 I4 F3))) ∧ (decide (n2 ≤ 1048576) = false → Inv19 n2 I3 F2 I4 F3))) ∧ (decide (i1 < ((f : Nat) : Int)) = false → Inv19 n2 I3 F2 I4 F3))) ∧ ∀ (n3 : Int) (I5 : Imm) (F4 : Heap), Imm.le I3 I5 → Inv19 n3 I3 F2 I5 F4 → ((∃ m8 : Nat, Inv38 n3 0 m8 I5 F4 I5 F4) ∧ ∀ (n4 i2 : Int) (m9 : Nat) (I6 : Imm) (F5 : Heap), Imm.le I5 I6 → Inv38 n4 i2 m9 I5 F4 I6 F5 → ((decide (i2 < ((d : Nat) : Int)) = true → ((decide (n4 ≤ 1048576) = true → ((0 ≤ i2 ∧ i2 < (d : Int)) ∧ ∃ bd : Addr, aa = some bd ∧ ∃ (a7 : Bs), Rd I6 ((a b) :: F5) ((bd.add (Int.toNat (i2) * 3)).add 0) [vs a7] ∧ ((0 ≤ i2 ∧ i2 < (d : Int)) ∧ ∃ be : Addr, aa = some be ∧ ∃ (af : OA) (e bs : Nat), Rd I6 ((a b) :: F5) ((be.add (Int.toNat (i2) * 3)).add 1) [vl af e bs] ∧ (∃ bt : Nat, Inv54 i2 (wr ((wr (n4 + 1)) + (a7.size : Int))) 0 bt I6 F5 I6 F5) ∧ ∀ (n5 k : Int) (ap : Nat) (I7 : Imm) (F6 : Heap), Imm.le I6 I7 → Inv54 i2 n5 k ap I6 F5 I7 F6 → ((decide (k < ((e : Nat) : Int)) = true → ((decide (n5 ≤ 1048576) = true → ((0 ≤ k ∧ k < (e : Int)) ∧ ∃ bf : Addr, af = some bf ∧ ∃ (aq ar au av aw : Int) (ax : Bs) (g : OA) (h l : Nat) (ay : Int), Rd I7 ((a b) :: F6) ((bf.add (Int.toNat (k) * 10)).add 0) (nL aq ar au av aw ax g h l ay) ∧ Tri P 87 (#[nV aq ar au av aw ax g h l ay, vi (wr (n5 + 1)), vi 0]) I7 ((a b) :: F6) fun e2 I8 G2 => ∃ (r1 : Int), e2 = .returned (vi r1) ∧ ∃ F7 : Heap, List.Perm G2 ((a b) :: F7) ∧ (∃ bu : Nat, Inv68 i2 k r1 0 bu I8 F7 I8 F7) ∧ ∀ (n6 j : Int) (a8 : Nat) (I9 : Imm) (F8 : Heap), Imm.le I8 I9 → Inv68 i2 k n6 j a8 I8 F7 I9 F8 → ((0 ≤ k ∧ k < (e : Int)) ∧ ∃ bg : Addr, af = some bg ∧ ∃ (bo : OA) (y bp : Nat), Rd I9 ((a b) :: F8) ((bg.add (Int.toNat (k) * 10)).add 8) [vl bo y bp] ∧ ((decide (j < ((y : Nat) : Int)) = true → ((decide (n6 ≤ 1048576) = true → ((0 ≤ k ∧ k < (e : Int)) ∧ ∃ bh : Addr, af = some bh ∧ ∃ (az : OA) (aA bq : Nat), Rd I9 ((a b) :: F8) ((bh.add (Int.toNat (k) * 10)).add 8) [vl az aA bq] ∧ ((0 ≤ j ∧ j < (aA : Int)) ∧ ∃ bi : Addr, az = some bi ∧ ∃ (aB aC : Int) (aD : Bs) (aE aF aG a9 aH : Int) (ba : Bs) (ag : OA) (ah ai : Nat) (aI aj ak aJ aK aL : Int) (aM : Bs) (o : OA) (p q : Nat) (aN aO aP al am aQ : Int) (aR : Bs) (s : OA) (t u : Nat) (aS aT aU aV aW an : Int) (ao : Bs) (v : OA) (w x : Nat) (aX aY : Int), Rd I9 ((a b) :: F8) (bi.add (Int.toNat (j) * 36)) [vb aB, vb aC, vs aD, vb aE, vb aF, vb aG, vi a9, vb aH, vs ba, vl ag ah ai, vi aI, vb aj, vb ak, vb aJ, vi aK, vb aL, vs aM, vl o p q, vi aN, vb aO, vb aP, vb al, vi am, vb aQ, vs aR, vl s t u, vi aS, vb aT, vb aU, vb aV, vi aW, vb an, vs ao, vl v w x, vi aX, vi aY] ∧ Tri P 88 (#[.agg #[vb aB, vb aC, vs aD, vb aE, vb aF, vb aG, vi a9, vb aH, vs ba, vl ag ah ai, vi aI, vb aj, vb ak, vb aJ, vi aK, vb aL, vs aM, vl o p q, vi aN, vb aO, vb aP, vb al, vi am, vb aQ, vs aR, vl s t u, vi aS, vb aT, vb aU, vb aV, vi aW, vb an, vs ao, vl v w x, vi aX, vi aY], vi (wr (n6 + 1))]) I9 ((a b) :: F8) fun e3 I10 G3 => ∃ (r2 : Int), e3 = .returned (vi r2) ∧ ∃ F9 : Heap, List.Perm G3 ((a b) :: F9) ∧ (∃ bj : Nat, bj < a8 ∧ Inv68 i2 k r2 (wr (j + 1)) bj I8 F7 I10 F9)))) ∧ (decide (n6 ≤ 1048576) = false → (∃ bk : Nat, bk < ap ∧ Inv54 i2 n6 (wr (k + 1)) bk I6 F5 I9 F8)))) ∧ (decide (j < ((y : Nat) : Int)) = false → (∃ bl : Nat, bl < ap ∧ Inv54 i2 n6 (wr (k + 1)) bl I6 F5 I9 F8)))))) ∧ (decide (n5 ≤ 1048576) = false → (∃ bm : Nat, bm < m9 ∧ Inv38 n5 (wr (i2 + 1)) bm I5 F4 I7 F6)))) ∧ (decide (k < ((e : Nat) : Int)) = false → (∃ bn : Nat, bn < m9 ∧ Inv38 n5 (wr (i2 + 1)) bn I5 F4 I7 F6)))))) ∧ (decide (n4 ≤ 1048576) = false → Inv34 n4 I5 F4 I6 F5))) ∧ (decide (i2 < ((d : Nat) : Int)) = false → Inv34 n4 I5 F4 I6 F5))) ∧ ∀ (n7 : Int) (I11 : Imm) (F10 : Heap), Imm.le I5 I11 → Inv34 n7 I5 F4 I11 F10 → Q (.returned (vi n7)) I11 (F10)
theorem ref00_WeighStrategy.vc {s_0 : Bs} {s_1_a : OA} {s_1_n s_1_c : Nat} {s_2_a : OA} {s_2_n s_2_c : Nat} {s_3_a : OA} {s_3_n s_3_c : Nat} {I : Imm} {F : Heap} {Q : PostQ} (Inv4 : Int → Imm → Heap → Imm → Heap → Prop) (Inv8 : Int → Int → Nat → Imm → Heap → Imm → Heap → Prop) (Inv19 : Int → Imm → Heap → Imm → Heap → Prop) (Inv23 : Int → Int → Nat → Imm → Heap → Imm → Heap → Prop) (Inv34 : Int → Imm → Heap → Imm → Heap → Prop) (Inv38 : Int → Int → Nat → Imm → Heap → Imm → Heap → Prop) (Inv54 : Int → Int → Int → Nat → Imm → Heap → Imm → Heap → Prop) (Inv68 : Int → Int → Int → Int → Nat → Imm → Heap → Imm → Heap → Prop) (h : ref00_WeighStrategy.V (fun b => (b, Obj.cells #[.string s_0, .slice s_1_a s_1_n s_1_c, .slice s_2_a s_2_n s_2_c, .slice s_3_a s_3_n s_3_c] 26 (0, 0))) (fun k o t n f s a l c q => .agg #[.int .u8 k, .int .u8 o, .int .u8 t, .int .i64 n, .int .u8 f, .string s, .slice a l c, .int .i64 q]) (fun k o t n f s a l c q => [.int .u8 k, .int .u8 o, .int .u8 t, .int .i64 n, .int .u8 f, .string s, .slice a l c, .int .i64 q]) (.int .u8) (.int .i64) .string .slice (IntKind.wrap .i64) s_0 s_1_a s_1_n s_1_c s_2_a s_2_n s_2_c s_3_a s_3_n s_3_c I F Q Inv4 Inv8 Inv19 Inv23 Inv34 Inv38 Inv54 Inv68) : Tri P 26 #[.agg #[.string s_0, .slice s_1_a s_1_n s_1_c, .slice s_2_a s_2_n s_2_c, .slice s_3_a s_3_n s_3_c]] I (F) Q :=
  tv (A := (annL [3004, 3007, 7004, 7007, 11004, 11007, 16003, 16006, 20007, 20010] [] [87, 88] shT_t7 [(4, ⟨[(3, (.int .i64))], [], fun fs I0 F0 vs m I F => match fs, vs with | [], [.int _ y0] => Inv4 y0 I0 F0 I F | _, _ => False, [], []⟩), (8, ⟨[(3, (.int .i64)), (4, (.int .i64))], [], fun fs I0 F0 vs m I F => match fs, vs with | [], [.int _ y0, .int _ y1] => Inv8 y0 y1 m I0 F0 I F | _, _ => False, [], []⟩), (19, ⟨[(3, (.int .i64))], [], fun fs I0 F0 vs m I F => match fs, vs with | [], [.int _ y0] => Inv19 y0 I0 F0 I F | _, _ => False, [], []⟩), (23, ⟨[(3, (.int .i64)), (5, (.int .i64))], [], fun fs I0 F0 vs m I F => match fs, vs with | [], [.int _ y0, .int _ y1] => Inv23 y0 y1 m I0 F0 I F | _, _ => False, [], []⟩), (34, ⟨[(3, (.int .i64))], [], fun fs I0 F0 vs m I F => match fs, vs with | [], [.int _ y0] => Inv34 y0 I0 F0 I F | _, _ => False, [], []⟩), (38, ⟨[(3, (.int .i64)), (6, (.int .i64))], [], fun fs I0 F0 vs m I F => match fs, vs with | [], [.int _ y0, .int _ y1] => Inv38 y0 y1 m I0 F0 I F | _, _ => False, [], []⟩), (54, ⟨[(3, (.int .i64)), (8, (.int .i64))], [], fun fs I0 F0 vs m I F => match fs, vs with | [.int _ y0], [.int _ y1, .int _ y2] => Inv54 y0 y1 y2 m I0 F0 I F | _, _ => False, [6], []⟩), (68, ⟨[(3, (.int .i64)), (9, (.int .i64))], [], fun fs I0 F0 vs m I F => match fs, vs with | [.int _ y0, .int _ y1], [.int _ y2, .int _ y3] => Inv68 y0 y1 y2 y3 m I0 F0 I F | _, _ => False, [6, 8], []⟩)] [] [] [] [] [] [])) (args := [.a (.v (.agg #[.string s_0, .slice s_1_a s_1_n s_1_c, .slice s_2_a s_2_n s_2_c, .slice s_3_a s_3_n s_3_c]))]) (own := []) (keep := []) [87, 88] Go.Proofs.Tryz.func26 h
def ref00_bareDo.V (nV : Int → Int → Int → Int → Int → Bs → OA → Nat → Nat → Int → Value) (vb vi : Int → Value) (vs : Bs → Value) (vl : OA → Nat → Nat → Value) (ae af : Int) (ag : Bs) (aW aX aY aZ a0 : Int) (a1 : Bs) (aI : OA) (aJ aK : Nat) (aV aB aC aD aE aF : Int) (aG : Bs) (u : OA) (v w : Nat) (aH x y z aa ab : Int) (ac : Bs) (e : OA) (f g : Nat) (ad n o p q r : Int) (s : Bs) (a : OA) (c d : Nat) (t a9 : Int) (I : Imm) (F : Heap) (Q : PostQ)  : Prop := ∀ aA : Nat, ∀ b : Nat, Tri P 56 (#[nV aW aX aY aZ a0 a1 aI aJ aK aV]) I ((aA, Obj.cells #[vb ae, vb af, vs ag, vb aW, vb aX, vb aY, vi aZ, vb a0, vs a1, vl aI aJ aK, vi aV, vb aB, vb aC, vb aD, vi aE, vb aF, vs aG, vl u v w, vi aH, vb x, vb y, vb z, vi aa, vb ab, vs ac, vl e f g, vi ad, vb n, vb o, vb p, vi q, vb r, vs s, vl a c d, vi t, vi 0] 89 (0, 0)) :: (b, Obj.cells #[vb 0, vb 0, vs (⟨#[]⟩ : Bs), vb 0, vb 0, vb 0, vi 0, vb 0, vs (⟨#[]⟩ : Bs), vl none 0 0, vi 0, vb 0, vb 0, vb 0, vi 0, vb 0, vs (⟨#[]⟩ : Bs), vl none 0 0, vi 0, vb 0, vb 0, vb 0, vi 0, vb 0, vs (⟨#[]⟩ : Bs), vl none 0 0, vi 0, vb 0, vb 0, vb 0, vi 0, vb 0, vs (⟨#[]⟩ : Bs), vl none 0 0, vi 0, vi 0] 89 (0, 0)) :: F) fun e1 I1 G1 => ∃ (ar au av aw ax : Int) (ay : Bs) (h : OA) (i j : Nat) (az : Int), e1 = .returned (nV ar au av aw ax ay h i j az) ∧ ∃ F1 : Heap, List.Perm G1 ((aA, Obj.cells #[vb ae, vb af, vs ag, vb aW, vb aX, vb aY, vi aZ, vb a0, vs a1, vl aI aJ aK, vi aV, vb aB, vb aC, vb aD, vi aE, vb aF, vs aG, vl u v w, vi aH, vb x, vb y, vb z, vi aa, vb ab, vs ac, vl e f g, vi ad, vb n, vb o, vb p, vi q, vb r, vs s, vl a c d, vi t, vi 0] 89 (0, 0)) :: (b, Obj.cells #[vb 0, vb 0, vs (⟨#[]⟩ : Bs), vb 0, vb 0, vb 0, vi 0, vb 0, vs (⟨#[]⟩ : Bs), vl none 0 0, vi 0, vb 0, vb 0, vb 0, vi 0, vb 0, vs (⟨#[]⟩ : Bs), vl none 0 0, vi 0, vb 0, vb 0, vb 0, vi 0, vb 0, vs (⟨#[]⟩ : Bs), vl none 0 0, vi 0, vb 0, vb 0, vb 0, vi 0, vb 0, vs (⟨#[]⟩ : Bs), vl none 0 0, vi 0, vi 0] 89 (0, 0)) :: F1) ∧ Tri P 56 (#[nV aB aC aD aE aF aG u v w aH]) I1 ((aA, Obj.cells #[vb ae, vb af, vs ag, vb ar, vb au, vb av, vi aw, vb ax, vs ay, vl h i j, vi az, vb aB, vb aC, vb aD, vi aE, vb aF, vs aG, vl u v w, vi aH, vb x, vb y, vb z, vi aa, vb ab, vs ac, vl e f g, vi ad, vb n, vb o, vb p, vi q, vb r, vs s, vl a c d, vi t, vi 0] 89 (0, 0)) :: (b, Obj.cells #[vb 0, vb 0, vs (⟨#[]⟩ : Bs), vb 0, vb 0, vb 0, vi 0, vb 0, vs (⟨#[]⟩ : Bs), vl none 0 0, vi 0, vb 0, vb 0, vb 0, vi 0, vb 0, vs (⟨#[]⟩ : Bs), vl none 0 0, vi 0, vb 0, vb 0, vb 0, vi 0, vb 0, vs (⟨#[]⟩ : Bs), vl none 0 0, vi 0, vb 0, vb 0, vb 0, vi 0, vb 0, vs (⟨#[]⟩ : Bs), vl none 0 0, vi 0, vi 0] 89 (0, 0)) :: F1) fun e2 I2 G2 => ∃ (ak al am an ao : Int) (ap : Bs) (k : OA) (l m : Nat) (aq : Int), e2 = .returned (nV ak al am an ao ap k l m aq) ∧ ∃ F2 : Heap, List.Perm G2 ((aA, Obj.cells #[vb ae, vb af, vs ag, vb ar, vb au, vb av, vi aw, vb ax, vs ay, vl h i j, vi az, vb aB, vb aC, vb aD, vi aE, vb aF, vs aG, vl u v w, vi aH, vb x, vb y, vb z, vi aa, vb ab, vs ac, vl e f g, vi ad, vb n, vb o, vb p, vi q, vb r, vs s, vl a c d, vi t, vi 0] 89 (0, 0)) :: (b, Obj.cells #[vb 0, vb 0, vs (⟨#[]⟩ : Bs), vb 0, vb 0, vb 0, vi 0, vb 0, vs (⟨#[]⟩ : Bs), vl none 0 0, vi 0, vb 0, vb 0, vb 0, vi 0, vb 0, vs (⟨#[]⟩ : Bs), vl none 0 0, vi 0, vb 0, vb 0, vb 0, vi 0, vb 0, vs (⟨#[]⟩ : Bs), vl none 0 0, vi 0, vb 0, vb 0, vb 0, vi 0, vb 0, vs (⟨#[]⟩ : Bs), vl none 0 0, vi 0, vi 0] 89 (0, 0)) :: F2) ∧ Tri P 56 (#[nV x y z aa ab ac e f g ad]) I2 ((aA, Obj.cells #[vb ae, vb af, vs ag, vb ar, vb au, vb av, vi aw, vb ax, vs ay, vl h i j, vi az, vb ak, vb al, vb am, vi an, vb ao, vs ap, vl k l m, vi aq, vb x, vb y, vb z, vi aa, vb ab, vs ac, vl e f g, vi ad, vb n, vb o, vb p, vi q, vb r, vs s, vl a c d, vi t, vi 0] 89 (0, 0)) :: (b, Obj.cells #[vb 0, vb 0, vs (⟨#[]⟩ : Bs), vb 0, vb 0, vb 0, vi 0, vb 0, vs (⟨#[]⟩ : Bs), vl none 0 0, vi 0, vb 0, vb 0, vb 0, vi 0, vb 0, vs (⟨#[]⟩ : Bs), vl none 0 0, vi 0, vb 0, vb 0, vb 0, vi 0, vb 0, vs (⟨#[]⟩ : Bs), vl none 0 0, vi 0, vb 0, vb 0, vb 0, vi 0, vb 0, vs (⟨#[]⟩ : Bs), vl none 0 0, vi 0, vi 0] 89 (0, 0)) :: F2) fun e3 I3 G3 => ∃ (aL aM aN aO aP : Int) (aQ : Bs) (ah : OA) (ai aj : Nat) (aR : Int), e3 = .returned (nV aL aM aN aO aP aQ ah ai aj aR) ∧ ∃ F3 : Heap, List.Perm G3 ((aA, Obj.cells #[vb ae, vb af, vs ag, vb ar, vb au, vb av, vi aw, vb ax, vs ay, vl h i j, vi az, vb ak, vb al, vb am, vi an, vb ao, vs ap, vl k l m, vi aq, vb x, vb y, vb z, vi aa, vb ab, vs ac, vl e f g, vi ad, vb n, vb o, vb p, vi q, vb r, vs s, vl a c d, vi t, vi 0] 89 (0, 0)) :: (b, Obj.cells #[vb 0, vb 0, vs (⟨#[]⟩ : Bs), vb 0, vb 0, vb 0, vi 0, vb 0, vs (⟨#[]⟩ : Bs), vl none 0 0, vi 0, vb 0, vb 0, vb 0, vi 0, vb 0, vs (⟨#[]⟩ : Bs), vl none 0 0, vi 0, vb 0, vb 0, vb 0, vi 0, vb 0, vs (⟨#[]⟩ : Bs), vl none 0 0, vi 0, vb 0, vb 0, vb 0, vi 0, vb 0, vs (⟨#[]⟩ : Bs), vl none 0 0, vi 0, vi 0] 89 (0, 0)) :: F3) ∧ Tri P 56 (#[nV n o p q r s a c d t]) I3 ((aA, Obj.cells #[vb ae, vb af, vs ag, vb ar, vb au, vb av, vi aw, vb ax, vs ay, vl h i j, vi az, vb ak, vb al, vb am, vi an, vb ao, vs ap, vl k l m, vi aq, vb aL, vb aM, vb aN, vi aO, vb aP, vs aQ, vl ah ai aj, vi aR, vb n, vb o, vb p, vi q, vb r, vs s, vl a c d, vi t, vi 0] 89 (0, 0)) :: (b, Obj.cells #[vb 0, vb 0, vs (⟨#[]⟩ : Bs), vb 0, vb 0, vb 0, vi 0, vb 0, vs (⟨#[]⟩ : Bs), vl none 0 0, vi 0, vb 0, vb 0, vb 0, vi 0, vb 0, vs (⟨#[]⟩ : Bs), vl none 0 0, vi 0, vb 0, vb 0, vb 0, vi 0, vb 0, vs (⟨#[]⟩ : Bs), vl none 0 0, vi 0, vb 0, vb 0, vb 0, vi 0, vb 0, vs (⟨#[]⟩ : Bs), vl none 0 0, vi 0, vi 0] 89 (0, 0)) :: F3) fun e4 I4 G4 => ∃ (a2 a3 a4 a5 a6 : Int) (a7 : Bs) (aS : OA) (aT aU : Nat) (a8 : Int), e4 = .returned (nV a2 a3 a4 a5 a6 a7 aS aT aU a8) ∧ ∃ F4 : Heap, List.Perm G4 ((aA, Obj.cells #[vb ae, vb af, vs ag, vb ar, vb au, vb av, vi aw, vb ax, vs ay, vl h i j, vi az, vb ak, vb al, vb am, vi an, vb ao, vs ap, vl k l m, vi aq, vb aL, vb aM, vb aN, vi aO, vb aP, vs aQ, vl ah ai aj, vi aR, vb n, vb o, vb p, vi q, vb r, vs s, vl a c d, vi t, vi 0] 89 (0, 0)) :: (b, Obj.cells #[vb 0, vb 0, vs (⟨#[]⟩ : Bs), vb 0, vb 0, vb 0, vi 0, vb 0, vs (⟨#[]⟩ : Bs), vl none 0 0, vi 0, vb 0, vb 0, vb 0, vi 0, vb 0, vs (⟨#[]⟩ : Bs), vl none 0 0, vi 0, vb 0, vb 0, vb 0, vi 0, vb 0, vs (⟨#[]⟩ : Bs), vl none 0 0, vi 0, vb 0, vb 0, vb 0, vi 0, vb 0, vs (⟨#[]⟩ : Bs), vl none 0 0, vi 0, vi 0] 89 (0, 0)) :: F4) ∧ Q (.returned (.agg #[vb ae, vb af, vs ag, vb ar, vb au, vb av, vi aw, vb ax, vs ay, vl h i j, vi az, vb ak, vb al, vb am, vi an, vb ao, vs ap, vl k l m, vi aq, vb aL, vb aM, vb aN, vi aO, vb aP, vs aQ, vl ah ai aj, vi aR, vb a2, vb a3, vb a4, vi a5, vb a6, vs a7, vl aS aT aU, vi a8, vi 0])) I4 (F4)
theorem ref00_bareDo.vc {d_0 d_1 : Int} {d_2 : Bs} {d_3 d_4 d_5 d_6 d_7 : Int} {d_8 : Bs} {d_9_a : OA} {d_9_n d_9_c : Nat} {d_10 d_11 d_12 d_13 d_14 d_15 : Int} {d_16 : Bs} {d_17_a : OA} {d_17_n d_17_c : Nat} {d_18 d_19 d_20 d_21 d_22 d_23 : Int} {d_24 : Bs} {d_25_a : OA} {d_25_n d_25_c : Nat} {d_26 d_27 d_28 d_29 d_30 d_31 : Int} {d_32 : Bs} {d_33_a : OA} {d_33_n d_33_c : Nat} {d_34 d_35 : Int} {I : Imm} {F : Heap} {Q : PostQ}  (h : ref00_bareDo.V (fun k o t n f s a l c q => .agg #[.int .u8 k, .int .u8 o, .int .u8 t, .int .i64 n, .int .u8 f, .string s, .slice a l c, .int .i64 q]) (.int .u8) (.int .i64) .string .slice d_0 d_1 d_2 d_3 d_4 d_5 d_6 d_7 d_8 d_9_a d_9_n d_9_c d_10 d_11 d_12 d_13 d_14 d_15 d_16 d_17_a d_17_n d_17_c d_18 d_19 d_20 d_21 d_22 d_23 d_24 d_25_a d_25_n d_25_c d_26 d_27 d_28 d_29 d_30 d_31 d_32 d_33_a d_33_n d_33_c d_34 d_35 I F Q) : Tri P 92 #[.agg #[.int .u8 d_0, .int .u8 d_1, .string d_2, .int .u8 d_3, .int .u8 d_4, .int .u8 d_5, .int .i64 d_6, .int .u8 d_7, .string d_8, .slice d_9_a d_9_n d_9_c, .int .i64 d_10, .int .u8 d_11, .int .u8 d_12, .int .u8 d_13, .int .i64 d_14, .int .u8 d_15, .string d_16, .slice d_17_a d_17_n d_17_c, .int .i64 d_18, .int .u8 d_19, .int .u8 d_20, .int .u8 d_21, .int .i64 d_22, .int .u8 d_23, .string d_24, .slice d_25_a d_25_n d_25_c, .int .i64 d_26, .int .u8 d_27, .int .u8 d_28, .int .u8 d_29, .int .i64 d_30, .int .u8 d_31, .string d_32, .slice d_33_a d_33_n d_33_c, .int .i64 d_34, .int .i64 d_35]] I (F) Q :=
  tv (A := (annL [] [] [56] shT_t7 [] [] [] [] [] [] [])) (args := [.a (.v (.agg #[.int .u8 d_0, .int .u8 d_1, .string d_2, .int .u8 d_3, .int .u8 d_4, .int .u8 d_5, .int .i64 d_6, .int .u8 d_7, .string d_8, .slice d_9_a d_9_n d_9_c, .int .i64 d_10, .int .u8 d_11, .int .u8 d_12, .int .u8 d_13, .int .i64 d_14, .int .u8 d_15, .string d_16, .slice d_17_a d_17_n d_17_c, .int .i64 d_18, .int .u8 d_19, .int .u8 d_20, .int .u8 d_21, .int .i64 d_22, .int .u8 d_23, .string d_24, .slice d_25_a d_25_n d_25_c, .int .i64 d_26, .int .u8 d_27, .int .u8 d_28, .int .u8 d_29, .int .i64 d_30, .int .u8 d_31, .string d_32, .slice d_33_a d_33_n d_33_c, .int .i64 d_34, .int .i64 d_35]))]) (own := []) (keep := []) [56] Go.Proofs.Tryz.func92 h
def ref00_bareState.V (r : Nat → Nat × Obj) (nV : Int → Int → Int → Int → Int → Bs → OA → Nat → Nat → Int → Value) (vb vi : Int → Value) (vs : Bs → Value) (vl : OA → Nat → Nat → Value) (bZ : Bs) (bJ : OA) (w b0 : Nat) (b3 : Int) (I : Imm) (F : Heap) (Q : PostQ) (Inv8 : OA → Nat → Nat → Int → Nat → Imm → Heap → Imm → Heap → Prop) (Inv25 : Int → OA → Nat → Nat → Int → Nat → Imm → Heap → Imm → Heap → Prop) : Prop := ∀ t : Nat, ∀ b : Nat, (∃ m : Nat, Inv8 none 0 0 0 m I F I F) ∧ ∀ (aH : OA) (aI aJ : Nat) (i : Int) (m1 : Nat) (I1 : Imm) (F1 : Heap), Imm.le I I1 → Inv8 aH aI aJ i m1 I F I1 F1 → ((decide (i < ((w : Nat) : Int)) = true → ((0 ≤ i ∧ i < (w : Int)) ∧ ∃ ad : Addr, bJ = some ad ∧ ∃ (h j l n o : Int) (p : Bs) (c : OA) (d e : Nat) (q : Int) (f : OA) (a g : Nat) (s : Int), Rd I1 ((r t) :: (b, Obj.cells #[vs (⟨#[]⟩ : Bs), vl none 0 0, vi 0] 70 (0, 0)) :: F1) (ad.add (Int.toNat (i) * 10)) [vb h, vb j, vb l, vi n, vb o, vs p, vl c d e, vi q, vl f a g, vi s] ∧ ∀ u : Nat, (∃ m2 : Nat, Inv25 i none 0 0 0 m2 I1 F1 I1 F1) ∧ ∀ (x : OA) (y z : Nat) (k : Int) (m3 : Nat) (I2 : Imm) (F2 : Heap), Imm.le I1 I2 → Inv25 i x y z k m3 I1 F1 I2 F2 → ((decide (k < ((a : Nat) : Int)) = true → ((0 ≤ k ∧ k < (a : Int)) ∧ ∃ bY : Addr, f = some bY ∧ ∃ (aK aL : Int) (aM : Bs) (aN aO aP bK aQ : Int) (bL : Bs) (av : OA) (aw ax : Nat) (aR ay aS aT aU aV : Int) (aW : Bs) (aa : OA) (ab ac : Nat) (aX aY aZ az a0 a1 : Int) (a2 : Bs) (ae : OA) (af ag : Nat) (a3 a4 a5 a6 a7 aA : Int) (a8 : Bs) (ah : OA) (ai aj : Nat) (a9 ba : Int), Rd I2 ((r t) :: (b, Obj.cells #[vs (⟨#[]⟩ : Bs), vl none 0 0, vi 0] 70 (0, 0)) :: (u, Obj.cells #[vb h, vb j, vb l, vi n, vb o, vs p, vl c d e, vi q, vl f a g, vi s] 67 (0, 0)) :: F2) (bY.add (Int.toNat (k) * 36)) [vb aK, vb aL, vs aM, vb aN, vb aO, vb aP, vi bK, vb aQ, vs bL, vl av aw ax, vi aR, vb ay, vb aS, vb aT, vi aU, vb aV, vs aW, vl aa ab ac, vi aX, vb aY, vb aZ, vb az, vi a0, vb a1, vs a2, vl ae af ag, vi a3, vb a4, vb a5, vb a6, vi a7, vb aA, vs a8, vl ah ai aj, vi a9, vi ba] ∧ Tri P 92 (#[.agg #[vb aK, vb aL, vs aM, vb aN, vb aO, vb aP, vi bK, vb aQ, vs bL, vl av aw ax, vi aR, vb ay, vb aS, vb aT, vi aU, vb aV, vs aW, vl aa ab ac, vi aX, vb aY, vb aZ, vb az, vi a0, vb a1, vs a2, vl ae af ag, vi a3, vb a4, vb a5, vb a6, vi a7, vb aA, vs a8, vl ah ai aj, vi a9, vi ba]]) I2 ((r t) :: (b, Obj.cells #[vs (⟨#[]⟩ : Bs), vl none 0 0, vi 0] 70 (0, 0)) :: (u, Obj.cells #[vb h, vb j, vb l, vi n, vb o, vs p, vl c d e, vi q, vl f a g, vi s] 67 (0, 0)) :: F2) fun e1 I3 G1 => ∃ (bM bN : Int) (bO : Bs) (bP bQ bR bS bT : Int) (bU : Bs) (aB : OA) (aC aD : Nat) (bb bc bd be bf bg : Int) (bh : Bs) (ak : OA) (al am : Nat) (bi bj bk bl bm bn : Int) (bo : Bs) (an : OA) (ao ap : Nat) (bp bq br bs bt bu : Int) (bv : Bs) (aq : OA) (ar au : Nat) (bw bx : Int), e1 = .returned (.agg #[vb bM, vb bN, vs bO, vb bP, vb bQ, vb bR, vi bS, vb bT, vs bU, vl aB aC aD, vi bb, vb bc, vb bd, vb be, vi bf, vb bg, vs bh, vl ak al am, vi bi, vb bj, vb bk, vb bl, vi bm, vb bn, vs bo, vl an ao ap, vi bp, vb bq, vb br, vb bs, vi bt, vb bu, vs bv, vl aq ar au, vi bw, vi bx]) ∧ ∃ F3 : Heap, List.Perm G1 ((r t) :: (b, Obj.cells #[vs (⟨#[]⟩ : Bs), vl none 0 0, vi 0] 70 (0, 0)) :: (u, Obj.cells #[vb h, vb j, vb l, vi n, vb o, vs p, vl c d e, vi q, vl f a g, vi s] 67 (0, 0)) :: F3) ∧ ∀ (b1 : Nat) (I4 : Imm), Imm.le I3 I4 → I4 b1 = some (Obj.cells #[vb bM, vb bN, vs bO, vb bP, vb bQ, vb bR, vi bS, vb bT, vs bU, vl aB aC aD, vi bb, vb bc, vb bd, vb be, vi bf, vb bg, vs bh, vl ak al am, vi bi, vb bj, vb bk, vb bl, vi bm, vb bn, vs bo, vl an ao ap, vi bp, vb bq, vb br, vb bs, vi bt, vb bu, vs bv, vl aq ar au, vi bw, vi bx] 89 (0, 0)) → TriE P (Builtin.append_ #[65, 65] 65 #[vl x y z, vl (some ⟨b1, 0, none⟩) 1 1]) I4 ((r t) :: (b, Obj.cells #[vs (⟨#[]⟩ : Bs), vl none 0 0, vi 0] 70 (0, 0)) :: (u, Obj.cells #[vb h, vb j, vb l, vi n, vb o, vs p, vl c d e, vi q, vl f a g, vi s] 67 (0, 0)) :: F3) fun v I5 G2 => ∃ (bV : OA) (bW bX : Nat), v = vl bV bW bX ∧ ∃ F4 : Heap, List.Perm G2 ((r t) :: (b, Obj.cells #[vs (⟨#[]⟩ : Bs), vl none 0 0, vi 0] 70 (0, 0)) :: (u, Obj.cells #[vb h, vb j, vb l, vi n, vb o, vs p, vl c d e, vi q, vl f a g, vi s] 67 (0, 0)) :: F4) ∧ (∃ m4 : Nat, m4 < m3 ∧ Inv25 i bV bW bX (IntKind.wrap .i64 (k + 1)) m4 I1 F1 I5 F4))) ∧ (decide (k < ((a : Nat) : Int)) = false → Tri P 56 (#[nV h j l n o p c d e q]) I2 ((r t) :: (b, Obj.cells #[vs (⟨#[]⟩ : Bs), vl none 0 0, vi 0] 70 (0, 0)) :: (u, Obj.cells #[vb h, vb j, vb l, vi n, vb o, vs p, vl c d e, vi q, vl f a g, vi s] 67 (0, 0)) :: F2) fun e2 I6 G3 => ∃ (bz bA bB bC bD : Int) (bE : Bs) (aE : OA) (aF aG : Nat) (bF : Int), e2 = .returned (nV bz bA bB bC bD bE aE aF aG bF) ∧ ∃ F5 : Heap, List.Perm G3 ((r t) :: (b, Obj.cells #[vs (⟨#[]⟩ : Bs), vl none 0 0, vi 0] 70 (0, 0)) :: (u, Obj.cells #[vb h, vb j, vb l, vi n, vb o, vs p, vl c d e, vi q, vl f a g, vi s] 67 (0, 0)) :: F5) ∧ ∀ (b2 : Nat) (I7 : Imm), Imm.le I6 I7 → I7 b2 = some (Obj.cells #[vb bz, vb bA, vb bB, vi bC, vb bD, vs bE, vl aE aF aG, vi bF, vl x y z, vi 0] 67 (0, 0)) → TriE P (Builtin.append_ #[68, 68] 68 #[vl aH aI aJ, vl (some ⟨b2, 0, none⟩) 1 1]) I7 ((r t) :: (b, Obj.cells #[vs (⟨#[]⟩ : Bs), vl none 0 0, vi 0] 70 (0, 0)) :: (u, Obj.cells #[vb h, vb j, vb l, vi n, vb o, vs p, vl c d e, vi q, vl f a g, vi s] 67 (0, 0)) :: F5) fun v1 I8 G4 => ∃ (bG : OA) (bH bI : Nat), v1 = vl bG bH bI ∧ ∃ F6 : Heap, List.Perm G4 ((r t) :: (b, Obj.cells #[vs (⟨#[]⟩ : Bs), vl none 0 0, vi 0] 70 (0, 0)) :: (u, Obj.cells #[vb h, vb j, vb l, vi n, vb o, vs p, vl c d e, vi q, vl f a g, vi s] 67 (0, 0)) :: F6) ∧ (∃ m5 : Nat, m5 < m1 ∧ Inv8 bG bH bI (IntKind.wrap .i64 (i + 1)) m5 I F I8 F6))))) ∧ (decide (i < ((w : Nat) : Int)) = false → Q (.returned (.agg #[vs bZ, vl aH aI aJ, vi 0])) I1 (F1)))
theorem ref00_bareState.vc {x_0 : Bs} {x_1_a : OA} {x_1_n x_1_c : Nat} {x_2 : Int} {I : Imm} {F : Heap} {Q : PostQ} (Inv8 : OA → Nat → Nat → Int → Nat → Imm → Heap → Imm → Heap → Prop) (Inv25 : Int → OA → Nat → Nat → Int → Nat → Imm → Heap → Imm → Heap → Prop) (h : ref00_bareState.V (fun b => (b, Obj.cells #[.string x_0, .slice x_1_a x_1_n x_1_c, .int .i64 x_2] 70 (0, 0))) (fun k o t n f s a l c q => .agg #[.int .u8 k, .int .u8 o, .int .u8 t, .int .i64 n, .int .u8 f, .string s, .slice a l c, .int .i64 q]) (.int .u8) (.int .i64) .string .slice x_0 x_1_a x_1_n x_1_c x_2 I F Q Inv8 Inv25) : Tri P 57 #[.agg #[.string x_0, .slice x_1_a x_1_n x_1_c, .int .i64 x_2]] I (F) Q :=
  tv (A := (annL [3004, 8004] [] [56, 92] shT_t7 [(8, ⟨[(3, .slc), (4, (.int .i64))], [], fun fs I0 F0 vs m I F => match fs, vs with | [], [.slice y0 y1 y2, .int _ y3] => Inv8 y0 y1 y2 y3 m I0 F0 I F | _, _ => False, [], []⟩), (25, ⟨[(6, .slc), (7, (.int .i64))], [], fun fs I0 F0 vs m I F => match fs, vs with | [.int _ y0], [.slice y1 y2 y3, .int _ y4] => Inv25 y0 y1 y2 y3 y4 m I0 F0 I F | _, _ => False, [4], []⟩)] [10007, 11006] [] [] [] [] [])) (args := [.a (.v (.agg #[.string x_0, .slice x_1_a x_1_n x_1_c, .int .i64 x_2]))]) (own := []) (keep := []) [56, 92] Go.Proofs.Tryz.func57 h
def ref00_BareStrategy.V (ai : Nat → Nat × Obj) (nV : Int → Int → Int → Int → Int → Bs → OA → Nat → Nat → Int → Value) (vb vi : Int → Value) (vs : Bs → Value) (vl : OA → Nat → Nat → Value) (bd : Bs) (aY : OA) (aB be : Nat) (aZ : OA) (aC bf : Nat) (a0 : OA) (aD bg : Nat) (I : Imm) (F : Heap) (Q : PostQ) (Inv8 : Int → Bs → OA → Nat → Nat → OA → Nat → Nat → OA → Nat → Nat → Nat → Imm → Heap → Prop) (Inv25 : Int → Bs → OA → Nat → Nat → OA → Nat → Nat → OA → Nat → Nat → Nat → Imm → Heap → Prop) (Inv40 : Int → Bs → OA → Nat → Nat → OA → Nat → Nat → OA → Nat → Nat → Nat → Imm → Heap → Prop) : Prop := ∀ ak : Nat, ∀ b : Nat, ∀ al : Nat, (∃ m : Nat, Inv8 0 bd none 0 0 none 0 0 none 0 0 m I F) ∧ ∀ (i : Int) (ah : Bs) (l : OA) (n o : Nat) (p : OA) (q r : Nat) (s : OA) (t u m1 : Nat) (I1 : Imm) (F1 : Heap), Imm.le I I1 → Inv8 i ah l n o p q r s t u m1 I1 F1 → ((decide (i < ((aB : Nat) : Int)) = true → ((0 ≤ i ∧ i < (aB : Int)) ∧ ∃ ad : Addr, aY = some ad ∧ ∃ (aq : Bs) (ar au av aw ax ay : Int) (az : Bs) (am : OA) (an ao : Nat) (aA ap : Int), Rd I1 ((ai ak) :: (b, Obj.cells #[vs (⟨#[]⟩ : Bs), vl none 0 0, vl none 0 0, vl none 0 0] 26 (0, 0)) :: (al, Obj.cells #[vs ah, vl l n o, vl p q r, vl s t u] 26 (0, 0)) :: F1) (ad.add (Int.toNat (i) * 11)) [vs aq, vb ar, vb au, vb av, vb aw, vi ax, vb ay, vs az, vl am an ao, vi aA, vi ap] ∧ ∀ aN : Nat, Tri P 56 (#[nV au av aw ax ay az am an ao aA]) I1 ((ai ak) :: (b, Obj.cells #[vs (⟨#[]⟩ : Bs), vl none 0 0, vl none 0 0, vl none 0 0] 26 (0, 0)) :: (al, Obj.cells #[vs ah, vl l n o, vl p q r, vl s t u] 26 (0, 0)) :: (aN, Obj.cells #[vs aq, vb ar, vb au, vb av, vb aw, vi ax, vb ay, vs az, vl am an ao, vi aA, vi ap] 75 (0, 0)) :: F1) fun e1 I2 G1 => ∃ (a1 a2 a3 a4 a5 : Int) (a6 : Bs) (aE : OA) (aF aG : Nat) (a7 : Int), e1 = .returned (nV a1 a2 a3 a4 a5 a6 aE aF aG a7) ∧ ∃ F2 : Heap, List.Perm G1 ((ai ak) :: (b, Obj.cells #[vs (⟨#[]⟩ : Bs), vl none 0 0, vl none 0 0, vl none 0 0] 26 (0, 0)) :: (al, Obj.cells #[vs ah, vl l n o, vl p q r, vl s t u] 26 (0, 0)) :: (aN, Obj.cells #[vs aq, vb ar, vb au, vb av, vb aw, vi ax, vb ay, vs az, vl am an ao, vi aA, vi ap] 75 (0, 0)) :: F2) ∧ ∀ (b1 : Nat) (I3 : Imm), Imm.le I2 I3 → I3 b1 = some (Obj.cells #[vs aq, vb ar, vb a1, vb a2, vb a3, vi a4, vb a5, vs a6, vl aE aF aG, vi a7, vi 0] 75 (0, 0)) → TriE P (Builtin.append_ #[22, 22] 22 #[vl l n o, vl (some ⟨b1, 0, none⟩) 1 1]) I3 ((ai ak) :: (b, Obj.cells #[vs (⟨#[]⟩ : Bs), vl none 0 0, vl none 0 0, vl none 0 0] 26 (0, 0)) :: (al, Obj.cells #[vs ah, vl l n o, vl p q r, vl s t u] 26 (0, 0)) :: (aN, Obj.cells #[vs aq, vb ar, vb au, vb av, vb aw, vi ax, vb ay, vs az, vl am an ao, vi aA, vi ap] 75 (0, 0)) :: F2) fun v I4 G2 => ∃ (a8 : OA) (a9 ba : Nat), v = vl a8 a9 ba ∧ ∃ F3 : Heap, List.Perm G2 ((ai ak) :: (b, Obj.cells #[vs (⟨#[]⟩ : Bs), vl none 0 0, vl none 0 0, vl none 0 0] 26 (0, 0)) :: (al, Obj.cells #[vs ah, vl l n o, vl p q r, vl s t u] 26 (0, 0)) :: (aN, Obj.cells #[vs aq, vb ar, vb au, vb av, vb aw, vi ax, vb ay, vs az, vl am an ao, vi aA, vi ap] 75 (0, 0)) :: F3) ∧ (∃ m2 : Nat, m2 < m1 ∧ Inv8 (IntKind.wrap .i64 (i + 1)) ah a8 a9 ba p q r s t u m2 I4 F3))) ∧ (decide (i < ((aB : Nat) : Int)) = false → (∃ m3 : Nat, Inv25 0 ah l n o p q r s t u m3 I1 F1) ∧ ∀ (i1 : Int) (aj : Bs) (w : OA) (x y : Nat) (z : OA) (aa ab : Nat) (ac : OA) (ae af m4 : Nat) (I5 : Imm) (F4 : Heap), Imm.le I1 I5 → Inv25 i1 aj w x y z aa ab ac ae af m4 I5 F4 → ((decide (i1 < ((aC : Nat) : Int)) = true → ((0 ≤ i1 ∧ i1 < (aC : Int)) ∧ ∃ bb : Addr, aZ = some bb ∧ ∃ (m5 : Bs), Rd I5 ((ai ak) :: (b, Obj.cells #[vs (⟨#[]⟩ : Bs), vl none 0 0, vl none 0 0, vl none 0 0] 26 (0, 0)) :: (al, Obj.cells #[vs aj, vl w x y, vl z aa ab, vl ac ae af] 26 (0, 0)) :: F4) ((bb.add (Int.toNat (i1) * 2)).add 0) [vs m5] ∧ ∀ (b2 : Nat) (I6 : Imm), Imm.le I5 I6 → I6 b2 = some (Obj.cells #[vs m5, vi 0] 77 (0, 0)) → TriE P (Builtin.append_ #[23, 23] 23 #[vl z aa ab, vl (some ⟨b2, 0, none⟩) 1 1]) I6 ((ai ak) :: (b, Obj.cells #[vs (⟨#[]⟩ : Bs), vl none 0 0, vl none 0 0, vl none 0 0] 26 (0, 0)) :: (al, Obj.cells #[vs aj, vl w x y, vl z aa ab, vl ac ae af] 26 (0, 0)) :: F4) fun v1 I7 G3 => ∃ (aO : OA) (aP aQ : Nat), v1 = vl aO aP aQ ∧ ∃ F5 : Heap, List.Perm G3 ((ai ak) :: (b, Obj.cells #[vs (⟨#[]⟩ : Bs), vl none 0 0, vl none 0 0, vl none 0 0] 26 (0, 0)) :: (al, Obj.cells #[vs aj, vl w x y, vl z aa ab, vl ac ae af] 26 (0, 0)) :: F5) ∧ (∃ m6 : Nat, m6 < m4 ∧ Inv25 (IntKind.wrap .i64 (i1 + 1)) aj w x y aO aP aQ ac ae af m6 I7 F5))) ∧ (decide (i1 < ((aC : Nat) : Int)) = false → (∃ m7 : Nat, Inv40 0 aj w x y z aa ab ac ae af m7 I5 F4) ∧ ∀ (i2 : Int) (ag : Bs) (a : OA) (c d : Nat) (e : OA) (f g : Nat) (h : OA) (j k m8 : Nat) (I8 : Imm) (F6 : Heap), Imm.le I5 I8 → Inv40 i2 ag a c d e f g h j k m8 I8 F6 → ((decide (i2 < ((aD : Nat) : Int)) = true → ((0 ≤ i2 ∧ i2 < (aD : Int)) ∧ ∃ bc : Addr, a0 = some bc ∧ ∃ (aR : Bs) (aH : OA) (aI aJ : Nat) (aS : Int), Rd I8 ((ai ak) :: (b, Obj.cells #[vs (⟨#[]⟩ : Bs), vl none 0 0, vl none 0 0, vl none 0 0] 26 (0, 0)) :: (al, Obj.cells #[vs ag, vl a c d, vl e f g, vl h j k] 26 (0, 0)) :: F6) (bc.add (Int.toNat (i2) * 3)) [vs aR, vl aH aI aJ, vi aS] ∧ Tri P 57 (#[.agg #[vs aR, vl aH aI aJ, vi aS]]) I8 ((ai ak) :: (b, Obj.cells #[vs (⟨#[]⟩ : Bs), vl none 0 0, vl none 0 0, vl none 0 0] 26 (0, 0)) :: (al, Obj.cells #[vs ag, vl a c d, vl e f g, vl h j k] 26 (0, 0)) :: F6) fun e2 I9 G4 => ∃ (aT : Bs) (aK : OA) (aL aM : Nat) (aU : Int), e2 = .returned (.agg #[vs aT, vl aK aL aM, vi aU]) ∧ ∃ F7 : Heap, List.Perm G4 ((ai ak) :: (b, Obj.cells #[vs (⟨#[]⟩ : Bs), vl none 0 0, vl none 0 0, vl none 0 0] 26 (0, 0)) :: (al, Obj.cells #[vs ag, vl a c d, vl e f g, vl h j k] 26 (0, 0)) :: F7) ∧ ∀ (b3 : Nat) (I10 : Imm), Imm.le I9 I10 → I10 b3 = some (Obj.cells #[vs aT, vl aK aL aM, vi aU] 70 (0, 0)) → TriE P (Builtin.append_ #[24, 24] 24 #[vl h j k, vl (some ⟨b3, 0, none⟩) 1 1]) I10 ((ai ak) :: (b, Obj.cells #[vs (⟨#[]⟩ : Bs), vl none 0 0, vl none 0 0, vl none 0 0] 26 (0, 0)) :: (al, Obj.cells #[vs ag, vl a c d, vl e f g, vl h j k] 26 (0, 0)) :: F7) fun v2 I11 G5 => ∃ (aV : OA) (aW aX : Nat), v2 = vl aV aW aX ∧ ∃ F8 : Heap, List.Perm G5 ((ai ak) :: (b, Obj.cells #[vs (⟨#[]⟩ : Bs), vl none 0 0, vl none 0 0, vl none 0 0] 26 (0, 0)) :: (al, Obj.cells #[vs ag, vl a c d, vl e f g, vl h j k] 26 (0, 0)) :: F8) ∧ (∃ m9 : Nat, m9 < m8 ∧ Inv40 (IntKind.wrap .i64 (i2 + 1)) ag a c d e f g aV aW aX m9 I11 F8))) ∧ (decide (i2 < ((aD : Nat) : Int)) = false → Q (.returned (.agg #[vs ag, vl a c d, vl e f g, vl h j k])) I8 (F6)))))))
theorem ref00_BareStrategy.vc {s_0 : Bs} {s_1_a : OA} {s_1_n s_1_c : Nat} {s_2_a : OA} {s_2_n s_2_c : Nat} {s_3_a : OA} {s_3_n s_3_c : Nat} {I : Imm} {F : Heap} {Q : PostQ} (Inv8 : Int → Bs → OA → Nat → Nat → OA → Nat → Nat → OA → Nat → Nat → Nat → Imm → Heap → Prop) (Inv25 : Int → Bs → OA → Nat → Nat → OA → Nat → Nat → OA → Nat → Nat → Nat → Imm → Heap → Prop) (Inv40 : Int → Bs → OA → Nat → Nat → OA → Nat → Nat → OA → Nat → Nat → Nat → Imm → Heap → Prop) (h : ref00_BareStrategy.V (fun b => (b, Obj.cells #[.string s_0, .slice s_1_a s_1_n s_1_c, .slice s_2_a s_2_n s_2_c, .slice s_3_a s_3_n s_3_c] 26 (0, 0))) (fun k o t n f s a l c q => .agg #[.int .u8 k, .int .u8 o, .int .u8 t, .int .i64 n, .int .u8 f, .string s, .slice a l c, .int .i64 q]) (.int .u8) (.int .i64) .string .slice s_0 s_1_a s_1_n s_1_c s_2_a s_2_n s_2_c s_3_a s_3_n s_3_c I F Q Inv8 Inv25 Inv40) : Tri P 11 #[.agg #[.string s_0, .slice s_1_a s_1_n s_1_c, .slice s_2_a s_2_n s_2_c, .slice s_3_a s_3_n s_3_c]] I (F) Q :=
  tv (A := (annL [3004, 8004, 12004] [] [56, 57] shT_t7 [(8, ⟨[(4, (.int .i64))], [(2, [.str, .slc, .slc, .slc])], fun _ _ _ vs m I F => match vs with | [.int _ y0, .string y1, .slice y2 y3 y4, .slice y5 y6 y7, .slice y8 y9 y10] => Inv8 y0 y1 y2 y3 y4 y5 y6 y7 y8 y9 y10 m I F | _ => False, [], []⟩), (25, ⟨[(6, (.int .i64))], [(2, [.str, .slc, .slc, .slc])], fun _ _ _ vs m I F => match vs with | [.int _ y0, .string y1, .slice y2 y3 y4, .slice y5 y6 y7, .slice y8 y9 y10] => Inv25 y0 y1 y2 y3 y4 y5 y6 y7 y8 y9 y10 m I F | _ => False, [], []⟩), (40, ⟨[(7, (.int .i64))], [(2, [.str, .slc, .slc, .slc])], fun _ _ _ vs m I F => match vs with | [.int _ y0, .string y1, .slice y2 y3 y4, .slice y5 y6 y7, .slice y8 y9 y10] => Inv40 y0 y1 y2 y3 y4 y5 y6 y7 y8 y9 y10 m I F | _ => False, [], []⟩)] [6010, 10009, 14008] [] [] [] [(6, [0, 2, 4, 6, 1, 3, 5, 7, 8, 9, 10, 11, 12, 13]), (10, [0, 2, 4, 3, 5, 6, 1, 7, 8, 9, 10, 11, 12]), (14, [0, 2, 4, 1, 3, 5, 6, 7, 8, 9, 10, 11])] [] [] [(6, [1, 3, 5], 13), (10, [3], 12), (14, [1], 11)])) (args := [.a (.v (.agg #[.string s_0, .slice s_1_a s_1_n s_1_c, .slice s_2_a s_2_n s_2_c, .slice s_3_a s_3_n s_3_c]))]) (own := []) (keep := []) [56, 57] Go.Proofs.Tryz.func11 h
def ref00_sameDo.V (a b : Nat → Nat × Obj) (nV : Int → Int → Int → Int → Int → Bs → OA → Nat → Nat → Int → Value) (vt : Bool → Value) (af ag : Int) (ah : Bs) (a5 a6 a7 a8 a9 : Int) (ba : Bs) (z : OA) (aa ab : Nat) (al am an ao ap aq : Int) (ar : Bs) (e : OA) (f g : Nat) (au av aw ax ay az : Int) (aA : Bs) (h : OA) (i j : Nat) (aB aC aD aE aF aG : Int) (aH : Bs) (k : OA) (l m : Nat) (aI n ai aj : Int) (ak : Bs) (bb bc bd be bf : Int) (bg : Bs) (ac : OA) (ad ae : Nat) (aJ aK aL aM aN aO : Int) (aP : Bs) (o : OA) (p q : Nat) (aQ aR aS aT aU aV : Int) (aW : Bs) (s : OA) (t u : Nat) (aX aY aZ a0 a1 a2 : Int) (a3 : Bs) (v : OA) (w x : Nat) (a4 y : Int) (I : Imm) (F : Heap) (Q : PostQ)  : Prop := ∀ c : Nat, ∀ d : Nat, Tri P 58 (#[nV a5 a6 a7 a8 a9 ba z aa ab al, nV bb bc bd be bf bg ac ad ae aJ]) I ((a c) :: (b d) :: F) fun e1 I1 G1 => ∃ (r : Bool), e1 = .returned (vt r) ∧ ∃ F1 : Heap, List.Perm G1 ((a c) :: (b d) :: F1) ∧ Tri P 58 (#[nV am an ao ap aq ar e f g au, nV aK aL aM aN aO aP o p q aQ]) I1 ((a c) :: (b d) :: F1) fun e2 I2 G2 => ∃ (r1 : Bool), e2 = .returned (vt r1) ∧ ∃ F2 : Heap, List.Perm G2 ((a c) :: (b d) :: F2) ∧ Tri P 58 (#[nV av aw ax ay az aA h i j aB, nV aR aS aT aU aV aW s t u aX]) I2 ((a c) :: (b d) :: F2) fun e3 I3 G3 => ∃ (r2 : Bool), e3 = .returned (vt r2) ∧ ∃ F3 : Heap, List.Perm G3 ((a c) :: (b d) :: F3) ∧ Tri P 58 (#[nV aC aD aE aF aG aH k l m aI, nV aY aZ a0 a1 a2 a3 v w x a4]) I3 ((a c) :: (b d) :: F3) fun e4 I4 G4 => ∃ (r3 : Bool), e4 = .returned (vt r3) ∧ ∃ F4 : Heap, List.Perm G4 ((a c) :: (b d) :: F4) ∧ (((af == ai) = true → (((ag == aj) = true → (((ah.toList == ak.toList) = true → (((n == y) = true → ((r = true → ((r1 = true → ((r2 = true → Q (.returned (vt r3)) I4 (F4)) ∧ (r2 = false → Q (.returned (vt false)) I4 (F4)))) ∧ (r1 = false → Q (.returned (vt false)) I4 (F4)))) ∧ (r = false → Q (.returned (vt false)) I4 (F4)))) ∧ ((n == y) = false → Q (.returned (vt false)) I4 (F4)))) ∧ ((ah.toList == ak.toList) = false → Q (.returned (vt false)) I4 (F4)))) ∧ ((ag == aj) = false → Q (.returned (vt false)) I4 (F4)))) ∧ ((af == ai) = false → Q (.returned (vt false)) I4 (F4)))
theorem ref00_sameDo.vc {a_0 a_1 : Int} {a_2 : Bs} {a_3 a_4 a_5 a_6 a_7 : Int} {a_8 : Bs} {a_9_a : OA} {a_9_n a_9_c : Nat} {a_10 a_11 a_12 a_13 a_14 a_15 : Int} {a_16 : Bs} {a_17_a : OA} {a_17_n a_17_c : Nat} {a_18 a_19 a_20 a_21 a_22 a_23 : Int} {a_24 : Bs} {a_25_a : OA} {a_25_n a_25_c : Nat} {a_26 a_27 a_28 a_29 a_30 a_31 : Int} {a_32 : Bs} {a_33_a : OA} {a_33_n a_33_c : Nat} {a_34 a_35 b_0 b_1 : Int} {b_2 : Bs} {b_3 b_4 b_5 b_6 b_7 : Int} {b_8 : Bs} {b_9_a : OA} {b_9_n b_9_c : Nat} {b_10 b_11 b_12 b_13 b_14 b_15 : Int} {b_16 : Bs} {b_17_a : OA} {b_17_n b_17_c : Nat} {b_18 b_19 b_20 b_21 b_22 b_23 : Int} {b_24 : Bs} {b_25_a : OA} {b_25_n b_25_c : Nat} {b_26 b_27 b_28 b_29 b_30 b_31 : Int} {b_32 : Bs} {b_33_a : OA} {b_33_n b_33_c : Nat} {b_34 b_35 : Int} {I : Imm} {F : Heap} {Q : PostQ}  (h : ref00_sameDo.V (fun b => (b, Obj.cells #[.int .u8 a_0, .int .u8 a_1, .string a_2, .int .u8 a_3, .int .u8 a_4, .int .u8 a_5, .int .i64 a_6, .int .u8 a_7, .string a_8, .slice a_9_a a_9_n a_9_c, .int .i64 a_10, .int .u8 a_11, .int .u8 a_12, .int .u8 a_13, .int .i64 a_14, .int .u8 a_15, .string a_16, .slice a_17_a a_17_n a_17_c, .int .i64 a_18, .int .u8 a_19, .int .u8 a_20, .int .u8 a_21, .int .i64 a_22, .int .u8 a_23, .string a_24, .slice a_25_a a_25_n a_25_c, .int .i64 a_26, .int .u8 a_27, .int .u8 a_28, .int .u8 a_29, .int .i64 a_30, .int .u8 a_31, .string a_32, .slice a_33_a a_33_n a_33_c, .int .i64 a_34, .int .i64 a_35] 89 (0, 0))) (fun b => (b, Obj.cells #[.int .u8 b_0, .int .u8 b_1, .string b_2, .int .u8 b_3, .int .u8 b_4, .int .u8 b_5, .int .i64 b_6, .int .u8 b_7, .string b_8, .slice b_9_a b_9_n b_9_c, .int .i64 b_10, .int .u8 b_11, .int .u8 b_12, .int .u8 b_13, .int .i64 b_14, .int .u8 b_15, .string b_16, .slice b_17_a b_17_n b_17_c, .int .i64 b_18, .int .u8 b_19, .int .u8 b_20, .int .u8 b_21, .int .i64 b_22, .int .u8 b_23, .string b_24, .slice b_25_a b_25_n b_25_c, .int .i64 b_26, .int .u8 b_27, .int .u8 b_28, .int .u8 b_29, .int .i64 b_30, .int .u8 b_31, .string b_32, .slice b_33_a b_33_n b_33_c, .int .i64 b_34, .int .i64 b_35] 89 (0, 0))) (fun k o t n f s a l c q => .agg #[.int .u8 k, .int .u8 o, .int .u8 t, .int .i64 n, .int .u8 f, .string s, .slice a l c, .int .i64 q]) .bool a_0 a_1 a_2 a_3 a_4 a_5 a_6 a_7 a_8 a_9_a a_9_n a_9_c a_10 a_11 a_12 a_13 a_14 a_15 a_16 a_17_a a_17_n a_17_c a_18 a_19 a_20 a_21 a_22 a_23 a_24 a_25_a a_25_n a_25_c a_26 a_27 a_28 a_29 a_30 a_31 a_32 a_33_a a_33_n a_33_c a_34 a_35 b_0 b_1 b_2 b_3 b_4 b_5 b_6 b_7 b_8 b_9_a b_9_n b_9_c b_10 b_11 b_12 b_13 b_14 b_15 b_16 b_17_a b_17_n b_17_c b_18 b_19 b_20 b_21 b_22 b_23 b_24 b_25_a b_25_n b_25_c b_26 b_27 b_28 b_29 b_30 b_31 b_32 b_33_a b_33_n b_33_c b_34 b_35 I F Q) : Tri P 93 #[.agg #[.int .u8 a_0, .int .u8 a_1, .string a_2, .int .u8 a_3, .int .u8 a_4, .int .u8 a_5, .int .i64 a_6, .int .u8 a_7, .string a_8, .slice a_9_a a_9_n a_9_c, .int .i64 a_10, .int .u8 a_11, .int .u8 a_12, .int .u8 a_13, .int .i64 a_14, .int .u8 a_15, .string a_16, .slice a_17_a a_17_n a_17_c, .int .i64 a_18, .int .u8 a_19, .int .u8 a_20, .int .u8 a_21, .int .i64 a_22, .int .u8 a_23, .string a_24, .slice a_25_a a_25_n a_25_c, .int .i64 a_26, .int .u8 a_27, .int .u8 a_28, .int .u8 a_29, .int .i64 a_30, .int .u8 a_31, .string a_32, .slice a_33_a a_33_n a_33_c, .int .i64 a_34, .int .i64 a_35], .agg #[.int .u8 b_0, .int .u8 b_1, .string b_2, .int .u8 b_3, .int .u8 b_4, .int .u8 b_5, .int .i64 b_6, .int .u8 b_7, .string b_8, .slice b_9_a b_9_n b_9_c, .int .i64 b_10, .int .u8 b_11, .int .u8 b_12, .int .u8 b_13, .int .i64 b_14, .int .u8 b_15, .string b_16, .slice b_17_a b_17_n b_17_c, .int .i64 b_18, .int .u8 b_19, .int .u8 b_20, .int .u8 b_21, .int .i64 b_22, .int .u8 b_23, .string b_24, .slice b_25_a b_25_n b_25_c, .int .i64 b_26, .int .u8 b_27, .int .u8 b_28, .int .u8 b_29, .int .i64 b_30, .int .u8 b_31, .string b_32, .slice b_33_a b_33_n b_33_c, .int .i64 b_34, .int .i64 b_35]] I (F) Q :=
  tv (A := (annL [5004, 5010, 5017, 5024, 5027, 5030, 5033] [] [58] shT_t7 [] [] [] [] [] [] [])) (args := [.a (.v (.agg #[.int .u8 a_0, .int .u8 a_1, .string a_2, .int .u8 a_3, .int .u8 a_4, .int .u8 a_5, .int .i64 a_6, .int .u8 a_7, .string a_8, .slice a_9_a a_9_n a_9_c, .int .i64 a_10, .int .u8 a_11, .int .u8 a_12, .int .u8 a_13, .int .i64 a_14, .int .u8 a_15, .string a_16, .slice a_17_a a_17_n a_17_c, .int .i64 a_18, .int .u8 a_19, .int .u8 a_20, .int .u8 a_21, .int .i64 a_22, .int .u8 a_23, .string a_24, .slice a_25_a a_25_n a_25_c, .int .i64 a_26, .int .u8 a_27, .int .u8 a_28, .int .u8 a_29, .int .i64 a_30, .int .u8 a_31, .string a_32, .slice a_33_a a_33_n a_33_c, .int .i64 a_34, .int .i64 a_35])), .a (.v (.agg #[.int .u8 b_0, .int .u8 b_1, .string b_2, .int .u8 b_3, .int .u8 b_4, .int .u8 b_5, .int .i64 b_6, .int .u8 b_7, .string b_8, .slice b_9_a b_9_n b_9_c, .int .i64 b_10, .int .u8 b_11, .int .u8 b_12, .int .u8 b_13, .int .i64 b_14, .int .u8 b_15, .string b_16, .slice b_17_a b_17_n b_17_c, .int .i64 b_18, .int .u8 b_19, .int .u8 b_20, .int .u8 b_21, .int .i64 b_22, .int .u8 b_23, .string b_24, .slice b_25_a b_25_n b_25_c, .int .i64 b_26, .int .u8 b_27, .int .u8 b_28, .int .u8 b_29, .int .i64 b_30, .int .u8 b_31, .string b_32, .slice b_33_a b_33_n b_33_c, .int .i64 b_34, .int .i64 b_35]))]) (own := []) (keep := []) [58] Go.Proofs.Tryz.func93 h
def ref00_sameState.V (aj ak : Nat → Nat × Obj) (nV : Int → Int → Int → Int → Int → Bs → OA → Nat → Nat → Int → Value) (vb vi : Int → Value) (vs : Bs → Value) (vl : OA → Nat → Nat → Value) (vt : Bool → Value) (bT : Bs) (bR : OA) (aa b2 : Nat) (bU : Int) (bV : Bs) (bS : OA) (aA b3 : Nat) (bW : Int) (I : Imm) (F : Heap) (Q : PostQ) (Inv14 : Bool → Int → Nat → Imm → Heap → Imm → Heap → Prop) (Inv40 : Int → Bool → Int → Nat → Imm → Heap → Imm → Heap → Prop) : Prop := ∀ al : Nat, ∀ am : Nat, (((!(bT.toList == bV.toList)) = true → Q (.returned (vt false)) I (F)) ∧ ((!(bT.toList == bV.toList)) = false → (((bU != bW) = true → Q (.returned (vt false)) I (F)) ∧ ((bU != bW) = false → (((((aa : Nat) : Int) != ((aA : Nat) : Int)) = true → Q (.returned (vt false)) I (F)) ∧ ((((aa : Nat) : Int) != ((aA : Nat) : Int)) = false → (∃ m : Nat, Inv14 false 0 m I F I F) ∧ ∀ (x : Bool) (i : Int) (m1 : Nat) (I1 : Imm) (F1 : Heap), Imm.le I I1 → Inv14 x i m1 I F I1 F1 → ((decide (i < ((aa : Nat) : Int)) = true → ((0 ≤ i ∧ i < (aa : Int)) ∧ ∃ ad : Addr, bR = some ad ∧ ∃ (ab ac ae af ag : Int) (ah : Bs) (g : OA) (h j : Nat) (ai : Int) (l : OA) (a o : Nat) (z : Int), Rd I1 ((aj al) :: (ak am) :: F1) (ad.add (Int.toNat (i) * 10)) [vb ab, vb ac, vb ae, vi af, vb ag, vs ah, vl g h j, vi ai, vl l a o, vi z] ∧ ∀ an : Nat, ((0 ≤ i ∧ i < (aA : Int)) ∧ ∃ bZ : Addr, bS = some bZ ∧ ∃ (q s t u v : Int) (w : Bs) (c : OA) (d e : Nat) (y : Int) (f : OA) (b n : Nat) (p : Int), Rd I1 ((aj al) :: (ak am) :: (an, Obj.cells #[vb ab, vb ac, vb ae, vi af, vb ag, vs ah, vl g h j, vi ai, vl l a o, vi z] 67 (0, 0)) :: F1) (bZ.add (Int.toNat (i) * 10)) [vb q, vb s, vb t, vi u, vb v, vs w, vl c d e, vi y, vl f b n, vi p] ∧ ∀ az : Nat, Tri P 58 (#[nV ab ac ae af ag ah g h j ai, nV q s t u v w c d e y]) I1 ((aj al) :: (ak am) :: (an, Obj.cells #[vb ab, vb ac, vb ae, vi af, vb ag, vs ah, vl g h j, vi ai, vl l a o, vi z] 67 (0, 0)) :: (az, Obj.cells #[vb q, vb s, vb t, vi u, vb v, vs w, vl c d e, vi y, vl f b n, vi p] 67 (0, 0)) :: F1) fun e1 I2 G1 => ∃ (r : Bool), e1 = .returned (vt r) ∧ ∃ F2 : Heap, List.Perm G1 ((aj al) :: (ak am) :: (an, Obj.cells #[vb ab, vb ac, vb ae, vi af, vb ag, vs ah, vl g h j, vi ai, vl l a o, vi z] 67 (0, 0)) :: (az, Obj.cells #[vb q, vb s, vb t, vi u, vb v, vs w, vl c d e, vi y, vl f b n, vi p] 67 (0, 0)) :: F2) ∧ (((!r) = true → Q (.returned (vt false)) I2 (F2)) ∧ ((!r) = false → (((z != p) = true → Q (.returned (vt false)) I2 (F2)) ∧ ((z != p) = false → (((((a : Nat) : Int) != ((b : Nat) : Int)) = true → Q (.returned (vt false)) I2 (F2)) ∧ ((((a : Nat) : Int) != ((b : Nat) : Int)) = false → (∃ m2 : Nat, Inv40 i x 0 m2 I2 F2 I2 F2) ∧ ∀ (x1 : Bool) (k : Int) (m3 : Nat) (I3 : Imm) (F3 : Heap), Imm.le I2 I3 → Inv40 i x1 k m3 I2 F2 I3 F3 → ((decide (k < ((a : Nat) : Int)) = true → ((0 ≤ k ∧ k < (a : Int)) ∧ ∃ b0 : Addr, l = some b0 ∧ ∃ (bj bk : Int) (bl : Bs) (bm bn bo bX bp : Int) (bY : Bs) (aN : OA) (aO aP : Nat) (bq aQ aR br bs bt : Int) (bu : Bs) (aB : OA) (aC aD : Nat) (bv bw bx aS aT bz : Int) (bA : Bs) (aE : OA) (aF aG : Nat) (bB bC bD bE bF aU : Int) (aV : Bs) (aH : OA) (aI aJ : Nat) (bG bH : Int), Rd I3 ((aj al) :: (ak am) :: (an, Obj.cells #[vb ab, vb ac, vb ae, vi af, vb ag, vs ah, vl g h j, vi ai, vl l a o, vi z] 67 (0, 0)) :: (az, Obj.cells #[vb q, vb s, vb t, vi u, vb v, vs w, vl c d e, vi y, vl f b n, vi p] 67 (0, 0)) :: F3) (b0.add (Int.toNat (k) * 36)) [vb bj, vb bk, vs bl, vb bm, vb bn, vb bo, vi bX, vb bp, vs bY, vl aN aO aP, vi bq, vb aQ, vb aR, vb br, vi bs, vb bt, vs bu, vl aB aC aD, vi bv, vb bw, vb bx, vb aS, vi aT, vb bz, vs bA, vl aE aF aG, vi bB, vb bC, vb bD, vb bE, vi bF, vb aU, vs aV, vl aH aI aJ, vi bG, vi bH] ∧ ((0 ≤ k ∧ k < (b : Int)) ∧ ∃ b1 : Addr, f = some b1 ∧ ∃ (bI bJ : Int) (bK : Bs) (bL bM bN bO bP : Int) (bQ : Bs) (aK : OA) (aL aM : Nat) (aW aX aY aZ a0 a1 : Int) (a2 : Bs) (ao : OA) (ap aq : Nat) (a3 a4 a5 a6 a7 a8 : Int) (a9 : Bs) (ar : OA) (au av : Nat) (ba bb bc bd be bf : Int) (bg : Bs) (aw : OA) (ax ay : Nat) (bh bi : Int), Rd I3 ((aj al) :: (ak am) :: (an, Obj.cells #[vb ab, vb ac, vb ae, vi af, vb ag, vs ah, vl g h j, vi ai, vl l a o, vi z] 67 (0, 0)) :: (az, Obj.cells #[vb q, vb s, vb t, vi u, vb v, vs w, vl c d e, vi y, vl f b n, vi p] 67 (0, 0)) :: F3) (b1.add (Int.toNat (k) * 36)) [vb bI, vb bJ, vs bK, vb bL, vb bM, vb bN, vi bO, vb bP, vs bQ, vl aK aL aM, vi aW, vb aX, vb aY, vb aZ, vi a0, vb a1, vs a2, vl ao ap aq, vi a3, vb a4, vb a5, vb a6, vi a7, vb a8, vs a9, vl ar au av, vi ba, vb bb, vb bc, vb bd, vi be, vb bf, vs bg, vl aw ax ay, vi bh, vi bi] ∧ ∃ (r1 : Bool), (Tri P 93 (#[.agg #[vb bj, vb bk, vs bl, vb bm, vb bn, vb bo, vi bX, vb bp, vs bY, vl aN aO aP, vi bq, vb aQ, vb aR, vb br, vi bs, vb bt, vs bu, vl aB aC aD, vi bv, vb bw, vb bx, vb aS, vi aT, vb bz, vs bA, vl aE aF aG, vi bB, vb bC, vb bD, vb bE, vi bF, vb aU, vs aV, vl aH aI aJ, vi bG, vi bH], .agg #[vb bI, vb bJ, vs bK, vb bL, vb bM, vb bN, vi bO, vb bP, vs bQ, vl aK aL aM, vi aW, vb aX, vb aY, vb aZ, vi a0, vb a1, vs a2, vl ao ap aq, vi a3, vb a4, vb a5, vb a6, vi a7, vb a8, vs a9, vl ar au av, vi ba, vb bb, vb bc, vb bd, vi be, vb bf, vs bg, vl aw ax ay, vi bh, vi bi]]) I3 ((aj al) :: (ak am) :: (an, Obj.cells #[vb ab, vb ac, vb ae, vi af, vb ag, vs ah, vl g h j, vi ai, vl l a o, vi z] 67 (0, 0)) :: (az, Obj.cells #[vb q, vb s, vb t, vi u, vb v, vs w, vl c d e, vi y, vl f b n, vi p] 67 (0, 0)) :: F3) fun e2 I4 G2 => e2 = .returned (vt r1) ∧ List.Perm G2 ((aj al) :: (ak am) :: (an, Obj.cells #[vb ab, vb ac, vb ae, vi af, vb ag, vs ah, vl g h j, vi ai, vl l a o, vi z] 67 (0, 0)) :: (az, Obj.cells #[vb q, vb s, vb t, vi u, vb v, vs w, vl c d e, vi y, vl f b n, vi p] 67 (0, 0)) :: F3)) ∧ (((!r1) = true → Q (.returned (vt false)) I3 (F3)) ∧ ((!r1) = false → (∃ m4 : Nat, m4 < m3 ∧ Inv40 i x1 (IntKind.wrap .i64 (k + 1)) m4 I2 F2 I3 F3)))))) ∧ (decide (k < ((a : Nat) : Int)) = false → (∃ m5 : Nat, m5 < m1 ∧ Inv14 x1 (IntKind.wrap .i64 (i + 1)) m5 I F I3 F3)))))))))))) ∧ (decide (i < ((aa : Nat) : Int)) = false → Q (.returned (vt true)) I1 (F1)))))))))
theorem ref00_sameState.vc {a_0 : Bs} {a_1_a : OA} {a_1_n a_1_c : Nat} {a_2 : Int} {b_0 : Bs} {b_1_a : OA} {b_1_n b_1_c : Nat} {b_2 : Int} {I : Imm} {F : Heap} {Q : PostQ} (Inv14 : Bool → Int → Nat → Imm → Heap → Imm → Heap → Prop) (Inv40 : Int → Bool → Int → Nat → Imm → Heap → Imm → Heap → Prop) (h : ref00_sameState.V (fun b => (b, Obj.cells #[.string a_0, .slice a_1_a a_1_n a_1_c, .int .i64 a_2] 70 (0, 0))) (fun b => (b, Obj.cells #[.string b_0, .slice b_1_a b_1_n b_1_c, .int .i64 b_2] 70 (0, 0))) (fun k o t n f s a l c q => .agg #[.int .u8 k, .int .u8 o, .int .u8 t, .int .i64 n, .int .u8 f, .string s, .slice a l c, .int .i64 q]) (.int .u8) (.int .i64) .string .slice .bool a_0 a_1_a a_1_n a_1_c a_2 b_0 b_1_a b_1_n b_1_c b_2 I F Q Inv14 Inv40) : Tri P 59 #[.agg #[.string a_0, .slice a_1_a a_1_n a_1_c, .int .i64 a_2], .agg #[.string b_0, .slice b_1_a b_1_n b_1_c, .int .i64 b_2]] I (F) Q :=
  tv (A := (annL [1004, 1010, 1019, 4004, 9001, 9007, 9016, 12004, 15001] [] [58, 93] shT_t7 [(14, ⟨[(4, .bool), (5, (.int .i64))], [], fun fs I0 F0 vs m I F => match fs, vs with | [], [.bool y0, .int _ y1] => Inv14 y0 y1 m I0 F0 I F | _, _ => False, [], []⟩), (40, ⟨[(4, .bool), (9, (.int .i64))], [], fun fs I0 F0 vs m I F => match fs, vs with | [.int _ y0], [.bool y1, .int _ y2] => Inv40 y0 y1 y2 m I0 F0 I F | _, _ => False, [5], []⟩)] [] [] [] [] [] [])) (args := [.a (.v (.agg #[.string a_0, .slice a_1_a a_1_n a_1_c, .int .i64 a_2])), .a (.v (.agg #[.string b_0, .slice b_1_a b_1_n b_1_c, .int .i64 b_2]))]) (own := []) (keep := []) [58, 93] Go.Proofs.Tryz.func59 h
def ref00_SameStrategy.V (a b : Nat → Nat × Obj) (nV : Int → Int → Int → Int → Int → Bs → OA → Nat → Nat → Int → Value) (vb vi : Int → Value) (vs : Bs → Value) (vl : OA → Nat → Nat → Value) (vt : Bool → Value) (aN : Bs) (aH : OA) (e aV : Nat) (aI : OA) (f aW : Nat) (aJ : OA) (g aX : Nat) (aO : Bs) (aK : OA) (y aY : Nat) (aL : OA) (z aZ : Nat) (aM : OA) (aa a0 : Nat) (I : Imm) (F : Heap) (Q : PostQ) (Inv14 : Bool → Int → Nat → Imm → Heap → Prop) (Inv41 : Bool → Int → Nat → Imm → Heap → Prop) (Inv62 : Bool → Int → Nat → Imm → Heap → Prop) : Prop := ∀ c : Nat, ∀ d : Nat, (((!(aN.toList == aO.toList)) = true → Q (.returned (vt false)) I (F)) ∧ ((!(aN.toList == aO.toList)) = false → (((((e : Nat) : Int) != ((y : Nat) : Int)) = true → Q (.returned (vt false)) I (F)) ∧ ((((e : Nat) : Int) != ((y : Nat) : Int)) = false → (((((f : Nat) : Int) != ((z : Nat) : Int)) = true → Q (.returned (vt false)) I (F)) ∧ ((((f : Nat) : Int) != ((z : Nat) : Int)) = false → (((((g : Nat) : Int) != ((aa : Nat) : Int)) = true → Q (.returned (vt false)) I (F)) ∧ ((((g : Nat) : Int) != ((aa : Nat) : Int)) = false → (∃ m : Nat, Inv14 false 0 m I F) ∧ ∀ (x : Bool) (i : Int) (m1 : Nat) (I1 : Imm) (F1 : Heap), Imm.le I I1 → Inv14 x i m1 I1 F1 → ((decide (i < ((e : Nat) : Int)) = true → ((0 ≤ i ∧ i < (e : Int)) ∧ ∃ ad : Addr, aH = some ad ∧ ∃ (v : Bs) (w aj ak al am an : Int) (ao : Bs) (h : OA) (j k : Nat) (ap s : Int), Rd I1 ((a c) :: (b d) :: F1) (ad.add (Int.toNat (i) * 11)) [vs v, vb w, vb aj, vb ak, vb al, vi am, vb an, vs ao, vl h j k, vi ap, vi s] ∧ ∀ aG : Nat, ((0 ≤ i ∧ i < (y : Int)) ∧ ∃ aP : Addr, aK = some aP ∧ ∃ (t : Bs) (u ab ac ae af ag : Int) (ah : Bs) (l : OA) (n o : Nat) (ai p : Int), Rd I1 ((a c) :: (b d) :: (aG, Obj.cells #[vs v, vb w, vb aj, vb ak, vb al, vi am, vb an, vs ao, vl h j k, vi ap, vi s] 75 (0, 0)) :: F1) (aP.add (Int.toNat (i) * 11)) [vs t, vb u, vb ab, vb ac, vb ae, vi af, vb ag, vs ah, vl l n o, vi ai, vi p] ∧ ∀ aQ : Nat, Tri P 58 (#[nV aj ak al am an ao h j k ap, nV ab ac ae af ag ah l n o ai]) I1 ((a c) :: (b d) :: (aG, Obj.cells #[vs v, vb w, vb aj, vb ak, vb al, vi am, vb an, vs ao, vl h j k, vi ap, vi s] 75 (0, 0)) :: (aQ, Obj.cells #[vs t, vb u, vb ab, vb ac, vb ae, vi af, vb ag, vs ah, vl l n o, vi ai, vi p] 75 (0, 0)) :: F1) fun e1 I2 G1 => ∃ (r : Bool), e1 = .returned (vt r) ∧ ∃ F2 : Heap, List.Perm G1 ((a c) :: (b d) :: (aG, Obj.cells #[vs v, vb w, vb aj, vb ak, vb al, vi am, vb an, vs ao, vl h j k, vi ap, vi s] 75 (0, 0)) :: (aQ, Obj.cells #[vs t, vb u, vb ab, vb ac, vb ae, vi af, vb ag, vs ah, vl l n o, vi ai, vi p] 75 (0, 0)) :: F2) ∧ (((!r) = true → Q (.returned (vt false)) I2 (F2)) ∧ ((!r) = false → (((!(v.toList == t.toList)) = true → Q (.returned (vt false)) I2 (F2)) ∧ ((!(v.toList == t.toList)) = false → (((w != u) = true → Q (.returned (vt false)) I2 (F2)) ∧ ((w != u) = false → (((s != p) = true → Q (.returned (vt false)) I2 (F2)) ∧ ((s != p) = false → (∃ m2 : Nat, m2 < m1 ∧ Inv14 x (IntKind.wrap .i64 (i + 1)) m2 I2 F2)))))))))))) ∧ (decide (i < ((e : Nat) : Int)) = false → (∃ m3 : Nat, Inv41 x 0 m3 I1 F1) ∧ ∀ (x1 : Bool) (i1 : Int) (m4 : Nat) (I3 : Imm) (F3 : Heap), Imm.le I1 I3 → Inv41 x1 i1 m4 I3 F3 → ((decide (i1 < ((f : Nat) : Int)) = true → ((0 ≤ i1 ∧ i1 < (f : Int)) ∧ ∃ aR : Addr, aI = some aR ∧ ∃ (ay : Bs) (az : Int), Rd I3 ((a c) :: (b d) :: F3) (aR.add (Int.toNat (i1) * 2)) [vs ay, vi az] ∧ ((0 ≤ i1 ∧ i1 < (z : Int)) ∧ ∃ aS : Addr, aL = some aS ∧ ∃ (aA : Bs) (aB : Int), Rd I3 ((a c) :: (b d) :: F3) (aS.add (Int.toNat (i1) * 2)) [vs aA, vi aB] ∧ ∃ q : Bool, BinRun P .neq 77 (.tmp 100) (.tmp 105) (.agg #[vs ay, vi az]) (.agg #[vs aA, vi aB]) q ∧ ((q = true → Q (.returned (vt false)) I3 (F3)) ∧ (q = false → (∃ m5 : Nat, m5 < m4 ∧ Inv41 x1 (IntKind.wrap .i64 (i1 + 1)) m5 I3 F3)))))) ∧ (decide (i1 < ((f : Nat) : Int)) = false → (∃ m6 : Nat, Inv62 x1 0 m6 I3 F3) ∧ ∀ (x2 : Bool) (i2 : Int) (m7 : Nat) (I4 : Imm) (F4 : Heap), Imm.le I3 I4 → Inv62 x2 i2 m7 I4 F4 → ((decide (i2 < ((g : Nat) : Int)) = true → ((0 ≤ i2 ∧ i2 < (g : Int)) ∧ ∃ aT : Addr, aJ = some aT ∧ ∃ (aC : Bs) (av : OA) (aw ax : Nat) (aD : Int), Rd I4 ((a c) :: (b d) :: F4) (aT.add (Int.toNat (i2) * 3)) [vs aC, vl av aw ax, vi aD] ∧ ((0 ≤ i2 ∧ i2 < (aa : Int)) ∧ ∃ aU : Addr, aM = some aU ∧ ∃ (aE : Bs) (aq : OA) (ar au : Nat) (aF : Int), Rd I4 ((a c) :: (b d) :: F4) (aU.add (Int.toNat (i2) * 3)) [vs aE, vl aq ar au, vi aF] ∧ ∃ (r1 : Bool), (Tri P 59 (#[.agg #[vs aC, vl av aw ax, vi aD], .agg #[vs aE, vl aq ar au, vi aF]]) I4 ((a c) :: (b d) :: F4) fun e2 I5 G2 => e2 = .returned (vt r1) ∧ List.Perm G2 ((a c) :: (b d) :: F4)) ∧ (((!r1) = true → Q (.returned (vt false)) I4 (F4)) ∧ ((!r1) = false → (∃ m8 : Nat, m8 < m7 ∧ Inv62 x2 (IntKind.wrap .i64 (i2 + 1)) m8 I4 F4)))))) ∧ (decide (i2 < ((g : Nat) : Int)) = false → Q (.returned (vt true)) I4 (F4)))))))))))))))
theorem ref00_SameStrategy.vc {a_0 : Bs} {a_1_a : OA} {a_1_n a_1_c : Nat} {a_2_a : OA} {a_2_n a_2_c : Nat} {a_3_a : OA} {a_3_n a_3_c : Nat} {b_0 : Bs} {b_1_a : OA} {b_1_n b_1_c : Nat} {b_2_a : OA} {b_2_n b_2_c : Nat} {b_3_a : OA} {b_3_n b_3_c : Nat} {I : Imm} {F : Heap} {Q : PostQ} (Inv14 : Bool → Int → Nat → Imm → Heap → Prop) (Inv41 : Bool → Int → Nat → Imm → Heap → Prop) (Inv62 : Bool → Int → Nat → Imm → Heap → Prop) (h : ref00_SameStrategy.V (fun b => (b, Obj.cells #[.string a_0, .slice a_1_a a_1_n a_1_c, .slice a_2_a a_2_n a_2_c, .slice a_3_a a_3_n a_3_c] 26 (0, 0))) (fun b => (b, Obj.cells #[.string b_0, .slice b_1_a b_1_n b_1_c, .slice b_2_a b_2_n b_2_c, .slice b_3_a b_3_n b_3_c] 26 (0, 0))) (fun k o t n f s a l c q => .agg #[.int .u8 k, .int .u8 o, .int .u8 t, .int .i64 n, .int .u8 f, .string s, .slice a l c, .int .i64 q]) (.int .u8) (.int .i64) .string .slice .bool a_0 a_1_a a_1_n a_1_c a_2_a a_2_n a_2_c a_3_a a_3_n a_3_c b_0 b_1_a b_1_n b_1_c b_2_a b_2_n b_2_c b_3_a b_3_n b_3_c I F Q Inv14 Inv41 Inv62) : Tri P 12 #[.agg #[.string a_0, .slice a_1_a a_1_n a_1_c, .slice a_2_a a_2_n a_2_c, .slice a_3_a a_3_n a_3_c], .agg #[.string b_0, .slice b_1_a b_1_n b_1_c, .slice b_2_a b_2_n b_2_c, .slice b_3_a b_3_n b_3_c]] I (F) Q :=
  tv (A := (annL [1004, 1012, 1021, 1030, 4004, 9001, 9007, 9014, 9021, 12004, 14010, 17004, 20001] [] [58, 59] shT_t7 [(14, ⟨[(4, .bool), (5, (.int .i64))], [], fun _ _ _ vs m I F => match vs with | [.bool y0, .int _ y1] => Inv14 y0 y1 m I F | _ => False, [], []⟩), (41, ⟨[(4, .bool), (9, (.int .i64))], [], fun _ _ _ vs m I F => match vs with | [.bool y0, .int _ y1] => Inv41 y0 y1 m I F | _ => False, [], []⟩), (62, ⟨[(4, .bool), (10, (.int .i64))], [], fun _ _ _ vs m I F => match vs with | [.bool y0, .int _ y1] => Inv62 y0 y1 m I F | _ => False, [], []⟩)] [] [] [] [] [] [])) (args := [.a (.v (.agg #[.string a_0, .slice a_1_a a_1_n a_1_c, .slice a_2_a a_2_n a_2_c, .slice a_3_a a_3_n a_3_c])), .a (.v (.agg #[.string b_0, .slice b_1_a b_1_n b_1_c, .slice b_2_a b_2_n b_2_c, .slice b_3_a b_3_n b_3_c]))]) (own := []) (keep := []) [58, 59] Go.Proofs.Tryz.func12 h
def ref00_LikeStrategy.V (t u : Nat → Nat × Obj) (vs : Bs → Value) (vl : OA → Nat → Nat → Value) (av : Bs) (aa : OA) (ab ac : Nat) (ad : OA) (ae af : Nat) (ag : OA) (ah ai : Nat) (aw : Bs) (aj : OA) (ak al : Nat) (am : OA) (an ao : Nat) (ap : OA) (aq ar : Nat) (I : Imm) (F : Heap) (Q : PostQ)  : Prop := ∀ w : Nat, ∀ x : Nat, Tri P 11 (#[.agg #[vs av, vl aa ab ac, vl ad ae af, vl ag ah ai]]) I ((t w) :: (u x) :: F) fun e1 I1 G1 => ∃ (v : Bs) (a : OA) (b c : Nat) (d : OA) (e f : Nat) (g : OA) (h i : Nat), e1 = .returned (.agg #[vs v, vl a b c, vl d e f, vl g h i]) ∧ ∃ F1 : Heap, List.Perm G1 ((t w) :: (u x) :: F1) ∧ ∀ z : Nat, Tri P 11 (#[.agg #[vs aw, vl aj ak al, vl am an ao, vl ap aq ar]]) I1 ((t w) :: (u x) :: (z, Obj.cells #[vs v, vl a b c, vl d e f, vl g h i] 26 (0, 0)) :: F1) fun e2 I2 G2 => ∃ (y : Bs) (j : OA) (k l : Nat) (m : OA) (n o : Nat) (p : OA) (q s : Nat), e2 = .returned (.agg #[vs y, vl j k l, vl m n o, vl p q s]) ∧ ∃ F2 : Heap, List.Perm G2 ((t w) :: (u x) :: (z, Obj.cells #[vs v, vl a b c, vl d e f, vl g h i] 26 (0, 0)) :: F2) ∧ ∀ au : Nat, Tri P 12 (#[.agg #[vs v, vl a b c, vl d e f, vl g h i], .agg #[vs y, vl j k l, vl m n o, vl p q s]]) I2 ((t w) :: (u x) :: (z, Obj.cells #[vs v, vl a b c, vl d e f, vl g h i] 26 (0, 0)) :: (au, Obj.cells #[vs y, vl j k l, vl m n o, vl p q s] 26 (0, 0)) :: F2) fun e3 I3 G3 => ∃ (r : Bool), e3 = .returned (.bool r) ∧ ∃ F3 : Heap, List.Perm G3 ((t w) :: (u x) :: (z, Obj.cells #[vs v, vl a b c, vl d e f, vl g h i] 26 (0, 0)) :: (au, Obj.cells #[vs y, vl j k l, vl m n o, vl p q s] 26 (0, 0)) :: F3) ∧ Q (.returned (.bool r)) I3 (F3)
theorem ref00_LikeStrategy.vc {a_0 : Bs} {a_1_a : OA} {a_1_n a_1_c : Nat} {a_2_a : OA} {a_2_n a_2_c : Nat} {a_3_a : OA} {a_3_n a_3_c : Nat} {b_0 : Bs} {b_1_a : OA} {b_1_n b_1_c : Nat} {b_2_a : OA} {b_2_n b_2_c : Nat} {b_3_a : OA} {b_3_n b_3_c : Nat} {I : Imm} {F : Heap} {Q : PostQ}  (h : ref00_LikeStrategy.V (fun b => (b, Obj.cells #[.string a_0, .slice a_1_a a_1_n a_1_c, .slice a_2_a a_2_n a_2_c, .slice a_3_a a_3_n a_3_c] 26 (0, 0))) (fun b => (b, Obj.cells #[.string b_0, .slice b_1_a b_1_n b_1_c, .slice b_2_a b_2_n b_2_c, .slice b_3_a b_3_n b_3_c] 26 (0, 0))) .string .slice a_0 a_1_a a_1_n a_1_c a_2_a a_2_n a_2_c a_3_a a_3_n a_3_c b_0 b_1_a b_1_n b_1_c b_2_a b_2_n b_2_c b_3_a b_3_n b_3_c I F Q) : Tri P 13 #[.agg #[.string a_0, .slice a_1_a a_1_n a_1_c, .slice a_2_a a_2_n a_2_c, .slice a_3_a a_3_n a_3_c], .agg #[.string b_0, .slice b_1_a b_1_n b_1_c, .slice b_2_a b_2_n b_2_c, .slice b_3_a b_3_n b_3_c]] I (F) Q :=
  tv (A := (annL [] [] [11, 12] shT_t7 [] [] [] [] [] [] [])) (args := [.a (.v (.agg #[.string a_0, .slice a_1_a a_1_n a_1_c, .slice a_2_a a_2_n a_2_c, .slice a_3_a a_3_n a_3_c])), .a (.v (.agg #[.string b_0, .slice b_1_a b_1_n b_1_c, .slice b_2_a b_2_n b_2_c, .slice b_3_a b_3_n b_3_c]))]) (own := []) (keep := []) [11, 12] Go.Proofs.Tryz.func13 h
def law12_far.V (vl : OA → Nat → Nat → Value) (j : Bs) (a : OA) (b c : Nat) (d : OA) (e f : Nat) (g : OA) (h i : Nat) (I : Imm) (F : Heap) (Q : PostQ)  : Prop := ∀ k : Nat, Tri P 26 (#[.agg #[.string j, vl a b c, vl d e f, vl g h i]]) I ((k, Obj.cells #[.string j, vl a b c, vl d e f, vl g h i] 26 (0, 0)) :: F) fun e1 I1 G1 => ∃ (r : Int), e1 = .returned (.int .i64 r) ∧ ∃ F1 : Heap, List.Perm G1 ((k, Obj.cells #[.string j, vl a b c, vl d e f, vl g h i] 26 (0, 0)) :: F1) ∧ Q (.returned (.bool (decide (r > 1048576)))) I1 (F1)
theorem law12_far.vc {s_0 : Bs} {s_1_a : OA} {s_1_n s_1_c : Nat} {s_2_a : OA} {s_2_n s_2_c : Nat} {s_3_a : OA} {s_3_n s_3_c : Nat} {I : Imm} {F : Heap} {Q : PostQ}  (h : law12_far.V .slice s_0 s_1_a s_1_n s_1_c s_2_a s_2_n s_2_c s_3_a s_3_n s_3_c I F Q) : Tri P 5 #[.agg #[.string s_0, .slice s_1_a s_1_n s_1_c, .slice s_2_a s_2_n s_2_c, .slice s_3_a s_3_n s_3_c]] I (F) Q :=
  tv (A := (annL [] [] [26] shT_t7 [] [] [] [] [] [] [])) (args := [.a (.v (.agg #[.string s_0, .slice s_1_a s_1_n s_1_c, .slice s_2_a s_2_n s_2_c, .slice s_3_a s_3_n s_3_c]))]) (own := []) (keep := []) [26] Go.Proofs.Tryz.func5 h
end Go.Lx
namespace Go.Lx
open Go.Vc
def DoP.Short (d : DoP) : Prop := d.name.size ≤ 140737488351232 ∧ ∀ x ∈ d.nds, x.ShortP
def RuleP.Short (r : RuleP) : Prop := r.when.ShortP ∧ r.dos.length ≤ 140737488351232 ∧ ∀ d ∈ r.dos, d.Short
def StateP.Short (x : StateP) : Prop := x.name.size ≤ 140737488351232 ∧ x.rules.length ≤ 140737488351232 ∧ ∀ r ∈ x.rules, r.Short
def RegP.Short (r : RegP) : Prop := r.name.size ≤ 140737488351232 ∧ r.init.ShortP
def SlotP.Short (r : SlotP) : Prop := r.name.size ≤ 140737488351232
structure StgP.Short (s : StgP) : Prop where
  name : s.name.size ≤ 140737488351232
  regs : s.regs.length ≤ 140737488351232
  reg : ∀ r ∈ s.regs, r.Short
  slots : s.slots.length ≤ 140737488351232
  slot : ∀ r ∈ s.slots, r.Short
  states : s.states.length ≤ 140737488351232
  state : ∀ x ∈ s.states, x.Short
def DoP.Light (d : DoP) : Prop := Small d.nds
def RuleP.Light (r : RuleP) : Prop := r.when.size ≤ 1048576 ∧ r.dos.length ≤ 1048576 ∧ ∀ d ∈ r.dos, d.Light
def StateP.Light (x : StateP) : Prop := x.rules.length ≤ 1048576 ∧ ∀ r ∈ x.rules, r.Light
def sumI {α : Type} (f : α → Int) : List α → Int
  | [] => 0
  | x :: r => f x + sumI f r
theorem sumI_nonneg {α : Type} {f : α → Int} (h : ∀ x, 0 ≤ f x) : ∀ l, 0 ≤ sumI f l
  | [] => Int.le_refl _
  | x :: r => by have := sumI_nonneg h r; have := h x; rw [sumI]; omega
theorem sumI_len {α : Type} {f : α → Int} (h : ∀ x, 1 ≤ f x) : ∀ l : List α, (l.length : Int) ≤ sumI f l
  | [] => Int.le_refl _
  | x :: r => by have := sumI_len h r; have := h x; rw [sumI, List.length_cons]; omega
theorem sumI_mem {α : Type} {f : α → Int} (h : ∀ x, 0 ≤ f x) : ∀ {l : List α} {x : α}, x ∈ l → f x ≤ sumI f l
  | y :: r, x, hx => by
    have h1 := sumI_nonneg h r
    have h2 := h y
    rw [sumI]
    rcases List.mem_cons.1 hx with rfl | hx
    · omega
    · have := sumI_mem h hx; omega
theorem sumI_app {α : Type} (f : α → Int) : ∀ l m : List α, sumI f (l ++ m) = sumI f l + sumI f m
  | [], m => by rw [List.nil_append, sumI]; omega
  | x :: l, m => by rw [List.cons_append, sumI, sumI, sumI_app f l m]; omega
theorem sumI_map {α β : Type} (f : α → Int) (g : β → α) : ∀ l : List β, sumI f (l.map g) = sumI (fun x => f (g x)) l
  | [] => rfl
  | x :: l => by rw [List.map_cons, sumI, sumI, sumI_map f g l]
theorem sumI_take {α : Type} (f : α → Int) {l : List α} {i : Nat} {x : α} (hx : l[i]? = some x) : sumI f (l.take (i + 1)) = sumI f (l.take i) + f x := by
  obtain ⟨hi, rfl⟩ := List.getElem?_eq_some_iff.1 hx
  rw [List.take_succ_eq_append_getElem hi, sumI_app, sumI, sumI]; omega
theorem sumI_full {α : Type} (f : α → Int) {l : List α} {i : Nat} (hi : l.length ≤ i) : sumI f (l.take i) = sumI f l := by rw [List.take_of_length_le hi]
def DoP.mass (d : DoP) : Int := 1 + d.side.size + d.qty.size + d.price.size + d.value.size
def RuleP.mass (r : RuleP) : Int := 1 + r.when.size + sumI DoP.mass r.dos
def StateP.mass (x : StateP) : Int := 1 + sumI RuleP.mass x.rules
def RegP.mass (r : RegP) : Int := 1 + r.init.size
def StgP.mass (s : StgP) : Int := sumI RegP.mass s.regs + s.slots.length + sumI StateP.mass s.states
theorem DoP.mass_pos (d : DoP) : 1 ≤ d.mass := by
  have q1 := Px.size_pos d.side
  have q2 := Px.size_pos d.qty
  have q3 := Px.size_pos d.price
  have q4 := Px.size_pos d.value
  unfold DoP.mass; omega
theorem RuleP.mass_pos (r : RuleP) : 1 ≤ r.mass := by
  have q1 := Px.size_pos r.when
  have q2 := sumI_nonneg (fun x => Int.le_trans (by decide) (DoP.mass_pos x)) r.dos
  unfold RuleP.mass; omega
theorem StateP.mass_pos (x : StateP) : 1 ≤ x.mass := by
  have q2 := sumI_nonneg (fun x => Int.le_trans (by decide) (RuleP.mass_pos x)) x.rules
  unfold StateP.mass; omega
theorem RegP.mass_pos (r : RegP) : 1 ≤ r.mass := by
  have q1 := Px.size_pos r.init
  unfold RegP.mass; omega
structure StgP.Light (s : StgP) : Prop where
  regs : s.regs.length ≤ 1048576
  reg : ∀ r ∈ s.regs, r.init.size ≤ 1048576
  slots : s.slots.length ≤ 1048576
  states : s.states.length ≤ 1048576
  state : ∀ x ∈ s.states, x.Light
  all : s.mass ≤ 1048576
theorem DoP.light {d : DoP} (h : d.mass ≤ 1048576) : d.Light := fun x hx => by
  have q1 := Px.size_pos d.side
  have q2 := Px.size_pos d.qty
  have q3 := Px.size_pos d.price
  have q4 := Px.size_pos d.value
  unfold DoP.mass at h
  simp only [DoP.nds, List.mem_cons, List.not_mem_nil, or_false] at hx
  rcases hx with rfl | rfl | rfl | rfl <;> omega
theorem RuleP.light {r : RuleP} (h : r.mass ≤ 1048576) : r.Light := by
  have q1 := Px.size_pos r.when
  have q2 := sumI_len DoP.mass_pos r.dos
  unfold RuleP.mass at h
  refine ⟨by omega, by omega, fun d hd => DoP.light ?_⟩
  have := sumI_mem (fun x => Int.le_trans (by decide) (DoP.mass_pos x)) hd
  omega
theorem StateP.light {x : StateP} (h : x.mass ≤ 1048576) : x.Light := by
  have q2 := sumI_len RuleP.mass_pos x.rules
  unfold StateP.mass at h
  refine ⟨by omega, fun d hd => RuleP.light ?_⟩
  have := sumI_mem (fun x => Int.le_trans (by decide) (RuleP.mass_pos x)) hd
  omega
theorem StgP.light {s : StgP} (h : s.mass ≤ 1048576) : s.Light := by
  have h' := h
  have q1 := sumI_len RegP.mass_pos s.regs
  have q2 := sumI_len StateP.mass_pos s.states
  unfold StgP.mass at h
  refine ⟨by omega, fun r hr => ?_, by omega, by omega, fun x hx => StateP.light ?_, h'⟩
  · have := sumI_mem (fun x => Int.le_trans (by decide) (RegP.mass_pos x)) hr
    have hm : r.mass = 1 + r.init.size := rfl
    omega
  · have := sumI_mem (fun x => Int.le_trans (by decide) (StateP.mass_pos x)) hx
    omega
def DoN.mass (d : DoN) : Int := d.p.mass
def RuleN.mass (r : RuleN) : Int := r.p.mass
def StateN.mass (r : StateN) : Int := r.p.mass
def RegN.mass (r : RegN) : Int := r.p.mass
theorem RuleN.mass_eq (r : RuleN) : r.mass = 1 + r.when.px.size + sumI DoN.mass r.dos := by
  show 1 + r.when.px.size + sumI DoP.mass (r.dos.map DoN.p) = _
  rw [sumI_map]; rfl
theorem StateN.mass_eq (r : StateN) : r.mass = 1 + sumI RuleN.mass r.rules := by
  show 1 + sumI RuleP.mass (r.rules.map RuleN.p) = _
  rw [sumI_map]; rfl
theorem StgN.mass_eq (s : StgN) : s.p.mass = sumI RegN.mass s.regs + s.slots.length + sumI StateN.mass s.states := by
  show sumI RegP.mass (s.regs.map RegN.p) + s.slots.length + sumI StateP.mass (s.states.map StateN.p) = _
  rw [sumI_map, sumI_map]; rfl
theorem StgP.Light.small {s : StgP} (h : s.Light) : Small s.nds := fun x hx => by
  simp only [StgP.nds, List.mem_append, List.mem_map, List.mem_flatMap] at hx
  rcases hx with ⟨r, hr, rfl⟩ | ⟨y, hy, r, hr, hx⟩
  · exact h.reg r hr
  · obtain ⟨_, h1⟩ := h.state y hy
    obtain ⟨h2, _, h3⟩ := h1 r hr
    unfold RuleP.nds at hx
    rcases List.mem_cons.1 hx with rfl | hx
    · exact h2
    · obtain ⟨d, hd, hx⟩ := List.mem_flatMap.1 hx
      exact h3 d hd x hx
theorem StgP.Light.lens {s : StgN} (h : s.p.Light) : s.Lens := by
  have l1 := h.regs
  have l2 := h.slots
  have l3 := h.states
  simp only [StgN.p, List.length_map] at l1 l2 l3
  refine ⟨by omega, by omega, by omega, fun x hx => ?_, fun x hx r hr => ?_⟩
  · have := (h.state x.p (List.mem_map_of_mem hx)).1
    simp only [StateN.p, List.length_map] at this
    omega
  · have := ((h.state x.p (List.mem_map_of_mem hx)).2 r.p (List.mem_map_of_mem hr)).2.1
    simp only [RuleN.p, List.length_map] at this
    omega
theorem weighL_le (d : Int) : ∀ (l : List Px), (∀ x ∈ l, ∀ n, x.weigh n d ≤ max n 1048576 + 140737488351233) → ∀ n, Px.weighL l n d ≤ max n (1048576 + 140737488351233)
  | [], _, n => by rw [Px.weighL]; omega
  | x :: r, h, n => by
    rw [Px.weighL]
    split
    · have h1 := h x (List.mem_cons_self ..) n
      have h2 := weighL_le d r (fun y hy => h y (List.mem_cons_of_mem _ hy)) (x.weigh n d)
      omega
    · omega
theorem weigh_le : ∀ {x : Px}, x.ShortP → ∀ n d : Int, x.weigh n d ≤ max n 1048576 + 140737488351233 := by
  intro x h
  induction h with
  | mk h1 h2 h3 ih =>
    rename_i x
    intro n d
    rw [Px.weigh_eq]
    split
    · omega
    · have := weighL_le (d + 1) x.kids (fun y hy n => ih y hy n (d + 1)) (n + 1 + x.name.size)
      omega
theorem Rd.part {I : Imm} {G : Heap} {ad : Addr} {cs xs ds ys : List Value} (h : Rd I G ad cs) {o : Nat} (e : cs = xs ++ (ds ++ ys)) (ho : xs.length = o) : Rd I G (ad.add o) ds := by
  obtain ⟨h1, cells, t, fz, h2, h3⟩ := h
  have hadd : ad.add o = ⟨ad.block, ad.off + o, none⟩ := by
    obtain ⟨b, off, sp⟩ := ad
    simp only at h1; subst h1
    unfold Addr.add; split <;> simp_all
  rw [hadd]
  refine ⟨rfl, cells, t, fz, h2, fun j hj => ?_⟩
  have := h3 (o + j) (by rw [e]; simp only [List.length_append]; omega)
  rw [← Nat.add_assoc] at this
  rw [this, e, List.getElem?_append_right (by omega), show o + j - xs.length = j by omega, List.getElem?_append_left hj]
theorem weighDo_spec (d : DoN) (hs : d.p.Short) (n : Int) (h0 : 0 ≤ n) (h1 : n ≤ 10000000) (I : Imm) (F : Heap) (hd : d.Ok I F) : Tri P 88 #[d.v, .int .i64 n] I F fun e I' G => ∃ r : Int, e = .returned (.int .i64 r) ∧ G = F ∧
    0 ≤ r ∧ r ≤ 1000000000000000 ∧ (r ≤ 1048576 → n + d.mass ≤ r + 1) := by
  refine ref00_weighDo.vc ?_
  unfold ref00_weighDo.V
  intro b_d
  have hnm := hs.1
  have hsh := hs.2
  simp only [DoP.nds, List.mem_cons, List.not_mem_nil, or_false] at hsh
  have s1 : d.side.px.ShortP := hsh _ (.inl rfl)
  have s2 : d.qty.px.ShortP := hsh _ (.inr (.inl rfl))
  have s3 : d.price.px.ShortP := hsh _ (.inr (.inr (.inl rfl)))
  have s4 : d.value.px.ShortP := hsh _ (.inr (.inr (.inr rfl)))
  have hnm' : d.name.size ≤ 140737488351232 := hnm
  rw [w64 (n := n + _) (by omega)]
  have ok : ∀ {J : Imm}, Imm.le I J → d.Ok J ((b_d, Obj.cells #[.int .u8 d.kind, .int .u8 d.order, .string d.name, .int .u8 d.side.kind, .int .u8 d.side.oper, .int .u8 d.side.typ, .int .i64 d.side.n, .int .u8 d.side.field, .string d.side.name, .slice d.side.a d.side.kids.length d.side.c, .int .i64 d.side.pos, .int .u8 d.qty.kind, .int .u8 d.qty.oper, .int .u8 d.qty.typ, .int .i64 d.qty.n, .int .u8 d.qty.field, .string d.qty.name, .slice d.qty.a d.qty.kids.length d.qty.c, .int .i64 d.qty.pos, .int .u8 d.price.kind, .int .u8 d.price.oper, .int .u8 d.price.typ, .int .i64 d.price.n, .int .u8 d.price.field, .string d.price.name, .slice d.price.a d.price.kids.length d.price.c, .int .i64 d.price.pos, .int .u8 d.value.kind, .int .u8 d.value.oper, .int .u8 d.value.typ, .int .i64 d.value.n, .int .u8 d.value.field, .string d.value.name, .slice d.value.a d.value.kids.length d.value.c, .int .i64 d.value.pos, .int .i64 d.pos] 89 (0, 0)) :: F) := fun hl => (hd.mono hl fun _ h => h).cons
  have e1 := weigh_le s1 (n + d.name.size) 0
  have p1 := Px.weigh_pos d.side.px (n + d.name.size) 0 (by omega)
  have z1 := Px.weigh_size d.side.px (n + d.name.size) 0
  generalize hw1 : d.side.px.weigh (n + d.name.size) 0 = a1 at *
  have e2 := weigh_le s2 a1 0
  have p2 := Px.weigh_pos d.qty.px a1 0 p1
  have z2 := Px.weigh_size d.qty.px a1 0
  generalize hw2 : d.qty.px.weigh a1 0 = a2 at *
  have e3 := weigh_le s3 a2 0
  have p3 := Px.weigh_pos d.price.px a2 0 p2
  have z3 := Px.weigh_size d.price.px a2 0
  generalize hw3 : d.price.px.weigh a2 0 = a3 at *
  have e4 := weigh_le s4 a3 0
  have p4 := Px.weigh_pos d.value.px a3 0 p3
  have z4 := Px.weigh_size d.value.px a3 0
  generalize hw4 : d.value.px.weigh a3 0 = a4 at *
  refine Tri.ret (weigh_spec d.side s1 _ 0 I _ (ok (Imm.le_refl I)).1 (by omega) (by omega) (by decide) (by decide)) fun I1 l1 => ⟨_, rfl, F, .refl _, ?_⟩
  rw [hw1]
  refine Tri.ret (weigh_spec d.qty s2 _ 0 I1 _ (ok l1).2.1 (by omega) (by omega) (by decide) (by decide)) fun I2 h2 => ⟨_, rfl, F, .refl _, ?_⟩
  have l2 := Imm.le_trans l1 h2
  rw [hw2]
  refine Tri.ret (weigh_spec d.price s3 _ 0 I2 _ (ok l2).2.2.1 (by omega) (by omega) (by decide) (by decide)) fun I3 h3 => ⟨_, rfl, F, .refl _, ?_⟩
  have l3 := Imm.le_trans l2 h3
  rw [hw3]
  refine Tri.ret (weigh_spec d.value s4 _ 0 I3 _ (ok l3).2.2.2 (by omega) (by omega) (by decide) (by decide)) fun I4 h4 => ⟨_, rfl, F, .refl _, ?_⟩
  rw [hw4]
  refine ⟨_, rfl, rfl, p4, by omega, fun hle => ?_⟩
  have q1 := Px.size_pos d.side.px
  have q2 := Px.size_pos d.qty.px
  have q3 := Px.size_pos d.price.px
  have q4 := Px.size_pos d.value.px
  have y4 := z4 (by omega)
  have y3 := z3 (by omega)
  have y2 := z2 (by omega)
  have y1 := z1 (by omega)
  show n + (1 + d.side.px.size + d.qty.px.size + d.price.px.size + d.value.px.size) ≤ a4 + 1
  omega
end Go.Lx
namespace Go.Lx
open Go.Vc
set_option maxHeartbeats 2000000 in
theorem weighStg_spec (s : StgN) (hs : s.p.Short) (I : Imm) (F : Heap) (hok : s.Ok I F) : Tri P 26 #[s.v] I F fun e I' G => ∃ r : Int, e = .returned (.int .i64 r) ∧ G = F ∧ (r ≤ 1048576 → s.p.Light) := by
  have lr := hs.regs
  have ls := hs.slots
  have lt := hs.states
  have ln := hs.name
  simp only [StgN.p, List.length_map] at lr ls lt ln
  have hnm : ∀ r ∈ s.regs, r.p.Short := fun r hr => hs.reg _ (List.mem_map_of_mem hr)
  have hst : ∀ x ∈ s.states, x.p.Short := fun x hx => hs.state _ (List.mem_map_of_mem hx)
  have hru : ∀ x ∈ s.states, ∀ r ∈ x.rules, r.p.Short := fun x hx r hr => (hst x hx).2.2 _ (List.mem_map_of_mem hr)
  have hdo : ∀ x ∈ s.states, ∀ r ∈ x.rules, ∀ d ∈ r.dos, d.p.Short := fun x hx r hr d hd => (hru x hx r hr).2.2 _ (List.mem_map_of_mem hd)
  have hrl : ∀ x ∈ s.states, x.rules.length ≤ 140737488351232 := fun x hx => by have := (hst x hx).2.1; simpa only [StateN.p, List.length_map] using this
  have hdl : ∀ x ∈ s.states, ∀ r ∈ x.rules, r.dos.length ≤ 140737488351232 := fun x hx r hr => by have := (hru x hx r hr).2.1; simpa only [RuleN.p, List.length_map] using this
  refine ref00_WeighStrategy.vc
    (fun n I0 F0 I' F' => F' = F ∧ 0 ≤ n ∧ n ≤ 2000000000000000 ∧ (n ≤ 1048576 → sumI RegN.mass s.regs ≤ n))
    (fun n i m I0 F0 I' F' => F' = F ∧ 0 ≤ i ∧ i ≤ s.regs.length ∧ m = (s.regs.length - i).toNat ∧ 0 ≤ n ∧ n ≤ 2000000000000000 ∧ (n ≤ 1048576 → sumI RegN.mass (s.regs.take i.toNat) ≤ n))
    (fun n I0 F0 I' F' => F' = F ∧ 0 ≤ n ∧ n ≤ 2000000000000000 ∧ (n ≤ 1048576 → sumI RegN.mass s.regs + s.slots.length ≤ n))
    (fun n i m I0 F0 I' F' => F' = F ∧ 0 ≤ i ∧ i ≤ s.slots.length ∧ m = (s.slots.length - i).toNat ∧ 0 ≤ n ∧ n ≤ 2000000000000000 ∧ (n ≤ 1048576 → sumI RegN.mass s.regs + i ≤ n))
    (fun n I0 F0 I' F' => F' = F ∧ (n ≤ 1048576 → s.p.Light))
    (fun n i m I0 F0 I' F' => F' = F ∧ 0 ≤ i ∧ i ≤ s.states.length ∧ m = (s.states.length - i).toNat ∧ 0 ≤ n ∧ n ≤ 2000000000000000 ∧ (n ≤ 1048576 → sumI RegN.mass s.regs + s.slots.length + sumI StateN.mass (s.states.take i.toNat) ≤ n))
    (fun i n k m I0 F0 I' F' => F' = F ∧ ∃ x, s.states[i.toNat]? = some x ∧ 0 ≤ k ∧ k ≤ x.rules.length ∧ m = (x.rules.length - k).toNat ∧ 0 ≤ n ∧ n ≤ 2000000000000000 ∧
      (n ≤ 1048576 → sumI RegN.mass s.regs + s.slots.length + sumI StateN.mass (s.states.take i.toNat) + 1 + sumI RuleN.mass (x.rules.take k.toNat) ≤ n))
    (fun i k n j m I0 F0 I' F' => F' = F ∧ ∃ x r, s.states[i.toNat]? = some x ∧ x.rules[k.toNat]? = some r ∧ 0 ≤ j ∧ j ≤ r.dos.length ∧ m = (r.dos.length - j).toNat ∧ 0 ≤ n ∧ n ≤ 2000000000000000 ∧
      (n ≤ 1048576 → sumI RegN.mass s.regs + s.slots.length + sumI StateN.mass (s.states.take i.toNat) + 1 + sumI RuleN.mass (x.rules.take k.toNat) + 1 + r.when.px.size + sumI DoN.mass (r.dos.take j.toNat) ≤ n)) ?_
  unfold ref00_WeighStrategy.V
  intro b_s
  have ok : ∀ {J : Imm}, Imm.le I J → s.Ok J ((b_s, Obj.cells #[.string s.name, .slice s.ra s.regs.length s.rc, .slice s.sa s.slots.length s.sc, .slice s.ta s.states.length s.tc] 26 (0, 0)) :: F) := fun hl => (hok.mono hl fun _ h => h).cons
  refine ⟨⟨⟨_, rfl, by omega, by omega, rfl, by omega, by omega, fun _ => by simp only [Int.toNat_zero, List.take_zero, sumI]; omega⟩, fun n i m I1 F1 l1 ⟨gF, g0, g1, gm, gn, gb, gl⟩ => ?_⟩, fun n1 I3 F2 l3 ⟨gF, gn, gb, gl⟩ => ?_⟩
  · subst gF
    refine ⟨fun hlt => ⟨fun hle => ?_, fun hle => ⟨rfl, gn, gb, fun h => absurd h (of_decide_eq_false hle)⟩⟩, fun hlt => ⟨rfl, gn, gb, fun h => ?_⟩⟩
    · have hlt := of_decide_eq_true hlt
      have hle := of_decide_eq_true hle
      obtain ⟨ad, r, had, hr, hrd, hrm⟩ := SlG.atm (ok l1).regs g0 hlt
      have hsh := hnm r hrm
      have hna : r.name.size ≤ 140737488351232 := hsh.1
      have hin : r.init.px.ShortP := hsh.2
      rw [w64 (n := n + 1) (by omega)]
      have e2 : IntKind.wrap .i64 (n + 1 + (r.name.size : Int)) = n + 1 + r.name.size := w64 (by omega)
      have u1 := weigh_le hin (n + 1 + r.name.size) 0
      have u2 := Px.weigh_pos r.init.px (n + 1 + r.name.size) 0 (by omega)
      have u3 := Px.weigh_size r.init.px (n + 1 + r.name.size) 0
      have u4 := Px.size_pos r.init.px
      refine ⟨⟨g0, hlt⟩, ad, had, _, _, _, _, _, _, _, _, _, _, Rd.part hrd (xs := [.string r.name, .int .u8 r.typ]) (ds := r.init.enc) (ys := [.int .i64 r.pos]) rfl rfl, ⟨g0, hlt⟩, ad, had, r.name, hrd.field (o := 0) rfl, r.init.px.weigh (n + 1 + r.name.size) 0, ?_, (s.regs.length - (i + 1)).toNat, by omega, rfl, ?_⟩
      · rw [e2]
        exact Tri.ret (weigh_spec r.init hin _ 0 I1 _ ((ok l1).reg r hrm) (by omega) (by omega) (by decide) (by decide)) fun _ _ => ⟨rfl, .refl _⟩
      rw [w64 (n := i + 1) (by omega)]
      refine ⟨by omega, by omega, rfl, u2, by omega, fun h => ?_⟩
      have u5 := u3 h
      have v1 := gl hle
      have hma : r.mass = 1 + r.init.px.size := rfl
      rw [show (i + 1).toNat = i.toNat + 1 by omega, sumI_take _ hr]
      omega
    · have hlt := of_decide_eq_false hlt
      have v1 := gl h
      rw [sumI_full _ (by omega)] at v1
      exact v1
  · subst gF
    refine ⟨⟨⟨_, rfl, by omega, by omega, rfl, gn, gb, fun h => by have := gl h; omega⟩, fun n i m I4 F3 l4 ⟨gF, g0, g1, gm, gn, gb, gl⟩ => ?_⟩, fun n3 I5 F4 l5 ⟨gF, gn, gb, gl⟩ => ?_⟩
    · subst gF
      have l4 := Imm.le_trans l3 l4
      refine ⟨fun hlt => ⟨fun hle => ?_, fun hle => ⟨rfl, gn, gb, fun h => absurd h (of_decide_eq_false hle)⟩⟩, fun hlt => ⟨rfl, gn, gb, fun h => ?_⟩⟩
      · have hlt := of_decide_eq_true hlt
        have hle := of_decide_eq_true hle
        obtain ⟨ad, r, had, hr, hrd, hrm⟩ := SlG.atm (ok l4).slots g0 hlt
        have hna : r.name.size ≤ 140737488351232 := hs.slot r hrm
        rw [w64 (n := n + 1) (by omega)]
        refine ⟨⟨g0, hlt⟩, ad, had, r.name, hrd.field (o := 0) rfl, (s.slots.length - (i + 1)).toNat, by omega, rfl, ?_⟩
        rw [w64 (n := i + 1) (by omega), w64 (n := n + 1 + (r.name.size : Int)) (by omega)]
        refine ⟨by omega, by omega, rfl, by omega, by omega, fun h => ?_⟩
        have v1 := gl hle
        omega
      · have hlt := of_decide_eq_false hlt
        have v1 := gl h
        omega
    · subst gF
      have l5 := Imm.le_trans l3 l5
      refine ⟨⟨⟨_, rfl, by omega, by omega, rfl, gn, gb, fun h => by have := gl h; simp only [Int.toNat_zero, List.take_zero, sumI]; omega⟩, fun n i m I6 F5 l6 ⟨gF, g0, g1, gm, gn, gb, gl⟩ => ?_⟩, fun n7 I7 F6 l7 ⟨gF, gl⟩ => ?_⟩
      · subst gF
        have l6 := Imm.le_trans l5 l6
        refine ⟨fun hlt => ⟨fun hle => ?_, fun hle => ⟨rfl, fun h => absurd h (of_decide_eq_false hle)⟩⟩, fun hlt => ⟨rfl, fun h => ?_⟩⟩
        · have hlt := of_decide_eq_true hlt
          have hle := of_decide_eq_true hle
          obtain ⟨ad, x, had, hx, hrd, hxm⟩ := SlG.atm (ok l6).states g0 hlt
          have hna : x.name.size ≤ 140737488351232 := (hst x hxm).1
          have hxl := hrl x hxm
          rw [w64 (n := n + 1) (by omega)]
          have e2 : IntKind.wrap .i64 (n + 1 + (x.name.size : Int)) = n + 1 + x.name.size := w64 (by omega)
          refine ⟨⟨g0, hlt⟩, ad, had, x.name, hrd.field (o := 0) rfl, ⟨g0, hlt⟩, ad, had, _, _, _, hrd.field (o := 1) rfl, ⟨_, rfl, x, hx, by omega, by omega, rfl, by rw [e2]; omega, by rw [e2]; omega, fun h => ?_⟩, fun n5 k m12 I7 F6 l7 ⟨gF, x', hx', k0, k1, km, kn, kb, kl⟩ => ?_⟩
          · rw [e2] at h ⊢
            have v1 := gl hle
            simp only [Int.toNat_zero, List.take_zero, sumI]; omega
          · subst gF
            obtain rfl : x = x' := by rw [hx] at hx'; exact Option.some.inj hx'
            have l7 := Imm.le_trans l6 l7
            refine ⟨fun hlt2 => ⟨fun hle2 => ?_, fun hle2 => ⟨(s.states.length - (i + 1)).toNat, by omega, rfl, ?_⟩⟩, fun hlt2 => ⟨(s.states.length - (i + 1)).toNat, by omega, rfl, ?_⟩⟩
            · have hlt2 := of_decide_eq_true hlt2
              have hle2 := of_decide_eq_true hle2
              have okx := (ok l7).state x hxm
              obtain ⟨ad5, r, had5, hr, hrd5, hrm⟩ := SlG.atm okx.1 k0 hlt2
              have okr := okx.2 r hrm
              have hwh : r.when.px.ShortP := (hru x hxm r hrm).1
              rw [w64 (n := n5 + 1) (by omega)]
              have u1 := weigh_le hwh (n5 + 1) 0
              have u2 := Px.weigh_pos r.when.px (n5 + 1) 0 (by omega)
              have u3 := Px.weigh_size r.when.px (n5 + 1) 0
              have u4 := Px.size_pos r.when.px
              have hrl2 := hdl x hxm r hrm
              refine ⟨⟨k0, hlt2⟩, ad5, had5, _, _, _, _, _, _, _, _, _, _, Rd.part hrd5 (xs := []) (ds := r.when.enc) (ys := [.slice r.a r.dos.length r.c, .int .i64 r.pos]) rfl rfl,
                Tri.ret (weigh_spec r.when hwh _ 0 I7 _ okr.1 (by omega) (by omega) (by decide) (by decide)) fun I8 l8 => ⟨_, rfl, F6, .refl _, ⟨_, rfl, x, r, hx, hr, by omega, by omega, rfl, u2, by omega, fun h => ?_⟩, fun n6 j m14 I9 F8 l9 ⟨gF, x', r', hx', hr', j0, j1, jm, jn, jb, jl⟩ => ?_⟩⟩
              · have u5 := u3 h
                have v1 := kl hle2
                simp only [Int.toNat_zero, List.take_zero, sumI]; omega
              · subst gF
                obtain rfl : x = x' := by rw [hx] at hx'; exact Option.some.inj hx'
                obtain rfl : r = r' := by rw [hr] at hr'; exact Option.some.inj hr'
                have l9 := Imm.le_trans (Imm.le_trans l7 l8) l9
                have okr9 := ((ok l9).state x hxm).2 r hrm
                have hrd9 : ∀ {J}, Imm.le I7 J → Rd J ((b_s, Obj.cells #[.string s.name, .slice s.ra s.regs.length s.rc, .slice s.sa s.slots.length s.sc, .slice s.ta s.states.length s.tc] 26 (0, 0)) :: F8) ((ad5.add (Int.toNat k * 10)).add 8) [.slice r.a r.dos.length r.c] := fun hl => (hrd5.mono hl).field (o := 8) rfl
                have l79 : Imm.le I7 I9 := Imm.le_trans l8 ‹Imm.le I8 I9›
                refine ⟨⟨k0, hlt2⟩, ad5, had5, _, _, _, hrd9 l79, fun hlt3 => ⟨fun hle3 => ?_, fun hle3 => ⟨(x.rules.length - (k + 1)).toNat, by omega, rfl, x, hx, ?_⟩⟩, fun hlt3 => ⟨(x.rules.length - (k + 1)).toNat, by omega, rfl, x, hx, ?_⟩⟩
                · have hlt3 := of_decide_eq_true hlt3
                  have hle3 := of_decide_eq_true hle3
                  obtain ⟨ad8, d, had8, hd, hrd8, hdm⟩ := SlG.atm okr9.2.1 j0 hlt3
                  rw [w64 (n := n6 + 1) (by omega)]
                  refine ⟨⟨k0, hlt2⟩, ad5, had5, _, _, _, hrd9 l79, ⟨j0, hlt3⟩, ad8, had8, _, _, _, _, _, _, _, _, _, _, _, _, _, _, _, _, _, _, _, _, _, _, _, _, _, _, _, _, _, _, _, _, _, _, _, _, _, _, _, _, _, _, _, _, hrd8, (weighDo_spec d (hdo x hxm r hrm d hdm) (n6 + 1) (by omega) (by omega) I9 _ (okr9.2.2 d hdm)).mono fun e I10 G l10 ⟨w, he, hG, w0, w1, wl⟩ => ?_⟩
                  subst hG
                  refine ⟨w, he, F8, .refl _, (r.dos.length - (j + 1)).toNat, by omega, rfl, x, r, hx, hr, ?_⟩
                  rw [w64 (n := j + 1) (by omega)]
                  refine ⟨by omega, by omega, rfl, w0, by omega, fun h => ?_⟩
                  have wa := wl h
                  have v1 := jl hle3
                  have hdp := DoP.mass_pos d.p
                  rw [show (j + 1).toNat = j.toNat + 1 by omega, sumI_take _ hd]
                  omega
                · have hle3 := of_decide_eq_false hle3
                  rw [w64 (n := k + 1) (by omega)]
                  exact ⟨by omega, by omega, rfl, jn, jb, fun h => absurd h hle3⟩
                · have hlt3 := of_decide_eq_false hlt3
                  rw [w64 (n := k + 1) (by omega)]
                  refine ⟨by omega, by omega, rfl, jn, jb, fun h => ?_⟩
                  have v1 := jl h
                  rw [sumI_full DoN.mass (by omega)] at v1
                  rw [show (k + 1).toNat = k.toNat + 1 by omega, sumI_take _ hr, RuleN.mass_eq]
                  omega
            · have hle2 := of_decide_eq_false hle2
              rw [w64 (n := i + 1) (by omega)]
              exact ⟨by omega, by omega, rfl, kn, kb, fun h => absurd h hle2⟩
            · have hlt2 := of_decide_eq_false hlt2
              rw [w64 (n := i + 1) (by omega)]
              refine ⟨by omega, by omega, rfl, kn, kb, fun h => ?_⟩
              have v1 := kl h
              rw [sumI_full RuleN.mass (by omega)] at v1
              rw [show (i + 1).toNat = i.toNat + 1 by omega, sumI_take _ hx, StateN.mass_eq]
              omega
        · have hlt := of_decide_eq_false hlt
          have v1 := gl h
          rw [sumI_full StateN.mass (by omega)] at v1
          refine StgP.light ?_
          rw [StgN.mass_eq]; omega
      · subst gF
        exact ⟨n7, rfl, rfl, gl⟩
theorem far_spec (s : StgN) (hs : s.p.Short) (I : Imm) (F : Heap) (hok : s.Ok I F) : Tri P 5 #[s.v] I F fun e I' G => ∃ r : Bool, e = .returned (.bool r) ∧ G = F ∧ (r = false → s.p.Light) := by
  refine law12_far.vc ?_
  unfold law12_far.V
  intro b_s
  refine (weighStg_spec s hs I _ hok.cons).mono fun e I1 G l1 ⟨r, he, hG, hl⟩ => ?_
  subst hG
  exact ⟨r, he, F, .refl _, _, rfl, rfl, fun h => hl (by have := of_decide_eq_false h; omega)⟩
end Go.Lx
namespace Go.Vc
def eachB {α β : Type} (f : α → β → Bool) : List α → List β → Bool
  | x :: l, y :: m => f x y && eachB f l m
  | _, _ => true
theorem eachB_drop {α β γ δ : Type} {f : γ → δ → Bool} {g : α → γ} {h : β → δ} {l : List α} {m : List β} {i : Nat} {x : α} {y : β} (hx : l[i]? = some x) (hy : m[i]? = some y) :
    eachB f ((l.drop i).map g) ((m.drop i).map h) = (f (g x) (h y) && eachB f ((l.drop (i + 1)).map g) ((m.drop (i + 1)).map h)) := by
  obtain ⟨h1, rfl⟩ := List.getElem?_eq_some_iff.1 hx
  obtain ⟨h2, rfl⟩ := List.getElem?_eq_some_iff.1 hy
  rw [List.drop_eq_getElem_cons h1, List.drop_eq_getElem_cons h2, List.map_cons, List.map_cons, eachB]
theorem eachB_end {α β γ δ : Type} {f : γ → δ → Bool} {g : α → γ} {h : β → δ} {l : List α} {m : List β} {i : Nat} (hi : l.length ≤ i) : eachB f ((l.drop i).map g) ((m.drop i).map h) = true := by
  rw [List.drop_eq_nil_of_le hi, List.map_nil]; cases (List.map h (List.drop i m)) <;> rfl
theorem eachB_map {α β γ δ : Type} {f : γ → δ → Bool} {f' : α → β → Bool} {g : α → γ} {h : β → δ} : ∀ {l : List α} {m : List β}, (∀ x ∈ l, ∀ y, f (g x) (h y) = f' x y) → eachB f (l.map g) (m.map h) = eachB f' l m
  | [], [], _ => rfl
  | [], _ :: _, _ => rfl
  | _ :: _, [], _ => rfl
  | x :: l, y :: m, k => by
    rw [List.map_cons, List.map_cons, eachB, eachB, k x (List.mem_cons_self ..) y, eachB_map fun z hz w => k z (List.mem_cons_of_mem _ hz) w]
theorem eachB_self {α : Type} {f : α → α → Bool} : ∀ {l : List α}, (∀ x ∈ l, f x x = true) → eachB f l l = true
  | [], _ => rfl
  | x :: l, k => by rw [eachB, k x (List.mem_cons_self ..), eachB_self fun y hy => k y (List.mem_cons_of_mem _ hy)]; rfl
end Go.Vc
namespace Go.Lx
open Go.Vc
namespace Px
mutual
def same : Px → Px → Bool
  | .mk k o t n f s l q, y => q == y.pos && (aloneEq (.mk k o t n f s l q) y && (decide (l.length = y.kids.length) && sameL l y.kids))
def sameL : List Px → List Px → Bool
  | [], _ => true
  | _ :: _, [] => false
  | x :: r, y :: r' => same x y && sameL r r'
end
theorem same_eq (x y : Px) : x.same y = (x.pos == y.pos && (aloneEq x y && (decide (x.kids.length = y.kids.length) && sameL x.kids y.kids))) := by cases x; rw [same]; rfl
theorem aloneEq_self (x : Px) : aloneEq x x = true := by simp [aloneEq]
theorem aloneEq_bare (x y : Px) : aloneEq x.bare y.bare = aloneEq x y := by cases x; cases y; rw [bare, bare]; rfl
theorem same_self : ∀ x : Px, x.same x = true := by
  have hL : ∀ l : List Px, (∀ x ∈ l, x.same x = true) → sameL l l = true := by
    intro l
    induction l with
    | nil => intro _; rw [sameL]
    | cons y r ih => intro h; rw [sameL, h y (List.mem_cons_self ..), ih fun x hx => h x (List.mem_cons_of_mem _ hx)]; rfl
  refine ind fun x ih => ?_
  rw [same_eq, aloneEq_self, decide_eq_true rfl, hL _ ih]; simp
theorem same_bare : ∀ x y : Px, x.bare.same y.bare = x.like y := by
  have hL : ∀ l m : List Px, (∀ x ∈ l, ∀ y : Px, x.bare.same y.bare = x.like y) → sameL (l.map bare) (m.map bare) = likeL l m := by
    intro l
    induction l with
    | nil => intro m _; rw [List.map_nil, sameL, likeL]
    | cons x r ih =>
      intro m h
      cases m with
      | nil => rw [List.map_cons, List.map_nil, sameL, likeL]
      | cons y m => rw [List.map_cons, List.map_cons, sameL, likeL, h x (List.mem_cons_self ..) y, ih m fun z hz => h z (List.mem_cons_of_mem _ hz)]
  refine ind fun x ih y => ?_
  have e1 : ∀ z : Px, z.bare.pos = 0 := fun z => by rw [bare_eq]; rfl
  have e2 : ∀ z : Px, z.bare.kids = z.kids.map bare := fun z => by rw [bare_eq]; rfl
  rw [same_eq, like_eq, e1, e1, e2, e2, aloneEq_bare, List.length_map, List.length_map, hL _ _ ih]
  simp
end Px
theorem same_spec' : ∀ (t : Nd), t.px.ShortP → ∀ (u : Nd) (I : Imm) (F : Heap), NdOk I F t → NdOk I F u → Tri P 58 #[t.v, u.v] I F (Ret (.bool (t.px.same u.px)) F) := by
  refine Nd.ind fun t ih hs u I F ht hu => ?_
  have hln := hs.len
  rw [Nd.px_len] at hln
  refine ref00_SameNode.vc (fun x i m I' F' => 0 ≤ i ∧ i ≤ t.kids.length ∧ m = (t.kids.length - i).toNat ∧ Px.sameL (t.kids.map Nd.px) (u.kids.map Nd.px) = Px.sameL ((t.kids.drop i.toNat).map Nd.px) ((u.kids.drop i.toNat).map Nd.px) ∧ F' = F) ?_
  unfold ref00_SameNode.V
  intro b_a b_b
  rw [Px.same_eq, Nd.px_kids, Nd.px_kids, List.length_map, List.length_map]
  unfold Px.aloneEq
  rw [Nd.px_kind, Nd.px_kind, Nd.px_oper, Nd.px_oper, Nd.px_typ, Nd.px_typ, Nd.px_n, Nd.px_n, Nd.px_field, Nd.px_field, Nd.px_name, Nd.px_name, Nd.px_pos, Nd.px_pos]
  refine ⟨fun h => ⟨?_, rfl⟩, fun hp => ⟨fun h => ⟨?_, rfl⟩, fun h0 => ⟨fun h => ⟨?_, rfl⟩, fun h1 => ⟨fun h => ⟨?_, rfl⟩, fun h2 => ⟨fun h => ⟨?_, rfl⟩, fun h3 => ⟨fun h => ⟨?_, rfl⟩, fun h4 => ⟨fun h => ⟨?_, rfl⟩, fun h5 => ⟨fun h => ⟨?_, rfl⟩, fun h6 => ?_⟩⟩⟩⟩⟩⟩⟩⟩
  · rw [show (t.pos == u.pos) = false by simpa using h]; simp
  · rw [show (t.kind == u.kind) = false by simpa using h]; simp
  · rw [show (t.oper == u.oper) = false by simpa using h]; simp
  · rw [show (t.typ == u.typ) = false by simpa using h]; simp
  · rw [show (t.n == u.n) = false by simpa using h]; simp
  · rw [show (t.field == u.field) = false by simpa using h]; simp
  · rw [show (t.name.toList == u.name.toList) = false by simpa using h]; simp
  · rw [decide_eq_false (show ¬ t.kids.length = u.kids.length from fun e => by rw [e] at h; simp at h)]; simp
  have hlen : t.kids.length = u.kids.length := by
    have : ((t.kids.length : Int) != (u.kids.length : Int)) = false := h6
    have : (t.kids.length : Int) = u.kids.length := by simpa using this
    omega
  rw [show (t.pos == u.pos) = true by simpa using hp, show (t.kind == u.kind) = true by simpa using h0, show (t.oper == u.oper) = true by simpa using h1, show (t.typ == u.typ) = true by simpa using h2, show (t.n == u.n) = true by simpa using h3,
    show (t.field == u.field) = true by simpa using h4, show (t.name.toList == u.name.toList) = true by simpa using h5, decide_eq_true hlen]
  simp only [Bool.true_and]
  refine ⟨⟨_, by omega, by omega, rfl, rfl, by first | rfl | trivial⟩, fun x i m I1 F1 hI ⟨g0, g1, gm, gl, gF⟩ => ⟨fun hlt => ?_, fun hlt => ?_⟩⟩
  · have hlt := of_decide_eq_true hlt
    subst gF
    have hc : ∀ y, NdOk I F1 y → NdOk I1 ((b_a, .cells t.enc.toArray 55 (0, 0)) :: (b_b, .cells u.enc.toArray 55 (0, 0)) :: F1) y := fun y h => (h.mono hI fun _ h => h).cons.cons
    obtain ⟨ad, x, had, hx, hrd, hxo, hxm⟩ := (hc t ht).kids.at g0 hlt
    obtain ⟨ad', y, had', hy, hrd', hyo, hym⟩ := (hc u hu).kids.at g0 (show i < u.kids.length by omega)
    refine ⟨⟨g0, hlt⟩, ad, had, _, _, _, _, _, _, _, _, _, _, hrd, ⟨g0, by omega⟩, ad', had', _, _, _, _, _, _, _, _, _, _, hrd', x.px.same y.px,
      (ih x hxm (hs.kid x.px (by rw [Nd.px_kids]; exact List.mem_map_of_mem hxm)) y I1 _ hxo hyo).perm', fun h => ⟨?_, rfl⟩, fun h => ⟨(t.kids.length - (i + 1)).toNat, by omega, ?_⟩⟩
    · rw [gl, drop_map hx, drop_map hy, Px.sameL, show x.px.same y.px = false by simpa using h]; rfl
    · rw [w64 (n := i + 1) (by omega)]
      refine ⟨by omega, by omega, rfl, ?_, rfl⟩
      rw [gl, drop_map hx, drop_map hy, Px.sameL, show x.px.same y.px = true by simpa using h, show (i + 1).toNat = i.toNat + 1 by omega]; rfl
  · have hlt := of_decide_eq_false hlt
    refine ⟨?_, gF⟩
    rw [gl, drop_end (by omega), Px.sameL]
def DoP.same (d e : DoP) : Bool := d.kind == e.kind && (d.order == e.order && (d.name.toList == e.name.toList && (d.pos == e.pos && (d.side.same e.side && (d.qty.same e.qty && (d.price.same e.price && d.value.same e.value))))))
def RuleP.same (r q : RuleP) : Bool := r.when.same q.when && (r.pos == q.pos && (decide (r.dos.length = q.dos.length) && eachB DoP.same r.dos q.dos))
def StateP.same (x y : StateP) : Bool := x.name.toList == y.name.toList && (x.pos == y.pos && (decide (x.rules.length = y.rules.length) && eachB RuleP.same x.rules y.rules))
def RegP.same (r q : RegP) : Bool := r.init.same q.init && (r.name.toList == q.name.toList && (r.typ == q.typ && r.pos == q.pos))
def SlotP.same (r q : SlotP) : Bool := r.name.toList == q.name.toList && (r.pos == q.pos && true)
def StgP.same (s u : StgP) : Bool := s.name.toList == u.name.toList && (decide (s.regs.length = u.regs.length) && (decide (s.slots.length = u.slots.length) && (decide (s.states.length = u.states.length) &&
  (eachB RegP.same s.regs u.regs && (eachB SlotP.same s.slots u.slots && eachB StateP.same s.states u.states)))))
theorem DoP.same_self (d : DoP) : d.same d = true := by simp [DoP.same, Px.same_self]
theorem RuleP.same_self (r : RuleP) : r.same r = true := by simp [RuleP.same, Px.same_self, eachB_self fun d _ => DoP.same_self d]
theorem StateP.same_self (r : StateP) : r.same r = true := by simp [StateP.same, eachB_self fun d _ => RuleP.same_self d]
theorem RegP.same_self (r : RegP) : r.same r = true := by simp [RegP.same, Px.same_self]
theorem SlotP.same_self (r : SlotP) : r.same r = true := by simp [SlotP.same]
theorem StgP.same_self (s : StgP) : s.same s = true := by simp [StgP.same, eachB_self fun d _ => RegP.same_self d, eachB_self fun d _ => SlotP.same_self d, eachB_self fun d _ => StateP.same_self d]
theorem sameDo_spec (d e : DoN) (hs : d.p.Short) (I : Imm) (F : Heap) (hd : d.Ok I F) (he : e.Ok I F) : Tri P 93 #[d.v, e.v] I F (Ret (.bool (d.p.same e.p)) F) := by
  refine ref00_sameDo.vc ?_
  unfold ref00_sameDo.V
  intro b_a b_b
  have hsh := hs.2
  simp only [DoP.nds, List.mem_cons, List.not_mem_nil, or_false] at hsh
  have od : ∀ {J : Imm}, Imm.le I J → d.Ok J ((b_a, Obj.cells #[.int .u8 d.kind, .int .u8 d.order, .string d.name, .int .u8 d.side.kind, .int .u8 d.side.oper, .int .u8 d.side.typ, .int .i64 d.side.n, .int .u8 d.side.field, .string d.side.name, .slice d.side.a d.side.kids.length d.side.c, .int .i64 d.side.pos, .int .u8 d.qty.kind, .int .u8 d.qty.oper, .int .u8 d.qty.typ, .int .i64 d.qty.n, .int .u8 d.qty.field, .string d.qty.name, .slice d.qty.a d.qty.kids.length d.qty.c, .int .i64 d.qty.pos, .int .u8 d.price.kind, .int .u8 d.price.oper, .int .u8 d.price.typ, .int .i64 d.price.n, .int .u8 d.price.field, .string d.price.name, .slice d.price.a d.price.kids.length d.price.c, .int .i64 d.price.pos, .int .u8 d.value.kind, .int .u8 d.value.oper, .int .u8 d.value.typ, .int .i64 d.value.n, .int .u8 d.value.field, .string d.value.name, .slice d.value.a d.value.kids.length d.value.c, .int .i64 d.value.pos, .int .i64 d.pos] 89 (0, 0)) :: (b_b, Obj.cells #[.int .u8 e.kind, .int .u8 e.order, .string e.name, .int .u8 e.side.kind, .int .u8 e.side.oper, .int .u8 e.side.typ, .int .i64 e.side.n, .int .u8 e.side.field, .string e.side.name, .slice e.side.a e.side.kids.length e.side.c, .int .i64 e.side.pos, .int .u8 e.qty.kind, .int .u8 e.qty.oper, .int .u8 e.qty.typ, .int .i64 e.qty.n, .int .u8 e.qty.field, .string e.qty.name, .slice e.qty.a e.qty.kids.length e.qty.c, .int .i64 e.qty.pos, .int .u8 e.price.kind, .int .u8 e.price.oper, .int .u8 e.price.typ, .int .i64 e.price.n, .int .u8 e.price.field, .string e.price.name, .slice e.price.a e.price.kids.length e.price.c, .int .i64 e.price.pos, .int .u8 e.value.kind, .int .u8 e.value.oper, .int .u8 e.value.typ, .int .i64 e.value.n, .int .u8 e.value.field, .string e.value.name, .slice e.value.a e.value.kids.length e.value.c, .int .i64 e.value.pos, .int .i64 e.pos] 89 (0, 0)) :: F) := fun hl => (hd.mono hl fun _ h => h).cons.cons
  have oe : ∀ {J : Imm}, Imm.le I J → e.Ok J ((b_a, Obj.cells #[.int .u8 d.kind, .int .u8 d.order, .string d.name, .int .u8 d.side.kind, .int .u8 d.side.oper, .int .u8 d.side.typ, .int .i64 d.side.n, .int .u8 d.side.field, .string d.side.name, .slice d.side.a d.side.kids.length d.side.c, .int .i64 d.side.pos, .int .u8 d.qty.kind, .int .u8 d.qty.oper, .int .u8 d.qty.typ, .int .i64 d.qty.n, .int .u8 d.qty.field, .string d.qty.name, .slice d.qty.a d.qty.kids.length d.qty.c, .int .i64 d.qty.pos, .int .u8 d.price.kind, .int .u8 d.price.oper, .int .u8 d.price.typ, .int .i64 d.price.n, .int .u8 d.price.field, .string d.price.name, .slice d.price.a d.price.kids.length d.price.c, .int .i64 d.price.pos, .int .u8 d.value.kind, .int .u8 d.value.oper, .int .u8 d.value.typ, .int .i64 d.value.n, .int .u8 d.value.field, .string d.value.name, .slice d.value.a d.value.kids.length d.value.c, .int .i64 d.value.pos, .int .i64 d.pos] 89 (0, 0)) :: (b_b, Obj.cells #[.int .u8 e.kind, .int .u8 e.order, .string e.name, .int .u8 e.side.kind, .int .u8 e.side.oper, .int .u8 e.side.typ, .int .i64 e.side.n, .int .u8 e.side.field, .string e.side.name, .slice e.side.a e.side.kids.length e.side.c, .int .i64 e.side.pos, .int .u8 e.qty.kind, .int .u8 e.qty.oper, .int .u8 e.qty.typ, .int .i64 e.qty.n, .int .u8 e.qty.field, .string e.qty.name, .slice e.qty.a e.qty.kids.length e.qty.c, .int .i64 e.qty.pos, .int .u8 e.price.kind, .int .u8 e.price.oper, .int .u8 e.price.typ, .int .i64 e.price.n, .int .u8 e.price.field, .string e.price.name, .slice e.price.a e.price.kids.length e.price.c, .int .i64 e.price.pos, .int .u8 e.value.kind, .int .u8 e.value.oper, .int .u8 e.value.typ, .int .i64 e.value.n, .int .u8 e.value.field, .string e.value.name, .slice e.value.a e.value.kids.length e.value.c, .int .i64 e.value.pos, .int .i64 e.pos] 89 (0, 0)) :: F) := fun hl => (he.mono hl fun _ h => h).cons.cons
  refine Tri.ret (same_spec' d.side (hsh _ (.inl rfl)) e.side I _ (od (Imm.le_refl I)).1 (oe (Imm.le_refl I)).1) fun I1 l1 => ⟨_, rfl, F, .refl _, ?_⟩
  refine Tri.ret (same_spec' d.qty (hsh _ (.inr (.inl rfl))) e.qty I1 _ (od l1).2.1 (oe l1).2.1) fun I2 h2 => ⟨_, rfl, F, .refl _, ?_⟩
  have l2 := Imm.le_trans l1 h2
  refine Tri.ret (same_spec' d.price (hsh _ (.inr (.inr (.inl rfl)))) e.price I2 _ (od l2).2.2.1 (oe l2).2.2.1) fun I3 h3 => ⟨_, rfl, F, .refl _, ?_⟩
  have l3 := Imm.le_trans l2 h3
  refine Tri.ret (same_spec' d.value (hsh _ (.inr (.inr (.inr rfl)))) e.value I3 _ (od l3).2.2.2 (oe l3).2.2.2) fun I4 h4 => ⟨_, rfl, F, .refl _, ?_⟩
  have hdef : d.p.same e.p = (d.kind == e.kind && (d.order == e.order && (d.name.toList == e.name.toList && (d.pos == e.pos && (d.side.px.same e.side.px && (d.qty.px.same e.qty.px && (d.price.px.same e.price.px && d.value.px.same e.value.px))))))) := rfl
  rw [hdef]
  refine ⟨fun h1 => ⟨fun h2 => ⟨fun h3 => ⟨fun h4 => ⟨fun h5 => ⟨fun h6 => ⟨fun h7 => ⟨?_, rfl⟩, fun h7 => ⟨?_, rfl⟩⟩, fun h6 => ⟨?_, rfl⟩⟩, fun h5 => ⟨?_, rfl⟩⟩, fun h4 => ⟨?_, rfl⟩⟩, fun h3 => ⟨?_, rfl⟩⟩, fun h2 => ⟨?_, rfl⟩⟩, fun h1 => ⟨?_, rfl⟩⟩
  all_goals simp only [*, Bool.true_and, Bool.false_and, Bool.and_false]
end Go.Lx
namespace Go.Lx
open Go.Vc
theorem neq_len {m n : Nat} (h : (((m : Nat) : Int) != ((n : Nat) : Int)) = true) : decide (m = n) = false := decide_eq_false fun e => by rw [e] at h; simp at h
theorem eq_len {m n : Nat} (h : (((m : Nat) : Int) != ((n : Nat) : Int)) = false) : m = n := by
  have : (m : Int) = n := by simpa using h
  omega
theorem bne_f {α : Type} [BEq α] [LawfulBEq α] {x y : α} (h : (x != y) = true) : (x == y) = false := by simpa using h
theorem bne_t {α : Type} [BEq α] [LawfulBEq α] {x y : α} (h : (x != y) = false) : (x == y) = true := by simpa using h
theorem not_f {b : Bool} (h : (!b) = true) : b = false := by simpa using h
theorem not_t {b : Bool} (h : (!b) = false) : b = true := by simpa using h
theorem sameState_spec (x y : StateN) (hs : x.p.Short) (I : Imm) (F : Heap) (hx : x.Ok I F) (hy : y.Ok I F) : Tri P 59 #[x.v, y.v] I F (Ret (.bool (x.p.same y.p)) F) := by
  have hl := hs.2.1
  have hru : ∀ r ∈ x.rules, r.p.Short := fun r hr => hs.2.2 _ (List.mem_map_of_mem hr)
  have hdl : ∀ r ∈ x.rules, r.dos.length ≤ 140737488351232 := fun r hr => by have := (hru r hr).2.1; simpa only [RuleN.p, List.length_map] using this
  simp only [StateN.p, List.length_map] at hl
  refine ref00_sameState.vc
    (fun q i m I0 F0 I' F' => F' = F ∧ 0 ≤ i ∧ i ≤ x.rules.length ∧ m = (x.rules.length - i).toNat ∧ x.rules.length = y.rules.length ∧ x.p.same y.p = eachB RuleP.same ((x.rules.drop i.toNat).map RuleN.p) ((y.rules.drop i.toNat).map RuleN.p))
    (fun i q k m I0 F0 I' F' => F' = F ∧ ∃ r s, x.rules[i.toNat]? = some r ∧ y.rules[i.toNat]? = some s ∧ 0 ≤ k ∧ k ≤ r.dos.length ∧ m = (r.dos.length - k).toNat ∧
      x.p.same y.p = (eachB DoP.same ((r.dos.drop k.toNat).map DoN.p) ((s.dos.drop k.toNat).map DoN.p) && eachB RuleP.same ((x.rules.drop (i + 1).toNat).map RuleN.p) ((y.rules.drop (i + 1).toNat).map RuleN.p))) ?_
  unfold ref00_sameState.V
  intro b_a b_b
  have hdef : x.p.same y.p = (x.name.toList == y.name.toList && (x.pos == y.pos && (decide (x.rules.length = y.rules.length) && eachB RuleP.same (x.rules.map RuleN.p) (y.rules.map RuleN.p)))) := by
    show (x.name.toList == y.name.toList && (x.pos == y.pos && (decide ((x.rules.map RuleN.p).length = (y.rules.map RuleN.p).length) && _))) = _
    rw [List.length_map, List.length_map]; rfl
  have ok : ∀ {J : Imm}, Imm.le I J → x.Ok J ((b_a, Obj.cells #[.string x.name, .slice x.a x.rules.length x.c, .int .i64 x.pos] 70 (0, 0)) :: (b_b, Obj.cells #[.string y.name, .slice y.a y.rules.length y.c, .int .i64 y.pos] 70 (0, 0)) :: F) ∧ y.Ok J ((b_a, Obj.cells #[.string x.name, .slice x.a x.rules.length x.c, .int .i64 x.pos] 70 (0, 0)) :: (b_b, Obj.cells #[.string y.name, .slice y.a y.rules.length y.c, .int .i64 y.pos] 70 (0, 0)) :: F) := fun hl => ⟨(hx.mono hl fun _ h => h).cons.cons, (hy.mono hl fun _ h => h).cons.cons⟩
  refine ⟨fun h1 => ⟨?_, rfl⟩, fun h1 => ⟨fun h2 => ⟨?_, rfl⟩, fun h2 => ⟨fun h3 => ⟨?_, rfl⟩, fun h3 => ⟨⟨_, rfl, by omega, by omega, rfl, eq_len h3, ?_⟩, fun q i m I1 F1 l1 ⟨gF, g0, g1, gm, gl, ge⟩ => ?_⟩⟩⟩⟩
  · rw [hdef, not_f h1]; rfl
  · rw [hdef, bne_f h2]; simp
  · rw [hdef, neq_len h3]; simp
  · rw [hdef, not_t h1, bne_t h2, decide_eq_true (eq_len h3)]; rfl
  subst gF
  refine ⟨fun hlt => ?_, fun hlt => ⟨?_, rfl⟩⟩
  · have hlt := of_decide_eq_true hlt
    obtain ⟨ad, r, had, hr, hrd, hrm⟩ := SlG.atm (ok l1).1.1 g0 hlt
    have hlt' : i < (y.rules.length : Int) := by omega
    refine ⟨⟨g0, hlt⟩, ad, had, _, _, _, _, _, _, _, _, _, _, _, _, _, _, hrd, fun b_x => ?_⟩
    obtain ⟨ad', s, had', hs', hrd', hsm⟩ := SlG.atm (((ok l1).2.1).mono (Imm.le_refl I1) (H := (b_a, Obj.cells #[.string x.name, .slice x.a x.rules.length x.c, .int .i64 x.pos] 70 (0, 0)) :: (b_b, Obj.cells #[.string y.name, .slice y.a y.rules.length y.c, .int .i64 y.pos] 70 (0, 0)) :: (b_x, Obj.cells #[.int .u8 r.when.kind, .int .u8 r.when.oper, .int .u8 r.when.typ, .int .i64 r.when.n, .int .u8 r.when.field, .string r.when.name, .slice r.when.a r.when.kids.length r.when.c, .int .i64 r.when.pos, .slice r.a r.dos.length r.c, .int .i64 r.pos] 67 (0, 0)) :: F1) fun a ha => by simp only [List.mem_cons] at ha ⊢; rcases ha with h | h | h <;> simp [h]) g0 hlt'
    refine ⟨⟨g0, hlt'⟩, ad', had', _, _, _, _, _, _, _, _, _, _, _, _, _, _, hrd', fun b_y => ?_⟩
    have ok2 : ∀ {J : Imm}, Imm.le I1 J → r.Ok J ((b_a, Obj.cells #[.string x.name, .slice x.a x.rules.length x.c, .int .i64 x.pos] 70 (0, 0)) :: (b_b, Obj.cells #[.string y.name, .slice y.a y.rules.length y.c, .int .i64 y.pos] 70 (0, 0)) :: (b_x, Obj.cells #[.int .u8 r.when.kind, .int .u8 r.when.oper, .int .u8 r.when.typ, .int .i64 r.when.n, .int .u8 r.when.field, .string r.when.name, .slice r.when.a r.when.kids.length r.when.c, .int .i64 r.when.pos, .slice r.a r.dos.length r.c, .int .i64 r.pos] 67 (0, 0)) :: (b_y, Obj.cells #[.int .u8 s.when.kind, .int .u8 s.when.oper, .int .u8 s.when.typ, .int .i64 s.when.n, .int .u8 s.when.field, .string s.when.name, .slice s.when.a s.when.kids.length s.when.c, .int .i64 s.when.pos, .slice s.a s.dos.length s.c, .int .i64 s.pos] 67 (0, 0)) :: F1) ∧ s.Ok J ((b_a, Obj.cells #[.string x.name, .slice x.a x.rules.length x.c, .int .i64 x.pos] 70 (0, 0)) :: (b_b, Obj.cells #[.string y.name, .slice y.a y.rules.length y.c, .int .i64 y.pos] 70 (0, 0)) :: (b_x, Obj.cells #[.int .u8 r.when.kind, .int .u8 r.when.oper, .int .u8 r.when.typ, .int .i64 r.when.n, .int .u8 r.when.field, .string r.when.name, .slice r.when.a r.when.kids.length r.when.c, .int .i64 r.when.pos, .slice r.a r.dos.length r.c, .int .i64 r.pos] 67 (0, 0)) :: (b_y, Obj.cells #[.int .u8 s.when.kind, .int .u8 s.when.oper, .int .u8 s.when.typ, .int .i64 s.when.n, .int .u8 s.when.field, .string s.when.name, .slice s.when.a s.when.kids.length s.when.c, .int .i64 s.when.pos, .slice s.a s.dos.length s.c, .int .i64 s.pos] 67 (0, 0)) :: F1) := fun hl =>
      ⟨(hx.2 r hrm).mono (Imm.le_trans l1 hl) fun a ha => .tail _ (.tail _ (.tail _ (.tail _ ha))), (hy.2 s hsm).mono (Imm.le_trans l1 hl) fun a ha => .tail _ (.tail _ (.tail _ (.tail _ ha)))⟩
    have hst : eachB RuleP.same ((x.rules.drop i.toNat).map RuleN.p) ((y.rules.drop i.toNat).map RuleN.p) = (r.p.same s.p && eachB RuleP.same ((x.rules.drop (i + 1).toNat).map RuleN.p) ((y.rules.drop (i + 1).toNat).map RuleN.p)) := by
      rw [eachB_drop hr hs', show (i + 1).toNat = i.toNat + 1 by omega]
    have hrs : r.p.same s.p = (r.when.px.same s.when.px && (r.pos == s.pos && (decide (r.dos.length = s.dos.length) && eachB DoP.same (r.dos.map DoN.p) (s.dos.map DoN.p)))) := by
      show (r.when.px.same s.when.px && (r.pos == s.pos && (decide ((r.dos.map DoN.p).length = (s.dos.map DoN.p).length) && _))) = _
      rw [List.length_map, List.length_map]; rfl
    have hT := ge.trans hst
    rw [hrs] at hT
    refine Tri.ret (same_spec' r.when (hru r hrm).1 s.when I1 _ (ok2 (Imm.le_refl I1)).1.1 (ok2 (Imm.le_refl I1)).2.1) fun I2 l2 => ⟨_, rfl, F1, .refl _, ?_⟩
    refine ⟨fun h1 => ⟨?_, rfl⟩, fun h1 => ⟨fun h2 => ⟨?_, rfl⟩, fun h2 => ⟨fun h3 => ⟨?_, rfl⟩, fun h3 => ⟨⟨_, rfl, r, s, hr, hs', by omega, by omega, rfl, ?_⟩, fun q1 k m3 I3 F3 l3 ⟨kF, r', s', hr', hs2, k0, k1, km, ke⟩ => ?_⟩⟩⟩⟩
    · rw [hT, not_f h1]; rfl
    · rw [hT, bne_f h2]; simp
    · rw [hT, neq_len h3]; simp
    · rw [hT, not_t h1, bne_t h2, decide_eq_true (eq_len h3)]; rfl
    subst kF
    obtain rfl : r = r' := by rw [hr] at hr'; exact Option.some.inj hr'
    obtain rfl : s = s' := by rw [hs'] at hs2; exact Option.some.inj hs2
    have hel := eq_len h3
    have hrl := hdl r hrm
    refine ⟨fun hlt2 => ?_, fun hlt2 => ⟨(x.rules.length - (i + 1)).toNat, by omega, rfl, ?_⟩⟩
    · have hlt2 := of_decide_eq_true hlt2
      have l23 := Imm.le_trans l2 l3
      obtain ⟨ad2, d, had2, hd, hrd2, hdm⟩ := SlG.atm (ok2 l23).1.2.1 k0 hlt2
      obtain ⟨ad3, e, had3, he, hrd3, hem⟩ := SlG.atm (ok2 l23).2.2.1 k0 (show k < (s.dos.length : Int) by omega)
      refine ⟨⟨k0, hlt2⟩, ad2, had2, _, _, _, _, _, _, _, _, _, _, _, _, _, _, _, _, _, _, _, _, _, _, _, _, _, _, _, _, _, _, _, _, _, _, _, _, _, _, _, _, _, _, _, _, hrd2, ⟨k0, by omega⟩, ad3, had3, _, _, _, _, _, _, _, _, _, _, _, _, _, _, _, _, _, _, _, _, _, _, _, _, _, _, _, _, _, _, _, _, _, _, _, _, _, _, _, _, _, _, _, _, hrd3, d.p.same e.p, Tri.ret (sameDo_spec d e ((hru r hrm).2.2 _ (List.mem_map_of_mem hdm)) I3 _ ((ok2 l23).1.2.2 d hdm) ((ok2 l23).2.2.2 e hem)) fun _ _ => ⟨rfl, .refl _⟩, fun h => ⟨?_, rfl⟩, fun h => ⟨(r.dos.length - (k + 1)).toNat, by omega, rfl, r, s, hr, hs', ?_⟩⟩
      · rw [ke, eachB_drop hd he, not_f h]; rfl
      · rw [w64 (n := k + 1) (by omega)]
        refine ⟨by omega, by omega, rfl, ?_⟩
        rw [ke, eachB_drop hd he, not_t h, show (k + 1).toNat = k.toNat + 1 by omega]; rfl
    · have hlt2 := of_decide_eq_false hlt2
      rw [w64 (n := i + 1) (by omega)]
      refine ⟨by omega, by omega, rfl, gl, ?_⟩
      rw [ke, eachB_end (by omega)]; rfl
  · have hlt := of_decide_eq_false hlt
    rw [ge, eachB_end (by omega)]
end Go.Lx
namespace Go.Lx
open Go.Vc
theorem slot_under : P.underlying 77 = some (.struct (P.fieldsOf 77)) := by kernel_rfl
theorem slot_stood : P.stoodInHeld 77 = false := by kernel_rfl
theorem slot_guard : P.eqGuardType P.depth 77 = false := by kernel_rfl
theorem slot_flat (a : ByteArray) (p : Int) (b : ByteArray) (q : Int) : flatEq P #[.string a, .int .i64 p] #[.string b, .int .i64 q] (P.fieldsOf 77).toList = some (a.toList == b.toList && (p == q && true)) := by kernel_rfl
theorem slot_neq (r q : SlotP) {x y : Operand} : BinRun P .neq 77 x y (.agg #[.string r.name, .int .i64 r.pos]) (.agg #[.string q.name, .int .i64 q.pos]) (!r.same q) := struct_neq slot_under slot_stood slot_guard (slot_flat ..)
theorem sameStg_spec (s u : StgN) (hs : s.p.Short) (I : Imm) (F : Heap) (hx : s.Ok I F) (hy : u.Ok I F) : Tri P 12 #[s.v, u.v] I F (Ret (.bool (s.p.same u.p)) F) := by
  have lr := hs.regs
  have ls := hs.slots
  have lt := hs.states
  simp only [StgN.p, List.length_map] at lr ls lt
  have hnm : ∀ r ∈ s.regs, r.p.Short := fun r hr => hs.reg _ (List.mem_map_of_mem hr)
  have hst : ∀ x ∈ s.states, x.p.Short := fun x hx => hs.state _ (List.mem_map_of_mem hx)
  refine ref00_SameStrategy.vc
    (fun q i m I' F' => F' = F ∧ 0 ≤ i ∧ i ≤ s.regs.length ∧ m = (s.regs.length - i).toNat ∧ Imm.le I I' ∧ (s.regs.length = u.regs.length ∧ s.slots.length = u.slots.length ∧ s.states.length = u.states.length) ∧
      s.p.same u.p = (eachB RegP.same ((s.regs.drop i.toNat).map RegN.p) ((u.regs.drop i.toNat).map RegN.p) && (eachB SlotP.same s.slots u.slots && eachB StateP.same (s.states.map StateN.p) (u.states.map StateN.p))))
    (fun q i m I' F' => F' = F ∧ 0 ≤ i ∧ i ≤ s.slots.length ∧ m = (s.slots.length - i).toNat ∧ Imm.le I I' ∧ (s.regs.length = u.regs.length ∧ s.slots.length = u.slots.length ∧ s.states.length = u.states.length) ∧
      s.p.same u.p = (eachB SlotP.same ((s.slots.drop i.toNat).map id) ((u.slots.drop i.toNat).map id) && eachB StateP.same (s.states.map StateN.p) (u.states.map StateN.p)))
    (fun q i m I' F' => F' = F ∧ 0 ≤ i ∧ i ≤ s.states.length ∧ m = (s.states.length - i).toNat ∧ Imm.le I I' ∧ (s.regs.length = u.regs.length ∧ s.slots.length = u.slots.length ∧ s.states.length = u.states.length) ∧
      s.p.same u.p = eachB StateP.same ((s.states.drop i.toNat).map StateN.p) ((u.states.drop i.toNat).map StateN.p)) ?_
  unfold ref00_SameStrategy.V
  intro b_a b_b
  have hdef : s.p.same u.p = (s.name.toList == u.name.toList && (decide (s.regs.length = u.regs.length) && (decide (s.slots.length = u.slots.length) && (decide (s.states.length = u.states.length) &&
      (eachB RegP.same (s.regs.map RegN.p) (u.regs.map RegN.p) && (eachB SlotP.same s.slots u.slots && eachB StateP.same (s.states.map StateN.p) (u.states.map StateN.p))))))) := by
    show (s.name.toList == u.name.toList && (decide ((s.regs.map RegN.p).length = (u.regs.map RegN.p).length) && (decide (s.slots.length = u.slots.length) && (decide ((s.states.map StateN.p).length = (u.states.map StateN.p).length) && _)))) = _
    rw [List.length_map, List.length_map, List.length_map, List.length_map]; rfl
  have ok : ∀ {J : Imm}, Imm.le I J → s.Ok J ((b_a, Obj.cells #[.string s.name, .slice s.ra s.regs.length s.rc, .slice s.sa s.slots.length s.sc, .slice s.ta s.states.length s.tc] 26 (0, 0)) :: (b_b, Obj.cells #[.string u.name, .slice u.ra u.regs.length u.rc, .slice u.sa u.slots.length u.sc, .slice u.ta u.states.length u.tc] 26 (0, 0)) :: F) ∧ u.Ok J ((b_a, Obj.cells #[.string s.name, .slice s.ra s.regs.length s.rc, .slice s.sa s.slots.length s.sc, .slice s.ta s.states.length s.tc] 26 (0, 0)) :: (b_b, Obj.cells #[.string u.name, .slice u.ra u.regs.length u.rc, .slice u.sa u.slots.length u.sc, .slice u.ta u.states.length u.tc] 26 (0, 0)) :: F) := fun hl => ⟨(hx.mono hl fun _ h => h).cons.cons, (hy.mono hl fun _ h => h).cons.cons⟩
  refine ⟨fun h1 => ⟨?_, rfl⟩, fun h1 => ⟨fun h2 => ⟨?_, rfl⟩, fun h2 => ⟨fun h3 => ⟨?_, rfl⟩, fun h3 => ⟨fun h4 => ⟨?_, rfl⟩, fun h4 => ⟨⟨_, rfl, by omega, by omega, rfl, Imm.le_refl I, ⟨eq_len h2, eq_len h3, eq_len h4⟩, ?_⟩, fun q i m I1 F1 _ ⟨gF, g0, g1, gm, l1, gl, ge⟩ => ?_⟩⟩⟩⟩⟩
  · rw [hdef, not_f h1]; rfl
  · rw [hdef, neq_len h2]; simp
  · rw [hdef, neq_len h3]; simp
  · rw [hdef, neq_len h4]; simp
  · rw [hdef, not_t h1, decide_eq_true (eq_len h2), decide_eq_true (eq_len h3), decide_eq_true (eq_len h4)]; rfl
  subst gF
  obtain ⟨gl1, gl2, gl3⟩ := gl
  refine ⟨fun hlt => ?_, fun hlt => ⟨⟨_, rfl, by omega, by omega, rfl, l1, ⟨gl1, gl2, gl3⟩, ?_⟩, fun q i m I3 F3 _ ⟨gF, g0, g1, gm, l3, gl, ge⟩ => ?_⟩⟩
  · have hlt := of_decide_eq_true hlt
    obtain ⟨ad, r, had, hr, hrd, hrm⟩ := SlG.atm (ok l1).1.regs g0 hlt
    have hlt' : i < (u.regs.length : Int) := by omega
    refine ⟨⟨g0, hlt⟩, ad, had, _, _, _, _, _, _, _, _, _, _, _, _, _, hrd, fun b_x => ?_⟩
    obtain ⟨ad', q', had', hq, hrd', hqm⟩ := SlG.atm (((ok l1).2.regs).mono (Imm.le_refl I1) (H := (b_a, Obj.cells #[.string s.name, .slice s.ra s.regs.length s.rc, .slice s.sa s.slots.length s.sc, .slice s.ta s.states.length s.tc] 26 (0, 0)) :: (b_b, Obj.cells #[.string u.name, .slice u.ra u.regs.length u.rc, .slice u.sa u.slots.length u.sc, .slice u.ta u.states.length u.tc] 26 (0, 0)) :: (b_x, Obj.cells #[.string r.name, .int .u8 r.typ, .int .u8 r.init.kind, .int .u8 r.init.oper, .int .u8 r.init.typ, .int .i64 r.init.n, .int .u8 r.init.field, .string r.init.name, .slice r.init.a r.init.kids.length r.init.c, .int .i64 r.init.pos, .int .i64 r.pos] 75 (0, 0)) :: F1) fun a ha => by simp only [List.mem_cons] at ha ⊢; rcases ha with h | h | h <;> simp [h]) g0 hlt'
    refine ⟨⟨g0, hlt'⟩, ad', had', _, _, _, _, _, _, _, _, _, _, _, _, _, hrd', fun b_y => ?_⟩
    have sub4 : ∀ a, a ∈ F1 → a ∈ ((b_a, Obj.cells #[.string s.name, .slice s.ra s.regs.length s.rc, .slice s.sa s.slots.length s.sc, .slice s.ta s.states.length s.tc] 26 (0, 0)) :: (b_b, Obj.cells #[.string u.name, .slice u.ra u.regs.length u.rc, .slice u.sa u.slots.length u.sc, .slice u.ta u.states.length u.tc] 26 (0, 0)) :: (b_x, Obj.cells #[.string r.name, .int .u8 r.typ, .int .u8 r.init.kind, .int .u8 r.init.oper, .int .u8 r.init.typ, .int .i64 r.init.n, .int .u8 r.init.field, .string r.init.name, .slice r.init.a r.init.kids.length r.init.c, .int .i64 r.init.pos, .int .i64 r.pos] 75 (0, 0)) :: (b_y, Obj.cells #[.string q'.name, .int .u8 q'.typ, .int .u8 q'.init.kind, .int .u8 q'.init.oper, .int .u8 q'.init.typ, .int .i64 q'.init.n, .int .u8 q'.init.field, .string q'.init.name, .slice q'.init.a q'.init.kids.length q'.init.c, .int .i64 q'.init.pos, .int .i64 q'.pos] 75 (0, 0)) :: F1) := fun a ha => .tail _ (.tail _ (.tail _ (.tail _ ha)))
    have hT := ge
    rw [eachB_drop hr hq] at hT
    have hrs : r.p.same q'.p = (r.init.px.same q'.init.px && (r.name.toList == q'.name.toList && (r.typ == q'.typ && r.pos == q'.pos))) := rfl
    rw [hrs] at hT
    refine Tri.ret (same_spec' r.init (hnm r hrm).2 q'.init I1 _ ((hx.reg r hrm).mono l1 sub4) ((hy.reg q' hqm).mono l1 sub4)) fun I2 l2 => ⟨_, rfl, F1, .refl _, ?_⟩
    refine ⟨fun h1 => ⟨?_, rfl⟩, fun h1 => ⟨fun h2 => ⟨?_, rfl⟩, fun h2 => ⟨fun h3 => ⟨?_, rfl⟩, fun h3 => ⟨fun h4 => ⟨?_, rfl⟩, fun h4 => ⟨(s.regs.length - (i + 1)).toNat, by omega, rfl, ?_⟩⟩⟩⟩⟩
    · rw [hT, not_f h1]; rfl
    · rw [hT, not_f h2]; simp
    · rw [hT, bne_f h3]; simp
    · rw [hT, bne_f h4]; simp
    · rw [w64 (n := i + 1) (by omega)]
      refine ⟨by omega, by omega, rfl, Imm.le_trans l1 l2, ⟨gl1, gl2, gl3⟩, ?_⟩
      rw [hT, not_t h1, not_t h2, bne_t h3, bne_t h4, show (i + 1).toNat = i.toNat + 1 by omega]; rfl
  · have hlt := of_decide_eq_false hlt
    rw [ge, eachB_end (by omega)]
    simp only [Bool.true_and]
    show _ = (eachB SlotP.same (s.slots.map id) (u.slots.map id) && _)
    rw [List.map_id, List.map_id]
  subst gF
  obtain ⟨gl1, gl2, gl3⟩ := gl
  refine ⟨fun hlt => ?_, fun hlt => ⟨⟨_, rfl, by omega, by omega, rfl, l3, ⟨gl1, gl2, gl3⟩, ?_⟩, fun q i m I4 F4 _ ⟨gF, g0, g1, gm, l4, gl, ge⟩ => ?_⟩⟩
  · have hlt := of_decide_eq_true hlt
    obtain ⟨ad, r, had, hr, hrd, hrm⟩ := SlG.atm (ok l3).1.slots g0 hlt
    have hlt' : i < (u.slots.length : Int) := by omega
    obtain ⟨ad', q', had', hq, hrd', hqm⟩ := SlG.atm (ok l3).2.slots g0 hlt'
    have hT := ge
    rw [eachB_drop hr hq] at hT
    refine ⟨⟨g0, hlt⟩, ad, had, _, _, hrd, ⟨g0, hlt'⟩, ad', had', _, _, hrd', _, slot_neq r q', fun h => ⟨?_, rfl⟩, fun h => ⟨(s.slots.length - (i + 1)).toNat, by omega, rfl, ?_⟩⟩
    · rw [hT]
      show Ending.returned (.bool false) = .returned (.bool ((r.same q' && _) && _))
      rw [not_f h]; rfl
    · rw [w64 (n := i + 1) (by omega)]
      refine ⟨by omega, by omega, rfl, l3, ⟨gl1, gl2, gl3⟩, ?_⟩
      rw [hT, show (i + 1).toNat = i.toNat + 1 by omega]
      show ((r.same q' && _) && _) = _
      rw [not_t h]; rfl
  · have hlt := of_decide_eq_false hlt
    rw [ge, eachB_end (by omega)]; rfl
  subst gF
  obtain ⟨gl1, gl2, gl3⟩ := gl
  refine ⟨fun hlt => ?_, fun hlt => ⟨?_, rfl⟩⟩
  · have hlt := of_decide_eq_true hlt
    obtain ⟨ad, x, had, hx', hrd, hxm⟩ := SlG.atm (ok l4).1.states g0 hlt
    have hlt' : i < (u.states.length : Int) := by omega
    obtain ⟨ad', y, had', hy', hrd', hym⟩ := SlG.atm (ok l4).2.states g0 hlt'
    refine ⟨⟨g0, hlt⟩, ad, had, _, _, _, _, _, hrd, ⟨g0, hlt'⟩, ad', had', _, _, _, _, _, hrd', x.p.same y.p, Tri.ret (sameState_spec x y (hst x hxm) I4 _ ((ok l4).1.state x hxm) ((ok l4).2.state y hym)) fun _ _ => ⟨rfl, .refl _⟩, fun h => ⟨?_, rfl⟩, fun h => ⟨(s.states.length - (i + 1)).toNat, by omega, rfl, ?_⟩⟩
    · rw [ge, eachB_drop hx' hy', not_f h]; rfl
    · rw [w64 (n := i + 1) (by omega)]
      refine ⟨by omega, by omega, rfl, l4, ⟨gl1, gl2, gl3⟩, ?_⟩
      rw [ge, eachB_drop hx' hy', not_t h, show (i + 1).toNat = i.toNat + 1 by omega]; rfl
  · have hlt := of_decide_eq_false hlt
    rw [ge, eachB_end (by omega)]
end Go.Lx
namespace Go.Lx
open Go.Vc
def TailS (z n : Nat) (a : Option Addr) (c : Nat) (A : Heap) : Prop :=
  ∃ b cells e, a = some ⟨b, 0, none⟩ ∧ A = [(b, Obj.cells cells e (0, 0))] ∧ c = n + 2 ∧ cells[n * z + (z - 1)]? = some (.int .i64 (-771))
def OwnL {α : Type} (R : Bool) (z : Nat) (f : α → List Value) (E : Nat) (O : α → Heap → Prop) (a : Option Addr) (n c : Nat) (l : List α) (H : Heap) : Prop :=
  ∃ A hs, H = A ++ flatH n hs ∧ Acc z f E a n c l A ∧ (R = true → TailS z n a c A) ∧ ∀ (i : Nat) (k : α), l[i]? = some k → O k (hs i)
def DoOwn (R : Bool) (d : DoN) (H : Heap) : Prop := ∃ H1 H2 H3 H4, H = H1 ++ (H2 ++ (H3 ++ H4)) ∧ OwnT 55 R d.side H1 ∧ OwnT 55 R d.qty H2 ∧ OwnT 55 R d.price H3 ∧ OwnT 55 R d.value H4
def RegOwn (R : Bool) (r : RegN) (H : Heap) : Prop := OwnT 55 R r.init H
def SlotOwn (r : SlotP) (H : Heap) : Prop := H = []
def RuleOwn (R : Bool) (r : RuleN) (H : Heap) : Prop := ∃ H1 H2, H = H1 ++ H2 ∧ OwnT 55 R r.when H1 ∧ OwnL R 36 DoN.enc 89 (DoOwn R) r.a r.dos.length r.c r.dos H2
def StateOwn (R : Bool) (x : StateN) (H : Heap) : Prop := OwnL R 10 RuleN.enc 67 (RuleOwn R) x.a x.rules.length x.c x.rules H
def StgOwn (R : Bool) (s : StgN) (H : Heap) : Prop := ∃ H1 H2 H3, H = H1 ++ (H2 ++ H3) ∧ OwnL R 11 RegN.enc 75 (RegOwn R) s.ra s.regs.length s.rc s.regs H1 ∧ OwnL R 2 SlotP.enc 77 SlotOwn s.sa s.slots.length s.sc s.slots H2 ∧
  OwnL R 3 StateN.enc 70 (StateOwn R) s.ta s.states.length s.tc s.states H3
theorem OwnL.ok {α : Type} {R : Bool} {z E n c : Nat} {f : α → List Value} {O : α → Heap → Prop} {a : Option Addr} {l : List α} {H : Heap} (h : OwnL R z f E O a n c l H) (hz : ∀ x, (f x).length = z) {I : Imm} {G : Heap} {K : α → Prop} (hG : ∀ x, x ∈ H → x ∈ G)
    (hk : ∀ x H', O x H' → (∀ y, y ∈ H' → y ∈ G) → K x) : SlG I G z f a n l ∧ ∀ x ∈ l, K x := by
  obtain ⟨A, hs, rfl, hA, -, hO⟩ := h
  refine ⟨hA.slg hz I fun x hx => hG x (List.mem_append_left _ hx), fun x hx => ?_⟩
  obtain ⟨i, hi, rfl⟩ := List.mem_iff_getElem.1 hx
  have hn := hA.1
  exact hk _ _ (hO i _ (List.getElem?_eq_getElem hi)) fun y hy => hG y (List.mem_append_right _ (flatH_mem (by omega) hy))
theorem DoOwn.ok {R : Bool} {d : DoN} {H : Heap} (h : DoOwn R d H) {I : Imm} {G : Heap} (hG : ∀ x, x ∈ H → x ∈ G) : d.Ok I G := by
  obtain ⟨H1, H2, H3, H4, rfl, h1, h2, h3, h4⟩ := h
  simp only [List.mem_append] at hG
  exact ⟨h1.ok fun x hx => hG x (.inl hx), h2.ok fun x hx => hG x (.inr (.inl hx)), h3.ok fun x hx => hG x (.inr (.inr (.inl hx))), h4.ok fun x hx => hG x (.inr (.inr (.inr hx)))⟩
theorem RegOwn.ok {R : Bool} {d : RegN} {H : Heap} (h : RegOwn R d H) {I : Imm} {G : Heap} (hG : ∀ x, x ∈ H → x ∈ G) : d.Ok I G := OwnT.ok h hG
theorem RuleOwn.ok {R : Bool} {r : RuleN} {H : Heap} (h : RuleOwn R r H) {I : Imm} {G : Heap} (hG : ∀ x, x ∈ H → x ∈ G) : r.Ok I G := by
  obtain ⟨H1, H2, rfl, h1, h2⟩ := h
  obtain ⟨g1, g2⟩ := h2.ok (I := I) (G := G) (K := fun d => d.Ok I G) (fun _ => rfl) (fun x hx => hG x (List.mem_append_right _ hx)) fun x H' hO hs => DoOwn.ok hO hs
  exact ⟨h1.ok fun x hx => hG x (List.mem_append_left _ hx), g1, g2⟩
theorem StateOwn.ok {R : Bool} {r : StateN} {H : Heap} (h : StateOwn R r H) {I : Imm} {G : Heap} (hG : ∀ x, x ∈ H → x ∈ G) : r.Ok I G :=
  OwnL.ok h (fun _ => rfl) hG fun x H' hO hs => RuleOwn.ok hO hs
theorem StgOwn.ok {R : Bool} {s : StgN} {H : Heap} (h : StgOwn R s H) {I : Imm} {G : Heap} (hG : ∀ x, x ∈ H → x ∈ G) : s.Ok I G := by
  obtain ⟨H1, H2, H3, rfl, h1, h2, h3⟩ := h
  simp only [List.mem_append] at hG
  obtain ⟨a1, a2⟩ := h1.ok (I := I) (G := G) (K := fun d => d.Ok I G) (fun _ => rfl) (fun x hx => hG x (.inl hx)) fun x H' hO hs => RegOwn.ok hO hs
  obtain ⟨b1, -⟩ := h2.ok (I := I) (G := G) (K := fun d => True) (fun _ => rfl) (fun x hx => hG x (.inr (.inl hx))) fun x H' hO hs => trivial
  obtain ⟨c1, c2⟩ := h3.ok (I := I) (G := G) (K := fun d => d.Ok I G) (fun _ => rfl) (fun x hx => hG x (.inr (.inr hx))) fun x H' hO hs => StateOwn.ok hO hs
  exact ⟨a1, a2, b1, c1, c2⟩
def Part {α : Type} (z : Nat) (f : α → List Value) (E : Nat) (O : α → Heap → Prop) (a : Option Addr) (n c : Nat) (l : List α) (F F' : Heap) : Prop :=
  ∃ A hs, Acc z f E a n c l A ∧ (∀ (i : Nat) (k : α), l[i]? = some k → O k (hs i)) ∧ F'.Perm (A ++ (flatH l.length hs ++ F))
theorem Part.nil {α : Type} {z E : Nat} {f : α → List Value} {O : α → Heap → Prop} {F : Heap} : Part z f E O none 0 0 ([] : List α) F F := ⟨[], fun _ => [], Acc.nil, fun i k h => by simp at h, .refl _⟩
theorem Part.own {α : Type} {z E n c : Nat} {f : α → List Value} {O : α → Heap → Prop} {a : Option Addr} {l : List α} {F F' : Heap} (h : Part z f E O a n c l F F') : ∃ H, OwnL false z f E O a n c l H ∧ F'.Perm (H ++ F) := by
  obtain ⟨A, hs, hA, hk, hp⟩ := h
  exact ⟨A ++ flatH n hs, ⟨A, hs, rfl, hA, fun h => (by cases h), hk⟩, by rw [hA.1, List.append_assoc]; exact hp⟩
theorem Part.mem {α : Type} {z E n c : Nat} {f : α → List Value} {O : α → Heap → Prop} {a : Option Addr} {l : List α} {F F' : Heap} (h : Part z f E O a n c l F F') : ∀ x, x ∈ F → x ∈ F' := by
  obtain ⟨A, hs, hA, hk, hp⟩ := h
  exact fun x hx => hp.mem_iff.2 (List.mem_append_right _ (List.mem_append_right _ hx))
theorem part_push {α : Type} {z E n c : Nat} {f : α → List Value} {O : α → Heap → Prop} {a : Option Addr} {l : List α} {F : Heap} {hs : Nat → Heap} {x : α} {Hx A' G : Heap} (hA' : Acc z f E a n c (l ++ [x]) A') (hk : ∀ (i : Nat) (k : α), l[i]? = some k → O k (hs i)) (hx : O x Hx)
    (hG : G.Perm (A' ++ (Hx ++ (flatH l.length hs ++ F)))) : Part z f E O a n c (l ++ [x]) F G := by
  refine ⟨A', fun j => if j < l.length then hs j else Hx, hA', fun j k hj => ?_, ?_⟩
  · show O k (if j < l.length then hs j else Hx)
    rw [List.getElem?_append] at hj
    split at hj
    · rename_i hlt'; rw [if_pos hlt']; exact hk j k hj
    · rename_i hge
      have hj' := List.mem_of_getElem? hj
      rw [List.mem_singleton] at hj'
      rw [if_neg hge, hj']; exact hx
  · rw [List.length_append, List.length_singleton, flatH_last, if_neg (Nat.lt_irrefl _), flatH_congr (hs' := hs) fun j hj => if_pos hj]
    exact hG.trans (perm_of fun z => by simp only [cn_app]; omega)
theorem push_spec {P : Program} {α : Type} {z : Nat} {f : α → List Value} (hz : ∀ x, (f x).length = z) {t ty e : TypeId} {zv : Value} {by' : Nat} (ht : P.underlying t = some (.slice e)) (hi : (P.info? e).map (fun i => (i.zero, i.size, i.bytes)) = some (some zv, z, by')) (hzs : zv.cells.size = z) (hb : 1 ≤ by')
    {a : Option Addr} {n c : Nat} {l : List α} {O : α → Heap → Prop} {F F1 F2 R0 Hx : Heap} {x : α} (h : Part z f e O a n c l F F1) (h1 : ∀ u ∈ f x, u.oneCell' = true) {b : Nat} {I : Imm} {o : Obj} (ho : o = .cells (f x).toArray e (0, 0)) (hbm : I b = some o)
    (hx : O x Hx) (hF2 : F2.Perm (R0 ++ (Hx ++ F1))) (hfit : (l.length + 1) * by' ≤ 140737488355328) :
    TriE P (Builtin.append_ #[t, t] ty #[.slice a n c, .slice (some ⟨b, 0, none⟩) 1 1]) I F2 fun v I' G => ∃ a' n' c', v = .slice a' n' c' ∧ ∃ F3, G.Perm (R0 ++ F3) ∧ Part z f e O a' n' c' (l ++ [x]) F F3 := by
  obtain ⟨A, hs, hA, hk, hp⟩ := h
  subst ho
  refine TriE.perm (TriE.mono (append_spec' hz ht hi hzs hb hA (xs := [x]) (fun y hy => by rw [List.mem_singleton] at hy; rw [hy]; exact h1) (by simp) rfl ?_ (by simpa using hfit) (F := R0 ++ (Hx ++ (flatH l.length hs ++ F)))) fun v I2 G hI2 ⟨a', n', c', A', hv, hA', hG', _⟩ => ?_) ?_
  · refine ⟨rfl, _, _, _, .inl hbm, fun j hj => ?_⟩
    simp
  · subst hG'
    exact ⟨a', n', c', hv, A' ++ (Hx ++ (flatH l.length hs ++ F)), perm_of fun z => by simp only [cn_app]; omega, part_push hA' hk hx (.refl _)⟩
  · refine hF2.trans ?_
    exact perm_of fun z => by have := cn_perm hp z; simp only [cn_app] at this ⊢; omega
def DoP.bare (d : DoP) : DoP := ⟨d.kind, d.order, d.name, d.side.bare, d.qty.bare, d.price.bare, d.value.bare, 0⟩
def RuleP.bare (r : RuleP) : RuleP := ⟨r.when.bare, r.dos.map DoP.bare, 0⟩
def StateP.bare (x : StateP) : StateP := ⟨x.name, x.rules.map RuleP.bare, 0⟩
def RegP.bare (r : RegP) : RegP := ⟨r.name, r.typ, r.init.bare, 0⟩
def SlotP.bare (r : SlotP) : SlotP := ⟨r.name, 0⟩
def StgP.bare (s : StgP) : StgP := ⟨s.name, s.regs.map RegP.bare, s.slots.map SlotP.bare, s.states.map StateP.bare⟩
theorem bareDo_spec (d : DoN) (hs : Small d.p.nds) (I : Imm) (F : Heap) (hd : d.Ok I F) : Tri P 92 #[d.v] I F fun e I' G => ∃ (d' : DoN) (H : Heap), e = .returned d'.v ∧ d'.p = d.p.bare ∧ DoOwn false d' H ∧ G.Perm (H ++ F) := by
  refine ref00_bareDo.vc ?_
  unfold ref00_bareDo.V
  intro b_d b
  simp only [Small, DoP.nds, DoN.p, List.mem_cons, List.not_mem_nil, or_false] at hs
  refine (bare_spec d.side (hs _ (.inl rfl)) I _ hd.1.cons.cons).mono fun e I1 G l1 ⟨t1, H1, he, p1, o1, hG⟩ => ?_
  subst he
  refine ⟨_, _, _, _, _, _, _, _, _, _, rfl, H1 ++ F, hG.trans (perm_of fun z => by simp only [cn_app, cn_cons, cn_nil]; omega), ?_⟩
  have k1 : d.Ok I1 (H1 ++ F) := hd.mono l1 fun a ha => List.mem_append_right _ ha
  refine (bare_spec d.qty (hs _ (.inr (.inl rfl))) I1 _ k1.2.1.cons.cons).mono fun e I2 G l2 ⟨t2, H2, he, p2, o2, hG⟩ => ?_
  subst he
  refine ⟨_, _, _, _, _, _, _, _, _, _, rfl, H2 ++ (H1 ++ F), hG.trans (perm_of fun z => by simp only [cn_app, cn_cons, cn_nil]; omega), ?_⟩
  have k2 : d.Ok I2 (H2 ++ (H1 ++ F)) := k1.mono l2 fun a ha => List.mem_append_right _ ha
  refine (bare_spec d.price (hs _ (.inr (.inr (.inl rfl)))) I2 _ k2.2.2.1.cons.cons).mono fun e I3 G l3 ⟨t3, H3, he, p3, o3, hG⟩ => ?_
  subst he
  refine ⟨_, _, _, _, _, _, _, _, _, _, rfl, H3 ++ (H2 ++ (H1 ++ F)), hG.trans (perm_of fun z => by simp only [cn_app, cn_cons, cn_nil]; omega), ?_⟩
  have k3 : d.Ok I3 (H3 ++ (H2 ++ (H1 ++ F))) := k2.mono l3 fun a ha => List.mem_append_right _ ha
  refine (bare_spec d.value (hs _ (.inr (.inr (.inr rfl)))) I3 _ k3.2.2.2.cons.cons).mono fun e I4 G l4 ⟨t4, H4, he, p4, o4, hG⟩ => ?_
  subst he
  refine ⟨_, _, _, _, _, _, _, _, _, _, rfl, H4 ++ (H3 ++ (H2 ++ (H1 ++ F))), hG.trans (perm_of fun z => by simp only [cn_app, cn_cons, cn_nil]; omega), ⟨d.kind, d.order, d.name, t1, t2, t3, t4, 0⟩, H1 ++ (H2 ++ (H3 ++ H4)), rfl, ?_, ⟨H1, H2, H3, H4, rfl, o1, o2, o3, o4⟩, (perm_of fun z => by simp only [cn_app, cn_cons, cn_nil]; omega)⟩
  show DoP.mk _ _ _ _ _ _ _ _ = _
  rw [p1, p2, p3, p4]; rfl
end Go.Lx
namespace Go.Lx
open Go.Vc
theorem Part.len {α : Type} {z E n c : Nat} {f : α → List Value} {O : α → Heap → Prop} {a : Option Addr} {l : List α} {F F' : Heap} (h : Part z f E O a n c l F F') : n = l.length := by
  obtain ⟨A, hs, hA, hk, hp⟩ := h; exact hA.1
theorem map_snoc {α β γ : Type} {g : α → β} {h : β → γ} {l : List α} {i : Nat} {x : α} (hx : l[i]? = some x) : ((l.take (i + 1)).map g).map h = ((l.take i).map g).map h ++ [h (g x)] := by
  obtain ⟨hk, rfl⟩ := List.getElem?_eq_some_iff.1 hx
  rw [List.take_succ_eq_append_getElem hk, List.map_append, List.map_append]; rfl
theorem map_len {α β γ δ : Type} {g : α → β} {p : δ → γ} {h : β → γ} {l : List α} {ks : List δ} {i : Nat} (e : ks.map p = ((l.take i).map g).map h) (hi : i ≤ l.length) : ks.length = i := by
  have := congrArg List.length e
  simp only [List.length_map, List.length_take] at this
  omega
theorem bareState_spec (x : StateN) (hs : x.p.Light) (I : Imm) (F : Heap) (hx : x.Ok I F) : Tri P 57 #[x.v] I F fun e I' G => ∃ (x' : StateN) (H : Heap), e = .returned x'.v ∧ x'.p = x.p.bare ∧ StateOwn false x' H ∧ G.Perm (H ++ F) := by
  have hl := hs.1
  have hru : ∀ r ∈ x.rules, r.p.Light := fun r hr => hs.2 _ (List.mem_map_of_mem hr)
  have hdl : ∀ r ∈ x.rules, r.dos.length ≤ 1048576 := fun r hr => by have := (hru r hr).2.1; simpa only [RuleN.p, List.length_map] using this
  simp only [StateN.p, List.length_map] at hl
  refine ref00_bareState.vc
    (fun a n c i m I0 F0 I' F' => 0 ≤ i ∧ i ≤ x.rules.length ∧ m = (x.rules.length - i).toNat ∧ ∃ ks : List RuleN, ks.map RuleN.p = ((x.rules.take i.toNat).map RuleN.p).map RuleP.bare ∧ Part 10 RuleN.enc 67 (RuleOwn false) a n c ks F F')
    (fun i a n c k m I0 F0 I' F' => ∃ r, x.rules[i.toNat]? = some r ∧ 0 ≤ k ∧ k ≤ r.dos.length ∧ m = (r.dos.length - k).toNat ∧ ∃ ds : List DoN, ds.map DoN.p = ((r.dos.take k.toNat).map DoN.p).map DoP.bare ∧ Part 36 DoN.enc 89 (DoOwn false) a n c ds F0 F') ?_
  unfold ref00_bareState.V
  intro b_x b
  refine ⟨⟨_, by omega, by omega, rfl, [], by simp, Part.nil⟩, fun a n c i m I1 F1 l1 ⟨g0, g1, gm, ks, gk, gP⟩ => ⟨fun hlt => ?_, fun hlt => ?_⟩⟩
  · have hlt := of_decide_eq_true hlt
    have ok1 : x.Ok I1 F1 := hx.mono l1 gP.mem
    obtain ⟨ad, r, had, hr, hrd, hrm⟩ := SlG.atm (ok1.cons.cons (x := (b_x, Obj.cells #[.string x.name, .slice x.a x.rules.length x.c, .int .i64 x.pos] 70 (0, 0))) (s := x)).1 g0 hlt
    have hkl := map_len gk (by omega)
    refine ⟨⟨g0, hlt⟩, ad, had, _, _, _, _, _, _, _, _, _, _, _, _, _, _, hrd, fun b_r => ⟨⟨_, r, hr, by omega, by omega, rfl, [], by simp, Part.nil⟩, fun da dn dc k m3 I2 F2 l2 ⟨r', hr', k0, k1, km, ds, dk, dP⟩ => ⟨fun hlt2 => ?_, fun hlt2 => ?_⟩⟩⟩
    · obtain rfl : r = r' := by rw [hr] at hr'; exact Option.some.inj hr'
      have hlt2 := of_decide_eq_true hlt2
      have ok2 : r.Ok I2 F2 := (ok1.2 r hrm).mono l2 dP.mem
      obtain ⟨ad1, d, had1, hd, hrd1, hdm⟩ := SlG.atm (ok2.cons.cons.cons (x := (b_x, Obj.cells #[.string x.name, .slice x.a x.rules.length x.c, .int .i64 x.pos] 70 (0, 0))) (s := r)).2.1 k0 hlt2
      have hdlen := map_len dk (by omega)
      have hrl := hdl r hrm
      refine ⟨⟨k0, hlt2⟩, ad1, had1, _, _, _, _, _, _, _, _, _, _, _, _, _, _, _, _, _, _, _, _, _, _, _, _, _, _, _, _, _, _, _, _, _, _, _, _, _, _, _, _, _, _, _, _, hrd1, (bareDo_spec d ((hru r hrm).2.2 _ (List.mem_map_of_mem hdm)) I2 _ ((ok2.2.2 d hdm).cons.cons.cons)).mono fun e I3 G l3 ⟨d', Hd, he, pd, od, hG⟩ => ?_⟩
      subst he
      refine ⟨_, _, _, _, _, _, _, _, _, _, _, _, _, _, _, _, _, _, _, _, _, _, _, _, _, _, _, _, _, _, _, _, _, _, _, _, _, _, _, _, _, _, _, _, rfl, Hd ++ F2, hG.trans (perm_of fun z => by simp only [cn_app, cn_cons, cn_nil]; omega), fun b1 I4 l4 hb1 => ?_⟩
      refine TriE.mono (push_spec (f := DoN.enc) (fun _ => rfl) (zv := (⟨0, 0, ⟨#[]⟩, zNd, zNd, zNd, zNd, 0⟩ : DoN).v) (by' := 320) (by kernel_rfl) (by kernel_rfl) rfl (by decide) dP (x := d') (fun u hu => ?_) (R0 := [(b_x, Obj.cells #[.string x.name, .slice x.a x.rules.length x.c, .int .i64 x.pos] 70 (0, 0)), (b, Obj.cells #[.string ⟨#[]⟩, .slice none 0 0, .int .i64 0] 70 (0, 0)), (b_r, Obj.cells #[.int .u8 r.when.kind, .int .u8 r.when.oper, .int .u8 r.when.typ, .int .i64 r.when.n, .int .u8 r.when.field, .string r.when.name, .slice r.when.a r.when.kids.length r.when.c, .int .i64 r.when.pos, .slice r.a r.dos.length r.c, .int .i64 r.pos] 67 (0, 0))]) rfl hb1 od (.refl _) (by omega)) fun v I5 G2 l5 ⟨a', n', c', hv, F3, hG2, hP2⟩ => ?_
      · simp only [DoN.enc, List.mem_cons, List.not_mem_nil, or_false] at hu
        rcases hu with rfl | rfl | rfl | rfl | rfl | rfl | rfl | rfl | rfl | rfl | rfl | rfl | rfl | rfl | rfl | rfl | rfl | rfl | rfl | rfl | rfl | rfl | rfl | rfl | rfl | rfl | rfl | rfl | rfl | rfl | rfl | rfl | rfl | rfl | rfl | rfl <;> rfl
      · refine ⟨a', n', c', hv, F3, hG2, (r.dos.length - (k + 1)).toNat, by omega, r, hr, ?_⟩
        rw [w64 (n := k + 1) (by omega)]
        refine ⟨by omega, by omega, rfl, ds ++ [d'], ?_, hP2⟩
        rw [show (k + 1).toNat = k.toNat + 1 by omega, map_snoc hd, List.map_append, dk, List.map_singleton, pd]
    · obtain rfl : r = r' := by rw [hr] at hr'; exact Option.some.inj hr'
      have hlt2 := of_decide_eq_false hlt2
      have ok2 : r.Ok I2 F2 := (ok1.2 r hrm).mono l2 dP.mem
      refine (bare_spec r.when (hru r hrm).1 I2 _ ok2.1.cons.cons.cons).mono fun e I6 G l6 ⟨w, Hw, he, pw, ow, hG⟩ => ?_
      subst he
      refine ⟨_, _, _, _, _, _, _, _, _, _, rfl, Hw ++ F2, hG.trans (perm_of fun z => by simp only [cn_app, cn_cons, cn_nil]; omega), fun b2 I7 l7 hb2 => ?_⟩
      have hdn := dP.len
      subst hdn
      obtain ⟨Hd, hO, hp⟩ := dP.own
      refine TriE.mono (push_spec (f := RuleN.enc) (fun _ => rfl) (zv := (⟨zNd, none, 0, [], 0⟩ : RuleN).v) (by' := 104) (by kernel_rfl) (by kernel_rfl) rfl (by decide) gP (x := ⟨w, da, dc, ds, 0⟩) (fun u hu => ?_) (R0 := [(b_x, Obj.cells #[.string x.name, .slice x.a x.rules.length x.c, .int .i64 x.pos] 70 (0, 0)), (b, Obj.cells #[.string ⟨#[]⟩, .slice none 0 0, .int .i64 0] 70 (0, 0)), (b_r, Obj.cells #[.int .u8 r.when.kind, .int .u8 r.when.oper, .int .u8 r.when.typ, .int .i64 r.when.n, .int .u8 r.when.field, .string r.when.name, .slice r.when.a r.when.kids.length r.when.c, .int .i64 r.when.pos, .slice r.a r.dos.length r.c, .int .i64 r.pos] 67 (0, 0))]) rfl hb2 (Hx := Hw ++ Hd) ⟨Hw, Hd, rfl, ow, hO⟩ ?_ (by omega)) fun v I8 G2 l8 ⟨a', n', c', hv, F3, hG2, hP2⟩ => ?_
      · simp only [RuleN.enc, List.mem_cons, List.not_mem_nil, or_false] at hu
        rcases hu with rfl | rfl | rfl | rfl | rfl | rfl | rfl | rfl | rfl | rfl <;> rfl
      · exact (perm_of fun z => by have q0 := cn_perm hp z; simp only [cn_app, cn_cons, cn_nil] at q0 ⊢; omega)
      · refine ⟨a', n', c', hv, F3, hG2, (x.rules.length - (i + 1)).toNat, by omega, ?_⟩
        rw [w64 (n := i + 1) (by omega)]
        refine ⟨by omega, by omega, rfl, _, ?_, hP2⟩
        rw [show (i + 1).toNat = i.toNat + 1 by omega, map_snoc hr, List.map_append, gk, List.map_singleton]
        congr 2
        show RuleP.mk w.px (ds.map DoN.p) 0 = ⟨r.when.px.bare, (r.dos.map DoN.p).map DoP.bare, 0⟩
        rw [pw, dk, List.take_of_length_le (by omega)]
  · have hlt := of_decide_eq_false hlt
    have hn := gP.len
    subst hn
    obtain ⟨H, hO, hp⟩ := gP.own
    refine ⟨⟨x.name, a, c, ks, 0⟩, H, rfl, ?_, hO, hp⟩
    show StateP.mk x.name (ks.map RuleN.p) 0 = ⟨x.name, (x.rules.map RuleN.p).map RuleP.bare, 0⟩
    rw [gk, List.take_of_length_le (by omega)]
theorem bareStg_spec (s : StgN) (hs : s.p.Light) (I : Imm) (F : Heap) (hx : s.Ok I F) : Tri P 11 #[s.v] I F fun e I' G => ∃ (s' : StgN) (H : Heap), e = .returned s'.v ∧ s'.p = s.p.bare ∧ StgOwn false s' H ∧ G.Perm (H ++ F) := by
  have lr := hs.regs
  have ls := hs.slots
  have lt := hs.states
  simp only [StgN.p, List.length_map] at lr ls lt
  have hnm : ∀ r ∈ s.regs, r.init.px.size ≤ 1048576 := fun r hr => hs.reg _ (List.mem_map_of_mem hr)
  have hst : ∀ x ∈ s.states, x.p.Light := fun x hx => hs.state _ (List.mem_map_of_mem hx)
  refine ref00_BareStrategy.vc
    (fun i nm a n c a2 n2 c2 a3 n3 c3 m I' F' => nm = s.name ∧ (a2 = none ∧ n2 = 0 ∧ c2 = 0) ∧ (a3 = none ∧ n3 = 0 ∧ c3 = 0) ∧ 0 ≤ i ∧ i ≤ s.regs.length ∧ m = (s.regs.length - i).toNat ∧ Imm.le I I' ∧ ∃ rs : List RegN, rs.map RegN.p = ((s.regs.take i.toNat).map RegN.p).map RegP.bare ∧ Part 11 RegN.enc 75 (RegOwn false) a n c rs F F')
    (fun i nm a n c a2 n2 c2 a3 n3 c3 m I' F' => nm = s.name ∧ (a3 = none ∧ n3 = 0 ∧ c3 = 0) ∧ 0 ≤ i ∧ i ≤ s.slots.length ∧ m = (s.slots.length - i).toNat ∧ Imm.le I I' ∧ ∃ (rs : List RegN) (H1 : Heap) (ss : List SlotP), rs.map RegN.p = (s.regs.map RegN.p).map RegP.bare ∧ n = rs.length ∧ OwnL false 11 RegN.enc 75 (RegOwn false) a n c rs H1 ∧
      ss.map id = ((s.slots.take i.toNat).map id).map SlotP.bare ∧ Part 2 SlotP.enc 77 SlotOwn a2 n2 c2 ss (H1 ++ F) F')
    (fun i nm a n c a2 n2 c2 a3 n3 c3 m I' F' => nm = s.name ∧ 0 ≤ i ∧ i ≤ s.states.length ∧ m = (s.states.length - i).toNat ∧ Imm.le I I' ∧ ∃ (rs : List RegN) (H1 : Heap) (ss : List SlotP) (H2 : Heap) (ts : List StateN), rs.map RegN.p = (s.regs.map RegN.p).map RegP.bare ∧ n = rs.length ∧ OwnL false 11 RegN.enc 75 (RegOwn false) a n c rs H1 ∧
      ss = s.slots.map SlotP.bare ∧ n2 = ss.length ∧ OwnL false 2 SlotP.enc 77 SlotOwn a2 n2 c2 ss H2 ∧ ts.map StateN.p = ((s.states.take i.toNat).map StateN.p).map StateP.bare ∧ Part 3 StateN.enc 70 (StateOwn false) a3 n3 c3 ts (H1 ++ (H2 ++ F)) F') ?_
  unfold ref00_BareStrategy.V
  intro b_s b b_x
  refine ⟨⟨_, rfl, ⟨rfl, rfl, rfl⟩, ⟨rfl, rfl, rfl⟩, by omega, by omega, rfl, Imm.le_refl I, [], by simp, Part.nil⟩, fun i nm a n c a2 n2 c2 a3 n3 c3 m I1 F1 _ ⟨hnm1, ⟨e1, e2, e3⟩, ⟨e4, e5, e6⟩, g0, g1, gm, l1, rs, gk, gP⟩ => ⟨fun hlt => ?_, fun hlt => ?_⟩⟩
  · subst e1 e2 e3 e4 e5 e6 hnm1
    have hlt := of_decide_eq_true hlt
    have ok1 : s.Ok I1 F1 := hx.mono l1 gP.mem
    obtain ⟨ad, r, had, hr, hrd, hrm⟩ := SlG.atm (ok1.cons.cons.cons (x := (b_s, Obj.cells #[.string s.name, .slice s.ra s.regs.length s.rc, .slice s.sa s.slots.length s.sc, .slice s.ta s.states.length s.tc] 26 (0, 0))) (s := s)).regs g0 hlt
    have hkl := map_len gk (by omega)
    refine ⟨⟨g0, hlt⟩, ad, had, _, _, _, _, _, _, _, _, _, _, _, _, _, hrd, fun b_r => (bare_spec r.init (hnm r hrm) I1 _ ((ok1.reg r hrm).mono (Imm.le_refl _) fun a ha => .tail _ (.tail _ (.tail _ (.tail _ ha))))).mono fun e I2 G l2 ⟨w, Hw, he, pw, ow, hG⟩ => ?_⟩
    subst he
    refine ⟨_, _, _, _, _, _, _, _, _, _, rfl, Hw ++ F1, hG.trans (perm_of fun z => by simp only [cn_app, cn_cons, cn_nil]; omega), fun b1 I3 l3 hb1 => ?_⟩
    refine TriE.mono (push_spec (f := RegN.enc) (fun _ => rfl) (zv := (⟨⟨#[]⟩, 0, zNd, 0⟩ : RegN).v) (by' := 104) (by kernel_rfl) (by kernel_rfl) rfl (by decide) gP (x := ⟨r.name, r.typ, w, 0⟩) (fun u hu => ?_) (R0 := [(b_s, Obj.cells #[.string s.name, .slice s.ra s.regs.length s.rc, .slice s.sa s.slots.length s.sc, .slice s.ta s.states.length s.tc] 26 (0, 0)), (b, _), (b_x, _), (b_r, Obj.cells #[.string r.name, .int .u8 r.typ, .int .u8 r.init.kind, .int .u8 r.init.oper, .int .u8 r.init.typ, .int .i64 r.init.n, .int .u8 r.init.field, .string r.init.name, .slice r.init.a r.init.kids.length r.init.c, .int .i64 r.init.pos, .int .i64 r.pos] 75 (0, 0))]) rfl hb1 (Hx := Hw) ow (.refl _) (by omega)) fun v I4 G2 l4 ⟨a', n', c', hv, F3, hG2, hP2⟩ => ?_
    · simp only [RegN.enc, List.mem_cons, List.not_mem_nil, or_false] at hu
      rcases hu with rfl | rfl | rfl | rfl | rfl | rfl | rfl | rfl | rfl | rfl | rfl <;> rfl
    · refine ⟨a', n', c', hv, F3, hG2, (s.regs.length - (i + 1)).toNat, by omega, rfl, ⟨rfl, rfl, rfl⟩, ⟨rfl, rfl, rfl⟩, ?_⟩
      rw [w64 (n := i + 1) (by omega)]
      refine ⟨by omega, by omega, rfl, Imm.le_trans l1 (Imm.le_trans l2 (Imm.le_trans l3 l4)), _, ?_, hP2⟩
      rw [show (i + 1).toNat = i.toNat + 1 by omega, map_snoc hr, List.map_append, gk, List.map_singleton]
      congr 2
      show RegP.mk r.name r.typ w.px 0 = ⟨r.name, r.typ, r.init.px.bare, 0⟩
      rw [pw]
  · subst e1 e2 e3 e4 e5 e6 hnm1
    have hlt := of_decide_eq_false hlt
    obtain ⟨H1, hO1, hp1⟩ := gP.own
    refine ⟨⟨_, rfl, ⟨rfl, rfl, rfl⟩, by omega, by omega, rfl, l1, rs, H1, [], by rw [gk, List.take_of_length_le (by omega)], gP.len, hO1, by simp, [], fun _ => [], Acc.nil, fun i k h => by simp at h, hp1⟩, fun i nm a n c a2 n2 c2 a3 n3 c3 m I5 F4 _ ⟨hnm1, ⟨e4, e5, e6⟩, g0, g1, gm, l5, rs, H1, ss, gr, hn, hO1, gk, gP⟩ => ⟨fun hlt => ?_, fun hlt => ?_⟩⟩
    · subst e4 e5 e6 hnm1
      have hlt := of_decide_eq_true hlt
      have ok1 : s.Ok I5 F4 := hx.mono l5 fun a ha => gP.mem a (List.mem_append_right _ ha)
      obtain ⟨ad, r, had, hr, hrd, hrm⟩ := SlG.atm (ok1.cons.cons.cons (x := (b_s, Obj.cells #[.string s.name, .slice s.ra s.regs.length s.rc, .slice s.sa s.slots.length s.sc, .slice s.ta s.states.length s.tc] 26 (0, 0))) (s := s)).slots g0 hlt
      have hkl := map_len gk (by omega)
      refine ⟨⟨g0, hlt⟩, ad, had, r.name, hrd.field (o := 0) rfl, fun b2 I6 l6 hb2 => ?_⟩
      refine TriE.mono (push_spec (f := SlotP.enc) (fun _ => rfl) (zv := (⟨⟨#[]⟩, 0⟩ : SlotP).v) (by' := 24) (by kernel_rfl) (by kernel_rfl) rfl (by decide) gP (x := ⟨r.name, 0⟩) (fun u hu => ?_) (R0 := [(b_s, Obj.cells #[.string s.name, .slice s.ra s.regs.length s.rc, .slice s.sa s.slots.length s.sc, .slice s.ta s.states.length s.tc] 26 (0, 0)), (b, _), (b_x, _)]) rfl hb2 (Hx := []) rfl (.refl _) (by omega)) fun v I7 G2 l7 ⟨a', n', c', hv, F3, hG2, hP2⟩ => ?_
      · simp only [SlotP.enc, List.mem_cons, List.not_mem_nil, or_false] at hu
        rcases hu with rfl | rfl <;> rfl
      · refine ⟨a', n', c', hv, F3, hG2, (s.slots.length - (i + 1)).toNat, by omega, rfl, ⟨rfl, rfl, rfl⟩, ?_⟩
        rw [w64 (n := i + 1) (by omega)]
        refine ⟨by omega, by omega, rfl, Imm.le_trans l5 (Imm.le_trans l6 l7), rs, H1, _, gr, hn, hO1, ?_, hP2⟩
        rw [show (i + 1).toNat = i.toNat + 1 by omega, map_snoc hr, List.map_append, gk, List.map_singleton]; rfl
    · subst e4 e5 e6 hnm1
      have hlt := of_decide_eq_false hlt
      obtain ⟨H2, hO2, hp2⟩ := gP.own
      have hss : ss = s.slots.map SlotP.bare := by
        rw [List.map_id, List.map_id, List.take_of_length_le (by omega)] at gk; exact gk
      refine ⟨⟨_, rfl, by omega, by omega, rfl, l5, rs, H1, ss, H2, [], gr, hn, hO1, hss, gP.len, hO2, by simp, [], fun _ => [], Acc.nil, fun i k h => by simp at h, (show List.Perm _ (H1 ++ (H2 ++ F)) from (perm_of fun z => by have q0 := cn_perm hp2 z; simp only [cn_app, cn_cons, cn_nil] at q0 ⊢; omega))⟩, fun i nm a n c a2 n2 c2 a3 n3 c3 m I8 F6 _ ⟨hnm1, g0, g1, gm, l8, rs, H1, ss, H2, ts, gr, hn, hO1, gs, hn2, hO2, gk, gP⟩ => ⟨fun hlt => ?_, fun hlt => ?_⟩⟩
      · subst hnm1
        have hlt := of_decide_eq_true hlt
        have ok1 : s.Ok I8 F6 := hx.mono l8 fun a ha => gP.mem a (List.mem_append_right _ (List.mem_append_right _ ha))
        obtain ⟨ad, x, had, hx', hrd, hxm⟩ := SlG.atm (ok1.cons.cons.cons (x := (b_s, Obj.cells #[.string s.name, .slice s.ra s.regs.length s.rc, .slice s.sa s.slots.length s.sc, .slice s.ta s.states.length s.tc] 26 (0, 0))) (s := s)).states g0 hlt
        have hkl := map_len gk (by omega)
        refine ⟨⟨g0, hlt⟩, ad, had, _, _, _, _, _, hrd, (bareState_spec x (hst x hxm) I8 _ (((ok1.state x hxm).cons).cons.cons)).mono fun e I9 G l9 ⟨x', Hx, he, px, ox, hG⟩ => ?_⟩
        subst he
        refine ⟨_, _, _, _, _, rfl, Hx ++ F6, hG.trans (perm_of fun z => by simp only [cn_app, cn_cons, cn_nil]; omega), fun b3 I10 l10 hb3 => ?_⟩
        refine TriE.mono (push_spec (f := StateN.enc) (fun _ => rfl) (zv := (⟨⟨#[]⟩, none, 0, [], 0⟩ : StateN).v) (by' := 48) (by kernel_rfl) (by kernel_rfl) rfl (by decide) gP (x := x') (fun u hu => ?_) (R0 := [(b_s, Obj.cells #[.string s.name, .slice s.ra s.regs.length s.rc, .slice s.sa s.slots.length s.sc, .slice s.ta s.states.length s.tc] 26 (0, 0)), (b, _), (b_x, _)]) rfl hb3 (Hx := Hx) ox (.refl _) (by omega)) fun v I11 G2 l11 ⟨a', n', c', hv, F3, hG2, hP2⟩ => ?_
        · simp only [StateN.enc, List.mem_cons, List.not_mem_nil, or_false] at hu
          rcases hu with rfl | rfl | rfl <;> rfl
        · refine ⟨a', n', c', hv, F3, hG2, (s.states.length - (i + 1)).toNat, by omega, rfl, ?_⟩
          rw [w64 (n := i + 1) (by omega)]
          refine ⟨by omega, by omega, rfl, Imm.le_trans l8 (Imm.le_trans l9 (Imm.le_trans l10 l11)), rs, H1, ss, H2, _, gr, hn, hO1, gs, hn2, hO2, ?_, hP2⟩
          rw [show (i + 1).toNat = i.toNat + 1 by omega, map_snoc hx', List.map_append, gk, List.map_singleton, px]
      · subst hnm1
        have hlt := of_decide_eq_false hlt
        have hn3 := gP.len
        subst hn hn2 hn3
        obtain ⟨H3, hO3, hp3⟩ := gP.own
        refine ⟨⟨s.name, a, c, rs, a2, c2, ss, a3, c3, ts⟩, H1 ++ (H2 ++ H3), rfl, ?_, ⟨H1, H2, H3, rfl, hO1, hO2, hO3⟩, (perm_of fun z => by have q0 := cn_perm hp3 z; simp only [cn_app, cn_cons, cn_nil] at q0 ⊢; omega)⟩
        show StgP.mk s.name (rs.map RegN.p) ss (ts.map StateN.p) = ⟨s.name, (s.regs.map RegN.p).map RegP.bare, s.slots.map SlotP.bare, (s.states.map StateN.p).map StateP.bare⟩
        rw [gr, gs, gk, List.take_of_length_le (by omega)]
end Go.Lx
namespace Go.Lx
open Go.Vc
theorem Rd.pre {I : Imm} {G : Heap} {ad : Addr} {cs ds : List Value} (h : Rd I G ad (cs ++ ds)) : Rd I G ad cs := by
  obtain ⟨h1, cells, e, fz, h2, h3⟩ := h
  exact ⟨h1, cells, e, fz, h2, fun j hj => by rw [h3 j (by rw [List.length_append]; omega), List.getElem?_append_left hj]⟩
theorem ex_reads : masks bidP.nodes = 2 ∧ namesOf bidP.nodes = [] := by decide +kernel
theorem ex_fit : bidP.Wf := by
  intro y hy
  have : y = bidP := by
    have h : bidP.nodes = [bidP] := rfl
    rw [h] at hy; simpa using hy
  subst this
  simp only [Px.Fit, bidP, Px.kind, Px.oper, Px.typ, Px.n, Px.field, Px.pos]; omega
theorem awake_spec (I : Imm) (F : Heap) : Tri P 4 #[] I F (Ret (.bool true) F) := by
  refine Tri.keep (Q := fun e I' G => e = .returned (.bool true) ∧ ∃ H, G.Perm (H ++ F)) ?_ fun e I' G w hl hs ⟨he, H, hp⟩ => ⟨I', F, Imm.le_refl _, (hs.perm hp).drop, he, rfl⟩
  refine law12_awake.vc ?_
  unfold law12_awake.V
  refine (sum_spec I F).mono fun e I1 G hI1 ⟨t, he, hpx, hok, hG⟩ => ?_
  subst hG
  have hs : t.px.size ≤ 1048576 := by rw [hpx, ex_size]; decide
  refine ⟨_, _, _, _, _, _, _, _, _, _, he, G, .refl _, fun b_n => ?_⟩
  refine Tri.ret (Level_spec t hs I1 _ (hok _)) fun I2 hI2 => ⟨_, rfl, G, .refl _, ?_⟩
  have ok2 : ∀ {J : Imm} {H : Heap}, Imm.le I1 J → NdOk J H t := fun hJ => (hok _).mono hJ fun _ h => h
  refine Tri.ret (Depth_spec t hs I2 _ (ok2 hI2)) fun I3 hI3 => ⟨_, rfl, G, .refl _, ?_⟩
  have l3 := Imm.le_trans hI2 hI3
  refine Tri.ret (tSize_spec t hs I3 _ (ok2 l3)) fun I4 hI4 => ⟨_, rfl, G, .refl _, ?_⟩
  have l4 := Imm.le_trans l3 hI4
  refine Tri.ret (checkExpr_spec t hs I4 _ (ok2 l4)) fun I5 hI5 => ⟨_, rfl, G, .refl _, ?_⟩
  have l5 := Imm.le_trans l4 hI5
  refine Tri.ret (checkExpr_spec (.mk 1 0 6 0 0 ⟨#[]⟩ none 0 [] 0) (by decide +kernel) I5 _ NdOk.leaf) fun I6 hI6 => ⟨_, rfl, G, .refl _, ?_⟩
  have l6 := Imm.le_trans l5 hI6
  refine (least_spec I6 _).mono fun e I7 G7 hI7 ⟨b1, b2, b3, s, hse, he, hsok, hG⟩ => ?_
  subst hG
  have l7 := Imm.le_trans l6 hI7
  have hsp : s.p = leastP := by rw [hse]; rfl
  have hsm : Small s.p.nds := by rw [hsp]; show ∀ x ∈ leastP.nds, x.size ≤ 1048576; decide +kernel
  have hln : s.Lens := by
    rw [hse]
    refine ⟨Nat.le_of_ble_eq_true rfl, Nat.le_of_ble_eq_true rfl, Nat.le_of_ble_eq_true rfl, fun x hx => ?_, fun x hx r hr => ?_⟩
    · simp only [List.mem_singleton] at hx
      subst hx; exact Nat.le_of_ble_eq_true rfl
    · simp only [List.mem_singleton] at hx
      subst hx
      simp only [List.mem_singleton] at hr
      subst hr; exact Nat.le_of_ble_eq_true rfl
  refine ⟨_, _, _, _, _, _, _, _, _, _, he, G, .refl _, ?_⟩
  refine Tri.ret (Check_spec s hsm hln I7 _ (hsok _)) fun I8 hI8 => ⟨_, rfl, G, .refl _, ?_⟩
  have l8 := Imm.le_trans l7 hI8
  refine Tri.ret (Check_spec ⟨⟨#[115]⟩, none, 0, [], none, 0, [], none, 0, []⟩ (fun x hx => by cases hx) ⟨by decide, by decide, by decide, fun x hx => (by cases hx), fun x hx => (by cases hx)⟩ I8 _ ⟨SlG.nil, fun x hx => (by cases hx), SlG.nil, SlG.nil, fun x hx => (by cases hx)⟩) fun I9 hI9 => ⟨_, rfl, G, .refl _, ?_⟩
  have l9 := Imm.le_trans l8 hI9
  refine (least_spec I9 _).mono fun e I10 G10 hI10 ⟨c1, c2, c3, u, hue, he, huok, hG⟩ => ?_
  subst hG
  have l10 := Imm.le_trans l9 hI10
  refine ⟨_, _, _, _, _, _, _, _, _, _, he, G, .refl _, ?_⟩
  have huk := huok ((b_n, Obj.cells #[.int .u8 t.kind, .int .u8 t.oper, .int .u8 t.typ, .int .i64 t.n, .int .u8 t.field, .string t.name, .slice t.a t.kids.length t.c, .int .i64 t.pos] 55 (0, 0)) :: G)
  subst hue
  obtain ⟨ad, x, had, hx, hrd, hxm⟩ := SlG.atm huk.states (i := 0) (by decide) (show (0 : Int) < 1 by decide)
  simp only [List.mem_singleton] at hxm
  have hr := huk.state x (by simp [hxm])
  subst hxm
  obtain ⟨ad1, r, had1, hr1, hrd1, hrm⟩ := SlG.atm hr.1 (i := 0) (by decide) (show (0 : Int) < 1 by decide)
  simp only [List.mem_singleton] at hrm
  subst hrm
  refine ⟨⟨by decide, show (0 : Int) < 1 by decide⟩, ad, had, _, _, _, hrd.field2 (p := 0) (q := 1) rfl, ⟨by decide, show (0 : Int) < 1 by decide⟩, ad1, had1, _, _, _, _, _, _, _, _, _, _, Rd.pre (cs := bidN.enc) (ds := [.slice (some ⟨c1, 0, none⟩) 1 1, .int .i64 0]) hrd1, ?_⟩
  refine (tReads_spec bidN (by decide +kernel) ex_fit I10 _ NdOk.leaf).mono fun e I11 G11 hI11 ⟨na, nn, nc, A, he, hA, hG⟩ => ?_
  subst hG
  have l11 := Imm.le_trans l10 hI11
  have hbp : bidN.px = bidP := rfl
  rw [hbp, ex_reads.1] at he
  rw [hbp, ex_reads.2] at hA
  have hnn : nn = 0 := hA.1
  subst hnn
  refine ⟨_, _, _, _, he, A ++ G, (perm_of fun z => by simp only [cn_app, cn_cons, cn_nil]; omega), ?_⟩
  refine (bareExpr_spec t hs I11 _ (ok2 l11)).mono fun e I12 G12 hI12 ⟨t', H, he, hpx', hO, hG⟩ => ?_
  have l12 := Imm.le_trans l11 hI12
  rw [hpx] at hpx'
  refine ⟨_, _, _, _, _, _, _, _, _, _, he, H ++ (A ++ G), hG.trans (perm_of fun z => by simp only [cn_app, cn_cons, cn_nil]; omega), fun b_b => ?_⟩
  have ok' : ∀ {J : Imm}, NdOk J ((b_n, Obj.cells #[.int .u8 t.kind, .int .u8 t.oper, .int .u8 t.typ, .int .i64 t.n, .int .u8 t.field, .string t.name, .slice t.a t.kids.length t.c, .int .i64 t.pos] 55 (0, 0)) :: (b_b, Obj.cells #[.int .u8 t'.kind, .int .u8 t'.oper, .int .u8 t'.typ, .int .i64 t'.n, .int .u8 t'.field, .string t'.name, .slice t'.a t'.kids.length t'.c, .int .i64 t'.pos] 55 (0, 0)) :: (H ++ (A ++ G))) t' := hO.ok fun x hx => List.mem_cons_of_mem _ (List.mem_cons_of_mem _ (List.mem_append_left _ hx))
  refine Tri.ret (sameExpr_spec t hs t' I12 _ (ok2 l12) ok') fun I13 hI13 => ⟨_, rfl, H ++ (A ++ G), .refl _, ?_⟩
  rw [hpx', hpx, ex_level, ex_depth, ex_size, ex_check, ex_like]
  have hkl : t'.kids.map Nd.px = sumP.bare.kids := by rw [← Nd.px_kids, hpx']
  have hk2 : t'.kids.length = 2 := by have := congrArg List.length hkl; rw [List.length_map] at this; rw [this]; rfl
  have e4 : (Nd.mk 1 0 6 0 0 ⟨#[]⟩ none 0 [] 0).px.checkE = 120 := ex_side
  have e5 : s.p.check = 0 := by rw [hsp]; exact ex_least
  have e6 : (⟨⟨#[115]⟩, none, 0, [], none, 0, [], none, 0, []⟩ : StgN).p.check = 120 := ex_none
  rw [e4, e5, e6]
  refine ⟨fun _ => ⟨fun _ => ⟨fun _ => ⟨fun _ => ⟨fun _ => ⟨fun _ => ⟨fun _ => ⟨fun _ => ⟨fun _ => ⟨fun _ => ⟨fun _ => ?_, fun h => by (rw [hk2] at h; cases h)⟩, fun h => by (cases h)⟩, fun h => by (cases h)⟩, fun h => by (cases h)⟩, fun h => by (cases h)⟩, fun h => by (cases h)⟩, fun h => by (cases h)⟩, fun h => by (cases h)⟩, fun h => by (cases h)⟩, fun h => by (cases h)⟩, fun h => by (cases h)⟩
  have ok13 : NdOk I13 ((b_n, Obj.cells #[.int .u8 t.kind, .int .u8 t.oper, .int .u8 t.typ, .int .i64 t.n, .int .u8 t.field, .string t.name, .slice t.a t.kids.length t.c, .int .i64 t.pos] 55 (0, 0)) :: (b_b, Obj.cells #[.int .u8 t'.kind, .int .u8 t'.oper, .int .u8 t'.typ, .int .i64 t'.n, .int .u8 t'.field, .string t'.name, .slice t'.a t'.kids.length t'.c, .int .i64 t'.pos] 55 (0, 0)) :: (H ++ (A ++ G))) t' := ok'
  obtain ⟨ad2, y, had2, hy, hrd2, hyo, hym⟩ := ok13.kids.at (i := 1) (by decide) (by omega)
  refine ⟨⟨by decide, by omega⟩, ad2, had2, y.pos, hrd2.field (o := 7) rfl, ?_, H ++ A, by rw [List.append_assoc]⟩
  have hyp : y.px.pos = 0 := by
    have h1 : (t'.kids.map Nd.px)[1]? = some y.px := by rw [List.getElem?_map]; rw [show (1 : Int).toNat = 1 from rfl] at hy; rw [hy]; rfl
    rw [hkl] at h1
    have h2 : sumP.bare.kids[1]? = some (Px.mk 6 6 0 0 0 ⟨#[]⟩ [.mk 1 0 1 2 0 ⟨#[]⟩ [] 0, .mk 1 0 1 3 0 ⟨#[]⟩ [] 0] 0) := rfl
    rw [h2] at h1
    rw [← Option.some.inj h1]; rfl
  rw [Nd.px_pos] at hyp
  rw [hyp]; rfl
end Go.Lx
namespace Go.Lx
open Go.Vc
def noRow : Row := ⟨none, 0, 0⟩
theorem Px.ShortP.bare : ∀ {x : Px}, x.ShortP → x.bare.ShortP := by
  refine @(Px.ind fun x ih h => ?_)
  rw [Px.bare_eq]
  refine .mk h.name (by show (x.kids.map Px.bare).length ≤ _; rw [List.length_map]; exact h.len) fun k hk => ?_
  have hk : k ∈ x.kids.map Px.bare := hk
  obtain ⟨y, hy, rfl⟩ := List.mem_map.1 hk
  exact ih y hy (h.kid y hy)
theorem Px.bare_size : ∀ x : Px, x.bare.size = x.size := by
  have hL : ∀ l : List Px, (∀ x ∈ l, x.bare.size = x.size) → Px.sizeL (l.map Px.bare) = Px.sizeL l := by
    intro l
    induction l with
    | nil => intro _; rfl
    | cons x r ih => intro h; rw [List.map_cons, Px.sizeL, Px.sizeL, h x (List.mem_cons_self ..), ih fun y hy => h y (List.mem_cons_of_mem _ hy)]
  refine Px.ind fun x ih => ?_
  rw [Px.bare_eq, Px.size_eq, Px.size_eq]
  show 1 + Px.sizeL (x.kids.map Px.bare) = _
  rw [hL x.kids ih]
theorem Bd.app {z : Nat} {ls ms : List (List (Ck z))} (h : Bd ls) (h' : Bd ms) : Bd (ls ++ ms) := by
  intro j y hy
  rw [List.getElem?_append] at hy
  split at hy
  · exact h j y hy
  · exact h' _ y hy
end Go.Lx
namespace Go.Lx
open Go.Vc
def bothB {α β : Type} (f : α → β → Bool) (l : List α) (m : List β) : Bool := decide (l.length = m.length) && eachB f l m
def DoP.like (d e : DoP) : Bool := d.kind == e.kind && (d.order == e.order && (d.name.toList == e.name.toList && (d.side.like e.side && (d.qty.like e.qty && (d.price.like e.price && d.value.like e.value)))))
def RuleP.like (r q : RuleP) : Bool := r.when.like q.when && bothB DoP.like r.dos q.dos
def StateP.like (x y : StateP) : Bool := x.name.toList == y.name.toList && bothB RuleP.like x.rules y.rules
def RegP.like (r q : RegP) : Bool := r.name.toList == q.name.toList && (r.typ == q.typ && r.init.like q.init)
def SlotP.like (r q : SlotP) : Bool := r.name.toList == q.name.toList
def StgP.like (s u : StgP) : Bool := s.name.toList == u.name.toList && (bothB RegP.like s.regs u.regs && (bothB SlotP.like s.slots u.slots && bothB StateP.like s.states u.states))
theorem DoP.same_bare (d e : DoP) : d.bare.same e.bare = d.like e := by
  simp only [DoP.same, DoP.bare, DoP.like, Px.same_bare, BEq.rfl, Bool.true_and]
theorem RuleP.same_bare (r q : RuleP) : r.bare.same q.bare = r.like q := by
  simp only [RuleP.same, RuleP.bare, RuleP.like, bothB, Px.same_bare, BEq.rfl, Bool.true_and, List.length_map]
  rw [eachB_map fun x _ y => DoP.same_bare x y]
theorem StateP.same_bare (r q : StateP) : r.bare.same q.bare = r.like q := by
  simp only [StateP.same, StateP.bare, StateP.like, bothB, BEq.rfl, Bool.true_and, List.length_map]
  rw [eachB_map fun x _ y => RuleP.same_bare x y]
theorem RegP.same_bare (r q : RegP) : r.bare.same q.bare = r.like q := by
  simp only [RegP.same, RegP.bare, RegP.like, Px.same_bare, BEq.rfl, Bool.and_true]
  rw [Bool.and_comm, Bool.and_assoc]
theorem SlotP.same_bare (r q : SlotP) : r.bare.same q.bare = r.like q := by
  simp only [SlotP.same, SlotP.bare, SlotP.like, BEq.rfl, Bool.and_true]
theorem StgP.same_bare (s u : StgP) : s.bare.same u.bare = s.like u := by
  simp only [StgP.same, StgP.bare, StgP.like, bothB, List.length_map]
  rw [eachB_map fun x _ y => RegP.same_bare x y, eachB_map fun x _ y => SlotP.same_bare x y, eachB_map fun x _ y => StateP.same_bare x y]
  generalize (s.name.toList == u.name.toList) = a
  generalize decide (s.regs.length = u.regs.length) = b
  generalize decide (s.slots.length = u.slots.length) = c
  generalize decide (s.states.length = u.states.length) = d
  cases a <;> cases b <;> cases c <;> cases d <;> simp
theorem DoP.Short.bare {d : DoP} (h : d.Short) : d.bare.Short := by
  refine ⟨h.1, fun x hx => ?_⟩
  have hs := h.2
  simp only [DoP.nds, DoP.bare, List.mem_cons, List.not_mem_nil, or_false] at hx hs
  rcases hx with rfl | rfl | rfl | rfl
  · exact (hs _ (.inl rfl)).bare
  · exact (hs _ (.inr (.inl rfl))).bare
  · exact (hs _ (.inr (.inr (.inl rfl)))).bare
  · exact (hs _ (.inr (.inr (.inr rfl)))).bare
theorem RuleP.Short.bare {r : RuleP} (h : r.Short) : r.bare.Short := by
  refine ⟨h.1.bare, by simp only [RuleP.bare, List.length_map]; exact h.2.1, fun d hd => ?_⟩
  obtain ⟨d', hd', rfl⟩ := List.mem_map.1 hd
  exact (h.2.2 d' hd').bare
theorem StateP.Short.bare {r : StateP} (h : r.Short) : r.bare.Short := by
  refine ⟨h.1, by simp only [StateP.bare, List.length_map]; exact h.2.1, fun d hd => ?_⟩
  obtain ⟨d', hd', rfl⟩ := List.mem_map.1 hd
  exact (h.2.2 d' hd').bare
theorem StgP.Short.bare {s : StgP} (h : s.Short) : s.bare.Short := by
  refine ⟨h.name, ?_, fun d hd => ?_, ?_, fun d hd => ?_, ?_, fun d hd => ?_⟩
  · simp only [StgP.bare, List.length_map]; exact h.regs
  · obtain ⟨d', hd', rfl⟩ := List.mem_map.1 hd
    exact ⟨(h.reg d' hd').1, (h.reg d' hd').2.bare⟩
  · simp only [StgP.bare, List.length_map]; exact h.slots
  · obtain ⟨d', hd', rfl⟩ := List.mem_map.1 hd
    exact h.slot d' hd'
  · simp only [StgP.bare, List.length_map]; exact h.states
  · obtain ⟨d', hd', rfl⟩ := List.mem_map.1 hd
    exact (h.state d' hd').bare
theorem likeStg_spec (s u : StgN) (hs : s.p.Short) (hls : s.p.Light) (hlu : u.p.Light) (I : Imm) (F : Heap) (hx : s.Ok I F) (hy : u.Ok I F) : Tri P 13 #[s.v, u.v] I F fun e I' G => e = .returned (.bool (s.p.like u.p)) ∧ ∃ H, G.Perm (H ++ F) := by
  refine ref00_LikeStrategy.vc ?_
  unfold ref00_LikeStrategy.V
  intro b_a b_b
  refine (bareStg_spec s hls I _ hx.cons.cons).mono fun e I1 G l1 ⟨s', H1, he, p1, o1, hG⟩ => ?_
  subst he
  refine ⟨_, _, _, _, _, _, _, _, _, _, rfl, H1 ++ F, hG.trans (perm_of fun z => by simp only [cn_app, cn_cons, cn_nil]; omega), fun b_x => ?_⟩
  refine (bareStg_spec u hlu I1 _ (hy.mono l1 fun a ha => .tail _ (.tail _ (.tail _ (List.mem_append_right _ ha))))).mono fun e I2 G l2 ⟨u', H2, he, p2, o2, hG⟩ => ?_
  subst he
  refine ⟨_, _, _, _, _, _, _, _, _, _, rfl, H2 ++ (H1 ++ F), hG.trans (perm_of fun z => by simp only [cn_app, cn_cons, cn_nil]; omega), fun b_y => ?_⟩
  refine Tri.ret (sameStg_spec s' u' (by rw [p1]; exact hs.bare) I2 _ (o1.ok fun a ha => .tail _ (.tail _ (.tail _ (.tail _ (List.mem_append_right _ (List.mem_append_left _ ha)))))) (o2.ok fun a ha => .tail _ (.tail _ (.tail _ (.tail _ (List.mem_append_left _ ha)))))) fun I3 l3 => ⟨_, rfl, H2 ++ (H1 ++ F), .refl _, ?_, H2 ++ H1, (perm_of fun z => by simp only [cn_app, cn_cons, cn_nil]; omega)⟩
  rw [p1, p2, StgP.same_bare]
end Go.Lx
namespace Go.Lx
open Go.Vc
def shT_t9 : List (Nat × List Sh) := [(4, [.one .bool]), (22, [.one .slc]), (23, [.one .slc]), (24, [.one .slc]), (55, [.agg [(.int .u8), (.int .u8), (.int .u8), (.int .i64), (.int .u8), .str, .slc, (.int .i64)]]), (65, [.one .slc]), (67, [.agg [(.int .u8), (.int .u8), (.int .u8), (.int .i64), (.int .u8), .str, .slc, (.int .i64), .slc, (.int .i64)]]), (68, [.one .slc]), (70, [.agg [.str, .slc, (.int .i64)]]), (75, [.agg [.str, (.int .u8), (.int .u8), (.int .u8), (.int .u8), (.int .i64), (.int .u8), .str, .slc, (.int .i64), (.int .i64)]]), (77, [.agg [.str, (.int .i64)]]), (89, [.agg [(.int .u8), (.int .u8), .str, (.int .u8), (.int .u8), (.int .u8), (.int .i64), (.int .u8), .str, .slc, (.int .i64), (.int .u8), (.int .u8), (.int .u8), (.int .i64), (.int .u8), .str, .slc, (.int .i64), (.int .u8), (.int .u8), (.int .u8), (.int .i64), (.int .u8), .str, .slc, (.int .i64), (.int .u8), (.int .u8), (.int .u8), (.int .i64), (.int .u8), .str, .slc, (.int .i64), (.int .i64)]]), (90, [.one .fn]), (92, [.one .fn])]
def tree_Same.V (c d : Nat → Nat × Obj) (vl : OA → Nat → Nat → Value) (vt : Bool → Value) (ab : Bs) (i : OA) (j k : Nat) (l : OA) (m n : Nat) (o : OA) (p q : Nat) (ac : Bs) (s : OA) (t u : Nat) (v : OA) (w x : Nat) (y : OA) (z aa : Nat) (I : Imm) (F : Heap) (Q : PostQ)  : Prop := ∀ e : Nat, ∀ f : Nat, ∀ b : Nat, ∃ (cs : List Value) (el : Nat) (F1 : Heap), List.Perm ((b, Obj.cells #[Value.nilFunc] 90 (0, 0)) :: F) (((⟨b, 0, none⟩ : Addr).block, Obj.cells cs.toArray el (0, 0)) :: F1) ∧ (⟨b, 0, none⟩ : Addr).spot = none ∧ (⟨b, 0, none⟩ : Addr).off + 1 ≤ cs.length ∧ ∀ a : Nat, ∃ (g : List Value) (h : Nat) (F2 : Heap), List.Perm ((a, Obj.cells #[Value.nilFunc] 92 (0, 0)) :: (((⟨b, 0, none⟩ : Addr).block, Obj.cells (splice (⟨b, 0, none⟩ : Addr).off [.func (.func 37) #[] #[]] cs).toArray el (0, 0)) :: F1)) (((⟨a, 0, none⟩ : Addr).block, Obj.cells g.toArray h (0, 0)) :: F2) ∧ (⟨a, 0, none⟩ : Addr).spot = none ∧ (⟨a, 0, none⟩ : Addr).off + 1 ≤ g.length ∧ (((ab.toList == ac.toList) = true → Tri P 42 (#[vl i j k, vl s t u, .func (.func 35) #[] #[]]) I ((c e) :: (d f) :: (((⟨a, 0, none⟩ : Addr).block, Obj.cells (splice (⟨a, 0, none⟩ : Addr).off [.func (.func 38) #[] #[.pointer (some (⟨b, 0, none⟩ : Addr))]] g).toArray h (0, 0)) :: F2)) fun e1 I1 G1 => ∃ (r : Bool), e1 = .returned (vt r) ∧ ∃ F3 : Heap, List.Perm G1 ((c e) :: (d f) :: F3) ∧ ((r = true → Tri P 43 (#[vl l m n, vl v w x, .func (.func 36) #[] #[]]) I1 ((c e) :: (d f) :: F3) fun e2 I2 G2 => ∃ (r1 : Bool), e2 = .returned (vt r1) ∧ ∃ F4 : Heap, List.Perm G2 ((c e) :: (d f) :: F4) ∧ ((r1 = true → Tri P 44 (#[vl o p q, vl y z aa, .func (.func 40) #[] #[.pointer (some (⟨a, 0, none⟩ : Addr))]]) I2 ((c e) :: (d f) :: F4) fun e3 I3 G3 => ∃ (r2 : Bool), e3 = .returned (vt r2) ∧ ∃ F5 : Heap, List.Perm G3 ((c e) :: (d f) :: F5) ∧ Q (.returned (vt r2)) I3 (F5)) ∧ (r1 = false → Q (.returned (vt false)) I2 (F4)))) ∧ (r = false → Q (.returned (vt false)) I1 (F3)))) ∧ ((ab.toList == ac.toList) = false → Q (.returned (vt false)) I ((((⟨a, 0, none⟩ : Addr).block, Obj.cells (splice (⟨a, 0, none⟩ : Addr).off [.func (.func 38) #[] #[.pointer (some (⟨b, 0, none⟩ : Addr))]] g).toArray h (0, 0)) :: F2))))
theorem tree_Same.vc {a_0 : Bs} {a_1_a : OA} {a_1_n a_1_c : Nat} {a_2_a : OA} {a_2_n a_2_c : Nat} {a_3_a : OA} {a_3_n a_3_c : Nat} {b_0 : Bs} {b_1_a : OA} {b_1_n b_1_c : Nat} {b_2_a : OA} {b_2_n b_2_c : Nat} {b_3_a : OA} {b_3_n b_3_c : Nat} {I : Imm} {F : Heap} {Q : PostQ}  (h : tree_Same.V (fun b => (b, Obj.cells #[.string a_0, .slice a_1_a a_1_n a_1_c, .slice a_2_a a_2_n a_2_c, .slice a_3_a a_3_n a_3_c] 26 (0, 0))) (fun b => (b, Obj.cells #[.string b_0, .slice b_1_a b_1_n b_1_c, .slice b_2_a b_2_n b_2_c, .slice b_3_a b_3_n b_3_c] 26 (0, 0))) .slice .bool a_0 a_1_a a_1_n a_1_c a_2_a a_2_n a_2_c a_3_a a_3_n a_3_c b_0 b_1_a b_1_n b_1_c b_2_a b_2_n b_2_c b_3_a b_3_n b_3_c I F Q) : Tri P 8 #[.agg #[.string a_0, .slice a_1_a a_1_n a_1_c, .slice a_2_a a_2_n a_2_c, .slice a_3_a a_3_n a_3_c], .agg #[.string b_0, .slice b_1_a b_1_n b_1_c, .slice b_2_a b_2_n b_2_c, .slice b_3_a b_3_n b_3_c]] I (F) Q :=
  tv (A := (annL [6004, 6011, 6019] [] [42, 43, 44] shT_t9 [] [] [3000, 4001] [] [] [] [])) (args := [.a (.v (.agg #[.string a_0, .slice a_1_a a_1_n a_1_c, .slice a_2_a a_2_n a_2_c, .slice a_3_a a_3_n a_3_c])), .a (.v (.agg #[.string b_0, .slice b_1_a b_1_n b_1_c, .slice b_2_a b_2_n b_2_c, .slice b_3_a b_3_n b_3_c]))]) (own := []) (keep := []) [42, 43, 44] Go.Proofs.Tryz.func8 h
def tree_Same_1.V (nV : Int → Int → Int → Int → Int → Bs → OA → Nat → Nat → Int → Value) (vb vi : Int → Value) (vs : Bs → Value) (vl : OA → Nat → Nat → Value) (vt : Bool → Value) (g : Bs) (h k l m n o : Int) (p : Bs) (a : OA) (b c : Nat) (q s : Int) (i : Bs) (j t u v w x : Int) (y : Bs) (d : OA) (e f : Nat) (z aa : Int) (I : Imm) (F : Heap) (Q : PostQ)  : Prop := ∀ ab : Nat, ∀ ac : Nat, (((g.toList == i.toList) = true → (((h == j) = true → Tri P 25 (#[nV k l m n o p a b c q, nV t u v w x y d e f z]) I ((ab, Obj.cells #[vs g, vb h, vb k, vb l, vb m, vi n, vb o, vs p, vl a b c, vi q, vi s] 75 (0, 0)) :: (ac, Obj.cells #[vs i, vb j, vb t, vb u, vb v, vi w, vb x, vs y, vl d e f, vi z, vi aa] 75 (0, 0)) :: F) fun e1 I1 G1 => ∃ (r : Bool), e1 = .returned (vt r) ∧ ∃ F1 : Heap, List.Perm G1 ((ab, Obj.cells #[vs g, vb h, vb k, vb l, vb m, vi n, vb o, vs p, vl a b c, vi q, vi s] 75 (0, 0)) :: (ac, Obj.cells #[vs i, vb j, vb t, vb u, vb v, vi w, vb x, vs y, vl d e f, vi z, vi aa] 75 (0, 0)) :: F1) ∧ Q (.returned (vt r)) I1 (F1)) ∧ ((h == j) = false → Q (.returned (vt false)) I (F)))) ∧ ((g.toList == i.toList) = false → Q (.returned (vt false)) I (F)))
theorem tree_Same_1.vc {a_0 : Bs} {a_1 a_2 a_3 a_4 a_5 a_6 : Int} {a_7 : Bs} {a_8_a : OA} {a_8_n a_8_c : Nat} {a_9 a_10 : Int} {b_0 : Bs} {b_1 b_2 b_3 b_4 b_5 b_6 : Int} {b_7 : Bs} {b_8_a : OA} {b_8_n b_8_c : Nat} {b_9 b_10 : Int} {I : Imm} {F : Heap} {Q : PostQ}  (h : tree_Same_1.V (fun k o t n f s a l c q => .agg #[.int .u8 k, .int .u8 o, .int .u8 t, .int .i64 n, .int .u8 f, .string s, .slice a l c, .int .i64 q]) (.int .u8) (.int .i64) .string .slice .bool a_0 a_1 a_2 a_3 a_4 a_5 a_6 a_7 a_8_a a_8_n a_8_c a_9 a_10 b_0 b_1 b_2 b_3 b_4 b_5 b_6 b_7 b_8_a b_8_n b_8_c b_9 b_10 I F Q) : Tri P 35 #[.agg #[.string a_0, .int .u8 a_1, .int .u8 a_2, .int .u8 a_3, .int .u8 a_4, .int .i64 a_5, .int .u8 a_6, .string a_7, .slice a_8_a a_8_n a_8_c, .int .i64 a_9, .int .i64 a_10], .agg #[.string b_0, .int .u8 b_1, .int .u8 b_2, .int .u8 b_3, .int .u8 b_4, .int .i64 b_5, .int .u8 b_6, .string b_7, .slice b_8_a b_8_n b_8_c, .int .i64 b_9, .int .i64 b_10]] I (F) Q :=
  tv (A := (annL [1004, 1010] [] [25] shT_t9 [] [] [] [] [] [] [])) (args := [.a (.v (.agg #[.string a_0, .int .u8 a_1, .int .u8 a_2, .int .u8 a_3, .int .u8 a_4, .int .i64 a_5, .int .u8 a_6, .string a_7, .slice a_8_a a_8_n a_8_c, .int .i64 a_9, .int .i64 a_10])), .a (.v (.agg #[.string b_0, .int .u8 b_1, .int .u8 b_2, .int .u8 b_3, .int .u8 b_4, .int .i64 b_5, .int .u8 b_6, .string b_7, .slice b_8_a b_8_n b_8_c, .int .i64 b_9, .int .i64 b_10]))]) (own := []) (keep := []) [25] Go.Proofs.Tryz.func35 h
def tree_Same_2.V (a : Bs) (c : Int) (b : Bs) (d : Int) (I : Imm) (F : Heap) (Q : PostQ)  : Prop := ∀ e : Nat, ∀ f : Nat, Q (.returned (.bool (a.toList == b.toList))) I (F)
theorem tree_Same_2.vc {a_0 : Bs} {a_1 : Int} {b_0 : Bs} {b_1 : Int} {I : Imm} {F : Heap} {Q : PostQ}  (h : tree_Same_2.V a_0 a_1 b_0 b_1 I F Q) : Tri P 36 #[.agg #[.string a_0, .int .i64 a_1], .agg #[.string b_0, .int .i64 b_1]] I (F) Q :=
  tv (A := (annL [] [] [] shT_t9 [] [] [] [] [] [] [])) (args := [.a (.v (.agg #[.string a_0, .int .i64 a_1])), .a (.v (.agg #[.string b_0, .int .i64 b_1]))]) (own := []) (keep := []) [] Go.Proofs.Tryz.func36 h
def tree_Same_3.V (a b : Nat → Nat × Obj) (nV : Int → Int → Int → Int → Int → Bs → OA → Nat → Nat → Int → Value) (vt : Bool → Value) (ad ae : Int) (af : Bs) (a3 a4 a5 a6 a7 : Int) (a8 : Bs) (x : OA) (y z : Nat) (aj ak al am an ao : Int) (ap : Bs) (e : OA) (f g : Nat) (aq ar au av aw ax : Int) (ay : Bs) (h : OA) (i j : Nat) (az aA aB aC aD aE : Int) (aF : Bs) (k : OA) (l m : Nat) (aG bf ag ah : Int) (ai : Bs) (a9 ba bb bc bd : Int) (be : Bs) (aa : OA) (ab ac : Nat) (aH aI aJ aK aL aM : Int) (aN : Bs) (n : OA) (o p : Nat) (aO aP aQ aR aS aT : Int) (aU : Bs) (q : OA) (s t : Nat) (aV aW aX aY aZ a0 : Int) (a1 : Bs) (u : OA) (v w : Nat) (a2 bg : Int) (I : Imm) (F : Heap) (Q : PostQ)  : Prop := ∀ c : Nat, ∀ d : Nat, (((ad == ag) = true → (((ae == ah) = true → (((af.toList == ai.toList) = true → Tri P 25 (#[nV a3 a4 a5 a6 a7 a8 x y z aj, nV a9 ba bb bc bd be aa ab ac aH]) I ((a c) :: (b d) :: F) fun e1 I1 G1 => ∃ (r : Bool), e1 = .returned (vt r) ∧ ∃ F1 : Heap, List.Perm G1 ((a c) :: (b d) :: F1) ∧ ((r = true → Tri P 25 (#[nV ak al am an ao ap e f g aq, nV aI aJ aK aL aM aN n o p aO]) I1 ((a c) :: (b d) :: F1) fun e2 I2 G2 => ∃ (r1 : Bool), e2 = .returned (vt r1) ∧ ∃ F2 : Heap, List.Perm G2 ((a c) :: (b d) :: F2) ∧ ((r1 = true → Tri P 25 (#[nV ar au av aw ax ay h i j az, nV aP aQ aR aS aT aU q s t aV]) I2 ((a c) :: (b d) :: F2) fun e3 I3 G3 => ∃ (r2 : Bool), e3 = .returned (vt r2) ∧ ∃ F3 : Heap, List.Perm G3 ((a c) :: (b d) :: F3) ∧ ((r2 = true → Tri P 25 (#[nV aA aB aC aD aE aF k l m aG, nV aW aX aY aZ a0 a1 u v w a2]) I3 ((a c) :: (b d) :: F3) fun e4 I4 G4 => ∃ (r3 : Bool), e4 = .returned (vt r3) ∧ ∃ F4 : Heap, List.Perm G4 ((a c) :: (b d) :: F4) ∧ Q (.returned (vt r3)) I4 (F4)) ∧ (r2 = false → Q (.returned (vt false)) I3 (F3)))) ∧ (r1 = false → Q (.returned (vt false)) I2 (F2)))) ∧ (r = false → Q (.returned (vt false)) I1 (F1)))) ∧ ((af.toList == ai.toList) = false → Q (.returned (vt false)) I (F)))) ∧ ((ae == ah) = false → Q (.returned (vt false)) I (F)))) ∧ ((ad == ag) = false → Q (.returned (vt false)) I (F)))
theorem tree_Same_3.vc {a_0 a_1 : Int} {a_2 : Bs} {a_3 a_4 a_5 a_6 a_7 : Int} {a_8 : Bs} {a_9_a : OA} {a_9_n a_9_c : Nat} {a_10 a_11 a_12 a_13 a_14 a_15 : Int} {a_16 : Bs} {a_17_a : OA} {a_17_n a_17_c : Nat} {a_18 a_19 a_20 a_21 a_22 a_23 : Int} {a_24 : Bs} {a_25_a : OA} {a_25_n a_25_c : Nat} {a_26 a_27 a_28 a_29 a_30 a_31 : Int} {a_32 : Bs} {a_33_a : OA} {a_33_n a_33_c : Nat} {a_34 a_35 b_0 b_1 : Int} {b_2 : Bs} {b_3 b_4 b_5 b_6 b_7 : Int} {b_8 : Bs} {b_9_a : OA} {b_9_n b_9_c : Nat} {b_10 b_11 b_12 b_13 b_14 b_15 : Int} {b_16 : Bs} {b_17_a : OA} {b_17_n b_17_c : Nat} {b_18 b_19 b_20 b_21 b_22 b_23 : Int} {b_24 : Bs} {b_25_a : OA} {b_25_n b_25_c : Nat} {b_26 b_27 b_28 b_29 b_30 b_31 : Int} {b_32 : Bs} {b_33_a : OA} {b_33_n b_33_c : Nat} {b_34 b_35 : Int} {I : Imm} {F : Heap} {Q : PostQ}  (h : tree_Same_3.V (fun b => (b, Obj.cells #[.int .u8 a_0, .int .u8 a_1, .string a_2, .int .u8 a_3, .int .u8 a_4, .int .u8 a_5, .int .i64 a_6, .int .u8 a_7, .string a_8, .slice a_9_a a_9_n a_9_c, .int .i64 a_10, .int .u8 a_11, .int .u8 a_12, .int .u8 a_13, .int .i64 a_14, .int .u8 a_15, .string a_16, .slice a_17_a a_17_n a_17_c, .int .i64 a_18, .int .u8 a_19, .int .u8 a_20, .int .u8 a_21, .int .i64 a_22, .int .u8 a_23, .string a_24, .slice a_25_a a_25_n a_25_c, .int .i64 a_26, .int .u8 a_27, .int .u8 a_28, .int .u8 a_29, .int .i64 a_30, .int .u8 a_31, .string a_32, .slice a_33_a a_33_n a_33_c, .int .i64 a_34, .int .i64 a_35] 89 (0, 0))) (fun b => (b, Obj.cells #[.int .u8 b_0, .int .u8 b_1, .string b_2, .int .u8 b_3, .int .u8 b_4, .int .u8 b_5, .int .i64 b_6, .int .u8 b_7, .string b_8, .slice b_9_a b_9_n b_9_c, .int .i64 b_10, .int .u8 b_11, .int .u8 b_12, .int .u8 b_13, .int .i64 b_14, .int .u8 b_15, .string b_16, .slice b_17_a b_17_n b_17_c, .int .i64 b_18, .int .u8 b_19, .int .u8 b_20, .int .u8 b_21, .int .i64 b_22, .int .u8 b_23, .string b_24, .slice b_25_a b_25_n b_25_c, .int .i64 b_26, .int .u8 b_27, .int .u8 b_28, .int .u8 b_29, .int .i64 b_30, .int .u8 b_31, .string b_32, .slice b_33_a b_33_n b_33_c, .int .i64 b_34, .int .i64 b_35] 89 (0, 0))) (fun k o t n f s a l c q => .agg #[.int .u8 k, .int .u8 o, .int .u8 t, .int .i64 n, .int .u8 f, .string s, .slice a l c, .int .i64 q]) .bool a_0 a_1 a_2 a_3 a_4 a_5 a_6 a_7 a_8 a_9_a a_9_n a_9_c a_10 a_11 a_12 a_13 a_14 a_15 a_16 a_17_a a_17_n a_17_c a_18 a_19 a_20 a_21 a_22 a_23 a_24 a_25_a a_25_n a_25_c a_26 a_27 a_28 a_29 a_30 a_31 a_32 a_33_a a_33_n a_33_c a_34 a_35 b_0 b_1 b_2 b_3 b_4 b_5 b_6 b_7 b_8 b_9_a b_9_n b_9_c b_10 b_11 b_12 b_13 b_14 b_15 b_16 b_17_a b_17_n b_17_c b_18 b_19 b_20 b_21 b_22 b_23 b_24 b_25_a b_25_n b_25_c b_26 b_27 b_28 b_29 b_30 b_31 b_32 b_33_a b_33_n b_33_c b_34 b_35 I F Q) : Tri P 37 #[.agg #[.int .u8 a_0, .int .u8 a_1, .string a_2, .int .u8 a_3, .int .u8 a_4, .int .u8 a_5, .int .i64 a_6, .int .u8 a_7, .string a_8, .slice a_9_a a_9_n a_9_c, .int .i64 a_10, .int .u8 a_11, .int .u8 a_12, .int .u8 a_13, .int .i64 a_14, .int .u8 a_15, .string a_16, .slice a_17_a a_17_n a_17_c, .int .i64 a_18, .int .u8 a_19, .int .u8 a_20, .int .u8 a_21, .int .i64 a_22, .int .u8 a_23, .string a_24, .slice a_25_a a_25_n a_25_c, .int .i64 a_26, .int .u8 a_27, .int .u8 a_28, .int .u8 a_29, .int .i64 a_30, .int .u8 a_31, .string a_32, .slice a_33_a a_33_n a_33_c, .int .i64 a_34, .int .i64 a_35], .agg #[.int .u8 b_0, .int .u8 b_1, .string b_2, .int .u8 b_3, .int .u8 b_4, .int .u8 b_5, .int .i64 b_6, .int .u8 b_7, .string b_8, .slice b_9_a b_9_n b_9_c, .int .i64 b_10, .int .u8 b_11, .int .u8 b_12, .int .u8 b_13, .int .i64 b_14, .int .u8 b_15, .string b_16, .slice b_17_a b_17_n b_17_c, .int .i64 b_18, .int .u8 b_19, .int .u8 b_20, .int .u8 b_21, .int .i64 b_22, .int .u8 b_23, .string b_24, .slice b_25_a b_25_n b_25_c, .int .i64 b_26, .int .u8 b_27, .int .u8 b_28, .int .u8 b_29, .int .i64 b_30, .int .u8 b_31, .string b_32, .slice b_33_a b_33_n b_33_c, .int .i64 b_34, .int .i64 b_35]] I (F) Q :=
  tv (A := (annL [1004, 1010, 1017, 1024, 1031, 1038] [] [25] shT_t9 [] [] [] [] [] [] [])) (args := [.a (.v (.agg #[.int .u8 a_0, .int .u8 a_1, .string a_2, .int .u8 a_3, .int .u8 a_4, .int .u8 a_5, .int .i64 a_6, .int .u8 a_7, .string a_8, .slice a_9_a a_9_n a_9_c, .int .i64 a_10, .int .u8 a_11, .int .u8 a_12, .int .u8 a_13, .int .i64 a_14, .int .u8 a_15, .string a_16, .slice a_17_a a_17_n a_17_c, .int .i64 a_18, .int .u8 a_19, .int .u8 a_20, .int .u8 a_21, .int .i64 a_22, .int .u8 a_23, .string a_24, .slice a_25_a a_25_n a_25_c, .int .i64 a_26, .int .u8 a_27, .int .u8 a_28, .int .u8 a_29, .int .i64 a_30, .int .u8 a_31, .string a_32, .slice a_33_a a_33_n a_33_c, .int .i64 a_34, .int .i64 a_35])), .a (.v (.agg #[.int .u8 b_0, .int .u8 b_1, .string b_2, .int .u8 b_3, .int .u8 b_4, .int .u8 b_5, .int .i64 b_6, .int .u8 b_7, .string b_8, .slice b_9_a b_9_n b_9_c, .int .i64 b_10, .int .u8 b_11, .int .u8 b_12, .int .u8 b_13, .int .i64 b_14, .int .u8 b_15, .string b_16, .slice b_17_a b_17_n b_17_c, .int .i64 b_18, .int .u8 b_19, .int .u8 b_20, .int .u8 b_21, .int .i64 b_22, .int .u8 b_23, .string b_24, .slice b_25_a b_25_n b_25_c, .int .i64 b_26, .int .u8 b_27, .int .u8 b_28, .int .u8 b_29, .int .i64 b_30, .int .u8 b_31, .string b_32, .slice b_33_a b_33_n b_33_c, .int .i64 b_34, .int .i64 b_35]))]) (own := []) (keep := []) [25] Go.Proofs.Tryz.func37 h
def tree_Same_4.V (a b : Nat → Nat × Obj) (nV : Int → Int → Int → Int → Int → Bs → OA → Nat → Nat → Int → Value) (vt : Bool → Value) (v w x y z : Int) (aa : Bs) (f : OA) (g h : Nat) (ab : Int) (i : OA) (j k : Nat) (aj ac ad ae af ag : Int) (ah : Bs) (l : OA) (n o : Nat) (ai : Int) (p : OA) (q s : Nat) (ak : Int) (c : Addr) (I : Imm) (F : Heap) (Q : PostQ)  : Prop := ∀ d : Nat, ∀ e : Nat, Tri P 25 (#[nV v w x y z aa f g h ab, nV ac ad ae af ag ah l n o ai]) I ((b d) :: (a e) :: F) fun e1 I1 G1 => ∃ (r : Bool), e1 = .returned (vt r) ∧ ∃ F1 : Heap, List.Perm G1 ((b d) :: (a e) :: F1) ∧ ((r = true → ∃ (m : Fn) (t u : Array Value), Rd I1 ((b d) :: (a e) :: F1) c [.func m t u] ∧ Tri P 39 (#[.slice i j k, .slice p q s, .func m t u]) I1 ((b d) :: (a e) :: F1) fun e2 I2 G2 => ∃ (r1 : Bool), e2 = .returned (vt r1) ∧ ∃ F2 : Heap, List.Perm G2 ((b d) :: (a e) :: F2) ∧ Q (.returned (vt r1)) I2 (F2)) ∧ (r = false → Q (.returned (vt false)) I1 (F1)))
theorem tree_Same_4.vc {a_0 a_1 a_2 a_3 a_4 : Int} {a_5 : Bs} {a_6_a : OA} {a_6_n a_6_c : Nat} {a_7 : Int} {a_8_a : OA} {a_8_n a_8_c : Nat} {a_9 b_0 b_1 b_2 b_3 b_4 : Int} {b_5 : Bs} {b_6_a : OA} {b_6_n b_6_c : Nat} {b_7 : Int} {b_8_a : OA} {b_8_n b_8_c : Nat} {b_9 : Int} {c : Addr} {I : Imm} {F : Heap} {Q : PostQ}  (h : tree_Same_4.V (fun b => (b, Obj.cells #[.int .u8 b_0, .int .u8 b_1, .int .u8 b_2, .int .i64 b_3, .int .u8 b_4, .string b_5, .slice b_6_a b_6_n b_6_c, .int .i64 b_7, .slice b_8_a b_8_n b_8_c, .int .i64 b_9] 67 (0, 0))) (fun b => (b, Obj.cells #[.int .u8 a_0, .int .u8 a_1, .int .u8 a_2, .int .i64 a_3, .int .u8 a_4, .string a_5, .slice a_6_a a_6_n a_6_c, .int .i64 a_7, .slice a_8_a a_8_n a_8_c, .int .i64 a_9] 67 (0, 0))) (fun k o t n f s a l c q => .agg #[.int .u8 k, .int .u8 o, .int .u8 t, .int .i64 n, .int .u8 f, .string s, .slice a l c, .int .i64 q]) .bool a_0 a_1 a_2 a_3 a_4 a_5 a_6_a a_6_n a_6_c a_7 a_8_a a_8_n a_8_c a_9 b_0 b_1 b_2 b_3 b_4 b_5 b_6_a b_6_n b_6_c b_7 b_8_a b_8_n b_8_c b_9 c I F Q) : Tri P 38 #[.agg #[.int .u8 a_0, .int .u8 a_1, .int .u8 a_2, .int .i64 a_3, .int .u8 a_4, .string a_5, .slice a_6_a a_6_n a_6_c, .int .i64 a_7, .slice a_8_a a_8_n a_8_c, .int .i64 a_9], .agg #[.int .u8 b_0, .int .u8 b_1, .int .u8 b_2, .int .i64 b_3, .int .u8 b_4, .string b_5, .slice b_6_a b_6_n b_6_c, .int .i64 b_7, .slice b_8_a b_8_n b_8_c, .int .i64 b_9], .pointer (some c)] I (F) Q :=
  tv (A := (annL [1004] [] [25, 39] shT_t9 [] [] [] [] [] [] [])) (args := [.a (.v (.agg #[.int .u8 a_0, .int .u8 a_1, .int .u8 a_2, .int .i64 a_3, .int .u8 a_4, .string a_5, .slice a_6_a a_6_n a_6_c, .int .i64 a_7, .slice a_8_a a_8_n a_8_c, .int .i64 a_9])), .a (.v (.agg #[.int .u8 b_0, .int .u8 b_1, .int .u8 b_2, .int .i64 b_3, .int .u8 b_4, .string b_5, .slice b_6_a b_6_n b_6_c, .int .i64 b_7, .slice b_8_a b_8_n b_8_c, .int .i64 b_9])), .a (.v (.pointer (some c)))]) (own := []) (keep := []) [25, 39] Go.Proofs.Tryz.func38 h
def tree_Same_5.V (a b : Nat → Nat × Obj) (l : Bs) (f : OA) (g h : Nat) (q : Int) (n : Bs) (i : OA) (j k : Nat) (s : Int) (c : Addr) (I : Imm) (F : Heap) (Q : PostQ)  : Prop := ∀ d : Nat, ∀ e : Nat, (((l.toList == n.toList) = true → ∃ (m : Fn) (o p : Array Value), Rd I ((a d) :: (b e) :: F) c [.func m o p] ∧ Tri P 41 (#[.slice f g h, .slice i j k, .func m o p]) I ((a d) :: (b e) :: F) fun e1 I1 G1 => ∃ (r : Bool), e1 = .returned (.bool r) ∧ ∃ F1 : Heap, List.Perm G1 ((a d) :: (b e) :: F1) ∧ Q (.returned (.bool r)) I1 (F1)) ∧ ((l.toList == n.toList) = false → Q (.returned (.bool false)) I (F)))
theorem tree_Same_5.vc {a_0 : Bs} {a_1_a : OA} {a_1_n a_1_c : Nat} {a_2 : Int} {b_0 : Bs} {b_1_a : OA} {b_1_n b_1_c : Nat} {b_2 : Int} {c : Addr} {I : Imm} {F : Heap} {Q : PostQ}  (h : tree_Same_5.V (fun b => (b, Obj.cells #[.string a_0, .slice a_1_a a_1_n a_1_c, .int .i64 a_2] 70 (0, 0))) (fun b => (b, Obj.cells #[.string b_0, .slice b_1_a b_1_n b_1_c, .int .i64 b_2] 70 (0, 0))) a_0 a_1_a a_1_n a_1_c a_2 b_0 b_1_a b_1_n b_1_c b_2 c I F Q) : Tri P 40 #[.agg #[.string a_0, .slice a_1_a a_1_n a_1_c, .int .i64 a_2], .agg #[.string b_0, .slice b_1_a b_1_n b_1_c, .int .i64 b_2], .pointer (some c)] I (F) Q :=
  tv (A := (annL [1004] [] [41] shT_t9 [] [] [] [] [] [] [])) (args := [.a (.v (.agg #[.string a_0, .slice a_1_a a_1_n a_1_c, .int .i64 a_2])), .a (.v (.agg #[.string b_0, .slice b_1_a b_1_n b_1_c, .int .i64 b_2])), .a (.v (.pointer (some c)))]) (own := []) (keep := []) [41] Go.Proofs.Tryz.func40 h
def tree_bothDo.V (vb vi : Int → Value) (vs : Bs → Value) (vl : OA → Nat → Nat → Value) (vt : Bool → Value) (bm : OA) (j bo : Nat) (bn : OA) (aC bp : Nat) (bl : Fn) (aD aE : Array Value) (I : Imm) (F : Heap) (Q : PostQ) (Inv14 : Bool → Int → Nat → Imm → Heap → Prop) : Prop := (((((j : Nat) : Int) != ((aC : Nat) : Int)) = true → Q (.returned (vt false)) I (F)) ∧ ((((j : Nat) : Int) != ((aC : Nat) : Int)) = false → (∃ m : Nat, Inv14 false 0 m I F) ∧ ∀ (x : Bool) (x1 : Int) (m1 : Nat) (I1 : Imm) (F1 : Heap), Imm.le I I1 → Inv14 x x1 m1 I1 F1 → ((decide (x1 < ((j : Nat) : Int)) = true → ((0 ≤ x1 ∧ x1 < (j : Int)) ∧ ∃ ad : Addr, bm = some ad ∧ ((0 ≤ x1 ∧ x1 < (aC : Int)) ∧ ∃ bk : Addr, bn = some bk ∧ ∃ (bb bc : Int) (bd : Bs) (be bf bg bh bi : Int) (bj : Bs) (z : OA) (aa ab : Nat) (aF aG aH aI aJ aK : Int) (aL : Bs) (k : OA) (l n : Nat) (aM aN aO aP aQ aR : Int) (aS : Bs) (o : OA) (p q : Nat) (aT aU aV aW aX aY : Int) (aZ : Bs) (s : OA) (t u : Nat) (a0 a1 : Int), Rd I1 (F1) (ad.add (Int.toNat (x1) * 36)) [vb bb, vb bc, vs bd, vb be, vb bf, vb bg, vi bh, vb bi, vs bj, vl z aa ab, vi aF, vb aG, vb aH, vb aI, vi aJ, vb aK, vs aL, vl k l n, vi aM, vb aN, vb aO, vb aP, vi aQ, vb aR, vs aS, vl o p q, vi aT, vb aU, vb aV, vb aW, vi aX, vb aY, vs aZ, vl s t u, vi a0, vi a1] ∧ ∃ (a2 a3 : Int) (a4 : Bs) (a5 a6 a7 a8 a9 : Int) (ba : Bs) (v : OA) (w y : Nat) (ac ae af ag ah ai : Int) (aj : Bs) (a : OA) (b c : Nat) (ak al am an ao ap : Int) (aq : Bs) (d : OA) (e f : Nat) (ar au av aw ax ay : Int) (az : Bs) (g : OA) (h i : Nat) (aA aB : Int), Rd I1 (F1) (bk.add (Int.toNat (x1) * 36)) [vb a2, vb a3, vs a4, vb a5, vb a6, vb a7, vi a8, vb a9, vs ba, vl v w y, vi ac, vb ae, vb af, vb ag, vi ah, vb ai, vs aj, vl a b c, vi ak, vb al, vb am, vb an, vi ao, vb ap, vs aq, vl d e f, vi ar, vb au, vb av, vb aw, vi ax, vb ay, vs az, vl g h i, vi aA, vi aB] ∧ TriV P (.func bl aD aE) [.agg #[vb bb, vb bc, vs bd, vb be, vb bf, vb bg, vi bh, vb bi, vs bj, vl z aa ab, vi aF, vb aG, vb aH, vb aI, vi aJ, vb aK, vs aL, vl k l n, vi aM, vb aN, vb aO, vb aP, vi aQ, vb aR, vs aS, vl o p q, vi aT, vb aU, vb aV, vb aW, vi aX, vb aY, vs aZ, vl s t u, vi a0, vi a1], .agg #[vb a2, vb a3, vs a4, vb a5, vb a6, vb a7, vi a8, vb a9, vs ba, vl v w y, vi ac, vb ae, vb af, vb ag, vi ah, vb ai, vs aj, vl a b c, vi ak, vb al, vb am, vb an, vi ao, vb ap, vs aq, vl d e f, vi ar, vb au, vb av, vb aw, vi ax, vb ay, vs az, vl g h i, vi aA, vi aB]] I1 (F1) fun e1 I2 G1 => ∃ (r : Bool), e1 = .returned (vt r) ∧ ∃ F2 : Heap, List.Perm G1 (F2) ∧ (((!r) = true → Q (.returned (vt false)) I2 (F2)) ∧ ((!r) = false → (∃ m2 : Nat, m2 < m1 ∧ Inv14 x (IntKind.wrap .i64 (x1 + 1)) m2 I2 F2)))))) ∧ (decide (x1 < ((j : Nat) : Int)) = false → Q (.returned (vt true)) I1 (F1)))))
theorem tree_bothDo.vc {a_a : OA} {a_n a_c : Nat} {b_a : OA} {b_n b_c : Nat} {same : Fn} {same_f same_c : Array Value} {I : Imm} {F : Heap} {Q : PostQ} (Inv14 : Bool → Int → Nat → Imm → Heap → Prop) (h : tree_bothDo.V (.int .u8) (.int .i64) .string .slice .bool a_a a_n a_c b_a b_n b_c same same_f same_c I F Q Inv14) : Tri P 39 #[.slice a_a a_n a_c, .slice b_a b_n b_c, .func same same_f same_c] I (F) Q :=
  tv (A := (annL [1004, 4000, 6010] [] [] shT_t9 [(14, ⟨[(6, .bool), (15, (.int .i64))], [], fun _ _ _ vs m I F => match vs with | [.bool y0, .int _ y1] => Inv14 y0 y1 m I F | _ => False, [], []⟩)] [] [] [] [6009] [(6, [0, 1, 2, 3, 5, 6, 7, 4, 8, 9, 10])] [])) (args := [.a (.v (.slice a_a a_n a_c)), .a (.v (.slice b_a b_n b_c)), .a (.v (.func same same_f same_c))]) (own := []) (keep := []) [] Go.Proofs.Tryz.func39 h
def tree_bothRule.V (vb vi : Int → Value) (vs : Bs → Value) (vl : OA → Nat → Nat → Value) (vt : Bool → Value) (am : OA) (a ao : Nat) (an : OA) (o ap : Nat) (al : Fn) (p q : Array Value) (I : Imm) (F : Heap) (Q : PostQ) (Inv14 : Bool → Int → Nat → Imm → Heap → Prop) : Prop := (((((a : Nat) : Int) != ((o : Nat) : Int)) = true → Q (.returned (vt false)) I (F)) ∧ ((((a : Nat) : Int) != ((o : Nat) : Int)) = false → (∃ m : Nat, Inv14 false 0 m I F) ∧ ∀ (x : Bool) (x1 : Int) (m1 : Nat) (I1 : Imm) (F1 : Heap), Imm.le I I1 → Inv14 x x1 m1 I1 F1 → ((decide (x1 < ((a : Nat) : Int)) = true → ((0 ≤ x1 ∧ x1 < (a : Int)) ∧ ∃ ad : Addr, am = some ad ∧ ((0 ≤ x1 ∧ x1 < (o : Int)) ∧ ∃ ak : Addr, an = some ak ∧ ∃ (ab ac ae af ag : Int) (ah : Bs) (h : OA) (i j : Nat) (ai : Int) (k : OA) (l n : Nat) (aj : Int), Rd I1 (F1) (ad.add (Int.toNat (x1) * 10)) [vb ab, vb ac, vb ae, vi af, vb ag, vs ah, vl h i j, vi ai, vl k l n, vi aj] ∧ ∃ (s t u v w : Int) (y : Bs) (b : OA) (c d : Nat) (z : Int) (e : OA) (f g : Nat) (aa : Int), Rd I1 (F1) (ak.add (Int.toNat (x1) * 10)) [vb s, vb t, vb u, vi v, vb w, vs y, vl b c d, vi z, vl e f g, vi aa] ∧ TriV P (.func al p q) [.agg #[vb ab, vb ac, vb ae, vi af, vb ag, vs ah, vl h i j, vi ai, vl k l n, vi aj], .agg #[vb s, vb t, vb u, vi v, vb w, vs y, vl b c d, vi z, vl e f g, vi aa]] I1 (F1) fun e1 I2 G1 => ∃ (r : Bool), e1 = .returned (vt r) ∧ ∃ F2 : Heap, List.Perm G1 (F2) ∧ (((!r) = true → Q (.returned (vt false)) I2 (F2)) ∧ ((!r) = false → (∃ m2 : Nat, m2 < m1 ∧ Inv14 x (IntKind.wrap .i64 (x1 + 1)) m2 I2 F2)))))) ∧ (decide (x1 < ((a : Nat) : Int)) = false → Q (.returned (vt true)) I1 (F1)))))
theorem tree_bothRule.vc {a_a : OA} {a_n a_c : Nat} {b_a : OA} {b_n b_c : Nat} {same : Fn} {same_f same_c : Array Value} {I : Imm} {F : Heap} {Q : PostQ} (Inv14 : Bool → Int → Nat → Imm → Heap → Prop) (h : tree_bothRule.V (.int .u8) (.int .i64) .string .slice .bool a_a a_n a_c b_a b_n b_c same same_f same_c I F Q Inv14) : Tri P 41 #[.slice a_a a_n a_c, .slice b_a b_n b_c, .func same same_f same_c] I (F) Q :=
  tv (A := (annL [1004, 4000, 6010] [] [] shT_t9 [(14, ⟨[(6, .bool), (15, (.int .i64))], [], fun _ _ _ vs m I F => match vs with | [.bool y0, .int _ y1] => Inv14 y0 y1 m I F | _ => False, [], []⟩)] [] [] [] [6009] [(6, [0, 1, 2, 3, 5, 6, 7, 4, 8, 9, 10])] [])) (args := [.a (.v (.slice a_a a_n a_c)), .a (.v (.slice b_a b_n b_c)), .a (.v (.func same same_f same_c))]) (own := []) (keep := []) [] Go.Proofs.Tryz.func41 h
def tree_bothReg.V (vb vi : Int → Value) (vs : Bs → Value) (vl : OA → Nat → Nat → Value) (vt : Bool → Value) (ak : OA) (a am : Nat) (al : OA) (i an : Nat) (aj : Fn) (j k : Array Value) (I : Imm) (F : Heap) (Q : PostQ) (Inv14 : Bool → Int → Nat → Imm → Heap → Prop) : Prop := (((((a : Nat) : Int) != ((i : Nat) : Int)) = true → Q (.returned (vt false)) I (F)) ∧ ((((a : Nat) : Int) != ((i : Nat) : Int)) = false → (∃ m : Nat, Inv14 false 0 m I F) ∧ ∀ (x : Bool) (x1 : Int) (m1 : Nat) (I1 : Imm) (F1 : Heap), Imm.le I I1 → Inv14 x x1 m1 I1 F1 → ((decide (x1 < ((a : Nat) : Int)) = true → ((0 ≤ x1 ∧ x1 < (a : Int)) ∧ ∃ ad : Addr, ak = some ad ∧ ((0 ≤ x1 ∧ x1 < (i : Int)) ∧ ∃ ai : Addr, al = some ai ∧ ∃ (y : Bs) (z aa ab ac ae af : Int) (ag : Bs) (e : OA) (f g : Nat) (ah l : Int), Rd I1 (F1) (ad.add (Int.toNat (x1) * 11)) [vs y, vb z, vb aa, vb ab, vb ac, vi ae, vb af, vs ag, vl e f g, vi ah, vi l] ∧ ∃ (n : Bs) (o p q s t u : Int) (v : Bs) (b : OA) (c d : Nat) (w h : Int), Rd I1 (F1) (ai.add (Int.toNat (x1) * 11)) [vs n, vb o, vb p, vb q, vb s, vi t, vb u, vs v, vl b c d, vi w, vi h] ∧ TriV P (.func aj j k) [.agg #[vs y, vb z, vb aa, vb ab, vb ac, vi ae, vb af, vs ag, vl e f g, vi ah, vi l], .agg #[vs n, vb o, vb p, vb q, vb s, vi t, vb u, vs v, vl b c d, vi w, vi h]] I1 (F1) fun e1 I2 G1 => ∃ (r : Bool), e1 = .returned (vt r) ∧ ∃ F2 : Heap, List.Perm G1 (F2) ∧ (((!r) = true → Q (.returned (vt false)) I2 (F2)) ∧ ((!r) = false → (∃ m2 : Nat, m2 < m1 ∧ Inv14 x (IntKind.wrap .i64 (x1 + 1)) m2 I2 F2)))))) ∧ (decide (x1 < ((a : Nat) : Int)) = false → Q (.returned (vt true)) I1 (F1)))))
theorem tree_bothReg.vc {a_a : OA} {a_n a_c : Nat} {b_a : OA} {b_n b_c : Nat} {same : Fn} {same_f same_c : Array Value} {I : Imm} {F : Heap} {Q : PostQ} (Inv14 : Bool → Int → Nat → Imm → Heap → Prop) (h : tree_bothReg.V (.int .u8) (.int .i64) .string .slice .bool a_a a_n a_c b_a b_n b_c same same_f same_c I F Q Inv14) : Tri P 42 #[.slice a_a a_n a_c, .slice b_a b_n b_c, .func same same_f same_c] I (F) Q :=
  tv (A := (annL [1004, 4000, 6010] [] [] shT_t9 [(14, ⟨[(6, .bool), (15, (.int .i64))], [], fun _ _ _ vs m I F => match vs with | [.bool y0, .int _ y1] => Inv14 y0 y1 m I F | _ => False, [], []⟩)] [] [] [] [6009] [(6, [0, 1, 2, 3, 5, 6, 7, 4, 8, 9, 10])] [])) (args := [.a (.v (.slice a_a a_n a_c)), .a (.v (.slice b_a b_n b_c)), .a (.v (.func same same_f same_c))]) (own := []) (keep := []) [] Go.Proofs.Tryz.func42 h
def tree_bothSlot.V (vi : Int → Value) (vs : Bs → Value) (vt : Bool → Value) (k : OA) (a n : Nat) (l : OA) (b o : Nat) (j : Fn) (c d : Array Value) (I : Imm) (F : Heap) (Q : PostQ) (Inv14 : Bool → Int → Nat → Imm → Heap → Prop) : Prop := (((((a : Nat) : Int) != ((b : Nat) : Int)) = true → Q (.returned (vt false)) I (F)) ∧ ((((a : Nat) : Int) != ((b : Nat) : Int)) = false → (∃ m : Nat, Inv14 false 0 m I F) ∧ ∀ (x : Bool) (x1 : Int) (m1 : Nat) (I1 : Imm) (F1 : Heap), Imm.le I I1 → Inv14 x x1 m1 I1 F1 → ((decide (x1 < ((a : Nat) : Int)) = true → ((0 ≤ x1 ∧ x1 < (a : Int)) ∧ ∃ ad : Addr, k = some ad ∧ ((0 ≤ x1 ∧ x1 < (b : Int)) ∧ ∃ i : Addr, l = some i ∧ ∃ (g : Bs) (h : Int), Rd I1 (F1) (ad.add (Int.toNat (x1) * 2)) [vs g, vi h] ∧ ∃ (e : Bs) (f : Int), Rd I1 (F1) (i.add (Int.toNat (x1) * 2)) [vs e, vi f] ∧ TriV P (.func j c d) [.agg #[vs g, vi h], .agg #[vs e, vi f]] I1 (F1) fun e1 I2 G1 => ∃ (r : Bool), e1 = .returned (vt r) ∧ ∃ F2 : Heap, List.Perm G1 (F2) ∧ (((!r) = true → Q (.returned (vt false)) I2 (F2)) ∧ ((!r) = false → (∃ m2 : Nat, m2 < m1 ∧ Inv14 x (IntKind.wrap .i64 (x1 + 1)) m2 I2 F2)))))) ∧ (decide (x1 < ((a : Nat) : Int)) = false → Q (.returned (vt true)) I1 (F1)))))
theorem tree_bothSlot.vc {a_a : OA} {a_n a_c : Nat} {b_a : OA} {b_n b_c : Nat} {same : Fn} {same_f same_c : Array Value} {I : Imm} {F : Heap} {Q : PostQ} (Inv14 : Bool → Int → Nat → Imm → Heap → Prop) (h : tree_bothSlot.V (.int .i64) .string .bool a_a a_n a_c b_a b_n b_c same same_f same_c I F Q Inv14) : Tri P 43 #[.slice a_a a_n a_c, .slice b_a b_n b_c, .func same same_f same_c] I (F) Q :=
  tv (A := (annL [1004, 4000, 6010] [] [] shT_t9 [(14, ⟨[(6, .bool), (15, (.int .i64))], [], fun _ _ _ vs m I F => match vs with | [.bool y0, .int _ y1] => Inv14 y0 y1 m I F | _ => False, [], []⟩)] [] [] [] [6009] [(6, [0, 1, 2, 3, 5, 6, 7, 4, 8, 9, 10])] [])) (args := [.a (.v (.slice a_a a_n a_c)), .a (.v (.slice b_a b_n b_c)), .a (.v (.func same same_f same_c))]) (own := []) (keep := []) [] Go.Proofs.Tryz.func43 h
def tree_bothState.V (vi : Int → Value) (vs : Bs → Value) (vl : OA → Nat → Nat → Value) (vt : Bool → Value) (s : OA) (a u : Nat) (t : OA) (h v : Nat) (q : Fn) (i j : Array Value) (I : Imm) (F : Heap) (Q : PostQ) (Inv14 : Bool → Int → Nat → Imm → Heap → Prop) : Prop := (((((a : Nat) : Int) != ((h : Nat) : Int)) = true → Q (.returned (vt false)) I (F)) ∧ ((((a : Nat) : Int) != ((h : Nat) : Int)) = false → (∃ m : Nat, Inv14 false 0 m I F) ∧ ∀ (x : Bool) (x1 : Int) (m1 : Nat) (I1 : Imm) (F1 : Heap), Imm.le I I1 → Inv14 x x1 m1 I1 F1 → ((decide (x1 < ((a : Nat) : Int)) = true → ((0 ≤ x1 ∧ x1 < (a : Int)) ∧ ∃ ad : Addr, s = some ad ∧ ((0 ≤ x1 ∧ x1 < (h : Int)) ∧ ∃ p : Addr, t = some p ∧ ∃ (n : Bs) (e : OA) (f g : Nat) (o : Int), Rd I1 (F1) (ad.add (Int.toNat (x1) * 3)) [vs n, vl e f g, vi o] ∧ ∃ (k : Bs) (b : OA) (c d : Nat) (l : Int), Rd I1 (F1) (p.add (Int.toNat (x1) * 3)) [vs k, vl b c d, vi l] ∧ TriV P (.func q i j) [.agg #[vs n, vl e f g, vi o], .agg #[vs k, vl b c d, vi l]] I1 (F1) fun e1 I2 G1 => ∃ (r : Bool), e1 = .returned (vt r) ∧ ∃ F2 : Heap, List.Perm G1 (F2) ∧ (((!r) = true → Q (.returned (vt false)) I2 (F2)) ∧ ((!r) = false → (∃ m2 : Nat, m2 < m1 ∧ Inv14 x (IntKind.wrap .i64 (x1 + 1)) m2 I2 F2)))))) ∧ (decide (x1 < ((a : Nat) : Int)) = false → Q (.returned (vt true)) I1 (F1)))))
theorem tree_bothState.vc {a_a : OA} {a_n a_c : Nat} {b_a : OA} {b_n b_c : Nat} {same : Fn} {same_f same_c : Array Value} {I : Imm} {F : Heap} {Q : PostQ} (Inv14 : Bool → Int → Nat → Imm → Heap → Prop) (h : tree_bothState.V (.int .i64) .string .slice .bool a_a a_n a_c b_a b_n b_c same same_f same_c I F Q Inv14) : Tri P 44 #[.slice a_a a_n a_c, .slice b_a b_n b_c, .func same same_f same_c] I (F) Q :=
  tv (A := (annL [1004, 4000, 6010] [] [] shT_t9 [(14, ⟨[(6, .bool), (15, (.int .i64))], [], fun _ _ _ vs m I F => match vs with | [.bool y0, .int _ y1] => Inv14 y0 y1 m I F | _ => False, [], []⟩)] [] [] [] [6009] [(6, [0, 1, 2, 3, 5, 6, 7, 4, 8, 9, 10])] [])) (args := [.a (.v (.slice a_a a_n a_c)), .a (.v (.slice b_a b_n b_c)), .a (.v (.func same same_f same_c))]) (own := []) (keep := []) [] Go.Proofs.Tryz.func44 h
def tree_Bare.V (vs : Bs → Value) (vl : OA → Nat → Nat → Value) (h : Bs) (m : OA) (n o : Nat) (e : OA) (f g : Nat) (a : OA) (c d : Nat) (I : Imm) (F : Heap) (Q : PostQ)  : Prop := ∀ l : Nat, ∀ b : Nat, Tri P 45 (#[vl m n o, .func (.func 46) #[] #[]]) I ((l, Obj.cells #[vs h, vl m n o, vl e f g, vl a c d] 26 (0, 0)) :: (b, Obj.cells #[vs (⟨#[]⟩ : Bs), vl none 0 0, vl none 0 0, vl none 0 0] 26 (0, 0)) :: F) fun e1 I1 G1 => ∃ (i : OA) (j k : Nat), e1 = .returned (vl i j k) ∧ ∃ F1 : Heap, List.Perm G1 ((l, Obj.cells #[vs h, vl m n o, vl e f g, vl a c d] 26 (0, 0)) :: (b, Obj.cells #[vs (⟨#[]⟩ : Bs), vl none 0 0, vl none 0 0, vl none 0 0] 26 (0, 0)) :: F1) ∧ Tri P 47 (#[vl e f g, .func (.func 48) #[] #[]]) I1 ((l, Obj.cells #[vs h, vl i j k, vl e f g, vl a c d] 26 (0, 0)) :: (b, Obj.cells #[vs (⟨#[]⟩ : Bs), vl none 0 0, vl none 0 0, vl none 0 0] 26 (0, 0)) :: F1) fun e2 I2 G2 => ∃ (p : OA) (q r : Nat), e2 = .returned (vl p q r) ∧ ∃ F2 : Heap, List.Perm G2 ((l, Obj.cells #[vs h, vl i j k, vl e f g, vl a c d] 26 (0, 0)) :: (b, Obj.cells #[vs (⟨#[]⟩ : Bs), vl none 0 0, vl none 0 0, vl none 0 0] 26 (0, 0)) :: F2) ∧ Tri P 49 (#[vl a c d, .func (.func 50) #[] #[]]) I2 ((l, Obj.cells #[vs h, vl i j k, vl p q r, vl a c d] 26 (0, 0)) :: (b, Obj.cells #[vs (⟨#[]⟩ : Bs), vl none 0 0, vl none 0 0, vl none 0 0] 26 (0, 0)) :: F2) fun e3 I3 G3 => ∃ (s : OA) (t u : Nat), e3 = .returned (vl s t u) ∧ ∃ F3 : Heap, List.Perm G3 ((l, Obj.cells #[vs h, vl i j k, vl p q r, vl a c d] 26 (0, 0)) :: (b, Obj.cells #[vs (⟨#[]⟩ : Bs), vl none 0 0, vl none 0 0, vl none 0 0] 26 (0, 0)) :: F3) ∧ Q (.returned (.agg #[vs h, vl i j k, vl p q r, vl s t u])) I3 (F3)
theorem tree_Bare.vc {s_0 : Bs} {s_1_a : OA} {s_1_n s_1_c : Nat} {s_2_a : OA} {s_2_n s_2_c : Nat} {s_3_a : OA} {s_3_n s_3_c : Nat} {I : Imm} {F : Heap} {Q : PostQ}  (h : tree_Bare.V .string .slice s_0 s_1_a s_1_n s_1_c s_2_a s_2_n s_2_c s_3_a s_3_n s_3_c I F Q) : Tri P 9 #[.agg #[.string s_0, .slice s_1_a s_1_n s_1_c, .slice s_2_a s_2_n s_2_c, .slice s_3_a s_3_n s_3_c]] I (F) Q :=
  tv (A := (annL [] [] [45, 47, 49] shT_t9 [] [] [] [] [] [] [])) (args := [.a (.v (.agg #[.string s_0, .slice s_1_a s_1_n s_1_c, .slice s_2_a s_2_n s_2_c, .slice s_3_a s_3_n s_3_c]))]) (own := []) (keep := []) [45, 47, 49] Go.Proofs.Tryz.func9 h
def tree_Bare_1.V (nV : Int → Int → Int → Int → Int → Bs → OA → Nat → Nat → Int → Value) (vb vi : Int → Value) (vs : Bs → Value) (vl : OA → Nat → Nat → Value) (h : Bs) (i j k l m n : Int) (o : Bs) (a : OA) (c d : Nat) (p q : Int) (I : Imm) (F : Heap) (Q : PostQ)  : Prop := ∀ y : Nat, ∀ b : Nat, Tri P 24 (#[nV j k l m n o a c d p]) I ((y, Obj.cells #[vs h, vb i, vb j, vb k, vb l, vi m, vb n, vs o, vl a c d, vi p, vi q] 75 (0, 0)) :: (b, Obj.cells #[vs (⟨#[]⟩ : Bs), vb 0, vb 0, vb 0, vb 0, vi 0, vb 0, vs (⟨#[]⟩ : Bs), vl none 0 0, vi 0, vi 0] 75 (0, 0)) :: F) fun e1 I1 G1 => ∃ (r s t u v : Int) (w : Bs) (e : OA) (f g : Nat) (x : Int), e1 = .returned (nV r s t u v w e f g x) ∧ ∃ F1 : Heap, List.Perm G1 ((y, Obj.cells #[vs h, vb i, vb j, vb k, vb l, vi m, vb n, vs o, vl a c d, vi p, vi q] 75 (0, 0)) :: (b, Obj.cells #[vs (⟨#[]⟩ : Bs), vb 0, vb 0, vb 0, vb 0, vi 0, vb 0, vs (⟨#[]⟩ : Bs), vl none 0 0, vi 0, vi 0] 75 (0, 0)) :: F1) ∧ Q (.returned (.agg #[vs h, vb i, vb r, vb s, vb t, vi u, vb v, vs w, vl e f g, vi x, vi 0])) I1 (F1)
theorem tree_Bare_1.vc {r_0 : Bs} {r_1 r_2 r_3 r_4 r_5 r_6 : Int} {r_7 : Bs} {r_8_a : OA} {r_8_n r_8_c : Nat} {r_9 r_10 : Int} {I : Imm} {F : Heap} {Q : PostQ}  (h : tree_Bare_1.V (fun k o t n f s a l c q => .agg #[.int .u8 k, .int .u8 o, .int .u8 t, .int .i64 n, .int .u8 f, .string s, .slice a l c, .int .i64 q]) (.int .u8) (.int .i64) .string .slice r_0 r_1 r_2 r_3 r_4 r_5 r_6 r_7 r_8_a r_8_n r_8_c r_9 r_10 I F Q) : Tri P 46 #[.agg #[.string r_0, .int .u8 r_1, .int .u8 r_2, .int .u8 r_3, .int .u8 r_4, .int .i64 r_5, .int .u8 r_6, .string r_7, .slice r_8_a r_8_n r_8_c, .int .i64 r_9, .int .i64 r_10]] I (F) Q :=
  tv (A := (annL [] [] [24] shT_t9 [] [] [] [] [] [(1, [0, 2, 4, 1, 3, 5, 6, 7, 8])] [] [] [(1, [1, 3], 8)])) (args := [.a (.v (.agg #[.string r_0, .int .u8 r_1, .int .u8 r_2, .int .u8 r_3, .int .u8 r_4, .int .i64 r_5, .int .u8 r_6, .string r_7, .slice r_8_a r_8_n r_8_c, .int .i64 r_9, .int .i64 r_10]))]) (own := []) (keep := []) [24] Go.Proofs.Tryz.func46 h
def tree_Bare_2.V (a : Bs) (c : Int) (I : Imm) (F : Heap) (Q : PostQ)  : Prop := ∀ d : Nat, ∀ b : Nat, Q (.returned (.agg #[.string a, .int .i64 0])) I (F)
theorem tree_Bare_2.vc {x_0 : Bs} {x_1 : Int} {I : Imm} {F : Heap} {Q : PostQ}  (h : tree_Bare_2.V x_0 x_1 I F Q) : Tri P 48 #[.agg #[.string x_0, .int .i64 x_1]] I (F) Q :=
  tv (A := (annL [] [] [] shT_t9 [] [] [] [] [] [] [])) (args := [.a (.v (.agg #[.string x_0, .int .i64 x_1]))]) (own := []) (keep := []) [] Go.Proofs.Tryz.func48 h
def tree_Bare_3.V (vi : Int → Value) (vs : Bs → Value) (vl : OA → Nat → Nat → Value) (e : Bs) (a : OA) (c d : Nat) (f : Int) (I : Imm) (F : Heap) (Q : PostQ)  : Prop := ∀ j : Nat, ∀ b : Nat, Tri P 51 (#[vl a c d, .func (.func 52) #[] #[]]) I ((j, Obj.cells #[vs e, vl a c d, vi f] 70 (0, 0)) :: (b, Obj.cells #[vs (⟨#[]⟩ : Bs), vl none 0 0, vi 0] 70 (0, 0)) :: F) fun e1 I1 G1 => ∃ (g : OA) (h i : Nat), e1 = .returned (vl g h i) ∧ ∃ F1 : Heap, List.Perm G1 ((j, Obj.cells #[vs e, vl a c d, vi f] 70 (0, 0)) :: (b, Obj.cells #[vs (⟨#[]⟩ : Bs), vl none 0 0, vi 0] 70 (0, 0)) :: F1) ∧ Q (.returned (.agg #[vs e, vl g h i, vi 0])) I1 (F1)
theorem tree_Bare_3.vc {x_0 : Bs} {x_1_a : OA} {x_1_n x_1_c : Nat} {x_2 : Int} {I : Imm} {F : Heap} {Q : PostQ}  (h : tree_Bare_3.V (.int .i64) .string .slice x_0 x_1_a x_1_n x_1_c x_2 I F Q) : Tri P 50 #[.agg #[.string x_0, .slice x_1_a x_1_n x_1_c, .int .i64 x_2]] I (F) Q :=
  tv (A := (annL [] [] [51] shT_t9 [] [] [] [] [] [(1, [0, 2, 1, 3, 4, 5, 6])] [] [] [(1, [1], 6)])) (args := [.a (.v (.agg #[.string x_0, .slice x_1_a x_1_n x_1_c, .int .i64 x_2]))]) (own := []) (keep := []) [51] Go.Proofs.Tryz.func50 h
def tree_Bare_3_1.V (e : Nat → Nat × Obj) (nV : Int → Int → Int → Int → Int → Bs → OA → Nat → Nat → Int → Value) (vb vi : Int → Value) (vs : Bs → Value) (vl : OA → Nat → Nat → Value) (w x y z aa : Int) (ab : Bs) (n : OA) (o p : Nat) (ac : Int) (q : OA) (r s : Nat) (ad : Int) (I : Imm) (F : Heap) (Q : PostQ)  : Prop := ∀ f : Nat, ∀ b : Nat, Tri P 24 (#[nV w x y z aa ab n o p ac]) I ((e f) :: (b, Obj.cells #[vb 0, vb 0, vb 0, vi 0, vb 0, vs (⟨#[]⟩ : Bs), vl none 0 0, vi 0, vl none 0 0, vi 0] 67 (0, 0)) :: F) fun e1 I1 G1 => ∃ (g h i j k : Int) (l : Bs) (a : OA) (c d : Nat) (m : Int), e1 = .returned (nV g h i j k l a c d m) ∧ ∃ F1 : Heap, List.Perm G1 ((e f) :: (b, Obj.cells #[vb 0, vb 0, vb 0, vi 0, vb 0, vs (⟨#[]⟩ : Bs), vl none 0 0, vi 0, vl none 0 0, vi 0] 67 (0, 0)) :: F1) ∧ Tri P 53 (#[vl q r s, .func (.func 54) #[] #[]]) I1 ((e f) :: (b, Obj.cells #[vb 0, vb 0, vb 0, vi 0, vb 0, vs (⟨#[]⟩ : Bs), vl none 0 0, vi 0, vl none 0 0, vi 0] 67 (0, 0)) :: F1) fun e2 I2 G2 => ∃ (t : OA) (u v : Nat), e2 = .returned (vl t u v) ∧ ∃ F2 : Heap, List.Perm G2 ((e f) :: (b, Obj.cells #[vb 0, vb 0, vb 0, vi 0, vb 0, vs (⟨#[]⟩ : Bs), vl none 0 0, vi 0, vl none 0 0, vi 0] 67 (0, 0)) :: F2) ∧ Q (.returned (.agg #[vb g, vb h, vb i, vi j, vb k, vs l, vl a c d, vi m, vl t u v, vi 0])) I2 (F2)
theorem tree_Bare_3_1.vc {r_0 r_1 r_2 r_3 r_4 : Int} {r_5 : Bs} {r_6_a : OA} {r_6_n r_6_c : Nat} {r_7 : Int} {r_8_a : OA} {r_8_n r_8_c : Nat} {r_9 : Int} {I : Imm} {F : Heap} {Q : PostQ}  (h : tree_Bare_3_1.V (fun b => (b, Obj.cells #[.int .u8 r_0, .int .u8 r_1, .int .u8 r_2, .int .i64 r_3, .int .u8 r_4, .string r_5, .slice r_6_a r_6_n r_6_c, .int .i64 r_7, .slice r_8_a r_8_n r_8_c, .int .i64 r_9] 67 (0, 0))) (fun k o t n f s a l c q => .agg #[.int .u8 k, .int .u8 o, .int .u8 t, .int .i64 n, .int .u8 f, .string s, .slice a l c, .int .i64 q]) (.int .u8) (.int .i64) .string .slice r_0 r_1 r_2 r_3 r_4 r_5 r_6_a r_6_n r_6_c r_7 r_8_a r_8_n r_8_c r_9 I F Q) : Tri P 52 #[.agg #[.int .u8 r_0, .int .u8 r_1, .int .u8 r_2, .int .i64 r_3, .int .u8 r_4, .string r_5, .slice r_6_a r_6_n r_6_c, .int .i64 r_7, .slice r_8_a r_8_n r_8_c, .int .i64 r_9]] I (F) Q :=
  tv (A := (annL [] [] [24, 53] shT_t9 [] [] [] [] [] [(1, [0, 3, 4, 1, 2, 5, 6, 7])] [] [] [(1, [4], 7)])) (args := [.a (.v (.agg #[.int .u8 r_0, .int .u8 r_1, .int .u8 r_2, .int .i64 r_3, .int .u8 r_4, .string r_5, .slice r_6_a r_6_n r_6_c, .int .i64 r_7, .slice r_8_a r_8_n r_8_c, .int .i64 r_9]))]) (own := []) (keep := []) [24, 53] Go.Proofs.Tryz.func52 h
def tree_Bare_3_1_1.V (a : Nat → Nat × Obj) (nV : Int → Int → Int → Int → Int → Bs → OA → Nat → Nat → Int → Value) (vb vi : Int → Value) (vs : Bs → Value) (vl : OA → Nat → Nat → Value) (a1 a2 : Int) (a3 : Bs) (a4 a5 a6 a7 a8 : Int) (a9 : Bs) (av : OA) (aw ax : Nat) (aF aG aH aI aJ aK : Int) (aL : Bs) (p : OA) (q r : Nat) (aM aN aO aP aQ aR : Int) (aS : Bs) (s : OA) (t u : Nat) (aT aU aV aW aX aY : Int) (aZ : Bs) (v : OA) (w x : Nat) (a0 ba : Int) (I : Imm) (F : Heap) (Q : PostQ)  : Prop := ∀ c : Nat, ∀ b : Nat, Tri P 24 (#[nV a4 a5 a6 a7 a8 a9 av aw ax aF]) I ((a c) :: (b, Obj.cells #[vb 0, vb 0, vs (⟨#[]⟩ : Bs), vb 0, vb 0, vb 0, vi 0, vb 0, vs (⟨#[]⟩ : Bs), vl none 0 0, vi 0, vb 0, vb 0, vb 0, vi 0, vb 0, vs (⟨#[]⟩ : Bs), vl none 0 0, vi 0, vb 0, vb 0, vb 0, vi 0, vb 0, vs (⟨#[]⟩ : Bs), vl none 0 0, vi 0, vb 0, vb 0, vb 0, vi 0, vb 0, vs (⟨#[]⟩ : Bs), vl none 0 0, vi 0, vi 0] 89 (0, 0)) :: F) fun e1 I1 G1 => ∃ (ay az aA aB aC : Int) (aD : Bs) (m : OA) (n o : Nat) (aE : Int), e1 = .returned (nV ay az aA aB aC aD m n o aE) ∧ ∃ F1 : Heap, List.Perm G1 ((a c) :: (b, Obj.cells #[vb 0, vb 0, vs (⟨#[]⟩ : Bs), vb 0, vb 0, vb 0, vi 0, vb 0, vs (⟨#[]⟩ : Bs), vl none 0 0, vi 0, vb 0, vb 0, vb 0, vi 0, vb 0, vs (⟨#[]⟩ : Bs), vl none 0 0, vi 0, vb 0, vb 0, vb 0, vi 0, vb 0, vs (⟨#[]⟩ : Bs), vl none 0 0, vi 0, vb 0, vb 0, vb 0, vi 0, vb 0, vs (⟨#[]⟩ : Bs), vl none 0 0, vi 0, vi 0] 89 (0, 0)) :: F1) ∧ Tri P 24 (#[nV aG aH aI aJ aK aL p q r aM]) I1 ((a c) :: (b, Obj.cells #[vb 0, vb 0, vs (⟨#[]⟩ : Bs), vb 0, vb 0, vb 0, vi 0, vb 0, vs (⟨#[]⟩ : Bs), vl none 0 0, vi 0, vb 0, vb 0, vb 0, vi 0, vb 0, vs (⟨#[]⟩ : Bs), vl none 0 0, vi 0, vb 0, vb 0, vb 0, vi 0, vb 0, vs (⟨#[]⟩ : Bs), vl none 0 0, vi 0, vb 0, vb 0, vb 0, vi 0, vb 0, vs (⟨#[]⟩ : Bs), vl none 0 0, vi 0, vi 0] 89 (0, 0)) :: F1) fun e2 I2 G2 => ∃ (y z aa ab ac : Int) (ad : Bs) (d : OA) (e f : Nat) (ae : Int), e2 = .returned (nV y z aa ab ac ad d e f ae) ∧ ∃ F2 : Heap, List.Perm G2 ((a c) :: (b, Obj.cells #[vb 0, vb 0, vs (⟨#[]⟩ : Bs), vb 0, vb 0, vb 0, vi 0, vb 0, vs (⟨#[]⟩ : Bs), vl none 0 0, vi 0, vb 0, vb 0, vb 0, vi 0, vb 0, vs (⟨#[]⟩ : Bs), vl none 0 0, vi 0, vb 0, vb 0, vb 0, vi 0, vb 0, vs (⟨#[]⟩ : Bs), vl none 0 0, vi 0, vb 0, vb 0, vb 0, vi 0, vb 0, vs (⟨#[]⟩ : Bs), vl none 0 0, vi 0, vi 0] 89 (0, 0)) :: F2) ∧ Tri P 24 (#[nV aN aO aP aQ aR aS s t u aT]) I2 ((a c) :: (b, Obj.cells #[vb 0, vb 0, vs (⟨#[]⟩ : Bs), vb 0, vb 0, vb 0, vi 0, vb 0, vs (⟨#[]⟩ : Bs), vl none 0 0, vi 0, vb 0, vb 0, vb 0, vi 0, vb 0, vs (⟨#[]⟩ : Bs), vl none 0 0, vi 0, vb 0, vb 0, vb 0, vi 0, vb 0, vs (⟨#[]⟩ : Bs), vl none 0 0, vi 0, vb 0, vb 0, vb 0, vi 0, vb 0, vs (⟨#[]⟩ : Bs), vl none 0 0, vi 0, vi 0] 89 (0, 0)) :: F2) fun e3 I3 G3 => ∃ (af ag ah ai aj : Int) (ak : Bs) (g : OA) (h i : Nat) (al : Int), e3 = .returned (nV af ag ah ai aj ak g h i al) ∧ ∃ F3 : Heap, List.Perm G3 ((a c) :: (b, Obj.cells #[vb 0, vb 0, vs (⟨#[]⟩ : Bs), vb 0, vb 0, vb 0, vi 0, vb 0, vs (⟨#[]⟩ : Bs), vl none 0 0, vi 0, vb 0, vb 0, vb 0, vi 0, vb 0, vs (⟨#[]⟩ : Bs), vl none 0 0, vi 0, vb 0, vb 0, vb 0, vi 0, vb 0, vs (⟨#[]⟩ : Bs), vl none 0 0, vi 0, vb 0, vb 0, vb 0, vi 0, vb 0, vs (⟨#[]⟩ : Bs), vl none 0 0, vi 0, vi 0] 89 (0, 0)) :: F3) ∧ Tri P 24 (#[nV aU aV aW aX aY aZ v w x a0]) I3 ((a c) :: (b, Obj.cells #[vb 0, vb 0, vs (⟨#[]⟩ : Bs), vb 0, vb 0, vb 0, vi 0, vb 0, vs (⟨#[]⟩ : Bs), vl none 0 0, vi 0, vb 0, vb 0, vb 0, vi 0, vb 0, vs (⟨#[]⟩ : Bs), vl none 0 0, vi 0, vb 0, vb 0, vb 0, vi 0, vb 0, vs (⟨#[]⟩ : Bs), vl none 0 0, vi 0, vb 0, vb 0, vb 0, vi 0, vb 0, vs (⟨#[]⟩ : Bs), vl none 0 0, vi 0, vi 0] 89 (0, 0)) :: F3) fun e4 I4 G4 => ∃ (am an ao ap aq : Int) (ar : Bs) (j : OA) (k l : Nat) (au : Int), e4 = .returned (nV am an ao ap aq ar j k l au) ∧ ∃ F4 : Heap, List.Perm G4 ((a c) :: (b, Obj.cells #[vb 0, vb 0, vs (⟨#[]⟩ : Bs), vb 0, vb 0, vb 0, vi 0, vb 0, vs (⟨#[]⟩ : Bs), vl none 0 0, vi 0, vb 0, vb 0, vb 0, vi 0, vb 0, vs (⟨#[]⟩ : Bs), vl none 0 0, vi 0, vb 0, vb 0, vb 0, vi 0, vb 0, vs (⟨#[]⟩ : Bs), vl none 0 0, vi 0, vb 0, vb 0, vb 0, vi 0, vb 0, vs (⟨#[]⟩ : Bs), vl none 0 0, vi 0, vi 0] 89 (0, 0)) :: F4) ∧ Q (.returned (.agg #[vb a1, vb a2, vs a3, vb ay, vb az, vb aA, vi aB, vb aC, vs aD, vl m n o, vi aE, vb y, vb z, vb aa, vi ab, vb ac, vs ad, vl d e f, vi ae, vb af, vb ag, vb ah, vi ai, vb aj, vs ak, vl g h i, vi al, vb am, vb an, vb ao, vi ap, vb aq, vs ar, vl j k l, vi au, vi 0])) I4 (F4)
theorem tree_Bare_3_1_1.vc {d_0 d_1 : Int} {d_2 : Bs} {d_3 d_4 d_5 d_6 d_7 : Int} {d_8 : Bs} {d_9_a : OA} {d_9_n d_9_c : Nat} {d_10 d_11 d_12 d_13 d_14 d_15 : Int} {d_16 : Bs} {d_17_a : OA} {d_17_n d_17_c : Nat} {d_18 d_19 d_20 d_21 d_22 d_23 : Int} {d_24 : Bs} {d_25_a : OA} {d_25_n d_25_c : Nat} {d_26 d_27 d_28 d_29 d_30 d_31 : Int} {d_32 : Bs} {d_33_a : OA} {d_33_n d_33_c : Nat} {d_34 d_35 : Int} {I : Imm} {F : Heap} {Q : PostQ}  (h : tree_Bare_3_1_1.V (fun b => (b, Obj.cells #[.int .u8 d_0, .int .u8 d_1, .string d_2, .int .u8 d_3, .int .u8 d_4, .int .u8 d_5, .int .i64 d_6, .int .u8 d_7, .string d_8, .slice d_9_a d_9_n d_9_c, .int .i64 d_10, .int .u8 d_11, .int .u8 d_12, .int .u8 d_13, .int .i64 d_14, .int .u8 d_15, .string d_16, .slice d_17_a d_17_n d_17_c, .int .i64 d_18, .int .u8 d_19, .int .u8 d_20, .int .u8 d_21, .int .i64 d_22, .int .u8 d_23, .string d_24, .slice d_25_a d_25_n d_25_c, .int .i64 d_26, .int .u8 d_27, .int .u8 d_28, .int .u8 d_29, .int .i64 d_30, .int .u8 d_31, .string d_32, .slice d_33_a d_33_n d_33_c, .int .i64 d_34, .int .i64 d_35] 89 (0, 0))) (fun k o t n f s a l c q => .agg #[.int .u8 k, .int .u8 o, .int .u8 t, .int .i64 n, .int .u8 f, .string s, .slice a l c, .int .i64 q]) (.int .u8) (.int .i64) .string .slice d_0 d_1 d_2 d_3 d_4 d_5 d_6 d_7 d_8 d_9_a d_9_n d_9_c d_10 d_11 d_12 d_13 d_14 d_15 d_16 d_17_a d_17_n d_17_c d_18 d_19 d_20 d_21 d_22 d_23 d_24 d_25_a d_25_n d_25_c d_26 d_27 d_28 d_29 d_30 d_31 d_32 d_33_a d_33_n d_33_c d_34 d_35 I F Q) : Tri P 54 #[.agg #[.int .u8 d_0, .int .u8 d_1, .string d_2, .int .u8 d_3, .int .u8 d_4, .int .u8 d_5, .int .i64 d_6, .int .u8 d_7, .string d_8, .slice d_9_a d_9_n d_9_c, .int .i64 d_10, .int .u8 d_11, .int .u8 d_12, .int .u8 d_13, .int .i64 d_14, .int .u8 d_15, .string d_16, .slice d_17_a d_17_n d_17_c, .int .i64 d_18, .int .u8 d_19, .int .u8 d_20, .int .u8 d_21, .int .i64 d_22, .int .u8 d_23, .string d_24, .slice d_25_a d_25_n d_25_c, .int .i64 d_26, .int .u8 d_27, .int .u8 d_28, .int .u8 d_29, .int .i64 d_30, .int .u8 d_31, .string d_32, .slice d_33_a d_33_n d_33_c, .int .i64 d_34, .int .i64 d_35]] I (F) Q :=
  tv (A := (annL [] [] [24] shT_t9 [] [] [] [] [] [(1, [0, 2, 4, 6, 9, 12, 15, 1, 3, 5, 10, 13, 16, 7, 8, 11, 14, 17, 18, 19])] [] [] [(1, [1, 3, 5, 10, 13, 16], 19)])) (args := [.a (.v (.agg #[.int .u8 d_0, .int .u8 d_1, .string d_2, .int .u8 d_3, .int .u8 d_4, .int .u8 d_5, .int .i64 d_6, .int .u8 d_7, .string d_8, .slice d_9_a d_9_n d_9_c, .int .i64 d_10, .int .u8 d_11, .int .u8 d_12, .int .u8 d_13, .int .i64 d_14, .int .u8 d_15, .string d_16, .slice d_17_a d_17_n d_17_c, .int .i64 d_18, .int .u8 d_19, .int .u8 d_20, .int .u8 d_21, .int .i64 d_22, .int .u8 d_23, .string d_24, .slice d_25_a d_25_n d_25_c, .int .i64 d_26, .int .u8 d_27, .int .u8 d_28, .int .u8 d_29, .int .i64 d_30, .int .u8 d_31, .string d_32, .slice d_33_a d_33_n d_33_c, .int .i64 d_34, .int .i64 d_35]))]) (own := []) (keep := []) [24] Go.Proofs.Tryz.func54 h
def tree_eachDo.V (vb vi : Int → Value) (vs : Bs → Value) (vl : OA → Nat → Nat → Value) (bq : OA) (aQ bt : Nat) (f : Fn) (br bs : Array Value) (I : Imm) (F : Heap) (Q : PostQ) (Inv8 : OA → Nat → Nat → Int → Nat → Imm → Heap → Prop) : Prop := (∃ m : Nat, Inv8 none 0 0 0 m I F) ∧ ∀ (aA : OA) (aB aC : Nat) (x : Int) (m1 : Nat) (I1 : Imm) (F1 : Heap), Imm.le I I1 → Inv8 aA aB aC x m1 I1 F1 → ((decide (x < ((aQ : Nat) : Int)) = true → ((0 ≤ x ∧ x < (aQ : Int)) ∧ ∃ ad : Addr, bq = some ad ∧ ∃ (ap aq : Int) (ar : Bs) (au av aw ax ay : Int) (az : Bs) (l : OA) (n o : Nat) (p q r s t u : Int) (w : Bs) (a : OA) (c d : Nat) (y z aa ab ac ae : Int) (af : Bs) (e : OA) (g h : Nat) (ag ah ai aj ak al : Int) (am : Bs) (i : OA) (j k : Nat) (an ao : Int), Rd I1 (F1) (ad.add (Int.toNat (x) * 36)) [vb ap, vb aq, vs ar, vb au, vb av, vb aw, vi ax, vb ay, vs az, vl l n o, vi p, vb q, vb r, vb s, vi t, vb u, vs w, vl a c d, vi y, vb z, vb aa, vb ab, vi ac, vb ae, vs af, vl e g h, vi ag, vb ah, vb ai, vb aj, vi ak, vb al, vs am, vl i j k, vi an, vi ao] ∧ ∀ aP : Nat, TriV P (.func f br bs) [.agg #[vb ap, vb aq, vs ar, vb au, vb av, vb aw, vi ax, vb ay, vs az, vl l n o, vi p, vb q, vb r, vb s, vi t, vb u, vs w, vl a c d, vi y, vb z, vb aa, vb ab, vi ac, vb ae, vs af, vl e g h, vi ag, vb ah, vb ai, vb aj, vi ak, vb al, vs am, vl i j k, vi an, vi ao]] I1 ((aP, Obj.cells #[vb ap, vb aq, vs ar, vb au, vb av, vb aw, vi ax, vb ay, vs az, vl l n o, vi p, vb q, vb r, vb s, vi t, vb u, vs w, vl a c d, vi y, vb z, vb aa, vb ab, vi ac, vb ae, vs af, vl e g h, vi ag, vb ah, vb ai, vb aj, vi ak, vb al, vs am, vl i j k, vi an, vi ao] 89 (0, 0)) :: F1) fun e1 I2 G1 => ∃ (be bf : Int) (bg : Bs) (bh bi bj bk bl : Int) (bm : Bs) (aM : OA) (aN aO : Nat) (aR aS aT aU aV aW : Int) (aX : Bs) (aD : OA) (aE aF : Nat) (aY aZ a0 a1 a2 a3 : Int) (a4 : Bs) (aG : OA) (aH aI : Nat) (a5 a6 a7 a8 a9 ba : Int) (bb : Bs) (aJ : OA) (aK aL : Nat) (bc bd : Int), e1 = .returned (.agg #[vb be, vb bf, vs bg, vb bh, vb bi, vb bj, vi bk, vb bl, vs bm, vl aM aN aO, vi aR, vb aS, vb aT, vb aU, vi aV, vb aW, vs aX, vl aD aE aF, vi aY, vb aZ, vb a0, vb a1, vi a2, vb a3, vs a4, vl aG aH aI, vi a5, vb a6, vb a7, vb a8, vi a9, vb ba, vs bb, vl aJ aK aL, vi bc, vi bd]) ∧ ∃ F2 : Heap, List.Perm G1 ((aP, Obj.cells #[vb ap, vb aq, vs ar, vb au, vb av, vb aw, vi ax, vb ay, vs az, vl l n o, vi p, vb q, vb r, vb s, vi t, vb u, vs w, vl a c d, vi y, vb z, vb aa, vb ab, vi ac, vb ae, vs af, vl e g h, vi ag, vb ah, vb ai, vb aj, vi ak, vb al, vs am, vl i j k, vi an, vi ao] 89 (0, 0)) :: F2) ∧ ∀ (b : Nat) (I3 : Imm), Imm.le I2 I3 → I3 b = some (Obj.cells #[vb be, vb bf, vs bg, vb bh, vb bi, vb bj, vi bk, vb bl, vs bm, vl aM aN aO, vi aR, vb aS, vb aT, vb aU, vi aV, vb aW, vs aX, vl aD aE aF, vi aY, vb aZ, vb a0, vb a1, vi a2, vb a3, vs a4, vl aG aH aI, vi a5, vb a6, vb a7, vb a8, vi a9, vb ba, vs bb, vl aJ aK aL, vi bc, vi bd] 89 (0, 0)) → TriE P (Builtin.append_ #[65, 65] 65 #[vl aA aB aC, vl (some ⟨b, 0, none⟩) 1 1]) I3 ((aP, Obj.cells #[vb ap, vb aq, vs ar, vb au, vb av, vb aw, vi ax, vb ay, vs az, vl l n o, vi p, vb q, vb r, vb s, vi t, vb u, vs w, vl a c d, vi y, vb z, vb aa, vb ab, vi ac, vb ae, vs af, vl e g h, vi ag, vb ah, vb ai, vb aj, vi ak, vb al, vs am, vl i j k, vi an, vi ao] 89 (0, 0)) :: F2) fun v I4 G2 => ∃ (bn : OA) (bo bp : Nat), v = vl bn bo bp ∧ ∃ F3 : Heap, List.Perm G2 ((aP, Obj.cells #[vb ap, vb aq, vs ar, vb au, vb av, vb aw, vi ax, vb ay, vs az, vl l n o, vi p, vb q, vb r, vb s, vi t, vb u, vs w, vl a c d, vi y, vb z, vb aa, vb ab, vi ac, vb ae, vs af, vl e g h, vi ag, vb ah, vb ai, vb aj, vi ak, vb al, vs am, vl i j k, vi an, vi ao] 89 (0, 0)) :: F3) ∧ (∃ m2 : Nat, m2 < m1 ∧ Inv8 bn bo bp (IntKind.wrap .i64 (x + 1)) m2 I4 F3))) ∧ (decide (x < ((aQ : Nat) : Int)) = false → Q (.returned (vl aA aB aC)) I1 (F1)))
theorem tree_eachDo.vc {l_a : OA} {l_n l_c : Nat} {f : Fn} {f_f f_c : Array Value} {I : Imm} {F : Heap} {Q : PostQ} (Inv8 : OA → Nat → Nat → Int → Nat → Imm → Heap → Prop) (h : tree_eachDo.V (.int .u8) (.int .i64) .string .slice l_a l_n l_c f f_f f_c I F Q Inv8) : Tri P 53 #[.slice l_a l_n l_c, .func f f_f f_c] I (F) Q :=
  tv (A := (annL [3000] [] [] shT_t9 [(8, ⟨[(5, .slc), (10, (.int .i64))], [], fun _ _ _ vs m I F => match vs with | [.slice y0 y1 y2, .int _ y3] => Inv8 y0 y1 y2 y3 m I F | _ => False, [], []⟩)] [5004] [] [] [5003] [] [])) (args := [.a (.v (.slice l_a l_n l_c)), .a (.v (.func f f_f f_c))]) (own := []) (keep := []) [] Go.Proofs.Tryz.func53 h
def tree_eachRule.V (vb vi : Int → Value) (vs : Bs → Value) (vl : OA → Nat → Nat → Value) (aq : OA) (ae av : Nat) (f : Fn) (ar au : Array Value) (I : Imm) (F : Heap) (Q : PostQ) (Inv8 : OA → Nat → Nat → Int → Nat → Imm → Heap → Prop) : Prop := (∃ m : Nat, Inv8 none 0 0 0 m I F) ∧ ∀ (r : OA) (s t : Nat) (x : Int) (m1 : Nat) (I1 : Imm) (F1 : Heap), Imm.le I I1 → Inv8 r s t x m1 I1 F1 → ((decide (x < ((ae : Nat) : Int)) = true → ((0 ≤ x ∧ x < (ae : Int)) ∧ ∃ ad : Addr, aq = some ad ∧ ∃ (i j k l n : Int) (o : Bs) (a : OA) (c d : Nat) (p : Int) (e : OA) (g h : Nat) (q : Int), Rd I1 (F1) (ad.add (Int.toNat (x) * 10)) [vb i, vb j, vb k, vi l, vb n, vs o, vl a c d, vi p, vl e g h, vi q] ∧ ∀ ac : Nat, TriV P (.func f ar au) [.agg #[vb i, vb j, vb k, vi l, vb n, vs o, vl a c d, vi p, vl e g h, vi q]] I1 ((ac, Obj.cells #[vb i, vb j, vb k, vi l, vb n, vs o, vl a c d, vi p, vl e g h, vi q] 67 (0, 0)) :: F1) fun e1 I2 G1 => ∃ (af ag ah ai aj : Int) (ak : Bs) (u : OA) (w y : Nat) (al : Int) (z : OA) (aa ab : Nat) (am : Int), e1 = .returned (.agg #[vb af, vb ag, vb ah, vi ai, vb aj, vs ak, vl u w y, vi al, vl z aa ab, vi am]) ∧ ∃ F2 : Heap, List.Perm G1 ((ac, Obj.cells #[vb i, vb j, vb k, vi l, vb n, vs o, vl a c d, vi p, vl e g h, vi q] 67 (0, 0)) :: F2) ∧ ∀ (b : Nat) (I3 : Imm), Imm.le I2 I3 → I3 b = some (Obj.cells #[vb af, vb ag, vb ah, vi ai, vb aj, vs ak, vl u w y, vi al, vl z aa ab, vi am] 67 (0, 0)) → TriE P (Builtin.append_ #[68, 68] 68 #[vl r s t, vl (some ⟨b, 0, none⟩) 1 1]) I3 ((ac, Obj.cells #[vb i, vb j, vb k, vi l, vb n, vs o, vl a c d, vi p, vl e g h, vi q] 67 (0, 0)) :: F2) fun v I4 G2 => ∃ (an : OA) (ao ap : Nat), v = vl an ao ap ∧ ∃ F3 : Heap, List.Perm G2 ((ac, Obj.cells #[vb i, vb j, vb k, vi l, vb n, vs o, vl a c d, vi p, vl e g h, vi q] 67 (0, 0)) :: F3) ∧ (∃ m2 : Nat, m2 < m1 ∧ Inv8 an ao ap (IntKind.wrap .i64 (x + 1)) m2 I4 F3))) ∧ (decide (x < ((ae : Nat) : Int)) = false → Q (.returned (vl r s t)) I1 (F1)))
theorem tree_eachRule.vc {l_a : OA} {l_n l_c : Nat} {f : Fn} {f_f f_c : Array Value} {I : Imm} {F : Heap} {Q : PostQ} (Inv8 : OA → Nat → Nat → Int → Nat → Imm → Heap → Prop) (h : tree_eachRule.V (.int .u8) (.int .i64) .string .slice l_a l_n l_c f f_f f_c I F Q Inv8) : Tri P 51 #[.slice l_a l_n l_c, .func f f_f f_c] I (F) Q :=
  tv (A := (annL [3000] [] [] shT_t9 [(8, ⟨[(5, .slc), (10, (.int .i64))], [], fun _ _ _ vs m I F => match vs with | [.slice y0 y1 y2, .int _ y3] => Inv8 y0 y1 y2 y3 m I F | _ => False, [], []⟩)] [5004] [] [] [5003] [] [])) (args := [.a (.v (.slice l_a l_n l_c)), .a (.v (.func f f_f f_c))]) (own := []) (keep := []) [] Go.Proofs.Tryz.func51 h
def tree_eachReg.V (vb vi : Int → Value) (vs : Bs → Value) (vl : OA → Nat → Nat → Value) (ao : OA) (z ar : Nat) (f : Fn) (ap aq : Array Value) (I : Imm) (F : Heap) (Q : PostQ) (Inv8 : OA → Nat → Nat → Int → Nat → Imm → Heap → Prop) : Prop := (∃ m : Nat, Inv8 none 0 0 0 m I F) ∧ ∀ (q : OA) (r s : Nat) (x : Int) (m1 : Nat) (I1 : Imm) (F1 : Heap), Imm.le I I1 → Inv8 q r s x m1 I1 F1 → ((decide (x < ((z : Nat) : Int)) = true → ((0 ≤ x ∧ x < (z : Int)) ∧ ∃ ad : Addr, ao = some ad ∧ ∃ (g : Bs) (h i j k l n : Int) (o : Bs) (a : OA) (c d : Nat) (p e : Int), Rd I1 (F1) (ad.add (Int.toNat (x) * 11)) [vs g, vb h, vb i, vb j, vb k, vi l, vb n, vs o, vl a c d, vi p, vi e] ∧ ∀ y : Nat, TriV P (.func f ap aq) [.agg #[vs g, vb h, vb i, vb j, vb k, vi l, vb n, vs o, vl a c d, vi p, vi e]] I1 ((y, Obj.cells #[vs g, vb h, vb i, vb j, vb k, vi l, vb n, vs o, vl a c d, vi p, vi e] 75 (0, 0)) :: F1) fun e1 I2 G1 => ∃ (ab : Bs) (ac ae af ag ah ai : Int) (aj : Bs) (t : OA) (u w : Nat) (ak aa : Int), e1 = .returned (.agg #[vs ab, vb ac, vb ae, vb af, vb ag, vi ah, vb ai, vs aj, vl t u w, vi ak, vi aa]) ∧ ∃ F2 : Heap, List.Perm G1 ((y, Obj.cells #[vs g, vb h, vb i, vb j, vb k, vi l, vb n, vs o, vl a c d, vi p, vi e] 75 (0, 0)) :: F2) ∧ ∀ (b : Nat) (I3 : Imm), Imm.le I2 I3 → I3 b = some (Obj.cells #[vs ab, vb ac, vb ae, vb af, vb ag, vi ah, vb ai, vs aj, vl t u w, vi ak, vi aa] 75 (0, 0)) → TriE P (Builtin.append_ #[22, 22] 22 #[vl q r s, vl (some ⟨b, 0, none⟩) 1 1]) I3 ((y, Obj.cells #[vs g, vb h, vb i, vb j, vb k, vi l, vb n, vs o, vl a c d, vi p, vi e] 75 (0, 0)) :: F2) fun v I4 G2 => ∃ (al : OA) (am an : Nat), v = vl al am an ∧ ∃ F3 : Heap, List.Perm G2 ((y, Obj.cells #[vs g, vb h, vb i, vb j, vb k, vi l, vb n, vs o, vl a c d, vi p, vi e] 75 (0, 0)) :: F3) ∧ (∃ m2 : Nat, m2 < m1 ∧ Inv8 al am an (IntKind.wrap .i64 (x + 1)) m2 I4 F3))) ∧ (decide (x < ((z : Nat) : Int)) = false → Q (.returned (vl q r s)) I1 (F1)))
theorem tree_eachReg.vc {l_a : OA} {l_n l_c : Nat} {f : Fn} {f_f f_c : Array Value} {I : Imm} {F : Heap} {Q : PostQ} (Inv8 : OA → Nat → Nat → Int → Nat → Imm → Heap → Prop) (h : tree_eachReg.V (.int .u8) (.int .i64) .string .slice l_a l_n l_c f f_f f_c I F Q Inv8) : Tri P 45 #[.slice l_a l_n l_c, .func f f_f f_c] I (F) Q :=
  tv (A := (annL [3000] [] [] shT_t9 [(8, ⟨[(5, .slc), (10, (.int .i64))], [], fun _ _ _ vs m I F => match vs with | [.slice y0 y1 y2, .int _ y3] => Inv8 y0 y1 y2 y3 m I F | _ => False, [], []⟩)] [5004] [] [] [5003] [] [])) (args := [.a (.v (.slice l_a l_n l_c)), .a (.v (.func f f_f f_c))]) (own := []) (keep := []) [] Go.Proofs.Tryz.func45 h
def tree_eachSlot.V (vi : Int → Value) (vs : Bs → Value) (vl : OA → Nat → Nat → Value) (p : OA) (i s : Nat) (f : Fn) (q r : Array Value) (I : Imm) (F : Heap) (Q : PostQ) (Inv8 : OA → Nat → Nat → Int → Nat → Imm → Heap → Prop) : Prop := (∃ m : Nat, Inv8 none 0 0 0 m I F) ∧ ∀ (d : OA) (e g : Nat) (x : Int) (m1 : Nat) (I1 : Imm) (F1 : Heap), Imm.le I I1 → Inv8 d e g x m1 I1 F1 → ((decide (x < ((i : Nat) : Int)) = true → ((0 ≤ x ∧ x < (i : Int)) ∧ ∃ ad : Addr, p = some ad ∧ ∃ (a : Bs) (c : Int), Rd I1 (F1) (ad.add (Int.toNat (x) * 2)) [vs a, vi c] ∧ ∀ h : Nat, TriV P (.func f q r) [.agg #[vs a, vi c]] I1 ((h, Obj.cells #[vs a, vi c] 77 (0, 0)) :: F1) fun e1 I2 G1 => ∃ (j : Bs) (k : Int), e1 = .returned (.agg #[vs j, vi k]) ∧ ∃ F2 : Heap, List.Perm G1 ((h, Obj.cells #[vs a, vi c] 77 (0, 0)) :: F2) ∧ ∀ (b : Nat) (I3 : Imm), Imm.le I2 I3 → I3 b = some (Obj.cells #[vs j, vi k] 77 (0, 0)) → TriE P (Builtin.append_ #[23, 23] 23 #[vl d e g, vl (some ⟨b, 0, none⟩) 1 1]) I3 ((h, Obj.cells #[vs a, vi c] 77 (0, 0)) :: F2) fun v I4 G2 => ∃ (l : OA) (n o : Nat), v = vl l n o ∧ ∃ F3 : Heap, List.Perm G2 ((h, Obj.cells #[vs a, vi c] 77 (0, 0)) :: F3) ∧ (∃ m2 : Nat, m2 < m1 ∧ Inv8 l n o (IntKind.wrap .i64 (x + 1)) m2 I4 F3))) ∧ (decide (x < ((i : Nat) : Int)) = false → Q (.returned (vl d e g)) I1 (F1)))
theorem tree_eachSlot.vc {l_a : OA} {l_n l_c : Nat} {f : Fn} {f_f f_c : Array Value} {I : Imm} {F : Heap} {Q : PostQ} (Inv8 : OA → Nat → Nat → Int → Nat → Imm → Heap → Prop) (h : tree_eachSlot.V (.int .i64) .string .slice l_a l_n l_c f f_f f_c I F Q Inv8) : Tri P 47 #[.slice l_a l_n l_c, .func f f_f f_c] I (F) Q :=
  tv (A := (annL [3000] [] [] shT_t9 [(8, ⟨[(5, .slc), (10, (.int .i64))], [], fun _ _ _ vs m I F => match vs with | [.slice y0 y1 y2, .int _ y3] => Inv8 y0 y1 y2 y3 m I F | _ => False, [], []⟩)] [5004] [] [] [5003] [] [])) (args := [.a (.v (.slice l_a l_n l_c)), .a (.v (.func f f_f f_c))]) (own := []) (keep := []) [] Go.Proofs.Tryz.func47 h
def tree_eachState.V (vi : Int → Value) (vs : Bs → Value) (vl : OA → Nat → Nat → Value) (w : OA) (p aa : Nat) (f : Fn) (y z : Array Value) (I : Imm) (F : Heap) (Q : PostQ) (Inv8 : OA → Nat → Nat → Int → Nat → Imm → Heap → Prop) : Prop := (∃ m : Nat, Inv8 none 0 0 0 m I F) ∧ ∀ (h : OA) (i j : Nat) (x : Int) (m1 : Nat) (I1 : Imm) (F1 : Heap), Imm.le I I1 → Inv8 h i j x m1 I1 F1 → ((decide (x < ((p : Nat) : Int)) = true → ((0 ≤ x ∧ x < (p : Int)) ∧ ∃ ad : Addr, w = some ad ∧ ∃ (e : Bs) (a : OA) (c d : Nat) (g : Int), Rd I1 (F1) (ad.add (Int.toNat (x) * 3)) [vs e, vl a c d, vi g] ∧ ∀ o : Nat, TriV P (.func f y z) [.agg #[vs e, vl a c d, vi g]] I1 ((o, Obj.cells #[vs e, vl a c d, vi g] 70 (0, 0)) :: F1) fun e1 I2 G1 => ∃ (q : Bs) (k : OA) (l n : Nat) (r : Int), e1 = .returned (.agg #[vs q, vl k l n, vi r]) ∧ ∃ F2 : Heap, List.Perm G1 ((o, Obj.cells #[vs e, vl a c d, vi g] 70 (0, 0)) :: F2) ∧ ∀ (b : Nat) (I3 : Imm), Imm.le I2 I3 → I3 b = some (Obj.cells #[vs q, vl k l n, vi r] 70 (0, 0)) → TriE P (Builtin.append_ #[24, 24] 24 #[vl h i j, vl (some ⟨b, 0, none⟩) 1 1]) I3 ((o, Obj.cells #[vs e, vl a c d, vi g] 70 (0, 0)) :: F2) fun v I4 G2 => ∃ (s : OA) (t u : Nat), v = vl s t u ∧ ∃ F3 : Heap, List.Perm G2 ((o, Obj.cells #[vs e, vl a c d, vi g] 70 (0, 0)) :: F3) ∧ (∃ m2 : Nat, m2 < m1 ∧ Inv8 s t u (IntKind.wrap .i64 (x + 1)) m2 I4 F3))) ∧ (decide (x < ((p : Nat) : Int)) = false → Q (.returned (vl h i j)) I1 (F1)))
theorem tree_eachState.vc {l_a : OA} {l_n l_c : Nat} {f : Fn} {f_f f_c : Array Value} {I : Imm} {F : Heap} {Q : PostQ} (Inv8 : OA → Nat → Nat → Int → Nat → Imm → Heap → Prop) (h : tree_eachState.V (.int .i64) .string .slice l_a l_n l_c f f_f f_c I F Q Inv8) : Tri P 49 #[.slice l_a l_n l_c, .func f f_f f_c] I (F) Q :=
  tv (A := (annL [3000] [] [] shT_t9 [(8, ⟨[(5, .slc), (10, (.int .i64))], [], fun _ _ _ vs m I F => match vs with | [.slice y0 y1 y2, .int _ y3] => Inv8 y0 y1 y2 y3 m I F | _ => False, [], []⟩)] [5004] [] [] [5003] [] [])) (args := [.a (.v (.slice l_a l_n l_c)), .a (.v (.func f f_f f_c))]) (own := []) (keep := []) [] Go.Proofs.Tryz.func49 h
end Go.Lx
