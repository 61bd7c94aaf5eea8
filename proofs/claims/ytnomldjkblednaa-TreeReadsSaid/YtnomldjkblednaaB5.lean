import Derived.Test.YtnomldjkblednaaB4
set_option linter.unusedVariables false
set_option linter.unusedSimpArgs false
namespace Go.Lx
open Go.Vc
def shT_o3 : List (Nat × List Sh) := [(3, [.one (.int .i64)]), (9, [.one .str]), (54, [.one .slc]), (59, [.one .slc]), (60, [.one .slc]), (61, [.one .slc]), (62, [.one .slc]), (63, [.one .slc]), (64, [.one .slc]), (65, [.one .slc]), (66, [.one .slc]), (67, [.one .slc]), (68, [.one .slc]), (159, [.one .slc]), (160, [.one .slc]), (161, [.one (.int .u64)]), (162, [.one .slc]), (165, [.agg [(.int .i64), (.int .i64), (.int .u8), (.int .i64), (.int .i64)]]), (166, [.one .slc]), (168, [.agg [(.int .i64), (.int .i64), (.int .i64)]]), (169, [.one .slc]), (171, [.agg [(.int .i64), (.int .i64), (.int .i64), .bool]]), (172, [.one .slc]), (175, [.agg [(.int .u8), (.int .i64), (.int .i64), (.int .i64), (.int .i64), (.int .u8), (.int .i64), (.int .i64), (.int .i64)]]), (176, [.one .slc]), (179, [.agg [(.int .u8), (.int .i64), (.int .i64)]]), (180, [.one .slc]), (183, [.agg [(.int .u8), (.int .u8), (.int .u8), (.int .i64), (.int .i64), (.int .i64)]]), (184, [.one .slc]), (187, [.agg [(.int .u8), (.int .u8), (.int .i64), (.int .i64), (.int .i64), (.int .i64), (.int .u8), (.int .i64), (.int .i64), (.int .i64), (.int .i64), (.int .i64), (.int .i64), (.int .i64)]])]
set_option maxRecDepth 100000 in
def ref00_mark.V (vs : ByteArray → Value) (n : Int) (I : Imm) (F : Heap) (Q : PostQ)  : Prop := ((decide (n < 0) = true → Tri P 92 (#[Value.int .i64 (IntKind.wrap .i64 (0 - n))]) I (F) fun e1 I1 G1 => ∃ (r : ByteArray), e1 = .returned (vs r) ∧ ∃ F1 : Heap, List.Perm G1 (F1) ∧ (((((⟨#[45]⟩ : ByteArray).size + r.size : Nat) : Int) ≤ IntKind.i64.max) ∧ Q (.returned (vs ((⟨#[45]⟩ : ByteArray) ++ r))) I1 (F1))) ∧ (decide (n < 0) = false → ∀ (b : Nat) (I2 : Imm), Imm.le I I2 → I2 b = some (Obj.cells #[Value.int .u8 (IntKind.wrap .u8 (IntKind.wrap .i64 (97 + (Int.tmod n 26))))] 5 (0, 0)) → TriE P (Go.convert 77 9 (Value.slice (some ⟨b, 0, none⟩) 1 1)) I2 (F) fun v I3 G2 => ∃ (r1 : ByteArray), v = vs r1 ∧ ∃ F2 : Heap, List.Perm G2 (F2) ∧ ((decide (n ≥ 26) = true → Tri P 92 (#[Value.int .i64 (IntKind.wrap .i64 (Int.tdiv n 26))]) I3 (F2) fun e2 I4 G3 => ∃ (r2 : ByteArray), e2 = .returned (vs r2) ∧ ∃ F3 : Heap, List.Perm G3 (F3) ∧ ((((r2.size + r1.size : Nat) : Int) ≤ IntKind.i64.max) ∧ Q (.returned (vs (r2 ++ r1))) I4 (F3))) ∧ (decide (n ≥ 26) = false → Q (.returned (vs r1)) I3 (F2)))))
set_option maxRecDepth 100000 in
theorem ref00_mark.vc {n : Int} {I : Imm} {F : Heap} {Q : PostQ}  (h : ref00_mark.V .string n I F Q) : Tri P 92 #[Value.int .i64 n] I (F) Q :=
  tri_of_V (A := (annL [1001, 4001] [] [92] shT_o3 [] [3004] [] [] [] [] [])) (args := [.a (.v (Value.int .i64 n))]) (own := []) (keep := []) [92] Go.Proofs.Try.func92 h (by kernel_rfl) (by kernel_rfl) (by kernel_rfl) (by kernel_rfl) (by kernel_rfl) (by simp [AV.wf, At.wf]) (by simp [AV.wf, At.wf]) rfl
set_option maxRecDepth 100000 in
def ref00_ownTexts.V (vi : Int → Value) (vs : ByteArray → Value) (vl : Option Addr → Nat → Nat → Value) (vt : Bool → Value) (wr : Int → Int) (l_a : Option Addr) (l_n l_c : Nat) (I : Imm) (F : Heap) (Q : PostQ) (Inv6 : Int → Nat → Imm → Heap → Imm → Heap → Prop) (Inv18 : Int → Int → Nat → Imm → Heap → Imm → Heap → Prop) (Inv36 : Option Addr → Nat → Nat → Int → Nat → Imm → Heap → Imm → Heap → Prop) (Inv51 : Option Addr → Nat → Nat → Int → Option Addr → Nat → Nat → Int → Nat → Imm → Heap → Imm → Heap → Prop) (Inv68 : Option Addr → Nat → Nat → Bool → Int → Nat → Imm → Heap → Imm → Heap → Prop) (Inv83 : Option Addr → Nat → Nat → Int → Int → Bool → Int → Nat → Imm → Heap → Imm → Heap → Prop) (Inv103 : Option Addr → Nat → Nat → Int → Int → Bool → Int → Nat → Imm → Heap → Imm → Heap → Prop) : Prop := (∃ m : Nat, Inv6 0 m I F I F) ∧ ∀ (i : Int) (m1 : Nat) (I1 : Imm) (F1 : Heap), Imm.le I I1 → Inv6 i m1 I F I1 F1 → ((decide (i < ((l_n : Nat) : Int)) = true → (∃ m2 : Nat, Inv18 i 0 m2 I1 F1 I1 F1) ∧ ∀ (k : Int) (m3 : Nat) (I2 : Imm) (F2 : Heap), Imm.le I1 I2 → Inv18 i k m3 I1 F1 I2 F2 → ((0 ≤ i ∧ i < (l_n : Int)) ∧ ∃ ad : Addr, l_a = some ad ∧ ∃ (m_a : Option Addr) (m_n m_c : Nat), Rd I2 (F2) (ad.add (Int.toNat (i) * 1)) [vl m_a m_n m_c] ∧ ((decide (k < ((m_n : Nat) : Int)) = true → ((0 ≤ i ∧ i < (l_n : Int)) ∧ ∃ ad1 : Addr, l_a = some ad1 ∧ ∃ (m_a1 : Option Addr) (m_n1 m_c1 : Nat), Rd I2 (F2) (ad1.add (Int.toNat (i) * 1)) [vl m_a1 m_n1 m_c1] ∧ ∃ (r : ByteArray), (Tri P 92 (#[vi (wr ((wr (i * 1000)) + k))]) I2 (F2) fun e1 I3 G1 => e1 = .returned (vs r) ∧ List.Perm G1 (F2)) ∧ ((0 ≤ k ∧ k < (m_n1 : Int)) ∧ ∃ ad2 : Addr, m_a1 = some ad2 ∧ ∃ (cs : List Value) (el : Nat) (F3 : Heap), List.Perm F2 (((ad2.add (Int.toNat (k) * 1)).block, Obj.cells cs.toArray el (0, 0)) :: F3) ∧ (ad2.add (Int.toNat (k) * 1)).spot = none ∧ (ad2.add (Int.toNat (k) * 1)).off + 1 ≤ cs.length ∧ (∃ m4 : Nat, m4 < m3 ∧ Inv18 i (wr (k + 1)) m4 I1 F1 I2 (((ad2.add (Int.toNat (k) * 1)).block, Obj.cells (splice (ad2.add (Int.toNat (k) * 1)).off [vs r] cs).toArray el (0, 0)) :: F3))))) ∧ (decide (k < ((m_n : Nat) : Int)) = false → (∃ m5 : Nat, m5 < m1 ∧ Inv6 (wr (i + 1)) m5 I F I2 F2))))) ∧ (decide (i < ((l_n : Nat) : Int)) = false → (∃ m6 : Nat, Inv36 none 0 0 0 m6 I1 F1 I1 F1) ∧ ∀ (long_a : Option Addr) (long_n long_c : Nat) (i1 : Int) (m7 : Nat) (I4 : Imm) (F4 : Heap), Imm.le I1 I4 → Inv36 long_a long_n long_c i1 m7 I1 F1 I4 F4 → ((decide (i1 < ((l_n : Nat) : Int)) = true → ((0 ≤ i1 ∧ i1 < (l_n : Int)) ∧ ∃ ad3 : Addr, l_a = some ad3 ∧ ∃ (m_a2 : Option Addr) (m_n2 m_c2 : Nat), Rd I4 (F4) (ad3.add (Int.toNat (i1) * 1)) [vl m_a2 m_n2 m_c2] ∧ (∃ m8 : Nat, Inv51 long_a long_n long_c i1 m_a2 m_n2 m_c2 0 m8 I4 F4 I4 F4) ∧ ∀ (x_a : Option Addr) (x_n x_c : Nat) (k1 : Int) (m9 : Nat) (I5 : Imm) (F5 : Heap), Imm.le I4 I5 → Inv51 long_a long_n long_c i1 x_a x_n x_c k1 m9 I4 F4 I5 F5 → ((decide (k1 < 16) = true → Tri P 92 (#[vi (wr ((wr ((wr ((-1) - i1)) * 1000)) - k1))]) I5 (F5) fun e2 I6 G2 => ∃ (r1 : ByteArray), e2 = .returned (vs r1) ∧ ∃ F6 : Heap, List.Perm G2 (F6) ∧ ∀ (b : Nat) (I7 : Imm), Imm.le I6 I7 → I7 b = some (Obj.cells #[vs r1] 9 (0, 0)) → TriE P (Builtin.append_ #[54, 54] 54 #[vl x_a x_n x_c, vl (some ⟨b, 0, none⟩) 1 1]) I7 (F6) fun v I8 G3 => ∃ (r_a : Option Addr) (r_n r_c : Nat), v = vl r_a r_n r_c ∧ ∃ F7 : Heap, List.Perm G3 (F7) ∧ (∃ m10 : Nat, m10 < m9 ∧ Inv51 long_a long_n long_c i1 r_a r_n r_c (wr (k1 + 1)) m10 I4 F4 I8 F7)) ∧ (decide (k1 < 16) = false → ∀ (b1 : Nat) (I9 : Imm), Imm.le I5 I9 → I9 b1 = some (Obj.cells #[vl x_a x_n x_c] 54 (0, 0)) → TriE P (Builtin.append_ #[68, 68] 68 #[vl long_a long_n long_c, vl (some ⟨b1, 0, none⟩) 1 1]) I9 (F5) fun v1 I10 G4 => ∃ (r_a1 : Option Addr) (r_n1 r_c1 : Nat), v1 = vl r_a1 r_n1 r_c1 ∧ ∃ F8 : Heap, List.Perm G4 (F8) ∧ (∃ m11 : Nat, m11 < m7 ∧ Inv36 r_a1 r_n1 r_c1 (wr (i1 + 1)) m11 I1 F1 I10 F8))))) ∧ (decide (i1 < ((l_n : Nat) : Int)) = false → (∃ m12 : Nat, Inv68 long_a long_n long_c false 0 m12 I4 F4 I4 F4) ∧ ∀ (x : Bool) (i2 : Int) (m13 : Nat) (I11 : Imm) (F9 : Heap), Imm.le I4 I11 → Inv68 long_a long_n long_c x i2 m13 I4 F4 I11 F9 → ((decide (i2 < ((l_n : Nat) : Int)) = true → ((0 ≤ i2 ∧ i2 < (l_n : Int)) ∧ ∃ ad4 : Addr, l_a = some ad4 ∧ ∃ (m_a3 : Option Addr) (m_n3 m_c3 : Nat), Rd I11 (F9) (ad4.add (Int.toNat (i2) * 1)) [vl m_a3 m_n3 m_c3] ∧ (∃ m14 : Nat, Inv83 long_a long_n long_c i2 ((m_n3 : Nat) : Int) x 0 m14 I11 F9 I11 F9) ∧ ∀ (x1 : Bool) (k2 : Int) (m15 : Nat) (I12 : Imm) (F10 : Heap), Imm.le I11 I12 → Inv83 long_a long_n long_c i2 ((m_n3 : Nat) : Int) x1 k2 m15 I11 F9 I12 F10 → ((decide (k2 < ((m_n3 : Nat) : Int)) = true → ((0 ≤ i2 ∧ i2 < (l_n : Int)) ∧ ∃ ad5 : Addr, l_a = some ad5 ∧ ∃ (m_a4 : Option Addr) (m_n4 m_c4 : Nat), Rd I12 (F10) (ad5.add (Int.toNat (i2) * 1)) [vl m_a4 m_n4 m_c4] ∧ ((0 ≤ k2 ∧ k2 < (m_n4 : Int)) ∧ ∃ ad6 : Addr, m_a4 = some ad6 ∧ ∃ (m16 : ByteArray), Rd I12 (F10) (ad6.add (Int.toNat (k2) * 1)) [vs m16] ∧ ∃ (r2 : ByteArray), (Tri P 92 (#[vi (wr ((wr (i2 * 1000)) + k2))]) I12 (F10) fun e3 I13 G5 => e3 = .returned (vs r2) ∧ List.Perm G5 (F10)) ∧ (((!(m16.toList == r2.toList)) = true → Q (.returned (vt false)) I12 (F10)) ∧ ((!(m16.toList == r2.toList)) = false → ((0 ≤ i2 ∧ i2 < (long_n : Int)) ∧ ∃ ad7 : Addr, long_a = some ad7 ∧ ∃ (m_a5 : Option Addr) (m_n5 m_c5 : Nat), Rd I12 (F10) (ad7.add (Int.toNat (i2) * 1)) [vl m_a5 m_n5 m_c5] ∧ ((0 ≤ k2 ∧ k2 < (m_n5 : Int)) ∧ ∃ ad8 : Addr, m_a5 = some ad8 ∧ ∃ (m17 : ByteArray), Rd I12 (F10) (ad8.add (Int.toNat (k2) * 1)) [vs m17] ∧ ∃ (r3 : ByteArray), (Tri P 92 (#[vi (wr ((wr (i2 * 1000)) + k2))]) I12 (F10) fun e4 I14 G6 => e4 = .returned (vs r3) ∧ List.Perm G6 (F10)) ∧ (((!(m17.toList == r3.toList)) = true → Q (.returned (vt false)) I12 (F10)) ∧ ((!(m17.toList == r3.toList)) = false → (∃ m18 : Nat, m18 < m15 ∧ Inv83 long_a long_n long_c i2 ((m_n3 : Nat) : Int) x1 (wr (k2 + 1)) m18 I11 F9 I12 F10)))))))))) ∧ (decide (k2 < ((m_n3 : Nat) : Int)) = false → (∃ m19 : Nat, Inv103 long_a long_n long_c i2 ((m_n3 : Nat) : Int) x1 0 m19 I12 F10 I12 F10) ∧ ∀ (x2 : Bool) (k3 : Int) (m20 : Nat) (I15 : Imm) (F11 : Heap), Imm.le I12 I15 → Inv103 long_a long_n long_c i2 ((m_n3 : Nat) : Int) x2 k3 m20 I12 F10 I15 F11 → ((decide (k3 < 16) = true → ((0 ≤ i2 ∧ i2 < (long_n : Int)) ∧ ∃ ad9 : Addr, long_a = some ad9 ∧ ∃ (m_a6 : Option Addr) (m_n6 m_c6 : Nat), Rd I15 (F11) (ad9.add (Int.toNat (i2) * 1)) [vl m_a6 m_n6 m_c6] ∧ ((0 ≤ (wr (((m_n3 : Nat) : Int) + k3)) ∧ (wr (((m_n3 : Nat) : Int) + k3)) < (m_n6 : Int)) ∧ ∃ ad10 : Addr, m_a6 = some ad10 ∧ ∃ (m21 : ByteArray), Rd I15 (F11) (ad10.add (Int.toNat (wr (((m_n3 : Nat) : Int) + k3)) * 1)) [vs m21] ∧ ∃ (r4 : ByteArray), (Tri P 92 (#[vi (wr ((wr ((wr ((-1) - i2)) * 1000)) - k3))]) I15 (F11) fun e5 I16 G7 => e5 = .returned (vs r4) ∧ List.Perm G7 (F11)) ∧ (((!(m21.toList == r4.toList)) = true → Q (.returned (vt false)) I15 (F11)) ∧ ((!(m21.toList == r4.toList)) = false → (∃ m22 : Nat, m22 < m20 ∧ Inv103 long_a long_n long_c i2 ((m_n3 : Nat) : Int) x2 (wr (k3 + 1)) m22 I12 F10 I15 F11)))))) ∧ (decide (k3 < 16) = false → (∃ m23 : Nat, m23 < m13 ∧ Inv68 long_a long_n long_c x2 (wr (i2 + 1)) m23 I4 F4 I15 F11))))))) ∧ (decide (i2 < ((l_n : Nat) : Int)) = false → Q (.returned (vt true)) I11 (F9)))))))
set_option maxRecDepth 100000 in
theorem ref00_ownTexts.vc {l_a : Option Addr} {l_n l_c : Nat} {I : Imm} {F : Heap} {Q : PostQ} (Inv6 : Int → Nat → Imm → Heap → Imm → Heap → Prop) (Inv18 : Int → Int → Nat → Imm → Heap → Imm → Heap → Prop) (Inv36 : Option Addr → Nat → Nat → Int → Nat → Imm → Heap → Imm → Heap → Prop) (Inv51 : Option Addr → Nat → Nat → Int → Option Addr → Nat → Nat → Int → Nat → Imm → Heap → Imm → Heap → Prop) (Inv68 : Option Addr → Nat → Nat → Bool → Int → Nat → Imm → Heap → Imm → Heap → Prop) (Inv83 : Option Addr → Nat → Nat → Int → Int → Bool → Int → Nat → Imm → Heap → Imm → Heap → Prop) (Inv103 : Option Addr → Nat → Nat → Int → Int → Bool → Int → Nat → Imm → Heap → Imm → Heap → Prop) (h : ref00_ownTexts.V (.int .i64) .string .slice .bool (IntKind.wrap .i64) l_a l_n l_c I F Q Inv6 Inv18 Inv36 Inv51 Inv68 Inv83 Inv103) : Tri P 75 #[Value.slice l_a l_n l_c] I (F) Q :=
  tri_of_V (A := (annL [2003, 5006, 10003, 14001, 19003, 23002, 25012, 25026, 28001, 30015] [] [92] shT_o3 [(6, ⟨[(3, (.int .i64))], [], fun fs I0 F0 vs m I F => match fs, vs with | [], [.int _ y0] => Inv6 y0 m I0 F0 I F | _, _ => False, [], []⟩), (18, ⟨[(4, (.int .i64))], [], fun fs I0 F0 vs m I F => match fs, vs with | [.int _ y0], [.int _ y1] => Inv18 y0 y1 m I0 F0 I F | _, _ => False, [3], []⟩), (36, ⟨[(5, .slc), (6, (.int .i64))], [], fun fs I0 F0 vs m I F => match fs, vs with | [], [.slice y0 y1 y2, .int _ y3] => Inv36 y0 y1 y2 y3 m I0 F0 I F | _, _ => False, [], []⟩), (51, ⟨[(7, .slc), (8, (.int .i64))], [], fun fs I0 F0 vs m I F => match fs, vs with | [.slice y0 y1 y2, .int _ y3], [.slice y4 y5 y6, .int _ y7] => Inv51 y0 y1 y2 y3 y4 y5 y6 y7 m I0 F0 I F | _, _ => False, [5, 6], []⟩), (68, ⟨[(2, .bool), (9, (.int .i64))], [], fun fs I0 F0 vs m I F => match fs, vs with | [.slice y0 y1 y2], [.bool y3, .int _ y4] => Inv68 y0 y1 y2 y3 y4 m I0 F0 I F | _, _ => False, [5], []⟩), (83, ⟨[(2, .bool), (11, (.int .i64))], [], fun fs I0 F0 vs m I F => match fs, vs with | [.slice y0 y1 y2, .int _ y3, .int _ y4], [.bool y5, .int _ y6] => Inv83 y0 y1 y2 y3 y4 y5 y6 m I0 F0 I F | _, _ => False, [5, 9, 10], []⟩), (103, ⟨[(2, .bool), (12, (.int .i64))], [], fun fs I0 F0 vs m I F => match fs, vs with | [.slice y0 y1 y2, .int _ y3, .int _ y4], [.bool y5, .int _ y6] => Inv103 y0 y1 y2 y3 y4 y5 y6 m I0 F0 I F | _, _ => False, [5, 9, 10], []⟩)] [16007, 17002] [] [(7, 11, [])] [] [] [])) (args := [.a (.v (Value.slice l_a l_n l_c))]) (own := []) (keep := []) [92] Go.Proofs.Try.func75 h (by kernel_rfl) (by kernel_rfl) (by kernel_rfl) (by kernel_rfl) (by kernel_rfl) (by simp [AV.wf, At.wf]) (by simp [AV.wf, At.wf]) rfl
set_option maxRecDepth 100000 in
def ref00_ownInts.V (vi : Int → Value) (vl : Option Addr → Nat → Nat → Value) (vt : Bool → Value) (wr : Int → Int) (l_a : Option Addr) (l_n l_c : Nat) (I : Imm) (F : Heap) (Q : PostQ) (Inv6 : Int → Nat → Imm → Heap → Imm → Heap → Prop) (Inv18 : Int → Int → Nat → Imm → Heap → Imm → Heap → Prop) (Inv36 : Option Addr → Nat → Nat → Int → Nat → Imm → Heap → Imm → Heap → Prop) (Inv51 : Option Addr → Nat → Nat → Int → Option Addr → Nat → Nat → Int → Nat → Imm → Heap → Imm → Heap → Prop) (Inv68 : Option Addr → Nat → Nat → Bool → Int → Nat → Imm → Heap → Imm → Heap → Prop) (Inv83 : Option Addr → Nat → Nat → Int → Int → Bool → Int → Nat → Imm → Heap → Imm → Heap → Prop) (Inv103 : Option Addr → Nat → Nat → Int → Int → Bool → Int → Nat → Imm → Heap → Imm → Heap → Prop) : Prop := (∃ m : Nat, Inv6 0 m I F I F) ∧ ∀ (i : Int) (m1 : Nat) (I1 : Imm) (F1 : Heap), Imm.le I I1 → Inv6 i m1 I F I1 F1 → ((decide (i < ((l_n : Nat) : Int)) = true → (∃ m2 : Nat, Inv18 i 0 m2 I1 F1 I1 F1) ∧ ∀ (k : Int) (m3 : Nat) (I2 : Imm) (F2 : Heap), Imm.le I1 I2 → Inv18 i k m3 I1 F1 I2 F2 → ((0 ≤ i ∧ i < (l_n : Int)) ∧ ∃ ad : Addr, l_a = some ad ∧ ∃ (m_a : Option Addr) (m_n m_c : Nat), Rd I2 (F2) (ad.add (Int.toNat (i) * 1)) [vl m_a m_n m_c] ∧ ((decide (k < ((m_n : Nat) : Int)) = true → ((0 ≤ i ∧ i < (l_n : Int)) ∧ ∃ ad1 : Addr, l_a = some ad1 ∧ ∃ (m_a1 : Option Addr) (m_n1 m_c1 : Nat), Rd I2 (F2) (ad1.add (Int.toNat (i) * 1)) [vl m_a1 m_n1 m_c1] ∧ ((0 ≤ k ∧ k < (m_n1 : Int)) ∧ ∃ ad2 : Addr, m_a1 = some ad2 ∧ ∃ (cs : List Value) (el : Nat) (F3 : Heap), List.Perm F2 (((ad2.add (Int.toNat (k) * 1)).block, Obj.cells cs.toArray el (0, 0)) :: F3) ∧ (ad2.add (Int.toNat (k) * 1)).spot = none ∧ (ad2.add (Int.toNat (k) * 1)).off + 1 ≤ cs.length ∧ (∃ m4 : Nat, m4 < m3 ∧ Inv18 i (wr (k + 1)) m4 I1 F1 I2 (((ad2.add (Int.toNat (k) * 1)).block, Obj.cells (splice (ad2.add (Int.toNat (k) * 1)).off [vi (wr ((wr (i * 1000)) + k))] cs).toArray el (0, 0)) :: F3))))) ∧ (decide (k < ((m_n : Nat) : Int)) = false → (∃ m5 : Nat, m5 < m1 ∧ Inv6 (wr (i + 1)) m5 I F I2 F2))))) ∧ (decide (i < ((l_n : Nat) : Int)) = false → (∃ m6 : Nat, Inv36 none 0 0 0 m6 I1 F1 I1 F1) ∧ ∀ (long_a : Option Addr) (long_n long_c : Nat) (i1 : Int) (m7 : Nat) (I3 : Imm) (F4 : Heap), Imm.le I1 I3 → Inv36 long_a long_n long_c i1 m7 I1 F1 I3 F4 → ((decide (i1 < ((l_n : Nat) : Int)) = true → ((0 ≤ i1 ∧ i1 < (l_n : Int)) ∧ ∃ ad3 : Addr, l_a = some ad3 ∧ ∃ (m_a2 : Option Addr) (m_n2 m_c2 : Nat), Rd I3 (F4) (ad3.add (Int.toNat (i1) * 1)) [vl m_a2 m_n2 m_c2] ∧ (∃ m8 : Nat, Inv51 long_a long_n long_c i1 m_a2 m_n2 m_c2 0 m8 I3 F4 I3 F4) ∧ ∀ (x_a : Option Addr) (x_n x_c : Nat) (k1 : Int) (m9 : Nat) (I4 : Imm) (F5 : Heap), Imm.le I3 I4 → Inv51 long_a long_n long_c i1 x_a x_n x_c k1 m9 I3 F4 I4 F5 → ((decide (k1 < 16) = true → ∀ (b : Nat) (I5 : Imm), Imm.le I4 I5 → I5 b = some (Obj.cells #[vi (wr ((wr ((wr ((-1) - i1)) * 1000)) - k1))] 3 (0, 0)) → TriE P (Builtin.append_ #[159, 159] 159 #[vl x_a x_n x_c, vl (some ⟨b, 0, none⟩) 1 1]) I5 (F5) fun v I6 G1 => ∃ (r_a : Option Addr) (r_n r_c : Nat), v = vl r_a r_n r_c ∧ ∃ F6 : Heap, List.Perm G1 (F6) ∧ (∃ m10 : Nat, m10 < m9 ∧ Inv51 long_a long_n long_c i1 r_a r_n r_c (wr (k1 + 1)) m10 I3 F4 I6 F6)) ∧ (decide (k1 < 16) = false → ∀ (b1 : Nat) (I7 : Imm), Imm.le I4 I7 → I7 b1 = some (Obj.cells #[vl x_a x_n x_c] 159 (0, 0)) → TriE P (Builtin.append_ #[59, 59] 59 #[vl long_a long_n long_c, vl (some ⟨b1, 0, none⟩) 1 1]) I7 (F5) fun v1 I8 G2 => ∃ (r_a1 : Option Addr) (r_n1 r_c1 : Nat), v1 = vl r_a1 r_n1 r_c1 ∧ ∃ F7 : Heap, List.Perm G2 (F7) ∧ (∃ m11 : Nat, m11 < m7 ∧ Inv36 r_a1 r_n1 r_c1 (wr (i1 + 1)) m11 I1 F1 I8 F7))))) ∧ (decide (i1 < ((l_n : Nat) : Int)) = false → (∃ m12 : Nat, Inv68 long_a long_n long_c false 0 m12 I3 F4 I3 F4) ∧ ∀ (x : Bool) (i2 : Int) (m13 : Nat) (I9 : Imm) (F8 : Heap), Imm.le I3 I9 → Inv68 long_a long_n long_c x i2 m13 I3 F4 I9 F8 → ((decide (i2 < ((l_n : Nat) : Int)) = true → ((0 ≤ i2 ∧ i2 < (l_n : Int)) ∧ ∃ ad4 : Addr, l_a = some ad4 ∧ ∃ (m_a3 : Option Addr) (m_n3 m_c3 : Nat), Rd I9 (F8) (ad4.add (Int.toNat (i2) * 1)) [vl m_a3 m_n3 m_c3] ∧ (∃ m14 : Nat, Inv83 long_a long_n long_c i2 ((m_n3 : Nat) : Int) x 0 m14 I9 F8 I9 F8) ∧ ∀ (x1 : Bool) (k2 : Int) (m15 : Nat) (I10 : Imm) (F9 : Heap), Imm.le I9 I10 → Inv83 long_a long_n long_c i2 ((m_n3 : Nat) : Int) x1 k2 m15 I9 F8 I10 F9 → ((decide (k2 < ((m_n3 : Nat) : Int)) = true → ((0 ≤ i2 ∧ i2 < (l_n : Int)) ∧ ∃ ad5 : Addr, l_a = some ad5 ∧ ∃ (m_a4 : Option Addr) (m_n4 m_c4 : Nat), Rd I10 (F9) (ad5.add (Int.toNat (i2) * 1)) [vl m_a4 m_n4 m_c4] ∧ ((0 ≤ k2 ∧ k2 < (m_n4 : Int)) ∧ ∃ ad6 : Addr, m_a4 = some ad6 ∧ ∃ (m16 : Int), Rd I10 (F9) (ad6.add (Int.toNat (k2) * 1)) [vi m16] ∧ (((m16 != (wr ((wr (i2 * 1000)) + k2))) = true → Q (.returned (vt false)) I10 (F9)) ∧ ((m16 != (wr ((wr (i2 * 1000)) + k2))) = false → ((0 ≤ i2 ∧ i2 < (long_n : Int)) ∧ ∃ ad7 : Addr, long_a = some ad7 ∧ ∃ (m_a5 : Option Addr) (m_n5 m_c5 : Nat), Rd I10 (F9) (ad7.add (Int.toNat (i2) * 1)) [vl m_a5 m_n5 m_c5] ∧ ((0 ≤ k2 ∧ k2 < (m_n5 : Int)) ∧ ∃ ad8 : Addr, m_a5 = some ad8 ∧ ∃ (m17 : Int), Rd I10 (F9) (ad8.add (Int.toNat (k2) * 1)) [vi m17] ∧ (((m17 != (wr ((wr (i2 * 1000)) + k2))) = true → Q (.returned (vt false)) I10 (F9)) ∧ ((m17 != (wr ((wr (i2 * 1000)) + k2))) = false → (∃ m18 : Nat, m18 < m15 ∧ Inv83 long_a long_n long_c i2 ((m_n3 : Nat) : Int) x1 (wr (k2 + 1)) m18 I9 F8 I10 F9)))))))))) ∧ (decide (k2 < ((m_n3 : Nat) : Int)) = false → (∃ m19 : Nat, Inv103 long_a long_n long_c i2 ((m_n3 : Nat) : Int) x1 0 m19 I10 F9 I10 F9) ∧ ∀ (x2 : Bool) (k3 : Int) (m20 : Nat) (I11 : Imm) (F10 : Heap), Imm.le I10 I11 → Inv103 long_a long_n long_c i2 ((m_n3 : Nat) : Int) x2 k3 m20 I10 F9 I11 F10 → ((decide (k3 < 16) = true → ((0 ≤ i2 ∧ i2 < (long_n : Int)) ∧ ∃ ad9 : Addr, long_a = some ad9 ∧ ∃ (m_a6 : Option Addr) (m_n6 m_c6 : Nat), Rd I11 (F10) (ad9.add (Int.toNat (i2) * 1)) [vl m_a6 m_n6 m_c6] ∧ ((0 ≤ (wr (((m_n3 : Nat) : Int) + k3)) ∧ (wr (((m_n3 : Nat) : Int) + k3)) < (m_n6 : Int)) ∧ ∃ ad10 : Addr, m_a6 = some ad10 ∧ ∃ (m21 : Int), Rd I11 (F10) (ad10.add (Int.toNat (wr (((m_n3 : Nat) : Int) + k3)) * 1)) [vi m21] ∧ (((m21 != (wr ((wr ((wr ((-1) - i2)) * 1000)) - k3))) = true → Q (.returned (vt false)) I11 (F10)) ∧ ((m21 != (wr ((wr ((wr ((-1) - i2)) * 1000)) - k3))) = false → (∃ m22 : Nat, m22 < m20 ∧ Inv103 long_a long_n long_c i2 ((m_n3 : Nat) : Int) x2 (wr (k3 + 1)) m22 I10 F9 I11 F10)))))) ∧ (decide (k3 < 16) = false → (∃ m23 : Nat, m23 < m13 ∧ Inv68 long_a long_n long_c x2 (wr (i2 + 1)) m23 I3 F4 I11 F10))))))) ∧ (decide (i2 < ((l_n : Nat) : Int)) = false → Q (.returned (vt true)) I9 (F8)))))))
set_option maxRecDepth 100000 in
theorem ref00_ownInts.vc {l_a : Option Addr} {l_n l_c : Nat} {I : Imm} {F : Heap} {Q : PostQ} (Inv6 : Int → Nat → Imm → Heap → Imm → Heap → Prop) (Inv18 : Int → Int → Nat → Imm → Heap → Imm → Heap → Prop) (Inv36 : Option Addr → Nat → Nat → Int → Nat → Imm → Heap → Imm → Heap → Prop) (Inv51 : Option Addr → Nat → Nat → Int → Option Addr → Nat → Nat → Int → Nat → Imm → Heap → Imm → Heap → Prop) (Inv68 : Option Addr → Nat → Nat → Bool → Int → Nat → Imm → Heap → Imm → Heap → Prop) (Inv83 : Option Addr → Nat → Nat → Int → Int → Bool → Int → Nat → Imm → Heap → Imm → Heap → Prop) (Inv103 : Option Addr → Nat → Nat → Int → Int → Bool → Int → Nat → Imm → Heap → Imm → Heap → Prop) (h : ref00_ownInts.V (.int .i64) .slice .bool (IntKind.wrap .i64) l_a l_n l_c I F Q Inv6 Inv18 Inv36 Inv51 Inv68 Inv83 Inv103) : Tri P 66 #[Value.slice l_a l_n l_c] I (F) Q :=
  tri_of_V (A := (annL [2003, 5006, 10003, 14001, 19003, 23002, 25011, 25024, 28001, 30014] [] [] shT_o3 [(6, ⟨[(3, (.int .i64))], [], fun fs I0 F0 vs m I F => match fs, vs with | [], [.int _ y0] => Inv6 y0 m I0 F0 I F | _, _ => False, [], []⟩), (18, ⟨[(4, (.int .i64))], [], fun fs I0 F0 vs m I F => match fs, vs with | [.int _ y0], [.int _ y1] => Inv18 y0 y1 m I0 F0 I F | _, _ => False, [3], []⟩), (36, ⟨[(5, .slc), (6, (.int .i64))], [], fun fs I0 F0 vs m I F => match fs, vs with | [], [.slice y0 y1 y2, .int _ y3] => Inv36 y0 y1 y2 y3 m I0 F0 I F | _, _ => False, [], []⟩), (51, ⟨[(7, .slc), (8, (.int .i64))], [], fun fs I0 F0 vs m I F => match fs, vs with | [.slice y0 y1 y2, .int _ y3], [.slice y4 y5 y6, .int _ y7] => Inv51 y0 y1 y2 y3 y4 y5 y6 y7 m I0 F0 I F | _, _ => False, [5, 6], []⟩), (68, ⟨[(2, .bool), (9, (.int .i64))], [], fun fs I0 F0 vs m I F => match fs, vs with | [.slice y0 y1 y2], [.bool y3, .int _ y4] => Inv68 y0 y1 y2 y3 y4 m I0 F0 I F | _, _ => False, [5], []⟩), (83, ⟨[(2, .bool), (11, (.int .i64))], [], fun fs I0 F0 vs m I F => match fs, vs with | [.slice y0 y1 y2, .int _ y3, .int _ y4], [.bool y5, .int _ y6] => Inv83 y0 y1 y2 y3 y4 y5 y6 m I0 F0 I F | _, _ => False, [5, 9, 10], []⟩), (103, ⟨[(2, .bool), (12, (.int .i64))], [], fun fs I0 F0 vs m I F => match fs, vs with | [.slice y0 y1 y2, .int _ y3, .int _ y4], [.bool y5, .int _ y6] => Inv103 y0 y1 y2 y3 y4 y5 y6 m I0 F0 I F | _, _ => False, [5, 9, 10], []⟩)] [16006, 17002] [] [] [] [] [])) (args := [.a (.v (Value.slice l_a l_n l_c))]) (own := []) (keep := []) [] Go.Proofs.Try.func66 h (by kernel_rfl) (by kernel_rfl) (by kernel_rfl) (by kernel_rfl) (by kernel_rfl) (by simp [AV.wf, At.wf]) (by simp [AV.wf, At.wf]) rfl
set_option maxRecDepth 100000 in
def ref00_ownNumbers.V (vu64 : Int → Value) (vl : Option Addr → Nat → Nat → Value) (vt : Bool → Value) (wr : Int → Int) (l_a : Option Addr) (l_n l_c : Nat) (I : Imm) (F : Heap) (Q : PostQ) (Inv6 : Int → Nat → Imm → Heap → Imm → Heap → Prop) (Inv18 : Int → Int → Nat → Imm → Heap → Imm → Heap → Prop) (Inv36 : Option Addr → Nat → Nat → Int → Nat → Imm → Heap → Imm → Heap → Prop) (Inv51 : Option Addr → Nat → Nat → Int → Option Addr → Nat → Nat → Int → Nat → Imm → Heap → Imm → Heap → Prop) (Inv68 : Option Addr → Nat → Nat → Bool → Int → Nat → Imm → Heap → Imm → Heap → Prop) (Inv83 : Option Addr → Nat → Nat → Int → Int → Bool → Int → Nat → Imm → Heap → Imm → Heap → Prop) (Inv103 : Option Addr → Nat → Nat → Int → Int → Bool → Int → Nat → Imm → Heap → Imm → Heap → Prop) : Prop := (∃ m : Nat, Inv6 0 m I F I F) ∧ ∀ (i : Int) (m1 : Nat) (I1 : Imm) (F1 : Heap), Imm.le I I1 → Inv6 i m1 I F I1 F1 → ((decide (i < ((l_n : Nat) : Int)) = true → (∃ m2 : Nat, Inv18 i 0 m2 I1 F1 I1 F1) ∧ ∀ (k : Int) (m3 : Nat) (I2 : Imm) (F2 : Heap), Imm.le I1 I2 → Inv18 i k m3 I1 F1 I2 F2 → ((0 ≤ i ∧ i < (l_n : Int)) ∧ ∃ ad : Addr, l_a = some ad ∧ ∃ (m_a : Option Addr) (m_n m_c : Nat), Rd I2 (F2) (ad.add (Int.toNat (i) * 1)) [vl m_a m_n m_c] ∧ ((decide (k < ((m_n : Nat) : Int)) = true → ((0 ≤ i ∧ i < (l_n : Int)) ∧ ∃ ad1 : Addr, l_a = some ad1 ∧ ∃ (m_a1 : Option Addr) (m_n1 m_c1 : Nat), Rd I2 (F2) (ad1.add (Int.toNat (i) * 1)) [vl m_a1 m_n1 m_c1] ∧ ((0 ≤ k ∧ k < (m_n1 : Int)) ∧ ∃ ad2 : Addr, m_a1 = some ad2 ∧ ∃ (cs : List Value) (el : Nat) (F3 : Heap), List.Perm F2 (((ad2.add (Int.toNat (k) * 1)).block, Obj.cells cs.toArray el (0, 0)) :: F3) ∧ (ad2.add (Int.toNat (k) * 1)).spot = none ∧ (ad2.add (Int.toNat (k) * 1)).off + 1 ≤ cs.length ∧ (∃ m4 : Nat, m4 < m3 ∧ Inv18 i (wr (k + 1)) m4 I1 F1 I2 (((ad2.add (Int.toNat (k) * 1)).block, Obj.cells (splice (ad2.add (Int.toNat (k) * 1)).off [vu64 (IntKind.wrap .u64 (wr ((wr ((wr (i * 1000)) + k)) + 9000000)))] cs).toArray el (0, 0)) :: F3))))) ∧ (decide (k < ((m_n : Nat) : Int)) = false → (∃ m5 : Nat, m5 < m1 ∧ Inv6 (wr (i + 1)) m5 I F I2 F2))))) ∧ (decide (i < ((l_n : Nat) : Int)) = false → (∃ m6 : Nat, Inv36 none 0 0 0 m6 I1 F1 I1 F1) ∧ ∀ (long_a : Option Addr) (long_n long_c : Nat) (i1 : Int) (m7 : Nat) (I3 : Imm) (F4 : Heap), Imm.le I1 I3 → Inv36 long_a long_n long_c i1 m7 I1 F1 I3 F4 → ((decide (i1 < ((l_n : Nat) : Int)) = true → ((0 ≤ i1 ∧ i1 < (l_n : Int)) ∧ ∃ ad3 : Addr, l_a = some ad3 ∧ ∃ (m_a2 : Option Addr) (m_n2 m_c2 : Nat), Rd I3 (F4) (ad3.add (Int.toNat (i1) * 1)) [vl m_a2 m_n2 m_c2] ∧ (∃ m8 : Nat, Inv51 long_a long_n long_c i1 m_a2 m_n2 m_c2 0 m8 I3 F4 I3 F4) ∧ ∀ (x_a : Option Addr) (x_n x_c : Nat) (k1 : Int) (m9 : Nat) (I4 : Imm) (F5 : Heap), Imm.le I3 I4 → Inv51 long_a long_n long_c i1 x_a x_n x_c k1 m9 I3 F4 I4 F5 → ((decide (k1 < 16) = true → ∀ (b : Nat) (I5 : Imm), Imm.le I4 I5 → I5 b = some (Obj.cells #[vu64 (IntKind.wrap .u64 (wr ((wr ((wr ((wr ((-1) - i1)) * 1000)) - k1)) + 9000000)))] 161 (0, 0)) → TriE P (Builtin.append_ #[160, 160] 160 #[vl x_a x_n x_c, vl (some ⟨b, 0, none⟩) 1 1]) I5 (F5) fun v I6 G1 => ∃ (r_a : Option Addr) (r_n r_c : Nat), v = vl r_a r_n r_c ∧ ∃ F6 : Heap, List.Perm G1 (F6) ∧ (∃ m10 : Nat, m10 < m9 ∧ Inv51 long_a long_n long_c i1 r_a r_n r_c (wr (k1 + 1)) m10 I3 F4 I6 F6)) ∧ (decide (k1 < 16) = false → ∀ (b1 : Nat) (I7 : Imm), Imm.le I4 I7 → I7 b1 = some (Obj.cells #[vl x_a x_n x_c] 160 (0, 0)) → TriE P (Builtin.append_ #[60, 60] 60 #[vl long_a long_n long_c, vl (some ⟨b1, 0, none⟩) 1 1]) I7 (F5) fun v1 I8 G2 => ∃ (r_a1 : Option Addr) (r_n1 r_c1 : Nat), v1 = vl r_a1 r_n1 r_c1 ∧ ∃ F7 : Heap, List.Perm G2 (F7) ∧ (∃ m11 : Nat, m11 < m7 ∧ Inv36 r_a1 r_n1 r_c1 (wr (i1 + 1)) m11 I1 F1 I8 F7))))) ∧ (decide (i1 < ((l_n : Nat) : Int)) = false → (∃ m12 : Nat, Inv68 long_a long_n long_c false 0 m12 I3 F4 I3 F4) ∧ ∀ (x : Bool) (i2 : Int) (m13 : Nat) (I9 : Imm) (F8 : Heap), Imm.le I3 I9 → Inv68 long_a long_n long_c x i2 m13 I3 F4 I9 F8 → ((decide (i2 < ((l_n : Nat) : Int)) = true → ((0 ≤ i2 ∧ i2 < (l_n : Int)) ∧ ∃ ad4 : Addr, l_a = some ad4 ∧ ∃ (m_a3 : Option Addr) (m_n3 m_c3 : Nat), Rd I9 (F8) (ad4.add (Int.toNat (i2) * 1)) [vl m_a3 m_n3 m_c3] ∧ (∃ m14 : Nat, Inv83 long_a long_n long_c i2 ((m_n3 : Nat) : Int) x 0 m14 I9 F8 I9 F8) ∧ ∀ (x1 : Bool) (k2 : Int) (m15 : Nat) (I10 : Imm) (F9 : Heap), Imm.le I9 I10 → Inv83 long_a long_n long_c i2 ((m_n3 : Nat) : Int) x1 k2 m15 I9 F8 I10 F9 → ((decide (k2 < ((m_n3 : Nat) : Int)) = true → ((0 ≤ i2 ∧ i2 < (l_n : Int)) ∧ ∃ ad5 : Addr, l_a = some ad5 ∧ ∃ (m_a4 : Option Addr) (m_n4 m_c4 : Nat), Rd I10 (F9) (ad5.add (Int.toNat (i2) * 1)) [vl m_a4 m_n4 m_c4] ∧ ((0 ≤ k2 ∧ k2 < (m_n4 : Int)) ∧ ∃ ad6 : Addr, m_a4 = some ad6 ∧ ∃ (m16 : Int), Rd I10 (F9) (ad6.add (Int.toNat (k2) * 1)) [vu64 m16] ∧ (((m16 != (IntKind.wrap .u64 (wr ((wr ((wr (i2 * 1000)) + k2)) + 9000000)))) = true → Q (.returned (vt false)) I10 (F9)) ∧ ((m16 != (IntKind.wrap .u64 (wr ((wr ((wr (i2 * 1000)) + k2)) + 9000000)))) = false → ((0 ≤ i2 ∧ i2 < (long_n : Int)) ∧ ∃ ad7 : Addr, long_a = some ad7 ∧ ∃ (m_a5 : Option Addr) (m_n5 m_c5 : Nat), Rd I10 (F9) (ad7.add (Int.toNat (i2) * 1)) [vl m_a5 m_n5 m_c5] ∧ ((0 ≤ k2 ∧ k2 < (m_n5 : Int)) ∧ ∃ ad8 : Addr, m_a5 = some ad8 ∧ ∃ (m17 : Int), Rd I10 (F9) (ad8.add (Int.toNat (k2) * 1)) [vu64 m17] ∧ (((m17 != (IntKind.wrap .u64 (wr ((wr ((wr (i2 * 1000)) + k2)) + 9000000)))) = true → Q (.returned (vt false)) I10 (F9)) ∧ ((m17 != (IntKind.wrap .u64 (wr ((wr ((wr (i2 * 1000)) + k2)) + 9000000)))) = false → (∃ m18 : Nat, m18 < m15 ∧ Inv83 long_a long_n long_c i2 ((m_n3 : Nat) : Int) x1 (wr (k2 + 1)) m18 I9 F8 I10 F9)))))))))) ∧ (decide (k2 < ((m_n3 : Nat) : Int)) = false → (∃ m19 : Nat, Inv103 long_a long_n long_c i2 ((m_n3 : Nat) : Int) x1 0 m19 I10 F9 I10 F9) ∧ ∀ (x2 : Bool) (k3 : Int) (m20 : Nat) (I11 : Imm) (F10 : Heap), Imm.le I10 I11 → Inv103 long_a long_n long_c i2 ((m_n3 : Nat) : Int) x2 k3 m20 I10 F9 I11 F10 → ((decide (k3 < 16) = true → ((0 ≤ i2 ∧ i2 < (long_n : Int)) ∧ ∃ ad9 : Addr, long_a = some ad9 ∧ ∃ (m_a6 : Option Addr) (m_n6 m_c6 : Nat), Rd I11 (F10) (ad9.add (Int.toNat (i2) * 1)) [vl m_a6 m_n6 m_c6] ∧ ((0 ≤ (wr (((m_n3 : Nat) : Int) + k3)) ∧ (wr (((m_n3 : Nat) : Int) + k3)) < (m_n6 : Int)) ∧ ∃ ad10 : Addr, m_a6 = some ad10 ∧ ∃ (m21 : Int), Rd I11 (F10) (ad10.add (Int.toNat (wr (((m_n3 : Nat) : Int) + k3)) * 1)) [vu64 m21] ∧ (((m21 != (IntKind.wrap .u64 (wr ((wr ((wr ((wr ((-1) - i2)) * 1000)) - k3)) + 9000000)))) = true → Q (.returned (vt false)) I11 (F10)) ∧ ((m21 != (IntKind.wrap .u64 (wr ((wr ((wr ((wr ((-1) - i2)) * 1000)) - k3)) + 9000000)))) = false → (∃ m22 : Nat, m22 < m20 ∧ Inv103 long_a long_n long_c i2 ((m_n3 : Nat) : Int) x2 (wr (k3 + 1)) m22 I10 F9 I11 F10)))))) ∧ (decide (k3 < 16) = false → (∃ m23 : Nat, m23 < m13 ∧ Inv68 long_a long_n long_c x2 (wr (i2 + 1)) m23 I3 F4 I11 F10))))))) ∧ (decide (i2 < ((l_n : Nat) : Int)) = false → Q (.returned (vt true)) I9 (F8)))))))
set_option maxRecDepth 100000 in
theorem ref00_ownNumbers.vc {l_a : Option Addr} {l_n l_c : Nat} {I : Imm} {F : Heap} {Q : PostQ} (Inv6 : Int → Nat → Imm → Heap → Imm → Heap → Prop) (Inv18 : Int → Int → Nat → Imm → Heap → Imm → Heap → Prop) (Inv36 : Option Addr → Nat → Nat → Int → Nat → Imm → Heap → Imm → Heap → Prop) (Inv51 : Option Addr → Nat → Nat → Int → Option Addr → Nat → Nat → Int → Nat → Imm → Heap → Imm → Heap → Prop) (Inv68 : Option Addr → Nat → Nat → Bool → Int → Nat → Imm → Heap → Imm → Heap → Prop) (Inv83 : Option Addr → Nat → Nat → Int → Int → Bool → Int → Nat → Imm → Heap → Imm → Heap → Prop) (Inv103 : Option Addr → Nat → Nat → Int → Int → Bool → Int → Nat → Imm → Heap → Imm → Heap → Prop) (h : ref00_ownNumbers.V (.int .u64) .slice .bool (IntKind.wrap .i64) l_a l_n l_c I F Q Inv6 Inv18 Inv36 Inv51 Inv68 Inv83 Inv103) : Tri P 67 #[Value.slice l_a l_n l_c] I (F) Q :=
  tri_of_V (A := (annL [2003, 5006, 10003, 14001, 19003, 23002, 25013, 25028, 28001, 30016] [] [] shT_o3 [(6, ⟨[(3, (.int .i64))], [], fun fs I0 F0 vs m I F => match fs, vs with | [], [.int _ y0] => Inv6 y0 m I0 F0 I F | _, _ => False, [], []⟩), (18, ⟨[(4, (.int .i64))], [], fun fs I0 F0 vs m I F => match fs, vs with | [.int _ y0], [.int _ y1] => Inv18 y0 y1 m I0 F0 I F | _, _ => False, [3], []⟩), (36, ⟨[(5, .slc), (6, (.int .i64))], [], fun fs I0 F0 vs m I F => match fs, vs with | [], [.slice y0 y1 y2, .int _ y3] => Inv36 y0 y1 y2 y3 m I0 F0 I F | _, _ => False, [], []⟩), (51, ⟨[(7, .slc), (8, (.int .i64))], [], fun fs I0 F0 vs m I F => match fs, vs with | [.slice y0 y1 y2, .int _ y3], [.slice y4 y5 y6, .int _ y7] => Inv51 y0 y1 y2 y3 y4 y5 y6 y7 m I0 F0 I F | _, _ => False, [5, 6], []⟩), (68, ⟨[(2, .bool), (9, (.int .i64))], [], fun fs I0 F0 vs m I F => match fs, vs with | [.slice y0 y1 y2], [.bool y3, .int _ y4] => Inv68 y0 y1 y2 y3 y4 m I0 F0 I F | _, _ => False, [5], []⟩), (83, ⟨[(2, .bool), (11, (.int .i64))], [], fun fs I0 F0 vs m I F => match fs, vs with | [.slice y0 y1 y2, .int _ y3, .int _ y4], [.bool y5, .int _ y6] => Inv83 y0 y1 y2 y3 y4 y5 y6 m I0 F0 I F | _, _ => False, [5, 9, 10], []⟩), (103, ⟨[(2, .bool), (12, (.int .i64))], [], fun fs I0 F0 vs m I F => match fs, vs with | [.slice y0 y1 y2, .int _ y3, .int _ y4], [.bool y5, .int _ y6] => Inv103 y0 y1 y2 y3 y4 y5 y6 m I0 F0 I F | _, _ => False, [5, 9, 10], []⟩)] [16008, 17002] [] [] [] [] [])) (args := [.a (.v (Value.slice l_a l_n l_c))]) (own := []) (keep := []) [] Go.Proofs.Try.func67 h (by kernel_rfl) (by kernel_rfl) (by kernel_rfl) (by kernel_rfl) (by kernel_rfl) (by simp [AV.wf, At.wf]) (by simp [AV.wf, At.wf]) rfl
set_option maxRecDepth 100000 in
def ref00_ownOrders.V (vb vi : Int → Value) (vl : Option Addr → Nat → Nat → Value) (vt : Bool → Value) (wr : Int → Int) (l_a : Option Addr) (l_n l_c : Nat) (I : Imm) (F : Heap) (Q : PostQ) (Inv6 : Int → Nat → Imm → Heap → Imm → Heap → Prop) (Inv18 : Int → Int → Nat → Imm → Heap → Imm → Heap → Prop) (Inv36 : Option Addr → Nat → Nat → Int → Nat → Imm → Heap → Imm → Heap → Prop) (Inv51 : Option Addr → Nat → Nat → Int → Option Addr → Nat → Nat → Int → Nat → Imm → Heap → Imm → Heap → Prop) (Inv68 : Option Addr → Nat → Nat → Bool → Int → Nat → Imm → Heap → Imm → Heap → Prop) (Inv83 : Option Addr → Nat → Nat → Int → Int → Bool → Int → Nat → Imm → Heap → Imm → Heap → Prop) (Inv103 : Option Addr → Nat → Nat → Int → Int → Bool → Int → Nat → Imm → Heap → Imm → Heap → Prop) : Prop := (∃ m : Nat, Inv6 0 m I F I F) ∧ ∀ (i : Int) (m1 : Nat) (I1 : Imm) (F1 : Heap), Imm.le I I1 → Inv6 i m1 I F I1 F1 → ((decide (i < ((l_n : Nat) : Int)) = true → (∃ m2 : Nat, Inv18 i 0 m2 I1 F1 I1 F1) ∧ ∀ (k : Int) (m3 : Nat) (I2 : Imm) (F2 : Heap), Imm.le I1 I2 → Inv18 i k m3 I1 F1 I2 F2 → ((0 ≤ i ∧ i < (l_n : Int)) ∧ ∃ ad : Addr, l_a = some ad ∧ ∃ (m_a : Option Addr) (m_n m_c : Nat), Rd I2 (F2) (ad.add (Int.toNat (i) * 1)) [vl m_a m_n m_c] ∧ ((decide (k < ((m_n : Nat) : Int)) = true → ((0 ≤ i ∧ i < (l_n : Int)) ∧ ∃ ad1 : Addr, l_a = some ad1 ∧ ∃ (m_a1 : Option Addr) (m_n1 m_c1 : Nat), Rd I2 (F2) (ad1.add (Int.toNat (i) * 1)) [vl m_a1 m_n1 m_c1] ∧ ((0 ≤ k ∧ k < (m_n1 : Int)) ∧ ∃ ad2 : Addr, m_a1 = some ad2 ∧ ∃ (cs : List Value) (el : Nat) (F3 : Heap), List.Perm F2 (((ad2.add (Int.toNat (k) * 5)).block, Obj.cells cs.toArray el (0, 0)) :: F3) ∧ (ad2.add (Int.toNat (k) * 5)).spot = none ∧ (ad2.add (Int.toNat (k) * 5)).off + 5 ≤ cs.length ∧ (∃ m4 : Nat, m4 < m3 ∧ Inv18 i (wr (k + 1)) m4 I1 F1 I2 (((ad2.add (Int.toNat (k) * 5)).block, Obj.cells (splice (ad2.add (Int.toNat (k) * 5)).off [vi (wr ((wr (i * 1000)) + k)), vi 0, vb 0, vi 0, vi 0] cs).toArray el (0, 0)) :: F3))))) ∧ (decide (k < ((m_n : Nat) : Int)) = false → (∃ m5 : Nat, m5 < m1 ∧ Inv6 (wr (i + 1)) m5 I F I2 F2))))) ∧ (decide (i < ((l_n : Nat) : Int)) = false → (∃ m6 : Nat, Inv36 none 0 0 0 m6 I1 F1 I1 F1) ∧ ∀ (long_a : Option Addr) (long_n long_c : Nat) (i1 : Int) (m7 : Nat) (I3 : Imm) (F4 : Heap), Imm.le I1 I3 → Inv36 long_a long_n long_c i1 m7 I1 F1 I3 F4 → ((decide (i1 < ((l_n : Nat) : Int)) = true → ((0 ≤ i1 ∧ i1 < (l_n : Int)) ∧ ∃ ad3 : Addr, l_a = some ad3 ∧ ∃ (m_a2 : Option Addr) (m_n2 m_c2 : Nat), Rd I3 (F4) (ad3.add (Int.toNat (i1) * 1)) [vl m_a2 m_n2 m_c2] ∧ (∃ m8 : Nat, Inv51 long_a long_n long_c i1 m_a2 m_n2 m_c2 0 m8 I3 F4 I3 F4) ∧ ∀ (x_a : Option Addr) (x_n x_c : Nat) (k1 : Int) (m9 : Nat) (I4 : Imm) (F5 : Heap), Imm.le I3 I4 → Inv51 long_a long_n long_c i1 x_a x_n x_c k1 m9 I3 F4 I4 F5 → ((decide (k1 < 16) = true → ∀ (b : Nat) (I5 : Imm), Imm.le I4 I5 → I5 b = some (Obj.cells #[vi (wr ((wr ((wr ((-1) - i1)) * 1000)) - k1)), vi 0, vb 0, vi 0, vi 0] 165 (0, 0)) → TriE P (Builtin.append_ #[162, 162] 162 #[vl x_a x_n x_c, vl (some ⟨b, 0, none⟩) 1 1]) I5 (F5) fun v I6 G1 => ∃ (r_a : Option Addr) (r_n r_c : Nat), v = vl r_a r_n r_c ∧ ∃ F6 : Heap, List.Perm G1 (F6) ∧ (∃ m10 : Nat, m10 < m9 ∧ Inv51 long_a long_n long_c i1 r_a r_n r_c (wr (k1 + 1)) m10 I3 F4 I6 F6)) ∧ (decide (k1 < 16) = false → ∀ (b1 : Nat) (I7 : Imm), Imm.le I4 I7 → I7 b1 = some (Obj.cells #[vl x_a x_n x_c] 162 (0, 0)) → TriE P (Builtin.append_ #[61, 61] 61 #[vl long_a long_n long_c, vl (some ⟨b1, 0, none⟩) 1 1]) I7 (F5) fun v1 I8 G2 => ∃ (r_a1 : Option Addr) (r_n1 r_c1 : Nat), v1 = vl r_a1 r_n1 r_c1 ∧ ∃ F7 : Heap, List.Perm G2 (F7) ∧ (∃ m11 : Nat, m11 < m7 ∧ Inv36 r_a1 r_n1 r_c1 (wr (i1 + 1)) m11 I1 F1 I8 F7))))) ∧ (decide (i1 < ((l_n : Nat) : Int)) = false → (∃ m12 : Nat, Inv68 long_a long_n long_c false 0 m12 I3 F4 I3 F4) ∧ ∀ (x : Bool) (i2 : Int) (m13 : Nat) (I9 : Imm) (F8 : Heap), Imm.le I3 I9 → Inv68 long_a long_n long_c x i2 m13 I3 F4 I9 F8 → ((decide (i2 < ((l_n : Nat) : Int)) = true → ((0 ≤ i2 ∧ i2 < (l_n : Int)) ∧ ∃ ad4 : Addr, l_a = some ad4 ∧ ∃ (m_a3 : Option Addr) (m_n3 m_c3 : Nat), Rd I9 (F8) (ad4.add (Int.toNat (i2) * 1)) [vl m_a3 m_n3 m_c3] ∧ (∃ m14 : Nat, Inv83 long_a long_n long_c i2 ((m_n3 : Nat) : Int) x 0 m14 I9 F8 I9 F8) ∧ ∀ (x1 : Bool) (k2 : Int) (m15 : Nat) (I10 : Imm) (F9 : Heap), Imm.le I9 I10 → Inv83 long_a long_n long_c i2 ((m_n3 : Nat) : Int) x1 k2 m15 I9 F8 I10 F9 → ((decide (k2 < ((m_n3 : Nat) : Int)) = true → ((0 ≤ i2 ∧ i2 < (l_n : Int)) ∧ ∃ ad5 : Addr, l_a = some ad5 ∧ ∃ (m_a4 : Option Addr) (m_n4 m_c4 : Nat), Rd I10 (F9) (ad5.add (Int.toNat (i2) * 1)) [vl m_a4 m_n4 m_c4] ∧ ((0 ≤ k2 ∧ k2 < (m_n4 : Int)) ∧ ∃ ad6 : Addr, m_a4 = some ad6 ∧ ∃ (m_0 m_1 m_2 m_3 m_4 : Int), Rd I10 (F9) (ad6.add (Int.toNat (k2) * 5)) [vi m_0, vi m_1, vb m_2, vi m_3, vi m_4] ∧ ∃ q : Bool, BinRun P .neq 165 (.tmp 88) (.tmp 93) (Value.agg #[vi m_0, vi m_1, vb m_2, vi m_3, vi m_4]) (Value.agg #[vi (wr ((wr (i2 * 1000)) + k2)), vi 0, vb 0, vi 0, vi 0]) q ∧ ((q = true → Q (.returned (vt false)) I10 (F9)) ∧ (q = false → ((0 ≤ i2 ∧ i2 < (long_n : Int)) ∧ ∃ ad7 : Addr, long_a = some ad7 ∧ ∃ (m_a5 : Option Addr) (m_n5 m_c5 : Nat), Rd I10 (F9) (ad7.add (Int.toNat (i2) * 1)) [vl m_a5 m_n5 m_c5] ∧ ((0 ≤ k2 ∧ k2 < (m_n5 : Int)) ∧ ∃ ad8 : Addr, m_a5 = some ad8 ∧ ∃ (m_01 m_11 m_21 m_31 m_41 : Int), Rd I10 (F9) (ad8.add (Int.toNat (k2) * 5)) [vi m_01, vi m_11, vb m_21, vi m_31, vi m_41] ∧ ∃ q1 : Bool, BinRun P .neq 165 (.tmp 102) (.tmp 107) (Value.agg #[vi m_01, vi m_11, vb m_21, vi m_31, vi m_41]) (Value.agg #[vi (wr ((wr (i2 * 1000)) + k2)), vi 0, vb 0, vi 0, vi 0]) q1 ∧ ((q1 = true → Q (.returned (vt false)) I10 (F9)) ∧ (q1 = false → (∃ m16 : Nat, m16 < m15 ∧ Inv83 long_a long_n long_c i2 ((m_n3 : Nat) : Int) x1 (wr (k2 + 1)) m16 I9 F8 I10 F9)))))))))) ∧ (decide (k2 < ((m_n3 : Nat) : Int)) = false → (∃ m17 : Nat, Inv103 long_a long_n long_c i2 ((m_n3 : Nat) : Int) x1 0 m17 I10 F9 I10 F9) ∧ ∀ (x2 : Bool) (k3 : Int) (m18 : Nat) (I11 : Imm) (F10 : Heap), Imm.le I10 I11 → Inv103 long_a long_n long_c i2 ((m_n3 : Nat) : Int) x2 k3 m18 I10 F9 I11 F10 → ((decide (k3 < 16) = true → ((0 ≤ i2 ∧ i2 < (long_n : Int)) ∧ ∃ ad9 : Addr, long_a = some ad9 ∧ ∃ (m_a6 : Option Addr) (m_n6 m_c6 : Nat), Rd I11 (F10) (ad9.add (Int.toNat (i2) * 1)) [vl m_a6 m_n6 m_c6] ∧ ((0 ≤ (wr (((m_n3 : Nat) : Int) + k3)) ∧ (wr (((m_n3 : Nat) : Int) + k3)) < (m_n6 : Int)) ∧ ∃ ad10 : Addr, m_a6 = some ad10 ∧ ∃ (m_02 m_12 m_22 m_32 m_42 : Int), Rd I11 (F10) (ad10.add (Int.toNat (wr (((m_n3 : Nat) : Int) + k3)) * 5)) [vi m_02, vi m_12, vb m_22, vi m_32, vi m_42] ∧ ∃ q2 : Bool, BinRun P .neq 165 (.tmp 122) (.tmp 128) (Value.agg #[vi m_02, vi m_12, vb m_22, vi m_32, vi m_42]) (Value.agg #[vi (wr ((wr ((wr ((-1) - i2)) * 1000)) - k3)), vi 0, vb 0, vi 0, vi 0]) q2 ∧ ((q2 = true → Q (.returned (vt false)) I11 (F10)) ∧ (q2 = false → (∃ m19 : Nat, m19 < m18 ∧ Inv103 long_a long_n long_c i2 ((m_n3 : Nat) : Int) x2 (wr (k3 + 1)) m19 I10 F9 I11 F10)))))) ∧ (decide (k3 < 16) = false → (∃ m20 : Nat, m20 < m13 ∧ Inv68 long_a long_n long_c x2 (wr (i2 + 1)) m20 I3 F4 I11 F10))))))) ∧ (decide (i2 < ((l_n : Nat) : Int)) = false → Q (.returned (vt true)) I9 (F8)))))))
set_option maxRecDepth 100000 in
theorem ref00_ownOrders.vc {l_a : Option Addr} {l_n l_c : Nat} {I : Imm} {F : Heap} {Q : PostQ} (Inv6 : Int → Nat → Imm → Heap → Imm → Heap → Prop) (Inv18 : Int → Int → Nat → Imm → Heap → Imm → Heap → Prop) (Inv36 : Option Addr → Nat → Nat → Int → Nat → Imm → Heap → Imm → Heap → Prop) (Inv51 : Option Addr → Nat → Nat → Int → Option Addr → Nat → Nat → Int → Nat → Imm → Heap → Imm → Heap → Prop) (Inv68 : Option Addr → Nat → Nat → Bool → Int → Nat → Imm → Heap → Imm → Heap → Prop) (Inv83 : Option Addr → Nat → Nat → Int → Int → Bool → Int → Nat → Imm → Heap → Imm → Heap → Prop) (Inv103 : Option Addr → Nat → Nat → Int → Int → Bool → Int → Nat → Imm → Heap → Imm → Heap → Prop) (h : ref00_ownOrders.V (.int .u8) (.int .i64) .slice .bool (IntKind.wrap .i64) l_a l_n l_c I F Q Inv6 Inv18 Inv36 Inv51 Inv68 Inv83 Inv103) : Tri P 68 #[Value.slice l_a l_n l_c] I (F) Q :=
  tri_of_V (A := (annL [2003, 5006, 10003, 14001, 19003, 23002, 25012, 25026, 28001, 30015] [] [] shT_o3 [(6, ⟨[(3, (.int .i64))], [], fun fs I0 F0 vs m I F => match fs, vs with | [], [.int _ y0] => Inv6 y0 m I0 F0 I F | _, _ => False, [], []⟩), (18, ⟨[(4, (.int .i64))], [], fun fs I0 F0 vs m I F => match fs, vs with | [.int _ y0], [.int _ y1] => Inv18 y0 y1 m I0 F0 I F | _, _ => False, [3], []⟩), (36, ⟨[(5, .slc), (6, (.int .i64))], [], fun fs I0 F0 vs m I F => match fs, vs with | [], [.slice y0 y1 y2, .int _ y3] => Inv36 y0 y1 y2 y3 m I0 F0 I F | _, _ => False, [], []⟩), (51, ⟨[(7, .slc), (8, (.int .i64))], [], fun fs I0 F0 vs m I F => match fs, vs with | [.slice y0 y1 y2, .int _ y3], [.slice y4 y5 y6, .int _ y7] => Inv51 y0 y1 y2 y3 y4 y5 y6 y7 m I0 F0 I F | _, _ => False, [5, 6], []⟩), (68, ⟨[(2, .bool), (9, (.int .i64))], [], fun fs I0 F0 vs m I F => match fs, vs with | [.slice y0 y1 y2], [.bool y3, .int _ y4] => Inv68 y0 y1 y2 y3 y4 m I0 F0 I F | _, _ => False, [5], []⟩), (83, ⟨[(2, .bool), (11, (.int .i64))], [], fun fs I0 F0 vs m I F => match fs, vs with | [.slice y0 y1 y2, .int _ y3, .int _ y4], [.bool y5, .int _ y6] => Inv83 y0 y1 y2 y3 y4 y5 y6 m I0 F0 I F | _, _ => False, [5, 9, 10], []⟩), (103, ⟨[(2, .bool), (12, (.int .i64))], [], fun fs I0 F0 vs m I F => match fs, vs with | [.slice y0 y1 y2, .int _ y3, .int _ y4], [.bool y5, .int _ y6] => Inv103 y0 y1 y2 y3 y4 y5 y6 m I0 F0 I F | _, _ => False, [5, 9, 10], []⟩)] [16007, 17002] [] [] [] [] [])) (args := [.a (.v (Value.slice l_a l_n l_c))]) (own := []) (keep := []) [] Go.Proofs.Try.func68 h (by kernel_rfl) (by kernel_rfl) (by kernel_rfl) (by kernel_rfl) (by kernel_rfl) (by simp [AV.wf, At.wf]) (by simp [AV.wf, At.wf]) rfl
set_option maxRecDepth 100000 in
def ref00_ownLevels.V (vi : Int → Value) (vl : Option Addr → Nat → Nat → Value) (vt : Bool → Value) (wr : Int → Int) (l_a : Option Addr) (l_n l_c : Nat) (I : Imm) (F : Heap) (Q : PostQ) (Inv6 : Int → Nat → Imm → Heap → Imm → Heap → Prop) (Inv18 : Int → Int → Nat → Imm → Heap → Imm → Heap → Prop) (Inv36 : Option Addr → Nat → Nat → Int → Nat → Imm → Heap → Imm → Heap → Prop) (Inv51 : Option Addr → Nat → Nat → Int → Option Addr → Nat → Nat → Int → Nat → Imm → Heap → Imm → Heap → Prop) (Inv68 : Option Addr → Nat → Nat → Bool → Int → Nat → Imm → Heap → Imm → Heap → Prop) (Inv83 : Option Addr → Nat → Nat → Int → Int → Bool → Int → Nat → Imm → Heap → Imm → Heap → Prop) (Inv103 : Option Addr → Nat → Nat → Int → Int → Bool → Int → Nat → Imm → Heap → Imm → Heap → Prop) : Prop := (∃ m : Nat, Inv6 0 m I F I F) ∧ ∀ (i : Int) (m1 : Nat) (I1 : Imm) (F1 : Heap), Imm.le I I1 → Inv6 i m1 I F I1 F1 → ((decide (i < ((l_n : Nat) : Int)) = true → (∃ m2 : Nat, Inv18 i 0 m2 I1 F1 I1 F1) ∧ ∀ (k : Int) (m3 : Nat) (I2 : Imm) (F2 : Heap), Imm.le I1 I2 → Inv18 i k m3 I1 F1 I2 F2 → ((0 ≤ i ∧ i < (l_n : Int)) ∧ ∃ ad : Addr, l_a = some ad ∧ ∃ (m_a : Option Addr) (m_n m_c : Nat), Rd I2 (F2) (ad.add (Int.toNat (i) * 1)) [vl m_a m_n m_c] ∧ ((decide (k < ((m_n : Nat) : Int)) = true → ((0 ≤ i ∧ i < (l_n : Int)) ∧ ∃ ad1 : Addr, l_a = some ad1 ∧ ∃ (m_a1 : Option Addr) (m_n1 m_c1 : Nat), Rd I2 (F2) (ad1.add (Int.toNat (i) * 1)) [vl m_a1 m_n1 m_c1] ∧ ((0 ≤ k ∧ k < (m_n1 : Int)) ∧ ∃ ad2 : Addr, m_a1 = some ad2 ∧ ∃ (cs : List Value) (el : Nat) (F3 : Heap), List.Perm F2 (((ad2.add (Int.toNat (k) * 3)).block, Obj.cells cs.toArray el (0, 0)) :: F3) ∧ (ad2.add (Int.toNat (k) * 3)).spot = none ∧ (ad2.add (Int.toNat (k) * 3)).off + 3 ≤ cs.length ∧ (∃ m4 : Nat, m4 < m3 ∧ Inv18 i (wr (k + 1)) m4 I1 F1 I2 (((ad2.add (Int.toNat (k) * 3)).block, Obj.cells (splice (ad2.add (Int.toNat (k) * 3)).off [vi 0, vi 0, vi (wr ((wr (i * 1000)) + k))] cs).toArray el (0, 0)) :: F3))))) ∧ (decide (k < ((m_n : Nat) : Int)) = false → (∃ m5 : Nat, m5 < m1 ∧ Inv6 (wr (i + 1)) m5 I F I2 F2))))) ∧ (decide (i < ((l_n : Nat) : Int)) = false → (∃ m6 : Nat, Inv36 none 0 0 0 m6 I1 F1 I1 F1) ∧ ∀ (long_a : Option Addr) (long_n long_c : Nat) (i1 : Int) (m7 : Nat) (I3 : Imm) (F4 : Heap), Imm.le I1 I3 → Inv36 long_a long_n long_c i1 m7 I1 F1 I3 F4 → ((decide (i1 < ((l_n : Nat) : Int)) = true → ((0 ≤ i1 ∧ i1 < (l_n : Int)) ∧ ∃ ad3 : Addr, l_a = some ad3 ∧ ∃ (m_a2 : Option Addr) (m_n2 m_c2 : Nat), Rd I3 (F4) (ad3.add (Int.toNat (i1) * 1)) [vl m_a2 m_n2 m_c2] ∧ (∃ m8 : Nat, Inv51 long_a long_n long_c i1 m_a2 m_n2 m_c2 0 m8 I3 F4 I3 F4) ∧ ∀ (x_a : Option Addr) (x_n x_c : Nat) (k1 : Int) (m9 : Nat) (I4 : Imm) (F5 : Heap), Imm.le I3 I4 → Inv51 long_a long_n long_c i1 x_a x_n x_c k1 m9 I3 F4 I4 F5 → ((decide (k1 < 16) = true → ∀ (b : Nat) (I5 : Imm), Imm.le I4 I5 → I5 b = some (Obj.cells #[vi 0, vi 0, vi (wr ((wr ((wr ((-1) - i1)) * 1000)) - k1))] 168 (0, 0)) → TriE P (Builtin.append_ #[166, 166] 166 #[vl x_a x_n x_c, vl (some ⟨b, 0, none⟩) 1 1]) I5 (F5) fun v I6 G1 => ∃ (r_a : Option Addr) (r_n r_c : Nat), v = vl r_a r_n r_c ∧ ∃ F6 : Heap, List.Perm G1 (F6) ∧ (∃ m10 : Nat, m10 < m9 ∧ Inv51 long_a long_n long_c i1 r_a r_n r_c (wr (k1 + 1)) m10 I3 F4 I6 F6)) ∧ (decide (k1 < 16) = false → ∀ (b1 : Nat) (I7 : Imm), Imm.le I4 I7 → I7 b1 = some (Obj.cells #[vl x_a x_n x_c] 166 (0, 0)) → TriE P (Builtin.append_ #[62, 62] 62 #[vl long_a long_n long_c, vl (some ⟨b1, 0, none⟩) 1 1]) I7 (F5) fun v1 I8 G2 => ∃ (r_a1 : Option Addr) (r_n1 r_c1 : Nat), v1 = vl r_a1 r_n1 r_c1 ∧ ∃ F7 : Heap, List.Perm G2 (F7) ∧ (∃ m11 : Nat, m11 < m7 ∧ Inv36 r_a1 r_n1 r_c1 (wr (i1 + 1)) m11 I1 F1 I8 F7))))) ∧ (decide (i1 < ((l_n : Nat) : Int)) = false → (∃ m12 : Nat, Inv68 long_a long_n long_c false 0 m12 I3 F4 I3 F4) ∧ ∀ (x : Bool) (i2 : Int) (m13 : Nat) (I9 : Imm) (F8 : Heap), Imm.le I3 I9 → Inv68 long_a long_n long_c x i2 m13 I3 F4 I9 F8 → ((decide (i2 < ((l_n : Nat) : Int)) = true → ((0 ≤ i2 ∧ i2 < (l_n : Int)) ∧ ∃ ad4 : Addr, l_a = some ad4 ∧ ∃ (m_a3 : Option Addr) (m_n3 m_c3 : Nat), Rd I9 (F8) (ad4.add (Int.toNat (i2) * 1)) [vl m_a3 m_n3 m_c3] ∧ (∃ m14 : Nat, Inv83 long_a long_n long_c i2 ((m_n3 : Nat) : Int) x 0 m14 I9 F8 I9 F8) ∧ ∀ (x1 : Bool) (k2 : Int) (m15 : Nat) (I10 : Imm) (F9 : Heap), Imm.le I9 I10 → Inv83 long_a long_n long_c i2 ((m_n3 : Nat) : Int) x1 k2 m15 I9 F8 I10 F9 → ((decide (k2 < ((m_n3 : Nat) : Int)) = true → ((0 ≤ i2 ∧ i2 < (l_n : Int)) ∧ ∃ ad5 : Addr, l_a = some ad5 ∧ ∃ (m_a4 : Option Addr) (m_n4 m_c4 : Nat), Rd I10 (F9) (ad5.add (Int.toNat (i2) * 1)) [vl m_a4 m_n4 m_c4] ∧ ((0 ≤ k2 ∧ k2 < (m_n4 : Int)) ∧ ∃ ad6 : Addr, m_a4 = some ad6 ∧ ∃ (m_0 m_1 m_2 : Int), Rd I10 (F9) (ad6.add (Int.toNat (k2) * 3)) [vi m_0, vi m_1, vi m_2] ∧ ∃ q : Bool, BinRun P .neq 168 (.tmp 88) (.tmp 93) (Value.agg #[vi m_0, vi m_1, vi m_2]) (Value.agg #[vi 0, vi 0, vi (wr ((wr (i2 * 1000)) + k2))]) q ∧ ((q = true → Q (.returned (vt false)) I10 (F9)) ∧ (q = false → ((0 ≤ i2 ∧ i2 < (long_n : Int)) ∧ ∃ ad7 : Addr, long_a = some ad7 ∧ ∃ (m_a5 : Option Addr) (m_n5 m_c5 : Nat), Rd I10 (F9) (ad7.add (Int.toNat (i2) * 1)) [vl m_a5 m_n5 m_c5] ∧ ((0 ≤ k2 ∧ k2 < (m_n5 : Int)) ∧ ∃ ad8 : Addr, m_a5 = some ad8 ∧ ∃ (m_01 m_11 m_21 : Int), Rd I10 (F9) (ad8.add (Int.toNat (k2) * 3)) [vi m_01, vi m_11, vi m_21] ∧ ∃ q1 : Bool, BinRun P .neq 168 (.tmp 102) (.tmp 107) (Value.agg #[vi m_01, vi m_11, vi m_21]) (Value.agg #[vi 0, vi 0, vi (wr ((wr (i2 * 1000)) + k2))]) q1 ∧ ((q1 = true → Q (.returned (vt false)) I10 (F9)) ∧ (q1 = false → (∃ m16 : Nat, m16 < m15 ∧ Inv83 long_a long_n long_c i2 ((m_n3 : Nat) : Int) x1 (wr (k2 + 1)) m16 I9 F8 I10 F9)))))))))) ∧ (decide (k2 < ((m_n3 : Nat) : Int)) = false → (∃ m17 : Nat, Inv103 long_a long_n long_c i2 ((m_n3 : Nat) : Int) x1 0 m17 I10 F9 I10 F9) ∧ ∀ (x2 : Bool) (k3 : Int) (m18 : Nat) (I11 : Imm) (F10 : Heap), Imm.le I10 I11 → Inv103 long_a long_n long_c i2 ((m_n3 : Nat) : Int) x2 k3 m18 I10 F9 I11 F10 → ((decide (k3 < 16) = true → ((0 ≤ i2 ∧ i2 < (long_n : Int)) ∧ ∃ ad9 : Addr, long_a = some ad9 ∧ ∃ (m_a6 : Option Addr) (m_n6 m_c6 : Nat), Rd I11 (F10) (ad9.add (Int.toNat (i2) * 1)) [vl m_a6 m_n6 m_c6] ∧ ((0 ≤ (wr (((m_n3 : Nat) : Int) + k3)) ∧ (wr (((m_n3 : Nat) : Int) + k3)) < (m_n6 : Int)) ∧ ∃ ad10 : Addr, m_a6 = some ad10 ∧ ∃ (m_02 m_12 m_22 : Int), Rd I11 (F10) (ad10.add (Int.toNat (wr (((m_n3 : Nat) : Int) + k3)) * 3)) [vi m_02, vi m_12, vi m_22] ∧ ∃ q2 : Bool, BinRun P .neq 168 (.tmp 122) (.tmp 128) (Value.agg #[vi m_02, vi m_12, vi m_22]) (Value.agg #[vi 0, vi 0, vi (wr ((wr ((wr ((-1) - i2)) * 1000)) - k3))]) q2 ∧ ((q2 = true → Q (.returned (vt false)) I11 (F10)) ∧ (q2 = false → (∃ m19 : Nat, m19 < m18 ∧ Inv103 long_a long_n long_c i2 ((m_n3 : Nat) : Int) x2 (wr (k3 + 1)) m19 I10 F9 I11 F10)))))) ∧ (decide (k3 < 16) = false → (∃ m20 : Nat, m20 < m13 ∧ Inv68 long_a long_n long_c x2 (wr (i2 + 1)) m20 I3 F4 I11 F10))))))) ∧ (decide (i2 < ((l_n : Nat) : Int)) = false → Q (.returned (vt true)) I9 (F8)))))))
set_option maxRecDepth 100000 in
theorem ref00_ownLevels.vc {l_a : Option Addr} {l_n l_c : Nat} {I : Imm} {F : Heap} {Q : PostQ} (Inv6 : Int → Nat → Imm → Heap → Imm → Heap → Prop) (Inv18 : Int → Int → Nat → Imm → Heap → Imm → Heap → Prop) (Inv36 : Option Addr → Nat → Nat → Int → Nat → Imm → Heap → Imm → Heap → Prop) (Inv51 : Option Addr → Nat → Nat → Int → Option Addr → Nat → Nat → Int → Nat → Imm → Heap → Imm → Heap → Prop) (Inv68 : Option Addr → Nat → Nat → Bool → Int → Nat → Imm → Heap → Imm → Heap → Prop) (Inv83 : Option Addr → Nat → Nat → Int → Int → Bool → Int → Nat → Imm → Heap → Imm → Heap → Prop) (Inv103 : Option Addr → Nat → Nat → Int → Int → Bool → Int → Nat → Imm → Heap → Imm → Heap → Prop) (h : ref00_ownLevels.V (.int .i64) .slice .bool (IntKind.wrap .i64) l_a l_n l_c I F Q Inv6 Inv18 Inv36 Inv51 Inv68 Inv83 Inv103) : Tri P 69 #[Value.slice l_a l_n l_c] I (F) Q :=
  tri_of_V (A := (annL [2003, 5006, 10003, 14001, 19003, 23002, 25012, 25026, 28001, 30015] [] [] shT_o3 [(6, ⟨[(3, (.int .i64))], [], fun fs I0 F0 vs m I F => match fs, vs with | [], [.int _ y0] => Inv6 y0 m I0 F0 I F | _, _ => False, [], []⟩), (18, ⟨[(4, (.int .i64))], [], fun fs I0 F0 vs m I F => match fs, vs with | [.int _ y0], [.int _ y1] => Inv18 y0 y1 m I0 F0 I F | _, _ => False, [3], []⟩), (36, ⟨[(5, .slc), (6, (.int .i64))], [], fun fs I0 F0 vs m I F => match fs, vs with | [], [.slice y0 y1 y2, .int _ y3] => Inv36 y0 y1 y2 y3 m I0 F0 I F | _, _ => False, [], []⟩), (51, ⟨[(7, .slc), (8, (.int .i64))], [], fun fs I0 F0 vs m I F => match fs, vs with | [.slice y0 y1 y2, .int _ y3], [.slice y4 y5 y6, .int _ y7] => Inv51 y0 y1 y2 y3 y4 y5 y6 y7 m I0 F0 I F | _, _ => False, [5, 6], []⟩), (68, ⟨[(2, .bool), (9, (.int .i64))], [], fun fs I0 F0 vs m I F => match fs, vs with | [.slice y0 y1 y2], [.bool y3, .int _ y4] => Inv68 y0 y1 y2 y3 y4 m I0 F0 I F | _, _ => False, [5], []⟩), (83, ⟨[(2, .bool), (11, (.int .i64))], [], fun fs I0 F0 vs m I F => match fs, vs with | [.slice y0 y1 y2, .int _ y3, .int _ y4], [.bool y5, .int _ y6] => Inv83 y0 y1 y2 y3 y4 y5 y6 m I0 F0 I F | _, _ => False, [5, 9, 10], []⟩), (103, ⟨[(2, .bool), (12, (.int .i64))], [], fun fs I0 F0 vs m I F => match fs, vs with | [.slice y0 y1 y2, .int _ y3, .int _ y4], [.bool y5, .int _ y6] => Inv103 y0 y1 y2 y3 y4 y5 y6 m I0 F0 I F | _, _ => False, [5, 9, 10], []⟩)] [16007, 17002] [] [] [] [] [])) (args := [.a (.v (Value.slice l_a l_n l_c))]) (own := []) (keep := []) [] Go.Proofs.Try.func69 h (by kernel_rfl) (by kernel_rfl) (by kernel_rfl) (by kernel_rfl) (by kernel_rfl) (by simp [AV.wf, At.wf]) (by simp [AV.wf, At.wf]) rfl
set_option maxRecDepth 100000 in
def ref00_ownHits.V (vi : Int → Value) (vl : Option Addr → Nat → Nat → Value) (vt : Bool → Value) (wr : Int → Int) (l_a : Option Addr) (l_n l_c : Nat) (I : Imm) (F : Heap) (Q : PostQ) (Inv6 : Int → Nat → Imm → Heap → Imm → Heap → Prop) (Inv18 : Int → Int → Nat → Imm → Heap → Imm → Heap → Prop) (Inv36 : Option Addr → Nat → Nat → Int → Nat → Imm → Heap → Imm → Heap → Prop) (Inv51 : Option Addr → Nat → Nat → Int → Option Addr → Nat → Nat → Int → Nat → Imm → Heap → Imm → Heap → Prop) (Inv68 : Option Addr → Nat → Nat → Bool → Int → Nat → Imm → Heap → Imm → Heap → Prop) (Inv83 : Option Addr → Nat → Nat → Int → Int → Bool → Int → Nat → Imm → Heap → Imm → Heap → Prop) (Inv103 : Option Addr → Nat → Nat → Int → Int → Bool → Int → Nat → Imm → Heap → Imm → Heap → Prop) : Prop := (∃ m : Nat, Inv6 0 m I F I F) ∧ ∀ (i : Int) (m1 : Nat) (I1 : Imm) (F1 : Heap), Imm.le I I1 → Inv6 i m1 I F I1 F1 → ((decide (i < ((l_n : Nat) : Int)) = true → (∃ m2 : Nat, Inv18 i 0 m2 I1 F1 I1 F1) ∧ ∀ (k : Int) (m3 : Nat) (I2 : Imm) (F2 : Heap), Imm.le I1 I2 → Inv18 i k m3 I1 F1 I2 F2 → ((0 ≤ i ∧ i < (l_n : Int)) ∧ ∃ ad : Addr, l_a = some ad ∧ ∃ (m_a : Option Addr) (m_n m_c : Nat), Rd I2 (F2) (ad.add (Int.toNat (i) * 1)) [vl m_a m_n m_c] ∧ ((decide (k < ((m_n : Nat) : Int)) = true → ((0 ≤ i ∧ i < (l_n : Int)) ∧ ∃ ad1 : Addr, l_a = some ad1 ∧ ∃ (m_a1 : Option Addr) (m_n1 m_c1 : Nat), Rd I2 (F2) (ad1.add (Int.toNat (i) * 1)) [vl m_a1 m_n1 m_c1] ∧ ((0 ≤ k ∧ k < (m_n1 : Int)) ∧ ∃ ad2 : Addr, m_a1 = some ad2 ∧ ∃ (cs : List Value) (el : Nat) (F3 : Heap), List.Perm F2 (((ad2.add (Int.toNat (k) * 4)).block, Obj.cells cs.toArray el (0, 0)) :: F3) ∧ (ad2.add (Int.toNat (k) * 4)).spot = none ∧ (ad2.add (Int.toNat (k) * 4)).off + 4 ≤ cs.length ∧ (∃ m4 : Nat, m4 < m3 ∧ Inv18 i (wr (k + 1)) m4 I1 F1 I2 (((ad2.add (Int.toNat (k) * 4)).block, Obj.cells (splice (ad2.add (Int.toNat (k) * 4)).off [vi (wr ((wr (i * 1000)) + k)), vi 0, vi 0, vt false] cs).toArray el (0, 0)) :: F3))))) ∧ (decide (k < ((m_n : Nat) : Int)) = false → (∃ m5 : Nat, m5 < m1 ∧ Inv6 (wr (i + 1)) m5 I F I2 F2))))) ∧ (decide (i < ((l_n : Nat) : Int)) = false → (∃ m6 : Nat, Inv36 none 0 0 0 m6 I1 F1 I1 F1) ∧ ∀ (long_a : Option Addr) (long_n long_c : Nat) (i1 : Int) (m7 : Nat) (I3 : Imm) (F4 : Heap), Imm.le I1 I3 → Inv36 long_a long_n long_c i1 m7 I1 F1 I3 F4 → ((decide (i1 < ((l_n : Nat) : Int)) = true → ((0 ≤ i1 ∧ i1 < (l_n : Int)) ∧ ∃ ad3 : Addr, l_a = some ad3 ∧ ∃ (m_a2 : Option Addr) (m_n2 m_c2 : Nat), Rd I3 (F4) (ad3.add (Int.toNat (i1) * 1)) [vl m_a2 m_n2 m_c2] ∧ (∃ m8 : Nat, Inv51 long_a long_n long_c i1 m_a2 m_n2 m_c2 0 m8 I3 F4 I3 F4) ∧ ∀ (x_a : Option Addr) (x_n x_c : Nat) (k1 : Int) (m9 : Nat) (I4 : Imm) (F5 : Heap), Imm.le I3 I4 → Inv51 long_a long_n long_c i1 x_a x_n x_c k1 m9 I3 F4 I4 F5 → ((decide (k1 < 16) = true → ∀ (b : Nat) (I5 : Imm), Imm.le I4 I5 → I5 b = some (Obj.cells #[vi (wr ((wr ((wr ((-1) - i1)) * 1000)) - k1)), vi 0, vi 0, vt false] 171 (0, 0)) → TriE P (Builtin.append_ #[169, 169] 169 #[vl x_a x_n x_c, vl (some ⟨b, 0, none⟩) 1 1]) I5 (F5) fun v I6 G1 => ∃ (r_a : Option Addr) (r_n r_c : Nat), v = vl r_a r_n r_c ∧ ∃ F6 : Heap, List.Perm G1 (F6) ∧ (∃ m10 : Nat, m10 < m9 ∧ Inv51 long_a long_n long_c i1 r_a r_n r_c (wr (k1 + 1)) m10 I3 F4 I6 F6)) ∧ (decide (k1 < 16) = false → ∀ (b1 : Nat) (I7 : Imm), Imm.le I4 I7 → I7 b1 = some (Obj.cells #[vl x_a x_n x_c] 169 (0, 0)) → TriE P (Builtin.append_ #[63, 63] 63 #[vl long_a long_n long_c, vl (some ⟨b1, 0, none⟩) 1 1]) I7 (F5) fun v1 I8 G2 => ∃ (r_a1 : Option Addr) (r_n1 r_c1 : Nat), v1 = vl r_a1 r_n1 r_c1 ∧ ∃ F7 : Heap, List.Perm G2 (F7) ∧ (∃ m11 : Nat, m11 < m7 ∧ Inv36 r_a1 r_n1 r_c1 (wr (i1 + 1)) m11 I1 F1 I8 F7))))) ∧ (decide (i1 < ((l_n : Nat) : Int)) = false → (∃ m12 : Nat, Inv68 long_a long_n long_c false 0 m12 I3 F4 I3 F4) ∧ ∀ (x : Bool) (i2 : Int) (m13 : Nat) (I9 : Imm) (F8 : Heap), Imm.le I3 I9 → Inv68 long_a long_n long_c x i2 m13 I3 F4 I9 F8 → ((decide (i2 < ((l_n : Nat) : Int)) = true → ((0 ≤ i2 ∧ i2 < (l_n : Int)) ∧ ∃ ad4 : Addr, l_a = some ad4 ∧ ∃ (m_a3 : Option Addr) (m_n3 m_c3 : Nat), Rd I9 (F8) (ad4.add (Int.toNat (i2) * 1)) [vl m_a3 m_n3 m_c3] ∧ (∃ m14 : Nat, Inv83 long_a long_n long_c i2 ((m_n3 : Nat) : Int) x 0 m14 I9 F8 I9 F8) ∧ ∀ (x1 : Bool) (k2 : Int) (m15 : Nat) (I10 : Imm) (F9 : Heap), Imm.le I9 I10 → Inv83 long_a long_n long_c i2 ((m_n3 : Nat) : Int) x1 k2 m15 I9 F8 I10 F9 → ((decide (k2 < ((m_n3 : Nat) : Int)) = true → ((0 ≤ i2 ∧ i2 < (l_n : Int)) ∧ ∃ ad5 : Addr, l_a = some ad5 ∧ ∃ (m_a4 : Option Addr) (m_n4 m_c4 : Nat), Rd I10 (F9) (ad5.add (Int.toNat (i2) * 1)) [vl m_a4 m_n4 m_c4] ∧ ((0 ≤ k2 ∧ k2 < (m_n4 : Int)) ∧ ∃ ad6 : Addr, m_a4 = some ad6 ∧ ∃ (m_0 m_1 m_2 : Int) (m_3 : Bool), Rd I10 (F9) (ad6.add (Int.toNat (k2) * 4)) [vi m_0, vi m_1, vi m_2, vt m_3] ∧ ∃ q : Bool, BinRun P .neq 171 (.tmp 88) (.tmp 93) (Value.agg #[vi m_0, vi m_1, vi m_2, vt m_3]) (Value.agg #[vi (wr ((wr (i2 * 1000)) + k2)), vi 0, vi 0, vt false]) q ∧ ((q = true → Q (.returned (vt false)) I10 (F9)) ∧ (q = false → ((0 ≤ i2 ∧ i2 < (long_n : Int)) ∧ ∃ ad7 : Addr, long_a = some ad7 ∧ ∃ (m_a5 : Option Addr) (m_n5 m_c5 : Nat), Rd I10 (F9) (ad7.add (Int.toNat (i2) * 1)) [vl m_a5 m_n5 m_c5] ∧ ((0 ≤ k2 ∧ k2 < (m_n5 : Int)) ∧ ∃ ad8 : Addr, m_a5 = some ad8 ∧ ∃ (m_01 m_11 m_21 : Int) (m_31 : Bool), Rd I10 (F9) (ad8.add (Int.toNat (k2) * 4)) [vi m_01, vi m_11, vi m_21, vt m_31] ∧ ∃ q1 : Bool, BinRun P .neq 171 (.tmp 102) (.tmp 107) (Value.agg #[vi m_01, vi m_11, vi m_21, vt m_31]) (Value.agg #[vi (wr ((wr (i2 * 1000)) + k2)), vi 0, vi 0, vt false]) q1 ∧ ((q1 = true → Q (.returned (vt false)) I10 (F9)) ∧ (q1 = false → (∃ m16 : Nat, m16 < m15 ∧ Inv83 long_a long_n long_c i2 ((m_n3 : Nat) : Int) x1 (wr (k2 + 1)) m16 I9 F8 I10 F9)))))))))) ∧ (decide (k2 < ((m_n3 : Nat) : Int)) = false → (∃ m17 : Nat, Inv103 long_a long_n long_c i2 ((m_n3 : Nat) : Int) x1 0 m17 I10 F9 I10 F9) ∧ ∀ (x2 : Bool) (k3 : Int) (m18 : Nat) (I11 : Imm) (F10 : Heap), Imm.le I10 I11 → Inv103 long_a long_n long_c i2 ((m_n3 : Nat) : Int) x2 k3 m18 I10 F9 I11 F10 → ((decide (k3 < 16) = true → ((0 ≤ i2 ∧ i2 < (long_n : Int)) ∧ ∃ ad9 : Addr, long_a = some ad9 ∧ ∃ (m_a6 : Option Addr) (m_n6 m_c6 : Nat), Rd I11 (F10) (ad9.add (Int.toNat (i2) * 1)) [vl m_a6 m_n6 m_c6] ∧ ((0 ≤ (wr (((m_n3 : Nat) : Int) + k3)) ∧ (wr (((m_n3 : Nat) : Int) + k3)) < (m_n6 : Int)) ∧ ∃ ad10 : Addr, m_a6 = some ad10 ∧ ∃ (m_02 m_12 m_22 : Int) (m_32 : Bool), Rd I11 (F10) (ad10.add (Int.toNat (wr (((m_n3 : Nat) : Int) + k3)) * 4)) [vi m_02, vi m_12, vi m_22, vt m_32] ∧ ∃ q2 : Bool, BinRun P .neq 171 (.tmp 122) (.tmp 128) (Value.agg #[vi m_02, vi m_12, vi m_22, vt m_32]) (Value.agg #[vi (wr ((wr ((wr ((-1) - i2)) * 1000)) - k3)), vi 0, vi 0, vt false]) q2 ∧ ((q2 = true → Q (.returned (vt false)) I11 (F10)) ∧ (q2 = false → (∃ m19 : Nat, m19 < m18 ∧ Inv103 long_a long_n long_c i2 ((m_n3 : Nat) : Int) x2 (wr (k3 + 1)) m19 I10 F9 I11 F10)))))) ∧ (decide (k3 < 16) = false → (∃ m20 : Nat, m20 < m13 ∧ Inv68 long_a long_n long_c x2 (wr (i2 + 1)) m20 I3 F4 I11 F10))))))) ∧ (decide (i2 < ((l_n : Nat) : Int)) = false → Q (.returned (vt true)) I9 (F8)))))))
set_option maxRecDepth 100000 in
theorem ref00_ownHits.vc {l_a : Option Addr} {l_n l_c : Nat} {I : Imm} {F : Heap} {Q : PostQ} (Inv6 : Int → Nat → Imm → Heap → Imm → Heap → Prop) (Inv18 : Int → Int → Nat → Imm → Heap → Imm → Heap → Prop) (Inv36 : Option Addr → Nat → Nat → Int → Nat → Imm → Heap → Imm → Heap → Prop) (Inv51 : Option Addr → Nat → Nat → Int → Option Addr → Nat → Nat → Int → Nat → Imm → Heap → Imm → Heap → Prop) (Inv68 : Option Addr → Nat → Nat → Bool → Int → Nat → Imm → Heap → Imm → Heap → Prop) (Inv83 : Option Addr → Nat → Nat → Int → Int → Bool → Int → Nat → Imm → Heap → Imm → Heap → Prop) (Inv103 : Option Addr → Nat → Nat → Int → Int → Bool → Int → Nat → Imm → Heap → Imm → Heap → Prop) (h : ref00_ownHits.V (.int .i64) .slice .bool (IntKind.wrap .i64) l_a l_n l_c I F Q Inv6 Inv18 Inv36 Inv51 Inv68 Inv83 Inv103) : Tri P 70 #[Value.slice l_a l_n l_c] I (F) Q :=
  tri_of_V (A := (annL [2003, 5006, 10003, 14001, 19003, 23002, 25012, 25026, 28001, 30015] [] [] shT_o3 [(6, ⟨[(3, (.int .i64))], [], fun fs I0 F0 vs m I F => match fs, vs with | [], [.int _ y0] => Inv6 y0 m I0 F0 I F | _, _ => False, [], []⟩), (18, ⟨[(4, (.int .i64))], [], fun fs I0 F0 vs m I F => match fs, vs with | [.int _ y0], [.int _ y1] => Inv18 y0 y1 m I0 F0 I F | _, _ => False, [3], []⟩), (36, ⟨[(5, .slc), (6, (.int .i64))], [], fun fs I0 F0 vs m I F => match fs, vs with | [], [.slice y0 y1 y2, .int _ y3] => Inv36 y0 y1 y2 y3 m I0 F0 I F | _, _ => False, [], []⟩), (51, ⟨[(7, .slc), (8, (.int .i64))], [], fun fs I0 F0 vs m I F => match fs, vs with | [.slice y0 y1 y2, .int _ y3], [.slice y4 y5 y6, .int _ y7] => Inv51 y0 y1 y2 y3 y4 y5 y6 y7 m I0 F0 I F | _, _ => False, [5, 6], []⟩), (68, ⟨[(2, .bool), (9, (.int .i64))], [], fun fs I0 F0 vs m I F => match fs, vs with | [.slice y0 y1 y2], [.bool y3, .int _ y4] => Inv68 y0 y1 y2 y3 y4 m I0 F0 I F | _, _ => False, [5], []⟩), (83, ⟨[(2, .bool), (11, (.int .i64))], [], fun fs I0 F0 vs m I F => match fs, vs with | [.slice y0 y1 y2, .int _ y3, .int _ y4], [.bool y5, .int _ y6] => Inv83 y0 y1 y2 y3 y4 y5 y6 m I0 F0 I F | _, _ => False, [5, 9, 10], []⟩), (103, ⟨[(2, .bool), (12, (.int .i64))], [], fun fs I0 F0 vs m I F => match fs, vs with | [.slice y0 y1 y2, .int _ y3, .int _ y4], [.bool y5, .int _ y6] => Inv103 y0 y1 y2 y3 y4 y5 y6 m I0 F0 I F | _, _ => False, [5, 9, 10], []⟩)] [16007, 17002] [] [] [] [] [])) (args := [.a (.v (Value.slice l_a l_n l_c))]) (own := []) (keep := []) [] Go.Proofs.Try.func70 h (by kernel_rfl) (by kernel_rfl) (by kernel_rfl) (by kernel_rfl) (by kernel_rfl) (by simp [AV.wf, At.wf]) (by simp [AV.wf, At.wf]) rfl
set_option maxRecDepth 100000 in
def ref00_ownEvents.V (vb vi : Int → Value) (vl : Option Addr → Nat → Nat → Value) (vt : Bool → Value) (wr : Int → Int) (l_a : Option Addr) (l_n l_c : Nat) (I : Imm) (F : Heap) (Q : PostQ) (Inv6 : Int → Nat → Imm → Heap → Imm → Heap → Prop) (Inv18 : Int → Int → Nat → Imm → Heap → Imm → Heap → Prop) (Inv36 : Option Addr → Nat → Nat → Int → Nat → Imm → Heap → Imm → Heap → Prop) (Inv51 : Option Addr → Nat → Nat → Int → Option Addr → Nat → Nat → Int → Nat → Imm → Heap → Imm → Heap → Prop) (Inv68 : Option Addr → Nat → Nat → Bool → Int → Nat → Imm → Heap → Imm → Heap → Prop) (Inv83 : Option Addr → Nat → Nat → Int → Int → Bool → Int → Nat → Imm → Heap → Imm → Heap → Prop) (Inv103 : Option Addr → Nat → Nat → Int → Int → Bool → Int → Nat → Imm → Heap → Imm → Heap → Prop) : Prop := (∃ m : Nat, Inv6 0 m I F I F) ∧ ∀ (i : Int) (m1 : Nat) (I1 : Imm) (F1 : Heap), Imm.le I I1 → Inv6 i m1 I F I1 F1 → ((decide (i < ((l_n : Nat) : Int)) = true → (∃ m2 : Nat, Inv18 i 0 m2 I1 F1 I1 F1) ∧ ∀ (k : Int) (m3 : Nat) (I2 : Imm) (F2 : Heap), Imm.le I1 I2 → Inv18 i k m3 I1 F1 I2 F2 → ((0 ≤ i ∧ i < (l_n : Int)) ∧ ∃ ad : Addr, l_a = some ad ∧ ∃ (m_a : Option Addr) (m_n m_c : Nat), Rd I2 (F2) (ad.add (Int.toNat (i) * 1)) [vl m_a m_n m_c] ∧ ((decide (k < ((m_n : Nat) : Int)) = true → ((0 ≤ i ∧ i < (l_n : Int)) ∧ ∃ ad1 : Addr, l_a = some ad1 ∧ ∃ (m_a1 : Option Addr) (m_n1 m_c1 : Nat), Rd I2 (F2) (ad1.add (Int.toNat (i) * 1)) [vl m_a1 m_n1 m_c1] ∧ ((0 ≤ k ∧ k < (m_n1 : Int)) ∧ ∃ ad2 : Addr, m_a1 = some ad2 ∧ ∃ (cs : List Value) (el : Nat) (F3 : Heap), List.Perm F2 (((ad2.add (Int.toNat (k) * 9)).block, Obj.cells cs.toArray el (0, 0)) :: F3) ∧ (ad2.add (Int.toNat (k) * 9)).spot = none ∧ (ad2.add (Int.toNat (k) * 9)).off + 9 ≤ cs.length ∧ (∃ m4 : Nat, m4 < m3 ∧ Inv18 i (wr (k + 1)) m4 I1 F1 I2 (((ad2.add (Int.toNat (k) * 9)).block, Obj.cells (splice (ad2.add (Int.toNat (k) * 9)).off [vb 0, vi (wr ((wr (i * 1000)) + k)), vi 0, vi 0, vi 0, vb 0, vi 0, vi 0, vi 0] cs).toArray el (0, 0)) :: F3))))) ∧ (decide (k < ((m_n : Nat) : Int)) = false → (∃ m5 : Nat, m5 < m1 ∧ Inv6 (wr (i + 1)) m5 I F I2 F2))))) ∧ (decide (i < ((l_n : Nat) : Int)) = false → (∃ m6 : Nat, Inv36 none 0 0 0 m6 I1 F1 I1 F1) ∧ ∀ (long_a : Option Addr) (long_n long_c : Nat) (i1 : Int) (m7 : Nat) (I3 : Imm) (F4 : Heap), Imm.le I1 I3 → Inv36 long_a long_n long_c i1 m7 I1 F1 I3 F4 → ((decide (i1 < ((l_n : Nat) : Int)) = true → ((0 ≤ i1 ∧ i1 < (l_n : Int)) ∧ ∃ ad3 : Addr, l_a = some ad3 ∧ ∃ (m_a2 : Option Addr) (m_n2 m_c2 : Nat), Rd I3 (F4) (ad3.add (Int.toNat (i1) * 1)) [vl m_a2 m_n2 m_c2] ∧ (∃ m8 : Nat, Inv51 long_a long_n long_c i1 m_a2 m_n2 m_c2 0 m8 I3 F4 I3 F4) ∧ ∀ (x_a : Option Addr) (x_n x_c : Nat) (k1 : Int) (m9 : Nat) (I4 : Imm) (F5 : Heap), Imm.le I3 I4 → Inv51 long_a long_n long_c i1 x_a x_n x_c k1 m9 I3 F4 I4 F5 → ((decide (k1 < 16) = true → ∀ (b : Nat) (I5 : Imm), Imm.le I4 I5 → I5 b = some (Obj.cells #[vb 0, vi (wr ((wr ((wr ((-1) - i1)) * 1000)) - k1)), vi 0, vi 0, vi 0, vb 0, vi 0, vi 0, vi 0] 175 (0, 0)) → TriE P (Builtin.append_ #[172, 172] 172 #[vl x_a x_n x_c, vl (some ⟨b, 0, none⟩) 1 1]) I5 (F5) fun v I6 G1 => ∃ (r_a : Option Addr) (r_n r_c : Nat), v = vl r_a r_n r_c ∧ ∃ F6 : Heap, List.Perm G1 (F6) ∧ (∃ m10 : Nat, m10 < m9 ∧ Inv51 long_a long_n long_c i1 r_a r_n r_c (wr (k1 + 1)) m10 I3 F4 I6 F6)) ∧ (decide (k1 < 16) = false → ∀ (b1 : Nat) (I7 : Imm), Imm.le I4 I7 → I7 b1 = some (Obj.cells #[vl x_a x_n x_c] 172 (0, 0)) → TriE P (Builtin.append_ #[64, 64] 64 #[vl long_a long_n long_c, vl (some ⟨b1, 0, none⟩) 1 1]) I7 (F5) fun v1 I8 G2 => ∃ (r_a1 : Option Addr) (r_n1 r_c1 : Nat), v1 = vl r_a1 r_n1 r_c1 ∧ ∃ F7 : Heap, List.Perm G2 (F7) ∧ (∃ m11 : Nat, m11 < m7 ∧ Inv36 r_a1 r_n1 r_c1 (wr (i1 + 1)) m11 I1 F1 I8 F7))))) ∧ (decide (i1 < ((l_n : Nat) : Int)) = false → (∃ m12 : Nat, Inv68 long_a long_n long_c false 0 m12 I3 F4 I3 F4) ∧ ∀ (x : Bool) (i2 : Int) (m13 : Nat) (I9 : Imm) (F8 : Heap), Imm.le I3 I9 → Inv68 long_a long_n long_c x i2 m13 I3 F4 I9 F8 → ((decide (i2 < ((l_n : Nat) : Int)) = true → ((0 ≤ i2 ∧ i2 < (l_n : Int)) ∧ ∃ ad4 : Addr, l_a = some ad4 ∧ ∃ (m_a3 : Option Addr) (m_n3 m_c3 : Nat), Rd I9 (F8) (ad4.add (Int.toNat (i2) * 1)) [vl m_a3 m_n3 m_c3] ∧ (∃ m14 : Nat, Inv83 long_a long_n long_c i2 ((m_n3 : Nat) : Int) x 0 m14 I9 F8 I9 F8) ∧ ∀ (x1 : Bool) (k2 : Int) (m15 : Nat) (I10 : Imm) (F9 : Heap), Imm.le I9 I10 → Inv83 long_a long_n long_c i2 ((m_n3 : Nat) : Int) x1 k2 m15 I9 F8 I10 F9 → ((decide (k2 < ((m_n3 : Nat) : Int)) = true → ((0 ≤ i2 ∧ i2 < (l_n : Int)) ∧ ∃ ad5 : Addr, l_a = some ad5 ∧ ∃ (m_a4 : Option Addr) (m_n4 m_c4 : Nat), Rd I10 (F9) (ad5.add (Int.toNat (i2) * 1)) [vl m_a4 m_n4 m_c4] ∧ ((0 ≤ k2 ∧ k2 < (m_n4 : Int)) ∧ ∃ ad6 : Addr, m_a4 = some ad6 ∧ ∃ (m_0 m_1 m_2 m_3 m_4 m_5 m_6 m_7 m_8 : Int), Rd I10 (F9) (ad6.add (Int.toNat (k2) * 9)) [vb m_0, vi m_1, vi m_2, vi m_3, vi m_4, vb m_5, vi m_6, vi m_7, vi m_8] ∧ ∃ q : Bool, BinRun P .neq 175 (.tmp 88) (.tmp 93) (Value.agg #[vb m_0, vi m_1, vi m_2, vi m_3, vi m_4, vb m_5, vi m_6, vi m_7, vi m_8]) (Value.agg #[vb 0, vi (wr ((wr (i2 * 1000)) + k2)), vi 0, vi 0, vi 0, vb 0, vi 0, vi 0, vi 0]) q ∧ ((q = true → Q (.returned (vt false)) I10 (F9)) ∧ (q = false → ((0 ≤ i2 ∧ i2 < (long_n : Int)) ∧ ∃ ad7 : Addr, long_a = some ad7 ∧ ∃ (m_a5 : Option Addr) (m_n5 m_c5 : Nat), Rd I10 (F9) (ad7.add (Int.toNat (i2) * 1)) [vl m_a5 m_n5 m_c5] ∧ ((0 ≤ k2 ∧ k2 < (m_n5 : Int)) ∧ ∃ ad8 : Addr, m_a5 = some ad8 ∧ ∃ (m_01 m_11 m_21 m_31 m_41 m_51 m_61 m_71 m_81 : Int), Rd I10 (F9) (ad8.add (Int.toNat (k2) * 9)) [vb m_01, vi m_11, vi m_21, vi m_31, vi m_41, vb m_51, vi m_61, vi m_71, vi m_81] ∧ ∃ q1 : Bool, BinRun P .neq 175 (.tmp 102) (.tmp 107) (Value.agg #[vb m_01, vi m_11, vi m_21, vi m_31, vi m_41, vb m_51, vi m_61, vi m_71, vi m_81]) (Value.agg #[vb 0, vi (wr ((wr (i2 * 1000)) + k2)), vi 0, vi 0, vi 0, vb 0, vi 0, vi 0, vi 0]) q1 ∧ ((q1 = true → Q (.returned (vt false)) I10 (F9)) ∧ (q1 = false → (∃ m16 : Nat, m16 < m15 ∧ Inv83 long_a long_n long_c i2 ((m_n3 : Nat) : Int) x1 (wr (k2 + 1)) m16 I9 F8 I10 F9)))))))))) ∧ (decide (k2 < ((m_n3 : Nat) : Int)) = false → (∃ m17 : Nat, Inv103 long_a long_n long_c i2 ((m_n3 : Nat) : Int) x1 0 m17 I10 F9 I10 F9) ∧ ∀ (x2 : Bool) (k3 : Int) (m18 : Nat) (I11 : Imm) (F10 : Heap), Imm.le I10 I11 → Inv103 long_a long_n long_c i2 ((m_n3 : Nat) : Int) x2 k3 m18 I10 F9 I11 F10 → ((decide (k3 < 16) = true → ((0 ≤ i2 ∧ i2 < (long_n : Int)) ∧ ∃ ad9 : Addr, long_a = some ad9 ∧ ∃ (m_a6 : Option Addr) (m_n6 m_c6 : Nat), Rd I11 (F10) (ad9.add (Int.toNat (i2) * 1)) [vl m_a6 m_n6 m_c6] ∧ ((0 ≤ (wr (((m_n3 : Nat) : Int) + k3)) ∧ (wr (((m_n3 : Nat) : Int) + k3)) < (m_n6 : Int)) ∧ ∃ ad10 : Addr, m_a6 = some ad10 ∧ ∃ (m_02 m_12 m_22 m_32 m_42 m_52 m_62 m_72 m_82 : Int), Rd I11 (F10) (ad10.add (Int.toNat (wr (((m_n3 : Nat) : Int) + k3)) * 9)) [vb m_02, vi m_12, vi m_22, vi m_32, vi m_42, vb m_52, vi m_62, vi m_72, vi m_82] ∧ ∃ q2 : Bool, BinRun P .neq 175 (.tmp 122) (.tmp 128) (Value.agg #[vb m_02, vi m_12, vi m_22, vi m_32, vi m_42, vb m_52, vi m_62, vi m_72, vi m_82]) (Value.agg #[vb 0, vi (wr ((wr ((wr ((-1) - i2)) * 1000)) - k3)), vi 0, vi 0, vi 0, vb 0, vi 0, vi 0, vi 0]) q2 ∧ ((q2 = true → Q (.returned (vt false)) I11 (F10)) ∧ (q2 = false → (∃ m19 : Nat, m19 < m18 ∧ Inv103 long_a long_n long_c i2 ((m_n3 : Nat) : Int) x2 (wr (k3 + 1)) m19 I10 F9 I11 F10)))))) ∧ (decide (k3 < 16) = false → (∃ m20 : Nat, m20 < m13 ∧ Inv68 long_a long_n long_c x2 (wr (i2 + 1)) m20 I3 F4 I11 F10))))))) ∧ (decide (i2 < ((l_n : Nat) : Int)) = false → Q (.returned (vt true)) I9 (F8)))))))
set_option maxRecDepth 100000 in
theorem ref00_ownEvents.vc {l_a : Option Addr} {l_n l_c : Nat} {I : Imm} {F : Heap} {Q : PostQ} (Inv6 : Int → Nat → Imm → Heap → Imm → Heap → Prop) (Inv18 : Int → Int → Nat → Imm → Heap → Imm → Heap → Prop) (Inv36 : Option Addr → Nat → Nat → Int → Nat → Imm → Heap → Imm → Heap → Prop) (Inv51 : Option Addr → Nat → Nat → Int → Option Addr → Nat → Nat → Int → Nat → Imm → Heap → Imm → Heap → Prop) (Inv68 : Option Addr → Nat → Nat → Bool → Int → Nat → Imm → Heap → Imm → Heap → Prop) (Inv83 : Option Addr → Nat → Nat → Int → Int → Bool → Int → Nat → Imm → Heap → Imm → Heap → Prop) (Inv103 : Option Addr → Nat → Nat → Int → Int → Bool → Int → Nat → Imm → Heap → Imm → Heap → Prop) (h : ref00_ownEvents.V (.int .u8) (.int .i64) .slice .bool (IntKind.wrap .i64) l_a l_n l_c I F Q Inv6 Inv18 Inv36 Inv51 Inv68 Inv83 Inv103) : Tri P 71 #[Value.slice l_a l_n l_c] I (F) Q :=
  tri_of_V (A := (annL [2003, 5006, 10003, 14001, 19003, 23002, 25012, 25026, 28001, 30015] [] [] shT_o3 [(6, ⟨[(3, (.int .i64))], [], fun fs I0 F0 vs m I F => match fs, vs with | [], [.int _ y0] => Inv6 y0 m I0 F0 I F | _, _ => False, [], []⟩), (18, ⟨[(4, (.int .i64))], [], fun fs I0 F0 vs m I F => match fs, vs with | [.int _ y0], [.int _ y1] => Inv18 y0 y1 m I0 F0 I F | _, _ => False, [3], []⟩), (36, ⟨[(5, .slc), (6, (.int .i64))], [], fun fs I0 F0 vs m I F => match fs, vs with | [], [.slice y0 y1 y2, .int _ y3] => Inv36 y0 y1 y2 y3 m I0 F0 I F | _, _ => False, [], []⟩), (51, ⟨[(7, .slc), (8, (.int .i64))], [], fun fs I0 F0 vs m I F => match fs, vs with | [.slice y0 y1 y2, .int _ y3], [.slice y4 y5 y6, .int _ y7] => Inv51 y0 y1 y2 y3 y4 y5 y6 y7 m I0 F0 I F | _, _ => False, [5, 6], []⟩), (68, ⟨[(2, .bool), (9, (.int .i64))], [], fun fs I0 F0 vs m I F => match fs, vs with | [.slice y0 y1 y2], [.bool y3, .int _ y4] => Inv68 y0 y1 y2 y3 y4 m I0 F0 I F | _, _ => False, [5], []⟩), (83, ⟨[(2, .bool), (11, (.int .i64))], [], fun fs I0 F0 vs m I F => match fs, vs with | [.slice y0 y1 y2, .int _ y3, .int _ y4], [.bool y5, .int _ y6] => Inv83 y0 y1 y2 y3 y4 y5 y6 m I0 F0 I F | _, _ => False, [5, 9, 10], []⟩), (103, ⟨[(2, .bool), (12, (.int .i64))], [], fun fs I0 F0 vs m I F => match fs, vs with | [.slice y0 y1 y2, .int _ y3, .int _ y4], [.bool y5, .int _ y6] => Inv103 y0 y1 y2 y3 y4 y5 y6 m I0 F0 I F | _, _ => False, [5, 9, 10], []⟩)] [16007, 17002] [] [] [] [] [])) (args := [.a (.v (Value.slice l_a l_n l_c))]) (own := []) (keep := []) [] Go.Proofs.Try.func71 h (by kernel_rfl) (by kernel_rfl) (by kernel_rfl) (by kernel_rfl) (by kernel_rfl) (by simp [AV.wf, At.wf]) (by simp [AV.wf, At.wf]) rfl
set_option maxRecDepth 100000 in
def ref00_ownFeeds.V (vb vi : Int → Value) (vl : Option Addr → Nat → Nat → Value) (vt : Bool → Value) (wr : Int → Int) (l_a : Option Addr) (l_n l_c : Nat) (I : Imm) (F : Heap) (Q : PostQ) (Inv6 : Int → Nat → Imm → Heap → Imm → Heap → Prop) (Inv18 : Int → Int → Nat → Imm → Heap → Imm → Heap → Prop) (Inv36 : Option Addr → Nat → Nat → Int → Nat → Imm → Heap → Imm → Heap → Prop) (Inv51 : Option Addr → Nat → Nat → Int → Option Addr → Nat → Nat → Int → Nat → Imm → Heap → Imm → Heap → Prop) (Inv68 : Option Addr → Nat → Nat → Bool → Int → Nat → Imm → Heap → Imm → Heap → Prop) (Inv83 : Option Addr → Nat → Nat → Int → Int → Bool → Int → Nat → Imm → Heap → Imm → Heap → Prop) (Inv103 : Option Addr → Nat → Nat → Int → Int → Bool → Int → Nat → Imm → Heap → Imm → Heap → Prop) : Prop := (∃ m : Nat, Inv6 0 m I F I F) ∧ ∀ (i : Int) (m1 : Nat) (I1 : Imm) (F1 : Heap), Imm.le I I1 → Inv6 i m1 I F I1 F1 → ((decide (i < ((l_n : Nat) : Int)) = true → (∃ m2 : Nat, Inv18 i 0 m2 I1 F1 I1 F1) ∧ ∀ (k : Int) (m3 : Nat) (I2 : Imm) (F2 : Heap), Imm.le I1 I2 → Inv18 i k m3 I1 F1 I2 F2 → ((0 ≤ i ∧ i < (l_n : Int)) ∧ ∃ ad : Addr, l_a = some ad ∧ ∃ (m_a : Option Addr) (m_n m_c : Nat), Rd I2 (F2) (ad.add (Int.toNat (i) * 1)) [vl m_a m_n m_c] ∧ ((decide (k < ((m_n : Nat) : Int)) = true → ((0 ≤ i ∧ i < (l_n : Int)) ∧ ∃ ad1 : Addr, l_a = some ad1 ∧ ∃ (m_a1 : Option Addr) (m_n1 m_c1 : Nat), Rd I2 (F2) (ad1.add (Int.toNat (i) * 1)) [vl m_a1 m_n1 m_c1] ∧ ((0 ≤ k ∧ k < (m_n1 : Int)) ∧ ∃ ad2 : Addr, m_a1 = some ad2 ∧ ∃ (cs : List Value) (el : Nat) (F3 : Heap), List.Perm F2 (((ad2.add (Int.toNat (k) * 3)).block, Obj.cells cs.toArray el (0, 0)) :: F3) ∧ (ad2.add (Int.toNat (k) * 3)).spot = none ∧ (ad2.add (Int.toNat (k) * 3)).off + 3 ≤ cs.length ∧ (∃ m4 : Nat, m4 < m3 ∧ Inv18 i (wr (k + 1)) m4 I1 F1 I2 (((ad2.add (Int.toNat (k) * 3)).block, Obj.cells (splice (ad2.add (Int.toNat (k) * 3)).off [vb 0, vi (wr ((wr (i * 1000)) + k)), vi 0] cs).toArray el (0, 0)) :: F3))))) ∧ (decide (k < ((m_n : Nat) : Int)) = false → (∃ m5 : Nat, m5 < m1 ∧ Inv6 (wr (i + 1)) m5 I F I2 F2))))) ∧ (decide (i < ((l_n : Nat) : Int)) = false → (∃ m6 : Nat, Inv36 none 0 0 0 m6 I1 F1 I1 F1) ∧ ∀ (long_a : Option Addr) (long_n long_c : Nat) (i1 : Int) (m7 : Nat) (I3 : Imm) (F4 : Heap), Imm.le I1 I3 → Inv36 long_a long_n long_c i1 m7 I1 F1 I3 F4 → ((decide (i1 < ((l_n : Nat) : Int)) = true → ((0 ≤ i1 ∧ i1 < (l_n : Int)) ∧ ∃ ad3 : Addr, l_a = some ad3 ∧ ∃ (m_a2 : Option Addr) (m_n2 m_c2 : Nat), Rd I3 (F4) (ad3.add (Int.toNat (i1) * 1)) [vl m_a2 m_n2 m_c2] ∧ (∃ m8 : Nat, Inv51 long_a long_n long_c i1 m_a2 m_n2 m_c2 0 m8 I3 F4 I3 F4) ∧ ∀ (x_a : Option Addr) (x_n x_c : Nat) (k1 : Int) (m9 : Nat) (I4 : Imm) (F5 : Heap), Imm.le I3 I4 → Inv51 long_a long_n long_c i1 x_a x_n x_c k1 m9 I3 F4 I4 F5 → ((decide (k1 < 16) = true → ∀ (b : Nat) (I5 : Imm), Imm.le I4 I5 → I5 b = some (Obj.cells #[vb 0, vi (wr ((wr ((wr ((-1) - i1)) * 1000)) - k1)), vi 0] 179 (0, 0)) → TriE P (Builtin.append_ #[176, 176] 176 #[vl x_a x_n x_c, vl (some ⟨b, 0, none⟩) 1 1]) I5 (F5) fun v I6 G1 => ∃ (r_a : Option Addr) (r_n r_c : Nat), v = vl r_a r_n r_c ∧ ∃ F6 : Heap, List.Perm G1 (F6) ∧ (∃ m10 : Nat, m10 < m9 ∧ Inv51 long_a long_n long_c i1 r_a r_n r_c (wr (k1 + 1)) m10 I3 F4 I6 F6)) ∧ (decide (k1 < 16) = false → ∀ (b1 : Nat) (I7 : Imm), Imm.le I4 I7 → I7 b1 = some (Obj.cells #[vl x_a x_n x_c] 176 (0, 0)) → TriE P (Builtin.append_ #[65, 65] 65 #[vl long_a long_n long_c, vl (some ⟨b1, 0, none⟩) 1 1]) I7 (F5) fun v1 I8 G2 => ∃ (r_a1 : Option Addr) (r_n1 r_c1 : Nat), v1 = vl r_a1 r_n1 r_c1 ∧ ∃ F7 : Heap, List.Perm G2 (F7) ∧ (∃ m11 : Nat, m11 < m7 ∧ Inv36 r_a1 r_n1 r_c1 (wr (i1 + 1)) m11 I1 F1 I8 F7))))) ∧ (decide (i1 < ((l_n : Nat) : Int)) = false → (∃ m12 : Nat, Inv68 long_a long_n long_c false 0 m12 I3 F4 I3 F4) ∧ ∀ (x : Bool) (i2 : Int) (m13 : Nat) (I9 : Imm) (F8 : Heap), Imm.le I3 I9 → Inv68 long_a long_n long_c x i2 m13 I3 F4 I9 F8 → ((decide (i2 < ((l_n : Nat) : Int)) = true → ((0 ≤ i2 ∧ i2 < (l_n : Int)) ∧ ∃ ad4 : Addr, l_a = some ad4 ∧ ∃ (m_a3 : Option Addr) (m_n3 m_c3 : Nat), Rd I9 (F8) (ad4.add (Int.toNat (i2) * 1)) [vl m_a3 m_n3 m_c3] ∧ (∃ m14 : Nat, Inv83 long_a long_n long_c i2 ((m_n3 : Nat) : Int) x 0 m14 I9 F8 I9 F8) ∧ ∀ (x1 : Bool) (k2 : Int) (m15 : Nat) (I10 : Imm) (F9 : Heap), Imm.le I9 I10 → Inv83 long_a long_n long_c i2 ((m_n3 : Nat) : Int) x1 k2 m15 I9 F8 I10 F9 → ((decide (k2 < ((m_n3 : Nat) : Int)) = true → ((0 ≤ i2 ∧ i2 < (l_n : Int)) ∧ ∃ ad5 : Addr, l_a = some ad5 ∧ ∃ (m_a4 : Option Addr) (m_n4 m_c4 : Nat), Rd I10 (F9) (ad5.add (Int.toNat (i2) * 1)) [vl m_a4 m_n4 m_c4] ∧ ((0 ≤ k2 ∧ k2 < (m_n4 : Int)) ∧ ∃ ad6 : Addr, m_a4 = some ad6 ∧ ∃ (m_0 m_1 m_2 : Int), Rd I10 (F9) (ad6.add (Int.toNat (k2) * 3)) [vb m_0, vi m_1, vi m_2] ∧ ∃ q : Bool, BinRun P .neq 179 (.tmp 88) (.tmp 93) (Value.agg #[vb m_0, vi m_1, vi m_2]) (Value.agg #[vb 0, vi (wr ((wr (i2 * 1000)) + k2)), vi 0]) q ∧ ((q = true → Q (.returned (vt false)) I10 (F9)) ∧ (q = false → ((0 ≤ i2 ∧ i2 < (long_n : Int)) ∧ ∃ ad7 : Addr, long_a = some ad7 ∧ ∃ (m_a5 : Option Addr) (m_n5 m_c5 : Nat), Rd I10 (F9) (ad7.add (Int.toNat (i2) * 1)) [vl m_a5 m_n5 m_c5] ∧ ((0 ≤ k2 ∧ k2 < (m_n5 : Int)) ∧ ∃ ad8 : Addr, m_a5 = some ad8 ∧ ∃ (m_01 m_11 m_21 : Int), Rd I10 (F9) (ad8.add (Int.toNat (k2) * 3)) [vb m_01, vi m_11, vi m_21] ∧ ∃ q1 : Bool, BinRun P .neq 179 (.tmp 102) (.tmp 107) (Value.agg #[vb m_01, vi m_11, vi m_21]) (Value.agg #[vb 0, vi (wr ((wr (i2 * 1000)) + k2)), vi 0]) q1 ∧ ((q1 = true → Q (.returned (vt false)) I10 (F9)) ∧ (q1 = false → (∃ m16 : Nat, m16 < m15 ∧ Inv83 long_a long_n long_c i2 ((m_n3 : Nat) : Int) x1 (wr (k2 + 1)) m16 I9 F8 I10 F9)))))))))) ∧ (decide (k2 < ((m_n3 : Nat) : Int)) = false → (∃ m17 : Nat, Inv103 long_a long_n long_c i2 ((m_n3 : Nat) : Int) x1 0 m17 I10 F9 I10 F9) ∧ ∀ (x2 : Bool) (k3 : Int) (m18 : Nat) (I11 : Imm) (F10 : Heap), Imm.le I10 I11 → Inv103 long_a long_n long_c i2 ((m_n3 : Nat) : Int) x2 k3 m18 I10 F9 I11 F10 → ((decide (k3 < 16) = true → ((0 ≤ i2 ∧ i2 < (long_n : Int)) ∧ ∃ ad9 : Addr, long_a = some ad9 ∧ ∃ (m_a6 : Option Addr) (m_n6 m_c6 : Nat), Rd I11 (F10) (ad9.add (Int.toNat (i2) * 1)) [vl m_a6 m_n6 m_c6] ∧ ((0 ≤ (wr (((m_n3 : Nat) : Int) + k3)) ∧ (wr (((m_n3 : Nat) : Int) + k3)) < (m_n6 : Int)) ∧ ∃ ad10 : Addr, m_a6 = some ad10 ∧ ∃ (m_02 m_12 m_22 : Int), Rd I11 (F10) (ad10.add (Int.toNat (wr (((m_n3 : Nat) : Int) + k3)) * 3)) [vb m_02, vi m_12, vi m_22] ∧ ∃ q2 : Bool, BinRun P .neq 179 (.tmp 122) (.tmp 128) (Value.agg #[vb m_02, vi m_12, vi m_22]) (Value.agg #[vb 0, vi (wr ((wr ((wr ((-1) - i2)) * 1000)) - k3)), vi 0]) q2 ∧ ((q2 = true → Q (.returned (vt false)) I11 (F10)) ∧ (q2 = false → (∃ m19 : Nat, m19 < m18 ∧ Inv103 long_a long_n long_c i2 ((m_n3 : Nat) : Int) x2 (wr (k3 + 1)) m19 I10 F9 I11 F10)))))) ∧ (decide (k3 < 16) = false → (∃ m20 : Nat, m20 < m13 ∧ Inv68 long_a long_n long_c x2 (wr (i2 + 1)) m20 I3 F4 I11 F10))))))) ∧ (decide (i2 < ((l_n : Nat) : Int)) = false → Q (.returned (vt true)) I9 (F8)))))))
set_option maxRecDepth 100000 in
theorem ref00_ownFeeds.vc {l_a : Option Addr} {l_n l_c : Nat} {I : Imm} {F : Heap} {Q : PostQ} (Inv6 : Int → Nat → Imm → Heap → Imm → Heap → Prop) (Inv18 : Int → Int → Nat → Imm → Heap → Imm → Heap → Prop) (Inv36 : Option Addr → Nat → Nat → Int → Nat → Imm → Heap → Imm → Heap → Prop) (Inv51 : Option Addr → Nat → Nat → Int → Option Addr → Nat → Nat → Int → Nat → Imm → Heap → Imm → Heap → Prop) (Inv68 : Option Addr → Nat → Nat → Bool → Int → Nat → Imm → Heap → Imm → Heap → Prop) (Inv83 : Option Addr → Nat → Nat → Int → Int → Bool → Int → Nat → Imm → Heap → Imm → Heap → Prop) (Inv103 : Option Addr → Nat → Nat → Int → Int → Bool → Int → Nat → Imm → Heap → Imm → Heap → Prop) (h : ref00_ownFeeds.V (.int .u8) (.int .i64) .slice .bool (IntKind.wrap .i64) l_a l_n l_c I F Q Inv6 Inv18 Inv36 Inv51 Inv68 Inv83 Inv103) : Tri P 72 #[Value.slice l_a l_n l_c] I (F) Q :=
  tri_of_V (A := (annL [2003, 5006, 10003, 14001, 19003, 23002, 25012, 25026, 28001, 30015] [] [] shT_o3 [(6, ⟨[(3, (.int .i64))], [], fun fs I0 F0 vs m I F => match fs, vs with | [], [.int _ y0] => Inv6 y0 m I0 F0 I F | _, _ => False, [], []⟩), (18, ⟨[(4, (.int .i64))], [], fun fs I0 F0 vs m I F => match fs, vs with | [.int _ y0], [.int _ y1] => Inv18 y0 y1 m I0 F0 I F | _, _ => False, [3], []⟩), (36, ⟨[(5, .slc), (6, (.int .i64))], [], fun fs I0 F0 vs m I F => match fs, vs with | [], [.slice y0 y1 y2, .int _ y3] => Inv36 y0 y1 y2 y3 m I0 F0 I F | _, _ => False, [], []⟩), (51, ⟨[(7, .slc), (8, (.int .i64))], [], fun fs I0 F0 vs m I F => match fs, vs with | [.slice y0 y1 y2, .int _ y3], [.slice y4 y5 y6, .int _ y7] => Inv51 y0 y1 y2 y3 y4 y5 y6 y7 m I0 F0 I F | _, _ => False, [5, 6], []⟩), (68, ⟨[(2, .bool), (9, (.int .i64))], [], fun fs I0 F0 vs m I F => match fs, vs with | [.slice y0 y1 y2], [.bool y3, .int _ y4] => Inv68 y0 y1 y2 y3 y4 m I0 F0 I F | _, _ => False, [5], []⟩), (83, ⟨[(2, .bool), (11, (.int .i64))], [], fun fs I0 F0 vs m I F => match fs, vs with | [.slice y0 y1 y2, .int _ y3, .int _ y4], [.bool y5, .int _ y6] => Inv83 y0 y1 y2 y3 y4 y5 y6 m I0 F0 I F | _, _ => False, [5, 9, 10], []⟩), (103, ⟨[(2, .bool), (12, (.int .i64))], [], fun fs I0 F0 vs m I F => match fs, vs with | [.slice y0 y1 y2, .int _ y3, .int _ y4], [.bool y5, .int _ y6] => Inv103 y0 y1 y2 y3 y4 y5 y6 m I0 F0 I F | _, _ => False, [5, 9, 10], []⟩)] [16007, 17002] [] [] [] [] [])) (args := [.a (.v (Value.slice l_a l_n l_c))]) (own := []) (keep := []) [] Go.Proofs.Try.func72 h (by kernel_rfl) (by kernel_rfl) (by kernel_rfl) (by kernel_rfl) (by kernel_rfl) (by simp [AV.wf, At.wf]) (by simp [AV.wf, At.wf]) rfl
set_option maxRecDepth 100000 in
def ref00_ownActions.V (vb vi : Int → Value) (vl : Option Addr → Nat → Nat → Value) (vt : Bool → Value) (wr : Int → Int) (l_a : Option Addr) (l_n l_c : Nat) (I : Imm) (F : Heap) (Q : PostQ) (Inv6 : Int → Nat → Imm → Heap → Imm → Heap → Prop) (Inv18 : Int → Int → Nat → Imm → Heap → Imm → Heap → Prop) (Inv36 : Option Addr → Nat → Nat → Int → Nat → Imm → Heap → Imm → Heap → Prop) (Inv51 : Option Addr → Nat → Nat → Int → Option Addr → Nat → Nat → Int → Nat → Imm → Heap → Imm → Heap → Prop) (Inv68 : Option Addr → Nat → Nat → Bool → Int → Nat → Imm → Heap → Imm → Heap → Prop) (Inv83 : Option Addr → Nat → Nat → Int → Int → Bool → Int → Nat → Imm → Heap → Imm → Heap → Prop) (Inv103 : Option Addr → Nat → Nat → Int → Int → Bool → Int → Nat → Imm → Heap → Imm → Heap → Prop) : Prop := (∃ m : Nat, Inv6 0 m I F I F) ∧ ∀ (i : Int) (m1 : Nat) (I1 : Imm) (F1 : Heap), Imm.le I I1 → Inv6 i m1 I F I1 F1 → ((decide (i < ((l_n : Nat) : Int)) = true → (∃ m2 : Nat, Inv18 i 0 m2 I1 F1 I1 F1) ∧ ∀ (k : Int) (m3 : Nat) (I2 : Imm) (F2 : Heap), Imm.le I1 I2 → Inv18 i k m3 I1 F1 I2 F2 → ((0 ≤ i ∧ i < (l_n : Int)) ∧ ∃ ad : Addr, l_a = some ad ∧ ∃ (m_a : Option Addr) (m_n m_c : Nat), Rd I2 (F2) (ad.add (Int.toNat (i) * 1)) [vl m_a m_n m_c] ∧ ((decide (k < ((m_n : Nat) : Int)) = true → ((0 ≤ i ∧ i < (l_n : Int)) ∧ ∃ ad1 : Addr, l_a = some ad1 ∧ ∃ (m_a1 : Option Addr) (m_n1 m_c1 : Nat), Rd I2 (F2) (ad1.add (Int.toNat (i) * 1)) [vl m_a1 m_n1 m_c1] ∧ ((0 ≤ k ∧ k < (m_n1 : Int)) ∧ ∃ ad2 : Addr, m_a1 = some ad2 ∧ ∃ (cs : List Value) (el : Nat) (F3 : Heap), List.Perm F2 (((ad2.add (Int.toNat (k) * 6)).block, Obj.cells cs.toArray el (0, 0)) :: F3) ∧ (ad2.add (Int.toNat (k) * 6)).spot = none ∧ (ad2.add (Int.toNat (k) * 6)).off + 6 ≤ cs.length ∧ (∃ m4 : Nat, m4 < m3 ∧ Inv18 i (wr (k + 1)) m4 I1 F1 I2 (((ad2.add (Int.toNat (k) * 6)).block, Obj.cells (splice (ad2.add (Int.toNat (k) * 6)).off [vb 0, vb 0, vb 0, vi 0, vi 0, vi (wr ((wr (i * 1000)) + k))] cs).toArray el (0, 0)) :: F3))))) ∧ (decide (k < ((m_n : Nat) : Int)) = false → (∃ m5 : Nat, m5 < m1 ∧ Inv6 (wr (i + 1)) m5 I F I2 F2))))) ∧ (decide (i < ((l_n : Nat) : Int)) = false → (∃ m6 : Nat, Inv36 none 0 0 0 m6 I1 F1 I1 F1) ∧ ∀ (long_a : Option Addr) (long_n long_c : Nat) (i1 : Int) (m7 : Nat) (I3 : Imm) (F4 : Heap), Imm.le I1 I3 → Inv36 long_a long_n long_c i1 m7 I1 F1 I3 F4 → ((decide (i1 < ((l_n : Nat) : Int)) = true → ((0 ≤ i1 ∧ i1 < (l_n : Int)) ∧ ∃ ad3 : Addr, l_a = some ad3 ∧ ∃ (m_a2 : Option Addr) (m_n2 m_c2 : Nat), Rd I3 (F4) (ad3.add (Int.toNat (i1) * 1)) [vl m_a2 m_n2 m_c2] ∧ (∃ m8 : Nat, Inv51 long_a long_n long_c i1 m_a2 m_n2 m_c2 0 m8 I3 F4 I3 F4) ∧ ∀ (x_a : Option Addr) (x_n x_c : Nat) (k1 : Int) (m9 : Nat) (I4 : Imm) (F5 : Heap), Imm.le I3 I4 → Inv51 long_a long_n long_c i1 x_a x_n x_c k1 m9 I3 F4 I4 F5 → ((decide (k1 < 16) = true → ∀ (b : Nat) (I5 : Imm), Imm.le I4 I5 → I5 b = some (Obj.cells #[vb 0, vb 0, vb 0, vi 0, vi 0, vi (wr ((wr ((wr ((-1) - i1)) * 1000)) - k1))] 183 (0, 0)) → TriE P (Builtin.append_ #[180, 180] 180 #[vl x_a x_n x_c, vl (some ⟨b, 0, none⟩) 1 1]) I5 (F5) fun v I6 G1 => ∃ (r_a : Option Addr) (r_n r_c : Nat), v = vl r_a r_n r_c ∧ ∃ F6 : Heap, List.Perm G1 (F6) ∧ (∃ m10 : Nat, m10 < m9 ∧ Inv51 long_a long_n long_c i1 r_a r_n r_c (wr (k1 + 1)) m10 I3 F4 I6 F6)) ∧ (decide (k1 < 16) = false → ∀ (b1 : Nat) (I7 : Imm), Imm.le I4 I7 → I7 b1 = some (Obj.cells #[vl x_a x_n x_c] 180 (0, 0)) → TriE P (Builtin.append_ #[66, 66] 66 #[vl long_a long_n long_c, vl (some ⟨b1, 0, none⟩) 1 1]) I7 (F5) fun v1 I8 G2 => ∃ (r_a1 : Option Addr) (r_n1 r_c1 : Nat), v1 = vl r_a1 r_n1 r_c1 ∧ ∃ F7 : Heap, List.Perm G2 (F7) ∧ (∃ m11 : Nat, m11 < m7 ∧ Inv36 r_a1 r_n1 r_c1 (wr (i1 + 1)) m11 I1 F1 I8 F7))))) ∧ (decide (i1 < ((l_n : Nat) : Int)) = false → (∃ m12 : Nat, Inv68 long_a long_n long_c false 0 m12 I3 F4 I3 F4) ∧ ∀ (x : Bool) (i2 : Int) (m13 : Nat) (I9 : Imm) (F8 : Heap), Imm.le I3 I9 → Inv68 long_a long_n long_c x i2 m13 I3 F4 I9 F8 → ((decide (i2 < ((l_n : Nat) : Int)) = true → ((0 ≤ i2 ∧ i2 < (l_n : Int)) ∧ ∃ ad4 : Addr, l_a = some ad4 ∧ ∃ (m_a3 : Option Addr) (m_n3 m_c3 : Nat), Rd I9 (F8) (ad4.add (Int.toNat (i2) * 1)) [vl m_a3 m_n3 m_c3] ∧ (∃ m14 : Nat, Inv83 long_a long_n long_c i2 ((m_n3 : Nat) : Int) x 0 m14 I9 F8 I9 F8) ∧ ∀ (x1 : Bool) (k2 : Int) (m15 : Nat) (I10 : Imm) (F9 : Heap), Imm.le I9 I10 → Inv83 long_a long_n long_c i2 ((m_n3 : Nat) : Int) x1 k2 m15 I9 F8 I10 F9 → ((decide (k2 < ((m_n3 : Nat) : Int)) = true → ((0 ≤ i2 ∧ i2 < (l_n : Int)) ∧ ∃ ad5 : Addr, l_a = some ad5 ∧ ∃ (m_a4 : Option Addr) (m_n4 m_c4 : Nat), Rd I10 (F9) (ad5.add (Int.toNat (i2) * 1)) [vl m_a4 m_n4 m_c4] ∧ ((0 ≤ k2 ∧ k2 < (m_n4 : Int)) ∧ ∃ ad6 : Addr, m_a4 = some ad6 ∧ ∃ (m_0 m_1 m_2 m_3 m_4 m_5 : Int), Rd I10 (F9) (ad6.add (Int.toNat (k2) * 6)) [vb m_0, vb m_1, vb m_2, vi m_3, vi m_4, vi m_5] ∧ ∃ q : Bool, BinRun P .neq 183 (.tmp 88) (.tmp 93) (Value.agg #[vb m_0, vb m_1, vb m_2, vi m_3, vi m_4, vi m_5]) (Value.agg #[vb 0, vb 0, vb 0, vi 0, vi 0, vi (wr ((wr (i2 * 1000)) + k2))]) q ∧ ((q = true → Q (.returned (vt false)) I10 (F9)) ∧ (q = false → ((0 ≤ i2 ∧ i2 < (long_n : Int)) ∧ ∃ ad7 : Addr, long_a = some ad7 ∧ ∃ (m_a5 : Option Addr) (m_n5 m_c5 : Nat), Rd I10 (F9) (ad7.add (Int.toNat (i2) * 1)) [vl m_a5 m_n5 m_c5] ∧ ((0 ≤ k2 ∧ k2 < (m_n5 : Int)) ∧ ∃ ad8 : Addr, m_a5 = some ad8 ∧ ∃ (m_01 m_11 m_21 m_31 m_41 m_51 : Int), Rd I10 (F9) (ad8.add (Int.toNat (k2) * 6)) [vb m_01, vb m_11, vb m_21, vi m_31, vi m_41, vi m_51] ∧ ∃ q1 : Bool, BinRun P .neq 183 (.tmp 102) (.tmp 107) (Value.agg #[vb m_01, vb m_11, vb m_21, vi m_31, vi m_41, vi m_51]) (Value.agg #[vb 0, vb 0, vb 0, vi 0, vi 0, vi (wr ((wr (i2 * 1000)) + k2))]) q1 ∧ ((q1 = true → Q (.returned (vt false)) I10 (F9)) ∧ (q1 = false → (∃ m16 : Nat, m16 < m15 ∧ Inv83 long_a long_n long_c i2 ((m_n3 : Nat) : Int) x1 (wr (k2 + 1)) m16 I9 F8 I10 F9)))))))))) ∧ (decide (k2 < ((m_n3 : Nat) : Int)) = false → (∃ m17 : Nat, Inv103 long_a long_n long_c i2 ((m_n3 : Nat) : Int) x1 0 m17 I10 F9 I10 F9) ∧ ∀ (x2 : Bool) (k3 : Int) (m18 : Nat) (I11 : Imm) (F10 : Heap), Imm.le I10 I11 → Inv103 long_a long_n long_c i2 ((m_n3 : Nat) : Int) x2 k3 m18 I10 F9 I11 F10 → ((decide (k3 < 16) = true → ((0 ≤ i2 ∧ i2 < (long_n : Int)) ∧ ∃ ad9 : Addr, long_a = some ad9 ∧ ∃ (m_a6 : Option Addr) (m_n6 m_c6 : Nat), Rd I11 (F10) (ad9.add (Int.toNat (i2) * 1)) [vl m_a6 m_n6 m_c6] ∧ ((0 ≤ (wr (((m_n3 : Nat) : Int) + k3)) ∧ (wr (((m_n3 : Nat) : Int) + k3)) < (m_n6 : Int)) ∧ ∃ ad10 : Addr, m_a6 = some ad10 ∧ ∃ (m_02 m_12 m_22 m_32 m_42 m_52 : Int), Rd I11 (F10) (ad10.add (Int.toNat (wr (((m_n3 : Nat) : Int) + k3)) * 6)) [vb m_02, vb m_12, vb m_22, vi m_32, vi m_42, vi m_52] ∧ ∃ q2 : Bool, BinRun P .neq 183 (.tmp 122) (.tmp 128) (Value.agg #[vb m_02, vb m_12, vb m_22, vi m_32, vi m_42, vi m_52]) (Value.agg #[vb 0, vb 0, vb 0, vi 0, vi 0, vi (wr ((wr ((wr ((-1) - i2)) * 1000)) - k3))]) q2 ∧ ((q2 = true → Q (.returned (vt false)) I11 (F10)) ∧ (q2 = false → (∃ m19 : Nat, m19 < m18 ∧ Inv103 long_a long_n long_c i2 ((m_n3 : Nat) : Int) x2 (wr (k3 + 1)) m19 I10 F9 I11 F10)))))) ∧ (decide (k3 < 16) = false → (∃ m20 : Nat, m20 < m13 ∧ Inv68 long_a long_n long_c x2 (wr (i2 + 1)) m20 I3 F4 I11 F10))))))) ∧ (decide (i2 < ((l_n : Nat) : Int)) = false → Q (.returned (vt true)) I9 (F8)))))))
set_option maxRecDepth 100000 in
theorem ref00_ownActions.vc {l_a : Option Addr} {l_n l_c : Nat} {I : Imm} {F : Heap} {Q : PostQ} (Inv6 : Int → Nat → Imm → Heap → Imm → Heap → Prop) (Inv18 : Int → Int → Nat → Imm → Heap → Imm → Heap → Prop) (Inv36 : Option Addr → Nat → Nat → Int → Nat → Imm → Heap → Imm → Heap → Prop) (Inv51 : Option Addr → Nat → Nat → Int → Option Addr → Nat → Nat → Int → Nat → Imm → Heap → Imm → Heap → Prop) (Inv68 : Option Addr → Nat → Nat → Bool → Int → Nat → Imm → Heap → Imm → Heap → Prop) (Inv83 : Option Addr → Nat → Nat → Int → Int → Bool → Int → Nat → Imm → Heap → Imm → Heap → Prop) (Inv103 : Option Addr → Nat → Nat → Int → Int → Bool → Int → Nat → Imm → Heap → Imm → Heap → Prop) (h : ref00_ownActions.V (.int .u8) (.int .i64) .slice .bool (IntKind.wrap .i64) l_a l_n l_c I F Q Inv6 Inv18 Inv36 Inv51 Inv68 Inv83 Inv103) : Tri P 73 #[Value.slice l_a l_n l_c] I (F) Q :=
  tri_of_V (A := (annL [2003, 5006, 10003, 14001, 19003, 23002, 25012, 25026, 28001, 30015] [] [] shT_o3 [(6, ⟨[(3, (.int .i64))], [], fun fs I0 F0 vs m I F => match fs, vs with | [], [.int _ y0] => Inv6 y0 m I0 F0 I F | _, _ => False, [], []⟩), (18, ⟨[(4, (.int .i64))], [], fun fs I0 F0 vs m I F => match fs, vs with | [.int _ y0], [.int _ y1] => Inv18 y0 y1 m I0 F0 I F | _, _ => False, [3], []⟩), (36, ⟨[(5, .slc), (6, (.int .i64))], [], fun fs I0 F0 vs m I F => match fs, vs with | [], [.slice y0 y1 y2, .int _ y3] => Inv36 y0 y1 y2 y3 m I0 F0 I F | _, _ => False, [], []⟩), (51, ⟨[(7, .slc), (8, (.int .i64))], [], fun fs I0 F0 vs m I F => match fs, vs with | [.slice y0 y1 y2, .int _ y3], [.slice y4 y5 y6, .int _ y7] => Inv51 y0 y1 y2 y3 y4 y5 y6 y7 m I0 F0 I F | _, _ => False, [5, 6], []⟩), (68, ⟨[(2, .bool), (9, (.int .i64))], [], fun fs I0 F0 vs m I F => match fs, vs with | [.slice y0 y1 y2], [.bool y3, .int _ y4] => Inv68 y0 y1 y2 y3 y4 m I0 F0 I F | _, _ => False, [5], []⟩), (83, ⟨[(2, .bool), (11, (.int .i64))], [], fun fs I0 F0 vs m I F => match fs, vs with | [.slice y0 y1 y2, .int _ y3, .int _ y4], [.bool y5, .int _ y6] => Inv83 y0 y1 y2 y3 y4 y5 y6 m I0 F0 I F | _, _ => False, [5, 9, 10], []⟩), (103, ⟨[(2, .bool), (12, (.int .i64))], [], fun fs I0 F0 vs m I F => match fs, vs with | [.slice y0 y1 y2, .int _ y3, .int _ y4], [.bool y5, .int _ y6] => Inv103 y0 y1 y2 y3 y4 y5 y6 m I0 F0 I F | _, _ => False, [5, 9, 10], []⟩)] [16007, 17002] [] [] [] [] [])) (args := [.a (.v (Value.slice l_a l_n l_c))]) (own := []) (keep := []) [] Go.Proofs.Try.func73 h (by kernel_rfl) (by kernel_rfl) (by kernel_rfl) (by kernel_rfl) (by kernel_rfl) (by simp [AV.wf, At.wf]) (by simp [AV.wf, At.wf]) rfl
set_option maxRecDepth 100000 in
def ref00_ownTolds.V (vb vi : Int → Value) (vl : Option Addr → Nat → Nat → Value) (vt : Bool → Value) (wr : Int → Int) (l_a : Option Addr) (l_n l_c : Nat) (I : Imm) (F : Heap) (Q : PostQ) (Inv6 : Int → Nat → Imm → Heap → Imm → Heap → Prop) (Inv18 : Int → Int → Nat → Imm → Heap → Imm → Heap → Prop) (Inv36 : Option Addr → Nat → Nat → Int → Nat → Imm → Heap → Imm → Heap → Prop) (Inv51 : Option Addr → Nat → Nat → Int → Option Addr → Nat → Nat → Int → Nat → Imm → Heap → Imm → Heap → Prop) (Inv68 : Option Addr → Nat → Nat → Bool → Int → Nat → Imm → Heap → Imm → Heap → Prop) (Inv83 : Option Addr → Nat → Nat → Int → Int → Bool → Int → Nat → Imm → Heap → Imm → Heap → Prop) (Inv103 : Option Addr → Nat → Nat → Int → Int → Bool → Int → Nat → Imm → Heap → Imm → Heap → Prop) : Prop := (∃ m : Nat, Inv6 0 m I F I F) ∧ ∀ (i : Int) (m1 : Nat) (I1 : Imm) (F1 : Heap), Imm.le I I1 → Inv6 i m1 I F I1 F1 → ((decide (i < ((l_n : Nat) : Int)) = true → (∃ m2 : Nat, Inv18 i 0 m2 I1 F1 I1 F1) ∧ ∀ (k : Int) (m3 : Nat) (I2 : Imm) (F2 : Heap), Imm.le I1 I2 → Inv18 i k m3 I1 F1 I2 F2 → ((0 ≤ i ∧ i < (l_n : Int)) ∧ ∃ ad : Addr, l_a = some ad ∧ ∃ (m_a : Option Addr) (m_n m_c : Nat), Rd I2 (F2) (ad.add (Int.toNat (i) * 1)) [vl m_a m_n m_c] ∧ ((decide (k < ((m_n : Nat) : Int)) = true → ((0 ≤ i ∧ i < (l_n : Int)) ∧ ∃ ad1 : Addr, l_a = some ad1 ∧ ∃ (m_a1 : Option Addr) (m_n1 m_c1 : Nat), Rd I2 (F2) (ad1.add (Int.toNat (i) * 1)) [vl m_a1 m_n1 m_c1] ∧ ((0 ≤ k ∧ k < (m_n1 : Int)) ∧ ∃ ad2 : Addr, m_a1 = some ad2 ∧ ∃ (cs : List Value) (el : Nat) (F3 : Heap), List.Perm F2 (((ad2.add (Int.toNat (k) * 14)).block, Obj.cells cs.toArray el (0, 0)) :: F3) ∧ (ad2.add (Int.toNat (k) * 14)).spot = none ∧ (ad2.add (Int.toNat (k) * 14)).off + 14 ≤ cs.length ∧ (∃ m4 : Nat, m4 < m3 ∧ Inv18 i (wr (k + 1)) m4 I1 F1 I2 (((ad2.add (Int.toNat (k) * 14)).block, Obj.cells (splice (ad2.add (Int.toNat (k) * 14)).off [vb 0, vb 0, vi 0, vi 0, vi 0, vi 0, vb 0, vi 0, vi 0, vi 0, vi 0, vi (wr ((wr (i * 1000)) + k)), vi 0, vi 0] cs).toArray el (0, 0)) :: F3))))) ∧ (decide (k < ((m_n : Nat) : Int)) = false → (∃ m5 : Nat, m5 < m1 ∧ Inv6 (wr (i + 1)) m5 I F I2 F2))))) ∧ (decide (i < ((l_n : Nat) : Int)) = false → (∃ m6 : Nat, Inv36 none 0 0 0 m6 I1 F1 I1 F1) ∧ ∀ (long_a : Option Addr) (long_n long_c : Nat) (i1 : Int) (m7 : Nat) (I3 : Imm) (F4 : Heap), Imm.le I1 I3 → Inv36 long_a long_n long_c i1 m7 I1 F1 I3 F4 → ((decide (i1 < ((l_n : Nat) : Int)) = true → ((0 ≤ i1 ∧ i1 < (l_n : Int)) ∧ ∃ ad3 : Addr, l_a = some ad3 ∧ ∃ (m_a2 : Option Addr) (m_n2 m_c2 : Nat), Rd I3 (F4) (ad3.add (Int.toNat (i1) * 1)) [vl m_a2 m_n2 m_c2] ∧ (∃ m8 : Nat, Inv51 long_a long_n long_c i1 m_a2 m_n2 m_c2 0 m8 I3 F4 I3 F4) ∧ ∀ (x_a : Option Addr) (x_n x_c : Nat) (k1 : Int) (m9 : Nat) (I4 : Imm) (F5 : Heap), Imm.le I3 I4 → Inv51 long_a long_n long_c i1 x_a x_n x_c k1 m9 I3 F4 I4 F5 → ((decide (k1 < 16) = true → ∀ (b : Nat) (I5 : Imm), Imm.le I4 I5 → I5 b = some (Obj.cells #[vb 0, vb 0, vi 0, vi 0, vi 0, vi 0, vb 0, vi 0, vi 0, vi 0, vi 0, vi (wr ((wr ((wr ((-1) - i1)) * 1000)) - k1)), vi 0, vi 0] 187 (0, 0)) → TriE P (Builtin.append_ #[184, 184] 184 #[vl x_a x_n x_c, vl (some ⟨b, 0, none⟩) 1 1]) I5 (F5) fun v I6 G1 => ∃ (r_a : Option Addr) (r_n r_c : Nat), v = vl r_a r_n r_c ∧ ∃ F6 : Heap, List.Perm G1 (F6) ∧ (∃ m10 : Nat, m10 < m9 ∧ Inv51 long_a long_n long_c i1 r_a r_n r_c (wr (k1 + 1)) m10 I3 F4 I6 F6)) ∧ (decide (k1 < 16) = false → ∀ (b1 : Nat) (I7 : Imm), Imm.le I4 I7 → I7 b1 = some (Obj.cells #[vl x_a x_n x_c] 184 (0, 0)) → TriE P (Builtin.append_ #[67, 67] 67 #[vl long_a long_n long_c, vl (some ⟨b1, 0, none⟩) 1 1]) I7 (F5) fun v1 I8 G2 => ∃ (r_a1 : Option Addr) (r_n1 r_c1 : Nat), v1 = vl r_a1 r_n1 r_c1 ∧ ∃ F7 : Heap, List.Perm G2 (F7) ∧ (∃ m11 : Nat, m11 < m7 ∧ Inv36 r_a1 r_n1 r_c1 (wr (i1 + 1)) m11 I1 F1 I8 F7))))) ∧ (decide (i1 < ((l_n : Nat) : Int)) = false → (∃ m12 : Nat, Inv68 long_a long_n long_c false 0 m12 I3 F4 I3 F4) ∧ ∀ (x : Bool) (i2 : Int) (m13 : Nat) (I9 : Imm) (F8 : Heap), Imm.le I3 I9 → Inv68 long_a long_n long_c x i2 m13 I3 F4 I9 F8 → ((decide (i2 < ((l_n : Nat) : Int)) = true → ((0 ≤ i2 ∧ i2 < (l_n : Int)) ∧ ∃ ad4 : Addr, l_a = some ad4 ∧ ∃ (m_a3 : Option Addr) (m_n3 m_c3 : Nat), Rd I9 (F8) (ad4.add (Int.toNat (i2) * 1)) [vl m_a3 m_n3 m_c3] ∧ (∃ m14 : Nat, Inv83 long_a long_n long_c i2 ((m_n3 : Nat) : Int) x 0 m14 I9 F8 I9 F8) ∧ ∀ (x1 : Bool) (k2 : Int) (m15 : Nat) (I10 : Imm) (F9 : Heap), Imm.le I9 I10 → Inv83 long_a long_n long_c i2 ((m_n3 : Nat) : Int) x1 k2 m15 I9 F8 I10 F9 → ((decide (k2 < ((m_n3 : Nat) : Int)) = true → ((0 ≤ i2 ∧ i2 < (l_n : Int)) ∧ ∃ ad5 : Addr, l_a = some ad5 ∧ ∃ (m_a4 : Option Addr) (m_n4 m_c4 : Nat), Rd I10 (F9) (ad5.add (Int.toNat (i2) * 1)) [vl m_a4 m_n4 m_c4] ∧ ((0 ≤ k2 ∧ k2 < (m_n4 : Int)) ∧ ∃ ad6 : Addr, m_a4 = some ad6 ∧ ∃ (m_0 m_1 m_2 m_3 m_4 m_5 m_6 m_7 m_8 m_9 m_10 m_11 m_12 m_13 : Int), Rd I10 (F9) (ad6.add (Int.toNat (k2) * 14)) [vb m_0, vb m_1, vi m_2, vi m_3, vi m_4, vi m_5, vb m_6, vi m_7, vi m_8, vi m_9, vi m_10, vi m_11, vi m_12, vi m_13] ∧ ∃ q : Bool, BinRun P .neq 187 (.tmp 88) (.tmp 93) (Value.agg #[vb m_0, vb m_1, vi m_2, vi m_3, vi m_4, vi m_5, vb m_6, vi m_7, vi m_8, vi m_9, vi m_10, vi m_11, vi m_12, vi m_13]) (Value.agg #[vb 0, vb 0, vi 0, vi 0, vi 0, vi 0, vb 0, vi 0, vi 0, vi 0, vi 0, vi (wr ((wr (i2 * 1000)) + k2)), vi 0, vi 0]) q ∧ ((q = true → Q (.returned (vt false)) I10 (F9)) ∧ (q = false → ((0 ≤ i2 ∧ i2 < (long_n : Int)) ∧ ∃ ad7 : Addr, long_a = some ad7 ∧ ∃ (m_a5 : Option Addr) (m_n5 m_c5 : Nat), Rd I10 (F9) (ad7.add (Int.toNat (i2) * 1)) [vl m_a5 m_n5 m_c5] ∧ ((0 ≤ k2 ∧ k2 < (m_n5 : Int)) ∧ ∃ ad8 : Addr, m_a5 = some ad8 ∧ ∃ (m_01 m_14 m_21 m_31 m_41 m_51 m_61 m_71 m_81 m_91 m_101 m_111 m_121 m_131 : Int), Rd I10 (F9) (ad8.add (Int.toNat (k2) * 14)) [vb m_01, vb m_14, vi m_21, vi m_31, vi m_41, vi m_51, vb m_61, vi m_71, vi m_81, vi m_91, vi m_101, vi m_111, vi m_121, vi m_131] ∧ ∃ q1 : Bool, BinRun P .neq 187 (.tmp 102) (.tmp 107) (Value.agg #[vb m_01, vb m_14, vi m_21, vi m_31, vi m_41, vi m_51, vb m_61, vi m_71, vi m_81, vi m_91, vi m_101, vi m_111, vi m_121, vi m_131]) (Value.agg #[vb 0, vb 0, vi 0, vi 0, vi 0, vi 0, vb 0, vi 0, vi 0, vi 0, vi 0, vi (wr ((wr (i2 * 1000)) + k2)), vi 0, vi 0]) q1 ∧ ((q1 = true → Q (.returned (vt false)) I10 (F9)) ∧ (q1 = false → (∃ m16 : Nat, m16 < m15 ∧ Inv83 long_a long_n long_c i2 ((m_n3 : Nat) : Int) x1 (wr (k2 + 1)) m16 I9 F8 I10 F9)))))))))) ∧ (decide (k2 < ((m_n3 : Nat) : Int)) = false → (∃ m17 : Nat, Inv103 long_a long_n long_c i2 ((m_n3 : Nat) : Int) x1 0 m17 I10 F9 I10 F9) ∧ ∀ (x2 : Bool) (k3 : Int) (m18 : Nat) (I11 : Imm) (F10 : Heap), Imm.le I10 I11 → Inv103 long_a long_n long_c i2 ((m_n3 : Nat) : Int) x2 k3 m18 I10 F9 I11 F10 → ((decide (k3 < 16) = true → ((0 ≤ i2 ∧ i2 < (long_n : Int)) ∧ ∃ ad9 : Addr, long_a = some ad9 ∧ ∃ (m_a6 : Option Addr) (m_n6 m_c6 : Nat), Rd I11 (F10) (ad9.add (Int.toNat (i2) * 1)) [vl m_a6 m_n6 m_c6] ∧ ((0 ≤ (wr (((m_n3 : Nat) : Int) + k3)) ∧ (wr (((m_n3 : Nat) : Int) + k3)) < (m_n6 : Int)) ∧ ∃ ad10 : Addr, m_a6 = some ad10 ∧ ∃ (m_02 m_15 m_22 m_32 m_42 m_52 m_62 m_72 m_82 m_92 m_102 m_112 m_122 m_132 : Int), Rd I11 (F10) (ad10.add (Int.toNat (wr (((m_n3 : Nat) : Int) + k3)) * 14)) [vb m_02, vb m_15, vi m_22, vi m_32, vi m_42, vi m_52, vb m_62, vi m_72, vi m_82, vi m_92, vi m_102, vi m_112, vi m_122, vi m_132] ∧ ∃ q2 : Bool, BinRun P .neq 187 (.tmp 122) (.tmp 128) (Value.agg #[vb m_02, vb m_15, vi m_22, vi m_32, vi m_42, vi m_52, vb m_62, vi m_72, vi m_82, vi m_92, vi m_102, vi m_112, vi m_122, vi m_132]) (Value.agg #[vb 0, vb 0, vi 0, vi 0, vi 0, vi 0, vb 0, vi 0, vi 0, vi 0, vi 0, vi (wr ((wr ((wr ((-1) - i2)) * 1000)) - k3)), vi 0, vi 0]) q2 ∧ ((q2 = true → Q (.returned (vt false)) I11 (F10)) ∧ (q2 = false → (∃ m19 : Nat, m19 < m18 ∧ Inv103 long_a long_n long_c i2 ((m_n3 : Nat) : Int) x2 (wr (k3 + 1)) m19 I10 F9 I11 F10)))))) ∧ (decide (k3 < 16) = false → (∃ m20 : Nat, m20 < m13 ∧ Inv68 long_a long_n long_c x2 (wr (i2 + 1)) m20 I3 F4 I11 F10))))))) ∧ (decide (i2 < ((l_n : Nat) : Int)) = false → Q (.returned (vt true)) I9 (F8)))))))
set_option maxRecDepth 100000 in
theorem ref00_ownTolds.vc {l_a : Option Addr} {l_n l_c : Nat} {I : Imm} {F : Heap} {Q : PostQ} (Inv6 : Int → Nat → Imm → Heap → Imm → Heap → Prop) (Inv18 : Int → Int → Nat → Imm → Heap → Imm → Heap → Prop) (Inv36 : Option Addr → Nat → Nat → Int → Nat → Imm → Heap → Imm → Heap → Prop) (Inv51 : Option Addr → Nat → Nat → Int → Option Addr → Nat → Nat → Int → Nat → Imm → Heap → Imm → Heap → Prop) (Inv68 : Option Addr → Nat → Nat → Bool → Int → Nat → Imm → Heap → Imm → Heap → Prop) (Inv83 : Option Addr → Nat → Nat → Int → Int → Bool → Int → Nat → Imm → Heap → Imm → Heap → Prop) (Inv103 : Option Addr → Nat → Nat → Int → Int → Bool → Int → Nat → Imm → Heap → Imm → Heap → Prop) (h : ref00_ownTolds.V (.int .u8) (.int .i64) .slice .bool (IntKind.wrap .i64) l_a l_n l_c I F Q Inv6 Inv18 Inv36 Inv51 Inv68 Inv83 Inv103) : Tri P 74 #[Value.slice l_a l_n l_c] I (F) Q :=
  tri_of_V (A := (annL [2003, 5006, 10003, 14001, 19003, 23002, 25012, 25026, 28001, 30015] [] [] shT_o3 [(6, ⟨[(3, (.int .i64))], [], fun fs I0 F0 vs m I F => match fs, vs with | [], [.int _ y0] => Inv6 y0 m I0 F0 I F | _, _ => False, [], []⟩), (18, ⟨[(4, (.int .i64))], [], fun fs I0 F0 vs m I F => match fs, vs with | [.int _ y0], [.int _ y1] => Inv18 y0 y1 m I0 F0 I F | _, _ => False, [3], []⟩), (36, ⟨[(5, .slc), (6, (.int .i64))], [], fun fs I0 F0 vs m I F => match fs, vs with | [], [.slice y0 y1 y2, .int _ y3] => Inv36 y0 y1 y2 y3 m I0 F0 I F | _, _ => False, [], []⟩), (51, ⟨[(7, .slc), (8, (.int .i64))], [], fun fs I0 F0 vs m I F => match fs, vs with | [.slice y0 y1 y2, .int _ y3], [.slice y4 y5 y6, .int _ y7] => Inv51 y0 y1 y2 y3 y4 y5 y6 y7 m I0 F0 I F | _, _ => False, [5, 6], []⟩), (68, ⟨[(2, .bool), (9, (.int .i64))], [], fun fs I0 F0 vs m I F => match fs, vs with | [.slice y0 y1 y2], [.bool y3, .int _ y4] => Inv68 y0 y1 y2 y3 y4 m I0 F0 I F | _, _ => False, [5], []⟩), (83, ⟨[(2, .bool), (11, (.int .i64))], [], fun fs I0 F0 vs m I F => match fs, vs with | [.slice y0 y1 y2, .int _ y3, .int _ y4], [.bool y5, .int _ y6] => Inv83 y0 y1 y2 y3 y4 y5 y6 m I0 F0 I F | _, _ => False, [5, 9, 10], []⟩), (103, ⟨[(2, .bool), (12, (.int .i64))], [], fun fs I0 F0 vs m I F => match fs, vs with | [.slice y0 y1 y2, .int _ y3, .int _ y4], [.bool y5, .int _ y6] => Inv103 y0 y1 y2 y3 y4 y5 y6 m I0 F0 I F | _, _ => False, [5, 9, 10], []⟩)] [16007, 17002] [] [] [] [] [])) (args := [.a (.v (Value.slice l_a l_n l_c))]) (own := []) (keep := []) [] Go.Proofs.Try.func74 h (by kernel_rfl) (by kernel_rfl) (by kernel_rfl) (by kernel_rfl) (by kernel_rfl) (by simp [AV.wf, At.wf]) (by simp [AV.wf, At.wf]) rfl
end Go.Lx
namespace Go.Lx
open Go.Vc
theorem conv_byte {P : Program} {src dst e : TypeId} (hs : P.underlying src = some (.slice e)) (he : P.underlying e = some (.int .u8)) (hd : P.underlying dst = some .string)
    {I : Imm} {F : Heap} {b t c : Nat} {fz : Nat × Nat} {n : Int} (hb : I b = some (.cells #[.int .u8 n] t fz)) :
    TriE P (Go.convert src dst (.slice (some ⟨b, 0, none⟩) 1 c)) I F fun v I' G => v = .string ⟨#[UInt8.ofNat n.toNat]⟩ ∧ I' = I ∧ G = F := by
  intro w hw
  refine ⟨_, w, I, F, ?_, Imm.le_refl I, hw, rfl, rfl, rfl⟩
  rw [run_convert_bytes_string w src dst e _ _ _ hs he hd, run_bytesToString w ⟨b, 0, none⟩ 1 c [n]]
  · rfl
  · have hrd : Rd I F ⟨b, 0, none⟩ [.int .u8 n] := ⟨rfl, _, _, _, .inl hb, fun j hj => by
      have : j = 0 := by simpa using hj
      subst this; rfl⟩
    exact loadCells_run 1 0 [.int .u8 n] #[] rfl fun j hj => by
      rw [Nat.zero_add]
      exact hrd.cell hw j hj
theorem _root_.Go.Vc.Rd.one {I : Imm} {G : Heap} {ad : Addr} {cs : List Value} (h : Rd I G ad cs) {v : Value} (hv : cs[0]? = some v) : Rd I G ad [v] := by
  obtain ⟨h1, cells, e, fz, h2, h3⟩ := h
  refine ⟨h1, cells, e, fz, h2, fun j hj => ?_⟩
  have : j = 0 := by simpa using hj
  subst this
  rw [h3 0 (by cases cs <;> simp_all)]; simpa using hv
def mkByte (n : Int) : ByteArray := ⟨#[UInt8.ofNat (IntKind.wrap .u8 (IntKind.wrap .i64 (97 + Int.tmod n 26))).toNat]⟩
def markP (n : Nat) : ByteArray := if n < 26 then mkByte n else markP (n / 26) ++ mkByte n
termination_by n
decreasing_by omega
def markT (n : Int) : ByteArray := if n < 0 then (⟨#[45]⟩ : ByteArray) ++ markP (-n).toNat else markP n.toNat
def tmarkV (n : Int) : Value := .string (markT n)
theorem markP_size : ∀ n, (markP n).size ≤ n + 1 := by
  intro n
  induction n using Nat.strongRecOn with
  | ind n ih =>
    rw [markP]
    split
    · show 1 ≤ n + 1; omega
    · rw [ByteArray.size_append]
      have := ih (n / 26) (by omega)
      show _ + 1 ≤ _
      omega
theorem markP_spec : ∀ (n : Nat), (n : Int) < 4611686018427387904 → ∀ (I : Imm) (X : Heap), Tri P 92 #[.int .i64 (n : Int)] I X fun e I' G => e = .returned (.string (markP n)) ∧ G = X := by
  intro n
  induction n using Nat.strongRecOn with
  | ind n ih =>
    intro hn I X
    refine ref00_mark.vc ?_
    unfold ref00_mark.V
    refine ⟨fun h => absurd (of_decide_eq_true h) (by omega), fun _ b I2 hI2 hb => ?_⟩
    refine (conv_byte (e := 5) (by kernel_rfl) (by kernel_rfl) (by kernel_rfl) hb).mono fun v I3 G2 _ ⟨hv, hI3, hG⟩ => ?_
    subst hI3 hG
    refine ⟨_, hv, _, .refl _, fun h => ?_, fun h => ?_⟩
    · have h := of_decide_eq_true h
      have e26 : Int.tdiv (n : Int) 26 = ((n / 26 : Nat) : Int) := rfl
      rw [e26, w64 (by omega)]
      refine (ih (n / 26) (by omega) (by omega) I3 _).mono fun e I4 G3 _ ⟨he, hG⟩ => ⟨_, he, _, by rw [hG], ?_, ?_, rfl⟩
      · have := markP_size (n / 26)
        show (((markP (n / 26)).size + 1 : Nat) : Int) ≤ 9223372036854775807
        omega
      · have e1 : markP n = markP (n / 26) ++ mkByte n := by rw [markP, if_neg (by omega)]
        rw [e1]; rfl
    · have h := of_decide_eq_false h
      have e1 : markP n = mkByte n := by rw [markP, if_pos (by omega)]
      exact ⟨by rw [e1]; rfl, rfl⟩
theorem tmark_spec {n : Int} (hn : -4611686018427387904 < n ∧ n < 4611686018427387904) (I : Imm) (X : Heap) : Tri P 92 #[.int .i64 n] I X fun e I' G => e = .returned (tmarkV n) ∧ G = X := by
  unfold tmarkV markT
  by_cases h : n < 0
  · rw [if_pos h]
    refine ref00_mark.vc ?_
    unfold ref00_mark.V
    refine ⟨fun _ => ?_, fun h' => absurd (of_decide_eq_false h') (by omega)⟩
    rw [w64 (by omega), show 0 - n = (((-n).toNat : Nat) : Int) by omega]
    refine (markP_spec (-n).toNat (by omega) I X).mono fun e I4 G3 _ ⟨he, hG⟩ => ⟨_, he, _, by rw [hG], ?_, rfl, rfl⟩
    have := markP_size (-n).toNat
    show ((1 + (markP (-n).toNat).size : Nat) : Int) ≤ 9223372036854775807
    omega
  · rw [if_neg h]
    have := markP_spec n.toNat (by omega) I X
    rwa [Int.toNat_of_nonneg (by omega)] at this
def mkN (i k : Int) : Int := IntKind.wrap .i64 (IntKind.wrap .i64 (i * 1000) + k)
def bhN (i k : Int) : Int := IntKind.wrap .i64 (IntKind.wrap .i64 (IntKind.wrap .i64 ((-1) - i) * 1000) - k)
def mkT (i k : Int) : Value := tmarkV (mkN i k)
def bhT (i k : Int) : Value := tmarkV (bhN i k)
theorem mkN_range {i k : Int} (h0 : 0 ≤ i) (h1 : i ≤ 1000000000) (k0 : 0 ≤ k) (k1 : k ≤ 1000000000) : -4611686018427387904 < mkN i k ∧ mkN i k < 4611686018427387904 := by
  unfold mkN; rw [w64 (n := i * 1000) (by omega), w64 (by omega)]; omega
theorem bhN_range {i k : Int} (h0 : 0 ≤ i) (h1 : i ≤ 1000000000) (k0 : 0 ≤ k) (k1 : k ≤ 1000000000) : -4611686018427387904 < bhN i k ∧ bhN i k < 4611686018427387904 := by
  unfold bhN; rw [w64 (n := (-1) - i) (by omega), w64 (n := ((-1) - i) * 1000) (by omega), w64 (by omega)]; omega
theorem ownTexts_spec {rs : List Row} {ls : List (List (Ck 1))} {H F : Heap} {la : Option Addr} {ln lc : Nat} {I : Imm} (hS : Sl I 1 Row.enc la ln rs) (hH : RowsH 1 9 rs ls H) (hb : Bd ls) (hrs : rs.length ≤ 1000000000) :
    Tri P 75 #[.slice la ln lc] I (H ++ F) fun e I' G => e = .returned (.bool true) ∧ G = F := by
  refine OwnPost.keep ?_
  have hln := hS.1
  refine ref00_ownTexts.vc
    (fun i m I0 F0 I' F' => 0 ≤ i ∧ i ≤ ln ∧ m = (ln - i).toNat ∧ ∃ ls H, RowsH 1 9 rs ls H ∧ F'.Perm (H ++ F) ∧ Bd ls ∧ ∀ (j : Nat) l, (j : Int) < i → ls[j]? = some l → MkAll 0 mkT j l)
    (fun i k m I0 F0 I' F' => 0 ≤ i ∧ 0 ≤ k ∧ ∃ r, rs[i.toNat]? = some r ∧ k ≤ r.n ∧ m = (r.n - k).toNat ∧ ∃ ls H, RowsH 1 9 rs ls H ∧ F'.Perm (H ++ F) ∧ Bd ls ∧ (∀ (j : Nat) l, (j : Int) < i → ls[j]? = some l → MkAll 0 mkT j l) ∧
      ∀ l, ls[i.toNat]? = some l → MkTo 0 mkT i k l)
    (fun a n c i m I0 F0 I' F' => 0 ≤ i ∧ i ≤ ln ∧ m = (ln - i).toNat ∧ ∃ ls H xs Al, RowsH 1 9 (rs.drop i.toNat) (ls.drop i.toNat) H ∧ Acc 1 Row.enc 54 a n c xs Al ∧ F'.Perm (Al ++ (H ++ F)) ∧ (xs.length : Int) = i ∧ Bd ls ∧
      (∀ (j : Nat) l, ls[j]? = some l → MkAll 0 mkT j l) ∧ ∀ (j : Nat) r x, (j : Int) < i → rs[j]? = some r → xs[j]? = some x → Done (z := 1) 0 16 mkT bhT I' j r x)
    (fun a n c i xa xn xc k m I0 F0 I' F' => 0 ≤ i ∧ i < ln ∧ 0 ≤ k ∧ k ≤ 16 ∧ m = (16 - k).toNat ∧ ∃ (ls : List (List (Ck 1))) (H : Heap) (xs : List Row) (Al : Heap) (r : Row) (l t : List (Ck 1)) (A : Heap), rs[i.toNat]? = some r ∧ RowsH 1 9 (rs.drop (i.toNat + 1)) (ls.drop (i.toNat + 1)) H ∧ Acc 1 Row.enc 54 a n c xs Al ∧
      Acc 1 cv 9 xa xn xc (l ++ t) A ∧ F'.Perm (A ++ (Al ++ (H ++ F))) ∧ (xs.length : Int) = i ∧ Bd ls ∧ (∀ (j : Nat) l, ls[j]? = some l → MkAll 0 mkT j l) ∧ MkAll 0 mkT i l ∧ (t.length : Int) = k ∧ MkAll 0 bhT i t ∧ r.n = l.length ∧ l.length ≤ 1000000000 ∧
      (xa = r.a ∨ Sl I' 1 cv r.a r.n l) ∧ ∀ (j : Nat) r x, (j : Int) < i → rs[j]? = some r → xs[j]? = some x → Done (z := 1) 0 16 mkT bhT I' j r x)
    (fun a n c x i m I0 F0 I' F' => 0 ≤ i ∧ i ≤ ln ∧ m = (ln - i).toNat ∧ (∃ A, F'.Perm (A ++ F)) ∧ ∃ xs, SlG I' F' 1 Row.enc a n xs ∧ xs.length = ln ∧ ∀ (j : Nat) r x, rs[j]? = some r → xs[j]? = some x → Done (z := 1) 0 16 mkT bhT I' j r x)
    (fun a n c i nn x k m I0 F0 I' F' => 0 ≤ i ∧ i < ln ∧ 0 ≤ k ∧ (∃ r, rs[i.toNat]? = some r ∧ nn = r.n ∧ r.n ≤ 1000000000 ∧ k ≤ r.n ∧ m = (r.n - k).toNat) ∧ (∃ A, F'.Perm (A ++ F)) ∧ ∃ xs, SlG I' F' 1 Row.enc a n xs ∧ xs.length = ln ∧ ∀ (j : Nat) r x, rs[j]? = some r → xs[j]? = some x → Done (z := 1) 0 16 mkT bhT I' j r x)
    (fun a n c i nn x k m I0 F0 I' F' => 0 ≤ i ∧ i < ln ∧ 0 ≤ k ∧ k ≤ 16 ∧ m = (16 - k).toNat ∧ (∃ r, rs[i.toNat]? = some r ∧ nn = r.n ∧ r.n ≤ 1000000000) ∧ (∃ A, F'.Perm (A ++ F)) ∧ ∃ xs, SlG I' F' 1 Row.enc a n xs ∧ xs.length = ln ∧ ∀ (j : Nat) r x, rs[j]? = some r → xs[j]? = some x → Done (z := 1) 0 16 mkT bhT I' j r x) ?_
  unfold ref00_ownTexts.V
  refine ⟨⟨_, by omega, by omega, rfl, ls, H, hH, .refl _, hb, fun j l hj => by omega⟩, ?_⟩
  intro i m1 I1 F1 hI1 ⟨i0, i1, im, ls1, H1, hH1, hp1, hb1, hm1⟩
  have hS1 := hS.mono hI1
  refine ⟨fun hlt => ?_, fun hlt => ?_⟩
  · -- the marks of row i
    have hlt := of_decide_eq_true hlt
    obtain ⟨ad, r, had, hr, hrd⟩ := hS1.at (i := i) i0 (by omega)
    refine ⟨⟨_, i0, by omega, r, hr, by omega, rfl, ls1, H1, hH1, hp1, hb1, hm1, fun l _ q x _ hq => by omega⟩, ?_⟩
    intro k m3 I2 F2 hI2 ⟨_, k0, r', hr', k1, km, ls2, H2, hH2, hp2, hb2, hm2, hmk⟩
    obtain rfl : r = r' := by rw [hr] at hr'; exact Option.some.inj hr'
    have hrd2 := fun G => (hrd G).mono hI2
    refine ⟨⟨i0, by omega⟩, ad, had, _, _, _, hrd2 _, fun hk => ?_, fun hk => ?_⟩
    · have hk := of_decide_eq_true hk
      obtain ⟨l, A, R, hl, hA, hpA, hset⟩ := hH2.focus hr
      have hkb : k ≤ 1000000000 := by have := hb2 _ _ hl; have := hA.1; omega
      refine ⟨⟨i0, by omega⟩, ad, had, _, _, _, hrd2 _, markT (mkN i k), (tmark_spec (mkN_range i0 (by omega) k0 hkb) I2 _).mono fun e I' G _ ⟨h1, h2⟩ => ⟨h1, by rw [h2]⟩, ⟨k0, by omega⟩, ?_⟩
      obtain ⟨b, cs, ha, hAe, hlen, hA'⟩ := hA.put (k := k.toNat) (o := 0) (by omega) (by decide) (mkT i k)
      obtain ⟨H3, hH3, hp3⟩ := hset _ _ hA'
      subst hAe
      refine ⟨⟨b, 0, none⟩, ha, cs, 9, R ++ F, ?_, ?_, ?_, m3 - 1, by omega, ?_⟩
      · rw [add_lit0]; exact hp2.trans (List.Perm.append_right F hpA)
      · rw [add_lit0]
      · rw [add_lit0]; exact hlen
      · rw [add_lit0, w64 (by have := hb2 _ _ hl; have := hA.1; omega)]
        refine ⟨i0, by omega, r, hr, by omega, by omega, _, H3, hH3, ?_, hb2.set hl _, marks_set hm2 _ i0, fun l' hl' => ?_⟩
        · exact (List.Perm.append_right F hp3).symm
        · have hlt2 : i.toNat < ls2.length := (List.getElem?_eq_some_iff.1 hl).1
          rw [List.getElem?_set_self hlt2] at hl'
          obtain rfl : l.modify k.toNat (setC 0 (mkT i k)) = l' := Option.some.inj hl'
          exact (hmk l hl).step (by decide) k0
    · have hk := of_decide_eq_false hk
      rw [w64 (by omega)]
      refine ⟨_, ?_, by omega, by omega, rfl, ls2, H2, hH2, hp2, hb2, fun j l hj hl => ?_⟩
      · omega
      · rcases Int.lt_or_eq_of_le (Int.lt_add_one_iff.1 hj) with h | h
        · exact hm2 j l h hl
        · have hji : j = i.toNat := by omega
          subst hji
          have hmk' := hmk l hl
          obtain ⟨l', A, R, hl', hA, _⟩ := hH2.focus hr
          obtain rfl : l' = l := by rw [hl'] at hl; exact Option.some.inj hl
          intro q x hx
          have hq := (List.getElem?_eq_some_iff.1 hx).1
          rw [h]
          exact hmk' q x hx (by have := hA.1; omega)
  · -- the rows grow
    have hlt := of_decide_eq_false hlt
    have hall : ∀ (j : Nat) l, ls1[j]? = some l → MkAll 0 mkT j l := fun j l hl => hm1 j l (by have := hH1.len; have := (List.getElem?_eq_some_iff.1 hl).1; omega) hl
    refine ⟨⟨_, by omega, by omega, rfl, ls1, H1, [], [], hH1, Acc.nil, hp1, rfl, hb1, hall, fun j r x hj => by omega⟩, ?_⟩
    intro a n c i m7 I4 F4 hI4 ⟨i0, i1, im, ls4, H4, xs, Al, hH4, hAl, hp4, hxl, hb4, hm4, hd4⟩
    have hS4 := hS1.mono hI4
    refine ⟨fun hlt => ?_, fun hlt => ?_⟩
    · have hlt := of_decide_eq_true hlt
      obtain ⟨ad, r, had, hr, hrd⟩ := hS4.at (i := i) i0 (by omega)
      obtain ⟨l, A, H5, hl, hHe, hA, hH5⟩ := hH4.drop hr
      subst hHe
      refine ⟨⟨i0, by omega⟩, ad, had, _, _, _, hrd _, ⟨_, i0, by omega, by omega, by omega, rfl, ls4, H5, xs, Al, r, l, [], A, hr, hH5, hAl, by rw [List.append_nil]; exact hA, ?_, hxl, hb4, hm4, by have := hm4 _ _ hl; rwa [Int.toNat_of_nonneg i0] at this, rfl, fun q x hx => by simp at hx, hA.1, hb4 _ _ hl, .inl rfl, hd4⟩, ?_⟩
      · refine hp4.trans ?_
        rw [List.append_assoc A H5 F, ← List.append_assoc Al A, ← List.append_assoc A Al]
        exact List.Perm.append_right _ List.perm_append_comm
      intro xa xn xc k m9 I5 F5 hI5 ⟨_, _, k0, k1, km, ls5, H5', xs5, Al5, r5, l5, t5, A5, hr5, hH5', hAl5, hA5, hp5, hxl5, hb5, hm5, hml5, ht5, hmt5, hrn5, hl5, hor5, hd5⟩
      obtain rfl : r = r5 := by rw [hr] at hr5; exact Option.some.inj hr5
      refine ⟨fun hk => ?_, fun hk => ?_⟩
      · have hk := of_decide_eq_true hk
        refine Tri.ret (tmark_spec (bhN_range i0 (by omega) k0 (by omega)) I5 _) fun I6 hI6 => ⟨_, rfl, F5, .refl _, ?_⟩
        intro b I7 hI7 hb7
        let y : Ck 1 := ⟨[bhT i k], rfl⟩
        refine TriE.perm (TriE.mono (append_spec' (f := cv) (z := 1) (zv := .string ⟨#[]⟩) cv_len (by' := 16) (by kernel_rfl) (by kernel_rfl) rfl (by decide) hA5 (xs := [y]) ?_ (by simp) rfl ?_ ?_ (F := Al5 ++ (H5' ++ F)))
          fun v I8 G3 hI8 ⟨a', n', c', A', hv, hA', hG, hor⟩ => ?_) hp5
        · intro x hx u hu
          rw [List.mem_singleton] at hx; subst hx
          exact List.all_eq_true.1 (show (cv y).all (fun u => u.oneCell') = true from rfl) u hu
        · exact ⟨rfl, _, _, _, .inl hb7, fun j hj => by simp [y, cv, bhT, tmarkV]⟩
        · rw [List.length_append]; simp only [List.length_cons, List.length_nil]; omega
        subst hG
        have hle8 : Imm.le I5 I8 := Imm.le_trans hI6 (Imm.le_trans hI7 hI8)
        refine ⟨_, _, _, hv, _, .refl _, m9 - 1, by omega, i0, by omega, by rw [w64 (by omega)]; omega, by rw [w64 (by omega)]; omega, by rw [w64 (by omega)]; omega,
          ls5, H5', xs5, Al5, r, l5, t5 ++ [y], A', hr, hH5', hAl5, by rw [← List.append_assoc]; exact hA', .refl _, hxl5, hb5, hm5, hml5, ?_, ?_, hrn5, hl5, ?_, fun j r x hj hr hx => (hd5 j r x hj hr hx).mono hle8⟩
        · rw [w64 (by omega), List.length_append, List.length_singleton]; omega
        · refine hmt5.snoc ?_
          show some (bhT i k) = _
          rw [ht5]
        · rcases hor5 with h | h
          · rcases hor with h' | h'
            · exact .inl (h'.trans h)
            · right
              rw [← h, hrn5]
              exact Sl.prefix h'
          · exact .inr (h.mono hle8)
      · have hk := of_decide_eq_false hk
        intro b1 I9 hI9 hb9
        refine TriE.pre fun w hw => ?_
        obtain ⟨J, hJ, hsJ, hSx⟩ := hA5.keep cv_len (hw.perm hp5)
        have hle9 : Imm.le I5 J := Imm.le_trans hI9 hJ
        refine ⟨J, _, hJ, hsJ, ?_⟩
        refine TriE.mono (append_spec' (f := Row.enc) (z := 1) (zv := .slice none 0 0) (fun _ => rfl) (by' := 24) (by kernel_rfl) (by kernel_rfl) rfl (by decide) hAl5 (xs := [⟨xa, xn, xc⟩]) (fun x _ => rows_one x) (by simp) rfl ?_ ?_ (F := H5' ++ F))
          fun v I10 G4 hI10 ⟨a', n', c', A', hv, hA', hG, hor⟩ => ?_
        · exact ⟨rfl, _, _, _, .inl (hJ.at hb9), fun j hj => by simp [Row.enc]⟩
        · simp only [List.length_cons, List.length_nil]; omega
        subst hG
        have hle10 : Imm.le I5 I10 := Imm.le_trans hle9 hI10
        refine ⟨_, _, _, hv, _, .refl _, m7 - 1, by omega, by rw [w64 (by omega)]; omega, by rw [w64 (by omega)]; omega, by rw [w64 (by omega)]; omega, ls5, H5', xs5 ++ [⟨xa, xn, xc⟩], A', ?_, hA', .refl _, ?_, hb5, hm5, ?_⟩
        · rw [w64 (by omega), show (i + 1).toNat = i.toNat + 1 by omega]; exact hH5'
        · rw [w64 (by omega), List.length_append, List.length_singleton]; omega
        · intro j r' x' hj hr' hx'
          rw [w64 (by omega)] at hj
          rcases Int.lt_or_eq_of_le (Int.lt_add_one_iff.1 hj) with h | h
          · rw [List.getElem?_append_left (by omega)] at hx'
            exact (hd5 j r' x' h hr' hx').mono hle10
          · have hji : j = i.toNat := by omega
            subst hji
            obtain rfl : r = r' := by rw [hr] at hr'; exact Option.some.inj hr'
            have hx2 : x' = ⟨xa, xn, xc⟩ := by
              have : i.toNat = xs5.length := by omega
              rw [this, List.getElem?_append_right (Nat.le_refl _), Nat.sub_self] at hx'
              simpa using hx'.symm
            subst hx2
            rw [h]
            refine ⟨l5, t5, ?_, hml5, hSx.mono hI10, by omega, hmt5⟩
            rcases hor5 with h' | h'
            · rw [← h', hrn5]; exact (Sl.prefix hSx).mono hI10
            · exact h'.mono hle10
    · -- the look at all of them
      have hlt := of_decide_eq_false hlt
      have hxs : xs.length = ln := by omega
      refine ⟨⟨_, by omega, by omega, rfl, ⟨Al ++ H4, by rw [List.append_assoc]; exact hp4⟩, xs, (Acc.slg (z := 1) (f := Row.enc) (fun _ => rfl) hAl I4 (G := F4) fun x hx => hp4.mem_iff.2 (List.mem_append_left _ hx)), hxs,
        fun j r x hr hx => hd4 j r x (by have := (List.getElem?_eq_some_iff.1 hx).1; omega) hr hx⟩, ?_⟩
      intro x i m13 I11 F9 hI11 ⟨i0, i1, im, ⟨A9, hp9⟩, xs, hsl, hxs, hd⟩
      have hS11 := hS4.mono hI11
      refine ⟨fun hlt => ?_, fun hlt => ⟨rfl, A9, hp9⟩⟩
      have hlt := of_decide_eq_true hlt
      obtain ⟨ad, r, had, hr, hrd⟩ := hS11.at (i := i) i0 (by omega)
      obtain ⟨adx, xr, hadx, hxr, hrdx⟩ := hsl.at (i := i) i0 (by have := hsl.1; omega)
      have hrn : r.n ≤ 1000000000 := by
        obtain ⟨l, A, R, hl, hA, _⟩ := hH.focus hr
        have := hb _ _ hl
        have := hA.1
        omega
      refine ⟨⟨i0, by omega⟩, ad, had, _, _, _, hrd _, ⟨_, i0, by omega, by omega, ⟨r, hr, rfl, hrn, by omega, rfl⟩, ⟨A9, hp9⟩, xs, hsl, hxs, hd⟩, ?_⟩
      intro x1 k m15 I12 F10 hI12 ⟨_, _, k0, ⟨r', hr', hnn, _, k1, km⟩, ⟨A10, hp10⟩, xs2, hsl2, hxs2, hd2⟩
      obtain rfl : r = r' := by rw [hr] at hr'; exact Option.some.inj hr'
      obtain ⟨adx2, xr2, hadx2, hxr2, hrdx2⟩ := hsl2.at (i := i) i0 (by have := hsl2.1; omega)
      obtain ⟨l, t, hSl, hml, hSx, htl, hmt⟩ := hd2 _ _ _ hr hxr2
      have hrl := hSl.1
      have hxl := hSx.1
      rw [List.length_append] at hxl
      have hrd2 := fun G => (hrd G).mono hI12
      have hii : ((i.toNat : Nat) : Int) = i := Int.toNat_of_nonneg i0
      rw [hii] at hml hmt
      refine ⟨fun hk => ?_, fun hk => ?_⟩
      · have hk := of_decide_eq_true hk
        obtain ⟨ad6, y, ha6, hy, hrd6⟩ := hSl.at (i := k) k0 (by omega)
        have hyv := hml _ _ hy
        have hkk : ((k.toNat : Nat) : Int) = k := Int.toNat_of_nonneg k0
        rw [hkk] at hyv
        obtain ⟨ad8, y', ha8, hy', hrd8⟩ := hSx.at (i := k) k0 (by omega)
        obtain rfl : y = y' := by
          rw [List.getElem?_append_left (by omega), hy] at hy'; exact Option.some.inj hy'
        have hsp : ∀ X : Heap, Tri P 92 #[.int .i64 (mkN i k)] I12 X fun e I' G => e = .returned (.string (markT (mkN i k))) ∧ G.Perm X := fun X => (tmark_spec (mkN_range i0 (by omega) k0 (by omega)) I12 X).mono fun e I' G _ ⟨h1, h2⟩ => ⟨h1, by rw [h2]⟩
        refine ⟨⟨i0, by omega⟩, ad, had, _, _, _, hrd2 _, ⟨k0, by omega⟩, ad6, ha6, markT (mkN i k), (hrd6 _).one hyv, markT (mkN i k), hsp _, fun h => by simp at h, fun _ => ⟨⟨i0, by have := hsl2.1; omega⟩, adx2, hadx2, _, _, _, hrdx2, ⟨k0, by omega⟩, ad8, ha8, markT (mkN i k), (hrd8 _).one hyv, markT (mkN i k), hsp _, fun h => by simp at h, fun _ => ?_⟩⟩
        rw [w64 (by omega)]
        exact ⟨_, by omega, i0, by omega, by omega, ⟨r, hr, hnn, hrn, by omega, rfl⟩, ⟨A10, hp10⟩, xs2, hsl2, hxs2, hd2⟩
      · have hk := of_decide_eq_false hk
        refine ⟨⟨_, i0, by omega, by omega, by omega, rfl, ⟨r, hr, rfl, hrn⟩, ⟨A10, hp10⟩, xs2, hsl2, hxs2, hd2⟩, ?_⟩
        intro x2 k3 m20 I15 F11 hI15 ⟨_, _, k0', k1', km', ⟨r', hr', hnn', _⟩, ⟨A11, hp11⟩, xs3, hsl3, hxs3, hd3⟩
        refine ⟨fun hk => ?_, fun hk => ?_⟩
        · have hk := of_decide_eq_true hk
          obtain ⟨adx3, xr3, hadx3, hxr3, hrdx3⟩ := hsl3.at (i := i) i0 (by have := hsl3.1; omega)
          obtain ⟨l3, t3, hSl3, hml3, hSx3, htl3, hmt3⟩ := hd3 _ _ _ hr hxr3
          have hrl3 := hSl3.1
          have hxl3 := hSx3.1
          rw [List.length_append] at hxl3
          rw [hii] at hmt3
          rw [w64 (by omega)]
          obtain ⟨ad10, y, ha10, hy, hrd10⟩ := hSx3.at (i := ((r.n : Nat) : Int) + k3) (by omega) (by omega)
          rw [List.getElem?_append_right (by omega), show (((r.n : Nat) : Int) + k3).toNat - l3.length = k3.toNat by omega] at hy
          have hyv := hmt3 _ _ hy
          have hkk : ((k3.toNat : Nat) : Int) = k3 := Int.toNat_of_nonneg k0'
          rw [hkk] at hyv
          refine ⟨⟨i0, by have := hsl3.1; omega⟩, adx3, hadx3, _, _, _, hrdx3, ⟨by omega, by omega⟩, ad10, ha10, markT (bhN i k3), (hrd10 _).one hyv, markT (bhN i k3), (tmark_spec (bhN_range i0 (by omega) k0' (by omega)) I15 _).mono fun e I' G _ ⟨h1, h2⟩ => ⟨h1, by rw [h2]⟩, fun h => by simp at h, fun _ => ?_⟩
          rw [w64 (by omega)]
          exact ⟨_, by omega, i0, by omega, by omega, by omega, rfl, ⟨r, hr, rfl, hrn⟩, ⟨A11, hp11⟩, xs3, hsl3, hxs3, hd3⟩
        · rw [w64 (by omega)]
          exact ⟨_, by omega, by omega, by omega, rfl, ⟨A11, hp11⟩, xs3, hsl3, hxs3, hd3⟩
theorem ownInts_nil : OwnCall 66 ⟨none, 0, 0⟩ [] := by
  intro I F
  refine ref00_ownInts.vc (fun y0 m I0 F0 I' F' => y0 = 0 ∧ F' = F) (fun _ _ m I0 F0 I' F' => False) (fun y0 y1 y2 y3 m I0 F0 I' F' => y3 = 0 ∧ F' = F) (fun _ _ _ _ _ _ _ _ m I0 F0 I' F' => False) (fun y0 y1 y2 y3 y4 m I0 F0 I' F' => y4 = 0 ∧ F' = F) (fun _ _ _ _ _ _ _ m I0 F0 I' F' => False) (fun _ _ _ _ _ _ _ m I0 F0 I' F' => False) ?_
  unfold ref00_ownInts.V
  refine ⟨⟨0, rfl, rfl⟩, fun y0 m0 I1 F1 _ ⟨hi, hF⟩ => ?_⟩
  subst hi hF
  refine ⟨fun h => absurd h (by decide), fun _ => ⟨⟨0, rfl, rfl⟩, fun y0 y1 y2 y3 m1 I2 F2 _ ⟨hi, hF⟩ => ?_⟩⟩
  subst hi hF
  refine ⟨fun h => absurd h (by decide), fun _ => ⟨⟨0, rfl, rfl⟩, fun y0 y1 m2 I3 F3 _ ⟨hi, hF⟩ => ?_⟩⟩
  subst hi hF
  exact ⟨fun h => absurd h (by decide), fun _ => ⟨rfl, rfl⟩⟩
theorem ownNumbers_nil : OwnCall 67 ⟨none, 0, 0⟩ [] := by
  intro I F
  refine ref00_ownNumbers.vc (fun y0 m I0 F0 I' F' => y0 = 0 ∧ F' = F) (fun _ _ m I0 F0 I' F' => False) (fun y0 y1 y2 y3 m I0 F0 I' F' => y3 = 0 ∧ F' = F) (fun _ _ _ _ _ _ _ _ m I0 F0 I' F' => False) (fun y0 y1 y2 y3 y4 m I0 F0 I' F' => y4 = 0 ∧ F' = F) (fun _ _ _ _ _ _ _ m I0 F0 I' F' => False) (fun _ _ _ _ _ _ _ m I0 F0 I' F' => False) ?_
  unfold ref00_ownNumbers.V
  refine ⟨⟨0, rfl, rfl⟩, fun y0 m0 I1 F1 _ ⟨hi, hF⟩ => ?_⟩
  subst hi hF
  refine ⟨fun h => absurd h (by decide), fun _ => ⟨⟨0, rfl, rfl⟩, fun y0 y1 y2 y3 m1 I2 F2 _ ⟨hi, hF⟩ => ?_⟩⟩
  subst hi hF
  refine ⟨fun h => absurd h (by decide), fun _ => ⟨⟨0, rfl, rfl⟩, fun y0 y1 m2 I3 F3 _ ⟨hi, hF⟩ => ?_⟩⟩
  subst hi hF
  exact ⟨fun h => absurd h (by decide), fun _ => ⟨rfl, rfl⟩⟩
theorem ownOrders_nil : OwnCall 68 ⟨none, 0, 0⟩ [] := by
  intro I F
  refine ref00_ownOrders.vc (fun y0 m I0 F0 I' F' => y0 = 0 ∧ F' = F) (fun _ _ m I0 F0 I' F' => False) (fun y0 y1 y2 y3 m I0 F0 I' F' => y3 = 0 ∧ F' = F) (fun _ _ _ _ _ _ _ _ m I0 F0 I' F' => False) (fun y0 y1 y2 y3 y4 m I0 F0 I' F' => y4 = 0 ∧ F' = F) (fun _ _ _ _ _ _ _ m I0 F0 I' F' => False) (fun _ _ _ _ _ _ _ m I0 F0 I' F' => False) ?_
  unfold ref00_ownOrders.V
  refine ⟨⟨0, rfl, rfl⟩, fun y0 m0 I1 F1 _ ⟨hi, hF⟩ => ?_⟩
  subst hi hF
  refine ⟨fun h => absurd h (by decide), fun _ => ⟨⟨0, rfl, rfl⟩, fun y0 y1 y2 y3 m1 I2 F2 _ ⟨hi, hF⟩ => ?_⟩⟩
  subst hi hF
  refine ⟨fun h => absurd h (by decide), fun _ => ⟨⟨0, rfl, rfl⟩, fun y0 y1 m2 I3 F3 _ ⟨hi, hF⟩ => ?_⟩⟩
  subst hi hF
  exact ⟨fun h => absurd h (by decide), fun _ => ⟨rfl, rfl⟩⟩
theorem ownLevels_nil : OwnCall 69 ⟨none, 0, 0⟩ [] := by
  intro I F
  refine ref00_ownLevels.vc (fun y0 m I0 F0 I' F' => y0 = 0 ∧ F' = F) (fun _ _ m I0 F0 I' F' => False) (fun y0 y1 y2 y3 m I0 F0 I' F' => y3 = 0 ∧ F' = F) (fun _ _ _ _ _ _ _ _ m I0 F0 I' F' => False) (fun y0 y1 y2 y3 y4 m I0 F0 I' F' => y4 = 0 ∧ F' = F) (fun _ _ _ _ _ _ _ m I0 F0 I' F' => False) (fun _ _ _ _ _ _ _ m I0 F0 I' F' => False) ?_
  unfold ref00_ownLevels.V
  refine ⟨⟨0, rfl, rfl⟩, fun y0 m0 I1 F1 _ ⟨hi, hF⟩ => ?_⟩
  subst hi hF
  refine ⟨fun h => absurd h (by decide), fun _ => ⟨⟨0, rfl, rfl⟩, fun y0 y1 y2 y3 m1 I2 F2 _ ⟨hi, hF⟩ => ?_⟩⟩
  subst hi hF
  refine ⟨fun h => absurd h (by decide), fun _ => ⟨⟨0, rfl, rfl⟩, fun y0 y1 m2 I3 F3 _ ⟨hi, hF⟩ => ?_⟩⟩
  subst hi hF
  exact ⟨fun h => absurd h (by decide), fun _ => ⟨rfl, rfl⟩⟩
theorem ownHits_nil : OwnCall 70 ⟨none, 0, 0⟩ [] := by
  intro I F
  refine ref00_ownHits.vc (fun y0 m I0 F0 I' F' => y0 = 0 ∧ F' = F) (fun _ _ m I0 F0 I' F' => False) (fun y0 y1 y2 y3 m I0 F0 I' F' => y3 = 0 ∧ F' = F) (fun _ _ _ _ _ _ _ _ m I0 F0 I' F' => False) (fun y0 y1 y2 y3 y4 m I0 F0 I' F' => y4 = 0 ∧ F' = F) (fun _ _ _ _ _ _ _ m I0 F0 I' F' => False) (fun _ _ _ _ _ _ _ m I0 F0 I' F' => False) ?_
  unfold ref00_ownHits.V
  refine ⟨⟨0, rfl, rfl⟩, fun y0 m0 I1 F1 _ ⟨hi, hF⟩ => ?_⟩
  subst hi hF
  refine ⟨fun h => absurd h (by decide), fun _ => ⟨⟨0, rfl, rfl⟩, fun y0 y1 y2 y3 m1 I2 F2 _ ⟨hi, hF⟩ => ?_⟩⟩
  subst hi hF
  refine ⟨fun h => absurd h (by decide), fun _ => ⟨⟨0, rfl, rfl⟩, fun y0 y1 m2 I3 F3 _ ⟨hi, hF⟩ => ?_⟩⟩
  subst hi hF
  exact ⟨fun h => absurd h (by decide), fun _ => ⟨rfl, rfl⟩⟩
theorem ownEvents_nil : OwnCall 71 ⟨none, 0, 0⟩ [] := by
  intro I F
  refine ref00_ownEvents.vc (fun y0 m I0 F0 I' F' => y0 = 0 ∧ F' = F) (fun _ _ m I0 F0 I' F' => False) (fun y0 y1 y2 y3 m I0 F0 I' F' => y3 = 0 ∧ F' = F) (fun _ _ _ _ _ _ _ _ m I0 F0 I' F' => False) (fun y0 y1 y2 y3 y4 m I0 F0 I' F' => y4 = 0 ∧ F' = F) (fun _ _ _ _ _ _ _ m I0 F0 I' F' => False) (fun _ _ _ _ _ _ _ m I0 F0 I' F' => False) ?_
  unfold ref00_ownEvents.V
  refine ⟨⟨0, rfl, rfl⟩, fun y0 m0 I1 F1 _ ⟨hi, hF⟩ => ?_⟩
  subst hi hF
  refine ⟨fun h => absurd h (by decide), fun _ => ⟨⟨0, rfl, rfl⟩, fun y0 y1 y2 y3 m1 I2 F2 _ ⟨hi, hF⟩ => ?_⟩⟩
  subst hi hF
  refine ⟨fun h => absurd h (by decide), fun _ => ⟨⟨0, rfl, rfl⟩, fun y0 y1 m2 I3 F3 _ ⟨hi, hF⟩ => ?_⟩⟩
  subst hi hF
  exact ⟨fun h => absurd h (by decide), fun _ => ⟨rfl, rfl⟩⟩
theorem ownFeeds_nil : OwnCall 72 ⟨none, 0, 0⟩ [] := by
  intro I F
  refine ref00_ownFeeds.vc (fun y0 m I0 F0 I' F' => y0 = 0 ∧ F' = F) (fun _ _ m I0 F0 I' F' => False) (fun y0 y1 y2 y3 m I0 F0 I' F' => y3 = 0 ∧ F' = F) (fun _ _ _ _ _ _ _ _ m I0 F0 I' F' => False) (fun y0 y1 y2 y3 y4 m I0 F0 I' F' => y4 = 0 ∧ F' = F) (fun _ _ _ _ _ _ _ m I0 F0 I' F' => False) (fun _ _ _ _ _ _ _ m I0 F0 I' F' => False) ?_
  unfold ref00_ownFeeds.V
  refine ⟨⟨0, rfl, rfl⟩, fun y0 m0 I1 F1 _ ⟨hi, hF⟩ => ?_⟩
  subst hi hF
  refine ⟨fun h => absurd h (by decide), fun _ => ⟨⟨0, rfl, rfl⟩, fun y0 y1 y2 y3 m1 I2 F2 _ ⟨hi, hF⟩ => ?_⟩⟩
  subst hi hF
  refine ⟨fun h => absurd h (by decide), fun _ => ⟨⟨0, rfl, rfl⟩, fun y0 y1 m2 I3 F3 _ ⟨hi, hF⟩ => ?_⟩⟩
  subst hi hF
  exact ⟨fun h => absurd h (by decide), fun _ => ⟨rfl, rfl⟩⟩
theorem ownActions_nil : OwnCall 73 ⟨none, 0, 0⟩ [] := by
  intro I F
  refine ref00_ownActions.vc (fun y0 m I0 F0 I' F' => y0 = 0 ∧ F' = F) (fun _ _ m I0 F0 I' F' => False) (fun y0 y1 y2 y3 m I0 F0 I' F' => y3 = 0 ∧ F' = F) (fun _ _ _ _ _ _ _ _ m I0 F0 I' F' => False) (fun y0 y1 y2 y3 y4 m I0 F0 I' F' => y4 = 0 ∧ F' = F) (fun _ _ _ _ _ _ _ m I0 F0 I' F' => False) (fun _ _ _ _ _ _ _ m I0 F0 I' F' => False) ?_
  unfold ref00_ownActions.V
  refine ⟨⟨0, rfl, rfl⟩, fun y0 m0 I1 F1 _ ⟨hi, hF⟩ => ?_⟩
  subst hi hF
  refine ⟨fun h => absurd h (by decide), fun _ => ⟨⟨0, rfl, rfl⟩, fun y0 y1 y2 y3 m1 I2 F2 _ ⟨hi, hF⟩ => ?_⟩⟩
  subst hi hF
  refine ⟨fun h => absurd h (by decide), fun _ => ⟨⟨0, rfl, rfl⟩, fun y0 y1 m2 I3 F3 _ ⟨hi, hF⟩ => ?_⟩⟩
  subst hi hF
  exact ⟨fun h => absurd h (by decide), fun _ => ⟨rfl, rfl⟩⟩
theorem ownTolds_nil : OwnCall 74 ⟨none, 0, 0⟩ [] := by
  intro I F
  refine ref00_ownTolds.vc (fun y0 m I0 F0 I' F' => y0 = 0 ∧ F' = F) (fun _ _ m I0 F0 I' F' => False) (fun y0 y1 y2 y3 m I0 F0 I' F' => y3 = 0 ∧ F' = F) (fun _ _ _ _ _ _ _ _ m I0 F0 I' F' => False) (fun y0 y1 y2 y3 y4 m I0 F0 I' F' => y4 = 0 ∧ F' = F) (fun _ _ _ _ _ _ _ m I0 F0 I' F' => False) (fun _ _ _ _ _ _ _ m I0 F0 I' F' => False) ?_
  unfold ref00_ownTolds.V
  refine ⟨⟨0, rfl, rfl⟩, fun y0 m0 I1 F1 _ ⟨hi, hF⟩ => ?_⟩
  subst hi hF
  refine ⟨fun h => absurd h (by decide), fun _ => ⟨⟨0, rfl, rfl⟩, fun y0 y1 y2 y3 m1 I2 F2 _ ⟨hi, hF⟩ => ?_⟩⟩
  subst hi hF
  refine ⟨fun h => absurd h (by decide), fun _ => ⟨⟨0, rfl, rfl⟩, fun y0 y1 m2 I3 F3 _ ⟨hi, hF⟩ => ?_⟩⟩
  subst hi hF
  exact ⟨fun h => absurd h (by decide), fun _ => ⟨rfl, rfl⟩⟩
end Go.Lx
namespace Go.Lx
open Go.Vc
def shT_o4 : List (Nat × List Sh) := [(4, [.one .bool]), (48, [.one .slc]), (59, [.one .slc]), (60, [.one .slc]), (61, [.one .slc]), (62, [.one .slc]), (63, [.one .slc]), (64, [.one .slc]), (65, [.one .slc]), (66, [.one .slc]), (67, [.one .slc]), (68, [.one .slc])]
set_option maxRecDepth 100000 in
def ref00_Book_Texts.V (vl : Option Addr → Nat → Nat → Value) (b l_a : Option Addr) (l_n l_c : Nat) (I : Imm) (F : Heap) (Q : PostQ)  : Prop := ∃ ad : Addr, b = some ad ∧ ∃ (m_a : Option Addr) (m_n m_c : Nat), Rd I (F) (ad.add 10) [vl m_a m_n m_c] ∧ ∀ (b1 : Nat) (I1 : Imm), Imm.le I I1 → I1 b1 = some (Obj.cells #[vl l_a l_n l_c] 54 (0, 0)) → TriE P (Builtin.append_ #[68, 68] 68 #[vl m_a m_n m_c, vl (some ⟨b1, 0, none⟩) 1 1]) I1 (F) fun v I2 G1 => ∃ (r_a : Option Addr) (r_n r_c : Nat), v = vl r_a r_n r_c ∧ ∃ F1 : Heap, List.Perm G1 (F1) ∧ ∃ ad1 : Addr, b = some ad1 ∧ ∃ (cs : List Value) (el : Nat) (F2 : Heap), List.Perm F1 (((ad1.add 10).block, Obj.cells cs.toArray el (0, 0)) :: F2) ∧ (ad1.add 10).spot = none ∧ (ad1.add 10).off + 1 ≤ cs.length ∧ Q (.returned (Value.tuple #[])) I2 ((((ad1.add 10).block, Obj.cells (splice (ad1.add 10).off [vl r_a r_n r_c] cs).toArray el (0, 0)) :: F2))
set_option maxRecDepth 100000 in
theorem ref00_Book_Texts.vc {b l_a : Option Addr} {l_n l_c : Nat} {I : Imm} {F : Heap} {Q : PostQ}  (h : ref00_Book_Texts.V .slice b l_a l_n l_c I F Q) : Tri P 30 #[Value.pointer b, Value.slice l_a l_n l_c] I (F) Q :=
  tri_of_V (A := (annL [] [] [] shT_o4 [] [6] [] [] [] [] [])) (args := [.a (.v (Value.pointer b)), .a (.v (Value.slice l_a l_n l_c))]) (own := []) (keep := []) [] Go.Proofs.Try.func30 h (by kernel_rfl) (by kernel_rfl) (by kernel_rfl) (by kernel_rfl) (by kernel_rfl) (by simp [AV.wf, At.wf]) (by simp [AV.wf, At.wf]) rfl
set_option maxRecDepth 100000 in
def ref00_Book_Own.V (vl : Option Addr → Nat → Nat → Value) (vt : Bool → Value) (b : Option Addr) (I : Imm) (F : Heap) (Q : PostQ)  : Prop := ∃ ad : Addr, b = some ad ∧ ∃ (m_a : Option Addr) (m_n m_c : Nat), Rd I (F) (ad.add 0) [vl m_a m_n m_c] ∧ Tri P 66 (#[vl m_a m_n m_c]) I (F) fun e1 I1 G1 => ∃ (r : Bool), e1 = .returned (vt r) ∧ ∃ F1 : Heap, List.Perm G1 (F1) ∧ ∃ ad1 : Addr, b = some ad1 ∧ ∃ (m_a1 : Option Addr) (m_n1 m_c1 : Nat), Rd I1 (F1) (ad1.add 1) [vl m_a1 m_n1 m_c1] ∧ Tri P 62 (#[vl m_a1 m_n1 m_c1]) I1 (F1) fun e2 I2 G2 => ∃ (r1 : Bool), e2 = .returned (vt r1) ∧ ∃ F2 : Heap, List.Perm G2 (F2) ∧ ∃ ad2 : Addr, b = some ad2 ∧ ∃ (m_a2 : Option Addr) (m_n2 m_c2 : Nat), Rd I2 (F2) (ad2.add 2) [vl m_a2 m_n2 m_c2] ∧ Tri P 67 (#[vl m_a2 m_n2 m_c2]) I2 (F2) fun e3 I3 G3 => ∃ (r2 : Bool), e3 = .returned (vt r2) ∧ ∃ F3 : Heap, List.Perm G3 (F3) ∧ ∃ ad3 : Addr, b = some ad3 ∧ ∃ (m_a3 : Option Addr) (m_n3 m_c3 : Nat), Rd I3 (F3) (ad3.add 3) [vl m_a3 m_n3 m_c3] ∧ Tri P 68 (#[vl m_a3 m_n3 m_c3]) I3 (F3) fun e4 I4 G4 => ∃ (r3 : Bool), e4 = .returned (vt r3) ∧ ∃ F4 : Heap, List.Perm G4 (F4) ∧ ∃ ad4 : Addr, b = some ad4 ∧ ∃ (m_a4 : Option Addr) (m_n4 m_c4 : Nat), Rd I4 (F4) (ad4.add 4) [vl m_a4 m_n4 m_c4] ∧ Tri P 69 (#[vl m_a4 m_n4 m_c4]) I4 (F4) fun e5 I5 G5 => ∃ (r4 : Bool), e5 = .returned (vt r4) ∧ ∃ F5 : Heap, List.Perm G5 (F5) ∧ ∃ ad5 : Addr, b = some ad5 ∧ ∃ (m_a5 : Option Addr) (m_n5 m_c5 : Nat), Rd I5 (F5) (ad5.add 5) [vl m_a5 m_n5 m_c5] ∧ Tri P 70 (#[vl m_a5 m_n5 m_c5]) I5 (F5) fun e6 I6 G6 => ∃ (r5 : Bool), e6 = .returned (vt r5) ∧ ∃ F6 : Heap, List.Perm G6 (F6) ∧ ∃ ad6 : Addr, b = some ad6 ∧ ∃ (m_a6 : Option Addr) (m_n6 m_c6 : Nat), Rd I6 (F6) (ad6.add 6) [vl m_a6 m_n6 m_c6] ∧ Tri P 71 (#[vl m_a6 m_n6 m_c6]) I6 (F6) fun e7 I7 G7 => ∃ (r6 : Bool), e7 = .returned (vt r6) ∧ ∃ F7 : Heap, List.Perm G7 (F7) ∧ ∃ ad7 : Addr, b = some ad7 ∧ ∃ (m_a7 : Option Addr) (m_n7 m_c7 : Nat), Rd I7 (F7) (ad7.add 7) [vl m_a7 m_n7 m_c7] ∧ Tri P 72 (#[vl m_a7 m_n7 m_c7]) I7 (F7) fun e8 I8 G8 => ∃ (r7 : Bool), e8 = .returned (vt r7) ∧ ∃ F8 : Heap, List.Perm G8 (F8) ∧ ∃ ad8 : Addr, b = some ad8 ∧ ∃ (m_a8 : Option Addr) (m_n8 m_c8 : Nat), Rd I8 (F8) (ad8.add 8) [vl m_a8 m_n8 m_c8] ∧ Tri P 73 (#[vl m_a8 m_n8 m_c8]) I8 (F8) fun e9 I9 G9 => ∃ (r8 : Bool), e9 = .returned (vt r8) ∧ ∃ F9 : Heap, List.Perm G9 (F9) ∧ ∃ ad9 : Addr, b = some ad9 ∧ ∃ (m_a9 : Option Addr) (m_n9 m_c9 : Nat), Rd I9 (F9) (ad9.add 9) [vl m_a9 m_n9 m_c9] ∧ Tri P 74 (#[vl m_a9 m_n9 m_c9]) I9 (F9) fun e10 I10 G10 => ∃ (r9 : Bool), e10 = .returned (vt r9) ∧ ∃ F10 : Heap, List.Perm G10 (F10) ∧ ∃ ad10 : Addr, b = some ad10 ∧ ∃ (m_a10 : Option Addr) (m_n10 m_c10 : Nat), Rd I10 (F10) (ad10.add 10) [vl m_a10 m_n10 m_c10] ∧ Tri P 75 (#[vl m_a10 m_n10 m_c10]) I10 (F10) fun e11 I11 G11 => ∃ (r10 : Bool), e11 = .returned (vt r10) ∧ ∃ F11 : Heap, List.Perm G11 (F11) ∧ ((r = true → ((r1 = true → ((r2 = true → ((r3 = true → ((r4 = true → ((r5 = true → ((r6 = true → ((r7 = true → ((r8 = true → ((r9 = true → Q (.returned (vt r10)) I11 (F11)) ∧ (r9 = false → Q (.returned (vt false)) I11 (F11)))) ∧ (r8 = false → Q (.returned (vt false)) I11 (F11)))) ∧ (r7 = false → Q (.returned (vt false)) I11 (F11)))) ∧ (r6 = false → Q (.returned (vt false)) I11 (F11)))) ∧ (r5 = false → Q (.returned (vt false)) I11 (F11)))) ∧ (r4 = false → Q (.returned (vt false)) I11 (F11)))) ∧ (r3 = false → Q (.returned (vt false)) I11 (F11)))) ∧ (r2 = false → Q (.returned (vt false)) I11 (F11)))) ∧ (r1 = false → Q (.returned (vt false)) I11 (F11)))) ∧ (r = false → Q (.returned (vt false)) I11 (F11)))
set_option maxRecDepth 100000 in
theorem ref00_Book_Own.vc {b : Option Addr} {I : Imm} {F : Heap} {Q : PostQ}  (h : ref00_Book_Own.V .slice .bool b I F Q) : Tri P 31 #[Value.pointer b] I (F) Q :=
  tri_of_V (A := (annL [12000, 12002, 12005, 12008, 12011, 12014, 12017, 12020, 12023, 12026] [] [62, 66, 67, 68, 69, 70, 71, 72, 73, 74, 75] shT_o4 [] [] [] [] [] [] [])) (args := [.a (.v (Value.pointer b))]) (own := []) (keep := []) [62, 66, 67, 68, 69, 70, 71, 72, 73, 74, 75] Go.Proofs.Try.func31 h (by kernel_rfl) (by kernel_rfl) (by kernel_rfl) (by kernel_rfl) (by kernel_rfl) (by simp [AV.wf, At.wf]) (by simp [AV.wf, At.wf]) rfl
end Go.Lx
namespace Go.Lx
open Go.Vc
def bookCells (rw : Nat → Row) : Array Value := #[(rw 0).v, (rw 1).v, (rw 2).v, (rw 3).v, (rw 4).v, (rw 5).v, (rw 6).v, (rw 7).v, (rw 8).v, (rw 9).v, (rw 10).v]
theorem book_rd {I : Imm} {G : Heap} {b : Nat} {cells : Array Value} (h : (b, Obj.cells cells 70 (0, 0)) ∈ G) {k : Nat} {v : Value} (hv : cells[k]? = some v) : Rd I G ((⟨b, 0, none⟩ : Addr).add k) [v] := by
  rw [add_lit0]
  refine ⟨rfl, _, _, _, .inr h, fun j hj => ?_⟩
  have : j = 0 := by simpa using hj
  subst this
  simpa using hv
def textRows (r : Row) (k : Nat) : Row := if k = 10 then r else ⟨none, 0, 0⟩
theorem BookOwn_texts {r : Row} {H : Heap} {b : Nat} {I : Imm} {F : Heap} (h : OwnCall 75 r H) :
    Tri P 31 #[.pointer (some ⟨b, 0, none⟩)] I ((b, Obj.cells (bookCells (textRows r)) 70 (0, 0)) :: (H ++ F)) fun e I' G => e = .returned (.bool true) ∧ G = F := by
  refine Tri.keep (Q := fun e I' G => e = .returned (.bool true) ∧ G = (b, Obj.cells (bookCells (textRows r)) 70 (0, 0)) :: F) ?_ fun e I' G w hl hs ⟨he, hG⟩ => ⟨I', F, Imm.le_refl _, by subst hG; exact hs.sub (List.sublist_cons_self _ _), he, rfl⟩
  refine ref00_Book_Own.vc ?_
  unfold ref00_Book_Own.V
  refine ⟨_, rfl, _, _, _, book_rd (List.mem_cons_self ..) rfl, own_step (H := []) ownInts_nil fun I1 g1 => ⟨_, rfl, _, .refl _, ?_⟩⟩
  refine ⟨_, rfl, _, _, _, book_rd (List.mem_cons_self ..) rfl, own_step (H := []) ownLongs_nil fun I1 g1 => ⟨_, rfl, _, .refl _, ?_⟩⟩
  refine ⟨_, rfl, _, _, _, book_rd (List.mem_cons_self ..) rfl, own_step (H := []) ownNumbers_nil fun I1 g1 => ⟨_, rfl, _, .refl _, ?_⟩⟩
  refine ⟨_, rfl, _, _, _, book_rd (List.mem_cons_self ..) rfl, own_step (H := []) ownOrders_nil fun I1 g1 => ⟨_, rfl, _, .refl _, ?_⟩⟩
  refine ⟨_, rfl, _, _, _, book_rd (List.mem_cons_self ..) rfl, own_step (H := []) ownLevels_nil fun I1 g1 => ⟨_, rfl, _, .refl _, ?_⟩⟩
  refine ⟨_, rfl, _, _, _, book_rd (List.mem_cons_self ..) rfl, own_step (H := []) ownHits_nil fun I1 g1 => ⟨_, rfl, _, .refl _, ?_⟩⟩
  refine ⟨_, rfl, _, _, _, book_rd (List.mem_cons_self ..) rfl, own_step (H := []) ownEvents_nil fun I1 g1 => ⟨_, rfl, _, .refl _, ?_⟩⟩
  refine ⟨_, rfl, _, _, _, book_rd (List.mem_cons_self ..) rfl, own_step (H := []) ownFeeds_nil fun I1 g1 => ⟨_, rfl, _, .refl _, ?_⟩⟩
  refine ⟨_, rfl, _, _, _, book_rd (List.mem_cons_self ..) rfl, own_step (H := []) ownActions_nil fun I1 g1 => ⟨_, rfl, _, .refl _, ?_⟩⟩
  refine ⟨_, rfl, _, _, _, book_rd (List.mem_cons_self ..) rfl, own_step (H := []) ownTolds_nil fun I1 g1 => ⟨_, rfl, _, .refl _, ?_⟩⟩
  refine ⟨_, rfl, _, _, _, book_rd (List.mem_cons_self ..) rfl, own_step h fun I1 g1 => ⟨_, rfl, _, .refl _, ?_⟩⟩
  repeat (refine ⟨fun _ => ?_, fun h => by (cases h)⟩)
  exact ⟨rfl, rfl⟩
theorem BookTexts_spec {r0 : Row} {b : Nat} {r : Row} {rs : List Row} {Al R : Heap} (hA : Acc 1 Row.enc 54 r0.a r0.n r0.c rs Al) (hl : rs.length ≤ 1000000000) (I : Imm) :
    Tri P 30 #[.pointer (some ⟨b, 0, none⟩), r.v] I ((b, Obj.cells (bookCells (textRows r0)) 70 (0, 0)) :: (Al ++ R)) fun e I' G => e = .returned (.tuple #[]) ∧
      ∃ r' Al', Acc 1 Row.enc 54 r'.a r'.n r'.c (rs ++ [r]) Al' ∧ G.Perm ((b, Obj.cells (bookCells (textRows r')) 70 (0, 0)) :: (Al' ++ R)) := by
  refine ref00_Book_Texts.vc ?_
  unfold ref00_Book_Texts.V
  refine ⟨_, rfl, _, _, _, book_rd (List.mem_cons_self ..) rfl, ?_⟩
  intro b1 I1 hI1 hb1
  refine TriE.perm (TriE.mono (append_spec' (f := Row.enc) (z := 1) (zv := .slice none 0 0) (fun _ => rfl) (by' := 24) (by kernel_rfl) (by kernel_rfl) rfl (by decide) hA (xs := [r]) (fun x _ => rows_one x) (by simp) rfl ?_ ?_ (F := (b, Obj.cells (bookCells (textRows r0)) 70 (0, 0)) :: R))
    fun v I' G hI ⟨a', n', c', A', hv, hA', hG, _⟩ => ?_) List.perm_middle.symm
  · exact ⟨rfl, _, _, _, .inl hb1, fun j hj => by simp [Row.enc]⟩
  · simp only [List.length_cons, List.length_nil]; omega
  subst hG
  refine ⟨_, _, _, hv, _, .refl _, _, rfl, (bookCells (textRows r0)).toList, 70, A' ++ R, ?_, ?_, ?_, rfl, ⟨a', n', c'⟩, A', hA', ?_⟩
  · exact List.perm_middle
  · rw [add_lit0]
  · rw [add_lit0]; exact (by decide : 10 + 1 ≤ 11)
  · rw [add_lit0]
    exact .refl _
def txCk (t : ByteArray) : Ck 1 := ⟨encS t, rfl⟩
theorem txCk_flat : ∀ l : List ByteArray, (l.map txCk).flatMap cv = l.flatMap encS
  | [] => rfl
  | y :: l => by rw [List.map_cons, List.flatMap_cons, List.flatMap_cons, txCk_flat l]; rfl
theorem Acc.tx {a : Option Addr} {n c e : Nat} {l : List ByteArray} {A : Heap} (h : Acc 1 encS e a n c l A) : Acc 1 cv e a n c (l.map txCk) A := by
  obtain ⟨hn, ⟨h1, h2, h3, h4⟩ | ⟨b, cells, h1, h2, h3, h4, h5⟩⟩ := h
  · exact ⟨by rw [List.length_map]; exact hn, .inl ⟨h1, h2, by rw [h3]; rfl, h4⟩⟩
  · exact ⟨by rw [List.length_map]; exact hn, .inr ⟨b, cells, h1, h2, h3, h4, by rw [h5, txCk_flat]⟩⟩
end Go.Lx
namespace Go.Lx
open Go.Vc
def shT_lTreeReads : List (Nat × List Sh) := [(0, []), (4, [.one .bool]), (28, [.agg [(.int .u8), (.int .u8), (.int .u8), (.int .i64), (.int .u8), .str, .slc, (.int .i64)]]), (55, [.one (.int .u16), .one .slc])]
set_option maxRecDepth 100000 in
def law12_TreeReads.V (c_n : Nat → Nat × Obj) (nV : Int → Int → Int → Int → Int → ByteArray → Option Addr → Nat → Nat → Int → Value) (nO : Int → Int → Int → Int → Int → ByteArray → Option Addr → Nat → Nat → Int → Obj) (vl : Option Addr → Nat → Nat → Value) (vt : Bool → Value) (n_0 n_1 n_2 n_3 n_4 : Int) (n_5 : ByteArray) (n_6_a : Option Addr) (n_6_n n_6_c : Nat) (n_7 : Int) (I : Imm) (F : Heap) (Q : PostQ)  : Prop := ∀ b_n : Nat, Tri P 8 (#[]) I ((c_n b_n) :: F) fun e1 I1 G1 => ∃ (r : Bool), e1 = .returned (vt r) ∧ ∃ F1 : Heap, List.Perm G1 ((c_n b_n) :: F1) ∧ Tri P 9 (#[nV n_0 n_1 n_2 n_3 n_4 n_5 n_6_a n_6_n n_6_c n_7]) I1 ((c_n b_n) :: F1) fun e2 I2 G2 => ∃ (r1 : Bool), e2 = .returned (vt r1) ∧ ∃ F2 : Heap, List.Perm G2 ((c_n b_n) :: F2) ∧ (((!r) = true → Q (.returned (vt r)) I2 (F2)) ∧ ((!r) = false → ((r1 = true → Q (.returned (vt r)) I2 (F2)) ∧ (r1 = false → Tri P 10 (#[nV n_0 n_1 n_2 n_3 n_4 n_5 n_6_a n_6_n n_6_c n_7]) I2 ((c_n b_n) :: F2) fun e3 I3 G3 => ∃ (r_0 r_1 r_2 r_3 r_4 : Int) (r_5 : ByteArray) (r_6_a : Option Addr) (r_6_n r_6_c : Nat) (r_7 : Int), e3 = .returned (nV r_0 r_1 r_2 r_3 r_4 r_5 r_6_a r_6_n r_6_c r_7) ∧ ∃ F3 : Heap, List.Perm G3 ((c_n b_n) :: F3) ∧ ∀ b_x : Nat, Tri P 27 (#[nV r_0 r_1 r_2 r_3 r_4 r_5 r_6_a r_6_n r_6_c r_7]) I3 ((c_n b_n) :: (b_x, nO r_0 r_1 r_2 r_3 r_4 r_5 r_6_a r_6_n r_6_c r_7) :: F3) fun e4 I4 G4 => ∃ (r0 : Int) (r1_a : Option Addr) (r1_n r1_c : Nat), e4 = .returned (Value.tuple #[Value.int .u16 r0, vl r1_a r1_n r1_c]) ∧ ∃ F4 : Heap, List.Perm G4 ((c_n b_n) :: (b_x, nO r_0 r_1 r_2 r_3 r_4 r_5 r_6_a r_6_n r_6_c r_7) :: F4) ∧ Tri P 27 (#[nV r_0 r_1 r_2 r_3 r_4 r_5 r_6_a r_6_n r_6_c r_7]) I4 ((c_n b_n) :: (b_x, nO r_0 r_1 r_2 r_3 r_4 r_5 r_6_a r_6_n r_6_c r_7) :: F4) fun e5 I5 G5 => ∃ (r01 : Int) (r1_a1 : Option Addr) (r1_n1 r1_c1 : Nat), e5 = .returned (Value.tuple #[Value.int .u16 r01, vl r1_a1 r1_n1 r1_c1]) ∧ ∃ F5 : Heap, List.Perm G5 ((c_n b_n) :: (b_x, nO r_0 r_1 r_2 r_3 r_4 r_5 r_6_a r_6_n r_6_c r_7) :: F5) ∧ Tri P 17 (#[nV r_0 r_1 r_2 r_3 r_4 r_5 r_6_a r_6_n r_6_c r_7, nV n_0 n_1 n_2 n_3 n_4 n_5 n_6_a n_6_n n_6_c n_7]) I5 ((c_n b_n) :: (b_x, nO r_0 r_1 r_2 r_3 r_4 r_5 r_6_a r_6_n r_6_c r_7) :: F5) fun e6 I6 G6 => ∃ (r2 : Bool), e6 = .returned (vt r2) ∧ ∃ F6 : Heap, List.Perm G6 ((c_n b_n) :: (b_x, nO r_0 r_1 r_2 r_3 r_4 r_5 r_6_a r_6_n r_6_c r_7) :: F6) ∧ Tri P 28 (#[nV n_0 n_1 n_2 n_3 n_4 n_5 n_6_a n_6_n n_6_c n_7]) I6 ((c_n b_n) :: (b_x, nO r_0 r_1 r_2 r_3 r_4 r_5 r_6_a r_6_n r_6_c r_7) :: F6) fun e7 I7 G7 => ∃ (r02 : Int) (r1_a2 : Option Addr) (r1_n2 r1_c2 : Nat), e7 = .returned (Value.tuple #[Value.int .u16 r02, vl r1_a2 r1_n2 r1_c2]) ∧ ∃ F7 : Heap, List.Perm G7 ((c_n b_n) :: (b_x, nO r_0 r_1 r_2 r_3 r_4 r_5 r_6_a r_6_n r_6_c r_7) :: F7) ∧ Tri P 29 (#[vl r1_a r1_n r1_c, vl r1_a2 r1_n2 r1_c2]) I7 ((c_n b_n) :: (b_x, nO r_0 r_1 r_2 r_3 r_4 r_5 r_6_a r_6_n r_6_c r_7) :: F7) fun e8 I8 G8 => ∃ (r3 : Bool), e8 = .returned (vt r3) ∧ ∃ F8 : Heap, List.Perm G8 ((c_n b_n) :: (b_x, nO r_0 r_1 r_2 r_3 r_4 r_5 r_6_a r_6_n r_6_c r_7) :: F8) ∧ Tri P 29 (#[vl r1_a1 r1_n1 r1_c1, vl r1_a2 r1_n2 r1_c2]) I8 ((c_n b_n) :: (b_x, nO r_0 r_1 r_2 r_3 r_4 r_5 r_6_a r_6_n r_6_c r_7) :: F8) fun e9 I9 G9 => ∃ (r4 : Bool), e9 = .returned (vt r4) ∧ ∃ F9 : Heap, List.Perm G9 ((c_n b_n) :: (b_x, nO r_0 r_1 r_2 r_3 r_4 r_5 r_6_a r_6_n r_6_c r_7) :: F9) ∧ ∀ b : Nat, Tri P 30 (#[Value.pointer (some (⟨b, 0, none⟩ : Addr)), vl r1_a r1_n r1_c]) I9 ((c_n b_n) :: (b_x, nO r_0 r_1 r_2 r_3 r_4 r_5 r_6_a r_6_n r_6_c r_7) :: ((b, Obj.cells #[vl none 0 0, vl none 0 0, vl none 0 0, vl none 0 0, vl none 0 0, vl none 0 0, vl none 0 0, vl none 0 0, vl none 0 0, vl none 0 0, vl none 0 0] 70 (0, 0)) :: F9)) fun e10 I10 G10 => e10 = .returned (Value.tuple #[]) ∧ ∃ F10 : Heap, List.Perm G10 ((c_n b_n) :: (b_x, nO r_0 r_1 r_2 r_3 r_4 r_5 r_6_a r_6_n r_6_c r_7) :: F10) ∧ Tri P 30 (#[Value.pointer (some (⟨b, 0, none⟩ : Addr)), vl r1_a1 r1_n1 r1_c1]) I10 ((c_n b_n) :: (b_x, nO r_0 r_1 r_2 r_3 r_4 r_5 r_6_a r_6_n r_6_c r_7) :: F10) fun e11 I11 G11 => e11 = .returned (Value.tuple #[]) ∧ ∃ F11 : Heap, List.Perm G11 ((c_n b_n) :: (b_x, nO r_0 r_1 r_2 r_3 r_4 r_5 r_6_a r_6_n r_6_c r_7) :: F11) ∧ Tri P 31 (#[Value.pointer (some (⟨b, 0, none⟩ : Addr))]) I11 ((c_n b_n) :: (b_x, nO r_0 r_1 r_2 r_3 r_4 r_5 r_6_a r_6_n r_6_c r_7) :: F11) fun e12 I12 G12 => ∃ (r5 : Bool), e12 = .returned (vt r5) ∧ ∃ F12 : Heap, List.Perm G12 ((c_n b_n) :: (b_x, nO r_0 r_1 r_2 r_3 r_4 r_5 r_6_a r_6_n r_6_c r_7) :: F12) ∧ (((r0 == r02) = true → (((r01 == r02) = true → ((r3 = true → ((r4 = true → ((r2 = true → Q (.returned (vt r5)) I12 (F12)) ∧ (r2 = false → Q (.returned (vt false)) I12 (F12)))) ∧ (r4 = false → Q (.returned (vt false)) I12 (F12)))) ∧ (r3 = false → Q (.returned (vt false)) I12 (F12)))) ∧ ((r01 == r02) = false → Q (.returned (vt false)) I12 (F12)))) ∧ ((r0 == r02) = false → Q (.returned (vt false)) I12 (F12)))))))
set_option maxRecDepth 100000 in
theorem law12_TreeReads.vc {n_0 n_1 n_2 n_3 n_4 : Int} {n_5 : ByteArray} {n_6_a : Option Addr} {n_6_n n_6_c : Nat} {n_7 : Int} {I : Imm} {F : Heap} {Q : PostQ}  (h : law12_TreeReads.V (fun b => (b, Obj.cells #[Value.int .u8 n_0, Value.int .u8 n_1, Value.int .u8 n_2, Value.int .i64 n_3, Value.int .u8 n_4, Value.string n_5, Value.slice n_6_a n_6_n n_6_c, Value.int .i64 n_7] 28 (0, 0))) (fun k o t n f s a l c q => .agg #[Value.int .u8 k, Value.int .u8 o, Value.int .u8 t, Value.int .i64 n, Value.int .u8 f, Value.string s, Value.slice a l c, Value.int .i64 q]) (fun k o t n f s a l c q => .cells #[Value.int .u8 k, Value.int .u8 o, Value.int .u8 t, Value.int .i64 n, Value.int .u8 f, Value.string s, Value.slice a l c, Value.int .i64 q] 28 (0, 0)) .slice .bool n_0 n_1 n_2 n_3 n_4 n_5 n_6_a n_6_n n_6_c n_7 I F Q) : Tri P 4 #[Value.agg #[Value.int .u8 n_0, Value.int .u8 n_1, Value.int .u8 n_2, Value.int .i64 n_3, Value.int .u8 n_4, Value.string n_5, Value.slice n_6_a n_6_n n_6_c, Value.int .i64 n_7]] I (F) Q :=
  tri_of_V (A := (annL [3001, 3003, 16002, 16006, 16009, 16012, 16015] [] [8, 9, 10, 17, 27, 28, 29, 30, 31] shT_lTreeReads [] [] [12001] [] [] [] [])) (args := [.a (.v (Value.agg #[Value.int .u8 n_0, Value.int .u8 n_1, Value.int .u8 n_2, Value.int .i64 n_3, Value.int .u8 n_4, Value.string n_5, Value.slice n_6_a n_6_n n_6_c, Value.int .i64 n_7]))]) (own := []) (keep := []) [8, 9, 10, 17, 27, 28, 29, 30, 31] Go.Proofs.Try.func4 h (by kernel_rfl) (by kernel_rfl) (by kernel_rfl) (by kernel_rfl) (by kernel_rfl) (by simp [AV.wf, At.wf]) (by simp [AV.wf, At.wf]) rfl
end Go.Lx
namespace Go.Lx
open Go.Vc
theorem TreeReads_spec (t : Nd) (hst : t.px.ShortP) (hw : t.px.Wf) (I : Imm) (F : Heap) (ht : NdOk I F t) : Tri P 4 #[t.v] I F fun e I' G => e = .returned (.bool true) := by
  refine law12_TreeReads.vc ?_
  unfold law12_TreeReads.V
  intro b_n
  have okt : ∀ {J : Imm} {G : Heap}, Imm.le I J → (∀ a, a ∈ F → a ∈ G) → NdOk J G t := fun hl hs => ht.mono hl hs
  refine Tri.ret (awake_spec I _) fun I1 l1 => ⟨_, rfl, F, .refl _, ?_⟩
  refine Tri.ret (farExpr_spec t hst I1 _ (okt l1 fun a ha => by simp only [List.mem_cons, List.mem_append]; simp only [ha, true_or, or_true])) fun I2 h2 => ⟨_, rfl, F, .refl _, ?_⟩
  have l2 := Imm.le_trans l1 h2
  refine ⟨fun h => by (cases h), fun _ => ⟨fun _ => rfl, fun f1 => ?_⟩⟩
  have st := far_size f1
  clear f1
  refine (lend_spec t st I2 _ (okt l2 fun a ha => by simp only [List.mem_cons, List.mem_append]; simp only [ha, true_or, or_true])).mono fun e I3 G h3 ⟨x, Hx, he, px, hOx, hG⟩ => ?_
  have l3 := Imm.le_trans l2 h3
  refine ⟨_, _, _, _, _, _, _, _, _, _, he, Hx ++ F, hG.trans (perm_of fun z => by simp only [cn_app, cn_cons, cn_nil]; omega), fun b_x => ?_⟩
  have sx : x.px.size ≤ 1048576 := by rw [px]; exact st
  have hsx : x.px.ShortP := by rw [px]; exact hst
  have hwx : x.px.Wf := by rw [px]; exact hw
  have hnl := names_len x.px.nodes
  have hxl := Px.nodes_len x.px
  refine (tReads_spec x sx hwx I3 _ (hOx.ok fun a ha => by simp only [List.mem_cons, List.mem_append]; simp only [ha, true_or, or_true])).mono fun e I4 G h4 ⟨a1, n1, c1, A1, he, hA1, hG⟩ => ?_
  subst hG
  have l4 := Imm.le_trans l3 h4
  refine ⟨_, _, _, _, he, A1 ++ (Hx ++ F), (perm_of fun z => by simp only [cn_app, cn_cons, cn_nil]; omega), ?_⟩
  refine (tReads_spec x sx hwx I4 _ (hOx.ok fun a ha => by simp only [List.mem_cons, List.mem_append]; simp only [ha, true_or, or_true])).mono fun e I5 G h5 ⟨a2, n2, c2, A2, he, hA2, hG⟩ => ?_
  subst hG
  have l5 := Imm.le_trans l4 h5
  refine ⟨_, _, _, _, he, A2 ++ (A1 ++ (Hx ++ F)), (perm_of fun z => by simp only [cn_app, cn_cons, cn_nil]; omega), ?_⟩
  refine Tri.ret (whole_spec (u := t) sx hsx px hOx fun a ha => by simp only [List.mem_cons, List.mem_append]; simp only [ha, true_or, or_true] (okt l5 fun a ha => by simp only [List.mem_cons, List.mem_append]; simp only [ha, true_or, or_true])) fun I6 h6 => ⟨_, rfl, A2 ++ (A1 ++ (Hx ++ F)), .refl _, ?_⟩
  have l6 := Imm.le_trans l5 h6
  refine (rReads_spec t st hw I6 _ (okt l6 fun a ha => by simp only [List.mem_cons, List.mem_append]; simp only [ha, true_or, or_true])).mono fun e I7 G h7 ⟨a3, n3, c3, A3, he, hA3, hG⟩ => ?_
  subst hG
  refine ⟨_, _, _, _, he, A3 ++ (A2 ++ (A1 ++ (Hx ++ F))), (perm_of fun z => by simp only [cn_app, cn_cons, cn_nil]; omega), ?_⟩
  rw [px] at hA1 hA2
  rw [px] at hnl hxl
  refine Tri.ret (SameTexts_spec (l := namesOf t.px.nodes) (hA1.slg (z := 1) (f := encS) (fun _ => rfl) I7 fun a ha => by simp only [List.mem_cons, List.mem_append]; simp only [ha, true_or, or_true]) (hA3.slg (z := 1) (f := encS) (fun _ => rfl) I7 fun a ha => by simp only [List.mem_cons, List.mem_append]; simp only [ha, true_or, or_true]) (by omega)) fun I8 h8 => ⟨_, rfl, A3 ++ (A2 ++ (A1 ++ (Hx ++ F))), .refl _, ?_⟩
  refine Tri.ret (SameTexts_spec (l := namesOf t.px.nodes) (hA2.slg (z := 1) (f := encS) (fun _ => rfl) I8 fun a ha => by simp only [List.mem_cons, List.mem_append]; simp only [ha, true_or, or_true]) (hA3.slg (z := 1) (f := encS) (fun _ => rfl) I8 fun a ha => by simp only [List.mem_cons, List.mem_append]; simp only [ha, true_or, or_true]) (by omega)) fun I9 h9 => ⟨_, rfl, A3 ++ (A2 ++ (A1 ++ (Hx ++ F))), .refl _, fun b => ?_⟩
  refine Tri.perm ((BookTexts_spec (r0 := ⟨none, 0, 0⟩) (b := b) (r := ⟨a1, n1, c1⟩) (rs := []) (Al := []) (R := (b_n, Obj.cells #[.int .u8 t.kind, .int .u8 t.oper, .int .u8 t.typ, .int .i64 t.n, .int .u8 t.field, .string t.name, .slice t.a t.kids.length t.c, .int .i64 t.pos] 28 (0, 0)) :: (b_x, Obj.cells #[.int .u8 x.kind, .int .u8 x.oper, .int .u8 x.typ, .int .i64 x.n, .int .u8 x.field, .string x.name, .slice x.a x.kids.length x.c, .int .i64 x.pos] 28 (0, 0)) :: (A3 ++ (A2 ++ (A1 ++ (Hx ++ F))))) Acc.nil (by decide) I9).mono fun e I10 G h10 ⟨he, r1, B1, hB1, hG⟩ => ?_) (List.perm_middle (l₁ := [(b_n, Obj.cells #[.int .u8 t.kind, .int .u8 t.oper, .int .u8 t.typ, .int .i64 t.n, .int .u8 t.field, .string t.name, .slice t.a t.kids.length t.c, .int .i64 t.pos] 28 (0, 0)), (b_x, Obj.cells #[.int .u8 x.kind, .int .u8 x.oper, .int .u8 x.typ, .int .i64 x.n, .int .u8 x.field, .string x.name, .slice x.a x.kids.length x.c, .int .i64 x.pos] 28 (0, 0))]))
  refine ⟨he, (b, Obj.cells (bookCells (textRows r1)) 70 (0, 0)) :: (B1 ++ (A3 ++ (A2 ++ (A1 ++ (Hx ++ F))))), hG.trans (perm_of fun z => by simp only [cn_app, cn_cons, cn_nil]; omega), ?_⟩
  refine Tri.perm ((BookTexts_spec (r0 := r1) (b := b) (r := ⟨a2, n2, c2⟩) (rs := [] ++ [⟨a1, n1, c1⟩]) (Al := B1) (R := (b_n, Obj.cells #[.int .u8 t.kind, .int .u8 t.oper, .int .u8 t.typ, .int .i64 t.n, .int .u8 t.field, .string t.name, .slice t.a t.kids.length t.c, .int .i64 t.pos] 28 (0, 0)) :: (b_x, Obj.cells #[.int .u8 x.kind, .int .u8 x.oper, .int .u8 x.typ, .int .i64 x.n, .int .u8 x.field, .string x.name, .slice x.a x.kids.length x.c, .int .i64 x.pos] 28 (0, 0)) :: (A3 ++ (A2 ++ (A1 ++ (Hx ++ F))))) hB1 (Nat.le_of_ble_eq_true rfl) I10).mono fun e I11 G h11 ⟨he, r2, B2, hB2, hG⟩ => ?_) (perm_of fun z => by simp only [cn_app, cn_cons, cn_nil]; omega)
  refine ⟨he, (b, Obj.cells (bookCells (textRows r2)) 70 (0, 0)) :: (B2 ++ (A3 ++ (A2 ++ (A1 ++ (Hx ++ F))))), hG.trans (perm_of fun z => by simp only [cn_app, cn_cons, cn_nil]; omega), ?_⟩
  have hR : RowsH 1 9 ([] ++ [⟨a1, n1, c1⟩] ++ [⟨a2, n2, c2⟩]) [(namesOf t.px.nodes).map txCk, (namesOf t.px.nodes).map txCk] (A1 ++ (A2 ++ [])) := ⟨A1, A2 ++ [], rfl, Acc.tx hA1, A2, [], rfl, Acc.tx hA2, rfl⟩
  have hbd : Bd [(namesOf t.px.nodes).map txCk, (namesOf t.px.nodes).map txCk] := by
    intro j l hj
    have := List.mem_of_getElem? hj
    simp only [List.mem_cons, List.not_mem_nil, or_false, or_self] at this
    subst this
    rw [List.length_map]; omega
  refine Tri.perm ((BookOwn_texts (r := r2) (H := B2 ++ (A1 ++ (A2 ++ []))) (b := b) (F := (b_n, Obj.cells #[.int .u8 t.kind, .int .u8 t.oper, .int .u8 t.typ, .int .i64 t.n, .int .u8 t.field, .string t.name, .slice t.a t.kids.length t.c, .int .i64 t.pos] 28 (0, 0)) :: (b_x, Obj.cells #[.int .u8 x.kind, .int .u8 x.oper, .int .u8 x.typ, .int .i64 x.n, .int .u8 x.field, .string x.name, .slice x.a x.kids.length x.c, .int .i64 x.pos] 28 (0, 0)) :: (A3 ++ (Hx ++ F))) (own_call ownTexts_spec hB2 hR hbd (Nat.le_of_ble_eq_true rfl))).mono fun e I12 G h12 ⟨he, hG⟩ => ?_) (perm_of fun z => by simp only [cn_app, cn_cons, cn_nil]; omega)
  subst hG
  refine ⟨_, he, A3 ++ (Hx ++ F), .refl _, ?_⟩
  rw [px]
  exact ⟨fun _ => ⟨fun _ => ⟨fun _ => ⟨fun _ => ⟨fun _ => rfl, fun h => by (cases h)⟩, fun h => by (cases h)⟩, fun h => by (cases h)⟩, fun h => by simp at h⟩, fun h => by simp at h⟩
end Go.Lx
namespace Go.Vc
open Go.ChangeShapes Go.WideShapes Go.ChangeAt Go.RowKit
def Imm.all (w : World) : Imm := ⟨fun b => w.heap[b]?, w.os, w.output⟩
theorem Sat.all (w : World) : Sat (Imm.all w) [] w := ⟨fun _ _ h => h, fun _ _ h => by simp at h, fun _ _ h => by simp at h, List.nodup_nil, rfl, rfl⟩
structure Stays (w w' : World) : Prop where
  heap : ∀ i, i < w.heap.size → w'.heap[i]? = w.heap[i]?
  os : w'.os = w.os
  out : w'.output = w.output
theorem Stays.of {w w' : World} {I : Imm} {F : Heap} (hl : Imm.le (Imm.all w) I) (hs : Sat I F w') : Stays w w' := by
  refine ⟨fun i hi => ?_, hs.env.1.trans hl.2.1, hs.env.2.trans hl.2.2⟩
  obtain ⟨o, ho⟩ : ∃ o, w.heap[i]? = some o := ⟨_, Array.getElem?_eq_getElem hi⟩
  rw [ho]
  exact hs.imm _ _ (hl.1 i o ho)
theorem Stays.kept {w w' : World} (h : Stays w w') (may : MemPlace → Prop) : w.keptBut w' may := by
  refine ⟨h.os, h.out, fun i hi => ?_⟩
  rw [h.heap i hi]
  cases w.heap[i]? with
  | none => rfl
  | some o => cases o with
    | cells c t fr => exact ⟨rfl, rfl, rfl, fun _ _ => rfl⟩
    | map es clock => exact .inr ⟨rfl, rfl⟩
    | _ => rfl
theorem Stays.frozen {w w' : World} (h : Stays w w') {a : Addr} (ha : a.block < w.heap.size) : w'.frozen? a = w.frozen? a := by
  unfold World.frozen?; rw [h.heap _ ha]
theorem post_stays {H : Type} {enc : TypeId × Value → H} {P : Program} {f : Func} {s : ChangeSpec} {apart fresh handsOn again : Bool} {W W' : World} {args : Array Value} {v : Value} {ds gs : List (DataW H)} {before pa pv : List MemPlace}
    (hW : DataW.Whole enc P f.params.toList s.vars apart W args.toList ds gs before)
    (hres : ∀ (b : Nat) (sp : Nat → Bool) (hd : Bool), DataW.TrodAll enc P W' b sp hd f.resultTypes.toList (v.resultList f.resultTypes.size) (s.fn H (ds ++ gs)).results [])
    (hargs : ∀ sp : Nat → Bool, (∀ p ∈ before, sp p.block = true) → DataW.TrodAll enc P W' 0 sp true f.params.toList args.toList (s.fn H (ds ++ gs)).args pa)
    (hvars : ∀ sp : Nat → Bool, (∀ p ∈ before, sp p.block = true) → DataW.TrodVars enc P W' sp s.vars (s.fn H (ds ++ gs)).vars pv)
    (hps : before = pa ++ pv) (hk : Stays W W')
    (hok : ∀ (j : Nat) (t : TypeId) (r : Value), f.resultTypes[j]? = some t → (v.resultList f.resultTypes.size)[j]? = some r → Value.okWide P W' .any 0 t r) :
    s.post enc P f apart fresh handsOn again W args v W' := by
  have hold : ∀ p ∈ before, (fun b => decide (b < W.heap.size)) p.block = true := fun p hp => by simpa using hW.lt p hp
  have hlt : ∀ p ∈ before, p.block < W.heap.size := fun p hp => hW.lt p hp
  refine ⟨ds, gs, before, [], pa, pv, hW, hres _ _ _, hargs _ hold, hvars _ hold, World.keptBut_mono (fun p hp => ⟨hp, ?_⟩) (hk.kept (· ∈ before)), fun _ => ?_⟩
  · rw [hps, List.mem_append] at hp
    exact Or.inr hp
  · obtain ⟨_, _, _, _, _, hz, hn⟩ := hW
    refine ⟨hok, _, _, ([] ++ pa) ++ pv, ⟨[] ++ pa, pv, trodAll_append (hargs _ (fun _ _ => rfl)) (hres _ _ _), hvars _ (fun _ _ => rfl), rfl, ?_, ?_⟩, ?_⟩
    · intro b off hp
      have hp' : MemPlace.cell b off ∈ before := by rw [hps]; simpa using hp
      rw [hk.frozen (hlt _ hp')]
      exact hz b off hp'
    · intro ha
      have := hn ha
      rw [hps] at this
      simpa using this
    · intro p hp _
      rw [hps]
      simpa using hp
end Go.Vc
namespace Go.Vc
open Go.ChangeShapes Go.WideShapes Go.ChangeAt Go.RowKit
theorem Stays.cell {w w' : World} (h : Stays w w') {a : Addr} (ha : a.block < w.heap.size) : w'.cell? a = w.cell? a := by
  unfold World.cell?; rw [h.heap _ ha]
theorem Stays.same {w w' : World} (h : Stays w w') {p : MemPlace} (hp : p.block < w.heap.size) : w.sameAt w' p := by
  cases p with
  | cell b off => exact h.cell (a := ⟨b, off, none⟩) hp
  | map b => exact h.heap b hp
theorem trodAll_stays {H : Type} {enc : TypeId × Value → H} {P : Program} {T : TypeId → Prop} {w w' : World} (K : Kids P T) (hsz : ∀ {t e : TypeId}, T t → P.underlying t = some (.slice e) → 0 < P.cellsOf e) (st : Stays w w') {sp' : Nat → Bool} :
    ∀ {ts : List TypeId} {vs : List Value} {ds : List (DataW H)} {ps : List MemPlace}, (∀ t ∈ ts, T t) → DataW.TrodAll enc P w 0 (fun _ => true) true ts vs ds ps → (∀ p ∈ ps, sp' p.block = true) → DataW.TrodAll enc P w' 0 sp' true ts vs ds ps
  | [], [], [], ps, _, h, _ => h
  | t :: ts, v :: vs, d :: ds, ps, ht, ⟨p, q, ⟨n, h1⟩, h2, e⟩, hs => by
    subst e
    have hlt : ∀ x ∈ p, x.block < w.heap.size := DataW.trod_lt n t v.cells.toList (d, p) h1
    refine ⟨p, q, ⟨n, ?_⟩, trodAll_stays K hsz st (fun t' ht' => ht t' (List.mem_cons_of_mem _ ht')) h2 (fun x hx => hs x (List.mem_append_right _ hx)), rfl⟩
    exact DataW.trod_stays K hsz (fun h => by cases h) (ht t (List.mem_cons_self ..)) h1 (fun x hx => st.same (hlt x hx)) (fun x hx => hs x (List.mem_append_left _ hx))
  | [], _ :: _, _, _, _, h, _ => h.elim
  | [], [], _ :: _, _, _, h, _ => h.elim
  | _ :: _, [], _, _, _, h, _ => h.elim
  | _ :: _, _ :: _, [], _, _, h, _ => h.elim
end Go.Vc
namespace Go.Vc
open Go.ChangeShapes Go.WideShapes Go.ChangeAt Go.RowKit
theorem list_choice {α : Type} {p : Nat → α → Prop} : ∀ (n : Nat), (∀ i, i < n → ∃ x, p i x) → ∃ l : List α, l.length = n ∧ ∀ (i : Nat) (x : α), l[i]? = some x → p i x
  | 0, _ => ⟨[], rfl, fun i x h => by simp at h⟩
  | n + 1, h => by
    obtain ⟨l, hl, hp⟩ := list_choice n fun i hi => h i (by omega)
    obtain ⟨x, hx⟩ := h n (by omega)
    refine ⟨l ++ [x], by simp [hl], fun i y hy => ?_⟩
    rw [List.getElem?_append] at hy
    split at hy
    · exact hp i y hy
    · rename_i hi
      have : i - l.length = 0 := by
        rcases Nat.eq_zero_or_pos (i - l.length) with h | h
        · exact h
        · rw [List.getElem?_eq_none (by simp; omega)] at hy; cases hy
      rw [this] at hy
      simp only [List.getElem?_cons_zero, Option.some.injEq] at hy
      subst hy
      have : i = n := by omega
      rw [this]; exact hx
theorem Rd.of_row {W : World} {ad : Addr} {n : Nat} {cs : List Value} {base : Nat} (h : W.cells? base ad n = some cs) (hn : 0 < n) (G : Heap) : ad.spot = none → Rd (Imm.all W) G ad cs := by
  intro hsp
  obtain ⟨_, hl, hc⟩ := World.cells?_some h
  have h0 : W.cell? ad = cs[0]? := by have := hc 0 hn; rwa [show ad.add 0 = ad from rfl] at this
  have hlen : cs.length = n := hl
  unfold World.cell? at h0
  cases hb : W.heap[ad.block]? with
  | none => rw [hb] at h0; simp only at h0; rw [List.getElem?_eq_getElem (by omega)] at h0; cases h0
  | some o =>
    cases o with
    | cells c e fz =>
      refine ⟨hsp, c, e, fz, .inl hb, fun j hj => ?_⟩
      have h1 := hc j (by omega)
      have hadd : ad.add j = ⟨ad.block, ad.off + j, none⟩ := by
        obtain ⟨b, off, sp⟩ := ad
        simp only at hsp; subst hsp
        unfold Addr.add; split <;> simp_all
      rw [hadd] at h1
      unfold World.cell? at h1
      simp only [hb] at h1
      simpa using h1
    | _ => rw [hb] at h0; simp only at h0; rw [List.getElem?_eq_getElem (by omega)] at h0; cases h0
end Go.Vc
namespace Go.Vc
open Go.ChangeShapes Go.WideShapes Go.ChangeAt Go.RowKit
def Opens {H α : Type} (en : TypeId × Value → H) (P : Program) (W : World) (sp : Nat → Bool) (hd : Bool) (n : Nat) (t : TypeId) (f : α → List Value) (R S : α → Prop) : Prop :=
  ∀ cs d ps, DataW.trod en P W 0 sp hd n t cs = some (d, ps) → ∃ x, cs = f x ∧ R x ∧ ((∀ m ∈ d.weights P t, m ≤ reachBytes) → S x)
def OpensF {H α : Type} (en : TypeId × Value → H) (P : Program) (W : World) (sp : Nat → Bool) (hd : Bool) (n : Nat) (z : Nat) (fs : List (TypeId × Nat)) (o : Nat) (f : α → List Value) (R S : α → Prop) : Prop :=
  ∀ (cs : List Value) (xs : List (DataW H × List MemPlace)), (fs.mapM fun p => DataW.trod en P W 0 sp hd n p.1 ((cs.drop p.2).take (P.cellsOf p.1))) = some xs → cs.length = z → ∃ x, cs.drop o = f x ∧ R x ∧ ((∀ m ∈ DataW.weightsEach P (fs.map Prod.fst) (xs.map Prod.fst), m ≤ reachBytes) → S x)
def structB (P : Program) (t : TypeId) (l : List (TypeId × Nat)) (z : Nat) : Bool := match P.underlying t with
  | some (.struct fs) => (fs.toList.map fun f => (f.type, f.offset)) == l && P.cellsOf t == z
  | _ => false
theorem mapM_via {α β γ : Type} (h : α → β) (g : β → Option γ) : ∀ l : List α, (l.map h).mapM g = l.mapM fun x => g (h x)
  | [] => rfl
  | x :: l => by simp [List.mapM_cons, mapM_via h g l]
section
variable {H : Type} {en : TypeId × Value → H} {P : Program} {W : World} {sp : Nat → Bool} {hd : Bool} {n : Nat}
theorem OpensF.nil {z : Nat} : OpensF en P W sp hd n z [] z (fun _ : Unit => []) (fun _ => True) (fun _ => True) := by
  intro cs xs h hl
  exact ⟨(), List.drop_eq_nil_of_le (by omega), trivial, fun _ => trivial⟩
theorem OpensF.cons {α β : Type} {z o k : Nat} {t : TypeId} {fs : List (TypeId × Nat)} {f : α → List Value} {g : β → List Value} {R S : α → Prop} {R' S' : β → Prop} (h : Opens en P W sp hd n t f R S) (hc : P.cellsOf t = k)
    (hs : OpensF en P W sp hd n z fs (o + k) g R' S') : OpensF en P W sp hd n z ((t, o) :: fs) o (fun x : α × β => f x.1 ++ g x.2) (fun x => R x.1 ∧ R' x.2) (fun x => S x.1 ∧ S' x.2) := by
  intro cs xs hm hl
  rw [List.mapM_cons] at hm
  cases h0 : DataW.trod en P W 0 sp hd n t ((cs.drop o).take (P.cellsOf t)) with
  | none => simp [h0] at hm
  | some x0 =>
    cases h1 : (fs.mapM fun p => DataW.trod en P W 0 sp hd n p.1 ((cs.drop p.2).take (P.cellsOf p.1))) with
    | none => simp [h0, h1] at hm
    | some ys =>
      simp [h0, h1] at hm
      subst hm
      obtain ⟨d0, p0⟩ := x0
      obtain ⟨x, e1, r1, s1⟩ := h _ _ _ h0
      obtain ⟨y, e2, r2, s2⟩ := hs _ _ h1 hl
      refine ⟨(x, y), ?_, ⟨r1, r2⟩, fun hw => ⟨s1 fun m hm => hw m ?_, s2 fun m hm => hw m ?_⟩⟩
      · show cs.drop o = f x ++ g y
        rw [← e1, ← e2, hc, ← List.drop_drop, List.take_append_drop]
      · simp only [List.map_cons, DataW.weightsEach, List.mem_append]; exact .inl hm
      · simp only [List.map_cons, DataW.weightsEach, List.mem_append]; exact .inr hm
theorem Opens.struct {α : Type} {z : Nat} {t : TypeId} {fs : List (TypeId × Nat)} {f : α → List Value} {R S : α → Prop} (ht : structB P t fs z = true) (h : OpensF en P W sp hd n z fs 0 f R S) : Opens en P W sp hd (n + 1) t f R S := by
  intro cs d ps hr
  unfold structB at ht
  split at ht
  · rename_i gs hg
    simp only [Bool.and_eq_true, beq_iff_eq] at ht
    obtain ⟨ht, hz⟩ := ht
    simp only [DataW.trod, hg] at hr
    split at hr
    · rename_i hl
      rw [hz] at hl
      cases hm : gs.toList.mapM fun f => DataW.trod en P W 0 sp hd n f.type ((cs.drop f.offset).take (P.cellsOf f.type)) with
      | none => rw [hm] at hr; cases hr
      | some xs =>
        rw [hm] at hr
        simp only [Option.map_some, Option.some.injEq, Prod.mk.injEq] at hr
        have hm' : (fs.mapM fun p => DataW.trod en P W 0 sp hd n p.1 ((cs.drop p.2).take (P.cellsOf p.1))) = some xs := by rw [← ht, mapM_via]; exact hm
        obtain ⟨x, e, r, s⟩ := h cs xs hm' hl
        refine ⟨x, by simpa using e, r, fun hw => s fun m hmm => hw m ?_⟩
        rw [← hr.1]
        simp only [DataW.weights, hg]
        have : gs.toList.map (fun f => f.type) = fs.map Prod.fst := by rw [← ht, List.map_map]; rfl
        rw [this]; exact hmm
    · cases hr
  · cases ht
theorem Opens.map {α β : Type} {t : TypeId} {f : α → List Value} {g : β → List Value} {R S : α → Prop} {R' S' : β → Prop} (h : Opens en P W sp hd n t f R S) (φ : α → β) (hf : ∀ x, R x → f x = g (φ x)) (hr : ∀ x, R x → R' (φ x)) (hs : ∀ x, R x → S x → S' (φ x)) : Opens en P W sp hd n t g R' S' := by
  intro cs d ps hd
  obtain ⟨x, e, r, s⟩ := h cs d ps hd
  exact ⟨φ x, e.trans (hf x r), hr x r, fun hw => hs x r (s hw)⟩
theorem Opens.int {k : IntKind} {t : TypeId} (ht : P.underlying t = some (.int k)) : Opens en P W sp hd n t (fun x : Int => [.int k x]) (fun x => (Lit.int k x).wf = true) (fun _ => True) := by
  intro cs d ps h
  obtain ⟨x, e, _, hw⟩ := DataW.trod_int ht h
  exact ⟨x, e, hw, fun _ => trivial⟩
theorem Opens.str {t : TypeId} (ht : P.underlying t = some .string) : Opens en P W sp hd n t (fun x : ByteArray => [.string x]) (fun x => x.size ≤ maxLen) (fun x => x.size ≤ reachBytes) := by
  intro cs d ps h
  obtain ⟨s, e, hx, hl⟩ := DataW.trod_string ht h
  refine ⟨s, e, hl, fun hw => ?_⟩
  simp only [Prod.mk.injEq] at hx
  have := hw s.data.toList.length (by rw [hx.1]; simp [DataW.weights])
  simpa using this
structure SlV (β : Type) where
  a : Option Addr
  n : Nat
  c : Nat
  l : List β
theorem Opens.slice {β : Type} {z by' : Nat} {t e : TypeId} {f : β → List Value} {R S : β → Prop} (ht : P.underlying t = some (.slice e)) (hc : P.cellsOf e = z) (hz : 0 < z) (hb : P.bytesOf e = by') (hb1 : 1 ≤ by') (hf : ∀ x, (f x).length = z) (h : Opens en P W sp hd n e f R S) :
    Opens en P W sp hd (n + 1) t (fun s : SlV β => [.slice s.a s.n s.c]) (fun s => SlG (Imm.all W) [] z f s.a s.n s.l ∧ ∀ x ∈ s.l, R x) (fun s => s.l.length ≤ reachBytes ∧ ∀ x ∈ s.l, S x) := by
  intro cs d ps hr
  rcases DataW.trod_slice ht hr with ⟨h1, h2⟩ | ⟨ad, len, cap, elems, rest, n', hn, hcs, hx, _, _, _, hlen, hel, _, _⟩
  · exact ⟨⟨none, 0, 0, []⟩, h1, ⟨⟨rfl, fun h => absurd rfl h⟩, fun x hx => by cases hx⟩, fun _ => ⟨by simp, fun x hx => by cases hx⟩⟩
  · cases hn
    simp only [Prod.mk.injEq] at hx
    obtain ⟨hdd, hps⟩ := hx
    clear hps
    subst hcs
    have hone : ∀ i, i < len → ∃ x, Rd (Imm.all W) [] (ad.add (i * z)) (f x) ∧ R x ∧ ((∀ y ∈ elems, ∀ m ∈ y.1.weights P e, m ≤ reachBytes) → S x) := by
      intro i hi
      have hfy := hel i hi
      obtain ⟨y, hy⟩ : ∃ y, elems[i]? = some y := ⟨_, List.getElem?_eq_getElem (by omega)⟩
      rw [hc, hy] at hfy
      cases hcs : W.cells? 0 (ad.add (i * z)) z with
      | none => rw [hcs] at hfy; cases hfy
      | some cs =>
        rw [hcs] at hfy
        simp only [Option.bind_some] at hfy
        obtain ⟨x, e1, r1, s1⟩ := h cs y.1 y.2 hfy
        subst e1
        have hspk : (ad.add (i * z)).spot = none := by
          obtain ⟨_, hl, hc'⟩ := World.cells?_some hcs
          have h0 := hc' 0 hz
          rw [show (ad.add (i * z)).add 0 = ad.add (i * z) from rfl, List.getElem?_eq_getElem (by rw [hf]; omega)] at h0
          cases hs : (ad.add (i * z)).spot with
          | none => rfl
          | some q =>
            unfold World.cell? at h0
            split at h0 <;> simp_all
        refine ⟨x, Rd.of_row hcs hz [] hspk, r1, fun hw => s1 fun m hm => hw y (List.mem_of_getElem? hy) m hm⟩
    obtain ⟨l, hll, hlx⟩ := list_choice len hone
    refine ⟨⟨some ad, len, cap, l⟩, rfl, ⟨⟨hll.symm, fun _ => ⟨ad, rfl, fun i x hx => (hlx i x hx).1⟩⟩, fun x hx => ?_⟩, fun hw => ⟨?_, fun x hx => ?_⟩⟩
    · obtain ⟨i, hi, rfl⟩ := List.mem_iff_getElem.1 hx
      exact (hlx i _ (List.getElem?_eq_getElem hi)).2.1
    · have h1 := hw ((elems.length + rest.length) * by') (by rw [hdd]; simp only [DataW.weights, ht, List.length_map, hb]; exact List.mem_cons_self ..)
      have h2 : elems.length + rest.length ≤ (elems.length + rest.length) * by' := Nat.le_mul_of_pos_right _ hb1
      show l.length ≤ reachBytes
      omega
    · obtain ⟨i, hi, rfl⟩ := List.mem_iff_getElem.1 hx
      refine (hlx i _ (List.getElem?_eq_getElem hi)).2.2 fun y hy m hm => hw m ?_
      rw [hdd]
      simp only [DataW.weights, ht]
      refine List.mem_cons_of_mem _ (List.mem_append_left _ ?_)
      clear hx hlen hel hone hlx hdd hr hw hi hll
      induction elems with
      | nil => cases hy
      | cons q qs ihq =>
        simp only [List.map_cons, DataW.weightsAll, List.mem_append]
        rcases List.mem_cons.1 hy with rfl | hy
        · exact .inl hm
        · exact .inr (ihq hy)
theorem Opens.zero {α : Type} {t : TypeId} {f : α → List Value} {R S : α → Prop} : Opens en P W sp hd 0 t f R S := fun cs d ps h => by cases h
end
end Go.Vc
namespace Go.Lx
open Go.Vc Go.ChangeShapes Go.WideShapes Go.ChangeAt Go.RowKit
def ndF : List (TypeId × Nat) := [(22, 0), (23, 1), (24, 2), (2, 3), (25, 4), (9, 5), (26, 6), (3, 7)]
theorem wf8 {x : Int} (h : (Lit.int .u8 x).wf = true) : 0 ≤ x ∧ x ≤ 255 := by
  simp [Lit.wf, IntKind.min, IntKind.max, IntKind.signed, IntKind.bits] at h; omega
theorem wf64 {x : Int} (h : (Lit.int .i64 x).wf = true) : -9223372036854775808 ≤ x ∧ x ≤ 9223372036854775807 := by
  simp [Lit.wf, IntKind.min, IntKind.max, IntKind.signed, IntKind.bits] at h; omega
theorem Wf.mk {t : Nd} (h : t.px.Fit) (hk : ∀ k ∈ t.kids, k.px.Wf) : t.px.Wf := by
  intro y hy
  rw [← nodes_px] at hy
  obtain ⟨x, hx, rfl⟩ := List.mem_map.1 hy
  rw [Nd.nodes_eq] at hx
  rcases List.mem_cons.1 hx with rfl | hx
  · exact h
  · have hL : ∀ l : List Nd, (∀ k ∈ l, k.px.Wf) → x ∈ Nd.nodesL l → x.px.Fit := by
      intro l
      induction l with
      | nil => intro _ h; rw [Nd.nodesL] at h; cases h
      | cons z r ih =>
        intro hz h
        rw [Nd.nodesL] at h
        rcases List.mem_append.1 h with h | h
        · exact Wf.nd (hz z (List.mem_cons_self ..)) x h
        · exact ih (fun k hk => hz k (List.mem_cons_of_mem _ hk)) h
    exact hL _ hk hx
theorem open_nd {H : Type} {en : TypeId × Value → H} {W : World} {sp : Nat → Bool} {hd : Bool} : ∀ n, Opens en P W sp hd n 28 Nd.enc (fun t => NdOk (Imm.all W) [] t ∧ t.px.Wf) (fun t => t.px.ShortP) := by
  intro n
  induction n using Nat.strongRecOn with
  | ind n ih =>
    cases n with
    | zero => exact Opens.zero
    | succ n =>
      have hsl : Opens en P W sp hd n 26 (fun s : SlV Nd => [.slice s.a s.n s.c]) (fun s => SlG (Imm.all W) [] 8 Nd.enc s.a s.n s.l ∧ ∀ x ∈ s.l, NdOk (Imm.all W) [] x ∧ x.px.Wf) (fun s => s.l.length ≤ reachBytes ∧ ∀ x ∈ s.l, x.px.ShortP) := by
        cases n with
        | zero => exact Opens.zero
        | succ n => exact Opens.slice (z := 8) (by' := 72) (by kernel_rfl) (by kernel_rfl) (by decide) (by kernel_rfl) (by decide) Nd.enc_len (ih n (by omega))
      refine (Opens.struct (z := 8) (fs := ndF) (by kernel_rfl) ((OpensF.cons (k := 1) (Opens.int (k := .u8) (by kernel_rfl)) (by kernel_rfl) <| OpensF.cons (k := 1) (Opens.int (k := .u8) (by kernel_rfl)) (by kernel_rfl) <| OpensF.cons (k := 1) (Opens.int (k := .u8) (by kernel_rfl)) (by kernel_rfl) <|
        OpensF.cons (k := 1) (Opens.int (k := .i64) (by kernel_rfl)) (by kernel_rfl) <| OpensF.cons (k := 1) (Opens.int (k := .u8) (by kernel_rfl)) (by kernel_rfl) <| OpensF.cons (k := 1) (Opens.str (by kernel_rfl)) (by kernel_rfl) <| OpensF.cons (k := 1) hsl (by kernel_rfl) <|
        OpensF.cons (k := 1) (Opens.int (k := .i64) (by kernel_rfl)) (by kernel_rfl) OpensF.nil))).map (fun x => Nd.mk x.1 x.2.1 x.2.2.1 x.2.2.2.1 x.2.2.2.2.1 x.2.2.2.2.2.1 x.2.2.2.2.2.2.1.a x.2.2.2.2.2.2.1.c x.2.2.2.2.2.2.1.l x.2.2.2.2.2.2.2.1) ?_ ?_ ?_
      · intro ⟨k, o, ty, m, f, s, ⟨a, l, c, ks⟩, q, u⟩ ⟨_, _, _, _, _, _, ⟨h7, _⟩, _⟩
        have hl : l = ks.length := h7.1
        subst hl; rfl
      · intro ⟨k, o, ty, m, f, s, ⟨a, l, c, ks⟩, q, u⟩ ⟨h1, h2, h3, h4, h5, h6, ⟨h7, h8⟩, h9, _⟩
        have hl : l = ks.length := h7.1
        subst hl
        refine ⟨.mk h7 fun x hx => (h8 x hx).1, Wf.mk ?_ fun x hx => (h8 x hx).2⟩
        unfold Px.Fit
        rw [Nd.px_kind, Nd.px_oper, Nd.px_typ, Nd.px_n, Nd.px_field, Nd.px_pos]
        exact ⟨wf8 h1, wf8 h2, wf8 h3, wf64 h4, wf8 h5, wf64 h9⟩
      · intro ⟨k, o, ty, m, f, s, ⟨a, l, c, ks⟩, q, u⟩ _ ⟨_, _, _, _, _, g6, ⟨g7, g8⟩, _⟩
        refine .mk (by rw [Nd.px_name]; exact g6) (by rw [Nd.px_len]; exact g7) fun x hx => ?_
        rw [Nd.px_kids] at hx
        obtain ⟨y, hy, rfl⟩ := List.mem_map.1 hx
        exact g8 y hy
theorem agg_of {P : Program} {W : World} {r : Reach} {b0 : Nat} {t : TypeId} {v : Value} {fs : List (TypeId × Nat)} {z : Nat} (hst : structB P t fs z = true) (hval : Value.okWide P W r b0 t v) : v = .agg v.cells.toList.toArray := by
  unfold structB at hst
  split at hst
  · rename_i gs hg
    have h5 := okWide_struct hg hval
    obtain ⟨cs, hv, hcs⟩ := h5
    clear hcs
    subst hv
    rfl
  · cases hst
set_option maxRecDepth 100000 in
theorem open_node {H : Type} {en : TypeId × Value → H} {W : World} {base : Nat} {sp : Nat → Bool} {hd : Bool} {v : Value} {d : DataW H} {ps : List MemPlace} {r : Reach} (hval : Value.okWide P W r base 28 v) (h : DataW.Trod en P W 0 sp hd 28 v d ps) :
    ∃ t : Nd, v = t.v ∧ NdOk (Imm.all W) [] t ∧ t.px.Wf ∧ ((∀ m ∈ d.weights P 28, m ≤ reachBytes) → t.px.ShortP) := by
  have hv := agg_of (fs := ndF) (z := 8) (by kernel_rfl) hval
  obtain ⟨fuel, hf⟩ := h
  obtain ⟨t, e, ⟨h1, h2⟩, h3⟩ := open_nd fuel _ d ps hf
  exact ⟨t, by rw [hv, e], h1, h2, h3⟩
end Go.Lx
