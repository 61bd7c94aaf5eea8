import Derived.Test.YtnomldjkblednaaB4
set_option linter.unusedVariables false
set_option linter.unusedSimpArgs false
namespace Go.Lx
open Go.Vc
def shT_lTreeTurned : List (Nat × List Sh) := [(2, [.one (.int .i64)]), (4, [.one .bool]), (5, [.one (.int .u8)]), (9, [.one .str]), (23, [.one (.int .u8)]), (26, [.one .slc]), (28, [.agg [(.int .u8), (.int .u8), (.int .u8), (.int .i64), (.int .u8), .str, .slc, (.int .i64)]])]
set_option maxRecDepth 100000 in
def law12_TreeTurned.V (nV : Int → Int → Int → Int → Int → ByteArray → Option Addr → Nat → Nat → Int → Value) (nO : Int → Int → Int → Int → Int → ByteArray → Option Addr → Nat → Nat → Int → Obj) (nL : Int → Int → Int → Int → Int → ByteArray → Option Addr → Nat → Nat → Int → List Value) (vl : Option Addr → Nat → Nat → Value) (vt : Bool → Value) (wr : Int → Int) (n_0 n_1 n_2 n_3 n_4 : Int) (n_5 : ByteArray) (n_6_a : Option Addr) (n_6_n n_6_c : Nat) (n_7 : Int) (path_a : Option Addr) (path_n path_c : Nat) (how : Int) (I : Imm) (F : Heap) (Q : PostQ) (Inv18 : Option Addr → Option Addr → Option Addr → Imm → Heap → Imm → Heap → Prop) (Inv22 : Option Addr → Option Addr → Option Addr → Int → Nat → Imm → Heap → Imm → Heap → Prop) (Inv33 : Option Addr → Option Addr → Imm → Heap → Imm → Heap → Prop) : Prop := ∀ b_n : Nat, Tri P 8 (#[]) I (((b_n, nO n_0 n_1 n_2 n_3 n_4 n_5 n_6_a n_6_n n_6_c n_7) :: F)) fun e1 I1 G1 => ∃ (r : Bool), e1 = .returned (vt r) ∧ ∃ F1 : Heap, List.Perm G1 (F1) ∧ ∃ (m_0 m_1 m_2 m_3 m_4 : Int) (m_5 : ByteArray) (m_6_a : Option Addr) (m_6_n m_6_c : Nat) (m_7 : Int), Rd I1 (F1) (⟨b_n, 0, none⟩ : Addr) (nL m_0 m_1 m_2 m_3 m_4 m_5 m_6_a m_6_n m_6_c m_7) ∧ Tri P 9 (#[nV m_0 m_1 m_2 m_3 m_4 m_5 m_6_a m_6_n m_6_c m_7]) I1 (F1) fun e2 I2 G2 => ∃ (r1 : Bool), e2 = .returned (vt r1) ∧ ∃ F2 : Heap, List.Perm G2 (F2) ∧ (((!r) = true → Q (.returned (vt r)) I2 (F2)) ∧ ((!r) = false → ((r1 = true → Q (.returned (vt r)) I2 (F2)) ∧ (r1 = false → ∃ (m_01 m_11 m_21 m_31 m_41 : Int) (m_51 : ByteArray) (m_6_a1 : Option Addr) (m_6_n1 m_6_c1 : Nat) (m_71 : Int), Rd I2 (F2) (⟨b_n, 0, none⟩ : Addr) (nL m_01 m_11 m_21 m_31 m_41 m_51 m_6_a1 m_6_n1 m_6_c1 m_71) ∧ Tri P 34 (#[nV m_01 m_11 m_21 m_31 m_41 m_51 m_6_a1 m_6_n1 m_6_c1 m_71]) I2 (F2) fun e3 I3 G3 => ∃ (r_0 r_1 r_2 r_3 r_4 : Int) (r_5 : ByteArray) (r_6_a : Option Addr) (r_6_n r_6_c : Nat) (r_7 : Int), e3 = .returned (nV r_0 r_1 r_2 r_3 r_4 r_5 r_6_a r_6_n r_6_c r_7) ∧ ∃ F3 : Heap, List.Perm G3 (F3) ∧ ∀ b_x : Nat, ∃ (cs : List Value) (el : Nat) (F4 : Heap), List.Perm ((b_x, nO 0 0 0 0 0 (⟨#[]⟩ : ByteArray) none 0 0 0) :: F3) (((⟨b_x, 0, none⟩ : Addr).block, Obj.cells cs.toArray el (0, 0)) :: F4) ∧ (⟨b_x, 0, none⟩ : Addr).spot = none ∧ (⟨b_x, 0, none⟩ : Addr).off + 8 ≤ cs.length ∧ ((∃ m : Nat, Inv22 (some (⟨b_n, 0, none⟩ : Addr)) (some (⟨b_x, 0, none⟩ : Addr)) (some (⟨b_x, 0, none⟩ : Addr)) 0 m I3 (((⟨b_x, 0, none⟩ : Addr).block, Obj.cells (splice (⟨b_x, 0, none⟩ : Addr).off (nL r_0 r_1 r_2 r_3 r_4 r_5 r_6_a r_6_n r_6_c r_7) cs).toArray el (0, 0)) :: F4) I3 (((⟨b_x, 0, none⟩ : Addr).block, Obj.cells (splice (⟨b_x, 0, none⟩ : Addr).off (nL r_0 r_1 r_2 r_3 r_4 r_5 r_6_a r_6_n r_6_c r_7) cs).toArray el (0, 0)) :: F4)) ∧ ∀ (at1 : Option Addr) (i : Int) (m1 : Nat) (I4 : Imm) (F5 : Heap), Imm.le I3 I4 → Inv22 (some (⟨b_n, 0, none⟩ : Addr)) (some (⟨b_x, 0, none⟩ : Addr)) at1 i m1 I3 (((⟨b_x, 0, none⟩ : Addr).block, Obj.cells (splice (⟨b_x, 0, none⟩ : Addr).off (nL r_0 r_1 r_2 r_3 r_4 r_5 r_6_a r_6_n r_6_c r_7) cs).toArray el (0, 0)) :: F4) I4 F5 → ((decide (i < ((path_n : Nat) : Int)) = true → ∃ ad : Addr, at1 = some ad ∧ ∃ (m_a : Option Addr) (m_n m_c : Nat), Rd I4 (F5) (ad.add 6) [vl m_a m_n m_c] ∧ ((decide (((m_n : Nat) : Int) > 0) = true → ∃ ad1 : Addr, at1 = some ad1 ∧ ∃ (m_a1 : Option Addr) (m_n1 m_c1 : Nat), Rd I4 (F5) (ad1.add 6) [vl m_a1 m_n1 m_c1] ∧ ((0 ≤ i ∧ i < (path_n : Int)) ∧ ∃ ad2 : Addr, path_a = some ad2 ∧ ∃ (m2 : Int), Rd I4 (F5) (ad2.add (Int.toNat (i) * 1)) [Value.int .u8 m2] ∧ ∃ ad3 : Addr, at1 = some ad3 ∧ ∃ (m_a2 : Option Addr) (m_n2 m_c2 : Nat), Rd I4 (F5) (ad3.add 6) [vl m_a2 m_n2 m_c2] ∧ ((((m_n2 : Nat) : Int) ≠ 0) ∧ ((0 ≤ (Int.tmod (wr m2) ((m_n2 : Nat) : Int)) ∧ (Int.tmod (wr m2) ((m_n2 : Nat) : Int)) < (m_n1 : Int)) ∧ ∃ ad4 : Addr, m_a1 = some ad4 ∧ (∃ m3 : Nat, m3 < m1 ∧ Inv22 (some (⟨b_n, 0, none⟩ : Addr)) (some (⟨b_x, 0, none⟩ : Addr)) (some (ad4.add (Int.toNat (Int.tmod (wr m2) ((m_n2 : Nat) : Int)) * 8))) (wr (i + 1)) m3 I3 (((⟨b_x, 0, none⟩ : Addr).block, Obj.cells (splice (⟨b_x, 0, none⟩ : Addr).off (nL r_0 r_1 r_2 r_3 r_4 r_5 r_6_a r_6_n r_6_c r_7) cs).toArray el (0, 0)) :: F4) I4 F5))))) ∧ (decide (((m_n : Nat) : Int) > 0) = false → Inv18 (some (⟨b_n, 0, none⟩ : Addr)) (some (⟨b_x, 0, none⟩ : Addr)) at1 I3 (((⟨b_x, 0, none⟩ : Addr).block, Obj.cells (splice (⟨b_x, 0, none⟩ : Addr).off (nL r_0 r_1 r_2 r_3 r_4 r_5 r_6_a r_6_n r_6_c r_7) cs).toArray el (0, 0)) :: F4) I4 F5))) ∧ (decide (i < ((path_n : Nat) : Int)) = false → Inv18 (some (⟨b_n, 0, none⟩ : Addr)) (some (⟨b_x, 0, none⟩ : Addr)) at1 I3 (((⟨b_x, 0, none⟩ : Addr).block, Obj.cells (splice (⟨b_x, 0, none⟩ : Addr).off (nL r_0 r_1 r_2 r_3 r_4 r_5 r_6_a r_6_n r_6_c r_7) cs).toArray el (0, 0)) :: F4) I4 F5))) ∧ ∀ (at2 : Option Addr) (I5 : Imm) (F6 : Heap), Imm.le I3 I5 → Inv18 (some (⟨b_n, 0, none⟩ : Addr)) (some (⟨b_x, 0, none⟩ : Addr)) at2 I3 (((⟨b_x, 0, none⟩ : Addr).block, Obj.cells (splice (⟨b_x, 0, none⟩ : Addr).off (nL r_0 r_1 r_2 r_3 r_4 r_5 r_6_a r_6_n r_6_c r_7) cs).toArray el (0, 0)) :: F4) I5 F6 → (((((Int.tmod how 4) == 0) = true → ∃ ad5 : Addr, at2 = some ad5 ∧ ∃ (m4 : Int), Rd I5 (F6) (ad5.add 3) [Value.int .i64 m4] ∧ ∃ ad6 : Addr, at2 = some ad6 ∧ ∃ (cs1 : List Value) (el1 : Nat) (F7 : Heap), List.Perm F6 (((ad6.add 3).block, Obj.cells cs1.toArray el1 (0, 0)) :: F7) ∧ (ad6.add 3).spot = none ∧ (ad6.add 3).off + 1 ≤ cs1.length ∧ Inv33 (some (⟨b_n, 0, none⟩ : Addr)) (some (⟨b_x, 0, none⟩ : Addr)) I5 F6 I5 (((ad6.add 3).block, Obj.cells (splice (ad6.add 3).off [Value.int .i64 (wr (BitVec.toNat ((BitVec.ofInt 64 m4) ^^^ (BitVec.ofInt 64 1)) : Int))] cs1).toArray el1 (0, 0)) :: F7)) ∧ (((Int.tmod how 4) == 0) = false → ((((Int.tmod how 4) == 1) = true → ∃ ad7 : Addr, at2 = some ad7 ∧ ∃ (m5 : Int), Rd I5 (F6) (ad7.add 1) [Value.int .u8 m5] ∧ ∃ ad8 : Addr, at2 = some ad8 ∧ ∃ (cs2 : List Value) (el2 : Nat) (F8 : Heap), List.Perm F6 (((ad8.add 1).block, Obj.cells cs2.toArray el2 (0, 0)) :: F8) ∧ (ad8.add 1).spot = none ∧ (ad8.add 1).off + 1 ≤ cs2.length ∧ Inv33 (some (⟨b_n, 0, none⟩ : Addr)) (some (⟨b_x, 0, none⟩ : Addr)) I5 F6 I5 (((ad8.add 1).block, Obj.cells (splice (ad8.add 1).off [Value.int .u8 (IntKind.wrap .u8 (BitVec.toNat ((BitVec.ofInt 8 m5) ^^^ (BitVec.ofInt 8 1)) : Int))] cs2).toArray el2 (0, 0)) :: F8)) ∧ (((Int.tmod how 4) == 1) = false → ((((Int.tmod how 4) == 2) = true → ∃ ad9 : Addr, at2 = some ad9 ∧ ∃ (m6 : ByteArray), Rd I5 (F6) (ad9.add 5) [Value.string m6] ∧ ((((m6.size + (⟨#[97]⟩ : ByteArray).size : Nat) : Int) ≤ IntKind.i64.max) ∧ ∃ ad10 : Addr, at2 = some ad10 ∧ ∃ (cs3 : List Value) (el3 : Nat) (F9 : Heap), List.Perm F6 (((ad10.add 5).block, Obj.cells cs3.toArray el3 (0, 0)) :: F9) ∧ (ad10.add 5).spot = none ∧ (ad10.add 5).off + 1 ≤ cs3.length ∧ Inv33 (some (⟨b_n, 0, none⟩ : Addr)) (some (⟨b_x, 0, none⟩ : Addr)) I5 F6 I5 (((ad10.add 5).block, Obj.cells (splice (ad10.add 5).off [Value.string (m6 ++ (⟨#[97]⟩ : ByteArray))] cs3).toArray el3 (0, 0)) :: F9))) ∧ (((Int.tmod how 4) == 2) = false → ∃ ad11 : Addr, at2 = some ad11 ∧ ∃ (m_a3 : Option Addr) (m_n3 m_c3 : Nat), Rd I5 (F6) (ad11.add 6) [vl m_a3 m_n3 m_c3] ∧ ∀ (b : Nat) (I6 : Imm), Imm.le I5 I6 → I6 b = some (nO 0 0 0 0 0 (⟨#[]⟩ : ByteArray) none 0 0 0) → TriE P (Builtin.append_ #[26, 26] 26 #[vl m_a3 m_n3 m_c3, vl (some ⟨b, 0, none⟩) 1 1]) I6 (F6) fun v I7 G4 => ∃ (r_a : Option Addr) (r_n r_c : Nat), v = vl r_a r_n r_c ∧ ∃ F10 : Heap, List.Perm G4 (F10) ∧ ((0 ≤ ((m_n3 : Nat) : Int) ∧ ((m_n3 : Nat) : Int) < (r_n : Int)) ∧ ∃ ad12 : Addr, r_a = some ad12 ∧ ∃ ad13 : Addr, at2 = some ad13 ∧ (∃ (cs4 : List Value) (el4 : Nat) (F11 : Heap), List.Perm F10 (((ad12.add (Int.toNat (((m_n3 : Nat) : Int)) * 8)).block, Obj.cells cs4.toArray el4 (0, 0)) :: F11) ∧ (ad12.add (Int.toNat (((m_n3 : Nat) : Int)) * 8)).spot = none ∧ (ad12.add (Int.toNat (((m_n3 : Nat) : Int)) * 8)).off + 8 ≤ cs4.length ∧ ∃ (cs5 : List Value) (el5 : Nat) (F12 : Heap), List.Perm (((ad12.add (Int.toNat (((m_n3 : Nat) : Int)) * 8)).block, Obj.cells (splice (ad12.add (Int.toNat (((m_n3 : Nat) : Int)) * 8)).off (nL 0 0 0 0 0 (⟨#[]⟩ : ByteArray) none 0 0 0) cs4).toArray el4 (0, 0)) :: F11) (((ad13.add 6).block, Obj.cells cs5.toArray el5 (0, 0)) :: F12) ∧ (ad13.add 6).spot = none ∧ (ad13.add 6).off + 1 ≤ cs5.length ∧ Inv33 (some (⟨b_n, 0, none⟩ : Addr)) (some (⟨b_x, 0, none⟩ : Addr)) I5 F6 I7 (((ad13.add 6).block, Obj.cells (splice (ad13.add 6).off [vl r_a r_n r_c] cs5).toArray el5 (0, 0)) :: F12)) ∧ (∃ (cs6 : List Value) (el6 : Nat) (F13 : Heap), List.Perm F10 (((ad13.add 6).block, Obj.cells cs6.toArray el6 (0, 0)) :: F13) ∧ (ad13.add 6).spot = none ∧ (ad13.add 6).off + 1 ≤ cs6.length ∧ ∃ (cs7 : List Value) (el7 : Nat) (F14 : Heap), List.Perm (((ad13.add 6).block, Obj.cells (splice (ad13.add 6).off [vl r_a r_n r_c] cs6).toArray el6 (0, 0)) :: F13) (((ad12.add (Int.toNat (((m_n3 : Nat) : Int)) * 8)).block, Obj.cells cs7.toArray el7 (0, 0)) :: F14) ∧ (ad12.add (Int.toNat (((m_n3 : Nat) : Int)) * 8)).spot = none ∧ (ad12.add (Int.toNat (((m_n3 : Nat) : Int)) * 8)).off + 8 ≤ cs7.length ∧ Inv33 (some (⟨b_n, 0, none⟩ : Addr)) (some (⟨b_x, 0, none⟩ : Addr)) I5 F6 I7 (((ad12.add (Int.toNat (((m_n3 : Nat) : Int)) * 8)).block, Obj.cells (splice (ad12.add (Int.toNat (((m_n3 : Nat) : Int)) * 8)).off (nL 0 0 0 0 0 (⟨#[]⟩ : ByteArray) none 0 0 0) cs7).toArray el7 (0, 0)) :: F14)))))))))) ∧ ∀ (I8 : Imm) (F15 : Heap), Imm.le I5 I8 → Inv33 (some (⟨b_n, 0, none⟩ : Addr)) (some (⟨b_x, 0, none⟩ : Addr)) I5 F6 I8 F15 → ∃ (m_02 m_12 m_22 m_32 m_42 : Int) (m_52 : ByteArray) (m_6_a2 : Option Addr) (m_6_n2 m_6_c2 : Nat) (m_72 : Int), Rd I8 (F15) (⟨b_n, 0, none⟩ : Addr) (nL m_02 m_12 m_22 m_32 m_42 m_52 m_6_a2 m_6_n2 m_6_c2 m_72) ∧ ∃ (m_03 m_13 m_23 m_33 m_43 : Int) (m_53 : ByteArray) (m_6_a3 : Option Addr) (m_6_n3 m_6_c3 : Nat) (m_73 : Int), Rd I8 (F15) (⟨b_x, 0, none⟩ : Addr) (nL m_03 m_13 m_23 m_33 m_43 m_53 m_6_a3 m_6_n3 m_6_c3 m_73) ∧ Tri P 15 (#[nV m_02 m_12 m_22 m_32 m_42 m_52 m_6_a2 m_6_n2 m_6_c2 m_72, nV m_03 m_13 m_23 m_33 m_43 m_53 m_6_a3 m_6_n3 m_6_c3 m_73]) I8 (F15) fun e4 I9 G5 => ∃ (r2 : Bool), e4 = .returned (vt r2) ∧ ∃ F16 : Heap, List.Perm G5 (F16) ∧ ∃ (m_04 m_14 m_24 m_34 m_44 : Int) (m_54 : ByteArray) (m_6_a4 : Option Addr) (m_6_n4 m_6_c4 : Nat) (m_74 : Int), Rd I9 (F16) (⟨b_x, 0, none⟩ : Addr) (nL m_04 m_14 m_24 m_34 m_44 m_54 m_6_a4 m_6_n4 m_6_c4 m_74) ∧ ∃ (m_05 m_15 m_25 m_35 m_45 : Int) (m_55 : ByteArray) (m_6_a5 : Option Addr) (m_6_n5 m_6_c5 : Nat) (m_75 : Int), Rd I9 (F16) (⟨b_n, 0, none⟩ : Addr) (nL m_05 m_15 m_25 m_35 m_45 m_55 m_6_a5 m_6_n5 m_6_c5 m_75) ∧ Tri P 15 (#[nV m_04 m_14 m_24 m_34 m_44 m_54 m_6_a4 m_6_n4 m_6_c4 m_74, nV m_05 m_15 m_25 m_35 m_45 m_55 m_6_a5 m_6_n5 m_6_c5 m_75]) I9 (F16) fun e5 I10 G6 => ∃ (r3 : Bool), e5 = .returned (vt r3) ∧ ∃ F17 : Heap, List.Perm G6 (F17) ∧ (((!r2) = true → Q (.returned (vt (!r3))) I10 (F17)) ∧ ((!r2) = false → Q (.returned (vt false)) I10 (F17)))))))
set_option maxRecDepth 100000 in
theorem law12_TreeTurned.vc {n_0 n_1 n_2 n_3 n_4 : Int} {n_5 : ByteArray} {n_6_a : Option Addr} {n_6_n n_6_c : Nat} {n_7 : Int} {path_a : Option Addr} {path_n path_c : Nat} {how : Int} {I : Imm} {F : Heap} {Q : PostQ} (Inv18 : Option Addr → Option Addr → Option Addr → Imm → Heap → Imm → Heap → Prop) (Inv22 : Option Addr → Option Addr → Option Addr → Int → Nat → Imm → Heap → Imm → Heap → Prop) (Inv33 : Option Addr → Option Addr → Imm → Heap → Imm → Heap → Prop) (h : law12_TreeTurned.V (fun k o t n f s a l c q => .agg #[Value.int .u8 k, Value.int .u8 o, Value.int .u8 t, Value.int .i64 n, Value.int .u8 f, Value.string s, Value.slice a l c, Value.int .i64 q]) (fun k o t n f s a l c q => .cells #[Value.int .u8 k, Value.int .u8 o, Value.int .u8 t, Value.int .i64 n, Value.int .u8 f, Value.string s, Value.slice a l c, Value.int .i64 q] 28 (0, 0)) (fun k o t n f s a l c q => [Value.int .u8 k, Value.int .u8 o, Value.int .u8 t, Value.int .i64 n, Value.int .u8 f, Value.string s, Value.slice a l c, Value.int .i64 q]) .slice .bool (IntKind.wrap .i64) n_0 n_1 n_2 n_3 n_4 n_5 n_6_a n_6_n n_6_c n_7 path_a path_n path_c how I F Q Inv18 Inv22 Inv33) : Tri P 7 #[Value.agg #[Value.int .u8 n_0, Value.int .u8 n_1, Value.int .u8 n_2, Value.int .i64 n_3, Value.int .u8 n_4, Value.string n_5, Value.slice n_6_a n_6_n n_6_c, Value.int .i64 n_7], Value.slice path_a path_n path_c, Value.int .i64 how] I (F) Q :=
  tri_of_V (A := (annL [3001, 3003, 8003, 8010, 13000, 15000, 17000, 21001] [] [8, 9, 15, 34] shT_lTreeTurned [(18, ⟨[(10, .ptr)], [], fun fs I0 F0 vs m I F => match fs, vs with | [.pointer y0, .pointer y1], [.pointer y2] => Inv18 y0 y1 y2 I0 F0 I F | _, _ => False, [3, 9], []⟩), (22, ⟨[(10, .ptr), (11, (.int .i64))], [], fun fs I0 F0 vs m I F => match fs, vs with | [.pointer y0, .pointer y1], [.pointer y2, .int _ y3] => Inv22 y0 y1 y2 y3 m I0 F0 I F | _, _ => False, [3, 9], []⟩), (33, ⟨[], [], fun fs I0 F0 vs m I F => match fs, vs with | [.pointer y0, .pointer y1], [] => Inv33 y0 y1 I0 F0 I F | _, _ => False, [3, 9], []⟩)] [12006] [0, 5002] [] [] [(12, [0, 1, 2, 4, 3, 5, 6, 7, 8, 10, 11])] [] [(12, 9, 12)])) (args := [.a (.v (Value.agg #[Value.int .u8 n_0, Value.int .u8 n_1, Value.int .u8 n_2, Value.int .i64 n_3, Value.int .u8 n_4, Value.string n_5, Value.slice n_6_a n_6_n n_6_c, Value.int .i64 n_7])), .a (.v (Value.slice path_a path_n path_c)), .a (.v (Value.int .i64 how))]) (own := []) (keep := []) [8, 9, 15, 34] Go.Proofs.Try.func7 h (by kernel_rfl) (by kernel_rfl) (by kernel_rfl) (by kernel_rfl) (by kernel_rfl) (by simp [AV.wf, At.wf]) (by simp [AV.wf, At.wf]) rfl
end Go.Lx
namespace Go.Lx
open Go.Vc
theorem addr_add (b i j : Nat) : (⟨b, i, none⟩ : Addr).add j = ⟨b, i + j, none⟩ := by unfold Addr.add; split <;> simp_all
theorem splice_in {α : Type} (k : Nat) (vs X : List α) : ∀ P : List α, splice (P.length + k) vs (P ++ X) = P ++ splice k vs X
  | [] => by rw [List.length_nil, Nat.zero_add]; rfl
  | p :: P => by
    rw [List.length_cons, show P.length + 1 + k = (P.length + k) + 1 by omega, List.cons_append, splice, splice_in k vs X P]; rfl
def Loc (t : Nd) (F : Heap) (p3 p9 at1 : Option Addr) (F' : Heap) : Prop := ∃ (bn bx : Nat) (x : Nd) (Hx : Heap) (ad : Addr) (y : Nd) (f : Nd → Nd), p3 = some ⟨bn, 0, none⟩ ∧ p9 = some ⟨bx, 0, none⟩ ∧ at1 = some ad ∧ x.px = t.px ∧ OwnT 28 false x Hx ∧
  F'.Perm ((bx, Obj.cells x.enc.toArray 28 (0, 0)) :: (Hx ++ ((bn, Obj.cells t.enc.toArray 28 (0, 0)) :: F))) ∧ Sub (rootN bx x) ad y f ∧ y.px.ShortP ∧ y.px.size ≤ 1048576
def Turned (t : Nd) (F : Heap) (p3 p9 : Option Addr) (F' : Heap) : Prop := ∃ (bn bx : Nat) (x : Nd) (Hx : Heap), p3 = some ⟨bn, 0, none⟩ ∧ p9 = some ⟨bx, 0, none⟩ ∧ OwnT 28 false x Hx ∧
  F'.Perm ((bx, Obj.cells x.enc.toArray 28 (0, 0)) :: (Hx ++ ((bn, Obj.cells t.enc.toArray 28 (0, 0)) :: F))) ∧ Dif t.px x.px ∧ x.px.size ≤ 1048577
theorem Loc.opened {t : Nd} {F F' : Heap} {p3 p9 at1 : Option Addr} (h : Loc t F p3 p9 at1 F') (ht : t.px.size ≤ 1048576) : ∃ b P S Hy R y, at1 = some ⟨b, P.length, none⟩ ∧ F'.Perm ((b, Obj.cells (P ++ (y.enc ++ S)).toArray 28 (0, 0)) :: (Hy ++ R)) ∧ OwnT 28 false y Hy ∧ y.px.ShortP ∧ y.px.size ≤ 1048576 ∧
    (∀ a, a ∈ F → a ∈ F') ∧ (∀ y' Hy' F'', OwnT 28 false y' Hy' → Dif y.px y'.px → y'.px.size ≤ y.px.size + 1 → F''.Perm ((b, Obj.cells (P ++ (y'.enc ++ S)).toArray 28 (0, 0)) :: (Hy' ++ R)) → Turned t F p3 p9 F'') ∧
    (∀ j z a, y.kids[j]? = some z → y.a = some a → Loc t F p3 p9 (some (a.add (j * 8))) F') := by
  obtain ⟨bn, bx, x, Hx, ad, y, f, e3, e9, e1, hx, hO, hF, hS, hsh, hsz⟩ := h
  obtain ⟨b, P, S, Hy, R, had, hp, hOy, hup⟩ := turn_key hS hO
  refine ⟨b, P, S, Hy, R ++ ((bn, Obj.cells t.enc.toArray 28 (0, 0)) :: F), y, by rw [e1, had], (perm_of fun z => by have q0 := cn_perm hF z; have q1 := cn_perm hp z; simp only [cn_app, cn_cons, cn_nil] at q0 q1 ⊢; omega), hOy, hsh, hsz, fun a ha => hF.mem_iff.2 (.tail _ (List.mem_append_right _ (.tail _ ha))), fun y' Hy' F'' hO' hd hz hF'' => ?_, fun j z a hz ha => ?_⟩
  · obtain ⟨x', H', g1, g2, g3, g4⟩ := hup y' Hy' hO' hd hz
    rw [hx] at g3 g4
    exact ⟨bn, bx, x', H', e3, e9, g1, (perm_of fun z => by have q0 := cn_perm hF'' z; have q1 := cn_perm g2 z; simp only [cn_app, cn_cons, cn_nil] at q0 q1 ⊢; omega), g3, by omega⟩
  · obtain ⟨g, hg⟩ := hS.kid hz ha
    have hm := List.mem_of_getElem? hz
    exact ⟨bn, bx, x, Hx, _, z, g, e3, e9, rfl, hx, hO, hF, hg, hsh.kid _ (by rw [Nd.px_kids]; exact List.mem_map_of_mem hm), size_kid hm hsz⟩
theorem sub_rd {I : Imm} {F' R : Heap} {b : Nat} {P S : List Value} {y : Nd} (h : F'.Perm ((b, Obj.cells (P ++ (y.enc ++ S)).toArray 28 (0, 0)) :: R)) : Rd I F' (⟨b, P.length, none⟩ : Addr) y.enc :=
  Rd.of_own (h.mem_iff.2 (List.mem_cons_self ..)) _ fun j hj => by
    rw [List.getElem?_toArray, List.getElem?_append_right (by omega), Nat.add_sub_cancel_left, List.getElem?_append_left hj]
theorem dif_alone {x y : Px} (h1 : x.aloneEq y = false) (h2 : y.aloneEq x = false) : Dif x y := ⟨by rw [Px.like_eq, h1]; rfl, by rw [Px.like_eq, h2]; rfl⟩
theorem dif_n {x y : Px} (h : y.n ≠ x.n) : Dif x y := by
  have h1 : (x.n == y.n) = false := by simpa using Ne.symm h
  have h2 : (y.n == x.n) = false := by simpa using h
  exact dif_alone (by unfold Px.aloneEq; rw [h1]; simp) (by unfold Px.aloneEq; rw [h2]; simp)
theorem dif_oper {x y : Px} (h : y.oper ≠ x.oper) : Dif x y := by
  have h1 : (x.oper == y.oper) = false := by simpa using Ne.symm h
  have h2 : (y.oper == x.oper) = false := by simpa using h
  exact dif_alone (by unfold Px.aloneEq; rw [h1]; simp) (by unfold Px.aloneEq; rw [h2]; simp)
theorem toList_ne {s t : ByteArray} (h : s ≠ t) : (s.toList == t.toList) = false := by
  have := str_neq (s := s) (t := t)
  rw [decide_eq_true h] at this
  simpa using this
theorem dif_name {x y : Px} (h : y.name ≠ x.name) : Dif x y :=
  dif_alone (by unfold Px.aloneEq; rw [toList_ne (Ne.symm h)]; simp) (by unfold Px.aloneEq; rw [toList_ne h]; simp)
theorem store_perm {b k E : Nat} {P S : List Value} {y y' : Nd} {v : Value} {R : Heap} (h : splice k [v] (y.enc ++ S) = y'.enc ++ S) :
    ((b, Obj.cells (splice (P.length + k) [v] (P ++ (y.enc ++ S))).toArray E (0, 0)) :: R).Perm ((b, Obj.cells (P ++ (y'.enc ++ S)).toArray E (0, 0)) :: R) := by rw [splice_in, h]
theorem size_one {y y' : Nd} (h : y'.kids = y.kids) : y'.px.size ≤ y.px.size + 1 := by rw [Px.size_eq, Px.size_eq y.px, Nd.px_kids, Nd.px_kids, h]; omega
theorem own_like {y y' : Nd} {Hy : Heap} (h : OwnT 28 false y Hy) (ha : y'.a = y.a) (hc : y'.c = y.c) (hk : y'.kids = y.kids) : OwnT 28 false y' Hy := by
  obtain ⟨A, hs, rfl, hA, -, hki⟩ := h.inv
  have := OwnT.mk (E := 28) (R := false) (t := y') (A := A) (hs := hs) (by rw [ha, hc, hk]; exact hA) (fun h => by cases h) (by rw [hk]; exact hki)
  rw [hk] at this
  exact this
theorem TreeTurned_spec (t : Nd) (a : Option Addr) (n c : Nat) (zs : List Int) (how : Int) (hst : t.px.ShortP) (I : Imm) (F : Heap) (ht : NdOk I F t) (hz : SlG I F 1 (fun x => [Value.int .u8 x]) a n zs) (hzl : zs.length ≤ 140737488351232) (hzr : ∀ x ∈ zs, (Lit.int .u8 x).wf = true) :
    Tri P 7 #[t.v, .slice a n c, .int .i64 how] I F fun e I' G => e = .returned (.bool true) := by
  refine law12_TreeTurned.vc (fun p3 p9 at1 I0 F0 I' F' => Loc t F p3 p9 at1 F') (fun p3 p9 at1 i m I0 F0 I' F' => 0 ≤ i ∧ i ≤ n ∧ m = (n - i).toNat ∧ Loc t F p3 p9 at1 F') (fun p3 p9 I0 F0 I' F' => Turned t F p3 p9 F') ?_
  unfold law12_TreeTurned.V
  have okt : ∀ {J : Imm} {G : Heap}, Imm.le I J → (∀ a, a ∈ F → a ∈ G) → NdOk J G t := fun hl hs => ht.mono hl hs
  have hzn : n = zs.length := hz.1
  intro b_n
  refine Tri.ret (awake_spec I _) fun I1 l1 => ⟨_, rfl, (b_n, Obj.cells #[.int .u8 t.kind, .int .u8 t.oper, .int .u8 t.typ, .int .i64 t.n, .int .u8 t.field, .string t.name, .slice t.a t.kids.length t.c, .int .i64 t.pos] 28 (0, 0)) :: F, .refl _, _, _, _, _, _, _, _, _, _, _, nd_rd (List.mem_cons_self ..), ?_⟩
  refine Tri.ret (farExpr_spec t hst I1 _ (okt l1 fun a ha => by simp only [List.mem_cons, List.mem_append]; simp only [ha, true_or, or_true])) fun I2 h2 => ⟨_, rfl, (b_n, Obj.cells #[.int .u8 t.kind, .int .u8 t.oper, .int .u8 t.typ, .int .i64 t.n, .int .u8 t.field, .string t.name, .slice t.a t.kids.length t.c, .int .i64 t.pos] 28 (0, 0)) :: F, .refl _, fun h => by (cases h), fun _ => ⟨fun _ => rfl, fun f1 => ?_⟩⟩
  have l2 := Imm.le_trans l1 h2
  have st := far_size f1
  clear f1
  refine ⟨_, _, _, _, _, _, _, _, _, _, nd_rd (List.mem_cons_self ..), (copy_spec t st I2 _ (okt l2 fun a ha => by simp only [List.mem_cons, List.mem_append]; simp only [ha, true_or, or_true])).mono fun e I3 G h3 ⟨x, Hx, he, px, hOx, hG⟩ => ?_⟩
  subst he
  have l3 := Imm.le_trans l2 h3
  refine ⟨_, _, _, _, _, _, _, _, _, _, rfl, Hx ++ ((b_n, Obj.cells #[.int .u8 t.kind, .int .u8 t.oper, .int .u8 t.typ, .int .i64 t.n, .int .u8 t.field, .string t.name, .slice t.a t.kids.length t.c, .int .i64 t.pos] 28 (0, 0)) :: F), hG, fun b_x => ⟨zNd.enc, 28, Hx ++ ((b_n, Obj.cells #[.int .u8 t.kind, .int .u8 t.oper, .int .u8 t.typ, .int .i64 t.n, .int .u8 t.field, .string t.name, .slice t.a t.kids.length t.c, .int .i64 t.pos] 28 (0, 0)) :: F), .refl _, rfl, Nat.le_refl _, ?_⟩⟩
  have hL0 : Loc t F (some ⟨b_n, 0, none⟩) (some ⟨b_x, 0, none⟩) (some ⟨b_x, 0, none⟩) ((b_x, Obj.cells x.enc.toArray 28 (0, 0)) :: (Hx ++ ((b_n, Obj.cells #[.int .u8 t.kind, .int .u8 t.oper, .int .u8 t.typ, .int .i64 t.n, .int .u8 t.field, .string t.name, .slice t.a t.kids.length t.c, .int .i64 t.pos] 28 (0, 0)) :: F))) := by
    obtain ⟨f, hf⟩ := root_sub b_x x
    exact ⟨b_n, b_x, x, Hx, _, x, f, rfl, rfl, rfl, px, hOx, .refl _, hf, by rw [px]; exact hst, by rw [px]; exact st⟩
  refine ⟨⟨⟨_, Int.le_refl _, by omega, rfl, hL0⟩, fun at1 i m I4 F5 h4 ⟨g0, g1, gm, hL⟩ => ⟨fun hlt => ?_, fun _ => hL⟩⟩, ?_⟩
  · have hlt := of_decide_eq_true hlt
    have l4 := Imm.le_trans l3 h4
    obtain ⟨b, P', S, Hy, R, y, e1, hp, hOy, hsh, hsz, hin, -, hkid⟩ := hL.opened st
    subst e1
    have hrd : Rd I4 F5 (⟨b, P'.length, none⟩ : Addr) y.enc := sub_rd hp
    refine ⟨_, rfl, _, _, _, hrd.field (o := 6) rfl, fun hk => ?_, fun _ => hL⟩
    have hk := of_decide_eq_true hk
    have hkl := size_len hsz
    obtain ⟨ad2, q, had2, hq, hrd2⟩ := (hz.mono l4 hin).at g0 (by omega)
    have hqr := wf8 (hzr q (List.mem_of_getElem? hq))
    have hw : IntKind.wrap .i64 q = q := w64 (by omega)
    have m0 : 0 ≤ Int.tmod q (y.kids.length : Int) := Int.tmod_nonneg _ hqr.1
    have m1 : Int.tmod q (y.kids.length : Int) < (y.kids.length : Int) := Int.tmod_lt_of_pos _ (by omega)
    refine ⟨_, rfl, _, _, _, hrd.field (o := 6) rfl, ⟨g0, by omega⟩, ad2, had2, q, hrd2, _, rfl, _, _, _, hrd.field (o := 6) rfl, by omega, ?_⟩
    rw [hw]
    have okd : NdOk I4 F5 y := hOy.ok fun a ha => hp.mem_iff.2 (.tail _ (List.mem_append_left _ ha))
    obtain ⟨ad4, z, had4, hzk, -, -, -⟩ := okd.kids.at m0 m1
    refine ⟨⟨m0, m1⟩, ad4, had4, (n - (i + 1)).toNat, by omega, ?_⟩
    rw [w64 (n := i + 1) (by omega)]
    exact ⟨by omega, by omega, rfl, hkid _ z ad4 hzk had4⟩
  · intro at2 I5 F6 h5 hL
    have l5 := Imm.le_trans l3 h5
    obtain ⟨b, P', S, Hy, R, y, e1, hp, hOy, hsh, hsz, hin, hup, -⟩ := hL.opened st
    subst e1
    have hrd : ∀ J, Rd J F6 (⟨b, P'.length, none⟩ : Addr) y.enc := fun J => sub_rd hp
    have hkl := size_len hsz
    have hcl : ∀ k, k < 8 → P'.length + k + 1 ≤ (P' ++ (y.enc ++ S)).length := fun k hk => by simp only [List.length_append, Nd.enc_len]; omega
    refine ⟨⟨fun _ => ?_, fun _ => ⟨fun _ => ?_, fun _ => ⟨fun _ => ?_, fun _ => ?_⟩⟩⟩, ?_⟩
    · refine ⟨_, rfl, _, (hrd _).field (o := 3) rfl, _, rfl, P' ++ (y.enc ++ S), 28, Hy ++ R, ?_⟩
      rw [addr_add]
      refine ⟨hp, rfl, hcl 3 (by decide), ?_⟩
      refine hup (.mk y.kind y.oper y.typ (IntKind.wrap .i64 (BitVec.toNat ((BitVec.ofInt 64 y.n) ^^^ (BitVec.ofInt 64 1)))) y.field y.name y.a y.c y.kids y.pos) Hy _ (own_like hOy rfl rfl rfl) ?_ (size_one rfl) (store_perm rfl)
      exact dif_n (by rw [Nd.px_n, Nd.px_n]; exact flip64 y.n)
    · refine ⟨_, rfl, _, (hrd _).field (o := 1) rfl, _, rfl, P' ++ (y.enc ++ S), 28, Hy ++ R, ?_⟩
      rw [addr_add]
      refine ⟨hp, rfl, hcl 1 (by decide), ?_⟩
      refine hup (.mk y.kind (IntKind.wrap .u8 (BitVec.toNat ((BitVec.ofInt 8 y.oper) ^^^ (BitVec.ofInt 8 1)))) y.typ y.n y.field y.name y.a y.c y.kids y.pos) Hy _ (own_like hOy rfl rfl rfl) ?_ (size_one rfl) (store_perm rfl)
      exact dif_oper (by rw [Nd.px_oper, Nd.px_oper]; exact flip8 y.oper)
    · have hnm : y.name.size ≤ 140737488351232 := by rw [← Nd.px_name]; exact hsh.name
      have hns : (y.name ++ (⟨#[97]⟩ : ByteArray)).size = y.name.size + 1 := by rw [ByteArray.size_append]; rfl
      refine ⟨_, rfl, _, (hrd _).field (o := 5) rfl, ?_, _, rfl, P' ++ (y.enc ++ S), 28, Hy ++ R, ?_⟩
      · show ((y.name.size + 1 : Nat) : Int) ≤ 9223372036854775807
        omega
      rw [addr_add]
      refine ⟨hp, rfl, hcl 5 (by decide), ?_⟩
      refine hup (.mk y.kind y.oper y.typ y.n y.field (y.name ++ (⟨#[97]⟩ : ByteArray)) y.a y.c y.kids y.pos) Hy _ (own_like hOy rfl rfl rfl) ?_ (size_one rfl) (store_perm rfl)
      exact dif_name (by
        rw [Nd.px_name, Nd.px_name]
        show y.name ++ (⟨#[97]⟩ : ByteArray) ≠ y.name
        intro e
        rw [e] at hns; omega)
    · obtain ⟨A, hs, rfl, hA, -, hki⟩ := hOy.inv
      refine ⟨_, rfl, _, _, _, (hrd _).field (o := 6) rfl, fun b0 I6 h6 hb0 => ?_⟩
      refine TriE.perm (TriE.mono (append_nd hA (by omega) zNd rfl hb0 (F := (b, Obj.cells (P' ++ (y.enc ++ S)).toArray 28 (0, 0)) :: (flatH y.kids.length hs ++ R))) fun v I7 G hI7 ⟨a', n', c', A', hv, hA', hG⟩ => ?_) (perm_of fun z => by have q0 := cn_perm hp z; simp only [cn_app, cn_cons, cn_nil] at q0 ⊢; omega)
      subst hG
      have hzk : (y.kids ++ [zNd])[y.kids.length]? = some zNd := by simp
      obtain ⟨b', P2, S2, ha2, hP2, hAe, -⟩ := hA'.split hzk
      have hn' : n' = y.kids.length + 1 := by rw [hA'.1]; simp
      have hOn : ∃ Hn, OwnT 28 false (.mk y.kind y.oper y.typ y.n y.field y.name a' c' (y.kids ++ [zNd]) y.pos) Hn ∧ Hn.Perm ((b', Obj.cells (P2 ++ (zNd.enc ++ S2)).toArray 28 (0, 0)) :: flatH y.kids.length hs) := by
        refine ⟨_, .mk (t := .mk y.kind y.oper y.typ y.n y.field y.name a' c' (y.kids ++ [zNd]) y.pos) (A := A') (hs := fun i => if i < y.kids.length then hs i else []) (by rw [hA'.1] at hA'; exact hA') (fun h => by cases h) fun i k hi => ?_, ?_⟩
        · have hi : (y.kids ++ [zNd])[i]? = some k := hi
          rw [List.getElem?_append] at hi
          split at hi
          · rename_i hlt; rw [if_pos hlt]; exact hki i k hi
          · rename_i hge
            rw [if_neg hge]
            have hk := List.mem_of_getElem? hi
            rw [List.mem_singleton] at hk
            rw [hk]
            exact .mk (t := zNd) (A := []) (hs := fun _ => []) Acc.nil (fun h => by cases h) fun i k h => by cases h
        · rw [hAe]
          show (_ :: ([] ++ flatH (y.kids ++ [zNd]).length fun i => if i < y.kids.length then hs i else [])).Perm _
          rw [List.length_append, List.length_singleton, flatH_last, if_neg (Nat.lt_irrefl _), flatH_congr (hs' := hs) fun j hj => if_pos hj, List.append_nil]; exact .refl _
      obtain ⟨Hn, hOn, hpn⟩ := hOn
      have hfin : ∀ F'', F''.Perm ((b, Obj.cells (P' ++ ((Nd.mk y.kind y.oper y.typ y.n y.field y.name a' c' (y.kids ++ [zNd]) y.pos).enc ++ S)).toArray 28 (0, 0)) :: (((b', Obj.cells (P2 ++ (zNd.enc ++ S2)).toArray 28 (0, 0)) :: flatH y.kids.length hs) ++ R)) → Turned t F (some ⟨b_n, 0, none⟩) (some ⟨b_x, 0, none⟩) F'' := fun F'' hF'' => by
        refine hup (Nd.mk y.kind y.oper y.typ y.n y.field y.name a' c' (y.kids ++ [zNd]) y.pos) Hn F'' hOn ?_ ?_ (perm_of fun z => by have q0 := cn_perm hF'' z; have q1 := cn_perm hpn z; simp only [cn_app, cn_cons, cn_nil] at q0 q1 ⊢; omega)
        · have e1 : decide ((y.kids.map Nd.px).length = ((y.kids ++ [zNd]).map Nd.px).length) = false := decide_eq_false (by simp)
          have e2 : decide (((y.kids ++ [zNd]).map Nd.px).length = (y.kids.map Nd.px).length) = false := decide_eq_false (by simp)
          refine ⟨?_, ?_⟩
          · rw [Px.like_eq, Nd.px_kids, Nd.px_kids]
            show (_ && (decide ((y.kids.map Nd.px).length = ((y.kids ++ [zNd]).map Nd.px).length) && _)) = false
            rw [e1, Bool.false_and, Bool.and_false]
          · rw [Px.like_eq, Nd.px_kids, Nd.px_kids]
            show (_ && (decide (((y.kids ++ [zNd]).map Nd.px).length = (y.kids.map Nd.px).length) && _)) = false
            rw [e2, Bool.false_and, Bool.and_false]
        · rw [Px.size_eq, Px.size_eq y.px, Nd.px_kids, Nd.px_kids]
          show 1 + Px.sizeL ((y.kids ++ [zNd]).map Nd.px) ≤ _
          have h0 : ∀ l : List Px, Px.sizeL (l ++ [zNd.px]) = Px.sizeL l + 1 := fun l => by
            induction l with
            | nil => rfl
            | cons x l ih => rw [List.cons_append, Px.sizeL, Px.sizeL, ih]; omega
          rw [List.map_append, List.map_singleton, h0]; omega
      have hcl2 : P2.length + 8 ≤ (P2 ++ (zNd.enc ++ S2)).length := by simp only [List.length_append, Nd.enc_len]; omega
      have hst2 : splice P2.length zNd.enc (P2 ++ (zNd.enc ++ S2)) = P2 ++ (zNd.enc ++ S2) := splice_at P2 zNd.enc zNd.enc S2 rfl
      have hst1 : splice (P'.length + 6) [Value.slice a' n' c'] (P' ++ (y.enc ++ S)) = P' ++ ((Nd.mk y.kind y.oper y.typ y.n y.field y.name a' c' (y.kids ++ [zNd]) y.pos).enc ++ S) := by
        rw [splice_in, hA'.1]; rfl
      refine ⟨a', n', c', hv, A' ++ ((b, Obj.cells (P' ++ (y.enc ++ S)).toArray 28 (0, 0)) :: (flatH y.kids.length hs ++ R)), .refl _, ⟨by omega, by omega⟩, _, ha2, _, rfl, ?_⟩
      rw [Int.toNat_natCast, ← hP2, add_lit0, addr_add, hAe]
      refine ⟨⟨P2 ++ (zNd.enc ++ S2), 28, (b, Obj.cells (P' ++ (y.enc ++ S)).toArray 28 (0, 0)) :: (flatH y.kids.length hs ++ R), .refl _, rfl, hcl2,
        P' ++ (y.enc ++ S), 28, (b', Obj.cells (P2 ++ (zNd.enc ++ S2)).toArray 28 (0, 0)) :: (flatH y.kids.length hs ++ R), ?_, rfl, hcl 6 (by decide), hfin _ ?_⟩,
        ⟨P' ++ (y.enc ++ S), 28, (b', Obj.cells (P2 ++ (zNd.enc ++ S2)).toArray 28 (0, 0)) :: (flatH y.kids.length hs ++ R), .swap .., rfl, hcl 6 (by decide),
        P2 ++ (zNd.enc ++ S2), 28, (b, Obj.cells (P' ++ ((Nd.mk y.kind y.oper y.typ y.n y.field y.name a' c' (y.kids ++ [zNd]) y.pos).enc ++ S)).toArray 28 (0, 0)) :: (flatH y.kids.length hs ++ R), ?_, rfl, hcl2, hfin _ ?_⟩⟩
      · show List.Perm ((b', Obj.cells (splice P2.length zNd.enc (P2 ++ (zNd.enc ++ S2))).toArray 28 (0, 0)) :: _) _
        rw [hst2]; exact .swap ..
      · show List.Perm ((b, Obj.cells (splice (P'.length + 6) [Value.slice a' n' c'] (P' ++ (y.enc ++ S))).toArray 28 (0, 0)) :: _) _
        rw [hst1]; exact .refl _
      · show List.Perm ((b, Obj.cells (splice (P'.length + 6) [Value.slice a' n' c'] (P' ++ (y.enc ++ S))).toArray 28 (0, 0)) :: _) _
        rw [hst1]; exact .swap ..
      · show List.Perm ((b', Obj.cells (splice P2.length zNd.enc (P2 ++ (zNd.enc ++ S2))).toArray 28 (0, 0)) :: _) _
        rw [hst2]; exact .swap ..
    · intro I8 F15 h8 ⟨bn, bx, x', H', e3, e9, hO', hF', hd, hsz'⟩
      cases e3; cases e9
      have l8 := Imm.le_trans l5 h8
      have rn : ∀ J, Rd J F15 (⟨b_n, 0, none⟩ : Addr) t.enc := fun J => Rd.of_own (hF'.mem_iff.2 (.tail _ (List.mem_append_right _ (List.mem_cons_self ..)))) 0 fun j hj => by simp
      have rx : ∀ J, Rd J F15 (⟨b_x, 0, none⟩ : Addr) x'.enc := fun J => Rd.of_own (hF'.mem_iff.2 (List.mem_cons_self ..)) 0 fun j hj => by simp
      have on : ∀ {J : Imm}, Imm.le I J → NdOk J F15 t := fun hl => okt hl fun a ha => hF'.mem_iff.2 (.tail _ (List.mem_append_right _ (.tail _ ha)))
      have ox : ∀ J, NdOk J F15 x' := fun J => hO'.ok fun a ha => hF'.mem_iff.2 (.tail _ (List.mem_append_left _ ha))
      refine ⟨_, _, _, _, _, _, _, _, _, _, rn _, _, _, _, _, _, _, _, _, _, _, rx _, Tri.ret (sameExpr_spec t st x' I8 F15 (on l8) (ox _)) fun I9 h9 => ⟨_, rfl, F15, .refl _, ?_⟩⟩
      refine ⟨_, _, _, _, _, _, _, _, _, _, rx _, _, _, _, _, _, _, _, _, _, _, rn _, Tri.ret (sameExpr_spec' x' hsz' t I9 F15 (ox _) (on (Imm.le_trans l8 h9))) fun I10 h10 => ⟨_, rfl, F15, .refl _, ?_⟩⟩
      rw [hd.1, hd.2]
      exact ⟨fun _ => rfl, fun h => by cases h⟩
end Go.Lx
namespace Go.Lx
open Go.Vc Go.ChangeShapes Go.WideShapes Go.ChangeAt Go.RowKit
def _root_.Go.Vc.SlV.v {β : Type} (s : SlV β) : Value := .slice s.a s.n s.c
set_option maxRecDepth 100000 in
theorem open_u8s {H : Type} {en : TypeId × Value → H} {W : World} {base : Nat} {sp : Nat → Bool} {hd : Bool} {v : Value} {d : DataW H} {ps : List MemPlace} {r : Reach} (hval : Value.okWide P W r base 77 v) (h : DataW.Trod en P W 0 sp hd 77 v d ps) :
    ∃ s : SlV Int, v = s.v ∧ SlG (Imm.all W) [] 1 (fun x => [Value.int .u8 x]) s.a s.n s.l ∧ (∀ x ∈ s.l, (Lit.int .u8 x).wf = true) ∧ ((∀ m ∈ d.weights P 77, m ≤ reachBytes) → s.l.length ≤ reachBytes) := by
  obtain ⟨a, n, c, rfl⟩ := okWide_slice (e := 5) (by kernel_rfl) hval
  obtain ⟨fuel, hf⟩ := h
  have ho : ∀ n, Opens en P W sp hd n 77 (fun s : SlV Int => [.slice s.a s.n s.c]) (fun s => SlG (Imm.all W) [] 1 (fun x : Int => [Value.int .u8 x]) s.a s.n s.l ∧ ∀ x ∈ s.l, (Lit.int .u8 x).wf = true) (fun s => s.l.length ≤ reachBytes ∧ ∀ x ∈ s.l, True) := by
    intro n
    cases n with
    | zero => exact Opens.zero
    | succ n => exact Opens.slice (e := 5) (z := 1) (by' := 1) (by kernel_rfl) (by kernel_rfl) (by decide) (by kernel_rfl) (by decide) (fun _ => rfl) (Opens.int (by kernel_rfl))
  obtain ⟨s, e, ⟨h1, h2⟩, h3⟩ := ho fuel _ d ps hf
  exact ⟨s, by
    have e' : [Value.slice a n c] = [.slice s.a s.n s.c] := e
    unfold Go.Vc.SlV.v; rw [List.cons.inj e' |>.1], h1, h2, fun hw => (h3 hw).1⟩
end Go.Lx
