import Derived.Test.YtmbkaikdndflbaaGreatDoorCostStrategiesB4
set_option linter.unusedVariables false
set_option linter.unusedSimpArgs false
set_option linter.unusedSectionVars false
set_option maxRecDepth 100000
namespace Go.Lx
open Go.Vc Go.Proofs.Tryz
def shT_y0:List (Nat×List Sh):=[(3,[.one (.int .i64)]),(4,[.one .bool]),(9,[.one .str]),(24,[.one (.int .u8)]),(28,[.agg [(.int .u8),(.int .u8),(.int .u8),(.int .i64),(.int .u8),.str,.slc,(.int .i64)]]),(47,[.one (.int .i64)]),(51,[.agg [(.int .i64),(.int .i64),.bool]]),(63,[.one .slc]),(77,[.agg [.str,(.int .u8),(.int .u8),(.int .u8),(.int .u8),(.int .i64),(.int .u8),.str,.slc,(.int .i64),(.int .i64)]]),(84,[.agg [(.int .u8),(.int .u8),(.int .u8),(.int .i64),(.int .u8),.str,.slc,(.int .i64),.slc,(.int .i64)]]),(99,[.agg [(.int .u8),(.int .u8),.str,(.int .u8),(.int .u8),(.int .u8),(.int .i64),(.int .u8),.str,.slc,(.int .i64),(.int .u8),(.int .u8),(.int .u8),(.int .i64),(.int .u8),.str,.slc,(.int .i64),(.int .u8),(.int .u8),(.int .u8),(.int .i64),(.int .u8),.str,.slc,(.int .i64),(.int .u8),(.int .u8),(.int .u8),(.int .i64),(.int .u8),.str,.slc,(.int .i64),(.int .i64)]]),(135,[.one (.int .u8),.agg [(.int .i64),(.int .i64),.bool]]),(165,[.one (.int .u8),.one .bool]),(186,[.one .slc]),(188,[.one .slc])]
def ref15_number.V(t:Int)(I:Imm)(F:Heap)(Q:PostQ)  : Prop:=(Dt (t≥1) (Q (.returned (.bool (decide (t≤4)))) I F) (Q (.returned (.bool false)) I F))
theorem ref15_number.vc{t:Int}{I:Imm}{F:Heap}{Q:PostQ}  (h:ref15_number.V t I F Q):Tri P 139 #[.int .u8 t] I F Q :=
 tw (A:=(an [1001] [] shT_y0)) [] func139 h
def ref15_Reg.V(l:Bs)(b:OA)(a d:Nat)(e:OA)(f g:Nat)(h:OA)(j k:Nat)(c:Bs)(I:Imm)(F:Heap)(Q:PostQ)(Inv6:Int→Int→Nat→Imm→Heap→Prop):Prop:=∀n:Nat,(∃m:Nat,Inv6 0 0 m I F)∧∀(x i:Int) (m1:Nat) (I1:Imm) (F1:Heap),Imm.le I I1→Inv6 x i m1 I1 F1→(Dt (i<(a:Int)) ((0≤i∧i<(a:Int))∧∃ad:Addr,b=some ad∧∃(m2:Bs),Rd I1 ((n,Obj.cells #[.string l,.slice b a d,.slice e f g,.slice h j k] 39 (0,0))::F1) ((ad.add (Int.toNat i*11)).add 0) [.string m2]∧(It (m2.toList==c.toList) (Q (.returned (.int .i64 i)) I1 F1) (∃m3:Nat,m3<m1∧Inv6 x (IntKind.wrap .i64 (i+1)) m3 I1 F1))) (Q (.returned (.int .i64 (-1))) I1 F1))
theorem ref15_Reg.vc{l:Bs}{a:OA}{b c:Nat}{d:OA}{e f:Nat}{g:OA}{i j:Nat}{k:Bs}{I:Imm}{F:Heap}{Q:PostQ}(Inv6:Int→Int→Nat→Imm→Heap→Prop)(h:ref15_Reg.V l a b c d e f g i j k I F Q Inv6):Tri P 77 #[.agg #[.string l,.slice a b c,.slice d e f,.slice g i j],.string k] I F Q :=
 tw (A:=(annL [2004,4007] [] [] shT_y0 [(6,⟨[(4,(.int .i64)),(5,(.int .i64))],[],fun _ _ _ vs m I F=>match vs with | [.int _ y0,.int _ y1]=>Inv6 y0 y1 m I F | _=>False,[],[]⟩)] [] [] [] [] [] [])) [] func77 h
def ref15_Slot.V(l:Bs)(d:OA)(e f:Nat)(b:OA)(a g:Nat)(h:OA)(j k:Nat)(c:Bs)(I:Imm)(F:Heap)(Q:PostQ)(Inv6:Int→Int→Nat→Imm→Heap→Prop):Prop:=∀n:Nat,(∃m:Nat,Inv6 0 0 m I F)∧∀(x i:Int) (m1:Nat) (I1:Imm) (F1:Heap),Imm.le I I1→Inv6 x i m1 I1 F1→(Dt (i<(a:Int)) ((0≤i∧i<(a:Int))∧∃ad:Addr,b=some ad∧∃(m2:Bs),Rd I1 ((n,Obj.cells #[.string l,.slice d e f,.slice b a g,.slice h j k] 39 (0,0))::F1) ((ad.add (Int.toNat i*2)).add 0) [.string m2]∧(It (m2.toList==c.toList) (Q (.returned (.int .i64 i)) I1 F1) (∃m3:Nat,m3<m1∧Inv6 x (IntKind.wrap .i64 (i+1)) m3 I1 F1))) (Q (.returned (.int .i64 (-1))) I1 F1))
theorem ref15_Slot.vc{l:Bs}{a:OA}{b c:Nat}{d:OA}{e f:Nat}{g:OA}{i j:Nat}{k:Bs}{I:Imm}{F:Heap}{Q:PostQ}(Inv6:Int→Int→Nat→Imm→Heap→Prop)(h:ref15_Slot.V l a b c d e f g i j k I F Q Inv6):Tri P 79 #[.agg #[.string l,.slice a b c,.slice d e f,.slice g i j],.string k] I F Q :=
 tw (A:=(annL [2004,4007] [] [] shT_y0 [(6,⟨[(4,(.int .i64)),(5,(.int .i64))],[],fun _ _ _ vs m I F=>match vs with | [.int _ y0,.int _ y1]=>Inv6 y0 y1 m I F | _=>False,[],[]⟩)] [] [] [] [] [] [])) [] func79 h
def ref15_State.V(l:Bs)(d:OA)(e f:Nat)(g:OA)(h j:Nat)(b:OA)(a k:Nat)(c:Bs)(I:Imm)(F:Heap)(Q:PostQ)(Inv6:Int→Int→Nat→Imm→Heap→Prop):Prop:=∀n:Nat,(∃m:Nat,Inv6 0 0 m I F)∧∀(x i:Int) (m1:Nat) (I1:Imm) (F1:Heap),Imm.le I I1→Inv6 x i m1 I1 F1→(Dt (i<(a:Int)) ((0≤i∧i<(a:Int))∧∃ad:Addr,b=some ad∧∃(m2:Bs),Rd I1 ((n,Obj.cells #[.string l,.slice d e f,.slice g h j,.slice b a k] 39 (0,0))::F1) ((ad.add (Int.toNat i*3)).add 0) [.string m2]∧(It (m2.toList==c.toList) (Q (.returned (.int .i64 i)) I1 F1) (∃m3:Nat,m3<m1∧Inv6 x (IntKind.wrap .i64 (i+1)) m3 I1 F1))) (Q (.returned (.int .i64 (-1))) I1 F1))
theorem ref15_State.vc{l:Bs}{a:OA}{b c:Nat}{d:OA}{e f:Nat}{g:OA}{i j:Nat}{k:Bs}{I:Imm}{F:Heap}{Q:PostQ}(Inv6:Int→Int→Nat→Imm→Heap→Prop)(h:ref15_State.V l a b c d e f g i j k I F Q Inv6):Tri P 80 #[.agg #[.string l,.slice a b c,.slice d e f,.slice g i j],.string k] I F Q :=
 tw (A:=(annL [2004,4007] [] [] shT_y0 [(6,⟨[(4,(.int .i64)),(5,(.int .i64))],[],fun _ _ _ vs m I F=>match vs with | [.int _ y0,.int _ y1]=>Inv6 y0 y1 m I F | _=>False,[],[]⟩)] [] [] [] [] [] [])) [] func80 h
def ref15_product.V(vb:Int→Value)(a b:Int)(I:Imm)(F:Heap)(Q:PostQ)  : Prop:=(It (a==1) (Tc1 P 139 #[vb b] I (·) F .bool fun r I1 F1=>(It r (Q (.returned (vb b)) I1 F1) (It (b==1) (Tc1 P 139 #[vb a] I1 (·) F1 .bool fun r1 I2 F2=>(It r1 (Q (.returned (vb a)) I2 F2) (It (a==3) (It (b==2) (Q (.returned (vb 1)) I2 F2) (It (a==2) (It (b==3) (Q (.returned (vb 1)) I2 F2) (Q (.returned (vb 0)) I2 F2)) (Q (.returned (vb 0)) I2 F2))) (It (a==2) (It (b==3) (Q (.returned (vb 1)) I2 F2) (Q (.returned (vb 0)) I2 F2)) (Q (.returned (vb 0)) I2 F2))))) (It (a==3) (It (b==2) (Q (.returned (vb 1)) I1 F1) (It (a==2) (It (b==3) (Q (.returned (vb 1)) I1 F1) (Q (.returned (vb 0)) I1 F1)) (Q (.returned (vb 0)) I1 F1))) (It (a==2) (It (b==3) (Q (.returned (vb 1)) I1 F1) (Q (.returned (vb 0)) I1 F1)) (Q (.returned (vb 0)) I1 F1)))))) (It (b==1) (Tc1 P 139 #[vb a] I (·) F .bool fun r2 I3 F3=>(It r2 (Q (.returned (vb a)) I3 F3) (It (a==3) (It (b==2) (Q (.returned (vb 1)) I3 F3) (It (a==2) (It (b==3) (Q (.returned (vb 1)) I3 F3) (Q (.returned (vb 0)) I3 F3)) (Q (.returned (vb 0)) I3 F3))) (It (a==2) (It (b==3) (Q (.returned (vb 1)) I3 F3) (Q (.returned (vb 0)) I3 F3)) (Q (.returned (vb 0)) I3 F3))))) (It (a==3) (It (b==2) (Q (.returned (vb 1)) I F) (It (a==2) (It (b==3) (Q (.returned (vb 1)) I F) (Q (.returned (vb 0)) I F)) (Q (.returned (vb 0)) I F))) (It (a==2) (It (b==3) (Q (.returned (vb 1)) I F) (Q (.returned (vb 0)) I F)) (Q (.returned (vb 0)) I F)))))
theorem ref15_product.vc{a b:Int}{I:Imm}{F:Heap}{Q:PostQ}  (h:ref15_product.V (.int .u8) a b I F Q):Tri P 155 #[.int .u8 a,.int .u8 b] I F Q :=
 tw (A:=(an [1001,1004,3001,3004,5001,5004,5008,5011] [139] shT_y0)) [139] func155 h
def ref15_quotient.V(vb:Int→Value)(a b:Int)(I:Imm)(F:Heap)(Q:PostQ)  : Prop:=Tc1 P 139 #[vb a] I (·) F .bool fun r I1 F1=>(It r (It (b==1) (Q (.returned (vb a)) I1 F1) (Tc1 P 139 #[vb a] I1 (·) F1 .bool fun r1 I2 F2=>(It r1 (It (a==b) (Q (.returned (vb 1)) I2 F2) (Q (.returned (vb 0)) I2 F2)) (Q (.returned (vb 0)) I2 F2)))) (Tc1 P 139 #[vb a] I1 (·) F1 .bool fun r2 I3 F3=>(It r2 (It (a==b) (Q (.returned (vb 1)) I3 F3) (Q (.returned (vb 0)) I3 F3)) (Q (.returned (vb 0)) I3 F3))))
theorem ref15_quotient.vc{a b:Int}{I:Imm}{F:Heap}{Q:PostQ}  (h:ref15_quotient.V (.int .u8) a b I F Q):Tri P 156 #[.int .u8 a,.int .u8 b] I F Q :=
 tw (A:=(an [1001,1004,3001,3005] [139] shT_y0)) [139] func156 h
def ref15_two.V(vb:Int→Value)(vt:Bool→Value)(o a b:Int)(I:Imm)(F:Heap)(Q:PostQ)  : Prop:=(It (o==6) (It (a==b) (Tc1 P 139 #[vb a] I (·) F vt fun r I1 F1=>Q (.returned (.tuple #[vb a,vt r])) I1 F1) (Q (.returned (.tuple #[vb a,vt false])) I F)) (It (o==7) (It (a==b) (Tc1 P 139 #[vb a] I (·) F vt fun r1 I2 F2=>Q (.returned (.tuple #[vb a,vt r1])) I2 F2) (Q (.returned (.tuple #[vb a,vt false])) I F)) (It (o==10) (It (a==b) (Tc1 P 139 #[vb a] I (·) F vt fun r2 I3 F3=>Q (.returned (.tuple #[vb a,vt r2])) I3 F3) (Q (.returned (.tuple #[vb a,vt false])) I F)) (It (o==4) (It (a==b) (Tc1 P 139 #[vb a] I (·) F vt fun r3 I4 F4=>Q (.returned (.tuple #[vb a,vt r3])) I4 F4) (Q (.returned (.tuple #[vb a,vt false])) I F)) (It (o==5) (It (a==b) (Tc1 P 139 #[vb a] I (·) F vt fun r4 I5 F5=>Q (.returned (.tuple #[vb a,vt r4])) I5 F5) (Q (.returned (.tuple #[vb a,vt false])) I F)) (It (o==8) (Tc1 P 155 #[vb a,vb b] I (·) F vb fun r5 I6 F6=>Q (.returned (.tuple #[vb r5,vt (r5 != 0)])) I6 F6) (It (o==9) (Tc1 P 156 #[vb a,vb b] I (·) F vb fun r6 I7 F7=>Q (.returned (.tuple #[vb r6,vt (r6 != 0)])) I7 F7) (It (o==11) (Q (.returned (.tuple #[vb 5,vt (a==b)])) I F) (It (o==12) (Q (.returned (.tuple #[vb 5,vt (a==b)])) I F) (It (o==17) (It (a==b) (Q (.returned (.tuple #[vb 5,vt (a==5)])) I F) (Q (.returned (.tuple #[vb 5,vt false])) I F)) (It (o==18) (It (a==b) (Q (.returned (.tuple #[vb 5,vt (a==5)])) I F) (Q (.returned (.tuple #[vb 5,vt false])) I F)) (It (a==b) (Tc1 P 139 #[vb a] I (·) F vt fun r7 I8 F8=>Q (.returned (.tuple #[vb 5,vt r7])) I8 F8) (Q (.returned (.tuple #[vb 5,vt false])) I F)))))))))))))
theorem ref15_two.vc{o a b:Int}{I:Imm}{F:Heap}{Q:PostQ}  (h:ref15_two.V (.int .u8) .bool o a b I F Q):Tri P 140 #[.int .u8 o,.int .u8 a,.int .u8 b] I F Q :=
 tw (A:=(an [3000,4000,5000,6000,7000,8001,9000,12000,15000,16000,18000,19000,20000,21000] [139,155,156] shT_y0)) [139,155,156] func140 h
def ref15_node.V(a c:Nat→Nat×Obj)(vb:Int→Value)(vt:Bool→Value)(al:Bs)(i:OA)(j p:Nat)(q:OA)(s t:Nat)(u:OA)(v w:Nat)(f k x aq l:Int)(am:Bs)(an:OA)(ao ap:Nat)(ar:Int)(h:OA)(g au:Nat)(I:Imm)(F:Heap)(Q:PostQ)  : Prop:=∀d:Nat,∀e:Nat,(It (f==1) (Q (.returned (.tuple #[vb x,vt true])) I F) (It (f==2) (∃(r:Int),(Tri P 77 #[.agg #[.string al,.slice i j p,.slice q s t,.slice u v w],.string am] I ((c d)::(a e)::F) fun e1 I1 G1=>e1=.returned (.int .i64 r)∧List.Perm G1 ((c d)::(a e)::F))∧((0≤r∧r<(j:Int))∧∃ad:Addr,i=some ad∧∃(m:Int),Rd I ((c d)::(a e)::F) ((ad.add (Int.toNat r*11)).add 1) [vb m]∧Q (.returned (.tuple #[vb m,vt true])) I F)) (It (f==3) (∀(b:Nat) (I2:Imm),Imm.le I I2→I2 b=some (Obj.cells #[vb 3,vb 3,vb 3,vb 2,vb 4,vb 2] 24 (0,0))→((0≤(IntKind.wrap .u8 (l-1))∧(IntKind.wrap .u8 (l-1))<(6:Int))∧∃ab:Addr,some ⟨b,0,none⟩=some ab∧∃(m1:Int),Rd I2 ((c d)::(a e)::F) (ab.add (Int.toNat (IntKind.wrap .u8 (l-1))*1)) [vb m1]∧Q (.returned (.tuple #[vb m1,vt true])) I2 F)) (It (f==4) (Q (.returned (.tuple #[vb 5,vt true])) I F) (It (f==7) ((0≤(1:Int)∧(1:Int)<(g:Int))∧∃ac:Addr,h=some ac∧∃(m2:Int),Rd I ((c d)::(a e)::F) (ac.add (Int.toNat 1*1)) [vb m2]∧((0≤(0:Int)∧(0:Int)<(g:Int))∧∃ae:Addr,h=some ae∧∃(m3:Int),Rd I ((c d)::(a e)::F) (ae.add (Int.toNat 0*1)) [vb m3]∧(It (m3==5) ((0≤(1:Int)∧(1:Int)<(g:Int))∧∃af:Addr,h=some af∧∃(m4:Int),Rd I ((c d)::(a e)::F) (af.add (Int.toNat 1*1)) [vb m4]∧((0≤(2:Int)∧(2:Int)<(g:Int))∧∃ag:Addr,h=some ag∧∃(m5:Int),Rd I ((c d)::(a e)::F) (ag.add (Int.toNat 2*1)) [vb m5]∧Q (.returned (.tuple #[vb m2,vt (m4==m5)])) I F)) (Q (.returned (.tuple #[vb m2,vt false])) I F)))) (It (f==9) ((0≤(0:Int)∧(0:Int)<(g:Int))∧∃ah:Addr,h=some ah∧∃(m6:Int),Rd I ((c d)::(a e)::F) (ah.add (Int.toNat 0*1)) [vb m6]∧∃(r1:Bool),(Tri P 139 #[vb m6] I ((c d)::(a e)::F) fun e2 I3 G2=>e2=.returned (vt r1)∧List.Perm G2 ((c d)::(a e)::F))∧Q (.returned (.tuple #[vb x,vt r1])) I F) (It ((g:Int)==2) ((0≤(0:Int)∧(0:Int)<(g:Int))∧∃ai:Addr,h=some ai∧∃(m7:Int),Rd I ((c d)::(a e)::F) (ai.add (Int.toNat 0*1)) [vb m7]∧((0≤(1:Int)∧(1:Int)<(g:Int))∧∃aj:Addr,h=some aj∧∃(m8:Int),Rd I ((c d)::(a e)::F) (aj.add (Int.toNat 1*1)) [vb m8]∧∃(r0:Int) (y:Bool),(Tri P 140 #[vb k,vb m7,vb m8] I ((c d)::(a e)::F) fun e3 I4 G3=>e3=.returned (.tuple #[vb r0,vt y])∧List.Perm G3 ((c d)::(a e)::F))∧Q (.returned (.tuple #[vb r0,vt y])) I F)) (It (k==2) ((0≤(0:Int)∧(0:Int)<(g:Int))∧∃ak:Addr,h=some ak∧∃(m9:Int),Rd I ((c d)::(a e)::F) (ak.add (Int.toNat 0*1)) [vb m9]∧Q (.returned (.tuple #[vb 5,vt (m9==5)])) I F) ((0≤(0:Int)∧(0:Int)<(g:Int))∧∃n:Addr,h=some n∧∃(z:Int),Rd I ((c d)::(a e)::F) (n.add (Int.toNat 0*1)) [vb z]∧((0≤(0:Int)∧(0:Int)<(g:Int))∧∃o:Addr,h=some o∧∃(aa:Int),Rd I ((c d)::(a e)::F) (o.add (Int.toNat 0*1)) [vb aa]∧∃(r2:Bool),(Tri P 139 #[vb aa] I ((c d)::(a e)::F) fun e4 I5 G4=>e4=.returned (vt r2)∧List.Perm G4 ((c d)::(a e)::F))∧Q (.returned (.tuple #[vb z,vt r2])) I F))))))))))
theorem ref15_node.vc{o:Bs}{a:OA}{c d:Nat}{e:OA}{f g:Nat}{i:OA}{j k:Nat}{p q r s t:Int}{u:Bs}{l:OA}{m n:Nat}{v:Int}{w:OA}{x y:Nat}{I:Imm}{F:Heap}{Q:PostQ}  (h:ref15_node.V (fun b=>(b,Obj.cells #[.int .u8 p,.int .u8 q,.int .u8 r,.int .i64 s,.int .u8 t,.string u,.slice l m n,.int .i64 v] 28 (0,0))) (fun b=>(b,Obj.cells #[.string o,.slice a c d,.slice e f g,.slice i j k] 39 (0,0))) (.int .u8) .bool o a c d e f g i j k p q r s t u l m n v w x y I F Q):Tri P 116 #[.agg #[.string o,.slice a c d,.slice e f g,.slice i j k],.agg #[.int .u8 p,.int .u8 q,.int .u8 r,.int .i64 s,.int .u8 t,.string u,.slice l m n,.int .i64 v],.slice w x y] I F Q :=
 tw (A:=(annL [2000,4000,6000,8000,10000,11006,12000,14002,16002] [] [77,139,140] shT_y0 [] [7000] [] [] [] [] [])) [77,139,140] func116 h
def ref15_typed.V(ka:Nat→Int→Int→Bool→Nat×Obj)(kb:Int→Int→Bool→Value)(e f:Nat→Nat×Obj)(nV:Int→Int→Int→Int→Int→Bs→OA→Nat→Nat→Int→Value)(vb vi:Int→Value)(vs:Bs→Value)(vl:OA→Nat→Nat→Value)(vt:Bool→Value)(aj:Bs)(k:OA)(l n:Nat)(o:OA)(p q:Nat)(s:OA)(t u:Nat)(ao aE aF aG aH:Int)(aq:Bs)(ab:OA)(w ap:Nat)(ak:Int)(I:Imm)(F:Heap)(Q:PostQ)(Inv8:Int→OA→Nat→Nat→Int→Int→Int→Bool→Nat→Imm→Heap→Prop):Prop:=∀g:Nat,∀h:Nat,∀b:Nat,(∃m:Nat,Inv8 0 none 0 0 0 0 0 false m I F)∧∀(x:Int) (al:OA) (am an:Nat) (i a c:Int) (d:Bool) (m1:Nat) (I1:Imm) (F1:Heap),Imm.le I I1→Inv8 x al am an i a c d m1 I1 F1→(Dt (i<(w:Int)) ((0≤i∧i<(w:Int))∧∃ad:Addr,ab=some ad∧∃(ar au av aw ax:Int) (ay:Bs) (ac:OA) (ae af:Nat) (az:Int),Rd I1 ((f g)::(e h)::(ka b a c d)::F1) (ad.add (Int.toNat i*8)) [vb ar,vb au,vb av,vi aw,vb ax,vs ay,vl ac ae af,vi az]∧(Tcn P 78 #[.agg #[vs aj,vl k l n,vl o p q,vl s t u],nV ar au av aw ax ay ac ae af az] I1 ((f g)::(e h)::(ka b a c d)::·) F1 fun e1 I2 G1=>∃(r0 y ag:Int) (ah:Bool),e1=.returned (.tuple #[vb r0,(kb y ag ah)])∧G1 fun F2=>∀aO:Nat,(It (y != 0) (Q (.returned (.tuple #[vb 0,(kb y ag ah)])) I2 F2) (∀(b1:Nat) (I3:Imm),Imm.le I2 I3→I3 b1=some (Obj.cells #[vb r0] 24 (0,0))→TriE P (Builtin.append_ #[186,186] 186 #[vl al am an,vl (some ⟨b1,0,none⟩) 1 1]) I3 ((f g)::(e h)::(ka b a c d)::(ka aO y ag ah)::F2) fun v I4 G2=>∃(aI:OA) (aJ aK:Nat),v=vl aI aJ aK∧∃F3:Heap,List.Perm G2 ((f g)::(e h)::(ka b a c d)::(ka aO y ag ah)::F3)∧(∃m2:Nat,m2<m1∧Inv8 x aI aJ aK (IntKind.wrap .i64 (i+1)) a c d m2 I4 F3))))∧(∀ai:Nat,Tcn P 78 #[.agg #[vs aj,vl k l n,vl o p q,vl s t u],nV ar au av aw ax ay ac ae af az] I1 ((f g)::(e h)::(ka b a c d)::(ka ai 0 0 false)::·) F1 fun e2 I5 G3=>∃(aL j z:Int) (aa:Bool),e2=.returned (.tuple #[vb aL,(kb j z aa)])∧G3 fun F4=>(It (j != 0) (Q (.returned (.tuple #[vb 0,(kb j z aa)])) I5 F4) (∀(b2:Nat) (I6:Imm),Imm.le I5 I6→I6 b2=some (Obj.cells #[vb aL] 24 (0,0))→TriE P (Builtin.append_ #[186,186] 186 #[vl al am an,vl (some ⟨b2,0,none⟩) 1 1]) I6 ((f g)::(e h)::(ka b a c d)::(ka ai j z aa)::F4) fun v1 I7 G4=>∃(aA:OA) (aB aC:Nat),v1=vl aA aB aC∧∃F5:Heap,List.Perm G4 ((f g)::(e h)::(ka b a c d)::(ka ai j z aa)::F5)∧(∃m3:Nat,m3<m1∧Inv8 x aA aB aC (IntKind.wrap .i64 (i+1)) a c d m3 I7 F5))))) (It (ao==2) (Tc1 P 77 #[.agg #[vs aj,vl k l n,vl o p q,vl s t u],vs aq] I1 ((f g)::(e h)::(ka b a c d)::·) F1 vi fun r I8 F6=>(Dt (r<0) (Q (.returned (.tuple #[vb 0,(kb 151 ak true)])) I8 F6) (Tcn P 116 #[.agg #[vs aj,vl k l n,vl o p q,vl s t u],nV ao aE aF aG aH aq ab w ap ak,vl al am an] I8 ((f g)::(e h)::(ka b a c d)::·) F6 fun e4 I9 G6=>∃(aM:Int) (r1:Bool),e4=.returned (.tuple #[vb aM,vt r1])∧G6 fun F7=>(It (!r1) (Q (.returned (.tuple #[vb 0,(kb 152 ak true)])) I9 F7) (Q (.returned (.tuple #[vb aM,(kb 0 0 false)])) I9 F7))))) (Tcn P 116 #[.agg #[vs aj,vl k l n,vl o p q,vl s t u],nV ao aE aF aG aH aq ab w ap ak,vl al am an] I1 ((f g)::(e h)::(ka b a c d)::·) F1 fun e5 I10 G7=>∃(aN:Int) (aD:Bool),e5=.returned (.tuple #[vb aN,vt aD])∧G7 fun F8=>(It (!aD) (Q (.returned (.tuple #[vb 0,(kb 152 ak true)])) I10 F8) (Q (.returned (.tuple #[vb aN,(kb 0 0 false)])) I10 F8)))))
theorem ref15_typed.vc{z:Bs}{d:OA}{e g:Nat}{i:OA}{j p:Nat}{r:OA}{u v:Nat}{aa ab ac ad ae:Int}{af:Bs}{w:OA}{x y:Nat}{ag:Int}{I:Imm}{F:Heap}{Q:PostQ}(Inv8:Int→OA→Nat→Nat→Int→Int→Int→Bool→Nat→Imm→Heap→Prop)(h:ref15_typed.V (fun W a b c=>(W,Obj.cells #[.int .i64 a,.int .i64 b,.bool c] 51 (0,0))) (fun a b c=>.agg #[.int .i64 a,.int .i64 b,.bool c]) (fun b=>(b,Obj.cells #[.int .u8 aa,.int .u8 ab,.int .u8 ac,.int .i64 ad,.int .u8 ae,.string af,.slice w x y,.int .i64 ag] 28 (0,0))) (fun b=>(b,Obj.cells #[.string z,.slice d e g,.slice i j p,.slice r u v] 39 (0,0))) (fun k o t n f s a l c q=>.agg #[.int .u8 k,.int .u8 o,.int .u8 t,.int .i64 n,.int .u8 f,.string s,.slice a l c,.int .i64 q]) (.int .u8) (.int .i64) .string .slice .bool z d e g i j p r u v aa ab ac ad ae af w x y ag I F Q Inv8):Tri P 78 #[.agg #[.string z,.slice d e g,.slice i j p,.slice r u v],.agg #[.int .u8 aa,.int .u8 ab,.int .u8 ac,.int .i64 ad,.int .u8 ae,.string af,.slice w x y,.int .i64 ag]] I F Q :=
 tw (A:=(annL [3004,6002,9002,9008,12001] [] [77,78,116] shT_y0 [(8,⟨[(4,(.int .u8)),(6,.slc),(7,(.int .i64))],[(2,[(.int .i64),(.int .i64),.bool])],fun _ _ _ vs m I F=>match vs with | [.int _ y0,.slice y1 y2 y3,.int _ y4,.int _ y5,.int _ y6,.bool y7]=>Inv8 y0 y1 y2 y3 y4 y5 y6 y7 m I F | _=>False,[],[]⟩)] [8002] [] [] [] [(5,[1,3,0,2,4,5]),(7,[1,0,2]),(10,[0,3,1,2,4]),(13,[0,3,1,2,4])] [] [(5,6,10,[7,8,9,10,11,12],[6,7,8,9,11,12])])) [77,78,116] func78 h
def ref15_Of.V(a c:Nat→Nat×Obj)(nV:Int→Int→Int→Int→Int→Bs→OA→Nat→Nat→Int→Value)(vi:Int→Value)(vt:Bool→Value)(ac:Bs)(l:OA)(m n:Nat)(o:OA)(p q:Nat)(s:OA)(t u:Nat)(v w x y z:Int)(aa:Bs)(d:OA)(e f:Nat)(ab:Int)(I:Imm)(F:Heap)(Q:PostQ)  : Prop:=∀g:Nat,∀h:Nat,∀b:Nat,Tc1 P 137 #[nV v w x y z aa d e f ab] I ((c g)::(a h)::(b,Obj.cells #[vi 0,vi 0,vt false] 51 (0,0))::·) F vi fun r I1 F1=>(It (r != 0) (Q (.returned (.tuple #[.int .u8 0,.agg #[vi r,vi 0,vt true]])) I1 F1) (Tcn P 78 #[.agg #[.string ac,.slice l m n,.slice o p q,.slice s t u],nV v w x y z aa d e f ab] I1 ((c g)::(a h)::(b,Obj.cells #[vi 0,vi 0,vt false] 51 (0,0))::·) F1 fun e2 I2 G2=>∃(r0 i j:Int) (k:Bool),e2=.returned (.tuple #[.int .u8 r0,.agg #[vi i,vi j,vt k]])∧G2 fun F2=>Q (.returned (.tuple #[.int .u8 r0,.agg #[vi i,vi j,vt k]])) I2 F2))
theorem ref15_Of.vc{y:Bs}{d:OA}{e g:Nat}{i:OA}{j m:Nat}{p:OA}{r u:Nat}{z aa ab ac ad:Int}{ae:Bs}{v:OA}{w x:Nat}{af:Int}{I:Imm}{F:Heap}{Q:PostQ}  (h:ref15_Of.V (fun b=>(b,Obj.cells #[.int .u8 z,.int .u8 aa,.int .u8 ab,.int .i64 ac,.int .u8 ad,.string ae,.slice v w x,.int .i64 af] 28 (0,0))) (fun b=>(b,Obj.cells #[.string y,.slice d e g,.slice i j m,.slice p r u] 39 (0,0))) (fun k o t n f s a l c q=>.agg #[.int .u8 k,.int .u8 o,.int .u8 t,.int .i64 n,.int .u8 f,.string s,.slice a l c,.int .i64 q]) (.int .i64) .bool y d e g i j m p r u z aa ab ac ad ae v w x af I F Q):Tri P 117 #[.agg #[.string y,.slice d e g,.slice i j m,.slice p r u],.agg #[.int .u8 z,.int .u8 aa,.int .u8 ab,.int .i64 ac,.int .u8 ad,.string ae,.slice v w x,.int .i64 af]] I F Q :=
 tw (A:=(an [2001] [78,137] shT_y0)) [78,137] func117 h
def ref15_named.V(ka:Nat→Int→Int→Bool→Nat×Obj)(d:Nat→Nat×Obj)(vb vi:Int→Value)(vs:Bs→Value)(vl:OA→Nat→Nat→Value)(vt:Bool→Value)(am:Bs)(s:OA)(f z:Nat)(g:OA)(a aa:Nat)(h:OA)(c ab:Nat)(I:Imm)(F:Heap)(Q:PostQ)(Inv6:Int→Int→Int→Bool→Nat→Imm→Heap→Prop)(Inv39:Int→Int→Int→Bool→Nat→Imm→Heap→Prop)(Inv60:Int→Int→Int→Bool→Nat→Imm→Heap→Prop):Prop:=∀e:Nat,∀b:Nat,(∃m:Nat,Inv6 0 0 0 false m I F)∧∀(i w x:Int) (y:Bool) (m1:Nat) (I1:Imm) (F1:Heap),Imm.le I I1→Inv6 i w x y m1 I1 F1→(Dt (i<(f:Int)) ((0≤i∧i<(f:Int))∧∃ad:Addr,s=some ad∧∃(ae:Bs) (ac af ag ah ai aj:Int) (ak:Bs) (j:OA) (k l:Nat) (al n:Int),Rd I1 ((d e)::(ka b w x y)::F1) (ad.add (Int.toNat i*11)) [vs ae,vb ac,vb af,vb ag,vb ah,vi ai,vb aj,vs ak,vl j k l,vi al,vi n]∧∀an:Nat,Tc1 P 77 #[.agg #[vs am,vl s f z,vl g a aa,vl h c ab],vs ae] I1 ((d e)::(ka b w x y)::(an,Obj.cells #[vs ae,vb ac,vb af,vb ag,vb ah,vi ai,vb aj,vs ak,vl j k l,vi al,vi n] 77 (0,0))::·) F1 vi fun r I2 F2=>(Dt (r<i) (Q (.returned (.agg #[vi 150,vi n,vt false])) I2 F2) (Tcn P 78 #[.agg #[vs am,vl s f z,vl g a aa,vl h c ab],.agg #[vb af,vb ag,vb ah,vi ai,vb aj,vs ak,vl j k l,vi al]] I2 ((d e)::(ka b w x y)::(an,Obj.cells #[vs ae,vb ac,vb af,vb ag,vb ah,vi ai,vb aj,vs ak,vl j k l,vi al,vi n] 77 (0,0))::·) F2 fun e2 I3 G2=>∃(r0 ax ay:Int) (az:Bool),e2=.returned (.tuple #[vb r0,.agg #[vi ax,vi ay,vt az]])∧G2 fun F3=>∀aA:Nat,(It (r0 != ac) (Q (.returned (.agg #[vi 152,vi n,vt false])) I3 F3) (∃m2:Nat,m2<m1∧Inv6 (IntKind.wrap .i64 (i+1)) w x y m2 I3 F3))))) ((∃m3:Nat,Inv39 0 w x y m3 I1 F1)∧∀(i1 o p:Int) (q:Bool) (m4:Nat) (I4:Imm) (F4:Heap),Imm.le I1 I4→Inv39 i1 o p q m4 I4 F4→(Dt (i1<(a:Int)) ((0≤i1∧i1<(a:Int))∧∃aq:Addr,g=some aq∧∃(m5:Bs),Rd I4 ((d e)::(ka b o p q)::F4) ((aq.add (Int.toNat i1*2)).add 0) [vs m5]∧∃(r1:Int),(Tri P 79 #[.agg #[vs am,vl s f z,vl g a aa,vl h c ab],vs m5] I4 ((d e)::(ka b o p q)::F4) fun e3 I5 G3=>e3=.returned (vi r1)∧List.Perm G3 ((d e)::(ka b o p q)::F4))∧(Dt (r1<i1) ((0≤i1∧i1<(a:Int))∧∃ar:Addr,g=some ar∧∃(m6:Int),Rd I4 ((d e)::(ka b o p q)::F4) ((ar.add (Int.toNat i1*2)).add 1) [vi m6]∧Q (.returned (.agg #[vi 150,vi m6,vt false])) I4 F4) (∃m7:Nat,m7<m4∧Inv39 (IntKind.wrap .i64 (i1+1)) o p q m7 I4 F4))) ((∃m8:Nat,Inv60 0 o p q m8 I4 F4)∧∀(i2 t u:Int) (v:Bool) (m9:Nat) (I6:Imm) (F5:Heap),Imm.le I4 I6→Inv60 i2 t u v m9 I6 F5→(Dt (i2<(c:Int)) ((0≤i2∧i2<(c:Int))∧∃au:Addr,h=some au∧∃(ao:Bs),Rd I6 ((d e)::(ka b t u v)::F5) ((au.add (Int.toNat i2*3)).add 0) [vs ao]∧∃(r2:Int),(Tri P 80 #[.agg #[vs am,vl s f z,vl g a aa,vl h c ab],vs ao] I6 ((d e)::(ka b t u v)::F5) fun e4 I7 G4=>e4=.returned (vi r2)∧List.Perm G4 ((d e)::(ka b t u v)::F5))∧(Dt (r2<i2) ((0≤i2∧i2<(c:Int))∧∃av:Addr,h=some av∧∃(ap:Int),Rd I6 ((d e)::(ka b t u v)::F5) ((av.add (Int.toNat i2*3)).add 2) [vi ap]∧Q (.returned (.agg #[vi 150,vi ap,vt false])) I6 F5) (∃aw:Nat,aw<m9∧Inv60 (IntKind.wrap .i64 (i2+1)) t u v aw I6 F5))) (Q (.returned (.agg #[vi 0,vi 0,vt false])) I6 F5))))))
theorem ref15_named.vc{o:Bs}{d:OA}{e f:Nat}{g:OA}{i j:Nat}{k:OA}{l n:Nat}{I:Imm}{F:Heap}{Q:PostQ}(Inv6:Int→Int→Int→Bool→Nat→Imm→Heap→Prop)(Inv39:Int→Int→Int→Bool→Nat→Imm→Heap→Prop)(Inv60:Int→Int→Int→Bool→Nat→Imm→Heap→Prop)(h:ref15_named.V (fun W a b c=>(W,Obj.cells #[.int .i64 a,.int .i64 b,.bool c] 51 (0,0))) (fun b=>(b,Obj.cells #[.string o,.slice d e f,.slice g i j,.slice k l n] 39 (0,0))) (.int .u8) (.int .i64) .string .slice .bool o d e f g i j k l n I F Q Inv6 Inv39 Inv60):Tri P 48 #[.agg #[.string o,.slice d e f,.slice g i j,.slice k l n]] I F Q :=
 tw (A:=(annL [2004,5005,8003,11004,13009,16004,18009] [] [77,78,79,80] shT_y0 [(6,⟨[(3,(.int .i64))],[(1,[(.int .i64),(.int .i64),.bool])],fun _ _ _ vs m I F=>match vs with | [.int _ y0,.int _ y1,.int _ y2,.bool y3]=>Inv6 y0 y1 y2 y3 m I F | _=>False,[],[]⟩),(39,⟨[(7,(.int .i64))],[(1,[(.int .i64),(.int .i64),.bool])],fun _ _ _ vs m I F=>match vs with | [.int _ y0,.int _ y1,.int _ y2,.bool y3]=>Inv39 y0 y1 y2 y3 m I F | _=>False,[],[]⟩),(60,⟨[(8,(.int .i64))],[(1,[(.int .i64),(.int .i64),.bool])],fun _ _ _ vs m I F=>match vs with | [.int _ y0,.int _ y1,.int _ y2,.bool y3]=>Inv60 y0 y1 y2 y3 m I F | _=>False,[],[]⟩)] [] [] [] [] [] [])) [77,78,79,80] func48 h
def ref15_must.V(nO:Int→Int→Int→Int→Int→Bs→OA→Nat→Nat→Int→Obj)(vb vi:Int→Value)(vs:Bs→Value)(vl:OA→Nat→Nat→Value)(vt:Bool→Value)(p:Bs)(a:OA)(c d:Nat)(e:OA)(f g:Nat)(h:OA)(i j:Nat)(q r s u v:Int)(w:Bs)(k:OA)(l m:Nat)(o t:Int)(I:Imm)(F:Heap)(Q:PostQ)  : Prop:=∀z:Nat,∀aa:Nat,∀b:Nat,Tcn P 117 #[.agg #[vs p,vl a c d,vl e f g,vl h i j],.agg #[vb q,vb r,vb s,vi u,vb v,vs w,vl k l m,vi o]] I ((z,Obj.cells #[vs p,vl a c d,vl e f g,vl h i j] 39 (0,0))::(aa,nO q r s u v w k l m o)::(b,Obj.cells #[vi 0,vi 0,vt false] 51 (0,0))::·) F fun e1 I1 G1=>∃(r0 n x:Int) (y:Bool),e1=.returned (.tuple #[vb r0,.agg #[vi n,vi x,vt y]])∧G1 fun F1=>∀ab:Nat,(It (n != 0) (Q (.returned (.agg #[vi n,vi x,vt y])) I1 F1) (It (r0 != t) (Q (.returned (.agg #[vi 152,vi o,vt false])) I1 F1) (Q (.returned (.agg #[vi 0,vi 0,vt false])) I1 F1)))
theorem ref15_must.vc{x:Bs}{b:OA}{d e:Nat}{g:OA}{i j:Nat}{m:OA}{p r:Nat}{y z aa ab ac:Int}{ad:Bs}{u:OA}{v w:Nat}{ae t:Int}{I:Imm}{F:Heap}{Q:PostQ}  (h:ref15_must.V (fun k o t n f s a l c q=>.cells #[.int .u8 k,.int .u8 o,.int .u8 t,.int .i64 n,.int .u8 f,.string s,.slice a l c,.int .i64 q] 28 (0,0)) (.int .u8) (.int .i64) .string .slice .bool x b d e g i j m p r y z aa ab ac ad u v w ae t I F Q):Tri P 81 #[.agg #[.string x,.slice b d e,.slice g i j,.slice m p r],.agg #[.int .u8 y,.int .u8 z,.int .u8 aa,.int .i64 ab,.int .u8 ac,.string ad,.slice u v w,.int .i64 ae],.int .u8 t] I F Q :=
 tw (A:=(an [2002,4002] [117] shT_y0)) [117] func81 h
def ref15_first.V(vi:Int→Value)(vt:Bool→Value)(f:OA)(a l:Nat)(I:Imm)(F:Heap)(Q:PostQ)(Inv6:Int→Int→Int→Bool→Nat→Imm→Heap→Prop):Prop:=∀b:Nat,(∃m:Nat,Inv6 0 0 0 false m I F)∧∀(i c d:Int) (e:Bool) (m1:Nat) (I1:Imm) (F1:Heap),Imm.le I I1→Inv6 i c d e m1 I1 F1→(Dt (i<(a:Int)) ((0≤i∧i<(a:Int))∧∃ad:Addr,f=some ad∧∃(m2:Int),Rd I1 ((b,Obj.cells #[vi c,vi d,vt e] 51 (0,0))::F1) ((ad.add (Int.toNat i*3)).add 0) [vi m2]∧(It (m2 != 0) ((0≤i∧i<(a:Int))∧∃k:Addr,f=some k∧∃(g h:Int) (j:Bool),Rd I1 ((b,Obj.cells #[vi c,vi d,vt e] 51 (0,0))::F1) (k.add (Int.toNat i*3)) [vi g,vi h,vt j]∧Q (.returned (.agg #[vi g,vi h,vt j])) I1 F1) (∃m3:Nat,m3<m1∧Inv6 (IntKind.wrap .i64 (i+1)) c d e m3 I1 F1))) (Q (.returned (.agg #[vi 0,vi 0,vt false])) I1 F1))
theorem ref15_first.vc{a:OA}{b c:Nat}{I:Imm}{F:Heap}{Q:PostQ}(Inv6:Int→Int→Int→Bool→Nat→Imm→Heap→Prop)(h:ref15_first.V (.int .i64) .bool a b c I F Q Inv6):Tri P 118 #[.slice a b c] I F Q :=
 tw (A:=(annL [2003,4005] [] [] shT_y0 [(6,⟨[(3,(.int .i64))],[(0,[(.int .i64),(.int .i64),.bool])],fun _ _ _ vs m I F=>match vs with | [.int _ y0,.int _ y1,.int _ y2,.bool y3]=>Inv6 y0 y1 y2 y3 m I F | _=>False,[],[]⟩)] [] [] [] [] [] [])) [] func118 h
def ref15_do.V(ka:Nat→Int→Int→Bool→Nat×Obj)(kb:Bs→OA→Nat→Nat→OA→Nat→Nat→OA→Nat→Nat→Value)(kc:Int→Int→Bool→Value)(a c:Nat→Nat×Obj)(nV:Int→Int→Int→Int→Int→Bs→OA→Nat→Nat→Int→Value)(vb vi:Int→Value)(vs:Bs→Value)(vl:OA→Nat→Nat→Value)(vt:Bool→Value)(s:Bs)(g:OA)(h j:Nat)(k:OA)(l n:Nat)(o:OA)(p q:Nat)(f bn:Int)(x:Bs)(bE bF bG bH bI:Int)(bJ:Bs)(bk:OA)(bl bm:Nat)(bu au av aw ax ay:Int)(az:Bs)(ab:OA)(ac ae:Nat)(aA af ag ah ai aj:Int)(ak:Bs)(y:OA)(z aa:Nat)(al bv bw bx bz bA:Int)(bB:Bs)(aB:OA)(aC aD:Nat)(bC bD:Int)(I:Imm)(F:Heap)(Q:PostQ)(Inv4:Int→Imm→Heap→Prop)(Inv43:OA→Nat→Nat→Imm→Heap→Prop)(Inv49:OA→Nat→Nat→Imm→Heap→Prop)(Inv55:OA→Nat→Nat→Imm→Heap→Prop)(Inv61:OA→Nat→Nat→Imm→Heap→Prop):Prop:=∀d:Nat,∀e:Nat,∀b:Nat,((It (f==1) (It (!(x.toList==(⟨#[]⟩:Bs).toList)) (Tc1 P 79 (#[(kb s g h j k l n o p q),vs x]) I ((c d)::(a e)::(ka b 0 0 false)::·) F vi fun r I1 F1=>Inv4 r I1 F1) (Inv4 0 I F)) (It (f==2) (Tc1 P 79 (#[(kb s g h j k l n o p q),vs x]) I ((c d)::(a e)::(ka b 0 0 false)::·) F vi fun r1 I2 F2=>Inv4 r1 I2 F2) (It (f==3) (Tc1 P 79 (#[(kb s g h j k l n o p q),vs x]) I ((c d)::(a e)::(ka b 0 0 false)::·) F vi fun r2 I3 F3=>Inv4 r2 I3 F3) (It (f==4) (Tc1 P 77 (#[(kb s g h j k l n o p q),vs x]) I ((c d)::(a e)::(ka b 0 0 false)::·) F vi fun r3 I4 F4=>Inv4 r3 I4 F4) (It (f==5) (Tc1 P 80 (#[(kb s g h j k l n o p q),vs x]) I ((c d)::(a e)::(ka b 0 0 false)::·) F vi fun r4 I5 F5=>Inv4 r4 I5 F5) (Inv4 0 I F)))))))∧∀(i:Int) (I6:Imm) (F6:Heap),Imm.le I I6→Inv4 i I6 F6→(Dt (i<0) (Q (.returned ((kc 151 bD false))) I6 F6) (((It (f==1) (Tcn P 81 (#[(kb s g h j k l n o p q),nV bE bF bG bH bI bJ bk bl bm bu,vb 6]) I6 ((c d)::(a e)::(ka b 0 0 false)::·) F6 fun e6 I7 G6=>∃(bo bp:Int) (bq:Bool),e6=.returned ((kc bo bp bq))∧G6 fun F7=>∀(b1:Nat) (I8:Imm),Imm.le I7 I8→I8 b1=some (Obj.cells #[vi bo,vi bp,vt bq] 51 (0,0))→TriE P (Builtin.append_ #[188,188] 188 #[vl none 0 0,vl (some ⟨b1,0,none⟩) 1 1]) I8 ((c d)::(a e)::(ka b 0 0 false)::F7) fun v I9 G7=>∃(br:OA) (bs bt:Nat),v=vl br bs bt∧∃F8:Heap,List.Perm G7 ((c d)::(a e)::(ka b 0 0 false)::F8)∧Inv43 br bs bt I9 F8) (Inv43 none 0 0 I6 F6)))∧∀(ap:OA) (aq ar:Nat) (I10:Imm) (F9:Heap),Imm.le I6 I10→Inv43 ap aq ar I10 F9→((It (f==1) (Tcn P 81 (#[(kb s g h j k l n o p q),nV au av aw ax ay az ab ac ae aA,vb 2]) I10 ((c d)::(a e)::(ka b 0 0 false)::·) F9 fun e7 I11 G8=>∃(aE aF:Int) (aG:Bool),e7=.returned ((kc aE aF aG))∧G8 fun F10=>∀(b2:Nat) (I12:Imm),Imm.le I11 I12→I12 b2=some (Obj.cells #[vi aE,vi aF,vt aG] 51 (0,0))→TriE P (Builtin.append_ #[188,188] 188 #[vl ap aq ar,vl (some ⟨b2,0,none⟩) 1 1]) I12 ((c d)::(a e)::(ka b 0 0 false)::F10) fun v1 I13 G9=>∃(aH:OA) (aI aJ:Nat),v1=vl aH aI aJ∧∃F11:Heap,List.Perm G9 ((c d)::(a e)::(ka b 0 0 false)::F11)∧Inv49 aH aI aJ I13 F11) (It (f==2) (Tcn P 81 (#[(kb s g h j k l n o p q),nV au av aw ax ay az ab ac ae aA,vb 2]) I10 ((c d)::(a e)::(ka b 0 0 false)::·) F9 fun e8 I14 G10=>∃(aK aL:Int) (aM:Bool),e8=.returned ((kc aK aL aM))∧G10 fun F12=>∀(b3:Nat) (I15:Imm),Imm.le I14 I15→I15 b3=some (Obj.cells #[vi aK,vi aL,vt aM] 51 (0,0))→TriE P (Builtin.append_ #[188,188] 188 #[vl ap aq ar,vl (some ⟨b3,0,none⟩) 1 1]) I15 ((c d)::(a e)::(ka b 0 0 false)::F12) fun v2 I16 G11=>∃(aN:OA) (aO aP:Nat),v2=vl aN aO aP∧∃F13:Heap,List.Perm G11 ((c d)::(a e)::(ka b 0 0 false)::F13)∧Inv49 aN aO aP I16 F13) (Inv49 ap aq ar I10 F9))))∧∀(t:OA) (u w:Nat) (I17:Imm) (F14:Heap),Imm.le I10 I17→Inv49 t u w I17 F14→((It (f==1) (It (bn != 2) (Tcn P 81 (#[(kb s g h j k l n o p q),nV af ag ah ai aj ak y z aa al,vb 3]) I17 ((c d)::(a e)::(ka b 0 0 false)::·) F14 fun e9 I18 G12=>∃(aQ aR:Int) (aS:Bool),e9=.returned ((kc aQ aR aS))∧G12 fun F15=>∀(b4:Nat) (I19:Imm),Imm.le I18 I19→I19 b4=some (Obj.cells #[vi aQ,vi aR,vt aS] 51 (0,0))→TriE P (Builtin.append_ #[188,188] 188 #[vl t u w,vl (some ⟨b4,0,none⟩) 1 1]) I19 ((c d)::(a e)::(ka b 0 0 false)::F15) fun v3 I20 G13=>∃(aT:OA) (aU aV:Nat),v3=vl aT aU aV∧∃F16:Heap,List.Perm G13 ((c d)::(a e)::(ka b 0 0 false)::F16)∧Inv55 aT aU aV I20 F16) (It (f==2) (Tcn P 81 (#[(kb s g h j k l n o p q),nV af ag ah ai aj ak y z aa al,vb 3]) I17 ((c d)::(a e)::(ka b 0 0 false)::·) F14 fun bK I21 G14=>∃(aW aX:Int) (aY:Bool),bK=.returned ((kc aW aX aY))∧G14 fun F17=>∀(b5:Nat) (I22:Imm),Imm.le I21 I22→I22 b5=some (Obj.cells #[vi aW,vi aX,vt aY] 51 (0,0))→TriE P (Builtin.append_ #[188,188] 188 #[vl t u w,vl (some ⟨b5,0,none⟩) 1 1]) I22 ((c d)::(a e)::(ka b 0 0 false)::F17) fun v4 I23 G15=>∃(aZ:OA) (a0 a1:Nat),v4=vl aZ a0 a1∧∃F18:Heap,List.Perm G15 ((c d)::(a e)::(ka b 0 0 false)::F18)∧Inv55 aZ a0 a1 I23 F18) (Inv55 t u w I17 F14))) (It (f==2) (Tcn P 81 (#[(kb s g h j k l n o p q),nV af ag ah ai aj ak y z aa al,vb 3]) I17 ((c d)::(a e)::(ka b 0 0 false)::·) F14 fun bL I24 G16=>∃(a2 a3:Int) (a4:Bool),bL=.returned ((kc a2 a3 a4))∧G16 fun F19=>∀(b6:Nat) (I25:Imm),Imm.le I24 I25→I25 b6=some (Obj.cells #[vi a2,vi a3,vt a4] 51 (0,0))→TriE P (Builtin.append_ #[188,188] 188 #[vl t u w,vl (some ⟨b6,0,none⟩) 1 1]) I25 ((c d)::(a e)::(ka b 0 0 false)::F19) fun v5 I26 G17=>∃(a5:OA) (a6 a7:Nat),v5=vl a5 a6 a7∧∃F20:Heap,List.Perm G17 ((c d)::(a e)::(ka b 0 0 false)::F20)∧Inv55 a5 a6 a7 I26 F20) (Inv55 t u w I17 F14))))∧∀(am:OA) (an ao:Nat) (I27:Imm) (F21:Heap),Imm.le I17 I27→Inv55 am an ao I27 F21→((It (f==4) ((0≤i∧i<(h:Int))∧∃ad:Addr,g=some ad∧∃(m:Int),Rd I27 ((c d)::(a e)::(ka b 0 0 false)::F21) ((ad.add (Int.toNat i*11)).add 1) [vb m]∧Tcn P 81 (#[(kb s g h j k l n o p q),nV bv bw bx bz bA bB aB aC aD bC,vb m]) I27 ((c d)::(a e)::(ka b 0 0 false)::·) F21 fun bM I28 G18=>∃(a8 a9:Int) (ba:Bool),bM=.returned ((kc a8 a9 ba))∧G18 fun F22=>∀(b7:Nat) (I29:Imm),Imm.le I28 I29→I29 b7=some (Obj.cells #[vi a8,vi a9,vt ba] 51 (0,0))→TriE P (Builtin.append_ #[188,188] 188 #[vl am an ao,vl (some ⟨b7,0,none⟩) 1 1]) I29 ((c d)::(a e)::(ka b 0 0 false)::F22) fun v6 I30 G19=>∃(bb:OA) (bc bd:Nat),v6=vl bb bc bd∧∃F23:Heap,List.Perm G19 ((c d)::(a e)::(ka b 0 0 false)::F23)∧Inv61 bb bc bd I30 F23) (Inv61 am an ao I27 F21)))∧∀(be:OA) (bf bg:Nat) (I31:Imm) (F24:Heap),Imm.le I27 I31→Inv61 be bf bg I31 F24→Tcn P 118 #[vl be bf bg] I31 ((c d)::(a e)::(ka b 0 0 false)::·) F24 fun bN I32 G20=>∃(bh bi:Int) (bj:Bool),bN=.returned ((kc bh bi bj))∧G20 fun F25=>Q (.returned ((kc bh bi bj))) I32 F25))
theorem ref15_do.vc{aM:Bs}{ab:OA}{ac ad:Nat}{ae:OA}{af ag:Nat}{ah:OA}{ai aj:Nat}{aN aO:Int}{aP:Bs}{aQ aR aS aT aU:Int}{aV:Bs}{ak:OA}{al am:Nat}{an ao ap aq ar au:Int}{av:Bs}{p:OA}{r u:Nat}{aw ax ay az aA aB:Int}{aC:Bs}{v:OA}{w x:Nat}{aD aE aF aG aH aI:Int}{aJ:Bs}{y:OA}{z aa:Nat}{aK aL:Int}{I:Imm}{F:Heap}{Q:PostQ}(Inv4:Int→Imm→Heap→Prop)(Inv43:OA→Nat→Nat→Imm→Heap→Prop)(Inv49:OA→Nat→Nat→Imm→Heap→Prop)(Inv55:OA→Nat→Nat→Imm→Heap→Prop)(Inv61:OA→Nat→Nat→Imm→Heap→Prop)(h:ref15_do.V (fun W a b c=>(W,Obj.cells #[.int .i64 a,.int .i64 b,.bool c] 51 (0,0))) (fun a b c d e f g h i j=>.agg #[.string a,.slice b c d,.slice e f g,.slice h i j]) (fun a b c=>.agg #[.int .i64 a,.int .i64 b,.bool c]) (fun b=>(b,Obj.cells #[.int .u8 aN,.int .u8 aO,.string aP,.int .u8 aQ,.int .u8 aR,.int .u8 aS,.int .i64 aT,.int .u8 aU,.string aV,.slice ak al am,.int .i64 an,.int .u8 ao,.int .u8 ap,.int .u8 aq,.int .i64 ar,.int .u8 au,.string av,.slice p r u,.int .i64 aw,.int .u8 ax,.int .u8 ay,.int .u8 az,.int .i64 aA,.int .u8 aB,.string aC,.slice v w x,.int .i64 aD,.int .u8 aE,.int .u8 aF,.int .u8 aG,.int .i64 aH,.int .u8 aI,.string aJ,.slice y z aa,.int .i64 aK,.int .i64 aL] 99 (0,0))) (fun b=>(b,Obj.cells #[.string aM,.slice ab ac ad,.slice ae af ag,.slice ah ai aj] 39 (0,0))) (fun k o t n f s a l c q=>.agg #[.int .u8 k,.int .u8 o,.int .u8 t,.int .i64 n,.int .u8 f,.string s,.slice a l c,.int .i64 q]) (.int .u8) (.int .i64) .string .slice .bool aM ab ac ad ae af ag ah ai aj aN aO aP aQ aR aS aT aU aV ak al am an ao ap aq ar au av p r u aw ax ay az aA aB aC v w x aD aE aF aG aH aI aJ y z aa aK aL I F Q Inv4 Inv43 Inv49 Inv55 Inv61):Tri P 82 #[.agg #[.string aM,.slice ab ac ad,.slice ae af ag,.slice ah ai aj],.agg #[.int .u8 aN,.int .u8 aO,.string aP,.int .u8 aQ,.int .u8 aR,.int .u8 aS,.int .i64 aT,.int .u8 aU,.string aV,.slice ak al am,.int .i64 an,.int .u8 ao,.int .u8 ap,.int .u8 aq,.int .i64 ar,.int .u8 au,.string av,.slice p r u,.int .i64 aw,.int .u8 ax,.int .u8 ay,.int .u8 az,.int .i64 aA,.int .u8 aB,.string aC,.slice v w x,.int .i64 aD,.int .u8 aE,.int .u8 aF,.int .u8 aG,.int .i64 aH,.int .u8 aI,.string aJ,.slice y z aa,.int .i64 aK,.int .i64 aL]] I F Q :=
 tw (A:=(annL [3000,4002,6000,7000,9000,11000,13001,16002,18002,18006,20002,20006,20011,22002] [] [77,79,80,81,118] shT_y0 [(4,⟨[(5,(.int .i64))],[],fun _ _ _ vs m I F=>match vs with | [.int _ y0]=>Inv4 y0 I F | _=>False,[],[]⟩),(43,⟨[(6,.slc)],[],fun _ _ _ vs m I F=>match vs with | [.slice y0 y1 y2]=>Inv43 y0 y1 y2 I F | _=>False,[],[]⟩),(49,⟨[(6,.slc)],[],fun _ _ _ vs m I F=>match vs with | [.slice y0 y1 y2]=>Inv49 y0 y1 y2 I F | _=>False,[],[]⟩),(55,⟨[(6,.slc)],[],fun _ _ _ vs m I F=>match vs with | [.slice y0 y1 y2]=>Inv55 y0 y1 y2 I F | _=>False,[],[]⟩),(61,⟨[(6,.slc)],[],fun _ _ _ vs m I F=>match vs with | [.slice y0 y1 y2]=>Inv61 y0 y1 y2 I F | _=>False,[],[]⟩)] [17005,19005,21005,23011] [] [] [] [(23,[0,2,4,6,5,7,8,1,3,9,10,11,12,13])] [] [] [(23,[5],14)])) [77,79,80,81,118] func82 h
def ref15_rule.V(ka:Nat→Int→Int→Bool→Nat×Obj)(aB aC:Nat→Nat×Obj)(vb vi:Int→Value)(vs:Bs→Value)(vl:OA→Nat→Nat→Value)(vt:Bool→Value)(a4:Bs)(aI:OA)(aJ aK:Nat)(aL:OA)(aM aN:Nat)(aO:OA)(aP aQ:Nat)(a6 a7 a8 a9 ba:Int)(bb:Bs)(a0:OA)(a1 a2:Nat)(bc:Int)(a3:OA)(z bd:Nat)(be:Int)(I:Imm)(F:Heap)(Q:PostQ)(Inv18:Bool→Int→Int→Int→Bool→Int→Int→Bool→Nat→Imm→Heap→Prop):Prop:=∀aD:Nat,∀aE:Nat,∀b:Nat,Tcn P 81 #[.agg #[vs a4,vl aI aJ aK,vl aL aM aN,vl aO aP aQ],.agg #[vb a6,vb a7,vb a8,vi a9,vb ba,vs bb,vl a0 a1 a2,vi bc],vb 5] I ((aC aD)::(aB aE)::(ka b 0 0 false)::·) F fun e1 I1 G1=>∃(t aF:Int) (aG:Bool),e1=.returned (.agg #[vi t,vi aF,vt aG])∧G1 fun F1=>∀aZ:Nat,(It (t != 0) (Q (.returned (.agg #[vi t,vi aF,vt aG])) I1 F1) ((∃m:Nat,Inv18 false 0 0 0 false t aF aG m I1 F1)∧∀(aH:Bool) (i w x:Int) (y:Bool) (n o:Int) (p:Bool) (m1:Nat) (I2:Imm) (F2:Heap),Imm.le I1 I2→Inv18 aH i w x y n o p m1 I2 F2→(Dt (i<(z:Int)) ((0≤i∧i<(z:Int))∧∃ad:Addr,a3=some ad∧∃(u aR:Int) (aS:Bs) (aT aU aV aW aX:Int) (aY:Bs) (q:OA) (r s:Nat) (aa ab ac ae af ag:Int) (ah:Bs) (a:OA) (c d:Nat) (ai aj ak al am an:Int) (ao:Bs) (e:OA) (f g:Nat) (ap aq ar au av aw:Int) (ax:Bs) (h:OA) (j k:Nat) (ay v:Int),Rd I2 ((aC aD)::(aB aE)::(ka b w x y)::(ka aZ n o p)::F2) (ad.add (Int.toNat i*36)) [vb u,vb aR,vs aS,vb aT,vb aU,vb aV,vi aW,vb aX,vs aY,vl q r s,vi aa,vb ab,vb ac,vb ae,vi af,vb ag,vs ah,vl a c d,vi ai,vb aj,vb ak,vb al,vi am,vb an,vs ao,vl e f g,vi ap,vb aq,vb ar,vb au,vi av,vb aw,vs ax,vl h j k,vi ay,vi v]∧∀a5:Nat,(It aH (Q (.returned (.agg #[vi 153,vi v,vt false])) I2 F2) (Tcn P 82 #[.agg #[vs a4,vl aI aJ aK,vl aL aM aN,vl aO aP aQ],.agg #[vb u,vb aR,vs aS,vb aT,vb aU,vb aV,vi aW,vb aX,vs aY,vl q r s,vi aa,vb ab,vb ac,vb ae,vi af,vb ag,vs ah,vl a c d,vi ai,vb aj,vb ak,vb al,vi am,vb an,vs ao,vl e f g,vi ap,vb aq,vb ar,vb au,vi av,vb aw,vs ax,vl h j k,vi ay,vi v]] I2 ((aC aD)::(aB aE)::(ka b w x y)::(ka aZ n o p)::(a5,Obj.cells #[vb u,vb aR,vs aS,vb aT,vb aU,vb aV,vi aW,vb aX,vs aY,vl q r s,vi aa,vb ab,vb ac,vb ae,vi af,vb ag,vs ah,vl a c d,vi ai,vb aj,vb ak,vb al,vi am,vb an,vs ao,vl e f g,vi ap,vb aq,vb ar,vb au,vi av,vb aw,vs ax,vl h j k,vi ay,vi v] 99 (0,0))::·) F2 fun e2 I3 G2=>∃(l az:Int) (aA:Bool),e2=.returned (.agg #[vi l,vi az,vt aA])∧G2 fun F3=>(It (l != 0) (Q (.returned (.agg #[vi l,vi az,vt aA])) I3 F3) (It (u==5) (∃m2:Nat,m2<m1∧Inv18 true (IntKind.wrap .i64 (i+1)) w x y l az aA m2 I3 F3) (∃m3:Nat,m3<m1∧Inv18 (u==6) (IntKind.wrap .i64 (i+1)) w x y l az aA m3 I3 F3)))))) (Q (.returned (.agg #[vi 0,vi 0,vt false])) I2 F2))))
theorem ref15_rule.vc{u:Bs}{d:OA}{e f:Nat}{g:OA}{i j:Nat}{k:OA}{l n:Nat}{v w x y z:Int}{aa:Bs}{o:OA}{p q:Nat}{ab:Int}{r:OA}{s t:Nat}{ac:Int}{I:Imm}{F:Heap}{Q:PostQ}(Inv18:Bool→Int→Int→Int→Bool→Int→Int→Bool→Nat→Imm→Heap→Prop)(h:ref15_rule.V (fun W a b c=>(W,Obj.cells #[.int .i64 a,.int .i64 b,.bool c] 51 (0,0))) (fun b=>(b,Obj.cells #[.int .u8 v,.int .u8 w,.int .u8 x,.int .i64 y,.int .u8 z,.string aa,.slice o p q,.int .i64 ab,.slice r s t,.int .i64 ac] 84 (0,0))) (fun b=>(b,Obj.cells #[.string u,.slice d e f,.slice g i j,.slice k l n] 39 (0,0))) (.int .u8) (.int .i64) .string .slice .bool u d e f g i j k l n v w x y z aa o p q ab r s t ac I F Q Inv18):Tri P 49 #[.agg #[.string u,.slice d e f,.slice g i j,.slice k l n],.agg #[.int .u8 v,.int .u8 w,.int .u8 x,.int .i64 y,.int .u8 z,.string aa,.slice o p q,.int .i64 ab,.slice r s t,.int .i64 ac]] I F Q :=
 tw (A:=(annL [2002,6004,9000,12002,14002] [] [81,82] shT_y0 [(18,⟨[(6,.bool),(7,(.int .i64))],[(2,[(.int .i64),(.int .i64),.bool]),(3,[(.int .i64),(.int .i64),.bool])],fun _ _ _ vs m I F=>match vs with | [.bool y0,.int _ y1,.int _ y2,.int _ y3,.bool y4,.int _ y5,.int _ y6,.bool y7]=>Inv18 y0 y1 y2 y3 y4 y5 y6 y7 m I F | _=>False,[],[]⟩)] [] [] [] [] [] [])) [81,82] func49 h
def ref15_Check.V(ka:Nat→Int→Int→Bool→Nat×Obj)(g:Nat→Nat×Obj)(vb vi:Int→Value)(vs:Bs→Value)(vl:OA→Nat→Nat→Value)(vt:Bool→Value)(ae:Bs)(o:OA)(p q:Nat)(s:OA)(t u:Nat)(h:OA)(e v:Nat)(I:Imm)(F:Heap)(Q:PostQ)(Inv18:Int→Int→Int→Bool→Nat→Imm→Heap→Imm→Heap→Prop)(Inv30:Int→Int→Int→Int→Bool→Nat→Imm→Heap→Imm→Heap→Prop):Prop:=∀j:Nat,∀b:Nat,Tc1 P 47 #[.agg #[vs ae,vl o p q,vl s t u,vl h e v]] I ((g j)::(ka b 0 0 false)::·) F vi fun r I1 F1=>(It (r != 0) (Q (.returned (.agg #[vi r,vi 0,vt false])) I1 F1) (Tcn P 48 #[.agg #[vs ae,vl o p q,vl s t u,vl h e v]] I1 ((g j)::(ka b 0 0 false)::·) F1 fun e2 I2 G2=>∃(al am:Int) (an:Bool),e2=.returned (.agg #[vi al,vi am,vt an])∧G2 fun F2=>∀w:Nat,(∃m:Nat,Inv18 0 al am an m I2 F2 I2 F2)∧∀(i f l:Int) (n:Bool) (m1:Nat) (I3:Imm) (F3:Heap),Imm.le I2 I3→Inv18 i f l n m1 I2 F2 I3 F3→(Dt (i<(e:Int)) (It (f==0) ((∃m2:Nat,Inv30 i 0 f l n m2 I3 F3 I3 F3)∧∀(k a c:Int) (d:Bool) (m3:Nat) (I4:Imm) (F4:Heap),Imm.le I3 I4→Inv30 i k a c d m3 I3 F3 I4 F4→((0≤i∧i<(e:Int))∧∃ad:Addr,h=some ad∧∃(aB:OA) (af aC:Nat),Rd I4 ((g j)::(ka b 0 0 false)::(ka w a c d)::F4) ((ad.add (Int.toNat i*3)).add 1) [vl aB af aC]∧(Dt (k<(af:Int)) (It (a==0) ((0≤i∧i<(e:Int))∧∃ay:Addr,h=some ay∧∃(ag:OA) (ah aA:Nat),Rd I4 ((g j)::(ka b 0 0 false)::(ka w a c d)::F4) ((ay.add (Int.toNat i*3)).add 1) [vl ag ah aA]∧((0≤k∧k<(ah:Int))∧∃az:Addr,ag=some az∧∃(ao ap aq ar au:Int) (av:Bs) (x:OA) (y z:Nat) (aw:Int) (aa:OA) (ab ac:Nat) (ax:Int),Rd I4 ((g j)::(ka b 0 0 false)::(ka w a c d)::F4) (az.add (Int.toNat k*10)) [vb ao,vb ap,vb aq,vi ar,vb au,vs av,vl x y z,vi aw,vl aa ab ac,vi ax]∧∃(ai aj:Int) (ak:Bool),(Tri P 49 #[.agg #[vs ae,vl o p q,vl s t u,vl h e v],.agg #[vb ao,vb ap,vb aq,vi ar,vb au,vs av,vl x y z,vi aw,vl aa ab ac,vi ax]] I4 ((g j)::(ka b 0 0 false)::(ka w a c d)::F4) fun e3 I5 G3=>e3=.returned (.agg #[vi ai,vi aj,vt ak])∧List.Perm G3 ((g j)::(ka b 0 0 false)::(ka w a c d)::F4))∧(∃m4:Nat,m4<m3∧Inv30 i (IntKind.wrap .i64 (k+1)) ai aj ak m4 I3 F3 I4 F4))) (∃m5:Nat,m5<m1∧Inv18 (IntKind.wrap .i64 (i+1)) a c d m5 I2 F2 I4 F4)) (∃m6:Nat,m6<m1∧Inv18 (IntKind.wrap .i64 (i+1)) a c d m6 I2 F2 I4 F4)))) (Q (.returned (.agg #[vi f,vi l,vt n])) I3 F3)) (Q (.returned (.agg #[vi f,vi l,vt n])) I3 F3))))
theorem ref15_Check.vc{o:Bs}{d:OA}{e f:Nat}{g:OA}{i j:Nat}{k:OA}{l n:Nat}{I:Imm}{F:Heap}{Q:PostQ}(Inv18:Int→Int→Int→Bool→Nat→Imm→Heap→Imm→Heap→Prop)(Inv30:Int→Int→Int→Int→Bool→Nat→Imm→Heap→Imm→Heap→Prop)(h:ref15_Check.V (fun W a b c=>(W,Obj.cells #[.int .i64 a,.int .i64 b,.bool c] 51 (0,0))) (fun b=>(b,Obj.cells #[.string o,.slice d e f,.slice g i j,.slice k l n] 39 (0,0))) (.int .u8) (.int .i64) .string .slice .bool o d e f g i j k l n I F Q Inv18 Inv30):Tri P 26 #[.agg #[.string o,.slice d e f,.slice g i j,.slice k l n]] I F Q :=
 tw (A:=(annL [2001,6004,6008,9008,9012] [] [47,48,49] shT_y0 [(18,⟨[(5,(.int .i64))],[(2,[(.int .i64),(.int .i64),.bool])],fun fs I0 F0 vs m I F=>match fs,vs with | [],[.int _ y0,.int _ y1,.int _ y2,.bool y3]=>Inv18 y0 y1 y2 y3 m I0 F0 I F | _,_=>False,[],[]⟩),(30,⟨[(6,(.int .i64))],[(2,[(.int .i64),(.int .i64),.bool])],fun fs I0 F0 vs m I F=>match fs,vs with | [.int _ y0],[.int _ y1,.int _ y2,.int _ y3,.bool y4]=>Inv30 y0 y1 y2 y3 y4 m I0 F0 I F | _,_=>False,[5],[]⟩)] [] [] [(11,11,[2])] [] [] [])) [47,48,49] func26 h
end Go.Lx
namespace Go.Lx
open Go.Vc
structure TF where
 e:Int
 pos:Int
 of:Bool
def zTF:TF:=⟨0,0,false⟩
def TF.v(f:TF):Value:=.agg #[.int .i64 f.e,.int .i64 f.pos,.bool f.of]
def numT(t:Int):Bool:=decide (1≤t∧t≤4)
def ixF(nm:ByteArray):List ByteArray→Int→Int
 | [],_=>-1
 | x::r,i=>if x.toList==nm.toList then i else ixF nm r (i+1)
def StgP.reg(s:StgP)(nm:ByteArray):Int:=ixF nm (s.regs.map RegP.name) 0
def StgP.slot(s:StgP)(nm:ByteArray):Int:=ixF nm (s.slots.map SlotP.name) 0
def StgP.room(s:StgP)(nm:ByteArray):Int:=ixF nm (s.states.map StateP.name) 0
def StgP.regT(s:StgP)(i:Int):Int:=((s.regs[i.toNat]?).map RegP.typ).getD 0
def prodT(a b:Int):Int:=if a=1∧numT b then b else if b=1∧numT a then a else if a=3∧b=2∨a=2∧b=3 then 1 else 0
def quoT(a b:Int):Int:=if numT a∧b=1 then a else if numT a∧a=b then 1 else 0
def twoT(o a b:Int):Int×Bool :=
 if o=6∨o=7∨o=10∨o=4∨o=5 then (a,a==b&&numT a)
 else if o=8 then (prodT a b,prodT a b != 0)
 else if o=9 then (quoT a b,quoT a b != 0)
 else if o=11∨o=12 then (5,a==b)
 else if o=17∨o=18 then (5,a==b&&a==5)
 else (5,a==b&&numT a)
def fieldL:List Int:=[3,3,3,2,4,2]
def at0(l:List Int)(i:Nat):Int:=(l[i]?).getD 0
def nodeT(s:StgP)(x:Px)(l:List Int):Int×Bool :=
 if x.kind=1 then (x.typ,true)
 else if x.kind=2 then (s.regT (s.reg x.name),true)
 else if x.kind=3 then (at0 fieldL (x.field-1).toNat,true)
 else if x.kind=4 then (5,true)
 else if x.kind=7 then (at0 l 1,at0 l 0==5&&at0 l 1==at0 l 2)
 else if x.kind=9 then (x.typ,numT (at0 l 0))
 else if l.length=2 then twoT x.oper (at0 l 0) (at0 l 1)
 else if x.oper=2 then (5,at0 l 0==5)
 else (at0 l 0,numT (at0 l 0))
def nodeE(s:StgP)(x:Px)(l:List Int):Int×TF :=
 if x.kind=2∧s.reg x.name<0 then (0,⟨151,x.pos,true⟩) else if (nodeT s x l).2 then ((nodeT s x l).1,zTF) else (0,⟨152,x.pos,true⟩)
mutual
def typed(s:StgP):Px→Int×TF
 | .mk k o t n f nm l q=>if (typedL s l).2.e≠0 then (0,(typedL s l).2) else nodeE s (.mk k o t n f nm l q) (typedL s l).1
def typedL(s:StgP):List Px→List Int×TF
 | []=>([],zTF)
 | x::r=>if (typed s x).2.e≠0 then ([],(typed s x).2) else ((typed s x).1::(typedL s r).1,(typedL s r).2)
end
theorem typed_eq(s:StgP)(x:Px):typed s x=if (typedL s x.kids).2.e≠0 then (0,(typedL s x.kids).2) else nodeE s x (typedL s x.kids).1:=by cases x;rw[typed];rfl
theorem typedL_ok{s:StgP}:∀{l:List Px},(∀k∈l,(typed s k).2.e=0)→typedL s l=(l.map fun k=>(typed s k).1,zTF)
 | [],_=>by rw[typedL];rfl
 | x::r,h=>by
   rw[typedL,if_neg (by simpa using h x (List.mem_cons_self ..)),typedL_ok fun k hk=>h k (List.mem_cons_of_mem _ hk)];rfl
theorem typedL_err{s:StgP}:∀{l:List Px} {i:Nat} {x:Px},(∀k∈l.take i,(typed s k).2.e=0)→l[i]? = some x→(typed s x).2.e≠0→(typedL s l).2=(typed s x).2
 | y::r,0,x,_,hx,he=>by
   simp only[List.getElem?_cons_zero,Option.some.injEq] at hx
   subst hx
   rw[typedL,if_pos he]
 | y::r,i+1,x,h,hx,he=>by
   rw[List.take_succ_cons] at h
   rw[typedL,if_neg (by simpa using h y (List.mem_cons_self ..))]
   exact typedL_err (fun k hk=>h k (List.mem_cons_of_mem _ hk)) (by simpa using hx) he
def typeOf(s:StgP)(x:Px):Int×TF:=if x.checkE≠0 then (0,⟨x.checkE,0,true⟩) else typed s x
def firstT{α:Type}(f:α→TF):List α→TF
 | []=>zTF
 | x::r=>if (f x).e≠0 then f x else firstT f r
def namedR(s:StgP):List RegP→Int→TF
 | [],_=>zTF
 | r::l,i=>if s.reg r.name<i then ⟨150,r.pos,false⟩ else if (typed s r.init).1≠r.typ then ⟨152,r.pos,false⟩ else namedR s l (i+1)
def namedS(s:StgP):List SlotP→Int→TF
 | [],_=>zTF
 | r::l,i=>if s.slot r.name<i then ⟨150,r.pos,false⟩ else namedS s l (i+1)
def namedT(s:StgP):List StateP→Int→TF
 | [],_=>zTF
 | r::l,i=>if s.room r.name<i then ⟨150,r.pos,false⟩ else namedT s l (i+1)
def thenT(a b:TF):TF:=if a.e≠0 then a else b
def StgP.named(s:StgP):TF:=thenT (namedR s s.regs 0) (thenT (namedS s s.slots 0) (namedT s s.states 0))
def mustT(s:StgP)(x:Px)(t:Int):TF:=if (typeOf s x).2.e≠0 then (typeOf s x).2 else if (typeOf s x).1≠t then ⟨152,x.pos,false⟩ else zTF
def doI(s:StgP)(d:DoP):Int :=
 if d.kind=1 then (if d.name.toList=[] then 0 else s.slot d.name) else if d.kind=2∨d.kind=3 then s.slot d.name else if d.kind=4 then s.reg d.name else if d.kind=5 then s.room d.name else 0
def doL(s:StgP)(d:DoP):List TF :=
 (if d.kind=1 then [mustT s d.side 6] else [])++((if d.kind=1∨d.kind=2 then [mustT s d.qty 2] else [])++((if d.kind=1∧d.order≠2∨d.kind=2 then [mustT s d.price 3] else [])++(if d.kind=4 then [mustT s d.value (s.regT (doI s d))] else [])))
def doT(s:StgP)(d:DoP):TF:=if doI s d<0 then ⟨151,d.pos,false⟩ else firstT id (doL s d)
def dosT(s:StgP):List DoP→Bool→TF
 | [],_=>zTF
 | d::l,last=>if last then ⟨153,d.pos,false⟩ else if (doT s d).e≠0 then doT s d else dosT s l (decide (d.kind=5∨d.kind=6))
def ruleT(s:StgP)(r:RuleP):TF:=thenT (mustT s r.when 5) (dosT s r.dos false)
def StgP.types(s:StgP):TF:=if s.check≠0 then ⟨s.check,0,false⟩ else thenT s.named (firstT (fun x=>firstT (ruleT s) x.rules) s.states)
end Go.Lx
namespace Go.Lx
open Go.Vc
theorem Tri.clean{P:Program}{f:FuncId}{args:Array Value}{I:Imm}{F:Heap}{v:Value}(h:Tri P f args I F fun e I' G=>e=.returned v∧∃H,G.Perm (H++F)):Tri P f args I F (Ret v F) :=
 h.keep fun e I' G w hl hs ⟨he,H,hp⟩=>⟨I',F,Imm.le_refl _,(hs.perm hp).drop,he,rfl⟩
theorem number15_spec(t:Int)(I:Imm)(F:Heap):Tri P 139 #[.int .u8 t] I F (Ret (.bool (numT t)) F):=by
 refine ref15_number.vc ⟨fun h=>⟨?_,rfl⟩,fun h=>⟨?_,rfl⟩⟩<;>simp[numT] at h ⊢<;>omega
theorem reg15_spec{s:StgN}(hl:s.regs.length≤1048576)(nm:ByteArray){I:Imm}{F:Heap}(hok:s.Ok I F):Tri P 77 #[s.v,.string nm] I F (Ret (.int .i64 (s.p.reg nm)) F):=by
 have hdef:s.p.reg nm=ixF nm (s.regs.map fun r=>r.name) 0:=by
  unfold StgP.reg
  show ixF nm ((s.regs.map RegN.p).map RegP.name) 0=_
  rw[List.map_map];rfl
 refine ref15_Reg.vc (fun x i m I' F'=>F'=F∧0≤i∧i≤s.regs.length∧m=(s.regs.length-i).toNat∧s.p.reg nm=ixF nm ((s.regs.drop i.toNat).map fun r=>r.name) i) ?_
 unfold ref15_Reg.V
 intro b_s
 refine⟨⟨_,rfl,by omega,by omega,rfl,by rw[hdef];rfl⟩,fun x i m I1 F1 l1 ⟨gF,g0,g1,gm,ge⟩=>⟨fun hlt=>?_,fun hlt=>⟨?_,gF⟩⟩⟩
 ·subst gF
  have hlt:=of_decide_eq_true hlt
  obtain⟨ad,r,had,hr,hrd,hrm⟩:=SlG.atm ((hok.mono l1 fun _ h=>h).cons (x:=(b_s,Obj.cells #[.string s.name,.slice s.ra s.regs.length s.rc,.slice s.sa s.slots.length s.sc,.slice s.ta s.states.length s.tc] 39 (0,0)))).regs g0 hlt
  obtain⟨hk,rfl⟩:=List.getElem?_eq_some_iff.1 hr
  rw[List.drop_eq_getElem_cons hk,List.map_cons,ixF] at ge
  refine⟨⟨g0,hlt⟩,ad,had,_,hrd.field (o:=0) rfl,fun h=>⟨?_,rfl⟩,fun h=>⟨(s.regs.length-(i+1)).toNat,by omega,rfl, ?_⟩⟩
  ·rw[ge,if_pos h]
  ·rw[w64 (n:=i+1) (by omega)]
   refine⟨by omega,by omega,rfl, ?_⟩
   rw[ge,if_neg (by rw[h];exact Bool.false_ne_true),show (i+1).toNat=i.toNat+1 by omega]
 ·have hlt:=of_decide_eq_false hlt
  rw[ge,List.drop_eq_nil_of_le (by omega)];rfl
theorem slot15_spec{s:StgN}(hl:s.slots.length≤1048576)(nm:ByteArray){I:Imm}{F:Heap}(hok:s.Ok I F):Tri P 79 #[s.v,.string nm] I F (Ret (.int .i64 (s.p.slot nm)) F):=by
 have hdef:s.p.slot nm=ixF nm (s.slots.map fun r=>r.name) 0:=by
  unfold StgP.slot
  show ixF nm (s.slots.map SlotP.name) 0=_
  rfl
 refine ref15_Slot.vc (fun x i m I' F'=>F'=F∧0≤i∧i≤s.slots.length∧m=(s.slots.length-i).toNat∧s.p.slot nm=ixF nm ((s.slots.drop i.toNat).map fun r=>r.name) i) ?_
 unfold ref15_Slot.V
 intro b_s
 refine⟨⟨_,rfl,by omega,by omega,rfl,by rw[hdef];rfl⟩,fun x i m I1 F1 l1 ⟨gF,g0,g1,gm,ge⟩=>⟨fun hlt=>?_,fun hlt=>⟨?_,gF⟩⟩⟩
 ·subst gF
  have hlt:=of_decide_eq_true hlt
  obtain⟨ad,r,had,hr,hrd,hrm⟩:=SlG.atm ((hok.mono l1 fun _ h=>h).cons (x:=(b_s,Obj.cells #[.string s.name,.slice s.ra s.regs.length s.rc,.slice s.sa s.slots.length s.sc,.slice s.ta s.states.length s.tc] 39 (0,0)))).slots g0 hlt
  obtain⟨hk,rfl⟩:=List.getElem?_eq_some_iff.1 hr
  rw[List.drop_eq_getElem_cons hk,List.map_cons,ixF] at ge
  refine⟨⟨g0,hlt⟩,ad,had,_,hrd.field (o:=0) rfl,fun h=>⟨?_,rfl⟩,fun h=>⟨(s.slots.length-(i+1)).toNat,by omega,rfl, ?_⟩⟩
  ·rw[ge,if_pos h]
  ·rw[w64 (n:=i+1) (by omega)]
   refine⟨by omega,by omega,rfl, ?_⟩
   rw[ge,if_neg (by rw[h];exact Bool.false_ne_true),show (i+1).toNat=i.toNat+1 by omega]
 ·have hlt:=of_decide_eq_false hlt
  rw[ge,List.drop_eq_nil_of_le (by omega)];rfl
theorem state15_spec{s:StgN}(hl:s.states.length≤1048576)(nm:ByteArray){I:Imm}{F:Heap}(hok:s.Ok I F):Tri P 80 #[s.v,.string nm] I F (Ret (.int .i64 (s.p.room nm)) F):=by
 have hdef:s.p.room nm=ixF nm (s.states.map fun r=>r.name) 0:=by
  unfold StgP.room
  show ixF nm ((s.states.map StateN.p).map StateP.name) 0=_
  rw[List.map_map];rfl
 refine ref15_State.vc (fun x i m I' F'=>F'=F∧0≤i∧i≤s.states.length∧m=(s.states.length-i).toNat∧s.p.room nm=ixF nm ((s.states.drop i.toNat).map fun r=>r.name) i) ?_
 unfold ref15_State.V
 intro b_s
 refine⟨⟨_,rfl,by omega,by omega,rfl,by rw[hdef];rfl⟩,fun x i m I1 F1 l1 ⟨gF,g0,g1,gm,ge⟩=>⟨fun hlt=>?_,fun hlt=>⟨?_,gF⟩⟩⟩
 ·subst gF
  have hlt:=of_decide_eq_true hlt
  obtain⟨ad,r,had,hr,hrd,hrm⟩:=SlG.atm ((hok.mono l1 fun _ h=>h).cons (x:=(b_s,Obj.cells #[.string s.name,.slice s.ra s.regs.length s.rc,.slice s.sa s.slots.length s.sc,.slice s.ta s.states.length s.tc] 39 (0,0)))).states g0 hlt
  obtain⟨hk,rfl⟩:=List.getElem?_eq_some_iff.1 hr
  rw[List.drop_eq_getElem_cons hk,List.map_cons,ixF] at ge
  refine⟨⟨g0,hlt⟩,ad,had,_,hrd.field (o:=0) rfl,fun h=>⟨?_,rfl⟩,fun h=>⟨(s.states.length-(i+1)).toNat,by omega,rfl, ?_⟩⟩
  ·rw[ge,if_pos h]
  ·rw[w64 (n:=i+1) (by omega)]
   refine⟨by omega,by omega,rfl, ?_⟩
   rw[ge,if_neg (by rw[h];exact Bool.false_ne_true),show (i+1).toNat=i.toNat+1 by omega]
 ·have hlt:=of_decide_eq_false hlt
  rw[ge,List.drop_eq_nil_of_le (by omega)];rfl
theorem prod15_spec(a b:Int)(I:Imm)(F:Heap):Tri P 155 #[.int .u8 a,.int .u8 b] I F (Ret (.int .u8 (prodT a b)) F):=by
 refine ref15_product.vc ?_
 unfold ref15_product.V
 have hn:∀(t:Int) (J:Imm) {Q:Ending→Imm→Heap→Prop},(∀J',Q (.returned (.bool (numT t))) J' F)→Tri P 139 #[.int .u8 t] J F Q:=fun t J Q h=>Tri.ret (number15_spec t J F) fun J' _=>h J'
 repeat' (first
  | (with_reducible apply And.intro)
  | (refine hn _ _ fun J'=>⟨_,rfl,F,.refl _, ?_⟩)
  | (with_reducible intro h))
 all_goals first
  | rfl
  | (simp only[beq_iff_eq,beq_eq_false_iff_ne,ne_eq] at *;unfold prodT;simp_all [Ret];done)
  | (simp only[beq_iff_eq,beq_eq_false_iff_ne,ne_eq] at *;unfold prodT;simp_all [Ret,numT];done)
  | (simp only[beq_iff_eq,beq_eq_false_iff_ne,ne_eq] at *;unfold prodT;simp_all [Ret,numT];omega)
theorem quo15_spec(a b:Int)(I:Imm)(F:Heap):Tri P 156 #[.int .u8 a,.int .u8 b] I F (Ret (.int .u8 (quoT a b)) F):=by
 refine ref15_quotient.vc ?_
 unfold ref15_quotient.V
 have hn:∀(t:Int) (J:Imm) {Q:Ending→Imm→Heap→Prop},(∀J',Q (.returned (.bool (numT t))) J' F)→Tri P 139 #[.int .u8 t] J F Q:=fun t J Q h=>Tri.ret (number15_spec t J F) fun J' _=>h J'
 repeat' (first
  | (with_reducible apply And.intro)
  | (refine hn _ _ fun J'=>⟨_,rfl,F,.refl _, ?_⟩)
  | (with_reducible intro h))
 all_goals first
  | rfl
  | (simp only[beq_iff_eq,beq_eq_false_iff_ne,ne_eq] at *;unfold quoT;simp_all [Ret];done)
  | (unfold quoT;simp_all [Ret];done)
theorem two15_spec(o a b:Int)(I:Imm)(F:Heap):Tri P 140 #[.int .u8 o,.int .u8 a,.int .u8 b] I F (Ret (.tuple #[.int .u8 (twoT o a b).1,.bool (twoT o a b).2]) F):=by
 refine ref15_two.vc ?_
 unfold ref15_two.V
 have hn:∀(t:Int) (J:Imm) {Q:Ending→Imm→Heap→Prop},(∀J',Q (.returned (.bool (numT t))) J' F)→Tri P 139 #[.int .u8 t] J F Q:=fun t J Q h=>Tri.ret (number15_spec t J F) fun J' _=>h J'
 have hp:∀(J:Imm) {Q:Ending→Imm→Heap→Prop},(∀J',Q (.returned (.int .u8 (prodT a b))) J' F)→Tri P 155 #[.int .u8 a,.int .u8 b] J F Q:=fun J Q h=>Tri.ret (prod15_spec a b J F) fun J' _=>h J'
 have hq:∀(J:Imm) {Q:Ending→Imm→Heap→Prop},(∀J',Q (.returned (.int .u8 (quoT a b))) J' F)→Tri P 156 #[.int .u8 a,.int .u8 b] J F Q:=fun J Q h=>Tri.ret (quo15_spec a b J F) fun J' _=>h J'
 repeat' (first
  | (with_reducible apply And.intro)
  | (refine hn _ _ fun J'=>⟨_,rfl,F,.refl _, ?_⟩)
  | (refine hp _ fun J'=>⟨_,rfl,F,.refl _, ?_⟩)
  | (refine hq _ fun J'=>⟨_,rfl,F,.refl _, ?_⟩)
  | (with_reducible intro h))
 all_goals first
  | rfl
  | (simp only[beq_iff_eq,beq_eq_false_iff_ne,ne_eq] at *;unfold twoT;simp_all [Ret];done)
  | (unfold twoT;simp_all [Ret];done)
end Go.Lx
namespace Go.Lx
open Go.Vc
theorem formed_one{x:Px}(h:x.formed=true):x.fitB=true∧x.kids.length=x.arity:=by
 rw[Px.formed_eq,Bool.and_eq_true] at h
 have h1:=h.1
 unfold Px.oneB at h1
 simp only[Bool.and_eq_true,decide_eq_true_eq] at h1
 exact⟨h1.1.1,h1.2⟩
theorem formed_field{x:Px}(h:x.formed=true)(hk:x.kind=3):1≤x.field∧x.field≤6:=by
 have h1:=(formed_one h).1
 unfold Px.fitB at h1
 rw[if_neg (by omega),if_neg (by omega),if_pos hk] at h1
 simpa using h1
theorem formed_cond{x:Px}(h:x.formed=true)(hk:x.kind=7):x.kids.length=3:=by
 have h1:=(formed_one h).2
 unfold Px.arity at h1
 rw[if_neg (by omega),if_neg (by omega),if_pos hk] at h1
 exact h1
theorem formed_conv{x:Px}(h:x.formed=true)(hk:x.kind=9):x.kids.length=1:=by
 have h1:=(formed_one h).2
 unfold Px.arity at h1
 rw[if_pos (by omega)] at h1
 exact h1
theorem formed_rest{x:Px}(h:x.formed=true)(h1:x.kind≠1)(h2:x.kind≠2)(h3:x.kind≠3)(h4:x.kind≠4)(h7:x.kind≠7)(h9:x.kind≠9):x.kids.length=1∨x.kids.length=2:=by
 obtain⟨g1,g2⟩:=formed_one h
 unfold Px.fitB at g1
 rw[if_neg h1,if_neg h2,if_neg h3,if_neg h4] at g1
 unfold Px.arity at g2
 by_cases k5:x.kind=5
 ·rw[if_pos (.inl k5)] at g2;exact .inl g2
 ·by_cases k6:x.kind=6
  ·rw[if_neg (by omega),if_pos k6] at g2;exact .inr g2
  ·by_cases k8:x.kind=8
   ·rw[if_neg (by omega),if_neg k6,if_neg h7,if_pos k8] at g2
    split at g2
    ·exact .inl g2
    ·exact .inr g2
   ·rw[if_neg k5,if_neg k6,if_neg h7,if_neg k8,if_neg h9] at g1
    cases g1
theorem SlG.ty{I:Imm}{G:Heap}{a:Option Addr}{n:Nat}{l:List Int}(h:SlG I G 1 encB a n l){i:Nat}(hi:i<n):∃ad,a=some ad∧Rd I G (ad.add (Int.toNat (i:Int)*1)) [.int .u8 (at0 l i)]:=by
 obtain⟨ad,x,h1,h2,h3⟩:=h.at (i:=(i:Int)) (by omega) (by omega)
 refine⟨ad,h1, ?_⟩
 have h2:l[i]? = some x:=h2
 unfold at0
 rw[h2];exact h3
set_option maxHeartbeats 400000 in
theorem node15_spec(s:StgN)(t:Nd)(hl:s.regs.length≤1048576)(hf:t.px.formed=true){a:Option Addr}{c:Nat}{ts:List Int}{I:Imm}{F:Heap}(hS:SlG I F 1 encB a t.kids.length ts)(hok:s.Ok I F)(hr:t.kind=2→0≤s.p.reg t.name) :
  Tri P 116 #[s.v,t.v,.slice a t.kids.length c] I F (Ret (.tuple #[.int .u8 (nodeT s.p t.px ts).1,.bool (nodeT s.p t.px ts).2]) F):=by
 have hn:t.kids.length=ts.length:=hS.1
 have ek:t.px.kind=t.kind:=Nd.px_kind t
 have eo:t.px.oper=t.oper:=Nd.px_oper t
 have et:t.px.typ=t.typ:=Nd.px_typ t
 have ef:t.px.field=t.field:=by cases t;rw[Nd.px];rfl
 have en:t.px.name=t.name:=by cases t;rw[Nd.px];rfl
 have el:t.px.kids.length=t.kids.length:=by rw[Nd.px_kids,List.length_map]
 refine ref15_node.vc ?_
 unfold ref15_node.V
 intro b_s b_n
 have hS':∀{x y:Nat×Obj},SlG I (x::y::F) 1 encB a t.kids.length ts:=hS.mono (Imm.le_refl I) fun _ h=>.tail _ (.tail _ h)
 have hok':∀{J:Imm} {x y:Nat×Obj},Imm.le I J→s.Ok J (x::y::F):=fun hJ=>hok.mono hJ fun _ h=>.tail _ (.tail _ h)
 unfold nodeT
 rw[ek,eo,et,ef,en]
 refine⟨fun h1=>?_,fun h1=>⟨fun h2=>?_,fun h2=>⟨fun h3=>?_,fun h3=>⟨fun h4=>?_,fun h4=>⟨fun h7=>?_,fun h7=>⟨fun h9=>?_,fun h9=>⟨fun hz=>?_,fun hz=>⟨fun h5=>?_,fun h5=>?_⟩⟩⟩⟩⟩⟩⟩⟩
 ·have h1:t.kind=1:=by simpa using h1
  rw[if_pos h1];exact⟨rfl,rfl⟩
 all_goals have h1:t.kind≠1:=by simpa using h1
 all_goals rw[if_neg h1]
 ·have h2:t.kind=2:=by simpa using h2
  rw[if_pos h2]
  have h0:=hr h2
  obtain⟨hb,hreg⟩:s.p.reg t.name<s.regs.length∧True:=by
   refine⟨?_,trivial⟩
   have:∀(l:List ByteArray) (i:Int),0≤i→ixF t.name l i<i+l.length∨ixF t.name l i = -1:=by
    intro l
    induction l with
    | nil=>intro i _;right;rfl
    | cons x r ih =>
      intro i hi
      rw[ixF]
      split
      ·left;rw[List.length_cons];omega
      ·rcases ih (i+1) (by omega) with h | h
       ·left;rw[List.length_cons];omega
       ·right;exact h
   have h:=this (s.p.regs.map RegP.name) 0 (Int.le_refl 0)
   unfold StgP.reg at h0 ⊢
   simp only[StgN.p,List.length_map] at h h0 ⊢
   omega
  refine⟨s.p.reg t.name,Tri.ret (reg15_spec hl t.name (hok' (Imm.le_refl I))) fun I1 l1=>⟨rfl,.refl _⟩,⟨h0,hb⟩, ?_⟩
  obtain⟨ad,r,had,hrr,hrd,_⟩:=SlG.atm (hok' (x:=(b_s,Obj.cells #[.string s.name,.slice s.ra s.regs.length s.rc,.slice s.sa s.slots.length s.sc,.slice s.ta s.states.length s.tc] 39 (0,0))) (y:=(b_n,Obj.cells #[.int .u8 t.kind,.int .u8 t.oper,.int .u8 t.typ,.int .i64 t.n,.int .u8 t.field,.string t.name,.slice t.a t.kids.length t.c,.int .i64 t.pos] 28 (0,0))) (Imm.le_refl I)).regs h0 hb
  refine⟨ad,had,r.typ,hrd.field (o:=1) rfl, ?_⟩
  have hT:s.p.regT (s.p.reg t.name)=r.typ:=by
   unfold StgP.regT
   show (((s.regs.map RegN.p)[(s.p.reg t.name).toNat]?).map RegP.typ).getD 0=_
   rw[List.getElem?_map,hrr];rfl
  rw[hT];exact⟨rfl,rfl⟩
 all_goals have h2:t.kind≠2:=by simpa using h2
 all_goals rw[if_neg h2]
 ·have h3:t.kind=3:=by simpa using h3
  rw[if_pos h3]
  have hfl:=formed_field hf (by omega)
  rw[ef] at hfl
  intro b3 I2 l2 hb3
  rw[w8 (n:=t.field-1) (by omega)]
  have hSf:Sl I2 1 encB (some ⟨b3,0,none⟩) 6 fieldL:=Sl.of_cells (f:=encB) (z:=1) (l:=fieldL) (fun _=>rfl) hb3 rfl
  obtain⟨ad,x,had,hx,hrd⟩:=hSf.at (i:=t.field-1) (by omega) (by omega)
  refine⟨⟨by omega,by omega⟩,ad,had,x,hrd _, ?_⟩
  unfold at0
  rw[hx];exact⟨rfl,rfl⟩
 all_goals have h3:t.kind≠3:=by simpa using h3
 all_goals rw[if_neg h3]
 ·have h4:t.kind=4:=by simpa using h4
  rw[if_pos h4];exact⟨rfl,rfl⟩
 all_goals have h4:t.kind≠4:=by simpa using h4
 all_goals rw[if_neg h4]
 ·have h7:t.kind=7:=by simpa using h7
  rw[if_pos h7]
  have hlen:=formed_cond hf (by omega)
  rw[el] at hlen
  obtain⟨ad1,e1,r1⟩:=SlG.ty (hS' (x:=(b_s,Obj.cells #[.string s.name,.slice s.ra s.regs.length s.rc,.slice s.sa s.slots.length s.sc,.slice s.ta s.states.length s.tc] 39 (0,0))) (y:=(b_n,Obj.cells #[.int .u8 t.kind,.int .u8 t.oper,.int .u8 t.typ,.int .i64 t.n,.int .u8 t.field,.string t.name,.slice t.a t.kids.length t.c,.int .i64 t.pos] 28 (0,0)))) (i:=1) (by omega)
  obtain⟨ad0,e0,r0⟩:=SlG.ty (hS' (x:=(b_s,Obj.cells #[.string s.name,.slice s.ra s.regs.length s.rc,.slice s.sa s.slots.length s.sc,.slice s.ta s.states.length s.tc] 39 (0,0))) (y:=(b_n,Obj.cells #[.int .u8 t.kind,.int .u8 t.oper,.int .u8 t.typ,.int .i64 t.n,.int .u8 t.field,.string t.name,.slice t.a t.kids.length t.c,.int .i64 t.pos] 28 (0,0)))) (i:=0) (by omega)
  obtain⟨ad2,e2,r2⟩:=SlG.ty (hS' (x:=(b_s,Obj.cells #[.string s.name,.slice s.ra s.regs.length s.rc,.slice s.sa s.slots.length s.sc,.slice s.ta s.states.length s.tc] 39 (0,0))) (y:=(b_n,Obj.cells #[.int .u8 t.kind,.int .u8 t.oper,.int .u8 t.typ,.int .i64 t.n,.int .u8 t.field,.string t.name,.slice t.a t.kids.length t.c,.int .i64 t.pos] 28 (0,0)))) (i:=2) (by omega)
  refine⟨⟨by omega,by omega⟩,ad1,e1,_,r1,⟨by omega,by omega⟩,ad0,e0,_,r0,fun hc=>?_,fun hc=>?_⟩
  ·refine⟨⟨by omega,by omega⟩,ad1,e1,_,r1,⟨by omega,by omega⟩,ad2,e2,_,r2, ?_⟩
   rw[hc,Bool.true_and];exact⟨rfl,rfl⟩
  ·rw[hc,Bool.false_and];exact⟨rfl,rfl⟩
 all_goals have h7:t.kind≠7:=by simpa using h7
 all_goals rw[if_neg h7]
 ·have h9:t.kind=9:=by simpa using h9
  rw[if_pos h9]
  have hlen:=formed_conv hf (by omega)
  rw[el] at hlen
  obtain⟨ad0,e0,r0⟩:=SlG.ty (hS' (x:=(b_s,Obj.cells #[.string s.name,.slice s.ra s.regs.length s.rc,.slice s.sa s.slots.length s.sc,.slice s.ta s.states.length s.tc] 39 (0,0))) (y:=(b_n,Obj.cells #[.int .u8 t.kind,.int .u8 t.oper,.int .u8 t.typ,.int .i64 t.n,.int .u8 t.field,.string t.name,.slice t.a t.kids.length t.c,.int .i64 t.pos] 28 (0,0)))) (i:=0) (by omega)
  exact⟨⟨by omega,by omega⟩,ad0,e0,_,r0,_,Tri.ret (number15_spec _ I _) fun I1 l1=>⟨rfl,.refl _⟩,rfl,rfl⟩
 all_goals have h9:t.kind≠9:=by simpa using h9
 all_goals rw[if_neg h9]
 all_goals have hlen:=formed_rest hf (by omega) (by omega) (by omega) (by omega) (by omega) (by omega)
 all_goals rw[el] at hlen
 all_goals obtain⟨ad0,e0,r0⟩:=SlG.ty (hS' (x:=(b_s,Obj.cells #[.string s.name,.slice s.ra s.regs.length s.rc,.slice s.sa s.slots.length s.sc,.slice s.ta s.states.length s.tc] 39 (0,0))) (y:=(b_n,Obj.cells #[.int .u8 t.kind,.int .u8 t.oper,.int .u8 t.typ,.int .i64 t.n,.int .u8 t.field,.string t.name,.slice t.a t.kids.length t.c,.int .i64 t.pos] 28 (0,0)))) (i:=0) (by omega)
 ·have hz:(t.kids.length:Int)=2:=by have hz:((t.kids.length:Int)==2)=true:=hz;simpa using hz
  rw[if_pos (by omega)]
  obtain⟨ad1,e1,r1⟩:=SlG.ty (hS' (x:=(b_s,Obj.cells #[.string s.name,.slice s.ra s.regs.length s.rc,.slice s.sa s.slots.length s.sc,.slice s.ta s.states.length s.tc] 39 (0,0))) (y:=(b_n,Obj.cells #[.int .u8 t.kind,.int .u8 t.oper,.int .u8 t.typ,.int .i64 t.n,.int .u8 t.field,.string t.name,.slice t.a t.kids.length t.c,.int .i64 t.pos] 28 (0,0)))) (i:=1) (by omega)
  exact⟨⟨by omega,by omega⟩,ad0,e0,_,r0,⟨by omega,by omega⟩,ad1,e1,_,r1,_,_,Tri.ret (two15_spec _ _ _ I _) fun I1 l1=>⟨rfl,.refl _⟩,rfl,rfl⟩
 all_goals have hz:¬(t.kids.length:Int)=2:=by have hz:((t.kids.length:Int)==2)=false:=hz;simpa using hz
 all_goals rw[if_neg (by omega)]
 ·have h5:t.oper=2:=by simpa using h5
  rw[if_pos h5]
  exact⟨⟨by omega,by omega⟩,ad0,e0,_,r0,rfl,rfl⟩
 ·have h5:t.oper≠2:=by simpa using h5
  rw[if_neg h5]
  exact⟨⟨by omega,by omega⟩,ad0,e0,_,r0,⟨by omega,by omega⟩,ad0,e0,_,r0,_,Tri.ret (number15_spec _ I _) fun I1 l1=>⟨rfl,.refl _⟩,rfl,rfl⟩
end Go.Lx
namespace Go.Lx
open Go.Vc Go.Proofs.Tryz
def shT_t7:List (Nat×List Sh):=[(3,[.one (.int .i64)]),(4,[.one .bool]),(9,[.one .str]),(28,[.agg [(.int .u8),(.int .u8),(.int .u8),(.int .i64),(.int .u8),.str,.slc,(.int .i64)]]),(63,[.one .slc]),(65,[.agg [.str,.slc,(.int .i64)]]),(77,[.agg [.str,(.int .u8),(.int .u8),(.int .u8),(.int .u8),(.int .i64),(.int .u8),.str,.slc,(.int .i64),(.int .i64)]]),(79,[.agg [.str,(.int .i64)]]),(82,[.one .slc]),(84,[.agg [(.int .u8),(.int .u8),(.int .u8),(.int .i64),(.int .u8),.str,.slc,(.int .i64),.slc,(.int .i64)]]),(99,[.agg [(.int .u8),(.int .u8),.str,(.int .u8),(.int .u8),(.int .u8),(.int .i64),(.int .u8),.str,.slc,(.int .i64),(.int .u8),(.int .u8),(.int .u8),(.int .i64),(.int .u8),.str,.slc,(.int .i64),(.int .u8),(.int .u8),(.int .u8),(.int .i64),(.int .u8),.str,.slc,(.int .i64),(.int .u8),(.int .u8),(.int .u8),(.int .i64),(.int .u8),.str,.slc,(.int .i64),(.int .i64)]])]
def ref00_weighDo.V(a:Nat→Nat×Obj)(nV:Int→Int→Int→Int→Int→Bs→OA→Nat→Nat→Int→Value)(vi:Int→Value)(aw ax:Int)(am:Bs)(an ao ap aq ar:Int)(au:Bs)(l:OA)(m o:Nat)(p q s t u v:Int)(w:Bs)(c:OA)(d e:Nat)(x y z aa ab ac:Int)(ad:Bs)(f:OA)(g h:Nat)(ae af ag ah ai aj:Int)(ak:Bs)(i:OA)(j k:Nat)(al av n:Int)(I:Imm)(F:Heap)(Q:PostQ)  : Prop:=∀b:Nat,Tc1 P 30 (#[nV an ao ap aq ar au l m o p,vi (IntKind.wrap .i64 (n+(am.size:Int))),vi 0]) I ((a b)::·) F vi fun r I1 F1=>Tc1 P 30 #[nV q s t u v w c d e x,vi r,vi 0] I1 ((a b)::·) F1 vi fun r1 I2 F2=>Tc1 P 30 #[nV y z aa ab ac ad f g h ae,vi r1,vi 0] I2 ((a b)::·) F2 vi fun r2 I3 F3=>Tc1 P 30 #[nV af ag ah ai aj ak i j k al,vi r2,vi 0] I3 ((a b)::·) F3 vi fun r3 I4 F4=>Q (.returned (vi r3)) I4 (F4)
theorem ref00_weighDo.vc{ay az:Int}{aA:Bs}{aB aC aD aE aF:Int}{aG:Bs}{v:OA}{w x:Nat}{y z aa ab ac ad:Int}{ae:Bs}{d:OA}{e g:Nat}{af ag ah ai aj ak:Int}{al:Bs}{i:OA}{j m:Nat}{am ao ap aq ar au:Int}{av:Bs}{p:OA}{r u:Nat}{aw ax n:Int}{I:Imm}{F:Heap}{Q:PostQ}  (h:ref00_weighDo.V (fun b=>(b,Obj.cells #[.int .u8 ay,.int .u8 az,.string aA,.int .u8 aB,.int .u8 aC,.int .u8 aD,.int .i64 aE,.int .u8 aF,.string aG,.slice v w x,.int .i64 y,.int .u8 z,.int .u8 aa,.int .u8 ab,.int .i64 ac,.int .u8 ad,.string ae,.slice d e g,.int .i64 af,.int .u8 ag,.int .u8 ah,.int .u8 ai,.int .i64 aj,.int .u8 ak,.string al,.slice i j m,.int .i64 am,.int .u8 ao,.int .u8 ap,.int .u8 aq,.int .i64 ar,.int .u8 au,.string av,.slice p r u,.int .i64 aw,.int .i64 ax] 99 (0,0))) (fun k o t n f s a l c q=>.agg #[.int .u8 k,.int .u8 o,.int .u8 t,.int .i64 n,.int .u8 f,.string s,.slice a l c,.int .i64 q]) (.int .i64) ay az aA aB aC aD aE aF aG v w x y z aa ab ac ad ae d e g af ag ah ai aj ak al i j m am ao ap aq ar au av p r u aw ax n I F Q):Tri P 63 #[.agg #[.int .u8 ay,.int .u8 az,.string aA,.int .u8 aB,.int .u8 aC,.int .u8 aD,.int .i64 aE,.int .u8 aF,.string aG,.slice v w x,.int .i64 y,.int .u8 z,.int .u8 aa,.int .u8 ab,.int .i64 ac,.int .u8 ad,.string ae,.slice d e g,.int .i64 af,.int .u8 ag,.int .u8 ah,.int .u8 ai,.int .i64 aj,.int .u8 ak,.string al,.slice i j m,.int .i64 am,.int .u8 ao,.int .u8 ap,.int .u8 aq,.int .i64 ar,.int .u8 au,.string av,.slice p r u,.int .i64 aw,.int .i64 ax],.int .i64 n] I F Q :=
 tw (A:=(an [] [30] shT_t7)) [30] func63 h
def ref00_WeighStrategy.V(a:Nat→Nat×Obj)(nV:Int→Int→Int→Int→Int→Bs→OA→Nat→Nat→Int→Value)(nL:Int→Int→Int→Int→Int→Bs→OA→Nat→Nat→Int→List Value)(vb vi:Int→Value)(vs:Bs→Value)(vl:OA→Nat→Nat→Value)(wr:Int→Int)(br:Bs)(z:OA)(c bv:Nat)(aZ:OA)(f bw:Nat)(aa:OA)(d bx:Nat)(I:Imm)(F:Heap)(Q:PostQ)(Inv4:Int→Imm→Heap→Imm→Heap→Prop)(Inv8:Int→Int→Nat→Imm→Heap→Imm→Heap→Prop)(Inv19:Int→Imm→Heap→Imm→Heap→Prop)(Inv23:Int→Int→Nat→Imm→Heap→Imm→Heap→Prop)(Inv34:Int→Imm→Heap→Imm→Heap→Prop)(Inv38:Int→Int→Nat→Imm→Heap→Imm→Heap→Prop)(Inv54:Int→Int→Int→Nat→Imm→Heap→Imm→Heap→Prop)(Inv68:Int→Int→Int→Int→Nat→Imm→Heap→Imm→Heap→Prop):Prop:=∀b:Nat,((∃m:Nat,Inv8 (br.size:Int) 0 m I F I F)∧∀(n i:Int) (m1:Nat) (I1:Imm) (F1:Heap),Imm.le I I1→Inv8 n i m1 I F I1 F1→(Dt (i<(c:Int)) (Dt (n≤1048576) ((0≤i∧i<(c:Int))∧∃ad:Addr,z=some ad∧∃(a0 a1 a2 a3 a4:Int) (a5:Bs) (ab:OA) (ac ae:Nat) (a6:Int),Rd I1 ((a b)::F1) ((ad.add (Int.toNat i*11)).add 2) (nL a0 a1 a2 a3 a4 a5 ab ac ae a6)∧((0≤i∧i<(c:Int))∧∃bb:Addr,z=some bb∧∃(m2:Bs),Rd I1 ((a b)::F1) ((bb.add (Int.toNat i*11)).add 0) [vs m2]∧∃(r:Int),(Tri P 30 (#[nV a0 a1 a2 a3 a4 a5 ab ac ae a6,vi (wr ((wr (n+1))+(m2.size:Int))),vi 0]) I1 ((a b)::F1) fun e1 I2 G1=>e1=.returned (vi r)∧List.Perm G1 ((a b)::F1))∧(∃m3:Nat,m3<m1∧Inv8 r (wr (i+1)) m3 I F I1 F1))) (Inv4 n I F I1 F1)) (Inv4 n I F I1 F1)))∧∀(n1:Int) (I3:Imm) (F2:Heap),Imm.le I I3→Inv4 n1 I F I3 F2→((∃m4:Nat,Inv23 n1 0 m4 I3 F2 I3 F2)∧∀(n2 i1:Int) (m5:Nat) (I4:Imm) (F3:Heap),Imm.le I3 I4→Inv23 n2 i1 m5 I3 F2 I4 F3→(Dt (i1<(f:Int)) (Dt (n2≤1048576) ((0≤i1∧i1<(f:Int))∧∃bc:Addr,aZ=some bc∧∃(m6:Bs),Rd I4 ((a b)::F3) ((bc.add (Int.toNat i1*2)).add 0) [vs m6]∧(∃m7:Nat,m7<m5∧Inv23 (wr ((wr (n2+1))+(m6.size:Int))) (wr (i1+1)) m7 I3 F2 I4 F3)) (Inv19 n2 I3 F2 I4 F3)) (Inv19 n2 I3 F2 I4 F3)))∧∀(n3:Int) (I5:Imm) (F4:Heap),Imm.le I3 I5→Inv19 n3 I3 F2 I5 F4→((∃m8:Nat,Inv38 n3 0 m8 I5 F4 I5 F4)∧∀(n4 i2:Int) (m9:Nat) (I6:Imm) (F5:Heap),Imm.le I5 I6→Inv38 n4 i2 m9 I5 F4 I6 F5→(Dt (i2<(d:Int)) (Dt (n4≤1048576) ((0≤i2∧i2<(d:Int))∧∃bd:Addr,aa=some bd∧∃(a7:Bs),Rd I6 ((a b)::F5) ((bd.add (Int.toNat i2*3)).add 0) [vs a7]∧((0≤i2∧i2<(d:Int))∧∃be:Addr,aa=some be∧∃(af:OA) (e bs:Nat),Rd I6 ((a b)::F5) ((be.add (Int.toNat i2*3)).add 1) [vl af e bs]∧(∃bt:Nat,Inv54 i2 (wr ((wr (n4+1))+(a7.size:Int))) 0 bt I6 F5 I6 F5)∧∀(n5 k:Int) (ap:Nat) (I7:Imm) (F6:Heap),Imm.le I6 I7→Inv54 i2 n5 k ap I6 F5 I7 F6→(Dt (k<(e:Int)) (Dt (n5≤1048576) ((0≤k∧k<(e:Int))∧∃bf:Addr,af=some bf∧∃(aq ar au av aw:Int) (ax:Bs) (g:OA) (h l:Nat) (ay:Int),Rd I7 ((a b)::F6) ((bf.add (Int.toNat k*10)).add 0) (nL aq ar au av aw ax g h l ay)∧Tc1 P 30 (#[nV aq ar au av aw ax g h l ay,vi (wr (n5+1)),vi 0]) I7 ((a b)::·) F6 vi fun r1 I8 F7=>(∃bu:Nat,Inv68 i2 k r1 0 bu I8 F7 I8 F7)∧∀(n6 j:Int) (a8:Nat) (I9:Imm) (F8:Heap),Imm.le I8 I9→Inv68 i2 k n6 j a8 I8 F7 I9 F8→((0≤k∧k<(e:Int))∧∃bg:Addr,af=some bg∧∃(bo:OA) (y bp:Nat),Rd I9 ((a b)::F8) ((bg.add (Int.toNat k*10)).add 8) [vl bo y bp]∧(Dt (j<(y:Int)) (Dt (n6≤1048576) ((0≤k∧k<(e:Int))∧∃bh:Addr,af=some bh∧∃(az:OA) (aA bq:Nat),Rd I9 ((a b)::F8) ((bh.add (Int.toNat k*10)).add 8) [vl az aA bq]∧((0≤j∧j<(aA:Int))∧∃bi:Addr,az=some bi∧∃(aB aC:Int) (aD:Bs) (aE aF aG a9 aH:Int) (ba:Bs) (ag:OA) (ah ai:Nat) (aI aj ak aJ aK aL:Int) (aM:Bs) (o:OA) (p q:Nat) (aN aO aP al am aQ:Int) (aR:Bs) (s:OA) (t u:Nat) (aS aT aU aV aW an:Int) (ao:Bs) (v:OA) (w x:Nat) (aX aY:Int),Rd I9 ((a b)::F8) (bi.add (Int.toNat j*36)) [vb aB,vb aC,vs aD,vb aE,vb aF,vb aG,vi a9,vb aH,vs ba,vl ag ah ai,vi aI,vb aj,vb ak,vb aJ,vi aK,vb aL,vs aM,vl o p q,vi aN,vb aO,vb aP,vb al,vi am,vb aQ,vs aR,vl s t u,vi aS,vb aT,vb aU,vb aV,vi aW,vb an,vs ao,vl v w x,vi aX,vi aY]∧Tc1 P 63 (#[.agg #[vb aB,vb aC,vs aD,vb aE,vb aF,vb aG,vi a9,vb aH,vs ba,vl ag ah ai,vi aI,vb aj,vb ak,vb aJ,vi aK,vb aL,vs aM,vl o p q,vi aN,vb aO,vb aP,vb al,vi am,vb aQ,vs aR,vl s t u,vi aS,vb aT,vb aU,vb aV,vi aW,vb an,vs ao,vl v w x,vi aX,vi aY],vi (wr (n6+1))]) I9 ((a b)::·) F8 vi fun r2 I10 F9=>(∃bj:Nat,bj<a8∧Inv68 i2 k r2 (wr (j+1)) bj I8 F7 I10 F9))) (∃bk:Nat,bk<ap∧Inv54 i2 n6 (wr (k+1)) bk I6 F5 I9 F8)) (∃bl:Nat,bl<ap∧Inv54 i2 n6 (wr (k+1)) bl I6 F5 I9 F8)))) (∃bm:Nat,bm<m9∧Inv38 n5 (wr (i2+1)) bm I5 F4 I7 F6)) (∃bn:Nat,bn<m9∧Inv38 n5 (wr (i2+1)) bn I5 F4 I7 F6)))) (Inv34 n4 I5 F4 I6 F5)) (Inv34 n4 I5 F4 I6 F5)))∧∀(n7:Int) (I11:Imm) (F10:Heap),Imm.le I5 I11→Inv34 n7 I5 F4 I11 F10→Q (.returned (vi n7)) I11 (F10)
theorem ref00_WeighStrategy.vc{w:Bs}{d:OA}{e g:Nat}{i:OA}{j p:Nat}{r:OA}{u v:Nat}{I:Imm}{F:Heap}{Q:PostQ}(Inv4:Int→Imm→Heap→Imm→Heap→Prop)(Inv8:Int→Int→Nat→Imm→Heap→Imm→Heap→Prop)(Inv19:Int→Imm→Heap→Imm→Heap→Prop)(Inv23:Int→Int→Nat→Imm→Heap→Imm→Heap→Prop)(Inv34:Int→Imm→Heap→Imm→Heap→Prop)(Inv38:Int→Int→Nat→Imm→Heap→Imm→Heap→Prop)(Inv54:Int→Int→Int→Nat→Imm→Heap→Imm→Heap→Prop)(Inv68:Int→Int→Int→Int→Nat→Imm→Heap→Imm→Heap→Prop)(h:ref00_WeighStrategy.V (fun b=>(b,Obj.cells #[.string w,.slice d e g,.slice i j p,.slice r u v] 39 (0,0))) (fun k o t n f s a l c q=>.agg #[.int .u8 k,.int .u8 o,.int .u8 t,.int .i64 n,.int .u8 f,.string s,.slice a l c,.int .i64 q]) (fun k o t n f s a l c q=>[.int .u8 k,.int .u8 o,.int .u8 t,.int .i64 n,.int .u8 f,.string s,.slice a l c,.int .i64 q]) (.int .u8) (.int .i64) .string .slice (IntKind.wrap .i64) w d e g i j p r u v I F Q Inv4 Inv8 Inv19 Inv23 Inv34 Inv38 Inv54 Inv68):Tri P 37 #[.agg #[.string w,.slice d e g,.slice i j p,.slice r u v]] I F Q :=
 tw (A:=(annL [3004,3007,7004,7007,11004,11007,16003,16006,20007,20010] [] [30,63] shT_t7 [(4,⟨[(3,(.int .i64))],[],fun fs I0 F0 vs m I F=>match fs,vs with | [],[.int _ y0]=>Inv4 y0 I0 F0 I F | _,_=>False,[],[]⟩),(8,⟨[(3,(.int .i64)),(4,(.int .i64))],[],fun fs I0 F0 vs m I F=>match fs,vs with | [],[.int _ y0,.int _ y1]=>Inv8 y0 y1 m I0 F0 I F | _,_=>False,[],[]⟩),(19,⟨[(3,(.int .i64))],[],fun fs I0 F0 vs m I F=>match fs,vs with | [],[.int _ y0]=>Inv19 y0 I0 F0 I F | _,_=>False,[],[]⟩),(23,⟨[(3,(.int .i64)),(5,(.int .i64))],[],fun fs I0 F0 vs m I F=>match fs,vs with | [],[.int _ y0,.int _ y1]=>Inv23 y0 y1 m I0 F0 I F | _,_=>False,[],[]⟩),(34,⟨[(3,(.int .i64))],[],fun fs I0 F0 vs m I F=>match fs,vs with | [],[.int _ y0]=>Inv34 y0 I0 F0 I F | _,_=>False,[],[]⟩),(38,⟨[(3,(.int .i64)),(6,(.int .i64))],[],fun fs I0 F0 vs m I F=>match fs,vs with | [],[.int _ y0,.int _ y1]=>Inv38 y0 y1 m I0 F0 I F | _,_=>False,[],[]⟩),(54,⟨[(3,(.int .i64)),(8,(.int .i64))],[],fun fs I0 F0 vs m I F=>match fs,vs with | [.int _ y0],[.int _ y1,.int _ y2]=>Inv54 y0 y1 y2 m I0 F0 I F | _,_=>False,[6],[]⟩),(68,⟨[(3,(.int .i64)),(9,(.int .i64))],[],fun fs I0 F0 vs m I F=>match fs,vs with | [.int _ y0,.int _ y1],[.int _ y2,.int _ y3]=>Inv68 y0 y1 y2 y3 m I0 F0 I F | _,_=>False,[6,8],[]⟩)] [] [] [] [] [] [])) [30,63] func37 h
end Go.Lx
namespace Go.Lx
open Go.Vc
def DoP.Short(d:DoP):Prop:=d.name.size≤140737488351232∧∀x∈d.nds,x.ShortP
def RuleP.Short(r:RuleP):Prop:=r.when.ShortP∧r.dos.length≤140737488351232∧∀d∈r.dos,d.Short
def StateP.Short(x:StateP):Prop:=x.name.size≤140737488351232∧x.rules.length≤140737488351232∧∀r∈x.rules,r.Short
def RegP.Short(r:RegP):Prop:=r.name.size≤140737488351232∧r.init.ShortP
def SlotP.Short(r:SlotP):Prop:=r.name.size≤140737488351232
structure StgP.Short (s:StgP):Prop where
 name:s.name.size≤140737488351232
 regs:s.regs.length≤140737488351232
 reg:∀r∈s.regs,r.Short
 slots:s.slots.length≤140737488351232
 slot:∀r∈s.slots,r.Short
 states:s.states.length≤140737488351232
 state:∀x∈s.states,x.Short
def DoP.Light(d:DoP):Prop:=Small d.nds
def RuleP.Light(r:RuleP):Prop:=r.when.size≤1048576∧r.dos.length≤1048576∧∀d∈r.dos,d.Light
def StateP.Light(x:StateP):Prop:=x.rules.length≤1048576∧∀r∈x.rules,r.Light
def sumI{α:Type}(f:α→Int):List α→Int
 | []=>0
 | x::r=>f x+sumI f r
theorem sumI_nonneg{α:Type}{f:α→Int}(h:∀x,0≤f x):∀l,0≤sumI f l
 | []=>Int.le_refl _
 | x::r=>by have:=sumI_nonneg h r;have:=h x;rw[sumI];omega
theorem sumI_len{α:Type}{f:α→Int}(h:∀x,1≤f x):∀l:List α,(l.length:Int)≤sumI f l
 | []=>Int.le_refl _
 | x::r=>by have:=sumI_len h r;have:=h x;rw[sumI,List.length_cons];omega
theorem sumI_mem{α:Type}{f:α→Int}(h:∀x,0≤f x):∀{l:List α} {x:α},x∈l→f x≤sumI f l
 | y::r,x,hx=>by
   have h1:=sumI_nonneg h r
   have h2:=h y
   rw[sumI]
   rcases List.mem_cons.1 hx with rfl | hx
   ·omega
   ·have:=sumI_mem h hx;omega
theorem sumI_app{α:Type}(f:α→Int):∀l m:List α,sumI f (l++m)=sumI f l+sumI f m
 | [],m=>by rw[List.nil_append,sumI];omega
 | x::l,m=>by rw[List.cons_append,sumI,sumI,sumI_app f l m];omega
theorem sumI_map{α β:Type}(f:α→Int)(g:β→α):∀l:List β,sumI f (l.map g)=sumI (fun x=>f (g x)) l
 | []=>rfl
 | x::l=>by rw[List.map_cons,sumI,sumI,sumI_map f g l]
theorem sumI_take{α:Type}(f:α→Int){l:List α}{i:Nat}{x:α}(hx:l[i]? = some x):sumI f (l.take (i+1))=sumI f (l.take i)+f x:=by
 obtain⟨hi,rfl⟩:=List.getElem?_eq_some_iff.1 hx
 rw[List.take_succ_eq_append_getElem hi,sumI_app,sumI,sumI];omega
theorem sumI_full{α:Type}(f:α→Int){l:List α}{i:Nat}(hi:l.length≤i):sumI f (l.take i)=sumI f l:=by rw[List.take_of_length_le hi]
def DoP.mass(d:DoP):Int:=1+d.side.size+d.qty.size+d.price.size+d.value.size
def RuleP.mass(r:RuleP):Int:=1+r.when.size+sumI DoP.mass r.dos
def StateP.mass(x:StateP):Int:=1+sumI RuleP.mass x.rules
def RegP.mass(r:RegP):Int:=1+r.init.size
def StgP.mass(s:StgP):Int:=sumI RegP.mass s.regs+s.slots.length+sumI StateP.mass s.states
theorem DoP.mass_pos(d:DoP):1≤d.mass:=by
 have q1:=Px.size_pos d.side
 have q2:=Px.size_pos d.qty
 have q3:=Px.size_pos d.price
 have q4:=Px.size_pos d.value
 unfold DoP.mass;omega
theorem RuleP.mass_pos(r:RuleP):1≤r.mass:=by
 have q1:=Px.size_pos r.when
 have q2:=sumI_nonneg (fun x=>Int.le_trans (by decide) (DoP.mass_pos x)) r.dos
 unfold RuleP.mass;omega
theorem StateP.mass_pos(x:StateP):1≤x.mass:=by
 have q2:=sumI_nonneg (fun x=>Int.le_trans (by decide) (RuleP.mass_pos x)) x.rules
 unfold StateP.mass;omega
theorem RegP.mass_pos(r:RegP):1≤r.mass:=by
 have q1:=Px.size_pos r.init
 unfold RegP.mass;omega
structure StgP.Light (s:StgP):Prop where
 regs:s.regs.length≤1048576
 reg:∀r∈s.regs,r.init.size≤1048576
 slots:s.slots.length≤1048576
 states:s.states.length≤1048576
 state:∀x∈s.states,x.Light
 all:s.mass≤1048576
theorem DoP.light{d:DoP}(h:d.mass≤1048576):d.Light:=fun x hx=>by
 have q1:=Px.size_pos d.side
 have q2:=Px.size_pos d.qty
 have q3:=Px.size_pos d.price
 have q4:=Px.size_pos d.value
 unfold DoP.mass at h
 simp only[DoP.nds,List.mem_cons,List.not_mem_nil,or_false] at hx
 rcases hx with rfl | rfl | rfl | rfl<;>omega
theorem RuleP.light{r:RuleP}(h:r.mass≤1048576):r.Light:=by
 have q1:=Px.size_pos r.when
 have q2:=sumI_len DoP.mass_pos r.dos
 unfold RuleP.mass at h
 refine⟨by omega,by omega,fun d hd=>DoP.light ?_⟩
 have:=sumI_mem (fun x=>Int.le_trans (by decide) (DoP.mass_pos x)) hd
 omega
theorem StateP.light{x:StateP}(h:x.mass≤1048576):x.Light:=by
 have q2:=sumI_len RuleP.mass_pos x.rules
 unfold StateP.mass at h
 refine⟨by omega,fun d hd=>RuleP.light ?_⟩
 have:=sumI_mem (fun x=>Int.le_trans (by decide) (RuleP.mass_pos x)) hd
 omega
theorem StgP.light{s:StgP}(h:s.mass≤1048576):s.Light:=by
 have h':=h
 have q1:=sumI_len RegP.mass_pos s.regs
 have q2:=sumI_len StateP.mass_pos s.states
 unfold StgP.mass at h
 refine⟨by omega,fun r hr=>?_,by omega,by omega,fun x hx=>StateP.light ?_,h'⟩
 ·have:=sumI_mem (fun x=>Int.le_trans (by decide) (RegP.mass_pos x)) hr
  have hm:r.mass=1+r.init.size:=rfl
  omega
 ·have:=sumI_mem (fun x=>Int.le_trans (by decide) (StateP.mass_pos x)) hx
  omega
def DoN.mass(d:DoN):Int:=d.p.mass
def RuleN.mass(r:RuleN):Int:=r.p.mass
def StateN.mass(r:StateN):Int:=r.p.mass
def RegN.mass(r:RegN):Int:=r.p.mass
theorem RuleN.mass_eq(r:RuleN):r.mass=1+r.when.px.size+sumI DoN.mass r.dos:=by
 show 1+r.when.px.size+sumI DoP.mass (r.dos.map DoN.p)=_
 rw[sumI_map];rfl
theorem StateN.mass_eq(r:StateN):r.mass=1+sumI RuleN.mass r.rules:=by
 show 1+sumI RuleP.mass (r.rules.map RuleN.p)=_
 rw[sumI_map];rfl
theorem StgN.mass_eq(s:StgN):s.p.mass=sumI RegN.mass s.regs+s.slots.length+sumI StateN.mass s.states:=by
 show sumI RegP.mass (s.regs.map RegN.p)+s.slots.length+sumI StateP.mass (s.states.map StateN.p)=_
 rw[sumI_map,sumI_map];rfl
theorem StgP.Light.small{s:StgP}(h:s.Light):Small s.nds:=fun x hx=>by
 simp only[StgP.nds,List.mem_append,List.mem_map,List.mem_flatMap] at hx
 rcases hx with ⟨r,hr,rfl⟩ | ⟨y,hy,r,hr,hx⟩
 ·exact h.reg r hr
 ·obtain⟨_,h1⟩:=h.state y hy
  obtain⟨h2,_,h3⟩:=h1 r hr
  unfold RuleP.nds at hx
  rcases List.mem_cons.1 hx with rfl | hx
  ·exact h2
  ·obtain⟨d,hd,hx⟩:=List.mem_flatMap.1 hx
   exact h3 d hd x hx
theorem StgP.Light.lens{s:StgN}(h:s.p.Light):s.Lens:=by
 have l1:=h.regs
 have l2:=h.slots
 have l3:=h.states
 simp only[StgN.p,List.length_map] at l1 l2 l3
 refine⟨by omega,by omega,by omega,fun x hx=>?_,fun x hx r hr=>?_⟩
 ·have:=(h.state x.p (List.mem_map_of_mem hx)).1
  simp only[StateN.p,List.length_map] at this
  omega
 ·have:=((h.state x.p (List.mem_map_of_mem hx)).2 r.p (List.mem_map_of_mem hr)).2.1
  simp only[RuleN.p,List.length_map] at this
  omega
structure StgP.Thin (s:StgP):Prop where
 regs:s.regs.length≤1048576
 reg:∀r∈s.regs,r.init.size≤1048576
 slots:s.slots.length≤1048576
 states:s.states.length≤1048576
 state:∀x∈s.states,x.Light
theorem StgP.Light.thin{s:StgP}(h:s.Light):s.Thin:=⟨h.regs,h.reg,h.slots,h.states,h.state⟩
theorem StgP.Thin.small{s:StgP}(h:s.Thin):Small s.nds:=fun x hx=>by
 simp only[StgP.nds,List.mem_append,List.mem_map,List.mem_flatMap] at hx
 rcases hx with ⟨r,hr,rfl⟩ | ⟨y,hy,r,hr,hx⟩
 ·exact h.reg r hr
 ·obtain⟨_,h1⟩:=h.state y hy
  obtain⟨h2,_,h3⟩:=h1 r hr
  unfold RuleP.nds at hx
  rcases List.mem_cons.1 hx with rfl | hx
  ·exact h2
  ·obtain⟨d,hd,hx⟩:=List.mem_flatMap.1 hx
   exact h3 d hd x hx
theorem StgP.Thin.lens{s:StgN}(h:s.p.Thin):s.Lens:=by
 have l1:=h.regs
 have l2:=h.slots
 have l3:=h.states
 simp only[StgN.p,List.length_map] at l1 l2 l3
 refine⟨by omega,by omega,by omega,fun x hx=>?_,fun x hx r hr=>?_⟩
 ·have:=(h.state x.p (List.mem_map_of_mem hx)).1
  simp only[StateN.p,List.length_map] at this
  omega
 ·have:=((h.state x.p (List.mem_map_of_mem hx)).2 r.p (List.mem_map_of_mem hr)).2.1
  simp only[RuleN.p,List.length_map] at this
  omega
theorem weighL_le(d:Int):∀(l:List Px),(∀x∈l,∀n,x.weigh n d≤max n 1048576+140737488351233)→∀n,Px.weighL l n d≤max n (1048576+140737488351233)
 | [],_,n=>by rw[Px.weighL];omega
 | x::r,h,n=>by
   rw[Px.weighL]
   split
   ·have h1:=h x (List.mem_cons_self ..) n
    have h2:=weighL_le d r (fun y hy=>h y (List.mem_cons_of_mem _ hy)) (x.weigh n d)
    omega
   ·omega
theorem weigh_le:∀{x:Px},x.ShortP→∀n d:Int,x.weigh n d≤max n 1048576+140737488351233:=by
 intro x h
 induction h with
 | mk h1 h2 h3 ih =>
   rename_i x
   intro n d
   rw[Px.weigh_eq]
   split
   ·omega
   ·have:=weighL_le (d+1) x.kids (fun y hy n=>ih y hy n (d+1)) (n+1+x.name.size)
    omega
theorem take_all{α:Type}{l:List α}{i:Nat}{x:α}{p:α→Prop}(hx:l[i]? = some x)(h:∀y∈l.take i,p y)(hp:p x):∀y∈l.take (i+1),p y:=by
 obtain⟨hi,rfl⟩:=List.getElem?_eq_some_iff.1 hx
 intro y hy
 rw[List.take_succ_eq_append_getElem hi] at hy
 rcases List.mem_append.1 hy with hy | hy
 ·exact h y hy
 ·rw[List.mem_singleton] at hy;rw[hy];exact hp
theorem Rd.part{I:Imm}{G:Heap}{ad:Addr}{cs xs ds ys:List Value}(h:Rd I G ad cs){o:Nat}(e:cs=xs++(ds++ys))(ho:xs.length=o):Rd I G (ad.add o) ds:=by
 obtain⟨h1,cells,t,fz,h2,h3⟩:=h
 have hadd:ad.add o=⟨ad.block,ad.off+o,none⟩:=by
  obtain⟨b,off,sp⟩:=ad
  simp only at h1;subst h1
  unfold Addr.add;split<;>simp_all
 rw[hadd]
 refine⟨rfl,cells,t,fz,h2,fun j hj=>?_⟩
 have:=h3 (o+j) (by rw[e];simp only[List.length_append];omega)
 rw[←Nat.add_assoc] at this
 rw[this,e,List.getElem?_append_right (by omega),show o+j-xs.length=j by omega,List.getElem?_append_left hj]
theorem weighDo_spec(d:DoN)(hs:d.p.Short)(n:Int)(h0:0≤n)(h1:n≤10000000)(I:Imm)(F:Heap)(hd:d.Ok I F):Tri P 63 #[d.v,.int .i64 n] I F fun e I' G=>∃r:Int,e=.returned (.int .i64 r)∧G=F ∧
  0≤r∧r≤1000000000000000∧(r≤1048576→n+d.mass≤r+1):=by
 refine ref00_weighDo.vc ?_
 unfold ref00_weighDo.V
 intro b_d
 have hnm:=hs.1
 have hsh:=hs.2
 simp only[DoP.nds,List.mem_cons,List.not_mem_nil,or_false] at hsh
 have s1:d.side.px.ShortP:=hsh _ (.inl rfl)
 have s2:d.qty.px.ShortP:=hsh _ (.inr (.inl rfl))
 have s3:d.price.px.ShortP:=hsh _ (.inr (.inr (.inl rfl)))
 have s4:d.value.px.ShortP:=hsh _ (.inr (.inr (.inr rfl)))
 have hnm':d.name.size≤140737488351232:=hnm
 rw[w64 (n:=n+_) (by omega)]
 have ok:∀{J:Imm},Imm.le I J→d.Ok J ((b_d,Obj.cells #[.int .u8 d.kind,.int .u8 d.order,.string d.name,.int .u8 d.side.kind,.int .u8 d.side.oper,.int .u8 d.side.typ,.int .i64 d.side.n,.int .u8 d.side.field,.string d.side.name,.slice d.side.a d.side.kids.length d.side.c,.int .i64 d.side.pos,.int .u8 d.qty.kind,.int .u8 d.qty.oper,.int .u8 d.qty.typ,.int .i64 d.qty.n,.int .u8 d.qty.field,.string d.qty.name,.slice d.qty.a d.qty.kids.length d.qty.c,.int .i64 d.qty.pos,.int .u8 d.price.kind,.int .u8 d.price.oper,.int .u8 d.price.typ,.int .i64 d.price.n,.int .u8 d.price.field,.string d.price.name,.slice d.price.a d.price.kids.length d.price.c,.int .i64 d.price.pos,.int .u8 d.value.kind,.int .u8 d.value.oper,.int .u8 d.value.typ,.int .i64 d.value.n,.int .u8 d.value.field,.string d.value.name,.slice d.value.a d.value.kids.length d.value.c,.int .i64 d.value.pos,.int .i64 d.pos] 99 (0,0))::F):=fun hl=>(hd.mono hl fun _ h=>h).cons
 have e1:=weigh_le s1 (n+d.name.size) 0
 have p1:=Px.weigh_pos d.side.px (n+d.name.size) 0 (by omega)
 have z1:=Px.weigh_size d.side.px (n+d.name.size) 0
 generalize hw1:d.side.px.weigh (n+d.name.size) 0=a1 at *
 have e2:=weigh_le s2 a1 0
 have p2:=Px.weigh_pos d.qty.px a1 0 p1
 have z2:=Px.weigh_size d.qty.px a1 0
 generalize hw2:d.qty.px.weigh a1 0=a2 at *
 have e3:=weigh_le s3 a2 0
 have p3:=Px.weigh_pos d.price.px a2 0 p2
 have z3:=Px.weigh_size d.price.px a2 0
 generalize hw3:d.price.px.weigh a2 0=a3 at *
 have e4:=weigh_le s4 a3 0
 have p4:=Px.weigh_pos d.value.px a3 0 p3
 have z4:=Px.weigh_size d.value.px a3 0
 generalize hw4:d.value.px.weigh a3 0=a4 at *
 refine Tri.ret (weigh_spec d.side s1 _ 0 I _ (ok (Imm.le_refl I)).1 (by omega) (by omega) (by decide) (by decide)) fun I1 l1=>⟨_,rfl,F,.refl _, ?_⟩
 rw[hw1]
 refine Tri.ret (weigh_spec d.qty s2 _ 0 I1 _ (ok l1).2.1 (by omega) (by omega) (by decide) (by decide)) fun I2 h2=>⟨_,rfl,F,.refl _, ?_⟩
 have l2:=Imm.le_trans l1 h2
 rw[hw2]
 refine Tri.ret (weigh_spec d.price s3 _ 0 I2 _ (ok l2).2.2.1 (by omega) (by omega) (by decide) (by decide)) fun I3 h3=>⟨_,rfl,F,.refl _, ?_⟩
 have l3:=Imm.le_trans l2 h3
 rw[hw3]
 refine Tri.ret (weigh_spec d.value s4 _ 0 I3 _ (ok l3).2.2.2 (by omega) (by omega) (by decide) (by decide)) fun I4 h4=>⟨_,rfl,F,.refl _, ?_⟩
 rw[hw4]
 refine⟨_,rfl,rfl,p4,by omega,fun hle=>?_⟩
 have q1:=Px.size_pos d.side.px
 have q2:=Px.size_pos d.qty.px
 have q3:=Px.size_pos d.price.px
 have q4:=Px.size_pos d.value.px
 have y4:=z4 (by omega)
 have y3:=z3 (by omega)
 have y2:=z2 (by omega)
 have y1:=z1 (by omega)
 show n+(1+d.side.px.size+d.qty.px.size+d.price.px.size+d.value.px.size)≤a4+1
 omega
end Go.Lx
namespace Go.Lx
open Go.Vc
set_option maxHeartbeats 2000000 in
theorem weighStg_spec(s:StgN)(hs:s.p.Short)(I:Imm)(F:Heap)(hok:s.Ok I F):Tri P 37 #[s.v] I F fun e I' G=>∃r:Int,e=.returned (.int .i64 r)∧G=F∧0≤r∧r≤2000000000000000∧(r≤1048576→s.p.Light):=by
 have lr:=hs.regs
 have ls:=hs.slots
 have lt:=hs.states
 have ln:=hs.name
 simp only[StgN.p,List.length_map] at lr ls lt ln
 have hnm:∀r∈s.regs,r.p.Short:=fun r hr=>hs.reg _ (List.mem_map_of_mem hr)
 have hst:∀x∈s.states,x.p.Short:=fun x hx=>hs.state _ (List.mem_map_of_mem hx)
 have hru:∀x∈s.states,∀r∈x.rules,r.p.Short:=fun x hx r hr=>(hst x hx).2.2 _ (List.mem_map_of_mem hr)
 have hdo:∀x∈s.states,∀r∈x.rules,∀d∈r.dos,d.p.Short:=fun x hx r hr d hd=>(hru x hx r hr).2.2 _ (List.mem_map_of_mem hd)
 have hrl:∀x∈s.states,x.rules.length≤140737488351232:=fun x hx=>by have:=(hst x hx).2.1;simpa only[StateN.p,List.length_map] using this
 have hdl:∀x∈s.states,∀r∈x.rules,r.dos.length≤140737488351232:=fun x hx r hr=>by have:=(hru x hx r hr).2.1;simpa only[RuleN.p,List.length_map] using this
 refine ref00_WeighStrategy.vc
  (fun n I0 F0 I' F'=>F'=F∧0≤n∧n≤2000000000000000∧(n≤1048576→sumI RegN.mass s.regs≤n))
  (fun n i m I0 F0 I' F'=>F'=F∧0≤i∧i≤s.regs.length∧m=(s.regs.length-i).toNat∧0≤n∧n≤2000000000000000∧(n≤1048576→sumI RegN.mass (s.regs.take i.toNat)≤n))
  (fun n I0 F0 I' F'=>F'=F∧0≤n∧n≤2000000000000000∧(n≤1048576→sumI RegN.mass s.regs+s.slots.length≤n))
  (fun n i m I0 F0 I' F'=>F'=F∧0≤i∧i≤s.slots.length∧m=(s.slots.length-i).toNat∧0≤n∧n≤2000000000000000∧(n≤1048576→sumI RegN.mass s.regs+i≤n))
  (fun n I0 F0 I' F'=>F'=F∧0≤n∧n≤2000000000000000∧(n≤1048576→s.p.Light))
  (fun n i m I0 F0 I' F'=>F'=F∧0≤i∧i≤s.states.length∧m=(s.states.length-i).toNat∧0≤n∧n≤2000000000000000∧(n≤1048576→sumI RegN.mass s.regs+s.slots.length+sumI StateN.mass (s.states.take i.toNat)≤n))
  (fun i n k m I0 F0 I' F'=>F'=F∧∃x,s.states[i.toNat]? = some x∧0≤k∧k≤x.rules.length∧m=(x.rules.length-k).toNat∧0≤n∧n≤2000000000000000 ∧
    (n≤1048576→sumI RegN.mass s.regs+s.slots.length+sumI StateN.mass (s.states.take i.toNat)+1+sumI RuleN.mass (x.rules.take k.toNat)≤n))
  (fun i k n j m I0 F0 I' F'=>F'=F∧∃x r,s.states[i.toNat]? = some x∧x.rules[k.toNat]? = some r∧0≤j∧j≤r.dos.length∧m=(r.dos.length-j).toNat∧0≤n∧n≤2000000000000000 ∧
    (n≤1048576→sumI RegN.mass s.regs+s.slots.length+sumI StateN.mass (s.states.take i.toNat)+1+sumI RuleN.mass (x.rules.take k.toNat)+1+r.when.px.size+sumI DoN.mass (r.dos.take j.toNat)≤n)) ?_
 unfold ref00_WeighStrategy.V
 intro b_s
 have ok:∀{J:Imm},Imm.le I J→s.Ok J ((b_s,Obj.cells #[.string s.name,.slice s.ra s.regs.length s.rc,.slice s.sa s.slots.length s.sc,.slice s.ta s.states.length s.tc] 39 (0,0))::F):=fun hl=>(hok.mono hl fun _ h=>h).cons
 refine⟨⟨⟨_,rfl,by omega,by omega,rfl,by omega,by omega,fun _=>by simp only[Int.toNat_zero,List.take_zero,sumI];omega⟩,fun n i m I1 F1 l1 ⟨gF,g0,g1,gm,gn,gb,gl⟩=>?_⟩,fun n1 I3 F2 l3 ⟨gF,gn,gb,gl⟩=>?_⟩
 ·subst gF
  refine⟨fun hlt=>⟨fun hle=>?_,fun hle=>⟨rfl,gn,gb,fun h=>absurd h (of_decide_eq_false hle)⟩⟩,fun hlt=>⟨rfl,gn,gb,fun h=>?_⟩⟩
  ·have hlt:=of_decide_eq_true hlt
   have hle:=of_decide_eq_true hle
   obtain⟨ad,r,had,hr,hrd,hrm⟩:=SlG.atm (ok l1).regs g0 hlt
   have hsh:=hnm r hrm
   have hna:r.name.size≤140737488351232:=hsh.1
   have hin:r.init.px.ShortP:=hsh.2
   rw[w64 (n:=n+1) (by omega)]
   have e2:IntKind.wrap .i64 (n+1+(r.name.size:Int))=n+1+r.name.size:=w64 (by omega)
   have u1:=weigh_le hin (n+1+r.name.size) 0
   have u2:=Px.weigh_pos r.init.px (n+1+r.name.size) 0 (by omega)
   have u3:=Px.weigh_size r.init.px (n+1+r.name.size) 0
   have u4:=Px.size_pos r.init.px
   refine⟨⟨g0,hlt⟩,ad,had,_,_,_,_,_,_,_,_,_,_,Rd.part hrd (xs:=[.string r.name,.int .u8 r.typ]) (ds:=r.init.enc) (ys:=[.int .i64 r.pos]) rfl rfl,⟨g0,hlt⟩,ad,had,r.name,hrd.field (o:=0) rfl,r.init.px.weigh (n+1+r.name.size) 0, ?_,(s.regs.length-(i+1)).toNat,by omega,rfl, ?_⟩
   ·rw[e2]
    exact Tri.ret (weigh_spec r.init hin _ 0 I1 _ ((ok l1).reg r hrm) (by omega) (by omega) (by decide) (by decide)) fun _ _=>⟨rfl,.refl _⟩
   rw[w64 (n:=i+1) (by omega)]
   refine⟨by omega,by omega,rfl,u2,by omega,fun h=>?_⟩
   have u5:=u3 h
   have v1:=gl hle
   have hma:r.mass=1+r.init.px.size:=rfl
   rw[show (i+1).toNat=i.toNat+1 by omega,sumI_take _ hr]
   omega
  ·have hlt:=of_decide_eq_false hlt
   have v1:=gl h
   rw[sumI_full _ (by omega)] at v1
   exact v1
 ·subst gF
  refine⟨⟨⟨_,rfl,by omega,by omega,rfl,gn,gb,fun h=>by have:=gl h;omega⟩,fun n i m I4 F3 l4 ⟨gF,g0,g1,gm,gn,gb,gl⟩=>?_⟩,fun n3 I5 F4 l5 ⟨gF,gn,gb,gl⟩=>?_⟩
  ·subst gF
   have l4:=Imm.le_trans l3 l4
   refine⟨fun hlt=>⟨fun hle=>?_,fun hle=>⟨rfl,gn,gb,fun h=>absurd h (of_decide_eq_false hle)⟩⟩,fun hlt=>⟨rfl,gn,gb,fun h=>?_⟩⟩
   ·have hlt:=of_decide_eq_true hlt
    have hle:=of_decide_eq_true hle
    obtain⟨ad,r,had,hr,hrd,hrm⟩:=SlG.atm (ok l4).slots g0 hlt
    have hna:r.name.size≤140737488351232:=hs.slot r hrm
    rw[w64 (n:=n+1) (by omega)]
    refine⟨⟨g0,hlt⟩,ad,had,r.name,hrd.field (o:=0) rfl,(s.slots.length-(i+1)).toNat,by omega,rfl, ?_⟩
    rw[w64 (n:=i+1) (by omega),w64 (n:=n+1+(r.name.size:Int)) (by omega)]
    refine⟨by omega,by omega,rfl,by omega,by omega,fun h=>?_⟩
    have v1:=gl hle
    omega
   ·have hlt:=of_decide_eq_false hlt
    have v1:=gl h
    omega
  ·subst gF
   have l5:=Imm.le_trans l3 l5
   refine⟨⟨⟨_,rfl,by omega,by omega,rfl,gn,gb,fun h=>by have:=gl h;simp only[Int.toNat_zero,List.take_zero,sumI];omega⟩,fun n i m I6 F5 l6 ⟨gF,g0,g1,gm,gn,gb,gl⟩=>?_⟩,fun n7 I7 F6 l7 ⟨gF,gn,gb,gl⟩=>?_⟩
   ·subst gF
    have l6:=Imm.le_trans l5 l6
    refine⟨fun hlt=>⟨fun hle=>?_,fun hle=>⟨rfl,gn,gb,fun h=>absurd h (of_decide_eq_false hle)⟩⟩,fun hlt=>⟨rfl,gn,gb,fun h=>?_⟩⟩
    ·have hlt:=of_decide_eq_true hlt
     have hle:=of_decide_eq_true hle
     obtain⟨ad,x,had,hx,hrd,hxm⟩:=SlG.atm (ok l6).states g0 hlt
     have hna:x.name.size≤140737488351232:=(hst x hxm).1
     have hxl:=hrl x hxm
     rw[w64 (n:=n+1) (by omega)]
     have e2:IntKind.wrap .i64 (n+1+(x.name.size:Int))=n+1+x.name.size:=w64 (by omega)
     refine⟨⟨g0,hlt⟩,ad,had,x.name,hrd.field (o:=0) rfl,⟨g0,hlt⟩,ad,had,_,_,_,hrd.field (o:=1) rfl,⟨_,rfl,x,hx,by omega,by omega,rfl,by rw[e2];omega,by rw[e2];omega,fun h=>?_⟩,fun n5 k m12 I7 F6 l7 ⟨gF,x',hx',k0,k1,km,kn,kb,kl⟩=>?_⟩
     ·rw[e2] at h ⊢
      have v1:=gl hle
      simp only[Int.toNat_zero,List.take_zero,sumI];omega
     ·subst gF
      obtain rfl:x=x':=by rw[hx] at hx';exact Option.some.inj hx'
      have l7:=Imm.le_trans l6 l7
      refine⟨fun hlt2=>⟨fun hle2=>?_,fun hle2=>⟨(s.states.length-(i+1)).toNat,by omega,rfl, ?_⟩⟩,fun hlt2=>⟨(s.states.length-(i+1)).toNat,by omega,rfl, ?_⟩⟩
      ·have hlt2:=of_decide_eq_true hlt2
       have hle2:=of_decide_eq_true hle2
       have okx:=(ok l7).state x hxm
       obtain⟨ad5,r,had5,hr,hrd5,hrm⟩:=SlG.atm okx.1 k0 hlt2
       have okr:=okx.2 r hrm
       have hwh:r.when.px.ShortP:=(hru x hxm r hrm).1
       rw[w64 (n:=n5+1) (by omega)]
       have u1:=weigh_le hwh (n5+1) 0
       have u2:=Px.weigh_pos r.when.px (n5+1) 0 (by omega)
       have u3:=Px.weigh_size r.when.px (n5+1) 0
       have u4:=Px.size_pos r.when.px
       have hrl2:=hdl x hxm r hrm
       refine⟨⟨k0,hlt2⟩,ad5,had5,_,_,_,_,_,_,_,_,_,_,Rd.part hrd5 (xs:=[]) (ds:=r.when.enc) (ys:=[.slice r.a r.dos.length r.c,.int .i64 r.pos]) rfl rfl,
        Tri.ret (weigh_spec r.when hwh _ 0 I7 _ okr.1 (by omega) (by omega) (by decide) (by decide)) fun I8 l8=>⟨_,rfl,F6,.refl _,⟨_,rfl,x,r,hx,hr,by omega,by omega,rfl,u2,by omega,fun h=>?_⟩,fun n6 j m14 I9 F8 l9 ⟨gF,x',r',hx',hr',j0,j1,jm,jn,jb,jl⟩=>?_⟩⟩
       ·have u5:=u3 h
        have v1:=kl hle2
        simp only[Int.toNat_zero,List.take_zero,sumI];omega
       ·subst gF
        obtain rfl:x=x':=by rw[hx] at hx';exact Option.some.inj hx'
        obtain rfl:r=r':=by rw[hr] at hr';exact Option.some.inj hr'
        have l9:=Imm.le_trans (Imm.le_trans l7 l8) l9
        have okr9:=((ok l9).state x hxm).2 r hrm
        have hrd9:∀{J},Imm.le I7 J→Rd J ((b_s,Obj.cells #[.string s.name,.slice s.ra s.regs.length s.rc,.slice s.sa s.slots.length s.sc,.slice s.ta s.states.length s.tc] 39 (0,0))::F8) ((ad5.add (Int.toNat k*10)).add 8) [.slice r.a r.dos.length r.c]:=fun hl=>(hrd5.mono hl).field (o:=8) rfl
        have l79:Imm.le I7 I9:=Imm.le_trans l8 ‹Imm.le I8 I9›
        refine⟨⟨k0,hlt2⟩,ad5,had5,_,_,_,hrd9 l79,fun hlt3=>⟨fun hle3=>?_,fun hle3=>⟨(x.rules.length-(k+1)).toNat,by omega,rfl,x,hx, ?_⟩⟩,fun hlt3=>⟨(x.rules.length-(k+1)).toNat,by omega,rfl,x,hx, ?_⟩⟩
        ·have hlt3:=of_decide_eq_true hlt3
         have hle3:=of_decide_eq_true hle3
         obtain⟨ad8,d,had8,hd,hrd8,hdm⟩:=SlG.atm okr9.2.1 j0 hlt3
         rw[w64 (n:=n6+1) (by omega)]
         refine⟨⟨k0,hlt2⟩,ad5,had5,_,_,_,hrd9 l79,⟨j0,hlt3⟩,ad8,had8,_,_,_,_,_,_,_,_,_,_,_,_,_,_,_,_,_,_,_,_,_,_,_,_,_,_,_,_,_,_,_,_,_,_,_,_,_,_,_,_,_,_,_,_,hrd8,(weighDo_spec d (hdo x hxm r hrm d hdm) (n6+1) (by omega) (by omega) I9 _ (okr9.2.2 d hdm)).mono fun e I10 G l10 ⟨w,he,hG,w0,w1,wl⟩=>?_⟩
         subst hG
         refine⟨w,he,F8,.refl _,(r.dos.length-(j+1)).toNat,by omega,rfl,x,r,hx,hr, ?_⟩
         rw[w64 (n:=j+1) (by omega)]
         refine⟨by omega,by omega,rfl,w0,by omega,fun h=>?_⟩
         have wa:=wl h
         have v1:=jl hle3
         have hdp:=DoP.mass_pos d.p
         rw[show (j+1).toNat=j.toNat+1 by omega,sumI_take _ hd]
         omega
        ·have hle3:=of_decide_eq_false hle3
         rw[w64 (n:=k+1) (by omega)]
         exact⟨by omega,by omega,rfl,jn,jb,fun h=>absurd h hle3⟩
        ·have hlt3:=of_decide_eq_false hlt3
         rw[w64 (n:=k+1) (by omega)]
         refine⟨by omega,by omega,rfl,jn,jb,fun h=>?_⟩
         have v1:=jl h
         rw[sumI_full DoN.mass (by omega)] at v1
         rw[show (k+1).toNat=k.toNat+1 by omega,sumI_take _ hr,RuleN.mass_eq]
         omega
      ·have hle2:=of_decide_eq_false hle2
       rw[w64 (n:=i+1) (by omega)]
       exact⟨by omega,by omega,rfl,kn,kb,fun h=>absurd h hle2⟩
      ·have hlt2:=of_decide_eq_false hlt2
       rw[w64 (n:=i+1) (by omega)]
       refine⟨by omega,by omega,rfl,kn,kb,fun h=>?_⟩
       have v1:=kl h
       rw[sumI_full RuleN.mass (by omega)] at v1
       rw[show (i+1).toNat=i.toNat+1 by omega,sumI_take _ hx,StateN.mass_eq]
       omega
    ·have hlt:=of_decide_eq_false hlt
     have v1:=gl h
     rw[sumI_full StateN.mass (by omega)] at v1
     refine StgP.light ?_
     rw[StgN.mass_eq];omega
   ·subst gF
    exact⟨n7,rfl,rfl,gn,gb,gl⟩
end Go.Lx
namespace Go.Vc
def eachB{α β:Type}(f:α→β→Bool):List α→List β→Bool
 | x::l,y::m=>f x y&&eachB f l m
 | _,_=>true
end Go.Vc
namespace Go.Lx
open Go.Vc
namespace Px
mutual
def same:Px→Px→Bool
 | .mk k o t n f s l q,y=>q==y.pos&&(aloneEq (.mk k o t n f s l q) y&&(decide (l.length=y.kids.length)&&sameL l y.kids))
def sameL:List Px→List Px→Bool
 | [],_=>true
 | _::_,[]=>false
 | x::r,y::r'=>same x y&&sameL r r'
end
end Px
def DoP.same(d e:DoP):Bool:=d.kind==e.kind&&(d.order==e.order&&(d.name.toList==e.name.toList&&(d.pos==e.pos&&(d.side.same e.side&&(d.qty.same e.qty&&(d.price.same e.price&&d.value.same e.value))))))
def RuleP.same(r q:RuleP):Bool:=r.when.same q.when&&(r.pos==q.pos&&(decide (r.dos.length=q.dos.length)&&eachB DoP.same r.dos q.dos))
def StateP.same(x y:StateP):Bool:=x.name.toList==y.name.toList&&(x.pos==y.pos&&(decide (x.rules.length=y.rules.length)&&eachB RuleP.same x.rules y.rules))
def RegP.same(r q:RegP):Bool:=r.init.same q.init&&(r.name.toList==q.name.toList&&(r.typ==q.typ&&r.pos==q.pos))
def SlotP.same(r q:SlotP):Bool:=r.name.toList==q.name.toList&&(r.pos==q.pos&&true)
def StgP.same(s u:StgP):Bool:=s.name.toList==u.name.toList&&(decide (s.regs.length=u.regs.length)&&(decide (s.slots.length=u.slots.length)&&(decide (s.states.length=u.states.length) &&
 (eachB RegP.same s.regs u.regs&&(eachB SlotP.same s.slots u.slots&&eachB StateP.same s.states u.states)))))
end Go.Lx
namespace Go.Lx
open Go.Vc
theorem not_f{b:Bool}(h:(!b)=true):b=false:=by simpa using h
theorem not_t{b:Bool}(h:(!b)=false):b=true:=by simpa using h
end Go.Lx
namespace Go.Lx
open Go.Vc
end Go.Lx
namespace Go.Lx
open Go.Vc
def TailS(z n:Nat)(a:Option Addr)(c:Nat)(A:Heap):Prop :=
 ∃b cells e,a=some ⟨b,0,none⟩∧A=[(b,Obj.cells cells e (0,0))]∧c=n+2∧cells[n*z+(z-1)]? = some (.int .i64 (-771))
def OwnL{α:Type}(R:Bool)(z:Nat)(f:α→List Value)(E:Nat)(O:α→Heap→Prop)(a:Option Addr)(n c:Nat)(l:List α)(H:Heap):Prop :=
 ∃A hs,H=A++flatH n hs∧Acc z f E a n c l A∧(R=true→TailS z n a c A)∧∀(i:Nat) (k:α),l[i]? = some k→O k (hs i)
def DoOwn(R:Bool)(d:DoN)(H:Heap):Prop:=∃H1 H2 H3 H4,H=H1++(H2++(H3++H4))∧OwnT 28 R d.side H1∧OwnT 28 R d.qty H2∧OwnT 28 R d.price H3∧OwnT 28 R d.value H4
def RegOwn(R:Bool)(r:RegN)(H:Heap):Prop:=OwnT 28 R r.init H
def SlotOwn(r:SlotP)(H:Heap):Prop:=H=[]
def RuleOwn(R:Bool)(r:RuleN)(H:Heap):Prop:=∃H1 H2,H=H1++H2∧OwnT 28 R r.when H1∧OwnL R 36 DoN.enc 99 (DoOwn R) r.a r.dos.length r.c r.dos H2
def StateOwn(R:Bool)(x:StateN)(H:Heap):Prop:=OwnL R 10 RuleN.enc 84 (RuleOwn R) x.a x.rules.length x.c x.rules H
def StgOwn(R:Bool)(s:StgN)(H:Heap):Prop:=∃H1 H2 H3,H=H1++(H2++H3)∧OwnL R 11 RegN.enc 77 (RegOwn R) s.ra s.regs.length s.rc s.regs H1∧OwnL R 2 SlotP.enc 79 SlotOwn s.sa s.slots.length s.sc s.slots H2 ∧
 OwnL R 3 StateN.enc 65 (StateOwn R) s.ta s.states.length s.tc s.states H3
theorem OwnL.ok{α:Type}{R:Bool}{z E n c:Nat}{f:α→List Value}{O:α→Heap→Prop}{a:Option Addr}{l:List α}{H:Heap}(h:OwnL R z f E O a n c l H)(hz:∀x,(f x).length=z){I:Imm}{G:Heap}{K:α→Prop}(hG:∀x,x∈H→x∈G)
  (hk:∀x H',O x H'→(∀y,y∈H'→y∈G)→K x):SlG I G z f a n l∧∀x∈l,K x:=by
 obtain⟨A,hs,rfl,hA, -,hO⟩:=h
 refine⟨hA.slg hz I fun x hx=>hG x (List.mem_append_left _ hx),fun x hx=>?_⟩
 obtain⟨i,hi,rfl⟩:=List.mem_iff_getElem.1 hx
 have hn:=hA.1
 exact hk _ _ (hO i _ (List.getElem?_eq_getElem hi)) fun y hy=>hG y (List.mem_append_right _ (flatH_mem (by omega) hy))
theorem DoOwn.ok{R:Bool}{d:DoN}{H:Heap}(h:DoOwn R d H){I:Imm}{G:Heap}(hG:∀x,x∈H→x∈G):d.Ok I G:=by
 obtain⟨H1,H2,H3,H4,rfl,h1,h2,h3,h4⟩:=h
 simp only[List.mem_append] at hG
 exact⟨h1.ok fun x hx=>hG x (.inl hx),h2.ok fun x hx=>hG x (.inr (.inl hx)),h3.ok fun x hx=>hG x (.inr (.inr (.inl hx))),h4.ok fun x hx=>hG x (.inr (.inr (.inr hx)))⟩
theorem RegOwn.ok{R:Bool}{d:RegN}{H:Heap}(h:RegOwn R d H){I:Imm}{G:Heap}(hG:∀x,x∈H→x∈G):d.Ok I G:=OwnT.ok h hG
theorem RuleOwn.ok{R:Bool}{r:RuleN}{H:Heap}(h:RuleOwn R r H){I:Imm}{G:Heap}(hG:∀x,x∈H→x∈G):r.Ok I G:=by
 obtain⟨H1,H2,rfl,h1,h2⟩:=h
 obtain⟨g1,g2⟩:=h2.ok (I:=I) (G:=G) (K:=fun d=>d.Ok I G) (fun _=>rfl) (fun x hx=>hG x (List.mem_append_right _ hx)) fun x H' hO hs=>DoOwn.ok hO hs
 exact⟨h1.ok fun x hx=>hG x (List.mem_append_left _ hx),g1,g2⟩
theorem StateOwn.ok{R:Bool}{r:StateN}{H:Heap}(h:StateOwn R r H){I:Imm}{G:Heap}(hG:∀x,x∈H→x∈G):r.Ok I G :=
 OwnL.ok h (fun _=>rfl) hG fun x H' hO hs=>RuleOwn.ok hO hs
theorem StgOwn.ok{R:Bool}{s:StgN}{H:Heap}(h:StgOwn R s H){I:Imm}{G:Heap}(hG:∀x,x∈H→x∈G):s.Ok I G:=by
 obtain⟨H1,H2,H3,rfl,h1,h2,h3⟩:=h
 simp only[List.mem_append] at hG
 obtain⟨a1,a2⟩:=h1.ok (I:=I) (G:=G) (K:=fun d=>d.Ok I G) (fun _=>rfl) (fun x hx=>hG x (.inl hx)) fun x H' hO hs=>RegOwn.ok hO hs
 obtain⟨b1, -⟩:=h2.ok (I:=I) (G:=G) (K:=fun d=>True) (fun _=>rfl) (fun x hx=>hG x (.inr (.inl hx))) fun x H' hO hs=>trivial
 obtain⟨c1,c2⟩:=h3.ok (I:=I) (G:=G) (K:=fun d=>d.Ok I G) (fun _=>rfl) (fun x hx=>hG x (.inr (.inr hx))) fun x H' hO hs=>StateOwn.ok hO hs
 exact⟨a1,a2,b1,c1,c2⟩
def Part{α:Type}(z:Nat)(f:α→List Value)(E:Nat)(O:α→Heap→Prop)(a:Option Addr)(n c:Nat)(l:List α)(F F':Heap):Prop :=
 ∃A hs,Acc z f E a n c l A∧(∀(i:Nat) (k:α),l[i]? = some k→O k (hs i))∧F'.Perm (A++(flatH l.length hs++F))
theorem Part.nil{α:Type}{z E:Nat}{f:α→List Value}{O:α→Heap→Prop}{F:Heap}:Part z f E O none 0 0 ([]:List α) F F:=⟨[],fun _=>[],Acc.nil,fun i k h=>by simp at h,.refl _⟩
theorem Part.own{α:Type}{z E n c:Nat}{f:α→List Value}{O:α→Heap→Prop}{a:Option Addr}{l:List α}{F F':Heap}(h:Part z f E O a n c l F F'):∃H,OwnL false z f E O a n c l H∧F'.Perm (H++F):=by
 obtain⟨A,hs,hA,hk,hp⟩:=h
 exact⟨A++flatH n hs,⟨A,hs,rfl,hA,fun h=>(by cases h),hk⟩,by rw[hA.1,List.append_assoc];exact hp⟩
def DoP.bare(d:DoP):DoP:=⟨d.kind,d.order,d.name,d.side.bare,d.qty.bare,d.price.bare,d.value.bare,0⟩
def RuleP.bare(r:RuleP):RuleP:=⟨r.when.bare,r.dos.map DoP.bare,0⟩
def StateP.bare(x:StateP):StateP:=⟨x.name,x.rules.map RuleP.bare,0⟩
def RegP.bare(r:RegP):RegP:=⟨r.name,r.typ,r.init.bare,0⟩
def SlotP.bare(r:SlotP):SlotP:=⟨r.name,0⟩
def StgP.bare(s:StgP):StgP:=⟨s.name,s.regs.map RegP.bare,s.slots.map SlotP.bare,s.states.map StateP.bare⟩
end Go.Lx
namespace Go.Lx
open Go.Vc
theorem Part.len{α:Type}{z E n c:Nat}{f:α→List Value}{O:α→Heap→Prop}{a:Option Addr}{l:List α}{F F':Heap}(h:Part z f E O a n c l F F'):n=l.length:=by
 obtain⟨A,hs,hA,hk,hp⟩:=h;exact hA.1
end Go.Lx
namespace Go.Lx
open Go.Vc
theorem Rd.pre{I:Imm}{G:Heap}{ad:Addr}{cs ds:List Value}(h:Rd I G ad (cs++ds)):Rd I G ad cs:=by
 obtain⟨h1,cells,e,fz,h2,h3⟩:=h
 exact⟨h1,cells,e,fz,h2,fun j hj=>by rw[h3 j (by rw[List.length_append];omega),List.getElem?_append_left hj]⟩
end Go.Lx
namespace Go.Lx
open Go.Vc
theorem Px.ShortP.bare:∀{x:Px},x.ShortP→x.bare.ShortP:=by
 refine @(Px.ind fun x ih h=>?_)
 rw[Px.bare_eq]
 refine .mk h.name (by show (x.kids.map Px.bare).length≤_;rw[List.length_map];exact h.len) fun k hk=>?_
 have hk:k∈x.kids.map Px.bare:=hk
 obtain⟨y,hy,rfl⟩:=List.mem_map.1 hk
 exact ih y hy (h.kid y hy)
theorem Bd.app{z:Nat}{ls ms:List (List (Ck z))}(h:Bd ls)(h':Bd ms):Bd (ls++ms):=by
 intro j y hy
 rw[List.getElem?_append] at hy
 split at hy
 ·exact h j y hy
 ·exact h' _ y hy
end Go.Lx
namespace Go.Lx
open Go.Vc
theorem DoP.Short.bare{d:DoP}(h:d.Short):d.bare.Short:=by
 refine⟨h.1,fun x hx=>?_⟩
 have hs:=h.2
 simp only[DoP.nds,DoP.bare,List.mem_cons,List.not_mem_nil,or_false] at hx hs
 rcases hx with rfl | rfl | rfl | rfl
 ·exact (hs _ (.inl rfl)).bare
 ·exact (hs _ (.inr (.inl rfl))).bare
 ·exact (hs _ (.inr (.inr (.inl rfl)))).bare
 ·exact (hs _ (.inr (.inr (.inr rfl)))).bare
theorem RuleP.Short.bare{r:RuleP}(h:r.Short):r.bare.Short:=by
 refine⟨h.1.bare,by simp only[RuleP.bare,List.length_map];exact h.2.1,fun d hd=>?_⟩
 obtain⟨d',hd',rfl⟩:=List.mem_map.1 hd
 exact (h.2.2 d' hd').bare
theorem StateP.Short.bare{r:StateP}(h:r.Short):r.bare.Short:=by
 refine⟨h.1,by simp only[StateP.bare,List.length_map];exact h.2.1,fun d hd=>?_⟩
 obtain⟨d',hd',rfl⟩:=List.mem_map.1 hd
 exact (h.2.2 d' hd').bare
theorem StgP.Short.bare{s:StgP}(h:s.Short):s.bare.Short:=by
 refine⟨h.name, ?_,fun d hd=>?_, ?_,fun d hd=>?_, ?_,fun d hd=>?_⟩
 ·simp only[StgP.bare,List.length_map];exact h.regs
 ·obtain⟨d',hd',rfl⟩:=List.mem_map.1 hd
  exact⟨(h.reg d' hd').1,(h.reg d' hd').2.bare⟩
 ·simp only[StgP.bare,List.length_map];exact h.slots
 ·obtain⟨d',hd',rfl⟩:=List.mem_map.1 hd
  exact h.slot d' hd'
 ·simp only[StgP.bare,List.length_map];exact h.states
 ·obtain⟨d',hd',rfl⟩:=List.mem_map.1 hd
  exact (h.state d' hd').bare
end Go.Lx
namespace Go.Lx
open Go.Vc
end Go.Lx
namespace Go.Lx
open Go.Vc
end Go.Lx
namespace Go.Lx
open Go.Vc
end Go.Lx
namespace Go.Lx
open Go.Vc
end Go.Lx
namespace Go.Lx
open Go.Vc
end Go.Lx
namespace Go.Lx
open Go.Vc
def Fill{α:Type}(z:Nat)(f:α→List Value)(E:Nat)(O:α→Heap→Prop)(a:Option Addr)(n c len:Nat)(l:List α)(F F':Heap):Prop :=
 ∃(b:Nat) (cs:List Value) (hs:Nat→Heap),a=some ⟨b,0,none⟩∧n=len+2∧c=len+2∧cs.length=(len+2)*z∧cs.take (l.length*z)=l.flatMap f∧(∀(i:Nat) (k:α),l[i]? = some k→O k (hs i)) ∧
  F'.Perm ((b,Obj.cells cs.toArray E (0,0))::(flatH l.length hs++F))
theorem Fill.perm{α:Type}{z E n c len:Nat}{f:α→List Value}{O:α→Heap→Prop}{a:Option Addr}{l:List α}{F F' F'':Heap}(h:Fill z f E O a n c len l F F')(p:F''.Perm F'):Fill z f E O a n c len l F F'':=by
 obtain⟨b,cs,hs,h1,h2,h3,h4,h5,h6,hp⟩:=h
 exact⟨b,cs,hs,h1,h2,h3,h4,h5,h6,p.trans hp⟩
theorem Fill.done{α:Type}{z E n c len:Nat}{f:α→List Value}(hz:∀x,(f x).length=z)(hz1:1≤z){O:α→Heap→Prop}{a:Option Addr}{l:List α}{F F':Heap}(h:Fill z f E O a n c len l F F')(hl:l.length=len) :
  ∃(b:Nat) (cs:List Value) (F9:Heap),a=some ⟨b,0,none⟩∧n=len+2∧c=len+2∧F'.Perm ((b,Obj.cells cs.toArray E (0,0))::F9)∧len*z+(z-1)+1≤cs.length∧(∀x,x∈F→x∈F9) ∧
   ∀F10:Heap,F10.Perm ((b,Obj.cells (splice (len*z+(z-1)) [.int .i64 (-771)] cs).toArray E (0,0))::F9)→∃H,OwnL true z f E O a l.length (len+2) l H∧F10.Perm (H++F):=by
 obtain⟨b,cs,hs,h1,h2,h3,h4,h5,h6,hp⟩:=h
 subst hl
 have hle2:l.length*z+(z-1)+1≤cs.length:=by rw[h4,Nat.add_mul];omega
 refine⟨b,cs,flatH l.length hs++F,h1,h2,h3,hp,hle2,fun x hx=>List.mem_append_right _ hx,fun F10 hF=>?_⟩
 have hs1:=splice_one (l.length*z+(z-1)) (.int .i64 (-771)) cs (by omega)
 rw[hs1] at hF
 refine⟨(b,Obj.cells (cs.set (l.length*z+(z-1)) (.int .i64 (-771))).toArray E (0,0))::flatH l.length hs,⟨[(b,Obj.cells (cs.set (l.length*z+(z-1)) (.int .i64 (-771))).toArray E (0,0))],hs,rfl,⟨rfl,.inr ⟨b,_,h1,rfl, ?_,by omega, ?_⟩⟩,fun _=>⟨b,_,E,h1,rfl,rfl, ?_⟩,h6⟩,hF⟩
 ·rw[List.size_toArray,List.length_set,h4]
 ·show (cs.set _ _).take (l.length*z)=_
  rw[List.take_set_of_le (by omega)];exact h5
 ·rw[List.getElem?_toArray,List.getElem?_set_self (by omega)]
theorem Fill.start{α:Type}{z E len b:Nat}{f:α→List Value}{O:α→Heap→Prop}{F:Heap}{cs:List Value}(h:cs.length=(len+2)*z):Fill z f E O (some ⟨b,0,none⟩) (len+2) (len+2) len ([]:List α) F ((b,Obj.cells cs.toArray E (0,0))::F) :=
 ⟨b,cs,fun _=>[],rfl,rfl,rfl,h,by simp,fun i k h=>by simp at h,.refl _⟩
theorem map_snoc0{α β:Type}{g:α→β}{l:List α}{i:Nat}{x:α}(hx:l[i]? = some x):(l.take (i+1)).map g=(l.take i).map g++[g x]:=by
 obtain⟨hk,rfl⟩:=List.getElem?_eq_some_iff.1 hx
 rw[List.take_succ_eq_append_getElem hk,List.map_append];rfl
end Go.Lx
namespace Go.Lx
open Go.Vc
end Go.Lx
namespace Go.Lx
open Go.Vc
theorem OwnL.tail{α:Type}{z E n c:Nat}{f:α→List Value}{O:α→Heap→Prop}{a:Option Addr}{l:List α}{H G:Heap}(h:OwnL true z f E O a n c l H)(hG:∀x,x∈H→x∈G) :
  ∃b,a=some ⟨b,0,none⟩∧c=n+2∧∀I,Rd I G (⟨b,n*z+(z-1),none⟩:Addr) [.int .i64 (-771)]:=by
 obtain⟨A,hs,rfl,hA,ht,hO⟩:=h
 obtain⟨b,cells,e,ha,hAe,hc,hm⟩:=ht rfl
 subst hAe
 refine⟨b,ha,hc,fun I=>Rd.of_own (hG _ (List.mem_append_left _ (List.mem_cons_self ..))) _ fun j hj=>?_⟩
 have:j=0:=by simpa using hj
 subst this
 rw[Nat.add_zero,hm];rfl
end Go.Lx
namespace Go.Lx
open Go.Vc Go.Proofs.Tryz
def shT_ta:List (Nat×List Sh):=[(4,[.one .bool]),(9,[.one .str]),(28,[.agg [(.int .u8),(.int .u8),(.int .u8),(.int .i64),(.int .u8),.str,.slc,(.int .i64)]]),(47,[.one (.int .i64)]),(65,[.agg [.str,.slc,(.int .i64)]]),(77,[.agg [.str,(.int .u8),(.int .u8),(.int .u8),(.int .u8),(.int .i64),(.int .u8),.str,.slc,(.int .i64),(.int .i64)]]),(84,[.agg [(.int .u8),(.int .u8),(.int .u8),(.int .i64),(.int .u8),.str,.slc,(.int .i64),.slc,(.int .i64)]]),(99,[.agg [(.int .u8),(.int .u8),.str,(.int .u8),(.int .u8),(.int .u8),(.int .i64),(.int .u8),.str,.slc,(.int .i64),(.int .u8),(.int .u8),(.int .u8),(.int .i64),(.int .u8),.str,.slc,(.int .i64),(.int .u8),(.int .u8),(.int .u8),(.int .i64),(.int .u8),.str,.slc,(.int .i64),(.int .u8),(.int .u8),(.int .u8),(.int .i64),(.int .u8),.str,.slc,(.int .i64),(.int .i64)]])]
def ref12_Check.V(b:Nat→Nat×Obj)(vb vi:Int→Value)(vs:Bs→Value)(vl:OA→Nat→Nat→Value)(ah:Bs)(q:OA)(d aj:Nat)(s:OA)(e ak:Nat)(t:OA)(a al:Nat)(I:Imm)(F:Heap)(Q:PostQ)(Inv24:Int→Bool→Int→Nat→Imm→Heap→Prop)(Inv55:Int→Bool→Int→Nat→Imm→Heap→Prop)(Inv94:Int→Int→Nat→Imm→Heap→Prop):Prop:=∀c:Nat,Tc1 P 61 #[vs ah] I ((b c)::·) F .bool fun r I1 F1=>(It (!r) (Q (.returned (vi 120)) I1 F1) (Dt ((d:Int)>12) (Q (.returned (vi 121)) I1 F1) ((∃m:Nat,Inv24 0 r 0 m I1 F1)∧∀(x:Int) (ok:Bool) (i:Int) (m1:Nat) (I2:Imm) (F2:Heap),Imm.le I1 I2→Inv24 x ok i m1 I2 F2→(Dt (i<(d:Int)) ((0≤i∧i<(d:Int))∧∃ad:Addr,q=some ad∧∃(u:Bs) (v w y z aa ab:Int) (ac:Bs) (f:OA) (g h:Nat) (ae n:Int),Rd I2 ((b c)::F2) (ad.add (Int.toNat i*11)) [vs u,vb v,vb w,vb y,vb z,vi aa,vb ab,vs ac,vl f g h,vi ae,vi n]∧Tc1 P 75 #[.agg #[vs u,vb v,vb w,vb y,vb z,vi aa,vb ab,vs ac,vl f g h,vi ae,vi n]] I2 ((b c)::·) F2 .bool fun r1 I3 F3=>(It (!r1) (Q (.returned (vi 120)) I3 F3) (∃m2:Nat,m2<m1∧Inv24 x r1 (IntKind.wrap .i64 (i+1)) m2 I3 F3))) (Dt ((e:Int)>4) (Q (.returned (vi 121)) I2 F2) ((∃m3:Nat,Inv55 x ok 0 m3 I2 F2)∧∀(x1:Int) (ai:Bool) (i1:Int) (m4:Nat) (I4:Imm) (F4:Heap),Imm.le I2 I4→Inv55 x1 ai i1 m4 I4 F4→(Dt (i1<(e:Int)) ((0≤i1∧i1<(e:Int))∧∃af:Addr,s=some af∧∃(m5:Bs),Rd I4 ((b c)::F4) ((af.add (Int.toNat i1*2)).add 0) [vs m5]∧Tc1 P 61 #[vs m5] I4 ((b c)::·) F4 .bool fun r2 I5 F5=>(It (!r2) (Q (.returned (vi 120)) I5 F5) (∃m6:Nat,m6<m4∧Inv55 x1 r2 (IntKind.wrap .i64 (i1+1)) m6 I5 F5))) (It ((a:Int)==0) (Q (.returned (vi 120)) I4 F4) (Dt ((a:Int)>12) (Q (.returned (vi 121)) I4 F4) ((∃m7:Nat,Inv94 x1 0 m7 I4 F4)∧∀(x2 i2:Int) (m8:Nat) (I6:Imm) (F6:Heap),Imm.le I4 I6→Inv94 x2 i2 m8 I6 F6→(Dt (i2<(a:Int)) ((0≤i2∧i2<(a:Int))∧∃ag:Addr,t=some ag∧∃(o:Bs) (j:OA) (k l:Nat) (p:Int),Rd I6 ((b c)::F6) (ag.add (Int.toNat i2*3)) [vs o,vl j k l,vi p]∧Tc1 P 76 #[.agg #[vs o,vl j k l,vi p]] I6 ((b c)::·) F6 vi fun r3 I7 F7=>(It (r3 != 0) (Q (.returned (vi r3)) I7 F7) (∃m9:Nat,m9<m8∧Inv94 x2 (IntKind.wrap .i64 (i2+1)) m9 I7 F7))) (Q (.returned (vi 0)) I6 F6))))))))))))
theorem ref12_Check.vc{l:Bs}{a:OA}{c d:Nat}{e:OA}{f g:Nat}{i:OA}{j k:Nat}{I:Imm}{F:Heap}{Q:PostQ}(Inv24:Int→Bool→Int→Nat→Imm→Heap→Prop)(Inv55:Int→Bool→Int→Nat→Imm→Heap→Prop)(Inv94:Int→Int→Nat→Imm→Heap→Prop)(h:ref12_Check.V (fun b=>(b,Obj.cells #[.string l,.slice a c d,.slice e f g,.slice i j k] 39 (0,0))) (.int .u8) (.int .i64) .string .slice l a c d e f g i j k I F Q Inv24 Inv55 Inv94):Tri P 47 #[.agg #[.string l,.slice a c d,.slice e f g,.slice i j k]] I F Q :=
 tw (A:=(annL [2001,4003,7004,10001,12003,15004,18001,20003,22003,25004,28001] [] [61,75,76] shT_ta [(24,⟨[(2,(.int .i64)),(3,.bool),(4,(.int .i64))],[],fun _ _ _ vs m I F=>match vs with | [.int _ y0,.bool y1,.int _ y2]=>Inv24 y0 y1 y2 m I F | _=>False,[],[]⟩),(55,⟨[(2,(.int .i64)),(3,.bool),(5,(.int .i64))],[],fun _ _ _ vs m I F=>match vs with | [.int _ y0,.bool y1,.int _ y2]=>Inv55 y0 y1 y2 m I F | _=>False,[],[]⟩),(94,⟨[(2,(.int .i64)),(6,(.int .i64))],[],fun _ _ _ vs m I F=>match vs with | [.int _ y0,.int _ y1]=>Inv94 y0 y1 m I F | _=>False,[],[]⟩)] [] [] [] [] [] [])) [61,75,76] func47 h
def ref12_reg.V(a:Nat→Nat×Obj)(vb:Int→Value)(vt:Bool→Value)(g:Bs)(b h i j k l:Int)(m:Bs)(d:OA)(e f:Nat)(n o:Int)(I:Imm)(F:Heap)(Q:PostQ)  : Prop:=∀c:Nat,Tc1 P 61 #[.string g] I ((a c)::·) F vt fun r I1 F1=>(It r (Dt (b≥1) (Dt (b≤6) (Tc1 P 114 #[.agg #[vb h,vb i,vb j,.int .i64 k,vb l,.string m,.slice d e f,.int .i64 n]] I1 ((a c)::·) F1 vt fun r1 I2 F2=>Q (.returned (vt r1)) I2 F2) (Q (.returned (vt false)) I1 F1)) (Q (.returned (vt false)) I1 F1)) (Q (.returned (vt false)) I1 F1))
theorem ref12_reg.vc{f:Bs}{g i j k l m:Int}{n:Bs}{a:OA}{c d:Nat}{o e:Int}{I:Imm}{F:Heap}{Q:PostQ}  (h:ref12_reg.V (fun b=>(b,Obj.cells #[.string f,.int .u8 g,.int .u8 i,.int .u8 j,.int .u8 k,.int .i64 l,.int .u8 m,.string n,.slice a c d,.int .i64 o,.int .i64 e] 77 (0,0))) (.int .u8) .bool f g i j k l m n a c d o e I F Q):Tri P 75 #[.agg #[.string f,.int .u8 g,.int .u8 i,.int .u8 j,.int .u8 k,.int .i64 l,.int .u8 m,.string n,.slice a c d,.int .i64 o,.int .i64 e]] I F Q :=
 tw (A:=(an [2000,2004,2009] [61,114] shT_ta)) [61,114] func75 h
def ref12_state.V(b:Nat→Nat×Obj)(vb vi:Int→Value)(vl:OA→Nat→Nat→Value)(v:Bs)(k:OA)(a w:Nat)(y:Int)(I:Imm)(F:Heap)(Q:PostQ)(Inv24:Int→Int→Nat→Imm→Heap→Prop):Prop:=∀c:Nat,Tc1 P 61 #[.string v] I ((b c)::·) F .bool fun r I1 F1=>(It (!r) (Q (.returned (vi 120)) I1 F1) (Dt ((a:Int)>12) (Q (.returned (vi 121)) I1 F1) ((∃m:Nat,Inv24 0 0 m I1 F1)∧∀(x i:Int) (m1:Nat) (I2:Imm) (F2:Heap),Imm.le I1 I2→Inv24 x i m1 I2 F2→(Dt (i<(a:Int)) ((0≤i∧i<(a:Int))∧∃ad:Addr,k=some ad∧∃(l n o p q:Int) (s:Bs) (d:OA) (e f:Nat) (t:Int) (g:OA) (h j:Nat) (u:Int),Rd I2 ((b c)::F2) (ad.add (Int.toNat i*10)) [vb l,vb n,vb o,vi p,vb q,.string s,vl d e f,vi t,vl g h j,vi u]∧Tc1 P 115 #[.agg #[vb l,vb n,vb o,vi p,vb q,.string s,vl d e f,vi t,vl g h j,vi u]] I2 ((b c)::·) F2 vi fun r1 I3 F3=>(It (r1 != 0) (Q (.returned (vi r1)) I3 F3) (∃m2:Nat,m2<m1∧Inv24 x (IntKind.wrap .i64 (i+1)) m2 I3 F3))) (Q (.returned (vi 0)) I2 F2)))))
theorem ref12_state.vc{e:Bs}{a:OA}{c d:Nat}{f:Int}{I:Imm}{F:Heap}{Q:PostQ}(Inv24:Int→Int→Nat→Imm→Heap→Prop)(h:ref12_state.V (fun b=>(b,Obj.cells #[.string e,.slice a c d,.int .i64 f] 65 (0,0))) (.int .u8) (.int .i64) .slice e a c d f I F Q Inv24):Tri P 76 #[.agg #[.string e,.slice a c d,.int .i64 f]] I F Q :=
 tw (A:=(annL [2001,4003,7004,10001] [] [61,115] shT_ta [(24,⟨[(2,(.int .i64)),(4,(.int .i64))],[],fun _ _ _ vs m I F=>match vs with | [.int _ y0,.int _ y1]=>Inv24 y0 y1 m I F | _=>False,[],[]⟩)] [] [] [] [] [] [])) [61,115] func76 h
def ref12_rule.V(b:Nat→Nat×Obj)(vb vi:Int→Value)(vs:Bs→Value)(vl:OA→Nat→Nat→Value)(aG aH aI aJ aK:Int)(aL:Bs)(ar:OA)(au av:Nat)(aM:Int)(aw:OA)(a aN:Nat)(aO:Int)(I:Imm)(F:Heap)(Q:PostQ)(Inv32:Int→Int→Int→Nat→Imm→Heap→Prop):Prop:=∀n:Nat,Tc1 P 137 #[.agg #[vb aG,vb aH,vb aI,vi aJ,vb aK,vs aL,vl ar au av,vi aM]] I ((b n)::·) F vi fun r I1 F1=>(It (r != 0) (Q (.returned (vi r)) I1 F1) (It ((a:Int)==0) (Q (.returned (vi 120)) I1 F1) (Dt ((a:Int)>8) (Q (.returned (vi 121)) I1 F1) ((∃m:Nat,Inv32 0 r 0 m I1 F1)∧∀(x e2 i:Int) (m1:Nat) (I2:Imm) (F2:Heap),Imm.le I1 I2→Inv32 x e2 i m1 I2 F2→(Dt (i<(a:Int)) ((0≤i∧i<(a:Int))∧∃ad:Addr,aw=some ad∧∃(ax ay:Int) (az:Bs) (aA aB aC aD aE:Int) (aF:Bs) (o:OA) (p q:Nat) (s t u v w y:Int) (z:Bs) (c:OA) (d e:Nat) (aa ab ac ae af ag:Int) (ah:Bs) (f:OA) (g h:Nat) (ai aj ak al am an:Int) (ao:Bs) (j:OA) (k l:Nat) (ap aq:Int),Rd I2 ((b n)::F2) (ad.add (Int.toNat i*36)) [vb ax,vb ay,vs az,vb aA,vb aB,vb aC,vi aD,vb aE,vs aF,vl o p q,vi s,vb t,vb u,vb v,vi w,vb y,vs z,vl c d e,vi aa,vb ab,vb ac,vb ae,vi af,vb ag,vs ah,vl f g h,vi ai,vb aj,vb ak,vb al,vi am,vb an,vs ao,vl j k l,vi ap,vi aq]∧Tc1 P 138 #[.agg #[vb ax,vb ay,vs az,vb aA,vb aB,vb aC,vi aD,vb aE,vs aF,vl o p q,vi s,vb t,vb u,vb v,vi w,vb y,vs z,vl c d e,vi aa,vb ab,vb ac,vb ae,vi af,vb ag,vs ah,vl f g h,vi ai,vb aj,vb ak,vb al,vi am,vb an,vs ao,vl j k l,vi ap,vi aq]] I2 ((b n)::·) F2 vi fun r1 I3 F3=>(It (r1 != 0) (Q (.returned (vi r1)) I3 F3) (∃m2:Nat,m2<m1∧Inv32 x r1 (IntKind.wrap .i64 (i+1)) m2 I3 F3))) (Q (.returned (vi 0)) I2 F2))))))
theorem ref12_rule.vc{i j k l n:Int}{o:Bs}{a:OA}{c d:Nat}{p:Int}{e:OA}{f g:Nat}{q:Int}{I:Imm}{F:Heap}{Q:PostQ}(Inv32:Int→Int→Int→Nat→Imm→Heap→Prop)(h:ref12_rule.V (fun b=>(b,Obj.cells #[.int .u8 i,.int .u8 j,.int .u8 k,.int .i64 l,.int .u8 n,.string o,.slice a c d,.int .i64 p,.slice e f g,.int .i64 q] 84 (0,0))) (.int .u8) (.int .i64) .string .slice i j k l n o a c d p e f g q I F Q Inv32):Tri P 115 #[.agg #[.int .u8 i,.int .u8 j,.int .u8 k,.int .i64 l,.int .u8 n,.string o,.slice a c d,.int .i64 p,.slice e f g,.int .i64 q]] I F Q :=
 tw (A:=(annL [2001,4003,6003,9004,12001] [] [137,138] shT_ta [(32,⟨[(2,(.int .i64)),(3,(.int .i64)),(4,(.int .i64))],[],fun _ _ _ vs m I F=>match vs with | [.int _ y0,.int _ y1,.int _ y2]=>Inv32 y0 y1 y2 m I F | _=>False,[],[]⟩)] [] [] [] [] [] [])) [137,138] func115 h
def ref12_do.V(a:Nat→Nat×Obj)(nV:Int→Int→Int→Int→Int→Bs→OA→Nat→Nat→Int→Value)(vi:Int→Value)(vl:OA→Nat→Nat→Value)(vt:Bool→Value)(d k:Int)(ab:Bs)(aE aF aG aH aI:Int)(aJ:Bs)(an:OA)(ao ap:Nat)(aD ag ah ai aj ak:Int)(al:Bs)(ac:OA)(ad ae:Nat)(am l m n o p:Int)(q:Bs)(e:OA)(f g:Nat)(s t u v w y:Int)(z:Bs)(h:OA)(i j:Nat)(aa aX:Int)(I:Imm)(F:Heap)(Q:PostQ)(Inv6:Int→Imm→Heap→Prop)(Inv14:Int→Imm→Heap→Prop)(Inv24:Int→Imm→Heap→Prop):Prop:=∀c:Nat,((Dt (d<1) (Q (.returned (vi 120)) I F) (Dt (d>6) (Q (.returned (vi 120)) I F) (Inv6 0 I F))))∧∀(x:Int) (I1:Imm) (F1:Heap),Imm.le I I1→Inv6 x I1 F1→((It (d==1) (Dt (k<1) (Q (.returned (vi 120)) I1 F1) (Dt (k>5) (Q (.returned (vi 120)) I1 F1) (It (!(d==1)) (It (k != 0) (Q (.returned (vi 120)) I1 F1) (Inv14 x I1 F1)) (Inv14 x I1 F1)))) (It (!(d==1)) (It (k != 0) (Q (.returned (vi 120)) I1 F1) (Inv14 x I1 F1)) (Inv14 x I1 F1))))∧∀(x1:Int) (I2:Imm) (F2:Heap),Imm.le I1 I2→Inv14 x1 I2 F2→Tc1 P 61 #[.string ab] I2 ((a c)::·) F2 vt fun r I3 F3=>((It (d==6) (It (!(ab.toList==(⟨#[]⟩:Bs).toList)) (Q (.returned (vi 120)) I3 F3) (It (d != 6) (It (!r) (It (d==1) (It (!(ab.toList==(⟨#[]⟩:Bs).toList)) (Q (.returned (vi 120)) I3 F3) (Inv24 x1 I3 F3)) (It true (Q (.returned (vi 120)) I3 F3) (Inv24 x1 I3 F3))) (Inv24 x1 I3 F3)) (Inv24 x1 I3 F3))) (It (d != 6) (It (!r) (It (d==1) (It (!(ab.toList==(⟨#[]⟩:Bs).toList)) (Q (.returned (vi 120)) I3 F3) (Inv24 x1 I3 F3)) (It true (Q (.returned (vi 120)) I3 F3) (Inv24 x1 I3 F3))) (Inv24 x1 I3 F3)) (Inv24 x1 I3 F3))))∧∀(x2:Int) (I4:Imm) (F4:Heap),Imm.le I3 I4→Inv24 x2 I4 F4→Tc1 P 153 (#[vt (d==1),nV aE aF aG aH aI aJ an ao ap aD]) I4 ((a c)::·) F4 vi fun r1 I5 F5=>(It (d==1) (Tc1 P 153 #[vt true,nV ag ah ai aj ak al ac ad ae am] I5 ((a c)::·) F5 vi fun r2 I6 F6=>(It (d==1) (It (k != 2) (Tc1 P 153 #[vt true,nV l m n o p q e f g s] I6 ((a c)::·) F6 vi fun r3 I7 F7=>Tc1 P 153 (#[vt (d==4),nV t u v w y z h i j aa]) I7 ((a c)::·) F7 vi fun r4 I8 F8=>∀(b:Nat) (I9:Imm),Imm.le I8 I9→I9 b=some (Obj.cells #[vi r1,vi r2,vi r3,vi r4] 47 (0,0))→Tc1 P 154 (#[vl (some ⟨b,0,none⟩) 4 4]) I9 ((a c)::·) F8 vi fun r5 I10 F9=>Q (.returned (vi r5)) I10 F9) (Tc1 P 153 (#[vt (d==2),nV l m n o p q e f g s]) I6 ((a c)::·) F6 vi fun r6 I11 F10=>Tc1 P 153 (#[vt (d==4),nV t u v w y z h i j aa]) I11 ((a c)::·) F10 vi fun r7 I12 F11=>∀(b1:Nat) (I13:Imm),Imm.le I12 I13→I13 b1=some (Obj.cells #[vi r1,vi r2,vi r6,vi r7] 47 (0,0))→Tc1 P 154 (#[vl (some ⟨b1,0,none⟩) 4 4]) I13 ((a c)::·) F11 vi fun r8 I14 F12=>Q (.returned (vi r8)) I14 F12)) (Tc1 P 153 (#[vt (d==2),nV l m n o p q e f g s]) I6 ((a c)::·) F6 vi fun r9 I15 F13=>Tc1 P 153 (#[vt (d==4),nV t u v w y z h i j aa]) I15 ((a c)::·) F13 vi fun aq I16 F14=>∀(b2:Nat) (I17:Imm),Imm.le I16 I17→I17 b2=some (Obj.cells #[vi r1,vi r2,vi r9,vi aq] 47 (0,0))→Tc1 P 154 (#[vl (some ⟨b2,0,none⟩) 4 4]) I17 ((a c)::·) F14 vi fun ar I18 F15=>Q (.returned (vi ar)) I18 F15))) (Tc1 P 153 (#[vt (d==2),nV ag ah ai aj ak al ac ad ae am]) I5 ((a c)::·) F5 vi fun af I19 F16=>(It (d==1) (It (k != 2) (Tc1 P 153 #[vt true,nV l m n o p q e f g s] I19 ((a c)::·) F16 vi fun au I20 F17=>Tc1 P 153 (#[vt (d==4),nV t u v w y z h i j aa]) I20 ((a c)::·) F17 vi fun av I21 F18=>∀(b3:Nat) (I22:Imm),Imm.le I21 I22→I22 b3=some (Obj.cells #[vi r1,vi af,vi au,vi av] 47 (0,0))→Tc1 P 154 (#[vl (some ⟨b3,0,none⟩) 4 4]) I22 ((a c)::·) F18 vi fun aw I23 F19=>Q (.returned (vi aw)) I23 F19) (Tc1 P 153 (#[vt (d==2),nV l m n o p q e f g s]) I19 ((a c)::·) F16 vi fun ax I24 F20=>Tc1 P 153 (#[vt (d==4),nV t u v w y z h i j aa]) I24 ((a c)::·) F20 vi fun ay I25 F21=>∀(b4:Nat) (I26:Imm),Imm.le I25 I26→I26 b4=some (Obj.cells #[vi r1,vi af,vi ax,vi ay] 47 (0,0))→Tc1 P 154 (#[vl (some ⟨b4,0,none⟩) 4 4]) I26 ((a c)::·) F21 vi fun az I27 F22=>Q (.returned (vi az)) I27 F22)) (Tc1 P 153 (#[vt (d==2),nV l m n o p q e f g s]) I19 ((a c)::·) F16 vi fun aA I28 F23=>Tc1 P 153 (#[vt (d==4),nV t u v w y z h i j aa]) I28 ((a c)::·) F23 vi fun aB I29 F24=>∀(b5:Nat) (I30:Imm),Imm.le I29 I30→I30 b5=some (Obj.cells #[vi r1,vi af,vi aA,vi aB] 47 (0,0))→Tc1 P 154 (#[vl (some ⟨b5,0,none⟩) 4 4]) I30 ((a c)::·) F24 vi fun aC I31 F25=>Q (.returned (vi aC)) I31 F25))))
theorem ref12_do.vc{ay az:Int}{aA:Bs}{aB aC aD aE aF:Int}{aG:Bs}{w:OA}{x y:Nat}{z aa ab ac ad ae:Int}{af:Bs}{d:OA}{e g:Nat}{ag ah ai aj ak al:Int}{am:Bs}{i:OA}{j p:Nat}{an ao ap aq ar au:Int}{av:Bs}{r:OA}{u v:Nat}{aw ax:Int}{I:Imm}{F:Heap}{Q:PostQ}(Inv6:Int→Imm→Heap→Prop)(Inv14:Int→Imm→Heap→Prop)(Inv24:Int→Imm→Heap→Prop)(h:ref12_do.V (fun b=>(b,Obj.cells #[.int .u8 ay,.int .u8 az,.string aA,.int .u8 aB,.int .u8 aC,.int .u8 aD,.int .i64 aE,.int .u8 aF,.string aG,.slice w x y,.int .i64 z,.int .u8 aa,.int .u8 ab,.int .u8 ac,.int .i64 ad,.int .u8 ae,.string af,.slice d e g,.int .i64 ag,.int .u8 ah,.int .u8 ai,.int .u8 aj,.int .i64 ak,.int .u8 al,.string am,.slice i j p,.int .i64 an,.int .u8 ao,.int .u8 ap,.int .u8 aq,.int .i64 ar,.int .u8 au,.string av,.slice r u v,.int .i64 aw,.int .i64 ax] 99 (0,0))) (fun k o t n f s a l c q=>.agg #[.int .u8 k,.int .u8 o,.int .u8 t,.int .i64 n,.int .u8 f,.string s,.slice a l c,.int .i64 q]) (.int .i64) .slice .bool ay az aA aB aC aD aE aF aG w x y z aa ab ac ad ae af d e g ag ah ai aj ak al am i j p an ao ap aq ar au av r u v aw ax I F Q Inv6 Inv14 Inv24):Tri P 138 #[.agg #[.int .u8 ay,.int .u8 az,.string aA,.int .u8 aB,.int .u8 aC,.int .u8 aD,.int .i64 aE,.int .u8 aF,.string aG,.slice w x y,.int .i64 z,.int .u8 aa,.int .u8 ab,.int .u8 ac,.int .i64 ad,.int .u8 ae,.string af,.slice d e g,.int .i64 ag,.int .u8 ah,.int .u8 ai,.int .u8 aj,.int .i64 ak,.int .u8 al,.string am,.slice i j p,.int .i64 an,.int .u8 ao,.int .u8 ap,.int .u8 aq,.int .i64 ar,.int .u8 au,.string av,.slice r u v,.int .i64 aw,.int .i64 ax]] I F Q :=
 tw (A:=(annL [3002,3006,5000,5004,5008,5013,5017,8002,8006,8011,8014,8017,8023,11000,12000,12004] [] [61,153,154] shT_ta [(6,⟨[(2,(.int .i64))],[],fun _ _ _ vs m I F=>match vs with | [.int _ y0]=>Inv6 y0 I F | _=>False,[],[]⟩),(14,⟨[(2,(.int .i64))],[],fun _ _ _ vs m I F=>match vs with | [.int _ y0]=>Inv14 y0 I F | _=>False,[],[]⟩),(24,⟨[(2,(.int .i64))],[],fun _ _ _ vs m I F=>match vs with | [.int _ y0]=>Inv24 y0 I F | _=>False,[],[]⟩)] [14004] [] [] [] [] [])) [61,153,154] func138 h
def ref12_first.V(vi:Int→Value)(b:OA)(a d:Nat)(I:Imm)(F:Heap)(Q:PostQ)(Inv6:Int→Int→Nat→Imm→Heap→Prop):Prop:=(∃m:Nat,Inv6 0 0 m I F)∧∀(x i:Int) (m1:Nat) (I1:Imm) (F1:Heap),Imm.le I I1→Inv6 x i m1 I1 F1→(Dt (i<(a:Int)) ((0≤i∧i<(a:Int))∧∃ad:Addr,b=some ad∧∃(m2:Int),Rd I1 F1 (ad.add (Int.toNat i*1)) [vi m2]∧(It (m2 != 0) ((0≤i∧i<(a:Int))∧∃c:Addr,b=some c∧∃(m3:Int),Rd I1 F1 (c.add (Int.toNat i*1)) [vi m3]∧Q (.returned (vi m3)) I1 F1) (∃m4:Nat,m4<m1∧Inv6 x (IntKind.wrap .i64 (i+1)) m4 I1 F1))) (Q (.returned (vi 0)) I1 F1))
theorem ref12_first.vc{a:OA}{b c:Nat}{I:Imm}{F:Heap}{Q:PostQ}(Inv6:Int→Int→Nat→Imm→Heap→Prop)(h:ref12_first.V (.int .i64) a b c I F Q Inv6):Tri P 154 #[.slice a b c] I F Q :=
 tw (A:=(annL [2003,4004] [] [] shT_ta [(6,⟨[(2,(.int .i64)),(3,(.int .i64))],[],fun _ _ _ vs m I F=>match vs with | [.int _ y0,.int _ y1]=>Inv6 y0 y1 m I F | _=>False,[],[]⟩)] [] [] [] [] [] [])) [] func154 h
def ref12_part.V(a:Nat→Nat×Obj)(nV:Int→Int→Int→Int→Int→Bs→OA→Nat→Nat→Int→Value)(vi:Int→Value)(b:Bool)(g h i j k:Int)(l:Bs)(c:OA)(d e:Nat)(m:Int)(I:Imm)(F:Heap)(Q:PostQ)  : Prop:=∀f:Nat,(It b (Tc1 P 137 #[nV g h i j k l c d e m] I ((a f)::·) F vi fun r I1 F1=>Q (.returned (vi r)) I1 F1) (Tc1 P 164 #[nV g h i j k l c d e m] I ((a f)::·) F .bool fun r1 I2 F2=>(It (!r1) (Q (.returned (vi 120)) I2 F2) (Q (.returned (vi 0)) I2 F2))))
theorem ref12_part.vc{i:Bool}{j m p r u:Int}{v:Bs}{d:OA}{e g:Nat}{w:Int}{I:Imm}{F:Heap}{Q:PostQ}  (h:ref12_part.V (fun b=>(b,Obj.cells #[.int .u8 j,.int .u8 m,.int .u8 p,.int .i64 r,.int .u8 u,.string v,.slice d e g,.int .i64 w] 28 (0,0))) (fun k o t n f s a l c q=>.agg #[.int .u8 k,.int .u8 o,.int .u8 t,.int .i64 n,.int .u8 f,.string s,.slice a l c,.int .i64 q]) (.int .i64) i j m p r u v d e g w I F Q):Tri P 153 #[.bool i,.agg #[.int .u8 j,.int .u8 m,.int .u8 p,.int .i64 r,.int .u8 u,.string v,.slice d e g,.int .i64 w]] I F Q :=
 tw (A:=(an [1000,4001] [137,164] shT_ta)) [137,164] func153 h
def ref12_none.V(nO:Int→Int→Int→Int→Int→Bs→OA→Nat→Nat→Int→Obj)(vb:Int→Value)(vt:Bool→Value)(d e f g h:Int)(i:Bs)(b:OA)(a c:Nat)(j:Int)(I:Imm)(F:Heap)(Q:PostQ)  : Prop:=∀k:Nat,(It (d==0) (Tc1 P 62 #[.agg #[vb d,vb e,vb f,.int .i64 g,vb h,.string i,.slice b a c,.int .i64 j]] I ((k,nO d e f g h i b a c j)::·) F vt fun r I1 F1=>(It r (Q (.returned (vt ((a:Int)==0))) I1 F1) (Q (.returned (vt false)) I1 F1))) (Q (.returned (vt false)) I F))
theorem ref12_none.vc{g i j m p:Int}{r:Bs}{b:OA}{d e:Nat}{u:Int}{I:Imm}{F:Heap}{Q:PostQ}  (h:ref12_none.V (fun k o t n f s a l c q=>.cells #[.int .u8 k,.int .u8 o,.int .u8 t,.int .i64 n,.int .u8 f,.string s,.slice a l c,.int .i64 q] 28 (0,0)) (.int .u8) .bool g i j m p r b d e u I F Q):Tri P 164 #[.agg #[.int .u8 g,.int .u8 i,.int .u8 j,.int .i64 m,.int .u8 p,.string r,.slice b d e,.int .i64 u]] I F Q :=
 tw (A:=(an [1002,1005] [62] shT_ta)) [62] func164 h
def ref12_begins.V(b:Nat→Nat×Obj)(nV:Int→Int→Int→Int→Int→Bs→OA→Nat→Nat→Int→Value)(nO:Int→Int→Int→Int→Int→Bs→OA→Nat→Nat→Int→Obj)(vb:Int→Value)(vt:Bool→Value)(c g l m n:Int)(o:Bs)(d:OA)(a f:Nat)(p:Int)(I:Imm)(F:Heap)(Q:PostQ)  : Prop:=∀e:Nat,(It (c==5) (It (g==1) (It ((a:Int)==1) ((0≤(0:Int)∧(0:Int)<(a:Int))∧∃ad:Addr,d=some ad∧∃(k s q t u:Int) (v:Bs) (h:OA) (i j:Nat) (w:Int),Rd I ((b e)::F) (ad.add (Int.toNat 0*8)) [vb k,vb s,vb q,.int .i64 t,vb u,.string v,.slice h i j,.int .i64 w]∧∀x:Nat,Tc1 P 15 #[nV c g l m n o d a f p] I ((b e)::(x,nO k s q t u v h i j w)::·) F vt fun r I1 F1=>(It r (It (k==1) (Q (.returned (vt (decide (q≤4)))) I1 F1) (Q (.returned (vt false)) I1 F1)) (Q (.returned (vt false)) I1 F1))) (Tc1 P 15 #[nV c g l m n o d a f p] I ((b e)::·) F vt fun r1 I2 F2=>(It r1 (Q (.returned (vt (c==1))) I2 F2) (Q (.returned (vt false)) I2 F2)))) (Tc1 P 15 #[nV c g l m n o d a f p] I ((b e)::·) F vt fun r2 I3 F3=>(It r2 (Q (.returned (vt (c==1))) I3 F3) (Q (.returned (vt false)) I3 F3)))) (Tc1 P 15 #[nV c g l m n o d a f p] I ((b e)::·) F vt fun r3 I4 F4=>(It r3 (Q (.returned (vt (c==1))) I4 F4) (Q (.returned (vt false)) I4 F4))))
theorem ref12_begins.vc{i j m p r:Int}{u:Bs}{d:OA}{e g:Nat}{v:Int}{I:Imm}{F:Heap}{Q:PostQ}  (h:ref12_begins.V (fun b=>(b,Obj.cells #[.int .u8 i,.int .u8 j,.int .u8 m,.int .i64 p,.int .u8 r,.string u,.slice d e g,.int .i64 v] 28 (0,0))) (fun k o t n f s a l c q=>.agg #[.int .u8 k,.int .u8 o,.int .u8 t,.int .i64 n,.int .u8 f,.string s,.slice a l c,.int .i64 q]) (fun k o t n f s a l c q=>.cells #[.int .u8 k,.int .u8 o,.int .u8 t,.int .i64 n,.int .u8 f,.string s,.slice a l c,.int .i64 q] 28 (0,0)) (.int .u8) .bool i j m p r u d e g v I F Q):Tri P 114 #[.agg #[.int .u8 i,.int .u8 j,.int .u8 m,.int .i64 p,.int .u8 r,.string u,.slice d e g,.int .i64 v]] I F Q :=
 tw (A:=(an [1002,1006,1012,3001,3005,4001] [15] shT_ta)) [15] func114 h
end Go.Lx
namespace Go.Lx
open Go.Vc
theorem rnone_spec(t:Nd)(I:Imm)(F:Heap):Tri P 164 #[t.v] I F (Ret (.bool t.px.noneB) F):=by
 refine ref12_none.vc ?_
 unfold ref12_none.V
 intro b_n
 have hdef:t.px.noneB=(t.kind==0&&(zB t.oper t.typ t.n t.field t.name&&decide (t.kids.length=0))):=by
  unfold Px.noneB zB
  rw[Nd.px_kind,Nd.px_oper,Nd.px_typ,Nd.px_n,Nd.px_field,Nd.px_name,Nd.px_kids,List.length_map,empty_list]
  simp only[Bool.and_assoc]
 rw[hdef]
 refine⟨fun h=>Tri.ret (zero_spec _ _ _ _ _ _ _ _ _ _ I _) fun I1 l1=>⟨_,rfl,F,.refl _,fun h2=>⟨?_,rfl⟩,fun h2=>⟨?_,rfl⟩⟩,fun h=>⟨?_,rfl⟩⟩
 ·rw[h,h2]
  simp only[Bool.true_and]
  have:(((t.kids.length:Nat):Int)==0)=decide (t.kids.length=0):=by
   rw[Bool.eq_iff_iff];simp
  rw[this]
 ·rw[h,h2];rfl
 ·rw[h];rfl
theorem rpart_spec(q:Bool)(t:Nd)(hs:t.px.size≤1048576)(I:Imm)(F:Heap)(ht:NdOk I F t):Tri P 153 #[.bool q,t.v] I F (Ret (.int .i64 (partE q t.px)) F):=by
 refine ref12_part.vc ?_
 unfold ref12_part.V
 intro b_n
 unfold partE
 refine⟨fun h=>Tri.ret (rCheckExpr_spec t hs I _ ht.cons) fun I1 l1=>⟨_,rfl,F,.refl _, ?_,rfl⟩,fun h=>Tri.ret (rnone_spec t I _) fun I1 l1=>⟨_,rfl,F,.refl _,fun h2=>⟨?_,rfl⟩,fun h2=>⟨?_,rfl⟩⟩⟩
 ·subst h;rfl
 ·subst h;rw[not_f h2];rfl
 ·subst h;rw[not_t h2];rfl
theorem first_spec{a:Option Addr}{c:Nat}{l:List Int}(I:Imm)(F:Heap)(hl:l.length≤1000000)(ha:SlG I F 1 (fun x=>[Value.int .i64 x]) a l.length l):Tri P 154 #[.slice a l.length c] I F (Ret (.int .i64 (firstE id l)) F):=by
 refine ref12_first.vc (fun x i m I' F'=>F'=F∧0≤i∧i≤l.length∧m=(l.length-i).toNat∧Imm.le I I'∧firstE id l=firstE id (l.drop i.toNat)) ?_
 unfold ref12_first.V
 refine⟨⟨_,rfl,by omega,by omega,rfl,Imm.le_refl I,rfl⟩,fun x i m I1 F1 _ ⟨gF,g0,g1,gm,l1,ge⟩=>?_⟩
 subst gF
 refine⟨fun hlt=>?_,fun hlt=>⟨?_,rfl⟩⟩
 ·have hlt:=of_decide_eq_true hlt
  obtain⟨ad,x,had,hx,hrd,hxm⟩:=SlG.atm (ha.mono l1 fun _ h=>h) g0 hlt
  refine⟨⟨g0,hlt⟩,ad,had,x,hrd,fun h=>⟨⟨g0,hlt⟩,ad,had,x,hrd, ?_,rfl⟩,fun h=>⟨(l.length-(i+1)).toNat,by omega,rfl, ?_⟩⟩
  ·have hne:x≠0:=by simpa using h
   rw[ge,firstE_take id hx]
   show _=Ending.returned (.int .i64 (thenE x _))
   rw[thenE_ne hne]
  ·rw[w64 (n:=i+1) (by omega)]
   have he:x=0:=by simpa using h
   refine⟨by omega,by omega,rfl,l1, ?_⟩
   rw[ge,firstE_take id hx,show (i+1).toNat=i.toNat+1 by omega]
   show thenE x _=_
   rw[he,thenE_zero]
 ·have hlt:=of_decide_eq_false hlt
  rw[ge,List.drop_eq_nil_of_le (by omega)];rfl
theorem rdo_spec(d:DoN)(hs:Small d.p.nds)(I:Imm)(F:Heap)(hd:d.Ok I F):Tri P 138 #[d.v] I F (Ret (.int .i64 d.p.check) F):=by
 simp only[Small,DoP.nds,DoN.p,List.mem_cons,List.not_mem_nil,or_false] at hs
 have z1:=hs _ (.inl rfl)
 have z2:=hs _ (.inr (.inl rfl))
 have z3:=hs _ (.inr (.inr (.inl rfl)))
 have z4:=hs _ (.inr (.inr (.inr rfl)))
 have hdef:d.p.check=thenE (errB d.p.kindB 120) (thenE (errB d.p.orderB 120) (thenE (errB d.p.nameB 120) (thenE (partE (decide (d.kind=1)) d.side.px) (thenE (partE (decide (d.kind=1∨d.kind=2)) d.qty.px)
  (thenE (partE (decide (d.kind=1∧d.order≠2∨d.kind=2)) d.price.px) (partE (decide (d.kind=4)) d.value.px)))))):=rfl
 have kdef:d.p.kindB=decide (1≤d.kind∧d.kind≤6):=rfl
 have odef:d.p.orderB=decide (d.kind=1∧1≤d.order∧d.order≤5∨d.kind≠1∧d.order=0):=rfl
 have ndef:d.p.nameB=if d.kind=6 then d.name.toList==[] else if d.kind≠1∨d.name.toList≠[] then nameB d.name else true:=rfl
 refine ref12_do.vc (fun x I' F'=>F'=F∧Imm.le I I'∧d.p.kindB=true) (fun x I' F'=>F'=F∧Imm.le I I'∧d.p.kindB=true∧d.p.orderB=true) (fun x I' F'=>F'=F∧Imm.le I I'∧d.p.kindB=true∧d.p.orderB=true∧d.p.nameB=true) ?_
 unfold ref12_do.V
 intro b_d
 have ok:∀{J:Imm},Imm.le I J→d.Ok J ((b_d,Obj.cells #[.int .u8 d.kind,.int .u8 d.order,.string d.name,.int .u8 d.side.kind,.int .u8 d.side.oper,.int .u8 d.side.typ,.int .i64 d.side.n,.int .u8 d.side.field,.string d.side.name,.slice d.side.a d.side.kids.length d.side.c,.int .i64 d.side.pos,.int .u8 d.qty.kind,.int .u8 d.qty.oper,.int .u8 d.qty.typ,.int .i64 d.qty.n,.int .u8 d.qty.field,.string d.qty.name,.slice d.qty.a d.qty.kids.length d.qty.c,.int .i64 d.qty.pos,.int .u8 d.price.kind,.int .u8 d.price.oper,.int .u8 d.price.typ,.int .i64 d.price.n,.int .u8 d.price.field,.string d.price.name,.slice d.price.a d.price.kids.length d.price.c,.int .i64 d.price.pos,.int .u8 d.value.kind,.int .u8 d.value.oper,.int .u8 d.value.typ,.int .i64 d.value.n,.int .u8 d.value.field,.string d.value.name,.slice d.value.a d.value.kids.length d.value.c,.int .i64 d.value.pos,.int .i64 d.pos] 99 (0,0))::F):=fun hl=>(hd.mono hl fun _ h=>h).cons
 have hk:d.p.kindB=false→Ending.returned (.int .i64 120)=.returned (.int .i64 d.p.check):=fun h=>by rw[hdef,h];rfl
 have ho:d.p.kindB=true→d.p.orderB=false→Ending.returned (.int .i64 120)=.returned (.int .i64 d.p.check):=fun h h'=>by rw[hdef,h,h'];rfl
 have hn:d.p.kindB=true→d.p.orderB=true→d.p.nameB=false→Ending.returned (.int .i64 120)=.returned (.int .i64 d.p.check):=fun h h' h2=>by rw[hdef,h,h',h2];rfl
 rw[empty_list]
 refine⟨⟨fun h1=>⟨hk (by rw[kdef];simp only[decide_eq_true_eq] at h1;exact decide_eq_false (by omega)),rfl⟩,fun h1=>⟨fun h2=>⟨hk (by rw[kdef];simp only[decide_eq_true_eq] at h2;exact decide_eq_false (by omega)),rfl⟩,fun h2=>⟨rfl,Imm.le_refl I,by rw[kdef];simp only[decide_eq_false_iff_not] at h1 h2;exact decide_eq_true (by omega)⟩⟩⟩,fun x I1 F1 _ ⟨gF,l1,k1⟩=>?_⟩
 subst gF
 refine⟨⟨fun h1=>⟨fun h2=>⟨ho k1 ?_,rfl⟩,fun h2=>⟨fun h3=>⟨ho k1 ?_,rfl⟩,fun h3=>⟨fun h4=>⟨fun h5=>⟨ho k1 ?_,rfl⟩,fun h5=>⟨rfl,l1,k1, ?_⟩⟩,fun h4=>⟨rfl,l1,k1, ?_⟩⟩⟩⟩,fun h1=>⟨fun h4=>⟨fun h5=>⟨ho k1 ?_,rfl⟩,fun h5=>⟨rfl,l1,k1, ?_⟩⟩,fun h4=>⟨rfl,l1,k1, ?_⟩⟩⟩,fun x1 I2 F2 _ ⟨gF,l2,k2,o2⟩=>?_⟩
 ·rw[odef];simp only[decide_eq_true_eq,beq_iff_eq] at h1 h2;exact decide_eq_false (by omega)
 ·rw[odef];simp only[decide_eq_true_eq,beq_iff_eq] at h1 h3;exact decide_eq_false (by omega)
 ·rw[h1] at h4;cases h4
 ·rw[h1] at h4;cases h4
 ·rw[odef];simp only[decide_eq_false_iff_not,beq_iff_eq] at h1 h2 h3;exact decide_eq_true (by omega)
 ·rw[odef];simp only[beq_eq_false_iff_ne,bne_iff_ne,ne_eq] at h1 h5;exact decide_eq_false (by omega)
 ·rw[odef];simp only[beq_eq_false_iff_ne,bne_eq_false_iff_eq,ne_eq] at h1 h5;exact decide_eq_true (by omega)
 ·rw[h1] at h4;cases h4
 subst gF
 refine Tri.ret (rName_spec I2 _) fun I3 l3=>⟨_,rfl,F2,.refl _, ?_⟩
 have l23:=Imm.le_trans l2 l3
 refine⟨⟨fun h1=>⟨fun h2=>⟨hn k2 o2 ?_,rfl⟩,fun h2=>⟨fun h3=>?_,fun h3=>⟨rfl,l23,k2,o2, ?_⟩⟩⟩,fun h1=>⟨fun h3=>⟨fun h4=>⟨fun h5=>⟨fun h6=>⟨hn k2 o2 ?_,rfl⟩,fun h6=>⟨rfl,l23,k2,o2, ?_⟩⟩,fun h5=>⟨fun h6=>⟨hn k2 o2 ?_,rfl⟩,fun h6=>by cases h6⟩⟩,fun h4=>⟨rfl,l23,k2,o2, ?_⟩⟩,fun h3=>?_⟩⟩,fun x2 I4 F4 _ ⟨gF,l4,k4,o4,n4⟩=>?_⟩
 ·rw[ndef,if_pos (by simpa using h1)];exact not_f h2
 ·have e1:d.kind=6:=by simpa using h1
  have e2:d.kind≠6:=by simpa using h3
  exact absurd e1 e2
 ·rw[ndef,if_pos (by simpa using h1)];exact not_t h2
 ·rw[ndef,if_neg (by simpa using h1),if_pos (.inr (by simpa using h6))];exact not_f h4
 ·have e1:d.kind=1:=by simpa using h5
  have e2:d.name.toList=[]:=by simpa using h6
  rw[ndef,if_neg (by simpa using h1),if_neg (fun h=>h.elim (fun h=>h e1) fun h=>h e2)]
 ·have e1:d.kind≠1:=by simpa using h5
  rw[ndef,if_neg (by simpa using h1),if_pos (.inl e1)];exact not_f h4
 ·rw[ndef,if_neg (by simpa using h1)]
  split
  ·exact not_t h4
  ·rfl
 ·have e1:d.kind≠6:=by simpa using h1
  have e2:d.kind=6:=by simpa using h3
  exact absurd e2 e1
 subst gF
 have hb:∀a b:Int,(a==b)=decide (a=b):=fun a b=>by rw[Bool.eq_iff_iff];simp
 rw[hb,hb]
 have hT:d.p.check=thenE (partE (decide (d.kind=1)) d.side.px) (thenE (partE (decide (d.kind=1∨d.kind=2)) d.qty.px) (thenE (partE (decide (d.kind=1∧d.order≠2∨d.kind=2)) d.price.px) (partE (decide (d.kind=4)) d.value.px))):=by
  rw[hdef,k4,o4,n4];rfl
 have thz:∀a:Int,thenE a 0=a:=fun a=>by
  unfold thenE
  by_cases h:a=0
  ·rw[if_pos h,h]
  ·rw[if_neg h]
 have fin:∀(q2 q3:Bool),q2=decide (d.kind=1∨d.kind=2)→q3=decide (d.kind=1∧d.order≠2∨d.kind=2)→∀(J:Imm) (G:Heap) (b:Nat),J b=some (.cells #[.int .i64 (partE (decide (d.kind=1)) d.side.px),.int .i64 (partE q2 d.qty.px),.int .i64 (partE q3 d.price.px),.int .i64 (partE (decide (d.kind=4)) d.value.px)] 47 (0,0)) →
   Tri P 154 #[.slice (some ⟨b,0,none⟩) 4 4] J G (Ret (.int .i64 d.p.check) G):=fun q2 q3 e2 e3 J G b hb=>by
  have:=first_spec (a:=some ⟨b,0,none⟩) (c:=4) (l:=[partE (decide (d.kind=1)) d.side.px,partE q2 d.qty.px,partE q3 d.price.px,partE (decide (d.kind=4)) d.value.px]) J G (by show 4≤1000000;decide) ⟨rfl,fun _=>⟨_,rfl,fun i x hx=>?_⟩⟩
  ·rw[hT,←e2,←e3]
   have e:firstE id [partE (decide (d.kind=1)) d.side.px,partE q2 d.qty.px,partE q3 d.price.px,partE (decide (d.kind=4)) d.value.px]=thenE (partE (decide (d.kind=1)) d.side.px) (thenE (partE q2 d.qty.px) (thenE (partE q3 d.price.px) (partE (decide (d.kind=4)) d.value.px))):=by
    show thenE _ (thenE _ (thenE _ (thenE _ 0)))=_
    rw[thz];rfl
   rw[←e];exact this
  ·rw[add_lit0]
   refine Rd.of_imm hb _ _ fun j hj=>?_
   obtain rfl:j=0:=by simpa using hj
   rw[Nat.add_zero,Nat.mul_one]
   have hi:i<4:=(List.getElem?_eq_some_iff.1 hx).1
   have:i=0∨i=1∨i=2∨i=3:=by omega
   rcases this with rfl | rfl | rfl | rfl<;>(cases hx;rfl)
 refine Tri.ret (rpart_spec _ d.side z1 I4 _ (ok l4).1) fun I5 h5=>⟨_,rfl,F4,.refl _, ?_⟩
 have l5:=Imm.le_trans l4 h5
 refine⟨fun c1=>Tri.ret (rpart_spec _ d.qty z2 I5 _ (ok l5).2.1) fun I6 h6=>⟨_,rfl,F4,.refl _, ?_⟩,fun c1=>Tri.ret (rpart_spec _ d.qty z2 I5 _ (ok l5).2.1) fun I6 h6=>⟨_,rfl,F4,.refl _, ?_⟩⟩
 ·have l6:=Imm.le_trans l5 h6
  have c1':=of_decide_eq_true c1
  refine⟨fun c2=>⟨fun c3=>?_,fun c3=>?_⟩,fun c2=>?_⟩
  ·have c2':=of_decide_eq_true c2
   have c3':d.order≠2:=by simpa using c3
   exact Tri.ret (rpart_spec _ d.price z3 I6 _ (ok l6).2.2.1) fun I7 h7=>⟨_,rfl,F4,.refl _,Tri.ret (rpart_spec _ d.value z4 I7 _ (ok (Imm.le_trans l6 h7)).2.2.2) fun I8 h8=>⟨_,rfl,F4,.refl _,fun b I9 h9 hb9=>Tri.ret (fin _ _ (decide_eq_true (by omega)).symm (decide_eq_true (by omega)).symm I9 _ b hb9) fun I10 _=>⟨_,rfl,F4,.refl _,rfl,rfl⟩⟩⟩
  ·have c2':=of_decide_eq_true c2
   have c3':d.order=2:=by simpa using c3
   exact Tri.ret (rpart_spec _ d.price z3 I6 _ (ok l6).2.2.1) fun I7 h7=>⟨_,rfl,F4,.refl _,Tri.ret (rpart_spec _ d.value z4 I7 _ (ok (Imm.le_trans l6 h7)).2.2.2) fun I8 h8=>⟨_,rfl,F4,.refl _,fun b I9 h9 hb9=>Tri.ret (fin _ _ (decide_eq_true (by omega)).symm (by rw[hb];exact decide_eq_decide.2 (by omega)) I9 _ b hb9) fun I10 _=>⟨_,rfl,F4,.refl _,rfl,rfl⟩⟩⟩
  ·have c2':=of_decide_eq_false c2
   exact Tri.ret (rpart_spec _ d.price z3 I6 _ (ok l6).2.2.1) fun I7 h7=>⟨_,rfl,F4,.refl _,Tri.ret (rpart_spec _ d.value z4 I7 _ (ok (Imm.le_trans l6 h7)).2.2.2) fun I8 h8=>⟨_,rfl,F4,.refl _,fun b I9 h9 hb9=>Tri.ret (fin _ _ (decide_eq_true (by omega)).symm (by rw[hb];exact decide_eq_decide.2 (by omega)) I9 _ b hb9) fun I10 _=>⟨_,rfl,F4,.refl _,rfl,rfl⟩⟩⟩
 ·have l6:=Imm.le_trans l5 h6
  have c1':=of_decide_eq_false c1
  refine⟨fun c2=>⟨fun c3=>?_,fun c3=>?_⟩,fun c2=>?_⟩
  ·have c2':=of_decide_eq_true c2
   have c3':d.order≠2:=by simpa using c3
   exact Tri.ret (rpart_spec _ d.price z3 I6 _ (ok l6).2.2.1) fun I7 h7=>⟨_,rfl,F4,.refl _,Tri.ret (rpart_spec _ d.value z4 I7 _ (ok (Imm.le_trans l6 h7)).2.2.2) fun I8 h8=>⟨_,rfl,F4,.refl _,fun b I9 h9 hb9=>Tri.ret (fin _ _ (by rw[hb];exact decide_eq_decide.2 (by omega)) (decide_eq_true (by omega)).symm I9 _ b hb9) fun I10 _=>⟨_,rfl,F4,.refl _,rfl,rfl⟩⟩⟩
  ·have c2':=of_decide_eq_true c2
   have c3':d.order=2:=by simpa using c3
   exact Tri.ret (rpart_spec _ d.price z3 I6 _ (ok l6).2.2.1) fun I7 h7=>⟨_,rfl,F4,.refl _,Tri.ret (rpart_spec _ d.value z4 I7 _ (ok (Imm.le_trans l6 h7)).2.2.2) fun I8 h8=>⟨_,rfl,F4,.refl _,fun b I9 h9 hb9=>Tri.ret (fin _ _ (by rw[hb];exact decide_eq_decide.2 (by omega)) (by rw[hb];exact decide_eq_decide.2 (by omega)) I9 _ b hb9) fun I10 _=>⟨_,rfl,F4,.refl _,rfl,rfl⟩⟩⟩
  ·have c2':=of_decide_eq_false c2
   exact Tri.ret (rpart_spec _ d.price z3 I6 _ (ok l6).2.2.1) fun I7 h7=>⟨_,rfl,F4,.refl _,Tri.ret (rpart_spec _ d.value z4 I7 _ (ok (Imm.le_trans l6 h7)).2.2.2) fun I8 h8=>⟨_,rfl,F4,.refl _,fun b I9 h9 hb9=>Tri.ret (fin _ _ (by rw[hb];exact decide_eq_decide.2 (by omega)) (by rw[hb];exact decide_eq_decide.2 (by omega)) I9 _ b hb9) fun I10 _=>⟨_,rfl,F4,.refl _,rfl,rfl⟩⟩⟩
end Go.Lx
namespace Go.Lx
open Go.Vc
theorem rrule_spec(r:RuleN)(hs:r.p.Light)(I:Imm)(F:Heap)(hr:r.Ok I F):Tri P 115 #[r.v] I F (Ret (.int .i64 r.p.check) F):=by
 have hc:r.p.check=thenE r.when.px.checkE (thenE (errB (decide (0<r.dos.length)) 120) (thenE (errB (decide (r.dos.length≤8)) 121) (firstE DoP.check (r.dos.map DoN.p)))):=by
  show thenE _ (thenE (errB (decide (0<(r.dos.map DoN.p).length)) 120) (thenE (errB (decide ((r.dos.map DoN.p).length≤8)) 121) _))=_
  rw[List.length_map];rfl
 refine ref12_rule.vc (fun x e i m I' F'=>F'=F∧0≤i∧i≤r.dos.length∧m=(r.dos.length-i).toNat∧Imm.le I I'∧r.dos.length≤8∧r.p.check=firstE DoP.check ((r.dos.drop i.toNat).map DoN.p)) ?_
 unfold ref12_rule.V
 intro b_r
 refine Tri.ret (rCheckExpr_spec r.when hs.1 I _ hr.cons.1) fun I1 l1=>⟨_,rfl,F,.refl _,fun h=>⟨?_,rfl⟩,fun h=>⟨fun h2=>⟨?_,rfl⟩,fun h2=>⟨fun h3=>⟨?_,rfl⟩,fun h3=>⟨⟨_,rfl,by omega,by omega,rfl,l1, ?_, ?_⟩,fun x e i m I2 F2 _ ⟨gF,g0,g1,gm,l2,gl,ge⟩=>?_⟩⟩⟩⟩
 ·rw[hc,thenE_ne (by simpa using h)]
 ·have e1:r.when.px.checkE=0:=by simpa using h
  have e2:r.dos.length=0:=by have:(r.dos.length:Int)=0:=by simpa using h2
                             omega
  rw[hc,e1,e2];rfl
 ·have e1:r.when.px.checkE=0:=by simpa using h
  have e3:=of_decide_eq_true h3
  rw[hc,e1,decide_eq_true (show 0<r.dos.length by omega),decide_eq_false (show ¬r.dos.length≤8 by omega)];rfl
 ·have e3:=of_decide_eq_false h3
  omega
 ·have e1:r.when.px.checkE=0:=by simpa using h
  have e2:¬r.dos.length=0:=fun e=>by rw[e] at h2;simp at h2
  have e3:=of_decide_eq_false h3
  rw[hc,e1,decide_eq_true (show 0<r.dos.length by omega),decide_eq_true (show r.dos.length≤8 by omega)];rfl
 subst gF
 have okr:=(hr.mono l2 fun _ h=>h).cons (x:=(b_r,Obj.cells #[.int .u8 r.when.kind,.int .u8 r.when.oper,.int .u8 r.when.typ,.int .i64 r.when.n,.int .u8 r.when.field,.string r.when.name,.slice r.when.a r.when.kids.length r.when.c,.int .i64 r.when.pos,.slice r.a r.dos.length r.c,.int .i64 r.pos] 84 (0,0)))
 refine⟨fun hlt=>?_,fun hlt=>⟨?_,rfl⟩⟩
 ·have hlt:=of_decide_eq_true hlt
  obtain⟨ad,d,had,hd,hrd,hdm⟩:=SlG.atm okr.2.1 g0 hlt
  refine⟨⟨g0,hlt⟩,ad,had,_,_,_,_,_,_,_,_,_,_,_,_,_,_,_,_,_,_,_,_,_,_,_,_,_,_,_,_,_,_,_,_,_,_,_,_,_,_,_,_,_,_,_,_,hrd,Tri.ret (rdo_spec d (hs.2.2 _ (List.mem_map_of_mem hdm)) I2 _ (okr.2.2 d hdm)) fun I3 l3=>⟨_,rfl,F2,.refl _,fun h=>⟨?_,rfl⟩,fun h=>⟨(r.dos.length-(i+1)).toNat,by omega,rfl, ?_⟩⟩⟩
  ·rw[ge,firstE_map DoP.check DoN.p hd,thenE_ne (by simpa using h)]
  ·have e1:d.p.check=0:=by simpa using h
   rw[w64 (n:=i+1) (by omega)]
   refine⟨by omega,by omega,rfl,Imm.le_trans l2 l3,gl, ?_⟩
   rw[ge,firstE_map DoP.check DoN.p hd,e1,thenE_zero,show (i+1).toNat=i.toNat+1 by omega]
 ·have hlt:=of_decide_eq_false hlt
  rw[ge,firstE_end DoP.check DoN.p (by omega)]
theorem rstate_spec(x:StateN)(hs:x.p.Light)(I:Imm)(F:Heap)(hx:x.Ok I F):Tri P 76 #[x.v] I F (Ret (.int .i64 x.p.check) F):=by
 have hc:x.p.check=thenE (errB (nameB x.name) 120) (thenE (errB (decide (x.rules.length≤12)) 121) (firstE RuleP.check (x.rules.map RuleN.p))):=by
  show thenE _ (thenE (errB (decide ((x.rules.map RuleN.p).length≤12)) 121) _)=_
  rw[List.length_map];rfl
 refine ref12_state.vc (fun q i m I' F'=>F'=F∧0≤i∧i≤x.rules.length∧m=(x.rules.length-i).toNat∧Imm.le I I'∧x.rules.length≤12∧x.p.check=firstE RuleP.check ((x.rules.drop i.toNat).map RuleN.p)) ?_
 unfold ref12_state.V
 intro b_s
 refine Tri.ret (rName_spec I _) fun I1 l1=>⟨_,rfl,F,.refl _,fun h=>⟨?_,rfl⟩,fun h=>⟨fun h3=>⟨?_,rfl⟩,fun h3=>⟨⟨_,rfl,by omega,by omega,rfl,l1, ?_, ?_⟩,fun q i m I2 F2 _ ⟨gF,g0,g1,gm,l2,gl,ge⟩=>?_⟩⟩⟩
 ·rw[hc,not_f h];rfl
 ·have e3:=of_decide_eq_true h3
  rw[hc,not_t h,decide_eq_false (show ¬x.rules.length≤12 by omega)];rfl
 ·have e3:=of_decide_eq_false h3
  omega
 ·have e3:=of_decide_eq_false h3
  rw[hc,not_t h,decide_eq_true (show x.rules.length≤12 by omega)];rfl
 subst gF
 have okx:=(hx.mono l2 fun _ h=>h).cons (x:=(b_s,Obj.cells #[.string x.name,.slice x.a x.rules.length x.c,.int .i64 x.pos] 65 (0,0)))
 refine⟨fun hlt=>?_,fun hlt=>⟨?_,rfl⟩⟩
 ·have hlt:=of_decide_eq_true hlt
  obtain⟨ad,r,had,hr,hrd,hrm⟩:=SlG.atm okx.1 g0 hlt
  refine⟨⟨g0,hlt⟩,ad,had,_,_,_,_,_,_,_,_,_,_,_,_,_,_,hrd,Tri.ret (rrule_spec r (hs.2 _ (List.mem_map_of_mem hrm)) I2 _ (okx.2 r hrm)) fun I3 l3=>⟨_,rfl,F2,.refl _,fun h=>⟨?_,rfl⟩,fun h=>⟨(x.rules.length-(i+1)).toNat,by omega,rfl, ?_⟩⟩⟩
  ·rw[ge,firstE_map RuleP.check RuleN.p hr,thenE_ne (by simpa using h)]
  ·have e1:r.p.check=0:=by simpa using h
   rw[w64 (n:=i+1) (by omega)]
   refine⟨by omega,by omega,rfl,Imm.le_trans l2 l3,gl, ?_⟩
   rw[ge,firstE_map RuleP.check RuleN.p hr,e1,thenE_zero,show (i+1).toNat=i.toNat+1 by omega]
 ·have hlt:=of_decide_eq_false hlt
  rw[ge,firstE_end RuleP.check RuleN.p (by omega)]
theorem formed_kids{x:Px}(h:x.formed=true)(hk:x.kind=5):x.kids.length=1:=by
 rw[Px.formed_eq,Bool.and_eq_true] at h
 have h1:=h.1
 unfold Px.oneB at h1
 simp only[Bool.and_eq_true,decide_eq_true_eq] at h1
 rw[h1.2]
 unfold Px.arity
 rw[if_pos (.inl hk)]
theorem begins_spec(t:Nd)(hs:t.px.size≤1048576)(I:Imm)(F:Heap)(ht:NdOk I F t):Tri P 114 #[t.v] I F (Ret (.bool (t.px.formed&&t.px.beginB)) F):=by
 refine ref12_begins.vc ?_
 unfold ref12_begins.V
 intro b_n
 have hdef:t.px.beginB=if t.kind=5∧t.oper=1 then (match t.px.kids with | k::_=>decide (k.kind=1∧k.typ≤4) | []=>false) else decide (t.kind=1):=by
  unfold Px.beginB;rw[Nd.px_kind,Nd.px_oper];rfl
 have hb:∀a b:Int,(a==b)=decide (a=b):=fun a b=>by rw[Bool.eq_iff_iff];simp
 refine⟨fun h1=>⟨fun h2=>⟨fun h3=>?_,fun h3=>?_⟩,fun h2=>?_⟩,fun h1=>?_⟩
 ·have e1:t.kind=5:=by simpa using h1
  have e2:t.oper=1:=by simpa using h2
  have e3:t.kids.length=1:=by have:(t.kids.length:Int)=1:=by simpa using h3
                              omega
  obtain⟨ad,k,had,hk,hrd,hko,hkm⟩:=(ht.cons (x:=(b_n,Obj.cells #[.int .u8 t.kind,.int .u8 t.oper,.int .u8 t.typ,.int .i64 t.n,.int .u8 t.field,.string t.name,.slice t.a t.kids.length t.c,.int .i64 t.pos] 28 (0,0)))).kids.at (i:=0) (Int.le_refl 0) (by omega)
  have hkids:t.px.kids=[k.px]:=by
   rw[Nd.px_kids]
   cases hkk:t.kids with
   | nil=>rw[hkk] at e3;cases e3
   | cons y l =>
     rw[hkk] at hk e3
     cases l with
     | nil=>cases hk;rfl
     | cons z l=>simp at e3
  rw[hdef,if_pos ⟨e1,e2⟩,hkids]
  refine⟨⟨Int.le_refl 0,by omega⟩,ad,had,_,_,_,_,_,_,_,_,_,_,hrd,fun b_k=>Tri.ret (formed_spec t hs I _ (ht.cons.cons)) fun I1 l1=>⟨_,rfl,F,.refl _,fun h4=>⟨fun h5=>⟨?_,rfl⟩,fun h5=>⟨?_,rfl⟩⟩,fun h4=>⟨?_,rfl⟩⟩⟩
  ·have e5:k.kind=1:=by simpa using h5
   rw[h4]
   show _=Ending.returned (.bool (true&&decide (k.px.kind=1∧k.px.typ≤4)))
   rw[Nd.px_kind,Nd.px_typ,e5];simp
  ·have e5:k.kind≠1:=by simpa using h5
   rw[h4]
   show _=Ending.returned (.bool (true&&decide (k.px.kind=1∧k.px.typ≤4)))
   rw[Nd.px_kind,decide_eq_false (fun h=>e5 h.1)];rfl
  ·rw[h4];rfl
 ·have e1:t.kind=5:=by simpa using h1
  have e3:t.kids.length≠1:=fun e=>by rw[e] at h3;simp at h3
  have hf:t.px.formed=false:=by
   cases hh:t.px.formed with
   | false=>rfl
   | true =>
     have:=formed_kids hh (by rw[Nd.px_kind];exact e1)
     rw[Nd.px_kids,List.length_map] at this
     exact absurd this e3
  refine Tri.ret (formed_spec t hs I _ ht.cons) fun I1 l1=>⟨_,rfl,F,.refl _,fun h4=>?_,fun h4=>⟨?_,rfl⟩⟩
  ·rw[hf] at h4;cases h4
  ·rw[hf];rfl
 ·have e2:t.oper≠1:=by simpa using h2
  rw[hdef,if_neg (fun h=>e2 h.2)]
  refine Tri.ret (formed_spec t hs I _ ht.cons) fun I1 l1=>⟨_,rfl,F,.refl _,fun h4=>⟨?_,rfl⟩,fun h4=>⟨?_,rfl⟩⟩
  ·rw[h4,hb];rfl
  ·rw[h4];rfl
 ·have e1:t.kind≠5:=by simpa using h1
  rw[hdef,if_neg (fun h=>e1 h.1)]
  refine Tri.ret (formed_spec t hs I _ ht.cons) fun I1 l1=>⟨_,rfl,F,.refl _,fun h4=>⟨?_,rfl⟩,fun h4=>⟨?_,rfl⟩⟩
  ·rw[h4,hb];rfl
  ·rw[h4];rfl
theorem rreg_spec(r:RegN)(hs:r.init.px.size≤1048576)(I:Imm)(F:Heap)(hr:r.Ok I F):Tri P 75 #[r.v] I F (Ret (.bool (nameB r.name&&(decide (1≤r.typ∧r.typ≤6)&&(r.init.px.formed&&r.init.px.beginB)))) F):=by
 refine ref12_reg.vc ?_
 unfold ref12_reg.V
 intro b_r
 refine Tri.ret (rName_spec I _) fun I1 l1=>⟨_,rfl,F,.refl _,fun h1=>⟨fun h2=>⟨fun h3=>?_,fun h3=>⟨?_,rfl⟩⟩,fun h2=>⟨?_,rfl⟩⟩,fun h1=>⟨?_,rfl⟩⟩
 ·have e2:=of_decide_eq_true h2
  have e3:=of_decide_eq_true h3
  refine Tri.ret (begins_spec r.init hs I1 _ (NdOk.mono hr l1 fun a ha=>.tail _ ha)) fun I2 l2=>⟨_,rfl,F,.refl _, ?_,rfl⟩
  rw[h1,decide_eq_true (show 1≤r.typ∧r.typ≤6 by omega)];rfl
 ·have e3:=of_decide_eq_false h3
  rw[h1,decide_eq_false (show ¬(1≤r.typ∧r.typ≤6) by omega)];rfl
 ·have e2:=of_decide_eq_false h2
  rw[h1,decide_eq_false (show ¬(1≤r.typ∧r.typ≤6) by omega)];rfl
 ·rw[h1];rfl
end Go.Lx
namespace Go.Lx
open Go.Vc
theorem rCheck_specT(s:StgN)(hs:s.p.Thin)(I:Imm)(F:Heap)(hok:s.Ok I F):Tri P 47 #[s.v] I F (Ret (.int .i64 s.p.check) F):=by
 have hc:s.p.check=thenE (errB (nameB s.name) 120) (thenE (errB (decide (s.regs.length≤12)) 121) (thenE (firstE RegP.check (s.regs.map RegN.p)) (thenE (errB (decide (s.slots.length≤4)) 121) (thenE (firstE SlotP.check s.slots)
   (thenE (errB (decide (0<s.states.length)) 120) (thenE (errB (decide (s.states.length≤12)) 121) (firstE StateP.check (s.states.map StateN.p)))))))):=by
  show thenE _ (thenE (errB (decide ((s.regs.map RegN.p).length≤12)) 121) (thenE _ (thenE _ (thenE _ (thenE (errB (decide (0<(s.states.map StateN.p).length)) 120) (thenE (errB (decide ((s.states.map StateN.p).length≤12)) 121) _))))))=_
  rw[List.length_map,List.length_map];rfl
 have hnm:∀r∈s.regs,r.init.px.size≤1048576:=fun r hr=>hs.reg _ (List.mem_map_of_mem hr)
 have hst:∀x∈s.states,x.p.Light:=fun x hx=>hs.state _ (List.mem_map_of_mem hx)
 have lr:=hs.regs
 have ls:=hs.slots
 have lt:=hs.states
 simp only[StgN.p,List.length_map] at lr ls lt
 refine ref12_Check.vc
  (fun x q i m I' F'=>F'=F∧0≤i∧i≤s.regs.length∧m=(s.regs.length-i).toNat∧Imm.le I I'∧s.p.check=thenE (firstE RegP.check ((s.regs.drop i.toNat).map RegN.p)) (thenE (errB (decide (s.slots.length≤4)) 121) (thenE (firstE SlotP.check s.slots)
    (thenE (errB (decide (0<s.states.length)) 120) (thenE (errB (decide (s.states.length≤12)) 121) (firstE StateP.check (s.states.map StateN.p)))))))
  (fun x q i m I' F'=>F'=F∧0≤i∧i≤s.slots.length∧m=(s.slots.length-i).toNat∧Imm.le I I'∧s.p.check=thenE (firstE SlotP.check ((s.slots.drop i.toNat).map id)) (thenE (errB (decide (0<s.states.length)) 120) (thenE (errB (decide (s.states.length≤12)) 121) (firstE StateP.check (s.states.map StateN.p)))))
  (fun x i m I' F'=>F'=F∧0≤i∧i≤s.states.length∧m=(s.states.length-i).toNat∧Imm.le I I'∧s.p.check=firstE StateP.check ((s.states.drop i.toNat).map StateN.p)) ?_
 unfold ref12_Check.V
 intro b_s
 have ok:∀{J:Imm},Imm.le I J→s.Ok J ((b_s,Obj.cells #[.string s.name,.slice s.ra s.regs.length s.rc,.slice s.sa s.slots.length s.sc,.slice s.ta s.states.length s.tc] 39 (0,0))::F):=fun hl=>(hok.mono hl fun _ h=>h).cons
 refine Tri.ret (rName_spec I _) fun I1 l1=>⟨_,rfl,F,.refl _,fun h=>⟨?_,rfl⟩,fun h=>⟨fun h3=>⟨?_,rfl⟩,fun h3=>⟨⟨_,rfl,by omega,by omega,rfl,l1, ?_⟩,fun x q i m I2 F2 _ ⟨gF,g0,g1,gm,l2,ge⟩=>?_⟩⟩⟩
 ·rw[hc,not_f h];rfl
 ·have e3:=of_decide_eq_true h3
  rw[hc,not_t h,decide_eq_false (show ¬s.regs.length≤12 by omega)];rfl
 ·have e3:=of_decide_eq_false h3
  rw[hc,not_t h,decide_eq_true (show s.regs.length≤12 by omega)];rfl
 subst gF
 refine⟨fun hlt=>?_,fun hlt=>⟨fun h4=>⟨?_,rfl⟩,fun h4=>⟨⟨_,rfl,by omega,by omega,rfl,l2, ?_⟩,fun x1 q1 j m4 I4 F4 _ ⟨gF,j0,j1,jm,l4,je⟩=>?_⟩⟩⟩
 ·have hlt:=of_decide_eq_true hlt
  obtain⟨ad,r,had,hr,hrd,hrm⟩:=SlG.atm (ok l2).regs g0 hlt
  have hcr:r.p.check=errB (nameB r.name&&(decide (1≤r.typ∧r.typ≤6)&&(r.init.px.formed&&r.init.px.beginB))) 120:=rfl
  refine⟨⟨g0,hlt⟩,ad,had,_,_,_,_,_,_,_,_,_,_,_,_,_,hrd,Tri.ret (rreg_spec r (hnm r hrm) I2 _ ((ok l2).reg r hrm)) fun I3 l3=>⟨_,rfl,F2,.refl _,fun h=>⟨?_,rfl⟩,fun h=>⟨(s.regs.length-(i+1)).toNat,by omega,rfl, ?_⟩⟩⟩
  ·rw[ge,firstE_map RegP.check RegN.p hr,hcr,not_f h];rfl
  ·rw[w64 (n:=i+1) (by omega)]
   refine⟨by omega,by omega,rfl,Imm.le_trans l2 l3, ?_⟩
   rw[ge,firstE_map RegP.check RegN.p hr,hcr,not_t h,show (i+1).toNat=i.toNat+1 by omega];rfl
 ·have hlt:=of_decide_eq_false hlt
  have e4:=of_decide_eq_true h4
  rw[ge,firstE_end RegP.check RegN.p (by omega),decide_eq_false (show ¬s.slots.length≤4 by omega)];rfl
 ·have hlt:=of_decide_eq_false hlt
  have e4:=of_decide_eq_false h4
  rw[ge,firstE_end RegP.check RegN.p (by omega),decide_eq_true (show s.slots.length≤4 by omega)]
  show thenE 0 (thenE 0 (thenE (firstE SlotP.check s.slots) _))=thenE (firstE SlotP.check (s.slots.map id)) _
  rw[List.map_id];rfl
 subst gF
 refine⟨fun hlt=>?_,fun hlt=>⟨fun h5=>⟨?_,rfl⟩,fun h5=>⟨fun h6=>⟨?_,rfl⟩,fun h6=>⟨⟨_,rfl,by omega,by omega,rfl,l4, ?_⟩,fun x2 k m8 I6 F6 _ ⟨gF,k0,k1,km,l6,ke⟩=>?_⟩⟩⟩⟩
 ·have hlt:=of_decide_eq_true hlt
  obtain⟨ad,r,had,hr,hrd,hrm⟩:=SlG.atm (ok l4).slots j0 hlt
  have hcr:SlotP.check r=errB (nameB r.name) 120:=rfl
  refine⟨⟨j0,hlt⟩,ad,had,r.name,hrd.field (o:=0) rfl,Tri.ret (rName_spec I4 _) fun I5 l5=>⟨_,rfl,F4,.refl _,fun h=>⟨?_,rfl⟩,fun h=>⟨(s.slots.length-(j+1)).toNat,by omega,rfl, ?_⟩⟩⟩
  ·rw[je,firstE_map SlotP.check id hr]
   show _=Ending.returned (.int .i64 (thenE (thenE (SlotP.check r) _) _))
   rw[hcr,not_f h];rfl
  ·rw[w64 (n:=j+1) (by omega)]
   refine⟨by omega,by omega,rfl,Imm.le_trans l4 l5, ?_⟩
   rw[je,firstE_map SlotP.check id hr,show (j+1).toNat=j.toNat+1 by omega]
   show thenE (thenE (SlotP.check r) _) _=_
   rw[hcr,not_t h];rfl
 ·have hlt:=of_decide_eq_false hlt
  have e5:s.states.length=0:=by have:(s.states.length:Int)=0:=by simpa using h5
                                omega
  rw[je,firstE_end SlotP.check id (by omega),e5];rfl
 ·have hlt:=of_decide_eq_false hlt
  have e6:=of_decide_eq_true h6
  rw[je,firstE_end SlotP.check id (by omega),decide_eq_true (show 0<s.states.length by omega),decide_eq_false (show ¬s.states.length≤12 by omega)];rfl
 ·have hlt:=of_decide_eq_false hlt
  have e5:¬s.states.length=0:=fun e=>by rw[e] at h5;simp at h5
  have e6:=of_decide_eq_false h6
  rw[je,firstE_end SlotP.check id (by omega),decide_eq_true (show 0<s.states.length by omega),decide_eq_true (show s.states.length≤12 by omega)];rfl
 subst gF
 refine⟨fun hlt=>?_,fun hlt=>⟨?_,rfl⟩⟩
 ·have hlt:=of_decide_eq_true hlt
  obtain⟨ad,x,had,hx,hrd,hxm⟩:=SlG.atm (ok l6).states k0 hlt
  refine⟨⟨k0,hlt⟩,ad,had,_,_,_,_,_,hrd,Tri.ret (rstate_spec x (hst x hxm) I6 _ ((ok l6).state x hxm)) fun I7 l7=>⟨_,rfl,F6,.refl _,fun h=>⟨?_,rfl⟩,fun h=>⟨(s.states.length-(k+1)).toNat,by omega,rfl, ?_⟩⟩⟩
  ·rw[ke,firstE_map StateP.check StateN.p hx,thenE_ne (by simpa using h)]
  ·have e1:x.p.check=0:=by simpa using h
   rw[w64 (n:=k+1) (by omega)]
   refine⟨by omega,by omega,rfl,Imm.le_trans l6 l7, ?_⟩
   rw[ke,firstE_map StateP.check StateN.p hx,e1,thenE_zero,show (k+1).toNat=k.toNat+1 by omega]
 ·have hlt:=of_decide_eq_false hlt
  rw[ke,firstE_end StateP.check StateN.p (by omega)]
end Go.Lx
namespace Go.Lx
open Go.Vc
theorem pmA'{α:Type}{x y w z:α}{A l:List α}:(x::y::w::z::(A++l)).Perm (A++(x::y::w::z::l)):=List.perm_append_comm_assoc [x,y,w,z] A l
theorem ty_one(x:Int):∀u∈encB x,u.oneCell'=true:=by
 intro u hu
 simp only[encB,List.mem_singleton] at hu
 subst hu;rfl
theorem ty_app{a:Option Addr}{n c b1:Nat}{l:List Int}{A F R:Heap}{I:Imm}(hA:Acc 1 encB 24 a n c l A)(hl:l.length≤1000000000)(x:Int)(hbm:I b1=some (.cells #[.int .u8 x] 24 (0,0)))(hF:F.Perm (A++R)) :
  TriE P (Builtin.append_ #[186,186] 186 #[.slice a n c,.slice (some ⟨b1,0,none⟩) 1 1]) I F fun v I' G=>∃a' n' c' A',v=.slice a' n' c'∧Acc 1 encB 24 a' n' c' (l++[x]) A'∧G.Perm (A'++R):=by
 refine TriE.perm (TriE.mono (append_spec' (f:=encB) (z:=1) (zv:=.int .u8 0) (fun _=>rfl) (by':=1) (by kernel_rfl) (by kernel_rfl) rfl (by decide) hA (xs:=[x]) (fun y _=>ty_one y) (by simp) rfl ?_ (by simp only[List.length_cons,List.length_nil];omega) (F:=R)) fun v I' G _ ⟨a',n',c',A',h1,h2,h3,_⟩=>⟨a',n',c',A',h1,h2,by rw[h3]⟩) hF
 exact⟨rfl,_,_,_,.inl hbm,fun j hj=>by simp[encB]⟩
theorem typed_ok{s:StgP}{x:Px}(h:∀k∈x.kids,(typed s k).2.e=0):typed s x=nodeE s x (x.kids.map fun k=>(typed s k).1):=by
 rw[typed_eq,typedL_ok h,if_neg fun h=>h rfl]
theorem typed_bad{s:StgP}{x k:Px}{i:Nat}(h:∀k∈x.kids.take i,(typed s k).2.e=0)(hk:x.kids[i]? = some k)(he:(typed s k).2.e≠0):typed s x=(0,(typed s k).2):=by
 rw[typed_eq,typedL_err h hk he,if_pos he]
theorem typed15_spec(s:StgN)(hl:s.regs.length≤1048576):∀(t:Nd),t.px.size≤1048576→t.px.formed=true→∀(I:Imm) (F:Heap),s.Ok I F→NdOk I F t →
  Tri P 78 #[s.v,t.v] I F (Ret (.tuple #[.int .u8 (typed s.p t.px).1,(typed s.p t.px).2.v]) F):=by
 refine Nd.ind fun t ih hs hf I F hok ht=>Tri.clean ?_
 have hln:=size_len hs
 have ekid:t.px.kids=t.kids.map Nd.px:=Nd.px_kids t
 have ek:t.px.kind=t.kind:=Nd.px_kind t
 have en:t.px.name=t.name:=by cases t;rw[Nd.px];rfl
 have epos:t.px.pos=t.pos:=by cases t;rw[Nd.px];rfl
 refine ref15_typed.vc (fun x a n c i b0 b1 b2 m I' F'=>0≤i∧i≤t.kids.length∧m=(t.kids.length-i).toNat∧∃A,Acc 1 encB 24 a n c ((t.kids.take i.toNat).map fun k=>(typed s.p k.px).1) A∧(∀k∈t.kids.take i.toNat,(typed s.p k.px).2.e=0)∧F'.Perm (A++F)) ?_
 unfold ref15_typed.V
 intro b_s b_n b2
 refine⟨⟨_,by omega,by omega,rfl,[],Acc.nil,fun k hk=>by simp at hk,.refl _⟩,fun x a n c i b0 b1 b2' m I1 F1 l1 ⟨g0,g1,gm,A,hA,hall,hF1⟩=>⟨fun hlt=>?_,fun hlt=>?_⟩⟩
 ·have hlt:=of_decide_eq_true hlt
  have hsub:∀y,y∈F→y∈F1:=fun y hy=>hF1.mem_iff.2 (List.mem_append_right _ hy)
  have hok1:s.Ok I1 F1:=hok.mono l1 hsub
  have ht1:NdOk I1 F1 t:=ht.mono l1 hsub
  obtain⟨ad,k,had,hk,hrd,hko,hkm⟩:=ht1.kids.at g0 hlt
  have hkf:=Px.formed_kid hf k.px (by rw[ekid];exact List.mem_map_of_mem hkm)
  have hks:=size_kid hkm hs
  have hbad:(typed s.p k.px).2.e≠0→typed s.p t.px=(0,(typed s.p k.px).2):=fun he=>typed_bad (i:=i.toNat) (fun y hy=>by
   rw[ekid,←List.map_take] at hy
   obtain⟨z,hz,rfl⟩:=List.mem_map.1 hy
   exact hall z hz) (by rw[ekid,List.getElem?_map,hk];rfl) he
  have hnext:(typed s.p k.px).2.e=0→∀y∈t.kids.take (i+1).toNat,(typed s.p y.px).2.e=0:=fun he=>by
   rw[show (i+1).toNat=i.toNat+1 by omega]
   exact take_all hk hall he
  have hlen:((t.kids.take i.toNat).map fun k=>(typed s.p k.px).1).length≤1000000000:=by rw[List.length_map,List.length_take];omega
  refine⟨⟨g0,hlt⟩,ad,had,_,_,_,_,_,_,_,_,_,_,hrd.sub (Imm.le_refl _) (fun y hy=>.tail _ (.tail _ (.tail _ hy))), ?_, ?_⟩
  ·refine Tri.ret (ih k hkm hks hkf I1 _ (hok1.mono (Imm.le_refl _) fun y hy=>.tail _ (.tail _ (.tail _ hy))) (hko.mono (Imm.le_refl _) fun y hy=>.tail _ (.tail _ (.tail _ hy)))) fun I2 l2=>⟨_,_,_,_,rfl,F1,.refl _,fun b_f=>⟨fun he=>?_,fun he=>?_⟩⟩
   ·have he:(typed s.p k.px).2.e≠0:=by simpa using he
    rw[hbad he]
    exact⟨rfl,A,hF1⟩
   ·have he:(typed s.p k.px).2.e=0:=by simpa using he
    intro b3 I3 l3 hb3
    refine (ty_app hA hlen (typed s.p k.px).1 hb3 (R:=_::_::_::_::F) (((((hF1.cons _).cons _).cons _).cons _).trans pmA')).mono fun v I4 G l4 ⟨a',n',c',A',hv,hA',hG⟩=>⟨a',n',c',hv,A'++F,hG.trans pmA'.symm,(t.kids.length-(i+1)).toNat,by omega, ?_⟩
    rw[w64 (n:=i+1) (by omega)]
    refine⟨by omega,by omega,rfl,A', ?_,hnext he,.refl _⟩
    rw[show (i+1).toNat=i.toNat+1 by omega,map_snoc0 hk]
    exact hA'
  ·intro b_f
   refine Tri.ret (ih k hkm hks hkf I1 _ (hok1.mono (Imm.le_refl _) fun y hy=>.tail _ (.tail _ (.tail _ (.tail _ hy)))) (hko.mono (Imm.le_refl _) fun y hy=>.tail _ (.tail _ (.tail _ (.tail _ hy))))) fun I2 l2=>⟨_,_,_,_,rfl,F1,.refl _,fun he=>?_,fun he=>?_⟩
   ·have he:(typed s.p k.px).2.e≠0:=by simpa using he
    rw[hbad he]
    exact⟨rfl,A,hF1⟩
   ·have he:(typed s.p k.px).2.e=0:=by simpa using he
    intro b3 I3 l3 hb3
    refine (ty_app hA hlen (typed s.p k.px).1 hb3 (R:=_::_::_::_::F) (((((hF1.cons _).cons _).cons _).cons _).trans pmA')).mono fun v I4 G l4 ⟨a',n',c',A',hv,hA',hG⟩=>⟨a',n',c',hv,A'++F,hG.trans pmA'.symm,(t.kids.length-(i+1)).toNat,by omega, ?_⟩
    rw[w64 (n:=i+1) (by omega)]
    refine⟨by omega,by omega,rfl,A', ?_,hnext he,.refl _⟩
    rw[show (i+1).toNat=i.toNat+1 by omega,map_snoc0 hk]
    exact hA'
 ·have hlt:=of_decide_eq_false hlt
  have hsub:∀y,y∈F→y∈F1:=fun y hy=>hF1.mem_iff.2 (List.mem_append_right _ hy)
  rw[List.take_of_length_le (l:=t.kids) (i:=i.toNat) (by omega)] at hA hall
  have hty:typed s.p t.px=nodeE s.p t.px (t.kids.map fun k=>(typed s.p k.px).1):=by
   rw[typed_ok (fun k hk=>by
    rw[ekid] at hk
    obtain⟨z,hz,rfl⟩:=List.mem_map.1 hk
    exact hall z hz),ekid,List.map_map]
   rfl
  have hn:=hA.1
  rw[List.length_map] at hn
  subst hn
  generalize hts:(t.kids.map fun k=>(typed s.p k.px).1)=ts at hA hty
  have hSl:∀J,SlG J ((b_s,Obj.cells #[.string s.name,.slice s.ra s.regs.length s.rc,.slice s.sa s.slots.length s.sc,.slice s.ta s.states.length s.tc] 39 (0,0))::(b_n,Obj.cells #[.int .u8 t.kind,.int .u8 t.oper,.int .u8 t.typ,.int .i64 t.n,.int .u8 t.field,.string t.name,.slice t.a t.kids.length t.c,.int .i64 t.pos] 28 (0,0))::(b2,Obj.cells #[.int .i64 b0,.int .i64 b1,.bool b2'] 51 (0,0))::F1) 1 encB a t.kids.length ts:=fun J=>hA.slg (z:=1) (f:=encB) (fun _=>rfl) J fun y hy=>.tail _ (.tail _ (.tail _ (hF1.mem_iff.2 (List.mem_append_left _ hy))))
  have hok1:∀{J:Imm},Imm.le I J→s.Ok J ((b_s,Obj.cells #[.string s.name,.slice s.ra s.regs.length s.rc,.slice s.sa s.slots.length s.sc,.slice s.ta s.states.length s.tc] 39 (0,0))::(b_n,Obj.cells #[.int .u8 t.kind,.int .u8 t.oper,.int .u8 t.typ,.int .i64 t.n,.int .u8 t.field,.string t.name,.slice t.a t.kids.length t.c,.int .i64 t.pos] 28 (0,0))::(b2,Obj.cells #[.int .i64 b0,.int .i64 b1,.bool b2'] 51 (0,0))::F1):=fun hJ=>hok.mono hJ fun y hy=>.tail _ (.tail _ (.tail _ (hsub y hy)))
  rw[hty]
  unfold nodeE
  rw[ek,en,epos]
  refine⟨fun h2=>?_,fun h2=>?_⟩
  ·have h2:t.kind=2:=by simpa using h2
   refine Tri.ret (reg15_spec hl t.name (hok1 l1)) fun I2 l2=>⟨_,rfl,F1,.refl _,fun hr=>?_,fun hr=>?_⟩
   ·have hr:=of_decide_eq_true hr
    rw[if_pos ⟨h2,hr⟩]
    exact⟨rfl,A,hF1⟩
   ·have hr:=of_decide_eq_false hr
    rw[if_neg (fun h=>hr h.2)]
    refine Tri.ret (node15_spec s t hl hf (hSl I2) (hok1 (Imm.le_trans l1 l2)) fun _=>by omega) fun I3 l3=>⟨_,_,rfl,F1,.refl _,fun hb=>?_,fun hb=>?_⟩
    ·rw[if_neg (by simpa using hb)];exact⟨rfl,A,hF1⟩
    ·rw[if_pos (by simpa using hb)];exact⟨rfl,A,hF1⟩
  ·have h2:t.kind≠2:=by simpa using h2
   rw[if_neg (fun h=>h2 h.1)]
   refine Tri.ret (node15_spec s t hl hf (hSl I1) (hok1 l1) fun h=>absurd h h2) fun I3 l3=>⟨_,_,rfl,F1,.refl _,fun hb=>?_,fun hb=>?_⟩
   ·rw[if_neg (by simpa using hb)];exact⟨rfl,A,hF1⟩
   ·rw[if_pos (by simpa using hb)];exact⟨rfl,A,hF1⟩
theorem checkE_formed{x:Px}(h:x.checkE=0):x.formed=true:=by
 unfold Px.checkE at h
 split at h
 ·assumption
 ·cases h
theorem Of15_spec(s:StgN)(hl:s.regs.length≤1048576)(t:Nd)(hs:t.px.size≤1048576)(I:Imm)(F:Heap)(hok:s.Ok I F)(ht:NdOk I F t) :
  Tri P 117 #[s.v,t.v] I F (Ret (.tuple #[.int .u8 (typeOf s.p t.px).1,(typeOf s.p t.px).2.v]) F):=by
 refine ref15_Of.vc ?_
 unfold ref15_Of.V
 unfold typeOf
 intro b_s b_n b2
 refine Tri.ret (rCheckExpr_spec t hs I _ (ht.mono (Imm.le_refl I) fun y hy=>.tail _ (.tail _ (.tail _ hy)))) fun I1 l1=>⟨_,rfl,F,.refl _,fun h=>?_,fun h=>?_⟩
 ·have h:t.px.checkE≠0:=by simpa using h
  rw[if_pos h];exact⟨rfl,rfl⟩
 ·have h:t.px.checkE=0:=by simpa using h
  rw[if_neg (by simpa using h)]
  refine Tri.ret (typed15_spec s hl t hs (checkE_formed h) I1 _ (hok.mono l1 fun y hy=>.tail _ (.tail _ (.tail _ hy))) (ht.mono l1 fun y hy=>.tail _ (.tail _ (.tail _ hy)))) fun I2 l2=>?_
  exact⟨_,_,_,_,rfl,F,.refl _,rfl,rfl⟩
end Go.Lx
namespace Go.Lx
open Go.Vc
def TF.enc(f:TF):List Value:=[.int .i64 f.e,.int .i64 f.pos,.bool f.of]
theorem tf_one(f:TF):∀u∈f.enc,u.oneCell'=true:=by
 intro u hu
 simp only[TF.enc,List.mem_cons,List.not_mem_nil,or_false] at hu
 rcases hu with h | h | h<;>(subst h;rfl)
theorem ixF_lt{nm:ByteArray}:∀(l:List ByteArray) (i:Int),0≤i→0≤ixF nm l i→ixF nm l i<i+l.length
 | [],i,_,h=>by rw[ixF] at h;omega
 | x::r,i,hi,h=>by
   rw[ixF] at h ⊢
   split at h
   ·rename_i hx
    rw[if_pos hx,List.length_cons];omega
   ·rename_i hx
    rw[if_neg hx,List.length_cons]
    have:=ixF_lt r (i+1) (by omega) h
    omega
theorem reg_lt{s:StgN}{nm:ByteArray}(h:0≤s.p.reg nm):s.p.reg nm<s.regs.length:=by
 have:=ixF_lt (nm:=nm) (s.p.regs.map RegP.name) 0 (Int.le_refl 0) h
 simp only[StgN.p,List.length_map] at this
 show ixF nm _ 0<_
 simp only[StgN.p]
 omega
section
variable (s:StgN) (hl:s.p.Thin) {I:Imm} {F:Heap} (hok:s.Ok I F)
include hl hok
theorem must15_spec(t:Nd)(hs:t.px.size≤1048576)(ht:NdOk I F t)(ty:Int):Tri P 81 #[s.v,t.v,.int .u8 ty] I F (Ret (mustT s.p t.px ty).v F):=by
 have lr:=hl.regs
 simp only[StgN.p,List.length_map] at lr
 have epos:t.px.pos=t.pos:=by cases t;rw[Nd.px];rfl
 refine ref15_must.vc ?_
 unfold ref15_must.V
 unfold mustT
 rw[epos]
 intro b_s b_n b2
 refine Tri.ret (Of15_spec s lr t hs I _ (hok.mono (Imm.le_refl I) fun y hy=>.tail _ (.tail _ (.tail _ hy))) (ht.mono (Imm.le_refl I) fun y hy=>.tail _ (.tail _ (.tail _ hy)))) fun I1 l1=>⟨_,_,_,_,rfl,F,.refl _,fun b_f=>⟨fun h=>?_,fun h=>⟨fun h2=>?_,fun h2=>?_⟩⟩⟩
 ·rw[if_pos (by simpa using h)];exact⟨rfl,rfl⟩
 ·rw[if_neg (by simpa using h),if_pos (by simpa using h2)];exact⟨rfl,rfl⟩
 ·rw[if_neg (by simpa using h),if_neg (by simpa using h2)];exact⟨rfl,rfl⟩
end
theorem first15_spec{a:Option Addr}{n c:Nat}{fs:List TF}{I:Imm}{F:Heap}(hS:SlG I F 3 TF.enc a n fs)(hn:n≤100):Tri P 118 #[.slice a n c] I F (Ret (firstT id fs).v F):=by
 have hnl:=hS.1
 refine ref15_first.vc (fun i b0 b1 b2 m I' F'=>F'=F∧0≤i∧i≤n∧m=(n-i).toNat∧firstT id fs=firstT id (fs.drop i.toNat)) ?_
 unfold ref15_first.V
 intro b2
 refine⟨⟨_,rfl,by omega,by omega,rfl,rfl⟩,fun i b0 b1 b2' m I1 F1 l1 ⟨gF,g0,g1,gm,ge⟩=>⟨fun hlt=>?_,fun hlt=>⟨?_,gF⟩⟩⟩
 ·subst gF
  have hlt:=of_decide_eq_true hlt
  obtain⟨ad,f,had,hf,hrd⟩:=(hS.mono l1 fun _ h=>h).at g0 hlt
  obtain⟨hk,rfl⟩:=List.getElem?_eq_some_iff.1 hf
  rw[List.drop_eq_getElem_cons hk,firstT] at ge
  have hrd':=hrd.sub (Imm.le_refl _) fun y hy=>List.Mem.tail (b2,Obj.cells #[.int .i64 b0,.int .i64 b1,.bool b2'] 51 (0,0)) hy
  refine⟨⟨g0,hlt⟩,ad,had,_,hrd'.field (o:=0) rfl,fun h=>⟨⟨g0,hlt⟩,ad,had,_,_,_,hrd', ?_,rfl⟩,fun h=>⟨(n-(i+1)).toNat,by omega,rfl, ?_⟩⟩
  ·rw[ge,if_pos (by simpa using h)];rfl
  ·rw[w64 (n:=i+1) (by omega)]
   refine⟨by omega,by omega,rfl, ?_⟩
   rw[ge,if_neg (by simpa using h),show (i+1).toNat=i.toNat+1 by omega]
 ·have hlt:=of_decide_eq_false hlt
  rw[ge,List.drop_eq_nil_of_le (by omega)];rfl
end Go.Lx
namespace Go.Lx
open Go.Vc
theorem pmT{α:Type}{x y w:α}{A l:List α}:(x::y::w::(A++l)).Perm (A++(x::y::w::l)):=List.perm_append_comm_assoc [x,y,w] A l
theorem tf_app{a:Option Addr}{n c b1:Nat}{l:List TF}{A F R:Heap}{I:Imm}(hA:Acc 3 TF.enc 51 a n c l A)(hl:l.length≤100)(x:TF)(hbm:I b1=some (.cells #[.int .i64 x.e,.int .i64 x.pos,.bool x.of] 51 (0,0)))(hF:F.Perm (A++R)) :
  TriE P (Builtin.append_ #[188,188] 188 #[.slice a n c,.slice (some ⟨b1,0,none⟩) 1 1]) I F fun v I' G=>∃a' n' c' A',v=.slice a' n' c'∧Acc 3 TF.enc 51 a' n' c' (l++[x]) A'∧G.Perm (A'++R) :=
 p_app (f:=TF.enc) (fun _=>rfl) (zv:=zTF.v) (by':=24) (by kernel_rfl) (by kernel_rfl) rfl (by decide) (by decide) hA hl x (tf_one x) hbm rfl hF
section
variable (s:StgN) (hl:s.p.Thin) {I:Imm} {F:Heap} (hok:s.Ok I F)
include hl hok
set_option maxHeartbeats 1000000 in
theorem do15_spec(d:DoN)(hd:d.p.Light)(hdo:d.Ok I F):Tri P 82 #[s.v,d.v] I F (Ret (doT s.p d.p).v F):=by
 have lr:=hl.regs
 have ls:=hl.slots
 have lt:=hl.states
 simp only[StgN.p,List.length_map] at lr ls lt
 simp only[DoP.Light,Small,DoP.nds,DoN.p,List.mem_cons,List.not_mem_nil,or_false] at hd
 have z1:d.side.px.size≤1048576:=hd _ (.inl rfl)
 have z2:d.qty.px.size≤1048576:=hd _ (.inr (.inl rfl))
 have z3:d.price.px.size≤1048576:=hd _ (.inr (.inr (.inl rfl)))
 have z4:d.value.px.size≤1048576:=hd _ (.inr (.inr (.inr rfl)))
 refine Tri.clean ?_
 obtain⟨i0,hi0⟩:∃i0,i0=doI s.p d.p:=⟨_,rfl⟩
 obtain⟨L1,hL1⟩:∃L,L=(if d.kind=1 then [mustT s.p d.side.px 6] else []):=⟨_,rfl⟩
 obtain⟨L2,hL2⟩:∃L,L=(if d.kind=1∨d.kind=2 then [mustT s.p d.qty.px 2] else []):=⟨_,rfl⟩
 obtain⟨L3,hL3⟩:∃L,L=(if d.kind=1∧d.order≠2∨d.kind=2 then [mustT s.p d.price.px 3] else []):=⟨_,rfl⟩
 obtain⟨L4,hL4⟩:∃L,L=(if d.kind=4 then [mustT s.p d.value.px (s.p.regT i0)] else []):=⟨_,rfl⟩
 have n1:L1.length≤1:=by rw[hL1];split<;>simp
 have n2:L2.length≤1:=by rw[hL2];split<;>simp
 have n3:L3.length≤1:=by rw[hL3];split<;>simp
 have n4:L4.length≤1:=by rw[hL4];split<;>simp
 have hL:doL s.p d.p=L1++(L2++(L3++L4)):=by rw[hL1,hL2,hL3,hL4,hi0];rfl
 have hI:doI s.p d.p=if d.kind=1 then (if d.name.toList=[] then 0 else s.p.slot d.name) else if d.kind=2∨d.kind=3 then s.p.slot d.name else if d.kind=4 then s.p.reg d.name else if d.kind=5 then s.p.room d.name else 0:=rfl
 refine ref15_do.vc (fun i I' F'=>F'=F∧i=i0)
  (fun a n c I' F'=>∃A,Acc 3 TF.enc 51 a n c L1 A∧F'.Perm (A++F))
  (fun a n c I' F'=>∃A,Acc 3 TF.enc 51 a n c (L1++L2) A∧F'.Perm (A++F))
  (fun a n c I' F'=>∃A,Acc 3 TF.enc 51 a n c (L1++L2++L3) A∧F'.Perm (A++F))
  (fun a n c I' F'=>∃A,Acc 3 TF.enc 51 a n c (L1++L2++L3++L4) A∧F'.Perm (A++F)) ?_
 unfold ref15_do.V
 intro b_s b_d b2
 have ok3:∀{J:Imm} {G:Heap} {x y w:Nat×Obj},Imm.le I J→(∀y,y∈F→y∈G)→s.Ok J (x::y::w::G):=fun hJ hG=>hok.mono hJ fun y hy=>.tail _ (.tail _ (.tail _ (hG y hy)))
 have nd3:∀{J:Imm} {G:Heap} {x y w:Nat×Obj} {t:Nd},NdOk I F t→Imm.le I J→(∀y,y∈F→y∈G)→NdOk J (x::y::w::G) t:=fun h hJ hG=>h.mono hJ fun y hy=>.tail _ (.tail _ (.tail _ (hG y hy)))
 refine⟨?_, ?_⟩
 ·refine⟨fun h1=>⟨fun hn=>?_,fun hn=>?_⟩,fun h1=>⟨fun h2=>?_,fun h2=>⟨fun h3=>?_,fun h3=>⟨fun h4=>?_,fun h4=>⟨fun h5=>?_,fun h5=>?_⟩⟩⟩⟩⟩
  ·have h1:d.kind=1:=by simpa using h1
   have hn:¬d.name.toList=[]:=by simpa using hn
   exact Tri.ret (slot15_spec ls d.name (ok3 (Imm.le_refl I) fun _ h=>h)) fun I1 l1=>⟨_,rfl,F,.refl _,rfl,by rw[hi0,hI,if_pos h1,if_neg hn]⟩
  ·have h1:d.kind=1:=by simpa using h1
   have hn:d.name.toList=[]:=by simpa using hn
   exact⟨rfl,by rw[hi0,hI,if_pos h1,if_pos hn]⟩
  all_goals have h1:d.kind≠1:=by simpa using h1
  all_goals rw[if_neg h1] at hI
  ·have h2:d.kind=2:=by simpa using h2
   exact Tri.ret (slot15_spec ls d.name (ok3 (Imm.le_refl I) fun _ h=>h)) fun I1 l1=>⟨_,rfl,F,.refl _,rfl,by rw[hi0,hI,if_pos (.inl h2)]⟩
  all_goals have h2:d.kind≠2:=by simpa using h2
  ·have h3:d.kind=3:=by simpa using h3
   exact Tri.ret (slot15_spec ls d.name (ok3 (Imm.le_refl I) fun _ h=>h)) fun I1 l1=>⟨_,rfl,F,.refl _,rfl,by rw[hi0,hI,if_pos (.inr h3)]⟩
  all_goals have h3:d.kind≠3:=by simpa using h3
  all_goals rw[if_neg (by omega)] at hI
  ·have h4:d.kind=4:=by simpa using h4
   exact Tri.ret (reg15_spec lr d.name (ok3 (Imm.le_refl I) fun _ h=>h)) fun I1 l1=>⟨_,rfl,F,.refl _,rfl,by rw[hi0,hI,if_pos h4]⟩
  all_goals have h4:d.kind≠4:=by simpa using h4
  all_goals rw[if_neg h4] at hI
  ·have h5:d.kind=5:=by simpa using h5
   exact Tri.ret (state15_spec lt d.name (ok3 (Imm.le_refl I) fun _ h=>h)) fun I1 l1=>⟨_,rfl,F,.refl _,rfl,by rw[hi0,hI,if_pos h5]⟩
  ·have h5:d.kind≠5:=by simpa using h5
   exact⟨rfl,by rw[hi0,hI,if_neg h5]⟩
 intro i I6 F6 l6 ⟨gF,gi⟩
 subst gF gi
 have hdT:doT s.p d.p=if i<0 then ⟨151,d.pos,false⟩ else firstT id (L1++(L2++(L3++L4))):=by
  unfold doT
  rw[hL,←hi0];rfl
 rw[hdT]
 refine⟨fun hneg=>?_,fun hneg=>?_⟩
 ·rw[if_pos (of_decide_eq_true hneg)]
  exact⟨rfl,[],.refl _⟩
 have hneg:=of_decide_eq_false hneg
 rw[if_neg hneg]
 have app:∀{J J2:Imm} {G G2:Heap} {a:Option Addr} {n c b1:Nat} {L:List TF} {A:Heap} {x y w:Nat×Obj} {f:TF},Acc 3 TF.enc 51 a n c L A→L.length≤100→G.Perm (A++F6)→J b1=some (.cells #[.int .i64 f.e,.int .i64 f.pos,.bool f.of] 51 (0,0)) →
   TriE P (Builtin.append_ #[188,188] 188 #[.slice a n c,.slice (some ⟨b1,0,none⟩) 1 1]) J (x::y::w::G) fun v I' G'=>∃(a':Option Addr) (n' c':Nat),v=.slice a' n' c'∧∃F1:Heap,G'.Perm (x::y::w::F1)∧∃A',Acc 3 TF.enc 51 a' n' c' (L++[f]) A'∧F1.Perm (A'++F6):=by
  intro J J2 G G2 a n c b1 L A x y w f hA hLl hG hb
  refine (tf_app hA hLl f hb (R:=x::y::w::F6) ((((hG.cons w).cons y).cons x).trans pmT)).mono fun v I' G' _ ⟨a',n',c',A',hv,hA',hG'⟩=>⟨a',n',c',hv,A'++F6,hG'.trans pmT.symm,A',hA',.refl _⟩
 refine⟨⟨fun h1=>?_,fun h1=>?_⟩,fun a n c I10 F9 l10 ⟨A,hA,hF9⟩=>⟨⟨fun h1=>?_,fun h1=>⟨fun h2=>?_,fun h2=>?_⟩⟩,fun a n c I17 F14 l17 ⟨A,hA,hF14⟩=>⟨⟨fun h1=>⟨fun ho=>?_,fun ho=>⟨fun h2=>?_,fun h2=>?_⟩⟩,fun h1=>⟨fun h2=>?_,fun h2=>?_⟩⟩,fun a n c I27 F21 l27 ⟨A,hA,hF21⟩=>⟨⟨fun h4=>?_,fun h4=>?_⟩,fun a n c I31 F24 l31 ⟨A,hA,hF24⟩=>?_⟩⟩⟩⟩
 ·have h1:d.kind=1:=by simpa using h1
  rw[if_pos h1] at hL1
  refine Tri.ret (must15_spec s hl (ok3 l6 fun _ h=>h) d.side z1 (nd3 hdo.1 l6 fun _ h=>h) 6) fun I7 l7=>⟨_,_,_,rfl,F6,.refl _,fun b5 I8 l8 hb=>(app (J2:=I8) (G2:=[]) (L:=[]) (A:=[]) Acc.nil (by decide) (.refl _) hb).mono fun v I9 G9 l9 ⟨a',n',c',hv,F1,hG,A',hA',hF1⟩=>⟨a',n',c',hv,F1,hG,A', ?_,hF1⟩⟩
  rw[hL1];exact hA'
 ·have h1:d.kind≠1:=by simpa using h1
  rw[if_neg h1] at hL1
  exact⟨[],by rw[hL1];exact Acc.nil,.refl _⟩
 ·have h1:d.kind=1:=by simpa using h1
  rw[if_pos (.inl h1)] at hL2
  have l610:=Imm.le_trans l6 l10
  have hs:∀y,y∈F6→y∈F9:=fun y hy=>hF9.mem_iff.2 (List.mem_append_right _ hy)
  refine Tri.ret (must15_spec s hl (ok3 l610 hs) d.qty z2 (nd3 hdo.2.1 l610 hs) 2) fun I7 l7=>⟨_,_,_,rfl,F9,.refl _,fun b5 I8 l8 hb=>(app (J2:=I8) (G2:=[]) hA (by omega) hF9 hb).mono fun v I9 G9 l9 ⟨a',n',c',hv,F1,hG,A',hA',hF1⟩=>⟨a',n',c',hv,F1,hG,A', ?_,hF1⟩⟩
  rw[hL2];exact hA'
 ·have h2:d.kind=2:=by simpa using h2
  rw[if_pos (.inr h2)] at hL2
  have l610:=Imm.le_trans l6 l10
  have hs:∀y,y∈F6→y∈F9:=fun y hy=>hF9.mem_iff.2 (List.mem_append_right _ hy)
  refine Tri.ret (must15_spec s hl (ok3 l610 hs) d.qty z2 (nd3 hdo.2.1 l610 hs) 2) fun I7 l7=>⟨_,_,_,rfl,F9,.refl _,fun b5 I8 l8 hb=>(app (J2:=I8) (G2:=[]) hA (by omega) hF9 hb).mono fun v I9 G9 l9 ⟨a',n',c',hv,F1,hG,A',hA',hF1⟩=>⟨a',n',c',hv,F1,hG,A', ?_,hF1⟩⟩
  rw[hL2];exact hA'
 ·have h1:d.kind≠1:=by simpa using h1
  have h2:d.kind≠2:=by simpa using h2
  rw[if_neg (by omega)] at hL2
  exact⟨A,by rw[hL2,List.append_nil];exact hA,hF9⟩
 ·have h1:d.kind=1:=by simpa using h1
  have ho:d.order≠2:=by simpa using ho
  rw[if_pos (.inl ⟨h1,ho⟩)] at hL3
  have l617:=Imm.le_trans l6 (Imm.le_trans l10 l17)
  have hs:∀y,y∈F6→y∈F14:=fun y hy=>hF14.mem_iff.2 (List.mem_append_right _ hy)
  refine Tri.ret (must15_spec s hl (ok3 l617 hs) d.price z3 (nd3 hdo.2.2.1 l617 hs) 3) fun I7 l7=>⟨_,_,_,rfl,F14,.refl _,fun b5 I8 l8 hb=>(app (J2:=I8) (G2:=[]) hA (by rw[List.length_append];omega) hF14 hb).mono fun v I9 G9 l9 ⟨a',n',c',hv,F1,hG,A',hA',hF1⟩=>⟨a',n',c',hv,F1,hG,A', ?_,hF1⟩⟩
  rw[hL3];exact hA'
 ·have h1:d.kind=1:=by simpa using h1
  have h2:d.kind=2:=by simpa using h2
  omega
 ·have h1:d.kind=1:=by simpa using h1
  have ho:d.order=2:=by simpa using ho
  rw[if_neg (by omega)] at hL3
  exact⟨A,by rw[hL3,List.append_nil];exact hA,hF14⟩
 ·have h2:d.kind=2:=by simpa using h2
  rw[if_pos (.inr h2)] at hL3
  have l617:=Imm.le_trans l6 (Imm.le_trans l10 l17)
  have hs:∀y,y∈F6→y∈F14:=fun y hy=>hF14.mem_iff.2 (List.mem_append_right _ hy)
  refine Tri.ret (must15_spec s hl (ok3 l617 hs) d.price z3 (nd3 hdo.2.2.1 l617 hs) 3) fun I7 l7=>⟨_,_,_,rfl,F14,.refl _,fun b5 I8 l8 hb=>(app (J2:=I8) (G2:=[]) hA (by rw[List.length_append];omega) hF14 hb).mono fun v I9 G9 l9 ⟨a',n',c',hv,F1,hG,A',hA',hF1⟩=>⟨a',n',c',hv,F1,hG,A', ?_,hF1⟩⟩
  rw[hL3];exact hA'
 ·have h1:d.kind≠1:=by simpa using h1
  have h2:d.kind≠2:=by simpa using h2
  rw[if_neg (by omega)] at hL3
  exact⟨A,by rw[hL3,List.append_nil];exact hA,hF14⟩
 ·have h4:d.kind=4:=by simpa using h4
  rw[if_pos h4] at hL4
  have hir:i=s.p.reg d.name:=by rw[hi0,hI,if_neg (by omega),if_neg (by omega),if_pos h4]
  have hilt:i<s.regs.length:=by rw[hir];exact reg_lt (by omega)
  have l627:=Imm.le_trans l6 (Imm.le_trans l10 (Imm.le_trans l17 l27))
  have hs:∀y,y∈F6→y∈F21:=fun y hy=>hF21.mem_iff.2 (List.mem_append_right _ hy)
  obtain⟨ad,r,had,hrr,hrd,_⟩:=SlG.atm (ok3 (x:=(b_s,Obj.cells #[.string s.name,.slice s.ra s.regs.length s.rc,.slice s.sa s.slots.length s.sc,.slice s.ta s.states.length s.tc] 39 (0,0))) (y:=(b_d,Obj.cells #[.int .u8 d.kind,.int .u8 d.order,.string d.name,.int .u8 d.side.kind,.int .u8 d.side.oper,.int .u8 d.side.typ,.int .i64 d.side.n,.int .u8 d.side.field,.string d.side.name,.slice d.side.a d.side.kids.length d.side.c,.int .i64 d.side.pos,.int .u8 d.qty.kind,.int .u8 d.qty.oper,.int .u8 d.qty.typ,.int .i64 d.qty.n,.int .u8 d.qty.field,.string d.qty.name,.slice d.qty.a d.qty.kids.length d.qty.c,.int .i64 d.qty.pos,.int .u8 d.price.kind,.int .u8 d.price.oper,.int .u8 d.price.typ,.int .i64 d.price.n,.int .u8 d.price.field,.string d.price.name,.slice d.price.a d.price.kids.length d.price.c,.int .i64 d.price.pos,.int .u8 d.value.kind,.int .u8 d.value.oper,.int .u8 d.value.typ,.int .i64 d.value.n,.int .u8 d.value.field,.string d.value.name,.slice d.value.a d.value.kids.length d.value.c,.int .i64 d.value.pos,.int .i64 d.pos] 99 (0,0))) (w:=(b2,Obj.cells #[.int .i64 0,.int .i64 0,.bool false] 51 (0,0))) l627 hs).regs (Int.not_lt.1 hneg) hilt
  have hT:s.p.regT i=r.typ:=by
   unfold StgP.regT
   show (((s.regs.map RegN.p)[i.toNat]?).map RegP.typ).getD 0=_
   rw[List.getElem?_map,hrr];rfl
  rw[hT] at hL4
  refine⟨⟨Int.not_lt.1 hneg,hilt⟩,ad,had,r.typ,hrd.field (o:=1) rfl, ?_⟩
  refine Tri.ret (must15_spec s hl (ok3 l627 hs) d.value z4 (nd3 hdo.2.2.2 l627 hs) r.typ) fun I7 l7=>⟨_,_,_,rfl,F21,.refl _,fun b5 I8 l8 hb=>(app (J2:=I8) (G2:=[]) hA (by rw[List.length_append,List.length_append];omega) hF21 hb).mono fun v I9 G9 l9 ⟨a',n',c',hv,F1,hG,A',hA',hF1⟩=>⟨a',n',c',hv,F1,hG,A', ?_,hF1⟩⟩
  rw[hL4];exact hA'
 ·have h4:d.kind≠4:=by simpa using h4
  rw[if_neg h4] at hL4
  exact⟨A,by rw[hL4,List.append_nil];exact hA,hF21⟩
 ·have hn:=hA.1
  subst hn
  refine Tri.ret (first15_spec (hA.slg (z:=3) (f:=TF.enc) (fun _=>rfl) I31 fun y hy=>.tail _ (.tail _ (.tail _ (hF24.mem_iff.2 (List.mem_append_left _ hy))))) (by simp only[List.length_append];omega)) fun I32 l32=>⟨_,_,_,rfl,F24,.refl _, ?_,A,hF24⟩
  simp only[List.append_assoc];rfl
theorem rule15_spec(r:RuleN)(hr:r.p.Light)(hro:r.Ok I F):Tri P 49 #[s.v,r.v] I F (Ret (ruleT s.p r.p).v F):=by
 have hdl:=hr.2.1
 simp only[RuleN.p,List.length_map] at hdl
 have hds:∀d∈r.dos,d.p.Light:=fun d hd=>hr.2.2 _ (List.mem_map_of_mem hd)
 have hrule:ruleT s.p r.p=thenT (mustT s.p r.when.px 5) (dosT s.p (r.dos.map DoN.p) false):=rfl
 refine ref15_rule.vc (fun last i b0 b1 b2 f0 f1 f2 m I' F'=>F'=F∧0≤i∧i≤r.dos.length∧m=(r.dos.length-i).toNat∧ruleT s.p r.p=dosT s.p ((r.dos.drop i.toNat).map DoN.p) last) ?_
 unfold ref15_rule.V
 intro b_s b_r b2
 have ok3:∀{J:Imm} {x y w:Nat×Obj},Imm.le I J→s.Ok J (x::y::w::F):=fun hJ=>hok.mono hJ fun y hy=>.tail _ (.tail _ (.tail _ hy))
 have ro3:∀{J:Imm} {x y w:Nat×Obj},Imm.le I J→r.Ok J (x::y::w::F):=fun hJ=>hro.mono hJ fun y hy=>.tail _ (.tail _ (.tail _ hy))
 refine Tri.ret (must15_spec s hl (ok3 (Imm.le_refl I)) r.when hr.1 (ro3 (Imm.le_refl I)).1 5) fun I1 l1=>⟨_,_,_,rfl,F,.refl _,fun b_f=>⟨fun h=>?_,fun h=>?_⟩⟩
 ·rw[hrule];unfold thenT;rw[if_pos (by simpa using h)];exact⟨rfl,rfl⟩
 ·have h:(mustT s.p r.when.px 5).e=0:=by simpa using h
  refine⟨⟨_,rfl,by omega,by omega,rfl,by rw[hrule];unfold thenT;rw[if_neg (by simpa using h)];rfl⟩,fun last i b0 b1 b2' f0 f1 f2 m I2 F2 l2 ⟨gF,g0,g1,gm,ge⟩=>⟨fun hlt=>?_,fun hlt=>⟨?_,gF⟩⟩⟩
  ·subst gF
   have hlt:=of_decide_eq_true hlt
   have l12:=Imm.le_trans l1 l2
   obtain⟨ad,d,had,hd,hrd,hdm⟩:=SlG.atm (hro.mono l12 fun _ h=>h).2.1 g0 hlt
   obtain⟨hk,rfl⟩:=List.getElem?_eq_some_iff.1 hd
   rw[List.drop_eq_getElem_cons hk,List.map_cons,dosT] at ge
   refine⟨⟨g0,hlt⟩,ad,had,_,_,_,_,_,_,_,_,_,_,_,_,_,_,_,_,_,_,_,_,_,_,_,_,_,_,_,_,_,_,_,_,_,_,_,_,_,_,_,_,_,_,_,_,hrd.sub (Imm.le_refl _) fun y hy=>.tail _ (.tail _ (.tail _ (.tail _ hy))),fun b_d=>⟨fun hla=>?_,fun hla=>?_⟩⟩
   ·rw[ge,if_pos hla];exact⟨rfl,rfl⟩
   ·rw[if_neg (by simp[hla])] at ge
    have hdo:=(hro.mono l12 fun _ h=>h).2.2 _ hdm
    refine Tri.ret (do15_spec s hl (hok.mono l12 fun y hy=>.tail _ (.tail _ (.tail _ (.tail _ (.tail _ hy))))) r.dos[i.toNat] (hds _ hdm) (hdo.mono (Imm.le_refl _) fun y hy=>.tail _ (.tail _ (.tail _ (.tail _ (.tail _ hy)))))) fun I3 l3=>⟨_,_,_,rfl,F2,.refl _,fun he=>?_,fun he=>?_⟩
    ·rw[ge,if_pos (by simpa using he)];exact⟨rfl,rfl⟩
    ·rw[if_neg (by simpa using he)] at ge
     rw[w64 (n:=i+1) (by omega)]
     refine⟨fun h5=>⟨(r.dos.length-(i+1)).toNat,by omega,rfl,by omega,by omega,rfl, ?_⟩,fun h5=>⟨(r.dos.length-(i+1)).toNat,by omega,rfl,by omega,by omega,rfl, ?_⟩⟩
     ·have h5:(r.dos[i.toNat]).kind=5:=by simpa using h5
      rw[ge,show (i+1).toNat=i.toNat+1 by omega,show decide ((r.dos[i.toNat]).p.kind=5∨(r.dos[i.toNat]).p.kind=6)=true from decide_eq_true (.inl h5)]
     ·have h5:(r.dos[i.toNat]).kind≠5:=by simpa using h5
      rw[ge,show (i+1).toNat=i.toNat+1 by omega]
      congr 1
      by_cases h6:(r.dos[i.toNat]).kind=6
      ·rw[show ((r.dos[i.toNat]).kind==6)=true by simpa using h6];exact decide_eq_true (.inr h6)
      ·rw[show ((r.dos[i.toNat]).kind==6)=false by simpa using h6];exact decide_eq_false (fun h=>h.elim h5 h6)
  ·have hlt:=of_decide_eq_false hlt
   rw[ge,List.drop_eq_nil_of_le (by omega)];rfl
end
end Go.Lx
namespace Go.Lx
open Go.Vc
theorem thenT_z(a:TF)(h:a.e=0)(b:TF):thenT a b=b:=by unfold thenT;rw[if_neg (by simpa using h)]
theorem thenT_e(a:TF)(h:a.e≠0)(b:TF):thenT a b=a:=by unfold thenT;rw[if_pos h]
def TF.Z(f:TF):Prop:=f.e=0→f=zTF
theorem zTF_Z:zTF.Z:=fun _=>rfl
theorem err_Z{e p:Int}{b:Bool}(h:e≠0):(⟨e,p,b⟩:TF).Z:=fun h'=>absurd h' h
theorem thenT_Z{a b:TF}(ha:a.Z)(hb:b.Z):(thenT a b).Z:=by
 unfold thenT;split
 ·exact ha
 ·exact hb
theorem mustT_Z(s:StgP)(x:Px)(t:Int):(mustT s x t).Z:=by
 unfold mustT;split
 ·rename_i h;exact fun h'=>absurd h' h
 ·split
  ·exact err_Z (by decide)
  ·exact zTF_Z
theorem dosT_Z(s:StgP):∀(l:List DoP) (b:Bool),(dosT s l b).Z
 | [],b=>zTF_Z
 | d::l,b=>by
   rw[dosT];split
   ·exact err_Z (by decide)
   ·split
    ·rename_i h;exact fun h'=>absurd h' h
    ·exact dosT_Z s l _
theorem ruleT_Z(s:StgP)(r:RuleP):(ruleT s r).Z:=thenT_Z (mustT_Z _ _ _) (dosT_Z _ _ _)
theorem namedR_Z(s:StgP):∀(l:List RegP) (i:Int),(namedR s l i).Z
 | [],i=>zTF_Z
 | r::l,i=>by
   rw[namedR];split
   ·exact err_Z (by decide)
   ·split
    ·exact err_Z (by decide)
    ·exact namedR_Z s l _
theorem namedS_Z(s:StgP):∀(l:List SlotP) (i:Int),(namedS s l i).Z
 | [],i=>zTF_Z
 | r::l,i=>by
   rw[namedS];split
   ·exact err_Z (by decide)
   ·exact namedS_Z s l _
theorem namedT_Z(s:StgP):∀(l:List StateP) (i:Int),(namedT s l i).Z
 | [],i=>zTF_Z
 | r::l,i=>by
   rw[namedT];split
   ·exact err_Z (by decide)
   ·exact namedT_Z s l _
theorem named_Z(s:StgP):s.named.Z:=thenT_Z (namedR_Z _ _ _) (thenT_Z (namedS_Z _ _ _) (namedT_Z _ _ _))
theorem thenE_z{a b:Int}(h:thenE a b=0):a=0∧b=0:=by
 unfold thenE at h
 split at h
 ·rename_i h0;exact⟨h0,h⟩
 ·rename_i h0;exact absurd h h0
theorem firstE_z{α:Type}{f:α→Int}:∀{l:List α},firstE f l=0→∀x∈l,f x=0
 | [],_,x,hx=>by cases hx
 | y::r,h,x,hx=>by
   rw[firstE] at h
   obtain⟨h1,h2⟩:=thenE_z h
   rcases List.mem_cons.1 hx with rfl | hx
   ·exact h1
   ·exact firstE_z h2 x hx
theorem errB_z{b:Bool}{n:Int}(hn:n≠0)(h:errB b n=0):b=true:=by
 unfold errB at h
 split at h
 ·assumption
 ·exact absurd h hn
theorem check_regs{s:StgP}(h:s.check=0):∀r∈s.regs,r.init.formed=true:=by
 unfold StgP.check at h
 obtain⟨_,h⟩:=thenE_z h
 obtain⟨_,h⟩:=thenE_z h
 obtain⟨h,_⟩:=thenE_z h
 intro r hr
 have h1:=errB_z (by decide) (firstE_z h r hr)
 simp only[Bool.and_eq_true] at h1
 exact h1.2.2.1
section
variable (s:StgN) (hl:s.p.Thin) {I:Imm} {F:Heap} (hok:s.Ok I F)
include hl hok
theorem named15_spec(hf:∀r∈s.regs,r.init.px.formed=true):Tri P 48 #[s.v] I F (Ret s.p.named.v F):=by
 have lr:=hl.regs
 have ls:=hl.slots
 have lt:=hl.states
 simp only[StgN.p,List.length_map] at lr ls lt
 have hnm:∀r∈s.regs,r.init.px.size≤1048576:=fun r hr=>hl.reg _ (List.mem_map_of_mem hr)
 have hdef:s.p.named=thenT (namedR s.p (s.regs.map RegN.p) 0) (thenT (namedS s.p s.slots 0) (namedT s.p (s.states.map StateN.p) 0)):=rfl
 refine ref15_named.vc (fun i b0 b1 b2 m I' F'=>F'=F∧0≤i∧i≤s.regs.length∧m=(s.regs.length-i).toNat∧namedR s.p (s.regs.map RegN.p) 0=namedR s.p ((s.regs.drop i.toNat).map RegN.p) i)
  (fun i b0 b1 b2 m I' F'=>F'=F∧0≤i∧i≤s.slots.length∧m=(s.slots.length-i).toNat∧s.p.named=thenT (namedS s.p (s.slots.drop i.toNat) i) (namedT s.p (s.states.map StateN.p) 0))
  (fun i b0 b1 b2 m I' F'=>F'=F∧0≤i∧i≤s.states.length∧m=(s.states.length-i).toNat∧s.p.named=namedT s.p ((s.states.drop i.toNat).map StateN.p) i) ?_
 unfold ref15_named.V
 intro b_s b2
 have ok2:∀{J:Imm} {x y:Nat×Obj},Imm.le I J→s.Ok J (x::y::F):=fun hJ=>hok.mono hJ fun y hy=>.tail _ (.tail _ hy)
 have ok3:∀{J:Imm} {x y w:Nat×Obj},Imm.le I J→s.Ok J (x::y::w::F):=fun hJ=>hok.mono hJ fun y hy=>.tail _ (.tail _ (.tail _ hy))
 refine⟨⟨_,rfl,by omega,by omega,rfl,rfl⟩,fun i b0 b1 b2' m I1 F1 l1 ⟨gF,g0,g1,gm,ge⟩=>⟨fun hlt=>?_,fun hlt=>⟨⟨_,gF,by omega,by omega,rfl, ?_⟩,fun i1 c0 c1 c2 m4 I4 F4 l4 ⟨hF,h0,h1,hm,he⟩=>⟨fun hlt1=>?_,fun hlt1=>⟨⟨_,hF,by omega,by omega,rfl, ?_⟩,fun i2 d0 d1 d2 m9 I6 F5 l6 ⟨kF,k0,k1,km,ke⟩=>⟨fun hlt2=>?_,fun hlt2=>⟨?_,kF⟩⟩⟩⟩⟩⟩⟩
 ·subst gF
  have hlt:=of_decide_eq_true hlt
  obtain⟨ad,r,had,hr,hrd,hrm⟩:=SlG.atm (ok2 (x:=(b_s,Obj.cells #[.string s.name,.slice s.ra s.regs.length s.rc,.slice s.sa s.slots.length s.sc,.slice s.ta s.states.length s.tc] 39 (0,0))) (y:=(b2,Obj.cells #[.int .i64 b0,.int .i64 b1,.bool b2'] 51 (0,0))) l1).regs g0 hlt
  obtain⟨hk,rfl⟩:=List.getElem?_eq_some_iff.1 hr
  rw[List.drop_eq_getElem_cons hk,List.map_cons,namedR] at ge
  refine⟨⟨g0,hlt⟩,ad,had,_,_,_,_,_,_,_,_,_,_,_,_,_,hrd,fun b_r=>?_⟩
  refine Tri.ret (reg15_spec lr _ (ok3 l1)) fun I2 l2=>⟨_,rfl,F1,.refl _,fun hn=>?_,fun hn=>?_⟩
  ·have hn:=of_decide_eq_true hn
   rw[hdef,ge,if_pos (show s.p.reg (s.regs[i.toNat]).p.name<i from hn)]
   exact⟨rfl,rfl⟩
  ·have hn:=of_decide_eq_false hn
   rw[if_neg (show ¬s.p.reg (s.regs[i.toNat]).p.name<i from hn)] at ge
   have l12:=Imm.le_trans l1 l2
   refine Tri.ret (typed15_spec s lr _ (hnm _ hrm) (hf _ hrm) I2 _ (ok3 l12) (NdOk.mono (hok.reg _ hrm) l12 fun y hy=>.tail _ (.tail _ (.tail _ hy)))) fun I3 l3=>⟨_,_,_,_,rfl,F1,.refl _,fun b__=>⟨fun ht=>?_,fun ht=>?_⟩⟩
   ·have ht:(typed s.p (s.regs[i.toNat]).init.px).1≠(s.regs[i.toNat]).typ:=by simpa using ht
    rw[hdef,ge,if_pos (show (typed s.p (s.regs[i.toNat]).p.init).1≠(s.regs[i.toNat]).p.typ from ht)]
    exact⟨rfl,rfl⟩
   ·have ht:(typed s.p (s.regs[i.toNat]).init.px).1=(s.regs[i.toNat]).typ:=by simpa using ht
    rw[if_neg (show ¬(typed s.p (s.regs[i.toNat]).p.init).1≠(s.regs[i.toNat]).p.typ from fun h=>h ht)] at ge
    rw[w64 (n:=i+1) (by omega)]
    refine⟨(s.regs.length-(i+1)).toNat,by omega,rfl,by omega,by omega,rfl, ?_⟩
    rw[ge,show (i+1).toNat=i.toNat+1 by omega]
 ·have hlt:=of_decide_eq_false hlt
  rw[List.drop_eq_nil_of_le (by omega)] at ge
  rw[hdef,ge];rfl
 ·subst hF
  have hlt1:=of_decide_eq_true hlt1
  have l14:=Imm.le_trans l1 l4
  obtain⟨ad,r,had,hr,hrd,hrm⟩:=SlG.atm (ok2 (x:=(b_s,Obj.cells #[.string s.name,.slice s.ra s.regs.length s.rc,.slice s.sa s.slots.length s.sc,.slice s.ta s.states.length s.tc] 39 (0,0))) (y:=(b2,Obj.cells #[.int .i64 c0,.int .i64 c1,.bool c2] 51 (0,0))) l14).slots h0 hlt1
  obtain⟨hk,rfl⟩:=List.getElem?_eq_some_iff.1 hr
  rw[List.drop_eq_getElem_cons hk,namedS] at he
  refine⟨⟨h0,hlt1⟩,ad,had,_,hrd.field (o:=0) rfl,_,Tri.ret (slot15_spec ls _ (ok2 l14)) fun I5 l5=>⟨rfl,.refl _⟩,fun hn=>⟨⟨h0,hlt1⟩,ad,had,_,hrd.field (o:=1) rfl, ?_⟩,fun hn=>⟨(s.slots.length-(i1+1)).toNat,by omega,rfl, ?_⟩⟩
  ·have hn:=of_decide_eq_true hn
   rw[he,if_pos hn]
   exact⟨rfl,rfl⟩
  ·have hn:=of_decide_eq_false hn
   rw[w64 (n:=i1+1) (by omega)]
   refine⟨by omega,by omega,rfl, ?_⟩
   rw[he,if_neg hn,show (i1+1).toNat=i1.toNat+1 by omega]
 ·have hlt1:=of_decide_eq_false hlt1
  rw[List.drop_eq_nil_of_le (by omega)] at he
  rw[he];rfl
 ·subst kF
  have hlt2:=of_decide_eq_true hlt2
  have l16:=Imm.le_trans l1 (Imm.le_trans l4 l6)
  obtain⟨ad,r,had,hr,hrd,hrm⟩:=SlG.atm (ok2 (x:=(b_s,Obj.cells #[.string s.name,.slice s.ra s.regs.length s.rc,.slice s.sa s.slots.length s.sc,.slice s.ta s.states.length s.tc] 39 (0,0))) (y:=(b2,Obj.cells #[.int .i64 d0,.int .i64 d1,.bool d2] 51 (0,0))) l16).states k0 hlt2
  obtain⟨hk,rfl⟩:=List.getElem?_eq_some_iff.1 hr
  rw[List.drop_eq_getElem_cons hk,List.map_cons,namedT] at ke
  refine⟨⟨k0,hlt2⟩,ad,had,_,hrd.field (o:=0) rfl,_,Tri.ret (state15_spec lt _ (ok2 l16)) fun I5 l5=>⟨rfl,.refl _⟩,fun hn=>⟨⟨k0,hlt2⟩,ad,had,_,hrd.field (o:=2) rfl, ?_⟩,fun hn=>⟨(s.states.length-(i2+1)).toNat,by omega,rfl, ?_⟩⟩
  ·have hn:=of_decide_eq_true hn
   rw[ke,if_pos (show s.p.room (s.states[i2.toNat]).p.name<i2 from hn)]
   exact⟨rfl,rfl⟩
  ·have hn:=of_decide_eq_false hn
   rw[w64 (n:=i2+1) (by omega)]
   refine⟨by omega,by omega,rfl, ?_⟩
   rw[ke,if_neg (show ¬s.p.room (s.states[i2.toNat]).p.name<i2 from hn),show (i2+1).toNat=i2.toNat+1 by omega]
 ·have hlt2:=of_decide_eq_false hlt2
  rw[List.drop_eq_nil_of_le (by omega)] at ke
  rw[ke];rfl
theorem Check15_specT:Tri P 26 #[s.v] I F (Ret s.p.types.v F):=by
 have lt:=hl.states
 simp only[StgN.p,List.length_map] at lt
 have hst:∀x∈s.states,x.p.Light:=fun x hx=>hl.state _ (List.mem_map_of_mem hx)
 refine ref15_Check.vc
  (fun i f0 f1 f2 m I0 F0 I' F'=>F'=F∧0≤i∧i≤s.states.length∧m=(s.states.length-i).toNat∧(⟨f0,f1,f2⟩:TF).Z∧s.p.types=thenT ⟨f0,f1,f2⟩ (firstT (fun x=>firstT (ruleT s.p) x.rules) ((s.states.drop i.toNat).map StateN.p)))
  (fun i k f0 f1 f2 m I0 F0 I' F'=>F'=F∧∃x,s.states[i.toNat]? = some x∧0≤k∧k≤x.rules.length∧m=(x.rules.length-k).toNat∧(⟨f0,f1,f2⟩:TF).Z∧s.p.types=thenT ⟨f0,f1,f2⟩ (thenT (firstT (ruleT s.p) ((x.rules.drop k.toNat).map RuleN.p)) (firstT (fun x=>firstT (ruleT s.p) x.rules) ((s.states.drop (i.toNat+1)).map StateN.p)))) ?_
 unfold ref15_Check.V
 intro b_s b2
 have ok2:∀{J:Imm} {x y:Nat×Obj},Imm.le I J→s.Ok J (x::y::F):=fun hJ=>hok.mono hJ fun y hy=>.tail _ (.tail _ hy)
 have ok3:∀{J:Imm} {x y w:Nat×Obj},Imm.le I J→s.Ok J (x::y::w::F):=fun hJ=>hok.mono hJ fun y hy=>.tail _ (.tail _ (.tail _ hy))
 have hdef:s.p.types=if s.p.check≠0 then ⟨s.p.check,0,false⟩ else thenT s.p.named (firstT (fun x=>firstT (ruleT s.p) x.rules) (s.states.map StateN.p)):=rfl
 refine Tri.ret (rCheck_specT s hl I _ (ok2 (Imm.le_refl I))) fun I1 l1=>⟨_,rfl,F,.refl _,fun hc=>?_,fun hc=>?_⟩
 ·have hc:s.p.check≠0:=by simpa using hc
  rw[hdef,if_pos hc];exact⟨rfl,rfl⟩
 have hc:s.p.check=0:=by simpa using hc
 rw[if_neg (by simpa using hc)] at hdef
 have hfm:∀r∈s.regs,r.init.px.formed=true:=fun r hr=>check_regs hc r.p (List.mem_map_of_mem hr)
 refine Tri.ret (named15_spec s hl (ok2 l1) hfm) fun I2 l2=>⟨_,_,_,rfl,F,.refl _,fun b_f=>⟨⟨_,rfl,by omega,by omega,rfl,named_Z _,hdef⟩,fun i f0 f1 f2 m I3 F3 l3 ⟨gF,g0,g1,gm,gz,ge⟩=>⟨fun hlt=>⟨fun hf=>?_,fun hf=>?_⟩,fun hlt=>?_⟩⟩⟩
 ·subst gF
  have hlt:=of_decide_eq_true hlt
  have hf:f0=0:=by simpa using hf
  have l13:=Imm.le_trans l1 (Imm.le_trans l2 l3)
  obtain⟨x,hx⟩:∃x,s.states[i.toNat]? = some x:=⟨_,List.getElem?_eq_getElem (by omega)⟩
  obtain⟨hk,hxe⟩:=List.getElem?_eq_some_iff.1 hx
  have hxm:x∈s.states:=hxe▸List.getElem_mem hk
  have hxl:=(hst x hxm).1
  simp only[StateN.p,List.length_map] at hxl
  rw[List.drop_eq_getElem_cons hk,hxe,List.map_cons,firstT] at ge
  refine⟨⟨_,rfl,x,hx,by omega,by omega,rfl,gz, ?_⟩,fun k h0 h1 h2 m3 I4 F4 l4 ⟨hF,x',hx',k0,k1,km,kz,ke⟩=>?_⟩
  ·rw[ge];rfl
  subst hF
  obtain rfl:x=x':=by rw[hx] at hx';exact Option.some.inj hx'
  have l14:=Imm.le_trans l13 l4
  obtain⟨ad,x2,had,hx2,hrd,_⟩:=SlG.atm (ok3 (x:=(b_s,Obj.cells #[.string s.name,.slice s.ra s.regs.length s.rc,.slice s.sa s.slots.length s.sc,.slice s.ta s.states.length s.tc] 39 (0,0))) (y:=(b2,Obj.cells #[.int .i64 0,.int .i64 0,.bool false] 51 (0,0))) (w:=(b_f,Obj.cells #[.int .i64 h0,.int .i64 h1,.bool h2] 51 (0,0))) l14).states g0 hlt
  obtain rfl:x=x2:=by rw[hx] at hx2;exact Option.some.inj hx2
  refine⟨⟨g0,hlt⟩,ad,had,_,_,_,hrd.field (o:=1) rfl,fun hlt2=>⟨fun hh=>?_,fun hh=>?_⟩,fun hlt2=>?_⟩
  ·have hlt2:=of_decide_eq_true hlt2
   have hh:h0=0:=by simpa using hh
   have hxo:=(ok3 (x:=(b_s,Obj.cells #[.string s.name,.slice s.ra s.regs.length s.rc,.slice s.sa s.slots.length s.sc,.slice s.ta s.states.length s.tc] 39 (0,0))) (y:=(b2,Obj.cells #[.int .i64 0,.int .i64 0,.bool false] 51 (0,0))) (w:=(b_f,Obj.cells #[.int .i64 h0,.int .i64 h1,.bool h2] 51 (0,0))) l14).state x hxm
   obtain⟨ad5,r,had5,hr,hrd5,hrm⟩:=SlG.atm hxo.1 k0 hlt2
   obtain⟨hk5,hre⟩:=List.getElem?_eq_some_iff.1 hr
   rw[List.drop_eq_getElem_cons hk5,hre,List.map_cons,firstT] at ke
   refine⟨⟨g0,hlt⟩,ad,had,_,_,_,hrd.field (o:=1) rfl,⟨k0,hlt2⟩,ad5,had5,_,_,_,_,_,_,_,_,_,_,_,_,_,_,hrd5,(ruleT s.p r.p).e,(ruleT s.p r.p).pos,(ruleT s.p r.p).of,Tri.ret (rule15_spec s hl (ok3 l14) r ((hst x hxm).2 _ (List.mem_map_of_mem hrm)) (hxo.2 r hrm)) fun I5 l5=>⟨rfl,.refl _⟩,(x.rules.length-(k+1)).toNat,by omega,rfl,x,hx, ?_⟩
   rw[w64 (n:=k+1) (by omega)]
   refine⟨by omega,by omega,rfl,ruleT_Z _ _, ?_⟩
   rw[ke,thenT_z _ hh,show (k+1).toNat=k.toNat+1 by omega]
   by_cases he:(ruleT s.p r.p).e=0
   ·rw[if_neg (by simpa using he),thenT_z _ he]
   ·rw[if_pos he,thenT_e _ he,thenT_e (⟨(ruleT s.p r.p).e,(ruleT s.p r.p).pos,(ruleT s.p r.p).of⟩:TF) he]
  ·have hh:h0≠0:=by simpa using hh
   rw[w64 (n:=i+1) (by omega)]
   refine⟨(s.states.length-(i+1)).toNat,by omega,rfl,by omega,by omega,rfl,kz, ?_⟩
   rw[ke,thenT_e _ hh,thenT_e _ hh]
  ·have hlt2:=of_decide_eq_false hlt2
   rw[w64 (n:=i+1) (by omega)]
   refine⟨(s.states.length-(i+1)).toNat,by omega,rfl,by omega,by omega,rfl,kz, ?_⟩
   rw[ke,(List.drop_eq_nil_of_le (by omega):x.rules.drop k.toNat=[]),show (i+1).toNat=i.toNat+1 by omega];rfl
 ·have hf:f0≠0:=by simpa using hf
  rw[ge,thenT_e _ hf];exact⟨rfl,gF⟩
 ·have hlt:=of_decide_eq_false hlt
  rw[List.drop_eq_nil_of_le (by omega)] at ge
  rw[ge]
  refine⟨?_,gF⟩
  show Ending.returned (TF.v ⟨f0,f1,f2⟩)=.returned (thenT ⟨f0,f1,f2⟩ zTF).v
  unfold thenT
  split
  ·rfl
  ·rename_i h0
   have h0:f0=0:=by simpa using h0
   rw[gz h0]
end
end Go.Lx
