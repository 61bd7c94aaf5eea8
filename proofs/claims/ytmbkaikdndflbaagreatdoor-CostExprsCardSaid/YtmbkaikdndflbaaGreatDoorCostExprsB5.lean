import Derived.Test.YtmbkaikdndflbaaGreatDoorCostExprsB4
set_option linter.unusedVariables false
set_option linter.unusedSimpArgs false
set_option linter.unusedSectionVars false
set_option maxRecDepth 100000
namespace Go.Lx
open Go.Vc Go.Proofs.Tryz
def shT_y0:List (Nat×List Sh):=[(3,[.one (.int .i64)]),(4,[.one .bool]),(9,[.one .str]),(24,[.one (.int .u8)]),(28,[.agg [(.int .u8),(.int .u8),(.int .u8),(.int .i64),(.int .u8),.str,.slc,(.int .i64)]]),(47,[.one (.int .i64)]),(51,[.agg [(.int .i64),(.int .i64),.bool]]),(63,[.one .slc]),(77,[.agg [.str,(.int .u8),(.int .u8),(.int .u8),(.int .u8),(.int .i64),(.int .u8),.str,.slc,(.int .i64),(.int .i64)]]),(84,[.agg [(.int .u8),(.int .u8),(.int .u8),(.int .i64),(.int .u8),.str,.slc,(.int .i64),.slc,(.int .i64)]]),(99,[.agg [(.int .u8),(.int .u8),.str,(.int .u8),(.int .u8),(.int .u8),(.int .i64),(.int .u8),.str,.slc,(.int .i64),(.int .u8),(.int .u8),(.int .u8),(.int .i64),(.int .u8),.str,.slc,(.int .i64),(.int .u8),(.int .u8),(.int .u8),(.int .i64),(.int .u8),.str,.slc,(.int .i64),(.int .u8),(.int .u8),(.int .u8),(.int .i64),(.int .u8),.str,.slc,(.int .i64),(.int .i64)]]),(135,[.one (.int .u8),.agg [(.int .i64),(.int .i64),.bool]]),(165,[.one (.int .u8),.one .bool]),(186,[.one .slc]),(188,[.one .slc])]
def ref15_number.V(t:Int)(I:Imm)(F:Heap)(Q:PostQ)  : Prop:=(Dt (t≥1) (Q (.returned (.bool (decide (t≤4)))) I F) (Q (.returned (.bool false)) I F))
theorem ref15_number.vc{t:Int}{I:Imm}{F:Heap}{Q:PostQ}  (h:ref15_number.V t I F Q):Tri P 139 #[.int .u8 t] I F Q :=
 tw (A:=(an [1001] [] shT_y0)) [] func139 h
def ref15_Reg.V(l:Bs)(b:OA)(a d:Nat)(e:OA)(f g:Nat)(h:OA)(j k:Nat)(c:Bs)(I:Imm)(F:Heap)(Q:PostQ)(Inv6:Int→Int→Nat→Imm→Heap→Prop):Prop:=∀n:Nat,(∃m:Nat,Inv6 0 0 m I F)∧∀(x i:Int) (m1:Nat) (I1:Imm) (F1:Heap),Imm.le I I1→Inv6 x i m1 I1 F1→(Dt (i<(a:Int)) ((0≤i∧i<(a:Int))∧∃ad:Addr,b=some ad∧∃(m2:Bs),Rd I1 ((n,Obj.cells #[.string l,.slice b a d,.slice e f g,.slice h j k] 39 (0,0))::F1) ((ad.add (Int.toNat i*11)).add 0) [.string m2]∧(It (m2.toList==c.toList) (Q (.returned (.int .i64 i)) I1 F1) (∃m3:Nat,m3<m1∧Inv6 x (IntKind.wrap .i64 (i+1)) m3 I1 F1))) (Q (.returned (.int .i64 (-1))) I1 F1))
theorem ref15_Reg.vc{l:Bs}{a:OA}{b c:Nat}{d:OA}{e f:Nat}{g:OA}{i j:Nat}{k:Bs}{I:Imm}{F:Heap}{Q:PostQ}(Inv6:Int→Int→Nat→Imm→Heap→Prop)(h:ref15_Reg.V l a b c d e f g i j k I F Q Inv6):Tri P 77 #[.agg #[.string l,.slice a b c,.slice d e f,.slice g i j],.string k] I F Q :=
 tw (A:=(annL [2004,4007] [] [] shT_y0 [(6,⟨[(4,(.int .i64)),(5,(.int .i64))],[],fun _ _ _ vs m I F=>match vs with | [.int _ y0,.int _ y1]=>Inv6 y0 y1 m I F | _=>False,[],[]⟩)] [] [] [] [] [] [])) [] func77 h
def ref15_Slot.V(l:Bs)(d:OA)(e f:Nat)(b:OA)(a g:Nat)(h:OA)(j k:Nat)(c:Bs)(I:Imm)(F:Heap)(Q:PostQ)(Inv6:Int→Int→Nat→Imm→Heap→Prop):Prop:=∀n:Nat,(∃m:Nat,Inv6 0 0 m I F)∧∀(x i:Int) (m1:Nat) (I1:Imm) (F1:Heap),Imm.le I I1→Inv6 x i m1 I1 F1→(Dt (i<(a:Int)) ((0≤i∧i<(a:Int))∧∃ad:Addr,b=some ad∧∃(m2:Bs),Rd I1 ((n,Obj.cells #[.string l,.slice d e f,.slice b a g,.slice h j k] 39 (0,0))::F1) ((ad.add (Int.toNat i*2)).add 0) [.string m2]∧(It (m2.toList==c.toList) (Q (.returned (.int .i64 i)) I1 F1) (∃m3:Nat,m3<m1∧Inv6 x (IntKind.wrap .i64 (i+1)) m3 I1 F1))) (Q (.returned (.int .i64 (-1))) I1 F1))
theorem ref15_Slot.vc{l:Bs}{a:OA}{b c:Nat}{d:OA}{e f:Nat}{g:OA}{i j:Nat}{k:Bs}{I:Imm}{F:Heap}{Q:PostQ}(Inv6:Int→Int→Nat→Imm→Heap→Prop)(h:ref15_Slot.V l a b c d e f g i j k I F Q Inv6):Tri P 79 #[.agg #[.string l,.slice a b c,.slice d e f,.slice g i j],.string k] I F Q :=
 tw (A:=(annL [2004,4007] [] [] shT_y0 [(6,⟨[(4,(.int .i64)),(5,(.int .i64))],[],fun _ _ _ vs m I F=>match vs with | [.int _ y0,.int _ y1]=>Inv6 y0 y1 m I F | _=>False,[],[]⟩)] [] [] [] [] [] [])) [] func79 h
def ref15_State.V(l:Bs)(d:OA)(e f:Nat)(g:OA)(h j:Nat)(b:OA)(a k:Nat)(c:Bs)(I:Imm)(F:Heap)(Q:PostQ)(Inv6:Int→Int→Nat→Imm→Heap→Prop):Prop:=∀n:Nat,(∃m:Nat,Inv6 0 0 m I F)∧∀(x i:Int) (m1:Nat) (I1:Imm) (F1:Heap),Imm.le I I1→Inv6 x i m1 I1 F1→(Dt (i<(a:Int)) ((0≤i∧i<(a:Int))∧∃ad:Addr,b=some ad∧∃(m2:Bs),Rd I1 ((n,Obj.cells #[.string l,.slice d e f,.slice g h j,.slice b a k] 39 (0,0))::F1) ((ad.add (Int.toNat i*3)).add 0) [.string m2]∧(It (m2.toList==c.toList) (Q (.returned (.int .i64 i)) I1 F1) (∃m3:Nat,m3<m1∧Inv6 x (IntKind.wrap .i64 (i+1)) m3 I1 F1))) (Q (.returned (.int .i64 (-1))) I1 F1))
theorem ref15_State.vc{l:Bs}{a:OA}{b c:Nat}{d:OA}{e f:Nat}{g:OA}{i j:Nat}{k:Bs}{I:Imm}{F:Heap}{Q:PostQ}(Inv6:Int→Int→Nat→Imm→Heap→Prop)(h:ref15_State.V l a b c d e f g i j k I F Q Inv6):Tri P 80 #[.agg #[.string l,.slice a b c,.slice d e f,.slice g i j],.string k] I F Q :=
 tw (A:=(annL [2004,4007] [] [] shT_y0 [(6,⟨[(4,(.int .i64)),(5,(.int .i64))],[],fun _ _ _ vs m I F=>match vs with | [.int _ y0,.int _ y1]=>Inv6 y0 y1 m I F | _=>False,[],[]⟩)] [] [] [] [] [] [])) [] func80 h
def ref15_product.V(vb:Int→Value)(a b:Int)(I:Imm)(F:Heap)(Q:PostQ)  : Prop:=(It (a==1) (Tc1 P 139 #[vb b] I (·) F .bool fun r I1 F1=>(It r (Q (.returned (vb b)) I1 F1) (It (b==1) (Tc1 P 139 #[vb a] I1 (·) F1 .bool fun r1 I2 F2=>(It r1 (Q (.returned (vb a)) I2 F2) (It (a==3) (It (b==2) (Q (.returned (vb 1)) I2 F2) (It (a==2) (It (b==3) (Q (.returned (vb 1)) I2 F2) (Q (.returned (vb 0)) I2 F2)) (Q (.returned (vb 0)) I2 F2))) (It (a==2) (It (b==3) (Q (.returned (vb 1)) I2 F2) (Q (.returned (vb 0)) I2 F2)) (Q (.returned (vb 0)) I2 F2))))) (It (a==3) (It (b==2) (Q (.returned (vb 1)) I1 F1) (It (a==2) (It (b==3) (Q (.returned (vb 1)) I1 F1) (Q (.returned (vb 0)) I1 F1)) (Q (.returned (vb 0)) I1 F1))) (It (a==2) (It (b==3) (Q (.returned (vb 1)) I1 F1) (Q (.returned (vb 0)) I1 F1)) (Q (.returned (vb 0)) I1 F1)))))) (It (b==1) (Tc1 P 139 #[vb a] I (·) F .bool fun r2 I3 F3=>(It r2 (Q (.returned (vb a)) I3 F3) (It (a==3) (It (b==2) (Q (.returned (vb 1)) I3 F3) (It (a==2) (It (b==3) (Q (.returned (vb 1)) I3 F3) (Q (.returned (vb 0)) I3 F3)) (Q (.returned (vb 0)) I3 F3))) (It (a==2) (It (b==3) (Q (.returned (vb 1)) I3 F3) (Q (.returned (vb 0)) I3 F3)) (Q (.returned (vb 0)) I3 F3))))) (It (a==3) (It (b==2) (Q (.returned (vb 1)) I F) (It (a==2) (It (b==3) (Q (.returned (vb 1)) I F) (Q (.returned (vb 0)) I F)) (Q (.returned (vb 0)) I F))) (It (a==2) (It (b==3) (Q (.returned (vb 1)) I F) (Q (.returned (vb 0)) I F)) (Q (.returned (vb 0)) I F)))))
theorem ref15_product.vc{a b:Int}{I:Imm}{F:Heap}{Q:PostQ}  (h:ref15_product.V (.int .u8) a b I F Q):Tri P 155 #[.int .u8 a,.int .u8 b] I F Q :=
 tw (A:=(an [1001,1004,3001,3004,5001,5004,5008,5011] [139] shT_y0)) [139] func155 h
def ref15_quotient.V(vb:Int→Value)(a b:Int)(I:Imm)(F:Heap)(Q:PostQ)  : Prop:=Tc1 P 139 #[vb a] I (·) F .bool fun r I1 F1=>(It r (It (b==1) (Q (.returned (vb a)) I1 F1) (Tc1 P 139 #[vb a] I1 (·) F1 .bool fun r1 I2 F2=>(It r1 (It (a==b) (Q (.returned (vb 1)) I2 F2) (Q (.returned (vb 0)) I2 F2)) (Q (.returned (vb 0)) I2 F2)))) (Tc1 P 139 #[vb a] I1 (·) F1 .bool fun r2 I3 F3=>(It r2 (It (a==b) (Q (.returned (vb 1)) I3 F3) (Q (.returned (vb 0)) I3 F3)) (Q (.returned (vb 0)) I3 F3))))
theorem ref15_quotient.vc{a b:Int}{I:Imm}{F:Heap}{Q:PostQ}  (h:ref15_quotient.V (.int .u8) a b I F Q):Tri P 156 #[.int .u8 a,.int .u8 b] I F Q :=
 tw (A:=(an [1001,1004,3001,3005] [139] shT_y0)) [139] func156 h
def ref15_two.V(vb:Int→Value)(vt:Bool→Value)(o a b:Int)(I:Imm)(F:Heap)(Q:PostQ)  : Prop:=(It (o==6) (It (a==b) (Tc1 P 139 #[vb a] I (·) F vt fun r I1 F1=>Q (.returned (.tuple #[vb a,vt r])) I1 F1) (Q (.returned (.tuple #[vb a,vt false])) I F)) (It (o==7) (It (a==b) (Tc1 P 139 #[vb a] I (·) F vt fun r1 I2 F2=>Q (.returned (.tuple #[vb a,vt r1])) I2 F2) (Q (.returned (.tuple #[vb a,vt false])) I F)) (It (o==10) (It (a==b) (Tc1 P 139 #[vb a] I (·) F vt fun r2 I3 F3=>Q (.returned (.tuple #[vb a,vt r2])) I3 F3) (Q (.returned (.tuple #[vb a,vt false])) I F)) (It (o==4) (It (a==b) (Tc1 P 139 #[vb a] I (·) F vt fun r3 I4 F4=>Q (.returned (.tuple #[vb a,vt r3])) I4 F4) (Q (.returned (.tuple #[vb a,vt false])) I F)) (It (o==5) (It (a==b) (Tc1 P 139 #[vb a] I (·) F vt fun r4 I5 F5=>Q (.returned (.tuple #[vb a,vt r4])) I5 F5) (Q (.returned (.tuple #[vb a,vt false])) I F)) (It (o==8) (Tc1 P 155 #[vb a,vb b] I (·) F vb fun r5 I6 F6=>Q (.returned (.tuple #[vb r5,vt (r5 != 0)])) I6 F6) (It (o==9) (Tc1 P 156 #[vb a,vb b] I (·) F vb fun r6 I7 F7=>Q (.returned (.tuple #[vb r6,vt (r6 != 0)])) I7 F7) (It (o==11) (Q (.returned (.tuple #[vb 5,vt (a==b)])) I F) (It (o==12) (Q (.returned (.tuple #[vb 5,vt (a==b)])) I F) (It (o==17) (It (a==b) (Q (.returned (.tuple #[vb 5,vt (a==5)])) I F) (Q (.returned (.tuple #[vb 5,vt false])) I F)) (It (o==18) (It (a==b) (Q (.returned (.tuple #[vb 5,vt (a==5)])) I F) (Q (.returned (.tuple #[vb 5,vt false])) I F)) (It (a==b) (Tc1 P 139 #[vb a] I (·) F vt fun r7 I8 F8=>Q (.returned (.tuple #[vb 5,vt r7])) I8 F8) (Q (.returned (.tuple #[vb 5,vt false])) I F)))))))))))))
theorem ref15_two.vc{o a b:Int}{I:Imm}{F:Heap}{Q:PostQ}  (h:ref15_two.V (.int .u8) .bool o a b I F Q):Tri P 140 #[.int .u8 o,.int .u8 a,.int .u8 b] I F Q :=
 tw (A:=(an [3000,4000,5000,6000,7000,8001,9000,12000,15000,16000,18000,19000,20000,21000] [139,155,156] shT_y0)) [139,155,156] func140 h
def ref15_node.V(a c:Nat→Nat×Obj)(vb:Int→Value)(vt:Bool→Value)(al:Bs)(i:OA)(j p:Nat)(q:OA)(s t:Nat)(u:OA)(v w:Nat)(f k x aq l:Int)(am:Bs)(an:OA)(ao ap:Nat)(ar:Int)(h:OA)(g au:Nat)(I:Imm)(F:Heap)(Q:PostQ)  : Prop:=∀d:Nat,∀e:Nat,(It (f==1) (Q (.returned (.tuple #[vb x,vt true])) I F) (It (f==2) (∃(r:Int),(Tri P 77 #[.agg #[.string al,.slice i j p,.slice q s t,.slice u v w],.string am] I ((c d)::(a e)::F) fun e1 I1 G1=>e1=.returned (.int .i64 r)∧List.Perm G1 ((c d)::(a e)::F))∧((0≤r∧r<(j:Int))∧∃ad:Addr,i=some ad∧∃(m:Int),Rd I ((c d)::(a e)::F) ((ad.add (Int.toNat r*11)).add 1) [vb m]∧Q (.returned (.tuple #[vb m,vt true])) I F)) (It (f==3) (∀(b:Nat) (I2:Imm),Imm.le I I2→I2 b=some (Obj.cells #[vb 3,vb 3,vb 3,vb 2,vb 4,vb 2] 24 (0,0))→((0≤(IntKind.wrap .u8 (l-1))∧(IntKind.wrap .u8 (l-1))<(6:Int))∧∃ab:Addr,some ⟨b,0,none⟩=some ab∧∃(m1:Int),Rd I2 ((c d)::(a e)::F) (ab.add (Int.toNat (IntKind.wrap .u8 (l-1))*1)) [vb m1]∧Q (.returned (.tuple #[vb m1,vt true])) I2 F)) (It (f==4) (Q (.returned (.tuple #[vb 5,vt true])) I F) (It (f==7) ((0≤(1:Int)∧(1:Int)<(g:Int))∧∃ac:Addr,h=some ac∧∃(m2:Int),Rd I ((c d)::(a e)::F) (ac.add (Int.toNat 1*1)) [vb m2]∧((0≤(0:Int)∧(0:Int)<(g:Int))∧∃ae:Addr,h=some ae∧∃(m3:Int),Rd I ((c d)::(a e)::F) (ae.add (Int.toNat 0*1)) [vb m3]∧(It (m3==5) ((0≤(1:Int)∧(1:Int)<(g:Int))∧∃af:Addr,h=some af∧∃(m4:Int),Rd I ((c d)::(a e)::F) (af.add (Int.toNat 1*1)) [vb m4]∧((0≤(2:Int)∧(2:Int)<(g:Int))∧∃ag:Addr,h=some ag∧∃(m5:Int),Rd I ((c d)::(a e)::F) (ag.add (Int.toNat 2*1)) [vb m5]∧Q (.returned (.tuple #[vb m2,vt (m4==m5)])) I F)) (Q (.returned (.tuple #[vb m2,vt false])) I F)))) (It (f==9) ((0≤(0:Int)∧(0:Int)<(g:Int))∧∃ah:Addr,h=some ah∧∃(m6:Int),Rd I ((c d)::(a e)::F) (ah.add (Int.toNat 0*1)) [vb m6]∧∃(r1:Bool),(Tri P 139 #[vb m6] I ((c d)::(a e)::F) fun e2 I3 G2=>e2=.returned (vt r1)∧List.Perm G2 ((c d)::(a e)::F))∧Q (.returned (.tuple #[vb x,vt r1])) I F) (It ((g:Int)==2) ((0≤(0:Int)∧(0:Int)<(g:Int))∧∃ai:Addr,h=some ai∧∃(m7:Int),Rd I ((c d)::(a e)::F) (ai.add (Int.toNat 0*1)) [vb m7]∧((0≤(1:Int)∧(1:Int)<(g:Int))∧∃aj:Addr,h=some aj∧∃(m8:Int),Rd I ((c d)::(a e)::F) (aj.add (Int.toNat 1*1)) [vb m8]∧∃(r0:Int) (y:Bool),(Tri P 140 #[vb k,vb m7,vb m8] I ((c d)::(a e)::F) fun e3 I4 G3=>e3=.returned (.tuple #[vb r0,vt y])∧List.Perm G3 ((c d)::(a e)::F))∧Q (.returned (.tuple #[vb r0,vt y])) I F)) (It (k==2) ((0≤(0:Int)∧(0:Int)<(g:Int))∧∃ak:Addr,h=some ak∧∃(m9:Int),Rd I ((c d)::(a e)::F) (ak.add (Int.toNat 0*1)) [vb m9]∧Q (.returned (.tuple #[vb 5,vt (m9==5)])) I F) ((0≤(0:Int)∧(0:Int)<(g:Int))∧∃n:Addr,h=some n∧∃(z:Int),Rd I ((c d)::(a e)::F) (n.add (Int.toNat 0*1)) [vb z]∧((0≤(0:Int)∧(0:Int)<(g:Int))∧∃o:Addr,h=some o∧∃(aa:Int),Rd I ((c d)::(a e)::F) (o.add (Int.toNat 0*1)) [vb aa]∧∃(r2:Bool),(Tri P 139 #[vb aa] I ((c d)::(a e)::F) fun e4 I5 G4=>e4=.returned (vt r2)∧List.Perm G4 ((c d)::(a e)::F))∧Q (.returned (.tuple #[vb z,vt r2])) I F))))))))))
theorem ref15_node.vc{o:Bs}{a:OA}{c d:Nat}{e:OA}{f g:Nat}{i:OA}{j k:Nat}{p q r s t:Int}{u:Bs}{l:OA}{m n:Nat}{v:Int}{w:OA}{x y:Nat}{I:Imm}{F:Heap}{Q:PostQ}  (h:ref15_node.V (fun b=>(b,Obj.cells #[.int .u8 p,.int .u8 q,.int .u8 r,.int .i64 s,.int .u8 t,.string u,.slice l m n,.int .i64 v] 28 (0,0))) (fun b=>(b,Obj.cells #[.string o,.slice a c d,.slice e f g,.slice i j k] 39 (0,0))) (.int .u8) .bool o a c d e f g i j k p q r s t u l m n v w x y I F Q):Tri P 116 #[.agg #[.string o,.slice a c d,.slice e f g,.slice i j k],.agg #[.int .u8 p,.int .u8 q,.int .u8 r,.int .i64 s,.int .u8 t,.string u,.slice l m n,.int .i64 v],.slice w x y] I F Q :=
 tw (A:=(annL [2000,4000,6000,8000,10000,11006,12000,14002,16002] [] [77,139,140] shT_y0 [] [7000] [] [] [] [] [])) [77,139,140] func116 h
def ref15_typed.V(ka:Nat→Int→Int→Bool→Nat×Obj)(kb:Int→Int→Bool→Value)(e f:Nat→Nat×Obj)(nV:Int→Int→Int→Int→Int→Bs→OA→Nat→Nat→Int→Value)(vb vi:Int→Value)(vs:Bs→Value)(vl:OA→Nat→Nat→Value)(vt:Bool→Value)(aj:Bs)(k:OA)(l n:Nat)(o:OA)(p q:Nat)(s:OA)(t u:Nat)(ao aE aF aG aH:Int)(aq:Bs)(ab:OA)(w ap:Nat)(ak:Int)(I:Imm)(F:Heap)(Q:PostQ)(Inv8:Int→OA→Nat→Nat→Int→Int→Int→Bool→Nat→Imm→Heap→Prop):Prop:=∀g:Nat,∀h:Nat,∀b:Nat,(∃m:Nat,Inv8 0 none 0 0 0 0 0 false m I F)∧∀(x:Int) (al:OA) (am an:Nat) (i a c:Int) (d:Bool) (m1:Nat) (I1:Imm) (F1:Heap),Imm.le I I1→Inv8 x al am an i a c d m1 I1 F1→(Dt (i<(w:Int)) ((0≤i∧i<(w:Int))∧∃ad:Addr,ab=some ad∧∃(ar au av aw ax:Int) (ay:Bs) (ac:OA) (ae af:Nat) (az:Int),Rd I1 ((f g)::(e h)::(ka b a c d)::F1) (ad.add (Int.toNat i*8)) [vb ar,vb au,vb av,vi aw,vb ax,vs ay,vl ac ae af,vi az]∧(Tcn P 78 #[.agg #[vs aj,vl k l n,vl o p q,vl s t u],nV ar au av aw ax ay ac ae af az] I1 ((f g)::(e h)::(ka b a c d)::·) F1 fun e1 I2 G1=>∃(r0 y ag:Int) (ah:Bool),e1=.returned (.tuple #[vb r0,(kb y ag ah)])∧G1 fun F2=>∀aO:Nat,(It (y != 0) (Q (.returned (.tuple #[vb 0,(kb y ag ah)])) I2 F2) (∀(b1:Nat) (I3:Imm),Imm.le I2 I3→I3 b1=some (Obj.cells #[vb r0] 24 (0,0))→TriE P (Builtin.append_ #[186,186] 186 #[vl al am an,vl (some ⟨b1,0,none⟩) 1 1]) I3 ((f g)::(e h)::(ka b a c d)::(ka aO y ag ah)::F2) fun v I4 G2=>∃(aI:OA) (aJ aK:Nat),v=vl aI aJ aK∧∃F3:Heap,List.Perm G2 ((f g)::(e h)::(ka b a c d)::(ka aO y ag ah)::F3)∧(∃m2:Nat,m2<m1∧Inv8 x aI aJ aK (IntKind.wrap .i64 (i+1)) a c d m2 I4 F3))))∧(∀ai:Nat,Tcn P 78 #[.agg #[vs aj,vl k l n,vl o p q,vl s t u],nV ar au av aw ax ay ac ae af az] I1 ((f g)::(e h)::(ka b a c d)::(ka ai 0 0 false)::·) F1 fun e2 I5 G3=>∃(aL j z:Int) (aa:Bool),e2=.returned (.tuple #[vb aL,(kb j z aa)])∧G3 fun F4=>(It (j != 0) (Q (.returned (.tuple #[vb 0,(kb j z aa)])) I5 F4) (∀(b2:Nat) (I6:Imm),Imm.le I5 I6→I6 b2=some (Obj.cells #[vb aL] 24 (0,0))→TriE P (Builtin.append_ #[186,186] 186 #[vl al am an,vl (some ⟨b2,0,none⟩) 1 1]) I6 ((f g)::(e h)::(ka b a c d)::(ka ai j z aa)::F4) fun v1 I7 G4=>∃(aA:OA) (aB aC:Nat),v1=vl aA aB aC∧∃F5:Heap,List.Perm G4 ((f g)::(e h)::(ka b a c d)::(ka ai j z aa)::F5)∧(∃m3:Nat,m3<m1∧Inv8 x aA aB aC (IntKind.wrap .i64 (i+1)) a c d m3 I7 F5))))) (It (ao==2) (Tc1 P 77 #[.agg #[vs aj,vl k l n,vl o p q,vl s t u],vs aq] I1 ((f g)::(e h)::(ka b a c d)::·) F1 vi fun r I8 F6=>(Dt (r<0) (Q (.returned (.tuple #[vb 0,(kb 151 ak true)])) I8 F6) (Tcn P 116 #[.agg #[vs aj,vl k l n,vl o p q,vl s t u],nV ao aE aF aG aH aq ab w ap ak,vl al am an] I8 ((f g)::(e h)::(ka b a c d)::·) F6 fun e4 I9 G6=>∃(aM:Int) (r1:Bool),e4=.returned (.tuple #[vb aM,vt r1])∧G6 fun F7=>(It (!r1) (Q (.returned (.tuple #[vb 0,(kb 152 ak true)])) I9 F7) (Q (.returned (.tuple #[vb aM,(kb 0 0 false)])) I9 F7))))) (Tcn P 116 #[.agg #[vs aj,vl k l n,vl o p q,vl s t u],nV ao aE aF aG aH aq ab w ap ak,vl al am an] I1 ((f g)::(e h)::(ka b a c d)::·) F1 fun e5 I10 G7=>∃(aN:Int) (aD:Bool),e5=.returned (.tuple #[vb aN,vt aD])∧G7 fun F8=>(It (!aD) (Q (.returned (.tuple #[vb 0,(kb 152 ak true)])) I10 F8) (Q (.returned (.tuple #[vb aN,(kb 0 0 false)])) I10 F8)))))
theorem ref15_typed.vc{z:Bs}{d:OA}{e g:Nat}{i:OA}{j p:Nat}{r:OA}{u v:Nat}{aa ab ac ad ae:Int}{af:Bs}{w:OA}{x y:Nat}{ag:Int}{I:Imm}{F:Heap}{Q:PostQ}(Inv8:Int→OA→Nat→Nat→Int→Int→Int→Bool→Nat→Imm→Heap→Prop)(h:ref15_typed.V (fun W a b c=>(W,Obj.cells #[.int .i64 a,.int .i64 b,.bool c] 51 (0,0))) (fun a b c=>.agg #[.int .i64 a,.int .i64 b,.bool c]) (fun b=>(b,Obj.cells #[.int .u8 aa,.int .u8 ab,.int .u8 ac,.int .i64 ad,.int .u8 ae,.string af,.slice w x y,.int .i64 ag] 28 (0,0))) (fun b=>(b,Obj.cells #[.string z,.slice d e g,.slice i j p,.slice r u v] 39 (0,0))) (fun k o t n f s a l c q=>.agg #[.int .u8 k,.int .u8 o,.int .u8 t,.int .i64 n,.int .u8 f,.string s,.slice a l c,.int .i64 q]) (.int .u8) (.int .i64) .string .slice .bool z d e g i j p r u v aa ab ac ad ae af w x y ag I F Q Inv8):Tri P 78 #[.agg #[.string z,.slice d e g,.slice i j p,.slice r u v],.agg #[.int .u8 aa,.int .u8 ab,.int .u8 ac,.int .i64 ad,.int .u8 ae,.string af,.slice w x y,.int .i64 ag]] I F Q :=
 tw (A:=(annL [3004,6002,9002,9008,12001] [] [77,78,116] shT_y0 [(8,⟨[(4,(.int .u8)),(6,.slc),(7,(.int .i64))],[(2,[(.int .i64),(.int .i64),.bool])],fun _ _ _ vs m I F=>match vs with | [.int _ y0,.slice y1 y2 y3,.int _ y4,.int _ y5,.int _ y6,.bool y7]=>Inv8 y0 y1 y2 y3 y4 y5 y6 y7 m I F | _=>False,[],[]⟩)] [8002] [] [] [] [(5,[1,3,0,2,4,5]),(7,[1,0,2]),(10,[0,3,1,2,4]),(13,[0,3,1,2,4])] [] [(5,6,10,[7,8,9,10,11,12],[6,7,8,9,11,12])])) [77,78,116] func78 h
def ref15_Of.V(a c:Nat→Nat×Obj)(nV:Int→Int→Int→Int→Int→Bs→OA→Nat→Nat→Int→Value)(vi:Int→Value)(vt:Bool→Value)(ac:Bs)(l:OA)(m n:Nat)(o:OA)(p q:Nat)(s:OA)(t u:Nat)(v w x y z:Int)(aa:Bs)(d:OA)(e f:Nat)(ab:Int)(I:Imm)(F:Heap)(Q:PostQ)  : Prop:=∀g:Nat,∀h:Nat,∀b:Nat,Tc1 P 137 #[nV v w x y z aa d e f ab] I ((c g)::(a h)::(b,Obj.cells #[vi 0,vi 0,vt false] 51 (0,0))::·) F vi fun r I1 F1=>(It (r != 0) (Q (.returned (.tuple #[.int .u8 0,.agg #[vi r,vi 0,vt true]])) I1 F1) (Tcn P 78 #[.agg #[.string ac,.slice l m n,.slice o p q,.slice s t u],nV v w x y z aa d e f ab] I1 ((c g)::(a h)::(b,Obj.cells #[vi 0,vi 0,vt false] 51 (0,0))::·) F1 fun e2 I2 G2=>∃(r0 i j:Int) (k:Bool),e2=.returned (.tuple #[.int .u8 r0,.agg #[vi i,vi j,vt k]])∧G2 fun F2=>Q (.returned (.tuple #[.int .u8 r0,.agg #[vi i,vi j,vt k]])) I2 F2))
theorem ref15_Of.vc{y:Bs}{d:OA}{e g:Nat}{i:OA}{j m:Nat}{p:OA}{r u:Nat}{z aa ab ac ad:Int}{ae:Bs}{v:OA}{w x:Nat}{af:Int}{I:Imm}{F:Heap}{Q:PostQ}  (h:ref15_Of.V (fun b=>(b,Obj.cells #[.int .u8 z,.int .u8 aa,.int .u8 ab,.int .i64 ac,.int .u8 ad,.string ae,.slice v w x,.int .i64 af] 28 (0,0))) (fun b=>(b,Obj.cells #[.string y,.slice d e g,.slice i j m,.slice p r u] 39 (0,0))) (fun k o t n f s a l c q=>.agg #[.int .u8 k,.int .u8 o,.int .u8 t,.int .i64 n,.int .u8 f,.string s,.slice a l c,.int .i64 q]) (.int .i64) .bool y d e g i j m p r u z aa ab ac ad ae v w x af I F Q):Tri P 117 #[.agg #[.string y,.slice d e g,.slice i j m,.slice p r u],.agg #[.int .u8 z,.int .u8 aa,.int .u8 ab,.int .i64 ac,.int .u8 ad,.string ae,.slice v w x,.int .i64 af]] I F Q :=
 tw (A:=(an [2001] [78,137] shT_y0)) [78,137] func117 h
def ref15_named.V(ka:Nat→Int→Int→Bool→Nat×Obj)(d:Nat→Nat×Obj)(vb vi:Int→Value)(vs:Bs→Value)(vl:OA→Nat→Nat→Value)(vt:Bool→Value)(am:Bs)(s:OA)(f z:Nat)(g:OA)(a aa:Nat)(h:OA)(c ab:Nat)(I:Imm)(F:Heap)(Q:PostQ)(Inv6:Int→Int→Int→Bool→Nat→Imm→Heap→Prop)(Inv39:Int→Int→Int→Bool→Nat→Imm→Heap→Prop)(Inv60:Int→Int→Int→Bool→Nat→Imm→Heap→Prop):Prop:=∀e:Nat,∀b:Nat,(∃m:Nat,Inv6 0 0 0 false m I F)∧∀(i w x:Int) (y:Bool) (m1:Nat) (I1:Imm) (F1:Heap),Imm.le I I1→Inv6 i w x y m1 I1 F1→(Dt (i<(f:Int)) ((0≤i∧i<(f:Int))∧∃ad:Addr,s=some ad∧∃(ae:Bs) (ac af ag ah ai aj:Int) (ak:Bs) (j:OA) (k l:Nat) (al n:Int),Rd I1 ((d e)::(ka b w x y)::F1) (ad.add (Int.toNat i*11)) [vs ae,vb ac,vb af,vb ag,vb ah,vi ai,vb aj,vs ak,vl j k l,vi al,vi n]∧∀an:Nat,Tc1 P 77 #[.agg #[vs am,vl s f z,vl g a aa,vl h c ab],vs ae] I1 ((d e)::(ka b w x y)::(an,Obj.cells #[vs ae,vb ac,vb af,vb ag,vb ah,vi ai,vb aj,vs ak,vl j k l,vi al,vi n] 77 (0,0))::·) F1 vi fun r I2 F2=>(Dt (r<i) (Q (.returned (.agg #[vi 150,vi n,vt false])) I2 F2) (Tcn P 78 #[.agg #[vs am,vl s f z,vl g a aa,vl h c ab],.agg #[vb af,vb ag,vb ah,vi ai,vb aj,vs ak,vl j k l,vi al]] I2 ((d e)::(ka b w x y)::(an,Obj.cells #[vs ae,vb ac,vb af,vb ag,vb ah,vi ai,vb aj,vs ak,vl j k l,vi al,vi n] 77 (0,0))::·) F2 fun e2 I3 G2=>∃(r0 ax ay:Int) (az:Bool),e2=.returned (.tuple #[vb r0,.agg #[vi ax,vi ay,vt az]])∧G2 fun F3=>∀aA:Nat,(It (r0 != ac) (Q (.returned (.agg #[vi 152,vi n,vt false])) I3 F3) (∃m2:Nat,m2<m1∧Inv6 (IntKind.wrap .i64 (i+1)) w x y m2 I3 F3))))) ((∃m3:Nat,Inv39 0 w x y m3 I1 F1)∧∀(i1 o p:Int) (q:Bool) (m4:Nat) (I4:Imm) (F4:Heap),Imm.le I1 I4→Inv39 i1 o p q m4 I4 F4→(Dt (i1<(a:Int)) ((0≤i1∧i1<(a:Int))∧∃aq:Addr,g=some aq∧∃(m5:Bs),Rd I4 ((d e)::(ka b o p q)::F4) ((aq.add (Int.toNat i1*2)).add 0) [vs m5]∧∃(r1:Int),(Tri P 79 #[.agg #[vs am,vl s f z,vl g a aa,vl h c ab],vs m5] I4 ((d e)::(ka b o p q)::F4) fun e3 I5 G3=>e3=.returned (vi r1)∧List.Perm G3 ((d e)::(ka b o p q)::F4))∧(Dt (r1<i1) ((0≤i1∧i1<(a:Int))∧∃ar:Addr,g=some ar∧∃(m6:Int),Rd I4 ((d e)::(ka b o p q)::F4) ((ar.add (Int.toNat i1*2)).add 1) [vi m6]∧Q (.returned (.agg #[vi 150,vi m6,vt false])) I4 F4) (∃m7:Nat,m7<m4∧Inv39 (IntKind.wrap .i64 (i1+1)) o p q m7 I4 F4))) ((∃m8:Nat,Inv60 0 o p q m8 I4 F4)∧∀(i2 t u:Int) (v:Bool) (m9:Nat) (I6:Imm) (F5:Heap),Imm.le I4 I6→Inv60 i2 t u v m9 I6 F5→(Dt (i2<(c:Int)) ((0≤i2∧i2<(c:Int))∧∃au:Addr,h=some au∧∃(ao:Bs),Rd I6 ((d e)::(ka b t u v)::F5) ((au.add (Int.toNat i2*3)).add 0) [vs ao]∧∃(r2:Int),(Tri P 80 #[.agg #[vs am,vl s f z,vl g a aa,vl h c ab],vs ao] I6 ((d e)::(ka b t u v)::F5) fun e4 I7 G4=>e4=.returned (vi r2)∧List.Perm G4 ((d e)::(ka b t u v)::F5))∧(Dt (r2<i2) ((0≤i2∧i2<(c:Int))∧∃av:Addr,h=some av∧∃(ap:Int),Rd I6 ((d e)::(ka b t u v)::F5) ((av.add (Int.toNat i2*3)).add 2) [vi ap]∧Q (.returned (.agg #[vi 150,vi ap,vt false])) I6 F5) (∃aw:Nat,aw<m9∧Inv60 (IntKind.wrap .i64 (i2+1)) t u v aw I6 F5))) (Q (.returned (.agg #[vi 0,vi 0,vt false])) I6 F5))))))
theorem ref15_named.vc{o:Bs}{d:OA}{e f:Nat}{g:OA}{i j:Nat}{k:OA}{l n:Nat}{I:Imm}{F:Heap}{Q:PostQ}(Inv6:Int→Int→Int→Bool→Nat→Imm→Heap→Prop)(Inv39:Int→Int→Int→Bool→Nat→Imm→Heap→Prop)(Inv60:Int→Int→Int→Bool→Nat→Imm→Heap→Prop)(h:ref15_named.V (fun W a b c=>(W,Obj.cells #[.int .i64 a,.int .i64 b,.bool c] 51 (0,0))) (fun b=>(b,Obj.cells #[.string o,.slice d e f,.slice g i j,.slice k l n] 39 (0,0))) (.int .u8) (.int .i64) .string .slice .bool o d e f g i j k l n I F Q Inv6 Inv39 Inv60):Tri P 48 #[.agg #[.string o,.slice d e f,.slice g i j,.slice k l n]] I F Q :=
 tw (A:=(annL [2004,5005,8003,11004,13009,16004,18009] [] [77,78,79,80] shT_y0 [(6,⟨[(3,(.int .i64))],[(1,[(.int .i64),(.int .i64),.bool])],fun _ _ _ vs m I F=>match vs with | [.int _ y0,.int _ y1,.int _ y2,.bool y3]=>Inv6 y0 y1 y2 y3 m I F | _=>False,[],[]⟩),(39,⟨[(7,(.int .i64))],[(1,[(.int .i64),(.int .i64),.bool])],fun _ _ _ vs m I F=>match vs with | [.int _ y0,.int _ y1,.int _ y2,.bool y3]=>Inv39 y0 y1 y2 y3 m I F | _=>False,[],[]⟩),(60,⟨[(8,(.int .i64))],[(1,[(.int .i64),(.int .i64),.bool])],fun _ _ _ vs m I F=>match vs with | [.int _ y0,.int _ y1,.int _ y2,.bool y3]=>Inv60 y0 y1 y2 y3 m I F | _=>False,[],[]⟩)] [] [] [] [] [] [])) [77,78,79,80] func48 h
def ref15_must.V(nO:Int→Int→Int→Int→Int→Bs→OA→Nat→Nat→Int→Obj)(vb vi:Int→Value)(vs:Bs→Value)(vl:OA→Nat→Nat→Value)(vt:Bool→Value)(p:Bs)(a:OA)(c d:Nat)(e:OA)(f g:Nat)(h:OA)(i j:Nat)(q r s u v:Int)(w:Bs)(k:OA)(l m:Nat)(o t:Int)(I:Imm)(F:Heap)(Q:PostQ)  : Prop:=∀z:Nat,∀aa:Nat,∀b:Nat,Tcn P 117 #[.agg #[vs p,vl a c d,vl e f g,vl h i j],.agg #[vb q,vb r,vb s,vi u,vb v,vs w,vl k l m,vi o]] I ((z,Obj.cells #[vs p,vl a c d,vl e f g,vl h i j] 39 (0,0))::(aa,nO q r s u v w k l m o)::(b,Obj.cells #[vi 0,vi 0,vt false] 51 (0,0))::·) F fun e1 I1 G1=>∃(r0 n x:Int) (y:Bool),e1=.returned (.tuple #[vb r0,.agg #[vi n,vi x,vt y]])∧G1 fun F1=>∀ab:Nat,(It (n != 0) (Q (.returned (.agg #[vi n,vi x,vt y])) I1 F1) (It (r0 != t) (Q (.returned (.agg #[vi 152,vi o,vt false])) I1 F1) (Q (.returned (.agg #[vi 0,vi 0,vt false])) I1 F1)))
theorem ref15_must.vc{x:Bs}{b:OA}{d e:Nat}{g:OA}{i j:Nat}{m:OA}{p r:Nat}{y z aa ab ac:Int}{ad:Bs}{u:OA}{v w:Nat}{ae t:Int}{I:Imm}{F:Heap}{Q:PostQ}  (h:ref15_must.V (fun k o t n f s a l c q=>.cells #[.int .u8 k,.int .u8 o,.int .u8 t,.int .i64 n,.int .u8 f,.string s,.slice a l c,.int .i64 q] 28 (0,0)) (.int .u8) (.int .i64) .string .slice .bool x b d e g i j m p r y z aa ab ac ad u v w ae t I F Q):Tri P 81 #[.agg #[.string x,.slice b d e,.slice g i j,.slice m p r],.agg #[.int .u8 y,.int .u8 z,.int .u8 aa,.int .i64 ab,.int .u8 ac,.string ad,.slice u v w,.int .i64 ae],.int .u8 t] I F Q :=
 tw (A:=(an [2002,4002] [117] shT_y0)) [117] func81 h
def ref15_first.V(vi:Int→Value)(vt:Bool→Value)(f:OA)(a l:Nat)(I:Imm)(F:Heap)(Q:PostQ)(Inv6:Int→Int→Int→Bool→Nat→Imm→Heap→Prop):Prop:=∀b:Nat,(∃m:Nat,Inv6 0 0 0 false m I F)∧∀(i c d:Int) (e:Bool) (m1:Nat) (I1:Imm) (F1:Heap),Imm.le I I1→Inv6 i c d e m1 I1 F1→(Dt (i<(a:Int)) ((0≤i∧i<(a:Int))∧∃ad:Addr,f=some ad∧∃(m2:Int),Rd I1 ((b,Obj.cells #[vi c,vi d,vt e] 51 (0,0))::F1) ((ad.add (Int.toNat i*3)).add 0) [vi m2]∧(It (m2 != 0) ((0≤i∧i<(a:Int))∧∃k:Addr,f=some k∧∃(g h:Int) (j:Bool),Rd I1 ((b,Obj.cells #[vi c,vi d,vt e] 51 (0,0))::F1) (k.add (Int.toNat i*3)) [vi g,vi h,vt j]∧Q (.returned (.agg #[vi g,vi h,vt j])) I1 F1) (∃m3:Nat,m3<m1∧Inv6 (IntKind.wrap .i64 (i+1)) c d e m3 I1 F1))) (Q (.returned (.agg #[vi 0,vi 0,vt false])) I1 F1))
theorem ref15_first.vc{a:OA}{b c:Nat}{I:Imm}{F:Heap}{Q:PostQ}(Inv6:Int→Int→Int→Bool→Nat→Imm→Heap→Prop)(h:ref15_first.V (.int .i64) .bool a b c I F Q Inv6):Tri P 118 #[.slice a b c] I F Q :=
 tw (A:=(annL [2003,4005] [] [] shT_y0 [(6,⟨[(3,(.int .i64))],[(0,[(.int .i64),(.int .i64),.bool])],fun _ _ _ vs m I F=>match vs with | [.int _ y0,.int _ y1,.int _ y2,.bool y3]=>Inv6 y0 y1 y2 y3 m I F | _=>False,[],[]⟩)] [] [] [] [] [] [])) [] func118 h
def ref15_do.V(ka:Nat→Int→Int→Bool→Nat×Obj)(kb:Bs→OA→Nat→Nat→OA→Nat→Nat→OA→Nat→Nat→Value)(kc:Int→Int→Bool→Value)(a c:Nat→Nat×Obj)(nV:Int→Int→Int→Int→Int→Bs→OA→Nat→Nat→Int→Value)(vb vi:Int→Value)(vs:Bs→Value)(vl:OA→Nat→Nat→Value)(vt:Bool→Value)(s:Bs)(g:OA)(h j:Nat)(k:OA)(l n:Nat)(o:OA)(p q:Nat)(f bn:Int)(x:Bs)(bE bF bG bH bI:Int)(bJ:Bs)(bk:OA)(bl bm:Nat)(bu au av aw ax ay:Int)(az:Bs)(ab:OA)(ac ae:Nat)(aA af ag ah ai aj:Int)(ak:Bs)(y:OA)(z aa:Nat)(al bv bw bx bz bA:Int)(bB:Bs)(aB:OA)(aC aD:Nat)(bC bD:Int)(I:Imm)(F:Heap)(Q:PostQ)(Inv4:Int→Imm→Heap→Prop)(Inv43:OA→Nat→Nat→Imm→Heap→Prop)(Inv49:OA→Nat→Nat→Imm→Heap→Prop)(Inv55:OA→Nat→Nat→Imm→Heap→Prop)(Inv61:OA→Nat→Nat→Imm→Heap→Prop):Prop:=∀d:Nat,∀e:Nat,∀b:Nat,((It (f==1) (It (!(x.toList==(⟨#[]⟩:Bs).toList)) (Tc1 P 79 (#[(kb s g h j k l n o p q),vs x]) I ((c d)::(a e)::(ka b 0 0 false)::·) F vi fun r I1 F1=>Inv4 r I1 F1) (Inv4 0 I F)) (It (f==2) (Tc1 P 79 (#[(kb s g h j k l n o p q),vs x]) I ((c d)::(a e)::(ka b 0 0 false)::·) F vi fun r1 I2 F2=>Inv4 r1 I2 F2) (It (f==3) (Tc1 P 79 (#[(kb s g h j k l n o p q),vs x]) I ((c d)::(a e)::(ka b 0 0 false)::·) F vi fun r2 I3 F3=>Inv4 r2 I3 F3) (It (f==4) (Tc1 P 77 (#[(kb s g h j k l n o p q),vs x]) I ((c d)::(a e)::(ka b 0 0 false)::·) F vi fun r3 I4 F4=>Inv4 r3 I4 F4) (It (f==5) (Tc1 P 80 (#[(kb s g h j k l n o p q),vs x]) I ((c d)::(a e)::(ka b 0 0 false)::·) F vi fun r4 I5 F5=>Inv4 r4 I5 F5) (Inv4 0 I F)))))))∧∀(i:Int) (I6:Imm) (F6:Heap),Imm.le I I6→Inv4 i I6 F6→(Dt (i<0) (Q (.returned ((kc 151 bD false))) I6 F6) (((It (f==1) (Tcn P 81 (#[(kb s g h j k l n o p q),nV bE bF bG bH bI bJ bk bl bm bu,vb 6]) I6 ((c d)::(a e)::(ka b 0 0 false)::·) F6 fun e6 I7 G6=>∃(bo bp:Int) (bq:Bool),e6=.returned ((kc bo bp bq))∧G6 fun F7=>∀(b1:Nat) (I8:Imm),Imm.le I7 I8→I8 b1=some (Obj.cells #[vi bo,vi bp,vt bq] 51 (0,0))→TriE P (Builtin.append_ #[188,188] 188 #[vl none 0 0,vl (some ⟨b1,0,none⟩) 1 1]) I8 ((c d)::(a e)::(ka b 0 0 false)::F7) fun v I9 G7=>∃(br:OA) (bs bt:Nat),v=vl br bs bt∧∃F8:Heap,List.Perm G7 ((c d)::(a e)::(ka b 0 0 false)::F8)∧Inv43 br bs bt I9 F8) (Inv43 none 0 0 I6 F6)))∧∀(ap:OA) (aq ar:Nat) (I10:Imm) (F9:Heap),Imm.le I6 I10→Inv43 ap aq ar I10 F9→((It (f==1) (Tcn P 81 (#[(kb s g h j k l n o p q),nV au av aw ax ay az ab ac ae aA,vb 2]) I10 ((c d)::(a e)::(ka b 0 0 false)::·) F9 fun e7 I11 G8=>∃(aE aF:Int) (aG:Bool),e7=.returned ((kc aE aF aG))∧G8 fun F10=>∀(b2:Nat) (I12:Imm),Imm.le I11 I12→I12 b2=some (Obj.cells #[vi aE,vi aF,vt aG] 51 (0,0))→TriE P (Builtin.append_ #[188,188] 188 #[vl ap aq ar,vl (some ⟨b2,0,none⟩) 1 1]) I12 ((c d)::(a e)::(ka b 0 0 false)::F10) fun v1 I13 G9=>∃(aH:OA) (aI aJ:Nat),v1=vl aH aI aJ∧∃F11:Heap,List.Perm G9 ((c d)::(a e)::(ka b 0 0 false)::F11)∧Inv49 aH aI aJ I13 F11) (It (f==2) (Tcn P 81 (#[(kb s g h j k l n o p q),nV au av aw ax ay az ab ac ae aA,vb 2]) I10 ((c d)::(a e)::(ka b 0 0 false)::·) F9 fun e8 I14 G10=>∃(aK aL:Int) (aM:Bool),e8=.returned ((kc aK aL aM))∧G10 fun F12=>∀(b3:Nat) (I15:Imm),Imm.le I14 I15→I15 b3=some (Obj.cells #[vi aK,vi aL,vt aM] 51 (0,0))→TriE P (Builtin.append_ #[188,188] 188 #[vl ap aq ar,vl (some ⟨b3,0,none⟩) 1 1]) I15 ((c d)::(a e)::(ka b 0 0 false)::F12) fun v2 I16 G11=>∃(aN:OA) (aO aP:Nat),v2=vl aN aO aP∧∃F13:Heap,List.Perm G11 ((c d)::(a e)::(ka b 0 0 false)::F13)∧Inv49 aN aO aP I16 F13) (Inv49 ap aq ar I10 F9))))∧∀(t:OA) (u w:Nat) (I17:Imm) (F14:Heap),Imm.le I10 I17→Inv49 t u w I17 F14→((It (f==1) (It (bn != 2) (Tcn P 81 (#[(kb s g h j k l n o p q),nV af ag ah ai aj ak y z aa al,vb 3]) I17 ((c d)::(a e)::(ka b 0 0 false)::·) F14 fun e9 I18 G12=>∃(aQ aR:Int) (aS:Bool),e9=.returned ((kc aQ aR aS))∧G12 fun F15=>∀(b4:Nat) (I19:Imm),Imm.le I18 I19→I19 b4=some (Obj.cells #[vi aQ,vi aR,vt aS] 51 (0,0))→TriE P (Builtin.append_ #[188,188] 188 #[vl t u w,vl (some ⟨b4,0,none⟩) 1 1]) I19 ((c d)::(a e)::(ka b 0 0 false)::F15) fun v3 I20 G13=>∃(aT:OA) (aU aV:Nat),v3=vl aT aU aV∧∃F16:Heap,List.Perm G13 ((c d)::(a e)::(ka b 0 0 false)::F16)∧Inv55 aT aU aV I20 F16) (It (f==2) (Tcn P 81 (#[(kb s g h j k l n o p q),nV af ag ah ai aj ak y z aa al,vb 3]) I17 ((c d)::(a e)::(ka b 0 0 false)::·) F14 fun bK I21 G14=>∃(aW aX:Int) (aY:Bool),bK=.returned ((kc aW aX aY))∧G14 fun F17=>∀(b5:Nat) (I22:Imm),Imm.le I21 I22→I22 b5=some (Obj.cells #[vi aW,vi aX,vt aY] 51 (0,0))→TriE P (Builtin.append_ #[188,188] 188 #[vl t u w,vl (some ⟨b5,0,none⟩) 1 1]) I22 ((c d)::(a e)::(ka b 0 0 false)::F17) fun v4 I23 G15=>∃(aZ:OA) (a0 a1:Nat),v4=vl aZ a0 a1∧∃F18:Heap,List.Perm G15 ((c d)::(a e)::(ka b 0 0 false)::F18)∧Inv55 aZ a0 a1 I23 F18) (Inv55 t u w I17 F14))) (It (f==2) (Tcn P 81 (#[(kb s g h j k l n o p q),nV af ag ah ai aj ak y z aa al,vb 3]) I17 ((c d)::(a e)::(ka b 0 0 false)::·) F14 fun bL I24 G16=>∃(a2 a3:Int) (a4:Bool),bL=.returned ((kc a2 a3 a4))∧G16 fun F19=>∀(b6:Nat) (I25:Imm),Imm.le I24 I25→I25 b6=some (Obj.cells #[vi a2,vi a3,vt a4] 51 (0,0))→TriE P (Builtin.append_ #[188,188] 188 #[vl t u w,vl (some ⟨b6,0,none⟩) 1 1]) I25 ((c d)::(a e)::(ka b 0 0 false)::F19) fun v5 I26 G17=>∃(a5:OA) (a6 a7:Nat),v5=vl a5 a6 a7∧∃F20:Heap,List.Perm G17 ((c d)::(a e)::(ka b 0 0 false)::F20)∧Inv55 a5 a6 a7 I26 F20) (Inv55 t u w I17 F14))))∧∀(am:OA) (an ao:Nat) (I27:Imm) (F21:Heap),Imm.le I17 I27→Inv55 am an ao I27 F21→((It (f==4) ((0≤i∧i<(h:Int))∧∃ad:Addr,g=some ad∧∃(m:Int),Rd I27 ((c d)::(a e)::(ka b 0 0 false)::F21) ((ad.add (Int.toNat i*11)).add 1) [vb m]∧Tcn P 81 (#[(kb s g h j k l n o p q),nV bv bw bx bz bA bB aB aC aD bC,vb m]) I27 ((c d)::(a e)::(ka b 0 0 false)::·) F21 fun bM I28 G18=>∃(a8 a9:Int) (ba:Bool),bM=.returned ((kc a8 a9 ba))∧G18 fun F22=>∀(b7:Nat) (I29:Imm),Imm.le I28 I29→I29 b7=some (Obj.cells #[vi a8,vi a9,vt ba] 51 (0,0))→TriE P (Builtin.append_ #[188,188] 188 #[vl am an ao,vl (some ⟨b7,0,none⟩) 1 1]) I29 ((c d)::(a e)::(ka b 0 0 false)::F22) fun v6 I30 G19=>∃(bb:OA) (bc bd:Nat),v6=vl bb bc bd∧∃F23:Heap,List.Perm G19 ((c d)::(a e)::(ka b 0 0 false)::F23)∧Inv61 bb bc bd I30 F23) (Inv61 am an ao I27 F21)))∧∀(be:OA) (bf bg:Nat) (I31:Imm) (F24:Heap),Imm.le I27 I31→Inv61 be bf bg I31 F24→Tcn P 118 #[vl be bf bg] I31 ((c d)::(a e)::(ka b 0 0 false)::·) F24 fun bN I32 G20=>∃(bh bi:Int) (bj:Bool),bN=.returned ((kc bh bi bj))∧G20 fun F25=>Q (.returned ((kc bh bi bj))) I32 F25))
theorem ref15_do.vc{aM:Bs}{ab:OA}{ac ad:Nat}{ae:OA}{af ag:Nat}{ah:OA}{ai aj:Nat}{aN aO:Int}{aP:Bs}{aQ aR aS aT aU:Int}{aV:Bs}{ak:OA}{al am:Nat}{an ao ap aq ar au:Int}{av:Bs}{p:OA}{r u:Nat}{aw ax ay az aA aB:Int}{aC:Bs}{v:OA}{w x:Nat}{aD aE aF aG aH aI:Int}{aJ:Bs}{y:OA}{z aa:Nat}{aK aL:Int}{I:Imm}{F:Heap}{Q:PostQ}(Inv4:Int→Imm→Heap→Prop)(Inv43:OA→Nat→Nat→Imm→Heap→Prop)(Inv49:OA→Nat→Nat→Imm→Heap→Prop)(Inv55:OA→Nat→Nat→Imm→Heap→Prop)(Inv61:OA→Nat→Nat→Imm→Heap→Prop)(h:ref15_do.V (fun W a b c=>(W,Obj.cells #[.int .i64 a,.int .i64 b,.bool c] 51 (0,0))) (fun a b c d e f g h i j=>.agg #[.string a,.slice b c d,.slice e f g,.slice h i j]) (fun a b c=>.agg #[.int .i64 a,.int .i64 b,.bool c]) (fun b=>(b,Obj.cells #[.int .u8 aN,.int .u8 aO,.string aP,.int .u8 aQ,.int .u8 aR,.int .u8 aS,.int .i64 aT,.int .u8 aU,.string aV,.slice ak al am,.int .i64 an,.int .u8 ao,.int .u8 ap,.int .u8 aq,.int .i64 ar,.int .u8 au,.string av,.slice p r u,.int .i64 aw,.int .u8 ax,.int .u8 ay,.int .u8 az,.int .i64 aA,.int .u8 aB,.string aC,.slice v w x,.int .i64 aD,.int .u8 aE,.int .u8 aF,.int .u8 aG,.int .i64 aH,.int .u8 aI,.string aJ,.slice y z aa,.int .i64 aK,.int .i64 aL] 99 (0,0))) (fun b=>(b,Obj.cells #[.string aM,.slice ab ac ad,.slice ae af ag,.slice ah ai aj] 39 (0,0))) (fun k o t n f s a l c q=>.agg #[.int .u8 k,.int .u8 o,.int .u8 t,.int .i64 n,.int .u8 f,.string s,.slice a l c,.int .i64 q]) (.int .u8) (.int .i64) .string .slice .bool aM ab ac ad ae af ag ah ai aj aN aO aP aQ aR aS aT aU aV ak al am an ao ap aq ar au av p r u aw ax ay az aA aB aC v w x aD aE aF aG aH aI aJ y z aa aK aL I F Q Inv4 Inv43 Inv49 Inv55 Inv61):Tri P 82 #[.agg #[.string aM,.slice ab ac ad,.slice ae af ag,.slice ah ai aj],.agg #[.int .u8 aN,.int .u8 aO,.string aP,.int .u8 aQ,.int .u8 aR,.int .u8 aS,.int .i64 aT,.int .u8 aU,.string aV,.slice ak al am,.int .i64 an,.int .u8 ao,.int .u8 ap,.int .u8 aq,.int .i64 ar,.int .u8 au,.string av,.slice p r u,.int .i64 aw,.int .u8 ax,.int .u8 ay,.int .u8 az,.int .i64 aA,.int .u8 aB,.string aC,.slice v w x,.int .i64 aD,.int .u8 aE,.int .u8 aF,.int .u8 aG,.int .i64 aH,.int .u8 aI,.string aJ,.slice y z aa,.int .i64 aK,.int .i64 aL]] I F Q :=
 tw (A:=(annL [3000,4002,6000,7000,9000,11000,13001,16002,18002,18006,20002,20006,20011,22002] [] [77,79,80,81,118] shT_y0 [(4,⟨[(5,(.int .i64))],[],fun _ _ _ vs m I F=>match vs with | [.int _ y0]=>Inv4 y0 I F | _=>False,[],[]⟩),(43,⟨[(6,.slc)],[],fun _ _ _ vs m I F=>match vs with | [.slice y0 y1 y2]=>Inv43 y0 y1 y2 I F | _=>False,[],[]⟩),(49,⟨[(6,.slc)],[],fun _ _ _ vs m I F=>match vs with | [.slice y0 y1 y2]=>Inv49 y0 y1 y2 I F | _=>False,[],[]⟩),(55,⟨[(6,.slc)],[],fun _ _ _ vs m I F=>match vs with | [.slice y0 y1 y2]=>Inv55 y0 y1 y2 I F | _=>False,[],[]⟩),(61,⟨[(6,.slc)],[],fun _ _ _ vs m I F=>match vs with | [.slice y0 y1 y2]=>Inv61 y0 y1 y2 I F | _=>False,[],[]⟩)] [17005,19005,21005,23011] [] [] [] [(23,[0,2,4,6,5,7,8,1,3,9,10,11,12,13])] [] [] [(23,[5],14)])) [77,79,80,81,118] func82 h
def ref15_rule.V(ka:Nat→Int→Int→Bool→Nat×Obj)(aB aC:Nat→Nat×Obj)(vb vi:Int→Value)(vs:Bs→Value)(vl:OA→Nat→Nat→Value)(vt:Bool→Value)(a4:Bs)(aI:OA)(aJ aK:Nat)(aL:OA)(aM aN:Nat)(aO:OA)(aP aQ:Nat)(a6 a7 a8 a9 ba:Int)(bb:Bs)(a0:OA)(a1 a2:Nat)(bc:Int)(a3:OA)(z bd:Nat)(be:Int)(I:Imm)(F:Heap)(Q:PostQ)(Inv18:Bool→Int→Int→Int→Bool→Int→Int→Bool→Nat→Imm→Heap→Prop):Prop:=∀aD:Nat,∀aE:Nat,∀b:Nat,Tcn P 81 #[.agg #[vs a4,vl aI aJ aK,vl aL aM aN,vl aO aP aQ],.agg #[vb a6,vb a7,vb a8,vi a9,vb ba,vs bb,vl a0 a1 a2,vi bc],vb 5] I ((aC aD)::(aB aE)::(ka b 0 0 false)::·) F fun e1 I1 G1=>∃(t aF:Int) (aG:Bool),e1=.returned (.agg #[vi t,vi aF,vt aG])∧G1 fun F1=>∀aZ:Nat,(It (t != 0) (Q (.returned (.agg #[vi t,vi aF,vt aG])) I1 F1) ((∃m:Nat,Inv18 false 0 0 0 false t aF aG m I1 F1)∧∀(aH:Bool) (i w x:Int) (y:Bool) (n o:Int) (p:Bool) (m1:Nat) (I2:Imm) (F2:Heap),Imm.le I1 I2→Inv18 aH i w x y n o p m1 I2 F2→(Dt (i<(z:Int)) ((0≤i∧i<(z:Int))∧∃ad:Addr,a3=some ad∧∃(u aR:Int) (aS:Bs) (aT aU aV aW aX:Int) (aY:Bs) (q:OA) (r s:Nat) (aa ab ac ae af ag:Int) (ah:Bs) (a:OA) (c d:Nat) (ai aj ak al am an:Int) (ao:Bs) (e:OA) (f g:Nat) (ap aq ar au av aw:Int) (ax:Bs) (h:OA) (j k:Nat) (ay v:Int),Rd I2 ((aC aD)::(aB aE)::(ka b w x y)::(ka aZ n o p)::F2) (ad.add (Int.toNat i*36)) [vb u,vb aR,vs aS,vb aT,vb aU,vb aV,vi aW,vb aX,vs aY,vl q r s,vi aa,vb ab,vb ac,vb ae,vi af,vb ag,vs ah,vl a c d,vi ai,vb aj,vb ak,vb al,vi am,vb an,vs ao,vl e f g,vi ap,vb aq,vb ar,vb au,vi av,vb aw,vs ax,vl h j k,vi ay,vi v]∧∀a5:Nat,(It aH (Q (.returned (.agg #[vi 153,vi v,vt false])) I2 F2) (Tcn P 82 #[.agg #[vs a4,vl aI aJ aK,vl aL aM aN,vl aO aP aQ],.agg #[vb u,vb aR,vs aS,vb aT,vb aU,vb aV,vi aW,vb aX,vs aY,vl q r s,vi aa,vb ab,vb ac,vb ae,vi af,vb ag,vs ah,vl a c d,vi ai,vb aj,vb ak,vb al,vi am,vb an,vs ao,vl e f g,vi ap,vb aq,vb ar,vb au,vi av,vb aw,vs ax,vl h j k,vi ay,vi v]] I2 ((aC aD)::(aB aE)::(ka b w x y)::(ka aZ n o p)::(a5,Obj.cells #[vb u,vb aR,vs aS,vb aT,vb aU,vb aV,vi aW,vb aX,vs aY,vl q r s,vi aa,vb ab,vb ac,vb ae,vi af,vb ag,vs ah,vl a c d,vi ai,vb aj,vb ak,vb al,vi am,vb an,vs ao,vl e f g,vi ap,vb aq,vb ar,vb au,vi av,vb aw,vs ax,vl h j k,vi ay,vi v] 99 (0,0))::·) F2 fun e2 I3 G2=>∃(l az:Int) (aA:Bool),e2=.returned (.agg #[vi l,vi az,vt aA])∧G2 fun F3=>(It (l != 0) (Q (.returned (.agg #[vi l,vi az,vt aA])) I3 F3) (It (u==5) (∃m2:Nat,m2<m1∧Inv18 true (IntKind.wrap .i64 (i+1)) w x y l az aA m2 I3 F3) (∃m3:Nat,m3<m1∧Inv18 (u==6) (IntKind.wrap .i64 (i+1)) w x y l az aA m3 I3 F3)))))) (Q (.returned (.agg #[vi 0,vi 0,vt false])) I2 F2))))
theorem ref15_rule.vc{u:Bs}{d:OA}{e f:Nat}{g:OA}{i j:Nat}{k:OA}{l n:Nat}{v w x y z:Int}{aa:Bs}{o:OA}{p q:Nat}{ab:Int}{r:OA}{s t:Nat}{ac:Int}{I:Imm}{F:Heap}{Q:PostQ}(Inv18:Bool→Int→Int→Int→Bool→Int→Int→Bool→Nat→Imm→Heap→Prop)(h:ref15_rule.V (fun W a b c=>(W,Obj.cells #[.int .i64 a,.int .i64 b,.bool c] 51 (0,0))) (fun b=>(b,Obj.cells #[.int .u8 v,.int .u8 w,.int .u8 x,.int .i64 y,.int .u8 z,.string aa,.slice o p q,.int .i64 ab,.slice r s t,.int .i64 ac] 84 (0,0))) (fun b=>(b,Obj.cells #[.string u,.slice d e f,.slice g i j,.slice k l n] 39 (0,0))) (.int .u8) (.int .i64) .string .slice .bool u d e f g i j k l n v w x y z aa o p q ab r s t ac I F Q Inv18):Tri P 49 #[.agg #[.string u,.slice d e f,.slice g i j,.slice k l n],.agg #[.int .u8 v,.int .u8 w,.int .u8 x,.int .i64 y,.int .u8 z,.string aa,.slice o p q,.int .i64 ab,.slice r s t,.int .i64 ac]] I F Q :=
 tw (A:=(annL [2002,6004,9000,12002,14002] [] [81,82] shT_y0 [(18,⟨[(6,.bool),(7,(.int .i64))],[(2,[(.int .i64),(.int .i64),.bool]),(3,[(.int .i64),(.int .i64),.bool])],fun _ _ _ vs m I F=>match vs with | [.bool y0,.int _ y1,.int _ y2,.int _ y3,.bool y4,.int _ y5,.int _ y6,.bool y7]=>Inv18 y0 y1 y2 y3 y4 y5 y6 y7 m I F | _=>False,[],[]⟩)] [] [] [] [] [] [])) [81,82] func49 h
def ref15_Check.V(ka:Nat→Int→Int→Bool→Nat×Obj)(g:Nat→Nat×Obj)(vb vi:Int→Value)(vs:Bs→Value)(vl:OA→Nat→Nat→Value)(vt:Bool→Value)(ae:Bs)(o:OA)(p q:Nat)(s:OA)(t u:Nat)(h:OA)(e v:Nat)(I:Imm)(F:Heap)(Q:PostQ)(Inv18:Int→Int→Int→Bool→Nat→Imm→Heap→Imm→Heap→Prop)(Inv30:Int→Int→Int→Int→Bool→Nat→Imm→Heap→Imm→Heap→Prop):Prop:=∀j:Nat,∀b:Nat,Tc1 P 47 #[.agg #[vs ae,vl o p q,vl s t u,vl h e v]] I ((g j)::(ka b 0 0 false)::·) F vi fun r I1 F1=>(It (r != 0) (Q (.returned (.agg #[vi r,vi 0,vt false])) I1 F1) (Tcn P 48 #[.agg #[vs ae,vl o p q,vl s t u,vl h e v]] I1 ((g j)::(ka b 0 0 false)::·) F1 fun e2 I2 G2=>∃(al am:Int) (an:Bool),e2=.returned (.agg #[vi al,vi am,vt an])∧G2 fun F2=>∀w:Nat,(∃m:Nat,Inv18 0 al am an m I2 F2 I2 F2)∧∀(i f l:Int) (n:Bool) (m1:Nat) (I3:Imm) (F3:Heap),Imm.le I2 I3→Inv18 i f l n m1 I2 F2 I3 F3→(Dt (i<(e:Int)) (It (f==0) ((∃m2:Nat,Inv30 i 0 f l n m2 I3 F3 I3 F3)∧∀(k a c:Int) (d:Bool) (m3:Nat) (I4:Imm) (F4:Heap),Imm.le I3 I4→Inv30 i k a c d m3 I3 F3 I4 F4→((0≤i∧i<(e:Int))∧∃ad:Addr,h=some ad∧∃(aB:OA) (af aC:Nat),Rd I4 ((g j)::(ka b 0 0 false)::(ka w a c d)::F4) ((ad.add (Int.toNat i*3)).add 1) [vl aB af aC]∧(Dt (k<(af:Int)) (It (a==0) ((0≤i∧i<(e:Int))∧∃ay:Addr,h=some ay∧∃(ag:OA) (ah aA:Nat),Rd I4 ((g j)::(ka b 0 0 false)::(ka w a c d)::F4) ((ay.add (Int.toNat i*3)).add 1) [vl ag ah aA]∧((0≤k∧k<(ah:Int))∧∃az:Addr,ag=some az∧∃(ao ap aq ar au:Int) (av:Bs) (x:OA) (y z:Nat) (aw:Int) (aa:OA) (ab ac:Nat) (ax:Int),Rd I4 ((g j)::(ka b 0 0 false)::(ka w a c d)::F4) (az.add (Int.toNat k*10)) [vb ao,vb ap,vb aq,vi ar,vb au,vs av,vl x y z,vi aw,vl aa ab ac,vi ax]∧∃(ai aj:Int) (ak:Bool),(Tri P 49 #[.agg #[vs ae,vl o p q,vl s t u,vl h e v],.agg #[vb ao,vb ap,vb aq,vi ar,vb au,vs av,vl x y z,vi aw,vl aa ab ac,vi ax]] I4 ((g j)::(ka b 0 0 false)::(ka w a c d)::F4) fun e3 I5 G3=>e3=.returned (.agg #[vi ai,vi aj,vt ak])∧List.Perm G3 ((g j)::(ka b 0 0 false)::(ka w a c d)::F4))∧(∃m4:Nat,m4<m3∧Inv30 i (IntKind.wrap .i64 (k+1)) ai aj ak m4 I3 F3 I4 F4))) (∃m5:Nat,m5<m1∧Inv18 (IntKind.wrap .i64 (i+1)) a c d m5 I2 F2 I4 F4)) (∃m6:Nat,m6<m1∧Inv18 (IntKind.wrap .i64 (i+1)) a c d m6 I2 F2 I4 F4)))) (Q (.returned (.agg #[vi f,vi l,vt n])) I3 F3)) (Q (.returned (.agg #[vi f,vi l,vt n])) I3 F3))))
theorem ref15_Check.vc{o:Bs}{d:OA}{e f:Nat}{g:OA}{i j:Nat}{k:OA}{l n:Nat}{I:Imm}{F:Heap}{Q:PostQ}(Inv18:Int→Int→Int→Bool→Nat→Imm→Heap→Imm→Heap→Prop)(Inv30:Int→Int→Int→Int→Bool→Nat→Imm→Heap→Imm→Heap→Prop)(h:ref15_Check.V (fun W a b c=>(W,Obj.cells #[.int .i64 a,.int .i64 b,.bool c] 51 (0,0))) (fun b=>(b,Obj.cells #[.string o,.slice d e f,.slice g i j,.slice k l n] 39 (0,0))) (.int .u8) (.int .i64) .string .slice .bool o d e f g i j k l n I F Q Inv18 Inv30):Tri P 26 #[.agg #[.string o,.slice d e f,.slice g i j,.slice k l n]] I F Q :=
 tw (A:=(annL [2001,6004,6008,9008,9012] [] [47,48,49] shT_y0 [(18,⟨[(5,(.int .i64))],[(2,[(.int .i64),(.int .i64),.bool])],fun fs I0 F0 vs m I F=>match fs,vs with | [],[.int _ y0,.int _ y1,.int _ y2,.bool y3]=>Inv18 y0 y1 y2 y3 m I0 F0 I F | _,_=>False,[],[]⟩),(30,⟨[(6,(.int .i64))],[(2,[(.int .i64),(.int .i64),.bool])],fun fs I0 F0 vs m I F=>match fs,vs with | [.int _ y0],[.int _ y1,.int _ y2,.int _ y3,.bool y4]=>Inv30 y0 y1 y2 y3 y4 m I0 F0 I F | _,_=>False,[5],[]⟩)] [] [] [(11,11,[2])] [] [] [])) [47,48,49] func26 h
end Go.Lx
namespace Go.Lx
open Go.Vc
structure TF where
 e:Int
 pos:Int
 of:Bool
def zTF:TF:=⟨0,0,false⟩
def TF.v(f:TF):Value:=.agg #[.int .i64 f.e,.int .i64 f.pos,.bool f.of]
def numT(t:Int):Bool:=decide (1≤t∧t≤4)
def ixF(nm:ByteArray):List ByteArray→Int→Int
 | [],_=>-1
 | x::r,i=>if x.toList==nm.toList then i else ixF nm r (i+1)
def StgP.reg(s:StgP)(nm:ByteArray):Int:=ixF nm (s.regs.map RegP.name) 0
def StgP.slot(s:StgP)(nm:ByteArray):Int:=ixF nm (s.slots.map SlotP.name) 0
def StgP.room(s:StgP)(nm:ByteArray):Int:=ixF nm (s.states.map StateP.name) 0
def StgP.regT(s:StgP)(i:Int):Int:=((s.regs[i.toNat]?).map RegP.typ).getD 0
def prodT(a b:Int):Int:=if a=1∧numT b then b else if b=1∧numT a then a else if a=3∧b=2∨a=2∧b=3 then 1 else 0
def quoT(a b:Int):Int:=if numT a∧b=1 then a else if numT a∧a=b then 1 else 0
def twoT(o a b:Int):Int×Bool :=
 if o=6∨o=7∨o=10∨o=4∨o=5 then (a,a==b&&numT a)
 else if o=8 then (prodT a b,prodT a b != 0)
 else if o=9 then (quoT a b,quoT a b != 0)
 else if o=11∨o=12 then (5,a==b)
 else if o=17∨o=18 then (5,a==b&&a==5)
 else (5,a==b&&numT a)
def fieldL:List Int:=[3,3,3,2,4,2]
def at0(l:List Int)(i:Nat):Int:=(l[i]?).getD 0
def nodeT(s:StgP)(x:Px)(l:List Int):Int×Bool :=
 if x.kind=1 then (x.typ,true)
 else if x.kind=2 then (s.regT (s.reg x.name),true)
 else if x.kind=3 then (at0 fieldL (x.field-1).toNat,true)
 else if x.kind=4 then (5,true)
 else if x.kind=7 then (at0 l 1,at0 l 0==5&&at0 l 1==at0 l 2)
 else if x.kind=9 then (x.typ,numT (at0 l 0))
 else if l.length=2 then twoT x.oper (at0 l 0) (at0 l 1)
 else if x.oper=2 then (5,at0 l 0==5)
 else (at0 l 0,numT (at0 l 0))
def nodeE(s:StgP)(x:Px)(l:List Int):Int×TF :=
 if x.kind=2∧s.reg x.name<0 then (0,⟨151,x.pos,true⟩) else if (nodeT s x l).2 then ((nodeT s x l).1,zTF) else (0,⟨152,x.pos,true⟩)
mutual
def typed(s:StgP):Px→Int×TF
 | .mk k o t n f nm l q=>if (typedL s l).2.e≠0 then (0,(typedL s l).2) else nodeE s (.mk k o t n f nm l q) (typedL s l).1
def typedL(s:StgP):List Px→List Int×TF
 | []=>([],zTF)
 | x::r=>if (typed s x).2.e≠0 then ([],(typed s x).2) else ((typed s x).1::(typedL s r).1,(typedL s r).2)
end
theorem typed_eq(s:StgP)(x:Px):typed s x=if (typedL s x.kids).2.e≠0 then (0,(typedL s x.kids).2) else nodeE s x (typedL s x.kids).1:=by cases x;rw[typed];rfl
theorem typedL_ok{s:StgP}:∀{l:List Px},(∀k∈l,(typed s k).2.e=0)→typedL s l=(l.map fun k=>(typed s k).1,zTF)
 | [],_=>by rw[typedL];rfl
 | x::r,h=>by
   rw[typedL,if_neg (by simpa using h x (List.mem_cons_self ..)),typedL_ok fun k hk=>h k (List.mem_cons_of_mem _ hk)];rfl
theorem typedL_err{s:StgP}:∀{l:List Px} {i:Nat} {x:Px},(∀k∈l.take i,(typed s k).2.e=0)→l[i]? = some x→(typed s x).2.e≠0→(typedL s l).2=(typed s x).2
 | y::r,0,x,_,hx,he=>by
   simp only[List.getElem?_cons_zero,Option.some.injEq] at hx
   subst hx
   rw[typedL,if_pos he]
 | y::r,i+1,x,h,hx,he=>by
   rw[List.take_succ_cons] at h
   rw[typedL,if_neg (by simpa using h y (List.mem_cons_self ..))]
   exact typedL_err (fun k hk=>h k (List.mem_cons_of_mem _ hk)) (by simpa using hx) he
def typeOf(s:StgP)(x:Px):Int×TF:=if x.checkE≠0 then (0,⟨x.checkE,0,true⟩) else typed s x
def firstT{α:Type}(f:α→TF):List α→TF
 | []=>zTF
 | x::r=>if (f x).e≠0 then f x else firstT f r
def namedR(s:StgP):List RegP→Int→TF
 | [],_=>zTF
 | r::l,i=>if s.reg r.name<i then ⟨150,r.pos,false⟩ else if (typed s r.init).1≠r.typ then ⟨152,r.pos,false⟩ else namedR s l (i+1)
def namedS(s:StgP):List SlotP→Int→TF
 | [],_=>zTF
 | r::l,i=>if s.slot r.name<i then ⟨150,r.pos,false⟩ else namedS s l (i+1)
def namedT(s:StgP):List StateP→Int→TF
 | [],_=>zTF
 | r::l,i=>if s.room r.name<i then ⟨150,r.pos,false⟩ else namedT s l (i+1)
def thenT(a b:TF):TF:=if a.e≠0 then a else b
def StgP.named(s:StgP):TF:=thenT (namedR s s.regs 0) (thenT (namedS s s.slots 0) (namedT s s.states 0))
def mustT(s:StgP)(x:Px)(t:Int):TF:=if (typeOf s x).2.e≠0 then (typeOf s x).2 else if (typeOf s x).1≠t then ⟨152,x.pos,false⟩ else zTF
def doI(s:StgP)(d:DoP):Int :=
 if d.kind=1 then (if d.name.toList=[] then 0 else s.slot d.name) else if d.kind=2∨d.kind=3 then s.slot d.name else if d.kind=4 then s.reg d.name else if d.kind=5 then s.room d.name else 0
def doL(s:StgP)(d:DoP):List TF :=
 (if d.kind=1 then [mustT s d.side 6] else [])++((if d.kind=1∨d.kind=2 then [mustT s d.qty 2] else [])++((if d.kind=1∧d.order≠2∨d.kind=2 then [mustT s d.price 3] else [])++(if d.kind=4 then [mustT s d.value (s.regT (doI s d))] else [])))
def doT(s:StgP)(d:DoP):TF:=if doI s d<0 then ⟨151,d.pos,false⟩ else firstT id (doL s d)
def dosT(s:StgP):List DoP→Bool→TF
 | [],_=>zTF
 | d::l,last=>if last then ⟨153,d.pos,false⟩ else if (doT s d).e≠0 then doT s d else dosT s l (decide (d.kind=5∨d.kind=6))
def ruleT(s:StgP)(r:RuleP):TF:=thenT (mustT s r.when 5) (dosT s r.dos false)
def StgP.types(s:StgP):TF:=if s.check≠0 then ⟨s.check,0,false⟩ else thenT s.named (firstT (fun x=>firstT (ruleT s) x.rules) s.states)
end Go.Lx
namespace Go.Lx
open Go.Vc
end Go.Lx
namespace Go.Lx
open Go.Vc
theorem formed_one{x:Px}(h:x.formed=true):x.fitB=true∧x.kids.length=x.arity:=by
 rw[Px.formed_eq,Bool.and_eq_true] at h
 have h1:=h.1
 unfold Px.oneB at h1
 simp only[Bool.and_eq_true,decide_eq_true_eq] at h1
 exact⟨h1.1.1,h1.2⟩
theorem formed_field{x:Px}(h:x.formed=true)(hk:x.kind=3):1≤x.field∧x.field≤6:=by
 have h1:=(formed_one h).1
 unfold Px.fitB at h1
 rw[if_neg (by omega),if_neg (by omega),if_pos hk] at h1
 simpa using h1
theorem formed_cond{x:Px}(h:x.formed=true)(hk:x.kind=7):x.kids.length=3:=by
 have h1:=(formed_one h).2
 unfold Px.arity at h1
 rw[if_neg (by omega),if_neg (by omega),if_pos hk] at h1
 exact h1
theorem formed_conv{x:Px}(h:x.formed=true)(hk:x.kind=9):x.kids.length=1:=by
 have h1:=(formed_one h).2
 unfold Px.arity at h1
 rw[if_pos (by omega)] at h1
 exact h1
theorem formed_rest{x:Px}(h:x.formed=true)(h1:x.kind≠1)(h2:x.kind≠2)(h3:x.kind≠3)(h4:x.kind≠4)(h7:x.kind≠7)(h9:x.kind≠9):x.kids.length=1∨x.kids.length=2:=by
 obtain⟨g1,g2⟩:=formed_one h
 unfold Px.fitB at g1
 rw[if_neg h1,if_neg h2,if_neg h3,if_neg h4] at g1
 unfold Px.arity at g2
 by_cases k5:x.kind=5
 ·rw[if_pos (.inl k5)] at g2;exact .inl g2
 ·by_cases k6:x.kind=6
  ·rw[if_neg (by omega),if_pos k6] at g2;exact .inr g2
  ·by_cases k8:x.kind=8
   ·rw[if_neg (by omega),if_neg k6,if_neg h7,if_pos k8] at g2
    split at g2
    ·exact .inl g2
    ·exact .inr g2
   ·rw[if_neg k5,if_neg k6,if_neg h7,if_neg k8,if_neg h9] at g1
    cases g1
theorem SlG.ty{I:Imm}{G:Heap}{a:Option Addr}{n:Nat}{l:List Int}(h:SlG I G 1 encB a n l){i:Nat}(hi:i<n):∃ad,a=some ad∧Rd I G (ad.add (Int.toNat (i:Int)*1)) [.int .u8 (at0 l i)]:=by
 obtain⟨ad,x,h1,h2,h3⟩:=h.at (i:=(i:Int)) (by omega) (by omega)
 refine⟨ad,h1, ?_⟩
 have h2:l[i]? = some x:=h2
 unfold at0
 rw[h2];exact h3
end Go.Lx
namespace Go.Lx
open Go.Vc Go.Proofs.Tryz
def shT_t7:List (Nat×List Sh):=[(3,[.one (.int .i64)]),(4,[.one .bool]),(9,[.one .str]),(28,[.agg [(.int .u8),(.int .u8),(.int .u8),(.int .i64),(.int .u8),.str,.slc,(.int .i64)]]),(63,[.one .slc]),(65,[.agg [.str,.slc,(.int .i64)]]),(77,[.agg [.str,(.int .u8),(.int .u8),(.int .u8),(.int .u8),(.int .i64),(.int .u8),.str,.slc,(.int .i64),(.int .i64)]]),(79,[.agg [.str,(.int .i64)]]),(82,[.one .slc]),(84,[.agg [(.int .u8),(.int .u8),(.int .u8),(.int .i64),(.int .u8),.str,.slc,(.int .i64),.slc,(.int .i64)]]),(99,[.agg [(.int .u8),(.int .u8),.str,(.int .u8),(.int .u8),(.int .u8),(.int .i64),(.int .u8),.str,.slc,(.int .i64),(.int .u8),(.int .u8),(.int .u8),(.int .i64),(.int .u8),.str,.slc,(.int .i64),(.int .u8),(.int .u8),(.int .u8),(.int .i64),(.int .u8),.str,.slc,(.int .i64),(.int .u8),(.int .u8),(.int .u8),(.int .i64),(.int .u8),.str,.slc,(.int .i64),(.int .i64)]])]
def ref00_weighDo.V(a:Nat→Nat×Obj)(nV:Int→Int→Int→Int→Int→Bs→OA→Nat→Nat→Int→Value)(vi:Int→Value)(aw ax:Int)(am:Bs)(an ao ap aq ar:Int)(au:Bs)(l:OA)(m o:Nat)(p q s t u v:Int)(w:Bs)(c:OA)(d e:Nat)(x y z aa ab ac:Int)(ad:Bs)(f:OA)(g h:Nat)(ae af ag ah ai aj:Int)(ak:Bs)(i:OA)(j k:Nat)(al av n:Int)(I:Imm)(F:Heap)(Q:PostQ)  : Prop:=∀b:Nat,Tc1 P 30 (#[nV an ao ap aq ar au l m o p,vi (IntKind.wrap .i64 (n+(am.size:Int))),vi 0]) I ((a b)::·) F vi fun r I1 F1=>Tc1 P 30 #[nV q s t u v w c d e x,vi r,vi 0] I1 ((a b)::·) F1 vi fun r1 I2 F2=>Tc1 P 30 #[nV y z aa ab ac ad f g h ae,vi r1,vi 0] I2 ((a b)::·) F2 vi fun r2 I3 F3=>Tc1 P 30 #[nV af ag ah ai aj ak i j k al,vi r2,vi 0] I3 ((a b)::·) F3 vi fun r3 I4 F4=>Q (.returned (vi r3)) I4 (F4)
theorem ref00_weighDo.vc{ay az:Int}{aA:Bs}{aB aC aD aE aF:Int}{aG:Bs}{v:OA}{w x:Nat}{y z aa ab ac ad:Int}{ae:Bs}{d:OA}{e g:Nat}{af ag ah ai aj ak:Int}{al:Bs}{i:OA}{j m:Nat}{am ao ap aq ar au:Int}{av:Bs}{p:OA}{r u:Nat}{aw ax n:Int}{I:Imm}{F:Heap}{Q:PostQ}  (h:ref00_weighDo.V (fun b=>(b,Obj.cells #[.int .u8 ay,.int .u8 az,.string aA,.int .u8 aB,.int .u8 aC,.int .u8 aD,.int .i64 aE,.int .u8 aF,.string aG,.slice v w x,.int .i64 y,.int .u8 z,.int .u8 aa,.int .u8 ab,.int .i64 ac,.int .u8 ad,.string ae,.slice d e g,.int .i64 af,.int .u8 ag,.int .u8 ah,.int .u8 ai,.int .i64 aj,.int .u8 ak,.string al,.slice i j m,.int .i64 am,.int .u8 ao,.int .u8 ap,.int .u8 aq,.int .i64 ar,.int .u8 au,.string av,.slice p r u,.int .i64 aw,.int .i64 ax] 99 (0,0))) (fun k o t n f s a l c q=>.agg #[.int .u8 k,.int .u8 o,.int .u8 t,.int .i64 n,.int .u8 f,.string s,.slice a l c,.int .i64 q]) (.int .i64) ay az aA aB aC aD aE aF aG v w x y z aa ab ac ad ae d e g af ag ah ai aj ak al i j m am ao ap aq ar au av p r u aw ax n I F Q):Tri P 63 #[.agg #[.int .u8 ay,.int .u8 az,.string aA,.int .u8 aB,.int .u8 aC,.int .u8 aD,.int .i64 aE,.int .u8 aF,.string aG,.slice v w x,.int .i64 y,.int .u8 z,.int .u8 aa,.int .u8 ab,.int .i64 ac,.int .u8 ad,.string ae,.slice d e g,.int .i64 af,.int .u8 ag,.int .u8 ah,.int .u8 ai,.int .i64 aj,.int .u8 ak,.string al,.slice i j m,.int .i64 am,.int .u8 ao,.int .u8 ap,.int .u8 aq,.int .i64 ar,.int .u8 au,.string av,.slice p r u,.int .i64 aw,.int .i64 ax],.int .i64 n] I F Q :=
 tw (A:=(an [] [30] shT_t7)) [30] func63 h
def ref00_WeighStrategy.V(a:Nat→Nat×Obj)(nV:Int→Int→Int→Int→Int→Bs→OA→Nat→Nat→Int→Value)(nL:Int→Int→Int→Int→Int→Bs→OA→Nat→Nat→Int→List Value)(vb vi:Int→Value)(vs:Bs→Value)(vl:OA→Nat→Nat→Value)(wr:Int→Int)(br:Bs)(z:OA)(c bv:Nat)(aZ:OA)(f bw:Nat)(aa:OA)(d bx:Nat)(I:Imm)(F:Heap)(Q:PostQ)(Inv4:Int→Imm→Heap→Imm→Heap→Prop)(Inv8:Int→Int→Nat→Imm→Heap→Imm→Heap→Prop)(Inv19:Int→Imm→Heap→Imm→Heap→Prop)(Inv23:Int→Int→Nat→Imm→Heap→Imm→Heap→Prop)(Inv34:Int→Imm→Heap→Imm→Heap→Prop)(Inv38:Int→Int→Nat→Imm→Heap→Imm→Heap→Prop)(Inv54:Int→Int→Int→Nat→Imm→Heap→Imm→Heap→Prop)(Inv68:Int→Int→Int→Int→Nat→Imm→Heap→Imm→Heap→Prop):Prop:=∀b:Nat,((∃m:Nat,Inv8 (br.size:Int) 0 m I F I F)∧∀(n i:Int) (m1:Nat) (I1:Imm) (F1:Heap),Imm.le I I1→Inv8 n i m1 I F I1 F1→(Dt (i<(c:Int)) (Dt (n≤1048576) ((0≤i∧i<(c:Int))∧∃ad:Addr,z=some ad∧∃(a0 a1 a2 a3 a4:Int) (a5:Bs) (ab:OA) (ac ae:Nat) (a6:Int),Rd I1 ((a b)::F1) ((ad.add (Int.toNat i*11)).add 2) (nL a0 a1 a2 a3 a4 a5 ab ac ae a6)∧((0≤i∧i<(c:Int))∧∃bb:Addr,z=some bb∧∃(m2:Bs),Rd I1 ((a b)::F1) ((bb.add (Int.toNat i*11)).add 0) [vs m2]∧∃(r:Int),(Tri P 30 (#[nV a0 a1 a2 a3 a4 a5 ab ac ae a6,vi (wr ((wr (n+1))+(m2.size:Int))),vi 0]) I1 ((a b)::F1) fun e1 I2 G1=>e1=.returned (vi r)∧List.Perm G1 ((a b)::F1))∧(∃m3:Nat,m3<m1∧Inv8 r (wr (i+1)) m3 I F I1 F1))) (Inv4 n I F I1 F1)) (Inv4 n I F I1 F1)))∧∀(n1:Int) (I3:Imm) (F2:Heap),Imm.le I I3→Inv4 n1 I F I3 F2→((∃m4:Nat,Inv23 n1 0 m4 I3 F2 I3 F2)∧∀(n2 i1:Int) (m5:Nat) (I4:Imm) (F3:Heap),Imm.le I3 I4→Inv23 n2 i1 m5 I3 F2 I4 F3→(Dt (i1<(f:Int)) (Dt (n2≤1048576) ((0≤i1∧i1<(f:Int))∧∃bc:Addr,aZ=some bc∧∃(m6:Bs),Rd I4 ((a b)::F3) ((bc.add (Int.toNat i1*2)).add 0) [vs m6]∧(∃m7:Nat,m7<m5∧Inv23 (wr ((wr (n2+1))+(m6.size:Int))) (wr (i1+1)) m7 I3 F2 I4 F3)) (Inv19 n2 I3 F2 I4 F3)) (Inv19 n2 I3 F2 I4 F3)))∧∀(n3:Int) (I5:Imm) (F4:Heap),Imm.le I3 I5→Inv19 n3 I3 F2 I5 F4→((∃m8:Nat,Inv38 n3 0 m8 I5 F4 I5 F4)∧∀(n4 i2:Int) (m9:Nat) (I6:Imm) (F5:Heap),Imm.le I5 I6→Inv38 n4 i2 m9 I5 F4 I6 F5→(Dt (i2<(d:Int)) (Dt (n4≤1048576) ((0≤i2∧i2<(d:Int))∧∃bd:Addr,aa=some bd∧∃(a7:Bs),Rd I6 ((a b)::F5) ((bd.add (Int.toNat i2*3)).add 0) [vs a7]∧((0≤i2∧i2<(d:Int))∧∃be:Addr,aa=some be∧∃(af:OA) (e bs:Nat),Rd I6 ((a b)::F5) ((be.add (Int.toNat i2*3)).add 1) [vl af e bs]∧(∃bt:Nat,Inv54 i2 (wr ((wr (n4+1))+(a7.size:Int))) 0 bt I6 F5 I6 F5)∧∀(n5 k:Int) (ap:Nat) (I7:Imm) (F6:Heap),Imm.le I6 I7→Inv54 i2 n5 k ap I6 F5 I7 F6→(Dt (k<(e:Int)) (Dt (n5≤1048576) ((0≤k∧k<(e:Int))∧∃bf:Addr,af=some bf∧∃(aq ar au av aw:Int) (ax:Bs) (g:OA) (h l:Nat) (ay:Int),Rd I7 ((a b)::F6) ((bf.add (Int.toNat k*10)).add 0) (nL aq ar au av aw ax g h l ay)∧Tc1 P 30 (#[nV aq ar au av aw ax g h l ay,vi (wr (n5+1)),vi 0]) I7 ((a b)::·) F6 vi fun r1 I8 F7=>(∃bu:Nat,Inv68 i2 k r1 0 bu I8 F7 I8 F7)∧∀(n6 j:Int) (a8:Nat) (I9:Imm) (F8:Heap),Imm.le I8 I9→Inv68 i2 k n6 j a8 I8 F7 I9 F8→((0≤k∧k<(e:Int))∧∃bg:Addr,af=some bg∧∃(bo:OA) (y bp:Nat),Rd I9 ((a b)::F8) ((bg.add (Int.toNat k*10)).add 8) [vl bo y bp]∧(Dt (j<(y:Int)) (Dt (n6≤1048576) ((0≤k∧k<(e:Int))∧∃bh:Addr,af=some bh∧∃(az:OA) (aA bq:Nat),Rd I9 ((a b)::F8) ((bh.add (Int.toNat k*10)).add 8) [vl az aA bq]∧((0≤j∧j<(aA:Int))∧∃bi:Addr,az=some bi∧∃(aB aC:Int) (aD:Bs) (aE aF aG a9 aH:Int) (ba:Bs) (ag:OA) (ah ai:Nat) (aI aj ak aJ aK aL:Int) (aM:Bs) (o:OA) (p q:Nat) (aN aO aP al am aQ:Int) (aR:Bs) (s:OA) (t u:Nat) (aS aT aU aV aW an:Int) (ao:Bs) (v:OA) (w x:Nat) (aX aY:Int),Rd I9 ((a b)::F8) (bi.add (Int.toNat j*36)) [vb aB,vb aC,vs aD,vb aE,vb aF,vb aG,vi a9,vb aH,vs ba,vl ag ah ai,vi aI,vb aj,vb ak,vb aJ,vi aK,vb aL,vs aM,vl o p q,vi aN,vb aO,vb aP,vb al,vi am,vb aQ,vs aR,vl s t u,vi aS,vb aT,vb aU,vb aV,vi aW,vb an,vs ao,vl v w x,vi aX,vi aY]∧Tc1 P 63 (#[.agg #[vb aB,vb aC,vs aD,vb aE,vb aF,vb aG,vi a9,vb aH,vs ba,vl ag ah ai,vi aI,vb aj,vb ak,vb aJ,vi aK,vb aL,vs aM,vl o p q,vi aN,vb aO,vb aP,vb al,vi am,vb aQ,vs aR,vl s t u,vi aS,vb aT,vb aU,vb aV,vi aW,vb an,vs ao,vl v w x,vi aX,vi aY],vi (wr (n6+1))]) I9 ((a b)::·) F8 vi fun r2 I10 F9=>(∃bj:Nat,bj<a8∧Inv68 i2 k r2 (wr (j+1)) bj I8 F7 I10 F9))) (∃bk:Nat,bk<ap∧Inv54 i2 n6 (wr (k+1)) bk I6 F5 I9 F8)) (∃bl:Nat,bl<ap∧Inv54 i2 n6 (wr (k+1)) bl I6 F5 I9 F8)))) (∃bm:Nat,bm<m9∧Inv38 n5 (wr (i2+1)) bm I5 F4 I7 F6)) (∃bn:Nat,bn<m9∧Inv38 n5 (wr (i2+1)) bn I5 F4 I7 F6)))) (Inv34 n4 I5 F4 I6 F5)) (Inv34 n4 I5 F4 I6 F5)))∧∀(n7:Int) (I11:Imm) (F10:Heap),Imm.le I5 I11→Inv34 n7 I5 F4 I11 F10→Q (.returned (vi n7)) I11 (F10)
theorem ref00_WeighStrategy.vc{w:Bs}{d:OA}{e g:Nat}{i:OA}{j p:Nat}{r:OA}{u v:Nat}{I:Imm}{F:Heap}{Q:PostQ}(Inv4:Int→Imm→Heap→Imm→Heap→Prop)(Inv8:Int→Int→Nat→Imm→Heap→Imm→Heap→Prop)(Inv19:Int→Imm→Heap→Imm→Heap→Prop)(Inv23:Int→Int→Nat→Imm→Heap→Imm→Heap→Prop)(Inv34:Int→Imm→Heap→Imm→Heap→Prop)(Inv38:Int→Int→Nat→Imm→Heap→Imm→Heap→Prop)(Inv54:Int→Int→Int→Nat→Imm→Heap→Imm→Heap→Prop)(Inv68:Int→Int→Int→Int→Nat→Imm→Heap→Imm→Heap→Prop)(h:ref00_WeighStrategy.V (fun b=>(b,Obj.cells #[.string w,.slice d e g,.slice i j p,.slice r u v] 39 (0,0))) (fun k o t n f s a l c q=>.agg #[.int .u8 k,.int .u8 o,.int .u8 t,.int .i64 n,.int .u8 f,.string s,.slice a l c,.int .i64 q]) (fun k o t n f s a l c q=>[.int .u8 k,.int .u8 o,.int .u8 t,.int .i64 n,.int .u8 f,.string s,.slice a l c,.int .i64 q]) (.int .u8) (.int .i64) .string .slice (IntKind.wrap .i64) w d e g i j p r u v I F Q Inv4 Inv8 Inv19 Inv23 Inv34 Inv38 Inv54 Inv68):Tri P 37 #[.agg #[.string w,.slice d e g,.slice i j p,.slice r u v]] I F Q :=
 tw (A:=(annL [3004,3007,7004,7007,11004,11007,16003,16006,20007,20010] [] [30,63] shT_t7 [(4,⟨[(3,(.int .i64))],[],fun fs I0 F0 vs m I F=>match fs,vs with | [],[.int _ y0]=>Inv4 y0 I0 F0 I F | _,_=>False,[],[]⟩),(8,⟨[(3,(.int .i64)),(4,(.int .i64))],[],fun fs I0 F0 vs m I F=>match fs,vs with | [],[.int _ y0,.int _ y1]=>Inv8 y0 y1 m I0 F0 I F | _,_=>False,[],[]⟩),(19,⟨[(3,(.int .i64))],[],fun fs I0 F0 vs m I F=>match fs,vs with | [],[.int _ y0]=>Inv19 y0 I0 F0 I F | _,_=>False,[],[]⟩),(23,⟨[(3,(.int .i64)),(5,(.int .i64))],[],fun fs I0 F0 vs m I F=>match fs,vs with | [],[.int _ y0,.int _ y1]=>Inv23 y0 y1 m I0 F0 I F | _,_=>False,[],[]⟩),(34,⟨[(3,(.int .i64))],[],fun fs I0 F0 vs m I F=>match fs,vs with | [],[.int _ y0]=>Inv34 y0 I0 F0 I F | _,_=>False,[],[]⟩),(38,⟨[(3,(.int .i64)),(6,(.int .i64))],[],fun fs I0 F0 vs m I F=>match fs,vs with | [],[.int _ y0,.int _ y1]=>Inv38 y0 y1 m I0 F0 I F | _,_=>False,[],[]⟩),(54,⟨[(3,(.int .i64)),(8,(.int .i64))],[],fun fs I0 F0 vs m I F=>match fs,vs with | [.int _ y0],[.int _ y1,.int _ y2]=>Inv54 y0 y1 y2 m I0 F0 I F | _,_=>False,[6],[]⟩),(68,⟨[(3,(.int .i64)),(9,(.int .i64))],[],fun fs I0 F0 vs m I F=>match fs,vs with | [.int _ y0,.int _ y1],[.int _ y2,.int _ y3]=>Inv68 y0 y1 y2 y3 m I0 F0 I F | _,_=>False,[6,8],[]⟩)] [] [] [] [] [] [])) [30,63] func37 h
def ref00_sameDo.V(a b:Nat→Nat×Obj)(nV:Int→Int→Int→Int→Int→Bs→OA→Nat→Nat→Int→Value)(vt:Bool→Value)(af ag:Int)(ah:Bs)(a5 a6 a7 a8 a9:Int)(ba:Bs)(z:OA)(aa ab:Nat)(al am an ao ap aq:Int)(ar:Bs)(e:OA)(f g:Nat)(au av aw ax ay az:Int)(aA:Bs)(h:OA)(i j:Nat)(aB aC aD aE aF aG:Int)(aH:Bs)(k:OA)(l m:Nat)(aI n ai aj:Int)(ak:Bs)(bb bc bd be bf:Int)(bg:Bs)(ac:OA)(ad ae:Nat)(aJ aK aL aM aN aO:Int)(aP:Bs)(o:OA)(p q:Nat)(aQ aR aS aT aU aV:Int)(aW:Bs)(s:OA)(t u:Nat)(aX aY aZ a0 a1 a2:Int)(a3:Bs)(v:OA)(w x:Nat)(a4 y:Int)(I:Imm)(F:Heap)(Q:PostQ)  : Prop:=∀c:Nat,∀d:Nat,Tc1 P 33 #[nV a5 a6 a7 a8 a9 ba z aa ab al,nV bb bc bd be bf bg ac ad ae aJ] I ((b c)::(a d)::·) F vt fun r I1 F1=>Tc1 P 33 #[nV am an ao ap aq ar e f g au,nV aK aL aM aN aO aP o p q aQ] I1 ((b c)::(a d)::·) F1 vt fun r1 I2 F2=>Tc1 P 33 #[nV av aw ax ay az aA h i j aB,nV aR aS aT aU aV aW s t u aX] I2 ((b c)::(a d)::·) F2 vt fun r2 I3 F3=>Tc1 P 33 #[nV aC aD aE aF aG aH k l m aI,nV aY aZ a0 a1 a2 a3 v w x a4] I3 ((b c)::(a d)::·) F3 vt fun r3 I4 F4=>(It (af==ai) (It (ag==aj) (It (ah.toList==ak.toList) (It (n==y) (It r (It r1 (It r2 (Q (.returned (vt r3)) I4 F4) (Q (.returned (vt false)) I4 F4)) (Q (.returned (vt false)) I4 F4)) (Q (.returned (vt false)) I4 F4)) (Q (.returned (vt false)) I4 F4)) (Q (.returned (vt false)) I4 F4)) (Q (.returned (vt false)) I4 F4)) (Q (.returned (vt false)) I4 F4))
theorem ref00_sameDo.vc{a7 a8:Int}{a9:Bs}{ba bb bc bd be:Int}{bf:Bs}{ae:OA}{af ag:Nat}{ak al am ao ap aq:Int}{ar:Bs}{d:OA}{e g:Nat}{au av aw ax ay az:Int}{aA:Bs}{i:OA}{j m:Nat}{aB aC aD aE aF aG:Int}{aH:Bs}{p:OA}{r u:Nat}{aI aJ bg bh:Int}{bi:Bs}{bj bk bl bm bn:Int}{bo:Bs}{ah:OA}{ai aj:Nat}{aK aL aM aN aO aP:Int}{aQ:Bs}{v:OA}{w x:Nat}{aR aS aT aU aV aW:Int}{aX:Bs}{y:OA}{z aa:Nat}{aY aZ a0 a1 a2 a3:Int}{a4:Bs}{ab:OA}{ac ad:Nat}{a5 a6:Int}{I:Imm}{F:Heap}{Q:PostQ}  (h:ref00_sameDo.V (fun b=>(b,Obj.cells #[.int .u8 bg,.int .u8 bh,.string bi,.int .u8 bj,.int .u8 bk,.int .u8 bl,.int .i64 bm,.int .u8 bn,.string bo,.slice ah ai aj,.int .i64 aK,.int .u8 aL,.int .u8 aM,.int .u8 aN,.int .i64 aO,.int .u8 aP,.string aQ,.slice v w x,.int .i64 aR,.int .u8 aS,.int .u8 aT,.int .u8 aU,.int .i64 aV,.int .u8 aW,.string aX,.slice y z aa,.int .i64 aY,.int .u8 aZ,.int .u8 a0,.int .u8 a1,.int .i64 a2,.int .u8 a3,.string a4,.slice ab ac ad,.int .i64 a5,.int .i64 a6] 99 (0,0))) (fun b=>(b,Obj.cells #[.int .u8 a7,.int .u8 a8,.string a9,.int .u8 ba,.int .u8 bb,.int .u8 bc,.int .i64 bd,.int .u8 be,.string bf,.slice ae af ag,.int .i64 ak,.int .u8 al,.int .u8 am,.int .u8 ao,.int .i64 ap,.int .u8 aq,.string ar,.slice d e g,.int .i64 au,.int .u8 av,.int .u8 aw,.int .u8 ax,.int .i64 ay,.int .u8 az,.string aA,.slice i j m,.int .i64 aB,.int .u8 aC,.int .u8 aD,.int .u8 aE,.int .i64 aF,.int .u8 aG,.string aH,.slice p r u,.int .i64 aI,.int .i64 aJ] 99 (0,0))) (fun k o t n f s a l c q=>.agg #[.int .u8 k,.int .u8 o,.int .u8 t,.int .i64 n,.int .u8 f,.string s,.slice a l c,.int .i64 q]) .bool a7 a8 a9 ba bb bc bd be bf ae af ag ak al am ao ap aq ar d e g au av aw ax ay az aA i j m aB aC aD aE aF aG aH p r u aI aJ bg bh bi bj bk bl bm bn bo ah ai aj aK aL aM aN aO aP aQ v w x aR aS aT aU aV aW aX y z aa aY aZ a0 a1 a2 a3 a4 ab ac ad a5 a6 I F Q):Tri P 113 #[.agg #[.int .u8 a7,.int .u8 a8,.string a9,.int .u8 ba,.int .u8 bb,.int .u8 bc,.int .i64 bd,.int .u8 be,.string bf,.slice ae af ag,.int .i64 ak,.int .u8 al,.int .u8 am,.int .u8 ao,.int .i64 ap,.int .u8 aq,.string ar,.slice d e g,.int .i64 au,.int .u8 av,.int .u8 aw,.int .u8 ax,.int .i64 ay,.int .u8 az,.string aA,.slice i j m,.int .i64 aB,.int .u8 aC,.int .u8 aD,.int .u8 aE,.int .i64 aF,.int .u8 aG,.string aH,.slice p r u,.int .i64 aI,.int .i64 aJ],.agg #[.int .u8 bg,.int .u8 bh,.string bi,.int .u8 bj,.int .u8 bk,.int .u8 bl,.int .i64 bm,.int .u8 bn,.string bo,.slice ah ai aj,.int .i64 aK,.int .u8 aL,.int .u8 aM,.int .u8 aN,.int .i64 aO,.int .u8 aP,.string aQ,.slice v w x,.int .i64 aR,.int .u8 aS,.int .u8 aT,.int .u8 aU,.int .i64 aV,.int .u8 aW,.string aX,.slice y z aa,.int .i64 aY,.int .u8 aZ,.int .u8 a0,.int .u8 a1,.int .i64 a2,.int .u8 a3,.string a4,.slice ab ac ad,.int .i64 a5,.int .i64 a6]] I F Q :=
 tw (A:=(an [5004,5010,5017,5024,5027,5030,5033] [33] shT_t7)) [33] func113 h
def ref00_sameState.V(ka:Nat→Int→Int→Int→Int→Int→Bs→OA→Nat→Nat→Int→OA→Nat→Nat→Int→Nat×Obj)(aj ak:Nat→Nat×Obj)(nV:Int→Int→Int→Int→Int→Bs→OA→Nat→Nat→Int→Value)(vb vi:Int→Value)(vs:Bs→Value)(vl:OA→Nat→Nat→Value)(vt:Bool→Value)(bT:Bs)(bR:OA)(aa b2:Nat)(bU:Int)(bV:Bs)(bS:OA)(aA b3:Nat)(bW:Int)(I:Imm)(F:Heap)(Q:PostQ)(Inv14:Bool→Int→Nat→Imm→Heap→Imm→Heap→Prop)(Inv40:Int→Bool→Int→Nat→Imm→Heap→Imm→Heap→Prop):Prop:=∀al:Nat,∀am:Nat,(It (!(bT.toList==bV.toList)) (Q (.returned (vt false)) I F) (It (bU != bW) (Q (.returned (vt false)) I F) (It ((aa:Int)!=(aA:Int)) (Q (.returned (vt false)) I F) ((∃m:Nat,Inv14 false 0 m I F I F)∧∀(x:Bool) (i:Int) (m1:Nat) (I1:Imm) (F1:Heap),Imm.le I I1→Inv14 x i m1 I F I1 F1→(Dt (i<(aa:Int)) ((0≤i∧i<(aa:Int))∧∃ad:Addr,bR=some ad∧∃(ab ac ae af ag:Int) (ah:Bs) (g:OA) (h j:Nat) (ai:Int) (l:OA) (a o:Nat) (z:Int),Rd I1 ((aj al)::(ak am)::F1) (ad.add (Int.toNat i*10)) [vb ab,vb ac,vb ae,vi af,vb ag,vs ah,vl g h j,vi ai,vl l a o,vi z]∧∀an:Nat,((0≤i∧i<(aA:Int))∧∃bZ:Addr,bS=some bZ∧∃(q s t u v:Int) (w:Bs) (c:OA) (d e:Nat) (y:Int) (f:OA) (b n:Nat) (p:Int),Rd I1 ((aj al)::(ak am)::(ka an ab ac ae af ag ah g h j ai l a o z)::F1) (bZ.add (Int.toNat i*10)) [vb q,vb s,vb t,vi u,vb v,vs w,vl c d e,vi y,vl f b n,vi p]∧∀az:Nat,Tc1 P 33 #[nV ab ac ae af ag ah g h j ai,nV q s t u v w c d e y] I1 ((aj al)::(ak am)::(ka an ab ac ae af ag ah g h j ai l a o z)::(ka az q s t u v w c d e y f b n p)::·) F1 vt fun r I2 F2=>(It (!r) (Q (.returned (vt false)) I2 F2) (It (z != p) (Q (.returned (vt false)) I2 F2) (It ((a:Int)!=(b:Int)) (Q (.returned (vt false)) I2 F2) ((∃m2:Nat,Inv40 i x 0 m2 I2 F2 I2 F2)∧∀(x1:Bool) (k:Int) (m3:Nat) (I3:Imm) (F3:Heap),Imm.le I2 I3→Inv40 i x1 k m3 I2 F2 I3 F3→(Dt (k<(a:Int)) ((0≤k∧k<(a:Int))∧∃b0:Addr,l=some b0∧∃(bj bk:Int) (bl:Bs) (bm bn bo bX bp:Int) (bY:Bs) (aN:OA) (aO aP:Nat) (bq aQ aR br bs bt:Int) (bu:Bs) (aB:OA) (aC aD:Nat) (bv bw bx aS aT bz:Int) (bA:Bs) (aE:OA) (aF aG:Nat) (bB bC bD bE bF aU:Int) (aV:Bs) (aH:OA) (aI aJ:Nat) (bG bH:Int),Rd I3 ((aj al)::(ak am)::(ka an ab ac ae af ag ah g h j ai l a o z)::(ka az q s t u v w c d e y f b n p)::F3) (b0.add (Int.toNat k*36)) [vb bj,vb bk,vs bl,vb bm,vb bn,vb bo,vi bX,vb bp,vs bY,vl aN aO aP,vi bq,vb aQ,vb aR,vb br,vi bs,vb bt,vs bu,vl aB aC aD,vi bv,vb bw,vb bx,vb aS,vi aT,vb bz,vs bA,vl aE aF aG,vi bB,vb bC,vb bD,vb bE,vi bF,vb aU,vs aV,vl aH aI aJ,vi bG,vi bH]∧((0≤k∧k<(b:Int))∧∃b1:Addr,f=some b1∧∃(bI bJ:Int) (bK:Bs) (bL bM bN bO bP:Int) (bQ:Bs) (aK:OA) (aL aM:Nat) (aW aX aY aZ a0 a1:Int) (a2:Bs) (ao:OA) (ap aq:Nat) (a3 a4 a5 a6 a7 a8:Int) (a9:Bs) (ar:OA) (au av:Nat) (ba bb bc bd be bf:Int) (bg:Bs) (aw:OA) (ax ay:Nat) (bh bi:Int),Rd I3 ((aj al)::(ak am)::(ka an ab ac ae af ag ah g h j ai l a o z)::(ka az q s t u v w c d e y f b n p)::F3) (b1.add (Int.toNat k*36)) [vb bI,vb bJ,vs bK,vb bL,vb bM,vb bN,vi bO,vb bP,vs bQ,vl aK aL aM,vi aW,vb aX,vb aY,vb aZ,vi a0,vb a1,vs a2,vl ao ap aq,vi a3,vb a4,vb a5,vb a6,vi a7,vb a8,vs a9,vl ar au av,vi ba,vb bb,vb bc,vb bd,vi be,vb bf,vs bg,vl aw ax ay,vi bh,vi bi]∧∃(r1:Bool),(Tri P 113 #[.agg #[vb bj,vb bk,vs bl,vb bm,vb bn,vb bo,vi bX,vb bp,vs bY,vl aN aO aP,vi bq,vb aQ,vb aR,vb br,vi bs,vb bt,vs bu,vl aB aC aD,vi bv,vb bw,vb bx,vb aS,vi aT,vb bz,vs bA,vl aE aF aG,vi bB,vb bC,vb bD,vb bE,vi bF,vb aU,vs aV,vl aH aI aJ,vi bG,vi bH],.agg #[vb bI,vb bJ,vs bK,vb bL,vb bM,vb bN,vi bO,vb bP,vs bQ,vl aK aL aM,vi aW,vb aX,vb aY,vb aZ,vi a0,vb a1,vs a2,vl ao ap aq,vi a3,vb a4,vb a5,vb a6,vi a7,vb a8,vs a9,vl ar au av,vi ba,vb bb,vb bc,vb bd,vi be,vb bf,vs bg,vl aw ax ay,vi bh,vi bi]] I3 ((aj al)::(ak am)::(ka an ab ac ae af ag ah g h j ai l a o z)::(ka az q s t u v w c d e y f b n p)::F3) fun e2 I4 G2=>e2=.returned (vt r1)∧List.Perm G2 ((aj al)::(ak am)::(ka an ab ac ae af ag ah g h j ai l a o z)::(ka az q s t u v w c d e y f b n p)::F3))∧(It (!r1) (Q (.returned (vt false)) I3 F3) (∃m4:Nat,m4<m3∧Inv40 i x1 (IntKind.wrap .i64 (k+1)) m4 I2 F2 I3 F3)))) (∃m5:Nat,m5<m1∧Inv14 x1 (IntKind.wrap .i64 (i+1)) m5 I F I3 F3)))))))) (Q (.returned (vt true)) I1 F1))))))
theorem ref00_sameState.vc{y:Bs}{p:OA}{r u:Nat}{z:Int}{aa:Bs}{v:OA}{w x:Nat}{ab:Int}{I:Imm}{F:Heap}{Q:PostQ}(Inv14:Bool→Int→Nat→Imm→Heap→Imm→Heap→Prop)(Inv40:Int→Bool→Int→Nat→Imm→Heap→Imm→Heap→Prop)(h:ref00_sameState.V (fun W a b c d e f g h i j k l m n=>(W,Obj.cells #[.int .u8 a,.int .u8 b,.int .u8 c,.int .i64 d,.int .u8 e,.string f,.slice g h i,.int .i64 j,.slice k l m,.int .i64 n] 84 (0,0))) (fun b=>(b,Obj.cells #[.string y,.slice p r u,.int .i64 z] 65 (0,0))) (fun b=>(b,Obj.cells #[.string aa,.slice v w x,.int .i64 ab] 65 (0,0))) (fun k o t n f s a l c q=>.agg #[.int .u8 k,.int .u8 o,.int .u8 t,.int .i64 n,.int .u8 f,.string s,.slice a l c,.int .i64 q]) (.int .u8) (.int .i64) .string .slice .bool y p r u z aa v w x ab I F Q Inv14 Inv40):Tri P 74 #[.agg #[.string y,.slice p r u,.int .i64 z],.agg #[.string aa,.slice v w x,.int .i64 ab]] I F Q :=
 tw (A:=(annL [1004,1010,1019,4004,9001,9007,9016,12004,15001] [] [33,113] shT_t7 [(14,⟨[(4,.bool),(5,(.int .i64))],[],fun fs I0 F0 vs m I F=>match fs,vs with | [],[.bool y0,.int _ y1]=>Inv14 y0 y1 m I0 F0 I F | _,_=>False,[],[]⟩),(40,⟨[(4,.bool),(9,(.int .i64))],[],fun fs I0 F0 vs m I F=>match fs,vs with | [.int _ y0],[.bool y1,.int _ y2]=>Inv40 y0 y1 y2 m I0 F0 I F | _,_=>False,[5],[]⟩)] [] [] [] [] [] [])) [33,113] func74 h
def ref00_SameStrategy.V(ka:Nat→Bs→Int→Int→Int→Int→Int→Int→Bs→OA→Nat→Nat→Int→Int→Nat×Obj)(a b:Nat→Nat×Obj)(nV:Int→Int→Int→Int→Int→Bs→OA→Nat→Nat→Int→Value)(vb vi:Int→Value)(vs:Bs→Value)(vl:OA→Nat→Nat→Value)(vt:Bool→Value)(aN:Bs)(aH:OA)(e aV:Nat)(aI:OA)(f aW:Nat)(aJ:OA)(g aX:Nat)(aO:Bs)(aK:OA)(y aY:Nat)(aL:OA)(z aZ:Nat)(aM:OA)(aa a0:Nat)(I:Imm)(F:Heap)(Q:PostQ)(Inv14:Bool→Int→Nat→Imm→Heap→Prop)(Inv41:Bool→Int→Nat→Imm→Heap→Prop)(Inv62:Bool→Int→Nat→Imm→Heap→Prop):Prop:=∀c:Nat,∀d:Nat,(It (!(aN.toList==aO.toList)) (Q (.returned (vt false)) I F) (It ((e:Int)!=(y:Int)) (Q (.returned (vt false)) I F) (It ((f:Int)!=(z:Int)) (Q (.returned (vt false)) I F) (It ((g:Int)!=(aa:Int)) (Q (.returned (vt false)) I F) ((∃m:Nat,Inv14 false 0 m I F)∧∀(x:Bool) (i:Int) (m1:Nat) (I1:Imm) (F1:Heap),Imm.le I I1→Inv14 x i m1 I1 F1→(Dt (i<(e:Int)) ((0≤i∧i<(e:Int))∧∃ad:Addr,aH=some ad∧∃(v:Bs) (w aj ak al am an:Int) (ao:Bs) (h:OA) (j k:Nat) (ap s:Int),Rd I1 ((a c)::(b d)::F1) (ad.add (Int.toNat i*11)) [vs v,vb w,vb aj,vb ak,vb al,vi am,vb an,vs ao,vl h j k,vi ap,vi s]∧∀aG:Nat,((0≤i∧i<(y:Int))∧∃aP:Addr,aK=some aP∧∃(t:Bs) (u ab ac ae af ag:Int) (ah:Bs) (l:OA) (n o:Nat) (ai p:Int),Rd I1 ((a c)::(b d)::(ka aG v w aj ak al am an ao h j k ap s)::F1) (aP.add (Int.toNat i*11)) [vs t,vb u,vb ab,vb ac,vb ae,vi af,vb ag,vs ah,vl l n o,vi ai,vi p]∧∀aQ:Nat,Tc1 P 33 #[nV aj ak al am an ao h j k ap,nV ab ac ae af ag ah l n o ai] I1 ((a c)::(b d)::(ka aG v w aj ak al am an ao h j k ap s)::(ka aQ t u ab ac ae af ag ah l n o ai p)::·) F1 vt fun r I2 F2=>(It (!r) (Q (.returned (vt false)) I2 F2) (It (!(v.toList==t.toList)) (Q (.returned (vt false)) I2 F2) (It (w != u) (Q (.returned (vt false)) I2 F2) (It (s != p) (Q (.returned (vt false)) I2 F2) (∃m2:Nat,m2<m1∧Inv14 x (IntKind.wrap .i64 (i+1)) m2 I2 F2))))))) ((∃m3:Nat,Inv41 x 0 m3 I1 F1)∧∀(x1:Bool) (i1:Int) (m4:Nat) (I3:Imm) (F3:Heap),Imm.le I1 I3→Inv41 x1 i1 m4 I3 F3→(Dt (i1<(f:Int)) ((0≤i1∧i1<(f:Int))∧∃aR:Addr,aI=some aR∧∃(ay:Bs) (az:Int),Rd I3 ((a c)::(b d)::F3) (aR.add (Int.toNat i1*2)) [vs ay,vi az]∧((0≤i1∧i1<(z:Int))∧∃aS:Addr,aL=some aS∧∃(aA:Bs) (aB:Int),Rd I3 ((a c)::(b d)::F3) (aS.add (Int.toNat i1*2)) [vs aA,vi aB]∧∃q:Bool,BinRun P .neq 79 (.tmp 100) (.tmp 105) (.agg #[vs ay,vi az]) (.agg #[vs aA,vi aB]) q∧(It q (Q (.returned (vt false)) I3 F3) (∃m5:Nat,m5<m4∧Inv41 x1 (IntKind.wrap .i64 (i1+1)) m5 I3 F3)))) ((∃m6:Nat,Inv62 x1 0 m6 I3 F3)∧∀(x2:Bool) (i2:Int) (m7:Nat) (I4:Imm) (F4:Heap),Imm.le I3 I4→Inv62 x2 i2 m7 I4 F4→(Dt (i2<(g:Int)) ((0≤i2∧i2<(g:Int))∧∃aT:Addr,aJ=some aT∧∃(aC:Bs) (av:OA) (aw ax:Nat) (aD:Int),Rd I4 ((a c)::(b d)::F4) (aT.add (Int.toNat i2*3)) [vs aC,vl av aw ax,vi aD]∧((0≤i2∧i2<(aa:Int))∧∃aU:Addr,aM=some aU∧∃(aE:Bs) (aq:OA) (ar au:Nat) (aF:Int),Rd I4 ((a c)::(b d)::F4) (aU.add (Int.toNat i2*3)) [vs aE,vl aq ar au,vi aF]∧∃(r1:Bool),(Tri P 74 #[.agg #[vs aC,vl av aw ax,vi aD],.agg #[vs aE,vl aq ar au,vi aF]] I4 ((a c)::(b d)::F4) fun e2 I5 G2=>e2=.returned (vt r1)∧List.Perm G2 ((a c)::(b d)::F4))∧(It (!r1) (Q (.returned (vt false)) I4 F4) (∃m8:Nat,m8<m7∧Inv62 x2 (IntKind.wrap .i64 (i2+1)) m8 I4 F4)))) (Q (.returned (vt true)) I4 F4)))))))))))
theorem ref00_SameStrategy.vc{ak:Bs}{p:OA}{r u:Nat}{v:OA}{w x:Nat}{y:OA}{z aa:Nat}{al:Bs}{ab:OA}{ac ad:Nat}{ae:OA}{af ag:Nat}{ah:OA}{ai aj:Nat}{I:Imm}{F:Heap}{Q:PostQ}(Inv14:Bool→Int→Nat→Imm→Heap→Prop)(Inv41:Bool→Int→Nat→Imm→Heap→Prop)(Inv62:Bool→Int→Nat→Imm→Heap→Prop)(h:ref00_SameStrategy.V (fun W a b c d e f g h i j k l m=>(W,Obj.cells #[.string a,.int .u8 b,.int .u8 c,.int .u8 d,.int .u8 e,.int .i64 f,.int .u8 g,.string h,.slice i j k,.int .i64 l,.int .i64 m] 77 (0,0))) (fun b=>(b,Obj.cells #[.string ak,.slice p r u,.slice v w x,.slice y z aa] 39 (0,0))) (fun b=>(b,Obj.cells #[.string al,.slice ab ac ad,.slice ae af ag,.slice ah ai aj] 39 (0,0))) (fun k o t n f s a l c q=>.agg #[.int .u8 k,.int .u8 o,.int .u8 t,.int .i64 n,.int .u8 f,.string s,.slice a l c,.int .i64 q]) (.int .u8) (.int .i64) .string .slice .bool ak p r u v w x y z aa al ab ac ad ae af ag ah ai aj I F Q Inv14 Inv41 Inv62):Tri P 46 #[.agg #[.string ak,.slice p r u,.slice v w x,.slice y z aa],.agg #[.string al,.slice ab ac ad,.slice ae af ag,.slice ah ai aj]] I F Q :=
 tw (A:=(annL [1004,1012,1021,1030,4004,9001,9007,9014,9021,12004,14010,17004,20001] [] [33,74] shT_t7 [(14,⟨[(4,.bool),(5,(.int .i64))],[],fun _ _ _ vs m I F=>match vs with | [.bool y0,.int _ y1]=>Inv14 y0 y1 m I F | _=>False,[],[]⟩),(41,⟨[(4,.bool),(9,(.int .i64))],[],fun _ _ _ vs m I F=>match vs with | [.bool y0,.int _ y1]=>Inv41 y0 y1 m I F | _=>False,[],[]⟩),(62,⟨[(4,.bool),(10,(.int .i64))],[],fun _ _ _ vs m I F=>match vs with | [.bool y0,.int _ y1]=>Inv62 y0 y1 m I F | _=>False,[],[]⟩)] [] [] [] [] [] [])) [33,74] func46 h
end Go.Lx
namespace Go.Lx
open Go.Vc
def DoP.Short(d:DoP):Prop:=d.name.size≤140737488351232∧∀x∈d.nds,x.ShortP
def RuleP.Short(r:RuleP):Prop:=r.when.ShortP∧r.dos.length≤140737488351232∧∀d∈r.dos,d.Short
def StateP.Short(x:StateP):Prop:=x.name.size≤140737488351232∧x.rules.length≤140737488351232∧∀r∈x.rules,r.Short
def RegP.Short(r:RegP):Prop:=r.name.size≤140737488351232∧r.init.ShortP
def SlotP.Short(r:SlotP):Prop:=r.name.size≤140737488351232
structure StgP.Short (s:StgP):Prop where
 name:s.name.size≤140737488351232
 regs:s.regs.length≤140737488351232
 reg:∀r∈s.regs,r.Short
 slots:s.slots.length≤140737488351232
 slot:∀r∈s.slots,r.Short
 states:s.states.length≤140737488351232
 state:∀x∈s.states,x.Short
def DoP.Light(d:DoP):Prop:=Small d.nds
def RuleP.Light(r:RuleP):Prop:=r.when.size≤1048576∧r.dos.length≤1048576∧∀d∈r.dos,d.Light
def StateP.Light(x:StateP):Prop:=x.rules.length≤1048576∧∀r∈x.rules,r.Light
def sumI{α:Type}(f:α→Int):List α→Int
 | []=>0
 | x::r=>f x+sumI f r
theorem sumI_nonneg{α:Type}{f:α→Int}(h:∀x,0≤f x):∀l,0≤sumI f l
 | []=>Int.le_refl _
 | x::r=>by have:=sumI_nonneg h r;have:=h x;rw[sumI];omega
theorem sumI_len{α:Type}{f:α→Int}(h:∀x,1≤f x):∀l:List α,(l.length:Int)≤sumI f l
 | []=>Int.le_refl _
 | x::r=>by have:=sumI_len h r;have:=h x;rw[sumI,List.length_cons];omega
theorem sumI_mem{α:Type}{f:α→Int}(h:∀x,0≤f x):∀{l:List α} {x:α},x∈l→f x≤sumI f l
 | y::r,x,hx=>by
   have h1:=sumI_nonneg h r
   have h2:=h y
   rw[sumI]
   rcases List.mem_cons.1 hx with rfl | hx
   ·omega
   ·have:=sumI_mem h hx;omega
def DoP.mass(d:DoP):Int:=1+d.side.size+d.qty.size+d.price.size+d.value.size
def RuleP.mass(r:RuleP):Int:=1+r.when.size+sumI DoP.mass r.dos
def StateP.mass(x:StateP):Int:=1+sumI RuleP.mass x.rules
def RegP.mass(r:RegP):Int:=1+r.init.size
def StgP.mass(s:StgP):Int:=sumI RegP.mass s.regs+s.slots.length+sumI StateP.mass s.states
theorem DoP.mass_pos(d:DoP):1≤d.mass:=by
 have q1:=Px.size_pos d.side
 have q2:=Px.size_pos d.qty
 have q3:=Px.size_pos d.price
 have q4:=Px.size_pos d.value
 unfold DoP.mass;omega
theorem RuleP.mass_pos(r:RuleP):1≤r.mass:=by
 have q1:=Px.size_pos r.when
 have q2:=sumI_nonneg (fun x=>Int.le_trans (by decide) (DoP.mass_pos x)) r.dos
 unfold RuleP.mass;omega
theorem StateP.mass_pos(x:StateP):1≤x.mass:=by
 have q2:=sumI_nonneg (fun x=>Int.le_trans (by decide) (RuleP.mass_pos x)) x.rules
 unfold StateP.mass;omega
theorem RegP.mass_pos(r:RegP):1≤r.mass:=by
 have q1:=Px.size_pos r.init
 unfold RegP.mass;omega
structure StgP.Light (s:StgP):Prop where
 regs:s.regs.length≤1048576
 reg:∀r∈s.regs,r.init.size≤1048576
 slots:s.slots.length≤1048576
 states:s.states.length≤1048576
 state:∀x∈s.states,x.Light
 all:s.mass≤1048576
theorem DoP.light{d:DoP}(h:d.mass≤1048576):d.Light:=fun x hx=>by
 have q1:=Px.size_pos d.side
 have q2:=Px.size_pos d.qty
 have q3:=Px.size_pos d.price
 have q4:=Px.size_pos d.value
 unfold DoP.mass at h
 simp only[DoP.nds,List.mem_cons,List.not_mem_nil,or_false] at hx
 rcases hx with rfl | rfl | rfl | rfl<;>omega
theorem RuleP.light{r:RuleP}(h:r.mass≤1048576):r.Light:=by
 have q1:=Px.size_pos r.when
 have q2:=sumI_len DoP.mass_pos r.dos
 unfold RuleP.mass at h
 refine⟨by omega,by omega,fun d hd=>DoP.light ?_⟩
 have:=sumI_mem (fun x=>Int.le_trans (by decide) (DoP.mass_pos x)) hd
 omega
theorem StateP.light{x:StateP}(h:x.mass≤1048576):x.Light:=by
 have q2:=sumI_len RuleP.mass_pos x.rules
 unfold StateP.mass at h
 refine⟨by omega,fun d hd=>RuleP.light ?_⟩
 have:=sumI_mem (fun x=>Int.le_trans (by decide) (RuleP.mass_pos x)) hd
 omega
theorem StgP.light{s:StgP}(h:s.mass≤1048576):s.Light:=by
 have h':=h
 have q1:=sumI_len RegP.mass_pos s.regs
 have q2:=sumI_len StateP.mass_pos s.states
 unfold StgP.mass at h
 refine⟨by omega,fun r hr=>?_,by omega,by omega,fun x hx=>StateP.light ?_,h'⟩
 ·have:=sumI_mem (fun x=>Int.le_trans (by decide) (RegP.mass_pos x)) hr
  have hm:r.mass=1+r.init.size:=rfl
  omega
 ·have:=sumI_mem (fun x=>Int.le_trans (by decide) (StateP.mass_pos x)) hx
  omega
def DoN.mass(d:DoN):Int:=d.p.mass
def RuleN.mass(r:RuleN):Int:=r.p.mass
def StateN.mass(r:StateN):Int:=r.p.mass
def RegN.mass(r:RegN):Int:=r.p.mass
theorem StgP.Light.small{s:StgP}(h:s.Light):Small s.nds:=fun x hx=>by
 simp only[StgP.nds,List.mem_append,List.mem_map,List.mem_flatMap] at hx
 rcases hx with ⟨r,hr,rfl⟩ | ⟨y,hy,r,hr,hx⟩
 ·exact h.reg r hr
 ·obtain⟨_,h1⟩:=h.state y hy
  obtain⟨h2,_,h3⟩:=h1 r hr
  unfold RuleP.nds at hx
  rcases List.mem_cons.1 hx with rfl | hx
  ·exact h2
  ·obtain⟨d,hd,hx⟩:=List.mem_flatMap.1 hx
   exact h3 d hd x hx
theorem StgP.Light.lens{s:StgN}(h:s.p.Light):s.Lens:=by
 have l1:=h.regs
 have l2:=h.slots
 have l3:=h.states
 simp only[StgN.p,List.length_map] at l1 l2 l3
 refine⟨by omega,by omega,by omega,fun x hx=>?_,fun x hx r hr=>?_⟩
 ·have:=(h.state x.p (List.mem_map_of_mem hx)).1
  simp only[StateN.p,List.length_map] at this
  omega
 ·have:=((h.state x.p (List.mem_map_of_mem hx)).2 r.p (List.mem_map_of_mem hr)).2.1
  simp only[RuleN.p,List.length_map] at this
  omega
structure StgP.Thin (s:StgP):Prop where
 regs:s.regs.length≤1048576
 reg:∀r∈s.regs,r.init.size≤1048576
 slots:s.slots.length≤1048576
 states:s.states.length≤1048576
 state:∀x∈s.states,x.Light
theorem StgP.Light.thin{s:StgP}(h:s.Light):s.Thin:=⟨h.regs,h.reg,h.slots,h.states,h.state⟩
theorem StgP.Thin.small{s:StgP}(h:s.Thin):Small s.nds:=fun x hx=>by
 simp only[StgP.nds,List.mem_append,List.mem_map,List.mem_flatMap] at hx
 rcases hx with ⟨r,hr,rfl⟩ | ⟨y,hy,r,hr,hx⟩
 ·exact h.reg r hr
 ·obtain⟨_,h1⟩:=h.state y hy
  obtain⟨h2,_,h3⟩:=h1 r hr
  unfold RuleP.nds at hx
  rcases List.mem_cons.1 hx with rfl | hx
  ·exact h2
  ·obtain⟨d,hd,hx⟩:=List.mem_flatMap.1 hx
   exact h3 d hd x hx
theorem StgP.Thin.lens{s:StgN}(h:s.p.Thin):s.Lens:=by
 have l1:=h.regs
 have l2:=h.slots
 have l3:=h.states
 simp only[StgN.p,List.length_map] at l1 l2 l3
 refine⟨by omega,by omega,by omega,fun x hx=>?_,fun x hx r hr=>?_⟩
 ·have:=(h.state x.p (List.mem_map_of_mem hx)).1
  simp only[StateN.p,List.length_map] at this
  omega
 ·have:=((h.state x.p (List.mem_map_of_mem hx)).2 r.p (List.mem_map_of_mem hr)).2.1
  simp only[RuleN.p,List.length_map] at this
  omega
theorem take_all{α:Type}{l:List α}{i:Nat}{x:α}{p:α→Prop}(hx:l[i]? = some x)(h:∀y∈l.take i,p y)(hp:p x):∀y∈l.take (i+1),p y:=by
 obtain⟨hi,rfl⟩:=List.getElem?_eq_some_iff.1 hx
 intro y hy
 rw[List.take_succ_eq_append_getElem hi] at hy
 rcases List.mem_append.1 hy with hy | hy
 ·exact h y hy
 ·rw[List.mem_singleton] at hy;rw[hy];exact hp
theorem Rd.part{I:Imm}{G:Heap}{ad:Addr}{cs xs ds ys:List Value}(h:Rd I G ad cs){o:Nat}(e:cs=xs++(ds++ys))(ho:xs.length=o):Rd I G (ad.add o) ds:=by
 obtain⟨h1,cells,t,fz,h2,h3⟩:=h
 have hadd:ad.add o=⟨ad.block,ad.off+o,none⟩:=by
  obtain⟨b,off,sp⟩:=ad
  simp only at h1;subst h1
  unfold Addr.add;split<;>simp_all
 rw[hadd]
 refine⟨rfl,cells,t,fz,h2,fun j hj=>?_⟩
 have:=h3 (o+j) (by rw[e];simp only[List.length_append];omega)
 rw[←Nat.add_assoc] at this
 rw[this,e,List.getElem?_append_right (by omega),show o+j-xs.length=j by omega,List.getElem?_append_left hj]
end Go.Lx
namespace Go.Lx
open Go.Vc
end Go.Lx
namespace Go.Vc
def eachB{α β:Type}(f:α→β→Bool):List α→List β→Bool
 | x::l,y::m=>f x y&&eachB f l m
 | _,_=>true
end Go.Vc
namespace Go.Lx
open Go.Vc
namespace Px
mutual
def same:Px→Px→Bool
 | .mk k o t n f s l q,y=>q==y.pos&&(aloneEq (.mk k o t n f s l q) y&&(decide (l.length=y.kids.length)&&sameL l y.kids))
def sameL:List Px→List Px→Bool
 | [],_=>true
 | _::_,[]=>false
 | x::r,y::r'=>same x y&&sameL r r'
end
end Px
def DoP.same(d e:DoP):Bool:=d.kind==e.kind&&(d.order==e.order&&(d.name.toList==e.name.toList&&(d.pos==e.pos&&(d.side.same e.side&&(d.qty.same e.qty&&(d.price.same e.price&&d.value.same e.value))))))
def RuleP.same(r q:RuleP):Bool:=r.when.same q.when&&(r.pos==q.pos&&(decide (r.dos.length=q.dos.length)&&eachB DoP.same r.dos q.dos))
def StateP.same(x y:StateP):Bool:=x.name.toList==y.name.toList&&(x.pos==y.pos&&(decide (x.rules.length=y.rules.length)&&eachB RuleP.same x.rules y.rules))
def RegP.same(r q:RegP):Bool:=r.init.same q.init&&(r.name.toList==q.name.toList&&(r.typ==q.typ&&r.pos==q.pos))
def SlotP.same(r q:SlotP):Bool:=r.name.toList==q.name.toList&&(r.pos==q.pos&&true)
def StgP.same(s u:StgP):Bool:=s.name.toList==u.name.toList&&(decide (s.regs.length=u.regs.length)&&(decide (s.slots.length=u.slots.length)&&(decide (s.states.length=u.states.length) &&
 (eachB RegP.same s.regs u.regs&&(eachB SlotP.same s.slots u.slots&&eachB StateP.same s.states u.states)))))
end Go.Lx
namespace Go.Lx
open Go.Vc
end Go.Lx
namespace Go.Lx
open Go.Vc
end Go.Lx
namespace Go.Lx
open Go.Vc
def TailS(z n:Nat)(a:Option Addr)(c:Nat)(A:Heap):Prop :=
 ∃b cells e,a=some ⟨b,0,none⟩∧A=[(b,Obj.cells cells e (0,0))]∧c=n+2∧cells[n*z+(z-1)]? = some (.int .i64 (-771))
def OwnL{α:Type}(R:Bool)(z:Nat)(f:α→List Value)(E:Nat)(O:α→Heap→Prop)(a:Option Addr)(n c:Nat)(l:List α)(H:Heap):Prop :=
 ∃A hs,H=A++flatH n hs∧Acc z f E a n c l A∧(R=true→TailS z n a c A)∧∀(i:Nat) (k:α),l[i]? = some k→O k (hs i)
def DoOwn(R:Bool)(d:DoN)(H:Heap):Prop:=∃H1 H2 H3 H4,H=H1++(H2++(H3++H4))∧OwnT 28 R d.side H1∧OwnT 28 R d.qty H2∧OwnT 28 R d.price H3∧OwnT 28 R d.value H4
def RegOwn(R:Bool)(r:RegN)(H:Heap):Prop:=OwnT 28 R r.init H
def SlotOwn(r:SlotP)(H:Heap):Prop:=H=[]
def RuleOwn(R:Bool)(r:RuleN)(H:Heap):Prop:=∃H1 H2,H=H1++H2∧OwnT 28 R r.when H1∧OwnL R 36 DoN.enc 99 (DoOwn R) r.a r.dos.length r.c r.dos H2
def StateOwn(R:Bool)(x:StateN)(H:Heap):Prop:=OwnL R 10 RuleN.enc 84 (RuleOwn R) x.a x.rules.length x.c x.rules H
def StgOwn(R:Bool)(s:StgN)(H:Heap):Prop:=∃H1 H2 H3,H=H1++(H2++H3)∧OwnL R 11 RegN.enc 77 (RegOwn R) s.ra s.regs.length s.rc s.regs H1∧OwnL R 2 SlotP.enc 79 SlotOwn s.sa s.slots.length s.sc s.slots H2 ∧
 OwnL R 3 StateN.enc 65 (StateOwn R) s.ta s.states.length s.tc s.states H3
theorem OwnL.ok{α:Type}{R:Bool}{z E n c:Nat}{f:α→List Value}{O:α→Heap→Prop}{a:Option Addr}{l:List α}{H:Heap}(h:OwnL R z f E O a n c l H)(hz:∀x,(f x).length=z){I:Imm}{G:Heap}{K:α→Prop}(hG:∀x,x∈H→x∈G)
  (hk:∀x H',O x H'→(∀y,y∈H'→y∈G)→K x):SlG I G z f a n l∧∀x∈l,K x:=by
 obtain⟨A,hs,rfl,hA, -,hO⟩:=h
 refine⟨hA.slg hz I fun x hx=>hG x (List.mem_append_left _ hx),fun x hx=>?_⟩
 obtain⟨i,hi,rfl⟩:=List.mem_iff_getElem.1 hx
 have hn:=hA.1
 exact hk _ _ (hO i _ (List.getElem?_eq_getElem hi)) fun y hy=>hG y (List.mem_append_right _ (flatH_mem (by omega) hy))
theorem DoOwn.ok{R:Bool}{d:DoN}{H:Heap}(h:DoOwn R d H){I:Imm}{G:Heap}(hG:∀x,x∈H→x∈G):d.Ok I G:=by
 obtain⟨H1,H2,H3,H4,rfl,h1,h2,h3,h4⟩:=h
 simp only[List.mem_append] at hG
 exact⟨h1.ok fun x hx=>hG x (.inl hx),h2.ok fun x hx=>hG x (.inr (.inl hx)),h3.ok fun x hx=>hG x (.inr (.inr (.inl hx))),h4.ok fun x hx=>hG x (.inr (.inr (.inr hx)))⟩
theorem RegOwn.ok{R:Bool}{d:RegN}{H:Heap}(h:RegOwn R d H){I:Imm}{G:Heap}(hG:∀x,x∈H→x∈G):d.Ok I G:=OwnT.ok h hG
theorem RuleOwn.ok{R:Bool}{r:RuleN}{H:Heap}(h:RuleOwn R r H){I:Imm}{G:Heap}(hG:∀x,x∈H→x∈G):r.Ok I G:=by
 obtain⟨H1,H2,rfl,h1,h2⟩:=h
 obtain⟨g1,g2⟩:=h2.ok (I:=I) (G:=G) (K:=fun d=>d.Ok I G) (fun _=>rfl) (fun x hx=>hG x (List.mem_append_right _ hx)) fun x H' hO hs=>DoOwn.ok hO hs
 exact⟨h1.ok fun x hx=>hG x (List.mem_append_left _ hx),g1,g2⟩
theorem StateOwn.ok{R:Bool}{r:StateN}{H:Heap}(h:StateOwn R r H){I:Imm}{G:Heap}(hG:∀x,x∈H→x∈G):r.Ok I G :=
 OwnL.ok h (fun _=>rfl) hG fun x H' hO hs=>RuleOwn.ok hO hs
theorem StgOwn.ok{R:Bool}{s:StgN}{H:Heap}(h:StgOwn R s H){I:Imm}{G:Heap}(hG:∀x,x∈H→x∈G):s.Ok I G:=by
 obtain⟨H1,H2,H3,rfl,h1,h2,h3⟩:=h
 simp only[List.mem_append] at hG
 obtain⟨a1,a2⟩:=h1.ok (I:=I) (G:=G) (K:=fun d=>d.Ok I G) (fun _=>rfl) (fun x hx=>hG x (.inl hx)) fun x H' hO hs=>RegOwn.ok hO hs
 obtain⟨b1, -⟩:=h2.ok (I:=I) (G:=G) (K:=fun d=>True) (fun _=>rfl) (fun x hx=>hG x (.inr (.inl hx))) fun x H' hO hs=>trivial
 obtain⟨c1,c2⟩:=h3.ok (I:=I) (G:=G) (K:=fun d=>d.Ok I G) (fun _=>rfl) (fun x hx=>hG x (.inr (.inr hx))) fun x H' hO hs=>StateOwn.ok hO hs
 exact⟨a1,a2,b1,c1,c2⟩
def Part{α:Type}(z:Nat)(f:α→List Value)(E:Nat)(O:α→Heap→Prop)(a:Option Addr)(n c:Nat)(l:List α)(F F':Heap):Prop :=
 ∃A hs,Acc z f E a n c l A∧(∀(i:Nat) (k:α),l[i]? = some k→O k (hs i))∧F'.Perm (A++(flatH l.length hs++F))
theorem Part.nil{α:Type}{z E:Nat}{f:α→List Value}{O:α→Heap→Prop}{F:Heap}:Part z f E O none 0 0 ([]:List α) F F:=⟨[],fun _=>[],Acc.nil,fun i k h=>by simp at h,.refl _⟩
theorem Part.own{α:Type}{z E n c:Nat}{f:α→List Value}{O:α→Heap→Prop}{a:Option Addr}{l:List α}{F F':Heap}(h:Part z f E O a n c l F F'):∃H,OwnL false z f E O a n c l H∧F'.Perm (H++F):=by
 obtain⟨A,hs,hA,hk,hp⟩:=h
 exact⟨A++flatH n hs,⟨A,hs,rfl,hA,fun h=>(by cases h),hk⟩,by rw[hA.1,List.append_assoc];exact hp⟩
def DoP.bare(d:DoP):DoP:=⟨d.kind,d.order,d.name,d.side.bare,d.qty.bare,d.price.bare,d.value.bare,0⟩
def RuleP.bare(r:RuleP):RuleP:=⟨r.when.bare,r.dos.map DoP.bare,0⟩
def StateP.bare(x:StateP):StateP:=⟨x.name,x.rules.map RuleP.bare,0⟩
def RegP.bare(r:RegP):RegP:=⟨r.name,r.typ,r.init.bare,0⟩
def SlotP.bare(r:SlotP):SlotP:=⟨r.name,0⟩
def StgP.bare(s:StgP):StgP:=⟨s.name,s.regs.map RegP.bare,s.slots.map SlotP.bare,s.states.map StateP.bare⟩
end Go.Lx
namespace Go.Lx
open Go.Vc
theorem Part.len{α:Type}{z E n c:Nat}{f:α→List Value}{O:α→Heap→Prop}{a:Option Addr}{l:List α}{F F':Heap}(h:Part z f E O a n c l F F'):n=l.length:=by
 obtain⟨A,hs,hA,hk,hp⟩:=h;exact hA.1
end Go.Lx
namespace Go.Lx
open Go.Vc
theorem Rd.pre{I:Imm}{G:Heap}{ad:Addr}{cs ds:List Value}(h:Rd I G ad (cs++ds)):Rd I G ad cs:=by
 obtain⟨h1,cells,e,fz,h2,h3⟩:=h
 exact⟨h1,cells,e,fz,h2,fun j hj=>by rw[h3 j (by rw[List.length_append];omega),List.getElem?_append_left hj]⟩
end Go.Lx
namespace Go.Lx
open Go.Vc
theorem Px.ShortP.bare:∀{x:Px},x.ShortP→x.bare.ShortP:=by
 refine @(Px.ind fun x ih h=>?_)
 rw[Px.bare_eq]
 refine .mk h.name (by show (x.kids.map Px.bare).length≤_;rw[List.length_map];exact h.len) fun k hk=>?_
 have hk:k∈x.kids.map Px.bare:=hk
 obtain⟨y,hy,rfl⟩:=List.mem_map.1 hk
 exact ih y hy (h.kid y hy)
theorem far_size{x:Px}(h:decide (x.weigh 0 0>1048576)=false):x.size≤1048576:=by
 have h:=of_decide_eq_false h
 have:=Px.weigh_size x 0 0 (by omega)
 omega
end Go.Lx
namespace Go.Lx
open Go.Vc
theorem DoP.Short.bare{d:DoP}(h:d.Short):d.bare.Short:=by
 refine⟨h.1,fun x hx=>?_⟩
 have hs:=h.2
 simp only[DoP.nds,DoP.bare,List.mem_cons,List.not_mem_nil,or_false] at hx hs
 rcases hx with rfl | rfl | rfl | rfl
 ·exact (hs _ (.inl rfl)).bare
 ·exact (hs _ (.inr (.inl rfl))).bare
 ·exact (hs _ (.inr (.inr (.inl rfl)))).bare
 ·exact (hs _ (.inr (.inr (.inr rfl)))).bare
theorem RuleP.Short.bare{r:RuleP}(h:r.Short):r.bare.Short:=by
 refine⟨h.1.bare,by simp only[RuleP.bare,List.length_map];exact h.2.1,fun d hd=>?_⟩
 obtain⟨d',hd',rfl⟩:=List.mem_map.1 hd
 exact (h.2.2 d' hd').bare
theorem StateP.Short.bare{r:StateP}(h:r.Short):r.bare.Short:=by
 refine⟨h.1,by simp only[StateP.bare,List.length_map];exact h.2.1,fun d hd=>?_⟩
 obtain⟨d',hd',rfl⟩:=List.mem_map.1 hd
 exact (h.2.2 d' hd').bare
theorem StgP.Short.bare{s:StgP}(h:s.Short):s.bare.Short:=by
 refine⟨h.name, ?_,fun d hd=>?_, ?_,fun d hd=>?_, ?_,fun d hd=>?_⟩
 ·simp only[StgP.bare,List.length_map];exact h.regs
 ·obtain⟨d',hd',rfl⟩:=List.mem_map.1 hd
  exact⟨(h.reg d' hd').1,(h.reg d' hd').2.bare⟩
 ·simp only[StgP.bare,List.length_map];exact h.slots
 ·obtain⟨d',hd',rfl⟩:=List.mem_map.1 hd
  exact h.slot d' hd'
 ·simp only[StgP.bare,List.length_map];exact h.states
 ·obtain⟨d',hd',rfl⟩:=List.mem_map.1 hd
  exact (h.state d' hd').bare
end Go.Lx
namespace Go.Lx
open Go.Vc
end Go.Lx
namespace Go.Lx
open Go.Vc
end Go.Lx
namespace Go.Lx
open Go.Vc
end Go.Lx
namespace Go.Lx
open Go.Vc
end Go.Lx
namespace Go.Lx
open Go.Vc Go.Proofs.Tryz
def shT_t8:List (Nat×List Sh):=[(3,[.one (.int .i64)]),(4,[.one .bool]),(28,[.agg [(.int .u8),(.int .u8),(.int .u8),(.int .i64),(.int .u8),.str,.slc,(.int .i64)]]),(35,[.one .slc]),(36,[.one .slc]),(37,[.one .slc]),(63,[.one .slc]),(65,[.agg [.str,.slc,(.int .i64)]]),(77,[.agg [.str,(.int .u8),(.int .u8),(.int .u8),(.int .u8),(.int .i64),(.int .u8),.str,.slc,(.int .i64),(.int .i64)]]),(79,[.agg [.str,(.int .i64)]]),(82,[.one .slc]),(84,[.agg [(.int .u8),(.int .u8),(.int .u8),(.int .i64),(.int .u8),.str,.slc,(.int .i64),.slc,(.int .i64)]]),(99,[.agg [(.int .u8),(.int .u8),.str,(.int .u8),(.int .u8),(.int .u8),(.int .i64),(.int .u8),.str,.slc,(.int .i64),(.int .u8),(.int .u8),(.int .u8),(.int .i64),(.int .u8),.str,.slc,(.int .i64),(.int .u8),(.int .u8),(.int .u8),(.int .i64),(.int .u8),.str,.slc,(.int .i64),(.int .u8),(.int .u8),(.int .u8),(.int .i64),(.int .u8),.str,.slc,(.int .i64),(.int .i64)]])]
def ref00_LendStrategy.V(ka:Nat→Bs→OA→Nat→Nat→OA→Nat→Nat→OA→Nat→Nat→Nat×Obj)(l w:Nat→Nat×Obj)(nV:Int→Int→Int→Int→Int→Bs→OA→Nat→Nat→Int→Value)(nL:Int→Int→Int→Int→Int→Bs→OA→Nat→Nat→Int→List Value)(vb vi:Int→Value)(vs:Bs→Value)(vl:OA→Nat→Nat→Value)(wr:Int→Int)(r:Bs)(ai:OA)(a bh:Nat)(aZ:OA)(c bi:Nat)(a0:OA)(h bj:Nat)(I:Imm)(F:Heap)(Q:PostQ)(Inv10:OA→OA→OA→Nat→Nat→Int→Nat→Imm→Heap→Imm→Heap→Prop)(Inv33:OA→OA→OA→Nat→Nat→Int→OA→Nat→Nat→Int→Nat→Imm→Heap→Imm→Heap→Prop)(Inv54:OA→OA→OA→Nat→Nat→Int→OA→Nat→Nat→Int→OA→Nat→Nat→Int→Nat→Imm→Heap→Imm→Heap→Prop):Prop:=∀j:Nat,∀b:Nat,∀k:Nat,TriE P (Instr.makeSlice 35 (vi (wr ((a:Int)+2))) (vi (wr ((a:Int)+2)))) I ((l j)::(ka b (⟨#[]⟩:Bs) none 0 0 none 0 0 none 0 0)::(w k)::F) fun v I1 G1=>∃(d:OA) (n e:Nat),v=vl d n e∧∃F1:Heap,List.Perm G1 ((l j)::(ka b (⟨#[]⟩:Bs) none 0 0 none 0 0 none 0 0)::(w k)::F1)∧(∃m:Nat,Inv10 (some ⟨j,0,none⟩) (some ⟨k,0,none⟩) d n e 0 m I1 F1 I1 F1)∧∀(i:Int) (m1:Nat) (I2:Imm) (F2:Heap),Imm.le I1 I2→Inv10 (some ⟨j,0,none⟩) (some ⟨k,0,none⟩) d n e i m1 I1 F1 I2 F2→(Dt (i<(a:Int)) ((0≤i∧i<(a:Int))∧∃ad:Addr,ai=some ad∧∃(ax:Bs) (ay az aA aB aC aD:Int) (aE:Bs) (ae:OA) (af ag:Nat) (aF ah:Int),Rd I2 ((l j)::(ka b (⟨#[]⟩:Bs) none 0 0 none 0 0 none 0 0)::(w k)::F2) (ad.add (Int.toNat i*11)) [vs ax,vb ay,vb az,vb aA,vb aB,vi aC,vb aD,vs aE,vl ae af ag,vi aF,vi ah]∧((0≤i∧i<(n:Int))∧∃u:Addr,d=some u∧∃(cs:List Value) (el:Nat) (F3:Heap),List.Perm F2 (((u.add (Int.toNat i*11)).block,Obj.cells cs.toArray el (0,0))::F3)∧(u.add (Int.toNat i*11)).spot=none∧(u.add (Int.toNat i*11)).off+11≤cs.length∧((0≤i∧i<(a:Int))∧∃be:Addr,ai=some be∧∃(aG aH aI aJ aK:Int) (aL:Bs) (aj:OA) (ak al:Nat) (aM:Int),Rd I2 ((l j)::(ka b (⟨#[]⟩:Bs) none 0 0 none 0 0 none 0 0)::(w k)::(((u.add (Int.toNat i*11)).block,Obj.cells (splice (u.add (Int.toNat i*11)).off [vs ax,vb ay,vb az,vb aA,vb aB,vi aC,vb aD,vs aE,vl ae af ag,vi aF,vi ah] cs).toArray el (0,0))::F3)) ((be.add (Int.toNat i*11)).add 2) (nL aG aH aI aJ aK aL aj ak al aM)∧Tri P 11 #[nV aG aH aI aJ aK aL aj ak al aM] I2 ((l j)::(ka b (⟨#[]⟩:Bs) none 0 0 none 0 0 none 0 0)::(w k)::(((u.add (Int.toNat i*11)).block,Obj.cells (splice (u.add (Int.toNat i*11)).off [vs ax,vb ay,vb az,vb aA,vb aB,vi aC,vb aD,vs aE,vl ae af ag,vi aF,vi ah] cs).toArray el (0,0))::F3)) fun e1 I3 G2=>∃(a1 a2 a3 a4 a5:Int) (a6:Bs) (am:OA) (an ao:Nat) (a7:Int),e1=.returned (nV a1 a2 a3 a4 a5 a6 am an ao a7)∧∃F4:Heap,List.Perm G2 ((l j)::(ka b (⟨#[]⟩:Bs) none 0 0 none 0 0 none 0 0)::(w k)::F4)∧((0≤i∧i<(n:Int))∧∃y:Addr,d=some y∧∃(aN:List Value) (a8:Nat) (F5:Heap),List.Perm F4 ((((y.add (Int.toNat i*11)).add 2).block,Obj.cells aN.toArray a8 (0,0))::F5)∧((y.add (Int.toNat i*11)).add 2).spot=none∧((y.add (Int.toNat i*11)).add 2).off+8≤aN.length∧(∃m2:Nat,m2<m1∧Inv10 (some ⟨j,0,none⟩) (some ⟨k,0,none⟩) d n e (wr (i+1)) m2 I1 F1 I3 ((((y.add (Int.toNat i*11)).add 2).block,Obj.cells (splice ((y.add (Int.toNat i*11)).add 2).off (nL a1 a2 a3 a4 a5 a6 am an ao a7) aN).toArray a8 (0,0))::F5)))))) ((0≤(a:Int)∧(a:Int)<(n:Int))∧∃z:Addr,d=some z∧∃(aO:List Value) (a9:Nat) (F6:Heap),List.Perm F2 ((((z.add (Int.toNat ((a:Int))*11)).add 10).block,Obj.cells aO.toArray a9 (0,0))::F6)∧((z.add (Int.toNat ((a:Int))*11)).add 10).spot=none∧((z.add (Int.toNat ((a:Int))*11)).add 10).off+1≤aO.length∧((0≤(0:Int)∧(0:Int)≤(a:Int)∧(a:Int)≤(e:Int))∧TriE P (Instr.makeSlice 36 (vi (wr ((c:Int)+2))) (vi (wr ((c:Int)+2)))) I2 ((l j)::(ka b (⟨#[]⟩:Bs) none 0 0 none 0 0 none 0 0)::(ka k r (if e=Int.toNat ((0:Int)) then d else Option.map (fun x=>x.add (Int.toNat ((0:Int))*11)) d) (Int.toNat ((a:Int))-Int.toNat ((0:Int))) (e-Int.toNat ((0:Int))) none 0 0 none 0 0)::((((z.add (Int.toNat ((a:Int))*11)).add 10).block,Obj.cells (splice ((z.add (Int.toNat ((a:Int))*11)).add 10).off [vi (-771)] aO).toArray a9 (0,0))::F6)) fun v1 I4 G3=>∃(f:OA) (o g:Nat),v1=vl f o g∧∃F7:Heap,List.Perm G3 ((l j)::(ka b (⟨#[]⟩:Bs) none 0 0 none 0 0 none 0 0)::(ka k r (if e=Int.toNat ((0:Int)) then d else Option.map (fun x=>x.add (Int.toNat ((0:Int))*11)) d) (Int.toNat ((a:Int))-Int.toNat ((0:Int))) (e-Int.toNat ((0:Int))) none 0 0 none 0 0)::F7)∧(∃m3:Nat,Inv33 (some ⟨j,0,none⟩) (some ⟨k,0,none⟩) d n e i f o g 0 m3 I4 F7 I4 F7)∧∀(i1:Int) (m4:Nat) (I5:Imm) (F8:Heap),Imm.le I4 I5→Inv33 (some ⟨j,0,none⟩) (some ⟨k,0,none⟩) d n e i f o g i1 m4 I4 F7 I5 F8→(Dt (i1<(c:Int)) ((0≤i1∧i1<(c:Int))∧∃bf:Addr,aZ=some bf∧∃(aP:Bs) (aQ:Int),Rd I5 ((l j)::(ka b (⟨#[]⟩:Bs) none 0 0 none 0 0 none 0 0)::(ka k r (if e=Int.toNat ((0:Int)) then d else Option.map (fun x=>x.add (Int.toNat ((0:Int))*11)) d) (Int.toNat ((a:Int))-Int.toNat ((0:Int))) (e-Int.toNat ((0:Int))) none 0 0 none 0 0)::F8) (bf.add (Int.toNat i1*2)) [vs aP,vi aQ]∧((0≤i1∧i1<(o:Int))∧∃aa:Addr,f=some aa∧∃(aR:List Value) (ba:Nat) (F9:Heap),List.Perm F8 (((aa.add (Int.toNat i1*2)).block,Obj.cells aR.toArray ba (0,0))::F9)∧(aa.add (Int.toNat i1*2)).spot=none∧(aa.add (Int.toNat i1*2)).off+2≤aR.length∧(∃m5:Nat,m5<m4∧Inv33 (some ⟨j,0,none⟩) (some ⟨k,0,none⟩) d n e i f o g (wr (i1+1)) m5 I4 F7 I5 (((aa.add (Int.toNat i1*2)).block,Obj.cells (splice (aa.add (Int.toNat i1*2)).off [vs aP,vi aQ] aR).toArray ba (0,0))::F9)))) ((0≤(c:Int)∧(c:Int)<(o:Int))∧∃ab:Addr,f=some ab∧∃(aS:List Value) (bb:Nat) (F10:Heap),List.Perm F8 ((((ab.add (Int.toNat ((c:Int))*2)).add 1).block,Obj.cells aS.toArray bb (0,0))::F10)∧((ab.add (Int.toNat ((c:Int))*2)).add 1).spot=none∧((ab.add (Int.toNat ((c:Int))*2)).add 1).off+1≤aS.length∧((0≤(0:Int)∧(0:Int)≤(c:Int)∧(c:Int)≤(g:Int))∧TriE P (Instr.makeSlice 37 (vi (wr ((h:Int)+2))) (vi (wr ((h:Int)+2)))) I5 ((l j)::(ka b (⟨#[]⟩:Bs) none 0 0 none 0 0 none 0 0)::(ka k r (if e=Int.toNat ((0:Int)) then d else Option.map (fun x=>x.add (Int.toNat ((0:Int))*11)) d) (Int.toNat ((a:Int))-Int.toNat ((0:Int))) (e-Int.toNat ((0:Int))) (if g=Int.toNat ((0:Int)) then f else Option.map (fun x=>x.add (Int.toNat ((0:Int))*2)) f) (Int.toNat ((c:Int))-Int.toNat ((0:Int))) (g-Int.toNat ((0:Int))) none 0 0)::((((ab.add (Int.toNat ((c:Int))*2)).add 1).block,Obj.cells (splice ((ab.add (Int.toNat ((c:Int))*2)).add 1).off [vi (-771)] aS).toArray bb (0,0))::F10)) fun v2 I6 G4=>∃(p:OA) (s q:Nat),v2=vl p s q∧∃F11:Heap,List.Perm G4 ((l j)::(ka b (⟨#[]⟩:Bs) none 0 0 none 0 0 none 0 0)::(ka k r (if e=Int.toNat ((0:Int)) then d else Option.map (fun x=>x.add (Int.toNat ((0:Int))*11)) d) (Int.toNat ((a:Int))-Int.toNat ((0:Int))) (e-Int.toNat ((0:Int))) (if g=Int.toNat ((0:Int)) then f else Option.map (fun x=>x.add (Int.toNat ((0:Int))*2)) f) (Int.toNat ((c:Int))-Int.toNat ((0:Int))) (g-Int.toNat ((0:Int))) none 0 0)::F11)∧(∃m6:Nat,Inv54 (some ⟨j,0,none⟩) (some ⟨k,0,none⟩) d n e i f o g i1 p s q 0 m6 I6 F11 I6 F11)∧∀(i2:Int) (m7:Nat) (I7:Imm) (F12:Heap),Imm.le I6 I7→Inv54 (some ⟨j,0,none⟩) (some ⟨k,0,none⟩) d n e i f o g i1 p s q i2 m7 I6 F11 I7 F12→(Dt (i2<(h:Int)) ((0≤i2∧i2<(h:Int))∧∃bg:Addr,a0=some bg∧∃(aT:Bs) (ap:OA) (aq ar:Nat) (aU:Int),Rd I7 ((l j)::(ka b (⟨#[]⟩:Bs) none 0 0 none 0 0 none 0 0)::(ka k r (if e=Int.toNat ((0:Int)) then d else Option.map (fun x=>x.add (Int.toNat ((0:Int))*11)) d) (Int.toNat ((a:Int))-Int.toNat ((0:Int))) (e-Int.toNat ((0:Int))) (if g=Int.toNat ((0:Int)) then f else Option.map (fun x=>x.add (Int.toNat ((0:Int))*2)) f) (Int.toNat ((c:Int))-Int.toNat ((0:Int))) (g-Int.toNat ((0:Int))) none 0 0)::F12) (bg.add (Int.toNat i2*3)) [vs aT,vl ap aq ar,vi aU]∧Tcn P 38 #[.agg #[vs aT,vl ap aq ar,vi aU]] I7 ((l j)::(ka b (⟨#[]⟩:Bs) none 0 0 none 0 0 none 0 0)::(ka k r (if e=Int.toNat ((0:Int)) then d else Option.map (fun x=>x.add (Int.toNat ((0:Int))*11)) d) (Int.toNat ((a:Int))-Int.toNat ((0:Int))) (e-Int.toNat ((0:Int))) (if g=Int.toNat ((0:Int)) then f else Option.map (fun x=>x.add (Int.toNat ((0:Int))*2)) f) (Int.toNat ((c:Int))-Int.toNat ((0:Int))) (g-Int.toNat ((0:Int))) none 0 0)::·) F12 fun e2 I8 G5=>∃(aV:Bs) (au:OA) (av aw:Nat) (aW:Int),e2=.returned (.agg #[vs aV,vl au av aw,vi aW])∧G5 fun F13=>((0≤i2∧i2<(s:Int))∧∃ac:Addr,p=some ac∧∃(aX:List Value) (bc:Nat) (F14:Heap),List.Perm F13 (((ac.add (Int.toNat i2*3)).block,Obj.cells aX.toArray bc (0,0))::F14)∧(ac.add (Int.toNat i2*3)).spot=none∧(ac.add (Int.toNat i2*3)).off+3≤aX.length∧(∃m8:Nat,m8<m7∧Inv54 (some ⟨j,0,none⟩) (some ⟨k,0,none⟩) d n e i f o g i1 p s q (wr (i2+1)) m8 I6 F11 I8 (((ac.add (Int.toNat i2*3)).block,Obj.cells (splice (ac.add (Int.toNat i2*3)).off [vs aV,vl au av aw,vi aW] aX).toArray bc (0,0))::F14)))) ((0≤(h:Int)∧(h:Int)<(s:Int))∧∃t:Addr,p=some t∧∃(aY:List Value) (bd:Nat) (F15:Heap),List.Perm F12 ((((t.add (Int.toNat ((h:Int))*3)).add 2).block,Obj.cells aY.toArray bd (0,0))::F15)∧((t.add (Int.toNat ((h:Int))*3)).add 2).spot=none∧((t.add (Int.toNat ((h:Int))*3)).add 2).off+1≤aY.length∧((0≤(0:Int)∧(0:Int)≤(h:Int)∧(h:Int)≤(q:Int))∧Q (.returned (.agg #[vs r,vl (if e=Int.toNat ((0:Int)) then d else Option.map (fun x=>x.add (Int.toNat ((0:Int))*11)) d) (Int.toNat ((a:Int))-Int.toNat ((0:Int))) (e-Int.toNat ((0:Int))),vl (if g=Int.toNat ((0:Int)) then f else Option.map (fun x=>x.add (Int.toNat ((0:Int))*2)) f) (Int.toNat ((c:Int))-Int.toNat ((0:Int))) (g-Int.toNat ((0:Int))),vl (if q=Int.toNat ((0:Int)) then p else Option.map (fun x=>x.add (Int.toNat ((0:Int))*3)) p) (Int.toNat ((h:Int))-Int.toNat ((0:Int))) (q-Int.toNat ((0:Int)))])) I7 (((((t.add (Int.toNat ((h:Int))*3)).add 2).block,Obj.cells (splice ((t.add (Int.toNat ((h:Int))*3)).add 2).off [vi (-771)] aY).toArray bd (0,0))::F15)))))))))))
theorem ref00_LendStrategy.vc{ab:Bs}{p:OA}{r u:Nat}{v:OA}{w x:Nat}{y:OA}{z aa:Nat}{I:Imm}{F:Heap}{Q:PostQ}(Inv10:OA→OA→OA→Nat→Nat→Int→Nat→Imm→Heap→Imm→Heap→Prop)(Inv33:OA→OA→OA→Nat→Nat→Int→OA→Nat→Nat→Int→Nat→Imm→Heap→Imm→Heap→Prop)(Inv54:OA→OA→OA→Nat→Nat→Int→OA→Nat→Nat→Int→OA→Nat→Nat→Int→Nat→Imm→Heap→Imm→Heap→Prop)(h:ref00_LendStrategy.V (fun W a b c d e f g h i j=>(W,Obj.cells #[.string a,.slice b c d,.slice e f g,.slice h i j] 39 (0,0))) (fun b=>(b,Obj.cells #[.string ab,.slice p r u,.slice v w x,.slice y z aa] 39 (0,0))) (fun b=>(b,Obj.cells #[.string ab,.slice none 0 0,.slice none 0 0,.slice none 0 0] 39 (0,0))) (fun k o t n f s a l c q=>.agg #[.int .u8 k,.int .u8 o,.int .u8 t,.int .i64 n,.int .u8 f,.string s,.slice a l c,.int .i64 q]) (fun k o t n f s a l c q=>[.int .u8 k,.int .u8 o,.int .u8 t,.int .i64 n,.int .u8 f,.string s,.slice a l c,.int .i64 q]) (.int .u8) (.int .i64) .string .slice (IntKind.wrap .i64) ab p r u v w x y z aa I F Q Inv10 Inv33 Inv54):Tri P 18 #[.agg #[.string ab,.slice p r u,.slice v w x,.slice y z aa]] I F Q :=
 tw (A:=(annL [4004,12004,19004] [] [11,38] shT_t8 [(10,⟨[(5,(.int .i64))],[],fun fs I0 F0 vs m I F=>match fs,vs with | [.pointer y0,.pointer y1,.slice y2 y3 y4],[.int _ y5]=>Inv10 y0 y1 y2 y3 y4 y5 m I0 F0 I F | _,_=>False,[1,3,4],[]⟩),(33,⟨[(7,(.int .i64))],[],fun fs I0 F0 vs m I F=>match fs,vs with | [.pointer y0,.pointer y1,.slice y2 y3 y4,.int _ y5,.slice y6 y7 y8],[.int _ y9]=>Inv33 y0 y1 y2 y3 y4 y5 y6 y7 y8 y9 m I0 F0 I F | _,_=>False,[1,3,4,5,6],[]⟩),(54,⟨[(9,(.int .i64))],[],fun fs I0 F0 vs m I F=>match fs,vs with | [.pointer y0,.pointer y1,.slice y2 y3 y4,.int _ y5,.slice y6 y7 y8,.int _ y9,.slice y10 y11 y12],[.int _ y13]=>Inv54 y0 y1 y2 y3 y4 y5 y6 y7 y8 y9 y10 y11 y12 y13 m I0 F0 I F | _,_=>False,[1,3,4,5,6,7,8],[]⟩)] [] [] [] [] [] [])) [11,38] func18 h
def ref00_lendState.V(ka:Nat→Int→Int→Int→Int→Int→Bs→OA→Nat→Nat→Int→OA→Nat→Nat→Int→Nat×Obj)(kb:Nat→Int→Int→Bs→Int→Int→Int→Int→Int→Bs→OA→Nat→Nat→Int→Int→Int→Int→Int→Int→Bs→OA→Nat→Nat→Int→Int→Int→Int→Int→Int→Bs→OA→Nat→Nat→Int→Int→Int→Int→Int→Int→Bs→OA→Nat→Nat→Int→Int→Nat×Obj)(kc:Nat→Bs→OA→Nat→Nat→Int→Nat×Obj)(t:Nat→Nat×Obj)(nV:Int→Int→Int→Int→Int→Bs→OA→Nat→Nat→Int→Value)(vb vi:Int→Value)(vs:Bs→Value)(vl:OA→Nat→Nat→Value)(wr:Int→Int)(b1:Bs)(bW:OA)(c b3:Nat)(b2:Int)(I:Imm)(F:Heap)(Q:PostQ)(Inv8:OA→OA→Nat→Nat→Int→Nat→Imm→Heap→Imm→Heap→Prop)(Inv25:OA→OA→Nat→Nat→Int→OA→OA→Nat→Nat→Int→Nat→Imm→Heap→Imm→Heap→Prop):Prop:=∀j:Nat,∀b:Nat,TriE P (Instr.makeSlice 63 (vi (wr ((c:Int)+2))) (vi (wr ((c:Int)+2)))) I ((t j)::(kc b (⟨#[]⟩:Bs) none 0 0 0)::F) fun v I1 G1=>∃(aC:OA) (aN aL:Nat),v=vl aC aN aL∧∃F1:Heap,List.Perm G1 ((t j)::(kc b (⟨#[]⟩:Bs) none 0 0 0)::F1)∧(∃m:Nat,Inv8 (some ⟨j,0,none⟩) aC aN aL 0 m I1 F1 I1 F1)∧∀(i:Int) (m1:Nat) (I2:Imm) (F2:Heap),Imm.le I1 I2→Inv8 (some ⟨j,0,none⟩) aC aN aL i m1 I1 F1 I2 F2→(Dt (i<(c:Int)) ((0≤i∧i<(c:Int))∧∃ad:Addr,bW=some ad∧∃(w y z aa ab:Int) (ac:Bs) (d:OA) (e f:Nat) (ae:Int) (g:OA) (a h:Nat) (af:Int),Rd I2 ((t j)::(kc b (⟨#[]⟩:Bs) none 0 0 0)::F2) (ad.add (Int.toNat i*10)) [vb w,vb y,vb z,vi aa,vb ab,vs ac,vl d e f,vi ae,vl g a h,vi af]∧∀u:Nat,TriE P (Instr.makeSlice 82 (vi (wr ((a:Int)+2))) (vi (wr ((a:Int)+2)))) I2 ((t j)::(kc b (⟨#[]⟩:Bs) none 0 0 0)::(ka u w y z aa ab ac d e f ae g a h af)::F2) fun v1 I3 G2=>∃(aD:OA) (aR aM:Nat),v1=vl aD aR aM∧∃F3:Heap,List.Perm G2 ((t j)::(kc b (⟨#[]⟩:Bs) none 0 0 0)::(ka u w y z aa ab ac d e f ae g a h af)::F3)∧(∃m2:Nat,Inv25 (some ⟨j,0,none⟩) aC aN aL i (some ⟨u,0,none⟩) aD aR aM 0 m2 I3 F3 I3 F3)∧∀(k:Int) (m3:Nat) (I4:Imm) (F4:Heap),Imm.le I3 I4→Inv25 (some ⟨j,0,none⟩) aC aN aL i (some ⟨u,0,none⟩) aD aR aM k m3 I3 F3 I4 F4→(Dt (k<(a:Int)) ((0≤k∧k<(a:Int))∧∃b0:Addr,g=some b0∧∃(ak al:Int) (am:Bs) (bk bl bm bD bn:Int) (bE:Bs) (bd:OA) (be bf:Nat) (bo aK aS aT aU aV:Int) (aW:Bs) (aw:OA) (ax ay:Nat) (aX aE aF ag aG aH:Int) (aI:Bs) (q:OA) (r s:Nat) (aJ an ao ap aq p:Int) (ar:Bs) (l:OA) (n o:Nat) (au av:Int),Rd I4 ((t j)::(kc b (⟨#[]⟩:Bs) none 0 0 0)::(ka u w y z aa ab ac d e f ae g a h af)::F4) (b0.add (Int.toNat k*36)) [vb ak,vb al,vs am,vb bk,vb bl,vb bm,vi bD,vb bn,vs bE,vl bd be bf,vi bo,vb aK,vb aS,vb aT,vi aU,vb aV,vs aW,vl aw ax ay,vi aX,vb aE,vb aF,vb ag,vi aG,vb aH,vs aI,vl q r s,vi aJ,vb an,vb ao,vb ap,vi aq,vb p,vs ar,vl l n o,vi au,vi av]∧∀bc:Nat,Tcn P 11 #[nV bk bl bm bD bn bE bd be bf bo] I4 ((t j)::(kc b (⟨#[]⟩:Bs) none 0 0 0)::(ka u w y z aa ab ac d e f ae g a h af)::(kb bc ak al am bk bl bm bD bn bE bd be bf bo aK aS aT aU aV aW aw ax ay aX aE aF ag aG aH aI q r s aJ an ao ap aq p ar l n o au av)::·) F4 fun e1 I5 G3=>∃(a5 a6 a7 a8 a9:Int) (ba:Bs) (ah:OA) (ai aj:Nat) (bb:Int),e1=.returned (nV a5 a6 a7 a8 a9 ba ah ai aj bb)∧G3 fun F5=>Tcn P 11 #[nV aK aS aT aU aV aW aw ax ay aX] I5 ((t j)::(kc b (⟨#[]⟩:Bs) none 0 0 0)::(ka u w y z aa ab ac d e f ae g a h af)::(kb bc ak al am a5 a6 a7 a8 a9 ba ah ai aj bb aK aS aT aU aV aW aw ax ay aX aE aF ag aG aH aI q r s aJ an ao ap aq p ar l n o au av)::·) F5 fun e2 I6 G4=>∃(aY aZ a0 a1 a2:Int) (a3:Bs) (az:OA) (aA aB:Nat) (a4:Int),e2=.returned (nV aY aZ a0 a1 a2 a3 az aA aB a4)∧G4 fun F6=>Tcn P 11 #[nV aE aF ag aG aH aI q r s aJ] I6 ((t j)::(kc b (⟨#[]⟩:Bs) none 0 0 0)::(ka u w y z aa ab ac d e f ae g a h af)::(kb bc ak al am a5 a6 a7 a8 a9 ba ah ai aj bb aY aZ a0 a1 a2 a3 az aA aB a4 aE aF ag aG aH aI q r s aJ an ao ap aq p ar l n o au av)::·) F6 fun e3 I7 G5=>∃(bp bq br bs bt:Int) (bu:Bs) (aO:OA) (aP aQ:Nat) (bv:Int),e3=.returned (nV bp bq br bs bt bu aO aP aQ bv)∧G5 fun F7=>Tcn P 11 #[nV an ao ap aq p ar l n o au] I7 ((t j)::(kc b (⟨#[]⟩:Bs) none 0 0 0)::(ka u w y z aa ab ac d e f ae g a h af)::(kb bc ak al am a5 a6 a7 a8 a9 ba ah ai aj bb aY aZ a0 a1 a2 a3 az aA aB a4 bp bq br bs bt bu aO aP aQ bv an ao ap aq p ar l n o au av)::·) F7 fun e4 I8 G6=>∃(bF bG bH bI bJ:Int) (bK:Bs) (bw:OA) (bx bz:Nat) (bL:Int),e4=.returned (nV bF bG bH bI bJ bK bw bx bz bL)∧G6 fun F8=>((0≤k∧k<(aR:Int))∧∃bg:Addr,aD=some bg∧∃(cs:List Value) (el:Nat) (F9:Heap),List.Perm F8 (((bg.add (Int.toNat k*36)).block,Obj.cells cs.toArray el (0,0))::F9)∧(bg.add (Int.toNat k*36)).spot=none∧(bg.add (Int.toNat k*36)).off+36≤cs.length∧(∃m4:Nat,m4<m3∧Inv25 (some ⟨j,0,none⟩) aC aN aL i (some ⟨u,0,none⟩) aD aR aM (wr (k+1)) m4 I3 F3 I8 (((bg.add (Int.toNat k*36)).block,Obj.cells (splice (bg.add (Int.toNat k*36)).off [vb ak,vb al,vs am,vb a5,vb a6,vb a7,vi a8,vb a9,vs ba,vl ah ai aj,vi bb,vb aY,vb aZ,vb a0,vi a1,vb a2,vs a3,vl az aA aB,vi a4,vb bp,vb bq,vb br,vi bs,vb bt,vs bu,vl aO aP aQ,vi bv,vb bF,vb bG,vb bH,vi bI,vb bJ,vs bK,vl bw bx bz,vi bL,vi av] cs).toArray el (0,0))::F9)))) ((0≤(a:Int)∧(a:Int)<(aR:Int))∧∃bh:Addr,aD=some bh∧∃(bM:List Value) (bX:Nat) (F10:Heap),List.Perm F4 ((((bh.add (Int.toNat ((a:Int))*36)).add 35).block,Obj.cells bM.toArray bX (0,0))::F10)∧((bh.add (Int.toNat ((a:Int))*36)).add 35).spot=none∧((bh.add (Int.toNat ((a:Int))*36)).add 35).off+1≤bM.length∧((0≤(0:Int)∧(0:Int)≤(a:Int)∧(a:Int)≤(aM:Int))∧Tri P 11 #[nV w y z aa ab ac d e f ae] I4 ((t j)::(kc b (⟨#[]⟩:Bs) none 0 0 0)::(ka u w y z aa ab ac d e f ae g a h af)::((((bh.add (Int.toNat ((a:Int))*36)).add 35).block,Obj.cells (splice ((bh.add (Int.toNat ((a:Int))*36)).add 35).off [vi (-771)] bM).toArray bX (0,0))::F10)) fun e5 I9 G7=>∃(bN bO bP bQ bR:Int) (bS:Bs) (bA:OA) (bB bC:Nat) (bT:Int),e5=.returned (nV bN bO bP bQ bR bS bA bB bC bT)∧∃F11:Heap,List.Perm G7 ((t j)::(kc b (⟨#[]⟩:Bs) none 0 0 0)::(ka u w y z aa ab ac d e f ae g a h af)::F11)∧((0≤i∧i<(aN:Int))∧∃bi:Addr,aC=some bi∧∃(bU:List Value) (bY:Nat) (F12:Heap),List.Perm F11 (((bi.add (Int.toNat i*10)).block,Obj.cells bU.toArray bY (0,0))::F12)∧(bi.add (Int.toNat i*10)).spot=none∧(bi.add (Int.toNat i*10)).off+10≤bU.length∧(∃m5:Nat,m5<m1∧Inv8 (some ⟨j,0,none⟩) aC aN aL (wr (i+1)) m5 I1 F1 I9 (((bi.add (Int.toNat i*10)).block,Obj.cells (splice (bi.add (Int.toNat i*10)).off [vb bN,vb bO,vb bP,vi bQ,vb bR,vs bS,vl bA bB bC,vi bT,vl (if aM=Int.toNat ((0:Int)) then aD else Option.map (fun x=>x.add (Int.toNat ((0:Int))*36)) aD) (Int.toNat ((a:Int))-Int.toNat ((0:Int))) (aM-Int.toNat ((0:Int))),vi af] bU).toArray bY (0,0))::F12))))))) ((0≤(c:Int)∧(c:Int)<(aN:Int))∧∃bj:Addr,aC=some bj∧∃(bV:List Value) (bZ:Nat) (F13:Heap),List.Perm F2 ((((bj.add (Int.toNat ((c:Int))*10)).add 9).block,Obj.cells bV.toArray bZ (0,0))::F13)∧((bj.add (Int.toNat ((c:Int))*10)).add 9).spot=none∧((bj.add (Int.toNat ((c:Int))*10)).add 9).off+1≤bV.length∧((0≤(0:Int)∧(0:Int)≤(c:Int)∧(c:Int)≤(aL:Int))∧Q (.returned (.agg #[vs b1,vl (if aL=Int.toNat ((0:Int)) then aC else Option.map (fun x=>x.add (Int.toNat ((0:Int))*10)) aC) (Int.toNat ((c:Int))-Int.toNat ((0:Int))) (aL-Int.toNat ((0:Int))),vi b2])) I2 (((((bj.add (Int.toNat ((c:Int))*10)).add 9).block,Obj.cells (splice ((bj.add (Int.toNat ((c:Int))*10)).add 9).off [vi (-771)] bV).toArray bZ (0,0))::F13)))))
theorem ref00_lendState.vc{ax:Bs}{au:OA}{av aw:Nat}{ay:Int}{I:Imm}{F:Heap}{Q:PostQ}(Inv8:OA→OA→Nat→Nat→Int→Nat→Imm→Heap→Imm→Heap→Prop)(Inv25:OA→OA→Nat→Nat→Int→OA→OA→Nat→Nat→Int→Nat→Imm→Heap→Imm→Heap→Prop)(h:ref00_lendState.V (fun W a b c d e f g h i j k l m n=>(W,Obj.cells #[.int .u8 a,.int .u8 b,.int .u8 c,.int .i64 d,.int .u8 e,.string f,.slice g h i,.int .i64 j,.slice k l m,.int .i64 n] 84 (0,0))) (fun W a b c d e f g h i j k l m n o p q r s t u v w x y z aa ab ac ad ae af ag ah ai aj ak al am an ao ap aq ar=>(W,Obj.cells #[.int .u8 a,.int .u8 b,.string c,.int .u8 d,.int .u8 e,.int .u8 f,.int .i64 g,.int .u8 h,.string i,.slice j k l,.int .i64 m,.int .u8 n,.int .u8 o,.int .u8 p,.int .i64 q,.int .u8 r,.string s,.slice t u v,.int .i64 w,.int .u8 x,.int .u8 y,.int .u8 z,.int .i64 aa,.int .u8 ab,.string ac,.slice ad ae af,.int .i64 ag,.int .u8 ah,.int .u8 ai,.int .u8 aj,.int .i64 ak,.int .u8 al,.string am,.slice an ao ap,.int .i64 aq,.int .i64 ar] 99 (0,0))) (fun W a b c d e=>(W,Obj.cells #[.string a,.slice b c d,.int .i64 e] 65 (0,0))) (fun b=>(b,Obj.cells #[.string ax,.slice au av aw,.int .i64 ay] 65 (0,0))) (fun k o t n f s a l c q=>.agg #[.int .u8 k,.int .u8 o,.int .u8 t,.int .i64 n,.int .u8 f,.string s,.slice a l c,.int .i64 q]) (.int .u8) (.int .i64) .string .slice (IntKind.wrap .i64) ax au av aw ay I F Q Inv8 Inv25):Tri P 38 #[.agg #[.string ax,.slice au av aw,.int .i64 ay]] I F Q :=
 tw (A:=(annL [3004,8004] [] [11] shT_t8 [(8,⟨[(4,(.int .i64))],[],fun fs I0 F0 vs m I F=>match fs,vs with | [.pointer y0,.slice y1 y2 y3],[.int _ y4]=>Inv8 y0 y1 y2 y3 y4 m I0 F0 I F | _,_=>False,[1,3],[]⟩),(25,⟨[(7,(.int .i64))],[],fun fs I0 F0 vs m I F=>match fs,vs with | [.pointer y0,.slice y1 y2 y3,.int _ y4,.pointer y5,.slice y6 y7 y8],[.int _ y9]=>Inv25 y0 y1 y2 y3 y4 y5 y6 y7 y8 y9 m I0 F0 I F | _,_=>False,[1,3,4,5,6],[]⟩)] [] [] [] [] [(17,[0,1,2,5,6,10,7,8,9,11,3,4,12,13,14]),(19,[0,2,3,7,1,4,5,6,8,9,10])] [] [] [(17,[7,11],14)])) [11] func38 h
def ref00_WholeStrategy.V(a d:Nat→Nat×Obj)(vb vi:Int→Value)(vs:Bs→Value)(vl:OA→Nat→Nat→Value)(vt:Bool→Value)(wr:Int→Int)(aL:Bs)(n:OA)(g o:Nat)(p:OA)(h q:Nat)(j:OA)(c s:Nat)(am:Bs)(ab:OA)(ac ae:Nat)(af:OA)(ag ah:Nat)(ai:OA)(aj ak:Nat)(I:Imm)(F:Heap)(Q:PostQ)(Inv30:Bool→Int→Nat→Imm→Heap→Imm→Heap→Prop)(Inv54:Int→Bool→Int→Nat→Imm→Heap→Imm→Heap→Prop):Prop:=∀e:Nat,∀b:Nat,Tc1 P 46 #[.agg #[vs aL,vl n g o,vl p h q,vl j c s],.agg #[vs am,vl ab ac ae,vl af ag ah,vl ai aj ak]] I ((d e)::(a b)::·) F vt fun r I1 F1=>(It (!r) (Q (.returned (vt false)) I1 F1) ((0≤(0:Int)∧(0:Int)≤(wr ((g:Int)+1))∧(wr ((g:Int)+1))≤(o:Int))∧((0≤(0:Int)∧(0:Int)≤(wr ((h:Int)+1))∧(wr ((h:Int)+1))≤(q:Int))∧((0≤(0:Int)∧(0:Int)≤(wr ((c:Int)+1))∧(wr ((c:Int)+1))≤(s:Int))∧((0≤(g:Int)∧(g:Int)<((Int.toNat ((wr ((g:Int)+1)))-Int.toNat ((0:Int))):Int))∧∃ad:Addr,(if o=Int.toNat ((0:Int)) then n else Option.map (fun x=>x.add (Int.toNat ((0:Int))*11)) n)=some ad∧∃(m:Int),Rd I1 ((d e)::(a b)::F1) ((ad.add (Int.toNat ((g:Int))*11)).add 10) [vi m]∧(It (m != (-771)) (Q (.returned (vt false)) I1 F1) ((0≤(h:Int)∧(h:Int)<((Int.toNat ((wr ((h:Int)+1)))-Int.toNat ((0:Int))):Int))∧∃aw:Addr,(if q=Int.toNat ((0:Int)) then p else Option.map (fun x=>x.add (Int.toNat ((0:Int))*2)) p)=some aw∧∃(m1:Int),Rd I1 ((d e)::(a b)::F1) ((aw.add (Int.toNat ((h:Int))*2)).add 1) [vi m1]∧(It (m1 != (-771)) (Q (.returned (vt false)) I1 F1) ((0≤(c:Int)∧(c:Int)<((Int.toNat ((wr ((c:Int)+1)))-Int.toNat ((0:Int))):Int))∧∃ax:Addr,(if s=Int.toNat ((0:Int)) then j else Option.map (fun x=>x.add (Int.toNat ((0:Int))*3)) j)=some ax∧∃(m2:Int),Rd I1 ((d e)::(a b)::F1) ((ax.add (Int.toNat ((c:Int))*3)).add 2) [vi m2]∧(It (m2 != (-771)) (Q (.returned (vt false)) I1 F1) ((∃m3:Nat,Inv30 false 0 m3 I1 F1 I1 F1)∧∀(x:Bool) (i:Int) (m4:Nat) (I2:Imm) (F2:Heap),Imm.le I1 I2→Inv30 x i m4 I1 F1 I2 F2→(Dt (i<(c:Int)) ((0≤i∧i<(c:Int))∧∃ay:Addr,j=some ay∧∃(l:OA) (f al:Nat),Rd I2 ((d e)::(a b)::F2) ((ay.add (Int.toNat i*3)).add 1) [vl l f al]∧((0≤(0:Int)∧(0:Int)≤(wr ((f:Int)+1))∧(wr ((f:Int)+1))≤(al:Int))∧((0≤(f:Int)∧(f:Int)<((Int.toNat ((wr ((f:Int)+1)))-Int.toNat ((0:Int))):Int))∧∃az:Addr,(if al=Int.toNat ((0:Int)) then l else Option.map (fun x=>x.add (Int.toNat ((0:Int))*10)) l)=some az∧∃(m5:Int),Rd I2 ((d e)::(a b)::F2) ((az.add (Int.toNat ((f:Int))*10)).add 9) [vi m5]∧(It (m5 != (-771)) (Q (.returned (vt false)) I2 F2) ((∃m6:Nat,Inv54 i x 0 m6 I2 F2 I2 F2)∧∀(x1:Bool) (k:Int) (m7:Nat) (I3:Imm) (F3:Heap),Imm.le I2 I3→Inv54 i x1 k m7 I2 F2 I3 F3→(Dt (k<(f:Int)) ((0≤k∧k<(f:Int))∧∃aA:Addr,l=some aA∧∃(v:OA) (aG w:Nat),Rd I3 ((d e)::(a b)::F3) ((aA.add (Int.toNat k*10)).add 8) [vl v aG w]∧((0≤k∧k<(f:Int))∧∃aB:Addr,l=some aB∧∃(aH:OA) (t aI:Nat),Rd I3 ((d e)::(a b)::F3) ((aB.add (Int.toNat k*10)).add 8) [vl aH t aI]∧((0≤(0:Int)∧(0:Int)≤(wr ((t:Int)+1))∧(wr ((t:Int)+1))≤(w:Int))∧((0≤k∧k<(f:Int))∧∃aC:Addr,l=some aC∧∃(an ao ap aq ar:Int) (au:Bs) (y:OA) (z aa:Nat) (av:Int),Rd I3 ((d e)::(a b)::F3) ((aC.add (Int.toNat k*10)).add 0) [vb an,vb ao,vb ap,vi aq,vb ar,vs au,vl y z aa,vi av]∧Tc1 P 34 #[.agg #[vb an,vb ao,vb ap,vi aq,vb ar,vs au,vl y z aa,vi av]] I3 ((d e)::(a b)::·) F3 vt fun r1 I4 F4=>(It (!r1) (Q (.returned (vt false)) I4 F4) ((0≤k∧k<(f:Int))∧∃aD:Addr,l=some aD∧∃(aJ:OA) (u aK:Nat),Rd I4 ((d e)::(a b)::F4) ((aD.add (Int.toNat k*10)).add 8) [vl aJ u aK]∧((0≤(u:Int)∧(u:Int)<((Int.toNat ((wr ((t:Int)+1)))-Int.toNat ((0:Int))):Int))∧∃aE:Addr,(if w=Int.toNat ((0:Int)) then v else Option.map (fun x=>x.add (Int.toNat ((0:Int))*36)) v)=some aE∧∃(m8:Int),Rd I4 ((d e)::(a b)::F4) ((aE.add (Int.toNat ((u:Int))*36)).add 35) [vi m8]∧(It (m8 != (-771)) (Q (.returned (vt false)) I4 F4) (∃m9:Nat,m9<m7∧Inv54 i x1 (wr (k+1)) m9 I2 F2 I4 F4))))))))) (∃aF:Nat,aF<m4∧Inv30 x1 (wr (i+1)) aF I1 F1 I3 F3))))))) (Q (.returned (vt true)) I2 F2)))))))))))))
theorem ref00_WholeStrategy.vc{w:Bs}{l:OA}{n o:Nat}{p:OA}{q r:Nat}{s:OA}{t u:Nat}{v:Bs}{a:OA}{c d:Nat}{e:OA}{f g:Nat}{i:OA}{j k:Nat}{I:Imm}{F:Heap}{Q:PostQ}(Inv30:Bool→Int→Nat→Imm→Heap→Imm→Heap→Prop)(Inv54:Int→Bool→Int→Nat→Imm→Heap→Imm→Heap→Prop)(h:ref00_WholeStrategy.V (fun b=>(b,Obj.cells #[.string v,.slice a c d,.slice e f g,.slice i j k] 39 (0,0))) (fun b=>(b,Obj.cells #[.string w,.slice l n o,.slice p q r,.slice s t u] 39 (0,0))) (.int .u8) (.int .i64) .string .slice .bool (IntKind.wrap .i64) w l n o p q r s t u v a c d e f g i j k I F Q Inv30 Inv54):Tri P 23 #[.agg #[.string w,.slice l n o,.slice p q r,.slice s t u],.agg #[.string v,.slice a c d,.slice e f g,.slice i j k]] I F Q :=
 tw (A:=(annL [2001,7007,7016,7026,10004,14006,17003,21001,21013] [] [34,46] shT_t8 [(30,⟨[(4,.bool),(9,(.int .i64))],[],fun fs I0 F0 vs m I F=>match fs,vs with | [],[.bool y0,.int _ y1]=>Inv30 y0 y1 m I0 F0 I F | _,_=>False,[],[]⟩),(54,⟨[(4,.bool),(12,(.int .i64))],[],fun fs I0 F0 vs m I F=>match fs,vs with | [.int _ y0],[.bool y1,.int _ y2]=>Inv54 y0 y1 y2 m I0 F0 I F | _,_=>False,[9],[]⟩)] [] [] [] [] [] [])) [34,46] func23 h
end Go.Lx
namespace Go.Lx
open Go.Vc
def Fill{α:Type}(z:Nat)(f:α→List Value)(E:Nat)(O:α→Heap→Prop)(a:Option Addr)(n c len:Nat)(l:List α)(F F':Heap):Prop :=
 ∃(b:Nat) (cs:List Value) (hs:Nat→Heap),a=some ⟨b,0,none⟩∧n=len+2∧c=len+2∧cs.length=(len+2)*z∧cs.take (l.length*z)=l.flatMap f∧(∀(i:Nat) (k:α),l[i]? = some k→O k (hs i)) ∧
  F'.Perm ((b,Obj.cells cs.toArray E (0,0))::(flatH l.length hs++F))
theorem Fill.perm{α:Type}{z E n c len:Nat}{f:α→List Value}{O:α→Heap→Prop}{a:Option Addr}{l:List α}{F F' F'':Heap}(h:Fill z f E O a n c len l F F')(p:F''.Perm F'):Fill z f E O a n c len l F F'':=by
 obtain⟨b,cs,hs,h1,h2,h3,h4,h5,h6,hp⟩:=h
 exact⟨b,cs,hs,h1,h2,h3,h4,h5,h6,p.trans hp⟩
theorem Fill.done{α:Type}{z E n c len:Nat}{f:α→List Value}(hz:∀x,(f x).length=z)(hz1:1≤z){O:α→Heap→Prop}{a:Option Addr}{l:List α}{F F':Heap}(h:Fill z f E O a n c len l F F')(hl:l.length=len) :
  ∃(b:Nat) (cs:List Value) (F9:Heap),a=some ⟨b,0,none⟩∧n=len+2∧c=len+2∧F'.Perm ((b,Obj.cells cs.toArray E (0,0))::F9)∧len*z+(z-1)+1≤cs.length∧(∀x,x∈F→x∈F9) ∧
   ∀F10:Heap,F10.Perm ((b,Obj.cells (splice (len*z+(z-1)) [.int .i64 (-771)] cs).toArray E (0,0))::F9)→∃H,OwnL true z f E O a l.length (len+2) l H∧F10.Perm (H++F):=by
 obtain⟨b,cs,hs,h1,h2,h3,h4,h5,h6,hp⟩:=h
 subst hl
 have hle2:l.length*z+(z-1)+1≤cs.length:=by rw[h4,Nat.add_mul];omega
 refine⟨b,cs,flatH l.length hs++F,h1,h2,h3,hp,hle2,fun x hx=>List.mem_append_right _ hx,fun F10 hF=>?_⟩
 have hs1:=splice_one (l.length*z+(z-1)) (.int .i64 (-771)) cs (by omega)
 rw[hs1] at hF
 refine⟨(b,Obj.cells (cs.set (l.length*z+(z-1)) (.int .i64 (-771))).toArray E (0,0))::flatH l.length hs,⟨[(b,Obj.cells (cs.set (l.length*z+(z-1)) (.int .i64 (-771))).toArray E (0,0))],hs,rfl,⟨rfl,.inr ⟨b,_,h1,rfl, ?_,by omega, ?_⟩⟩,fun _=>⟨b,_,E,h1,rfl,rfl, ?_⟩,h6⟩,hF⟩
 ·rw[List.size_toArray,List.length_set,h4]
 ·show (cs.set _ _).take (l.length*z)=_
  rw[List.take_set_of_le (by omega)];exact h5
 ·rw[List.getElem?_toArray,List.getElem?_set_self (by omega)]
theorem Fill.start{α:Type}{z E len b:Nat}{f:α→List Value}{O:α→Heap→Prop}{F:Heap}{cs:List Value}(h:cs.length=(len+2)*z):Fill z f E O (some ⟨b,0,none⟩) (len+2) (len+2) len ([]:List α) F ((b,Obj.cells cs.toArray E (0,0))::F) :=
 ⟨b,cs,fun _=>[],rfl,rfl,rfl,h,by simp,fun i k h=>by simp at h,.refl _⟩
theorem map_snoc0{α β:Type}{g:α→β}{l:List α}{i:Nat}{x:α}(hx:l[i]? = some x):(l.take (i+1)).map g=(l.take i).map g++[g x]:=by
 obtain⟨hk,rfl⟩:=List.getElem?_eq_some_iff.1 hx
 rw[List.take_succ_eq_append_getElem hk,List.map_append];rfl
end Go.Lx
namespace Go.Lx
open Go.Vc
end Go.Lx
namespace Go.Lx
open Go.Vc
theorem OwnL.tail{α:Type}{z E n c:Nat}{f:α→List Value}{O:α→Heap→Prop}{a:Option Addr}{l:List α}{H G:Heap}(h:OwnL true z f E O a n c l H)(hG:∀x,x∈H→x∈G) :
  ∃b,a=some ⟨b,0,none⟩∧c=n+2∧∀I,Rd I G (⟨b,n*z+(z-1),none⟩:Addr) [.int .i64 (-771)]:=by
 obtain⟨A,hs,rfl,hA,ht,hO⟩:=h
 obtain⟨b,cells,e,ha,hAe,hc,hm⟩:=ht rfl
 subst hAe
 refine⟨b,ha,hc,fun I=>Rd.of_own (hG _ (List.mem_append_left _ (List.mem_cons_self ..))) _ fun j hj=>?_⟩
 have:j=0:=by simpa using hj
 subst this
 rw[Nat.add_zero,hm];rfl
end Go.Lx
namespace Go.Lx
open Go.Vc Go.Proofs.Tryz
def shT_ta:List (Nat×List Sh):=[(4,[.one .bool]),(9,[.one .str]),(28,[.agg [(.int .u8),(.int .u8),(.int .u8),(.int .i64),(.int .u8),.str,.slc,(.int .i64)]]),(47,[.one (.int .i64)]),(65,[.agg [.str,.slc,(.int .i64)]]),(77,[.agg [.str,(.int .u8),(.int .u8),(.int .u8),(.int .u8),(.int .i64),(.int .u8),.str,.slc,(.int .i64),(.int .i64)]]),(84,[.agg [(.int .u8),(.int .u8),(.int .u8),(.int .i64),(.int .u8),.str,.slc,(.int .i64),.slc,(.int .i64)]]),(99,[.agg [(.int .u8),(.int .u8),.str,(.int .u8),(.int .u8),(.int .u8),(.int .i64),(.int .u8),.str,.slc,(.int .i64),(.int .u8),(.int .u8),(.int .u8),(.int .i64),(.int .u8),.str,.slc,(.int .i64),(.int .u8),(.int .u8),(.int .u8),(.int .i64),(.int .u8),.str,.slc,(.int .i64),(.int .u8),(.int .u8),(.int .u8),(.int .i64),(.int .u8),.str,.slc,(.int .i64),(.int .i64)]])]
def ref12_Check.V(b:Nat→Nat×Obj)(vb vi:Int→Value)(vs:Bs→Value)(vl:OA→Nat→Nat→Value)(ah:Bs)(q:OA)(d aj:Nat)(s:OA)(e ak:Nat)(t:OA)(a al:Nat)(I:Imm)(F:Heap)(Q:PostQ)(Inv24:Int→Bool→Int→Nat→Imm→Heap→Prop)(Inv55:Int→Bool→Int→Nat→Imm→Heap→Prop)(Inv94:Int→Int→Nat→Imm→Heap→Prop):Prop:=∀c:Nat,Tc1 P 61 #[vs ah] I ((b c)::·) F .bool fun r I1 F1=>(It (!r) (Q (.returned (vi 120)) I1 F1) (Dt ((d:Int)>12) (Q (.returned (vi 121)) I1 F1) ((∃m:Nat,Inv24 0 r 0 m I1 F1)∧∀(x:Int) (ok:Bool) (i:Int) (m1:Nat) (I2:Imm) (F2:Heap),Imm.le I1 I2→Inv24 x ok i m1 I2 F2→(Dt (i<(d:Int)) ((0≤i∧i<(d:Int))∧∃ad:Addr,q=some ad∧∃(u:Bs) (v w y z aa ab:Int) (ac:Bs) (f:OA) (g h:Nat) (ae n:Int),Rd I2 ((b c)::F2) (ad.add (Int.toNat i*11)) [vs u,vb v,vb w,vb y,vb z,vi aa,vb ab,vs ac,vl f g h,vi ae,vi n]∧Tc1 P 75 #[.agg #[vs u,vb v,vb w,vb y,vb z,vi aa,vb ab,vs ac,vl f g h,vi ae,vi n]] I2 ((b c)::·) F2 .bool fun r1 I3 F3=>(It (!r1) (Q (.returned (vi 120)) I3 F3) (∃m2:Nat,m2<m1∧Inv24 x r1 (IntKind.wrap .i64 (i+1)) m2 I3 F3))) (Dt ((e:Int)>4) (Q (.returned (vi 121)) I2 F2) ((∃m3:Nat,Inv55 x ok 0 m3 I2 F2)∧∀(x1:Int) (ai:Bool) (i1:Int) (m4:Nat) (I4:Imm) (F4:Heap),Imm.le I2 I4→Inv55 x1 ai i1 m4 I4 F4→(Dt (i1<(e:Int)) ((0≤i1∧i1<(e:Int))∧∃af:Addr,s=some af∧∃(m5:Bs),Rd I4 ((b c)::F4) ((af.add (Int.toNat i1*2)).add 0) [vs m5]∧Tc1 P 61 #[vs m5] I4 ((b c)::·) F4 .bool fun r2 I5 F5=>(It (!r2) (Q (.returned (vi 120)) I5 F5) (∃m6:Nat,m6<m4∧Inv55 x1 r2 (IntKind.wrap .i64 (i1+1)) m6 I5 F5))) (It ((a:Int)==0) (Q (.returned (vi 120)) I4 F4) (Dt ((a:Int)>12) (Q (.returned (vi 121)) I4 F4) ((∃m7:Nat,Inv94 x1 0 m7 I4 F4)∧∀(x2 i2:Int) (m8:Nat) (I6:Imm) (F6:Heap),Imm.le I4 I6→Inv94 x2 i2 m8 I6 F6→(Dt (i2<(a:Int)) ((0≤i2∧i2<(a:Int))∧∃ag:Addr,t=some ag∧∃(o:Bs) (j:OA) (k l:Nat) (p:Int),Rd I6 ((b c)::F6) (ag.add (Int.toNat i2*3)) [vs o,vl j k l,vi p]∧Tc1 P 76 #[.agg #[vs o,vl j k l,vi p]] I6 ((b c)::·) F6 vi fun r3 I7 F7=>(It (r3 != 0) (Q (.returned (vi r3)) I7 F7) (∃m9:Nat,m9<m8∧Inv94 x2 (IntKind.wrap .i64 (i2+1)) m9 I7 F7))) (Q (.returned (vi 0)) I6 F6))))))))))))
theorem ref12_Check.vc{l:Bs}{a:OA}{c d:Nat}{e:OA}{f g:Nat}{i:OA}{j k:Nat}{I:Imm}{F:Heap}{Q:PostQ}(Inv24:Int→Bool→Int→Nat→Imm→Heap→Prop)(Inv55:Int→Bool→Int→Nat→Imm→Heap→Prop)(Inv94:Int→Int→Nat→Imm→Heap→Prop)(h:ref12_Check.V (fun b=>(b,Obj.cells #[.string l,.slice a c d,.slice e f g,.slice i j k] 39 (0,0))) (.int .u8) (.int .i64) .string .slice l a c d e f g i j k I F Q Inv24 Inv55 Inv94):Tri P 47 #[.agg #[.string l,.slice a c d,.slice e f g,.slice i j k]] I F Q :=
 tw (A:=(annL [2001,4003,7004,10001,12003,15004,18001,20003,22003,25004,28001] [] [61,75,76] shT_ta [(24,⟨[(2,(.int .i64)),(3,.bool),(4,(.int .i64))],[],fun _ _ _ vs m I F=>match vs with | [.int _ y0,.bool y1,.int _ y2]=>Inv24 y0 y1 y2 m I F | _=>False,[],[]⟩),(55,⟨[(2,(.int .i64)),(3,.bool),(5,(.int .i64))],[],fun _ _ _ vs m I F=>match vs with | [.int _ y0,.bool y1,.int _ y2]=>Inv55 y0 y1 y2 m I F | _=>False,[],[]⟩),(94,⟨[(2,(.int .i64)),(6,(.int .i64))],[],fun _ _ _ vs m I F=>match vs with | [.int _ y0,.int _ y1]=>Inv94 y0 y1 m I F | _=>False,[],[]⟩)] [] [] [] [] [] [])) [61,75,76] func47 h
def ref12_reg.V(a:Nat→Nat×Obj)(vb:Int→Value)(vt:Bool→Value)(g:Bs)(b h i j k l:Int)(m:Bs)(d:OA)(e f:Nat)(n o:Int)(I:Imm)(F:Heap)(Q:PostQ)  : Prop:=∀c:Nat,Tc1 P 61 #[.string g] I ((a c)::·) F vt fun r I1 F1=>(It r (Dt (b≥1) (Dt (b≤6) (Tc1 P 114 #[.agg #[vb h,vb i,vb j,.int .i64 k,vb l,.string m,.slice d e f,.int .i64 n]] I1 ((a c)::·) F1 vt fun r1 I2 F2=>Q (.returned (vt r1)) I2 F2) (Q (.returned (vt false)) I1 F1)) (Q (.returned (vt false)) I1 F1)) (Q (.returned (vt false)) I1 F1))
theorem ref12_reg.vc{f:Bs}{g i j k l m:Int}{n:Bs}{a:OA}{c d:Nat}{o e:Int}{I:Imm}{F:Heap}{Q:PostQ}  (h:ref12_reg.V (fun b=>(b,Obj.cells #[.string f,.int .u8 g,.int .u8 i,.int .u8 j,.int .u8 k,.int .i64 l,.int .u8 m,.string n,.slice a c d,.int .i64 o,.int .i64 e] 77 (0,0))) (.int .u8) .bool f g i j k l m n a c d o e I F Q):Tri P 75 #[.agg #[.string f,.int .u8 g,.int .u8 i,.int .u8 j,.int .u8 k,.int .i64 l,.int .u8 m,.string n,.slice a c d,.int .i64 o,.int .i64 e]] I F Q :=
 tw (A:=(an [2000,2004,2009] [61,114] shT_ta)) [61,114] func75 h
def ref12_state.V(b:Nat→Nat×Obj)(vb vi:Int→Value)(vl:OA→Nat→Nat→Value)(v:Bs)(k:OA)(a w:Nat)(y:Int)(I:Imm)(F:Heap)(Q:PostQ)(Inv24:Int→Int→Nat→Imm→Heap→Prop):Prop:=∀c:Nat,Tc1 P 61 #[.string v] I ((b c)::·) F .bool fun r I1 F1=>(It (!r) (Q (.returned (vi 120)) I1 F1) (Dt ((a:Int)>12) (Q (.returned (vi 121)) I1 F1) ((∃m:Nat,Inv24 0 0 m I1 F1)∧∀(x i:Int) (m1:Nat) (I2:Imm) (F2:Heap),Imm.le I1 I2→Inv24 x i m1 I2 F2→(Dt (i<(a:Int)) ((0≤i∧i<(a:Int))∧∃ad:Addr,k=some ad∧∃(l n o p q:Int) (s:Bs) (d:OA) (e f:Nat) (t:Int) (g:OA) (h j:Nat) (u:Int),Rd I2 ((b c)::F2) (ad.add (Int.toNat i*10)) [vb l,vb n,vb o,vi p,vb q,.string s,vl d e f,vi t,vl g h j,vi u]∧Tc1 P 115 #[.agg #[vb l,vb n,vb o,vi p,vb q,.string s,vl d e f,vi t,vl g h j,vi u]] I2 ((b c)::·) F2 vi fun r1 I3 F3=>(It (r1 != 0) (Q (.returned (vi r1)) I3 F3) (∃m2:Nat,m2<m1∧Inv24 x (IntKind.wrap .i64 (i+1)) m2 I3 F3))) (Q (.returned (vi 0)) I2 F2)))))
theorem ref12_state.vc{e:Bs}{a:OA}{c d:Nat}{f:Int}{I:Imm}{F:Heap}{Q:PostQ}(Inv24:Int→Int→Nat→Imm→Heap→Prop)(h:ref12_state.V (fun b=>(b,Obj.cells #[.string e,.slice a c d,.int .i64 f] 65 (0,0))) (.int .u8) (.int .i64) .slice e a c d f I F Q Inv24):Tri P 76 #[.agg #[.string e,.slice a c d,.int .i64 f]] I F Q :=
 tw (A:=(annL [2001,4003,7004,10001] [] [61,115] shT_ta [(24,⟨[(2,(.int .i64)),(4,(.int .i64))],[],fun _ _ _ vs m I F=>match vs with | [.int _ y0,.int _ y1]=>Inv24 y0 y1 m I F | _=>False,[],[]⟩)] [] [] [] [] [] [])) [61,115] func76 h
def ref12_rule.V(b:Nat→Nat×Obj)(vb vi:Int→Value)(vs:Bs→Value)(vl:OA→Nat→Nat→Value)(aG aH aI aJ aK:Int)(aL:Bs)(ar:OA)(au av:Nat)(aM:Int)(aw:OA)(a aN:Nat)(aO:Int)(I:Imm)(F:Heap)(Q:PostQ)(Inv32:Int→Int→Int→Nat→Imm→Heap→Prop):Prop:=∀n:Nat,Tc1 P 137 #[.agg #[vb aG,vb aH,vb aI,vi aJ,vb aK,vs aL,vl ar au av,vi aM]] I ((b n)::·) F vi fun r I1 F1=>(It (r != 0) (Q (.returned (vi r)) I1 F1) (It ((a:Int)==0) (Q (.returned (vi 120)) I1 F1) (Dt ((a:Int)>8) (Q (.returned (vi 121)) I1 F1) ((∃m:Nat,Inv32 0 r 0 m I1 F1)∧∀(x e2 i:Int) (m1:Nat) (I2:Imm) (F2:Heap),Imm.le I1 I2→Inv32 x e2 i m1 I2 F2→(Dt (i<(a:Int)) ((0≤i∧i<(a:Int))∧∃ad:Addr,aw=some ad∧∃(ax ay:Int) (az:Bs) (aA aB aC aD aE:Int) (aF:Bs) (o:OA) (p q:Nat) (s t u v w y:Int) (z:Bs) (c:OA) (d e:Nat) (aa ab ac ae af ag:Int) (ah:Bs) (f:OA) (g h:Nat) (ai aj ak al am an:Int) (ao:Bs) (j:OA) (k l:Nat) (ap aq:Int),Rd I2 ((b n)::F2) (ad.add (Int.toNat i*36)) [vb ax,vb ay,vs az,vb aA,vb aB,vb aC,vi aD,vb aE,vs aF,vl o p q,vi s,vb t,vb u,vb v,vi w,vb y,vs z,vl c d e,vi aa,vb ab,vb ac,vb ae,vi af,vb ag,vs ah,vl f g h,vi ai,vb aj,vb ak,vb al,vi am,vb an,vs ao,vl j k l,vi ap,vi aq]∧Tc1 P 138 #[.agg #[vb ax,vb ay,vs az,vb aA,vb aB,vb aC,vi aD,vb aE,vs aF,vl o p q,vi s,vb t,vb u,vb v,vi w,vb y,vs z,vl c d e,vi aa,vb ab,vb ac,vb ae,vi af,vb ag,vs ah,vl f g h,vi ai,vb aj,vb ak,vb al,vi am,vb an,vs ao,vl j k l,vi ap,vi aq]] I2 ((b n)::·) F2 vi fun r1 I3 F3=>(It (r1 != 0) (Q (.returned (vi r1)) I3 F3) (∃m2:Nat,m2<m1∧Inv32 x r1 (IntKind.wrap .i64 (i+1)) m2 I3 F3))) (Q (.returned (vi 0)) I2 F2))))))
theorem ref12_rule.vc{i j k l n:Int}{o:Bs}{a:OA}{c d:Nat}{p:Int}{e:OA}{f g:Nat}{q:Int}{I:Imm}{F:Heap}{Q:PostQ}(Inv32:Int→Int→Int→Nat→Imm→Heap→Prop)(h:ref12_rule.V (fun b=>(b,Obj.cells #[.int .u8 i,.int .u8 j,.int .u8 k,.int .i64 l,.int .u8 n,.string o,.slice a c d,.int .i64 p,.slice e f g,.int .i64 q] 84 (0,0))) (.int .u8) (.int .i64) .string .slice i j k l n o a c d p e f g q I F Q Inv32):Tri P 115 #[.agg #[.int .u8 i,.int .u8 j,.int .u8 k,.int .i64 l,.int .u8 n,.string o,.slice a c d,.int .i64 p,.slice e f g,.int .i64 q]] I F Q :=
 tw (A:=(annL [2001,4003,6003,9004,12001] [] [137,138] shT_ta [(32,⟨[(2,(.int .i64)),(3,(.int .i64)),(4,(.int .i64))],[],fun _ _ _ vs m I F=>match vs with | [.int _ y0,.int _ y1,.int _ y2]=>Inv32 y0 y1 y2 m I F | _=>False,[],[]⟩)] [] [] [] [] [] [])) [137,138] func115 h
def ref12_do.V(a:Nat→Nat×Obj)(nV:Int→Int→Int→Int→Int→Bs→OA→Nat→Nat→Int→Value)(vi:Int→Value)(vl:OA→Nat→Nat→Value)(vt:Bool→Value)(d k:Int)(ab:Bs)(aE aF aG aH aI:Int)(aJ:Bs)(an:OA)(ao ap:Nat)(aD ag ah ai aj ak:Int)(al:Bs)(ac:OA)(ad ae:Nat)(am l m n o p:Int)(q:Bs)(e:OA)(f g:Nat)(s t u v w y:Int)(z:Bs)(h:OA)(i j:Nat)(aa aX:Int)(I:Imm)(F:Heap)(Q:PostQ)(Inv6:Int→Imm→Heap→Prop)(Inv14:Int→Imm→Heap→Prop)(Inv24:Int→Imm→Heap→Prop):Prop:=∀c:Nat,((Dt (d<1) (Q (.returned (vi 120)) I F) (Dt (d>6) (Q (.returned (vi 120)) I F) (Inv6 0 I F))))∧∀(x:Int) (I1:Imm) (F1:Heap),Imm.le I I1→Inv6 x I1 F1→((It (d==1) (Dt (k<1) (Q (.returned (vi 120)) I1 F1) (Dt (k>5) (Q (.returned (vi 120)) I1 F1) (It (!(d==1)) (It (k != 0) (Q (.returned (vi 120)) I1 F1) (Inv14 x I1 F1)) (Inv14 x I1 F1)))) (It (!(d==1)) (It (k != 0) (Q (.returned (vi 120)) I1 F1) (Inv14 x I1 F1)) (Inv14 x I1 F1))))∧∀(x1:Int) (I2:Imm) (F2:Heap),Imm.le I1 I2→Inv14 x1 I2 F2→Tc1 P 61 #[.string ab] I2 ((a c)::·) F2 vt fun r I3 F3=>((It (d==6) (It (!(ab.toList==(⟨#[]⟩:Bs).toList)) (Q (.returned (vi 120)) I3 F3) (It (d != 6) (It (!r) (It (d==1) (It (!(ab.toList==(⟨#[]⟩:Bs).toList)) (Q (.returned (vi 120)) I3 F3) (Inv24 x1 I3 F3)) (It true (Q (.returned (vi 120)) I3 F3) (Inv24 x1 I3 F3))) (Inv24 x1 I3 F3)) (Inv24 x1 I3 F3))) (It (d != 6) (It (!r) (It (d==1) (It (!(ab.toList==(⟨#[]⟩:Bs).toList)) (Q (.returned (vi 120)) I3 F3) (Inv24 x1 I3 F3)) (It true (Q (.returned (vi 120)) I3 F3) (Inv24 x1 I3 F3))) (Inv24 x1 I3 F3)) (Inv24 x1 I3 F3))))∧∀(x2:Int) (I4:Imm) (F4:Heap),Imm.le I3 I4→Inv24 x2 I4 F4→Tc1 P 153 (#[vt (d==1),nV aE aF aG aH aI aJ an ao ap aD]) I4 ((a c)::·) F4 vi fun r1 I5 F5=>(It (d==1) (Tc1 P 153 #[vt true,nV ag ah ai aj ak al ac ad ae am] I5 ((a c)::·) F5 vi fun r2 I6 F6=>(It (d==1) (It (k != 2) (Tc1 P 153 #[vt true,nV l m n o p q e f g s] I6 ((a c)::·) F6 vi fun r3 I7 F7=>Tc1 P 153 (#[vt (d==4),nV t u v w y z h i j aa]) I7 ((a c)::·) F7 vi fun r4 I8 F8=>∀(b:Nat) (I9:Imm),Imm.le I8 I9→I9 b=some (Obj.cells #[vi r1,vi r2,vi r3,vi r4] 47 (0,0))→Tc1 P 154 (#[vl (some ⟨b,0,none⟩) 4 4]) I9 ((a c)::·) F8 vi fun r5 I10 F9=>Q (.returned (vi r5)) I10 F9) (Tc1 P 153 (#[vt (d==2),nV l m n o p q e f g s]) I6 ((a c)::·) F6 vi fun r6 I11 F10=>Tc1 P 153 (#[vt (d==4),nV t u v w y z h i j aa]) I11 ((a c)::·) F10 vi fun r7 I12 F11=>∀(b1:Nat) (I13:Imm),Imm.le I12 I13→I13 b1=some (Obj.cells #[vi r1,vi r2,vi r6,vi r7] 47 (0,0))→Tc1 P 154 (#[vl (some ⟨b1,0,none⟩) 4 4]) I13 ((a c)::·) F11 vi fun r8 I14 F12=>Q (.returned (vi r8)) I14 F12)) (Tc1 P 153 (#[vt (d==2),nV l m n o p q e f g s]) I6 ((a c)::·) F6 vi fun r9 I15 F13=>Tc1 P 153 (#[vt (d==4),nV t u v w y z h i j aa]) I15 ((a c)::·) F13 vi fun aq I16 F14=>∀(b2:Nat) (I17:Imm),Imm.le I16 I17→I17 b2=some (Obj.cells #[vi r1,vi r2,vi r9,vi aq] 47 (0,0))→Tc1 P 154 (#[vl (some ⟨b2,0,none⟩) 4 4]) I17 ((a c)::·) F14 vi fun ar I18 F15=>Q (.returned (vi ar)) I18 F15))) (Tc1 P 153 (#[vt (d==2),nV ag ah ai aj ak al ac ad ae am]) I5 ((a c)::·) F5 vi fun af I19 F16=>(It (d==1) (It (k != 2) (Tc1 P 153 #[vt true,nV l m n o p q e f g s] I19 ((a c)::·) F16 vi fun au I20 F17=>Tc1 P 153 (#[vt (d==4),nV t u v w y z h i j aa]) I20 ((a c)::·) F17 vi fun av I21 F18=>∀(b3:Nat) (I22:Imm),Imm.le I21 I22→I22 b3=some (Obj.cells #[vi r1,vi af,vi au,vi av] 47 (0,0))→Tc1 P 154 (#[vl (some ⟨b3,0,none⟩) 4 4]) I22 ((a c)::·) F18 vi fun aw I23 F19=>Q (.returned (vi aw)) I23 F19) (Tc1 P 153 (#[vt (d==2),nV l m n o p q e f g s]) I19 ((a c)::·) F16 vi fun ax I24 F20=>Tc1 P 153 (#[vt (d==4),nV t u v w y z h i j aa]) I24 ((a c)::·) F20 vi fun ay I25 F21=>∀(b4:Nat) (I26:Imm),Imm.le I25 I26→I26 b4=some (Obj.cells #[vi r1,vi af,vi ax,vi ay] 47 (0,0))→Tc1 P 154 (#[vl (some ⟨b4,0,none⟩) 4 4]) I26 ((a c)::·) F21 vi fun az I27 F22=>Q (.returned (vi az)) I27 F22)) (Tc1 P 153 (#[vt (d==2),nV l m n o p q e f g s]) I19 ((a c)::·) F16 vi fun aA I28 F23=>Tc1 P 153 (#[vt (d==4),nV t u v w y z h i j aa]) I28 ((a c)::·) F23 vi fun aB I29 F24=>∀(b5:Nat) (I30:Imm),Imm.le I29 I30→I30 b5=some (Obj.cells #[vi r1,vi af,vi aA,vi aB] 47 (0,0))→Tc1 P 154 (#[vl (some ⟨b5,0,none⟩) 4 4]) I30 ((a c)::·) F24 vi fun aC I31 F25=>Q (.returned (vi aC)) I31 F25))))
theorem ref12_do.vc{ay az:Int}{aA:Bs}{aB aC aD aE aF:Int}{aG:Bs}{w:OA}{x y:Nat}{z aa ab ac ad ae:Int}{af:Bs}{d:OA}{e g:Nat}{ag ah ai aj ak al:Int}{am:Bs}{i:OA}{j p:Nat}{an ao ap aq ar au:Int}{av:Bs}{r:OA}{u v:Nat}{aw ax:Int}{I:Imm}{F:Heap}{Q:PostQ}(Inv6:Int→Imm→Heap→Prop)(Inv14:Int→Imm→Heap→Prop)(Inv24:Int→Imm→Heap→Prop)(h:ref12_do.V (fun b=>(b,Obj.cells #[.int .u8 ay,.int .u8 az,.string aA,.int .u8 aB,.int .u8 aC,.int .u8 aD,.int .i64 aE,.int .u8 aF,.string aG,.slice w x y,.int .i64 z,.int .u8 aa,.int .u8 ab,.int .u8 ac,.int .i64 ad,.int .u8 ae,.string af,.slice d e g,.int .i64 ag,.int .u8 ah,.int .u8 ai,.int .u8 aj,.int .i64 ak,.int .u8 al,.string am,.slice i j p,.int .i64 an,.int .u8 ao,.int .u8 ap,.int .u8 aq,.int .i64 ar,.int .u8 au,.string av,.slice r u v,.int .i64 aw,.int .i64 ax] 99 (0,0))) (fun k o t n f s a l c q=>.agg #[.int .u8 k,.int .u8 o,.int .u8 t,.int .i64 n,.int .u8 f,.string s,.slice a l c,.int .i64 q]) (.int .i64) .slice .bool ay az aA aB aC aD aE aF aG w x y z aa ab ac ad ae af d e g ag ah ai aj ak al am i j p an ao ap aq ar au av r u v aw ax I F Q Inv6 Inv14 Inv24):Tri P 138 #[.agg #[.int .u8 ay,.int .u8 az,.string aA,.int .u8 aB,.int .u8 aC,.int .u8 aD,.int .i64 aE,.int .u8 aF,.string aG,.slice w x y,.int .i64 z,.int .u8 aa,.int .u8 ab,.int .u8 ac,.int .i64 ad,.int .u8 ae,.string af,.slice d e g,.int .i64 ag,.int .u8 ah,.int .u8 ai,.int .u8 aj,.int .i64 ak,.int .u8 al,.string am,.slice i j p,.int .i64 an,.int .u8 ao,.int .u8 ap,.int .u8 aq,.int .i64 ar,.int .u8 au,.string av,.slice r u v,.int .i64 aw,.int .i64 ax]] I F Q :=
 tw (A:=(annL [3002,3006,5000,5004,5008,5013,5017,8002,8006,8011,8014,8017,8023,11000,12000,12004] [] [61,153,154] shT_ta [(6,⟨[(2,(.int .i64))],[],fun _ _ _ vs m I F=>match vs with | [.int _ y0]=>Inv6 y0 I F | _=>False,[],[]⟩),(14,⟨[(2,(.int .i64))],[],fun _ _ _ vs m I F=>match vs with | [.int _ y0]=>Inv14 y0 I F | _=>False,[],[]⟩),(24,⟨[(2,(.int .i64))],[],fun _ _ _ vs m I F=>match vs with | [.int _ y0]=>Inv24 y0 I F | _=>False,[],[]⟩)] [14004] [] [] [] [] [])) [61,153,154] func138 h
def ref12_first.V(vi:Int→Value)(b:OA)(a d:Nat)(I:Imm)(F:Heap)(Q:PostQ)(Inv6:Int→Int→Nat→Imm→Heap→Prop):Prop:=(∃m:Nat,Inv6 0 0 m I F)∧∀(x i:Int) (m1:Nat) (I1:Imm) (F1:Heap),Imm.le I I1→Inv6 x i m1 I1 F1→(Dt (i<(a:Int)) ((0≤i∧i<(a:Int))∧∃ad:Addr,b=some ad∧∃(m2:Int),Rd I1 F1 (ad.add (Int.toNat i*1)) [vi m2]∧(It (m2 != 0) ((0≤i∧i<(a:Int))∧∃c:Addr,b=some c∧∃(m3:Int),Rd I1 F1 (c.add (Int.toNat i*1)) [vi m3]∧Q (.returned (vi m3)) I1 F1) (∃m4:Nat,m4<m1∧Inv6 x (IntKind.wrap .i64 (i+1)) m4 I1 F1))) (Q (.returned (vi 0)) I1 F1))
theorem ref12_first.vc{a:OA}{b c:Nat}{I:Imm}{F:Heap}{Q:PostQ}(Inv6:Int→Int→Nat→Imm→Heap→Prop)(h:ref12_first.V (.int .i64) a b c I F Q Inv6):Tri P 154 #[.slice a b c] I F Q :=
 tw (A:=(annL [2003,4004] [] [] shT_ta [(6,⟨[(2,(.int .i64)),(3,(.int .i64))],[],fun _ _ _ vs m I F=>match vs with | [.int _ y0,.int _ y1]=>Inv6 y0 y1 m I F | _=>False,[],[]⟩)] [] [] [] [] [] [])) [] func154 h
def ref12_part.V(a:Nat→Nat×Obj)(nV:Int→Int→Int→Int→Int→Bs→OA→Nat→Nat→Int→Value)(vi:Int→Value)(b:Bool)(g h i j k:Int)(l:Bs)(c:OA)(d e:Nat)(m:Int)(I:Imm)(F:Heap)(Q:PostQ)  : Prop:=∀f:Nat,(It b (Tc1 P 137 #[nV g h i j k l c d e m] I ((a f)::·) F vi fun r I1 F1=>Q (.returned (vi r)) I1 F1) (Tc1 P 164 #[nV g h i j k l c d e m] I ((a f)::·) F .bool fun r1 I2 F2=>(It (!r1) (Q (.returned (vi 120)) I2 F2) (Q (.returned (vi 0)) I2 F2))))
theorem ref12_part.vc{i:Bool}{j m p r u:Int}{v:Bs}{d:OA}{e g:Nat}{w:Int}{I:Imm}{F:Heap}{Q:PostQ}  (h:ref12_part.V (fun b=>(b,Obj.cells #[.int .u8 j,.int .u8 m,.int .u8 p,.int .i64 r,.int .u8 u,.string v,.slice d e g,.int .i64 w] 28 (0,0))) (fun k o t n f s a l c q=>.agg #[.int .u8 k,.int .u8 o,.int .u8 t,.int .i64 n,.int .u8 f,.string s,.slice a l c,.int .i64 q]) (.int .i64) i j m p r u v d e g w I F Q):Tri P 153 #[.bool i,.agg #[.int .u8 j,.int .u8 m,.int .u8 p,.int .i64 r,.int .u8 u,.string v,.slice d e g,.int .i64 w]] I F Q :=
 tw (A:=(an [1000,4001] [137,164] shT_ta)) [137,164] func153 h
def ref12_none.V(nO:Int→Int→Int→Int→Int→Bs→OA→Nat→Nat→Int→Obj)(vb:Int→Value)(vt:Bool→Value)(d e f g h:Int)(i:Bs)(b:OA)(a c:Nat)(j:Int)(I:Imm)(F:Heap)(Q:PostQ)  : Prop:=∀k:Nat,(It (d==0) (Tc1 P 62 #[.agg #[vb d,vb e,vb f,.int .i64 g,vb h,.string i,.slice b a c,.int .i64 j]] I ((k,nO d e f g h i b a c j)::·) F vt fun r I1 F1=>(It r (Q (.returned (vt ((a:Int)==0))) I1 F1) (Q (.returned (vt false)) I1 F1))) (Q (.returned (vt false)) I F))
theorem ref12_none.vc{g i j m p:Int}{r:Bs}{b:OA}{d e:Nat}{u:Int}{I:Imm}{F:Heap}{Q:PostQ}  (h:ref12_none.V (fun k o t n f s a l c q=>.cells #[.int .u8 k,.int .u8 o,.int .u8 t,.int .i64 n,.int .u8 f,.string s,.slice a l c,.int .i64 q] 28 (0,0)) (.int .u8) .bool g i j m p r b d e u I F Q):Tri P 164 #[.agg #[.int .u8 g,.int .u8 i,.int .u8 j,.int .i64 m,.int .u8 p,.string r,.slice b d e,.int .i64 u]] I F Q :=
 tw (A:=(an [1002,1005] [62] shT_ta)) [62] func164 h
def ref12_begins.V(b:Nat→Nat×Obj)(nV:Int→Int→Int→Int→Int→Bs→OA→Nat→Nat→Int→Value)(nO:Int→Int→Int→Int→Int→Bs→OA→Nat→Nat→Int→Obj)(vb:Int→Value)(vt:Bool→Value)(c g l m n:Int)(o:Bs)(d:OA)(a f:Nat)(p:Int)(I:Imm)(F:Heap)(Q:PostQ)  : Prop:=∀e:Nat,(It (c==5) (It (g==1) (It ((a:Int)==1) ((0≤(0:Int)∧(0:Int)<(a:Int))∧∃ad:Addr,d=some ad∧∃(k s q t u:Int) (v:Bs) (h:OA) (i j:Nat) (w:Int),Rd I ((b e)::F) (ad.add (Int.toNat 0*8)) [vb k,vb s,vb q,.int .i64 t,vb u,.string v,.slice h i j,.int .i64 w]∧∀x:Nat,Tc1 P 15 #[nV c g l m n o d a f p] I ((b e)::(x,nO k s q t u v h i j w)::·) F vt fun r I1 F1=>(It r (It (k==1) (Q (.returned (vt (decide (q≤4)))) I1 F1) (Q (.returned (vt false)) I1 F1)) (Q (.returned (vt false)) I1 F1))) (Tc1 P 15 #[nV c g l m n o d a f p] I ((b e)::·) F vt fun r1 I2 F2=>(It r1 (Q (.returned (vt (c==1))) I2 F2) (Q (.returned (vt false)) I2 F2)))) (Tc1 P 15 #[nV c g l m n o d a f p] I ((b e)::·) F vt fun r2 I3 F3=>(It r2 (Q (.returned (vt (c==1))) I3 F3) (Q (.returned (vt false)) I3 F3)))) (Tc1 P 15 #[nV c g l m n o d a f p] I ((b e)::·) F vt fun r3 I4 F4=>(It r3 (Q (.returned (vt (c==1))) I4 F4) (Q (.returned (vt false)) I4 F4))))
theorem ref12_begins.vc{i j m p r:Int}{u:Bs}{d:OA}{e g:Nat}{v:Int}{I:Imm}{F:Heap}{Q:PostQ}  (h:ref12_begins.V (fun b=>(b,Obj.cells #[.int .u8 i,.int .u8 j,.int .u8 m,.int .i64 p,.int .u8 r,.string u,.slice d e g,.int .i64 v] 28 (0,0))) (fun k o t n f s a l c q=>.agg #[.int .u8 k,.int .u8 o,.int .u8 t,.int .i64 n,.int .u8 f,.string s,.slice a l c,.int .i64 q]) (fun k o t n f s a l c q=>.cells #[.int .u8 k,.int .u8 o,.int .u8 t,.int .i64 n,.int .u8 f,.string s,.slice a l c,.int .i64 q] 28 (0,0)) (.int .u8) .bool i j m p r u d e g v I F Q):Tri P 114 #[.agg #[.int .u8 i,.int .u8 j,.int .u8 m,.int .i64 p,.int .u8 r,.string u,.slice d e g,.int .i64 v]] I F Q :=
 tw (A:=(an [1002,1006,1012,3001,3005,4001] [15] shT_ta)) [15] func114 h
end Go.Lx
namespace Go.Lx
open Go.Vc
end Go.Lx
namespace Go.Lx
open Go.Vc
end Go.Lx
namespace Go.Lx
open Go.Vc
end Go.Lx
namespace Go.Lx
open Go.Vc
theorem typed_ok{s:StgP}{x:Px}(h:∀k∈x.kids,(typed s k).2.e=0):typed s x=nodeE s x (x.kids.map fun k=>(typed s k).1):=by
 rw[typed_eq,typedL_ok h,if_neg fun h=>h rfl]
theorem typed_bad{s:StgP}{x k:Px}{i:Nat}(h:∀k∈x.kids.take i,(typed s k).2.e=0)(hk:x.kids[i]? = some k)(he:(typed s k).2.e≠0):typed s x=(0,(typed s k).2):=by
 rw[typed_eq,typedL_err h hk he,if_pos he]
theorem checkE_formed{x:Px}(h:x.checkE=0):x.formed=true:=by
 unfold Px.checkE at h
 split at h
 ·assumption
 ·cases h
end Go.Lx
namespace Go.Lx
open Go.Vc
def TF.enc(f:TF):List Value:=[.int .i64 f.e,.int .i64 f.pos,.bool f.of]
section
variable (s:StgN) (hl:s.p.Thin) {I:Imm} {F:Heap} (hok:s.Ok I F)
include hl hok
end
end Go.Lx
namespace Go.Lx
open Go.Vc
section
variable (s:StgN) (hl:s.p.Thin) {I:Imm} {F:Heap} (hok:s.Ok I F)
include hl hok
end
end Go.Lx
namespace Go.Lx
open Go.Vc
theorem thenT_z(a:TF)(h:a.e=0)(b:TF):thenT a b=b:=by unfold thenT;rw[if_neg (by simpa using h)]
theorem thenT_e(a:TF)(h:a.e≠0)(b:TF):thenT a b=a:=by unfold thenT;rw[if_pos h]
theorem thenE_z{a b:Int}(h:thenE a b=0):a=0∧b=0:=by
 unfold thenE at h
 split at h
 ·rename_i h0;exact⟨h0,h⟩
 ·rename_i h0;exact absurd h h0
theorem firstE_z{α:Type}{f:α→Int}:∀{l:List α},firstE f l=0→∀x∈l,f x=0
 | [],_,x,hx=>by cases hx
 | y::r,h,x,hx=>by
   rw[firstE] at h
   obtain⟨h1,h2⟩:=thenE_z h
   rcases List.mem_cons.1 hx with rfl | hx
   ·exact h1
   ·exact firstE_z h2 x hx
theorem errB_z{b:Bool}{n:Int}(hn:n≠0)(h:errB b n=0):b=true:=by
 unfold errB at h
 split at h
 ·assumption
 ·exact absurd h hn
theorem check_regs{s:StgP}(h:s.check=0):∀r∈s.regs,r.init.formed=true:=by
 unfold StgP.check at h
 obtain⟨_,h⟩:=thenE_z h
 obtain⟨_,h⟩:=thenE_z h
 obtain⟨h,_⟩:=thenE_z h
 intro r hr
 have h1:=errB_z (by decide) (firstE_z h r hr)
 simp only[Bool.and_eq_true] at h1
 exact h1.2.2.1
section
variable (s:StgN) (hl:s.p.Thin) {I:Imm} {F:Heap} (hok:s.Ok I F)
include hl hok
end
end Go.Lx
namespace Go.Lx
open Go.Vc Go.Proofs.Tryz
def shT_y1:List (Nat×List Sh):=[(3,[.one (.int .i64)]),(4,[.one .bool]),(24,[.one (.int .u8)]),(28,[.agg [(.int .u8),(.int .u8),(.int .u8),(.int .i64),(.int .u8),.str,.slc,(.int .i64)]]),(44,[.one .any]),(47,[.one (.int .i64)]),(65,[.agg [.str,.slc,(.int .i64)]]),(77,[.agg [.str,(.int .u8),(.int .u8),(.int .u8),(.int .u8),(.int .i64),(.int .u8),.str,.slc,(.int .i64),(.int .i64)]]),(79,[.agg [.str,(.int .i64)]]),(84,[.agg [(.int .u8),(.int .u8),(.int .u8),(.int .i64),(.int .u8),.str,.slc,(.int .i64),.slc,(.int .i64)]]),(89,[.one .ptr]),(96,[.one (.int .u8)]),(99,[.agg [(.int .u8),(.int .u8),.str,(.int .u8),(.int .u8),(.int .u8),(.int .i64),(.int .u8),.str,.slc,(.int .i64),(.int .u8),(.int .u8),(.int .u8),(.int .i64),(.int .u8),.str,.slc,(.int .i64),(.int .u8),(.int .u8),(.int .u8),(.int .i64),(.int .u8),.str,.slc,(.int .i64),(.int .u8),(.int .u8),(.int .u8),(.int .i64),(.int .u8),.str,.slc,(.int .i64),(.int .i64)]]),(113,[.one .ptr]),(161,[.one .map]),(162,[.one .map]),(165,[.one (.int .u8),.one .bool]),(166,[.one (.int .u8),.one .any]),(208,[.one .slc]),(210,[.agg [(.int .u8),(.int .u8),(.int .u8),(.int .i64),(.int .u8),.str,.slc,(.int .i64),(.int .u8)]])]
def types_number.V(t:Int)(I:Imm)(F:Heap)(Q:PostQ)  : Prop:=(Dt (1≤t) (Q (.returned (.bool (decide (t≤4)))) I F) (Q (.returned (.bool false)) I F))
theorem types_number.vc{t:Int}{I:Imm}{F:Heap}{Q:PostQ}  (h:types_number.V t I F Q):Tri P 151 #[.int .u8 t] I F Q :=
 tw (A:=(an [1001] [] shT_y1)) [] func151 h
def types_wrong.V(f g h i j:Int)(k:Bs)(c:OA)(d e:Nat)(a e1:Int)(I:Imm)(F:Heap)(Q:PostQ)  : Prop:=∀l:Nat,∀b:Nat,Q (.returned (.tuple #[.int .u8 0,Value.iface 89 (.pointer (some (⟨b,0,none⟩:Addr)))])) I (((b,Obj.cells #[.string (⟨#[79,102]⟩:Bs),.int .i64 a,Value.iface 47 (.int .i64 e1)] 93 (0,0))::F))
theorem types_wrong.vc{d e f g i:Int}{j:Bs}{a:OA}{b c:Nat}{k e1:Int}{I:Imm}{F:Heap}{Q:PostQ}  (h:types_wrong.V d e f g i j a b c k e1 I F Q):Tri P 136 #[.agg #[.int .u8 d,.int .u8 e,.int .u8 f,.int .i64 g,.int .u8 i,.string j,.slice a b c,.int .i64 k],.int .i64 e1] I F Q :=
 tw (A:=(annL [] [] [] shT_y1 [] [] [1005] [] [] [(1,[0,2,3,7,1,4,5,6,8])] [])) [] func136 h
def types_single.V(c:Nat→Nat×Obj)(vb:Int→Value)(vt:Bool→Value)(e b f j k:Int)(l:Bs)(g:OA)(h i:Nat)(m a:Int)(I:Imm)(F:Heap)(Q:PostQ)  : Prop:=∀d:Nat,(It (e==9) (Tc1 P 151 #[vb a] I ((c d)::·) F vt fun r I1 F1=>(It r (Q (.returned (vb f)) I1 F1) (It (e==9) (Q (.returned (vb 0)) I1 F1) (It (b==2) (It (a==5) (Q (.returned (vb a)) I1 F1) (It (b != 2) (Tc1 P 151 #[vb a] I1 ((c d)::·) F1 vt fun r1 I2 F2=>(It r1 (Q (.returned (vb a)) I2 F2) (Q (.returned (vb 0)) I2 F2))) (Q (.returned (vb 0)) I1 F1))) (It (b != 2) (Tc1 P 151 #[vb a] I1 ((c d)::·) F1 vt fun r2 I3 F3=>(It r2 (Q (.returned (vb a)) I3 F3) (Q (.returned (vb 0)) I3 F3))) (Q (.returned (vb 0)) I1 F1)))))) (It (e==9) (Q (.returned (vb 0)) I F) (It (b==2) (It (a==5) (Q (.returned (vb a)) I F) (It (b != 2) (Tc1 P 151 #[vb a] I ((c d)::·) F vt fun r3 I4 F4=>(It r3 (Q (.returned (vb a)) I4 F4) (Q (.returned (vb 0)) I4 F4))) (Q (.returned (vb 0)) I F))) (It (b != 2) (Tc1 P 151 #[vb a] I ((c d)::·) F vt fun r4 I5 F5=>(It r4 (Q (.returned (vb a)) I5 F5) (Q (.returned (vb 0)) I5 F5))) (Q (.returned (vb 0)) I F)))))
theorem types_single.vc{f g i j k:Int}{l:Bs}{c:OA}{d e:Nat}{m a:Int}{I:Imm}{F:Heap}{Q:PostQ}  (h:types_single.V (fun b=>(b,Obj.cells #[.int .u8 f,.int .u8 g,.int .u8 i,.int .i64 j,.int .u8 k,.string l,.slice c d e,.int .i64 m] 28 (0,0))) (.int .u8) .bool f g i j k l c d e m a I F Q):Tri P 134 #[.agg #[.int .u8 f,.int .u8 g,.int .u8 i,.int .i64 j,.int .u8 k,.string l,.slice c d e,.int .i64 m],.int .u8 a] I F Q :=
 tw (A:=(an [1002,1005,3002,4002,4005,5002,5005] [151] shT_y1)) [151] func134 h
def types_double.V(vb:Int→Value)(vt:Bool→Value)(o a b:Int)(I:Imm)(F:Heap)(Q:PostQ)  : Prop:=(It (o==8) (It (a==1) (Tc1 P 151 #[vb b] I (·) F vt fun r I1 F1=>Q (.returned (.tuple #[vb b,vt r])) I1 F1) (It (b==1) (Tc1 P 151 #[vb a] I (·) F vt fun r1 I2 F2=>Q (.returned (.tuple #[vb a,vt r1])) I2 F2) (It (a != b) (It ((IntKind.wrap .u8 (a+b))==5) (Tc1 P 151 #[vb a] I (·) F vt fun r2 I3 F3=>(It r2 (Tc1 P 151 #[vb b] I3 (·) F3 vt fun r3 I4 F4=>Q (.returned (.tuple #[vb 1,vt r3])) I4 F4) (Q (.returned (.tuple #[vb 1,vt false])) I3 F3))) (Q (.returned (.tuple #[vb 1,vt false])) I F)) (Q (.returned (.tuple #[vb 1,vt false])) I F)))) (It (o==9) (It (b==1) (Tc1 P 151 #[vb a] I (·) F vt fun r4 I5 F5=>Q (.returned (.tuple #[vb a,vt r4])) I5 F5) (It (a==b) (Tc1 P 151 #[vb a] I (·) F vt fun r5 I6 F6=>Q (.returned (.tuple #[vb 1,vt r5])) I6 F6) (Q (.returned (.tuple #[vb 1,vt false])) I F))) (It (o==11) (Q (.returned (.tuple #[vb 5,vt (a==b)])) I F) (It (o==12) (Q (.returned (.tuple #[vb 5,vt (a==b)])) I F) (It (o==17) (It (a==b) (Q (.returned (.tuple #[vb a,vt (a==5)])) I F) (Q (.returned (.tuple #[vb a,vt false])) I F)) (It (o==18) (It (a==b) (Q (.returned (.tuple #[vb a,vt (a==5)])) I F) (Q (.returned (.tuple #[vb a,vt false])) I F)) (It (o==13) (It (a==b) (Tc1 P 151 #[vb a] I (·) F vt fun r6 I7 F7=>Q (.returned (.tuple #[vb 5,vt r6])) I7 F7) (Q (.returned (.tuple #[vb 5,vt false])) I F)) (It (o==14) (It (a==b) (Tc1 P 151 #[vb a] I (·) F vt fun r7 I8 F8=>Q (.returned (.tuple #[vb 5,vt r7])) I8 F8) (Q (.returned (.tuple #[vb 5,vt false])) I F)) (It (o==15) (It (a==b) (Tc1 P 151 #[vb a] I (·) F vt fun r8 I9 F9=>Q (.returned (.tuple #[vb 5,vt r8])) I9 F9) (Q (.returned (.tuple #[vb 5,vt false])) I F)) (It (o==16) (It (a==b) (Tc1 P 151 #[vb a] I (·) F vt fun r9 I10 F10=>Q (.returned (.tuple #[vb 5,vt r9])) I10 F10) (Q (.returned (.tuple #[vb 5,vt false])) I F)) (It (a==b) (Tc1 P 151 #[vb a] I (·) F vt fun c I11 F11=>Q (.returned (.tuple #[vb a,vt c])) I11 F11) (Q (.returned (.tuple #[vb a,vt false])) I F))))))))))))
theorem types_double.vc{o a b:Int}{I:Imm}{F:Heap}{Q:PostQ}  (h:types_double.V (.int .u8) .bool o a b I F Q):Tri P 135 #[.int .u8 o,.int .u8 a,.int .u8 b] I F Q :=
 tw (A:=(an [2000,3001,5001,7002,7007,7011,8000,9001,11002,12000,13000,15000,16000,17003,18000,19000,20000,21000,22002,23003] [151] shT_y1)) [151] func135 h
def types_registers.V(ka:Nat→Bs→Int→Int→Int→Int→Int→Int→Bs→OA→Nat→Nat→Int→Int→Nat×Obj)(kb:Nat→(Option Nat)→(Option Nat)→(Option Nat)→Nat×Obj)(c:Nat→Nat×Obj)(vb vi:Int→Value)(vs:Bs→Value)(vl:OA→Nat→Nat→Value)(ai:Bs)(w:OA)(t aa:Nat)(ab:OA)(ac ae:Nat)(af:OA)(ag ah:Nat)(I:Imm)(F:Heap)(Q:PostQ)(Inv8:OA→OA→Int→Nat→Imm→Heap→Imm→Heap→Prop):Prop:=∀a:Nat,TriE P (Instr.makeMap 161 none) I ((c a)::F) fun v I1 G1=>∃(r:Option Nat),v=.map r∧∃F1:Heap,List.Perm G1 ((c a)::F1)∧TriE P (Instr.makeMap 162 none) I1 ((c a)::F1) fun v1 I2 G2=>∃(r1:Option Nat),v1=.map r1∧∃F2:Heap,List.Perm G2 ((c a)::F2)∧TriE P (Instr.makeMap 162 none) I2 ((c a)::F2) fun v2 I3 G3=>∃(r2:Option Nat),v2=.map r2∧∃F3:Heap,List.Perm G3 ((c a)::F3)∧∀b:Nat,(∃m:Nat,Inv8 (some ⟨a,0,none⟩) (some (⟨b,0,none⟩:Addr)) 0 m I3 ((kb b r r1 r2)::F3) I3 ((kb b r r1 r2)::F3))∧∀(x:Int) (m1:Nat) (I4:Imm) (F4:Heap),Imm.le I3 I4→Inv8 (some ⟨a,0,none⟩) (some (⟨b,0,none⟩:Addr)) x m1 I3 ((kb b r r1 r2)::F3) I4 F4→(Dt (x<(t:Int)) ((0≤x∧x<(t:Int))∧∃ad:Addr,w=some ad∧∃(h:Bs) (i j k l n o:Int) (p:Bs) (d:OA) (e f:Nat) (q g:Int),Rd I4 ((c a)::F4) (ad.add (Int.toNat x*11)) [vs h,vb i,vb j,vb k,vb l,vi n,vb o,vs p,vl d e f,vi q,vi g]∧∀s:Nat,∃y:Addr,some (⟨b,0,none⟩:Addr)=some y∧∃(m2:Option Nat),Rd I4 ((c a)::(ka s h i j k l n o p d e f q g)::F4) (y.add 0) [.map m2]∧TriE P (Instr.lookup 161 (.map m2) (vs h) true) I4 ((c a)::(ka s h i j k l n o p d e f q g)::F4) fun v3 I5 G4=>∃(r0:Int) (u:Bool),v3=.tuple #[vb r0,.bool u]∧∃F5:Heap,List.Perm G4 ((c a)::(ka s h i j k l n o p d e f q g)::F5)∧(It (!u) (∃z:Addr,some (⟨b,0,none⟩:Addr)=some z∧∃(m3:Option Nat),Rd I5 ((c a)::(ka s h i j k l n o p d e f q g)::F5) (z.add 0) [.map m3]∧TriU P (Instr.mapUpdate 161 (.map m3) (vs h) (vb i)) I5 ((c a)::(ka s h i j k l n o p d e f q g)::F5) fun I6 G5=>∃F6:Heap,List.Perm G5 ((c a)::(ka s h i j k l n o p d e f q g)::F6)∧(∃m4:Nat,m4<m1∧Inv8 (some ⟨a,0,none⟩) (some (⟨b,0,none⟩:Addr)) (IntKind.wrap .i64 (x+1)) m4 I3 ((kb b r r1 r2)::F3) I6 F6)) (∃m5:Nat,m5<m1∧Inv8 (some ⟨a,0,none⟩) (some (⟨b,0,none⟩:Addr)) (IntKind.wrap .i64 (x+1)) m5 I3 ((kb b r r1 r2)::F3) I5 F5))) (Q (.returned (.pointer (some (⟨b,0,none⟩:Addr)))) I4 F4))
theorem types_registers.vc{w:Bs}{n:OA}{o p:Nat}{q:OA}{r s:Nat}{t:OA}{u v:Nat}{I:Imm}{F:Heap}{Q:PostQ}(Inv8:OA→OA→Int→Nat→Imm→Heap→Imm→Heap→Prop)(h:types_registers.V (fun W a b c d e f g h i j k l m=>(W,Obj.cells #[.string a,.int .u8 b,.int .u8 c,.int .u8 d,.int .u8 e,.int .i64 f,.int .u8 g,.string h,.slice i j k,.int .i64 l,.int .i64 m] 77 (0,0))) (fun W a b c=>(W,Obj.cells #[.map a,.map b,.map c] 164 (0,0))) (fun b=>(b,Obj.cells #[.string w,.slice n o p,.slice q r s,.slice t u v] 39 (0,0))) (.int .u8) (.int .i64) .string .slice w n o p q r s t u v I F Q Inv8):Tri P 66 #[.agg #[.string w,.slice n o p,.slice q r s,.slice t u v]] I F Q :=
 tw (A:=(annL [3000,6001] [] [] shT_y1 [(8,⟨[(16,(.int .i64))],[],fun fs I0 F0 vs m I F=>match fs,vs with | [.pointer y0,.pointer y1],[.int _ y2]=>Inv8 y0 y1 y2 m I0 F0 I F | _,_=>False,[1,3],[]⟩)] [] [1004] [] [] [(5,[0,1,2,4,3,5,6,7,8,9,10,11]),(7,[0,1,2,4,6,3,5,7,8])] [])) [] func66 h
def types_refused.V(vp:OA→Value)(c:Int)(et:TypeId)(ev:Value)(I:Imm)(F:Heap)(Q:PostQ)  : Prop:=∀a:Nat,Tri P 44 (#[Value.iface et ev,Value.iface 91 (vp (some (⟨a,0,none⟩:Addr)))]) I (((a,Obj.cells #[vp none] 89 (0,0))::F)) fun e1 I1 G1=>∃(r:Bool),e1=.returned (.bool r)∧∃F1:Heap,List.Perm G1 F1∧(It r (∃(m:OA),Rd I1 F1 (⟨a,0,none⟩:Addr) [vp m]∧∃ad:Addr,m=some ad∧∃(m1:Int),Rd I1 F1 (ad.add 1) [.int .i64 m1]∧∀b:Nat,Q (.returned (Value.iface 89 (vp (some (⟨b,0,none⟩:Addr))))) I1 (((b,Obj.cells #[.string (⟨#[67,104,101,99,107]⟩:Bs),.int .i64 m1,Value.iface et ev] 93 (0,0))::F1))) (∀b1:Nat,Q (.returned (Value.iface 89 (vp (some (⟨b1,0,none⟩:Addr))))) I1 (((b1,Obj.cells #[.string (⟨#[67,104,101,99,107]⟩:Bs),.int .i64 c,Value.iface et ev] 93 (0,0))::F1))))
theorem types_refused.vc{a:Int}{et:TypeId}{ev:Value}{I:Imm}{F:Heap}{Q:PostQ}  (h:types_refused.V .pointer a et ev I F Q):Tri P 65 #[.int .i64 a,Value.iface et ev] I F Q :=
 tw (A:=(annL [2002] [] [44] shT_y1 [] [] [1000,4003] [] [] [] [])) [44] func65 h
def types_Check.V(b:Nat→Nat×Obj)(vb vi:Int→Value)(vs:Bs→Value)(vl:OA→Nat→Nat→Value)(aj:Bs)(o:OA)(p s:Nat)(t:OA)(u v:Nat)(f:OA)(d w:Nat)(I:Imm)(F:Heap)(Q:PostQ)(Inv28:OA→Value→Int→Nat→Imm→Heap→Imm→Heap→Prop)(Inv42:OA→Int→Value→Int→Nat→Imm→Heap→Imm→Heap→Prop):Prop:=∀c:Nat,Tc1 P 64 #[.agg #[vs aj,vl o p s,vl t u v,vl f d w]] I ((b c)::·) F vi fun r I1 F1=>(It (r != 0) (Tcn P 65 (#[vi 0,Value.iface 47 (vi r)]) I1 ((b c)::·) F1 fun e2 I2 G2=>∃(r1:Value),e2=.returned r1∧G2 fun F2=>Q (.returned r1) I2 F2) (Tc1 P 66 #[.agg #[vs aj,vl o p s,vl t u v,vl f d w]] I1 ((b c)::·) F1 .pointer fun r2 I3 F3=>Tcn P 67 #[.pointer r2,.agg #[vs aj,vl o p s,vl t u v,vl f d w]] I3 ((b c)::·) F3 fun e4 I4 G4=>∃(r3:Value),e4=.returned r3∧G4 fun F4=>∃q:Bool,BinRun P .neq 44 (.tmp 23) (.const (Value.nilIface)) r3 Value.nilIface q∧(It q (Q (.returned r3) I4 F4) ((∃m:Nat,Inv28 r2 Value.nilIface 0 m I4 F4 I4 F4)∧∀(x:Value) (x1:Int) (m1:Nat) (I5:Imm) (F5:Heap),Imm.le I4 I5→Inv28 r2 x x1 m1 I4 F4 I5 F5→(Dt (x1<(d:Int)) ((0≤x1∧x1<(d:Int))∧∃ad:Addr,f=some ad∧∃(aa:Bs) (e:OA) (a g:Nat) (ab:Int),Rd I5 ((b c)::F5) (ad.add (Int.toNat x1*3)) [vs aa,vl e a g,vi ab]∧∀ak:Nat,(∃m2:Nat,Inv42 r2 x1 x 0 m2 I5 F5 I5 F5)∧∀(x2:Value) (x3:Int) (m3:Nat) (I6:Imm) (F6:Heap),Imm.le I5 I6→Inv42 r2 x1 x2 x3 m3 I5 F5 I6 F6→(Dt (x3<(a:Int)) ((0≤x3∧x3<(a:Int))∧∃al:Addr,e=some al∧∃(y ac z ae af:Int) (ag:Bs) (h:OA) (i j:Nat) (ah:Int) (k:OA) (l n:Nat) (ai:Int),Rd I6 ((b c)::(ak,Obj.cells #[vs aa,vl e a g,vi ab] 65 (0,0))::F6) (al.add (Int.toNat x3*10)) [vb y,vb ac,vb z,vi ae,vb af,vs ag,vl h i j,vi ah,vl k l n,vi ai]∧∀am:Nat,Tcn P 68 #[.pointer r2,.agg #[vb y,vb ac,vb z,vi ae,vb af,vs ag,vl h i j,vi ah,vl k l n,vi ai]] I6 ((b c)::(ak,Obj.cells #[vs aa,vl e a g,vi ab] 65 (0,0))::(am,Obj.cells #[vb y,vb ac,vb z,vi ae,vb af,vs ag,vl h i j,vi ah,vl k l n,vi ai] 84 (0,0))::·) F6 fun e5 I7 G5=>∃(r4:Value),e5=.returned r4∧G5 fun F7=>∃q1:Bool,BinRun P .neq 44 (.tmp 43) (.const (Value.nilIface)) r4 Value.nilIface q1∧(It q1 (Q (.returned r4) I7 F7) (∃m4:Nat,m4<m3∧Inv42 r2 x1 x2 (IntKind.wrap .i64 (x3+1)) m4 I5 F5 I7 F7))) (∃m5:Nat,m5<m1∧Inv28 r2 x2 (IntKind.wrap .i64 (x1+1)) m5 I4 F4 I6 F6))) (Q (.returned (Value.nilIface)) I5 F5))))))
theorem types_Check.vc{l:Bs}{a:OA}{c d:Nat}{e:OA}{f g:Nat}{i:OA}{j k:Nat}{I:Imm}{F:Heap}{Q:PostQ}(Inv28:OA→Value→Int→Nat→Imm→Heap→Imm→Heap→Prop)(Inv42:OA→Int→Value→Int→Nat→Imm→Heap→Imm→Heap→Prop)(h:types_Check.V (fun b=>(b,Obj.cells #[.string l,.slice a c d,.slice e f g,.slice i j k] 39 (0,0))) (.int .u8) (.int .i64) .string .slice l a c d e f g i j k I F Q Inv28 Inv42):Tri P 39 #[.agg #[.string l,.slice a c d,.slice e f g,.slice i j k]] I F Q :=
 tw (A:=(annL [2001,6001,9000,12000,15001] [] [64,65,66,67,68] shT_y1 [(28,⟨[(2,.any),(29,(.int .i64))],[],fun fs I0 F0 vs m I F=>match fs,vs with | [.pointer y0],[y1,.int _ y2]=>Inv28 y0 y1 y2 m I0 F0 I F | _,_=>False,[4],[]⟩),(42,⟨[(2,.any),(36,(.int .i64))],[],fun fs I0 F0 vs m I F=>match fs,vs with | [.pointer y0,.int _ y1],[y2,.int _ y3]=>Inv42 y0 y1 y2 y3 m I0 F0 I F | _,_=>False,[4,29],[]⟩)] [] [] [] [] [] [])) [64,65,66,67,68] func39 h
def types_scope_leaf.V(d:Nat→Nat×Obj)(vb:Int→Value)(c:Addr)(a n i o b:Int)(j:Bs)(f:OA)(g h:Nat)(p:Int)(I:Imm)(F:Heap)(Q:PostQ)  : Prop:=∀e:Nat,(It (a==1) (Q (.returned (.tuple #[vb i,Value.nilIface])) I F) (It (a==4) (Q (.returned (.tuple #[vb 5,Value.nilIface])) I F) (It (a==2) (∃ad:Addr,some c=some ad∧∃(m:Option Nat),Rd I ((d e)::F) (ad.add 0) [.map m]∧TriE P (Instr.lookup 161 (.map m) (.string j) true) I ((d e)::F) fun v I1 G1=>∃(r0:Int) (r1:Bool),v=.tuple #[vb r0,.bool r1]∧∃F1:Heap,List.Perm G1 ((d e)::F1)∧(It r1 (Q (.returned (.tuple #[vb r0,Value.nilIface])) I1 F1) (Tcn P 136 #[.agg #[vb a,vb n,vb i,.int .i64 o,vb b,.string j,.slice f g h,.int .i64 p],.int .i64 151] I1 ((d e)::·) F1 fun e1 I2 G2=>∃(k:Int) (l:Value),e1=.returned (.tuple #[vb k,l])∧G2 fun F2=>Q (.returned (.tuple #[vb k,l])) I2 F2))) (It (b==5) (Q (.returned (.tuple #[vb 4,Value.nilIface])) I F) (It (b==4) (Q (.returned (.tuple #[vb 2,Value.nilIface])) I F) (It (b==6) (Q (.returned (.tuple #[vb 2,Value.nilIface])) I F) (Q (.returned (.tuple #[vb 3,Value.nilIface])) I F)))))))
theorem types_scope_leaf.vc{c:Addr}{f g i j k:Int}{l:Bs}{a:OA}{d e:Nat}{m:Int}{I:Imm}{F:Heap}{Q:PostQ}  (h:types_scope_leaf.V (fun b=>(b,Obj.cells #[.int .u8 f,.int .u8 g,.int .u8 i,.int .i64 j,.int .u8 k,.string l,.slice a d e,.int .i64 m] 28 (0,0))) (.int .u8) c f g i j k l a d e m I F Q):Tri P 133 #[.pointer (some c),.agg #[.int .u8 f,.int .u8 g,.int .u8 i,.int .i64 j,.int .u8 k,.string l,.slice a d e,.int .i64 m]] I F Q :=
 tw (A:=(annL [2000,4000,6000,8000,12000,14000,15000] [] [136] shT_y1 [] [] [] [] [] [(7,[0,1,2,4,3,5,6,7,8,9,10,11])] [])) [136] func133 h
def types_scope_of.V(d u:Nat→Nat×Obj)(nV:Int→Int→Int→Int→Int→Bs→OA→Nat→Nat→Int→Value)(nO:Int→Int→Int→Int→Int→Bs→OA→Nat→Nat→Int→Obj)(vb vi:Int→Value)(c:Addr)(l k n o p:Int)(s:Bs)(f:OA)(b g:Nat)(t:Int)(I:Imm)(F:Heap)(Q:PostQ)(Inv8:OA→OA→Int→Value→Int→Nat→Imm→Heap→Imm→Heap→Prop):Prop:=∀a:Nat,∀e:Nat,(∃m:Nat,Inv8 (some ⟨a,0,none⟩) (some (⟨e,0,none⟩:Addr)) 0 Value.nilIface 0 m I ((u e)::F) I ((u e)::F))∧∀(x:Int) (x1:Value) (x2:Int) (m1:Nat) (I1:Imm) (F1:Heap),Imm.le I I1→Inv8 (some ⟨a,0,none⟩) (some (⟨e,0,none⟩:Addr)) x x1 x2 m1 I ((u e)::F) I1 F1→(Dt (x2<(b:Int)) ((0≤x2∧x2<(b:Int))∧∃ad:Addr,f=some ad∧∃(v w y z aa:Int) (ab:Bs) (h:OA) (i j:Nat) (ac:Int),Rd I1 ((d a)::F1) (ad.add (Int.toNat x2*8)) [vb v,vb w,vb y,vi z,vb aa,.string ab,.slice h i j,vi ac]∧∀aq:Nat,Tcn P 107 (#[.pointer (some c),nV v w y z aa ab h i j ac]) I1 ((d a)::(aq,nO v w y z aa ab h i j ac)::·) F1 fun e1 I2 G1=>∃(r0:Int) (r1:Value),e1=.returned (.tuple #[vb r0,r1])∧G1 fun F2=>∃q:Bool,BinRun P .neq 44 (.tmp 27) (.const (Value.nilIface)) r1 Value.nilIface q∧(It q (Q (.returned (.tuple #[vb 0,r1])) I2 F2) ((0≤x2∧x2<(3:Int))∧∃(cs:List Value) (el:Nat) (F3:Heap),List.Perm F2 ((((⟨e,0,none⟩:Addr).add (Int.toNat x2*1)).block,Obj.cells cs.toArray el (0,0))::F3)∧((⟨e,0,none⟩:Addr).add (Int.toNat x2*1)).spot=none∧((⟨e,0,none⟩:Addr).add (Int.toNat x2*1)).off+1≤cs.length∧(∃m2:Nat,m2<m1∧Inv8 (some ⟨a,0,none⟩) (some (⟨e,0,none⟩:Addr)) x x1 (IntKind.wrap .i64 (x2+1)) m2 I ((u e)::F) I2 ((((⟨e,0,none⟩:Addr).add (Int.toNat x2*1)).block,Obj.cells (splice ((⟨e,0,none⟩:Addr).add (Int.toNat x2*1)).off [vb r0] cs).toArray el (0,0))::F3))))) (It ((b:Int)==0) (Tcn P 133 (#[.pointer (some c),nV l k n o p s f b g t]) I1 ((d a)::·) F1 fun e2 I3 G2=>∃(af:Int) (ag:Value),e2=.returned (.tuple #[vb af,ag])∧G2 fun F4=>Q (.returned (.tuple #[vb af,ag])) I3 F4) (It ((b:Int)==1) ((0≤(0:Int)∧(0:Int)<(3:Int))∧∃(m3:Int),Rd I1 ((d a)::F1) ((⟨e,0,none⟩:Addr).add (Int.toNat 0*1)) [vb m3]∧Tc1 P 134 #[nV l k n o p s f b g t,vb m3] I1 ((d a)::·) F1 vb fun r I4 F5=>(It (!(r != 0)) (Tcn P 136 #[nV l k n o p s f b g t,vi 152] I4 ((d a)::·) F5 fun e4 I5 G4=>∃(ah:Int) (ai:Value),e4=.returned (.tuple #[vb ah,ai])∧G4 fun F6=>Q (.returned (.tuple #[vb ah,ai])) I5 F6) (Q (.returned (.tuple #[vb r,Value.nilIface])) I4 F5))) (It ((b:Int)==2) ((0≤(0:Int)∧(0:Int)<(3:Int))∧∃(m4:Int),Rd I1 ((d a)::F1) ((⟨e,0,none⟩:Addr).add (Int.toNat 0*1)) [vb m4]∧((0≤(1:Int)∧(1:Int)<(3:Int))∧∃(m5:Int),Rd I1 ((d a)::F1) ((⟨e,0,none⟩:Addr).add (Int.toNat 1*1)) [vb m5]∧Tcn P 135 #[vb k,vb m4,vb m5] I1 ((d a)::·) F1 fun e5 I6 G5=>∃(aj:Int) (ae:Bool),e5=.returned (.tuple #[vb aj,.bool ae])∧G5 fun F7=>(It (!ae) (Tcn P 136 #[nV l k n o p s f b g t,vi 152] I6 ((d a)::·) F7 fun e6 I7 G6=>∃(ak:Int) (al:Value),e6=.returned (.tuple #[vb ak,al])∧G6 fun F8=>Q (.returned (.tuple #[vb ak,al])) I7 F8) (Q (.returned (.tuple #[vb aj,Value.nilIface])) I6 F7)))) ((0≤(1:Int)∧(1:Int)<(3:Int))∧∃(m6:Int),Rd I1 ((d a)::F1) ((⟨e,0,none⟩:Addr).add (Int.toNat 1*1)) [vb m6]∧((0≤(0:Int)∧(0:Int)<(3:Int))∧∃(m7:Int),Rd I1 ((d a)::F1) ((⟨e,0,none⟩:Addr).add (Int.toNat 0*1)) [vb m7]∧(It (m7==5) ((0≤(1:Int)∧(1:Int)<(3:Int))∧∃(m8:Int),Rd I1 ((d a)::F1) ((⟨e,0,none⟩:Addr).add (Int.toNat 1*1)) [vb m8]∧((0≤(2:Int)∧(2:Int)<(3:Int))∧∃(m9:Int),Rd I1 ((d a)::F1) ((⟨e,0,none⟩:Addr).add (Int.toNat 2*1)) [vb m9]∧(It (!(m8==m9)) (Tcn P 136 #[nV l k n o p s f b g t,vi 152] I1 ((d a)::·) F1 fun e7 I8 G7=>∃(am:Int) (an:Value),e7=.returned (.tuple #[vb am,an])∧G7 fun F9=>Q (.returned (.tuple #[vb am,an])) I8 F9) (Q (.returned (.tuple #[vb m6,Value.nilIface])) I1 F1)))) (It true (Tcn P 136 #[nV l k n o p s f b g t,vi 152] I1 ((d a)::·) F1 fun e8 I9 G8=>∃(ao:Int) (ap:Value),e8=.returned (.tuple #[vb ao,ap])∧G8 fun F10=>Q (.returned (.tuple #[vb ao,ap])) I9 F10) (Q (.returned (.tuple #[vb m6,Value.nilIface])) I1 F1)))))))))
theorem types_scope_of.vc{c:Addr}{i j p r u:Int}{v:Bs}{d:OA}{e g:Nat}{w:Int}{I:Imm}{F:Heap}{Q:PostQ}(Inv8:OA→OA→Int→Value→Int→Nat→Imm→Heap→Imm→Heap→Prop)(h:types_scope_of.V (fun b=>(b,Obj.cells #[.int .u8 i,.int .u8 j,.int .u8 p,.int .i64 r,.int .u8 u,.string v,.slice d e g,.int .i64 w] 28 (0,0))) (fun b=>(b,Obj.cells #[.int .u8 0,.int .u8 0,.int .u8 0] 204 (0,0))) (fun k o t n f s a l c q=>.agg #[.int .u8 k,.int .u8 o,.int .u8 t,.int .i64 n,.int .u8 f,.string s,.slice a l c,.int .i64 q]) (fun k o t n f s a l c q=>.cells #[.int .u8 k,.int .u8 o,.int .u8 t,.int .i64 n,.int .u8 f,.string s,.slice a l c,.int .i64 q] 28 (0,0)) (.int .u8) (.int .i64) c i j p r u v d e g w I F Q Inv8):Tri P 107 #[.pointer (some c),.agg #[.int .u8 i,.int .u8 j,.int .u8 p,.int .i64 r,.int .u8 u,.string v,.slice d e g,.int .i64 w]] I F Q :=
 tw (A:=(annL [3000,6001,13004,14000,16000,19000,21001] [] [107,133,134,135,136] shT_y1 [(8,⟨[(4,(.int .u8)),(5,.any),(16,(.int .i64))],[],fun fs I0 F0 vs m I F=>match fs,vs with | [.pointer y0,.pointer y1],[.int _ y2,y3,.int _ y4]=>Inv8 y0 y1 y2 y3 y4 m I0 F0 I F | _,_=>False,[3,6],[]⟩)] [] [1000] [] [] [] [])) [107,133,134,135,136] func107 h
def types_scope_must.V(a:Nat→Nat×Obj)(vb vi:Int→Value)(c:Addr)(i j k l m:Int)(n:Bs)(e:OA)(f g:Nat)(h d:Int)(I:Imm)(F:Heap)(Q:PostQ)  : Prop:=∀b:Nat,Tcn P 107 (#[.pointer (some c),.agg #[vb i,vb j,vb k,vi l,vb m,.string n,.slice e f g,vi h]]) I ((a b)::·) F fun e1 I1 G1=>∃(r0:Int) (r1:Value),e1=.returned (.tuple #[vb r0,r1])∧G1 fun F1=>∃q:Bool,BinRun P .neq 44 (.tmp 16) (.const (Value.nilIface)) r1 Value.nilIface q∧(It q (Tcn P 65 #[vi 0,r1] I1 ((a b)::·) F1 fun e2 I2 G2=>∃(r:Value),e2=.returned r∧G2 fun F2=>Q (.returned r) I2 F2) (It (r0 != d) (Tcn P 65 (#[vi h,Value.iface 47 (vi 152)]) I1 ((a b)::·) F1 fun e3 I3 G3=>∃(r2:Value),e3=.returned r2∧G3 fun F3=>Q (.returned r2) I3 F3) (Q (.returned (Value.nilIface)) I1 F1)))
theorem types_scope_must.vc{c:Addr}{f g i j k:Int}{l:Bs}{a:OA}{d e:Nat}{m n:Int}{I:Imm}{F:Heap}{Q:PostQ}  (h:types_scope_must.V (fun b=>(b,Obj.cells #[.int .u8 f,.int .u8 g,.int .u8 i,.int .i64 j,.int .u8 k,.string l,.slice a d e,.int .i64 m] 28 (0,0))) (.int .u8) (.int .i64) c f g i j k l a d e m n I F Q):Tri P 108 #[.pointer (some c),.agg #[.int .u8 f,.int .u8 g,.int .u8 i,.int .i64 j,.int .u8 k,.string l,.slice a d e,.int .i64 m],.int .u8 n] I F Q :=
 tw (A:=(an [2001,4002] [65,107] shT_y1)) [65,107] func108 h
def types_scope_declared.V(ka:Nat→Bs→Int→Int→Int→Int→Int→Int→Bs→OA→Nat→Nat→Int→Int→Nat×Obj)(kb:Nat→Bs→OA→Nat→Nat→Int→Nat×Obj)(kc:Nat→Bs→Int→Nat×Obj)(a:Nat→Nat×Obj)(vb vi:Int→Value)(vs:Bs→Value)(vl:OA→Nat→Nat→Value)(wr:Int→Int)(c:Addr)(aB:Bs)(aj:OA)(af ay:Nat)(ak:OA)(ag az:Nat)(al:OA)(ah aA:Nat)(I:Imm)(F:Heap)(Q:PostQ)(Inv8:Option Nat→Value→Int→Nat→Imm→Heap→Imm→Heap→Prop)(Inv43:Value→Int→Nat→Imm→Heap→Imm→Heap→Prop)(Inv68:Value→Int→Nat→Imm→Heap→Imm→Heap→Prop):Prop:=∀b:Nat,TriE P (Instr.makeMap 162 none) I ((a b)::F) fun v I1 G1=>∃(r:Option Nat),v=.map r∧∃F1:Heap,List.Perm G1 ((a b)::F1)∧(∃m:Nat,Inv8 r Value.nilIface 0 m I1 F1 I1 F1)∧∀(x:Value) (x1:Int) (m1:Nat) (I2:Imm) (F2:Heap),Imm.le I1 I2→Inv8 r x x1 m1 I1 F1 I2 F2→(Dt (x1<(af:Int)) ((0≤x1∧x1<(af:Int))∧∃ad:Addr,aj=some ad∧∃(p:Bs) (q s t u w y:Int) (z:Bs) (d:OA) (e f:Nat) (aa g:Int),Rd I2 ((a b)::F2) (ad.add (Int.toNat x1*11)) [vs p,vb q,vb s,vb t,vb u,vi w,vb y,vs z,vl d e f,vi aa,vi g]∧∀ac:Nat,TriE P (Instr.lookup 162 (.map r) (vs p) false) I2 ((a b)::(ka ac p q s t u w y z d e f aa g)::F2) fun v1 I3 G2=>∃(r1:Int),v1=vi r1∧∃F3:Heap,List.Perm G2 ((a b)::(ka ac p q s t u w y z d e f aa g)::F3)∧TriU P (Instr.mapUpdate 162 (.map r) (vs p) (vi (wr (r1+1)))) I3 ((a b)::(ka ac p q s t u w y z d e f aa g)::F3) fun I4 G3=>∃F4:Heap,List.Perm G3 ((a b)::(ka ac p q s t u w y z d e f aa g)::F4)∧TriE P (Instr.lookup 162 (.map r) (vs p) false) I4 ((a b)::(ka ac p q s t u w y z d e f aa g)::F4) fun v2 I5 G4=>∃(r2:Int),v2=vi r2∧∃F5:Heap,List.Perm G4 ((a b)::(ka ac p q s t u w y z d e f aa g)::F5)∧(Dt (r2>1) (Tcn P 65 (#[vi g,Value.iface 47 (vi 150)]) I5 ((a b)::(ka ac p q s t u w y z d e f aa g)::·) F5 fun e1 I6 G5=>∃(r3:Value),e1=.returned r3∧G5 fun F6=>Q (.returned r3) I6 F6) (Tcn P 107 (#[.pointer (some c),.agg #[vb s,vb t,vb u,vi w,vb y,vs z,vl d e f,vi aa]]) I5 ((a b)::(ka ac p q s t u w y z d e f aa g)::·) F5 fun e2 I7 G6=>∃(r0:Int) (ax:Value),e2=.returned (.tuple #[vb r0,ax])∧G6 fun F7=>(It (r0 != q) (Tcn P 65 (#[vi g,Value.iface 47 (vi 152)]) I7 ((a b)::(ka ac p q s t u w y z d e f aa g)::·) F7 fun e3 I8 G7=>∃(r4:Value),e3=.returned r4∧G7 fun F8=>Q (.returned r4) I8 F8) (∃m2:Nat,m2<m1∧Inv8 r x (wr (x1+1)) m2 I1 F1 I7 F7))))) ((∃m3:Nat,Inv43 x 0 m3 I2 F2 I2 F2)∧∀(x2:Value) (x3:Int) (m4:Nat) (I9:Imm) (F9:Heap),Imm.le I2 I9→Inv43 x2 x3 m4 I2 F2 I9 F9→(Dt (x3<(ag:Int)) ((0≤x3∧x3<(ag:Int))∧∃ao:Addr,ak=some ao∧∃(h:Bs) (n:Int),Rd I9 ((a b)::F9) (ao.add (Int.toNat x3*2)) [vs h,vi n]∧∀ae:Nat,∃ap:Addr,some c=some ap∧∃(m5:Option Nat),Rd I9 ((a b)::(kc ae h n)::F9) (ap.add 1) [.map m5]∧TriE P (Instr.lookup 162 (.map m5) (vs h) false) I9 ((a b)::(kc ae h n)::F9) fun v3 I10 G8=>∃(r5:Int),v3=vi r5∧∃F10:Heap,List.Perm G8 ((a b)::(kc ae h n)::F10)∧TriU P (Instr.mapUpdate 162 (.map m5) (vs h) (vi (wr (r5+1)))) I10 ((a b)::(kc ae h n)::F10) fun I11 G9=>∃F11:Heap,List.Perm G9 ((a b)::(kc ae h n)::F11)∧∃aq:Addr,some c=some aq∧∃(m6:Option Nat),Rd I11 ((a b)::(kc ae h n)::F11) (aq.add 1) [.map m6]∧TriE P (Instr.lookup 162 (.map m6) (vs h) false) I11 ((a b)::(kc ae h n)::F11) fun v4 I12 G10=>∃(r6:Int),v4=vi r6∧∃F12:Heap,List.Perm G10 ((a b)::(kc ae h n)::F12)∧(Dt (r6>1) (Tcn P 65 (#[vi n,Value.iface 47 (vi 150)]) I12 ((a b)::(kc ae h n)::·) F12 fun e4 I13 G11=>∃(r7:Value),e4=.returned r7∧G11 fun F13=>Q (.returned r7) I13 F13) (∃m7:Nat,m7<m4∧Inv43 x2 (wr (x3+1)) m7 I2 F2 I12 F12))) ((∃m8:Nat,Inv68 x2 0 m8 I9 F9 I9 F9)∧∀(x4:Value) (x5:Int) (m9:Nat) (I14:Imm) (F14:Heap),Imm.le I9 I14→Inv68 x4 x5 m9 I9 F9 I14 F14→(Dt (x5<(ah:Int)) ((0≤x5∧x5<(ah:Int))∧∃ar:Addr,al=some ar∧∃(i:Bs) (j:OA) (k l:Nat) (o:Int),Rd I14 ((a b)::F14) (ar.add (Int.toNat x5*3)) [vs i,vl j k l,vi o]∧∀ab:Nat,∃au:Addr,some c=some au∧∃(ai:Option Nat),Rd I14 ((a b)::(kb ab i j k l o)::F14) (au.add 2) [.map ai]∧TriE P (Instr.lookup 162 (.map ai) (vs i) false) I14 ((a b)::(kb ab i j k l o)::F14) fun v5 I15 G12=>∃(r8:Int),v5=vi r8∧∃F15:Heap,List.Perm G12 ((a b)::(kb ab i j k l o)::F15)∧TriU P (Instr.mapUpdate 162 (.map ai) (vs i) (vi (wr (r8+1)))) I15 ((a b)::(kb ab i j k l o)::F15) fun I16 G13=>∃F16:Heap,List.Perm G13 ((a b)::(kb ab i j k l o)::F16)∧∃av:Addr,some c=some av∧∃(am:Option Nat),Rd I16 ((a b)::(kb ab i j k l o)::F16) (av.add 2) [.map am]∧TriE P (Instr.lookup 162 (.map am) (vs i) false) I16 ((a b)::(kb ab i j k l o)::F16) fun v6 I17 G14=>∃(r9:Int),v6=vi r9∧∃F17:Heap,List.Perm G14 ((a b)::(kb ab i j k l o)::F17)∧(Dt (r9>1) (Tcn P 65 (#[vi o,Value.iface 47 (vi 150)]) I17 ((a b)::(kb ab i j k l o)::·) F17 fun e5 I18 G15=>∃(an:Value),e5=.returned an∧G15 fun F18=>Q (.returned an) I18 F18) (∃aw:Nat,aw<m9∧Inv68 x4 (wr (x5+1)) aw I9 F9 I17 F17))) (Q (.returned (Value.nilIface)) I14 F14))))))
theorem types_scope_declared.vc{c:Addr}{w:Bs}{n:OA}{o p:Nat}{q:OA}{r s:Nat}{t:OA}{u v:Nat}{I:Imm}{F:Heap}{Q:PostQ}(Inv8:Option Nat→Value→Int→Nat→Imm→Heap→Imm→Heap→Prop)(Inv43:Value→Int→Nat→Imm→Heap→Imm→Heap→Prop)(Inv68:Value→Int→Nat→Imm→Heap→Imm→Heap→Prop)(h:types_scope_declared.V (fun W a b c d e f g h i j k l m=>(W,Obj.cells #[.string a,.int .u8 b,.int .u8 c,.int .u8 d,.int .u8 e,.int .i64 f,.int .u8 g,.string h,.slice i j k,.int .i64 l,.int .i64 m] 77 (0,0))) (fun W a b c d e=>(W,Obj.cells #[.string a,.slice b c d,.int .i64 e] 65 (0,0))) (fun W a b=>(W,Obj.cells #[.string a,.int .i64 b] 79 (0,0))) (fun b=>(b,Obj.cells #[.string w,.slice n o p,.slice q r s,.slice t u v] 39 (0,0))) (.int .u8) (.int .i64) .string .slice (IntKind.wrap .i64) c w n o p q r s t u v I F Q Inv8 Inv43 Inv68):Tri P 67 #[.pointer (some c),.agg #[.string w,.slice n o p,.slice q r s,.slice t u v]] I F Q :=
 tw (A:=(annL [3000,6004,9003,13000,16007,20000,23007] [] [65,107] shT_y1 [(8,⟨[(4,.any),(18,(.int .i64))],[],fun fs I0 F0 vs m I F=>match fs,vs with | [.map y0],[y1,.int _ y2]=>Inv8 y0 y1 y2 m I0 F0 I F | _,_=>False,[5],[]⟩),(43,⟨[(4,.any),(55,(.int .i64))],[],fun fs I0 F0 vs m I F=>match fs,vs with | [],[y0,.int _ y1]=>Inv43 y0 y1 m I0 F0 I F | _,_=>False,[],[]⟩),(68,⟨[(4,.any),(83,(.int .i64))],[],fun fs I0 F0 vs m I F=>match fs,vs with | [],[y0,.int _ y1]=>Inv68 y0 y1 m I0 F0 I F | _,_=>False,[],[]⟩)] [] [] [] [] [(15,[0,1,2,4,3,5,6,7,8]),(16,[0,1,2,4,3,5,6,7]),(22,[0,1,2,4,3,5,6,7,8]),(23,[0,1,2,4,3,5,6,7])] [])) [65,107] func67 h
def types_scope_do.V(a:Nat→Nat×Obj)(vb vi:Int→Value)(vs:Bs→Value)(vl:OA→Nat→Nat→Value)(c:Addr)(h aS:Int)(p:Bs)(a9 ba bb bc bd:Int)(be:Bs)(aO:OA)(aP aQ:Nat)(a0 aj ak al am an:Int)(ao:Bs)(s:OA)(t u:Nat)(ap aq ar au av aw:Int)(ax:Bs)(w:OA)(y z:Nat)(ay a1 a2 a3 a4 a5:Int)(a6:Bs)(az:OA)(aA aB:Nat)(a7 a8:Int)(I:Imm)(F:Heap)(Q:PostQ)(Inv9:Int→Bool→OA→Nat→Nat→Imm→Heap→Imm→Heap→Prop)(Inv18:OA→Nat→Nat→Imm→Heap→Imm→Heap→Prop)(Inv64:OA→Nat→Nat→Value→Int→Nat→Imm→Heap→Imm→Heap→Prop):Prop:=∀d:Nat,((It (h==1) (∀(b:Nat) (I1:Imm),Imm.le I I1→I1 b=some (Obj.cells #[vb a9,vb ba,vb bb,vi bc,vb bd,vs be,vl aO aP aQ,vi a0,vb 6,vb aj,vb ak,vb al,vi am,vb an,vs ao,vl s t u,vi ap,vb 2] 210 (0,0))→TriE P (Builtin.append_ #[208,208] 208 #[vl none 0 0,vl (some ⟨b,0,none⟩) 2 2]) I1 ((a d)::F) fun v I2 G1=>∃(aC:OA) (aD aE:Nat),v=vl aC aD aE∧∃F1:Heap,List.Perm G1 ((a d)::F1)∧((It (aS != 2) (∀(b1:Nat) (I3:Imm),Imm.le I2 I3→I3 b1=some (Obj.cells #[vb aq,vb ar,vb au,vi av,vb aw,vs ax,vl w y z,vi ay,vb 3] 210 (0,0))→TriE P (Builtin.append_ #[208,208] 208 #[vl aC aD aE,vl (some ⟨b1,0,none⟩) 1 1]) I3 ((a d)::F1) fun v1 I4 G2=>∃(aF:OA) (aG aH:Nat),v1=vl aF aG aH∧∃F2:Heap,List.Perm G2 ((a d)::F2)∧Inv18 aF aG aH I2 F1 I4 F2) (Inv18 aC aD aE I2 F1 I2 F1)))∧∀(i:OA) (j k:Nat) (I5:Imm) (F3:Heap),Imm.le I2 I5→Inv18 i j k I2 F1 I5 F3→(It (p.toList==(⟨#[]⟩:Bs).toList) (Inv9 5 true i j k I F I5 F3) (∃ad:Addr,some c=some ad∧∃(m:Option Nat),Rd I5 ((a d)::F3) (ad.add 1) [.map m]∧TriE P (Instr.lookup 162 (.map m) (vs p) false) I5 ((a d)::F3) fun v2 I6 G3=>∃(r:Int),v2=vi r∧∃F4:Heap,List.Perm G3 ((a d)::F4)∧Inv9 5 (decide (r>0)) i j k I F I6 F4))) (It (h==2) (∀(b2:Nat) (I7:Imm),Imm.le I I7→I7 b2=some (Obj.cells #[vb aj,vb ak,vb al,vi am,vb an,vs ao,vl s t u,vi ap,vb 2,vb aq,vb ar,vb au,vi av,vb aw,vs ax,vl w y z,vi ay,vb 3] 210 (0,0))→TriE P (Builtin.append_ #[208,208] 208 #[vl none 0 0,vl (some ⟨b2,0,none⟩) 2 2]) I7 ((a d)::F) fun v3 I8 G4=>∃(aI:OA) (aJ aK:Nat),v3=vl aI aJ aK∧∃F5:Heap,List.Perm G4 ((a d)::F5)∧∃aU:Addr,some c=some aU∧∃(m1:Option Nat),Rd I8 ((a d)::F5) (aU.add 1) [.map m1]∧TriE P (Instr.lookup 162 (.map m1) (vs p) false) I8 ((a d)::F5) fun v4 I9 G5=>∃(r1:Int),v4=vi r1∧∃F6:Heap,List.Perm G5 ((a d)::F6)∧Inv9 5 (decide (r1>0)) aI aJ aK I F I9 F6) (It (h==3) (∃aV:Addr,some c=some aV∧∃(m2:Option Nat),Rd I ((a d)::F) (aV.add 1) [.map m2]∧TriE P (Instr.lookup 162 (.map m2) (vs p) false) I ((a d)::F) fun v5 I10 G6=>∃(r2:Int),v5=vi r2∧∃F7:Heap,List.Perm G6 ((a d)::F7)∧Inv9 5 (decide (r2>0)) none 0 0 I F I10 F7) (It (h==4) (∃aW:Addr,some c=some aW∧∃(m3:Option Nat),Rd I ((a d)::F) (aW.add 0) [.map m3]∧TriE P (Instr.lookup 161 (.map m3) (vs p) true) I ((a d)::F) fun v6 I11 G7=>∃(r0:Int) (aT:Bool),v6=.tuple #[vb r0,.bool aT]∧∃F8:Heap,List.Perm G7 ((a d)::F8)∧∀(b3:Nat) (I12:Imm),Imm.le I11 I12→I12 b3=some (Obj.cells #[vb a1,vb a2,vb a3,vi a4,vb a5,vs a6,vl az aA aB,vi a7,vb r0] 210 (0,0))→TriE P (Builtin.append_ #[208,208] 208 #[vl none 0 0,vl (some ⟨b3,0,none⟩) 1 1]) I12 ((a d)::F8) fun v7 I13 G8=>∃(aL:OA) (aM aN:Nat),v7=vl aL aM aN∧∃F9:Heap,List.Perm G8 ((a d)::F9)∧Inv9 r0 aT aL aM aN I F I13 F9) (It (h==5) (∃aX:Addr,some c=some aX∧∃(m4:Option Nat),Rd I ((a d)::F) (aX.add 2) [.map m4]∧TriE P (Instr.lookup 162 (.map m4) (vs p) false) I ((a d)::F) fun v8 I14 G9=>∃(r3:Int),v8=vi r3∧∃F10:Heap,List.Perm G9 ((a d)::F10)∧Inv9 5 (decide (r3>0)) none 0 0 I F I14 F10) (Inv9 5 true none 0 0 I F I F)))))))∧∀(aR:Int) (is:Bool) (f:OA) (e g:Nat) (I15:Imm) (F11:Heap),Imm.le I I15→Inv9 aR is f e g I F I15 F11→(It (!is) (Tcn P 65 (#[vi a8,Value.iface 47 (vi 151)]) I15 ((a d)::·) F11 fun e1 I16 G10=>∃(r4:Value),e1=.returned r4∧G10 fun F12=>Q (.returned r4) I16 F12) ((∃m5:Nat,Inv64 f e g Value.nilIface 0 m5 I15 F11 I15 F11)∧∀(x:Value) (x1:Int) (m6:Nat) (I17:Imm) (F13:Heap),Imm.le I15 I17→Inv64 f e g x x1 m6 I15 F11 I17 F13→(Dt (x1<(e:Int)) ((0≤x1∧x1<(e:Int))∧∃aY:Addr,f=some aY∧∃(aa ab ac ae af:Int) (ag:Bs) (l:OA) (n o:Nat) (ah ai:Int),Rd I17 ((a d)::F13) (aY.add (Int.toNat x1*9)) [vb aa,vb ab,vb ac,vi ae,vb af,vs ag,vl l n o,vi ah,vb ai]∧∀aZ:Nat,Tcn P 108 (#[.pointer (some c),.agg #[vb aa,vb ab,vb ac,vi ae,vb af,vs ag,vl l n o,vi ah],vb ai]) I17 ((a d)::(aZ,Obj.cells #[vb aa,vb ab,vb ac,vi ae,vb af,vs ag,vl l n o,vi ah,vb ai] 210 (0,0))::·) F13 fun e2 I18 G11=>∃(r5:Value),e2=.returned r5∧G11 fun F14=>∃q:Bool,BinRun P .neq 44 (.tmp 120) (.const (Value.nilIface)) r5 Value.nilIface q∧(It q (Q (.returned r5) I18 F14) (∃m7:Nat,m7<m6∧Inv64 f e g x (IntKind.wrap .i64 (x1+1)) m7 I15 F11 I18 F14))) (Q (.returned (Value.nilIface)) I17 F13))))
theorem types_scope_do.vc{c:Addr}{an ao:Int}{ap:Bs}{aq ar au av aw:Int}{ax:Bs}{n:OA}{o p:Nat}{q r s t u v:Int}{w:Bs}{a:OA}{d e:Nat}{x y z aa ab ac:Int}{ad:Bs}{f:OA}{g i:Nat}{ae af ag ah ai aj:Int}{ak:Bs}{j:OA}{k l:Nat}{al am:Int}{I:Imm}{F:Heap}{Q:PostQ}(Inv9:Int→Bool→OA→Nat→Nat→Imm→Heap→Imm→Heap→Prop)(Inv18:OA→Nat→Nat→Imm→Heap→Imm→Heap→Prop)(Inv64:OA→Nat→Nat→Value→Int→Nat→Imm→Heap→Imm→Heap→Prop)(h:types_scope_do.V (fun b=>(b,Obj.cells #[.int .u8 an,.int .u8 ao,.string ap,.int .u8 aq,.int .u8 ar,.int .u8 au,.int .i64 av,.int .u8 aw,.string ax,.slice n o p,.int .i64 q,.int .u8 r,.int .u8 s,.int .u8 t,.int .i64 u,.int .u8 v,.string w,.slice a d e,.int .i64 x,.int .u8 y,.int .u8 z,.int .u8 aa,.int .i64 ab,.int .u8 ac,.string ad,.slice f g i,.int .i64 ae,.int .u8 af,.int .u8 ag,.int .u8 ah,.int .i64 ai,.int .u8 aj,.string ak,.slice j k l,.int .i64 al,.int .i64 am] 99 (0,0))) (.int .u8) (.int .i64) .string .slice c an ao ap aq ar au av aw ax n o p q r s t u v w a d e x y z aa ab ac ad f g i ae af ag ah ai aj ak j k l al am I F Q Inv9 Inv18 Inv64):Tri P 109 #[.pointer (some c),.agg #[.int .u8 an,.int .u8 ao,.string ap,.int .u8 aq,.int .u8 ar,.int .u8 au,.int .i64 av,.int .u8 aw,.string ax,.slice n o p,.int .i64 q,.int .u8 r,.int .u8 s,.int .u8 t,.int .i64 u,.int .u8 v,.string w,.slice a d e,.int .i64 x,.int .u8 y,.int .u8 z,.int .u8 aa,.int .i64 ab,.int .u8 ac,.string ad,.slice f g i,.int .i64 ae,.int .u8 af,.int .u8 ag,.int .u8 ah,.int .i64 ai,.int .u8 aj,.string ak,.slice j k l,.int .i64 al,.int .i64 am]] I F Q :=
 tw (A:=(annL [4000,6002,8002,10000,13000,15000,18000,20001,23000,26001] [] [65,108] shT_y1 [(9,⟨[(5,(.int .u8)),(6,.bool),(7,.slc)],[],fun fs I0 F0 vs m I F=>match fs,vs with | [],[.int _ y0,.bool y1,.slice y2 y3 y4]=>Inv9 y0 y1 y2 y3 y4 I0 F0 I F | _,_=>False,[],[]⟩),(18,⟨[(7,.slc)],[],fun fs I0 F0 vs m I F=>match fs,vs with | [],[.slice y0 y1 y2]=>Inv18 y0 y1 y2 I0 F0 I F | _,_=>False,[],[]⟩),(64,⟨[(4,.any),(110,(.int .i64))],[],fun fs I0 F0 vs m I F=>match fs,vs with | [.slice y0 y1 y2],[y3,.int _ y4]=>Inv64 y0 y1 y2 y3 y4 m I0 F0 I F | _,_=>False,[7],[]⟩)] [5007,7004,11007,17005] [] [] [] [(9,[0,1,2,4,3,5,6,7,8]),(12,[0,1,2,4,3,5,6,7,8]),(14,[0,1,2,4,3,5,6,7,8]),(16,[0,1,2,4,3,5,6,7,8,9,10,11]),(19,[0,1,2,4,3,5,6,7,8])] [])) [65,108] func109 h
def types_scope_rule.V(ka:Nat→Int→Int→Bs→Int→Int→Int→Int→Int→Bs→OA→Nat→Nat→Int→Int→Int→Int→Int→Int→Bs→OA→Nat→Nat→Int→Int→Int→Int→Int→Int→Bs→OA→Nat→Nat→Int→Int→Int→Int→Int→Int→Bs→OA→Nat→Nat→Int→Int→Nat×Obj)(ap:Nat→Nat×Obj)(vb vi:Int→Value)(vs:Bs→Value)(vl:OA→Nat→Nat→Value)(wr:Int→Int)(c:Addr)(aJ aK aL aM aN:Int)(aO:Bs)(aF:OA)(aG aH:Nat)(aP:Int)(aE:OA)(aC aQ:Nat)(aR:Int)(I:Imm)(F:Heap)(Q:PostQ)(Inv16:Value→Int→Nat→Imm→Heap→Prop):Prop:=∀aB:Nat,Tcn P 108 (#[.pointer (some c),.agg #[vb aJ,vb aK,vb aL,vi aM,vb aN,vs aO,vl aF aG aH,vi aP],vb 5]) I ((ap aB)::·) F fun e1 I1 G1=>∃(r:Value),e1=.returned r∧G1 fun F1=>∃q:Bool,BinRun P .neq 44 (.tmp 13) (.const (Value.nilIface)) r Value.nilIface q∧(It q (Q (.returned r) I1 F1) ((∃m:Nat,Inv16 Value.nilIface 0 m I1 F1)∧∀(x:Value) (x1:Int) (m1:Nat) (I2:Imm) (F2:Heap),Imm.le I1 I2→Inv16 x x1 m1 I2 F2→(Dt (x1<(aC:Int)) ((0≤x1∧x1<(aC:Int))∧∃ad:Addr,aE=some ad∧∃(aq ar:Int) (au:Bs) (av aw ax ay az:Int) (aA:Bs) (k:OA) (l n:Nat) (p s t u v w:Int) (y:Bs) (a:OA) (b d:Nat) (z aa ab ac ae af:Int) (ag:Bs) (e:OA) (f g:Nat) (ah ai aj ak al am:Int) (an:Bs) (h:OA) (i j:Nat) (ao o:Int),Rd I2 ((ap aB)::F2) (ad.add (Int.toNat x1*36)) [vb aq,vb ar,vs au,vb av,vb aw,vb ax,vi ay,vb az,vs aA,vl k l n,vi p,vb s,vb t,vb u,vi v,vb w,vs y,vl a b d,vi z,vb aa,vb ab,vb ac,vi ae,vb af,vs ag,vl e f g,vi ah,vb ai,vb aj,vb ak,vi al,vb am,vs an,vl h i j,vi ao,vi o]∧∀aD:Nat,(Dt (x1>0) ((0≤(wr (x1-1))∧(wr (x1-1))<(aC:Int))∧∃aI:Addr,aE=some aI∧∃(m2:Int),Rd I2 ((ap aB)::(ka aD aq ar au av aw ax ay az aA k l n p s t u v w y a b d z aa ab ac ae af ag e f g ah ai aj ak al am an h i j ao o)::F2) ((aI.add (Int.toNat (wr (x1-1))*36)).add 0) [vb m2]∧(Dt (m2≥5) (Tcn P 65 (#[vi o,Value.iface 47 (vi 153)]) I2 ((ap aB)::(ka aD aq ar au av aw ax ay az aA k l n p s t u v w y a b d z aa ab ac ae af ag e f g ah ai aj ak al am an h i j ao o)::·) F2 fun e2 I3 G2=>∃(r1:Value),e2=.returned r1∧G2 fun F3=>Q (.returned r1) I3 F3) (Tcn P 109 (#[.pointer (some c),.agg #[vb aq,vb ar,vs au,vb av,vb aw,vb ax,vi ay,vb az,vs aA,vl k l n,vi p,vb s,vb t,vb u,vi v,vb w,vs y,vl a b d,vi z,vb aa,vb ab,vb ac,vi ae,vb af,vs ag,vl e f g,vi ah,vb ai,vb aj,vb ak,vi al,vb am,vs an,vl h i j,vi ao,vi o]]) I2 ((ap aB)::(ka aD aq ar au av aw ax ay az aA k l n p s t u v w y a b d z aa ab ac ae af ag e f g ah ai aj ak al am an h i j ao o)::·) F2 fun e3 I4 G3=>∃(r2:Value),e3=.returned r2∧G3 fun F4=>∃q1:Bool,BinRun P .neq 44 (.tmp 43) (.const (Value.nilIface)) r2 Value.nilIface q1∧(It q1 (Q (.returned r2) I4 F4) (∃m3:Nat,m3<m1∧Inv16 x (wr (x1+1)) m3 I4 F4))))) (Tcn P 109 (#[.pointer (some c),.agg #[vb aq,vb ar,vs au,vb av,vb aw,vb ax,vi ay,vb az,vs aA,vl k l n,vi p,vb s,vb t,vb u,vi v,vb w,vs y,vl a b d,vi z,vb aa,vb ab,vb ac,vi ae,vb af,vs ag,vl e f g,vi ah,vb ai,vb aj,vb ak,vi al,vb am,vs an,vl h i j,vi ao,vi o]]) I2 ((ap aB)::(ka aD aq ar au av aw ax ay az aA k l n p s t u v w y a b d z aa ab ac ae af ag e f g ah ai aj ak al am an h i j ao o)::·) F2 fun e4 I5 G4=>∃(r3:Value),e4=.returned r3∧G4 fun F5=>∃q2:Bool,BinRun P .neq 44 (.tmp 43) (.const (Value.nilIface)) r3 Value.nilIface q2∧(It q2 (Q (.returned r3) I5 F5) (∃m4:Nat,m4<m1∧Inv16 x (wr (x1+1)) m4 I5 F5))))) (Q (.returned (Value.nilIface)) I2 F2))))
theorem types_scope_rule.vc{c:Addr}{aA aB aC aD aE:Int}{aF:Bs}{au:OA}{av aw:Nat}{aG:Int}{ax:OA}{ay az:Nat}{aH:Int}{I:Imm}{F:Heap}{Q:PostQ}(Inv16:Value→Int→Nat→Imm→Heap→Prop)(h:types_scope_rule.V (fun W a b c d e f g h i j k l m n o p q r s t u v w x y z aa ab ac ad ae af ag ah ai aj ak al am an ao ap aq ar=>(W,Obj.cells #[.int .u8 a,.int .u8 b,.string c,.int .u8 d,.int .u8 e,.int .u8 f,.int .i64 g,.int .u8 h,.string i,.slice j k l,.int .i64 m,.int .u8 n,.int .u8 o,.int .u8 p,.int .i64 q,.int .u8 r,.string s,.slice t u v,.int .i64 w,.int .u8 x,.int .u8 y,.int .u8 z,.int .i64 aa,.int .u8 ab,.string ac,.slice ad ae af,.int .i64 ag,.int .u8 ah,.int .u8 ai,.int .u8 aj,.int .i64 ak,.int .u8 al,.string am,.slice an ao ap,.int .i64 aq,.int .i64 ar] 99 (0,0))) (fun b=>(b,Obj.cells #[.int .u8 aA,.int .u8 aB,.int .u8 aC,.int .i64 aD,.int .u8 aE,.string aF,.slice au av aw,.int .i64 aG,.slice ax ay az,.int .i64 aH] 84 (0,0))) (.int .u8) (.int .i64) .string .slice (IntKind.wrap .i64) c aA aB aC aD aE aF au av aw aG ax ay az aH I F Q Inv16):Tri P 68 #[.pointer (some c),.agg #[.int .u8 aA,.int .u8 aB,.int .u8 aC,.int .i64 aD,.int .u8 aE,.string aF,.slice au av aw,.int .i64 aG,.slice ax ay az,.int .i64 aH]] I F Q :=
 tw (A:=(annL [2001,5000,7001,7010,10001] [] [65,108,109] shT_y1 [(16,⟨[(4,.any),(19,(.int .i64))],[],fun _ _ _ vs m I F=>match vs with | [y0,.int _ y1]=>Inv16 y0 y1 m I F | _=>False,[],[]⟩)] [] [] [] [] [] [])) [65,108,109] func68 h
end Go.Lx
namespace Go.Vc
def RetV(R:Value→Imm→Prop)(F:Heap)(e:Ending)(I:Imm)(G:Heap):Prop:=∃v,e=.returned v∧R v I∧G=F
theorem Sat.still:∀(H:Heap) {I:Imm} {F:Heap} {w:World},Sat I (H++F) w→∃J,Imm.le I J∧(∀x∈H,J x.1=some x.2)∧Sat J F w
 | [],I,F,w,h=>⟨I,Imm.le_refl I,fun x hx=>absurd hx (by simp),h⟩
 | (b,o)::H,I,F,w,h=>by
   obtain⟨h1,h2⟩:=Sat.promote (b:=b) (o:=o) h
   obtain⟨J,g1,g2,g3⟩:=Sat.still H h2
   refine⟨J,Imm.le_trans h1 g1,fun x hx=>?_,g3⟩
   rcases List.mem_cons.1 hx with rfl | hx
   ·exact g1.at (by simp[Imm.put])
   ·exact g2 x hx
section
variable {P:Program} {f:FuncId} {args:Array Value} {I:Imm} {F:Heap} {R:Value→Imm→Prop}
theorem Tri.still(h:Tri P f args I F fun e I' G=>∃v H,e=.returned v∧G.Perm (H++F)∧∀J,Imm.le I' J→(∀x∈H,J x.1=some x.2)→R v J):Tri P f args I F (RetV R F) :=
 h.keep fun e I' G w hl hs ⟨v,H,he,hp,hk⟩=>by
  obtain⟨J,g1,g2,g3⟩:=Sat.still H (hs.perm hp)
  exact⟨J,F,g1,g3,v,he,hk J g1 g2,rfl⟩
theorem Tri.retV{Q:Ending→Imm→Heap→Prop}(h:Tri P f args I F (RetV R F))(k:∀v I',Imm.le I I'→R v I'→Q (.returned v) I' F):Tri P f args I F Q :=
 h.mono fun e I' G hl ⟨v,he,hr,hG⟩=>by subst he hG;exact k v I' hl hr
end
def ifaceT(P:Program)(t:TypeId):Bool:=match P.underlying t with
 | some (.interface _)=>true
 | _=>false
theorem ifaceT_at{P:Program}{t:TypeId}(h:ifaceT P t=true):∃ms,P.underlying t=some (.interface ms):=by
 unfold ifaceT at h
 split at h
 ·rename_i ht;exact⟨_,ht⟩
 ·cases h
theorem nil_nil{P:Program}{t:TypeId}(h:ifaceT P t=true){x:Operand}:BinRun P .neq t x (.const .nilIface) .nilIface .nilIface false:=by
 obtain⟨ms,ht⟩:=ifaceT_at h
 intro w
 have he:(Op.equal t .nilIface .nilIface).run P w=.ok true w:=by
  show (Op.equalIn (9999+1) t .nilIface .nilIface).run P w=_
  unfold Op.equalIn
  simp[Sem.run_bind,underlying_run ht]
 simp[eqGuard,binOp,Sem.run_bind,he]
theorem some_nil{P:Program}{t:TypeId}(h:ifaceT P t=true){x:Operand}{d:TypeId}{v:Value}:BinRun P .neq t x (.const .nilIface) (.iface d v) .nilIface true:=by
 obtain⟨ms,ht⟩:=ifaceT_at h
 intro w
 have he:(Op.equal t (.iface d v) .nilIface).run P w=.ok false w:=by
  show (Op.equalIn (9999+1) t (.iface d v) .nilIface).run P w=_
  unfold Op.equalIn
  simp[Sem.run_bind,underlying_run ht]
 simp[eqGuard,binOp,Sem.run_bind,he]
theorem nil_nil'{P:Program}{t:TypeId}(h:ifaceT P t=true){x:Operand}:BinRun P .eql t x (.const .nilIface) .nilIface .nilIface true:=by
 obtain⟨ms,ht⟩:=ifaceT_at h
 intro w
 have he:(Op.equal t .nilIface .nilIface).run P w=.ok true w:=by
  show (Op.equalIn (9999+1) t .nilIface .nilIface).run P w=_
  unfold Op.equalIn
  simp[Sem.run_bind,underlying_run ht]
 simp[eqGuard,binOp,Sem.run_bind,he]
theorem some_nil'{P:Program}{t:TypeId}(h:ifaceT P t=true){x:Operand}{d:TypeId}{v:Value}:BinRun P .eql t x (.const .nilIface) (.iface d v) .nilIface false:=by
 obtain⟨ms,ht⟩:=ifaceT_at h
 intro w
 have he:(Op.equal t (.iface d v) .nilIface).run P w=.ok false w:=by
  show (Op.equalIn (9999+1) t (.iface d v) .nilIface).run P w=_
  unfold Op.equalIn
  simp[Sem.run_bind,underlying_run ht]
 simp[eqGuard,binOp,Sem.run_bind,he]
end Go.Vc
namespace Go.Lx
open Go.Vc
def callOf:ByteArray:=⟨#[79,102]⟩
def callCheck:ByteArray:=⟨#[67,104,101,99,107]⟩
abbrev errno(e:Int):Value:=.iface 47 (.int .i64 e)
def Flr(I:Imm)(call:ByteArray)(pos:Int)(err v:Value):Prop:=∃b,v=.iface 89 (.pointer (some ⟨b,0,none⟩))∧I b=some (.cells #[.string call,.int .i64 pos,err] 93 (0,0))
theorem Flr.mono{I J:Imm}{call:ByteArray}{pos:Int}{err v:Value}(h:Flr I call pos err v)(hl:Imm.le I J):Flr J call pos err v:=let ⟨b,h1,h2⟩:=h;⟨b,h1,hl.at h2⟩
def OfE(I:Imm)(f:TF)(w:Value):Prop:=(f.e=0→w=.nilIface)∧(f.e≠0→Flr I callOf f.pos (errno f.e) w)
theorem OfE.mono{I J:Imm}{f:TF}{w:Value}(h:OfE I f w)(hl:Imm.le I J):OfE J f w:=⟨h.1,fun he=>(h.2 he).mono hl⟩
theorem OfE.ok{I:Imm}:OfE I zTF .nilIface:=⟨fun _=>rfl,fun h=>absurd rfl h⟩
def OfV(r:Int×TF)(v:Value)(I:Imm):Prop:=∃w,v=.tuple #[.int .u8 r.1,w]∧OfE I r.2 w
theorem OfE.neq{I:Imm}{f:TF}{w:Value}(h:OfE I f w){t:TypeId}(ht:ifaceT P t=true){x:Operand}:BinRun P .neq t x (.const .nilIface) w .nilIface (f.e != 0):=by
 by_cases he:f.e=0
 ·rw[h.1 he,he];exact nil_nil ht
 ·obtain⟨b,hw,_⟩:=h.2 he
  rw[hw,show (f.e != 0)=true by simpa using he];exact some_nil ht
theorem tnum_spec(t:Int)(I:Imm)(F:Heap):Tri P 151 #[.int .u8 t] I F (Ret (.bool (numT t)) F):=by
 refine types_number.vc ⟨fun h=>⟨?_,rfl⟩,fun h=>⟨?_,rfl⟩⟩<;>simp[numT] at h ⊢<;>omega
theorem twrong_spec(t:Nd)(e:Int)(I:Imm)(F:Heap)(he:e≠0)(b:Bool):Tri P 136 #[t.v,.int .i64 e] I F (RetV (OfV (0,⟨e,t.pos,b⟩)) F):=by
 refine Tri.still (types_wrong.vc ?_)
 unfold types_wrong.V
 intro b_n b1
 refine⟨_,[(b1,.cells #[.string callOf,.int .i64 t.pos,errno e] 93 (0,0))],rfl,.refl _,fun J hJ hx=>⟨_,rfl,fun h=>absurd h he,fun _=>⟨b1,rfl, ?_⟩⟩⟩
 exact hx _ (List.mem_singleton.2 rfl)
def oneT(k o typ a:Int):Int:=if k=9 then (if numT a then typ else 0) else if o=2∧a=5∨o≠2∧numT a then a else 0
theorem tone_spec(t:Nd)(a:Int)(I:Imm)(F:Heap):Tri P 134 #[t.v,.int .u8 a] I F (Ret (.int .u8 (oneT t.kind t.oper t.typ a)) F):=by
 refine types_single.vc ?_
 unfold types_single.V
 unfold oneT
 intro b_n
 refine⟨fun h9=>Tri.ret (tnum_spec a I _) fun I1 l1=>⟨_,rfl,F,.refl _,fun hn=>?_,fun hn=>⟨fun _=>?_,fun h=>?_⟩⟩,fun h9=>⟨fun h=>?_,fun _=>⟨fun h2=>⟨fun h5=>?_,fun h5=>⟨fun h=>?_,fun _=>?_⟩⟩,fun h2=>⟨fun _=>Tri.ret (tnum_spec a I _) fun I1 l1=>⟨_,rfl,F,.refl _,fun hn=>?_,fun hn=>?_⟩,fun h=>?_⟩⟩⟩⟩
 ·have h9:t.kind=9:=by simpa using h9
  rw[if_pos h9,if_pos hn];exact⟨rfl,rfl⟩
 ·have h9:t.kind=9:=by simpa using h9
  rw[if_pos h9,if_neg (by rw[hn];exact Bool.false_ne_true)];exact⟨rfl,rfl⟩
 ·rw[h9] at h;cases h
 ·rw[h9] at h;cases h
 ·have h9:t.kind≠9:=by simpa using h9
  have h2:t.oper=2:=by simpa using h2
  have h5:a=5:=by simpa using h5
  rw[if_neg h9,if_pos (.inl ⟨h2,h5⟩)];exact⟨rfl,rfl⟩
 ·have h2:t.oper=2:=by simpa using h2
  simp[h2] at h
 ·have h9:t.kind≠9:=by simpa using h9
  have h2:t.oper=2:=by simpa using h2
  have h5:a≠5:=by simpa using h5
  rw[if_neg h9,if_neg (by omega)];exact⟨rfl,rfl⟩
 ·have h9:t.kind≠9:=by simpa using h9
  have h2:t.oper≠2:=by simpa using h2
  rw[if_neg h9,if_pos (.inr ⟨h2,hn⟩)];exact⟨rfl,rfl⟩
 ·have h9:t.kind≠9:=by simpa using h9
  have h2:t.oper≠2:=by simpa using h2
  rw[if_neg h9,if_neg (by rw[hn];intro h;rcases h with h | h;exact h2 h.1;exact Bool.false_ne_true h.2)];exact⟨rfl,rfl⟩
 ·simp at h2 h;exact absurd h h2
def TwoV(o a b:Int)(v:Value)(_:Imm):Prop:=∃t,v=.tuple #[.int .u8 t,.bool (twoT o a b).2]∧((twoT o a b).2=true→t=(twoT o a b).1)
theorem two_fin{o a b t:Int}{r:Bool}{I:Imm}{F:Heap}(h1:r=(twoT o a b).2)(h2:r=true→t=(twoT o a b).1):RetV (TwoV o a b) F (.returned (.tuple #[.int .u8 t,.bool r])) I F :=
 ⟨_,rfl,⟨t,by rw[h1],h1▸h2⟩,rfl⟩
theorem num_bool{a:Int}:numT a=true↔1≤a∧a≤4:=by unfold numT;rw[decide_eq_true_eq]
theorem num_not{a:Int}:numT a=false↔¬(1≤a∧a≤4):=by unfold numT;rw[decide_eq_false_iff_not]
theorem wrap_five{a b:Int}(ha:numT a=true)(hb:numT b=true):IntKind.wrap .u8 (a+b)=a+b:=by
 have:=num_bool.1 ha;have:=num_bool.1 hb
 unfold IntKind.wrap;simp[IntKind.bits,IntKind.signed];omega
theorem tdbl_spec(o a b:Int)(ho:4≤o∧o≤18)(I:Imm)(F:Heap):Tri P 135 #[.int .u8 o,.int .u8 a,.int .u8 b] I F (RetV (TwoV o a b) F):=by
 refine types_double.vc ?_
 unfold types_double.V
 have e8:o=8→twoT o a b=(prodT a b,prodT a b != 0):=fun h=>by subst h;unfold twoT;rw[if_neg (by omega),if_pos rfl]
 have e9:o=9→twoT o a b=(quoT a b,quoT a b != 0):=fun h=>by subst h;unfold twoT;rw[if_neg (by omega),if_neg (by omega),if_pos rfl]
 have eq_:o=11∨o=12→twoT o a b=(5,a==b):=fun h=>by unfold twoT;rw[if_neg (by omega),if_neg (by omega),if_neg (by omega),if_pos h]
 have ea:o=17∨o=18→twoT o a b=(5,a==b&&a==5):=fun h=>by unfold twoT;rw[if_neg (by omega),if_neg (by omega),if_neg (by omega),if_neg (by omega),if_pos h]
 have el:o=13∨o=14∨o=15∨o=16→twoT o a b=(5,a==b&&numT a):=fun h=>by unfold twoT;rw[if_neg (by omega),if_neg (by omega),if_neg (by omega),if_neg (by omega),if_neg (by omega)]
 have es:o=4∨o=5∨o=6∨o=7∨o=10→twoT o a b=(a,a==b&&numT a):=fun h=>by unfold twoT;rw[if_pos (by omega)]
 have hless:∀{q:Int},(o==q)=true→o=q:=fun h=>by simpa using h
 have hnot:∀{q:Int},(o==q)=false→o≠q:=fun h=>by simpa using h
 have lt:o=13∨o=14∨o=15∨o=16→((a==b)=true→Tri P 151 #[.int .u8 a] I F fun e7 I7 G7=>∃r:Bool,e7=.returned (.bool r)∧∃F7:Heap,G7.Perm F7∧RetV (TwoV o a b) F (.returned (.tuple #[.int .u8 5,.bool r])) I7 F7)∧((a==b)=false→RetV (TwoV o a b) F (.returned (.tuple #[.int .u8 5,.bool false])) I F):=fun h =>
  ⟨fun hab=>Tri.ret (tnum_spec a I _) fun I1 l1=>⟨_,rfl,F,.refl _,two_fin (by rw[el h,hab,Bool.true_and]) fun _=>by rw[el h]⟩,fun hab=>two_fin (by rw[el h,hab,Bool.false_and]) fun h=>by cases h⟩
 have an:o=17∨o=18→((a==b)=true→RetV (TwoV o a b) F (.returned (.tuple #[.int .u8 a,.bool (a==5)])) I F)∧((a==b)=false→RetV (TwoV o a b) F (.returned (.tuple #[.int .u8 a,.bool false])) I F):=fun h =>
  ⟨fun hab=>two_fin (by rw[ea h,hab,Bool.true_and]) fun h5=>by rw[ea h];simpa using h5,fun hab=>two_fin (by rw[ea h,hab,Bool.false_and]) fun h=>by cases h⟩
 refine⟨fun h8=>?_,fun h8=>⟨fun h9=>?_,fun h9=>⟨fun h=>two_fin (by rw[eq_ (.inl (hless h))]) fun _=>by rw[eq_ (.inl (hless h))],fun h11=>⟨fun h=>two_fin (by rw[eq_ (.inr (hless h))]) fun _=>by rw[eq_ (.inr (hless h))],fun h12=>⟨fun h=>an (.inl (hless h)),fun h17=>⟨fun h=>an (.inr (hless h)),fun h18=>⟨fun h=>lt (.inl (hless h)),fun h13=>⟨fun h=>lt (.inr (.inl (hless h))),fun h14=>⟨fun h=>lt (.inr (.inr (.inl (hless h)))),fun h15=>⟨fun h=>lt (.inr (.inr (.inr (hless h)))),fun h16=>?_⟩⟩⟩⟩⟩⟩⟩⟩⟩⟩
 ·have e:=e8 (hless h8)
  refine⟨fun h1=>Tri.ret (tnum_spec b I _) fun I1 l1=>⟨_,rfl,F,.refl _, ?_⟩,fun h1=>⟨fun h2=>Tri.ret (tnum_spec a I _) fun I1 l1=>⟨_,rfl,F,.refl _, ?_⟩,fun h2=>⟨fun h3=>⟨fun h4=>Tri.ret (tnum_spec a I _) fun I1 l1=>⟨_,rfl,F,.refl _,fun h5=>Tri.ret (tnum_spec b I1 _) fun I2 l2=>⟨_,rfl,F,.refl _, ?_⟩,fun h5=>?_⟩,fun h4=>?_⟩,fun h3=>?_⟩⟩⟩
  ·have h1:a=1:=by simpa using h1
   subst h1
   cases hb:numT b
   ·have:=num_not.1 hb
    exact two_fin (by rw[e];unfold prodT;simp[hb];omega) fun h=>by cases h
   ·have:=num_bool.1 hb
    exact two_fin (by rw[e];unfold prodT;simp[hb];omega) fun _=>by rw[e];unfold prodT;simp[hb]
  ·have h1:a≠1:=by simpa using h1
   have h2:b=1:=by simpa using h2
   subst h2
   cases hb:numT a
   ·have:=num_not.1 hb
    exact two_fin (by rw[e];unfold prodT;simp[hb,h1]) fun h=>by cases h
   ·have:=num_bool.1 hb
    exact two_fin (by rw[e];unfold prodT;simp[hb,h1];omega) fun _=>by rw[e];unfold prodT;simp[hb,h1]
  ·have h1:a≠1:=by simpa using h1
   have h2:b≠1:=by simpa using h2
   have h3:a≠b:=by simpa using h3
   have h4:IntKind.wrap .u8 (a+b)=5:=by simpa using h4
   have ha:=num_bool.1 h5
   cases hb:numT b
   ·have:=num_not.1 hb
    have hz:prodT a b=0:=by unfold prodT;rw[if_neg (fun h=>h1 h.1),if_neg (fun h=>h2 h.1),if_neg (by omega)]
    exact two_fin (by rw[e,hz];rfl) fun h=>by cases h
   ·have:=num_bool.1 hb
    rw[wrap_five h5 hb] at h4
    have hz:prodT a b=1:=by unfold prodT;rw[if_neg (fun h=>h1 h.1),if_neg (fun h=>h2 h.1),if_pos (by omega)]
    exact two_fin (by rw[e,hz];rfl) fun _=>by rw[e,hz]
  ·have h1:a≠1:=by simpa using h1
   have h2:b≠1:=by simpa using h2
   have:=num_not.1 h5
   have hz:prodT a b=0:=by unfold prodT;rw[if_neg (fun h=>h1 h.1),if_neg (fun h=>h2 h.1),if_neg (by omega)]
   exact two_fin (by rw[e,hz];rfl) fun h=>by cases h
  ·have h1:a≠1:=by simpa using h1
   have h2:b≠1:=by simpa using h2
   have hz:prodT a b=0:=by
    unfold prodT;rw[if_neg (fun h=>h1 h.1),if_neg (fun h=>h2 h.1),if_neg]
    intro h
    rcases h with ⟨rfl,rfl⟩ | ⟨rfl,rfl⟩<;>exact absurd h4 (by decide)
   exact two_fin (by rw[e,hz];rfl) fun h=>by cases h
  ·have h1:a≠1:=by simpa using h1
   have h2:b≠1:=by simpa using h2
   have h3:a=b:=by simpa using h3
   have hz:prodT a b=0:=by unfold prodT;rw[if_neg (fun h=>h1 h.1),if_neg (fun h=>h2 h.1),if_neg (by omega)]
   exact two_fin (by rw[e,hz];rfl) fun h=>by cases h
 ·have e:=e9 (hless h9)
  refine⟨fun h1=>Tri.ret (tnum_spec a I _) fun I1 l1=>⟨_,rfl,F,.refl _, ?_⟩,fun h1=>⟨fun h2=>Tri.ret (tnum_spec a I _) fun I1 l1=>⟨_,rfl,F,.refl _, ?_⟩,fun h2=>?_⟩⟩
  ·have h1:b=1:=by simpa using h1
   subst h1
   cases ha:numT a
   ·exact two_fin (by rw[e];unfold quoT;simp[ha]) fun h=>by cases h
   ·have:=num_bool.1 ha
    exact two_fin (by rw[e];unfold quoT;simp[ha];omega) fun _=>by rw[e];unfold quoT;simp[ha]
  ·have h1:b≠1:=by simpa using h1
   have h2:a=b:=by simpa using h2
   subst h2
   cases ha:numT a
   ·exact two_fin (by rw[e];unfold quoT;simp[ha]) fun h=>by cases h
   ·exact two_fin (by rw[e];unfold quoT;simp[ha,h1]) fun _=>by rw[e];unfold quoT;simp[ha,h1]
  ·have h1:b≠1:=by simpa using h1
   have h2:a≠b:=by simpa using h2
   exact two_fin (by rw[e];unfold quoT;simp[h1,h2]) fun h=>by cases h
 ·have e:=es (by have:=hnot h8;have:=hnot h9;have:=hnot h11;have:=hnot h12;have:=hnot h17;have:=hnot h18;have:=hnot h13;have:=hnot h14;have:=hnot h15;have:=hnot h16;omega)
  exact⟨fun hab=>Tri.ret (tnum_spec a I _) fun I1 l1=>⟨_,rfl,F,.refl _,two_fin (by rw[e,hab,Bool.true_and]) fun _=>by rw[e]⟩,fun hab=>two_fin (by rw[e,hab,Bool.false_and]) fun h=>by cases h⟩
end Go.Lx
namespace Go.Lx
open Go.Vc
def firstG:List RegP→ByteArray→Option Int
 | [],_=>none
 | r::l,k=>if k=r.name then some r.typ else firstG l k
theorem bytes_eq{a b:ByteArray}:(a.toList==b.toList)=true↔a=b:=by
 rw[beq_iff_eq]
 exact⟨ba_eq,fun h=>by rw[h]⟩
theorem firstG_ix(k:ByteArray):∀(l:List RegP) (i:Int),0≤i→firstG l k=if ixF k (l.map RegP.name) i<0 then none else ((l[(ixF k (l.map RegP.name) i-i).toNat]?).map RegP.typ)
 | [],i,hi=>by rw[firstG,List.map_nil,ixF,if_pos (by omega)]
 | r::l,i,hi=>by
   rw[firstG,List.map_cons,ixF]
   by_cases h:k=r.name
   ·rw[if_pos h,if_pos (bytes_eq.2 h.symm),if_neg (by omega)];simp
   ·rw[if_neg h,if_neg (fun h'=>h (bytes_eq.1 h').symm),firstG_ix k l (i+1) (by omega)]
    by_cases hn:ixF k (l.map RegP.name) (i+1)<0
    ·rw[if_pos hn,if_pos hn]
    ·rw[if_neg hn,if_neg hn]
     have hge:∀(l:List ByteArray) (j:Int),¬ixF k l j<0→j≤ixF k l j:=by
      intro l
      induction l with
      | nil=>intro j h;rw[ixF] at h;exact absurd (by decide) h
      | cons x r ih =>
        intro j h
        rw[ixF] at h ⊢
        split
        ·exact Int.le_refl _
        ·rename_i hx;rw[if_neg hx] at h;have:=ih (j+1) h;omega
     have:=hge _ _ hn
     rw[show (ixF k (l.map RegP.name) (i+1)-i).toNat=(ixF k (l.map RegP.name) (i+1)-(i+1)).toNat+1 by omega,List.getElem?_cons_succ]
theorem ixF_ge(k:ByteArray):∀(l:List ByteArray) (j:Int),¬ixF k l j<0→j≤ixF k l j∧ixF k l j<j+l.length
 | [],j,h=>by rw[ixF] at h;exact absurd (by decide) h
 | x::r,j,h=>by
   rw[ixF] at h ⊢
   split
   ·rw[List.length_cons];exact⟨Int.le_refl _,by omega⟩
   ·rename_i hx;rw[if_neg hx] at h;have:=ixF_ge k r (j+1) h;rw[List.length_cons];omega
theorem firstG_reg(s:StgP)(k:ByteArray):firstG s.regs k=if s.reg k<0 then none else some (s.regT (s.reg k)):=by
 rw[firstG_ix k s.regs 0 (by omega)]
 unfold StgP.regT StgP.reg
 by_cases h:ixF k (s.regs.map RegP.name) 0<0
 ·rw[if_pos h,if_pos h]
 ·rw[if_neg h,if_neg h]
  obtain⟨h1,h2⟩:=ixF_ge k _ _ h
  rw[List.length_map] at h2
  rw[Int.sub_zero]
  have hlt:(ixF k (s.regs.map RegP.name) 0).toNat<s.regs.length:=by omega
  rw[List.getElem?_eq_getElem hlt];rfl
theorem firstG_snoc(k:ByteArray)(r:RegP):∀l:List RegP,firstG (l++[r]) k=match firstG l k with
  | some t=>some t
  | none=>if k=r.name then some r.typ else none
 | []=>by rw[List.nil_append,firstG,firstG,firstG]
 | x::l=>by
   rw[List.cons_append,firstG,firstG]
   by_cases h:k=x.name
   ·rw[if_pos h,if_pos h]
   ·rw[if_neg h,if_neg h,firstG_snoc k r l]
def Scp(I:Imm)(c:Nat)(s:StgP)(m1 m2:Nat):Prop:=∃m0 es ck,I c=some (.cells #[.map (some m0),.map (some m1),.map (some m2)] 164 (0,0))∧I m0=some (.map es ck)∧MapG Value.string (Value.int .u8) (firstG s.regs) es ck
theorem Scp.mono{I J:Imm}{c:Nat}{s:StgP}{m1 m2:Nat}(h:Scp I c s m1 m2)(hl:Imm.le I J):Scp J c s m1 m2:=let ⟨m0,es,ck,h1,h2,h3⟩:=h;⟨m0,es,ck,hl.at h1,hl.at h2,h3⟩
theorem mapR:P.underlying 161=some (.map 9 24):=by kernel_rfl
theorem mapS:P.underlying 162=some (.map 9 3):=by kernel_rfl
theorem strD:P.underlying 9=some .string:=by kernel_rfl
theorem zeroR:(P.info? 24).map (·.zero)=some (some (.int .u8 0)):=by kernel_rfl
theorem zeroS:(P.info? 3).map (·.zero)=some (some (.int .i64 0)):=by kernel_rfl
theorem formed_leaf{x:Px}(h:x.formed=true)(h0:x.kids.length=0):x.kind=1∨x.kind=2∨x.kind=3∨x.kind=4:=by
 rcases Classical.em (x.kind=1) with h1 | h1
 ·exact .inl h1
 rcases Classical.em (x.kind=2) with h2 | h2
 ·exact .inr (.inl h2)
 rcases Classical.em (x.kind=3) with h3 | h3
 ·exact .inr (.inr (.inl h3))
 rcases Classical.em (x.kind=4) with h4 | h4
 ·exact .inr (.inr (.inr h4))
 rcases Classical.em (x.kind=7) with h7 | h7
 ·have:=formed_cond h h7;omega
 rcases Classical.em (x.kind=9) with h9 | h9
 ·have:=formed_conv h h9;omega
 have:=formed_rest h h1 h2 h3 h4 h7 h9
 omega
theorem formed_typ{x:Px}(h:x.formed=true)(hk:x.kind=9):x.typ≠0:=by
 have h1:=(formed_one h).1
 unfold Px.fitB at h1
 rw[if_neg (by omega),if_neg (by omega),if_neg (by omega),if_neg (by omega),if_neg (by omega),if_neg (by omega),if_neg (by omega),if_neg (by omega),if_pos hk] at h1
 have:=of_decide_eq_true h1
 omega
theorem formed_two{x:Px}(h:x.formed=true)(h2:x.kids.length=2):x.kind≠1∧x.kind≠2∧x.kind≠3∧x.kind≠4∧x.kind≠7∧x.kind≠9∧((x.kind=6∧6≤x.oper∧x.oper≤18)∨(x.kind=8∧(x.oper=4∨x.oper=5))):=by
 obtain⟨g1,g2⟩:=formed_one h
 rw[h2] at g2
 unfold Px.arity at g2
 unfold Px.fitB at g1
 split at g2
 ·omega
 ·rename_i k59
  split at g2
  ·rename_i k6
   rw[if_neg (by omega),if_neg (by omega),if_neg (by omega),if_neg (by omega),if_neg (by omega),if_pos k6] at g1
   have:=of_decide_eq_true g1
   omega
  ·split at g2
   ·omega
   ·split at g2
    ·rename_i k8
     rw[if_neg (by omega),if_neg (by omega),if_neg (by omega),if_neg (by omega),if_neg (by omega),if_neg (by omega),if_neg (by omega),if_pos k8] at g1
     have:=of_decide_eq_true g1
     split at g2<;>omega
    ·omega
theorem formed_1{x:Px}(h:x.formed=true)(h2:x.kids.length=1):x.kind≠1∧x.kind≠2∧x.kind≠3∧x.kind≠4∧x.kind≠7∧x.kind≠6:=by
 obtain⟨g1,g2⟩:=formed_one h
 rw[h2] at g2
 unfold Px.arity at g2
 split at g2
 ·omega
 ·split at g2
  ·omega
  ·split at g2
   ·omega
   ·split at g2<;>omega
theorem formed_3{x:Px}(h:x.formed=true)(h2:3≤x.kids.length):x.kind=7∧x.kids.length=3:=by
 obtain⟨g1,g2⟩:=formed_one h
 unfold Px.arity at g2
 split at g2
 ·omega
 ·split at g2
  ·omega
  ·split at g2
   ·exact⟨by assumption,g2⟩
   ·split at g2
    ·split at g2<;>omega
    ·omega
theorem leaf_spec{s:StgN}{c m1 m2:Nat}(t:Nd)(hf:t.px.formed=true)(h0:t.kids.length=0)(I:Imm)(F:Heap)(hS:Scp I c s.p m1 m2) :
  Tri P 133 #[.pointer (some ⟨c,0,none⟩),t.v] I F (RetV (OfV (nodeE s.p t.px [])) F):=by
 refine types_scope_leaf.vc ?_
 unfold types_scope_leaf.V
 have hk:t.kind=1∨t.kind=2∨t.kind=3∨t.kind=4:=by
  have:=formed_leaf hf (by rw[Nd.px_len,h0]);rwa [Nd.px_kind] at this
 have hfld:t.kind=3→1≤t.field∧t.field≤6:=fun h=>by
  have:=formed_field hf (by rw[Nd.px_kind];exact h);rwa [Nd.px_field] at this
 have ok:∀{J:Imm} {x:Int},nodeE s.p t.px []=(x,zTF)→RetV (OfV (nodeE s.p t.px [])) F (.returned (.tuple #[.int .u8 x,.nilIface])) J F:=fun e=>by rw[e];exact⟨_,rfl,⟨_,rfl,OfE.ok⟩,rfl⟩
 have eN:∀{x:Int},(t.kind=2→¬s.p.reg t.name<0)→nodeT s.p t.px []=(x,true)→nodeE s.p t.px []=(x,zTF):=fun hn e=>by
  unfold nodeE;rw[Nd.px_kind,Nd.px_name,if_neg (fun h=>hn h.1 h.2),e,if_pos rfl]
 have e1:t.kind=1→nodeE s.p t.px []=(t.typ,zTF):=fun h=>eN (fun h2=>by omega) (by
  unfold nodeT;rw[Nd.px_kind,Nd.px_typ,if_pos h])
 have e4:t.kind=4→nodeE s.p t.px []=(5,zTF):=fun h=>eN (fun h2=>by omega) (by
  unfold nodeT;rw[Nd.px_kind,if_neg (by omega),if_neg (by omega),if_neg (by omega),if_pos h])
 have e3:t.kind=3→nodeE s.p t.px []=(at0 fieldL (t.field-1).toNat,zTF):=fun h=>eN (fun h2=>by omega) (by
  unfold nodeT;rw[Nd.px_kind,Nd.px_field,if_neg (by omega),if_neg (by omega),if_pos h])
 intro b_n
 refine⟨fun h=>ok (e1 (by simpa using h)),fun h1=>⟨fun h=>ok (e4 (by simpa using h)),fun h4=>⟨fun h=>?_,fun h2=>?_⟩⟩⟩
 ·have h2:t.kind=2:=by simpa using h
  obtain⟨m0,es,ck,hc,hm,hg⟩:=hS
  refine⟨_,rfl,some m0,⟨rfl,_,_,_,.inl hc,fun j hj=>?_⟩, ?_⟩
  ·have:j=0:=by simpa using hj
   subst this;rfl
  refine TriE.mono (lookup_ok mapR strD str_key str_inj zeroR hg (.inl hm) t.name) fun v I1 G hl ⟨hv,hI,hG⟩=>?_
  subst hI hG
  rw[firstG_reg] at hv
  by_cases hr:s.p.reg t.name<0
  ·rw[if_pos hr] at hv
   refine⟨0,false,hv,F,.refl _,fun h=>(by cases h),fun _=>?_⟩
   refine Tri.retV (twrong_spec t 151 I1 _ (by decide) true) fun v1 I2 l2 ⟨w,hv1,hw⟩=>?_
   refine⟨_,_,by rw[hv1],F,.refl _,_,rfl,⟨w, ?_, ?_⟩,rfl⟩
   ·unfold nodeE;rw[Nd.px_kind,Nd.px_name,if_pos ⟨h2,hr⟩]
   ·unfold nodeE;rw[Nd.px_kind,Nd.px_name,if_pos ⟨h2,hr⟩,Nd.px_pos];exact hw
  ·rw[if_neg hr] at hv
   refine⟨s.p.regT (s.p.reg t.name),true,hv,F,.refl _,fun _=>ok ?_,fun h=>by cases h⟩
   exact eN (fun _=>hr) (by unfold nodeT;rw[Nd.px_kind,Nd.px_name,if_neg (by omega),if_pos h2])
 ·have h3:t.kind=3:=by simp at h1 h4 h2;omega
  obtain⟨f1,f2⟩:=hfld h3
  refine⟨fun h=>ok ?_,fun h5=>⟨fun h=>ok ?_,fun h4=>⟨fun h=>ok ?_,fun h6=>ok ?_⟩⟩⟩<;>rw[e3 h3]
  ·rw[show t.field=5 by simpa using h];rfl
  ·rw[show t.field=4 by simpa using h];rfl
  ·rw[show t.field=6 by simpa using h];rfl
  ·have:t.field=1∨t.field=2∨t.field=3:=by simp at h5 h4 h6;omega
   rcases this with h | h | h<;>rw[h]<;>rfl
end Go.Lx
namespace Go.Lx
open Go.Vc
def lO(ts:List Int):Obj:=.cells #[.int .u8 (at0 ts 0),.int .u8 (at0 ts 1),.int .u8 (at0 ts 2)] 204 (0,0)
theorem addr0(b n:Nat):(⟨b,0,none⟩:Addr).add n=⟨b,n,none⟩:=by unfold Addr.add;split<;>simp_all
theorem lO_rd{I:Imm}{G:Heap}{b:Nat}{ts:List Int}(h:(b,lO ts)∈G){i:Nat}(hi:i<3):Rd I G ((⟨b,0,none⟩:Addr).add i) [.int .u8 (at0 ts i)]:=by
 rw[addr0]
 refine⟨rfl,_,_,_,.inr h,fun j hj=>?_⟩
 have:j=0:=by simpa using hj
 subst this
 match i,hi with
 | 0,_=>rfl
 | 1,_=>rfl
 | 2,_=>rfl
theorem lO_put{ts:List Int}(x:Int)(h:ts.length<3):Obj.cells (splice ts.length [Value.int .u8 x] [.int .u8 (at0 ts 0),.int .u8 (at0 ts 1),.int .u8 (at0 ts 2)]).toArray 204 (0,0)=lO (ts++[x]):=by
 match ts,h with
 | [],_=>rfl
 | [a],_=>rfl
 | [a,b],_=>rfl
theorem formed_len{x:Px}(h:x.formed=true):x.kids.length≤3:=by
 rw[(formed_one h).2]
 unfold Px.arity
 repeat' split
 all_goals omega
def oneN(k o typ a:Int):Int×Bool:=if k=9 then (typ,numT a) else if o=2 then (5,a==5) else (a,numT a)
theorem oneN_T(k o typ a:Int)(ht:k=9→typ≠0):((oneN k o typ a).2=true↔oneT k o typ a≠0)∧(oneT k o typ a≠0→(oneN k o typ a).1=oneT k o typ a):=by
 have h0:numT a=true→a≠0:=fun h=>by have:=num_bool.1 h;omega
 unfold oneN oneT
 by_cases h9:k=9
 ·by_cases hn:numT a=true
  ·simp[h9,hn,ht h9]
  ·simp[h9,hn]
 ·by_cases ho:o=2
  ·by_cases h5:a=5
   ·simp[h9,ho,h5]
   ·simp[h9,ho,h5]
  ·by_cases hn:numT a=true
   ·simp[h9,ho,hn,h0 hn]
   ·simp[h9,ho,hn]
set_option maxHeartbeats 1000000 in
theorem of_spec{s:StgN}{c m1 m2:Nat}:∀(t:Nd),t.px.formed=true→∀(I:Imm) (F:Heap),Scp I c s.p m1 m2→NdOk I F t →
  Tri P 107 #[.pointer (some ⟨c,0,none⟩),t.v] I F (RetV (OfV (typed s.p t.px)) F):=by
 refine Nd.ind fun t ih hf I F hS ht=>Tri.still ?_
 have ekid:t.px.kids=t.kids.map Nd.px:=Nd.px_kids t
 have hlen:t.kids.length≤3:=by have:=formed_len hf;rwa [Nd.px_len] at this
 refine types_scope_of.vc (fun nA lA x x1 i m I0 F0 I' F'=>0≤i∧i≤t.kids.length∧m=(t.kids.length-i).toNat∧(∀k∈t.kids.take i.toNat,(typed s.p k.px).2.e=0) ∧
  ∃b,lA=some (⟨b,0,none⟩:Addr)∧F'.Perm ((b,lO ((t.kids.take i.toNat).map fun k=>(typed s.p k.px).1))::F)) ?_
 unfold types_scope_of.V
 intro b_n b_l
 refine⟨⟨_,by omega,by omega,rfl,fun k hk=>by simp at hk,b_l,rfl,.refl _⟩,fun x x1 i m I1 F1 l1 ⟨g0,g1,gm,hall,b,hb,hF1⟩=>?_⟩
 obtain rfl:b_l=b:=by simpa using hb
 have hS1:Scp I1 c s.p m1 m2:=hS.mono l1
 have hsub:∀y,y∈F→y∈F1:=fun y hy=>hF1.mem_iff.2 (List.mem_cons_of_mem _ hy)
 have ht1:NdOk I1 F1 t:=ht.mono l1 hsub
 refine⟨fun hlt=>?_,fun hlt=>?_⟩
 ·have hlt:=of_decide_eq_true hlt
  obtain⟨ad,k,had,hk,hrd,hko,hkm⟩:=ht1.kids.at g0 hlt
  have hkf:=Px.formed_kid hf k.px (by rw[ekid];exact List.mem_map_of_mem hkm)
  have hbad:(typed s.p k.px).2.e≠0→typed s.p t.px=(0,(typed s.p k.px).2):=fun he=>typed_bad (i:=i.toNat) (fun y hy=>by
   rw[ekid,←List.map_take] at hy
   obtain⟨z,hz,rfl⟩:=List.mem_map.1 hy
   exact hall z hz) (by rw[ekid,List.getElem?_map,hk];rfl) he
  refine⟨⟨g0,hlt⟩,ad,had,_,_,_,_,_,_,_,_,_,_,hrd.sub (Imm.le_refl _) (fun y hy=>.tail _ hy), ?_⟩
  intro b_k
  refine Tri.retV (ih k hkm hkf I1 _ hS1 (hko.mono (Imm.le_refl _) fun y hy=>.tail _ (.tail _ hy))) fun v I2 l2 ⟨w,hv,hw⟩=>?_
  refine⟨_,_,by rw[hv],F1,.refl _,_,hw.neq (by kernel_rfl),fun hq=>?_,fun hq=>?_⟩
  ·have he:(typed s.p k.px).2.e≠0:=by simpa using hq
   refine⟨_,[_],rfl,hF1,fun J hJ hx=>?_⟩
   rw[hbad he]
   exact⟨w,rfl,hw.mono hJ⟩
  ·have he:(typed s.p k.px).2.e=0:=by simpa using hq
   have hl3:(((t.kids.take i.toNat).map fun k=>(typed s.p k.px).1)).length=i.toNat:=by rw[List.length_map,List.length_take];omega
   refine⟨⟨g0,by omega⟩,_,_,F,by rw[addr0];exact hF1,by rw[addr0],by rw[addr0];simp only[List.length_cons,List.length_nil];omega,(t.kids.length-(i+1)).toNat,by omega, ?_⟩
   rw[w64 (n:=i+1) (by omega)]
   refine⟨by omega,by omega,rfl, ?_,b_l,rfl, ?_⟩
   ·rw[show (i+1).toNat=i.toNat+1 by omega]
    exact take_all hk hall he
   ·rw[addr0,show (i+1).toNat=i.toNat+1 by omega,map_snoc0 hk,←lO_put _ (by rw[hl3];omega),hl3,Nat.mul_one]
 ·have hlt:=of_decide_eq_false hlt
  rw[List.take_of_length_le (l:=t.kids) (i:=i.toNat) (by omega)] at hall hF1
  have hty:typed s.p t.px=nodeE s.p t.px (t.kids.map fun k=>(typed s.p k.px).1):=by
   rw[typed_ok (fun k hk=>by
    rw[ekid] at hk
    obtain⟨z,hz,rfl⟩:=List.mem_map.1 hk
    exact hall z hz),ekid,List.map_map]
   rfl
  rw[hty]
  have htl:(t.kids.map fun k=>(typed s.p k.px).1).length=t.kids.length:=List.length_map ..
  generalize (t.kids.map fun k=>(typed s.p k.px).1)=ts at hF1 htl ⊢
  have hmem:∀y:Nat×Obj,(b_l,lO ts)∈y::F1:=fun y=>.tail _ (hF1.mem_iff.2 (.head _))
  have ek:t.px.kind=t.kind:=Nd.px_kind t
  have wr:∀{J:Imm} {G:Heap},nodeE s.p t.px ts=(0,⟨152,t.pos,true⟩)→Tri P 136 #[t.v,.int .i64 152] J G (RetV (OfV (nodeE s.p t.px ts)) G):=fun e=>by
   rw[e];exact twrong_spec t 152 _ _ (by decide) true
  have fin:∀{J:Imm} {x:Int},nodeE s.p t.px ts=(x,zTF)→∃v H,Ending.returned (Value.tuple #[.int .u8 x,.nilIface])=.returned v∧F1.Perm (H++F)∧∀K,Imm.le J K→(∀z∈H,K z.1=some z.2)→OfV (nodeE s.p t.px ts) v K :=
   fun e=>⟨_,[_],rfl,hF1,fun K hJ hx=>by rw[e];exact⟨_,rfl,OfE.ok⟩⟩
  have finw:∀{J:Imm} {v:Value},OfV (nodeE s.p t.px ts) v J→∃v1 H,Ending.returned v=.returned v1∧F1.Perm (H++F)∧∀K,Imm.le J K→(∀z∈H,K z.1=some z.2)→OfV (nodeE s.p t.px ts) v1 K :=
   fun ⟨w,hv,hw⟩=>⟨_,[_],rfl,hF1,fun K hJ hx=>⟨w,hv,hw.mono hJ⟩⟩
  have eN:¬t.kind=2→nodeE s.p t.px ts=if (nodeT s.p t.px ts).2 then ((nodeT s.p t.px ts).1,zTF) else (0,⟨152,t.pos,true⟩):=fun h2=>by
   unfold nodeE;rw[ek,if_neg (fun h=>h2 h.1),Nd.px_pos]
  refine⟨fun h=>?_,fun h=>⟨fun h1=>?_,fun h1=>⟨fun h2=>?_,fun h2=>?_⟩⟩⟩
  ·have h0:t.kids.length=0:=by simpa using h
   obtain rfl:ts=[]:=List.length_eq_zero_iff.1 (by omega)
   refine Tri.retV (leaf_spec t hf h0 I1 _ hS1) fun v I3 l3 hv=>?_
   obtain⟨w,hv1,hw⟩:=id hv
   exact⟨_,_,by rw[hv1],F1,.refl _,by rw[←hv1];exact finw hv⟩
  ·have h1:t.kids.length=1:=by simp at h1;omega
   obtain⟨n1,n2,n3,n4,n7,n6⟩:=formed_1 hf (by rw[Nd.px_len,h1])
   rw[ek] at n1 n2 n3 n4 n7 n6
   have hn:nodeT s.p t.px ts=oneN t.kind t.oper t.typ (at0 ts 0):=by
    unfold nodeT oneN
    rw[ek,Nd.px_typ,Nd.px_oper,if_neg n1,if_neg n2,if_neg n3,if_neg n4,if_neg n7,if_neg (show ¬ts.length=2 by omega)]
   have hty:t.kind=9→t.typ≠0:=fun h9=>by have:=formed_typ hf (by rw[ek];exact h9);rwa [Nd.px_typ] at this
   obtain⟨ho1,ho2⟩:=oneN_T t.kind t.oper t.typ (at0 ts 0) hty
   have hE:oneT t.kind t.oper t.typ (at0 ts 0)≠0→nodeE s.p t.px ts=(oneT t.kind t.oper t.typ (at0 ts 0),zTF):=fun h=>by
    rw[eN n2,hn,if_pos (ho1.2 h),ho2 h]
   have hN:oneT t.kind t.oper t.typ (at0 ts 0)=0→nodeE s.p t.px ts=(0,⟨152,t.pos,true⟩):=fun h=>by
    rw[eN n2,hn,if_neg (fun h'=>ho1.1 h' h)]
   refine⟨⟨by omega,by omega⟩,at0 ts 0,lO_rd (i:=0) (hmem _) (by decide), ?_⟩
   refine Tri.ret (tone_spec t (at0 ts 0) I1 _) fun I3 l3=>⟨_,rfl,F1,.refl _,fun hz=>?_,fun hz=>?_⟩
   ·have hz:oneT t.kind t.oper t.typ (at0 ts 0)=0:=by simpa using hz
    refine Tri.retV (wr (hN hz)) fun v I4 l4 hv=>?_
    obtain⟨w,hv1,hw⟩:=id hv
    exact⟨_,_,by rw[hv1],F1,.refl _,by rw[←hv1];exact finw hv⟩
   ·have hz:oneT t.kind t.oper t.typ (at0 ts 0)≠0:=by simpa using hz
    exact fin (hE hz)
  ·have h2:t.kids.length=2:=by simp at h2;omega
   obtain⟨n1,n2,n3,n4,n7,n9,ho⟩:=formed_two hf (by rw[Nd.px_len,h2])
   rw[ek] at n1 n2 n3 n4 n7 n9
   have hn:nodeT s.p t.px ts=twoT t.oper (at0 ts 0) (at0 ts 1):=by
    unfold nodeT
    rw[ek,Nd.px_oper,if_neg n1,if_neg n2,if_neg n3,if_neg n4,if_neg n7,if_neg n9,if_pos (show ts.length=2 by omega)]
   rw[Nd.px_oper] at ho
   refine⟨⟨by omega,by omega⟩,at0 ts 0,lO_rd (i:=0) (hmem _) (by decide),⟨by omega,by omega⟩,at0 ts 1,lO_rd (i:=1) (hmem _) (by decide), ?_⟩
   refine Tri.retV (tdbl_spec t.oper (at0 ts 0) (at0 ts 1) (by omega) I1 _) fun v I3 l3 ⟨x,hv,hx⟩=>⟨_,_,congrArg Ending.returned hv,F1,.refl _,fun hz=>?_,fun hz=>?_⟩
   ·have hz:(twoT t.oper (at0 ts 0) (at0 ts 1)).2=false:=by simpa using hz
    have e:nodeE s.p t.px ts=(0,⟨152,t.pos,true⟩):=by rw[eN n2,hn,hz];rfl
    refine Tri.retV (wr e) fun v I4 l4 hv=>?_
    obtain⟨w,hv1,hw⟩:=id hv
    exact⟨_,_,by rw[hv1],F1,.refl _,by rw[←hv1];exact finw hv⟩
   ·have hz:(twoT t.oper (at0 ts 0) (at0 ts 1)).2=true:=by simpa using hz
    exact fin (by rw[eN n2,hn,if_pos hz,←hx hz])
  ·have h3:3≤t.px.kids.length:=by
    rw[Nd.px_len]
    have g0:t.kids.length≠0:=fun e=>by rw[e] at h;cases h
    have g1:t.kids.length≠1:=fun e=>by rw[e] at h1;cases h1
    have g2:t.kids.length≠2:=fun e=>by rw[e] at h2;cases h2
    omega
   obtain⟨k7,k3⟩:=formed_3 hf h3
   rw[Nd.px_len] at k3
   rw[ek] at k7
   have hn:nodeT s.p t.px ts=(at0 ts 1,at0 ts 0==5&&at0 ts 1==at0 ts 2):=by
    unfold nodeT
    rw[ek,if_neg (show ¬t.kind=1 by omega),if_neg (show ¬t.kind=2 by omega),if_neg (show ¬t.kind=3 by omega),if_neg (show ¬t.kind=4 by omega),if_pos k7]
   have n2:¬t.kind=2:=by omega
   refine⟨⟨by omega,by omega⟩,at0 ts 1,lO_rd (i:=1) (hmem _) (by decide),⟨by omega,by omega⟩,at0 ts 0,lO_rd (i:=0) (hmem _) (by decide),fun h5=>⟨⟨by omega,by omega⟩,at0 ts 1,lO_rd (i:=1) (hmem _) (by decide),⟨by omega,by omega⟩,at0 ts 2,lO_rd (i:=2) (hmem _) (by decide),fun hz=>?_,fun hz=>?_⟩,fun h5=>⟨fun _=>?_,fun h=>(by cases h)⟩⟩
   ·have e:nodeE s.p t.px ts=(0,⟨152,t.pos,true⟩):=by
     rw[eN n2,hn]
     have:(at0 ts 1==at0 ts 2)=false:=by simpa using hz
     rw[this,Bool.and_false];rfl
    refine Tri.retV (wr e) fun v I4 l4 hv=>?_
    obtain⟨w,hv1,hw⟩:=id hv
    exact⟨_,_,by rw[hv1],F1,.refl _,by rw[←hv1];exact finw hv⟩
   ·have h12:(at0 ts 1==at0 ts 2)=true:=by simpa using hz
    exact fin (by rw[eN n2,hn,h5,h12];rfl)
   ·have e:nodeE s.p t.px ts=(0,⟨152,t.pos,true⟩):=by
     rw[eN n2,hn,h5,Bool.false_and];rfl
    refine Tri.retV (wr e) fun v I4 l4 hv=>?_
    obtain⟨w,hv1,hw⟩:=id hv
    exact⟨_,_,by rw[hv1],F1,.refl _,by rw[←hv1];exact finw hv⟩
end Go.Lx
namespace Go.As
open Go.RowKit Go.Extern.Stop Go.Stop Go.Extern
theorem rlm(z:Sem Value)(f:TypeId→Addr→Nat→Nat→Sem Value)(v:Value) :
  ReflectliteValue.method z f #[v]=(do match ←ReflectliteValue.parts v with | none=>z | some (t,a,fl)=>f t a fl (fl % 32)):=rfl
theorem rls(v x:Value):ReflectliteValue.set #[v,x]=(do
  let (some (dst,a,fl),some (src,b,_)):=(←ReflectliteValue.parts v,←ReflectliteValue.parts x)
   | unsupported (.noEntry "extern/(internal/reflectlite.Value).Set.zeroValue")
  if fl / ReflectliteValue.flagAddr % 2==0 then unsupported (.noEntry "extern/(internal/reflectlite.Value).Set.unaddressable")
  let val ←loadVar src b
  if ←Rtype.directlyAssignable dst src then storeVar dst a val
  else if ←Rtype.implements dst src then
   if (←Rtype.kind src)==20 then
    match val with
    | .nilIface=>unsupported (.noEntry "extern/reflectlite: a nil value of one interface type handed on as a value of another")
    | _=>storeVar dst a val
   else storeVar dst a (.iface src val)
  else panicString ("reflectlite.Set: value of type " ++ (←Rtype.spelt src) ++ " is not assignable to type " ++ (←Rtype.spelt dst))
  pure (.tuple #[])):=rfl
theorem methodKind(h:Value)(w:World):(Go.method 359 171 (.agg #[h]) "Kind").run Go.Proofs.Tryz.prog w=.ok (189,h) w:=by kernel_rfl
theorem methodElem(h:Value)(w:World):(Go.method 359 171 (.agg #[h]) "Elem").run Go.Proofs.Tryz.prog w=.ok (201,.agg #[h]) w:=by kernel_rfl
theorem methodImplements(h:Value)(w:World):(Go.method 359 171 (.agg #[h]) "Implements").run Go.Proofs.Tryz.prog w=.ok (202,.agg #[h]) w:=by kernel_rfl
theorem methodAssignableTo(h:Value)(w:World):(Go.method 359 171 (.agg #[h]) "AssignableTo").run Go.Proofs.Tryz.prog w=.ok (199,.agg #[h]) w:=by kernel_rfl
theorem valueOfF(t:Addr)(w:World):(ReflectliteValue.unpack (.iface 91 (.pointer (some t)))).run Go.Proofs.Tryz.prog w=.ok (.agg #[.pointer (some ⟨1,91,none⟩),.pointer (some ⟨w.heap.size,0,none⟩),.int .u64 150]) (w.alloc (.cells #[.pointer (some t)] 91)):=by kernel_rfl
theorem typeF(a:Addr)(w:World):(ReflectliteValue.methodAny (ReflectliteValue.valueError "reflectlite.Value.Type" 0) (fun t _ _ _=>ReflectliteType.toType t) #[(.agg #[.pointer (some ⟨1,91,none⟩),.pointer (some a),.int .u64 150])]).run Go.Proofs.Tryz.prog w=.ok (.iface 171 (.agg #[.pointer (some ⟨1,91,none⟩)])) w:=by kernel_rfl
theorem kindPF(w:World):((ReflectliteType.abiMethod fun t=>(fun a:Nat=>Value.int IntKind.u8 (a:Int)) <$> Rtype.kind t) #[.pointer (some ⟨1,91,none⟩)]).run Go.Proofs.Tryz.prog w=.ok (.int .u8 22) w:=by kernel_rfl
theorem kindF(w:World):((ReflectliteType.abiMethod fun t=>(fun a:Nat=>Value.int IntKind.u8 (a:Int)) <$> Rtype.kind t) #[.pointer (some ⟨1,89,none⟩)]).run Go.Proofs.Tryz.prog w=.ok (.int .u8 22) w:=by kernel_rfl
theorem partsPF(a:Addr)(w:World):(ReflectliteValue.parts (.agg #[.pointer (some ⟨1,91,none⟩),.pointer (some a),.int .u64 150])).run Go.Proofs.Tryz.prog w=.ok (some (91,a,150)) w:=by kernel_rfl
theorem underPF:Go.Proofs.Tryz.prog.underlying 91=some (.pointer 89):=by kernel_rfl
theorem isNilF(a p:Addr)(W:World)(ha:W.cell? a=some (.pointer (some p))) :
  (ReflectliteValue.method (ReflectliteValue.valueError "reflectlite.Value.IsNil" 0) ReflectliteValue.isNil #[(.agg #[.pointer (some ⟨1,91,none⟩),.pointer (some a),.int .u64 150])]).run Go.Proofs.Tryz.prog W=.ok (.bool false) W:=by
 rw[rlm]
 simp only[Sem.run_bind,partsPF,Result.andThen]
 simp[ReflectliteValue.isNil,loadVar,isAgg,underlying,underPF,ha,Result.andThen]
theorem elemF(w:World):(ReflectliteType.method ReflectliteType.elem #[.agg #[.pointer (some ⟨1,91,none⟩)]]).run Go.Proofs.Tryz.prog w=.ok (.iface 171 (.agg #[.pointer (some ⟨1,89,none⟩)])) w:=by kernel_rfl
theorem implF(w:World):(ReflectliteType.relation "Implements" ReflectliteType.implements_ #[.agg #[.pointer (some ⟨1,89,none⟩)],.iface 171 (.agg #[.pointer (some ⟨1,44,none⟩)])]).run Go.Proofs.Tryz.prog w=.ok (.bool true) w:=by kernel_rfl
theorem typeOfF(v:Value)(w:World):(ReflectliteType.typeOf #[.iface 89 v]).run Go.Proofs.Tryz.prog w=.ok (.iface 171 (.agg #[.pointer (some ⟨1,89,none⟩)])) w:=by kernel_rfl
theorem elemOfF(w:World):(Rtype.elem? 91).run Go.Proofs.Tryz.prog w=.ok (some 89) w:=by kernel_rfl
theorem mkF(p:Addr)(w:World):(ReflectliteValue.mk 89 p ReflectliteValue.flagAddr).run Go.Proofs.Tryz.prog w=.ok (.agg #[.pointer (some ⟨1,89,none⟩),.pointer (some p),.int .u64 406]) w:=by kernel_rfl
theorem elemVF(a p:Addr)(W:World)(ha:W.cell? a=some (.pointer (some p))) :
  (ReflectliteValue.method (ReflectliteValue.valueError "reflectlite.Value.Elem" 0) ReflectliteValue.elem #[(.agg #[.pointer (some ⟨1,91,none⟩),.pointer (some a),.int .u64 150])]).run Go.Proofs.Tryz.prog W=.ok (.agg #[.pointer (some ⟨1,89,none⟩),.pointer (some p),.int .u64 406]) W:=by
 rw[rlm]
 simp only[Sem.run_bind,partsPF,Result.andThen]
 simp[ReflectliteValue.elem,loadVar,isAgg,underlying,underPF,ha,Result.andThen,elemOfF,mkF]
theorem partsFa(a:Addr)(w:World):(ReflectliteValue.parts (.agg #[.pointer (some ⟨1,89,none⟩),.pointer (some a),.int .u64 406])).run Go.Proofs.Tryz.prog w=.ok (some (89,a,406)) w:=by kernel_rfl
theorem partsF(a:Addr)(w:World):(ReflectliteValue.parts (.agg #[.pointer (some ⟨1,89,none⟩),.pointer (some a),.int .u64 150])).run Go.Proofs.Tryz.prog w=.ok (some (89,a,150)) w:=by kernel_rfl
theorem directF(w:World):(Rtype.directlyAssignable 89 89).run Go.Proofs.Tryz.prog w=.ok true w:=by kernel_rfl
theorem underF:Go.Proofs.Tryz.prog.underlying 89=some (.pointer 93):=by kernel_rfl
theorem valueF(x:Addr)(w:World):(ReflectliteValue.unpack (.iface 89 (.pointer (some x)))).run Go.Proofs.Tryz.prog w=.ok (.agg #[.pointer (some ⟨1,89,none⟩),.pointer (some ⟨w.heap.size,0,none⟩),.int .u64 150]) (w.alloc (.cells #[.pointer (some x)] 89)):=by kernel_rfl
theorem setF(ta b:Addr)(x:Addr)(old:Value)(W:World)(hb:W.cell? b=some (.pointer (some x)))(ht:W.cell? ta=some old)(hf:W.frozen? ta=false) :
  (ReflectliteValue.set #[(.agg #[.pointer (some ⟨1,89,none⟩),.pointer (some ta),.int .u64 406]),(.agg #[.pointer (some ⟨1,89,none⟩),.pointer (some b),.int .u64 150])]).run Go.Proofs.Tryz.prog W=.ok (.tuple #[]) (W.setCell ta (.pointer (some x))):=by
 rw[rls]
 simp only[Sem.run_bind,partsFa,partsF,Result.andThen]
 simp[ReflectliteValue.flagAddr,loadVar,isAgg,underlying,underF,hb,Result.andThen,directF,storeVar,Value.cells,storeCells,Addr.add]
 rw[run_store Go.Proofs.Tryz.prog W ta _ _ (by rfl)]
 simp[ht,hf]
theorem typeOfE(v:Value)(w:World):(ReflectliteType.typeOf #[.iface 47 v]).run Go.Proofs.Tryz.prog w=.ok (.iface 171 (.agg #[.pointer (some ⟨1,47,none⟩)])) w:=by kernel_rfl
theorem assignFF(w:World):(ReflectliteType.relation "AssignableTo" ReflectliteType.assignableTo #[.agg #[.pointer (some ⟨1,89,none⟩)],.iface 171 (.agg #[.pointer (some ⟨1,89,none⟩)])]).run Go.Proofs.Tryz.prog w=.ok (.bool true) w:=by kernel_rfl
theorem assignEF(w:World):(ReflectliteType.relation "AssignableTo" ReflectliteType.assignableTo #[.agg #[.pointer (some ⟨1,47,none⟩)],.iface 171 (.agg #[.pointer (some ⟨1,89,none⟩)])]).run Go.Proofs.Tryz.prog w=.ok (.bool false) w:=by kernel_rfl
theorem taAsE(v:Value)(xT:TypeId)(w:World):(Instr.typeAssert (.iface 47 v) xT 176 true).run Go.Proofs.Tryz.prog w=.ok (.tuple #[.nilIface,.bool false]) w:=run_typeAssert_lacksB Go.Proofs.Tryz.underlying176 (by kernel_rfl) (by kernel_rfl) v xT w
theorem taUnE(v:Value)(xT:TypeId)(w:World):(Instr.typeAssert (.iface 47 v) xT 179 true).run Go.Proofs.Tryz.prog w=.ok (.tuple #[.nilIface,.bool false]) w:=run_typeAssert_lacksB Go.Proofs.Tryz.underlying179 (by kernel_rfl) (by kernel_rfl) v xT w
theorem taUsE(v:Value)(xT:TypeId)(w:World):(Instr.typeAssert (.iface 47 v) xT 181 true).run Go.Proofs.Tryz.prog w=.ok (.tuple #[.nilIface,.bool false]) w:=run_typeAssert_lacksB Go.Proofs.Tryz.underlying181 (by kernel_rfl) (by kernel_rfl) v xT w
end Go.As
namespace Go.As
open Go.RowKit Go.Extern.Stop Go.Stop Go.Extern
abbrev tyF:Value:=.iface 171 (.agg #[.pointer (some ⟨1,89,none⟩)])
abbrev rvO(PT:Nat)(a:Addr):Obj:=.cells #[.pointer (some ⟨1,PT,none⟩),.pointer (some a),.int .u64 150] 120
set_option maxHeartbeats 4000000 in
theorem as_FF(e t a:Addr)(old tgt:Value)(w:World)(ha:w.cell? a=some (.pointer (some t)))(ht0:w.cell? t=some old)(hf0:w.frozen? t=false) :
  Calls Go.Proofs.Tryz.prog 72 #[.iface 89 (.pointer (some e)),tgt,.agg #[.pointer (some ⟨1,91,none⟩),.pointer (some a),.int .u64 150],tyF] w fun ev w'=>ev=.returned (.bool true) ∧
   w'=((w.alloc (rvO 91 a)).alloc (.cells #[.pointer (some e)] 89)).setCell t (.pointer (some e)):=by
 have hTO:=@run_callFunc_extern Go.Proofs.Tryz.prog 110 _ ReflectliteType.typeOf Go.Proofs.Tryz.func110 (by kernel_rfl) (by kernel_rfl) (by kernel_rfl) (by kernel_rfl)
 have hA:=@run_callFunc_extern Go.Proofs.Tryz.prog 199 _ (ReflectliteType.relation "AssignableTo" ReflectliteType.assignableTo) Go.Proofs.Tryz.func199 (by kernel_rfl) (by kernel_rfl) (by kernel_rfl) (by kernel_rfl)
 have hVE:=@run_callFunc_extern Go.Proofs.Tryz.prog 111 _ (ReflectliteValue.method (ReflectliteValue.valueError "reflectlite.Value.Elem" 0) ReflectliteValue.elem) Go.Proofs.Tryz.func111 (by kernel_rfl) (by kernel_rfl) (by kernel_rfl) (by kernel_rfl)
 have hS:=@run_callFunc_extern Go.Proofs.Tryz.prog 112 _ ReflectliteValue.set Go.Proofs.Tryz.func112 (by kernel_rfl) (by kernel_rfl) (by kernel_rfl) (by kernel_rfl)
 have hV:=@run_callFunc_extern Go.Proofs.Tryz.prog 69 _ (fun args=>ReflectliteValue.unpack (args.getD 0 (.tuple #[]))) Go.Proofs.Tryz.func69 (by kernel_rfl) (by kernel_rfl) (by kernel_rfl) (by kernel_rfl)
 have tO:=typeOfF
 have mA:=methodAssignableTo
 have aF:=assignFF
 have vF:=valueF
 have hal:a.block<w.heap.size:=by
  rcases Nat.lt_or_ge a.block w.heap.size with h | h
  ·exact h
  ·simp[World.cell?,Array.getElem?_eq_none h] at ha
 have htl:t.block<w.heap.size:=by
  rcases Nat.lt_or_ge t.block w.heap.size with h | h
  ·exact h
  ·simp[World.cell?,Array.getElem?_eq_none h] at ht0
 have el:=elemVF a t (w.alloc (rvO 91 a)) (by rw[World.cell?_alloc_lt _ _ a hal];exact ha)
 have st:=setF t ⟨w.heap.size+1,0,none⟩ e old ((w.alloc (rvO 91 a)).alloc (.cells #[.pointer (some e)] 89))
  (by rw[World.cell?_alloc_at _ _ _ _ (by simp)];rfl)
  (by rw[World.cell?_alloc_lt _ _ t (by simp;omega),World.cell?_alloc_lt _ _ t htl];exact ht0)
  (by rw[World.frozen?_alloc_old _ _ t (by simp;omega),World.frozen?_alloc_old _ _ t (Nat.ne_of_lt htl)];exact hf0)
 go_enter Go.Proofs.Tryz.func72,Go.Proofs.Tryz.ntmps72
 go_wp2
 refine wp_loop_rounds 1 ?_
 rw[rounds_succ]
 go_wp2
 go_ret
 exact⟨rfl,rfl⟩
set_option maxHeartbeats 4000000 in
theorem as_EF(n:Int)(a:Addr)(tgt:Value)(w:World) :
  Calls Go.Proofs.Tryz.prog 72 #[.iface 47 (.int .i64 n),tgt,.agg #[.pointer (some ⟨1,91,none⟩),.pointer (some a),.int .u64 150],tyF] w fun ev w'=>ev=.returned (.bool false) ∧
   w'=w.alloc (rvO 91 a):=by
 have hTO:=@run_callFunc_extern Go.Proofs.Tryz.prog 110 _ ReflectliteType.typeOf Go.Proofs.Tryz.func110 (by kernel_rfl) (by kernel_rfl) (by kernel_rfl) (by kernel_rfl)
 have hA:=@run_callFunc_extern Go.Proofs.Tryz.prog 199 _ (ReflectliteType.relation "AssignableTo" ReflectliteType.assignableTo) Go.Proofs.Tryz.func199 (by kernel_rfl) (by kernel_rfl) (by kernel_rfl) (by kernel_rfl)
 have tO:=typeOfE
 have mA:=methodAssignableTo
 have aF:=assignEF
 have t1:=taAsE
 have t2:=taUnE
 have t3:=taUsE
 go_enter Go.Proofs.Tryz.func72,Go.Proofs.Tryz.ntmps72
 go_wp2
 refine wp_loop_rounds 1 ?_
 rw[rounds_succ]
 go_wp2
 go_ret
 exact⟨rfl,rfl⟩
end Go.As
namespace Go.As
open Go.RowKit Go.Extern.Stop Go.Stop Go.Extern
abbrev errT:Value:=.iface 171 (.agg #[.pointer (some ⟨1,44,none⟩)])
set_option maxHeartbeats 4000000 in
theorem As_F(d:TypeId)(v:Value)(t:Addr)(w w2:World)(r:Bool)(hg:w.cell? ⟨0,0,none⟩=some errT)
  (h:Calls Go.Proofs.Tryz.prog 72 #[.iface d v,.iface 91 (.pointer (some t)),.agg #[.pointer (some ⟨1,91,none⟩),.pointer (some ⟨w.heap.size,0,none⟩),.int .u64 150],tyF] ((w.alloc (.cells #[.pointer (some t)] 91)).alloc (rvO 91 ⟨w.heap.size,0,none⟩)) fun ev w'=>ev=.returned (.bool r)∧w'=w2) :
  Calls Go.Proofs.Tryz.prog 44 #[.iface d v,.iface 91 (.pointer (some t))] w fun ev w'=>ev=.returned (.bool r)∧w'=w2:=by
 have hV:=@run_callFunc_extern Go.Proofs.Tryz.prog 69 _ (fun args=>ReflectliteValue.unpack (args.getD 0 (.tuple #[]))) Go.Proofs.Tryz.func69 (by kernel_rfl) (by kernel_rfl) (by kernel_rfl) (by kernel_rfl)
 have hT:=@run_callFunc_extern Go.Proofs.Tryz.prog 70 _ (ReflectliteValue.methodAny (ReflectliteValue.valueError "reflectlite.Value.Type" 0) (fun t _ _ _=>ReflectliteType.toType t)) Go.Proofs.Tryz.func70 (by kernel_rfl) (by kernel_rfl) (by kernel_rfl) (by kernel_rfl)
 have hN:=@run_callFunc_extern Go.Proofs.Tryz.prog 71 _ (ReflectliteValue.method (ReflectliteValue.valueError "reflectlite.Value.IsNil" 0) ReflectliteValue.isNil) Go.Proofs.Tryz.func71 (by kernel_rfl) (by kernel_rfl) (by kernel_rfl) (by kernel_rfl)
 have hK:=@run_callFunc_extern Go.Proofs.Tryz.prog 189 _ (ReflectliteType.abiMethod fun t=>do pure (.int .u8 (←Rtype.kind t))) Go.Proofs.Tryz.func189 (by kernel_rfl) (by kernel_rfl) (by kernel_rfl) (by kernel_rfl)
 have hE:=@run_callFunc_extern Go.Proofs.Tryz.prog 201 _ (ReflectliteType.method ReflectliteType.elem) Go.Proofs.Tryz.func201 (by kernel_rfl) (by kernel_rfl) (by kernel_rfl) (by kernel_rfl)
 have hI:=@run_callFunc_extern Go.Proofs.Tryz.prog 202 _ (ReflectliteType.relation "Implements" ReflectliteType.implements_) Go.Proofs.Tryz.func202 (by kernel_rfl) (by kernel_rfl) (by kernel_rfl) (by kernel_rfl)
 have f6:=valueOfF
 have f7:=typeF
 have mK:=methodKind
 have mE:=methodElem
 have mI:=methodImplements
 have kP:=kindPF
 have kT:=kindF
 have eT:=elemF
 have iT:=implF
 have n8:=isNilF ⟨w.heap.size,0,none⟩ t ((w.alloc (.cells #[.pointer (some t)] 91)).alloc (rvO 91 ⟨w.heap.size,0,none⟩)) (by simp)
 have hlt:0<w.heap.size:=by
  rcases Nat.eq_zero_or_pos w.heap.size with h0 | h
  ·simp[World.cell?,h0] at hg
  ·exact h
 have hg2:((w.alloc (.cells #[.pointer (some t)] 91)).alloc (rvO 91 ⟨w.heap.size,0,none⟩)).cell? ⟨0,0,none⟩=some errT:=by
  rw[World.cell?_alloc_lt _ _ ⟨0,0,none⟩ (by simp),World.cell?_alloc_lt _ _ ⟨0,0,none⟩ hlt];exact hg
 go_enter Go.Proofs.Tryz.func44,Go.Proofs.Tryz.ntmps44
 go_wp2_with (first | (go_at_call 72;refine h.mono ?_;rintro e w' ⟨rfl,rfl⟩))
 go_ret
 exact⟨rfl,rfl⟩
end Go.As
namespace Go.As
open Go.RowKit Go.Extern.Stop Go.Stop Go.Extern
open Go.Vc (Sat)
end Go.As
namespace Go.As
open Go.RowKit Go.Extern.Stop Go.Stop Go.Extern
end Go.As
