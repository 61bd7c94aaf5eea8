import Derived.Test.YtmbkaikdndflbaaGreatDoorCostStatesB5
set_option linter.unusedVariables false
set_option linter.unusedSimpArgs false
set_option linter.unusedSectionVars false
set_option maxRecDepth 100000
namespace Go.Lx
open Go.Vc Go.Proofs.Tryz
def jw:List (Nat×List Sh):=[(3,[.one (.int .i64)]),(4,[.one .bool]),(24,[.one (.int .u8)]),(28,[.agg [(.int .u8),(.int .u8),(.int .u8),(.int .i64),(.int .u8),.str,.slc,(.int .i64)]]),(44,[.one .any]),(47,[.one (.int .i64)]),(65,[.agg [.str,.slc,(.int .i64)]]),(77,[.agg [.str,(.int .u8),(.int .u8),(.int .u8),(.int .u8),(.int .i64),(.int .u8),.str,.slc,(.int .i64),(.int .i64)]]),(79,[.agg [.str,(.int .i64)]]),(84,[.agg [(.int .u8),(.int .u8),(.int .u8),(.int .i64),(.int .u8),.str,.slc,(.int .i64),.slc,(.int .i64)]]),(89,[.one .ptr]),(96,[.one (.int .u8)]),(99,[.agg [(.int .u8),(.int .u8),.str,(.int .u8),(.int .u8),(.int .u8),(.int .i64),(.int .u8),.str,.slc,(.int .i64),(.int .u8),(.int .u8),(.int .u8),(.int .i64),(.int .u8),.str,.slc,(.int .i64),(.int .u8),(.int .u8),(.int .u8),(.int .i64),(.int .u8),.str,.slc,(.int .i64),(.int .u8),(.int .u8),(.int .u8),(.int .i64),(.int .u8),.str,.slc,(.int .i64),(.int .i64)]]),(113,[.one .ptr]),(161,[.one .map]),(162,[.one .map]),(165,[.one (.int .u8),.one .bool]),(166,[.one (.int .u8),.one .any]),(208,[.one .slc]),(210,[.agg [(.int .u8),(.int .u8),(.int .u8),(.int .i64),(.int .u8),.str,.slc,(.int .i64),(.int .u8)]])]
def ov.V(t:Int)(I:cc)(F:b8)(Q:cd)  : Prop:=(Dt (1≤t) (Q (.returned (.bool (decide (t≤4)))) I F) (Q (.returned (.bool false)) I F))
theorem ov.vc{t:Int}{I:cc}{F:b8}{Q:cd}  (h:ov.V t I F Q):cf P 151 #[.int .u8 t] I F Q :=
 tw (A:=(an [1001] [] jw)) [] func151 h
def lW.V(f g h i j:Int)(k:Bs)(c:OA)(d e:Nat)(a e1:Int)(I:cc)(F:b8)(Q:cd)  : Prop:=∀l:Nat,∀b:Nat,Q (.returned (.tuple #[.int .u8 0,Value.iface 89 (.pointer (some (⟨b,0,none⟩:Addr)))])) I (((b,Obj.cells #[.string (⟨#[79,102]⟩:Bs),.int .i64 a,Value.iface 47 (.int .i64 e1)] 93 (0,0))::F))
theorem lW.vc{d e f g i:Int}{j:Bs}{a:OA}{b c:Nat}{k e1:Int}{I:cc}{F:b8}{Q:cd}  (h:lW.V d e f g i j a b c k e1 I F Q):cf P 136 #[.agg #[.int .u8 d,.int .u8 e,.int .u8 f,.int .i64 g,.int .u8 i,.string j,.slice a b c,.int .i64 k],.int .i64 e1] I F Q :=
 tw (A:=(cK [] [] [] jw [] [] [1005] [] [] [(1,[0,2,3,7,1,4,5,6,8])] [])) [] func136 h
def ky.V(c:Nat→Nat×Obj)(vb:Int→Value)(vt:Bool→Value)(e b f j k:Int)(l:Bs)(g:OA)(h i:Nat)(m a:Int)(I:cc)(F:b8)(Q:cd)  : Prop:=∀d:Nat,(It (e==9) (cy P 151 #[vb a] I ((c d)::·) F vt fun r I1 F1=>(It r (Q (.returned (vb f)) I1 F1) (It (e==9) (Q (.returned (vb 0)) I1 F1) (It (b==2) (It (a==5) (Q (.returned (vb a)) I1 F1) (It (b != 2) (cy P 151 #[vb a] I1 ((c d)::·) F1 vt fun r1 I2 F2=>(It r1 (Q (.returned (vb a)) I2 F2) (Q (.returned (vb 0)) I2 F2))) (Q (.returned (vb 0)) I1 F1))) (It (b != 2) (cy P 151 #[vb a] I1 ((c d)::·) F1 vt fun r2 I3 F3=>(It r2 (Q (.returned (vb a)) I3 F3) (Q (.returned (vb 0)) I3 F3))) (Q (.returned (vb 0)) I1 F1)))))) (It (e==9) (Q (.returned (vb 0)) I F) (It (b==2) (It (a==5) (Q (.returned (vb a)) I F) (It (b != 2) (cy P 151 #[vb a] I ((c d)::·) F vt fun r3 I4 F4=>(It r3 (Q (.returned (vb a)) I4 F4) (Q (.returned (vb 0)) I4 F4))) (Q (.returned (vb 0)) I F))) (It (b != 2) (cy P 151 #[vb a] I ((c d)::·) F vt fun r4 I5 F5=>(It r4 (Q (.returned (vb a)) I5 F5) (Q (.returned (vb 0)) I5 F5))) (Q (.returned (vb 0)) I F)))))
theorem ky.vc{f g i j k:Int}{l:Bs}{c:OA}{d e:Nat}{m a:Int}{I:cc}{F:b8}{Q:cd}  (h:ky.V (fun b=>(b,Obj.cells #[.int .u8 f,.int .u8 g,.int .u8 i,.int .i64 j,.int .u8 k,.string l,.slice c d e,.int .i64 m] 28 (0,0))) (.int .u8) .bool f g i j k l c d e m a I F Q):cf P 134 #[.agg #[.int .u8 f,.int .u8 g,.int .u8 i,.int .i64 j,.int .u8 k,.string l,.slice c d e,.int .i64 m],.int .u8 a] I F Q :=
 tw (A:=(an [1002,1005,3002,4002,4005,5002,5005] [151] jw)) [151] func134 h
def kA.V(vb:Int→Value)(vt:Bool→Value)(o a b:Int)(I:cc)(F:b8)(Q:cd)  : Prop:=(It (o==8) (It (a==1) (cy P 151 #[vb b] I (·) F vt fun r I1 F1=>Q (.returned (.tuple #[vb b,vt r])) I1 F1) (It (b==1) (cy P 151 #[vb a] I (·) F vt fun r1 I2 F2=>Q (.returned (.tuple #[vb a,vt r1])) I2 F2) (It (a != b) (It ((IntKind.wrap .u8 (a+b))==5) (cy P 151 #[vb a] I (·) F vt fun r2 I3 F3=>(It r2 (cy P 151 #[vb b] I3 (·) F3 vt fun r3 I4 F4=>Q (.returned (.tuple #[vb 1,vt r3])) I4 F4) (Q (.returned (.tuple #[vb 1,vt false])) I3 F3))) (Q (.returned (.tuple #[vb 1,vt false])) I F)) (Q (.returned (.tuple #[vb 1,vt false])) I F)))) (It (o==9) (It (b==1) (cy P 151 #[vb a] I (·) F vt fun r4 I5 F5=>Q (.returned (.tuple #[vb a,vt r4])) I5 F5) (It (a==b) (cy P 151 #[vb a] I (·) F vt fun r5 I6 F6=>Q (.returned (.tuple #[vb 1,vt r5])) I6 F6) (Q (.returned (.tuple #[vb 1,vt false])) I F))) (It (o==11) (Q (.returned (.tuple #[vb 5,vt (a==b)])) I F) (It (o==12) (Q (.returned (.tuple #[vb 5,vt (a==b)])) I F) (It (o==17) (It (a==b) (Q (.returned (.tuple #[vb a,vt (a==5)])) I F) (Q (.returned (.tuple #[vb a,vt false])) I F)) (It (o==18) (It (a==b) (Q (.returned (.tuple #[vb a,vt (a==5)])) I F) (Q (.returned (.tuple #[vb a,vt false])) I F)) (It (o==13) (It (a==b) (cy P 151 #[vb a] I (·) F vt fun r6 I7 F7=>Q (.returned (.tuple #[vb 5,vt r6])) I7 F7) (Q (.returned (.tuple #[vb 5,vt false])) I F)) (It (o==14) (It (a==b) (cy P 151 #[vb a] I (·) F vt fun r7 I8 F8=>Q (.returned (.tuple #[vb 5,vt r7])) I8 F8) (Q (.returned (.tuple #[vb 5,vt false])) I F)) (It (o==15) (It (a==b) (cy P 151 #[vb a] I (·) F vt fun r8 I9 F9=>Q (.returned (.tuple #[vb 5,vt r8])) I9 F9) (Q (.returned (.tuple #[vb 5,vt false])) I F)) (It (o==16) (It (a==b) (cy P 151 #[vb a] I (·) F vt fun r9 I10 F10=>Q (.returned (.tuple #[vb 5,vt r9])) I10 F10) (Q (.returned (.tuple #[vb 5,vt false])) I F)) (It (a==b) (cy P 151 #[vb a] I (·) F vt fun c I11 F11=>Q (.returned (.tuple #[vb a,vt c])) I11 F11) (Q (.returned (.tuple #[vb a,vt false])) I F))))))))))))
theorem kA.vc{o a b:Int}{I:cc}{F:b8}{Q:cd}  (h:kA.V (.int .u8) .bool o a b I F Q):cf P 135 #[.int .u8 o,.int .u8 a,.int .u8 b] I F Q :=
 tw (A:=(an [2000,3001,5001,7002,7007,7011,8000,9001,11002,12000,13000,15000,16000,17003,18000,19000,20000,21000,22002,23003] [151] jw)) [151] func135 h
def hY.V(ka:Nat→Bs→Int→Int→Int→Int→Int→Int→Bs→OA→Nat→Nat→Int→Int→Nat×Obj)(kb:Nat→(Option Nat)→(Option Nat)→(Option Nat)→Nat×Obj)(c:Nat→Nat×Obj)(vb vi:Int→Value)(vs:Bs→Value)(vl:OA→Nat→Nat→Value)(ai:Bs)(w:OA)(t aa:Nat)(ab:OA)(ac ae:Nat)(af:OA)(ag ah:Nat)(I:cc)(F:b8)(Q:cd)(Inv8:OA→OA→Int→Nat→cc→b8→cc→b8→Prop):Prop:=∀a:Nat,cF P (Instr.makeMap 161 none) I ((c a)::F) fun v I1 G1=>∃(r:Option Nat),v=.map r∧∃F1:b8,List.Perm G1 ((c a)::F1)∧cF P (Instr.makeMap 162 none) I1 ((c a)::F1) fun v1 I2 G2=>∃(r1:Option Nat),v1=.map r1∧∃F2:b8,List.Perm G2 ((c a)::F2)∧cF P (Instr.makeMap 162 none) I2 ((c a)::F2) fun v2 I3 G3=>∃(r2:Option Nat),v2=.map r2∧∃F3:b8,List.Perm G3 ((c a)::F3)∧∀b:Nat,(∃m:Nat,Inv8 (some ⟨a,0,none⟩) (some (⟨b,0,none⟩:Addr)) 0 m I3 ((kb b r r1 r2)::F3) I3 ((kb b r r1 r2)::F3))∧∀(x:Int) (m1:Nat) (I4:cc) (F4:b8),cc.le I3 I4→Inv8 (some ⟨a,0,none⟩) (some (⟨b,0,none⟩:Addr)) x m1 I3 ((kb b r r1 r2)::F3) I4 F4→(Dt (x<(t:Int)) ((0≤x∧x<(t:Int))∧∃ad:Addr,w=some ad∧∃(h:Bs) (i j k l n o:Int) (p:Bs) (d:OA) (e f:Nat) (q g:Int),Rd I4 ((c a)::F4) (ad.add (Int.toNat x*11)) [vs h,vb i,vb j,vb k,vb l,vi n,vb o,vs p,vl d e f,vi q,vi g]∧∀s:Nat,∃y:Addr,some (⟨b,0,none⟩:Addr)=some y∧∃(m2:Option Nat),Rd I4 ((c a)::(ka s h i j k l n o p d e f q g)::F4) (y.add 0) [.map m2]∧cF P (Instr.lookup 161 (.map m2) (vs h) true) I4 ((c a)::(ka s h i j k l n o p d e f q g)::F4) fun v3 I5 G4=>∃(r0:Int) (u:Bool),v3=.tuple #[vb r0,.bool u]∧∃F5:b8,List.Perm G4 ((c a)::(ka s h i j k l n o p d e f q g)::F5)∧(It (!u) (∃z:Addr,some (⟨b,0,none⟩:Addr)=some z∧∃(m3:Option Nat),Rd I5 ((c a)::(ka s h i j k l n o p d e f q g)::F5) (z.add 0) [.map m3]∧mu P (Instr.mapUpdate 161 (.map m3) (vs h) (vb i)) I5 ((c a)::(ka s h i j k l n o p d e f q g)::F5) fun I6 G5=>∃F6:b8,List.Perm G5 ((c a)::(ka s h i j k l n o p d e f q g)::F6)∧(∃m4:Nat,m4<m1∧Inv8 (some ⟨a,0,none⟩) (some (⟨b,0,none⟩:Addr)) (IntKind.wrap .i64 (x+1)) m4 I3 ((kb b r r1 r2)::F3) I6 F6)) (∃m5:Nat,m5<m1∧Inv8 (some ⟨a,0,none⟩) (some (⟨b,0,none⟩:Addr)) (IntKind.wrap .i64 (x+1)) m5 I3 ((kb b r r1 r2)::F3) I5 F5))) (Q (.returned (.pointer (some (⟨b,0,none⟩:Addr)))) I4 F4))
theorem hY.vc{w:Bs}{n:OA}{o p:Nat}{q:OA}{r s:Nat}{t:OA}{u v:Nat}{I:cc}{F:b8}{Q:cd}(Inv8:OA→OA→Int→Nat→cc→b8→cc→b8→Prop)(h:hY.V (fun W a b c d e f g h i j k l m=>(W,Obj.cells #[.string a,.int .u8 b,.int .u8 c,.int .u8 d,.int .u8 e,.int .i64 f,.int .u8 g,.string h,.slice i j k,.int .i64 l,.int .i64 m] 77 (0,0))) (fun W a b c=>(W,Obj.cells #[.map a,.map b,.map c] 164 (0,0))) (fun b=>(b,Obj.cells #[.string w,.slice n o p,.slice q r s,.slice t u v] 39 (0,0))) (.int .u8) (.int .i64) .string .slice w n o p q r s t u v I F Q Inv8):cf P 66 #[.agg #[.string w,.slice n o p,.slice q r s,.slice t u v]] I F Q :=
 tw (A:=(cK [3000,6001] [] [] jw [(8,⟨[(16,(.int .i64))],[],fun fs I0 F0 vs m I F=>match fs,vs with | [.pointer y0,.pointer y1],[.int _ y2]=>Inv8 y0 y1 y2 m I0 F0 I F | _,_=>False,[1,3],[]⟩)] [] [1004] [] [] [(5,[0,1,2,4,3,5,6,7,8,9,10,11]),(7,[0,1,2,4,6,3,5,7,8])] [])) [] func66 h
def fy.V(vp:OA→Value)(c:Int)(et:TypeId)(ev:Value)(I:cc)(F:b8)(Q:cd)  : Prop:=∀a:Nat,cf P 44 (#[Value.iface et ev,Value.iface 91 (vp (some (⟨a,0,none⟩:Addr)))]) I (((a,Obj.cells #[vp none] 89 (0,0))::F)) fun e1 I1 G1=>∃(r:Bool),e1=.returned (.bool r)∧∃F1:b8,List.Perm G1 F1∧(It r (∃(m:OA),Rd I1 F1 (⟨a,0,none⟩:Addr) [vp m]∧∃ad:Addr,m=some ad∧∃(m1:Int),Rd I1 F1 (ad.add 1) [.int .i64 m1]∧∀b:Nat,Q (.returned (Value.iface 89 (vp (some (⟨b,0,none⟩:Addr))))) I1 (((b,Obj.cells #[.string (⟨#[67,104,101,99,107]⟩:Bs),.int .i64 m1,Value.iface et ev] 93 (0,0))::F1))) (∀b1:Nat,Q (.returned (Value.iface 89 (vp (some (⟨b1,0,none⟩:Addr))))) I1 (((b1,Obj.cells #[.string (⟨#[67,104,101,99,107]⟩:Bs),.int .i64 c,Value.iface et ev] 93 (0,0))::F1))))
theorem fy.vc{a:Int}{et:TypeId}{ev:Value}{I:cc}{F:b8}{Q:cd}  (h:fy.V .pointer a et ev I F Q):cf P 65 #[.int .i64 a,Value.iface et ev] I F Q :=
 tw (A:=(cK [2002] [] [44] jw [] [] [1000,4003] [] [] [] [])) [44] func65 h
def lY.V(b:Nat→Nat×Obj)(vb vi:Int→Value)(vs:Bs→Value)(vl:OA→Nat→Nat→Value)(aj:Bs)(o:OA)(p s:Nat)(t:OA)(u v:Nat)(f:OA)(d w:Nat)(I:cc)(F:b8)(Q:cd)(Inv28:OA→Value→Int→Nat→cc→b8→cc→b8→Prop)(Inv42:OA→Int→Value→Int→Nat→cc→b8→cc→b8→Prop):Prop:=∀c:Nat,cy P 64 #[.agg #[vs aj,vl o p s,vl t u v,vl f d w]] I ((b c)::·) F vi fun r I1 F1=>(It (r != 0) (dg P 65 (#[vi 0,Value.iface 47 (vi r)]) I1 ((b c)::·) F1 fun e2 I2 G2=>∃(r1:Value),e2=.returned r1∧G2 fun F2=>Q (.returned r1) I2 F2) (cy P 66 #[.agg #[vs aj,vl o p s,vl t u v,vl f d w]] I1 ((b c)::·) F1 .pointer fun r2 I3 F3=>dg P 67 #[.pointer r2,.agg #[vs aj,vl o p s,vl t u v,vl f d w]] I3 ((b c)::·) F3 fun e4 I4 G4=>∃(r3:Value),e4=.returned r3∧G4 fun F4=>∃q:Bool,cU P .neq 44 (.tmp 23) (.const (Value.nilIface)) r3 Value.nilIface q∧(It q (Q (.returned r3) I4 F4) ((∃m:Nat,Inv28 r2 Value.nilIface 0 m I4 F4 I4 F4)∧∀(x:Value) (x1:Int) (m1:Nat) (I5:cc) (F5:b8),cc.le I4 I5→Inv28 r2 x x1 m1 I4 F4 I5 F5→(Dt (x1<(d:Int)) ((0≤x1∧x1<(d:Int))∧∃ad:Addr,f=some ad∧∃(aa:Bs) (e:OA) (a g:Nat) (ab:Int),Rd I5 ((b c)::F5) (ad.add (Int.toNat x1*3)) [vs aa,vl e a g,vi ab]∧∀ak:Nat,(∃m2:Nat,Inv42 r2 x1 x 0 m2 I5 F5 I5 F5)∧∀(x2:Value) (x3:Int) (m3:Nat) (I6:cc) (F6:b8),cc.le I5 I6→Inv42 r2 x1 x2 x3 m3 I5 F5 I6 F6→(Dt (x3<(a:Int)) ((0≤x3∧x3<(a:Int))∧∃al:Addr,e=some al∧∃(y ac z ae af:Int) (ag:Bs) (h:OA) (i j:Nat) (ah:Int) (k:OA) (l n:Nat) (ai:Int),Rd I6 ((b c)::(ak,Obj.cells #[vs aa,vl e a g,vi ab] 65 (0,0))::F6) (al.add (Int.toNat x3*10)) [vb y,vb ac,vb z,vi ae,vb af,vs ag,vl h i j,vi ah,vl k l n,vi ai]∧∀am:Nat,dg P 68 #[.pointer r2,.agg #[vb y,vb ac,vb z,vi ae,vb af,vs ag,vl h i j,vi ah,vl k l n,vi ai]] I6 ((b c)::(ak,Obj.cells #[vs aa,vl e a g,vi ab] 65 (0,0))::(am,Obj.cells #[vb y,vb ac,vb z,vi ae,vb af,vs ag,vl h i j,vi ah,vl k l n,vi ai] 84 (0,0))::·) F6 fun e5 I7 G5=>∃(r4:Value),e5=.returned r4∧G5 fun F7=>∃q1:Bool,cU P .neq 44 (.tmp 43) (.const (Value.nilIface)) r4 Value.nilIface q1∧(It q1 (Q (.returned r4) I7 F7) (∃m4:Nat,m4<m3∧Inv42 r2 x1 x2 (IntKind.wrap .i64 (x3+1)) m4 I5 F5 I7 F7))) (∃m5:Nat,m5<m1∧Inv28 r2 x2 (IntKind.wrap .i64 (x1+1)) m5 I4 F4 I6 F6))) (Q (.returned (Value.nilIface)) I5 F5))))))
theorem lY.vc{l:Bs}{a:OA}{c d:Nat}{e:OA}{f g:Nat}{i:OA}{j k:Nat}{I:cc}{F:b8}{Q:cd}(Inv28:OA→Value→Int→Nat→cc→b8→cc→b8→Prop)(Inv42:OA→Int→Value→Int→Nat→cc→b8→cc→b8→Prop)(h:lY.V (fun b=>(b,Obj.cells #[.string l,.slice a c d,.slice e f g,.slice i j k] 39 (0,0))) (.int .u8) (.int .i64) .string .slice l a c d e f g i j k I F Q Inv28 Inv42):cf P 39 #[.agg #[.string l,.slice a c d,.slice e f g,.slice i j k]] I F Q :=
 tw (A:=(cK [2001,6001,9000,12000,15001] [] [64,65,66,67,68] jw [(28,⟨[(2,.any),(29,(.int .i64))],[],fun fs I0 F0 vs m I F=>match fs,vs with | [.pointer y0],[y1,.int _ y2]=>Inv28 y0 y1 y2 m I0 F0 I F | _,_=>False,[4],[]⟩),(42,⟨[(2,.any),(36,(.int .i64))],[],fun fs I0 F0 vs m I F=>match fs,vs with | [.pointer y0,.int _ y1],[y2,.int _ y3]=>Inv42 y0 y1 y2 y3 m I0 F0 I F | _,_=>False,[4,29],[]⟩)] [] [] [] [] [] [])) [64,65,66,67,68] func39 h
def gB.V(d:Nat→Nat×Obj)(vb:Int→Value)(c:Addr)(a n i o b:Int)(j:Bs)(f:OA)(g h:Nat)(p:Int)(I:cc)(F:b8)(Q:cd)  : Prop:=∀e:Nat,(It (a==1) (Q (.returned (.tuple #[vb i,Value.nilIface])) I F) (It (a==4) (Q (.returned (.tuple #[vb 5,Value.nilIface])) I F) (It (a==2) (∃ad:Addr,some c=some ad∧∃(m:Option Nat),Rd I ((d e)::F) (ad.add 0) [.map m]∧cF P (Instr.lookup 161 (.map m) (.string j) true) I ((d e)::F) fun v I1 G1=>∃(r0:Int) (r1:Bool),v=.tuple #[vb r0,.bool r1]∧∃F1:b8,List.Perm G1 ((d e)::F1)∧(It r1 (Q (.returned (.tuple #[vb r0,Value.nilIface])) I1 F1) (dg P 136 #[.agg #[vb a,vb n,vb i,.int .i64 o,vb b,.string j,.slice f g h,.int .i64 p],.int .i64 151] I1 ((d e)::·) F1 fun e1 I2 G2=>∃(k:Int) (l:Value),e1=.returned (.tuple #[vb k,l])∧G2 fun F2=>Q (.returned (.tuple #[vb k,l])) I2 F2))) (It (b==5) (Q (.returned (.tuple #[vb 4,Value.nilIface])) I F) (It (b==4) (Q (.returned (.tuple #[vb 2,Value.nilIface])) I F) (It (b==6) (Q (.returned (.tuple #[vb 2,Value.nilIface])) I F) (Q (.returned (.tuple #[vb 3,Value.nilIface])) I F)))))))
theorem gB.vc{c:Addr}{f g i j k:Int}{l:Bs}{a:OA}{d e:Nat}{m:Int}{I:cc}{F:b8}{Q:cd}  (h:gB.V (fun b=>(b,Obj.cells #[.int .u8 f,.int .u8 g,.int .u8 i,.int .i64 j,.int .u8 k,.string l,.slice a d e,.int .i64 m] 28 (0,0))) (.int .u8) c f g i j k l a d e m I F Q):cf P 133 #[.pointer (some c),.agg #[.int .u8 f,.int .u8 g,.int .u8 i,.int .i64 j,.int .u8 k,.string l,.slice a d e,.int .i64 m]] I F Q :=
 tw (A:=(cK [2000,4000,6000,8000,12000,14000,15000] [] [136] jw [] [] [] [] [] [(7,[0,1,2,4,3,5,6,7,8,9,10,11])] [])) [136] func133 h
def iQ.V(d u:Nat→Nat×Obj)(nV:Int→Int→Int→Int→Int→Bs→OA→Nat→Nat→Int→Value)(nO:Int→Int→Int→Int→Int→Bs→OA→Nat→Nat→Int→Obj)(vb vi:Int→Value)(c:Addr)(l k n o p:Int)(s:Bs)(f:OA)(b g:Nat)(t:Int)(I:cc)(F:b8)(Q:cd)(Inv8:OA→OA→Int→Value→Int→Nat→cc→b8→cc→b8→Prop):Prop:=∀a:Nat,∀e:Nat,(∃m:Nat,Inv8 (some ⟨a,0,none⟩) (some (⟨e,0,none⟩:Addr)) 0 Value.nilIface 0 m I ((u e)::F) I ((u e)::F))∧∀(x:Int) (x1:Value) (x2:Int) (m1:Nat) (I1:cc) (F1:b8),cc.le I I1→Inv8 (some ⟨a,0,none⟩) (some (⟨e,0,none⟩:Addr)) x x1 x2 m1 I ((u e)::F) I1 F1→(Dt (x2<(b:Int)) ((0≤x2∧x2<(b:Int))∧∃ad:Addr,f=some ad∧∃(v w y z aa:Int) (ab:Bs) (h:OA) (i j:Nat) (ac:Int),Rd I1 ((d a)::F1) (ad.add (Int.toNat x2*8)) [vb v,vb w,vb y,vi z,vb aa,.string ab,.slice h i j,vi ac]∧∀aq:Nat,dg P 107 (#[.pointer (some c),nV v w y z aa ab h i j ac]) I1 ((d a)::(aq,nO v w y z aa ab h i j ac)::·) F1 fun e1 I2 G1=>∃(r0:Int) (r1:Value),e1=.returned (.tuple #[vb r0,r1])∧G1 fun F2=>∃q:Bool,cU P .neq 44 (.tmp 27) (.const (Value.nilIface)) r1 Value.nilIface q∧(It q (Q (.returned (.tuple #[vb 0,r1])) I2 F2) ((0≤x2∧x2<(3:Int))∧∃(cs:List Value) (el:Nat) (F3:b8),List.Perm F2 ((((⟨e,0,none⟩:Addr).add (Int.toNat x2*1)).block,Obj.cells cs.toArray el (0,0))::F3)∧((⟨e,0,none⟩:Addr).add (Int.toNat x2*1)).spot=none∧((⟨e,0,none⟩:Addr).add (Int.toNat x2*1)).off+1≤cs.length∧(∃m2:Nat,m2<m1∧Inv8 (some ⟨a,0,none⟩) (some (⟨e,0,none⟩:Addr)) x x1 (IntKind.wrap .i64 (x2+1)) m2 I ((u e)::F) I2 ((((⟨e,0,none⟩:Addr).add (Int.toNat x2*1)).block,Obj.cells (cj ((⟨e,0,none⟩:Addr).add (Int.toNat x2*1)).off [vb r0] cs).toArray el (0,0))::F3))))) (It ((b:Int)==0) (dg P 133 (#[.pointer (some c),nV l k n o p s f b g t]) I1 ((d a)::·) F1 fun e2 I3 G2=>∃(af:Int) (ag:Value),e2=.returned (.tuple #[vb af,ag])∧G2 fun F4=>Q (.returned (.tuple #[vb af,ag])) I3 F4) (It ((b:Int)==1) ((0≤(0:Int)∧(0:Int)<(3:Int))∧∃(m3:Int),Rd I1 ((d a)::F1) ((⟨e,0,none⟩:Addr).add (Int.toNat 0*1)) [vb m3]∧cy P 134 #[nV l k n o p s f b g t,vb m3] I1 ((d a)::·) F1 vb fun r I4 F5=>(It (!(r != 0)) (dg P 136 #[nV l k n o p s f b g t,vi 152] I4 ((d a)::·) F5 fun e4 I5 G4=>∃(ah:Int) (ai:Value),e4=.returned (.tuple #[vb ah,ai])∧G4 fun F6=>Q (.returned (.tuple #[vb ah,ai])) I5 F6) (Q (.returned (.tuple #[vb r,Value.nilIface])) I4 F5))) (It ((b:Int)==2) ((0≤(0:Int)∧(0:Int)<(3:Int))∧∃(m4:Int),Rd I1 ((d a)::F1) ((⟨e,0,none⟩:Addr).add (Int.toNat 0*1)) [vb m4]∧((0≤(1:Int)∧(1:Int)<(3:Int))∧∃(m5:Int),Rd I1 ((d a)::F1) ((⟨e,0,none⟩:Addr).add (Int.toNat 1*1)) [vb m5]∧dg P 135 #[vb k,vb m4,vb m5] I1 ((d a)::·) F1 fun e5 I6 G5=>∃(aj:Int) (ae:Bool),e5=.returned (.tuple #[vb aj,.bool ae])∧G5 fun F7=>(It (!ae) (dg P 136 #[nV l k n o p s f b g t,vi 152] I6 ((d a)::·) F7 fun e6 I7 G6=>∃(ak:Int) (al:Value),e6=.returned (.tuple #[vb ak,al])∧G6 fun F8=>Q (.returned (.tuple #[vb ak,al])) I7 F8) (Q (.returned (.tuple #[vb aj,Value.nilIface])) I6 F7)))) ((0≤(1:Int)∧(1:Int)<(3:Int))∧∃(m6:Int),Rd I1 ((d a)::F1) ((⟨e,0,none⟩:Addr).add (Int.toNat 1*1)) [vb m6]∧((0≤(0:Int)∧(0:Int)<(3:Int))∧∃(m7:Int),Rd I1 ((d a)::F1) ((⟨e,0,none⟩:Addr).add (Int.toNat 0*1)) [vb m7]∧(It (m7==5) ((0≤(1:Int)∧(1:Int)<(3:Int))∧∃(m8:Int),Rd I1 ((d a)::F1) ((⟨e,0,none⟩:Addr).add (Int.toNat 1*1)) [vb m8]∧((0≤(2:Int)∧(2:Int)<(3:Int))∧∃(m9:Int),Rd I1 ((d a)::F1) ((⟨e,0,none⟩:Addr).add (Int.toNat 2*1)) [vb m9]∧(It (!(m8==m9)) (dg P 136 #[nV l k n o p s f b g t,vi 152] I1 ((d a)::·) F1 fun e7 I8 G7=>∃(am:Int) (an:Value),e7=.returned (.tuple #[vb am,an])∧G7 fun F9=>Q (.returned (.tuple #[vb am,an])) I8 F9) (Q (.returned (.tuple #[vb m6,Value.nilIface])) I1 F1)))) (It true (dg P 136 #[nV l k n o p s f b g t,vi 152] I1 ((d a)::·) F1 fun e8 I9 G8=>∃(ao:Int) (ap:Value),e8=.returned (.tuple #[vb ao,ap])∧G8 fun F10=>Q (.returned (.tuple #[vb ao,ap])) I9 F10) (Q (.returned (.tuple #[vb m6,Value.nilIface])) I1 F1)))))))))
theorem iQ.vc{c:Addr}{i j p r u:Int}{v:Bs}{d:OA}{e g:Nat}{w:Int}{I:cc}{F:b8}{Q:cd}(Inv8:OA→OA→Int→Value→Int→Nat→cc→b8→cc→b8→Prop)(h:iQ.V (fun b=>(b,Obj.cells #[.int .u8 i,.int .u8 j,.int .u8 p,.int .i64 r,.int .u8 u,.string v,.slice d e g,.int .i64 w] 28 (0,0))) (fun b=>(b,Obj.cells #[.int .u8 0,.int .u8 0,.int .u8 0] 204 (0,0))) (fun k o t n f s a l c q=>.agg #[.int .u8 k,.int .u8 o,.int .u8 t,.int .i64 n,.int .u8 f,.string s,.slice a l c,.int .i64 q]) (fun k o t n f s a l c q=>.cells #[.int .u8 k,.int .u8 o,.int .u8 t,.int .i64 n,.int .u8 f,.string s,.slice a l c,.int .i64 q] 28 (0,0)) (.int .u8) (.int .i64) c i j p r u v d e g w I F Q Inv8):cf P 107 #[.pointer (some c),.agg #[.int .u8 i,.int .u8 j,.int .u8 p,.int .i64 r,.int .u8 u,.string v,.slice d e g,.int .i64 w]] I F Q :=
 tw (A:=(cK [3000,6001,13004,14000,16000,19000,21001] [] [107,133,134,135,136] jw [(8,⟨[(4,(.int .u8)),(5,.any),(16,(.int .i64))],[],fun fs I0 F0 vs m I F=>match fs,vs with | [.pointer y0,.pointer y1],[.int _ y2,y3,.int _ y4]=>Inv8 y0 y1 y2 y3 y4 m I0 F0 I F | _,_=>False,[3,6],[]⟩)] [] [1000] [] [] [] [])) [107,133,134,135,136] func107 h
def gC.V(a:Nat→Nat×Obj)(vb vi:Int→Value)(c:Addr)(i j k l m:Int)(n:Bs)(e:OA)(f g:Nat)(h d:Int)(I:cc)(F:b8)(Q:cd)  : Prop:=∀b:Nat,dg P 107 (#[.pointer (some c),.agg #[vb i,vb j,vb k,vi l,vb m,.string n,.slice e f g,vi h]]) I ((a b)::·) F fun e1 I1 G1=>∃(r0:Int) (r1:Value),e1=.returned (.tuple #[vb r0,r1])∧G1 fun F1=>∃q:Bool,cU P .neq 44 (.tmp 16) (.const (Value.nilIface)) r1 Value.nilIface q∧(It q (dg P 65 #[vi 0,r1] I1 ((a b)::·) F1 fun e2 I2 G2=>∃(r:Value),e2=.returned r∧G2 fun F2=>Q (.returned r) I2 F2) (It (r0 != d) (dg P 65 (#[vi h,Value.iface 47 (vi 152)]) I1 ((a b)::·) F1 fun e3 I3 G3=>∃(r2:Value),e3=.returned r2∧G3 fun F3=>Q (.returned r2) I3 F3) (Q (.returned (Value.nilIface)) I1 F1)))
theorem gC.vc{c:Addr}{f g i j k:Int}{l:Bs}{a:OA}{d e:Nat}{m n:Int}{I:cc}{F:b8}{Q:cd}  (h:gC.V (fun b=>(b,Obj.cells #[.int .u8 f,.int .u8 g,.int .u8 i,.int .i64 j,.int .u8 k,.string l,.slice a d e,.int .i64 m] 28 (0,0))) (.int .u8) (.int .i64) c f g i j k l a d e m n I F Q):cf P 108 #[.pointer (some c),.agg #[.int .u8 f,.int .u8 g,.int .u8 i,.int .i64 j,.int .u8 k,.string l,.slice a d e,.int .i64 m],.int .u8 n] I F Q :=
 tw (A:=(an [2001,4002] [65,107] jw)) [65,107] func108 h
def eJ.V(ka:Nat→Bs→Int→Int→Int→Int→Int→Int→Bs→OA→Nat→Nat→Int→Int→Nat×Obj)(kb:Nat→Bs→OA→Nat→Nat→Int→Nat×Obj)(kc:Nat→Bs→Int→Nat×Obj)(a:Nat→Nat×Obj)(vb vi:Int→Value)(vs:Bs→Value)(vl:OA→Nat→Nat→Value)(wr:Int→Int)(c:Addr)(aB:Bs)(aj:OA)(af ay:Nat)(ak:OA)(ag az:Nat)(al:OA)(ah aA:Nat)(I:cc)(F:b8)(Q:cd)(Inv8:Option Nat→Value→Int→Nat→cc→b8→cc→b8→Prop)(Inv43:Value→Int→Nat→cc→b8→cc→b8→Prop)(Inv68:Value→Int→Nat→cc→b8→cc→b8→Prop):Prop:=∀b:Nat,cF P (Instr.makeMap 162 none) I ((a b)::F) fun v I1 G1=>∃(r:Option Nat),v=.map r∧∃F1:b8,List.Perm G1 ((a b)::F1)∧(∃m:Nat,Inv8 r Value.nilIface 0 m I1 F1 I1 F1)∧∀(x:Value) (x1:Int) (m1:Nat) (I2:cc) (F2:b8),cc.le I1 I2→Inv8 r x x1 m1 I1 F1 I2 F2→(Dt (x1<(af:Int)) ((0≤x1∧x1<(af:Int))∧∃ad:Addr,aj=some ad∧∃(p:Bs) (q s t u w y:Int) (z:Bs) (d:OA) (e f:Nat) (aa g:Int),Rd I2 ((a b)::F2) (ad.add (Int.toNat x1*11)) [vs p,vb q,vb s,vb t,vb u,vi w,vb y,vs z,vl d e f,vi aa,vi g]∧∀ac:Nat,cF P (Instr.lookup 162 (.map r) (vs p) false) I2 ((a b)::(ka ac p q s t u w y z d e f aa g)::F2) fun v1 I3 G2=>∃(r1:Int),v1=vi r1∧∃F3:b8,List.Perm G2 ((a b)::(ka ac p q s t u w y z d e f aa g)::F3)∧mu P (Instr.mapUpdate 162 (.map r) (vs p) (vi (wr (r1+1)))) I3 ((a b)::(ka ac p q s t u w y z d e f aa g)::F3) fun I4 G3=>∃F4:b8,List.Perm G3 ((a b)::(ka ac p q s t u w y z d e f aa g)::F4)∧cF P (Instr.lookup 162 (.map r) (vs p) false) I4 ((a b)::(ka ac p q s t u w y z d e f aa g)::F4) fun v2 I5 G4=>∃(r2:Int),v2=vi r2∧∃F5:b8,List.Perm G4 ((a b)::(ka ac p q s t u w y z d e f aa g)::F5)∧(Dt (r2>1) (dg P 65 (#[vi g,Value.iface 47 (vi 150)]) I5 ((a b)::(ka ac p q s t u w y z d e f aa g)::·) F5 fun e1 I6 G5=>∃(r3:Value),e1=.returned r3∧G5 fun F6=>Q (.returned r3) I6 F6) (dg P 107 (#[.pointer (some c),.agg #[vb s,vb t,vb u,vi w,vb y,vs z,vl d e f,vi aa]]) I5 ((a b)::(ka ac p q s t u w y z d e f aa g)::·) F5 fun e2 I7 G6=>∃(r0:Int) (ax:Value),e2=.returned (.tuple #[vb r0,ax])∧G6 fun F7=>(It (r0 != q) (dg P 65 (#[vi g,Value.iface 47 (vi 152)]) I7 ((a b)::(ka ac p q s t u w y z d e f aa g)::·) F7 fun e3 I8 G7=>∃(r4:Value),e3=.returned r4∧G7 fun F8=>Q (.returned r4) I8 F8) (∃m2:Nat,m2<m1∧Inv8 r x (wr (x1+1)) m2 I1 F1 I7 F7))))) ((∃m3:Nat,Inv43 x 0 m3 I2 F2 I2 F2)∧∀(x2:Value) (x3:Int) (m4:Nat) (I9:cc) (F9:b8),cc.le I2 I9→Inv43 x2 x3 m4 I2 F2 I9 F9→(Dt (x3<(ag:Int)) ((0≤x3∧x3<(ag:Int))∧∃ao:Addr,ak=some ao∧∃(h:Bs) (n:Int),Rd I9 ((a b)::F9) (ao.add (Int.toNat x3*2)) [vs h,vi n]∧∀ae:Nat,∃ap:Addr,some c=some ap∧∃(m5:Option Nat),Rd I9 ((a b)::(kc ae h n)::F9) (ap.add 1) [.map m5]∧cF P (Instr.lookup 162 (.map m5) (vs h) false) I9 ((a b)::(kc ae h n)::F9) fun v3 I10 G8=>∃(r5:Int),v3=vi r5∧∃F10:b8,List.Perm G8 ((a b)::(kc ae h n)::F10)∧mu P (Instr.mapUpdate 162 (.map m5) (vs h) (vi (wr (r5+1)))) I10 ((a b)::(kc ae h n)::F10) fun I11 G9=>∃F11:b8,List.Perm G9 ((a b)::(kc ae h n)::F11)∧∃aq:Addr,some c=some aq∧∃(m6:Option Nat),Rd I11 ((a b)::(kc ae h n)::F11) (aq.add 1) [.map m6]∧cF P (Instr.lookup 162 (.map m6) (vs h) false) I11 ((a b)::(kc ae h n)::F11) fun v4 I12 G10=>∃(r6:Int),v4=vi r6∧∃F12:b8,List.Perm G10 ((a b)::(kc ae h n)::F12)∧(Dt (r6>1) (dg P 65 (#[vi n,Value.iface 47 (vi 150)]) I12 ((a b)::(kc ae h n)::·) F12 fun e4 I13 G11=>∃(r7:Value),e4=.returned r7∧G11 fun F13=>Q (.returned r7) I13 F13) (∃m7:Nat,m7<m4∧Inv43 x2 (wr (x3+1)) m7 I2 F2 I12 F12))) ((∃m8:Nat,Inv68 x2 0 m8 I9 F9 I9 F9)∧∀(x4:Value) (x5:Int) (m9:Nat) (I14:cc) (F14:b8),cc.le I9 I14→Inv68 x4 x5 m9 I9 F9 I14 F14→(Dt (x5<(ah:Int)) ((0≤x5∧x5<(ah:Int))∧∃ar:Addr,al=some ar∧∃(i:Bs) (j:OA) (k l:Nat) (o:Int),Rd I14 ((a b)::F14) (ar.add (Int.toNat x5*3)) [vs i,vl j k l,vi o]∧∀ab:Nat,∃au:Addr,some c=some au∧∃(ai:Option Nat),Rd I14 ((a b)::(kb ab i j k l o)::F14) (au.add 2) [.map ai]∧cF P (Instr.lookup 162 (.map ai) (vs i) false) I14 ((a b)::(kb ab i j k l o)::F14) fun v5 I15 G12=>∃(r8:Int),v5=vi r8∧∃F15:b8,List.Perm G12 ((a b)::(kb ab i j k l o)::F15)∧mu P (Instr.mapUpdate 162 (.map ai) (vs i) (vi (wr (r8+1)))) I15 ((a b)::(kb ab i j k l o)::F15) fun I16 G13=>∃F16:b8,List.Perm G13 ((a b)::(kb ab i j k l o)::F16)∧∃av:Addr,some c=some av∧∃(am:Option Nat),Rd I16 ((a b)::(kb ab i j k l o)::F16) (av.add 2) [.map am]∧cF P (Instr.lookup 162 (.map am) (vs i) false) I16 ((a b)::(kb ab i j k l o)::F16) fun v6 I17 G14=>∃(r9:Int),v6=vi r9∧∃F17:b8,List.Perm G14 ((a b)::(kb ab i j k l o)::F17)∧(Dt (r9>1) (dg P 65 (#[vi o,Value.iface 47 (vi 150)]) I17 ((a b)::(kb ab i j k l o)::·) F17 fun e5 I18 G15=>∃(an:Value),e5=.returned an∧G15 fun F18=>Q (.returned an) I18 F18) (∃aw:Nat,aw<m9∧Inv68 x4 (wr (x5+1)) aw I9 F9 I17 F17))) (Q (.returned (Value.nilIface)) I14 F14))))))
theorem eJ.vc{c:Addr}{w:Bs}{n:OA}{o p:Nat}{q:OA}{r s:Nat}{t:OA}{u v:Nat}{I:cc}{F:b8}{Q:cd}(Inv8:Option Nat→Value→Int→Nat→cc→b8→cc→b8→Prop)(Inv43:Value→Int→Nat→cc→b8→cc→b8→Prop)(Inv68:Value→Int→Nat→cc→b8→cc→b8→Prop)(h:eJ.V (fun W a b c d e f g h i j k l m=>(W,Obj.cells #[.string a,.int .u8 b,.int .u8 c,.int .u8 d,.int .u8 e,.int .i64 f,.int .u8 g,.string h,.slice i j k,.int .i64 l,.int .i64 m] 77 (0,0))) (fun W a b c d e=>(W,Obj.cells #[.string a,.slice b c d,.int .i64 e] 65 (0,0))) (fun W a b=>(W,Obj.cells #[.string a,.int .i64 b] 79 (0,0))) (fun b=>(b,Obj.cells #[.string w,.slice n o p,.slice q r s,.slice t u v] 39 (0,0))) (.int .u8) (.int .i64) .string .slice (IntKind.wrap .i64) c w n o p q r s t u v I F Q Inv8 Inv43 Inv68):cf P 67 #[.pointer (some c),.agg #[.string w,.slice n o p,.slice q r s,.slice t u v]] I F Q :=
 tw (A:=(cK [3000,6004,9003,13000,16007,20000,23007] [] [65,107] jw [(8,⟨[(4,.any),(18,(.int .i64))],[],fun fs I0 F0 vs m I F=>match fs,vs with | [.map y0],[y1,.int _ y2]=>Inv8 y0 y1 y2 m I0 F0 I F | _,_=>False,[5],[]⟩),(43,⟨[(4,.any),(55,(.int .i64))],[],fun fs I0 F0 vs m I F=>match fs,vs with | [],[y0,.int _ y1]=>Inv43 y0 y1 m I0 F0 I F | _,_=>False,[],[]⟩),(68,⟨[(4,.any),(83,(.int .i64))],[],fun fs I0 F0 vs m I F=>match fs,vs with | [],[y0,.int _ y1]=>Inv68 y0 y1 m I0 F0 I F | _,_=>False,[],[]⟩)] [] [] [] [] [(15,[0,1,2,4,3,5,6,7,8]),(16,[0,1,2,4,3,5,6,7]),(22,[0,1,2,4,3,5,6,7,8]),(23,[0,1,2,4,3,5,6,7])] [])) [65,107] func67 h
def iR.V(a:Nat→Nat×Obj)(vb vi:Int→Value)(vs:Bs→Value)(vl:OA→Nat→Nat→Value)(c:Addr)(h aS:Int)(p:Bs)(a9 ba bb bc bd:Int)(be:Bs)(aO:OA)(aP aQ:Nat)(a0 aj ak al am an:Int)(ao:Bs)(s:OA)(t u:Nat)(ap aq ar au av aw:Int)(ax:Bs)(w:OA)(y z:Nat)(ay a1 a2 a3 a4 a5:Int)(a6:Bs)(az:OA)(aA aB:Nat)(a7 a8:Int)(I:cc)(F:b8)(Q:cd)(Inv9:Int→Bool→OA→Nat→Nat→cc→b8→cc→b8→Prop)(Inv18:OA→Nat→Nat→cc→b8→cc→b8→Prop)(Inv64:OA→Nat→Nat→Value→Int→Nat→cc→b8→cc→b8→Prop):Prop:=∀d:Nat,((It (h==1) (∀(b:Nat) (I1:cc),cc.le I I1→I1 b=some (Obj.cells #[vb a9,vb ba,vb bb,vi bc,vb bd,vs be,vl aO aP aQ,vi a0,vb 6,vb aj,vb ak,vb al,vi am,vb an,vs ao,vl s t u,vi ap,vb 2] 210 (0,0))→cF P (Builtin.append_ #[208,208] 208 #[vl none 0 0,vl (some ⟨b,0,none⟩) 2 2]) I1 ((a d)::F) fun v I2 G1=>∃(aC:OA) (aD aE:Nat),v=vl aC aD aE∧∃F1:b8,List.Perm G1 ((a d)::F1)∧((It (aS != 2) (∀(b1:Nat) (I3:cc),cc.le I2 I3→I3 b1=some (Obj.cells #[vb aq,vb ar,vb au,vi av,vb aw,vs ax,vl w y z,vi ay,vb 3] 210 (0,0))→cF P (Builtin.append_ #[208,208] 208 #[vl aC aD aE,vl (some ⟨b1,0,none⟩) 1 1]) I3 ((a d)::F1) fun v1 I4 G2=>∃(aF:OA) (aG aH:Nat),v1=vl aF aG aH∧∃F2:b8,List.Perm G2 ((a d)::F2)∧Inv18 aF aG aH I2 F1 I4 F2) (Inv18 aC aD aE I2 F1 I2 F1)))∧∀(i:OA) (j k:Nat) (I5:cc) (F3:b8),cc.le I2 I5→Inv18 i j k I2 F1 I5 F3→(It (p.toList==(⟨#[]⟩:Bs).toList) (Inv9 5 true i j k I F I5 F3) (∃ad:Addr,some c=some ad∧∃(m:Option Nat),Rd I5 ((a d)::F3) (ad.add 1) [.map m]∧cF P (Instr.lookup 162 (.map m) (vs p) false) I5 ((a d)::F3) fun v2 I6 G3=>∃(r:Int),v2=vi r∧∃F4:b8,List.Perm G3 ((a d)::F4)∧Inv9 5 (decide (r>0)) i j k I F I6 F4))) (It (h==2) (∀(b2:Nat) (I7:cc),cc.le I I7→I7 b2=some (Obj.cells #[vb aj,vb ak,vb al,vi am,vb an,vs ao,vl s t u,vi ap,vb 2,vb aq,vb ar,vb au,vi av,vb aw,vs ax,vl w y z,vi ay,vb 3] 210 (0,0))→cF P (Builtin.append_ #[208,208] 208 #[vl none 0 0,vl (some ⟨b2,0,none⟩) 2 2]) I7 ((a d)::F) fun v3 I8 G4=>∃(aI:OA) (aJ aK:Nat),v3=vl aI aJ aK∧∃F5:b8,List.Perm G4 ((a d)::F5)∧∃aU:Addr,some c=some aU∧∃(m1:Option Nat),Rd I8 ((a d)::F5) (aU.add 1) [.map m1]∧cF P (Instr.lookup 162 (.map m1) (vs p) false) I8 ((a d)::F5) fun v4 I9 G5=>∃(r1:Int),v4=vi r1∧∃F6:b8,List.Perm G5 ((a d)::F6)∧Inv9 5 (decide (r1>0)) aI aJ aK I F I9 F6) (It (h==3) (∃aV:Addr,some c=some aV∧∃(m2:Option Nat),Rd I ((a d)::F) (aV.add 1) [.map m2]∧cF P (Instr.lookup 162 (.map m2) (vs p) false) I ((a d)::F) fun v5 I10 G6=>∃(r2:Int),v5=vi r2∧∃F7:b8,List.Perm G6 ((a d)::F7)∧Inv9 5 (decide (r2>0)) none 0 0 I F I10 F7) (It (h==4) (∃aW:Addr,some c=some aW∧∃(m3:Option Nat),Rd I ((a d)::F) (aW.add 0) [.map m3]∧cF P (Instr.lookup 161 (.map m3) (vs p) true) I ((a d)::F) fun v6 I11 G7=>∃(r0:Int) (aT:Bool),v6=.tuple #[vb r0,.bool aT]∧∃F8:b8,List.Perm G7 ((a d)::F8)∧∀(b3:Nat) (I12:cc),cc.le I11 I12→I12 b3=some (Obj.cells #[vb a1,vb a2,vb a3,vi a4,vb a5,vs a6,vl az aA aB,vi a7,vb r0] 210 (0,0))→cF P (Builtin.append_ #[208,208] 208 #[vl none 0 0,vl (some ⟨b3,0,none⟩) 1 1]) I12 ((a d)::F8) fun v7 I13 G8=>∃(aL:OA) (aM aN:Nat),v7=vl aL aM aN∧∃F9:b8,List.Perm G8 ((a d)::F9)∧Inv9 r0 aT aL aM aN I F I13 F9) (It (h==5) (∃aX:Addr,some c=some aX∧∃(m4:Option Nat),Rd I ((a d)::F) (aX.add 2) [.map m4]∧cF P (Instr.lookup 162 (.map m4) (vs p) false) I ((a d)::F) fun v8 I14 G9=>∃(r3:Int),v8=vi r3∧∃F10:b8,List.Perm G9 ((a d)::F10)∧Inv9 5 (decide (r3>0)) none 0 0 I F I14 F10) (Inv9 5 true none 0 0 I F I F)))))))∧∀(aR:Int) (is:Bool) (f:OA) (e g:Nat) (I15:cc) (F11:b8),cc.le I I15→Inv9 aR is f e g I F I15 F11→(It (!is) (dg P 65 (#[vi a8,Value.iface 47 (vi 151)]) I15 ((a d)::·) F11 fun e1 I16 G10=>∃(r4:Value),e1=.returned r4∧G10 fun F12=>Q (.returned r4) I16 F12) ((∃m5:Nat,Inv64 f e g Value.nilIface 0 m5 I15 F11 I15 F11)∧∀(x:Value) (x1:Int) (m6:Nat) (I17:cc) (F13:b8),cc.le I15 I17→Inv64 f e g x x1 m6 I15 F11 I17 F13→(Dt (x1<(e:Int)) ((0≤x1∧x1<(e:Int))∧∃aY:Addr,f=some aY∧∃(aa ab ac ae af:Int) (ag:Bs) (l:OA) (n o:Nat) (ah ai:Int),Rd I17 ((a d)::F13) (aY.add (Int.toNat x1*9)) [vb aa,vb ab,vb ac,vi ae,vb af,vs ag,vl l n o,vi ah,vb ai]∧∀aZ:Nat,dg P 108 (#[.pointer (some c),.agg #[vb aa,vb ab,vb ac,vi ae,vb af,vs ag,vl l n o,vi ah],vb ai]) I17 ((a d)::(aZ,Obj.cells #[vb aa,vb ab,vb ac,vi ae,vb af,vs ag,vl l n o,vi ah,vb ai] 210 (0,0))::·) F13 fun e2 I18 G11=>∃(r5:Value),e2=.returned r5∧G11 fun F14=>∃q:Bool,cU P .neq 44 (.tmp 120) (.const (Value.nilIface)) r5 Value.nilIface q∧(It q (Q (.returned r5) I18 F14) (∃m7:Nat,m7<m6∧Inv64 f e g x (IntKind.wrap .i64 (x1+1)) m7 I15 F11 I18 F14))) (Q (.returned (Value.nilIface)) I17 F13))))
theorem iR.vc{c:Addr}{an ao:Int}{ap:Bs}{aq ar au av aw:Int}{ax:Bs}{n:OA}{o p:Nat}{q r s t u v:Int}{w:Bs}{a:OA}{d e:Nat}{x y z aa ab ac:Int}{ad:Bs}{f:OA}{g i:Nat}{ae af ag ah ai aj:Int}{ak:Bs}{j:OA}{k l:Nat}{al am:Int}{I:cc}{F:b8}{Q:cd}(Inv9:Int→Bool→OA→Nat→Nat→cc→b8→cc→b8→Prop)(Inv18:OA→Nat→Nat→cc→b8→cc→b8→Prop)(Inv64:OA→Nat→Nat→Value→Int→Nat→cc→b8→cc→b8→Prop)(h:iR.V (fun b=>(b,Obj.cells #[.int .u8 an,.int .u8 ao,.string ap,.int .u8 aq,.int .u8 ar,.int .u8 au,.int .i64 av,.int .u8 aw,.string ax,.slice n o p,.int .i64 q,.int .u8 r,.int .u8 s,.int .u8 t,.int .i64 u,.int .u8 v,.string w,.slice a d e,.int .i64 x,.int .u8 y,.int .u8 z,.int .u8 aa,.int .i64 ab,.int .u8 ac,.string ad,.slice f g i,.int .i64 ae,.int .u8 af,.int .u8 ag,.int .u8 ah,.int .i64 ai,.int .u8 aj,.string ak,.slice j k l,.int .i64 al,.int .i64 am] 99 (0,0))) (.int .u8) (.int .i64) .string .slice c an ao ap aq ar au av aw ax n o p q r s t u v w a d e x y z aa ab ac ad f g i ae af ag ah ai aj ak j k l al am I F Q Inv9 Inv18 Inv64):cf P 109 #[.pointer (some c),.agg #[.int .u8 an,.int .u8 ao,.string ap,.int .u8 aq,.int .u8 ar,.int .u8 au,.int .i64 av,.int .u8 aw,.string ax,.slice n o p,.int .i64 q,.int .u8 r,.int .u8 s,.int .u8 t,.int .i64 u,.int .u8 v,.string w,.slice a d e,.int .i64 x,.int .u8 y,.int .u8 z,.int .u8 aa,.int .i64 ab,.int .u8 ac,.string ad,.slice f g i,.int .i64 ae,.int .u8 af,.int .u8 ag,.int .u8 ah,.int .i64 ai,.int .u8 aj,.string ak,.slice j k l,.int .i64 al,.int .i64 am]] I F Q :=
 tw (A:=(cK [4000,6002,8002,10000,13000,15000,18000,20001,23000,26001] [] [65,108] jw [(9,⟨[(5,(.int .u8)),(6,.bool),(7,.slc)],[],fun fs I0 F0 vs m I F=>match fs,vs with | [],[.int _ y0,.bool y1,.slice y2 y3 y4]=>Inv9 y0 y1 y2 y3 y4 I0 F0 I F | _,_=>False,[],[]⟩),(18,⟨[(7,.slc)],[],fun fs I0 F0 vs m I F=>match fs,vs with | [],[.slice y0 y1 y2]=>Inv18 y0 y1 y2 I0 F0 I F | _,_=>False,[],[]⟩),(64,⟨[(4,.any),(110,(.int .i64))],[],fun fs I0 F0 vs m I F=>match fs,vs with | [.slice y0 y1 y2],[y3,.int _ y4]=>Inv64 y0 y1 y2 y3 y4 m I0 F0 I F | _,_=>False,[7],[]⟩)] [5007,7004,11007,17005] [] [] [] [(9,[0,1,2,4,3,5,6,7,8]),(12,[0,1,2,4,3,5,6,7,8]),(14,[0,1,2,4,3,5,6,7,8]),(16,[0,1,2,4,3,5,6,7,8,9,10,11]),(19,[0,1,2,4,3,5,6,7,8])] [])) [65,108] func109 h
def gD.V(ka:Nat→Int→Int→Bs→Int→Int→Int→Int→Int→Bs→OA→Nat→Nat→Int→Int→Int→Int→Int→Int→Bs→OA→Nat→Nat→Int→Int→Int→Int→Int→Int→Bs→OA→Nat→Nat→Int→Int→Int→Int→Int→Int→Bs→OA→Nat→Nat→Int→Int→Nat×Obj)(ap:Nat→Nat×Obj)(vb vi:Int→Value)(vs:Bs→Value)(vl:OA→Nat→Nat→Value)(wr:Int→Int)(c:Addr)(aJ aK aL aM aN:Int)(aO:Bs)(aF:OA)(aG aH:Nat)(aP:Int)(aE:OA)(aC aQ:Nat)(aR:Int)(I:cc)(F:b8)(Q:cd)(Inv16:Value→Int→Nat→cc→b8→Prop):Prop:=∀aB:Nat,dg P 108 (#[.pointer (some c),.agg #[vb aJ,vb aK,vb aL,vi aM,vb aN,vs aO,vl aF aG aH,vi aP],vb 5]) I ((ap aB)::·) F fun e1 I1 G1=>∃(r:Value),e1=.returned r∧G1 fun F1=>∃q:Bool,cU P .neq 44 (.tmp 13) (.const (Value.nilIface)) r Value.nilIface q∧(It q (Q (.returned r) I1 F1) ((∃m:Nat,Inv16 Value.nilIface 0 m I1 F1)∧∀(x:Value) (x1:Int) (m1:Nat) (I2:cc) (F2:b8),cc.le I1 I2→Inv16 x x1 m1 I2 F2→(Dt (x1<(aC:Int)) ((0≤x1∧x1<(aC:Int))∧∃ad:Addr,aE=some ad∧∃(aq ar:Int) (au:Bs) (av aw ax ay az:Int) (aA:Bs) (k:OA) (l n:Nat) (p s t u v w:Int) (y:Bs) (a:OA) (b d:Nat) (z aa ab ac ae af:Int) (ag:Bs) (e:OA) (f g:Nat) (ah ai aj ak al am:Int) (an:Bs) (h:OA) (i j:Nat) (ao o:Int),Rd I2 ((ap aB)::F2) (ad.add (Int.toNat x1*36)) [vb aq,vb ar,vs au,vb av,vb aw,vb ax,vi ay,vb az,vs aA,vl k l n,vi p,vb s,vb t,vb u,vi v,vb w,vs y,vl a b d,vi z,vb aa,vb ab,vb ac,vi ae,vb af,vs ag,vl e f g,vi ah,vb ai,vb aj,vb ak,vi al,vb am,vs an,vl h i j,vi ao,vi o]∧∀aD:Nat,(Dt (x1>0) ((0≤(wr (x1-1))∧(wr (x1-1))<(aC:Int))∧∃aI:Addr,aE=some aI∧∃(m2:Int),Rd I2 ((ap aB)::(ka aD aq ar au av aw ax ay az aA k l n p s t u v w y a b d z aa ab ac ae af ag e f g ah ai aj ak al am an h i j ao o)::F2) ((aI.add (Int.toNat (wr (x1-1))*36)).add 0) [vb m2]∧(Dt (m2≥5) (dg P 65 (#[vi o,Value.iface 47 (vi 153)]) I2 ((ap aB)::(ka aD aq ar au av aw ax ay az aA k l n p s t u v w y a b d z aa ab ac ae af ag e f g ah ai aj ak al am an h i j ao o)::·) F2 fun e2 I3 G2=>∃(r1:Value),e2=.returned r1∧G2 fun F3=>Q (.returned r1) I3 F3) (dg P 109 (#[.pointer (some c),.agg #[vb aq,vb ar,vs au,vb av,vb aw,vb ax,vi ay,vb az,vs aA,vl k l n,vi p,vb s,vb t,vb u,vi v,vb w,vs y,vl a b d,vi z,vb aa,vb ab,vb ac,vi ae,vb af,vs ag,vl e f g,vi ah,vb ai,vb aj,vb ak,vi al,vb am,vs an,vl h i j,vi ao,vi o]]) I2 ((ap aB)::(ka aD aq ar au av aw ax ay az aA k l n p s t u v w y a b d z aa ab ac ae af ag e f g ah ai aj ak al am an h i j ao o)::·) F2 fun e3 I4 G3=>∃(r2:Value),e3=.returned r2∧G3 fun F4=>∃q1:Bool,cU P .neq 44 (.tmp 43) (.const (Value.nilIface)) r2 Value.nilIface q1∧(It q1 (Q (.returned r2) I4 F4) (∃m3:Nat,m3<m1∧Inv16 x (wr (x1+1)) m3 I4 F4))))) (dg P 109 (#[.pointer (some c),.agg #[vb aq,vb ar,vs au,vb av,vb aw,vb ax,vi ay,vb az,vs aA,vl k l n,vi p,vb s,vb t,vb u,vi v,vb w,vs y,vl a b d,vi z,vb aa,vb ab,vb ac,vi ae,vb af,vs ag,vl e f g,vi ah,vb ai,vb aj,vb ak,vi al,vb am,vs an,vl h i j,vi ao,vi o]]) I2 ((ap aB)::(ka aD aq ar au av aw ax ay az aA k l n p s t u v w y a b d z aa ab ac ae af ag e f g ah ai aj ak al am an h i j ao o)::·) F2 fun e4 I5 G4=>∃(r3:Value),e4=.returned r3∧G4 fun F5=>∃q2:Bool,cU P .neq 44 (.tmp 43) (.const (Value.nilIface)) r3 Value.nilIface q2∧(It q2 (Q (.returned r3) I5 F5) (∃m4:Nat,m4<m1∧Inv16 x (wr (x1+1)) m4 I5 F5))))) (Q (.returned (Value.nilIface)) I2 F2))))
theorem gD.vc{c:Addr}{aA aB aC aD aE:Int}{aF:Bs}{au:OA}{av aw:Nat}{aG:Int}{ax:OA}{ay az:Nat}{aH:Int}{I:cc}{F:b8}{Q:cd}(Inv16:Value→Int→Nat→cc→b8→Prop)(h:gD.V (fun W a b c d e f g h i j k l m n o p q r s t u v w x y z aa ab ac ad ae af ag ah ai aj ak al am an ao ap aq ar=>(W,Obj.cells #[.int .u8 a,.int .u8 b,.string c,.int .u8 d,.int .u8 e,.int .u8 f,.int .i64 g,.int .u8 h,.string i,.slice j k l,.int .i64 m,.int .u8 n,.int .u8 o,.int .u8 p,.int .i64 q,.int .u8 r,.string s,.slice t u v,.int .i64 w,.int .u8 x,.int .u8 y,.int .u8 z,.int .i64 aa,.int .u8 ab,.string ac,.slice ad ae af,.int .i64 ag,.int .u8 ah,.int .u8 ai,.int .u8 aj,.int .i64 ak,.int .u8 al,.string am,.slice an ao ap,.int .i64 aq,.int .i64 ar] 99 (0,0))) (fun b=>(b,Obj.cells #[.int .u8 aA,.int .u8 aB,.int .u8 aC,.int .i64 aD,.int .u8 aE,.string aF,.slice au av aw,.int .i64 aG,.slice ax ay az,.int .i64 aH] 84 (0,0))) (.int .u8) (.int .i64) .string .slice (IntKind.wrap .i64) c aA aB aC aD aE aF au av aw aG ax ay az aH I F Q Inv16):cf P 68 #[.pointer (some c),.agg #[.int .u8 aA,.int .u8 aB,.int .u8 aC,.int .i64 aD,.int .u8 aE,.string aF,.slice au av aw,.int .i64 aG,.slice ax ay az,.int .i64 aH]] I F Q :=
 tw (A:=(cK [2001,5000,7001,7010,10001] [] [65,108,109] jw [(16,⟨[(4,.any),(19,(.int .i64))],[],fun _ _ _ vs m I F=>match vs with | [y0,.int _ y1]=>Inv16 y0 y1 m I F | _=>False,[],[]⟩)] [] [] [] [] [] [])) [65,108,109] func68 h
end Go.Lx
namespace Go.Vc
def ll(R:Value→cc→Prop)(F:b8)(e:Ending)(I:cc)(G:b8):Prop:=∃v,e=.returned v∧R v I∧G=F
theorem Sat.still:∀(H:b8) {I:cc} {F:b8} {w:World},Sat I (H++F) w→∃J,cc.le I J∧(∀x∈H,J x.1=some x.2)∧Sat J F w
 | [],I,F,w,h=>⟨I,cc.le_refl I,fun x hx=>absurd hx (by simp),h⟩
 | (b,o)::H,I,F,w,h=>by
   obtain⟨h1,h2⟩:=Sat.lp (b:=b) (o:=o) h
   obtain⟨J,g1,g2,g3⟩:=Sat.still H h2
   refine⟨J,cc.le_trans h1 g1,fun x hx=>?_,g3⟩
   rcases List.mem_cons.1 hx with rfl | hx
   ·exact g1.at (by simp[cc.put])
   ·exact g2 x hx
section
variable {P:Program} {f:FuncId} {args:Array Value} {I:cc} {F:b8} {R:Value→cc→Prop}
theorem cf.still(h:cf P f args I F fun e I' G=>∃v H,e=.returned v∧G.Perm (H++F)∧∀J,cc.le I' J→(∀x∈H,J x.1=some x.2)→R v J):cf P f args I F (ll R F) :=
 h.keep fun e I' G w hl hs ⟨v,H,he,hp,hk⟩=>by
  obtain⟨J,g1,g2,g3⟩:=Sat.still H (hs.perm hp)
  exact⟨J,F,g1,g3,v,he,hk J g1 g2,rfl⟩
theorem cf.jQ{Q:Ending→cc→b8→Prop}(h:cf P f args I F (ll R F))(k:∀v I',cc.le I I'→R v I'→Q (.returned v) I' F):cf P f args I F Q :=
 h.mono fun e I' G hl ⟨v,he,hr,hG⟩=>by subst he hG;exact k v I' hl hr
end
def oy(P:Program)(t:TypeId):Bool:=match P.underlying t with
 | some (.interface _)=>true
 | _=>false
theorem p6{P:Program}{t:TypeId}(h:oy P t=true):∃ms,P.underlying t=some (.interface ms):=by
 unfold oy at h
 split at h
 ·rename_i ht;exact⟨_,ht⟩
 ·cases h
theorem yN{P:Program}{t:TypeId}(h:oy P t=true){x:Operand}:cU P .neq t x (.const .nilIface) .nilIface .nilIface false:=by
 obtain⟨ms,ht⟩:=p6 h
 intro w
 have he:(Op.equal t .nilIface .nilIface).run P w=.ok true w:=by
  show (Op.equalIn (9999+1) t .nilIface .nilIface).run P w=_
  unfold Op.equalIn
  simp[Sem.run_bind,c7 ht]
 simp[eqGuard,binOp,Sem.run_bind,he]
theorem wm{P:Program}{t:TypeId}(h:oy P t=true){x:Operand}{d:TypeId}{v:Value}:cU P .neq t x (.const .nilIface) (.iface d v) .nilIface true:=by
 obtain⟨ms,ht⟩:=p6 h
 intro w
 have he:(Op.equal t (.iface d v) .nilIface).run P w=.ok false w:=by
  show (Op.equalIn (9999+1) t (.iface d v) .nilIface).run P w=_
  unfold Op.equalIn
  simp[Sem.run_bind,c7 ht]
 simp[eqGuard,binOp,Sem.run_bind,he]
theorem sx{P:Program}{t:TypeId}(h:oy P t=true){x:Operand}:cU P .eql t x (.const .nilIface) .nilIface .nilIface true:=by
 obtain⟨ms,ht⟩:=p6 h
 intro w
 have he:(Op.equal t .nilIface .nilIface).run P w=.ok true w:=by
  show (Op.equalIn (9999+1) t .nilIface .nilIface).run P w=_
  unfold Op.equalIn
  simp[Sem.run_bind,c7 ht]
 simp[eqGuard,binOp,Sem.run_bind,he]
theorem tk{P:Program}{t:TypeId}(h:oy P t=true){x:Operand}{d:TypeId}{v:Value}:cU P .eql t x (.const .nilIface) (.iface d v) .nilIface false:=by
 obtain⟨ms,ht⟩:=p6 h
 intro w
 have he:(Op.equal t (.iface d v) .nilIface).run P w=.ok false w:=by
  show (Op.equalIn (9999+1) t (.iface d v) .nilIface).run P w=_
  unfold Op.equalIn
  simp[Sem.run_bind,c7 ht]
 simp[eqGuard,binOp,Sem.run_bind,he]
end Go.Vc
namespace Go.Lx
open Go.Vc
def yO:ByteArray:=⟨#[79,102]⟩
def xV:ByteArray:=⟨#[67,104,101,99,107]⟩
abbrev pg(e:Int):Value:=.iface 47 (.int .i64 e)
def A8(I:cc)(call:ByteArray)(pos:Int)(err v:Value):Prop:=∃b,v=.iface 89 (.pointer (some ⟨b,0,none⟩))∧I b=some (.cells #[.string call,.int .i64 pos,err] 93 (0,0))
theorem A8.mono{I J:cc}{call:ByteArray}{pos:Int}{err v:Value}(h:A8 I call pos err v)(hl:cc.le I J):A8 J call pos err v:=let ⟨b,h1,h2⟩:=h;⟨b,h1,hl.at h2⟩
def Gd(I:cc)(f:TF)(w:Value):Prop:=(f.e=0→w=.nilIface)∧(f.e≠0→A8 I yO f.pos (pg f.e) w)
theorem Gd.mono{I J:cc}{f:TF}{w:Value}(h:Gd I f w)(hl:cc.le I J):Gd J f w:=⟨h.1,fun he=>(h.2 he).mono hl⟩
theorem Gd.ok{I:cc}:Gd I sK .nilIface:=⟨fun _=>rfl,fun h=>absurd rfl h⟩
def Hh(r:Int×TF)(v:Value)(I:cc):Prop:=∃w,v=.tuple #[.int .u8 r.1,w]∧Gd I r.2 w
theorem Gd.neq{I:cc}{f:TF}{w:Value}(h:Gd I f w){t:TypeId}(ht:oy P t=true){x:Operand}:cU P .neq t x (.const .nilIface) w .nilIface (f.e != 0):=by
 by_cases he:f.e=0
 ·rw[h.1 he,he];exact yN ht
 ·obtain⟨b,hw,_⟩:=h.2 he
  rw[hw,show (f.e != 0)=true by simpa using he];exact wm ht
theorem fA(t:Int)(I:cc)(F:b8):cf P 151 #[.int .u8 t] I F (dS (.bool (fC t)) F):=by
 refine ov.vc ⟨fun h=>⟨?_,rfl⟩,fun h=>⟨?_,rfl⟩⟩<;>simp[fC] at h ⊢<;>omega
theorem tZ(t:Nd)(e:Int)(I:cc)(F:b8)(he:e≠0)(b:Bool):cf P 136 #[t.v,.int .i64 e] I F (ll (Hh (0,⟨e,t.pos,b⟩)) F):=by
 refine cf.still (lW.vc ?_)
 unfold lW.V
 intro b_n b1
 refine⟨_,[(b1,.cells #[.string yO,.int .i64 t.pos,pg e] 93 (0,0))],rfl,.refl _,fun J hJ hx=>⟨_,rfl,fun h=>absurd h he,fun _=>⟨b1,rfl, ?_⟩⟩⟩
 exact hx _ (List.mem_singleton.2 rfl)
def wo(k o cO a:Int):Int:=if k=9 then (if fC a then cO else 0) else if o=2∧a=5∨o≠2∧fC a then a else 0
theorem Ef(t:Nd)(a:Int)(I:cc)(F:b8):cf P 134 #[t.v,.int .u8 a] I F (dS (.int .u8 (wo t.kind t.oper t.cO a)) F):=by
 refine ky.vc ?_
 unfold ky.V
 unfold wo
 intro b_n
 refine⟨fun h9=>cf.ret (fA a I _) fun I1 l1=>⟨_,rfl,F,.refl _,fun hn=>?_,fun hn=>⟨fun _=>?_,fun h=>?_⟩⟩,fun h9=>⟨fun h=>?_,fun _=>⟨fun h2=>⟨fun h5=>?_,fun h5=>⟨fun h=>?_,fun _=>?_⟩⟩,fun h2=>⟨fun _=>cf.ret (fA a I _) fun I1 l1=>⟨_,rfl,F,.refl _,fun hn=>?_,fun hn=>?_⟩,fun h=>?_⟩⟩⟩⟩
 ·have h9:t.kind=9:=by simpa using h9
  rw[if_pos h9,if_pos hn];exact⟨rfl,rfl⟩
 ·have h9:t.kind=9:=by simpa using h9
  rw[if_pos h9,if_neg (by rw[hn];exact Bool.false_ne_true)];exact⟨rfl,rfl⟩
 ·rw[h9] at h;cases h
 ·rw[h9] at h;cases h
 ·have h9:t.kind≠9:=by simpa using h9
  have h2:t.oper=2:=by simpa using h2
  have h5:a=5:=by simpa using h5
  rw[if_neg h9,if_pos (.inl ⟨h2,h5⟩)];exact⟨rfl,rfl⟩
 ·have h2:t.oper=2:=by simpa using h2
  simp[h2] at h
 ·have h9:t.kind≠9:=by simpa using h9
  have h2:t.oper=2:=by simpa using h2
  have h5:a≠5:=by simpa using h5
  rw[if_neg h9,if_neg (by omega)];exact⟨rfl,rfl⟩
 ·have h9:t.kind≠9:=by simpa using h9
  have h2:t.oper≠2:=by simpa using h2
  rw[if_neg h9,if_pos (.inr ⟨h2,hn⟩)];exact⟨rfl,rfl⟩
 ·have h9:t.kind≠9:=by simpa using h9
  have h2:t.oper≠2:=by simpa using h2
  rw[if_neg h9,if_neg (by rw[hn];intro h;rcases h with h | h;exact h2 h.1;exact Bool.false_ne_true h.2)];exact⟨rfl,rfl⟩
 ·simp at h2 h;exact absurd h h2
def Eg(o a b:Int)(v:Value)(_:cc):Prop:=∃t,v=.tuple #[.int .u8 t,.bool (jZ o a b).2]∧((jZ o a b).2=true→t=(jZ o a b).1)
theorem dL{o a b t:Int}{r:Bool}{I:cc}{F:b8}(h1:r=(jZ o a b).2)(h2:r=true→t=(jZ o a b).1):ll (Eg o a b) F (.returned (.tuple #[.int .u8 t,.bool r])) I F :=
 ⟨_,rfl,⟨t,by rw[h1],h1▸h2⟩,rfl⟩
theorem jR{a:Int}:fC a=true↔1≤a∧a≤4:=by unfold fC;rw[decide_eq_true_eq]
theorem uE{a:Int}:fC a=false↔¬(1≤a∧a≤4):=by unfold fC;rw[decide_eq_false_iff_not]
theorem Eh{a b:Int}(ha:fC a=true)(hb:fC b=true):IntKind.wrap .u8 (a+b)=a+b:=by
 have:=jR.1 ha;have:=jR.1 hb
 unfold IntKind.wrap;simp[IntKind.bits,IntKind.signed];omega
theorem Ei(o a b:Int)(ho:4≤o∧o≤18)(I:cc)(F:b8):cf P 135 #[.int .u8 o,.int .u8 a,.int .u8 b] I F (ll (Eg o a b) F):=by
 refine kA.vc ?_
 unfold kA.V
 have e8:o=8→jZ o a b=(fw a b,fw a b != 0):=fun h=>by subst h;unfold jZ;rw[if_neg (by omega),if_pos rfl]
 have e9:o=9→jZ o a b=(rm a b,rm a b != 0):=fun h=>by subst h;unfold jZ;rw[if_neg (by omega),if_neg (by omega),if_pos rfl]
 have eq_:o=11∨o=12→jZ o a b=(5,a==b):=fun h=>by unfold jZ;rw[if_neg (by omega),if_neg (by omega),if_neg (by omega),if_pos h]
 have ea:o=17∨o=18→jZ o a b=(5,a==b&&a==5):=fun h=>by unfold jZ;rw[if_neg (by omega),if_neg (by omega),if_neg (by omega),if_neg (by omega),if_pos h]
 have el:o=13∨o=14∨o=15∨o=16→jZ o a b=(5,a==b&&fC a):=fun h=>by unfold jZ;rw[if_neg (by omega),if_neg (by omega),if_neg (by omega),if_neg (by omega),if_neg (by omega)]
 have es:o=4∨o=5∨o=6∨o=7∨o=10→jZ o a b=(a,a==b&&fC a):=fun h=>by unfold jZ;rw[if_pos (by omega)]
 have hless:∀{q:Int},(o==q)=true→o=q:=fun h=>by simpa using h
 have hnot:∀{q:Int},(o==q)=false→o≠q:=fun h=>by simpa using h
 have lt:o=13∨o=14∨o=15∨o=16→((a==b)=true→cf P 151 #[.int .u8 a] I F fun e7 I7 G7=>∃r:Bool,e7=.returned (.bool r)∧∃F7:b8,G7.Perm F7∧ll (Eg o a b) F (.returned (.tuple #[.int .u8 5,.bool r])) I7 F7)∧((a==b)=false→ll (Eg o a b) F (.returned (.tuple #[.int .u8 5,.bool false])) I F):=fun h =>
  ⟨fun hab=>cf.ret (fA a I _) fun I1 l1=>⟨_,rfl,F,.refl _,dL (by rw[el h,hab,Bool.true_and]) fun _=>by rw[el h]⟩,fun hab=>dL (by rw[el h,hab,Bool.false_and]) fun h=>by cases h⟩
 have an:o=17∨o=18→((a==b)=true→ll (Eg o a b) F (.returned (.tuple #[.int .u8 a,.bool (a==5)])) I F)∧((a==b)=false→ll (Eg o a b) F (.returned (.tuple #[.int .u8 a,.bool false])) I F):=fun h =>
  ⟨fun hab=>dL (by rw[ea h,hab,Bool.true_and]) fun h5=>by rw[ea h];simpa using h5,fun hab=>dL (by rw[ea h,hab,Bool.false_and]) fun h=>by cases h⟩
 refine⟨fun h8=>?_,fun h8=>⟨fun h9=>?_,fun h9=>⟨fun h=>dL (by rw[eq_ (.inl (hless h))]) fun _=>by rw[eq_ (.inl (hless h))],fun h11=>⟨fun h=>dL (by rw[eq_ (.inr (hless h))]) fun _=>by rw[eq_ (.inr (hless h))],fun h12=>⟨fun h=>an (.inl (hless h)),fun h17=>⟨fun h=>an (.inr (hless h)),fun h18=>⟨fun h=>lt (.inl (hless h)),fun h13=>⟨fun h=>lt (.inr (.inl (hless h))),fun h14=>⟨fun h=>lt (.inr (.inr (.inl (hless h)))),fun h15=>⟨fun h=>lt (.inr (.inr (.inr (hless h)))),fun h16=>?_⟩⟩⟩⟩⟩⟩⟩⟩⟩⟩
 ·have e:=e8 (hless h8)
  refine⟨fun h1=>cf.ret (fA b I _) fun I1 l1=>⟨_,rfl,F,.refl _, ?_⟩,fun h1=>⟨fun h2=>cf.ret (fA a I _) fun I1 l1=>⟨_,rfl,F,.refl _, ?_⟩,fun h2=>⟨fun h3=>⟨fun h4=>cf.ret (fA a I _) fun I1 l1=>⟨_,rfl,F,.refl _,fun h5=>cf.ret (fA b I1 _) fun I2 l2=>⟨_,rfl,F,.refl _, ?_⟩,fun h5=>?_⟩,fun h4=>?_⟩,fun h3=>?_⟩⟩⟩
  ·have h1:a=1:=by simpa using h1
   subst h1
   cases hb:fC b
   ·have:=uE.1 hb
    exact dL (by rw[e];unfold fw;simp[hb];omega) fun h=>by cases h
   ·have:=jR.1 hb
    exact dL (by rw[e];unfold fw;simp[hb];omega) fun _=>by rw[e];unfold fw;simp[hb]
  ·have h1:a≠1:=by simpa using h1
   have h2:b=1:=by simpa using h2
   subst h2
   cases hb:fC a
   ·have:=uE.1 hb
    exact dL (by rw[e];unfold fw;simp[hb,h1]) fun h=>by cases h
   ·have:=jR.1 hb
    exact dL (by rw[e];unfold fw;simp[hb,h1];omega) fun _=>by rw[e];unfold fw;simp[hb,h1]
  ·have h1:a≠1:=by simpa using h1
   have h2:b≠1:=by simpa using h2
   have h3:a≠b:=by simpa using h3
   have h4:IntKind.wrap .u8 (a+b)=5:=by simpa using h4
   have ha:=jR.1 h5
   cases hb:fC b
   ·have:=uE.1 hb
    have hz:fw a b=0:=by unfold fw;rw[if_neg (fun h=>h1 h.1),if_neg (fun h=>h2 h.1),if_neg (by omega)]
    exact dL (by rw[e,hz];rfl) fun h=>by cases h
   ·have:=jR.1 hb
    rw[Eh h5 hb] at h4
    have hz:fw a b=1:=by unfold fw;rw[if_neg (fun h=>h1 h.1),if_neg (fun h=>h2 h.1),if_pos (by omega)]
    exact dL (by rw[e,hz];rfl) fun _=>by rw[e,hz]
  ·have h1:a≠1:=by simpa using h1
   have h2:b≠1:=by simpa using h2
   have:=uE.1 h5
   have hz:fw a b=0:=by unfold fw;rw[if_neg (fun h=>h1 h.1),if_neg (fun h=>h2 h.1),if_neg (by omega)]
   exact dL (by rw[e,hz];rfl) fun h=>by cases h
  ·have h1:a≠1:=by simpa using h1
   have h2:b≠1:=by simpa using h2
   have hz:fw a b=0:=by
    unfold fw;rw[if_neg (fun h=>h1 h.1),if_neg (fun h=>h2 h.1),if_neg]
    intro h
    rcases h with ⟨rfl,rfl⟩ | ⟨rfl,rfl⟩<;>exact absurd h4 (by decide)
   exact dL (by rw[e,hz];rfl) fun h=>by cases h
  ·have h1:a≠1:=by simpa using h1
   have h2:b≠1:=by simpa using h2
   have h3:a=b:=by simpa using h3
   have hz:fw a b=0:=by unfold fw;rw[if_neg (fun h=>h1 h.1),if_neg (fun h=>h2 h.1),if_neg (by omega)]
   exact dL (by rw[e,hz];rfl) fun h=>by cases h
 ·have e:=e9 (hless h9)
  refine⟨fun h1=>cf.ret (fA a I _) fun I1 l1=>⟨_,rfl,F,.refl _, ?_⟩,fun h1=>⟨fun h2=>cf.ret (fA a I _) fun I1 l1=>⟨_,rfl,F,.refl _, ?_⟩,fun h2=>?_⟩⟩
  ·have h1:b=1:=by simpa using h1
   subst h1
   cases ha:fC a
   ·exact dL (by rw[e];unfold rm;simp[ha]) fun h=>by cases h
   ·have:=jR.1 ha
    exact dL (by rw[e];unfold rm;simp[ha];omega) fun _=>by rw[e];unfold rm;simp[ha]
  ·have h1:b≠1:=by simpa using h1
   have h2:a=b:=by simpa using h2
   subst h2
   cases ha:fC a
   ·exact dL (by rw[e];unfold rm;simp[ha]) fun h=>by cases h
   ·exact dL (by rw[e];unfold rm;simp[ha,h1]) fun _=>by rw[e];unfold rm;simp[ha,h1]
  ·have h1:b≠1:=by simpa using h1
   have h2:a≠b:=by simpa using h2
   exact dL (by rw[e];unfold rm;simp[h1,h2]) fun h=>by cases h
 ·have e:=es (by have:=hnot h8;have:=hnot h9;have:=hnot h11;have:=hnot h12;have:=hnot h17;have:=hnot h18;have:=hnot h13;have:=hnot h14;have:=hnot h15;have:=hnot h16;omega)
  exact⟨fun hab=>cf.ret (fA a I _) fun I1 l1=>⟨_,rfl,F,.refl _,dL (by rw[e,hab,Bool.true_and]) fun _=>by rw[e]⟩,fun hab=>dL (by rw[e,hab,Bool.false_and]) fun h=>by cases h⟩
def dG:List dh→ByteArray→Option Int
 | [],_=>none
 | r::l,k=>if k=r.name then some r.cO else dG l k
theorem mQ{a b:ByteArray}:(a.toList==b.toList)=true↔a=b:=by
 rw[beq_iff_eq]
 exact⟨He,fun h=>by rw[h]⟩
theorem xW(k:ByteArray):∀(l:List dh) (i:Int),0≤i→dG l k=if js k (l.map dh.name) i<0 then none else ((l[(js k (l.map dh.name) i-i).toNat]?).map dh.cO)
 | [],i,hi=>by rw[dG,List.map_nil,js,if_pos (by omega)]
 | r::l,i,hi=>by
   rw[dG,List.map_cons,js]
   by_cases h:k=r.name
   ·rw[if_pos h,if_pos (mQ.2 h.symm),if_neg (by omega)];simp
   ·rw[if_neg h,if_neg (fun h'=>h (mQ.1 h').symm),xW k l (i+1) (by omega)]
    by_cases hn:js k (l.map dh.name) (i+1)<0
    ·rw[if_pos hn,if_pos hn]
    ·rw[if_neg hn,if_neg hn]
     have hge:∀(l:List ByteArray) (j:Int),¬js k l j<0→j≤js k l j:=by
      intro l
      induction l with
      | nil=>intro j h;rw[js] at h;exact absurd (by decide) h
      | cons x r ih =>
        intro j h
        rw[js] at h ⊢
        split
        ·exact Int.le_refl _
        ·rename_i hx;rw[if_neg hx] at h;have:=ih (j+1) h;omega
     have:=hge _ _ hn
     rw[show (js k (l.map dh.name) (i+1)-i).toNat=(js k (l.map dh.name) (i+1)-(i+1)).toNat+1 by omega,List.getElem?_cons_succ]
theorem Fx(k:ByteArray):∀(l:List ByteArray) (j:Int),¬js k l j<0→j≤js k l j∧js k l j<j+l.length
 | [],j,h=>by rw[js] at h;exact absurd (by decide) h
 | x::r,j,h=>by
   rw[js] at h ⊢
   split
   ·rw[List.length_cons];exact⟨Int.le_refl _,by omega⟩
   ·rename_i hx;rw[if_neg hx] at h;have:=Fx k r (j+1) h;rw[List.length_cons];omega
theorem wq(s:cu)(k:ByteArray):dG s.regs k=if s.fG k<0 then none else some (s.ko (s.fG k)):=by
 rw[xW k s.regs 0 (by omega)]
 unfold cu.ko cu.fG
 by_cases h:js k (s.regs.map dh.name) 0<0
 ·rw[if_pos h,if_pos h]
 ·rw[if_neg h,if_neg h]
  obtain⟨h1,h2⟩:=Fx k _ _ h
  rw[List.length_map] at h2
  rw[Int.sub_zero]
  have hlt:(js k (s.regs.map dh.name) 0).toNat<s.regs.length:=by omega
  rw[List.getElem?_eq_getElem hlt];rfl
theorem ph(k:ByteArray)(r:dh):∀l:List dh,dG (l++[r]) k=match dG l k with
  | some t=>some t
  | none=>if k=r.name then some r.cO else none
 | []=>by rw[List.nil_append,dG,dG,dG]
 | x::l=>by
   rw[List.cons_append,dG,dG]
   by_cases h:k=x.name
   ·rw[if_pos h,if_pos h]
   ·rw[if_neg h,if_neg h,ph k r l]
def C7(I:cc)(c:Nat)(s:cu)(m1 m2:Nat):Prop:=∃m0 es ck,I c=some (.cells #[.map (some m0),.map (some m1),.map (some m2)] 164 (0,0))∧I m0=some (.map es ck)∧kY Value.string (Value.int .u8) (dG s.regs) es ck
theorem C7.mono{I J:cc}{c:Nat}{s:cu}{m1 m2:Nat}(h:C7 I c s m1 m2)(hl:cc.le I J):C7 J c s m1 m2:=let ⟨m0,es,ck,h1,h2,h3⟩:=h;⟨m0,es,ck,hl.at h1,hl.at h2,h3⟩
theorem GG:P.underlying 161=some (.map 9 24):=by kernel_rfl
theorem GH:P.underlying 162=some (.map 9 3):=by kernel_rfl
theorem AF:P.underlying 9=some .string:=by kernel_rfl
theorem Fy:(P.info? 24).map (·.zero)=some (some (.int .u8 0)):=by kernel_rfl
theorem Fz:(P.info? 3).map (·.zero)=some (some (.int .i64 0)):=by kernel_rfl
theorem AG{x:Px}(h:x.formed=true)(h0:x.kids.length=0):x.kind=1∨x.kind=2∨x.kind=3∨x.kind=4:=by
 rcases Classical.em (x.kind=1) with h1 | h1
 ·exact .inl h1
 rcases Classical.em (x.kind=2) with h2 | h2
 ·exact .inr (.inl h2)
 rcases Classical.em (x.kind=3) with h3 | h3
 ·exact .inr (.inr (.inl h3))
 rcases Classical.em (x.kind=4) with h4 | h4
 ·exact .inr (.inr (.inr h4))
 rcases Classical.em (x.kind=7) with h7 | h7
 ·have:=tV h h7;omega
 rcases Classical.em (x.kind=9) with h9 | h9
 ·have:=tW h h9;omega
 have:=tX h h1 h2 h3 h4 h7 h9
 omega
theorem Cf{x:Px}(h:x.formed=true)(hk:x.kind=9):x.cO≠0:=by
 have h1:=(fm h).1
 unfold Px.zV at h1
 rw[if_neg (by omega),if_neg (by omega),if_neg (by omega),if_neg (by omega),if_neg (by omega),if_neg (by omega),if_neg (by omega),if_neg (by omega),if_pos hk] at h1
 have:=of_decide_eq_true h1
 omega
theorem Cg{x:Px}(h:x.formed=true)(h2:x.kids.length=2):x.kind≠1∧x.kind≠2∧x.kind≠3∧x.kind≠4∧x.kind≠7∧x.kind≠9∧((x.kind=6∧6≤x.oper∧x.oper≤18)∨(x.kind=8∧(x.oper=4∨x.oper=5))):=by
 obtain⟨g1,g2⟩:=fm h
 rw[h2] at g2
 unfold Px.arity at g2
 unfold Px.zV at g1
 split at g2
 ·omega
 ·rename_i k59
  split at g2
  ·rename_i k6
   rw[if_neg (by omega),if_neg (by omega),if_neg (by omega),if_neg (by omega),if_neg (by omega),if_pos k6] at g1
   have:=of_decide_eq_true g1
   omega
  ·split at g2
   ·omega
   ·split at g2
    ·rename_i k8
     rw[if_neg (by omega),if_neg (by omega),if_neg (by omega),if_neg (by omega),if_neg (by omega),if_neg (by omega),if_neg (by omega),if_pos k8] at g1
     have:=of_decide_eq_true g1
     split at g2<;>omega
    ·omega
theorem FA{x:Px}(h:x.formed=true)(h2:x.kids.length=1):x.kind≠1∧x.kind≠2∧x.kind≠3∧x.kind≠4∧x.kind≠7∧x.kind≠6:=by
 obtain⟨g1,g2⟩:=fm h
 rw[h2] at g2
 unfold Px.arity at g2
 split at g2
 ·omega
 ·split at g2
  ·omega
  ·split at g2
   ·omega
   ·split at g2<;>omega
theorem FB{x:Px}(h:x.formed=true)(h2:3≤x.kids.length):x.kind=7∧x.kids.length=3:=by
 obtain⟨g1,g2⟩:=fm h
 unfold Px.arity at g2
 split at g2
 ·omega
 ·split at g2
  ·omega
  ·split at g2
   ·exact⟨by assumption,g2⟩
   ·split at g2
    ·split at g2<;>omega
    ·omega
theorem Ej{s:cw}{c m1 m2:Nat}(t:Nd)(hf:t.px.formed=true)(h0:t.kids.length=0)(I:cc)(F:b8)(hS:C7 I c s.p m1 m2) :
  cf P 133 #[.pointer (some ⟨c,0,none⟩),t.v] I F (ll (Hh (eA s.p t.px [])) F):=by
 refine gB.vc ?_
 unfold gB.V
 have hk:t.kind=1∨t.kind=2∨t.kind=3∨t.kind=4:=by
  have:=AG hf (by rw[Nd.ja,h0]);rwa [Nd.cG] at this
 have hfld:t.kind=3→1≤t.field∧t.field≤6:=fun h=>by
  have:=sk hf (by rw[Nd.cG];exact h);rwa [Nd.gQ] at this
 have ok:∀{J:cc} {x:Int},eA s.p t.px []=(x,sK)→ll (Hh (eA s.p t.px [])) F (.returned (.tuple #[.int .u8 x,.nilIface])) J F:=fun e=>by rw[e];exact⟨_,rfl,⟨_,rfl,Gd.ok⟩,rfl⟩
 have eN:∀{x:Int},(t.kind=2→¬s.p.fG t.name<0)→iY s.p t.px []=(x,true)→eA s.p t.px []=(x,sK):=fun hn e=>by
  unfold eA;rw[Nd.cG,Nd.fF,if_neg (fun h=>hn h.1 h.2),e,if_pos rfl]
 have e1:t.kind=1→eA s.p t.px []=(t.cO,sK):=fun h=>eN (fun h2=>by omega) (by
  unfold iY;rw[Nd.cG,Nd.gJ,if_pos h])
 have e4:t.kind=4→eA s.p t.px []=(5,sK):=fun h=>eN (fun h2=>by omega) (by
  unfold iY;rw[Nd.cG,if_neg (by omega),if_neg (by omega),if_neg (by omega),if_pos h])
 have e3:t.kind=3→eA s.p t.px []=(iX yD (t.field-1).toNat,sK):=fun h=>eN (fun h2=>by omega) (by
  unfold iY;rw[Nd.cG,Nd.gQ,if_neg (by omega),if_neg (by omega),if_pos h])
 intro b_n
 refine⟨fun h=>ok (e1 (by simpa using h)),fun h1=>⟨fun h=>ok (e4 (by simpa using h)),fun h4=>⟨fun h=>?_,fun h2=>?_⟩⟩⟩
 ·have h2:t.kind=2:=by simpa using h
  obtain⟨m0,es,ck,hc,hm,hg⟩:=hS
  refine⟨_,rfl,some m0,⟨rfl,_,_,_,.inl hc,fun j hj=>?_⟩, ?_⟩
  ·have:j=0:=by simpa using hj
   subst this;rfl
  refine cF.mono (tb GG AF lG str_inj Fy hg (.inl hm) t.name) fun v I1 G hl ⟨hv,hI,hG⟩=>?_
  subst hI hG
  rw[wq] at hv
  by_cases hr:s.p.fG t.name<0
  ·rw[if_pos hr] at hv
   refine⟨0,false,hv,F,.refl _,fun h=>(by cases h),fun _=>?_⟩
   refine cf.jQ (tZ t 151 I1 _ (by decide) true) fun v1 I2 l2 ⟨w,hv1,hw⟩=>?_
   refine⟨_,_,by rw[hv1],F,.refl _,_,rfl,⟨w, ?_, ?_⟩,rfl⟩
   ·unfold eA;rw[Nd.cG,Nd.fF,if_pos ⟨h2,hr⟩]
   ·unfold eA;rw[Nd.cG,Nd.fF,if_pos ⟨h2,hr⟩,Nd.qX];exact hw
  ·rw[if_neg hr] at hv
   refine⟨s.p.ko (s.p.fG t.name),true,hv,F,.refl _,fun _=>ok ?_,fun h=>by cases h⟩
   exact eN (fun _=>hr) (by unfold iY;rw[Nd.cG,Nd.fF,if_neg (by omega),if_pos h2])
 ·have h3:t.kind=3:=by simp at h1 h4 h2;omega
  obtain⟨f1,f2⟩:=hfld h3
  refine⟨fun h=>ok ?_,fun h5=>⟨fun h=>ok ?_,fun h4=>⟨fun h=>ok ?_,fun h6=>ok ?_⟩⟩⟩<;>rw[e3 h3]
  ·rw[show t.field=5 by simpa using h];rfl
  ·rw[show t.field=4 by simpa using h];rfl
  ·rw[show t.field=6 by simpa using h];rfl
  ·have:t.field=1∨t.field=2∨t.field=3:=by simp at h5 h4 h6;omega
   rcases this with h | h | h<;>rw[h]<;>rfl
def lO(ts:List Int):Obj:=.cells #[.int .u8 (iX ts 0),.int .u8 (iX ts 1),.int .u8 (iX ts 2)] 204 (0,0)
theorem sy(b n:Nat):(⟨b,0,none⟩:Addr).add n=⟨b,n,none⟩:=by unfold Addr.add;split<;>simp_all
theorem wu{I:cc}{G:b8}{b:Nat}{ts:List Int}(h:(b,lO ts)∈G){i:Nat}(hi:i<3):Rd I G ((⟨b,0,none⟩:Addr).add i) [.int .u8 (iX ts i)]:=by
 rw[sy]
 refine⟨rfl,_,_,_,.inr h,fun j hj=>?_⟩
 have:j=0:=by simpa using hj
 subst this
 match i,hi with
 | 0,_=>rfl
 | 1,_=>rfl
 | 2,_=>rfl
theorem H0{ts:List Int}(x:Int)(h:ts.length<3):Obj.cells (cj ts.length [Value.int .u8 x] [.int .u8 (iX ts 0),.int .u8 (iX ts 1),.int .u8 (iX ts 2)]).toArray 204 (0,0)=lO (ts++[x]):=by
 match ts,h with
 | [],_=>rfl
 | [a],_=>rfl
 | [a,b],_=>rfl
theorem Ch{x:Px}(h:x.formed=true):x.kids.length≤3:=by
 rw[(fm h).2]
 unfold Px.arity
 repeat' split
 all_goals omega
def FC(k o cO a:Int):Int×Bool:=if k=9 then (cO,fC a) else if o=2 then (5,a==5) else (a,fC a)
theorem H5(k o cO a:Int)(ht:k=9→cO≠0):((FC k o cO a).2=true↔wo k o cO a≠0)∧(wo k o cO a≠0→(FC k o cO a).1=wo k o cO a):=by
 have h0:fC a=true→a≠0:=fun h=>by have:=jR.1 h;omega
 unfold FC wo
 by_cases h9:k=9
 ·by_cases hn:fC a=true
  ·simp[h9,hn,ht h9]
  ·simp[h9,hn]
 ·by_cases ho:o=2
  ·by_cases h5:a=5
   ·simp[h9,ho,h5]
   ·simp[h9,ho,h5]
  ·by_cases hn:fC a=true
   ·simp[h9,ho,hn,h0 hn]
   ·simp[h9,ho,hn]
set_option maxHeartbeats 1000000 in
theorem C8{s:cw}{c m1 m2:Nat}:∀(t:Nd),t.px.formed=true→∀(I:cc) (F:b8),C7 I c s.p m1 m2→cC I F t →
  cf P 107 #[.pointer (some ⟨c,0,none⟩),t.v] I F (ll (Hh (typed s.p t.px)) F):=by
 refine Nd.ind fun t ih hf I F hS ht=>cf.still ?_
 have ekid:t.px.kids=t.kids.map Nd.px:=Nd.db t
 have hlen:t.kids.length≤3:=by have:=Ch hf;rwa [Nd.ja] at this
 refine iQ.vc (fun nA lA x x1 i m I0 F0 I' F'=>0≤i∧i≤t.kids.length∧m=(t.kids.length-i).toNat∧(∀k∈t.kids.take i.toNat,(typed s.p k.px).2.e=0) ∧
  ∃b,lA=some (⟨b,0,none⟩:Addr)∧F'.Perm ((b,lO ((t.kids.take i.toNat).map fun k=>(typed s.p k.px).1))::F)) ?_
 unfold iQ.V
 intro b_n b_l
 refine⟨⟨_,by omega,by omega,rfl,fun k hk=>by simp at hk,b_l,rfl,.refl _⟩,fun x x1 i m I1 F1 l1 ⟨g0,g1,gm,hall,b,hb,hF1⟩=>?_⟩
 obtain rfl:b_l=b:=by simpa using hb
 have hS1:C7 I1 c s.p m1 m2:=hS.mono l1
 have hsub:∀y,y∈F→y∈F1:=fun y hy=>hF1.mem_iff.2 (List.mem_cons_of_mem _ hy)
 have ht1:cC I1 F1 t:=ht.mono l1 hsub
 refine⟨fun hlt=>?_,fun hlt=>?_⟩
 ·have hlt:=of_decide_eq_true hlt
  obtain⟨ad,k,had,hk,hrd,hko,hkm⟩:=ht1.kids.at g0 hlt
  have hkf:=Px.ib hf k.px (by rw[ekid];exact List.mem_map_of_mem hkm)
  have hbad:(typed s.p k.px).2.e≠0→typed s.p t.px=(0,(typed s.p k.px).2):=fun he=>xS (i:=i.toNat) (fun y hy=>by
   rw[ekid,←List.map_take] at hy
   obtain⟨z,hz,rfl⟩:=List.mem_map.1 hy
   exact hall z hz) (by rw[ekid,List.getElem?_map,hk];rfl) he
  refine⟨⟨g0,hlt⟩,ad,had,_,_,_,_,_,_,_,_,_,_,hrd.sub (cc.le_refl _) (fun y hy=>.tail _ hy), ?_⟩
  intro b_k
  refine cf.jQ (ih k hkm hkf I1 _ hS1 (hko.mono (cc.le_refl _) fun y hy=>.tail _ (.tail _ hy))) fun v I2 l2 ⟨w,hv,hw⟩=>?_
  refine⟨_,_,by rw[hv],F1,.refl _,_,hw.neq (by kernel_rfl),fun hq=>?_,fun hq=>?_⟩
  ·have he:(typed s.p k.px).2.e≠0:=by simpa using hq
   refine⟨_,[_],rfl,hF1,fun J hJ hx=>?_⟩
   rw[hbad he]
   exact⟨w,rfl,hw.mono hJ⟩
  ·have he:(typed s.p k.px).2.e=0:=by simpa using hq
   have hl3:(((t.kids.take i.toNat).map fun k=>(typed s.p k.px).1)).length=i.toNat:=by rw[List.length_map,List.length_take];omega
   refine⟨⟨g0,by omega⟩,_,_,F,by rw[sy];exact hF1,by rw[sy],by rw[sy];simp only[List.length_cons,List.length_nil];omega,(t.kids.length-(i+1)).toNat,by omega, ?_⟩
   rw[cY (n:=i+1) (by omega)]
   refine⟨by omega,by omega,rfl, ?_,b_l,rfl, ?_⟩
   ·rw[show (i+1).toNat=i.toNat+1 by omega]
    exact we hk hall he
   ·rw[sy,show (i+1).toNat=i.toNat+1 by omega,iw hk,←H0 _ (by rw[hl3];omega),hl3,Nat.mul_one]
 ·have hlt:=of_decide_eq_false hlt
  rw[List.take_of_length_le (l:=t.kids) (i:=i.toNat) (by omega)] at hall hF1
  have hty:typed s.p t.px=eA s.p t.px (t.kids.map fun k=>(typed s.p k.px).1):=by
   rw[Az (fun k hk=>by
    rw[ekid] at hk
    obtain⟨z,hz,rfl⟩:=List.mem_map.1 hk
    exact hall z hz),ekid,List.map_map]
   rfl
  rw[hty]
  have htl:(t.kids.map fun k=>(typed s.p k.px).1).length=t.kids.length:=List.length_map ..
  generalize (t.kids.map fun k=>(typed s.p k.px).1)=ts at hF1 htl ⊢
  have hmem:∀y:Nat×Obj,(b_l,lO ts)∈y::F1:=fun y=>.tail _ (hF1.mem_iff.2 (.head _))
  have ek:t.px.kind=t.kind:=Nd.cG t
  have wr:∀{J:cc} {G:b8},eA s.p t.px ts=(0,⟨152,t.pos,true⟩)→cf P 136 #[t.v,.int .i64 152] J G (ll (Hh (eA s.p t.px ts)) G):=fun e=>by
   rw[e];exact tZ t 152 _ _ (by decide) true
  have fin:∀{J:cc} {x:Int},eA s.p t.px ts=(x,sK)→∃v H,Ending.returned (Value.tuple #[.int .u8 x,.nilIface])=.returned v∧F1.Perm (H++F)∧∀K,cc.le J K→(∀z∈H,K z.1=some z.2)→Hh (eA s.p t.px ts) v K :=
   fun e=>⟨_,[_],rfl,hF1,fun K hJ hx=>by rw[e];exact⟨_,rfl,Gd.ok⟩⟩
  have finw:∀{J:cc} {v:Value},Hh (eA s.p t.px ts) v J→∃v1 H,Ending.returned v=.returned v1∧F1.Perm (H++F)∧∀K,cc.le J K→(∀z∈H,K z.1=some z.2)→Hh (eA s.p t.px ts) v1 K :=
   fun ⟨w,hv,hw⟩=>⟨_,[_],rfl,hF1,fun K hJ hx=>⟨w,hv,hw.mono hJ⟩⟩
  have eN:¬t.kind=2→eA s.p t.px ts=if (iY s.p t.px ts).2 then ((iY s.p t.px ts).1,sK) else (0,⟨152,t.pos,true⟩):=fun h2=>by
   unfold eA;rw[ek,if_neg (fun h=>h2 h.1),Nd.qX]
  refine⟨fun h=>?_,fun h=>⟨fun h1=>?_,fun h1=>⟨fun h2=>?_,fun h2=>?_⟩⟩⟩
  ·have h0:t.kids.length=0:=by simpa using h
   obtain rfl:ts=[]:=List.length_eq_zero_iff.1 (by omega)
   refine cf.jQ (Ej t hf h0 I1 _ hS1) fun v I3 l3 hv=>?_
   obtain⟨w,hv1,hw⟩:=id hv
   exact⟨_,_,by rw[hv1],F1,.refl _,by rw[←hv1];exact finw hv⟩
  ·have h1:t.kids.length=1:=by simp at h1;omega
   obtain⟨n1,n2,n3,n4,n7,n6⟩:=FA hf (by rw[Nd.ja,h1])
   rw[ek] at n1 n2 n3 n4 n7 n6
   have hn:iY s.p t.px ts=FC t.kind t.oper t.cO (iX ts 0):=by
    unfold iY FC
    rw[ek,Nd.gJ,Nd.eP,if_neg n1,if_neg n2,if_neg n3,if_neg n4,if_neg n7,if_neg (show ¬ts.length=2 by omega)]
   have hty:t.kind=9→t.cO≠0:=fun h9=>by have:=Cf hf (by rw[ek];exact h9);rwa [Nd.gJ] at this
   obtain⟨ho1,ho2⟩:=H5 t.kind t.oper t.cO (iX ts 0) hty
   have hE:wo t.kind t.oper t.cO (iX ts 0)≠0→eA s.p t.px ts=(wo t.kind t.oper t.cO (iX ts 0),sK):=fun h=>by
    rw[eN n2,hn,if_pos (ho1.2 h),ho2 h]
   have hN:wo t.kind t.oper t.cO (iX ts 0)=0→eA s.p t.px ts=(0,⟨152,t.pos,true⟩):=fun h=>by
    rw[eN n2,hn,if_neg (fun h'=>ho1.1 h' h)]
   refine⟨⟨by omega,by omega⟩,iX ts 0,wu (i:=0) (hmem _) (by decide), ?_⟩
   refine cf.ret (Ef t (iX ts 0) I1 _) fun I3 l3=>⟨_,rfl,F1,.refl _,fun hz=>?_,fun hz=>?_⟩
   ·have hz:wo t.kind t.oper t.cO (iX ts 0)=0:=by simpa using hz
    refine cf.jQ (wr (hN hz)) fun v I4 l4 hv=>?_
    obtain⟨w,hv1,hw⟩:=id hv
    exact⟨_,_,by rw[hv1],F1,.refl _,by rw[←hv1];exact finw hv⟩
   ·have hz:wo t.kind t.oper t.cO (iX ts 0)≠0:=by simpa using hz
    exact fin (hE hz)
  ·have h2:t.kids.length=2:=by simp at h2;omega
   obtain⟨n1,n2,n3,n4,n7,n9,ho⟩:=Cg hf (by rw[Nd.ja,h2])
   rw[ek] at n1 n2 n3 n4 n7 n9
   have hn:iY s.p t.px ts=jZ t.oper (iX ts 0) (iX ts 1):=by
    unfold iY
    rw[ek,Nd.eP,if_neg n1,if_neg n2,if_neg n3,if_neg n4,if_neg n7,if_neg n9,if_pos (show ts.length=2 by omega)]
   rw[Nd.eP] at ho
   refine⟨⟨by omega,by omega⟩,iX ts 0,wu (i:=0) (hmem _) (by decide),⟨by omega,by omega⟩,iX ts 1,wu (i:=1) (hmem _) (by decide), ?_⟩
   refine cf.jQ (Ei t.oper (iX ts 0) (iX ts 1) (by omega) I1 _) fun v I3 l3 ⟨x,hv,hx⟩=>⟨_,_,congrArg Ending.returned hv,F1,.refl _,fun hz=>?_,fun hz=>?_⟩
   ·have hz:(jZ t.oper (iX ts 0) (iX ts 1)).2=false:=by simpa using hz
    have e:eA s.p t.px ts=(0,⟨152,t.pos,true⟩):=by rw[eN n2,hn,hz];rfl
    refine cf.jQ (wr e) fun v I4 l4 hv=>?_
    obtain⟨w,hv1,hw⟩:=id hv
    exact⟨_,_,by rw[hv1],F1,.refl _,by rw[←hv1];exact finw hv⟩
   ·have hz:(jZ t.oper (iX ts 0) (iX ts 1)).2=true:=by simpa using hz
    exact fin (by rw[eN n2,hn,if_pos hz,←hx hz])
  ·have h3:3≤t.px.kids.length:=by
    rw[Nd.ja]
    have g0:t.kids.length≠0:=fun e=>by rw[e] at h;cases h
    have g1:t.kids.length≠1:=fun e=>by rw[e] at h1;cases h1
    have g2:t.kids.length≠2:=fun e=>by rw[e] at h2;cases h2
    omega
   obtain⟨k7,k3⟩:=FB hf h3
   rw[Nd.ja] at k3
   rw[ek] at k7
   have hn:iY s.p t.px ts=(iX ts 1,iX ts 0==5&&iX ts 1==iX ts 2):=by
    unfold iY
    rw[ek,if_neg (show ¬t.kind=1 by omega),if_neg (show ¬t.kind=2 by omega),if_neg (show ¬t.kind=3 by omega),if_neg (show ¬t.kind=4 by omega),if_pos k7]
   have n2:¬t.kind=2:=by omega
   refine⟨⟨by omega,by omega⟩,iX ts 1,wu (i:=1) (hmem _) (by decide),⟨by omega,by omega⟩,iX ts 0,wu (i:=0) (hmem _) (by decide),fun h5=>⟨⟨by omega,by omega⟩,iX ts 1,wu (i:=1) (hmem _) (by decide),⟨by omega,by omega⟩,iX ts 2,wu (i:=2) (hmem _) (by decide),fun hz=>?_,fun hz=>?_⟩,fun h5=>⟨fun _=>?_,fun h=>(by cases h)⟩⟩
   ·have e:eA s.p t.px ts=(0,⟨152,t.pos,true⟩):=by
     rw[eN n2,hn]
     have:(iX ts 1==iX ts 2)=false:=by simpa using hz
     rw[this,Bool.and_false];rfl
    refine cf.jQ (wr e) fun v I4 l4 hv=>?_
    obtain⟨w,hv1,hw⟩:=id hv
    exact⟨_,_,by rw[hv1],F1,.refl _,by rw[←hv1];exact finw hv⟩
   ·have h12:(iX ts 1==iX ts 2)=true:=by simpa using hz
    exact fin (by rw[eN n2,hn,h5,h12];rfl)
   ·have e:eA s.p t.px ts=(0,⟨152,t.pos,true⟩):=by
     rw[eN n2,hn,h5,Bool.false_and];rfl
    refine cf.jQ (wr e) fun v I4 l4 hv=>?_
    obtain⟨w,hv1,hw⟩:=id hv
    exact⟨_,_,by rw[hv1],F1,.refl _,by rw[←hv1];exact finw hv⟩
end Go.Lx
namespace Go.As
open Go.RowKit Go.Extern.Stop Go.Stop Go.Extern
theorem JH(z:Sem Value)(f:TypeId→Addr→Nat→Nat→Sem Value)(v:Value) :
  ReflectliteValue.method z f #[v]=(do match ←ReflectliteValue.parts v with | none=>z | some (t,a,fl)=>f t a fl (fl % 32)):=rfl
theorem Kd(v x:Value):ReflectliteValue.set #[v,x]=(do
  let (some (dst,a,fl),some (src,b,_)):=(←ReflectliteValue.parts v,←ReflectliteValue.parts x)
   | unsupported (.noEntry "extern/(internal/reflectlite.Value).Set.zeroValue")
  if fl / ReflectliteValue.flagAddr % 2==0 then unsupported (.noEntry "extern/(internal/reflectlite.Value).Set.unaddressable")
  let val ←loadVar src b
  if ←Rtype.directlyAssignable dst src then storeVar dst a val
  else if ←Rtype.implements dst src then
   if (←Rtype.kind src)==20 then
    match val with
    | .nilIface=>unsupported (.noEntry "extern/reflectlite: a nil value of one interface type handed on as a value of another")
    | _=>storeVar dst a val
   else storeVar dst a (.iface src val)
  else panicString ("reflectlite.Set: value of type " ++ (←Rtype.spelt src) ++ " is not assignable to type " ++ (←Rtype.spelt dst))
  pure (.tuple #[])):=rfl
theorem wv(h:Value)(w:World):(Go.method 359 171 (.agg #[h]) "Kind").run Go.Proofs.Tryz.prog w=.ok (189,h) w:=by kernel_rfl
theorem wz(h:Value)(w:World):(Go.method 359 171 (.agg #[h]) "Elem").run Go.Proofs.Tryz.prog w=.ok (201,.agg #[h]) w:=by kernel_rfl
theorem mR(h:Value)(w:World):(Go.method 359 171 (.agg #[h]) "Implements").run Go.Proofs.Tryz.prog w=.ok (202,.agg #[h]) w:=by kernel_rfl
theorem ez(h:Value)(w:World):(Go.method 359 171 (.agg #[h]) "AssignableTo").run Go.Proofs.Tryz.prog w=.ok (199,.agg #[h]) w:=by kernel_rfl
theorem FD(t:Addr)(w:World):(ReflectliteValue.unpack (.iface 91 (.pointer (some t)))).run Go.Proofs.Tryz.prog w=.ok (.agg #[.pointer (some ⟨1,91,none⟩),.pointer (some ⟨w.heap.size,0,none⟩),.int .u64 150]) (w.alloc (.cells #[.pointer (some t)] 91)):=by kernel_rfl
theorem Jg(a:Addr)(w:World):(ReflectliteValue.methodAny (ReflectliteValue.valueError "reflectlite.Value.Type" 0) (fun t _ _ _=>ReflectliteType.toType t) #[(.agg #[.pointer (some ⟨1,91,none⟩),.pointer (some a),.int .u64 150])]).run Go.Proofs.Tryz.prog w=.ok (.iface 171 (.agg #[.pointer (some ⟨1,91,none⟩)])) w:=by kernel_rfl
theorem H6(w:World):((ReflectliteType.abiMethod fun t=>(fun a:Nat=>Value.int IntKind.u8 (a:Int)) <$> Rtype.kind t) #[.pointer (some ⟨1,91,none⟩)]).run Go.Proofs.Tryz.prog w=.ok (.int .u8 22) w:=by kernel_rfl
theorem Jh(w:World):((ReflectliteType.abiMethod fun t=>(fun a:Nat=>Value.int IntKind.u8 (a:Int)) <$> Rtype.kind t) #[.pointer (some ⟨1,89,none⟩)]).run Go.Proofs.Tryz.prog w=.ok (.int .u8 22) w:=by kernel_rfl
theorem C9(a:Addr)(w:World):(ReflectliteValue.parts (.agg #[.pointer (some ⟨1,91,none⟩),.pointer (some a),.int .u64 150])).run Go.Proofs.Tryz.prog w=.ok (some (91,a,150)) w:=by kernel_rfl
theorem Da:Go.Proofs.Tryz.prog.underlying 91=some (.pointer 89):=by kernel_rfl
theorem H7(a p:Addr)(W:World)(ha:W.cell? a=some (.pointer (some p))) :
  (ReflectliteValue.method (ReflectliteValue.valueError "reflectlite.Value.IsNil" 0) ReflectliteValue.isNil #[(.agg #[.pointer (some ⟨1,91,none⟩),.pointer (some a),.int .u64 150])]).run Go.Proofs.Tryz.prog W=.ok (.bool false) W:=by
 rw[JH]
 simp only[Sem.run_bind,C9,Result.andThen]
 simp[ReflectliteValue.isNil,loadVar,isAgg,underlying,Da,ha,Result.andThen]
theorem Ji(w:World):(ReflectliteType.method ReflectliteType.elem #[.agg #[.pointer (some ⟨1,91,none⟩)]]).run Go.Proofs.Tryz.prog w=.ok (.iface 171 (.agg #[.pointer (some ⟨1,89,none⟩)])) w:=by kernel_rfl
theorem Jj(w:World):(ReflectliteType.relation "Implements" ReflectliteType.implements_ #[.agg #[.pointer (some ⟨1,89,none⟩)],.iface 171 (.agg #[.pointer (some ⟨1,44,none⟩)])]).run Go.Proofs.Tryz.prog w=.ok (.bool true) w:=by kernel_rfl
theorem yP(v:Value)(w:World):(ReflectliteType.typeOf #[.iface 89 v]).run Go.Proofs.Tryz.prog w=.ok (.iface 171 (.agg #[.pointer (some ⟨1,89,none⟩)])) w:=by kernel_rfl
theorem GI(w:World):(Rtype.elem? 91).run Go.Proofs.Tryz.prog w=.ok (some 89) w:=by kernel_rfl
theorem Kg(p:Addr)(w:World):(ReflectliteValue.mk 89 p ReflectliteValue.flagAddr).run Go.Proofs.Tryz.prog w=.ok (.agg #[.pointer (some ⟨1,89,none⟩),.pointer (some p),.int .u64 406]) w:=by kernel_rfl
theorem H8(a p:Addr)(W:World)(ha:W.cell? a=some (.pointer (some p))) :
  (ReflectliteValue.method (ReflectliteValue.valueError "reflectlite.Value.Elem" 0) ReflectliteValue.elem #[(.agg #[.pointer (some ⟨1,91,none⟩),.pointer (some a),.int .u64 150])]).run Go.Proofs.Tryz.prog W=.ok (.agg #[.pointer (some ⟨1,89,none⟩),.pointer (some p),.int .u64 406]) W:=by
 rw[JH]
 simp only[Sem.run_bind,C9,Result.andThen]
 simp[ReflectliteValue.elem,loadVar,isAgg,underlying,Da,ha,Result.andThen,GI,Kg]
theorem GJ(a:Addr)(w:World):(ReflectliteValue.parts (.agg #[.pointer (some ⟨1,89,none⟩),.pointer (some a),.int .u64 406])).run Go.Proofs.Tryz.prog w=.ok (some (89,a,406)) w:=by kernel_rfl
theorem H9(a:Addr)(w:World):(ReflectliteValue.parts (.agg #[.pointer (some ⟨1,89,none⟩),.pointer (some a),.int .u64 150])).run Go.Proofs.Tryz.prog w=.ok (some (89,a,150)) w:=by kernel_rfl
theorem GK(w:World):(Rtype.directlyAssignable 89 89).run Go.Proofs.Tryz.prog w=.ok true w:=by kernel_rfl
theorem Ia:Go.Proofs.Tryz.prog.underlying 89=some (.pointer 93):=by kernel_rfl
theorem Ib(x:Addr)(w:World):(ReflectliteValue.unpack (.iface 89 (.pointer (some x)))).run Go.Proofs.Tryz.prog w=.ok (.agg #[.pointer (some ⟨1,89,none⟩),.pointer (some ⟨w.heap.size,0,none⟩),.int .u64 150]) (w.alloc (.cells #[.pointer (some x)] 89)):=by kernel_rfl
theorem JU(ta b:Addr)(x:Addr)(old:Value)(W:World)(hb:W.cell? b=some (.pointer (some x)))(ht:W.cell? ta=some old)(hf:W.frozen? ta=false) :
  (ReflectliteValue.set #[(.agg #[.pointer (some ⟨1,89,none⟩),.pointer (some ta),.int .u64 406]),(.agg #[.pointer (some ⟨1,89,none⟩),.pointer (some b),.int .u64 150])]).run Go.Proofs.Tryz.prog W=.ok (.tuple #[]) (W.setCell ta (.pointer (some x))):=by
 rw[Kd]
 simp only[Sem.run_bind,GJ,H9,Result.andThen]
 simp[ReflectliteValue.flagAddr,loadVar,isAgg,underlying,Ia,hb,Result.andThen,GK,storeVar,Value.cells,storeCells,Addr.add]
 rw[run_store Go.Proofs.Tryz.prog W ta _ _ (by rfl)]
 simp[ht,hf]
theorem FE(t:Addr)(w:World):(ReflectliteValue.unpack (.iface 94 (.pointer (some t)))).run Go.Proofs.Tryz.prog w=.ok (.agg #[.pointer (some ⟨1,94,none⟩),.pointer (some ⟨w.heap.size,0,none⟩),.int .u64 150]) (w.alloc (.cells #[.pointer (some t)] 94)):=by kernel_rfl
theorem Jk(a:Addr)(w:World):(ReflectliteValue.methodAny (ReflectliteValue.valueError "reflectlite.Value.Type" 0) (fun t _ _ _=>ReflectliteType.toType t) #[(.agg #[.pointer (some ⟨1,94,none⟩),.pointer (some a),.int .u64 150])]).run Go.Proofs.Tryz.prog w=.ok (.iface 171 (.agg #[.pointer (some ⟨1,94,none⟩)])) w:=by kernel_rfl
theorem Ic(w:World):((ReflectliteType.abiMethod fun t=>(fun a:Nat=>Value.int IntKind.u8 (a:Int)) <$> Rtype.kind t) #[.pointer (some ⟨1,94,none⟩)]).run Go.Proofs.Tryz.prog w=.ok (.int .u8 22) w:=by kernel_rfl
theorem Jl(w:World):((ReflectliteType.abiMethod fun t=>(fun a:Nat=>Value.int IntKind.u8 (a:Int)) <$> Rtype.kind t) #[.pointer (some ⟨1,47,none⟩)]).run Go.Proofs.Tryz.prog w=.ok (.int .u8 2) w:=by kernel_rfl
theorem Db(a:Addr)(w:World):(ReflectliteValue.parts (.agg #[.pointer (some ⟨1,94,none⟩),.pointer (some a),.int .u64 150])).run Go.Proofs.Tryz.prog w=.ok (some (94,a,150)) w:=by kernel_rfl
theorem Dc:Go.Proofs.Tryz.prog.underlying 94=some (.pointer 47):=by kernel_rfl
theorem Ie(a p:Addr)(W:World)(ha:W.cell? a=some (.pointer (some p))) :
  (ReflectliteValue.method (ReflectliteValue.valueError "reflectlite.Value.IsNil" 0) ReflectliteValue.isNil #[(.agg #[.pointer (some ⟨1,94,none⟩),.pointer (some a),.int .u64 150])]).run Go.Proofs.Tryz.prog W=.ok (.bool false) W:=by
 rw[JH]
 simp only[Sem.run_bind,Db,Result.andThen]
 simp[ReflectliteValue.isNil,loadVar,isAgg,underlying,Dc,ha,Result.andThen]
theorem Jm(w:World):(ReflectliteType.method ReflectliteType.elem #[.agg #[.pointer (some ⟨1,94,none⟩)]]).run Go.Proofs.Tryz.prog w=.ok (.iface 171 (.agg #[.pointer (some ⟨1,47,none⟩)])) w:=by kernel_rfl
theorem Jn(w:World):(ReflectliteType.relation "Implements" ReflectliteType.implements_ #[.agg #[.pointer (some ⟨1,47,none⟩)],.iface 171 (.agg #[.pointer (some ⟨1,44,none⟩)])]).run Go.Proofs.Tryz.prog w=.ok (.bool true) w:=by kernel_rfl
theorem uF(v:Value)(w:World):(ReflectliteType.typeOf #[.iface 47 v]).run Go.Proofs.Tryz.prog w=.ok (.iface 171 (.agg #[.pointer (some ⟨1,47,none⟩)])) w:=by kernel_rfl
theorem GL(w:World):(Rtype.elem? 94).run Go.Proofs.Tryz.prog w=.ok (some 47) w:=by kernel_rfl
theorem Kh(p:Addr)(w:World):(ReflectliteValue.mk 47 p ReflectliteValue.flagAddr).run Go.Proofs.Tryz.prog w=.ok (.agg #[.pointer (some ⟨1,47,none⟩),.pointer (some p),.int .u64 386]) w:=by kernel_rfl
theorem Ci(a p:Addr)(W:World)(ha:W.cell? a=some (.pointer (some p))) :
  (ReflectliteValue.method (ReflectliteValue.valueError "reflectlite.Value.Elem" 0) ReflectliteValue.elem #[(.agg #[.pointer (some ⟨1,94,none⟩),.pointer (some a),.int .u64 150])]).run Go.Proofs.Tryz.prog W=.ok (.agg #[.pointer (some ⟨1,47,none⟩),.pointer (some p),.int .u64 386]) W:=by
 rw[JH]
 simp only[Sem.run_bind,Db,Result.andThen]
 simp[ReflectliteValue.elem,loadVar,isAgg,underlying,Dc,ha,Result.andThen,GL,Kh]
theorem GM(a:Addr)(w:World):(ReflectliteValue.parts (.agg #[.pointer (some ⟨1,47,none⟩),.pointer (some a),.int .u64 386])).run Go.Proofs.Tryz.prog w=.ok (some (47,a,386)) w:=by kernel_rfl
theorem Ig(a:Addr)(w:World):(ReflectliteValue.parts (.agg #[.pointer (some ⟨1,47,none⟩),.pointer (some a),.int .u64 130])).run Go.Proofs.Tryz.prog w=.ok (some (47,a,130)) w:=by kernel_rfl
theorem GN(w:World):(Rtype.directlyAssignable 47 47).run Go.Proofs.Tryz.prog w=.ok true w:=by kernel_rfl
theorem Ih:Go.Proofs.Tryz.prog.underlying 47=some (.int .i64):=by kernel_rfl
theorem Cj(x:Int)(w:World):(ReflectliteValue.unpack (.iface 47 (.int .i64 x))).run Go.Proofs.Tryz.prog w=.ok (.agg #[.pointer (some ⟨1,47,none⟩),.pointer (some ⟨w.heap.size,0,none⟩),.int .u64 130]) (w.alloc (.cells #[.int .i64 x] 47)):=by kernel_rfl
theorem Ij(ta b:Addr)(x:Int)(old:Value)(W:World)(hb:W.cell? b=some (.int .i64 x))(ht:W.cell? ta=some old)(hf:W.frozen? ta=false) :
  (ReflectliteValue.set #[(.agg #[.pointer (some ⟨1,47,none⟩),.pointer (some ta),.int .u64 386]),(.agg #[.pointer (some ⟨1,47,none⟩),.pointer (some b),.int .u64 130])]).run Go.Proofs.Tryz.prog W=.ok (.tuple #[]) (W.setCell ta (.int .i64 x)):=by
 rw[Kd]
 simp only[Sem.run_bind,GM,Ig,Result.andThen]
 simp[ReflectliteValue.flagAddr,loadVar,isAgg,underlying,Ih,hb,Result.andThen,GN,storeVar,Value.cells,storeCells,Addr.add]
 rw[run_store Go.Proofs.Tryz.prog W ta _ _ (by rfl)]
 simp[ht,hf]
theorem FF(w:World):(ReflectliteType.relation "AssignableTo" ReflectliteType.assignableTo #[.agg #[.pointer (some ⟨1,89,none⟩)],.iface 171 (.agg #[.pointer (some ⟨1,89,none⟩)])]).run Go.Proofs.Tryz.prog w=.ok (.bool true) w:=by kernel_rfl
theorem AH(w:World):(ReflectliteType.relation "AssignableTo" ReflectliteType.assignableTo #[.agg #[.pointer (some ⟨1,89,none⟩)],.iface 171 (.agg #[.pointer (some ⟨1,47,none⟩)])]).run Go.Proofs.Tryz.prog w=.ok (.bool false) w:=by kernel_rfl
theorem FG(w:World):(ReflectliteType.relation "AssignableTo" ReflectliteType.assignableTo #[.agg #[.pointer (some ⟨1,47,none⟩)],.iface 171 (.agg #[.pointer (some ⟨1,89,none⟩)])]).run Go.Proofs.Tryz.prog w=.ok (.bool false) w:=by kernel_rfl
theorem wA(w:World):(ReflectliteType.relation "AssignableTo" ReflectliteType.assignableTo #[.agg #[.pointer (some ⟨1,47,none⟩)],.iface 171 (.agg #[.pointer (some ⟨1,47,none⟩)])]).run Go.Proofs.Tryz.prog w=.ok (.bool true) w:=by kernel_rfl
theorem Hi(v:Value)(xT:TypeId)(w:World):(Instr.typeAssert (.iface 89 v) xT 176 true).run Go.Proofs.Tryz.prog w=.ok (.tuple #[.nilIface,.bool false]) w:=run_typeAssert_lacksB Go.Proofs.Tryz.underlying176 (by kernel_rfl) (by kernel_rfl) v xT w
theorem Hj(v:Value)(xT:TypeId)(w:World):(Instr.typeAssert (.iface 89 v) xT 179 true).run Go.Proofs.Tryz.prog w=.ok (.tuple #[.iface 89 v,.bool true]) w:=run_typeAssert_hasB Go.Proofs.Tryz.underlying179 (by kernel_rfl) v xT w
theorem Jo(v:Value)(xT:TypeId)(w:World):(Instr.typeAssert (.iface 47 v) xT 176 true).run Go.Proofs.Tryz.prog w=.ok (.tuple #[.nilIface,.bool false]) w:=run_typeAssert_lacksB Go.Proofs.Tryz.underlying176 (by kernel_rfl) (by kernel_rfl) v xT w
theorem Jp(v:Value)(xT:TypeId)(w:World):(Instr.typeAssert (.iface 47 v) xT 179 true).run Go.Proofs.Tryz.prog w=.ok (.tuple #[.nilIface,.bool false]) w:=run_typeAssert_lacksB Go.Proofs.Tryz.underlying179 (by kernel_rfl) (by kernel_rfl) v xT w
theorem Jq(v:Value)(xT:TypeId)(w:World):(Instr.typeAssert (.iface 47 v) xT 181 true).run Go.Proofs.Tryz.prog w=.ok (.tuple #[.nilIface,.bool false]) w:=run_typeAssert_lacksB Go.Proofs.Tryz.underlying181 (by kernel_rfl) (by kernel_rfl) v xT w
theorem sB(e:Addr)(w:World):(Go.method 359 89 (.pointer (some e)) "Unwrap").run Go.Proofs.Tryz.prog w=.ok (194,.pointer (some e)) w:=by kernel_rfl
abbrev JV:Value:=.iface 171 (.agg #[.pointer (some ⟨1,89,none⟩)])
abbrev JI:Value:=.iface 171 (.agg #[.pointer (some ⟨1,47,none⟩)])
abbrev wS(PT:Nat)(a:Addr):Obj:=.cells #[.pointer (some ⟨1,PT,none⟩),.pointer (some a),.int .u64 150] 120
set_option maxHeartbeats 4000000 in
theorem Jr(e t a:Addr)(old tgt:Value)(w:World)(ha:w.cell? a=some (.pointer (some t)))(ht0:w.cell? t=some old)(hf0:w.frozen? t=false) :
  Calls Go.Proofs.Tryz.prog 72 #[.iface 89 (.pointer (some e)),tgt,.agg #[.pointer (some ⟨1,91,none⟩),.pointer (some a),.int .u64 150],JV] w fun ev w'=>ev=.returned (.bool true) ∧
   w'=((w.alloc (wS 91 a)).alloc (.cells #[.pointer (some e)] 89)).setCell t (.pointer (some e)):=by
 have hTO:=@run_callFunc_extern Go.Proofs.Tryz.prog 110 _ ReflectliteType.typeOf Go.Proofs.Tryz.func110 (by kernel_rfl) (by kernel_rfl) (by kernel_rfl) (by kernel_rfl)
 have hA:=@run_callFunc_extern Go.Proofs.Tryz.prog 199 _ (ReflectliteType.relation "AssignableTo" ReflectliteType.assignableTo) Go.Proofs.Tryz.func199 (by kernel_rfl) (by kernel_rfl) (by kernel_rfl) (by kernel_rfl)
 have hVE:=@run_callFunc_extern Go.Proofs.Tryz.prog 111 _ (ReflectliteValue.method (ReflectliteValue.valueError "reflectlite.Value.Elem" 0) ReflectliteValue.elem) Go.Proofs.Tryz.func111 (by kernel_rfl) (by kernel_rfl) (by kernel_rfl) (by kernel_rfl)
 have hS:=@run_callFunc_extern Go.Proofs.Tryz.prog 112 _ ReflectliteValue.set Go.Proofs.Tryz.func112 (by kernel_rfl) (by kernel_rfl) (by kernel_rfl) (by kernel_rfl)
 have hV:=@run_callFunc_extern Go.Proofs.Tryz.prog 69 _ (fun args=>ReflectliteValue.unpack (args.getD 0 (.tuple #[]))) Go.Proofs.Tryz.func69 (by kernel_rfl) (by kernel_rfl) (by kernel_rfl) (by kernel_rfl)
 have tO:=yP
 have mA:=ez
 have aF:=FF
 have vF:=Ib
 have hal:a.block<w.heap.size:=by
  rcases Nat.lt_or_ge a.block w.heap.size with h | h
  ·exact h
  ·simp[World.cell?,Array.getElem?_eq_none h] at ha
 have htl:t.block<w.heap.size:=by
  rcases Nat.lt_or_ge t.block w.heap.size with h | h
  ·exact h
  ·simp[World.cell?,Array.getElem?_eq_none h] at ht0
 have el:=H8 a t (w.alloc (wS 91 a)) (by rw[World.cell?_alloc_lt _ _ a hal];exact ha)
 have st:=JU t ⟨w.heap.size+1,0,none⟩ e old ((w.alloc (wS 91 a)).alloc (.cells #[.pointer (some e)] 89))
  (by rw[World.cell?_alloc_at _ _ _ _ (by simp)];rfl)
  (by rw[World.cell?_alloc_lt _ _ t (by simp;omega),World.cell?_alloc_lt _ _ t htl];exact ht0)
  (by rw[World.frozen?_alloc_old _ _ t (by simp;omega),World.frozen?_alloc_old _ _ t (Nat.ne_of_lt htl)];exact hf0)
 go_enter Go.Proofs.Tryz.func72,Go.Proofs.Tryz.ntmps72
 go_wp2
 refine wp_loop_rounds 1 ?_
 rw[rounds_succ]
 go_wp2
 go_ret
 exact⟨rfl,rfl⟩
set_option maxHeartbeats 4000000 in
theorem Js(n:Int)(a:Addr)(tgt:Value)(w:World) :
  Calls Go.Proofs.Tryz.prog 72 #[.iface 47 (.int .i64 n),tgt,.agg #[.pointer (some ⟨1,91,none⟩),.pointer (some a),.int .u64 150],JV] w fun ev w'=>ev=.returned (.bool false) ∧
   w'=w.alloc (wS 91 a):=by
 have hTO:=@run_callFunc_extern Go.Proofs.Tryz.prog 110 _ ReflectliteType.typeOf Go.Proofs.Tryz.func110 (by kernel_rfl) (by kernel_rfl) (by kernel_rfl) (by kernel_rfl)
 have hA:=@run_callFunc_extern Go.Proofs.Tryz.prog 199 _ (ReflectliteType.relation "AssignableTo" ReflectliteType.assignableTo) Go.Proofs.Tryz.func199 (by kernel_rfl) (by kernel_rfl) (by kernel_rfl) (by kernel_rfl)
 have tO:=uF
 have mA:=ez
 have aF:=FG
 have t1:=Jo
 have t2:=Jp
 have t3:=Jq
 go_enter Go.Proofs.Tryz.func72,Go.Proofs.Tryz.ntmps72
 go_wp2
 refine wp_loop_rounds 1 ?_
 rw[rounds_succ]
 go_wp2
 go_ret
 exact⟨rfl,rfl⟩
set_option maxHeartbeats 4000000 in
theorem Jt(n:Int)(t a:Addr)(old tgt:Value)(w:World)(ha:w.cell? a=some (.pointer (some t)))(ht0:w.cell? t=some old)(hf0:w.frozen? t=false) :
  Calls Go.Proofs.Tryz.prog 72 #[.iface 47 (.int .i64 n),tgt,.agg #[.pointer (some ⟨1,94,none⟩),.pointer (some a),.int .u64 150],JI] w fun ev w'=>ev=.returned (.bool true) ∧
   w'=((w.alloc (wS 94 a)).alloc (.cells #[.int .i64 n] 47)).setCell t (.int .i64 n):=by
 have hTO:=@run_callFunc_extern Go.Proofs.Tryz.prog 110 _ ReflectliteType.typeOf Go.Proofs.Tryz.func110 (by kernel_rfl) (by kernel_rfl) (by kernel_rfl) (by kernel_rfl)
 have hA:=@run_callFunc_extern Go.Proofs.Tryz.prog 199 _ (ReflectliteType.relation "AssignableTo" ReflectliteType.assignableTo) Go.Proofs.Tryz.func199 (by kernel_rfl) (by kernel_rfl) (by kernel_rfl) (by kernel_rfl)
 have hVE:=@run_callFunc_extern Go.Proofs.Tryz.prog 111 _ (ReflectliteValue.method (ReflectliteValue.valueError "reflectlite.Value.Elem" 0) ReflectliteValue.elem) Go.Proofs.Tryz.func111 (by kernel_rfl) (by kernel_rfl) (by kernel_rfl) (by kernel_rfl)
 have hS:=@run_callFunc_extern Go.Proofs.Tryz.prog 112 _ ReflectliteValue.set Go.Proofs.Tryz.func112 (by kernel_rfl) (by kernel_rfl) (by kernel_rfl) (by kernel_rfl)
 have hV:=@run_callFunc_extern Go.Proofs.Tryz.prog 69 _ (fun args=>ReflectliteValue.unpack (args.getD 0 (.tuple #[]))) Go.Proofs.Tryz.func69 (by kernel_rfl) (by kernel_rfl) (by kernel_rfl) (by kernel_rfl)
 have tO:=uF
 have mA:=ez
 have aE:=wA
 have vE:=Cj
 have hal:a.block<w.heap.size:=by
  rcases Nat.lt_or_ge a.block w.heap.size with h | h
  ·exact h
  ·simp[World.cell?,Array.getElem?_eq_none h] at ha
 have htl:t.block<w.heap.size:=by
  rcases Nat.lt_or_ge t.block w.heap.size with h | h
  ·exact h
  ·simp[World.cell?,Array.getElem?_eq_none h] at ht0
 have el:=Ci a t (w.alloc (wS 94 a)) (by rw[World.cell?_alloc_lt _ _ a hal];exact ha)
 have st:=Ij t ⟨w.heap.size+1,0,none⟩ n old ((w.alloc (wS 94 a)).alloc (.cells #[.int .i64 n] 47))
  (by rw[World.cell?_alloc_at _ _ _ _ (by simp)];rfl)
  (by rw[World.cell?_alloc_lt _ _ t (by simp;omega),World.cell?_alloc_lt _ _ t htl];exact ht0)
  (by rw[World.frozen?_alloc_old _ _ t (by simp;omega),World.frozen?_alloc_old _ _ t (Nat.ne_of_lt htl)];exact hf0)
 go_enter Go.Proofs.Tryz.func72,Go.Proofs.Tryz.ntmps72
 go_wp2
 refine wp_loop_rounds 1 ?_
 rw[rounds_succ]
 go_wp2
 go_ret
 exact⟨rfl,rfl⟩
abbrev Cl:Value:=.iface 171 (.agg #[.pointer (some ⟨1,44,none⟩)])
set_option maxHeartbeats 4000000 in
theorem Ju(d:TypeId)(v:Value)(t:Addr)(w w2:World)(r:Bool)(hg:w.cell? ⟨0,0,none⟩=some Cl)
  (h:Calls Go.Proofs.Tryz.prog 72 #[.iface d v,.iface 91 (.pointer (some t)),.agg #[.pointer (some ⟨1,91,none⟩),.pointer (some ⟨w.heap.size,0,none⟩),.int .u64 150],JV] ((w.alloc (.cells #[.pointer (some t)] 91)).alloc (wS 91 ⟨w.heap.size,0,none⟩)) fun ev w'=>ev=.returned (.bool r)∧w'=w2) :
  Calls Go.Proofs.Tryz.prog 44 #[.iface d v,.iface 91 (.pointer (some t))] w fun ev w'=>ev=.returned (.bool r)∧w'=w2:=by
 have hV:=@run_callFunc_extern Go.Proofs.Tryz.prog 69 _ (fun args=>ReflectliteValue.unpack (args.getD 0 (.tuple #[]))) Go.Proofs.Tryz.func69 (by kernel_rfl) (by kernel_rfl) (by kernel_rfl) (by kernel_rfl)
 have hT:=@run_callFunc_extern Go.Proofs.Tryz.prog 70 _ (ReflectliteValue.methodAny (ReflectliteValue.valueError "reflectlite.Value.Type" 0) (fun t _ _ _=>ReflectliteType.toType t)) Go.Proofs.Tryz.func70 (by kernel_rfl) (by kernel_rfl) (by kernel_rfl) (by kernel_rfl)
 have hN:=@run_callFunc_extern Go.Proofs.Tryz.prog 71 _ (ReflectliteValue.method (ReflectliteValue.valueError "reflectlite.Value.IsNil" 0) ReflectliteValue.isNil) Go.Proofs.Tryz.func71 (by kernel_rfl) (by kernel_rfl) (by kernel_rfl) (by kernel_rfl)
 have hK:=@run_callFunc_extern Go.Proofs.Tryz.prog 189 _ (ReflectliteType.abiMethod fun t=>do pure (.int .u8 (←Rtype.kind t))) Go.Proofs.Tryz.func189 (by kernel_rfl) (by kernel_rfl) (by kernel_rfl) (by kernel_rfl)
 have hE:=@run_callFunc_extern Go.Proofs.Tryz.prog 201 _ (ReflectliteType.method ReflectliteType.elem) Go.Proofs.Tryz.func201 (by kernel_rfl) (by kernel_rfl) (by kernel_rfl) (by kernel_rfl)
 have hI:=@run_callFunc_extern Go.Proofs.Tryz.prog 202 _ (ReflectliteType.relation "Implements" ReflectliteType.implements_) Go.Proofs.Tryz.func202 (by kernel_rfl) (by kernel_rfl) (by kernel_rfl) (by kernel_rfl)
 have f6:=FD
 have f7:=Jg
 have mK:=wv
 have mE:=wz
 have mI:=mR
 have kP:=H6
 have kT:=Jh
 have eT:=Ji
 have iT:=Jj
 have n8:=H7 ⟨w.heap.size,0,none⟩ t ((w.alloc (.cells #[.pointer (some t)] 91)).alloc (wS 91 ⟨w.heap.size,0,none⟩)) (by simp)
 have hlt:0<w.heap.size:=by
  rcases Nat.eq_zero_or_pos w.heap.size with h0 | h
  ·simp[World.cell?,h0] at hg
  ·exact h
 have hg2:((w.alloc (.cells #[.pointer (some t)] 91)).alloc (wS 91 ⟨w.heap.size,0,none⟩)).cell? ⟨0,0,none⟩=some Cl:=by
  rw[World.cell?_alloc_lt _ _ ⟨0,0,none⟩ (by simp),World.cell?_alloc_lt _ _ ⟨0,0,none⟩ hlt];exact hg
 go_enter Go.Proofs.Tryz.func44,Go.Proofs.Tryz.ntmps44
 go_wp2_with (first | (go_at_call 72;refine h.mono ?_;rintro e w' ⟨rfl,rfl⟩))
 go_ret
 exact⟨rfl,rfl⟩
set_option maxHeartbeats 4000000 in
theorem Il(d:TypeId)(v:Value)(t:Addr)(w w2:World)(r:Bool)(hg:w.cell? ⟨0,0,none⟩=some Cl)
  (h:Calls Go.Proofs.Tryz.prog 72 #[.iface d v,.iface 94 (.pointer (some t)),.agg #[.pointer (some ⟨1,94,none⟩),.pointer (some ⟨w.heap.size,0,none⟩),.int .u64 150],JI] ((w.alloc (.cells #[.pointer (some t)] 94)).alloc (wS 94 ⟨w.heap.size,0,none⟩)) fun ev w'=>ev=.returned (.bool r)∧w'=w2) :
  Calls Go.Proofs.Tryz.prog 44 #[.iface d v,.iface 94 (.pointer (some t))] w fun ev w'=>ev=.returned (.bool r)∧w'=w2:=by
 have hV:=@run_callFunc_extern Go.Proofs.Tryz.prog 69 _ (fun args=>ReflectliteValue.unpack (args.getD 0 (.tuple #[]))) Go.Proofs.Tryz.func69 (by kernel_rfl) (by kernel_rfl) (by kernel_rfl) (by kernel_rfl)
 have hT:=@run_callFunc_extern Go.Proofs.Tryz.prog 70 _ (ReflectliteValue.methodAny (ReflectliteValue.valueError "reflectlite.Value.Type" 0) (fun t _ _ _=>ReflectliteType.toType t)) Go.Proofs.Tryz.func70 (by kernel_rfl) (by kernel_rfl) (by kernel_rfl) (by kernel_rfl)
 have hN:=@run_callFunc_extern Go.Proofs.Tryz.prog 71 _ (ReflectliteValue.method (ReflectliteValue.valueError "reflectlite.Value.IsNil" 0) ReflectliteValue.isNil) Go.Proofs.Tryz.func71 (by kernel_rfl) (by kernel_rfl) (by kernel_rfl) (by kernel_rfl)
 have hK:=@run_callFunc_extern Go.Proofs.Tryz.prog 189 _ (ReflectliteType.abiMethod fun t=>do pure (.int .u8 (←Rtype.kind t))) Go.Proofs.Tryz.func189 (by kernel_rfl) (by kernel_rfl) (by kernel_rfl) (by kernel_rfl)
 have hE:=@run_callFunc_extern Go.Proofs.Tryz.prog 201 _ (ReflectliteType.method ReflectliteType.elem) Go.Proofs.Tryz.func201 (by kernel_rfl) (by kernel_rfl) (by kernel_rfl) (by kernel_rfl)
 have hI:=@run_callFunc_extern Go.Proofs.Tryz.prog 202 _ (ReflectliteType.relation "Implements" ReflectliteType.implements_) Go.Proofs.Tryz.func202 (by kernel_rfl) (by kernel_rfl) (by kernel_rfl) (by kernel_rfl)
 have f6:=FE
 have f7:=Jk
 have mK:=wv
 have mE:=wz
 have mI:=mR
 have kP:=Ic
 have kT:=Jl
 have eT:=Jm
 have iT:=Jn
 have n8:=Ie ⟨w.heap.size,0,none⟩ t ((w.alloc (.cells #[.pointer (some t)] 94)).alloc (wS 94 ⟨w.heap.size,0,none⟩)) (by simp)
 have hlt:0<w.heap.size:=by
  rcases Nat.eq_zero_or_pos w.heap.size with h0 | h
  ·simp[World.cell?,h0] at hg
  ·exact h
 have hg2:((w.alloc (.cells #[.pointer (some t)] 94)).alloc (wS 94 ⟨w.heap.size,0,none⟩)).cell? ⟨0,0,none⟩=some Cl:=by
  rw[World.cell?_alloc_lt _ _ ⟨0,0,none⟩ (by simp),World.cell?_alloc_lt _ _ ⟨0,0,none⟩ hlt];exact hg
 go_enter Go.Proofs.Tryz.func44,Go.Proofs.Tryz.ntmps44
 go_wp2_with (first | (go_at_call 72;refine h.mono ?_;rintro e w' ⟨rfl,rfl⟩))
 go_ret
 exact⟨rfl,rfl⟩
open Go.Vc (Sat)
theorem Cm(b:Nat)(v:Value)(w:World)(he:w.cell? ⟨b,2,none⟩=some v):Calls Go.Proofs.Tryz.prog 194 #[.pointer (some ⟨b,0,none⟩)] w fun ev w'=>ev=.returned v∧w'=w:=by
 go_enter Go.Proofs.Tryz.func194,Go.Proofs.Tryz.ntmps194
 go_wp2
 go_ret
 exact⟨rfl,rfl⟩
set_option maxHeartbeats 4000000 in
theorem Im(b:Nat)(n:Int)(t a:Addr)(old tgt:Value)(w:World)(he:w.cell? ⟨b,2,none⟩=some (.iface 47 (.int .i64 n)))(ha:w.cell? a=some (.pointer (some t)))(ht0:w.cell? t=some old)(hf0:w.frozen? t=false) :
  Calls Go.Proofs.Tryz.prog 72 #[.iface 89 (.pointer (some ⟨b,0,none⟩)),tgt,.agg #[.pointer (some ⟨1,94,none⟩),.pointer (some a),.int .u64 150],JI] w fun ev w'=>ev=.returned (.bool true) ∧
   w'=((w.alloc (wS 94 a)).alloc (.cells #[.int .i64 n] 47)).setCell t (.int .i64 n):=by
 have hTO:=@run_callFunc_extern Go.Proofs.Tryz.prog 110 _ ReflectliteType.typeOf Go.Proofs.Tryz.func110 (by kernel_rfl) (by kernel_rfl) (by kernel_rfl) (by kernel_rfl)
 have hA:=@run_callFunc_extern Go.Proofs.Tryz.prog 199 _ (ReflectliteType.relation "AssignableTo" ReflectliteType.assignableTo) Go.Proofs.Tryz.func199 (by kernel_rfl) (by kernel_rfl) (by kernel_rfl) (by kernel_rfl)
 have hVE:=@run_callFunc_extern Go.Proofs.Tryz.prog 111 _ (ReflectliteValue.method (ReflectliteValue.valueError "reflectlite.Value.Elem" 0) ReflectliteValue.elem) Go.Proofs.Tryz.func111 (by kernel_rfl) (by kernel_rfl) (by kernel_rfl) (by kernel_rfl)
 have hS:=@run_callFunc_extern Go.Proofs.Tryz.prog 112 _ ReflectliteValue.set Go.Proofs.Tryz.func112 (by kernel_rfl) (by kernel_rfl) (by kernel_rfl) (by kernel_rfl)
 have hV:=@run_callFunc_extern Go.Proofs.Tryz.prog 69 _ (fun args=>ReflectliteValue.unpack (args.getD 0 (.tuple #[]))) Go.Proofs.Tryz.func69 (by kernel_rfl) (by kernel_rfl) (by kernel_rfl) (by kernel_rfl)
 have tO:=uF
 have tO2:=yP
 have mA:=ez
 have aE:=wA
 have aF:=AH
 have vE:=Cj
 have t1:=Hi
 have t2:=Hj
 have mU:=sB
 have hal:a.block<w.heap.size:=by
  rcases Nat.lt_or_ge a.block w.heap.size with h | h
  ·exact h
  ·simp[World.cell?,Array.getElem?_eq_none h] at ha
 have hel:b<w.heap.size:=by
  rcases Nat.lt_or_ge b w.heap.size with h | h
  ·exact h
  ·simp[World.cell?,Array.getElem?_eq_none h] at he
 have htl:t.block<w.heap.size:=by
  rcases Nat.lt_or_ge t.block w.heap.size with h | h
  ·exact h
  ·simp[World.cell?,Array.getElem?_eq_none h] at ht0
 have he1:(w.alloc (wS 94 a)).cell? ⟨b,2,none⟩=some (.iface 47 (.int .i64 n)):=by rw[World.cell?_alloc_lt _ _ _ hel];exact he
 have el:=Ci a t (w.alloc (wS 94 a)) (by rw[World.cell?_alloc_lt _ _ a hal];exact ha)
 have st:=Ij t ⟨w.heap.size+1,0,none⟩ n old ((w.alloc (wS 94 a)).alloc (.cells #[.int .i64 n] 47))
  (by rw[World.cell?_alloc_at _ _ _ _ (by simp)];rfl)
  (by rw[World.cell?_alloc_lt _ _ t (by simp;omega),World.cell?_alloc_lt _ _ t htl];exact ht0)
  (by rw[World.frozen?_alloc_old _ _ t (by simp;omega),World.frozen?_alloc_old _ _ t (Nat.ne_of_lt htl)];exact hf0)
 go_enter Go.Proofs.Tryz.func72,Go.Proofs.Tryz.ntmps72
 go_wp2
 refine wp_loop_rounds 2 ?_
 rw[rounds_succ]
 go_wp2_with (first | (go_at_call 194;refine (Cm b _ _ he1).mono ?_;rintro e w' ⟨rfl,rfl⟩))
 rw[rounds_succ]
 go_wp2
 go_ret
 exact⟨rfl,rfl⟩
set_option maxHeartbeats 4000000 in
theorem Io(b c:Nat)(n:Int)(t a:Addr)(old tgt:Value)(w:World)(he:w.cell? ⟨b,2,none⟩=some (.iface 89 (.pointer (some ⟨c,0,none⟩))))(hc:w.cell? ⟨c,2,none⟩=some (.iface 47 (.int .i64 n)))(ha:w.cell? a=some (.pointer (some t)))(ht0:w.cell? t=some old)(hf0:w.frozen? t=false) :
  Calls Go.Proofs.Tryz.prog 72 #[.iface 89 (.pointer (some ⟨b,0,none⟩)),tgt,.agg #[.pointer (some ⟨1,94,none⟩),.pointer (some a),.int .u64 150],JI] w fun ev w'=>ev=.returned (.bool true) ∧
   w'=((w.alloc (wS 94 a)).alloc (.cells #[.int .i64 n] 47)).setCell t (.int .i64 n):=by
 have hTO:=@run_callFunc_extern Go.Proofs.Tryz.prog 110 _ ReflectliteType.typeOf Go.Proofs.Tryz.func110 (by kernel_rfl) (by kernel_rfl) (by kernel_rfl) (by kernel_rfl)
 have hA:=@run_callFunc_extern Go.Proofs.Tryz.prog 199 _ (ReflectliteType.relation "AssignableTo" ReflectliteType.assignableTo) Go.Proofs.Tryz.func199 (by kernel_rfl) (by kernel_rfl) (by kernel_rfl) (by kernel_rfl)
 have hVE:=@run_callFunc_extern Go.Proofs.Tryz.prog 111 _ (ReflectliteValue.method (ReflectliteValue.valueError "reflectlite.Value.Elem" 0) ReflectliteValue.elem) Go.Proofs.Tryz.func111 (by kernel_rfl) (by kernel_rfl) (by kernel_rfl) (by kernel_rfl)
 have hS:=@run_callFunc_extern Go.Proofs.Tryz.prog 112 _ ReflectliteValue.set Go.Proofs.Tryz.func112 (by kernel_rfl) (by kernel_rfl) (by kernel_rfl) (by kernel_rfl)
 have hV:=@run_callFunc_extern Go.Proofs.Tryz.prog 69 _ (fun args=>ReflectliteValue.unpack (args.getD 0 (.tuple #[]))) Go.Proofs.Tryz.func69 (by kernel_rfl) (by kernel_rfl) (by kernel_rfl) (by kernel_rfl)
 have tO:=uF
 have tO2:=yP
 have mA:=ez
 have aE:=wA
 have aF:=AH
 have vE:=Cj
 have t1:=Hi
 have t2:=Hj
 have mU:=sB
 have hal:a.block<w.heap.size:=by
  rcases Nat.lt_or_ge a.block w.heap.size with h | h
  ·exact h
  ·simp[World.cell?,Array.getElem?_eq_none h] at ha
 have hel:b<w.heap.size:=by
  rcases Nat.lt_or_ge b w.heap.size with h | h
  ·exact h
  ·simp[World.cell?,Array.getElem?_eq_none h] at he
 have htl:t.block<w.heap.size:=by
  rcases Nat.lt_or_ge t.block w.heap.size with h | h
  ·exact h
  ·simp[World.cell?,Array.getElem?_eq_none h] at ht0
 have he1:(w.alloc (wS 94 a)).cell? ⟨b,2,none⟩=some (.iface 89 (.pointer (some ⟨c,0,none⟩))):=by rw[World.cell?_alloc_lt _ _ _ hel];exact he
 have hcl:c<w.heap.size:=by
  rcases Nat.lt_or_ge c w.heap.size with h | h
  ·exact h
  ·simp[World.cell?,Array.getElem?_eq_none h] at hc
 have hc1:(w.alloc (wS 94 a)).cell? ⟨c,2,none⟩=some (.iface 47 (.int .i64 n)):=by rw[World.cell?_alloc_lt _ _ _ hcl];exact hc
 have el:=Ci a t (w.alloc (wS 94 a)) (by rw[World.cell?_alloc_lt _ _ a hal];exact ha)
 have st:=Ij t ⟨w.heap.size+1,0,none⟩ n old ((w.alloc (wS 94 a)).alloc (.cells #[.int .i64 n] 47))
  (by rw[World.cell?_alloc_at _ _ _ _ (by simp)];rfl)
  (by rw[World.cell?_alloc_lt _ _ t (by simp;omega),World.cell?_alloc_lt _ _ t htl];exact ht0)
  (by rw[World.frozen?_alloc_old _ _ t (by simp;omega),World.frozen?_alloc_old _ _ t (Nat.ne_of_lt htl)];exact hf0)
 go_enter Go.Proofs.Tryz.func72,Go.Proofs.Tryz.ntmps72
 go_wp2
 refine wp_loop_rounds 3 ?_
 rw[rounds_succ]
 go_wp2_with (first | (go_at_call 194;refine (Cm b _ _ he1).mono ?_;rintro e w' ⟨rfl,rfl⟩))
 rw[rounds_succ]
 go_wp2_with (first | (go_at_call 194;refine (Cm c _ _ hc1).mono ?_;rintro e w' ⟨rfl,rfl⟩))
 rw[rounds_succ]
 go_wp2
 go_ret
 exact⟨rfl,rfl⟩
end Go.As
namespace Go.Lx
open Go.Vc
def Gl(I:cc):Prop:=∃cs ty fz,I 0=some (.cells cs ty fz)∧cs[0]? = some Go.As.Cl
theorem Gl.mono{I J:cc}(h:Gl I)(hl:cc.le I J):Gl J:=let ⟨cs,ty,fz,h1,h2⟩:=h;⟨cs,ty,fz,hl.at h1,h2⟩
theorem Gl.cell{I:cc}{F:b8}{w:World}(h:Gl I)(hw:Sat I F w):w.cell? ⟨0,0,none⟩=some Go.As.Cl:=by
 obtain⟨cs,ty,fz,h1,h2⟩:=h
 have:=hw.imm _ _ h1
 unfold World.cell?
 simp[this,h2]
theorem Gl.GO{w:World}(h:w.cell? ⟨0,0,none⟩=some Go.As.Cl):Gl (cc.all w):=by
 unfold World.cell? at h
 split at h
 ·rename_i c ty fz hc
  exact⟨c,ty,fz,hc,by simpa using h⟩
 ·cases h
theorem kM{I:cc}{F:b8}{w:World}{t ty:Nat}{old:Value}(hw:Sat I ((t,.cells #[old] ty (0,0))::F) w):w.cell? ⟨t,0,none⟩=some old∧w.frozen? ⟨t,0,none⟩=false:=by
 have:=hw.own _ _ (.head _)
 unfold World.cell? World.frozen?
 simp[this]
theorem A8.cell{I:cc}{F:b8}{w:World}{b ty:Nat}{fz:Nat×Nat}{x y z:Value}(h:I b=some (.cells #[x,y,z] ty fz))(hw:Sat I F w):w.cell? ⟨b,2,none⟩=some z:=by
 have:=hw.imm _ _ h
 unfold World.cell?
 simp[this]
theorem lb{w:World}{o o':Obj}{a:Addr}{v:Value}(h:w.cell? a=some v):((w.alloc o).alloc o').cell? a=some v:=by
 have hl:a.block<w.heap.size:=by
  rcases Nat.lt_or_ge a.block w.heap.size with h1 | h1
  ·exact h1
  ·simp[World.cell?,Array.getElem?_eq_none h1] at h
 rw[World.cell?_alloc_lt _ _ _ (by simp;omega),World.cell?_alloc_lt _ _ _ hl];exact h
theorem p7{w:World}{o o':Obj}{a:Addr}{v:Value}(h:w.cell? a=some v)(hf:w.frozen? a=false):((w.alloc o).alloc o').frozen? a=false:=by
 have hl:a.block<w.heap.size:=by
  rcases Nat.lt_or_ge a.block w.heap.size with h1 | h1
  ·exact h1
  ·simp[World.cell?,Array.getElem?_eq_none h1] at h
 rw[World.frozen?_alloc_old _ _ _ (by simp;omega),World.frozen?_alloc_old _ _ _ (Nat.ne_of_lt hl)];exact hf
end Go.Lx
namespace Go.Vc
theorem Sat.fq{I:cc}{F:b8}{w:World}(h:Sat I F w)(o:Obj):Sat I F (w.alloc o):=(h.alloc o).drop (A:=[_])
theorem Sat.GP{I:cc}{F:b8}{w:World}{t ty:Nat}{old v:Value}(h:Sat I ((t,.cells #[old] ty (0,0))::F) w):Sat I ((t,.cells #[v] ty (0,0))::F) (w.setCell ⟨t,0,none⟩ v) :=
 Sat.set h (rB (cs:=[old]) (h.own _ _ (.head _)) 0 v) ⟨rfl,rfl⟩
end Go.Vc
namespace Go.Lx
open Go.Vc
def IF(r:Bool)(G:b8)(e:Ending)(I:cc)(F:b8):Prop:=e=.returned (.bool r)∧F=G
section
variable {I:cc} {F:b8} {t ty:Nat} {old:Value}
theorem Dd(hg:Gl I)(b:Nat):cf P 44 #[.iface 89 (.pointer (some ⟨b,0,none⟩)),.iface 91 (.pointer (some ⟨t,0,none⟩))] I ((t,.cells #[old] ty (0,0))::F) (IF true ((t,.cells #[.pointer (some ⟨b,0,none⟩)] ty (0,0))::F)):=fun w hw=>by
 obtain⟨hc,hf⟩:=kM hw
 refine (Go.As.Ju _ _ _ w _ true (hg.cell hw) (Go.As.Jr ⟨b,0,none⟩ ⟨t,0,none⟩ ⟨w.heap.size,0,none⟩ old _ _ (by simp) (lb hc) (p7 hc hf))).mono fun e w' ⟨he,hw'⟩=>⟨I,_,cc.le_refl I, ?_,he,rfl⟩
 rw[hw']
 exact Sat.GP ((((hw.fq _).fq _).fq _).fq _)
theorem Ip(hg:Gl I)(n:Int):cf P 44 #[pg n,.iface 91 (.pointer (some ⟨t,0,none⟩))] I F (IF false F):=fun w hw=>by
 refine (Go.As.Ju _ _ _ w _ false (hg.cell hw) (Go.As.Js n ⟨w.heap.size,0,none⟩ _ _)).mono fun e w' ⟨he,hw'⟩=>⟨I,_,cc.le_refl I, ?_,he,rfl⟩
 rw[hw']
 exact ((hw.fq _).fq _).fq _
theorem Ke(hg:Gl I)(n:Int):cf P 44 #[pg n,.iface 94 (.pointer (some ⟨t,0,none⟩))] I ((t,.cells #[old] ty (0,0))::F) (IF true ((t,.cells #[.int .i64 n] ty (0,0))::F)):=fun w hw=>by
 obtain⟨hc,hf⟩:=kM hw
 refine (Go.As.Il _ _ _ w _ true (hg.cell hw) (Go.As.Jt n ⟨t,0,none⟩ ⟨w.heap.size,0,none⟩ old _ _ (by simp) (lb hc) (p7 hc hf))).mono fun e w' ⟨he,hw'⟩=>⟨I,_,cc.le_refl I, ?_,he,rfl⟩
 rw[hw']
 exact Sat.GP ((((hw.fq _).fq _).fq _).fq _)
theorem Jv(hg:Gl I){call:ByteArray}{pos n:Int}{v:Value}(h:A8 I call pos (pg n) v):cf P 44 #[v,.iface 94 (.pointer (some ⟨t,0,none⟩))] I ((t,.cells #[old] ty (0,0))::F) (IF true ((t,.cells #[.int .i64 n] ty (0,0))::F)):=fun w hw=>by
 obtain⟨b,rfl,hb⟩:=h
 obtain⟨hc,hf⟩:=kM hw
 refine (Go.As.Il _ _ _ w _ true (hg.cell hw) (Go.As.Im b n ⟨t,0,none⟩ ⟨w.heap.size,0,none⟩ old _ _ (lb (A8.cell hb hw)) (by simp) (lb hc) (p7 hc hf))).mono fun e w' ⟨he,hw'⟩=>⟨I,_,cc.le_refl I, ?_,he,rfl⟩
 rw[hw']
 exact Sat.GP ((((hw.fq _).fq _).fq _).fq _)
theorem Jw(hg:Gl I){call call':ByteArray}{pos pos' n:Int}{v u:Value}(h:A8 I call pos u v)(h':A8 I call' pos' (pg n) u):cf P 44 #[v,.iface 94 (.pointer (some ⟨t,0,none⟩))] I ((t,.cells #[old] ty (0,0))::F) (IF true ((t,.cells #[.int .i64 n] ty (0,0))::F)):=fun w hw=>by
 obtain⟨b,rfl,hb⟩:=h
 obtain⟨c,rfl,hc'⟩:=h'
 obtain⟨hc,hf⟩:=kM hw
 refine (Go.As.Il _ _ _ w _ true (hg.cell hw) (Go.As.Io b c n ⟨t,0,none⟩ ⟨w.heap.size,0,none⟩ old _ _ (lb (A8.cell hb hw)) (lb (A8.cell hc' hw)) (by simp) (lb hc) (p7 hc hf))).mono fun e w' ⟨he,hw'⟩=>⟨I,_,cc.le_refl I, ?_,he,rfl⟩
 rw[hw']
 exact Sat.GP ((((hw.fq _).fq _).fq _).fq _)
end
def fQ(I:cc)(f:TF)(v:Value):Prop :=
 (f.e=0→v=.nilIface)∧(f.e≠0→if f.of then ∃u,A8 I yO f.pos (pg f.e) u∧A8 I xV f.pos u v else A8 I xV f.pos (pg f.e) v)
theorem fQ.mono{I J:cc}{f:TF}{w:Value}(h:fQ I f w)(hl:cc.le I J):fQ J f w:=⟨h.1,fun he=>by
 have:=h.2 he
 split at this
 ·rename_i hof;rw[if_pos hof];obtain⟨u,h1,h2⟩:=this;exact⟨u,h1.mono hl,h2.mono hl⟩
 ·rename_i hof;rw[if_neg hof];exact this.mono hl⟩
theorem fQ.ok{I:cc}:fQ I sK .nilIface:=⟨fun _=>rfl,fun h=>absurd rfl h⟩
theorem fQ.neq{I:cc}{f:TF}{w:Value}(h:fQ I f w){t:TypeId}(ht:oy P t=true){x:Operand}:cU P .neq t x (.const .nilIface) w .nilIface (f.e != 0):=by
 by_cases he:f.e=0
 ·rw[h.1 he,he];exact yN ht
 ·have h2:=h.2 he
  rw[show (f.e != 0)=true by simpa using he]
  split at h2
  ·obtain⟨u,_,b,hw,_⟩:=h2;rw[hw];exact wm ht
  ·obtain⟨b,hw,_⟩:=h2;rw[hw];exact wm ht
theorem fX{I:cc}(hg:Gl I)(pos n:Int)(hn:n≠0)(F:b8):cf P 65 #[.int .i64 pos,pg n] I F (ll (fun v J=>fQ J ⟨n,pos,false⟩ v) F):=by
 refine cf.still (fy.vc ?_)
 unfold fy.V
 intro b_below
 refine (Ip hg n).mono fun e I1 G l1 ⟨he,hG⟩=>?_
 subst hG
 refine⟨false,he,_,.refl _,fun h=>(by cases h),fun _ b1=>⟨_,[_,_],rfl,.refl _,fun J hJ hx=>⟨fun h=>absurd h hn,fun _=>?_⟩⟩⟩
 rw[if_neg (by simp)]
 exact⟨b1,rfl,hx _ (.head _)⟩
theorem Cn{I:cc}(hg:Gl I)(pos0 pos n:Int)(hn:n≠0){u:Value}(hu:A8 I yO pos (pg n) u)(F:b8):cf P 65 #[.int .i64 pos0,u] I F (ll (fun v J=>fQ J ⟨n,pos,true⟩ v) F):=by
 obtain⟨b,rfl,hb⟩:=hu
 refine cf.still (fy.vc ?_)
 unfold fy.V
 intro b_below
 refine (Dd hg b).mono fun e I1 G l1 ⟨he,hG⟩=>?_
 subst hG
 refine⟨true,he,_,.refl _,fun _=>⟨some ⟨b,0,none⟩,Rd.qW (.head _) 0 (fun j hj=>?_),⟨b,0,none⟩,rfl,pos, ?_,fun b1=>⟨_,[_,_],rfl,.refl _,fun J hJ hx=>⟨fun h=>absurd h hn,fun _=>?_⟩⟩⟩,fun h=>(by cases h)⟩
 ·have:j=0:=by simpa using hj
  subst this;rfl
 ·rw[sy]
  exact Rd.sV (l1.at hb) _ 1 fun j hj=>by
   have:j=0:=by simpa using hj
   subst this;rfl
 ·rw[if_pos rfl]
  exact⟨_,⟨b,rfl,hJ.at (l1.at hb)⟩,b1,rfl,hx _ (.head _)⟩
end Go.Lx
namespace Go.Lx
open Go.Vc
theorem Co{l:List dh}{r:dh}{t:Int}(h:dG l r.name=some t)(k:ByteArray):dG (l++[r]) k=dG l k:=by
 rw[ph]
 cases hk:dG l k with
 | some t=>rfl
 | none =>
   show (if k=r.name then some r.cO else none)=none
   rw[if_neg]
   intro e;subst e;rw[hk] at h;cases h
theorem Cp{l:List dh}{r:dh}(h:dG l r.name=none)(k:ByteArray):dG (l++[r]) k=re (dG l) r.name r.cO k:=by
 rw[ph]
 unfold re
 by_cases e:k=r.name
 ·subst e;rw[h,if_pos rfl]
 ·rw[if_neg e,if_neg e]
  cases hk:dG l k<;>rfl
def Jx(m0 m1 m2:Nat):Obj:=.cells #[.map (some m0),.map (some m1),.map (some m2)] 164 (0,0)
def Jy(s:cw)(F:b8)(e:Ending)(I:cc)(G:b8):Prop:=∃c m1 m2,e=.returned (.pointer (some ⟨c,0,none⟩))∧C7 I c s.p m1 m2∧G=(m1,.map #[] 0)::(m2,.map #[] 0)::F
theorem wB(s:cw)(hl:s.regs.length≤1048576)(I:cc)(F:b8)(hok:s.Ok I F):cf P 66 #[s.v] I F (Jy s F):=by
 refine cf.keep (Q:=fun e I' G=>∃c m0 m1 m2 es ck,e=.returned (.pointer (some ⟨c,0,none⟩))∧kY Value.string (Value.int .u8) (dG s.p.regs) es ck∧G.Perm ((m0,.map es ck)::(c,Jx m0 m1 m2)::(m1,.map #[] 0)::(m2,.map #[] 0)::F)) ?_ fun e I' G w hl hs ⟨c,m0,m1,m2,es,ck,he,hg,hp⟩=>by
  obtain⟨J,g1,g2,g3⟩:=Sat.still [_,_] (hs.perm hp)
  exact⟨J,_,g1,g3,c,m1,m2,he,⟨m0,es,ck,g2 _ (.tail _ (.head _)),g2 _ (.head _),hg⟩,rfl⟩
 refine hY.vc (fun sA cA i m I0 F0 I' F'=>0≤i∧i≤s.regs.length∧m=(s.regs.length-i).toNat∧∃c m0 m1 m2 es ck,cA=some (⟨c,0,none⟩:Addr)∧kY Value.string (Value.int .u8) (dG (s.p.regs.take i.toNat)) es ck∧F'.Perm ((m0,.map es ck)::(c,Jx m0 m1 m2)::(m1,.map #[] 0)::(m2,.map #[] 0)::F)) ?_
 unfold hY.V
 intro b_s
 refine cF.mono kf fun v I1 G h1 ⟨r,hv,hI,hG⟩=>?_
 subst hI hG
 refine⟨some r,hv,(r,.map #[] 0)::F,.swap .., ?_⟩
 refine cF.mono kf fun v1 I1 G h1 ⟨r1,hv1,hI,hG⟩=>?_
 subst hI hG
 refine⟨some r1,hv1,(r1,.map #[] 0)::(r,.map #[] 0)::F,.swap .., ?_⟩
 refine cF.mono kf fun v2 I1 G h1 ⟨r2,hv2,hI,hG⟩=>?_
 subst hI hG
 refine⟨some r2,hv2,(r2,.map #[] 0)::(r1,.map #[] 0)::(r,.map #[] 0)::F,.swap .., ?_⟩
 intro b
 refine⟨⟨_,by omega,by omega,rfl,b,r,r1,r2,_,_,rfl,kY.nil 0, ?_⟩,fun i m I2 F2 l2 ⟨g0,g1,gm,c,m0,m1,m2,es,ck,hc,hg,hp⟩=>?_⟩
 ·exact uk.trans (((List.Perm.swap ..).cons _).cons _)
 obtain rfl:b=c:=by simpa using hc
 have hok1:s.Ok I2 F2:=hok.mono l2 fun y hy=>hp.mem_iff.2 (.tail _ (.tail _ (.tail _ (.tail _ hy))))
 refine⟨fun hlt=>?_,fun hlt=>?_⟩
 ·have hlt:=of_decide_eq_true hlt
  obtain⟨ad,g,had,hg1,hrd,hgm⟩:=dq.gj (hok1.cons (x:=(c6 b_s s))).regs g0 hlt
  refine⟨⟨g0,hlt⟩,ad,had,_,_,_,_,_,_,_,_,_,_,_,_,_,hrd,fun b_r=>?_⟩
  have hmc:∀(x y:Nat×Obj),(b,Jx m0 m1 m2)∈x::y::F2:=fun x y=>.tail _ (.tail _ (hp.mem_iff.2 (.tail _ (.head _))))
  have hm0:∀(x y:Nat×Obj),(m0,Obj.map es ck)∈x::y::F2:=fun x y=>.tail _ (.tail _ (hp.mem_iff.2 (.head _)))
  have hrdm:∀(J:cc) (x y:Nat×Obj),Rd J (x::y::F2) (⟨b,0,none⟩:Addr) [.map (some m0)]:=fun J x y=>Rd.qW (hmc x y) 0 fun j hj=>by
   have:j=0:=by simpa using hj
   subst this;rfl
  have hgl:s.p.regs[i.toNat]? = some g.p:=by
   show (s.regs.map cH.p)[i.toNat]? = _
   rw[List.getElem?_map,hg1];rfl
  have htk:s.p.regs.take (i+1).toNat=s.p.regs.take i.toNat++[g.p]:=by
   rw[show (i+1).toNat=i.toNat+1 by omega,List.take_add_one,hgl];rfl
  refine⟨_,rfl,some m0,hrdm _ _ _, ?_⟩
  refine cF.mono (tb GG AF lG str_inj Fy hg (.inr (hm0 _ _)) g.name) fun v3 I3 G h3 ⟨hv3,hI,hG⟩=>?_
  subst hI hG
  refine⟨((dG (s.p.regs.take i.toNat) g.name).getD 0),(dG (s.p.regs.take i.toNat) g.name).isSome,by rw[hv3];cases dG (s.p.regs.take i.toNat) g.name<;>rfl,F2,.refl _,fun hn=>?_,fun hn=>⟨(s.regs.length-(i+1)).toNat,by omega, ?_⟩⟩
  ·have hn:dG (s.p.regs.take i.toNat) g.name=none:=by simpa using hn
   refine⟨_,rfl,some m0,hrdm _ _ _, ?_⟩
   refine mu.perm (mu.mono (tP GG AF lG str_inj hg g.name g.cO (F:=(c6 b_s s)::(b_r,.cells g.enc.toArray 77 (0,0))::(b,Jx m0 m1 m2)::(m1,.map #[] 0)::(m2,.map #[] 0)::F)) fun I4 G h4 ⟨hI,es',c',hG,hg'⟩=>?_) (((hp.cons _).cons _).trans dm)
   subst hI hG
   refine⟨(m0,.map es' c')::(b,Jx m0 m1 m2)::(m1,.map #[] 0)::(m2,.map #[] 0)::F,dm.symm,(s.regs.length-(i+1)).toNat,by omega, ?_⟩
   rw[cY (n:=i+1) (by omega)]
   refine⟨by omega,by omega,rfl,b,m0,m1,m2,es',c',rfl, ?_,.refl _⟩
   rw[htk]
   exact hg'.congr fun k=>(Cp (r:=g.p) hn k).symm
  ·obtain⟨t,hn⟩:∃t,dG (s.p.regs.take i.toNat) g.name=some t:=by
    cases h:dG (s.p.regs.take i.toNat) g.name with
    | none=>rw[h] at hn;cases hn
    | some t=>exact⟨t,rfl⟩
   rw[cY (n:=i+1) (by omega)]
   refine⟨by omega,by omega,rfl,b,m0,m1,m2,es,ck,rfl, ?_,hp⟩
   rw[htk]
   exact hg.congr fun k=>(Co (r:=g.p) hn k).symm
 ·have hlt:=of_decide_eq_false hlt
  refine⟨b,m0,m1,m2,es,ck,rfl, ?_,hp⟩
  rw[List.take_of_length_le (by show (s.regs.map cH.p).length≤_;rw[List.length_map];omega)] at hg
  exact hg
theorem yQ(nm:ByteArray):∀(l:List ByteArray) (i:Nat) (j:Int),l[i]? = some nm→(js nm l j<j+i↔iM (l.take i) nm=true)∧0≤js nm l j-j
 | [],i,j,h=>by simp at h
 | x::l,0,j,h=>by
   simp only[List.getElem?_cons_zero,Option.some.injEq] at h
   subst h
   rw[js,if_pos (by simp)]
   refine⟨⟨fun h=>by omega,fun h=>by simp[iM] at h⟩,by omega⟩
 | x::l,i+1,j,h=>by
   rw[js]
   have ih:=yQ nm l i (j+1) (by simpa using h)
   by_cases hx:(x.toList==nm.toList)=true
   ·rw[if_pos hx]
    have:=mQ.1 hx
    subst this
    refine⟨⟨fun _=>by simp[iM],fun _=>by omega⟩,by omega⟩
   ·rw[if_neg hx]
    have hne:¬x=nm:=fun e=>hx (mQ.2 e)
    refine⟨?_,by omega⟩
    rw[List.take_succ_cons]
    have e:iM (x::l.take i) nm=iM (l.take i) nm:=by
     unfold iM;rw[List.any_cons,decide_eq_false hne,Bool.false_or]
    rw[e,←ih.1]
    constructor<;>intro h<;>omega
theorem yR(nm:ByteArray):∀(l:List ByteArray) (j:Int),0≤j→(js nm l j<0↔iM l nm=false)
 | [],j,h=>by rw[js];simp[iM]
 | x::l,j,h=>by
   rw[js]
   by_cases hx:(x.toList==nm.toList)=true
   ·rw[if_pos hx]
    have:=mQ.1 hx
    subst this
    refine⟨fun h=>by omega,fun h=>by simp[iM] at h⟩
   ·rw[if_neg hx,yR nm l (j+1) (by omega)]
    have hne:¬x=nm:=fun e=>hx (mQ.2 e)
    unfold iM;rw[List.any_cons,decide_eq_false hne,Bool.false_or]
def zh(l:List ByteArray)(k:Nat)(o:Obj):Prop:=∃es ck g,o=.map es ck∧kY Value.string (Value.int .i64) g es ck∧A7 l k g
theorem zh.nil:zh [] 0 (.map #[] 0):=⟨_,_,_,rfl,kY.nil 0,A7.nil⟩
def Iq(l:List ByteArray)(i:Nat)(nm:ByteArray)(c:Int):Prop:=1≤c∧c≤i+1∧(1<c↔iM (l.take i) nm=true)
theorem A7.step{l:List ByteArray}{i:Nat}{g:ByteArray→Option Int}{nm:ByteArray}(h:A7 (l.take i) i g)(hl:l[i]? = some nm) :
  A7 (l.take (i+1)) (i+1) (re g nm ((g nm).getD 0+1))∧Iq l i nm ((g nm).getD 0+1):=by
 have htk:l.take (i+1)=l.take i++[nm]:=by rw[List.take_add_one,hl];rfl
 by_cases hs:iM (l.take i) nm=true
 ·obtain⟨m,h1,h2,h3⟩:=(h nm).1 hs
  rw[h1]
  refine⟨?_, ?_, ?_, ?_⟩
  ·intro s
   have:=(h.more hs h2 h3) s
   rw[htk]
   have e:iM (l.take i++[nm]) s=iM (l.take i) s:=by
    unfold iM at hs ⊢;rw[List.any_append]
    by_cases hsn:nm=s
    ·subst hsn;rw[hs];rfl
    ·simp[hsn]
   rw[e];exact this
  ·show 1≤m+1;omega
  ·show m+1≤i+1;omega
  ·exact⟨fun _=>hs,fun _=>by show 1<m+1;omega⟩
 ·have hs:iM (l.take i) nm=false:=by simpa using hs
  have h1:=(h nm).2 hs
  rw[h1]
  refine⟨?_, ?_, ?_, ?_⟩
  ·rw[htk];exact h.new
  ·show (1:Int)≤0+1;omega
  ·show (0:Int)+1≤i+1;omega
  ·rw[hs];exact⟨fun h=>by simp at h,fun h=>by cases h⟩
section
variable {I:cc} {l:List ByteArray} {i:Nat} {nm:ByteArray} {o:Obj} {m:Nat} {G R:b8}
theorem yS(hc:zh (l.take i) i o)(hl:l[i]? = some nm)(hi:i≤1048576)(hm:(m,o)∈G):cF P (Instr.lookup 162 (.map (some m)) (.string nm) false) I G fun v I' G'=>∃r:Int,v=.int .i64 r∧I'=I∧G'=G ∧
  (∀G2,G.Perm ((m,o)::G2)→mu P (Instr.mapUpdate 162 (.map (some m)) (.string nm) (.int .i64 (IntKind.wrap .i64 (r+1)))) I G fun I' G'=>I'=I∧∃o',zh (l.take (i+1)) (i+1) o'∧G'=(m,o')::G2 ∧
   ∀G3,(m,o')∈G3→cF P (Instr.lookup 162 (.map (some m)) (.string nm) false) I G3 fun v I' G'=>∃c:Int,v=.int .i64 c∧I'=I∧G'=G3∧Iq l i nm c):=by
 obtain⟨es,ck,g,rfl,hg,hmet⟩:=hc
 obtain⟨h1,h2⟩:=hmet.step hl
 refine cF.mono (rf GH AF lG str_inj Fz hg (.inr hm) nm) fun v I1 G1 hl1 ⟨hv,hI,hG⟩=>⟨(g nm).getD 0, ?_,hI,hG,fun G2 hp=>?_⟩
 ·rw[hv];cases g nm<;>rfl
 ·have hw:IntKind.wrap .i64 ((g nm).getD 0+1)=(g nm).getD 0+1:=cY (by unfold Iq at h2;omega)
  rw[hw]
  refine mu.perm (mu.mono (tP GH AF lG str_inj hg nm ((g nm).getD 0+1) (F:=G2)) fun I2 G3 hl2 ⟨hI2,es',ck',hG3,hg'⟩=>⟨hI2,_,⟨es',ck',_,rfl,hg',h1⟩,hG3,fun G4 hm4=>?_⟩) hp
  refine cF.mono (rf GH AF lG str_inj Fz hg' (.inr hm4) nm) fun v3 I3 G5 hl3 ⟨hv3,hI3,hG5⟩=>⟨(g nm).getD 0+1, ?_,hI3,hG5,h2⟩
  rw[hv3];unfold re;rw[if_pos rfl];rfl
end
section
variable (s:cw) (hl:s.p.dC) {I:cc} {F:b8} (hok:s.Ok I F)
def lZ(s:cw):List ByteArray:=s.slots.map cx.name
def mS(s:cw):List ByteArray:=s.states.map cg.name
def rZ(s:cw):List ByteArray:=s.regs.map cH.name
def JW(s:cw)(m1 m2:Nat)(F:b8)(e:Ending)(I:cc)(G:b8):Prop:=∃v,e=.returned v∧fQ I s.p.named v∧∃o1 o2,G=(m1,o1)::(m2,o2)::F∧(s.p.named.e=0→zh (lZ s) s.slots.length o1∧zh (mS s) s.states.length o2)
theorem GQ(nm:ByteArray):s.p.fG nm=js nm (rZ s) 0:=by
 unfold cu.fG rZ
 show js nm ((s.regs.map cH.p).map dh.name) 0=_
 rw[List.map_map];rfl
theorem AJ(nm:ByteArray):s.p.room nm=js nm (mS s) 0:=by
 unfold cu.room mS
 show js nm ((s.states.map cg.p).map cq.name) 0=_
 rw[List.map_map];rfl
end
end Go.Lx
namespace Go.Lx
open Go.Vc
theorem C7.rd{I:cc}{c m1 m2:Nat}{s:cu}(h:C7 I c s m1 m2)(G:b8):Rd I G ((⟨c,0,none⟩:Addr).add 1) [.map (some m1)]∧Rd I G ((⟨c,0,none⟩:Addr).add 2) [.map (some m2)]:=by
 obtain⟨m0,es,ck,hc,_,_⟩:=h
 rw[sy,sy]
 exact⟨Rd.sV hc _ 1 fun j hj=>by
  have:j=0:=by simpa using hj
  subst this;rfl,Rd.sV hc _ 2 fun j hj=>by
  have:j=0:=by simpa using hj
  subst this;rfl⟩
theorem yT{n p:Int}{b:Bool}(h:n≠0)(x:TF):eB ⟨n,p,b⟩ x=⟨n,p,b⟩:=kx _ h x
section
variable {s:cw} (hl:s.p.oK) {I:cc} {F:b8} (hok:s.Ok I F)
include hl hok
theorem xj(hg:Gl I)(hf:∀r∈s.regs,r.init.px.formed=true){c m1 m2:Nat}(hS:C7 I c s.p m1 m2) :
  cf P 67 #[.pointer (some ⟨c,0,none⟩),s.v] I ((m1,.map #[] 0)::(m2,.map #[] 0)::F) (JW s m1 m2 F):=by
 have lr:=hl.regs
 have ls:=hl.slots
 have lt:=hl.states
 simp only[cw.p,List.length_map] at lr ls lt
 refine cf.keep (Q:=fun e I' G=>∃v o1 o2 H,e=.returned v∧fQ I' s.p.named v∧G.Perm ((m1,o1)::(m2,o2)::(H++F))∧(s.p.named.e=0→zh (lZ s) s.slots.length o1∧zh (mS s) s.states.length o2)) ?_
  fun e I' G w hl hs ⟨v,o1,o2,H,he,hv,hp,hk⟩=>⟨I',_,cc.le_refl _,(hs.perm hp).sub (((List.sublist_append_right H F).cons_cons _).cons_cons _),v,he,hv,o1,o2,rfl,hk⟩
 refine eJ.vc
  (fun r x i m I0 F0 I' F'=>0≤i∧i≤s.regs.length∧m=(s.regs.length-i).toNat∧s.p.named=eB (ml s.p (s.p.regs.drop i.toNat) i) (eB (mm s.p s.slots 0) (j2 s.p s.p.states 0)) ∧
    ∃r0 o,r=some r0∧zh ((rZ s).take i.toNat) i.toNat o∧F'.Perm ((r0,o)::(m1,.map #[] 0)::(m2,.map #[] 0)::F))
  (fun x i m I0 F0 I' F'=>0≤i∧i≤s.slots.length∧m=(s.slots.length-i).toNat∧s.p.named=eB (mm s.p (s.slots.drop i.toNat) i) (j2 s.p s.p.states 0) ∧
    ∃H o,zh ((lZ s).take i.toNat) i.toNat o∧F'.Perm ((m1,o)::(m2,.map #[] 0)::(H++F)))
  (fun x i m I0 F0 I' F'=>0≤i∧i≤s.states.length∧m=(s.states.length-i).toNat∧s.p.named=j2 s.p (s.p.states.drop i.toNat) i ∧
    ∃H o1 o,zh (lZ s) s.slots.length o1∧zh ((mS s).take i.toNat) i.toNat o∧F'.Perm ((m1,o1)::(m2,o)::(H++F))) ?_
 unfold eJ.V
 intro b_s
 refine cF.mono kf fun v I1 G h1 ⟨r,hv,hI,hG⟩=>?_
 subst hI hG
 refine⟨some r,hv,(r,.map #[] 0)::(m1,.map #[] 0)::(m2,.map #[] 0)::F,.swap .., ?_⟩
 refine⟨⟨_,by omega,by omega,rfl,rfl,r,_,rfl,zh.nil,.refl _⟩,fun x i m I2 F2 l2 ⟨g0,g1,gm,ge,r',o,hr,hcn,hp⟩=>?_⟩
 obtain rfl:r=r':=by simpa using hr
 refine⟨fun hlt=>?_,fun hlt=>⟨⟨_,by omega,by omega,rfl, ?_,[_],_,zh.nil,hp.trans dm.symm⟩,fun x2 i2 m4 I9 F9 l9 ⟨k0,k1,km,ke,H,o2,kcn,kp⟩=>⟨fun hlt2=>?_,fun hlt2=>⟨⟨_,by omega,by omega,rfl, ?_,H,o2,.map #[] 0, ?_,zh.nil,kp⟩,
  fun x4 i3 m9 I14 F14 l14 ⟨q0,q1,qm,qe,H',o1,o3,qs,qcn,qp⟩=>⟨fun hlt3=>?_,fun hlt3=>?_⟩⟩⟩⟩⟩
 ·have hlt:=of_decide_eq_true hlt
  have hok2:∀{J:cc} (G:b8),cc.le I1 J→(∀y,y∈F→y∈G)→s.Ok J G:=fun G hJ h=>hok.mono hJ h
  have hsub2:∀y,y∈F→y∈F2:=fun y hy=>hp.mem_iff.2 (.tail _ (.tail _ (.tail _ hy)))
  obtain⟨ad,g,had,hg1,hrd,hgm⟩:=dq.gj (hok2 ((c6 b_s s)::F2) l2 fun y hy=>.tail _ (hsub2 y hy)).regs g0 hlt
  have hgl:(rZ s)[i.toNat]? = some g.name:=by unfold rZ;rw[List.getElem?_map,hg1];rfl
  have hgp:s.p.regs[i.toNat]? = some g.p:=by
   show (s.regs.map cH.p)[i.toNat]? = _
   rw[List.getElem?_map,hg1];rfl
  have hdr:s.p.regs.drop i.toNat=g.p::s.p.regs.drop (i.toNat+1):=by
   obtain⟨h1,h2⟩:=List.getElem?_eq_some_iff.1 hgp
   rw[List.drop_eq_getElem_cons h1,h2]
  rw[hdr,ml] at ge
  refine⟨⟨g0,hlt⟩,ad,had,_,_,_,_,_,_,_,_,_,_,_,_,_,hrd,fun b_r=>?_⟩
  have hm0:∀(x y:Nat×Obj),(r,o)∈x::y::F2:=fun x y=>.tail _ (.tail _ (hp.mem_iff.2 (.head _)))
  refine cF.mono (yS hcn hgl (by omega) (hm0 _ _)) fun v1 I3 G hl3 ⟨r1,hv1,hI,hG,hu⟩=>⟨r1,hv1,F2,by rw[hG], ?_⟩
  subst hI hG
  refine mu.mono (hu _ (((hp.cons _).cons _).trans dm)) fun I4 G hl4 ⟨hI,o',hcn',hG,hlk⟩=>?_
  subst hI hG
  refine⟨(r,o')::(m1,.map #[] 0)::(m2,.map #[] 0)::F,dm.symm, ?_⟩
  refine cF.mono (hlk _ (.tail _ (.tail _ (.head _)))) fun v2 I5 G hl5 ⟨r2,hv2,hI,hG,n1,n2,n3⟩=>?_
  subst hI hG
  have hix:=(yQ g.name (rZ s) i.toNat 0 hgl).1
  rw[←GQ,Int.zero_add,Int.toNat_of_nonneg g0] at hix
  have hgI:Gl I5:=hg.mono l2
  refine⟨r2,hv2,(r,o')::(m1,.map #[] 0)::(m2,.map #[] 0)::F,.refl _,fun h2=>?_,fun h2=>?_⟩
  ·have h2:=of_decide_eq_true h2
   rw[if_pos (show s.p.fG g.p.name<i from hix.2 (n3.1 h2)),yT (n:=150) (by decide)] at ge
   refine cf.jQ (fX hgI g.pos 150 (by decide) _) fun v I6 l6 hv=>⟨v,rfl,_,.refl _,v,_,_,[_],rfl, ?_,dm.symm,fun h=>?_⟩
   ·rw[ge];exact hv
   ·rw[ge] at h;exact absurd h (show (150:Int)≠0 by decide)
  ·have h2:=of_decide_eq_false h2
   rw[if_neg (show ¬s.p.fG g.p.name<i from fun h=>h2 (n3.2 (hix.1 h)))] at ge
   refine cf.jQ (C8 g.init (hf g hgm) I5 _ (hS.mono l2) (cC.mono (hok.fG _ hgm) l2 fun y hy=>.tail _ (.tail _ (.tail _ (.tail _ (.tail _ hy)))))) fun v I7 l7 ⟨w,hv,hw⟩=>⟨_,_,congrArg Ending.returned hv,_,.refl _,fun ht=>?_,fun ht=>?_⟩
   ·have ht:(typed s.p g.init.px).1≠g.cO:=by simpa using ht
    rw[if_pos (show (typed s.p g.p.init).1≠g.p.cO from ht),yT (n:=152) (by decide)] at ge
    refine cf.jQ (fX (hgI.mono l7) g.pos 152 (by decide) _) fun v I8 l8 hv=>⟨v,rfl,_,.refl _,v,_,_,[_],rfl, ?_,dm.symm,fun h=>?_⟩
    ·rw[ge];exact hv
    ·rw[ge] at h;exact absurd h (show (152:Int)≠0 by decide)
   ·have ht:(typed s.p g.init.px).1=g.cO:=by simpa using ht
    rw[if_neg (show ¬(typed s.p g.p.init).1≠g.p.cO from fun h=>h ht)] at ge
    refine⟨(s.regs.length-(i+1)).toNat,by omega, ?_⟩
    rw[cY (n:=i+1) (by omega)]
    refine⟨by omega,by omega,rfl, ?_,r,o',rfl, ?_,.refl _⟩
    ·rw[ge,show (i+1).toNat=i.toNat+1 by omega]
    ·rw[show (i+1).toNat=i.toNat+1 by omega];exact hcn'
 ·have hlt:=of_decide_eq_false hlt
  rw[ge,List.drop_eq_nil_of_le (by show (s.regs.map cH.p).length≤_;rw[List.length_map];omega)];rfl
 ·have hlt2:=of_decide_eq_true hlt2
  have l29:=cc.le_trans l2 l9
  have hsub2:∀y,y∈F→y∈F9:=fun y hy=>kp.mem_iff.2 (.tail _ (.tail _ (List.mem_append_right _ hy)))
  obtain⟨ad,g,had,hg1,hrd,hgm⟩:=dq.gj (hok.mono (H:=(c6 b_s s)::F9) l29 fun y hy=>.tail _ (hsub2 y hy)).slots k0 hlt2
  have hgl:(lZ s)[i2.toNat]? = some g.name:=by unfold lZ;rw[List.getElem?_map,hg1];rfl
  have hdr:s.slots.drop i2.toNat=g::s.slots.drop (i2.toNat+1):=by
   obtain⟨h1,h2⟩:=List.getElem?_eq_some_iff.1 hg1
   rw[List.drop_eq_getElem_cons h1,h2]
  rw[hdr,mm] at ke
  refine⟨⟨k0,hlt2⟩,ad,had,_,_,hrd,fun b_x=>?_⟩
  have hSJ:=hS.mono l29
  refine⟨_,rfl,some m1,(hSJ.rd _).1, ?_⟩
  have hm0:∀(x y:Nat×Obj),(m1,o2)∈x::y::F9:=fun x y=>.tail _ (.tail _ (kp.mem_iff.2 (.head _)))
  refine cF.mono (yS kcn hgl (by omega) (hm0 _ _)) fun v1 I3 G hl3 ⟨r1,hv1,hI,hG,hu⟩=>⟨r1,hv1,F9,by rw[hG], ?_⟩
  subst hI hG
  refine mu.mono (hu _ (((kp.cons _).cons _).trans dm)) fun I4 G hl4 ⟨hI,o',hcn',hG,hlk⟩=>?_
  subst hI hG
  refine⟨(m1,o')::(m2,.map #[] 0)::(H++F),dm.symm,_,rfl,some m1,(hSJ.rd _).1, ?_⟩
  refine cF.mono (hlk _ (.tail _ (.tail _ (.head _)))) fun v2 I5 G hl5 ⟨r2,hv2,hI,hG,n1,n2,n3⟩=>?_
  subst hI hG
  have hix:=(yQ g.name (lZ s) i2.toNat 0 hgl).1
  rw[show js g.name (lZ s) 0=s.p.slot g.name from rfl,Int.zero_add,Int.toNat_of_nonneg k0] at hix
  refine⟨r2,hv2,(m1,o')::(m2,.map #[] 0)::(H++F),.refl _,fun h2=>?_,fun h2=>⟨(s.slots.length-(i2+1)).toNat,by omega, ?_⟩⟩
  ·have h2:=of_decide_eq_true h2
   rw[if_pos (hix.2 (n3.1 h2)),yT (n:=150) (by decide)] at ke
   refine cf.jQ (fX (hg.mono l29) g.pos 150 (by decide) _) fun v I6 l6 hv=>⟨v,rfl,_,.refl _,v,_,_,H,rfl, ?_,.refl _,fun h=>?_⟩
   ·rw[ke];exact hv
   ·rw[ke] at h;exact absurd h (show (150:Int)≠0 by decide)
  ·have h2:=of_decide_eq_false h2
   rw[if_neg (fun h=>h2 (n3.2 (hix.1 h)))] at ke
   rw[cY (n:=i2+1) (by omega)]
   refine⟨by omega,by omega,rfl, ?_,H,o', ?_,.refl _⟩
   ·rw[ke,show (i2+1).toNat=i2.toNat+1 by omega]
   ·rw[show (i2+1).toNat=i2.toNat+1 by omega];exact hcn'
 ·have hlt2:=of_decide_eq_false hlt2
  rw[ke,List.drop_eq_nil_of_le (by omega)];rfl
 ·have hlt2:=of_decide_eq_false hlt2
  rw[List.take_of_length_le (by unfold lZ;rw[List.length_map];omega),show i2.toNat=s.slots.length by omega] at kcn
  exact kcn
 ·have hlt3:=of_decide_eq_true hlt3
  have l29:=cc.le_trans l2 (cc.le_trans l9 l14)
  have hsub2:∀y,y∈F→y∈F14:=fun y hy=>qp.mem_iff.2 (.tail _ (.tail _ (List.mem_append_right _ hy)))
  obtain⟨ad,g,had,hg1,hrd,hgm⟩:=dq.gj (hok.mono (H:=(c6 b_s s)::F14) l29 fun y hy=>.tail _ (hsub2 y hy)).states q0 hlt3
  have hgl:(mS s)[i3.toNat]? = some g.name:=by unfold mS;rw[List.getElem?_map,hg1];rfl
  have hgp:s.p.states[i3.toNat]? = some g.p:=by
   show (s.states.map cg.p)[i3.toNat]? = _
   rw[List.getElem?_map,hg1];rfl
  have hdr:s.p.states.drop i3.toNat=g.p::s.p.states.drop (i3.toNat+1):=by
   obtain⟨h1,h2⟩:=List.getElem?_eq_some_iff.1 hgp
   rw[List.drop_eq_getElem_cons h1,h2]
  rw[hdr,j2] at qe
  refine⟨⟨q0,hlt3⟩,ad,had,_,_,_,_,_,hrd,fun b_x=>?_⟩
  have hSJ:=hS.mono l29
  refine⟨_,rfl,some m2,(hSJ.rd _).2, ?_⟩
  have hm0:∀(x y:Nat×Obj),(m2,o3)∈x::y::F14:=fun x y=>.tail _ (.tail _ (qp.mem_iff.2 (.tail _ (.head _))))
  refine cF.mono (yS qcn hgl (by omega) (hm0 _ _)) fun v1 I3 G hl3 ⟨r1,hv1,hI,hG,hu⟩=>⟨r1,hv1,F14,by rw[hG], ?_⟩
  subst hI hG
  refine mu.mono (hu _ (((qp.cons _).cons _).trans uk)) fun I4 G hl4 ⟨hI,o',hcn',hG,hlk⟩=>?_
  subst hI hG
  refine⟨(m1,o1)::(m2,o')::(H'++F),uk.symm,_,rfl,some m2,(hSJ.rd _).2, ?_⟩
  refine cF.mono (hlk _ (.tail _ (.tail _ (.tail _ (.head _))))) fun v2 I5 G hl5 ⟨r2,hv2,hI,hG,n1,n2,n3⟩=>?_
  subst hI hG
  have hix:=(yQ g.name (mS s) i3.toNat 0 hgl).1
  rw[←AJ,Int.zero_add,Int.toNat_of_nonneg q0] at hix
  refine⟨r2,hv2,(m1,o1)::(m2,o')::(H'++F),.refl _,fun h2=>?_,fun h2=>⟨(s.states.length-(i3+1)).toNat,by omega, ?_⟩⟩
  ·have h2:=of_decide_eq_true h2
   rw[if_pos (show s.p.room g.p.name<i3 from hix.2 (n3.1 h2))] at qe
   refine cf.jQ (fX (hg.mono l29) g.pos 150 (by decide) _) fun v I6 l6 hv=>⟨v,rfl,_,.refl _,v,_,_,H',rfl, ?_,.refl _,fun h=>?_⟩
   ·rw[qe];exact hv
   ·rw[qe] at h;exact absurd h (show (150:Int)≠0 by decide)
  ·have h2:=of_decide_eq_false h2
   rw[if_neg (show ¬s.p.room g.p.name<i3 from fun h=>h2 (n3.2 (hix.1 h)))] at qe
   rw[cY (n:=i3+1) (by omega)]
   refine⟨by omega,by omega,rfl, ?_,H',o1,o',qs, ?_,.refl _⟩
   ·rw[qe,show (i3+1).toNat=i3.toNat+1 by omega]
   ·rw[show (i3+1).toNat=i3.toNat+1 by omega];exact hcn'
 ·have hlt3:=of_decide_eq_false hlt3
  rw[List.drop_eq_nil_of_le (by show (s.states.map cg.p).length≤_;rw[List.length_map];omega)] at qe
  rw[List.take_of_length_le (by unfold mS;rw[List.length_map];omega),show i3.toNat=s.states.length by omega] at qcn
  refine⟨_,o1,o3,H',rfl, ?_,qp,fun _=>⟨qs,qcn⟩⟩
  rw[qe];exact fQ.ok
end
end Go.Lx
namespace Go.Lx
open Go.Vc
def yU(f:TF)(v:Value)(J:cc):Prop:=fQ J f v
mutual
theorem AK(s:cu):∀x:Px,(typed s x).2.e≠0→(typed s x).2.of=true
 | .mk k o t n f nm l q,h=>by
   rw[typed] at h ⊢
   split
   ·rename_i h1;exact xX s l h1
   ·rename_i h1
    rw[if_neg h1] at h
    unfold eA at h ⊢
    split
    ·rfl
    ·rename_i h2
     rw[if_neg h2] at h
     split
     ·rename_i h3;rw[if_pos h3] at h;exact absurd rfl h
     ·rfl
theorem xX(s:cu):∀l:List Px,(fD s l).2.e≠0→(fD s l).2.of=true
 | [],h=>by rw[fD] at h;exact absurd rfl h
 | x::r,h=>by
   rw[fD] at h ⊢
   split
   ·rename_i h1;exact AK s x h1
   ·rename_i h1;rw[if_neg h1] at h;exact xX s r h
end
theorem Ek{s:cu}{x:Px}(h:x.dj=0):typeOf s x=typed s x:=by
 unfold typeOf
 rw[if_neg (fun h'=>h' h)]
theorem wC{s:cw}{c m1 m2:Nat}(t:Nd)(hc:t.px.dj=0)(want:Int){I:cc}{F:b8}(hg:Gl I)(hS:C7 I c s.p m1 m2)(ht:cC I F t) :
  cf P 108 #[.pointer (some ⟨c,0,none⟩),t.v,.int .u8 want] I F (ll (yU (eZ s.p t.px want)) F):=by
 refine gC.vc ?_
 unfold gC.V
 unfold eZ
 have hf:=jB hc
 rw[Ek hc]
 intro b_n
 refine cf.jQ (C8 t hf I _ hS (ht.mono (cc.le_refl I) fun y hy=>.tail _ hy)) fun v I1 l1 ⟨w,hv,hw⟩=>⟨_,_,congrArg Ending.returned hv,F,.refl _,_,hw.neq (by kernel_rfl),fun hq=>?_,fun hq=>?_⟩
 ·have he:(typed s.p t.px).2.e≠0:=by simpa using hq
  have hof:=AK s.p t.px he
  rw[if_pos he]
  have e:(⟨(typed s.p t.px).2.e,(typed s.p t.px).2.pos,true⟩:TF)=(typed s.p t.px).2:=by rw[←hof]
  refine cf.jQ (Cn (hg.mono l1) 0 (typed s.p t.px).2.pos (typed s.p t.px).2.e he (hw.2 he) _) fun v2 I2 l2 hv2=>⟨v2,rfl,F,.refl _,v2,rfl, ?_,rfl⟩
  rw[e] at hv2;exact hv2
 ·have he:(typed s.p t.px).2.e=0:=by simpa using hq
  rw[if_neg (fun h=>h he)]
  refine⟨fun hn=>?_,fun hn=>?_⟩
  ·have hn:(typed s.p t.px).1≠want:=by simpa using hn
   rw[if_pos hn,Nd.qX]
   exact cf.jQ (fX (hg.mono l1) t.pos 152 (by decide) _) fun v2 I2 l2 hv2=>⟨v2,rfl,F,.refl _,v2,rfl,hv2,rfl⟩
  ·have hn:(typed s.p t.px).1=want:=by simpa using hn
   rw[if_neg (fun h=>h hn)]
   exact⟨_,rfl,fQ.ok,rfl⟩
theorem wE{α:Type}{f:α→TF}:∀{l:List α} {i:Nat} {x:α},(∀y∈l.take i,(f y).e=0)→l[i]? = some x→(f x).e≠0→cX f l=f x
 | y::r,0,x,_,hx,he=>by
   simp only[List.getElem?_cons_zero,Option.some.injEq] at hx
   subst hx;rw[cX,if_pos he]
 | y::r,i+1,x,h,hx,he=>by
   rw[List.take_succ_cons] at h
   rw[cX,if_neg (by simpa using h y (.head _))]
   exact wE (fun k hk=>h k (.tail _ hk)) (by simpa using hx) he
theorem wF{α:Type}{f:α→TF}:∀{l:List α},(∀y∈l,(f y).e=0)→cX f l=sK
 | [],_=>rfl
 | y::r,h=>by rw[cX,if_neg (by simpa using h y (.head _))];exact wF fun k hk=>h k (.tail _ hk)
theorem wG{α β:Type}{f:β→TF}{g:α→β}:∀l:List α,cX f (l.map g)=cX (fun x=>f (g x)) l
 | []=>rfl
 | x::r=>by rw[List.map_cons,cX,cX,wG r]
def De(p:Nd×Int):List Value:=[.int .u8 p.1.kind,.int .u8 p.1.oper,.int .u8 p.1.cO,.int .i64 p.1.n,.int .u8 p.1.field,.string p.1.name,.slice p.1.a p.1.kids.length p.1.c,.int .i64 p.1.pos,.int .u8 p.2]
theorem GR(p:Nd×Int):∀u∈De p,u.oneCell'=true:=by
 intro u hu
 simp only[De,List.mem_cons,List.not_mem_nil,or_false] at hu
 rcases hu with h | h | h | h | h | h | h | h | h<;>(subst h;rfl)
theorem wH{a:Option Addr}{n c b1 m:Nat}{l:List (Nd×Int)}{A F R:b8}{I:cc}(hA:Acc 9 De 210 a n c l A)(hl:l.length≤100)(xs:List (Nd×Int))(hx:xs≠[])(hx2:xs.length≤2)(hm:m=xs.length)
  (hb:I b1=some (.cells (xs.flatMap De).toArray 210 (0,0))) (hF:F.Perm (A++R)) :
  cF P (Builtin.append_ #[208,208] 208 #[.slice a n c,.slice (some ⟨b1,0,none⟩) m m]) I F fun v I' G=>∃a' n' c' A',v=.slice a' n' c'∧Acc 9 De 210 a' n' c' (l++xs) A'∧G.Perm (A'++R):=by
 refine cF.perm (cF.mono (iD (f:=De) (z:=9) (zv:=.agg (De (iU,0)).toArray) (fun _=>rfl) (by':=80) (by kernel_rfl) (by kernel_rfl) rfl (by decide) hA (xs:=xs) (fun y _=>GR y) hx hm ?_ ?_ (F:=R)) fun v I' G _ ⟨a',n',c',A',h1,h2,h3,_⟩=>⟨a',n',c',A',h1,h2,by rw[h3]⟩) hF
 ·exact⟨rfl,_,_,_,.inl hb,fun j hj=>by simp⟩
 ·have:(l.length+xs.length)*80≤102*80:=Nat.mul_le_mul (by omega) (Nat.le_refl _)
  omega
def ld(d:dy)(v:Int):List (Nd×Int) :=
 if d.kind=1 then [(d.side,6),(d.qty,2)]++(if d.order≠2 then [(d.price,3)] else []) else if d.kind=2 then [(d.qty,2),(d.price,3)] else if d.kind=4 then [(d.value,v)] else []
theorem Cq(d:dy)(v:Int):(ld d v).length≤3:=by
 unfold ld
 split
 ·split<;>simp
 ·split
  ·simp
  ·split<;>simp
theorem El(s:cu)(d:dy):JG s d.p=(ld d (s.ko (HV s d.p))).map fun p=>eZ s p.1.px p.2:=by
 unfold JG ld
 show (if d.kind=1 then _ else _)++((if d.kind=1∨d.kind=2 then _ else _)++((if d.kind=1∧d.order≠2∨d.kind=2 then _ else _)++(if d.kind=4 then _ else _)))=_
 by_cases h1:d.kind=1
 ·rw[if_pos h1,if_pos (.inl h1),if_neg (show ¬d.kind=4 by omega),if_pos h1]
  by_cases ho:d.order≠2
  ·rw[if_pos (.inl ⟨h1,ho⟩),if_pos ho];rfl
  ·rw[if_neg (by omega),if_neg ho];rfl
 ·rw[if_neg h1,if_neg h1]
  by_cases h2:d.kind=2
  ·rw[if_pos (.inr h2),if_pos (.inr h2),if_neg (by omega),if_pos h2];rfl
  ·rw[if_neg (by omega),if_neg (by omega),if_neg h2]
   by_cases h4:d.kind=4
   ·rw[if_pos h4,if_pos h4];rfl
   ·rw[if_neg h4,if_neg h4];rfl
def GS(I:cc)(c:Nat)(s:cw):Prop:=∃m1 m2 o1 o2,C7 I c s.p m1 m2∧I m1=some o1∧zh (lZ s) s.slots.length o1∧I m2=some o2∧zh (mS s) s.states.length o2
theorem GS.mono{I J:cc}{c:Nat}{s:cw}(h:GS I c s)(hl:cc.le I J):GS J c s:=let ⟨m1,m2,o1,o2,h1,h2,h3,h4,h5⟩:=h;⟨m1,m2,o1,o2,h1.mono hl,hl.at h2,h3,hl.at h4,h5⟩
theorem uG{l:List ByteArray}{k:Nat}{o:Obj}{m:Nat}{I:cc}{G:b8}(hc:zh l k o)(hm:I m=some o)(nm:ByteArray):cF P (Instr.lookup 162 (.map (some m)) (.string nm) false) I G fun v I' G'=>∃r:Int,v=.int .i64 r∧I'=I∧G'=G∧decide (r>0)=iM l nm:=by
 obtain⟨es,ck,g,rfl,hg,hmet⟩:=hc
 refine cF.mono (rf GH AF lG str_inj Fz hg (.inl hm) nm) fun v I1 G1 hl1 ⟨hv,hI,hG⟩=>⟨(g nm).getD 0, ?_,hI,hG, ?_⟩
 ·rw[hv];cases g nm<;>rfl
 ·cases hs:iM l nm with
  | true=>obtain⟨x,h1,h2,_⟩:=(hmet nm).1 hs;rw[h1];exact decide_eq_true (by show x>0;omega)
  | false=>rw[(hmet nm).2 hs];rfl
def dy.Fit(d:dy):Prop:=∀v,∀p∈ld d v,p.1.px.dj=0
theorem AL{d:dy}(h:d.p.check=0):d.Fit:=by
 unfold dA.check at h
 obtain⟨_,h⟩:=cI h
 obtain⟨_,h⟩:=cI h
 obtain⟨_,h⟩:=cI h
 obtain⟨h1,h⟩:=cI h
 obtain⟨h2,h⟩:=cI h
 obtain⟨h3,h4⟩:=cI h
 have e1:d.p.kind=d.kind:=rfl
 have e2:d.p.order=d.order:=rfl
 rw[e1] at h1 h2 h3 h4
 rw[e2] at h3
 have part:∀{b:Bool} {x:Px},cN b x=0→b=true→x.dj=0:=fun {b} {x} h hb=>by unfold cN at h;rw[if_pos hb] at h;exact h
 intro v p hp
 unfold ld at hp
 split at hp
 ·rename_i k1
  rcases List.mem_append.1 hp with hp | hp
  ·simp only[List.mem_cons,List.not_mem_nil,or_false] at hp
   rcases hp with rfl | rfl
   ·exact part h1 (decide_eq_true k1)
   ·exact part h2 (decide_eq_true (.inl k1))
  ·split at hp
   ·rename_i ho
    rw[List.mem_singleton] at hp;subst hp
    exact part h3 (decide_eq_true (.inl ⟨k1,ho⟩))
   ·simp at hp
 ·split at hp
  ·rename_i k2
   simp only[List.mem_cons,List.not_mem_nil,or_false] at hp
   rcases hp with rfl | rfl
   ·exact part h2 (decide_eq_true (.inr k2))
   ·exact part h3 (decide_eq_true (.inr k2))
  ·split at hp
   ·rename_i k4
    rw[List.mem_singleton] at hp;subst hp
    exact part h4 (decide_eq_true k4)
   ·simp at hp
theorem Em{d:dy}{I:cc}{G:b8}(h:d.Ok I G){v:Int}:∀p∈ld d v,cC I G p.1:=by
 obtain⟨o1,o2,o3,o4⟩:=h
 intro p hp
 unfold ld at hp
 split at hp
 ·rcases List.mem_append.1 hp with hp | hp
  ·simp only[List.mem_cons,List.not_mem_nil,or_false] at hp
   rcases hp with rfl | rfl<;>assumption
  ·split at hp
   ·rw[List.mem_singleton] at hp;subst hp;assumption
   ·simp at hp
 ·split at hp
  ·simp only[List.mem_cons,List.not_mem_nil,or_false] at hp
   rcases hp with rfl | rfl<;>assumption
  ·split at hp
   ·rw[List.mem_singleton] at hp;subst hp;assumption
   ·simp at hp
theorem Dg{I:cc}{b:Nat}{p q:Nd×Int}(h:I b=some (.cells (De p++De q).toArray 210 (0,0))):I b=some (.cells ([p,q].flatMap De).toArray 210 (0,0)):=by
 rw[h];simp
section
variable {s:cw} {I:cc} {F:b8} {c:Nat}
theorem wI(nm:ByteArray):iM (lZ s) nm = !decide (s.p.slot nm<0):=by
 have h:=yR nm (lZ s) 0 (Int.le_refl 0)
 have e:s.p.slot nm=js nm (lZ s) 0:=rfl
 rw[e]
 cases hb:iM (lZ s) nm with
 | true=>rw[hb] at h;simp at h;simp[h]
 | false=>rw[hb] at h;simp at h;simp[h]
theorem FH(nm:ByteArray):iM (mS s) nm = !decide (s.p.room nm<0):=by
 have h:=yR nm (mS s) 0 (Int.le_refl 0)
 rw[AJ]
 cases hb:iM (mS s) nm with
 | true=>rw[hb] at h;simp at h;simp[h]
 | false=>rw[hb] at h;simp at h;simp[h]
set_option maxHeartbeats 1000000 in
theorem FI(hg:Gl I)(hA:GS I c s)(d:dy)(hdo:d.Ok I F)(hfit:d.Fit):cf P 109 #[.pointer (some ⟨c,0,none⟩),d.v] I F (ll (yU (C0 s.p d.p)) F):=by
 refine cf.still ?_
 obtain⟨i0,hi0⟩:∃i0,i0=HV s.p d.p:=⟨_,rfl⟩
 have hI:HV s.p d.p=if d.kind=1 then (if d.name.toList=[] then 0 else s.p.slot d.name) else if d.kind=2∨d.kind=3 then s.p.slot d.name else if d.kind=4 then s.p.fG d.name else if d.kind=5 then s.p.room d.name else 0:=rfl
 obtain⟨ps,hps⟩:∃ps,ps=ld d (s.p.ko i0):=⟨_,rfl⟩
 have hpl:ps.length≤3:=by rw[hps];exact Cq _ _
 have hpd:ld d (s.p.ko i0)=if d.kind=1 then [(d.side,6),(d.qty,2)]++(if d.order≠2 then [(d.price,3)] else []) else if d.kind=2 then [(d.qty,2),(d.price,3)] else if d.kind=4 then [(d.value,s.p.ko i0)] else []:=rfl
 have hdT:C0 s.p d.p=if i0<0 then ⟨151,d.pos,false⟩ else cX (fun p:Nd×Int=>eZ s.p p.1.px p.2) ps:=by
  unfold C0
  rw[El,←hi0,←hps,wG];rfl
 refine iR.vc
  (fun v is a n k I0 F0 I' F'=>is = !decide (i0<0)∧∃A,F'.Perm (A++F)∧(is=true→Acc 9 De 210 a n k ps A))
  (fun a n k I0 F0 I' F'=>∃A,F'.Perm (A++F)∧Acc 9 De 210 a n k ps A)
  (fun a n k x i m I0 F0 I' F'=>0≤i∧i≤n∧m=(n-i).toNat∧¬i0<0∧∃A,F'.Perm (A++F)∧Acc 9 De 210 a n k ps A∧∀p∈ps.take i.toNat,(eZ s.p p.1.px p.2).e=0) ?_
 unfold iR.V
 intro b_d
 have hsc:∀{J:cc},cc.le I J→GS J c s:=fun h=>hA.mono h
 refine⟨⟨fun h1=>?_,fun h1=>⟨fun h2=>?_,fun h2=>⟨fun h3=>?_,fun h3=>⟨fun h4=>?_,fun h4=>⟨fun h5=>?_,fun h5=>?_⟩⟩⟩⟩⟩,fun v is a n k I15 F11 l15 ⟨his,A,hF11,hAcc⟩=>⟨fun hq=>?_,fun hq=>?_⟩⟩
 ·have h1:d.kind=1:=by simpa using h1
  rw[if_pos h1] at hI hpd
  intro b I1 l1 hb
  have happ:=wH (R:=(ql b_d d)::F) (A:=[]) (m:=2) Acc.nil (by simp) [(d.side,6),(d.qty,2)] (by simp) (by simp) rfl (Dg hb) (.refl _)
  refine cF.mono happ fun v I2 G l2 ⟨a',n',c',A',hv,hA',hG⟩=>⟨a',n',c',hv,A'++F,hG.trans List.perm_middle,⟨fun ho=>?_,fun ho=>?_⟩,fun pa pn pc I5 F3 l5 ⟨A3,hF3,hA3⟩=>⟨fun hn=>?_,fun hn=>?_⟩⟩
  ·have ho:d.order≠2:=by simpa using ho
   rw[if_pos ho] at hpd
   intro b1 I3 l3 hb1
   have happ:=wH (R:=(ql b_d d)::F) (A:=A') hA' (by simp) [(d.price,3)] (by simp) (by simp) rfl hb1 List.perm_middle.symm
   refine cF.mono happ fun v I4 G l4 ⟨a2,n2,c2,A2,hv,hA2,hG⟩=>⟨a2,n2,c2,hv,A2++F,hG.trans List.perm_middle,A2,.refl _, ?_⟩
   rw[hps,hpd];exact hA2
  ·have ho:d.order=2:=by simpa using ho
   rw[if_neg (by simpa using ho)] at hpd
   refine⟨A',.refl _, ?_⟩
   rw[hps,hpd];exact hA'
  ·have hn:d.name.toList=[]:=by simpa using hn
   rw[if_pos hn] at hI
   exact⟨by rw[hi0,hI];rfl,A3,hF3,fun _=>hA3⟩
  ·have hn:¬d.name.toList=[]:=by simpa using hn
   rw[if_neg hn] at hI
   obtain⟨m1,m2,o1,o2,hS,hm1,hc1,hm2,hc2⟩:=hsc (cc.le_trans l1 (cc.le_trans l2 l5))
   refine⟨_,rfl,some m1,(hS.rd _).1,(uG hc1 hm1 d.name).mono fun v I6 G l6 ⟨r,hv,hI6,hG,hr⟩=>⟨r,hv,F3,by rw[hG], ?_,A3,hF3,fun _=>hA3⟩⟩
   rw[hr,wI,hi0,hI]
 ·have h1:d.kind≠1:=by simpa using h1
  have h2:d.kind=2:=by simpa using h2
  rw[if_neg h1,if_pos (.inl h2)] at hI
  rw[if_neg h1,if_pos h2] at hpd
  intro b I1 l1 hb
  have happ:=wH (R:=(ql b_d d)::F) (A:=[]) (m:=2) Acc.nil (by simp) [(d.qty,2),(d.price,3)] (by simp) (by simp) rfl (Dg hb) (.refl _)
  refine cF.mono happ fun v I2 G l2 ⟨a',n',c',A',hv,hA',hG⟩=>⟨a',n',c',hv,A'++F,hG.trans List.perm_middle, ?_⟩
  obtain⟨m1,m2,o1,o2,hS,hm1,hc1,hm2,hc2⟩:=hsc (cc.le_trans l1 l2)
  refine⟨_,rfl,some m1,(hS.rd _).1,(uG hc1 hm1 d.name).mono fun v I6 G l6 ⟨r,hv,hI6,hG,hr⟩=>⟨r,hv,A'++F,by rw[hG], ?_,A',.refl _,fun _=>?_⟩⟩
  ·rw[hr,wI,hi0,hI]
  ·rw[hps,hpd];exact hA'
 ·have h1:d.kind≠1:=by simpa using h1
  have h2:d.kind≠2:=by simpa using h2
  have h3:d.kind=3:=by simpa using h3
  rw[if_neg h1,if_pos (.inr h3)] at hI
  rw[if_neg h1,if_neg h2,if_neg (by omega)] at hpd
  obtain⟨m1,m2,o1,o2,hS,hm1,hc1,hm2,hc2⟩:=hA
  refine⟨_,rfl,some m1,(hS.rd _).1,(uG hc1 hm1 d.name).mono fun v I6 G l6 ⟨r,hv,hI6,hG,hr⟩=>⟨r,hv,F,by rw[hG], ?_,[],.refl _,fun _=>?_⟩⟩
  ·rw[hr,wI,hi0,hI]
  ·rw[hps,hpd];exact Acc.nil
 ·have h1:d.kind≠1:=by simpa using h1
  have h2:d.kind≠2:=by simpa using h2
  have h3:d.kind≠3:=by simpa using h3
  have h4:d.kind=4:=by simpa using h4
  rw[if_neg h1,if_neg (by omega),if_pos h4] at hI
  rw[if_neg h1,if_neg h2,if_pos h4] at hpd
  obtain⟨m1,m2,o1,o2,⟨m0,es,ck,hc,hm,hgm⟩,hm1,hc1,hm2,hc2⟩:=hA
  refine⟨_,rfl,some m0,Rd.sV hc _ 0 fun j hj=>?_, ?_⟩
  ·have:j=0:=by simpa using hj
   subst this;rfl
  refine cF.mono (tb GG AF lG str_inj Fy hgm (.inl hm) d.name) fun v I3 G l3 ⟨hv,hI3,hG⟩=>?_
  subst hI3 hG
  rw[wq] at hv
  by_cases hr:s.p.fG d.name<0
  ·rw[if_pos hr] at hv
   refine⟨0,false,hv,F,.refl _,fun b I4 l4 hb=>?_⟩
   have happ:=wH (R:=(ql b_d d)::F) (A:=[]) Acc.nil (by simp) [(d.value,0)] (by simp) (by simp) rfl hb (.refl _)
   refine cF.mono happ fun v I2 G l2 ⟨a',n',c',A',hv,hA',hG⟩=>⟨a',n',c',hv,A'++F,hG.trans List.perm_middle, ?_,A',.refl _,fun h=>(by cases h)⟩
   rw[hi0,hI,decide_eq_true hr];rfl
  ·rw[if_neg hr] at hv
   refine⟨s.p.ko (s.p.fG d.name),true,hv,F,.refl _,fun b I4 l4 hb=>?_⟩
   have happ:=wH (R:=(ql b_d d)::F) (A:=[]) Acc.nil (by simp) [(d.value,s.p.ko (s.p.fG d.name))] (by simp) (by simp) rfl hb (.refl _)
   refine cF.mono happ fun v I2 G l2 ⟨a',n',c',A',hv,hA',hG⟩=>⟨a',n',c',hv,A'++F,hG.trans List.perm_middle, ?_,A',.refl _,fun _=>?_⟩
   ·rw[hi0,hI,decide_eq_false hr];rfl
   ·rw[hps,hpd,hi0,hI];exact hA'
 ·have h1:d.kind≠1:=by simpa using h1
  have h2:d.kind≠2:=by simpa using h2
  have h3:d.kind≠3:=by simpa using h3
  have h4:d.kind≠4:=by simpa using h4
  have h5:d.kind=5:=by simpa using h5
  rw[if_neg h1,if_neg (by omega),if_neg h4,if_pos h5] at hI
  rw[if_neg h1,if_neg h2,if_neg h4] at hpd
  obtain⟨m1,m2,o1,o2,hS,hm1,hc1,hm2,hc2⟩:=hA
  refine⟨_,rfl,some m2,(hS.rd _).2,(uG hc2 hm2 d.name).mono fun v I6 G l6 ⟨r,hv,hI6,hG,hr⟩=>⟨r,hv,F,by rw[hG], ?_,[],.refl _,fun _=>?_⟩⟩
  ·rw[hr,FH,hi0,hI]
  ·rw[hps,hpd];exact Acc.nil
 ·have h1:d.kind≠1:=by simpa using h1
  have h2:d.kind≠2:=by simpa using h2
  have h3:d.kind≠3:=by simpa using h3
  have h4:d.kind≠4:=by simpa using h4
  have h5:d.kind≠5:=by simpa using h5
  rw[if_neg h1,if_neg (by omega),if_neg h4,if_neg h5] at hI
  rw[if_neg h1,if_neg h2,if_neg h4] at hpd
  refine⟨by rw[hi0,hI];rfl,[],.refl _,fun _=>?_⟩
  rw[hps,hpd];exact Acc.nil
 ·have hneg:i0<0:=by rw[his] at hq;simpa using hq
  rw[if_pos hneg] at hdT
  refine cf.jQ (fX (hg.mono l15) d.pos 151 (by decide) _) fun v2 I2 l2 hv2=>⟨v2,rfl,F11,.refl _,v2,A,rfl,hF11,fun J hJ hx=>?_⟩
  rw[hdT];exact fQ.mono hv2 hJ
 ·have hq:is=true:=by simpa using hq
  have hneg:¬i0<0:=by rw[his] at hq;simpa using hq
  rw[if_neg hneg] at hdT
  have hAcc:=hAcc hq
  have hn:=hAcc.1
  refine⟨⟨_,by omega,by omega,rfl,hneg,A,hF11,hAcc,fun p hp=>by simp at hp⟩,fun x i m I17 F13 l17 ⟨g0,g1,gm,_,A2,hF13,hA2,hall⟩=>⟨fun hlt=>?_,fun hlt=>?_⟩⟩
  ·have hlt:=of_decide_eq_true hlt
   have l:=cc.le_trans l15 l17
   have hS2:=hA2.yr (z:=9) (f:=De) (fun _=>rfl) I17 (G:=(ql b_d d)::F13) fun y hy=>.tail _ (hF13.mem_iff.2 (List.mem_append_left _ hy))
   obtain⟨ad,p,had,hp,hrd,hpm⟩:=dq.gj hS2 g0 hlt
   refine⟨⟨g0,hlt⟩,ad,had,_,_,_,_,_,_,_,_,_,_,_,hrd,fun b_p=>?_⟩
   have hpm':p∈ld d (s.p.ko i0):=hps▸hpm
   obtain⟨m1,m2,o1,o2,hS,hm1,hc1,hm2,hc2⟩:=hsc l
   refine cf.jQ (wC p.1 (hfit _ p hpm') p.2 (hg.mono l) hS ((Em hdo p hpm').mono l fun y hy=>.tail _ (.tail _ (hF13.mem_iff.2 (List.mem_append_right _ hy))))) fun v2 I2 l2 hv2=>⟨v2,rfl,F13,.refl _,_,fQ.neq hv2 (by kernel_rfl),fun he=>?_,fun he=>⟨(n-(i+1)).toNat,by omega, ?_⟩⟩
   ·have he:(eZ s.p p.1.px p.2).e≠0:=by simpa using he
    refine⟨v2,A2,rfl,hF13,fun J hJ hx=>?_⟩
    rw[hdT,wE (f:=fun p:Nd×Int=>eZ s.p p.1.px p.2) hall hp he]
    exact fQ.mono hv2 hJ
   ·have he:(eZ s.p p.1.px p.2).e=0:=by simpa using he
    rw[cY (n:=i+1) (by omega)]
    refine⟨by omega,by omega,rfl,hneg,A2,hF13,hA2, ?_⟩
    rw[show (i+1).toNat=i.toNat+1 by omega]
    exact we hp hall he
  ·have hlt:=of_decide_eq_false hlt
   refine⟨_,A2,rfl,hF13,fun J hJ hx=>?_⟩
   rw[List.take_of_length_le (by omega)] at hall
   rw[hdT,wF hall]
   exact fQ.ok
end
end Go.Lx
namespace Go.Lx
open Go.Vc
def cp.Fit(r:cp):Prop:=r.when.px.dj=0∧∀d∈r.dos,d.Fit∧d.kind≤6
theorem Cr{r:cp}(h:r.p.check=0):r.Fit:=by
 unfold cD.check at h
 obtain⟨h1,h⟩:=cI h
 obtain⟨_,h⟩:=cI h
 obtain⟨_,h⟩:=cI h
 refine⟨h1,fun d hd=>?_⟩
 have hd:=jN h d.p (List.mem_map_of_mem hd)
 refine⟨AL hd, ?_⟩
 unfold dA.check at hd
 have h1:=rq (by decide) (cI hd).1
 have:=of_decide_eq_true h1
 exact this.2
theorem AM{s:cw}(h:s.p.check=0):∀x∈s.states,∀r∈x.rules,r.Fit:=by
 unfold cu.check at h
 obtain⟨_,h⟩:=cI h
 obtain⟨_,h⟩:=cI h
 obtain⟨_,h⟩:=cI h
 obtain⟨_,h⟩:=cI h
 obtain⟨_,h⟩:=cI h
 obtain⟨_,h⟩:=cI h
 obtain⟨_,h⟩:=cI h
 intro x hx r hr
 have h1:=jN h x.p (List.mem_map_of_mem hx)
 unfold cq.check at h1
 obtain⟨_,h1⟩:=cI h1
 obtain⟨_,h1⟩:=cI h1
 exact Cr (jN h1 r.p (List.mem_map_of_mem hr))
def oF(l:List dy)(i:Int):Bool:=decide (0<i)&&(match l[i.toNat-1]? with
 | some d=>decide (d.kind=5∨d.kind=6)
 | none=>false)
section
variable {s:cw} {I:cc} {F:b8} {c:Nat}
set_option maxHeartbeats 1000000 in
theorem Cs(hg:Gl I)(hA:GS I c s)(r:cp)(hro:r.Ok I F)(hfit:r.Fit)(hlen:r.dos.length≤1048576):cf P 68 #[.pointer (some ⟨c,0,none⟩),r.v] I F (ll (yU (fa s.p r.p)) F):=by
 obtain⟨hw,hds⟩:=hfit
 have hrt:fa s.p r.p=eB (eZ s.p r.when.px 5) (um s.p (r.dos.map dy.p) false):=rfl
 refine gD.vc (fun x i m I' F'=>F'=F∧0≤i∧i≤r.dos.length∧m=(r.dos.length-i).toNat∧fa s.p r.p=um s.p ((r.dos.drop i.toNat).map dy.p) (oF r.dos i)) ?_
 unfold gD.V
 intro b_r
 have hS:∃m1 m2,C7 I c s.p m1 m2:=let ⟨m1,m2,_,_,h,_⟩:=hA;⟨m1,m2,h⟩
 obtain⟨m1,m2,hS⟩:=hS
 refine cf.jQ (wC r.when hw 5 hg hS (hro.1.mono (cc.le_refl I) fun y hy=>.tail _ hy)) fun v I1 l1 hv=>⟨v,rfl,F,.refl _,_,fQ.neq hv (by kernel_rfl),fun he=>?_,fun he=>?_⟩
 ·have he:(eZ s.p r.when.px 5).e≠0:=by simpa using he
  rw[hrt,kx _ he]
  exact⟨v,rfl,hv,rfl⟩
 have he:(eZ s.p r.when.px 5).e=0:=by simpa using he
 rw[sw _ he] at hrt
 refine⟨⟨_,rfl,by omega,by omega,rfl,hrt⟩,fun x i m I2 F2 l2 ⟨gF,g0,g1,gm,ge⟩=>⟨fun hlt=>?_,fun hlt=>?_⟩⟩
 ·subst gF
  have hlt:=of_decide_eq_true hlt
  have l:=cc.le_trans l1 l2
  have hr2:∀x:Nat×Obj,cp.Ok I2 (x::F2) r:=fun x=>hro.mono l fun y hy=>.tail _ hy
  obtain⟨ad,d,had,hd,hrd,hdm⟩:=dq.gj (hr2 (kg b_r r)).2.1 g0 hlt
  obtain⟨hk,hdk⟩:=List.getElem?_eq_some_iff.1 hd
  obtain⟨hdf,hd6⟩:=hds d hdm
  rw[List.drop_eq_getElem_cons hk,hdk,List.map_cons,um] at ge
  have step:∀b_d:Nat,oF r.dos i=false→cf P 109 #[.pointer (some ⟨c,0,none⟩),d.v] I2 ((kg b_r r)::(ql b_d d)::F2) (ll (yU (C0 s.p d.p)) ((kg b_r r)::(ql b_d d)::F2)):=fun b_d _ =>
   FI (hg.mono l) (hA.mono l) d ((hro.2.2 d hdm).mono l fun y hy=>.tail _ (.tail _ hy)) hdf
  have next:oF r.dos i=false→(C0 s.p d.p).e=0→fa s.p r.p=um s.p ((r.dos.drop (i+1).toNat).map dy.p) (oF r.dos (i+1)):=fun hb h0=>by
   rw[ge,hb,if_neg (by simp),if_neg (by simpa using h0),show (i+1).toNat=i.toNat+1 by omega]
   have:oF r.dos (i+1)=decide (d.p.kind=5∨d.p.kind=6):=by
    unfold oF
    rw[show (i+1).toNat-1=i.toNat by omega,hd,decide_eq_true (show 0<i+1 by omega)]
    rfl
   rw[this]
  refine⟨⟨g0,hlt⟩,ad,had,_,_,_,_,_,_,_,_,_,_,_,_,_,_,_,_,_,_,_,_,_,_,_,_,_,_,_,_,_,_,_,_,_,_,_,_,_,_,_,_,_,_,_,_,hrd,fun b_d=>⟨fun hp=>?_,fun hp=>?_⟩⟩
  ·have hp:=of_decide_eq_true hp
   have hw1:IntKind.wrap .i64 (i-1)=i-1:=cY (by omega)
   rw[hw1]
   obtain⟨ad1,d1,had1,hd1,hrd1,hdm1⟩:=dq.gj ((hr2 (ql b_d d)).cons (x:=(kg b_r r))).2.1 (i:=i-1) (by omega) (by omega)
   have hlb:oF r.dos i=decide (d1.kind=5∨d1.kind=6):=by
    unfold oF
    rw[show i.toNat-1=(i-1).toNat by omega,hd1,decide_eq_true hp]
    rfl
   have h16:=(hds d1 hdm1).2
   refine⟨⟨by omega,by omega⟩,ad1,had1,d1.kind,hrd1.field (o:=0) rfl,fun h5=>?_,fun h5=>?_⟩
   ·have h5:=of_decide_eq_true h5
    have hb:oF r.dos i=true:=by rw[hlb];exact decide_eq_true (by omega)
    rw[hb,if_pos rfl] at ge
    exact cf.jQ (fX (hg.mono l) d.pos 153 (by decide) _) fun v2 I3 l3 hv2=>⟨v2,rfl,F2,.refl _,v2,rfl,by rw[ge];exact hv2,rfl⟩
   ·have h5:=of_decide_eq_false h5
    have hb:oF r.dos i=false:=by rw[hlb];exact decide_eq_false (by omega)
    refine cf.jQ (step b_d hb) fun v2 I3 l3 hv2=>⟨v2,rfl,F2,.refl _,_,fQ.neq hv2 (by kernel_rfl),fun hq=>?_,fun hq=>⟨(r.dos.length-(i+1)).toNat,by omega, ?_⟩⟩
    ·have hq:(C0 s.p d.p).e≠0:=by simpa using hq
     rw[ge,hb,if_neg (by simp),if_pos hq]
     exact⟨v2,rfl,hv2,rfl⟩
    ·have hq:(C0 s.p d.p).e=0:=by simpa using hq
     rw[cY (n:=i+1) (by omega)]
     exact⟨rfl,by omega,by omega,rfl,next hb hq⟩
  ·have hp:=of_decide_eq_false hp
   have hb:oF r.dos i=false:=by unfold oF;rw[decide_eq_false (by omega)];rfl
   refine cf.jQ (step b_d hb) fun v2 I3 l3 hv2=>⟨v2,rfl,F2,.refl _,_,fQ.neq hv2 (by kernel_rfl),fun hq=>?_,fun hq=>⟨(r.dos.length-(i+1)).toNat,by omega, ?_⟩⟩
   ·have hq:(C0 s.p d.p).e≠0:=by simpa using hq
    rw[ge,hb,if_neg (by simp),if_pos hq]
    exact⟨v2,rfl,hv2,rfl⟩
   ·have hq:(C0 s.p d.p).e=0:=by simpa using hq
    rw[cY (n:=i+1) (by omega)]
    exact⟨rfl,by omega,by omega,rfl,next hb hq⟩
 ·subst gF
  have hlt:=of_decide_eq_false hlt
  rw[List.drop_eq_nil_of_le (by omega),List.map_nil,um] at ge
  rw[ge];exact⟨_,rfl,fQ.ok,rfl⟩
theorem wJ(hl:s.p.oK)(hok:s.Ok I F)(hg:Gl I)(hf:∀r∈s.regs,r.init.px.formed=true){m1 m2:Nat}(hS:C7 I c s.p m1 m2) :
  cf P 67 #[.pointer (some ⟨c,0,none⟩),s.v] I ((m1,.map #[] 0)::(m2,.map #[] 0)::F) (ll (fun v J=>yU s.p.named v J∧(s.p.named.e=0→GS J c s)) F) :=
 cf.keep (xj hl hok hg hf hS) fun e I' G w l hs ⟨v,he,hv,o1,o2,hG,hk⟩=>by
  subst hG
  obtain⟨J,g1,g2,g3⟩:=Sat.still [(m1,o1),(m2,o2)] hs
  exact⟨J,F,g1,g3,v,he,⟨hv.mono g1,fun h0=>⟨m1,m2,o1,o2,hS.mono (cc.le_trans l g1),g2 _ (.head _),(hk h0).1,g2 _ (.tail _ (.head _)),(hk h0).2⟩⟩,rfl⟩
end
end Go.Lx
namespace Go.Lx
open Go.Vc
set_option maxHeartbeats 1000000 in
theorem yV(s:cw)(hl:s.p.oK){I:cc}{F:b8}(hok:s.Ok I F)(hg:Gl I):cf P 39 #[s.v] I F (ll (yU s.p.types) F):=by
 have lr:=hl.regs
 have lt:=hl.states
 simp only[cw.p,List.length_map] at lr lt
 have hdef:s.p.types=if s.p.check≠0 then ⟨s.p.check,0,false⟩ else eB s.p.named (cX (fun x=>cX (fa s.p) x.rules) (s.states.map cg.p)):=rfl
 refine lY.vc
  (fun cA x i m I0 F0 I' F'=>F'=F∧0≤i∧i≤s.states.length∧m=(s.states.length-i).toNat∧(∃c,cA=some (⟨c,0,none⟩:Addr)∧GS I' c s)∧(∀x∈s.states,∀r∈x.rules,r.Fit)∧s.p.types=cX (fun x=>cX (fa s.p) x.rules) ((s.states.drop i.toNat).map cg.p))
  (fun cA i x k m I0 F0 I' F'=>F'=F∧∃y,s.states[i.toNat]? = some y∧0≤k∧k≤y.rules.length∧m=(y.rules.length-k).toNat∧(∃c,cA=some (⟨c,0,none⟩:Addr)∧GS I' c s)∧(∀x∈s.states,∀r∈x.rules,r.Fit) ∧
    s.p.types=eB (cX (fa s.p) ((y.rules.drop k.toNat).map cp.p)) (cX (fun x=>cX (fa s.p) x.rules) ((s.states.drop (i.toNat+1)).map cg.p))) ?_
 unfold lY.V
 intro b_s
 have ok1:∀{J:cc} {x:Nat×Obj},cc.le I J→s.Ok J (x::F):=fun hJ=>hok.mono hJ fun y hy=>.tail _ hy
 refine cf.ret (BZ s hl.small hl.lens I _ (ok1 (cc.le_refl I))) fun I1 l1=>⟨_,rfl,F,.refl _,fun hc=>?_,fun hc=>?_⟩
 ·have hc:s.p.check≠0:=by simpa using hc
  rw[hdef,if_pos hc]
  exact cf.jQ (fX (hg.mono l1) 0 s.p.check hc _) fun v I2 l2 hv=>⟨v,rfl,F,.refl _,v,rfl,hv,rfl⟩
 have hc:s.p.check=0:=by simpa using hc
 rw[if_neg (by simpa using hc)] at hdef
 have hfit:=AM hc
 have hfm:∀r∈s.regs,r.init.px.formed=true:=fun r hr=>wk hc r.p (List.mem_map_of_mem hr)
 refine (wB s lr I1 _ (ok1 l1)).mono fun e I2 G l2 ⟨c,m1,m2,he,hS,hG⟩=>?_
 subst hG
 have l12:=cc.le_trans l1 l2
 refine⟨_,he,(m1,.map #[] 0)::(m2,.map #[] 0)::F,dm, ?_⟩
 have hdec:=wJ (F:=(c6 b_s s)::F) hl (ok1 l12) (hg.mono l12) hfm hS
 refine (hdec.perm dm.symm).mono fun e I3 G l3 ⟨v,he,⟨hv,hk⟩,hG⟩=>⟨v,he,F,by rw[hG],_,fQ.neq hv (by kernel_rfl),fun hq=>?_,fun hq=>?_⟩
 ·have hq:s.p.named.e≠0:=by simpa using hq
  rw[hdef,kx _ hq]
  exact⟨v,rfl,hv,rfl⟩
 have hq:s.p.named.e=0:=by simpa using hq
 rw[sw _ hq] at hdef
 have l123:=cc.le_trans l12 l3
 refine⟨⟨_,rfl,by omega,by omega,rfl,⟨c,rfl,hk hq⟩,hfit,hdef⟩,fun x i m I4 F4 l4 ⟨gF,g0,g1,gm,⟨c',hc',hA⟩,_,ge⟩=>⟨fun hlt=>?_,fun hlt=>?_⟩⟩
 ·subst gF
  obtain rfl:c=c':=by simpa using hc'
  have hlt:=of_decide_eq_true hlt
  have l:=cc.le_trans l123 l4
  obtain⟨ad,y,had,hy,hrd,hym⟩:=dq.gj (ok1 (x:=(c6 b_s s)) l).states g0 hlt
  obtain⟨hk2,hyk⟩:=List.getElem?_eq_some_iff.1 hy
  rw[List.drop_eq_getElem_cons hk2,hyk,List.map_cons] at ge
  have hly:=(hl.state y.p (List.mem_map_of_mem hym)).1
  have hlr:=(hl.state y.p (List.mem_map_of_mem hym)).2
  simp only[cg.p,List.length_map] at hly
  refine⟨⟨g0,hlt⟩,ad,had,_,_,_,_,_,hrd,fun b_x=>⟨⟨_,rfl,y,hy,by omega,by omega,rfl,⟨c,rfl,hA⟩,hfit, ?_⟩,fun x2 k m3 I5 F5 l5 ⟨hF,y',hy',h0,h1,hm,⟨c2,hc2,hA2⟩,_,he2⟩=>⟨fun hlt2=>?_,fun hlt2=>⟨(s.states.length-(i+1)).toNat,by omega, ?_⟩⟩⟩⟩
  ·rw[ge];unfold eB;rw[cX];rfl
  ·subst hF
   obtain rfl:y=y':=by rw[hy] at hy';exact Option.some.inj hy'
   obtain rfl:c=c2:=by simpa using hc2
   have hlt2:=of_decide_eq_true hlt2
   have l5':=cc.le_trans l l5
   have hyo:y.Ok I5 ((c6 b_s s)::(fU b_x y)::F5):=(hok.state y hym).mono l5' fun z hz=>.tail _ (.tail _ hz)
   obtain⟨ad1,r,had1,hr,hrd1,hrm⟩:=dq.gj hyo.1 h0 hlt2
   obtain⟨hk3,hrk⟩:=List.getElem?_eq_some_iff.1 hr
   rw[List.drop_eq_getElem_cons hk3,hrk,List.map_cons,cX] at he2
   have hdl:=(hlr r.p (List.mem_map_of_mem hrm)).2.1
   simp only[cp.p,List.length_map] at hdl
   refine⟨⟨h0,hlt2⟩,ad1,had1,_,_,_,_,_,_,_,_,_,_,_,_,_,_,hrd1,fun b_r=>?_⟩
   refine cf.jQ (Cs (hg.mono l5') hA2 r ((hyo.2 r hrm).mono (cc.le_refl _) fun z hz=>by
    rcases List.mem_cons.1 hz with rfl | hz
    ·exact .head _
    ·rcases List.mem_cons.1 hz with rfl | hz
     ·exact .tail _ (.head _)
     ·exact .tail _ (.tail _ (.tail _ hz))) (hfit y hym r hrm) hdl) fun v2 I6 l6 hv2=>⟨v2,rfl,F5,.refl _,_,fQ.neq hv2 (by kernel_rfl),fun hq=>?_,fun hq=>⟨(y.rules.length-(k+1)).toNat,by omega, ?_⟩⟩
   ·have hq:(fa s.p r.p).e≠0:=by simpa using hq
    rw[he2,if_pos hq,kx _ hq]
    exact⟨v2,rfl,hv2,rfl⟩
   ·have hq:(fa s.p r.p).e=0:=by simpa using hq
    rw[if_neg (by simpa using hq)] at he2
    rw[cY (n:=k+1) (by omega)]
    refine⟨rfl,y,hy,by omega,by omega,rfl,⟨c,rfl,hA2.mono l6⟩,hfit, ?_⟩
    rw[he2,show (k+1).toNat=k.toNat+1 by omega]
  ·subst hF
   obtain rfl:y=y':=by rw[hy] at hy';exact Option.some.inj hy'
   obtain rfl:c=c2:=by simpa using hc2
   have hlt2:=of_decide_eq_false hlt2
   rw[List.drop_eq_nil_of_le (by omega),List.map_nil,cX,sw _ rfl] at he2
   rw[cY (n:=i+1) (by omega)]
   refine⟨rfl,by omega,by omega,rfl,⟨c,rfl,hA2⟩,hfit, ?_⟩
   rw[he2,show (i+1).toNat=i.toNat+1 by omega]
 ·subst gF
  have hlt:=of_decide_eq_false hlt
  rw[List.drop_eq_nil_of_le (by omega),List.map_nil,cX] at ge
  rw[ge];exact⟨_,rfl,fQ.ok,rfl⟩
end Go.Lx
namespace Go.Lx
open Go.Vc Go.Proofs.Tryz
def Ir:List (Nat×List Sh):=[(3,[.one (.int .i64)]),(4,[.one .bool]),(47,[.one (.int .i64)]),(89,[.one .ptr])]
def ix.V(vi:Int→Value)(vp:OA→Value)(b:Value)(I:cc)(F:b8)(Q:cd)  : Prop:=∃q:Bool,cU P .eql 44 (.tmp 7) (.const (Value.nilIface)) b Value.nilIface q∧(It q (Q (.returned (.tuple #[vi 0,vi 0])) I F) (∀a:Nat,∃(cs:List Value) (el:Nat) (F1:b8),List.Perm ((a,Obj.cells #[vi 0] 47 (0,0))::F) (((⟨a,0,none⟩:Addr).block,Obj.cells cs.toArray el (0,0))::F1)∧(⟨a,0,none⟩:Addr).spot=none∧(⟨a,0,none⟩:Addr).off+1≤cs.length∧∀c:Nat,cf P 44 (#[b,Value.iface 91 (vp (some (⟨c,0,none⟩:Addr)))]) I (((c,Obj.cells #[vp none] 89 (0,0))::(((⟨a,0,none⟩:Addr).block,Obj.cells (cj (⟨a,0,none⟩:Addr).off [vi (-1)] cs).toArray el (0,0))::F1))) fun e1 I1 G1=>∃(r:Bool),e1=.returned (.bool r)∧∃F2:b8,List.Perm G1 F2∧(It r (∃(m:OA),Rd I1 F2 (⟨c,0,none⟩:Addr) [vp m]∧∃ad:Addr,m=some ad∧∃(m1:Int),Rd I1 F2 (ad.add 1) [vi m1]∧cy P 44 (#[b,Value.iface 94 (vp (some (⟨a,0,none⟩:Addr)))]) I1 (·) F2 .bool fun r1 I2 F3=>∃(m2:Int),Rd I2 F3 (⟨a,0,none⟩:Addr) [vi m2]∧Q (.returned (.tuple #[vi m2,vi m1])) I2 F3) (cy P 44 (#[b,Value.iface 94 (vp (some (⟨a,0,none⟩:Addr)))]) I1 (·) F2 .bool fun r2 I3 F4=>∃(m3:Int),Rd I3 F4 (⟨a,0,none⟩:Addr) [vi m3]∧Q (.returned (.tuple #[vi m3,vi 0])) I3 F4))))
theorem ix.vc{a:Value}{I:cc}{F:b8}{Q:cd}  (h:ix.V (.int .i64) .pointer a I F Q):cf P 20 #[a] I F Q :=
 tw (A:=(cK [1001,5002] [] [44] Ir [] [] [3000,4000] [] [] [] [])) [44] func20 h
end Go.Lx
namespace Go.Lx
open Go.Vc
theorem FJ{I:cc}{G:b8}{b ty:Nat}{v:Value}(h:(b,Obj.cells #[v] ty (0,0))∈G):Rd I G (⟨b,0,none⟩:Addr) [v]:=Rd.qW h 0 fun j hj=>by
 have:j=0:=by simpa using hj
 subst this;rfl
theorem En(I:cc)(F:b8):cf P 20 #[.nilIface] I F (dS (.tuple #[.int .i64 0,.int .i64 0]) F):=by
 refine ix.vc ?_
 unfold ix.V
 exact⟨true,sx (by kernel_rfl),fun _=>⟨rfl,rfl⟩,fun h=>(by cases h)⟩
theorem wK{I:cc}(hg:Gl I){b:Nat}{call:ByteArray}{pos n:Int}{u:Value}(hb:I b=some (.cells #[.string call,.int .i64 pos,u] 93 (0,0)))
  (hE:∀J,cc.le I J→∀(G:b8) (t ty:Nat) (old:Value),cf P 44 #[.iface 89 (.pointer (some ⟨b,0,none⟩)),.iface 94 (.pointer (some ⟨t,0,none⟩))] J ((t,.cells #[old] ty (0,0))::G) (IF true ((t,.cells #[.int .i64 n] ty (0,0))::G))) (F:b8) :
  cf P 20 #[.iface 89 (.pointer (some ⟨b,0,none⟩))] I F (dS (.tuple #[.int .i64 n,.int .i64 pos]) F):=by
 refine cf.clean ?_
 refine ix.vc ?_
 unfold ix.V
 refine⟨false,tk (by kernel_rfl),fun h=>(by cases h),fun _ b_e=>⟨[.int .i64 0],_,F,.refl _,rfl,by simp,fun b_f=>?_⟩⟩
 refine (Dd hg b).mono fun e I1 G l1 ⟨he,hG⟩=>?_
 subst hG
 refine⟨true,he,_,.refl _,fun _=>⟨some ⟨b,0,none⟩,FJ (.head _),⟨b,0,none⟩,rfl,pos, ?_, ?_⟩,fun h=>(by cases h)⟩
 ·rw[sy]
  exact Rd.sV (l1.at hb) _ 1 fun j hj=>by
   have:j=0:=by simpa using hj
   subst this;rfl
 ·refine cf.perm ((hE I1 l1 ((b_f,.cells #[.pointer (some ⟨b,0,none⟩)] 89 (0,0))::F) b_e 47 (.int .i64 (-1))).mono fun e I2 G l2 ⟨he,hG⟩=>?_) (.swap ..)
  subst hG
  exact⟨true,he,_,.refl _,n,FJ (.head _),rfl,[_,_],.refl _⟩
def TF.w(f:TF):Value:=.tuple #[.int .i64 f.e,.int .i64 f.pos]
theorem xY{I:cc}(hg:Gl I){f:TF}(hz:f.Z){v:Value}(h:fQ I f v)(F:b8):cf P 20 #[v] I F (dS f.w F):=by
 by_cases he:f.e=0
 ·rw[h.1 he,hz he];exact En I F
 ·have h2:=h.2 he
  split at h2
  ·obtain⟨u,hu,hv⟩:=h2
   obtain⟨b,rfl,hb⟩:=id hv
   exact wK hg hb (fun J hJ G t ty old=>Jw (hg.mono hJ) (hv.mono hJ) (hu.mono hJ)) F
  ·obtain⟨b,rfl,hb⟩:=id h2
   exact wK hg hb (fun J hJ G t ty old=>Jv (hg.mono hJ) (h2.mono hJ)) F
theorem yW(s:cu):s.types.Z:=by
 unfold cu.types
 split
 ·rename_i h;exact wj h
 ·refine uD (C6 s) ?_
  have fz:∀{α:Type} (f:α→TF) (l:List α),(∀x,(f x).Z)→(cX f l).Z:=fun f l h=>by
   induction l with
   | nil=>exact xU
   | cons x r ih =>
     rw[cX];split
     ·exact h x
     ·exact ih
  exact fz _ _ fun x=>fz _ _ fun r=>C5 s r
theorem GU{F:b8}:∀x,x∈([]:b8)→x∈F:=fun x hx=>absurd hx (by simp)
def ep:List Int→Int
 | []=>0
 | x::r=>x+ep r
def Ge(k:Int)(w:List Int):Int:=if k=7 then iX w 0+max (iX w 1) (iX w 2)+2 else (if k=9 then 0 else 1)+ep w
namespace Px
mutual
def wt:Px→Int
 | .mk k _ _ _ _ _ l _=>Ge k (Jz l)
def Jz:List Px→List Int
 | []=>[]
 | x::r=>wt x::Jz r
end
theorem Dh:∀l:List Px,Jz l=l.map wt
 | []=>by rw[Jz];rfl
 | x::r=>by rw[Jz,Dh r];rfl
theorem Hl(x:Px):x.wt=Ge x.kind (x.kids.map wt):=by cases x;rw[wt,Dh];rfl
theorem xZ:∀{l:List Px},(∀k∈l,1≤k.wt∧k.wt+1≤2*k.size)→(l.length:Int)≤ep (l.map wt)∧ep (l.map wt)+l.length≤2*fu l
 | [],_=>⟨Int.le_refl 0,Int.le_refl 0⟩
 | x::r,h=>by
   have h1:=h x (.head _)
   have h2:=xZ fun k hk=>h k (.tail _ hk)
   rw[List.map_cons,ep,fu,List.length_cons]
   omega
theorem jS:∀x:Px,x.formed=true→1≤x.wt∧x.wt+1≤2*x.size:=by
 refine ind fun x ih hf=>?_
 have h1:x.gO=true:=by rw[er,Bool.and_eq_true] at hf;exact hf.1
 have hl:x.kids.length=arity x:=by
  unfold gO at h1
  rw[Bool.and_eq_true,decide_eq_true_eq] at h1
  exact h1.2
 have hk:∀k∈x.kids,1≤k.wt∧k.wt+1≤2*k.size:=fun k hm=>ih k hm (ib hf k hm)
 rw[Hl,size_eq]
 have hs:=xZ hk
 unfold Ge
 by_cases h7:x.kind=7
 ·rw[if_pos h7]
  have h3:x.kids.length=3:=by rw[hl];unfold arity;rw[h7];rfl
  match hx:x.kids,h3 with
  | [a,b,c],_ =>
    rw[hx] at hk
    have ha:=hk a (.head _)
    have hb:=hk b (.tail _ (.head _))
    have hc:=hk c (.tail _ (.tail _ (.head _)))
    rw[fu,fu,fu,fu]
    show 1≤a.wt+max b.wt c.wt+2∧a.wt+max b.wt c.wt+2+1≤_
    omega
 ·rw[if_neg h7]
  by_cases h9:x.kind=9
  ·rw[if_pos h9]
   have h1:x.kids.length=1:=by rw[hl];unfold arity;rw[h9];rfl
   omega
  ·rw[if_neg h9];omega
end Px
def gT(x:Px):Int:=if x.kind=0 then 0 else x.wt
def dA.wt(d:dA):Int:=gT d.side+gT d.qty+gT d.price+gT d.value
def dA.act(d:dA):Int:=if d.kind=1∨d.kind=2∨d.kind=3 then 1 else 0
def cD.body(r:cD):Int:=ep (r.dos.map dA.wt)
def cD.eO(r:cD):Int:=ep (r.dos.map dA.act)
def iB(m:Int)(l:List Int):Int:=l.foldl max m
def cq.steps(x:cq):Int:=ep (x.rules.map fun r=>r.when.wt)+iB 0 (x.rules.map cD.body)
def cq.eO(x:cq):Int:=iB 0 (x.rules.map cD.eO)
end Go.Lx
namespace Go.Lx
open Go.Vc Go.Proofs.Tryz
def pj:List (Nat×List Sh):=[(0,[]),(3,[.one (.int .i64)]),(28,[.agg [(.int .u8),(.int .u8),(.int .u8),(.int .i64),(.int .u8),.str,.slc,(.int .i64)]]),(42,[.one .slc]),(44,[.one .any]),(45,[.one .slc,.one .any]),(47,[.one (.int .i64)]),(57,[.agg [(.int .i64),(.int .i64)]]),(65,[.agg [.str,.slc,(.int .i64)]]),(84,[.agg [(.int .u8),(.int .u8),(.int .u8),(.int .i64),(.int .u8),.str,.slc,(.int .i64),.slc,(.int .i64)]]),(99,[.agg [(.int .u8),(.int .u8),.str,(.int .u8),(.int .u8),(.int .u8),(.int .i64),(.int .u8),.str,.slc,(.int .i64),(.int .u8),(.int .u8),(.int .u8),(.int .i64),(.int .u8),.str,.slc,(.int .i64),(.int .u8),(.int .u8),(.int .u8),(.int .i64),(.int .u8),.str,.slc,(.int .i64),(.int .u8),(.int .u8),(.int .u8),(.int .i64),(.int .u8),.str,.slc,(.int .i64),(.int .i64)]])]
def jC.V(c:Int)(d:OA)(b e:Nat)(I:cc)(F:b8)(Q:cd)(Inv6:Int→Int→Nat→cc→b8→Prop):Prop:=(∃m:Nat,Inv6 c 0 m I F)∧∀(a x:Int) (m1:Nat) (I1:cc) (F1:b8),cc.le I I1→Inv6 a x m1 I1 F1→(Dt (x<(b:Int)) ((0≤x∧x<(b:Int))∧∃ad:Addr,d=some ad∧∃(m2:Int),Rd I1 F1 (ad.add (Int.toNat x*1)) [.int .i64 m2]∧(∃m3:Nat,m3<m1∧Inv6 (if m2>a then m2 else a) (IntKind.wrap .i64 (x+1)) m3 I1 F1)) (Q (.returned (.int .i64 a)) I1 F1))
theorem jC.vc{a:Int}{b:OA}{c d:Nat}{I:cc}{F:b8}{Q:cd}(Inv6:Int→Int→Nat→cc→b8→Prop)(h:jC.V a b c d I F Q Inv6):cf P 42 #[.int .i64 a,.slice b c d] I F Q :=
 tw (A:=(cK [2000] [] [] pj [(6,⟨[(0,(.int .i64)),(9,(.int .i64))],[],fun _ _ _ vs m I F=>match vs with | [.int _ y0,.int _ y1]=>Inv6 y0 y1 m I F | _=>False,[],[]⟩)] [] [] [] [] [] [])) [] func42 h
def ma.V(c:Nat→Nat×Obj)(nV:Int→Int→Int→Int→Int→Bs→OA→Nat→Nat→Int→Value)(nO:Int→Int→Int→Int→Int→Bs→OA→Nat→Nat→Int→Obj)(nL:Int→Int→Int→Int→Int→Bs→OA→Nat→Nat→Int→List Value)(vi:Int→Value)(wr:Int→Int)(ab aR aS aT aU:Int)(aV:Bs)(e:OA)(d aQ:Nat)(aW:Int)(I:cc)(F:b8)(Q:cd)(Inv25:OA→Int→Int→Nat→cc→b8→cc→b8→Prop):Prop:=∀a:Nat,(It (ab==7) ((0≤(0:Int)∧(0:Int)<(d:Int))∧∃ad:Addr,e=some ad∧((0≤(1:Int)∧(1:Int)<(d:Int))∧∃aL:Addr,e=some aL∧∃(aE aF aG aH aI:Int) (aJ:Bs) (ac:OA) (ae af:Nat) (aK:Int),Rd I ([]) (aL.add (Int.toNat 1*8)) (nL aE aF aG aH aI aJ ac ae af aK)∧((0≤(2:Int)∧(2:Int)<(d:Int))∧∃aM:Addr,e=some aM∧∃(ag ah ai aj ak:Int) (al:Bs) (q:OA) (s t:Nat) (am:Int),Rd I ([]) (aM.add (Int.toNat 2*8)) (nL ag ah ai aj ak al q s t am)∧∃(an ao ap aq ar:Int) (au:Bs) (u:OA) (v w:Nat) (av:Int),Rd I ((c a)::F) (ad.add (Int.toNat 0*8)) (nL an ao ap aq ar au u v w av)∧cy P 32 #[nV an ao ap aq ar au u v w av] I ((c a)::·) F vi fun r I1 F1=>cy P 32 #[nV aE aF aG aH aI aJ ac ae af aK] I1 ((c a)::·) F1 vi fun r1 I2 F2=>cy P 32 #[nV ag ah ai aj ak al q s t am] I2 ((c a)::·) F2 vi fun r2 I3 F3=>∀(b:Nat) (I4:cc),cc.le I3 I4→I4 b=some (Obj.cells #[vi r2] 3 (0,0))→cy P 42 (#[vi r1,.slice (some ⟨b,0,none⟩) 1 1]) I4 ((c a)::·) F3 vi fun r3 I5 F4=>Q (.returned (vi (wr ((wr (r+r3))+2)))) I5 F4))) (It (ab==9) ((0≤(0:Int)∧(0:Int)<(d:Int))∧∃aN:Addr,e=some aN∧∃(aw ax ay az aA:Int) (aB:Bs) (y:OA) (z aa:Nat) (aC:Int),Rd I ((c a)::F) (aN.add (Int.toNat 0*8)) (nL aw ax ay az aA aB y z aa aC)∧cy P 32 #[nV aw ax ay az aA aB y z aa aC] I ((c a)::·) F vi fun r4 I6 F5=>Q (.returned (vi r4)) I6 F5) ((∃m:Nat,Inv25 (some ⟨a,0,none⟩) 1 0 m I F I F)∧∀(aD x:Int) (m1:Nat) (I7:cc) (F6:b8),cc.le I I7→Inv25 (some ⟨a,0,none⟩) aD x m1 I F I7 F6→(Dt (x<(d:Int)) ((0≤x∧x<(d:Int))∧∃aO:Addr,e=some aO∧∃(i j k l n:Int) (o:Bs) (f:OA) (g h:Nat) (p:Int),Rd I7 ((c a)::F6) (aO.add (Int.toNat x*8)) (nL i j k l n o f g h p)∧∀aP:Nat,cy P 32 #[nV i j k l n o f g h p] I7 ((c a)::(aP,nO i j k l n o f g h p)::·) F6 vi fun r5 I8 F7=>(∃m2:Nat,m2<m1∧Inv25 (some ⟨a,0,none⟩) (wr (aD+r5)) (wr (x+1)) m2 I F I8 F7)) (Q (.returned (vi aD)) I7 F6)))))
theorem ma.vc{i j p r u:Int}{v:Bs}{d:OA}{e g:Nat}{w:Int}{I:cc}{F:b8}{Q:cd}(Inv25:OA→Int→Int→Nat→cc→b8→cc→b8→Prop)(h:ma.V (fun b=>(b,Obj.cells #[.int .u8 i,.int .u8 j,.int .u8 p,.int .i64 r,.int .u8 u,.string v,.slice d e g,.int .i64 w] 28 (0,0))) (fun k o t n f s a l c q=>.agg #[.int .u8 k,.int .u8 o,.int .u8 t,.int .i64 n,.int .u8 f,.string s,.slice a l c,.int .i64 q]) (fun k o t n f s a l c q=>.cells #[.int .u8 k,.int .u8 o,.int .u8 t,.int .i64 n,.int .u8 f,.string s,.slice a l c,.int .i64 q] 28 (0,0)) (fun k o t n f s a l c q=>[.int .u8 k,.int .u8 o,.int .u8 t,.int .i64 n,.int .u8 f,.string s,.slice a l c,.int .i64 q]) (.int .i64) (IntKind.wrap .i64) i j p r u v d e g w I F Q Inv25):cf P 32 #[.agg #[.int .u8 i,.int .u8 j,.int .u8 p,.int .i64 r,.int .u8 u,.string v,.slice d e g,.int .i64 w]] I F Q :=
 tw (A:=(cK [2000,4000,8000] [] [32,42] pj [(25,⟨[(3,(.int .i64)),(39,(.int .i64))],[],fun fs I0 F0 vs m I F=>match fs,vs with | [.pointer y0],[.int _ y1,.int _ y2]=>Inv25 y0 y1 y2 m I0 F0 I F | _,_=>False,[1],[]⟩)] [3015] [] [] [] [(3,[0,5,10,1,2,6,7,8,11,12,13,3,4,9,14,15,16,17,18,19])] [] [] [(3,[1,6,8,11,13],20)])) [32,42] func32 h
def p8.V(a:Nat→Nat×Obj)(nV:Int→Int→Int→Int→Int→Bs→OA→Nat→Nat→Int→Value)(vi:Int→Value)(f g h i j:Int)(k:Bs)(b:OA)(c d:Nat)(l:Int)(I:cc)(F:b8)(Q:cd)  : Prop:=∀e:Nat,cy P 31 #[nV f g h i j k b c d l] I ((a e)::·) F vi fun r I1 F1=>(It (r==120) (Q (.returned (vi 0)) I1 F1) (cy P 32 #[nV f g h i j k b c d l] I1 ((a e)::·) F1 vi fun r1 I2 F2=>Q (.returned (vi r1)) I2 F2))
theorem p8.vc{i j m p r:Int}{u:Bs}{d:OA}{e g:Nat}{v:Int}{I:cc}{F:b8}{Q:cd}  (h:p8.V (fun b=>(b,Obj.cells #[.int .u8 i,.int .u8 j,.int .u8 m,.int .i64 p,.int .u8 r,.string u,.slice d e g,.int .i64 v] 28 (0,0))) (fun k o t n f s a l c q=>.agg #[.int .u8 k,.int .u8 o,.int .u8 t,.int .i64 n,.int .u8 f,.string s,.slice a l c,.int .i64 q]) (.int .i64) i j m p r u d e g v I F Q):cf P 12 #[.agg #[.int .u8 i,.int .u8 j,.int .u8 m,.int .i64 p,.int .u8 r,.string u,.slice d e g,.int .i64 v]] I F Q :=
 tw (A:=(an [1002] [31,32] pj)) [31,32] func12 h
def p9.V(aG:Nat→Nat×Obj)(nO:Int→Int→Int→Int→Int→Bs→OA→Nat→Nat→Int→Obj)(vb vi:Int→Value)(vs:Bs→Value)(vl:OA→Nat→Nat→Value)(aW aX aY aZ a0:Int)(a1:Bs)(aS:OA)(aT aU:Nat)(a2:Int)(aO:OA)(aq aV:Nat)(a3:Int)(aR:Fn)(aL aM:Array Value)(I:cc)(F:b8)(Q:cd)(Inv5:Int→Nat→cc→b8→cc→b8→Prop)(Inv19:Int→Int→Nat→cc→b8→cc→b8→Prop):Prop:=∀aK:Nat,(∃m:Nat,Inv5 0 m I F I F)∧∀(x:Int) (m1:Nat) (I1:cc) (F1:b8),cc.le I I1→Inv5 x m1 I F I1 F1→(Dt (x<(aq:Int)) ((0≤x∧x<(aq:Int))∧∃ad:Addr,aO=some ad∧∃(aH aI:Int) (aJ:Bs) (aA aB aC aD aE:Int) (aF:Bs) (k:OA) (l n:Nat) (s t u v w y:Int) (z:Bs) (a:OA) (c d:Nat) (aa ab ac ae af ag:Int) (ah:Bs) (e:OA) (f g:Nat) (ai aj ak al am an:Int) (ao:Bs) (h:OA) (i j:Nat) (ap ar:Int),Rd I1 ((aG aK)::F1) (ad.add (Int.toNat x*36)) [vb aH,vb aI,vs aJ,vb aA,vb aB,vb aC,vi aD,vb aE,vs aF,vl k l n,vi s,vb t,vb u,vb v,vi w,vb y,vs z,vl a c d,vi aa,vb ab,vb ac,vb ae,vi af,vb ag,vs ah,vl e f g,vi ai,vb aj,vb ak,vb al,vi am,vb an,vs ao,vl h i j,vi ap,vi ar]∧∀aN:Nat,∀(b:Nat) (I2:cc),cc.le I1 I2→I2 b=some (Obj.cells #[vb aA,vb aB,vb aC,vi aD,vb aE,vs aF,vl k l n,vi s,vb t,vb u,vb v,vi w,vb y,vs z,vl a c d,vi aa,vb ab,vb ac,vb ae,vi af,vb ag,vs ah,vl e f g,vi ai,vb aj,vb ak,vb al,vi am,vb an,vs ao,vl h i j,vi ap] 28 (0,0))→(∃m2:Nat,Inv19 x 0 m2 I2 F1 I2 F1)∧∀(x1:Int) (m3:Nat) (I3:cc) (F2:b8),cc.le I2 I3→Inv19 x x1 m3 I2 F1 I3 F2→(Dt (x1<(4:Int)) ((0≤x1∧x1<(4:Int))∧∃aP:Addr,some ⟨b,0,none⟩=some aP∧∃(o au av aw ax:Int) (ay:Bs) (p:OA) (q r:Nat) (az:Int),Rd I3 ((aG aK)::(aN,Obj.cells #[vb aH,vb aI,vs aJ,vb aA,vb aB,vb aC,vi aD,vb aE,vs aF,vl k l n,vi s,vb t,vb u,vb v,vi w,vb y,vs z,vl a c d,vi aa,vb ab,vb ac,vb ae,vi af,vb ag,vs ah,vl e f g,vi ai,vb aj,vb ak,vb al,vi am,vb an,vs ao,vl h i j,vi ap,vi ar] 99 (0,0))::F2) (aP.add (Int.toNat x1*8)) [vb o,vb au,vb av,vi aw,vb ax,vs ay,vl p q r,vi az]∧∀aQ:Nat,(It (o != 0) (sN P (.func aR aL aM) [.agg #[vb o,vb au,vb av,vi aw,vb ax,vs ay,vl p q r,vi az]] I3 ((aG aK)::(aN,Obj.cells #[vb aH,vb aI,vs aJ,vb aA,vb aB,vb aC,vi aD,vb aE,vs aF,vl k l n,vi s,vb t,vb u,vb v,vi w,vb y,vs z,vl a c d,vi aa,vb ab,vb ac,vb ae,vi af,vb ag,vs ah,vl e f g,vi ai,vb aj,vb ak,vb al,vi am,vb an,vs ao,vl h i j,vi ap,vi ar] 99 (0,0))::(aQ,nO o au av aw ax ay p q r az)::F2) fun e1 I4 G1=>e1=.returned (.tuple #[])∧∃F3:b8,List.Perm G1 ((aG aK)::(aN,Obj.cells #[vb aH,vb aI,vs aJ,vb aA,vb aB,vb aC,vi aD,vb aE,vs aF,vl k l n,vi s,vb t,vb u,vb v,vi w,vb y,vs z,vl a c d,vi aa,vb ab,vb ac,vb ae,vi af,vb ag,vs ah,vl e f g,vi ai,vb aj,vb ak,vb al,vi am,vb an,vs ao,vl h i j,vi ap,vi ar] 99 (0,0))::(aQ,nO o au av aw ax ay p q r az)::F3)∧(∃m4:Nat,m4<m3∧Inv19 x (IntKind.wrap .i64 (x1+1)) m4 I2 F1 I4 F3)) (∃m5:Nat,m5<m3∧Inv19 x (IntKind.wrap .i64 (x1+1)) m5 I2 F1 I3 F2))) (∃m6:Nat,m6<m1∧Inv5 (IntKind.wrap .i64 (x+1)) m6 I F I3 F2))) (Q (.returned (.tuple #[])) I1 F1))
theorem p9.vc{v w x y z:Int}{aa:Bs}{d:OA}{e g:Nat}{ab:Int}{i:OA}{j p:Nat}{ac:Int}{ad:Fn}{r u:Array Value}{I:cc}{F:b8}{Q:cd}(Inv5:Int→Nat→cc→b8→cc→b8→Prop)(Inv19:Int→Int→Nat→cc→b8→cc→b8→Prop)(h:p9.V (fun b=>(b,Obj.cells #[.int .u8 v,.int .u8 w,.int .u8 x,.int .i64 y,.int .u8 z,.string aa,.slice d e g,.int .i64 ab,.slice i j p,.int .i64 ac] 84 (0,0))) (fun k o t n f s a l c q=>.cells #[.int .u8 k,.int .u8 o,.int .u8 t,.int .i64 n,.int .u8 f,.string s,.slice a l c,.int .i64 q] 28 (0,0)) (.int .u8) (.int .i64) .string .slice v w x y z aa d e g ab i j p ac ad r u I F Q Inv5 Inv19):cf P 40 #[.agg #[.int .u8 v,.int .u8 w,.int .u8 x,.int .i64 y,.int .u8 z,.string aa,.slice d e g,.int .i64 ab,.slice i j p,.int .i64 ac],.func ad r u] I F Q :=
 tw (A:=(cK [2000,5000,7002] [] [] pj [(5,⟨[(11,(.int .i64))],[],fun fs I0 F0 vs m I F=>match fs,vs with | [],[.int _ y0]=>Inv5 y0 m I0 F0 I F | _,_=>False,[],[]⟩),(19,⟨[(25,(.int .i64))],[],fun fs I0 F0 vs m I F=>match fs,vs with | [.int _ y0],[.int _ y1]=>Inv19 y0 y1 m I0 F0 I F | _,_=>False,[11],[]⟩)] [4008] [] [] [8002] [] [])) [] func40 h
def qa.V(vb vi:Int→Value)(vs:Bs→Value)(vl:OA→Nat→Nat→Value)(wr:Int→Int)(aw ax ay az aA:Int)(aB:Bs)(o:OA)(p q:Nat)(aC:Int)(d:OA)(b r:Nat)(aD:Int)(I:cc)(F:b8)(Q:cd)(Inv8:Int→Int→Nat→cc→b8→Prop):Prop:=∀aM:Nat,(∃m:Nat,Inv8 0 0 m I F)∧∀(a x:Int) (m1:Nat) (I1:cc) (F1:b8),cc.le I I1→Inv8 a x m1 I1 F1→(Dt (x<(b:Int)) ((0≤x∧x<(b:Int))∧∃ad:Addr,d=some ad∧∃(c aE:Int) (aF:Bs) (aG aH aI aJ aK:Int) (aL:Bs) (s:OA) (t u:Nat) (v w y z aa ab:Int) (ac:Bs) (e:OA) (f g:Nat) (ae af ag ah ai aj:Int) (ak:Bs) (h:OA) (i j:Nat) (al am an ao ap aq:Int) (ar:Bs) (k:OA) (l n:Nat) (au av:Int),Rd I1 ((aM,Obj.cells #[vb aw,vb ax,vb ay,vi az,vb aA,vs aB,vl o p q,vi aC,vl d b r,vi aD] 84 (0,0))::F1) (ad.add (Int.toNat x*36)) [vb c,vb aE,vs aF,vb aG,vb aH,vb aI,vi aJ,vb aK,vs aL,vl s t u,vi v,vb w,vb y,vb z,vi aa,vb ab,vs ac,vl e f g,vi ae,vb af,vb ag,vb ah,vi ai,vb aj,vs ak,vl h i j,vi al,vb am,vb an,vb ao,vi ap,vb aq,vs ar,vl k l n,vi au,vi av]∧∀aN:Nat,(It (c==1) (∃m2:Nat,m2<m1∧Inv8 (wr (a+1)) (wr (x+1)) m2 I1 F1) (It (c==2) (∃m3:Nat,m3<m1∧Inv8 (wr (a+1)) (wr (x+1)) m3 I1 F1) (It (c==3) (∃m4:Nat,m4<m1∧Inv8 (wr (a+1)) (wr (x+1)) m4 I1 F1) (∃m5:Nat,m5<m1∧Inv8 a (wr (x+1)) m5 I1 F1))))) (Q (.returned (vi a)) I1 F1))
theorem qa.vc{g i j k l:Int}{n:Bs}{a:OA}{b c:Nat}{o:Int}{d:OA}{e f:Nat}{p:Int}{I:cc}{F:b8}{Q:cd}(Inv8:Int→Int→Nat→cc→b8→Prop)(h:qa.V (.int .u8) (.int .i64) .string .slice (IntKind.wrap .i64) g i j k l n a b c o d e f p I F Q Inv8):cf P 43 #[.agg #[.int .u8 g,.int .u8 i,.int .u8 j,.int .i64 k,.int .u8 l,.string n,.slice a b c,.int .i64 o,.slice d e f,.int .i64 p]] I F Q :=
 tw (A:=(cK [3000,6000,7000,8000] [] [] pj [(8,⟨[(3,(.int .i64)),(9,(.int .i64))],[],fun _ _ _ vs m I F=>match vs with | [.int _ y0,.int _ y1]=>Inv8 y0 y1 m I F | _=>False,[],[]⟩)] [] [] [] [] [] [])) [] func43 h
def jD.V(nO:Int→Int→Int→Int→Int→Bs→OA→Nat→Nat→Int→Obj)(vb vi:Int→Value)(e f g h i:Int)(j:Bs)(a:OA)(b d:Nat)(k:Int)(l:Nat)(c:Int)(I:cc)(F:b8)(Q:cd)  : Prop:=∀m:Nat,∃(r:Int),(cf P 32 #[.agg #[vb e,vb f,vb g,vi h,vb i,.string j,.slice a b d,vi k]] I ((l,Obj.cells #[vi c] 3 (0,0))::(m,nO e f g h i j a b d k)::F) fun e1 I1 G1=>e1=.returned (vi r)∧List.Perm G1 ((l,Obj.cells #[vi c] 3 (0,0))::(m,nO e f g h i j a b d k)::F))∧Q (.returned (.tuple #[])) I ((l,Obj.cells #[vi (IntKind.wrap .i64 (c+r))] 3 (0,0))::F)
theorem jD.vc{i j m r u:Int}{w:Bs}{b:OA}{d e:Nat}{x:Int}{g:Nat}{c:Int}{I:cc}{F:b8}{Q:cd}  (h:jD.V (fun k o t n f s a l c q=>.cells #[.int .u8 k,.int .u8 o,.int .u8 t,.int .i64 n,.int .u8 f,.string s,.slice a l c,.int .i64 q] 28 (0,0)) (.int .u8) (.int .i64) i j m r u w b d e x g c I F Q):cf P 41 #[.agg #[.int .u8 i,.int .u8 j,.int .u8 m,.int .i64 r,.int .u8 u,.string w,.slice b d e,.int .i64 x],.pointer (some ⟨g,0,none⟩)] I ((g,Obj.cells #[.int .i64 c] 3 (0,0))::F) Q :=
 tv (A:=(cK [] [] [32] pj [] [] [] [(1,4,[0])] [] [] [])) (args:=[.a (.v (.agg #[.int .u8 i,.int .u8 j,.int .u8 m,.int .i64 r,.int .u8 u,.string w,.slice b d e,.int .i64 x])),.a (.p 0 g 0)]) (own:=[⟨g,3,false,[.a (.v (.int .i64 c))]⟩]) (keep:=[0]) [32] func41 h
def mb.V(ka:Nat→Int→Int→Int→Int→Int→Bs→OA→Nat→Nat→Int→OA→Nat→Nat→Int→Nat×Obj)(kb:Nat→Bs→OA→Nat→Nat→Int→Nat×Obj)(s:Nat→Nat×Obj)(vb vi:Int→Value)(vs:Bs→Value)(vl:OA→Nat→Nat→Value)(wr:Int→Int)(aI:Bs)(av:OA)(aw ax:Nat)(ay:OA)(az aA:Nat)(ap:OA)(ah aB:Nat)(I:cc)(F:b8)(Q:cd)(Inv21:OA→OA→Nat→Nat→Int→Nat→cc→b8→cc→b8→Prop)(Inv44:OA→OA→Nat→Nat→Int→OA→Int→Int→Nat→cc→b8→cc→b8→Prop):Prop:=∀h:Nat,dg P 39 #[.agg #[vs aI,vl av aw ax,vl ay az aA,vl ap ah aB]] I ((s h)::·) F fun e1 I1 G1=>∃(r:Value),e1=.returned r∧G1 fun F1=>∃q:Bool,cU P .neq 44 (.tmp 14) (.const (Value.nilIface)) r Value.nilIface q∧(It q (Q (.returned (.tuple #[vl none 0 0,r])) I1 F1) (cF P (Instr.makeSlice 42 (vi (ah:Int)) (vi (ah:Int))) I1 ((s h)::F1) fun v I2 G2=>∃(t:OA) (u aj:Nat),v=vl t u aj∧∃F2:b8,List.Perm G2 ((s h)::F2)∧(∃m:Nat,Inv21 (some ⟨h,0,none⟩) t u aj 0 m I2 F2 I2 F2)∧∀(x:Int) (m1:Nat) (I3:cc) (F3:b8),cc.le I2 I3→Inv21 (some ⟨h,0,none⟩) t u aj x m1 I2 F2 I3 F3→(Dt (x<(ah:Int)) ((0≤x∧x<(ah:Int))∧∃ad:Addr,ap=some ad∧∃(ae:Bs) (d:OA) (a i:Nat) (af:Int),Rd I3 ((s h)::F3) (ad.add (Int.toNat x*3)) [vs ae,vl d a i,vi af]∧∀w:Nat,(It ((a:Int)==0) (∃m2:Nat,m2<m1∧Inv21 (some ⟨h,0,none⟩) t u aj (wr (x+1)) m2 I2 F2 I3 F3) ((∃m3:Nat,Inv44 (some ⟨h,0,none⟩) t u aj x (some ⟨w,0,none⟩) 0 0 m3 I3 F3 I3 F3)∧∀(ao x1:Int) (m4:Nat) (I4:cc) (F4:b8),cc.le I3 I4→Inv44 (some ⟨h,0,none⟩) t u aj x (some ⟨w,0,none⟩) ao x1 m4 I3 F3 I4 F4→(Dt (x1<(a:Int)) ((0≤x1∧x1<(a:Int))∧∃aE:Addr,d=some aE∧∃(n y o z aa:Int) (ab:Bs) (e:OA) (f g:Nat) (ac:Int) (j:OA) (k l:Nat) (ag:Int),Rd I4 ((s h)::(kb w ae d a i af)::F4) (aE.add (Int.toNat x1*10)) [vb n,vb y,vb o,vi z,vb aa,vs ab,vl e f g,vi ac,vl j k l,vi ag]∧∀ai:Nat,∀p:Nat,cf P 40 (#[.agg #[vb n,vb y,vb o,vi z,vb aa,vs ab,vl e f g,vi ac,vl j k l,vi ag],.func (.func 41) #[] #[.pointer (some ⟨p,0,none⟩)]]) I4 ((s h)::(kb w ae d a i af)::(ka ai n y o z aa ab e f g ac j k l ag)::(p,Obj.cells #[vi 0] 3 (0,0))::F4) fun e2 I5 G3=>e2=.returned (.tuple #[])∧∃(c:Int),∃F5:b8,List.Perm G3 ((s h)::(kb w ae d a i af)::(ka ai n y o z aa ab e f g ac j k l ag)::(p,Obj.cells #[vi c] 3 (0,0))::F5)∧∀(b:Nat) (I6:cc),cc.le I5 I6→I6 b=some (Obj.cells #[vi c] 3 (0,0))→cy P 42 (#[vi ao,vl (some ⟨b,0,none⟩) 1 1]) I6 ((s h)::(kb w ae d a i af)::(ka ai n y o z aa ab e f g ac j k l ag)::(p,Obj.cells #[vi c] 3 (0,0))::·) F5 vi fun r1 I7 F6=>∃(hb:Nat) (ho:Obj) (F7:b8),List.Perm F6 ((hb,ho)::F7)∧((0≤x∧x<(u:Int))∧∃aF:Addr,t=some aF∧∃(m5:Int),Rd (cc.put I7 hb ho) ([]) ((aF.add (Int.toNat x*2)).add 1) [vi m5]∧cf P 43 #[.agg #[vb n,vb y,vb o,vi z,vb aa,vs ab,vl e f g,vi ac,vl j k l,vi ag]] (cc.put I7 hb ho) ((s h)::(kb w ae d a i af)::(ka ai n y o z aa ab e f g ac j k l ag)::(p,Obj.cells #[vi c] 3 (0,0))::F7) fun e4 I8 G5=>∃(r2:Int),e4=.returned (vi r2)∧∃F8:b8,List.Perm G5 ((s h)::(kb w ae d a i af)::(ka ai n y o z aa ab e f g ac j k l ag)::(p,Obj.cells #[vi c] 3 (0,0))::F8)∧∀(b1:Nat) (I9:cc),cc.le I8 I9→I9 b1=some (Obj.cells #[vi r2] 3 (0,0))→cy P 42 (#[vi m5,vl (some ⟨b1,0,none⟩) 1 1]) I9 ((s h)::(kb w ae d a i af)::(ka ai n y o z aa ab e f g ac j k l ag)::(p,Obj.cells #[vi c] 3 (0,0))::·) F8 vi fun r3 I10 F9=>((0≤x∧x<(u:Int))∧∃ak:Addr,t=some ak∧∃(cs:List Value) (el:Nat) (F10:b8),List.Perm ((hb,ho)::F9) ((((ak.add (Int.toNat x*2)).add 1).block,Obj.cells cs.toArray el (0,0))::F10)∧((ak.add (Int.toNat x*2)).add 1).spot=none∧((ak.add (Int.toNat x*2)).add 1).off+1≤cs.length∧∃(an:Nat) (aq:Obj) (F11:b8),List.Perm ((((ak.add (Int.toNat x*2)).add 1).block,Obj.cells (cj ((ak.add (Int.toNat x*2)).add 1).off [vi r3] cs).toArray el (0,0))::F10) ((an,aq)::F11)∧((0≤x∧x<(u:Int))∧∃aG:Addr,t=some aG∧∃(m6:Int),Rd (cc.put (cc.del I10 hb) an aq) ([]) ((aG.add (Int.toNat x*2)).add 0) [vi m6]∧cf P 32 #[.agg #[vb n,vb y,vb o,vi z,vb aa,vs ab,vl e f g,vi ac]] (cc.put (cc.del I10 hb) an aq) ((s h)::(kb w ae d a i af)::(ka ai n y o z aa ab e f g ac j k l ag)::(p,Obj.cells #[vi c] 3 (0,0))::F11) fun e6 I11 G7=>∃(r4:Int),e6=.returned (vi r4)∧∃F12:b8,List.Perm G7 ((s h)::(kb w ae d a i af)::(ka ai n y o z aa ab e f g ac j k l ag)::(p,Obj.cells #[vi c] 3 (0,0))::F12)∧((0≤x∧x<(u:Int))∧∃al:Addr,t=some al∧∃(ar:List Value) (aC:Nat) (F13:b8),List.Perm ((an,aq)::F12) ((((al.add (Int.toNat x*2)).add 0).block,Obj.cells ar.toArray aC (0,0))::F13)∧((al.add (Int.toNat x*2)).add 0).spot=none∧((al.add (Int.toNat x*2)).add 0).off+1≤ar.length∧(∃m7:Nat,m7<m4∧Inv44 (some ⟨h,0,none⟩) t u aj x (some ⟨w,0,none⟩) r1 (wr (x1+1)) m7 I3 F3 (cc.del I11 an) ((((al.add (Int.toNat x*2)).add 0).block,Obj.cells (cj ((al.add (Int.toNat x*2)).add 0).off [vi (wr (m6+r4))] ar).toArray aC (0,0))::F13))))))) ((0≤x∧x<(u:Int))∧∃aH:Addr,t=some aH∧∃(m8:Int),Rd I4 ((s h)::(kb w ae d a i af)::F4) ((aH.add (Int.toNat x*2)).add 0) [vi m8]∧((0≤x∧x<(u:Int))∧∃am:Addr,t=some am∧∃(au:List Value) (aD:Nat) (F14:b8),List.Perm F4 ((((am.add (Int.toNat x*2)).add 0).block,Obj.cells au.toArray aD (0,0))::F14)∧((am.add (Int.toNat x*2)).add 0).spot=none∧((am.add (Int.toNat x*2)).add 0).off+1≤au.length∧(∃m9:Nat,m9<m1∧Inv21 (some ⟨h,0,none⟩) t u aj (wr (x+1)) m9 I2 F2 I4 ((((am.add (Int.toNat x*2)).add 0).block,Obj.cells (cj ((am.add (Int.toNat x*2)).add 0).off [vi (wr (m8+ao))] au).toArray aD (0,0))::F14)))))))) (Q (.returned (.tuple #[vl t u aj,Value.nilIface])) I3 F3))))
theorem mb.vc{x:Bs}{o:OA}{p q:Nat}{r:OA}{s t:Nat}{u:OA}{v w:Nat}{I:cc}{F:b8}{Q:cd}(Inv21:OA→OA→Nat→Nat→Int→Nat→cc→b8→cc→b8→Prop)(Inv44:OA→OA→Nat→Nat→Int→OA→Int→Int→Nat→cc→b8→cc→b8→Prop)(h:mb.V (fun W a b c d e f g h i j k l m n=>(W,Obj.cells #[.int .u8 a,.int .u8 b,.int .u8 c,.int .i64 d,.int .u8 e,.string f,.slice g h i,.int .i64 j,.slice k l m,.int .i64 n] 84 (0,0))) (fun W a b c d e=>(W,Obj.cells #[.string a,.slice b c d,.int .i64 e] 65 (0,0))) (fun b=>(b,Obj.cells #[.string x,.slice o p q,.slice r s t,.slice u v w] 39 (0,0))) (.int .u8) (.int .i64) .string .slice (IntKind.wrap .i64) x o p q r s t u v w I F Q Inv21 Inv44):cf P 19 #[.agg #[.string x,.slice o p q,.slice r s t,.slice u v w]] I F Q :=
 tw (A:=(cK [2001,6000,8003,11000] [] [32,39,40,42,43] pj [(21,⟨[(24,(.int .i64))],[],fun fs I0 F0 vs m I F=>match fs,vs with | [.pointer y0,.slice y1 y2 y3],[.int _ y4]=>Inv21 y0 y1 y2 y3 y4 m I0 F0 I F | _,_=>False,[1,5],[]⟩),(44,⟨[(8,(.int .i64)),(36,(.int .i64))],[],fun fs I0 F0 vs m I F=>match fs,vs with | [.pointer y0,.slice y1 y2 y3,.int _ y4,.pointer y5],[.int _ y6,.int _ y7]=>Inv44 y0 y1 y2 y3 y4 y5 y6 y7 m I0 F0 I F | _,_=>False,[1,5,6,7],[]⟩)] [15002,16009] [] [] [] [] [] [] [] [(16,[6,1000],.fin [0,1,2,3,4,5,6,7,8,9,10,11,12] [13]),(17,[4,1000],.fin [0,1,2,3,5,4,6,7,8,9,10] [11])])) [32,39,40,42,43] func19 h
def jE.V(ka:Nat→Int→Int→Nat×Obj)(g:Nat→Nat×Obj)(vi:Int→Value)(vl:OA→Nat→Nat→Value)(z:Bs)(n:OA)(o p:Nat)(s:OA)(t u:Nat)(v:OA)(w y:Nat)(I:cc)(F:b8)(Q:cd)(Inv18:OA→OA→Nat→Nat→OA→Int→Int→Int→Nat→cc→b8→cc→b8→Prop):Prop:=∀d:Nat,∀b:Nat,dg P 19 #[.agg #[.string z,vl n o p,vl s t u,vl v w y]] I ((g d)::(ka b 0 0)::·) F fun e1 I1 G1=>∃(k:OA) (i l:Nat) (r1:Value),e1=.returned (.tuple #[vl k i l,r1])∧G1 fun F1=>∃q:Bool,cU P .neq 44 (.tmp 14) (.const (Value.nilIface)) r1 Value.nilIface q∧(It q (Q (.returned (.tuple #[.agg #[vi 0,vi 0],r1])) I1 F1) (∀e:Nat,(∃m:Nat,Inv18 (some ⟨d,0,none⟩) k i l (some ⟨e,0,none⟩) 0 0 0 m I1 F1 I1 F1)∧∀(x a c:Int) (m1:Nat) (I2:cc) (F2:b8),cc.le I1 I2→Inv18 (some ⟨d,0,none⟩) k i l (some ⟨e,0,none⟩) x a c m1 I1 F1 I2 F2→(Dt (x<(i:Int)) ((0≤x∧x<(i:Int))∧∃ad:Addr,k=some ad∧∃(h f:Int),Rd I2 ((g d)::(ka b 0 0)::(ka e a c)::F2) (ad.add (Int.toNat x*2)) [vi h,vi f]∧∀j:Nat,(∀(b1:Nat) (I3:cc),cc.le I2 I3→I3 b1=some (Obj.cells #[vi h] 3 (0,0))→(cy P 42 (#[vi a,vl (some ⟨b1,0,none⟩) 1 1]) I3 ((g d)::(ka b 0 0)::(ka e a c)::(ka j h f)::·) F2 vi fun r I4 F3=>∀(b2:Nat) (I5:cc),cc.le I4 I5→I5 b2=some (Obj.cells #[vi f] 3 (0,0))→cy P 42 (#[vi c,vl (some ⟨b2,0,none⟩) 1 1]) I5 ((g d)::(ka b 0 0)::(ka e a c)::(ka j h f)::·) F3 vi fun r2 I6 F4=>(∃m2:Nat,m2<m1∧Inv18 (some ⟨d,0,none⟩) k i l (some ⟨e,0,none⟩) (IntKind.wrap .i64 (x+1)) r r2 m2 I1 F1 I6 F4))∧(∀(b3:Nat) (I7:cc),cc.le I3 I7→I7 b3=some (Obj.cells #[vi f] 3 (0,0))→cy P 42 (#[vi a,vl (some ⟨b1,0,none⟩) 1 1]) I7 ((g d)::(ka b 0 0)::(ka e a c)::(ka j h f)::·) F2 vi fun r3 I8 F5=>cy P 42 (#[vi c,vl (some ⟨b3,0,none⟩) 1 1]) I8 ((g d)::(ka b 0 0)::(ka e a c)::(ka j h f)::·) F5 vi fun r4 I9 F6=>(∃m3:Nat,m3<m1∧Inv18 (some ⟨d,0,none⟩) k i l (some ⟨e,0,none⟩) (IntKind.wrap .i64 (x+1)) r3 r4 m3 I1 F1 I9 F6)))∧(∀(b4:Nat) (I10:cc),cc.le I2 I10→I10 b4=some (Obj.cells #[vi f] 3 (0,0))→∀(b5:Nat) (I11:cc),cc.le I10 I11→I11 b5=some (Obj.cells #[vi h] 3 (0,0))→cy P 42 (#[vi a,vl (some ⟨b5,0,none⟩) 1 1]) I11 ((g d)::(ka b 0 0)::(ka e a c)::(ka j h f)::·) F2 vi fun r5 I12 F7=>cy P 42 (#[vi c,vl (some ⟨b4,0,none⟩) 1 1]) I12 ((g d)::(ka b 0 0)::(ka e a c)::(ka j h f)::·) F7 vi fun r6 I13 F8=>(∃m4:Nat,m4<m1∧Inv18 (some ⟨d,0,none⟩) k i l (some ⟨e,0,none⟩) (IntKind.wrap .i64 (x+1)) r5 r6 m4 I1 F1 I13 F8))) (Dt (a>500) (∀b6:Nat,Q (.returned (.tuple #[.agg #[vi 0,vi 0],Value.iface 89 (.pointer (some (⟨b6,0,none⟩:Addr)))])) I2 (((b6,Obj.cells #[.string (⟨#[83,116,114,97,116,101,103,121]⟩:Bs),vi 0,Value.iface 47 (vi 160)] 93 (0,0))::F2))) (Q (.returned (.tuple #[.agg #[vi a,vi c],Value.nilIface])) I2 F2)))))
theorem jE.vc{n:Bs}{c:OA}{d e:Nat}{f:OA}{g i:Nat}{j:OA}{k l:Nat}{I:cc}{F:b8}{Q:cd}(Inv18:OA→OA→Nat→Nat→OA→Int→Int→Int→Nat→cc→b8→cc→b8→Prop)(h:jE.V (fun W a b=>(W,Obj.cells #[.int .i64 a,.int .i64 b] 57 (0,0))) (fun b=>(b,Obj.cells #[.string n,.slice c d e,.slice f g i,.slice j k l] 39 (0,0))) (.int .i64) .slice n c d e f g i j k l I F Q Inv18):cf P 24 #[.agg #[.string n,.slice c d e,.slice f g i,.slice j k l]] I F Q :=
 tw (A:=(cK [2001,6000,10002] [] [19,42] pj [(18,⟨[(20,(.int .i64))],[(2,[(.int .i64),(.int .i64)])],fun fs I0 F0 vs m I F=>match fs,vs with | [.pointer y0,.slice y1 y2 y3,.pointer y4],[.int _ y5,.int _ y6,.int _ y7]=>Inv18 y0 y1 y2 y3 y4 y5 y6 y7 m I0 F0 I F | _,_=>False,[1,4,6],[]⟩)] [8004,8010] [11003] [] [] [] [] [] [] [(8,[1,3,7,9],.fork [0,2,6,8,1,3,7,9] 4 10 (.fork [] 5 10 (.fin [12,10,11] [13,14,15]) (.fin [5,12,11] [13,14,15])) (.fin [4,5,12,11] [13,14,15]))])) [19,42] func24 h
def rr:List (Nat×List Sh):=[(3,[.one (.int .i64)]),(4,[.one .bool]),(22,[.one (.int .u8)]),(28,[.agg [(.int .u8),(.int .u8),(.int .u8),(.int .i64),(.int .u8),.str,.slc,(.int .i64)]]),(42,[.one .slc]),(45,[.one .slc,.one .any]),(51,[.agg [(.int .i64),(.int .i64),.bool]]),(52,[.one .slc,.agg [(.int .i64),(.int .i64),.bool]]),(57,[.agg [(.int .i64),(.int .i64)]]),(58,[.agg [(.int .i64),(.int .i64)],.one .any]),(65,[.agg [.str,.slc,(.int .i64)]]),(69,[.agg [(.int .u8),(.int .u8),(.int .u8),(.int .i64),(.int .u8),.str,.slc,(.int .i64)],.agg [(.int .i64),(.int .i64),.bool]]),(71,[.agg [.str,.slc,.slc,.slc],.agg [(.int .i64),(.int .i64),.bool]]),(84,[.agg [(.int .u8),(.int .u8),(.int .u8),(.int .i64),(.int .u8),.str,.slc,(.int .i64),.slc,(.int .i64)]]),(99,[.agg [(.int .u8),(.int .u8),.str,(.int .u8),(.int .u8),(.int .u8),(.int .i64),(.int .u8),.str,.slc,(.int .i64),(.int .u8),(.int .u8),(.int .u8),(.int .i64),(.int .u8),.str,.slc,(.int .i64),(.int .u8),(.int .u8),(.int .u8),(.int .i64),(.int .u8),.str,.slc,(.int .i64),(.int .u8),(.int .u8),(.int .u8),(.int .i64),(.int .u8),.str,.slc,(.int .i64),(.int .i64)]]),(129,[.one (.int .i64),.one (.int .i64)])]
def kB.V(a:Nat→Nat×Obj)(nV:Int→Int→Int→Int→Int→Bs→OA→Nat→Nat→Int→Value)(nL:Int→Int→Int→Int→Int→Bs→OA→Nat→Nat→Int→List Value)(vi:Int→Value)(wr:Int→Int)(x a0 a1 a2 a3:Int)(a4:Bs)(d:OA)(c aZ:Nat)(a5:Int)(I:cc)(F:b8)(Q:cd)(Inv32:Int→Int→Nat→cc→b8→Prop):Prop:=∀b:Nat,(It (x==7) ((0≤(1:Int)∧(1:Int)<(c:Int))∧∃ad:Addr,d=some ad∧∃(aN aO aP aQ aR:Int) (aS:Bs) (y:OA) (z aa:Nat) (aT:Int),Rd I ((a b)::F) (ad.add (Int.toNat 1*8)) (nL aN aO aP aQ aR aS y z aa aT)∧cy P 35 #[nV aN aO aP aQ aR aS y z aa aT] I ((a b)::·) F vi fun r I1 F1=>((0≤(2:Int)∧(2:Int)<(c:Int))∧∃aU:Addr,d=some aU∧∃(ab ac ae af ag:Int) (ah:Bs) (e:OA) (f g:Nat) (ai:Int),Rd I1 ((a b)::F1) (aU.add (Int.toNat 2*8)) (nL ab ac ae af ag ah e f g ai)∧cy P 35 #[nV ab ac ae af ag ah e f g ai] I1 ((a b)::·) F1 vi fun r1 I2 F2=>(Dt (r1>r) ((0≤(0:Int)∧(0:Int)<(c:Int))∧∃aV:Addr,d=some aV∧∃(aj ak al am an:Int) (ao:Bs) (h:OA) (j k:Nat) (ap:Int),Rd I2 ((a b)::F2) (aV.add (Int.toNat 0*8)) (nL aj ak al am an ao h j k ap)∧cy P 35 #[nV aj ak al am an ao h j k ap] I2 ((a b)::·) F2 vi fun r2 I3 F3=>Q (.returned (vi (wr ((wr (r2+r1))+2)))) I3 F3) ((0≤(0:Int)∧(0:Int)<(c:Int))∧∃aW:Addr,d=some aW∧∃(aq ar au av aw:Int) (ax:Bs) (l:OA) (n o:Nat) (ay:Int),Rd I2 ((a b)::F2) (aW.add (Int.toNat 0*8)) (nL aq ar au av aw ax l n o ay)∧cy P 35 #[nV aq ar au av aw ax l n o ay] I2 ((a b)::·) F2 vi fun r3 I4 F4=>Q (.returned (vi (wr ((wr (r3+r))+2)))) I4 F4)))) (It (x==9) ((∃m:Nat,Inv32 0 0 m I F)∧∀(w i:Int) (m1:Nat) (I5:cc) (F5:b8),cc.le I I5→Inv32 w i m1 I5 F5→(Dt (i<(c:Int)) ((0≤i∧i<(c:Int))∧∃aX:Addr,d=some aX∧∃(az aA aB aC aD:Int) (aE:Bs) (p:OA) (q s:Nat) (aF:Int),Rd I5 ((a b)::F5) (aX.add (Int.toNat i*8)) (nL az aA aB aC aD aE p q s aF)∧cy P 35 #[nV az aA aB aC aD aE p q s aF] I5 ((a b)::·) F5 vi fun r4 I6 F6=>(∃m2:Nat,m2<m1∧Inv32 (wr (w+r4)) (wr (i+1)) m2 I6 F6)) (Q (.returned (vi w)) I5 F5))) ((∃m3:Nat,Inv32 1 0 m3 I F)∧∀(w1 i1:Int) (m4:Nat) (I7:cc) (F7:b8),cc.le I I7→Inv32 w1 i1 m4 I7 F7→(Dt (i1<(c:Int)) ((0≤i1∧i1<(c:Int))∧∃aY:Addr,d=some aY∧∃(aG aH aI aJ aK:Int) (aL:Bs) (t:OA) (u v:Nat) (aM:Int),Rd I7 ((a b)::F7) (aY.add (Int.toNat i1*8)) (nL aG aH aI aJ aK aL t u v aM)∧cy P 35 #[nV aG aH aI aJ aK aL t u v aM] I7 ((a b)::·) F7 vi fun r5 I8 F8=>(∃m5:Nat,m5<m4∧Inv32 (wr (w1+r5)) (wr (i1+1)) m5 I8 F8)) (Q (.returned (vi w1)) I7 F7)))))
theorem kB.vc{i j p r u:Int}{v:Bs}{d:OA}{e g:Nat}{w:Int}{I:cc}{F:b8}{Q:cd}(Inv32:Int→Int→Nat→cc→b8→Prop)(h:kB.V (fun b=>(b,Obj.cells #[.int .u8 i,.int .u8 j,.int .u8 p,.int .i64 r,.int .u8 u,.string v,.slice d e g,.int .i64 w] 28 (0,0))) (fun k o t n f s a l c q=>.agg #[.int .u8 k,.int .u8 o,.int .u8 t,.int .i64 n,.int .u8 f,.string s,.slice a l c,.int .i64 q]) (fun k o t n f s a l c q=>[.int .u8 k,.int .u8 o,.int .u8 t,.int .i64 n,.int .u8 f,.string s,.slice a l c,.int .i64 q]) (.int .i64) (IntKind.wrap .i64) i j p r u v d e g w I F Q Inv32):cf P 35 #[.agg #[.int .u8 i,.int .u8 j,.int .u8 p,.int .i64 r,.int .u8 u,.string v,.slice d e g,.int .i64 w]] I F Q :=
 tw (A:=(cK [1002,4002,8002,11004] [] [35] rr [(32,⟨[(5,(.int .i64)),(6,(.int .i64))],[],fun _ _ _ vs m I F=>match vs with | [.int _ y0,.int _ y1]=>Inv32 y0 y1 m I F | _=>False,[],[]⟩)] [] [] [] [] [] [])) [35] func35 h
def oz.V(aB:Nat→Nat×Obj)(vb vi:Int→Value)(vs:Bs→Value)(vl:OA→Nat→Nat→Value)(wr:Int→Int)(aY aZ a0 a1 a2:Int)(a3:Bs)(aU:OA)(aV aW:Nat)(a4:Int)(aQ:OA)(aA aX:Nat)(a5:Int)(I:cc)(F:b8)(Q:cd)(Inv10:Int→Int→Int→Nat→cc→b8→cc→b8→Prop)(Inv27:Int→Int→Int→Nat→cc→b8→cc→b8→Prop):Prop:=∀aE:Nat,(∃m:Nat,Inv10 0 0 0 m I F I F)∧∀(w s i:Int) (m1:Nat) (I1:cc) (F1:b8),cc.le I I1→Inv10 w s i m1 I F I1 F1→(Dt (i<(aA:Int)) ((0≤i∧i<(aA:Int))∧∃ad:Addr,aQ=some ad∧∃(n aC:Int) (aD:Bs) (au av aw ax ay:Int) (az:Bs) (o:OA) (p q:Nat) (t u v x y z:Int) (aa:Bs) (a:OA) (c d:Nat) (ab ac ae af ag ah:Int) (ai:Bs) (e:OA) (f g:Nat) (aj ak al am an ao:Int) (ap:Bs) (h:OA) (j l:Nat) (aq ar:Int),Rd I1 ((aB aE)::F1) (ad.add (Int.toNat i*36)) [vb n,vb aC,vs aD,vb au,vb av,vb aw,vi ax,vb ay,vs az,vl o p q,vi t,vb u,vb v,vb x,vi y,vb z,vs aa,vl a c d,vi ab,vb ac,vb ae,vb af,vi ag,vb ah,vs ai,vl e f g,vi aj,vb ak,vb al,vb am,vi an,vb ao,vs ap,vl h j l,vi aq,vi ar]∧∀aI:Nat,∀(b:Nat) (I2:cc),cc.le I1 I2→I2 b=some (Obj.cells #[vb au,vb av,vb aw,vi ax,vb ay,vs az,vl o p q,vi t,vb u,vb v,vb x,vi y,vb z,vs aa,vl a c d,vi ab,vb ac,vb ae,vb af,vi ag,vb ah,vs ai,vl e f g,vi aj,vb ak,vb al,vb am,vi an,vb ao,vs ap,vl h j l,vi aq] 28 (0,0))→(∃m2:Nat,Inv27 i w 0 m2 I2 F1 I2 F1)∧∀(w1 k:Int) (m3:Nat) (I3:cc) (F2:b8),cc.le I2 I3→Inv27 i w1 k m3 I2 F1 I3 F2→(Dt (k<(4:Int)) ((0≤k∧k<(4:Int))∧∃aR:Addr,some ⟨b,0,none⟩=some aR∧∃(m4:Int),Rd I3 ((aB aE)::(aI,Obj.cells #[vb n,vb aC,vs aD,vb au,vb av,vb aw,vi ax,vb ay,vs az,vl o p q,vi t,vb u,vb v,vb x,vi y,vb z,vs aa,vl a c d,vi ab,vb ac,vb ae,vb af,vi ag,vb ah,vs ai,vl e f g,vi aj,vb ak,vb al,vb am,vi an,vb ao,vs ap,vl h j l,vi aq,vi ar] 99 (0,0))::F2) ((aR.add (Int.toNat k*8)).add 0) [vb m4]∧(It (m4 != 0) ((0≤k∧k<(4:Int))∧∃aS:Addr,some ⟨b,0,none⟩=some aS∧∃(aJ aK aL aM aN:Int) (aO:Bs) (aF:OA) (aG aH:Nat) (aP:Int),Rd I3 ((aB aE)::(aI,Obj.cells #[vb n,vb aC,vs aD,vb au,vb av,vb aw,vi ax,vb ay,vs az,vl o p q,vi t,vb u,vb v,vb x,vi y,vb z,vs aa,vl a c d,vi ab,vb ac,vb ae,vb af,vi ag,vb ah,vs ai,vl e f g,vi aj,vb ak,vb al,vb am,vi an,vb ao,vs ap,vl h j l,vi aq,vi ar] 99 (0,0))::F2) (aS.add (Int.toNat k*8)) [vb aJ,vb aK,vb aL,vi aM,vb aN,vs aO,vl aF aG aH,vi aP]∧cy P 35 #[.agg #[vb aJ,vb aK,vb aL,vi aM,vb aN,vs aO,vl aF aG aH,vi aP]] I3 ((aB aE)::(aI,Obj.cells #[vb n,vb aC,vs aD,vb au,vb av,vb aw,vi ax,vb ay,vs az,vl o p q,vi t,vb u,vb v,vb x,vi y,vb z,vs aa,vl a c d,vi ab,vb ac,vb ae,vb af,vi ag,vb ah,vs ai,vl e f g,vi aj,vb ak,vb al,vb am,vi an,vb ao,vs ap,vl h j l,vi aq,vi ar] 99 (0,0))::·) F2 vi fun r I4 F3=>(∃m5:Nat,m5<m3∧Inv27 i (wr (w1+r)) (wr (k+1)) m5 I2 F1 I4 F3)) (∃m6:Nat,m6<m3∧Inv27 i w1 (wr (k+1)) m6 I2 F1 I3 F2))) (It (n==1) (∃m7:Nat,m7<m1∧Inv10 w1 (wr (s+1)) (wr (i+1)) m7 I F I3 F2) (It (n==2) (∃m8:Nat,m8<m1∧Inv10 w1 (wr (s+1)) (wr (i+1)) m8 I F I3 F2) (It (n==3) (∃m9:Nat,m9<m1∧Inv10 w1 (wr (s+1)) (wr (i+1)) m9 I F I3 F2) (∃aT:Nat,aT<m1∧Inv10 w1 s (wr (i+1)) aT I F I3 F2)))))) (Q (.returned (.tuple #[vi w,vi s])) I1 F1))
theorem oz.vc{i j k l n:Int}{o:Bs}{a:OA}{c d:Nat}{p:Int}{e:OA}{f g:Nat}{q:Int}{I:cc}{F:b8}{Q:cd}(Inv10:Int→Int→Int→Nat→cc→b8→cc→b8→Prop)(Inv27:Int→Int→Int→Nat→cc→b8→cc→b8→Prop)(h:oz.V (fun b=>(b,Obj.cells #[.int .u8 i,.int .u8 j,.int .u8 k,.int .i64 l,.int .u8 n,.string o,.slice a c d,.int .i64 p,.slice e f g,.int .i64 q] 84 (0,0))) (.int .u8) (.int .i64) .string .slice (IntKind.wrap .i64) i j k l n o a c d p e f g q I F Q Inv10 Inv27):cf P 73 #[.agg #[.int .u8 i,.int .u8 j,.int .u8 k,.int .i64 l,.int .u8 n,.string o,.slice a c d,.int .i64 p,.slice e f g,.int .i64 q]] I F Q :=
 tw (A:=(cK [4004,9003,11005,13002,13006,13011] [] [35] rr [(10,⟨[(4,(.int .i64)),(5,(.int .i64)),(6,(.int .i64))],[],fun fs I0 F0 vs m I F=>match fs,vs with | [],[.int _ y0,.int _ y1,.int _ y2]=>Inv10 y0 y1 y2 m I0 F0 I F | _,_=>False,[],[]⟩),(27,⟨[(4,(.int .i64)),(9,(.int .i64))],[],fun fs I0 F0 vs m I F=>match fs,vs with | [.int _ y0],[.int _ y1,.int _ y2]=>Inv27 y0 y1 y2 m I0 F0 I F | _,_=>False,[6],[]⟩)] [7008] [] [] [] [] [])) [35] func73 h
def mc.V(ka:Nat→Int→Int→Nat×Obj)(d:Nat→Nat×Obj)(nV:Int→Int→Int→Int→Int→Bs→OA→Nat→Nat→Int→Value)(nL:Int→Int→Int→Int→Int→Bs→OA→Nat→Nat→Int→List Value)(vb vi:Int→Value)(vl:OA→Nat→Nat→Value)(wr:Int→Int)(aW:Bs)(h:OA)(g aV:Nat)(aX:Int)(I:cc)(F:b8)(Q:cd)(Inv10:Int→Int→Int→Int→Nat→cc→b8→Prop):Prop:=∀e:Nat,∀b:Nat,∀f:Nat,(∃m:Nat,Inv10 0 0 0 0 m I F)∧∀(j i a c:Int) (m1:Nat) (I1:cc) (F1:b8),cc.le I I1→Inv10 j i a c m1 I1 F1→(Dt (i<(g:Int)) ((0≤i∧i<(g:Int))∧∃ad:Addr,h=some ad∧∃(aJ aK aL aM aN:Int) (aO:Bs) (y:OA) (z aa:Nat) (aP:Int) (ab:OA) (ac ae:Nat) (aQ:Int),Rd I1 ((d e)::(ka b 0 0)::(ka f a c)::F1) (ad.add (Int.toNat i*10)) [vb aJ,vb aK,vb aL,vi aM,vb aN,.string aO,vl y z aa,vi aP,vl ab ac ae,vi aQ]∧dg P 73 #[.agg #[vb aJ,vb aK,vb aL,vi aM,vb aN,.string aO,vl y z aa,vi aP,vl ab ac ae,vi aQ]] I1 ((d e)::(ka b 0 0)::(ka f a c)::·) F1 fun e1 I2 G1=>∃(r0 r1:Int),e1=.returned (.tuple #[vi r0,vi r1])∧G1 fun F2=>(Dt (r0>j) (Dt (r1>c) ((0≤i∧i<(g:Int))∧∃aR:Addr,h=some aR∧∃(af ag ah ai aj:Int) (ak:Bs) (k:OA) (l n:Nat) (al:Int),Rd I2 ((d e)::(ka b 0 0)::(ka f a r1)::F2) ((aR.add (Int.toNat i*10)).add 0) (nL af ag ah ai aj ak k l n al)∧∃(r:Int),(cf P 35 #[nV af ag ah ai aj ak k l n al] I2 ((d e)::(ka b 0 0)::(ka f a r1)::F2) fun e2 I3 G2=>e2=.returned (vi r)∧List.Perm G2 ((d e)::(ka b 0 0)::(ka f a r1)::F2))∧(∃m2:Nat,m2<m1∧Inv10 r0 (wr (i+1)) (wr (a+r)) r1 m2 I2 F2)) ((0≤i∧i<(g:Int))∧∃aS:Addr,h=some aS∧∃(am an ao ap aq:Int) (ar:Bs) (o:OA) (p q:Nat) (au:Int),Rd I2 ((d e)::(ka b 0 0)::(ka f a c)::F2) ((aS.add (Int.toNat i*10)).add 0) (nL am an ao ap aq ar o p q au)∧∃(r2:Int),(cf P 35 #[nV am an ao ap aq ar o p q au] I2 ((d e)::(ka b 0 0)::(ka f a c)::F2) fun e3 I4 G3=>e3=.returned (vi r2)∧List.Perm G3 ((d e)::(ka b 0 0)::(ka f a c)::F2))∧(∃m3:Nat,m3<m1∧Inv10 r0 (wr (i+1)) (wr (a+r2)) c m3 I2 F2))) (Dt (r1>c) ((0≤i∧i<(g:Int))∧∃aT:Addr,h=some aT∧∃(av aw ax ay az:Int) (aA:Bs) (s:OA) (t u:Nat) (aB:Int),Rd I2 ((d e)::(ka b 0 0)::(ka f a r1)::F2) ((aT.add (Int.toNat i*10)).add 0) (nL av aw ax ay az aA s t u aB)∧∃(r3:Int),(cf P 35 #[nV av aw ax ay az aA s t u aB] I2 ((d e)::(ka b 0 0)::(ka f a r1)::F2) fun e4 I5 G4=>e4=.returned (vi r3)∧List.Perm G4 ((d e)::(ka b 0 0)::(ka f a r1)::F2))∧(∃m4:Nat,m4<m1∧Inv10 j (wr (i+1)) (wr (a+r3)) r1 m4 I2 F2)) ((0≤i∧i<(g:Int))∧∃aU:Addr,h=some aU∧∃(aC aD aE aF aG:Int) (aH:Bs) (v:OA) (w x:Nat) (aI:Int),Rd I2 ((d e)::(ka b 0 0)::(ka f a c)::F2) ((aU.add (Int.toNat i*10)).add 0) (nL aC aD aE aF aG aH v w x aI)∧∃(r4:Int),(cf P 35 #[nV aC aD aE aF aG aH v w x aI] I2 ((d e)::(ka b 0 0)::(ka f a c)::F2) fun e5 I6 G5=>e5=.returned (vi r4)∧List.Perm G5 ((d e)::(ka b 0 0)::(ka f a c)::F2))∧(∃m5:Nat,m5<m1∧Inv10 j (wr (i+1)) (wr (a+r4)) c m5 I2 F2))))) (Q (.returned (.agg #[vi (wr (a+j)),vi c])) I1 F1))
theorem mc.vc{i:Bs}{d:OA}{e g:Nat}{j:Int}{I:cc}{F:b8}{Q:cd}(Inv10:Int→Int→Int→Int→Nat→cc→b8→Prop)(h:mc.V (fun W a b=>(W,Obj.cells #[.int .i64 a,.int .i64 b] 57 (0,0))) (fun b=>(b,Obj.cells #[.string i,.slice d e g,.int .i64 j] 65 (0,0))) (fun k o t n f s a l c q=>.agg #[.int .u8 k,.int .u8 o,.int .u8 t,.int .i64 n,.int .u8 f,.string s,.slice a l c,.int .i64 q]) (fun k o t n f s a l c q=>[.int .u8 k,.int .u8 o,.int .u8 t,.int .i64 n,.int .u8 f,.string s,.slice a l c,.int .i64 q]) (.int .u8) (.int .i64) .slice (IntKind.wrap .i64) i d e g j I F Q Inv10):cf P 45 #[.agg #[.string i,.slice d e g,.int .i64 j]] I F Q :=
 tw (A:=(cK [4004,7002,9003] [] [35,73] rr [(10,⟨[(4,(.int .i64)),(5,(.int .i64))],[(2,[(.int .i64),(.int .i64)])],fun _ _ _ vs m I F=>match vs with | [.int _ y0,.int _ y1,.int _ y2,.int _ y3]=>Inv10 y0 y1 y2 y3 m I F | _=>False,[],[]⟩)] [] [] [(11,11,[2])] [] [] [])) [35,73] func45 h
def kC.V(ka:Nat→Int→Int→Bool→Nat×Obj)(f:Nat→Nat×Obj)(vi:Int→Value)(vl:OA→Nat→Nat→Value)(vt:Bool→Value)(ah:Bs)(t:OA)(u w:Nat)(x:OA)(y z:Nat)(j:OA)(e aa:Nat)(I:cc)(F:b8)(Q:cd)(Inv18:OA→Nat→Nat→Int→Nat→cc→b8→Prop):Prop:=∀g:Nat,∀b:Nat,dg P 26 #[.agg #[.string ah,vl t u w,vl x y z,vl j e aa]] I ((f g)::(ka b 0 0 false)::·) F fun e1 I1 G1=>∃(a c:Int) (d:Bool),e1=.returned (.agg #[vi a,vi c,vt d])∧G1 fun F1=>∀h:Nat,(It (a != 0) (Q (.returned (.tuple #[vl none 0 0,.agg #[vi a,vi c,vt d]])) I1 F1) ((∃m:Nat,Inv18 none 0 0 0 m I1 F1)∧∀(o:OA) (p q:Nat) (i:Int) (m1:Nat) (I2:cc) (F2:b8),cc.le I1 I2→Inv18 o p q i m1 I2 F2→(Dt (i<(e:Int)) ((0≤i∧i<(e:Int))∧∃ad:Addr,j=some ad∧∃(ab:Bs) (k:OA) (l n:Nat) (ac:Int),Rd I2 ((f g)::(ka b 0 0 false)::(ka h a c d)::F2) (ad.add (Int.toNat i*3)) [.string ab,vl k l n,vi ac]∧dg P 45 #[.agg #[.string ab,vl k l n,vi ac]] I2 ((f g)::(ka b 0 0 false)::(ka h a c d)::·) F2 fun e2 I3 G2=>∃(r s:Int),e2=.returned (.agg #[vi r,vi s])∧G2 fun F3=>∀(b1:Nat) (I4:cc),cc.le I3 I4→I4 b1=some (Obj.cells #[vi r,vi s] 57 (0,0))→cF P (Builtin.append_ #[42,42] 42 #[vl o p q,vl (some ⟨b1,0,none⟩) 1 1]) I4 ((f g)::(ka b 0 0 false)::(ka h a c d)::F3) fun v I5 G3=>∃(ae:OA) (af ag:Nat),v=vl ae af ag∧∃F4:b8,List.Perm G3 ((f g)::(ka b 0 0 false)::(ka h a c d)::F4)∧(∃m2:Nat,m2<m1∧Inv18 ae af ag (IntKind.wrap .i64 (i+1)) m2 I5 F4)) (Q (.returned (.tuple #[vl o p q,.agg #[vi a,vi c,vt d]])) I2 F2))))
theorem kC.vc{o:Bs}{d:OA}{e f:Nat}{g:OA}{i j:Nat}{k:OA}{l n:Nat}{I:cc}{F:b8}{Q:cd}(Inv18:OA→Nat→Nat→Int→Nat→cc→b8→Prop)(h:kC.V (fun W a b c=>(W,Obj.cells #[.int .i64 a,.int .i64 b,.bool c] 51 (0,0))) (fun b=>(b,Obj.cells #[.string o,.slice d e f,.slice g i j,.slice k l n] 39 (0,0))) (.int .i64) .slice .bool o d e f g i j k l n I F Q Inv18):cf P 21 #[.agg #[.string o,.slice d e f,.slice g i j,.slice k l n]] I F Q :=
 tw (A:=(cK [2002,6004] [] [26,45] rr [(18,⟨[(5,.slc),(6,(.int .i64))],[],fun _ _ _ vs m I F=>match vs with | [.slice y0 y1 y2,.int _ y3]=>Inv18 y0 y1 y2 y3 m I F | _=>False,[],[]⟩)] [8007] [] [(3,2,[1]),(9,3,[1])] [] [] [])) [26,45] func21 h
def me.V(ka:Nat→Int→Int→Bool→Nat×Obj)(kb:Nat→Bs→OA→Nat→Nat→OA→Nat→Nat→OA→Nat→Nat→Nat×Obj)(kc:Nat→Int→Int→Nat×Obj)(nV:Int→Int→Int→Int→Int→Bs→OA→Nat→Nat→Int→Value)(nO:Int→Int→Int→Int→Int→Bs→OA→Nat→Nat→Int→Obj)(vi:Int→Value)(vs:Bs→Value)(vl:OA→Nat→Nat→Value)(vt:Bool→Value)(I:cc)(F:b8)(Q:cd)  : Prop:=dg P 28 (#[vs (⟨#[100,111,110,101,32,63,32,98,105,100,32,58,32,98,105,100,32,43,32,49,112]⟩:Bs)]) I (·) F fun e1 I1 G1=>∃(s t u v w:Int) (x:Bs) (a:OA) (b c:Nat) (y z aa:Int) (ab:Bool),e1=.returned (.tuple #[nV s t u v w x a b c y,.agg #[vi z,vi aa,vt ab]])∧G1 fun F1=>∀ae:Nat,∀af:Nat,dg P 29 (#[vs (⟨#[115,116,114,97,116,101,103,121,32,115,32,123,32,114,101,103,32,110,32,105,110,116,32,61,32,48,59,32,115,108,111,116,32,111,59,32,115,116,97,116,101,32,97,32,123,32,119,104,101,110,32,104,97,115,32,98,105,100,32,100,111,32,115,117,98,109,105,116,32,98,117,121,32,111,102,32,50,113,32,97,116,32,98,105,100,32,43,32,49,112,32,108,105,109,105,116,44,32,104,97,108,116,59,32,119,104,101,110,32,110,111,119,32,62,32,53,116,32,100,111,32,115,101,116,32,110,32,61,32,110,32,43,32,49,44,32,99,97,110,99,101,108,32,111,44,32,99,97,110,99,101,108,32,111,59,32,125,32,115,116,97,116,101,32,98,32,123,125,32,125]⟩:Bs)]) I1 ((ae,nO s t u v w x a b c y)::(ka af z aa ab)::·) F1 fun e2 I2 G2=>∃(m:Bs) (d:OA) (e f:Nat) (g:OA) (h i:Nat) (j:OA) (k l:Nat) (n o:Int) (p:Bool),e2=.returned (.tuple #[.agg #[vs m,vl d e f,vl g h i,vl j k l],.agg #[vi n,vi o,vt p]])∧G2 fun F2=>∀ai:Nat,∀ac:Nat,cy P 12 #[nV s t u v w x a b c y] I2 ((ae,nO s t u v w x a b c y)::(ka af z aa ab)::(kb ai m d e f g h i j k l)::(ka ac n o p)::·) F2 vi fun r I3 F3=>cy P 12 (#[nV 0 0 0 0 0 (⟨#[]⟩:Bs) none 0 0 0]) I3 ((ae,nO s t u v w x a b c y)::(ka af z aa ab)::(kb ai m d e f g h i j k l)::(ka ac n o p)::·) F3 vi fun r1 I4 F4=>dg P 24 #[.agg #[vs m,vl d e f,vl g h i,vl j k l]] I4 ((ae,nO s t u v w x a b c y)::(ka af z aa ab)::(kb ai m d e f g h i j k l)::(ka ac n o p)::·) F4 fun e5 I5 G5=>∃(ag ah:Int) (ap:Value),e5=.returned (.tuple #[.agg #[vi ag,vi ah],ap])∧G5 fun F5=>∀ak:Nat,dg P 19 #[.agg #[vs m,vl d e f,vl g h i,vl j k l]] I5 ((ae,nO s t u v w x a b c y)::(ka af z aa ab)::(kb ai m d e f g h i j k l)::(ka ac n o p)::(kc ak ag ah)::·) F5 fun e6 I6 G6=>∃(al:OA) (aj aw:Nat) (aq:Value),e6=.returned (.tuple #[vl al aj aw,aq])∧G6 fun F6=>dg P 19 (#[.agg #[vs (⟨#[]⟩:Bs),vl none 0 0,vl none 0 0,vl none 0 0]]) I6 ((ae,nO s t u v w x a b c y)::(ka af z aa ab)::(kb ai m d e f g h i j k l)::(ka ac n o p)::(kc ak ag ah)::·) F6 fun e7 I7 G7=>∃(am:OA) (an ao:Nat) (ar:Value),e7=.returned (.tuple #[vl am an ao,ar])∧G7 fun F7=>(It (r==6) (It (r1==0) (∃q:Bool,cU P .eql 44 (.tmp 47) (.const (Value.nilIface)) ap Value.nilIface q∧(It q (∃q1:Bool,cU P .eql 57 (.tmp 51) (.tmp 52) (.agg #[vi ag,vi ah]) (.agg #[vi 9,vi 2]) q1∧(It q1 (∃q2:Bool,cU P .eql 44 (.tmp 56) (.const (Value.nilIface)) aq Value.nilIface q2∧(It q2 (It ((aj:Int)==2) ((0≤(1:Int)∧(1:Int)<(aj:Int))∧∃ad:Addr,al=some ad∧∃(au av:Int),Rd I7 ((ae,nO s t u v w x a b c y)::(ka af z aa ab)::(kb ai m d e f g h i j k l)::(ka ac n o p)::(kc ak ag ah)::F7) (ad.add (Int.toNat 1*2)) [vi au,vi av]∧∃q3:Bool,cU P .eql 57 (.tmp 67) (.tmp 68) (.agg #[vi au,vi av]) (.agg #[vi 0,vi 0]) q3∧(It q3 (∃q4:Bool,cU P .neq 44 (.tmp 72) (.const (Value.nilIface)) ar Value.nilIface q4∧Q (.returned (vt q4)) I7 F7) (Q (.returned (vt false)) I7 F7))) (Q (.returned (vt false)) I7 F7)) (Q (.returned (vt false)) I7 F7))) (Q (.returned (vt false)) I7 F7))) (Q (.returned (vt false)) I7 F7))) (Q (.returned (vt false)) I7 F7)) (Q (.returned (vt false)) I7 F7))
theorem me.vc  {I:cc}{F:b8}{Q:cd}  (h:me.V (fun W a b c=>(W,Obj.cells #[.int .i64 a,.int .i64 b,.bool c] 68 (0,0))) (fun W a b c d e f g h i j=>(W,Obj.cells #[.string a,.slice b c d,.slice e f g,.slice h i j] 39 (0,0))) (fun W a b=>(W,Obj.cells #[.int .i64 a,.int .i64 b] 57 (0,0))) (fun k o t n f s a l c q=>.agg #[.int .u8 k,.int .u8 o,.int .u8 t,.int .i64 n,.int .u8 f,.string s,.slice a l c,.int .i64 q]) (fun k o t n f s a l c q=>.cells #[.int .u8 k,.int .u8 o,.int .u8 t,.int .i64 n,.int .u8 f,.string s,.slice a l c,.int .i64 q] 28 (0,0)) (.int .i64) .string .slice .bool I F Q):cf P 9 #[] I F Q :=
 tw (A:=(an [8001,8004,8008,8013,8017,8022,8029] [12,19,24,28,29] rr)) [12,19,24,28,29] func9 h
def qb.V(vl:OA→Nat→Nat→Value)(j:Bs)(a:OA)(b c:Nat)(d:OA)(e f:Nat)(g:OA)(h i:Nat)(I:cc)(F:b8)(Q:cd)  : Prop:=∀k:Nat,cy P 37 #[.agg #[.string j,vl a b c,vl d e f,vl g h i]] I ((k,Obj.cells #[.string j,vl a b c,vl d e f,vl g h i] 39 (0,0))::·) F (.int .i64) fun r I1 F1=>Q (.returned (.bool (decide (r>1048576)))) I1 (F1)
theorem qb.vc{k:Bs}{a:OA}{b c:Nat}{d:OA}{e f:Nat}{g:OA}{i j:Nat}{I:cc}{F:b8}{Q:cd}  (h:qb.V .slice k a b c d e f g i j I F Q):cf P 17 #[.agg #[.string k,.slice a b c,.slice d e f,.slice g i j]] I F Q :=
 tw (A:=(an [] [37] rr)) [37] func17 h
def hZ.V(vi:Int→Value)(h:OA)(a k:Nat)(j:OA)(b l:Nat)(I:cc)(F:b8)(Q:cd)(Inv14:Bool→Int→Nat→cc→b8→Prop):Prop:=(It ((a:Int)!=(b:Int)) (Q (.returned (.bool false)) I F) ((∃m:Nat,Inv14 false 0 m I F)∧∀(x:Bool) (i:Int) (m1:Nat) (I1:cc) (F1:b8),cc.le I I1→Inv14 x i m1 I1 F1→(Dt (i<(a:Int)) ((0≤i∧i<(a:Int))∧∃ad:Addr,h=some ad∧∃(e f:Int),Rd I1 F1 (ad.add (Int.toNat i*2)) [vi e,vi f]∧((0≤i∧i<(b:Int))∧∃g:Addr,j=some g∧∃(c d:Int),Rd I1 F1 (g.add (Int.toNat i*2)) [vi c,vi d]∧∃q:Bool,cU P .neq 57 (.tmp 20) (.tmp 24) (.agg #[vi e,vi f]) (.agg #[vi c,vi d]) q∧(It q (Q (.returned (.bool false)) I1 F1) (∃m2:Nat,m2<m1∧Inv14 x (IntKind.wrap .i64 (i+1)) m2 I1 F1)))) (Q (.returned (.bool true)) I1 F1))))
theorem hZ.vc{a:OA}{b c:Nat}{d:OA}{e f:Nat}{I:cc}{F:b8}{Q:cd}(Inv14:Bool→Int→Nat→cc→b8→Prop)(h:hZ.V (.int .i64) a b c d e f I F Q Inv14):cf P 22 #[.slice a b c,.slice d e f] I F Q :=
 tw (A:=(cK [1004,4003,6008] [] [] rr [(14,⟨[(4,.bool),(5,(.int .i64))],[],fun _ _ _ vs m I F=>match vs with | [.bool y0,.int _ y1]=>Inv14 y0 y1 m I F | _=>False,[],[]⟩)] [] [] [] [] [] [])) [] func22 h
end Go.Lx
namespace Go.Vc
section
variable {P:Program} {f:FuncId} {args:Array Value} {v:Value}
theorem cf.JA{I:cc}{F:b8}{b:Nat}{o:Obj}(h:∀J,cc.le I J→J b=some o→cf P f args J F (Go.Lx.dS v F)):cf P f args I ((b,o)::F) (Go.Lx.dS v ((b,o)::F)):=fun w hw=>by
 have hb:=hw.off b o (List.mem_cons_self ..)
 obtain⟨hl,hs⟩:=hw.lp
 refine (h (I.put b o) hl (cc.kJ I b o) w hs).mono fun e w' ⟨I',F',g1,g2,g3,g4⟩=>?_
 subst g4
 obtain⟨d1,d2⟩:=Sat.Bq hb g1 g2
 exact⟨I'.del b,(b,o)::F',d1,d2,g3,rfl⟩
theorem cf.Hm:∀(A:b8) {I:cc} {F:b8} (h:∀J,cc.le I J→(∀x∈A,J x.1=some x.2)→cf P f args J F (Go.Lx.dS v F)),cf P f args I (A++F) (Go.Lx.dS v (A++F))
 | [],I,F,h=>h I (cc.le_refl I) fun x hx=>absurd hx (by simp)
 | (b,o)::A,I,F,h=>cf.JA fun J hJ hb=>cf.Hm A fun K hK hA=>h K (cc.le_trans hJ hK) fun x hx=>by
   rcases List.mem_cons.1 hx with rfl | hx
   ·exact hK.at hb
   ·exact hA x hx
theorem cf.Ct{F:b8}{I:cc}(h:∀J,cc.le I J→(∀x∈F,J x.1=some x.2)→cf P f args J [] (Go.Lx.dS v [])):cf P f args I F (Go.Lx.dS v F):=by
 have:=cf.Hm (f:=f) (args:=args) (v:=v) F (F:=[]) h
 rwa [List.append_nil] at this
end
theorem Rd.Ct{I J:cc}{G:b8}{ad:Addr}{cs:List Value}(h:Rd I G ad cs)(hl:cc.le I J)(hs:∀x∈G,J x.1=some x.2):Rd J [] ad cs:=by
 obtain⟨h1,cells,e,fz,h2,h3⟩:=h
 exact⟨h1,cells,e,fz,.inl (h2.elim (fun h=>hl.at h) fun h=>hs _ h),h3⟩
theorem dq.Ct{α:Type}{I J:cc}{G:b8}{z:Nat}{f:α→List Value}{a:Option Addr}{n:Nat}{l:List α}(h:dq I G z f a n l)(hl:cc.le I J)(hs:∀x∈G,J x.1=some x.2):dq J [] z f a n l :=
 ⟨h.1,fun hne=>let ⟨ad,ha,hr⟩:=h.2 hne;⟨ad,ha,fun i x hx=>(hr i x hx).Ct hl hs⟩⟩
end Go.Vc
namespace Go.Lx
open Go.Vc
theorem cC.Ct{I J:cc}{G:b8}{t:Nd}(h:cC I G t)(hl:cc.le I J)(hs:∀x∈G,J x.1=some x.2):cC J [] t:=by
 induction h with
 | mk h1 h2 ih=>exact .mk (h1.Ct hl hs) ih
def Is(x:Int):List Value:=[.int .i64 x]
theorem xk(first:Int){a:Option Addr}{n c:Nat}{l:List Int}{I:cc}{F:b8}(hS:dq I F 1 Is a n l)(hn:(n:Int)≤1000000000):cf P 42 #[.int .i64 first,.slice a n c] I F (dS (.int .i64 (iB first l)) F):=by
 refine jC.vc (fun m i k I' F'=>0≤i∧i≤n∧k=(n-i).toNat∧iB first l=iB m (l.drop i.toNat)∧F'=F) ?_
 unfold jC.V
 have hl:=hS.1
 refine⟨⟨_,by omega,by omega,rfl,rfl,rfl⟩,fun m i k I1 F1 hI ⟨g0,g1,gk,gm,gF⟩=>⟨fun hlt=>?_,fun hlt=>⟨?_,gF⟩⟩⟩
 ·have hlt:=of_decide_eq_true hlt
  subst gF
  obtain⟨ad,x,had,hx,hrd⟩:=(hS.mono hI fun _ h=>h).at g0 hlt
  refine⟨⟨g0,hlt⟩,ad,had,x,hrd,(n-(i+1)).toNat,by omega, ?_⟩
  rw[cY (n:=i+1) (by omega)]
  refine⟨by omega,by omega,rfl, ?_,rfl⟩
  have hd:l.drop i.toNat=x::l.drop (i.toNat+1):=by
   have hk:i.toNat<l.length:=by omega
   rw[List.drop_eq_getElem_cons hk]
   rw[List.getElem?_eq_getElem hk] at hx
   cases hx;rfl
  rw[gm,hd,show (i+1).toNat=i.toNat+1 by omega]
  show iB (max m x) _=_
  congr 1
  split<;>omega
 ·have hlt:=of_decide_eq_false hlt
  rw[gm,List.drop_eq_nil_of_le (by omega)];rfl
theorem gE(first x:Int){b t:Nat}{fz:Nat×Nat}{I:cc}{F:b8}(hb:I b=some (.cells #[.int .i64 x] t fz)):cf P 42 #[.int .i64 first,.slice (some ⟨b,0,none⟩) 1 1] I F (dS (.int .i64 (max first x)) F):=by
 have h:dq I F 1 Is (some ⟨b,0,none⟩) 1 [x]:=(Sl.mD (f:=Is) (z:=1) (l:=[x]) (fun _=>rfl) hb (fun k hk=>by
  have:k<1:=hk
  have:k=0:=by omega
  subst this;rfl)).yr F
 exact xk first h (by omega)
theorem tp{l:List Nd}{i:Nat}{x:Nd}(h:l[i]? = some x):ep ((l.drop i).map fun y=>y.px.wt)=x.px.wt+ep ((l.drop (i+1)).map fun y=>y.px.wt):=by
 obtain⟨hk,hx⟩:=List.getElem?_eq_some_iff.1 h
 rw[List.drop_eq_getElem_cons hk,List.map_cons,ep,hx]
theorem uH:∀{l:List Nd},(∀k∈l,k.px.formed=true)→0≤ep (l.map fun y=>y.px.wt)∧ep (l.map fun y=>y.px.wt)≤2*Px.fu (l.map Nd.px)
 | [],_=>⟨Int.le_refl 0,Int.le_refl 0⟩
 | x::r,h=>by
   have h1:=Px.jS x.px (h x (.head _))
   have h2:=uH fun k hk=>h k (.tail _ hk)
   rw[List.map_cons,List.map_cons,ep,Px.fu]
   omega
theorem Di(t:Nd):t.px.wt=Ge t.kind (t.kids.map fun y=>y.px.wt):=by rw[Px.Hl,Nd.cG,Nd.db,List.map_map];rfl
theorem yX:∀(t:Nd),t.px.size≤4194304→t.px.formed=true→∀(I:cc) (F:b8),cC I [] t→cf P 32 #[t.v] I F (dS (.int .i64 t.px.wt) F):=by
 refine Nd.ind fun t ih hs hf I F ht=>?_
 have hln:=iK hs
 have hr:=Px.jS t.px hf
 have h1:t.px.gO=true:=by rw[Px.er,Bool.and_eq_true] at hf;exact hf.1
 have hl:(t.kids.length:Nat)=Px.arity t.px:=by
  unfold Px.gO at h1
  rw[Bool.and_eq_true,decide_eq_true_eq,Nd.db,List.length_map] at h1
  exact h1.2
 have hkf:∀k∈t.kids,k.px.formed=true:=fun k hk=>Px.ib hf _ (by rw[Nd.db];exact List.mem_map_of_mem hk)
 have hat:∀{J:cc} {G:b8} {i:Int},cc.le I J→0≤i→i<t.kids.length→∃ad x,t.a=some ad∧t.kids[i.toNat]? = some x∧Rd J G (ad.add (Int.toNat i*8)) x.enc ∧
   (1≤x.px.wt∧x.px.wt+1≤2*x.px.size)∧x.px.size≤4194304∧∀(K:cc) (H:b8),cc.le J K→cf P 32 #[x.v] K H (dS (.int .i64 x.px.wt) H):=by
  intro J G i hJ g0 hlt
  obtain⟨ad,x,had,hx,hrd,hxo,hxm⟩:=(ht.mono hJ fun _ h=>h).kids.at g0 hlt
  exact⟨ad,x,had,hx,hrd.sub (cc.le_refl J) (fun _ h=>absurd h (by simp)),Px.jS _ (hkf x hxm),fT hxm hs,fun K H hK=>ih x hxm (fT hxm hs) (hkf x hxm) K H (hxo.mono hK fun _ h=>h)⟩
 have hwt:=Di t
 refine ma.vc (fun _ sum i m I0 F0 I' F'=>0≤i∧i≤t.kids.length∧m=(t.kids.length-i).toNat∧1≤sum∧t.px.wt=sum+ep ((t.kids.drop i.toNat).map fun y=>y.px.wt)∧F'=F) ?_
 unfold ma.V
 intro b_n
 refine⟨fun h7=>?_,fun h7=>⟨fun h9=>?_,fun h9=>⟨?_,fun sum i m I1 F1 hI ⟨g0,g1,gm,g2,gs,gF⟩=>⟨fun hlt=>?_,fun hlt=>⟨?_,gF⟩⟩⟩⟩⟩
 ·have h7:t.kind=7:=by simpa using h7
  have h3:t.kids.length=3:=by rw[hl];unfold Px.arity;rw[Nd.cG,h7];rfl
  obtain⟨ad0,x0,ha0,hx0,hr0,hw0,hs0,ht0⟩:=hat (i:=0) (G:=(b_n,.cells t.enc.toArray 28 (0,0))::F) (cc.le_refl I) (by omega) (by omega)
  obtain⟨ad1,x1,ha1,hx1,hr1,hw1,hs1,ht1⟩:=hat (i:=1) (G:=[]) (cc.le_refl I) (by omega) (by omega)
  obtain⟨ad2,x2,ha2,hx2,hr2,hw2,hs2,ht2⟩:=hat (i:=2) (G:=[]) (cc.le_refl I) (by omega) (by omega)
  refine⟨⟨by omega,by omega⟩,ad0,ha0,⟨by omega,by omega⟩,ad1,ha1,_,_,_,_,_,_,_,_,_,_,hr1,⟨by omega,by omega⟩,ad2,ha2,_,_,_,_,_,_,_,_,_,_,hr2,_,_,_,_,_,_,_,_,_,_,hr0, ?_⟩
  refine cf.ret (ht0 I _ (cc.le_refl I)) fun I1 l1=>⟨_,rfl,F,.refl _,cf.ret (ht1 I1 _ l1) fun I2 l2=>⟨_,rfl,F,.refl _,cf.ret (ht2 I2 _ (cc.le_trans l1 l2)) fun I3 l3=>⟨_,rfl,F,.refl _,fun b I4 l4 hb =>
   cf.ret (gE x1.px.wt x2.px.wt hb) fun I5 l5=>⟨_,rfl,F,.refl _, ?_,rfl⟩⟩⟩⟩
  rw[cY (n:=x0.px.wt+max x1.px.wt x2.px.wt) (by omega),cY (by omega),hwt]
  unfold Ge
  rw[if_pos h7]
  match hk:t.kids,h3 with
  | [a,b,c],_ =>
    rw[hk] at hx0 hx1 hx2
    cases hx0;cases hx1;cases hx2
    rfl
 ·have h7:t.kind≠7:=by simpa using h7
  have h9:t.kind=9:=by simpa using h9
  have h3:t.kids.length=1:=by rw[hl];unfold Px.arity;rw[Nd.cG,h9];rfl
  obtain⟨ad0,x0,ha0,hx0,hr0,hw0,hs0,ht0⟩:=hat (i:=0) (G:=(b_n,.cells t.enc.toArray 28 (0,0))::F) (cc.le_refl I) (by omega) (by omega)
  refine⟨⟨by omega,by omega⟩,ad0,ha0,_,_,_,_,_,_,_,_,_,_,hr0,cf.ret (ht0 I _ (cc.le_refl I)) fun I1 l1=>⟨_,rfl,F,.refl _, ?_,rfl⟩⟩
  rw[hwt]
  unfold Ge
  rw[if_neg h7,if_pos h9]
  match hk:t.kids,h3 with
  | [a],_ =>
    rw[hk] at hx0
    cases hx0
    show _=Ending.returned (Value.int .i64 (0+(x0.px.wt+0)))
    rw[Int.add_zero,Int.zero_add]
 ·have h7:t.kind≠7:=by simpa using h7
  have h9:t.kind≠9:=by simpa using h9
  refine⟨_,by omega,by omega,rfl,by omega, ?_,rfl⟩
  rw[hwt]
  unfold Ge
  rw[if_neg h7,if_neg h9];rfl
 ·have hlt:=of_decide_eq_true hlt
  subst gF
  obtain⟨ad0,x0,ha0,hx0,hr0,hw0,hs0,ht0⟩:=hat (G:=(b_n,.cells t.enc.toArray 28 (0,0))::F1) hI g0 hlt
  have hd:=uH (l:=t.kids.drop (i.toNat+1)) fun k hk=>hkf k (List.mem_of_mem_drop hk)
  rw[tp hx0] at gs
  refine⟨⟨g0,hlt⟩,ad0,ha0,_,_,_,_,_,_,_,_,_,_,hr0,fun b_k=>cf.ret (ht0 I1 _ (cc.le_refl I1)) fun I2 l2=>⟨_,rfl,F1,.refl _,(t.kids.length-(i+1)).toNat,by omega, ?_⟩⟩
  rw[cY (n:=i+1) (by omega),cY (n:=sum+x0.px.wt) (by omega)]
  refine⟨by omega,by omega,rfl,by omega, ?_,rfl⟩
  rw[gs,show (i+1).toNat=i.toNat+1 by omega,Int.add_assoc]
 ·have hlt:=of_decide_eq_false hlt
  rw[gs,List.drop_eq_nil_of_le (by omega)]
  show _=Ending.returned (Value.int .i64 (sum+0))
  rw[Int.add_zero]
theorem pk(t:Nd)(hs:t.px.size≤4194304)(hf:t.px.formed=true)(I:cc)(F:b8)(ht:cC I F t):cf P 32 #[t.v] I F (dS (.int .i64 t.px.wt) F) :=
 cf.Ct fun J hJ hF=>yX t hs hf J [] (ht.Ct hJ hF)
theorem iy:∀{l:List Int},(∀x∈l,0≤x)→0≤ep l
 | [],_=>Int.le_refl 0
 | x::r,h=>by
   have h1:=h x (.head _)
   have h2:=iy fun y hy=>h y (.tail _ hy)
   rw[ep];omega
theorem qc{B:Int}:∀{l:List Int},(∀x∈l,x≤B)→ep l≤B*l.length
 | [],_=>by rw[ep];simp
 | x::r,h=>by
   have h1:=h x (.head _)
   have h2:=qc fun y hy=>h y (.tail _ hy)
   rw[ep,List.length_cons,Int.natCast_add,Int.mul_add];omega
structure Px.Part (x:Px):Prop where
 ok:x.kind=0∨x.formed=true
 size:x.size≤1048576
theorem Px.Part.range{x:Px}(h:x.Part):0≤gT x∧gT x≤2097152:=by
 unfold gT
 split
 ·omega
 ·rename_i h0
  have:=Px.jS x (h.ok.resolve_left h0)
  have:=h.size
  omega
def dA.Sound(d:dA):Prop:=∀x∈d.oJ,x.Part
theorem dA.Sound.range{d:dA}(h:d.Sound):0≤d.wt∧d.wt≤8388608:=by
 have h1:=(h d.side (.head _)).range
 have h2:=(h d.qty (.tail _ (.head _))).range
 have h3:=(h d.price (.tail _ (.tail _ (.head _)))).range
 have h4:=(h d.value (.tail _ (.tail _ (.tail _ (.head _))))).range
 unfold dA.wt;omega
structure cD.Sound (r:cD):Prop where
 when:r.when.formed=true
 size:r.when.size≤1048576
 len:r.dos.length≤8
 dos:∀d∈r.dos,d.Sound
theorem cD.Sound.body{r:cD}(h:r.Sound):0≤r.body∧r.body≤67108864:=by
 have h1:=iy (l:=r.dos.map dA.wt) fun x hx=>by obtain⟨d,hd,rfl⟩:=List.mem_map.1 hx;exact (h.dos d hd).range.1
 have h2:=qc (B:=8388608) (l:=r.dos.map dA.wt) fun x hx=>by obtain⟨d,hd,rfl⟩:=List.mem_map.1 hx;exact (h.dos d hd).range.2
 rw[List.length_map] at h2
 have h3:=h.len
 unfold cD.body;omega
theorem dA.qd(d:dA):0≤d.act∧d.act≤1:=by unfold dA.act;split<;>omega
theorem cD.ru(r:cD):0≤r.eO∧r.eO≤r.dos.length:=by
 have h1:=iy (l:=r.dos.map dA.act) fun x hx=>by obtain⟨d,hd,rfl⟩:=List.mem_map.1 hx;exact d.qd.1
 have h2:=qc (B:=1) (l:=r.dos.map dA.act) fun x hx=>by obtain⟨d,hd,rfl⟩:=List.mem_map.1 hx;exact d.qd.2
 rw[List.length_map] at h2
 unfold cD.eO;omega
structure cq.Sound (x:cq):Prop where
 len:x.rules.length≤12
 rules:∀r∈x.rules,r.Sound
structure cu.Sound (s:cu):Prop where
 some:0<s.states.length
 len:s.states.length≤12
 states:∀x∈s.states,x.Sound
theorem oA{b:Bool}{x:Px}(h:cN b x=0)(hs:x.size≤1048576):x.Part:=by
 refine⟨?_,hs⟩
 unfold cN at h
 split at h
 ·exact .inr (jB h)
 ·have:=rq (by decide) h
  unfold Px.tQ at this
  simp only[Bool.and_eq_true,beq_iff_eq] at this
  exact .inl this.1.1
theorem cu.sound{s:cu}(h:s.check=0)(hl:s.oK):s.Sound:=by
 unfold cu.check at h
 obtain⟨_,h⟩:=cI h
 obtain⟨_,h⟩:=cI h
 obtain⟨_,h⟩:=cI h
 obtain⟨_,h⟩:=cI h
 obtain⟨_,h⟩:=cI h
 obtain⟨h0,h⟩:=cI h
 obtain⟨h12,h⟩:=cI h
 refine⟨of_decide_eq_true (rq (by decide) h0),of_decide_eq_true (rq (by decide) h12),fun x hx=>?_⟩
 have h1:=jN h x hx
 have hxl:=(hl.state x hx).2
 unfold cq.check at h1
 obtain⟨_,h1⟩:=cI h1
 obtain⟨h2,h1⟩:=cI h1
 refine⟨of_decide_eq_true (rq (by decide) h2),fun r hr=>?_⟩
 have h3:=jN h1 r hr
 obtain⟨l1,l2,l3⟩:=hxl r hr
 unfold cD.check at h3
 obtain⟨hw,h3⟩:=cI h3
 obtain⟨_,h3⟩:=cI h3
 obtain⟨h8,h3⟩:=cI h3
 refine⟨jB hw,l1,of_decide_eq_true (rq (by decide) h8),fun d hd=>?_⟩
 have h4:=jN h3 d hd
 have l4:=l3 d hd
 unfold dA.check at h4
 obtain⟨_,h4⟩:=cI h4
 obtain⟨_,h4⟩:=cI h4
 obtain⟨_,h4⟩:=cI h4
 obtain⟨p1,h4⟩:=cI h4
 obtain⟨p2,h4⟩:=cI h4
 obtain⟨p3,p4⟩:=cI h4
 intro y hy
 have hy':=l4 y hy
 simp only[dA.oJ,List.mem_cons,List.not_mem_nil,or_false] at hy
 rcases hy with rfl | rfl | rfl | rfl
 ·exact oA p1 hy'
 ·exact oA p2 hy'
 ·exact oA p3 hy'
 ·exact oA p4 hy'
theorem ua(t:Nd)(hs:t.px.size≤4194304)(I:cc)(F:b8)(ht:cC I F t):cf P 12 #[t.v] I F (dS (.int .i64 (if t.px.formed then t.px.wt else 0)) F):=by
 refine p8.vc ?_
 unfold p8.V
 intro b_n
 refine cf.ret (uj t hs I _ (ht.cons (x:=(rS b_n t)))) fun I1 l1=>⟨_,rfl,F,.refl _,fun h=>?_,fun h=>?_⟩
 ·have h:t.px.dj=120:=by simpa using h
  have hf:t.px.formed=false:=by
   cases hf:t.px.formed with
   | false=>rfl
   | true=>unfold Px.dj at h;rw[hf,if_pos rfl] at h;split at h<;>cases h
  rw[hf];exact⟨rfl,rfl⟩
 ·have h:t.px.dj≠120:=by simpa using h
  have hf:t.px.formed=true:=by
   cases hf:t.px.formed with
   | true=>rfl
   | false=>exact absurd (by unfold Px.dj;rw[hf];rfl) h
  refine cf.ret (pk t hs hf I1 _ ((ht.mono l1 fun _ h=>h).cons (x:=(rS b_n t)))) fun I2 l2=>⟨_,rfl,F,.refl _, ?_⟩
  rw[hf];exact⟨rfl,rfl⟩
theorem AN:dz P 41:=zO [41] (by kernel_rfl) _ (by decide)
theorem AO(t:Nd)(hs:t.px.size≤4194304)(hf:t.px.formed=true)(b:Nat)(c:Int)(h0:0≤c)(h1:c≤1000000000)(I:cc)(F:b8)(ht:cC I F t) :
  cf P 41 #[t.v,.pointer (some ⟨b,0,none⟩)] I ((b,.cells #[.int .i64 c] 3 (0,0))::F) fun e I' G=>e=.returned (.tuple #[])∧G=(b,.cells #[.int .i64 (c+t.px.wt)] 3 (0,0))::F:=by
 refine jD.vc ?_
 unfold jD.V
 intro b_n
 have hr:=Px.jS t.px hf
 refine⟨t.px.wt,(pk t hs hf I _ (ht.mono (cc.le_refl I) fun y hy=>.tail _ (.tail _ hy))).mono fun e I1 G l1 ⟨he,hG⟩=>⟨he,by rw[hG]⟩,rfl, ?_⟩
 rw[cY (by omega)]
def gN(d:dy):List Nd:=[d.side,d.qty,d.price,d.value]
def yY(l:List Nd):Int:=ep (l.map fun y=>gT y.px)
theorem AP{d:dy}{b t:Nat}{fz:Nat×Nat}{I:cc}(hb:I b=some (.cells #[.int .u8 d.side.kind,.int .u8 d.side.oper,.int .u8 d.side.cO,.int .i64 d.side.n,.int .u8 d.side.field,.string d.side.name,.slice d.side.a d.side.kids.length d.side.c,.int .i64 d.side.pos,.int .u8 d.qty.kind,.int .u8 d.qty.oper,.int .u8 d.qty.cO,.int .i64 d.qty.n,.int .u8 d.qty.field,.string d.qty.name,.slice d.qty.a d.qty.kids.length d.qty.c,.int .i64 d.qty.pos,.int .u8 d.price.kind,.int .u8 d.price.oper,.int .u8 d.price.cO,.int .i64 d.price.n,.int .u8 d.price.field,.string d.price.name,.slice d.price.a d.price.kids.length d.price.c,.int .i64 d.price.pos,.int .u8 d.value.kind,.int .u8 d.value.oper,.int .u8 d.value.cO,.int .i64 d.value.n,.int .u8 d.value.field,.string d.value.name,.slice d.value.a d.value.kids.length d.value.c,.int .i64 d.value.pos] t fz))(F:b8):dq I F 8 Nd.enc (some ⟨b,0,none⟩) 4 (gN d) :=
 (Sl.mD (f:=Nd.enc) (z:=8) (l:=gN d) (fun _=>rfl) hb (fun k hk=>by
   show (List.toArray ((gN d).flatMap Nd.enc))[k]? = _
   rw[List.getElem?_toArray])).yr F
theorem AQ{d:dy}{I:cc}{F:b8}(h:d.Ok I F):∀x∈gN d,cC I F x:=by
 intro x hx
 simp only[gN,List.mem_cons,List.not_mem_nil,or_false] at hx
 rcases hx with rfl | rfl | rfl | rfl
 ·exact h.1
 ·exact h.2.1
 ·exact h.2.2.1
 ·exact h.2.2.2
theorem ub{d:dy}(h:d.p.Sound):∀x∈gN d,x.px.Part:=fun x hx=>h x.px (by
 have:(gN d).map Nd.px=d.p.oJ:=rfl
 rw[←this];exact List.mem_map_of_mem hx)
theorem x8{l:List Nd}{i:Nat}{x:Nd}(h:l[i]? = some x):yY (l.drop i)=gT x.px+yY (l.drop (i+1)):=by
 obtain⟨hk,hx⟩:=List.getElem?_eq_some_iff.1 h
 unfold yY
 rw[List.drop_eq_getElem_cons hk,List.map_cons,ep,hx]
theorem uc{l:List Nd}(h:∀x∈l,x.px.Part):0≤yY l:=iy fun x hx=>by
 obtain⟨y,hy,rfl⟩:=List.mem_map.1 hx
 exact (h y hy).range.1
theorem Dj(d:dy):yY (gN d)=d.p.wt:=by
 show gT d.side.px+(gT d.qty.px+(gT d.price.px+(gT d.value.px+0)))=gT d.side.px+gT d.qty.px+gT d.price.px+gT d.value.px
 omega
theorem qf(f:dA→Int){l:List dy}{i:Nat}{x:dy}(h:l[i]? = some x):ep ((l.drop i).map fun d=>f d.p)=f x.p+ep ((l.drop (i+1)).map fun d=>f d.p):=by
 obtain⟨hk,hx⟩:=List.getElem?_eq_some_iff.1 h
 rw[List.drop_eq_getElem_cons hk,List.map_cons,ep,hx]
theorem ud{r:cp}(h:r.p.Sound)(i:Nat):0≤ep ((r.dos.drop i).map fun d=>d.p.wt):=iy fun x hx=>by
 obtain⟨y,hy,rfl⟩:=List.mem_map.1 hx
 exact ((h.dos y.p (List.mem_map_of_mem (List.mem_of_mem_drop hy))).range).1
theorem Dk(r:cp):r.p.body=ep (r.dos.map fun d=>d.p.wt):=by
 show ep ((r.dos.map dy.p).map dA.wt)=_
 rw[List.map_map];rfl
theorem Dl(r:cp):r.p.eO=ep (r.dos.map fun d=>d.p.act):=by
 show ep ((r.dos.map dy.p).map dA.act)=_
 rw[List.map_map];rfl
set_option maxHeartbeats 1000000 in
theorem Eo(r:cp){I:cc}{F:b8}(hr:r.Ok I F)(hs:r.p.Sound)(b:Nat)(v:Int)(h0:0≤v)(h1:v≤100000000) :
  cf P 40 #[r.v,.func (.func 41) #[] #[.pointer (some ⟨b,0,none⟩)]] I ((b,.cells #[.int .i64 v] 3 (0,0))::F) fun e I' G=>e=.returned (.tuple #[])∧G=(b,.cells #[.int .i64 (v+r.p.body)] 3 (0,0))::F:=by
 have hbd:=hs.body
 have hlen:=hs.len
 have hlen:r.dos.length≤8:=by simpa[cp.p] using hlen
 refine p9.vc
  (fun x m I0 F0 I' F'=>0≤x∧x≤r.dos.length∧m=(r.dos.length-x).toNat∧∃u,F'=(b,.cells #[.int .i64 u] 3 (0,0))::F∧0≤u∧u+ep ((r.dos.drop x.toNat).map fun d=>d.p.wt)=v+r.p.body)
  (fun x k m I0 F0 I' F'=>∃d,r.dos[x.toNat]? = some d∧0≤k∧k≤4∧m=(4-k).toNat∧∃u,F'=(b,.cells #[.int .i64 u] 3 (0,0))::F∧0≤u∧u+yY ((gN d).drop k.toNat)+ep ((r.dos.drop (x.toNat+1)).map fun d=>d.p.wt)=v+r.p.body) ?_
 unfold p9.V
 intro b_r
 refine⟨⟨_,by omega,by omega,rfl,v,rfl,h0, ?_⟩,fun x m I1 F1 l1 ⟨g0,g1,gm,u,gF,gu,gs⟩=>⟨fun hlt=>?_,fun hlt=>?_⟩⟩
 ·rw[Dk];rfl
 ·have hlt:=of_decide_eq_true hlt
  have hr1:r.Ok I1 ((kg b_r r)::F1):=hr.mono l1 fun y hy=>by rw[gF];exact .tail _ (.tail _ hy)
  obtain⟨ad,d,had,hd,hrd,hdm⟩:=dq.gj hr1.2.1 g0 hlt
  refine⟨⟨g0,hlt⟩,ad,had,_,_,_,_,_,_,_,_,_,_,_,_,_,_,_,_,_,_,_,_,_,_,_,_,_,_,_,_,_,_,_,_,_,_,_,_,_,_,_,_,_,_,_,_,hrd,fun b_d b2 I2 l2 hb2=>⟨⟨_,d,hd,by omega,by omega,rfl,u,gF,gu, ?_⟩,fun k m3 I3 F3 l3 ⟨d',hd',k0,k4,km,u',kF,ku,ks⟩=>⟨fun hk=>?_,fun hk=>?_⟩⟩⟩
  ·rw[←gs,qf dA.wt hd]
   show u+yY (gN d)+_=_
   rw[Dj,Int.add_assoc]
  ·obtain rfl:d=d':=by rw[hd] at hd';exact Option.some.inj hd'
   have hk:=of_decide_eq_true hk
   have hso:=ub (hs.dos d.p (List.mem_map_of_mem hdm))
   obtain⟨ad1,x1,had1,hx1,hrd1,hxm⟩:=dq.gj (AP (l3.at hb2) ((kg b_r r)::(ql b_d d)::F3)) k0 hk
   have hp:=hso x1 hxm
   have hpr:=hp.range
   have n1:=uc (l:=(gN d).drop (k.toNat+1)) fun y hy=>hso y (List.mem_of_mem_drop hy)
   have n2:=ud hs (x.toNat+1)
   rw[x8 hx1] at ks
   refine⟨⟨k0,hk⟩,ad1,had1,_,_,_,_,_,_,_,_,_,_,hrd1,fun b_n=>⟨fun hn=>?_,fun hn=>⟨(4-(k+1)).toNat,by omega,d,hd, ?_⟩⟩⟩
   ·have hn:x1.px.kind≠0:=by rw[Nd.cG];simpa using hn
    have hw:gT x1.px=x1.px.wt:=if_neg hn
    subst kF
    have hok:cC I3 ((kg b_r r)::(ql b_d d)::(rS b_n x1)::F) x1:=(AQ (hr.2.2 d hdm) x1 hxm).mono (cc.le_trans (cc.le_trans l1 l2) l3) fun y hy=>.tail _ (.tail _ (.tail _ hy))
    have hsz:=hp.size
    refine sN.fn AN (by simp) (((AO x1 (by omega) (hp.ok.resolve_left hn) b u' ku (by omega) I3 _ hok).perm ?_).mono fun e I4 G l4 ⟨he,hG⟩=>⟨he,(b,.cells #[.int .i64 (u'+x1.px.wt)] 3 (0,0))::F, ?_,(4-(k+1)).toNat,by omega,d,hd, ?_⟩)
    ·exact (cT fun z=>by simp only[rS,ql,kg,di,cS,dp];omega)
    ·rw[hG];exact (cT fun z=>by simp only[rS,ql,kg,di,cS,dp];omega)
    ·rw[cY (n:=k+1) (by omega)]
     refine⟨by omega,by omega,rfl,u'+x1.px.wt,rfl,by omega, ?_⟩
     rw[show (k+1).toNat=k.toNat+1 by omega,←ks,hw];omega
   ·have hn:x1.px.kind=0:=by rw[Nd.cG];simpa using hn
    have hw:gT x1.px=0:=if_pos hn
    rw[cY (n:=k+1) (by omega)]
    refine⟨by omega,by omega,rfl,u',kF,ku, ?_⟩
    rw[show (k+1).toNat=k.toNat+1 by omega,←ks,hw];omega
  ·obtain rfl:d=d':=by rw[hd] at hd';exact Option.some.inj hd'
   have hk:=of_decide_eq_false hk
   refine⟨(r.dos.length-(x+1)).toNat,by omega, ?_⟩
   rw[cY (n:=x+1) (by omega)]
   refine⟨by omega,by omega,rfl,u',kF,ku, ?_⟩
   rw[show (x+1).toNat=x.toNat+1 by omega,←ks,List.drop_eq_nil_of_le (show (gN d).length≤k.toNat by show 4≤_;omega)]
   show _=u'+0+_
   omega
 ·have hlt:=of_decide_eq_false hlt
  rw[List.drop_eq_nil_of_le (by omega)] at gs
  have gs:u+0=v+r.p.body:=gs
  refine⟨rfl, ?_⟩
  rw[gF,←gs,Int.add_zero]
theorem AR(r:cp){I:cc}{F:b8}(hr:r.Ok I F)(hlen:r.dos.length≤1048576):cf P 43 #[r.v] I F (dS (.int .i64 r.p.eO) F):=by
 refine qa.vc (fun u x m I' F'=>0≤x∧x≤r.dos.length∧m=(r.dos.length-x).toNat∧F'=F∧0≤u∧u≤x∧u+ep ((r.dos.drop x.toNat).map fun d=>d.p.act)=r.p.eO) ?_
 unfold qa.V
 intro b_r
 refine⟨⟨_,by omega,by omega,rfl,rfl,by omega,by omega, ?_⟩,fun u x m I1 F1 l1 ⟨g0,g1,gm,gF,u0,u1,gs⟩=>⟨fun hlt=>?_,fun hlt=>⟨?_,gF⟩⟩⟩
 ·rw[Dl,Int.zero_add];rfl
 ·have hlt:=of_decide_eq_true hlt
  subst gF
  obtain⟨ad,d,had,hd,hrd,hdm⟩:=dq.gj ((hr.mono l1 fun _ h=>h).cons (x:=(kg b_r r))).2.1 g0 hlt
  rw[qf dA.act hd] at gs
  have key:∀w,w=u+d.p.act→∃m2:Nat,m2<m∧(0≤IntKind.wrap .i64 (x+1)∧IntKind.wrap .i64 (x+1)≤r.dos.length∧m2=(r.dos.length-IntKind.wrap .i64 (x+1)).toNat∧F1=F1∧0≤w∧w≤IntKind.wrap .i64 (x+1) ∧
    w+ep ((r.dos.drop (IntKind.wrap .i64 (x+1)).toNat).map fun d=>d.p.act)=r.p.eO):=by
   intro w hw
   have:=d.p.qd
   rw[cY (n:=x+1) (by omega)]
   refine⟨(r.dos.length-(x+1)).toNat,by omega,by omega,by omega,rfl,rfl,by omega,by omega, ?_⟩
   rw[show (x+1).toNat=x.toNat+1 by omega,←gs];omega
  have hk:d.p.kind=d.kind:=rfl
  have hw:IntKind.wrap .i64 (u+1)=u+1:=cY (by omega)
  refine⟨⟨g0,hlt⟩,ad,had,_,_,_,_,_,_,_,_,_,_,_,_,_,_,_,_,_,_,_,_,_,_,_,_,_,_,_,_,_,_,_,_,_,_,_,_,_,_,_,_,_,_,_,_,hrd,fun b_d=>⟨fun h=>?_,fun h=>⟨fun h2=>?_,fun h2=>⟨fun h3=>?_,fun h3=>?_⟩⟩⟩⟩
  ·rw[hw];exact key _ (by unfold dA.act;rw[hk,if_pos (by simp at h;exact .inl h)])
  ·rw[hw];exact key _ (by unfold dA.act;rw[hk,if_pos (by simp at h2;exact .inr (.inl h2))])
  ·rw[hw];exact key _ (by unfold dA.act;rw[hk,if_pos (by simp at h3;exact .inr (.inr h3))])
  ·refine key _ ?_
   simp at h h2 h3
   unfold dA.act;rw[hk,if_neg (by omega),Int.add_zero]
 ·have hlt:=of_decide_eq_false hlt
  rw[List.drop_eq_nil_of_le (by omega)] at gs
  have gs:u+0=r.p.eO:=gs
  rw[←gs,Int.add_zero]
end Go.Lx
