import Derived.Test.YtmbkaikdndflbaaGreatDoorCostStrategiesB2
set_option linter.unusedVariables false
set_option linter.unusedSimpArgs false
set_option linter.unusedSectionVars false
set_option maxRecDepth 100000
namespace Go.Lx
open Go.Vc Go.Proofs.Tryz
def shT_t2:List (Nat×List Sh):=[(0,[]),(3,[.one (.int .i64)]),(4,[.one .bool]),(28,[.agg [(.int .u8),(.int .u8),(.int .u8),(.int .i64),(.int .u8),.str,.slc,(.int .i64)]]),(47,[.one (.int .i64)]),(199,[.agg [(.int .u8),(.int .u8),(.int .u8),(.int .i64),(.int .u8),.str]])]
def tree_must.V(is:Bool)(e1:Int)(I:Imm)(F:Heap)(Q:PostQ)  : Prop:=(It (!is) (Q (.panicked ([{ v:=Value.iface 155 (.agg #[.int .i64 e1]),recovered:=false }])) I F) (Q (.returned (.tuple #[])) I F))
theorem tree_must.vc{is:Bool}{e1:Int}{I:Imm}{F:Heap}{Q:PostQ}  (h:tree_must.V is e1 I F Q):Tri P 98 #[.bool is,.int .i64 e1] I F Q :=
 tw (A:=(an [1] [] shT_t2)) [] func98 h
def tree_alone.V(vb:Int→Value)(a c d e f:Int)(g:Bs)(h:OA)(i j:Nat)(k:Int)(I:Imm)(F:Heap)(Q:PostQ)  : Prop:=∀l:Nat,∀b:Nat,Q (.returned (.agg #[vb a,vb c,vb d,.int .i64 e,vb f,.string g])) I (F)
theorem tree_alone.vc{d e f g i:Int}{j:Bs}{a:OA}{b c:Nat}{k:Int}{I:Imm}{F:Heap}{Q:PostQ}  (h:tree_alone.V (.int .u8) d e f g i j a b c k I F Q):Tri P 127 #[.agg #[.int .u8 d,.int .u8 e,.int .u8 f,.int .i64 g,.int .u8 i,.string j,.slice a b c,.int .i64 k]] I F Q :=
 tw (A:=(an [] [] shT_t2)) [] func127 h
def tree_literal.V(vt:Bool→Value)(wr:Int→Int)(f g a b h:Int)(i:Bs)(c:OA)(d e:Nat)(j:Int)(I:Imm)(F:Heap)(Q:PostQ)  : Prop:=∀k:Nat,(It (a==6) (It (b==(wr (0+1))) (Q (.returned (vt true)) I F) (Q (.returned (vt (b==(wr ((wr (0+1))+1))))) I F)) (It (a==5) (It (b==0) (Q (.returned (vt true)) I F) (Q (.returned (vt (b==(wr (0+1))))) I F)) (It (a==1) (Q (.returned (vt (decide (b≥0)))) I F) (It (a==2) (Q (.returned (vt (decide (b≥0)))) I F) (It (a==3) (Q (.returned (vt (decide (b≥0)))) I F) (It (a==4) (Q (.returned (vt (decide (b≥0)))) I F) (Q (.returned (vt false)) I F)))))))
theorem tree_literal.vc{d e f g i:Int}{j:Bs}{a:OA}{b c:Nat}{k:Int}{I:Imm}{F:Heap}{Q:PostQ}  (h:tree_literal.V .bool (IntKind.wrap .i64) d e f g i j a b c k I F Q):Tri P 125 #[.agg #[.int .u8 d,.int .u8 e,.int .u8 f,.int .i64 g,.int .u8 i,.string j,.slice a b c,.int .i64 k]] I F Q :=
 tw (A:=(an [3000,4000,5000,6000,7000,8000,10003] [] shT_t2)) [] func125 h
def tree_node.V(ka:Nat→Int→Int→Int→Int→Int→Bs→Nat×Obj)(i:Nat→Nat×Obj)(nV:Int→Int→Int→Int→Int→Bs→OA→Nat→Nat→Int→Value)(nO:Int→Int→Int→Int→Int→Bs→OA→Nat→Nat→Int→Obj)(nL:Int→Int→Int→Int→Int→Bs→OA→Nat→Nat→Int→List Value)(vb vi:Int→Value)(vs:Bs→Value)(vt:Bool→Value)(h k w au n:Int)(ar:Bs)(y:OA)(l aE:Nat)(aH:Int)(I:Imm)(F:Heap)(Q:PostQ)(Inv4:Int→Bool→Int→Int→Int→Int→Int→Bs→Imm→Heap→Prop)(Inv70:Int→Nat→Imm→Heap→Prop):Prop:=∀j:Nat,∀g:Nat,((It (h==1) (Tc1 P 125 #[nV h k w au n ar y l aE aH] I ((i j)::(ka g h 0 w au 0 (⟨#[]⟩:Bs))::·) F vt fun r I1 F1=>Inv4 0 r h 0 w au 0 (⟨#[]⟩:Bs) I1 F1) (It (h==2) (Tc1 P 126 #[vs ar] I ((i j)::(ka g h 0 0 0 0 ar)::·) F vt fun r1 I2 F2=>Inv4 0 r1 h 0 0 0 0 ar I2 F2) (It (h==3) (Dt (n≥1) (Dt (n≤3) (Inv4 0 true h 0 0 0 n (⟨#[]⟩:Bs) I F) (It (h==3) (Inv4 0 (decide (n≤6)) h 0 0 0 n (⟨#[]⟩:Bs) I F) (Inv4 0 false h 0 0 0 n (⟨#[]⟩:Bs) I F))) (Inv4 0 false h 0 0 0 n (⟨#[]⟩:Bs) I F)) (It (h==4) (Dt (n≥1) (Dt (n≤3) (Inv4 0 true h 0 0 0 n (⟨#[]⟩:Bs) I F) (It (h==3) (Inv4 0 (decide (n≤6)) h 0 0 0 n (⟨#[]⟩:Bs) I F) (Inv4 0 false h 0 0 0 n (⟨#[]⟩:Bs) I F))) (Inv4 0 false h 0 0 0 n (⟨#[]⟩:Bs) I F)) (It (h==5) (It (k==1) (Inv4 1 true h k 0 0 0 (⟨#[]⟩:Bs) I F) (Inv4 1 (k==2) h k 0 0 0 (⟨#[]⟩:Bs) I F)) (It (h==6) (Dt (6≤k) (Inv4 2 (decide (k≤18)) h k 0 0 0 (⟨#[]⟩:Bs) I F) (Inv4 2 false h k 0 0 0 (⟨#[]⟩:Bs) I F)) (It (h==7) (Inv4 3 true h 0 0 0 0 (⟨#[]⟩:Bs) I F) (It (h==8) (It (k==3) (Dt (3≤k) (Inv4 1 (decide (k≤5)) h k 0 0 0 (⟨#[]⟩:Bs) I F) (Inv4 1 false h k 0 0 0 (⟨#[]⟩:Bs) I F)) (Dt (3≤k) (Inv4 2 (decide (k≤5)) h k 0 0 0 (⟨#[]⟩:Bs) I F) (Inv4 2 false h k 0 0 0 (⟨#[]⟩:Bs) I F))) (It (h==9) (Dt (1≤w) (Inv4 1 (decide (w≤4)) h 0 w 0 0 (⟨#[]⟩:Bs) I F) (Inv4 1 false h 0 w 0 0 (⟨#[]⟩:Bs) I F)) (Inv4 0 false h 0 0 0 0 (⟨#[]⟩:Bs) I F)))))))))))∧∀(aF:Int) (is:Bool) (a b c d e:Int) (f:Bs) (I3:Imm) (F3:Heap),Imm.le I I3→Inv4 aF is a b c d e f I3 F3→(It is (∃(aI aJ aK aL aM:Int) (aN:Bs),(Tri P 127 #[nV h k w au n ar y l aE aH] I3 ((i j)::(ka g a b c d e f)::F3) fun e3 I4 G3=>e3=.returned (.agg #[vb aI,vb aJ,vb aK,vi aL,vb aM,vs aN])∧List.Perm G3 ((i j)::(ka g a b c d e f)::F3))∧∃q:Bool,BinRun P .eql 199 (.tmp 113) (.tmp 115) (.agg #[vb a,vb b,vb c,vi d,vb e,vs f]) (.agg #[vb aI,vb aJ,vb aK,vi aL,vb aM,vs aN]) q∧(It q (Tri P 98 (#[vt ((l:Int)==aF),vi 120]) I3 ((i j)::(ka g a b c d e f)::F3) fun e4 I5 G4=>((e4=.returned (.tuple #[])∧∃F4:Heap,List.Perm G4 ((i j)::(ka g a b c d e f)::F4)∧(∃m:Nat,Inv70 0 m I5 F4)∧∀(x:Int) (m1:Nat) (I6:Imm) (F5:Heap),Imm.le I5 I6→Inv70 x m1 I6 F5→(Dt (x<(l:Int)) ((0≤x∧x<(l:Int))∧∃ad:Addr,y=some ad∧∃(av aw ax ay az:Int) (aA:Bs) (z:OA) (aa ab:Nat) (aB:Int),Rd I6 ((i j)::(ka g a b c d e f)::F5) (ad.add (Int.toNat x*8)) (nL av aw ax ay az aA z aa ab aB)∧∀aG:Nat,Tri P 97 #[nV av aw ax ay az aA z aa ab aB] I6 ((i j)::(ka g a b c d e f)::(aG,nO av aw ax ay az aA z aa ab aB)::F5) fun e5 I7 G5=>((e5=.returned (.tuple #[])∧∃F6:Heap,List.Perm G5 ((i j)::(ka g a b c d e f)::(aG,nO av aw ax ay az aA z aa ab aB)::F6)∧(∃m2:Nat,m2<m1∧Inv70 (IntKind.wrap .i64 (x+1)) m2 I7 F6))∨(∃ch:List PanicEntry,e5=.panicked ch∧∃F7:Heap,List.Perm G5 ((i j)::(ka g a b c d e f)::(aG,nO av aw ax ay az aA z aa ab aB)::F7)∧Q (.panicked ch) I7 F7))) (Q (.returned (.tuple #[])) I6 F5)))∨(∃aO:List PanicEntry,e4=.panicked aO∧∃F8:Heap,List.Perm G4 ((i j)::(ka g a b c d e f)::F8)∧Q (.panicked aO) I5 F8))) (Tri P 98 #[vt false,vi 120] I3 ((i j)::(ka g a b c d e f)::F3) fun e6 I8 G6=>((e6=.returned (.tuple #[])∧∃F9:Heap,List.Perm G6 ((i j)::(ka g a b c d e f)::F9)∧(∃m3:Nat,Inv70 0 m3 I8 F9)∧∀(x1:Int) (m4:Nat) (I9:Imm) (F10:Heap),Imm.le I8 I9→Inv70 x1 m4 I9 F10→(Dt (x1<(l:Int)) ((0≤x1∧x1<(l:Int))∧∃aP:Addr,y=some aP∧∃(ac ae af ag ah:Int) (ai:Bs) (o:OA) (p s:Nat) (aj:Int),Rd I9 ((i j)::(ka g a b c d e f)::F10) (aP.add (Int.toNat x1*8)) (nL ac ae af ag ah ai o p s aj)∧∀aC:Nat,Tri P 97 #[nV ac ae af ag ah ai o p s aj] I9 ((i j)::(ka g a b c d e f)::(aC,nO ac ae af ag ah ai o p s aj)::F10) fun e7 I10 G7=>((e7=.returned (.tuple #[])∧∃F11:Heap,List.Perm G7 ((i j)::(ka g a b c d e f)::(aC,nO ac ae af ag ah ai o p s aj)::F11)∧(∃m5:Nat,m5<m4∧Inv70 (IntKind.wrap .i64 (x1+1)) m5 I10 F11))∨(∃aQ:List PanicEntry,e7=.panicked aQ∧∃F12:Heap,List.Perm G7 ((i j)::(ka g a b c d e f)::(aC,nO ac ae af ag ah ai o p s aj)::F12)∧Q (.panicked aQ) I10 F12))) (Q (.returned (.tuple #[])) I9 F10)))∨(∃aR:List PanicEntry,e6=.panicked aR∧∃F13:Heap,List.Perm G6 ((i j)::(ka g a b c d e f)::F13)∧Q (.panicked aR) I8 F13))))) (Tri P 98 #[vt false,vi 120] I3 ((i j)::(ka g a b c d e f)::F3) fun e8 I11 G8=>((e8=.returned (.tuple #[])∧∃F14:Heap,List.Perm G8 ((i j)::(ka g a b c d e f)::F14)∧(∃m6:Nat,Inv70 0 m6 I11 F14)∧∀(x2:Int) (m7:Nat) (I12:Imm) (F15:Heap),Imm.le I11 I12→Inv70 x2 m7 I12 F15→(Dt (x2<(l:Int)) ((0≤x2∧x2<(l:Int))∧∃aS:Addr,y=some aS∧∃(ak al am an ao:Int) (ap:Bs) (t:OA) (u v:Nat) (aq:Int),Rd I12 ((i j)::(ka g a b c d e f)::F15) (aS.add (Int.toNat x2*8)) (nL ak al am an ao ap t u v aq)∧∀aD:Nat,Tri P 97 #[nV ak al am an ao ap t u v aq] I12 ((i j)::(ka g a b c d e f)::(aD,nO ak al am an ao ap t u v aq)::F15) fun e9 I13 G9=>((e9=.returned (.tuple #[])∧∃F16:Heap,List.Perm G9 ((i j)::(ka g a b c d e f)::(aD,nO ak al am an ao ap t u v aq)::F16)∧(∃m8:Nat,m8<m7∧Inv70 (IntKind.wrap .i64 (x2+1)) m8 I13 F16))∨(∃aT:List PanicEntry,e9=.panicked aT∧∃F17:Heap,List.Perm G9 ((i j)::(ka g a b c d e f)::(aD,nO ak al am an ao ap t u v aq)::F17)∧Q (.panicked aT) I13 F17))) (Q (.returned (.tuple #[])) I12 F15)))∨(∃aU:List PanicEntry,e8=.panicked aU∧∃F18:Heap,List.Perm G8 ((i j)::(ka g a b c d e f)::F18)∧Q (.panicked aU) I11 F18))))
theorem tree_node.vc{p r u v w:Int}{x:Bs}{g:OA}{i j:Nat}{y:Int}{I:Imm}{F:Heap}{Q:PostQ}(Inv4:Int→Bool→Int→Int→Int→Int→Int→Bs→Imm→Heap→Prop)(Inv70:Int→Nat→Imm→Heap→Prop)(h:tree_node.V (fun W a b c d e f=>(W,Obj.cells #[.int .u8 a,.int .u8 b,.int .u8 c,.int .i64 d,.int .u8 e,.string f] 199 (0,0))) (fun b=>(b,Obj.cells #[.int .u8 p,.int .u8 r,.int .u8 u,.int .i64 v,.int .u8 w,.string x,.slice g i j,.int .i64 y] 28 (0,0))) (fun k o t n f s a l c q=>.agg #[.int .u8 k,.int .u8 o,.int .u8 t,.int .i64 n,.int .u8 f,.string s,.slice a l c,.int .i64 q]) (fun k o t n f s a l c q=>.cells #[.int .u8 k,.int .u8 o,.int .u8 t,.int .i64 n,.int .u8 f,.string s,.slice a l c,.int .i64 q] 28 (0,0)) (fun k o t n f s a l c q=>[.int .u8 k,.int .u8 o,.int .u8 t,.int .i64 n,.int .u8 f,.string s,.slice a l c,.int .i64 q]) (.int .u8) (.int .i64) .string .bool p r u v w x g i j y I F Q Inv4 Inv70):Tri P 97 #[.agg #[.int .u8 p,.int .u8 r,.int .u8 u,.int .i64 v,.int .u8 w,.string x,.slice g i j,.int .i64 y]] I F Q :=
 tw (A:=(annL [4000,7000,10000,11000,13002,13006,13010,14000,16002,17000,19002,20000,22000,24002,26002,27000,29002,30000,30005,32000] [97,98] [97,98,125,126,127] shT_t2 [(4,⟨[(3,(.int .i64)),(4,.bool)],[(1,[(.int .u8),(.int .u8),(.int .u8),(.int .i64),(.int .u8),.str])],fun _ _ _ vs m I F=>match vs with | [.int _ y0,.bool y1,.int _ y2,.int _ y3,.int _ y4,.int _ y5,.int _ y6,.string y7]=>Inv4 y0 y1 y2 y3 y4 y5 y6 y7 I F | _=>False,[],[]⟩),(70,⟨[(129,(.int .i64))],[],fun _ _ _ vs m I F=>match vs with | [.int _ y0]=>Inv70 y0 m I F | _=>False,[],[]⟩)] [] [] [(5,5,[1])] [] [] [(5,6),(30,14)])) [97,98,125,126,127] func97 h
def tree_expr.V(a:Nat→Nat×Obj)(nV:Int→Int→Int→Int→Int→Bs→OA→Nat→Nat→Int→Value)(f g h i j:Int)(k:Bs)(c:OA)(d e:Nat)(l:Int)(I:Imm)(F:Heap)(Q:PostQ)  : Prop:=∀b:Nat,Tri P 97 #[nV f g h i j k c d e l] I ((a b)::F) fun e1 I1 G1=>((e1=.returned (.tuple #[])∧∃F1:Heap,List.Perm G1 ((a b)::F1)∧Tc1 P 99 #[nV f g h i j k c d e l] I1 ((a b)::·) F1 (.int .i64) fun r I2 F2=>Tri P 98 (#[.bool (decide (r≤24)),.int .i64 122]) I2 ((a b)::F2) fun e3 I3 G3=>((e3=.returned (.tuple #[])∧∃F3:Heap,List.Perm G3 ((a b)::F3)∧Q (.returned (.tuple #[])) I3 F3)∨(∃ch:List PanicEntry,e3=.panicked ch∧∃F4:Heap,List.Perm G3 ((a b)::F4)∧Q (.panicked ch) I3 F4)))∨(∃m:List PanicEntry,e1=.panicked m∧∃F5:Heap,List.Perm G1 ((a b)::F5)∧Q (.panicked m) I1 F5))
theorem tree_expr.vc{i j m p r:Int}{u:Bs}{d:OA}{e g:Nat}{v:Int}{I:Imm}{F:Heap}{Q:PostQ}  (h:tree_expr.V (fun b=>(b,Obj.cells #[.int .u8 i,.int .u8 j,.int .u8 m,.int .i64 p,.int .u8 r,.string u,.slice d e g,.int .i64 v] 28 (0,0))) (fun k o t n f s a l c q=>.agg #[.int .u8 k,.int .u8 o,.int .u8 t,.int .i64 n,.int .u8 f,.string s,.slice a l c,.int .i64 q]) i j m p r u d e g v I F Q):Tri P 59 #[.agg #[.int .u8 i,.int .u8 j,.int .u8 m,.int .i64 p,.int .u8 r,.string u,.slice d e g,.int .i64 v]] I F Q :=
 tw (A:=(annL [] [97,98] [97,98,99] shT_t2 [] [] [] [] [] [] [])) [97,98,99] func59 h
def tree_CheckExpr.V(nO:Int→Int→Int→Int→Int→Bs→OA→Nat→Nat→Int→Obj)(o p q s t:Int)(u:Bs)(e:OA)(f g:Nat)(v:Int)(I:Imm)(F:Heap)(Q:PostQ)  : Prop:=∀d:Nat,Tri P 57 (#[.func (.func 58) #[] #[.pointer (some ⟨d,0,none⟩)]]) I ((d,nO o p q s t u e f g v)::F) fun e1 I1 G1=>∃(r:Int),e1=.returned (.int .i64 r)∧∃(h i j k l:Int) (m:Bs) (a:OA) (b c:Nat) (n:Int),∃F1:Heap,List.Perm G1 ((d,nO h i j k l m a b c n)::F1)∧Q (.returned (.int .i64 r)) I1 (F1)
theorem tree_CheckExpr.vc{g i j m p:Int}{r:Bs}{b:OA}{d e:Nat}{u:Int}{I:Imm}{F:Heap}{Q:PostQ}  (h:tree_CheckExpr.V (fun k o t n f s a l c q=>.cells #[.int .u8 k,.int .u8 o,.int .u8 t,.int .i64 n,.int .u8 f,.string s,.slice a l c,.int .i64 q] 28 (0,0)) g i j m p r b d e u I F Q):Tri P 31 #[.agg #[.int .u8 g,.int .u8 i,.int .u8 j,.int .i64 m,.int .u8 p,.string r,.slice b d e,.int .i64 u]] I F Q :=
 tw (A:=(an [] [57] shT_t2)) [57] func31 h
def tree_CheckExpr_1.V(vb vi:Int→Value)(c:Addr)(I:Imm)(F:Heap)(Q:PostQ)  : Prop:=∃(e f g h i:Int) (j:Bs) (a:OA) (b d:Nat) (k:Int),Rd I F c [vb e,vb f,vb g,vi h,vb i,.string j,.slice a b d,vi k]∧Tri P 59 #[.agg #[vb e,vb f,vb g,vi h,vb i,.string j,.slice a b d,vi k]] I F fun e1 I1 G1=>((e1=.returned (.tuple #[])∧∃F1:Heap,List.Perm G1 F1∧Q (.returned (.tuple #[])) I1 F1)∨(∃ch:List PanicEntry,e1=.panicked ch∧∃F2:Heap,List.Perm G1 F2∧Q (.panicked ch) I1 F2))
theorem tree_CheckExpr_1.vc{c:Addr}{I:Imm}{F:Heap}{Q:PostQ}  (h:tree_CheckExpr_1.V (.int .u8) (.int .i64) c I F Q):Tri P 58 #[.pointer (some c)] I F Q :=
 tw (A:=(annL [] [59] [59] shT_t2 [] [] [] [] [] [] [])) [59] func58 h
def tree_level.V(vi:Int→Value)(b a f g h:Int)(i:Bs)(c:OA)(d e:Nat)(j:Int)(I:Imm)(F:Heap)(Q:PostQ)  : Prop:=∀k:Nat,(It (b==7) (Q (.returned (vi 1)) I F) (It (b==5) (Q (.returned (vi 7)) I F) (It (b==6) (It (a==18) (Q (.returned (vi 2)) I F) (It (a==17) (Q (.returned (vi 3)) I F) (Dt (a≥11) (Q (.returned (vi 4)) I F) (Dt (a≥8) (Q (.returned (vi 6)) I F) (Q (.returned (vi 5)) I F))))) (Q (.returned (vi 8)) I F))))
theorem tree_level.vc{d e f g i:Int}{j:Bs}{a:OA}{b c:Nat}{k:Int}{I:Imm}{F:Heap}{Q:PostQ}  (h:tree_level.V (.int .i64) d e f g i j a b c k I F Q):Tri P 128 #[.agg #[.int .u8 d,.int .u8 e,.int .u8 f,.int .i64 g,.int .u8 i,.string j,.slice a b c,.int .i64 k]] I F Q :=
 tw (A:=(an [2000,4000,6000,8001,10001,12001,14001] [] shT_t2)) [] func128 h
def tree_place.V(nO:Int→Int→Int→Int→Int→Bs→OA→Nat→Nat→Int→Obj)(vb vi:Int→Value)(e f g h i:Int)(j:Bs)(a:OA)(b c:Nat)(k d:Int)(I:Imm)(F:Heap)(Q:PostQ)  : Prop:=∀l:Nat,Tc1 P 128 #[.agg #[vb e,vb f,vb g,vi h,vb i,.string j,.slice a b c,vi k]] I ((l,nO e f g h i j a b c k)::·) F vi fun r I1 F1=>(It (r==1) (It (d==0) (Q (.returned (vi 2)) I1 F1) (It (r==4) (Q (.returned (vi 5)) I1 F1) (It (r==7) (Q (.returned (vi 7)) I1 F1) (It (r==1) (Q (.returned (vi 1)) I1 F1) (It (r==8) (Q (.returned (vi 1)) I1 F1) (Q (.returned (vi (IntKind.wrap .i64 (r+d)))) I1 F1)))))) (It (r==4) (Q (.returned (vi 5)) I1 F1) (It (r==7) (Q (.returned (vi 7)) I1 F1) (It (r==1) (Q (.returned (vi 1)) I1 F1) (It (r==8) (Q (.returned (vi 1)) I1 F1) (Q (.returned (vi (IntKind.wrap .i64 (r+d)))) I1 F1))))))
theorem tree_place.vc{g i j m p:Int}{r:Bs}{b:OA}{d e:Nat}{u v:Int}{I:Imm}{F:Heap}{Q:PostQ}  (h:tree_place.V (fun k o t n f s a l c q=>.cells #[.int .u8 k,.int .u8 o,.int .u8 t,.int .i64 n,.int .u8 f,.string s,.slice a l c,.int .i64 q] 28 (0,0)) (.int .u8) (.int .i64) g i j m p r b d e u v I F Q):Tri P 129 #[.agg #[.int .u8 g,.int .u8 i,.int .u8 j,.int .i64 m,.int .u8 p,.string r,.slice b d e,.int .i64 u],.int .i64 v] I F Q :=
 tw (A:=(an [3001,3004,5001,7001,9001,9004] [128] shT_t2)) [128] func129 h
def tree_depth.V(o:Nat→Nat×Obj)(nV:Int→Int→Int→Int→Int→Bs→OA→Nat→Nat→Int→Value)(nO:Int→Int→Int→Int→Int→Bs→OA→Nat→Nat→Int→Obj)(vb vi:Int→Value)(wr:Int→Int)(e u v w y:Int)(z:Bs)(s:OA)(n t:Nat)(aa:Int)(I:Imm)(F:Heap)(Q:PostQ)(Inv8:Int→Int→Nat→Imm→Heap→Prop):Prop:=∀p:Nat,(∃m:Nat,Inv8 0 0 m I F)∧∀(a x:Int) (m1:Nat) (I1:Imm) (F1:Heap),Imm.le I I1→Inv8 a x m1 I1 F1→(Dt (x<(n:Int)) ((0≤x∧x<(n:Int))∧∃ad:Addr,s=some ad∧∃(f g h i j:Int) (k:Bs) (b:OA) (c d:Nat) (l:Int),Rd I1 ((o p)::F1) (ad.add (Int.toNat x*8)) [vb f,vb g,vb h,vi i,vb j,.string k,.slice b c d,vi l]∧∀q:Nat,Tc1 P 99 #[nV f g h i j k b c d l] I1 ((o p)::(q,nO f g h i j k b c d l)::·) F1 vi fun r I2 F2=>∃(r1:Int),(Tri P 128 #[nV f g h i j k b c d l] I2 ((o p)::(q,nO f g h i j k b c d l)::F2) fun e2 I3 G2=>e2=.returned (vi r1)∧List.Perm G2 ((o p)::(q,nO f g h i j k b c d l)::F2))∧∃(r2:Int),(Tri P 129 #[nV e u v w y z s n t aa,vi x] I2 ((o p)::(q,nO f g h i j k b c d l)::F2) fun e3 I4 G3=>e3=.returned (vi r2)∧List.Perm G3 ((o p)::(q,nO f g h i j k b c d l)::F2))∧(Dt (r1<r2) (It (e==6) (∃m2:Nat,m2<m1∧Inv8 (if (wr (r+1))>a then wr (r+1) else a) (wr (x+1)) m2 I2 F2) (It (e==7) (∃m3:Nat,m3<m1∧Inv8 (if (wr ((wr (r+1))+(if 1<x then 1 else x)))>a then wr ((wr (r+1))+(if 1<x then 1 else x)) else a) (wr (x+1)) m3 I2 F2) (∃m4:Nat,m4<m1∧Inv8 (if (wr ((wr (r+1))+1))>a then wr ((wr (r+1))+1) else a) (wr (x+1)) m4 I2 F2))) (It (e==6) (∃m5:Nat,m5<m1∧Inv8 (if r>a then r else a) (wr (x+1)) m5 I2 F2) (It (e==7) (∃m6:Nat,m6<m1∧Inv8 (if (wr (r+(if 1<x then 1 else x)))>a then wr (r+(if 1<x then 1 else x)) else a) (wr (x+1)) m6 I2 F2) (∃m7:Nat,m7<m1∧Inv8 (if (wr (r+1))>a then wr (r+1) else a) (wr (x+1)) m7 I2 F2))))) (Q (.returned (vi a)) I1 F1))
theorem tree_depth.vc{i j p r u:Int}{v:Bs}{d:OA}{e g:Nat}{w:Int}{I:Imm}{F:Heap}{Q:PostQ}(Inv8:Int→Int→Nat→Imm→Heap→Prop)(h:tree_depth.V (fun b=>(b,Obj.cells #[.int .u8 i,.int .u8 j,.int .u8 p,.int .i64 r,.int .u8 u,.string v,.slice d e g,.int .i64 w] 28 (0,0))) (fun k o t n f s a l c q=>.agg #[.int .u8 k,.int .u8 o,.int .u8 t,.int .i64 n,.int .u8 f,.string s,.slice a l c,.int .i64 q]) (fun k o t n f s a l c q=>.cells #[.int .u8 k,.int .u8 o,.int .u8 t,.int .i64 n,.int .u8 f,.string s,.slice a l c,.int .i64 q] 28 (0,0)) (.int .u8) (.int .i64) (IntKind.wrap .i64) i j p r u v d e g w I F Q Inv8):Tri P 99 #[.agg #[.int .u8 i,.int .u8 j,.int .u8 p,.int .i64 r,.int .u8 u,.string v,.slice d e g,.int .i64 w]] I F Q :=
 tw (A:=(annL [3000,6005,10000,11000] [] [99,128,129] shT_t2 [(8,⟨[(3,(.int .i64)),(10,(.int .i64))],[],fun _ _ _ vs m I F=>match vs with | [.int _ y0,.int _ y1]=>Inv8 y0 y1 m I F | _=>False,[],[]⟩)] [] [] [] [] [] [])) [99,128,129] func99 h
def tree_caught.V(b:Nat→Nat×Obj)(vi:Int→Value)(i:Fn)(e f:Array Value)(I:Imm)(F:Heap)(Q:PostQ)  : Prop:=∀a:Nat,TriV P (.func i e f) [] I ((b a)::F) fun e1 I1 G1=>((e1=.returned (.tuple #[])∧∃F1:Heap,List.Perm G1 ((b a)::F1)∧TriD P 96 [.pointer (some ⟨a,0,none⟩)] .returning I1 ((b a)::F1) fun e2 u I2 G2=>∃v:Value,e2=.returned v∧∃(d:Int),∃F2:Heap,List.Perm G2 ((a,Obj.cells #[vi d] 47 (0,0))::F2)∧((settle u=.returning∧Q (.returned (vi d)) I2 F2)∨(∃ch:List PanicEntry,settle u=.panicking ch∧Q (.panicked ch) I2 F2)))∨(∃g:List PanicEntry,e1=.panicked g∧∃F3:Heap,List.Perm G1 ((b a)::F3)∧TriD P 96 [.pointer (some ⟨a,0,none⟩)] (.panicking g) I1 ((b a)::F3) fun e3 u1 I3 G3=>∃v1:Value,e3=.returned v1∧∃(c:Int),∃F4:Heap,List.Perm G3 ((a,Obj.cells #[vi c] 47 (0,0))::F4)∧((settle u1=.returning∧Q (.returned (vi c)) I3 F4)∨(∃h:List PanicEntry,settle u1=.panicking h∧Q (.panicked h) I3 F4))))
theorem tree_caught.vc{d:Fn}{a c:Array Value}{I:Imm}{F:Heap}{Q:PostQ}  (h:tree_caught.V (fun b=>(b,Obj.cells #[.int .i64 0] 47 (0,0))) (.int .i64) d a c I F Q):Tri P 57 #[.func d a c] I F Q :=
 tw (A:=(annL [] [0] [96] shT_t2 [] [] [] [] [2001] [] [])) [96] func57 h
end Go.Lx
namespace Go.Lx
open Go.Vc
def wrongP(e:Int):List PanicEntry:=[{ v:=.iface 155 (.agg #[.int .i64 e]),recovered:=false }]
def Look(b:Bool)(err:Int)(F:Heap)(e:Ending)(I:Imm)(G:Heap):Prop:=e=(if b then .returned (.tuple #[]) else .panicked (wrongP err))∧G=F
theorem must_spec(b:Bool)(err:Int)(I:Imm)(F:Heap):Tri P 98 #[.bool b,.int .i64 err] I F (Look b err F):=by
 refine tree_must.vc ?_
 unfold tree_must.V
 refine⟨fun h=>⟨?_,rfl⟩,fun h=>⟨?_,rfl⟩⟩
 ·rw[if_neg (by simpa using h)];rfl
 ·rw[if_pos (by simpa using h)]
theorem alone_spec(t:Nd)(I:Imm)(F:Heap):Tri P 127 #[t.v] I F (Ret (.agg #[.int .u8 t.kind,.int .u8 t.oper,.int .u8 t.typ,.int .i64 t.n,.int .u8 t.field,.string t.name]) F):=by
 refine tree_alone.vc ?_
 unfold tree_alone.V
 exact fun b_n b=>⟨rfl,rfl⟩
theorem tliteral_spec(t:Nd)(I:Imm)(F:Heap):Tri P 125 #[t.v] I F (Ret (.bool t.px.litB) F):=by
 refine tree_literal.vc ?_
 unfold tree_literal.V
 intro b_n
 unfold Px.litB
 rw[Nd.px_typ,Nd.px_n]
 have w1:IntKind.wrap .i64 (0+1)=1:=by decide
 have w2:IntKind.wrap .i64 (1+1)=2:=by decide
 rw[w1,w2]
 refine⟨fun h=>⟨fun h'=>⟨?_,rfl⟩,fun h'=>⟨?_,rfl⟩⟩,fun h1=>⟨fun h=>⟨fun h'=>⟨?_,rfl⟩,fun h'=>⟨?_,rfl⟩⟩,fun h2=>⟨fun h=>⟨?_,rfl⟩,fun h3=>⟨fun h=>⟨?_,rfl⟩,fun h4=>⟨fun h=>⟨?_,rfl⟩,fun h5=>⟨fun h=>⟨?_,rfl⟩,fun h6=>⟨?_,rfl⟩⟩⟩⟩⟩⟩⟩
 ·have h:t.typ=6:=by simpa using h
  have h':t.n=1:=by simpa using h'
  simp[h,h']
 ·have h:t.typ=6:=by simpa using h
  have h':t.n≠1:=by simpa using h'
  congr 2;rw[if_pos h,Bool.eq_iff_iff];simp[h']
 ·have h:t.typ=5:=by simpa using h
  have h':t.n=0:=by simpa using h'
  simp[h,h']
 ·have h:t.typ=5:=by simpa using h
  have h':t.n≠0:=by simpa using h'
  congr 2;rw[if_neg (by omega),if_pos h,Bool.eq_iff_iff];simp[h']
 ·have h:t.typ=1:=by simpa using h
  simp[h]
 ·have h:t.typ=2:=by simpa using h
  simp[h]
 ·have h:t.typ=3:=by simpa using h
  simp[h]
 ·have h:t.typ=4:=by simpa using h
  simp[h]
 ·have e6:t.typ≠6:=by simpa using h1
  have e5:t.typ≠5:=by simpa using h2
  have e1:t.typ≠1:=by simpa using h3
  have e2:t.typ≠2:=by simpa using h4
  have e3:t.typ≠3:=by simpa using h5
  have e4:t.typ≠4:=by simpa using h6
  rw[if_neg e6,if_neg e5,if_neg (by omega)]
theorem tlevel_spec(t:Nd)(I:Imm)(F:Heap):Tri P 128 #[t.v] I F (Ret (.int .i64 t.px.level) F):=by
 refine tree_level.vc ?_
 unfold tree_level.V
 intro b_n
 unfold Px.level
 rw[Nd.px_kind,Nd.px_oper]
 refine⟨fun h=>⟨?_,rfl⟩,fun h1=>⟨fun h=>⟨?_,rfl⟩,fun h2=>⟨fun h=>⟨fun h'=>⟨?_,rfl⟩,fun h3=>⟨fun h'=>⟨?_,rfl⟩,fun h4=>⟨fun h'=>⟨?_,rfl⟩,fun h5=>⟨fun h'=>⟨?_,rfl⟩,fun h6=>⟨?_,rfl⟩⟩⟩⟩⟩,fun h=>⟨?_,rfl⟩⟩⟩⟩
 all_goals (try simp only[decide_eq_true_eq,decide_eq_false_iff_not,beq_iff_eq,beq_eq_false_iff_ne] at *)
 all_goals (congr 2;(repeat' split)<;>first | rfl | omega)
theorem bare_under:P.underlying 199=some (.struct (P.fieldsOf 199)):=by kernel_rfl
theorem bare_stood:P.stoodInHeld 199=false:=by kernel_rfl
theorem bare_guard:P.eqGuardType P.depth 199=false:=by kernel_rfl
def bEq(k o ty n f:Int)(s:ByteArray)(k' o' ty' n' f':Int)(s':ByteArray):Bool:=k==k'&&(o==o'&&(ty==ty'&&(n==n'&&(f==f'&&(s.toList==s'.toList&&true)))))
theorem bare_flat(k o ty n f:Int)(s:ByteArray)(k' o' ty' n' f':Int)(s':ByteArray) :
  flatEq P #[.int .u8 k,.int .u8 o,.int .u8 ty,.int .i64 n,.int .u8 f,.string s] #[.int .u8 k',.int .u8 o',.int .u8 ty',.int .i64 n',.int .u8 f',.string s'] (P.fieldsOf 199).toList=some (bEq k o ty n f s k' o' ty' n' f' s'):=by kernel_rfl
theorem bare_eql(k o ty n f:Int)(s:ByteArray)(k' o' ty' n' f':Int)(s':ByteArray){x y:Operand} :
  BinRun P .eql 199 x y (.agg #[.int .u8 k,.int .u8 o,.int .u8 ty,.int .i64 n,.int .u8 f,.string s]) (.agg #[.int .u8 k',.int .u8 o',.int .u8 ty',.int .i64 n',.int .u8 f',.string s']) (bEq k o ty n f s k' o' ty' n' f' s') :=
 struct_eql bare_under bare_stood bare_guard (bare_flat ..)
end Go.Lx
namespace Go.Lx
open Go.Vc
theorem Look.use{Pr:Program}{f:FuncId}{args:Array Value}{I:Imm}{F:Heap}{b:Bool}{err:Int}{Q:Ending→Imm→Heap→Prop}(h:Tri Pr f args I F (Look b err F))
  (k1:b=true→∀I',Imm.le I I'→Q (.returned (.tuple #[])) I' F) (k2:b=false→∀I',Imm.le I I'→Q (.panicked (wrongP err)) I' F):Tri Pr f args I F Q :=
 h.mono fun e I' G hl ⟨he,hG⟩=>by
  subst hG
  cases hb:b with
  | true=>rw[hb] at he;subst he;exact k1 hb I' hl
  | false=>rw[hb] at he;subst he;exact k2 hb I' hl
def wantB(t:Nd)(kids:Int)(is:Bool)(k o ty n f:Int)(s:ByteArray):Bool:=is&&(bEq k o ty n f s t.kind t.oper t.typ t.n t.field t.name&&decide (t.kids.length=kids.toNat))
theorem node_specB:∀(t:Nd),t.px.size≤4194304→∀(I:Imm) (F:Heap),NdOk I F t→Tri P 97 #[t.v] I F (Look t.px.formed 120 F):=by
 refine Nd.ind fun t ih hs I F ht=>?_
 have hln:=size_len hs
 refine tree_node.vc (fun kids is k o ty n f s I' F'=>wantB t kids is k o ty n f s=t.px.oneB∧0≤kids∧F'=F)
  (fun i m I' F'=>0≤i∧i≤t.kids.length∧m=(t.kids.length-i).toNat∧t.px.formed=Px.formedL ((t.kids.drop i.toNat).map Nd.px)∧F'=F) ?_
 unfold tree_node.V
 intro b_n b_want
 refine⟨?_,fun kids is k o ty n f s I3 F3 hI3 ⟨hw,hk0,hF⟩=>?_⟩
 ·unfold wantB bEq Px.oneB Px.fitB Px.zeroB Px.arity
  simp only[Nd.px_kind,Nd.px_oper,Nd.px_typ,Nd.px_n,Nd.px_field,Nd.px_name,Nd.px_len]
  have zb:∀x:Int,(0==x)=(x==0):=fun x=>by rw[Bool.eq_iff_iff];simp only[beq_iff_eq];omega
  have sb:∀s:ByteArray,((⟨#[]⟩:ByteArray).toList==s.toList)=(s.toList==[]):=fun s=>by rw[empty_list,Bool.eq_iff_iff];simp only[beq_iff_eq];exact eq_comm
  refine⟨fun h=>Tri.ret (tliteral_spec t I _) fun I1 hI1=>⟨_,rfl,F,.refl _, ?_,Int.le_refl 0,rfl⟩,fun h1=>⟨fun h=>Tri.ret (Name_spec (t:=t.name) I _) fun I1 hI1=>⟨_,rfl,F,.refl _, ?_,Int.le_refl 0,rfl⟩,
   fun h2=>⟨fun h=>⟨fun h'=>⟨fun h''=>⟨?_,by decide,by trivial⟩,fun h''=>⟨fun h3'=>⟨?_,by decide,by trivial⟩,fun h3'=>⟨?_,by decide,by trivial⟩⟩⟩,fun h'=>⟨?_,by decide,by trivial⟩⟩,
   fun h3=>⟨fun h=>⟨fun h'=>⟨fun h''=>⟨?_,by decide,by trivial⟩,fun h''=>⟨fun h3'=>⟨?_,by decide,by trivial⟩,fun h3'=>⟨?_,by decide,by trivial⟩⟩⟩,fun h'=>⟨?_,by decide,by trivial⟩⟩,
   fun h4=>⟨fun h=>⟨fun h'=>⟨?_,by decide,by trivial⟩,fun h'=>⟨?_,by decide,by trivial⟩⟩,
   fun h5=>⟨fun h=>⟨fun h'=>⟨?_,by decide,by trivial⟩,fun h'=>⟨?_,by decide,by trivial⟩⟩,
   fun h6=>⟨fun h=>⟨?_,by decide,by trivial⟩,
   fun h7=>⟨fun h=>⟨fun h'=>⟨fun h''=>⟨?_,by decide,by trivial⟩,fun h''=>⟨?_,by decide,by trivial⟩⟩,fun h'=>⟨fun h''=>⟨?_,by decide,by trivial⟩,fun h''=>⟨?_,by decide,by trivial⟩⟩⟩,
   fun h8=>⟨fun h=>⟨fun h'=>⟨?_,by decide,by trivial⟩,fun h'=>⟨?_,by decide,by trivial⟩⟩,
   fun h9=>⟨?_,by decide,by trivial⟩⟩⟩⟩⟩⟩⟩⟩⟩⟩
  all_goals first
   | (simp only[beq_iff_eq] at h
      try simp only[decide_eq_true_eq,decide_eq_false_iff_not,beq_iff_eq,beq_eq_false_iff_ne] at h'
      try simp only[decide_eq_true_eq,decide_eq_false_iff_not,beq_iff_eq,beq_eq_false_iff_ne] at h''
      try simp only[decide_eq_true_eq,decide_eq_false_iff_not,beq_iff_eq,beq_eq_false_iff_ne] at h3'
      simp[*,Bool.and_assoc]
      done)
   | (exfalso
      simp only[decide_eq_true_eq,decide_eq_false_iff_not,beq_iff_eq,beq_eq_false_iff_ne] at *
      omega)
   | skip
  ·have h:t.kind=3:=by simpa using h
   have h':=of_decide_eq_true h'
   have h'':=of_decide_eq_true h''
   have:decide (1≤t.field∧t.field≤6)=true:=decide_eq_true (by omega)
   simp[h,this,zb,sb,Bool.and_assoc]
  ·have h:t.kind=5:=by simpa using h
   have h':t.oper≠1:=by simpa using h'
   have:decide (t.oper=1∨t.oper=2)=(t.oper==2):=by rw[Bool.eq_iff_iff];simp[h']
   simp[h,this,zb,sb,Bool.and_assoc]
  ·have e1:t.kind≠1:=by simpa using h1
   have e2:t.kind≠2:=by simpa using h2
   have e3:t.kind≠3:=by simpa using h3
   have e4:t.kind≠4:=by simpa using h4
   have e5:t.kind≠5:=by simpa using h5
   have e6:t.kind≠6:=by simpa using h6
   have e7:t.kind≠7:=by simpa using h7
   have e8:t.kind≠8:=by simpa using h8
   have e9:t.kind≠9:=by simpa using h9
   simp[e1,e2,e3,e4,e5,e6,e7,e8,e9]
 ·subst hF
  refine⟨fun his=>⟨_,_,_,_,_,_,(alone_spec t I3 _).perm',_,bare_eql k o ty n f s t.kind t.oper t.typ t.n t.field t.name,fun hq=>Look.use (must_spec _ 120 I3 _) (fun hb I5 hI5=>.inl ⟨rfl,F3,.refl _, ?_⟩) (fun hb I5 hI5=>.inr ⟨_,rfl,F3,.refl _, ?_,rfl⟩),
   fun hq=>Look.use (must_spec _ 120 I3 _) (fun hb I5 hI5=>by cases hb) (fun hb I5 hI5=>.inr ⟨_,rfl,F3,.refl _, ?_,rfl⟩)⟩,
   fun his=>Look.use (must_spec _ 120 I3 _) (fun hb I5 hI5=>by cases hb) (fun hb I5 hI5=>.inr ⟨_,rfl,F3,.refl _, ?_,rfl⟩)⟩
  ·have hone:t.px.oneB=true:=by
    rw[←hw,wantB,his,hq,Bool.true_and,Bool.true_and,decide_eq_true_iff]
    have:(t.kids.length:Int)=kids:=by simpa using hb
    omega
   refine⟨⟨_,by omega,by omega,rfl,by rw[Px.formed_eq,hone,Nd.px_kids];rfl,rfl⟩,fun x m I6 F5 hI6 ⟨g0,g1,gm,gf,gF⟩=>⟨fun hlt=>?_,fun hlt=>⟨?_,gF⟩⟩⟩
   ·have hlt:=of_decide_eq_true hlt
    subst gF
    have ht1:NdOk I6 ((b_n,.cells t.enc.toArray 28 (0,0))::(b_want,.cells #[.int .u8 k,.int .u8 o,.int .u8 ty,.int .i64 n,.int .u8 f,.string s] 199 (0,0))::F5) t:=(ht.mono (Imm.le_trans hI3 (Imm.le_trans hI5 hI6)) fun _ h=>h).cons.cons
    obtain⟨ad,y,had,hy,hrd,hyo,hym⟩:=ht1.kids.at g0 hlt
    refine⟨⟨g0,hlt⟩,ad,had,_,_,_,_,_,_,_,_,_,_,hrd,fun b_k=>Look.use (ih y hym (size_kid hym hs) I6 _ (hyo.mono (Imm.le_refl _) fun z hz=>by
      rcases List.mem_cons.1 hz with hz | hz
      ·exact hz▸List.mem_cons_self ..
      ·rcases List.mem_cons.1 hz with hz | hz
       ·exact List.mem_cons_of_mem _ (hz▸List.mem_cons_self ..)
       ·exact List.mem_cons_of_mem _ (List.mem_cons_of_mem _ (List.mem_cons_of_mem _ hz))))
     (fun hb2 I7 hI7=>.inl ⟨rfl,F5,.refl _,(t.kids.length-(x+1)).toNat,by omega, ?_⟩) (fun hb2 I7 hI7=>.inr ⟨_,rfl,F5,.refl _, ?_,rfl⟩)⟩
    ·rw[w64 (n:=x+1) (by omega)]
     refine⟨by omega,by omega,rfl, ?_,rfl⟩
     rw[gf,drop_map hy,Px.formedL,hb2,show (x+1).toNat=x.toNat+1 by omega];rfl
    ·rw[gf,drop_map hy,Px.formedL,hb2];rfl
   ·have hlt:=of_decide_eq_false hlt
    rw[gf,drop_end (by omega),Px.formedL];rfl
  ·have hone:t.px.oneB=false:=by
    rw[←hw,wantB,decide_eq_false (fun e=>by
     have:(t.kids.length:Int)=kids:=by omega
     rw[this] at hb;simp at hb)];simp
   rw[Px.formed_eq,hone];rfl
  ·have hone:t.px.oneB=false:=by rw[←hw,wantB,hq];simp
   rw[Px.formed_eq,hone];rfl
  ·have hone:t.px.oneB=false:=by rw[←hw,wantB,his];rfl
   rw[Px.formed_eq,hone];rfl
theorem node_spec(t:Nd)(hs:t.px.size≤1048576)(I:Imm)(F:Heap)(ht:NdOk I F t):Tri P 97 #[t.v] I F (Look t.px.formed 120 F):=node_specB t (by omega) I F ht
end Go.Lx
namespace Go.Lx
open Go.Vc
theorem level_cases(x:Px):(x.kind=7∧x.level=1)∨(x.kind=5∧x.level=7)∨(x.kind=6∧2≤x.level∧x.level≤6)∨(x.kind≠5∧x.kind≠6∧x.kind≠7∧x.level=8):=by
 unfold Px.level;(repeat' split)<;>omega
theorem place_spec(t:Nd)(i:Int)(h0:0≤i)(h1:i≤4194304)(I:Imm)(F:Heap):Tri P 129 #[t.v,.int .i64 i] I F (Ret (.int .i64 (t.px.asks i)) F):=by
 refine tree_place.vc ?_
 unfold tree_place.V
 intro b_n
 have hc:=level_cases t.px
 refine Tri.ret (tlevel_spec t I _) fun I1 hI1=>⟨_,rfl,F,.refl _, ?_⟩
 unfold Px.asks
 rw[Nd.px_kind] at hc ⊢
 refine⟨fun h=>⟨fun h'=>⟨?_,rfl⟩,fun h'=>⟨fun h2=>⟨?_,rfl⟩,fun h2=>⟨fun h3=>⟨?_,rfl⟩,fun h3=>⟨fun h4=>⟨?_,rfl⟩,fun h4=>⟨fun h5=>⟨?_,rfl⟩,fun h5=>⟨?_,rfl⟩⟩⟩⟩⟩⟩,
  fun h=>⟨fun h2=>⟨?_,rfl⟩,fun h2=>⟨fun h3=>⟨?_,rfl⟩,fun h3=>⟨fun h4=>⟨?_,rfl⟩,fun h4=>⟨fun h5=>⟨?_,rfl⟩,fun h5=>⟨?_,rfl⟩⟩⟩⟩⟩⟩
 all_goals (try simp only[decide_eq_true_eq,decide_eq_false_iff_not,beq_iff_eq,beq_eq_false_iff_ne] at *)
 all_goals (congr 2;(repeat' split)<;>first | rfl | omega | (rw[w64 (by omega)]))
theorem tdepth_specB:∀(t:Nd),t.px.size≤4194304→t.px.formed=true→∀(I:Imm) (F:Heap),NdOk I F t→Tri P 99 #[t.v] I F (Ret (.int .i64 t.px.depth) F):=by
 refine Nd.ind fun t ih hs hf I F ht=>?_
 have hln:=size_len hs
 refine tree_depth.vc (fun most i m I' F'=>0≤i∧i≤t.kids.length∧m=(t.kids.length-i).toNat∧0≤most∧most≤16777216∧t.px.depth=Px.depthL t.px i ((t.kids.drop i.toNat).map Nd.px) most∧F'=F) ?_
 unfold tree_depth.V
 intro b_n
 refine⟨⟨_,by omega,by omega,rfl,by omega,by omega, ?_,rfl⟩,fun most i m I1 F1 hI ⟨g0,g1,gm,g2,g3,gf,gF⟩=>⟨fun hlt=>?_,fun hlt=>⟨?_,gF⟩⟩⟩
 ·rw[Px.depth_eq,Nd.px_kids];rfl
 ·have hlt:=of_decide_eq_true hlt
  subst gF
  have ht1:NdOk I1 ((b_n,.cells t.enc.toArray 28 (0,0))::F1) t:=(ht.mono hI fun _ h=>h).cons
  obtain⟨ad,x,had,hx,hrd,hxo,hxm⟩:=ht1.kids.at g0 hlt
  have hxp:x.px∈t.px.kids:=by rw[Nd.px_kids];exact List.mem_map_of_mem hxm
  have hkd:=Px.formed_kind hf (fun e=>by rw[e] at hxp;cases hxp)
  rw[Nd.px_kind] at hkd
  have hdr:=depth_range x.px
  have hsz:=size_kid hxm hs
  have hxo2:∀b_k:Nat,NdOk I1 ((b_n,.cells t.enc.toArray 28 (0,0))::(b_k,.cells x.enc.toArray 28 (0,0))::F1) x:=fun b_k=>hxo.mono (Imm.le_refl _) fun z hz=>by
   rcases List.mem_cons.1 hz with hz | hz
   ·exact hz▸List.mem_cons_self ..
   ·exact List.mem_cons_of_mem _ (List.mem_cons_of_mem _ hz)
  refine⟨⟨g0,hlt⟩,ad,had,_,_,_,_,_,_,_,_,_,_,hrd,fun b_k=>Tri.ret (ih x hxm hsz (Px.formed_kid hf _ hxp) I1 _ (hxo2 b_k)) fun I2 hI2=>⟨_,rfl,F1,.refl _,
   _,(tlevel_spec x I2 _).perm',_,(place_spec t i g0 (by omega) I2 _).perm', ?_⟩⟩
  have key:∀D:Int,D=x.px.depth+t.px.adds x.px i →
    (∃m2:Nat,m2<m∧(0≤IntKind.wrap .i64 (i+1)∧IntKind.wrap .i64 (i+1)≤t.kids.length∧m2=(t.kids.length-IntKind.wrap .i64 (i+1)).toNat∧0≤(if D>most then D else most)∧(if D>most then D else most)≤16777216 ∧
     t.px.depth=Px.depthL t.px (IntKind.wrap .i64 (i+1)) ((t.kids.drop (IntKind.wrap .i64 (i+1)).toNat).map Nd.px) (if D>most then D else most)∧F1=F1)):=by
   intro D hD
   have har:=adds_range t.px x.px i
   rw[w64 (n:=i+1) (by omega)]
   rw[drop_map hx,Px.depthL,←hD] at gf
   have hmx:(if D>most then D else most)=max most D:=by split<;>omega
   rw[hmx]
   refine⟨(t.kids.length-(i+1)).toNat,by omega,by omega,by omega,rfl,by omega,by omega, ?_,rfl⟩
   rw[gf,show (i+1).toNat=i.toNat+1 by omega]
  have e1:IntKind.wrap .i64 (x.px.depth+1)=x.px.depth+1:=w64 (by omega)
  have e2:IntKind.wrap .i64 (x.px.depth+1+1)=x.px.depth+1+1:=w64 (by omega)
  have em:(if 1<i then 1 else i)=if 0<i then (1:Int) else 0:=by (repeat' split)<;>omega
  have e3:IntKind.wrap .i64 (x.px.depth+(if 1<i then 1 else i))=x.px.depth+(if 1<i then 1 else i):=w64 (by (repeat' split)<;>omega)
  have e4:IntKind.wrap .i64 (x.px.depth+1+(if 1<i then 1 else i))=x.px.depth+1+(if 1<i then 1 else i):=w64 (by (repeat' split)<;>omega)
  rw[e1,e2,e3,e4]
  unfold Px.adds at key
  rw[Nd.px_kind] at key
  refine⟨fun hb=>⟨fun h=>key _ ?_,fun h1=>⟨fun h=>key _ ?_,fun h2=>key _ ?_⟩⟩,fun hb=>⟨fun h=>key _ ?_,fun h1=>⟨fun h=>key _ ?_,fun h2=>key _ ?_⟩⟩⟩
  all_goals clear key gf
  all_goals (simp only[decide_eq_true_eq,decide_eq_false_iff_not,beq_iff_eq,beq_eq_false_iff_ne] at *)
  all_goals ((repeat' split)<;>omega)
 ·have hlt:=of_decide_eq_false hlt
  rw[gf,drop_end (by omega),Px.depthL]
theorem expr_specB(t:Nd)(hs:t.px.size≤4194304)(I:Imm)(F:Heap)(ht:NdOk I F t):Tri P 59 #[t.v] I F fun e I' G=>e=(if t.px.checkE=0 then .returned (.tuple #[]) else .panicked (wrongP t.px.checkE))∧G=F:=by
 refine tree_expr.vc ?_
 unfold tree_expr.V
 intro b_n
 unfold Px.checkE
 refine Look.use (node_specB t hs I _ ht.cons) (fun hb I1 hI1=>.inl ⟨rfl,F,.refl _,Tri.ret (tdepth_specB t hs hb I1 _ (ht.mono hI1 fun _ h=>h).cons) fun I2 hI2=>⟨_,rfl,F,.refl _,
  Look.use (must_spec _ 122 I2 _) (fun h2 I3 hI3=>.inl ⟨rfl,F,.refl _, ?_,rfl⟩) (fun h2 I3 hI3=>.inr ⟨_,rfl,F,.refl _, ?_,rfl⟩)⟩⟩) (fun hb I1 hI1=>.inr ⟨_,rfl,F,.refl _, ?_,rfl⟩)
 ·have h2:=of_decide_eq_true h2
  rw[if_pos hb,show (if 24<t.px.depth then (122:Int) else 0)=0 from if_neg (by omega)];rfl
 ·have h2:=of_decide_eq_false h2
  rw[if_pos hb,show (if 24<t.px.depth then (122:Int) else 0)=122 from if_pos (by omega)];rfl
 ·rw[hb];rfl
theorem tdepth_spec(t:Nd)(hs:t.px.size≤1048576)(hf:t.px.formed=true)(I:Imm)(F:Heap)(ht:NdOk I F t):Tri P 99 #[t.v] I F (Ret (.int .i64 t.px.depth) F):=tdepth_specB t (by omega) hf I F ht
theorem expr_spec(t:Nd)(hs:t.px.size≤1048576)(I:Imm)(F:Heap)(ht:NdOk I F t):Tri P 59 #[t.v] I F fun e I' G=>e=(if t.px.checkE=0 then .returned (.tuple #[]) else .panicked (wrongP t.px.checkE))∧G=F:=expr_specB t (by omega) I F ht
end Go.Lx
namespace Go.Lx
open Go.Vc
theorem check1_spec{t:Nd}(hs:t.px.size≤4194304){I:Imm}{F:Heap}(ht:NdOk I F t){c:Addr}(hc:Rd I F c t.enc) :
  Tri P 58 #[.pointer (some c)] I F fun e I' G=>e=(if t.px.checkE=0 then .returned (.tuple #[]) else .panicked (wrongP t.px.checkE))∧G=F:=by
 refine tree_CheckExpr_1.vc ?_
 unfold tree_CheckExpr_1.V
 refine⟨_,_,_,_,_,_,_,_,_,_,hc,(expr_specB t hs I F ht).mono fun e I1 G hl ⟨he,hG⟩=>?_⟩
 subst hG
 by_cases h:t.px.checkE=0
 ·rw[if_pos h] at he
  exact .inl ⟨he,G,.refl _,by rw[if_pos h],rfl⟩
 ·rw[if_neg h] at he
  exact .inr ⟨_,he,G,.refl _,by rw[if_neg h],rfl⟩
end Go.Lx
namespace Go.Lx
open Go.Vc
theorem _root_.Go.Vc.TriV.of{P:Program}{f:FuncId}{args:List Value}{I:Imm}{F:Heap}{Q:Ending→Imm→Heap→Prop}(he:Enters P f)(h:Tri P f args.toArray I F Q):TriV P (.func (.func f) #[] #[]) args I F Q :=
 fun w hw=>.inl ⟨f,#[],#[],rfl,he,by rw[show (#[]:Array Value)++args.toArray++#[]=args.toArray by simp];exact h w hw⟩
end Go.Lx
namespace Go.Lx
open Go.Vc
end Go.Lx
namespace Go.Lx
open Go.Vc
end Go.Lx
namespace Go.Lx
open Go.Vc
end Go.Lx
namespace Go.Lx
open Go.Vc
end Go.Lx
namespace Go.Lx
open Go.Vc
end Go.Lx
namespace Go.Lx
open Go.Vc
theorem Tri.pre{P:Program}{f:FuncId}{args:Array Value}{I:Imm}{F:Heap}{Q:Ending→Imm→Heap→Prop}(h:∀w,Sat I F w→∃J G,Imm.le I J∧Sat J G w∧Tri P f args J G Q):Tri P f args I F Q:=fun w hw =>
 let ⟨J,G,hl,hs,ht⟩:=h w hw
 (ht w hs).mono fun e w' ⟨I',F',h1,h2,h3⟩=>⟨I',F',Imm.le_trans hl h1,h2,h3⟩
def _root_.Go.Vc.Row.v(r:Row):Value:=.slice r.a r.n r.c
end Go.Lx
namespace Go.Lx
open Go.Vc
end Go.Lx
namespace Go.Lx
open Go.Vc
mutual
def Nd.nodes:Nd→List Nd
 | .mk k o t n f s a c l q=>.mk k o t n f s a c l q::Nd.nodesL l
def Nd.nodesL:List Nd→List Nd
 | []=>[]
 | x::r=>Nd.nodes x++Nd.nodesL r
end
theorem Nd.nodes_eq(t:Nd):t.nodes=t::Nd.nodesL t.kids:=by cases t;rw[Nd.nodes];rfl
theorem nodes_px:∀t:Nd,t.nodes.map Nd.px=t.px.nodes:=by
 have hL:∀l:List Nd,(∀x∈l,(Nd.nodes x).map Nd.px=x.px.nodes)→(Nd.nodesL l).map Nd.px=Px.nodesL (l.map Nd.px):=by
  intro l
  induction l with
  | nil=>intro _;rfl
  | cons x r ih =>
    intro h
    rw[Nd.nodesL,List.map_append,List.map_cons,Px.nodesL,h x (List.mem_cons_self ..),ih fun y hy=>h y (List.mem_cons_of_mem _ hy)]
 refine Nd.ind fun t h=>?_
 rw[Nd.nodes_eq,Px.nodes_eq,List.map_cons,hL t.kids h,Nd.px_kids]
theorem NdOk.nodes{I:Imm}{G:Heap}:∀{t:Nd},NdOk I G t→∀x∈t.nodes,NdOk I G x:=by
 refine @(Nd.ind fun t ih h x hx=>?_)
 rw[Nd.nodes_eq] at hx
 rcases List.mem_cons.1 hx with rfl | hx
 ·exact h
 ·have hL:∀l:List Nd,(∀k∈l,∀x∈k.nodes,NdOk I G x)→∀x∈Nd.nodesL l,NdOk I G x:=by
   intro l
   induction l with
   | nil=>intro _ x h;rw[Nd.nodesL] at h;cases h
   | cons y r ihl =>
     intro hk x h
     rw[Nd.nodesL] at h
     rcases List.mem_append.1 h with h | h
     ·exact hk y (List.mem_cons_self ..) x h
     ·exact ihl (fun k hk'=>hk k (List.mem_cons_of_mem _ hk')) x h
  exact hL _ (fun k hk=>ih k hk (h.kid k hk)) x hx
instance decBA:DecidableEq ByteArray:=fun a b=>decidable_of_iff (a.data=b.data) ⟨fun h=>by cases a;cases b;simp_all,fun h=>by rw[h]⟩
def hasS(l:List ByteArray)(s:ByteArray):Bool:=l.any fun y=>decide (y=s)
end Go.Lx
namespace Go.Lx
open Go.Vc
def Px.Fit(x:Px):Prop:=(0≤x.kind∧x.kind≤255)∧(0≤x.oper∧x.oper≤255)∧(0≤x.typ∧x.typ≤255)∧(-9223372036854775808≤x.n∧x.n≤9223372036854775807)∧(0≤x.field∧x.field≤255)∧(-9223372036854775808≤x.pos∧x.pos≤9223372036854775807)
def Px.Wf(x:Px):Prop:=∀y∈x.nodes,y.Fit
theorem Wf.nd{t:Nd}(h:t.px.Wf):∀x∈t.nodes,x.px.Fit:=fun x hx=>h _ (by rw[←nodes_px];exact List.mem_map_of_mem hx)
end Go.Lx
namespace Go.Vc
theorem make_spec{P:Program}{t e:TypeId}{z by':Nat}{zv:Value}(ht:P.underlying t=some (.slice e))(hi:(P.info? e).map (fun i=>(i.zero,i.size,i.bytes))=some (some zv,z,by')){l c:Int}(h0:0≤l)(hlc:l≤c)(hb:(by':Int)*c≤281474976710656)(hc:c≤9223372036854775807){I:Imm}{F:Heap} :
  TriE P (Instr.makeSlice t (.int .i64 l) (.int .i64 c)) I F fun v I' G=>∃(b:Nat) (cs:List Value),v=.slice (some ⟨b,0,none⟩) l.toNat c.toNat∧cs.length=c.toNat*z∧cs.toArray=madeCells zv.cells (c.toNat*z)∧I'=I∧G=(b,Obj.cells cs.toArray e (0,0))::F:=by
 intro w hw
 cases h:P.info? e with
 | none=>rw[h] at hi;cases hi
 | some i =>
   rw[h] at hi
   simp only[Option.map_some,Option.some.injEq,Prod.mk.injEq] at hi
   have hr:=run_make (P:=P) w t e i zv ht h hi.1 .i64 .i64 l c h0 hlc (by rw[hi.2.2];exact hb) hc
   rw[hi.2.1] at hr
   refine⟨_,_,I,_,hr,Imm.le_refl I,hw.alloc _,w.heap.size,(madeCells zv.cells (c.toNat*z)).toList,rfl, ?_,by simp,rfl,by simp⟩
   simp[size_madeCells]
end Go.Vc
namespace Go.Lx
open Go.Vc
end Go.Lx
namespace Go.Lx
open Go.Vc
theorem OwnT.inv{E:Nat}{R:Bool}{t:Nd}{H:Heap}(h:OwnT E R t H):∃(A:Heap) (hs:Nat→Heap),H=A++flatH t.kids.length hs∧Acc 8 Nd.enc E t.a t.kids.length t.c t.kids A∧(R=true→TailOk t.kids.length t.a t.c A) ∧
  ∀(i:Nat) (k:Nd),t.kids[i]? = some k→OwnT E R k (hs i):=by
 cases h with
 | mk h1 h2 h3=>exact⟨_,_,rfl,h1,h2,h3⟩
end Go.Lx
namespace Go.Vc
def RecTo:FrameMode→Value→FrameMode→Prop
 | .returning,v,u=>v=.nilIface∧u=.returning
 | .panicking ({ v:=x,recovered:=false,goexit:=false }::older),v,u=>v=x∧u=.panicking ({ v:=x,recovered:=true }::older)
 | _,_,_=>False
theorem recTo_nil:RecTo .returning .nilIface .returning:=⟨rfl,rfl⟩
theorem recTo_one(v:Value):RecTo (.panicking [{ v:=v,recovered:=false }]) v (.panicking [{ v:=v,recovered:=true }]):=⟨rfl,rfl⟩
def recB(o:Oper):Bool:=match o.op,o.guard with
 | .call { callee:=.builtin .recover,args:=_,argTypes:=_ },none=>true
 | _,_=>false
theorem RecTo.at{c:Frame}{cs:List Frame}{u u1:FrameMode}{v:Value}(hu:c.mode=u)(h:RecTo u v u1) :
  recoverD (c::cs)=some (v,{ c with mode:=u1 }::cs)∨(recoverD (c::cs)=none∧v=.nilIface∧{ c with mode:=u1 }::cs=c::cs):=by
 subst hu
 unfold RecTo at h
 split at h
 ·rename_i hm
  obtain⟨h1,h2⟩:=h
  refine .inr ⟨by simp[recoverD,hm],h1, ?_⟩
  subst h2
  rw[←hm]
 ·rename_i hm
  obtain⟨h1,h2⟩:=h
  subst h1 h2
  exact .inl (by simp[recoverD,hm])
 ·exact h.elim
theorem wpSIn_rec{P:Program}{id:Nat}{ops:Array Oper}{o:Oper}{r:List Oper}{Q:Exit→Act→List Frame→World→Prop}{a:Act}{cs cs':List Frame}{w:World}{v:Value}(hl:ops.toList=o::r)(ho:recB o=true)
  (hrec:recoverD cs=some (v,cs')∨(recoverD cs=none∧v=.nilIface∧cs'=cs)) (h:wpListIn Fence.wide 0 P ops (fun e a' w'=>Q e a' cs' w') r (a.put o.dst v) w) :
  (Code.region id ops false).wpSIn Fence.wide 0 P Q a cs w:=by
 intro b k hb hr hF hroom
 have hsz:ops.size=r.length+1:=by rw[←Array.length_toList,hl];rfl
 have h0:ops[0]? = some o:=by rw[←Array.getElem?_toList,hl];rfl
 have hrest:∀j,r[j]? = ops[1+j]?:=fun j=>by rw[←Array.getElem?_toList,hl,Nat.add_comm];rfl
 rw[←wpOpsIn_eq_wpListIn r 1 hrest] at h
 have hex:∀ci,o.op=.call ci→True:=fun _ _=>trivial
 have hop:∃ci,o.op=.call ci∧ci.callee=.builtin .recover∧o.guard=none:=by
  unfold recB at ho
  split at ho
  ·rename_i h1 h2;exact⟨_,h1,rfl,h2⟩
  ·cases ho
 obtain⟨ci,hci,hcal,hgd⟩:=hop
 have hw:Region.wanted o (yielded ops a.tmps)=true:=by unfold Region.wanted;rw[hgd]
 have hrun:(execOp a.eval o).run P w=.ok .recover w:=by
  obtain⟨cal,args,tys⟩:=ci
  simp only at hcal
  subst hcal
  simp only[execOp,hci]
  rfl
 have hlen:cs'.length=cs.length:=by
  rcases hrec with hrec | ⟨_,_,rfl⟩
  ·exact recoverD_length hrec
  ·rfl
 obtain⟨e,a',w',q,harr⟩:=wp_opsIn _ _ _ h b k cs' (hr.trans rfl) hF (hlen▸hroom)
 refine⟨e,a',cs',w',hlen,q,.of_steps (.one (fenced_calm hF hroom rfl) stepR_region) ?_⟩
 rw[List.range_eq_range',hsz,List.range'_succ]
 have hg:=stepGR_op (P:=P) (b:=b) (k:=k) (cs:=cs) (w:=w) (rest:=List.range' (0+1) r.length) h0 hw
 rw[hr,Oper.semAt_none] at hg
 have hfin:∀v,(b.atR a (.inRegion ops (0::List.range' (0+1) r.length)::k)).finish v=b.atR (a.put o.dst v) (.inRegion ops (List.range' (0+1) r.length)::k):=by
  intro v;rw[Frame.finish_atR,h0];rfl
 have hk:(b.atR a (.inRegion ops (0::List.range' (0+1) r.length)::k)).kind=.deferred:=hb
 have htr:=tryRecover_deferred hk cs
 refine .of_steps (.one (fenced_oper hF hroom h0 fun f _=>trivial) (step_lone_go ?_)) harr
 rw[hg,←hfin]
 simp only[Frame.atR,hr] at htr ⊢
 rcases hrec with hrec | ⟨hrec,rfl,rfl⟩
 ·simp[stepG.apply,hrun,htr,hrec]
 ·simp[stepG.apply,hrun,htr,hrec]
def kEndR(P:Program)(rs:List ResultVar)(keep:List Nat)(Q:Ending→Imm→Heap→Prop)(u:Option (List PanicEntry))(σ:S)(I:Imm)(F:Heap):Prop:=match σ.df with
 | []=>match u with
   | none=>(match resAll P σ rs with
     | some vs=>Q (.returned (resVal vs)) I (blks (pick σ.own keep)++F)
     | none=>False)
   | some ch=>Q (.panicked ch) I (blks (pick σ.own keep)++F)
 | _=>False
def kBodyR(P:Program)(rs:List ResultVar)(keep:List Nat)(Q:Ending→Imm→Heap→Prop):Kt
 | .normal,σ,I,F=>kEndR P rs keep Q none σ I F
 | .ret,σ,I,F=>kEndR P rs keep Q none σ I F
 | .panic ch,σ,I,F=>kEndR P rs keep Q (some ch) σ I F
 | _,_,_,_=>False
def wRec(P:Program)(A:Ann)(v:Value)(rs:List ResultVar)(keep:List Nat)(Q:Ending→Imm→Heap→Prop)(σ:S)(I:Imm)(F:Heap):Code→Prop
 | .seq (.region id ops false) rest=>match ops.toList with
   | o::r=>cond (recB o) (wOps P A id ops r 1 (σ.put o.dst (some (.a (.v v)))) I F (W P A none rest 2 (kBodyR P rs keep Q)) (fun ch=>kBodyR P rs keep Q (.panic ch))) False
   | []=>False
 | _=>False
section
variable {P:Program} {A:Ann}
theorem endR{fn:Func}{keep:List Nat}(hk:asc 0 keep=true){Q:Ending→Imm→Heap→Prop}{c0:Frame}{cs:List Frame}{u1:FrameMode}{R:Ending→FrameMode→World→Prop}{I0:Imm}
  (hR:∀e I' F' w',Imm.le I0 I'→Sat I' F' w'→Q e I' F'→R e u1 w') {e:Exit} {σ:S} {I:Imm} {F:Heap} {a:Act} {w:World} (hr:Rel σ I F a w) (hl:Imm.le I0 I)
  (h:kBodyR P fn.results.toList keep Q e σ I F):bodyPostS P fn c0 cs R e a ({ c0 with mode:=u1 }::cs) w:=by
 have hsub:Sat I (blks (pick σ.own keep)++F) w:=by
  have h5:=pick_sub keep 0 σ.own hk
  rw[List.drop_zero] at h5
  exact hr.sat.sub ((h5.map _).append (List.Sublist.refl F))
 have key:∀u,kEndR P fn.results.toList keep Q u σ I F→a.defers=[]∧match u with
   | none=>∃v,(results fn a.tmps).run P w=.ok v w∧Q (.returned v) I (blks (pick σ.own keep)++F)
   | some ch=>Q (.panicked ch) I (blks (pick σ.own keep)++F):=by
  intro u h
  unfold kEndR at h
  split at h
  ·rename_i hd
   refine⟨by rw[hr.defers,hd];rfl, ?_⟩
   cases u with
   | none =>
     simp only at h ⊢
     split at h
     ·rename_i vs hvs;exact⟨_,results_run hr hvs,h⟩
     ·exact h.elim
   | some ch=>exact h
  ·exact h.elim
 cases e with
 | normal=>obtain⟨h1,v,h2,h3⟩:=key none h;exact⟨h1,u1,rfl,v,h2,hR _ _ _ _ hl hsub h3⟩
 | ret=>obtain⟨h1,v,h2,h3⟩:=key none h;exact⟨h1,u1,rfl,v,h2,hR _ _ _ _ hl hsub h3⟩
 | panic ch=>obtain⟨h1,h2⟩:=key (some ch) h;exact⟨h1,u1,rfl,hR _ _ _ _ hl hsub h2⟩
 | exit id=>exact h.elim
 | goto l=>exact h.elim
 | outgrown=>exact h.elim
theorem triD_of_W(hP:∀f,A.good f=true→Enters P f){f:FuncId}{fn:Func}{c:Code}(hf:P.funcs[f]? = some fn)(hb:fn.body=some c){args:List AV}{own:List Blk}
  {I:Imm} {F:Heap} {keep:List Nat} {Q:Ending→Imm→Heap→Prop} (hk:asc 0 keep=true) (hwa:∀x∈args,AV.wf own x) (hwo:∀b∈own,∀x∈b.cells,AV.wf own x) {u u1:FrameMode} {v:Value} (hrec:RecTo u v u1)
  (h:wRec P A v fn.results.toList keep Q ⟨argTm args fn.ntmps,own,[]⟩ I F c) {vs:List Value} (hv:vs=args.map AV.g):TriD P f vs u I (blks own++F) fun e u' I' G=>u'=u1∧Q e I' G:=by
 subst hv
 intro w hw
 unfold wRec at h
 split at h
 ·rename_i id ops rest
  split at h
  ·rename_i o r hl
   obtain⟨ho,h⟩:=cond_out h
   refine callsDIn_of_wpSIn hf hb trivial fun c0 cs hu=>?_
   refine wpSIn_seq (wpSIn_rec hl ho (RecTo.at hu hrec) ?_)
   have hrel:Rel ⟨argTm args fn.ntmps,own,[]⟩ I F { tmps:=(args.map AV.g).toArray++Array.replicate (fn.ntmps-(args.map AV.g).toArray.size) undef,defers:=[] } w:=by
    refine⟨by simp[argTm], ?_,rfl, ?_, ?_,hw⟩
    ·intro t av ht
     simp only[argTm,List.getElem?_append] at ht
     split at ht
     ·rename_i hlt
      simp only[List.getElem?_map] at ht
      cases ha:args[t]? with
      | none=>rw[ha] at ht;simp at ht
      | some x =>
        rw[ha] at ht
        simp only[Option.map_some,Option.some.injEq] at ht
        subst ht
        simp at hlt
        rw[Array.getElem?_append_left (by simpa using hlt)]
        simp[ha]
     ·rw[List.getElem?_replicate] at ht;split at ht<;>cases ht
    ·intro t av ht
     simp only[argTm,List.getElem?_append] at ht
     split at ht
     ·simp only[List.getElem?_map] at ht
      cases ha:args[t]? with
      | none=>rw[ha] at ht;simp at ht
      | some x =>
        rw[ha] at ht
        simp only[Option.map_some,Option.some.injEq] at ht
        subst ht
        exact hwa _ (List.mem_of_getElem? ha)
     ·rw[List.getElem?_replicate] at ht;split at ht<;>cases ht
    ·exact fun i b hb' x hx=>hwo b (List.mem_of_getElem? hb') x hx
   have hrel2:=hrel.put o.dst (av:=.a (.v v)) (v:=v) rfl trivial
   refine wOps_sound (ro:=none) hP r 1 _ I F _ w (.inl rfl) h hrel2 ?_ ?_
   ·intro σ' I' F' a' w' h1 h2 h3 _
    refine wpSIn_of_wpIn rfl (wpIn_mono (W_sound hP rest 2 _ none none σ' I' F' a' w' rfl h3 h1) ?_)
    intro e a2 w2 ⟨σ2,I2,F2,g1,g2,g3,_⟩
    exact endR (fn:=fn) hk (fun e I3 F3 w3 hl3 hs3 hq3=>⟨I3,F3,hl3,hs3,rfl,hq3⟩) g1 (Imm.le_trans h2 g2) g3
   ·intro ch σ' I' F' a' w' h1 h2 h3 _
    show bodyPostS P fn c0 cs (fun e u' w'=>∃I' F',I.le I'∧Sat I' F' w'∧u'=u1∧Q e I' F') (.panic ch) a' _ w'
    exact endR (fn:=fn) hk (e:=.panic ch) (fun e I3 F3 w3 hl3 hs3 hq3=>⟨I3,F3,hl3,hs3,rfl,hq3⟩) h1 h2 h3
  ·exact h.elim
 ·exact h.elim
theorem triD_of_V{f:FuncId}{fn:Func}{args:List AV}{own:List Blk}{I:Imm}{F:Heap}{keep:List Nat}{Q:PostQ}{V:Prop}{u u1:FrameMode}{v:Value}(gd:List Nat)(hf:P.funcs[f]? = some fn)(hrec:RecTo u v u1)(h:V)
  (e:wRec P A v fn.results.toList keep Q ⟨argTm args fn.ntmps,own,[]⟩ I F (fn.body.getD .skip)=V) (hg:A.good=memB gd) (hG:gd.all (goodB P)=true) (hb:fn.body=some (fn.body.getD .skip)) (hk:asc 0 keep=true)
  (hwa:∀x∈args,AV.wf own x) (hwo:∀b∈own,∀x∈b.cells,AV.wf own x) {vs:List Value} (hv:vs=args.map AV.g):TriD P f vs u I (blks own++F) fun e u' I' G=>u'=u1∧Q e I' G :=
 triD_of_W (fun f hf'=>hP_of gd hG f (by rw[←hg];exact hf')) hf hb hk hwa hwo hrec (by rw[←e] at h;exact h) hv
end
end Go.Vc
namespace Go.Lx
open Go.Vc Go.Proofs.Tryz
def shT_t6:List (Nat×List Sh):=[]
def tree_caught_1_none.V(a:Nat)(c:Int)(I:Imm)(F:Heap)(Q:PostQ)  : Prop:=∀b:Nat,Q (.returned (.tuple #[])) I ((a,Obj.cells #[.int .i64 c] 47 (0,0))::F)
theorem tree_caught_1_none.vc{b:Nat}{c:Int}{u u1:FrameMode}(d:RecTo u (Value.nilIface) u1){I:Imm}{F:Heap}{Q:PostQ}  (h:tree_caught_1_none.V b c I F Q):TriD P 96 [.pointer (some ⟨b,0,none⟩)] u I ((b,Obj.cells #[.int .i64 c] 47 (0,0))::F) (fun e u' I' G=>u'=u1∧Q e I' G) :=
 triD_of_V (A:=(an [] [] shT_t6)) (args:=[.a (.p 0 b 0)]) (own:=[⟨b,47,false,[.a (.v (.int .i64 c))]⟩]) (keep:=[0]) [] func96 d h (by kernel_rfl) (by kernel_rfl) (by kernel_rfl) (by kernel_rfl) (by kernel_rfl) (by simp[AV.wf,At.wf]) (by simp[AV.wf,At.wf]) rfl
def tree_caught_1_some.V(a:Nat)(c b:Int)(I:Imm)(F:Heap)(Q:PostQ)  : Prop:=∀d:Nat,Q (.returned (.tuple #[])) I ((a,Obj.cells #[.int .i64 b] 47 (0,0))::F)
theorem tree_caught_1_some.vc{b:Nat}{c d:Int}{u u1:FrameMode}(f:RecTo u (Value.iface 155 (.agg #[.int .i64 d])) u1){I:Imm}{F:Heap}{Q:PostQ}  (h:tree_caught_1_some.V b c d I F Q):TriD P 96 [.pointer (some ⟨b,0,none⟩)] u I ((b,Obj.cells #[.int .i64 c] 47 (0,0))::F) (fun e u' I' G=>u'=u1∧Q e I' G) :=
 triD_of_V (A:=(an [] [] shT_t6)) (args:=[.a (.p 0 b 0)]) (own:=[⟨b,47,false,[.a (.v (.int .i64 c))]⟩]) (keep:=[0]) [] func96 f h (by kernel_rfl) (by kernel_rfl) (by kernel_rfl) (by kernel_rfl) (by kernel_rfl) (by simp[AV.wf,At.wf]) (by simp[AV.wf,At.wf]) rfl
end Go.Lx
namespace Go.Vc
theorem TriV.fn{P:Program}{f:FuncId}{fr cap:Array Value}{args:List Value}{I:Imm}{F:Heap}{Q:Ending→Imm→Heap→Prop}(he:Enters P f){vs:Array Value}(hv:fr++args.toArray++cap=vs)(h:Tri P f vs I F Q):TriV P (.func (.func f) fr cap) args I F Q :=
 fun w hw=>.inl ⟨f,fr,cap,rfl,he,by rw[hv];exact h w hw⟩
theorem TriD.mono{P:Program}{f:FuncId}{args:List Value}{u:FrameMode}{I:Imm}{F:Heap}{Q Q':Ending→FrameMode→Imm→Heap→Prop}(h:TriD P f args u I F Q)(k:∀e u' I' G,Imm.le I I'→Q e u' I' G→Q' e u' I' G):TriD P f args u I F Q' :=
 fun w hw=>(h w hw).mono fun e u' w' ⟨I',F',h1,h2,h3⟩=>⟨I',F',h1,h2,k _ _ _ _ h1 h3⟩
theorem TriD.perm{P:Program}{f:FuncId}{args:List Value}{u:FrameMode}{I:Imm}{F G:Heap}{Q:Ending→FrameMode→Imm→Heap→Prop}(h:TriD P f args u I F Q)(p:G.Perm F):TriD P f args u I G Q:=fun w hw=>h w (hw.perm p)
end Go.Vc
namespace Go.Lx
open Go.Vc
abbrev errOf(n:Int):Ending:=if n=0 then .returned (.tuple #[]) else .panicked (wrongP n)
theorem caught_spec{look:Fn}{lf lc:Array Value}{n:Int}{I:Imm}{F:Heap}(h:∀b:Nat,TriV P (.func look lf lc) [] I ((b,.cells #[.int .i64 0] 47 (0,0))::F) fun e I' G=>e=errOf n∧G=(b,.cells #[.int .i64 0] 47 (0,0))::F) :
  Tri P 57 #[.func look lf lc] I F (Ret (.int .i64 n) F):=by
 refine tree_caught.vc ?_
 unfold tree_caught.V
 intro b_e
 refine (h b_e).mono fun e I1 G hI1 ⟨he,hG⟩=>?_
 subst hG
 by_cases hn:n=0
 ·subst hn
  refine .inl ⟨he,F,.refl _,(tree_caught_1_none.vc recTo_nil (Q:=fun e I' G=>e=.returned (.tuple #[])∧G=(b_e,.cells #[.int .i64 0] 47 (0,0))::F) fun b_x=>⟨rfl,rfl⟩).mono fun e u I2 G _ ⟨hu,he,hG⟩=>?_⟩
  subst hu
  exact⟨_,he,0,F,by rw[hG],.inl ⟨rfl,rfl,rfl⟩⟩
 ·rw[errOf,if_neg hn] at he
  refine .inr ⟨_,he,F,.refl _,(tree_caught_1_some.vc (recTo_one _) (Q:=fun e I' G=>e=.returned (.tuple #[])∧G=(b_e,.cells #[.int .i64 n] 47 (0,0))::F) fun b_x=>⟨rfl,rfl⟩).mono fun e u I2 G _ ⟨hu,he,hG⟩=>?_⟩
  subst hu
  exact⟨_,he,n,F,by rw[hG],.inl ⟨rfl,rfl,rfl⟩⟩
theorem enters_ce1:Enters P 58:=hP_of [58] (by kernel_rfl) _ (by decide)
theorem nd_rd{b:Nat}{t:Nd}{I:Imm}{G:Heap}(h:(b,Obj.cells #[.int .u8 t.kind,.int .u8 t.oper,.int .u8 t.typ,.int .i64 t.n,.int .u8 t.field,.string t.name,.slice t.a t.kids.length t.c,.int .i64 t.pos] 28 (0,0))∈G):Rd I G (⟨b,0,none⟩:Addr) t.enc:=Rd.of_own h 0 fun j hj=>by simp
theorem checkExpr_specB(t:Nd)(hs:t.px.size≤4194304)(I:Imm)(F:Heap)(ht:NdOk I F t):Tri P 31 #[t.v] I F (Ret (.int .i64 t.px.checkE) F):=by
 refine tree_CheckExpr.vc ?_
 unfold tree_CheckExpr.V
 intro b_n
 refine (caught_spec (n:=t.px.checkE) fun b=>TriV.fn enters_ce1 (by simp) (check1_spec hs (ht.cons.cons) (nd_rd (List.mem_cons_of_mem _ (List.mem_cons_self ..))))).mono fun e I1 G hI1 ⟨he,hG⟩=>?_
 subst hG
 exact⟨_,he,_,_,_,_,_,_,_,_,_,_,F,.refl _,rfl,rfl⟩
end Go.Lx
namespace Go.Lx
open Go.Vc
end Go.Lx
namespace Go.Lx
open Go.Vc
theorem Rd.one{b:Nat}{o:Obj}{I:Imm}{G:Heap}{cells:Array Value}{e:Nat}(h:I b=some (.cells cells e (0,0))∨(b,Obj.cells cells e (0,0))∈G)(i:Nat){v:Value}(hv:cells[i]? = some v):Rd I G (⟨b,i,none⟩:Addr) [v] :=
 ⟨rfl,cells,e,(0,0),h,fun j hj=>by
   have:j=0:=by simpa using hj
   subst this
   rw[Nat.add_zero,hv];rfl⟩
end Go.Lx
namespace Go.Vc
open Go.MapKept
def MapG{κ β:Type}(key:κ→Value)(val:β→Value)(g:κ→Option β)(es:Array MapEntry)(clock:Nat):Prop :=
 Stamped es clock∧(∀x∈es.toList,∃k b,x.key=key k∧x.val=val b∧g k=some b)∧(∀k b,g k=some b→∃x∈es.toList,x.key=key k)
theorem MapG.nil{κ β:Type}{key:κ→Value}{val:β→Value}(c:Nat):MapG key val (fun _=>none) #[] c:=⟨stamped_empty c,by simp,fun k b h=>by cases h⟩
theorem MapG.congr{κ β:Type}{key:κ→Value}{val:β→Value}{g g':κ→Option β}{es:Array MapEntry}{clock:Nat}(h:MapG key val g es clock)(e:∀k,g k=g' k):MapG key val g' es clock:=by
 rw[←funext e];exact h
theorem nodup_ne{α:Type}:∀{l:List α} {i j:Nat} {x:α},l.Nodup→i<j→l[i]? = some x→l[j]? = some x→False
 | [],_,_,_,_,_,h,_=>by simp at h
 | y::l,0,j+1,x,hn,_,h1,h2=>by
   simp only[List.getElem?_cons_zero,Option.some.injEq] at h1
   subst h1
   exact (List.nodup_cons.1 hn).1 (List.mem_of_getElem? (by simpa using h2))
 | y::l,i+1,j+1,x,hn,hl,h1,h2=>nodup_ne (l:=l) (x:=x) (i:=i) (j:=j) (List.nodup_cons.1 hn).2 (by omega) (by simpa using h1) (by simpa using h2)
def putG{κ β:Type}[DecidableEq κ](g:κ→Option β)(k:κ)(b:β):κ→Option β:=fun j=>if j=k then some b else g j
section
variable {P:Program} {κ β:Type} {d:TypeDesc} {key:κ→Value} {val:β→Value} {g:κ→Option β} {es:Array MapEntry} {clock:Nat} {t kt et:TypeId} {I:Imm} {F:Heap} {r:Nat} {k:κ} {z:Value}
theorem MapG.find(hk:∀k,IsKey d (key k))(hi:∀k k',key k=key k'→k=k')(h:MapG key val g es clock)(k:κ) :
  (Instr.findNow d (key k) es.toList 0=some none∧(∀x∈es.toList,x.key≠key k)∧g k=none) ∨
  ∃j e b,Instr.findNow d (key k) es.toList 0=some (some (j,val b))∧es[j]? = some e∧e.key=key k∧e.val=val b∧g k=some b:=by
 obtain⟨hs,h1,h2⟩:=h
 have hks:∀x∈es.toList,IsKey d x.key:=fun x hx=>by obtain⟨k',b,e,_⟩:=h1 x hx;rw[e];exact hk k'
 rcases findNow_spec (hk k) es.toList 0 hks with ⟨g1,g2⟩ | ⟨j,e,g1,g2,g3⟩
 ·refine .inl ⟨g1,g2, ?_⟩
  cases hg:g k with
  | none=>rfl
  | some b=>obtain⟨x,hx,e⟩:=h2 k b hg;exact absurd e (g2 x hx)
 ·obtain⟨k',b,e1,e2,e3⟩:=h1 e (List.mem_of_getElem? g2)
  obtain rfl:k'=k:=hi _ _ (e1.symm.trans g3)
  refine .inr ⟨j,e,b, ?_,by simpa using g2,g3,e2,e3⟩
  rw[g1,e2,Nat.zero_add]
theorem run_zero{et:TypeId}{z:Value}(hz:(P.info? et).map (·.zero)=some (some z))(w:World):(zeroValue et).run P w=.ok z w:=by
 cases h:P.info? et with
 | none=>rw[h] at hz;cases hz
 | some i =>
   rw[h] at hz
   simp only[Option.map_some,Option.some.injEq] at hz
   simp[zeroValue,typeInfo,h,hz,Result.andThen]
theorem map_at(hm:I r=some (.map es clock)∨(r,Obj.map es clock)∈F){w:World}(hw:Sat I F w):w.heap[r]? = some (.map es clock):=hm.elim (hw.imm _ _) (hw.own _ _)
theorem lookup_ok(ht:P.underlying t=some (.map kt et))(hd:P.underlying kt=some d)(hk:∀k,IsKey d (key k))(hi:∀k k',key k=key k'→k=k')(hz:(P.info? et).map (·.zero)=some (some z))
  (h:MapG key val g es clock) (hm:I r=some (.map es clock)∨(r,Obj.map es clock)∈F) (k:κ) :
  TriE P (Instr.lookup t (.map (some r)) (key k) true) I F fun v I' G=>v=.tuple #[(g k).elim z val,.bool (g k).isSome]∧I'=I∧G=F:=by
 intro w hw
 have hb:=map_at hm hw
 rcases h.find hk hi k with ⟨h1,_,hg⟩ | ⟨j,e,b,h1,_,_,_,hg⟩
 ·refine⟨_,w,I,F, ?_,Imm.le_refl I,hw,rfl,rfl,rfl⟩
  simp[Instr.lookup,run_underlying ht,MapKept.run_getObj_map hb,run_checkKey hd (hk k),run_findKey hd h1,run_zero hz,Result.andThen,hg]
 ·refine⟨_,w,I,F, ?_,Imm.le_refl I,hw,rfl,rfl,rfl⟩
  simp[Instr.lookup,run_underlying ht,MapKept.run_getObj_map hb,run_checkKey hd (hk k),run_findKey hd h1,Result.andThen,hg]
theorem lookup_one(ht:P.underlying t=some (.map kt et))(hd:P.underlying kt=some d)(hk:∀k,IsKey d (key k))(hi:∀k k',key k=key k'→k=k')(hz:(P.info? et).map (·.zero)=some (some z))
  (h:MapG key val g es clock) (hm:I r=some (.map es clock)∨(r,Obj.map es clock)∈F) (k:κ) :
  TriE P (Instr.lookup t (.map (some r)) (key k) false) I F fun v I' G=>v=(g k).elim z val∧I'=I∧G=F:=by
 intro w hw
 have hb:=map_at hm hw
 rcases h.find hk hi k with ⟨h1,_,hg⟩ | ⟨j,e,b,h1,_,_,_,hg⟩
 ·refine⟨_,w,I,F, ?_,Imm.le_refl I,hw,rfl,rfl,rfl⟩
  simp[Instr.lookup,run_underlying ht,MapKept.run_getObj_map hb,run_checkKey hd (hk k),run_findKey hd h1,run_zero hz,Result.andThen,hg]
 ·refine⟨_,w,I,F, ?_,Imm.le_refl I,hw,rfl,rfl,rfl⟩
  simp[Instr.lookup,run_underlying ht,MapKept.run_getObj_map hb,run_checkKey hd (hk k),run_findKey hd h1,Result.andThen,hg]
theorem makeMap_spec:TriE P (Instr.makeMap t none) I F fun v I' G=>∃b,v=.map (some b)∧I'=I∧G=(b,Obj.map #[] 0)::F:=by
 intro w hw
 exact⟨_,_,I,_,rfl,Imm.le_refl I,hw.alloc _,_,rfl,rfl,rfl⟩
variable [DecidableEq κ]
theorem MapG.push(hi:∀k k',key k=key k'→k=k')(h:MapG key val g es clock)(hno:∀x∈es.toList,x.key≠key k)(b:β):MapG key val (putG g k b) (es.push { key:=key k,val:=val b,born:=clock }) (clock+1):=by
 obtain⟨hs,h1,h2⟩:=h
 refine⟨stamped_push hs hno,fun x hx=>?_,fun k' b' hg=>?_⟩
 ·simp only[Array.toList_push,List.mem_append,List.mem_singleton] at hx
  rcases hx with hx | rfl
  ·obtain⟨k',b',e1,e2,e3⟩:=h1 x hx
   refine⟨k',b',e1,e2, ?_⟩
   unfold putG;rw[if_neg]
   ·exact e3
   ·intro e;subst e;exact hno x hx e1
  ·exact⟨k,b,rfl,rfl,if_pos rfl⟩
 ·unfold putG at hg
  by_cases e:k'=k
  ·subst e;exact⟨_,by simp;exact .inr rfl,rfl⟩
  ·rw[if_neg e] at hg
   obtain⟨x,hx,e⟩:=h2 k' b' hg
   exact⟨x,by simp only[Array.toList_push,List.mem_append];exact .inl hx,e⟩
theorem MapG.modify(hi:∀k k',key k=key k'→k=k')(h:MapG key val g es clock){j:Nat}{e:MapEntry}(hj:es[j]? = some e)(he:e.key=key k)(b:β){f:MapEntry→MapEntry}(hf:∀x,(f x).born=x.born)
  (hfk:∀x,x.key=key k→(f x).key=key k) (hv:∀x,(f x).val=val b):MapG key val (putG g k b) (es.modify j f) clock:=by
 obtain⟨hs,h1,h2⟩:=h
 have hkey:∀e',es[j]? = some e'→(f e').key=e'.key:=fun e' he'=>by rw[hj] at he';cases he';rw[hfk _ he,he]
 refine⟨stamped_modify hs _ _ (fun x _=>hf x) fun x _ hx=>hkey x hx,fun x hx=>?_,fun k' b' hg=>?_⟩
 ·obtain⟨i,hx'⟩:=List.mem_iff_getElem?.1 hx
  simp only[Array.getElem?_toList,Array.getElem?_modify] at hx'
  by_cases hij:j=i
  ·subst hij
   rw[if_pos rfl,hj] at hx'
   simp only[Option.map_some,Option.some.injEq] at hx'
   subst hx'
   exact⟨k,b,hfk _ he,hv _,if_pos rfl⟩
  ·rw[if_neg hij] at hx'
   obtain⟨k',b',e1,e2,e3⟩:=h1 x (List.mem_of_getElem? (by simpa using hx'))
   refine⟨k',b',e1,e2, ?_⟩
   unfold putG;rw[if_neg]
   ·exact e3
   ·intro ek;subst ek
    have hnd:=hs.2.2
    have:i<es.size:=(Array.getElem?_eq_some_iff.1 hx').1
    have:j<es.size:=(Array.getElem?_eq_some_iff.1 hj).1
    rcases Nat.lt_or_gt_of_ne hij with hlt | hlt
    ·exact nodup_ne hnd hlt (by simp[hj];exact he) (by simp[hx'];exact e1)
    ·exact nodup_ne hnd hlt (by simp[hx'];exact e1) (by simp[hj];exact he)
 ·have hk':key k'∈es.toList.map (·.key):=by
   by_cases e':k'=k
   ·subst e';exact List.mem_map.2 ⟨e,List.mem_of_getElem? (by simpa using hj),he⟩
   ·unfold putG at hg
    rw[if_neg e'] at hg
    obtain⟨x,hx,ex⟩:=h2 k' b' hg
    exact List.mem_map.2 ⟨x,hx,ex⟩
  rw[←modify_keys j f hkey] at hk'
  obtain⟨x,hx,ex⟩:=List.mem_map.1 hk'
  exact⟨x,hx,ex⟩
theorem update_spec(ht:P.underlying t=some (.map kt et))(hd:P.underlying kt=some d)(hk:∀k,IsKey d (key k))(hi:∀k k',key k=key k'→k=k')(h:MapG key val g es clock)(k:κ)(b:β) :
  TriU P (Instr.mapUpdate t (.map (some r)) (key k) (val b)) I ((r,Obj.map es clock)::F) fun I' G=>I'=I∧∃es' c',G=(r,Obj.map es' c')::F∧MapG key val (putG g k b) es' c':=by
 intro w hw
 have hb:w.heap[r]? = some (.map es clock):=hw.own _ _ (List.mem_cons_self ..)
 rcases h.find hk hi k with ⟨h1,h2,hg⟩ | ⟨j,e,b',h1,h2,h3,h4,hg⟩
 ·refine⟨_,I,_, ?_,Imm.le_refl I,hw.set (w':={ w with heap:=w.heap.setIfInBounds r (.map (es.push { key:=key k,val:=val b,born:=clock }) (clock+1)) }) rfl ⟨rfl,rfl⟩,rfl,_,_,rfl,h.push hi h2 b⟩
  simp[Instr.mapUpdate,run_underlying ht,MapKept.run_getObj_map hb,run_checkKey hd (hk k),run_findKey hd h1,run_setObj_map _ hb,Result.andThen]
 ·refine⟨_,I,_, ?_,Imm.le_refl I,hw.set (w':={ w with heap:=w.heap.setIfInBounds r (.map (es.modify j fun e=>{ e with key:=key k,val:=val b }) clock) }) rfl ⟨rfl,rfl⟩,rfl,_,_,rfl,h.modify hi h2 h3 b (fun _=>rfl) (fun _ _=>rfl) (fun _=>rfl)⟩
  simp[Instr.mapUpdate,run_underlying ht,MapKept.run_getObj_map hb,run_checkKey hd (hk k),run_findKey hd h1,h2,h3,run_keyThatStays (hk k),run_setObj_map _ hb,Result.andThen]
end
end Go.Vc
namespace Go.Vc
theorem TriU.perm{P:Program}{s:Sem Unit}{I:Imm}{F G:Heap}{Q:Imm→Heap→Prop}(h:TriU P s I F Q)(p:G.Perm F):TriU P s I G Q:=fun w hw=>h w (hw.perm p)
theorem TriU.mono{P:Program}{s:Sem Unit}{I:Imm}{F:Heap}{Q Q':Imm→Heap→Prop}(h:TriU P s I F Q)(k:∀I' F',Imm.le I I'→Q I' F'→Q' I' F'):TriU P s I F Q' :=
 fun w hw=>let ⟨w',I',F',hr,hl,hs,hq⟩:=h w hw;⟨w',I',F',hr,hl,hs,k _ _ hl hq⟩
theorem str_key:∀s:ByteArray,MapKept.IsKey .string (Value.string s):=fun _=>trivial
theorem str_inj:∀s t:ByteArray,Value.string s=Value.string t→s=t:=fun _ _ h=>by cases h;rfl
end Go.Vc
namespace Go.Lx
open Go.Vc
end Go.Lx
namespace Go.Lx
open Go.Vc
def Met(l:List ByteArray)(k:Nat)(g:ByteArray→Option Int):Prop:=∀s,(hasS l s=true→∃m,g s=some m∧1≤m∧m≤k)∧(hasS l s=false→g s=none)
theorem Met.nil:Met [] 0 fun _=>none:=fun s=>⟨fun h=>by simp[hasS] at h,fun _=>rfl⟩
theorem Met.mono{l:List ByteArray}{k:Nat}{g:ByteArray→Option Int}(h:Met l k g):Met l (k+1) g:=fun s=>⟨fun hs=>let ⟨m,h1,h2,h3⟩:=(h s).1 hs;⟨m,h1,h2,by omega⟩,(h s).2⟩
theorem Met.new{l:List ByteArray}{k:Nat}{g:ByteArray→Option Int}(h:Met l k g){s:ByteArray}:Met (l++[s]) (k+1) (putG g s 1):=fun t=>by
 have e:hasS (l++[s]) t=(hasS l t||decide (s=t)):=by unfold hasS;rw[List.any_append];simp
 rw[e]
 unfold putG
 by_cases hts:t=s
 ·subst hts;rw[if_pos rfl];exact⟨fun _=>⟨1,rfl,by omega,by omega⟩,fun h=>by simp at h⟩
 ·rw[if_neg hts]
  have:decide (s=t)=false:=decide_eq_false fun e=>hts e.symm
  rw[this,Bool.or_false];exact h.mono t
theorem Met.more{l:List ByteArray}{k:Nat}{g:ByteArray→Option Int}(h:Met l k g){s:ByteArray}{m:Int}(hs:hasS l s=true)(h1:1≤m)(h2:m≤k):Met l (k+1) (putG g s (m+1)):=fun t=>by
 unfold putG
 by_cases hts:t=s
 ·subst hts;rw[if_pos rfl];exact⟨fun _=>⟨_,rfl,by omega,by omega⟩,fun h=>by rw[hs] at h;cases h⟩
 ·rw[if_neg hts];exact h.mono t
end Go.Lx
namespace Go.Lx
open Go.Vc
structure RegP where
 name:ByteArray
 typ:Int
 init:Px
 pos:Int
structure SlotP where
 name:ByteArray
 pos:Int
structure DoP where
 kind:Int
 order:Int
 name:ByteArray
 side:Px
 qty:Px
 price:Px
 value:Px
 pos:Int
structure RuleP where
 when:Px
 dos:List DoP
 pos:Int
structure StateP where
 name:ByteArray
 rules:List RuleP
 pos:Int
structure StgP where
 name:ByteArray
 regs:List RegP
 slots:List SlotP
 states:List StateP
structure RegN where
 name:ByteArray
 typ:Int
 init:Nd
 pos:Int
structure DoN where
 kind:Int
 order:Int
 name:ByteArray
 side:Nd
 qty:Nd
 price:Nd
 value:Nd
 pos:Int
structure RuleN where
 when:Nd
 a:Option Addr
 c:Nat
 dos:List DoN
 pos:Int
structure StateN where
 name:ByteArray
 a:Option Addr
 c:Nat
 rules:List RuleN
 pos:Int
structure StgN where
 name:ByteArray
 ra:Option Addr
 rc:Nat
 regs:List RegN
 sa:Option Addr
 sc:Nat
 slots:List SlotP
 ta:Option Addr
 tc:Nat
 states:List StateN
def RegN.p(r:RegN):RegP:=⟨r.name,r.typ,r.init.px,r.pos⟩
def DoN.p(d:DoN):DoP:=⟨d.kind,d.order,d.name,d.side.px,d.qty.px,d.price.px,d.value.px,d.pos⟩
def RuleN.p(r:RuleN):RuleP:=⟨r.when.px,r.dos.map DoN.p,r.pos⟩
def StateN.p(s:StateN):StateP:=⟨s.name,s.rules.map RuleN.p,s.pos⟩
def StgN.p(s:StgN):StgP:=⟨s.name,s.regs.map RegN.p,s.slots,s.states.map StateN.p⟩
abbrev RegN.enc(r:RegN):List Value:=[.string r.name,.int .u8 r.typ,.int .u8 r.init.kind,.int .u8 r.init.oper,.int .u8 r.init.typ,.int .i64 r.init.n,.int .u8 r.init.field,.string r.init.name,.slice r.init.a r.init.kids.length r.init.c,.int .i64 r.init.pos,.int .i64 r.pos]
abbrev SlotP.enc(r:SlotP):List Value:=[.string r.name,.int .i64 r.pos]
abbrev DoN.enc(d:DoN):List Value:=[.int .u8 d.kind,.int .u8 d.order,.string d.name,.int .u8 d.side.kind,.int .u8 d.side.oper,.int .u8 d.side.typ,.int .i64 d.side.n,.int .u8 d.side.field,.string d.side.name,.slice d.side.a d.side.kids.length d.side.c,.int .i64 d.side.pos,.int .u8 d.qty.kind,.int .u8 d.qty.oper,.int .u8 d.qty.typ,.int .i64 d.qty.n,.int .u8 d.qty.field,.string d.qty.name,.slice d.qty.a d.qty.kids.length d.qty.c,.int .i64 d.qty.pos,.int .u8 d.price.kind,.int .u8 d.price.oper,.int .u8 d.price.typ,.int .i64 d.price.n,.int .u8 d.price.field,.string d.price.name,.slice d.price.a d.price.kids.length d.price.c,.int .i64 d.price.pos,.int .u8 d.value.kind,.int .u8 d.value.oper,.int .u8 d.value.typ,.int .i64 d.value.n,.int .u8 d.value.field,.string d.value.name,.slice d.value.a d.value.kids.length d.value.c,.int .i64 d.value.pos,.int .i64 d.pos]
abbrev RuleN.enc(r:RuleN):List Value:=[.int .u8 r.when.kind,.int .u8 r.when.oper,.int .u8 r.when.typ,.int .i64 r.when.n,.int .u8 r.when.field,.string r.when.name,.slice r.when.a r.when.kids.length r.when.c,.int .i64 r.when.pos,.slice r.a r.dos.length r.c,.int .i64 r.pos]
abbrev StateN.enc(s:StateN):List Value:=[.string s.name,.slice s.a s.rules.length s.c,.int .i64 s.pos]
abbrev RegN.v(r:RegN):Value:=.agg #[.string r.name,.int .u8 r.typ,.int .u8 r.init.kind,.int .u8 r.init.oper,.int .u8 r.init.typ,.int .i64 r.init.n,.int .u8 r.init.field,.string r.init.name,.slice r.init.a r.init.kids.length r.init.c,.int .i64 r.init.pos,.int .i64 r.pos]
abbrev SlotP.v(r:SlotP):Value:=.agg #[.string r.name,.int .i64 r.pos]
abbrev DoN.v(d:DoN):Value:=.agg #[.int .u8 d.kind,.int .u8 d.order,.string d.name,.int .u8 d.side.kind,.int .u8 d.side.oper,.int .u8 d.side.typ,.int .i64 d.side.n,.int .u8 d.side.field,.string d.side.name,.slice d.side.a d.side.kids.length d.side.c,.int .i64 d.side.pos,.int .u8 d.qty.kind,.int .u8 d.qty.oper,.int .u8 d.qty.typ,.int .i64 d.qty.n,.int .u8 d.qty.field,.string d.qty.name,.slice d.qty.a d.qty.kids.length d.qty.c,.int .i64 d.qty.pos,.int .u8 d.price.kind,.int .u8 d.price.oper,.int .u8 d.price.typ,.int .i64 d.price.n,.int .u8 d.price.field,.string d.price.name,.slice d.price.a d.price.kids.length d.price.c,.int .i64 d.price.pos,.int .u8 d.value.kind,.int .u8 d.value.oper,.int .u8 d.value.typ,.int .i64 d.value.n,.int .u8 d.value.field,.string d.value.name,.slice d.value.a d.value.kids.length d.value.c,.int .i64 d.value.pos,.int .i64 d.pos]
abbrev RuleN.v(r:RuleN):Value:=.agg #[.int .u8 r.when.kind,.int .u8 r.when.oper,.int .u8 r.when.typ,.int .i64 r.when.n,.int .u8 r.when.field,.string r.when.name,.slice r.when.a r.when.kids.length r.when.c,.int .i64 r.when.pos,.slice r.a r.dos.length r.c,.int .i64 r.pos]
abbrev StateN.v(s:StateN):Value:=.agg #[.string s.name,.slice s.a s.rules.length s.c,.int .i64 s.pos]
abbrev StgN.enc(s:StgN):List Value:=[.string s.name,.slice s.ra s.regs.length s.rc,.slice s.sa s.slots.length s.sc,.slice s.ta s.states.length s.tc]
abbrev StgN.v(s:StgN):Value:=.agg #[.string s.name,.slice s.ra s.regs.length s.rc,.slice s.sa s.slots.length s.sc,.slice s.ta s.states.length s.tc]
def RegN.Ok(I:Imm)(G:Heap)(r:RegN):Prop:=NdOk I G r.init
def DoN.Ok(I:Imm)(G:Heap)(d:DoN):Prop:=NdOk I G d.side∧NdOk I G d.qty∧NdOk I G d.price∧NdOk I G d.value
def RuleN.Ok(I:Imm)(G:Heap)(r:RuleN):Prop:=NdOk I G r.when∧SlG I G 36 DoN.enc r.a r.dos.length r.dos∧∀d∈r.dos,d.Ok I G
def StateN.Ok(I:Imm)(G:Heap)(s:StateN):Prop:=SlG I G 10 RuleN.enc s.a s.rules.length s.rules∧∀r∈s.rules,r.Ok I G
structure StgN.Ok (I:Imm) (G:Heap) (s:StgN):Prop where
 regs:SlG I G 11 RegN.enc s.ra s.regs.length s.regs
 reg:∀r∈s.regs,r.Ok I G
 slots:SlG I G 2 SlotP.enc s.sa s.slots.length s.slots
 states:SlG I G 3 StateN.enc s.ta s.states.length s.states
 state:∀x∈s.states,x.Ok I G
section
variable {I J:Imm} {G H:Heap}
theorem RegN.Ok.mono{r:RegN}(h:r.Ok I G)(hl:Imm.le I J)(hs:∀x,x∈G→x∈H):r.Ok J H:=NdOk.mono h hl hs
theorem DoN.Ok.mono{d:DoN}(h:d.Ok I G)(hl:Imm.le I J)(hs:∀x,x∈G→x∈H):d.Ok J H:=⟨h.1.mono hl hs,h.2.1.mono hl hs,h.2.2.1.mono hl hs,h.2.2.2.mono hl hs⟩
theorem RuleN.Ok.mono{r:RuleN}(h:r.Ok I G)(hl:Imm.le I J)(hs:∀x,x∈G→x∈H):r.Ok J H:=⟨h.1.mono hl hs,h.2.1.mono hl hs,fun d hd=>(h.2.2 d hd).mono hl hs⟩
theorem StateN.Ok.mono{s:StateN}(h:s.Ok I G)(hl:Imm.le I J)(hs:∀x,x∈G→x∈H):s.Ok J H:=⟨h.1.mono hl hs,fun r hr=>(h.2 r hr).mono hl hs⟩
theorem StgN.Ok.mono{s:StgN}(h:s.Ok I G)(hl:Imm.le I J)(hs:∀x,x∈G→x∈H):s.Ok J H :=
 ⟨h.regs.mono hl hs,fun r hr=>(h.reg r hr).mono hl hs,h.slots.mono hl hs,h.states.mono hl hs,fun r hr=>(h.state r hr).mono hl hs⟩
theorem StgN.Ok.cons{s:StgN}(h:s.Ok I G){x:Nat×Obj}:s.Ok I (x::G):=h.mono (Imm.le_refl I) fun _ h=>List.mem_cons_of_mem _ h
theorem RuleN.Ok.cons{s:RuleN}(h:s.Ok I G){x:Nat×Obj}:s.Ok I (x::G):=h.mono (Imm.le_refl I) fun _ h=>List.mem_cons_of_mem _ h
theorem StateN.Ok.cons{s:StateN}(h:s.Ok I G){x:Nat×Obj}:s.Ok I (x::G):=h.mono (Imm.le_refl I) fun _ h=>List.mem_cons_of_mem _ h
theorem DoN.Ok.cons{s:DoN}(h:s.Ok I G){x:Nat×Obj}:s.Ok I (x::G):=h.mono (Imm.le_refl I) fun _ h=>List.mem_cons_of_mem _ h
end
def DoP.nds(d:DoP):List Px:=[d.side,d.qty,d.price,d.value]
def RuleP.nds(r:RuleP):List Px:=r.when::r.dos.flatMap DoP.nds
def StgP.nds(s:StgP):List Px:=s.regs.map RegP.init++s.states.flatMap fun x=>x.rules.flatMap RuleP.nds
def errB(b:Bool)(n:Int):Int:=if b then 0 else n
def thenE(a b:Int):Int:=if a=0 then b else a
def Px.noneB(x:Px):Bool:=x.kind==0&&(x.oper==0&&(x.typ==0&&(x.n==0&&(x.field==0&&(x.name.toList==[])))))&&decide (x.kids.length=0)
def partE(is:Bool)(x:Px):Int:=if is then x.checkE else errB x.noneB 120
def Px.beginB(x:Px):Bool:=if x.kind=5∧x.oper=1 then (match x.kids with | k::_=>decide (k.kind=1∧k.typ≤4) | []=>false) else decide (x.kind=1)
def RegP.check(r:RegP):Int:=errB (nameB r.name&&(decide (1≤r.typ∧r.typ≤6)&&(r.init.formed&&r.init.beginB))) 120
def DoP.kindB(d:DoP):Bool:=decide (1≤d.kind∧d.kind≤6)
def DoP.orderB(d:DoP):Bool:=decide (d.kind=1∧1≤d.order∧d.order≤5∨d.kind≠1∧d.order=0)
def DoP.nameB(d:DoP):Bool:=if d.kind=6 then d.name.toList==[] else if d.kind≠1∨d.name.toList≠[] then Lx.nameB d.name else true
def DoP.check(d:DoP):Int:=thenE (errB d.kindB 120) (thenE (errB d.orderB 120) (thenE (errB d.nameB 120) (thenE (partE (decide (d.kind=1)) d.side) (thenE (partE (decide (d.kind=1∨d.kind=2)) d.qty)
 (thenE (partE (decide (d.kind=1∧d.order≠2∨d.kind=2)) d.price) (partE (decide (d.kind=4)) d.value))))))
def firstE{α:Type}(f:α→Int):List α→Int
 | []=>0
 | x::r=>thenE (f x) (firstE f r)
def RuleP.check(r:RuleP):Int:=thenE r.when.checkE (thenE (errB (decide (0<r.dos.length)) 120) (thenE (errB (decide (r.dos.length≤8)) 121) (firstE DoP.check r.dos)))
def StateP.check(s:StateP):Int:=thenE (errB (nameB s.name) 120) (thenE (errB (decide (s.rules.length≤12)) 121) (firstE RuleP.check s.rules))
def SlotP.check(s:SlotP):Int:=errB (nameB s.name) 120
def StgP.check(s:StgP):Int:=thenE (errB (nameB s.name) 120) (thenE (errB (decide (s.regs.length≤12)) 121) (thenE (firstE RegP.check s.regs) (thenE (errB (decide (s.slots.length≤4)) 121) (thenE (firstE SlotP.check s.slots)
 (thenE (errB (decide (0<s.states.length)) 120) (thenE (errB (decide (s.states.length≤12)) 121) (firstE StateP.check s.states)))))))
theorem firstE_take{α:Type}(f:α→Int){l:List α}{i:Nat}{x:α}(h:l[i]? = some x):firstE f (l.drop i)=thenE (f x) (firstE f (l.drop (i+1))):=by
 obtain⟨hk,rfl⟩:=List.getElem?_eq_some_iff.1 h
 rw[List.drop_eq_getElem_cons hk,firstE]
theorem thenE_zero(b:Int):thenE 0 b=b:=rfl
theorem thenE_ne{a:Int}(h:a≠0)(b:Int):thenE a b=a:=if_neg h
theorem thenE_assoc(a b c:Int):thenE (thenE a b) c=thenE a (thenE b c):=by unfold thenE;split<;>simp[*]
end Go.Lx
namespace Go.Lx
open Go.Vc Go.Proofs.Tryz
def shT_t4:List (Nat×List Sh):=[(0,[]),(4,[.one .bool]),(9,[.one .str]),(28,[.agg [(.int .u8),(.int .u8),(.int .u8),(.int .i64),(.int .u8),.str,.slc,(.int .i64)]]),(35,[.one .slc]),(36,[.one .slc]),(37,[.one .slc]),(39,[.agg [.str,.slc,.slc,.slc]]),(47,[.one (.int .i64)]),(65,[.agg [.str,.slc,(.int .i64)]]),(77,[.agg [.str,(.int .u8),(.int .u8),(.int .u8),(.int .u8),(.int .i64),(.int .u8),.str,.slc,(.int .i64),(.int .i64)]]),(79,[.agg [.str,(.int .i64)]]),(84,[.agg [(.int .u8),(.int .u8),(.int .u8),(.int .i64),(.int .u8),.str,.slc,(.int .i64),.slc,(.int .i64)]]),(99,[.agg [(.int .u8),(.int .u8),.str,(.int .u8),(.int .u8),(.int .u8),(.int .i64),(.int .u8),.str,.slc,(.int .i64),(.int .u8),(.int .u8),(.int .u8),(.int .i64),(.int .u8),.str,.slc,(.int .i64),(.int .u8),(.int .u8),(.int .u8),(.int .i64),(.int .u8),.str,.slc,(.int .i64),(.int .u8),(.int .u8),(.int .u8),(.int .i64),(.int .u8),.str,.slc,(.int .i64),(.int .i64)]]),(199,[.agg [(.int .u8),(.int .u8),(.int .u8),(.int .i64),(.int .u8),.str]])]
def tree_Check.V(vl:OA→Nat→Nat→Value)(v:Bs)(k:OA)(l m:Nat)(n:OA)(o p:Nat)(q:OA)(s t:Nat)(I:Imm)(F:Heap)(Q:PostQ)  : Prop:=∀j:Nat,Tri P 57 (#[.func (.func 103) #[] #[.pointer (some ⟨j,0,none⟩)]]) I ((j,Obj.cells #[.string v,vl k l m,vl n o p,vl q s t] 39 (0,0))::F) fun e1 I1 G1=>∃(r:Int),e1=.returned (.int .i64 r)∧∃(u:Bs) (a:OA) (b c:Nat) (d:OA) (e f:Nat) (g:OA) (h i:Nat),∃F1:Heap,List.Perm G1 ((j,Obj.cells #[.string u,vl a b c,vl d e f,vl g h i] 39 (0,0))::F1)∧Q (.returned (.int .i64 r)) I1 (F1)
theorem tree_Check.vc{k:Bs}{a:OA}{b c:Nat}{d:OA}{e f:Nat}{g:OA}{i j:Nat}{I:Imm}{F:Heap}{Q:PostQ}  (h:tree_Check.V .slice k a b c d e f g i j I F Q):Tri P 64 #[.agg #[.string k,.slice a b c,.slice d e f,.slice g i j]] I F Q :=
 tw (A:=(an [] [57] shT_t4)) [57] func64 h
def tree_Check_1.V(ka:Nat→Bs→Int→Int→Int→Int→Int→Int→Bs→OA→Nat→Nat→Int→Int→Nat×Obj)(kb:Nat→Bs→OA→Nat→Nat→Int→Nat×Obj)(nV:Int→Int→Int→Int→Int→Bs→OA→Nat→Nat→Int→Value)(vb vi:Int→Value)(vs:Bs→Value)(vl:OA→Nat→Nat→Value)(vt:Bool→Value)(wr:Int→Int)(c:Addr)(I:Imm)(F:Heap)(Q:PostQ)(Inv8:Int→Nat→Imm→Heap→Imm→Heap→Prop)(Inv31:Int→Nat→Imm→Heap→Imm→Heap→Prop)(Inv51:Int→Nat→Imm→Heap→Imm→Heap→Prop)(Inv69:Int→Int→Nat→Imm→Heap→Imm→Heap→Prop):Prop:=∃(m:Bs),Rd I F (c.add 0) [vs m]∧Tri P 104 #[vs m] I F fun e1 I1 G1=>((e1=.returned (.tuple #[])∧∃F1:Heap,List.Perm G1 F1∧∃(a9:OA) (aF ba:Nat),Rd I1 F1 (c.add 1) [vl a9 aF ba]∧Tri P 98 (#[vt (decide ((aF:Int)≤12)),vi 121]) I1 F1 fun e2 I2 G2=>((e2=.returned (.tuple #[])∧∃F2:Heap,List.Perm G2 F2∧∃(au:OA) (an a0:Nat),Rd I2 F2 (c.add 1) [vl au an a0]∧(∃m1:Nat,Inv8 0 m1 I2 F2 I2 F2)∧∀(x:Int) (m2:Nat) (I3:Imm) (F3:Heap),Imm.le I2 I3→Inv8 x m2 I2 F2 I3 F3→(Dt (x<(an:Int)) ((0≤x∧x<(an:Int))∧∃ad:Addr,au=some ad∧∃(r:Bs) (h j k l n o:Int) (p:Bs) (a:OA) (b d:Nat) (q f:Int),Rd I3 F3 (ad.add (Int.toNat x*11)) [vs r,vb h,vb j,vb k,vb l,vi n,vb o,vs p,vl a b d,vi q,vi f]∧∀u:Nat,Tri P 104 #[vs r] I3 ((ka u r h j k l n o p a b d q f)::F3) fun e3 I4 G3=>((e3=.returned (.tuple #[])∧∃F4:Heap,List.Perm G3 ((ka u r h j k l n o p a b d q f)::F4)∧(Dt (1≤h) (Tri P 98 (#[vt (decide (h≤6)),vi 120]) I4 ((ka u r h j k l n o p a b d q f)::F4) fun e4 I5 G4=>((e4=.returned (.tuple #[])∧∃F5:Heap,List.Perm G4 ((ka u r h j k l n o p a b d q f)::F5)∧Tri P 105 #[nV j k l n o p a b d q] I5 ((ka u r h j k l n o p a b d q f)::F5) fun e5 I6 G5=>((e5=.returned (.tuple #[])∧∃F6:Heap,List.Perm G5 ((ka u r h j k l n o p a b d q f)::F6)∧(∃m3:Nat,m3<m2∧Inv8 (wr (x+1)) m3 I2 F2 I6 F6))∨(∃ch:List PanicEntry,e5=.panicked ch∧∃F7:Heap,List.Perm G5 ((ka u r h j k l n o p a b d q f)::F7)∧Q (.panicked ch) I6 F7)))∨(∃aH:List PanicEntry,e4=.panicked aH∧∃F8:Heap,List.Perm G4 ((ka u r h j k l n o p a b d q f)::F8)∧Q (.panicked aH) I5 F8))) (Tri P 98 #[vt false,vi 120] I4 ((ka u r h j k l n o p a b d q f)::F4) fun e6 I7 G6=>((e6=.returned (.tuple #[])∧∃F9:Heap,List.Perm G6 ((ka u r h j k l n o p a b d q f)::F9)∧Tri P 105 #[nV j k l n o p a b d q] I7 ((ka u r h j k l n o p a b d q f)::F9) fun e7 I8 G7=>((e7=.returned (.tuple #[])∧∃F10:Heap,List.Perm G7 ((ka u r h j k l n o p a b d q f)::F10)∧(∃m4:Nat,m4<m2∧Inv8 (wr (x+1)) m4 I2 F2 I8 F10))∨(∃aI:List PanicEntry,e7=.panicked aI∧∃F11:Heap,List.Perm G7 ((ka u r h j k l n o p a b d q f)::F11)∧Q (.panicked aI) I8 F11)))∨(∃aJ:List PanicEntry,e6=.panicked aJ∧∃F12:Heap,List.Perm G6 ((ka u r h j k l n o p a b d q f)::F12)∧Q (.panicked aJ) I7 F12)))))∨(∃aK:List PanicEntry,e3=.panicked aK∧∃F13:Heap,List.Perm G3 ((ka u r h j k l n o p a b d q f)::F13)∧Q (.panicked aK) I4 F13))) (∃(a1:OA) (av a2:Nat),Rd I3 F3 (c.add 2) [vl a1 av a2]∧Tri P 98 (#[vt (decide ((av:Int)≤4)),vi 121]) I3 F3 fun e8 I9 G8=>((e8=.returned (.tuple #[])∧∃F14:Heap,List.Perm G8 F14∧∃(aw:OA) (ao a3:Nat),Rd I9 F14 (c.add 2) [vl aw ao a3]∧(∃m5:Nat,Inv31 0 m5 I9 F14 I9 F14)∧∀(x1:Int) (m6:Nat) (I10:Imm) (F15:Heap),Imm.le I9 I10→Inv31 x1 m6 I9 F14 I10 F15→(Dt (x1<(ao:Int)) ((0≤x1∧x1<(ao:Int))∧∃aL:Addr,aw=some aL∧∃(ae:Bs) (ap:Int),Rd I10 F15 (aL.add (Int.toNat x1*2)) [vs ae,vi ap]∧∀aA:Nat,Tri P 104 #[vs ae] I10 ((aA,Obj.cells #[vs ae,vi ap] 79 (0,0))::F15) fun e9 I11 G9=>((e9=.returned (.tuple #[])∧∃F16:Heap,List.Perm G9 ((aA,Obj.cells #[vs ae,vi ap] 79 (0,0))::F16)∧(∃m7:Nat,m7<m6∧Inv31 (wr (x1+1)) m7 I9 F14 I11 F16))∨(∃aM:List PanicEntry,e9=.panicked aM∧∃F17:Heap,List.Perm G9 ((aA,Obj.cells #[vs ae,vi ap] 79 (0,0))::F17)∧Q (.panicked aM) I11 F17))) (∃(a4:OA) (ax a5:Nat),Rd I10 F15 (c.add 3) [vl a4 ax a5]∧Tri P 98 (#[vt (decide ((ax:Int)>0)),vi 120]) I10 F15 fun aV I12 G10=>((aV=.returned (.tuple #[])∧∃F18:Heap,List.Perm G10 F18∧∃(a6:OA) (ay a7:Nat),Rd I12 F18 (c.add 3) [vl a6 ay a7]∧Tri P 98 (#[vt (decide ((ay:Int)≤12)),vi 121]) I12 F18 fun aW I13 G11=>((aW=.returned (.tuple #[])∧∃F19:Heap,List.Perm G11 F19∧∃(az:OA) (aq a8:Nat),Rd I13 F19 (c.add 3) [vl az aq a8]∧(∃m8:Nat,Inv51 0 m8 I13 F19 I13 F19)∧∀(x2:Int) (m9:Nat) (I14:Imm) (F20:Heap),Imm.le I13 I14→Inv51 x2 m9 I13 F19 I14 F20→(Dt (x2<(aq:Int)) ((0≤x2∧x2<(aq:Int))∧∃aN:Addr,az=some aN∧∃(s:Bs) (g:OA) (e i:Nat) (t:Int),Rd I14 F20 (aN.add (Int.toNat x2*3)) [vs s,vl g e i,vi t]∧∀v:Nat,Tri P 104 #[vs s] I14 ((kb v s g e i t)::F20) fun aX I15 G12=>((aX=.returned (.tuple #[])∧∃F21:Heap,List.Perm G12 ((kb v s g e i t)::F21)∧Tri P 98 (#[vt (decide ((e:Int)≤12)),vi 121]) I15 ((kb v s g e i t)::F21) fun aY I16 G13=>((aY=.returned (.tuple #[])∧∃F22:Heap,List.Perm G13 ((kb v s g e i t)::F22)∧(∃bb:Nat,Inv69 x2 0 bb I16 F22 I16 F22)∧∀(x3:Int) (aG:Nat) (I17:Imm) (F23:Heap),Imm.le I16 I17→Inv69 x2 x3 aG I16 F22 I17 F23→(Dt (x3<(e:Int)) ((0≤x3∧x3<(e:Int))∧∃aO:Addr,g=some aO∧∃(af ag ah ai aj:Int) (ak:Bs) (aa:OA) (ab ac:Nat) (al:Int) (w:OA) (y z:Nat) (am:Int),Rd I17 ((kb v s g e i t)::F23) (aO.add (Int.toNat x3*10)) [vb af,vb ag,vb ah,vi ai,vb aj,vs ak,vl aa ab ac,vi al,vl w y z,vi am]∧∀ar:Nat,Tri P 106 #[.agg #[vb af,vb ag,vb ah,vi ai,vb aj,vs ak,vl aa ab ac,vi al,vl w y z,vi am]] I17 ((kb v s g e i t)::(ar,Obj.cells #[vb af,vb ag,vb ah,vi ai,vb aj,vs ak,vl aa ab ac,vi al,vl w y z,vi am] 84 (0,0))::F23) fun aZ I18 G14=>((aZ=.returned (.tuple #[])∧∃F24:Heap,List.Perm G14 ((kb v s g e i t)::(ar,Obj.cells #[vb af,vb ag,vb ah,vi ai,vb aj,vs ak,vl aa ab ac,vi al,vl w y z,vi am] 84 (0,0))::F24)∧(∃aP:Nat,aP<aG∧Inv69 x2 (wr (x3+1)) aP I16 F22 I18 F24))∨(∃aQ:List PanicEntry,aZ=.panicked aQ∧∃F25:Heap,List.Perm G14 ((kb v s g e i t)::(ar,Obj.cells #[vb af,vb ag,vb ah,vi ai,vb aj,vs ak,vl aa ab ac,vi al,vl w y z,vi am] 84 (0,0))::F25)∧Q (.panicked aQ) I18 F25))) (∃aR:Nat,aR<m9∧Inv51 (wr (x2+1)) aR I13 F19 I17 F23)))∨(∃aS:List PanicEntry,aY=.panicked aS∧∃F26:Heap,List.Perm G13 ((kb v s g e i t)::F26)∧Q (.panicked aS) I16 F26)))∨(∃aT:List PanicEntry,aX=.panicked aT∧∃F27:Heap,List.Perm G12 ((kb v s g e i t)::F27)∧Q (.panicked aT) I15 F27))) (Q (.returned (.tuple #[])) I14 F20)))∨(∃aU:List PanicEntry,aW=.panicked aU∧∃F28:Heap,List.Perm G11 F28∧Q (.panicked aU) I13 F28)))∨(∃aB:List PanicEntry,aV=.panicked aB∧∃F29:Heap,List.Perm G10 F29∧Q (.panicked aB) I12 F29)))))∨(∃aC:List PanicEntry,e8=.panicked aC∧∃F30:Heap,List.Perm G8 F30∧Q (.panicked aC) I9 F30)))))∨(∃aD:List PanicEntry,e2=.panicked aD∧∃F31:Heap,List.Perm G2 F31∧Q (.panicked aD) I2 F31)))∨(∃aE:List PanicEntry,e1=.panicked aE∧∃F32:Heap,List.Perm G1 F32∧Q (.panicked aE) I1 F32))
theorem tree_Check_1.vc{c:Addr}{I:Imm}{F:Heap}{Q:PostQ}(Inv8:Int→Nat→Imm→Heap→Imm→Heap→Prop)(Inv31:Int→Nat→Imm→Heap→Imm→Heap→Prop)(Inv51:Int→Nat→Imm→Heap→Imm→Heap→Prop)(Inv69:Int→Int→Nat→Imm→Heap→Imm→Heap→Prop)(h:tree_Check_1.V (fun W a b c d e f g h i j k l m=>(W,Obj.cells #[.string a,.int .u8 b,.int .u8 c,.int .u8 d,.int .u8 e,.int .i64 f,.int .u8 g,.string h,.slice i j k,.int .i64 l,.int .i64 m] 77 (0,0))) (fun W a b c d e=>(W,Obj.cells #[.string a,.slice b c d,.int .i64 e] 65 (0,0))) (fun k o t n f s a l c q=>.agg #[.int .u8 k,.int .u8 o,.int .u8 t,.int .i64 n,.int .u8 f,.string s,.slice a l c,.int .i64 q]) (.int .u8) (.int .i64) .string .slice .bool (IntKind.wrap .i64) c I F Q Inv8 Inv31 Inv51 Inv69):Tri P 103 #[.pointer (some c)] I F Q :=
 tw (A:=(annL [3000,6002,11000,18000,23000] [98,104,105,106] [98,104,105,106] shT_t4 [(8,⟨[(20,(.int .i64))],[],fun fs I0 F0 vs m I F=>match fs,vs with | [],[.int _ y0]=>Inv8 y0 m I0 F0 I F | _,_=>False,[],[]⟩),(31,⟨[(48,(.int .i64))],[],fun fs I0 F0 vs m I F=>match fs,vs with | [],[.int _ y0]=>Inv31 y0 m I0 F0 I F | _,_=>False,[],[]⟩),(51,⟨[(69,(.int .i64))],[],fun fs I0 F0 vs m I F=>match fs,vs with | [],[.int _ y0]=>Inv51 y0 m I0 F0 I F | _,_=>False,[],[]⟩),(69,⟨[(84,(.int .i64))],[],fun fs I0 F0 vs m I F=>match fs,vs with | [.int _ y0],[.int _ y1]=>Inv69 y0 y1 m I0 F0 I F | _,_=>False,[69],[]⟩)] [] [] [] [] [] [])) [98,104,105,106] func103 h
def tree_named.V(s:Bs)(I:Imm)(F:Heap)(Q:PostQ)  : Prop:=Tc1 P 126 #[.string s] I (·) F .bool fun r I1 F1=>Tri P 98 #[.bool r,.int .i64 120] I1 F1 fun e2 I2 G2=>((e2=.returned (.tuple #[])∧∃F2:Heap,List.Perm G2 F2∧Q (.returned (.tuple #[])) I2 F2)∨(∃ch:List PanicEntry,e2=.panicked ch∧∃F3:Heap,List.Perm G2 F3∧Q (.panicked ch) I2 F3))
theorem tree_named.vc{s:Bs}{I:Imm}{F:Heap}{Q:PostQ}  (h:tree_named.V s I F Q):Tri P 104 #[.string s] I F Q :=
 tw (A:=(annL [] [98] [98,126] shT_t4 [] [] [] [] [] [] [])) [98,126] func104 h
def tree_unnamed.V(a:Nat→Nat×Obj)(vb vi:Int→Value)(vs:Bs→Value)(m n o p r:Int)(s:Bs)(d:OA)(c e:Nat)(t:Int)(I:Imm)(F:Heap)(Q:PostQ)  : Prop:=∀b:Nat,Tcn P 127 #[.agg #[vb m,vb n,vb o,vi p,vb r,vs s,.slice d c e,vi t]] I ((a b)::·) F fun e1 I1 G1=>∃(f g h i j:Int) (k:Bs),e1=.returned (.agg #[vb f,vb g,vb h,vi i,vb j,vs k])∧G1 fun F1=>∃q:Bool,BinRun P .eql 199 (.tmp 3) (.tmp 4) (.agg #[vb f,vb g,vb h,vi i,vb j,vs k]) (.agg #[vb 0,vb 0,vb 0,vi 0,vb 0,vs (⟨#[]⟩:Bs)]) q∧(It q (Tri P 98 (#[.bool ((c:Int)==0),vi 120]) I1 ((a b)::F1) fun e2 I2 G2=>((e2=.returned (.tuple #[])∧∃F2:Heap,List.Perm G2 ((a b)::F2)∧Q (.returned (.tuple #[])) I2 F2)∨(∃ch:List PanicEntry,e2=.panicked ch∧∃F3:Heap,List.Perm G2 ((a b)::F3)∧Q (.panicked ch) I2 F3))) (Tri P 98 #[.bool false,vi 120] I1 ((a b)::F1) fun e3 I3 G3=>((e3=.returned (.tuple #[])∧∃F4:Heap,List.Perm G3 ((a b)::F4)∧Q (.returned (.tuple #[])) I3 F4)∨(∃l:List PanicEntry,e3=.panicked l∧∃F5:Heap,List.Perm G3 ((a b)::F5)∧Q (.panicked l) I3 F5))))
theorem tree_unnamed.vc{e f g i j:Int}{k:Bs}{a:OA}{c d:Nat}{l:Int}{I:Imm}{F:Heap}{Q:PostQ}  (h:tree_unnamed.V (fun b=>(b,Obj.cells #[.int .u8 e,.int .u8 f,.int .u8 g,.int .i64 i,.int .u8 j,.string k,.slice a c d,.int .i64 l] 28 (0,0))) (.int .u8) (.int .i64) .string e f g i j k a c d l I F Q):Tri P 162 #[.agg #[.int .u8 e,.int .u8 f,.int .u8 g,.int .i64 i,.int .u8 j,.string k,.slice a c d,.int .i64 l]] I F Q :=
 tw (A:=(annL [1003] [98] [98,127] shT_t4 [] [] [] [] [] [] [])) [98,127] func162 h
def tree_part.V(a:Nat→Nat×Obj)(nV:Int→Int→Int→Int→Int→Bs→OA→Nat→Nat→Int→Value)(is:Bool)(f g h i j:Int)(k:Bs)(c:OA)(d e:Nat)(l:Int)(I:Imm)(F:Heap)(Q:PostQ)  : Prop:=∀b:Nat,(It is (Tri P 59 #[nV f g h i j k c d e l] I ((a b)::F) fun e1 I1 G1=>((e1=.returned (.tuple #[])∧∃F1:Heap,List.Perm G1 ((a b)::F1)∧Q (.returned (.tuple #[])) I1 F1)∨(∃ch:List PanicEntry,e1=.panicked ch∧∃F2:Heap,List.Perm G1 ((a b)::F2)∧Q (.panicked ch) I1 F2))) (Tri P 162 #[nV f g h i j k c d e l] I ((a b)::F) fun e2 I2 G2=>((e2=.returned (.tuple #[])∧∃F3:Heap,List.Perm G2 ((a b)::F3)∧Q (.returned (.tuple #[])) I2 F3)∨(∃m:List PanicEntry,e2=.panicked m∧∃F4:Heap,List.Perm G2 ((a b)::F4)∧Q (.panicked m) I2 F4))))
theorem tree_part.vc{is:Bool}{i j m p r:Int}{u:Bs}{d:OA}{e g:Nat}{v:Int}{I:Imm}{F:Heap}{Q:PostQ}  (h:tree_part.V (fun b=>(b,Obj.cells #[.int .u8 i,.int .u8 j,.int .u8 m,.int .i64 p,.int .u8 r,.string u,.slice d e g,.int .i64 v] 28 (0,0))) (fun k o t n f s a l c q=>.agg #[.int .u8 k,.int .u8 o,.int .u8 t,.int .i64 n,.int .u8 f,.string s,.slice a l c,.int .i64 q]) is i j m p r u d e g v I F Q):Tri P 150 #[.bool is,.agg #[.int .u8 i,.int .u8 j,.int .u8 m,.int .i64 p,.int .u8 r,.string u,.slice d e g,.int .i64 v]] I F Q :=
 tw (A:=(annL [1000] [59,162] [59,162] shT_t4 [] [] [] [] [] [] [])) [59,162] func150 h
def tree_do.V(a:Nat→Nat×Obj)(nV:Int→Int→Int→Int→Int→Bs→OA→Nat→Nat→Int→Value)(vi:Int→Value)(vt:Bool→Value)(c d:Int)(h:Bs)(aR aS aT aU aV:Int)(aW:Bs)(al:OA)(am an:Nat)(aJ s t u v w:Int)(x:Bs)(i:OA)(j k:Nat)(y l m n o p:Int)(q:Bs)(e:OA)(f g:Nat)(r aK aL aM aN aO:Int)(aP:Bs)(z:OA)(aa ab:Nat)(aQ aX:Int)(I:Imm)(F:Heap)(Q:PostQ)(Inv4:Imm→Heap→Prop)(Inv6:Imm→Heap→Prop)(Inv8:Imm→Heap→Prop)(Inv19:Imm→Heap→Prop)(Inv21:Imm→Heap→Prop)(Inv23:Imm→Heap→Prop):Prop:=∀b:Nat,((Dt (1≤c) (Tri P 98 (#[vt (decide (c≤6)),vi 120]) I ((a b)::F) fun e1 I1 G1=>((e1=.returned (.tuple #[])∧∃F1:Heap,List.Perm G1 ((a b)::F1)∧Inv4 I1 F1)∨(∃ch:List PanicEntry,e1=.panicked ch∧∃F2:Heap,List.Perm G1 ((a b)::F2)∧Q (.panicked ch) I1 F2))) (Tri P 98 #[vt false,vi 120] I ((a b)::F) fun e2 I2 G2=>((e2=.returned (.tuple #[])∧∃F3:Heap,List.Perm G2 ((a b)::F3)∧Inv4 I2 F3)∨(∃ao:List PanicEntry,e2=.panicked ao∧∃F4:Heap,List.Perm G2 ((a b)::F4)∧Q (.panicked ao) I2 F4)))))∧∀(I3:Imm) (F5:Heap),Imm.le I I3→Inv4 I3 F5→((It (c==1) (Dt (1≤d) (Dt (d≤5) (Tri P 98 #[vt true,vi 120] I3 ((a b)::F5) fun e3 I4 G3=>((e3=.returned (.tuple #[])∧∃F6:Heap,List.Perm G3 ((a b)::F6)∧Inv6 I4 F6)∨(∃ap:List PanicEntry,e3=.panicked ap∧∃F7:Heap,List.Perm G3 ((a b)::F7)∧Q (.panicked ap) I4 F7))) (It (!(c==1)) (Tri P 98 (#[vt (d==0),vi 120]) I3 ((a b)::F5) fun e4 I5 G4=>((e4=.returned (.tuple #[])∧∃F8:Heap,List.Perm G4 ((a b)::F8)∧Inv6 I5 F8)∨(∃aq:List PanicEntry,e4=.panicked aq∧∃F9:Heap,List.Perm G4 ((a b)::F9)∧Q (.panicked aq) I5 F9))) (Tri P 98 #[vt false,vi 120] I3 ((a b)::F5) fun e5 I6 G5=>((e5=.returned (.tuple #[])∧∃F10:Heap,List.Perm G5 ((a b)::F10)∧Inv6 I6 F10)∨(∃ar:List PanicEntry,e5=.panicked ar∧∃F11:Heap,List.Perm G5 ((a b)::F11)∧Q (.panicked ar) I6 F11))))) (It (!(c==1)) (Tri P 98 (#[vt (d==0),vi 120]) I3 ((a b)::F5) fun e6 I7 G6=>((e6=.returned (.tuple #[])∧∃F12:Heap,List.Perm G6 ((a b)::F12)∧Inv6 I7 F12)∨(∃au:List PanicEntry,e6=.panicked au∧∃F13:Heap,List.Perm G6 ((a b)::F13)∧Q (.panicked au) I7 F13))) (Tri P 98 #[vt false,vi 120] I3 ((a b)::F5) fun e7 I8 G7=>((e7=.returned (.tuple #[])∧∃F14:Heap,List.Perm G7 ((a b)::F14)∧Inv6 I8 F14)∨(∃av:List PanicEntry,e7=.panicked av∧∃F15:Heap,List.Perm G7 ((a b)::F15)∧Q (.panicked av) I8 F15))))) (It (!(c==1)) (Tri P 98 (#[vt (d==0),vi 120]) I3 ((a b)::F5) fun e8 I9 G8=>((e8=.returned (.tuple #[])∧∃F16:Heap,List.Perm G8 ((a b)::F16)∧Inv6 I9 F16)∨(∃aw:List PanicEntry,e8=.panicked aw∧∃F17:Heap,List.Perm G8 ((a b)::F17)∧Q (.panicked aw) I9 F17))) (Tri P 98 #[vt false,vi 120] I3 ((a b)::F5) fun e9 I10 G9=>((e9=.returned (.tuple #[])∧∃F18:Heap,List.Perm G9 ((a b)::F18)∧Inv6 I10 F18)∨(∃ax:List PanicEntry,e9=.panicked ax∧∃F19:Heap,List.Perm G9 ((a b)::F19)∧Q (.panicked ax) I10 F19))))))∧∀(I11:Imm) (F20:Heap),Imm.le I3 I11→Inv6 I11 F20→((It (c==6) (Tri P 98 (#[vt (h.toList==(⟨#[]⟩:Bs).toList),vi 120]) I11 ((a b)::F20) fun az I12 G10=>((az=.returned (.tuple #[])∧∃F21:Heap,List.Perm G10 ((a b)::F21)∧Inv8 I12 F21)∨(∃ay:List PanicEntry,az=.panicked ay∧∃F22:Heap,List.Perm G10 ((a b)::F22)∧Q (.panicked ay) I12 F22))) (It (!(c==1)) (Tri P 104 #[.string h] I11 ((a b)::F20) fun aA I13 G11=>((aA=.returned (.tuple #[])∧∃F23:Heap,List.Perm G11 ((a b)::F23)∧Inv8 I13 F23)∨(∃ac:List PanicEntry,aA=.panicked ac∧∃F24:Heap,List.Perm G11 ((a b)::F24)∧Q (.panicked ac) I13 F24))) (It (!(h.toList==(⟨#[]⟩:Bs).toList)) (Tri P 104 #[.string h] I11 ((a b)::F20) fun aB I14 G12=>((aB=.returned (.tuple #[])∧∃F25:Heap,List.Perm G12 ((a b)::F25)∧Inv8 I14 F25)∨(∃ad:List PanicEntry,aB=.panicked ad∧∃F26:Heap,List.Perm G12 ((a b)::F26)∧Q (.panicked ad) I14 F26))) (Inv8 I11 F20)))))∧∀(I15:Imm) (F27:Heap),Imm.le I11 I15→Inv8 I15 F27→(Tri P 150 (#[vt (c==1),nV aR aS aT aU aV aW al am an aJ]) I15 ((a b)::F27) fun aC I16 G13=>((aC=.returned (.tuple #[])∧∃F28:Heap,List.Perm G13 ((a b)::F28)∧Inv19 I16 F28)∨(∃ae:List PanicEntry,aC=.panicked ae∧∃F29:Heap,List.Perm G13 ((a b)::F29)∧Q (.panicked ae) I16 F29)))∧∀(I17:Imm) (F30:Heap),Imm.le I15 I17→Inv19 I17 F30→((It (c==1) (Tri P 150 #[vt true,nV s t u v w x i j k y] I17 ((a b)::F30) fun aD I18 G14=>((aD=.returned (.tuple #[])∧∃F31:Heap,List.Perm G14 ((a b)::F31)∧Inv21 I18 F31)∨(∃af:List PanicEntry,aD=.panicked af∧∃F32:Heap,List.Perm G14 ((a b)::F32)∧Q (.panicked af) I18 F32))) (Tri P 150 (#[vt (c==2),nV s t u v w x i j k y]) I17 ((a b)::F30) fun aE I19 G15=>((aE=.returned (.tuple #[])∧∃F33:Heap,List.Perm G15 ((a b)::F33)∧Inv21 I19 F33)∨(∃ag:List PanicEntry,aE=.panicked ag∧∃F34:Heap,List.Perm G15 ((a b)::F34)∧Q (.panicked ag) I19 F34)))))∧∀(I20:Imm) (F35:Heap),Imm.le I17 I20→Inv21 I20 F35→((It (c==1) (It (d != 2) (Tri P 150 #[vt true,nV l m n o p q e f g r] I20 ((a b)::F35) fun aF I21 G16=>((aF=.returned (.tuple #[])∧∃F36:Heap,List.Perm G16 ((a b)::F36)∧Inv23 I21 F36)∨(∃ah:List PanicEntry,aF=.panicked ah∧∃F37:Heap,List.Perm G16 ((a b)::F37)∧Q (.panicked ah) I21 F37))) (Tri P 150 (#[vt (c==2),nV l m n o p q e f g r]) I20 ((a b)::F35) fun aG I22 G17=>((aG=.returned (.tuple #[])∧∃F38:Heap,List.Perm G17 ((a b)::F38)∧Inv23 I22 F38)∨(∃ai:List PanicEntry,aG=.panicked ai∧∃F39:Heap,List.Perm G17 ((a b)::F39)∧Q (.panicked ai) I22 F39)))) (Tri P 150 (#[vt (c==2),nV l m n o p q e f g r]) I20 ((a b)::F35) fun aH I23 G18=>((aH=.returned (.tuple #[])∧∃F40:Heap,List.Perm G18 ((a b)::F40)∧Inv23 I23 F40)∨(∃aj:List PanicEntry,aH=.panicked aj∧∃F41:Heap,List.Perm G18 ((a b)::F41)∧Q (.panicked aj) I23 F41)))))∧∀(I24:Imm) (F42:Heap),Imm.le I20 I24→Inv23 I24 F42→Tri P 150 (#[vt (c==4),nV aK aL aM aN aO aP z aa ab aQ]) I24 ((a b)::F42) fun aI I25 G19=>((aI=.returned (.tuple #[])∧∃F43:Heap,List.Perm G19 ((a b)::F43)∧Q (.returned (.tuple #[])) I25 F43)∨(∃ak:List PanicEntry,aI=.panicked ak∧∃F44:Heap,List.Perm G19 ((a b)::F44)∧Q (.panicked ak) I25 F44))
theorem tree_do.vc{ay az:Int}{aA:Bs}{aB aC aD aE aF:Int}{aG:Bs}{w:OA}{x y:Nat}{z aa ab ac ad ae:Int}{af:Bs}{d:OA}{e g:Nat}{ag ah ai aj ak al:Int}{am:Bs}{i:OA}{j p:Nat}{an ao ap aq ar au:Int}{av:Bs}{r:OA}{u v:Nat}{aw ax:Int}{I:Imm}{F:Heap}{Q:PostQ}(Inv4:Imm→Heap→Prop)(Inv6:Imm→Heap→Prop)(Inv8:Imm→Heap→Prop)(Inv19:Imm→Heap→Prop)(Inv21:Imm→Heap→Prop)(Inv23:Imm→Heap→Prop)(h:tree_do.V (fun b=>(b,Obj.cells #[.int .u8 ay,.int .u8 az,.string aA,.int .u8 aB,.int .u8 aC,.int .u8 aD,.int .i64 aE,.int .u8 aF,.string aG,.slice w x y,.int .i64 z,.int .u8 aa,.int .u8 ab,.int .u8 ac,.int .i64 ad,.int .u8 ae,.string af,.slice d e g,.int .i64 ag,.int .u8 ah,.int .u8 ai,.int .u8 aj,.int .i64 ak,.int .u8 al,.string am,.slice i j p,.int .i64 an,.int .u8 ao,.int .u8 ap,.int .u8 aq,.int .i64 ar,.int .u8 au,.string av,.slice r u v,.int .i64 aw,.int .i64 ax] 99 (0,0))) (fun k o t n f s a l c q=>.agg #[.int .u8 k,.int .u8 o,.int .u8 t,.int .i64 n,.int .u8 f,.string s,.slice a l c,.int .i64 q]) (.int .i64) .bool ay az aA aB aC aD aE aF aG w x y z aa ab ac ad ae af d e g ag ah ai aj ak al am i j p an ao ap aq ar au av r u v aw ax I F Q Inv4 Inv6 Inv8 Inv19 Inv21 Inv23):Tri P 132 #[.agg #[.int .u8 ay,.int .u8 az,.string aA,.int .u8 aB,.int .u8 aC,.int .u8 aD,.int .i64 aE,.int .u8 aF,.string aG,.slice w x y,.int .i64 z,.int .u8 aa,.int .u8 ab,.int .u8 ac,.int .i64 ad,.int .u8 ae,.string af,.slice d e g,.int .i64 ag,.int .u8 ah,.int .u8 ai,.int .u8 aj,.int .i64 ak,.int .u8 al,.string am,.slice i j p,.int .i64 an,.int .u8 ao,.int .u8 ap,.int .u8 aq,.int .i64 ar,.int .u8 au,.string av,.slice r u v,.int .i64 aw,.int .i64 ax]] I F Q :=
 tw (A:=(annL [2002,3000,3004,3009,3013,4002,6001,6005,9000,10000,10004] [98,104,150] [98,104,150] shT_t4 [(4,⟨[],[],fun _ _ _ vs m I F=>match vs with | []=>Inv4  I F | _=>False,[],[]⟩),(6,⟨[],[],fun _ _ _ vs m I F=>match vs with | []=>Inv6  I F | _=>False,[],[]⟩),(8,⟨[],[],fun _ _ _ vs m I F=>match vs with | []=>Inv8  I F | _=>False,[],[]⟩),(19,⟨[],[],fun _ _ _ vs m I F=>match vs with | []=>Inv19  I F | _=>False,[],[]⟩),(21,⟨[],[],fun _ _ _ vs m I F=>match vs with | []=>Inv21  I F | _=>False,[],[]⟩),(23,⟨[],[],fun _ _ _ vs m I F=>match vs with | []=>Inv23  I F | _=>False,[],[]⟩)] [] [] [] [] [] [])) [98,104,150] func132 h
def tree_begin.V(l:Nat→Nat×Obj)(nO:Int→Int→Int→Int→Int→Bs→OA→Nat→Nat→Int→Obj)(vb vi:Int→Value)(vt:Bool→Value)(m p x y z:Int)(aa:Bs)(n:OA)(o q:Nat)(ab:Int)(I:Imm)(F:Heap)(Q:PostQ)  : Prop:=∀d:Nat,Tri P 97 #[.agg #[vb m,vb p,vb x,vi y,vb z,.string aa,.slice n o q,vi ab]] I ((l d)::F) fun e1 I1 G1=>((e1=.returned (.tuple #[])∧∃F1:Heap,List.Perm G1 ((l d)::F1)∧(It (m==5) (It (p==1) ((0≤(0:Int)∧(0:Int)<(o:Int))∧∃ad:Addr,n=some ad∧∃(e g f h i:Int) (j:Bs) (a:OA) (b c:Nat) (k:Int),Rd I1 ((l d)::F1) (ad.add (Int.toNat 0*8)) [vb e,vb g,vb f,vi h,vb i,.string j,.slice a b c,vi k]∧(It (e==1) (Tri P 98 (#[vt (decide (f≤4)),vi 120]) I1 ((d,nO e g f h i j a b c k)::F1) fun e2 I2 G2=>((e2=.returned (.tuple #[])∧∃F2:Heap,List.Perm G2 ((d,nO e g f h i j a b c k)::F2)∧Tri P 98 (#[vt (e==1),vi 120]) I2 ((d,nO e g f h i j a b c k)::F2) fun e3 I3 G3=>((e3=.returned (.tuple #[])∧∃F3:Heap,List.Perm G3 ((d,nO e g f h i j a b c k)::F3)∧Q (.returned (.tuple #[])) I3 F3)∨(∃ch:List PanicEntry,e3=.panicked ch∧∃F4:Heap,List.Perm G3 ((d,nO e g f h i j a b c k)::F4)∧Q (.panicked ch) I3 F4)))∨(∃r:List PanicEntry,e2=.panicked r∧∃F5:Heap,List.Perm G2 ((d,nO e g f h i j a b c k)::F5)∧Q (.panicked r) I2 F5))) (Tri P 98 #[vt false,vi 120] I1 ((d,nO e g f h i j a b c k)::F1) fun e4 I4 G4=>((e4=.returned (.tuple #[])∧∃F6:Heap,List.Perm G4 ((d,nO e g f h i j a b c k)::F6)∧Tri P 98 (#[vt (e==1),vi 120]) I4 ((d,nO e g f h i j a b c k)::F6) fun e5 I5 G5=>((e5=.returned (.tuple #[])∧∃F7:Heap,List.Perm G5 ((d,nO e g f h i j a b c k)::F7)∧Q (.returned (.tuple #[])) I5 F7)∨(∃s:List PanicEntry,e5=.panicked s∧∃F8:Heap,List.Perm G5 ((d,nO e g f h i j a b c k)::F8)∧Q (.panicked s) I5 F8)))∨(∃t:List PanicEntry,e4=.panicked t∧∃F9:Heap,List.Perm G4 ((d,nO e g f h i j a b c k)::F9)∧Q (.panicked t) I4 F9))))) (Tri P 98 (#[vt (m==1),vi 120]) I1 ((l d)::F1) fun e6 I6 G6=>((e6=.returned (.tuple #[])∧∃F10:Heap,List.Perm G6 ((l d)::F10)∧Q (.returned (.tuple #[])) I6 F10)∨(∃u:List PanicEntry,e6=.panicked u∧∃F11:Heap,List.Perm G6 ((l d)::F11)∧Q (.panicked u) I6 F11)))) (Tri P 98 (#[vt (m==1),vi 120]) I1 ((l d)::F1) fun e7 I7 G7=>((e7=.returned (.tuple #[])∧∃F12:Heap,List.Perm G7 ((l d)::F12)∧Q (.returned (.tuple #[])) I7 F12)∨(∃v:List PanicEntry,e7=.panicked v∧∃F13:Heap,List.Perm G7 ((l d)::F13)∧Q (.panicked v) I7 F13)))))∨(∃w:List PanicEntry,e1=.panicked w∧∃F14:Heap,List.Perm G1 ((l d)::F14)∧Q (.panicked w) I1 F14))
theorem tree_begin.vc{i j m p r:Int}{u:Bs}{d:OA}{e g:Nat}{v:Int}{I:Imm}{F:Heap}{Q:PostQ}  (h:tree_begin.V (fun b=>(b,Obj.cells #[.int .u8 i,.int .u8 j,.int .u8 m,.int .i64 p,.int .u8 r,.string u,.slice d e g,.int .i64 v] 28 (0,0))) (fun k o t n f s a l c q=>.cells #[.int .u8 k,.int .u8 o,.int .u8 t,.int .i64 n,.int .u8 f,.string s,.slice a l c,.int .i64 q] 28 (0,0)) (.int .u8) (.int .i64) .bool i j m p r u d e g v I F Q):Tri P 105 #[.agg #[.int .u8 i,.int .u8 j,.int .u8 m,.int .i64 p,.int .u8 r,.string u,.slice d e g,.int .i64 v]] I F Q :=
 tw (A:=(annL [2002,2006,4002] [97,98] [97,98] shT_t4 [] [] [] [] [] [] [])) [97,98] func105 h
def tree_rule.V(a:Nat→Nat×Obj)(vb vi:Int→Value)(vs:Bs→Value)(vl:OA→Nat→Nat→Value)(aI aJ aK aL aM:Int)(aN:Bs)(aB:OA)(aC aD:Nat)(aO:Int)(aE:OA)(l aP:Nat)(aQ:Int)(I:Imm)(F:Heap)(Q:PostQ)(Inv11:Int→Nat→Imm→Heap→Prop):Prop:=∀b:Nat,Tri P 59 #[.agg #[vb aI,vb aJ,vb aK,vi aL,vb aM,vs aN,vl aB aC aD,vi aO]] I ((a b)::F) fun e1 I1 G1=>((e1=.returned (.tuple #[])∧∃F1:Heap,List.Perm G1 ((a b)::F1)∧Tri P 98 (#[.bool (decide ((l:Int)>0)),vi 120]) I1 ((a b)::F1) fun e2 I2 G2=>((e2=.returned (.tuple #[])∧∃F2:Heap,List.Perm G2 ((a b)::F2)∧Tri P 98 (#[.bool (decide ((l:Int)≤8)),vi 121]) I2 ((a b)::F2) fun e3 I3 G3=>((e3=.returned (.tuple #[])∧∃F3:Heap,List.Perm G3 ((a b)::F3)∧(∃m:Nat,Inv11 0 m I3 F3)∧∀(x:Int) (m1:Nat) (I4:Imm) (F4:Heap),Imm.le I3 I4→Inv11 x m1 I4 F4→(Dt (x<(l:Int)) ((0≤x∧x<(l:Int))∧∃ad:Addr,aE=some ad∧∃(ap aq:Int) (ar:Bs) (au av aw ax ay:Int) (az:Bs) (n:OA) (o p:Nat) (q r s t u v:Int) (w:Bs) (c:OA) (d e:Nat) (y z aa ab ac ae:Int) (af:Bs) (f:OA) (g h:Nat) (ag ah ai aj ak al:Int) (am:Bs) (i:OA) (j k:Nat) (an ao:Int),Rd I4 ((a b)::F4) (ad.add (Int.toNat x*36)) [vb ap,vb aq,vs ar,vb au,vb av,vb aw,vi ax,vb ay,vs az,vl n o p,vi q,vb r,vb s,vb t,vi u,vb v,vs w,vl c d e,vi y,vb z,vb aa,vb ab,vi ac,vb ae,vs af,vl f g h,vi ag,vb ah,vb ai,vb aj,vi ak,vb al,vs am,vl i j k,vi an,vi ao]∧∀aA:Nat,Tri P 132 #[.agg #[vb ap,vb aq,vs ar,vb au,vb av,vb aw,vi ax,vb ay,vs az,vl n o p,vi q,vb r,vb s,vb t,vi u,vb v,vs w,vl c d e,vi y,vb z,vb aa,vb ab,vi ac,vb ae,vs af,vl f g h,vi ag,vb ah,vb ai,vb aj,vi ak,vb al,vs am,vl i j k,vi an,vi ao]] I4 ((a b)::(aA,Obj.cells #[vb ap,vb aq,vs ar,vb au,vb av,vb aw,vi ax,vb ay,vs az,vl n o p,vi q,vb r,vb s,vb t,vi u,vb v,vs w,vl c d e,vi y,vb z,vb aa,vb ab,vi ac,vb ae,vs af,vl f g h,vi ag,vb ah,vb ai,vb aj,vi ak,vb al,vs am,vl i j k,vi an,vi ao] 99 (0,0))::F4) fun e4 I5 G4=>((e4=.returned (.tuple #[])∧∃F5:Heap,List.Perm G4 ((a b)::(aA,Obj.cells #[vb ap,vb aq,vs ar,vb au,vb av,vb aw,vi ax,vb ay,vs az,vl n o p,vi q,vb r,vb s,vb t,vi u,vb v,vs w,vl c d e,vi y,vb z,vb aa,vb ab,vi ac,vb ae,vs af,vl f g h,vi ag,vb ah,vb ai,vb aj,vi ak,vb al,vs am,vl i j k,vi an,vi ao] 99 (0,0))::F5)∧(∃m2:Nat,m2<m1∧Inv11 (IntKind.wrap .i64 (x+1)) m2 I5 F5))∨(∃ch:List PanicEntry,e4=.panicked ch∧∃F6:Heap,List.Perm G4 ((a b)::(aA,Obj.cells #[vb ap,vb aq,vs ar,vb au,vb av,vb aw,vi ax,vb ay,vs az,vl n o p,vi q,vb r,vb s,vb t,vi u,vb v,vs w,vl c d e,vi y,vb z,vb aa,vb ab,vi ac,vb ae,vs af,vl f g h,vi ag,vb ah,vb ai,vb aj,vi ak,vb al,vs am,vl i j k,vi an,vi ao] 99 (0,0))::F6)∧Q (.panicked ch) I5 F6))) (Q (.returned (.tuple #[])) I4 F4)))∨(∃aF:List PanicEntry,e3=.panicked aF∧∃F7:Heap,List.Perm G3 ((a b)::F7)∧Q (.panicked aF) I3 F7)))∨(∃aG:List PanicEntry,e2=.panicked aG∧∃F8:Heap,List.Perm G2 ((a b)::F8)∧Q (.panicked aG) I2 F8)))∨(∃aH:List PanicEntry,e1=.panicked aH∧∃F9:Heap,List.Perm G1 ((a b)::F9)∧Q (.panicked aH) I1 F9))
theorem tree_rule.vc{i j k l n:Int}{o:Bs}{a:OA}{c d:Nat}{p:Int}{e:OA}{f g:Nat}{q:Int}{I:Imm}{F:Heap}{Q:PostQ}(Inv11:Int→Nat→Imm→Heap→Prop)(h:tree_rule.V (fun b=>(b,Obj.cells #[.int .u8 i,.int .u8 j,.int .u8 k,.int .i64 l,.int .u8 n,.string o,.slice a c d,.int .i64 p,.slice e f g,.int .i64 q] 84 (0,0))) (.int .u8) (.int .i64) .string .slice i j k l n o a c d p e f g q I F Q Inv11):Tri P 106 #[.agg #[.int .u8 i,.int .u8 j,.int .u8 k,.int .i64 l,.int .u8 n,.string o,.slice a c d,.int .i64 p,.slice e f g,.int .i64 q]] I F Q :=
 tw (A:=(annL [5000] [59,98,132] [59,98,132] shT_t4 [(11,⟨[(20,(.int .i64))],[],fun _ _ _ vs m I F=>match vs with | [.int _ y0]=>Inv11 y0 m I F | _=>False,[],[]⟩)] [] [] [] [] [] [])) [59,98,132] func106 h
end Go.Lx
namespace Go.Lx
open Go.Vc
def Errs(n:Int)(F:Heap)(e:Ending)(I:Imm)(G:Heap):Prop:=e=errOf n∧G=F
theorem Errs.use{Pr:Program}{f:FuncId}{args:Array Value}{I:Imm}{F:Heap}{n:Int}{Q:Ending→Imm→Heap→Prop}(h:Tri Pr f args I F (Errs n F))
  (k1:n=0→∀I',Imm.le I I'→Q (.returned (.tuple #[])) I' F) (k2:n≠0→∀I',Imm.le I I'→Q (.panicked (wrongP n)) I' F):Tri Pr f args I F Q :=
 h.mono fun e I' G hl ⟨he,hG⟩=>by
  subst hG
  by_cases hn:n=0
  ·rw[errOf,if_pos hn] at he;subst he;exact k1 hn I' hl
  ·rw[errOf,if_neg hn] at he;subst he;exact k2 hn I' hl
theorem Errs.fail{n b N:Int}{F:Heap}{I:Imm}(h:N=thenE n b)(hn:n≠0):Errs N F (.panicked (wrongP n)) I F:=⟨by rw[h,thenE_ne hn,errOf,if_neg hn],rfl⟩
theorem Errs.fail1{n N:Int}{F:Heap}{I:Imm}(h:N=n)(hn:n≠0):Errs N F (.panicked (wrongP n)) I F:=⟨by rw[h,errOf,if_neg hn],rfl⟩
theorem Errs.done{N:Int}{F:Heap}{I:Imm}(h:N=0):Errs N F (.returned (.tuple #[])) I F:=⟨by rw[h,errOf,if_pos rfl],rfl⟩
theorem Errs.look{b:Bool}{err:Int}(he:err≠0){Pr:Program}{f:FuncId}{args:Array Value}{I:Imm}{F:Heap}(h:Tri Pr f args I F (Look b err F)):Tri Pr f args I F (Errs (errB b err) F) :=
 h.mono fun e I' G _ ⟨h1,h2⟩=>⟨by rw[h1];cases b<;>simp[errB,errOf,he],h2⟩
theorem must_errs(b:Bool){err:Int}(he:err≠0)(I:Imm)(F:Heap):Tri P 98 #[.bool b,.int .i64 err] I F (Errs (errB b err) F):=Errs.look he (must_spec b err I F)
theorem named_spec(s:ByteArray)(I:Imm)(F:Heap):Tri P 104 #[.string s] I F (Errs (errB (nameB s) 120) F):=by
 refine tree_named.vc ?_
 unfold tree_named.V
 exact Tri.ret (Name_spec (t:=s) I _) fun I1 _=>⟨_,rfl,F,.refl _,Errs.use (must_errs _ (by decide) I1 _) (fun q I2 _=>.inl ⟨rfl,F,.refl _,.done q⟩) (fun q I2 _=>.inr ⟨_,rfl,F,.refl _,.fail1 rfl q⟩)⟩
theorem none_eq(t:Nd):t.px.noneB=(bEq t.kind t.oper t.typ t.n t.field t.name 0 0 0 0 0 ⟨#[]⟩&&decide (t.kids.length=0)):=by
 unfold Px.noneB bEq
 rw[Nd.px_kind,Nd.px_oper,Nd.px_typ,Nd.px_n,Nd.px_field,Nd.px_name,Nd.px_len,empty_list]
 simp only[Bool.and_true]
theorem unnamed_spec(t:Nd)(I:Imm)(F:Heap):Tri P 162 #[t.v] I F (Errs (errB t.px.noneB 120) F):=by
 refine tree_unnamed.vc ?_
 unfold tree_unnamed.V
 intro b_n
 rw[none_eq]
 refine (alone_spec t I _).mono fun e I1 G hI1 ⟨he,hG⟩=>?_
 subst hG
 refine⟨_,_,_,_,_,_,he,F,.refl _,_,bare_eql t.kind t.oper t.typ t.n t.field t.name 0 0 0 0 0 ⟨#[]⟩,fun hq=>?_,fun hq=>?_⟩
 ·rw[hq,Bool.true_and]
  have e:(((t.kids.length:Nat):Int)==0)=decide (t.kids.length=0):=by rw[Bool.eq_iff_iff];simp
  rw[e]
  refine Errs.use (must_errs _ (by decide) I1 _) (fun q2 I2 hI2=>.inl ⟨rfl,_,.refl _, ?_⟩) (fun q2 I2 hI2=>.inr ⟨_,rfl,_,.refl _, ?_⟩)
  ·exact .done q2
  ·exact .fail1 rfl q2
 ·rw[hq,Bool.false_and]
  refine Errs.use (must_errs _ (by decide) I1 _) (fun q2 I2 hI2=>.inl ⟨rfl,_,.refl _, ?_⟩) (fun q2 I2 hI2=>.inr ⟨_,rfl,_,.refl _, ?_⟩)
  ·exact .done q2
  ·exact .fail1 rfl q2
theorem part_spec(is:Bool)(t:Nd)(hs:t.px.size≤1048576)(I:Imm)(F:Heap)(ht:NdOk I F t):Tri P 150 #[.bool is,t.v] I F (Errs (partE is t.px) F):=by
 refine tree_part.vc ?_
 unfold tree_part.V partE
 intro b_n
 refine⟨fun h=>?_,fun h=>?_⟩
 ·rw[h]
  refine Errs.use (expr_spec t hs I _ ht.cons) (fun q1 I1 hI1=>.inl ⟨rfl,_,.refl _, ?_⟩) (fun q1 I1 hI1=>.inr ⟨_,rfl,_,.refl _, ?_⟩)
  ·exact .done q1
  ·exact .fail1 rfl q1
 ·rw[h]
  refine Errs.use (unnamed_spec t I _) (fun q1 I1 hI1=>.inl ⟨rfl,_,.refl _, ?_⟩) (fun q1 I1 hI1=>.inr ⟨_,rfl,_,.refl _, ?_⟩)
  ·exact .done q1
  ·exact .fail1 rfl q1
theorem errB_zero{b:Bool}{n:Int}(hn:n≠0)(h:errB b n=0):b=true:=by
 unfold errB at h;cases b<;>simp_all
theorem errB_ne{b:Bool}{n:Int}(h:errB b n≠0):b=false∧errB b n=n:=by
 unfold errB at h ⊢;cases b<;>simp_all
theorem begin_spec(t:Nd)(hs:t.px.size≤1048576)(I:Imm)(F:Heap)(ht:NdOk I F t):Tri P 105 #[t.v] I F (Errs (errB (t.px.formed&&t.px.beginB) 120) F):=by
 refine tree_begin.vc ?_
 unfold tree_begin.V
 intro b_n
 refine Errs.use (Errs.look (by decide) (node_spec t hs I _ ht.cons)) (fun q1 I1 hI1=>.inl ⟨rfl,_,.refl _, ?_⟩) (fun q1 I1 hI1=>.inr ⟨_,rfl,_,.refl _, ?_⟩)
 ·have hf:=errB_zero (by decide) q1
  rw[hf,Bool.true_and]
  unfold Px.beginB
  rw[Nd.px_kind,Nd.px_oper]
  have hk1:(t.kind==1)=decide (t.kind=1):=rfl
  refine⟨fun h5=>⟨fun h1=>?_,fun h1=>?_⟩,fun h5=>?_⟩
  ·have h5:t.kind=5:=by simpa using h5
   have h1:t.oper=1:=by simpa using h1
   have hlen:t.kids.length=1:=by
    have:=Px.formed_eq t.px
    rw[hf] at this
    have h2:=(Bool.and_eq_true _ _▸this.symm).1
    unfold Px.oneB at h2
    simp only[Bool.and_eq_true,decide_eq_true_eq] at h2
    have h3:=h2.2
    unfold Px.arity at h3
    rw[Nd.px_kind,if_pos (.inl h5),Nd.px_len] at h3
    exact h3
   obtain⟨ad,x,had,hx,hrd,hxo,hxm⟩:=((ht.mono hI1 fun _ h=>h).cons (x:=(b_n,Obj.cells #[.int .u8 t.kind,.int .u8 t.oper,.int .u8 t.typ,.int .i64 t.n,.int .u8 t.field,.string t.name,.slice t.a t.kids.length t.c,.int .i64 t.pos] 28 (0,0)))).kids.at (i:=0) (by decide) (by omega)
   have hks:t.px.kids=[x.px]:=by
    rw[Nd.px_kids]
    match hk:t.kids with
    | [y]=>rw[hk] at hx;simp at hx;rw[hx];rfl
    | []=>rw[hk] at hlen;simp at hlen
    | y::z::r=>rw[hk] at hlen;simp at hlen
   rw[if_pos ⟨h5,h1⟩,hks]
   simp only
   rw[Nd.px_kind,Nd.px_typ]
   refine⟨⟨by omega,by omega⟩,ad,had,_,_,_,_,_,_,_,_,_,_,hrd,fun hk=>?_,fun hk=>?_⟩
   ·have hk':x.kind=1:=by simpa using hk
    refine Errs.use (must_errs _ (by decide) I1 _) (fun q2 I2 hI2=>.inl ⟨rfl,_,.refl _, ?_⟩) (fun q2 I2 hI2=>.inr ⟨_,rfl,_,.refl _, ?_⟩)
    ·have:=errB_zero (by decide) q2
     have h2:decide (x.kind=1∧x.typ≤4)=true:=decide_eq_true ⟨hk',of_decide_eq_true this⟩
     rw[h2,hk]
     refine Errs.use (must_errs _ (by decide) I2 _) (fun q3 I3 hI3=>.inl ⟨rfl,_,.refl _, ?_⟩) (fun q3 I3 hI3=>.inr ⟨_,rfl,_,.refl _, ?_⟩)
     ·exact .done rfl
     ·exact absurd rfl q3
    ·have h2:decide (x.kind=1∧x.typ≤4)=false:=decide_eq_false fun h=>by
      have:=(errB_ne q2).1;rw[decide_eq_true h.2] at this;cases this
     rw[h2]
     exact .fail1 (errB_ne q2).2.symm q2
   ·have hk':x.kind≠1:=by simpa using hk
    have h2:decide (x.kind=1∧x.typ≤4)=false:=decide_eq_false fun h=>hk' h.1
    rw[h2]
    refine Errs.use (must_errs _ (by decide) I1 _) (fun q2 I2 hI2=>.inl ⟨rfl,_,.refl _, ?_⟩) (fun q2 I2 hI2=>.inr ⟨_,rfl,_,.refl _, ?_⟩)
    ·cases q2
    ·exact .fail1 rfl q2
  ·have h1:t.oper≠1:=by simpa using h1
   rw[if_neg fun h=>h1 h.2,←hk1]
   refine Errs.use (must_errs _ (by decide) I1 _) (fun q2 I2 hI2=>.inl ⟨rfl,_,.refl _, ?_⟩) (fun q2 I2 hI2=>.inr ⟨_,rfl,_,.refl _, ?_⟩)
   ·exact .done q2
   ·exact .fail1 rfl q2
  ·have h5:t.kind≠5:=by simpa using h5
   rw[if_neg fun h=>h5 h.1,←hk1]
   refine Errs.use (must_errs _ (by decide) I1 _) (fun q2 I2 hI2=>.inl ⟨rfl,_,.refl _, ?_⟩) (fun q2 I2 hI2=>.inr ⟨_,rfl,_,.refl _, ?_⟩)
   ·exact .done q2
   ·exact .fail1 rfl q2
 ·exact .fail1 (by rw[(errB_ne q1).1];rfl) q1
end Go.Lx
namespace Go.Lx
open Go.Vc
end Go.Lx
namespace Go.Lx
open Go.Vc
end Go.Lx
namespace Go.Lx
open Go.Vc
end Go.Lx
namespace Go.Lx
open Go.Vc
theorem markN_range(s:ByteArray)(i:Int):0≤markN s i∧markN s i≤2:=by
 unfold markN;simp only;repeat' split
 all_goals decide
theorem markN_le{s:ByteArray}{i:Int}(h:i<(s.size:Int)):i+markN s i≤s.size:=by
 have hb:byteOr0 s (i+1)≠0→i+1<(s.size:Int):=fun hne=>by
  unfold byteOr0 at hne;split at hne
  ·assumption
  ·exact absurd rfl hne
 unfold markN;simp only
 split
 ·omega
 ·split
  ·rename_i hc;split
   ·rename_i hd;have:=hb (by omega);omega
   ·omega
  ·split
   ·split
    ·rename_i hd;have:=hb (by omega);omega
    ·omega
   ·omega
def encB(c:Int):List Value:=[.int .u8 c]
def bytesOf(s:ByteArray):List Int:=s.data.toList.map fun b=>(b.toNat:Int)
theorem cut_size{s:ByteArray}{i j:Int}(h0:0≤i)(h1:i≤j)(h2:j≤s.size):((cut s i j).size:Int)=j-i:=by
 unfold cut;rw[ByteArray.size_extract];omega
theorem cut_bt{s:ByteArray}{i j k:Int}(h0:0≤i)(hk:0≤k)(h1:i+k<j)(h2:j≤s.size):bt (cut s i j) k=bt s (i+k):=by
 have hsz:=cut_size (s:=s) (i:=i) (j:=j) h0 (by omega) h2
 unfold bt
 have e1:(cut s i j)[k.toNat]? = s[(i+k).toNat]?:=by
  have hk':k.toNat<(s.extract i.toNat j.toNat).size:=by unfold cut at hsz;omega
  have hi':(i+k).toNat<s.size:=by omega
  have a1:(s.extract i.toNat j.toNat)[k.toNat]? = some (s.extract i.toNat j.toNat)[k.toNat]:=by simp[hk']
  have a2:s[(i+k).toNat]? = some s[(i+k).toNat]:=by simp[hi']
  show (s.extract i.toNat j.toNat)[k.toNat]? = _
  rw[a1,a2,ByteArray.getElem_extract]
  congr 2
  omega
 rw[e1]
end Go.Lx
namespace Go.Lx
open Go.Vc
def TR.v2:TR→Value
 | .ok t=>.tuple #[t.v,.int .i64 0]
 | .bad e p=>.tuple #[(zTok 0).v,.int .i64 e]
end Go.Lx
namespace Go.Lx
open Go.Vc
theorem ite_is{α:Type}{C:Prop}[d:Decidable C]{x y z:α}(h:z=if C then x else y):∃C':Prop,(C'∧z=x)∨(¬C'∧z=y) :=
 ⟨C,(Classical.em C).imp (fun c=>⟨c,by rw[h,if_pos c]⟩) fun c=>⟨c,by rw[h,if_neg c]⟩⟩
theorem numR_is(s:ByteArray)(i:Int):∃C:Prop,(C∧numR s i=.bad 113 i)∨(¬C∧numR s i =
  .ok ⟨3,cut s i (if typOf (byteOr0 s (runAt digitB s i))=1 then runAt digitB s i else runAt digitB s i+1),typOf (byteOr0 s (runAt digitB s i)),valAt s i 0,i⟩):=by
 exact ite_is rfl
theorem numR_shape(s:ByteArray)(i:Int):(∃t,numR s i=.ok t∧t.pos=i)∨numR s i=.bad 113 i:=by
 obtain⟨C,⟨_,h⟩ | ⟨_,h⟩⟩:=numR_is s i
 ·exact .inr h
 ·exact .inl ⟨_,h,rfl⟩
def TokAt(s:ByteArray)(i:Int)(t:Tok):Prop :=
 t.pos=i∧t.pos+t.text.size≤s.size∧t.text=cut s t.pos (t.pos+t.text.size)∧((t.kind=0∧i=s.size∧t=zTok s.size)∨(0<t.kind∧t.kind≤4∧0<t.text.size))
theorem TokAt.mk'{s:ByteArray}{i e k y n:Int}(h0:0≤i)(h:i<e)(h1:e≤s.size)(hk:0<k∧k≤4):TokAt s i ⟨k,cut s i e,y,n,i⟩:=by
 have hc:=cut_size h0 (by omega:i≤e) h1
 refine⟨rfl, ?_, ?_,.inr ⟨hk.1,hk.2, ?_⟩⟩
 ·show i+((cut s i e).size:Int)≤_;omega
 ·show cut s i e=cut s i (i+(cut s i e).size);rw[hc];congr 1;omega
 ·show 0<(cut s i e).size;omega
theorem cut_self(s:ByteArray)(i:Int):cut s i i=⟨#[]⟩:=by
 unfold cut
 have:(s.extract i.toNat i.toNat).size=0:=by rw[ByteArray.size_extract];omega
 exact ByteArray.size_eq_zero_iff.1 this
theorem tokR_cases{s:ByteArray}{f:Int}(h0:0≤f)(h1:f≤s.size) :
  (∃t,tokR s f=.ok t∧TokAt s (overAt s f) t)∨(∃e,tokR s f=.bad e (overAt s f)∧(e=111∨e=112∨e=113)):=by
 have ho:=overAt_le (s:=s) h1
 unfold tokR
 simp only
 generalize overAt s f=i at ho ⊢
 by_cases hi:i=s.size
 ·rw[if_pos hi]
  refine .inl ⟨_,rfl,rfl, ?_, ?_,.inl ⟨rfl,hi,by rw[hi]⟩⟩
  ·show i+((0:Nat):Int)≤_;omega
  ·show (⟨#[]⟩:ByteArray)=cut s i (i+((0:Nat):Int))
   rw[show i+((0:Nat):Int)=i by omega,cut_self]
 ·have hlt:i<s.size:=by omega
  rw[if_neg hi]
  by_cases hd:digitB (bt s i)=true
  ·rw[if_pos hd]
   obtain⟨C,⟨_,h⟩ | ⟨_,h⟩⟩:=numR_is s i
   ·exact .inr ⟨_,h,by simp⟩
   ·refine .inl ⟨_,h, ?_⟩
    have hr:=runAt_step (p:=digitB) hlt
    rw[if_pos hd] at hr
    have:=runAt_le (p:=digitB) (s:=s) (i:=i+1) (by omega)
    refine TokAt.mk' (by omega) ?_ ?_ (by decide)
    ·split<;>omega
    ·split
     ·omega
     ·rename_i hne
      have:runAt digitB s i<s.size:=by
       rcases Int.lt_or_le (runAt digitB s i) s.size with h | h
       ·exact h
       ·rw[show byteOr0 s (runAt digitB s i)=0 by unfold byteOr0;rw[if_neg (by omega)]] at hne
        exact absurd rfl hne
      omega
  ·rw[if_neg hd]
   by_cases hm:smallB (bt s i)=true
   ·rw[if_pos hm]
    have hr:=runAt_step (p:=innerB) hlt
    rw[if_pos (by simp[innerB,hm])] at hr
    have:=runAt_le (p:=innerB) (s:=s) (i:=i+1) (by omega)
    unfold nameR
    simp only
    split
    ·exact .inr ⟨_,rfl,by simp⟩
    ·exact .inl ⟨_,rfl,TokAt.mk' (by omega) (by omega) (by omega) (by split<;>decide)⟩
   ·rw[if_neg hm]
    have hr:=markN_range s i
    have hl:=markN_le hlt
    unfold markR
    split
    ·exact .inr ⟨_,rfl,by simp⟩
    ·exact .inl ⟨_,rfl,TokAt.mk' (by omega) (by omega) (by omega) (by decide)⟩
end Go.Lx
namespace Go.Lx
open Go.Vc Go.Proofs.Tryz
def shT_x2:List (Nat×List Sh):=[(3,[.one (.int .i64)]),(4,[.one .bool]),(9,[.one .str]),(105,[.one .slc]),(190,[.agg [(.int .u8),.str,(.int .u8),(.int .i64),(.int .i64)],.one (.int .i64),.one (.int .i64)]),(214,[.agg [(.int .u8),.str,(.int .u8),(.int .i64),(.int .i64)],.one (.int .i64)])]
def ref11_over.V(vi:Int→Value)(wr:Int→Int)(s:Bs)(p:Int)(I:Imm)(F:Heap)(Q:PostQ)(Inv8:Int→Bool→Int→Nat→Imm→Heap→Prop):Prop:=(∃m:Nat,Inv8 0 false p m I F)∧∀(x:Int) (a:Bool) (i:Int) (m1:Nat) (I1:Imm) (F1:Heap),Imm.le I I1→Inv8 x a i m1 I1 F1→(Dt (i<(s.size:Int)) ((0≤i∧i<(s.size:Int))∧(It ((bt s i)==10) (It ((bt s i)==35) (It false (It ((bt s i)!=32) (It ((bt s i)!=9) (It ((bt s i)!=10) (It ((bt s i)!=13) (Q (.returned (vi i)) I1 F1) (∃m2:Nat,m2<m1∧Inv8 x true (wr (i+1)) m2 I1 F1)) (∃m3:Nat,m3<m1∧Inv8 x true (wr (i+1)) m3 I1 F1)) (∃m4:Nat,m4<m1∧Inv8 x true (wr (i+1)) m4 I1 F1)) (∃m5:Nat,m5<m1∧Inv8 x true (wr (i+1)) m5 I1 F1)) (∃m6:Nat,m6<m1∧Inv8 x true (wr (i+1)) m6 I1 F1)) (It true (It ((bt s i)!=32) (It ((bt s i)!=9) (It ((bt s i)!=10) (It ((bt s i)!=13) (Q (.returned (vi i)) I1 F1) (∃m7:Nat,m7<m1∧Inv8 x false (wr (i+1)) m7 I1 F1)) (∃m8:Nat,m8<m1∧Inv8 x false (wr (i+1)) m8 I1 F1)) (∃m9:Nat,m9<m1∧Inv8 x false (wr (i+1)) m9 I1 F1)) (∃b:Nat,b<m1∧Inv8 x false (wr (i+1)) b I1 F1)) (∃c:Nat,c<m1∧Inv8 x false (wr (i+1)) c I1 F1))) (It ((bt s i)==35) (It false (It ((bt s i)!=32) (It ((bt s i)!=9) (It ((bt s i)!=10) (It ((bt s i)!=13) (Q (.returned (vi i)) I1 F1) (∃d:Nat,d<m1∧Inv8 x true (wr (i+1)) d I1 F1)) (∃e:Nat,e<m1∧Inv8 x true (wr (i+1)) e I1 F1)) (∃f:Nat,f<m1∧Inv8 x true (wr (i+1)) f I1 F1)) (∃g:Nat,g<m1∧Inv8 x true (wr (i+1)) g I1 F1)) (∃h:Nat,h<m1∧Inv8 x true (wr (i+1)) h I1 F1)) (It (!a) (It ((bt s i)!=32) (It ((bt s i)!=9) (It ((bt s i)!=10) (It ((bt s i)!=13) (Q (.returned (vi i)) I1 F1) (∃j:Nat,j<m1∧Inv8 x a (wr (i+1)) j I1 F1)) (∃k:Nat,k<m1∧Inv8 x a (wr (i+1)) k I1 F1)) (∃l:Nat,l<m1∧Inv8 x a (wr (i+1)) l I1 F1)) (∃n:Nat,n<m1∧Inv8 x a (wr (i+1)) n I1 F1)) (∃o:Nat,o<m1∧Inv8 x a (wr (i+1)) o I1 F1))))) (Q (.returned (vi (s.size:Int))) I1 F1))
theorem ref11_over.vc{s:Bs}{a:Int}{I:Imm}{F:Heap}{Q:PostQ}(Inv8:Int→Bool→Int→Nat→Imm→Heap→Prop)(h:ref11_over.V (.int .i64) (IntKind.wrap .i64) s a I F Q Inv8):Tri P 141 #[.string s,.int .i64 a] I F Q :=
 tw (A:=(annL [3003,6001,8001,10001,10004,10008,10012,10016] [] [] shT_x2 [(8,⟨[(4,(.int .i64)),(5,.bool),(6,(.int .i64))],[],fun _ _ _ vs m I F=>match vs with | [.int _ y0,.bool y1,.int _ y2]=>Inv8 y0 y1 y2 m I F | _=>False,[],[]⟩)] [] [] [] [] [] [])) [] func141 h
def ref11_named.V(ka:Nat→Int→Bs→Int→Int→Int→Nat×Obj)(vb vi:Int→Value)(vs:Bs→Value)(wr:Int→Int)(s:Bs)(c:Int)(I:Imm)(F:Heap)(Q:PostQ)(Inv6:Int→Nat→Imm→Heap→Prop):Prop:=∀b:Nat,(∃m:Nat,Inv6 c m I F)∧∀(a:Int) (m1:Nat) (I1:Imm) (F1:Heap),Imm.le I I1→Inv6 a m1 I1 F1→(Dt (a<(s.size:Int)) ((0≤a∧a<(s.size:Int))∧Tc1 P 102 (#[vb (bt s a)]) I1 ((ka b 0 (⟨#[]⟩:Bs) 0 0 0)::·) F1 .bool fun r I2 F2=>(It r (∃m2:Nat,m2<m1∧Inv6 (wr (a+1)) m2 I2 F2) ((0≤c∧c≤a∧a≤(s.size:Int))∧∀e:Nat,(Dt ((wr (a-c))>16) (Q (.returned (.tuple #[.agg #[vb 0,vs (⟨#[]⟩:Bs),vb 0,vi 0,vi 0],vi 112])) I2 F2) (Tc1 P 100 (#[vs (s.extract (Int.toNat c) (Int.toNat a))]) I2 ((ka b 0 (⟨#[]⟩:Bs) 0 0 0)::(ka e 2 (s.extract (Int.toNat c) (Int.toNat a)) 0 0 c)::·) F2 .bool fun r1 I3 F3=>(It r1 (Q (.returned (.tuple #[.agg #[vb 1,vs (s.extract (Int.toNat c) (Int.toNat a)),vb 0,vi 0,vi c],vi 0])) I3 F3) (Q (.returned (.tuple #[.agg #[vb 2,vs (s.extract (Int.toNat c) (Int.toNat a)),vb 0,vi 0,vi c],vi 0])) I3 F3))))))) ((0≤c∧c≤a∧a≤(s.size:Int))∧∀d:Nat,(Dt ((wr (a-c))>16) (Q (.returned (.tuple #[.agg #[vb 0,vs (⟨#[]⟩:Bs),vb 0,vi 0,vi 0],vi 112])) I1 F1) (Tc1 P 100 (#[vs (s.extract (Int.toNat c) (Int.toNat a))]) I1 ((ka b 0 (⟨#[]⟩:Bs) 0 0 0)::(ka d 2 (s.extract (Int.toNat c) (Int.toNat a)) 0 0 c)::·) F1 .bool fun r2 I4 F4=>(It r2 (Q (.returned (.tuple #[.agg #[vb 1,vs (s.extract (Int.toNat c) (Int.toNat a)),vb 0,vi 0,vi c],vi 0])) I4 F4) (Q (.returned (.tuple #[.agg #[vb 2,vs (s.extract (Int.toNat c) (Int.toNat a)),vb 0,vi 0,vi c],vi 0])) I4 F4))))))
theorem ref11_named.vc{s:Bs}{f:Int}{I:Imm}{F:Heap}{Q:PostQ}(Inv6:Int→Nat→Imm→Heap→Prop)(h:ref11_named.V (fun W a b c d e=>(W,Obj.cells #[.int .u8 a,.string b,.int .u8 c,.int .i64 d,.int .i64 e] 145 (0,0))) (.int .u8) (.int .i64) .string (IntKind.wrap .i64) s f I F Q Inv6):Tri P 142 #[.string s,.int .i64 f] I F Q :=
 tw (A:=(annL [2003,2008,5003,8000] [] [100,102] shT_x2 [(6,⟨[(6,(.int .i64))],[],fun _ _ _ vs m I F=>match vs with | [.int _ y0]=>Inv6 y0 m I F | _=>False,[],[]⟩)] [] [] [] [] [] [])) [100,102] func142 h
def ref11_number.V(ka:Nat→Int→Bs→Int→Int→Int→Nat×Obj)(kb:Int→Bs→Int→Int→Int→Value)(vb vi:Int→Value)(vs:Bs→Value)(wr:Int→Int)(s:Bs)(d:Int)(I:Imm)(F:Heap)(Q:PostQ)(Inv8:Int→Int→Int→Int→Bs→Int→Int→Int→Imm→Heap→Prop)(Inv10:Int→Int→Int→Int→Bs→Int→Int→Int→Nat→Imm→Heap→Prop)(Inv29:Int→Int→Bs→Int→Int→Int→Imm→Heap→Prop)(Inv39:Int→Bs→Int→Int→Int→Imm→Heap→Prop)(Inv45:Int→Bs→Int→Int→Int→Imm→Heap→Prop)(Inv51:Int→Bs→Int→Int→Int→Imm→Heap→Prop)(Inv57:Int→Imm→Heap→Prop):Prop:=∀b:Nat,∀ao:Nat,((∃m:Nat,Inv10 0 d 0 0 (⟨#[]⟩:Bs) 0 0 0 m I F)∧∀(x f n y:Int) (z:Bs) (aa ab ac:Int) (m1:Nat) (I1:Imm) (F1:Heap),Imm.le I I1→Inv10 x f n y z aa ab ac m1 I1 F1→(Dt (f<(s.size:Int)) ((0≤f∧f<(s.size:Int))∧Tc1 P 131 (#[vb (bt s f)]) I1 ((ka b y z aa ab ac)::(ka ao 3 (⟨#[]⟩:Bs) 1 0 d)::·) F1 .bool fun r I2 F2=>(It r (Dt (n>922337203685477580) (Q (.returned (.tuple #[(kb 0 (⟨#[]⟩:Bs) 0 0 0),vi 113])) I2 F2) ((0≤f∧f<(s.size:Int))∧(∃m2:Nat,m2<m1∧Inv10 x (wr (f+1)) (IntKind.wrap .u64 ((IntKind.wrap .u64 (10*n))+(IntKind.wrap .u64 (IntKind.wrap .u8 ((bt s f)-48))))) y z aa ab ac m2 I2 F2))) (Inv8 x f n y z aa ab ac I2 F2))) (Inv8 x f n y z aa ab ac I1 F1)))∧∀(x1 a n1 ae:Int) (af:Bs) (ag ah ai:Int) (I3:Imm) (F3:Heap),Imm.le I I3→Inv8 x1 a n1 ae af ag ah ai I3 F3→((Dt (n1>9223372036854775807) (Q (.returned (.tuple #[(kb 0 (⟨#[]⟩:Bs) 0 0 0),vi 113])) I3 F3) (Dt ((wr (a-d))>1) ((0≤d∧d<(s.size:Int))∧(It ((bt s d)==48) (Q (.returned (.tuple #[(kb 0 (⟨#[]⟩:Bs) 0 0 0),vi 113])) I3 F3) (Inv29 x1 ae af ag ah ai I3 F3))) (Inv29 x1 ae af ag ah ai I3 F3))))∧∀(x2 aj:Int) (ak:Bs) (al am an:Int) (I4:Imm) (F4:Heap),Imm.le I3 I4→Inv29 x2 aj ak al am an I4 F4→((Dt (a<(s.size:Int)) ((0≤a∧a<(s.size:Int))∧(It ((bt s a)==113) (Inv39 3 (⟨#[]⟩:Bs) 2 (wr n1) d I4 F4) (Inv39 3 (⟨#[]⟩:Bs) 1 (wr n1) d I4 F4))) (Inv39 3 (⟨#[]⟩:Bs) 1 (wr n1) d I4 F4)))∧∀(p:Int) (q:Bs) (ad t u:Int) (I5:Imm) (F5:Heap),Imm.le I4 I5→Inv39 p q ad t u I5 F5→((Dt (a<(s.size:Int)) ((0≤a∧a<(s.size:Int))∧(It ((bt s a)==112) (Inv45 p q 3 t u I5 F5) (Inv45 p q ad t u I5 F5))) (Inv45 p q ad t u I5 F5)))∧∀(j:Int) (k:Bs) (v l o:Int) (I6:Imm) (F6:Heap),Imm.le I5 I6→Inv45 j k v l o I6 F6→((Dt (a<(s.size:Int)) ((0≤a∧a<(s.size:Int))∧(It ((bt s a)==116) (Inv51 j k 4 l o I6 F6) (Inv51 j k v l o I6 F6))) (Inv51 j k v l o I6 F6)))∧∀(g:Int) (w:Bs) (e h i:Int) (I7:Imm) (F7:Heap),Imm.le I6 I7→Inv51 g w e h i I7 F7→((It (e != 1) (Inv57 (wr (a+1)) I7 F7) (Inv57 a I7 F7)))∧∀(c:Int) (I8:Imm) (F8:Heap),Imm.le I7 I8→Inv57 c I8 F8→(Dt (c<(s.size:Int)) ((0≤c∧c<(s.size:Int))∧Tc1 P 102 (#[vb (bt s c)]) I8 ((ka b aj ak al am an)::(ka ao g w e h i)::·) F8 .bool fun r1 I9 F9=>(It r1 (Q (.returned (.tuple #[(kb 0 (⟨#[]⟩:Bs) 0 0 0),vi 113])) I9 F9) ((0≤c∧c<(s.size:Int))∧(Dt ((bt s c)≥65) ((0≤c∧c<(s.size:Int))∧(Dt ((bt s c)≤90) (Q (.returned (.tuple #[(kb 0 (⟨#[]⟩:Bs) 0 0 0),vi 113])) I9 F9) ((0≤d∧d≤c∧c≤(s.size:Int))∧Q (.returned (.tuple #[(kb g (s.extract (Int.toNat d) (Int.toNat c)) e h i),vi 0])) I9 F9))) ((0≤d∧d≤c∧c≤(s.size:Int))∧Q (.returned (.tuple #[(kb g (s.extract (Int.toNat d) (Int.toNat c)) e h i),vi 0])) I9 F9))))) ((0≤d∧d≤c∧c≤(s.size:Int))∧Q (.returned (.tuple #[(kb g (s.extract (Int.toNat d) (Int.toNat c)) e h i),vi 0])) I8 F8))
theorem ref11_number.vc{s:Bs}{f:Int}{I:Imm}{F:Heap}{Q:PostQ}(Inv8:Int→Int→Int→Int→Bs→Int→Int→Int→Imm→Heap→Prop)(Inv10:Int→Int→Int→Int→Bs→Int→Int→Int→Nat→Imm→Heap→Prop)(Inv29:Int→Int→Bs→Int→Int→Int→Imm→Heap→Prop)(Inv39:Int→Bs→Int→Int→Int→Imm→Heap→Prop)(Inv45:Int→Bs→Int→Int→Int→Imm→Heap→Prop)(Inv51:Int→Bs→Int→Int→Int→Imm→Heap→Prop)(Inv57:Int→Imm→Heap→Prop)(h:ref11_number.V (fun W a b c d e=>(W,Obj.cells #[.int .u8 a,.string b,.int .u8 c,.int .i64 d,.int .i64 e] 145 (0,0))) (fun a b c d e=>.agg #[.int .u8 a,.string b,.int .u8 c,.int .i64 d,.int .i64 e]) (.int .u8) (.int .i64) .string (IntKind.wrap .i64) s f I F Q Inv8 Inv10 Inv29 Inv39 Inv45 Inv51 Inv57):Tri P 143 #[.string s,.int .i64 f] I F Q :=
 tw (A:=(annL [4003,4008,5001,9001,9006,9011,12003,12008,14003,14008,16003,16008,18002,20003,20008,20013,20018] [] [102,131] shT_x2 [(8,⟨[(5,(.int .i64)),(7,(.int .i64)),(8,(.int .u64))],[(0,[(.int .u8),.str,(.int .u8),(.int .i64),(.int .i64)])],fun _ _ _ vs m I F=>match vs with | [.int _ y0,.int _ y1,.int _ y2,.int _ y3,.string y4,.int _ y5,.int _ y6,.int _ y7]=>Inv8 y0 y1 y2 y3 y4 y5 y6 y7 I F | _=>False,[],[]⟩),(10,⟨[(5,(.int .i64)),(7,(.int .i64)),(8,(.int .u64))],[(0,[(.int .u8),.str,(.int .u8),(.int .i64),(.int .i64)])],fun _ _ _ vs m I F=>match vs with | [.int _ y0,.int _ y1,.int _ y2,.int _ y3,.string y4,.int _ y5,.int _ y6,.int _ y7]=>Inv10 y0 y1 y2 y3 y4 y5 y6 y7 m I F | _=>False,[],[]⟩),(29,⟨[(5,(.int .i64))],[(0,[(.int .u8),.str,(.int .u8),(.int .i64),(.int .i64)])],fun _ _ _ vs m I F=>match vs with | [.int _ y0,.int _ y1,.string y2,.int _ y3,.int _ y4,.int _ y5]=>Inv29 y0 y1 y2 y3 y4 y5 I F | _=>False,[],[]⟩),(39,⟨[],[(1,[(.int .u8),.str,(.int .u8),(.int .i64),(.int .i64)])],fun _ _ _ vs m I F=>match vs with | [.int _ y0,.string y1,.int _ y2,.int _ y3,.int _ y4]=>Inv39 y0 y1 y2 y3 y4 I F | _=>False,[],[]⟩),(45,⟨[],[(1,[(.int .u8),.str,(.int .u8),(.int .i64),(.int .i64)])],fun _ _ _ vs m I F=>match vs with | [.int _ y0,.string y1,.int _ y2,.int _ y3,.int _ y4]=>Inv45 y0 y1 y2 y3 y4 I F | _=>False,[],[]⟩),(51,⟨[],[(1,[(.int .u8),.str,(.int .u8),(.int .i64),(.int .i64)])],fun _ _ _ vs m I F=>match vs with | [.int _ y0,.string y1,.int _ y2,.int _ y3,.int _ y4]=>Inv51 y0 y1 y2 y3 y4 I F | _=>False,[],[]⟩),(57,⟨[(7,(.int .i64))],[],fun _ _ _ vs m I F=>match vs with | [.int _ y0]=>Inv57 y0 I F | _=>False,[],[]⟩)] [] [] [] [] [] [])) [102,131] func143 h
def ref11_mark.V(vb vi:Int→Value)(vs:Bs→Value)(wr:Int→Int)(s:Bs)(a:Int)(I:Imm)(F:Heap)(Q:PostQ)(Inv8:Int→Int→Int→Bs→Int→Int→Int→Nat→Imm→Heap→Prop):Prop:=∀b:Nat,∀(b1:Nat) (I1:Imm),Imm.le I I1→I1 b1=some (Obj.cells #[vs (⟨#[61,61]⟩:Bs),vs (⟨#[33,61]⟩:Bs),vs (⟨#[60,61]⟩:Bs),vs (⟨#[62,61]⟩:Bs),vs (⟨#[38,38]⟩:Bs),vs (⟨#[124,124]⟩:Bs),vs (⟨#[123]⟩:Bs),vs (⟨#[125]⟩:Bs),vs (⟨#[40]⟩:Bs),vs (⟨#[41]⟩:Bs),vs (⟨#[44]⟩:Bs),vs (⟨#[59]⟩:Bs),vs (⟨#[63]⟩:Bs),vs (⟨#[58]⟩:Bs),vs (⟨#[61]⟩:Bs),vs (⟨#[33]⟩:Bs),vs (⟨#[60]⟩:Bs),vs (⟨#[62]⟩:Bs),vs (⟨#[43]⟩:Bs),vs (⟨#[45]⟩:Bs),vs (⟨#[42]⟩:Bs),vs (⟨#[47]⟩:Bs),vs (⟨#[37]⟩:Bs)] 9 (0,0))→(∃m:Nat,Inv8 0 0 0 (⟨#[]⟩:Bs) 0 0 0 m I1 F)∧∀(x i c:Int) (d:Bs) (e f g:Int) (m1:Nat) (I2:Imm) (F1:Heap),Imm.le I1 I2→Inv8 x i c d e f g m1 I2 F1→(Dt (i<(23:Int)) ((0≤i∧i<(23:Int))∧∃ad:Addr,some ⟨b1,0,none⟩=some ad∧∃(m2:Bs),Rd I2 ((b,Obj.cells #[vb c,vs d,vb e,vi f,vi g] 145 (0,0))::F1) (ad.add (Int.toNat i*1)) [vs m2]∧(Dt ((wr (a+(m2.size:Int)))≤(s.size:Int)) ((0≤a∧a≤(wr (a+(m2.size:Int)))∧(wr (a+(m2.size:Int)))≤(s.size:Int))∧((0≤i∧i<(23:Int))∧∃h:Addr,some ⟨b1,0,none⟩=some h∧∃(m3:Bs),Rd I2 ((b,Obj.cells #[vb c,vs d,vb e,vi f,vi g] 145 (0,0))::F1) (h.add (Int.toNat i*1)) [vs m3]∧(It ((s.extract (Int.toNat a) (Int.toNat ((wr (a+(m2.size:Int)))))).toList==m3.toList) ((0≤i∧i<(23:Int))∧∃j:Addr,some ⟨b1,0,none⟩=some j∧∃(m4:Bs),Rd I2 ((b,Obj.cells #[vb c,vs d,vb e,vi f,vi g] 145 (0,0))::F1) (j.add (Int.toNat i*1)) [vs m4]∧Q (.returned (.tuple #[.agg #[vb 4,vs m4,vb 0,vi 0,vi a],vi 0])) I2 F1) (∃m5:Nat,m5<m1∧Inv8 x (wr (i+1)) c d e f g m5 I2 F1)))) (∃m6:Nat,m6<m1∧Inv8 x (wr (i+1)) c d e f g m6 I2 F1))) (Q (.returned (.tuple #[.agg #[vb 0,vs (⟨#[]⟩:Bs),vb 0,vi 0,vi 0],vi 111])) I2 F1))
theorem ref11_mark.vc{s:Bs}{a:Int}{I:Imm}{F:Heap}{Q:PostQ}(Inv8:Int→Int→Int→Bs→Int→Int→Int→Nat→Imm→Heap→Prop)(h:ref11_mark.V (.int .u8) (.int .i64) .string (IntKind.wrap .i64) s a I F Q Inv8):Tri P 144 #[.string s,.int .i64 a] I F Q :=
 tw (A:=(annL [3003,6005,6017] [] [] shT_x2 [(8,⟨[(5,(.int .i64)),(7,(.int .i64))],[(0,[(.int .u8),.str,(.int .u8),(.int .i64),(.int .i64)])],fun _ _ _ vs m I F=>match vs with | [.int _ y0,.int _ y1,.int _ y2,.string y3,.int _ y4,.int _ y5,.int _ y6]=>Inv8 y0 y1 y2 y3 y4 y5 y6 m I F | _=>False,[],[]⟩)] [1000] [] [] [] [] [])) [] func144 h
def ref11_One.V(ka:Nat→Int→Bs→Int→Int→Int→Nat×Obj)(kb:Int→Bs→Int→Int→Int→Value)(vb vi:Int→Value)(vs:Bs→Value)(s:Bs)(w:Int)(I:Imm)(F:Heap)(Q:PostQ)  : Prop:=∀b:Nat,Tc1 P 141 #[vs s,vi w] I ((ka b 0 (⟨#[]⟩:Bs) 0 0 0)::·) F vi fun r I1 F1=>(It (r==(s.size:Int)) (Q (.returned (.tuple #[(kb 0 (⟨#[]⟩:Bs) 0 0 r),vi 0,vi 0])) I1 F1) (∀a:Nat,((0≤r∧r<(s.size:Int))∧Tc1 P 101 (#[vb (bt s r)]) I1 ((ka b 0 (⟨#[]⟩:Bs) 0 0 0)::(ka a 0 (⟨#[]⟩:Bs) 0 0 0)::·) F1 .bool fun r1 I2 F2=>(It r1 (Tcn P 142 #[vs s,vi r] I2 ((ka b 0 (⟨#[]⟩:Bs) 0 0 0)::(ka a 0 (⟨#[]⟩:Bs) 0 0 0)::·) F2 fun e3 I3 G3=>∃(p:Int) (q:Bs) (t u v m:Int),e3=.returned (.tuple #[(kb p q t u v),vi m])∧G3 fun F3=>(It (m != 0) (Q (.returned (.tuple #[(kb p q t u v),vi m,vi r])) I3 F3) (Q (.returned (.tuple #[(kb p q t u v),vi m,vi 0])) I3 F3))) ((0≤r∧r<(s.size:Int))∧Tc1 P 131 (#[vb (bt s r)]) I2 ((ka b 0 (⟨#[]⟩:Bs) 0 0 0)::(ka a 0 (⟨#[]⟩:Bs) 0 0 0)::·) F2 .bool fun r2 I4 F4=>(It r2 (Tcn P 143 #[vs s,vi r] I4 ((ka b 0 (⟨#[]⟩:Bs) 0 0 0)::(ka a 0 (⟨#[]⟩:Bs) 0 0 0)::·) F4 fun e5 I5 G5=>∃(c:Int) (d:Bs) (e f g n:Int),e5=.returned (.tuple #[(kb c d e f g),vi n])∧G5 fun F5=>(It (n != 0) (Q (.returned (.tuple #[(kb c d e f g),vi n,vi r])) I5 F5) (Q (.returned (.tuple #[(kb c d e f g),vi n,vi 0])) I5 F5))) (Tcn P 144 #[vs s,vi r] I4 ((ka b 0 (⟨#[]⟩:Bs) 0 0 0)::(ka a 0 (⟨#[]⟩:Bs) 0 0 0)::·) F4 fun e6 I6 G6=>∃(h:Int) (i:Bs) (j k l o:Int),e6=.returned (.tuple #[(kb h i j k l),vi o])∧G6 fun F6=>(It (o != 0) (Q (.returned (.tuple #[(kb h i j k l),vi o,vi r])) I6 F6) (Q (.returned (.tuple #[(kb h i j k l),vi o,vi 0])) I6 F6)))))))))
theorem ref11_One.vc{s:Bs}{f:Int}{I:Imm}{F:Heap}{Q:PostQ}  (h:ref11_One.V (fun W a b c d e=>(W,Obj.cells #[.int .u8 a,.string b,.int .u8 c,.int .i64 d,.int .i64 e] 145 (0,0))) (fun a b c d e=>.agg #[.int .u8 a,.string b,.int .u8 c,.int .i64 d,.int .i64 e]) (.int .u8) (.int .i64) .string s f I F Q):Tri P 119 #[.string s,.int .i64 f] I F Q :=
 tw (A:=(an [2003,7003,9003,11001] [101,131,141,142,143,144] shT_x2)) [101,131,141,142,143,144] func119 h
def ref11_Begin.V(vb vi:Int→Value)(vs:Bs→Value)(vl:OA→Nat→Nat→Value)(s:Bs)(I:Imm)(F:Heap)(Q:PostQ)(Inv7:OA→Nat→Nat→Int→Int→OA→Nat→Nat→Int→Nat→Imm→Heap→Prop):Prop:=(∃m:Nat,Inv7 none 0 0 0 0 none 0 0 0 m I F)∧∀(n:OA) (o p:Nat) (x x1:Int) (g:OA) (h i:Nat) (q:Int) (m1:Nat) (I1:Imm) (F1:Heap),Imm.le I I1→Inv7 n o p x x1 g h i q m1 I1 F1→Tcn P 119 #[vs s,vi q] I1 (·) F1 fun e1 I2 G1=>∃(a:Int) (c:Bs) (e f d r1 r2:Int),e1=.returned (.tuple #[.agg #[vb a,vs c,vb e,vi f,vi d],vi r1,vi r2])∧G1 fun F2=>∀r:Nat,(It (r1 != 0) (Q (.returned (.tuple #[vl g h i,vi r1,vi r2])) I2 F2) (∀(b:Nat) (I3:Imm),Imm.le I2 I3→I3 b=some (Obj.cells #[vb a,vs c,vb e,vi f,vi d] 145 (0,0))→TriE P (Builtin.append_ #[105,105] 105 #[vl g h i,vl (some ⟨b,0,none⟩) 1 1]) I3 ((r,Obj.cells #[vb a,vs c,vb e,vi f,vi d] 145 (0,0))::F2) fun v I4 G2=>∃(j:OA) (k l:Nat),v=vl j k l∧∃F3:Heap,List.Perm G2 ((r,Obj.cells #[vb a,vs c,vb e,vi f,vi d] 145 (0,0))::F3)∧(It (a==0) (Q (.returned (.tuple #[vl j k l,vi 0,vi 0])) I4 F3) (∃m2:Nat,m2<m1∧Inv7 n o p x x1 j k l (IntKind.wrap .i64 (d+(c.size:Int))) m2 I4 F3))))
theorem ref11_Begin.vc{s:Bs}{I:Imm}{F:Heap}{Q:PostQ}(Inv7:OA→Nat→Nat→Int→Int→OA→Nat→Nat→Int→Nat→Imm→Heap→Prop)(h:ref11_Begin.V (.int .u8) (.int .i64) .string .slice s I F Q Inv7):Tri P 84 #[.string s] I F Q :=
 tw (A:=(annL [4001,7002] [] [119] shT_x2 [(7,⟨[(2,.slc),(3,(.int .i64)),(4,(.int .i64)),(5,.slc),(6,(.int .i64))],[],fun _ _ _ vs m I F=>match vs with | [.slice y0 y1 y2,.int _ y3,.int _ y4,.slice y5 y6 y7,.int _ y8]=>Inv7 y0 y1 y2 y3 y4 y5 y6 y7 y8 m I F | _=>False,[],[]⟩)] [6002] [] [] [] [] [])) [119] func84 h
end Go.Lx
namespace Go.Lx
open Go.Vc
theorem rover_spec{s:ByteArray}(hs:Short s){i:Int}(h0:0≤i)(h1:i≤s.size)(I:Imm)(F:Heap) :
  Tri P 141 #[.string s,.int .i64 i] I F (Ret (.int .i64 (overAt s i)) F):=by
 have hs':=hs
 unfold Short at hs'
 refine ref11_over.vc (fun x r j m I' F'=>0≤j∧j≤s.size∧m=(s.size-j).toNat∧overR s r j=overAt s i∧F'=F) ?_
 unfold ref11_over.V
 refine⟨⟨_,h0,h1,rfl,rfl,rfl⟩,fun x r j m I1 F1 hI ⟨g0,g1,gm,gr,gF⟩=>⟨fun hlt=>?_,fun hlt=>?_⟩⟩
 ·have hlt:j<(s.size:Int):=by simpa using hlt
  subst gF
  have step:=overR_step (r:=r) hlt
  have stop:∀J:Imm,remB (bt s j) r=false→blank (bt s j)=false→Ret (.int .i64 (overAt s i)) F1 (.returned (.int .i64 j)) J F1:=fun J a b=>by
   rw[a,b,gr] at step
   exact⟨by rw[step];rfl,rfl⟩
  have cont:∀r',remB (bt s j) r=r'→(r'=true∨blank (bt s j)=true)→∃m2:Nat,m2<m∧(0≤IntKind.wrap .i64 (j+1)∧IntKind.wrap .i64 (j+1)≤s.size∧m2=(s.size-IntKind.wrap .i64 (j+1)).toNat ∧
    overR s r' (IntKind.wrap .i64 (j+1))=overAt s i∧F1=F1):=fun r' a b=>by
   rw[w64 (by omega)]
   refine⟨_,by omega,by omega,by omega,rfl, ?_,rfl⟩
   rw[a,gr] at step
   rw[step,if_neg]
   rcases b with b | b<;>simp[b]
  refine⟨⟨g0,hlt⟩, ?_⟩
  clear step gr
  repeat' (first | (with_reducible apply And.intro) | (with_reducible intro h))
  all_goals first
   | (refine stop I1 ?_ ?_<;>simp_all [remB,blank];done)
   | (refine cont _ ?_ ?_<;>simp_all [remB,blank];done)
   | (exfalso;simp_all;done)
 ·have hlt:¬j<(s.size:Int):=by simpa using hlt
  refine⟨?_,gF⟩
  rw[overR_end (by omega)] at gr
  rw[←gr]
  have:j=s.size:=by omega
  rw[this]
theorem rnamed_spec{s:ByteArray}(hs:Short s){i:Int}(h0:0≤i)(h1:i<s.size)(I:Imm)(F:Heap):Tri P 142 #[.string s,.int .i64 i] I F (Ret (nameR s i).v2 F):=by
 have hs':=hs
 unfold Short at hs'
 have hE:=runAt_le (p:=innerB) (s:=s) (i:=i) (by omega)
 refine ref11_named.vc (fun j m I' F'=>i≤j∧j≤s.size∧m=(s.size-j).toNat∧runAt innerB s j=runAt innerB s i∧F'=F) ?_
 unfold ref11_named.V
 intro b
 refine⟨⟨_,by omega,by omega,rfl,rfl,rfl⟩,fun j m I1 F1 hI ⟨g0,g1,gm,gr,gF⟩=>⟨fun hlt=>?_,fun hlt=>?_⟩⟩
 ·have hlt:j<(s.size:Int):=of_decide_eq_true hlt
  subst gF
  refine⟨⟨by omega,hlt⟩, ?_⟩
  refine Tri.ret (rgoes_spec (bt s j) I1 _) fun I2 hI2=>⟨_,rfl,F1,.refl _,fun hc=>?_,fun hc=>⟨⟨h0,g0,g1⟩,fun b_t=>?_⟩⟩
  ·refine⟨m-1,by omega, ?_⟩
   rw[w64 (by omega)]
   rw[runAt_step hlt,if_pos hc] at gr
   exact⟨by omega,by omega,by omega,gr,rfl⟩
  ·rw[runAt_step hlt,if_neg (by rw[hc];exact Bool.false_ne_true)] at gr
   unfold nameR
   simp only[←gr]
   rw[w64 (by omega)]
   refine⟨fun h=>⟨?_,rfl⟩,fun h=>?_⟩
   ·rw[if_pos (of_decide_eq_true h)];rfl
   ·rw[if_neg (of_decide_eq_false h)]
    refine Tri.ret (rWord_spec (cut s i j) I2 _) fun I3 hI3=>⟨_,rfl,F1,.refl _,fun hw=>⟨?_,rfl⟩,fun hw=>⟨?_,rfl⟩⟩
    ·rw[if_pos hw];rfl
    ·rw[if_neg (by rw[hw];exact Bool.false_ne_true)];rfl
 ·have hlt:¬j<(s.size:Int):=of_decide_eq_false hlt
  subst gF
  refine⟨⟨h0,g0,g1⟩,fun b_t=>?_⟩
  rw[runAt_end (by omega)] at gr
  unfold nameR
  simp only[←gr]
  rw[w64 (by omega)]
  refine⟨fun h=>⟨?_,rfl⟩,fun h=>?_⟩
  ·rw[if_pos (of_decide_eq_true h)];rfl
  ·rw[if_neg (of_decide_eq_false h)]
   refine Tri.ret (rWord_spec (cut s i j) I1 _) fun I3 hI3=>⟨_,rfl,F1,.refl _,fun hw=>⟨?_,rfl⟩,fun hw=>⟨?_,rfl⟩⟩
   ·rw[if_pos hw];rfl
   ·rw[if_neg (by rw[hw];exact Bool.false_ne_true)];rfl
end Go.Lx
namespace Go.Lx
open Go.Vc
theorem rbyte_dig{c:Int}(h:digitB c=true):IntKind.wrap .u64 (IntKind.wrap .u8 (c-48))=c-48∧48≤c∧c≤57:=by
 simp only[digitB,Bool.and_eq_true,decide_eq_true_eq] at h
 rw[w8 (by omega),wu64 (by omega)]
 exact⟨rfl,h⟩
theorem rnumber_spec{s:ByteArray}(hs:Short s){i:Int}(h0:0≤i)(h1:i<s.size)(I:Imm)(F:Heap):Tri P 143 #[.string s,.int .i64 i] I F (Ret (numR s i).v2 F):=by
 have hs':=hs
 unfold Short at hs'
 have hE:=runAt_le (p:=digitB) (s:=s) (i:=i) (by omega)
 generalize hEd:runAt digitB s i=E at hE
 let e2:Int:=if typOf (byteOr0 s E)=1 then E else E+1
 have hbad:(valAt s i 0>9223372036854775807∨(E-i>1∧bt s i=48)∨(e2<s.size∧(innerB (bt s e2)=true∨(65≤bt s e2∧bt s e2≤90)))) →
   (numR s i).v2=.tuple #[(zTok 0).v,.int .i64 113]:=fun h=>by
  unfold numR;simp only[hEd];rw[if_pos h];rfl
 have hok:¬(valAt s i 0>9223372036854775807∨(E-i>1∧bt s i=48)∨(e2<s.size∧(innerB (bt s e2)=true∨(65≤bt s e2∧bt s e2≤90)))) →
   (numR s i).v2=.tuple #[(⟨3,cut s i e2,typOf (byteOr0 s E),valAt s i 0,i⟩:Tok).v,.int .i64 0]:=fun h=>by
  unfold numR;simp only[hEd];rw[if_neg h];rfl
 have he2r:e2≤s.size∧E≤e2∧e2≤E+1:=by
  show (if typOf (byteOr0 s E)=1 then E else E+1)≤_∧_≤(if typOf (byteOr0 s E)=1 then E else E+1)∧(if typOf (byteOr0 s E)=1 then E else E+1)≤_
  split
  ·omega
  ·rename_i hne
   have:E<s.size:=by
    rcases Int.lt_or_le E s.size with h | h
    ·exact h
    ·rw[show byteOr0 s E=0 by unfold byteOr0;rw[if_neg (by omega)]] at hne
     exact absurd rfl hne
   omega
 refine ref11_number.vc (fun x en n b0 b1 b2 b3 b4 I' F'=>en=E∧n=valAt s i 0∧F'=F)
  (fun x j n b0 b1 b2 b3 b4 m I' F'=>i≤j∧j≤E∧m=(E-j).toNat∧0≤n∧n≤18446744073709551615∧runAt digitB s j=E∧valAt s j n=valAt s i 0∧F'=F)
  (fun x b0 b1 b2 b3 b4 I' F'=>¬(E-i>1∧bt s i=48)∧¬valAt s i 0>9223372036854775807∧F'=F)
  (fun t0 t1 t2 t3 t4 I' F'=>t0=3∧t2=(if byteOr0 s E=113 then 2 else 1)∧t3=valAt s i 0∧t4=i∧F'=F)
  (fun t0 t1 t2 t3 t4 I' F'=>t0=3∧t2=(if byteOr0 s E=112 then 3 else if byteOr0 s E=113 then 2 else 1)∧t3=valAt s i 0∧t4=i∧F'=F)
  (fun t0 t1 t2 t3 t4 I' F'=>t0=3∧t2=typOf (byteOr0 s E)∧t3=valAt s i 0∧t4=i∧F'=F)
  (fun en I' F'=>en=e2∧F'=F) ?_
 unfold ref11_number.V
 intro b b_t
 refine⟨⟨⟨_,by omega,by omega,rfl,by omega,by omega,hEd,rfl,rfl⟩, ?_⟩, ?_⟩
 ·intro x j n b0 b1 b2 b3 b4 m I1 F1 hI1 ⟨g0,g1,gm,gn0,gn1,gr,gv,gF⟩
  subst gF
  refine⟨fun hlt=>?_,fun hlt=>?_⟩
  ·have hlt:j<s.size:=of_decide_eq_true hlt
   refine⟨⟨by omega,hlt⟩, ?_⟩
   refine Tri.ret (rdigit_spec (bt s j) I1 _) fun I2 hI2=>⟨_,rfl,F1,.refl _,fun hd=>?_,fun hd=>?_⟩
   ·obtain⟨hw,hc0,hc1⟩:=rbyte_dig hd
    rw[runAt_step hlt,if_pos hd] at gr
    rw[valAt_step hlt,if_pos hd] at gv
    have hr2:=runAt_le (p:=digitB) (s:=s) (i:=j+1) (by omega)
    refine⟨fun hgt=>⟨?_,rfl⟩,fun hgt=>⟨⟨by omega,hlt⟩, ?_⟩⟩
    ·refine (congrArg Ending.returned (hbad (.inl ?_)).symm)
     have hgt:=of_decide_eq_true hgt
     have:=valAt_ge (s:=s) (i:=j+1) (v:=10*n+(bt s j-48)) (by omega)
     omega
    ·have hgt:=of_decide_eq_false hgt
     rw[hw,wu64 (n:=10*n) (by omega),wu64 (n:=10*n+_) (by omega),w64 (by omega)]
     exact⟨_,by omega,by omega,by omega,rfl,by omega,by omega,gr,gv,rfl⟩
   ·rw[runAt_step hlt,if_neg (by rw[hd];exact Bool.false_ne_true)] at gr
    rw[valAt_step hlt,if_neg (by rw[hd];exact Bool.false_ne_true)] at gv
    exact⟨gr,gv,rfl⟩
  ·have hlt:¬j<s.size:=of_decide_eq_false hlt
   rw[runAt_end (by omega)] at gr
   rw[valAt_end (by omega)] at gv
   exact⟨gr,gv,rfl⟩
 intro x en n b0 b1 b2 b3 b4 I3 F3 hI3 ⟨hen,hn,hF3⟩
 subst hen hF3
 rw[w64 (n:=en-i) (by omega)]
 refine⟨⟨fun h=>⟨?_,rfl⟩,fun h=>⟨fun hl=>⟨⟨h0,h1⟩,fun h48=>⟨?_,rfl⟩,fun h48=>⟨?_, ?_,rfl⟩⟩,fun hl=>⟨?_, ?_,rfl⟩⟩⟩, ?_⟩
 ·exact congrArg Ending.returned (hbad (.inl (by have:=of_decide_eq_true h;omega))).symm
 ·exact congrArg Ending.returned (hbad (.inr (.inl ⟨of_decide_eq_true hl,by simpa using h48⟩))).symm
 ·intro hc;rw[hc.2] at h48;simp at h48
 ·have:=of_decide_eq_false h;omega
 ·intro hc;exact absurd hc.1 (of_decide_eq_false hl)
 ·have:=of_decide_eq_false h;omega
 intro x2 c0 c1 c2 c3 c4 I4 F4 hI4 ⟨hz,nov,hF4⟩
 subst hF4
 have hv0:=valAt_ge (s:=s) (i:=i) (v:=0) (by omega)
 rw[w64 (n:=n) (by omega)]
 have hpos:en<s.size→byteOr0 s en=bt s en:=fun h=>by unfold byteOr0;rw[if_pos h]
 have hneg:¬en<s.size→byteOr0 s en=0:=fun h=>by unfold byteOr0;rw[if_neg h]
 refine⟨⟨fun hl=>⟨⟨by omega,of_decide_eq_true hl⟩,fun h=>⟨rfl, ?_,hn,rfl,rfl⟩,fun h=>⟨rfl, ?_,hn,rfl,rfl⟩⟩,fun hl=>⟨rfl, ?_,hn,rfl,rfl⟩⟩, ?_⟩
 ·rw[hpos (of_decide_eq_true hl),if_pos (by simpa using h)]
 ·rw[hpos (of_decide_eq_true hl),if_neg (by simpa using h)]
 ·rw[hneg (of_decide_eq_false hl)];rfl
 intro t0 t1 t2 t3 t4 I5 F5 hI5 ⟨ht0,ht2,ht3,ht4,hF5⟩
 subst hF5
 refine⟨⟨fun hl=>⟨⟨by omega,of_decide_eq_true hl⟩,fun h=>⟨ht0, ?_,ht3,ht4,rfl⟩,fun h=>⟨ht0, ?_,ht3,ht4,rfl⟩⟩,fun hl=>⟨ht0, ?_,ht3,ht4,rfl⟩⟩, ?_⟩
 ·rw[hpos (of_decide_eq_true hl),if_pos (by simpa using h)]
 ·rw[ht2,hpos (of_decide_eq_true hl),if_neg (c:=bt s en=112) (by simpa using h)]
 ·rw[ht2,hneg (of_decide_eq_false hl)];rfl
 clear ht0 ht2 ht3 ht4
 intro t0 t1 t2 t3 t4 I6 F6 hI6 ⟨ht0,ht2,ht3,ht4,hF6⟩
 subst hF6
 refine⟨⟨fun hl=>⟨⟨by omega,of_decide_eq_true hl⟩,fun h=>⟨ht0, ?_,ht3,ht4,rfl⟩,fun h=>⟨ht0, ?_,ht3,ht4,rfl⟩⟩,fun hl=>⟨ht0, ?_,ht3,ht4,rfl⟩⟩, ?_⟩
 ·unfold typOf;rw[hpos (of_decide_eq_true hl),if_pos (by simpa using h)]
 ·unfold typOf;rw[ht2,hpos (of_decide_eq_true hl),if_neg (c:=bt s en=116) (by simpa using h)]
 ·unfold typOf;rw[ht2,hneg (of_decide_eq_false hl)];rfl
 clear ht0 ht2 ht3 ht4
 intro u0 u1 u2 u3 u4 I7 F7 hI7 ⟨hu0,hu2,hu3,hu4,hF7⟩
 subst hu0 hu2 hF7
 obtain rfl:i=u4:=hu4.symm
 refine⟨⟨fun h=>⟨?_,rfl⟩,fun h=>⟨?_,rfl⟩⟩, ?_⟩
 ·show _=if typOf (byteOr0 s en)=1 then en else en+1
  rw[if_neg (by simpa using h),w64 (by omega)]
 ·show _=if typOf (byteOr0 s en)=1 then en else en+1
  rw[if_pos (by simpa using h)]
 intro e3 I8 F8 hI8 ⟨he3,hF8⟩
 subst he3 hF8
 have okk:¬(e2<s.size∧(innerB (bt s e2)=true∨(65≤bt s e2∧bt s e2≤90))) →
   (0≤i∧i≤e2∧e2≤(s.size:Int))∧∀(J:Imm),Ret (numR s i).v2 F8 (.returned (Value.tuple #[Value.agg #[Value.int .u8 3,Value.string (s.extract (Int.toNat (i)) (Int.toNat (e2))),Value.int .u8 (typOf (byteOr0 s en)),Value.int .i64 u3,Value.int .i64 i],Value.int .i64 0])) J F8:=fun h=>by
  refine⟨by omega,fun J=>⟨?_,rfl⟩⟩
  rw[hok (fun h'=>h'.elim nov fun h'=>h'.elim hz h),hu3]
  rfl
 refine⟨fun hl=>⟨⟨by omega,of_decide_eq_true hl⟩, ?_⟩,fun hl=>?_⟩
 ·have hl:=of_decide_eq_true hl
  refine Tri.ret (rgoes_spec (bt s e2) I8 _) fun I9 hI9=>⟨_,rfl,F8,.refl _,fun hi=>⟨?_,rfl⟩,fun hi=>⟨⟨by omega,hl⟩,fun h65=>⟨⟨by omega,hl⟩,fun h90=>⟨?_,rfl⟩,fun h90=>?_⟩,fun h65=>?_⟩⟩
  ·exact congrArg Ending.returned (hbad (.inr (.inr ⟨hl,.inl hi⟩))).symm
  ·exact congrArg Ending.returned (hbad (.inr (.inr ⟨hl,.inr ⟨of_decide_eq_true h65,of_decide_eq_true h90⟩⟩))).symm
  ·obtain⟨a1,a2⟩:=okk (fun h=>h.2.elim (fun h=>by rw[hi] at h;cases h) fun h=>of_decide_eq_false h90 h.2)
   exact⟨a1,a2 _⟩
  ·obtain⟨a1,a2⟩:=okk (fun h=>h.2.elim (fun h=>by rw[hi] at h;cases h) fun h=>of_decide_eq_false h65 h.1)
   exact⟨a1,a2 _⟩
 ·obtain⟨a1,a2⟩:=okk (fun h=>of_decide_eq_false hl h.1)
  exact⟨a1,a2 _⟩
end Go.Lx
namespace Go.Lx
open Go.Vc
def marksL:List ByteArray:=[⟨#[61,61]⟩,⟨#[33,61]⟩,⟨#[60,61]⟩,⟨#[62,61]⟩,⟨#[38,38]⟩,⟨#[124,124]⟩,⟨#[123]⟩,⟨#[125]⟩,⟨#[40]⟩,⟨#[41]⟩,⟨#[44]⟩,⟨#[59]⟩,⟨#[63]⟩,⟨#[58]⟩,⟨#[61]⟩,⟨#[33]⟩,⟨#[60]⟩,⟨#[62]⟩,⟨#[43]⟩,⟨#[45]⟩,⟨#[42]⟩,⟨#[47]⟩,⟨#[37]⟩]
def hitB(s:ByteArray)(i:Int)(m:ByteArray):Bool:=decide (i+(m.size:Int)≤s.size)&&((cut s i (i+(m.size:Int))).toList==m.toList)
theorem ba_eq{a b:ByteArray}(h:a.toList=b.toList):a=b:=by
 rw[Lib.toList_data,Lib.toList_data] at h
 have:a.data=b.data:=Array.toList_inj.1 h
 cases a;cases b;simp_all
theorem bt_get{a:ByteArray}{k:Nat}(h:k<a.size):bt a k=(a.data[k].toNat:Int):=by
 have h2:a[k]? = some a[k]:=by simp[h]
 unfold bt
 rw[Int.toNat_natCast,h2]
 rfl
theorem ba_ext{a b:ByteArray}(hs:a.size=b.size)(h:∀k:Nat,k<a.size→bt a k=bt b k):a=b:=by
 have:a.data=b.data:=by
  refine Array.ext hs fun k h1 h2=>?_
  have:=h k h1
  rw[bt_get h1,bt_get h2] at this
  exact UInt8.toNat_inj.1 (by omega)
 cases a;cases b;simp_all
theorem hit_iff{s:ByteArray}{i:Int}(h0:0≤i)(m:ByteArray):hitB s i m=true↔i+m.size≤s.size∧∀k:Nat,k<m.size→bt s (i+k)=bt m k:=by
 unfold hitB
 simp only[Bool.and_eq_true,decide_eq_true_eq,beq_iff_eq]
 refine⟨fun ⟨h1,h2⟩=>⟨h1,fun k hk=>?_⟩,fun ⟨h1,h2⟩=>⟨h1, ?_⟩⟩
 ·have:=ba_eq h2
  rw[←cut_bt (j:=i+m.size) h0 (by omega) (by omega) h1,this]
 ·have hc:=cut_size (s:=s) h0 (by omega:i≤i+m.size) h1
  have:cut s i (i+m.size)=m:=ba_ext (by omega) fun k hk=>by
   rw[cut_bt h0 (by omega) (by omega) h1]
   exact h2 k (by omega)
  rw[this]
theorem hit1{s:ByteArray}{i:Int}(h0:0≤i)(h:i<s.size)(c:UInt8):hitB s i ⟨#[c]⟩=(bt s i==(c.toNat:Int)):=by
 rw[Bool.eq_iff_iff,hit_iff h0,beq_iff_eq]
 refine⟨fun ⟨_,h⟩=>by have:=h 0 (Nat.lt_succ_self 0);rwa [Int.natCast_zero,Int.add_zero] at this,fun hc=>⟨by show i+((1:Nat):Int)≤_;omega,fun k hk=>?_⟩⟩
 have:k=0:=by have:k<1:=hk;omega
 subst this
 rw[Int.natCast_zero,Int.add_zero,hc];rfl
theorem hit2{s:ByteArray}{i:Int}(h0:0≤i)(c d:UInt8)(hd:d.toNat≠0):hitB s i ⟨#[c,d]⟩=(bt s i==(c.toNat:Int)&&byteOr0 s (i+1)==(d.toNat:Int)):=by
 rw[Bool.eq_iff_iff,hit_iff h0]
 simp only[Bool.and_eq_true,beq_iff_eq]
 refine⟨fun ⟨h1,h⟩=>⟨?_, ?_⟩,fun ⟨hc,hd'⟩=>?_⟩
 ·have:=h 0 (show 0<2 by decide);rwa [Int.natCast_zero,Int.add_zero] at this
 ·have h1:i+((2:Nat):Int)≤s.size:=h1
  unfold byteOr0
  rw[if_pos (by omega)]
  exact h 1 (show 1<2 by decide)
 ·have hl:i+1<s.size:=by
   rcases Int.lt_or_le (i+1) s.size with h | h
   ·exact h
   ·unfold byteOr0 at hd';rw[if_neg (by omega)] at hd';omega
  unfold byteOr0 at hd'
  rw[if_pos hl] at hd'
  refine⟨by show i+((2:Nat):Int)≤_;omega,fun k hk=>?_⟩
  have hk:k<2:=hk
  rcases (by omega:k=0∨k=1) with rfl | rfl
  ·rw[Int.natCast_zero,Int.add_zero,hc];rfl
  ·exact hd'
theorem mark_find{s:ByteArray}{i:Int}(h0:0≤i)(h:i<s.size) :
  (marksL.find? (hitB s i)=none∧markN s i=0)∨(∃m,marksL.find? (hitB s i)=some m∧(m.size:Int)=markN s i∧0<markN s i∧cut s i (i+markN s i)=m):=by
 have key:(marksL.find? (hitB s i)=none∧markN s i=0)∨(∃m,marksL.find? (hitB s i)=some m∧(m.size:Int)=markN s i∧0<markN s i):=by
  unfold marksL
  simp only[List.find?_cons,List.find?_nil,hit1 h0 h,hit2 h0 _ 61 (by decide),hit2 h0 _ 38 (by decide),hit2 h0 _ 124 (by decide)]
  unfold markN
  generalize bt s i=c
  generalize byteOr0 s (i+1)=d
  clear h h0
  repeat' split
  all_goals first | (simp_all [single];done) | (simp_all [single];rfl) | (simp_all [single];omega)
 rcases key with hk | ⟨m,hm,hs,hp⟩
 ·exact .inl hk
 ·refine .inr ⟨m,hm,hs,hp, ?_⟩
  have:=List.find?_some hm
  rw[hit_iff h0] at this
  rw[←hs]
  have hc:=cut_size (s:=s) h0 (by omega:i≤i+m.size) this.1
  refine ba_ext (by omega) fun k hk=>?_
  rw[cut_bt h0 (by omega) (by omega) this.1]
  exact this.2 k (by omega)
end Go.Lx
namespace Go.Lx
open Go.Vc
theorem marks_small{k:Nat}{m:ByteArray}(h:marksL[k]? = some m):m.size≤2:=by
 have:=List.mem_of_getElem? h
 simp only[marksL,List.mem_cons,List.not_mem_nil,or_false] at this
 rcases this with h | h | h | h | h | h | h | h | h | h | h | h | h | h | h | h | h | h | h | h | h | h | h<;>(subst h;decide)
theorem rmark_spec{s:ByteArray}(hs:Short s){i:Int}(h0:0≤i)(h1:i<s.size)(I:Imm)(F:Heap):Tri P 144 #[.string s,.int .i64 i] I F (Ret (markR s i).v2 F):=by
 unfold Short at hs
 have hm:=mark_find h0 h1
 refine ref11_mark.vc (fun x k b0 b1 b2 b3 b4 m I' F'=>0≤k∧k≤23∧m=(23-k).toNat∧marksL.find? (hitB s i)=(marksL.drop k.toNat).find? (hitB s i)∧F'=F) ?_
 unfold ref11_mark.V
 intro b b1 I1 hI1 hb1
 have hS:Sl I1 1 encS (some ⟨b1,0,none⟩) 23 marksL:=Sl.of_cells (f:=encS) (z:=1) (l:=marksL) (fun _=>rfl) hb1 (by kernel_rfl)
 refine⟨⟨_,by omega,by omega,rfl,rfl,rfl⟩,fun x k c0 c1 c2 c3 c4 m I2 F2 hI2 ⟨g0,g1,gm,gf,gF⟩=>⟨fun hlt=>?_,fun hlt=>?_⟩⟩
 ·have hlt:k<23:=of_decide_eq_true hlt
  obtain⟨ad,w,ha,hw,hrd⟩:=(hS.mono hI2).at (i:=k) g0 hlt
  have hwz:=marks_small hw
  subst gF
  rw[drop_find hw] at gf
  have cont:hitB s i w=false→∃m6,m6<m∧(0≤IntKind.wrap .i64 (k+1)∧IntKind.wrap .i64 (k+1)≤23∧m6=(23-IntKind.wrap .i64 (k+1)).toNat ∧
    marksL.find? (hitB s i)=(marksL.drop (IntKind.wrap .i64 (k+1)).toNat).find? (hitB s i)∧F2=F2):=fun h=>by
   rw[w64 (by omega)]
   refine⟨(23-(k+1)).toNat,by omega,by omega,by omega,rfl, ?_,rfl⟩
   rw[gf,h,show (k+1).toNat=k.toNat+1 by omega];rfl
  refine⟨⟨g0,hlt⟩,ad,ha,w,hrd _, ?_⟩
  rw[w64 (n:=i+w.size) (by omega)]
  refine⟨fun hle=>⟨⟨h0,by omega,of_decide_eq_true hle⟩,⟨g0,hlt⟩,ad,ha,w,hrd _,fun he=>⟨⟨g0,hlt⟩,ad,ha,w,hrd _, ?_,rfl⟩,fun he=>cont ?_⟩,fun hle=>cont ?_⟩
  ·have hhit:hitB s i w=true:=by
    unfold hitB;rw[hle,Bool.true_and];exact he
   rw[hhit,if_pos rfl] at gf
   rcases hm with ⟨h,_⟩ | ⟨w',h,hsz,hp,hcut⟩
   ·rw[h] at gf;cases gf
   ·rw[h] at gf;cases gf
    unfold markR
    rw[if_neg (by omega),hcut];rfl
  ·unfold hitB;rw[hle,Bool.true_and];exact he
  ·unfold hitB;rw[hle];rfl
 ·have hlt:¬k<23:=of_decide_eq_false hlt
  refine⟨?_,gF⟩
  rw[List.drop_eq_nil_of_le (by show 23≤_;omega)] at gf
  rcases hm with ⟨h,hz⟩ | ⟨w',h,_⟩
  ·unfold markR
   rw[if_pos hz];rfl
  ·rw[h] at gf;cases gf
def TR.v3:TR→Value
 | .ok t=>.tuple #[t.v,.int .i64 0,.int .i64 0]
 | .bad e p=>.tuple #[(zTok 0).v,.int .i64 e,.int .i64 p]
theorem numR_err(s:ByteArray)(i:Int):(∃t,numR s i=.ok t)∨∃e,numR s i=.bad e i∧(e != 0)=true:=by
 rcases numR_shape s i with ⟨t,h,_⟩ | h
 ·exact .inl ⟨t,h⟩
 ·exact .inr ⟨_,h,rfl⟩
theorem nameR_err(s:ByteArray)(i:Int):(∃t,nameR s i=.ok t)∨∃e,nameR s i=.bad e i∧(e != 0)=true:=by
 unfold nameR;simp only;split
 ·exact .inr ⟨_,rfl,rfl⟩
 ·exact .inl ⟨_,rfl⟩
theorem markR_err(s:ByteArray)(i:Int):(∃t,markR s i=.ok t)∨∃e,markR s i=.bad e i∧(e != 0)=true:=by
 unfold markR;split
 ·exact .inr ⟨_,rfl,rfl⟩
 ·exact .inl ⟨_,rfl⟩
theorem not_both{c:Int}(h:smallB c=true):digitB c=false:=by
 simp only[smallB,digitB,Bool.and_eq_true,decide_eq_true_eq,Bool.and_eq_false_iff,decide_eq_false_iff_not] at h ⊢
 omega
theorem One_spec{s:ByteArray}(hs:Short s){f:Int}(h0:0≤f)(h1:f≤s.size)(I:Imm)(F:Heap):Tri P 119 #[.string s,.int .i64 f] I F (Ret (tokR s f).v3 F):=by
 have hs':=hs
 unfold Short at hs'
 refine ref11_One.vc ?_
 unfold ref11_One.V
 intro b
 have ho:=overAt_le (s:=s) h1
 refine Tri.ret (rover_spec hs h0 h1 I _) fun I1 hI1=>⟨_,rfl,F,.refl _, ?_⟩
 unfold tokR
 simp only
 generalize overAt s f=r at ho ⊢
 refine⟨fun h=>⟨?_,rfl⟩,fun h b_t=>?_⟩
 ·rw[if_pos (by simpa using h)];rfl
 ·have hne:r≠s.size:=by simpa using h
  have hlt:r<s.size:=by omega
  rw[if_neg hne]
  refine⟨⟨by omega,hlt⟩, ?_⟩
  refine Tri.ret (rletter_spec (bt s r) I1 _) fun I2 hI2=>⟨_,rfl,F,.refl _,fun hm=>?_,fun hm=>⟨⟨by omega,hlt⟩, ?_⟩⟩
  ·rw[if_neg (by rw[not_both hm];exact Bool.false_ne_true),if_pos hm]
   refine Tri.ret (rnamed_spec hs (by omega) hlt I2 _) fun I3 hI3=>?_
   rcases nameR_err s r with ⟨t,ht⟩ | ⟨e,ht,he⟩
   ·rw[ht];exact⟨_,_,_,_,_,_,rfl,F,.refl _,fun h=>absurd h (by decide),fun _=>⟨rfl,rfl⟩⟩
   ·rw[ht];exact⟨_,_,_,_,_,_,rfl,F,.refl _,fun h=>⟨rfl,rfl⟩,fun h=>by rw[he] at h;cases h⟩
  ·rw[if_neg (c:=smallB (bt s r)=true) (by rw[hm];exact Bool.false_ne_true)]
   refine Tri.ret (rdigit_spec (bt s r) I2 _) fun I3 hI3=>⟨_,rfl,F,.refl _,fun hd=>?_,fun hd=>?_⟩
   ·rw[if_pos hd]
    refine Tri.ret (rnumber_spec hs (by omega) hlt I3 _) fun I4 hI4=>?_
    rcases numR_err s r with ⟨t,ht⟩ | ⟨e,ht,he⟩
    ·rw[ht];exact⟨_,_,_,_,_,_,rfl,F,.refl _,fun h=>absurd h (by decide),fun _=>⟨rfl,rfl⟩⟩
    ·rw[ht];exact⟨_,_,_,_,_,_,rfl,F,.refl _,fun h=>⟨rfl,rfl⟩,fun h=>by rw[he] at h;cases h⟩
   ·rw[if_neg (by rw[hd];exact Bool.false_ne_true)]
    refine Tri.ret (rmark_spec hs (by omega) hlt I3 _) fun I4 hI4=>?_
    rcases markR_err s r with ⟨t,ht⟩ | ⟨e,ht,he⟩
    ·rw[ht];exact⟨_,_,_,_,_,_,rfl,F,.refl _,fun h=>absurd h (by decide),fun _=>⟨rfl,rfl⟩⟩
    ·rw[ht];exact⟨_,_,_,_,_,_,rfl,F,.refl _,fun h=>⟨rfl,rfl⟩,fun h=>by rw[he] at h;cases h⟩
end Go.Lx
namespace Go.Lx
open Go.Vc
def toksF(s:ByteArray):Nat→Int→List Tok×Option (Int×Int)
 | 0,_=>([],none)
 | n+1,f=>match tokR s f with
   | .bad e p=>([],some (e,p))
   | .ok t=>if t.kind=0 then ([t],none) else (t::(toksF s n (t.pos+t.text.size)).1,(toksF s n (t.pos+t.text.size)).2)
def toks(s:ByteArray)(f:Int):List Tok×Option (Int×Int):=toksF s (s.size-f+1).toNat f
theorem tok_next{s:ByteArray}{f:Int}(h0:0≤f)(h1:f≤s.size){t:Tok}(ht:tokR s f=.ok t):t.pos+t.text.size≤s.size∧f≤t.pos∧(t.kind≠0→f+1≤t.pos+t.text.size):=by
 have ho:=overAt_le (s:=s) h1
 rcases tokR_cases h0 h1 with ⟨t',ht',hp,hl,_,hk⟩ | ⟨e,ht',_⟩
 ·rw[ht] at ht';cases ht'
  refine⟨hl,by omega,fun hne=>?_⟩
  rcases hk with ⟨h,_⟩ | ⟨_,_,h⟩
  ·exact absurd h hne
  ·omega
 ·rw[ht] at ht';cases ht'
theorem toksF_fuel(s:ByteArray):∀(n n':Nat) (f:Int),0≤f→f≤s.size→(s.size-f+1).toNat≤n→(s.size-f+1).toNat≤n'→toksF s n f=toksF s n' f
 | 0,n',f,h0,h1,hn,hn'=>by omega
 | n+1,0,f,h0,h1,hn,hn'=>by omega
 | n+1,n'+1,f,h0,h1,hn,hn'=>by
   unfold toksF
   cases ht:tokR s f with
   | bad e p=>rfl
   | ok t =>
     have:=tok_next h0 h1 ht
     by_cases hk:t.kind=0
     ·simp[hk]
     ·have:=this.2.2 hk
      simp only[hk,if_false]
      rw[toksF_fuel s n n' _ (by omega) (by omega) (by omega) (by omega)]
theorem toks_step{s:ByteArray}{f:Int}(h0:0≤f)(h1:f≤s.size):toks s f=match tokR s f with
  | .bad e p=>([],some (e,p))
  | .ok t=>if t.kind=0 then ([t],none) else (t::(toks s (t.pos+t.text.size)).1,(toks s (t.pos+t.text.size)).2):=by
 unfold toks
 obtain⟨n,hn⟩:∃n,(s.size-f+1).toNat=n+1:=⟨(s.size-f+1).toNat-1,by omega⟩
 rw[hn]
 show (match tokR s f with
  | .bad e p=>([],some (e,p))
  | .ok t=>if t.kind=0 then ([t],none) else (t::(toksF s n (t.pos+t.text.size)).1,(toksF s n (t.pos+t.text.size)).2))=_
 cases ht:tokR s f with
 | bad e p=>rfl
 | ok t =>
   have:=tok_next h0 h1 ht
   by_cases hk:t.kind=0
   ·simp[hk]
   ·have:=this.2.2 hk
    simp only[hk,if_false]
    rw[toksF_fuel s n _ _ (by omega) (by omega) (by omega) (Nat.le_refl _)]
def Tok.enc(t:Tok):List Value:=[.int .u8 t.kind,.string t.text,.int .u8 t.typ,.int .i64 t.n,.int .i64 t.pos]
def RetToks(r:Except (Int×Int) (List Tok))(F:Heap)(e:Ending)(I:Imm)(G:Heap):Prop :=
 G=F∧match r with
  | .ok l=>∃a n c,e=.returned (.tuple #[.slice a n c,.int .i64 0,.int .i64 0])∧Sl I 5 Tok.enc a n l
  | .error (e',p)=>e=.returned (.tuple #[.slice none 0 0,.int .i64 e',.int .i64 p])
def OwnToks(r:Except (Int×Int) (List Tok))(F:Heap)(e:Ending)(I:Imm)(G:Heap):Prop :=
 match r with
  | .ok l=>∃a n c A,e=.returned (.tuple #[.slice a n c,.int .i64 0,.int .i64 0])∧Acc 5 Tok.enc 145 a n c l A∧G=A++F
  | .error (e',p)=>∃A,e=.returned (.tuple #[.slice none 0 0,.int .i64 e',.int .i64 p])∧G=A++F
theorem OwnToks.keep{f:Nat}{args:Array Value}{I:Imm}{F:Heap}{r:Except (Int×Int) (List Tok)}(h:Tri P f args I F (OwnToks r F)):Tri P f args I F (RetToks r F):=by
 refine h.keep fun e I' G w hl hs hq=>?_
 unfold OwnToks at hq
 split at hq
 ·obtain⟨a,n,c,A,he,hA,hG⟩:=hq
  subst hG
  obtain⟨J,h1,h2,h3⟩:=Acc.keep (z:=5) (f:=Tok.enc) (fun _=>rfl) hA hs
  exact⟨J,F,h1,h2,rfl,a,n,c,he,h3⟩
 ·obtain⟨A,he,hG⟩:=hq
  subst hG
  exact⟨I',F,Imm.le_refl _,hs.drop,rfl,he⟩
theorem tok_one:∀(t:Tok),∀u∈t.enc,u.oneCell'=true:=by
 intro t u hu
 simp only[Tok.enc,List.mem_cons,List.not_mem_nil,or_false] at hu
 rcases hu with h | h | h | h | h<;>(subst h;rfl)
theorem append_tok{a:Option Addr}{n c:Nat}{l:List Tok}{A F:Heap}(hA:Acc 5 Tok.enc 145 a n c l A)(hl:l.length≤1000000000)(t:Tok){b:Nat}{I:Imm}(hb:I b=some (.cells t.enc.toArray 145 (0,0))) :
  TriE P (Builtin.append_ #[105,105] 105 #[.slice a n c,.slice (some ⟨b,0,none⟩) 1 1]) I (A++F) fun v I' G=>∃a' n' c' A',v=.slice a' n' c'∧Acc 5 Tok.enc 145 a' n' c' (l++[t]) A'∧G=A'++F:=by
 refine (append_spec' (f:=Tok.enc) (zv:=(zTok 0).v) (fun _=>rfl) (by':=48) (by kernel_rfl) (by kernel_rfl) rfl (by decide) hA (xs:=[t]) (fun x _=>tok_one x) (by simp) rfl ?_ (by simp only[List.length_cons,List.length_nil];omega)).mono
  fun v I' G _ ⟨a',n',c',A',h1,h2,h3,_⟩=>⟨a',n',c',A',h1,h2,h3⟩
 exact⟨rfl,_,_,_,.inl hb,fun j hj=>by simp⟩
def OwnBegin(r:List Tok×Option (Int×Int))(F:Heap)(e:Ending)(I:Imm)(G:Heap):Prop :=
 ∃a n c A,e=.returned (.tuple #[.slice a n c,.int .i64 ((r.2.map Prod.fst).getD 0),.int .i64 ((r.2.map Prod.snd).getD 0)])∧Acc 5 Tok.enc 145 a n c r.1 A∧G=A++F
theorem Begin_spec{s:ByteArray}(hs:Short s)(hs2:(s.size:Int)≤1000000000)(I:Imm)(F:Heap):Tri P 84 #[.string s] I F (OwnBegin (toks s 0) F):=by
 refine ref11_Begin.vc (fun x_a x_n x_c x x1 a n c f m I' F'=>0≤f∧f≤s.size∧m=(s.size-f).toNat∧∃l A,Acc 5 Tok.enc 145 a n c l A∧F'=A++F∧l.length≤f ∧
  toks s 0=(l++(toks s f).1,(toks s f).2)) ?_
 unfold ref11_Begin.V
 have h:True:=trivial
 refine⟨⟨_,by omega,by omega,rfl,[],[],Acc.nil,rfl,by decide,rfl⟩, ?_⟩
 intro x_a x_n x_c x x1 a n c f m I1 F1 hI1 ⟨h0,h1,gm,l,A,hA,hF,hl,ht⟩
 subst hF
 rw[toks_step h0 h1] at ht
 refine Tri.ret (One_spec hs h0 h1 I1 _) fun I2 hI2=>?_
 rcases tokR_cases h0 h1 with ⟨t,htok,htat⟩ | ⟨e,htok,he⟩
 ·rw[htok] at ht ⊢
  have hnx:=tok_next h0 h1 htok
  refine⟨_,_,_,_,_,_,_,rfl,_,.refl _,fun b_t=>⟨fun h=>absurd h (by decide),fun _=>?_⟩⟩
  intro b I3 hI3 hb
  refine TriE.perm ((append_tok hA (by omega) t hb (F:=(b_t,_)::F)).mono fun v I4 G2 hI4 ⟨a',n',c',A',hv,hA',hG⟩=>?_) List.perm_middle.symm
  subst hG
  refine⟨_,_,_,hv,A'++F,List.perm_middle,fun hk=>?_,fun hk=>?_⟩
  ·have hk:t.kind=0:=by simpa using hk
   simp only[hk,if_true] at ht
   rw[ht]
   exact⟨_,_,_,_,rfl,hA',rfl⟩
  ·have hk:t.kind≠0:=by simpa using hk
   have:=hnx.2.2 hk
   simp only[hk,if_false] at ht
   rw[w64 (by omega)]
   refine⟨_, ?_,by omega,by omega,rfl,_,_,hA',rfl, ?_, ?_⟩
   ·omega
   ·rw[List.length_append,List.length_singleton];omega
   ·rw[ht,List.append_assoc];rfl
 ·rw[htok] at ht ⊢
  refine⟨_,_,_,_,_,_,_,rfl,_,.refl _,fun b_t=>⟨fun _=>?_,fun h=>?_⟩⟩
  ·rw[ht]
   exact⟨_,_,_,A,rfl,by simpa using hA,rfl⟩
  ·rcases he with rfl | rfl | rfl<;>exact absurd h (by decide)
end Go.Lx
namespace Go.Lx
open Go.Vc
structure PF where
 e:Int
 pos:Int
 tok:Bool
structure PS where
 next:Nat
 f:PF
structure PC where
 l:List Tok
 bad:Int
 pos:Int
def zPx:Px:=.mk 0 0 0 0 0 ⟨#[]⟩ [] 0
def PS.over(s:PS):Bool:=s.f.e != 0
def PS.inc(s:PS):PS:=⟨s.next+1,s.f⟩
section
variable (c:PC)
def PC.tok(i:Nat):Tok:=(c.l[i]?).getD (zTok 0)
def PC.now(s:PS):Tok:=if s.over||decide (c.l.length≤s.next) then zTok 0 else c.tok s.next
def PC.wrong(e:Int)(s:PS):PS:=if s.over then s else if c.l.length≤s.next then ⟨s.next,⟨c.bad,c.pos,true⟩⟩ else ⟨s.next,⟨e,(c.tok s.next).pos,false⟩⟩
def PC.isW(w:ByteArray)(s:PS):Bool:=(c.now s).text.toList==w.toList&&((c.now s).kind==1||(c.now s).kind==4)
def PC.anyF(s:PS):List ByteArray→Int→Int
 | [],_=>-1
 | w::r,i=>if c.isW w s then i else PC.anyF s r (i+1)
def PC.any(ws:List ByteArray)(s:PS):Int:=c.anyF s ws 0
def PC.take(w:ByteArray)(s:PS):Int×PS:=if c.isW w s then ((c.now s).pos,s.inc) else (0,c.wrong 130 s)
def PC.name(s:PS):ByteArray×PS:=if (c.now s).kind=2 then ((c.now s).text,s.inc) else (⟨#[]⟩,c.wrong 130 s)
def PC.deeper(d:Int)(s:PS):PS:=if 24<d+1 then c.wrong 132 s else s
def litP(typ n pos:Int):Px:=.mk 1 0 typ n 0 ⟨#[]⟩ [] pos
def PC.literal(s:PS):(Px×Bool)×PS :=
 if (c.now s).kind=3 then ((litP (c.now s).typ (c.now s).n (c.now s).pos,true),s.inc)
 else if (c.now s).kind=1∧((c.now s).text.toList=(⟨#[116,114,117,101]⟩:ByteArray).toList∨(c.now s).text.toList=(⟨#[102,97,108,115,101]⟩:ByteArray).toList) then ((litP 5 (if (c.now s).text.toList=(⟨#[116,114,117,101]⟩:ByteArray).toList then 1 else 0) (c.now s).pos,true),s.inc)
 else if (c.now s).kind=1∧((c.now s).text.toList=(⟨#[98,117,121]⟩:ByteArray).toList∨(c.now s).text.toList=(⟨#[115,101,108,108]⟩:ByteArray).toList) then ((litP 6 (if (c.now s).text.toList=(⟨#[115,101,108,108]⟩:ByteArray).toList then 2 else 1) (c.now s).pos,true),s.inc)
 else ((zPx,false),s)
structure Lv where
 ex:PS→Px×PS
 un:PS→Px×PS
def PC.kidsF(nx:Lv):Nat→Bool→PS→List Px×PS
 | 0,_,s=>([],s)
 | n+1,first,s =>
   let r:=nx.ex (if first then s else (c.take (⟨#[44]⟩:ByteArray) s).2)
   let q:=PC.kidsF nx n false r.2
   (r.1::q.1,q.2)
def PC.call(nx:Lv)(d:Int)(kind oper typ pos:Int)(many:Nat)(s:PS):Px×PS :=
 if (c.deeper d s).over then (zPx,c.deeper d s)
 else
  let q:=c.kidsF nx many true (c.take (⟨#[40]⟩:ByteArray) (c.deeper d s).inc).2
  (.mk kind oper typ 0 0 ⟨#[]⟩ q.1 pos,(c.take (⟨#[41]⟩:ByteArray) q.2).2)
def PC.rest(nx:Lv)(d:Int)(s:PS):Px×PS :=
 if c.isW (⟨#[104,97,115]⟩:ByteArray) s then
  if c.any [(⟨#[98,105,100]⟩:ByteArray),(⟨#[97,115,107]⟩:ByteArray),(⟨#[108,97,115,116]⟩:ByteArray)] s.inc<0 then (zPx,c.wrong 130 s.inc) else (.mk 4 0 0 0 (c.any [(⟨#[98,105,100]⟩:ByteArray),(⟨#[97,115,107]⟩:ByteArray),(⟨#[108,97,115,116]⟩:ByteArray)] s.inc+1) ⟨#[]⟩ [] (c.now s).pos,s.inc.inc)
 else if c.isW (⟨#[40]⟩:ByteArray) s then
  if (c.deeper d s).over then (zPx,c.deeper d s)
  else
   let r:=nx.ex (c.deeper d s).inc
   (r.1,(c.take (⟨#[41]⟩:ByteArray) r.2).2)
 else (zPx,c.wrong 130 s)
def fieldW:List ByteArray:=[(⟨#[98,105,100]⟩:ByteArray),(⟨#[97,115,107]⟩:ByteArray),(⟨#[108,97,115,116]⟩:ByteArray),(⟨#[118,111,108,117,109,101]⟩:ByteArray),(⟨#[110,111,119]⟩:ByteArray),(⟨#[111,112,101,110]⟩:ByteArray)]
def callW:List ByteArray:=[(⟨#[97,98,115]⟩:ByteArray),(⟨#[109,105,110]⟩:ByteArray),(⟨#[109,97,120]⟩:ByteArray)]
def convW:List ByteArray:=[(⟨#[105,110,116]⟩:ByteArray),(⟨#[113,116,121]⟩:ByteArray),(⟨#[112,114,105,99,101]⟩:ByteArray),(⟨#[116,105,109,101]⟩:ByteArray)]
def PC.one(nx:Lv)(d:Int)(s:PS):Px×PS :=
 if (c.literal s).1.2 then ((c.literal s).1.1,(c.literal s).2)
 else if (c.now s).kind=2 then (.mk 2 0 0 0 0 (c.now s).text [] (c.now s).pos,s.inc)
 else if 0≤c.any fieldW s then (.mk 3 0 0 0 (c.any fieldW s+1) ⟨#[]⟩ [] (c.now s).pos,s.inc)
 else if 0≤c.any callW s then c.call nx d 8 (3+c.any callW s) 0 (c.now s).pos (if c.any callW s=0 then 1 else 2) s
 else if 0≤c.any convW s then c.call nx d 9 0 (1+c.any convW s) (c.now s).pos 1 s
 else c.rest nx d s
def signW:List ByteArray:=[(⟨#[45]⟩:ByteArray),(⟨#[33]⟩:ByteArray)]
def PC.unary(nx:Lv)(d:Int)(s:PS):Px×PS :=
 if c.any signW s<0 then c.one nx d s
 else if (c.deeper d s).over then (zPx,c.deeper d s)
 else
  let r:=nx.un (c.deeper d s).inc
  (.mk 5 (1+c.any signW s) 0 0 0 ⟨#[]⟩ [r.1] (c.now (c.deeper d s)).pos,r.2)
def twoP(o pos:Int)(a b:Px):Px:=.mk 6 o 0 0 0 ⟨#[]⟩ [a,b] pos
def PC.loopF(ws:List ByteArray)(o:Int)(sub:PS→Px×PS):Nat→Px→PS→Px×PS
 | 0,n,s=>(n,s)
 | m+1,n,s=>if c.any ws s<0 then (n,s) else
   let k:=sub s.inc
   PC.loopF ws o sub m (twoP (o+c.any ws s) (c.now s).pos n k.1) k.2
def PC.loop(ws:List ByteArray)(o:Int)(sub:PS→Px×PS)(s:PS):Px×PS:=c.loopF ws o sub c.l.length (sub s).1 (sub s).2
def mulW:List ByteArray:=[(⟨#[42]⟩:ByteArray),(⟨#[47]⟩:ByteArray),(⟨#[37]⟩:ByteArray)]
def addW:List ByteArray:=[(⟨#[43]⟩:ByteArray),(⟨#[45]⟩:ByteArray)]
def cmpW:List ByteArray:=[(⟨#[61,61]⟩:ByteArray),(⟨#[33,61]⟩:ByteArray),(⟨#[60]⟩:ByteArray),(⟨#[60,61]⟩:ByteArray),(⟨#[62]⟩:ByteArray),(⟨#[62,61]⟩:ByteArray)]
def andW:List ByteArray:=[(⟨#[38,38]⟩:ByteArray)]
def orW:List ByteArray:=[(⟨#[124,124]⟩:ByteArray)]
def PC.product(nx:Lv)(d:Int)(s:PS):Px×PS:=c.loop mulW 8 (c.unary nx d) s
def PC.sum(nx:Lv)(d:Int)(s:PS):Px×PS:=c.loop addW 6 (c.product nx d) s
def PC.compare(nx:Lv)(d:Int)(s:PS):Px×PS :=
 let n:=c.sum nx d s
 if c.any cmpW n.2<0 then n else
  let k:=c.sum nx d n.2.inc
  (twoP (11+c.any cmpW n.2) (c.now n.2).pos n.1 k.1,k.2)
def PC.and(nx:Lv)(d:Int)(s:PS):Px×PS:=c.loop andW 17 (c.compare nx d) s
def PC.or(nx:Lv)(d:Int)(s:PS):Px×PS:=c.loop orW 18 (c.and nx d) s
def PC.expr(nx:Lv)(d:Int)(s:PS):Px×PS :=
 let n:=c.or nx d s
 if c.isW (⟨#[63]⟩:ByteArray) n.2 then
  if (c.deeper d n.2).over then (zPx,c.deeper d n.2)
  else
   let a:=nx.ex (c.deeper d n.2).inc
   let b:=nx.ex (c.take (⟨#[58]⟩:ByteArray) a.2).2
   (.mk 7 0 0 0 0 ⟨#[]⟩ [n.1,a.1,b.1] (c.now (c.deeper d n.2)).pos,b.2)
 else n
def PC.lv(nx:Lv)(d:Int):Lv:=⟨c.expr nx d,c.unary nx d⟩
def PC.lvl:Nat→Int→Lv
 | 0,d=>c.lv ⟨fun s=>(zPx,s),fun s=>(zPx,s)⟩ d
 | k+1,d=>c.lv (PC.lvl k (d+1)) d
def PC.ex0(s:PS):Px×PS:=(c.lvl 24 0).ex s
def typeW:List ByteArray:=[(⟨#[105,110,116]⟩:ByteArray),(⟨#[113,116,121]⟩:ByteArray),(⟨#[112,114,105,99,101]⟩:ByteArray),(⟨#[116,105,109,101]⟩:ByteArray),(⟨#[98,111,111,108]⟩:ByteArray),(⟨#[115,105,100,101]⟩:ByteArray)]
def PC.regE(nm:ByteArray)(t pos pos2:Int)(minus:Bool)(n:Px)(s:PS):RegP×PS:=(⟨nm,t,if minus then .mk 5 1 0 0 0 ⟨#[]⟩ [n] pos2 else n,pos⟩,(c.take (⟨#[59]⟩:ByteArray) s).2)
def PC.regL(nm:ByteArray)(t pos pos2:Int)(minus:Bool)(s:PS):RegP×PS :=
 if minus=true∧(c.now s).kind≠3 then (⟨nm,t,zPx,pos⟩,c.wrong 130 s) else c.regE nm t pos pos2 minus (c.literal s).1.1 (if (c.literal s).1.2 then (c.literal s).2 else c.wrong 130 (c.literal s).2)
def PC.regT(nm:ByteArray)(t pos:Int)(s:PS):RegP×PS:=c.regL nm t pos (c.now s).pos (c.isW (⟨#[45]⟩:ByteArray) s) (if c.isW (⟨#[45]⟩:ByteArray) s then s.inc else s)
def PC.regN(nm:ByteArray)(pos:Int)(s:PS):RegP×PS:=if c.any typeW s<0 then (⟨nm,0,zPx,pos⟩,c.wrong 130 s) else c.regT nm (1+c.any typeW s) pos (c.take (⟨#[61]⟩:ByteArray) s.inc).2
def PC.reg(s:PS):RegP×PS:=c.regN (c.name (c.take (⟨#[114,101,103]⟩:ByteArray) s).2).1 (c.take (⟨#[114,101,103]⟩:ByteArray) s).1 (c.name (c.take (⟨#[114,101,103]⟩:ByteArray) s).2).2
def orderW:List ByteArray:=[(⟨#[108,105,109,105,116]⟩:ByteArray),(⟨#[105,111,99]⟩:ByteArray),(⟨#[102,111,107]⟩:ByteArray),(⟨#[112,111,115,116]⟩:ByteArray)]
def PC.asName(s:PS):ByteArray×PS:=if c.isW (⟨#[97,115]⟩:ByteArray) s then c.name s.inc else (⟨#[]⟩,s)
def PC.subN(x y:Px)(pos:Int)(z:Px)(o:Int)(s:PS):DoP×PS:=(⟨1,o,(c.asName s).1,x,y,z,zPx,pos⟩,(c.asName s).2)
def PC.subZ(x y:Px)(pos:Int)(z:Px)(s:PS):DoP×PS:=if c.any orderW s<0 then (⟨1,2,⟨#[]⟩,x,y,z,zPx,pos⟩,c.wrong 130 s) else c.subN x y pos z (if c.any orderW s=0 then 1 else 2+c.any orderW s) s.inc
def atW:List ByteArray:=[(⟨#[109,97,114,107,101,116]⟩:ByteArray),(⟨#[97,116]⟩:ByteArray)]
def PC.subY(x y:Px)(pos:Int)(s:PS):DoP×PS:=if c.any atW s<0 then (⟨1,0,⟨#[]⟩,x,y,zPx,zPx,pos⟩,c.wrong 130 s)
 else if c.any atW s=1 then c.subZ x y pos (c.ex0 s.inc).1 (c.ex0 s.inc).2 else c.subN x y pos zPx 2 s.inc
def PC.subX(x:Px)(pos:Int)(s:PS):DoP×PS:=c.subY x (c.ex0 (c.take (⟨#[111,102]⟩:ByteArray) s).2).1 pos (c.ex0 (c.take (⟨#[111,102]⟩:ByteArray) s).2).2
def PC.submit(s:PS):DoP×PS:=c.subX (c.ex0 (c.take (⟨#[115,117,98,109,105,116]⟩:ByteArray) s).2).1 (c.take (⟨#[115,117,98,109,105,116]⟩:ByteArray) s).1 (c.ex0 (c.take (⟨#[115,117,98,109,105,116]⟩:ByteArray) s).2).2
def doW:List ByteArray:=[(⟨#[115,117,98,109,105,116]⟩:ByteArray),(⟨#[97,109,101,110,100]⟩:ByteArray),(⟨#[99,97,110,99,101,108]⟩:ByteArray),(⟨#[115,101,116]⟩:ByteArray),(⟨#[103,111,116,111]⟩:ByteArray),(⟨#[104,97,108,116]⟩:ByteArray)]
def zDo:DoP:=⟨0,0,⟨#[]⟩,zPx,zPx,zPx,zPx,0⟩
def PC.doA(nm:ByteArray)(pos:Int)(x:Px)(s:PS):DoP×PS:=(⟨2,0,nm,zPx,x,(c.ex0 (c.take (⟨#[97,116]⟩:ByteArray) s).2).1,zPx,pos⟩,(c.ex0 (c.take (⟨#[97,116]⟩:ByteArray) s).2).2)
def PC.doS(nm:ByteArray)(pos:Int)(s:PS):DoP×PS:=(⟨4,0,nm,zPx,zPx,zPx,(c.ex0 (c.take (⟨#[61]⟩:ByteArray) s).2).1,pos⟩,(c.ex0 (c.take (⟨#[61]⟩:ByteArray) s).2).2)
def PC.doN(k:Int)(nm:ByteArray)(pos:Int)(s:PS):DoP×PS:=if k=2 then c.doA nm pos (c.ex0 (c.take (⟨#[116,111]⟩:ByteArray) s).2).1 (c.ex0 (c.take (⟨#[116,111]⟩:ByteArray) s).2).2 else if k=4 then c.doS nm pos s else (⟨k,0,nm,zPx,zPx,zPx,zPx,pos⟩,s)
def PC.do(s:PS):DoP×PS :=
 if c.any doW s<0 then (zDo,c.wrong 130 s)
 else if c.any doW s=0 then c.submit s
 else if c.any doW s=5 then c.doN 6 ⟨#[]⟩ (c.now s).pos s.inc
 else c.doN (1+c.any doW s) (c.name s.inc).1 (c.now s).pos (c.name s.inc).2
def PC.many(n most:Nat)(s:PS):PS:=if most≤n then c.wrong 131 s else s
def PC.dosF:Nat→List DoP→PS→List DoP×PS
 | 0,l,s=>(l,s)
 | m+1,l,s =>
   if c.isW (⟨#[44]⟩:ByteArray) (c.do s).2 then
    if (c.many (l.length+1) 8 (c.do s).2).over then (l++[(c.do s).1],c.many (l.length+1) 8 (c.do s).2) else PC.dosF m (l++[(c.do s).1]) (c.many (l.length+1) 8 (c.do s).2).inc
   else (l++[(c.do s).1],(c.do s).2)
def PC.ruleD(w:Px)(pos:Int)(s:PS):RuleP×PS:=(⟨w,(c.dosF 8 [] s).1,pos⟩,(c.take (⟨#[59]⟩:ByteArray) (c.dosF 8 [] s).2).2)
def PC.rule(s:PS):RuleP×PS:=c.ruleD (c.ex0 (c.take (⟨#[119,104,101,110]⟩:ByteArray) s).2).1 (c.take (⟨#[119,104,101,110]⟩:ByteArray) s).1 (c.take (⟨#[100,111]⟩:ByteArray) (c.ex0 (c.take (⟨#[119,104,101,110]⟩:ByteArray) s).2).2).2
def PC.listF{α:Type}(w:ByteArray)(most:Nat)(one:PS→α×PS):Nat→List α→PS→List α×PS
 | 0,l,s=>(l,if c.isW w s then c.many l.length most s else s)
 | m+1,l,s=>if c.isW w s then
    if (c.many l.length most s).over then (l,c.many l.length most s) else PC.listF w most one m (l++[(one (c.many l.length most s)).1]) (one (c.many l.length most s)).2
   else (l,s)
def PC.list{α:Type}(w:ByteArray)(most:Nat)(one:PS→α×PS)(s:PS):List α×PS:=c.listF w most one most [] s
def PC.stateN(nm:ByteArray)(pos:Int)(s:PS):StateP×PS:=(⟨nm,(c.list (⟨#[119,104,101,110]⟩:ByteArray) 12 c.rule s).1,pos⟩,(c.take (⟨#[125]⟩:ByteArray) (c.list (⟨#[119,104,101,110]⟩:ByteArray) 12 c.rule s).2).2)
def PC.state(s:PS):StateP×PS:=c.stateN (c.name (c.take (⟨#[115,116,97,116,101]⟩:ByteArray) s).2).1 (c.take (⟨#[115,116,97,116,101]⟩:ByteArray) s).1 (c.take (⟨#[123]⟩:ByteArray) (c.name (c.take (⟨#[115,116,97,116,101]⟩:ByteArray) s).2).2).2
def PC.slot(s:PS):SlotP×PS:=(⟨(c.name (c.take (⟨#[115,108,111,116]⟩:ByteArray) s).2).1,(c.take (⟨#[115,108,111,116]⟩:ByteArray) s).1⟩,(c.take (⟨#[59]⟩:ByteArray) (c.name (c.take (⟨#[115,108,111,116]⟩:ByteArray) s).2).2).2)
def PC.end(s:PS):PS:=if s.over then s else if c.l.length≤s.next∨(c.tok s.next).kind≠0 then c.wrong 130 s else s
def PC.wholeE(nm:ByteArray)(rs:List RegP)(ss:List SlotP)(ts:List StateP)(s:PS):StgP×PS:=(⟨nm,rs,ss,ts⟩,c.end (c.take (⟨#[125]⟩:ByteArray) (if ts.length=0 then c.wrong 130 s else s)).2)
def PC.wholeT(nm:ByteArray)(rs:List RegP)(ss:List SlotP)(s:PS):StgP×PS:=c.wholeE nm rs ss (c.list (⟨#[115,116,97,116,101]⟩:ByteArray) 12 c.state s).1 (c.list (⟨#[115,116,97,116,101]⟩:ByteArray) 12 c.state s).2
def PC.wholeS(nm:ByteArray)(rs:List RegP)(s:PS):StgP×PS:=c.wholeT nm rs (c.list (⟨#[115,108,111,116]⟩:ByteArray) 4 c.slot s).1 (c.list (⟨#[115,108,111,116]⟩:ByteArray) 4 c.slot s).2
def PC.wholeR(nm:ByteArray)(s:PS):StgP×PS:=c.wholeS nm (c.list (⟨#[114,101,103]⟩:ByteArray) 12 c.reg s).1 (c.list (⟨#[114,101,103]⟩:ByteArray) 12 c.reg s).2
def PC.whole(s:PS):StgP×PS:=c.wholeR (c.name (c.take (⟨#[115,116,114,97,116,101,103,121]⟩:ByteArray) s).2).1 (c.take (⟨#[123]⟩:ByteArray) (c.name (c.take (⟨#[115,116,114,97,116,101,103,121]⟩:ByteArray) s).2).2).2
end
def begC(t:ByteArray):PC:=if 4096<(t.size:Int) then ⟨[],0,0⟩ else ⟨(toks t 0).1,((toks t 0).2.map Prod.fst).getD 0,((toks t 0).2.map Prod.snd).getD 0⟩
def begS(t:ByteArray):PS:=⟨0,if 4096<(t.size:Int) then ⟨110,0,true⟩ else ⟨0,0,false⟩⟩
def zF:PF:=⟨0,0,false⟩
def parseS(t:ByteArray):StgP×PF :=
 let r:=(begC t).whole (begS t)
 if r.2.over then (⟨⟨#[]⟩,[],[],[]⟩,r.2.f) else (r.1,zF)
def parseE(t:ByteArray):Px×PF :=
 let n:=(begC t).ex0 (begS t)
 let s:=(begC t).end n.2
 if s.over then (zPx,s.f) else (n.1,zF)
end Go.Lx
namespace Go.Lx
open Go.Vc Go.Proofs.Tryz
def shT_p0:List (Nat×List Sh):=[(0,[]),(3,[.one (.int .i64)]),(4,[.one .bool]),(9,[.one .str]),(47,[.one (.int .i64)]),(105,[.one .slc]),(140,[.one .slc,.one (.int .i64),.one (.int .i64)]),(143,[.one (.int .u8)]),(145,[.agg [(.int .u8),.str,(.int .u8),(.int .i64),(.int .i64)]])]
def ref13_Parser_over.V(p:Addr)(I:Imm)(F:Heap)(Q:PostQ)  : Prop:=∃ad:Addr,some p=some ad∧∃(m:Int),Rd I F ((ad.add 4).add 0) [.int .i64 m]∧Q (.returned (.bool (m != 0))) I (F)
theorem ref13_Parser_over.vc{p:Addr}{I:Imm}{F:Heap}{Q:PostQ}  (h:ref13_Parser_over.V p I F Q):Tri P 55 #[.pointer (some p)] I F Q :=
 tw (A:=(an [] [] shT_p0)) [] func55 h
def ref13_Parser_now.V(ka:Nat→Int→Bs→Int→Int→Int→Nat×Obj)(vb vi:Int→Value)(vs:Bs→Value)(p:Addr)(I:Imm)(F:Heap)(Q:PostQ)  : Prop:=∀b:Nat,∃(r:Bool),(Tri P 55 (#[.pointer (some p)]) I ((ka b 0 (⟨#[]⟩:Bs) 0 0 0)::F) fun e1 I1 G1=>e1=.returned (.bool r)∧List.Perm G1 ((ka b 0 (⟨#[]⟩:Bs) 0 0 0)::F))∧(It r (Q (.returned (.agg #[vb 0,vs (⟨#[]⟩:Bs),vb 0,vi 0,vi 0])) I F) (∃ad:Addr,some p=some ad∧∃(m:Int),Rd I ((ka b 0 (⟨#[]⟩:Bs) 0 0 0)::F) (ad.add 3) [vi m]∧∃j:Addr,some p=some j∧∃(q:OA) (a s:Nat),Rd I ((ka b 0 (⟨#[]⟩:Bs) 0 0 0)::F) (j.add 0) [.slice q a s]∧(Dt (m≥(a:Int)) (Q (.returned (.agg #[vb 0,vs (⟨#[]⟩:Bs),vb 0,vi 0,vi 0])) I F) (∃k:Addr,some p=some k∧∃(c:OA) (d o:Nat),Rd I ((ka b 0 (⟨#[]⟩:Bs) 0 0 0)::F) (k.add 0) [.slice c d o]∧∃l:Addr,some p=some l∧∃(m1:Int),Rd I ((ka b 0 (⟨#[]⟩:Bs) 0 0 0)::F) (l.add 3) [vi m1]∧((0≤m1∧m1<(d:Int))∧∃n:Addr,c=some n∧∃(e:Int) (f:Bs) (g h i:Int),Rd I ((ka b 0 (⟨#[]⟩:Bs) 0 0 0)::F) (n.add (Int.toNat m1*5)) [vb e,vs f,vb g,vi h,vi i]∧Q (.returned (.agg #[vb e,vs f,vb g,vi h,vi i])) I F)))))
theorem ref13_Parser_now.vc{p:Addr}{I:Imm}{F:Heap}{Q:PostQ}  (h:ref13_Parser_now.V (fun W a b c d e=>(W,Obj.cells #[.int .u8 a,.string b,.int .u8 c,.int .i64 d,.int .i64 e] 145 (0,0))) (.int .u8) (.int .i64) .string p I F Q):Tri P 88 #[.pointer (some p)] I F Q :=
 tw (A:=(annL [1001,1012] [] [55] shT_p0 [] [] [] [(3,10,[0])] [] [] [])) [55] func88 h
def ref13_Parser_wrong.V(vi:Int→Value)(p:Addr)(e1:Int)(I:Imm)(F:Heap)(Q:PostQ)  : Prop:=Tc1 P 55 (#[.pointer (some p)]) I (·) F .bool fun r I1 F1=>(It r (Q (.returned (.tuple #[])) I1 F1) (∃ad:Addr,some p=some ad∧∃(m:Int),Rd I1 F1 (ad.add 3) [vi m]∧∃h:Addr,some p=some h∧∃(q:OA) (c s:Nat),Rd I1 F1 (h.add 0) [.slice q c s]∧(Dt (m≥(c:Int)) (∃i:Addr,some p=some i∧∃(m1:Int),Rd I1 F1 (i.add 1) [vi m1]∧∃j:Addr,some p=some j∧∃(m2:Int),Rd I1 F1 (j.add 2) [vi m2]∧∃a:Addr,some p=some a∧∃(cs:List Value) (el:Nat) (F2:Heap),List.Perm F1 (((a.add 4).block,Obj.cells cs.toArray el (0,0))::F2)∧(a.add 4).spot=none∧(a.add 4).off+3≤cs.length∧Q (.returned (.tuple #[])) I1 ((((a.add 4).block,Obj.cells (splice (a.add 4).off [vi m1,vi m2,.bool true] cs).toArray el (0,0))::F2))) (∃k:Addr,some p=some k∧∃(d:OA) (e o:Nat),Rd I1 F1 (k.add 0) [.slice d e o]∧∃l:Addr,some p=some l∧∃(m3:Int),Rd I1 F1 (l.add 3) [vi m3]∧((0≤m3∧m3<(e:Int))∧∃n:Addr,d=some n∧∃(m4:Int),Rd I1 F1 ((n.add (Int.toNat m3*5)).add 4) [vi m4]∧∃b:Addr,some p=some b∧∃(f:List Value) (g:Nat) (F3:Heap),List.Perm F1 (((b.add 4).block,Obj.cells f.toArray g (0,0))::F3)∧(b.add 4).spot=none∧(b.add 4).off+3≤f.length∧Q (.returned (.tuple #[])) I1 ((((b.add 4).block,Obj.cells (splice (b.add 4).off [vi e1,vi m4,.bool false] f).toArray g (0,0))::F3)))))))
theorem ref13_Parser_wrong.vc{p:Addr}{e1:Int}{I:Imm}{F:Heap}{Q:PostQ}  (h:ref13_Parser_wrong.V (.int .i64) p e1 I F Q):Tri P 90 #[.pointer (some p),.int .i64 e1] I F Q :=
 tw (A:=(annL [1,1009] [] [55] shT_p0 [] [] [] [(2,12,[]),(3,16,[])] [] [] [])) [55] func90 h
def ref13_Parser_is.V(p:Addr)(s:Bs)(I:Imm)(F:Heap)(Q:PostQ)  : Prop:=Tcn P 88 (#[.pointer (some p)]) I (·) F fun e1 I1 G1=>∃(a:Int) (b:Bs) (c d e:Int),e1=.returned (.agg #[.int .u8 a,.string b,.int .u8 c,.int .i64 d,.int .i64 e])∧G1 fun F1=>∀f:Nat,(It (b.toList==s.toList) (It (a==1) (Q (.returned (.bool true)) I1 F1) (Q (.returned (.bool (a==4))) I1 F1)) (Q (.returned (.bool false)) I1 F1))
theorem ref13_Parser_is.vc{p:Addr}{s:Bs}{I:Imm}{F:Heap}{Q:PostQ}  (h:ref13_Parser_is.V p s I F Q):Tri P 86 #[.pointer (some p),.string s] I F Q :=
 tw (A:=(an [2003,2007] [88] shT_p0)) [88] func86 h
def ref13_Parser_any.V(p:Addr)(b:OA)(a c:Nat)(I:Imm)(F:Heap)(Q:PostQ)(Inv6:Int→Int→Nat→Imm→Heap→Prop):Prop:=(∃m:Nat,Inv6 0 0 m I F)∧∀(x i:Int) (m1:Nat) (I1:Imm) (F1:Heap),Imm.le I I1→Inv6 x i m1 I1 F1→(Dt (i<(a:Int)) ((0≤i∧i<(a:Int))∧∃ad:Addr,b=some ad∧∃(m2:Bs),Rd I1 F1 (ad.add (Int.toNat i*1)) [.string m2]∧Tc1 P 86 (#[.pointer (some p),.string m2]) I1 (·) F1 .bool fun r I2 F2=>(It r (Q (.returned (.int .i64 i)) I2 F2) (∃m3:Nat,m3<m1∧Inv6 x (IntKind.wrap .i64 (i+1)) m3 I2 F2))) (Q (.returned (.int .i64 (-1))) I1 F1))
theorem ref13_Parser_any.vc{p:Addr}{a:OA}{b c:Nat}{I:Imm}{F:Heap}{Q:PostQ}(Inv6:Int→Int→Nat→Imm→Heap→Prop)(h:ref13_Parser_any.V p a b c I F Q Inv6):Tri P 122 #[.pointer (some p),.slice a b c] I F Q :=
 tw (A:=(annL [2003,5000] [] [86] shT_p0 [(6,⟨[(4,(.int .i64)),(5,(.int .i64))],[],fun _ _ _ vs m I F=>match vs with | [.int _ y0,.int _ y1]=>Inv6 y0 y1 m I F | _=>False,[],[]⟩)] [] [] [] [] [] [])) [86] func122 h
def ref13_Parser_take.V(vi:Int→Value)(p:Addr)(s:Bs)(I:Imm)(F:Heap)(Q:PostQ)  : Prop:=Tc1 P 86 (#[.pointer (some p),.string s]) I (·) F .bool fun r I1 F1=>(It (!r) (Tcn P 90 (#[.pointer (some p),vi 130]) I1 (·) F1 fun e2 I2 G2=>e2=.returned (.tuple #[])∧G2 fun F2=>Q (.returned (vi 0)) I2 F2) (Tcn P 88 (#[.pointer (some p)]) I1 (·) F1 fun e3 I3 G3=>∃(c:Int) (d:Bs) (e f b:Int),e3=.returned (.agg #[.int .u8 c,.string d,.int .u8 e,vi f,vi b])∧G3 fun F3=>∃ad:Addr,some p=some ad∧∃(m:Int),Rd I3 F3 (ad.add 3) [vi m]∧∃a:Addr,some p=some a∧∃(cs:List Value) (el:Nat) (F4:Heap),List.Perm F3 (((a.add 3).block,Obj.cells cs.toArray el (0,0))::F4)∧(a.add 3).spot=none∧(a.add 3).off+1≤cs.length∧Q (.returned (vi b)) I3 ((((a.add 3).block,Obj.cells (splice (a.add 3).off [vi (IntKind.wrap .i64 (m+1))] cs).toArray el (0,0))::F4))))
theorem ref13_Parser_take.vc{p:Addr}{s:Bs}{I:Imm}{F:Heap}{Q:PostQ}  (h:ref13_Parser_take.V (.int .i64) p s I F Q):Tri P 89 #[.pointer (some p),.string s] I F Q :=
 tw (A:=(an [2001] [86,88,90] shT_p0)) [86,88,90] func89 h
def ref13_Parser_name.V(vb vi:Int→Value)(vs:Bs→Value)(p:Addr)(I:Imm)(F:Heap)(Q:PostQ)  : Prop:=Tcn P 88 (#[.pointer (some p)]) I (·) F fun e1 I1 G1=>∃(a:Int) (c:Bs) (d e f:Int),e1=.returned (.agg #[vb a,vs c,vb d,vi e,vi f])∧G1 fun F1=>∀g:Nat,(It (a != 2) (Tcn P 90 (#[.pointer (some p),vi 130]) I1 ((g,Obj.cells #[vb a,vs c,vb d,vi e,vi f] 145 (0,0))::·) F1 fun e2 I2 G2=>e2=.returned (.tuple #[])∧G2 fun F2=>Q (.returned (vs (⟨#[]⟩:Bs))) I2 F2) (∃ad:Addr,some p=some ad∧∃(m:Int),Rd I1 ((g,Obj.cells #[vb a,vs c,vb d,vi e,vi f] 145 (0,0))::F1) (ad.add 3) [vi m]∧∃b:Addr,some p=some b∧∃(cs:List Value) (el:Nat) (F3:Heap),List.Perm F1 (((b.add 3).block,Obj.cells cs.toArray el (0,0))::F3)∧(b.add 3).spot=none∧(b.add 3).off+1≤cs.length∧Q (.returned (vs c)) I1 ((((b.add 3).block,Obj.cells (splice (b.add 3).off [vi (IntKind.wrap .i64 (m+1))] cs).toArray el (0,0))::F3))))
theorem ref13_Parser_name.vc{p:Addr}{I:Imm}{F:Heap}{Q:PostQ}  (h:ref13_Parser_name.V (.int .u8) (.int .i64) .string p I F Q):Tri P 91 #[.pointer (some p)] I F Q :=
 tw (A:=(an [2002] [88,90] shT_p0)) [88,90] func91 h
def ref13_Parser_deeper.V(vt:Bool→Value)(p:Addr)(d:Int)(I:Imm)(F:Heap)(Q:PostQ)  : Prop:=(Dt ((IntKind.wrap .i64 (d+1))>24) (Tcn P 90 (#[.pointer (some p),.int .i64 132]) I (·) F fun e1 I1 G1=>e1=.returned (.tuple #[])∧G1 fun F1=>Tc1 P 55 (#[.pointer (some p)]) I1 (·) F1 vt fun r I2 F2=>Q (.returned (vt (!r))) I2 F2) (Tc1 P 55 (#[.pointer (some p)]) I (·) F vt fun r1 I3 F3=>Q (.returned (vt (!r1))) I3 F3))
theorem ref13_Parser_deeper.vc{p:Addr}{d:Int}{I:Imm}{F:Heap}{Q:PostQ}  (h:ref13_Parser_deeper.V .bool p d I F Q):Tri P 87 #[.pointer (some p),.int .i64 d] I F Q :=
 tw (A:=(an [1002] [55,90] shT_p0)) [55,90] func87 h
def ref13_Parser_literal.V(nV:Int→Int→Int→Int→Int→Bs→OA→Nat→Nat→Int→Value)(nO:Int→Int→Int→Int→Int→Bs→OA→Nat→Nat→Int→Obj)(vb vi:Int→Value)(vt:Bool→Value)(p:Addr)(I:Imm)(F:Heap)(Q:PostQ)(Inv6:Bool→Int→Int→Int→Int→Int→Bs→OA→Nat→Nat→Int→Int→Int→Int→Int→Int→Bs→OA→Nat→Nat→Int→Imm→Heap→Prop):Prop:=∀b:Nat,Tcn P 88 (#[.pointer (some p)]) I ((b,nO 0 0 0 0 0 (⟨#[]⟩:Bs) none 0 0 0)::·) F fun e1 I1 G1=>∃(d:Int) (a:Bs) (u v c:Int),e1=.returned (.agg #[vb d,.string a,vb u,vi v,vi c])∧G1 fun F1=>∀af:Nat,∀ag:Nat,((It (d==3) (Inv6 false 0 0 0 0 0 (⟨#[]⟩:Bs) none 0 0 0 1 0 u v 0 (⟨#[]⟩:Bs) none 0 0 c I1 F1) (It (d==1) (It (a.toList==(⟨#[116,114,117,101]⟩:Bs).toList) (It (a.toList==(⟨#[116,114,117,101]⟩:Bs).toList) (Inv6 false 0 0 0 0 0 (⟨#[]⟩:Bs) none 0 0 0 1 0 5 1 0 (⟨#[]⟩:Bs) none 0 0 c I1 F1) (Inv6 false 0 0 0 0 0 (⟨#[]⟩:Bs) none 0 0 0 1 0 5 0 0 (⟨#[]⟩:Bs) none 0 0 c I1 F1)) (It (a.toList==(⟨#[102,97,108,115,101]⟩:Bs).toList) (It (a.toList==(⟨#[116,114,117,101]⟩:Bs).toList) (Inv6 false 0 0 0 0 0 (⟨#[]⟩:Bs) none 0 0 0 1 0 5 1 0 (⟨#[]⟩:Bs) none 0 0 c I1 F1) (Inv6 false 0 0 0 0 0 (⟨#[]⟩:Bs) none 0 0 0 1 0 5 0 0 (⟨#[]⟩:Bs) none 0 0 c I1 F1)) (It (d==1) (It (a.toList==(⟨#[98,117,121]⟩:Bs).toList) (It (a.toList==(⟨#[115,101,108,108]⟩:Bs).toList) (Inv6 false 0 0 0 0 0 (⟨#[]⟩:Bs) none 0 0 0 1 0 6 2 0 (⟨#[]⟩:Bs) none 0 0 c I1 F1) (Inv6 false 0 0 0 0 0 (⟨#[]⟩:Bs) none 0 0 0 1 0 6 1 0 (⟨#[]⟩:Bs) none 0 0 c I1 F1)) (It (a.toList==(⟨#[115,101,108,108]⟩:Bs).toList) (It (a.toList==(⟨#[115,101,108,108]⟩:Bs).toList) (Inv6 false 0 0 0 0 0 (⟨#[]⟩:Bs) none 0 0 0 1 0 6 2 0 (⟨#[]⟩:Bs) none 0 0 c I1 F1) (Inv6 false 0 0 0 0 0 (⟨#[]⟩:Bs) none 0 0 0 1 0 6 1 0 (⟨#[]⟩:Bs) none 0 0 c I1 F1)) (Q (.returned (.tuple #[nV 0 0 0 0 0 (⟨#[]⟩:Bs) none 0 0 0,vt false])) I1 F1))) (Q (.returned (.tuple #[nV 0 0 0 0 0 (⟨#[]⟩:Bs) none 0 0 0,vt false])) I1 F1)))) (It (d==1) (It (a.toList==(⟨#[98,117,121]⟩:Bs).toList) (It (a.toList==(⟨#[115,101,108,108]⟩:Bs).toList) (Inv6 false 0 0 0 0 0 (⟨#[]⟩:Bs) none 0 0 0 1 0 6 2 0 (⟨#[]⟩:Bs) none 0 0 c I1 F1) (Inv6 false 0 0 0 0 0 (⟨#[]⟩:Bs) none 0 0 0 1 0 6 1 0 (⟨#[]⟩:Bs) none 0 0 c I1 F1)) (It (a.toList==(⟨#[115,101,108,108]⟩:Bs).toList) (It (a.toList==(⟨#[115,101,108,108]⟩:Bs).toList) (Inv6 false 0 0 0 0 0 (⟨#[]⟩:Bs) none 0 0 0 1 0 6 2 0 (⟨#[]⟩:Bs) none 0 0 c I1 F1) (Inv6 false 0 0 0 0 0 (⟨#[]⟩:Bs) none 0 0 0 1 0 6 1 0 (⟨#[]⟩:Bs) none 0 0 c I1 F1)) (Q (.returned (.tuple #[nV 0 0 0 0 0 (⟨#[]⟩:Bs) none 0 0 0,vt false])) I1 F1))) (Q (.returned (.tuple #[nV 0 0 0 0 0 (⟨#[]⟩:Bs) none 0 0 0,vt false])) I1 F1)))))∧∀(x:Bool) (w y z aa ab:Int) (ac:Bs) (r:OA) (s t:Nat) (ae i j k l n:Int) (o:Bs) (e:OA) (f g:Nat) (q:Int) (I2:Imm) (F2:Heap),Imm.le I1 I2→Inv6 x w y z aa ab ac r s t ae i j k l n o e f g q I2 F2→∃ad:Addr,some p=some ad∧∃(m:Int),Rd I2 ((b,nO w y z aa ab ac r s t ae)::(af,Obj.cells #[vb d,.string a,vb u,vi v,vi c] 145 (0,0))::(ag,nO i j k l n o e f g q)::F2) (ad.add 3) [vi m]∧∃h:Addr,some p=some h∧∃(cs:List Value) (el:Nat) (F3:Heap),List.Perm F2 (((h.add 3).block,Obj.cells cs.toArray el (0,0))::F3)∧(h.add 3).spot=none∧(h.add 3).off+1≤cs.length∧Q (.returned (.tuple #[nV i j k l n o e f g q,vt true])) I2 ((((h.add 3).block,Obj.cells (splice (h.add 3).off [vi (IntKind.wrap .i64 (m+1))] cs).toArray el (0,0))::F3))
theorem ref13_Parser_literal.vc{p:Addr}{I:Imm}{F:Heap}{Q:PostQ}(Inv6:Bool→Int→Int→Int→Int→Int→Bs→OA→Nat→Nat→Int→Int→Int→Int→Int→Int→Bs→OA→Nat→Nat→Int→Imm→Heap→Prop)(h:ref13_Parser_literal.V (fun k o t n f s a l c q=>.agg #[.int .u8 k,.int .u8 o,.int .u8 t,.int .i64 n,.int .u8 f,.string s,.slice a l c,.int .i64 q]) (fun k o t n f s a l c q=>.cells #[.int .u8 k,.int .u8 o,.int .u8 t,.int .i64 n,.int .u8 f,.string s,.slice a l c,.int .i64 q] 28 (0,0)) (.int .u8) (.int .i64) .bool p I F Q Inv6):Tri P 123 #[.pointer (some p)] I F Q :=
 tw (A:=(annL [4002,7002,7006,7010,9002,11002,11006,11010,14002] [] [88] shT_p0 [(6,⟨[(3,.bool)],[(0,[(.int .u8),(.int .u8),(.int .u8),(.int .i64),(.int .u8),.str,.slc,(.int .i64)]),(2,[(.int .u8),(.int .u8),(.int .u8),(.int .i64),(.int .u8),.str,.slc,(.int .i64)])],fun _ _ _ vs m I F=>match vs with | [.bool y0,.int _ y1,.int _ y2,.int _ y3,.int _ y4,.int _ y5,.string y6,.slice y7 y8 y9,.int _ y10,.int _ y11,.int _ y12,.int _ y13,.int _ y14,.int _ y15,.string y16,.slice y17 y18 y19,.int _ y20]=>Inv6 y0 y1 y2 y3 y4 y5 y6 y7 y8 y9 y10 y11 y12 y13 y14 y15 y16 y17 y18 y19 y20 I F | _=>False,[],[]⟩)] [] [] [] [] [] [])) [88] func123 h
def ref13_Parser_end.V(vi:Int→Value)(p:Addr)(I:Imm)(F:Heap)(Q:PostQ)  : Prop:=Tc1 P 55 (#[.pointer (some p)]) I (·) F .bool fun r I1 F1=>(It r (Q (.returned (.tuple #[])) I1 F1) (∃ad:Addr,some p=some ad∧∃(m:Int),Rd I1 F1 (ad.add 3) [vi m]∧∃d:Addr,some p=some d∧∃(i:OA) (a j:Nat),Rd I1 F1 (d.add 0) [.slice i a j]∧(Dt (m≥(a:Int)) (Tcn P 90 (#[.pointer (some p),vi 130]) I1 (·) F1 fun e2 I2 G2=>e2=.returned (.tuple #[])∧G2 fun F2=>Q (.returned (.tuple #[])) I2 F2) (∃e:Addr,some p=some e∧∃(b:OA) (c h:Nat),Rd I1 F1 (e.add 0) [.slice b c h]∧∃f:Addr,some p=some f∧∃(m1:Int),Rd I1 F1 (f.add 3) [vi m1]∧((0≤m1∧m1<(c:Int))∧∃g:Addr,b=some g∧∃(m2:Int),Rd I1 F1 ((g.add (Int.toNat m1*5)).add 0) [.int .u8 m2]∧(It (m2 != 0) (Tcn P 90 (#[.pointer (some p),vi 130]) I1 (·) F1 fun e3 I3 G3=>e3=.returned (.tuple #[])∧G3 fun F3=>Q (.returned (.tuple #[])) I3 F3) (Q (.returned (.tuple #[])) I1 F1)))))))
theorem ref13_Parser_end.vc{p:Addr}{I:Imm}{F:Heap}{Q:PostQ}  (h:ref13_Parser_end.V (.int .i64) p I F Q):Tri P 54 #[.pointer (some p)] I F Q :=
 tw (A:=(an [1,1009,1022] [55,90] shT_p0)) [55,90] func54 h
def ref13_Parser_many.V(vt:Bool→Value)(p:Addr)(n a:Int)(I:Imm)(F:Heap)(Q:PostQ)  : Prop:=(Dt (n≥a) (Tcn P 90 (#[.pointer (some p),.int .i64 131]) I (·) F fun e1 I1 G1=>e1=.returned (.tuple #[])∧G1 fun F1=>Tc1 P 55 (#[.pointer (some p)]) I1 (·) F1 vt fun r I2 F2=>Q (.returned (vt (!r))) I2 F2) (Tc1 P 55 (#[.pointer (some p)]) I (·) F vt fun r1 I3 F3=>Q (.returned (vt (!r1))) I3 F3))
theorem ref13_Parser_many.vc{p:Addr}{n a:Int}{I:Imm}{F:Heap}{Q:PostQ}  (h:ref13_Parser_many.V .bool p n a I F Q):Tri P 92 #[.pointer (some p),.int .i64 n,.int .i64 a] I F Q :=
 tw (A:=(an [1002] [55,90] shT_p0)) [55,90] func92 h
def ref13_begin.V(vi:Int→Value)(s:Bs)(I:Imm)(F:Heap)(Q:PostQ)  : Prop:=(Dt ((s.size:Int)>4096) (∀b:Nat,Q (.returned (.pointer (some (⟨b,0,none⟩:Addr)))) I (((b,Obj.cells #[.slice none 0 0,vi 0,vi 0,vi 0,vi 110,vi 0,.bool true] 107 (0,0))::F))) (Tcn P 84 #[.string s] I (·) F fun e1 I1 G1=>∃(a:OA) (c d:Nat) (r1 r2:Int),e1=.returned (.tuple #[.slice a c d,vi r1,vi r2])∧G1 fun F1=>∀b1:Nat,Q (.returned (.pointer (some (⟨b1,0,none⟩:Addr)))) I1 (((b1,Obj.cells #[.slice a c d,vi r1,vi r2,vi 0,vi 0,vi 0,.bool false] 107 (0,0))::F1))))
theorem ref13_begin.vc{s:Bs}{I:Imm}{F:Heap}{Q:PostQ}  (h:ref13_begin.V (.int .i64) s I F Q):Tri P 52 #[.string s] I F Q :=
 tw (A:=(annL [1002] [] [84] shT_p0 [] [] [2002,4004] [] [] [] [])) [84] func52 h
end Go.Lx
namespace Go.Lx
open Go.Vc
structure PQ where
 c:PC
 a:Option Addr
 cap:Nat
def PQ.cl(q:PQ)(s:PS):List Value:=[.slice q.a q.c.l.length q.cap,.int .i64 q.c.bad,.int .i64 q.c.pos,.int .i64 s.next,.int .i64 s.f.e,.int .i64 s.f.pos,.bool s.f.tok]
def PQ.blk(q:PQ)(b:Nat)(s:PS):Nat×Obj:=(b,.cells (q.cl s).toArray 107 (0,0))
structure PQ.ok (q:PQ) (I:Imm):Prop where
 sl:Sl I 5 Tok.enc q.a q.c.l.length q.c.l
 len:q.c.l.length≤1000000
theorem PQ.ok.mono{q:PQ}{I J:Imm}(h:q.ok I)(hl:Imm.le I J):q.ok J:=⟨h.sl.mono hl,h.len⟩
theorem PQ.rd{q:PQ}{b:Nat}{s:PS}{I:Imm}{G:Heap}(h:q.blk b s∈G){k:Nat}{v:Value}(hv:(q.cl s)[k]? = some v):Rd I G ((⟨b,0,none⟩:Addr).add k) [v]:=by
 rw[add_lit0]
 refine⟨rfl,_,_,_,.inr h,fun j hj=>?_⟩
 have:j=0:=by simpa using hj
 subst this
 simpa using hv
theorem PQ.inc_eq{q:PQ}{b:Nat}{s:PS}(hn:s.next≤2000000) :
  (((⟨b,0,none⟩:Addr).add 3).block,Obj.cells (splice ((⟨b,0,none⟩:Addr).add 3).off [.int .i64 (IntKind.wrap .i64 ((s.next:Int)+1))] (q.cl s)).toArray 107 (0,0))=q.blk b s.inc:=by
 rw[add_lit0,w64 (by omega)]
 rfl
theorem PQ.f_eq{q:PQ}{b:Nat}{s:PS}{e p:Int}{t:Bool} :
  (((⟨b,0,none⟩:Addr).add 4).block,Obj.cells (splice ((⟨b,0,none⟩:Addr).add 4).off [.int .i64 e,.int .i64 p,.bool t] (q.cl s)).toArray 107 (0,0))=q.blk b ⟨s.next,⟨e,p,t⟩⟩:=by
 rw[add_lit0]
 rfl
theorem PQ.spot(b k:Nat):((⟨b,0,none⟩:Addr).add k).spot=none:=by rw[add_lit0]
theorem PQ.off(b k:Nat):((⟨b,0,none⟩:Addr).add k).off=k:=by rw[add_lit0]
variable {q:PQ} {b:Nat} {s:PS} {I:Imm}
theorem p_over{F:Heap}(hm:q.blk b s∈F):Tri P 55 #[.pointer (some ⟨b,0,none⟩)] I F (Ret (.bool s.over) F):=by
 refine ref13_Parser_over.vc ?_
 unfold ref13_Parser_over.V
 exact⟨_,rfl,_,(PQ.rd hm (k:=4) rfl).field (o:=0) rfl,rfl,rfl⟩
theorem p_now(hq:q.ok I){F:Heap}(hm:q.blk b s∈F):Tri P 88 #[.pointer (some ⟨b,0,none⟩)] I F (Ret (q.c.now s).v F):=by
 refine ref13_Parser_now.vc ?_
 unfold ref13_Parser_now.V
 intro b1
 refine⟨s.over,Tri.ret (p_over (.tail _ hm)) fun I1 l1=>⟨rfl,.refl _⟩,fun h=>⟨?_,rfl⟩,fun h=>⟨_,rfl,_,PQ.rd (.tail _ hm) rfl,_,rfl,_,_,_,PQ.rd (.tail _ hm) rfl,fun hn=>⟨?_,rfl⟩,fun hn=>⟨_,rfl,_,_,_,PQ.rd (.tail _ hm) rfl,_,rfl,_,PQ.rd (.tail _ hm) rfl, ?_⟩⟩⟩
 ·unfold PC.now;rw[h];rfl
 ·have hn:=of_decide_eq_true hn
  unfold PC.now;rw[h,if_pos (by simp;omega)];rfl
 ·have hn:=of_decide_eq_false hn
  obtain⟨ad,t,ha,ht,hr⟩:=hq.sl.at (i:=(s.next:Int)) (by omega) (by omega)
  refine⟨⟨by omega,by omega⟩,ad,ha,_,_,_,_,_,hr _, ?_,rfl⟩
  have ht:q.c.l[s.next]? = some t:=ht
  unfold PC.now PC.tok;rw[h,if_neg (by simp;omega),ht];rfl
theorem p_wrong(hq:q.ok I)(e:Int){F F0:Heap}(hF:F.Perm (q.blk b s::F0)):Tri P 90 #[.pointer (some ⟨b,0,none⟩),.int .i64 e] I F fun e1 I' G=>e1=.returned (.tuple #[])∧G.Perm (q.blk b (q.c.wrong e s)::F0):=by
 have hm:q.blk b s∈F:=hF.mem_iff.2 (.head _)
 refine ref13_Parser_wrong.vc ?_
 unfold ref13_Parser_wrong.V
 refine Tri.ret (p_over hm) fun I1 l1=>⟨_,rfl,F,.refl _,fun h=>⟨rfl, ?_⟩,fun h=>⟨_,rfl,_,PQ.rd hm rfl,_,rfl,_,_,_,PQ.rd hm rfl,fun hn=>⟨_,rfl,_,PQ.rd hm rfl,_,rfl,_,PQ.rd hm rfl,_,rfl,q.cl s,107,F0,hF,PQ.spot _ _,by rw[PQ.off];exact (by decide:4+3≤7),rfl, ?_⟩,
  fun hn=>⟨_,rfl,_,_,_,PQ.rd hm rfl,_,rfl,_,PQ.rd hm rfl, ?_⟩⟩⟩
 ·unfold PC.wrong;rw[if_pos h];exact hF
 ·have hn:=of_decide_eq_true hn
  unfold PC.wrong;rw[if_neg (by simp[h]),if_pos (by omega),PQ.f_eq]
 ·have hn:=of_decide_eq_false hn
  obtain⟨ad,t,ha,ht,hr⟩:=(hq.mono l1).sl.at (i:=(s.next:Int)) (by omega) (by omega)
  refine⟨⟨by omega,by omega⟩,ad,ha,t.pos,(hr _).field (o:=4) rfl,_,rfl,q.cl s,107,F0,hF,PQ.spot _ _,by rw[PQ.off];exact (by decide:4+3≤7),rfl, ?_⟩
  have ht:q.c.l[s.next]? = some t:=ht
  unfold PC.wrong PC.tok;rw[if_neg (by simp[h]),if_neg (by omega),ht,PQ.f_eq];exact .refl _
theorem p_is(hq:q.ok I)(w:ByteArray){F:Heap}(hm:q.blk b s∈F):Tri P 86 #[.pointer (some ⟨b,0,none⟩),.string w] I F (Ret (.bool (q.c.isW w s)) F):=by
 refine ref13_Parser_is.vc ?_
 unfold ref13_Parser_is.V
 refine Tri.ret (p_now hq hm) fun I1 l1=>⟨_,_,_,_,_,rfl,F,.refl _,fun b_t=>⟨fun h=>⟨fun h1=>⟨?_,rfl⟩,fun h1=>⟨?_,rfl⟩⟩,fun h=>⟨?_,rfl⟩⟩⟩<;>unfold PC.isW<;>simp_all
theorem p_any(hq:q.ok I){a:Option Addr}{n k:Nat}{ws:List ByteArray}(hS:Sl I 1 encS a n ws)(hl:n≤100){F:Heap}(hm:q.blk b s∈F):Tri P 122 #[.pointer (some ⟨b,0,none⟩),.slice a n k] I F (Ret (.int .i64 (q.c.any ws s)) F):=by
 have hn:=hS.1
 refine ref13_Parser_any.vc (fun x i m I' F'=>F'=F∧0≤i∧i≤n∧m=(n-i).toNat∧q.c.any ws s=q.c.anyF s (ws.drop i.toNat) i) ?_
 unfold ref13_Parser_any.V
 refine⟨⟨_,rfl,by omega,by omega,rfl,rfl⟩,fun x i m1 I1 F1 l1 ⟨gF,g0,g1,gm,ge⟩=>⟨fun hlt=>?_,fun hlt=>⟨?_,gF⟩⟩⟩
 ·subst gF
  have hlt:=of_decide_eq_true hlt
  obtain⟨ad,w,ha,hw,hr⟩:=(hS.mono l1).at g0 hlt
  obtain⟨hk,rfl⟩:=List.getElem?_eq_some_iff.1 hw
  rw[List.drop_eq_getElem_cons hk,PC.anyF] at ge
  refine⟨⟨g0,hlt⟩,ad,ha,_,hr _,Tri.ret (p_is (hq.mono l1) _ hm) fun I2 l2=>⟨_,rfl,F1,.refl _,fun h=>⟨?_,rfl⟩,fun h=>⟨(n-(i+1)).toNat,by omega,rfl, ?_⟩⟩⟩
  ·rw[ge,if_pos h]
  ·rw[w64 (n:=i+1) (by omega)]
   refine⟨by omega,by omega,rfl, ?_⟩
   rw[ge,if_neg (by simp[h]),show (i+1).toNat=i.toNat+1 by omega]
 ·have hlt:=of_decide_eq_false hlt
  rw[ge,List.drop_eq_nil_of_le (by omega),PC.anyF]
theorem now_lt{c:PC}{s:PS}(h:(c.now s).kind≠0):s.next<c.l.length:=by
 unfold PC.now at h
 split at h
 ·exact absurd rfl h
 ·rename_i h1
  simp only[Bool.or_eq_true,decide_eq_true_eq,not_or] at h1
  omega
theorem isW_lt{c:PC}{s:PS}{w:ByteArray}(h:c.isW w s=true):s.next<c.l.length:=by
 refine now_lt fun hk=>?_
 unfold PC.isW at h
 rw[hk] at h
 simp at h
theorem anyF_lt{c:PC}{s:PS}:∀{ws:List ByteArray} {i:Int},0≤i→0≤c.anyF s ws i→s.next<c.l.length∧i≤c.anyF s ws i∧c.anyF s ws i<i+ws.length
 | [],i,h0,h=>by rw[PC.anyF] at h;omega
 | w::r,i,h0,h=>by
   rw[PC.anyF] at h ⊢
   split at h
   ·rename_i hw
    rw[if_pos hw]
    exact⟨isW_lt hw,Int.le_refl _,by rw[List.length_cons];omega⟩
   ·rename_i hw
    rw[if_neg hw]
    have:=anyF_lt (ws:=r) (i:=i+1) (by omega) h
    rw[List.length_cons];exact⟨this.1,by omega,by omega⟩
theorem any_lt{c:PC}{s:PS}{ws:List ByteArray}(h:0≤c.any ws s):s.next<c.l.length∧c.any ws s<ws.length:=by
 have:=anyF_lt (Int.le_refl 0) h
 exact⟨this.1,by have:=this.2.2;unfold PC.any;omega⟩
theorem p_take(hq:q.ok I)(w:ByteArray){F F0:Heap}(hF:F.Perm (q.blk b s::F0)):Tri P 89 #[.pointer (some ⟨b,0,none⟩),.string w] I F fun e1 I' G=>e1=.returned (.int .i64 (q.c.take w s).1)∧G.Perm (q.blk b (q.c.take w s).2::F0):=by
 have hm:q.blk b s∈F:=hF.mem_iff.2 (.head _)
 have hl:=hq.len
 refine ref13_Parser_take.vc ?_
 unfold ref13_Parser_take.V
 refine Tri.ret (p_is hq w hm) fun I1 l1=>⟨_,rfl,F,.refl _,fun h=>?_,fun h=>?_⟩
 ·have h:q.c.isW w s=false:=by simpa using h
  refine (p_wrong (hq.mono l1) 130 hF).mono fun e I2 G l2 ⟨he,hG⟩=>?_
  refine⟨he,G,.refl _, ?_⟩
  unfold PC.take
  rw[if_neg (by simp[h])]
  exact⟨rfl,hG⟩
 ·have h:q.c.isW w s=true:=by simpa using h
  have hlt:=isW_lt h
  refine Tri.ret (p_now (hq.mono l1) hm) fun I2 l2=>⟨_,_,_,_,_,rfl,F,.refl _,_,rfl,_,PQ.rd (k:=3) hm rfl,_,rfl,q.cl s,107,F0,hF,PQ.spot _ _,by rw[PQ.off];exact (by decide:3+1≤7), ?_⟩
  rw[PQ.inc_eq (by omega)]
  unfold PC.take
  rw[if_pos h]
  exact⟨rfl,.refl _⟩
theorem p_name(hq:q.ok I){F F0:Heap}(hF:F.Perm (q.blk b s::F0)):Tri P 91 #[.pointer (some ⟨b,0,none⟩)] I F fun e1 I' G=>e1=.returned (.string (q.c.name s).1)∧G.Perm (q.blk b (q.c.name s).2::F0):=by
 have hm:q.blk b s∈F:=hF.mem_iff.2 (.head _)
 have hl:=hq.len
 refine ref13_Parser_name.vc ?_
 unfold ref13_Parser_name.V
 refine Tri.ret (p_now hq hm) fun I1 l1=>⟨_,_,_,_,_,rfl,F,.refl _,fun b_t=>⟨fun h=>?_,fun h=>?_⟩⟩
 ·have h:(q.c.now s).kind≠2:=by simpa using h
  refine (p_wrong (hq.mono l1) 130 (F0:=_::F0) ((List.Perm.cons _ hF).trans (List.Perm.swap _ _ _))).mono fun e I2 G l2 ⟨he,hG⟩=>?_
  refine⟨he,q.blk b (q.c.wrong 130 s)::F0,hG.trans (List.Perm.swap _ _ _), ?_⟩
  unfold PC.name
  rw[if_neg h]
  exact⟨rfl,.refl _⟩
 ·have h:(q.c.now s).kind=2:=by simpa using h
  have hlt:=now_lt (by rw[h];decide:(q.c.now s).kind≠0)
  refine⟨_,rfl,_,PQ.rd (k:=3) (.tail _ hm) rfl,_,rfl,q.cl s,107,F0,hF,PQ.spot _ _,by rw[PQ.off];exact (by decide:3+1≤7), ?_⟩
  rw[PQ.inc_eq (by omega)]
  unfold PC.name
  rw[if_pos h]
  exact⟨rfl,.refl _⟩
theorem p_deeper(hq:q.ok I)(d:Int)(h0:0≤d)(h1:d≤1000){F F0:Heap}(hF:F.Perm (q.blk b s::F0)):Tri P 87 #[.pointer (some ⟨b,0,none⟩),.int .i64 d] I F fun e1 I' G=>e1=.returned (.bool (!(q.c.deeper d s).over))∧G.Perm (q.blk b (q.c.deeper d s)::F0):=by
 have hm:q.blk b s∈F:=hF.mem_iff.2 (.head _)
 refine ref13_Parser_deeper.vc ?_
 unfold ref13_Parser_deeper.V
 rw[w64 (n:=d+1) (by omega)]
 unfold PC.deeper
 refine⟨fun h=>?_,fun h=>?_⟩
 ·have h:=of_decide_eq_true h
  rw[if_pos (by omega)]
  refine (p_wrong hq 132 hF).mono fun e I2 G l2 ⟨he,hG⟩=>⟨he,G,.refl _,Tri.ret (p_over (hG.mem_iff.2 (.head _))) fun I3 l3=>⟨_,rfl,G,.refl _,rfl,hG⟩⟩
 ·have h:=of_decide_eq_false h
  rw[if_neg (by omega)]
  exact Tri.ret (p_over hm) fun I3 l3=>⟨_,rfl,F,.refl _,rfl,hF⟩
theorem p_many(hq:q.ok I)(n most:Nat){F F0:Heap}(hF:F.Perm (q.blk b s::F0)):Tri P 92 #[.pointer (some ⟨b,0,none⟩),.int .i64 n,.int .i64 most] I F fun e1 I' G=>e1=.returned (.bool (!(q.c.many n most s).over))∧G.Perm (q.blk b (q.c.many n most s)::F0):=by
 have hm:q.blk b s∈F:=hF.mem_iff.2 (.head _)
 refine ref13_Parser_many.vc ?_
 unfold ref13_Parser_many.V
 unfold PC.many
 refine⟨fun h=>?_,fun h=>?_⟩
 ·have h:=of_decide_eq_true h
  rw[if_pos (by omega)]
  refine (p_wrong hq 131 hF).mono fun e I2 G l2 ⟨he,hG⟩=>⟨he,G,.refl _,Tri.ret (p_over (hG.mem_iff.2 (.head _))) fun I3 l3=>⟨_,rfl,G,.refl _,rfl,hG⟩⟩
 ·have h:=of_decide_eq_false h
  rw[if_neg (by omega)]
  exact Tri.ret (p_over hm) fun I3 l3=>⟨_,rfl,F,.refl _,rfl,hF⟩
theorem p_end(hq:q.ok I){F F0:Heap}(hF:F.Perm (q.blk b s::F0)):Tri P 54 #[.pointer (some ⟨b,0,none⟩)] I F fun e1 I' G=>e1=.returned (.tuple #[])∧G.Perm (q.blk b (q.c.end s)::F0):=by
 have hm:q.blk b s∈F:=hF.mem_iff.2 (.head _)
 refine ref13_Parser_end.vc ?_
 unfold ref13_Parser_end.V
 unfold PC.end
 refine Tri.ret (p_over hm) fun I1 l1=>⟨_,rfl,F,.refl _,fun h=>?_,fun h=>⟨_,rfl,_,PQ.rd hm rfl,_,rfl,_,_,_,PQ.rd hm rfl,fun hn=>?_,fun hn=>⟨_,rfl,_,_,_,PQ.rd hm rfl,_,rfl,_,PQ.rd hm rfl, ?_⟩⟩⟩
 ·rw[if_pos h];exact⟨rfl,hF⟩
 ·have hn:=of_decide_eq_true hn
  rw[if_neg (by simp[h]),if_pos (.inl (by omega))]
  exact (p_wrong (hq.mono l1) 130 hF).mono fun e I2 G l2 ⟨he,hG⟩=>⟨he,G,.refl _,rfl,hG⟩
 ·have hn:=of_decide_eq_false hn
  obtain⟨ad,t,ha,ht,hr⟩:=(hq.mono l1).sl.at (i:=(s.next:Int)) (by omega) (by omega)
  have ht:q.c.l[s.next]? = some t:=ht
  have htk:q.c.tok s.next=t:=by unfold PC.tok;rw[ht];rfl
  refine⟨⟨by omega,by omega⟩,ad,ha,t.kind,(hr _).field (o:=0) rfl,fun h2=>?_,fun h2=>?_⟩
  ·rw[if_neg (by simp[h]),if_pos (.inr (by rw[htk];simpa using h2))]
   exact (p_wrong (hq.mono l1) 130 hF).mono fun e I2 G l2 ⟨he,hG⟩=>⟨he,G,.refl _,rfl,hG⟩
  ·rw[if_neg (by simp[h]),if_neg (by rw[htk];simp at h2;omega)]
   exact⟨rfl,hF⟩
end Go.Lx
namespace Go.Lx
open Go.Vc
def Small(l:List Px):Prop:=∀x∈l,x.size≤1048576
theorem str_empty(s:ByteArray):(s.toList==(⟨#[]⟩:ByteArray).toList)=(s.toList==[]):=by rw[empty_list]
theorem do_spec(d:DoN)(hs:Small d.p.nds)(I:Imm)(F:Heap)(hd:d.Ok I F):Tri P 132 #[d.v] I F (Errs d.p.check F):=by
 have hs1:=hs d.side.px (by simp[DoP.nds,DoN.p])
 have hs2:=hs d.qty.px (by simp[DoP.nds,DoN.p])
 have hs3:=hs d.price.px (by simp[DoP.nds,DoN.p])
 have hs4:=hs d.value.px (by simp[DoP.nds,DoN.p])
 have hn:d.p.check=thenE (errB d.p.kindB 120) (thenE (errB d.p.orderB 120) (thenE (errB d.p.nameB 120) (thenE (partE (decide (d.kind=1)) d.side.px) (thenE (partE (decide (d.kind=1∨d.kind=2)) d.qty.px)
  (thenE (partE (decide (d.kind=1∧d.order≠2∨d.kind=2)) d.price.px) (partE (decide (d.kind=4)) d.value.px)))))):=rfl
 refine tree_do.vc (fun I' F'=>Imm.le I I'∧F'=F∧d.p.check=thenE (errB d.p.orderB 120) (thenE (errB d.p.nameB 120) (thenE (partE (decide (d.kind=1)) d.side.px) (thenE (partE (decide (d.kind=1∨d.kind=2)) d.qty.px)
  (thenE (partE (decide (d.kind=1∧d.order≠2∨d.kind=2)) d.price.px) (partE (decide (d.kind=4)) d.value.px))))))
  (fun I' F'=>Imm.le I I'∧F'=F∧d.p.check=thenE (errB d.p.nameB 120) (thenE (partE (decide (d.kind=1)) d.side.px) (thenE (partE (decide (d.kind=1∨d.kind=2)) d.qty.px)
  (thenE (partE (decide (d.kind=1∧d.order≠2∨d.kind=2)) d.price.px) (partE (decide (d.kind=4)) d.value.px)))))
  (fun I' F'=>Imm.le I I'∧F'=F∧d.p.check=(thenE (partE (decide (d.kind=1)) d.side.px) (thenE (partE (decide (d.kind=1∨d.kind=2)) d.qty.px)
  (thenE (partE (decide (d.kind=1∧d.order≠2∨d.kind=2)) d.price.px) (partE (decide (d.kind=4)) d.value.px)))))
  (fun I' F'=>Imm.le I I'∧F'=F∧d.p.check=((thenE (partE (decide (d.kind=1∨d.kind=2)) d.qty.px)
  (thenE (partE (decide (d.kind=1∧d.order≠2∨d.kind=2)) d.price.px) (partE (decide (d.kind=4)) d.value.px)))))
  (fun I' F'=>Imm.le I I'∧F'=F∧d.p.check=((thenE (partE (decide (d.kind=1∧d.order≠2∨d.kind=2)) d.price.px) (partE (decide (d.kind=4)) d.value.px))))
  (fun I' F'=>Imm.le I I'∧F'=F∧d.p.check=partE (decide (d.kind=4)) d.value.px) ?_
 unfold tree_do.V
 intro b_d
 have k1:(d.kind==1)=decide (d.kind=1):=rfl
 have k2:(d.kind==2)=decide (d.kind=2):=rfl
 have k4:(d.kind==4)=decide (d.kind=4):=rfl
 refine⟨⟨fun h=>?_,fun h=>?_⟩,fun I1 F1 hI1 ⟨hl1,hF1,hc1⟩=>?_⟩
 ·have e:d.p.kindB=decide (d.kind≤6):=by
   have h:=of_decide_eq_true h
   unfold DoP.kindB;rw[Bool.eq_iff_iff];simp only[decide_eq_true_eq];exact⟨fun h=>h.2,fun h'=>⟨h,h'⟩⟩
  rw[e] at hn
  refine Errs.use (must_errs _ (by decide) I _) (fun q2 I2 hI2=>.inl ⟨rfl,_,.refl _, ?_⟩) (fun q2 I2 hI2=>.inr ⟨_,rfl,_,.refl _, ?_⟩)
  ·rw[q2,thenE_zero] at hn
   exact⟨hI2,rfl,hn⟩
  ·exact .fail hn q2
 ·have e:d.p.kindB=false:=by
   have h:=of_decide_eq_false h
   exact decide_eq_false fun h'=>h h'.1
  rw[e] at hn
  refine Errs.use (must_errs _ (by decide) I _) (fun q2 I2 hI2=>.inl ⟨rfl,_,.refl _, ?_⟩) (fun q2 I2 hI2=>.inr ⟨_,rfl,_,.refl _, ?_⟩)
  ·cases q2
  ·exact .fail hn q2
 subst hF1
 clear hn
 refine⟨?_,fun I2 F2 hI2 ⟨hl2,hF2,hc2⟩=>?_⟩
 ·have key:∀b:Bool,b=d.p.orderB→Tri P 98 #[.bool b,.int .i64 120] I1 ((b_d,Obj.cells #[.int .u8 d.kind,.int .u8 d.order,.string d.name,.int .u8 d.side.kind,.int .u8 d.side.oper,.int .u8 d.side.typ,.int .i64 d.side.n,.int .u8 d.side.field,.string d.side.name,.slice d.side.a d.side.kids.length d.side.c,.int .i64 d.side.pos,.int .u8 d.qty.kind,.int .u8 d.qty.oper,.int .u8 d.qty.typ,.int .i64 d.qty.n,.int .u8 d.qty.field,.string d.qty.name,.slice d.qty.a d.qty.kids.length d.qty.c,.int .i64 d.qty.pos,.int .u8 d.price.kind,.int .u8 d.price.oper,.int .u8 d.price.typ,.int .i64 d.price.n,.int .u8 d.price.field,.string d.price.name,.slice d.price.a d.price.kids.length d.price.c,.int .i64 d.price.pos,.int .u8 d.value.kind,.int .u8 d.value.oper,.int .u8 d.value.typ,.int .i64 d.value.n,.int .u8 d.value.field,.string d.value.name,.slice d.value.a d.value.kids.length d.value.c,.int .i64 d.value.pos,.int .i64 d.pos] 99 (0,0))::F1) fun e1 I2 G1=>(e1=.returned (.tuple #[])∧∃F1':Heap,List.Perm G1 ((b_d,Obj.cells #[.int .u8 d.kind,.int .u8 d.order,.string d.name,.int .u8 d.side.kind,.int .u8 d.side.oper,.int .u8 d.side.typ,.int .i64 d.side.n,.int .u8 d.side.field,.string d.side.name,.slice d.side.a d.side.kids.length d.side.c,.int .i64 d.side.pos,.int .u8 d.qty.kind,.int .u8 d.qty.oper,.int .u8 d.qty.typ,.int .i64 d.qty.n,.int .u8 d.qty.field,.string d.qty.name,.slice d.qty.a d.qty.kids.length d.qty.c,.int .i64 d.qty.pos,.int .u8 d.price.kind,.int .u8 d.price.oper,.int .u8 d.price.typ,.int .i64 d.price.n,.int .u8 d.price.field,.string d.price.name,.slice d.price.a d.price.kids.length d.price.c,.int .i64 d.price.pos,.int .u8 d.value.kind,.int .u8 d.value.oper,.int .u8 d.value.typ,.int .i64 d.value.n,.int .u8 d.value.field,.string d.value.name,.slice d.value.a d.value.kids.length d.value.c,.int .i64 d.value.pos,.int .i64 d.pos] 99 (0,0))::F1')∧(Imm.le I I2∧F1'=F1∧d.p.check=thenE (errB d.p.nameB 120) (thenE (partE (decide (d.kind=1)) d.side.px) (thenE (partE (decide (d.kind=1∨d.kind=2)) d.qty.px)
    (thenE (partE (decide (d.kind=1∧d.order≠2∨d.kind=2)) d.price.px) (partE (decide (d.kind=4)) d.value.px))))))∨(∃ch:List PanicEntry,e1=.panicked ch∧∃F2:Heap,List.Perm G1 ((b_d,Obj.cells #[.int .u8 d.kind,.int .u8 d.order,.string d.name,.int .u8 d.side.kind,.int .u8 d.side.oper,.int .u8 d.side.typ,.int .i64 d.side.n,.int .u8 d.side.field,.string d.side.name,.slice d.side.a d.side.kids.length d.side.c,.int .i64 d.side.pos,.int .u8 d.qty.kind,.int .u8 d.qty.oper,.int .u8 d.qty.typ,.int .i64 d.qty.n,.int .u8 d.qty.field,.string d.qty.name,.slice d.qty.a d.qty.kids.length d.qty.c,.int .i64 d.qty.pos,.int .u8 d.price.kind,.int .u8 d.price.oper,.int .u8 d.price.typ,.int .i64 d.price.n,.int .u8 d.price.field,.string d.price.name,.slice d.price.a d.price.kids.length d.price.c,.int .i64 d.price.pos,.int .u8 d.value.kind,.int .u8 d.value.oper,.int .u8 d.value.typ,.int .i64 d.value.n,.int .u8 d.value.field,.string d.value.name,.slice d.value.a d.value.kids.length d.value.c,.int .i64 d.value.pos,.int .i64 d.pos] 99 (0,0))::F2)∧Errs d.p.check F1 (.panicked ch) I2 F2):=fun b hb=>by
   subst hb
   refine Errs.use (must_errs _ (by decide) I1 _) (fun q2 I2 hI2=>.inl ⟨rfl,_,.refl _, ?_⟩) (fun q2 I2 hI2=>.inr ⟨_,rfl,_,.refl _, ?_⟩)
   ·rw[q2,thenE_zero] at hc1
    exact⟨Imm.le_trans hl1 hI2,rfl,hc1⟩
   ·exact .fail hc1 q2
  have eo:d.p.orderB=decide (d.kind=1∧1≤d.order∧d.order≤5∨d.kind≠1∧d.order=0):=rfl
  refine⟨fun h=>⟨fun h2=>⟨fun h3=>key _ ?_,fun h3=>⟨fun h4=>key _ ?_,fun h4=>key _ ?_⟩⟩,fun h2=>⟨fun h4=>key _ ?_,fun h4=>key _ ?_⟩⟩,fun h=>⟨fun h4=>key _ ?_,fun h4=>key _ ?_⟩⟩
  all_goals
   rw[eo,Bool.eq_iff_iff]
   simp only[decide_eq_true_eq,decide_eq_false_iff_not,beq_iff_eq,beq_eq_false_iff_ne,Bool.not_eq_true',Bool.not_eq_false',iff_true,true_iff,false_iff,Bool.false_eq_true] at *
   omega
 subst hF2
 clear hc1
 have en:d.p.nameB=if d.kind=6 then d.name.toList==[] else if d.kind≠1∨d.name.toList≠[] then Lx.nameB d.name else true:=rfl
 refine⟨⟨fun h=>?_,fun h=>⟨fun h2=>?_,fun h2=>⟨fun h3=>?_,fun h3=>?_⟩⟩⟩,fun I3 F3 hI3 ⟨hl3,hF3,hc3⟩=>?_⟩
 ·have h:d.kind=6:=by simpa using h
  rw[if_pos h] at en
  rw[str_empty,←en]
  refine Errs.use (must_errs _ (by decide) I2 _) (fun q3 I3 hI3=>.inl ⟨rfl,_,.refl _, ?_⟩) (fun q3 I3 hI3=>.inr ⟨_,rfl,_,.refl _, ?_⟩)
  ·rw[q3,thenE_zero] at hc2;exact⟨Imm.le_trans hl2 hI3,rfl,hc2⟩
  ·exact .fail hc2 q3
 ·have h:d.kind≠6:=by simpa using h
  have h2:d.kind≠1:=by simpa using h2
  rw[if_neg h,if_pos (.inl h2)] at en
  refine Errs.use (named_spec d.name I2 _) (fun q3 I3 hI3=>.inl ⟨rfl,_,.refl _, ?_⟩) (fun q3 I3 hI3=>.inr ⟨_,rfl,_,.refl _, ?_⟩)
  ·rw[en,q3,thenE_zero] at hc2;exact⟨Imm.le_trans hl2 hI3,rfl,hc2⟩
  ·rw[en] at hc2;exact .fail hc2 q3
 ·have h:d.kind≠6:=by simpa using h
  rw[str_empty] at h3
  rw[if_neg h,if_pos (.inr (by simpa using h3))] at en
  refine Errs.use (named_spec d.name I2 _) (fun q3 I3 hI3=>.inl ⟨rfl,_,.refl _, ?_⟩) (fun q3 I3 hI3=>.inr ⟨_,rfl,_,.refl _, ?_⟩)
  ·rw[en,q3,thenE_zero] at hc2;exact⟨Imm.le_trans hl2 hI3,rfl,hc2⟩
  ·rw[en] at hc2;exact .fail hc2 q3
 ·have h:d.kind≠6:=by simpa using h
  have h2:d.kind=1:=by simpa using h2
  rw[str_empty] at h3
  have h3:d.name.toList=[]:=by simpa using h3
  rw[if_neg h,if_neg (by simp[h2,h3])] at en
  rw[en] at hc2
  exact⟨hl2,rfl,hc2⟩
 subst hF3
 clear hc2 en
 have ok:∀{J:Imm},Imm.le I J→d.Ok J ((b_d,Obj.cells #[.int .u8 d.kind,.int .u8 d.order,.string d.name,.int .u8 d.side.kind,.int .u8 d.side.oper,.int .u8 d.side.typ,.int .i64 d.side.n,.int .u8 d.side.field,.string d.side.name,.slice d.side.a d.side.kids.length d.side.c,.int .i64 d.side.pos,.int .u8 d.qty.kind,.int .u8 d.qty.oper,.int .u8 d.qty.typ,.int .i64 d.qty.n,.int .u8 d.qty.field,.string d.qty.name,.slice d.qty.a d.qty.kids.length d.qty.c,.int .i64 d.qty.pos,.int .u8 d.price.kind,.int .u8 d.price.oper,.int .u8 d.price.typ,.int .i64 d.price.n,.int .u8 d.price.field,.string d.price.name,.slice d.price.a d.price.kids.length d.price.c,.int .i64 d.price.pos,.int .u8 d.value.kind,.int .u8 d.value.oper,.int .u8 d.value.typ,.int .i64 d.value.n,.int .u8 d.value.field,.string d.value.name,.slice d.value.a d.value.kids.length d.value.c,.int .i64 d.value.pos,.int .i64 d.pos] 99 (0,0))::F3):=fun hJ=>(hd.mono hJ fun _ h=>h).cons
 refine⟨?_,fun I4 F4 hI4 ⟨hl4,hF4,hc4⟩=>?_⟩
 ·rw[k1]
  refine Errs.use (part_spec _ d.side hs1 I3 _ (ok hl3).1) (fun q4 I4 hI4=>.inl ⟨rfl,_,.refl _, ?_⟩) (fun q4 I4 hI4=>.inr ⟨_,rfl,_,.refl _, ?_⟩)
  ·rw[q4,thenE_zero] at hc3;exact⟨Imm.le_trans hl3 hI4,rfl,hc3⟩
  ·exact .fail hc3 q4
 subst hF4
 refine⟨?_,fun I5 F5 hI5 ⟨hl5,hF5,hc5⟩=>?_⟩
 ·have key:∀b:Bool,b=decide (d.kind=1∨d.kind=2)→Tri P 150 #[.bool b,d.qty.v] I4 ((b_d,Obj.cells #[.int .u8 d.kind,.int .u8 d.order,.string d.name,.int .u8 d.side.kind,.int .u8 d.side.oper,.int .u8 d.side.typ,.int .i64 d.side.n,.int .u8 d.side.field,.string d.side.name,.slice d.side.a d.side.kids.length d.side.c,.int .i64 d.side.pos,.int .u8 d.qty.kind,.int .u8 d.qty.oper,.int .u8 d.qty.typ,.int .i64 d.qty.n,.int .u8 d.qty.field,.string d.qty.name,.slice d.qty.a d.qty.kids.length d.qty.c,.int .i64 d.qty.pos,.int .u8 d.price.kind,.int .u8 d.price.oper,.int .u8 d.price.typ,.int .i64 d.price.n,.int .u8 d.price.field,.string d.price.name,.slice d.price.a d.price.kids.length d.price.c,.int .i64 d.price.pos,.int .u8 d.value.kind,.int .u8 d.value.oper,.int .u8 d.value.typ,.int .i64 d.value.n,.int .u8 d.value.field,.string d.value.name,.slice d.value.a d.value.kids.length d.value.c,.int .i64 d.value.pos,.int .i64 d.pos] 99 (0,0))::F4) fun e1 I2 G1=>(e1=.returned (.tuple #[])∧∃F1':Heap,List.Perm G1 ((b_d,Obj.cells #[.int .u8 d.kind,.int .u8 d.order,.string d.name,.int .u8 d.side.kind,.int .u8 d.side.oper,.int .u8 d.side.typ,.int .i64 d.side.n,.int .u8 d.side.field,.string d.side.name,.slice d.side.a d.side.kids.length d.side.c,.int .i64 d.side.pos,.int .u8 d.qty.kind,.int .u8 d.qty.oper,.int .u8 d.qty.typ,.int .i64 d.qty.n,.int .u8 d.qty.field,.string d.qty.name,.slice d.qty.a d.qty.kids.length d.qty.c,.int .i64 d.qty.pos,.int .u8 d.price.kind,.int .u8 d.price.oper,.int .u8 d.price.typ,.int .i64 d.price.n,.int .u8 d.price.field,.string d.price.name,.slice d.price.a d.price.kids.length d.price.c,.int .i64 d.price.pos,.int .u8 d.value.kind,.int .u8 d.value.oper,.int .u8 d.value.typ,.int .i64 d.value.n,.int .u8 d.value.field,.string d.value.name,.slice d.value.a d.value.kids.length d.value.c,.int .i64 d.value.pos,.int .i64 d.pos] 99 (0,0))::F1')∧(Imm.le I I2∧F1'=F4∧d.p.check =
    (thenE (partE (decide (d.kind=1∧d.order≠2∨d.kind=2)) d.price.px) (partE (decide (d.kind=4)) d.value.px))))∨(∃ch:List PanicEntry,e1=.panicked ch∧∃F2:Heap,List.Perm G1 ((b_d,Obj.cells #[.int .u8 d.kind,.int .u8 d.order,.string d.name,.int .u8 d.side.kind,.int .u8 d.side.oper,.int .u8 d.side.typ,.int .i64 d.side.n,.int .u8 d.side.field,.string d.side.name,.slice d.side.a d.side.kids.length d.side.c,.int .i64 d.side.pos,.int .u8 d.qty.kind,.int .u8 d.qty.oper,.int .u8 d.qty.typ,.int .i64 d.qty.n,.int .u8 d.qty.field,.string d.qty.name,.slice d.qty.a d.qty.kids.length d.qty.c,.int .i64 d.qty.pos,.int .u8 d.price.kind,.int .u8 d.price.oper,.int .u8 d.price.typ,.int .i64 d.price.n,.int .u8 d.price.field,.string d.price.name,.slice d.price.a d.price.kids.length d.price.c,.int .i64 d.price.pos,.int .u8 d.value.kind,.int .u8 d.value.oper,.int .u8 d.value.typ,.int .i64 d.value.n,.int .u8 d.value.field,.string d.value.name,.slice d.value.a d.value.kids.length d.value.c,.int .i64 d.value.pos,.int .i64 d.pos] 99 (0,0))::F2)∧Errs d.p.check F4 (.panicked ch) I2 F2):=fun b hb=>by
   subst hb
   refine Errs.use (part_spec _ d.qty hs2 I4 _ (ok hl4).2.1) (fun q5 I5 hI5=>.inl ⟨rfl,_,.refl _, ?_⟩) (fun q5 I5 hI5=>.inr ⟨_,rfl,_,.refl _, ?_⟩)
   ·rw[q5,thenE_zero] at hc4;exact⟨Imm.le_trans hl4 hI5,rfl,hc4⟩
   ·exact .fail hc4 q5
  refine⟨fun h=>key _ ?_,fun h=>key _ ?_⟩
  ·simp only[beq_iff_eq] at h;simp[h]
  ·simp only[beq_eq_false_iff_ne] at h;rw[Bool.eq_iff_iff];simp[h]
 subst hF5
 refine⟨?_,fun I6 F6 hI6 ⟨hl6,hF6,hc6⟩=>?_⟩
 ·have key:∀b:Bool,b=decide (d.kind=1∧d.order≠2∨d.kind=2)→Tri P 150 #[.bool b,d.price.v] I5 ((b_d,Obj.cells #[.int .u8 d.kind,.int .u8 d.order,.string d.name,.int .u8 d.side.kind,.int .u8 d.side.oper,.int .u8 d.side.typ,.int .i64 d.side.n,.int .u8 d.side.field,.string d.side.name,.slice d.side.a d.side.kids.length d.side.c,.int .i64 d.side.pos,.int .u8 d.qty.kind,.int .u8 d.qty.oper,.int .u8 d.qty.typ,.int .i64 d.qty.n,.int .u8 d.qty.field,.string d.qty.name,.slice d.qty.a d.qty.kids.length d.qty.c,.int .i64 d.qty.pos,.int .u8 d.price.kind,.int .u8 d.price.oper,.int .u8 d.price.typ,.int .i64 d.price.n,.int .u8 d.price.field,.string d.price.name,.slice d.price.a d.price.kids.length d.price.c,.int .i64 d.price.pos,.int .u8 d.value.kind,.int .u8 d.value.oper,.int .u8 d.value.typ,.int .i64 d.value.n,.int .u8 d.value.field,.string d.value.name,.slice d.value.a d.value.kids.length d.value.c,.int .i64 d.value.pos,.int .i64 d.pos] 99 (0,0))::F5) fun e1 I2 G1=>(e1=.returned (.tuple #[])∧∃F1':Heap,List.Perm G1 ((b_d,Obj.cells #[.int .u8 d.kind,.int .u8 d.order,.string d.name,.int .u8 d.side.kind,.int .u8 d.side.oper,.int .u8 d.side.typ,.int .i64 d.side.n,.int .u8 d.side.field,.string d.side.name,.slice d.side.a d.side.kids.length d.side.c,.int .i64 d.side.pos,.int .u8 d.qty.kind,.int .u8 d.qty.oper,.int .u8 d.qty.typ,.int .i64 d.qty.n,.int .u8 d.qty.field,.string d.qty.name,.slice d.qty.a d.qty.kids.length d.qty.c,.int .i64 d.qty.pos,.int .u8 d.price.kind,.int .u8 d.price.oper,.int .u8 d.price.typ,.int .i64 d.price.n,.int .u8 d.price.field,.string d.price.name,.slice d.price.a d.price.kids.length d.price.c,.int .i64 d.price.pos,.int .u8 d.value.kind,.int .u8 d.value.oper,.int .u8 d.value.typ,.int .i64 d.value.n,.int .u8 d.value.field,.string d.value.name,.slice d.value.a d.value.kids.length d.value.c,.int .i64 d.value.pos,.int .i64 d.pos] 99 (0,0))::F1')∧(Imm.le I I2∧F1'=F5∧d.p.check =
    partE (decide (d.kind=4)) d.value.px))∨(∃ch:List PanicEntry,e1=.panicked ch∧∃F2:Heap,List.Perm G1 ((b_d,Obj.cells #[.int .u8 d.kind,.int .u8 d.order,.string d.name,.int .u8 d.side.kind,.int .u8 d.side.oper,.int .u8 d.side.typ,.int .i64 d.side.n,.int .u8 d.side.field,.string d.side.name,.slice d.side.a d.side.kids.length d.side.c,.int .i64 d.side.pos,.int .u8 d.qty.kind,.int .u8 d.qty.oper,.int .u8 d.qty.typ,.int .i64 d.qty.n,.int .u8 d.qty.field,.string d.qty.name,.slice d.qty.a d.qty.kids.length d.qty.c,.int .i64 d.qty.pos,.int .u8 d.price.kind,.int .u8 d.price.oper,.int .u8 d.price.typ,.int .i64 d.price.n,.int .u8 d.price.field,.string d.price.name,.slice d.price.a d.price.kids.length d.price.c,.int .i64 d.price.pos,.int .u8 d.value.kind,.int .u8 d.value.oper,.int .u8 d.value.typ,.int .i64 d.value.n,.int .u8 d.value.field,.string d.value.name,.slice d.value.a d.value.kids.length d.value.c,.int .i64 d.value.pos,.int .i64 d.pos] 99 (0,0))::F2)∧Errs d.p.check F5 (.panicked ch) I2 F2):=fun b hb=>by
   subst hb
   refine Errs.use (part_spec _ d.price hs3 I5 _ (ok hl5).2.2.1) (fun q6 I6 hI6=>.inl ⟨rfl,_,.refl _, ?_⟩) (fun q6 I6 hI6=>.inr ⟨_,rfl,_,.refl _, ?_⟩)
   ·rw[q6,thenE_zero] at hc5;exact⟨Imm.le_trans hl5 hI6,rfl,hc5⟩
   ·exact .fail hc5 q6
  refine⟨fun h=>⟨fun h2=>key _ ?_,fun h2=>key _ ?_⟩,fun h=>key _ ?_⟩
  all_goals simp only[beq_iff_eq,beq_eq_false_iff_ne,bne_iff_ne,bne_eq_false_iff_eq] at *
  ·simp[h,h2]
  ·rw[Bool.eq_iff_iff];simp[h,h2]
  ·rw[Bool.eq_iff_iff];simp[h]
 subst hF6
 rw[k4]
 refine Errs.use (part_spec _ d.value hs4 I6 _ (ok hl6).2.2.2) (fun q7 I7 hI7=>.inl ⟨rfl,_,.refl _, ?_⟩) (fun q7 I7 hI7=>.inr ⟨_,rfl,_,.refl _, ?_⟩)
 ·rw[q7] at hc6;exact .done hc6
 ·exact .fail1 hc6 q7
end Go.Lx
namespace Go.Lx
open Go.Vc
theorem firstE_map{α β:Type}(f:β→Int)(g:α→β){l:List α}{i:Nat}{x:α}(h:l[i]? = some x):firstE f ((l.drop i).map g)=thenE (f (g x)) (firstE f ((l.drop (i+1)).map g)):=by
 obtain⟨hk,rfl⟩:=List.getElem?_eq_some_iff.1 h
 rw[List.drop_eq_getElem_cons hk,List.map_cons,firstE]
theorem firstE_end{α β:Type}(f:β→Int)(g:α→β){l:List α}{i:Nat}(h:l.length≤i):firstE f ((l.drop i).map g)=0:=by rw[List.drop_eq_nil_of_le h];rfl
theorem SlG.atm{α:Type}{I:Imm}{G:Heap}{z:Nat}{f:α→List Value}{a:Option Addr}{n:Nat}{l:List α}(h:SlG I G z f a n l){i:Int}(h0:0≤i)(h1:i<n) :
  ∃ad x,a=some ad∧l[i.toNat]? = some x∧Rd I G (ad.add (Int.toNat i*z)) (f x)∧x∈l:=by
 obtain⟨ad,x,g1,g2,g3⟩:=h.at h0 h1
 exact⟨ad,x,g1,g2,g3,List.mem_of_getElem? g2⟩
theorem rule_spec(r:RuleN)(hs:Small r.p.nds)(I:Imm)(F:Heap)(hr:r.Ok I F)(hlen:r.dos.length≤1000000000):Tri P 106 #[r.v] I F (Errs r.p.check F):=by
 have hsw:=hs r.when.px (by simp[RuleP.nds,RuleN.p])
 have hsd:∀d∈r.dos,Small d.p.nds:=fun d hd x hx=>hs x (by
  simp only[RuleP.nds,RuleN.p,List.mem_cons,List.mem_flatMap,List.mem_map]
  exact .inr ⟨_,⟨d,hd,rfl⟩,hx⟩)
 have hc:r.p.check=thenE r.when.px.checkE (thenE (errB (decide (0<r.dos.length)) 120) (thenE (errB (decide (r.dos.length≤8)) 121) (firstE DoP.check (r.dos.map DoN.p)))):=by
  show thenE _ (thenE (errB (decide (0<(r.dos.map DoN.p).length)) 120) (thenE (errB (decide ((r.dos.map DoN.p).length≤8)) 121) _))=_
  rw[List.length_map];rfl
 refine tree_rule.vc (fun i m I' F'=>0≤i∧i≤r.dos.length∧m=(r.dos.length-i).toNat∧Imm.le I I'∧F'=F∧r.p.check=firstE DoP.check ((r.dos.drop i.toNat).map DoN.p)) ?_
 unfold tree_rule.V
 intro b_r
 refine Errs.use (expr_spec r.when hsw I _ hr.1.cons) (fun q1 I1 hI1=>.inl ⟨rfl,_,.refl _, ?_⟩) (fun q1 I1 hI1=>.inr ⟨_,rfl,_,.refl _, ?_⟩)
 ·rw[q1,thenE_zero] at hc
  have e1:decide (((r.dos.length:Nat):Int)>0)=decide (0<r.dos.length):=by rw[Bool.eq_iff_iff];simp only[decide_eq_true_eq];omega
  have e2:decide (((r.dos.length:Nat):Int)≤8)=decide (r.dos.length≤8):=by rw[Bool.eq_iff_iff];simp only[decide_eq_true_eq];omega
  rw[e1,e2]
  refine Errs.use (must_errs _ (by decide) I1 _) (fun q2 I2 hI2=>.inl ⟨rfl,_,.refl _, ?_⟩) (fun q2 I2 hI2=>.inr ⟨_,rfl,_,.refl _, ?_⟩)
  ·rw[q2,thenE_zero] at hc
   refine Errs.use (must_errs _ (by decide) I2 _) (fun q3 I3 hI3=>.inl ⟨rfl,_,.refl _, ?_⟩) (fun q3 I3 hI3=>.inr ⟨_,rfl,_,.refl _, ?_⟩)
   ·rw[q3,thenE_zero] at hc
    refine⟨⟨_,by omega,by omega,rfl,Imm.le_trans hI1 (Imm.le_trans hI2 hI3),rfl,hc⟩,fun i m I4 F4 hI4 ⟨g0,g1,gm,hl,hF,gc⟩=>⟨fun hlt=>?_,fun hlt=>?_⟩⟩
    ·have hlt:=of_decide_eq_true hlt
     subst hF
     have hr4:=(hr.mono hl fun _ h=>h).cons (x:=(b_r,Obj.cells #[.int .u8 r.when.kind,.int .u8 r.when.oper,.int .u8 r.when.typ,.int .i64 r.when.n,.int .u8 r.when.field,.string r.when.name,.slice r.when.a r.when.kids.length r.when.c,.int .i64 r.when.pos,.slice r.a r.dos.length r.c,.int .i64 r.pos] 84 (0,0)))
     obtain⟨ad,d,had,hd,hrd,hdm⟩:=SlG.atm hr4.2.1 g0 hlt
     refine⟨⟨g0,hlt⟩,ad,had,_,_,_,_,_,_,_,_,_,_,_,_,_,_,_,_,_,_,_,_,_,_,_,_,_,_,_,_,_,_,_,_,_,_,_,_,_,_,_,_,_,_,_,_,hrd,fun b_d=>?_⟩
     rw[firstE_map _ _ hd] at gc
     have hd4:d.Ok I4 ((b_r,Obj.cells #[.int .u8 r.when.kind,.int .u8 r.when.oper,.int .u8 r.when.typ,.int .i64 r.when.n,.int .u8 r.when.field,.string r.when.name,.slice r.when.a r.when.kids.length r.when.c,.int .i64 r.when.pos,.slice r.a r.dos.length r.c,.int .i64 r.pos] 84 (0,0))::(b_d,Obj.cells #[.int .u8 d.kind,.int .u8 d.order,.string d.name,.int .u8 d.side.kind,.int .u8 d.side.oper,.int .u8 d.side.typ,.int .i64 d.side.n,.int .u8 d.side.field,.string d.side.name,.slice d.side.a d.side.kids.length d.side.c,.int .i64 d.side.pos,.int .u8 d.qty.kind,.int .u8 d.qty.oper,.int .u8 d.qty.typ,.int .i64 d.qty.n,.int .u8 d.qty.field,.string d.qty.name,.slice d.qty.a d.qty.kids.length d.qty.c,.int .i64 d.qty.pos,.int .u8 d.price.kind,.int .u8 d.price.oper,.int .u8 d.price.typ,.int .i64 d.price.n,.int .u8 d.price.field,.string d.price.name,.slice d.price.a d.price.kids.length d.price.c,.int .i64 d.price.pos,.int .u8 d.value.kind,.int .u8 d.value.oper,.int .u8 d.value.typ,.int .i64 d.value.n,.int .u8 d.value.field,.string d.value.name,.slice d.value.a d.value.kids.length d.value.c,.int .i64 d.value.pos,.int .i64 d.pos] 99 (0,0))::F4):=((hr.2.2 d hdm).mono hl fun _ h=>h).cons.cons
     refine Errs.use (do_spec d (hsd d hdm) I4 _ hd4) (fun q5 I5 hI5=>.inl ⟨rfl,_,.refl _, ?_⟩) (fun q5 I5 hI5=>.inr ⟨_,rfl,_,.refl _, ?_⟩)
     ·rw[q5,thenE_zero] at gc
      refine⟨(r.dos.length-(i+1)).toNat,by omega, ?_⟩
      rw[w64 (n:=i+1) (by omega)]
      exact⟨by omega,by omega,rfl,Imm.le_trans hl hI5,rfl,by rw[gc,show (i+1).toNat=i.toNat+1 by omega]⟩
     ·exact .fail gc q5
    ·have hlt:=of_decide_eq_false hlt
     subst hF
     rw[firstE_end _ _ (by omega)] at gc
     exact .done gc
   ·exact .fail hc q3
  ·exact .fail hc q2
 ·exact .fail hc q1
structure StgN.Lens (s:StgN):Prop where
 regs:s.regs.length≤1000000000
 slots:s.slots.length≤1000000000
 states:s.states.length≤1000000000
 rules:∀x∈s.states,x.rules.length≤1000000000
 dos:∀x∈s.states,∀r∈x.rules,r.dos.length≤1000000000
theorem check1S_spec(s:StgN)(hs:Small s.p.nds)(hl:s.Lens)(I:Imm)(F:Heap)(hok:s.Ok I F){c:Addr}(hc:Rd I F c s.enc):Tri P 103 #[.pointer (some c)] I F (Errs s.p.check F):=by
 have hsr:∀r∈s.regs,r.init.px.size≤1048576:=fun r hr=>hs _ (by
  simp only[StgP.nds,StgN.p,List.mem_append,List.mem_map]
  exact .inl ⟨_,⟨r,hr,rfl⟩,rfl⟩)
 have hss:∀x∈s.states,∀r∈x.rules,Small r.p.nds:=fun x hx r hr y hy=>hs y (by
  simp only[StgP.nds,StgN.p,List.mem_append,List.mem_flatMap,List.mem_map]
  exact .inr ⟨_,⟨x,hx,rfl⟩,_,by simp only[StateN.p,List.mem_map];exact⟨r,hr,rfl⟩,hy⟩)
 have hck:s.p.check=thenE (errB (nameB s.name) 120) (thenE (errB (decide (s.regs.length≤12)) 121) (thenE (firstE RegP.check (s.regs.map RegN.p)) (thenE (errB (decide (s.slots.length≤4)) 121) (thenE (firstE SlotP.check s.slots)
   (thenE (errB (decide (0<s.states.length)) 120) (thenE (errB (decide (s.states.length≤12)) 121) (firstE StateP.check (s.states.map StateN.p)))))))):=by
  show thenE _ (thenE (errB (decide ((s.regs.map RegN.p).length≤12)) 121) (thenE _ (thenE _ (thenE _ (thenE (errB (decide (0<(s.states.map StateN.p).length)) 120) (thenE (errB (decide ((s.states.map StateN.p).length≤12)) 121) _))))))=_
  rw[List.length_map,List.length_map];rfl
 refine tree_Check_1.vc
  (fun i m _ _ I' F'=>0≤i∧i≤s.regs.length∧m=(s.regs.length-i).toNat∧Imm.le I I'∧F'=F∧s.p.check=thenE (firstE RegP.check ((s.regs.drop i.toNat).map RegN.p)) (thenE (errB (decide (s.slots.length≤4)) 121) (thenE (firstE SlotP.check s.slots)
    (thenE (errB (decide (0<s.states.length)) 120) (thenE (errB (decide (s.states.length≤12)) 121) (firstE StateP.check (s.states.map StateN.p)))))))
  (fun i m _ _ I' F'=>0≤i∧i≤s.slots.length∧m=(s.slots.length-i).toNat∧Imm.le I I'∧F'=F∧s.p.check=thenE (firstE SlotP.check ((s.slots.drop i.toNat).map id))
    (thenE (errB (decide (0<s.states.length)) 120) (thenE (errB (decide (s.states.length≤12)) 121) (firstE StateP.check (s.states.map StateN.p)))))
  (fun i m _ _ I' F'=>0≤i∧i≤s.states.length∧m=(s.states.length-i).toNat∧Imm.le I I'∧F'=F∧s.p.check=firstE StateP.check ((s.states.drop i.toNat).map StateN.p))
  (fun i j n _ _ I' F'=>Imm.le I I'∧F'=F∧0≤j∧∃x:StateN,s.states[i.toNat]? = some x∧j≤x.rules.length∧n=(x.rules.length-j).toNat∧s.p.check=thenE (firstE RuleP.check ((x.rules.drop j.toNat).map RuleN.p)) (firstE StateP.check ((s.states.drop (i.toNat+1)).map StateN.p))) ?_
 unfold tree_Check_1.V
 have rd:∀{J:Imm},Imm.le I J→∀(o:Nat) (v:Value),s.enc[o]? = some v→Rd J F (c.add o) [v]:=fun hJ o v hv=>(hc.sub hJ fun _ h=>h).field hv
 have ok:∀{J:Imm},Imm.le I J→s.Ok J F:=fun hJ=>hok.mono hJ fun _ h=>h
 have e12:∀n:Nat,decide ((n:Int)≤12)=decide (n≤12):=fun n=>by rw[Bool.eq_iff_iff];simp only[decide_eq_true_eq];omega
 have e4:∀n:Nat,decide ((n:Int)≤4)=decide (n≤4):=fun n=>by rw[Bool.eq_iff_iff];simp only[decide_eq_true_eq];omega
 have e0:∀n:Nat,decide ((n:Int)>0)=decide (0<n):=fun n=>by rw[Bool.eq_iff_iff];simp only[decide_eq_true_eq];omega
 have hlr:=hl.regs
 have hls:=hl.slots
 have hlt':=hl.states
 refine⟨s.name,rd (Imm.le_refl I) 0 _ rfl,Errs.use (named_spec s.name I _) (fun q1 I1 hI1=>.inl ⟨rfl,_,.refl _, ?_⟩) (fun q1 I1 hI1=>.inr ⟨_,rfl,_,.refl _, ?_⟩)⟩
 case refine_2=>exact .fail hck q1
 rw[q1,thenE_zero] at hck
 refine⟨_,_,_,rd hI1 1 _ rfl, ?_⟩
 rw[e12]
 refine Errs.use (must_errs _ (by decide) I1 _) (fun q2 I2 hI2=>.inl ⟨rfl,_,.refl _, ?_⟩) (fun q2 I2 hI2=>.inr ⟨_,rfl,_,.refl _, ?_⟩)
 case refine_2=>exact .fail hck q2
 rw[q2,thenE_zero] at hck
 have hl2:=Imm.le_trans hI1 hI2
 refine⟨_,_,_,rd hl2 1 _ rfl,⟨_,by omega,by omega,rfl,hl2,rfl,hck⟩, ?_⟩
 clear hck
 intro i m I3 F3 hI3 ⟨g0,g1,gm,hl3,hF3,gc⟩
 subst hF3
 refine⟨fun hlt=>?_,fun hlt=>?_⟩
 ·have hlt:=of_decide_eq_true hlt
  obtain⟨ad,r,had,hr,hrd,hrm⟩:=SlG.atm (ok hl3).regs g0 hlt
  rw[firstE_map _ _ hr,thenE_assoc] at gc
  have rc:r.p.check=errB (nameB r.name&&(decide (1≤r.typ∧r.typ≤6)&&(r.init.px.formed&&r.init.px.beginB))) 120:=rfl
  refine⟨⟨g0,hlt⟩,ad,had,_,_,_,_,_,_,_,_,_,_,_,_,_,hrd,fun b_r=>Errs.use (named_spec r.name I3 _) (fun q4 I4 hI4=>.inl ⟨rfl,_,.refl _, ?_⟩) (fun q4 I4 hI4=>.inr ⟨_,rfl,_,.refl _, ?_⟩)⟩
  ·have h4:=errB_zero (by decide) q4
   rw[h4,Bool.true_and] at rc
   have bad:(decide (1≤r.typ∧r.typ≤6))=false→s.p.check=thenE 120 (thenE (firstE RegP.check ((s.regs.drop (i.toNat+1)).map RegN.p)) (thenE (errB (decide (s.slots.length≤4)) 121) (thenE (firstE SlotP.check s.slots)
     (thenE (errB (decide (0<s.states.length)) 120) (thenE (errB (decide (s.states.length≤12)) 121) (firstE StateP.check (s.states.map StateN.p))))))):=fun h=>by
    rw[gc,rc,h];rfl
   refine⟨fun h1=>?_,fun h1=>?_⟩
   ·have h1:=of_decide_eq_true h1
    refine Errs.use (must_errs _ (by decide) I4 _) (fun q5 I5 hI5=>.inl ⟨rfl,_,.refl _, ?_⟩) (fun q5 I5 hI5=>.inr ⟨_,rfl,_,.refl _, ?_⟩)
    ·have h5:=of_decide_eq_true (errB_zero (by decide) q5)
     rw[decide_eq_true ⟨h1,h5⟩,Bool.true_and] at rc
     have hl5:=Imm.le_trans hl3 (Imm.le_trans hI4 hI5)
     refine Errs.use (begin_spec r.init (hsr r hrm) I5 _ (((ok hl5).reg r hrm:NdOk _ _ _).cons)) (fun q6 I6 hI6=>.inl ⟨rfl,_,.refl _, ?_⟩) (fun q6 I6 hI6=>.inr ⟨_,rfl,_,.refl _, ?_⟩)
     ·rw[rc,q6,thenE_zero] at gc
      refine⟨(s.regs.length-(i+1)).toNat,by omega, ?_⟩
      rw[w64 (n:=i+1) (by omega)]
      exact⟨by omega,by omega,rfl,Imm.le_trans hl5 hI6,rfl,by rw[gc,show (i+1).toNat=i.toNat+1 by omega]⟩
     ·rw[rc] at gc;exact .fail gc q6
    ·have h5:=(errB_ne q5).1
     have h6:=(errB_ne q5).2
     rw[h6] at q5 ⊢
     exact .fail (bad (decide_eq_false fun h=>by rw[decide_eq_true h.2] at h5;cases h5)) q5
   ·have h1:=of_decide_eq_false h1
    refine Errs.use (must_errs _ (by decide) I4 _) (fun q5 I5 hI5=>.inl ⟨rfl,_,.refl _, ?_⟩) (fun q5 I5 hI5=>.inr ⟨_,rfl,_,.refl _, ?_⟩)
    ·cases q5
    ·exact .fail (bad (decide_eq_false fun h=>h1 h.1)) q5
  ·have h4:=errB_ne q4
   rw[h4.2] at q4 ⊢
   rw[h4.1,Bool.false_and] at rc
   rw[rc] at gc
   exact .fail gc q4
 have hlt:=of_decide_eq_false hlt
 rw[firstE_end _ _ (by omega),thenE_zero] at gc
 refine⟨_,_,_,rd hl3 2 _ rfl, ?_⟩
 rw[e4]
 refine Errs.use (must_errs _ (by decide) I3 _) (fun q4 I4 hI4=>.inl ⟨rfl,_,.refl _, ?_⟩) (fun q4 I4 hI4=>.inr ⟨_,rfl,_,.refl _, ?_⟩)
 case refine_2=>exact .fail gc q4
 rw[q4,thenE_zero] at gc
 have hl4:=Imm.le_trans hl3 hI4
 refine⟨_,_,_,rd hl4 2 _ rfl,⟨_,by omega,by omega,rfl,hl4,rfl,by rw[gc];simp⟩, ?_⟩
 clear gc
 clear gm
 intro i m I5 F5 hI5 ⟨g0,g1,gm,hl5,hF5,gc⟩
 subst hF5
 refine⟨fun hlt=>?_,fun hlt=>?_⟩
 ·have hlt:=of_decide_eq_true hlt
  obtain⟨ad,x,had,hx,hrd,hxm⟩:=SlG.atm (ok hl5).slots g0 hlt
  rw[firstE_map _ _ hx,thenE_assoc] at gc
  refine⟨⟨g0,hlt⟩,ad,had,_,_,hrd,fun b_x=>Errs.use (named_spec x.name I5 _) (fun q6 I6 hI6=>.inl ⟨rfl,_,.refl _, ?_⟩) (fun q6 I6 hI6=>.inr ⟨_,rfl,_,.refl _, ?_⟩)⟩
  ·have e:SlotP.check (id x)=errB (nameB x.name) 120:=rfl
   rw[e,q6,thenE_zero] at gc
   refine⟨(s.slots.length-(i+1)).toNat,by omega, ?_⟩
   rw[w64 (n:=i+1) (by omega)]
   exact⟨by omega,by omega,rfl,Imm.le_trans hl5 hI6,rfl,by rw[gc,show (i+1).toNat=i.toNat+1 by omega]⟩
  ·exact .fail gc q6
 have hlt:=of_decide_eq_false hlt
 rw[firstE_end _ _ (by omega),thenE_zero] at gc
 refine⟨_,_,_,rd hl5 3 _ rfl, ?_⟩
 rw[e0]
 refine Errs.use (must_errs _ (by decide) I5 _) (fun q6 I6 hI6=>.inl ⟨rfl,_,.refl _, ?_⟩) (fun q6 I6 hI6=>.inr ⟨_,rfl,_,.refl _, ?_⟩)
 case refine_2=>exact .fail gc q6
 rw[q6,thenE_zero] at gc
 have hl6:=Imm.le_trans hl5 hI6
 refine⟨_,_,_,rd hl6 3 _ rfl, ?_⟩
 rw[e12]
 refine Errs.use (must_errs _ (by decide) I6 _) (fun q7 I7 hI7=>.inl ⟨rfl,_,.refl _, ?_⟩) (fun q7 I7 hI7=>.inr ⟨_,rfl,_,.refl _, ?_⟩)
 case refine_2=>exact .fail gc q7
 rw[q7,thenE_zero] at gc
 have hl7:=Imm.le_trans hl6 hI7
 refine⟨_,_,_,rd hl7 3 _ rfl,⟨_,by omega,by omega,rfl,hl7,rfl,gc⟩, ?_⟩
 clear gc
 clear gm
 intro i m I8 F8 hI8 ⟨g0,g1,gm,hl8,hF8,gc⟩
 subst hF8
 refine⟨fun hlt=>?_,fun hlt=>?_⟩
 ·have hlt:=of_decide_eq_true hlt
  obtain⟨ad,x,had,hx,hrd,hxm⟩:=SlG.atm (ok hl8).states g0 hlt
  have hxl:=hl.rules x hxm
  rw[firstE_map _ _ hx] at gc
  have ec:x.p.check=thenE (errB (nameB x.name) 120) (thenE (errB (decide (x.rules.length≤12)) 121) (firstE RuleP.check (x.rules.map RuleN.p))):=by
   show thenE _ (thenE (errB (decide ((x.rules.map RuleN.p).length≤12)) 121) _)=_
   rw[List.length_map];rfl
  rw[ec,thenE_assoc,thenE_assoc] at gc
  refine⟨⟨g0,hlt⟩,ad,had,_,_,_,_,_,hrd,fun b_x=>Errs.use (named_spec x.name I8 _) (fun q9 I9 hI9=>.inl ⟨rfl,_,.refl _, ?_⟩) (fun q9 I9 hI9=>.inr ⟨_,rfl,_,.refl _, ?_⟩)⟩
  case refine_2=>exact .fail gc q9
  rw[q9,thenE_zero] at gc
  rw[e12]
  refine Errs.use (must_errs _ (by decide) I9 _) (fun q10 I10 hI10=>.inl ⟨rfl,_,.refl _, ?_⟩) (fun q10 I10 hI10=>.inr ⟨_,rfl,_,.refl _, ?_⟩)
  case refine_2=>exact .fail gc q10
  rw[q10,thenE_zero] at gc
  have hl10:=Imm.le_trans hl8 (Imm.le_trans hI9 hI10)
  refine⟨⟨_,hl10,rfl,by omega,x,hx,by omega,rfl,gc⟩, ?_⟩
  clear gc
  intro j n I11 F11 hI11 ⟨hl11,hF11,j0,y,hy,j1,gn,gc⟩
  subst hF11
  rw[hx] at hy
  cases hy
  refine⟨fun hlt2=>?_,fun hlt2=>?_⟩
  ·have hlt2:=of_decide_eq_true hlt2
   have hok11:=((ok hl11).state x hxm).cons (x:=(b_x,Obj.cells #[.string x.name,.slice x.a x.rules.length x.c,.int .i64 x.pos] 65 (0,0)))
   obtain⟨ad3,r,had3,hr,hrd3,hrm⟩:=SlG.atm hok11.1 j0 hlt2
   rw[firstE_map _ _ hr,thenE_assoc] at gc
   refine⟨⟨j0,hlt2⟩,ad3,had3,_,_,_,_,_,_,_,_,_,_,_,_,_,_,hrd3,fun b_r=>Errs.use (rule_spec r (hss x hxm r hrm) I11 _ ((((ok hl11).state x hxm).2 r hrm).cons.cons) (hl.dos x hxm r hrm)) (fun q12 I12 hI12=>.inl ⟨rfl,_,.refl _, ?_⟩) (fun q12 I12 hI12=>.inr ⟨_,rfl,_,.refl _, ?_⟩)⟩
   ·rw[q12,thenE_zero] at gc
    refine⟨(x.rules.length-(j+1)).toNat,by omega, ?_⟩
    rw[w64 (n:=j+1) (by omega)]
    exact⟨Imm.le_trans hl11 hI12,rfl,by omega,x,hx,by omega,rfl,by rw[gc,show (j+1).toNat=j.toNat+1 by omega]⟩
   ·exact .fail gc q12
  ·have hlt2:=of_decide_eq_false hlt2
   rw[firstE_end _ _ (by omega),thenE_zero] at gc
   refine⟨(s.states.length-(i+1)).toNat,by omega, ?_⟩
   rw[w64 (n:=i+1) (by omega)]
   exact⟨by omega,by omega,rfl,hl11,rfl,by rw[gc,show (i+1).toNat=i.toNat+1 by omega]⟩
 ·have hlt:=of_decide_eq_false hlt
  rw[firstE_end _ _ (by omega)] at gc
  exact .done gc
end Go.Lx
namespace Go.Lx
open Go.Vc
theorem enters_ck1:Enters P 103:=hP_of [103] (by kernel_rfl) _ (by decide)
theorem Check_spec(s:StgN)(hs:Small s.p.nds)(hl:s.Lens)(I:Imm)(F:Heap)(hok:s.Ok I F):Tri P 64 #[s.v] I F (Ret (.int .i64 s.p.check) F):=by
 refine tree_Check.vc ?_
 unfold tree_Check.V
 intro b_s
 have hrd:∀{b:Nat} {I:Imm} {G:Heap},(b,Obj.cells #[.string s.name,.slice s.ra s.regs.length s.rc,.slice s.sa s.slots.length s.sc,.slice s.ta s.states.length s.tc] 39 (0,0))∈G→Rd I G (⟨b,0,none⟩:Addr) s.enc:=fun h=>Rd.of_own h 0 fun j hj=>by simp
 refine (caught_spec (n:=s.p.check) fun b=>TriV.fn enters_ck1 (by simp) (check1S_spec s hs hl I _ hok.cons.cons (hrd (List.mem_cons_of_mem _ (List.mem_cons_self ..))))).mono fun e I1 G hI1 ⟨he,hG⟩=>?_
 subst hG
 exact⟨_,he,_,_,_,_,_,_,_,_,_,_,F,.refl _,rfl,rfl⟩
theorem SlG.of_imm{α:Type}{I:Imm}{z:Nat}{f:α→List Value}(hz:∀x,(f x).length=z){b e:Nat}{fz:Nat×Nat}{l:List α}{cells:Array Value}(h:I b=some (.cells cells e fz))(hc:cells.toList=l.flatMap f)(G:Heap):SlG I G z f (some ⟨b,0,none⟩) l.length l :=
 (Sl.of_cells hz h hc).slg G
theorem SlG.nil{α:Type}{I:Imm}{G:Heap}{z:Nat}{f:α→List Value}{a:Option Addr}:SlG I G z f a 0 ([]:List α):=⟨rfl,fun h=>absurd rfl h⟩
theorem NdOk.leaf{I:Imm}{G:Heap}{k o ty n f:Int}{s:ByteArray}{a:Option Addr}{c:Nat}{q:Int}:NdOk I G (.mk k o ty n f s a c [] q):=.mk SlG.nil fun k hk=>by cases hk
end Go.Lx
