import Derived.Test.YtmbkaikdndflbaaGreatDoorCostStrategiesB3
set_option linter.unusedVariables false
set_option linter.unusedSimpArgs false
set_option linter.unusedSectionVars false
set_option maxRecDepth 100000
namespace Go.Lx
open Go.Vc Go.Proofs.Tryz
def shT_p1:List (Nat×List Sh):=[(0,[]),(3,[.one (.int .i64)]),(4,[.one .bool]),(26,[.one .slc]),(28,[.agg [(.int .u8),(.int .u8),(.int .u8),(.int .i64),(.int .u8),.str,.slc,(.int .i64)]]),(145,[.agg [(.int .u8),.str,(.int .u8),(.int .i64),(.int .i64)]]),(195,[.agg [(.int .u8),(.int .u8),(.int .u8),(.int .i64),(.int .u8),.str,.slc,(.int .i64)],.one .bool])]
def ref13_Parser_call.V(ah:Nat→Nat×Obj)(nV:Int→Int→Int→Int→Int→Bs→OA→Nat→Nat→Int→Value)(nO:Int→Int→Int→Int→Int→Bs→OA→Nat→Nat→Int→Obj)(vi:Int→Value)(vl:OA→Nat→Nat→Value)(vp:OA→Value)(wr:Int→Int)(p:Addr)(aD aE aF aG aH:Int)(aI:Bs)(aw:OA)(ax ay:Nat)(aJ ap d:Int)(I:Imm)(F:Heap)(Q:PostQ)(Inv20:Int→Int→Int→Int→Int→Int→Bs→OA→Nat→Nat→Int→Nat→Imm→Heap→Prop):Prop:=∀o:Nat,∀b:Nat,Tc1 P 87 (#[vp (some p),vi d]) I ((ah o)::(b,nO 0 0 0 0 0 (⟨#[]⟩:Bs) none 0 0 0)::·) F .bool fun r I1 F1=>(It (!r) (Q (.returned (nV 0 0 0 0 0 (⟨#[]⟩:Bs) none 0 0 0)) I1 F1) (∃ad:Addr,some p=some ad∧∃(m:Int),Rd I1 ((ah o)::(b,nO 0 0 0 0 0 (⟨#[]⟩:Bs) none 0 0 0)::F1) (ad.add 3) [vi m]∧∃y:Addr,some p=some y∧∃(cs:List Value) (el:Nat) (F2:Heap),List.Perm F1 (((y.add 3).block,Obj.cells cs.toArray el (0,0))::F2)∧(y.add 3).spot=none∧(y.add 3).off+1≤cs.length∧Tri P 89 (#[vp (some p),.string (⟨#[40]⟩:Bs)]) I1 ((ah o)::(b,nO 0 0 0 0 0 (⟨#[]⟩:Bs) none 0 0 0)::(((y.add 3).block,Obj.cells (splice (y.add 3).off [vi (wr (m+1))] cs).toArray el (0,0))::F2)) fun e2 I2 G2=>∃(r1:Int),e2=.returned (vi r1)∧∃F3:Heap,List.Perm G2 ((ah o)::(b,nO 0 0 0 0 0 (⟨#[]⟩:Bs) none 0 0 0)::F3)∧(∃m1:Nat,Inv20 0 aD aE aF aG aH aI aw ax ay aJ m1 I2 F3)∧∀(i f g h j k:Int) (l:Bs) (a:OA) (c e:Nat) (n:Int) (m2:Nat) (I3:Imm) (F4:Heap),Imm.le I2 I3→Inv20 i f g h j k l a c e n m2 I3 F4→(Dt (i<ap) (Dt (i>0) (Tc1 P 89 (#[vp (some p),.string (⟨#[44]⟩:Bs)]) I3 ((o,nO f g h j k l a c e n)::(b,nO 0 0 0 0 0 (⟨#[]⟩:Bs) none 0 0 0)::·) F4 vi fun r2 I4 F5=>Tcn P 53 (#[vp (some p),vi (wr (d+1))]) I4 ((o,nO f g h j k l a c e n)::(b,nO 0 0 0 0 0 (⟨#[]⟩:Bs) none 0 0 0)::·) F5 fun e4 I5 G4=>∃(ai aj ak al am:Int) (an:Bs) (u:OA) (w x:Nat) (ao:Int),e4=.returned (nV ai aj ak al am an u w x ao)∧G4 fun F6=>∀aC:Nat,∀(b1:Nat) (I6:Imm),Imm.le I5 I6→I6 b1=some (nO ai aj ak al am an u w x ao)→TriE P (Builtin.append_ #[26,26] 26 #[vl a c e,vl (some ⟨b1,0,none⟩) 1 1]) I6 ((o,nO f g h j k l a c e n)::(b,nO 0 0 0 0 0 (⟨#[]⟩:Bs) none 0 0 0)::(aC,nO ai aj ak al am an u w x ao)::F6) fun v I7 G5=>∃(az:OA) (aA aB:Nat),v=vl az aA aB∧∃F7:Heap,List.Perm G5 ((o,nO f g h j k l a c e n)::(b,nO 0 0 0 0 0 (⟨#[]⟩:Bs) none 0 0 0)::(aC,nO ai aj ak al am an u w x ao)::F7)∧(∃m3:Nat,m3<m2∧Inv20 (wr (i+1)) f g h j k l az aA aB n m3 I7 F7)) (Tcn P 53 (#[vp (some p),vi (wr (d+1))]) I3 ((o,nO f g h j k l a c e n)::(b,nO 0 0 0 0 0 (⟨#[]⟩:Bs) none 0 0 0)::·) F4 fun e5 I8 G6=>∃(z aa ab ac ae:Int) (af:Bs) (q:OA) (s t:Nat) (ag:Int),e5=.returned (nV z aa ab ac ae af q s t ag)∧G6 fun F8=>∀av:Nat,∀(b2:Nat) (I9:Imm),Imm.le I8 I9→I9 b2=some (nO z aa ab ac ae af q s t ag)→TriE P (Builtin.append_ #[26,26] 26 #[vl a c e,vl (some ⟨b2,0,none⟩) 1 1]) I9 ((o,nO f g h j k l a c e n)::(b,nO 0 0 0 0 0 (⟨#[]⟩:Bs) none 0 0 0)::(av,nO z aa ab ac ae af q s t ag)::F8) fun v1 I10 G7=>∃(aq:OA) (ar au:Nat),v1=vl aq ar au∧∃F9:Heap,List.Perm G7 ((o,nO f g h j k l a c e n)::(b,nO 0 0 0 0 0 (⟨#[]⟩:Bs) none 0 0 0)::(av,nO z aa ab ac ae af q s t ag)::F9)∧(∃m4:Nat,m4<m2∧Inv20 (wr (i+1)) f g h j k l aq ar au n m4 I10 F9))) (Tc1 P 89 (#[vp (some p),.string (⟨#[41]⟩:Bs)]) I3 ((o,nO f g h j k l a c e n)::(b,nO 0 0 0 0 0 (⟨#[]⟩:Bs) none 0 0 0)::·) F4 vi fun r3 I11 F10=>Q (.returned (nV f g h j k l a c e n)) I11 F10))))
theorem ref13_Parser_call.vc{p:Addr}{j r u v w:Int}{x:Bs}{e:OA}{g i:Nat}{y z d:Int}{I:Imm}{F:Heap}{Q:PostQ}(Inv20:Int→Int→Int→Int→Int→Int→Bs→OA→Nat→Nat→Int→Nat→Imm→Heap→Prop)(h:ref13_Parser_call.V (fun b=>(b,Obj.cells #[.int .u8 j,.int .u8 r,.int .u8 u,.int .i64 v,.int .u8 w,.string x,.slice e g i,.int .i64 y] 28 (0,0))) (fun k o t n f s a l c q=>.agg #[.int .u8 k,.int .u8 o,.int .u8 t,.int .i64 n,.int .u8 f,.string s,.slice a l c,.int .i64 q]) (fun k o t n f s a l c q=>.cells #[.int .u8 k,.int .u8 o,.int .u8 t,.int .i64 n,.int .u8 f,.string s,.slice a l c,.int .i64 q] 28 (0,0)) (.int .i64) .slice .pointer (IntKind.wrap .i64) p j r u v w x e g i y z d I F Q Inv20):Tri P 173 #[.pointer (some p),.agg #[.int .u8 j,.int .u8 r,.int .u8 u,.int .i64 v,.int .u8 w,.string x,.slice e g i,.int .i64 y],.int .i64 z,.int .i64 d] I F Q :=
 tw (A:=(annL [2001,7002,9001] [] [53,87,89] shT_p1 [(20,⟨[(10,(.int .i64))],[(0,[(.int .u8),(.int .u8),(.int .u8),(.int .i64),(.int .u8),.str,.slc,(.int .i64)])],fun _ _ _ vs m I F=>match vs with | [.int _ y0,.int _ y1,.int _ y2,.int _ y3,.int _ y4,.int _ y5,.string y6,.slice y7 y8 y9,.int _ y10]=>Inv20 y0 y1 y2 y3 y4 y5 y6 y7 y8 y9 y10 m I F | _=>False,[],[]⟩)] [12003] [] [] [] [] [])) [53,87,89] func173 h
def ref13_Parser_one.V(ka:Nat→Int→Bs→Int→Int→Int→Nat×Obj)(nV:Int→Int→Int→Int→Int→Bs→OA→Nat→Nat→Int→Value)(nO:Int→Int→Int→Int→Int→Bs→OA→Nat→Nat→Int→Obj)(vb vi:Int→Value)(vs:Bs→Value)(vl:OA→Nat→Nat→Value)(vp:OA→Value)(p:Addr)(d:Int)(I:Imm)(F:Heap)(Q:PostQ)  : Prop:=∀b:Nat,Tcn P 123 (#[vp (some p)]) I ((b,nO 0 0 0 0 0 (⟨#[]⟩:Bs) none 0 0 0)::·) F fun e1 I1 G1=>∃(f g h i j:Int) (k:Bs) (a:OA) (c e:Nat) (l:Int) (r1:Bool),e1=.returned (.tuple #[nV f g h i j k a c e l,.bool r1])∧G1 fun F1=>∀s:Nat,(It r1 (Q (.returned (nV f g h i j k a c e l)) I1 F1) (Tcn P 88 (#[vp (some p)]) I1 ((b,nO 0 0 0 0 0 (⟨#[]⟩:Bs) none 0 0 0)::(s,nO f g h i j k a c e l)::·) F1 fun e2 I2 G2=>∃(o:Int) (q:Bs) (t u n:Int),e2=.returned (.agg #[vb o,vs q,vb t,vi u,vi n])∧G2 fun F2=>∀v:Nat,(It (o==2) (∃ad:Addr,some p=some ad∧∃(m:Int),Rd I2 ((b,nO 0 0 0 0 0 (⟨#[]⟩:Bs) none 0 0 0)::(s,nO f g h i j k a c e l)::(ka v o q t u n)::F2) (ad.add 3) [vi m]∧∃w:Addr,some p=some w∧∃(cs:List Value) (el:Nat) (F3:Heap),List.Perm F2 (((w.add 3).block,Obj.cells cs.toArray el (0,0))::F3)∧(w.add 3).spot=none∧(w.add 3).off+1≤cs.length∧Q (.returned (nV 2 0 0 0 0 q none 0 0 n)) I2 ((((w.add 3).block,Obj.cells (splice (w.add 3).off [vi (IntKind.wrap .i64 (m+1))] cs).toArray el (0,0))::F3))) (∀(b1:Nat) (I3:Imm),Imm.le I2 I3→I3 b1=some (Obj.cells #[vs (⟨#[98,105,100]⟩:Bs),vs (⟨#[97,115,107]⟩:Bs),vs (⟨#[108,97,115,116]⟩:Bs),vs (⟨#[118,111,108,117,109,101]⟩:Bs),vs (⟨#[110,111,119]⟩:Bs),vs (⟨#[111,112,101,110]⟩:Bs)] 9 (0,0))→Tc1 P 122 (#[vp (some p),vl (some ⟨b1,0,none⟩) 6 6]) I3 ((b,nO 0 0 0 0 0 (⟨#[]⟩:Bs) none 0 0 0)::(s,nO f g h i j k a c e l)::(ka v o q t u n)::·) F2 vi fun r I4 F4=>(Dt (r≥0) (∃aR:Addr,some p=some aR∧∃(m1:Int),Rd I4 ((b,nO 0 0 0 0 0 (⟨#[]⟩:Bs) none 0 0 0)::(s,nO f g h i j k a c e l)::(ka v o q t u n)::F4) (aR.add 3) [vi m1]∧∃x:Addr,some p=some x∧∃(al:List Value) (aO:Nat) (F5:Heap),List.Perm F4 (((x.add 3).block,Obj.cells al.toArray aO (0,0))::F5)∧(x.add 3).spot=none∧(x.add 3).off+1≤al.length∧Q (.returned (.agg #[vb 3,vb 0,vb 0,vi 0,vb (IntKind.wrap .u8 (IntKind.wrap .i64 (r+1))),vs (⟨#[]⟩:Bs),vl none 0 0,vi n])) I4 ((((x.add 3).block,Obj.cells (splice (x.add 3).off [vi (IntKind.wrap .i64 (m1+1))] al).toArray aO (0,0))::F5))) (∀(b2:Nat) (I5:Imm),Imm.le I4 I5→I5 b2=some (Obj.cells #[vs (⟨#[97,98,115]⟩:Bs),vs (⟨#[109,105,110]⟩:Bs),vs (⟨#[109,97,120]⟩:Bs)] 9 (0,0))→Tc1 P 122 (#[vp (some p),vl (some ⟨b2,0,none⟩) 3 3]) I5 ((b,nO 0 0 0 0 0 (⟨#[]⟩:Bs) none 0 0 0)::(s,nO f g h i j k a c e l)::(ka v o q t u n)::·) F4 vi fun r2 I6 F6=>(Dt (r2≥0) (It (r2==0) (Tcn P 173 (#[vp (some p),.agg #[vb 8,vb (IntKind.wrap .u8 (3+(IntKind.wrap .u8 r2))),vb 0,vi 0,vb 0,vs (⟨#[]⟩:Bs),vl none 0 0,vi n],vi 1,vi d]) I6 ((b,nO 0 0 0 0 0 (⟨#[]⟩:Bs) none 0 0 0)::(s,nO f g h i j k a c e l)::(ka v o q t u n)::·) F6 fun e5 I7 G5=>∃(am an ao ap aq:Int) (aP:Bs) (ai:OA) (aj ak:Nat) (aQ:Int),e5=.returned (nV am an ao ap aq aP ai aj ak aQ)∧G5 fun F7=>Q (.returned (nV am an ao ap aq aP ai aj ak aQ)) I7 F7) (Tcn P 173 (#[vp (some p),.agg #[vb 8,vb (IntKind.wrap .u8 (3+(IntKind.wrap .u8 r2))),vb 0,vi 0,vb 0,vs (⟨#[]⟩:Bs),vl none 0 0,vi n],vi 2,vi d]) I6 ((b,nO 0 0 0 0 0 (⟨#[]⟩:Bs) none 0 0 0)::(s,nO f g h i j k a c e l)::(ka v o q t u n)::·) F6 fun e6 I8 G6=>∃(ar au av aw ax:Int) (ay:Bs) (y:OA) (z aa:Nat) (az:Int),e6=.returned (nV ar au av aw ax ay y z aa az)∧G6 fun F8=>Q (.returned (nV ar au av aw ax ay y z aa az)) I8 F8)) (∀(b3:Nat) (I9:Imm),Imm.le I6 I9→I9 b3=some (Obj.cells #[vs (⟨#[105,110,116]⟩:Bs),vs (⟨#[113,116,121]⟩:Bs),vs (⟨#[112,114,105,99,101]⟩:Bs),vs (⟨#[116,105,109,101]⟩:Bs)] 9 (0,0))→Tc1 P 122 (#[vp (some p),vl (some ⟨b3,0,none⟩) 4 4]) I9 ((b,nO 0 0 0 0 0 (⟨#[]⟩:Bs) none 0 0 0)::(s,nO f g h i j k a c e l)::(ka v o q t u n)::·) F6 vi fun r3 I10 F9=>(Dt (r3≥0) (Tcn P 173 (#[vp (some p),.agg #[vb 9,vb 0,vb (IntKind.wrap .u8 (1+(IntKind.wrap .u8 r3))),vi 0,vb 0,vs (⟨#[]⟩:Bs),vl none 0 0,vi n],vi 1,vi d]) I10 ((b,nO 0 0 0 0 0 (⟨#[]⟩:Bs) none 0 0 0)::(s,nO f g h i j k a c e l)::(ka v o q t u n)::·) F9 fun e8 I11 G8=>∃(aA aB aC aD aE:Int) (aF:Bs) (ab:OA) (ac ae:Nat) (aG:Int),e8=.returned (nV aA aB aC aD aE aF ab ac ae aG)∧G8 fun F10=>Q (.returned (nV aA aB aC aD aE aF ab ac ae aG)) I11 F10) (Tcn P 174 (#[vp (some p),vi d]) I10 ((b,nO 0 0 0 0 0 (⟨#[]⟩:Bs) none 0 0 0)::(s,nO f g h i j k a c e l)::(ka v o q t u n)::·) F9 fun e9 I12 G9=>∃(aH aI aJ aK aL:Int) (aM:Bs) (af:OA) (ag ah:Nat) (aN:Int),e9=.returned (nV aH aI aJ aK aL aM af ag ah aN)∧G9 fun F11=>Q (.returned (nV aH aI aJ aK aL aM af ag ah aN)) I12 F11))))))))))
theorem ref13_Parser_one.vc{p:Addr}{d:Int}{I:Imm}{F:Heap}{Q:PostQ}  (h:ref13_Parser_one.V (fun W a b c d e=>(W,Obj.cells #[.int .u8 a,.string b,.int .u8 c,.int .i64 d,.int .i64 e] 145 (0,0))) (fun k o t n f s a l c q=>.agg #[.int .u8 k,.int .u8 o,.int .u8 t,.int .i64 n,.int .u8 f,.string s,.slice a l c,.int .i64 q]) (fun k o t n f s a l c q=>.cells #[.int .u8 k,.int .u8 o,.int .u8 t,.int .i64 n,.int .u8 f,.string s,.slice a l c,.int .i64 q] 28 (0,0)) (.int .u8) (.int .i64) .string .slice .pointer p d I F Q):Tri P 172 #[.pointer (some p),.int .i64 d] I F Q :=
 tw (A:=(annL [2000,5002,9001,13001,15001,19001] [] [88,122,123,173,174] shT_p1 [] [8001,12001,18001] [] [] [] [] [])) [88,122,123,173,174] func172 h
def ref13_Parser_rest.V(nV:Int→Int→Int→Int→Int→Bs→OA→Nat→Nat→Int→Value)(nO:Int→Int→Int→Int→Int→Bs→OA→Nat→Nat→Int→Obj)(vb vi:Int→Value)(vs:Bs→Value)(vp:OA→Value)(wr:Int→Int)(p:Addr)(d:Int)(I:Imm)(F:Heap)(Q:PostQ)  : Prop:=∀b:Nat,Tcn P 88 (#[vp (some p)]) I ((b,nO 0 0 0 0 0 (⟨#[]⟩:Bs) none 0 0 0)::·) F fun e1 I1 G1=>∃(aa:Int) (ab:Bs) (ac ae u:Int),e1=.returned (.agg #[vb aa,vs ab,vb ac,vi ae,vi u])∧G1 fun F1=>Tc1 P 86 (#[vp (some p),vs (⟨#[104,97,115]⟩:Bs)]) I1 ((b,nO 0 0 0 0 0 (⟨#[]⟩:Bs) none 0 0 0)::·) F1 .bool fun r I2 F2=>(It r (∃ad:Addr,some p=some ad∧∃(m:Int),Rd I2 ((b,nO 0 0 0 0 0 (⟨#[]⟩:Bs) none 0 0 0)::F2) (ad.add 3) [vi m]∧∃f:Addr,some p=some f∧∃(cs:List Value) (el:Nat) (F3:Heap),List.Perm F2 (((f.add 3).block,Obj.cells cs.toArray el (0,0))::F3)∧(f.add 3).spot=none∧(f.add 3).off+1≤cs.length∧∀(b1:Nat) (I3:Imm),Imm.le I2 I3→I3 b1=some (Obj.cells #[vs (⟨#[98,105,100]⟩:Bs),vs (⟨#[97,115,107]⟩:Bs),vs (⟨#[108,97,115,116]⟩:Bs)] 9 (0,0))→Tri P 122 (#[vp (some p),.slice (some ⟨b1,0,none⟩) 3 3]) I3 ((b,nO 0 0 0 0 0 (⟨#[]⟩:Bs) none 0 0 0)::(((f.add 3).block,Obj.cells (splice (f.add 3).off [vi (wr (m+1))] cs).toArray el (0,0))::F3)) fun e3 I4 G3=>∃(r1:Int),e3=.returned (vi r1)∧∃F4:Heap,List.Perm G3 ((b,nO 0 0 0 0 0 (⟨#[]⟩:Bs) none 0 0 0)::F4)∧(Dt (r1<0) (Tcn P 90 (#[vp (some p),vi 130]) I4 ((b,nO 0 0 0 0 0 (⟨#[]⟩:Bs) none 0 0 0)::·) F4 fun e4 I5 G4=>e4=.returned (.tuple #[])∧G4 fun F5=>Q (.returned (nV 0 0 0 0 0 (⟨#[]⟩:Bs) none 0 0 0)) I5 F5) (∃x:Addr,some p=some x∧∃(m1:Int),Rd I4 ((b,nO 0 0 0 0 0 (⟨#[]⟩:Bs) none 0 0 0)::F4) (x.add 3) [vi m1]∧∃g:Addr,some p=some g∧∃(s:List Value) (v:Nat) (F6:Heap),List.Perm F4 (((g.add 3).block,Obj.cells s.toArray v (0,0))::F6)∧(g.add 3).spot=none∧(g.add 3).off+1≤s.length∧Q (.returned (.agg #[vb 4,vb 0,vb 0,vi 0,vb (IntKind.wrap .u8 (wr (r1+1))),vs (⟨#[]⟩:Bs),.slice none 0 0,vi u])) I4 ((((g.add 3).block,Obj.cells (splice (g.add 3).off [vi (wr (m1+1))] s).toArray v (0,0))::F6))))) (Tc1 P 86 (#[vp (some p),vs (⟨#[40]⟩:Bs)]) I2 ((b,nO 0 0 0 0 0 (⟨#[]⟩:Bs) none 0 0 0)::·) F2 .bool fun r2 I6 F7=>(It (!r2) (Tcn P 90 (#[vp (some p),vi 130]) I6 ((b,nO 0 0 0 0 0 (⟨#[]⟩:Bs) none 0 0 0)::·) F7 fun e6 I7 G6=>e6=.returned (.tuple #[])∧G6 fun F8=>Q (.returned (nV 0 0 0 0 0 (⟨#[]⟩:Bs) none 0 0 0)) I7 F8) (Tc1 P 87 (#[vp (some p),vi d]) I6 ((b,nO 0 0 0 0 0 (⟨#[]⟩:Bs) none 0 0 0)::·) F7 .bool fun r3 I8 F9=>(It (!r3) (Q (.returned (nV 0 0 0 0 0 (⟨#[]⟩:Bs) none 0 0 0)) I8 F9) (∃y:Addr,some p=some y∧∃(m2:Int),Rd I8 ((b,nO 0 0 0 0 0 (⟨#[]⟩:Bs) none 0 0 0)::F9) (y.add 3) [vi m2]∧∃h:Addr,some p=some h∧∃(t:List Value) (w:Nat) (F10:Heap),List.Perm F9 (((h.add 3).block,Obj.cells t.toArray w (0,0))::F10)∧(h.add 3).spot=none∧(h.add 3).off+1≤t.length∧Tri P 53 (#[vp (some p),vi (wr (d+1))]) I8 ((b,nO 0 0 0 0 0 (⟨#[]⟩:Bs) none 0 0 0)::(((h.add 3).block,Obj.cells (splice (h.add 3).off [vi (wr (m2+1))] t).toArray w (0,0))::F10)) fun e8 I9 G8=>∃(i j k l n:Int) (o:Bs) (a:OA) (c e:Nat) (q:Int),e8=.returned (nV i j k l n o a c e q)∧∃F11:Heap,List.Perm G8 ((b,nO 0 0 0 0 0 (⟨#[]⟩:Bs) none 0 0 0)::F11)∧∀z:Nat,Tc1 P 89 (#[vp (some p),vs (⟨#[41]⟩:Bs)]) I9 ((b,nO 0 0 0 0 0 (⟨#[]⟩:Bs) none 0 0 0)::(z,nO i j k l n o a c e q)::·) F11 vi fun r4 I10 F12=>Q (.returned (nV i j k l n o a c e q)) I10 F12))))))
theorem ref13_Parser_rest.vc{p:Addr}{d:Int}{I:Imm}{F:Heap}{Q:PostQ}  (h:ref13_Parser_rest.V (fun k o t n f s a l c q=>.agg #[.int .u8 k,.int .u8 o,.int .u8 t,.int .i64 n,.int .u8 f,.string s,.slice a l c,.int .i64 q]) (fun k o t n f s a l c q=>.cells #[.int .u8 k,.int .u8 o,.int .u8 t,.int .i64 n,.int .u8 f,.string s,.slice a l c,.int .i64 q] 28 (0,0)) (.int .u8) (.int .i64) .string .pointer (IntKind.wrap .i64) p d I F Q):Tri P 174 #[.pointer (some p),.int .i64 d] I F Q :=
 tw (A:=(annL [3000,6001,12001,16001] [] [53,86,87,88,89,90,122] shT_p1 [] [5001] [] [] [] [] [])) [53,86,87,88,89,90,122] func174 h
def ref13_Parser_unary.V(ka:Nat→Int→Int→Int→Int→Int→Bs→OA→Nat→Nat→Int→Nat×Obj)(nV:Int→Int→Int→Int→Int→Bs→OA→Nat→Nat→Int→Value)(nO:Int→Int→Int→Int→Int→Bs→OA→Nat→Nat→Int→Obj)(vb vi:Int→Value)(vs:Bs→Value)(vl:OA→Nat→Nat→Value)(vp:OA→Value)(p:Addr)(d:Int)(I:Imm)(F:Heap)(Q:PostQ)  : Prop:=∀b:Nat,∀(b1:Nat) (I1:Imm),Imm.le I I1→I1 b1=some (Obj.cells #[vs (⟨#[45]⟩:Bs),vs (⟨#[33]⟩:Bs)] 9 (0,0))→Tc1 P 122 (#[vp (some p),vl (some ⟨b1,0,none⟩) 2 2]) I1 ((b,nO 0 0 0 0 0 (⟨#[]⟩:Bs) none 0 0 0)::·) F vi fun r I2 F1=>(Dt (r<0) (Tcn P 172 (#[vp (some p),vi d]) I2 ((b,nO 0 0 0 0 0 (⟨#[]⟩:Bs) none 0 0 0)::·) F1 fun e2 I3 G2=>∃(w x y z aa:Int) (ab:Bs) (s:OA) (t u:Nat) (ac:Int),e2=.returned (nV w x y z aa ab s t u ac)∧G2 fun F2=>Q (.returned (nV w x y z aa ab s t u ac)) I3 F2) (Tc1 P 87 (#[vp (some p),vi d]) I2 ((b,nO 0 0 0 0 0 (⟨#[]⟩:Bs) none 0 0 0)::·) F1 .bool fun r1 I4 F3=>(It (!r1) (Q (.returned (nV 0 0 0 0 0 (⟨#[]⟩:Bs) none 0 0 0)) I4 F3) (Tcn P 88 (#[vp (some p)]) I4 ((b,nO 0 0 0 0 0 (⟨#[]⟩:Bs) none 0 0 0)::·) F3 fun e4 I5 G4=>∃(ai:Int) (aj:Bs) (ak al a:Int),e4=.returned (.agg #[vb ai,vs aj,vb ak,vi al,vi a])∧G4 fun F4=>∀q:Nat,∃ad:Addr,some p=some ad∧∃(m:Int),Rd I5 ((b,nO 0 0 0 0 0 (⟨#[]⟩:Bs) none 0 0 0)::(ka q 5 (IntKind.wrap .u8 (1+(IntKind.wrap .u8 r))) 0 0 0 (⟨#[]⟩:Bs) none 0 0 a)::F4) (ad.add 3) [vi m]∧∃g:Addr,some p=some g∧∃(cs:List Value) (el:Nat) (F5:Heap),List.Perm F4 (((g.add 3).block,Obj.cells cs.toArray el (0,0))::F5)∧(g.add 3).spot=none∧(g.add 3).off+1≤cs.length∧Tri P 170 (#[vp (some p),vi (IntKind.wrap .i64 (d+1))]) I5 ((b,nO 0 0 0 0 0 (⟨#[]⟩:Bs) none 0 0 0)::(ka q 5 (IntKind.wrap .u8 (1+(IntKind.wrap .u8 r))) 0 0 0 (⟨#[]⟩:Bs) none 0 0 a)::(((g.add 3).block,Obj.cells (splice (g.add 3).off [vi (IntKind.wrap .i64 (m+1))] cs).toArray el (0,0))::F5)) fun e5 I6 G5=>∃(h i j k l:Int) (n:Bs) (c:OA) (e f:Nat) (o:Int),e5=.returned (nV h i j k l n c e f o)∧∃F6:Heap,List.Perm G5 ((b,nO 0 0 0 0 0 (⟨#[]⟩:Bs) none 0 0 0)::(ka q 5 (IntKind.wrap .u8 (1+(IntKind.wrap .u8 r))) 0 0 0 (⟨#[]⟩:Bs) none 0 0 a)::F6)∧∀ah:Nat,∀(b2:Nat) (I7:Imm),Imm.le I6 I7→I7 b2=some (nO h i j k l n c e f o)→TriE P (Builtin.append_ #[26,26] 26 #[vl none 0 0,vl (some ⟨b2,0,none⟩) 1 1]) I7 ((b,nO 0 0 0 0 0 (⟨#[]⟩:Bs) none 0 0 0)::(ka q 5 (IntKind.wrap .u8 (1+(IntKind.wrap .u8 r))) 0 0 0 (⟨#[]⟩:Bs) none 0 0 a)::(ah,nO h i j k l n c e f o)::F6) fun v I8 G6=>∃(ae:OA) (af ag:Nat),v=vl ae af ag∧∃F7:Heap,List.Perm G6 ((b,nO 0 0 0 0 0 (⟨#[]⟩:Bs) none 0 0 0)::(ka q 5 (IntKind.wrap .u8 (1+(IntKind.wrap .u8 r))) 0 0 0 (⟨#[]⟩:Bs) none 0 0 a)::(ah,nO h i j k l n c e f o)::F7)∧Q (.returned (.agg #[vb 5,vb (IntKind.wrap .u8 (1+(IntKind.wrap .u8 r))),vb 0,vi 0,vb 0,vs (⟨#[]⟩:Bs),vl ae af ag,vi a])) I8 F7))))
theorem ref13_Parser_unary.vc{p:Addr}{d:Int}{I:Imm}{F:Heap}{Q:PostQ}  (h:ref13_Parser_unary.V (fun W a b c d e f g h i j=>(W,Obj.cells #[.int .u8 a,.int .u8 b,.int .u8 c,.int .i64 d,.int .u8 e,.string f,.slice g h i,.int .i64 j] 28 (0,0))) (fun k o t n f s a l c q=>.agg #[.int .u8 k,.int .u8 o,.int .u8 t,.int .i64 n,.int .u8 f,.string s,.slice a l c,.int .i64 q]) (fun k o t n f s a l c q=>.cells #[.int .u8 k,.int .u8 o,.int .u8 t,.int .i64 n,.int .u8 f,.string s,.slice a l c,.int .i64 q] 28 (0,0)) (.int .u8) (.int .i64) .string .slice .pointer p d I F Q):Tri P 170 #[.pointer (some p),.int .i64 d] I F Q :=
 tw (A:=(annL [2001,5001] [] [87,88,122,170,172] shT_p1 [] [1001,10003] [] [] [] [] [])) [87,88,122,170,172] func170 h
def ref13_Parser_product.V(nV:Int→Int→Int→Int→Int→Bs→OA→Nat→Nat→Int→Value)(nO:Int→Int→Int→Int→Int→Bs→OA→Nat→Nat→Int→Obj)(vi:Int→Value)(vs:Bs→Value)(vp:OA→Value)(p:Addr)(d:Int)(I:Imm)(F:Heap)(Q:PostQ)(Inv5:Int→Int→Int→Int→Int→Bs→OA→Nat→Nat→Int→Int→Int→Int→Int→Int→Bs→OA→Nat→Nat→Int→Nat→Imm→Heap→Prop):Prop:=∀b:Nat,Tcn P 170 (#[vp (some p),vi d]) I ((b,nO 0 0 0 0 0 (⟨#[]⟩:Bs) none 0 0 0)::·) F fun e1 I1 G1=>∃(aC aD aE aF aG:Int) (aH:Bs) (ap:OA) (aq ar:Nat) (aI:Int),e1=.returned (nV aC aD aE aF aG aH ap aq ar aI)∧G1 fun F1=>∀ac:Nat,(∃m:Nat,Inv5 0 0 0 0 0 (⟨#[]⟩:Bs) none 0 0 0 aC aD aE aF aG aH ap aq ar aI m I1 F1)∧∀(s t u v w:Int) (x:Bs) (n:OA) (o q:Nat) (y f g h i j:Int) (k:Bs) (a:OA) (c e:Nat) (l:Int) (m1:Nat) (I2:Imm) (F2:Heap),Imm.le I1 I2→Inv5 s t u v w x n o q y f g h i j k a c e l m1 I2 F2→∀(b1:Nat) (I3:Imm),Imm.le I2 I3→I3 b1=some (Obj.cells #[vs (⟨#[42]⟩:Bs),vs (⟨#[47]⟩:Bs),vs (⟨#[37]⟩:Bs)] 9 (0,0))→Tc1 P 122 (#[vp (some p),.slice (some ⟨b1,0,none⟩) 3 3]) I3 ((b,nO s t u v w x n o q y)::(ac,nO f g h i j k a c e l)::·) F2 vi fun r I4 F3=>(Dt (r<0) (Q (.returned (nV f g h i j k a c e l)) I4 F3) (Tcn P 88 (#[vp (some p)]) I4 ((b,nO s t u v w x n o q y)::(ac,nO f g h i j k a c e l)::·) F3 fun e3 I5 G3=>∃(aK:Int) (aL:Bs) (aM aN au:Int),e3=.returned (.agg #[.int .u8 aK,vs aL,.int .u8 aM,vi aN,vi au])∧G3 fun F4=>∃ad:Addr,some p=some ad∧∃(m2:Int),Rd I5 ((b,nO s t u v w x n o q y)::(ac,nO f g h i j k a c e l)::F4) (ad.add 3) [vi m2]∧∃ae:Addr,some p=some ae∧∃(cs:List Value) (el:Nat) (F5:Heap),List.Perm F4 (((ae.add 3).block,Obj.cells cs.toArray el (0,0))::F5)∧(ae.add 3).spot=none∧(ae.add 3).off+1≤cs.length∧Tri P 170 (#[vp (some p),vi d]) I5 ((b,nO s t u v w x n o q y)::(ac,nO f g h i j k a c e l)::(((ae.add 3).block,Obj.cells (splice (ae.add 3).off [vi (IntKind.wrap .i64 (m2+1))] cs).toArray el (0,0))::F5)) fun e4 I6 G4=>∃(af ag ah ai aj:Int) (ak:Bs) (z:OA) (aa ab:Nat) (al:Int),e4=.returned (nV af ag ah ai aj ak z aa ab al)∧∃F6:Heap,List.Perm G4 ((b,nO s t u v w x n o q y)::(ac,nO f g h i j k a c e l)::F6)∧∀aJ:Nat,Tcn P 121 (#[.int .u8 (IntKind.wrap .u8 (8+(IntKind.wrap .u8 r))),vi au,nV f g h i j k a c e l,nV af ag ah ai aj ak z aa ab al]) I6 ((b,nO s t u v w x n o q y)::(ac,nO f g h i j k a c e l)::(aJ,nO af ag ah ai aj ak z aa ab al)::·) F6 fun e5 I7 G5=>∃(av aw ax ay az:Int) (aA:Bs) (am:OA) (an ao:Nat) (aB:Int),e5=.returned (nV av aw ax ay az aA am an ao aB)∧G5 fun F7=>(∃m3:Nat,m3<m1∧Inv5 s t u v w x n o q y av aw ax ay az aA am an ao aB m3 I7 F7)))
theorem ref13_Parser_product.vc{p:Addr}{d:Int}{I:Imm}{F:Heap}{Q:PostQ}(Inv5:Int→Int→Int→Int→Int→Bs→OA→Nat→Nat→Int→Int→Int→Int→Int→Int→Bs→OA→Nat→Nat→Int→Nat→Imm→Heap→Prop)(h:ref13_Parser_product.V (fun k o t n f s a l c q=>.agg #[.int .u8 k,.int .u8 o,.int .u8 t,.int .i64 n,.int .u8 f,.string s,.slice a l c,.int .i64 q]) (fun k o t n f s a l c q=>.cells #[.int .u8 k,.int .u8 o,.int .u8 t,.int .i64 n,.int .u8 f,.string s,.slice a l c,.int .i64 q] 28 (0,0)) (.int .i64) .string .pointer p d I F Q Inv5):Tri P 165 #[.pointer (some p),.int .i64 d] I F Q :=
 tw (A:=(annL [3001] [] [88,121,122,170] shT_p1 [(5,⟨[],[(0,[(.int .u8),(.int .u8),(.int .u8),(.int .i64),(.int .u8),.str,.slc,(.int .i64)]),(1,[(.int .u8),(.int .u8),(.int .u8),(.int .i64),(.int .u8),.str,.slc,(.int .i64)])],fun _ _ _ vs m I F=>match vs with | [.int _ y0,.int _ y1,.int _ y2,.int _ y3,.int _ y4,.string y5,.slice y6 y7 y8,.int _ y9,.int _ y10,.int _ y11,.int _ y12,.int _ y13,.int _ y14,.string y15,.slice y16 y17 y18,.int _ y19]=>Inv5 y0 y1 y2 y3 y4 y5 y6 y7 y8 y9 y10 y11 y12 y13 y14 y15 y16 y17 y18 y19 m I F | _=>False,[],[]⟩)] [2001] [] [] [] [] [])) [88,121,122,170] func165 h
def ref13_Parser_sum.V(nV:Int→Int→Int→Int→Int→Bs→OA→Nat→Nat→Int→Value)(nO:Int→Int→Int→Int→Int→Bs→OA→Nat→Nat→Int→Obj)(vi:Int→Value)(vp:OA→Value)(p:Addr)(d:Int)(I:Imm)(F:Heap)(Q:PostQ)(Inv5:Int→Int→Int→Int→Int→Bs→OA→Nat→Nat→Int→Int→Int→Int→Int→Int→Bs→OA→Nat→Nat→Int→Nat→Imm→Heap→Prop):Prop:=∀b:Nat,Tcn P 165 (#[vp (some p),vi d]) I ((b,nO 0 0 0 0 0 (⟨#[]⟩:Bs) none 0 0 0)::·) F fun e1 I1 G1=>∃(aC aD aE aF aG:Int) (aH:Bs) (ap:OA) (aq ar:Nat) (aI:Int),e1=.returned (nV aC aD aE aF aG aH ap aq ar aI)∧G1 fun F1=>∀ac:Nat,(∃m:Nat,Inv5 0 0 0 0 0 (⟨#[]⟩:Bs) none 0 0 0 aC aD aE aF aG aH ap aq ar aI m I1 F1)∧∀(s t u v w:Int) (x:Bs) (n:OA) (o q:Nat) (y f g h i j:Int) (k:Bs) (a:OA) (c e:Nat) (l:Int) (m1:Nat) (I2:Imm) (F2:Heap),Imm.le I1 I2→Inv5 s t u v w x n o q y f g h i j k a c e l m1 I2 F2→∀(b1:Nat) (I3:Imm),Imm.le I2 I3→I3 b1=some (Obj.cells #[.string (⟨#[43]⟩:Bs),.string (⟨#[45]⟩:Bs)] 9 (0,0))→Tc1 P 122 (#[vp (some p),.slice (some ⟨b1,0,none⟩) 2 2]) I3 ((b,nO s t u v w x n o q y)::(ac,nO f g h i j k a c e l)::·) F2 vi fun r I4 F3=>(Dt (r<0) (Q (.returned (nV f g h i j k a c e l)) I4 F3) (Tcn P 88 (#[vp (some p)]) I4 ((b,nO s t u v w x n o q y)::(ac,nO f g h i j k a c e l)::·) F3 fun e3 I5 G3=>∃(aK:Int) (aL:Bs) (aM aN au:Int),e3=.returned (.agg #[.int .u8 aK,.string aL,.int .u8 aM,vi aN,vi au])∧G3 fun F4=>∃ad:Addr,some p=some ad∧∃(m2:Int),Rd I5 ((b,nO s t u v w x n o q y)::(ac,nO f g h i j k a c e l)::F4) (ad.add 3) [vi m2]∧∃ae:Addr,some p=some ae∧∃(cs:List Value) (el:Nat) (F5:Heap),List.Perm F4 (((ae.add 3).block,Obj.cells cs.toArray el (0,0))::F5)∧(ae.add 3).spot=none∧(ae.add 3).off+1≤cs.length∧Tri P 165 (#[vp (some p),vi d]) I5 ((b,nO s t u v w x n o q y)::(ac,nO f g h i j k a c e l)::(((ae.add 3).block,Obj.cells (splice (ae.add 3).off [vi (IntKind.wrap .i64 (m2+1))] cs).toArray el (0,0))::F5)) fun e4 I6 G4=>∃(af ag ah ai aj:Int) (ak:Bs) (z:OA) (aa ab:Nat) (al:Int),e4=.returned (nV af ag ah ai aj ak z aa ab al)∧∃F6:Heap,List.Perm G4 ((b,nO s t u v w x n o q y)::(ac,nO f g h i j k a c e l)::F6)∧∀aJ:Nat,Tcn P 121 (#[.int .u8 (IntKind.wrap .u8 (6+(IntKind.wrap .u8 r))),vi au,nV f g h i j k a c e l,nV af ag ah ai aj ak z aa ab al]) I6 ((b,nO s t u v w x n o q y)::(ac,nO f g h i j k a c e l)::(aJ,nO af ag ah ai aj ak z aa ab al)::·) F6 fun e5 I7 G5=>∃(av aw ax ay az:Int) (aA:Bs) (am:OA) (an ao:Nat) (aB:Int),e5=.returned (nV av aw ax ay az aA am an ao aB)∧G5 fun F7=>(∃m3:Nat,m3<m1∧Inv5 s t u v w x n o q y av aw ax ay az aA am an ao aB m3 I7 F7)))
theorem ref13_Parser_sum.vc{p:Addr}{d:Int}{I:Imm}{F:Heap}{Q:PostQ}(Inv5:Int→Int→Int→Int→Int→Bs→OA→Nat→Nat→Int→Int→Int→Int→Int→Int→Bs→OA→Nat→Nat→Int→Nat→Imm→Heap→Prop)(h:ref13_Parser_sum.V (fun k o t n f s a l c q=>.agg #[.int .u8 k,.int .u8 o,.int .u8 t,.int .i64 n,.int .u8 f,.string s,.slice a l c,.int .i64 q]) (fun k o t n f s a l c q=>.cells #[.int .u8 k,.int .u8 o,.int .u8 t,.int .i64 n,.int .u8 f,.string s,.slice a l c,.int .i64 q] 28 (0,0)) (.int .i64) .pointer p d I F Q Inv5):Tri P 157 #[.pointer (some p),.int .i64 d] I F Q :=
 tw (A:=(annL [3001] [] [88,121,122,165] shT_p1 [(5,⟨[],[(0,[(.int .u8),(.int .u8),(.int .u8),(.int .i64),(.int .u8),.str,.slc,(.int .i64)]),(1,[(.int .u8),(.int .u8),(.int .u8),(.int .i64),(.int .u8),.str,.slc,(.int .i64)])],fun _ _ _ vs m I F=>match vs with | [.int _ y0,.int _ y1,.int _ y2,.int _ y3,.int _ y4,.string y5,.slice y6 y7 y8,.int _ y9,.int _ y10,.int _ y11,.int _ y12,.int _ y13,.int _ y14,.string y15,.slice y16 y17 y18,.int _ y19]=>Inv5 y0 y1 y2 y3 y4 y5 y6 y7 y8 y9 y10 y11 y12 y13 y14 y15 y16 y17 y18 y19 m I F | _=>False,[],[]⟩)] [2001] [] [] [] [] [])) [88,121,122,165] func157 h
def ref13_Parser_compare.V(nV:Int→Int→Int→Int→Int→Bs→OA→Nat→Nat→Int→Value)(nO:Int→Int→Int→Int→Int→Bs→OA→Nat→Nat→Int→Obj)(vi:Int→Value)(vs:Bs→Value)(vp:OA→Value)(p:Addr)(d:Int)(I:Imm)(F:Heap)(Q:PostQ)  : Prop:=∀b:Nat,Tcn P 157 (#[vp (some p),vi d]) I ((b,nO 0 0 0 0 0 (⟨#[]⟩:Bs) none 0 0 0)::·) F fun e1 I1 G1=>∃(f g h i j:Int) (k:Bs) (a:OA) (c e:Nat) (l:Int),e1=.returned (nV f g h i j k a c e l)∧G1 fun F1=>∀s:Nat,∀(b1:Nat) (I2:Imm),Imm.le I1 I2→I2 b1=some (Obj.cells #[vs (⟨#[61,61]⟩:Bs),vs (⟨#[33,61]⟩:Bs),vs (⟨#[60]⟩:Bs),vs (⟨#[60,61]⟩:Bs),vs (⟨#[62]⟩:Bs),vs (⟨#[62,61]⟩:Bs)] 9 (0,0))→Tc1 P 122 (#[vp (some p),.slice (some ⟨b1,0,none⟩) 6 6]) I2 ((b,nO 0 0 0 0 0 (⟨#[]⟩:Bs) none 0 0 0)::(s,nO f g h i j k a c e l)::·) F1 vi fun r I3 F2=>(Dt (r<0) (Q (.returned (nV f g h i j k a c e l)) I3 F2) (Tcn P 88 (#[vp (some p)]) I3 ((b,nO 0 0 0 0 0 (⟨#[]⟩:Bs) none 0 0 0)::(s,nO f g h i j k a c e l)::·) F2 fun e3 I4 G3=>∃(ao:Int) (ap:Bs) (aq ar af:Int),e3=.returned (.agg #[.int .u8 ao,vs ap,.int .u8 aq,vi ar,vi af])∧G3 fun F3=>∃ad:Addr,some p=some ad∧∃(m:Int),Rd I4 ((b,nO 0 0 0 0 0 (⟨#[]⟩:Bs) none 0 0 0)::(s,nO f g h i j k a c e l)::F3) (ad.add 3) [vi m]∧∃t:Addr,some p=some t∧∃(cs:List Value) (el:Nat) (F4:Heap),List.Perm F3 (((t.add 3).block,Obj.cells cs.toArray el (0,0))::F4)∧(t.add 3).spot=none∧(t.add 3).off+1≤cs.length∧Tri P 157 (#[vp (some p),vi d]) I4 ((b,nO 0 0 0 0 0 (⟨#[]⟩:Bs) none 0 0 0)::(s,nO f g h i j k a c e l)::(((t.add 3).block,Obj.cells (splice (t.add 3).off [vi (IntKind.wrap .i64 (m+1))] cs).toArray el (0,0))::F4)) fun e4 I5 G4=>∃(u v w x y:Int) (z:Bs) (n:OA) (o q:Nat) (aa:Int),e4=.returned (nV u v w x y z n o q aa)∧∃F5:Heap,List.Perm G4 ((b,nO 0 0 0 0 0 (⟨#[]⟩:Bs) none 0 0 0)::(s,nO f g h i j k a c e l)::F5)∧∀an:Nat,Tcn P 121 (#[.int .u8 (IntKind.wrap .u8 (11+(IntKind.wrap .u8 r))),vi af,nV f g h i j k a c e l,nV u v w x y z n o q aa]) I5 ((b,nO 0 0 0 0 0 (⟨#[]⟩:Bs) none 0 0 0)::(s,nO f g h i j k a c e l)::(an,nO u v w x y z n o q aa)::·) F5 fun e5 I6 G5=>∃(ag ah ai aj ak:Int) (al:Bs) (ab:OA) (ac ae:Nat) (am:Int),e5=.returned (nV ag ah ai aj ak al ab ac ae am)∧G5 fun F6=>Q (.returned (nV ag ah ai aj ak al ab ac ae am)) I6 F6))
theorem ref13_Parser_compare.vc{p:Addr}{d:Int}{I:Imm}{F:Heap}{Q:PostQ}  (h:ref13_Parser_compare.V (fun k o t n f s a l c q=>.agg #[.int .u8 k,.int .u8 o,.int .u8 t,.int .i64 n,.int .u8 f,.string s,.slice a l c,.int .i64 q]) (fun k o t n f s a l c q=>.cells #[.int .u8 k,.int .u8 o,.int .u8 t,.int .i64 n,.int .u8 f,.string s,.slice a l c,.int .i64 q] 28 (0,0)) (.int .i64) .string .pointer p d I F Q):Tri P 145 #[.pointer (some p),.int .i64 d] I F Q :=
 tw (A:=(annL [3001] [] [88,121,122,157] shT_p1 [] [2001] [] [] [] [] [])) [88,121,122,157] func145 h
def ref13_Parser_and.V(nV:Int→Int→Int→Int→Int→Bs→OA→Nat→Nat→Int→Value)(nO:Int→Int→Int→Int→Int→Bs→OA→Nat→Nat→Int→Obj)(vi:Int→Value)(vp:OA→Value)(p:Addr)(d:Int)(I:Imm)(F:Heap)(Q:PostQ)(Inv5:Int→Int→Int→Int→Int→Bs→OA→Nat→Nat→Int→Int→Int→Int→Int→Int→Bs→OA→Nat→Nat→Int→Nat→Imm→Heap→Prop):Prop:=∀b:Nat,Tcn P 145 (#[vp (some p),vi d]) I ((b,nO 0 0 0 0 0 (⟨#[]⟩:Bs) none 0 0 0)::·) F fun e1 I1 G1=>∃(aC aD aE aF aG:Int) (aH:Bs) (ap:OA) (aq ar:Nat) (aI:Int),e1=.returned (nV aC aD aE aF aG aH ap aq ar aI)∧G1 fun F1=>∀ac:Nat,(∃m:Nat,Inv5 0 0 0 0 0 (⟨#[]⟩:Bs) none 0 0 0 aC aD aE aF aG aH ap aq ar aI m I1 F1)∧∀(s t u v w:Int) (x:Bs) (n:OA) (o q:Nat) (y f g h i j:Int) (k:Bs) (a:OA) (c e:Nat) (l:Int) (m1:Nat) (I2:Imm) (F2:Heap),Imm.le I1 I2→Inv5 s t u v w x n o q y f g h i j k a c e l m1 I2 F2→Tc1 P 86 (#[vp (some p),.string (⟨#[38,38]⟩:Bs)]) I2 ((b,nO s t u v w x n o q y)::(ac,nO f g h i j k a c e l)::·) F2 .bool fun r I3 F3=>(It (!r) (Q (.returned (nV f g h i j k a c e l)) I3 F3) (Tcn P 88 (#[vp (some p)]) I3 ((b,nO s t u v w x n o q y)::(ac,nO f g h i j k a c e l)::·) F3 fun e3 I4 G3=>∃(aK:Int) (aL:Bs) (aM aN au:Int),e3=.returned (.agg #[.int .u8 aK,.string aL,.int .u8 aM,vi aN,vi au])∧G3 fun F4=>∃ad:Addr,some p=some ad∧∃(m2:Int),Rd I4 ((b,nO s t u v w x n o q y)::(ac,nO f g h i j k a c e l)::F4) (ad.add 3) [vi m2]∧∃ae:Addr,some p=some ae∧∃(cs:List Value) (el:Nat) (F5:Heap),List.Perm F4 (((ae.add 3).block,Obj.cells cs.toArray el (0,0))::F5)∧(ae.add 3).spot=none∧(ae.add 3).off+1≤cs.length∧Tri P 145 (#[vp (some p),vi d]) I4 ((b,nO s t u v w x n o q y)::(ac,nO f g h i j k a c e l)::(((ae.add 3).block,Obj.cells (splice (ae.add 3).off [vi (IntKind.wrap .i64 (m2+1))] cs).toArray el (0,0))::F5)) fun e4 I5 G4=>∃(af ag ah ai aj:Int) (ak:Bs) (z:OA) (aa ab:Nat) (al:Int),e4=.returned (nV af ag ah ai aj ak z aa ab al)∧∃F6:Heap,List.Perm G4 ((b,nO s t u v w x n o q y)::(ac,nO f g h i j k a c e l)::F6)∧∀aJ:Nat,Tcn P 121 #[.int .u8 17,vi au,nV f g h i j k a c e l,nV af ag ah ai aj ak z aa ab al] I5 ((b,nO s t u v w x n o q y)::(ac,nO f g h i j k a c e l)::(aJ,nO af ag ah ai aj ak z aa ab al)::·) F6 fun e5 I6 G5=>∃(av aw ax ay az:Int) (aA:Bs) (am:OA) (an ao:Nat) (aB:Int),e5=.returned (nV av aw ax ay az aA am an ao aB)∧G5 fun F7=>(∃m3:Nat,m3<m1∧Inv5 s t u v w x n o q y av aw ax ay az aA am an ao aB m3 I6 F7)))
theorem ref13_Parser_and.vc{p:Addr}{d:Int}{I:Imm}{F:Heap}{Q:PostQ}(Inv5:Int→Int→Int→Int→Int→Bs→OA→Nat→Nat→Int→Int→Int→Int→Int→Int→Bs→OA→Nat→Nat→Int→Nat→Imm→Heap→Prop)(h:ref13_Parser_and.V (fun k o t n f s a l c q=>.agg #[.int .u8 k,.int .u8 o,.int .u8 t,.int .i64 n,.int .u8 f,.string s,.slice a l c,.int .i64 q]) (fun k o t n f s a l c q=>.cells #[.int .u8 k,.int .u8 o,.int .u8 t,.int .i64 n,.int .u8 f,.string s,.slice a l c,.int .i64 q] 28 (0,0)) (.int .i64) .pointer p d I F Q Inv5):Tri P 120 #[.pointer (some p),.int .i64 d] I F Q :=
 tw (A:=(annL [3001] [] [86,88,121,145] shT_p1 [(5,⟨[],[(0,[(.int .u8),(.int .u8),(.int .u8),(.int .i64),(.int .u8),.str,.slc,(.int .i64)]),(1,[(.int .u8),(.int .u8),(.int .u8),(.int .i64),(.int .u8),.str,.slc,(.int .i64)])],fun _ _ _ vs m I F=>match vs with | [.int _ y0,.int _ y1,.int _ y2,.int _ y3,.int _ y4,.string y5,.slice y6 y7 y8,.int _ y9,.int _ y10,.int _ y11,.int _ y12,.int _ y13,.int _ y14,.string y15,.slice y16 y17 y18,.int _ y19]=>Inv5 y0 y1 y2 y3 y4 y5 y6 y7 y8 y9 y10 y11 y12 y13 y14 y15 y16 y17 y18 y19 m I F | _=>False,[],[]⟩)] [] [] [] [] [] [])) [86,88,121,145] func120 h
def ref13_Parser_or.V(nV:Int→Int→Int→Int→Int→Bs→OA→Nat→Nat→Int→Value)(nO:Int→Int→Int→Int→Int→Bs→OA→Nat→Nat→Int→Obj)(vi:Int→Value)(vp:OA→Value)(p:Addr)(d:Int)(I:Imm)(F:Heap)(Q:PostQ)(Inv5:Int→Int→Int→Int→Int→Bs→OA→Nat→Nat→Int→Int→Int→Int→Int→Int→Bs→OA→Nat→Nat→Int→Nat→Imm→Heap→Prop):Prop:=∀b:Nat,Tcn P 120 (#[vp (some p),vi d]) I ((b,nO 0 0 0 0 0 (⟨#[]⟩:Bs) none 0 0 0)::·) F fun e1 I1 G1=>∃(aC aD aE aF aG:Int) (aH:Bs) (ap:OA) (aq ar:Nat) (aI:Int),e1=.returned (nV aC aD aE aF aG aH ap aq ar aI)∧G1 fun F1=>∀ac:Nat,(∃m:Nat,Inv5 0 0 0 0 0 (⟨#[]⟩:Bs) none 0 0 0 aC aD aE aF aG aH ap aq ar aI m I1 F1)∧∀(s t u v w:Int) (x:Bs) (n:OA) (o q:Nat) (y f g h i j:Int) (k:Bs) (a:OA) (c e:Nat) (l:Int) (m1:Nat) (I2:Imm) (F2:Heap),Imm.le I1 I2→Inv5 s t u v w x n o q y f g h i j k a c e l m1 I2 F2→Tc1 P 86 (#[vp (some p),.string (⟨#[124,124]⟩:Bs)]) I2 ((b,nO s t u v w x n o q y)::(ac,nO f g h i j k a c e l)::·) F2 .bool fun r I3 F3=>(It (!r) (Q (.returned (nV f g h i j k a c e l)) I3 F3) (Tcn P 88 (#[vp (some p)]) I3 ((b,nO s t u v w x n o q y)::(ac,nO f g h i j k a c e l)::·) F3 fun e3 I4 G3=>∃(aK:Int) (aL:Bs) (aM aN au:Int),e3=.returned (.agg #[.int .u8 aK,.string aL,.int .u8 aM,vi aN,vi au])∧G3 fun F4=>∃ad:Addr,some p=some ad∧∃(m2:Int),Rd I4 ((b,nO s t u v w x n o q y)::(ac,nO f g h i j k a c e l)::F4) (ad.add 3) [vi m2]∧∃ae:Addr,some p=some ae∧∃(cs:List Value) (el:Nat) (F5:Heap),List.Perm F4 (((ae.add 3).block,Obj.cells cs.toArray el (0,0))::F5)∧(ae.add 3).spot=none∧(ae.add 3).off+1≤cs.length∧Tri P 120 (#[vp (some p),vi d]) I4 ((b,nO s t u v w x n o q y)::(ac,nO f g h i j k a c e l)::(((ae.add 3).block,Obj.cells (splice (ae.add 3).off [vi (IntKind.wrap .i64 (m2+1))] cs).toArray el (0,0))::F5)) fun e4 I5 G4=>∃(af ag ah ai aj:Int) (ak:Bs) (z:OA) (aa ab:Nat) (al:Int),e4=.returned (nV af ag ah ai aj ak z aa ab al)∧∃F6:Heap,List.Perm G4 ((b,nO s t u v w x n o q y)::(ac,nO f g h i j k a c e l)::F6)∧∀aJ:Nat,Tcn P 121 #[.int .u8 18,vi au,nV f g h i j k a c e l,nV af ag ah ai aj ak z aa ab al] I5 ((b,nO s t u v w x n o q y)::(ac,nO f g h i j k a c e l)::(aJ,nO af ag ah ai aj ak z aa ab al)::·) F6 fun e5 I6 G5=>∃(av aw ax ay az:Int) (aA:Bs) (am:OA) (an ao:Nat) (aB:Int),e5=.returned (nV av aw ax ay az aA am an ao aB)∧G5 fun F7=>(∃m3:Nat,m3<m1∧Inv5 s t u v w x n o q y av aw ax ay az aA am an ao aB m3 I6 F7)))
theorem ref13_Parser_or.vc{p:Addr}{d:Int}{I:Imm}{F:Heap}{Q:PostQ}(Inv5:Int→Int→Int→Int→Int→Bs→OA→Nat→Nat→Int→Int→Int→Int→Int→Int→Bs→OA→Nat→Nat→Int→Nat→Imm→Heap→Prop)(h:ref13_Parser_or.V (fun k o t n f s a l c q=>.agg #[.int .u8 k,.int .u8 o,.int .u8 t,.int .i64 n,.int .u8 f,.string s,.slice a l c,.int .i64 q]) (fun k o t n f s a l c q=>.cells #[.int .u8 k,.int .u8 o,.int .u8 t,.int .i64 n,.int .u8 f,.string s,.slice a l c,.int .i64 q] 28 (0,0)) (.int .i64) .pointer p d I F Q Inv5):Tri P 85 #[.pointer (some p),.int .i64 d] I F Q :=
 tw (A:=(annL [3001] [] [86,88,120,121] shT_p1 [(5,⟨[],[(0,[(.int .u8),(.int .u8),(.int .u8),(.int .i64),(.int .u8),.str,.slc,(.int .i64)]),(1,[(.int .u8),(.int .u8),(.int .u8),(.int .i64),(.int .u8),.str,.slc,(.int .i64)])],fun _ _ _ vs m I F=>match vs with | [.int _ y0,.int _ y1,.int _ y2,.int _ y3,.int _ y4,.string y5,.slice y6 y7 y8,.int _ y9,.int _ y10,.int _ y11,.int _ y12,.int _ y13,.int _ y14,.string y15,.slice y16 y17 y18,.int _ y19]=>Inv5 y0 y1 y2 y3 y4 y5 y6 y7 y8 y9 y10 y11 y12 y13 y14 y15 y16 y17 y18 y19 m I F | _=>False,[],[]⟩)] [] [] [] [] [] [])) [86,88,120,121] func85 h
def ref13_Parser_expr.V(nV:Int→Int→Int→Int→Int→Bs→OA→Nat→Nat→Int→Value)(nO:Int→Int→Int→Int→Int→Bs→OA→Nat→Nat→Int→Obj)(vb vi:Int→Value)(vs:Bs→Value)(vp:OA→Value)(p:Addr)(d:Int)(I:Imm)(F:Heap)(Q:PostQ)  : Prop:=∀b:Nat,Tcn P 85 (#[vp (some p),vi d]) I ((b,nO 0 0 0 0 0 (⟨#[]⟩:Bs) none 0 0 0)::·) F fun e1 I1 G1=>∃(f g h i j:Int) (k:Bs) (a:OA) (c e:Nat) (l:Int),e1=.returned (nV f g h i j k a c e l)∧G1 fun F1=>∀s:Nat,Tc1 P 86 (#[vp (some p),vs (⟨#[63]⟩:Bs)]) I1 ((b,nO 0 0 0 0 0 (⟨#[]⟩:Bs) none 0 0 0)::(s,nO f g h i j k a c e l)::·) F1 .bool fun r I2 F2=>(It (!r) (Q (.returned (nV f g h i j k a c e l)) I2 F2) (Tc1 P 87 (#[vp (some p),vi d]) I2 ((b,nO 0 0 0 0 0 (⟨#[]⟩:Bs) none 0 0 0)::(s,nO f g h i j k a c e l)::·) F2 .bool fun r1 I3 F3=>(It (!r1) (Q (.returned (nV 0 0 0 0 0 (⟨#[]⟩:Bs) none 0 0 0)) I3 F3) (Tcn P 88 (#[vp (some p)]) I3 ((b,nO 0 0 0 0 0 (⟨#[]⟩:Bs) none 0 0 0)::(s,nO f g h i j k a c e l)::·) F3 fun e4 I4 G4=>∃(ao:Int) (ap:Bs) (aq ar ag:Int),e4=.returned (.agg #[vb ao,vs ap,vb aq,vi ar,vi ag])∧G4 fun F4=>∃ad:Addr,some p=some ad∧∃(m:Int),Rd I4 ((b,nO 0 0 0 0 0 (⟨#[]⟩:Bs) none 0 0 0)::(s,nO f g h i j k a c e l)::F4) (ad.add 3) [vi m]∧∃aa:Addr,some p=some aa∧∃(cs:List Value) (el:Nat) (F5:Heap),List.Perm F4 (((aa.add 3).block,Obj.cells cs.toArray el (0,0))::F5)∧(aa.add 3).spot=none∧(aa.add 3).off+1≤cs.length∧Tri P 53 (#[vp (some p),vi (IntKind.wrap .i64 (d+1))]) I4 ((b,nO 0 0 0 0 0 (⟨#[]⟩:Bs) none 0 0 0)::(s,nO f g h i j k a c e l)::(((aa.add 3).block,Obj.cells (splice (aa.add 3).off [vi (IntKind.wrap .i64 (m+1))] cs).toArray el (0,0))::F5)) fun e5 I5 G5=>∃(t u v w x:Int) (y:Bs) (n:OA) (o q:Nat) (z:Int),e5=.returned (nV t u v w x y n o q z)∧∃F6:Heap,List.Perm G5 ((b,nO 0 0 0 0 0 (⟨#[]⟩:Bs) none 0 0 0)::(s,nO f g h i j k a c e l)::F6)∧∀af:Nat,Tc1 P 89 (#[vp (some p),vs (⟨#[58]⟩:Bs)]) I5 ((b,nO 0 0 0 0 0 (⟨#[]⟩:Bs) none 0 0 0)::(s,nO f g h i j k a c e l)::(af,nO t u v w x y n o q z)::·) F6 vi fun r2 I6 F7=>Tcn P 53 (#[vp (some p),vi (IntKind.wrap .i64 (d+1))]) I6 ((b,nO 0 0 0 0 0 (⟨#[]⟩:Bs) none 0 0 0)::(s,nO f g h i j k a c e l)::(af,nO t u v w x y n o q z)::·) F7 fun e7 I7 G7=>∃(ah ai aj ak al:Int) (am:Bs) (ab:OA) (ac ae:Nat) (an:Int),e7=.returned (nV ah ai aj ak al am ab ac ae an)∧G7 fun F8=>∀au:Nat,∀(b1:Nat) (I8:Imm),Imm.le I7 I8→I8 b1=some (Obj.cells #[vb f,vb g,vb h,vi i,vb j,vs k,.slice a c e,vi l,vb t,vb u,vb v,vi w,vb x,vs y,.slice n o q,vi z,vb ah,vb ai,vb aj,vi ak,vb al,vs am,.slice ab ac ae,vi an] 28 (0,0))→Q (.returned (nV 7 0 0 0 0 (⟨#[]⟩:Bs) (some ⟨b1,0,none⟩) 3 3 ag)) I8 F8))))
theorem ref13_Parser_expr.vc{p:Addr}{d:Int}{I:Imm}{F:Heap}{Q:PostQ}  (h:ref13_Parser_expr.V (fun k o t n f s a l c q=>.agg #[.int .u8 k,.int .u8 o,.int .u8 t,.int .i64 n,.int .u8 f,.string s,.slice a l c,.int .i64 q]) (fun k o t n f s a l c q=>.cells #[.int .u8 k,.int .u8 o,.int .u8 t,.int .i64 n,.int .u8 f,.string s,.slice a l c,.int .i64 q] 28 (0,0)) (.int .u8) (.int .i64) .string .pointer p d I F Q):Tri P 53 #[.pointer (some p),.int .i64 d] I F Q :=
 tw (A:=(annL [3001,6001] [] [53,85,86,87,88,89] shT_p1 [] [13003] [] [] [] [] [])) [53,85,86,87,88,89] func53 h
def ref13_two.V(vb vi:Int→Value)(o h i j k l m:Int)(n:Bs)(a:OA)(c d:Nat)(p q r s t u:Int)(v:Bs)(e:OA)(f g:Nat)(w:Int)(I:Imm)(F:Heap)(Q:PostQ)  : Prop:=∀x:Nat,∀y:Nat,∀b:Nat,∀(b1:Nat) (I1:Imm),Imm.le I I1→I1 b1=some (Obj.cells #[vb i,vb j,vb k,vi l,vb m,.string n,.slice a c d,vi p,vb q,vb r,vb s,vi t,vb u,.string v,.slice e f g,vi w] 28 (0,0))→Q (.returned (.agg #[vb 6,vb o,vb 0,vi 0,vb 0,.string (⟨#[]⟩:Bs),.slice (some ⟨b1,0,none⟩) 2 2,vi h])) I1 (F)
theorem ref13_two.vc{o g i j k l m:Int}{n:Bs}{a:OA}{b c:Nat}{p q r s t u:Int}{v:Bs}{d:OA}{e f:Nat}{w:Int}{I:Imm}{F:Heap}{Q:PostQ}  (h:ref13_two.V (.int .u8) (.int .i64) o g i j k l m n a b c p q r s t u v d e f w I F Q):Tri P 121 #[.int .u8 o,.int .i64 g,.agg #[.int .u8 i,.int .u8 j,.int .u8 k,.int .i64 l,.int .u8 m,.string n,.slice a b c,.int .i64 p],.agg #[.int .u8 q,.int .u8 r,.int .u8 s,.int .i64 t,.int .u8 u,.string v,.slice d e f,.int .i64 w]] I F Q :=
 tw (A:=(annL [] [] [] shT_p1 [] [1003] [] [] [] [] [])) [] func121 h
end Go.Lx
namespace Go.Lx
open Go.Vc
section
variable {c:PC} {s:PS}
theorem inc_next:s.inc.next=s.next+1:=rfl
theorem wrong_next(e:Int):(c.wrong e s).next=s.next:=by
 unfold PC.wrong;split
 ·rfl
 ·split<;>rfl
theorem deeper_next(d:Int):(c.deeper d s).next=s.next:=by
 unfold PC.deeper;split
 ·exact wrong_next _
 ·rfl
theorem many_next(n m:Nat):(c.many n m s).next=s.next:=by
 unfold PC.many;split
 ·exact wrong_next _
 ·rfl
theorem end_next:(c.end s).next=s.next:=by
 unfold PC.end;split
 ·rfl
 ·split
  ·exact wrong_next _
  ·rfl
theorem wrong_over{e:Int}(he:e≠0)(hl:s.next<c.l.length):(c.wrong e s).over=true:=by
 unfold PC.wrong
 split
 ·assumption
 ·rw[if_neg (by omega)]
  simpa[PS.over] using he
theorem deeper_le{d:Int}(hl:s.next<c.l.length)(h:(c.deeper d s).over=false):d+1≤24∧c.deeper d s=s:=by
 unfold PC.deeper at h ⊢
 split
 ·rename_i hd
  rw[if_pos hd,wrong_over (by decide) hl] at h
  cases h
 ·rename_i hd
  exact⟨by omega,rfl⟩
theorem many_le{n m:Nat}(hl:s.next<c.l.length)(h:(c.many n m s).over=false):n<m∧c.many n m s=s:=by
 unfold PC.many at h ⊢
 split
 ·rename_i hd
  rw[if_pos hd,wrong_over (by decide) hl] at h
  cases h
 ·rename_i hd
  exact⟨by omega,rfl⟩
def Up(c:PC)(s s':PS):Prop:=s.next≤s'.next∧(s.next≤c.l.length→s'.next≤c.l.length)
theorem Up.refl:Up c s s:=⟨Nat.le_refl _,fun h=>h⟩
theorem Up.trans{a b d:PS}(h:Up c a b)(h':Up c b d):Up c a d:=⟨Nat.le_trans h.1 h'.1,fun h0=>h'.2 (h.2 h0)⟩
theorem Up.inc(hl:s.next<c.l.length):Up c s s.inc:=⟨Nat.le_succ _,fun _=>hl⟩
theorem Up.of_eq{s':PS}(h:s'.next=s.next):Up c s s':=⟨by omega,fun _=>by omega⟩
theorem Up.wrong(e:Int):Up c s (c.wrong e s):=.of_eq (wrong_next e)
theorem Up.deeper(d:Int):Up c s (c.deeper d s):=.of_eq (deeper_next d)
theorem Up.many(n m:Nat):Up c s (c.many n m s):=.of_eq (many_next n m)
theorem Up.end:Up c s (c.end s):=.of_eq end_next
theorem Up.take(w:ByteArray):Up c s (c.take w s).2:=by
 unfold PC.take;split
 ·rename_i h;exact .inc (isW_lt h)
 ·exact .wrong _
theorem Up.name:Up c s (c.name s).2:=by
 unfold PC.name;split
 ·rename_i h;exact .inc (now_lt (by rw[h];decide))
 ·exact .wrong _
theorem Up.literal:Up c s (c.literal s).2:=by
 unfold PC.literal
 split
 ·rename_i h;exact .inc (now_lt (by rw[h];decide))
 ·split
  ·rename_i h;exact .inc (now_lt (by rw[h.1];decide))
  ·split
   ·rename_i h;exact .inc (now_lt (by rw[h.1];decide))
   ·exact .refl
end
def Mono(c:PC){α:Type}(f:PS→α×PS):Prop:=∀s,Up c s (f s).2
section
variable {c:PC} {nx:Lv} (hx:Mono c nx.ex) (hu:Mono c nx.un)
include hx
theorem Up.kids:∀(n:Nat) (f:Bool) (s:PS),Up c s (c.kidsF nx n f s).2
 | 0,f,s=>.refl
 | n+1,f,s=>by
   rw[PC.kidsF]
   refine Up.trans ?_ (Up.kids n false _)
   refine Up.trans ?_ (hx _)
   split
   ·exact .refl
   ·exact .take _
theorem Up.call{d kind oper typ pos:Int}{many:Nat}{s:PS}(hl:s.next<c.l.length):Up c s (c.call nx d kind oper typ pos many s).2:=by
 unfold PC.call
 split
 ·exact .deeper _
 ·rename_i h
  obtain⟨_,he⟩:=deeper_le hl (by simpa using h)
  rw[he]
  exact ((Up.inc hl).trans (.take _)).trans ((Up.kids hx _ _ _).trans (.take _))
theorem Up.rest(d:Int):Mono c (c.rest nx d):=fun s=>by
 unfold PC.rest
 split
 ·rename_i h
  have hl:=isW_lt h
  split
  ·exact (Up.inc hl).trans (.wrong _)
  ·rename_i h2
   exact (Up.inc hl).trans (.inc (any_lt (Int.not_lt.1 h2)).1)
 ·split
  ·rename_i h
   have hl:=isW_lt h
   split
   ·exact .deeper _
   ·rename_i h2
    obtain⟨_,he⟩:=deeper_le hl (by simpa using h2)
    rw[he]
    exact (Up.inc hl).trans ((hx _).trans (.take _))
  ·exact .wrong _
theorem Up.one(d:Int):Mono c (c.one nx d):=fun s=>by
 unfold PC.one
 split
 ·exact .literal
 ·split
  ·rename_i h;exact .inc (now_lt (by rw[h];decide))
  ·split
   ·rename_i h;exact .inc (any_lt h).1
   ·split
    ·rename_i h;exact .call hx (any_lt h).1
    ·split
     ·rename_i h;exact .call hx (any_lt h).1
     ·exact Up.rest hx d s
include hu
theorem Up.unary(d:Int):Mono c (c.unary nx d):=fun s=>by
 unfold PC.unary
 split
 ·exact Up.one hx d s
 ·rename_i h
  have hl:=(any_lt (c:=c) (s:=s) (ws:=signW) (by omega)).1
  split
  ·exact .deeper _
  ·rename_i h2
   obtain⟨_,he⟩:=deeper_le hl (by simpa using h2)
   rw[he]
   exact (Up.inc hl).trans (hu _)
end
theorem Up.loopF{c:PC}{ws:List ByteArray}{o:Int}{sub:PS→Px×PS}(h:Mono c sub):∀(m:Nat) (n:Px) (s:PS),Up c s (c.loopF ws o sub m n s).2
 | 0,n,s=>.refl
 | m+1,n,s=>by
   rw[PC.loopF]
   split
   ·exact .refl
   ·rename_i h2
    exact ((Up.inc (any_lt (Int.not_lt.1 h2)).1).trans (h _)).trans (Up.loopF h m _ _)
theorem Up.loop{c:PC}{ws:List ByteArray}{o:Int}{sub:PS→Px×PS}(h:Mono c sub):Mono c (c.loop ws o sub):=fun s=>(h s).trans (.loopF h _ _ _)
section
variable {c:PC} {nx:Lv} (hx:Mono c nx.ex) (hu:Mono c nx.un) (d:Int)
include hx hu
theorem Up.product:Mono c (c.product nx d):=Up.loop (Up.unary hx hu d)
theorem Up.sum:Mono c (c.sum nx d):=Up.loop (Up.product hx hu d)
theorem Up.compare:Mono c (c.compare nx d):=fun s=>by
 unfold PC.compare
 have h1:=Up.sum hx hu d s
 show Up c s (if c.any cmpW (c.sum nx d s).2<0 then c.sum nx d s else _).2
 split
 ·exact h1
 ·rename_i h2
  exact (h1.trans (.inc (any_lt (Int.not_lt.1 h2)).1)).trans (Up.sum hx hu d _)
theorem Up.and:Mono c (c.and nx d):=Up.loop (Up.compare hx hu d)
theorem Up.or:Mono c (c.or nx d):=Up.loop (Up.and hx hu d)
theorem Up.expr:Mono c (c.expr nx d):=fun s=>by
 unfold PC.expr
 have h1:=Up.or hx hu d s
 show Up c s (if c.isW _ (c.or nx d s).2 then _ else _:Px×PS).2
 split
 ·rename_i h2
  have hl:=isW_lt h2
  show Up c s (if (c.deeper d (c.or nx d s).2).over then _ else _:Px×PS).2
  split
  ·exact h1.trans (.deeper _)
  ·rename_i h3
   obtain⟨_,he⟩:=deeper_le hl (by simpa using h3)
   rw[he]
   exact h1.trans ((Up.inc hl).trans ((hx _).trans ((Up.take _).trans (hx _))))
 ·exact h1
end
theorem Up.lvl{c:PC}:∀(k:Nat) (d:Int),Mono c (c.lvl k d).ex∧Mono c (c.lvl k d).un
 | 0,d=>⟨Up.expr (fun s=>.refl) (fun s=>.refl) d,Up.unary (fun s=>.refl) (fun s=>.refl) d⟩
 | k+1,d=>⟨Up.expr (Up.lvl k (d+1)).1 (Up.lvl k (d+1)).2 d,Up.unary (Up.lvl k (d+1)).1 (Up.lvl k (d+1)).2 d⟩
theorem Up.ex0{c:PC}:Mono c c.ex0:=(Up.lvl 24 0).1
def RetNd(q:PQ)(b:Nat)(F0:Heap)(r:Px×PS)(e:Ending)(I:Imm)(G:Heap):Prop:=∃t:Nd,e=.returned t.v∧t.px=r.1∧NdOk I [] t∧G.Perm (q.blk b r.2::F0)
def OwnNd(q:PQ)(b:Nat)(F0:Heap)(r:Px×PS)(e:Ending)(I:Imm)(G:Heap):Prop:=∃(t:Nd) (A:Heap),e=.returned t.v∧t.px=r.1∧(Acc 8 Nd.enc 28 t.a t.kids.length t.c t.kids A∨A=[]∧SlG I [] 8 Nd.enc t.a t.kids.length t.kids)∧(∀k∈t.kids,NdOk I [] k)∧G.Perm (q.blk b r.2::(A++F0))
theorem OwnNd.keep{f:Nat}{args:Array Value}{I:Imm}{F F0:Heap}{q:PQ}{b:Nat}{r:Px×PS}(h:Tri P f args I F (OwnNd q b F0 r)):Tri P f args I F (RetNd q b F0 r):=by
 refine h.keep fun e I' G w hl hs ⟨t,A,he,px,hA,hk,hG⟩=>?_
 rcases hA with hA | ⟨rfl,hA⟩
 ·obtain⟨J,h1,h2,h3⟩:=Acc.keep (z:=8) (f:=Nd.enc) Nd.enc_len hA (hs.perm (hG.trans (perm_of fun z=>by simp only[cn_cons,cn_app];omega):G.Perm (A++(q.blk b r.2::F0))))
  exact⟨J,_,h1,h2,t,he,px,.mk (h3.slg []) fun k hkm=>(hk k hkm).mono h1 fun _ h=>h,.refl _⟩
 ·exact⟨I',G,Imm.le_refl _,hs,t,he,px,.mk hA hk,hG⟩
theorem RetNd.own{q:PQ}{b:Nat}{F0:Heap}{r:Px×PS}{e:Ending}{I:Imm}{G:Heap}(h:RetNd q b F0 r e I G):OwnNd q b F0 r e I G:=by
 obtain⟨t,he,px,hok,hG⟩:=h
 exact⟨t,[],he,px,.inr ⟨rfl,hok.sl⟩,hok.kid,hG⟩
def ExSpec(f:Nat)(q:PQ)(d:Int)(g:PS→Px×PS):Prop:=∀(b:Nat) (s:PS) (I:Imm) (F F0:Heap),q.ok I→s.next≤q.c.l.length→F.Perm (q.blk b s::F0)→Tri P f #[.pointer (some ⟨b,0,none⟩),.int .i64 d] I F (RetNd q b F0 (g s))
theorem RetNd.nil{q:PQ}{b:Nat}{F0:Heap}{r:Px×PS}{I:Imm}{G:Heap}{k o ty n f pos:Int}{s:ByteArray}(h:r.1=.mk k o ty n f s [] pos)(hG:G.Perm (q.blk b r.2::F0)):RetNd q b F0 r (.returned (Nd.mk k o ty n f s none 0 [] pos).v) I G :=
 ⟨_,rfl,by rw[h];simp only[Nd.px,Nd.pxs],.leaf,hG⟩
theorem NdOk.kids2{I:Imm}{b:Nat}{l:List Nd}(hb:I b=some (.cells (l.flatMap Nd.enc).toArray 28 (0,0)))(hk:∀k∈l,NdOk I [] k)(k o ty n f pos:Int)(s:ByteArray)(c:Nat):NdOk I [] (.mk k o ty n f s (some ⟨b,0,none⟩) c l pos):=by
 have hS:Sl I 8 Nd.enc (some ⟨b,0,none⟩) l.length l:=Sl.of_cells (f:=Nd.enc) (z:=8) Nd.enc_len hb (by simp)
 exact .mk (hS.slg []) hk
theorem p_two(o pos:Int)(x y:Nd)(I:Imm)(F:Heap)(hx:NdOk I [] x)(hy:NdOk I [] y):Tri P 121 #[.int .u8 o,.int .i64 pos,x.v,y.v] I F fun e I' G=>∃t:Nd,e=.returned t.v∧t.px=twoP o pos x.px y.px∧NdOk I' [] t∧G=F:=by
 refine ref13_two.vc ?_
 unfold ref13_two.V
 intro b_a b_b b b1 I1 l1 hb
 refine⟨.mk 6 o 0 0 0 ⟨#[]⟩ (some ⟨b1,0,none⟩) 2 [x,y] pos,rfl,by simp only[Nd.px,Nd.pxs];rfl,NdOk.kids2 hb (fun k hk=>?_) ..,rfl⟩
 rcases List.mem_cons.1 hk with rfl | hk
 ·exact hx.mono l1 fun _ h=>h
 ·rw[List.mem_singleton] at hk;subst hk;exact hy.mono l1 fun _ h=>h
end Go.Lx
namespace Go.Lx
open Go.Vc
theorem p_append{a:Option Addr}{n c b1:Nat}{ks:List Nd}{A F R:Heap}{I:Imm}(hA:Acc 8 Nd.enc 28 a n c ks A)(hl:ks.length≤1000000)(t:Nd)(hb:I b1=some (.cells t.enc.toArray 28 (0,0)))(hF:F.Perm (A++R)) :
  TriE P (Builtin.append_ #[26,26] 26 #[.slice a n c,.slice (some ⟨b1,0,none⟩) 1 1]) I F fun v I' G=>∃a' n' c' A',v=.slice a' n' c'∧Acc 8 Nd.enc 28 a' n' c' (ks++[t]) A'∧G.Perm (A'++R):=by
 refine TriE.perm (TriE.mono (append_spec' (f:=Nd.enc) (z:=8) (zv:=zNd.v) Nd.enc_len (by':=72) (by kernel_rfl) (by kernel_rfl) rfl (by decide) hA (xs:=[t]) (fun x hx=>by rw[List.mem_singleton] at hx;subst hx;exact Nd.enc_one x) (by simp) rfl ?_ (by simp only[List.length_cons,List.length_nil];omega) (F:=R)) fun v I' G _ ⟨a',n',c',A',h1,h2,h3,_⟩=>⟨a',n',c',A',h1,h2,by rw[h3]⟩) hF
 exact⟨rfl,_,_,_,.inl hb,fun j hj=>by simp⟩
section
variable {q:PQ} {b:Nat} {s:PS} {I:Imm} {F F0:Heap}
theorem p_literal(hq:q.ok I)(hF:F.Perm (q.blk b s::F0)):Tri P 123 #[.pointer (some ⟨b,0,none⟩)] I F fun e1 I' G=>∃t:Nd,e1=.returned (.tuple #[t.v,.bool (q.c.literal s).1.2])∧t.px=(q.c.literal s).1.1∧NdOk I' [] t∧G.Perm (q.blk b (q.c.literal s).2::F0):=by
 have hm:q.blk b s∈F:=hF.mem_iff.2 (.head _)
 have hl:=hq.len
 refine ref13_Parser_literal.vc (fun x b0 b1 b2 b3 b4 b5 ba bn bc b7 n0 n1 n2 n3 n4 n5 na nn nc n7 I' F'=>F'=F∧na=none∧nn=0∧nc=0∧q.c.literal s=((.mk n0 n1 n2 n3 n4 n5 [] n7,true),s.inc)∧s.next<q.c.l.length) ?_
 unfold ref13_Parser_literal.V
 intro b1
 refine Tri.ret (p_now hq (.tail _ hm)) fun I1 l1=>⟨_,_,_,_,_,rfl,F,.refl _,fun b_t b_n=>⟨?_,fun x b0 b1' b2 b3 b4 b5 ba bn bc b7 n0 n1 n2 n3 n4 n5 na nn nc n7 I2 F2 l2 ⟨gF,ga,gn,gc,ge,hlt⟩=>?_⟩⟩
 ·have hk3:(q.c.now s).kind=3→s.next<q.c.l.length:=fun h=>now_lt (by rw[h];decide)
  have hk1:(q.c.now s).kind=1→s.next<q.c.l.length:=fun h=>now_lt (by rw[h];decide)
  have hz:∀(I':Imm),q.c.literal s=((zPx,false),s)→∃t:Nd,Ending.returned (.tuple #[zNd.v,.bool false])=.returned (.tuple #[t.v,.bool (q.c.literal s).1.2])∧t.px=(q.c.literal s).1.1∧NdOk I' [] t∧F.Perm (q.blk b (q.c.literal s).2::F0):=fun I' h=>by
   rw[h];exact⟨zNd,rfl,by simp only[zNd,Nd.px,Nd.pxs];rfl,.leaf,hF⟩
  unfold PC.literal at hz ⊢
  generalize q.c.now s=t at *
  generalize (⟨#[116,114,117,101]⟩:ByteArray).toList=wt at *
  generalize (⟨#[102,97,108,115,101]⟩:ByteArray).toList=wf at *
  generalize (⟨#[98,117,121]⟩:ByteArray).toList=wb at *
  generalize (⟨#[115,101,108,108]⟩:ByteArray).toList=ws at *
  simp only[beq_iff_eq,beq_eq_false_iff_ne,ne_eq]
  repeat' (first | (with_reducible apply And.intro) | (with_reducible intro h))
  all_goals first
   | rfl
   | (refine hz I1 ?_;simp_all;done)
   | (simp_all [litP];done)
   | (exfalso;simp_all;done)
 ·subst gF ga gn gc
  refine⟨_,rfl,_,PQ.rd (k:=3) (.tail _ (.tail _ (.tail _ hm))) rfl,_,rfl,q.cl s,107,F0,hF,PQ.spot _ _,by rw[PQ.off];exact (by decide:3+1≤7), ?_⟩
  rw[PQ.inc_eq (by omega),ge]
  exact⟨.mk n0 n1 n2 n3 n4 n5 none 0 [] n7,rfl,by simp only[Nd.px,Nd.pxs],.leaf,.refl _⟩
end
end Go.Lx
namespace Go.Lx
open Go.Vc
theorem pm1{α:Type}{x z:α}{l:List α}:(x::z::l).Perm (z::x::l):=.swap ..
theorem pm2{α:Type}{x y z:α}{l:List α}:(x::y::z::l).Perm (z::x::y::l):=((List.Perm.swap z y l).cons x).trans (.swap ..)
theorem pm3{α:Type}{x y w z:α}{l:List α}:(x::y::w::z::l).Perm (z::x::y::w::l):=(pm2.cons x).trans (.swap ..)
theorem pmA{α:Type}{x y w z:α}{A l:List α}:(x::y::w::z::(A++l)).Perm (A++(x::y::w::z::l)):=by
 have h:=List.perm_append_comm_assoc [x,y,w,z] A l
 exact h
theorem pxs_snoc(l:List Nd)(t:Nd):(l++[t]).map Nd.px=l.map Nd.px++[t.px]:=by rw[List.map_append,List.map_singleton]
theorem Sl.words{I:Imm}{b1 e:Nat}{ws:List ByteArray}{cells:Array Value}(hb:I b1=some (.cells cells e (0,0)))(h:cells.toList=ws.flatMap encS):Sl I 1 encS (some ⟨b1,0,none⟩) ws.length ws:=Sl.of_cells (f:=encS) (z:=1) (fun _=>rfl) hb h
section
variable {q:PQ} {b:Nat} {s:PS} {I:Imm} {F F0:Heap} {nx:Lv} {d:Int} (h0:0≤d) (h1:d≤24) (hx:d+1≤24→ExSpec 53 q (d+1) nx.ex) (hmx:Mono q.c nx.ex)
include h0 h1 hx hmx
theorem p_call(hq:q.ok I)(kind oper typ pos:Int)(many:Nat)(hmy:many≤2)(hlt:s.next<q.c.l.length)(hF:F.Perm (q.blk b s::F0)) :
  Tri P 173 #[.pointer (some ⟨b,0,none⟩),.agg #[.int .u8 kind,.int .u8 oper,.int .u8 typ,.int .i64 0,.int .u8 0,.string ⟨#[]⟩,.slice none 0 0,.int .i64 pos],.int .i64 many,.int .i64 d] I F (RetNd q b F0 (q.c.call nx d kind oper typ pos many s)):=by
 have hl:=hq.len
 refine OwnNd.keep ?_
 refine ref13_Parser_call.vc (fun i n0 n1 n2 n3 n4 n5 na nn nc n7 m I' F'=>0≤i∧i≤many∧m=(many-i).toNat∧n0=kind∧n1=oper∧n2=typ∧n3=0∧n4=0∧n5=⟨#[]⟩∧n7=pos∧q.ok I'∧∃(ks:List Nd) (A:Heap) (s':PS),Acc 8 Nd.enc 28 na nn nc ks A∧(∀k∈ks,NdOk I' [] k)∧F'.Perm (q.blk b s'::(A++F0))∧s'.next≤q.c.l.length∧ks.length=i ∧
  q.c.kidsF nx many true (q.c.take (⟨#[40]⟩:ByteArray) s.inc).2=(ks.map Nd.px++(q.c.kidsF nx (many-i.toNat) (decide (i=0)) s').1,(q.c.kidsF nx (many-i.toNat) (decide (i=0)) s').2)) ?_
 unfold ref13_Parser_call.V
 intro b_n b2
 refine (p_deeper hq d h0 (by omega) (((hF.cons _).cons _).trans pm2)).mono fun e I1 G l1 ⟨he,hG⟩=>⟨_,he,q.blk b (q.c.deeper d s)::F0,hG.trans pm2.symm,fun h=>?_,fun h=>?_⟩
 ·have h:(q.c.deeper d s).over=true:=by simpa using h
  unfold PC.call
  rw[if_pos h]
  exact⟨zNd,[],rfl,by simp only[zNd,Nd.px,Nd.pxs];rfl,.inl Acc.nil,fun k hk=>(by cases hk),.refl _⟩
 have h:(q.c.deeper d s).over=false:=by simpa using h
 obtain⟨hd,hde⟩:=deeper_le hlt h
 have hcall:q.c.call nx d kind oper typ pos many s=(.mk kind oper typ 0 0 ⟨#[]⟩ (q.c.kidsF nx many true (q.c.take (⟨#[40]⟩:ByteArray) s.inc).2).1 pos,(q.c.take (⟨#[41]⟩:ByteArray) (q.c.kidsF nx many true (q.c.take (⟨#[40]⟩:ByteArray) s.inc).2).2).2):=by
  unfold PC.call
  rw[if_neg (by simp[h]),hde]
 rw[hde,hcall]
 have hq1:=hq.mono l1
 refine⟨_,rfl,_,PQ.rd (k:=3) (.tail _ (.tail _ (.head _))) rfl,_,rfl,q.cl s,107,F0,.refl _,PQ.spot _ _,by rw[PQ.off];exact (by decide:3+1≤7), ?_⟩
 rw[PQ.inc_eq (by omega)]
 refine (p_take hq1 _ (s:=s.inc) pm2).mono fun e I2 G2 l2 ⟨he,hG2⟩=>⟨_,he,q.blk b (q.c.take (⟨#[40]⟩:ByteArray) s.inc).2::F0,hG2.trans pm2.symm,⟨_,by omega,by omega,rfl,rfl,rfl,rfl,rfl,rfl,rfl,rfl,hq1.mono l2,[],[],_,Acc.nil,fun k hk=>(by cases hk),.refl _, ?_,rfl, ?_⟩, ?_⟩
 ·exact (Up.take _).2 hlt
 ·simp
 intro i n0 n1 n2 n3 n4 n5 na nn nc n7 m2 I3 F4 l3 ⟨i0,i1,im,e0,e1,e2,e3,e4,e5,e7,hq3,ks,A,s',hA,hks,hF4,hsn,hkl,hke⟩
 subst e0 e1 e2 e3 e4 e5 e7
 refine⟨fun hi=>?_,fun hi=>?_⟩
 ·have hi:=of_decide_eq_true hi
  have hmi:many-i.toNat=(many-(i+1).toNat)+1:=by omega
  rw[hmi,PC.kidsF] at hke
  have step:∀(s1:PS) (J:Imm) (t:Nd) (e1:Ending) (I5:Imm) (G5:Heap) (F6:Heap),True:=fun _ _ _ _ _ _ _=>trivial
  refine⟨fun hp=>?_,fun hp=>?_⟩
  ·have hp:=of_decide_eq_true hp
   refine (p_take hq3 _ (s:=s') (((hF4.cons _).cons _).trans pm2)).mono fun e I4 G4 l4 ⟨he,hG4⟩=>⟨_,he,q.blk b (q.c.take (⟨#[44]⟩:ByteArray) s').2::(A++F0),hG4.trans pm2.symm, ?_⟩
   have hq4:=hq3.mono l4
   have hn1:(q.c.take (⟨#[44]⟩:ByteArray) s').2.next≤q.c.l.length:=(Up.take _).2 hsn
   rw[w64 (n:=d+1) (by omega)]
   refine (hx hd b _ I4 _ _ hq4 hn1 pm2).mono fun e I5 G5 l5 ⟨t,he,px,hok,hG5⟩=>?_
   rw[show decide (i=0)=false from decide_eq_false (by omega)] at hke
   refine⟨_,_,_,_,_,_,_,_,_,_,he,q.blk b (nx.ex (q.c.take (⟨#[44]⟩:ByteArray) s').2).2::(A++F0),hG5.trans pm2.symm,fun b_k b4 I6 l6 hb4=>?_⟩
   refine (p_append hA (by omega) t hb4 pmA).mono fun v I7 G7 l7 ⟨a',n',c',A',hv,hA',hG7⟩=>⟨a',n',c',hv,q.blk b (nx.ex (q.c.take (⟨#[44]⟩:ByteArray) s').2).2::(A'++F0),hG7.trans pmA.symm,(many-(i+1)).toNat,by omega, ?_⟩
   rw[w64 (n:=i+1) (by omega)]
   refine⟨by omega,by omega,rfl,rfl,rfl,rfl,rfl,rfl,rfl,rfl,(hq4.mono l5).mono (Imm.le_trans l6 l7),ks++[t],A',_,hA',fun k hk=>?_,.refl _,(hmx _).2 hn1,by rw[List.length_append,List.length_singleton];omega, ?_⟩
   ·rcases List.mem_append.1 hk with hk | hk
    ·exact (hks k hk).mono (Imm.le_trans l4 (Imm.le_trans l5 (Imm.le_trans l6 l7))) fun _ h=>h
    ·rw[List.mem_singleton] at hk;subst hk;exact hok.mono (Imm.le_trans l6 l7) fun _ h=>h
   ·rw[hke,show decide (i+1=0)=false from decide_eq_false (by omega),pxs_snoc,px,List.append_assoc];rfl
  ·have hp:=of_decide_eq_false hp
   rw[w64 (n:=d+1) (by omega)]
   refine (hx hd b s' I3 _ _ hq3 hsn (((hF4.cons _).cons _).trans pm2)).mono fun e I5 G5 l5 ⟨t,he,px,hok,hG5⟩=>?_
   rw[show decide (i=0)=true from decide_eq_true (by omega)] at hke
   refine⟨_,_,_,_,_,_,_,_,_,_,he,q.blk b (nx.ex s').2::(A++F0),hG5.trans pm2.symm,fun b_k b4 I6 l6 hb4=>?_⟩
   refine (p_append hA (by omega) t hb4 pmA).mono fun v I7 G7 l7 ⟨a',n',c',A',hv,hA',hG7⟩=>⟨a',n',c',hv,q.blk b (nx.ex s').2::(A'++F0),hG7.trans pmA.symm,(many-(i+1)).toNat,by omega, ?_⟩
   rw[w64 (n:=i+1) (by omega)]
   refine⟨by omega,by omega,rfl,rfl,rfl,rfl,rfl,rfl,rfl,rfl,(hq3.mono l5).mono (Imm.le_trans l6 l7),ks++[t],A',_,hA',fun k hk=>?_,.refl _,(hmx _).2 hsn,by rw[List.length_append,List.length_singleton];omega, ?_⟩
   ·rcases List.mem_append.1 hk with hk | hk
    ·exact (hks k hk).mono (Imm.le_trans l5 (Imm.le_trans l6 l7)) fun _ h=>h
    ·rw[List.mem_singleton] at hk;subst hk;exact hok.mono (Imm.le_trans l6 l7) fun _ h=>h
   ·rw[hke,show decide (i+1=0)=false from decide_eq_false (by omega),pxs_snoc,px,List.append_assoc];rfl
 ·have hi:=of_decide_eq_false hi
  rw[show many-i.toNat=0 by omega,PC.kidsF,List.append_nil] at hke
  refine (p_take hq3 _ (s:=s') (((hF4.cons _).cons _).trans pm2)).mono fun e I4 G4 l4 ⟨he,hG4⟩=>⟨_,he,q.blk b (q.c.take (⟨#[41]⟩:ByteArray) s').2::(A++F0),hG4.trans pm2.symm, ?_⟩
  rw[hke]
  have hn:=hA.1
  subst hn
  exact⟨.mk n0 n1 n2 0 0 ⟨#[]⟩ na nc ks n7,A,rfl,by rw[Nd.px,Nd.pxs_map],.inl hA,fun k hk=>(hks k hk).mono l4 fun _ h=>h,.refl _⟩
end
end Go.Lx
namespace Go.Lx
open Go.Vc
theorem any_w{q:PQ}{s:PS}{ws:List ByteArray}(h:0≤q.c.any ws s)(hl:ws.length≤6):q.c.any ws s≤5:=by have:=(any_lt h).2;omega
section
variable {q:PQ} {b:Nat} {s:PS} {I:Imm} {F F0:Heap} {nx:Lv} {d:Int} (h0:0≤d) (h1:d≤24) (hx:d+1≤24→ExSpec 53 q (d+1) nx.ex) (hmx:Mono q.c nx.ex)
include h0 h1 hx hmx
theorem p_rest(hq:q.ok I)(hsn:s.next≤q.c.l.length)(hF:F.Perm (q.blk b s::F0)):Tri P 174 #[.pointer (some ⟨b,0,none⟩),.int .i64 d] I F (RetNd q b F0 (q.c.rest nx d s)):=by
 have _:=hmx
 have hl:=hq.len
 have hm:q.blk b s∈F:=hF.mem_iff.2 (.head _)
 refine ref13_Parser_rest.vc ?_
 unfold ref13_Parser_rest.V
 intro b2
 refine Tri.ret (p_now hq (.tail _ hm)) fun I1 l1=>⟨_,_,_,_,_,rfl,F,.refl _, ?_⟩
 have hq1:=hq.mono l1
 refine Tri.ret (p_is hq1 _ (.tail _ hm)) fun I2 l2=>⟨_,rfl,F,.refl _,fun hh=>?_,fun hh=>?_⟩
 ·have hlt:=isW_lt hh
  have hq2:=hq1.mono l2
  refine⟨_,rfl,_,PQ.rd (k:=3) (.tail _ hm) rfl,_,rfl,q.cl s,107,F0,hF,PQ.spot _ _,by rw[PQ.off];exact (by decide:3+1≤7),fun b3 I3 l3 hb3=>?_⟩
  rw[PQ.inc_eq (by omega)]
  have hq3:=hq2.mono l3
  refine Tri.ret (p_any hq3 (Sl.words (ws:=[(⟨#[98,105,100]⟩:ByteArray),(⟨#[97,115,107]⟩:ByteArray),(⟨#[108,97,115,116]⟩:ByteArray)]) hb3 rfl) (by decide) (s:=s.inc) (.tail _ (.head _))) fun I4 l4=>⟨_,rfl,q.blk b s.inc::F0,.refl _,fun ha=>?_,fun ha=>?_⟩
  ·have ha:=of_decide_eq_true ha
   refine (p_wrong (hq3.mono l4) 130 (s:=s.inc) pm1).mono fun e I5 G l5 ⟨he,hG⟩=>⟨he,q.blk b (q.c.wrong 130 s.inc)::F0,hG.trans pm1, ?_⟩
   unfold PC.rest
   rw[if_pos hh,if_pos ha]
   exact RetNd.nil rfl (.refl _)
  ·have ha:=of_decide_eq_false ha
   have hab:=any_w (Int.not_lt.1 ha) (by decide)
   have hlt2:=(any_lt (Int.not_lt.1 ha)).1
   refine⟨_,rfl,_,PQ.rd (k:=3) (.tail _ (.head _)) rfl,_,rfl,q.cl s.inc,107,F0,.refl _,PQ.spot _ _,by rw[PQ.off];exact (by decide:3+1≤7), ?_⟩
   rw[PQ.inc_eq (s:=s.inc) (by omega),w64 (n:=q.c.any [(⟨#[98,105,100]⟩:ByteArray),(⟨#[97,115,107]⟩:ByteArray),(⟨#[108,97,115,116]⟩:ByteArray)] s.inc+1) (by omega),w8 (by omega)]
   unfold PC.rest
   rw[if_pos hh,if_neg ha]
   exact RetNd.nil rfl (.refl _)
 ·have hq2:=hq1.mono l2
  refine Tri.ret (p_is hq2 _ (.tail _ hm)) fun I3 l3=>⟨_,rfl,F,.refl _,fun hb=>?_,fun hb=>?_⟩
  ·have hb:q.c.isW (⟨#[40]⟩:ByteArray) s=false:=by simpa using hb
   refine (p_wrong (hq2.mono l3) 130 ((hF.cons _).trans pm1)).mono fun e I5 G l5 ⟨he,hG⟩=>⟨he,q.blk b (q.c.wrong 130 s)::F0,hG.trans pm1, ?_⟩
   unfold PC.rest
   rw[if_neg (by simp[hh]),if_neg (by simp[hb])]
   exact RetNd.nil rfl (.refl _)
  ·have hb:q.c.isW (⟨#[40]⟩:ByteArray) s=true:=by simpa using hb
   have hlt:=isW_lt hb
   have hq3:=hq2.mono l3
   refine (p_deeper hq3 d h0 (by omega) ((hF.cons _).trans pm1)).mono fun e I4 G l4 ⟨he,hG⟩=>⟨_,he,q.blk b (q.c.deeper d s)::F0,hG.trans pm1,fun h=>?_,fun h=>?_⟩
   ·have h:(q.c.deeper d s).over=true:=by simpa using h
    unfold PC.rest
    rw[if_neg (by simp[hh]),if_pos hb,if_pos h]
    exact RetNd.nil rfl (.refl _)
   ·have h:(q.c.deeper d s).over=false:=by simpa using h
    obtain⟨hd,hde⟩:=deeper_le hlt h
    have hr:q.c.rest nx d s=((nx.ex s.inc).1,(q.c.take (⟨#[41]⟩:ByteArray) (nx.ex s.inc).2).2):=by
     unfold PC.rest
     rw[if_neg (by simp[hh]),if_pos hb,if_neg (by simp[h]),hde]
    rw[hde,hr]
    refine⟨_,rfl,_,PQ.rd (k:=3) (.tail _ (.head _)) rfl,_,rfl,q.cl s,107,F0,.refl _,PQ.spot _ _,by rw[PQ.off];exact (by decide:3+1≤7), ?_⟩
    rw[PQ.inc_eq (by omega),w64 (n:=d+1) (by omega)]
    have hq4:=hq3.mono l4
    refine (hx hd b s.inc I4 _ _ hq4 hlt pm1).mono fun e I5 G5 l5 ⟨t,he,px,hok,hG5⟩=>?_
    refine⟨_,_,_,_,_,_,_,_,_,_,he,q.blk b (nx.ex s.inc).2::F0,hG5.trans pm1,fun b_n=>?_⟩
    refine (p_take (hq4.mono l5) _ (s:=(nx.ex s.inc).2) pm2).mono fun e I6 G6 l6 ⟨he,hG6⟩=>⟨_,he,q.blk b (q.c.take (⟨#[41]⟩:ByteArray) (nx.ex s.inc).2).2::F0,hG6.trans pm2.symm, ?_⟩
    exact⟨t,rfl,px,hok.mono l6 fun _ h=>h,.refl _⟩
theorem p_one(hq:q.ok I)(hsn:s.next≤q.c.l.length)(hF:F.Perm (q.blk b s::F0)):Tri P 172 #[.pointer (some ⟨b,0,none⟩),.int .i64 d] I F (RetNd q b F0 (q.c.one nx d s)):=by
 have hl:=hq.len
 refine ref13_Parser_one.vc ?_
 unfold ref13_Parser_one.V
 intro b2
 refine (p_literal hq ((hF.cons _).trans pm1)).mono fun e I1 G l1 ⟨t,he,px,hok,hG⟩=>?_
 refine⟨_,_,_,_,_,_,_,_,_,_,_,he,q.blk b (q.c.literal s).2::F0,hG.trans pm1,fun b_n=>⟨fun h=>?_,fun h=>?_⟩⟩
 ·unfold PC.one
  rw[if_pos h]
  exact⟨t,rfl,px,hok,.refl _⟩
 have hls:(q.c.literal s).2=s:=by
  unfold PC.literal at h ⊢
  split
  ·rename_i h1;rw[if_pos h1] at h;cases h
  ·rename_i h1
   rw[if_neg h1] at h
   split
   ·rename_i h2;rw[if_pos h2] at h;cases h
   ·rename_i h2
    rw[if_neg h2] at h
    split
    ·rename_i h3;rw[if_pos h3] at h;cases h
    ·rfl
 rw[hls]
 have hq1:=hq.mono l1
 refine Tri.ret (p_now hq1 (.tail _ (.tail _ (.head _)))) fun I2 l2=>⟨_,_,_,_,_,rfl,q.blk b s::F0,.refl _,fun b_t=>⟨fun hk=>?_,fun hk=>?_⟩⟩
 ·have hk:(q.c.now s).kind=2:=by simpa using hk
  have hlt:=now_lt (by rw[hk];decide:(q.c.now s).kind≠0)
  refine⟨_,rfl,_,PQ.rd (k:=3) (.tail _ (.tail _ (.tail _ (.head _)))) rfl,_,rfl,q.cl s,107,F0,.refl _,PQ.spot _ _,by rw[PQ.off];exact (by decide:3+1≤7), ?_⟩
  rw[PQ.inc_eq (by omega)]
  unfold PC.one
  rw[if_neg (by simp[h]),if_pos hk]
  exact RetNd.nil rfl (.refl _)
 have hk:(q.c.now s).kind≠2:=by simpa using hk
 have hq2:=hq1.mono l2
 intro b3 I3 l3 hb3
 have hq3:=hq2.mono l3
 refine Tri.ret (p_any hq3 (Sl.words (ws:=fieldW) hb3 rfl) (by decide) (s:=s) (.tail _ (.tail _ (.tail _ (.head _))))) fun I4 l4=>⟨_,rfl,q.blk b s::F0,.refl _,fun ha=>?_,fun ha=>?_⟩
 ·have ha:=of_decide_eq_true ha
  have hab:=any_w ha (by decide)
  have hlt:=(any_lt ha).1
  refine⟨_,rfl,_,PQ.rd (k:=3) (.tail _ (.tail _ (.tail _ (.head _)))) rfl,_,rfl,q.cl s,107,F0,.refl _,PQ.spot _ _,by rw[PQ.off];exact (by decide:3+1≤7), ?_⟩
  rw[PQ.inc_eq (by omega),w64 (n:=q.c.any fieldW s+1) (by omega),w8 (by omega)]
  unfold PC.one
  rw[if_neg (by simp[h]),if_neg hk,if_pos ha]
  exact RetNd.nil rfl (.refl _)
 have ha:=of_decide_eq_false ha
 have hq4:=hq3.mono l4
 intro b5 I5 l5 hb5
 have hq5:=hq4.mono l5
 refine Tri.ret (p_any hq5 (Sl.words (ws:=callW) hb5 rfl) (by decide) (s:=s) (.tail _ (.tail _ (.tail _ (.head _))))) fun I6 l6=>⟨_,rfl,q.blk b s::F0,.refl _,fun hc=>?_,fun hc=>?_⟩
 ·have hc:=of_decide_eq_true hc
  have hab:=any_w hc (by decide)
  have hlt:=(any_lt hc).1
  have hq6:=hq5.mono l6
  have hone:q.c.one nx d s=q.c.call nx d 8 (3+q.c.any callW s) 0 (q.c.now s).pos (if q.c.any callW s=0 then 1 else 2) s:=by
   unfold PC.one
   rw[if_neg (by simp[h]),if_neg hk,if_neg ha,if_pos hc]
  rw[hone,w8 (n:=q.c.any callW s) (by omega),w8 (n:=3+q.c.any callW s) (by omega)]
  refine⟨fun hz=>?_,fun hz=>?_⟩
  ·have hz:q.c.any callW s=0:=by simpa using hz
   rw[if_pos hz]
   refine (p_call h0 h1 hx hmx hq6 8 (3+q.c.any callW s) 0 (q.c.now s).pos 1 (by decide) hlt pm3).mono fun e I7 G7 l7 ⟨t,he,px,hok,hG7⟩=>?_
   exact⟨_,_,_,_,_,_,_,_,_,_,he,_,hG7.trans pm3.symm,t,rfl,px,hok,.refl _⟩
  ·have hz:q.c.any callW s≠0:=by simpa using hz
   rw[if_neg hz]
   refine (p_call h0 h1 hx hmx hq6 8 (3+q.c.any callW s) 0 (q.c.now s).pos 2 (by decide) hlt pm3).mono fun e I7 G7 l7 ⟨t,he,px,hok,hG7⟩=>?_
   exact⟨_,_,_,_,_,_,_,_,_,_,he,_,hG7.trans pm3.symm,t,rfl,px,hok,.refl _⟩
 have hc:=of_decide_eq_false hc
 have hq6:=hq5.mono l6
 intro b7 I7 l7 hb7
 have hq7:=hq6.mono l7
 refine Tri.ret (p_any hq7 (Sl.words (ws:=convW) hb7 rfl) (by decide) (s:=s) (.tail _ (.tail _ (.tail _ (.head _))))) fun I8 l8=>⟨_,rfl,q.blk b s::F0,.refl _,fun hv=>?_,fun hv=>?_⟩
 ·have hv:=of_decide_eq_true hv
  have hab:=any_w hv (by decide)
  have hlt:=(any_lt hv).1
  have hone:q.c.one nx d s=q.c.call nx d 9 0 (1+q.c.any convW s) (q.c.now s).pos 1 s:=by
   unfold PC.one
   rw[if_neg (by simp[h]),if_neg hk,if_neg ha,if_neg hc,if_pos hv]
  rw[hone,w8 (n:=q.c.any convW s) (by omega),w8 (n:=1+q.c.any convW s) (by omega)]
  refine (p_call h0 h1 hx hmx (hq7.mono l8) 9 0 (1+q.c.any convW s) (q.c.now s).pos 1 (by decide) hlt pm3).mono fun e I9 G9 l9 ⟨t,he,px,hok,hG9⟩=>?_
  exact⟨_,_,_,_,_,_,_,_,_,_,he,_,hG9.trans pm3.symm,t,rfl,px,hok,.refl _⟩
 have hv:=of_decide_eq_false hv
 have hone:q.c.one nx d s=q.c.rest nx d s:=by
  unfold PC.one
  rw[if_neg (by simp[h]),if_neg hk,if_neg ha,if_neg hc,if_neg hv]
 rw[hone]
 refine (p_rest h0 h1 hx hmx (hq7.mono l8) hsn pm3).mono fun e I9 G9 l9 ⟨t,he,px,hok,hG9⟩=>?_
 exact⟨_,_,_,_,_,_,_,_,_,_,he,_,hG9.trans pm3.symm,t,rfl,px,hok,.refl _⟩
theorem p_unary(hu:d+1≤24→ExSpec 170 q (d+1) nx.un)(hmu:Mono q.c nx.un):ExSpec 170 q d (q.c.unary nx d):=by
 intro b s I F F0 hq hsn hF
 have hl:=hq.len
 refine OwnNd.keep ?_
 refine ref13_Parser_unary.vc ?_
 unfold ref13_Parser_unary.V
 intro b2 b3 I1 l1 hb3
 have hq1:=hq.mono l1
 have hm:q.blk b s∈F:=hF.mem_iff.2 (.head _)
 refine Tri.ret (p_any hq1 (Sl.words (ws:=signW) hb3 rfl) (by decide) (s:=s) (.tail _ hm)) fun I2 l2=>⟨_,rfl,F,.refl _,fun ha=>?_,fun ha=>?_⟩
 ·have ha:=of_decide_eq_true ha
  refine (p_one h0 h1 hx hmx (hq1.mono l2) hsn ((hF.cons _).trans pm1)).mono fun e I3 G3 l3 ⟨t,he,px,hok,hG3⟩=>?_
  refine⟨_,_,_,_,_,_,_,_,_,_,he,_,hG3.trans pm1,RetNd.own ?_⟩
  unfold PC.unary
  rw[if_pos ha]
  exact⟨t,rfl,px,hok,.refl _⟩
 have ha:=of_decide_eq_false ha
 have hab:=any_w (Int.not_lt.1 ha) (by decide)
 have hlt:=(any_lt (Int.not_lt.1 ha)).1
 have hq2:=hq1.mono l2
 refine (p_deeper hq2 d h0 (by omega) ((hF.cons _).trans pm1)).mono fun e I4 G l4 ⟨he,hG⟩=>⟨_,he,q.blk b (q.c.deeper d s)::F0,hG.trans pm1,fun h=>?_,fun h=>?_⟩
 ·have h:(q.c.deeper d s).over=true:=by simpa using h
  refine RetNd.own ?_
  unfold PC.unary
  rw[if_neg ha,if_pos h]
  exact RetNd.nil rfl (.refl _)
 have h:(q.c.deeper d s).over=false:=by simpa using h
 obtain⟨hd,hde⟩:=deeper_le hlt h
 have hr:q.c.unary nx d s=(.mk 5 (1+q.c.any signW s) 0 0 0 ⟨#[]⟩ [(nx.un s.inc).1] (q.c.now s).pos,(nx.un s.inc).2):=by
  unfold PC.unary
  rw[if_neg ha,if_neg (by simp[h]),hde]
 rw[hde,hr,w8 (n:=q.c.any signW s) (by omega),w8 (n:=1+q.c.any signW s) (by omega)]
 have hq4:=hq2.mono l4
 refine Tri.ret (p_now hq4 (s:=s) (.tail _ (.head _))) fun I5 l5=>⟨_,_,_,_,_,rfl,q.blk b s::F0,.refl _,fun b_n=>?_⟩
 refine⟨_,rfl,_,PQ.rd (k:=3) (.tail _ (.tail _ (.head _))) rfl,_,rfl,q.cl s,107,F0,.refl _,PQ.spot _ _,by rw[PQ.off];exact (by decide:3+1≤7), ?_⟩
 rw[PQ.inc_eq (by omega),w64 (n:=d+1) (by omega)]
 have hq5:=hq4.mono l5
 refine (hu hd b s.inc I5 _ _ hq5 hlt pm2).mono fun e I6 G6 l6 ⟨t,he,px,hok,hG6⟩=>?_
 refine⟨_,_,_,_,_,_,_,_,_,_,he,q.blk b (nx.un s.inc).2::F0,hG6.trans pm2.symm,fun b_k b4 I7 l7 hb4=>?_⟩
 refine (p_append (ks:=[]) (A:=[]) Acc.nil (by decide) t hb4 (.refl _)).mono fun v I8 G8 l8 ⟨a',n',c',A',hv,hA',hG8⟩=>⟨a',n',c',hv,q.blk b (nx.un s.inc).2::(A'++F0),hG8.trans pmA.symm, ?_⟩
 have hn:=hA'.1
 subst hn
 refine⟨.mk 5 (1+q.c.any signW s) 0 0 0 ⟨#[]⟩ a' c' ([]++[t]) (q.c.now s).pos,A',rfl, ?_,.inl hA',fun k hk=>?_,.refl _⟩
 ·simp only[List.nil_append,Nd.px,Nd.pxs,px]
 ·have hk:k∈[t]:=hk
  rw[List.mem_singleton] at hk;subst hk
  exact hok.mono (Imm.le_trans l7 l8) fun _ h=>h
end
end Go.Lx
namespace Go.Lx
open Go.Vc
theorem loopF_stop{c:PC}{ws:List ByteArray}{o:Int}{sub:PS→Px×PS}{n:Px}{s:PS}(h:c.any ws s<0):∀m,c.loopF ws o sub m n s=(n,s)
 | 0=>rfl
 | m+1=>by rw[PC.loopF,if_pos h]
theorem any_one{c:PC}{w:ByteArray}{s:PS}:c.any [w] s=if c.isW w s then 0 else -1:=rfl
section
variable {q:PQ} {nx:Lv} {d:Int} (h0:0≤d) (h1:d≤24)
include h0 h1
theorem p_product{g:PS→Px×PS}(hg:ExSpec 170 q d g)(hm:Mono q.c g):ExSpec 165 q d (q.c.loop mulW 8 g):=by
 have _:=h0
 have _:=h1
 intro b s I F F0 hq hsn hF
 have hl:=hq.len
 refine ref13_Parser_product.vc (fun x0 x1 x2 x3 x4 x5 xa xn xc x7 n0 n1 n2 n3 n4 n5 na nn nc n7 m I' F'=>q.ok I'∧∃(t:Nd) (s':PS) (k:Nat),t.v=(.agg #[.int .u8 n0,.int .u8 n1,.int .u8 n2,.int .i64 n3,.int .u8 n4,.string n5,.slice na nn nc,.int .i64 n7])∧NdOk I' [] t∧F'.Perm (q.blk b s'::F0)∧s'.next≤q.c.l.length∧m=q.c.l.length-s'.next∧q.c.l.length≤s'.next+k∧q.c.loop mulW 8 g s=q.c.loopF mulW 8 g k t.px s') ?_
 unfold ref13_Parser_product.V
 intro b2
 refine (hg b s I _ _ hq hsn ((hF.cons _).trans pm1)).mono fun e I1 G1 l1 ⟨t,he,px,hok,hG1⟩=>?_
 refine⟨_,_,_,_,_,_,_,_,_,_,he,q.blk b (g s).2::F0,hG1.trans pm1,fun b_n=>⟨⟨_,hq.mono l1,t,(g s).2,q.c.l.length,rfl,hok,.refl _,(hm s).2 hsn,rfl,by omega,by rw[px];rfl⟩, ?_⟩⟩
 intro x0 x1 x2 x3 x4 x5 xa xn xc x7 n0 n1 n2 n3 n4 n5 na nn nc n7 m I2 F2 l2 ⟨hq2,t,s',k,htv,hok,hF2,hsn',hme,hfu,hres⟩
 simp only[Nd.v,Value.agg.injEq,Array.mk.injEq,List.cons.injEq,Value.int.injEq,Value.string.injEq,Value.slice.injEq,true_and,and_true] at htv
 obtain⟨rfl,rfl,rfl,rfl,rfl,rfl,⟨rfl,rfl,rfl⟩,rfl⟩:=htv
 have hm2:q.blk b s'∈F2:=hF2.mem_iff.2 (.head _)
 intro b3 I3 l3 hb3
 have hq3:=hq2.mono l3
 refine Tri.ret (p_any hq3 (Sl.words (ws:=mulW) hb3 rfl) (by decide) (s:=s') (.tail _ (.tail _ hm2))) fun I4 l4=>⟨_,rfl,F2,.refl _,fun ha=>?_,fun ha=>?_⟩
 ·have ha:=of_decide_eq_true ha
  rw[hres,loopF_stop ha]
  exact⟨t,rfl,rfl,hok.mono (Imm.le_trans l3 l4) fun _ h=>h,hF2⟩
 have ha:=of_decide_eq_false ha
 have hab:=any_w (Int.not_lt.1 ha) (by decide)
 have hlt:=(any_lt (Int.not_lt.1 ha)).1
 have l24:=Imm.le_trans l3 l4
 have hna:=ha
 rw[w8 (n:=q.c.any mulW s') (by omega),w8 (n:=8+q.c.any mulW s') (by omega)]
 have hq4:=hq2.mono l24
 refine Tri.ret (p_now hq4 (s:=s') (.tail _ (.tail _ hm2))) fun I5 l5=>⟨_,_,_,_,_,rfl,F2,.refl _, ?_⟩
 refine⟨_,rfl,_,PQ.rd (k:=3) (.tail _ (.tail _ hm2)) rfl,_,rfl,q.cl s',107,F0,hF2,PQ.spot _ _,by rw[PQ.off];exact (by decide:3+1≤7), ?_⟩
 rw[PQ.inc_eq (by omega)]
 have hq5:=hq4.mono l5
 refine (hg b s'.inc I5 _ _ hq5 hlt pm2).mono fun e I6 G6 l6 ⟨t2,he,px2,hok2,hG6⟩=>?_
 refine⟨_,_,_,_,_,_,_,_,_,_,he,q.blk b (g s'.inc).2::F0,hG6.trans pm2.symm,fun b_k=>?_⟩
 refine (p_two (8+q.c.any mulW s') (q.c.now s').pos t t2 I6 _ (hok.mono (Imm.le_trans l24 (Imm.le_trans l5 l6)) fun _ h=>h) hok2).mono fun e I7 G7 l7 ⟨t3,he,px3,hok3,hG7⟩=>?_
 subst hG7
 have hup:=hm s'.inc
 have hup1:=hup.1
 rw[inc_next] at hup1
 have hup2:=hup.2 hlt
 obtain⟨k',rfl⟩:∃k',k=k'+1:=⟨k-1,by omega⟩
 refine⟨_,_,_,_,_,_,_,_,_,_,he,q.blk b (g s'.inc).2::F0,.refl _,q.c.l.length-(g s'.inc).2.next,by omega,(hq5.mono l6).mono l7,t3,(g s'.inc).2,k',rfl,hok3,.refl _,hup2,rfl,by omega, ?_⟩
 rw[hres,PC.loopF,if_neg hna,px3,px2]
theorem p_sum{g:PS→Px×PS}(hg:ExSpec 165 q d g)(hm:Mono q.c g):ExSpec 157 q d (q.c.loop addW 6 g):=by
 have _:=h0
 have _:=h1
 intro b s I F F0 hq hsn hF
 have hl:=hq.len
 refine ref13_Parser_sum.vc (fun x0 x1 x2 x3 x4 x5 xa xn xc x7 n0 n1 n2 n3 n4 n5 na nn nc n7 m I' F'=>q.ok I'∧∃(t:Nd) (s':PS) (k:Nat),t.v=(.agg #[.int .u8 n0,.int .u8 n1,.int .u8 n2,.int .i64 n3,.int .u8 n4,.string n5,.slice na nn nc,.int .i64 n7])∧NdOk I' [] t∧F'.Perm (q.blk b s'::F0)∧s'.next≤q.c.l.length∧m=q.c.l.length-s'.next∧q.c.l.length≤s'.next+k∧q.c.loop addW 6 g s=q.c.loopF addW 6 g k t.px s') ?_
 unfold ref13_Parser_sum.V
 intro b2
 refine (hg b s I _ _ hq hsn ((hF.cons _).trans pm1)).mono fun e I1 G1 l1 ⟨t,he,px,hok,hG1⟩=>?_
 refine⟨_,_,_,_,_,_,_,_,_,_,he,q.blk b (g s).2::F0,hG1.trans pm1,fun b_n=>⟨⟨_,hq.mono l1,t,(g s).2,q.c.l.length,rfl,hok,.refl _,(hm s).2 hsn,rfl,by omega,by rw[px];rfl⟩, ?_⟩⟩
 intro x0 x1 x2 x3 x4 x5 xa xn xc x7 n0 n1 n2 n3 n4 n5 na nn nc n7 m I2 F2 l2 ⟨hq2,t,s',k,htv,hok,hF2,hsn',hme,hfu,hres⟩
 simp only[Nd.v,Value.agg.injEq,Array.mk.injEq,List.cons.injEq,Value.int.injEq,Value.string.injEq,Value.slice.injEq,true_and,and_true] at htv
 obtain⟨rfl,rfl,rfl,rfl,rfl,rfl,⟨rfl,rfl,rfl⟩,rfl⟩:=htv
 have hm2:q.blk b s'∈F2:=hF2.mem_iff.2 (.head _)
 intro b3 I3 l3 hb3
 have hq3:=hq2.mono l3
 refine Tri.ret (p_any hq3 (Sl.words (ws:=addW) hb3 rfl) (by decide) (s:=s') (.tail _ (.tail _ hm2))) fun I4 l4=>⟨_,rfl,F2,.refl _,fun ha=>?_,fun ha=>?_⟩
 ·have ha:=of_decide_eq_true ha
  rw[hres,loopF_stop ha]
  exact⟨t,rfl,rfl,hok.mono (Imm.le_trans l3 l4) fun _ h=>h,hF2⟩
 have ha:=of_decide_eq_false ha
 have hab:=any_w (Int.not_lt.1 ha) (by decide)
 have hlt:=(any_lt (Int.not_lt.1 ha)).1
 have l24:=Imm.le_trans l3 l4
 have hna:=ha
 rw[w8 (n:=q.c.any addW s') (by omega),w8 (n:=6+q.c.any addW s') (by omega)]
 have hq4:=hq2.mono l24
 refine Tri.ret (p_now hq4 (s:=s') (.tail _ (.tail _ hm2))) fun I5 l5=>⟨_,_,_,_,_,rfl,F2,.refl _, ?_⟩
 refine⟨_,rfl,_,PQ.rd (k:=3) (.tail _ (.tail _ hm2)) rfl,_,rfl,q.cl s',107,F0,hF2,PQ.spot _ _,by rw[PQ.off];exact (by decide:3+1≤7), ?_⟩
 rw[PQ.inc_eq (by omega)]
 have hq5:=hq4.mono l5
 refine (hg b s'.inc I5 _ _ hq5 hlt pm2).mono fun e I6 G6 l6 ⟨t2,he,px2,hok2,hG6⟩=>?_
 refine⟨_,_,_,_,_,_,_,_,_,_,he,q.blk b (g s'.inc).2::F0,hG6.trans pm2.symm,fun b_k=>?_⟩
 refine (p_two (6+q.c.any addW s') (q.c.now s').pos t t2 I6 _ (hok.mono (Imm.le_trans l24 (Imm.le_trans l5 l6)) fun _ h=>h) hok2).mono fun e I7 G7 l7 ⟨t3,he,px3,hok3,hG7⟩=>?_
 subst hG7
 have hup:=hm s'.inc
 have hup1:=hup.1
 rw[inc_next] at hup1
 have hup2:=hup.2 hlt
 obtain⟨k',rfl⟩:∃k',k=k'+1:=⟨k-1,by omega⟩
 refine⟨_,_,_,_,_,_,_,_,_,_,he,q.blk b (g s'.inc).2::F0,.refl _,q.c.l.length-(g s'.inc).2.next,by omega,(hq5.mono l6).mono l7,t3,(g s'.inc).2,k',rfl,hok3,.refl _,hup2,rfl,by omega, ?_⟩
 rw[hres,PC.loopF,if_neg hna,px3,px2]
theorem p_and{g:PS→Px×PS}(hg:ExSpec 145 q d g)(hm:Mono q.c g):ExSpec 120 q d (q.c.loop andW 17 g):=by
 have _:=h0
 have _:=h1
 intro b s I F F0 hq hsn hF
 have hl:=hq.len
 refine ref13_Parser_and.vc (fun x0 x1 x2 x3 x4 x5 xa xn xc x7 n0 n1 n2 n3 n4 n5 na nn nc n7 m I' F'=>q.ok I'∧∃(t:Nd) (s':PS) (k:Nat),t.v=(.agg #[.int .u8 n0,.int .u8 n1,.int .u8 n2,.int .i64 n3,.int .u8 n4,.string n5,.slice na nn nc,.int .i64 n7])∧NdOk I' [] t∧F'.Perm (q.blk b s'::F0)∧s'.next≤q.c.l.length∧m=q.c.l.length-s'.next∧q.c.l.length≤s'.next+k∧q.c.loop andW 17 g s=q.c.loopF andW 17 g k t.px s') ?_
 unfold ref13_Parser_and.V
 intro b2
 refine (hg b s I _ _ hq hsn ((hF.cons _).trans pm1)).mono fun e I1 G1 l1 ⟨t,he,px,hok,hG1⟩=>?_
 refine⟨_,_,_,_,_,_,_,_,_,_,he,q.blk b (g s).2::F0,hG1.trans pm1,fun b_n=>⟨⟨_,hq.mono l1,t,(g s).2,q.c.l.length,rfl,hok,.refl _,(hm s).2 hsn,rfl,by omega,by rw[px];rfl⟩, ?_⟩⟩
 intro x0 x1 x2 x3 x4 x5 xa xn xc x7 n0 n1 n2 n3 n4 n5 na nn nc n7 m I2 F2 l2 ⟨hq2,t,s',k,htv,hok,hF2,hsn',hme,hfu,hres⟩
 simp only[Nd.v,Value.agg.injEq,Array.mk.injEq,List.cons.injEq,Value.int.injEq,Value.string.injEq,Value.slice.injEq,true_and,and_true] at htv
 obtain⟨rfl,rfl,rfl,rfl,rfl,rfl,⟨rfl,rfl,rfl⟩,rfl⟩:=htv
 have hm2:q.blk b s'∈F2:=hF2.mem_iff.2 (.head _)
 refine Tri.ret (p_is hq2 _ (s:=s') (.tail _ (.tail _ hm2))) fun I4 l24=>⟨_,rfl,F2,.refl _,fun ha=>?_,fun ha=>?_⟩
 ·have ha:q.c.isW (⟨#[38,38]⟩:ByteArray) s'=false:=by simpa using ha
  rw[hres,loopF_stop (by unfold andW;rw[any_one,if_neg (by simp[ha])];decide)]
  exact⟨t,rfl,rfl,hok.mono l24 fun _ h=>h,hF2⟩
 have ha:q.c.isW (⟨#[38,38]⟩:ByteArray) s'=true:=by simpa using ha
 have hlt:=isW_lt ha
 have hz:q.c.any andW s'=0:=by unfold andW;rw[any_one,if_pos ha]
 have hna:¬q.c.any andW s'<0:=by omega
 have hq4:=hq2.mono l24
 refine Tri.ret (p_now hq4 (s:=s') (.tail _ (.tail _ hm2))) fun I5 l5=>⟨_,_,_,_,_,rfl,F2,.refl _, ?_⟩
 refine⟨_,rfl,_,PQ.rd (k:=3) (.tail _ (.tail _ hm2)) rfl,_,rfl,q.cl s',107,F0,hF2,PQ.spot _ _,by rw[PQ.off];exact (by decide:3+1≤7), ?_⟩
 rw[PQ.inc_eq (by omega)]
 have hq5:=hq4.mono l5
 refine (hg b s'.inc I5 _ _ hq5 hlt pm2).mono fun e I6 G6 l6 ⟨t2,he,px2,hok2,hG6⟩=>?_
 refine⟨_,_,_,_,_,_,_,_,_,_,he,q.blk b (g s'.inc).2::F0,hG6.trans pm2.symm,fun b_k=>?_⟩
 refine (p_two (17) (q.c.now s').pos t t2 I6 _ (hok.mono (Imm.le_trans l24 (Imm.le_trans l5 l6)) fun _ h=>h) hok2).mono fun e I7 G7 l7 ⟨t3,he,px3,hok3,hG7⟩=>?_
 subst hG7
 have hup:=hm s'.inc
 have hup1:=hup.1
 rw[inc_next] at hup1
 have hup2:=hup.2 hlt
 obtain⟨k',rfl⟩:∃k',k=k'+1:=⟨k-1,by omega⟩
 refine⟨_,_,_,_,_,_,_,_,_,_,he,q.blk b (g s'.inc).2::F0,.refl _,q.c.l.length-(g s'.inc).2.next,by omega,(hq5.mono l6).mono l7,t3,(g s'.inc).2,k',rfl,hok3,.refl _,hup2,rfl,by omega, ?_⟩
 rw[hres,PC.loopF,if_neg hna,px3,px2,hz]
 try rfl
theorem p_or{g:PS→Px×PS}(hg:ExSpec 120 q d g)(hm:Mono q.c g):ExSpec 85 q d (q.c.loop orW 18 g):=by
 have _:=h0
 have _:=h1
 intro b s I F F0 hq hsn hF
 have hl:=hq.len
 refine ref13_Parser_or.vc (fun x0 x1 x2 x3 x4 x5 xa xn xc x7 n0 n1 n2 n3 n4 n5 na nn nc n7 m I' F'=>q.ok I'∧∃(t:Nd) (s':PS) (k:Nat),t.v=(.agg #[.int .u8 n0,.int .u8 n1,.int .u8 n2,.int .i64 n3,.int .u8 n4,.string n5,.slice na nn nc,.int .i64 n7])∧NdOk I' [] t∧F'.Perm (q.blk b s'::F0)∧s'.next≤q.c.l.length∧m=q.c.l.length-s'.next∧q.c.l.length≤s'.next+k∧q.c.loop orW 18 g s=q.c.loopF orW 18 g k t.px s') ?_
 unfold ref13_Parser_or.V
 intro b2
 refine (hg b s I _ _ hq hsn ((hF.cons _).trans pm1)).mono fun e I1 G1 l1 ⟨t,he,px,hok,hG1⟩=>?_
 refine⟨_,_,_,_,_,_,_,_,_,_,he,q.blk b (g s).2::F0,hG1.trans pm1,fun b_n=>⟨⟨_,hq.mono l1,t,(g s).2,q.c.l.length,rfl,hok,.refl _,(hm s).2 hsn,rfl,by omega,by rw[px];rfl⟩, ?_⟩⟩
 intro x0 x1 x2 x3 x4 x5 xa xn xc x7 n0 n1 n2 n3 n4 n5 na nn nc n7 m I2 F2 l2 ⟨hq2,t,s',k,htv,hok,hF2,hsn',hme,hfu,hres⟩
 simp only[Nd.v,Value.agg.injEq,Array.mk.injEq,List.cons.injEq,Value.int.injEq,Value.string.injEq,Value.slice.injEq,true_and,and_true] at htv
 obtain⟨rfl,rfl,rfl,rfl,rfl,rfl,⟨rfl,rfl,rfl⟩,rfl⟩:=htv
 have hm2:q.blk b s'∈F2:=hF2.mem_iff.2 (.head _)
 refine Tri.ret (p_is hq2 _ (s:=s') (.tail _ (.tail _ hm2))) fun I4 l24=>⟨_,rfl,F2,.refl _,fun ha=>?_,fun ha=>?_⟩
 ·have ha:q.c.isW (⟨#[124,124]⟩:ByteArray) s'=false:=by simpa using ha
  rw[hres,loopF_stop (by unfold orW;rw[any_one,if_neg (by simp[ha])];decide)]
  exact⟨t,rfl,rfl,hok.mono l24 fun _ h=>h,hF2⟩
 have ha:q.c.isW (⟨#[124,124]⟩:ByteArray) s'=true:=by simpa using ha
 have hlt:=isW_lt ha
 have hz:q.c.any orW s'=0:=by unfold orW;rw[any_one,if_pos ha]
 have hna:¬q.c.any orW s'<0:=by omega
 have hq4:=hq2.mono l24
 refine Tri.ret (p_now hq4 (s:=s') (.tail _ (.tail _ hm2))) fun I5 l5=>⟨_,_,_,_,_,rfl,F2,.refl _, ?_⟩
 refine⟨_,rfl,_,PQ.rd (k:=3) (.tail _ (.tail _ hm2)) rfl,_,rfl,q.cl s',107,F0,hF2,PQ.spot _ _,by rw[PQ.off];exact (by decide:3+1≤7), ?_⟩
 rw[PQ.inc_eq (by omega)]
 have hq5:=hq4.mono l5
 refine (hg b s'.inc I5 _ _ hq5 hlt pm2).mono fun e I6 G6 l6 ⟨t2,he,px2,hok2,hG6⟩=>?_
 refine⟨_,_,_,_,_,_,_,_,_,_,he,q.blk b (g s'.inc).2::F0,hG6.trans pm2.symm,fun b_k=>?_⟩
 refine (p_two (18) (q.c.now s').pos t t2 I6 _ (hok.mono (Imm.le_trans l24 (Imm.le_trans l5 l6)) fun _ h=>h) hok2).mono fun e I7 G7 l7 ⟨t3,he,px3,hok3,hG7⟩=>?_
 subst hG7
 have hup:=hm s'.inc
 have hup1:=hup.1
 rw[inc_next] at hup1
 have hup2:=hup.2 hlt
 obtain⟨k',rfl⟩:∃k',k=k'+1:=⟨k-1,by omega⟩
 refine⟨_,_,_,_,_,_,_,_,_,_,he,q.blk b (g s'.inc).2::F0,.refl _,q.c.l.length-(g s'.inc).2.next,by omega,(hq5.mono l6).mono l7,t3,(g s'.inc).2,k',rfl,hok3,.refl _,hup2,rfl,by omega, ?_⟩
 rw[hres,PC.loopF,if_neg hna,px3,px2,hz]
 try rfl
end
end Go.Lx
namespace Go.Lx
open Go.Vc
section
variable {q:PQ} {nx:Lv} {d:Int} (h0:0≤d) (h1:d≤24)
include h0 h1
theorem p_compare(hg:ExSpec 157 q d (q.c.sum nx d))(hm:Mono q.c (q.c.sum nx d)):ExSpec 145 q d (q.c.compare nx d):=by
 have _:=h0
 have _:=h1
 intro b s I F F0 hq hsn hF
 have hl:=hq.len
 refine ref13_Parser_compare.vc ?_
 unfold ref13_Parser_compare.V
 intro b2
 refine (hg b s I _ _ hq hsn ((hF.cons _).trans pm1)).mono fun e I1 G1 l1 ⟨t,he,px,hok,hG1⟩=>?_
 unfold PC.compare
 have hs2:=(hm s).2 hsn
 generalize hgs:q.c.sum nx d s=n at px hG1 hs2 ⊢
 refine⟨_,_,_,_,_,_,_,_,_,_,he,q.blk b n.2::F0,hG1.trans pm1,fun b_n b3 I2 l2 hb3=>?_⟩
 have hq2:=(hq.mono l1).mono l2
 refine Tri.ret (p_any hq2 (Sl.words (ws:=cmpW) hb3 rfl) (by decide) (s:=n.2) (.tail _ (.tail _ (.head _)))) fun I3 l3=>⟨_,rfl,q.blk b n.2::F0,.refl _,fun ha=>?_,fun ha=>?_⟩
 ·have ha:=of_decide_eq_true ha
  show RetNd q b F0 (if q.c.any cmpW n.2<0 then n else _) _ _ _
  rw[if_pos ha]
  exact⟨t,rfl,px,hok.mono (Imm.le_trans l2 l3) fun _ h=>h,.refl _⟩
 have ha:=of_decide_eq_false ha
 have hab:=any_w (Int.not_lt.1 ha) (by decide)
 have hlt:=(any_lt (Int.not_lt.1 ha)).1
 have hq3:=hq2.mono l3
 rw[w8 (n:=q.c.any cmpW n.2) (by omega),w8 (n:=11+q.c.any cmpW n.2) (by omega)]
 refine Tri.ret (p_now hq3 (s:=n.2) (.tail _ (.tail _ (.head _)))) fun I4 l4=>⟨_,_,_,_,_,rfl,q.blk b n.2::F0,.refl _, ?_⟩
 refine⟨_,rfl,_,PQ.rd (k:=3) (.tail _ (.tail _ (.head _))) rfl,_,rfl,q.cl n.2,107,F0,.refl _,PQ.spot _ _,by rw[PQ.off];exact (by decide:3+1≤7), ?_⟩
 rw[PQ.inc_eq (by omega)]
 have hq4:=hq3.mono l4
 refine (hg b n.2.inc I4 _ _ hq4 hlt pm2).mono fun e I5 G5 l5 ⟨t2,he,px2,hok2,hG5⟩=>?_
 refine⟨_,_,_,_,_,_,_,_,_,_,he,q.blk b (q.c.sum nx d n.2.inc).2::F0,hG5.trans pm2.symm,fun b_k=>?_⟩
 refine (p_two (11+q.c.any cmpW n.2) (q.c.now n.2).pos t t2 I5 _ (hok.mono (Imm.le_trans l2 (Imm.le_trans l3 (Imm.le_trans l4 l5))) fun _ h=>h) hok2).mono fun e I6 G6 l6 ⟨t3,he,px3,hok3,hG⟩=>?_
 subst hG
 refine⟨_,_,_,_,_,_,_,_,_,_,he,q.blk b (q.c.sum nx d n.2.inc).2::F0,.refl _, ?_⟩
 show RetNd q b F0 (if q.c.any cmpW n.2<0 then n else _) _ _ _
 rw[if_neg ha]
 exact⟨t3,rfl,by rw[px3,px,px2],hok3,.refl _⟩
theorem p_expr(hg:ExSpec 85 q d (q.c.or nx d))(hm:Mono q.c (q.c.or nx d))(hx:d+1≤24→ExSpec 53 q (d+1) nx.ex)(hmx:Mono q.c nx.ex):ExSpec 53 q d (q.c.expr nx d):=by
 intro b s I F F0 hq hsn hF
 have hl:=hq.len
 refine ref13_Parser_expr.vc ?_
 unfold ref13_Parser_expr.V
 intro b2
 refine (hg b s I _ _ hq hsn ((hF.cons _).trans pm1)).mono fun e I1 G1 l1 ⟨t,he,px,hok,hG1⟩=>?_
 unfold PC.expr
 have hs2:=(hm s).2 hsn
 generalize hgs:q.c.or nx d s=n at px hG1 hs2 ⊢
 refine⟨_,_,_,_,_,_,_,_,_,_,he,q.blk b n.2::F0,hG1.trans pm1,fun b_n=>?_⟩
 have hq1:=hq.mono l1
 refine Tri.ret (p_is hq1 _ (s:=n.2) (.tail _ (.tail _ (.head _)))) fun I2 l2=>⟨_,rfl,q.blk b n.2::F0,.refl _,fun ha=>?_,fun ha=>?_⟩
 ·have ha:q.c.isW (⟨#[63]⟩:ByteArray) n.2=false:=by simpa using ha
  show RetNd q b F0 (if q.c.isW (⟨#[63]⟩:ByteArray) n.2 then _ else n) _ _ _
  rw[if_neg (by simp[ha])]
  exact⟨t,rfl,px,hok.mono l2 fun _ h=>h,.refl _⟩
 have ha:q.c.isW (⟨#[63]⟩:ByteArray) n.2=true:=by simpa using ha
 have hlt:=isW_lt ha
 have hq2:=hq1.mono l2
 refine (p_deeper hq2 d h0 (by omega) (s:=n.2) pm2).mono fun e I3 G l3 ⟨he,hG⟩=>⟨_,he,q.blk b (q.c.deeper d n.2)::F0,hG.trans pm2.symm,fun h=>?_,fun h=>?_⟩
 ·have h:(q.c.deeper d n.2).over=true:=by simpa using h
  show RetNd q b F0 (if q.c.isW (⟨#[63]⟩:ByteArray) n.2 then (if (q.c.deeper d n.2).over then (zPx,q.c.deeper d n.2) else _) else n) _ _ _
  rw[if_pos ha,if_pos h]
  exact RetNd.nil rfl (.refl _)
 have h:(q.c.deeper d n.2).over=false:=by simpa using h
 obtain⟨hd,hde⟩:=deeper_le hlt h
 rw[hde]
 have hq3:=hq2.mono l3
 refine Tri.ret (p_now hq3 (s:=n.2) (.tail _ (.tail _ (.head _)))) fun I4 l4=>⟨_,_,_,_,_,rfl,q.blk b n.2::F0,.refl _, ?_⟩
 refine⟨_,rfl,_,PQ.rd (k:=3) (.tail _ (.tail _ (.head _))) rfl,_,rfl,q.cl n.2,107,F0,.refl _,PQ.spot _ _,by rw[PQ.off];exact (by decide:3+1≤7), ?_⟩
 rw[PQ.inc_eq (by omega),w64 (n:=d+1) (by omega)]
 have hq4:=hq3.mono l4
 refine (hx hd b n.2.inc I4 _ _ hq4 hlt pm2).mono fun e I5 G5 l5 ⟨t2,he,px2,hok2,hG5⟩=>?_
 refine⟨_,_,_,_,_,_,_,_,_,_,he,q.blk b (nx.ex n.2.inc).2::F0,hG5.trans pm2.symm,fun b_a=>?_⟩
 have hq5:=hq4.mono l5
 have hn5:=(hmx n.2.inc).2 hlt
 refine (p_take hq5 _ (s:=(nx.ex n.2.inc).2) pm3).mono fun e I6 G6 l6 ⟨he,hG6⟩=>⟨_,he,q.blk b (q.c.take (⟨#[58]⟩:ByteArray) (nx.ex n.2.inc).2).2::F0,hG6.trans pm3.symm, ?_⟩
 have hq6:=hq5.mono l6
 have hn6:=(Up.take (c:=q.c) (s:=(nx.ex n.2.inc).2) (⟨#[58]⟩:ByteArray)).2 hn5
 refine (hx hd b (q.c.take (⟨#[58]⟩:ByteArray) (nx.ex n.2.inc).2).2 I6 _ _ hq6 hn6 pm3).mono fun e I7 G7 l7 ⟨t3,he,px3,hok3,hG7⟩=>?_
 refine⟨_,_,_,_,_,_,_,_,_,_,he,q.blk b (nx.ex (q.c.take (⟨#[58]⟩:ByteArray) (nx.ex n.2.inc).2).2).2::F0,hG7.trans pm3.symm,fun b_b b4 I8 l8 hb4=>?_⟩
 show RetNd q b F0 (if q.c.isW (⟨#[63]⟩:ByteArray) n.2 then (if (q.c.deeper d n.2).over then _ else _) else n) _ _ _
 rw[if_pos ha,if_neg (by simp[h])]
 refine⟨.mk 7 0 0 0 0 ⟨#[]⟩ (some ⟨b4,0,none⟩) 3 [t,t2,t3] (q.c.now n.2).pos,rfl, ?_,NdOk.kids2 hb4 (fun k hk=>?_) .., ?_⟩
 ·simp only[Nd.px,Nd.pxs,px,px2,px3]
  rw[hde]
 ·simp only[List.mem_cons,List.not_mem_nil,or_false] at hk
  rcases hk with rfl | rfl | rfl
  ·exact hok.mono (Imm.le_trans l2 (Imm.le_trans l3 (Imm.le_trans l4 (Imm.le_trans l5 (Imm.le_trans l6 (Imm.le_trans l7 l8)))))) fun _ h=>h
  ·exact hok2.mono (Imm.le_trans l6 (Imm.le_trans l7 l8)) fun _ h=>h
  ·exact hok3.mono l8 fun _ h=>h
 ·rw[hde]
theorem p_level(hx:d+1≤24→ExSpec 53 q (d+1) nx.ex)(hmx:Mono q.c nx.ex)(hu:d+1≤24→ExSpec 170 q (d+1) nx.un)(hmu:Mono q.c nx.un) :
  ExSpec 53 q d (q.c.expr nx d)∧ExSpec 170 q d (q.c.unary nx d):=by
 have e1:=p_unary h0 h1 hx hmx hu hmu
 have e2:=p_product h0 h1 e1 (Up.unary hmx hmu d)
 have e3:=p_sum h0 h1 e2 (Up.product hmx hmu d)
 have e4:=p_compare h0 h1 e3 (Up.sum hmx hmu d)
 have e5:=p_and h0 h1 e4 (Up.compare hmx hmu d)
 have e6:=p_or h0 h1 e5 (Up.and hmx hmu d)
 exact⟨p_expr h0 h1 e6 (Up.or hmx hmu d) hx hmx,e1⟩
end
theorem p_lvl{q:PQ}:∀(k:Nat) (d:Int),0≤d→d≤24→24≤d+k→ExSpec 53 q d (q.c.lvl k d).ex∧ExSpec 170 q d (q.c.lvl k d).un
 | 0,d,h0,h1,h2=>p_level h0 h1 (fun h=>by omega) (fun s=>.refl) (fun h=>by omega) (fun s=>.refl)
 | k+1,d,h0,h1,h2=>p_level h0 h1 (fun h=>(p_lvl k (d+1) (by omega) h (by omega)).1) (Up.lvl k (d+1)).1 (fun h=>(p_lvl k (d+1) (by omega) h (by omega)).2) (Up.lvl k (d+1)).2
theorem p_ex0{q:PQ}:ExSpec 53 q 0 q.c.ex0:=(p_lvl 24 0 (by decide) (by decide) (by decide)).1
end Go.Lx
namespace Go.Lx
open Go.Vc Go.Proofs.Tryz
def shT_p2:List (Nat×List Sh):=[(0,[]),(3,[.one (.int .i64)]),(4,[.one .bool]),(9,[.one .str]),(28,[.agg [(.int .u8),(.int .u8),(.int .u8),(.int .i64),(.int .u8),.str,.slc,(.int .i64)]]),(35,[.one .slc]),(36,[.one .slc]),(37,[.one .slc]),(39,[.agg [.str,.slc,.slc,.slc]]),(63,[.one .slc]),(65,[.agg [.str,.slc,(.int .i64)]]),(68,[.agg [(.int .i64),(.int .i64),.bool]]),(77,[.agg [.str,(.int .u8),(.int .u8),(.int .u8),(.int .u8),(.int .i64),(.int .u8),.str,.slc,(.int .i64),(.int .i64)]]),(82,[.one .slc]),(84,[.agg [(.int .u8),(.int .u8),(.int .u8),(.int .i64),(.int .u8),.str,.slc,(.int .i64),.slc,(.int .i64)]]),(97,[.one (.int .u8)]),(99,[.agg [(.int .u8),(.int .u8),.str,(.int .u8),(.int .u8),(.int .u8),(.int .i64),(.int .u8),.str,.slc,(.int .i64),(.int .u8),(.int .u8),(.int .u8),(.int .i64),(.int .u8),.str,.slc,(.int .i64),(.int .u8),(.int .u8),(.int .u8),(.int .i64),(.int .u8),.str,.slc,(.int .i64),(.int .u8),(.int .u8),(.int .u8),(.int .i64),(.int .u8),.str,.slc,(.int .i64),(.int .i64)]]),(102,[.one .ptr]),(145,[.agg [(.int .u8),.str,(.int .u8),(.int .i64),(.int .i64)]]),(195,[.agg [(.int .u8),(.int .u8),(.int .u8),(.int .i64),(.int .u8),.str,.slc,(.int .i64)],.one .bool])]
def ref13_Parser_reg.V(ka:Nat→Bs→Int→Int→Int→Int→Int→Int→Bs→OA→Nat→Nat→Int→Int→Nat×Obj)(nO:Int→Int→Int→Int→Int→Bs→OA→Nat→Nat→Int→Obj)(vb vi:Int→Value)(vs:Bs→Value)(vl:OA→Nat→Nat→Value)(vp:OA→Value)(p:Addr)(I:Imm)(F:Heap)(Q:PostQ)(Inv28:Bs→Int→Int→Int→Int→Int→Int→Bs→OA→Nat→Nat→Int→Int→Imm→Heap→Prop)(Inv46:Imm→Heap→Prop):Prop:=∀b:Nat,Tc1 P 89 (#[vp (some p),vs (⟨#[114,101,103]⟩:Bs)]) I ((ka b (⟨#[]⟩:Bs) 0 0 0 0 0 0 (⟨#[]⟩:Bs) none 0 0 0 0)::·) F vi fun r I1 F1=>∀a:Nat,Tc1 P 91 (#[vp (some p)]) I1 ((ka b (⟨#[]⟩:Bs) 0 0 0 0 0 0 (⟨#[]⟩:Bs) none 0 0 0 0)::(ka a (⟨#[]⟩:Bs) 0 0 0 0 0 0 (⟨#[]⟩:Bs) none 0 0 0 r)::·) F1 vs fun r1 I2 F2=>∀(b1:Nat) (I3:Imm),Imm.le I2 I3→I3 b1=some (Obj.cells #[vs (⟨#[105,110,116]⟩:Bs),vs (⟨#[113,116,121]⟩:Bs),vs (⟨#[112,114,105,99,101]⟩:Bs),vs (⟨#[116,105,109,101]⟩:Bs),vs (⟨#[98,111,111,108]⟩:Bs),vs (⟨#[115,105,100,101]⟩:Bs)] 9 (0,0))→Tc1 P 122 (#[vp (some p),vl (some ⟨b1,0,none⟩) 6 6]) I3 ((ka b (⟨#[]⟩:Bs) 0 0 0 0 0 0 (⟨#[]⟩:Bs) none 0 0 0 0)::(ka a r1 0 0 0 0 0 0 (⟨#[]⟩:Bs) none 0 0 0 r)::·) F2 vi fun r2 I4 F3=>(Dt (r2<0) (Tcn P 90 (#[vp (some p),vi 130]) I4 ((ka b (⟨#[]⟩:Bs) 0 0 0 0 0 0 (⟨#[]⟩:Bs) none 0 0 0 0)::(ka a r1 0 0 0 0 0 0 (⟨#[]⟩:Bs) none 0 0 0 r)::·) F3 fun e4 I5 G4=>e4=.returned (.tuple #[])∧G4 fun F4=>Q (.returned (.agg #[vs r1,vb 0,vb 0,vb 0,vb 0,vi 0,vb 0,vs (⟨#[]⟩:Bs),vl none 0 0,vi 0,vi r])) I5 F4) (∃ad:Addr,some p=some ad∧∃(m:Int),Rd I4 ((ka b (⟨#[]⟩:Bs) 0 0 0 0 0 0 (⟨#[]⟩:Bs) none 0 0 0 0)::(ka a r1 0 0 0 0 0 0 (⟨#[]⟩:Bs) none 0 0 0 r)::F3) (ad.add 3) [vi m]∧∃ac:Addr,some p=some ac∧∃(cs:List Value) (el:Nat) (F5:Heap),List.Perm F3 (((ac.add 3).block,Obj.cells cs.toArray el (0,0))::F5)∧(ac.add 3).spot=none∧(ac.add 3).off+1≤cs.length∧Tri P 89 (#[vp (some p),vs (⟨#[61]⟩:Bs)]) I4 ((ka b (⟨#[]⟩:Bs) 0 0 0 0 0 0 (⟨#[]⟩:Bs) none 0 0 0 0)::(ka a r1 (IntKind.wrap .u8 (1+(IntKind.wrap .u8 r2))) 0 0 0 0 0 (⟨#[]⟩:Bs) none 0 0 0 r)::(((ac.add 3).block,Obj.cells (splice (ac.add 3).off [vi (IntKind.wrap .i64 (m+1))] cs).toArray el (0,0))::F5)) fun e5 I6 G5=>∃(r3:Int),e5=.returned (vi r3)∧∃F6:Heap,List.Perm G5 ((ka b (⟨#[]⟩:Bs) 0 0 0 0 0 0 (⟨#[]⟩:Bs) none 0 0 0 0)::(ka a r1 (IntKind.wrap .u8 (1+(IntKind.wrap .u8 r2))) 0 0 0 0 0 (⟨#[]⟩:Bs) none 0 0 0 r)::F6)∧Tcn P 88 (#[vp (some p)]) I6 ((ka b (⟨#[]⟩:Bs) 0 0 0 0 0 0 (⟨#[]⟩:Bs) none 0 0 0 0)::(ka a r1 (IntKind.wrap .u8 (1+(IntKind.wrap .u8 r2))) 0 0 0 0 0 (⟨#[]⟩:Bs) none 0 0 0 r)::·) F6 fun e6 I7 G6=>∃(aq:Int) (ar:Bs) (au av ah:Int),e6=.returned (.agg #[vb aq,vs ar,vb au,vi av,vi ah])∧G6 fun F7=>Tc1 P 86 (#[vp (some p),vs (⟨#[45]⟩:Bs)]) I7 ((ka b (⟨#[]⟩:Bs) 0 0 0 0 0 0 (⟨#[]⟩:Bs) none 0 0 0 0)::(ka a r1 (IntKind.wrap .u8 (1+(IntKind.wrap .u8 r2))) 0 0 0 0 0 (⟨#[]⟩:Bs) none 0 0 0 r)::·) F7 .bool fun r4 I8 F8=>((It r4 (∃al:Addr,some p=some al∧∃(m1:Int),Rd I8 ((ka b (⟨#[]⟩:Bs) 0 0 0 0 0 0 (⟨#[]⟩:Bs) none 0 0 0 0)::(ka a r1 (IntKind.wrap .u8 (1+(IntKind.wrap .u8 r2))) 0 0 0 0 0 (⟨#[]⟩:Bs) none 0 0 0 r)::F8) (al.add 3) [vi m1]∧∃ae:Addr,some p=some ae∧∃(ai:List Value) (ak:Nat) (F9:Heap),List.Perm F8 (((ae.add 3).block,Obj.cells ai.toArray ak (0,0))::F9)∧(ae.add 3).spot=none∧(ae.add 3).off+1≤ai.length∧Tri P 88 (#[vp (some p)]) I8 ((ka b (⟨#[]⟩:Bs) 0 0 0 0 0 0 (⟨#[]⟩:Bs) none 0 0 0 0)::(ka a r1 (IntKind.wrap .u8 (1+(IntKind.wrap .u8 r2))) 0 0 0 0 0 (⟨#[]⟩:Bs) none 0 0 0 r)::(((ae.add 3).block,Obj.cells (splice (ae.add 3).off [vi (IntKind.wrap .i64 (m1+1))] ai).toArray ak (0,0))::F9)) fun e8 I9 G8=>∃(ag:Int) (am:Bs) (an ao ap:Int),e8=.returned (.agg #[vb ag,vs am,vb an,vi ao,vi ap])∧∃F10:Heap,List.Perm G8 ((ka b (⟨#[]⟩:Bs) 0 0 0 0 0 0 (⟨#[]⟩:Bs) none 0 0 0 0)::(ka a r1 (IntKind.wrap .u8 (1+(IntKind.wrap .u8 r2))) 0 0 0 0 0 (⟨#[]⟩:Bs) none 0 0 0 r)::F10)∧(It (ag != 3) (Tcn P 90 (#[vp (some p),vi 130]) I9 ((ka b (⟨#[]⟩:Bs) 0 0 0 0 0 0 (⟨#[]⟩:Bs) none 0 0 0 0)::(ka a r1 (IntKind.wrap .u8 (1+(IntKind.wrap .u8 r2))) 0 0 0 0 0 (⟨#[]⟩:Bs) none 0 0 0 r)::·) F10 fun e9 I10 G9=>e9=.returned (.tuple #[])∧G9 fun F11=>Q (.returned (.agg #[vs r1,vb (IntKind.wrap .u8 (1+(IntKind.wrap .u8 r2))),vb 0,vb 0,vb 0,vi 0,vb 0,vs (⟨#[]⟩:Bs),vl none 0 0,vi 0,vi r])) I10 F11) (Inv28 (⟨#[]⟩:Bs) 0 0 0 0 0 0 (⟨#[]⟩:Bs) none 0 0 0 0 I9 F10))) (Inv28 (⟨#[]⟩:Bs) 0 0 0 0 0 0 (⟨#[]⟩:Bs) none 0 0 0 0 I8 F8)))∧∀(t:Bs) (u v w x y z:Int) (aa:Bs) (f:OA) (g h:Nat) (ab s:Int) (I11:Imm) (F12:Heap),Imm.le I8 I11→Inv28 t u v w x y z aa f g h ab s I11 F12→Tcn P 123 (#[vp (some p)]) I11 ((ka b t u v w x y z aa f g h ab s)::(ka a r1 (IntKind.wrap .u8 (1+(IntKind.wrap .u8 r2))) 0 0 0 0 0 (⟨#[]⟩:Bs) none 0 0 0 r)::·) F12 fun aw I12 G10=>∃(i j k l n:Int) (o:Bs) (c:OA) (d e:Nat) (q:Int) (aj:Bool),aw=.returned (.tuple #[.agg #[vb i,vb j,vb k,vi l,vb n,vs o,vl c d e,vi q],.bool aj])∧G10 fun F13=>∀af:Nat,((It (!aj) (Tcn P 90 (#[vp (some p),vi 130]) I12 ((ka b t u v w x y z aa f g h ab s)::(ka a r1 (IntKind.wrap .u8 (1+(IntKind.wrap .u8 r2))) 0 0 0 0 0 (⟨#[]⟩:Bs) none 0 0 0 r)::(af,nO i j k l n o c d e q)::·) F13 fun ax I13 G11=>ax=.returned (.tuple #[])∧G11 fun F14=>Inv46 I13 F14) (Inv46 I12 F13)))∧∀(I14:Imm) (F15:Heap),Imm.le I12 I14→Inv46 I14 F15→(It r4 (∀(b2:Nat) (I15:Imm),Imm.le I14 I15→I15 b2=some (nO i j k l n o c d e q)→Tc1 P 89 (#[vp (some p),vs (⟨#[59]⟩:Bs)]) I15 ((ka b t u v w x y z aa f g h ab s)::(ka a r1 (IntKind.wrap .u8 (1+(IntKind.wrap .u8 r2))) 5 1 0 0 0 (⟨#[]⟩:Bs) (some ⟨b2,0,none⟩) 1 1 ah r)::(af,nO i j k l n o c d e q)::·) F15 vi fun r5 I16 F16=>Q (.returned (.agg #[vs r1,vb (IntKind.wrap .u8 (1+(IntKind.wrap .u8 r2))),vb 5,vb 1,vb 0,vi 0,vb 0,vs (⟨#[]⟩:Bs),vl (some ⟨b2,0,none⟩) 1 1,vi ah,vi r])) I16 F16) (Tc1 P 89 (#[vp (some p),vs (⟨#[59]⟩:Bs)]) I14 ((ka b t u v w x y z aa f g h ab s)::(ka a r1 (IntKind.wrap .u8 (1+(IntKind.wrap .u8 r2))) i j k l n o c d e q r)::(af,nO i j k l n o c d e q)::·) F15 vi fun r6 I17 F17=>Q (.returned (.agg #[vs r1,vb (IntKind.wrap .u8 (1+(IntKind.wrap .u8 r2))),vb i,vb j,vb k,vi l,vb n,vs o,vl c d e,vi q,vi r])) I17 F17))))
theorem ref13_Parser_reg.vc{p:Addr}{I:Imm}{F:Heap}{Q:PostQ}(Inv28:Bs→Int→Int→Int→Int→Int→Int→Bs→OA→Nat→Nat→Int→Int→Imm→Heap→Prop)(Inv46:Imm→Heap→Prop)(h:ref13_Parser_reg.V (fun W a b c d e f g h i j k l m=>(W,Obj.cells #[.string a,.int .u8 b,.int .u8 c,.int .u8 d,.int .u8 e,.int .i64 f,.int .u8 g,.string h,.slice i j k,.int .i64 l,.int .i64 m] 77 (0,0))) (fun k o t n f s a l c q=>.cells #[.int .u8 k,.int .u8 o,.int .u8 t,.int .i64 n,.int .u8 f,.string s,.slice a l c,.int .i64 q] 28 (0,0)) (.int .u8) (.int .i64) .string .slice .pointer p I F Q Inv28 Inv46):Tri P 93 #[.pointer (some p)] I F Q :=
 tw (A:=(annL [4001,12000,14003,18001,21000] [] [86,88,89,90,91,122,123] shT_p2 [(28,⟨[],[(0,[.str,(.int .u8),(.int .u8),(.int .u8),(.int .u8),(.int .i64),(.int .u8),.str,.slc,(.int .i64),(.int .i64)])],fun _ _ _ vs m I F=>match vs with | [.string y0,.int _ y1,.int _ y2,.int _ y3,.int _ y4,.int _ y5,.int _ y6,.string y7,.slice y8 y9 y10,.int _ y11,.int _ y12]=>Inv28 y0 y1 y2 y3 y4 y5 y6 y7 y8 y9 y10 y11 y12 I F | _=>False,[],[]⟩),(46,⟨[],[],fun _ _ _ vs m I F=>match vs with | []=>Inv46  I F | _=>False,[],[]⟩)] [3001,22001] [] [] [] [] [])) [86,88,89,90,91,122,123] func93 h
def ref13_Parser_submit.V(ka:Nat→Int→Int→Bs→Int→Int→Int→Int→Int→Bs→OA→Nat→Nat→Int→Int→Int→Int→Int→Int→Bs→OA→Nat→Nat→Int→Int→Int→Int→Int→Int→Bs→OA→Nat→Nat→Int→Int→Int→Int→Int→Int→Bs→OA→Nat→Nat→Int→Int→Nat×Obj)(kb:Int→Int→Bs→Int→Int→Int→Int→Int→Bs→OA→Nat→Nat→Int→Int→Int→Int→Int→Int→Bs→OA→Nat→Nat→Int→Int→Int→Int→Int→Int→Bs→OA→Nat→Nat→Int→Int→Int→Int→Int→Int→Bs→OA→Nat→Nat→Int→Int→Value)(nV:Int→Int→Int→Int→Int→Bs→OA→Nat→Nat→Int→Value)(vb vi:Int→Value)(vs:Bs→Value)(vl:OA→Nat→Nat→Value)(vp:OA→Value)(wr:Int→Int)(p:Addr)(I:Imm)(F:Heap)(Q:PostQ)  : Prop:=∀b:Nat,Tc1 P 89 (#[vp (some p),vs (⟨#[115,117,98,109,105,116]⟩:Bs)]) I ((ka b 0 0 (⟨#[]⟩:Bs) 0 0 0 0 0 (⟨#[]⟩:Bs) none 0 0 0 0 0 0 0 0 (⟨#[]⟩:Bs) none 0 0 0 0 0 0 0 0 (⟨#[]⟩:Bs) none 0 0 0 0 0 0 0 0 (⟨#[]⟩:Bs) none 0 0 0 0)::·) F vi fun r I1 F1=>∀ab:Nat,Tcn P 53 (#[vp (some p),vi 0]) I1 ((ka b 0 0 (⟨#[]⟩:Bs) 0 0 0 0 0 (⟨#[]⟩:Bs) none 0 0 0 0 0 0 0 0 (⟨#[]⟩:Bs) none 0 0 0 0 0 0 0 0 (⟨#[]⟩:Bs) none 0 0 0 0 0 0 0 0 (⟨#[]⟩:Bs) none 0 0 0 0)::(ka ab 1 0 (⟨#[]⟩:Bs) 0 0 0 0 0 (⟨#[]⟩:Bs) none 0 0 0 0 0 0 0 0 (⟨#[]⟩:Bs) none 0 0 0 0 0 0 0 0 (⟨#[]⟩:Bs) none 0 0 0 0 0 0 0 0 (⟨#[]⟩:Bs) none 0 0 0 r)::·) F1 fun e2 I2 G2=>∃(q s t u v:Int) (w:Bs) (e:OA) (f g:Nat) (x:Int),e2=.returned (nV q s t u v w e f g x)∧G2 fun F2=>Tc1 P 89 (#[vp (some p),vs (⟨#[111,102]⟩:Bs)]) I2 ((ka b 0 0 (⟨#[]⟩:Bs) 0 0 0 0 0 (⟨#[]⟩:Bs) none 0 0 0 0 0 0 0 0 (⟨#[]⟩:Bs) none 0 0 0 0 0 0 0 0 (⟨#[]⟩:Bs) none 0 0 0 0 0 0 0 0 (⟨#[]⟩:Bs) none 0 0 0 0)::(ka ab 1 0 (⟨#[]⟩:Bs) q s t u v w e f g x 0 0 0 0 0 (⟨#[]⟩:Bs) none 0 0 0 0 0 0 0 0 (⟨#[]⟩:Bs) none 0 0 0 0 0 0 0 0 (⟨#[]⟩:Bs) none 0 0 0 r)::·) F2 vi fun r1 I3 F3=>Tcn P 53 (#[vp (some p),vi 0]) I3 ((ka b 0 0 (⟨#[]⟩:Bs) 0 0 0 0 0 (⟨#[]⟩:Bs) none 0 0 0 0 0 0 0 0 (⟨#[]⟩:Bs) none 0 0 0 0 0 0 0 0 (⟨#[]⟩:Bs) none 0 0 0 0 0 0 0 0 (⟨#[]⟩:Bs) none 0 0 0 0)::(ka ab 1 0 (⟨#[]⟩:Bs) q s t u v w e f g x 0 0 0 0 0 (⟨#[]⟩:Bs) none 0 0 0 0 0 0 0 0 (⟨#[]⟩:Bs) none 0 0 0 0 0 0 0 0 (⟨#[]⟩:Bs) none 0 0 0 r)::·) F3 fun e4 I4 G4=>∃(h i j k l:Int) (n:Bs) (a:OA) (c d:Nat) (o:Int),e4=.returned (nV h i j k l n a c d o)∧G4 fun F4=>∀(b1:Nat) (I5:Imm),Imm.le I4 I5→I5 b1=some (Obj.cells #[vs (⟨#[109,97,114,107,101,116]⟩:Bs),vs (⟨#[97,116]⟩:Bs)] 9 (0,0))→Tc1 P 122 (#[vp (some p),vl (some ⟨b1,0,none⟩) 2 2]) I5 ((ka b 0 0 (⟨#[]⟩:Bs) 0 0 0 0 0 (⟨#[]⟩:Bs) none 0 0 0 0 0 0 0 0 (⟨#[]⟩:Bs) none 0 0 0 0 0 0 0 0 (⟨#[]⟩:Bs) none 0 0 0 0 0 0 0 0 (⟨#[]⟩:Bs) none 0 0 0 0)::(ka ab 1 0 (⟨#[]⟩:Bs) q s t u v w e f g x h i j k l n a c d o 0 0 0 0 0 (⟨#[]⟩:Bs) none 0 0 0 0 0 0 0 0 (⟨#[]⟩:Bs) none 0 0 0 r)::·) F4 vi fun r2 I6 F5=>(Dt (r2<0) (Tcn P 90 (#[vp (some p),vi 130]) I6 ((ka b 0 0 (⟨#[]⟩:Bs) 0 0 0 0 0 (⟨#[]⟩:Bs) none 0 0 0 0 0 0 0 0 (⟨#[]⟩:Bs) none 0 0 0 0 0 0 0 0 (⟨#[]⟩:Bs) none 0 0 0 0 0 0 0 0 (⟨#[]⟩:Bs) none 0 0 0 0)::(ka ab 1 0 (⟨#[]⟩:Bs) q s t u v w e f g x h i j k l n a c d o 0 0 0 0 0 (⟨#[]⟩:Bs) none 0 0 0 0 0 0 0 0 (⟨#[]⟩:Bs) none 0 0 0 r)::·) F5 fun e6 I7 G6=>e6=.returned (.tuple #[])∧G6 fun F6=>Q (.returned ((kb 1 0 (⟨#[]⟩:Bs) q s t u v w e f g x h i j k l n a c d o 0 0 0 0 0 (⟨#[]⟩:Bs) none 0 0 0 0 0 0 0 0 (⟨#[]⟩:Bs) none 0 0 0 r))) I7 F6) (∃ad:Addr,some p=some ad∧∃(m:Int),Rd I6 ((ka b 0 0 (⟨#[]⟩:Bs) 0 0 0 0 0 (⟨#[]⟩:Bs) none 0 0 0 0 0 0 0 0 (⟨#[]⟩:Bs) none 0 0 0 0 0 0 0 0 (⟨#[]⟩:Bs) none 0 0 0 0 0 0 0 0 (⟨#[]⟩:Bs) none 0 0 0 0)::(ka ab 1 0 (⟨#[]⟩:Bs) q s t u v w e f g x h i j k l n a c d o 0 0 0 0 0 (⟨#[]⟩:Bs) none 0 0 0 0 0 0 0 0 (⟨#[]⟩:Bs) none 0 0 0 r)::F5) (ad.add 3) [vi m]∧∃ak:Addr,some p=some ak∧∃(cs:List Value) (el:Nat) (F7:Heap),List.Perm F5 (((ak.add 3).block,Obj.cells cs.toArray el (0,0))::F7)∧(ak.add 3).spot=none∧(ak.add 3).off+1≤cs.length∧(It (r2==1) (Tri P 53 (#[vp (some p),vi 0]) I6 ((ka b 0 0 (⟨#[]⟩:Bs) 0 0 0 0 0 (⟨#[]⟩:Bs) none 0 0 0 0 0 0 0 0 (⟨#[]⟩:Bs) none 0 0 0 0 0 0 0 0 (⟨#[]⟩:Bs) none 0 0 0 0 0 0 0 0 (⟨#[]⟩:Bs) none 0 0 0 0)::(ka ab 1 2 (⟨#[]⟩:Bs) q s t u v w e f g x h i j k l n a c d o 0 0 0 0 0 (⟨#[]⟩:Bs) none 0 0 0 0 0 0 0 0 (⟨#[]⟩:Bs) none 0 0 0 r)::(((ak.add 3).block,Obj.cells (splice (ak.add 3).off [vi (wr (m+1))] cs).toArray el (0,0))::F7)) fun e7 I8 G7=>∃(ac ae af ag ah:Int) (ai:Bs) (y:OA) (z aa:Nat) (aj:Int),e7=.returned (nV ac ae af ag ah ai y z aa aj)∧∃F8:Heap,List.Perm G7 ((ka b 0 0 (⟨#[]⟩:Bs) 0 0 0 0 0 (⟨#[]⟩:Bs) none 0 0 0 0 0 0 0 0 (⟨#[]⟩:Bs) none 0 0 0 0 0 0 0 0 (⟨#[]⟩:Bs) none 0 0 0 0 0 0 0 0 (⟨#[]⟩:Bs) none 0 0 0 0)::(ka ab 1 2 (⟨#[]⟩:Bs) q s t u v w e f g x h i j k l n a c d o 0 0 0 0 0 (⟨#[]⟩:Bs) none 0 0 0 0 0 0 0 0 (⟨#[]⟩:Bs) none 0 0 0 r)::F8)∧∀(b2:Nat) (I9:Imm),Imm.le I8 I9→I9 b2=some (Obj.cells #[vs (⟨#[108,105,109,105,116]⟩:Bs),vs (⟨#[105,111,99]⟩:Bs),vs (⟨#[102,111,107]⟩:Bs),vs (⟨#[112,111,115,116]⟩:Bs)] 9 (0,0))→Tc1 P 122 (#[vp (some p),vl (some ⟨b2,0,none⟩) 4 4]) I9 ((ka b 0 0 (⟨#[]⟩:Bs) 0 0 0 0 0 (⟨#[]⟩:Bs) none 0 0 0 0 0 0 0 0 (⟨#[]⟩:Bs) none 0 0 0 0 0 0 0 0 (⟨#[]⟩:Bs) none 0 0 0 0 0 0 0 0 (⟨#[]⟩:Bs) none 0 0 0 0)::(ka ab 1 2 (⟨#[]⟩:Bs) q s t u v w e f g x h i j k l n a c d o ac ae af ag ah ai y z aa aj 0 0 0 0 0 (⟨#[]⟩:Bs) none 0 0 0 r)::·) F8 vi fun r3 I10 F9=>(Dt (r3<0) (Tcn P 90 (#[vp (some p),vi 130]) I10 ((ka b 0 0 (⟨#[]⟩:Bs) 0 0 0 0 0 (⟨#[]⟩:Bs) none 0 0 0 0 0 0 0 0 (⟨#[]⟩:Bs) none 0 0 0 0 0 0 0 0 (⟨#[]⟩:Bs) none 0 0 0 0 0 0 0 0 (⟨#[]⟩:Bs) none 0 0 0 0)::(ka ab 1 2 (⟨#[]⟩:Bs) q s t u v w e f g x h i j k l n a c d o ac ae af ag ah ai y z aa aj 0 0 0 0 0 (⟨#[]⟩:Bs) none 0 0 0 r)::·) F9 fun e9 I11 G9=>e9=.returned (.tuple #[])∧G9 fun F10=>Q (.returned ((kb 1 2 (⟨#[]⟩:Bs) q s t u v w e f g x h i j k l n a c d o ac ae af ag ah ai y z aa aj 0 0 0 0 0 (⟨#[]⟩:Bs) none 0 0 0 r))) I11 F10) (∃aw:Addr,some p=some aw∧∃(m1:Int),Rd I10 ((ka b 0 0 (⟨#[]⟩:Bs) 0 0 0 0 0 (⟨#[]⟩:Bs) none 0 0 0 0 0 0 0 0 (⟨#[]⟩:Bs) none 0 0 0 0 0 0 0 0 (⟨#[]⟩:Bs) none 0 0 0 0 0 0 0 0 (⟨#[]⟩:Bs) none 0 0 0 0)::(ka ab 1 2 (⟨#[]⟩:Bs) q s t u v w e f g x h i j k l n a c d o ac ae af ag ah ai y z aa aj 0 0 0 0 0 (⟨#[]⟩:Bs) none 0 0 0 r)::F9) (aw.add 3) [vi m1]∧∃al:Addr,some p=some al∧∃(ao:List Value) (ap:Nat) (F11:Heap),List.Perm F9 (((al.add 3).block,Obj.cells ao.toArray ap (0,0))::F11)∧(al.add 3).spot=none∧(al.add 3).off+1≤ao.length∧∀(b3:Nat) (I12:Imm),Imm.le I10 I12→I12 b3=some (Obj.cells #[vb 1,vb 3,vb 4,vb 5] 97 (0,0))→((0≤r3∧r3<(4:Int))∧∃ax:Addr,some ⟨b3,0,none⟩=some ax∧∃(m2:Int),Rd I12 ((ka b 0 0 (⟨#[]⟩:Bs) 0 0 0 0 0 (⟨#[]⟩:Bs) none 0 0 0 0 0 0 0 0 (⟨#[]⟩:Bs) none 0 0 0 0 0 0 0 0 (⟨#[]⟩:Bs) none 0 0 0 0 0 0 0 0 (⟨#[]⟩:Bs) none 0 0 0 0)::(ka ab 1 2 (⟨#[]⟩:Bs) q s t u v w e f g x h i j k l n a c d o ac ae af ag ah ai y z aa aj 0 0 0 0 0 (⟨#[]⟩:Bs) none 0 0 0 r)::(((al.add 3).block,Obj.cells (splice (al.add 3).off [vi (wr (m1+1))] ao).toArray ap (0,0))::F11)) (ax.add (Int.toNat r3*1)) [vb m2]∧Tri P 86 (#[vp (some p),vs (⟨#[97,115]⟩:Bs)]) I12 ((ka b 0 0 (⟨#[]⟩:Bs) 0 0 0 0 0 (⟨#[]⟩:Bs) none 0 0 0 0 0 0 0 0 (⟨#[]⟩:Bs) none 0 0 0 0 0 0 0 0 (⟨#[]⟩:Bs) none 0 0 0 0 0 0 0 0 (⟨#[]⟩:Bs) none 0 0 0 0)::(ka ab 1 m2 (⟨#[]⟩:Bs) q s t u v w e f g x h i j k l n a c d o ac ae af ag ah ai y z aa aj 0 0 0 0 0 (⟨#[]⟩:Bs) none 0 0 0 r)::(((al.add 3).block,Obj.cells (splice (al.add 3).off [vi (wr (m1+1))] ao).toArray ap (0,0))::F11)) fun aA I13 G10=>∃(r4:Bool),aA=.returned (.bool r4)∧∃F12:Heap,List.Perm G10 ((ka b 0 0 (⟨#[]⟩:Bs) 0 0 0 0 0 (⟨#[]⟩:Bs) none 0 0 0 0 0 0 0 0 (⟨#[]⟩:Bs) none 0 0 0 0 0 0 0 0 (⟨#[]⟩:Bs) none 0 0 0 0 0 0 0 0 (⟨#[]⟩:Bs) none 0 0 0 0)::(ka ab 1 m2 (⟨#[]⟩:Bs) q s t u v w e f g x h i j k l n a c d o ac ae af ag ah ai y z aa aj 0 0 0 0 0 (⟨#[]⟩:Bs) none 0 0 0 r)::F12)∧(It r4 (∃ay:Addr,some p=some ay∧∃(m3:Int),Rd I13 ((ka b 0 0 (⟨#[]⟩:Bs) 0 0 0 0 0 (⟨#[]⟩:Bs) none 0 0 0 0 0 0 0 0 (⟨#[]⟩:Bs) none 0 0 0 0 0 0 0 0 (⟨#[]⟩:Bs) none 0 0 0 0 0 0 0 0 (⟨#[]⟩:Bs) none 0 0 0 0)::(ka ab 1 m2 (⟨#[]⟩:Bs) q s t u v w e f g x h i j k l n a c d o ac ae af ag ah ai y z aa aj 0 0 0 0 0 (⟨#[]⟩:Bs) none 0 0 0 r)::F12) (ay.add 3) [vi m3]∧∃am:Addr,some p=some am∧∃(aq:List Value) (au:Nat) (F13:Heap),List.Perm F12 (((am.add 3).block,Obj.cells aq.toArray au (0,0))::F13)∧(am.add 3).spot=none∧(am.add 3).off+1≤aq.length∧Tri P 91 (#[vp (some p)]) I13 ((ka b 0 0 (⟨#[]⟩:Bs) 0 0 0 0 0 (⟨#[]⟩:Bs) none 0 0 0 0 0 0 0 0 (⟨#[]⟩:Bs) none 0 0 0 0 0 0 0 0 (⟨#[]⟩:Bs) none 0 0 0 0 0 0 0 0 (⟨#[]⟩:Bs) none 0 0 0 0)::(ka ab 1 m2 (⟨#[]⟩:Bs) q s t u v w e f g x h i j k l n a c d o ac ae af ag ah ai y z aa aj 0 0 0 0 0 (⟨#[]⟩:Bs) none 0 0 0 r)::(((am.add 3).block,Obj.cells (splice (am.add 3).off [vi (wr (m3+1))] aq).toArray au (0,0))::F13)) fun aB I14 G11=>∃(r5:Bs),aB=.returned (vs r5)∧∃F14:Heap,List.Perm G11 ((ka b 0 0 (⟨#[]⟩:Bs) 0 0 0 0 0 (⟨#[]⟩:Bs) none 0 0 0 0 0 0 0 0 (⟨#[]⟩:Bs) none 0 0 0 0 0 0 0 0 (⟨#[]⟩:Bs) none 0 0 0 0 0 0 0 0 (⟨#[]⟩:Bs) none 0 0 0 0)::(ka ab 1 m2 (⟨#[]⟩:Bs) q s t u v w e f g x h i j k l n a c d o ac ae af ag ah ai y z aa aj 0 0 0 0 0 (⟨#[]⟩:Bs) none 0 0 0 r)::F14)∧Q (.returned ((kb 1 m2 r5 q s t u v w e f g x h i j k l n a c d o ac ae af ag ah ai y z aa aj 0 0 0 0 0 (⟨#[]⟩:Bs) none 0 0 0 r))) I14 F14) (Q (.returned ((kb 1 m2 (⟨#[]⟩:Bs) q s t u v w e f g x h i j k l n a c d o ac ae af ag ah ai y z aa aj 0 0 0 0 0 (⟨#[]⟩:Bs) none 0 0 0 r))) I13 F12)))))) (Tri P 86 (#[vp (some p),vs (⟨#[97,115]⟩:Bs)]) I6 ((ka b 0 0 (⟨#[]⟩:Bs) 0 0 0 0 0 (⟨#[]⟩:Bs) none 0 0 0 0 0 0 0 0 (⟨#[]⟩:Bs) none 0 0 0 0 0 0 0 0 (⟨#[]⟩:Bs) none 0 0 0 0 0 0 0 0 (⟨#[]⟩:Bs) none 0 0 0 0)::(ka ab 1 2 (⟨#[]⟩:Bs) q s t u v w e f g x h i j k l n a c d o 0 0 0 0 0 (⟨#[]⟩:Bs) none 0 0 0 0 0 0 0 0 (⟨#[]⟩:Bs) none 0 0 0 r)::(((ak.add 3).block,Obj.cells (splice (ak.add 3).off [vi (wr (m+1))] cs).toArray el (0,0))::F7)) fun aC I15 G12=>∃(r6:Bool),aC=.returned (.bool r6)∧∃F15:Heap,List.Perm G12 ((ka b 0 0 (⟨#[]⟩:Bs) 0 0 0 0 0 (⟨#[]⟩:Bs) none 0 0 0 0 0 0 0 0 (⟨#[]⟩:Bs) none 0 0 0 0 0 0 0 0 (⟨#[]⟩:Bs) none 0 0 0 0 0 0 0 0 (⟨#[]⟩:Bs) none 0 0 0 0)::(ka ab 1 2 (⟨#[]⟩:Bs) q s t u v w e f g x h i j k l n a c d o 0 0 0 0 0 (⟨#[]⟩:Bs) none 0 0 0 0 0 0 0 0 (⟨#[]⟩:Bs) none 0 0 0 r)::F15)∧(It r6 (∃az:Addr,some p=some az∧∃(m4:Int),Rd I15 ((ka b 0 0 (⟨#[]⟩:Bs) 0 0 0 0 0 (⟨#[]⟩:Bs) none 0 0 0 0 0 0 0 0 (⟨#[]⟩:Bs) none 0 0 0 0 0 0 0 0 (⟨#[]⟩:Bs) none 0 0 0 0 0 0 0 0 (⟨#[]⟩:Bs) none 0 0 0 0)::(ka ab 1 2 (⟨#[]⟩:Bs) q s t u v w e f g x h i j k l n a c d o 0 0 0 0 0 (⟨#[]⟩:Bs) none 0 0 0 0 0 0 0 0 (⟨#[]⟩:Bs) none 0 0 0 r)::F15) (az.add 3) [vi m4]∧∃an:Addr,some p=some an∧∃(ar:List Value) (av:Nat) (F16:Heap),List.Perm F15 (((an.add 3).block,Obj.cells ar.toArray av (0,0))::F16)∧(an.add 3).spot=none∧(an.add 3).off+1≤ar.length∧Tri P 91 (#[vp (some p)]) I15 ((ka b 0 0 (⟨#[]⟩:Bs) 0 0 0 0 0 (⟨#[]⟩:Bs) none 0 0 0 0 0 0 0 0 (⟨#[]⟩:Bs) none 0 0 0 0 0 0 0 0 (⟨#[]⟩:Bs) none 0 0 0 0 0 0 0 0 (⟨#[]⟩:Bs) none 0 0 0 0)::(ka ab 1 2 (⟨#[]⟩:Bs) q s t u v w e f g x h i j k l n a c d o 0 0 0 0 0 (⟨#[]⟩:Bs) none 0 0 0 0 0 0 0 0 (⟨#[]⟩:Bs) none 0 0 0 r)::(((an.add 3).block,Obj.cells (splice (an.add 3).off [vi (wr (m4+1))] ar).toArray av (0,0))::F16)) fun aD I16 G13=>∃(r7:Bs),aD=.returned (vs r7)∧∃F17:Heap,List.Perm G13 ((ka b 0 0 (⟨#[]⟩:Bs) 0 0 0 0 0 (⟨#[]⟩:Bs) none 0 0 0 0 0 0 0 0 (⟨#[]⟩:Bs) none 0 0 0 0 0 0 0 0 (⟨#[]⟩:Bs) none 0 0 0 0 0 0 0 0 (⟨#[]⟩:Bs) none 0 0 0 0)::(ka ab 1 2 (⟨#[]⟩:Bs) q s t u v w e f g x h i j k l n a c d o 0 0 0 0 0 (⟨#[]⟩:Bs) none 0 0 0 0 0 0 0 0 (⟨#[]⟩:Bs) none 0 0 0 r)::F17)∧Q (.returned ((kb 1 2 r7 q s t u v w e f g x h i j k l n a c d o 0 0 0 0 0 (⟨#[]⟩:Bs) none 0 0 0 0 0 0 0 0 (⟨#[]⟩:Bs) none 0 0 0 r))) I16 F17) (Q (.returned ((kb 1 2 (⟨#[]⟩:Bs) q s t u v w e f g x h i j k l n a c d o 0 0 0 0 0 (⟨#[]⟩:Bs) none 0 0 0 0 0 0 0 0 (⟨#[]⟩:Bs) none 0 0 0 r))) I15 F15))))))
theorem ref13_Parser_submit.vc{p:Addr}{I:Imm}{F:Heap}{Q:PostQ}  (h:ref13_Parser_submit.V (fun W a b c d e f g h i j k l m n o p q r s t u v w x y z aa ab ac ad ae af ag ah ai aj ak al am an ao ap aq ar=>(W,Obj.cells #[.int .u8 a,.int .u8 b,.string c,.int .u8 d,.int .u8 e,.int .u8 f,.int .i64 g,.int .u8 h,.string i,.slice j k l,.int .i64 m,.int .u8 n,.int .u8 o,.int .u8 p,.int .i64 q,.int .u8 r,.string s,.slice t u v,.int .i64 w,.int .u8 x,.int .u8 y,.int .u8 z,.int .i64 aa,.int .u8 ab,.string ac,.slice ad ae af,.int .i64 ag,.int .u8 ah,.int .u8 ai,.int .u8 aj,.int .i64 ak,.int .u8 al,.string am,.slice an ao ap,.int .i64 aq,.int .i64 ar] 99 (0,0))) (fun a b c d e f g h i j k l m n o p q r s t u v w x y z aa ab ac ad ae af ag ah ai aj ak al am an ao ap aq ar=>.agg #[.int .u8 a,.int .u8 b,.string c,.int .u8 d,.int .u8 e,.int .u8 f,.int .i64 g,.int .u8 h,.string i,.slice j k l,.int .i64 m,.int .u8 n,.int .u8 o,.int .u8 p,.int .i64 q,.int .u8 r,.string s,.slice t u v,.int .i64 w,.int .u8 x,.int .u8 y,.int .u8 z,.int .i64 aa,.int .u8 ab,.string ac,.slice ad ae af,.int .i64 ag,.int .u8 ah,.int .u8 ai,.int .u8 aj,.int .i64 ak,.int .u8 al,.string am,.slice an ao ap,.int .i64 aq,.int .i64 ar]) (fun k o t n f s a l c q=>.agg #[.int .u8 k,.int .u8 o,.int .u8 t,.int .i64 n,.int .u8 f,.string s,.slice a l c,.int .i64 q]) (.int .u8) (.int .i64) .string .slice .pointer (IntKind.wrap .i64) p I F Q):Tri P 158 #[.pointer (some p)] I F Q :=
 tw (A:=(annL [6001,11001,14001,20000] [] [53,86,89,90,91,122] shT_p2 [] [5001,13001,18000] [] [] [] [] [])) [53,86,89,90,91,122] func158 h
def ref13_Parser_do.V(ka:Nat→Int→Int→Bs→Int→Int→Int→Int→Int→Bs→OA→Nat→Nat→Int→Int→Int→Int→Int→Int→Bs→OA→Nat→Nat→Int→Int→Int→Int→Int→Int→Bs→OA→Nat→Nat→Int→Int→Int→Int→Int→Int→Bs→OA→Nat→Nat→Int→Int→Nat×Obj)(kb:Int→Int→Bs→Int→Int→Int→Int→Int→Bs→OA→Nat→Nat→Int→Int→Int→Int→Int→Int→Bs→OA→Nat→Nat→Int→Int→Int→Int→Int→Int→Bs→OA→Nat→Nat→Int→Int→Int→Int→Int→Int→Bs→OA→Nat→Nat→Int→Int→Value)(nV:Int→Int→Int→Int→Int→Bs→OA→Nat→Nat→Int→Value)(vb vi:Int→Value)(vs:Bs→Value)(vl:OA→Nat→Nat→Value)(vp:OA→Value)(wr:Int→Int)(p:Addr)(I:Imm)(F:Heap)(Q:PostQ)  : Prop:=∀b:Nat,Tcn P 88 (#[vp (some p)]) I ((ka b 0 0 (⟨#[]⟩:Bs) 0 0 0 0 0 (⟨#[]⟩:Bs) none 0 0 0 0 0 0 0 0 (⟨#[]⟩:Bs) none 0 0 0 0 0 0 0 0 (⟨#[]⟩:Bs) none 0 0 0 0 0 0 0 0 (⟨#[]⟩:Bs) none 0 0 0 0)::·) F fun e1 I1 G1=>∃(bV:Int) (bW:Bs) (bX bY a:Int),e1=.returned (.agg #[vb bV,vs bW,vb bX,vi bY,vi a])∧G1 fun F1=>∀(b1:Nat) (I2:Imm),Imm.le I1 I2→I2 b1=some (Obj.cells #[vs (⟨#[115,117,98,109,105,116]⟩:Bs),vs (⟨#[97,109,101,110,100]⟩:Bs),vs (⟨#[99,97,110,99,101,108]⟩:Bs),vs (⟨#[115,101,116]⟩:Bs),vs (⟨#[103,111,116,111]⟩:Bs),vs (⟨#[104,97,108,116]⟩:Bs)] 9 (0,0))→Tc1 P 122 (#[vp (some p),vl (some ⟨b1,0,none⟩) 6 6]) I2 ((ka b 0 0 (⟨#[]⟩:Bs) 0 0 0 0 0 (⟨#[]⟩:Bs) none 0 0 0 0 0 0 0 0 (⟨#[]⟩:Bs) none 0 0 0 0 0 0 0 0 (⟨#[]⟩:Bs) none 0 0 0 0 0 0 0 0 (⟨#[]⟩:Bs) none 0 0 0 0)::·) F1 vi fun r I3 F2=>(Dt (r<0) (Tcn P 90 (#[vp (some p),vi 130]) I3 ((ka b 0 0 (⟨#[]⟩:Bs) 0 0 0 0 0 (⟨#[]⟩:Bs) none 0 0 0 0 0 0 0 0 (⟨#[]⟩:Bs) none 0 0 0 0 0 0 0 0 (⟨#[]⟩:Bs) none 0 0 0 0 0 0 0 0 (⟨#[]⟩:Bs) none 0 0 0 0)::·) F2 fun e3 I4 G3=>e3=.returned (.tuple #[])∧G3 fun F3=>Q (.returned ((kb 0 0 (⟨#[]⟩:Bs) 0 0 0 0 0 (⟨#[]⟩:Bs) none 0 0 0 0 0 0 0 0 (⟨#[]⟩:Bs) none 0 0 0 0 0 0 0 0 (⟨#[]⟩:Bs) none 0 0 0 0 0 0 0 0 (⟨#[]⟩:Bs) none 0 0 0 0))) I4 F3) (It (r==0) (Tcn P 158 (#[vp (some p)]) I3 ((ka b 0 0 (⟨#[]⟩:Bs) 0 0 0 0 0 (⟨#[]⟩:Bs) none 0 0 0 0 0 0 0 0 (⟨#[]⟩:Bs) none 0 0 0 0 0 0 0 0 (⟨#[]⟩:Bs) none 0 0 0 0 0 0 0 0 (⟨#[]⟩:Bs) none 0 0 0 0)::·) F2 fun e4 I5 G4=>∃(a9 ba:Int) (bb:Bs) (bc bd bR bS bT:Int) (bU:Bs) (aT:OA) (aU aV:Nat) (be aW bf bg bh bi:Int) (bj:Bs) (ay:OA) (az aA:Nat) (bk bl bm aX bn bo:Int) (bp:Bs) (aB:OA) (aC aD:Nat) (bq br bs bt bu aY:Int) (bv:Bs) (aE:OA) (aF aG:Nat) (bw bx:Int),e4=.returned ((kb a9 ba bb bc bd bR bS bT bU aT aU aV be aW bf bg bh bi bj ay az aA bk bl bm aX bn bo bp aB aC aD bq br bs bt bu aY bv aE aF aG bw bx))∧G4 fun F4=>Q (.returned ((kb a9 ba bb bc bd bR bS bT bU aT aU aV be aW bf bg bh bi bj ay az aA bk bl bm aX bn bo bp aB aC aD bq br bs bt bu aY bv aE aF aG bw bx))) I5 F4) (∃ad:Addr,some p=some ad∧∃(m:Int),Rd I3 ((ka b 0 0 (⟨#[]⟩:Bs) 0 0 0 0 0 (⟨#[]⟩:Bs) none 0 0 0 0 0 0 0 0 (⟨#[]⟩:Bs) none 0 0 0 0 0 0 0 0 (⟨#[]⟩:Bs) none 0 0 0 0 0 0 0 0 (⟨#[]⟩:Bs) none 0 0 0 0)::F2) (ad.add 3) [vi m]∧∃am:Addr,some p=some am∧∃(cs:List Value) (el:Nat) (F5:Heap),List.Perm F2 (((am.add 3).block,Obj.cells cs.toArray el (0,0))::F5)∧(am.add 3).spot=none∧(am.add 3).off+1≤cs.length∧∀c:Nat,(It ((IntKind.wrap .u8 (1+(IntKind.wrap .u8 r)))!=6) (Tri P 91 (#[vp (some p)]) I3 ((ka b 0 0 (⟨#[]⟩:Bs) 0 0 0 0 0 (⟨#[]⟩:Bs) none 0 0 0 0 0 0 0 0 (⟨#[]⟩:Bs) none 0 0 0 0 0 0 0 0 (⟨#[]⟩:Bs) none 0 0 0 0 0 0 0 0 (⟨#[]⟩:Bs) none 0 0 0 0)::(ka c (IntKind.wrap .u8 (1+(IntKind.wrap .u8 r))) 0 (⟨#[]⟩:Bs) 0 0 0 0 0 (⟨#[]⟩:Bs) none 0 0 0 0 0 0 0 0 (⟨#[]⟩:Bs) none 0 0 0 0 0 0 0 0 (⟨#[]⟩:Bs) none 0 0 0 0 0 0 0 0 (⟨#[]⟩:Bs) none 0 0 0 a)::(((am.add 3).block,Obj.cells (splice (am.add 3).off [vi (wr (m+1))] cs).toArray el (0,0))::F5)) fun e5 I6 G5=>∃(r1:Bs),e5=.returned (vs r1)∧∃F6:Heap,List.Perm G5 ((ka b 0 0 (⟨#[]⟩:Bs) 0 0 0 0 0 (⟨#[]⟩:Bs) none 0 0 0 0 0 0 0 0 (⟨#[]⟩:Bs) none 0 0 0 0 0 0 0 0 (⟨#[]⟩:Bs) none 0 0 0 0 0 0 0 0 (⟨#[]⟩:Bs) none 0 0 0 0)::(ka c (IntKind.wrap .u8 (1+(IntKind.wrap .u8 r))) 0 (⟨#[]⟩:Bs) 0 0 0 0 0 (⟨#[]⟩:Bs) none 0 0 0 0 0 0 0 0 (⟨#[]⟩:Bs) none 0 0 0 0 0 0 0 0 (⟨#[]⟩:Bs) none 0 0 0 0 0 0 0 0 (⟨#[]⟩:Bs) none 0 0 0 a)::F6)∧(It ((IntKind.wrap .u8 (1+(IntKind.wrap .u8 r)))==2) (Tc1 P 89 (#[vp (some p),vs (⟨#[116,111]⟩:Bs)]) I6 ((ka b 0 0 (⟨#[]⟩:Bs) 0 0 0 0 0 (⟨#[]⟩:Bs) none 0 0 0 0 0 0 0 0 (⟨#[]⟩:Bs) none 0 0 0 0 0 0 0 0 (⟨#[]⟩:Bs) none 0 0 0 0 0 0 0 0 (⟨#[]⟩:Bs) none 0 0 0 0)::(ka c (IntKind.wrap .u8 (1+(IntKind.wrap .u8 r))) 0 r1 0 0 0 0 0 (⟨#[]⟩:Bs) none 0 0 0 0 0 0 0 0 (⟨#[]⟩:Bs) none 0 0 0 0 0 0 0 0 (⟨#[]⟩:Bs) none 0 0 0 0 0 0 0 0 (⟨#[]⟩:Bs) none 0 0 0 a)::·) F6 vi fun r2 I7 F7=>Tcn P 53 (#[vp (some p),vi 0]) I7 ((ka b 0 0 (⟨#[]⟩:Bs) 0 0 0 0 0 (⟨#[]⟩:Bs) none 0 0 0 0 0 0 0 0 (⟨#[]⟩:Bs) none 0 0 0 0 0 0 0 0 (⟨#[]⟩:Bs) none 0 0 0 0 0 0 0 0 (⟨#[]⟩:Bs) none 0 0 0 0)::(ka c (IntKind.wrap .u8 (1+(IntKind.wrap .u8 r))) 0 r1 0 0 0 0 0 (⟨#[]⟩:Bs) none 0 0 0 0 0 0 0 0 (⟨#[]⟩:Bs) none 0 0 0 0 0 0 0 0 (⟨#[]⟩:Bs) none 0 0 0 0 0 0 0 0 (⟨#[]⟩:Bs) none 0 0 0 a)::·) F7 fun e7 I8 G7=>∃(l n o q s:Int) (t:Bs) (g:OA) (h i:Nat) (u:Int),e7=.returned (nV l n o q s t g h i u)∧G7 fun F8=>Tc1 P 89 (#[vp (some p),vs (⟨#[97,116]⟩:Bs)]) I8 ((ka b 0 0 (⟨#[]⟩:Bs) 0 0 0 0 0 (⟨#[]⟩:Bs) none 0 0 0 0 0 0 0 0 (⟨#[]⟩:Bs) none 0 0 0 0 0 0 0 0 (⟨#[]⟩:Bs) none 0 0 0 0 0 0 0 0 (⟨#[]⟩:Bs) none 0 0 0 0)::(ka c (IntKind.wrap .u8 (1+(IntKind.wrap .u8 r))) 0 r1 0 0 0 0 0 (⟨#[]⟩:Bs) none 0 0 0 l n o q s t g h i u 0 0 0 0 0 (⟨#[]⟩:Bs) none 0 0 0 0 0 0 0 0 (⟨#[]⟩:Bs) none 0 0 0 a)::·) F8 vi fun r3 I9 F9=>Tcn P 53 (#[vp (some p),vi 0]) I9 ((ka b 0 0 (⟨#[]⟩:Bs) 0 0 0 0 0 (⟨#[]⟩:Bs) none 0 0 0 0 0 0 0 0 (⟨#[]⟩:Bs) none 0 0 0 0 0 0 0 0 (⟨#[]⟩:Bs) none 0 0 0 0 0 0 0 0 (⟨#[]⟩:Bs) none 0 0 0 0)::(ka c (IntKind.wrap .u8 (1+(IntKind.wrap .u8 r))) 0 r1 0 0 0 0 0 (⟨#[]⟩:Bs) none 0 0 0 l n o q s t g h i u 0 0 0 0 0 (⟨#[]⟩:Bs) none 0 0 0 0 0 0 0 0 (⟨#[]⟩:Bs) none 0 0 0 a)::·) F9 fun e9 I10 G9=>∃(an ah ai ao ap:Int) (aq:Bs) (v:OA) (w x:Nat) (ar:Int),e9=.returned (nV an ah ai ao ap aq v w x ar)∧G9 fun F10=>(It ((IntKind.wrap .u8 (1+(IntKind.wrap .u8 r)))==4) (Tc1 P 89 (#[vp (some p),vs (⟨#[61]⟩:Bs)]) I10 ((ka b 0 0 (⟨#[]⟩:Bs) 0 0 0 0 0 (⟨#[]⟩:Bs) none 0 0 0 0 0 0 0 0 (⟨#[]⟩:Bs) none 0 0 0 0 0 0 0 0 (⟨#[]⟩:Bs) none 0 0 0 0 0 0 0 0 (⟨#[]⟩:Bs) none 0 0 0 0)::(ka c (IntKind.wrap .u8 (1+(IntKind.wrap .u8 r))) 0 r1 0 0 0 0 0 (⟨#[]⟩:Bs) none 0 0 0 l n o q s t g h i u an ah ai ao ap aq v w x ar 0 0 0 0 0 (⟨#[]⟩:Bs) none 0 0 0 a)::·) F10 vi fun r4 I11 F11=>Tcn P 53 (#[vp (some p),vi 0]) I11 ((ka b 0 0 (⟨#[]⟩:Bs) 0 0 0 0 0 (⟨#[]⟩:Bs) none 0 0 0 0 0 0 0 0 (⟨#[]⟩:Bs) none 0 0 0 0 0 0 0 0 (⟨#[]⟩:Bs) none 0 0 0 0 0 0 0 0 (⟨#[]⟩:Bs) none 0 0 0 0)::(ka c (IntKind.wrap .u8 (1+(IntKind.wrap .u8 r))) 0 r1 0 0 0 0 0 (⟨#[]⟩:Bs) none 0 0 0 l n o q s t g h i u an ah ai ao ap aq v w x ar 0 0 0 0 0 (⟨#[]⟩:Bs) none 0 0 0 a)::·) F11 fun b0 I12 G11=>∃(bz aZ a0 bA bB:Int) (bC:Bs) (aH:OA) (aI aJ:Nat) (bD:Int),b0=.returned (nV bz aZ a0 bA bB bC aH aI aJ bD)∧G11 fun F12=>Q (.returned ((kb (IntKind.wrap .u8 (1+(IntKind.wrap .u8 r))) 0 r1 0 0 0 0 0 (⟨#[]⟩:Bs) none 0 0 0 l n o q s t g h i u an ah ai ao ap aq v w x ar bz aZ a0 bA bB bC aH aI aJ bD a))) I12 F12) (Q (.returned ((kb (IntKind.wrap .u8 (1+(IntKind.wrap .u8 r))) 0 r1 0 0 0 0 0 (⟨#[]⟩:Bs) none 0 0 0 l n o q s t g h i u an ah ai ao ap aq v w x ar 0 0 0 0 0 (⟨#[]⟩:Bs) none 0 0 0 a))) I10 F10))) (It ((IntKind.wrap .u8 (1+(IntKind.wrap .u8 r)))==4) (Tc1 P 89 (#[vp (some p),vs (⟨#[61]⟩:Bs)]) I6 ((ka b 0 0 (⟨#[]⟩:Bs) 0 0 0 0 0 (⟨#[]⟩:Bs) none 0 0 0 0 0 0 0 0 (⟨#[]⟩:Bs) none 0 0 0 0 0 0 0 0 (⟨#[]⟩:Bs) none 0 0 0 0 0 0 0 0 (⟨#[]⟩:Bs) none 0 0 0 0)::(ka c (IntKind.wrap .u8 (1+(IntKind.wrap .u8 r))) 0 r1 0 0 0 0 0 (⟨#[]⟩:Bs) none 0 0 0 0 0 0 0 0 (⟨#[]⟩:Bs) none 0 0 0 0 0 0 0 0 (⟨#[]⟩:Bs) none 0 0 0 0 0 0 0 0 (⟨#[]⟩:Bs) none 0 0 0 a)::·) F6 vi fun r5 I13 F13=>Tcn P 53 (#[vp (some p),vi 0]) I13 ((ka b 0 0 (⟨#[]⟩:Bs) 0 0 0 0 0 (⟨#[]⟩:Bs) none 0 0 0 0 0 0 0 0 (⟨#[]⟩:Bs) none 0 0 0 0 0 0 0 0 (⟨#[]⟩:Bs) none 0 0 0 0 0 0 0 0 (⟨#[]⟩:Bs) none 0 0 0 0)::(ka c (IntKind.wrap .u8 (1+(IntKind.wrap .u8 r))) 0 r1 0 0 0 0 0 (⟨#[]⟩:Bs) none 0 0 0 0 0 0 0 0 (⟨#[]⟩:Bs) none 0 0 0 0 0 0 0 0 (⟨#[]⟩:Bs) none 0 0 0 0 0 0 0 0 (⟨#[]⟩:Bs) none 0 0 0 a)::·) F13 fun b3 I14 G13=>∃(bE a1 a2 bF bG:Int) (bH:Bs) (aK:OA) (aL aM:Nat) (bI:Int),b3=.returned (nV bE a1 a2 bF bG bH aK aL aM bI)∧G13 fun F14=>Q (.returned ((kb (IntKind.wrap .u8 (1+(IntKind.wrap .u8 r))) 0 r1 0 0 0 0 0 (⟨#[]⟩:Bs) none 0 0 0 0 0 0 0 0 (⟨#[]⟩:Bs) none 0 0 0 0 0 0 0 0 (⟨#[]⟩:Bs) none 0 0 0 bE a1 a2 bF bG bH aK aL aM bI a))) I14 F14) (Q (.returned ((kb (IntKind.wrap .u8 (1+(IntKind.wrap .u8 r))) 0 r1 0 0 0 0 0 (⟨#[]⟩:Bs) none 0 0 0 0 0 0 0 0 (⟨#[]⟩:Bs) none 0 0 0 0 0 0 0 0 (⟨#[]⟩:Bs) none 0 0 0 0 0 0 0 0 (⟨#[]⟩:Bs) none 0 0 0 a))) I6 F6)))) (It ((IntKind.wrap .u8 (1+(IntKind.wrap .u8 r)))==2) (Tri P 89 (#[vp (some p),vs (⟨#[116,111]⟩:Bs)]) I3 ((ka b 0 0 (⟨#[]⟩:Bs) 0 0 0 0 0 (⟨#[]⟩:Bs) none 0 0 0 0 0 0 0 0 (⟨#[]⟩:Bs) none 0 0 0 0 0 0 0 0 (⟨#[]⟩:Bs) none 0 0 0 0 0 0 0 0 (⟨#[]⟩:Bs) none 0 0 0 0)::(ka c (IntKind.wrap .u8 (1+(IntKind.wrap .u8 r))) 0 (⟨#[]⟩:Bs) 0 0 0 0 0 (⟨#[]⟩:Bs) none 0 0 0 0 0 0 0 0 (⟨#[]⟩:Bs) none 0 0 0 0 0 0 0 0 (⟨#[]⟩:Bs) none 0 0 0 0 0 0 0 0 (⟨#[]⟩:Bs) none 0 0 0 a)::(((am.add 3).block,Obj.cells (splice (am.add 3).off [vi (wr (m+1))] cs).toArray el (0,0))::F5)) fun b4 I15 G14=>∃(r6:Int),b4=.returned (vi r6)∧∃F15:Heap,List.Perm G14 ((ka b 0 0 (⟨#[]⟩:Bs) 0 0 0 0 0 (⟨#[]⟩:Bs) none 0 0 0 0 0 0 0 0 (⟨#[]⟩:Bs) none 0 0 0 0 0 0 0 0 (⟨#[]⟩:Bs) none 0 0 0 0 0 0 0 0 (⟨#[]⟩:Bs) none 0 0 0 0)::(ka c (IntKind.wrap .u8 (1+(IntKind.wrap .u8 r))) 0 (⟨#[]⟩:Bs) 0 0 0 0 0 (⟨#[]⟩:Bs) none 0 0 0 0 0 0 0 0 (⟨#[]⟩:Bs) none 0 0 0 0 0 0 0 0 (⟨#[]⟩:Bs) none 0 0 0 0 0 0 0 0 (⟨#[]⟩:Bs) none 0 0 0 a)::F15)∧Tcn P 53 (#[vp (some p),vi 0]) I15 ((ka b 0 0 (⟨#[]⟩:Bs) 0 0 0 0 0 (⟨#[]⟩:Bs) none 0 0 0 0 0 0 0 0 (⟨#[]⟩:Bs) none 0 0 0 0 0 0 0 0 (⟨#[]⟩:Bs) none 0 0 0 0 0 0 0 0 (⟨#[]⟩:Bs) none 0 0 0 0)::(ka c (IntKind.wrap .u8 (1+(IntKind.wrap .u8 r))) 0 (⟨#[]⟩:Bs) 0 0 0 0 0 (⟨#[]⟩:Bs) none 0 0 0 0 0 0 0 0 (⟨#[]⟩:Bs) none 0 0 0 0 0 0 0 0 (⟨#[]⟩:Bs) none 0 0 0 0 0 0 0 0 (⟨#[]⟩:Bs) none 0 0 0 a)::·) F15 fun b5 I16 G15=>∃(y j k z aa:Int) (ab:Bs) (d:OA) (e f:Nat) (ac:Int),b5=.returned (nV y j k z aa ab d e f ac)∧G15 fun F16=>Tc1 P 89 (#[vp (some p),vs (⟨#[97,116]⟩:Bs)]) I16 ((ka b 0 0 (⟨#[]⟩:Bs) 0 0 0 0 0 (⟨#[]⟩:Bs) none 0 0 0 0 0 0 0 0 (⟨#[]⟩:Bs) none 0 0 0 0 0 0 0 0 (⟨#[]⟩:Bs) none 0 0 0 0 0 0 0 0 (⟨#[]⟩:Bs) none 0 0 0 0)::(ka c (IntKind.wrap .u8 (1+(IntKind.wrap .u8 r))) 0 (⟨#[]⟩:Bs) 0 0 0 0 0 (⟨#[]⟩:Bs) none 0 0 0 y j k z aa ab d e f ac 0 0 0 0 0 (⟨#[]⟩:Bs) none 0 0 0 0 0 0 0 0 (⟨#[]⟩:Bs) none 0 0 0 a)::·) F16 vi fun r7 I17 F17=>Tcn P 53 (#[vp (some p),vi 0]) I17 ((ka b 0 0 (⟨#[]⟩:Bs) 0 0 0 0 0 (⟨#[]⟩:Bs) none 0 0 0 0 0 0 0 0 (⟨#[]⟩:Bs) none 0 0 0 0 0 0 0 0 (⟨#[]⟩:Bs) none 0 0 0 0 0 0 0 0 (⟨#[]⟩:Bs) none 0 0 0 0)::(ka c (IntKind.wrap .u8 (1+(IntKind.wrap .u8 r))) 0 (⟨#[]⟩:Bs) 0 0 0 0 0 (⟨#[]⟩:Bs) none 0 0 0 y j k z aa ab d e f ac 0 0 0 0 0 (⟨#[]⟩:Bs) none 0 0 0 0 0 0 0 0 (⟨#[]⟩:Bs) none 0 0 0 a)::·) F17 fun b7 I18 G17=>∃(au aj ak al av:Int) (aw:Bs) (ae:OA) (af ag:Nat) (ax:Int),b7=.returned (nV au aj ak al av aw ae af ag ax)∧G17 fun F18=>(It ((IntKind.wrap .u8 (1+(IntKind.wrap .u8 r)))==4) (Tc1 P 89 (#[vp (some p),vs (⟨#[61]⟩:Bs)]) I18 ((ka b 0 0 (⟨#[]⟩:Bs) 0 0 0 0 0 (⟨#[]⟩:Bs) none 0 0 0 0 0 0 0 0 (⟨#[]⟩:Bs) none 0 0 0 0 0 0 0 0 (⟨#[]⟩:Bs) none 0 0 0 0 0 0 0 0 (⟨#[]⟩:Bs) none 0 0 0 0)::(ka c (IntKind.wrap .u8 (1+(IntKind.wrap .u8 r))) 0 (⟨#[]⟩:Bs) 0 0 0 0 0 (⟨#[]⟩:Bs) none 0 0 0 y j k z aa ab d e f ac au aj ak al av aw ae af ag ax 0 0 0 0 0 (⟨#[]⟩:Bs) none 0 0 0 a)::·) F18 vi fun r8 I19 F19=>Tcn P 53 (#[vp (some p),vi 0]) I19 ((ka b 0 0 (⟨#[]⟩:Bs) 0 0 0 0 0 (⟨#[]⟩:Bs) none 0 0 0 0 0 0 0 0 (⟨#[]⟩:Bs) none 0 0 0 0 0 0 0 0 (⟨#[]⟩:Bs) none 0 0 0 0 0 0 0 0 (⟨#[]⟩:Bs) none 0 0 0 0)::(ka c (IntKind.wrap .u8 (1+(IntKind.wrap .u8 r))) 0 (⟨#[]⟩:Bs) 0 0 0 0 0 (⟨#[]⟩:Bs) none 0 0 0 y j k z aa ab d e f ac au aj ak al av aw ae af ag ax 0 0 0 0 0 (⟨#[]⟩:Bs) none 0 0 0 a)::·) F19 fun b9 I20 G19=>∃(bJ a3 a4 a5 bK:Int) (bL:Bs) (aN:OA) (aO aP:Nat) (bM:Int),b9=.returned (nV bJ a3 a4 a5 bK bL aN aO aP bM)∧G19 fun F20=>Q (.returned ((kb (IntKind.wrap .u8 (1+(IntKind.wrap .u8 r))) 0 (⟨#[]⟩:Bs) 0 0 0 0 0 (⟨#[]⟩:Bs) none 0 0 0 y j k z aa ab d e f ac au aj ak al av aw ae af ag ax bJ a3 a4 a5 bK bL aN aO aP bM a))) I20 F20) (Q (.returned ((kb (IntKind.wrap .u8 (1+(IntKind.wrap .u8 r))) 0 (⟨#[]⟩:Bs) 0 0 0 0 0 (⟨#[]⟩:Bs) none 0 0 0 y j k z aa ab d e f ac au aj ak al av aw ae af ag ax 0 0 0 0 0 (⟨#[]⟩:Bs) none 0 0 0 a))) I18 F18))) (It ((IntKind.wrap .u8 (1+(IntKind.wrap .u8 r)))==4) (Tri P 89 (#[vp (some p),vs (⟨#[61]⟩:Bs)]) I3 ((ka b 0 0 (⟨#[]⟩:Bs) 0 0 0 0 0 (⟨#[]⟩:Bs) none 0 0 0 0 0 0 0 0 (⟨#[]⟩:Bs) none 0 0 0 0 0 0 0 0 (⟨#[]⟩:Bs) none 0 0 0 0 0 0 0 0 (⟨#[]⟩:Bs) none 0 0 0 0)::(ka c (IntKind.wrap .u8 (1+(IntKind.wrap .u8 r))) 0 (⟨#[]⟩:Bs) 0 0 0 0 0 (⟨#[]⟩:Bs) none 0 0 0 0 0 0 0 0 (⟨#[]⟩:Bs) none 0 0 0 0 0 0 0 0 (⟨#[]⟩:Bs) none 0 0 0 0 0 0 0 0 (⟨#[]⟩:Bs) none 0 0 0 a)::(((am.add 3).block,Obj.cells (splice (am.add 3).off [vi (wr (m+1))] cs).toArray el (0,0))::F5)) fun ca I21 G20=>∃(r9:Int),ca=.returned (vi r9)∧∃F21:Heap,List.Perm G20 ((ka b 0 0 (⟨#[]⟩:Bs) 0 0 0 0 0 (⟨#[]⟩:Bs) none 0 0 0 0 0 0 0 0 (⟨#[]⟩:Bs) none 0 0 0 0 0 0 0 0 (⟨#[]⟩:Bs) none 0 0 0 0 0 0 0 0 (⟨#[]⟩:Bs) none 0 0 0 0)::(ka c (IntKind.wrap .u8 (1+(IntKind.wrap .u8 r))) 0 (⟨#[]⟩:Bs) 0 0 0 0 0 (⟨#[]⟩:Bs) none 0 0 0 0 0 0 0 0 (⟨#[]⟩:Bs) none 0 0 0 0 0 0 0 0 (⟨#[]⟩:Bs) none 0 0 0 0 0 0 0 0 (⟨#[]⟩:Bs) none 0 0 0 a)::F21)∧Tcn P 53 (#[vp (some p),vi 0]) I21 ((ka b 0 0 (⟨#[]⟩:Bs) 0 0 0 0 0 (⟨#[]⟩:Bs) none 0 0 0 0 0 0 0 0 (⟨#[]⟩:Bs) none 0 0 0 0 0 0 0 0 (⟨#[]⟩:Bs) none 0 0 0 0 0 0 0 0 (⟨#[]⟩:Bs) none 0 0 0 0)::(ka c (IntKind.wrap .u8 (1+(IntKind.wrap .u8 r))) 0 (⟨#[]⟩:Bs) 0 0 0 0 0 (⟨#[]⟩:Bs) none 0 0 0 0 0 0 0 0 (⟨#[]⟩:Bs) none 0 0 0 0 0 0 0 0 (⟨#[]⟩:Bs) none 0 0 0 0 0 0 0 0 (⟨#[]⟩:Bs) none 0 0 0 a)::·) F21 fun cb I22 G21=>∃(bN a6 a7 a8 bO:Int) (bP:Bs) (aQ:OA) (aR aS:Nat) (bQ:Int),cb=.returned (nV bN a6 a7 a8 bO bP aQ aR aS bQ)∧G21 fun F22=>Q (.returned ((kb (IntKind.wrap .u8 (1+(IntKind.wrap .u8 r))) 0 (⟨#[]⟩:Bs) 0 0 0 0 0 (⟨#[]⟩:Bs) none 0 0 0 0 0 0 0 0 (⟨#[]⟩:Bs) none 0 0 0 0 0 0 0 0 (⟨#[]⟩:Bs) none 0 0 0 bN a6 a7 a8 bO bP aQ aR aS bQ a))) I22 F22) (Q (.returned ((kb (IntKind.wrap .u8 (1+(IntKind.wrap .u8 r))) 0 (⟨#[]⟩:Bs) 0 0 0 0 0 (⟨#[]⟩:Bs) none 0 0 0 0 0 0 0 0 (⟨#[]⟩:Bs) none 0 0 0 0 0 0 0 0 (⟨#[]⟩:Bs) none 0 0 0 0 0 0 0 0 (⟨#[]⟩:Bs) none 0 0 0 a))) I3 ((((am.add 3).block,Obj.cells (splice (am.add 3).off [vi (wr (m+1))] cs).toArray el (0,0))::F5)))))))))
theorem ref13_Parser_do.vc{p:Addr}{I:Imm}{F:Heap}{Q:PostQ}  (h:ref13_Parser_do.V (fun W a b c d e f g h i j k l m n o p q r s t u v w x y z aa ab ac ad ae af ag ah ai aj ak al am an ao ap aq ar=>(W,Obj.cells #[.int .u8 a,.int .u8 b,.string c,.int .u8 d,.int .u8 e,.int .u8 f,.int .i64 g,.int .u8 h,.string i,.slice j k l,.int .i64 m,.int .u8 n,.int .u8 o,.int .u8 p,.int .i64 q,.int .u8 r,.string s,.slice t u v,.int .i64 w,.int .u8 x,.int .u8 y,.int .u8 z,.int .i64 aa,.int .u8 ab,.string ac,.slice ad ae af,.int .i64 ag,.int .u8 ah,.int .u8 ai,.int .u8 aj,.int .i64 ak,.int .u8 al,.string am,.slice an ao ap,.int .i64 aq,.int .i64 ar] 99 (0,0))) (fun a b c d e f g h i j k l m n o p q r s t u v w x y z aa ab ac ad ae af ag ah ai aj ak al am an ao ap aq ar=>.agg #[.int .u8 a,.int .u8 b,.string c,.int .u8 d,.int .u8 e,.int .u8 f,.int .i64 g,.int .u8 h,.string i,.slice j k l,.int .i64 m,.int .u8 n,.int .u8 o,.int .u8 p,.int .i64 q,.int .u8 r,.string s,.slice t u v,.int .i64 w,.int .u8 x,.int .u8 y,.int .u8 z,.int .i64 aa,.int .u8 ab,.string ac,.slice ad ae af,.int .i64 ag,.int .u8 ah,.int .u8 ai,.int .u8 aj,.int .i64 ak,.int .u8 al,.string am,.slice an ao ap,.int .i64 aq,.int .i64 ar]) (fun k o t n f s a l c q=>.agg #[.int .u8 k,.int .u8 o,.int .u8 t,.int .i64 n,.int .u8 f,.string s,.slice a l c,.int .i64 q]) (.int .u8) (.int .i64) .string .slice .pointer (IntKind.wrap .i64) p I F Q):Tri P 146 #[.pointer (some p)] I F Q :=
 tw (A:=(annL [3001,6001,10002,12002,17002] [] [53,88,89,90,91,122,158] shT_p2 [] [2001] [] [] [] [] [])) [53,88,89,90,91,122,158] func146 h
def ref13_Parser_rule.V(ka:Nat→Int→Int→Int→Int→Int→Bs→OA→Nat→Nat→Int→OA→Nat→Nat→Int→Nat×Obj)(kb:Nat→Int→Int→Bs→Int→Int→Int→Int→Int→Bs→OA→Nat→Nat→Int→Int→Int→Int→Int→Int→Bs→OA→Nat→Nat→Int→Int→Int→Int→Int→Int→Bs→OA→Nat→Nat→Int→Int→Int→Int→Int→Int→Bs→OA→Nat→Nat→Int→Int→Nat×Obj)(vb vi:Int→Value)(vs:Bs→Value)(vl:OA→Nat→Nat→Value)(vp:OA→Value)(p:Addr)(I:Imm)(F:Heap)(Q:PostQ)(Inv8:Int→Int→Int→Int→Int→Bs→OA→Nat→Nat→Int→OA→Nat→Nat→Int→Imm→Heap→Prop)(Inv10:Int→Int→Int→Int→Int→Bs→OA→Nat→Nat→Int→OA→Nat→Nat→Int→Nat→Imm→Heap→Prop):Prop:=∀b:Nat,Tc1 P 89 (#[vp (some p),vs (⟨#[119,104,101,110]⟩:Bs)]) I ((ka b 0 0 0 0 0 (⟨#[]⟩:Bs) none 0 0 0 none 0 0 0)::·) F vi fun r I1 F1=>∀aj:Nat,Tcn P 53 (#[vp (some p),vi 0]) I1 ((ka b 0 0 0 0 0 (⟨#[]⟩:Bs) none 0 0 0 none 0 0 0)::(ka aj 0 0 0 0 0 (⟨#[]⟩:Bs) none 0 0 0 none 0 0 r)::·) F1 fun e2 I2 G2=>∃(bb bc bd be bf:Int) (bg:Bs) (a6:OA) (a7 a8:Nat) (bh:Int),e2=.returned (.agg #[vb bb,vb bc,vb bd,vi be,vb bf,vs bg,vl a6 a7 a8,vi bh])∧G2 fun F2=>Tc1 P 89 (#[vp (some p),vs (⟨#[100,111]⟩:Bs)]) I2 ((ka b 0 0 0 0 0 (⟨#[]⟩:Bs) none 0 0 0 none 0 0 0)::(ka aj bb bc bd be bf bg a6 a7 a8 bh none 0 0 r)::·) F2 vi fun r1 I3 F3=>((∃m:Nat,Inv10 bb bc bd be bf bg a6 a7 a8 bh none 0 0 r m I3 F3)∧∀(e f g h i:Int) (j:Bs) (a:OA) (c d:Nat) (k:Int) (ag:OA) (ah ai:Nat) (l:Int) (m1:Nat) (I4:Imm) (F4:Heap),Imm.le I3 I4→Inv10 e f g h i j a c d k ag ah ai l m1 I4 F4→Tcn P 146 (#[vp (some p)]) I4 ((ka b 0 0 0 0 0 (⟨#[]⟩:Bs) none 0 0 0 none 0 0 0)::(ka aj e f g h i j a c d k ag ah ai l)::·) F4 fun e4 I5 G4=>∃(ak al:Int) (am:Bs) (an ao ap aU aq:Int) (aV:Bs) (z:OA) (aa ab:Nat) (ar ac au av aw ax:Int) (ay:Bs) (n:OA) (o q:Nat) (az aA aB ae aC aD:Int) (aE:Bs) (s:OA) (t u:Nat) (aF aG aH aI aJ af:Int) (aK:Bs) (w:OA) (x y:Nat) (aL aM:Int),e4=.returned (.agg #[vb ak,vb al,vs am,vb an,vb ao,vb ap,vi aU,vb aq,vs aV,vl z aa ab,vi ar,vb ac,vb au,vb av,vi aw,vb ax,vs ay,vl n o q,vi az,vb aA,vb aB,vb ae,vi aC,vb aD,vs aE,vl s t u,vi aF,vb aG,vb aH,vb aI,vi aJ,vb af,vs aK,vl w x y,vi aL,vi aM])∧G4 fun F5=>∀a9:Nat,∀(b1:Nat) (I6:Imm),Imm.le I5 I6→I6 b1=some (Obj.cells #[vb ak,vb al,vs am,vb an,vb ao,vb ap,vi aU,vb aq,vs aV,vl z aa ab,vi ar,vb ac,vb au,vb av,vi aw,vb ax,vs ay,vl n o q,vi az,vb aA,vb aB,vb ae,vi aC,vb aD,vs aE,vl s t u,vi aF,vb aG,vb aH,vb aI,vi aJ,vb af,vs aK,vl w x y,vi aL,vi aM] 99 (0,0))→TriE P (Builtin.append_ #[82,82] 82 #[vl ag ah ai,vl (some ⟨b1,0,none⟩) 1 1]) I6 ((ka b 0 0 0 0 0 (⟨#[]⟩:Bs) none 0 0 0 none 0 0 0)::(ka aj e f g h i j a c d k ag ah ai l)::(kb a9 ak al am an ao ap aU aq aV z aa ab ar ac au av aw ax ay n o q az aA aB ae aC aD aE s t u aF aG aH aI aJ af aK w x y aL aM)::F5) fun v I7 G5=>∃(aW:OA) (aT aX:Nat),v=vl aW aT aX∧∃F6:Heap,List.Perm G5 ((ka b 0 0 0 0 0 (⟨#[]⟩:Bs) none 0 0 0 none 0 0 0)::(ka aj e f g h i j a c d k ag ah ai l)::(kb a9 ak al am an ao ap aU aq aV z aa ab ar ac au av aw ax ay n o q az aA aB ae aC aD aE s t u aF aG aH aI aJ af aK w x y aL aM)::F6)∧Tc1 P 86 (#[vp (some p),vs (⟨#[44]⟩:Bs)]) I7 ((ka b 0 0 0 0 0 (⟨#[]⟩:Bs) none 0 0 0 none 0 0 0)::(ka aj e f g h i j a c d k aW aT aX l)::(kb a9 ak al am an ao ap aU aq aV z aa ab ar ac au av aw ax ay n o q az aA aB ae aC aD aE s t u aF aG aH aI aJ af aK w x y aL aM)::·) F6 .bool fun r2 I8 F7=>(It (!r2) (Inv8 e f g h i j a c d k aW aT aX l I8 F7) (Tc1 P 92 (#[vp (some p),vi (aT:Int),vi 8]) I8 ((ka b 0 0 0 0 0 (⟨#[]⟩:Bs) none 0 0 0 none 0 0 0)::(ka aj e f g h i j a c d k aW aT aX l)::(kb a9 ak al am an ao ap aU aq aV z aa ab ar ac au av aw ax ay n o q az aA aB ae aC aD aE s t u aF aG aH aI aJ af aK w x y aL aM)::·) F7 .bool fun r3 I9 F8=>(It (!r3) (Inv8 e f g h i j a c d k aW aT aX l I9 F8) (∃ad:Addr,some p=some ad∧∃(m2:Int),Rd I9 ((ka b 0 0 0 0 0 (⟨#[]⟩:Bs) none 0 0 0 none 0 0 0)::(ka aj e f g h i j a c d k aW aT aX l)::(kb a9 ak al am an ao ap aU aq aV z aa ab ar ac au av aw ax ay n o q az aA aB ae aC aD aE s t u aF aG aH aI aJ af aK w x y aL aM)::F8) (ad.add 3) [vi m2]∧∃ba:Addr,some p=some ba∧∃(cs:List Value) (el:Nat) (F9:Heap),List.Perm F8 (((ba.add 3).block,Obj.cells cs.toArray el (0,0))::F9)∧(ba.add 3).spot=none∧(ba.add 3).off+1≤cs.length∧(∃m3:Nat,m3<m1∧Inv10 e f g h i j a c d k aW aT aX l m3 I9 (((ba.add 3).block,Obj.cells (splice (ba.add 3).off [vi (IntKind.wrap .i64 (m2+1))] cs).toArray el (0,0))::F9)))))))∧∀(aY aZ a0 a1 a2:Int) (a3:Bs) (aN:OA) (aO aP:Nat) (a4:Int) (aQ:OA) (aR aS:Nat) (a5:Int) (I10:Imm) (F10:Heap),Imm.le I3 I10→Inv8 aY aZ a0 a1 a2 a3 aN aO aP a4 aQ aR aS a5 I10 F10→Tc1 P 89 (#[vp (some p),vs (⟨#[59]⟩:Bs)]) I10 ((ka b 0 0 0 0 0 (⟨#[]⟩:Bs) none 0 0 0 none 0 0 0)::(ka aj aY aZ a0 a1 a2 a3 aN aO aP a4 aQ aR aS a5)::·) F10 vi fun r4 I11 F11=>Q (.returned (.agg #[vb aY,vb aZ,vb a0,vi a1,vb a2,vs a3,vl aN aO aP,vi a4,vl aQ aR aS,vi a5])) I11 (F11)
theorem ref13_Parser_rule.vc{p:Addr}{I:Imm}{F:Heap}{Q:PostQ}(Inv8:Int→Int→Int→Int→Int→Bs→OA→Nat→Nat→Int→OA→Nat→Nat→Int→Imm→Heap→Prop)(Inv10:Int→Int→Int→Int→Int→Bs→OA→Nat→Nat→Int→OA→Nat→Nat→Int→Nat→Imm→Heap→Prop)(h:ref13_Parser_rule.V (fun W a b c d e f g h i j k l m n=>(W,Obj.cells #[.int .u8 a,.int .u8 b,.int .u8 c,.int .i64 d,.int .u8 e,.string f,.slice g h i,.int .i64 j,.slice k l m,.int .i64 n] 84 (0,0))) (fun W a b c d e f g h i j k l m n o p q r s t u v w x y z aa ab ac ad ae af ag ah ai aj ak al am an ao ap aq ar=>(W,Obj.cells #[.int .u8 a,.int .u8 b,.string c,.int .u8 d,.int .u8 e,.int .u8 f,.int .i64 g,.int .u8 h,.string i,.slice j k l,.int .i64 m,.int .u8 n,.int .u8 o,.int .u8 p,.int .i64 q,.int .u8 r,.string s,.slice t u v,.int .i64 w,.int .u8 x,.int .u8 y,.int .u8 z,.int .i64 aa,.int .u8 ab,.string ac,.slice ad ae af,.int .i64 ag,.int .u8 ah,.int .u8 ai,.int .u8 aj,.int .i64 ak,.int .u8 al,.string am,.slice an ao ap,.int .i64 aq,.int .i64 ar] 99 (0,0))) (.int .u8) (.int .i64) .string .slice .pointer p I F Q Inv8 Inv10):Tri P 124 #[.pointer (some p)] I F Q :=
 tw (A:=(annL [7001,9001] [] [53,86,89,92,146] shT_p2 [(8,⟨[],[(1,[(.int .u8),(.int .u8),(.int .u8),(.int .i64),(.int .u8),.str,.slc,(.int .i64),.slc,(.int .i64)])],fun _ _ _ vs m I F=>match vs with | [.int _ y0,.int _ y1,.int _ y2,.int _ y3,.int _ y4,.string y5,.slice y6 y7 y8,.int _ y9,.slice y10 y11 y12,.int _ y13]=>Inv8 y0 y1 y2 y3 y4 y5 y6 y7 y8 y9 y10 y11 y12 y13 I F | _=>False,[],[]⟩),(10,⟨[],[(1,[(.int .u8),(.int .u8),(.int .u8),(.int .i64),(.int .u8),.str,.slc,(.int .i64),.slc,(.int .i64)])],fun _ _ _ vs m I F=>match vs with | [.int _ y0,.int _ y1,.int _ y2,.int _ y3,.int _ y4,.string y5,.slice y6 y7 y8,.int _ y9,.slice y10 y11 y12,.int _ y13]=>Inv10 y0 y1 y2 y3 y4 y5 y6 y7 y8 y9 y10 y11 y12 y13 m I F | _=>False,[],[]⟩)] [5003] [] [] [] [] [])) [53,86,89,92,146] func124 h
def ref13_Parser_state.V(ka:Nat→Bs→OA→Nat→Nat→Int→Nat×Obj)(vb vi:Int→Value)(vs:Bs→Value)(vl:OA→Nat→Nat→Value)(vp:OA→Value)(p:Addr)(I:Imm)(F:Heap)(Q:PostQ)(Inv8:Bs→OA→Nat→Nat→Int→Imm→Heap→Prop)(Inv10:Bs→OA→Nat→Nat→Int→Nat→Imm→Heap→Prop):Prop:=∀b:Nat,Tc1 P 89 (#[vp (some p),vs (⟨#[115,116,97,116,101]⟩:Bs)]) I ((ka b (⟨#[]⟩:Bs) none 0 0 0)::·) F vi fun r I1 F1=>∀g:Nat,Tc1 P 91 (#[vp (some p)]) I1 ((ka b (⟨#[]⟩:Bs) none 0 0 0)::(ka g (⟨#[]⟩:Bs) none 0 0 r)::·) F1 vs fun r1 I2 F2=>Tc1 P 89 (#[vp (some p),vs (⟨#[123]⟩:Bs)]) I2 ((ka b (⟨#[]⟩:Bs) none 0 0 0)::(ka g r1 none 0 0 r)::·) F2 vi fun r2 I3 F3=>((∃m:Nat,Inv10 r1 none 0 0 r m I3 F3)∧∀(e:Bs) (c:OA) (a d:Nat) (f:Int) (m1:Nat) (I4:Imm) (F4:Heap),Imm.le I3 I4→Inv10 e c a d f m1 I4 F4→Tc1 P 86 (#[vp (some p),vs (⟨#[119,104,101,110]⟩:Bs)]) I4 ((ka b (⟨#[]⟩:Bs) none 0 0 0)::(ka g e c a d f)::·) F4 .bool fun r3 I5 F5=>(It (!r3) (Inv8 e c a d f I5 F5) (Tc1 P 92 (#[vp (some p),vi (a:Int),vi 12]) I5 ((ka b (⟨#[]⟩:Bs) none 0 0 0)::(ka g e c a d f)::·) F5 .bool fun r4 I6 F6=>(It (!r4) (Inv8 e c a d f I6 F6) (Tcn P 124 (#[vp (some p)]) I6 ((ka b (⟨#[]⟩:Bs) none 0 0 0)::(ka g e c a d f)::·) F6 fun e6 I7 G6=>∃(w x y z aa:Int) (ab:Bs) (n:OA) (o q:Nat) (ac:Int) (s:OA) (t u:Nat) (ad:Int),e6=.returned (.agg #[vb w,vb x,vb y,vi z,vb aa,vs ab,vl n o q,vi ac,vl s t u,vi ad])∧G6 fun F7=>∀ah:Nat,∀(b1:Nat) (I8:Imm),Imm.le I7 I8→I8 b1=some (Obj.cells #[vb w,vb x,vb y,vi z,vb aa,vs ab,vl n o q,vi ac,vl s t u,vi ad] 84 (0,0))→TriE P (Builtin.append_ #[63,63] 63 #[vl c a d,vl (some ⟨b1,0,none⟩) 1 1]) I8 ((ka b (⟨#[]⟩:Bs) none 0 0 0)::(ka g e c a d f)::(ah,Obj.cells #[vb w,vb x,vb y,vi z,vb aa,vs ab,vl n o q,vi ac,vl s t u,vi ad] 84 (0,0))::F7) fun v I9 G7=>∃(ae:OA) (af ag:Nat),v=vl ae af ag∧∃F8:Heap,List.Perm G7 ((ka b (⟨#[]⟩:Bs) none 0 0 0)::(ka g e c a d f)::(ah,Obj.cells #[vb w,vb x,vb y,vi z,vb aa,vs ab,vl n o q,vi ac,vl s t u,vi ad] 84 (0,0))::F8)∧(∃m2:Nat,m2<m1∧Inv10 e ae af ag f m2 I9 F8))))))∧∀(k:Bs) (h:OA) (i j:Nat) (l:Int) (I10:Imm) (F9:Heap),Imm.le I3 I10→Inv8 k h i j l I10 F9→Tc1 P 89 (#[vp (some p),vs (⟨#[125]⟩:Bs)]) I10 ((ka b (⟨#[]⟩:Bs) none 0 0 0)::(ka g k h i j l)::·) F9 vi fun r5 I11 F10=>Q (.returned (.agg #[vs k,vl h i j,vi l])) I11 (F10)
theorem ref13_Parser_state.vc{p:Addr}{I:Imm}{F:Heap}{Q:PostQ}(Inv8:Bs→OA→Nat→Nat→Int→Imm→Heap→Prop)(Inv10:Bs→OA→Nat→Nat→Int→Nat→Imm→Heap→Prop)(h:ref13_Parser_state.V (fun W a b c d e=>(W,Obj.cells #[.string a,.slice b c d,.int .i64 e] 65 (0,0))) (.int .u8) (.int .i64) .string .slice .pointer p I F Q Inv8 Inv10):Tri P 95 #[.pointer (some p)] I F Q :=
 tw (A:=(annL [5001,7001] [] [86,89,91,92,124] shT_p2 [(8,⟨[],[(1,[.str,.slc,(.int .i64)])],fun _ _ _ vs m I F=>match vs with | [.string y0,.slice y1 y2 y3,.int _ y4]=>Inv8 y0 y1 y2 y3 y4 I F | _=>False,[],[]⟩),(10,⟨[],[(1,[.str,.slc,(.int .i64)])],fun _ _ _ vs m I F=>match vs with | [.string y0,.slice y1 y2 y3,.int _ y4]=>Inv10 y0 y1 y2 y3 y4 m I F | _=>False,[],[]⟩)] [9003] [] [] [] [] [])) [86,89,91,92,124] func95 h
def ref13_Parser_slots.V(ka:Nat→Bs→Int→Nat×Obj)(vi:Int→Value)(vs:Bs→Value)(vl:OA→Nat→Nat→Value)(vp:OA→Value)(p:Addr)(I:Imm)(F:Heap)(Q:PostQ)(Inv5:OA→Nat→Nat→OA→Nat→Nat→Nat→Imm→Heap→Prop):Prop:=(∃m:Nat,Inv5 none 0 0 none 0 0 m I F)∧∀(f:OA) (g h:Nat) (d:OA) (c e m1:Nat) (I1:Imm) (F1:Heap),Imm.le I I1→Inv5 f g h d c e m1 I1 F1→Tc1 P 86 (#[vp (some p),vs (⟨#[115,108,111,116]⟩:Bs)]) I1 (·) F1 .bool fun r I2 F2=>(It (!r) (Q (.returned (vl d c e)) I2 F2) (Tc1 P 92 (#[vp (some p),vi (c:Int),vi 4]) I2 (·) F2 .bool fun r1 I3 F3=>(It (!r1) (Q (.returned (vl d c e)) I3 F3) (Tc1 P 89 (#[vp (some p),vs (⟨#[115,108,111,116]⟩:Bs)]) I3 (·) F3 vi fun r2 I4 F4=>∀a:Nat,Tc1 P 91 (#[vp (some p)]) I4 ((ka a (⟨#[]⟩:Bs) r2)::·) F4 vs fun r3 I5 F5=>Tc1 P 89 (#[vp (some p),vs (⟨#[59]⟩:Bs)]) I5 ((ka a r3 r2)::·) F5 vi fun r4 I6 F6=>∀(b:Nat) (I7:Imm),Imm.le I6 I7→I7 b=some (Obj.cells #[vs r3,vi r2] 79 (0,0))→TriE P (Builtin.append_ #[36,36] 36 #[vl d c e,vl (some ⟨b,0,none⟩) 1 1]) I7 ((ka a r3 r2)::F6) fun v I8 G6=>∃(i:OA) (j k:Nat),v=vl i j k∧∃F7:Heap,List.Perm G6 ((ka a r3 r2)::F7)∧(∃m2:Nat,m2<m1∧Inv5 f g h i j k m2 I8 F7)))))
theorem ref13_Parser_slots.vc{p:Addr}{I:Imm}{F:Heap}{Q:PostQ}(Inv5:OA→Nat→Nat→OA→Nat→Nat→Nat→Imm→Heap→Prop)(h:ref13_Parser_slots.V (fun W a b=>(W,Obj.cells #[.string a,.int .i64 b] 79 (0,0))) (.int .i64) .string .slice .pointer p I F Q Inv5):Tri P 94 #[.pointer (some p)] I F Q :=
 tw (A:=(annL [3001,6001] [] [86,89,91,92] shT_p2 [(5,⟨[(2,.slc),(3,.slc)],[],fun _ _ _ vs m I F=>match vs with | [.slice y0 y1 y2,.slice y3 y4 y5]=>Inv5 y0 y1 y2 y3 y4 y5 m I F | _=>False,[],[]⟩)] [11002] [] [] [] [] [])) [86,89,91,92] func94 h
def ref13_Parser_whole.V(ka:Nat→Bs→OA→Nat→Nat→OA→Nat→Nat→OA→Nat→Nat→Nat×Obj)(vb vi:Int→Value)(vs:Bs→Value)(vl:OA→Nat→Nat→Value)(vt:Bool→Value)(vp:OA→Value)(p:Addr)(I:Imm)(F:Heap)(Q:PostQ)(Inv10:Bs→OA→Nat→Nat→OA→Nat→Nat→OA→Nat→Nat→Imm→Heap→Prop)(Inv12:Bs→OA→Nat→Nat→OA→Nat→Nat→OA→Nat→Nat→Nat→Imm→Heap→Prop)(Inv35:Bs→OA→Nat→Nat→OA→Nat→Nat→OA→Nat→Nat→Imm→Heap→Prop)(Inv37:Bs→OA→Nat→Nat→OA→Nat→Nat→OA→Nat→Nat→Nat→Imm→Heap→Prop):Prop:=∀b:Nat,∀l:Nat,Tc1 P 89 (#[vp (some p),vs (⟨#[115,116,114,97,116,101,103,121]⟩:Bs)]) I ((ka b (⟨#[]⟩:Bs) none 0 0 none 0 0 none 0 0)::(ka l (⟨#[]⟩:Bs) none 0 0 none 0 0 none 0 0)::·) F vi fun r I1 F1=>Tc1 P 91 (#[vp (some p)]) I1 ((ka b (⟨#[]⟩:Bs) none 0 0 none 0 0 none 0 0)::(ka l (⟨#[]⟩:Bs) none 0 0 none 0 0 none 0 0)::·) F1 vs fun r1 I2 F2=>Tc1 P 89 (#[vp (some p),vs (⟨#[123]⟩:Bs)]) I2 ((ka b (⟨#[]⟩:Bs) none 0 0 none 0 0 none 0 0)::(ka l r1 none 0 0 none 0 0 none 0 0)::·) F2 vi fun r2 I3 F3=>((∃m:Nat,Inv12 r1 none 0 0 none 0 0 none 0 0 m I3 F3)∧∀(aj:Bs) (z:OA) (y aa:Nat) (ab:OA) (ac ad:Nat) (ae:OA) (af ag m1:Nat) (I4:Imm) (F4:Heap),Imm.le I3 I4→Inv12 aj z y aa ab ac ad ae af ag m1 I4 F4→Tc1 P 86 (#[vp (some p),vs (⟨#[114,101,103]⟩:Bs)]) I4 ((ka b (⟨#[]⟩:Bs) none 0 0 none 0 0 none 0 0)::(ka l aj z y aa ab ac ad ae af ag)::·) F4 vt fun r3 I5 F5=>(It (!r3) (Inv10 aj z y aa ab ac ad ae af ag I5 F5) (Tc1 P 92 (#[vp (some p),vi (y:Int),vi 12]) I5 ((ka b (⟨#[]⟩:Bs) none 0 0 none 0 0 none 0 0)::(ka l aj z y aa ab ac ad ae af ag)::·) F5 vt fun r4 I6 F6=>(It (!r4) (Inv10 aj z y aa ab ac ad ae af ag I6 F6) (Tcn P 93 (#[vp (some p)]) I6 ((ka b (⟨#[]⟩:Bs) none 0 0 none 0 0 none 0 0)::(ka l aj z y aa ab ac ad ae af ag)::·) F6 fun e6 I7 G6=>∃(aF:Bs) (aG aH aI aJ aK aL:Int) (aM:Bs) (aw:OA) (ax ay:Nat) (aN aC:Int),e6=.returned (.agg #[vs aF,vb aG,vb aH,vb aI,vb aJ,vi aK,vb aL,vs aM,vl aw ax ay,vi aN,vi aC])∧G6 fun F7=>∀aX:Nat,∀(b1:Nat) (I8:Imm),Imm.le I7 I8→I8 b1=some (Obj.cells #[vs aF,vb aG,vb aH,vb aI,vb aJ,vi aK,vb aL,vs aM,vl aw ax ay,vi aN,vi aC] 77 (0,0))→TriE P (Builtin.append_ #[35,35] 35 #[vl z y aa,vl (some ⟨b1,0,none⟩) 1 1]) I8 ((ka b (⟨#[]⟩:Bs) none 0 0 none 0 0 none 0 0)::(ka l aj z y aa ab ac ad ae af ag)::(aX,Obj.cells #[vs aF,vb aG,vb aH,vb aI,vb aJ,vi aK,vb aL,vs aM,vl aw ax ay,vi aN,vi aC] 77 (0,0))::F7) fun v I9 G7=>∃(aU:OA) (aV aW:Nat),v=vl aU aV aW∧∃F8:Heap,List.Perm G7 ((ka b (⟨#[]⟩:Bs) none 0 0 none 0 0 none 0 0)::(ka l aj z y aa ab ac ad ae af ag)::(aX,Obj.cells #[vs aF,vb aG,vb aH,vb aI,vb aJ,vi aK,vb aL,vs aM,vl aw ax ay,vi aN,vi aC] 77 (0,0))::F8)∧(∃m2:Nat,m2<m1∧Inv12 aj aU aV aW ab ac ad ae af ag m2 I9 F8))))))∧∀(av:Bs) (ak:OA) (al am:Nat) (aq:OA) (ar au:Nat) (an:OA) (ao ap:Nat) (I10:Imm) (F9:Heap),Imm.le I3 I10→Inv10 av ak al am aq ar au an ao ap I10 F9→Tcn P 94 (#[vp (some p)]) I10 ((ka b (⟨#[]⟩:Bs) none 0 0 none 0 0 none 0 0)::(ka l av ak al am aq ar au an ao ap)::·) F9 fun e7 I11 G8=>∃(aO:OA) (aP aQ:Nat),e7=.returned (vl aO aP aQ)∧G8 fun F10=>((∃m3:Nat,Inv37 av ak al am aO aP aQ an ao ap m3 I11 F10)∧∀(ai:Bs) (n:OA) (o q:Nat) (s:OA) (t u:Nat) (w:OA) (c x m4:Nat) (I12:Imm) (F11:Heap),Imm.le I11 I12→Inv37 ai n o q s t u w c x m4 I12 F11→Tc1 P 86 (#[vp (some p),vs (⟨#[115,116,97,116,101]⟩:Bs)]) I12 ((ka b (⟨#[]⟩:Bs) none 0 0 none 0 0 none 0 0)::(ka l ai n o q s t u w c x)::·) F11 vt fun r5 I13 F12=>(It (!r5) (Inv35 ai n o q s t u w c x I13 F12) (Tc1 P 92 (#[vp (some p),vi (c:Int),vi 12]) I13 ((ka b (⟨#[]⟩:Bs) none 0 0 none 0 0 none 0 0)::(ka l ai n o q s t u w c x)::·) F12 vt fun r6 I14 F13=>(It (!r6) (Inv35 ai n o q s t u w c x I14 F13) (Tcn P 95 (#[vp (some p)]) I14 ((ka b (⟨#[]⟩:Bs) none 0 0 none 0 0 none 0 0)::(ka l ai n o q s t u w c x)::·) F13 fun aZ I15 G11=>∃(aD:Bs) (az:OA) (aA aB:Nat) (aE:Int),aZ=.returned (.agg #[vs aD,vl az aA aB,vi aE])∧G11 fun F14=>∀aY:Nat,∀(b2:Nat) (I16:Imm),Imm.le I15 I16→I16 b2=some (Obj.cells #[vs aD,vl az aA aB,vi aE] 65 (0,0))→TriE P (Builtin.append_ #[37,37] 37 #[vl w c x,vl (some ⟨b2,0,none⟩) 1 1]) I16 ((ka b (⟨#[]⟩:Bs) none 0 0 none 0 0 none 0 0)::(ka l ai n o q s t u w c x)::(aY,Obj.cells #[vs aD,vl az aA aB,vi aE] 65 (0,0))::F14) fun v1 I17 G12=>∃(aR:OA) (aS aT:Nat),v1=vl aR aS aT∧∃F15:Heap,List.Perm G12 ((ka b (⟨#[]⟩:Bs) none 0 0 none 0 0 none 0 0)::(ka l ai n o q s t u w c x)::(aY,Obj.cells #[vs aD,vl az aA aB,vi aE] 65 (0,0))::F15)∧(∃m5:Nat,m5<m4∧Inv37 ai n o q s t u aR aS aT m5 I17 F15))))))∧∀(ah:Bs) (d:OA) (e f:Nat) (g:OA) (h i:Nat) (j:OA) (a k:Nat) (I18:Imm) (F16:Heap),Imm.le I11 I18→Inv35 ah d e f g h i j a k I18 F16→(It ((a:Int)==0) (Tcn P 90 (#[vp (some p),vi 130]) I18 ((ka b (⟨#[]⟩:Bs) none 0 0 none 0 0 none 0 0)::(ka l ah d e f g h i j a k)::·) F16 fun a0 I19 G13=>a0=.returned (.tuple #[])∧G13 fun F17=>Tc1 P 89 (#[vp (some p),vs (⟨#[125]⟩:Bs)]) I19 ((ka b (⟨#[]⟩:Bs) none 0 0 none 0 0 none 0 0)::(ka l ah d e f g h i j a k)::·) F17 vi fun r7 I20 F18=>Tcn P 54 (#[vp (some p)]) I20 ((ka b (⟨#[]⟩:Bs) none 0 0 none 0 0 none 0 0)::(ka l ah d e f g h i j a k)::·) F18 fun a2 I21 G15=>a2=.returned (.tuple #[])∧G15 fun F19=>Q (.returned (.agg #[vs ah,vl d e f,vl g h i,vl j a k])) I21 F19) (Tc1 P 89 (#[vp (some p),vs (⟨#[125]⟩:Bs)]) I18 ((ka b (⟨#[]⟩:Bs) none 0 0 none 0 0 none 0 0)::(ka l ah d e f g h i j a k)::·) F16 vi fun r8 I22 F20=>Tcn P 54 (#[vp (some p)]) I22 ((ka b (⟨#[]⟩:Bs) none 0 0 none 0 0 none 0 0)::(ka l ah d e f g h i j a k)::·) F20 fun a4 I23 G17=>a4=.returned (.tuple #[])∧G17 fun F21=>Q (.returned (.agg #[vs ah,vl d e f,vl g h i,vl j a k])) I23 F21))
theorem ref13_Parser_whole.vc{p:Addr}{I:Imm}{F:Heap}{Q:PostQ}(Inv10:Bs→OA→Nat→Nat→OA→Nat→Nat→OA→Nat→Nat→Imm→Heap→Prop)(Inv12:Bs→OA→Nat→Nat→OA→Nat→Nat→OA→Nat→Nat→Nat→Imm→Heap→Prop)(Inv35:Bs→OA→Nat→Nat→OA→Nat→Nat→OA→Nat→Nat→Imm→Heap→Prop)(Inv37:Bs→OA→Nat→Nat→OA→Nat→Nat→OA→Nat→Nat→Nat→Imm→Heap→Prop)(h:ref13_Parser_whole.V (fun W a b c d e f g h i j=>(W,Obj.cells #[.string a,.slice b c d,.slice e f g,.slice h i j] 39 (0,0))) (.int .u8) (.int .i64) .string .slice .bool .pointer p I F Q Inv10 Inv12 Inv35 Inv37):Tri P 56 #[.pointer (some p)] I F Q :=
 tw (A:=(annL [6001,8001,13001,15001,18003] [] [54,86,89,90,91,92,93,94,95] shT_p2 [(10,⟨[],[(1,[.str,.slc,.slc,.slc])],fun _ _ _ vs m I F=>match vs with | [.string y0,.slice y1 y2 y3,.slice y4 y5 y6,.slice y7 y8 y9]=>Inv10 y0 y1 y2 y3 y4 y5 y6 y7 y8 y9 I F | _=>False,[],[]⟩),(12,⟨[],[(1,[.str,.slc,.slc,.slc])],fun _ _ _ vs m I F=>match vs with | [.string y0,.slice y1 y2 y3,.slice y4 y5 y6,.slice y7 y8 y9]=>Inv12 y0 y1 y2 y3 y4 y5 y6 y7 y8 y9 m I F | _=>False,[],[]⟩),(35,⟨[],[(1,[.str,.slc,.slc,.slc])],fun _ _ _ vs m I F=>match vs with | [.string y0,.slice y1 y2 y3,.slice y4 y5 y6,.slice y7 y8 y9]=>Inv35 y0 y1 y2 y3 y4 y5 y6 y7 y8 y9 I F | _=>False,[],[]⟩),(37,⟨[],[(1,[.str,.slc,.slc,.slc])],fun _ _ _ vs m I F=>match vs with | [.string y0,.slice y1 y2 y3,.slice y4 y5 y6,.slice y7 y8 y9]=>Inv37 y0 y1 y2 y3 y4 y5 y6 y7 y8 y9 m I F | _=>False,[],[]⟩)] [10003,17003] [] [] [] [] [])) [54,86,89,90,91,92,93,94,95] func56 h
def ref13_Strategy.V(ka:Nat→Bs→OA→Nat→Nat→OA→Nat→Nat→OA→Nat→Nat→Nat×Obj)(kb:Nat→Int→Int→Bool→Nat×Obj)(vi:Int→Value)(vs:Bs→Value)(vl:OA→Nat→Nat→Value)(vt:Bool→Value)(s:Bs)(I:Imm)(F:Heap)(Q:PostQ)  : Prop:=∀b:Nat,∀b1:Nat,Tc1 P 52 #[vs s] I ((ka b (⟨#[]⟩:Bs) none 0 0 none 0 0 none 0 0)::(kb b1 0 0 false)::·) F .pointer fun r I1 F1=>Tcn P 56 #[.pointer r] I1 ((ka b (⟨#[]⟩:Bs) none 0 0 none 0 0 none 0 0)::(kb b1 0 0 false)::·) F1 fun e2 I2 G2=>∃(k:Bs) (a:OA) (c d:Nat) (e:OA) (f g:Nat) (h:OA) (i j:Nat),e2=.returned (.agg #[vs k,vl a c d,vl e f g,vl h i j])∧G2 fun F2=>∀o:Nat,Tc1 P 55 #[.pointer r] I2 ((ka b (⟨#[]⟩:Bs) none 0 0 none 0 0 none 0 0)::(kb b1 0 0 false)::(ka o k a c d e f g h i j)::·) F2 vt fun r1 I3 F3=>(It r1 (∃ad:Addr,r=some ad∧∃(l m:Int) (n:Bool),Rd I3 F3 (ad.add 4) [vi l,vi m,vt n]∧Q (.returned (.tuple #[.agg #[vs (⟨#[]⟩:Bs),vl none 0 0,vl none 0 0,vl none 0 0],.agg #[vi l,vi m,vt n]])) I3 F3) (Q (.returned (.tuple #[.agg #[vs k,vl a c d,vl e f g,vl h i j],.agg #[vi 0,vi 0,vt false]])) I3 F3))
theorem ref13_Strategy.vc{s:Bs}{I:Imm}{F:Heap}{Q:PostQ}  (h:ref13_Strategy.V (fun W a b c d e f g h i j=>(W,Obj.cells #[.string a,.slice b c d,.slice e f g,.slice h i j] 39 (0,0))) (fun W a b c=>(W,Obj.cells #[.int .i64 a,.int .i64 b,.bool c] 68 (0,0))) (.int .i64) .string .slice .bool s I F Q):Tri P 29 #[.string s] I F Q :=
 tw (A:=(annL [3001] [] [52,55,56] shT_p2 [] [] [] [(4,5,[0])] [] [] [(4,6)])) [52,55,56] func29 h
def ref13_Expr.V(ka:Nat→Int→Int→Bool→Nat×Obj)(nV:Int→Int→Int→Int→Int→Bs→OA→Nat→Nat→Int→Value)(nO:Int→Int→Int→Int→Int→Bs→OA→Nat→Nat→Int→Obj)(vi:Int→Value)(vt:Bool→Value)(vp:OA→Value)(s:Bs)(I:Imm)(F:Heap)(Q:PostQ)  : Prop:=∀b:Nat,∀b1:Nat,Tc1 P 52 #[.string s] I ((b,nO 0 0 0 0 0 (⟨#[]⟩:Bs) none 0 0 0)::(ka b1 0 0 false)::·) F vp fun r I1 F1=>Tcn P 53 #[vp r,vi 0] I1 ((b,nO 0 0 0 0 0 (⟨#[]⟩:Bs) none 0 0 0)::(ka b1 0 0 false)::·) F1 fun e2 I2 G2=>∃(e f g h i:Int) (j:Bs) (a:OA) (c d:Nat) (k:Int),e2=.returned (nV e f g h i j a c d k)∧G2 fun F2=>∀l:Nat,Tcn P 54 #[vp r] I2 ((b,nO 0 0 0 0 0 (⟨#[]⟩:Bs) none 0 0 0)::(ka b1 0 0 false)::(l,nO e f g h i j a c d k)::·) F2 fun e3 I3 G3=>e3=.returned (.tuple #[])∧G3 fun F3=>Tc1 P 55 #[vp r] I3 ((b,nO 0 0 0 0 0 (⟨#[]⟩:Bs) none 0 0 0)::(ka b1 0 0 false)::(l,nO e f g h i j a c d k)::·) F3 vt fun r1 I4 F4=>(It r1 (∃ad:Addr,r=some ad∧∃(m n:Int) (o:Bool),Rd I4 F4 (ad.add 4) [vi m,vi n,vt o]∧Q (.returned (.tuple #[nV 0 0 0 0 0 (⟨#[]⟩:Bs) none 0 0 0,.agg #[vi m,vi n,vt o]])) I4 F4) (Q (.returned (.tuple #[nV e f g h i j a c d k,.agg #[vi 0,vi 0,vt false]])) I4 F4))
theorem ref13_Expr.vc{s:Bs}{I:Imm}{F:Heap}{Q:PostQ}  (h:ref13_Expr.V (fun W a b c=>(W,Obj.cells #[.int .i64 a,.int .i64 b,.bool c] 68 (0,0))) (fun k o t n f s a l c q=>.agg #[.int .u8 k,.int .u8 o,.int .u8 t,.int .i64 n,.int .u8 f,.string s,.slice a l c,.int .i64 q]) (fun k o t n f s a l c q=>.cells #[.int .u8 k,.int .u8 o,.int .u8 t,.int .i64 n,.int .u8 f,.string s,.slice a l c,.int .i64 q] 28 (0,0)) (.int .i64) .bool .pointer s I F Q):Tri P 28 #[.string s] I F Q :=
 tw (A:=(annL [4001] [] [52,53,54,55] shT_p2 [] [] [] [(5,5,[0])] [] [] [(5,6)])) [52,53,54,55] func28 h
end Go.Lx
namespace Go.Lx
open Go.Vc
def RetG{N Pl:Type}(v:N→Value)(p:N→Pl)(ok:Imm→N→Prop)(q:PQ)(b:Nat)(F0:Heap)(r:Pl×PS)(e:Ending)(I:Imm)(G:Heap):Prop:=∃x:N,e=.returned (v x)∧p x=r.1∧ok I x∧G.Perm (q.blk b r.2::F0)
def RSpec{N Pl:Type}(f:Nat)(v:N→Value)(p:N→Pl)(ok:Imm→N→Prop)(q:PQ)(g:PS→Pl×PS):Prop:=∀(b:Nat) (s:PS) (I:Imm) (F F0:Heap),q.ok I→s.next≤q.c.l.length→F.Perm (q.blk b s::F0)→Tri P f #[.pointer (some ⟨b,0,none⟩)] I F (RetG v p ok q b F0 (g s))
def okReg(I:Imm)(r:RegN):Prop:=r.Ok I []
def okDo(I:Imm)(r:DoN):Prop:=r.Ok I []
def okRule(I:Imm)(r:RuleN):Prop:=r.Ok I []
def okState(I:Imm)(r:StateN):Prop:=r.Ok I []
def okStg(I:Imm)(r:StgN):Prop:=r.Ok I []
section
variable {c:PC}
theorem Up.regE{nm:ByteArray}{t pos pos2:Int}{minus:Bool}{n:Px}:Mono c (c.regE nm t pos pos2 minus n):=fun s=>Up.take _
theorem Up.regL{nm:ByteArray}{t pos pos2:Int}{minus:Bool}:Mono c (c.regL nm t pos pos2 minus):=fun s=>by
 unfold PC.regL
 split
 ·exact .wrong _
 ·refine Up.trans ?_ (Up.regE _)
  split
  ·exact .literal
  ·exact Up.literal.trans (.wrong _)
theorem Up.regT{nm:ByteArray}{t pos:Int}:Mono c (c.regT nm t pos):=fun s=>by
 unfold PC.regT
 refine Up.trans ?_ (Up.regL _)
 split
 ·rename_i h;exact .inc (isW_lt h)
 ·exact .refl
theorem Up.regN{nm:ByteArray}{pos:Int}:Mono c (c.regN nm pos):=fun s=>by
 unfold PC.regN
 split
 ·exact .wrong _
 ·rename_i ha
  exact (Up.inc (any_lt (Int.not_lt.1 ha)).1).trans ((Up.take _).trans (Up.regT _))
theorem Up.reg:Mono c c.reg:=fun s=>(Up.take _).trans (Up.name.trans (Up.regN _))
theorem Up.asName:Mono c c.asName:=fun s=>by
 unfold PC.asName
 split
 ·rename_i h;exact (Up.inc (isW_lt h)).trans .name
 ·exact .refl
theorem Up.subN{x y z:Px}{pos o:Int}:Mono c (c.subN x y pos z o):=fun s=>Up.asName s
theorem Up.subZ{x y z:Px}{pos:Int}:Mono c (c.subZ x y pos z):=fun s=>by
 unfold PC.subZ
 split
 ·exact .wrong _
 ·rename_i ha
  exact (Up.inc (any_lt (Int.not_lt.1 ha)).1).trans (Up.subN _)
theorem Up.subY{x y:Px}{pos:Int}:Mono c (c.subY x y pos):=fun s=>by
 unfold PC.subY
 split
 ·exact .wrong _
 ·rename_i ha
  have h1:=Up.inc (c:=c) (any_lt (Int.not_lt.1 ha)).1
  split
  ·exact h1.trans ((Up.ex0 _).trans (Up.subZ _))
  ·exact h1.trans (Up.subN _)
theorem Up.submit:Mono c c.submit:=fun s=>(Up.take _).trans ((Up.ex0 _).trans ((Up.take _).trans ((Up.ex0 _).trans (Up.subY _))))
theorem Up.doN{k:Int}{nm:ByteArray}{pos:Int}:Mono c (c.doN k nm pos):=fun s=>by
 unfold PC.doN
 split
 ·exact (Up.take _).trans ((Up.ex0 _).trans ((Up.take _).trans (Up.ex0 _)))
 ·split
  ·exact (Up.take _).trans (Up.ex0 _)
  ·exact .refl
theorem Up.do:Mono c c.do:=fun s=>by
 unfold PC.do
 split
 ·exact .wrong _
 ·rename_i ha
  have h1:=Up.inc (c:=c) (any_lt (Int.not_lt.1 ha)).1
  split
  ·exact Up.submit s
  ·split
   ·exact h1.trans (Up.doN _)
   ·exact h1.trans (Up.name.trans (Up.doN _))
end
theorem p_reg{q:PQ}:RSpec 93 RegN.v RegN.p okReg q q.c.reg:=by
 intro b s I F F0 hq hsn hF
 have hl:=hq.len
 unfold PC.reg
 have ht:=(Up.take (c:=q.c) (s:=s) (⟨#[114,101,103]⟩:ByteArray)).2 hsn
 generalize hta:q.c.take (⟨#[114,101,103]⟩:ByteArray) s=ta at ht ⊢
 have hn:=(Up.name (c:=q.c) (s:=ta.2)).2 ht
 generalize hbb:q.c.name ta.2=bb at hn ⊢
 obtain⟨s4,hs4e⟩:∃s4,s4=(if q.c.isW (⟨#[45]⟩:ByteArray) (q.c.take (⟨#[61]⟩:ByteArray) bb.2.inc).2 then (q.c.take (⟨#[61]⟩:ByteArray) bb.2.inc).2.inc else (q.c.take (⟨#[61]⟩:ByteArray) bb.2.inc).2):=⟨_,rfl⟩
 obtain⟨s5,hs5e⟩:∃s5,s5=(if (q.c.literal s4).1.2 then (q.c.literal s4).2 else q.c.wrong 130 (q.c.literal s4).2):=⟨_,rfl⟩
 refine ref13_Parser_reg.vc (fun x0 x1 x2 x3 x4 x5 x6 x7 xa xn xc x9 x10 I' F'=>q.ok I'∧F'.Perm (q.blk b s4::F0)∧¬(q.c.isW (⟨#[45]⟩:ByteArray) (q.c.take (⟨#[61]⟩:ByteArray) bb.2.inc).2=true∧(q.c.now s4).kind≠3))
  (fun I' F'=>q.ok I'∧F'.Perm (q.blk b s5::F0)) ?_
 unfold ref13_Parser_reg.V
 intro b2
 refine (p_take hq _ ((hF.cons _).trans pm1)).mono fun e I1 G l1 ⟨he,hG⟩=>⟨_,he,q.blk b ta.2::F0,by rw[hta] at hG;exact hG.trans pm1,fun b_r=>?_⟩
 rw[hta]
 have hq1:=hq.mono l1
 refine (p_name hq1 (s:=ta.2) pm2).mono fun e I2 G l2 ⟨he,hG⟩=>⟨_,he,q.blk b bb.2::F0,by rw[hbb] at hG;exact hG.trans pm2.symm,fun b3 I3 l3 hb3=>?_⟩
 rw[hbb]
 have hq3:=(hq1.mono l2).mono l3
 refine Tri.ret (p_any hq3 (Sl.words (ws:=typeW) hb3 rfl) (by decide) (s:=bb.2) (.tail _ (.tail _ (.head _)))) fun I4 l4=>⟨_,rfl,q.blk b bb.2::F0,.refl _,fun ha=>?_,fun ha=>?_⟩
 ·have ha:=of_decide_eq_true ha
  refine (p_wrong (hq3.mono l4) 130 (s:=bb.2) pm2).mono fun e I5 G l5 ⟨he,hG⟩=>⟨he,q.blk b (q.c.wrong 130 bb.2)::F0,hG.trans pm2.symm, ?_⟩
  unfold PC.regN
  rw[if_pos ha]
  exact⟨⟨bb.1,0,zNd,ta.1⟩,rfl,by simp only[RegN.p,zNd,Nd.px,Nd.pxs];rfl,NdOk.leaf,.refl _⟩
 have ha:=of_decide_eq_false ha
 have hab:=any_w (Int.not_lt.1 ha) (by decide)
 have hlt:=(any_lt (Int.not_lt.1 ha)).1
 have hq4:=hq3.mono l4
 unfold PC.regN
 rw[if_neg ha]
 refine⟨_,rfl,_,PQ.rd (k:=3) (.tail _ (.tail _ (.head _))) rfl,_,rfl,q.cl bb.2,107,F0,.refl _,PQ.spot _ _,by rw[PQ.off];exact (by decide:3+1≤7), ?_⟩
 rw[PQ.inc_eq (by omega),w8 (n:=q.c.any typeW bb.2) (by omega),w8 (n:=1+q.c.any typeW bb.2) (by omega)]
 have h5:=(Up.take (c:=q.c) (s:=bb.2.inc) (⟨#[61]⟩:ByteArray)).2 hlt
 refine (p_take hq4 _ (s:=bb.2.inc) pm2).mono fun e I5 G l5 ⟨he,hG⟩=>⟨_,he,q.blk b (q.c.take (⟨#[61]⟩:ByteArray) bb.2.inc).2::F0,hG.trans pm2.symm, ?_⟩
 generalize hs3:(q.c.take (⟨#[61]⟩:ByteArray) bb.2.inc).2=s3 at h5 hs4e ⊢
 unfold PC.regT
 rw[←hs4e]
 have hq5:=hq4.mono l5
 refine Tri.ret (p_now hq5 (s:=s3) (.tail _ (.tail _ (.head _)))) fun I6 l6=>⟨_,_,_,_,_,rfl,q.blk b s3::F0,.refl _, ?_⟩
 have hq6:=hq5.mono l6
 refine Tri.ret (p_is hq6 _ (s:=s3) (.tail _ (.tail _ (.head _)))) fun I7 l7=>⟨_,rfl,q.blk b s3::F0,.refl _,⟨fun hm=>?_,fun hm=>?_⟩, ?_⟩
 ·have hlt3:=isW_lt hm
  rw[if_pos hm] at hs4e
  refine⟨_,rfl,_,PQ.rd (k:=3) (.tail _ (.tail _ (.head _))) rfl,_,rfl,q.cl s3,107,F0,.refl _,PQ.spot _ _,by rw[PQ.off];exact (by decide:3+1≤7), ?_⟩
  rw[PQ.inc_eq (by omega),←hs4e]
  have hq7:=hq6.mono l7
  refine Tri.ret (p_now hq7 (s:=s4) (.tail _ (.tail _ (.head _)))) fun I8 l8=>⟨_,_,_,_,_,rfl,q.blk b s4::F0,.refl _,fun h3=>?_,fun h3=>?_⟩
  ·have h3:(q.c.now s4).kind≠3:=by simpa using h3
   refine (p_wrong (hq7.mono l8) 130 (s:=s4) pm2).mono fun e I9 G l9 ⟨he,hG⟩=>⟨he,q.blk b (q.c.wrong 130 s4)::F0,hG.trans pm2.symm, ?_⟩
   unfold PC.regL
   rw[if_pos ⟨hm,h3⟩]
   exact⟨⟨bb.1,1+q.c.any typeW bb.2,zNd,ta.1⟩,rfl,by simp only[RegN.p,zNd,Nd.px,Nd.pxs];rfl,NdOk.leaf,.refl _⟩
  ·have h3:(q.c.now s4).kind=3:=by simpa using h3
   exact⟨hq7.mono l8,.refl _,fun h=>h.2 h3⟩
 ·rw[if_neg (by simp[hm])] at hs4e
  rw[hs4e]
  exact⟨hq6.mono l7,.refl _,fun h=>by rw[hm] at h;cases h.1⟩
 have hs4:s4.next≤q.c.l.length:=by
  rw[hs4e]
  split
  ·rename_i h;exact isW_lt h
  ·exact h5
 intro x0 x1 x2 x3 x4 x5 x6 x7 xa xn xc x9 x10 I8 F8 l8 ⟨hq8,hF8,hnm⟩
 unfold PC.regL
 rw[if_neg hnm,←hs5e]
 refine (p_literal hq8 ((((hF8.cons _).cons _)).trans pm2)).mono fun e I9 G l9 ⟨t,he,px,hok,hG⟩=>?_
 refine⟨_,_,_,_,_,_,_,_,_,_,_,he,q.blk b (q.c.literal s4).2::F0,hG.trans pm2.symm,fun b_n=>⟨⟨fun hw=>?_,fun hw=>?_⟩, ?_⟩⟩
 ·have hw:(q.c.literal s4).1.2=false:=by simpa using hw
  rw[if_neg (by simp[hw])] at hs5e
  refine (p_wrong (hq8.mono l9) 130 (s:=(q.c.literal s4).2) pm3).mono fun e I10 G l10 ⟨he,hG⟩=>⟨he,q.blk b (q.c.wrong 130 (q.c.literal s4).2)::F0,hG.trans pm3.symm,(hq8.mono l9).mono l10, ?_⟩
  rw[hs5e]
 ·have hw:(q.c.literal s4).1.2=true:=by simpa using hw
  rw[if_pos hw] at hs5e
  refine⟨hq8.mono l9, ?_⟩
  rw[hs5e]
 intro I10 F10 l10 ⟨hq10,hF10⟩
 unfold PC.regE
 refine⟨fun hm=>?_,fun hm=>?_⟩
 ·intro b5 I11 l11 hb5
  refine (p_take (hq10.mono l11) _ ((((hF10.cons _).cons _).cons _).trans pm3)).mono fun e I12 G l12 ⟨he,hG⟩=>⟨_,he,q.blk b (q.c.take (⟨#[59]⟩:ByteArray) s5).2::F0,hG.trans pm3.symm, ?_⟩
  rw[if_pos hm]
  refine⟨⟨bb.1,1+q.c.any typeW bb.2,.mk 5 1 0 0 0 ⟨#[]⟩ (some ⟨b5,0,none⟩) 1 [t] (q.c.now s3).pos,ta.1⟩,rfl, ?_,NdOk.mono (NdOk.kids2 (l:=[t]) hb5 (fun k hk=>?_) ..) l12 fun _ h=>h,.refl _⟩
  ·simp only[RegN.p,Nd.px,Nd.pxs,px]
  ·rw[List.mem_singleton] at hk;subst hk
   exact hok.mono (Imm.le_trans l10 l11) fun _ h=>h
 ·refine (p_take hq10 _ ((((hF10.cons _).cons _).cons _).trans pm3)).mono fun e I12 G l12 ⟨he,hG⟩=>⟨_,he,q.blk b (q.c.take (⟨#[59]⟩:ByteArray) s5).2::F0,hG.trans pm3.symm, ?_⟩
  rw[if_neg (by simp[hm])]
  exact⟨⟨bb.1,1+q.c.any typeW bb.2,t,ta.1⟩,rfl,by simp only[RegN.p,px],hok.mono (Imm.le_trans l10 l12) fun _ h=>h,.refl _⟩
end Go.Lx
namespace Go.Lx
open Go.Vc
theorem zNd_px:zNd.px=zPx:=by simp only[zNd,Nd.px,Nd.pxs];rfl
theorem zNd_ok{I:Imm}{G:Heap}:NdOk I G zNd:=.leaf
theorem NdOk.up{I J:Imm}{G:Heap}{t:Nd}(h:NdOk I G t)(hl:Imm.le I J):NdOk J G t:=h.mono hl fun _ h=>h
def orderK:List Int:=[1,3,4,5]
theorem p_submit{q:PQ}:RSpec 158 DoN.v DoN.p okDo q q.c.submit:=by
 intro b s I F F0 hq hsn hF
 have hl:=hq.len
 unfold PC.submit
 have ht:=(Up.take (c:=q.c) (s:=s) (⟨#[115,117,98,109,105,116]⟩:ByteArray)).2 hsn
 generalize hta:q.c.take (⟨#[115,117,98,109,105,116]⟩:ByteArray) s=ta at ht ⊢
 refine ref13_Parser_submit.vc ?_
 unfold ref13_Parser_submit.V
 intro b2
 refine (p_take hq _ ((hF.cons _).trans pm1)).mono fun e I1 G l1 ⟨he,hG⟩=>⟨_,he,q.blk b ta.2::F0,by rw[hta] at hG;exact hG.trans pm1,fun b_d=>?_⟩
 rw[hta]
 have hq1:=hq.mono l1
 have hx2:=(Up.ex0 (c:=q.c) ta.2).2 ht
 refine (p_ex0 b ta.2 I1 _ _ hq1 ht pm2).mono fun e I2 G l2 ⟨x,he,px,okx,hG⟩=>?_
 refine⟨_,_,_,_,_,_,_,_,_,_,he,q.blk b (q.c.ex0 ta.2).2::F0,hG.trans pm2.symm, ?_⟩
 rw[←px]
 generalize (q.c.ex0 ta.2).2=s2 at hx2 ⊢
 unfold PC.subX
 have hq2:=hq1.mono l2
 have hx3:=(Up.take (c:=q.c) (s:=s2) (⟨#[111,102]⟩:ByteArray)).2 hx2
 refine (p_take hq2 _ (s:=s2) pm2).mono fun e I3 G l3 ⟨he,hG⟩=>⟨_,he,q.blk b (q.c.take (⟨#[111,102]⟩:ByteArray) s2).2::F0,hG.trans pm2.symm, ?_⟩
 generalize (q.c.take (⟨#[111,102]⟩:ByteArray) s2).2=s3 at hx3 ⊢
 have hq3:=hq2.mono l3
 have hx4:=(Up.ex0 (c:=q.c) s3).2 hx3
 refine (p_ex0 b s3 I3 _ _ hq3 hx3 pm2).mono fun e I4 G l4 ⟨y,he,py,oky,hG⟩=>?_
 refine⟨_,_,_,_,_,_,_,_,_,_,he,q.blk b (q.c.ex0 s3).2::F0,hG.trans pm2.symm, ?_⟩
 rw[←py]
 generalize (q.c.ex0 s3).2=s4 at hx4 ⊢
 have hq4:=hq3.mono l4
 intro b3 I5 l5 hb3
 have hq5:=hq4.mono l5
 unfold PC.subY
 refine Tri.ret (p_any hq5 (Sl.words (ws:=atW) hb3 rfl) (by decide) (s:=s4) (.tail _ (.tail _ (.head _)))) fun I6 l6=>⟨_,rfl,q.blk b s4::F0,.refl _,fun ha=>?_,fun ha=>?_⟩
 ·have ha:=of_decide_eq_true ha
  refine (p_wrong (hq5.mono l6) 130 (s:=s4) pm2).mono fun e I7 G l7 ⟨he,hG⟩=>⟨he,q.blk b (q.c.wrong 130 s4)::F0,hG.trans pm2.symm, ?_⟩
  rw[if_pos ha]
  refine⟨⟨1,0,⟨#[]⟩,x,y,zNd,zNd,ta.1⟩,rfl,by simp only[DoN.p,zNd_px],⟨okx.up ?_,oky.up ?_,zNd_ok,zNd_ok⟩,.refl _⟩
  ·exact Imm.le_trans l3 (Imm.le_trans l4 (Imm.le_trans l5 (Imm.le_trans l6 l7)))
  ·exact Imm.le_trans l5 (Imm.le_trans l6 l7)
 have ha:=of_decide_eq_false ha
 rw[if_neg ha]
 have hlt:=(any_lt (Int.not_lt.1 ha)).1
 have hq6:=hq5.mono l6
 have okx6:=okx.up (Imm.le_trans l3 (Imm.le_trans l4 (Imm.le_trans l5 l6)))
 have oky6:=oky.up (Imm.le_trans l5 l6)
 refine⟨_,rfl,_,PQ.rd (k:=3) (.tail _ (.tail _ (.head _))) rfl,_,rfl,q.cl s4,107,F0,.refl _,PQ.spot _ _,by rw[PQ.off];exact (by decide:3+1≤7), ?_⟩
 rw[PQ.inc_eq (by omega)]
 refine⟨fun h1=>?_,fun h1=>?_⟩
 ·have h1:q.c.any atW s4=1:=by simpa using h1
  rw[if_pos h1]
  have hx7:=(Up.ex0 (c:=q.c) s4.inc).2 hlt
  refine (p_ex0 b s4.inc I6 _ _ hq6 hlt pm2).mono fun e I7 G l7 ⟨z,he,pz,okz,hG⟩=>?_
  refine⟨_,_,_,_,_,_,_,_,_,_,he,q.blk b (q.c.ex0 s4.inc).2::F0,hG.trans pm2.symm, ?_⟩
  rw[←pz]
  generalize (q.c.ex0 s4.inc).2=s7 at hx7 ⊢
  have hq7:=hq6.mono l7
  intro b4 I8 l8 hb4
  have hq8:=hq7.mono l8
  unfold PC.subZ
  refine Tri.ret (p_any hq8 (Sl.words (ws:=orderW) hb4 rfl) (by decide) (s:=s7) (.tail _ (.tail _ (.head _)))) fun I9 l9=>⟨_,rfl,q.blk b s7::F0,.refl _,fun hb=>?_,fun hb=>?_⟩
  ·have hb:=of_decide_eq_true hb
   refine (p_wrong (hq8.mono l9) 130 (s:=s7) pm2).mono fun e I10 G l10 ⟨he,hG⟩=>⟨he,q.blk b (q.c.wrong 130 s7)::F0,hG.trans pm2.symm, ?_⟩
   rw[if_pos hb]
   exact⟨⟨1,2,⟨#[]⟩,x,y,z,zNd,ta.1⟩,rfl,by simp only[DoN.p,zNd_px],⟨okx6.up (Imm.le_trans l7 (Imm.le_trans l8 (Imm.le_trans l9 l10))),oky6.up (Imm.le_trans l7 (Imm.le_trans l8 (Imm.le_trans l9 l10))),okz.up (Imm.le_trans l8 (Imm.le_trans l9 l10)),zNd_ok⟩,.refl _⟩
  have hb:=of_decide_eq_false hb
  rw[if_neg hb]
  have hlt7:=(any_lt (Int.not_lt.1 hb)).1
  have hb4':q.c.any orderW s7<4:=(any_lt (Int.not_lt.1 hb)).2
  have hq9:=hq8.mono l9
  refine⟨_,rfl,_,PQ.rd (k:=3) (.tail _ (.tail _ (.head _))) rfl,_,rfl,q.cl s7,107,F0,.refl _,PQ.spot _ _,by rw[PQ.off];exact (by decide:3+1≤7), ?_⟩
  rw[PQ.inc_eq (by omega)]
  intro b5 I10 l10 hb5
  have hq10:=hq9.mono l10
  have hS:Sl I10 1 encB (some ⟨b5,0,none⟩) 4 orderK:=Sl.of_cells (f:=encB) (z:=1) (l:=orderK) (fun _=>rfl) hb5 rfl
  obtain⟨ad,k,had,hk,hr⟩:=hS.at (Int.not_lt.1 hb) hb4'
  have hko:k=if q.c.any orderW s7=0 then 1 else 2+q.c.any orderW s7:=by
   have h0:=Int.not_lt.1 hb
   generalize q.c.any orderW s7=r at h0 hb4' hk ⊢
   have:r=0∨r=1∨r=2∨r=3:=by omega
   rcases this with rfl | rfl | rfl | rfl<;>simp[orderK] at hk<;>subst hk<;>rfl
  rw[←hko]
  refine⟨⟨Int.not_lt.1 hb,hb4'⟩,ad,had,k,hr _, ?_⟩
  unfold PC.subN PC.asName
  have okx10:=okx6.up (Imm.le_trans l7 (Imm.le_trans l8 (Imm.le_trans l9 l10)))
  have oky10:=oky6.up (Imm.le_trans l7 (Imm.le_trans l8 (Imm.le_trans l9 l10)))
  have okz10:=okz.up (Imm.le_trans l8 (Imm.le_trans l9 l10))
  refine Tri.ret (p_is hq10 _ (s:=s7.inc) (.tail _ (.tail _ (.head _)))) fun I11 l11=>⟨_,rfl,q.blk b s7.inc::F0,.refl _,fun hw=>?_,fun hw=>?_⟩
  ·have hltw:=isW_lt hw
   rw[if_pos hw]
   refine⟨_,rfl,_,PQ.rd (k:=3) (.tail _ (.tail _ (.head _))) rfl,_,rfl,q.cl s7.inc,107,F0,.refl _,PQ.spot _ _,by rw[PQ.off];exact (by decide:3+1≤7), ?_⟩
   rw[PQ.inc_eq (s:=s7.inc) (by omega)]
   refine (p_name (hq10.mono l11) (s:=s7.inc.inc) pm2).mono fun e I12 G l12 ⟨he,hG⟩=>⟨_,he,q.blk b (q.c.name s7.inc.inc).2::F0,hG.trans pm2.symm, ?_⟩
   exact⟨⟨1,k,(q.c.name s7.inc.inc).1,x,y,z,zNd,ta.1⟩,rfl,by simp only[DoN.p,zNd_px],⟨okx10.up (Imm.le_trans l11 l12),oky10.up (Imm.le_trans l11 l12),okz10.up (Imm.le_trans l11 l12),zNd_ok⟩,.refl _⟩
  ·rw[if_neg (by simp[hw])]
   exact⟨⟨1,k,⟨#[]⟩,x,y,z,zNd,ta.1⟩,rfl,by simp only[DoN.p,zNd_px],⟨okx10.up l11,oky10.up l11,okz10.up l11,zNd_ok⟩,.refl _⟩
 ·have h1:q.c.any atW s4≠1:=by simpa using h1
  rw[if_neg h1]
  unfold PC.subN PC.asName
  refine Tri.ret (p_is hq6 _ (s:=s4.inc) (.tail _ (.tail _ (.head _)))) fun I11 l11=>⟨_,rfl,q.blk b s4.inc::F0,.refl _,fun hw=>?_,fun hw=>?_⟩
  ·have hltw:=isW_lt hw
   rw[if_pos hw]
   refine⟨_,rfl,_,PQ.rd (k:=3) (.tail _ (.tail _ (.head _))) rfl,_,rfl,q.cl s4.inc,107,F0,.refl _,PQ.spot _ _,by rw[PQ.off];exact (by decide:3+1≤7), ?_⟩
   rw[PQ.inc_eq (s:=s4.inc) (by omega)]
   refine (p_name (hq6.mono l11) (s:=s4.inc.inc) pm2).mono fun e I12 G l12 ⟨he,hG⟩=>⟨_,he,q.blk b (q.c.name s4.inc.inc).2::F0,hG.trans pm2.symm, ?_⟩
   exact⟨⟨1,2,(q.c.name s4.inc.inc).1,x,y,zNd,zNd,ta.1⟩,rfl,by simp only[DoN.p,zNd_px],⟨okx6.up (Imm.le_trans l11 l12),oky6.up (Imm.le_trans l11 l12),zNd_ok,zNd_ok⟩,.refl _⟩
  ·rw[if_neg (by simp[hw])]
   exact⟨⟨1,2,⟨#[]⟩,x,y,zNd,zNd,ta.1⟩,rfl,by simp only[DoN.p,zNd_px],⟨okx6.up l11,oky6.up l11,zNd_ok,zNd_ok⟩,.refl _⟩
theorem p_do{q:PQ}:RSpec 146 DoN.v DoN.p okDo q q.c.do:=by
 intro b s I F F0 hq hsn hF
 have hl:=hq.len
 have hm:q.blk b s∈F:=hF.mem_iff.2 (.head _)
 refine ref13_Parser_do.vc ?_
 unfold ref13_Parser_do.V
 intro b2
 unfold PC.do
 refine Tri.ret (p_now hq (.tail _ hm)) fun I1 l1=>⟨_,_,_,_,_,rfl,F,.refl _,fun b3 I2 l2 hb3=>?_⟩
 have hq2:=(hq.mono l1).mono l2
 refine Tri.ret (p_any hq2 (Sl.words (ws:=doW) hb3 rfl) (by decide) (s:=s) (.tail _ hm)) fun I3 l3=>⟨_,rfl,F,.refl _,fun ha=>?_,fun ha=>?_⟩
 ·have ha:=of_decide_eq_true ha
  refine (p_wrong (hq2.mono l3) 130 ((hF.cons _).trans pm1)).mono fun e I7 G l7 ⟨he,hG⟩=>⟨he,q.blk b (q.c.wrong 130 s)::F0,hG.trans pm1, ?_⟩
  rw[if_pos ha]
  exact⟨⟨0,0,⟨#[]⟩,zNd,zNd,zNd,zNd,0⟩,rfl,by simp only[DoN.p,zNd_px];rfl,⟨zNd_ok,zNd_ok,zNd_ok,zNd_ok⟩,.refl _⟩
 have ha:=of_decide_eq_false ha
 rw[if_neg ha]
 have hab:=any_w (Int.not_lt.1 ha) (by decide)
 have hlt:=(any_lt (Int.not_lt.1 ha)).1
 have hq3:=hq2.mono l3
 refine⟨fun h0=>?_,fun h0=>?_⟩
 ·have h0:q.c.any doW s=0:=by simpa using h0
  rw[if_pos h0]
  refine (p_submit b s I3 _ _ hq3 hsn ((hF.cons _).trans pm1)).mono fun e I4 G l4 ⟨d,he,pd,okd,hG⟩=>?_
  exact⟨_,_,_,_,_,_,_,_,_,_,_,_,_,_,_,_,_,_,_,_,_,_,_,_,_,_,_,_,_,_,_,_,_,_,_,_,_,_,_,_,_,_,_,_,he,q.blk b (q.c.submit s).2::F0,hG.trans pm1,d,rfl,pd,okd,.refl _⟩
 have h0:q.c.any doW s≠0:=by simpa using h0
 rw[if_neg h0]
 refine⟨_,rfl,_,PQ.rd (k:=3) (.tail _ hm) rfl,_,rfl,q.cl s,107,F0,hF,PQ.spot _ _,by rw[PQ.off];exact (by decide:3+1≤7), ?_⟩
 rw[PQ.inc_eq (by omega),w8 (n:=q.c.any doW s) (by omega),w8 (n:=1+q.c.any doW s) (by omega)]
 generalize hk:q.c.any doW s=k at ha hab h0 ⊢
 intro b_d
 refine⟨fun h6=>?_,fun h6=>?_⟩
 ·have h6:1+k≠6:=by simpa using h6
  rw[if_neg (by omega)]
  have hn:=(Up.name (c:=q.c) (s:=s.inc)).2 hlt
  refine (p_name hq3 (s:=s.inc) pm2).mono fun e I4 G l4 ⟨he,hG⟩=>⟨_,he,q.blk b (q.c.name s.inc).2::F0,hG.trans pm2.symm, ?_⟩
  generalize q.c.name s.inc=n at hn ⊢
  have hq4:=hq3.mono l4
  unfold PC.doN
  refine⟨fun h2=>?_,fun h2=>?_⟩
  ·have h2:1+k=2:=by simpa using h2
   rw[if_pos h2]
   have h5:=(Up.take (c:=q.c) (s:=n.2) (⟨#[116,111]⟩:ByteArray)).2 hn
   refine (p_take hq4 _ (s:=n.2) pm2).mono fun e I5 G l5 ⟨he,hG⟩=>⟨_,he,q.blk b (q.c.take (⟨#[116,111]⟩:ByteArray) n.2).2::F0,hG.trans pm2.symm, ?_⟩
   generalize (q.c.take (⟨#[116,111]⟩:ByteArray) n.2).2=s5 at h5 ⊢
   have hq5:=hq4.mono l5
   have h6':=(Up.ex0 (c:=q.c) s5).2 h5
   refine (p_ex0 b s5 I5 _ _ hq5 h5 pm2).mono fun e I6 G l6 ⟨x,he,px,okx,hG⟩=>?_
   refine⟨_,_,_,_,_,_,_,_,_,_,he,q.blk b (q.c.ex0 s5).2::F0,hG.trans pm2.symm, ?_⟩
   rw[←px]
   generalize (q.c.ex0 s5).2=s6 at h6' ⊢
   have hq6:=hq5.mono l6
   unfold PC.doA
   have h7:=(Up.take (c:=q.c) (s:=s6) (⟨#[97,116]⟩:ByteArray)).2 h6'
   refine (p_take hq6 _ (s:=s6) pm2).mono fun e I7 G l7 ⟨he,hG⟩=>⟨_,he,q.blk b (q.c.take (⟨#[97,116]⟩:ByteArray) s6).2::F0,hG.trans pm2.symm, ?_⟩
   generalize (q.c.take (⟨#[97,116]⟩:ByteArray) s6).2=s7 at h7 ⊢
   refine (p_ex0 b s7 I7 _ _ (hq6.mono l7) h7 pm2).mono fun e I8 G l8 ⟨y,he,py,oky,hG⟩=>?_
   refine⟨_,_,_,_,_,_,_,_,_,_,he,q.blk b (q.c.ex0 s7).2::F0,hG.trans pm2.symm, ?_⟩
   rw[←py]
   refine⟨fun h4=>?_,fun h4=>?_⟩
   ·exfalso
    have h4:1+k=4:=by simpa using h4
    omega
   ·rw[h2]
    exact⟨⟨2,0,n.1,zNd,x,y,zNd,(q.c.now s).pos⟩,rfl,by simp only[DoN.p,zNd_px],⟨zNd_ok,okx.up (Imm.le_trans l7 l8),oky,zNd_ok⟩,.refl _⟩
  ·have h2:1+k≠2:=by simpa using h2
   rw[if_neg h2]
   refine⟨fun h4=>?_,fun h4=>?_⟩
   ·have h4:1+k=4:=by simpa using h4
    rw[if_pos h4]
    unfold PC.doS
    have h5:=(Up.take (c:=q.c) (s:=n.2) (⟨#[61]⟩:ByteArray)).2 hn
    refine (p_take hq4 _ (s:=n.2) pm2).mono fun e I5 G l5 ⟨he,hG⟩=>⟨_,he,q.blk b (q.c.take (⟨#[61]⟩:ByteArray) n.2).2::F0,hG.trans pm2.symm, ?_⟩
    generalize (q.c.take (⟨#[61]⟩:ByteArray) n.2).2=s5 at h5 ⊢
    have hq5:=hq4.mono l5
    refine (p_ex0 b s5 I5 _ _ hq5 h5 pm2).mono fun e I6 G l6 ⟨x,he,px,okx,hG⟩=>?_
    refine⟨_,_,_,_,_,_,_,_,_,_,he,q.blk b (q.c.ex0 s5).2::F0,hG.trans pm2.symm, ?_⟩
    rw[←px,h4]
    exact⟨⟨4,0,n.1,zNd,zNd,zNd,x,(q.c.now s).pos⟩,rfl,by simp only[DoN.p,zNd_px],⟨zNd_ok,zNd_ok,zNd_ok,okx⟩,.refl _⟩
   ·have h4:1+k≠4:=by simpa using h4
    rw[if_neg h4]
    exact⟨⟨1+k,0,n.1,zNd,zNd,zNd,zNd,(q.c.now s).pos⟩,rfl,by simp only[DoN.p,zNd_px],⟨zNd_ok,zNd_ok,zNd_ok,zNd_ok⟩,.refl _⟩
 ·have h6:1+k=6:=by simpa using h6
  rw[if_pos (by omega)]
  unfold PC.doN
  rw[if_neg (by decide),if_neg (by decide)]
  refine⟨fun h2=>?_,fun h2=>⟨fun h4=>?_,fun h4=>?_⟩⟩
  ·exfalso
   have h2:1+k=2:=by simpa using h2
   omega
  ·exfalso
   have h4:1+k=4:=by simpa using h4
   omega
  ·rw[h6]
   exact⟨⟨6,0,⟨#[]⟩,zNd,zNd,zNd,zNd,(q.c.now s).pos⟩,rfl,by simp only[DoN.p,zNd_px],⟨zNd_ok,zNd_ok,zNd_ok,zNd_ok⟩,.refl _⟩
end Go.Lx
namespace Go.Lx
open Go.Vc
theorem p_app{α:Type}{z:Nat}{f:α→List Value}(hz:∀x,(f x).length=z){t ty e:TypeId}{zv:Value}{by':Nat}(ht:P.underlying t=some (.slice e))(hi:(P.info? e).map (fun i=>(i.zero,i.size,i.bytes))=some (some zv,z,by'))(hzs:zv.cells.size=z)(hb:1≤by')(hb2:by'≤1000)
  {a:Option Addr} {n c b1:Nat} {l:List α} {A F R:Heap} {I:Imm} {o:Obj} (hA:Acc z f e a n c l A) (hl:l.length≤100) (x:α) (h1:∀u∈f x,u.oneCell'=true) (hbm:I b1=some o) (ho:o=.cells (f x).toArray e (0,0)) (hF:F.Perm (A++R)) :
  TriE P (Builtin.append_ #[t,t] ty #[.slice a n c,.slice (some ⟨b1,0,none⟩) 1 1]) I F fun v I' G=>∃a' n' c' A',v=.slice a' n' c'∧Acc z f e a' n' c' (l++[x]) A'∧G.Perm (A'++R):=by
 subst ho
 have hfit:(l.length+1)*by'≤101*1000:=Nat.mul_le_mul (by omega) hb2
 refine TriE.perm (TriE.mono (append_spec' hz ht hi hzs hb hA (xs:=[x]) (fun y hy=>by rw[List.mem_singleton] at hy;subst hy;exact h1) (by simp) rfl ?_ (by show (l.length+1)*by'≤_;omega) (F:=R)) fun v I' G _ ⟨a',n',c',A',h1,h2,h3,_⟩=>⟨a',n',c',A',h1,h2,by rw[h3]⟩) hF
 exact⟨rfl,_,_,_,.inl hbm,fun j hj=>by simp⟩
section
variable {N Pl:Type} (z:Nat) (f:N→List Value) (E:Nat) (p:N→Pl) (ok:Imm→N→Prop) (q:PQ) (b:Nat) (w:ByteArray) (most:Nat) (one:PS→Pl×PS) (s0:PS) (F0:Heap)
def LInv(a:Option Addr)(n c m:Nat)(I:Imm)(F:Heap):Prop:=q.ok I∧∃(ks:List N) (A:Heap) (s':PS),Acc z f E a n c ks A∧(∀k∈ks,ok I k)∧F.Perm (q.blk b s'::(A++F0))∧s'.next≤q.c.l.length∧ks.length≤most∧m=most-ks.length∧q.c.list w most one s0=q.c.listF w most one (most-ks.length) (ks.map p) s'
def LEnd(a:Option Addr)(n c:Nat)(I:Imm)(F:Heap):Prop:=q.ok I∧∃(ks:List N) (A:Heap),Acc z f E a n c ks A∧(∀k∈ks,ok I k)∧F.Perm (q.blk b (q.c.list w most one s0).2::(A++F0))∧(q.c.list w most one s0).1=ks.map p∧(q.c.list w most one s0).2.next≤q.c.l.length
end
section
variable {N Pl:Type} {z:Nat} {f:N→List Value} {E:Nat} {p:N→Pl} {ok:Imm→N→Prop} {q:PQ} {b:Nat} {w:ByteArray} {most:Nat} {one:PS→Pl×PS} {s0:PS} {F0:Heap} {I J:Imm} {F:Heap}
theorem LInv.start(hq:q.ok I)(hs:s0.next≤q.c.l.length)(hF:F.Perm (q.blk b s0::F0)):LInv z f E p ok q b w most one s0 F0 none 0 0 most I F :=
 ⟨hq,[],[],s0,Acc.nil,fun k hk=>(by cases hk),hF,hs,Nat.zero_le _,rfl,rfl⟩
theorem listF_stop{c:PC}{l:List Pl}{s:PS}(h:c.isW w s=false):∀m,c.listF w most one m l s=(l,s)
 | 0=>by rw[PC.listF,if_neg (by simp[h])]
 | m+1=>by rw[PC.listF,if_neg (by simp[h])]
theorem listF_full{c:PC}{l:List Pl}{s:PS}(h:c.isW w s=true)(ho:(c.many l.length most s).over=true):∀m,c.listF w most one m l s=(l,c.many l.length most s)
 | 0=>by rw[PC.listF,if_pos h]
 | m+1=>by rw[PC.listF,if_pos h,if_pos ho]
end
theorem reg_one(x:RegN):∀u∈x.enc,u.oneCell'=true:=by
 intro u hu
 simp only[RegN.enc,List.mem_cons,List.not_mem_nil,or_false] at hu
 rcases hu with h | h | h | h | h | h | h | h | h | h | h<;>(subst h;rfl)
theorem slot_one(x:SlotP):∀u∈x.enc,u.oneCell'=true:=by
 intro u hu
 simp only[SlotP.enc,List.mem_cons,List.not_mem_nil,or_false] at hu
 rcases hu with h | h<;>(subst h;rfl)
theorem state_one(x:StateN):∀u∈x.enc,u.oneCell'=true:=by
 intro u hu
 simp only[StateN.enc,List.mem_cons,List.not_mem_nil,or_false] at hu
 rcases hu with h | h | h<;>(subst h;rfl)
theorem rule_one(x:RuleN):∀u∈x.enc,u.oneCell'=true:=by
 intro u hu
 simp only[RuleN.enc,List.mem_cons,List.not_mem_nil,or_false] at hu
 rcases hu with h | h | h | h | h | h | h | h | h | h<;>(subst h;rfl)
theorem do_one(x:DoN):∀u∈x.enc,u.oneCell'=true:=by
 have h:x.enc.all (fun u=>u.oneCell')=true:=rfl
 exact fun u hu=>List.all_eq_true.1 h u hu
end Go.Lx
namespace Go.Lx
open Go.Vc
section
variable {c:PC}
theorem Up.dosF:∀(m:Nat) (l:List DoP),Mono c (c.dosF m l)
 | 0,l=>fun s=>.refl
 | m+1,l=>fun s=>by
   rw[PC.dosF]
   have h1:=Up.do (c:=c) s
   split
   ·rename_i hw
    have hlt:=isW_lt hw
    split
    ·exact h1.trans (.many _ _)
    ·rename_i hm
     obtain⟨_,he⟩:=many_le hlt (by simpa using hm)
     rw[he]
     exact h1.trans ((Up.inc hlt).trans (Up.dosF m _ _))
   ·exact h1
theorem Up.rule:Mono c c.rule:=fun s=>(Up.take _).trans ((Up.ex0 _).trans ((Up.take _).trans ((Up.dosF 8 [] _).trans (Up.take _))))
theorem Up.listF{α:Type}{w:ByteArray}{most:Nat}{one:PS→α×PS}(h:Mono c one):∀(m:Nat) (l:List α),Mono c (c.listF w most one m l)
 | 0,l=>fun s=>by
   rw[PC.listF]
   show Up c s (if c.isW w s then c.many l.length most s else s)
   split
   ·exact .many _ _
   ·exact .refl
 | m+1,l=>fun s=>by
   rw[PC.listF]
   split
   ·rename_i hw
    have hlt:=isW_lt hw
    split
    ·exact .many _ _
    ·rename_i hm
     obtain⟨_,he⟩:=many_le hlt (by simpa using hm)
     rw[he]
     exact (h s).trans (Up.listF h m _ _)
   ·exact .refl
theorem Up.list{α:Type}{w:ByteArray}{most:Nat}{one:PS→α×PS}(h:Mono c one):Mono c (c.list w most one):=Up.listF h most []
theorem Up.state:Mono c c.state:=fun s=>(Up.take _).trans (Up.name.trans ((Up.take _).trans ((Up.list Up.rule _).trans (Up.take _))))
theorem Up.slot:Mono c c.slot:=fun s=>(Up.take _).trans (Up.name.trans (Up.take _))
theorem Up.wholeE{nm:ByteArray}{rs:List RegP}{ss:List SlotP}{ts:List StateP}:Mono c (c.wholeE nm rs ss ts):=fun s=>by
 have h1:Up c s (if ts.length=0 then c.wrong 130 s else s):=by
  split
  ·exact .wrong _
  ·exact .refl
 exact h1.trans ((Up.take _).trans .end)
theorem Up.wholeT{nm:ByteArray}{rs:List RegP}{ss:List SlotP}:Mono c (c.wholeT nm rs ss):=fun s=>(Up.list (w:=(⟨#[115,116,97,116,101]⟩:ByteArray)) (most:=12) Up.state s).trans (Up.wholeE _)
theorem Up.wholeS{nm:ByteArray}{rs:List RegP}:Mono c (c.wholeS nm rs):=fun s=>(Up.list (w:=(⟨#[115,108,111,116]⟩:ByteArray)) (most:=4) Up.slot s).trans (Up.wholeT _)
theorem Up.wholeR{nm:ByteArray}:Mono c (c.wholeR nm):=fun s=>(Up.list (w:=(⟨#[114,101,103]⟩:ByteArray)) (most:=12) Up.reg s).trans (Up.wholeS _)
theorem Up.whole:Mono c c.whole:=fun s=>(Up.take _).trans (Up.name.trans ((Up.take _).trans (Up.wholeR _)))
end
section
variable {N Pl:Type} {z:Nat} {f:N→List Value} {E:Nat} {p:N→Pl} {ok:Imm→N→Prop} {q:PQ} {b:Nat} {w:ByteArray} {most:Nat} {one:PS→Pl×PS} {s0:PS} {F0:Heap} {I J:Imm} {F:Heap} {a:Option Addr} {n c m:Nat}
theorem LInv.next(hmono:∀I J x,Imm.le I J→ok I x→ok J x){ks:List N}{A:Heap}{s':PS}(hm:Mono q.c one)(hA:Acc z f E a n c ks A)(hks:∀k∈ks,ok I k)(hsn:s'.next≤q.c.l.length)(hr:q.c.list w most one s0=q.c.listF w most one (most-ks.length) (ks.map p) s')(hw:q.c.isW w s'=true)(ho:(q.c.many ks.length most s').over=false)
  {x:N} (hx:p x=(one s').1) (hok:ok J x) (hl:Imm.le I J) (hq:q.ok J) {a':Option Addr} {n' c':Nat} {A':Heap} (hA':Acc z f E a' n' c' (ks++[x]) A') (hF:F.Perm (q.blk b (one s').2::(A'++F0))) :
  LInv z f E p ok q b w most one s0 F0 a' n' c' (most-(ks.length+1)) J F:=by
 obtain⟨hlt,he⟩:=many_le (isW_lt hw) ho
 obtain⟨j,hj⟩:∃j,most-ks.length=j+1:=⟨most-ks.length-1,by omega⟩
 refine⟨hq,ks++[x],A',(one s').2,hA',fun k hk=>?_,hF,(hm _).2 hsn,by rw[List.length_append,List.length_singleton];omega,by rw[List.length_append,List.length_singleton], ?_⟩
 ·rcases List.mem_append.1 hk with hk | hk
  ·exact hmono _ _ _ hl (hks k hk)
  ·rw[List.mem_singleton] at hk;subst hk;exact hok
 ·rw[hr,hj,PC.listF,if_pos hw,List.length_map,if_neg (by simp[ho]),he,List.map_append,List.map_singleton,hx,List.length_append,List.length_singleton,show most-(ks.length+1)=j by omega]
theorem LEnd.stop{ks:List N}{A:Heap}{s':PS}(hq:q.ok I)(hA:Acc z f E a n c ks A)(hks:∀k∈ks,ok I k)(hsn:s'.next≤q.c.l.length)(hr:q.c.list w most one s0=q.c.listF w most one (most-ks.length) (ks.map p) s')(hw:q.c.isW w s'=false)(hF:F.Perm (q.blk b s'::(A++F0))):LEnd z f E p ok q b w most one s0 F0 a n c I F:=by
 rw[listF_stop hw] at hr
 exact⟨hq,ks,A,hA,hks,by rw[hr];exact hF,by rw[hr],by rw[hr];exact hsn⟩
theorem LEnd.full{ks:List N}{A:Heap}{s':PS}(hq:q.ok I)(hA:Acc z f E a n c ks A)(hks:∀k∈ks,ok I k)(hsn:s'.next≤q.c.l.length)(hr:q.c.list w most one s0=q.c.listF w most one (most-ks.length) (ks.map p) s')(hw:q.c.isW w s'=true)(ho:(q.c.many ks.length most s').over=true)(hF:F.Perm (q.blk b (q.c.many ks.length most s')::(A++F0))):LEnd z f E p ok q b w most one s0 F0 a n c I F:=by
 rw[listF_full hw (by rw[List.length_map];exact ho),List.length_map] at hr
 exact⟨hq,ks,A,hA,hks,by rw[hr];exact hF,by rw[hr],by rw[hr,many_next];exact hsn⟩
end
theorem okReg_mono(I J:Imm)(x:RegN)(hl:Imm.le I J)(h:okReg I x):okReg J x:=RegN.Ok.mono h hl fun _ h=>h
theorem okRule_mono(I J:Imm)(x:RuleN)(hl:Imm.le I J)(h:okRule I x):okRule J x:=RuleN.Ok.mono h hl fun _ h=>h
theorem okState_mono(I J:Imm)(x:StateN)(hl:Imm.le I J)(h:okState I x):okState J x:=StateN.Ok.mono h hl fun _ h=>h
theorem okDo_mono(I J:Imm)(x:DoN)(hl:Imm.le I J)(h:okDo I x):okDo J x:=DoN.Ok.mono h hl fun _ h=>h
theorem pmD{α:Type}{w z:α}{A l:List α}:(w::z::(A++l)).Perm (A++(w::z::l)):=List.perm_append_comm_assoc [w,z] A l
theorem p_slots{q:PQ}(b:Nat)(s:PS)(I:Imm)(F F0:Heap)(hq:q.ok I)(hsn:s.next≤q.c.l.length)(hF:F.Perm (q.blk b s::F0)):Tri P 94 #[.pointer (some ⟨b,0,none⟩)] I F fun e I' G =>
  ∃a n c,e=.returned (.slice a n c)∧Sl I' 2 SlotP.enc a n (q.c.list (⟨#[115,108,111,116]⟩:ByteArray) 4 q.c.slot s).1∧G.Perm (q.blk b (q.c.list (⟨#[115,108,111,116]⟩:ByteArray) 4 q.c.slot s).2::F0):=by
 refine Tri.keep (Q:=fun e I' G=>∃a n c A,e=.returned (.slice a n c)∧Acc 2 SlotP.enc 79 a n c (q.c.list (⟨#[115,108,111,116]⟩:ByteArray) 4 q.c.slot s).1 A∧G.Perm (q.blk b (q.c.list (⟨#[115,108,111,116]⟩:ByteArray) 4 q.c.slot s).2::(A++F0))) ?_ fun e I' G w hl hs ⟨a,n,c,A,he,hA,hG⟩=>?_
 rotate_left
 ·obtain⟨J,h1,h2,h3⟩:=Acc.keep (z:=2) (f:=SlotP.enc) (fun _=>rfl) hA (hs.perm (hG.trans (List.perm_append_comm_assoc [_] A F0)))
  exact⟨J,_,h1,h2,a,n,c,he,h3,.refl _⟩
 have hl:=hq.len
 have hend:∀a n c I F,LEnd 2 SlotP.enc 79 id (fun _ _=>True) q b (⟨#[115,108,111,116]⟩:ByteArray) 4 q.c.slot s F0 a n c I F→∃a' n' c' A,Ending.returned (.slice a n c)=.returned (.slice a' n' c')∧Acc 2 SlotP.enc 79 a' n' c' (q.c.list (⟨#[115,108,111,116]⟩:ByteArray) 4 q.c.slot s).1 A∧F.Perm (q.blk b (q.c.list (⟨#[115,108,111,116]⟩:ByteArray) 4 q.c.slot s).2::(A++F0)):=by
  intro a n c I F ⟨_,ks,A,hA,_,hF,hk,_⟩
  rw[List.map_id] at hk
  exact⟨a,n,c,A,rfl,by rw[hk];exact hA,hF⟩
 refine ref13_Parser_slots.vc (fun xa xn xc a n c m I' F'=>LInv 2 SlotP.enc 79 id (fun _ _=>True) q b (⟨#[115,108,111,116]⟩:ByteArray) 4 q.c.slot s F0 a n c m I' F') ?_
 unfold ref13_Parser_slots.V
 refine⟨⟨_,LInv.start hq hsn hF⟩,fun xa xn xc a n c m I1 F1 l1 ⟨hq1,ks,A,s',hA,hks,hF1,hs1,hkl,hm,hr⟩=>?_⟩
 have hn:=hA.1
 subst hn
 refine Tri.ret (p_is hq1 _ (hF1.mem_iff.2 (.head _))) fun I2 l2=>⟨_,rfl,F1,.refl _,fun hw=>?_,fun hw=>?_⟩
 ·exact hend _ _ _ I2 _ (LEnd.stop (hq1.mono l2) hA (fun _ _=>trivial) hs1 hr (by simpa using hw) hF1)
 have hw:q.c.isW (⟨#[115,108,111,116]⟩:ByteArray) s'=true:=by simpa using hw
 have hlt:=isW_lt hw
 have hq2:=hq1.mono l2
 refine (p_many hq2 ks.length 4 hF1).mono fun e I3 G l3 ⟨he,hG⟩=>⟨_,he,G,.refl _,fun ho=>?_,fun ho=>?_⟩
 ·exact hend _ _ _ I3 _ (LEnd.full (hq2.mono l3) hA (fun _ _=>trivial) hs1 hr hw (by simpa using ho) hG)
 have ho:(q.c.many ks.length 4 s').over=false:=by simpa using ho
 obtain⟨hlt4,hme⟩:=many_le hlt ho
 rw[hme] at hG
 have hq3:=hq2.mono l3
 refine (p_take hq3 _ hG).mono fun e I4 G4 l4 ⟨he,hG4⟩=>⟨_,he,q.blk b (q.c.take (⟨#[115,108,111,116]⟩:ByteArray) s').2::(A++F0),hG4,fun b_x=>?_⟩
 have hq4:=hq3.mono l4
 refine (p_name hq4 (s:=(q.c.take (⟨#[115,108,111,116]⟩:ByteArray) s').2) pm1).mono fun e I5 G5 l5 ⟨he,hG5⟩=>⟨_,he,q.blk b (q.c.name (q.c.take (⟨#[115,108,111,116]⟩:ByteArray) s').2).2::(A++F0),hG5.trans pm1, ?_⟩
 have hq5:=hq4.mono l5
 refine (p_take hq5 _ (s:=(q.c.name (q.c.take (⟨#[115,108,111,116]⟩:ByteArray) s').2).2) pm1).mono fun e I6 G6 l6 ⟨he,hG6⟩=>⟨_,he,q.blk b (q.c.slot s').2::(A++F0),hG6.trans pm1,fun b4 I7 l7 hb4=>?_⟩
 have hq6:=hq5.mono l6
 refine (p_app (f:=SlotP.enc) (fun _=>rfl) (zv:=(⟨⟨#[]⟩,0⟩:SlotP).v) (by':=24) (by kernel_rfl) (by kernel_rfl) rfl (by decide) (by decide) hA (by omega) (q.c.slot s').1 (slot_one _) hb4 rfl pmD).mono fun v I8 G8 l8 ⟨a',n',c',A',hv,hA',hG8⟩=>⟨a',n',c',hv,q.blk b (q.c.slot s').2::(A'++F0),hG8.trans pmD.symm,4-(ks.length+1),by omega, ?_⟩
 exact LInv.next (fun _ _ _ _ _=>trivial) Up.slot hA hks hs1 hr hw ho (x:=(q.c.slot s').1) rfl trivial (Imm.le_refl _) ((hq6.mono l7).mono l8) hA' (.refl _)
end Go.Lx
namespace Go.Lx
open Go.Vc
theorem dosF_stop{c:PC}{m:Nat}{l:List DoP}{s:PS}(h:c.isW (⟨#[44]⟩:ByteArray) (c.do s).2=false):c.dosF (m+1) l s=(l++[(c.do s).1],(c.do s).2):=by
 rw[PC.dosF,if_neg (by simp[h])]
theorem dosF_full{c:PC}{m:Nat}{l:List DoP}{s:PS}(h:c.isW (⟨#[44]⟩:ByteArray) (c.do s).2=true)(ho:(c.many (l.length+1) 8 (c.do s).2).over=true):c.dosF (m+1) l s=(l++[(c.do s).1],c.many (l.length+1) 8 (c.do s).2):=by
 rw[PC.dosF,if_pos h,if_pos ho]
theorem p_rule{q:PQ}:RSpec 124 RuleN.v RuleN.p okRule q q.c.rule:=by
 intro b s I F F0 hq hsn hF
 have hl:=hq.len
 refine Tri.keep (Q:=fun e I' G=>∃(w:Nd) (a:Option Addr) (c:Nat) (ds:List DoN) (pos:Int) (A:Heap),e=.returned (RuleN.v ⟨w,a,c,ds,pos⟩)∧(⟨w,a,c,ds,pos⟩:RuleN).p=(q.c.rule s).1∧NdOk I' [] w∧Acc 36 DoN.enc 99 a ds.length c ds A∧(∀d∈ds,okDo I' d)∧G.Perm (q.blk b (q.c.rule s).2::(A++F0))) ?_ fun e I' G w hl hs ⟨w',a,c,ds,pos,A,he,hp,hw,hA,hd,hG⟩=>?_
 rotate_left
 ·obtain⟨J,h1,h2,h3⟩:=Acc.keep (z:=36) (f:=DoN.enc) (fun _=>rfl) hA (hs.perm (hG.trans (List.perm_append_comm_assoc [_] A F0)))
  exact⟨J,_,h1,h2,_,he,hp,⟨hw.up h1,h3.slg [],fun d hdm=>okDo_mono _ _ _ h1 (hd d hdm)⟩,.refl _⟩
 unfold PC.rule
 have ht:=(Up.take (c:=q.c) (s:=s) (⟨#[119,104,101,110]⟩:ByteArray)).2 hsn
 generalize hta:q.c.take (⟨#[119,104,101,110]⟩:ByteArray) s=ta at ht ⊢
 have hx2:=(Up.ex0 (c:=q.c) ta.2).2 ht
 have h3:=(Up.take (c:=q.c) (s:=(q.c.ex0 ta.2).2) (⟨#[100,111]⟩:ByteArray)).2 hx2
 obtain⟨s3,hs3⟩:∃s3,s3=(q.c.take (⟨#[100,111]⟩:ByteArray) (q.c.ex0 ta.2).2).2:=⟨_,rfl⟩
 rw[←hs3] at h3
 refine ref13_Parser_rule.vc (fun n0 n1 n2 n3 n4 n5 na nn nc n7 a n c pos I' F'=>q.ok I'∧∃(t:Nd) (ks:List DoN) (A:Heap),t.v=(.agg #[.int .u8 n0,.int .u8 n1,.int .u8 n2,.int .i64 n3,.int .u8 n4,.string n5,.slice na nn nc,.int .i64 n7])∧t.px=(q.c.ex0 ta.2).1∧NdOk I' [] t∧pos=ta.1∧Acc 36 DoN.enc 99 a n c ks A∧(∀k∈ks,okDo I' k)∧F'.Perm (q.blk b (q.c.dosF 8 [] s3).2::(A++F0))∧(q.c.dosF 8 [] s3).1=ks.map DoN.p∧(q.c.dosF 8 [] s3).2.next≤q.c.l.length)
  (fun n0 n1 n2 n3 n4 n5 na nn nc n7 a n c pos m I' F'=>q.ok I'∧∃(t:Nd) (ks:List DoN) (A:Heap) (s':PS),t.v=(.agg #[.int .u8 n0,.int .u8 n1,.int .u8 n2,.int .i64 n3,.int .u8 n4,.string n5,.slice na nn nc,.int .i64 n7])∧t.px=(q.c.ex0 ta.2).1∧NdOk I' [] t∧pos=ta.1∧Acc 36 DoN.enc 99 a n c ks A∧(∀k∈ks,okDo I' k)∧F'.Perm (q.blk b s'::(A++F0))∧s'.next≤q.c.l.length∧ks.length<8∧m=8-ks.length∧q.c.dosF 8 [] s3=q.c.dosF (8-ks.length) (ks.map DoN.p) s') ?_
 unfold ref13_Parser_rule.V
 intro b2
 refine (p_take hq _ ((hF.cons _).trans pm1)).mono fun e I1 G l1 ⟨he,hG⟩=>⟨_,he,q.blk b ta.2::F0,by rw[hta] at hG;exact hG.trans pm1,fun b_r=>?_⟩
 rw[hta]
 have hq1:=hq.mono l1
 refine (p_ex0 b ta.2 I1 _ _ hq1 ht pm2).mono fun e I2 G l2 ⟨x,he,px,okx,hG⟩=>?_
 refine⟨_,_,_,_,_,_,_,_,_,_,he,q.blk b (q.c.ex0 ta.2).2::F0,hG.trans pm2.symm, ?_⟩
 have hq2:=hq1.mono l2
 refine (p_take hq2 _ (s:=(q.c.ex0 ta.2).2) pm2).mono fun e I3 G l3 ⟨he,hG⟩=>⟨_,he,q.blk b s3::F0,by rw[←hs3] at hG;exact hG.trans pm2.symm,⟨⟨_,hq2.mono l3,x,[],[],s3,rfl,px,okx.up l3,rfl,Acc.nil,fun k hk=>(by cases hk),.refl _,h3,by decide,rfl,rfl⟩, ?_⟩, ?_⟩
 ·intro n0 n1 n2 n3 n4 n5 na nn nc n7 a n c pos m I4 F4 l4 ⟨hq4,t,ks,A,s',htv,pt,okt,hpos,hA,hks,hF4,hsn',hkl,hm,hr⟩
  have hn:=hA.1
  subst hn hpos
  have hup:=(Up.do (c:=q.c) s').2 hsn'
  refine (p_do b s' I4 _ _ hq4 hsn' (((hF4.cons _).cons _).trans pm2)).mono fun e I5 G l5 ⟨d,he,pd,okd,hG⟩=>?_
  refine⟨_,_,_,_,_,_,_,_,_,_,_,_,_,_,_,_,_,_,_,_,_,_,_,_,_,_,_,_,_,_,_,_,_,_,_,_,_,_,_,_,_,_,_,_,he,q.blk b (q.c.do s').2::(A++F0),hG.trans pm2.symm,fun b_d b4 I6 l6 hb4=>?_⟩
  have hq6:=(hq4.mono l5).mono l6
  refine (p_app (f:=DoN.enc) (fun _=>rfl) (zv:=(⟨0,0,⟨#[]⟩,zNd,zNd,zNd,zNd,0⟩:DoN).v) (by':=320) (by kernel_rfl) (by kernel_rfl) rfl (by decide) (by decide) hA (by omega) d (do_one _) hb4 rfl pmA).mono fun v I7 G7 l7 ⟨a',n',c',A',hv,hA',hG7⟩=>⟨a',n',c',hv,q.blk b (q.c.do s').2::(A'++F0),hG7.trans pmA.symm, ?_⟩
  have hq7:=hq6.mono l7
  have hn':=hA'.1
  rw[List.length_append,List.length_singleton] at hn'
  subst hn'
  obtain⟨j,hj⟩:∃j,8-ks.length=j+1:=⟨8-ks.length-1,by omega⟩
  rw[hj] at hr
  have l47:=Imm.le_trans l5 (Imm.le_trans l6 l7)
  have hks':∀J,Imm.le I7 J→∀k∈ks++[d],okDo J k:=fun J hJ k hk=>by
   rcases List.mem_append.1 hk with hk | hk
   ·exact okDo_mono _ _ _ (Imm.le_trans l47 hJ) (hks k hk)
   ·rw[List.mem_singleton] at hk;subst hk;exact okDo_mono _ _ _ (Imm.le_trans l6 (Imm.le_trans l7 hJ)) okd
  refine Tri.ret (p_is hq7 _ (s:=(q.c.do s').2) (.tail _ (.tail _ (.tail _ (.head _))))) fun I8 l8=>⟨_,rfl,q.blk b (q.c.do s').2::(A'++F0),.refl _,fun hw=>?_,fun hw=>?_⟩
  ·have hw:q.c.isW (⟨#[44]⟩:ByteArray) (q.c.do s').2=false:=by simpa using hw
   rw[dosF_stop hw] at hr
   exact⟨hq7.mono l8,t,ks++[d],A',htv,pt,okt.up (Imm.le_trans l47 l8),rfl,hA',hks' _ l8,by rw[hr],by rw[hr,List.map_append,List.map_singleton,pd],by rw[hr];exact hup⟩
  have hw:q.c.isW (⟨#[44]⟩:ByteArray) (q.c.do s').2=true:=by simpa using hw
  have hlt:=isW_lt hw
  have hq8:=hq7.mono l8
  refine (p_many hq8 (ks.length+1) 8 (s:=(q.c.do s').2) pm3).mono fun e I9 G l9 ⟨he,hG⟩=>⟨_,he,q.blk b (q.c.many (ks.length+1) 8 (q.c.do s').2)::(A'++F0),hG.trans pm3.symm,fun ho=>?_,fun ho=>?_⟩
  ·have ho:(q.c.many (ks.length+1) 8 (q.c.do s').2).over=true:=by simpa using ho
   rw[dosF_full hw (by rw[List.length_map];exact ho),List.length_map] at hr
   exact⟨hq8.mono l9,t,ks++[d],A',htv,pt,okt.up (Imm.le_trans l47 (Imm.le_trans l8 l9)),rfl,hA',hks' _ (Imm.le_trans l8 l9),by rw[hr],by rw[hr,List.map_append,List.map_singleton,pd],by rw[hr];show (q.c.many _ _ _).next≤_;rw[many_next];exact hup⟩
  have ho:(q.c.many (ks.length+1) 8 (q.c.do s').2).over=false:=by simpa using ho
  obtain⟨hlt8,hme⟩:=many_le hlt ho
  rw[hme]
  refine⟨_,rfl,_,PQ.rd (k:=3) (.tail _ (.tail _ (.tail _ (.head _)))) rfl,_,rfl,q.cl (q.c.do s').2,107,A'++F0,.refl _,PQ.spot _ _,by rw[PQ.off];exact (by decide:3+1≤7), ?_⟩
  rw[PQ.inc_eq (by omega)]
  refine⟨8-(ks.length+1),by omega,hq8.mono l9,t,ks++[d],A',_,htv,pt,okt.up (Imm.le_trans l47 (Imm.le_trans l8 l9)),rfl,hA',hks' _ (Imm.le_trans l8 l9),.refl _,hlt,by rw[List.length_append,List.length_singleton];omega,by rw[List.length_append,List.length_singleton], ?_⟩
  rw[hr,PC.dosF,if_pos hw,List.length_map,if_neg (by simp[ho]),hme,List.map_append,List.map_singleton,pd,List.length_append,List.length_singleton,show 8-(ks.length+1)=j by omega]
 ·intro n0 n1 n2 n3 n4 n5 na nn nc n7 a n c pos I10 F10 l10 ⟨hq10,t,ks,A,htv,pt,okt,hpos,hA,hks,hF10,hr,hn10⟩
  simp only[Nd.v,Value.agg.injEq,Array.mk.injEq,List.cons.injEq,Value.int.injEq,Value.string.injEq,Value.slice.injEq,true_and,and_true] at htv
  obtain⟨rfl,rfl,rfl,rfl,rfl,rfl,⟨rfl,rfl,rfl⟩,rfl⟩:=htv
  have hn:=hA.1
  subst hn hpos
  unfold PC.ruleD
  rw[←hs3]
  refine (p_take hq10 _ (s:=(q.c.dosF 8 [] s3).2) (((hF10.cons _).cons _).trans pm2)).mono fun e I11 G l11 ⟨he,hG⟩=>⟨_,he,q.blk b (q.c.take (⟨#[59]⟩:ByteArray) (q.c.dosF 8 [] s3).2).2::(A++F0),hG.trans pm2.symm, ?_⟩
  exact⟨t,a,c,ks,ta.1,A,rfl,by simp only[RuleN.p,pt,hr],okt.up l11,hA,fun k hk=>okDo_mono _ _ _ l11 (hks k hk),.refl _⟩
theorem p_state{q:PQ}:RSpec 95 StateN.v StateN.p okState q q.c.state:=by
 intro b s I F F0 hq hsn hF
 have hl:=hq.len
 refine Tri.keep (Q:=fun e I' G=>∃(nm:ByteArray) (a:Option Addr) (c:Nat) (ds:List RuleN) (pos:Int) (A:Heap),e=.returned (StateN.v ⟨nm,a,c,ds,pos⟩)∧(⟨nm,a,c,ds,pos⟩:StateN).p=(q.c.state s).1∧Acc 10 RuleN.enc 84 a ds.length c ds A∧(∀d∈ds,okRule I' d)∧G.Perm (q.blk b (q.c.state s).2::(A++F0))) ?_ fun e I' G w hl hs ⟨nm,a,c,ds,pos,A,he,hp,hA,hd,hG⟩=>?_
 rotate_left
 ·obtain⟨J,h1,h2,h3⟩:=Acc.keep (z:=10) (f:=RuleN.enc) (fun _=>rfl) hA (hs.perm (hG.trans (List.perm_append_comm_assoc [_] A F0)))
  exact⟨J,_,h1,h2,_,he,hp,⟨h3.slg [],fun d hdm=>okRule_mono _ _ _ h1 (hd d hdm)⟩,.refl _⟩
 unfold PC.state
 have ht:=(Up.take (c:=q.c) (s:=s) (⟨#[115,116,97,116,101]⟩:ByteArray)).2 hsn
 generalize hta:q.c.take (⟨#[115,116,97,116,101]⟩:ByteArray) s=ta at ht ⊢
 have hn:=(Up.name (c:=q.c) (s:=ta.2)).2 ht
 generalize hbb:q.c.name ta.2=bb at hn ⊢
 have h3:=(Up.take (c:=q.c) (s:=bb.2) (⟨#[123]⟩:ByteArray)).2 hn
 generalize hs3:(q.c.take (⟨#[123]⟩:ByteArray) bb.2).2=s3 at h3 ⊢
 refine ref13_Parser_state.vc (fun nm a n c pos I' F'=>nm=bb.1∧pos=ta.1∧LEnd 10 RuleN.enc 84 RuleN.p okRule q b (⟨#[119,104,101,110]⟩:ByteArray) 12 q.c.rule s3 F0 a n c I' F')
  (fun nm a n c pos m I' F'=>nm=bb.1∧pos=ta.1∧LInv 10 RuleN.enc 84 RuleN.p okRule q b (⟨#[119,104,101,110]⟩:ByteArray) 12 q.c.rule s3 F0 a n c m I' F') ?_
 unfold ref13_Parser_state.V
 intro b2
 refine (p_take hq _ ((hF.cons _).trans pm1)).mono fun e I1 G l1 ⟨he,hG⟩=>⟨_,he,q.blk b ta.2::F0,by rw[hta] at hG;exact hG.trans pm1,fun b_s=>?_⟩
 rw[hta]
 have hq1:=hq.mono l1
 refine (p_name hq1 (s:=ta.2) pm2).mono fun e I2 G l2 ⟨he,hG⟩=>⟨_,he,q.blk b bb.2::F0,by rw[hbb] at hG;exact hG.trans pm2.symm, ?_⟩
 rw[hbb]
 have hq2:=hq1.mono l2
 refine (p_take hq2 _ (s:=bb.2) pm2).mono fun e I3 G l3 ⟨he,hG⟩=>⟨_,he,q.blk b s3::F0,by rw[hs3] at hG;exact hG.trans pm2.symm,⟨⟨_,rfl,rfl,LInv.start (hq2.mono l3) h3 (.refl _)⟩, ?_⟩, ?_⟩
 ·intro nm a n c pos m I4 F4 l4 ⟨e1,e2,hq4,ks,A,s',hA,hks,hF4,hsn',hkl,hm,hr⟩
  have hn:=hA.1
  subst hn e1 e2
  have hm4:q.blk b s'∈F4:=hF4.mem_iff.2 (.head _)
  refine Tri.ret (p_is hq4 _ (s:=s') (.tail _ (.tail _ hm4))) fun I5 l5=>⟨_,rfl,F4,.refl _,fun hw=>?_,fun hw=>?_⟩
  ·exact⟨rfl,rfl,LEnd.stop (hq4.mono l5) hA (fun k hk=>okRule_mono _ _ _ l5 (hks k hk)) hsn' hr (by simpa using hw) hF4⟩
  have hw:q.c.isW (⟨#[119,104,101,110]⟩:ByteArray) s'=true:=by simpa using hw
  have hlt:=isW_lt hw
  have hq5:=hq4.mono l5
  refine (p_many hq5 ks.length 12 (((hF4.cons _).cons _).trans pm2)).mono fun e I6 G l6 ⟨he,hG⟩=>⟨_,he,q.blk b (q.c.many ks.length 12 s')::(A++F0),hG.trans pm2.symm,fun ho=>?_,fun ho=>?_⟩
  ·exact⟨rfl,rfl,LEnd.full (hq5.mono l6) hA (fun k hk=>okRule_mono _ _ _ (Imm.le_trans l5 l6) (hks k hk)) hsn' hr hw (by simpa using ho) (.refl _)⟩
  have ho:(q.c.many ks.length 12 s').over=false:=by simpa using ho
  obtain⟨hlt4,hme⟩:=many_le hlt ho
  rw[hme]
  have hq6:=hq5.mono l6
  refine (p_rule b s' I6 _ _ hq6 hsn' pm2).mono fun e I7 G l7 ⟨x,he,px,okx,hG⟩=>?_
  refine⟨_,_,_,_,_,_,_,_,_,_,_,_,_,_,he,q.blk b (q.c.rule s').2::(A++F0),hG.trans pm2.symm,fun b_r b4 I8 l8 hb4=>?_⟩
  have hq8:=(hq6.mono l7).mono l8
  refine (p_app (f:=RuleN.enc) (fun _=>rfl) (zv:=(⟨zNd,none,0,[],0⟩:RuleN).v) (by':=104) (by kernel_rfl) (by kernel_rfl) rfl (by decide) (by decide) hA (by omega) x (rule_one _) hb4 rfl pmA).mono fun v I9 G9 l9 ⟨a',n',c',A',hv,hA',hG9⟩=>⟨a',n',c',hv,q.blk b (q.c.rule s').2::(A'++F0),hG9.trans pmA.symm,12-(ks.length+1),by omega,rfl,rfl, ?_⟩
  exact LInv.next okRule_mono Up.rule hA hks hsn' hr hw ho px (okRule_mono _ _ _ (Imm.le_trans l8 l9) okx) (Imm.le_trans l5 (Imm.le_trans l6 (Imm.le_trans l7 (Imm.le_trans l8 l9)))) (hq8.mono l9) hA' (.refl _)
 ·intro nm a n c pos I10 F10 l10 ⟨e1,e2,hq10,ks,A,hA,hks,hF10,hr,hn10⟩
  have hn:=hA.1
  subst hn e1 e2
  unfold PC.stateN
  refine (p_take hq10 _ (s:=(q.c.list (⟨#[119,104,101,110]⟩:ByteArray) 12 q.c.rule s3).2) (((hF10.cons _).cons _).trans pm2)).mono fun e I11 G l11 ⟨he,hG⟩=>⟨_,he,q.blk b (q.c.take (⟨#[125]⟩:ByteArray) (q.c.list (⟨#[119,104,101,110]⟩:ByteArray) 12 q.c.rule s3).2).2::(A++F0),hG.trans pm2.symm, ?_⟩
  exact⟨bb.1,a,c,ks,ta.1,A,rfl,by simp only[StateN.p,hr],hA,fun k hk=>okRule_mono _ _ _ l11 (hks k hk),.refl _⟩
end Go.Lx
namespace Go.Lx
open Go.Vc
theorem p_whole{q:PQ}:RSpec 56 StgN.v StgN.p okStg q q.c.whole:=by
 intro b s I F F0 hq hsn hF
 have hl:=hq.len
 refine Tri.keep (Q:=fun e I' G=>∃(nm:ByteArray) (a1:Option Addr) (c1:Nat) (rs:List RegN) (a2:Option Addr) (c2:Nat) (ss:List SlotP) (a3:Option Addr) (c3:Nat) (ts:List StateN) (A1 A2:Heap),e=.returned (StgN.v ⟨nm,a1,c1,rs,a2,c2,ss,a3,c3,ts⟩)∧(⟨nm,a1,c1,rs,a2,c2,ss,a3,c3,ts⟩:StgN).p=(q.c.whole s).1 ∧
   Acc 11 RegN.enc 77 a1 rs.length c1 rs A1∧(∀d∈rs,okReg I' d)∧Sl I' 2 SlotP.enc a2 ss.length ss∧Acc 3 StateN.enc 65 a3 ts.length c3 ts A2∧(∀d∈ts,okState I' d)∧G.Perm (q.blk b (q.c.whole s).2::(A2++(A1++F0)))) ?_
  fun e I' G w hl hs ⟨nm,a1,c1,rs,a2,c2,ss,a3,c3,ts,A1,A2,he,hp,hA1,hd1,hS,hA2,hd2,hG⟩=>?_
 rotate_left
 ·obtain⟨J,h1,h2,h3⟩:=Acc.keep (z:=3) (f:=StateN.enc) (fun _=>rfl) hA2 (hs.perm (hG.trans (List.perm_append_comm_assoc [_] A2 (A1++F0))))
  obtain⟨J2,k1,k2,k3⟩:=Acc.keep (z:=11) (f:=RegN.enc) (fun _=>rfl) hA1 (h2.perm (List.perm_append_comm_assoc [_] A1 F0))
  exact⟨J2,_,Imm.le_trans h1 k1,k2,_,he,hp,⟨k3.slg [],fun d hdm=>okReg_mono _ _ _ (Imm.le_trans h1 k1) (hd1 d hdm),(hS.mono (Imm.le_trans h1 k1)).slg [],(h3.mono k1).slg [],fun d hdm=>okState_mono _ _ _ (Imm.le_trans h1 k1) (hd2 d hdm)⟩,.refl _⟩
 unfold PC.whole
 have ht:=(Up.take (c:=q.c) (s:=s) (⟨#[115,116,114,97,116,101,103,121]⟩:ByteArray)).2 hsn
 generalize hta:(q.c.take (⟨#[115,116,114,97,116,101,103,121]⟩:ByteArray) s).2=s1 at ht ⊢
 have hn:=(Up.name (c:=q.c) (s:=s1)).2 ht
 generalize hbb:q.c.name s1=bb at hn ⊢
 have h3:=(Up.take (c:=q.c) (s:=bb.2) (⟨#[123]⟩:ByteArray)).2 hn
 generalize hs3:(q.c.take (⟨#[123]⟩:ByteArray) bb.2).2=s3 at h3 ⊢
 unfold PC.wholeR PC.wholeS PC.wholeT PC.wholeE
 refine ref13_Parser_whole.vc
  (fun nm a1 n1 c1 a2 n2 c2 a3 n3 c3 I' F'=>nm=bb.1∧a3=none∧n3=0∧c3=0∧LEnd 11 RegN.enc 77 RegN.p okReg q b (⟨#[114,101,103]⟩:ByteArray) 12 q.c.reg s3 F0 a1 n1 c1 I' F')
  (fun nm a1 n1 c1 a2 n2 c2 a3 n3 c3 m I' F'=>nm=bb.1∧a3=none∧n3=0∧c3=0∧LInv 11 RegN.enc 77 RegN.p okReg q b (⟨#[114,101,103]⟩:ByteArray) 12 q.c.reg s3 F0 a1 n1 c1 m I' F')
  (fun nm a1 n1 c1 a2 n2 c2 a3 n3 c3 I' F'=>nm=bb.1∧∃(rs:List RegN) (A1:Heap),Acc 11 RegN.enc 77 a1 n1 c1 rs A1∧(∀k∈rs,okReg I' k)∧(q.c.list (⟨#[114,101,103]⟩:ByteArray) 12 q.c.reg s3).1=rs.map RegN.p∧Sl I' 2 SlotP.enc a2 n2 (q.c.list (⟨#[115,108,111,116]⟩:ByteArray) 4 q.c.slot (q.c.list (⟨#[114,101,103]⟩:ByteArray) 12 q.c.reg s3).2).1 ∧
    LEnd 3 StateN.enc 65 StateN.p okState q b (⟨#[115,116,97,116,101]⟩:ByteArray) 12 q.c.state (q.c.list (⟨#[115,108,111,116]⟩:ByteArray) 4 q.c.slot (q.c.list (⟨#[114,101,103]⟩:ByteArray) 12 q.c.reg s3).2).2 (A1++F0) a3 n3 c3 I' F')
  (fun nm a1 n1 c1 a2 n2 c2 a3 n3 c3 m I' F'=>nm=bb.1∧∃(rs:List RegN) (A1:Heap),Acc 11 RegN.enc 77 a1 n1 c1 rs A1∧(∀k∈rs,okReg I' k)∧(q.c.list (⟨#[114,101,103]⟩:ByteArray) 12 q.c.reg s3).1=rs.map RegN.p∧Sl I' 2 SlotP.enc a2 n2 (q.c.list (⟨#[115,108,111,116]⟩:ByteArray) 4 q.c.slot (q.c.list (⟨#[114,101,103]⟩:ByteArray) 12 q.c.reg s3).2).1 ∧
    LInv 3 StateN.enc 65 StateN.p okState q b (⟨#[115,116,97,116,101]⟩:ByteArray) 12 q.c.state (q.c.list (⟨#[115,108,111,116]⟩:ByteArray) 4 q.c.slot (q.c.list (⟨#[114,101,103]⟩:ByteArray) 12 q.c.reg s3).2).2 (A1++F0) a3 n3 c3 m I' F') ?_
 unfold ref13_Parser_whole.V
 intro b2 b_s
 refine (p_take hq _ (((hF.cons _).cons _).trans pm2)).mono fun e I1 G l1 ⟨he,hG⟩=>⟨_,he,q.blk b s1::F0,by rw[hta] at hG;exact hG.trans pm2.symm, ?_⟩
 have hq1:=hq.mono l1
 refine (p_name hq1 (s:=s1) pm2).mono fun e I2 G l2 ⟨he,hG⟩=>⟨_,he,q.blk b bb.2::F0,by rw[hbb] at hG;exact hG.trans pm2.symm, ?_⟩
 rw[hbb]
 have hq2:=hq1.mono l2
 refine (p_take hq2 _ (s:=bb.2) pm2).mono fun e I3 G l3 ⟨he,hG⟩=>⟨_,he,q.blk b s3::F0,by rw[hs3] at hG;exact hG.trans pm2.symm,⟨⟨_,rfl,rfl,rfl,rfl,LInv.start (hq2.mono l3) h3 (.refl _)⟩, ?_⟩, ?_⟩
 ·intro nm a1 n1 c1 a2 n2 c2 a3 n3 c3 m I4 F4 l4 ⟨e1,e2,e3,e4,hq4,ks,A,s',hA,hks,hF4,hsn',hkl,hm,hr⟩
  have hn:=hA.1
  subst hn e1 e2 e3 e4
  have hm4:q.blk b s'∈F4:=hF4.mem_iff.2 (.head _)
  refine Tri.ret (p_is hq4 _ (s:=s') (.tail _ (.tail _ hm4))) fun I5 l5=>⟨_,rfl,F4,.refl _,fun hw=>?_,fun hw=>?_⟩
  ·exact⟨rfl,rfl,rfl,rfl,LEnd.stop (hq4.mono l5) hA (fun k hk=>okReg_mono _ _ _ l5 (hks k hk)) hsn' hr (by simpa using hw) hF4⟩
  have hw:q.c.isW (⟨#[114,101,103]⟩:ByteArray) s'=true:=by simpa using hw
  have hlt:=isW_lt hw
  have hq5:=hq4.mono l5
  refine (p_many hq5 ks.length 12 (((hF4.cons _).cons _).trans pm2)).mono fun e I6 G l6 ⟨he,hG⟩=>⟨_,he,q.blk b (q.c.many ks.length 12 s')::(A++F0),hG.trans pm2.symm,fun ho=>?_,fun ho=>?_⟩
  ·exact⟨rfl,rfl,rfl,rfl,LEnd.full (hq5.mono l6) hA (fun k hk=>okReg_mono _ _ _ (Imm.le_trans l5 l6) (hks k hk)) hsn' hr hw (by simpa using ho) (.refl _)⟩
  have ho:(q.c.many ks.length 12 s').over=false:=by simpa using ho
  obtain⟨hlt4,hme⟩:=many_le hlt ho
  rw[hme]
  have hq6:=hq5.mono l6
  refine (p_reg b s' I6 _ _ hq6 hsn' pm2).mono fun e I7 G l7 ⟨x,he,px,okx,hG⟩=>?_
  refine⟨_,_,_,_,_,_,_,_,_,_,_,_,_,he,q.blk b (q.c.reg s').2::(A++F0),hG.trans pm2.symm,fun b_r b4 I8 l8 hb4=>?_⟩
  have hq8:=(hq6.mono l7).mono l8
  refine (p_app (f:=RegN.enc) (fun _=>rfl) (zv:=(⟨⟨#[]⟩,0,zNd,0⟩:RegN).v) (by':=104) (by kernel_rfl) (by kernel_rfl) rfl (by decide) (by decide) hA (by omega) x (reg_one _) hb4 rfl pmA).mono fun v I9 G9 l9 ⟨a',n',c',A',hv,hA',hG9⟩=>⟨a',n',c',hv,q.blk b (q.c.reg s').2::(A'++F0),hG9.trans pmA.symm,12-(ks.length+1),by omega,rfl,rfl,rfl,rfl, ?_⟩
  exact LInv.next okReg_mono Up.reg hA hks hsn' hr hw ho px (okReg_mono _ _ _ (Imm.le_trans l8 l9) okx) (Imm.le_trans l5 (Imm.le_trans l6 (Imm.le_trans l7 (Imm.le_trans l8 l9)))) (hq8.mono l9) hA' (.refl _)
 intro nm a1 n1 c1 a2 n2 c2 a3 n3 c3 I10 F10 l10 ⟨e1,e2,e3,e4,hq10,rs,A1,hA1,hrs,hF10,hr1,hn10⟩
 subst e1 e2 e3 e4
 generalize hL1:q.c.list (⟨#[114,101,103]⟩:ByteArray) 12 q.c.reg s3=L1 at hF10 hr1 hn10 ⊢
 refine (p_slots b L1.2 I10 _ _ hq10 hn10 (((hF10.cons _).cons _).trans pm2)).mono fun e I11 G l11 ⟨a2',n2',c2',he,hS,hG⟩=>?_
 have hn11:=(Up.list (c:=q.c) (w:=(⟨#[115,108,111,116]⟩:ByteArray)) (most:=4) Up.slot L1.2).2 hn10
 generalize hL2:q.c.list (⟨#[115,108,111,116]⟩:ByteArray) 4 q.c.slot L1.2=L2 at hS hG hn11 ⊢
 have hq11:=hq10.mono l11
 refine⟨a2',n2',c2',he,q.blk b L2.2::(A1++F0),hG.trans pm2.symm,⟨⟨_,rfl,rs,A1,hA1,fun k hk=>okReg_mono _ _ _ l11 (hrs k hk),hr1,hS,LInv.start hq11 hn11 (.refl _)⟩, ?_⟩, ?_⟩
 ·intro nm a1 n1 c1 a2 n2 c2 a3 n3 c3 m I12 F12 l12 ⟨e1,rs,A1,hA1,hrs,hr1,hS,hq12,ks,A,s',hA,hks,hF4,hsn',hkl,hm,hr⟩
  have hn:=hA.1
  subst hn e1
  have hm4:q.blk b s'∈F12:=hF4.mem_iff.2 (.head _)
  refine Tri.ret (p_is hq12 _ (s:=s') (.tail _ (.tail _ hm4))) fun I5 l5=>⟨_,rfl,F12,.refl _,fun hw=>?_,fun hw=>?_⟩
  ·exact⟨rfl,rs,A1,hA1,fun k hk=>okReg_mono _ _ _ l5 (hrs k hk),hr1,hS.mono l5,LEnd.stop (hq12.mono l5) hA (fun k hk=>okState_mono _ _ _ l5 (hks k hk)) hsn' hr (by simpa using hw) hF4⟩
  have hw:q.c.isW (⟨#[115,116,97,116,101]⟩:ByteArray) s'=true:=by simpa using hw
  have hlt:=isW_lt hw
  have hq5:=hq12.mono l5
  refine (p_many hq5 ks.length 12 (((hF4.cons _).cons _).trans pm2)).mono fun e I6 G l6 ⟨he,hG⟩=>⟨_,he,q.blk b (q.c.many ks.length 12 s')::(A++(A1++F0)),hG.trans pm2.symm,fun ho=>?_,fun ho=>?_⟩
  ·exact⟨rfl,rs,A1,hA1,fun k hk=>okReg_mono _ _ _ (Imm.le_trans l5 l6) (hrs k hk),hr1,hS.mono (Imm.le_trans l5 l6),LEnd.full (hq5.mono l6) hA (fun k hk=>okState_mono _ _ _ (Imm.le_trans l5 l6) (hks k hk)) hsn' hr hw (by simpa using ho) (.refl _)⟩
  have ho:(q.c.many ks.length 12 s').over=false:=by simpa using ho
  obtain⟨hlt4,hme⟩:=many_le hlt ho
  rw[hme]
  have hq6:=hq5.mono l6
  refine (p_state b s' I6 _ _ hq6 hsn' pm2).mono fun e I7 G l7 ⟨x,he,px,okx,hG⟩=>?_
  refine⟨_,_,_,_,_,he,q.blk b (q.c.state s').2::(A++(A1++F0)),hG.trans pm2.symm,fun b_r b4 I8 l8 hb4=>?_⟩
  have hq8:=(hq6.mono l7).mono l8
  have l59:∀J,Imm.le I8 J→Imm.le I12 J:=fun J h=>Imm.le_trans l5 (Imm.le_trans l6 (Imm.le_trans l7 (Imm.le_trans l8 h)))
  refine (p_app (f:=StateN.enc) (fun _=>rfl) (zv:=(⟨⟨#[]⟩,none,0,[],0⟩:StateN).v) (by':=48) (by kernel_rfl) (by kernel_rfl) rfl (by decide) (by decide) hA (by omega) x (state_one _) hb4 rfl pmA).mono fun v I9 G9 l9 ⟨a',n',c',A',hv,hA',hG9⟩=>⟨a',n',c',hv,q.blk b (q.c.state s').2::(A'++(A1++F0)),hG9.trans pmA.symm,12-(ks.length+1),by omega,rfl,rs,A1,hA1,fun k hk=>okReg_mono _ _ _ (l59 _ l9) (hrs k hk),hr1,hS.mono (l59 _ l9), ?_⟩
  exact LInv.next okState_mono Up.state hA hks hsn' hr hw ho px (okState_mono _ _ _ (Imm.le_trans l8 l9) okx) (l59 _ l9) (hq8.mono l9) hA' (.refl _)
 intro nm a1 n1 c1 a2 n2 c2 a3 n3 c3 I18 F18 l18 ⟨e1,rs,A1,hA1,hrs,hr1,hS,hq18,ts,A2,hA2,hts,hF18,hr2,hn18⟩
 have hn3:=hA2.1
 have hn1:=hA1.1
 have hn2:=hS.1
 subst e1 hn3 hn1
 generalize hL3:q.c.list (⟨#[115,116,97,116,101]⟩:ByteArray) 12 q.c.state L2.2=L3 at hF18 hr2 hn18 ⊢
 have hfin:∀(s6:PS) (I':Imm) (F':Heap),Imm.le I18 I'→s6=(if L3.1.length=0 then q.c.wrong 130 L3.2 else L3.2)→F'.Perm (q.blk b (q.c.end (q.c.take (⟨#[125]⟩:ByteArray) s6).2)::(A2++(A1++F0))) →
   ∃(nm:ByteArray) (a1':Option Addr) (c1':Nat) (rs':List RegN) (a2':Option Addr) (c2':Nat) (ss:List SlotP) (a3':Option Addr) (c3':Nat) (ts':List StateN) (A1' A2':Heap),Ending.returned (StgN.v ⟨bb.1,a1,c1,rs,a2,c2,L2.1,a3,c3,ts⟩)=.returned (StgN.v ⟨nm,a1',c1',rs',a2',c2',ss,a3',c3',ts'⟩)∧(⟨nm,a1',c1',rs',a2',c2',ss,a3',c3',ts'⟩:StgN).p=⟨bb.1,L1.1,L2.1,L3.1⟩ ∧
   Acc 11 RegN.enc 77 a1' rs'.length c1' rs' A1'∧(∀d∈rs',okReg I' d)∧Sl I' 2 SlotP.enc a2' ss.length ss∧Acc 3 StateN.enc 65 a3' ts'.length c3' ts' A2'∧(∀d∈ts',okState I' d)∧F'.Perm (q.blk b (q.c.end (q.c.take (⟨#[125]⟩:ByteArray) (if L3.1.length=0 then q.c.wrong 130 L3.2 else L3.2)).2)::(A2'++(A1'++F0))):=fun s6 I' F' hl h6 hF' =>
  ⟨bb.1,a1,c1,rs,a2,c2,L2.1,a3,c3,ts,A1,A2,rfl,by simp only[StgN.p,hr1,hr2],hA1,fun k hk=>okReg_mono _ _ _ hl (hrs k hk),hn2▸hS.mono hl,hA2,fun k hk=>okState_mono _ _ _ hl (hts k hk),h6▸hF'⟩
 have h3l:L3.1.length=ts.length:=by rw[hr2,List.length_map]
 subst hn2
 refine⟨fun hz=>?_,fun hz=>?_⟩
 ·have hz:ts.length=0:=by have hz:((ts.length:Int)==0)=true:=hz;simpa using hz
  refine (p_wrong hq18 130 (s:=L3.2) (((hF18.cons _).cons _).trans pm2)).mono fun e I19 G l19 ⟨he,hG⟩=>⟨he,q.blk b (q.c.wrong 130 L3.2)::(A2++(A1++F0)),hG.trans pm2.symm, ?_⟩
  have hq19:=hq18.mono l19
  refine (p_take hq19 _ (s:=q.c.wrong 130 L3.2) pm2).mono fun e I20 G l20 ⟨he,hG⟩=>⟨_,he,q.blk b (q.c.take (⟨#[125]⟩:ByteArray) (q.c.wrong 130 L3.2)).2::(A2++(A1++F0)),hG.trans pm2.symm, ?_⟩
  have hq20:=hq19.mono l20
  refine (p_end hq20 (s:=(q.c.take (⟨#[125]⟩:ByteArray) (q.c.wrong 130 L3.2)).2) pm2).mono fun e I21 G l21 ⟨he,hG⟩=>⟨he,q.blk b (q.c.end (q.c.take (⟨#[125]⟩:ByteArray) (q.c.wrong 130 L3.2)).2)::(A2++(A1++F0)),hG.trans pm2.symm, ?_⟩
  exact hfin _ _ _ (Imm.le_trans l19 (Imm.le_trans l20 l21)) (by rw[if_pos (by omega)]) (.refl _)
 ·have hz:ts.length≠0:=by have hz:((ts.length:Int)==0)=false:=hz;simp at hz;exact fun h=>hz (List.eq_nil_of_length_eq_zero h)
  refine (p_take hq18 _ (s:=L3.2) (((hF18.cons _).cons _).trans pm2)).mono fun e I20 G l20 ⟨he,hG⟩=>⟨_,he,q.blk b (q.c.take (⟨#[125]⟩:ByteArray) L3.2).2::(A2++(A1++F0)),hG.trans pm2.symm, ?_⟩
  have hq20:=hq18.mono l20
  refine (p_end hq20 (s:=(q.c.take (⟨#[125]⟩:ByteArray) L3.2).2) pm2).mono fun e I21 G l21 ⟨he,hG⟩=>⟨he,q.blk b (q.c.end (q.c.take (⟨#[125]⟩:ByteArray) L3.2).2)::(A2++(A1++F0)),hG.trans pm2.symm, ?_⟩
  exact hfin _ _ _ (Imm.le_trans l20 l21) (by rw[if_neg (by omega)]) (.refl _)
end Go.Lx
namespace Go.Lx
open Go.Vc
theorem toksF_len(s:ByteArray):∀(n:Nat) (f:Int),(toksF s n f).1.length≤n
 | 0,f=>Nat.le_refl _
 | n+1,f=>by
   unfold toksF
   cases ht:tokR s f with
   | bad e p=>exact Nat.zero_le _
   | ok t =>
     show (if t.kind=0 then ([t],none) else _:List Tok×Option (Int×Int)).1.length≤n+1
     split
     ·exact Nat.succ_le_succ (Nat.zero_le _)
     ·exact Nat.succ_le_succ (toksF_len s n _)
def PF.v(f:PF):Value:=.agg #[.int .i64 f.e,.int .i64 f.pos,.bool f.tok]
theorem p_begin(t:ByteArray)(ht:Short t)(I:Imm)(F:Heap):Tri P 52 #[.string t] I F fun e I' G=>∃(q:PQ) (b:Nat),q.c=begC t∧q.ok I'∧e=.returned (.pointer (some ⟨b,0,none⟩))∧G.Perm (q.blk b (begS t)::F):=by
 refine Tri.keep (Q:=fun e I' G=>∃(q:PQ) (b:Nat) (A:Heap),q.c=begC t∧Acc 5 Tok.enc 145 q.a q.c.l.length q.cap q.c.l A∧q.c.l.length≤1000000∧e=.returned (.pointer (some ⟨b,0,none⟩))∧G.Perm (q.blk b (begS t)::(A++F))) ?_ fun e I' G w hl hs ⟨q,b,A,hc,hA,hle,he,hG⟩=>?_
 rotate_left
 ·obtain⟨J,h1,h2,h3⟩:=Acc.keep (z:=5) (f:=Tok.enc) (fun _=>rfl) hA (hs.perm (hG.trans (List.perm_append_comm_assoc [_] A F)))
  exact⟨J,_,h1,h2,q,b,hc,⟨h3,hle⟩,he,.refl _⟩
 refine ref13_begin.vc ?_
 unfold ref13_begin.V
 refine⟨fun h b=>?_,fun h=>?_⟩
 ·have h:(4096:Int)<t.size:=of_decide_eq_true h
  refine⟨⟨begC t,none,0⟩,b,[],rfl, ?_, ?_,rfl, ?_⟩
  ·unfold begC;rw[if_pos h];exact Acc.nil
  ·unfold begC;rw[if_pos h];decide
  ·unfold PQ.blk PQ.cl begC begS;rw[if_pos h,if_pos h];exact .refl _
 ·have h:¬(4096:Int)<t.size:=of_decide_eq_false h
  refine (Begin_spec ht (by omega) I F).mono fun e I1 G l1 ⟨a,n,c,A,he,hA,hG⟩=>?_
  subst hG
  have hn:=hA.1
  subst hn
  refine⟨_,_,_,_,_,he,A++F,.refl _,fun b=>?_⟩
  refine⟨⟨begC t,a,c⟩,b,A,rfl, ?_, ?_,rfl, ?_⟩
  ·unfold begC;rw[if_neg h];exact hA
  ·unfold begC;rw[if_neg h]
   show (toks t 0).1.length≤_
   have:=toksF_len t ((t.size:Int)-0+1).toNat 0
   unfold toks
   omega
  ·unfold PQ.blk PQ.cl begC begS;rw[if_neg h,if_neg h];exact .refl _
theorem PQ.rdF{q:PQ}{b:Nat}{s:PS}{I:Imm}{G:Heap}(h:q.blk b s∈G):Rd I G ((⟨b,0,none⟩:Addr).add 4) [.int .i64 s.f.e,.int .i64 s.f.pos,.bool s.f.tok]:=by
 rw[add_lit0]
 refine⟨rfl,_,_,_,.inr h,fun j hj=>?_⟩
 have:j=0∨j=1∨j=2:=by simp only[List.length_cons,List.length_nil] at hj;omega
 rcases this with rfl | rfl | rfl<;>rfl
def zStg:StgN:=⟨⟨#[]⟩,none,0,[],none,0,[],none,0,[]⟩
theorem rStrategy_spec(t:ByteArray)(ht:Short t)(I:Imm)(F:Heap):Tri P 29 #[.string t] I F fun e I' G=>∃x:StgN,e=.returned (.tuple #[x.v,(parseS t).2.v])∧x.p=(parseS t).1∧x.Ok I' []∧G=F:=by
 refine Tri.keep (Q:=fun e I' G=>∃(x:StgN) (H:Heap),e=.returned (.tuple #[x.v,(parseS t).2.v])∧x.p=(parseS t).1∧x.Ok I' []∧G.Perm (H++F)) ?_ fun e I' G w hl hs ⟨x,H,he,hp,hok,hG⟩=>⟨I',F,Imm.le_refl _,(hs.perm hG).drop,x,he,hp,hok,rfl⟩
 refine ref13_Strategy.vc ?_
 unfold ref13_Strategy.V
 intro b2 b3
 refine (p_begin t ht I _).mono fun e I1 G l1 ⟨q,b,hc,hq,he,hG⟩=>⟨_,he,q.blk b (begS t)::F,hG.trans pm2.symm, ?_⟩
 have h0:(begS t).next≤q.c.l.length:=Nat.zero_le _
 refine (p_whole b (begS t) I1 _ _ hq h0 pm2).mono fun e I2 G2 l2 ⟨x,he,hp,hok,hG2⟩=>?_
 have hok:x.Ok I2 []:=hok
 refine⟨_,_,_,_,_,_,_,_,_,_,he,q.blk b (q.c.whole (begS t)).2::F,hG2.trans pm2.symm,fun b_x=>?_⟩
 refine Tri.ret (p_over (q:=q) (b:=b) (s:=(q.c.whole (begS t)).2) (.tail _ (.tail _ (.tail _ (.head _))))) fun I3 l3=>⟨_,rfl,q.blk b (q.c.whole (begS t)).2::F,.refl _,fun ho=>?_,fun ho=>?_⟩
 ·refine⟨_,rfl,_,_,_,PQ.rdF (.head _),zStg,[q.blk b (q.c.whole (begS t)).2], ?_, ?_,⟨SlG.nil,fun x hx=>(by cases hx),SlG.nil,SlG.nil,fun x hx=>(by cases hx)⟩,.refl _⟩
  ·unfold parseS;rw[←hc,if_pos ho];rfl
  ·unfold parseS;rw[←hc,if_pos ho];rfl
 ·refine⟨x,[q.blk b (q.c.whole (begS t)).2], ?_, ?_,hok.mono l3 fun _ h=>h,.refl _⟩
  ·unfold parseS;rw[←hc,if_neg (by simp[ho])];rfl
  ·unfold parseS;rw[←hc,if_neg (by simp[ho])];exact hp
theorem rExpr_spec(t:ByteArray)(ht:Short t)(I:Imm)(F:Heap):Tri P 28 #[.string t] I F fun e I' G=>∃x:Nd,e=.returned (.tuple #[x.v,(parseE t).2.v])∧x.px=(parseE t).1∧NdOk I' [] x∧G=F:=by
 refine Tri.keep (Q:=fun e I' G=>∃(x:Nd) (H:Heap),e=.returned (.tuple #[x.v,(parseE t).2.v])∧x.px=(parseE t).1∧NdOk I' [] x∧G.Perm (H++F)) ?_ fun e I' G w hl hs ⟨x,H,he,hp,hok,hG⟩=>⟨I',F,Imm.le_refl _,(hs.perm hG).drop,x,he,hp,hok,rfl⟩
 refine ref13_Expr.vc ?_
 unfold ref13_Expr.V
 intro b2 b3
 refine (p_begin t ht I _).mono fun e I1 G l1 ⟨q,b,hc,hq,he,hG⟩=>⟨_,he,q.blk b (begS t)::F,hG.trans pm2.symm, ?_⟩
 have h0:(begS t).next≤q.c.l.length:=Nat.zero_le _
 refine (p_ex0 b (begS t) I1 _ _ hq h0 pm2).mono fun e I2 G2 l2 ⟨x,he,hp,hok,hG2⟩=>?_
 refine⟨_,_,_,_,_,_,_,_,_,_,he,q.blk b (q.c.ex0 (begS t)).2::F,hG2.trans pm2.symm,fun b_x=>?_⟩
 refine (p_end (hq.mono l2) (s:=(q.c.ex0 (begS t)).2) pm3).mono fun e I3 G3 l3 ⟨he,hG3⟩=>⟨he,q.blk b (q.c.end (q.c.ex0 (begS t)).2)::F,hG3.trans pm3.symm, ?_⟩
 refine Tri.ret (p_over (q:=q) (b:=b) (s:=q.c.end (q.c.ex0 (begS t)).2) (.tail _ (.tail _ (.tail _ (.head _))))) fun I4 l4=>⟨_,rfl,q.blk b (q.c.end (q.c.ex0 (begS t)).2)::F,.refl _,fun ho=>?_,fun ho=>?_⟩
 ·refine⟨_,rfl,_,_,_,PQ.rdF (.head _),zNd,[q.blk b (q.c.end (q.c.ex0 (begS t)).2)], ?_, ?_,zNd_ok,.refl _⟩
  ·unfold parseE;rw[←hc];show _=Ending.returned (.tuple #[zNd.v,(if (q.c.end (q.c.ex0 (begS t)).2).over then (zPx,(q.c.end (q.c.ex0 (begS t)).2).f) else _:Px×PF).2.v]);rw[if_pos ho];rfl
  ·unfold parseE;rw[←hc];show _=(if (q.c.end (q.c.ex0 (begS t)).2).over then (zPx,(q.c.end (q.c.ex0 (begS t)).2).f) else _:Px×PF).1;rw[if_pos ho,zNd_px]
 ·refine⟨x,[q.blk b (q.c.end (q.c.ex0 (begS t)).2)], ?_, ?_,hok.up (Imm.le_trans l3 l4),.refl _⟩
  ·unfold parseE;rw[←hc];show _=Ending.returned (.tuple #[x.v,(if (q.c.end (q.c.ex0 (begS t)).2).over then _ else ((q.c.ex0 (begS t)).1,zF):Px×PF).2.v]);rw[if_neg (by simp[ho])];rfl
  ·unfold parseE;rw[←hc];show _=(if (q.c.end (q.c.ex0 (begS t)).2).over then _ else ((q.c.ex0 (begS t)).1,zF):Px×PF).1;rw[if_neg (by simp[ho])];exact hp
end Go.Lx
