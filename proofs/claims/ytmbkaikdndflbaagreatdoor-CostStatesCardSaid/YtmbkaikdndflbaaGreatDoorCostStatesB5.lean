import Derived.Test.YtmbkaikdndflbaaGreatDoorCostStatesB4
set_option linter.unusedVariables false
set_option linter.unusedSimpArgs false
set_option linter.unusedSectionVars false
set_option maxRecDepth 100000
namespace Go.Lx
open Go.Vc Go.Proofs.Tryz
def wc:List (Nat×List Sh):=[(3,[.one (.int .i64)]),(4,[.one .bool]),(9,[.one .str]),(28,[.agg [(.int .u8),(.int .u8),(.int .u8),(.int .i64),(.int .u8),.str,.slc,(.int .i64)]]),(63,[.one .slc]),(65,[.agg [.str,.slc,(.int .i64)]]),(77,[.agg [.str,(.int .u8),(.int .u8),(.int .u8),(.int .u8),(.int .i64),(.int .u8),.str,.slc,(.int .i64),(.int .i64)]]),(79,[.agg [.str,(.int .i64)]]),(82,[.one .slc]),(84,[.agg [(.int .u8),(.int .u8),(.int .u8),(.int .i64),(.int .u8),.str,.slc,(.int .i64),.slc,(.int .i64)]]),(99,[.agg [(.int .u8),(.int .u8),.str,(.int .u8),(.int .u8),(.int .u8),(.int .i64),(.int .u8),.str,.slc,(.int .i64),(.int .u8),(.int .u8),(.int .u8),(.int .i64),(.int .u8),.str,.slc,(.int .i64),(.int .u8),(.int .u8),(.int .u8),(.int .i64),(.int .u8),.str,.slc,(.int .i64),(.int .u8),(.int .u8),(.int .u8),(.int .i64),(.int .u8),.str,.slc,(.int .i64),(.int .i64)]])]
def jA.V(a:Nat→Nat×Obj)(nV:Int→Int→Int→Int→Int→Bs→OA→Nat→Nat→Int→Value)(vi:Int→Value)(aw ax:Int)(am:Bs)(an ao ap aq ar:Int)(au:Bs)(l:OA)(m o:Nat)(p q s t u v:Int)(w:Bs)(c:OA)(d e:Nat)(x y z aa ab ac:Int)(ad:Bs)(f:OA)(g h:Nat)(ae af ag ah ai aj:Int)(ak:Bs)(i:OA)(j k:Nat)(al av n:Int)(I:cc)(F:b8)(Q:cd)  : Prop:=∀b:Nat,cy P 30 (#[nV an ao ap aq ar au l m o p,vi (IntKind.wrap .i64 (n+(am.size:Int))),vi 0]) I ((a b)::·) F vi fun r I1 F1=>cy P 30 #[nV q s t u v w c d e x,vi r,vi 0] I1 ((a b)::·) F1 vi fun r1 I2 F2=>cy P 30 #[nV y z aa ab ac ad f g h ae,vi r1,vi 0] I2 ((a b)::·) F2 vi fun r2 I3 F3=>cy P 30 #[nV af ag ah ai aj ak i j k al,vi r2,vi 0] I3 ((a b)::·) F3 vi fun r3 I4 F4=>Q (.returned (vi r3)) I4 (F4)
theorem jA.vc{ay az:Int}{aA:Bs}{aB aC aD aE aF:Int}{aG:Bs}{v:OA}{w x:Nat}{y z aa ab ac ad:Int}{ae:Bs}{d:OA}{e g:Nat}{af ag ah ai aj ak:Int}{al:Bs}{i:OA}{j m:Nat}{am ao ap aq ar au:Int}{av:Bs}{p:OA}{r u:Nat}{aw ax n:Int}{I:cc}{F:b8}{Q:cd}  (h:jA.V (fun b=>(b,Obj.cells #[.int .u8 ay,.int .u8 az,.string aA,.int .u8 aB,.int .u8 aC,.int .u8 aD,.int .i64 aE,.int .u8 aF,.string aG,.slice v w x,.int .i64 y,.int .u8 z,.int .u8 aa,.int .u8 ab,.int .i64 ac,.int .u8 ad,.string ae,.slice d e g,.int .i64 af,.int .u8 ag,.int .u8 ah,.int .u8 ai,.int .i64 aj,.int .u8 ak,.string al,.slice i j m,.int .i64 am,.int .u8 ao,.int .u8 ap,.int .u8 aq,.int .i64 ar,.int .u8 au,.string av,.slice p r u,.int .i64 aw,.int .i64 ax] 99 (0,0))) (fun k o t n f s a l c q=>.agg #[.int .u8 k,.int .u8 o,.int .u8 t,.int .i64 n,.int .u8 f,.string s,.slice a l c,.int .i64 q]) (.int .i64) ay az aA aB aC aD aE aF aG v w x y z aa ab ac ad ae d e g af ag ah ai aj ak al i j m am ao ap aq ar au av p r u aw ax n I F Q):cf P 63 #[.agg #[.int .u8 ay,.int .u8 az,.string aA,.int .u8 aB,.int .u8 aC,.int .u8 aD,.int .i64 aE,.int .u8 aF,.string aG,.slice v w x,.int .i64 y,.int .u8 z,.int .u8 aa,.int .u8 ab,.int .i64 ac,.int .u8 ad,.string ae,.slice d e g,.int .i64 af,.int .u8 ag,.int .u8 ah,.int .u8 ai,.int .i64 aj,.int .u8 ak,.string al,.slice i j m,.int .i64 am,.int .u8 ao,.int .u8 ap,.int .u8 aq,.int .i64 ar,.int .u8 au,.string av,.slice p r u,.int .i64 aw,.int .i64 ax],.int .i64 n] I F Q :=
 tw (A:=(an [] [30] wc)) [30] func63 h
def eU.V(a:Nat→Nat×Obj)(nV:Int→Int→Int→Int→Int→Bs→OA→Nat→Nat→Int→Value)(nL:Int→Int→Int→Int→Int→Bs→OA→Nat→Nat→Int→List Value)(vb vi:Int→Value)(vs:Bs→Value)(vl:OA→Nat→Nat→Value)(wr:Int→Int)(br:Bs)(z:OA)(c bv:Nat)(aZ:OA)(f bw:Nat)(aa:OA)(d bx:Nat)(I:cc)(F:b8)(Q:cd)(Inv4:Int→cc→b8→cc→b8→Prop)(Inv8:Int→Int→Nat→cc→b8→cc→b8→Prop)(Inv19:Int→cc→b8→cc→b8→Prop)(Inv23:Int→Int→Nat→cc→b8→cc→b8→Prop)(Inv34:Int→cc→b8→cc→b8→Prop)(Inv38:Int→Int→Nat→cc→b8→cc→b8→Prop)(Inv54:Int→Int→Int→Nat→cc→b8→cc→b8→Prop)(Inv68:Int→Int→Int→Int→Nat→cc→b8→cc→b8→Prop):Prop:=∀b:Nat,((∃m:Nat,Inv8 (br.size:Int) 0 m I F I F)∧∀(n i:Int) (m1:Nat) (I1:cc) (F1:b8),cc.le I I1→Inv8 n i m1 I F I1 F1→(Dt (i<(c:Int)) (Dt (n≤1048576) ((0≤i∧i<(c:Int))∧∃ad:Addr,z=some ad∧∃(a0 a1 a2 a3 a4:Int) (a5:Bs) (ab:OA) (ac ae:Nat) (a6:Int),Rd I1 ((a b)::F1) ((ad.add (Int.toNat i*11)).add 2) (nL a0 a1 a2 a3 a4 a5 ab ac ae a6)∧((0≤i∧i<(c:Int))∧∃bb:Addr,z=some bb∧∃(m2:Bs),Rd I1 ((a b)::F1) ((bb.add (Int.toNat i*11)).add 0) [vs m2]∧∃(r:Int),(cf P 30 (#[nV a0 a1 a2 a3 a4 a5 ab ac ae a6,vi (wr ((wr (n+1))+(m2.size:Int))),vi 0]) I1 ((a b)::F1) fun e1 I2 G1=>e1=.returned (vi r)∧List.Perm G1 ((a b)::F1))∧(∃m3:Nat,m3<m1∧Inv8 r (wr (i+1)) m3 I F I1 F1))) (Inv4 n I F I1 F1)) (Inv4 n I F I1 F1)))∧∀(n1:Int) (I3:cc) (F2:b8),cc.le I I3→Inv4 n1 I F I3 F2→((∃m4:Nat,Inv23 n1 0 m4 I3 F2 I3 F2)∧∀(n2 i1:Int) (m5:Nat) (I4:cc) (F3:b8),cc.le I3 I4→Inv23 n2 i1 m5 I3 F2 I4 F3→(Dt (i1<(f:Int)) (Dt (n2≤1048576) ((0≤i1∧i1<(f:Int))∧∃bc:Addr,aZ=some bc∧∃(m6:Bs),Rd I4 ((a b)::F3) ((bc.add (Int.toNat i1*2)).add 0) [vs m6]∧(∃m7:Nat,m7<m5∧Inv23 (wr ((wr (n2+1))+(m6.size:Int))) (wr (i1+1)) m7 I3 F2 I4 F3)) (Inv19 n2 I3 F2 I4 F3)) (Inv19 n2 I3 F2 I4 F3)))∧∀(n3:Int) (I5:cc) (F4:b8),cc.le I3 I5→Inv19 n3 I3 F2 I5 F4→((∃m8:Nat,Inv38 n3 0 m8 I5 F4 I5 F4)∧∀(n4 i2:Int) (m9:Nat) (I6:cc) (F5:b8),cc.le I5 I6→Inv38 n4 i2 m9 I5 F4 I6 F5→(Dt (i2<(d:Int)) (Dt (n4≤1048576) ((0≤i2∧i2<(d:Int))∧∃bd:Addr,aa=some bd∧∃(a7:Bs),Rd I6 ((a b)::F5) ((bd.add (Int.toNat i2*3)).add 0) [vs a7]∧((0≤i2∧i2<(d:Int))∧∃be:Addr,aa=some be∧∃(af:OA) (e bs:Nat),Rd I6 ((a b)::F5) ((be.add (Int.toNat i2*3)).add 1) [vl af e bs]∧(∃bt:Nat,Inv54 i2 (wr ((wr (n4+1))+(a7.size:Int))) 0 bt I6 F5 I6 F5)∧∀(n5 k:Int) (ap:Nat) (I7:cc) (F6:b8),cc.le I6 I7→Inv54 i2 n5 k ap I6 F5 I7 F6→(Dt (k<(e:Int)) (Dt (n5≤1048576) ((0≤k∧k<(e:Int))∧∃bf:Addr,af=some bf∧∃(aq ar au av aw:Int) (ax:Bs) (g:OA) (h l:Nat) (ay:Int),Rd I7 ((a b)::F6) ((bf.add (Int.toNat k*10)).add 0) (nL aq ar au av aw ax g h l ay)∧cy P 30 (#[nV aq ar au av aw ax g h l ay,vi (wr (n5+1)),vi 0]) I7 ((a b)::·) F6 vi fun r1 I8 F7=>(∃bu:Nat,Inv68 i2 k r1 0 bu I8 F7 I8 F7)∧∀(n6 j:Int) (a8:Nat) (I9:cc) (F8:b8),cc.le I8 I9→Inv68 i2 k n6 j a8 I8 F7 I9 F8→((0≤k∧k<(e:Int))∧∃bg:Addr,af=some bg∧∃(bo:OA) (y bp:Nat),Rd I9 ((a b)::F8) ((bg.add (Int.toNat k*10)).add 8) [vl bo y bp]∧(Dt (j<(y:Int)) (Dt (n6≤1048576) ((0≤k∧k<(e:Int))∧∃bh:Addr,af=some bh∧∃(az:OA) (aA bq:Nat),Rd I9 ((a b)::F8) ((bh.add (Int.toNat k*10)).add 8) [vl az aA bq]∧((0≤j∧j<(aA:Int))∧∃bi:Addr,az=some bi∧∃(aB aC:Int) (aD:Bs) (aE aF aG a9 aH:Int) (ba:Bs) (ag:OA) (ah ai:Nat) (aI aj ak aJ aK aL:Int) (aM:Bs) (o:OA) (p q:Nat) (aN aO aP al am aQ:Int) (aR:Bs) (s:OA) (t u:Nat) (aS aT aU aV aW an:Int) (ao:Bs) (v:OA) (w x:Nat) (aX aY:Int),Rd I9 ((a b)::F8) (bi.add (Int.toNat j*36)) [vb aB,vb aC,vs aD,vb aE,vb aF,vb aG,vi a9,vb aH,vs ba,vl ag ah ai,vi aI,vb aj,vb ak,vb aJ,vi aK,vb aL,vs aM,vl o p q,vi aN,vb aO,vb aP,vb al,vi am,vb aQ,vs aR,vl s t u,vi aS,vb aT,vb aU,vb aV,vi aW,vb an,vs ao,vl v w x,vi aX,vi aY]∧cy P 63 (#[.agg #[vb aB,vb aC,vs aD,vb aE,vb aF,vb aG,vi a9,vb aH,vs ba,vl ag ah ai,vi aI,vb aj,vb ak,vb aJ,vi aK,vb aL,vs aM,vl o p q,vi aN,vb aO,vb aP,vb al,vi am,vb aQ,vs aR,vl s t u,vi aS,vb aT,vb aU,vb aV,vi aW,vb an,vs ao,vl v w x,vi aX,vi aY],vi (wr (n6+1))]) I9 ((a b)::·) F8 vi fun r2 I10 F9=>(∃bj:Nat,bj<a8∧Inv68 i2 k r2 (wr (j+1)) bj I8 F7 I10 F9))) (∃bk:Nat,bk<ap∧Inv54 i2 n6 (wr (k+1)) bk I6 F5 I9 F8)) (∃bl:Nat,bl<ap∧Inv54 i2 n6 (wr (k+1)) bl I6 F5 I9 F8)))) (∃bm:Nat,bm<m9∧Inv38 n5 (wr (i2+1)) bm I5 F4 I7 F6)) (∃bn:Nat,bn<m9∧Inv38 n5 (wr (i2+1)) bn I5 F4 I7 F6)))) (Inv34 n4 I5 F4 I6 F5)) (Inv34 n4 I5 F4 I6 F5)))∧∀(n7:Int) (I11:cc) (F10:b8),cc.le I5 I11→Inv34 n7 I5 F4 I11 F10→Q (.returned (vi n7)) I11 (F10)
theorem eU.vc{w:Bs}{d:OA}{e g:Nat}{i:OA}{j p:Nat}{r:OA}{u v:Nat}{I:cc}{F:b8}{Q:cd}(Inv4:Int→cc→b8→cc→b8→Prop)(Inv8:Int→Int→Nat→cc→b8→cc→b8→Prop)(Inv19:Int→cc→b8→cc→b8→Prop)(Inv23:Int→Int→Nat→cc→b8→cc→b8→Prop)(Inv34:Int→cc→b8→cc→b8→Prop)(Inv38:Int→Int→Nat→cc→b8→cc→b8→Prop)(Inv54:Int→Int→Int→Nat→cc→b8→cc→b8→Prop)(Inv68:Int→Int→Int→Int→Nat→cc→b8→cc→b8→Prop)(h:eU.V (fun b=>(b,Obj.cells #[.string w,.slice d e g,.slice i j p,.slice r u v] 39 (0,0))) (fun k o t n f s a l c q=>.agg #[.int .u8 k,.int .u8 o,.int .u8 t,.int .i64 n,.int .u8 f,.string s,.slice a l c,.int .i64 q]) (fun k o t n f s a l c q=>[.int .u8 k,.int .u8 o,.int .u8 t,.int .i64 n,.int .u8 f,.string s,.slice a l c,.int .i64 q]) (.int .u8) (.int .i64) .string .slice (IntKind.wrap .i64) w d e g i j p r u v I F Q Inv4 Inv8 Inv19 Inv23 Inv34 Inv38 Inv54 Inv68):cf P 37 #[.agg #[.string w,.slice d e g,.slice i j p,.slice r u v]] I F Q :=
 tw (A:=(cK [3004,3007,7004,7007,11004,11007,16003,16006,20007,20010] [] [30,63] wc [(4,⟨[(3,(.int .i64))],[],fun fs I0 F0 vs m I F=>match fs,vs with | [],[.int _ y0]=>Inv4 y0 I0 F0 I F | _,_=>False,[],[]⟩),(8,⟨[(3,(.int .i64)),(4,(.int .i64))],[],fun fs I0 F0 vs m I F=>match fs,vs with | [],[.int _ y0,.int _ y1]=>Inv8 y0 y1 m I0 F0 I F | _,_=>False,[],[]⟩),(19,⟨[(3,(.int .i64))],[],fun fs I0 F0 vs m I F=>match fs,vs with | [],[.int _ y0]=>Inv19 y0 I0 F0 I F | _,_=>False,[],[]⟩),(23,⟨[(3,(.int .i64)),(5,(.int .i64))],[],fun fs I0 F0 vs m I F=>match fs,vs with | [],[.int _ y0,.int _ y1]=>Inv23 y0 y1 m I0 F0 I F | _,_=>False,[],[]⟩),(34,⟨[(3,(.int .i64))],[],fun fs I0 F0 vs m I F=>match fs,vs with | [],[.int _ y0]=>Inv34 y0 I0 F0 I F | _,_=>False,[],[]⟩),(38,⟨[(3,(.int .i64)),(6,(.int .i64))],[],fun fs I0 F0 vs m I F=>match fs,vs with | [],[.int _ y0,.int _ y1]=>Inv38 y0 y1 m I0 F0 I F | _,_=>False,[],[]⟩),(54,⟨[(3,(.int .i64)),(8,(.int .i64))],[],fun fs I0 F0 vs m I F=>match fs,vs with | [.int _ y0],[.int _ y1,.int _ y2]=>Inv54 y0 y1 y2 m I0 F0 I F | _,_=>False,[6],[]⟩),(68,⟨[(3,(.int .i64)),(9,(.int .i64))],[],fun fs I0 F0 vs m I F=>match fs,vs with | [.int _ y0,.int _ y1],[.int _ y2,.int _ y3]=>Inv68 y0 y1 y2 y3 m I0 F0 I F | _,_=>False,[6,8],[]⟩)] [] [] [] [] [] [])) [30,63] func37 h
def kq.V(a b:Nat→Nat×Obj)(nV:Int→Int→Int→Int→Int→Bs→OA→Nat→Nat→Int→Value)(vt:Bool→Value)(af ag:Int)(ah:Bs)(a5 a6 a7 a8 a9:Int)(ba:Bs)(z:OA)(aa ab:Nat)(al am an ao ap aq:Int)(ar:Bs)(e:OA)(f g:Nat)(au av aw ax ay az:Int)(aA:Bs)(h:OA)(i j:Nat)(aB aC aD aE aF aG:Int)(aH:Bs)(k:OA)(l m:Nat)(aI n ai aj:Int)(ak:Bs)(bb bc bd be bf:Int)(bg:Bs)(ac:OA)(ad ae:Nat)(aJ aK aL aM aN aO:Int)(aP:Bs)(o:OA)(p q:Nat)(aQ aR aS aT aU aV:Int)(aW:Bs)(s:OA)(t u:Nat)(aX aY aZ a0 a1 a2:Int)(a3:Bs)(v:OA)(w x:Nat)(a4 y:Int)(I:cc)(F:b8)(Q:cd)  : Prop:=∀c:Nat,∀d:Nat,cy P 33 #[nV a5 a6 a7 a8 a9 ba z aa ab al,nV bb bc bd be bf bg ac ad ae aJ] I ((a c)::(b d)::·) F vt fun r I1 F1=>cy P 33 #[nV am an ao ap aq ar e f g au,nV aK aL aM aN aO aP o p q aQ] I1 ((a c)::(b d)::·) F1 vt fun r1 I2 F2=>cy P 33 #[nV av aw ax ay az aA h i j aB,nV aR aS aT aU aV aW s t u aX] I2 ((a c)::(b d)::·) F2 vt fun r2 I3 F3=>cy P 33 #[nV aC aD aE aF aG aH k l m aI,nV aY aZ a0 a1 a2 a3 v w x a4] I3 ((a c)::(b d)::·) F3 vt fun r3 I4 F4=>(It (af==ai) (It (ag==aj) (It (ah.toList==ak.toList) (It (n==y) (It r (It r1 (It r2 (Q (.returned (vt r3)) I4 F4) (Q (.returned (vt false)) I4 F4)) (Q (.returned (vt false)) I4 F4)) (Q (.returned (vt false)) I4 F4)) (Q (.returned (vt false)) I4 F4)) (Q (.returned (vt false)) I4 F4)) (Q (.returned (vt false)) I4 F4)) (Q (.returned (vt false)) I4 F4))
theorem kq.vc{a7 a8:Int}{a9:Bs}{ba bb bc bd be:Int}{bf:Bs}{ae:OA}{af ag:Nat}{ak al am ao ap aq:Int}{ar:Bs}{d:OA}{e g:Nat}{au av aw ax ay az:Int}{aA:Bs}{i:OA}{j m:Nat}{aB aC aD aE aF aG:Int}{aH:Bs}{p:OA}{r u:Nat}{aI aJ bg bh:Int}{bi:Bs}{bj bk bl bm bn:Int}{bo:Bs}{ah:OA}{ai aj:Nat}{aK aL aM aN aO aP:Int}{aQ:Bs}{v:OA}{w x:Nat}{aR aS aT aU aV aW:Int}{aX:Bs}{y:OA}{z aa:Nat}{aY aZ a0 a1 a2 a3:Int}{a4:Bs}{ab:OA}{ac ad:Nat}{a5 a6:Int}{I:cc}{F:b8}{Q:cd}  (h:kq.V (fun b=>(b,Obj.cells #[.int .u8 a7,.int .u8 a8,.string a9,.int .u8 ba,.int .u8 bb,.int .u8 bc,.int .i64 bd,.int .u8 be,.string bf,.slice ae af ag,.int .i64 ak,.int .u8 al,.int .u8 am,.int .u8 ao,.int .i64 ap,.int .u8 aq,.string ar,.slice d e g,.int .i64 au,.int .u8 av,.int .u8 aw,.int .u8 ax,.int .i64 ay,.int .u8 az,.string aA,.slice i j m,.int .i64 aB,.int .u8 aC,.int .u8 aD,.int .u8 aE,.int .i64 aF,.int .u8 aG,.string aH,.slice p r u,.int .i64 aI,.int .i64 aJ] 99 (0,0))) (fun b=>(b,Obj.cells #[.int .u8 bg,.int .u8 bh,.string bi,.int .u8 bj,.int .u8 bk,.int .u8 bl,.int .i64 bm,.int .u8 bn,.string bo,.slice ah ai aj,.int .i64 aK,.int .u8 aL,.int .u8 aM,.int .u8 aN,.int .i64 aO,.int .u8 aP,.string aQ,.slice v w x,.int .i64 aR,.int .u8 aS,.int .u8 aT,.int .u8 aU,.int .i64 aV,.int .u8 aW,.string aX,.slice y z aa,.int .i64 aY,.int .u8 aZ,.int .u8 a0,.int .u8 a1,.int .i64 a2,.int .u8 a3,.string a4,.slice ab ac ad,.int .i64 a5,.int .i64 a6] 99 (0,0))) (fun k o t n f s a l c q=>.agg #[.int .u8 k,.int .u8 o,.int .u8 t,.int .i64 n,.int .u8 f,.string s,.slice a l c,.int .i64 q]) .bool a7 a8 a9 ba bb bc bd be bf ae af ag ak al am ao ap aq ar d e g au av aw ax ay az aA i j m aB aC aD aE aF aG aH p r u aI aJ bg bh bi bj bk bl bm bn bo ah ai aj aK aL aM aN aO aP aQ v w x aR aS aT aU aV aW aX y z aa aY aZ a0 a1 a2 a3 a4 ab ac ad a5 a6 I F Q):cf P 113 #[.agg #[.int .u8 a7,.int .u8 a8,.string a9,.int .u8 ba,.int .u8 bb,.int .u8 bc,.int .i64 bd,.int .u8 be,.string bf,.slice ae af ag,.int .i64 ak,.int .u8 al,.int .u8 am,.int .u8 ao,.int .i64 ap,.int .u8 aq,.string ar,.slice d e g,.int .i64 au,.int .u8 av,.int .u8 aw,.int .u8 ax,.int .i64 ay,.int .u8 az,.string aA,.slice i j m,.int .i64 aB,.int .u8 aC,.int .u8 aD,.int .u8 aE,.int .i64 aF,.int .u8 aG,.string aH,.slice p r u,.int .i64 aI,.int .i64 aJ],.agg #[.int .u8 bg,.int .u8 bh,.string bi,.int .u8 bj,.int .u8 bk,.int .u8 bl,.int .i64 bm,.int .u8 bn,.string bo,.slice ah ai aj,.int .i64 aK,.int .u8 aL,.int .u8 aM,.int .u8 aN,.int .i64 aO,.int .u8 aP,.string aQ,.slice v w x,.int .i64 aR,.int .u8 aS,.int .u8 aT,.int .u8 aU,.int .i64 aV,.int .u8 aW,.string aX,.slice y z aa,.int .i64 aY,.int .u8 aZ,.int .u8 a0,.int .u8 a1,.int .i64 a2,.int .u8 a3,.string a4,.slice ab ac ad,.int .i64 a5,.int .i64 a6]] I F Q :=
 tw (A:=(an [5004,5010,5017,5024,5027,5030,5033] [33] wc)) [33] func113 h
def hM.V(ka:Nat→Int→Int→Int→Int→Int→Bs→OA→Nat→Nat→Int→OA→Nat→Nat→Int→Nat×Obj)(aj ak:Nat→Nat×Obj)(nV:Int→Int→Int→Int→Int→Bs→OA→Nat→Nat→Int→Value)(vb vi:Int→Value)(vs:Bs→Value)(vl:OA→Nat→Nat→Value)(vt:Bool→Value)(bT:Bs)(bR:OA)(aa b2:Nat)(bU:Int)(bV:Bs)(bS:OA)(aA b3:Nat)(bW:Int)(I:cc)(F:b8)(Q:cd)(Inv14:Bool→Int→Nat→cc→b8→cc→b8→Prop)(Inv40:Int→Bool→Int→Nat→cc→b8→cc→b8→Prop):Prop:=∀al:Nat,∀am:Nat,(It (!(bT.toList==bV.toList)) (Q (.returned (vt false)) I F) (It (bU != bW) (Q (.returned (vt false)) I F) (It ((aa:Int)!=(aA:Int)) (Q (.returned (vt false)) I F) ((∃m:Nat,Inv14 false 0 m I F I F)∧∀(x:Bool) (i:Int) (m1:Nat) (I1:cc) (F1:b8),cc.le I I1→Inv14 x i m1 I F I1 F1→(Dt (i<(aa:Int)) ((0≤i∧i<(aa:Int))∧∃ad:Addr,bR=some ad∧∃(ab ac ae af ag:Int) (ah:Bs) (g:OA) (h j:Nat) (ai:Int) (l:OA) (a o:Nat) (z:Int),Rd I1 ((aj al)::(ak am)::F1) (ad.add (Int.toNat i*10)) [vb ab,vb ac,vb ae,vi af,vb ag,vs ah,vl g h j,vi ai,vl l a o,vi z]∧∀an:Nat,((0≤i∧i<(aA:Int))∧∃bZ:Addr,bS=some bZ∧∃(q s t u v:Int) (w:Bs) (c:OA) (d e:Nat) (y:Int) (f:OA) (b n:Nat) (p:Int),Rd I1 ((aj al)::(ak am)::(ka an ab ac ae af ag ah g h j ai l a o z)::F1) (bZ.add (Int.toNat i*10)) [vb q,vb s,vb t,vi u,vb v,vs w,vl c d e,vi y,vl f b n,vi p]∧∀az:Nat,cy P 33 #[nV ab ac ae af ag ah g h j ai,nV q s t u v w c d e y] I1 ((aj al)::(ak am)::(ka an ab ac ae af ag ah g h j ai l a o z)::(ka az q s t u v w c d e y f b n p)::·) F1 vt fun r I2 F2=>(It (!r) (Q (.returned (vt false)) I2 F2) (It (z != p) (Q (.returned (vt false)) I2 F2) (It ((a:Int)!=(b:Int)) (Q (.returned (vt false)) I2 F2) ((∃m2:Nat,Inv40 i x 0 m2 I2 F2 I2 F2)∧∀(x1:Bool) (k:Int) (m3:Nat) (I3:cc) (F3:b8),cc.le I2 I3→Inv40 i x1 k m3 I2 F2 I3 F3→(Dt (k<(a:Int)) ((0≤k∧k<(a:Int))∧∃b0:Addr,l=some b0∧∃(bj bk:Int) (bl:Bs) (bm bn bo bX bp:Int) (bY:Bs) (aN:OA) (aO aP:Nat) (bq aQ aR br bs bt:Int) (bu:Bs) (aB:OA) (aC aD:Nat) (bv bw bx aS aT bz:Int) (bA:Bs) (aE:OA) (aF aG:Nat) (bB bC bD bE bF aU:Int) (aV:Bs) (aH:OA) (aI aJ:Nat) (bG bH:Int),Rd I3 ((aj al)::(ak am)::(ka an ab ac ae af ag ah g h j ai l a o z)::(ka az q s t u v w c d e y f b n p)::F3) (b0.add (Int.toNat k*36)) [vb bj,vb bk,vs bl,vb bm,vb bn,vb bo,vi bX,vb bp,vs bY,vl aN aO aP,vi bq,vb aQ,vb aR,vb br,vi bs,vb bt,vs bu,vl aB aC aD,vi bv,vb bw,vb bx,vb aS,vi aT,vb bz,vs bA,vl aE aF aG,vi bB,vb bC,vb bD,vb bE,vi bF,vb aU,vs aV,vl aH aI aJ,vi bG,vi bH]∧((0≤k∧k<(b:Int))∧∃b1:Addr,f=some b1∧∃(bI bJ:Int) (bK:Bs) (bL bM bN bO bP:Int) (bQ:Bs) (aK:OA) (aL aM:Nat) (aW aX aY aZ a0 a1:Int) (a2:Bs) (ao:OA) (ap aq:Nat) (a3 a4 a5 a6 a7 a8:Int) (a9:Bs) (ar:OA) (au av:Nat) (ba bb bc bd be bf:Int) (bg:Bs) (aw:OA) (ax ay:Nat) (bh bi:Int),Rd I3 ((aj al)::(ak am)::(ka an ab ac ae af ag ah g h j ai l a o z)::(ka az q s t u v w c d e y f b n p)::F3) (b1.add (Int.toNat k*36)) [vb bI,vb bJ,vs bK,vb bL,vb bM,vb bN,vi bO,vb bP,vs bQ,vl aK aL aM,vi aW,vb aX,vb aY,vb aZ,vi a0,vb a1,vs a2,vl ao ap aq,vi a3,vb a4,vb a5,vb a6,vi a7,vb a8,vs a9,vl ar au av,vi ba,vb bb,vb bc,vb bd,vi be,vb bf,vs bg,vl aw ax ay,vi bh,vi bi]∧∃(r1:Bool),(cf P 113 #[.agg #[vb bj,vb bk,vs bl,vb bm,vb bn,vb bo,vi bX,vb bp,vs bY,vl aN aO aP,vi bq,vb aQ,vb aR,vb br,vi bs,vb bt,vs bu,vl aB aC aD,vi bv,vb bw,vb bx,vb aS,vi aT,vb bz,vs bA,vl aE aF aG,vi bB,vb bC,vb bD,vb bE,vi bF,vb aU,vs aV,vl aH aI aJ,vi bG,vi bH],.agg #[vb bI,vb bJ,vs bK,vb bL,vb bM,vb bN,vi bO,vb bP,vs bQ,vl aK aL aM,vi aW,vb aX,vb aY,vb aZ,vi a0,vb a1,vs a2,vl ao ap aq,vi a3,vb a4,vb a5,vb a6,vi a7,vb a8,vs a9,vl ar au av,vi ba,vb bb,vb bc,vb bd,vi be,vb bf,vs bg,vl aw ax ay,vi bh,vi bi]] I3 ((aj al)::(ak am)::(ka an ab ac ae af ag ah g h j ai l a o z)::(ka az q s t u v w c d e y f b n p)::F3) fun e2 I4 G2=>e2=.returned (vt r1)∧List.Perm G2 ((aj al)::(ak am)::(ka an ab ac ae af ag ah g h j ai l a o z)::(ka az q s t u v w c d e y f b n p)::F3))∧(It (!r1) (Q (.returned (vt false)) I3 F3) (∃m4:Nat,m4<m3∧Inv40 i x1 (IntKind.wrap .i64 (k+1)) m4 I2 F2 I3 F3)))) (∃m5:Nat,m5<m1∧Inv14 x1 (IntKind.wrap .i64 (i+1)) m5 I F I3 F3)))))))) (Q (.returned (vt true)) I1 F1))))))
theorem hM.vc{y:Bs}{p:OA}{r u:Nat}{z:Int}{aa:Bs}{v:OA}{w x:Nat}{ab:Int}{I:cc}{F:b8}{Q:cd}(Inv14:Bool→Int→Nat→cc→b8→cc→b8→Prop)(Inv40:Int→Bool→Int→Nat→cc→b8→cc→b8→Prop)(h:hM.V (fun W a b c d e f g h i j k l m n=>(W,Obj.cells #[.int .u8 a,.int .u8 b,.int .u8 c,.int .i64 d,.int .u8 e,.string f,.slice g h i,.int .i64 j,.slice k l m,.int .i64 n] 84 (0,0))) (fun b=>(b,Obj.cells #[.string y,.slice p r u,.int .i64 z] 65 (0,0))) (fun b=>(b,Obj.cells #[.string aa,.slice v w x,.int .i64 ab] 65 (0,0))) (fun k o t n f s a l c q=>.agg #[.int .u8 k,.int .u8 o,.int .u8 t,.int .i64 n,.int .u8 f,.string s,.slice a l c,.int .i64 q]) (.int .u8) (.int .i64) .string .slice .bool y p r u z aa v w x ab I F Q Inv14 Inv40):cf P 74 #[.agg #[.string y,.slice p r u,.int .i64 z],.agg #[.string aa,.slice v w x,.int .i64 ab]] I F Q :=
 tw (A:=(cK [1004,1010,1019,4004,9001,9007,9016,12004,15001] [] [33,113] wc [(14,⟨[(4,.bool),(5,(.int .i64))],[],fun fs I0 F0 vs m I F=>match fs,vs with | [],[.bool y0,.int _ y1]=>Inv14 y0 y1 m I0 F0 I F | _,_=>False,[],[]⟩),(40,⟨[(4,.bool),(9,(.int .i64))],[],fun fs I0 F0 vs m I F=>match fs,vs with | [.int _ y0],[.bool y1,.int _ y2]=>Inv40 y0 y1 y2 m I0 F0 I F | _,_=>False,[5],[]⟩)] [] [] [] [] [] [])) [33,113] func74 h
def fo.V(ka:Nat→Bs→Int→Int→Int→Int→Int→Int→Bs→OA→Nat→Nat→Int→Int→Nat×Obj)(a b:Nat→Nat×Obj)(nV:Int→Int→Int→Int→Int→Bs→OA→Nat→Nat→Int→Value)(vb vi:Int→Value)(vs:Bs→Value)(vl:OA→Nat→Nat→Value)(vt:Bool→Value)(aN:Bs)(aH:OA)(e aV:Nat)(aI:OA)(f aW:Nat)(aJ:OA)(g aX:Nat)(aO:Bs)(aK:OA)(y aY:Nat)(aL:OA)(z aZ:Nat)(aM:OA)(aa a0:Nat)(I:cc)(F:b8)(Q:cd)(Inv14:Bool→Int→Nat→cc→b8→Prop)(Inv41:Bool→Int→Nat→cc→b8→Prop)(Inv62:Bool→Int→Nat→cc→b8→Prop):Prop:=∀c:Nat,∀d:Nat,(It (!(aN.toList==aO.toList)) (Q (.returned (vt false)) I F) (It ((e:Int)!=(y:Int)) (Q (.returned (vt false)) I F) (It ((f:Int)!=(z:Int)) (Q (.returned (vt false)) I F) (It ((g:Int)!=(aa:Int)) (Q (.returned (vt false)) I F) ((∃m:Nat,Inv14 false 0 m I F)∧∀(x:Bool) (i:Int) (m1:Nat) (I1:cc) (F1:b8),cc.le I I1→Inv14 x i m1 I1 F1→(Dt (i<(e:Int)) ((0≤i∧i<(e:Int))∧∃ad:Addr,aH=some ad∧∃(v:Bs) (w aj ak al am an:Int) (ao:Bs) (h:OA) (j k:Nat) (ap s:Int),Rd I1 ((b c)::(a d)::F1) (ad.add (Int.toNat i*11)) [vs v,vb w,vb aj,vb ak,vb al,vi am,vb an,vs ao,vl h j k,vi ap,vi s]∧∀aG:Nat,((0≤i∧i<(y:Int))∧∃aP:Addr,aK=some aP∧∃(t:Bs) (u ab ac ae af ag:Int) (ah:Bs) (l:OA) (n o:Nat) (ai p:Int),Rd I1 ((b c)::(a d)::(ka aG v w aj ak al am an ao h j k ap s)::F1) (aP.add (Int.toNat i*11)) [vs t,vb u,vb ab,vb ac,vb ae,vi af,vb ag,vs ah,vl l n o,vi ai,vi p]∧∀aQ:Nat,cy P 33 #[nV aj ak al am an ao h j k ap,nV ab ac ae af ag ah l n o ai] I1 ((b c)::(a d)::(ka aG v w aj ak al am an ao h j k ap s)::(ka aQ t u ab ac ae af ag ah l n o ai p)::·) F1 vt fun r I2 F2=>(It (!r) (Q (.returned (vt false)) I2 F2) (It (!(v.toList==t.toList)) (Q (.returned (vt false)) I2 F2) (It (w != u) (Q (.returned (vt false)) I2 F2) (It (s != p) (Q (.returned (vt false)) I2 F2) (∃m2:Nat,m2<m1∧Inv14 x (IntKind.wrap .i64 (i+1)) m2 I2 F2))))))) ((∃m3:Nat,Inv41 x 0 m3 I1 F1)∧∀(x1:Bool) (i1:Int) (m4:Nat) (I3:cc) (F3:b8),cc.le I1 I3→Inv41 x1 i1 m4 I3 F3→(Dt (i1<(f:Int)) ((0≤i1∧i1<(f:Int))∧∃aR:Addr,aI=some aR∧∃(ay:Bs) (az:Int),Rd I3 ((b c)::(a d)::F3) (aR.add (Int.toNat i1*2)) [vs ay,vi az]∧((0≤i1∧i1<(z:Int))∧∃aS:Addr,aL=some aS∧∃(aA:Bs) (aB:Int),Rd I3 ((b c)::(a d)::F3) (aS.add (Int.toNat i1*2)) [vs aA,vi aB]∧∃q:Bool,cU P .neq 79 (.tmp 100) (.tmp 105) (.agg #[vs ay,vi az]) (.agg #[vs aA,vi aB]) q∧(It q (Q (.returned (vt false)) I3 F3) (∃m5:Nat,m5<m4∧Inv41 x1 (IntKind.wrap .i64 (i1+1)) m5 I3 F3)))) ((∃m6:Nat,Inv62 x1 0 m6 I3 F3)∧∀(x2:Bool) (i2:Int) (m7:Nat) (I4:cc) (F4:b8),cc.le I3 I4→Inv62 x2 i2 m7 I4 F4→(Dt (i2<(g:Int)) ((0≤i2∧i2<(g:Int))∧∃aT:Addr,aJ=some aT∧∃(aC:Bs) (av:OA) (aw ax:Nat) (aD:Int),Rd I4 ((b c)::(a d)::F4) (aT.add (Int.toNat i2*3)) [vs aC,vl av aw ax,vi aD]∧((0≤i2∧i2<(aa:Int))∧∃aU:Addr,aM=some aU∧∃(aE:Bs) (aq:OA) (ar au:Nat) (aF:Int),Rd I4 ((b c)::(a d)::F4) (aU.add (Int.toNat i2*3)) [vs aE,vl aq ar au,vi aF]∧∃(r1:Bool),(cf P 74 #[.agg #[vs aC,vl av aw ax,vi aD],.agg #[vs aE,vl aq ar au,vi aF]] I4 ((b c)::(a d)::F4) fun e2 I5 G2=>e2=.returned (vt r1)∧List.Perm G2 ((b c)::(a d)::F4))∧(It (!r1) (Q (.returned (vt false)) I4 F4) (∃m8:Nat,m8<m7∧Inv62 x2 (IntKind.wrap .i64 (i2+1)) m8 I4 F4)))) (Q (.returned (vt true)) I4 F4)))))))))))
theorem fo.vc{ak:Bs}{p:OA}{r u:Nat}{v:OA}{w x:Nat}{y:OA}{z aa:Nat}{al:Bs}{ab:OA}{ac ad:Nat}{ae:OA}{af ag:Nat}{ah:OA}{ai aj:Nat}{I:cc}{F:b8}{Q:cd}(Inv14:Bool→Int→Nat→cc→b8→Prop)(Inv41:Bool→Int→Nat→cc→b8→Prop)(Inv62:Bool→Int→Nat→cc→b8→Prop)(h:fo.V (fun W a b c d e f g h i j k l m=>(W,Obj.cells #[.string a,.int .u8 b,.int .u8 c,.int .u8 d,.int .u8 e,.int .i64 f,.int .u8 g,.string h,.slice i j k,.int .i64 l,.int .i64 m] 77 (0,0))) (fun b=>(b,Obj.cells #[.string al,.slice ab ac ad,.slice ae af ag,.slice ah ai aj] 39 (0,0))) (fun b=>(b,Obj.cells #[.string ak,.slice p r u,.slice v w x,.slice y z aa] 39 (0,0))) (fun k o t n f s a l c q=>.agg #[.int .u8 k,.int .u8 o,.int .u8 t,.int .i64 n,.int .u8 f,.string s,.slice a l c,.int .i64 q]) (.int .u8) (.int .i64) .string .slice .bool ak p r u v w x y z aa al ab ac ad ae af ag ah ai aj I F Q Inv14 Inv41 Inv62):cf P 46 #[.agg #[.string ak,.slice p r u,.slice v w x,.slice y z aa],.agg #[.string al,.slice ab ac ad,.slice ae af ag,.slice ah ai aj]] I F Q :=
 tw (A:=(cK [1004,1012,1021,1030,4004,9001,9007,9014,9021,12004,14010,17004,20001] [] [33,74] wc [(14,⟨[(4,.bool),(5,(.int .i64))],[],fun _ _ _ vs m I F=>match vs with | [.bool y0,.int _ y1]=>Inv14 y0 y1 m I F | _=>False,[],[]⟩),(41,⟨[(4,.bool),(9,(.int .i64))],[],fun _ _ _ vs m I F=>match vs with | [.bool y0,.int _ y1]=>Inv41 y0 y1 m I F | _=>False,[],[]⟩),(62,⟨[(4,.bool),(10,(.int .i64))],[],fun _ _ _ vs m I F=>match vs with | [.bool y0,.int _ y1]=>Inv62 y0 y1 m I F | _=>False,[],[]⟩)] [] [] [] [] [] [])) [33,74] func46 h
end Go.Lx
namespace Go.Lx
open Go.Vc
def dA.cW(d:dA):Prop:=d.name.size≤140737488351232∧∀x∈d.oJ,x.ew
def cD.cW(r:cD):Prop:=r.when.ew∧r.dos.length≤140737488351232∧∀d∈r.dos,d.cW
def cq.cW(x:cq):Prop:=x.name.size≤140737488351232∧x.rules.length≤140737488351232∧∀r∈x.rules,r.cW
def dh.cW(r:dh):Prop:=r.name.size≤140737488351232∧r.init.ew
def cx.cW(r:cx):Prop:=r.name.size≤140737488351232
structure cu.cW (s:cu):Prop where
 name:s.name.size≤140737488351232
 regs:s.regs.length≤140737488351232
 fG:∀r∈s.regs,r.cW
 slots:s.slots.length≤140737488351232
 slot:∀r∈s.slots,r.cW
 states:s.states.length≤140737488351232
 state:∀x∈s.states,x.cW
def dA.dC(d:dA):Prop:=Small d.oJ
def cD.dC(r:cD):Prop:=r.when.size≤1048576∧r.dos.length≤1048576∧∀d∈r.dos,d.dC
def cq.dC(x:cq):Prop:=x.rules.length≤1048576∧∀r∈x.rules,r.dC
def dX{α:Type}(f:α→Int):List α→Int
 | []=>0
 | x::r=>f x+dX f r
theorem lS{α:Type}{f:α→Int}(h:∀x,0≤f x):∀l,0≤dX f l
 | []=>Int.le_refl _
 | x::r=>by have:=lS h r;have:=h x;rw[dX];omega
theorem o9{α:Type}{f:α→Int}(h:∀x,1≤f x):∀l:List α,(l.length:Int)≤dX f l
 | []=>Int.le_refl _
 | x::r=>by have:=o9 h r;have:=h x;rw[dX,List.length_cons];omega
theorem pb{α:Type}{f:α→Int}(h:∀x,0≤f x):∀{l:List α} {x:α},x∈l→f x≤dX f l
 | y::r,x,hx=>by
   have h1:=lS h r
   have h2:=h y
   rw[dX]
   rcases List.mem_cons.1 hx with rfl | hx
   ·omega
   ·have:=pb h hx;omega
theorem Ar{α:Type}(f:α→Int):∀l m:List α,dX f (l++m)=dX f l+dX f m
 | [],m=>by rw[List.nil_append,dX];omega
 | x::l,m=>by rw[List.cons_append,dX,dX,Ar f l m];omega
theorem pe{α β:Type}(f:α→Int)(g:β→α):∀l:List β,dX f (l.map g)=dX (fun x=>f (g x)) l
 | []=>rfl
 | x::l=>by rw[List.map_cons,dX,dX,pe f g l]
theorem pW{α:Type}(f:α→Int){l:List α}{i:Nat}{x:α}(hx:l[i]? = some x):dX f (l.take (i+1))=dX f (l.take i)+f x:=by
 obtain⟨hi,rfl⟩:=List.getElem?_eq_some_iff.1 hx
 rw[List.take_succ_eq_append_getElem hi,Ar,dX,dX];omega
theorem pX{α:Type}(f:α→Int){l:List α}{i:Nat}(hi:l.length≤i):dX f (l.take i)=dX f l:=by rw[List.take_of_length_le hi]
def dA.dw(d:dA):Int:=1+d.side.size+d.qty.size+d.price.size+d.value.size
def cD.dw(r:cD):Int:=1+r.when.size+dX dA.dw r.dos
def cq.dw(x:cq):Int:=1+dX cD.dw x.rules
def dh.dw(r:dh):Int:=1+r.init.size
def cu.dw(s:cu):Int:=dX dh.dw s.regs+s.slots.length+dX cq.dw s.states
theorem dA.eH(d:dA):1≤d.dw:=by
 have q1:=Px.size_pos d.side
 have q2:=Px.size_pos d.qty
 have q3:=Px.size_pos d.price
 have q4:=Px.size_pos d.value
 unfold dA.dw;omega
theorem cD.eH(r:cD):1≤r.dw:=by
 have q1:=Px.size_pos r.when
 have q2:=lS (fun x=>Int.le_trans (by decide) (dA.eH x)) r.dos
 unfold cD.dw;omega
theorem cq.eH(x:cq):1≤x.dw:=by
 have q2:=lS (fun x=>Int.le_trans (by decide) (cD.eH x)) x.rules
 unfold cq.dw;omega
theorem dh.eH(r:dh):1≤r.dw:=by
 have q1:=Px.size_pos r.init
 unfold dh.dw;omega
structure cu.dC (s:cu):Prop where
 regs:s.regs.length≤1048576
 fG:∀r∈s.regs,r.init.size≤1048576
 slots:s.slots.length≤1048576
 states:s.states.length≤1048576
 state:∀x∈s.states,x.dC
 all:s.dw≤1048576
theorem dA.sm{d:dA}(h:d.dw≤1048576):d.dC:=fun x hx=>by
 have q1:=Px.size_pos d.side
 have q2:=Px.size_pos d.qty
 have q3:=Px.size_pos d.price
 have q4:=Px.size_pos d.value
 unfold dA.dw at h
 simp only[dA.oJ,List.mem_cons,List.not_mem_nil,or_false] at hx
 rcases hx with rfl | rfl | rfl | rfl<;>omega
theorem cD.sm{r:cD}(h:r.dw≤1048576):r.dC:=by
 have q1:=Px.size_pos r.when
 have q2:=o9 dA.eH r.dos
 unfold cD.dw at h
 refine⟨by omega,by omega,fun d hd=>dA.sm ?_⟩
 have:=pb (fun x=>Int.le_trans (by decide) (dA.eH x)) hd
 omega
theorem cq.sm{x:cq}(h:x.dw≤1048576):x.dC:=by
 have q2:=o9 cD.eH x.rules
 unfold cq.dw at h
 refine⟨by omega,fun d hd=>cD.sm ?_⟩
 have:=pb (fun x=>Int.le_trans (by decide) (cD.eH x)) hd
 omega
theorem cu.sm{s:cu}(h:s.dw≤1048576):s.dC:=by
 have h':=h
 have q1:=o9 dh.eH s.regs
 have q2:=o9 cq.eH s.states
 unfold cu.dw at h
 refine⟨by omega,fun r hr=>?_,by omega,by omega,fun x hx=>cq.sm ?_,h'⟩
 ·have:=pb (fun x=>Int.le_trans (by decide) (dh.eH x)) hr
  have hm:r.dw=1+r.init.size:=rfl
  omega
 ·have:=pb (fun x=>Int.le_trans (by decide) (cq.eH x)) hx
  omega
def dy.dw(d:dy):Int:=d.p.dw
def cp.dw(r:cp):Int:=r.p.dw
def cg.dw(r:cg):Int:=r.p.dw
def cH.dw(r:cH):Int:=r.p.dw
theorem cp.so(r:cp):r.dw=1+r.when.px.size+dX dy.dw r.dos:=by
 show 1+r.when.px.size+dX dA.dw (r.dos.map dy.p)=_
 rw[pe];rfl
theorem cg.so(r:cg):r.dw=1+dX cp.dw r.rules:=by
 show 1+dX cD.dw (r.rules.map cp.p)=_
 rw[pe];rfl
theorem cw.so(s:cw):s.p.dw=dX cH.dw s.regs+s.slots.length+dX cg.dw s.states:=by
 show dX dh.dw (s.regs.map cH.p)+s.slots.length+dX cq.dw (s.states.map cg.p)=_
 rw[pe,pe];rfl
theorem cu.dC.small{s:cu}(h:s.dC):Small s.oJ:=fun x hx=>by
 simp only[cu.oJ,List.mem_append,List.mem_map,List.mem_flatMap] at hx
 rcases hx with ⟨r,hr,rfl⟩ | ⟨y,hy,r,hr,hx⟩
 ·exact h.fG r hr
 ·obtain⟨_,h1⟩:=h.state y hy
  obtain⟨h2,_,h3⟩:=h1 r hr
  unfold cD.oJ at hx
  rcases List.mem_cons.1 hx with rfl | hx
  ·exact h2
  ·obtain⟨d,hd,hx⟩:=List.mem_flatMap.1 hx
   exact h3 d hd x hx
theorem cu.dC.lens{s:cw}(h:s.p.dC):s.Gx:=by
 have l1:=h.regs
 have l2:=h.slots
 have l3:=h.states
 simp only[cw.p,List.length_map] at l1 l2 l3
 refine⟨by omega,by omega,by omega,fun x hx=>?_,fun x hx r hr=>?_⟩
 ·have:=(h.state x.p (List.mem_map_of_mem hx)).1
  simp only[cg.p,List.length_map] at this
  omega
 ·have:=((h.state x.p (List.mem_map_of_mem hx)).2 r.p (List.mem_map_of_mem hr)).2.1
  simp only[cp.p,List.length_map] at this
  omega
structure cu.oK (s:cu):Prop where
 regs:s.regs.length≤1048576
 fG:∀r∈s.regs,r.init.size≤1048576
 slots:s.slots.length≤1048576
 states:s.states.length≤1048576
 state:∀x∈s.states,x.dC
theorem cu.dC.thin{s:cu}(h:s.dC):s.oK:=⟨h.regs,h.fG,h.slots,h.states,h.state⟩
theorem cu.oK.small{s:cu}(h:s.oK):Small s.oJ:=fun x hx=>by
 simp only[cu.oJ,List.mem_append,List.mem_map,List.mem_flatMap] at hx
 rcases hx with ⟨r,hr,rfl⟩ | ⟨y,hy,r,hr,hx⟩
 ·exact h.fG r hr
 ·obtain⟨_,h1⟩:=h.state y hy
  obtain⟨h2,_,h3⟩:=h1 r hr
  unfold cD.oJ at hx
  rcases List.mem_cons.1 hx with rfl | hx
  ·exact h2
  ·obtain⟨d,hd,hx⟩:=List.mem_flatMap.1 hx
   exact h3 d hd x hx
theorem cu.oK.lens{s:cw}(h:s.p.oK):s.Gx:=by
 have l1:=h.regs
 have l2:=h.slots
 have l3:=h.states
 simp only[cw.p,List.length_map] at l1 l2 l3
 refine⟨by omega,by omega,by omega,fun x hx=>?_,fun x hx r hr=>?_⟩
 ·have:=(h.state x.p (List.mem_map_of_mem hx)).1
  simp only[cg.p,List.length_map] at this
  omega
 ·have:=((h.state x.p (List.mem_map_of_mem hx)).2 r.p (List.mem_map_of_mem hr)).2.1
  simp only[cp.p,List.length_map] at this
  omega
theorem xR(d:Int):∀(l:List Px),(∀x∈l,∀n,x.iW n d≤max n 1048576+140737488351233)→∀n,Px.fB l n d≤max n (1048576+140737488351233)
 | [],_,n=>by rw[Px.fB];omega
 | x::r,h,n=>by
   rw[Px.fB]
   split
   ·have h1:=h x (List.mem_cons_self ..) n
    have h2:=xR d r (fun y hy=>h y (List.mem_cons_of_mem _ hy)) (x.iW n d)
    omega
   ·omega
theorem mN:∀{x:Px},x.ew→∀n d:Int,x.iW n d≤max n 1048576+140737488351233:=by
 intro x h
 induction h with
 | mk h1 h2 h3 ih =>
   rename_i x
   intro n d
   rw[Px.rQ]
   split
   ·omega
   ·have:=xR (d+1) x.kids (fun y hy n=>ih y hy n (d+1)) (n+1+x.name.size)
    omega
theorem we{α:Type}{l:List α}{i:Nat}{x:α}{p:α→Prop}(hx:l[i]? = some x)(h:∀y∈l.take i,p y)(hp:p x):∀y∈l.take (i+1),p y:=by
 obtain⟨hi,rfl⟩:=List.getElem?_eq_some_iff.1 hx
 intro y hy
 rw[List.take_succ_eq_append_getElem hi] at hy
 rcases List.mem_append.1 hy with hy | hy
 ·exact h y hy
 ·rw[List.mem_singleton] at hy;rw[hy];exact hp
theorem Rd.part{I:cc}{G:b8}{ad:Addr}{cs xs ds ys:List Value}(h:Rd I G ad cs){o:Nat}(e:cs=xs++(ds++ys))(ho:xs.length=o):Rd I G (ad.add o) ds:=by
 obtain⟨h1,cells,t,fz,h2,h3⟩:=h
 have hadd:ad.add o=⟨ad.block,ad.off+o,none⟩:=by
  obtain⟨b,off,sp⟩:=ad
  simp only at h1;subst h1
  unfold Addr.add;split<;>simp_all
 rw[hadd]
 refine⟨rfl,cells,t,fz,h2,fun j hj=>?_⟩
 have:=h3 (o+j) (by rw[e];simp only[List.length_append];omega)
 rw[←Nat.add_assoc] at this
 rw[this,e,List.getElem?_append_right (by omega),show o+j-xs.length=j by omega,List.getElem?_append_left hj]
theorem yE(d:dy)(hs:d.p.cW)(n:Int)(h0:0≤n)(h1:n≤10000000)(I:cc)(F:b8)(hd:d.Ok I F):cf P 63 #[d.v,.int .i64 n] I F fun e I' G=>∃r:Int,e=.returned (.int .i64 r)∧G=F ∧
  0≤r∧r≤1000000000000000∧(r≤1048576→n+d.dw≤r+1):=by
 refine jA.vc ?_
 unfold jA.V
 intro b_d
 have hnm:=hs.1
 have hsh:=hs.2
 simp only[dA.oJ,List.mem_cons,List.not_mem_nil,or_false] at hsh
 have s1:d.side.px.ew:=hsh _ (.inl rfl)
 have s2:d.qty.px.ew:=hsh _ (.inr (.inl rfl))
 have s3:d.price.px.ew:=hsh _ (.inr (.inr (.inl rfl)))
 have s4:d.value.px.ew:=hsh _ (.inr (.inr (.inr rfl)))
 have hnm':d.name.size≤140737488351232:=hnm
 rw[cY (n:=n+_) (by omega)]
 have ok:∀{J:cc},cc.le I J→d.Ok J ((ql b_d d)::F):=fun hl=>(hd.mono hl fun _ h=>h).cons
 have e1:=mN s1 (n+d.name.size) 0
 have p1:=Px.jf d.side.px (n+d.name.size) 0 (by omega)
 have z1:=Px.jd d.side.px (n+d.name.size) 0
 generalize hw1:d.side.px.iW (n+d.name.size) 0=a1 at *
 have e2:=mN s2 a1 0
 have p2:=Px.jf d.qty.px a1 0 p1
 have z2:=Px.jd d.qty.px a1 0
 generalize hw2:d.qty.px.iW a1 0=a2 at *
 have e3:=mN s3 a2 0
 have p3:=Px.jf d.price.px a2 0 p2
 have z3:=Px.jd d.price.px a2 0
 generalize hw3:d.price.px.iW a2 0=a3 at *
 have e4:=mN s4 a3 0
 have p4:=Px.jf d.value.px a3 0 p3
 have z4:=Px.jd d.value.px a3 0
 generalize hw4:d.value.px.iW a3 0=a4 at *
 refine cf.ret (jh d.side s1 _ 0 I _ (ok (cc.le_refl I)).1 (by omega) (by omega) (by decide) (by decide)) fun I1 l1=>⟨_,rfl,F,.refl _, ?_⟩
 rw[hw1]
 refine cf.ret (jh d.qty s2 _ 0 I1 _ (ok l1).2.1 (by omega) (by omega) (by decide) (by decide)) fun I2 h2=>⟨_,rfl,F,.refl _, ?_⟩
 have l2:=cc.le_trans l1 h2
 rw[hw2]
 refine cf.ret (jh d.price s3 _ 0 I2 _ (ok l2).2.2.1 (by omega) (by omega) (by decide) (by decide)) fun I3 h3=>⟨_,rfl,F,.refl _, ?_⟩
 have l3:=cc.le_trans l2 h3
 rw[hw3]
 refine cf.ret (jh d.value s4 _ 0 I3 _ (ok l3).2.2.2 (by omega) (by omega) (by decide) (by decide)) fun I4 h4=>⟨_,rfl,F,.refl _, ?_⟩
 rw[hw4]
 refine⟨_,rfl,rfl,p4,by omega,fun hle=>?_⟩
 have q1:=Px.size_pos d.side.px
 have q2:=Px.size_pos d.qty.px
 have q3:=Px.size_pos d.price.px
 have q4:=Px.size_pos d.value.px
 have y4:=z4 (by omega)
 have y3:=z3 (by omega)
 have y2:=z2 (by omega)
 have y1:=z1 (by omega)
 show n+(1+d.side.px.size+d.qty.px.size+d.price.px.size+d.value.px.size)≤a4+1
 omega
set_option maxHeartbeats 2000000 in
theorem xg(s:cw)(hs:s.p.cW)(I:cc)(F:b8)(hok:s.Ok I F):cf P 37 #[s.v] I F fun e I' G=>∃r:Int,e=.returned (.int .i64 r)∧G=F∧0≤r∧r≤2000000000000000∧(r≤1048576→s.p.dC):=by
 have lr:=hs.regs
 have ls:=hs.slots
 have lt:=hs.states
 have ln:=hs.name
 simp only[cw.p,List.length_map] at lr ls lt ln
 have hnm:∀r∈s.regs,r.p.cW:=fun r hr=>hs.fG _ (List.mem_map_of_mem hr)
 have hst:∀x∈s.states,x.p.cW:=fun x hx=>hs.state _ (List.mem_map_of_mem hx)
 have hru:∀x∈s.states,∀r∈x.rules,r.p.cW:=fun x hx r hr=>(hst x hx).2.2 _ (List.mem_map_of_mem hr)
 have hdo:∀x∈s.states,∀r∈x.rules,∀d∈r.dos,d.p.cW:=fun x hx r hr d hd=>(hru x hx r hr).2.2 _ (List.mem_map_of_mem hd)
 have hrl:∀x∈s.states,x.rules.length≤140737488351232:=fun x hx=>by have:=(hst x hx).2.1;simpa only[cg.p,List.length_map] using this
 have hdl:∀x∈s.states,∀r∈x.rules,r.dos.length≤140737488351232:=fun x hx r hr=>by have:=(hru x hx r hr).2.1;simpa only[cp.p,List.length_map] using this
 refine eU.vc
  (fun n I0 F0 I' F'=>F'=F∧0≤n∧n≤2000000000000000∧(n≤1048576→dX cH.dw s.regs≤n))
  (fun n i m I0 F0 I' F'=>F'=F∧0≤i∧i≤s.regs.length∧m=(s.regs.length-i).toNat∧0≤n∧n≤2000000000000000∧(n≤1048576→dX cH.dw (s.regs.take i.toNat)≤n))
  (fun n I0 F0 I' F'=>F'=F∧0≤n∧n≤2000000000000000∧(n≤1048576→dX cH.dw s.regs+s.slots.length≤n))
  (fun n i m I0 F0 I' F'=>F'=F∧0≤i∧i≤s.slots.length∧m=(s.slots.length-i).toNat∧0≤n∧n≤2000000000000000∧(n≤1048576→dX cH.dw s.regs+i≤n))
  (fun n I0 F0 I' F'=>F'=F∧0≤n∧n≤2000000000000000∧(n≤1048576→s.p.dC))
  (fun n i m I0 F0 I' F'=>F'=F∧0≤i∧i≤s.states.length∧m=(s.states.length-i).toNat∧0≤n∧n≤2000000000000000∧(n≤1048576→dX cH.dw s.regs+s.slots.length+dX cg.dw (s.states.take i.toNat)≤n))
  (fun i n k m I0 F0 I' F'=>F'=F∧∃x,s.states[i.toNat]? = some x∧0≤k∧k≤x.rules.length∧m=(x.rules.length-k).toNat∧0≤n∧n≤2000000000000000 ∧
    (n≤1048576→dX cH.dw s.regs+s.slots.length+dX cg.dw (s.states.take i.toNat)+1+dX cp.dw (x.rules.take k.toNat)≤n))
  (fun i k n j m I0 F0 I' F'=>F'=F∧∃x r,s.states[i.toNat]? = some x∧x.rules[k.toNat]? = some r∧0≤j∧j≤r.dos.length∧m=(r.dos.length-j).toNat∧0≤n∧n≤2000000000000000 ∧
    (n≤1048576→dX cH.dw s.regs+s.slots.length+dX cg.dw (s.states.take i.toNat)+1+dX cp.dw (x.rules.take k.toNat)+1+r.when.px.size+dX dy.dw (r.dos.take j.toNat)≤n)) ?_
 unfold eU.V
 intro b_s
 have ok:∀{J:cc},cc.le I J→s.Ok J ((c6 b_s s)::F):=fun hl=>(hok.mono hl fun _ h=>h).cons
 refine⟨⟨⟨_,rfl,by omega,by omega,rfl,by omega,by omega,fun _=>by simp only[Int.toNat_zero,List.take_zero,dX];omega⟩,fun n i m I1 F1 l1 ⟨gF,g0,g1,gm,gn,gb,gl⟩=>?_⟩,fun n1 I3 F2 l3 ⟨gF,gn,gb,gl⟩=>?_⟩
 ·subst gF
  refine⟨fun hlt=>⟨fun hle=>?_,fun hle=>⟨rfl,gn,gb,fun h=>absurd h (of_decide_eq_false hle)⟩⟩,fun hlt=>⟨rfl,gn,gb,fun h=>?_⟩⟩
  ·have hlt:=of_decide_eq_true hlt
   have hle:=of_decide_eq_true hle
   obtain⟨ad,r,had,hr,hrd,hrm⟩:=dq.gj (ok l1).regs g0 hlt
   have hsh:=hnm r hrm
   have hna:r.name.size≤140737488351232:=hsh.1
   have hin:r.init.px.ew:=hsh.2
   rw[cY (n:=n+1) (by omega)]
   have e2:IntKind.wrap .i64 (n+1+(r.name.size:Int))=n+1+r.name.size:=cY (by omega)
   have u1:=mN hin (n+1+r.name.size) 0
   have u2:=Px.jf r.init.px (n+1+r.name.size) 0 (by omega)
   have u3:=Px.jd r.init.px (n+1+r.name.size) 0
   have u4:=Px.size_pos r.init.px
   refine⟨⟨g0,hlt⟩,ad,had,_,_,_,_,_,_,_,_,_,_,Rd.part hrd (xs:=[.string r.name,.int .u8 r.cO]) (ds:=r.init.enc) (ys:=[.int .i64 r.pos]) rfl rfl,⟨g0,hlt⟩,ad,had,r.name,hrd.field (o:=0) rfl,r.init.px.iW (n+1+r.name.size) 0, ?_,(s.regs.length-(i+1)).toNat,by omega,rfl, ?_⟩
   ·rw[e2]
    exact cf.ret (jh r.init hin _ 0 I1 _ ((ok l1).fG r hrm) (by omega) (by omega) (by decide) (by decide)) fun _ _=>⟨rfl,.refl _⟩
   rw[cY (n:=i+1) (by omega)]
   refine⟨by omega,by omega,rfl,u2,by omega,fun h=>?_⟩
   have u5:=u3 h
   have v1:=gl hle
   have hma:r.dw=1+r.init.px.size:=rfl
   rw[show (i+1).toNat=i.toNat+1 by omega,pW _ hr]
   omega
  ·have hlt:=of_decide_eq_false hlt
   have v1:=gl h
   rw[pX _ (by omega)] at v1
   exact v1
 ·subst gF
  refine⟨⟨⟨_,rfl,by omega,by omega,rfl,gn,gb,fun h=>by have:=gl h;omega⟩,fun n i m I4 F3 l4 ⟨gF,g0,g1,gm,gn,gb,gl⟩=>?_⟩,fun n3 I5 F4 l5 ⟨gF,gn,gb,gl⟩=>?_⟩
  ·subst gF
   have l4:=cc.le_trans l3 l4
   refine⟨fun hlt=>⟨fun hle=>?_,fun hle=>⟨rfl,gn,gb,fun h=>absurd h (of_decide_eq_false hle)⟩⟩,fun hlt=>⟨rfl,gn,gb,fun h=>?_⟩⟩
   ·have hlt:=of_decide_eq_true hlt
    have hle:=of_decide_eq_true hle
    obtain⟨ad,r,had,hr,hrd,hrm⟩:=dq.gj (ok l4).slots g0 hlt
    have hna:r.name.size≤140737488351232:=hs.slot r hrm
    rw[cY (n:=n+1) (by omega)]
    refine⟨⟨g0,hlt⟩,ad,had,r.name,hrd.field (o:=0) rfl,(s.slots.length-(i+1)).toNat,by omega,rfl, ?_⟩
    rw[cY (n:=i+1) (by omega),cY (n:=n+1+(r.name.size:Int)) (by omega)]
    refine⟨by omega,by omega,rfl,by omega,by omega,fun h=>?_⟩
    have v1:=gl hle
    omega
   ·have hlt:=of_decide_eq_false hlt
    have v1:=gl h
    omega
  ·subst gF
   have l5:=cc.le_trans l3 l5
   refine⟨⟨⟨_,rfl,by omega,by omega,rfl,gn,gb,fun h=>by have:=gl h;simp only[Int.toNat_zero,List.take_zero,dX];omega⟩,fun n i m I6 F5 l6 ⟨gF,g0,g1,gm,gn,gb,gl⟩=>?_⟩,fun n7 I7 F6 l7 ⟨gF,gn,gb,gl⟩=>?_⟩
   ·subst gF
    have l6:=cc.le_trans l5 l6
    refine⟨fun hlt=>⟨fun hle=>?_,fun hle=>⟨rfl,gn,gb,fun h=>absurd h (of_decide_eq_false hle)⟩⟩,fun hlt=>⟨rfl,gn,gb,fun h=>?_⟩⟩
    ·have hlt:=of_decide_eq_true hlt
     have hle:=of_decide_eq_true hle
     obtain⟨ad,x,had,hx,hrd,hxm⟩:=dq.gj (ok l6).states g0 hlt
     have hna:x.name.size≤140737488351232:=(hst x hxm).1
     have hxl:=hrl x hxm
     rw[cY (n:=n+1) (by omega)]
     have e2:IntKind.wrap .i64 (n+1+(x.name.size:Int))=n+1+x.name.size:=cY (by omega)
     refine⟨⟨g0,hlt⟩,ad,had,x.name,hrd.field (o:=0) rfl,⟨g0,hlt⟩,ad,had,_,_,_,hrd.field (o:=1) rfl,⟨_,rfl,x,hx,by omega,by omega,rfl,by rw[e2];omega,by rw[e2];omega,fun h=>?_⟩,fun n5 k m12 I7 F6 l7 ⟨gF,x',hx',k0,k1,km,kn,kb,kl⟩=>?_⟩
     ·rw[e2] at h ⊢
      have v1:=gl hle
      simp only[Int.toNat_zero,List.take_zero,dX];omega
     ·subst gF
      obtain rfl:x=x':=by rw[hx] at hx';exact Option.some.inj hx'
      have l7:=cc.le_trans l6 l7
      refine⟨fun hlt2=>⟨fun hle2=>?_,fun hle2=>⟨(s.states.length-(i+1)).toNat,by omega,rfl, ?_⟩⟩,fun hlt2=>⟨(s.states.length-(i+1)).toNat,by omega,rfl, ?_⟩⟩
      ·have hlt2:=of_decide_eq_true hlt2
       have hle2:=of_decide_eq_true hle2
       have okx:=(ok l7).state x hxm
       obtain⟨ad5,r,had5,hr,hrd5,hrm⟩:=dq.gj okx.1 k0 hlt2
       have okr:=okx.2 r hrm
       have hwh:r.when.px.ew:=(hru x hxm r hrm).1
       rw[cY (n:=n5+1) (by omega)]
       have u1:=mN hwh (n5+1) 0
       have u2:=Px.jf r.when.px (n5+1) 0 (by omega)
       have u3:=Px.jd r.when.px (n5+1) 0
       have u4:=Px.size_pos r.when.px
       have hrl2:=hdl x hxm r hrm
       refine⟨⟨k0,hlt2⟩,ad5,had5,_,_,_,_,_,_,_,_,_,_,Rd.part hrd5 (xs:=[]) (ds:=r.when.enc) (ys:=[.slice r.a r.dos.length r.c,.int .i64 r.pos]) rfl rfl,
        cf.ret (jh r.when hwh _ 0 I7 _ okr.1 (by omega) (by omega) (by decide) (by decide)) fun I8 l8=>⟨_,rfl,F6,.refl _,⟨_,rfl,x,r,hx,hr,by omega,by omega,rfl,u2,by omega,fun h=>?_⟩,fun n6 j m14 I9 F8 l9 ⟨gF,x',r',hx',hr',j0,j1,jm,jn,jb,jl⟩=>?_⟩⟩
       ·have u5:=u3 h
        have v1:=kl hle2
        simp only[Int.toNat_zero,List.take_zero,dX];omega
       ·subst gF
        obtain rfl:x=x':=by rw[hx] at hx';exact Option.some.inj hx'
        obtain rfl:r=r':=by rw[hr] at hr';exact Option.some.inj hr'
        have l9:=cc.le_trans (cc.le_trans l7 l8) l9
        have okr9:=((ok l9).state x hxm).2 r hrm
        have hrd9:∀{J},cc.le I7 J→Rd J ((c6 b_s s)::F8) ((ad5.add (Int.toNat k*10)).add 8) [.slice r.a r.dos.length r.c]:=fun hl=>(hrd5.mono hl).field (o:=8) rfl
        have l79:cc.le I7 I9:=cc.le_trans l8 ‹cc.le I8 I9›
        refine⟨⟨k0,hlt2⟩,ad5,had5,_,_,_,hrd9 l79,fun hlt3=>⟨fun hle3=>?_,fun hle3=>⟨(x.rules.length-(k+1)).toNat,by omega,rfl,x,hx, ?_⟩⟩,fun hlt3=>⟨(x.rules.length-(k+1)).toNat,by omega,rfl,x,hx, ?_⟩⟩
        ·have hlt3:=of_decide_eq_true hlt3
         have hle3:=of_decide_eq_true hle3
         obtain⟨ad8,d,had8,hd,hrd8,hdm⟩:=dq.gj okr9.2.1 j0 hlt3
         rw[cY (n:=n6+1) (by omega)]
         refine⟨⟨k0,hlt2⟩,ad5,had5,_,_,_,hrd9 l79,⟨j0,hlt3⟩,ad8,had8,_,_,_,_,_,_,_,_,_,_,_,_,_,_,_,_,_,_,_,_,_,_,_,_,_,_,_,_,_,_,_,_,_,_,_,_,_,_,_,_,_,_,_,_,hrd8,(yE d (hdo x hxm r hrm d hdm) (n6+1) (by omega) (by omega) I9 _ (okr9.2.2 d hdm)).mono fun e I10 G l10 ⟨w,he,hG,w0,w1,wl⟩=>?_⟩
         subst hG
         refine⟨w,he,F8,.refl _,(r.dos.length-(j+1)).toNat,by omega,rfl,x,r,hx,hr, ?_⟩
         rw[cY (n:=j+1) (by omega)]
         refine⟨by omega,by omega,rfl,w0,by omega,fun h=>?_⟩
         have wa:=wl h
         have v1:=jl hle3
         have hdp:=dA.eH d.p
         rw[show (j+1).toNat=j.toNat+1 by omega,pW _ hd]
         omega
        ·have hle3:=of_decide_eq_false hle3
         rw[cY (n:=k+1) (by omega)]
         exact⟨by omega,by omega,rfl,jn,jb,fun h=>absurd h hle3⟩
        ·have hlt3:=of_decide_eq_false hlt3
         rw[cY (n:=k+1) (by omega)]
         refine⟨by omega,by omega,rfl,jn,jb,fun h=>?_⟩
         have v1:=jl h
         rw[pX dy.dw (by omega)] at v1
         rw[show (k+1).toNat=k.toNat+1 by omega,pW _ hr,cp.so]
         omega
      ·have hle2:=of_decide_eq_false hle2
       rw[cY (n:=i+1) (by omega)]
       exact⟨by omega,by omega,rfl,kn,kb,fun h=>absurd h hle2⟩
      ·have hlt2:=of_decide_eq_false hlt2
       rw[cY (n:=i+1) (by omega)]
       refine⟨by omega,by omega,rfl,kn,kb,fun h=>?_⟩
       have v1:=kl h
       rw[pX cp.dw (by omega)] at v1
       rw[show (i+1).toNat=i.toNat+1 by omega,pW _ hx,cg.so]
       omega
    ·have hlt:=of_decide_eq_false hlt
     have v1:=gl h
     rw[pX cg.dw (by omega)] at v1
     refine cu.sm ?_
     rw[cw.so];omega
   ·subst gF
    exact⟨n7,rfl,rfl,gn,gb,gl⟩
end Go.Lx
namespace Go.Vc
def eI{α β:Type}(f:α→β→Bool):List α→List β→Bool
 | x::l,y::m=>f x y&&eI f l m
 | _,_=>true
theorem ig{α β γ δ:Type}{f:γ→δ→Bool}{g:α→γ}{h:β→δ}{l:List α}{m:List β}{i:Nat}{x:α}{y:β}(hx:l[i]? = some x)(hy:m[i]? = some y) :
  eI f ((l.drop i).map g) ((m.drop i).map h)=(f (g x) (h y)&&eI f ((l.drop (i+1)).map g) ((m.drop (i+1)).map h)):=by
 obtain⟨h1,rfl⟩:=List.getElem?_eq_some_iff.1 hx
 obtain⟨h2,rfl⟩:=List.getElem?_eq_some_iff.1 hy
 rw[List.drop_eq_getElem_cons h1,List.drop_eq_getElem_cons h2,List.map_cons,List.map_cons,eI]
theorem mO{α β γ δ:Type}{f:γ→δ→Bool}{g:α→γ}{h:β→δ}{l:List α}{m:List β}{i:Nat}(hi:l.length≤i):eI f ((l.drop i).map g) ((m.drop i).map h)=true:=by
 rw[List.drop_eq_nil_of_le hi,List.map_nil];cases (List.map h (List.drop i m))<;>rfl
theorem jt{α:Type}{f:α→α→Bool}:∀{l:List α},(∀x∈l,f x x=true)→eI f l l=true
 | [],_=>rfl
 | x::l,k=>by rw[eI,k x (List.mem_cons_self ..),jt fun y hy=>k y (List.mem_cons_of_mem _ hy)];rfl
end Go.Vc
namespace Go.Lx
open Go.Vc
namespace Px
mutual
def same:Px→Px→Bool
 | .mk k o t n f s l q,y=>q==y.pos&&(rP (.mk k o t n f s l q) y&&(decide (l.length=y.kids.length)&&pf l y.kids))
def pf:List Px→List Px→Bool
 | [],_=>true
 | _::_,[]=>false
 | x::r,y::r'=>same x y&&pf r r'
end
theorem C1(x y:Px):x.same y=(x.pos==y.pos&&(rP x y&&(decide (x.kids.length=y.kids.length)&&pf x.kids y.kids))):=by cases x;rw[same];rfl
theorem yF(x:Px):rP x x=true:=by simp[rP]
theorem dQ:∀x:Px,x.same x=true:=by
 have hL:∀l:List Px,(∀x∈l,x.same x=true)→pf l l=true:=by
  intro l
  induction l with
  | nil=>intro _;rw[pf]
  | cons y r ih=>intro h;rw[pf,h y (List.mem_cons_self ..),ih fun x hx=>h x (List.mem_cons_of_mem _ hx)];rfl
 refine ind fun x ih=>?_
 rw[C1,yF,decide_eq_true rfl,hL _ ih];simp
end Px
theorem ju:∀(t:Nd),t.px.ew→∀(u:Nd) (I:cc) (F:b8),cC I F t→cC I F u→cf P 33 #[t.v,u.v] I F (dS (.bool (t.px.same u.px)) F):=by
 refine Nd.ind fun t ih hs u I F ht hu=>?_
 have hln:=hs.len
 rw[Nd.ja] at hln
 refine iH.vc (fun x i m I' F'=>0≤i∧i≤t.kids.length∧m=(t.kids.length-i).toNat∧Px.pf (t.kids.map Nd.px) (u.kids.map Nd.px)=Px.pf ((t.kids.drop i.toNat).map Nd.px) ((u.kids.drop i.toNat).map Nd.px)∧F'=F) ?_
 unfold iH.V
 intro b_a b_b
 rw[Px.C1,Nd.db,Nd.db,List.length_map,List.length_map]
 unfold Px.rP
 rw[Nd.cG,Nd.cG,Nd.eP,Nd.eP,Nd.gJ,Nd.gJ,Nd.xb,Nd.xb,Nd.gQ,Nd.gQ,Nd.fF,Nd.fF,Nd.qX,Nd.qX]
 refine⟨fun h=>⟨?_,rfl⟩,fun hp=>⟨fun h=>⟨?_,rfl⟩,fun h0=>⟨fun h=>⟨?_,rfl⟩,fun h1=>⟨fun h=>⟨?_,rfl⟩,fun h2=>⟨fun h=>⟨?_,rfl⟩,fun h3=>⟨fun h=>⟨?_,rfl⟩,fun h4=>⟨fun h=>⟨?_,rfl⟩,fun h5=>⟨fun h=>⟨?_,rfl⟩,fun h6=>?_⟩⟩⟩⟩⟩⟩⟩⟩
 ·rw[show (t.pos==u.pos)=false by simpa using h];simp
 ·rw[show (t.kind==u.kind)=false by simpa using h];simp
 ·rw[show (t.oper==u.oper)=false by simpa using h];simp
 ·rw[show (t.cO==u.cO)=false by simpa using h];simp
 ·rw[show (t.n==u.n)=false by simpa using h];simp
 ·rw[show (t.field==u.field)=false by simpa using h];simp
 ·rw[show (t.name.toList==u.name.toList)=false by simpa using h];simp
 ·rw[decide_eq_false (show ¬t.kids.length=u.kids.length from fun e=>by rw[e] at h;simp at h)];simp
 have hlen:t.kids.length=u.kids.length:=by
  have:((t.kids.length:Int)!=(u.kids.length:Int))=false:=h6
  have:(t.kids.length:Int)=u.kids.length:=by simpa using this
  omega
 rw[show (t.pos==u.pos)=true by simpa using hp,show (t.kind==u.kind)=true by simpa using h0,show (t.oper==u.oper)=true by simpa using h1,show (t.cO==u.cO)=true by simpa using h2,show (t.n==u.n)=true by simpa using h3,
  show (t.field==u.field)=true by simpa using h4,show (t.name.toList==u.name.toList)=true by simpa using h5,decide_eq_true hlen]
 simp only[Bool.true_and]
 refine⟨⟨_,by omega,by omega,rfl,rfl,by first | rfl | trivial⟩,fun x i m I1 F1 hI ⟨g0,g1,gm,gl,gF⟩=>⟨fun hlt=>?_,fun hlt=>?_⟩⟩
 ·have hlt:=of_decide_eq_true hlt
  subst gF
  have hc:∀y,cC I F1 y→cC I1 ((b_a,.cells t.enc.toArray 28 (0,0))::(b_b,.cells u.enc.toArray 28 (0,0))::F1) y:=fun y h=>(h.mono hI fun _ h=>h).cons.cons
  obtain⟨ad,x,had,hx,hrd,hxo,hxm⟩:=(hc t ht).kids.at g0 hlt
  obtain⟨ad',y,had',hy,hrd',hyo,hym⟩:=(hc u hu).kids.at g0 (show i<u.kids.length by omega)
  refine⟨⟨g0,hlt⟩,ad,had,_,_,_,_,_,_,_,_,_,_,hrd,⟨g0,by omega⟩,ad',had',_,_,_,_,_,_,_,_,_,_,hrd',x.px.same y.px,
   (ih x hxm (hs.IU x.px (by rw[Nd.db];exact List.mem_map_of_mem hxm)) y I1 _ hxo hyo).xI,fun h=>⟨?_,rfl⟩,fun h=>⟨(t.kids.length-(i+1)).toNat,by omega, ?_⟩⟩
  ·rw[gl,fS hx,fS hy,Px.pf,show x.px.same y.px=false by simpa using h];rfl
  ·rw[cY (n:=i+1) (by omega)]
   refine⟨by omega,by omega,rfl, ?_,rfl⟩
   rw[gl,fS hx,fS hy,Px.pf,show x.px.same y.px=true by simpa using h,show (i+1).toNat=i.toNat+1 by omega];rfl
 ·have hlt:=of_decide_eq_false hlt
  refine⟨?_,gF⟩
  rw[gl,mF (by omega),Px.pf]
def dA.same(d e:dA):Bool:=d.kind==e.kind&&(d.order==e.order&&(d.name.toList==e.name.toList&&(d.pos==e.pos&&(d.side.same e.side&&(d.qty.same e.qty&&(d.price.same e.price&&d.value.same e.value))))))
def cD.same(r q:cD):Bool:=r.when.same q.when&&(r.pos==q.pos&&(decide (r.dos.length=q.dos.length)&&eI dA.same r.dos q.dos))
def cq.same(x y:cq):Bool:=x.name.toList==y.name.toList&&(x.pos==y.pos&&(decide (x.rules.length=y.rules.length)&&eI cD.same x.rules y.rules))
def dh.same(r q:dh):Bool:=r.init.same q.init&&(r.name.toList==q.name.toList&&(r.cO==q.cO&&r.pos==q.pos))
def cx.same(r q:cx):Bool:=r.name.toList==q.name.toList&&(r.pos==q.pos&&true)
def cu.same(s u:cu):Bool:=s.name.toList==u.name.toList&&(decide (s.regs.length=u.regs.length)&&(decide (s.slots.length=u.slots.length)&&(decide (s.states.length=u.states.length) &&
 (eI dh.same s.regs u.regs&&(eI cx.same s.slots u.slots&&eI cq.same s.states u.states)))))
theorem dA.dQ(d:dA):d.same d=true:=by simp[dA.same,Px.dQ]
theorem cD.dQ(r:cD):r.same r=true:=by simp[cD.same,Px.dQ,jt fun d _=>dA.dQ d]
theorem cq.dQ(r:cq):r.same r=true:=by simp[cq.same,jt fun d _=>cD.dQ d]
theorem dh.dQ(r:dh):r.same r=true:=by simp[dh.same,Px.dQ]
theorem cx.dQ(r:cx):r.same r=true:=by simp[cx.same]
theorem cu.dQ(s:cu):s.same s=true:=by simp[cu.same,jt fun d _=>dh.dQ d,jt fun d _=>cx.dQ d,jt fun d _=>cq.dQ d]
theorem Au(d e:dy)(hs:d.p.cW)(I:cc)(F:b8)(hd:d.Ok I F)(he:e.Ok I F):cf P 113 #[d.v,e.v] I F (dS (.bool (d.p.same e.p)) F):=by
 refine kq.vc ?_
 unfold kq.V
 intro b_a b_b
 have hsh:=hs.2
 simp only[dA.oJ,List.mem_cons,List.not_mem_nil,or_false] at hsh
 have od:∀{J:cc},cc.le I J→d.Ok J ((ql b_a d)::(ql b_b e)::F):=fun hl=>(hd.mono hl fun _ h=>h).cons.cons
 have oe:∀{J:cc},cc.le I J→e.Ok J ((ql b_a d)::(ql b_b e)::F):=fun hl=>(he.mono hl fun _ h=>h).cons.cons
 refine cf.ret (ju d.side (hsh _ (.inl rfl)) e.side I _ (od (cc.le_refl I)).1 (oe (cc.le_refl I)).1) fun I1 l1=>⟨_,rfl,F,.refl _, ?_⟩
 refine cf.ret (ju d.qty (hsh _ (.inr (.inl rfl))) e.qty I1 _ (od l1).2.1 (oe l1).2.1) fun I2 h2=>⟨_,rfl,F,.refl _, ?_⟩
 have l2:=cc.le_trans l1 h2
 refine cf.ret (ju d.price (hsh _ (.inr (.inr (.inl rfl)))) e.price I2 _ (od l2).2.2.1 (oe l2).2.2.1) fun I3 h3=>⟨_,rfl,F,.refl _, ?_⟩
 have l3:=cc.le_trans l2 h3
 refine cf.ret (ju d.value (hsh _ (.inr (.inr (.inr rfl)))) e.value I3 _ (od l3).2.2.2 (oe l3).2.2.2) fun I4 h4=>⟨_,rfl,F,.refl _, ?_⟩
 have hdef:d.p.same e.p=(d.kind==e.kind&&(d.order==e.order&&(d.name.toList==e.name.toList&&(d.pos==e.pos&&(d.side.px.same e.side.px&&(d.qty.px.same e.qty.px&&(d.price.px.same e.price.px&&d.value.px.same e.value.px))))))):=rfl
 rw[hdef]
 refine⟨fun h1=>⟨fun h2=>⟨fun h3=>⟨fun h4=>⟨fun h5=>⟨fun h6=>⟨fun h7=>⟨?_,rfl⟩,fun h7=>⟨?_,rfl⟩⟩,fun h6=>⟨?_,rfl⟩⟩,fun h5=>⟨?_,rfl⟩⟩,fun h4=>⟨?_,rfl⟩⟩,fun h3=>⟨?_,rfl⟩⟩,fun h2=>⟨?_,rfl⟩⟩,fun h1=>⟨?_,rfl⟩⟩
 all_goals simp only[*,Bool.true_and,Bool.false_and,Bool.and_false]
theorem sr{m n:Nat}(h:(((m:Nat):Int)!=((n:Nat):Int))=true):decide (m=n)=false:=decide_eq_false fun e=>by rw[e] at h;simp at h
theorem mn{m n:Nat}(h:(((m:Nat):Int)!=((n:Nat):Int))=false):m=n:=by
 have:(m:Int)=n:=by simpa using h
 omega
theorem C3{α:Type}[BEq α][LawfulBEq α]{x y:α}(h:(x != y)=true):(x==y)=false:=by simpa using h
theorem C4{α:Type}[BEq α][LawfulBEq α]{x y:α}(h:(x != y)=false):(x==y)=true:=by simpa using h
theorem j4{b:Bool}(h:(!b)=true):b=false:=by simpa using h
theorem jM{b:Bool}(h:(!b)=false):b=true:=by simpa using h
theorem wg(x y:cg)(hs:x.p.cW)(I:cc)(F:b8)(hx:x.Ok I F)(hy:y.Ok I F):cf P 74 #[x.v,y.v] I F (dS (.bool (x.p.same y.p)) F):=by
 have hl:=hs.2.1
 have hru:∀r∈x.rules,r.p.cW:=fun r hr=>hs.2.2 _ (List.mem_map_of_mem hr)
 have hdl:∀r∈x.rules,r.dos.length≤140737488351232:=fun r hr=>by have:=(hru r hr).2.1;simpa only[cp.p,List.length_map] using this
 simp only[cg.p,List.length_map] at hl
 refine hM.vc
  (fun q i m I0 F0 I' F'=>F'=F∧0≤i∧i≤x.rules.length∧m=(x.rules.length-i).toNat∧x.rules.length=y.rules.length∧x.p.same y.p=eI cD.same ((x.rules.drop i.toNat).map cp.p) ((y.rules.drop i.toNat).map cp.p))
  (fun i q k m I0 F0 I' F'=>F'=F∧∃r s,x.rules[i.toNat]? = some r∧y.rules[i.toNat]? = some s∧0≤k∧k≤r.dos.length∧m=(r.dos.length-k).toNat ∧
    x.p.same y.p=(eI dA.same ((r.dos.drop k.toNat).map dy.p) ((s.dos.drop k.toNat).map dy.p)&&eI cD.same ((x.rules.drop (i+1).toNat).map cp.p) ((y.rules.drop (i+1).toNat).map cp.p))) ?_
 unfold hM.V
 intro b_a b_b
 have hdef:x.p.same y.p=(x.name.toList==y.name.toList&&(x.pos==y.pos&&(decide (x.rules.length=y.rules.length)&&eI cD.same (x.rules.map cp.p) (y.rules.map cp.p)))):=by
  show (x.name.toList==y.name.toList&&(x.pos==y.pos&&(decide ((x.rules.map cp.p).length=(y.rules.map cp.p).length)&&_)))=_
  rw[List.length_map,List.length_map];rfl
 have ok:∀{J:cc},cc.le I J→x.Ok J ((fU b_a x)::(fU b_b y)::F)∧y.Ok J ((fU b_a x)::(fU b_b y)::F):=fun hl=>⟨(hx.mono hl fun _ h=>h).cons.cons,(hy.mono hl fun _ h=>h).cons.cons⟩
 refine⟨fun h1=>⟨?_,rfl⟩,fun h1=>⟨fun h2=>⟨?_,rfl⟩,fun h2=>⟨fun h3=>⟨?_,rfl⟩,fun h3=>⟨⟨_,rfl,by omega,by omega,rfl,mn h3, ?_⟩,fun q i m I1 F1 l1 ⟨gF,g0,g1,gm,gl,ge⟩=>?_⟩⟩⟩⟩
 ·rw[hdef,j4 h1];rfl
 ·rw[hdef,C3 h2];simp
 ·rw[hdef,sr h3];simp
 ·rw[hdef,jM h1,C4 h2,decide_eq_true (mn h3)];rfl
 subst gF
 refine⟨fun hlt=>?_,fun hlt=>⟨?_,rfl⟩⟩
 ·have hlt:=of_decide_eq_true hlt
  obtain⟨ad,r,had,hr,hrd,hrm⟩:=dq.gj (ok l1).1.1 g0 hlt
  have hlt':i<(y.rules.length:Int):=by omega
  refine⟨⟨g0,hlt⟩,ad,had,_,_,_,_,_,_,_,_,_,_,_,_,_,_,hrd,fun b_x=>?_⟩
  obtain⟨ad',s,had',hs',hrd',hsm⟩:=dq.gj (((ok l1).2.1).mono (cc.le_refl I1) (H:=(fU b_a x)::(fU b_b y)::(kg b_x r)::F1) fun a ha=>by simp only[List.mem_cons] at ha ⊢;rcases ha with h | h | h<;>simp[h]) g0 hlt'
  refine⟨⟨g0,hlt'⟩,ad',had',_,_,_,_,_,_,_,_,_,_,_,_,_,_,hrd',fun b_y=>?_⟩
  have ok2:∀{J:cc},cc.le I1 J→r.Ok J ((fU b_a x)::(fU b_b y)::(kg b_x r)::(kg b_y s)::F1)∧s.Ok J ((fU b_a x)::(fU b_b y)::(kg b_x r)::(kg b_y s)::F1):=fun hl =>
   ⟨(hx.2 r hrm).mono (cc.le_trans l1 hl) fun a ha=>.tail _ (.tail _ (.tail _ (.tail _ ha))),(hy.2 s hsm).mono (cc.le_trans l1 hl) fun a ha=>.tail _ (.tail _ (.tail _ (.tail _ ha)))⟩
  have hst:eI cD.same ((x.rules.drop i.toNat).map cp.p) ((y.rules.drop i.toNat).map cp.p)=(r.p.same s.p&&eI cD.same ((x.rules.drop (i+1).toNat).map cp.p) ((y.rules.drop (i+1).toNat).map cp.p)):=by
   rw[ig hr hs',show (i+1).toNat=i.toNat+1 by omega]
  have hrs:r.p.same s.p=(r.when.px.same s.when.px&&(r.pos==s.pos&&(decide (r.dos.length=s.dos.length)&&eI dA.same (r.dos.map dy.p) (s.dos.map dy.p)))):=by
   show (r.when.px.same s.when.px&&(r.pos==s.pos&&(decide ((r.dos.map dy.p).length=(s.dos.map dy.p).length)&&_)))=_
   rw[List.length_map,List.length_map];rfl
  have hT:=ge.trans hst
  rw[hrs] at hT
  refine cf.ret (ju r.when (hru r hrm).1 s.when I1 _ (ok2 (cc.le_refl I1)).1.1 (ok2 (cc.le_refl I1)).2.1) fun I2 l2=>⟨_,rfl,F1,.refl _, ?_⟩
  refine⟨fun h1=>⟨?_,rfl⟩,fun h1=>⟨fun h2=>⟨?_,rfl⟩,fun h2=>⟨fun h3=>⟨?_,rfl⟩,fun h3=>⟨⟨_,rfl,r,s,hr,hs',by omega,by omega,rfl, ?_⟩,fun q1 k m3 I3 F3 l3 ⟨kF,r',s',hr',hs2,k0,k1,km,ke⟩=>?_⟩⟩⟩⟩
  ·rw[hT,j4 h1];rfl
  ·rw[hT,C3 h2];simp
  ·rw[hT,sr h3];simp
  ·rw[hT,jM h1,C4 h2,decide_eq_true (mn h3)];rfl
  subst kF
  obtain rfl:r=r':=by rw[hr] at hr';exact Option.some.inj hr'
  obtain rfl:s=s':=by rw[hs'] at hs2;exact Option.some.inj hs2
  have hel:=mn h3
  have hrl:=hdl r hrm
  refine⟨fun hlt2=>?_,fun hlt2=>⟨(x.rules.length-(i+1)).toNat,by omega,rfl, ?_⟩⟩
  ·have hlt2:=of_decide_eq_true hlt2
   have l23:=cc.le_trans l2 l3
   obtain⟨ad2,d,had2,hd,hrd2,hdm⟩:=dq.gj (ok2 l23).1.2.1 k0 hlt2
   obtain⟨ad3,e,had3,he,hrd3,hem⟩:=dq.gj (ok2 l23).2.2.1 k0 (show k<(s.dos.length:Int) by omega)
   refine⟨⟨k0,hlt2⟩,ad2,had2,_,_,_,_,_,_,_,_,_,_,_,_,_,_,_,_,_,_,_,_,_,_,_,_,_,_,_,_,_,_,_,_,_,_,_,_,_,_,_,_,_,_,_,_,hrd2,⟨k0,by omega⟩,ad3,had3,_,_,_,_,_,_,_,_,_,_,_,_,_,_,_,_,_,_,_,_,_,_,_,_,_,_,_,_,_,_,_,_,_,_,_,_,_,_,_,_,_,_,_,_,hrd3,d.p.same e.p,cf.ret (Au d e ((hru r hrm).2.2 _ (List.mem_map_of_mem hdm)) I3 _ ((ok2 l23).1.2.2 d hdm) ((ok2 l23).2.2.2 e hem)) fun _ _=>⟨rfl,.refl _⟩,fun h=>⟨?_,rfl⟩,fun h=>⟨(r.dos.length-(k+1)).toNat,by omega,rfl,r,s,hr,hs', ?_⟩⟩
   ·rw[ke,ig hd he,j4 h];rfl
   ·rw[cY (n:=k+1) (by omega)]
    refine⟨by omega,by omega,rfl, ?_⟩
    rw[ke,ig hd he,jM h,show (k+1).toNat=k.toNat+1 by omega];rfl
  ·have hlt2:=of_decide_eq_false hlt2
   rw[cY (n:=i+1) (by omega)]
   refine⟨by omega,by omega,rfl,gl, ?_⟩
   rw[ke,mO (by omega)];rfl
 ·have hlt:=of_decide_eq_false hlt
  rw[ge,mO (by omega)]
theorem B8:P.underlying 79=some (.struct (P.fieldsOf 79)):=by kernel_rfl
theorem B9:P.stoodInHeld 79=false:=by kernel_rfl
theorem Ca:P.eqGuardType P.depth 79=false:=by kernel_rfl
theorem Eb(a:ByteArray)(p:Int)(b:ByteArray)(q:Int):oR P #[.string a,.int .i64 p] #[.string b,.int .i64 q] (P.fieldsOf 79).toList=some (a.toList==b.toList&&(p==q&&true)):=by kernel_rfl
theorem Fq(r q:cx){x y:Operand}:cU P .neq 79 x y (.agg #[.string r.name,.int .i64 r.pos]) (.agg #[.string q.name,.int .i64 q.pos]) (!r.same q):=vC B8 B9 Ca (Eb ..)
theorem yG(s u:cw)(hs:s.p.cW)(I:cc)(F:b8)(hx:s.Ok I F)(hy:u.Ok I F):cf P 46 #[s.v,u.v] I F (dS (.bool (s.p.same u.p)) F):=by
 have lr:=hs.regs
 have ls:=hs.slots
 have lt:=hs.states
 simp only[cw.p,List.length_map] at lr ls lt
 have hnm:∀r∈s.regs,r.p.cW:=fun r hr=>hs.fG _ (List.mem_map_of_mem hr)
 have hst:∀x∈s.states,x.p.cW:=fun x hx=>hs.state _ (List.mem_map_of_mem hx)
 refine fo.vc
  (fun q i m I' F'=>F'=F∧0≤i∧i≤s.regs.length∧m=(s.regs.length-i).toNat∧cc.le I I'∧(s.regs.length=u.regs.length∧s.slots.length=u.slots.length∧s.states.length=u.states.length) ∧
    s.p.same u.p=(eI dh.same ((s.regs.drop i.toNat).map cH.p) ((u.regs.drop i.toNat).map cH.p)&&(eI cx.same s.slots u.slots&&eI cq.same (s.states.map cg.p) (u.states.map cg.p))))
  (fun q i m I' F'=>F'=F∧0≤i∧i≤s.slots.length∧m=(s.slots.length-i).toNat∧cc.le I I'∧(s.regs.length=u.regs.length∧s.slots.length=u.slots.length∧s.states.length=u.states.length) ∧
    s.p.same u.p=(eI cx.same ((s.slots.drop i.toNat).map id) ((u.slots.drop i.toNat).map id)&&eI cq.same (s.states.map cg.p) (u.states.map cg.p)))
  (fun q i m I' F'=>F'=F∧0≤i∧i≤s.states.length∧m=(s.states.length-i).toNat∧cc.le I I'∧(s.regs.length=u.regs.length∧s.slots.length=u.slots.length∧s.states.length=u.states.length) ∧
    s.p.same u.p=eI cq.same ((s.states.drop i.toNat).map cg.p) ((u.states.drop i.toNat).map cg.p)) ?_
 unfold fo.V
 intro b_a b_b
 have hdef:s.p.same u.p=(s.name.toList==u.name.toList&&(decide (s.regs.length=u.regs.length)&&(decide (s.slots.length=u.slots.length)&&(decide (s.states.length=u.states.length) &&
   (eI dh.same (s.regs.map cH.p) (u.regs.map cH.p)&&(eI cx.same s.slots u.slots&&eI cq.same (s.states.map cg.p) (u.states.map cg.p))))))):=by
  show (s.name.toList==u.name.toList&&(decide ((s.regs.map cH.p).length=(u.regs.map cH.p).length)&&(decide (s.slots.length=u.slots.length)&&(decide ((s.states.map cg.p).length=(u.states.map cg.p).length)&&_))))=_
  rw[List.length_map,List.length_map,List.length_map,List.length_map];rfl
 have ok:∀{J:cc},cc.le I J→s.Ok J ((c6 b_a s)::(c6 b_b u)::F)∧u.Ok J ((c6 b_a s)::(c6 b_b u)::F):=fun hl=>⟨(hx.mono hl fun _ h=>h).cons.cons,(hy.mono hl fun _ h=>h).cons.cons⟩
 refine⟨fun h1=>⟨?_,rfl⟩,fun h1=>⟨fun h2=>⟨?_,rfl⟩,fun h2=>⟨fun h3=>⟨?_,rfl⟩,fun h3=>⟨fun h4=>⟨?_,rfl⟩,fun h4=>⟨⟨_,rfl,by omega,by omega,rfl,cc.le_refl I,⟨mn h2,mn h3,mn h4⟩, ?_⟩,fun q i m I1 F1 _ ⟨gF,g0,g1,gm,l1,gl,ge⟩=>?_⟩⟩⟩⟩⟩
 ·rw[hdef,j4 h1];rfl
 ·rw[hdef,sr h2];simp
 ·rw[hdef,sr h3];simp
 ·rw[hdef,sr h4];simp
 ·rw[hdef,jM h1,decide_eq_true (mn h2),decide_eq_true (mn h3),decide_eq_true (mn h4)];rfl
 subst gF
 obtain⟨gl1,gl2,gl3⟩:=gl
 refine⟨fun hlt=>?_,fun hlt=>⟨⟨_,rfl,by omega,by omega,rfl,l1,⟨gl1,gl2,gl3⟩, ?_⟩,fun q i m I3 F3 _ ⟨gF,g0,g1,gm,l3,gl,ge⟩=>?_⟩⟩
 ·have hlt:=of_decide_eq_true hlt
  obtain⟨ad,r,had,hr,hrd,hrm⟩:=dq.gj (ok l1).1.regs g0 hlt
  have hlt':i<(u.regs.length:Int):=by omega
  refine⟨⟨g0,hlt⟩,ad,had,_,_,_,_,_,_,_,_,_,_,_,_,_,hrd,fun b_x=>?_⟩
  obtain⟨ad',q',had',hq,hrd',hqm⟩:=dq.gj (((ok l1).2.regs).mono (cc.le_refl I1) (H:=(c6 b_a s)::(c6 b_b u)::(HN b_x r)::F1) fun a ha=>by simp only[List.mem_cons] at ha ⊢;rcases ha with h | h | h<;>simp[h]) g0 hlt'
  refine⟨⟨g0,hlt'⟩,ad',had',_,_,_,_,_,_,_,_,_,_,_,_,_,hrd',fun b_y=>?_⟩
  have sub4:∀a,a∈F1→a∈((c6 b_a s)::(c6 b_b u)::(HN b_x r)::(HN b_y q')::F1):=fun a ha=>.tail _ (.tail _ (.tail _ (.tail _ ha)))
  have hT:=ge
  rw[ig hr hq] at hT
  have hrs:r.p.same q'.p=(r.init.px.same q'.init.px&&(r.name.toList==q'.name.toList&&(r.cO==q'.cO&&r.pos==q'.pos))):=rfl
  rw[hrs] at hT
  refine cf.ret (ju r.init (hnm r hrm).2 q'.init I1 _ ((hx.fG r hrm).mono l1 sub4) ((hy.fG q' hqm).mono l1 sub4)) fun I2 l2=>⟨_,rfl,F1,.refl _, ?_⟩
  refine⟨fun h1=>⟨?_,rfl⟩,fun h1=>⟨fun h2=>⟨?_,rfl⟩,fun h2=>⟨fun h3=>⟨?_,rfl⟩,fun h3=>⟨fun h4=>⟨?_,rfl⟩,fun h4=>⟨(s.regs.length-(i+1)).toNat,by omega,rfl, ?_⟩⟩⟩⟩⟩
  ·rw[hT,j4 h1];rfl
  ·rw[hT,j4 h2];simp
  ·rw[hT,C3 h3];simp
  ·rw[hT,C3 h4];simp
  ·rw[cY (n:=i+1) (by omega)]
   refine⟨by omega,by omega,rfl,cc.le_trans l1 l2,⟨gl1,gl2,gl3⟩, ?_⟩
   rw[hT,jM h1,jM h2,C4 h3,C4 h4,show (i+1).toNat=i.toNat+1 by omega];rfl
 ·have hlt:=of_decide_eq_false hlt
  rw[ge,mO (by omega)]
  simp only[Bool.true_and]
  show _=(eI cx.same (s.slots.map id) (u.slots.map id)&&_)
  rw[List.map_id,List.map_id]
 subst gF
 obtain⟨gl1,gl2,gl3⟩:=gl
 refine⟨fun hlt=>?_,fun hlt=>⟨⟨_,rfl,by omega,by omega,rfl,l3,⟨gl1,gl2,gl3⟩, ?_⟩,fun q i m I4 F4 _ ⟨gF,g0,g1,gm,l4,gl,ge⟩=>?_⟩⟩
 ·have hlt:=of_decide_eq_true hlt
  obtain⟨ad,r,had,hr,hrd,hrm⟩:=dq.gj (ok l3).1.slots g0 hlt
  have hlt':i<(u.slots.length:Int):=by omega
  obtain⟨ad',q',had',hq,hrd',hqm⟩:=dq.gj (ok l3).2.slots g0 hlt'
  have hT:=ge
  rw[ig hr hq] at hT
  refine⟨⟨g0,hlt⟩,ad,had,_,_,hrd,⟨g0,hlt'⟩,ad',had',_,_,hrd',_,Fq r q',fun h=>⟨?_,rfl⟩,fun h=>⟨(s.slots.length-(i+1)).toNat,by omega,rfl, ?_⟩⟩
  ·rw[hT]
   show Ending.returned (.bool false)=.returned (.bool ((r.same q'&&_)&&_))
   rw[j4 h];rfl
  ·rw[cY (n:=i+1) (by omega)]
   refine⟨by omega,by omega,rfl,l3,⟨gl1,gl2,gl3⟩, ?_⟩
   rw[hT,show (i+1).toNat=i.toNat+1 by omega]
   show ((r.same q'&&_)&&_)=_
   rw[jM h];rfl
 ·have hlt:=of_decide_eq_false hlt
  rw[ge,mO (by omega)];rfl
 subst gF
 obtain⟨gl1,gl2,gl3⟩:=gl
 refine⟨fun hlt=>?_,fun hlt=>⟨?_,rfl⟩⟩
 ·have hlt:=of_decide_eq_true hlt
  obtain⟨ad,x,had,hx',hrd,hxm⟩:=dq.gj (ok l4).1.states g0 hlt
  have hlt':i<(u.states.length:Int):=by omega
  obtain⟨ad',y,had',hy',hrd',hym⟩:=dq.gj (ok l4).2.states g0 hlt'
  refine⟨⟨g0,hlt⟩,ad,had,_,_,_,_,_,hrd,⟨g0,hlt'⟩,ad',had',_,_,_,_,_,hrd',x.p.same y.p,cf.ret (wg x y (hst x hxm) I4 _ ((ok l4).1.state x hxm) ((ok l4).2.state y hym)) fun _ _=>⟨rfl,.refl _⟩,fun h=>⟨?_,rfl⟩,fun h=>⟨(s.states.length-(i+1)).toNat,by omega,rfl, ?_⟩⟩
  ·rw[ge,ig hx' hy',j4 h];rfl
  ·rw[cY (n:=i+1) (by omega)]
   refine⟨by omega,by omega,rfl,l4,⟨gl1,gl2,gl3⟩, ?_⟩
   rw[ge,ig hx' hy',jM h,show (i+1).toNat=i.toNat+1 by omega];rfl
 ·have hlt:=of_decide_eq_false hlt
  rw[ge,mO (by omega)]
def Jf(z n:Nat)(a:Option Addr)(c:Nat)(A:b8):Prop :=
 ∃b cells e,a=some ⟨b,0,none⟩∧A=[(b,Obj.cells cells e (0,0))]∧c=n+2∧cells[n*z+(z-1)]? = some (.int .i64 (-771))
def oL{α:Type}(R:Bool)(z:Nat)(f:α→List Value)(E:Nat)(O:α→b8→Prop)(a:Option Addr)(n c:Nat)(l:List α)(H:b8):Prop :=
 ∃A hs,H=A++ir n hs∧Acc z f E a n c l A∧(R=true→Jf z n a c A)∧∀(i:Nat) (k:α),l[i]? = some k→O k (hs i)
def Av(R:Bool)(d:dy)(H:b8):Prop:=∃H1 H2 H3 H4,H=H1++(H2++(H3++H4))∧oI 28 R d.side H1∧oI 28 R d.qty H2∧oI 28 R d.price H3∧oI 28 R d.value H4
def rp(R:Bool)(r:cH)(H:b8):Prop:=oI 28 R r.init H
def yH(r:cx)(H:b8):Prop:=H=[]
def pY(R:Bool)(r:cp)(H:b8):Prop:=∃H1 H2,H=H1++H2∧oI 28 R r.when H1∧oL R 36 dy.enc 99 (Av R) r.a r.dos.length r.c r.dos H2
def mP(R:Bool)(x:cg)(H:b8):Prop:=oL R 10 cp.enc 84 (pY R) x.a x.rules.length x.c x.rules H
def yI(R:Bool)(s:cw)(H:b8):Prop:=∃H1 H2 H3,H=H1++(H2++H3)∧oL R 11 cH.enc 77 (rp R) s.ra s.regs.length s.rc s.regs H1∧oL R 2 cx.enc 79 yH s.sa s.slots.length s.sc s.slots H2 ∧
 oL R 3 cg.enc 65 (mP R) s.ta s.states.length s.tc s.states H3
theorem oL.ok{α:Type}{R:Bool}{z E n c:Nat}{f:α→List Value}{O:α→b8→Prop}{a:Option Addr}{l:List α}{H:b8}(h:oL R z f E O a n c l H)(hz:∀x,(f x).length=z){I:cc}{G:b8}{K:α→Prop}(hG:∀x,x∈H→x∈G)
  (hk:∀x H',O x H'→(∀y,y∈H'→y∈G)→K x):dq I G z f a n l∧∀x∈l,K x:=by
 obtain⟨A,hs,rfl,hA, -,hO⟩:=h
 refine⟨hA.yr hz I fun x hx=>hG x (List.mem_append_left _ hx),fun x hx=>?_⟩
 obtain⟨i,hi,rfl⟩:=List.mem_iff_getElem.1 hx
 have hn:=hA.1
 exact hk _ _ (hO i _ (List.getElem?_eq_getElem hi)) fun y hy=>hG y (List.mem_append_right _ (pH (by omega) hy))
theorem Av.ok{R:Bool}{d:dy}{H:b8}(h:Av R d H){I:cc}{G:b8}(hG:∀x,x∈H→x∈G):d.Ok I G:=by
 obtain⟨H1,H2,H3,H4,rfl,h1,h2,h3,h4⟩:=h
 simp only[List.mem_append] at hG
 exact⟨h1.ok fun x hx=>hG x (.inl hx),h2.ok fun x hx=>hG x (.inr (.inl hx)),h3.ok fun x hx=>hG x (.inr (.inr (.inl hx))),h4.ok fun x hx=>hG x (.inr (.inr (.inr hx)))⟩
theorem rp.ok{R:Bool}{d:cH}{H:b8}(h:rp R d H){I:cc}{G:b8}(hG:∀x,x∈H→x∈G):d.Ok I G:=oI.ok h hG
theorem pY.ok{R:Bool}{r:cp}{H:b8}(h:pY R r H){I:cc}{G:b8}(hG:∀x,x∈H→x∈G):r.Ok I G:=by
 obtain⟨H1,H2,rfl,h1,h2⟩:=h
 obtain⟨g1,g2⟩:=h2.ok (I:=I) (G:=G) (K:=fun d=>d.Ok I G) (fun _=>rfl) (fun x hx=>hG x (List.mem_append_right _ hx)) fun x H' hO hs=>Av.ok hO hs
 exact⟨h1.ok fun x hx=>hG x (List.mem_append_left _ hx),g1,g2⟩
theorem mP.ok{R:Bool}{r:cg}{H:b8}(h:mP R r H){I:cc}{G:b8}(hG:∀x,x∈H→x∈G):r.Ok I G :=
 oL.ok h (fun _=>rfl) hG fun x H' hO hs=>pY.ok hO hs
theorem yI.ok{R:Bool}{s:cw}{H:b8}(h:yI R s H){I:cc}{G:b8}(hG:∀x,x∈H→x∈G):s.Ok I G:=by
 obtain⟨H1,H2,H3,rfl,h1,h2,h3⟩:=h
 simp only[List.mem_append] at hG
 obtain⟨a1,a2⟩:=h1.ok (I:=I) (G:=G) (K:=fun d=>d.Ok I G) (fun _=>rfl) (fun x hx=>hG x (.inl hx)) fun x H' hO hs=>rp.ok hO hs
 obtain⟨b1, -⟩:=h2.ok (I:=I) (G:=G) (K:=fun d=>True) (fun _=>rfl) (fun x hx=>hG x (.inr (.inl hx))) fun x H' hO hs=>trivial
 obtain⟨c1,c2⟩:=h3.ok (I:=I) (G:=G) (K:=fun d=>d.Ok I G) (fun _=>rfl) (fun x hx=>hG x (.inr (.inr hx))) fun x H' hO hs=>mP.ok hO hs
 exact⟨a1,a2,b1,c1,c2⟩
def Part{α:Type}(z:Nat)(f:α→List Value)(E:Nat)(O:α→b8→Prop)(a:Option Addr)(n c:Nat)(l:List α)(F F':b8):Prop :=
 ∃A hs,Acc z f E a n c l A∧(∀(i:Nat) (k:α),l[i]? = some k→O k (hs i))∧F'.Perm (A++(ir l.length hs++F))
end Go.Lx
namespace Go.Lx
open Go.Vc Go.Proofs.Tryz
def Cb:List (Nat×List Sh):=[(3,[.one (.int .i64)]),(4,[.one .bool]),(28,[.agg [(.int .u8),(.int .u8),(.int .u8),(.int .i64),(.int .u8),.str,.slc,(.int .i64)]]),(35,[.one .slc]),(36,[.one .slc]),(37,[.one .slc]),(63,[.one .slc]),(65,[.agg [.str,.slc,(.int .i64)]]),(77,[.agg [.str,(.int .u8),(.int .u8),(.int .u8),(.int .u8),(.int .i64),(.int .u8),.str,.slc,(.int .i64),(.int .i64)]]),(79,[.agg [.str,(.int .i64)]]),(82,[.one .slc]),(84,[.agg [(.int .u8),(.int .u8),(.int .u8),(.int .i64),(.int .u8),.str,.slc,(.int .i64),.slc,(.int .i64)]]),(99,[.agg [(.int .u8),(.int .u8),.str,(.int .u8),(.int .u8),(.int .u8),(.int .i64),(.int .u8),.str,.slc,(.int .i64),(.int .u8),(.int .u8),(.int .u8),(.int .i64),(.int .u8),.str,.slc,(.int .i64),(.int .u8),(.int .u8),(.int .u8),(.int .i64),(.int .u8),.str,.slc,(.int .i64),(.int .u8),(.int .u8),(.int .u8),(.int .i64),(.int .u8),.str,.slc,(.int .i64),(.int .i64)]])]
def fp.V(ka:Nat→Bs→OA→Nat→Nat→OA→Nat→Nat→OA→Nat→Nat→Nat×Obj)(l w:Nat→Nat×Obj)(nV:Int→Int→Int→Int→Int→Bs→OA→Nat→Nat→Int→Value)(nL:Int→Int→Int→Int→Int→Bs→OA→Nat→Nat→Int→List Value)(vb vi:Int→Value)(vs:Bs→Value)(vl:OA→Nat→Nat→Value)(wr:Int→Int)(r:Bs)(ai:OA)(a bh:Nat)(aZ:OA)(c bi:Nat)(a0:OA)(h bj:Nat)(I:cc)(F:b8)(Q:cd)(Inv10:OA→OA→OA→Nat→Nat→Int→Nat→cc→b8→cc→b8→Prop)(Inv33:OA→OA→OA→Nat→Nat→Int→OA→Nat→Nat→Int→Nat→cc→b8→cc→b8→Prop)(Inv54:OA→OA→OA→Nat→Nat→Int→OA→Nat→Nat→Int→OA→Nat→Nat→Int→Nat→cc→b8→cc→b8→Prop):Prop:=∀j:Nat,∀b:Nat,∀k:Nat,cF P (Instr.makeSlice 35 (vi (wr ((a:Int)+2))) (vi (wr ((a:Int)+2)))) I ((l j)::(ka b (⟨#[]⟩:Bs) none 0 0 none 0 0 none 0 0)::(w k)::F) fun v I1 G1=>∃(d:OA) (n e:Nat),v=vl d n e∧∃F1:b8,List.Perm G1 ((l j)::(ka b (⟨#[]⟩:Bs) none 0 0 none 0 0 none 0 0)::(w k)::F1)∧(∃m:Nat,Inv10 (some ⟨j,0,none⟩) (some ⟨k,0,none⟩) d n e 0 m I1 F1 I1 F1)∧∀(i:Int) (m1:Nat) (I2:cc) (F2:b8),cc.le I1 I2→Inv10 (some ⟨j,0,none⟩) (some ⟨k,0,none⟩) d n e i m1 I1 F1 I2 F2→(Dt (i<(a:Int)) ((0≤i∧i<(a:Int))∧∃ad:Addr,ai=some ad∧∃(ax:Bs) (ay az aA aB aC aD:Int) (aE:Bs) (ae:OA) (af ag:Nat) (aF ah:Int),Rd I2 ((l j)::(ka b (⟨#[]⟩:Bs) none 0 0 none 0 0 none 0 0)::(w k)::F2) (ad.add (Int.toNat i*11)) [vs ax,vb ay,vb az,vb aA,vb aB,vi aC,vb aD,vs aE,vl ae af ag,vi aF,vi ah]∧((0≤i∧i<(n:Int))∧∃u:Addr,d=some u∧∃(cs:List Value) (el:Nat) (F3:b8),List.Perm F2 (((u.add (Int.toNat i*11)).block,Obj.cells cs.toArray el (0,0))::F3)∧(u.add (Int.toNat i*11)).spot=none∧(u.add (Int.toNat i*11)).off+11≤cs.length∧((0≤i∧i<(a:Int))∧∃be:Addr,ai=some be∧∃(aG aH aI aJ aK:Int) (aL:Bs) (aj:OA) (ak al:Nat) (aM:Int),Rd I2 ((l j)::(ka b (⟨#[]⟩:Bs) none 0 0 none 0 0 none 0 0)::(w k)::(((u.add (Int.toNat i*11)).block,Obj.cells (cj (u.add (Int.toNat i*11)).off [vs ax,vb ay,vb az,vb aA,vb aB,vi aC,vb aD,vs aE,vl ae af ag,vi aF,vi ah] cs).toArray el (0,0))::F3)) ((be.add (Int.toNat i*11)).add 2) (nL aG aH aI aJ aK aL aj ak al aM)∧cf P 11 #[nV aG aH aI aJ aK aL aj ak al aM] I2 ((l j)::(ka b (⟨#[]⟩:Bs) none 0 0 none 0 0 none 0 0)::(w k)::(((u.add (Int.toNat i*11)).block,Obj.cells (cj (u.add (Int.toNat i*11)).off [vs ax,vb ay,vb az,vb aA,vb aB,vi aC,vb aD,vs aE,vl ae af ag,vi aF,vi ah] cs).toArray el (0,0))::F3)) fun e1 I3 G2=>∃(a1 a2 a3 a4 a5:Int) (a6:Bs) (am:OA) (an ao:Nat) (a7:Int),e1=.returned (nV a1 a2 a3 a4 a5 a6 am an ao a7)∧∃F4:b8,List.Perm G2 ((l j)::(ka b (⟨#[]⟩:Bs) none 0 0 none 0 0 none 0 0)::(w k)::F4)∧((0≤i∧i<(n:Int))∧∃y:Addr,d=some y∧∃(aN:List Value) (a8:Nat) (F5:b8),List.Perm F4 ((((y.add (Int.toNat i*11)).add 2).block,Obj.cells aN.toArray a8 (0,0))::F5)∧((y.add (Int.toNat i*11)).add 2).spot=none∧((y.add (Int.toNat i*11)).add 2).off+8≤aN.length∧(∃m2:Nat,m2<m1∧Inv10 (some ⟨j,0,none⟩) (some ⟨k,0,none⟩) d n e (wr (i+1)) m2 I1 F1 I3 ((((y.add (Int.toNat i*11)).add 2).block,Obj.cells (cj ((y.add (Int.toNat i*11)).add 2).off (nL a1 a2 a3 a4 a5 a6 am an ao a7) aN).toArray a8 (0,0))::F5)))))) ((0≤(a:Int)∧(a:Int)<(n:Int))∧∃z:Addr,d=some z∧∃(aO:List Value) (a9:Nat) (F6:b8),List.Perm F2 ((((z.add (Int.toNat ((a:Int))*11)).add 10).block,Obj.cells aO.toArray a9 (0,0))::F6)∧((z.add (Int.toNat ((a:Int))*11)).add 10).spot=none∧((z.add (Int.toNat ((a:Int))*11)).add 10).off+1≤aO.length∧((0≤(0:Int)∧(0:Int)≤(a:Int)∧(a:Int)≤(e:Int))∧cF P (Instr.makeSlice 36 (vi (wr ((c:Int)+2))) (vi (wr ((c:Int)+2)))) I2 ((l j)::(ka b (⟨#[]⟩:Bs) none 0 0 none 0 0 none 0 0)::(ka k r (if e=Int.toNat ((0:Int)) then d else Option.map (fun x=>x.add (Int.toNat ((0:Int))*11)) d) (Int.toNat ((a:Int))-Int.toNat ((0:Int))) (e-Int.toNat ((0:Int))) none 0 0 none 0 0)::((((z.add (Int.toNat ((a:Int))*11)).add 10).block,Obj.cells (cj ((z.add (Int.toNat ((a:Int))*11)).add 10).off [vi (-771)] aO).toArray a9 (0,0))::F6)) fun v1 I4 G3=>∃(f:OA) (o g:Nat),v1=vl f o g∧∃F7:b8,List.Perm G3 ((l j)::(ka b (⟨#[]⟩:Bs) none 0 0 none 0 0 none 0 0)::(ka k r (if e=Int.toNat ((0:Int)) then d else Option.map (fun x=>x.add (Int.toNat ((0:Int))*11)) d) (Int.toNat ((a:Int))-Int.toNat ((0:Int))) (e-Int.toNat ((0:Int))) none 0 0 none 0 0)::F7)∧(∃m3:Nat,Inv33 (some ⟨j,0,none⟩) (some ⟨k,0,none⟩) d n e i f o g 0 m3 I4 F7 I4 F7)∧∀(i1:Int) (m4:Nat) (I5:cc) (F8:b8),cc.le I4 I5→Inv33 (some ⟨j,0,none⟩) (some ⟨k,0,none⟩) d n e i f o g i1 m4 I4 F7 I5 F8→(Dt (i1<(c:Int)) ((0≤i1∧i1<(c:Int))∧∃bf:Addr,aZ=some bf∧∃(aP:Bs) (aQ:Int),Rd I5 ((l j)::(ka b (⟨#[]⟩:Bs) none 0 0 none 0 0 none 0 0)::(ka k r (if e=Int.toNat ((0:Int)) then d else Option.map (fun x=>x.add (Int.toNat ((0:Int))*11)) d) (Int.toNat ((a:Int))-Int.toNat ((0:Int))) (e-Int.toNat ((0:Int))) none 0 0 none 0 0)::F8) (bf.add (Int.toNat i1*2)) [vs aP,vi aQ]∧((0≤i1∧i1<(o:Int))∧∃aa:Addr,f=some aa∧∃(aR:List Value) (ba:Nat) (F9:b8),List.Perm F8 (((aa.add (Int.toNat i1*2)).block,Obj.cells aR.toArray ba (0,0))::F9)∧(aa.add (Int.toNat i1*2)).spot=none∧(aa.add (Int.toNat i1*2)).off+2≤aR.length∧(∃m5:Nat,m5<m4∧Inv33 (some ⟨j,0,none⟩) (some ⟨k,0,none⟩) d n e i f o g (wr (i1+1)) m5 I4 F7 I5 (((aa.add (Int.toNat i1*2)).block,Obj.cells (cj (aa.add (Int.toNat i1*2)).off [vs aP,vi aQ] aR).toArray ba (0,0))::F9)))) ((0≤(c:Int)∧(c:Int)<(o:Int))∧∃ab:Addr,f=some ab∧∃(aS:List Value) (bb:Nat) (F10:b8),List.Perm F8 ((((ab.add (Int.toNat ((c:Int))*2)).add 1).block,Obj.cells aS.toArray bb (0,0))::F10)∧((ab.add (Int.toNat ((c:Int))*2)).add 1).spot=none∧((ab.add (Int.toNat ((c:Int))*2)).add 1).off+1≤aS.length∧((0≤(0:Int)∧(0:Int)≤(c:Int)∧(c:Int)≤(g:Int))∧cF P (Instr.makeSlice 37 (vi (wr ((h:Int)+2))) (vi (wr ((h:Int)+2)))) I5 ((l j)::(ka b (⟨#[]⟩:Bs) none 0 0 none 0 0 none 0 0)::(ka k r (if e=Int.toNat ((0:Int)) then d else Option.map (fun x=>x.add (Int.toNat ((0:Int))*11)) d) (Int.toNat ((a:Int))-Int.toNat ((0:Int))) (e-Int.toNat ((0:Int))) (if g=Int.toNat ((0:Int)) then f else Option.map (fun x=>x.add (Int.toNat ((0:Int))*2)) f) (Int.toNat ((c:Int))-Int.toNat ((0:Int))) (g-Int.toNat ((0:Int))) none 0 0)::((((ab.add (Int.toNat ((c:Int))*2)).add 1).block,Obj.cells (cj ((ab.add (Int.toNat ((c:Int))*2)).add 1).off [vi (-771)] aS).toArray bb (0,0))::F10)) fun v2 I6 G4=>∃(p:OA) (s q:Nat),v2=vl p s q∧∃F11:b8,List.Perm G4 ((l j)::(ka b (⟨#[]⟩:Bs) none 0 0 none 0 0 none 0 0)::(ka k r (if e=Int.toNat ((0:Int)) then d else Option.map (fun x=>x.add (Int.toNat ((0:Int))*11)) d) (Int.toNat ((a:Int))-Int.toNat ((0:Int))) (e-Int.toNat ((0:Int))) (if g=Int.toNat ((0:Int)) then f else Option.map (fun x=>x.add (Int.toNat ((0:Int))*2)) f) (Int.toNat ((c:Int))-Int.toNat ((0:Int))) (g-Int.toNat ((0:Int))) none 0 0)::F11)∧(∃m6:Nat,Inv54 (some ⟨j,0,none⟩) (some ⟨k,0,none⟩) d n e i f o g i1 p s q 0 m6 I6 F11 I6 F11)∧∀(i2:Int) (m7:Nat) (I7:cc) (F12:b8),cc.le I6 I7→Inv54 (some ⟨j,0,none⟩) (some ⟨k,0,none⟩) d n e i f o g i1 p s q i2 m7 I6 F11 I7 F12→(Dt (i2<(h:Int)) ((0≤i2∧i2<(h:Int))∧∃bg:Addr,a0=some bg∧∃(aT:Bs) (ap:OA) (aq ar:Nat) (aU:Int),Rd I7 ((l j)::(ka b (⟨#[]⟩:Bs) none 0 0 none 0 0 none 0 0)::(ka k r (if e=Int.toNat ((0:Int)) then d else Option.map (fun x=>x.add (Int.toNat ((0:Int))*11)) d) (Int.toNat ((a:Int))-Int.toNat ((0:Int))) (e-Int.toNat ((0:Int))) (if g=Int.toNat ((0:Int)) then f else Option.map (fun x=>x.add (Int.toNat ((0:Int))*2)) f) (Int.toNat ((c:Int))-Int.toNat ((0:Int))) (g-Int.toNat ((0:Int))) none 0 0)::F12) (bg.add (Int.toNat i2*3)) [vs aT,vl ap aq ar,vi aU]∧dg P 38 #[.agg #[vs aT,vl ap aq ar,vi aU]] I7 ((l j)::(ka b (⟨#[]⟩:Bs) none 0 0 none 0 0 none 0 0)::(ka k r (if e=Int.toNat ((0:Int)) then d else Option.map (fun x=>x.add (Int.toNat ((0:Int))*11)) d) (Int.toNat ((a:Int))-Int.toNat ((0:Int))) (e-Int.toNat ((0:Int))) (if g=Int.toNat ((0:Int)) then f else Option.map (fun x=>x.add (Int.toNat ((0:Int))*2)) f) (Int.toNat ((c:Int))-Int.toNat ((0:Int))) (g-Int.toNat ((0:Int))) none 0 0)::·) F12 fun e2 I8 G5=>∃(aV:Bs) (au:OA) (av aw:Nat) (aW:Int),e2=.returned (.agg #[vs aV,vl au av aw,vi aW])∧G5 fun F13=>((0≤i2∧i2<(s:Int))∧∃ac:Addr,p=some ac∧∃(aX:List Value) (bc:Nat) (F14:b8),List.Perm F13 (((ac.add (Int.toNat i2*3)).block,Obj.cells aX.toArray bc (0,0))::F14)∧(ac.add (Int.toNat i2*3)).spot=none∧(ac.add (Int.toNat i2*3)).off+3≤aX.length∧(∃m8:Nat,m8<m7∧Inv54 (some ⟨j,0,none⟩) (some ⟨k,0,none⟩) d n e i f o g i1 p s q (wr (i2+1)) m8 I6 F11 I8 (((ac.add (Int.toNat i2*3)).block,Obj.cells (cj (ac.add (Int.toNat i2*3)).off [vs aV,vl au av aw,vi aW] aX).toArray bc (0,0))::F14)))) ((0≤(h:Int)∧(h:Int)<(s:Int))∧∃t:Addr,p=some t∧∃(aY:List Value) (bd:Nat) (F15:b8),List.Perm F12 ((((t.add (Int.toNat ((h:Int))*3)).add 2).block,Obj.cells aY.toArray bd (0,0))::F15)∧((t.add (Int.toNat ((h:Int))*3)).add 2).spot=none∧((t.add (Int.toNat ((h:Int))*3)).add 2).off+1≤aY.length∧((0≤(0:Int)∧(0:Int)≤(h:Int)∧(h:Int)≤(q:Int))∧Q (.returned (.agg #[vs r,vl (if e=Int.toNat ((0:Int)) then d else Option.map (fun x=>x.add (Int.toNat ((0:Int))*11)) d) (Int.toNat ((a:Int))-Int.toNat ((0:Int))) (e-Int.toNat ((0:Int))),vl (if g=Int.toNat ((0:Int)) then f else Option.map (fun x=>x.add (Int.toNat ((0:Int))*2)) f) (Int.toNat ((c:Int))-Int.toNat ((0:Int))) (g-Int.toNat ((0:Int))),vl (if q=Int.toNat ((0:Int)) then p else Option.map (fun x=>x.add (Int.toNat ((0:Int))*3)) p) (Int.toNat ((h:Int))-Int.toNat ((0:Int))) (q-Int.toNat ((0:Int)))])) I7 (((((t.add (Int.toNat ((h:Int))*3)).add 2).block,Obj.cells (cj ((t.add (Int.toNat ((h:Int))*3)).add 2).off [vi (-771)] aY).toArray bd (0,0))::F15)))))))))))
theorem fp.vc{ab:Bs}{p:OA}{r u:Nat}{v:OA}{w x:Nat}{y:OA}{z aa:Nat}{I:cc}{F:b8}{Q:cd}(Inv10:OA→OA→OA→Nat→Nat→Int→Nat→cc→b8→cc→b8→Prop)(Inv33:OA→OA→OA→Nat→Nat→Int→OA→Nat→Nat→Int→Nat→cc→b8→cc→b8→Prop)(Inv54:OA→OA→OA→Nat→Nat→Int→OA→Nat→Nat→Int→OA→Nat→Nat→Int→Nat→cc→b8→cc→b8→Prop)(h:fp.V (fun W a b c d e f g h i j=>(W,Obj.cells #[.string a,.slice b c d,.slice e f g,.slice h i j] 39 (0,0))) (fun b=>(b,Obj.cells #[.string ab,.slice p r u,.slice v w x,.slice y z aa] 39 (0,0))) (fun b=>(b,Obj.cells #[.string ab,.slice none 0 0,.slice none 0 0,.slice none 0 0] 39 (0,0))) (fun k o t n f s a l c q=>.agg #[.int .u8 k,.int .u8 o,.int .u8 t,.int .i64 n,.int .u8 f,.string s,.slice a l c,.int .i64 q]) (fun k o t n f s a l c q=>[.int .u8 k,.int .u8 o,.int .u8 t,.int .i64 n,.int .u8 f,.string s,.slice a l c,.int .i64 q]) (.int .u8) (.int .i64) .string .slice (IntKind.wrap .i64) ab p r u v w x y z aa I F Q Inv10 Inv33 Inv54):cf P 18 #[.agg #[.string ab,.slice p r u,.slice v w x,.slice y z aa]] I F Q :=
 tw (A:=(cK [4004,12004,19004] [] [11,38] Cb [(10,⟨[(5,(.int .i64))],[],fun fs I0 F0 vs m I F=>match fs,vs with | [.pointer y0,.pointer y1,.slice y2 y3 y4],[.int _ y5]=>Inv10 y0 y1 y2 y3 y4 y5 m I0 F0 I F | _,_=>False,[1,3,4],[]⟩),(33,⟨[(7,(.int .i64))],[],fun fs I0 F0 vs m I F=>match fs,vs with | [.pointer y0,.pointer y1,.slice y2 y3 y4,.int _ y5,.slice y6 y7 y8],[.int _ y9]=>Inv33 y0 y1 y2 y3 y4 y5 y6 y7 y8 y9 m I0 F0 I F | _,_=>False,[1,3,4,5,6],[]⟩),(54,⟨[(9,(.int .i64))],[],fun fs I0 F0 vs m I F=>match fs,vs with | [.pointer y0,.pointer y1,.slice y2 y3 y4,.int _ y5,.slice y6 y7 y8,.int _ y9,.slice y10 y11 y12],[.int _ y13]=>Inv54 y0 y1 y2 y3 y4 y5 y6 y7 y8 y9 y10 y11 y12 y13 m I0 F0 I F | _,_=>False,[1,3,4,5,6,7,8],[]⟩)] [] [] [] [] [] [])) [11,38] func18 h
def hU.V(ka:Nat→Int→Int→Int→Int→Int→Bs→OA→Nat→Nat→Int→OA→Nat→Nat→Int→Nat×Obj)(kb:Nat→Int→Int→Bs→Int→Int→Int→Int→Int→Bs→OA→Nat→Nat→Int→Int→Int→Int→Int→Int→Bs→OA→Nat→Nat→Int→Int→Int→Int→Int→Int→Bs→OA→Nat→Nat→Int→Int→Int→Int→Int→Int→Bs→OA→Nat→Nat→Int→Int→Nat×Obj)(kc:Nat→Bs→OA→Nat→Nat→Int→Nat×Obj)(t:Nat→Nat×Obj)(nV:Int→Int→Int→Int→Int→Bs→OA→Nat→Nat→Int→Value)(vb vi:Int→Value)(vs:Bs→Value)(vl:OA→Nat→Nat→Value)(wr:Int→Int)(b1:Bs)(bW:OA)(c b3:Nat)(b2:Int)(I:cc)(F:b8)(Q:cd)(Inv8:OA→OA→Nat→Nat→Int→Nat→cc→b8→cc→b8→Prop)(Inv25:OA→OA→Nat→Nat→Int→OA→OA→Nat→Nat→Int→Nat→cc→b8→cc→b8→Prop):Prop:=∀j:Nat,∀b:Nat,cF P (Instr.makeSlice 63 (vi (wr ((c:Int)+2))) (vi (wr ((c:Int)+2)))) I ((t j)::(kc b (⟨#[]⟩:Bs) none 0 0 0)::F) fun v I1 G1=>∃(aC:OA) (aN aL:Nat),v=vl aC aN aL∧∃F1:b8,List.Perm G1 ((t j)::(kc b (⟨#[]⟩:Bs) none 0 0 0)::F1)∧(∃m:Nat,Inv8 (some ⟨j,0,none⟩) aC aN aL 0 m I1 F1 I1 F1)∧∀(i:Int) (m1:Nat) (I2:cc) (F2:b8),cc.le I1 I2→Inv8 (some ⟨j,0,none⟩) aC aN aL i m1 I1 F1 I2 F2→(Dt (i<(c:Int)) ((0≤i∧i<(c:Int))∧∃ad:Addr,bW=some ad∧∃(w y z aa ab:Int) (ac:Bs) (d:OA) (e f:Nat) (ae:Int) (g:OA) (a h:Nat) (af:Int),Rd I2 ((t j)::(kc b (⟨#[]⟩:Bs) none 0 0 0)::F2) (ad.add (Int.toNat i*10)) [vb w,vb y,vb z,vi aa,vb ab,vs ac,vl d e f,vi ae,vl g a h,vi af]∧∀u:Nat,cF P (Instr.makeSlice 82 (vi (wr ((a:Int)+2))) (vi (wr ((a:Int)+2)))) I2 ((t j)::(kc b (⟨#[]⟩:Bs) none 0 0 0)::(ka u w y z aa ab ac d e f ae g a h af)::F2) fun v1 I3 G2=>∃(aD:OA) (aR aM:Nat),v1=vl aD aR aM∧∃F3:b8,List.Perm G2 ((t j)::(kc b (⟨#[]⟩:Bs) none 0 0 0)::(ka u w y z aa ab ac d e f ae g a h af)::F3)∧(∃m2:Nat,Inv25 (some ⟨j,0,none⟩) aC aN aL i (some ⟨u,0,none⟩) aD aR aM 0 m2 I3 F3 I3 F3)∧∀(k:Int) (m3:Nat) (I4:cc) (F4:b8),cc.le I3 I4→Inv25 (some ⟨j,0,none⟩) aC aN aL i (some ⟨u,0,none⟩) aD aR aM k m3 I3 F3 I4 F4→(Dt (k<(a:Int)) ((0≤k∧k<(a:Int))∧∃b0:Addr,g=some b0∧∃(ak al:Int) (am:Bs) (bk bl bm bD bn:Int) (bE:Bs) (bd:OA) (be bf:Nat) (bo aK aS aT aU aV:Int) (aW:Bs) (aw:OA) (ax ay:Nat) (aX aE aF ag aG aH:Int) (aI:Bs) (q:OA) (r s:Nat) (aJ an ao ap aq p:Int) (ar:Bs) (l:OA) (n o:Nat) (au av:Int),Rd I4 ((t j)::(kc b (⟨#[]⟩:Bs) none 0 0 0)::(ka u w y z aa ab ac d e f ae g a h af)::F4) (b0.add (Int.toNat k*36)) [vb ak,vb al,vs am,vb bk,vb bl,vb bm,vi bD,vb bn,vs bE,vl bd be bf,vi bo,vb aK,vb aS,vb aT,vi aU,vb aV,vs aW,vl aw ax ay,vi aX,vb aE,vb aF,vb ag,vi aG,vb aH,vs aI,vl q r s,vi aJ,vb an,vb ao,vb ap,vi aq,vb p,vs ar,vl l n o,vi au,vi av]∧∀bc:Nat,dg P 11 #[nV bk bl bm bD bn bE bd be bf bo] I4 ((t j)::(kc b (⟨#[]⟩:Bs) none 0 0 0)::(ka u w y z aa ab ac d e f ae g a h af)::(kb bc ak al am bk bl bm bD bn bE bd be bf bo aK aS aT aU aV aW aw ax ay aX aE aF ag aG aH aI q r s aJ an ao ap aq p ar l n o au av)::·) F4 fun e1 I5 G3=>∃(a5 a6 a7 a8 a9:Int) (ba:Bs) (ah:OA) (ai aj:Nat) (bb:Int),e1=.returned (nV a5 a6 a7 a8 a9 ba ah ai aj bb)∧G3 fun F5=>dg P 11 #[nV aK aS aT aU aV aW aw ax ay aX] I5 ((t j)::(kc b (⟨#[]⟩:Bs) none 0 0 0)::(ka u w y z aa ab ac d e f ae g a h af)::(kb bc ak al am a5 a6 a7 a8 a9 ba ah ai aj bb aK aS aT aU aV aW aw ax ay aX aE aF ag aG aH aI q r s aJ an ao ap aq p ar l n o au av)::·) F5 fun e2 I6 G4=>∃(aY aZ a0 a1 a2:Int) (a3:Bs) (az:OA) (aA aB:Nat) (a4:Int),e2=.returned (nV aY aZ a0 a1 a2 a3 az aA aB a4)∧G4 fun F6=>dg P 11 #[nV aE aF ag aG aH aI q r s aJ] I6 ((t j)::(kc b (⟨#[]⟩:Bs) none 0 0 0)::(ka u w y z aa ab ac d e f ae g a h af)::(kb bc ak al am a5 a6 a7 a8 a9 ba ah ai aj bb aY aZ a0 a1 a2 a3 az aA aB a4 aE aF ag aG aH aI q r s aJ an ao ap aq p ar l n o au av)::·) F6 fun e3 I7 G5=>∃(bp bq br bs bt:Int) (bu:Bs) (aO:OA) (aP aQ:Nat) (bv:Int),e3=.returned (nV bp bq br bs bt bu aO aP aQ bv)∧G5 fun F7=>dg P 11 #[nV an ao ap aq p ar l n o au] I7 ((t j)::(kc b (⟨#[]⟩:Bs) none 0 0 0)::(ka u w y z aa ab ac d e f ae g a h af)::(kb bc ak al am a5 a6 a7 a8 a9 ba ah ai aj bb aY aZ a0 a1 a2 a3 az aA aB a4 bp bq br bs bt bu aO aP aQ bv an ao ap aq p ar l n o au av)::·) F7 fun e4 I8 G6=>∃(bF bG bH bI bJ:Int) (bK:Bs) (bw:OA) (bx bz:Nat) (bL:Int),e4=.returned (nV bF bG bH bI bJ bK bw bx bz bL)∧G6 fun F8=>((0≤k∧k<(aR:Int))∧∃bg:Addr,aD=some bg∧∃(cs:List Value) (el:Nat) (F9:b8),List.Perm F8 (((bg.add (Int.toNat k*36)).block,Obj.cells cs.toArray el (0,0))::F9)∧(bg.add (Int.toNat k*36)).spot=none∧(bg.add (Int.toNat k*36)).off+36≤cs.length∧(∃m4:Nat,m4<m3∧Inv25 (some ⟨j,0,none⟩) aC aN aL i (some ⟨u,0,none⟩) aD aR aM (wr (k+1)) m4 I3 F3 I8 (((bg.add (Int.toNat k*36)).block,Obj.cells (cj (bg.add (Int.toNat k*36)).off [vb ak,vb al,vs am,vb a5,vb a6,vb a7,vi a8,vb a9,vs ba,vl ah ai aj,vi bb,vb aY,vb aZ,vb a0,vi a1,vb a2,vs a3,vl az aA aB,vi a4,vb bp,vb bq,vb br,vi bs,vb bt,vs bu,vl aO aP aQ,vi bv,vb bF,vb bG,vb bH,vi bI,vb bJ,vs bK,vl bw bx bz,vi bL,vi av] cs).toArray el (0,0))::F9)))) ((0≤(a:Int)∧(a:Int)<(aR:Int))∧∃bh:Addr,aD=some bh∧∃(bM:List Value) (bX:Nat) (F10:b8),List.Perm F4 ((((bh.add (Int.toNat ((a:Int))*36)).add 35).block,Obj.cells bM.toArray bX (0,0))::F10)∧((bh.add (Int.toNat ((a:Int))*36)).add 35).spot=none∧((bh.add (Int.toNat ((a:Int))*36)).add 35).off+1≤bM.length∧((0≤(0:Int)∧(0:Int)≤(a:Int)∧(a:Int)≤(aM:Int))∧cf P 11 #[nV w y z aa ab ac d e f ae] I4 ((t j)::(kc b (⟨#[]⟩:Bs) none 0 0 0)::(ka u w y z aa ab ac d e f ae g a h af)::((((bh.add (Int.toNat ((a:Int))*36)).add 35).block,Obj.cells (cj ((bh.add (Int.toNat ((a:Int))*36)).add 35).off [vi (-771)] bM).toArray bX (0,0))::F10)) fun e5 I9 G7=>∃(bN bO bP bQ bR:Int) (bS:Bs) (bA:OA) (bB bC:Nat) (bT:Int),e5=.returned (nV bN bO bP bQ bR bS bA bB bC bT)∧∃F11:b8,List.Perm G7 ((t j)::(kc b (⟨#[]⟩:Bs) none 0 0 0)::(ka u w y z aa ab ac d e f ae g a h af)::F11)∧((0≤i∧i<(aN:Int))∧∃bi:Addr,aC=some bi∧∃(bU:List Value) (bY:Nat) (F12:b8),List.Perm F11 (((bi.add (Int.toNat i*10)).block,Obj.cells bU.toArray bY (0,0))::F12)∧(bi.add (Int.toNat i*10)).spot=none∧(bi.add (Int.toNat i*10)).off+10≤bU.length∧(∃m5:Nat,m5<m1∧Inv8 (some ⟨j,0,none⟩) aC aN aL (wr (i+1)) m5 I1 F1 I9 (((bi.add (Int.toNat i*10)).block,Obj.cells (cj (bi.add (Int.toNat i*10)).off [vb bN,vb bO,vb bP,vi bQ,vb bR,vs bS,vl bA bB bC,vi bT,vl (if aM=Int.toNat ((0:Int)) then aD else Option.map (fun x=>x.add (Int.toNat ((0:Int))*36)) aD) (Int.toNat ((a:Int))-Int.toNat ((0:Int))) (aM-Int.toNat ((0:Int))),vi af] bU).toArray bY (0,0))::F12))))))) ((0≤(c:Int)∧(c:Int)<(aN:Int))∧∃bj:Addr,aC=some bj∧∃(bV:List Value) (bZ:Nat) (F13:b8),List.Perm F2 ((((bj.add (Int.toNat ((c:Int))*10)).add 9).block,Obj.cells bV.toArray bZ (0,0))::F13)∧((bj.add (Int.toNat ((c:Int))*10)).add 9).spot=none∧((bj.add (Int.toNat ((c:Int))*10)).add 9).off+1≤bV.length∧((0≤(0:Int)∧(0:Int)≤(c:Int)∧(c:Int)≤(aL:Int))∧Q (.returned (.agg #[vs b1,vl (if aL=Int.toNat ((0:Int)) then aC else Option.map (fun x=>x.add (Int.toNat ((0:Int))*10)) aC) (Int.toNat ((c:Int))-Int.toNat ((0:Int))) (aL-Int.toNat ((0:Int))),vi b2])) I2 (((((bj.add (Int.toNat ((c:Int))*10)).add 9).block,Obj.cells (cj ((bj.add (Int.toNat ((c:Int))*10)).add 9).off [vi (-771)] bV).toArray bZ (0,0))::F13)))))
theorem hU.vc{ax:Bs}{au:OA}{av aw:Nat}{ay:Int}{I:cc}{F:b8}{Q:cd}(Inv8:OA→OA→Nat→Nat→Int→Nat→cc→b8→cc→b8→Prop)(Inv25:OA→OA→Nat→Nat→Int→OA→OA→Nat→Nat→Int→Nat→cc→b8→cc→b8→Prop)(h:hU.V (fun W a b c d e f g h i j k l m n=>(W,Obj.cells #[.int .u8 a,.int .u8 b,.int .u8 c,.int .i64 d,.int .u8 e,.string f,.slice g h i,.int .i64 j,.slice k l m,.int .i64 n] 84 (0,0))) (fun W a b c d e f g h i j k l m n o p q r s t u v w x y z aa ab ac ad ae af ag ah ai aj ak al am an ao ap aq ar=>(W,Obj.cells #[.int .u8 a,.int .u8 b,.string c,.int .u8 d,.int .u8 e,.int .u8 f,.int .i64 g,.int .u8 h,.string i,.slice j k l,.int .i64 m,.int .u8 n,.int .u8 o,.int .u8 p,.int .i64 q,.int .u8 r,.string s,.slice t u v,.int .i64 w,.int .u8 x,.int .u8 y,.int .u8 z,.int .i64 aa,.int .u8 ab,.string ac,.slice ad ae af,.int .i64 ag,.int .u8 ah,.int .u8 ai,.int .u8 aj,.int .i64 ak,.int .u8 al,.string am,.slice an ao ap,.int .i64 aq,.int .i64 ar] 99 (0,0))) (fun W a b c d e=>(W,Obj.cells #[.string a,.slice b c d,.int .i64 e] 65 (0,0))) (fun b=>(b,Obj.cells #[.string ax,.slice au av aw,.int .i64 ay] 65 (0,0))) (fun k o t n f s a l c q=>.agg #[.int .u8 k,.int .u8 o,.int .u8 t,.int .i64 n,.int .u8 f,.string s,.slice a l c,.int .i64 q]) (.int .u8) (.int .i64) .string .slice (IntKind.wrap .i64) ax au av aw ay I F Q Inv8 Inv25):cf P 38 #[.agg #[.string ax,.slice au av aw,.int .i64 ay]] I F Q :=
 tw (A:=(cK [3004,8004] [] [11] Cb [(8,⟨[(4,(.int .i64))],[],fun fs I0 F0 vs m I F=>match fs,vs with | [.pointer y0,.slice y1 y2 y3],[.int _ y4]=>Inv8 y0 y1 y2 y3 y4 m I0 F0 I F | _,_=>False,[1,3],[]⟩),(25,⟨[(7,(.int .i64))],[],fun fs I0 F0 vs m I F=>match fs,vs with | [.pointer y0,.slice y1 y2 y3,.int _ y4,.pointer y5,.slice y6 y7 y8],[.int _ y9]=>Inv25 y0 y1 y2 y3 y4 y5 y6 y7 y8 y9 m I0 F0 I F | _,_=>False,[1,3,4,5,6],[]⟩)] [] [] [] [] [(17,[0,1,2,5,6,10,7,8,9,11,3,4,12,13,14]),(19,[0,2,3,7,1,4,5,6,8,9,10])] [] [] [(17,[7,11],14)])) [11] func38 h
def eV.V(a d:Nat→Nat×Obj)(vb vi:Int→Value)(vs:Bs→Value)(vl:OA→Nat→Nat→Value)(vt:Bool→Value)(wr:Int→Int)(aL:Bs)(n:OA)(g o:Nat)(p:OA)(h q:Nat)(j:OA)(c s:Nat)(am:Bs)(ab:OA)(ac ae:Nat)(af:OA)(ag ah:Nat)(ai:OA)(aj ak:Nat)(I:cc)(F:b8)(Q:cd)(Inv30:Bool→Int→Nat→cc→b8→cc→b8→Prop)(Inv54:Int→Bool→Int→Nat→cc→b8→cc→b8→Prop):Prop:=∀e:Nat,∀b:Nat,cy P 46 #[.agg #[vs aL,vl n g o,vl p h q,vl j c s],.agg #[vs am,vl ab ac ae,vl af ag ah,vl ai aj ak]] I ((d e)::(a b)::·) F vt fun r I1 F1=>(It (!r) (Q (.returned (vt false)) I1 F1) ((0≤(0:Int)∧(0:Int)≤(wr ((g:Int)+1))∧(wr ((g:Int)+1))≤(o:Int))∧((0≤(0:Int)∧(0:Int)≤(wr ((h:Int)+1))∧(wr ((h:Int)+1))≤(q:Int))∧((0≤(0:Int)∧(0:Int)≤(wr ((c:Int)+1))∧(wr ((c:Int)+1))≤(s:Int))∧((0≤(g:Int)∧(g:Int)<((Int.toNat ((wr ((g:Int)+1)))-Int.toNat ((0:Int))):Int))∧∃ad:Addr,(if o=Int.toNat ((0:Int)) then n else Option.map (fun x=>x.add (Int.toNat ((0:Int))*11)) n)=some ad∧∃(m:Int),Rd I1 ((d e)::(a b)::F1) ((ad.add (Int.toNat ((g:Int))*11)).add 10) [vi m]∧(It (m != (-771)) (Q (.returned (vt false)) I1 F1) ((0≤(h:Int)∧(h:Int)<((Int.toNat ((wr ((h:Int)+1)))-Int.toNat ((0:Int))):Int))∧∃aw:Addr,(if q=Int.toNat ((0:Int)) then p else Option.map (fun x=>x.add (Int.toNat ((0:Int))*2)) p)=some aw∧∃(m1:Int),Rd I1 ((d e)::(a b)::F1) ((aw.add (Int.toNat ((h:Int))*2)).add 1) [vi m1]∧(It (m1 != (-771)) (Q (.returned (vt false)) I1 F1) ((0≤(c:Int)∧(c:Int)<((Int.toNat ((wr ((c:Int)+1)))-Int.toNat ((0:Int))):Int))∧∃ax:Addr,(if s=Int.toNat ((0:Int)) then j else Option.map (fun x=>x.add (Int.toNat ((0:Int))*3)) j)=some ax∧∃(m2:Int),Rd I1 ((d e)::(a b)::F1) ((ax.add (Int.toNat ((c:Int))*3)).add 2) [vi m2]∧(It (m2 != (-771)) (Q (.returned (vt false)) I1 F1) ((∃m3:Nat,Inv30 false 0 m3 I1 F1 I1 F1)∧∀(x:Bool) (i:Int) (m4:Nat) (I2:cc) (F2:b8),cc.le I1 I2→Inv30 x i m4 I1 F1 I2 F2→(Dt (i<(c:Int)) ((0≤i∧i<(c:Int))∧∃ay:Addr,j=some ay∧∃(l:OA) (f al:Nat),Rd I2 ((d e)::(a b)::F2) ((ay.add (Int.toNat i*3)).add 1) [vl l f al]∧((0≤(0:Int)∧(0:Int)≤(wr ((f:Int)+1))∧(wr ((f:Int)+1))≤(al:Int))∧((0≤(f:Int)∧(f:Int)<((Int.toNat ((wr ((f:Int)+1)))-Int.toNat ((0:Int))):Int))∧∃az:Addr,(if al=Int.toNat ((0:Int)) then l else Option.map (fun x=>x.add (Int.toNat ((0:Int))*10)) l)=some az∧∃(m5:Int),Rd I2 ((d e)::(a b)::F2) ((az.add (Int.toNat ((f:Int))*10)).add 9) [vi m5]∧(It (m5 != (-771)) (Q (.returned (vt false)) I2 F2) ((∃m6:Nat,Inv54 i x 0 m6 I2 F2 I2 F2)∧∀(x1:Bool) (k:Int) (m7:Nat) (I3:cc) (F3:b8),cc.le I2 I3→Inv54 i x1 k m7 I2 F2 I3 F3→(Dt (k<(f:Int)) ((0≤k∧k<(f:Int))∧∃aA:Addr,l=some aA∧∃(v:OA) (aG w:Nat),Rd I3 ((d e)::(a b)::F3) ((aA.add (Int.toNat k*10)).add 8) [vl v aG w]∧((0≤k∧k<(f:Int))∧∃aB:Addr,l=some aB∧∃(aH:OA) (t aI:Nat),Rd I3 ((d e)::(a b)::F3) ((aB.add (Int.toNat k*10)).add 8) [vl aH t aI]∧((0≤(0:Int)∧(0:Int)≤(wr ((t:Int)+1))∧(wr ((t:Int)+1))≤(w:Int))∧((0≤k∧k<(f:Int))∧∃aC:Addr,l=some aC∧∃(an ao ap aq ar:Int) (au:Bs) (y:OA) (z aa:Nat) (av:Int),Rd I3 ((d e)::(a b)::F3) ((aC.add (Int.toNat k*10)).add 0) [vb an,vb ao,vb ap,vi aq,vb ar,vs au,vl y z aa,vi av]∧cy P 34 #[.agg #[vb an,vb ao,vb ap,vi aq,vb ar,vs au,vl y z aa,vi av]] I3 ((d e)::(a b)::·) F3 vt fun r1 I4 F4=>(It (!r1) (Q (.returned (vt false)) I4 F4) ((0≤k∧k<(f:Int))∧∃aD:Addr,l=some aD∧∃(aJ:OA) (u aK:Nat),Rd I4 ((d e)::(a b)::F4) ((aD.add (Int.toNat k*10)).add 8) [vl aJ u aK]∧((0≤(u:Int)∧(u:Int)<((Int.toNat ((wr ((t:Int)+1)))-Int.toNat ((0:Int))):Int))∧∃aE:Addr,(if w=Int.toNat ((0:Int)) then v else Option.map (fun x=>x.add (Int.toNat ((0:Int))*36)) v)=some aE∧∃(m8:Int),Rd I4 ((d e)::(a b)::F4) ((aE.add (Int.toNat ((u:Int))*36)).add 35) [vi m8]∧(It (m8 != (-771)) (Q (.returned (vt false)) I4 F4) (∃m9:Nat,m9<m7∧Inv54 i x1 (wr (k+1)) m9 I2 F2 I4 F4))))))))) (∃aF:Nat,aF<m4∧Inv30 x1 (wr (i+1)) aF I1 F1 I3 F3))))))) (Q (.returned (vt true)) I2 F2)))))))))))))
theorem eV.vc{w:Bs}{l:OA}{n o:Nat}{p:OA}{q r:Nat}{s:OA}{t u:Nat}{v:Bs}{a:OA}{c d:Nat}{e:OA}{f g:Nat}{i:OA}{j k:Nat}{I:cc}{F:b8}{Q:cd}(Inv30:Bool→Int→Nat→cc→b8→cc→b8→Prop)(Inv54:Int→Bool→Int→Nat→cc→b8→cc→b8→Prop)(h:eV.V (fun b=>(b,Obj.cells #[.string v,.slice a c d,.slice e f g,.slice i j k] 39 (0,0))) (fun b=>(b,Obj.cells #[.string w,.slice l n o,.slice p q r,.slice s t u] 39 (0,0))) (.int .u8) (.int .i64) .string .slice .bool (IntKind.wrap .i64) w l n o p q r s t u v a c d e f g i j k I F Q Inv30 Inv54):cf P 23 #[.agg #[.string w,.slice l n o,.slice p q r,.slice s t u],.agg #[.string v,.slice a c d,.slice e f g,.slice i j k]] I F Q :=
 tw (A:=(cK [2001,7007,7016,7026,10004,14006,17003,21001,21013] [] [34,46] Cb [(30,⟨[(4,.bool),(9,(.int .i64))],[],fun fs I0 F0 vs m I F=>match fs,vs with | [],[.bool y0,.int _ y1]=>Inv30 y0 y1 m I0 F0 I F | _,_=>False,[],[]⟩),(54,⟨[(4,.bool),(12,(.int .i64))],[],fun fs I0 F0 vs m I F=>match fs,vs with | [.int _ y0],[.bool y1,.int _ y2]=>Inv54 y0 y1 y2 m I0 F0 I F | _,_=>False,[9],[]⟩)] [] [] [] [] [] [])) [34,46] func23 h
end Go.Lx
namespace Go.Lx
open Go.Vc
theorem wh{α:Type}(k:Nat)(vs X:List α):∀P:List α,cj (P.length+k) vs (P++X)=P++cj k vs X
 | []=>by rw[List.length_nil,Nat.zero_add];rfl
 | p::P=>by
   rw[List.length_cons,show P.length+1+k=(P.length+k)+1 by omega,List.cons_append,cj,wh k vs X P];rfl
theorem jv{α:Type}(P vs ws S:List α)(h:vs.length=ws.length):cj P.length vs (P++(ws++S))=P++(vs++S):=by
 rw[mH _ _ _ (by simp only[List.length_append];omega)]
 have h2:(P++(ws++S)).drop (P.length+vs.length)=S:=by rw[h,←List.append_assoc,←List.length_append];exact List.drop_left
 rw[h2,List.take_left]
def la{α:Type}(z:Nat)(f:α→List Value)(E:Nat)(O:α→b8→Prop)(a:Option Addr)(n c len:Nat)(l:List α)(F F':b8):Prop :=
 ∃(b:Nat) (cs:List Value) (hs:Nat→b8),a=some ⟨b,0,none⟩∧n=len+2∧c=len+2∧cs.length=(len+2)*z∧cs.take (l.length*z)=l.flatMap f∧(∀(i:Nat) (k:α),l[i]? = some k→O k (hs i)) ∧
  F'.Perm ((b,Obj.cells cs.toArray E (0,0))::(ir l.length hs++F))
theorem la.mem{α:Type}{z E n c len:Nat}{f:α→List Value}{O:α→b8→Prop}{a:Option Addr}{l:List α}{F F':b8}(h:la z f E O a n c len l F F'):∀x,x∈F→x∈F':=by
 obtain⟨b,cs,hs,h1,h2,h3,h4,h5,h6,hp⟩:=h
 exact fun x hx=>hp.mem_iff.2 (.tail _ (List.mem_append_right _ hx))
theorem la.perm{α:Type}{z E n c len:Nat}{f:α→List Value}{O:α→b8→Prop}{a:Option Addr}{l:List α}{F F' F'':b8}(h:la z f E O a n c len l F F')(p:F''.Perm F'):la z f E O a n c len l F F'':=by
 obtain⟨b,cs,hs,h1,h2,h3,h4,h5,h6,hp⟩:=h
 exact⟨b,cs,hs,h1,h2,h3,h4,h5,h6,p.trans hp⟩
theorem la.opened{α:Type}{z E n c len:Nat}{f:α→List Value}(hz:∀x,(f x).length=z){O:α→b8→Prop}{a:Option Addr}{l:List α}{F F':b8}(h:la z f E O a n c len l F F')(hl:l.length<len+2) :
  ∃(b:Nat) (P ws S:List Value) (F9:b8),a=some ⟨b,0,none⟩∧n=len+2∧c=len+2∧P.length=l.length*z∧ws.length=z∧F'.Perm ((b,Obj.cells (P++(ws++S)).toArray E (0,0))::F9)∧(∀x,x∈F→x∈F9) ∧
   ∀(x:α) (Hx F10:b8),O x Hx→F10.Perm ((b,Obj.cells (P++(f x++S)).toArray E (0,0))::(Hx++F9))→la z f E O a n c len (l++[x]) F F10:=by
 obtain⟨b,cs,hs,h1,h2,h3,h4,h5,h6,hp⟩:=h
 have hle:(l.length+1)*z≤(len+2)*z:=Nat.mul_le_mul_right z hl
 have hle2:l.length*z+z≤cs.length:=by rw[h4];rw[Nat.succ_mul] at hle;exact hle
 refine⟨b,cs.take (l.length*z),(cs.drop (l.length*z)).take z,(cs.drop (l.length*z)).drop z,ir l.length hs++F,h1,h2,h3,by rw[List.length_take];omega,by rw[List.length_take,List.length_drop];omega, ?_,fun x hx=>List.mem_append_right _ hx,fun x Hx F10 hO hF=>?_⟩
 ·rw[List.take_append_drop,List.take_append_drop];exact hp
 ·refine⟨b,cs.take (l.length*z)++(f x++(cs.drop (l.length*z)).drop z),fun j=>if j<l.length then hs j else Hx,h1,h2,h3, ?_, ?_,fun j k hj=>?_, ?_⟩
  ·simp only[List.length_append,List.length_take,List.length_drop,hz];omega
  ·have hlen:((cs.take (l.length*z))++f x).length=(l++[x]).length*z:=by
    simp only[List.length_append,List.length_take,hz,List.length_singleton,Nat.succ_mul];omega
   rw[←List.append_assoc,←hlen,List.take_left,h5,List.flatMap_append];simp
  ·show O k (if j<l.length then hs j else Hx)
   rw[List.getElem?_append] at hj
   split at hj
   ·rename_i hlt';rw[if_pos hlt'];exact h6 j k hj
   ·rename_i hge
    have hj':=List.mem_of_getElem? hj
    rw[List.mem_singleton] at hj'
    rw[if_neg hge,hj'];exact hO
  ·rw[List.length_append,List.length_singleton,nw,if_neg (Nat.lt_irrefl _),tI (hs':=hs) fun j hj=>if_pos hj]
   exact hF.trans ((cT fun z=>by simp only[di,cS];omega):List.Perm ((b,Obj.cells (cs.take (l.length*z)++(f x++(cs.drop (l.length*z)).drop z)).toArray E (0,0))::(Hx++(ir l.length hs++F))) _)
theorem la.done{α:Type}{z E n c len:Nat}{f:α→List Value}(hz:∀x,(f x).length=z)(hz1:1≤z){O:α→b8→Prop}{a:Option Addr}{l:List α}{F F':b8}(h:la z f E O a n c len l F F')(hl:l.length=len) :
  ∃(b:Nat) (cs:List Value) (F9:b8),a=some ⟨b,0,none⟩∧n=len+2∧c=len+2∧F'.Perm ((b,Obj.cells cs.toArray E (0,0))::F9)∧len*z+(z-1)+1≤cs.length∧(∀x,x∈F→x∈F9) ∧
   ∀F10:b8,F10.Perm ((b,Obj.cells (cj (len*z+(z-1)) [.int .i64 (-771)] cs).toArray E (0,0))::F9)→∃H,oL true z f E O a l.length (len+2) l H∧F10.Perm (H++F):=by
 obtain⟨b,cs,hs,h1,h2,h3,h4,h5,h6,hp⟩:=h
 subst hl
 have hle2:l.length*z+(z-1)+1≤cs.length:=by rw[h4,Nat.add_mul];omega
 refine⟨b,cs,ir l.length hs++F,h1,h2,h3,hp,hle2,fun x hx=>List.mem_append_right _ hx,fun F10 hF=>?_⟩
 have hs1:=qV (l.length*z+(z-1)) (.int .i64 (-771)) cs (by omega)
 rw[hs1] at hF
 refine⟨(b,Obj.cells (cs.set (l.length*z+(z-1)) (.int .i64 (-771))).toArray E (0,0))::ir l.length hs,⟨[(b,Obj.cells (cs.set (l.length*z+(z-1)) (.int .i64 (-771))).toArray E (0,0))],hs,rfl,⟨rfl,.inr ⟨b,_,h1,rfl, ?_,by omega, ?_⟩⟩,fun _=>⟨b,_,E,h1,rfl,rfl, ?_⟩,h6⟩,hF⟩
 ·rw[List.size_toArray,List.length_set,h4]
 ·show (cs.set _ _).take (l.length*z)=_
  rw[List.take_set_of_le (by omega)];exact h5
 ·rw[List.getElem?_toArray,List.getElem?_set_self (by omega)]
theorem la.start{α:Type}{z E len b:Nat}{f:α→List Value}{O:α→b8→Prop}{F:b8}{cs:List Value}(h:cs.length=(len+2)*z):la z f E O (some ⟨b,0,none⟩) (len+2) (len+2) len ([]:List α) F ((b,Obj.cells cs.toArray E (0,0))::F) :=
 ⟨b,cs,fun _=>[],rfl,rfl,rfl,h,by simp,fun i k h=>by simp at h,.refl _⟩
theorem iw{α β:Type}{g:α→β}{l:List α}{i:Nat}{x:α}(hx:l[i]? = some x):(l.take (i+1)).map g=(l.take i).map g++[g x]:=by
 obtain⟨hk,rfl⟩:=List.getElem?_eq_some_iff.1 hx
 rw[List.take_succ_eq_append_getElem hk,List.map_append];rfl
theorem fV{α β δ:Type}{g:α→β}{p:δ→β}{l:List α}{ks:List δ}{i:Nat}(e:ks.map p=(l.take i).map g)(hi:i≤l.length):ks.length=i:=by
 have:=congrArg List.length e
 simp only[List.length_map,List.length_take] at this
 omega
set_option maxHeartbeats 600000 in
theorem wi(x:cg)(hs:x.p.dC)(I:cc)(F:b8)(hx:x.Ok I F):cf P 38 #[x.v] I F fun e I' G=>∃(x':cg) (H:b8),e=.returned x'.v∧x'.p=x.p∧mP true x' H∧G.Perm (H++F):=by
 have hl:=hs.1
 have hru:∀r∈x.rules,r.p.dC:=fun r hr=>hs.2 _ (List.mem_map_of_mem hr)
 have hdl:∀r∈x.rules,r.dos.length≤1048576:=fun r hr=>by have:=(hru r hr).2.1;simpa only[cp.p,List.length_map] using this
 simp only[cg.p,List.length_map] at hl
 refine hU.vc
  (fun p1 ra rn rc i m I0 F0 I' F'=>0≤i∧i≤x.rules.length∧m=(x.rules.length-i).toNat∧∃ks:List cp,ks.map cp.p=(x.rules.take i.toNat).map cp.p∧la 10 cp.enc 84 (pY true) ra rn rc x.rules.length ks F F')
  (fun p1 ra rn rc i p5 da dn dc k m I0 F0 I' F'=>∃r,x.rules[i.toNat]? = some r∧0≤k∧k≤r.dos.length∧m=(r.dos.length-k).toNat∧∃(ds:List dy) (F1:b8),ds.map dy.p=(r.dos.take k.toNat).map dy.p∧la 36 dy.enc 99 (Av true) da dn dc r.dos.length ds F1 F' ∧
    (∀a,a∈F→a∈F1)∧∃ks:List cp,ks.map cp.p=(x.rules.take i.toNat).map cp.p∧la 10 cp.enc 84 (pY true) ra rn rc x.rules.length ks F F1) ?_
 unfold hU.V
 intro b_s b
 have hw2:IntKind.wrap .i64 ((x.rules.length:Int)+2)=(x.rules.length:Int)+2:=cY (by omega)
 rw[hw2]
 refine cF.mono (ji (e:=84) (z:=10) (by':=104) (zv:=(⟨iU,none,0,[],0⟩:cp).v) (by kernel_rfl) (by kernel_rfl) (by omega) (Int.le_refl _) (by omega) (by omega)) fun v I1 G hI1 ⟨b',cs,hv,hcl,_,hI,hG⟩=>?_
 subst hG
 have htn:((x.rules.length:Int)+2).toNat=x.rules.length+2:=by omega
 rw[htn] at hv hcl
 refine⟨_,_,_,hv,(b',Obj.cells cs.toArray 84 (0,0))::F,(cT fun z=>by simp only[fU,di,cS,dp];omega),⟨_,by omega,by omega,rfl,[],by simp,la.start hcl⟩,fun i m1 I2 F2 l2 ⟨g0,g1,gm,ks,gk,gP⟩=>⟨fun hlt=>?_,fun hlt=>?_⟩⟩
 ·have hlt:=of_decide_eq_true hlt
  have l12:=cc.le_trans hI1 l2
  have ok1:x.Ok I2 F2:=hx.mono l12 gP.mem
  obtain⟨ad,r,had,hr,hrd,hrm⟩:=dq.gj (ok1.cons.cons (x:=(fU b_s x)) (s:=x)).1 g0 hlt
  have hrl:=hdl r hrm
  have hkl:=fV gk (by omega)
  refine⟨⟨g0,hlt⟩,ad,had,_,_,_,_,_,_,_,_,_,_,_,_,_,_,hrd,fun b_r=>?_⟩
  have hw3:IntKind.wrap .i64 ((r.dos.length:Int)+2)=(r.dos.length:Int)+2:=cY (by omega)
  rw[hw3]
  refine cF.mono (ji (e:=99) (z:=36) (by':=320) (zv:=(⟨0,0,⟨#[]⟩,iU,iU,iU,iU,0⟩:dy).v) (by kernel_rfl) (by kernel_rfl) (by omega) (Int.le_refl _) (by omega) (by omega)) fun v I3 G hI3 ⟨b3,cs3,hv3,hcl3,_,hI3',hG⟩=>?_
  subst hG
  have htn3:((r.dos.length:Int)+2).toNat=r.dos.length+2:=by omega
  rw[htn3] at hv3 hcl3
  refine⟨_,_,_,hv3,(b3,Obj.cells cs3.toArray 99 (0,0))::F2,(cT fun z=>by simp only[fU,di,cS,dp];omega),⟨_,r,hr,by omega,by omega,rfl,[],F2,by simp,la.start hcl3,gP.mem,ks,gk,gP⟩,fun k m3 I4 F4 l4 ⟨r',hr',k0,k1,km,ds,F1',dk,dP,hsub,ks',gk',gP'⟩=>⟨fun hlt2=>?_,fun hlt2=>?_⟩⟩
  ·obtain rfl:r=r':=by rw[hr] at hr';exact Option.some.inj hr'
   have hlt2:=of_decide_eq_true hlt2
   have l24:=cc.le_trans hI3 l4
   have ok4:r.Ok I4 F4:=(hx.2 r hrm).mono (cc.le_trans l12 l24) fun a ha=>dP.mem a (hsub a ha)
   obtain⟨ad1,d,had1,hd,hrd1,hdm⟩:=dq.gj (ok4.cons.cons.cons (x:=(fU b_s x)) (s:=r)).2.1 k0 hlt2
   have hdlen:=fV dk (by omega)
   have hds:=(hru r hrm).2.2 _ (List.mem_map_of_mem hdm)
   simp only[dA.dC,Small,dA.oJ,dy.p,List.mem_cons,List.not_mem_nil,or_false] at hds
   have hd4:=ok4.2.2 d hdm
   refine⟨⟨k0,hlt2⟩,ad1,had1,_,_,_,_,_,_,_,_,_,_,_,_,_,_,_,_,_,_,_,_,_,_,_,_,_,_,_,_,_,_,_,_,_,_,_,_,_,_,_,_,_,_,_,_,hrd1,fun b_d=>?_⟩
   refine (kH d.side (hds _ (.inl rfl)) I4 _ hd4.cons.cons.cons.cons.1).mono fun e I5 G l5 ⟨t1,H1,he,p1,o1,hG⟩=>?_
   subst he
   refine⟨_,_,_,_,_,_,_,_,_,_,rfl,H1++F4,hG.trans (cT fun z=>by simp only[fU,di,cS,dp];omega), ?_⟩
   have k1':d.Ok I5 (H1++F4):=hd4.mono l5 fun a ha=>List.mem_append_right _ ha
   refine (kH d.qty (hds _ (.inr (.inl rfl))) I5 _ k1'.cons.cons.cons.cons.2.1).mono fun e I6 G l6 ⟨t2,H2,he,p2,o2,hG⟩=>?_
   subst he
   refine⟨_,_,_,_,_,_,_,_,_,_,rfl,H2++(H1++F4),hG.trans (cT fun z=>by simp only[fU,di,cS,dp];omega), ?_⟩
   have k2':d.Ok I6 (H2++(H1++F4)):=k1'.mono l6 fun a ha=>List.mem_append_right _ ha
   refine (kH d.price (hds _ (.inr (.inr (.inl rfl)))) I6 _ k2'.cons.cons.cons.cons.2.2.1).mono fun e I7 G l7 ⟨t3,H3,he,p3,o3,hG⟩=>?_
   subst he
   refine⟨_,_,_,_,_,_,_,_,_,_,rfl,H3++(H2++(H1++F4)),hG.trans (cT fun z=>by simp only[fU,di,cS,dp];omega), ?_⟩
   have k3':d.Ok I7 (H3++(H2++(H1++F4))):=k2'.mono l7 fun a ha=>List.mem_append_right _ ha
   refine (kH d.value (hds _ (.inr (.inr (.inr rfl)))) I7 _ k3'.cons.cons.cons.cons.2.2.2).mono fun e I8 G l8 ⟨t4,H4,he,p4,o4,hG⟩=>?_
   subst he
   obtain⟨b4,P4,ws,S4,F9,ha4,hn4,hc4,hP4,hws,hp4, -,hup⟩:=dP.opened (z:=36) (f:=dy.enc) (fun _=>rfl) (by omega)
   have hnew:=hup ⟨d.kind,d.order,d.name,t1,t2,t3,t4,d.pos⟩ (H1++(H2++(H3++H4))) _ ⟨H1,H2,H3,H4,rfl,o1,o2,o3,o4⟩ (.refl _)
   have hsp4:=jv P4 (⟨d.kind,d.order,d.name,t1,t2,t3,t4,d.pos⟩:dy).enc ws S4 (by rw[hws];rfl)
   rw[←hsp4] at hnew
   simp only[dy.enc] at hnew
   have hmap:(ds++[(⟨d.kind,d.order,d.name,t1,t2,t3,t4,d.pos⟩:dy)]).map dy.p=(r.dos.take (k+1).toNat).map dy.p:=by
    rw[show (k+1).toNat=k.toNat+1 by omega,iw hd,List.map_append,dk,List.map_singleton]
    congr 2
    show dA.mk _ _ _ _ _ _ _ _=_
    rw[p1,p2,p3,p4];rfl
   clear hup hsp4
   refine⟨_,_,_,_,_,_,_,_,_,_,rfl,H4++(H3++(H2++(H1++F4))),hG.trans (cT fun z=>by simp only[fU,di,cS,dp];omega),⟨k0,by omega⟩,_,ha4,P4++(ws++S4),99,H4++(H3++(H2++(H1++F9))), ?_⟩
   have hkP:Int.toNat k*36=P4.length:=by rw[hP4];omega
   rw[eD,hkP]
   refine⟨(cT fun z=>by have q0:=j7 hp4 z;simp only[fU,di,cS,dp] at q0 ⊢;omega),rfl,by simp only[List.length_append,hws];omega,(r.dos.length-(k+1)).toNat,by omega,r,hr, ?_⟩
   rw[cY (n:=k+1) (by omega)]
   exact⟨by omega,by omega,rfl,_,F1',hmap,hnew.perm (cT fun z=>by simp only[fU,di,cS,dp];omega),hsub,ks',gk',gP'⟩
  ·obtain rfl:r=r':=by rw[hr] at hr';exact Option.some.inj hr'
   have hlt2:=of_decide_eq_false hlt2
   have hdlen:=fV dk (by omega)
   have hde:ds.length=r.dos.length:=by omega
   have hkl':=fV gk' (by omega)
   have l24:=cc.le_trans hI3 l4
   obtain⟨b5,cs5,F9,ha5,hn5,hc5,hp5,hle5,hsub5,hdone⟩:=dP.done (z:=36) (f:=dy.enc) (fun _=>rfl) (by decide) hde
   cases ha5
   obtain⟨Hd,hOd,hpd⟩:=hdone ((b3,Obj.cells (cj (r.dos.length*36+35) [.int .i64 (-771)] cs5).toArray 99 (0,0))::F9) (.refl _)
   refine⟨⟨by omega,by omega⟩,_,rfl,cs5,99,F9, ?_⟩
   rw[add_add,Int.toNat_natCast]
   refine⟨hp5,rfl,hle5,⟨by omega,by omega,by omega⟩, ?_⟩
   refine (kH r.when (hru r hrm).1 I4 _ (((hx.2 r hrm).mono (cc.le_trans l12 l24) fun a ha=>.tail _ (.tail _ (.tail _ (.tail _ (hsub5 a (hsub a ha)))))).1)).mono fun e I9 G l9 ⟨w,Hw,he,pw,ow,hG⟩=>?_
   subst he
   obtain⟨b6,P6,ws6,S6,F12,ha6,hn6,hc6,hP6,hws6,hp6, -,hup6⟩:=gP'.opened (z:=10) (f:=cp.enc) (fun _=>rfl) (by omega)
   refine⟨_,_,_,_,_,_,_,_,_,_,rfl,Hw++(Hd++F1'),hG.trans (cT fun z=>by have q0:=j7 hpd z;simp only[fU,di,cS,dp] at q0 ⊢;omega),⟨g0,by omega⟩,_,ha6,P6++(ws6++S6),84,Hw++(Hd++F12), ?_⟩
   have hiP:Int.toNat i*10=P6.length:=by rw[hP6];omega
   rw[eD,hiP,jW]
   refine⟨(cT fun z=>by have q0:=j7 hp6 z;simp only[fU,di,cS,dp] at q0 ⊢;omega),rfl,by simp only[List.length_append,hws6];omega,(x.rules.length-(i+1)).toNat,by omega, ?_⟩
   rw[cY (n:=i+1) (by omega)]
   refine⟨by omega,by omega,rfl,ks'++[⟨w,some ⟨b3,0,none⟩,r.dos.length+2,ds,r.pos⟩], ?_,hup6 ⟨w,some ⟨b3,0,none⟩,r.dos.length+2,ds,r.pos⟩ (Hw++Hd) _ ⟨Hw,Hd,rfl,ow,hOd⟩ ?_⟩
   ·rw[show (i+1).toNat=i.toNat+1 by omega,iw hr,List.map_append,gk',List.map_singleton]
    congr 2
    show cD.mk w.px (ds.map dy.p) r.pos=⟨r.when.px,r.dos.map dy.p,r.pos⟩
    rw[pw,dk,List.take_of_length_le (by omega)]
   ·have he5:(⟨w,some ⟨b3,0,none⟩,r.dos.length+2,ds,r.pos⟩:cp).enc.length=ws6.length:=by rw[hws6];rfl
    have hsp:=jv P6 _ ws6 S6 he5
    have hcc:r.dos.length+2-Int.toNat 0=r.dos.length+2:=rfl
    have hnn:r.dos.length-Int.toNat 0=ds.length:=by rw[hde];rfl
    rw[hcc,hnn]
    show List.Perm ((b6,Obj.cells (cj P6.length (⟨w,some ⟨b3,0,none⟩,r.dos.length+2,ds,r.pos⟩:cp).enc (P6++(ws6++S6))).toArray 84 (0,0))::(Hw++(Hd++F12))) _
    rw[hsp]
    exact (cT fun z=>by simp only[fU,di,cS,dp];omega)
 ·have hlt:=of_decide_eq_false hlt
  have hkl:=fV gk (by omega)
  have hke:ks.length=x.rules.length:=by omega
  obtain⟨b5,cs5,F9,ha5,hn5,hc5,hp5,hle5,hsub5,hdone⟩:=gP.done (z:=10) (f:=cp.enc) (fun _=>rfl) (by decide) hke
  cases ha5
  refine⟨⟨by omega,by omega⟩,_,rfl,cs5,84,F9, ?_⟩
  rw[add_add,Int.toNat_natCast]
  obtain⟨H,hO,hpH⟩:=hdone _ (.refl _)
  refine⟨hp5,rfl,hle5,⟨by omega,by omega,by omega⟩,⟨x.name,some ⟨b',0,none⟩,x.rules.length+2,ks,x.pos⟩,H, ?_, ?_,hO,hpH⟩
  ·rw[jW]
   show Ending.returned (.agg #[.string x.name,.slice (some ⟨b',0,none⟩) (x.rules.length-Int.toNat 0) (x.rules.length+2-Int.toNat 0),.int .i64 x.pos])=.returned (.agg #[.string x.name,.slice (some ⟨b',0,none⟩) ks.length (x.rules.length+2),.int .i64 x.pos])
   rw[hke];rfl
  ·show cq.mk x.name (ks.map cp.p) x.pos=⟨x.name,x.rules.map cp.p,x.pos⟩
   rw[gk,List.take_of_length_le (by omega)]
set_option maxHeartbeats 1000000 in
theorem yJ(s:cw)(hs:s.p.dC)(I:cc)(F:b8)(hx:s.Ok I F):cf P 18 #[s.v] I F fun e I' G=>∃(s':cw) (H:b8),e=.returned s'.v∧s'.p=s.p∧yI true s' H∧G.Perm (H++F):=by
 have lr:=hs.regs
 have ls:=hs.slots
 have lt:=hs.states
 simp only[cw.p,List.length_map] at lr ls lt
 have hnm:∀r∈s.regs,r.init.px.size≤1048576:=fun r hr=>hs.fG _ (List.mem_map_of_mem hr)
 have hst:∀x∈s.states,x.p.dC:=fun x hx=>hs.state _ (List.mem_map_of_mem hx)
 refine fp.vc
  (fun p1 p3 ra rn rc i m I0 F0 I' F'=>0≤i∧i≤s.regs.length∧m=(s.regs.length-i).toNat∧∃rs:List cH,rs.map cH.p=(s.regs.take i.toNat).map cH.p∧la 11 cH.enc 77 (rp true) ra rn rc s.regs.length rs F F')
  (fun p1 p3 ra rn rc i a2 n2 c2 j m I0 F0 I' F'=>0≤j∧j≤s.slots.length∧m=(s.slots.length-j).toNat∧∃(rs:List cH) (H1:b8) (ss:List cx),rs.map cH.p=s.regs.map cH.p∧rs.length=s.regs.length∧rc=s.regs.length+2∧oL true 11 cH.enc 77 (rp true) ra rs.length rc rs H1 ∧
    ss.map id=(s.slots.take j.toNat).map id∧la 2 cx.enc 79 yH a2 n2 c2 s.slots.length ss (H1++F) F')
  (fun p1 p3 ra rn rc i a2 n2 c2 j a3 n3 c3 k m I0 F0 I' F'=>0≤k∧k≤s.states.length∧m=(s.states.length-k).toNat∧∃(rs:List cH) (H1:b8) (ss:List cx) (H2:b8) (ts:List cg),rs.map cH.p=s.regs.map cH.p∧rs.length=s.regs.length∧rc=s.regs.length+2∧oL true 11 cH.enc 77 (rp true) ra rs.length rc rs H1 ∧
    ss=s.slots∧c2=s.slots.length+2∧oL true 2 cx.enc 79 yH a2 ss.length c2 ss H2∧ts.map cg.p=(s.states.take k.toNat).map cg.p∧la 3 cg.enc 65 (mP true) a3 n3 c3 s.states.length ts (H1++(H2++F)) F') ?_
 unfold fp.V
 intro b_s b b_x
 have hw2:IntKind.wrap .i64 ((s.regs.length:Int)+2)=(s.regs.length:Int)+2:=cY (by omega)
 rw[hw2]
 refine cF.mono (ji (e:=77) (z:=11) (by':=104) (zv:=(⟨⟨#[]⟩,0,iU,0⟩:cH).v) (by kernel_rfl) (by kernel_rfl) (by omega) (Int.le_refl _) (by omega) (by omega)) fun v I1 G l1 ⟨b',cs,hv,hcl,_,hI,hG⟩=>?_
 subst hG
 have htn:((s.regs.length:Int)+2).toNat=s.regs.length+2:=by omega
 rw[htn] at hv hcl
 refine⟨_,_,_,hv,(b',Obj.cells cs.toArray 77 (0,0))::F,(cT fun z=>by simp only[c6,di,cS,dp];omega),⟨_,by omega,by omega,rfl,[],by simp,la.start hcl⟩,fun i m1 I2 F2 l2' ⟨g0,g1,gm,rs,gk,gP⟩=>⟨fun hlt=>?_,fun hlt=>?_⟩⟩
 ·have hlt:=of_decide_eq_true hlt
  have l2:=cc.le_trans l1 l2'
  have ok1:s.Ok I2 F2:=hx.mono l2 gP.mem
  obtain⟨ad,r,had,hr,hrd,hrm⟩:=dq.gj (ok1.cons.cons.cons (x:=(c6 b_s s)) (s:=s)).regs g0 hlt
  have hkl:=fV gk (by omega)
  obtain⟨b4,P4,ws,S4,F9,ha4,hn4,hc4,hP4,hws,hp4,hsub4,hup⟩:=gP.opened (z:=11) (f:=cH.enc) (fun _=>rfl) (by omega)
  cases ha4
  have hiP:Int.toNat i*11=P4.length:=by rw[hP4];omega
  have ok9:s.Ok I2 F9:=hx.mono l2 hsub4
  obtain⟨ad2,r2,had2,hr2,hrd2,hrm2⟩:=dq.gj (ok9.mono (cc.le_refl I2) (H:=(c6 b_s s)::(b,Obj.cells #[.string ⟨#[]⟩,.slice none 0 0,.slice none 0 0,.slice none 0 0] 39 (0,0))::(b_x,Obj.cells #[.string s.name,.slice none 0 0,.slice none 0 0,.slice none 0 0] 39 (0,0))::(b',Obj.cells (cj P4.length r.enc (P4++(ws++S4))).toArray 77 (0,0))::F9) fun a ha=>.tail _ (.tail _ (.tail _ (.tail _ ha)))).regs g0 hlt
  obtain rfl:r=r2:=by rw[hr] at hr2;exact Option.some.inj hr2
  refine⟨⟨g0,hlt⟩,ad,had,_,_,_,_,_,_,_,_,_,_,_,_,_,hrd,⟨g0,by omega⟩,_,rfl,P4++(ws++S4),77,F9, ?_⟩
  rw[eD,hiP]
  refine⟨hp4,rfl,by simp only[List.length_append,hws];omega,⟨g0,hlt⟩,ad2,had2,r.init.kind,r.init.oper,r.init.cO,r.init.n,r.init.field,r.init.name,r.init.a,r.init.kids.length,r.init.c,r.init.pos, ?_, ?_⟩
  ·rw[hiP] at hrd2
   exact Rd.part (o:=2) hrd2 (xs:=[.string r.name,.int .u8 r.cO]) (ds:=r.init.enc) (ys:=[.int .i64 r.pos]) rfl rfl
  refine (kH r.init (hnm r hrm) I2 _ ((ok9.fG r hrm).mono (cc.le_refl I2) fun a ha=>.tail _ (.tail _ (.tail _ (.tail _ ha))))).mono fun e I3 G l3 ⟨w,Hw,he,pw,ow,hG⟩=>?_
  subst he
  have hnew:=hup ⟨r.name,r.cO,w,r.pos⟩ Hw _ ow (.refl _)
  have e1:P4++((⟨r.name,r.cO,w,r.pos⟩:cH).enc++S4)=cj (P4.length+2) w.enc (cj P4.length r.enc (P4++(ws++S4))):=by
   rw[jv P4 r.enc ws S4 (by rw[hws];rfl),wh];rfl
  rw[e1] at hnew
  refine⟨_,_,_,_,_,_,_,_,_,_,rfl,(b',Obj.cells (cj P4.length [.string r.name,.int .u8 r.cO,.int .u8 r.init.kind,.int .u8 r.init.oper,.int .u8 r.init.cO,.int .i64 r.init.n,.int .u8 r.init.field,.string r.init.name,.slice r.init.a r.init.kids.length r.init.c,.int .i64 r.init.pos,.int .i64 r.pos] (P4++(ws++S4))).toArray 77 (0,0))::(Hw++F9),hG.trans (cT fun z=>by simp only[c6,di,cS,dp];omega),⟨g0,by omega⟩,_,rfl,cj P4.length r.enc (P4++(ws++S4)),77,Hw++F9, ?_⟩
  rw[add_add]
  refine⟨.refl _,rfl, ?_,(s.regs.length-(i+1)).toNat,by omega, ?_⟩
  ·rw[jv P4 r.enc ws S4 (by rw[hws];rfl)]
   simp only[List.length_append]
   show P4.length+2+8≤P4.length+(11+S4.length)
   omega
  rw[cY (n:=i+1) (by omega)]
  refine⟨by omega,by omega,rfl,_, ?_,hnew⟩
  rw[show (i+1).toNat=i.toNat+1 by omega,iw hr,List.map_append,gk,List.map_singleton]
  congr 2
  show dh.mk r.name r.cO w.px r.pos=⟨r.name,r.cO,r.init.px,r.pos⟩
  rw[pw]
 have hlt:=of_decide_eq_false hlt
 have hkl:=fV gk (by omega)
 have hke:rs.length=s.regs.length:=by omega
 obtain⟨b5,cs5,F9,ha5,hn5,hc5,hp5,hle5,hsub5,hdone⟩:=gP.done (z:=11) (f:=cH.enc) (fun _=>rfl) (by decide) hke
 cases ha5
 refine⟨⟨by omega,by omega⟩,_,rfl,cs5,77,F9, ?_⟩
 rw[add_add,Int.toNat_natCast]
 obtain⟨H1,hO1,hp1⟩:=hdone ((b',Obj.cells (cj (s.regs.length*11+10) [.int .i64 (-771)] cs5).toArray 77 (0,0))::F9) (.refl _)
 refine⟨hp5,rfl,hle5,⟨by omega,by omega,by omega⟩, ?_⟩
 have hw3:IntKind.wrap .i64 ((s.slots.length:Int)+2)=(s.slots.length:Int)+2:=cY (by omega)
 rw[hw3]
 refine cF.mono (ji (e:=79) (z:=2) (by':=24) (zv:=(⟨⟨#[]⟩,0⟩:cx).v) (by kernel_rfl) (by kernel_rfl) (by omega) (Int.le_refl _) (by omega) (by omega)) fun v I4 G l4 ⟨b2,cs2,hv2,hcl2,_,hI,hG⟩=>?_
 subst hG
 have htn2:((s.slots.length:Int)+2).toNat=s.slots.length+2:=by omega
 rw[htn2] at hv2 hcl2
 refine⟨_,_,_,hv2,(b2,Obj.cells cs2.toArray 79 (0,0))::(H1++F),(cT fun z=>by have q0:=j7 hp1 z;simp only[c6,di,cS,dp] at q0 ⊢;omega),⟨_,by omega,by omega,rfl,rs,H1,[],by rw[gk,List.take_of_length_le (by omega)],hke,rfl,hO1,by simp,la.start hcl2⟩,fun j m4 I5 F8 l5 ⟨j0,j1,jm,rs,H1,ss,jr,jn,jc,jO,jk,jP⟩=>⟨fun hlt=>?_,fun hlt=>?_⟩⟩
 ·have hlt:=of_decide_eq_true hlt
  have l45:=cc.le_trans (cc.le_trans l1 (cc.le_trans l2' l4)) l5
  have ok1:s.Ok I5 F8:=hx.mono l45 fun a ha=>jP.mem a (List.mem_append_right _ ha)
  obtain⟨ad5,q,had5,hq,hrd5,hqm⟩:=dq.gj (ok1.cons.cons.cons (x:=(c6 b_s s)) (s:=s)).slots j0 hlt
  have hjl:=fV jk (by omega)
  obtain⟨b4,P4,ws,S4,F9,ha4,hn4,hc4,hP4,hws,hp4,hsub4,hup⟩:=jP.opened (z:=2) (f:=cx.enc) (fun _=>rfl) (by omega)
  cases ha4
  have hnew:=hup q [] _ rfl (.refl _)
  rw[←jv P4 q.enc ws S4 (by rw[hws];rfl)] at hnew
  have hjP:Int.toNat j*2=P4.length:=by rw[hP4];omega
  refine⟨⟨j0,hlt⟩,ad5,had5,_,_,hrd5,⟨j0,by omega⟩,_,rfl,P4++(ws++S4),79,F9, ?_⟩
  rw[eD,hjP]
  refine⟨hp4,rfl,by simp only[List.length_append,hws];omega,(s.slots.length-(j+1)).toNat,by omega, ?_⟩
  rw[cY (n:=j+1) (by omega)]
  refine⟨by omega,by omega,rfl,rs,H1,_,jr,jn,jc,jO, ?_,hnew⟩
  rw[show (j+1).toNat=j.toNat+1 by omega,iw hq,List.map_append,jk,List.map_singleton]
 have hlt:=of_decide_eq_false hlt
 have hjl:=fV jk (by omega)
 have hje:ss.length=s.slots.length:=by omega
 obtain⟨b6,cs6,F9',ha6,hn6,hc6,hp6,hle6,hsub6,hdone6⟩:=jP.done (z:=2) (f:=cx.enc) (fun _=>rfl) (by decide) hje
 cases ha6
 refine⟨⟨by omega,by omega⟩,_,rfl,cs6,79,F9', ?_⟩
 rw[add_add,Int.toNat_natCast]
 obtain⟨H2,hO2,hp2⟩:=hdone6 ((b2,Obj.cells (cj (s.slots.length*2+1) [.int .i64 (-771)] cs6).toArray 79 (0,0))::F9') (.refl _)
 refine⟨hp6,rfl,hle6,⟨by omega,by omega,by omega⟩, ?_⟩
 have hw4:IntKind.wrap .i64 ((s.states.length:Int)+2)=(s.states.length:Int)+2:=cY (by omega)
 rw[hw4]
 have hss:ss=s.slots:=by rw[List.map_id,List.map_id,List.take_of_length_le (by omega)] at jk;exact jk
 refine cF.mono (ji (e:=65) (z:=3) (by':=48) (zv:=(⟨⟨#[]⟩,none,0,[],0⟩:cg).v) (by kernel_rfl) (by kernel_rfl) (by omega) (Int.le_refl _) (by omega) (by omega)) fun v I6 G l6 ⟨b3,cs3,hv3,hcl3,_,hI,hG⟩=>?_
 subst hG
 have htn3:((s.states.length:Int)+2).toNat=s.states.length+2:=by omega
 rw[htn3] at hv3 hcl3
 refine⟨_,_,_,hv3,(b3,Obj.cells cs3.toArray 65 (0,0))::(H1++(H2++F)),(cT fun z=>by have q0:=j7 hp2 z;simp only[c6,di,cS,dp] at q0 ⊢;omega),⟨_,by omega,by omega,rfl,rs,H1,ss,H2,[],jr,jn,jc,jO,hss,rfl,hO2,by simp,la.start hcl3⟩,fun k m7 I7 F12 l7 ⟨k0,k1,km,rs,H1,ss,H2,ts,kr,kn,kc,kO,kss,kc2,kO2,kk,kP⟩=>⟨fun hlt=>?_,fun hlt=>?_⟩⟩
 ·have hlt:=of_decide_eq_true hlt
  have l17:=cc.le_trans (cc.le_trans l1 (cc.le_trans l2' l4)) (cc.le_trans l5 (cc.le_trans l6 l7))
  have ok1:s.Ok I7 F12:=hx.mono l17 fun a ha=>kP.mem a (List.mem_append_right _ (List.mem_append_right _ ha))
  obtain⟨ad8,x,had8,hx8,hrd8,hxm⟩:=dq.gj (ok1.cons.cons.cons (x:=(c6 b_s s)) (s:=s)).states k0 hlt
  have hkl:=fV kk (by omega)
  refine⟨⟨k0,hlt⟩,ad8,had8,_,_,_,_,_,hrd8,(wi x (hst x hxm) I7 _ (ok1.state x hxm).cons.cons.cons).mono fun e I8 G l8 ⟨x',Hx,he,px,ox,hG⟩=>?_⟩
  subst he
  obtain⟨b4,P4,ws,S4,F9,ha4,hn4,hc4,hP4,hws,hp4,hsub4,hup⟩:=kP.opened (z:=3) (f:=cg.enc) (fun _=>rfl) (by omega)
  cases ha4
  have hnew:=hup x' Hx _ ox (.refl _)
  rw[←jv P4 x'.enc ws S4 (by rw[hws];rfl)] at hnew
  have hkP:Int.toNat k*3=P4.length:=by rw[hP4];omega
  refine⟨_,_,_,_,_,rfl,Hx++F12,hG.trans (cT fun z=>by simp only[c6,di,cS,dp];omega),⟨k0,by omega⟩,_,rfl,P4++(ws++S4),65,Hx++F9, ?_⟩
  rw[eD,hkP]
  refine⟨(cT fun z=>by have q0:=j7 hp4 z;simp only[c6,di,cS,dp] at q0 ⊢;omega),rfl,by simp only[List.length_append,hws];omega,(s.states.length-(k+1)).toNat,by omega, ?_⟩
  rw[cY (n:=k+1) (by omega)]
  refine⟨by omega,by omega,rfl,rs,H1,ss,H2,_,kr,kn,kc,kO,kss,kc2,kO2, ?_,hnew⟩
  rw[show (k+1).toNat=k.toNat+1 by omega,iw hx8,List.map_append,kk,List.map_singleton,px]
 have hlt:=of_decide_eq_false hlt
 have hkl:=fV kk (by omega)
 have hke3:ts.length=s.states.length:=by omega
 obtain⟨b7,cs7,F9'',ha7,hn7,hc7,hp7,hle7,hsub7,hdone7⟩:=kP.done (z:=3) (f:=cg.enc) (fun _=>rfl) (by decide) hke3
 cases ha7
 refine⟨⟨by omega,by omega⟩,_,rfl,cs7,65,F9'', ?_⟩
 rw[add_add,Int.toNat_natCast]
 obtain⟨H3,hO3,hp3⟩:=hdone7 ((b3,Obj.cells (cj (s.states.length*3+2) [.int .i64 (-771)] cs7).toArray 65 (0,0))::F9'') (.refl _)
 refine⟨hp7,rfl,hle7,⟨by omega,by omega,by omega⟩,⟨s.name,some ⟨b',0,none⟩,s.regs.length+2,rs,some ⟨b2,0,none⟩,s.slots.length+2,ss,some ⟨b3,0,none⟩,s.states.length+2,ts⟩,H1++(H2++H3), ?_, ?_,⟨H1,H2,H3,rfl,kO,kO2,hO3⟩,(show List.Perm ((b3,Obj.cells (cj (s.states.length*3+2) [.int .i64 (-771)] cs7).toArray 65 (0,0))::F9'') _ from (cT fun z=>by have q0:=j7 hp3 z;simp only[c6,di,cS,dp] at q0 ⊢;omega))⟩
 ·rw[jW,jW,jW]
  subst kss
  show Ending.returned (.agg #[.string s.name,.slice (some ⟨b',0,none⟩) (s.regs.length-Int.toNat 0) (s.regs.length+2-Int.toNat 0),.slice (some ⟨b2,0,none⟩) (s.slots.length-Int.toNat 0) (s.slots.length+2-Int.toNat 0),.slice (some ⟨b3,0,none⟩) (s.states.length-Int.toNat 0) (s.states.length+2-Int.toNat 0)]) =
   .returned (.agg #[.string s.name,.slice (some ⟨b',0,none⟩) rs.length (s.regs.length+2),.slice (some ⟨b2,0,none⟩) s.slots.length (s.slots.length+2),.slice (some ⟨b3,0,none⟩) ts.length (s.states.length+2)])
  rw[kn,hke3];rfl
 ·show cu.mk s.name (rs.map cH.p) ss (ts.map cg.p)=⟨s.name,s.regs.map cH.p,s.slots,s.states.map cg.p⟩
  rw[kr,kss,kk,List.take_of_length_le (by omega)]
theorem oL.tail{α:Type}{z E n c:Nat}{f:α→List Value}{O:α→b8→Prop}{a:Option Addr}{l:List α}{H G:b8}(h:oL true z f E O a n c l H)(hG:∀x,x∈H→x∈G) :
  ∃b,a=some ⟨b,0,none⟩∧c=n+2∧∀I,Rd I G (⟨b,n*z+(z-1),none⟩:Addr) [.int .i64 (-771)]:=by
 obtain⟨A,hs,rfl,hA,ht,hO⟩:=h
 obtain⟨b,cells,e,ha,hAe,hc,hm⟩:=ht rfl
 subst hAe
 refine⟨b,ha,hc,fun I=>Rd.qW (hG _ (List.mem_append_left _ (List.mem_cons_self ..))) _ fun j hj=>?_⟩
 have:j=0:=by simpa using hj
 subst this
 rw[Nat.add_zero,hm];rfl
theorem oL.item{α:Type}{R:Bool}{z E n c:Nat}{f:α→List Value}{O:α→b8→Prop}{a:Option Addr}{l:List α}{H:b8}(h:oL R z f E O a n c l H){i:Nat}{k:α}(hk:l[i]? = some k):∃Hk,O k Hk∧∀y,y∈Hk→y∈H:=by
 obtain⟨A,hs,rfl,hA,ht,hO⟩:=h
 have hi:=(List.getElem?_eq_some_iff.1 hk).1
 have hn:=hA.1
 exact⟨hs i,hO i k hk,fun y hy=>List.mem_append_right _ (pH (by omega) hy)⟩
set_option maxHeartbeats 1000000 in
theorem xh{s u:cw}(hs:s.p.dC)(hsh:s.p.cW)(e:s.p=u.p){H:b8}{I:cc}{F:b8}(hO:yI true s H)(hF:∀x,x∈H→x∈F)(hu:u.Ok I F) :
  cf P 23 #[s.v,u.v] I F (dS (.bool true) F):=by
 have lr:=hs.regs
 have ls:=hs.slots
 have lt:=hs.states
 simp only[cw.p,List.length_map] at lr ls lt
 have hst:∀x∈s.states,x.p.dC:=fun x hx=>hs.state _ (List.mem_map_of_mem hx)
 have hsame:s.p.same u.p=true:=by rw[←e];exact cu.dQ _
 have hOk:=hO
 obtain⟨H1,H2,H3,rfl,hO1,hO2,hO3⟩:=hO
 simp only[List.mem_append] at hF
 refine eV.vc (fun q i m I0 F0 I' F'=>F'=F∧0≤i∧i≤s.states.length∧m=(s.states.length-i).toNat)
  (fun i q k m I0 F0 I' F'=>F'=F∧∃x,s.states[i.toNat]? = some x∧0≤k∧k≤x.rules.length∧m=(x.rules.length-k).toNat) ?_
 unfold eV.V
 intro b_x b_was
 have sub2:∀y,y∈F→y∈(c6 b_x s)::(c6 b_was u)::F:=fun y hy=>.tail _ (.tail _ hy)
 have hOkR:∀J,s.Ok J ((c6 b_x s)::(c6 b_was u)::F):=fun J=>hOk.ok fun y hy=>sub2 y (hF y (by simpa using hy))
 refine cf.ret (yG s u hsh I _ (hOkR I) hu.cons.cons) fun I1 l1=>⟨_,rfl,F,.refl _, ?_⟩
 rw[hsame]
 obtain⟨b1,ea1,ec1,rd1⟩:=hO1.tail (G:=(c6 b_x s)::(c6 b_was u)::F) fun y hy=>sub2 y (hF y (.inl hy))
 obtain⟨b2,ea2,ec2,rd2⟩:=hO2.tail (G:=(c6 b_x s)::(c6 b_was u)::F) fun y hy=>sub2 y (hF y (.inr (.inl hy)))
 obtain⟨b3,ea3,ec3,rd3⟩:=hO3.tail (G:=(c6 b_x s)::(c6 b_was u)::F) fun y hy=>sub2 y (hF y (.inr (.inr hy)))
 rw[jW,jW,jW,cY (n:=(s.regs.length:Int)+1) (by omega),cY (n:=(s.slots.length:Int)+1) (by omega),cY (n:=(s.states.length:Int)+1) (by omega)]
 refine⟨fun h=>by (cases h),fun _=>⟨⟨by omega,by omega,by omega⟩,⟨by omega,by omega,by omega⟩,⟨by omega,by omega,by omega⟩,⟨by omega,by omega⟩,_,ea1, -771, ?_,fun h=>by simp at h,fun _=>⟨⟨by omega,by omega⟩,_,ea2, -771, ?_,fun h=>by simp at h,fun _=>⟨⟨by omega,by omega⟩,_,ea3, -771, ?_,fun h=>by simp at h,fun _=>⟨⟨_,rfl,by omega,by omega,rfl⟩,fun q i m I2 F2 l2 ⟨gF,g0,g1,gm⟩=>?_⟩⟩⟩⟩⟩
 ·rw[add_add,Int.toNat_natCast];exact rd1 _
 ·rw[add_add,Int.toNat_natCast];exact rd2 _
 ·rw[add_add,Int.toNat_natCast];exact rd3 _
 subst gF
 refine⟨fun hlt=>?_,fun hlt=>⟨rfl,rfl⟩⟩
 have hlt:=of_decide_eq_true hlt
 obtain⟨ad,x,had,hx,hrd,hxm⟩:=dq.gj (hOkR I2).states g0 hlt
 obtain⟨Hx,ox,hxs⟩:=hO3.item hx
 have hxl:=(hst x hxm).1
 simp only[cg.p,List.length_map] at hxl
 obtain⟨b4,ea4,ec4,rd4⟩:=oL.tail ox (G:=(c6 b_x s)::(c6 b_was u)::F2) fun y hy=>sub2 y (hF y (.inr (.inr (hxs y hy))))
 refine⟨⟨g0,hlt⟩,ad,had,x.a,x.rules.length,x.c,hrd.field (o:=1) rfl, ?_⟩
 rw[jW,cY (n:=(x.rules.length:Int)+1) (by omega)]
 refine⟨⟨by omega,by omega,by omega⟩,⟨by omega,by omega⟩,_,ea4, -771, ?_,fun h=>by simp at h,fun _=>⟨⟨_,rfl,x,hx,by omega,by omega,rfl⟩,fun q1 k m7 I3 F3 l3 ⟨kF,x',hx',k0,k1,km⟩=>?_⟩⟩
 ·rw[add_add,Int.toNat_natCast];exact rd4 _
 subst kF
 obtain rfl:x=x':=by rw[hx] at hx';exact Option.some.inj hx'
 refine⟨fun hlt2=>?_,fun hlt2=>⟨(s.states.length-(i+1)).toNat,by omega,rfl, ?_⟩⟩
 ·have hlt2:=of_decide_eq_true hlt2
  obtain⟨ad5,r,had5,hr,hrd5,hrm⟩:=dq.gj ((hOkR I3).state x hxm).1 k0 hlt2
  obtain⟨Hr,⟨Hw,Hd,rfl,ow,od⟩,hrs⟩:=oL.item ox hr
  have hrl:=(hst x hxm).2 _ (List.mem_map_of_mem hrm)
  have hdl:=hrl.2.1
  simp only[cp.p,List.length_map] at hdl
  have hsr:∀y,y∈Hw++Hd→y∈(c6 b_x s)::(c6 b_was u)::F3:=fun y hy=>sub2 y (hF y (.inr (.inr (hxs y (hrs y hy)))))
  obtain⟨b6,ea6,ec6,rd6⟩:=od.tail (G:=(c6 b_x s)::(c6 b_was u)::F3) fun y hy=>hsr y (List.mem_append_right _ hy)
  have rdd:∀J,Rd J ((c6 b_x s)::(c6 b_was u)::F3) ((ad5.add (Int.toNat k*10)).add 8) [.slice r.a r.dos.length r.c]:=fun J=>by
   obtain⟨ad5',r',had5',hr',hrd5',_⟩:=dq.gj ((hOkR J).state x hxm).1 k0 hlt2
   rw[had5] at had5'
   cases had5'
   obtain rfl:r=r':=by rw[hr] at hr';exact Option.some.inj hr'
   exact hrd5'.field (o:=8) rfl
  refine⟨⟨k0,hlt2⟩,ad5,had5,r.a,r.dos.length,r.c,rdd I3,⟨k0,hlt2⟩,ad5,had5,r.a,r.dos.length,r.c,rdd I3, ?_⟩
  rw[jW,cY (n:=(r.dos.length:Int)+1) (by omega)]
  refine⟨⟨by omega,by omega,by omega⟩,⟨k0,hlt2⟩,ad5,had5,r.when.kind,r.when.oper,r.when.cO,r.when.n,r.when.field,r.when.name,r.when.a,r.when.kids.length,r.when.c,r.when.pos,Rd.part (o:=0) hrd5 (xs:=[]) (ds:=r.when.enc) (ys:=[.slice r.a r.dos.length r.c,.int .i64 r.pos]) rfl rfl,
   cf.ret (DS r.when hrl.1 Hw I3 _ ow fun y hy=>hsr y (List.mem_append_left _ hy)) fun I4 l4=>⟨_,rfl,F3,.refl _,fun h=>by (cases h),fun _=>⟨⟨k0,hlt2⟩,ad5,had5,r.a,r.dos.length,r.c,rdd I4,⟨by omega,by omega⟩,_,ea6, -771, ?_,fun h=>by simp at h,fun _=>⟨(x.rules.length-(k+1)).toNat,by omega,rfl,x,hx, ?_⟩⟩⟩⟩
  ·rw[add_add,Int.toNat_natCast];exact rd6 _
  ·rw[cY (n:=k+1) (by omega)]
   exact⟨by omega,by omega,rfl⟩
 ·have hlt2:=of_decide_eq_false hlt2
  rw[cY (n:=i+1) (by omega)]
  exact⟨by omega,by omega,rfl⟩
end Go.Lx
namespace Go.Lx
open Go.Vc Go.Proofs.Tryz
def om:List (Nat×List Sh):=[(4,[.one .bool]),(9,[.one .str]),(28,[.agg [(.int .u8),(.int .u8),(.int .u8),(.int .i64),(.int .u8),.str,.slc,(.int .i64)]]),(47,[.one (.int .i64)]),(65,[.agg [.str,.slc,(.int .i64)]]),(77,[.agg [.str,(.int .u8),(.int .u8),(.int .u8),(.int .u8),(.int .i64),(.int .u8),.str,.slc,(.int .i64),(.int .i64)]]),(84,[.agg [(.int .u8),(.int .u8),(.int .u8),(.int .i64),(.int .u8),.str,.slc,(.int .i64),.slc,(.int .i64)]]),(99,[.agg [(.int .u8),(.int .u8),.str,(.int .u8),(.int .u8),(.int .u8),(.int .i64),(.int .u8),.str,.slc,(.int .i64),(.int .u8),(.int .u8),(.int .u8),(.int .i64),(.int .u8),.str,.slc,(.int .i64),(.int .u8),(.int .u8),(.int .u8),(.int .i64),(.int .u8),.str,.slc,(.int .i64),(.int .u8),(.int .u8),(.int .u8),(.int .i64),(.int .u8),.str,.slc,(.int .i64),(.int .i64)]])]
def lT.V(b:Nat→Nat×Obj)(vb vi:Int→Value)(vs:Bs→Value)(vl:OA→Nat→Nat→Value)(ah:Bs)(q:OA)(d aj:Nat)(s:OA)(e ak:Nat)(t:OA)(a al:Nat)(I:cc)(F:b8)(Q:cd)(Inv24:Int→Bool→Int→Nat→cc→b8→Prop)(Inv55:Int→Bool→Int→Nat→cc→b8→Prop)(Inv94:Int→Int→Nat→cc→b8→Prop):Prop:=∀c:Nat,cy P 61 #[vs ah] I ((b c)::·) F .bool fun r I1 F1=>(It (!r) (Q (.returned (vi 120)) I1 F1) (Dt ((d:Int)>12) (Q (.returned (vi 121)) I1 F1) ((∃m:Nat,Inv24 0 r 0 m I1 F1)∧∀(x:Int) (ok:Bool) (i:Int) (m1:Nat) (I2:cc) (F2:b8),cc.le I1 I2→Inv24 x ok i m1 I2 F2→(Dt (i<(d:Int)) ((0≤i∧i<(d:Int))∧∃ad:Addr,q=some ad∧∃(u:Bs) (v w y z aa ab:Int) (ac:Bs) (f:OA) (g h:Nat) (ae n:Int),Rd I2 ((b c)::F2) (ad.add (Int.toNat i*11)) [vs u,vb v,vb w,vb y,vb z,vi aa,vb ab,vs ac,vl f g h,vi ae,vi n]∧cy P 75 #[.agg #[vs u,vb v,vb w,vb y,vb z,vi aa,vb ab,vs ac,vl f g h,vi ae,vi n]] I2 ((b c)::·) F2 .bool fun r1 I3 F3=>(It (!r1) (Q (.returned (vi 120)) I3 F3) (∃m2:Nat,m2<m1∧Inv24 x r1 (IntKind.wrap .i64 (i+1)) m2 I3 F3))) (Dt ((e:Int)>4) (Q (.returned (vi 121)) I2 F2) ((∃m3:Nat,Inv55 x ok 0 m3 I2 F2)∧∀(x1:Int) (ai:Bool) (i1:Int) (m4:Nat) (I4:cc) (F4:b8),cc.le I2 I4→Inv55 x1 ai i1 m4 I4 F4→(Dt (i1<(e:Int)) ((0≤i1∧i1<(e:Int))∧∃af:Addr,s=some af∧∃(m5:Bs),Rd I4 ((b c)::F4) ((af.add (Int.toNat i1*2)).add 0) [vs m5]∧cy P 61 #[vs m5] I4 ((b c)::·) F4 .bool fun r2 I5 F5=>(It (!r2) (Q (.returned (vi 120)) I5 F5) (∃m6:Nat,m6<m4∧Inv55 x1 r2 (IntKind.wrap .i64 (i1+1)) m6 I5 F5))) (It ((a:Int)==0) (Q (.returned (vi 120)) I4 F4) (Dt ((a:Int)>12) (Q (.returned (vi 121)) I4 F4) ((∃m7:Nat,Inv94 x1 0 m7 I4 F4)∧∀(x2 i2:Int) (m8:Nat) (I6:cc) (F6:b8),cc.le I4 I6→Inv94 x2 i2 m8 I6 F6→(Dt (i2<(a:Int)) ((0≤i2∧i2<(a:Int))∧∃ag:Addr,t=some ag∧∃(o:Bs) (j:OA) (k l:Nat) (p:Int),Rd I6 ((b c)::F6) (ag.add (Int.toNat i2*3)) [vs o,vl j k l,vi p]∧cy P 76 #[.agg #[vs o,vl j k l,vi p]] I6 ((b c)::·) F6 vi fun r3 I7 F7=>(It (r3 != 0) (Q (.returned (vi r3)) I7 F7) (∃m9:Nat,m9<m8∧Inv94 x2 (IntKind.wrap .i64 (i2+1)) m9 I7 F7))) (Q (.returned (vi 0)) I6 F6))))))))))))
theorem lT.vc{l:Bs}{a:OA}{c d:Nat}{e:OA}{f g:Nat}{i:OA}{j k:Nat}{I:cc}{F:b8}{Q:cd}(Inv24:Int→Bool→Int→Nat→cc→b8→Prop)(Inv55:Int→Bool→Int→Nat→cc→b8→Prop)(Inv94:Int→Int→Nat→cc→b8→Prop)(h:lT.V (fun b=>(b,Obj.cells #[.string l,.slice a c d,.slice e f g,.slice i j k] 39 (0,0))) (.int .u8) (.int .i64) .string .slice l a c d e f g i j k I F Q Inv24 Inv55 Inv94):cf P 47 #[.agg #[.string l,.slice a c d,.slice e f g,.slice i j k]] I F Q :=
 tw (A:=(cK [2001,4003,7004,10001,12003,15004,18001,20003,22003,25004,28001] [] [61,75,76] om [(24,⟨[(2,(.int .i64)),(3,.bool),(4,(.int .i64))],[],fun _ _ _ vs m I F=>match vs with | [.int _ y0,.bool y1,.int _ y2]=>Inv24 y0 y1 y2 m I F | _=>False,[],[]⟩),(55,⟨[(2,(.int .i64)),(3,.bool),(5,(.int .i64))],[],fun _ _ _ vs m I F=>match vs with | [.int _ y0,.bool y1,.int _ y2]=>Inv55 y0 y1 y2 m I F | _=>False,[],[]⟩),(94,⟨[(2,(.int .i64)),(6,(.int .i64))],[],fun _ _ _ vs m I F=>match vs with | [.int _ y0,.int _ y1]=>Inv94 y0 y1 m I F | _=>False,[],[]⟩)] [] [] [] [] [] [])) [61,75,76] func47 h
def pZ.V(a:Nat→Nat×Obj)(vb:Int→Value)(vt:Bool→Value)(g:Bs)(b h i j k l:Int)(m:Bs)(d:OA)(e f:Nat)(n o:Int)(I:cc)(F:b8)(Q:cd)  : Prop:=∀c:Nat,cy P 61 #[.string g] I ((a c)::·) F vt fun r I1 F1=>(It r (Dt (b≥1) (Dt (b≤6) (cy P 114 #[.agg #[vb h,vb i,vb j,.int .i64 k,vb l,.string m,.slice d e f,.int .i64 n]] I1 ((a c)::·) F1 vt fun r1 I2 F2=>Q (.returned (vt r1)) I2 F2) (Q (.returned (vt false)) I1 F1)) (Q (.returned (vt false)) I1 F1)) (Q (.returned (vt false)) I1 F1))
theorem pZ.vc{f:Bs}{g i j k l m:Int}{n:Bs}{a:OA}{c d:Nat}{o e:Int}{I:cc}{F:b8}{Q:cd}  (h:pZ.V (fun b=>(b,Obj.cells #[.string f,.int .u8 g,.int .u8 i,.int .u8 j,.int .u8 k,.int .i64 l,.int .u8 m,.string n,.slice a c d,.int .i64 o,.int .i64 e] 77 (0,0))) (.int .u8) .bool f g i j k l m n a c d o e I F Q):cf P 75 #[.agg #[.string f,.int .u8 g,.int .u8 i,.int .u8 j,.int .u8 k,.int .i64 l,.int .u8 m,.string n,.slice a c d,.int .i64 o,.int .i64 e]] I F Q :=
 tw (A:=(an [2000,2004,2009] [61,114] om)) [61,114] func75 h
def lU.V(b:Nat→Nat×Obj)(vb vi:Int→Value)(vl:OA→Nat→Nat→Value)(v:Bs)(k:OA)(a w:Nat)(y:Int)(I:cc)(F:b8)(Q:cd)(Inv24:Int→Int→Nat→cc→b8→Prop):Prop:=∀c:Nat,cy P 61 #[.string v] I ((b c)::·) F .bool fun r I1 F1=>(It (!r) (Q (.returned (vi 120)) I1 F1) (Dt ((a:Int)>12) (Q (.returned (vi 121)) I1 F1) ((∃m:Nat,Inv24 0 0 m I1 F1)∧∀(x i:Int) (m1:Nat) (I2:cc) (F2:b8),cc.le I1 I2→Inv24 x i m1 I2 F2→(Dt (i<(a:Int)) ((0≤i∧i<(a:Int))∧∃ad:Addr,k=some ad∧∃(l n o p q:Int) (s:Bs) (d:OA) (e f:Nat) (t:Int) (g:OA) (h j:Nat) (u:Int),Rd I2 ((b c)::F2) (ad.add (Int.toNat i*10)) [vb l,vb n,vb o,vi p,vb q,.string s,vl d e f,vi t,vl g h j,vi u]∧cy P 115 #[.agg #[vb l,vb n,vb o,vi p,vb q,.string s,vl d e f,vi t,vl g h j,vi u]] I2 ((b c)::·) F2 vi fun r1 I3 F3=>(It (r1 != 0) (Q (.returned (vi r1)) I3 F3) (∃m2:Nat,m2<m1∧Inv24 x (IntKind.wrap .i64 (i+1)) m2 I3 F3))) (Q (.returned (vi 0)) I2 F2)))))
theorem lU.vc{e:Bs}{a:OA}{c d:Nat}{f:Int}{I:cc}{F:b8}{Q:cd}(Inv24:Int→Int→Nat→cc→b8→Prop)(h:lU.V (fun b=>(b,Obj.cells #[.string e,.slice a c d,.int .i64 f] 65 (0,0))) (.int .u8) (.int .i64) .slice e a c d f I F Q Inv24):cf P 76 #[.agg #[.string e,.slice a c d,.int .i64 f]] I F Q :=
 tw (A:=(cK [2001,4003,7004,10001] [] [61,115] om [(24,⟨[(2,(.int .i64)),(4,(.int .i64))],[],fun _ _ _ vs m I F=>match vs with | [.int _ y0,.int _ y1]=>Inv24 y0 y1 m I F | _=>False,[],[]⟩)] [] [] [] [] [] [])) [61,115] func76 h
def oo.V(b:Nat→Nat×Obj)(vb vi:Int→Value)(vs:Bs→Value)(vl:OA→Nat→Nat→Value)(aG aH aI aJ aK:Int)(aL:Bs)(ar:OA)(au av:Nat)(aM:Int)(aw:OA)(a aN:Nat)(aO:Int)(I:cc)(F:b8)(Q:cd)(Inv32:Int→Int→Int→Nat→cc→b8→Prop):Prop:=∀n:Nat,cy P 137 #[.agg #[vb aG,vb aH,vb aI,vi aJ,vb aK,vs aL,vl ar au av,vi aM]] I ((b n)::·) F vi fun r I1 F1=>(It (r != 0) (Q (.returned (vi r)) I1 F1) (It ((a:Int)==0) (Q (.returned (vi 120)) I1 F1) (Dt ((a:Int)>8) (Q (.returned (vi 121)) I1 F1) ((∃m:Nat,Inv32 0 r 0 m I1 F1)∧∀(x e2 i:Int) (m1:Nat) (I2:cc) (F2:b8),cc.le I1 I2→Inv32 x e2 i m1 I2 F2→(Dt (i<(a:Int)) ((0≤i∧i<(a:Int))∧∃ad:Addr,aw=some ad∧∃(ax ay:Int) (az:Bs) (aA aB aC aD aE:Int) (aF:Bs) (o:OA) (p q:Nat) (s t u v w y:Int) (z:Bs) (c:OA) (d e:Nat) (aa ab ac ae af ag:Int) (ah:Bs) (f:OA) (g h:Nat) (ai aj ak al am an:Int) (ao:Bs) (j:OA) (k l:Nat) (ap aq:Int),Rd I2 ((b n)::F2) (ad.add (Int.toNat i*36)) [vb ax,vb ay,vs az,vb aA,vb aB,vb aC,vi aD,vb aE,vs aF,vl o p q,vi s,vb t,vb u,vb v,vi w,vb y,vs z,vl c d e,vi aa,vb ab,vb ac,vb ae,vi af,vb ag,vs ah,vl f g h,vi ai,vb aj,vb ak,vb al,vi am,vb an,vs ao,vl j k l,vi ap,vi aq]∧cy P 138 #[.agg #[vb ax,vb ay,vs az,vb aA,vb aB,vb aC,vi aD,vb aE,vs aF,vl o p q,vi s,vb t,vb u,vb v,vi w,vb y,vs z,vl c d e,vi aa,vb ab,vb ac,vb ae,vi af,vb ag,vs ah,vl f g h,vi ai,vb aj,vb ak,vb al,vi am,vb an,vs ao,vl j k l,vi ap,vi aq]] I2 ((b n)::·) F2 vi fun r1 I3 F3=>(It (r1 != 0) (Q (.returned (vi r1)) I3 F3) (∃m2:Nat,m2<m1∧Inv32 x r1 (IntKind.wrap .i64 (i+1)) m2 I3 F3))) (Q (.returned (vi 0)) I2 F2))))))
theorem oo.vc{i j k l n:Int}{o:Bs}{a:OA}{c d:Nat}{p:Int}{e:OA}{f g:Nat}{q:Int}{I:cc}{F:b8}{Q:cd}(Inv32:Int→Int→Int→Nat→cc→b8→Prop)(h:oo.V (fun b=>(b,Obj.cells #[.int .u8 i,.int .u8 j,.int .u8 k,.int .i64 l,.int .u8 n,.string o,.slice a c d,.int .i64 p,.slice e f g,.int .i64 q] 84 (0,0))) (.int .u8) (.int .i64) .string .slice i j k l n o a c d p e f g q I F Q Inv32):cf P 115 #[.agg #[.int .u8 i,.int .u8 j,.int .u8 k,.int .i64 l,.int .u8 n,.string o,.slice a c d,.int .i64 p,.slice e f g,.int .i64 q]] I F Q :=
 tw (A:=(cK [2001,4003,6003,9004,12001] [] [137,138] om [(32,⟨[(2,(.int .i64)),(3,(.int .i64)),(4,(.int .i64))],[],fun _ _ _ vs m I F=>match vs with | [.int _ y0,.int _ y1,.int _ y2]=>Inv32 y0 y1 y2 m I F | _=>False,[],[]⟩)] [] [] [] [] [] [])) [137,138] func115 h
def su.V(a:Nat→Nat×Obj)(nV:Int→Int→Int→Int→Int→Bs→OA→Nat→Nat→Int→Value)(vi:Int→Value)(vl:OA→Nat→Nat→Value)(vt:Bool→Value)(d k:Int)(ab:Bs)(aE aF aG aH aI:Int)(aJ:Bs)(an:OA)(ao ap:Nat)(aD ag ah ai aj ak:Int)(al:Bs)(ac:OA)(ad ae:Nat)(am l m n o p:Int)(q:Bs)(e:OA)(f g:Nat)(s t u v w y:Int)(z:Bs)(h:OA)(i j:Nat)(aa aX:Int)(I:cc)(F:b8)(Q:cd)(Inv6:Int→cc→b8→Prop)(Inv14:Int→cc→b8→Prop)(Inv24:Int→cc→b8→Prop):Prop:=∀c:Nat,((Dt (d<1) (Q (.returned (vi 120)) I F) (Dt (d>6) (Q (.returned (vi 120)) I F) (Inv6 0 I F))))∧∀(x:Int) (I1:cc) (F1:b8),cc.le I I1→Inv6 x I1 F1→((It (d==1) (Dt (k<1) (Q (.returned (vi 120)) I1 F1) (Dt (k>5) (Q (.returned (vi 120)) I1 F1) (It (!(d==1)) (It (k != 0) (Q (.returned (vi 120)) I1 F1) (Inv14 x I1 F1)) (Inv14 x I1 F1)))) (It (!(d==1)) (It (k != 0) (Q (.returned (vi 120)) I1 F1) (Inv14 x I1 F1)) (Inv14 x I1 F1))))∧∀(x1:Int) (I2:cc) (F2:b8),cc.le I1 I2→Inv14 x1 I2 F2→cy P 61 #[.string ab] I2 ((a c)::·) F2 vt fun r I3 F3=>((It (d==6) (It (!(ab.toList==(⟨#[]⟩:Bs).toList)) (Q (.returned (vi 120)) I3 F3) (It (d != 6) (It (!r) (It (d==1) (It (!(ab.toList==(⟨#[]⟩:Bs).toList)) (Q (.returned (vi 120)) I3 F3) (Inv24 x1 I3 F3)) (It true (Q (.returned (vi 120)) I3 F3) (Inv24 x1 I3 F3))) (Inv24 x1 I3 F3)) (Inv24 x1 I3 F3))) (It (d != 6) (It (!r) (It (d==1) (It (!(ab.toList==(⟨#[]⟩:Bs).toList)) (Q (.returned (vi 120)) I3 F3) (Inv24 x1 I3 F3)) (It true (Q (.returned (vi 120)) I3 F3) (Inv24 x1 I3 F3))) (Inv24 x1 I3 F3)) (Inv24 x1 I3 F3))))∧∀(x2:Int) (I4:cc) (F4:b8),cc.le I3 I4→Inv24 x2 I4 F4→cy P 153 (#[vt (d==1),nV aE aF aG aH aI aJ an ao ap aD]) I4 ((a c)::·) F4 vi fun r1 I5 F5=>(It (d==1) (cy P 153 #[vt true,nV ag ah ai aj ak al ac ad ae am] I5 ((a c)::·) F5 vi fun r2 I6 F6=>(It (d==1) (It (k != 2) (cy P 153 #[vt true,nV l m n o p q e f g s] I6 ((a c)::·) F6 vi fun r3 I7 F7=>cy P 153 (#[vt (d==4),nV t u v w y z h i j aa]) I7 ((a c)::·) F7 vi fun r4 I8 F8=>∀(b:Nat) (I9:cc),cc.le I8 I9→I9 b=some (Obj.cells #[vi r1,vi r2,vi r3,vi r4] 47 (0,0))→cy P 154 (#[vl (some ⟨b,0,none⟩) 4 4]) I9 ((a c)::·) F8 vi fun r5 I10 F9=>Q (.returned (vi r5)) I10 F9) (cy P 153 (#[vt (d==2),nV l m n o p q e f g s]) I6 ((a c)::·) F6 vi fun r6 I11 F10=>cy P 153 (#[vt (d==4),nV t u v w y z h i j aa]) I11 ((a c)::·) F10 vi fun r7 I12 F11=>∀(b1:Nat) (I13:cc),cc.le I12 I13→I13 b1=some (Obj.cells #[vi r1,vi r2,vi r6,vi r7] 47 (0,0))→cy P 154 (#[vl (some ⟨b1,0,none⟩) 4 4]) I13 ((a c)::·) F11 vi fun r8 I14 F12=>Q (.returned (vi r8)) I14 F12)) (cy P 153 (#[vt (d==2),nV l m n o p q e f g s]) I6 ((a c)::·) F6 vi fun r9 I15 F13=>cy P 153 (#[vt (d==4),nV t u v w y z h i j aa]) I15 ((a c)::·) F13 vi fun aq I16 F14=>∀(b2:Nat) (I17:cc),cc.le I16 I17→I17 b2=some (Obj.cells #[vi r1,vi r2,vi r9,vi aq] 47 (0,0))→cy P 154 (#[vl (some ⟨b2,0,none⟩) 4 4]) I17 ((a c)::·) F14 vi fun ar I18 F15=>Q (.returned (vi ar)) I18 F15))) (cy P 153 (#[vt (d==2),nV ag ah ai aj ak al ac ad ae am]) I5 ((a c)::·) F5 vi fun af I19 F16=>(It (d==1) (It (k != 2) (cy P 153 #[vt true,nV l m n o p q e f g s] I19 ((a c)::·) F16 vi fun au I20 F17=>cy P 153 (#[vt (d==4),nV t u v w y z h i j aa]) I20 ((a c)::·) F17 vi fun av I21 F18=>∀(b3:Nat) (I22:cc),cc.le I21 I22→I22 b3=some (Obj.cells #[vi r1,vi af,vi au,vi av] 47 (0,0))→cy P 154 (#[vl (some ⟨b3,0,none⟩) 4 4]) I22 ((a c)::·) F18 vi fun aw I23 F19=>Q (.returned (vi aw)) I23 F19) (cy P 153 (#[vt (d==2),nV l m n o p q e f g s]) I19 ((a c)::·) F16 vi fun ax I24 F20=>cy P 153 (#[vt (d==4),nV t u v w y z h i j aa]) I24 ((a c)::·) F20 vi fun ay I25 F21=>∀(b4:Nat) (I26:cc),cc.le I25 I26→I26 b4=some (Obj.cells #[vi r1,vi af,vi ax,vi ay] 47 (0,0))→cy P 154 (#[vl (some ⟨b4,0,none⟩) 4 4]) I26 ((a c)::·) F21 vi fun az I27 F22=>Q (.returned (vi az)) I27 F22)) (cy P 153 (#[vt (d==2),nV l m n o p q e f g s]) I19 ((a c)::·) F16 vi fun aA I28 F23=>cy P 153 (#[vt (d==4),nV t u v w y z h i j aa]) I28 ((a c)::·) F23 vi fun aB I29 F24=>∀(b5:Nat) (I30:cc),cc.le I29 I30→I30 b5=some (Obj.cells #[vi r1,vi af,vi aA,vi aB] 47 (0,0))→cy P 154 (#[vl (some ⟨b5,0,none⟩) 4 4]) I30 ((a c)::·) F24 vi fun aC I31 F25=>Q (.returned (vi aC)) I31 F25))))
theorem su.vc{ay az:Int}{aA:Bs}{aB aC aD aE aF:Int}{aG:Bs}{w:OA}{x y:Nat}{z aa ab ac ad ae:Int}{af:Bs}{d:OA}{e g:Nat}{ag ah ai aj ak al:Int}{am:Bs}{i:OA}{j p:Nat}{an ao ap aq ar au:Int}{av:Bs}{r:OA}{u v:Nat}{aw ax:Int}{I:cc}{F:b8}{Q:cd}(Inv6:Int→cc→b8→Prop)(Inv14:Int→cc→b8→Prop)(Inv24:Int→cc→b8→Prop)(h:su.V (fun b=>(b,Obj.cells #[.int .u8 ay,.int .u8 az,.string aA,.int .u8 aB,.int .u8 aC,.int .u8 aD,.int .i64 aE,.int .u8 aF,.string aG,.slice w x y,.int .i64 z,.int .u8 aa,.int .u8 ab,.int .u8 ac,.int .i64 ad,.int .u8 ae,.string af,.slice d e g,.int .i64 ag,.int .u8 ah,.int .u8 ai,.int .u8 aj,.int .i64 ak,.int .u8 al,.string am,.slice i j p,.int .i64 an,.int .u8 ao,.int .u8 ap,.int .u8 aq,.int .i64 ar,.int .u8 au,.string av,.slice r u v,.int .i64 aw,.int .i64 ax] 99 (0,0))) (fun k o t n f s a l c q=>.agg #[.int .u8 k,.int .u8 o,.int .u8 t,.int .i64 n,.int .u8 f,.string s,.slice a l c,.int .i64 q]) (.int .i64) .slice .bool ay az aA aB aC aD aE aF aG w x y z aa ab ac ad ae af d e g ag ah ai aj ak al am i j p an ao ap aq ar au av r u v aw ax I F Q Inv6 Inv14 Inv24):cf P 138 #[.agg #[.int .u8 ay,.int .u8 az,.string aA,.int .u8 aB,.int .u8 aC,.int .u8 aD,.int .i64 aE,.int .u8 aF,.string aG,.slice w x y,.int .i64 z,.int .u8 aa,.int .u8 ab,.int .u8 ac,.int .i64 ad,.int .u8 ae,.string af,.slice d e g,.int .i64 ag,.int .u8 ah,.int .u8 ai,.int .u8 aj,.int .i64 ak,.int .u8 al,.string am,.slice i j p,.int .i64 an,.int .u8 ao,.int .u8 ap,.int .u8 aq,.int .i64 ar,.int .u8 au,.string av,.slice r u v,.int .i64 aw,.int .i64 ax]] I F Q :=
 tw (A:=(cK [3002,3006,5000,5004,5008,5013,5017,8002,8006,8011,8014,8017,8023,11000,12000,12004] [] [61,153,154] om [(6,⟨[(2,(.int .i64))],[],fun _ _ _ vs m I F=>match vs with | [.int _ y0]=>Inv6 y0 I F | _=>False,[],[]⟩),(14,⟨[(2,(.int .i64))],[],fun _ _ _ vs m I F=>match vs with | [.int _ y0]=>Inv14 y0 I F | _=>False,[],[]⟩),(24,⟨[(2,(.int .i64))],[],fun _ _ _ vs m I F=>match vs with | [.int _ y0]=>Inv24 y0 I F | _=>False,[],[]⟩)] [14004] [] [] [] [] [])) [61,153,154] func138 h
def lV.V(vi:Int→Value)(b:OA)(a d:Nat)(I:cc)(F:b8)(Q:cd)(Inv6:Int→Int→Nat→cc→b8→Prop):Prop:=(∃m:Nat,Inv6 0 0 m I F)∧∀(x i:Int) (m1:Nat) (I1:cc) (F1:b8),cc.le I I1→Inv6 x i m1 I1 F1→(Dt (i<(a:Int)) ((0≤i∧i<(a:Int))∧∃ad:Addr,b=some ad∧∃(m2:Int),Rd I1 F1 (ad.add (Int.toNat i*1)) [vi m2]∧(It (m2 != 0) ((0≤i∧i<(a:Int))∧∃c:Addr,b=some c∧∃(m3:Int),Rd I1 F1 (c.add (Int.toNat i*1)) [vi m3]∧Q (.returned (vi m3)) I1 F1) (∃m4:Nat,m4<m1∧Inv6 x (IntKind.wrap .i64 (i+1)) m4 I1 F1))) (Q (.returned (vi 0)) I1 F1))
theorem lV.vc{a:OA}{b c:Nat}{I:cc}{F:b8}{Q:cd}(Inv6:Int→Int→Nat→cc→b8→Prop)(h:lV.V (.int .i64) a b c I F Q Inv6):cf P 154 #[.slice a b c] I F Q :=
 tw (A:=(cK [2003,4004] [] [] om [(6,⟨[(2,(.int .i64)),(3,(.int .i64))],[],fun _ _ _ vs m I F=>match vs with | [.int _ y0,.int _ y1]=>Inv6 y0 y1 m I F | _=>False,[],[]⟩)] [] [] [] [] [] [])) [] func154 h
def oq.V(a:Nat→Nat×Obj)(nV:Int→Int→Int→Int→Int→Bs→OA→Nat→Nat→Int→Value)(vi:Int→Value)(b:Bool)(g h i j k:Int)(l:Bs)(c:OA)(d e:Nat)(m:Int)(I:cc)(F:b8)(Q:cd)  : Prop:=∀f:Nat,(It b (cy P 137 #[nV g h i j k l c d e m] I ((a f)::·) F vi fun r I1 F1=>Q (.returned (vi r)) I1 F1) (cy P 164 #[nV g h i j k l c d e m] I ((a f)::·) F .bool fun r1 I2 F2=>(It (!r1) (Q (.returned (vi 120)) I2 F2) (Q (.returned (vi 0)) I2 F2))))
theorem oq.vc{i:Bool}{j m p r u:Int}{v:Bs}{d:OA}{e g:Nat}{w:Int}{I:cc}{F:b8}{Q:cd}  (h:oq.V (fun b=>(b,Obj.cells #[.int .u8 j,.int .u8 m,.int .u8 p,.int .i64 r,.int .u8 u,.string v,.slice d e g,.int .i64 w] 28 (0,0))) (fun k o t n f s a l c q=>.agg #[.int .u8 k,.int .u8 o,.int .u8 t,.int .i64 n,.int .u8 f,.string s,.slice a l c,.int .i64 q]) (.int .i64) i j m p r u v d e g w I F Q):cf P 153 #[.bool i,.agg #[.int .u8 j,.int .u8 m,.int .u8 p,.int .i64 r,.int .u8 u,.string v,.slice d e g,.int .i64 w]] I F Q :=
 tw (A:=(an [1000,4001] [137,164] om)) [137,164] func153 h
def ou.V(nO:Int→Int→Int→Int→Int→Bs→OA→Nat→Nat→Int→Obj)(vb:Int→Value)(vt:Bool→Value)(d e f g h:Int)(i:Bs)(b:OA)(a c:Nat)(j:Int)(I:cc)(F:b8)(Q:cd)  : Prop:=∀k:Nat,(It (d==0) (cy P 62 #[.agg #[vb d,vb e,vb f,.int .i64 g,vb h,.string i,.slice b a c,.int .i64 j]] I ((k,nO d e f g h i b a c j)::·) F vt fun r I1 F1=>(It r (Q (.returned (vt ((a:Int)==0))) I1 F1) (Q (.returned (vt false)) I1 F1))) (Q (.returned (vt false)) I F))
theorem ou.vc{g i j m p:Int}{r:Bs}{b:OA}{d e:Nat}{u:Int}{I:cc}{F:b8}{Q:cd}  (h:ou.V (fun k o t n f s a l c q=>.cells #[.int .u8 k,.int .u8 o,.int .u8 t,.int .i64 n,.int .u8 f,.string s,.slice a l c,.int .i64 q] 28 (0,0)) (.int .u8) .bool g i j m p r b d e u I F Q):cf P 164 #[.agg #[.int .u8 g,.int .u8 i,.int .u8 j,.int .i64 m,.int .u8 p,.string r,.slice b d e,.int .i64 u]] I F Q :=
 tw (A:=(an [1002,1005] [62] om)) [62] func164 h
def kv.V(b:Nat→Nat×Obj)(nV:Int→Int→Int→Int→Int→Bs→OA→Nat→Nat→Int→Value)(nO:Int→Int→Int→Int→Int→Bs→OA→Nat→Nat→Int→Obj)(vb:Int→Value)(vt:Bool→Value)(c g l m n:Int)(o:Bs)(d:OA)(a f:Nat)(p:Int)(I:cc)(F:b8)(Q:cd)  : Prop:=∀e:Nat,(It (c==5) (It (g==1) (It ((a:Int)==1) ((0≤(0:Int)∧(0:Int)<(a:Int))∧∃ad:Addr,d=some ad∧∃(k s q t u:Int) (v:Bs) (h:OA) (i j:Nat) (w:Int),Rd I ((b e)::F) (ad.add (Int.toNat 0*8)) [vb k,vb s,vb q,.int .i64 t,vb u,.string v,.slice h i j,.int .i64 w]∧∀x:Nat,cy P 15 #[nV c g l m n o d a f p] I ((b e)::(x,nO k s q t u v h i j w)::·) F vt fun r I1 F1=>(It r (It (k==1) (Q (.returned (vt (decide (q≤4)))) I1 F1) (Q (.returned (vt false)) I1 F1)) (Q (.returned (vt false)) I1 F1))) (cy P 15 #[nV c g l m n o d a f p] I ((b e)::·) F vt fun r1 I2 F2=>(It r1 (Q (.returned (vt (c==1))) I2 F2) (Q (.returned (vt false)) I2 F2)))) (cy P 15 #[nV c g l m n o d a f p] I ((b e)::·) F vt fun r2 I3 F3=>(It r2 (Q (.returned (vt (c==1))) I3 F3) (Q (.returned (vt false)) I3 F3)))) (cy P 15 #[nV c g l m n o d a f p] I ((b e)::·) F vt fun r3 I4 F4=>(It r3 (Q (.returned (vt (c==1))) I4 F4) (Q (.returned (vt false)) I4 F4))))
theorem kv.vc{i j m p r:Int}{u:Bs}{d:OA}{e g:Nat}{v:Int}{I:cc}{F:b8}{Q:cd}  (h:kv.V (fun b=>(b,Obj.cells #[.int .u8 i,.int .u8 j,.int .u8 m,.int .i64 p,.int .u8 r,.string u,.slice d e g,.int .i64 v] 28 (0,0))) (fun k o t n f s a l c q=>.agg #[.int .u8 k,.int .u8 o,.int .u8 t,.int .i64 n,.int .u8 f,.string s,.slice a l c,.int .i64 q]) (fun k o t n f s a l c q=>.cells #[.int .u8 k,.int .u8 o,.int .u8 t,.int .i64 n,.int .u8 f,.string s,.slice a l c,.int .i64 q] 28 (0,0)) (.int .u8) .bool i j m p r u d e g v I F Q):cf P 114 #[.agg #[.int .u8 i,.int .u8 j,.int .u8 m,.int .i64 p,.int .u8 r,.string u,.slice d e g,.int .i64 v]] I F Q :=
 tw (A:=(an [1002,1006,1012,3001,3005,4001] [15] om)) [15] func114 h
end Go.Lx
namespace Go.Lx
open Go.Vc
theorem Cc(t:Nd)(I:cc)(F:b8):cf P 164 #[t.v] I F (dS (.bool t.px.tQ) F):=by
 refine ou.vc ?_
 unfold ou.V
 intro b_n
 have hdef:t.px.tQ=(t.kind==0&&(zB t.oper t.cO t.n t.field t.name&&decide (t.kids.length=0))):=by
  unfold Px.tQ zB
  rw[Nd.cG,Nd.eP,Nd.gJ,Nd.xb,Nd.gQ,Nd.fF,Nd.db,List.length_map,dF]
  simp only[Bool.and_assoc]
 rw[hdef]
 refine⟨fun h=>cf.ret (s9 _ _ _ _ _ _ _ _ _ _ I _) fun I1 l1=>⟨_,rfl,F,.refl _,fun h2=>⟨?_,rfl⟩,fun h2=>⟨?_,rfl⟩⟩,fun h=>⟨?_,rfl⟩⟩
 ·rw[h,h2]
  simp only[Bool.true_and]
  have:(((t.kids.length:Nat):Int)==0)=decide (t.kids.length=0):=by
   rw[Bool.eq_iff_iff];simp
  rw[this]
 ·rw[h,h2];rfl
 ·rw[h];rfl
theorem dx(q:Bool)(t:Nd)(hs:t.px.size≤1048576)(I:cc)(F:b8)(ht:cC I F t):cf P 153 #[.bool q,t.v] I F (dS (.int .i64 (cN q t.px)) F):=by
 refine oq.vc ?_
 unfold oq.V
 intro b_n
 unfold cN
 refine⟨fun h=>cf.ret (jV t hs I _ ht.cons) fun I1 l1=>⟨_,rfl,F,.refl _, ?_,rfl⟩,fun h=>cf.ret (Cc t I _) fun I1 l1=>⟨_,rfl,F,.refl _,fun h2=>⟨?_,rfl⟩,fun h2=>⟨?_,rfl⟩⟩⟩
 ·subst h;rfl
 ·subst h;rw[j4 h2];rfl
 ·subst h;rw[jM h2];rfl
theorem Cd{a:Option Addr}{c:Nat}{l:List Int}(I:cc)(F:b8)(hl:l.length≤1000000)(ha:dq I F 1 (fun x=>[Value.int .i64 x]) a l.length l):cf P 154 #[.slice a l.length c] I F (dS (.int .i64 (cJ id l)) F):=by
 refine lV.vc (fun x i m I' F'=>F'=F∧0≤i∧i≤l.length∧m=(l.length-i).toNat∧cc.le I I'∧cJ id l=cJ id (l.drop i.toNat)) ?_
 unfold lV.V
 refine⟨⟨_,rfl,by omega,by omega,rfl,cc.le_refl I,rfl⟩,fun x i m I1 F1 _ ⟨gF,g0,g1,gm,l1,ge⟩=>?_⟩
 subst gF
 refine⟨fun hlt=>?_,fun hlt=>⟨?_,rfl⟩⟩
 ·have hlt:=of_decide_eq_true hlt
  obtain⟨ad,x,had,hx,hrd,hxm⟩:=dq.gj (ha.mono l1 fun _ h=>h) g0 hlt
  refine⟨⟨g0,hlt⟩,ad,had,x,hrd,fun h=>⟨⟨g0,hlt⟩,ad,had,x,hrd, ?_,rfl⟩,fun h=>⟨(l.length-(i+1)).toNat,by omega,rfl, ?_⟩⟩
  ·have hne:x≠0:=by simpa using h
   rw[ge,tR id hx]
   show _=Ending.returned (.int .i64 (cm x _))
   rw[mL hne]
  ·rw[cY (n:=i+1) (by omega)]
   have he:x=0:=by simpa using h
   refine⟨by omega,by omega,rfl,l1, ?_⟩
   rw[ge,tR id hx,show (i+1).toNat=i.toNat+1 by omega]
   show cm x _=_
   rw[he,cz]
 ·have hlt:=of_decide_eq_false hlt
  rw[ge,List.drop_eq_nil_of_le (by omega)];rfl
theorem Fs(d:dy)(hs:Small d.p.oJ)(I:cc)(F:b8)(hd:d.Ok I F):cf P 138 #[d.v] I F (dS (.int .i64 d.p.check) F):=by
 simp only[Small,dA.oJ,dy.p,List.mem_cons,List.not_mem_nil,or_false] at hs
 have z1:=hs _ (.inl rfl)
 have z2:=hs _ (.inr (.inl rfl))
 have z3:=hs _ (.inr (.inr (.inl rfl)))
 have z4:=hs _ (.inr (.inr (.inr rfl)))
 have hdef:d.p.check=cm (cV d.p.mJ 120) (cm (cV d.p.kZ 120) (cm (cV d.p.c9 120) (cm (cN (decide (d.kind=1)) d.side.px) (cm (cN (decide (d.kind=1∨d.kind=2)) d.qty.px)
  (cm (cN (decide (d.kind=1∧d.order≠2∨d.kind=2)) d.price.px) (cN (decide (d.kind=4)) d.value.px)))))):=rfl
 have kdef:d.p.mJ=decide (1≤d.kind∧d.kind≤6):=rfl
 have odef:d.p.kZ=decide (d.kind=1∧1≤d.order∧d.order≤5∨d.kind≠1∧d.order=0):=rfl
 have ndef:d.p.c9=if d.kind=6 then d.name.toList==[] else if d.kind≠1∨d.name.toList≠[] then c9 d.name else true:=rfl
 refine su.vc (fun x I' F'=>F'=F∧cc.le I I'∧d.p.mJ=true) (fun x I' F'=>F'=F∧cc.le I I'∧d.p.mJ=true∧d.p.kZ=true) (fun x I' F'=>F'=F∧cc.le I I'∧d.p.mJ=true∧d.p.kZ=true∧d.p.c9=true) ?_
 unfold su.V
 intro b_d
 have ok:∀{J:cc},cc.le I J→d.Ok J ((ql b_d d)::F):=fun hl=>(hd.mono hl fun _ h=>h).cons
 have hk:d.p.mJ=false→Ending.returned (.int .i64 120)=.returned (.int .i64 d.p.check):=fun h=>by rw[hdef,h];rfl
 have ho:d.p.mJ=true→d.p.kZ=false→Ending.returned (.int .i64 120)=.returned (.int .i64 d.p.check):=fun h h'=>by rw[hdef,h,h'];rfl
 have hn:d.p.mJ=true→d.p.kZ=true→d.p.c9=false→Ending.returned (.int .i64 120)=.returned (.int .i64 d.p.check):=fun h h' h2=>by rw[hdef,h,h',h2];rfl
 rw[dF]
 refine⟨⟨fun h1=>⟨hk (by rw[kdef];simp only[decide_eq_true_eq] at h1;exact decide_eq_false (by omega)),rfl⟩,fun h1=>⟨fun h2=>⟨hk (by rw[kdef];simp only[decide_eq_true_eq] at h2;exact decide_eq_false (by omega)),rfl⟩,fun h2=>⟨rfl,cc.le_refl I,by rw[kdef];simp only[decide_eq_false_iff_not] at h1 h2;exact decide_eq_true (by omega)⟩⟩⟩,fun x I1 F1 _ ⟨gF,l1,k1⟩=>?_⟩
 subst gF
 refine⟨⟨fun h1=>⟨fun h2=>⟨ho k1 ?_,rfl⟩,fun h2=>⟨fun h3=>⟨ho k1 ?_,rfl⟩,fun h3=>⟨fun h4=>⟨fun h5=>⟨ho k1 ?_,rfl⟩,fun h5=>⟨rfl,l1,k1, ?_⟩⟩,fun h4=>⟨rfl,l1,k1, ?_⟩⟩⟩⟩,fun h1=>⟨fun h4=>⟨fun h5=>⟨ho k1 ?_,rfl⟩,fun h5=>⟨rfl,l1,k1, ?_⟩⟩,fun h4=>⟨rfl,l1,k1, ?_⟩⟩⟩,fun x1 I2 F2 _ ⟨gF,l2,k2,o2⟩=>?_⟩
 ·rw[odef];simp only[decide_eq_true_eq,beq_iff_eq] at h1 h2;exact decide_eq_false (by omega)
 ·rw[odef];simp only[decide_eq_true_eq,beq_iff_eq] at h1 h3;exact decide_eq_false (by omega)
 ·rw[h1] at h4;cases h4
 ·rw[h1] at h4;cases h4
 ·rw[odef];simp only[decide_eq_false_iff_not,beq_iff_eq] at h1 h2 h3;exact decide_eq_true (by omega)
 ·rw[odef];simp only[beq_eq_false_iff_ne,bne_iff_ne,ne_eq] at h1 h5;exact decide_eq_false (by omega)
 ·rw[odef];simp only[beq_eq_false_iff_ne,bne_eq_false_iff_eq,ne_eq] at h1 h5;exact decide_eq_true (by omega)
 ·rw[h1] at h4;cases h4
 subst gF
 refine cf.ret (jg I2 _) fun I3 l3=>⟨_,rfl,F2,.refl _, ?_⟩
 have l23:=cc.le_trans l2 l3
 refine⟨⟨fun h1=>⟨fun h2=>⟨hn k2 o2 ?_,rfl⟩,fun h2=>⟨fun h3=>?_,fun h3=>⟨rfl,l23,k2,o2, ?_⟩⟩⟩,fun h1=>⟨fun h3=>⟨fun h4=>⟨fun h5=>⟨fun h6=>⟨hn k2 o2 ?_,rfl⟩,fun h6=>⟨rfl,l23,k2,o2, ?_⟩⟩,fun h5=>⟨fun h6=>⟨hn k2 o2 ?_,rfl⟩,fun h6=>by cases h6⟩⟩,fun h4=>⟨rfl,l23,k2,o2, ?_⟩⟩,fun h3=>?_⟩⟩,fun x2 I4 F4 _ ⟨gF,l4,k4,o4,n4⟩=>?_⟩
 ·rw[ndef,if_pos (by simpa using h1)];exact j4 h2
 ·have e1:d.kind=6:=by simpa using h1
  have e2:d.kind≠6:=by simpa using h3
  exact absurd e1 e2
 ·rw[ndef,if_pos (by simpa using h1)];exact jM h2
 ·rw[ndef,if_neg (by simpa using h1),if_pos (.inr (by simpa using h6))];exact j4 h4
 ·have e1:d.kind=1:=by simpa using h5
  have e2:d.name.toList=[]:=by simpa using h6
  rw[ndef,if_neg (by simpa using h1),if_neg (fun h=>h.elim (fun h=>h e1) fun h=>h e2)]
 ·have e1:d.kind≠1:=by simpa using h5
  rw[ndef,if_neg (by simpa using h1),if_pos (.inl e1)];exact j4 h4
 ·rw[ndef,if_neg (by simpa using h1)]
  split
  ·exact jM h4
  ·rfl
 ·have e1:d.kind≠6:=by simpa using h1
  have e2:d.kind=6:=by simpa using h3
  exact absurd e2 e1
 subst gF
 have hb:∀a b:Int,(a==b)=decide (a=b):=fun a b=>by rw[Bool.eq_iff_iff];simp
 rw[hb,hb]
 have hT:d.p.check=cm (cN (decide (d.kind=1)) d.side.px) (cm (cN (decide (d.kind=1∨d.kind=2)) d.qty.px) (cm (cN (decide (d.kind=1∧d.order≠2∨d.kind=2)) d.price.px) (cN (decide (d.kind=4)) d.value.px))):=by
  rw[hdef,k4,o4,n4];rfl
 have thz:∀a:Int,cm a 0=a:=fun a=>by
  unfold cm
  by_cases h:a=0
  ·rw[if_pos h,h]
  ·rw[if_neg h]
 have fin:∀(q2 q3:Bool),q2=decide (d.kind=1∨d.kind=2)→q3=decide (d.kind=1∧d.order≠2∨d.kind=2)→∀(J:cc) (G:b8) (b:Nat),J b=some (.cells #[.int .i64 (cN (decide (d.kind=1)) d.side.px),.int .i64 (cN q2 d.qty.px),.int .i64 (cN q3 d.price.px),.int .i64 (cN (decide (d.kind=4)) d.value.px)] 47 (0,0)) →
   cf P 154 #[.slice (some ⟨b,0,none⟩) 4 4] J G (dS (.int .i64 d.p.check) G):=fun q2 q3 e2 e3 J G b hb=>by
  have:=Cd (a:=some ⟨b,0,none⟩) (c:=4) (l:=[cN (decide (d.kind=1)) d.side.px,cN q2 d.qty.px,cN q3 d.price.px,cN (decide (d.kind=4)) d.value.px]) J G (by show 4≤1000000;decide) ⟨rfl,fun _=>⟨_,rfl,fun i x hx=>?_⟩⟩
  ·rw[hT,←e2,←e3]
   have e:cJ id [cN (decide (d.kind=1)) d.side.px,cN q2 d.qty.px,cN q3 d.price.px,cN (decide (d.kind=4)) d.value.px]=cm (cN (decide (d.kind=1)) d.side.px) (cm (cN q2 d.qty.px) (cm (cN q3 d.price.px) (cN (decide (d.kind=4)) d.value.px))):=by
    show cm _ (cm _ (cm _ (cm _ 0)))=_
    rw[thz];rfl
   rw[←e];exact this
  ·rw[eD]
   refine Rd.sV hb _ _ fun j hj=>?_
   obtain rfl:j=0:=by simpa using hj
   rw[Nat.add_zero,Nat.mul_one]
   have hi:i<4:=(List.getElem?_eq_some_iff.1 hx).1
   have:i=0∨i=1∨i=2∨i=3:=by omega
   rcases this with rfl | rfl | rfl | rfl<;>(cases hx;rfl)
 refine cf.ret (dx _ d.side z1 I4 _ (ok l4).1) fun I5 h5=>⟨_,rfl,F4,.refl _, ?_⟩
 have l5:=cc.le_trans l4 h5
 refine⟨fun c1=>cf.ret (dx _ d.qty z2 I5 _ (ok l5).2.1) fun I6 h6=>⟨_,rfl,F4,.refl _, ?_⟩,fun c1=>cf.ret (dx _ d.qty z2 I5 _ (ok l5).2.1) fun I6 h6=>⟨_,rfl,F4,.refl _, ?_⟩⟩
 ·have l6:=cc.le_trans l5 h6
  have c1':=of_decide_eq_true c1
  refine⟨fun c2=>⟨fun c3=>?_,fun c3=>?_⟩,fun c2=>?_⟩
  ·have c2':=of_decide_eq_true c2
   have c3':d.order≠2:=by simpa using c3
   exact cf.ret (dx _ d.price z3 I6 _ (ok l6).2.2.1) fun I7 h7=>⟨_,rfl,F4,.refl _,cf.ret (dx _ d.value z4 I7 _ (ok (cc.le_trans l6 h7)).2.2.2) fun I8 h8=>⟨_,rfl,F4,.refl _,fun b I9 h9 hb9=>cf.ret (fin _ _ (decide_eq_true (by omega)).symm (decide_eq_true (by omega)).symm I9 _ b hb9) fun I10 _=>⟨_,rfl,F4,.refl _,rfl,rfl⟩⟩⟩
  ·have c2':=of_decide_eq_true c2
   have c3':d.order=2:=by simpa using c3
   exact cf.ret (dx _ d.price z3 I6 _ (ok l6).2.2.1) fun I7 h7=>⟨_,rfl,F4,.refl _,cf.ret (dx _ d.value z4 I7 _ (ok (cc.le_trans l6 h7)).2.2.2) fun I8 h8=>⟨_,rfl,F4,.refl _,fun b I9 h9 hb9=>cf.ret (fin _ _ (decide_eq_true (by omega)).symm (by rw[hb];exact decide_eq_decide.2 (by omega)) I9 _ b hb9) fun I10 _=>⟨_,rfl,F4,.refl _,rfl,rfl⟩⟩⟩
  ·have c2':=of_decide_eq_false c2
   exact cf.ret (dx _ d.price z3 I6 _ (ok l6).2.2.1) fun I7 h7=>⟨_,rfl,F4,.refl _,cf.ret (dx _ d.value z4 I7 _ (ok (cc.le_trans l6 h7)).2.2.2) fun I8 h8=>⟨_,rfl,F4,.refl _,fun b I9 h9 hb9=>cf.ret (fin _ _ (decide_eq_true (by omega)).symm (by rw[hb];exact decide_eq_decide.2 (by omega)) I9 _ b hb9) fun I10 _=>⟨_,rfl,F4,.refl _,rfl,rfl⟩⟩⟩
 ·have l6:=cc.le_trans l5 h6
  have c1':=of_decide_eq_false c1
  refine⟨fun c2=>⟨fun c3=>?_,fun c3=>?_⟩,fun c2=>?_⟩
  ·have c2':=of_decide_eq_true c2
   have c3':d.order≠2:=by simpa using c3
   exact cf.ret (dx _ d.price z3 I6 _ (ok l6).2.2.1) fun I7 h7=>⟨_,rfl,F4,.refl _,cf.ret (dx _ d.value z4 I7 _ (ok (cc.le_trans l6 h7)).2.2.2) fun I8 h8=>⟨_,rfl,F4,.refl _,fun b I9 h9 hb9=>cf.ret (fin _ _ (by rw[hb];exact decide_eq_decide.2 (by omega)) (decide_eq_true (by omega)).symm I9 _ b hb9) fun I10 _=>⟨_,rfl,F4,.refl _,rfl,rfl⟩⟩⟩
  ·have c2':=of_decide_eq_true c2
   have c3':d.order=2:=by simpa using c3
   exact cf.ret (dx _ d.price z3 I6 _ (ok l6).2.2.1) fun I7 h7=>⟨_,rfl,F4,.refl _,cf.ret (dx _ d.value z4 I7 _ (ok (cc.le_trans l6 h7)).2.2.2) fun I8 h8=>⟨_,rfl,F4,.refl _,fun b I9 h9 hb9=>cf.ret (fin _ _ (by rw[hb];exact decide_eq_decide.2 (by omega)) (by rw[hb];exact decide_eq_decide.2 (by omega)) I9 _ b hb9) fun I10 _=>⟨_,rfl,F4,.refl _,rfl,rfl⟩⟩⟩
  ·have c2':=of_decide_eq_false c2
   exact cf.ret (dx _ d.price z3 I6 _ (ok l6).2.2.1) fun I7 h7=>⟨_,rfl,F4,.refl _,cf.ret (dx _ d.value z4 I7 _ (ok (cc.le_trans l6 h7)).2.2.2) fun I8 h8=>⟨_,rfl,F4,.refl _,fun b I9 h9 hb9=>cf.ret (fin _ _ (by rw[hb];exact decide_eq_decide.2 (by omega)) (by rw[hb];exact decide_eq_decide.2 (by omega)) I9 _ b hb9) fun I10 _=>⟨_,rfl,F4,.refl _,rfl,rfl⟩⟩⟩
theorem Ce(r:cp)(hs:r.p.dC)(I:cc)(F:b8)(hr:r.Ok I F):cf P 115 #[r.v] I F (dS (.int .i64 r.p.check) F):=by
 have hc:r.p.check=cm r.when.px.dj (cm (cV (decide (0<r.dos.length)) 120) (cm (cV (decide (r.dos.length≤8)) 121) (cJ dA.check (r.dos.map dy.p)))):=by
  show cm _ (cm (cV (decide (0<(r.dos.map dy.p).length)) 120) (cm (cV (decide ((r.dos.map dy.p).length≤8)) 121) _))=_
  rw[List.length_map];rfl
 refine oo.vc (fun x e i m I' F'=>F'=F∧0≤i∧i≤r.dos.length∧m=(r.dos.length-i).toNat∧cc.le I I'∧r.dos.length≤8∧r.p.check=cJ dA.check ((r.dos.drop i.toNat).map dy.p)) ?_
 unfold oo.V
 intro b_r
 refine cf.ret (jV r.when hs.1 I _ hr.cons.1) fun I1 l1=>⟨_,rfl,F,.refl _,fun h=>⟨?_,rfl⟩,fun h=>⟨fun h2=>⟨?_,rfl⟩,fun h2=>⟨fun h3=>⟨?_,rfl⟩,fun h3=>⟨⟨_,rfl,by omega,by omega,rfl,l1, ?_, ?_⟩,fun x e i m I2 F2 _ ⟨gF,g0,g1,gm,l2,gl,ge⟩=>?_⟩⟩⟩⟩
 ·rw[hc,mL (by simpa using h)]
 ·have e1:r.when.px.dj=0:=by simpa using h
  have e2:r.dos.length=0:=by have:(r.dos.length:Int)=0:=by simpa using h2
                             omega
  rw[hc,e1,e2];rfl
 ·have e1:r.when.px.dj=0:=by simpa using h
  have e3:=of_decide_eq_true h3
  rw[hc,e1,decide_eq_true (show 0<r.dos.length by omega),decide_eq_false (show ¬r.dos.length≤8 by omega)];rfl
 ·have e3:=of_decide_eq_false h3
  omega
 ·have e1:r.when.px.dj=0:=by simpa using h
  have e2:¬r.dos.length=0:=fun e=>by rw[e] at h2;simp at h2
  have e3:=of_decide_eq_false h3
  rw[hc,e1,decide_eq_true (show 0<r.dos.length by omega),decide_eq_true (show r.dos.length≤8 by omega)];rfl
 subst gF
 have okr:=(hr.mono l2 fun _ h=>h).cons (x:=(kg b_r r))
 refine⟨fun hlt=>?_,fun hlt=>⟨?_,rfl⟩⟩
 ·have hlt:=of_decide_eq_true hlt
  obtain⟨ad,d,had,hd,hrd,hdm⟩:=dq.gj okr.2.1 g0 hlt
  refine⟨⟨g0,hlt⟩,ad,had,_,_,_,_,_,_,_,_,_,_,_,_,_,_,_,_,_,_,_,_,_,_,_,_,_,_,_,_,_,_,_,_,_,_,_,_,_,_,_,_,_,_,_,_,hrd,cf.ret (Fs d (hs.2.2 _ (List.mem_map_of_mem hdm)) I2 _ (okr.2.2 d hdm)) fun I3 l3=>⟨_,rfl,F2,.refl _,fun h=>⟨?_,rfl⟩,fun h=>⟨(r.dos.length-(i+1)).toNat,by omega,rfl, ?_⟩⟩⟩
  ·rw[ge,dv dA.check dy.p hd,mL (by simpa using h)]
  ·have e1:d.p.check=0:=by simpa using h
   rw[cY (n:=i+1) (by omega)]
   refine⟨by omega,by omega,rfl,cc.le_trans l2 l3,gl, ?_⟩
   rw[ge,dv dA.check dy.p hd,e1,cz,show (i+1).toNat=i.toNat+1 by omega]
 ·have hlt:=of_decide_eq_false hlt
  rw[ge,dO dA.check dy.p (by omega)]
theorem Aw(x:cg)(hs:x.p.dC)(I:cc)(F:b8)(hx:x.Ok I F):cf P 76 #[x.v] I F (dS (.int .i64 x.p.check) F):=by
 have hc:x.p.check=cm (cV (c9 x.name) 120) (cm (cV (decide (x.rules.length≤12)) 121) (cJ cD.check (x.rules.map cp.p))):=by
  show cm _ (cm (cV (decide ((x.rules.map cp.p).length≤12)) 121) _)=_
  rw[List.length_map];rfl
 refine lU.vc (fun q i m I' F'=>F'=F∧0≤i∧i≤x.rules.length∧m=(x.rules.length-i).toNat∧cc.le I I'∧x.rules.length≤12∧x.p.check=cJ cD.check ((x.rules.drop i.toNat).map cp.p)) ?_
 unfold lU.V
 intro b_s
 refine cf.ret (jg I _) fun I1 l1=>⟨_,rfl,F,.refl _,fun h=>⟨?_,rfl⟩,fun h=>⟨fun h3=>⟨?_,rfl⟩,fun h3=>⟨⟨_,rfl,by omega,by omega,rfl,l1, ?_, ?_⟩,fun q i m I2 F2 _ ⟨gF,g0,g1,gm,l2,gl,ge⟩=>?_⟩⟩⟩
 ·rw[hc,j4 h];rfl
 ·have e3:=of_decide_eq_true h3
  rw[hc,jM h,decide_eq_false (show ¬x.rules.length≤12 by omega)];rfl
 ·have e3:=of_decide_eq_false h3
  omega
 ·have e3:=of_decide_eq_false h3
  rw[hc,jM h,decide_eq_true (show x.rules.length≤12 by omega)];rfl
 subst gF
 have okx:=(hx.mono l2 fun _ h=>h).cons (x:=(fU b_s x))
 refine⟨fun hlt=>?_,fun hlt=>⟨?_,rfl⟩⟩
 ·have hlt:=of_decide_eq_true hlt
  obtain⟨ad,r,had,hr,hrd,hrm⟩:=dq.gj okx.1 g0 hlt
  refine⟨⟨g0,hlt⟩,ad,had,_,_,_,_,_,_,_,_,_,_,_,_,_,_,hrd,cf.ret (Ce r (hs.2 _ (List.mem_map_of_mem hrm)) I2 _ (okx.2 r hrm)) fun I3 l3=>⟨_,rfl,F2,.refl _,fun h=>⟨?_,rfl⟩,fun h=>⟨(x.rules.length-(i+1)).toNat,by omega,rfl, ?_⟩⟩⟩
  ·rw[ge,dv cD.check cp.p hr,mL (by simpa using h)]
  ·have e1:r.p.check=0:=by simpa using h
   rw[cY (n:=i+1) (by omega)]
   refine⟨by omega,by omega,rfl,cc.le_trans l2 l3,gl, ?_⟩
   rw[ge,dv cD.check cp.p hr,e1,cz,show (i+1).toNat=i.toNat+1 by omega]
 ·have hlt:=of_decide_eq_false hlt
  rw[ge,dO cD.check cp.p (by omega)]
theorem Ax{x:Px}(h:x.formed=true)(hk:x.kind=5):x.kids.length=1:=by
 rw[Px.er,Bool.and_eq_true] at h
 have h1:=h.1
 unfold Px.gO at h1
 simp only[Bool.and_eq_true,decide_eq_true_eq] at h1
 rw[h1.2]
 unfold Px.arity
 rw[if_pos (.inl hk)]
theorem Ay(t:Nd)(hs:t.px.size≤1048576)(I:cc)(F:b8)(ht:cC I F t):cf P 114 #[t.v] I F (dS (.bool (t.px.formed&&t.px.nI)) F):=by
 refine kv.vc ?_
 unfold kv.V
 intro b_n
 have hdef:t.px.nI=if t.kind=5∧t.oper=1 then (match t.px.kids with | k::_=>decide (k.kind=1∧k.cO≤4) | []=>false) else decide (t.kind=1):=by
  unfold Px.nI;rw[Nd.cG,Nd.eP];rfl
 have hb:∀a b:Int,(a==b)=decide (a=b):=fun a b=>by rw[Bool.eq_iff_iff];simp
 refine⟨fun h1=>⟨fun h2=>⟨fun h3=>?_,fun h3=>?_⟩,fun h2=>?_⟩,fun h1=>?_⟩
 ·have e1:t.kind=5:=by simpa using h1
  have e2:t.oper=1:=by simpa using h2
  have e3:t.kids.length=1:=by have:(t.kids.length:Int)=1:=by simpa using h3
                              omega
  obtain⟨ad,k,had,hk,hrd,hko,hkm⟩:=(ht.cons (x:=(rS b_n t))).kids.at (i:=0) (Int.le_refl 0) (by omega)
  have hkids:t.px.kids=[k.px]:=by
   rw[Nd.db]
   cases hkk:t.kids with
   | nil=>rw[hkk] at e3;cases e3
   | cons y l =>
     rw[hkk] at hk e3
     cases l with
     | nil=>cases hk;rfl
     | cons z l=>simp at e3
  rw[hdef,if_pos ⟨e1,e2⟩,hkids]
  refine⟨⟨Int.le_refl 0,by omega⟩,ad,had,_,_,_,_,_,_,_,_,_,_,hrd,fun b_k=>cf.ret (jJ t hs I _ (ht.cons.cons)) fun I1 l1=>⟨_,rfl,F,.refl _,fun h4=>⟨fun h5=>⟨?_,rfl⟩,fun h5=>⟨?_,rfl⟩⟩,fun h4=>⟨?_,rfl⟩⟩⟩
  ·have e5:k.kind=1:=by simpa using h5
   rw[h4]
   show _=Ending.returned (.bool (true&&decide (k.px.kind=1∧k.px.cO≤4)))
   rw[Nd.cG,Nd.gJ,e5];simp
  ·have e5:k.kind≠1:=by simpa using h5
   rw[h4]
   show _=Ending.returned (.bool (true&&decide (k.px.kind=1∧k.px.cO≤4)))
   rw[Nd.cG,decide_eq_false (fun h=>e5 h.1)];rfl
  ·rw[h4];rfl
 ·have e1:t.kind=5:=by simpa using h1
  have e3:t.kids.length≠1:=fun e=>by rw[e] at h3;simp at h3
  have hf:t.px.formed=false:=by
   cases hh:t.px.formed with
   | false=>rfl
   | true =>
     have:=Ax hh (by rw[Nd.cG];exact e1)
     rw[Nd.db,List.length_map] at this
     exact absurd this e3
  refine cf.ret (jJ t hs I _ ht.cons) fun I1 l1=>⟨_,rfl,F,.refl _,fun h4=>?_,fun h4=>⟨?_,rfl⟩⟩
  ·rw[hf] at h4;cases h4
  ·rw[hf];rfl
 ·have e2:t.oper≠1:=by simpa using h2
  rw[hdef,if_neg (fun h=>e2 h.2)]
  refine cf.ret (jJ t hs I _ ht.cons) fun I1 l1=>⟨_,rfl,F,.refl _,fun h4=>⟨?_,rfl⟩,fun h4=>⟨?_,rfl⟩⟩
  ·rw[h4,hb];rfl
  ·rw[h4];rfl
 ·have e1:t.kind≠5:=by simpa using h1
  rw[hdef,if_neg (fun h=>e1 h.1)]
  refine cf.ret (jJ t hs I _ ht.cons) fun I1 l1=>⟨_,rfl,F,.refl _,fun h4=>⟨?_,rfl⟩,fun h4=>⟨?_,rfl⟩⟩
  ·rw[h4,hb];rfl
  ·rw[h4];rfl
theorem Ec(r:cH)(hs:r.init.px.size≤1048576)(I:cc)(F:b8)(hr:r.Ok I F):cf P 75 #[r.v] I F (dS (.bool (c9 r.name&&(decide (1≤r.cO∧r.cO≤6)&&(r.init.px.formed&&r.init.px.nI)))) F):=by
 refine pZ.vc ?_
 unfold pZ.V
 intro b_r
 refine cf.ret (jg I _) fun I1 l1=>⟨_,rfl,F,.refl _,fun h1=>⟨fun h2=>⟨fun h3=>?_,fun h3=>⟨?_,rfl⟩⟩,fun h2=>⟨?_,rfl⟩⟩,fun h1=>⟨?_,rfl⟩⟩
 ·have e2:=of_decide_eq_true h2
  have e3:=of_decide_eq_true h3
  refine cf.ret (Ay r.init hs I1 _ (cC.mono hr l1 fun a ha=>.tail _ ha)) fun I2 l2=>⟨_,rfl,F,.refl _, ?_,rfl⟩
  rw[h1,decide_eq_true (show 1≤r.cO∧r.cO≤6 by omega)];rfl
 ·have e3:=of_decide_eq_false h3
  rw[h1,decide_eq_false (show ¬(1≤r.cO∧r.cO≤6) by omega)];rfl
 ·have e2:=of_decide_eq_false h2
  rw[h1,decide_eq_false (show ¬(1≤r.cO∧r.cO≤6) by omega)];rfl
 ·rw[h1];rfl
theorem yK(s:cw)(hs:s.p.oK)(I:cc)(F:b8)(hok:s.Ok I F):cf P 47 #[s.v] I F (dS (.int .i64 s.p.check) F):=by
 have hc:s.p.check=cm (cV (c9 s.name) 120) (cm (cV (decide (s.regs.length≤12)) 121) (cm (cJ dh.check (s.regs.map cH.p)) (cm (cV (decide (s.slots.length≤4)) 121) (cm (cJ cx.check s.slots)
   (cm (cV (decide (0<s.states.length)) 120) (cm (cV (decide (s.states.length≤12)) 121) (cJ cq.check (s.states.map cg.p)))))))):=by
  show cm _ (cm (cV (decide ((s.regs.map cH.p).length≤12)) 121) (cm _ (cm _ (cm _ (cm (cV (decide (0<(s.states.map cg.p).length)) 120) (cm (cV (decide ((s.states.map cg.p).length≤12)) 121) _))))))=_
  rw[List.length_map,List.length_map];rfl
 have hnm:∀r∈s.regs,r.init.px.size≤1048576:=fun r hr=>hs.fG _ (List.mem_map_of_mem hr)
 have hst:∀x∈s.states,x.p.dC:=fun x hx=>hs.state _ (List.mem_map_of_mem hx)
 have lr:=hs.regs
 have ls:=hs.slots
 have lt:=hs.states
 simp only[cw.p,List.length_map] at lr ls lt
 refine lT.vc
  (fun x q i m I' F'=>F'=F∧0≤i∧i≤s.regs.length∧m=(s.regs.length-i).toNat∧cc.le I I'∧s.p.check=cm (cJ dh.check ((s.regs.drop i.toNat).map cH.p)) (cm (cV (decide (s.slots.length≤4)) 121) (cm (cJ cx.check s.slots)
    (cm (cV (decide (0<s.states.length)) 120) (cm (cV (decide (s.states.length≤12)) 121) (cJ cq.check (s.states.map cg.p)))))))
  (fun x q i m I' F'=>F'=F∧0≤i∧i≤s.slots.length∧m=(s.slots.length-i).toNat∧cc.le I I'∧s.p.check=cm (cJ cx.check ((s.slots.drop i.toNat).map id)) (cm (cV (decide (0<s.states.length)) 120) (cm (cV (decide (s.states.length≤12)) 121) (cJ cq.check (s.states.map cg.p)))))
  (fun x i m I' F'=>F'=F∧0≤i∧i≤s.states.length∧m=(s.states.length-i).toNat∧cc.le I I'∧s.p.check=cJ cq.check ((s.states.drop i.toNat).map cg.p)) ?_
 unfold lT.V
 intro b_s
 have ok:∀{J:cc},cc.le I J→s.Ok J ((c6 b_s s)::F):=fun hl=>(hok.mono hl fun _ h=>h).cons
 refine cf.ret (jg I _) fun I1 l1=>⟨_,rfl,F,.refl _,fun h=>⟨?_,rfl⟩,fun h=>⟨fun h3=>⟨?_,rfl⟩,fun h3=>⟨⟨_,rfl,by omega,by omega,rfl,l1, ?_⟩,fun x q i m I2 F2 _ ⟨gF,g0,g1,gm,l2,ge⟩=>?_⟩⟩⟩
 ·rw[hc,j4 h];rfl
 ·have e3:=of_decide_eq_true h3
  rw[hc,jM h,decide_eq_false (show ¬s.regs.length≤12 by omega)];rfl
 ·have e3:=of_decide_eq_false h3
  rw[hc,jM h,decide_eq_true (show s.regs.length≤12 by omega)];rfl
 subst gF
 refine⟨fun hlt=>?_,fun hlt=>⟨fun h4=>⟨?_,rfl⟩,fun h4=>⟨⟨_,rfl,by omega,by omega,rfl,l2, ?_⟩,fun x1 q1 j m4 I4 F4 _ ⟨gF,j0,j1,jm,l4,je⟩=>?_⟩⟩⟩
 ·have hlt:=of_decide_eq_true hlt
  obtain⟨ad,r,had,hr,hrd,hrm⟩:=dq.gj (ok l2).regs g0 hlt
  have hcr:r.p.check=cV (c9 r.name&&(decide (1≤r.cO∧r.cO≤6)&&(r.init.px.formed&&r.init.px.nI))) 120:=rfl
  refine⟨⟨g0,hlt⟩,ad,had,_,_,_,_,_,_,_,_,_,_,_,_,_,hrd,cf.ret (Ec r (hnm r hrm) I2 _ ((ok l2).fG r hrm)) fun I3 l3=>⟨_,rfl,F2,.refl _,fun h=>⟨?_,rfl⟩,fun h=>⟨(s.regs.length-(i+1)).toNat,by omega,rfl, ?_⟩⟩⟩
  ·rw[ge,dv dh.check cH.p hr,hcr,j4 h];rfl
  ·rw[cY (n:=i+1) (by omega)]
   refine⟨by omega,by omega,rfl,cc.le_trans l2 l3, ?_⟩
   rw[ge,dv dh.check cH.p hr,hcr,jM h,show (i+1).toNat=i.toNat+1 by omega];rfl
 ·have hlt:=of_decide_eq_false hlt
  have e4:=of_decide_eq_true h4
  rw[ge,dO dh.check cH.p (by omega),decide_eq_false (show ¬s.slots.length≤4 by omega)];rfl
 ·have hlt:=of_decide_eq_false hlt
  have e4:=of_decide_eq_false h4
  rw[ge,dO dh.check cH.p (by omega),decide_eq_true (show s.slots.length≤4 by omega)]
  show cm 0 (cm 0 (cm (cJ cx.check s.slots) _))=cm (cJ cx.check (s.slots.map id)) _
  rw[List.map_id];rfl
 subst gF
 refine⟨fun hlt=>?_,fun hlt=>⟨fun h5=>⟨?_,rfl⟩,fun h5=>⟨fun h6=>⟨?_,rfl⟩,fun h6=>⟨⟨_,rfl,by omega,by omega,rfl,l4, ?_⟩,fun x2 k m8 I6 F6 _ ⟨gF,k0,k1,km,l6,ke⟩=>?_⟩⟩⟩⟩
 ·have hlt:=of_decide_eq_true hlt
  obtain⟨ad,r,had,hr,hrd,hrm⟩:=dq.gj (ok l4).slots j0 hlt
  have hcr:cx.check r=cV (c9 r.name) 120:=rfl
  refine⟨⟨j0,hlt⟩,ad,had,r.name,hrd.field (o:=0) rfl,cf.ret (jg I4 _) fun I5 l5=>⟨_,rfl,F4,.refl _,fun h=>⟨?_,rfl⟩,fun h=>⟨(s.slots.length-(j+1)).toNat,by omega,rfl, ?_⟩⟩⟩
  ·rw[je,dv cx.check id hr]
   show _=Ending.returned (.int .i64 (cm (cm (cx.check r) _) _))
   rw[hcr,j4 h];rfl
  ·rw[cY (n:=j+1) (by omega)]
   refine⟨by omega,by omega,rfl,cc.le_trans l4 l5, ?_⟩
   rw[je,dv cx.check id hr,show (j+1).toNat=j.toNat+1 by omega]
   show cm (cm (cx.check r) _) _=_
   rw[hcr,jM h];rfl
 ·have hlt:=of_decide_eq_false hlt
  have e5:s.states.length=0:=by have:(s.states.length:Int)=0:=by simpa using h5
                                omega
  rw[je,dO cx.check id (by omega),e5];rfl
 ·have hlt:=of_decide_eq_false hlt
  have e6:=of_decide_eq_true h6
  rw[je,dO cx.check id (by omega),decide_eq_true (show 0<s.states.length by omega),decide_eq_false (show ¬s.states.length≤12 by omega)];rfl
 ·have hlt:=of_decide_eq_false hlt
  have e5:¬s.states.length=0:=fun e=>by rw[e] at h5;simp at h5
  have e6:=of_decide_eq_false h6
  rw[je,dO cx.check id (by omega),decide_eq_true (show 0<s.states.length by omega),decide_eq_true (show s.states.length≤12 by omega)];rfl
 subst gF
 refine⟨fun hlt=>?_,fun hlt=>⟨?_,rfl⟩⟩
 ·have hlt:=of_decide_eq_true hlt
  obtain⟨ad,x,had,hx,hrd,hxm⟩:=dq.gj (ok l6).states k0 hlt
  refine⟨⟨k0,hlt⟩,ad,had,_,_,_,_,_,hrd,cf.ret (Aw x (hst x hxm) I6 _ ((ok l6).state x hxm)) fun I7 l7=>⟨_,rfl,F6,.refl _,fun h=>⟨?_,rfl⟩,fun h=>⟨(s.states.length-(k+1)).toNat,by omega,rfl, ?_⟩⟩⟩
  ·rw[ke,dv cq.check cg.p hx,mL (by simpa using h)]
  ·have e1:x.p.check=0:=by simpa using h
   rw[cY (n:=k+1) (by omega)]
   refine⟨by omega,by omega,rfl,cc.le_trans l6 l7, ?_⟩
   rw[ke,dv cq.check cg.p hx,e1,cz,show (k+1).toNat=k.toNat+1 by omega]
 ·have hlt:=of_decide_eq_false hlt
  rw[ke,dO cq.check cg.p (by omega)]
theorem GD{α:Type}{x y w z:α}{A l:List α}:(x::y::w::z::(A++l)).Perm (A++(x::y::w::z::l)):=List.perm_append_comm_assoc [x,y,w,z] A l
theorem HW(x:Int):∀u∈qn x,u.oneCell'=true:=by
 intro u hu
 simp only[qn,List.mem_singleton] at hu
 subst hu;rfl
theorem Ft{a:Option Addr}{n c b1:Nat}{l:List Int}{A F R:b8}{I:cc}(hA:Acc 1 qn 24 a n c l A)(hl:l.length≤1000000000)(x:Int)(hbm:I b1=some (.cells #[.int .u8 x] 24 (0,0)))(hF:F.Perm (A++R)) :
  cF P (Builtin.append_ #[186,186] 186 #[.slice a n c,.slice (some ⟨b1,0,none⟩) 1 1]) I F fun v I' G=>∃a' n' c' A',v=.slice a' n' c'∧Acc 1 qn 24 a' n' c' (l++[x]) A'∧G.Perm (A'++R):=by
 refine cF.perm (cF.mono (iD (f:=qn) (z:=1) (zv:=.int .u8 0) (fun _=>rfl) (by':=1) (by kernel_rfl) (by kernel_rfl) rfl (by decide) hA (xs:=[x]) (fun y _=>HW y) (by simp) rfl ?_ (by simp only[List.length_cons,List.length_nil];omega) (F:=R)) fun v I' G _ ⟨a',n',c',A',h1,h2,h3,_⟩=>⟨a',n',c',A',h1,h2,by rw[h3]⟩) hF
 exact⟨rfl,_,_,_,.inl hbm,fun j hj=>by simp[qn]⟩
theorem Az{s:cu}{x:Px}(h:∀k∈x.kids,(typed s k).2.e=0):typed s x=eA s x (x.kids.map fun k=>(typed s k).1):=by
 rw[Ap,xQ h,if_neg fun h=>h rfl]
theorem xS{s:cu}{x k:Px}{i:Nat}(h:∀k∈x.kids.take i,(typed s k).2.e=0)(hk:x.kids[i]? = some k)(he:(typed s k).2.e≠0):typed s x=(0,(typed s k).2):=by
 rw[Ap,v9 h hk he,if_pos he]
theorem sv(s:cw)(hl:s.regs.length≤1048576):∀(t:Nd),t.px.size≤1048576→t.px.formed=true→∀(I:cc) (F:b8),s.Ok I F→cC I F t →
  cf P 78 #[s.v,t.v] I F (dS (.tuple #[.int .u8 (typed s.p t.px).1,(typed s.p t.px).2.v]) F):=by
 refine Nd.ind fun t ih hs hf I F hok ht=>cf.clean ?_
 have hln:=iK hs
 have ekid:t.px.kids=t.kids.map Nd.px:=Nd.db t
 have ek:t.px.kind=t.kind:=Nd.cG t
 have en:t.px.name=t.name:=by cases t;rw[Nd.px];rfl
 have epos:t.px.pos=t.pos:=by cases t;rw[Nd.px];rfl
 refine lM.vc (fun x a n c i b0 b1 b2 m I' F'=>0≤i∧i≤t.kids.length∧m=(t.kids.length-i).toNat∧∃A,Acc 1 qn 24 a n c ((t.kids.take i.toNat).map fun k=>(typed s.p k.px).1) A∧(∀k∈t.kids.take i.toNat,(typed s.p k.px).2.e=0)∧F'.Perm (A++F)) ?_
 unfold lM.V
 intro b_s b_n b2
 refine⟨⟨_,by omega,by omega,rfl,[],Acc.nil,fun k hk=>by simp at hk,.refl _⟩,fun x a n c i b0 b1 b2' m I1 F1 l1 ⟨g0,g1,gm,A,hA,hall,hF1⟩=>⟨fun hlt=>?_,fun hlt=>?_⟩⟩
 ·have hlt:=of_decide_eq_true hlt
  have hsub:∀y,y∈F→y∈F1:=fun y hy=>hF1.mem_iff.2 (List.mem_append_right _ hy)
  have hok1:s.Ok I1 F1:=hok.mono l1 hsub
  have ht1:cC I1 F1 t:=ht.mono l1 hsub
  obtain⟨ad,k,had,hk,hrd,hko,hkm⟩:=ht1.kids.at g0 hlt
  have hkf:=Px.ib hf k.px (by rw[ekid];exact List.mem_map_of_mem hkm)
  have hks:=fT hkm hs
  have hbad:(typed s.p k.px).2.e≠0→typed s.p t.px=(0,(typed s.p k.px).2):=fun he=>xS (i:=i.toNat) (fun y hy=>by
   rw[ekid,←List.map_take] at hy
   obtain⟨z,hz,rfl⟩:=List.mem_map.1 hy
   exact hall z hz) (by rw[ekid,List.getElem?_map,hk];rfl) he
  have hnext:(typed s.p k.px).2.e=0→∀y∈t.kids.take (i+1).toNat,(typed s.p y.px).2.e=0:=fun he=>by
   rw[show (i+1).toNat=i.toNat+1 by omega]
   exact we hk hall he
  have hlen:((t.kids.take i.toNat).map fun k=>(typed s.p k.px).1).length≤1000000000:=by rw[List.length_map,List.length_take];omega
  refine⟨⟨g0,hlt⟩,ad,had,_,_,_,_,_,_,_,_,_,_,hrd.sub (cc.le_refl _) (fun y hy=>.tail _ (.tail _ (.tail _ hy))), ?_, ?_⟩
  ·refine cf.ret (ih k hkm hks hkf I1 _ (hok1.mono (cc.le_refl _) fun y hy=>.tail _ (.tail _ (.tail _ hy))) (hko.mono (cc.le_refl _) fun y hy=>.tail _ (.tail _ (.tail _ hy)))) fun I2 l2=>⟨_,_,_,_,rfl,F1,.refl _,fun b_f=>⟨fun he=>?_,fun he=>?_⟩⟩
   ·have he:(typed s.p k.px).2.e≠0:=by simpa using he
    rw[hbad he]
    exact⟨rfl,A,hF1⟩
   ·have he:(typed s.p k.px).2.e=0:=by simpa using he
    intro b3 I3 l3 hb3
    refine (Ft hA hlen (typed s.p k.px).1 hb3 (R:=_::_::_::_::F) (((((hF1.cons _).cons _).cons _).cons _).trans GD)).mono fun v I4 G l4 ⟨a',n',c',A',hv,hA',hG⟩=>⟨a',n',c',hv,A'++F,hG.trans GD.symm,(t.kids.length-(i+1)).toNat,by omega, ?_⟩
    rw[cY (n:=i+1) (by omega)]
    refine⟨by omega,by omega,rfl,A', ?_,hnext he,.refl _⟩
    rw[show (i+1).toNat=i.toNat+1 by omega,iw hk]
    exact hA'
  ·intro b_f
   refine cf.ret (ih k hkm hks hkf I1 _ (hok1.mono (cc.le_refl _) fun y hy=>.tail _ (.tail _ (.tail _ (.tail _ hy)))) (hko.mono (cc.le_refl _) fun y hy=>.tail _ (.tail _ (.tail _ (.tail _ hy))))) fun I2 l2=>⟨_,_,_,_,rfl,F1,.refl _,fun he=>?_,fun he=>?_⟩
   ·have he:(typed s.p k.px).2.e≠0:=by simpa using he
    rw[hbad he]
    exact⟨rfl,A,hF1⟩
   ·have he:(typed s.p k.px).2.e=0:=by simpa using he
    intro b3 I3 l3 hb3
    refine (Ft hA hlen (typed s.p k.px).1 hb3 (R:=_::_::_::_::F) (((((hF1.cons _).cons _).cons _).cons _).trans GD)).mono fun v I4 G l4 ⟨a',n',c',A',hv,hA',hG⟩=>⟨a',n',c',hv,A'++F,hG.trans GD.symm,(t.kids.length-(i+1)).toNat,by omega, ?_⟩
    rw[cY (n:=i+1) (by omega)]
    refine⟨by omega,by omega,rfl,A', ?_,hnext he,.refl _⟩
    rw[show (i+1).toNat=i.toNat+1 by omega,iw hk]
    exact hA'
 ·have hlt:=of_decide_eq_false hlt
  have hsub:∀y,y∈F→y∈F1:=fun y hy=>hF1.mem_iff.2 (List.mem_append_right _ hy)
  rw[List.take_of_length_le (l:=t.kids) (i:=i.toNat) (by omega)] at hA hall
  have hty:typed s.p t.px=eA s.p t.px (t.kids.map fun k=>(typed s.p k.px).1):=by
   rw[Az (fun k hk=>by
    rw[ekid] at hk
    obtain⟨z,hz,rfl⟩:=List.mem_map.1 hk
    exact hall z hz),ekid,List.map_map]
   rfl
  have hn:=hA.1
  rw[List.length_map] at hn
  subst hn
  generalize hts:(t.kids.map fun k=>(typed s.p k.px).1)=ts at hA hty
  have hSl:∀J,dq J ((c6 b_s s)::(rS b_n t)::(b2,Obj.cells #[.int .i64 b0,.int .i64 b1,.bool b2'] 51 (0,0))::F1) 1 qn a t.kids.length ts:=fun J=>hA.yr (z:=1) (f:=qn) (fun _=>rfl) J fun y hy=>.tail _ (.tail _ (.tail _ (hF1.mem_iff.2 (List.mem_append_left _ hy))))
  have hok1:∀{J:cc},cc.le I J→s.Ok J ((c6 b_s s)::(rS b_n t)::(b2,Obj.cells #[.int .i64 b0,.int .i64 b1,.bool b2'] 51 (0,0))::F1):=fun hJ=>hok.mono hJ fun y hy=>.tail _ (.tail _ (.tail _ (hsub y hy)))
  rw[hty]
  unfold eA
  rw[ek,en,epos]
  refine⟨fun h2=>?_,fun h2=>?_⟩
  ·have h2:t.kind=2:=by simpa using h2
   refine cf.ret (oj hl t.name (hok1 l1)) fun I2 l2=>⟨_,rfl,F1,.refl _,fun hr=>?_,fun hr=>?_⟩
   ·have hr:=of_decide_eq_true hr
    rw[if_pos ⟨h2,hr⟩]
    exact⟨rfl,A,hF1⟩
   ·have hr:=of_decide_eq_false hr
    rw[if_neg (fun h=>hr h.2)]
    refine cf.ret (tY s t hl hf (hSl I2) (hok1 (cc.le_trans l1 l2)) fun _=>by omega) fun I3 l3=>⟨_,_,rfl,F1,.refl _,fun hb=>?_,fun hb=>?_⟩
    ·rw[if_neg (by simpa using hb)];exact⟨rfl,A,hF1⟩
    ·rw[if_pos (by simpa using hb)];exact⟨rfl,A,hF1⟩
  ·have h2:t.kind≠2:=by simpa using h2
   rw[if_neg (fun h=>h2 h.1)]
   refine cf.ret (tY s t hl hf (hSl I1) (hok1 l1) fun h=>absurd h h2) fun I3 l3=>⟨_,_,rfl,F1,.refl _,fun hb=>?_,fun hb=>?_⟩
   ·rw[if_neg (by simpa using hb)];exact⟨rfl,A,hF1⟩
   ·rw[if_pos (by simpa using hb)];exact⟨rfl,A,hF1⟩
theorem jB{x:Px}(h:x.dj=0):x.formed=true:=by
 unfold Px.dj at h
 split at h
 ·assumption
 ·cases h
theorem Ed(s:cw)(hl:s.regs.length≤1048576)(t:Nd)(hs:t.px.size≤1048576)(I:cc)(F:b8)(hok:s.Ok I F)(ht:cC I F t) :
  cf P 117 #[s.v,t.v] I F (dS (.tuple #[.int .u8 (typeOf s.p t.px).1,(typeOf s.p t.px).2.v]) F):=by
 refine sg.vc ?_
 unfold sg.V
 unfold typeOf
 intro b_s b_n b2
 refine cf.ret (jV t hs I _ (ht.mono (cc.le_refl I) fun y hy=>.tail _ (.tail _ (.tail _ hy)))) fun I1 l1=>⟨_,rfl,F,.refl _,fun h=>?_,fun h=>?_⟩
 ·have h:t.px.dj≠0:=by simpa using h
  rw[if_pos h];exact⟨rfl,rfl⟩
 ·have h:t.px.dj=0:=by simpa using h
  rw[if_neg (by simpa using h)]
  refine cf.ret (sv s hl t hs (jB h) I1 _ (hok.mono l1 fun y hy=>.tail _ (.tail _ (.tail _ hy))) (ht.mono l1 fun y hy=>.tail _ (.tail _ (.tail _ hy)))) fun I2 l2=>?_
  exact⟨_,_,_,_,rfl,F,.refl _,rfl,rfl⟩
def TF.enc(f:TF):List Value:=[.int .i64 f.e,.int .i64 f.pos,.bool f.of]
theorem HX(f:TF):∀u∈f.enc,u.oneCell'=true:=by
 intro u hu
 simp only[TF.enc,List.mem_cons,List.not_mem_nil,or_false] at hu
 rcases hu with h | h | h<;>(subst h;rfl)
theorem Fu{nm:ByteArray}:∀(l:List ByteArray) (i:Int),0≤i→0≤js nm l i→js nm l i<i+l.length
 | [],i,_,h=>by rw[js] at h;omega
 | x::r,i,hi,h=>by
   rw[js] at h ⊢
   split at h
   ·rename_i hx
    rw[if_pos hx,List.length_cons];omega
   ·rename_i hx
    rw[if_neg hx,List.length_cons]
    have:=Fu r (i+1) (by omega) h
    omega
theorem HY{s:cw}{nm:ByteArray}(h:0≤s.p.fG nm):s.p.fG nm<s.regs.length:=by
 have:=Fu (nm:=nm) (s.p.regs.map dh.name) 0 (Int.le_refl 0) h
 simp only[cw.p,List.length_map] at this
 show js nm _ 0<_
 simp only[cw.p]
 omega
section
variable (s:cw) (hl:s.p.oK) {I:cc} {F:b8} (hok:s.Ok I F)
include hl hok
theorem fW(t:Nd)(hs:t.px.size≤1048576)(ht:cC I F t)(ty:Int):cf P 81 #[s.v,t.v,.int .u8 ty] I F (dS (eZ s.p t.px ty).v F):=by
 have lr:=hl.regs
 simp only[cw.p,List.length_map] at lr
 have epos:t.px.pos=t.pos:=by cases t;rw[Nd.px];rfl
 refine og.vc ?_
 unfold og.V
 unfold eZ
 rw[epos]
 intro b_s b_n b2
 refine cf.ret (Ed s lr t hs I _ (hok.mono (cc.le_refl I) fun y hy=>.tail _ (.tail _ (.tail _ hy))) (ht.mono (cc.le_refl I) fun y hy=>.tail _ (.tail _ (.tail _ hy)))) fun I1 l1=>⟨_,_,_,_,rfl,F,.refl _,fun b_f=>⟨fun h=>?_,fun h=>⟨fun h2=>?_,fun h2=>?_⟩⟩⟩
 ·rw[if_pos (by simpa using h)];exact⟨rfl,rfl⟩
 ·rw[if_neg (by simpa using h),if_pos (by simpa using h2)];exact⟨rfl,rfl⟩
 ·rw[if_neg (by simpa using h),if_neg (by simpa using h2)];exact⟨rfl,rfl⟩
end
theorem yL{a:Option Addr}{n c:Nat}{fs:List TF}{I:cc}{F:b8}(hS:dq I F 3 TF.enc a n fs)(hn:n≤100):cf P 118 #[.slice a n c] I F (dS (cX id fs).v F):=by
 have hnl:=hS.1
 refine lP.vc (fun i b0 b1 b2 m I' F'=>F'=F∧0≤i∧i≤n∧m=(n-i).toNat∧cX id fs=cX id (fs.drop i.toNat)) ?_
 unfold lP.V
 intro b2
 refine⟨⟨_,rfl,by omega,by omega,rfl,rfl⟩,fun i b0 b1 b2' m I1 F1 l1 ⟨gF,g0,g1,gm,ge⟩=>⟨fun hlt=>?_,fun hlt=>⟨?_,gF⟩⟩⟩
 ·subst gF
  have hlt:=of_decide_eq_true hlt
  obtain⟨ad,f,had,hf,hrd⟩:=(hS.mono l1 fun _ h=>h).at g0 hlt
  obtain⟨hk,rfl⟩:=List.getElem?_eq_some_iff.1 hf
  rw[List.drop_eq_getElem_cons hk,cX] at ge
  have hrd':=hrd.sub (cc.le_refl _) fun y hy=>List.Mem.tail (b2,Obj.cells #[.int .i64 b0,.int .i64 b1,.bool b2'] 51 (0,0)) hy
  refine⟨⟨g0,hlt⟩,ad,had,_,hrd'.field (o:=0) rfl,fun h=>⟨⟨g0,hlt⟩,ad,had,_,_,_,hrd', ?_,rfl⟩,fun h=>⟨(n-(i+1)).toNat,by omega,rfl, ?_⟩⟩
  ·rw[ge,if_pos (by simpa using h)];rfl
  ·rw[cY (n:=i+1) (by omega)]
   refine⟨by omega,by omega,rfl, ?_⟩
   rw[ge,if_neg (by simpa using h),show (i+1).toNat=i.toNat+1 by omega]
 ·have hlt:=of_decide_eq_false hlt
  rw[ge,List.drop_eq_nil_of_le (by omega)];rfl
end Go.Lx
namespace Go.Lx
open Go.Vc
theorem Kc{α:Type}{x y w:α}{A l:List α}:(x::y::w::(A++l)).Perm (A++(x::y::w::l)):=List.perm_append_comm_assoc [x,y,w] A l
theorem HZ{a:Option Addr}{n c b1:Nat}{l:List TF}{A F R:b8}{I:cc}(hA:Acc 3 TF.enc 51 a n c l A)(hl:l.length≤100)(x:TF)(hbm:I b1=some (.cells #[.int .i64 x.e,.int .i64 x.pos,.bool x.of] 51 (0,0)))(hF:F.Perm (A++R)) :
  cF P (Builtin.append_ #[188,188] 188 #[.slice a n c,.slice (some ⟨b1,0,none⟩) 1 1]) I F fun v I' G=>∃a' n' c' A',v=.slice a' n' c'∧Acc 3 TF.enc 51 a' n' c' (l++[x]) A'∧G.Perm (A'++R) :=
 vY (f:=TF.enc) (fun _=>rfl) (zv:=sK.v) (by':=24) (by kernel_rfl) (by kernel_rfl) rfl (by decide) (by decide) hA hl x (HX x) hbm rfl hF
section
variable (s:cw) (hl:s.p.oK) {I:cc} {F:b8} (hok:s.Ok I F)
include hl hok
set_option maxHeartbeats 1000000 in
theorem Ee(d:dy)(hd:d.p.dC)(hdo:d.Ok I F):cf P 82 #[s.v,d.v] I F (dS (C0 s.p d.p).v F):=by
 have lr:=hl.regs
 have ls:=hl.slots
 have lt:=hl.states
 simp only[cw.p,List.length_map] at lr ls lt
 simp only[dA.dC,Small,dA.oJ,dy.p,List.mem_cons,List.not_mem_nil,or_false] at hd
 have z1:d.side.px.size≤1048576:=hd _ (.inl rfl)
 have z2:d.qty.px.size≤1048576:=hd _ (.inr (.inl rfl))
 have z3:d.price.px.size≤1048576:=hd _ (.inr (.inr (.inl rfl)))
 have z4:d.value.px.size≤1048576:=hd _ (.inr (.inr (.inr rfl)))
 refine cf.clean ?_
 obtain⟨i0,hi0⟩:∃i0,i0=HV s.p d.p:=⟨_,rfl⟩
 obtain⟨L1,hL1⟩:∃L,L=(if d.kind=1 then [eZ s.p d.side.px 6] else []):=⟨_,rfl⟩
 obtain⟨L2,hL2⟩:∃L,L=(if d.kind=1∨d.kind=2 then [eZ s.p d.qty.px 2] else []):=⟨_,rfl⟩
 obtain⟨L3,hL3⟩:∃L,L=(if d.kind=1∧d.order≠2∨d.kind=2 then [eZ s.p d.price.px 3] else []):=⟨_,rfl⟩
 obtain⟨L4,hL4⟩:∃L,L=(if d.kind=4 then [eZ s.p d.value.px (s.p.ko i0)] else []):=⟨_,rfl⟩
 have n1:L1.length≤1:=by rw[hL1];split<;>simp
 have n2:L2.length≤1:=by rw[hL2];split<;>simp
 have n3:L3.length≤1:=by rw[hL3];split<;>simp
 have n4:L4.length≤1:=by rw[hL4];split<;>simp
 have hL:JG s.p d.p=L1++(L2++(L3++L4)):=by rw[hL1,hL2,hL3,hL4,hi0];rfl
 have hI:HV s.p d.p=if d.kind=1 then (if d.name.toList=[] then 0 else s.p.slot d.name) else if d.kind=2∨d.kind=3 then s.p.slot d.name else if d.kind=4 then s.p.fG d.name else if d.kind=5 then s.p.room d.name else 0:=rfl
 refine si.vc (fun i I' F'=>F'=F∧i=i0)
  (fun a n c I' F'=>∃A,Acc 3 TF.enc 51 a n c L1 A∧F'.Perm (A++F))
  (fun a n c I' F'=>∃A,Acc 3 TF.enc 51 a n c (L1++L2) A∧F'.Perm (A++F))
  (fun a n c I' F'=>∃A,Acc 3 TF.enc 51 a n c (L1++L2++L3) A∧F'.Perm (A++F))
  (fun a n c I' F'=>∃A,Acc 3 TF.enc 51 a n c (L1++L2++L3++L4) A∧F'.Perm (A++F)) ?_
 unfold si.V
 intro b_s b_d b2
 have ok3:∀{J:cc} {G:b8} {x y w:Nat×Obj},cc.le I J→(∀y,y∈F→y∈G)→s.Ok J (x::y::w::G):=fun hJ hG=>hok.mono hJ fun y hy=>.tail _ (.tail _ (.tail _ (hG y hy)))
 have nd3:∀{J:cc} {G:b8} {x y w:Nat×Obj} {t:Nd},cC I F t→cc.le I J→(∀y,y∈F→y∈G)→cC J (x::y::w::G) t:=fun h hJ hG=>h.mono hJ fun y hy=>.tail _ (.tail _ (.tail _ (hG y hy)))
 refine⟨?_, ?_⟩
 ·refine⟨fun h1=>⟨fun hn=>?_,fun hn=>?_⟩,fun h1=>⟨fun h2=>?_,fun h2=>⟨fun h3=>?_,fun h3=>⟨fun h4=>?_,fun h4=>⟨fun h5=>?_,fun h5=>?_⟩⟩⟩⟩⟩
  ·have h1:d.kind=1:=by simpa using h1
   have hn:¬d.name.toList=[]:=by simpa using hn
   exact cf.ret (lR ls d.name (ok3 (cc.le_refl I) fun _ h=>h)) fun I1 l1=>⟨_,rfl,F,.refl _,rfl,by rw[hi0,hI,if_pos h1,if_neg hn]⟩
  ·have h1:d.kind=1:=by simpa using h1
   have hn:d.name.toList=[]:=by simpa using hn
   exact⟨rfl,by rw[hi0,hI,if_pos h1,if_pos hn]⟩
  all_goals have h1:d.kind≠1:=by simpa using h1
  all_goals rw[if_neg h1] at hI
  ·have h2:d.kind=2:=by simpa using h2
   exact cf.ret (lR ls d.name (ok3 (cc.le_refl I) fun _ h=>h)) fun I1 l1=>⟨_,rfl,F,.refl _,rfl,by rw[hi0,hI,if_pos (.inl h2)]⟩
  all_goals have h2:d.kind≠2:=by simpa using h2
  ·have h3:d.kind=3:=by simpa using h3
   exact cf.ret (lR ls d.name (ok3 (cc.le_refl I) fun _ h=>h)) fun I1 l1=>⟨_,rfl,F,.refl _,rfl,by rw[hi0,hI,if_pos (.inr h3)]⟩
  all_goals have h3:d.kind≠3:=by simpa using h3
  all_goals rw[if_neg (by omega)] at hI
  ·have h4:d.kind=4:=by simpa using h4
   exact cf.ret (oj lr d.name (ok3 (cc.le_refl I) fun _ h=>h)) fun I1 l1=>⟨_,rfl,F,.refl _,rfl,by rw[hi0,hI,if_pos h4]⟩
  all_goals have h4:d.kind≠4:=by simpa using h4
  all_goals rw[if_neg h4] at hI
  ·have h5:d.kind=5:=by simpa using h5
   exact cf.ret (sj lt d.name (ok3 (cc.le_refl I) fun _ h=>h)) fun I1 l1=>⟨_,rfl,F,.refl _,rfl,by rw[hi0,hI,if_pos h5]⟩
  ·have h5:d.kind≠5:=by simpa using h5
   exact⟨rfl,by rw[hi0,hI,if_neg h5]⟩
 intro i I6 F6 l6 ⟨gF,gi⟩
 subst gF gi
 have hdT:C0 s.p d.p=if i<0 then ⟨151,d.pos,false⟩ else cX id (L1++(L2++(L3++L4))):=by
  unfold C0
  rw[hL,←hi0];rfl
 rw[hdT]
 refine⟨fun hneg=>?_,fun hneg=>?_⟩
 ·rw[if_pos (of_decide_eq_true hneg)]
  exact⟨rfl,[],.refl _⟩
 have hneg:=of_decide_eq_false hneg
 rw[if_neg hneg]
 have app:∀{J J2:cc} {G G2:b8} {a:Option Addr} {n c b1:Nat} {L:List TF} {A:b8} {x y w:Nat×Obj} {f:TF},Acc 3 TF.enc 51 a n c L A→L.length≤100→G.Perm (A++F6)→J b1=some (.cells #[.int .i64 f.e,.int .i64 f.pos,.bool f.of] 51 (0,0)) →
   cF P (Builtin.append_ #[188,188] 188 #[.slice a n c,.slice (some ⟨b1,0,none⟩) 1 1]) J (x::y::w::G) fun v I' G'=>∃(a':Option Addr) (n' c':Nat),v=.slice a' n' c'∧∃F1:b8,G'.Perm (x::y::w::F1)∧∃A',Acc 3 TF.enc 51 a' n' c' (L++[f]) A'∧F1.Perm (A'++F6):=by
  intro J J2 G G2 a n c b1 L A x y w f hA hLl hG hb
  refine (HZ hA hLl f hb (R:=x::y::w::F6) ((((hG.cons w).cons y).cons x).trans Kc)).mono fun v I' G' _ ⟨a',n',c',A',hv,hA',hG'⟩=>⟨a',n',c',hv,A'++F6,hG'.trans Kc.symm,A',hA',.refl _⟩
 refine⟨⟨fun h1=>?_,fun h1=>?_⟩,fun a n c I10 F9 l10 ⟨A,hA,hF9⟩=>⟨⟨fun h1=>?_,fun h1=>⟨fun h2=>?_,fun h2=>?_⟩⟩,fun a n c I17 F14 l17 ⟨A,hA,hF14⟩=>⟨⟨fun h1=>⟨fun ho=>?_,fun ho=>⟨fun h2=>?_,fun h2=>?_⟩⟩,fun h1=>⟨fun h2=>?_,fun h2=>?_⟩⟩,fun a n c I27 F21 l27 ⟨A,hA,hF21⟩=>⟨⟨fun h4=>?_,fun h4=>?_⟩,fun a n c I31 F24 l31 ⟨A,hA,hF24⟩=>?_⟩⟩⟩⟩
 ·have h1:d.kind=1:=by simpa using h1
  rw[if_pos h1] at hL1
  refine cf.ret (fW s hl (ok3 l6 fun _ h=>h) d.side z1 (nd3 hdo.1 l6 fun _ h=>h) 6) fun I7 l7=>⟨_,_,_,rfl,F6,.refl _,fun b5 I8 l8 hb=>(app (J2:=I8) (G2:=[]) (L:=[]) (A:=[]) Acc.nil (by decide) (.refl _) hb).mono fun v I9 G9 l9 ⟨a',n',c',hv,F1,hG,A',hA',hF1⟩=>⟨a',n',c',hv,F1,hG,A', ?_,hF1⟩⟩
  rw[hL1];exact hA'
 ·have h1:d.kind≠1:=by simpa using h1
  rw[if_neg h1] at hL1
  exact⟨[],by rw[hL1];exact Acc.nil,.refl _⟩
 ·have h1:d.kind=1:=by simpa using h1
  rw[if_pos (.inl h1)] at hL2
  have l610:=cc.le_trans l6 l10
  have hs:∀y,y∈F6→y∈F9:=fun y hy=>hF9.mem_iff.2 (List.mem_append_right _ hy)
  refine cf.ret (fW s hl (ok3 l610 hs) d.qty z2 (nd3 hdo.2.1 l610 hs) 2) fun I7 l7=>⟨_,_,_,rfl,F9,.refl _,fun b5 I8 l8 hb=>(app (J2:=I8) (G2:=[]) hA (by omega) hF9 hb).mono fun v I9 G9 l9 ⟨a',n',c',hv,F1,hG,A',hA',hF1⟩=>⟨a',n',c',hv,F1,hG,A', ?_,hF1⟩⟩
  rw[hL2];exact hA'
 ·have h2:d.kind=2:=by simpa using h2
  rw[if_pos (.inr h2)] at hL2
  have l610:=cc.le_trans l6 l10
  have hs:∀y,y∈F6→y∈F9:=fun y hy=>hF9.mem_iff.2 (List.mem_append_right _ hy)
  refine cf.ret (fW s hl (ok3 l610 hs) d.qty z2 (nd3 hdo.2.1 l610 hs) 2) fun I7 l7=>⟨_,_,_,rfl,F9,.refl _,fun b5 I8 l8 hb=>(app (J2:=I8) (G2:=[]) hA (by omega) hF9 hb).mono fun v I9 G9 l9 ⟨a',n',c',hv,F1,hG,A',hA',hF1⟩=>⟨a',n',c',hv,F1,hG,A', ?_,hF1⟩⟩
  rw[hL2];exact hA'
 ·have h1:d.kind≠1:=by simpa using h1
  have h2:d.kind≠2:=by simpa using h2
  rw[if_neg (by omega)] at hL2
  exact⟨A,by rw[hL2,List.append_nil];exact hA,hF9⟩
 ·have h1:d.kind=1:=by simpa using h1
  have ho:d.order≠2:=by simpa using ho
  rw[if_pos (.inl ⟨h1,ho⟩)] at hL3
  have l617:=cc.le_trans l6 (cc.le_trans l10 l17)
  have hs:∀y,y∈F6→y∈F14:=fun y hy=>hF14.mem_iff.2 (List.mem_append_right _ hy)
  refine cf.ret (fW s hl (ok3 l617 hs) d.price z3 (nd3 hdo.2.2.1 l617 hs) 3) fun I7 l7=>⟨_,_,_,rfl,F14,.refl _,fun b5 I8 l8 hb=>(app (J2:=I8) (G2:=[]) hA (by rw[List.length_append];omega) hF14 hb).mono fun v I9 G9 l9 ⟨a',n',c',hv,F1,hG,A',hA',hF1⟩=>⟨a',n',c',hv,F1,hG,A', ?_,hF1⟩⟩
  rw[hL3];exact hA'
 ·have h1:d.kind=1:=by simpa using h1
  have h2:d.kind=2:=by simpa using h2
  omega
 ·have h1:d.kind=1:=by simpa using h1
  have ho:d.order=2:=by simpa using ho
  rw[if_neg (by omega)] at hL3
  exact⟨A,by rw[hL3,List.append_nil];exact hA,hF14⟩
 ·have h2:d.kind=2:=by simpa using h2
  rw[if_pos (.inr h2)] at hL3
  have l617:=cc.le_trans l6 (cc.le_trans l10 l17)
  have hs:∀y,y∈F6→y∈F14:=fun y hy=>hF14.mem_iff.2 (List.mem_append_right _ hy)
  refine cf.ret (fW s hl (ok3 l617 hs) d.price z3 (nd3 hdo.2.2.1 l617 hs) 3) fun I7 l7=>⟨_,_,_,rfl,F14,.refl _,fun b5 I8 l8 hb=>(app (J2:=I8) (G2:=[]) hA (by rw[List.length_append];omega) hF14 hb).mono fun v I9 G9 l9 ⟨a',n',c',hv,F1,hG,A',hA',hF1⟩=>⟨a',n',c',hv,F1,hG,A', ?_,hF1⟩⟩
  rw[hL3];exact hA'
 ·have h1:d.kind≠1:=by simpa using h1
  have h2:d.kind≠2:=by simpa using h2
  rw[if_neg (by omega)] at hL3
  exact⟨A,by rw[hL3,List.append_nil];exact hA,hF14⟩
 ·have h4:d.kind=4:=by simpa using h4
  rw[if_pos h4] at hL4
  have hir:i=s.p.fG d.name:=by rw[hi0,hI,if_neg (by omega),if_neg (by omega),if_pos h4]
  have hilt:i<s.regs.length:=by rw[hir];exact HY (by omega)
  have l627:=cc.le_trans l6 (cc.le_trans l10 (cc.le_trans l17 l27))
  have hs:∀y,y∈F6→y∈F21:=fun y hy=>hF21.mem_iff.2 (List.mem_append_right _ hy)
  obtain⟨ad,r,had,hrr,hrd,_⟩:=dq.gj (ok3 (x:=(c6 b_s s)) (y:=(ql b_d d)) (w:=(b2,Obj.cells #[.int .i64 0,.int .i64 0,.bool false] 51 (0,0))) l627 hs).regs (Int.not_lt.1 hneg) hilt
  have hT:s.p.ko i=r.cO:=by
   unfold cu.ko
   show (((s.regs.map cH.p)[i.toNat]?).map dh.cO).getD 0=_
   rw[List.getElem?_map,hrr];rfl
  rw[hT] at hL4
  refine⟨⟨Int.not_lt.1 hneg,hilt⟩,ad,had,r.cO,hrd.field (o:=1) rfl, ?_⟩
  refine cf.ret (fW s hl (ok3 l627 hs) d.value z4 (nd3 hdo.2.2.2 l627 hs) r.cO) fun I7 l7=>⟨_,_,_,rfl,F21,.refl _,fun b5 I8 l8 hb=>(app (J2:=I8) (G2:=[]) hA (by rw[List.length_append,List.length_append];omega) hF21 hb).mono fun v I9 G9 l9 ⟨a',n',c',hv,F1,hG,A',hA',hF1⟩=>⟨a',n',c',hv,F1,hG,A', ?_,hF1⟩⟩
  rw[hL4];exact hA'
 ·have h4:d.kind≠4:=by simpa using h4
  rw[if_neg h4] at hL4
  exact⟨A,by rw[hL4,List.append_nil];exact hA,hF21⟩
 ·have hn:=hA.1
  subst hn
  refine cf.ret (yL (hA.yr (z:=3) (f:=TF.enc) (fun _=>rfl) I31 fun y hy=>.tail _ (.tail _ (.tail _ (hF24.mem_iff.2 (List.mem_append_left _ hy))))) (by simp only[List.length_append];omega)) fun I32 l32=>⟨_,_,_,rfl,F24,.refl _, ?_,A,hF24⟩
  simp only[List.append_assoc];rfl
theorem AA(r:cp)(hr:r.p.dC)(hro:r.Ok I F):cf P 49 #[s.v,r.v] I F (dS (fa s.p r.p).v F):=by
 have hdl:=hr.2.1
 simp only[cp.p,List.length_map] at hdl
 have hds:∀d∈r.dos,d.p.dC:=fun d hd=>hr.2.2 _ (List.mem_map_of_mem hd)
 have hrule:fa s.p r.p=eB (eZ s.p r.when.px 5) (um s.p (r.dos.map dy.p) false):=rfl
 refine oh.vc (fun last i b0 b1 b2 f0 f1 f2 m I' F'=>F'=F∧0≤i∧i≤r.dos.length∧m=(r.dos.length-i).toNat∧fa s.p r.p=um s.p ((r.dos.drop i.toNat).map dy.p) last) ?_
 unfold oh.V
 intro b_s b_r b2
 have ok3:∀{J:cc} {x y w:Nat×Obj},cc.le I J→s.Ok J (x::y::w::F):=fun hJ=>hok.mono hJ fun y hy=>.tail _ (.tail _ (.tail _ hy))
 have ro3:∀{J:cc} {x y w:Nat×Obj},cc.le I J→r.Ok J (x::y::w::F):=fun hJ=>hro.mono hJ fun y hy=>.tail _ (.tail _ (.tail _ hy))
 refine cf.ret (fW s hl (ok3 (cc.le_refl I)) r.when hr.1 (ro3 (cc.le_refl I)).1 5) fun I1 l1=>⟨_,_,_,rfl,F,.refl _,fun b_f=>⟨fun h=>?_,fun h=>?_⟩⟩
 ·rw[hrule];unfold eB;rw[if_pos (by simpa using h)];exact⟨rfl,rfl⟩
 ·have h:(eZ s.p r.when.px 5).e=0:=by simpa using h
  refine⟨⟨_,rfl,by omega,by omega,rfl,by rw[hrule];unfold eB;rw[if_neg (by simpa using h)];rfl⟩,fun last i b0 b1 b2' f0 f1 f2 m I2 F2 l2 ⟨gF,g0,g1,gm,ge⟩=>⟨fun hlt=>?_,fun hlt=>⟨?_,gF⟩⟩⟩
  ·subst gF
   have hlt:=of_decide_eq_true hlt
   have l12:=cc.le_trans l1 l2
   obtain⟨ad,d,had,hd,hrd,hdm⟩:=dq.gj (hro.mono l12 fun _ h=>h).2.1 g0 hlt
   obtain⟨hk,rfl⟩:=List.getElem?_eq_some_iff.1 hd
   rw[List.drop_eq_getElem_cons hk,List.map_cons,um] at ge
   refine⟨⟨g0,hlt⟩,ad,had,_,_,_,_,_,_,_,_,_,_,_,_,_,_,_,_,_,_,_,_,_,_,_,_,_,_,_,_,_,_,_,_,_,_,_,_,_,_,_,_,_,_,_,_,hrd.sub (cc.le_refl _) fun y hy=>.tail _ (.tail _ (.tail _ (.tail _ hy))),fun b_d=>⟨fun hla=>?_,fun hla=>?_⟩⟩
   ·rw[ge,if_pos hla];exact⟨rfl,rfl⟩
   ·rw[if_neg (by simp[hla])] at ge
    have hdo:=(hro.mono l12 fun _ h=>h).2.2 _ hdm
    refine cf.ret (Ee s hl (hok.mono l12 fun y hy=>.tail _ (.tail _ (.tail _ (.tail _ (.tail _ hy))))) r.dos[i.toNat] (hds _ hdm) (hdo.mono (cc.le_refl _) fun y hy=>.tail _ (.tail _ (.tail _ (.tail _ (.tail _ hy)))))) fun I3 l3=>⟨_,_,_,rfl,F2,.refl _,fun he=>?_,fun he=>?_⟩
    ·rw[ge,if_pos (by simpa using he)];exact⟨rfl,rfl⟩
    ·rw[if_neg (by simpa using he)] at ge
     rw[cY (n:=i+1) (by omega)]
     refine⟨fun h5=>⟨(r.dos.length-(i+1)).toNat,by omega,rfl,by omega,by omega,rfl, ?_⟩,fun h5=>⟨(r.dos.length-(i+1)).toNat,by omega,rfl,by omega,by omega,rfl, ?_⟩⟩
     ·have h5:(r.dos[i.toNat]).kind=5:=by simpa using h5
      rw[ge,show (i+1).toNat=i.toNat+1 by omega,show decide ((r.dos[i.toNat]).p.kind=5∨(r.dos[i.toNat]).p.kind=6)=true from decide_eq_true (.inl h5)]
     ·have h5:(r.dos[i.toNat]).kind≠5:=by simpa using h5
      rw[ge,show (i+1).toNat=i.toNat+1 by omega]
      congr 1
      by_cases h6:(r.dos[i.toNat]).kind=6
      ·rw[show ((r.dos[i.toNat]).kind==6)=true by simpa using h6];exact decide_eq_true (.inr h6)
      ·rw[show ((r.dos[i.toNat]).kind==6)=false by simpa using h6];exact decide_eq_false (fun h=>h.elim h5 h6)
  ·have hlt:=of_decide_eq_false hlt
   rw[ge,List.drop_eq_nil_of_le (by omega)];rfl
end
end Go.Lx
namespace Go.Lx
open Go.Vc
theorem sw(a:TF)(h:a.e=0)(b:TF):eB a b=b:=by unfold eB;rw[if_neg (by simpa using h)]
theorem kx(a:TF)(h:a.e≠0)(b:TF):eB a b=a:=by unfold eB;rw[if_pos h]
def TF.Z(f:TF):Prop:=f.e=0→f=sK
theorem xU:sK.Z:=fun _=>rfl
theorem wj{e p:Int}{b:Bool}(h:e≠0):(⟨e,p,b⟩:TF).Z:=fun h'=>absurd h' h
theorem uD{a b:TF}(ha:a.Z)(hb:b.Z):(eB a b).Z:=by
 unfold eB;split
 ·exact ha
 ·exact hb
theorem GF(s:cu)(x:Px)(t:Int):(eZ s x t).Z:=by
 unfold eZ;split
 ·rename_i h;exact fun h'=>absurd h' h
 ·split
  ·exact wj (by decide)
  ·exact xU
theorem Fv(s:cu):∀(l:List dA) (b:Bool),(um s l b).Z
 | [],b=>xU
 | d::l,b=>by
   rw[um];split
   ·exact wj (by decide)
   ·split
    ·rename_i h;exact fun h'=>absurd h' h
    ·exact Fv s l _
theorem C5(s:cu)(r:cD):(fa s r).Z:=uD (GF _ _ _) (Fv _ _ _)
theorem AB(s:cu):∀(l:List dh) (i:Int),(ml s l i).Z
 | [],i=>xU
 | r::l,i=>by
   rw[ml];split
   ·exact wj (by decide)
   ·split
    ·exact wj (by decide)
    ·exact AB s l _
theorem AD(s:cu):∀(l:List cx) (i:Int),(mm s l i).Z
 | [],i=>xU
 | r::l,i=>by
   rw[mm];split
   ·exact wj (by decide)
   ·exact AD s l _
theorem AE(s:cu):∀(l:List cq) (i:Int),(j2 s l i).Z
 | [],i=>xU
 | r::l,i=>by
   rw[j2];split
   ·exact wj (by decide)
   ·exact AE s l _
theorem C6(s:cu):s.named.Z:=uD (AB _ _ _) (uD (AD _ _ _) (AE _ _ _))
theorem cI{a b:Int}(h:cm a b=0):a=0∧b=0:=by
 unfold cm at h
 split at h
 ·rename_i h0;exact⟨h0,h⟩
 ·rename_i h0;exact absurd h h0
theorem jN{α:Type}{f:α→Int}:∀{l:List α},cJ f l=0→∀x∈l,f x=0
 | [],_,x,hx=>by cases hx
 | y::r,h,x,hx=>by
   rw[cJ] at h
   obtain⟨h1,h2⟩:=cI h
   rcases List.mem_cons.1 hx with rfl | hx
   ·exact h1
   ·exact jN h2 x hx
theorem rq{b:Bool}{n:Int}(hn:n≠0)(h:cV b n=0):b=true:=by
 unfold cV at h
 split at h
 ·assumption
 ·exact absurd h hn
theorem wk{s:cu}(h:s.check=0):∀r∈s.regs,r.init.formed=true:=by
 unfold cu.check at h
 obtain⟨_,h⟩:=cI h
 obtain⟨_,h⟩:=cI h
 obtain⟨h,_⟩:=cI h
 intro r hr
 have h1:=rq (by decide) (jN h r hr)
 simp only[Bool.and_eq_true] at h1
 exact h1.2.2.1
section
variable (s:cw) (hl:s.p.oK) {I:cc} {F:b8} (hok:s.Ok I F)
include hl hok
theorem yM(hf:∀r∈s.regs,r.init.px.formed=true):cf P 48 #[s.v] I F (dS s.p.named.v F):=by
 have lr:=hl.regs
 have ls:=hl.slots
 have lt:=hl.states
 simp only[cw.p,List.length_map] at lr ls lt
 have hnm:∀r∈s.regs,r.init.px.size≤1048576:=fun r hr=>hl.fG _ (List.mem_map_of_mem hr)
 have hdef:s.p.named=eB (ml s.p (s.regs.map cH.p) 0) (eB (mm s.p s.slots 0) (j2 s.p (s.states.map cg.p) 0)):=rfl
 refine lN.vc (fun i b0 b1 b2 m I' F'=>F'=F∧0≤i∧i≤s.regs.length∧m=(s.regs.length-i).toNat∧ml s.p (s.regs.map cH.p) 0=ml s.p ((s.regs.drop i.toNat).map cH.p) i)
  (fun i b0 b1 b2 m I' F'=>F'=F∧0≤i∧i≤s.slots.length∧m=(s.slots.length-i).toNat∧s.p.named=eB (mm s.p (s.slots.drop i.toNat) i) (j2 s.p (s.states.map cg.p) 0))
  (fun i b0 b1 b2 m I' F'=>F'=F∧0≤i∧i≤s.states.length∧m=(s.states.length-i).toNat∧s.p.named=j2 s.p ((s.states.drop i.toNat).map cg.p) i) ?_
 unfold lN.V
 intro b_s b2
 have ok2:∀{J:cc} {x y:Nat×Obj},cc.le I J→s.Ok J (x::y::F):=fun hJ=>hok.mono hJ fun y hy=>.tail _ (.tail _ hy)
 have ok3:∀{J:cc} {x y w:Nat×Obj},cc.le I J→s.Ok J (x::y::w::F):=fun hJ=>hok.mono hJ fun y hy=>.tail _ (.tail _ (.tail _ hy))
 refine⟨⟨_,rfl,by omega,by omega,rfl,rfl⟩,fun i b0 b1 b2' m I1 F1 l1 ⟨gF,g0,g1,gm,ge⟩=>⟨fun hlt=>?_,fun hlt=>⟨⟨_,gF,by omega,by omega,rfl, ?_⟩,fun i1 c0 c1 c2 m4 I4 F4 l4 ⟨hF,h0,h1,hm,he⟩=>⟨fun hlt1=>?_,fun hlt1=>⟨⟨_,hF,by omega,by omega,rfl, ?_⟩,fun i2 d0 d1 d2 m9 I6 F5 l6 ⟨kF,k0,k1,km,ke⟩=>⟨fun hlt2=>?_,fun hlt2=>⟨?_,kF⟩⟩⟩⟩⟩⟩⟩
 ·subst gF
  have hlt:=of_decide_eq_true hlt
  obtain⟨ad,r,had,hr,hrd,hrm⟩:=dq.gj (ok2 (x:=(c6 b_s s)) (y:=(b2,Obj.cells #[.int .i64 b0,.int .i64 b1,.bool b2'] 51 (0,0))) l1).regs g0 hlt
  obtain⟨hk,rfl⟩:=List.getElem?_eq_some_iff.1 hr
  rw[List.drop_eq_getElem_cons hk,List.map_cons,ml] at ge
  refine⟨⟨g0,hlt⟩,ad,had,_,_,_,_,_,_,_,_,_,_,_,_,_,hrd,fun b_r=>?_⟩
  refine cf.ret (oj lr _ (ok3 l1)) fun I2 l2=>⟨_,rfl,F1,.refl _,fun hn=>?_,fun hn=>?_⟩
  ·have hn:=of_decide_eq_true hn
   rw[hdef,ge,if_pos (show s.p.fG (s.regs[i.toNat]).p.name<i from hn)]
   exact⟨rfl,rfl⟩
  ·have hn:=of_decide_eq_false hn
   rw[if_neg (show ¬s.p.fG (s.regs[i.toNat]).p.name<i from hn)] at ge
   have l12:=cc.le_trans l1 l2
   refine cf.ret (sv s lr _ (hnm _ hrm) (hf _ hrm) I2 _ (ok3 l12) (cC.mono (hok.fG _ hrm) l12 fun y hy=>.tail _ (.tail _ (.tail _ hy)))) fun I3 l3=>⟨_,_,_,_,rfl,F1,.refl _,fun b__=>⟨fun ht=>?_,fun ht=>?_⟩⟩
   ·have ht:(typed s.p (s.regs[i.toNat]).init.px).1≠(s.regs[i.toNat]).cO:=by simpa using ht
    rw[hdef,ge,if_pos (show (typed s.p (s.regs[i.toNat]).p.init).1≠(s.regs[i.toNat]).p.cO from ht)]
    exact⟨rfl,rfl⟩
   ·have ht:(typed s.p (s.regs[i.toNat]).init.px).1=(s.regs[i.toNat]).cO:=by simpa using ht
    rw[if_neg (show ¬(typed s.p (s.regs[i.toNat]).p.init).1≠(s.regs[i.toNat]).p.cO from fun h=>h ht)] at ge
    rw[cY (n:=i+1) (by omega)]
    refine⟨(s.regs.length-(i+1)).toNat,by omega,rfl,by omega,by omega,rfl, ?_⟩
    rw[ge,show (i+1).toNat=i.toNat+1 by omega]
 ·have hlt:=of_decide_eq_false hlt
  rw[List.drop_eq_nil_of_le (by omega)] at ge
  rw[hdef,ge];rfl
 ·subst hF
  have hlt1:=of_decide_eq_true hlt1
  have l14:=cc.le_trans l1 l4
  obtain⟨ad,r,had,hr,hrd,hrm⟩:=dq.gj (ok2 (x:=(c6 b_s s)) (y:=(b2,Obj.cells #[.int .i64 c0,.int .i64 c1,.bool c2] 51 (0,0))) l14).slots h0 hlt1
  obtain⟨hk,rfl⟩:=List.getElem?_eq_some_iff.1 hr
  rw[List.drop_eq_getElem_cons hk,mm] at he
  refine⟨⟨h0,hlt1⟩,ad,had,_,hrd.field (o:=0) rfl,_,cf.ret (lR ls _ (ok2 l14)) fun I5 l5=>⟨rfl,.refl _⟩,fun hn=>⟨⟨h0,hlt1⟩,ad,had,_,hrd.field (o:=1) rfl, ?_⟩,fun hn=>⟨(s.slots.length-(i1+1)).toNat,by omega,rfl, ?_⟩⟩
  ·have hn:=of_decide_eq_true hn
   rw[he,if_pos hn]
   exact⟨rfl,rfl⟩
  ·have hn:=of_decide_eq_false hn
   rw[cY (n:=i1+1) (by omega)]
   refine⟨by omega,by omega,rfl, ?_⟩
   rw[he,if_neg hn,show (i1+1).toNat=i1.toNat+1 by omega]
 ·have hlt1:=of_decide_eq_false hlt1
  rw[List.drop_eq_nil_of_le (by omega)] at he
  rw[he];rfl
 ·subst kF
  have hlt2:=of_decide_eq_true hlt2
  have l16:=cc.le_trans l1 (cc.le_trans l4 l6)
  obtain⟨ad,r,had,hr,hrd,hrm⟩:=dq.gj (ok2 (x:=(c6 b_s s)) (y:=(b2,Obj.cells #[.int .i64 d0,.int .i64 d1,.bool d2] 51 (0,0))) l16).states k0 hlt2
  obtain⟨hk,rfl⟩:=List.getElem?_eq_some_iff.1 hr
  rw[List.drop_eq_getElem_cons hk,List.map_cons,j2] at ke
  refine⟨⟨k0,hlt2⟩,ad,had,_,hrd.field (o:=0) rfl,_,cf.ret (sj lt _ (ok2 l16)) fun I5 l5=>⟨rfl,.refl _⟩,fun hn=>⟨⟨k0,hlt2⟩,ad,had,_,hrd.field (o:=2) rfl, ?_⟩,fun hn=>⟨(s.states.length-(i2+1)).toNat,by omega,rfl, ?_⟩⟩
  ·have hn:=of_decide_eq_true hn
   rw[ke,if_pos (show s.p.room (s.states[i2.toNat]).p.name<i2 from hn)]
   exact⟨rfl,rfl⟩
  ·have hn:=of_decide_eq_false hn
   rw[cY (n:=i2+1) (by omega)]
   refine⟨by omega,by omega,rfl, ?_⟩
   rw[ke,if_neg (show ¬s.p.room (s.states[i2.toNat]).p.name<i2 from hn),show (i2+1).toNat=i2.toNat+1 by omega]
 ·have hlt2:=of_decide_eq_false hlt2
  rw[List.drop_eq_nil_of_le (by omega)] at ke
  rw[ke];rfl
theorem xi:cf P 26 #[s.v] I F (dS s.p.types.v F):=by
 have lt:=hl.states
 simp only[cw.p,List.length_map] at lt
 have hst:∀x∈s.states,x.p.dC:=fun x hx=>hl.state _ (List.mem_map_of_mem hx)
 refine lQ.vc
  (fun i f0 f1 f2 m I0 F0 I' F'=>F'=F∧0≤i∧i≤s.states.length∧m=(s.states.length-i).toNat∧(⟨f0,f1,f2⟩:TF).Z∧s.p.types=eB ⟨f0,f1,f2⟩ (cX (fun x=>cX (fa s.p) x.rules) ((s.states.drop i.toNat).map cg.p)))
  (fun i k f0 f1 f2 m I0 F0 I' F'=>F'=F∧∃x,s.states[i.toNat]? = some x∧0≤k∧k≤x.rules.length∧m=(x.rules.length-k).toNat∧(⟨f0,f1,f2⟩:TF).Z∧s.p.types=eB ⟨f0,f1,f2⟩ (eB (cX (fa s.p) ((x.rules.drop k.toNat).map cp.p)) (cX (fun x=>cX (fa s.p) x.rules) ((s.states.drop (i.toNat+1)).map cg.p)))) ?_
 unfold lQ.V
 intro b_s b2
 have ok2:∀{J:cc} {x y:Nat×Obj},cc.le I J→s.Ok J (x::y::F):=fun hJ=>hok.mono hJ fun y hy=>.tail _ (.tail _ hy)
 have ok3:∀{J:cc} {x y w:Nat×Obj},cc.le I J→s.Ok J (x::y::w::F):=fun hJ=>hok.mono hJ fun y hy=>.tail _ (.tail _ (.tail _ hy))
 have hdef:s.p.types=if s.p.check≠0 then ⟨s.p.check,0,false⟩ else eB s.p.named (cX (fun x=>cX (fa s.p) x.rules) (s.states.map cg.p)):=rfl
 refine cf.ret (yK s hl I _ (ok2 (cc.le_refl I))) fun I1 l1=>⟨_,rfl,F,.refl _,fun hc=>?_,fun hc=>?_⟩
 ·have hc:s.p.check≠0:=by simpa using hc
  rw[hdef,if_pos hc];exact⟨rfl,rfl⟩
 have hc:s.p.check=0:=by simpa using hc
 rw[if_neg (by simpa using hc)] at hdef
 have hfm:∀r∈s.regs,r.init.px.formed=true:=fun r hr=>wk hc r.p (List.mem_map_of_mem hr)
 refine cf.ret (yM s hl (ok2 l1) hfm) fun I2 l2=>⟨_,_,_,rfl,F,.refl _,fun b_f=>⟨⟨_,rfl,by omega,by omega,rfl,C6 _,hdef⟩,fun i f0 f1 f2 m I3 F3 l3 ⟨gF,g0,g1,gm,gz,ge⟩=>⟨fun hlt=>⟨fun hf=>?_,fun hf=>?_⟩,fun hlt=>?_⟩⟩⟩
 ·subst gF
  have hlt:=of_decide_eq_true hlt
  have hf:f0=0:=by simpa using hf
  have l13:=cc.le_trans l1 (cc.le_trans l2 l3)
  obtain⟨x,hx⟩:∃x,s.states[i.toNat]? = some x:=⟨_,List.getElem?_eq_getElem (by omega)⟩
  obtain⟨hk,hxe⟩:=List.getElem?_eq_some_iff.1 hx
  have hxm:x∈s.states:=hxe▸List.getElem_mem hk
  have hxl:=(hst x hxm).1
  simp only[cg.p,List.length_map] at hxl
  rw[List.drop_eq_getElem_cons hk,hxe,List.map_cons,cX] at ge
  refine⟨⟨_,rfl,x,hx,by omega,by omega,rfl,gz, ?_⟩,fun k h0 h1 h2 m3 I4 F4 l4 ⟨hF,x',hx',k0,k1,km,kz,ke⟩=>?_⟩
  ·rw[ge];rfl
  subst hF
  obtain rfl:x=x':=by rw[hx] at hx';exact Option.some.inj hx'
  have l14:=cc.le_trans l13 l4
  obtain⟨ad,x2,had,hx2,hrd,_⟩:=dq.gj (ok3 (x:=(c6 b_s s)) (y:=(b2,Obj.cells #[.int .i64 0,.int .i64 0,.bool false] 51 (0,0))) (w:=(b_f,Obj.cells #[.int .i64 h0,.int .i64 h1,.bool h2] 51 (0,0))) l14).states g0 hlt
  obtain rfl:x=x2:=by rw[hx] at hx2;exact Option.some.inj hx2
  refine⟨⟨g0,hlt⟩,ad,had,_,_,_,hrd.field (o:=1) rfl,fun hlt2=>⟨fun hh=>?_,fun hh=>?_⟩,fun hlt2=>?_⟩
  ·have hlt2:=of_decide_eq_true hlt2
   have hh:h0=0:=by simpa using hh
   have hxo:=(ok3 (x:=(c6 b_s s)) (y:=(b2,Obj.cells #[.int .i64 0,.int .i64 0,.bool false] 51 (0,0))) (w:=(b_f,Obj.cells #[.int .i64 h0,.int .i64 h1,.bool h2] 51 (0,0))) l14).state x hxm
   obtain⟨ad5,r,had5,hr,hrd5,hrm⟩:=dq.gj hxo.1 k0 hlt2
   obtain⟨hk5,hre⟩:=List.getElem?_eq_some_iff.1 hr
   rw[List.drop_eq_getElem_cons hk5,hre,List.map_cons,cX] at ke
   refine⟨⟨g0,hlt⟩,ad,had,_,_,_,hrd.field (o:=1) rfl,⟨k0,hlt2⟩,ad5,had5,_,_,_,_,_,_,_,_,_,_,_,_,_,_,hrd5,(fa s.p r.p).e,(fa s.p r.p).pos,(fa s.p r.p).of,cf.ret (AA s hl (ok3 l14) r ((hst x hxm).2 _ (List.mem_map_of_mem hrm)) (hxo.2 r hrm)) fun I5 l5=>⟨rfl,.refl _⟩,(x.rules.length-(k+1)).toNat,by omega,rfl,x,hx, ?_⟩
   rw[cY (n:=k+1) (by omega)]
   refine⟨by omega,by omega,rfl,C5 _ _, ?_⟩
   rw[ke,sw _ hh,show (k+1).toNat=k.toNat+1 by omega]
   by_cases he:(fa s.p r.p).e=0
   ·rw[if_neg (by simpa using he),sw _ he]
   ·rw[if_pos he,kx _ he,kx (⟨(fa s.p r.p).e,(fa s.p r.p).pos,(fa s.p r.p).of⟩:TF) he]
  ·have hh:h0≠0:=by simpa using hh
   rw[cY (n:=i+1) (by omega)]
   refine⟨(s.states.length-(i+1)).toNat,by omega,rfl,by omega,by omega,rfl,kz, ?_⟩
   rw[ke,kx _ hh,kx _ hh]
  ·have hlt2:=of_decide_eq_false hlt2
   rw[cY (n:=i+1) (by omega)]
   refine⟨(s.states.length-(i+1)).toNat,by omega,rfl,by omega,by omega,rfl,kz, ?_⟩
   rw[ke,(List.drop_eq_nil_of_le (by omega):x.rules.drop k.toNat=[]),show (i+1).toNat=i.toNat+1 by omega];rfl
 ·have hf:f0≠0:=by simpa using hf
  rw[ge,kx _ hf];exact⟨rfl,gF⟩
 ·have hlt:=of_decide_eq_false hlt
  rw[List.drop_eq_nil_of_le (by omega)] at ge
  rw[ge]
  refine⟨?_,gF⟩
  show Ending.returned (TF.v ⟨f0,f1,f2⟩)=.returned (eB ⟨f0,f1,f2⟩ sK).v
  unfold eB
  split
  ·rfl
  ·rename_i h0
   have h0:f0=0:=by simpa using h0
   rw[gz h0]
end
end Go.Lx
