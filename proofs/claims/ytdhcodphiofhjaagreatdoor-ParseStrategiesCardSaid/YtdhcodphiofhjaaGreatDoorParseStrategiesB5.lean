import Derived.Test.YtdhcodphiofhjaaGreatDoorParseStrategiesB4
set_option linter.unusedVariables false
set_option linter.unusedSimpArgs false
set_option linter.unusedSectionVars false
set_option maxRecDepth 100000
namespace Go.Lx
open Go.Vc Go.Proofs.Tryz
def Fe:List (Nat×List Sh):=[(0,[]),(26,[.one .slc]),(27,[.one .slc]),(28,[.one .slc]),(29,[.one .slc]),(30,[.one .slc]),(64,[.agg [(.int .u8),(.int .u8),(.int .u8),(.int .i64),(.int .u8),.str,.slc,(.int .i64)]]),(86,[.one .slc]),(108,[.one .slc]),(114,[.agg [(.int .u8),(.int .u8),.str,(.int .u8),(.int .u8),(.int .u8),(.int .i64),(.int .u8),.str,.slc,(.int .i64),(.int .u8),(.int .u8),(.int .u8),(.int .i64),(.int .u8),.str,.slc,(.int .i64),(.int .u8),(.int .u8),(.int .u8),(.int .i64),(.int .u8),.str,.slc,(.int .i64),(.int .u8),(.int .u8),(.int .u8),(.int .i64),(.int .u8),.str,.slc,(.int .i64),(.int .i64)]])]
def fG.V(ka:Nat→Int→Int→Bs→Int→Int→Int→Int→Int→Bs→OA→Nat→Nat→Int→Int→Int→Int→Int→Int→Bs→OA→Nat→Nat→Int→Int→Int→Int→Int→Int→Bs→OA→Nat→Nat→Int→Int→Int→Int→Int→Int→Bs→OA→Nat→Nat→Int→Int→Nat×Obj)(a:Nat→Nat×Obj)(nV:Int→Int→Int→Int→Int→Bs→OA→Nat→Nat→Int→Value)(nL:Int→Int→Int→Int→Int→Bs→OA→Nat→Nat→Int→List Value)(vb vi:Int→Value)(vs:Bs→Value)(vl:OA→Nat→Nat→Value)(vp:OA→Value)(wr:Int→Int)(b:Addr)(cj:Bs)(bc:OA)(aL bP:Nat)(bQ:OA)(bR bS:Nat)(bd:OA)(aM bT:Nat)(I:cS)(F:cR)(Q:cT)(Inv8:Int→Nat→cS→cR→cS→cR→Prop)(Inv26:Int→Nat→cS→cR→cS→cR→Prop)(Inv42:Int→Int→Nat→cS→cR→cS→cR→Prop)(Inv58:Int→Int→Int→Nat→cS→cR→cS→cR→Prop):Prop:=∀c:Nat,∃ad:Addr,some b=some ad∧∃(bU:OA) (bV bW:Nat),Rd I ((a c)::F) (ad.add 2) [vl bU bV bW]∧∀(b1:Nat) (I1:cS),cS.le I I1→I1 b1=some (Obj.cells #[vl bc aL bP] 39 (0,0))→dk P (Builtin.append_ #[26,26] 26 #[vl bU bV bW,vl (some ⟨b1,0,none⟩) 1 1]) I1 ((a c)::F) fun v I2 G1=>∃(aZ:OA) (a0 a1:Nat),v=vl aZ a0 a1∧∃F1:cR,List.Perm G1 ((a c)::F1)∧∃aC:Addr,some b=some aC∧∃(cs:List Value) (el:Nat) (F2:cR),List.Perm F1 (((aC.add 2).block,Obj.cells cs.toArray el (0,0))::F2)∧(aC.add 2).spot=none∧(aC.add 2).off+1≤cs.length∧(∃m:Nat,Inv8 0 m I2 (((aC.add 2).block,Obj.cells (cY (aC.add 2).off [vl aZ a0 a1] cs).toArray el (0,0))::F2) I2 (((aC.add 2).block,Obj.cells (cY (aC.add 2).off [vl aZ a0 a1] cs).toArray el (0,0))::F2))∧∀(i:Int) (m1:Nat) (I3:cS) (F3:cR),cS.le I2 I3→Inv8 i m1 I2 (((aC.add 2).block,Obj.cells (cY (aC.add 2).off [vl aZ a0 a1] cs).toArray el (0,0))::F2) I3 F3→(Dt (i<(aL:Int)) ((0≤i∧i<(aL:Int))∧∃b9:Addr,bc=some b9∧∃(bX bY bZ b0 b6:Int) (b7:Bs) (be:OA) (bf bg:Nat) (b8:Int),Rd I3 ((a c)::F3) ((b9.add (Int.toNat i*11)).add 2) (nL bX bY bZ b0 b6 b7 be bf bg b8)∧eg P 19 (#[vp (some b),nV bX bY bZ b0 b6 b7 be bf bg b8]) I3 ((a c)::·) F3 fun e1 I4 G2=>e1=.returned (.tuple #[])∧G2 fun F4=>(∃m2:Nat,m2<m1∧Inv8 (wr (i+1)) m2 I2 (((aC.add 2).block,Obj.cells (cY (aC.add 2).off [vl aZ a0 a1] cs).toArray el (0,0))::F2) I4 F4)) (∃ca:Addr,some b=some ca∧∃(bi:OA) (bj bk:Nat),Rd I3 ((a c)::F3) (ca.add 3) [vl bi bj bk]∧∀(b2:Nat) (I5:cS),cS.le I3 I5→I5 b2=some (Obj.cells #[vl bQ bR bS] 40 (0,0))→dk P (Builtin.append_ #[27,27] 27 #[vl bi bj bk,vl (some ⟨b2,0,none⟩) 1 1]) I5 ((a c)::F3) fun v1 I6 G3=>∃(a8:OA) (a9 ba:Nat),v1=vl a8 a9 ba∧∃F5:cR,List.Perm G3 ((a c)::F5)∧∃aJ:Addr,some b=some aJ∧∃(bh:List Value) (bl:Nat) (F6:cR),List.Perm F5 (((aJ.add 3).block,Obj.cells bh.toArray bl (0,0))::F6)∧(aJ.add 3).spot=none∧(aJ.add 3).off+1≤bh.length∧∃cb:Addr,some b=some cb∧∃(bm:OA) (bn bo:Nat),Rd I6 ((a c)::(((aJ.add 3).block,Obj.cells (cY (aJ.add 3).off [vl a8 a9 ba] bh).toArray bl (0,0))::F6)) (cb.add 4) [vl bm bn bo]∧∀(b3:Nat) (I7:cS),cS.le I6 I7→I7 b3=some (Obj.cells #[vl bd aM bT] 41 (0,0))→dk P (Builtin.append_ #[28,28] 28 #[vl bm bn bo,vl (some ⟨b3,0,none⟩) 1 1]) I7 ((a c)::(((aJ.add 3).block,Obj.cells (cY (aJ.add 3).off [vl a8 a9 ba] bh).toArray bl (0,0))::F6)) fun v2 I8 G4=>∃(aN:OA) (aO aP:Nat),v2=vl aN aO aP∧∃F7:cR,List.Perm G4 ((a c)::F7)∧∃aD:Addr,some b=some aD∧∃(aW:List Value) (a2:Nat) (F8:cR),List.Perm F7 (((aD.add 4).block,Obj.cells aW.toArray a2 (0,0))::F8)∧(aD.add 4).spot=none∧(aD.add 4).off+1≤aW.length∧(∃m3:Nat,Inv26 0 m3 I8 (((aD.add 4).block,Obj.cells (cY (aD.add 4).off [vl aN aO aP] aW).toArray a2 (0,0))::F8) I8 (((aD.add 4).block,Obj.cells (cY (aD.add 4).off [vl aN aO aP] aW).toArray a2 (0,0))::F8))∧∀(i1:Int) (m4:Nat) (I9:cS) (F9:cR),cS.le I8 I9→Inv26 i1 m4 I8 (((aD.add 4).block,Obj.cells (cY (aD.add 4).off [vl aN aO aP] aW).toArray a2 (0,0))::F8) I9 F9→(Dt (i1<(aM:Int)) ((0≤i1∧i1<(aM:Int))∧∃cc:Addr,bd=some cc∧∃(aI:OA) (aF bp:Nat),Rd I9 ((a c)::F9) ((cc.add (Int.toNat i1*3)).add 1) [vl aI aF bp]∧∃cd:Addr,some b=some cd∧∃(bq:OA) (br bs:Nat),Rd I9 ((a c)::F9) (cd.add 5) [vl bq br bs]∧∀(b4:Nat) (I10:cS),cS.le I9 I10→I10 b4=some (Obj.cells #[vl aI aF bp] 86 (0,0))→dk P (Builtin.append_ #[29,29] 29 #[vl bq br bs,vl (some ⟨b4,0,none⟩) 1 1]) I10 ((a c)::F9) fun v3 I11 G5=>∃(aQ:OA) (aR aS:Nat),v3=vl aQ aR aS∧∃F10:cR,List.Perm G5 ((a c)::F10)∧∃aE:Addr,some b=some aE∧∃(aX:List Value) (a3:Nat) (F11:cR),List.Perm F10 (((aE.add 5).block,Obj.cells aX.toArray a3 (0,0))::F11)∧(aE.add 5).spot=none∧(aE.add 5).off+1≤aX.length∧(∃m5:Nat,Inv42 i1 0 m5 I11 (((aE.add 5).block,Obj.cells (cY (aE.add 5).off [vl aQ aR aS] aX).toArray a3 (0,0))::F11) I11 (((aE.add 5).block,Obj.cells (cY (aE.add 5).off [vl aQ aR aS] aX).toArray a3 (0,0))::F11))∧∀(k:Int) (m6:Nat) (I12:cS) (F12:cR),cS.le I11 I12→Inv42 i1 k m6 I11 (((aE.add 5).block,Obj.cells (cY (aE.add 5).off [vl aQ aR aS] aX).toArray a3 (0,0))::F11) I12 F12→(Dt (k<(aF:Int)) ((0≤k∧k<(aF:Int))∧∃bJ:Addr,aI=some bJ∧∃(bt bu bv bw bx:Int) (bz:Bs) (a4:OA) (a5 a6:Nat) (bA:Int),Rd I12 ((a c)::F12) ((bJ.add (Int.toNat k*10)).add 0) (nL bt bu bv bw bx bz a4 a5 a6 bA)∧eg P 19 (#[vp (some b),nV bt bu bv bw bx bz a4 a5 a6 bA]) I12 ((a c)::·) F12 fun e2 I13 G6=>e2=.returned (.tuple #[])∧G6 fun F13=>∃bK:Addr,some b=some bK∧((0≤k∧k<(aF:Int))∧∃bL:Addr,aI=some bL∧∃(bB:OA) (bC bD:Nat),Rd I13 ((a c)::F13) (bK.add 6) [vl bB bC bD]∧∃(bE:OA) (bF bG:Nat),Rd I13 ((a c)::F13) ((bL.add (Int.toNat k*10)).add 8) [vl bE bF bG]∧∀(b5:Nat) (I14:cS),cS.le I13 I14→I14 b5=some (Obj.cells #[vl bE bF bG] 108 (0,0))→dk P (Builtin.append_ #[30,30] 30 #[vl bB bC bD,vl (some ⟨b5,0,none⟩) 1 1]) I14 ((a c)::F13) fun v4 I15 G7=>∃(aT:OA) (aU aV:Nat),v4=vl aT aU aV∧∃F14:cR,List.Perm G7 ((a c)::F14)∧∃aa:Addr,some b=some aa∧∃(aY:List Value) (a7:Nat) (F15:cR),List.Perm F14 (((aa.add 6).block,Obj.cells aY.toArray a7 (0,0))::F15)∧(aa.add 6).spot=none∧(aa.add 6).off+1≤aY.length∧(∃m7:Nat,Inv58 i1 k 0 m7 I15 (((aa.add 6).block,Obj.cells (cY (aa.add 6).off [vl aT aU aV] aY).toArray a7 (0,0))::F15) I15 (((aa.add 6).block,Obj.cells (cY (aa.add 6).off [vl aT aU aV] aY).toArray a7 (0,0))::F15))∧∀(j:Int) (m8:Nat) (I16:cS) (F16:cR),cS.le I15 I16→Inv58 i1 k j m8 I15 (((aa.add 6).block,Obj.cells (cY (aa.add 6).off [vl aT aU aV] aY).toArray a7 (0,0))::F15) I16 F16→((0≤k∧k<(aF:Int))∧∃bM:Addr,aI=some bM∧∃(cg:OA) (bb ch:Nat),Rd I16 ((a c)::F16) ((bM.add (Int.toNat k*10)).add 8) [vl cg bb ch]∧(Dt (j<(bb:Int)) ((0≤k∧k<(aF:Int))∧∃bN:Addr,aI=some bN∧∃(bH:OA) (bI ci:Nat),Rd I16 ((a c)::F16) ((bN.add (Int.toNat k*10)).add 8) [vl bH bI ci]∧((0≤j∧j<(bI:Int))∧∃bO:Addr,bH=some bO∧∃(ay az:Int) (aA:Bs) (ab ac ae aG af:Int) (aH:Bs) (q:OA) (r s:Nat) (ag t u ah ai aj:Int) (ak:Bs) (d:OA) (e f:Nat) (al am an w x ao:Int) (ap:Bs) (g:OA) (h l:Nat) (aq ar au av aw y:Int) (z:Bs) (n:OA) (o p:Nat) (ax aB:Int),Rd I16 ((a c)::F16) (bO.add (Int.toNat j*36)) [vb ay,vb az,vs aA,vb ab,vb ac,vb ae,vi aG,vb af,vs aH,vl q r s,vi ag,vb t,vb u,vb ah,vi ai,vb aj,vs ak,vl d e f,vi al,vb am,vb an,vb w,vi x,vb ao,vs ap,vl g h l,vi aq,vb ar,vb au,vb av,vi aw,vb y,vs z,vl n o p,vi ax,vi aB]∧∀aK:Nat,eg P 19 (#[vp (some b),nV ab ac ae aG af aH q r s ag]) I16 ((a c)::(ka aK ay az aA ab ac ae aG af aH q r s ag t u ah ai aj ak d e f al am an w x ao ap g h l aq ar au av aw y z n o p ax aB)::·) F16 fun e3 I17 G8=>e3=.returned (.tuple #[])∧G8 fun F17=>eg P 19 (#[vp (some b),nV t u ah ai aj ak d e f al]) I17 ((a c)::(ka aK ay az aA ab ac ae aG af aH q r s ag t u ah ai aj ak d e f al am an w x ao ap g h l aq ar au av aw y z n o p ax aB)::·) F17 fun e4 I18 G9=>e4=.returned (.tuple #[])∧G9 fun F18=>eg P 19 (#[vp (some b),nV am an w x ao ap g h l aq]) I18 ((a c)::(ka aK ay az aA ab ac ae aG af aH q r s ag t u ah ai aj ak d e f al am an w x ao ap g h l aq ar au av aw y z n o p ax aB)::·) F18 fun e5 I19 G10=>e5=.returned (.tuple #[])∧G10 fun F19=>eg P 19 (#[vp (some b),nV ar au av aw y z n o p ax]) I19 ((a c)::(ka aK ay az aA ab ac ae aG af aH q r s ag t u ah ai aj ak d e f al am an w x ao ap g h l aq ar au av aw y z n o p ax aB)::·) F19 fun e6 I20 G11=>e6=.returned (.tuple #[])∧G11 fun F20=>(∃m9:Nat,m9<m8∧Inv58 i1 k (wr (j+1)) m9 I15 (((aa.add 6).block,Obj.cells (cY (aa.add 6).off [vl aT aU aV] aY).toArray a7 (0,0))::F15) I20 F20))) (∃ce:Nat,ce<m6∧Inv42 i1 (wr (k+1)) ce I11 (((aE.add 5).block,Obj.cells (cY (aE.add 5).off [vl aQ aR aS] aX).toArray a3 (0,0))::F11) I16 F16))))) (∃cf:Nat,cf<m4∧Inv26 (wr (i1+1)) cf I8 (((aD.add 4).block,Obj.cells (cY (aD.add 4).off [vl aN aO aP] aW).toArray a2 (0,0))::F8) I12 F12))) (Q (.returned (.tuple #[])) I9 F9))))
theorem fG.vc{b:Addr}{aD:Bs}{au:OA}{av aw:Nat}{ax:OA}{ay az:Nat}{aA:OA}{aB aC:Nat}{I:cS}{F:cR}{Q:cT}(Inv8:Int→Nat→cS→cR→cS→cR→Prop)(Inv26:Int→Nat→cS→cR→cS→cR→Prop)(Inv42:Int→Int→Nat→cS→cR→cS→cR→Prop)(Inv58:Int→Int→Int→Nat→cS→cR→cS→cR→Prop)(h:fG.V (fun W a b c d e f g h i j k l m n o p q r s t u v w x y z aa ab ac ad ae af ag ah ai aj ak al am an ao ap aq ar=>(W,Obj.cells #[.int .u8 a,.int .u8 b,.string c,.int .u8 d,.int .u8 e,.int .u8 f,.int .i64 g,.int .u8 h,.string i,.slice j k l,.int .i64 m,.int .u8 n,.int .u8 o,.int .u8 p,.int .i64 q,.int .u8 r,.string s,.slice t u v,.int .i64 w,.int .u8 x,.int .u8 y,.int .u8 z,.int .i64 aa,.int .u8 ab,.string ac,.slice ad ae af,.int .i64 ag,.int .u8 ah,.int .u8 ai,.int .u8 aj,.int .i64 ak,.int .u8 al,.string am,.slice an ao ap,.int .i64 aq,.int .i64 ar] 114 (0,0))) (fun b=>(b,Obj.cells #[.string aD,.slice au av aw,.slice ax ay az,.slice aA aB aC] 43 (0,0))) (fun k o t n f s a l c q=>.agg #[.int .u8 k,.int .u8 o,.int .u8 t,.int .i64 n,.int .u8 f,.string s,.slice a l c,.int .i64 q]) (fun k o t n f s a l c q=>[.int .u8 k,.int .u8 o,.int .u8 t,.int .i64 n,.int .u8 f,.string s,.slice a l c,.int .i64 q]) (.int .u8) (.int .i64) .string .slice .pointer (IntKind.wrap .i64) b aD au av aw ax ay az aA aB aC I F Q Inv8 Inv26 Inv42 Inv58):cU P 14 #[.pointer (some b),.agg #[.string aD,.slice au av aw,.slice ax ay az,.slice aA aB aC]] I F Q :=
 tw (A:=(dy [3004,9004,14003,19007] [] [19] Fe [(8,⟨[(4,(.int .i64))],[],fun fs I0 F0 vs m I F=>match fs,vs with | [],[.int _ y0]=>Inv8 y0 m I0 F0 I F | _,_=>False,[],[]⟩),(26,⟨[(5,(.int .i64))],[],fun fs I0 F0 vs m I F=>match fs,vs with | [],[.int _ y0]=>Inv26 y0 m I0 F0 I F | _,_=>False,[],[]⟩),(42,⟨[(7,(.int .i64))],[],fun fs I0 F0 vs m I F=>match fs,vs with | [.int _ y0],[.int _ y1]=>Inv42 y0 y1 m I0 F0 I F | _,_=>False,[5],[]⟩),(58,⟨[(8,(.int .i64))],[],fun fs I0 F0 vs m I F=>match fs,vs with | [.int _ y0,.int _ y1],[.int _ y2]=>Inv58 y0 y1 y2 m I0 F0 I F | _,_=>False,[5,7],[]⟩)] [1007,6007,7007,12006,17010] [] [] [] [(1,[0,1,2,3,5,4,6,7,8,9,10,11]),(6,[0,1,2,3,5,4,6,7,8,9,10,11]),(7,[0,1,2,3,5,4,6,7,8,9,10,11]),(17,[0,1,2,3,5,6,7,8,4,9,10,11,12,13,14])] [])) [19] func14 h
end Go.Lx
namespace Go.Lx
open Go.Vc
def Es.V(b:Nat→Nat×Obj)(vb vi:Int→Value)(vs:Bs→Value)(vl:OA→Nat→Nat→Value)(ah:Bs)(q:OA)(d aj:Nat)(s:OA)(e ak:Nat)(t:OA)(a al:Nat)(I:cS)(F:cR)(Q:cT)(Inv24:Int→Bool→Int→Nat→cS→cR→Prop)(Inv55:Int→Bool→Int→Nat→cS→cR→Prop)(Inv94:Int→Int→Nat→cS→cR→Prop):Prop:=∀c:Nat,dt P 50 #[vs ah] I ((b c)::·) F .bool fun r I1 F1=>(It (!r) (Q (.returned (vi 120)) I1 F1) (Dt ((d:Int)>12) (Q (.returned (vi 121)) I1 F1) ((∃m:Nat,Inv24 0 r 0 m I1 F1)∧∀(x:Int) (ok:Bool) (i:Int) (m1:Nat) (I2:cS) (F2:cR),cS.le I1 I2→Inv24 x ok i m1 I2 F2→(Dt (i<(d:Int)) ((0≤i∧i<(d:Int))∧∃ad:Addr,q=some ad∧∃(u:Bs) (v w y z aa ab:Int) (ac:Bs) (f:OA) (g h:Nat) (ae n:Int),Rd I2 ((b c)::F2) (ad.add (Int.toNat i*11)) [vs u,vb v,vb w,vb y,vb z,vi aa,vb ab,vs ac,vl f g h,vi ae,vi n]∧dt P 51 #[.agg #[vs u,vb v,vb w,vb y,vb z,vi aa,vb ab,vs ac,vl f g h,vi ae,vi n]] I2 ((b c)::·) F2 .bool fun r1 I3 F3=>(It (!r1) (Q (.returned (vi 120)) I3 F3) (∃m2:Nat,m2<m1∧Inv24 x r1 (IntKind.wrap .i64 (i+1)) m2 I3 F3))) (Dt ((e:Int)>4) (Q (.returned (vi 121)) I2 F2) ((∃m3:Nat,Inv55 x ok 0 m3 I2 F2)∧∀(x1:Int) (ai:Bool) (i1:Int) (m4:Nat) (I4:cS) (F4:cR),cS.le I2 I4→Inv55 x1 ai i1 m4 I4 F4→(Dt (i1<(e:Int)) ((0≤i1∧i1<(e:Int))∧∃af:Addr,s=some af∧∃(m5:Bs),Rd I4 ((b c)::F4) ((af.add (Int.toNat i1*2)).add 0) [vs m5]∧dt P 50 #[vs m5] I4 ((b c)::·) F4 .bool fun r2 I5 F5=>(It (!r2) (Q (.returned (vi 120)) I5 F5) (∃m6:Nat,m6<m4∧Inv55 x1 r2 (IntKind.wrap .i64 (i1+1)) m6 I5 F5))) (It ((a:Int)==0) (Q (.returned (vi 120)) I4 F4) (Dt ((a:Int)>12) (Q (.returned (vi 121)) I4 F4) ((∃m7:Nat,Inv94 x1 0 m7 I4 F4)∧∀(x2 i2:Int) (m8:Nat) (I6:cS) (F6:cR),cS.le I4 I6→Inv94 x2 i2 m8 I6 F6→(Dt (i2<(a:Int)) ((0≤i2∧i2<(a:Int))∧∃ag:Addr,t=some ag∧∃(o:Bs) (j:OA) (k l:Nat) (p:Int),Rd I6 ((b c)::F6) (ag.add (Int.toNat i2*3)) [vs o,vl j k l,vi p]∧dt P 52 #[.agg #[vs o,vl j k l,vi p]] I6 ((b c)::·) F6 vi fun r3 I7 F7=>(It (r3 != 0) (Q (.returned (vi r3)) I7 F7) (∃m9:Nat,m9<m8∧Inv94 x2 (IntKind.wrap .i64 (i2+1)) m9 I7 F7))) (Q (.returned (vi 0)) I6 F6))))))))))))
def FN.V(a:Nat→Nat×Obj)(vb:Int→Value)(vt:Bool→Value)(g:Bs)(b h i j k l:Int)(m:Bs)(d:OA)(e f:Nat)(n o:Int)(I:cS)(F:cR)(Q:cT)  : Prop:=∀c:Nat,dt P 50 #[.string g] I ((a c)::·) F vt fun r I1 F1=>(It r (Dt (b≥1) (Dt (b≤6) (dt P 98 #[.agg #[vb h,vb i,vb j,.int .i64 k,vb l,.string m,.slice d e f,.int .i64 n]] I1 ((a c)::·) F1 vt fun r1 I2 F2=>Q (.returned (vt r1)) I2 F2) (Q (.returned (vt false)) I1 F1)) (Q (.returned (vt false)) I1 F1)) (Q (.returned (vt false)) I1 F1))
def Et.V(b:Nat→Nat×Obj)(vb vi:Int→Value)(vl:OA→Nat→Nat→Value)(v:Bs)(k:OA)(a w:Nat)(y:Int)(I:cS)(F:cR)(Q:cT)(Inv24:Int→Int→Nat→cS→cR→Prop):Prop:=∀c:Nat,dt P 50 #[.string v] I ((b c)::·) F .bool fun r I1 F1=>(It (!r) (Q (.returned (vi 120)) I1 F1) (Dt ((a:Int)>12) (Q (.returned (vi 121)) I1 F1) ((∃m:Nat,Inv24 0 0 m I1 F1)∧∀(x i:Int) (m1:Nat) (I2:cS) (F2:cR),cS.le I1 I2→Inv24 x i m1 I2 F2→(Dt (i<(a:Int)) ((0≤i∧i<(a:Int))∧∃ad:Addr,k=some ad∧∃(l n o p q:Int) (s:Bs) (d:OA) (e f:Nat) (t:Int) (g:OA) (h j:Nat) (u:Int),Rd I2 ((b c)::F2) (ad.add (Int.toNat i*10)) [vb l,vb n,vb o,vi p,vb q,.string s,vl d e f,vi t,vl g h j,vi u]∧dt P 99 #[.agg #[vb l,vb n,vb o,vi p,vb q,.string s,vl d e f,vi t,vl g h j,vi u]] I2 ((b c)::·) F2 vi fun r1 I3 F3=>(It (r1 != 0) (Q (.returned (vi r1)) I3 F3) (∃m2:Nat,m2<m1∧Inv24 x (IntKind.wrap .i64 (i+1)) m2 I3 F3))) (Q (.returned (vi 0)) I2 F2)))))
def Ff.V(b:Nat→Nat×Obj)(vb vi:Int→Value)(vs:Bs→Value)(vl:OA→Nat→Nat→Value)(aG aH aI aJ aK:Int)(aL:Bs)(ar:OA)(au av:Nat)(aM:Int)(aw:OA)(a aN:Nat)(aO:Int)(I:cS)(F:cR)(Q:cT)(Inv32:Int→Int→Int→Nat→cS→cR→Prop):Prop:=∀n:Nat,dt P 120 #[.agg #[vb aG,vb aH,vb aI,vi aJ,vb aK,vs aL,vl ar au av,vi aM]] I ((b n)::·) F vi fun r I1 F1=>(It (r != 0) (Q (.returned (vi r)) I1 F1) (It ((a:Int)==0) (Q (.returned (vi 120)) I1 F1) (Dt ((a:Int)>8) (Q (.returned (vi 121)) I1 F1) ((∃m:Nat,Inv32 0 r 0 m I1 F1)∧∀(x e2 i:Int) (m1:Nat) (I2:cS) (F2:cR),cS.le I1 I2→Inv32 x e2 i m1 I2 F2→(Dt (i<(a:Int)) ((0≤i∧i<(a:Int))∧∃ad:Addr,aw=some ad∧∃(ax ay:Int) (az:Bs) (aA aB aC aD aE:Int) (aF:Bs) (o:OA) (p q:Nat) (s t u v w y:Int) (z:Bs) (c:OA) (d e:Nat) (aa ab ac ae af ag:Int) (ah:Bs) (f:OA) (g h:Nat) (ai aj ak al am an:Int) (ao:Bs) (j:OA) (k l:Nat) (ap aq:Int),Rd I2 ((b n)::F2) (ad.add (Int.toNat i*36)) [vb ax,vb ay,vs az,vb aA,vb aB,vb aC,vi aD,vb aE,vs aF,vl o p q,vi s,vb t,vb u,vb v,vi w,vb y,vs z,vl c d e,vi aa,vb ab,vb ac,vb ae,vi af,vb ag,vs ah,vl f g h,vi ai,vb aj,vb ak,vb al,vi am,vb an,vs ao,vl j k l,vi ap,vi aq]∧dt P 121 #[.agg #[vb ax,vb ay,vs az,vb aA,vb aB,vb aC,vi aD,vb aE,vs aF,vl o p q,vi s,vb t,vb u,vb v,vi w,vb y,vs z,vl c d e,vi aa,vb ab,vb ac,vb ae,vi af,vb ag,vs ah,vl f g h,vi ai,vb aj,vb ak,vb al,vi am,vb an,vs ao,vl j k l,vi ap,vi aq]] I2 ((b n)::·) F2 vi fun r1 I3 F3=>(It (r1 != 0) (Q (.returned (vi r1)) I3 F3) (∃m2:Nat,m2<m1∧Inv32 x r1 (IntKind.wrap .i64 (i+1)) m2 I3 F3))) (Q (.returned (vi 0)) I2 F2))))))
def Gn.V(a:Nat→Nat×Obj)(nV:Int→Int→Int→Int→Int→Bs→OA→Nat→Nat→Int→Value)(vi:Int→Value)(vl:OA→Nat→Nat→Value)(vt:Bool→Value)(d k:Int)(ab:Bs)(aE aF aG aH aI:Int)(aJ:Bs)(an:OA)(ao ap:Nat)(aD ag ah ai aj ak:Int)(al:Bs)(ac:OA)(ad ae:Nat)(am l m n o p:Int)(q:Bs)(e:OA)(f g:Nat)(s t u v w y:Int)(z:Bs)(h:OA)(i j:Nat)(aa aX:Int)(I:cS)(F:cR)(Q:cT)(Inv6:Int→cS→cR→Prop)(Inv14:Int→cS→cR→Prop)(Inv24:Int→cS→cR→Prop):Prop:=∀c:Nat,((Dt (d<1) (Q (.returned (vi 120)) I F) (Dt (d>6) (Q (.returned (vi 120)) I F) (Inv6 0 I F))))∧∀(x:Int) (I1:cS) (F1:cR),cS.le I I1→Inv6 x I1 F1→((It (d==1) (Dt (k<1) (Q (.returned (vi 120)) I1 F1) (Dt (k>5) (Q (.returned (vi 120)) I1 F1) (It (!(d==1)) (It (k != 0) (Q (.returned (vi 120)) I1 F1) (Inv14 x I1 F1)) (Inv14 x I1 F1)))) (It (!(d==1)) (It (k != 0) (Q (.returned (vi 120)) I1 F1) (Inv14 x I1 F1)) (Inv14 x I1 F1))))∧∀(x1:Int) (I2:cS) (F2:cR),cS.le I1 I2→Inv14 x1 I2 F2→dt P 50 #[.string ab] I2 ((a c)::·) F2 vt fun r I3 F3=>((It (d==6) (It (!(ab.toList==(⟨#[]⟩:Bs).toList)) (Q (.returned (vi 120)) I3 F3) (It (d != 6) (It (!r) (It (d==1) (It (!(ab.toList==(⟨#[]⟩:Bs).toList)) (Q (.returned (vi 120)) I3 F3) (Inv24 x1 I3 F3)) (It true (Q (.returned (vi 120)) I3 F3) (Inv24 x1 I3 F3))) (Inv24 x1 I3 F3)) (Inv24 x1 I3 F3))) (It (d != 6) (It (!r) (It (d==1) (It (!(ab.toList==(⟨#[]⟩:Bs).toList)) (Q (.returned (vi 120)) I3 F3) (Inv24 x1 I3 F3)) (It true (Q (.returned (vi 120)) I3 F3) (Inv24 x1 I3 F3))) (Inv24 x1 I3 F3)) (Inv24 x1 I3 F3))))∧∀(x2:Int) (I4:cS) (F4:cR),cS.le I3 I4→Inv24 x2 I4 F4→dt P 132 (#[vt (d==1),nV aE aF aG aH aI aJ an ao ap aD]) I4 ((a c)::·) F4 vi fun r1 I5 F5=>(It (d==1) (dt P 132 #[vt true,nV ag ah ai aj ak al ac ad ae am] I5 ((a c)::·) F5 vi fun r2 I6 F6=>(It (d==1) (It (k != 2) (dt P 132 #[vt true,nV l m n o p q e f g s] I6 ((a c)::·) F6 vi fun r3 I7 F7=>dt P 132 (#[vt (d==4),nV t u v w y z h i j aa]) I7 ((a c)::·) F7 vi fun r4 I8 F8=>∀(b:Nat) (I9:cS),cS.le I8 I9→I9 b=some (Obj.cells #[vi r1,vi r2,vi r3,vi r4] 48 (0,0))→dt P 133 (#[vl (some ⟨b,0,none⟩) 4 4]) I9 ((a c)::·) F8 vi fun r5 I10 F9=>Q (.returned (vi r5)) I10 F9) (dt P 132 (#[vt (d==2),nV l m n o p q e f g s]) I6 ((a c)::·) F6 vi fun r6 I11 F10=>dt P 132 (#[vt (d==4),nV t u v w y z h i j aa]) I11 ((a c)::·) F10 vi fun r7 I12 F11=>∀(b1:Nat) (I13:cS),cS.le I12 I13→I13 b1=some (Obj.cells #[vi r1,vi r2,vi r6,vi r7] 48 (0,0))→dt P 133 (#[vl (some ⟨b1,0,none⟩) 4 4]) I13 ((a c)::·) F11 vi fun r8 I14 F12=>Q (.returned (vi r8)) I14 F12)) (dt P 132 (#[vt (d==2),nV l m n o p q e f g s]) I6 ((a c)::·) F6 vi fun r9 I15 F13=>dt P 132 (#[vt (d==4),nV t u v w y z h i j aa]) I15 ((a c)::·) F13 vi fun aq I16 F14=>∀(b2:Nat) (I17:cS),cS.le I16 I17→I17 b2=some (Obj.cells #[vi r1,vi r2,vi r9,vi aq] 48 (0,0))→dt P 133 (#[vl (some ⟨b2,0,none⟩) 4 4]) I17 ((a c)::·) F14 vi fun ar I18 F15=>Q (.returned (vi ar)) I18 F15))) (dt P 132 (#[vt (d==2),nV ag ah ai aj ak al ac ad ae am]) I5 ((a c)::·) F5 vi fun af I19 F16=>(It (d==1) (It (k != 2) (dt P 132 #[vt true,nV l m n o p q e f g s] I19 ((a c)::·) F16 vi fun au I20 F17=>dt P 132 (#[vt (d==4),nV t u v w y z h i j aa]) I20 ((a c)::·) F17 vi fun av I21 F18=>∀(b3:Nat) (I22:cS),cS.le I21 I22→I22 b3=some (Obj.cells #[vi r1,vi af,vi au,vi av] 48 (0,0))→dt P 133 (#[vl (some ⟨b3,0,none⟩) 4 4]) I22 ((a c)::·) F18 vi fun aw I23 F19=>Q (.returned (vi aw)) I23 F19) (dt P 132 (#[vt (d==2),nV l m n o p q e f g s]) I19 ((a c)::·) F16 vi fun ax I24 F20=>dt P 132 (#[vt (d==4),nV t u v w y z h i j aa]) I24 ((a c)::·) F20 vi fun ay I25 F21=>∀(b4:Nat) (I26:cS),cS.le I25 I26→I26 b4=some (Obj.cells #[vi r1,vi af,vi ax,vi ay] 48 (0,0))→dt P 133 (#[vl (some ⟨b4,0,none⟩) 4 4]) I26 ((a c)::·) F21 vi fun az I27 F22=>Q (.returned (vi az)) I27 F22)) (dt P 132 (#[vt (d==2),nV l m n o p q e f g s]) I19 ((a c)::·) F16 vi fun aA I28 F23=>dt P 132 (#[vt (d==4),nV t u v w y z h i j aa]) I28 ((a c)::·) F23 vi fun aB I29 F24=>∀(b5:Nat) (I30:cS),cS.le I29 I30→I30 b5=some (Obj.cells #[vi r1,vi af,vi aA,vi aB] 48 (0,0))→dt P 133 (#[vl (some ⟨b5,0,none⟩) 4 4]) I30 ((a c)::·) F24 vi fun aC I31 F25=>Q (.returned (vi aC)) I31 F25))))
def Eu.V(vi:Int→Value)(b:OA)(a d:Nat)(I:cS)(F:cR)(Q:cT)(Inv6:Int→Int→Nat→cS→cR→Prop):Prop:=(∃m:Nat,Inv6 0 0 m I F)∧∀(x i:Int) (m1:Nat) (I1:cS) (F1:cR),cS.le I I1→Inv6 x i m1 I1 F1→(Dt (i<(a:Int)) ((0≤i∧i<(a:Int))∧∃ad:Addr,b=some ad∧∃(m2:Int),Rd I1 F1 (ad.add (Int.toNat i*1)) [vi m2]∧(It (m2 != 0) ((0≤i∧i<(a:Int))∧∃c:Addr,b=some c∧∃(m3:Int),Rd I1 F1 (c.add (Int.toNat i*1)) [vi m3]∧Q (.returned (vi m3)) I1 F1) (∃m4:Nat,m4<m1∧Inv6 x (IntKind.wrap .i64 (i+1)) m4 I1 F1))) (Q (.returned (vi 0)) I1 F1))
def Fg.V(a:Nat→Nat×Obj)(nV:Int→Int→Int→Int→Int→Bs→OA→Nat→Nat→Int→Value)(vi:Int→Value)(b:Bool)(g h i j k:Int)(l:Bs)(c:OA)(d e:Nat)(m:Int)(I:cS)(F:cR)(Q:cT)  : Prop:=∀f:Nat,(It b (dt P 120 #[nV g h i j k l c d e m] I ((a f)::·) F vi fun r I1 F1=>Q (.returned (vi r)) I1 F1) (dt P 148 #[nV g h i j k l c d e m] I ((a f)::·) F .bool fun r1 I2 F2=>(It (!r1) (Q (.returned (vi 120)) I2 F2) (Q (.returned (vi 0)) I2 F2))))
def Fh.V(nO:Int→Int→Int→Int→Int→Bs→OA→Nat→Nat→Int→Obj)(vb:Int→Value)(vt:Bool→Value)(d e f g h:Int)(i:Bs)(b:OA)(a c:Nat)(j:Int)(I:cS)(F:cR)(Q:cT)  : Prop:=∀k:Nat,(It (d==0) (dt P 146 #[.agg #[vb d,vb e,vb f,.int .i64 g,vb h,.string i,.slice b a c,.int .i64 j]] I ((k,nO d e f g h i b a c j)::·) F vt fun r I1 F1=>(It r (Q (.returned (vt ((a:Int)==0))) I1 F1) (Q (.returned (vt false)) I1 F1))) (Q (.returned (vt false)) I F))
def DO.V(b:Nat→Nat×Obj)(nV:Int→Int→Int→Int→Int→Bs→OA→Nat→Nat→Int→Value)(nO:Int→Int→Int→Int→Int→Bs→OA→Nat→Nat→Int→Obj)(vb:Int→Value)(vt:Bool→Value)(c g l m n:Int)(o:Bs)(d:OA)(a f:Nat)(p:Int)(I:cS)(F:cR)(Q:cT)  : Prop:=∀e:Nat,(It (c==5) (It (g==1) (It ((a:Int)==1) ((0≤(0:Int)∧(0:Int)<(a:Int))∧∃ad:Addr,d=some ad∧∃(k s q t u:Int) (v:Bs) (h:OA) (i j:Nat) (w:Int),Rd I ((b e)::F) (ad.add (Int.toNat 0*8)) [vb k,vb s,vb q,.int .i64 t,vb u,.string v,.slice h i j,.int .i64 w]∧∀x:Nat,dt P 119 #[nV c g l m n o d a f p] I ((b e)::(x,nO k s q t u v h i j w)::·) F vt fun r I1 F1=>(It r (It (k==1) (Q (.returned (vt (decide (q≤4)))) I1 F1) (Q (.returned (vt false)) I1 F1)) (Q (.returned (vt false)) I1 F1))) (dt P 119 #[nV c g l m n o d a f p] I ((b e)::·) F vt fun r1 I2 F2=>(It r1 (Q (.returned (vt (c==1))) I2 F2) (Q (.returned (vt false)) I2 F2)))) (dt P 119 #[nV c g l m n o d a f p] I ((b e)::·) F vt fun r2 I3 F3=>(It r2 (Q (.returned (vt (c==1))) I3 F3) (Q (.returned (vt false)) I3 F3)))) (dt P 119 #[nV c g l m n o d a f p] I ((b e)::·) F vt fun r3 I4 F4=>(It r3 (Q (.returned (vt (c==1))) I4 F4) (Q (.returned (vt false)) I4 F4))))
section
variable (s:dV) (hl:s.p.zJ) {I:cS} {F:cR} (hok:s.Ok I F)
include hl hok
end
end Go.Lx
namespace Go.Lx
open Go.Vc
section
variable (s:dV) (hl:s.p.zJ) {I:cS} {F:cR} (hok:s.Ok I F)
include hl hok
end
end Go.Lx
namespace Go.Lx
open Go.Vc
section
variable (s:dV) (hl:s.p.zJ) {I:cS} {F:cR} (hok:s.Ok I F)
include hl hok
end
end Go.Lx
namespace Go.Lx
open Go.Vc
inductive kB (B:Int):Px→Prop
 | mk {k o t n f:Int} {s:ByteArray} {l:List Px} {q:Int}:0≤q→q≤B→(∀x∈l,kB B x)→(s.size:Int)≤B→kB B (.mk k o t n f s l q)
theorem kB.nm{B:Int}{x:Px}(h:kB B x):(x.name.size:Int)≤B:=by cases h;assumption
theorem zO{B q:Int}(h0:0≤q)(h1:q≤B):(((⟨#[]⟩:ByteArray).size:Nat):Int)≤B:=Int.le_trans h0 h1
theorem kB.DA{B:Int}{x:Px}(h:kB B x):∀k∈x.kids,kB B k:=by cases h;assumption
theorem kB.leaf{B:Int}{k o t n f:Int}{q:Int}(h0:0≤q)(h1:q≤B):kB B (.mk k o t n f ⟨#[]⟩ [] q):=.mk h0 h1 (fun x hx=>by cases hx) (zO h0 h1)
def wJ(c:PC)(B:Int):Prop:=0≤B∧∀t∈c.l,(0≤t.pos∧t.pos≤B)∧(t.text.size:Int)≤B
def Sz(c:PC)(B:Int)(g:PS→Px×PS):Prop:=∀s,(g s).1.size+3*s.next≤1+3*(g s).2.next∧kB B (g s).1
section
variable {c:PC} {B:Int} (hB:wJ c B)
include hB
theorem DP(i:Nat):0≤(c.tok i).pos∧(c.tok i).pos≤B:=by
 unfold PC.tok
 cases h:c.l[i]? with
 | none=>exact⟨Int.le_refl 0,hB.1⟩
 | some t=>exact (hB.2 t (List.mem_of_getElem? h)).1
theorem jF(s:PS):0≤(c.now s).pos∧(c.now s).pos≤B:=by
 unfold PC.now
 split
 ·exact⟨Int.le_refl 0,hB.1⟩
 ·exact DP hB _
theorem CV(s:PS):((c.now s).text.size:Int)≤B:=by
 unfold PC.now
 split
 ·exact hB.1
 ·unfold PC.tok
  cases h:c.l[s.next]? with
  | none=>exact hB.1
  | some t=>exact (hB.2 t (List.mem_of_getElem? h)).2
theorem oE(s:PS):((c.name s).1.size:Int)≤B:=by
 unfold PC.name
 split
 ·exact CV hB s
 ·exact hB.1
theorem kC:kB B gO:=.leaf (Int.le_refl 0) hB.1
theorem nU(w:ByteArray)(s:PS):0≤(c.take w s).1∧(c.take w s).1≤B:=by
 unfold PC.take
 split
 ·exact jF hB s
 ·exact⟨Int.le_refl 0,hB.1⟩
theorem uc(s:PS):(c.literal s).1.1.size=1∧kB B (c.literal s).1.1:=by
 unfold PC.literal
 have hn:=jF hB s
 have one:∀(a b:Int),(tS a b (c.now s).pos).size=1∧kB B (tS a b (c.now s).pos):=fun a b=>⟨rfl,.leaf hn.1 hn.2⟩
 split
 ·exact one _ _
 ·split
  ·exact one _ _
  ·split
   ·exact one _ _
   ·exact⟨rfl,kC hB⟩
end
theorem qZ(a b:Px):Px.eh [a,b]=a.size+b.size:=by rw[Px.eh,Px.eh,Px.eh];omega
section
variable {c:PC} {B:Int} (hB:wJ c B) {nx:Lv} (hx:Sz c B nx.ex) (hu:Sz c B nx.un)
include hB hx
theorem AE:∀(n:Nat) (f:Bool) (s:PS),Px.eh (c.dK nx n f s).1+3*s.next≤n+3*(c.dK nx n f s).2.next∧∀k∈(c.dK nx n f s).1,kB B k
 | 0,f,s=>by rw[PC.dK];exact⟨by show (0:Int)+3*(s.next:Int)≤((0:Nat):Int)+3*(s.next:Int);omega,fun k hk=>by cases hk⟩
 | n+1,f,s=>by
   have _:=hB
   rw[PC.dK]
   have h1:s.next≤(if f then s else (c.take (⟨#[44]⟩:ByteArray) s).2).next:=by
    split
    ·exact Nat.le_refl _
    ·exact (Up.take _).1
   obtain⟨h2,h3⟩:=hx (if f then s else (c.take (⟨#[44]⟩:ByteArray) s).2)
   obtain⟨h4,h5⟩:=AE n false (nx.ex (if f then s else (c.take (⟨#[44]⟩:ByteArray) s).2)).2
   refine⟨?_,fun k hk=>?_⟩
   ·show Px.eh ((nx.ex _).1::_)+_≤_
    rw[Px.eh]
    show _≤_+3*(((c.dK nx n false (nx.ex (if f then s else (c.take (⟨#[44]⟩:ByteArray) s).2)).2).2.next:Nat):Int)
    omega
   ·rcases List.mem_cons.1 hk with rfl | hk
    ·exact h3
    ·exact h5 k hk
theorem AF{d kind oper dU pos:Int}{many:Nat}{s:PS}(hm:many≤3)(h0:0≤pos)(h1:pos≤B):(c.call nx d kind oper dU pos many s).1.size+3*s.next≤1+3*(c.call nx d kind oper dU pos many s).2.next∧kB B (c.call nx d kind oper dU pos many s).1:=by
 unfold PC.call
 split
 ·rw[fE];exact⟨Int.le_refl _,kC hB⟩
 ·have h2:(c.c8 d s).inc.next=s.next+1:=by rw[gJ,fE]
  have h3:=(Up.take (c:=c) (s:=(c.c8 d s).inc) (⟨#[40]⟩:ByteArray)).1
  obtain⟨h4,h5⟩:=AE hB hx many true (c.take (⟨#[40]⟩:ByteArray) (c.c8 d s).inc).2
  have h6:=(Up.take (c:=c) (s:=(c.dK nx many true (c.take (⟨#[40]⟩:ByteArray) (c.c8 d s).inc).2).2) (⟨#[41]⟩:ByteArray)).1
  refine⟨?_,.mk h0 h1 h5 (zO h0 h1)⟩
  show Px.size (.mk kind oper dU 0 0 ⟨#[]⟩ _ pos)+_≤1+3*((c.take (⟨#[41]⟩:ByteArray) (c.dK nx many true (c.take (⟨#[40]⟩:ByteArray) (c.c8 d s).inc).2).2).2.next:Int)
  rw[Px.size]
  omega
theorem DQ(d:Int):Sz c B (c.rest nx d):=fun s=>by
 unfold PC.rest
 have hn:=jF hB s
 split
 ·split
  ·rw[jU,gJ];exact⟨by show (1:Int)+_≤_;omega,kC hB⟩
  ·exact⟨by show (1:Int)+3*(s.next:Int)≤1+3*((s.next+1+1:Nat):Int);omega,.leaf hn.1 hn.2⟩
 ·split
  ·split
   ·rw[fE];exact⟨Int.le_refl _,kC hB⟩
   ·have h2:(c.c8 d s).inc.next=s.next+1:=by rw[gJ,fE]
    obtain⟨h3,h4⟩:=hx (c.c8 d s).inc
    have h5:=(Up.take (c:=c) (s:=(nx.ex (c.c8 d s).inc).2) (⟨#[41]⟩:ByteArray)).1
    exact⟨by show (nx.ex (c.c8 d s).inc).1.size+_≤1+3*((c.take (⟨#[41]⟩:ByteArray) (nx.ex (c.c8 d s).inc).2).2.next:Int);omega,h4⟩
  ·rw[jU];exact⟨Int.le_refl _,kC hB⟩
theorem Fi(d:Int):Sz c B (c.one nx d):=fun s=>by
 unfold PC.one
 have hn:=jF hB s
 split
 ·obtain⟨h1,h2⟩:=uc hB s
  have h3:=(Up.literal (c:=c) (s:=s)).1
  exact⟨by show (c.literal s).1.1.size+_≤1+3*((c.literal s).2.next:Int);rw[h1];omega,h2⟩
 ·split
  ·exact⟨by show (1:Int)+3*(s.next:Int)≤1+3*((s.next+1:Nat):Int);omega,.mk hn.1 hn.2 (fun x hx=>by cases hx) (CV hB s)⟩
  ·split
   ·exact⟨by show (1:Int)+3*(s.next:Int)≤1+3*((s.next+1:Nat):Int);omega,.leaf hn.1 hn.2⟩
   ·split
    ·exact AF hB hx (by split<;>decide) hn.1 hn.2
    ·split
     ·exact AF hB hx (by decide) hn.1 hn.2
     ·exact DQ hB hx d s
include hu
theorem ud(d:Int):Sz c B (c.unary nx d):=fun s=>by
 unfold PC.unary
 have hn:=jF hB (c.c8 d s)
 split
 ·exact Fi hB hx d s
 ·split
  ·rw[fE];exact⟨Int.le_refl _,kC hB⟩
  ·have h2:(c.c8 d s).inc.next=s.next+1:=by rw[gJ,fE]
   obtain⟨h3,h4⟩:=hu (c.c8 d s).inc
   refine⟨?_,.mk hn.1 hn.2 (fun k hk=>?_) (zO hn.1 hn.2)⟩
   ·show Px.size (.mk 5 _ 0 0 0 ⟨#[]⟩ [(nx.un (c.c8 d s).inc).1] _)+_≤1+3*((nx.un (c.c8 d s).inc).2.next:Int)
    rw[Px.size,Px.eh,Px.eh];omega
   ·rw[List.mem_singleton] at hk;subst hk;exact h4
end
theorem yl{c:PC}{B:Int}(hB:wJ c B){ws:List ByteArray}{o:Int}{sub:PS→Px×PS}(h:Sz c B sub):∀(m:Nat) (n:Px) (s:PS) (s0:Int),n.size+s0≤1+3*s.next→kB B n→(c.fq ws o sub m n s).1.size+s0≤1+3*(c.fq ws o sub m n s).2.next∧kB B (c.fq ws o sub m n s).1
 | 0,n,s,s0,hn,hp=>⟨hn,hp⟩
 | m+1,n,s,s0,hn,hp=>by
   rw[PC.fq]
   split
   ·exact⟨hn,hp⟩
   ·have hq:=jF hB s
    obtain⟨h1,h2⟩:=h s.inc
    rw[gJ] at h1
    refine yl hB h m _ _ s0 ?_ (.mk hq.1 hq.2 (fun k hk=>?_) (zO hq.1 hq.2))
    ·rw[wB,Px.size,qZ];omega
    ·rcases List.mem_cons.1 hk with rfl | hk
     ·exact hp
     ·rw[List.mem_singleton] at hk;subst hk;exact h2
theorem sb{c:PC}{B:Int}(hB:wJ c B){ws:List ByteArray}{o:Int}{sub:PS→Px×PS}(h:Sz c B sub):Sz c B (c.loop ws o sub):=fun s=>yl hB h _ _ _ _ (h s).1 (h s).2
section
variable {c:PC} {B:Int} (hB:wJ c B) {nx:Lv} (hx:Sz c B nx.ex) (hu:Sz c B nx.un) (hm:ee c nx.ex) (hmu:ee c nx.un) (d:Int)
include hB hx hu
theorem zP:Sz c B (c.product nx d):=sb hB (ud hB hx hu d)
theorem CW:Sz c B (c.sum nx d):=sb hB (zP hB hx hu d)
theorem zQ:Sz c B (c.compare nx d):=fun s=>by
 unfold PC.compare
 obtain⟨h1,h2⟩:=CW hB hx hu d s
 have hq:=jF hB (c.sum nx d s).2
 show (if c.any lU (c.sum nx d s).2<0 then c.sum nx d s else _).1.size+_≤1+3*((if c.any lU (c.sum nx d s).2<0 then c.sum nx d s else _:Px×PS).2.next:Int)∧kB B (if c.any lU (c.sum nx d s).2<0 then c.sum nx d s else _:Px×PS).1
 split
 ·exact⟨h1,h2⟩
 ·obtain⟨h3,h4⟩:=CW hB hx hu d (c.sum nx d s).2.inc
  rw[gJ] at h3
  refine⟨?_,.mk hq.1 hq.2 (fun k hk=>?_) (zO hq.1 hq.2)⟩
  ·show Px.size (wB _ _ _ _)+_≤1+3*((c.sum nx d (c.sum nx d s).2.inc).2.next:Int)
   rw[wB,Px.size,qZ];omega
  ·rcases List.mem_cons.1 hk with rfl | hk
   ·exact h2
   ·rw[List.mem_singleton] at hk;subst hk;exact h4
theorem Fj:Sz c B (c.and nx d):=sb hB (zQ hB hx hu d)
theorem Gp:Sz c B (c.or nx d):=sb hB (Fj hB hx hu d)
include hm hmu
theorem AG:Sz c B (c.expr nx d):=fun s=>by
 unfold PC.expr
 obtain⟨h1,h2⟩:=Gp hB hx hu d s
 have hup:=(Up.or hm hmu d s).1
 show (if c.eu _ (c.or nx d s).2 then _ else c.or nx d s:Px×PS).1.size+_≤1+3*((if c.eu _ (c.or nx d s).2 then _ else c.or nx d s:Px×PS).2.next:Int)∧kB B (if c.eu _ (c.or nx d s).2 then _ else c.or nx d s:Px×PS).1
 split
 ·show (if (c.c8 d (c.or nx d s).2).over then _ else _:Px×PS).1.size+_≤1+3*((if (c.c8 d (c.or nx d s).2).over then _ else _:Px×PS).2.next:Int)∧kB B (if (c.c8 d (c.or nx d s).2).over then _ else _:Px×PS).1
  have hq:=jF hB (c.c8 d (c.or nx d s).2)
  split
  ·rw[fE];exact⟨by show (1:Int)+_≤_;omega,kC hB⟩
  ·have h3:(c.c8 d (c.or nx d s).2).inc.next=(c.or nx d s).2.next+1:=by rw[gJ,fE]
   obtain⟨h4,h5⟩:=hx (c.c8 d (c.or nx d s).2).inc
   have h6:=(Up.take (c:=c) (s:=(nx.ex (c.c8 d (c.or nx d s).2).inc).2) (⟨#[58]⟩:ByteArray)).1
   obtain⟨h7,h8⟩:=hx (c.take (⟨#[58]⟩:ByteArray) (nx.ex (c.c8 d (c.or nx d s).2).inc).2).2
   refine⟨?_,.mk hq.1 hq.2 (fun k hk=>?_) (zO hq.1 hq.2)⟩
   ·show Px.size (.mk 7 0 0 0 0 ⟨#[]⟩ [(c.or nx d s).1,(nx.ex (c.c8 d (c.or nx d s).2).inc).1,(nx.ex (c.take (⟨#[58]⟩:ByteArray) (nx.ex (c.c8 d (c.or nx d s).2).inc).2).2).1] _)+_≤1+3*((nx.ex (c.take (⟨#[58]⟩:ByteArray) (nx.ex (c.c8 d (c.or nx d s).2).inc).2).2).2.next:Int)
    rw[Px.size,Px.eh,qZ];omega
   ·rcases List.mem_cons.1 hk with rfl | hk
    ·exact h2
    ·rcases List.mem_cons.1 hk with rfl | hk
     ·exact h5
     ·rw[List.mem_singleton] at hk;subst hk;exact h8
 ·exact⟨h1,h2⟩
end
theorem ue{c:PC}{B:Int}(hB:wJ c B):∀(k:Nat) (d:Int),Sz c B (c.lvl k d).ex∧Sz c B (c.lvl k d).un
 | 0,d=>by
   have hz:Sz c B (fun s=>(gO,s)):=fun s=>⟨Int.le_refl _,kC hB⟩
   exact⟨AG hB hz hz (fun s=>.refl) (fun s=>.refl) d,ud hB hz hz d⟩
 | k+1,d=>⟨AG hB (ue hB k (d+1)).1 (ue hB k (d+1)).2 (Up.lvl k (d+1)).1 (Up.lvl k (d+1)).2 d,ud hB (ue hB k (d+1)).1 (ue hB k (d+1)).2 d⟩
theorem Fk{c:PC}{B:Int}(hB:wJ c B):Sz c B c.eX:=(ue hB 24 0).1
theorem ym{s:ByteArray}:∀(n:Nat) (f:Int),0≤f→f≤s.size→∀t∈(jL s n f).1,(0≤t.pos∧t.pos≤s.size)∧(t.text.size:Int)≤s.size
 | 0,f,h0,h1,t,ht=>by rw[jL] at ht;cases ht
 | n+1,f,h0,h1,t,ht=>by
   rw[jL] at ht
   split at ht
   ·cases ht
   ·rename_i u hu
    obtain⟨g1,g2,_⟩:=mo h0 h1 hu
    have hp:(0≤u.pos∧u.pos≤s.size)∧(u.text.size:Int)≤s.size:=⟨⟨by omega,by omega⟩,by omega⟩
    split at ht
    ·rw[List.mem_singleton] at ht;subst ht;exact hp
    ·rcases List.mem_cons.1 ht with rfl | ht
     ·exact hp
     ·exact ym n _ (by omega) g1 t ht
theorem yn(t:ByteArray):wJ (dB t) t.size:=by
 refine⟨by omega,fun u hu=>?_⟩
 unfold dB at hu
 split at hu
 ·cases hu
 ·exact ym _ 0 (Int.le_refl 0) (by omega) u hu
theorem yo(t:ByteArray):(dB t).l.length≤4097:=by
 unfold dB
 split
 ·decide
 ·have:=qY t ((t.size:Int)-0+1).toNat 0
  show (lT t 0).1.length≤4097
  unfold lT
  omega
end Go.Lx
namespace Go.Lx
open Go.Vc
def uV(B M:Int)(x:Px):Prop:=x.size≤M∧kB B x
def jw.In(B M:Int)(d:jw):Prop:=((0≤d.pos∧d.pos≤B)∧(d.name.size:Int)≤B)∧uV B M d.side∧uV B M d.qty∧uV B M d.price∧uV B M d.value
def eE.In(B M:Int)(r:eE):Prop:=(0≤r.pos∧r.pos≤B)∧uV B M r.when∧r.dos.length≤8∧∀d∈r.dos,d.In B M
def dF.In(B M:Int)(x:dF):Prop:=((0≤x.pos∧x.pos≤B)∧(x.name.size:Int)≤B)∧x.rules.length≤12∧∀r∈x.rules,r.In B M
def fp.In(B M:Int)(r:fp):Prop:=((0≤r.pos∧r.pos≤B)∧(r.name.size:Int)≤B)∧uV B M r.init
def dp.In(B:Int)(r:dp):Prop:=(0≤r.pos∧r.pos≤B)∧(r.name.size:Int)≤B
structure fT.In (B M:Int) (s:fT):Prop where
 rl:s.regs.length≤12
 rr:∀x∈s.regs,x.In B M
 sl:s.slots.length≤4
 ss:∀x∈s.slots,x.In B
 tl:s.states.length≤12
 tt:∀x∈s.states,x.In B M
 nn:(s.name.size:Int)≤B
section
variable {c:PC} {B M:Int} (hB:wJ c B) (hM:2+3*(c.l.length:Int)≤M)
include hB hM
theorem mb:uV B M gO:=⟨by show (1:Int)≤M;omega,kC hB⟩
theorem nW{s:PS}(hs:s.next≤c.l.length):uV B M (c.eX s).1∧(c.eX s).2.next≤c.l.length:=by
 obtain⟨h1,h2⟩:=Fk hB s
 have h3:=(Up.eX (c:=c) s).2 hs
 exact⟨⟨by omega,h2⟩,h3⟩
theorem DR{nm:ByteArray}{t pos pos2:Int}{minus:Bool}{n:Px}(h0:(0≤pos∧pos≤B)∧(nm.size:Int)≤B)(h2:0≤pos2∧pos2≤B)(hn:n.size=1∧kB B n)(s:PS):(c.pD nm t pos pos2 minus n s).1.In B M:=by
 have _:=hB
 unfold PC.pD fp.In
 refine⟨h0, ?_⟩
 show uV B M (if minus then _ else n)
 split
 ·refine⟨?_,.mk h2.1 h2.2 (fun k hk=>?_) (zO h2.1 h2.2)⟩
  ·rw[Px.size,Px.eh,Px.eh,hn.1];omega
  ·rw[List.mem_singleton] at hk;subst hk;exact hn.2
 ·exact⟨by rw[hn.1];omega,hn.2⟩
theorem DS{nm:ByteArray}{t pos pos2:Int}{minus:Bool}(h0:(0≤pos∧pos≤B)∧(nm.size:Int)≤B)(h2:0≤pos2∧pos2≤B)(s:PS):(c.lV nm t pos pos2 minus s).1.In B M:=by
 unfold PC.lV
 split
 ·exact⟨h0,mb hB hM⟩
 ·exact DR hB hM h0 h2 (uc hB s) _
theorem DT{nm:ByteArray}{pos:Int}(h0:(0≤pos∧pos≤B)∧(nm.size:Int)≤B)(s:PS):(c.oN nm pos s).1.In B M:=by
 unfold PC.oN
 split
 ·exact⟨h0,mb hB hM⟩
 ·unfold PC.pE;exact DS hB hM h0 (jF hB _) _
theorem Fl(s:PS):(c.kM s).1.In B M:=by unfold PC.kM;exact DT hB hM ⟨nU hB _ s,oE hB _⟩ _
theorem BM(s:PS):((c.je s).1.size:Int)≤B:=by
 have _:=hM
 unfold PC.je
 split
 ·exact oE hB _
 ·exact hB.1
theorem AH{x y z:Px}{pos o:Int}(h0:0≤pos∧pos≤B)(hx:uV B M x)(hy:uV B M y)(hz:uV B M z)(s:PS):(c.nN x y pos z o s).1.In B M:=⟨⟨h0,BM hB hM _⟩,hx,hy,hz,mb hB hM⟩
theorem DU{x y z:Px}{pos:Int}(h0:0≤pos∧pos≤B)(hx:uV B M x)(hy:uV B M y)(hz:uV B M z)(s:PS):(c.pF x y pos z s).1.In B M:=by
 unfold PC.pF
 split
 ·exact⟨⟨h0,hB.1⟩,hx,hy,hz,mb hB hM⟩
 ·exact AH hB hM h0 hx hy hz _
theorem DV{x y:Px}{pos:Int}(h0:0≤pos∧pos≤B)(hx:uV B M x)(hy:uV B M y){s:PS}(hs:s.next≤c.l.length):(c.oO x y pos s).1.In B M:=by
 unfold PC.oO
 split
 ·exact⟨⟨h0,hB.1⟩,hx,hy,mb hB hM,mb hB hM⟩
 ·rename_i h2
  split
  ·exact DU hB hM h0 hx hy (nW hB hM ((Up.inc (dD (Int.not_lt.1 h2)).1).2 hs)).1 _
  ·exact AH hB hM h0 hx hy (mb hB hM) _
theorem BN{s:PS}(hs:s.next≤c.l.length):(c.kX s).1.In B M:=by
 unfold PC.kX PC.uU
 obtain⟨h1,h2⟩:=nW hB hM ((Up.take (c:=c) (s:=s) (⟨#[115,117,98,109,105,116]⟩:ByteArray)).2 hs)
 obtain⟨h3,h4⟩:=nW hB hM ((Up.take (c:=c) (s:=(c.eX (c.take (⟨#[115,117,98,109,105,116]⟩:ByteArray) s).2).2) (⟨#[111,102]⟩:ByteArray)).2 h2)
 exact DV hB hM (nU hB _ s) h1 h3 h4
theorem CX{k:Int}{nm:ByteArray}{pos:Int}(h0:(0≤pos∧pos≤B)∧(nm.size:Int)≤B){s:PS}(hs:s.next≤c.l.length):(c.wC k nm pos s).1.In B M:=by
 unfold PC.wC
 have hz:=mb hB hM
 split
 ·unfold PC.CO
  obtain⟨h1,h2⟩:=nW hB hM ((Up.take (c:=c) (s:=s) (⟨#[116,111]⟩:ByteArray)).2 hs)
  exact⟨h0,hz,h1,(nW hB hM ((Up.take (c:=c) (s:=(c.eX (c.take (⟨#[116,111]⟩:ByteArray) s).2).2) (⟨#[97,116]⟩:ByteArray)).2 h2)).1,hz⟩
 ·split
  ·unfold PC.FM
   exact⟨h0,hz,hz,hz,(nW hB hM ((Up.take (c:=c) (s:=s) (⟨#[61]⟩:ByteArray)).2 hs)).1⟩
  ·exact⟨h0,hz,hz,hz,hz⟩
theorem Gq{s:PS}(hs:s.next≤c.l.length):(c.do s).1.In B M:=by
 unfold PC.do
 have hz:=mb hB hM
 split
 ·exact⟨⟨⟨Int.le_refl 0,hB.1⟩,hB.1⟩,hz,hz,hz,hz⟩
 ·rename_i h2
  have hi:=(Up.inc (dD (Int.not_lt.1 h2)).1:Up c s s.inc).2 hs
  split
  ·exact BN hB hM hs
  ·split
   ·exact CX hB hM (nm:=⟨#[]⟩) ⟨jF hB s,hB.1⟩ hi
   ·exact CX hB hM ⟨jF hB s,oE hB _⟩ (Up.name.2 hi)
theorem AJ:∀(m:Nat) (l:List jw) (s:PS),s.next≤c.l.length→(∀d∈l,d.In B M)→(∀d∈(c.ia m l s).1,d.In B M)∧(c.ia m l s).1.length≤l.length+m
 | 0,l,s,hs,hl=>⟨hl,Nat.le_refl _⟩
 | m+1,l,s,hs,hl=>by
   rw[PC.ia]
   have hd:=Gq hB hM hs
   have hl2:∀d∈l++[(c.do s).1],d.In B M:=fun d hm=>by
    rcases List.mem_append.1 hm with hm | hm
    ·exact hl d hm
    ·rw[List.mem_singleton] at hm;subst hm;exact hd
   have hn:=(Up.do s).2 hs
   have he:(l++[(c.do s).1]).length=l.length+1:=by rw[List.length_append];rfl
   split
   ·rename_i h1
    have hlt:=eM h1
    split
    ·exact⟨hl2,by show (l++[(c.do s).1]).length≤_;omega⟩
    ·obtain⟨g1,g2⟩:=AJ m (l++[(c.do s).1]) (c.many (l.length+1) 8 (c.do s).2).inc (by rw[gJ,mr];exact hlt) hl2
     exact⟨g1,by omega⟩
   ·exact⟨hl2,by show (l++[(c.do s).1]).length≤_;omega⟩
theorem DW{s:PS}(hs:s.next≤c.l.length):(c.ib s).1.In B M:=by
 unfold PC.ib PC.mq
 obtain⟨h1,h2⟩:=nW hB hM ((Up.take (c:=c) (s:=s) (⟨#[119,104,101,110]⟩:ByteArray)).2 hs)
 obtain⟨h3,h4⟩:=AJ hB hM 8 [] (c.take (⟨#[100,111]⟩:ByteArray) (c.eX (c.take (⟨#[119,104,101,110]⟩:ByteArray) s).2).2).2 ((Up.take (c:=c) (s:=(c.eX (c.take (⟨#[119,104,101,110]⟩:ByteArray) s).2).2) (⟨#[100,111]⟩:ByteArray)).2 h2) (fun d hd=>by cases hd)
 exact⟨nU hB _ s,h1,by simpa using h4,h3⟩
omit hB hM in
theorem nX{α:Type}{w:ByteArray}{most:Nat}{one:PS→α×PS}{Q:α→Prop}(hm:ee c one)(h1:∀s:PS,s.next≤c.l.length→Q (one s).1):∀(m:Nat) (l:List α) (s:PS),s.next≤c.l.length→(∀x∈l,Q x)→(∀x∈(c.fi w most one m l s).1,Q x)∧(c.fi w most one m l s).1.length≤l.length+m
 | 0,l,s,hs,hl=>⟨hl,Nat.le_refl _⟩
 | m+1,l,s,hs,hl=>by
   rw[PC.fi]
   split
   ·split
    ·exact⟨hl,Nat.le_add_right _ _⟩
    ·have hn:(c.many l.length most s).next≤c.l.length:=by rw[mr];exact hs
     obtain⟨g1,g2⟩:=nX hm h1 m (l++[(one (c.many l.length most s)).1]) (one (c.many l.length most s)).2 ((hm _).2 hn) fun x hx=>by
      rcases List.mem_append.1 hx with hx | hx
      ·exact hl x hx
      ·rw[List.mem_singleton] at hx;subst hx;exact h1 _ hn
     rw[List.length_append,List.length_singleton] at g2
     exact⟨g1,by omega⟩
   ·exact⟨hl,Nat.le_add_right _ _⟩
theorem CY{s:PS}(hs:s.next≤c.l.length):(c.state s).1.In B M:=by
 unfold PC.state PC.lW
 have h1:=(Up.take (c:=c) (s:=s) (⟨#[115,116,97,116,101]⟩:ByteArray)).2 hs
 have h2:=(Up.name (c:=c) (s:=(c.take (⟨#[115,116,97,116,101]⟩:ByteArray) s).2)).2 h1
 have h3:=(Up.take (c:=c) (s:=(c.name (c.take (⟨#[115,116,97,116,101]⟩:ByteArray) s).2).2) (⟨#[123]⟩:ByteArray)).2 h2
 obtain⟨h4,h5⟩:=nX (w:=(⟨#[119,104,101,110]⟩:ByteArray)) (most:=12) (Q:=eE.In B M) Up.ib (fun s hs=>DW hB hM hs) 12 [] _ h3 (fun x hx=>by cases hx)
 exact⟨⟨nU hB _ s,oE hB _⟩,h5,h4⟩
theorem DX(s:PS):(c.slot s).1.In B:=by
 have _:=hM
 exact⟨nU hB _ s,oE hB _⟩
theorem CZ{s:PS}(hs:s.next≤c.l.length):(c.whole s).1.In B M:=by
 unfold PC.whole PC.zA PC.zz PC.zy PC.zx
 have h1:=(Up.take (c:=c) (s:=s) (⟨#[115,116,114,97,116,101,103,121]⟩:ByteArray)).2 hs
 have h2:=(Up.name (c:=c) (s:=(c.take (⟨#[115,116,114,97,116,101,103,121]⟩:ByteArray) s).2)).2 h1
 have h3:=(Up.take (c:=c) (s:=(c.name (c.take (⟨#[115,116,114,97,116,101,103,121]⟩:ByteArray) s).2).2) (⟨#[123]⟩:ByteArray)).2 h2
 obtain⟨h4,h5⟩:=nX (w:=(⟨#[114,101,103]⟩:ByteArray)) (most:=12) (Q:=fp.In B M) Up.kM (fun s hs=>Fl hB hM s) 12 [] _ h3 (fun x hx=>by cases hx)
 have h6:=(Up.list (w:=(⟨#[114,101,103]⟩:ByteArray)) (most:=12) Up.kM (c.take (⟨#[123]⟩:ByteArray) (c.name (c.take (⟨#[115,116,114,97,116,101,103,121]⟩:ByteArray) s).2).2).2).2 h3
 obtain⟨h7,h8⟩:=nX (w:=(⟨#[115,108,111,116]⟩:ByteArray)) (most:=4) (Q:=dp.In B) Up.slot (fun s hs=>DX hB hM s) 4 [] _ h6 (fun x hx=>by cases hx)
 have h9:=(Up.list (w:=(⟨#[115,108,111,116]⟩:ByteArray)) (most:=4) Up.slot (c.list (⟨#[114,101,103]⟩:ByteArray) 12 c.kM (c.take (⟨#[123]⟩:ByteArray) (c.name (c.take (⟨#[115,116,114,97,116,101,103,121]⟩:ByteArray) s).2).2).2).2).2 h6
 obtain⟨h10,h11⟩:=nX (w:=(⟨#[115,116,97,116,101]⟩:ByteArray)) (most:=12) (Q:=dF.In B M) Up.state (fun s hs=>CY hB hM hs) 12 [] _ h9 (fun x hx=>by cases hx)
 exact⟨h5,h4,h8,h7,h11,h10,oE hB _⟩
end
theorem vB(t:ByteArray):(dW t).1.In t.size 20000:=by
 unfold dW
 show (if ((dB t).whole (eY t)).2.over then _ else _:fT×PF).1.In t.size 20000
 split
 ·exact⟨Nat.zero_le _,fun x hx=>(by cases hx),Nat.zero_le _,fun x hx=>(by cases hx),Nat.zero_le _,fun x hx=>(by cases hx),Int.natCast_nonneg _⟩
 ·exact CZ (yn t) (by have:=yo t;omega) (Nat.zero_le _)
theorem fT.In.thin{B:Int}{s:fT}(h:s.In B 20000):s.zJ:=by
 have h1:=h.rl
 have h2:=h.sl
 have h3:=h.tl
 refine⟨by omega,fun r hr=>?_,by omega,by omega,fun x hx=>?_⟩
 ·have:=(h.rr r hr).2.1;omega
 ·obtain⟨_,g1,g2⟩:=h.tt x hx
  refine⟨by omega,fun r hr=>?_⟩
  obtain⟨_,k1,k2,k3⟩:=g2 r hr
  refine⟨by have:=k1.1;omega,by omega,fun d hd=>?_⟩
  obtain⟨_,d1,d2,d3,d4⟩:=k3 d hd
  intro y hy
  simp only[jw.E5,List.mem_cons,List.not_mem_nil,or_false] at hy
  rcases hy with rfl | rfl | rfl | rfl
  ·have:=d1.1;omega
  ·have:=d2.1;omega
  ·have:=d3.1;omega
  ·have:=d4.1;omega
section
variable {B M:Int} {s:fT}
variable (h0:0≤B)
include h0
end
end Go.Lx
namespace Go.Lx
open Go.Vc
theorem kB.short{B:Int}(hB:B≤140737488351232):∀x:Px,kB B x→x.size≤1048576→x.iH:=by
 refine Px.ind fun x ih h hs=>?_
 have hn:=h.nm
 have hsz:x.size=1+Px.eh x.kids:=Px.size_eq x
 have hk:∀l:List Px,(l.length:Int)≤Px.eh l∧∀k∈l,k.size≤Px.eh l:=by
  intro l
  induction l with
  | nil=>exact⟨Int.le_refl _,fun k hk=>by cases hk⟩
  | cons y r ih2 =>
    have hp:=Px.size_pos y
    rw[Px.eh,List.length_cons]
    refine⟨by have:=ih2.1;omega,fun k hk=>?_⟩
    rcases List.mem_cons.1 hk with rfl | hk
    ·have:=ih2.1;omega
    ·have:=ih2.2 k hk;omega
 have hl:=(hk x.kids).1
 refine .mk (by omega) (by omega) fun k hm=>ih k hm (h.DA k hm) ?_
 have:=(hk x.kids).2 k hm
 omega
theorem uV.short{B M:Int}(hB:B≤140737488351232)(hM:M≤1048576){x:Px}(h:uV B M x):x.iH:=h.2.short hB x (Int.le_trans h.1 hM)
theorem fT.In.short{B M:Int}{s:fT}(hB:B≤140737488351232)(hM:M≤1048576)(h:s.In B M):s.dj:=by
 have h1:=h.rl
 have h2:=h.sl
 have h3:=h.tl
 have h4:=h.nn
 refine⟨by omega,by omega,fun r hr=>?_,by omega,fun r hr=>?_,by omega,fun x hx=>?_⟩
 ·obtain⟨⟨_,g1⟩,g2⟩:=h.rr r hr
  exact⟨by omega,g2.short hB hM⟩
 ·have:=(h.ss r hr).2
  show r.name.size≤_
  omega
 ·obtain⟨⟨_,g1⟩,g2,g3⟩:=h.tt x hx
  refine⟨by omega,by omega,fun r hr=>?_⟩
  obtain⟨_,k1,k2,k3⟩:=g3 r hr
  refine⟨k1.short hB hM,by omega,fun d hd=>?_⟩
  obtain⟨⟨_,d0⟩,d1,d2,d3,d4⟩:=k3 d hd
  refine⟨by omega,fun y hy=>?_⟩
  simp only[jw.E5,List.mem_cons,List.not_mem_nil,or_false] at hy
  rcases hy with rfl | rfl | rfl | rfl
  ·exact d1.short hB hM
  ·exact d2.short hB hM
  ·exact d3.short hB hM
  ·exact d4.short hB hM
theorem mw{α:Type}{f:α→Int}{M:Int}:∀{l:List α},(∀x∈l,f x≤M)→eP f l≤M*l.length
 | [],_=>by rw[eP];simp
 | x::r,h=>by
   have h1:=mw fun y hy=>h y (List.Mem.tail _ hy)
   have h2:=h x (.head _)
   rw[eP,List.length_cons,Int.natCast_add,Int.mul_add]
   omega
theorem qq{n m:Nat}{M:Int}(h:n≤m)(h0:0≤M):M*(n:Int)≤M*(m:Int):=Int.mul_le_mul_of_nonneg_left (by omega) h0
theorem fT.In.dI{B:Int}{s:fT}(h:s.In B 20000):s.dI≤100000000:=by
 have h1:=qq (M:=20001) h.rl (by decide)
 have h2:=h.sl
 have h3:=qq (M:=7920181) h.tl (by decide)
 have g1:eP fp.dI s.regs≤20001*s.regs.length:=mw fun r hr=>by
  have:=(h.rr r hr).2.1
  show 1+r.init.size≤_
  omega
 have g3:eP dF.dI s.states≤7920181*s.states.length:=mw fun x hx=>by
  obtain⟨_,g2,g3⟩:=h.tt x hx
  have k:=qq (M:=660015) g2 (by decide)
  have:eP eE.dI x.rules≤660015*x.rules.length:=mw fun r hr=>by
   obtain⟨_,k1,k2,k3⟩:=g3 r hr
   have j:=qq (M:=80001) k2 (by decide)
   have:eP jw.dI r.dos≤80001*r.dos.length:=mw fun d hd=>by
    obtain⟨_,d1,d2,d3,d4⟩:=k3 d hd
    have e1:=d1.1
    have e2:=d2.1
    have e3:=d3.1
    have e4:=d4.1
    show 1+d.side.size+d.qty.size+d.price.size+d.value.size≤_
    omega
   have e1:=k1.1
   show 1+r.when.size+eP jw.dI r.dos≤_
   omega
  show 1+eP eE.dI x.rules≤_
  omega
 unfold fT.dI
 omega
theorem BO(t:ByteArray):uV t.size 20000 (lY t).1:=by
 unfold lY
 have hB:=yn t
 have hl:=yo t
 have hz:=mb hB (M:=20000) (by omega)
 show uV t.size 20000 (if ((dB t).end ((dB t).eX (eY t)).2).over then _ else _:Px×PF).1
 split
 ·exact hz
 ·exact (nW hB (by omega) (Nat.zero_le _)).1
theorem DY{t:ByteArray}(h:dj t):(lY t).1.iH:=(BO t).short (by unfold dj at h;omega) (by decide)
theorem wK{t:ByteArray}(h:dj t):(dW t).1.dj:=(vB t).short (by unfold dj at h;omega) (by decide)
def PC.fin(c:PC)(s:PS):Option PF:=if s.over then some s.f else if c.l.length≤s.next then some ⟨c.bad,c.pos,true⟩ else none
def PC.dP(c:PC)(f:PF)(s:PS):Prop:=c.fin s=some f∧(s.over=false→c.bad≠0)
section
variable {c:PC} {f:PF} {s:PS}
theorem PC.dP.now(h:c.dP f s):c.now s=kr 0:=by
 unfold PC.now
 refine if_pos ?_
 have h1:=h.1
 unfold PC.fin at h1
 by_cases ho:s.over=true
 ·simp[ho]
 ·rw[if_neg ho] at h1
  split at h1
  ·rename_i hl;simp[hl]
  ·cases h1
theorem PC.dP.da(h:c.dP f s)(e:Int):c.dP f (c.da e s):=by
 unfold PC.da
 split
 ·exact h
 ·rename_i ho
  have h1:=h.1;have h2:=h.2 (by simpa using ho)
  unfold PC.fin at h1
  rw[if_neg ho] at h1
  split at h1
  ·rename_i hl
   rw[if_pos hl]
   have ho2:PS.over ⟨s.next,⟨c.bad,c.pos,true⟩⟩=true:=by simpa[PS.over] using h2
   exact⟨by unfold PC.fin;rw[if_pos ho2];exact h1,fun h=>by rw[ho2] at h;cases h⟩
  ·cases h1
theorem PC.dP.eu(h:c.dP f s)(w:ByteArray):c.eu w s=false:=by
 unfold PC.eu;rw[h.now];simp[kr]
theorem PC.dP.kind(h:c.dP f s):(c.now s).kind=0:=by rw[h.now];rfl
theorem PC.dP.any(h:c.dP f s)(ws:List ByteArray):c.any ws s = -1:=by
 have:∀(ws:List ByteArray) (i:Int),c.jx s ws i = -1:=by
  intro ws
  induction ws with
  | nil=>intro i;rw[PC.jx]
  | cons w r ih=>intro i;rw[PC.jx,h.eu,if_neg (by simp),ih]
 exact this ws 0
theorem PC.dP.take(h:c.dP f s)(w:ByteArray):c.dP f (c.take w s).2:=by
 unfold PC.take;rw[h.eu];exact h.da _
theorem PC.dP.name(h:c.dP f s):c.dP f (c.name s).2:=by
 unfold PC.name;rw[h.kind,if_neg (by decide)];exact h.da _
theorem PC.dP.literal(h:c.dP f s):c.literal s=((gO,false),s):=by
 unfold PC.literal;rw[h.kind,if_neg (by decide),if_neg (by simp),if_neg (by simp)]
theorem PC.dP.end(h:c.dP f s):c.dP f (c.end s):=by
 unfold PC.end;split
 ·exact h
 ·split
  ·exact h.da _
  ·exact h
end
def Kp(c:PC)(f:PF){α:Type}(g:PS→α×PS):Prop:=∀s,c.dP f s→c.dP f (g s).2
section
variable {c:PC} {f:PF}
theorem Kp.rest(nx:Lv)(d:Int):Kp c f (c.rest nx d):=fun s h=>by
 unfold PC.rest;rw[h.eu,h.eu];exact h.da _
theorem Kp.one(nx:Lv)(d:Int):Kp c f (c.one nx d):=fun s h=>by
 unfold PC.one;rw[h.literal,h.kind,h.any,h.any,h.any,if_neg (by simp),if_neg (by decide),if_neg (by decide),if_neg (by decide),if_neg (by decide)];exact Kp.rest nx d s h
theorem Kp.unary(nx:Lv)(d:Int):Kp c f (c.unary nx d):=fun s h=>by
 unfold PC.unary;rw[h.any,if_pos (by decide)];exact Kp.one nx d s h
theorem Kp.fq{ws:List ByteArray}{o:Int}{sub:PS→Px×PS}:∀(m:Nat) (n:Px),Kp c f (c.fq ws o sub m n)
 | 0,n=>fun s h=>h
 | m+1,n=>fun s h=>by rw[PC.fq,h.any,if_pos (by decide)];exact h
theorem Kp.loop{ws:List ByteArray}{o:Int}{sub:PS→Px×PS}(hs:Kp c f sub):Kp c f (c.loop ws o sub):=fun s h=>Kp.fq _ _ _ (hs s h)
theorem Kp.product(nx:Lv)(d:Int):Kp c f (c.product nx d):=Kp.loop (Kp.unary nx d)
theorem Kp.sum(nx:Lv)(d:Int):Kp c f (c.sum nx d):=Kp.loop (Kp.product nx d)
theorem Kp.compare(nx:Lv)(d:Int):Kp c f (c.compare nx d):=fun s h=>by
 have h1:=Kp.sum nx d s h
 unfold PC.compare
 show c.dP f (if c.any lU (c.sum nx d s).2<0 then c.sum nx d s else _:Px×PS).2
 rw[h1.any,if_pos (by decide)];exact h1
theorem Kp.and(nx:Lv)(d:Int):Kp c f (c.and nx d):=Kp.loop (Kp.compare nx d)
theorem Kp.or(nx:Lv)(d:Int):Kp c f (c.or nx d):=Kp.loop (Kp.and nx d)
theorem Kp.expr(nx:Lv)(d:Int):Kp c f (c.expr nx d):=fun s h=>by
 have h1:=Kp.or nx d s h
 unfold PC.expr
 show c.dP f (if c.eu _ (c.or nx d s).2 then _ else c.or nx d s:Px×PS).2
 rw[h1.eu];exact h1
theorem Kp.lvl:∀(k:Nat) (d:Int),Kp c f (c.lvl k d).ex∧Kp c f (c.lvl k d).un
 | 0,d=>⟨Kp.expr _ d,Kp.unary _ d⟩
 | k+1,d=>⟨Kp.expr _ d,Kp.unary _ d⟩
theorem Kp.eX:Kp c f c.eX:=(Kp.lvl 24 0).1
theorem Kp.kids{nx:Lv}(hx:Kp c f nx.ex):∀(n:Nat) (b:Bool),Kp c f (c.dK nx n b)
 | 0,b=>fun s h=>h
 | n+1,b=>fun s h=>by
   rw[PC.dK]
   refine Kp.kids hx n false _ (hx _ ?_)
   split
   ·exact h
   ·exact h.take _
theorem Kp.pD(nm:ByteArray)(t p p2:Int)(m:Bool)(n:Px):Kp c f (c.pD nm t p p2 m n):=fun s h=>h.take _
theorem Kp.lV(nm:ByteArray)(t p p2:Int)(m:Bool):Kp c f (c.lV nm t p p2 m):=fun s h=>by
 unfold PC.lV;split
 ·exact h.da _
 ·refine Kp.pD _ _ _ _ _ _ _ ?_
  rw[h.literal,if_neg (by simp)];exact h.da _
theorem Kp.pE(nm:ByteArray)(t p:Int):Kp c f (c.pE nm t p):=fun s h=>by
 unfold PC.pE;rw[h.eu,if_neg (by simp)];exact Kp.lV _ _ _ _ _ _ h
theorem Kp.oN(nm:ByteArray)(p:Int):Kp c f (c.oN nm p):=fun s h=>by
 unfold PC.oN;rw[h.any,if_pos (by decide)];exact h.da _
theorem Kp.je:Kp c f c.je:=fun s h=>by
 unfold PC.je;rw[h.eu,if_neg (by simp)];exact h
theorem Kp.nN(x y:Px)(p:Int)(z:Px)(o:Int):Kp c f (c.nN x y p z o):=fun s h=>Kp.je s h
theorem Kp.pF(x y:Px)(p:Int)(z:Px):Kp c f (c.pF x y p z):=fun s h=>by
 unfold PC.pF;rw[h.any,if_pos (by decide)];exact h.da _
theorem Kp.oO(x y:Px)(p:Int):Kp c f (c.oO x y p):=fun s h=>by
 unfold PC.oO;rw[h.any,if_pos (by decide)];exact h.da _
theorem Kp.uU(x:Px)(p:Int):Kp c f (c.uU x p):=fun s h=>Kp.oO _ _ _ _ (Kp.eX _ (h.take _))
theorem Kp.CO(nm:ByteArray)(p:Int)(x:Px):Kp c f (c.CO nm p x):=fun s h=>Kp.eX _ (h.take _)
theorem Kp.FM(nm:ByteArray)(p:Int):Kp c f (c.FM nm p):=fun s h=>Kp.eX _ (h.take _)
theorem Kp.wC(k:Int)(nm:ByteArray)(p:Int):Kp c f (c.wC k nm p):=fun s h=>by
 unfold PC.wC;split
 ·exact Kp.CO _ _ _ _ (Kp.eX _ (h.take _))
 ·split
  ·exact Kp.FM _ _ _ h
  ·exact h
theorem Kp.do:Kp c f c.do:=fun s h=>by
 unfold PC.do;rw[h.any,if_pos (by decide)];exact h.da _
theorem Kp.ia:∀(m:Nat) (l:List jw),Kp c f (c.ia m l)
 | 0,l=>fun s h=>h
 | m+1,l=>fun s h=>by
   have h1:=Kp.do s h
   rw[PC.ia,h1.eu,if_neg (by simp)];exact h1
theorem Kp.mq(w:Px)(p:Int):Kp c f (c.mq w p):=fun s h=>(Kp.ia 8 [] s h).take _
theorem Kp.fi{α:Type}(w:ByteArray)(most:Nat)(one:PS→α×PS):∀(m:Nat) (l:List α),Kp c f (c.fi w most one m l)
 | 0,l=>fun s h=>by rw[PC.fi,h.eu];exact h
 | m+1,l=>fun s h=>by rw[PC.fi,h.eu];exact h
theorem Kp.list{α:Type}(w:ByteArray)(most:Nat)(one:PS→α×PS):Kp c f (c.list w most one):=Kp.fi w most one most []
theorem Kp.lW(nm:ByteArray)(p:Int):Kp c f (c.lW nm p):=fun s h=>(Kp.list _ _ _ s h).take _
end
end Go.Lx
namespace Go.Lx
open Go.Vc
def AK(s:ByteArray)(i:Int):TR:=if dr (bt s i) then kg s i else if ig (bt s i) then ly s i else lz s i
theorem vC(s:ByteArray)(f:Int):iG s f=if dx s f=s.size then .ok (kr (dx s f)) else AK s (dx s f):=rfl
theorem C0{p:Int→Bool}{s:ByteArray}{i E:Int}(h:i≤E)(hE:E≤s.size)(hall:∀k,i≤k→k<E→p (bt s k)=true)(hend:E<s.size→p (bt s E)=false):dG p s i=E:=by
 obtain⟨n,hn⟩:∃n:Nat,n=(E-i).toNat:=⟨_,rfl⟩
 induction n generalizing i with
 | zero =>
   have:i=E:=by omega
   subst this
   rcases Int.lt_or_le i s.size with h' | h'
   ·rw[dJ h',hend h'];rfl
   ·exact kK h'
 | succ n ih =>
   rw[dJ (by omega),if_pos (hall i (Int.le_refl i) (by omega))]
   exact ih (by omega) (fun k h1 h2=>hall k (by omega) h2) (by omega)
theorem vD{p:Int→Bool}{s:ByteArray}{i k:Int}(h1:i≤k)(h2:k<dG p s i)(h3:i≤(s.size:Int)):p (bt s k)=true:=(x8 h1 h2 h3).1
theorem zR{s s':ByteArray}{i i' E:Int}(hE:i≤E)(hEs:E≤s.size)(hE':i'+(E-i)≤s'.size)(hag:∀k,0≤k→k<E-i→bt s' (i'+k)=bt s (i+k))(hd:∀k,i≤k→k<E→dr (bt s k)=true)
  (h1:E<s.size→dr (bt s E)=false) (h2:i'+(E-i)<s'.size→dr (bt s' (i'+(E-i)))=false) (v:Int):eC s' i' v=eC s i v:=by
 obtain⟨n,hn⟩:∃n:Nat,n=(E-i).toNat:=⟨_,rfl⟩
 induction n generalizing i i' v with
 | zero =>
   have hi:i=E:=by omega
   subst hi
   have e1:eC s i v=v:=by
    rcases Int.lt_or_le i s.size with h | h
    ·rw[ij h,h1 h];rfl
    ·exact ou h
   have e2:eC s' i' v=v:=by
    rcases Int.lt_or_le i' s'.size with h | h
    ·rw[ij h,show dr (bt s' i')=false by have:=h2 (by omega);rwa [show i'+(i-i)=i' by omega] at this];rfl
    ·exact ou h
   rw[e1,e2]
 | succ n ih =>
   have hb:bt s' i'=bt s i:=by have:=hag 0 (Int.le_refl 0) (by omega);rwa [Int.add_zero,Int.add_zero] at this
   rw[ij (s:=s) (by omega),ij (s:=s') (by omega),hb,hd i (Int.le_refl i) (by omega)]
   simp only[if_true]
   refine ih (i:=i+1) (i':=i'+1) (by omega) (by omega) (fun k g0 g1=>?_) (fun k g0 g1=>hd k (by omega) g1) (fun h=>?_) _ (by omega)
   ·have:=hag (k+1) (by omega) (by omega)
    rw[show i'+1+k=i'+(k+1) by omega,show i+1+k=i+(k+1) by omega];exact this
   ·have:=h2 (by omega)
    rwa [show i'+1+(E-(i+1))=i'+(E-i) by omega]
theorem C1{s s':ByteArray}{i i':Int}{n:Int}(h0:0≤i)(h0':0≤i')(hn:0≤n)(hle:i+n≤s.size)(hle':i'+n≤s'.size)(hag:∀k,0≤k→k<n→bt s' (i'+k)=bt s (i+k)):cut s' i' (i'+n)=cut s i (i+n):=by
 have h1:=iN h0 (by omega:i≤i+n) hle
 have h2:=iN h0' (by omega:i'≤i'+n) hle'
 refine zr (by omega) fun k hk=>?_
 rw[nK h0' (by omega) (by omega) hle',nK h0 (by omega) (by omega) hle]
 exact hag k (by omega) (by omega)
theorem DZ{s:ByteArray}{i:Int}{t:Tok}(h:kg s i=.ok t) :
  ∃E e2,E=dG dr s i∧e2=(if eD (c9 s E)=1 then E else E+1)∧¬(eC s i 0>9223372036854775807∨(E-i>1∧bt s i=48)∨(e2<s.size∧(dM (bt s e2)=true∨(65≤bt s e2∧bt s e2≤90)))) ∧
   t=⟨3,cut s i e2,eD (c9 s E),eC s i 0,i⟩:=by
 refine⟨_,_,rfl,rfl, ?_, ?_⟩
 ·intro hc
  have:kg s i=.bad 113 i:=if_pos hc
  rw[this] at h;cases h
 ·have:∀C:Prop,[Decidable C]→∀x y:TR,(if C then x else y)=.ok t→x=.bad 113 i→y=.ok t:=fun C _ x y h hx=>by
   split at h
   ·rw[hx] at h;cases h
   ·exact h
  have:=this _ _ _ h rfl
  cases this;rfl
theorem uf(s:ByteArray):∀(n:Nat) (f:Int),(jL s n f).1.length≤n
 | 0,f=>Nat.le_refl _
 | n+1,f=>by
   unfold jL
   cases iG s f with
   | bad e p=>simp
   | ok t =>
     simp only
     split
     ·simp
     ·simp only[List.length_cons];exact Nat.succ_le_succ (uf s n _)
structure Ev (a z:ByteArray):Prop where
 lt:(a.size:Int)<z.size
 same:∀k,0≤k→k<(a.size:Int)→bt z k=bt a k
 nl:bt z a.size=10
theorem D0{C D:Prop}[Decidable C][Decidable D](h:C↔D){α:Type}(x y:α):(if C then x else y)=if D then x else y:=by
 by_cases hc:C
 ·rw[if_pos hc,if_pos (h.1 hc)]
 ·rw[if_neg hc,if_neg (fun hd=>hc (h.2 hd))]
theorem Ev.over{a z:ByteArray}(h:Ev a z):∀(n:Nat) (r:Bool) (f:Int),0≤f→f≤a.size→(a.size-f).toNat=n →
  (j8 a r f<a.size→j8 z r f=j8 a r f)∧(j8 a r f=a.size→j8 z r f=dx z (a.size+1)):=by
 have hlt:=h.lt
 intro n
 induction n with
 | zero =>
   intro r f h0 h1 hn
   have hf:f=a.size:=by omega
   subst hf
   rw[jR (Int.le_refl _)]
   refine⟨fun h=>by omega,fun _=>?_⟩
   rw[eW (by omega),h.nl]
   rw[show oM 10 r=false from rfl]
   rfl
 | succ n ih =>
   intro r f h0 h1 hn
   have hb:=h.same f h0 (by omega)
   have st:=eW (s:=a) (r:=r) (i:=f) (by omega)
   have st':=eW (s:=z) (r:=r) (i:=f) (by omega)
   rw[hb] at st'
   split at st
   ·rename_i hc
    rw[if_pos hc] at st'
    exact⟨fun _=>by rw[st,st'],fun e=>by omega⟩
   ·rename_i hc
    rw[if_neg hc] at st'
    rw[st,st']
    exact ih _ (f+1) (by omega) (by omega) (by omega)
structure il (b z:ByteArray) (d:Int):Prop where
 d0:0≤d
 size:(z.size:Int)=b.size+d
 same:∀k,0≤k→k<(b.size:Int)→bt z (k+d)=bt b k
theorem il.run{b z:ByteArray}{d:Int}(h:il b z d){p:Int→Bool}{i:Int}(h0:0≤i)(h1:i≤b.size):dG p z (i+d)=dG p b i+d:=by
 have hE:=fw (p:=p) h1
 have hd:=h.d0
 have hs:=h.size
 refine C0 (by omega) (by omega) (fun k g0 g1=>?_) fun hl=>?_
 ·rw[show k=k-d+d by omega,h.same (k-d) (by omega) (by omega)];exact vD (by omega) (by omega) h1
 ·rw[h.same _ (by omega) (by omega)];exact lx h1 (by omega)
theorem il.byte{b z:ByteArray}{d:Int}(h:il b z d){i:Int}(h0:0≤i):c9 z (i+d)=c9 b i:=by
 have hs:=h.size
 unfold c9
 by_cases hh:i<b.size
 ·rw[if_pos (by omega),if_pos hh,h.same i h0 hh]
 ·rw[if_neg (by omega),if_neg hh]
theorem il.cut{b z:ByteArray}{d:Int}(h:il b z d){i e:Int}(h0:0≤i)(h1:i≤e)(h2:e≤b.size):cut z (i+d) (e+d)=cut b i e:=by
 have hd:=h.d0
 have hs:=h.size
 have hc:=C1 (s:=b) (s':=z) (i:=i) (i':=i+d) (n:=e-i) h0 (by omega) (by omega) (by omega) (by omega) fun k g0 g1=>by
  rw[show i+d+k=i+k+d by omega];exact h.same _ (by omega) (by omega)
 rwa [show i+(e-i)=e by omega,show i+d+(e-i)=e+d by omega] at hc
theorem il.val{b z:ByteArray}{d:Int}(h:il b z d){i:Int}(h0:0≤i)(h1:i≤b.size):eC z (i+d) 0=eC b i 0:=by
 have hd:=h.d0
 have hs:=h.size
 have hE:=fw (p:=dr) h1
 refine zR (E:=dG dr b i) hE.1 hE.2 (by omega) (fun k g0 g1=>?_) (fun k g0 g1=>vD g0 g1 h1) (fun hl=>lx h1 hl) (fun hl=>?_) 0
 ·rw[show i+d+k=i+k+d by omega];exact h.same _ (by omega) (by omega)
 ·rw[show i+d+(dG dr b i-i)=dG dr b i+d by omega,h.same _ (by omega) (by omega)];exact lx h1 (by omega)
def TR.shift(d:Int):TR→TR
 | .ok t=>.ok ⟨t.kind,t.text,t.dU,t.n,t.pos+d⟩
 | .bad e p=>.bad e (p+d)
theorem my{C:Prop}[Decidable C]{d:Int}{x y:TR}:TR.shift d (if C then x else y)=if C then x.shift d else y.shift d:=by split<;>rfl
theorem il.num{b z:ByteArray}{d:Int}(h:il b z d){i:Int}(h0:0≤i)(h1:i<b.size):kg z (i+d)=(kg b i).shift d:=by
 have hd:=h.d0
 have hs:=h.size
 have hE:=fw (p:=dr) (s:=b) (i:=i) (by omega)
 have hr:=h.run (p:=dr) (i:=i) h0 (by omega)
 have hv:=h.val (i:=i) h0 (by omega)
 generalize hEd:dG dr b i=E at hE hr
 have hby:=h.byte (i:=E) (by omega)
 have htE:eD (c9 b E)≠1→E<b.size:=fun hne=>by
  rcases Int.lt_or_le E b.size with h | h
  ·exact h
  ·rw[show c9 b E=0 by unfold c9;rw[if_neg (by omega)]] at hne;exact absurd rfl hne
 have he2:∃e2,e2=(if eD (c9 b E)=1 then E else E+1)∧(if eD (c9 b E)=1 then E+d else E+d+1)=e2+d∧E≤e2∧e2≤b.size:=by
  refine⟨_,rfl, ?_⟩
  split
  ·exact⟨rfl,by omega⟩
  ·rename_i hne;have:=htE hne;exact⟨by omega,by omega⟩
 obtain⟨e2,he2,he2',hb1,hb2⟩:=he2
 have hb0:bt z (i+d)=bt b i:=h.same i h0 h1
 have hc:(e2+d<z.size∧(dM (bt z (e2+d))=true∨(65≤bt z (e2+d)∧bt z (e2+d)≤90)))↔(e2<b.size∧(dM (bt b e2)=true∨(65≤bt b e2∧bt b e2≤90))):=by
  rcases Int.lt_or_le e2 b.size with hh | hh
  ·rw[h.same e2 (by omega) hh]
   exact⟨fun x=>⟨hh,x.2⟩,fun x=>⟨by omega,x.2⟩⟩
  ·exact⟨fun x=>by omega,fun x=>by omega⟩
 have hdig:(E+d-(i+d)>1∧bt b i=48)↔(E-i>1∧bt b i=48):=by rw[show E+d-(i+d)=E-i by omega]
 unfold kg
 simp only[hr,hEd,hby,he2',←he2,hv,hb0,h.cut h0 (by omega:i≤e2) hb2]
 rw[my]
 exact D0 (or_congr (Iff.refl (eC b i 0>9223372036854775807)) (or_congr hdig hc)) _ _
theorem il.read{b z:ByteArray}{d:Int}(h:il b z d){i:Int}(h0:0≤i)(h1:i<b.size):AK z (i+d)=(AK b i).shift d:=by
 have hb0:bt z (i+d)=bt b i:=h.same i h0 h1
 have hn:ly z (i+d)=(ly b i).shift d:=by
  have hE:=fw (p:=dM) (s:=b) (i:=i) (by omega)
  unfold ly
  simp only[h.run (p:=dM) (i:=i) h0 (by omega),h.cut h0 hE.1 hE.2,show dG dM b i+d-(i+d)=dG dM b i-i by omega]
  rw[my]
  rfl
 have hm:lz z (i+d)=(lz b i).shift d:=by
  have hr:=lF b i
  have hl:=qk h1
  have hmn:fS z (i+d)=fS b i:=by
   unfold fS
   rw[hb0,show i+d+1=i+1+d by omega,h.byte (i:=i+1) (by omega)]
  unfold lz
  rw[hmn,show i+d+fS b i=i+fS b i+d by omega,h.cut h0 (by omega) hl,my]
  rfl
 unfold AK
 rw[hb0,h.num h0 h1,hn,hm,my,my]
theorem il.over{b z:ByteArray}{d:Int}(h:il b z d):∀(n:Nat) (r:Bool) (f:Int),0≤f→f≤b.size→(b.size-f).toNat=n→j8 z r (f+d)=j8 b r f+d:=by
 have hs:=h.size
 intro n
 induction n with
 | zero =>
   intro r f h0 h1 hn
   rw[jR (by omega),jR (by omega)]
 | succ n ih =>
   intro r f h0 h1 hn
   rw[eW (s:=b) (by omega),eW (s:=z) (by omega),h.same f h0 (by omega)]
   split
   ·rfl
   ·rw[show f+d+1=f+1+d by omega]
    exact ih _ (f+1) (by omega) (by omega) (by omega)
theorem il.tok{b z:ByteArray}{d:Int}(h:il b z d){f:Int}(h0:0≤f)(h1:f≤b.size):iG z (f+d)=(iG b f).shift d:=by
 have hs:=h.size
 have ho:=jo (s:=b) h1
 have hz:dx z (f+d)=dx b f+d:=h.over _ false f h0 h1 rfl
 rw[vC,vC,hz]
 by_cases he:dx b f=b.size
 ·rw[if_pos (by omega),if_pos he];rfl
 ·rw[if_neg (by omega),if_neg he,h.read (by omega) (by omega)]
end Go.Lx
namespace Go.Vc
open Go.ChangeShapes Go.WideShapes Go.ChangeAt Go.RowKit
def cS.all(w:World):cS:=⟨fun b=>w.heap[b]?,w.os,w.output⟩
theorem Sat.all(w:World):Sat (cS.all w) [] w:=⟨fun _ _ h=>h,fun _ _ h=>by simp at h,fun _ _ h=>by simp at h,List.nodup_nil,rfl,rfl⟩
structure lL (w w':World):Prop where
 heap:∀i,i<w.heap.size→w'.heap[i]? = w.heap[i]?
 os:w'.os=w.os
 out:w'.output=w.output
theorem lL.of{w w':World}{I:cS}{F:cR}(hl:cS.le (cS.all w) I)(hs:Sat I F w'):lL w w':=by
 refine⟨fun i hi=>?_,hs.env.1.trans hl.2.1,hs.env.2.trans hl.2.2⟩
 obtain⟨o,ho⟩:∃o,w.heap[i]? = some o:=⟨_,Array.getElem?_eq_getElem hi⟩
 rw[ho]
 exact hs.imm _ _ (hl.1 i o ho)
theorem lL.kept{w w':World}(h:lL w w')(may:MemPlace→Prop):w.keptBut w' may:=by
 refine⟨h.os,h.out,fun i hi=>?_⟩
 rw[h.heap i hi]
 cases w.heap[i]? with
 | none=>rfl
 | some o=>cases o with
   | cells c t fr=>exact⟨rfl,rfl,rfl,fun _ _=>rfl⟩
   | map es clock=>exact .inr ⟨rfl,rfl⟩
   | _=>rfl
theorem lL.frozen{w w':World}(h:lL w w'){a:Addr}(ha:a.block<w.heap.size):w'.frozen? a=w.frozen? a:=by
 unfold World.frozen?;rw[h.heap _ ha]
theorem zS{H:Type}{enc:TypeId×Value→H}{P:Program}{f:Func}{s:ChangeSpec}{apart fresh handsOn again:Bool}{W W':World}{args:Array Value}{v:Value}{ds gs:List (DataW H)}{before pa pv:List MemPlace}
  (hW:DataW.Whole enc P f.params.toList s.vars apart W args.toList ds gs before)
  (hres:∀(b:Nat) (sp:Nat→Bool) (hd:Bool),DataW.TrodAll enc P W' b sp hd f.resultTypes.toList (v.resultList f.resultTypes.size) (s.fn H (ds++gs)).results [])
  (hargs:∀sp:Nat→Bool,(∀p∈before,sp p.block=true)→DataW.TrodAll enc P W' 0 sp true f.params.toList args.toList (s.fn H (ds++gs)).args pa)
  (hvars:∀sp:Nat→Bool,(∀p∈before,sp p.block=true)→DataW.TrodVars enc P W' sp s.vars (s.fn H (ds++gs)).vars pv)
  (hps:before=pa++pv) (hk:lL W W')
  (hok:∀(j:Nat) (t:TypeId) (r:Value),f.resultTypes[j]? = some t→(v.resultList f.resultTypes.size)[j]? = some r→Value.okWide P W' .any 0 t r) :
  s.post enc P f apart fresh handsOn again W args v W':=by
 have hold:∀p∈before,(fun b=>decide (b<W.heap.size)) p.block=true:=fun p hp=>by simpa using hW.lt p hp
 have hlt:∀p∈before,p.block<W.heap.size:=fun p hp=>hW.lt p hp
 refine⟨ds,gs,before,[],pa,pv,hW,hres _ _ _,hargs _ hold,hvars _ hold,World.keptBut_mono (fun p hp=>⟨hp, ?_⟩) (hk.kept (·∈before)),fun _=>?_⟩
 ·rw[hps,List.mem_append] at hp
  exact Or.inr hp
 ·obtain⟨_,_,_,_,_,hz,hn⟩:=hW
  refine⟨hok,_,_,([]++pa)++pv,⟨[]++pa,pv,trodAll_append (hargs _ (fun _ _=>rfl)) (hres _ _ _),hvars _ (fun _ _=>rfl),rfl, ?_, ?_⟩, ?_⟩
  ·intro b off hp
   have hp':MemPlace.cell b off∈before:=by rw[hps];simpa using hp
   rw[hk.frozen (hlt _ hp')]
   exact hz b off hp'
  ·intro ha
   have:=hn ha
   rw[hps] at this
   simpa using this
  ·intro p hp _
   rw[hps]
   simpa using hp
end Go.Vc
namespace Go.Lx
open Go.Vc
end Go.Lx
namespace Go.Vc
section
variable {P:Program} {f:FuncId} {args:Array Value} {I:cS} {F:cR} {R:Value→cS→Prop}
end
def ug(P:Program)(t:TypeId):Bool:=match P.underlying t with
 | some (.interface _)=>true
 | _=>false
theorem vG{P:Program}{t:TypeId}(h:ug P t=true):∃ms,P.underlying t=some (.interface ms):=by
 unfold ug at h
 split at h
 ·rename_i ht;exact⟨_,ht⟩
 ·cases h
theorem qs{P:Program}{t:TypeId}(h:ug P t=true){x:Operand}:eA P .eql t x (.const .nilIface) .nilIface .nilIface true:=by
 obtain⟨ms,ht⟩:=vG h
 intro w
 have he:(Op.equal t .nilIface .nilIface).run P w=.ok true w:=by
  show (Op.equalIn (9999+1) t .nilIface .nilIface).run P w=_
  unfold Op.equalIn
  simp[Sem.run_bind,dL ht]
 simp[eqGuard,binOp,Sem.run_bind,he]
theorem q8{P:Program}{t:TypeId}(h:ug P t=true){x:Operand}{d:TypeId}{v:Value}:eA P .eql t x (.const .nilIface) (.iface d v) .nilIface false:=by
 obtain⟨ms,ht⟩:=vG h
 intro w
 have he:(Op.equal t (.iface d v) .nilIface).run P w=.ok false w:=by
  show (Op.equalIn (9999+1) t (.iface d v) .nilIface).run P w=_
  unfold Op.equalIn
  simp[Sem.run_bind,dL ht]
 simp[eqGuard,binOp,Sem.run_bind,he]
end Go.Vc
namespace Go.Lx
open Go.Vc
abbrev uh(e:Int):Value:=.iface 48 (.int .i64 e)
def BP(I:cS)(call:ByteArray)(pos:Int)(err v:Value):Prop:=∃b,v=.iface 97 (.pointer (some ⟨b,0,none⟩))∧I b=some (.cells #[.string call,.int .i64 pos,err] 101 (0,0))
theorem BP.mono{I J:cS}{call:ByteArray}{pos:Int}{err v:Value}(h:BP I call pos err v)(hl:cS.le I J):BP J call pos err v:=let ⟨b,h1,h2⟩:=h;⟨b,h1,hl.at h2⟩
theorem Gs(b n:Nat):(⟨b,0,none⟩:Addr).add n=⟨b,n,none⟩:=by unfold Addr.add;split<;>simp_all
end Go.Lx
namespace Go.As
open Go.RowKit Go.Extern.Stop Go.Stop Go.Extern
theorem GY(z:Sem Value)(f:TypeId→Addr→Nat→Nat→Sem Value)(v:Value) :
  ReflectliteValue.method z f #[v]=(do match ←ReflectliteValue.parts v with | none=>z | some (t,a,fl)=>f t a fl (fl % 32)):=rfl
theorem HY(v x:Value):ReflectliteValue.set #[v,x]=(do
  let (some (dst,a,fl),some (src,b,_)):=(←ReflectliteValue.parts v,←ReflectliteValue.parts x)
   | unsupported (.noEntry "extern/(internal/reflectlite.Value).Set.zeroValue")
  if fl / ReflectliteValue.flagAddr % 2==0 then unsupported (.noEntry "extern/(internal/reflectlite.Value).Set.unaddressable")
  let val ←loadVar src b
  if ←Rtype.directlyAssignable dst src then storeVar dst a val
  else if ←Rtype.implements dst src then
   if (←Rtype.kind src)==20 then
    match val with
    | .nilIface=>unsupported (.noEntry "extern/reflectlite: a nil value of one interface type handed on as a value of another")
    | _=>storeVar dst a val
   else storeVar dst a (.iface src val)
  else panicString ("reflectlite.Set: value of type " ++ (←Rtype.spelt src) ++ " is not assignable to type " ++ (←Rtype.spelt dst))
  pure (.tuple #[])):=rfl
theorem ui(h:Value)(w:World):(Go.method 368 196 (.agg #[h]) "Kind").run Go.Proofs.Tryz.prog w=.ok (176,h) w:=by kernel_rfl
theorem uj(h:Value)(w:World):(Go.method 368 196 (.agg #[h]) "Elem").run Go.Proofs.Tryz.prog w=.ok (188,.agg #[h]) w:=by kernel_rfl
theorem mz(h:Value)(w:World):(Go.method 368 196 (.agg #[h]) "Implements").run Go.Proofs.Tryz.prog w=.ok (189,.agg #[h]) w:=by kernel_rfl
theorem gz(h:Value)(w:World):(Go.method 368 196 (.agg #[h]) "AssignableTo").run Go.Proofs.Tryz.prog w=.ok (186,.agg #[h]) w:=by kernel_rfl
theorem C2(t:Addr)(w:World):(ReflectliteValue.unpack (.iface 99 (.pointer (some t)))).run Go.Proofs.Tryz.prog w=.ok (.agg #[.pointer (some ⟨1,99,none⟩),.pointer (some ⟨w.heap.size,0,none⟩),.int .u64 150]) (w.alloc (.cells #[.pointer (some t)] 99)):=by kernel_rfl
theorem Gt(a:Addr)(w:World):(ReflectliteValue.methodAny (ReflectliteValue.valueError "reflectlite.Value.Type" 0) (fun t _ _ _=>ReflectliteType.toType t) #[(.agg #[.pointer (some ⟨1,99,none⟩),.pointer (some a),.int .u64 150])]).run Go.Proofs.Tryz.prog w=.ok (.iface 196 (.agg #[.pointer (some ⟨1,99,none⟩)])) w:=by kernel_rfl
theorem Fm(w:World):((ReflectliteType.abiMethod fun t=>(fun a:Nat=>Value.int IntKind.u8 (a:Int)) <$> Rtype.kind t) #[.pointer (some ⟨1,99,none⟩)]).run Go.Proofs.Tryz.prog w=.ok (.int .u8 22) w:=by kernel_rfl
theorem Gu(w:World):((ReflectliteType.abiMethod fun t=>(fun a:Nat=>Value.int IntKind.u8 (a:Int)) <$> Rtype.kind t) #[.pointer (some ⟨1,97,none⟩)]).run Go.Proofs.Tryz.prog w=.ok (.int .u8 22) w:=by kernel_rfl
theorem AL(a:Addr)(w:World):(ReflectliteValue.parts (.agg #[.pointer (some ⟨1,99,none⟩),.pointer (some a),.int .u64 150])).run Go.Proofs.Tryz.prog w=.ok (some (99,a,150)) w:=by kernel_rfl
theorem AM:Go.Proofs.Tryz.prog.underlying 99=some (.pointer 97):=by kernel_rfl
theorem Fo(a p:Addr)(W:World)(ha:W.cell? a=some (.pointer (some p))) :
  (ReflectliteValue.method (ReflectliteValue.valueError "reflectlite.Value.IsNil" 0) ReflectliteValue.isNil #[(.agg #[.pointer (some ⟨1,99,none⟩),.pointer (some a),.int .u64 150])]).run Go.Proofs.Tryz.prog W=.ok (.bool false) W:=by
 rw[GY]
 simp only[Sem.run_bind,AL,Result.andThen]
 simp[ReflectliteValue.isNil,loadVar,isAgg,underlying,AM,ha,Result.andThen]
theorem Gv(w:World):(ReflectliteType.method ReflectliteType.elem #[.agg #[.pointer (some ⟨1,99,none⟩)]]).run Go.Proofs.Tryz.prog w=.ok (.iface 196 (.agg #[.pointer (some ⟨1,97,none⟩)])) w:=by kernel_rfl
theorem Gw(w:World):(ReflectliteType.relation "Implements" ReflectliteType.implements_ #[.agg #[.pointer (some ⟨1,97,none⟩)],.iface 196 (.agg #[.pointer (some ⟨1,45,none⟩)])]).run Go.Proofs.Tryz.prog w=.ok (.bool true) w:=by kernel_rfl
theorem wL(v:Value)(w:World):(ReflectliteType.typeOf #[.iface 97 v]).run Go.Proofs.Tryz.prog w=.ok (.iface 196 (.agg #[.pointer (some ⟨1,97,none⟩)])) w:=by kernel_rfl
theorem D1(w:World):(Rtype.elem? 99).run Go.Proofs.Tryz.prog w=.ok (some 97) w:=by kernel_rfl
theorem H9(p:Addr)(w:World):(ReflectliteValue.mk 97 p ReflectliteValue.flagAddr).run Go.Proofs.Tryz.prog w=.ok (.agg #[.pointer (some ⟨1,97,none⟩),.pointer (some p),.int .u64 406]) w:=by kernel_rfl
theorem Fp(a p:Addr)(W:World)(ha:W.cell? a=some (.pointer (some p))) :
  (ReflectliteValue.method (ReflectliteValue.valueError "reflectlite.Value.Elem" 0) ReflectliteValue.elem #[(.agg #[.pointer (some ⟨1,99,none⟩),.pointer (some a),.int .u64 150])]).run Go.Proofs.Tryz.prog W=.ok (.agg #[.pointer (some ⟨1,97,none⟩),.pointer (some p),.int .u64 406]) W:=by
 rw[GY]
 simp only[Sem.run_bind,AL,Result.andThen]
 simp[ReflectliteValue.elem,loadVar,isAgg,underlying,AM,ha,Result.andThen,D1,H9]
theorem D2(a:Addr)(w:World):(ReflectliteValue.parts (.agg #[.pointer (some ⟨1,97,none⟩),.pointer (some a),.int .u64 406])).run Go.Proofs.Tryz.prog w=.ok (some (97,a,406)) w:=by kernel_rfl
theorem Fq(a:Addr)(w:World):(ReflectliteValue.parts (.agg #[.pointer (some ⟨1,97,none⟩),.pointer (some a),.int .u64 150])).run Go.Proofs.Tryz.prog w=.ok (some (97,a,150)) w:=by kernel_rfl
theorem D3(w:World):(Rtype.directlyAssignable 97 97).run Go.Proofs.Tryz.prog w=.ok true w:=by kernel_rfl
theorem Fs:Go.Proofs.Tryz.prog.underlying 97=some (.pointer 101):=by kernel_rfl
theorem Ft(x:Addr)(w:World):(ReflectliteValue.unpack (.iface 97 (.pointer (some x)))).run Go.Proofs.Tryz.prog w=.ok (.agg #[.pointer (some ⟨1,97,none⟩),.pointer (some ⟨w.heap.size,0,none⟩),.int .u64 150]) (w.alloc (.cells #[.pointer (some x)] 97)):=by kernel_rfl
theorem Hq(ta b:Addr)(x:Addr)(old:Value)(W:World)(hb:W.cell? b=some (.pointer (some x)))(ht:W.cell? ta=some old)(hf:W.frozen? ta=false) :
  (ReflectliteValue.set #[(.agg #[.pointer (some ⟨1,97,none⟩),.pointer (some ta),.int .u64 406]),(.agg #[.pointer (some ⟨1,97,none⟩),.pointer (some b),.int .u64 150])]).run Go.Proofs.Tryz.prog W=.ok (.tuple #[]) (W.setCell ta (.pointer (some x))):=by
 rw[HY]
 simp only[Sem.run_bind,D2,Fq,Result.andThen]
 simp[ReflectliteValue.flagAddr,loadVar,isAgg,underlying,Fs,hb,Result.andThen,D3,storeVar,Value.cells,storeCells,Addr.add]
 rw[run_store Go.Proofs.Tryz.prog W ta _ _ (by rfl)]
 simp[ht,hf]
theorem C3(t:Addr)(w:World):(ReflectliteValue.unpack (.iface 102 (.pointer (some t)))).run Go.Proofs.Tryz.prog w=.ok (.agg #[.pointer (some ⟨1,102,none⟩),.pointer (some ⟨w.heap.size,0,none⟩),.int .u64 150]) (w.alloc (.cells #[.pointer (some t)] 102)):=by kernel_rfl
theorem Gx(a:Addr)(w:World):(ReflectliteValue.methodAny (ReflectliteValue.valueError "reflectlite.Value.Type" 0) (fun t _ _ _=>ReflectliteType.toType t) #[(.agg #[.pointer (some ⟨1,102,none⟩),.pointer (some a),.int .u64 150])]).run Go.Proofs.Tryz.prog w=.ok (.iface 196 (.agg #[.pointer (some ⟨1,102,none⟩)])) w:=by kernel_rfl
theorem Fu(w:World):((ReflectliteType.abiMethod fun t=>(fun a:Nat=>Value.int IntKind.u8 (a:Int)) <$> Rtype.kind t) #[.pointer (some ⟨1,102,none⟩)]).run Go.Proofs.Tryz.prog w=.ok (.int .u8 22) w:=by kernel_rfl
theorem Gy(w:World):((ReflectliteType.abiMethod fun t=>(fun a:Nat=>Value.int IntKind.u8 (a:Int)) <$> Rtype.kind t) #[.pointer (some ⟨1,48,none⟩)]).run Go.Proofs.Tryz.prog w=.ok (.int .u8 2) w:=by kernel_rfl
theorem AN(a:Addr)(w:World):(ReflectliteValue.parts (.agg #[.pointer (some ⟨1,102,none⟩),.pointer (some a),.int .u64 150])).run Go.Proofs.Tryz.prog w=.ok (some (102,a,150)) w:=by kernel_rfl
theorem AO:Go.Proofs.Tryz.prog.underlying 102=some (.pointer 48):=by kernel_rfl
theorem Fv(a p:Addr)(W:World)(ha:W.cell? a=some (.pointer (some p))) :
  (ReflectliteValue.method (ReflectliteValue.valueError "reflectlite.Value.IsNil" 0) ReflectliteValue.isNil #[(.agg #[.pointer (some ⟨1,102,none⟩),.pointer (some a),.int .u64 150])]).run Go.Proofs.Tryz.prog W=.ok (.bool false) W:=by
 rw[GY]
 simp only[Sem.run_bind,AN,Result.andThen]
 simp[ReflectliteValue.isNil,loadVar,isAgg,underlying,AO,ha,Result.andThen]
theorem Gz(w:World):(ReflectliteType.method ReflectliteType.elem #[.agg #[.pointer (some ⟨1,102,none⟩)]]).run Go.Proofs.Tryz.prog w=.ok (.iface 196 (.agg #[.pointer (some ⟨1,48,none⟩)])) w:=by kernel_rfl
theorem GA(w:World):(ReflectliteType.relation "Implements" ReflectliteType.implements_ #[.agg #[.pointer (some ⟨1,48,none⟩)],.iface 196 (.agg #[.pointer (some ⟨1,45,none⟩)])]).run Go.Proofs.Tryz.prog w=.ok (.bool true) w:=by kernel_rfl
theorem wM(v:Value)(w:World):(ReflectliteType.typeOf #[.iface 48 v]).run Go.Proofs.Tryz.prog w=.ok (.iface 196 (.agg #[.pointer (some ⟨1,48,none⟩)])) w:=by kernel_rfl
theorem D4(w:World):(Rtype.elem? 102).run Go.Proofs.Tryz.prog w=.ok (some 48) w:=by kernel_rfl
theorem Ia(p:Addr)(w:World):(ReflectliteValue.mk 48 p ReflectliteValue.flagAddr).run Go.Proofs.Tryz.prog w=.ok (.agg #[.pointer (some ⟨1,48,none⟩),.pointer (some p),.int .u64 386]) w:=by kernel_rfl
theorem zT(a p:Addr)(W:World)(ha:W.cell? a=some (.pointer (some p))) :
  (ReflectliteValue.method (ReflectliteValue.valueError "reflectlite.Value.Elem" 0) ReflectliteValue.elem #[(.agg #[.pointer (some ⟨1,102,none⟩),.pointer (some a),.int .u64 150])]).run Go.Proofs.Tryz.prog W=.ok (.agg #[.pointer (some ⟨1,48,none⟩),.pointer (some p),.int .u64 386]) W:=by
 rw[GY]
 simp only[Sem.run_bind,AN,Result.andThen]
 simp[ReflectliteValue.elem,loadVar,isAgg,underlying,AO,ha,Result.andThen,D4,Ia]
theorem D5(a:Addr)(w:World):(ReflectliteValue.parts (.agg #[.pointer (some ⟨1,48,none⟩),.pointer (some a),.int .u64 386])).run Go.Proofs.Tryz.prog w=.ok (some (48,a,386)) w:=by kernel_rfl
theorem Fx(a:Addr)(w:World):(ReflectliteValue.parts (.agg #[.pointer (some ⟨1,48,none⟩),.pointer (some a),.int .u64 130])).run Go.Proofs.Tryz.prog w=.ok (some (48,a,130)) w:=by kernel_rfl
theorem D6(w:World):(Rtype.directlyAssignable 48 48).run Go.Proofs.Tryz.prog w=.ok true w:=by kernel_rfl
theorem Fy:Go.Proofs.Tryz.prog.underlying 48=some (.int .i64):=by kernel_rfl
theorem zU(x:Int)(w:World):(ReflectliteValue.unpack (.iface 48 (.int .i64 x))).run Go.Proofs.Tryz.prog w=.ok (.agg #[.pointer (some ⟨1,48,none⟩),.pointer (some ⟨w.heap.size,0,none⟩),.int .u64 130]) (w.alloc (.cells #[.int .i64 x] 48)):=by kernel_rfl
theorem Fz(ta b:Addr)(x:Int)(old:Value)(W:World)(hb:W.cell? b=some (.int .i64 x))(ht:W.cell? ta=some old)(hf:W.frozen? ta=false) :
  (ReflectliteValue.set #[(.agg #[.pointer (some ⟨1,48,none⟩),.pointer (some ta),.int .u64 386]),(.agg #[.pointer (some ⟨1,48,none⟩),.pointer (some b),.int .u64 130])]).run Go.Proofs.Tryz.prog W=.ok (.tuple #[]) (W.setCell ta (.int .i64 x)):=by
 rw[HY]
 simp only[Sem.run_bind,D5,Fx,Result.andThen]
 simp[ReflectliteValue.flagAddr,loadVar,isAgg,underlying,Fy,hb,Result.andThen,D6,storeVar,Value.cells,storeCells,Addr.add]
 rw[run_store Go.Proofs.Tryz.prog W ta _ _ (by rfl)]
 simp[ht,hf]
theorem C4(w:World):(ReflectliteType.relation "AssignableTo" ReflectliteType.assignableTo #[.agg #[.pointer (some ⟨1,97,none⟩)],.iface 196 (.agg #[.pointer (some ⟨1,97,none⟩)])]).run Go.Proofs.Tryz.prog w=.ok (.bool true) w:=by kernel_rfl
theorem yp(w:World):(ReflectliteType.relation "AssignableTo" ReflectliteType.assignableTo #[.agg #[.pointer (some ⟨1,97,none⟩)],.iface 196 (.agg #[.pointer (some ⟨1,48,none⟩)])]).run Go.Proofs.Tryz.prog w=.ok (.bool false) w:=by kernel_rfl
theorem uk(w:World):(ReflectliteType.relation "AssignableTo" ReflectliteType.assignableTo #[.agg #[.pointer (some ⟨1,48,none⟩)],.iface 196 (.agg #[.pointer (some ⟨1,48,none⟩)])]).run Go.Proofs.Tryz.prog w=.ok (.bool true) w:=by kernel_rfl
theorem Ew(v:Value)(xT:TypeId)(w:World):(Instr.typeAssert (.iface 97 v) xT 216 true).run Go.Proofs.Tryz.prog w=.ok (.tuple #[.nilIface,.bool false]) w:=run_typeAssert_lacksB Go.Proofs.Tryz.underlying216 (by kernel_rfl) (by kernel_rfl) v xT w
theorem Ex(v:Value)(xT:TypeId)(w:World):(Instr.typeAssert (.iface 97 v) xT 201 true).run Go.Proofs.Tryz.prog w=.ok (.tuple #[.iface 97 v,.bool true]) w:=run_typeAssert_hasB Go.Proofs.Tryz.underlying201 (by kernel_rfl) v xT w
theorem qt(e:Addr)(w:World):(Go.method 368 97 (.pointer (some e)) "Unwrap").run Go.Proofs.Tryz.prog w=.ok (181,.pointer (some e)) w:=by kernel_rfl
abbrev HZ:Value:=.iface 196 (.agg #[.pointer (some ⟨1,97,none⟩)])
abbrev GZ:Value:=.iface 196 (.agg #[.pointer (some ⟨1,48,none⟩)])
abbrev uW(PT:Nat)(a:Addr):Obj:=.cells #[.pointer (some ⟨1,PT,none⟩),.pointer (some a),.int .u64 150] 162
set_option maxHeartbeats 4000000 in
theorem GB(e t a:Addr)(old tgt:Value)(w:World)(ha:w.cell? a=some (.pointer (some t)))(ht0:w.cell? t=some old)(hf0:w.frozen? t=false) :
  Calls Go.Proofs.Tryz.prog 85 #[.iface 97 (.pointer (some e)),tgt,.agg #[.pointer (some ⟨1,99,none⟩),.pointer (some a),.int .u64 150],HZ] w fun ev w'=>ev=.returned (.bool true) ∧
   w'=((w.alloc (uW 99 a)).alloc (.cells #[.pointer (some e)] 97)).setCell t (.pointer (some e)):=by
 have hTO:=@run_callFunc_extern Go.Proofs.Tryz.prog 61 _ ReflectliteType.typeOf Go.Proofs.Tryz.func61 (by kernel_rfl) (by kernel_rfl) (by kernel_rfl) (by kernel_rfl)
 have hA:=@run_callFunc_extern Go.Proofs.Tryz.prog 186 _ (ReflectliteType.relation "AssignableTo" ReflectliteType.assignableTo) Go.Proofs.Tryz.func186 (by kernel_rfl) (by kernel_rfl) (by kernel_rfl) (by kernel_rfl)
 have hVE:=@run_callFunc_extern Go.Proofs.Tryz.prog 111 _ (ReflectliteValue.method (ReflectliteValue.valueError "reflectlite.Value.Elem" 0) ReflectliteValue.elem) Go.Proofs.Tryz.func111 (by kernel_rfl) (by kernel_rfl) (by kernel_rfl) (by kernel_rfl)
 have hS:=@run_callFunc_extern Go.Proofs.Tryz.prog 112 _ ReflectliteValue.set Go.Proofs.Tryz.func112 (by kernel_rfl) (by kernel_rfl) (by kernel_rfl) (by kernel_rfl)
 have hV:=@run_callFunc_extern Go.Proofs.Tryz.prog 82 _ (fun args=>ReflectliteValue.unpack (args.getD 0 (.tuple #[]))) Go.Proofs.Tryz.func82 (by kernel_rfl) (by kernel_rfl) (by kernel_rfl) (by kernel_rfl)
 have tO:=wL
 have mA:=gz
 have aF:=C4
 have vF:=Ft
 have hal:a.block<w.heap.size:=by
  rcases Nat.lt_or_ge a.block w.heap.size with h | h
  ·exact h
  ·simp[World.cell?,Array.getElem?_eq_none h] at ha
 have htl:t.block<w.heap.size:=by
  rcases Nat.lt_or_ge t.block w.heap.size with h | h
  ·exact h
  ·simp[World.cell?,Array.getElem?_eq_none h] at ht0
 have el:=Fp a t (w.alloc (uW 99 a)) (by rw[World.cell?_alloc_lt _ _ a hal];exact ha)
 have st:=Hq t ⟨w.heap.size+1,0,none⟩ e old ((w.alloc (uW 99 a)).alloc (.cells #[.pointer (some e)] 97))
  (by rw[World.cell?_alloc_at _ _ _ _ (by simp)];rfl)
  (by rw[World.cell?_alloc_lt _ _ t (by simp;omega),World.cell?_alloc_lt _ _ t htl];exact ht0)
  (by rw[World.frozen?_alloc_old _ _ t (by simp;omega),World.frozen?_alloc_old _ _ t (Nat.ne_of_lt htl)];exact hf0)
 go_enter Go.Proofs.Tryz.func85,Go.Proofs.Tryz.ntmps85
 go_wp2
 refine wp_loop_rounds 1 ?_
 rw[rounds_succ]
 go_wp2
 go_ret
 exact⟨rfl,rfl⟩
set_option maxHeartbeats 4000000 in
theorem GC(n:Int)(t a:Addr)(old tgt:Value)(w:World)(ha:w.cell? a=some (.pointer (some t)))(ht0:w.cell? t=some old)(hf0:w.frozen? t=false) :
  Calls Go.Proofs.Tryz.prog 85 #[.iface 48 (.int .i64 n),tgt,.agg #[.pointer (some ⟨1,102,none⟩),.pointer (some a),.int .u64 150],GZ] w fun ev w'=>ev=.returned (.bool true) ∧
   w'=((w.alloc (uW 102 a)).alloc (.cells #[.int .i64 n] 48)).setCell t (.int .i64 n):=by
 have hTO:=@run_callFunc_extern Go.Proofs.Tryz.prog 61 _ ReflectliteType.typeOf Go.Proofs.Tryz.func61 (by kernel_rfl) (by kernel_rfl) (by kernel_rfl) (by kernel_rfl)
 have hA:=@run_callFunc_extern Go.Proofs.Tryz.prog 186 _ (ReflectliteType.relation "AssignableTo" ReflectliteType.assignableTo) Go.Proofs.Tryz.func186 (by kernel_rfl) (by kernel_rfl) (by kernel_rfl) (by kernel_rfl)
 have hVE:=@run_callFunc_extern Go.Proofs.Tryz.prog 111 _ (ReflectliteValue.method (ReflectliteValue.valueError "reflectlite.Value.Elem" 0) ReflectliteValue.elem) Go.Proofs.Tryz.func111 (by kernel_rfl) (by kernel_rfl) (by kernel_rfl) (by kernel_rfl)
 have hS:=@run_callFunc_extern Go.Proofs.Tryz.prog 112 _ ReflectliteValue.set Go.Proofs.Tryz.func112 (by kernel_rfl) (by kernel_rfl) (by kernel_rfl) (by kernel_rfl)
 have hV:=@run_callFunc_extern Go.Proofs.Tryz.prog 82 _ (fun args=>ReflectliteValue.unpack (args.getD 0 (.tuple #[]))) Go.Proofs.Tryz.func82 (by kernel_rfl) (by kernel_rfl) (by kernel_rfl) (by kernel_rfl)
 have tO:=wM
 have mA:=gz
 have aE:=uk
 have vE:=zU
 have hal:a.block<w.heap.size:=by
  rcases Nat.lt_or_ge a.block w.heap.size with h | h
  ·exact h
  ·simp[World.cell?,Array.getElem?_eq_none h] at ha
 have htl:t.block<w.heap.size:=by
  rcases Nat.lt_or_ge t.block w.heap.size with h | h
  ·exact h
  ·simp[World.cell?,Array.getElem?_eq_none h] at ht0
 have el:=zT a t (w.alloc (uW 102 a)) (by rw[World.cell?_alloc_lt _ _ a hal];exact ha)
 have st:=Fz t ⟨w.heap.size+1,0,none⟩ n old ((w.alloc (uW 102 a)).alloc (.cells #[.int .i64 n] 48))
  (by rw[World.cell?_alloc_at _ _ _ _ (by simp)];rfl)
  (by rw[World.cell?_alloc_lt _ _ t (by simp;omega),World.cell?_alloc_lt _ _ t htl];exact ht0)
  (by rw[World.frozen?_alloc_old _ _ t (by simp;omega),World.frozen?_alloc_old _ _ t (Nat.ne_of_lt htl)];exact hf0)
 go_enter Go.Proofs.Tryz.func85,Go.Proofs.Tryz.ntmps85
 go_wp2
 refine wp_loop_rounds 1 ?_
 rw[rounds_succ]
 go_wp2
 go_ret
 exact⟨rfl,rfl⟩
abbrev zV:Value:=.iface 196 (.agg #[.pointer (some ⟨1,45,none⟩)])
set_option maxHeartbeats 4000000 in
theorem Hr(d:TypeId)(v:Value)(t:Addr)(w w2:World)(r:Bool)(hg:w.cell? ⟨0,0,none⟩=some zV)
  (h:Calls Go.Proofs.Tryz.prog 85 #[.iface d v,.iface 99 (.pointer (some t)),.agg #[.pointer (some ⟨1,99,none⟩),.pointer (some ⟨w.heap.size,0,none⟩),.int .u64 150],HZ] ((w.alloc (.cells #[.pointer (some t)] 99)).alloc (uW 99 ⟨w.heap.size,0,none⟩)) fun ev w'=>ev=.returned (.bool r)∧w'=w2) :
  Calls Go.Proofs.Tryz.prog 31 #[.iface d v,.iface 99 (.pointer (some t))] w fun ev w'=>ev=.returned (.bool r)∧w'=w2:=by
 have hV:=@run_callFunc_extern Go.Proofs.Tryz.prog 82 _ (fun args=>ReflectliteValue.unpack (args.getD 0 (.tuple #[]))) Go.Proofs.Tryz.func82 (by kernel_rfl) (by kernel_rfl) (by kernel_rfl) (by kernel_rfl)
 have hT:=@run_callFunc_extern Go.Proofs.Tryz.prog 83 _ (ReflectliteValue.methodAny (ReflectliteValue.valueError "reflectlite.Value.Type" 0) (fun t _ _ _=>ReflectliteType.toType t)) Go.Proofs.Tryz.func83 (by kernel_rfl) (by kernel_rfl) (by kernel_rfl) (by kernel_rfl)
 have hN:=@run_callFunc_extern Go.Proofs.Tryz.prog 84 _ (ReflectliteValue.method (ReflectliteValue.valueError "reflectlite.Value.IsNil" 0) ReflectliteValue.isNil) Go.Proofs.Tryz.func84 (by kernel_rfl) (by kernel_rfl) (by kernel_rfl) (by kernel_rfl)
 have hK:=@run_callFunc_extern Go.Proofs.Tryz.prog 176 _ (ReflectliteType.abiMethod fun t=>do pure (.int .u8 (←Rtype.kind t))) Go.Proofs.Tryz.func176 (by kernel_rfl) (by kernel_rfl) (by kernel_rfl) (by kernel_rfl)
 have hE:=@run_callFunc_extern Go.Proofs.Tryz.prog 188 _ (ReflectliteType.method ReflectliteType.elem) Go.Proofs.Tryz.func188 (by kernel_rfl) (by kernel_rfl) (by kernel_rfl) (by kernel_rfl)
 have hI:=@run_callFunc_extern Go.Proofs.Tryz.prog 189 _ (ReflectliteType.relation "Implements" ReflectliteType.implements_) Go.Proofs.Tryz.func189 (by kernel_rfl) (by kernel_rfl) (by kernel_rfl) (by kernel_rfl)
 have f6:=C2
 have f7:=Gt
 have mK:=ui
 have mE:=uj
 have mI:=mz
 have kP:=Fm
 have kT:=Gu
 have eT:=Gv
 have iT:=Gw
 have n8:=Fo ⟨w.heap.size,0,none⟩ t ((w.alloc (.cells #[.pointer (some t)] 99)).alloc (uW 99 ⟨w.heap.size,0,none⟩)) (by simp)
 have hlt:0<w.heap.size:=by
  rcases Nat.eq_zero_or_pos w.heap.size with h0 | h
  ·simp[World.cell?,h0] at hg
  ·exact h
 have hg2:((w.alloc (.cells #[.pointer (some t)] 99)).alloc (uW 99 ⟨w.heap.size,0,none⟩)).cell? ⟨0,0,none⟩=some zV:=by
  rw[World.cell?_alloc_lt _ _ ⟨0,0,none⟩ (by simp),World.cell?_alloc_lt _ _ ⟨0,0,none⟩ hlt];exact hg
 go_enter Go.Proofs.Tryz.func31,Go.Proofs.Tryz.ntmps31
 go_wp2_with (first | (go_at_call 85;refine h.mono ?_;rintro e w' ⟨rfl,rfl⟩))
 go_ret
 exact⟨rfl,rfl⟩
set_option maxHeartbeats 4000000 in
theorem FA(d:TypeId)(v:Value)(t:Addr)(w w2:World)(r:Bool)(hg:w.cell? ⟨0,0,none⟩=some zV)
  (h:Calls Go.Proofs.Tryz.prog 85 #[.iface d v,.iface 102 (.pointer (some t)),.agg #[.pointer (some ⟨1,102,none⟩),.pointer (some ⟨w.heap.size,0,none⟩),.int .u64 150],GZ] ((w.alloc (.cells #[.pointer (some t)] 102)).alloc (uW 102 ⟨w.heap.size,0,none⟩)) fun ev w'=>ev=.returned (.bool r)∧w'=w2) :
  Calls Go.Proofs.Tryz.prog 31 #[.iface d v,.iface 102 (.pointer (some t))] w fun ev w'=>ev=.returned (.bool r)∧w'=w2:=by
 have hV:=@run_callFunc_extern Go.Proofs.Tryz.prog 82 _ (fun args=>ReflectliteValue.unpack (args.getD 0 (.tuple #[]))) Go.Proofs.Tryz.func82 (by kernel_rfl) (by kernel_rfl) (by kernel_rfl) (by kernel_rfl)
 have hT:=@run_callFunc_extern Go.Proofs.Tryz.prog 83 _ (ReflectliteValue.methodAny (ReflectliteValue.valueError "reflectlite.Value.Type" 0) (fun t _ _ _=>ReflectliteType.toType t)) Go.Proofs.Tryz.func83 (by kernel_rfl) (by kernel_rfl) (by kernel_rfl) (by kernel_rfl)
 have hN:=@run_callFunc_extern Go.Proofs.Tryz.prog 84 _ (ReflectliteValue.method (ReflectliteValue.valueError "reflectlite.Value.IsNil" 0) ReflectliteValue.isNil) Go.Proofs.Tryz.func84 (by kernel_rfl) (by kernel_rfl) (by kernel_rfl) (by kernel_rfl)
 have hK:=@run_callFunc_extern Go.Proofs.Tryz.prog 176 _ (ReflectliteType.abiMethod fun t=>do pure (.int .u8 (←Rtype.kind t))) Go.Proofs.Tryz.func176 (by kernel_rfl) (by kernel_rfl) (by kernel_rfl) (by kernel_rfl)
 have hE:=@run_callFunc_extern Go.Proofs.Tryz.prog 188 _ (ReflectliteType.method ReflectliteType.elem) Go.Proofs.Tryz.func188 (by kernel_rfl) (by kernel_rfl) (by kernel_rfl) (by kernel_rfl)
 have hI:=@run_callFunc_extern Go.Proofs.Tryz.prog 189 _ (ReflectliteType.relation "Implements" ReflectliteType.implements_) Go.Proofs.Tryz.func189 (by kernel_rfl) (by kernel_rfl) (by kernel_rfl) (by kernel_rfl)
 have f6:=C3
 have f7:=Gx
 have mK:=ui
 have mE:=uj
 have mI:=mz
 have kP:=Fu
 have kT:=Gy
 have eT:=Gz
 have iT:=GA
 have n8:=Fv ⟨w.heap.size,0,none⟩ t ((w.alloc (.cells #[.pointer (some t)] 102)).alloc (uW 102 ⟨w.heap.size,0,none⟩)) (by simp)
 have hlt:0<w.heap.size:=by
  rcases Nat.eq_zero_or_pos w.heap.size with h0 | h
  ·simp[World.cell?,h0] at hg
  ·exact h
 have hg2:((w.alloc (.cells #[.pointer (some t)] 102)).alloc (uW 102 ⟨w.heap.size,0,none⟩)).cell? ⟨0,0,none⟩=some zV:=by
  rw[World.cell?_alloc_lt _ _ ⟨0,0,none⟩ (by simp),World.cell?_alloc_lt _ _ ⟨0,0,none⟩ hlt];exact hg
 go_enter Go.Proofs.Tryz.func31,Go.Proofs.Tryz.ntmps31
 go_wp2_with (first | (go_at_call 85;refine h.mono ?_;rintro e w' ⟨rfl,rfl⟩))
 go_ret
 exact⟨rfl,rfl⟩
open Go.Vc (Sat)
theorem zW(b:Nat)(v:Value)(w:World)(he:w.cell? ⟨b,2,none⟩=some v):Calls Go.Proofs.Tryz.prog 181 #[.pointer (some ⟨b,0,none⟩)] w fun ev w'=>ev=.returned v∧w'=w:=by
 go_enter Go.Proofs.Tryz.func181,Go.Proofs.Tryz.ntmps181
 go_wp2
 go_ret
 exact⟨rfl,rfl⟩
set_option maxHeartbeats 4000000 in
theorem FB(b:Nat)(n:Int)(t a:Addr)(old tgt:Value)(w:World)(he:w.cell? ⟨b,2,none⟩=some (.iface 48 (.int .i64 n)))(ha:w.cell? a=some (.pointer (some t)))(ht0:w.cell? t=some old)(hf0:w.frozen? t=false) :
  Calls Go.Proofs.Tryz.prog 85 #[.iface 97 (.pointer (some ⟨b,0,none⟩)),tgt,.agg #[.pointer (some ⟨1,102,none⟩),.pointer (some a),.int .u64 150],GZ] w fun ev w'=>ev=.returned (.bool true) ∧
   w'=((w.alloc (uW 102 a)).alloc (.cells #[.int .i64 n] 48)).setCell t (.int .i64 n):=by
 have hTO:=@run_callFunc_extern Go.Proofs.Tryz.prog 61 _ ReflectliteType.typeOf Go.Proofs.Tryz.func61 (by kernel_rfl) (by kernel_rfl) (by kernel_rfl) (by kernel_rfl)
 have hA:=@run_callFunc_extern Go.Proofs.Tryz.prog 186 _ (ReflectliteType.relation "AssignableTo" ReflectliteType.assignableTo) Go.Proofs.Tryz.func186 (by kernel_rfl) (by kernel_rfl) (by kernel_rfl) (by kernel_rfl)
 have hVE:=@run_callFunc_extern Go.Proofs.Tryz.prog 111 _ (ReflectliteValue.method (ReflectliteValue.valueError "reflectlite.Value.Elem" 0) ReflectliteValue.elem) Go.Proofs.Tryz.func111 (by kernel_rfl) (by kernel_rfl) (by kernel_rfl) (by kernel_rfl)
 have hS:=@run_callFunc_extern Go.Proofs.Tryz.prog 112 _ ReflectliteValue.set Go.Proofs.Tryz.func112 (by kernel_rfl) (by kernel_rfl) (by kernel_rfl) (by kernel_rfl)
 have hV:=@run_callFunc_extern Go.Proofs.Tryz.prog 82 _ (fun args=>ReflectliteValue.unpack (args.getD 0 (.tuple #[]))) Go.Proofs.Tryz.func82 (by kernel_rfl) (by kernel_rfl) (by kernel_rfl) (by kernel_rfl)
 have tO:=wM
 have tO2:=wL
 have mA:=gz
 have aE:=uk
 have aF:=yp
 have vE:=zU
 have t1:=Ew
 have t2:=Ex
 have mU:=qt
 have hal:a.block<w.heap.size:=by
  rcases Nat.lt_or_ge a.block w.heap.size with h | h
  ·exact h
  ·simp[World.cell?,Array.getElem?_eq_none h] at ha
 have hel:b<w.heap.size:=by
  rcases Nat.lt_or_ge b w.heap.size with h | h
  ·exact h
  ·simp[World.cell?,Array.getElem?_eq_none h] at he
 have htl:t.block<w.heap.size:=by
  rcases Nat.lt_or_ge t.block w.heap.size with h | h
  ·exact h
  ·simp[World.cell?,Array.getElem?_eq_none h] at ht0
 have he1:(w.alloc (uW 102 a)).cell? ⟨b,2,none⟩=some (.iface 48 (.int .i64 n)):=by rw[World.cell?_alloc_lt _ _ _ hel];exact he
 have el:=zT a t (w.alloc (uW 102 a)) (by rw[World.cell?_alloc_lt _ _ a hal];exact ha)
 have st:=Fz t ⟨w.heap.size+1,0,none⟩ n old ((w.alloc (uW 102 a)).alloc (.cells #[.int .i64 n] 48))
  (by rw[World.cell?_alloc_at _ _ _ _ (by simp)];rfl)
  (by rw[World.cell?_alloc_lt _ _ t (by simp;omega),World.cell?_alloc_lt _ _ t htl];exact ht0)
  (by rw[World.frozen?_alloc_old _ _ t (by simp;omega),World.frozen?_alloc_old _ _ t (Nat.ne_of_lt htl)];exact hf0)
 go_enter Go.Proofs.Tryz.func85,Go.Proofs.Tryz.ntmps85
 go_wp2
 refine wp_loop_rounds 2 ?_
 rw[rounds_succ]
 go_wp2_with (first | (go_at_call 181;refine (zW b _ _ he1).mono ?_;rintro e w' ⟨rfl,rfl⟩))
 rw[rounds_succ]
 go_wp2
 go_ret
 exact⟨rfl,rfl⟩
set_option maxHeartbeats 4000000 in
theorem FC(b c:Nat)(n:Int)(t a:Addr)(old tgt:Value)(w:World)(he:w.cell? ⟨b,2,none⟩=some (.iface 97 (.pointer (some ⟨c,0,none⟩))))(hc:w.cell? ⟨c,2,none⟩=some (.iface 48 (.int .i64 n)))(ha:w.cell? a=some (.pointer (some t)))(ht0:w.cell? t=some old)(hf0:w.frozen? t=false) :
  Calls Go.Proofs.Tryz.prog 85 #[.iface 97 (.pointer (some ⟨b,0,none⟩)),tgt,.agg #[.pointer (some ⟨1,102,none⟩),.pointer (some a),.int .u64 150],GZ] w fun ev w'=>ev=.returned (.bool true) ∧
   w'=((w.alloc (uW 102 a)).alloc (.cells #[.int .i64 n] 48)).setCell t (.int .i64 n):=by
 have hTO:=@run_callFunc_extern Go.Proofs.Tryz.prog 61 _ ReflectliteType.typeOf Go.Proofs.Tryz.func61 (by kernel_rfl) (by kernel_rfl) (by kernel_rfl) (by kernel_rfl)
 have hA:=@run_callFunc_extern Go.Proofs.Tryz.prog 186 _ (ReflectliteType.relation "AssignableTo" ReflectliteType.assignableTo) Go.Proofs.Tryz.func186 (by kernel_rfl) (by kernel_rfl) (by kernel_rfl) (by kernel_rfl)
 have hVE:=@run_callFunc_extern Go.Proofs.Tryz.prog 111 _ (ReflectliteValue.method (ReflectliteValue.valueError "reflectlite.Value.Elem" 0) ReflectliteValue.elem) Go.Proofs.Tryz.func111 (by kernel_rfl) (by kernel_rfl) (by kernel_rfl) (by kernel_rfl)
 have hS:=@run_callFunc_extern Go.Proofs.Tryz.prog 112 _ ReflectliteValue.set Go.Proofs.Tryz.func112 (by kernel_rfl) (by kernel_rfl) (by kernel_rfl) (by kernel_rfl)
 have hV:=@run_callFunc_extern Go.Proofs.Tryz.prog 82 _ (fun args=>ReflectliteValue.unpack (args.getD 0 (.tuple #[]))) Go.Proofs.Tryz.func82 (by kernel_rfl) (by kernel_rfl) (by kernel_rfl) (by kernel_rfl)
 have tO:=wM
 have tO2:=wL
 have mA:=gz
 have aE:=uk
 have aF:=yp
 have vE:=zU
 have t1:=Ew
 have t2:=Ex
 have mU:=qt
 have hal:a.block<w.heap.size:=by
  rcases Nat.lt_or_ge a.block w.heap.size with h | h
  ·exact h
  ·simp[World.cell?,Array.getElem?_eq_none h] at ha
 have hel:b<w.heap.size:=by
  rcases Nat.lt_or_ge b w.heap.size with h | h
  ·exact h
  ·simp[World.cell?,Array.getElem?_eq_none h] at he
 have htl:t.block<w.heap.size:=by
  rcases Nat.lt_or_ge t.block w.heap.size with h | h
  ·exact h
  ·simp[World.cell?,Array.getElem?_eq_none h] at ht0
 have he1:(w.alloc (uW 102 a)).cell? ⟨b,2,none⟩=some (.iface 97 (.pointer (some ⟨c,0,none⟩))):=by rw[World.cell?_alloc_lt _ _ _ hel];exact he
 have hcl:c<w.heap.size:=by
  rcases Nat.lt_or_ge c w.heap.size with h | h
  ·exact h
  ·simp[World.cell?,Array.getElem?_eq_none h] at hc
 have hc1:(w.alloc (uW 102 a)).cell? ⟨c,2,none⟩=some (.iface 48 (.int .i64 n)):=by rw[World.cell?_alloc_lt _ _ _ hcl];exact hc
 have el:=zT a t (w.alloc (uW 102 a)) (by rw[World.cell?_alloc_lt _ _ a hal];exact ha)
 have st:=Fz t ⟨w.heap.size+1,0,none⟩ n old ((w.alloc (uW 102 a)).alloc (.cells #[.int .i64 n] 48))
  (by rw[World.cell?_alloc_at _ _ _ _ (by simp)];rfl)
  (by rw[World.cell?_alloc_lt _ _ t (by simp;omega),World.cell?_alloc_lt _ _ t htl];exact ht0)
  (by rw[World.frozen?_alloc_old _ _ t (by simp;omega),World.frozen?_alloc_old _ _ t (Nat.ne_of_lt htl)];exact hf0)
 go_enter Go.Proofs.Tryz.func85,Go.Proofs.Tryz.ntmps85
 go_wp2
 refine wp_loop_rounds 3 ?_
 rw[rounds_succ]
 go_wp2_with (first | (go_at_call 181;refine (zW b _ _ he1).mono ?_;rintro e w' ⟨rfl,rfl⟩))
 rw[rounds_succ]
 go_wp2_with (first | (go_at_call 181;refine (zW c _ _ hc1).mono ?_;rintro e w' ⟨rfl,rfl⟩))
 rw[rounds_succ]
 go_wp2
 go_ret
 exact⟨rfl,rfl⟩
end Go.As
namespace Go.Lx
open Go.Vc
def Gl(I:cS):Prop:=∃cs ty fz,I 0=some (.cells cs ty fz)∧cs[0]? = some Go.As.zV
theorem Gl.mono{I J:cS}(h:Gl I)(hl:cS.le I J):Gl J:=let ⟨cs,ty,fz,h1,h2⟩:=h;⟨cs,ty,fz,hl.at h1,h2⟩
theorem Gl.cell{I:cS}{F:cR}{w:World}(h:Gl I)(hw:Sat I F w):w.cell? ⟨0,0,none⟩=some Go.As.zV:=by
 obtain⟨cs,ty,fz,h1,h2⟩:=h
 have:=hw.imm _ _ h1
 unfold World.cell?
 simp[this,h2]
theorem Gl.D7{w:World}(h:w.cell? ⟨0,0,none⟩=some Go.As.zV):Gl (cS.all w):=by
 unfold World.cell? at h
 split at h
 ·rename_i c ty fz hc
  exact⟨c,ty,fz,hc,by simpa using h⟩
 ·cases h
theorem kR{I:cS}{F:cR}{w:World}{t ty:Nat}{old:Value}(hw:Sat I ((t,.cells #[old] ty (0,0))::F) w):w.cell? ⟨t,0,none⟩=some old∧w.frozen? ⟨t,0,none⟩=false:=by
 have:=hw.own _ _ (.head _)
 unfold World.cell? World.frozen?
 simp[this]
theorem BP.cell{I:cS}{F:cR}{w:World}{b ty:Nat}{fz:Nat×Nat}{x y z:Value}(h:I b=some (.cells #[x,y,z] ty fz))(hw:Sat I F w):w.cell? ⟨b,2,none⟩=some z:=by
 have:=hw.imm _ _ h
 unfold World.cell?
 simp[this]
theorem kZ{w:World}{o o':Obj}{a:Addr}{v:Value}(h:w.cell? a=some v):((w.alloc o).alloc o').cell? a=some v:=by
 have hl:a.block<w.heap.size:=by
  rcases Nat.lt_or_ge a.block w.heap.size with h1 | h1
  ·exact h1
  ·simp[World.cell?,Array.getElem?_eq_none h1] at h
 rw[World.cell?_alloc_lt _ _ _ (by simp;omega),World.cell?_alloc_lt _ _ _ hl];exact h
theorem oF{w:World}{o o':Obj}{a:Addr}{v:Value}(h:w.cell? a=some v)(hf:w.frozen? a=false):((w.alloc o).alloc o').frozen? a=false:=by
 have hl:a.block<w.heap.size:=by
  rcases Nat.lt_or_ge a.block w.heap.size with h1 | h1
  ·exact h1
  ·simp[World.cell?,Array.getElem?_eq_none h1] at h
 rw[World.frozen?_alloc_old _ _ _ (by simp;omega),World.frozen?_alloc_old _ _ _ (Nat.ne_of_lt hl)];exact hf
end Go.Lx
namespace Go.Vc
theorem Sat.iI{I:cS}{F:cR}{w:World}(h:Sat I F w)(o:Obj):Sat I F (w.alloc o):=(h.alloc o).drop (A:=[_])
theorem Sat.D8{I:cS}{F:cR}{w:World}{t ty:Nat}{old v:Value}(h:Sat I ((t,.cells #[old] ty (0,0))::F) w):Sat I ((t,.cells #[v] ty (0,0))::F) (w.setCell ⟨t,0,none⟩ v) :=
 Sat.set h (pR (cs:=[old]) (h.own _ _ (.head _)) 0 v) ⟨rfl,rfl⟩
end Go.Vc
namespace Go.Lx
open Go.Vc
def GD(r:Bool)(G:cR)(e:Ending)(I:cS)(F:cR):Prop:=e=.returned (.bool r)∧F=G
section
variable {I:cS} {F:cR} {t ty:Nat} {old:Value}
theorem D9(hg:Gl I)(b:Nat):cU P 31 #[.iface 97 (.pointer (some ⟨b,0,none⟩)),.iface 99 (.pointer (some ⟨t,0,none⟩))] I ((t,.cells #[old] ty (0,0))::F) (GD true ((t,.cells #[.pointer (some ⟨b,0,none⟩)] ty (0,0))::F)):=fun w hw=>by
 obtain⟨hc,hf⟩:=kR hw
 refine (Go.As.Hr _ _ _ w _ true (hg.cell hw) (Go.As.GB ⟨b,0,none⟩ ⟨t,0,none⟩ ⟨w.heap.size,0,none⟩ old _ _ (by simp) (kZ hc) (oF hc hf))).mono fun e w' ⟨he,hw'⟩=>⟨I,_,cS.le_refl I, ?_,he,rfl⟩
 rw[hw']
 exact Sat.D8 ((((hw.iI _).iI _).iI _).iI _)
theorem H0(hg:Gl I)(n:Int):cU P 31 #[uh n,.iface 102 (.pointer (some ⟨t,0,none⟩))] I ((t,.cells #[old] ty (0,0))::F) (GD true ((t,.cells #[.int .i64 n] ty (0,0))::F)):=fun w hw=>by
 obtain⟨hc,hf⟩:=kR hw
 refine (Go.As.FA _ _ _ w _ true (hg.cell hw) (Go.As.GC n ⟨t,0,none⟩ ⟨w.heap.size,0,none⟩ old _ _ (by simp) (kZ hc) (oF hc hf))).mono fun e w' ⟨he,hw'⟩=>⟨I,_,cS.le_refl I, ?_,he,rfl⟩
 rw[hw']
 exact Sat.D8 ((((hw.iI _).iI _).iI _).iI _)
theorem GF(hg:Gl I){call:ByteArray}{pos n:Int}{v:Value}(h:BP I call pos (uh n) v):cU P 31 #[v,.iface 102 (.pointer (some ⟨t,0,none⟩))] I ((t,.cells #[old] ty (0,0))::F) (GD true ((t,.cells #[.int .i64 n] ty (0,0))::F)):=fun w hw=>by
 obtain⟨b,rfl,hb⟩:=h
 obtain⟨hc,hf⟩:=kR hw
 refine (Go.As.FA _ _ _ w _ true (hg.cell hw) (Go.As.FB b n ⟨t,0,none⟩ ⟨w.heap.size,0,none⟩ old _ _ (kZ (BP.cell hb hw)) (by simp) (kZ hc) (oF hc hf))).mono fun e w' ⟨he,hw'⟩=>⟨I,_,cS.le_refl I, ?_,he,rfl⟩
 rw[hw']
 exact Sat.D8 ((((hw.iI _).iI _).iI _).iI _)
theorem GG(hg:Gl I){call call':ByteArray}{pos pos' n:Int}{v u:Value}(h:BP I call pos u v)(h':BP I call' pos' (uh n) u):cU P 31 #[v,.iface 102 (.pointer (some ⟨t,0,none⟩))] I ((t,.cells #[old] ty (0,0))::F) (GD true ((t,.cells #[.int .i64 n] ty (0,0))::F)):=fun w hw=>by
 obtain⟨b,rfl,hb⟩:=h
 obtain⟨c,rfl,hc'⟩:=h'
 obtain⟨hc,hf⟩:=kR hw
 refine (Go.As.FA _ _ _ w _ true (hg.cell hw) (Go.As.FC b c n ⟨t,0,none⟩ ⟨w.heap.size,0,none⟩ old _ _ (kZ (BP.cell hb hw)) (kZ (BP.cell hc' hw)) (by simp) (kZ hc) (oF hc hf))).mono fun e w' ⟨he,hw'⟩=>⟨I,_,cS.le_refl I, ?_,he,rfl⟩
 rw[hw']
 exact Sat.D8 ((((hw.iI _).iI _).iI _).iI _)
end
end Go.Lx
namespace Go.Lx
open Go.Vc
def jN(t:Tok):Int:=t.pos+t.text.size
def nv(l:List Tok)(f:Int):Nat→Int
 | 0=>f
 | i+1=>jN ((l[i]?).getD (kr 0))
theorem pJ(t:Tok)(l:List Tok)(f:Int)(i:Nat):nv (t::l) f (i+1)=nv l (jN t) i:=by cases i<;>rfl
structure Steps (s:ByteArray) (f:Int) (l:List Tok) (o:Option (Int×Int)):Prop where
 tk:∀i,i<l.length→iG s (nv l f i)=.ok ((l[i]?).getD (kr 0))
 GH:∀i,i≤l.length→0≤nv l f i∧nv l f i≤s.size
 kinds:∀i,i+1<l.length→((l[i]?).getD (kr 0)).kind≠0
 last:o=none→0<l.length∧((l[l.length-1]?).getD (kr 0)).kind=0
 bad:∀e p,o=some (e,p)→iG s (nv l f l.length)=.bad e p∧e≠0∧∀i,i<l.length→((l[i]?).getD (kr 0)).kind≠0
theorem Steps.cons{s:ByteArray}{f:Int}{t:Tok}{l:List Tok}{o:Option (Int×Int)}(h0:0≤f)(h1:f≤s.size)(ht:iG s f=.ok t)(hk:t.kind≠0)(h:Steps s (jN t) l o):Steps s f (t::l) o:=by
 refine⟨fun i hi=>?_,fun i hi=>?_,fun i hi=>?_,fun ho=>?_,fun e p ho=>?_⟩
 ·cases i with
  | zero=>exact ht
  | succ i=>rw[pJ,List.getElem?_cons_succ];exact h.tk i (by simpa using hi)
 ·cases i with
  | zero=>exact⟨h0,h1⟩
  | succ i=>rw[pJ];exact h.GH i (by simpa using hi)
 ·cases i with
  | zero=>exact hk
  | succ i=>rw[List.getElem?_cons_succ];exact h.kinds i (by simpa using hi)
 ·obtain⟨g0,g1⟩:=h.last ho
  refine⟨by simp, ?_⟩
  obtain⟨n,hn⟩:∃n,l.length=n+1:=⟨l.length-1,by omega⟩
  rw[List.length_cons,hn,Nat.add_sub_cancel,List.getElem?_cons_succ]
  rw[hn,Nat.add_sub_cancel] at g1;exact g1
 ·obtain⟨g1,g2,g3⟩:=h.bad e p ho
  refine⟨by rw[List.length_cons,pJ];exact g1,g2,fun i hi=>?_⟩
  cases i with
  | zero=>exact hk
  | succ i=>rw[List.getElem?_cons_succ];exact g3 i (by simpa using hi)
theorem rG(s:ByteArray):∀(n:Nat) (f:Int),0≤f→f≤s.size→(s.size-f+1).toNat≤n→Steps s f (jL s n f).1 (jL s n f).2
 | 0,f,h0,h1,hn=>by omega
 | n+1,f,h0,h1,hn=>by
   unfold jL
   rcases ik h0 h1 with ⟨t,ht,_⟩ | ⟨e,ht,he⟩
   ·have hx:=mo h0 h1 ht
    rw[ht]
    by_cases hk:t.kind=0
    ·simp only[hk,if_true]
     refine⟨fun i hi=>?_,fun i hi=>?_,fun i hi=>?_,fun _=>⟨by simp,hk⟩,fun e p ho=>(by cases ho)⟩
     ·have:i=0:=by simpa using hi
      subst this;exact ht
     ·have hi:i≤1:=hi
      cases i with
      | zero=>exact⟨h0,h1⟩
      | succ i =>
        have:i=0:=by omega
        subst this
        show 0≤t.pos+t.text.size∧t.pos+t.text.size≤(s.size:Int)
        omega
     ·simp at hi
    ·simp only[hk,if_false]
     have:=hx.2.2 hk
     have e0:jN t=t.pos+t.text.size:=rfl
     exact .cons h0 h1 ht hk (rG s n _ (by omega) (by omega) (by omega))
   ·rw[ht]
    refine⟨fun i hi=>(by simp at hi),fun i hi=>?_,fun i hi=>(by simp at hi),fun ho=>(by cases ho),fun e' p' ho=>?_⟩
    ·have:i=0:=by simpa using hi
     subst this;exact⟨h0,h1⟩
    ·cases ho
     exact⟨ht,by rcases he with rfl | rfl | rfl<;>decide,fun i hi=>(by simp at hi)⟩
structure PC.Of (c:PC) (t:ByteArray):Prop where
 len:(t.size:Int)≤4096
 qI:c.l.length≤5000
 st:∃o,Steps t 0 c.l o∧c.bad=(o.map Prod.fst).getD 0∧c.pos=(o.map Prod.snd).getD 0
theorem wN{t:ByteArray}(h:(t.size:Int)≤4096):(dB t).Of t:=by
 unfold dB
 rw[if_neg (by omega)]
 exact⟨h,by have:=uf t (t.size-0+1:Int).toNat 0;show (lT t 0).1.length≤5000;unfold lT;omega,_,rG t _ 0 (by decide) (by omega) (Nat.le_refl _),rfl,rfl⟩
def PC.Live(c:PC)(s:PS):Prop:=s.over=false∧s.next<c.l.length
def PC.Ht(c:PC):PF:=⟨c.bad,c.pos,true⟩
section
variable {c:PC} {t:ByteArray} {s:PS}
theorem PC.Of.tk(h:c.Of t){i:Nat}(hi:i<c.l.length):iG t (nv c.l 0 i)=.ok (c.tok i):=let ⟨_,h,_⟩:=h.st;h.tk i hi
theorem PC.Of.GH(h:c.Of t){i:Nat}(hi:i≤c.l.length):0≤nv c.l 0 i∧nv c.l 0 i≤t.size:=let ⟨_,h,_⟩:=h.st;h.GH i hi
theorem PC.Of.next(h:c.Of t){i:Nat}(hi:i<c.l.length)(hk:(c.tok i).kind≠0):i+1<c.l.length∨(i+1=c.l.length∧c.bad≠0∧iG t (nv c.l 0 (i+1))=.bad c.bad c.pos):=by
 obtain⟨o,h,hb,hp⟩:=h.st
 by_cases hl:i+1<c.l.length
 ·exact .inl hl
 ·have hl:i+1=c.l.length:=by omega
  right
  cases o with
  | none =>
    have:=(h.last rfl).2
    rw[←hl,Nat.add_sub_cancel] at this
    exact absurd this hk
  | some ep =>
    obtain⟨g1,g2,_⟩:=h.bad ep.1 ep.2 rfl
    rw[hb,hp,hl];exact⟨rfl,g2,g1⟩
theorem PC.Of.none(h:c.Of t)(hl:c.l.length=0):c.bad≠0∧iG t 0=.bad c.bad c.pos:=by
 obtain⟨o,h,hb,hp⟩:=h.st
 cases o with
 | none=>have:=(h.last rfl).1;omega
 | some ep =>
   obtain⟨g1,g2,_⟩:=h.bad ep.1 ep.2 rfl
   rw[hl] at g1
   rw[hb,hp];exact⟨g2,g1⟩
theorem PC.Live.now(h:c.Live s):c.now s=c.tok s.next:=by
 unfold PC.now;rw[h.1,if_neg];have:=h.2;simp;omega
theorem PC.Live.inc(h:c.Of t)(hl:c.Live s)(hk:(c.tok s.next).kind≠0):c.Live s.inc∨(s.next+1=c.l.length∧c.dP c.Ht s.inc):=by
 rcases h.next hl.2 hk with h1 | ⟨h1,h2,_⟩
 ·exact .inl ⟨hl.1,h1⟩
 ·refine .inr ⟨h1, ?_,fun _=>h2⟩
  have h1:c.l.length≤s.inc.next:=by show _≤s.next+1;omega
  have ho:s.inc.over=false:=hl.1
  unfold PC.fin;rw[ho,if_neg (by simp),if_pos h1];rfl
theorem PC.Live.da(hl:c.Live s){e:Int}(he:e≠0):c.da e s=⟨s.next,⟨e,(c.tok s.next).pos,false⟩⟩∧c.dP ⟨e,(c.tok s.next).pos,false⟩ (c.da e s):=by
 have h1:c.da e s=⟨s.next,⟨e,(c.tok s.next).pos,false⟩⟩:=by
  unfold PC.da;rw[hl.1,if_neg (by simp),if_neg (by have:=hl.2;omega)]
 refine⟨h1, ?_⟩
 have ho:PS.over ⟨s.next,⟨e,(c.tok s.next).pos,false⟩⟩=true:=by simpa[PS.over] using he
 rw[h1]
 exact⟨by unfold PC.fin;rw[if_pos ho],fun h=>by rw[ho] at h;cases h⟩
end
def GI(t:ByteArray)(k:Tok)(f:Int):List Value:=[.string t,.int .u8 k.kind,.string k.text,.int .u8 k.dU,.int .i64 k.n,.int .i64 k.pos,.int .i64 f]
def Ea(t:ByteArray)(k:Tok)(f:Int):Obj:=.cells (GI t k f).toArray 143 (0,0)
def pX(t:ByteArray)(b:Nat)(k:Tok)(f:Int):Nat×Obj:=(b,Ea t k f)
def PC.px(c:PC)(t:ByteArray)(b:Nat)(s:PS):Nat×Obj:=pX t b (c.tok s.next) (jN (c.tok s.next))
def Hu(b:Nat):List PanicEntry:=[{ v:=.iface 97 (.pointer (some ⟨b,0,none⟩)),recovered:=false }]
def Ey(f:PF)(u:Value)(B:cR):Prop:=match f.tok with
 | true=>∃b,u=.iface 97 (.pointer (some ⟨b,0,none⟩))∧B=[(b,.cells #[.string (⟨#[84,111,107,101,110,115]⟩:ByteArray),.int .i64 f.pos,uh f.e] 101 (0,0))]
 | false=>u=uh f.e∧B=[]
def di(f:PF)(F0:cR)(e:Ending)(G:cR):Prop:=∃(b:Nat) (u:Value) (B X:cR),e=.panicked (Hu b)∧Ey f u B∧G.Perm ((b,.cells #[.string ⟨#[]⟩,.int .i64 f.pos,u] 101 (0,0))::(B++(X++F0)))
theorem di.perm{f:PF}{F0 F1 G H:cR}{e:Ending}(h:di f F0 e G)(p:F0.Perm F1)(q:H.Perm G):di f F1 e H :=
 let ⟨b,u,B,X,he,hu,hG⟩:=h;⟨b,u,B,X,he,hu,q.trans (hG.trans (((p.append_left X).append_left B).cons _))⟩
theorem di.more{f:PF}{A F0 G:cR}{e:Ending}(h:di f (A++F0) e G):di f F0 e G :=
 let ⟨b,u,B,X,he,hu,hG⟩:=h;⟨b,u,B,X++A,he,hu,by rw[List.append_assoc];exact hG⟩
theorem di.Ez{f:PF}{x:Nat×Obj}{F0 G:cR}{e:Ending}(h:di f F0 e G):di f F0 e (x::G) :=
 let ⟨b,u,B,X,he,hu,hG⟩:=h;⟨b,u,B,x::X,he,hu,(hG.cons x).trans (cV fun z=>by simp only[cX,cW,c7];omega)⟩
theorem di.pass{f:PF}{F0 G:cR}{e:Ending}{I:cS}{Q:Ending→cS→cR→Prop}(h:di f F0 e G)(k:∀e',di f F0 e' G→Q e' I G):∃ch,e=.panicked ch∧∃F2:cR,List.Perm G F2∧Q (.panicked ch) I F2 :=
 let ⟨b,u,B,X,he,hu,hG⟩:=h;⟨_,he,G,.refl _,k _ ⟨b,u,B,X,rfl,hu,hG⟩⟩
theorem di.dC{f:PF}{F0 G:cR}{e:Ending}{I:cS}{Q:Ending→cS→cR→Prop}(L:cR)(h:di f (L++F0) e G)(k:∀e' G',di f F0 e' G'→Q e' I G'):∃ch,e=.panicked ch∧∃F2:cR,List.Perm G (L++F2)∧Q (.panicked ch) I F2:=by
 obtain⟨b,u,B,X,he,hu,hG⟩:=h
 exact⟨_,he,_,hG.trans (cV fun z=>by simp only[cX,cW,c7];omega),k _ _ ⟨b,u,B,X,rfl,hu,.refl _⟩⟩
def de(c:PC)(t:ByteArray)(b:Nat){α:Type}(val:α→Value→cR→Prop)(F0:cR)(r:α×PS)(e:Ending)(I:cS)(G:cR):Prop :=
 (c.Live r.2∧∃v H,e=.returned v∧val r.1 v H∧G.Perm (c.px t b r.2::(H++F0)))∨∃f,c.dP f r.2∧di f F0 e G
section
variable {c:PC} {t:ByteArray} {b:Nat} {α:Type} {val:α→Value→cR→Prop} {F0:cR} {r:α×PS}
theorem de.use{g:Nat}{args:Array Value}{I:cS}{F:cR}{Q:Ending→cS→cR→Prop}(h:cU P g args I F (de c t b val F0 r))
  (k1:∀v H I' G,cS.le I I'→c.Live r.2→val r.1 v H→G.Perm (c.px t b r.2::(H++F0))→Q (.returned v) I' G) (k2:∀f e I' G,cS.le I I'→c.dP f r.2→di f F0 e G→Q e I' G):cU P g args I F Q :=
 h.mono fun e I' G hl hd=>by
  rcases hd with ⟨h1,v,H,rfl,hv,hG⟩ | ⟨f,hd,hf⟩
  ·exact k1 v H I' G hl h1 hv hG
  ·exact k2 f e I' G hl hd hf
end
def Hv(x:Unit)(v:Value)(H:cR):Prop:=v=.tuple #[]∧H=[]
def Hw(x:Int)(v:Value)(H:cR):Prop:=v=.int .i64 x∧H=[]
def Hy(x:ByteArray)(v:Value)(H:cR):Prop:=v=.string x∧H=[]
def qu(x:Px)(v:Value)(H:cR):Prop:=∃t:Nd,v=t.v∧t.px=x∧eo 64 false t H
end Go.Lx
namespace Go.Lx
open Go.Vc Go.Proofs.Tryz
def k8:List (Nat×List Sh):=[(0,[]),(2,[.one (.int .i64)]),(3,[.one (.int .i64)]),(9,[.one .str]),(60,[.one (.int .u8)]),(74,[.one (.int .u8)]),(81,[.one .slc,.one (.int .i64),.one (.int .i64)]),(206,[.agg [(.int .u8),.str,(.int .u8),(.int .i64),(.int .i64)],.one (.int .i64),.one (.int .i64)])]
def kD.V(b:OA)(a c:Nat)(v:Bs)(I:cS)(F:cR)(Q:cT)(Inv6:Int→Int→Nat→cS→cR→Prop):Prop:=(∃m:Nat,Inv6 0 0 m I F)∧∀(x x1:Int) (m1:Nat) (I1:cS) (F1:cR),cS.le I I1→Inv6 x x1 m1 I1 F1→(Dt (x1<(a:Int)) ((0≤x1∧x1<(a:Int))∧∃ad:Addr,b=some ad∧∃(m2:Bs),Rd I1 F1 (ad.add (Int.toNat x1*1)) [.string m2]∧(It (v.toList==m2.toList) (Q (.returned (.int .i64 x1)) I1 F1) (∃m3:Nat,m3<m1∧Inv6 x (IntKind.wrap .i64 (x1+1)) m3 I1 F1))) (Q (.returned (.int .i64 (-1))) I1 F1))
theorem kD.vc{a:OA}{b c:Nat}{v:Bs}{I:cS}{F:cR}{Q:cT}(Inv6:Int→Int→Nat→cS→cR→Prop)(h:kD.V a b c v I F Q Inv6):cU P 125 #[.slice a b c,.string v] I F Q :=
 tw (A:=(dy [2000,4005] [] [] k8 [(6,⟨[(4,(.int .i64)),(8,(.int .i64))],[],fun _ _ _ vs m I F=>match vs with | [.int _ y0,.int _ y1]=>Inv6 y0 y1 m I F | _=>False,[],[]⟩)] [] [] [] [] [] [])) [] func125 h
def kE.V(s:Bs)(a:Int)(I:cS)(F:cR)(Q:cT)  : Prop:=((0≤a∧a≤(s.size:Int)∧(s.size:Int)≤(s.size:Int))∧eg P 124 (#[.string (s.extract (Int.toNat a) (Int.toNat ((s.size:Int))))]) I (·) F fun e1 I1 G1=>∃(b:OA) (c d:Nat) (r1 r2:Int),e1=.returned (.tuple #[.slice b c d,.int .i64 r1,.int .i64 r2])∧G1 fun F1=>Q (.returned (.int .i64 (IntKind.wrap .i64 (a+r2)))) I1 F1)
theorem kE.vc{s:Bs}{a:Int}{I:cS}{F:cR}{Q:cT}  (h:kE.V s a I F Q):cU P 103 #[.string s,.int .i64 a] I F Q :=
 tw (A:=(an [] [124] k8)) [124] func103 h
def lM.V(vb:Int→Value)(vs:Bs→Value)(vl:OA→Nat→Nat→Value)(a:Int)(I:cS)(F:cR)(Q:cT)  : Prop:=(It (a==2) (∀(b:Nat) (I1:cS),cS.le I I1→I1 b=some (Obj.cells #[vs (⟨#[124,124]⟩:Bs)] 9 (0,0))→Q (.returned (.tuple #[vl (some ⟨b,0,none⟩) 1 1,vb 18])) I1 F) (It (a==3) (∀(b1:Nat) (I2:cS),cS.le I I2→I2 b1=some (Obj.cells #[vs (⟨#[38,38]⟩:Bs)] 9 (0,0))→Q (.returned (.tuple #[vl (some ⟨b1,0,none⟩) 1 1,vb 17])) I2 F) (It (a==4) (∀(b2:Nat) (I3:cS),cS.le I I3→I3 b2=some (Obj.cells #[vs (⟨#[61,61]⟩:Bs),vs (⟨#[33,61]⟩:Bs),vs (⟨#[60]⟩:Bs),vs (⟨#[60,61]⟩:Bs),vs (⟨#[62]⟩:Bs),vs (⟨#[62,61]⟩:Bs)] 9 (0,0))→Q (.returned (.tuple #[vl (some ⟨b2,0,none⟩) 6 6,vb 11])) I3 F) (It (a==5) (∀(b3:Nat) (I4:cS),cS.le I I4→I4 b3=some (Obj.cells #[vs (⟨#[43]⟩:Bs),vs (⟨#[45]⟩:Bs)] 9 (0,0))→Q (.returned (.tuple #[vl (some ⟨b3,0,none⟩) 2 2,vb 6])) I4 F) (∀(b4:Nat) (I5:cS),cS.le I I5→I5 b4=some (Obj.cells #[vs (⟨#[42]⟩:Bs),vs (⟨#[47]⟩:Bs),vs (⟨#[37]⟩:Bs)] 9 (0,0))→Q (.returned (.tuple #[vl (some ⟨b4,0,none⟩) 3 3,vb 8])) I5 F)))))
theorem lM.vc{a:Int}{I:cS}{F:cR}{Q:cT}  (h:lM.V (.int .u8) .string .slice a I F Q):cU P 115 #[.int .i64 a] I F Q :=
 tw (A:=(dy [2000,4000,6000,8000] [] [] k8 [] [3000,5000,7000,9000,10000] [] [] [] [] [])) [] func115 h
def gA.V(p:Addr)(e1:Int)(I:cS)(F:cR)(Q:cT)  : Prop:=∃ad:Addr,some p=some ad∧∃(m:Int),Rd I F ((ad.add 1).add 4) [.int .i64 m]∧∀b:Nat,Q (.panicked ([{ v:=Value.iface 97 (.pointer (some (⟨b,0,none⟩:Addr))),recovered:=false }])) I (((b,Obj.cells #[.string (⟨#[]⟩:Bs),.int .i64 m,Value.iface 48 (.int .i64 e1)] 101 (0,0))::F))
theorem gA.vc{p:Addr}{e1:Int}{I:cS}{F:cR}{Q:cT}  (h:gA.V p e1 I F Q):cU P 65 #[.pointer (some p),.int .i64 e1] I F Q :=
 tw (A:=(dy [] [] [] k8 [] [] [8] [] [] [] [])) [] func65 h
def eR.V(ka:Nat→Int→Bs→Int→Int→Int→Nat×Obj)(kb:Nat→Bs→Int→Value→Nat×Obj)(vb vi:Int→Value)(vs:Bs→Value)(vp:OA→Value)(p:Addr)(I:cS)(F:cR)(Q:cT)  : Prop:=∃ad:Addr,some p=some ad∧∃ae:Addr,some p=some ae∧∃(m:Bs),Rd I F (ad.add 0) [vs m]∧∃(m1:Int),Rd I F (ae.add 6) [vi m1]∧(eg P 102 #[vs m,vi m1] I (·) F fun e1 I1 G1=>∃(g:Int) (h:Bs) (i j k r1 r2:Int),e1=.returned (.tuple #[.agg #[vb g,vs h,vb i,vi j,vi k],vi r1,vi r2])∧G1 fun F1=>∀u:Nat,(It (r2 != 0) (It (r2 != 110) (∃af:Addr,some p=some af∧∃ag:Addr,some p=some ag∧∃(m2:Bs),Rd I1 ((ka u g h i j k)::F1) (af.add 0) [vs m2]∧∃(m3:Int),Rd I1 ((ka u g h i j k)::F1) (ag.add 6) [vi m3]∧dt P 103 #[vs m2,vi m3] I1 ((ka u g h i j k)::·) F1 vi fun r I2 F2=>∀b:Nat,∀b1:Nat,Q (.panicked ([{ v:=Value.iface 97 (vp (some (⟨b1,0,none⟩:Addr))),recovered:=false }])) I2 (((kb b1 (⟨#[]⟩:Bs) r (Value.iface 97 (vp (some (⟨b,0,none⟩:Addr)))))::((kb b (⟨#[84,111,107,101,110,115]⟩:Bs) r (Value.iface 48 (vi r2)))::F2)))) (∀b2:Nat,∀b3:Nat,Q (.panicked ([{ v:=Value.iface 97 (vp (some (⟨b3,0,none⟩:Addr))),recovered:=false }])) I1 (((kb b3 (⟨#[]⟩:Bs) 0 (Value.iface 97 (vp (some (⟨b2,0,none⟩:Addr)))))::((kb b2 (⟨#[84,111,107,101,110,115]⟩:Bs) 0 (Value.iface 48 (vi r2)))::F1))))) (∃o:Addr,some p=some o∧∃(cs:List Value) (el:Nat) (F3:cR),List.Perm F1 (((o.add 1).block,Obj.cells cs.toArray el (0,0))::F3)∧(o.add 1).spot=none∧(o.add 1).off+5≤cs.length∧∃q:Addr,some p=some q∧∃(w:List Value) (z:Nat) (F4:cR),List.Perm (((o.add 1).block,Obj.cells (cY (o.add 1).off [vb g,vs h,vb i,vi j,vi k] cs).toArray el (0,0))::F3) (((q.add 6).block,Obj.cells w.toArray z (0,0))::F4)∧(q.add 6).spot=none∧(q.add 6).off+1≤w.length∧Q (.returned (.tuple #[])) I1 ((((q.add 6).block,Obj.cells (cY (q.add 6).off [vi r1] w).toArray z (0,0))::F4)))))∧(∀l:Nat,eg P 102 #[vs m,vi m1] I ((ka l 0 (⟨#[]⟩:Bs) 0 0 0)::·) F fun e3 I3 G3=>∃(a:Int) (c:Bs) (d e f aa n:Int),e3=.returned (.tuple #[.agg #[vb a,vs c,vb d,vi e,vi f],vi aa,vi n])∧G3 fun F5=>(It (n != 0) (It (n != 110) (∃ah:Addr,some p=some ah∧∃ai:Addr,some p=some ai∧∃(m4:Bs),Rd I3 ((ka l a c d e f)::F5) (ah.add 0) [vs m4]∧∃(m5:Int),Rd I3 ((ka l a c d e f)::F5) (ai.add 6) [vi m5]∧dt P 103 #[vs m4,vi m5] I3 ((ka l a c d e f)::·) F5 vi fun r3 I4 F6=>∀b4:Nat,∀b5:Nat,Q (.panicked ([{ v:=Value.iface 97 (vp (some (⟨b5,0,none⟩:Addr))),recovered:=false }])) I4 (((kb b5 (⟨#[]⟩:Bs) r3 (Value.iface 97 (vp (some (⟨b4,0,none⟩:Addr)))))::((kb b4 (⟨#[84,111,107,101,110,115]⟩:Bs) r3 (Value.iface 48 (vi n)))::F6)))) (∀b6:Nat,∀b7:Nat,Q (.panicked ([{ v:=Value.iface 97 (vp (some (⟨b7,0,none⟩:Addr))),recovered:=false }])) I3 (((kb b7 (⟨#[]⟩:Bs) 0 (Value.iface 97 (vp (some (⟨b6,0,none⟩:Addr)))))::((kb b6 (⟨#[84,111,107,101,110,115]⟩:Bs) 0 (Value.iface 48 (vi n)))::F5))))) (∃s:Addr,some p=some s∧∃(x:List Value) (ab:Nat) (F7:cR),List.Perm F5 (((s.add 1).block,Obj.cells x.toArray ab (0,0))::F7)∧(s.add 1).spot=none∧(s.add 1).off+5≤x.length∧∃t:Addr,some p=some t∧∃(y:List Value) (ac:Nat) (F8:cR),List.Perm (((s.add 1).block,Obj.cells (cY (s.add 1).off [vb a,vs c,vb d,vi e,vi f] x).toArray ab (0,0))::F7) (((t.add 6).block,Obj.cells y.toArray ac (0,0))::F8)∧(t.add 6).spot=none∧(t.add 6).off+1≤y.length∧Q (.returned (.tuple #[])) I3 ((((t.add 6).block,Obj.cells (cY (t.add 6).off [vi aa] y).toArray ac (0,0))::F8)))))
theorem eR.vc{p:Addr}{I:cS}{F:cR}{Q:cT}  (h:eR.V (fun W a b c d e=>(W,Obj.cells #[.int .u8 a,.string b,.int .u8 c,.int .i64 d,.int .i64 e] 76 (0,0))) (fun W a b c=>(W,Obj.cells #[.string a,.int .i64 b,c] 101 (0,0))) (.int .u8) (.int .i64) .string .pointer p I F Q):cU P 64 #[.pointer (some p)] I F Q :=
 tw (A:=(dy [1001,3001] [] [102,103] k8 [] [] [5005,5008] [] [] [(0,[0,1,2,4,5,6,3,7]),(4,[0,1,2,4,5,6,3,7,8,9])] [] [(0,8,13,[9,10,11,12,13,14,15,16],[8,9,10,11,12,14,15,16])])) [102,103] func64 h
def iZ.V(p:Addr)(s:Bs)(I:cS)(F:cR)(Q:cT)  : Prop:=∃ad:Addr,some p=some ad∧∃(m:Int),Rd I F ((ad.add 1).add 0) [.int .u8 m]∧(It (m==1) (∃a:Addr,some p=some a∧∃(m1:Bs),Rd I F ((a.add 1).add 1) [.string m1]∧Q (.returned (.bool (m1.toList==s.toList))) I F) (∃b:Addr,some p=some b∧∃(m2:Int),Rd I F ((b.add 1).add 0) [.int .u8 m2]∧(It (m2==4) (∃c:Addr,some p=some c∧∃(m3:Bs),Rd I F ((c.add 1).add 1) [.string m3]∧Q (.returned (.bool (m3.toList==s.toList))) I F) (Q (.returned (.bool false)) I F))))
theorem iZ.vc{p:Addr}{s:Bs}{I:cS}{F:cR}{Q:cT}  (h:iZ.V p s I F Q):cU P 91 #[.pointer (some p),.string s] I F Q :=
 tw (A:=(an [1005,1012] [] k8)) [] func91 h
def gB.V(vi:Int→Value)(vs:Bs→Value)(p:Addr)(a:OA)(b c:Nat)(I:cS)(F:cR)(Q:cT)  : Prop:=∃ad:Addr,some p=some ad∧∃(m:Int),Rd I F ((ad.add 1).add 0) [.int .u8 m]∧(It (m != 1) (∃d:Addr,some p=some d∧∃(m1:Int),Rd I F ((d.add 1).add 0) [.int .u8 m1]∧(It (m1 != 4) (Q (.returned (vi (-1))) I F) (∃e:Addr,some p=some e∧∃(m2:Bs),Rd I F ((e.add 1).add 1) [vs m2]∧dt P 125 #[.slice a b c,vs m2] I (·) F vi fun r I1 F1=>Q (.returned (vi r)) I1 F1))) (∃f:Addr,some p=some f∧∃(m3:Bs),Rd I F ((f.add 1).add 1) [vs m3]∧dt P 125 #[.slice a b c,vs m3] I (·) F vi fun r1 I2 F2=>Q (.returned (vi r1)) I2 F2))
theorem gB.vc{p:Addr}{a:OA}{b c:Nat}{I:cS}{F:cR}{Q:cT}  (h:gB.V (.int .i64) .string p a b c I F Q):cU P 104 #[.pointer (some p),.slice a b c] I F Q :=
 tw (A:=(an [1005,1012] [125] k8)) [125] func104 h
def iC.V(vi:Int→Value)(vp:OA→Value)(p:Addr)(c:OA)(d e:Nat)(I:cS)(F:cR)(Q:cT)  : Prop:=dt P 104 (#[vp (some p),.slice c d e]) I (·) F vi fun r I1 F1=>(Dt (r<0) (cU P 65 (#[vp (some p),vi 130]) I1 F1 fun e2 I2 G2=>((e2=.returned (.tuple #[])∧∃F2:cR,List.Perm G2 F2∧cU P 64 (#[vp (some p)]) I2 F2 fun e3 I3 G3=>((e3=.returned (.tuple #[])∧∃F3:cR,List.Perm G3 F3∧Q (.returned (vi r)) I3 F3)∨(∃ch:List PanicEntry,e3=.panicked ch∧∃F4:cR,List.Perm G3 F4∧Q (.panicked ch) I3 F4)))∨(∃a:List PanicEntry,e2=.panicked a∧∃F5:cR,List.Perm G2 F5∧Q (.panicked a) I2 F5))) (cU P 64 (#[vp (some p)]) I1 F1 fun e4 I4 G4=>((e4=.returned (.tuple #[])∧∃F6:cR,List.Perm G4 F6∧Q (.returned (vi r)) I4 F6)∨(∃b:List PanicEntry,e4=.panicked b∧∃F7:cR,List.Perm G4 F7∧Q (.panicked b) I4 F7))))
theorem iC.vc{p:Addr}{a:OA}{b c:Nat}{I:cS}{F:cR}{Q:cT}  (h:iC.V (.int .i64) .pointer p a b c I F Q):cU P 66 #[.pointer (some p),.slice a b c] I F Q :=
 tw (A:=(dy [2001] [64,65] [64,65,104] k8 [] [] [] [] [] [] [])) [64,65,104] func66 h
def g8.V(p:Addr)(I:cS)(F:cR)(Q:cT)  : Prop:=∃ad:Addr,some p=some ad∧∃(m:Bs),Rd I F ((ad.add 1).add 1) [.string m]∧∃a:Addr,some p=some a∧∃(m1:Int),Rd I F ((a.add 1).add 0) [.int .u8 m1]∧(It (m1 != 2) (cU P 65 (#[.pointer (some p),.int .i64 130]) I F fun e1 I1 G1=>((e1=.returned (.tuple #[])∧∃F1:cR,List.Perm G1 F1∧cU P 64 (#[.pointer (some p)]) I1 F1 fun e2 I2 G2=>((e2=.returned (.tuple #[])∧∃F2:cR,List.Perm G2 F2∧Q (.returned (.string m)) I2 F2)∨(∃ch:List PanicEntry,e2=.panicked ch∧∃F3:cR,List.Perm G2 F3∧Q (.panicked ch) I2 F3)))∨(∃b:List PanicEntry,e1=.panicked b∧∃F4:cR,List.Perm G1 F4∧Q (.panicked b) I1 F4))) (cU P 64 (#[.pointer (some p)]) I F fun e3 I3 G3=>((e3=.returned (.tuple #[])∧∃F5:cR,List.Perm G3 F5∧Q (.returned (.string m)) I3 F5)∨(∃c:List PanicEntry,e3=.panicked c∧∃F6:cR,List.Perm G3 F6∧Q (.panicked c) I3 F6))))
theorem g8.vc{p:Addr}{I:cS}{F:cR}{Q:cT}  (h:g8.V p I F Q):cU P 67 #[.pointer (some p)] I F Q :=
 tw (A:=(dy [2005] [64,65] [64,65] k8 [] [] [] [] [] [] [])) [64,65] func67 h
def fO.V(p:Addr)(d:Int)(I:cS)(F:cR)(Q:cT)  : Prop:=(It (d==24) (cU P 65 (#[.pointer (some p),.int .i64 132]) I F fun e1 I1 G1=>((e1=.returned (.tuple #[])∧∃F1:cR,List.Perm G1 F1∧Q (.returned (.int .i64 (IntKind.wrap .i64 (d+1)))) I1 F1)∨(∃ch:List PanicEntry,e1=.panicked ch∧∃F2:cR,List.Perm G1 F2∧Q (.panicked ch) I1 F2))) (Q (.returned (.int .i64 (IntKind.wrap .i64 (d+1)))) I F))
theorem fO.vc{p:Addr}{d:Int}{I:cS}{F:cR}{Q:cT}  (h:fO.V p d I F Q):cU P 92 #[.pointer (some p),.int .i64 d] I F Q :=
 tw (A:=(dy [1001] [65] [65] k8 [] [] [] [] [] [] [])) [65] func92 h
def fH.V(nV:Int→Int→Int→Int→Int→Bs→OA→Nat→Nat→Int→Value)(nO:Int→Int→Int→Int→Int→Bs→OA→Nat→Nat→Int→Obj)(vs:Bs→Value)(vt:Bool→Value)(vp:OA→Value)(wr:Int→Int)(p:Addr)(I:cS)(F:cR)(Q:cT)  : Prop:=∀b:Nat,∃ad:Addr,some p=some ad∧∃(m:Int),Rd I ((b,nO 0 0 0 0 0 (⟨#[]⟩:Bs) none 0 0 0)::F) ((ad.add 1).add 4) [.int .i64 m]∧∀a:Nat,∃c:Addr,some p=some c∧∃(m1:Int),Rd I ((b,nO 0 0 0 0 0 (⟨#[]⟩:Bs) none 0 0 0)::(a,nO 1 0 0 0 0 (⟨#[]⟩:Bs) none 0 0 m)::F) ((c.add 1).add 0) [.int .u8 m1]∧(It (m1==3) (∃d:Addr,some p=some d∧∃(m2:Int),Rd I ((b,nO 0 0 0 0 0 (⟨#[]⟩:Bs) none 0 0 0)::(a,nO 1 0 0 0 0 (⟨#[]⟩:Bs) none 0 0 m)::F) ((d.add 1).add 2) [.int .u8 m2]∧∃e:Addr,some p=some e∧∃(m3:Int),Rd I F ((e.add 1).add 3) [.int .i64 m3]∧cU P 64 (#[vp (some p)]) I ((b,nO 0 0 0 0 0 (⟨#[]⟩:Bs) none 0 0 0)::(a,nO 1 0 m2 m3 0 (⟨#[]⟩:Bs) none 0 0 m)::F) fun e1 I1 G1=>((e1=.returned (.tuple #[])∧∃F1:cR,List.Perm G1 ((b,nO 0 0 0 0 0 (⟨#[]⟩:Bs) none 0 0 0)::(a,nO 1 0 m2 m3 0 (⟨#[]⟩:Bs) none 0 0 m)::F1)∧Q (.returned (.tuple #[nV 1 0 m2 m3 0 (⟨#[]⟩:Bs) none 0 0 m,vt true])) I1 F1)∨(∃ch:List PanicEntry,e1=.panicked ch∧∃F2:cR,List.Perm G1 ((b,nO 0 0 0 0 0 (⟨#[]⟩:Bs) none 0 0 0)::(a,nO 1 0 m2 m3 0 (⟨#[]⟩:Bs) none 0 0 m)::F2)∧Q (.panicked ch) I1 F2))) (∀(b1:Nat) (I2:cS),cS.le I I2→I2 b1=some (Obj.cells #[vs (⟨#[102,97,108,115,101]⟩:Bs),vs (⟨#[116,114,117,101]⟩:Bs),vs (⟨#[98,117,121]⟩:Bs),vs (⟨#[115,101,108,108]⟩:Bs)] 9 (0,0))→dt P 104 (#[vp (some p),.slice (some ⟨b1,0,none⟩) 4 4]) I2 ((b,nO 0 0 0 0 0 (⟨#[]⟩:Bs) none 0 0 0)::(a,nO 1 0 0 0 0 (⟨#[]⟩:Bs) none 0 0 m)::·) F (.int .i64) fun r I3 F3=>(Dt (r<0) (Q (.returned (.tuple #[nV 0 0 0 0 0 (⟨#[]⟩:Bs) none 0 0 0,vt false])) I3 F3) (Dt (r>1) (cU P 64 (#[vp (some p)]) I3 ((b,nO 0 0 0 0 0 (⟨#[]⟩:Bs) none 0 0 0)::(a,nO 1 0 6 (wr (r-1)) 0 (⟨#[]⟩:Bs) none 0 0 m)::F3) fun e3 I4 G3=>((e3=.returned (.tuple #[])∧∃F4:cR,List.Perm G3 ((b,nO 0 0 0 0 0 (⟨#[]⟩:Bs) none 0 0 0)::(a,nO 1 0 6 (wr (r-1)) 0 (⟨#[]⟩:Bs) none 0 0 m)::F4)∧Q (.returned (.tuple #[nV 1 0 6 (wr (r-1)) 0 (⟨#[]⟩:Bs) none 0 0 m,vt true])) I4 F4)∨(∃f:List PanicEntry,e3=.panicked f∧∃F5:cR,List.Perm G3 ((b,nO 0 0 0 0 0 (⟨#[]⟩:Bs) none 0 0 0)::(a,nO 1 0 6 (wr (r-1)) 0 (⟨#[]⟩:Bs) none 0 0 m)::F5)∧Q (.panicked f) I4 F5))) (cU P 64 (#[vp (some p)]) I3 ((b,nO 0 0 0 0 0 (⟨#[]⟩:Bs) none 0 0 0)::(a,nO 1 0 5 r 0 (⟨#[]⟩:Bs) none 0 0 m)::F3) fun e4 I5 G4=>((e4=.returned (.tuple #[])∧∃F6:cR,List.Perm G4 ((b,nO 0 0 0 0 0 (⟨#[]⟩:Bs) none 0 0 0)::(a,nO 1 0 5 r 0 (⟨#[]⟩:Bs) none 0 0 m)::F6)∧Q (.returned (.tuple #[nV 1 0 5 r 0 (⟨#[]⟩:Bs) none 0 0 m,vt true])) I5 F6)∨(∃g:List PanicEntry,e4=.panicked g∧∃F7:cR,List.Perm G4 ((b,nO 0 0 0 0 0 (⟨#[]⟩:Bs) none 0 0 0)::(a,nO 1 0 5 r 0 (⟨#[]⟩:Bs) none 0 0 m)::F7)∧Q (.panicked g) I5 F7)))))))
theorem fH.vc{p:Addr}{I:cS}{F:cR}{Q:cT}  (h:fH.V (fun k o t n f s a l c q=>.agg #[.int .u8 k,.int .u8 o,.int .u8 t,.int .i64 n,.int .u8 f,.string s,.slice a l c,.int .i64 q]) (fun k o t n f s a l c q=>.cells #[.int .u8 k,.int .u8 o,.int .u8 t,.int .i64 n,.int .u8 f,.string s,.slice a l c,.int .i64 q] 64 (0,0)) .string .bool .pointer (IntKind.wrap .i64) p I F Q):cU P 105 #[.pointer (some p)] I F Q :=
 tw (A:=(dy [2005,5001,8001] [64] [64,104] k8 [] [4001] [] [(3,11,[1])] [] [] [(3,12)])) [64,104] func105 h
end Go.Lx
namespace Go.Lx
open Go.Vc
def dY(I:cS)(G:cR)(t:ByteArray)(b:Nat)(k:Tok)(f:Int):Prop:=I b=some (Ea t k f)∨(b,Ea t k f)∈G
theorem dY.rd{I:cS}{G:cR}{t:ByteArray}{b:Nat}{k:Tok}{f:Int}(h:dY I G t b k f):Rd I G (⟨b,0,none⟩:Addr) (GI t k f):=⟨rfl,_,_,_,h,fun j hj=>by simp⟩
theorem dY.mono{I J:cS}{G H:cR}{t:ByteArray}{b:Nat}{k:Tok}{f:Int}(h:dY I G t b k f)(hl:cS.le I J)(hs:∀x,x∈G→x∈H):dY J H t b k f:=h.imp (fun h=>hl.at h) (hs _)
theorem dY.of{I:cS}{F G:cR}{t:ByteArray}{b:Nat}{k:Tok}{f:Int}(h:F.Perm (pX t b k f::G)):dY I F t b k f:=.inr (h.mem_iff.2 (.head _))
theorem fI{I:cS}{F:cR}{t:ByteArray}{b:Nat}{k:Tok}{f:Int}(h:dY I F t b k f)(e:Int):cU P 65 #[.pointer (some ⟨b,0,none⟩),.int .i64 e] I F fun e' I' G=>di ⟨e,k.pos,false⟩ F e' G:=by
 refine gA.vc ?_
 unfold gA.V
 exact⟨_,rfl,_,h.rd.dE (p:=1) (q:=4) rfl,fun b1=>⟨b1,_,[],[],rfl,⟨rfl,rfl⟩,.refl _⟩⟩
theorem AP{I:cS}{G:cR}{b ty:Nat}{v:Value}(h:(b,Obj.cells #[v] ty (0,0))∈G):Rd I G (⟨b,0,none⟩:Addr) [v]:=Rd.Cs h 0 fun j hj=>by
 have:j=0:=by simpa using hj
 subst this;rfl
theorem wO{x p:Nat×Obj}{F F0:cR}(h:F.Perm (p::F0)):(x::F).Perm (p::x::F0):=(h.cons x).trans (.swap ..)
theorem gK{x y p:Nat×Obj}{F F0:cR}(h:F.Perm (p::F0)):(x::y::F).Perm (p::x::y::F0):=wO (wO h)
theorem wP{x y z p:Nat×Obj}{F F0:cR}(h:F.Perm (p::F0)):(x::y::z::F).Perm (p::x::y::z::F0):=wO (wO (wO h))
theorem yJ{x y z u p:Nat×Obj}{F F0:cR}(h:F.Perm (p::F0)):(x::y::z::u::F).Perm (p::x::y::z::u::F0):=wO (wO (wO (wO h)))
theorem di.tail{f:PF}{x:Nat×Obj}{F F0 G:cR}{e:Ending}(h:di f F e G)(p:F.Perm (x::F0)):di f F0 e G:=di.more (A:=[x]) (h.perm p (.refl _))
theorem zX{t:ByteArray}{f:Int}(h0:0≤f)(h1:f≤t.size):il (cut t f t.size) t f :=
 ⟨h0,by rw[iN h0 h1 (Int.le_refl _)];omega,fun k g0 g1=>by
   rw[iN h0 h1 (Int.le_refl _)] at g1
   rw[nK h0 g0 (by omega) (Int.le_refl _),Int.add_comm]⟩
theorem nY{t:ByteArray}(hs:(t.size:Int)≤4096){f:Int}(h0:0≤f)(h1:f≤t.size){e p:Int}(ht:iG t f=.bad e p)(I:cS)(F:cR):cU P 103 #[.string t,.int .i64 f] I F (kL (.int .i64 p) F):=by
 have hB:=zX h0 h1
 have hz:=iN h0 h1 (Int.le_refl _)
 have hp:0≤p∧p≤t.size:=by
  have ho:=jo (s:=t) h1
  rcases ik h0 h1 with ⟨_,h,_⟩ | ⟨e',h,_⟩
  ·rw[ht] at h;cases h
  ·rw[ht] at h
   have:p=dx t f:=(TR.bad.inj h).2
   omega
 have htk:=hB.tok (f:=0) (by decide) (by omega)
 rw[Int.zero_add,ht] at htk
 have hb:iG (cut t f t.size) 0=.bad e (p-f):=by
  cases hc:iG (cut t f t.size) 0 with
  | ok u=>rw[hc] at htk;cases htk
  | bad e' p' =>
    rw[hc] at htk
    obtain⟨rfl,rfl⟩:=TR.bad.inj htk
    rw[show p'+f-f=p' by omega]
 have hT:ql (cut t f t.size)=.error (e,p-f):=by
  unfold ql
  rw[if_neg (by omega),qW (by decide) (by omega),hb]
 refine kE.vc ?_
 unfold kE.V
 refine⟨⟨h0,h1,Int.le_refl _⟩,(yd (s:=cut t f t.size) (by unfold dj;omega) I F).mono fun e1 I1 G l1 hr=>?_⟩
 obtain⟨rfl,hr⟩:=hr
 rw[hT] at hr
 refine⟨_,_,_,_,_,hr,_,.refl _, ?_,rfl⟩
 rw[ew (by omega),show f+(p-f)=p by omega]
theorem AQ{I:cS}{F F0:cR}{t:ByteArray}(hs:(t.size:Int)≤4096){b:Nat}{k:Tok}{f:Int}(h0:0≤f)(h1:f≤t.size)(hF:F.Perm (pX t b k f::F0)) :
  cU P 64 #[.pointer (some ⟨b,0,none⟩)] I F fun e' I' G=>match iG t f with
   | .ok k'=>e'=.returned (.tuple #[])∧G.Perm (pX t b k' (jN k')::F0)
   | .bad e p=>di ⟨e,p,true⟩ F0 e' G:=by
 have hp:=dY.of (I:=I) hF
 refine eR.vc ?_
 unfold eR.V
 have hshort:dj t:=by unfold dj;omega
 have hnx:vw t f=match iG t f with
  | .ok t'=>.tuple #[t'.v,.int .i64 (t'.pos+t'.text.size),.int .i64 0]
  | .bad e p=>.tuple #[(kr 0).v,.int .i64 0,.int .i64 e]:=by unfold vw;rw[if_neg (by omega),if_neg (by omega)];cases iG t f<;>rfl
 have hst:∀(k':Tok),pX t b k' (jN k')=(((⟨b,0,none⟩:Addr).add 6).block,Obj.cells (cY ((⟨b,0,none⟩:Addr).add 6).off [.int .i64 (jN k')] (cY ((⟨b,0,none⟩:Addr).add 1).off [.int .u8 k'.kind,.string k'.text,.int .u8 k'.dU,.int .i64 k'.n,.int .i64 k'.pos] (GI t k f))).toArray 143 (0,0)):=fun k'=>by
  rw[dg,dg];rfl
 refine⟨_,rfl,_,rfl,_,hp.rd.field (o:=0) rfl,_,hp.rd.field (o:=6) rfl, ?_,fun b_t=>?_⟩
 ·refine cU.ret (oA hshort I _) fun I1 l1=>?_
  rw[hnx]
  rcases ik h0 h1 with ⟨k',ht,_⟩ | ⟨e,ht,he⟩
  ·rw[ht]
   refine⟨_,_,_,_,_,_,_,rfl,_,.refl _,fun b_t=>⟨fun h=>absurd h (by decide),fun _=>⟨_,rfl,GI t k f,143,F0,hF,rfl,by rw[dg];exact (by decide:1+5≤7),_,rfl,_,143,F0,.refl _,rfl,by rw[dg,dg];exact (by decide:6+1≤7),rfl, ?_⟩⟩⟩
   rw[hst k'];exact .refl _
  ·rw[ht]
   refine⟨_,_,_,_,_,_,_,rfl,_,.refl _,fun b_t=>⟨fun _=>⟨fun _=>?_,fun h=>?_⟩,fun h=>?_⟩⟩
   ·have hp1:=(hp.mono (J:=I1) (H:=(b_t,Obj.cells #[.int .u8 0,.string ⟨#[]⟩,.int .u8 0,.int .i64 0,.int .i64 0] 76 (0,0))::F) l1 fun x hx=>.tail _ hx)
    refine⟨_,rfl,_,rfl,_,hp1.rd.field (o:=0) rfl,_,hp1.rd.field (o:=6) rfl,cU.ret (nY hs h0 h1 ht I1 _) fun I2 l2=>⟨_,rfl,F,.refl _,fun b1 b2=>?_⟩⟩
    exact di.tail (F:=F) ⟨b2,_,_,[],rfl,⟨b1,rfl,rfl⟩,.refl _⟩ hF
   ·rcases he with rfl | rfl | rfl<;>exact absurd h (by decide)
   ·rcases he with rfl | rfl | rfl<;>exact absurd h (by decide)
 ·refine cU.ret (oA hshort I _) fun I1 l1=>?_
  rw[hnx]
  rcases ik h0 h1 with ⟨k',ht,_⟩ | ⟨e,ht,he⟩
  ·rw[ht]
   refine⟨_,_,_,_,_,_,_,rfl,_,.refl _,⟨fun h=>absurd h (by decide),fun _=>⟨_,rfl,GI t k f,143,F0,hF,rfl,by rw[dg];exact (by decide:1+5≤7),_,rfl,_,143,F0,.refl _,rfl,by rw[dg,dg];exact (by decide:6+1≤7),rfl, ?_⟩⟩⟩
   rw[hst k'];exact .refl _
  ·rw[ht]
   refine⟨_,_,_,_,_,_,_,rfl,_,.refl _,⟨fun _=>⟨fun _=>?_,fun h=>?_⟩,fun h=>?_⟩⟩
   ·have hp1:=(hp.mono (J:=I1) (H:=(b_t,Obj.cells #[.int .u8 0,.string ⟨#[]⟩,.int .u8 0,.int .i64 0,.int .i64 0] 76 (0,0))::F) l1 fun x hx=>.tail _ hx)
    refine⟨_,rfl,_,rfl,_,hp1.rd.field (o:=0) rfl,_,hp1.rd.field (o:=6) rfl,cU.ret (nY hs h0 h1 ht I1 _) fun I2 l2=>⟨_,rfl,F,.refl _,fun b1 b2=>?_⟩⟩
    exact di.tail (F:=F) ⟨b2,_,_,[],rfl,⟨b1,rfl,rfl⟩,.refl _⟩ hF
   ·rcases he with rfl | rfl | rfl<;>exact absurd h (by decide)
   ·rcases he with rfl | rfl | rfl<;>exact absurd h (by decide)
theorem C5{I:cS}{F F0:cR}{t:ByteArray}(hs:4096<(t.size:Int))(hs2:dj t){b:Nat}{k:Tok}{f:Int}(hF:F.Perm (pX t b k f::F0)) :
  cU P 64 #[.pointer (some ⟨b,0,none⟩)] I F fun e' I' G=>di ⟨110,0,true⟩ F0 e' G:=by
 have hp:=dY.of (I:=I) hF
 refine eR.vc ?_
 unfold eR.V
 have hnx:vw t f=.tuple #[(kr 0).v,.int .i64 0,.int .i64 110]:=by unfold vw;rw[if_pos (by omega)]
 refine⟨_,rfl,_,rfl,_,hp.rd.field (o:=0) rfl,_,hp.rd.field (o:=6) rfl, ?_,fun b_t=>?_⟩
 ·refine cU.ret (oA hs2 I _) fun I1 l1=>?_
  rw[hnx]
  exact⟨_,_,_,_,_,_,_,rfl,_,.refl _,fun b_t=>⟨fun _=>⟨fun h=>absurd h (by decide),fun _ b1 b2=>di.tail (F:=F) ⟨b2,_,_,[],rfl,⟨b1,rfl,rfl⟩,.refl _⟩ hF⟩,fun h=>absurd h (by decide)⟩⟩
 ·refine cU.ret (oA hs2 I _) fun I1 l1=>?_
  rw[hnx]
  exact⟨_,_,_,_,_,_,_,rfl,_,.refl _,⟨fun _=>⟨fun h=>absurd h (by decide),fun _ b1 b2=>di.tail (F:=F) ⟨b2,_,_,[],rfl,⟨b1,rfl,rfl⟩,.refl _⟩ hF⟩,fun h=>absurd h (by decide)⟩⟩
def yq(v:ByteArray):List ByteArray→Int→Int
 | [],_=>-1
 | w::r,i=>if v.toList==w.toList then i else yq v r (i+1)
theorem um{c:PC}{s:PS}(hk:(c.now s).kind=1∨(c.now s).kind=4):∀(ws:List ByteArray) (i:Int),c.jx s ws i=yq (c.now s).text ws i
 | [],i=>rfl
 | w::r,i=>by
   rw[PC.jx,yq,um hk r]
   have:c.eu w s=((c.now s).text.toList==w.toList):=by
    unfold PC.eu
    rcases hk with h | h<;>rw[h]<;>simp
   rw[this]
theorem any_none{c:PC}{s:PS}(h1:(c.now s).kind≠1)(h4:(c.now s).kind≠4):∀(ws:List ByteArray) (i:Int),c.jx s ws i = -1
 | [],i=>rfl
 | w::r,i=>by
   have:c.eu w s=false:=by unfold PC.eu;simp[h1,h4]
   rw[PC.jx,this,if_neg (by simp),any_none h1 h4 r]
theorem uo{v:ByteArray}{a:Option Addr}{n k:Nat}{ws:List ByteArray}{I:cS}(hS:Sl I 1 jS a n ws)(hl:n≤100)(F:cR):cU P 125 #[.slice a n k,.string v] I F (kL (.int .i64 (yq v ws 0)) F):=by
 have hn:=hS.1
 refine kD.vc (fun x i m I' F'=>F'=F∧0≤i∧i≤n∧m=(n-i).toNat∧yq v ws 0=yq v (ws.drop i.toNat) i) ?_
 unfold kD.V
 refine⟨⟨_,rfl,by omega,by omega,rfl,rfl⟩,fun x i m1 I1 F1 l1 ⟨gF,g0,g1,gm,ge⟩=>⟨fun hlt=>?_,fun hlt=>⟨?_,gF⟩⟩⟩
 ·subst gF
  have hlt:=of_decide_eq_true hlt
  obtain⟨ad,w,ha,hw,hr⟩:=(hS.mono l1).at g0 hlt
  obtain⟨hk,rfl⟩:=List.getElem?_eq_some_iff.1 hw
  rw[List.drop_eq_getElem_cons hk,yq] at ge
  refine⟨⟨g0,hlt⟩,ad,ha,_,hr _,fun h=>⟨?_,rfl⟩,fun h=>⟨(n-(i+1)).toNat,by omega,rfl, ?_⟩⟩
  ·rw[ge,if_pos h]
  ·rw[ew (n:=i+1) (by omega)]
   refine⟨by omega,by omega,rfl, ?_⟩
   rw[ge,if_neg (by simp[h]),show (i+1).toNat=i.toNat+1 by omega]
 ·have hlt:=of_decide_eq_false hlt
  rw[ge,List.drop_eq_nil_of_le (by omega),yq]
section
variable {c:PC} {t:ByteArray} {s:PS} {b:Nat} {I:cS} {F F0:cR}
theorem qv(hl:c.Live s)(hp:dY I F t b (c.tok s.next) (jN (c.tok s.next)))(w:ByteArray):cU P 91 #[.pointer (some ⟨b,0,none⟩),.string w] I F (kL (.bool (c.eu w s)) F):=by
 refine iZ.vc ?_
 unfold iZ.V
 have hn:=hl.now
 refine⟨_,rfl,_,hp.rd.dE (p:=1) (q:=0) rfl,fun h=>⟨_,rfl,_,hp.rd.dE (p:=1) (q:=1) rfl, ?_,rfl⟩,fun h=>⟨_,rfl,_,hp.rd.dE (p:=1) (q:=0) rfl,fun h2=>⟨_,rfl,_,hp.rd.dE (p:=1) (q:=1) rfl, ?_,rfl⟩,fun h2=>⟨?_,rfl⟩⟩⟩ <;>
  unfold PC.eu<;>rw[hn]<;>simp_all
theorem iP(hl:c.Live s)(hp:dY I F t b (c.tok s.next) (jN (c.tok s.next))){a:Option Addr}{n k:Nat}{ws:List ByteArray}(hS:Sl I 1 jS a n ws)(hn:n≤100) :
  cU P 104 #[.pointer (some ⟨b,0,none⟩),.slice a n k] I F (kL (.int .i64 (c.any ws s)) F):=by
 refine gB.vc ?_
 unfold gB.V
 have hw:=hl.now
 refine⟨_,rfl,_,hp.rd.dE (p:=1) (q:=0) rfl,fun h=>⟨_,rfl,_,hp.rd.dE (p:=1) (q:=0) rfl,fun h2=>⟨?_,rfl⟩,fun h2=>⟨_,rfl,_,hp.rd.dE (p:=1) (q:=1) rfl,cU.ret (uo hS hn F) fun I1 l1=>⟨_,rfl,F,.refl _, ?_,rfl⟩⟩⟩,fun h=>⟨_,rfl,_,hp.rd.dE (p:=1) (q:=1) rfl,cU.ret (uo hS hn F) fun I1 l1=>⟨_,rfl,F,.refl _, ?_,rfl⟩⟩⟩
 ·unfold PC.any;rw[any_none (by rw[hw];simpa using h) (by rw[hw];simpa using h2)]
 ·unfold PC.any;rw[um (.inr (by rw[hw];simpa using h2)),hw]
 ·unfold PC.any;rw[um (.inl (by rw[hw];simpa using h)),hw]
def PC.oneOf(c:PC)(ws:List ByteArray)(s:PS):Int×PS:=(c.any ws s,if c.any ws s<0 then c.da 130 s else s.inc)
theorem pK(c:PC)(w:ByteArray)(s:PS):(c.take w s).2=(c.oneOf [w] s).2:=by
 unfold PC.take PC.oneOf PC.any PC.jx PC.jx
 split
 ·rw[if_neg (by decide)]
 ·rw[if_pos (by decide)]
theorem iQ{ws:List ByteArray}(hl:c.Live s)(h:0≤c.any ws s):(c.tok s.next).kind≠0:=fun hk=>by
 have:c.any ws s = -1:=any_none (by rw[hl.now,hk];decide) (by rw[hl.now,hk];decide) ws 0
 omega
theorem eb(hc:c.Of t)(hl:c.Live s)(hk:(c.tok s.next).kind≠0)(hF:F.Perm (c.px t b s::F0)):cU P 64 #[.pointer (some ⟨b,0,none⟩)] I F (de c t b Hv F0 ((),s.inc)):=by
 have hfr:nv c.l 0 (s.next+1)=jN (c.tok s.next):=rfl
 have hr:=hc.GH (i:=s.next+1) hl.2
 rw[hfr] at hr
 refine (AQ hc.len hr.1 hr.2 hF).mono fun e I' G l h=>?_
 rcases hc.next hl.2 hk with h1 | ⟨h1,h2,h3⟩
 ·have ht:=hc.tk h1
  rw[hfr] at ht
  rw[ht] at h
  exact .inl ⟨⟨hl.1,h1⟩,_,[],h.1,⟨rfl,rfl⟩,h.2⟩
 ·rw[hfr] at h3
  rw[h3] at h
  rcases hl.inc hc hk with g | ⟨_,g⟩
  ·have:=g.2
   have h9:s.inc.next=s.next+1:=rfl
   omega
  ·exact .inr ⟨_,g,h⟩
theorem q9(hc:c.Of t)(hl:c.Live s){a:Option Addr}{n k:Nat}{ws:List ByteArray}(hS:Sl I 1 jS a n ws)(hn:n≤100)(hF:F.Perm (c.px t b s::F0)) :
  cU P 66 #[.pointer (some ⟨b,0,none⟩),.slice a n k] I F (de c t b Hw F0 (c.oneOf ws s)):=by
 refine iC.vc ?_
 unfold iC.V
 refine cU.ret (iP hl (.of hF) hS hn) fun I1 l1=>⟨_,rfl,F,.refl _,fun h=>?_,fun h=>?_⟩
 ·have h:=of_decide_eq_true h
  refine (fI (.of hF) 130).mono fun e I2 G l2 hf=>.inr ?_
  refine di.pass hf fun e' hf'=>.inr ⟨_, ?_,hf'.tail hF⟩
  show c.dP _ (if c.any ws s<0 then c.da 130 s else s.inc)
  rw[if_pos h];exact (hl.da (by decide)).2
 ·have h:=of_decide_eq_false h
  have hk:=iQ (ws:=ws) hl (by omega)
  have e2:(c.oneOf ws s).2=s.inc:=if_neg h
  refine de.use (eb hc hl hk hF) (fun v H I2 G l2 hL hv hG=>.inl ?_) fun f e I2 G l2 hd hf=>.inr ?_
  ·obtain⟨rfl,rfl⟩:=hv
   exact⟨rfl,G,.refl _,.inl ⟨by rw[e2];exact hL,_,[],rfl,⟨rfl,rfl⟩,by rw[e2];exact hG⟩⟩
  ·exact di.pass hf fun e' hf'=>.inr ⟨f,by rw[e2];exact hd,hf'⟩
theorem j3(hc:c.Of t)(hl:c.Live s)(hF:F.Perm (c.px t b s::F0)):cU P 67 #[.pointer (some ⟨b,0,none⟩)] I F (de c t b Hy F0 (c.name s)):=by
 have hp:=dY.of (I:=I) hF
 have hw:=hl.now
 refine g8.vc ?_
 unfold g8.V
 refine⟨_,rfl,_,hp.rd.dE (p:=1) (q:=1) rfl,_,rfl,_,hp.rd.dE (p:=1) (q:=0) rfl,fun h=>?_,fun h=>?_⟩
 ·have h:(c.tok s.next).kind≠2:=by simpa using h
  refine (fI hp 130).mono fun e I2 G l2 hf=>.inr ?_
  refine di.pass hf fun e' hf'=>.inr ⟨_, ?_,hf'.tail hF⟩
  unfold PC.name
  rw[hw,if_neg h];exact (hl.da (by decide)).2
 ·have h:(c.tok s.next).kind=2:=by simpa using h
  have e1:c.name s=((c.tok s.next).text,s.inc):=by unfold PC.name;rw[hw,if_pos h]
  rw[e1]
  refine de.use (eb hc hl (by rw[h];decide) hF) (fun v H I2 G l2 hL hv hG=>.inl ?_) fun f e I2 G l2 hd hf=>.inr ?_
  ·obtain⟨rfl,rfl⟩:=hv
   exact⟨rfl,G,.refl _,.inl ⟨hL,_,[],rfl,⟨rfl,rfl⟩,hG⟩⟩
  ·exact di.pass hf fun e' hf'=>.inr ⟨f,hd,hf'⟩
theorem oG{k:Tok}{f:Int}(hp:dY I F t b k f){d:Int}(h0:0≤d)(h1:d≤24):cU P 92 #[.pointer (some ⟨b,0,none⟩),.int .i64 d] I F fun e I' G=>(d<24∧e=.returned (.int .i64 (d+1))∧G=F)∨(d=24∧di ⟨132,k.pos,false⟩ F e G):=by
 refine fO.vc ?_
 unfold fO.V
 rw[ew (n:=d+1) (by omega)]
 refine⟨fun h=>?_,fun h=>.inl ⟨?_,rfl,rfl⟩⟩
 ·have h:d=24:=by simpa using h
  refine (fI hp 132).mono fun e I2 G l2 hf=>.inr ?_
  exact di.pass (I:=I2) (Q:=fun e I' G=>(d<24∧e=.returned (.int .i64 (d+1))∧G=F)∨(d=24∧di ⟨132,k.pos,false⟩ F e G)) hf fun e' hf'=>.inr ⟨h,hf'⟩
 ·have h:d≠24:=by simpa using h
  omega
def sd(l:Int):List ByteArray:=if l=2 then Dn else if l=3 then uT else if l=4 then lU else if l=5 then uS else tT
def BQ(l:Int):Int:=if l=2 then 18 else if l=3 then 17 else if l=4 then 11 else if l=5 then 6 else 8
theorem yr(l:Int)(I:cS)(F:cR):cU P 115 #[.int .i64 l] I F fun e I' G=>∃(a:Option Addr) (n k:Nat),e=.returned (.tuple #[.slice a n k,.int .u8 (BQ l)])∧Sl I' 1 jS a n (sd l)∧n≤100∧G=F:=by
 refine lM.vc ?_
 unfold lM.V
 have key:∀{b:Nat} {I1:cS} {ws:List ByteArray} {cs:Array Value},I1 b=some (.cells cs 9 (0,0))→cs.toList=ws.flatMap jS→Sl I1 1 jS (some ⟨b,0,none⟩) ws.length ws:=fun hb hc=>Sl.ie (f:=jS) (z:=1) (fun _=>rfl) hb hc
 refine⟨fun h=>fun b I1 l1 hb=>?_,fun h2=>⟨fun h=>fun b I1 l1 hb=>?_,fun h3=>⟨fun h=>fun b I1 l1 hb=>?_,fun h4=>⟨fun h=>fun b I1 l1 hb=>?_,fun h5=>fun b I1 l1 hb=>?_⟩⟩⟩⟩
 ·have h:l=2:=by simpa using h
  subst h
  exact⟨_,_,_,rfl,key (ws:=Dn) hb rfl,by decide,rfl⟩
 ·have h:l=3:=by simpa using h
  subst h
  exact⟨_,_,_,rfl,key (ws:=uT) hb rfl,by decide,rfl⟩
 ·have h:l=4:=by simpa using h
  subst h
  exact⟨_,_,_,rfl,key (ws:=lU) hb rfl,by decide,rfl⟩
 ·have h:l=5:=by simpa using h
  subst h
  exact⟨_,_,_,rfl,key (ws:=uS) hb rfl,by decide,rfl⟩
 ·have e2:l≠2:=by simpa using h2
  have e3:l≠3:=by simpa using h3
  have e4:l≠4:=by simpa using h4
  have e5:l≠5:=by simpa using h5
  have hO:BQ l=8:=by unfold BQ;rw[if_neg e2,if_neg e3,if_neg e4,if_neg e5]
  have hW:sd l=tT:=by unfold sd;rw[if_neg e2,if_neg e3,if_neg e4,if_neg e5]
  rw[hO,hW]
  exact⟨_,_,_,rfl,key (ws:=tT) hb rfl,by decide,rfl⟩
end
end Go.Lx
namespace Go.Lx
open Go.Vc
theorem BR{t:ByteArray}{f:Int}{k:Tok}(h0:0≤f)(h1:f≤t.size)(h:iG t f=.ok k)(hk:k.kind=4):ig (bt k.text 0)=false:=by
 have ho:=jo (s:=t) h1
 unfold iG at h
 simp only at h
 split at h
 ·have:=TR.ok.inj h
  subst this
  exact absurd hk (by show ¬(0:Int)=4;decide)
 ·rename_i hne
  split at h
  ·obtain⟨E,e2,_,_,_,rfl⟩:=DZ h
   exact absurd hk (by show ¬(3:Int)=4;decide)
  ·split at h
   ·unfold ly at h
    simp only at h
    split at h
    ·cases h
    ·have:=TR.ok.inj h
     subst this
     simp only at hk
     split at hk<;>omega
   ·rename_i hs
    unfold lz at h
    split at h
    ·cases h
    ·rename_i hm
     have:=TR.ok.inj h
     subst this
     have hr:=lF t (dx t f)
     have hl:=qk (s:=t) (i:=dx t f) (by omega)
     show ig (bt (cut t (dx t f) (dx t f+fS t (dx t f))) 0)=false
     rw[nK (by omega) (Int.le_refl 0) (by omega) (by omega),Int.add_zero]
     simpa using hs
theorem zY{x w:ByteArray}(h:ig (bt x 0)=false)(hw:ig (bt w 0)=true):(x.toList==w.toList)=false:=by
 rw[Bool.eq_false_iff]
 intro he
 have he:x.toList=w.toList:=by simpa using he
 have:x=w:=Ep he
 rw[this,hw] at h;cases h
theorem wQ{x y:List UInt8}(h:(x==y)=false):x≠y:=fun e=>by rw[e] at h;simp at h
def nh:List ByteArray:=[(⟨#[102,97,108,115,101]⟩:ByteArray),(⟨#[116,114,117,101]⟩:ByteArray),(⟨#[98,117,121]⟩:ByteArray),(⟨#[115,101,108,108]⟩:ByteArray)]
def FD(i:Int)(pos:Int):Px:=if i>1 then tS 6 (i-1) pos else tS 5 i pos
section
variable {c:PC} {t:ByteArray} {s:PS}
theorem wR(hl:c.Live s)(h:(c.tok s.next).kind=3):c.literal s=((tS (c.tok s.next).dU (c.tok s.next).n (c.tok s.next).pos,true),s.inc):=by
 unfold PC.literal;rw[hl.now,if_pos h]
theorem AR(hc:c.Of t)(hl:c.Live s)(h:(c.tok s.next).kind≠3):c.literal s=if c.any nh s<0 then ((gO,false),s) else ((FD (c.any nh s) (c.tok s.next).pos,true),s.inc):=by
 have hn:=hl.now
 have hr:=hc.GH (Nat.le_of_lt hl.2)
 have hmk:=fun hk=>BR hr.1 hr.2 (hc.tk hl.2) hk
 have hw:∀w∈nh,ig (bt w 0)=true:=by decide
 have hi:∀w∈nh,c.eu w s=((c.tok s.next).text.toList==w.toList&&(c.tok s.next).kind==1):=fun w hwm=>by
  unfold PC.eu;rw[hn]
  by_cases h4:(c.tok s.next).kind=4
  ·rw[zY (hmk h4) (hw w hwm)];rfl
  ·have:((c.tok s.next).kind==4)=false:=by simpa using h4
   rw[this,Bool.or_false]
 have ea:c.any nh s=if (c.tok s.next).kind=1 then (if (c.tok s.next).text.toList=(⟨#[102,97,108,115,101]⟩:ByteArray).toList then 0 else if (c.tok s.next).text.toList=(⟨#[116,114,117,101]⟩:ByteArray).toList then 1 else if (c.tok s.next).text.toList=(⟨#[98,117,121]⟩:ByteArray).toList then 2 else if (c.tok s.next).text.toList=(⟨#[115,101,108,108]⟩:ByteArray).toList then 3 else -1) else -1:=by
  show c.jx s nh 0=_
  unfold nh
  rw[PC.jx,PC.jx,PC.jx,PC.jx,PC.jx,hi _ (.head _),hi _ (.tail _ (.head _)),hi _ (.tail _ (.tail _ (.head _))),hi _ (.tail _ (.tail _ (.tail _ (.head _))))]
  by_cases h1:(c.tok s.next).kind=1
  ·rw[if_pos h1]
   simp only[h1,Bool.and_eq_true,beq_iff_eq,and_true]
   rfl
  ·rw[if_neg h1]
   have:((c.tok s.next).kind==1)=false:=by simpa using h1
   simp only[this,Bool.and_false,Bool.false_eq_true,if_false]
 have d1:(⟨#[116,114,117,101]⟩:ByteArray).toList≠(⟨#[102,97,108,115,101]⟩:ByteArray).toList:=wQ (by kernel_rfl)
 have d2:(⟨#[98,117,121]⟩:ByteArray).toList≠(⟨#[115,101,108,108]⟩:ByteArray).toList:=wQ (by kernel_rfl)
 have d3:(⟨#[102,97,108,115,101]⟩:ByteArray).toList≠(⟨#[116,114,117,101]⟩:ByteArray).toList:=wQ (by kernel_rfl)
 have d4:(⟨#[115,101,108,108]⟩:ByteArray).toList≠(⟨#[98,117,121]⟩:ByteArray).toList:=wQ (by kernel_rfl)
 unfold PC.literal
 rw[hn,if_neg h,ea]
 generalize (c.tok s.next).text.toList=x
 by_cases h1:(c.tok s.next).kind=1
 ·rw[if_pos h1]
  by_cases x0:x=(⟨#[102,97,108,115,101]⟩:ByteArray).toList
  ·subst x0
   rw[if_pos rfl,if_pos ⟨h1,.inr rfl⟩,if_neg d3,if_neg (by decide)];rfl
  ·rw[if_neg x0]
   by_cases x1:x=(⟨#[116,114,117,101]⟩:ByteArray).toList
   ·subst x1
    rw[if_pos rfl,if_pos ⟨h1,.inl rfl⟩,if_pos rfl,if_neg (by decide)];rfl
   ·rw[if_neg x1,if_neg (by rintro ⟨_,h | h⟩;exact x1 h;exact x0 h)]
    by_cases x2:x=(⟨#[98,117,121]⟩:ByteArray).toList
    ·subst x2
     rw[if_pos rfl,if_pos ⟨h1,.inl rfl⟩,if_neg d2,if_neg x1,if_neg (by decide)];rfl
    ·rw[if_neg x2]
     by_cases x3:x=(⟨#[115,101,108,108]⟩:ByteArray).toList
     ·subst x3
      rw[if_pos rfl,if_pos ⟨h1,.inr rfl⟩,if_pos rfl,if_neg x1,if_neg (by decide)];rfl
     ·rw[if_neg (by rintro ⟨_,h | h⟩;exact x2 h;exact x3 h),if_neg x1,if_neg x3,if_pos (by decide)]
 ·rw[if_neg h1,if_neg (fun h=>h1 h.1),if_neg (fun h=>h1 h.1),if_pos (by decide)]
def Hz(x:Px×Bool)(v:Value)(H:cR):Prop:=∃n:Nd,v=.tuple #[n.v,.bool x.2]∧n.px=x.1∧eo 64 false n H∧H=[]
theorem eo.leaf{k o ty n f p:Int}{w:ByteArray}:eo 64 false (.mk k o ty n f w none 0 [] p) [] :=
 .mk (t:=.mk k o ty n f w none 0 [] p) (hs:=fun _=>[]) Acc.nil (fun h=>by cases h) fun i k h=>by simp[Nd.kids] at h
theorem pL(hc:c.Of t)(hl:c.Live s){b:Nat}{I:cS}{F F0:cR}(hF:F.Perm (c.px t b s::F0)):cU P 105 #[.pointer (some ⟨b,0,none⟩)] I F (de c t b Hz F0 (c.literal s)):=by
 have hp:=dY.of (I:=I) hF
 refine fH.vc ?_
 unfold fH.V
 intro b0
 refine⟨_,rfl,_,(hp.mono (cS.le_refl I) fun x hx=>.tail _ hx).rd.dE (p:=1) (q:=4) rfl,fun bn=>⟨_,rfl,_,(hp.mono (cS.le_refl I) fun x hx=>.tail _ (.tail _ hx)).rd.dE (p:=1) (q:=0) rfl,fun h=>?_,fun h=>?_⟩⟩
 ·have h:(c.tok s.next).kind=3:=by simpa using h
  have e1:=wR hl h
  refine⟨_,rfl,_,(hp.mono (cS.le_refl I) fun x hx=>.tail _ (.tail _ hx)).rd.dE (p:=1) (q:=2) rfl,_,rfl,_,hp.rd.dE (p:=1) (q:=3) rfl, ?_⟩
  refine de.use (eb hc hl (by rw[h];decide) (gK hF)) (fun v H I2 G l2 hL hv hG=>.inl ?_) fun f e I2 G l2 hd hf=>.inr ?_
  ·obtain⟨rfl,rfl⟩:=hv
   exact⟨rfl,c.px t b s.inc::F0,hG.trans (cV fun z=>by simp only[cW,cX,c7];omega),.inl ⟨by rw[e1];exact hL,_,[],rfl,by rw[e1];exact⟨.mk 1 0 (c.tok s.next).dU (c.tok s.next).n 0 ⟨#[]⟩ none 0 [] (c.tok s.next).pos,rfl,by simp only[Nd.px,Nd.qO];rfl,eo.leaf,rfl⟩,by rw[e1];exact .refl _⟩⟩
  ·exact di.dC [_,_] hf fun e' G' hf'=>.inr ⟨f,by rw[e1];exact hd,hf'⟩
 ·have h:(c.tok s.next).kind≠3:=by simpa using h
  have e1:=AR hc hl h
  intro b1 I2 l2 hb1
  have hS:Sl I2 1 jS (some ⟨b1,0,none⟩) 4 nh:=Sl.ie (f:=jS) (z:=1) (l:=nh) (fun _=>rfl) hb1 rfl
  refine cU.ret (iP hl (hp.mono l2 fun x hx=>.tail _ (.tail _ hx)) hS (by decide)) fun I3 l3=>⟨_,rfl,F,.refl _,fun hi=>?_,fun hi=>?_⟩
  ·have hi:=of_decide_eq_true hi
   rw[if_pos hi] at e1
   exact .inl ⟨by rw[e1];exact hl,_,[],rfl,by rw[e1];exact⟨fW,rfl,by simp only[fW,Nd.px,Nd.qO];rfl,eo.leaf,rfl⟩,by rw[e1];exact hF⟩
  ·have hi:=of_decide_eq_false hi
   rw[if_neg hi] at e1
   have hk:=iQ (ws:=nh) hl (by omega)
   have hlt:=(dD (c:=c) (s:=s) (ws:=nh) (by omega)).2
   have hlt:c.any nh s<4:=hlt
   refine⟨fun h2=>?_,fun h2=>?_⟩
   ·have h2:=of_decide_eq_true h2
    rw[ew (n:=c.any nh s-1) (by omega)]
    have e3:FD (c.any nh s) (c.tok s.next).pos=tS 6 (c.any nh s-1) (c.tok s.next).pos:=if_pos h2
    refine de.use (eb hc hl hk (gK hF)) (fun v H I4 G l4 hL hv hG=>.inl ?_) fun f e I4 G l4 hd hf=>.inr ?_
    ·obtain⟨rfl,rfl⟩:=hv
     exact⟨rfl,c.px t b s.inc::F0,hG.trans (cV fun z=>by simp only[cW,cX,c7];omega),.inl ⟨by rw[e1];exact hL,_,[],rfl,by rw[e1,e3];exact⟨.mk 1 0 6 (c.any nh s-1) 0 ⟨#[]⟩ none 0 [] (c.tok s.next).pos,rfl,by simp only[Nd.px,Nd.qO];rfl,eo.leaf,rfl⟩,by rw[e1];exact .refl _⟩⟩
    ·exact di.dC [_,_] hf fun e' G' hf'=>.inr ⟨f,by rw[e1];exact hd,hf'⟩
   ·have h2:=of_decide_eq_false h2
    have e3:FD (c.any nh s) (c.tok s.next).pos=tS 5 (c.any nh s) (c.tok s.next).pos:=if_neg h2
    refine de.use (eb hc hl hk (gK hF)) (fun v H I4 G l4 hL hv hG=>.inl ?_) fun f e I4 G l4 hd hf=>.inr ?_
    ·obtain⟨rfl,rfl⟩:=hv
     exact⟨rfl,c.px t b s.inc::F0,hG.trans (cV fun z=>by simp only[cW,cX,c7];omega),.inl ⟨by rw[e1];exact hL,_,[],rfl,by rw[e1,e3];exact⟨.mk 1 0 5 (c.any nh s) 0 ⟨#[]⟩ none 0 [] (c.tok s.next).pos,rfl,by simp only[Nd.px,Nd.qO];rfl,eo.leaf,rfl⟩,by rw[e1];exact .refl _⟩⟩
    ·exact di.dC [_,_] hf fun e' G' hf'=>.inr ⟨f,by rw[e1];exact hd,hf'⟩
end
end Go.Lx
namespace Go.Lx
open Go.Vc Go.Proofs.Tryz
def rb:List (Nat×List Sh):=[(0,[]),(3,[.one (.int .i64)]),(4,[.one .bool]),(9,[.one .str]),(62,[.one .slc]),(64,[.agg [(.int .u8),(.int .u8),(.int .u8),(.int .i64),(.int .u8),.str,.slc,(.int .i64)]]),(74,[.one (.int .u8)]),(92,[.one .ptr]),(208,[.agg [(.int .u8),(.int .u8),(.int .u8),(.int .i64),(.int .u8),.str,.slc,(.int .i64)],.one .bool]),(219,[.one .slc,.one (.int .u8)])]
def iD.V(al ah:Nat→Nat×Obj)(nV:Int→Int→Int→Int→Int→Bs→OA→Nat→Nat→Int→Value)(nO:Int→Int→Int→Int→Int→Bs→OA→Nat→Nat→Int→Obj)(vb vi:Int→Value)(vs:Bs→Value)(vl:OA→Nat→Nat→Value)(vp:OA→Value)(wr:Int→Int)(p:Addr)(aj d:Int)(I:cS)(F:cR)(Q:cT)(Inv18:Int→OA→Int→Int→Int→Int→Int→Int→Bs→OA→Nat→Nat→Int→Nat→cS→cR→Prop):Prop:=∀w:Nat,∀a:Nat,∀b:Nat,(Dt (aj<6) (eg P 115 #[vi aj] I ((al w)::(ah a)::(b,nO 0 0 0 0 0 (⟨#[]⟩:Bs) none 0 0 0)::·) F fun e1 I1 G1=>∃(aJ:OA) (aK aL:Nat) (r1:Int),e1=.returned (.tuple #[vl aJ aK aL,vb r1])∧G1 fun F1=>cU P 114 (#[vi d,vp (some ⟨w,0,none⟩),vp (some ⟨a,0,none⟩)]) I1 ((al w)::(ah a)::(b,nO 0 0 0 0 0 (⟨#[]⟩:Bs) none 0 0 0)::F1) fun e2 I2 G2=>((∃(br bs bt bu bv:Int) (bw:Bs) (aM:OA) (aN aO:Nat) (bx:Int),e2=.returned (nV br bs bt bu bv bw aM aN aO bx)∧∃(aP:OA) (am:Int),∃F2:cR,List.Perm G2 ((w,Obj.cells #[vp aP] 92 (0,0))::(a,Obj.cells #[vi am] 3 (0,0))::(b,nO 0 0 0 0 0 (⟨#[]⟩:Bs) none 0 0 0)::F2)∧∀ai:Nat,(∃m:Nat,Inv18 0 aP am br bs bt bu bv bw aM aN aO bx m I2 F2)∧∀(an:Int) (x:OA) (e y z aa ab ac:Int) (ae:Bs) (i:OA) (j k:Nat) (af:Int) (m1:Nat) (I3:cS) (F3:cR),cS.le I2 I3→Inv18 an x e y z aa ab ac ae i j k af m1 I3 F3→(It (e != 4) (dt P 104 #[vp x,vl aJ aK aL] I3 ((w,Obj.cells #[vp x] 92 (0,0))::(a,Obj.cells #[vi e] 3 (0,0))::(b,nO 0 0 0 0 0 (⟨#[]⟩:Bs) none 0 0 0)::(ai,nO y z aa ab ac ae i j k af)::·) F3 vi fun r I4 F4=>(Dt (r<0) (Q (.returned (nV y z aa ab ac ae i j k af)) I4 F4) (∃ad:Addr,x=some ad∧∃(m2:Int),Rd I4 ((w,Obj.cells #[vp x] 92 (0,0))::(a,Obj.cells #[vi e] 3 (0,0))::(b,nO 0 0 0 0 0 (⟨#[]⟩:Bs) none 0 0 0)::(ai,nO y z aa ab ac ae i j k af)::F4) ((ad.add 1).add 4) [vi m2]∧cU P 64 #[vp x] I4 ((w,Obj.cells #[vp x] 92 (0,0))::(a,Obj.cells #[vi e] 3 (0,0))::(b,nO 0 0 0 0 0 (⟨#[]⟩:Bs) none 0 0 0)::(ai,nO y z aa ab ac ae i j k af)::F4) fun e4 I5 G4=>((e4=.returned (.tuple #[])∧∃F5:cR,List.Perm G4 ((w,Obj.cells #[vp x] 92 (0,0))::(a,Obj.cells #[vi e] 3 (0,0))::(b,nO 0 0 0 0 0 (⟨#[]⟩:Bs) none 0 0 0)::(ai,nO y z aa ab ac ae i j k af)::F5)∧cU P 114 (#[vi d,vp (some ⟨w,0,none⟩),vp (some ⟨a,0,none⟩)]) I5 ((w,Obj.cells #[vp x] 92 (0,0))::(a,Obj.cells #[vi e] 3 (0,0))::(b,nO 0 0 0 0 0 (⟨#[]⟩:Bs) none 0 0 0)::(ai,nO y z aa ab ac ae i j k af)::F5) fun e5 I6 G5=>((∃(aQ aR aS aT aU:Int) (aV:Bs) (au:OA) (av aw:Nat) (aW:Int),e5=.returned (nV aQ aR aS aT aU aV au av aw aW)∧∃F6:cR,List.Perm G5 ((w,Obj.cells #[vp x] 92 (0,0))::(a,Obj.cells #[vi e] 3 (0,0))::(b,nO 0 0 0 0 0 (⟨#[]⟩:Bs) none 0 0 0)::(ai,nO y z aa ab ac ae i j k af)::F6)∧∀b1:Nat,(∃m3:Nat,m3<m1∧Inv18 (wr (an+1)) x e 6 (IntKind.wrap .u8 (r1+(IntKind.wrap .u8 r))) 0 0 0 (⟨#[]⟩:Bs) (some ⟨b1,0,none⟩) 2 2 m2 m3 I6 ((b1,Obj.cells #[vb y,vb z,vb aa,vi ab,vb ac,vs ae,vl i j k,vi af,vb aQ,vb aR,vb aS,vi aT,vb aU,vs aV,vl au av aw,vi aW] 64 (0,0))::F6)))∨(∃ch:List PanicEntry,e5=.panicked ch∧∃F7:cR,List.Perm G5 ((w,Obj.cells #[vp x] 92 (0,0))::(a,Obj.cells #[vi e] 3 (0,0))::(b,nO 0 0 0 0 0 (⟨#[]⟩:Bs) none 0 0 0)::(ai,nO y z aa ab ac ae i j k af)::F7)∧Q (.panicked ch) I6 F7)))∨(∃bA:List PanicEntry,e4=.panicked bA∧∃F8:cR,List.Perm G4 ((w,Obj.cells #[vp x] 92 (0,0))::(a,Obj.cells #[vi e] 3 (0,0))::(b,nO 0 0 0 0 0 (⟨#[]⟩:Bs) none 0 0 0)::(ai,nO y z aa ab ac ae i j k af)::F8)∧Q (.panicked bA) I5 F8))))) (It (an==0) (dt P 104 #[vp x,vl aJ aK aL] I3 ((w,Obj.cells #[vp x] 92 (0,0))::(a,Obj.cells #[vi e] 3 (0,0))::(b,nO 0 0 0 0 0 (⟨#[]⟩:Bs) none 0 0 0)::(ai,nO y z aa ab ac ae i j k af)::·) F3 vi fun r2 I7 F9=>(Dt (r2<0) (Q (.returned (nV y z aa ab ac ae i j k af)) I7 F9) (∃bB:Addr,x=some bB∧∃(m4:Int),Rd I7 ((w,Obj.cells #[vp x] 92 (0,0))::(a,Obj.cells #[vi e] 3 (0,0))::(b,nO 0 0 0 0 0 (⟨#[]⟩:Bs) none 0 0 0)::(ai,nO y z aa ab ac ae i j k af)::F9) ((bB.add 1).add 4) [vi m4]∧cU P 64 #[vp x] I7 ((w,Obj.cells #[vp x] 92 (0,0))::(a,Obj.cells #[vi e] 3 (0,0))::(b,nO 0 0 0 0 0 (⟨#[]⟩:Bs) none 0 0 0)::(ai,nO y z aa ab ac ae i j k af)::F9) fun e7 I8 G7=>((e7=.returned (.tuple #[])∧∃F10:cR,List.Perm G7 ((w,Obj.cells #[vp x] 92 (0,0))::(a,Obj.cells #[vi e] 3 (0,0))::(b,nO 0 0 0 0 0 (⟨#[]⟩:Bs) none 0 0 0)::(ai,nO y z aa ab ac ae i j k af)::F10)∧cU P 114 (#[vi d,vp (some ⟨w,0,none⟩),vp (some ⟨a,0,none⟩)]) I8 ((w,Obj.cells #[vp x] 92 (0,0))::(a,Obj.cells #[vi e] 3 (0,0))::(b,nO 0 0 0 0 0 (⟨#[]⟩:Bs) none 0 0 0)::(ai,nO y z aa ab ac ae i j k af)::F10) fun e8 I9 G8=>((∃(aX aY aZ a0 a1:Int) (a2:Bs) (ax:OA) (ay az:Nat) (a3:Int),e8=.returned (nV aX aY aZ a0 a1 a2 ax ay az a3)∧∃F11:cR,List.Perm G8 ((w,Obj.cells #[vp x] 92 (0,0))::(a,Obj.cells #[vi e] 3 (0,0))::(b,nO 0 0 0 0 0 (⟨#[]⟩:Bs) none 0 0 0)::(ai,nO y z aa ab ac ae i j k af)::F11)∧∀b2:Nat,(∃m5:Nat,m5<m1∧Inv18 (wr (an+1)) x e 6 (IntKind.wrap .u8 (r1+(IntKind.wrap .u8 r2))) 0 0 0 (⟨#[]⟩:Bs) (some ⟨b2,0,none⟩) 2 2 m4 m5 I9 ((b2,Obj.cells #[vb y,vb z,vb aa,vi ab,vb ac,vs ae,vl i j k,vi af,vb aX,vb aY,vb aZ,vi a0,vb a1,vs a2,vl ax ay az,vi a3] 64 (0,0))::F11)))∨(∃bC:List PanicEntry,e8=.panicked bC∧∃F12:cR,List.Perm G8 ((w,Obj.cells #[vp x] 92 (0,0))::(a,Obj.cells #[vi e] 3 (0,0))::(b,nO 0 0 0 0 0 (⟨#[]⟩:Bs) none 0 0 0)::(ai,nO y z aa ab ac ae i j k af)::F12)∧Q (.panicked bC) I9 F12)))∨(∃bD:List PanicEntry,e7=.panicked bD∧∃F13:cR,List.Perm G7 ((w,Obj.cells #[vp x] 92 (0,0))::(a,Obj.cells #[vi e] 3 (0,0))::(b,nO 0 0 0 0 0 (⟨#[]⟩:Bs) none 0 0 0)::(ai,nO y z aa ab ac ae i j k af)::F13)∧Q (.panicked bD) I8 F13))))) (Q (.returned (nV y z aa ab ac ae i j k af)) I3 F3))))∨(∃bE:List PanicEntry,e2=.panicked bE∧∃(a4:OA) (ao:Int),∃F14:cR,List.Perm G2 ((w,Obj.cells #[vp a4] 92 (0,0))::(a,Obj.cells #[vi ao] 3 (0,0))::(b,nO 0 0 0 0 0 (⟨#[]⟩:Bs) none 0 0 0)::F14)∧Q (.panicked bE) I2 F14))) (eg P 115 #[vi aj] I ((al w)::(ah a)::(b,nO 0 0 0 0 0 (⟨#[]⟩:Bs) none 0 0 0)::·) F fun e9 I10 G9=>∃(ap:OA) (aq ar:Nat) (a5:Int),e9=.returned (.tuple #[vl ap aq ar,vb a5])∧G9 fun F15=>cU P 113 (#[vp (some p),vi d]) I10 ((al w)::(ah a)::(b,nO 0 0 0 0 0 (⟨#[]⟩:Bs) none 0 0 0)::F15) fun bN I11 G10=>((∃(a6 a7 a8 a9 ba:Int) (bb:Bs) (aA:OA) (aB aC:Nat) (bc:Int),bN=.returned (nV a6 a7 a8 a9 ba bb aA aB aC bc)∧∃F16:cR,List.Perm G10 ((al w)::(ah a)::(b,nO 0 0 0 0 0 (⟨#[]⟩:Bs) none 0 0 0)::F16)∧∀ag:Nat,(∃m6:Nat,Inv18 0 (some p) aj a6 a7 a8 a9 ba bb aA aB aC bc m6 I11 F16)∧∀(ak:Int) (l:OA) (c n o q s t:Int) (u:Bs) (f:OA) (g h:Nat) (v:Int) (m7:Nat) (I12:cS) (F17:cR),cS.le I11 I12→Inv18 ak l c n o q s t u f g h v m7 I12 F17→(It (c != 4) (dt P 104 #[vp l,vl ap aq ar] I12 ((w,Obj.cells #[vp l] 92 (0,0))::(a,Obj.cells #[vi c] 3 (0,0))::(b,nO 0 0 0 0 0 (⟨#[]⟩:Bs) none 0 0 0)::(ag,nO n o q s t u f g h v)::·) F17 vi fun r3 I13 F18=>(Dt (r3<0) (Q (.returned (nV n o q s t u f g h v)) I13 F18) (∃bF:Addr,l=some bF∧∃(m8:Int),Rd I13 ((w,Obj.cells #[vp l] 92 (0,0))::(a,Obj.cells #[vi c] 3 (0,0))::(b,nO 0 0 0 0 0 (⟨#[]⟩:Bs) none 0 0 0)::(ag,nO n o q s t u f g h v)::F18) ((bF.add 1).add 4) [vi m8]∧cU P 64 #[vp l] I13 ((w,Obj.cells #[vp l] 92 (0,0))::(a,Obj.cells #[vi c] 3 (0,0))::(b,nO 0 0 0 0 0 (⟨#[]⟩:Bs) none 0 0 0)::(ag,nO n o q s t u f g h v)::F18) fun bO I14 G12=>((bO=.returned (.tuple #[])∧∃F19:cR,List.Perm G12 ((w,Obj.cells #[vp l] 92 (0,0))::(a,Obj.cells #[vi c] 3 (0,0))::(b,nO 0 0 0 0 0 (⟨#[]⟩:Bs) none 0 0 0)::(ag,nO n o q s t u f g h v)::F19)∧cU P 113 (#[vp (some p),vi d]) I14 ((w,Obj.cells #[vp l] 92 (0,0))::(a,Obj.cells #[vi c] 3 (0,0))::(b,nO 0 0 0 0 0 (⟨#[]⟩:Bs) none 0 0 0)::(ag,nO n o q s t u f g h v)::F19) fun bP I15 G13=>((∃(bd be bf bg bh:Int) (bi:Bs) (aD:OA) (aE aF:Nat) (bj:Int),bP=.returned (nV bd be bf bg bh bi aD aE aF bj)∧∃F20:cR,List.Perm G13 ((w,Obj.cells #[vp l] 92 (0,0))::(a,Obj.cells #[vi c] 3 (0,0))::(b,nO 0 0 0 0 0 (⟨#[]⟩:Bs) none 0 0 0)::(ag,nO n o q s t u f g h v)::F20)∧∀b3:Nat,(∃m9:Nat,m9<m7∧Inv18 (wr (ak+1)) l c 6 (IntKind.wrap .u8 (a5+(IntKind.wrap .u8 r3))) 0 0 0 (⟨#[]⟩:Bs) (some ⟨b3,0,none⟩) 2 2 m8 m9 I15 ((b3,Obj.cells #[vb n,vb o,vb q,vi s,vb t,vs u,vl f g h,vi v,vb bd,vb be,vb bf,vi bg,vb bh,vs bi,vl aD aE aF,vi bj] 64 (0,0))::F20)))∨(∃bG:List PanicEntry,bP=.panicked bG∧∃F21:cR,List.Perm G13 ((w,Obj.cells #[vp l] 92 (0,0))::(a,Obj.cells #[vi c] 3 (0,0))::(b,nO 0 0 0 0 0 (⟨#[]⟩:Bs) none 0 0 0)::(ag,nO n o q s t u f g h v)::F21)∧Q (.panicked bG) I15 F21)))∨(∃bH:List PanicEntry,bO=.panicked bH∧∃F22:cR,List.Perm G12 ((w,Obj.cells #[vp l] 92 (0,0))::(a,Obj.cells #[vi c] 3 (0,0))::(b,nO 0 0 0 0 0 (⟨#[]⟩:Bs) none 0 0 0)::(ag,nO n o q s t u f g h v)::F22)∧Q (.panicked bH) I14 F22))))) (It (ak==0) (dt P 104 #[vp l,vl ap aq ar] I12 ((w,Obj.cells #[vp l] 92 (0,0))::(a,Obj.cells #[vi c] 3 (0,0))::(b,nO 0 0 0 0 0 (⟨#[]⟩:Bs) none 0 0 0)::(ag,nO n o q s t u f g h v)::·) F17 vi fun r4 I16 F23=>(Dt (r4<0) (Q (.returned (nV n o q s t u f g h v)) I16 F23) (∃bI:Addr,l=some bI∧∃(bz:Int),Rd I16 ((w,Obj.cells #[vp l] 92 (0,0))::(a,Obj.cells #[vi c] 3 (0,0))::(b,nO 0 0 0 0 0 (⟨#[]⟩:Bs) none 0 0 0)::(ag,nO n o q s t u f g h v)::F23) ((bI.add 1).add 4) [vi bz]∧cU P 64 #[vp l] I16 ((w,Obj.cells #[vp l] 92 (0,0))::(a,Obj.cells #[vi c] 3 (0,0))::(b,nO 0 0 0 0 0 (⟨#[]⟩:Bs) none 0 0 0)::(ag,nO n o q s t u f g h v)::F23) fun bQ I17 G15=>((bQ=.returned (.tuple #[])∧∃F24:cR,List.Perm G15 ((w,Obj.cells #[vp l] 92 (0,0))::(a,Obj.cells #[vi c] 3 (0,0))::(b,nO 0 0 0 0 0 (⟨#[]⟩:Bs) none 0 0 0)::(ag,nO n o q s t u f g h v)::F24)∧cU P 113 (#[vp (some p),vi d]) I17 ((w,Obj.cells #[vp l] 92 (0,0))::(a,Obj.cells #[vi c] 3 (0,0))::(b,nO 0 0 0 0 0 (⟨#[]⟩:Bs) none 0 0 0)::(ag,nO n o q s t u f g h v)::F24) fun bR I18 G16=>((∃(bk bl bm bn bo:Int) (bp:Bs) (aG:OA) (aH aI:Nat) (bq:Int),bR=.returned (nV bk bl bm bn bo bp aG aH aI bq)∧∃F25:cR,List.Perm G16 ((w,Obj.cells #[vp l] 92 (0,0))::(a,Obj.cells #[vi c] 3 (0,0))::(b,nO 0 0 0 0 0 (⟨#[]⟩:Bs) none 0 0 0)::(ag,nO n o q s t u f g h v)::F25)∧∀b4:Nat,(∃bJ:Nat,bJ<m7∧Inv18 (wr (ak+1)) l c 6 (IntKind.wrap .u8 (a5+(IntKind.wrap .u8 r4))) 0 0 0 (⟨#[]⟩:Bs) (some ⟨b4,0,none⟩) 2 2 bz bJ I18 ((b4,Obj.cells #[vb n,vb o,vb q,vi s,vb t,vs u,vl f g h,vi v,vb bk,vb bl,vb bm,vi bn,vb bo,vs bp,vl aG aH aI,vi bq] 64 (0,0))::F25)))∨(∃bK:List PanicEntry,bR=.panicked bK∧∃F26:cR,List.Perm G16 ((w,Obj.cells #[vp l] 92 (0,0))::(a,Obj.cells #[vi c] 3 (0,0))::(b,nO 0 0 0 0 0 (⟨#[]⟩:Bs) none 0 0 0)::(ag,nO n o q s t u f g h v)::F26)∧Q (.panicked bK) I18 F26)))∨(∃bL:List PanicEntry,bQ=.panicked bL∧∃F27:cR,List.Perm G15 ((w,Obj.cells #[vp l] 92 (0,0))::(a,Obj.cells #[vi c] 3 (0,0))::(b,nO 0 0 0 0 0 (⟨#[]⟩:Bs) none 0 0 0)::(ag,nO n o q s t u f g h v)::F27)∧Q (.panicked bL) I17 F27))))) (Q (.returned (nV n o q s t u f g h v)) I12 F17))))∨(∃bM:List PanicEntry,bN=.panicked bM∧∃F28:cR,List.Perm G10 ((al w)::(ah a)::(b,nO 0 0 0 0 0 (⟨#[]⟩:Bs) none 0 0 0)::F28)∧Q (.panicked bM) I11 F28))))
theorem iD.vc{p:Addr}{e d:Int}{I:cS}{F:cR}{Q:cT}(Inv18:Int→OA→Int→Int→Int→Int→Int→Int→Bs→OA→Nat→Nat→Int→Nat→cS→cR→Prop)(h:iD.V (fun b=>(b,Obj.cells #[.pointer (some p)] 92 (0,0))) (fun b=>(b,Obj.cells #[.int .i64 e] 3 (0,0))) (fun k o t n f s a l c q=>.agg #[.int .u8 k,.int .u8 o,.int .u8 t,.int .i64 n,.int .u8 f,.string s,.slice a l c,.int .i64 q]) (fun k o t n f s a l c q=>.cells #[.int .u8 k,.int .u8 o,.int .u8 t,.int .i64 n,.int .u8 f,.string s,.slice a l c,.int .i64 q] 64 (0,0)) (.int .u8) (.int .i64) .string .slice .pointer (IntKind.wrap .i64) p e d I F Q Inv18):cU P 90 #[.pointer (some p),.int .i64 e,.int .i64 d] I F Q :=
 tw (A:=(dy [2001,7001,7004,10001] [64,113,114] [64,104,113,114,115] rb [(18,⟨[(11,(.int .i64))],[(0,[.ptr]),(1,[(.int .i64)]),(3,[(.int .u8),(.int .u8),(.int .u8),(.int .i64),(.int .u8),.str,.slc,(.int .i64)])],fun _ _ _ vs m I F=>match vs with | [.int _ y0,.pointer y1,.int _ y2,.int _ y3,.int _ y4,.int _ y5,.int _ y6,.int _ y7,.string y8,.slice y9 y10 y11,.int _ y12]=>Inv18 y0 y1 y2 y3 y4 y5 y6 y7 y8 y9 y10 y11 y12 m I F | _=>False,[],[]⟩)] [] [13008] [] [] [(13,[0,1,2,3,5,6,9,4,7,8,10,11])] [] [] [(13,[4],11)])) [64,104,113,114,115] func90 h
def gC.V(nV:Int→Int→Int→Int→Int→Bs→OA→Nat→Nat→Int→Value)(nO:Int→Int→Int→Int→Int→Bs→OA→Nat→Nat→Int→Obj)(d:Int)(c c1:Addr)(I:cS)(F:cR)(Q:cT)  : Prop:=∀b:Nat,∃(m:OA),Rd I ((b,nO 0 0 0 0 0 (⟨#[]⟩:Bs) none 0 0 0)::F) c [.pointer m]∧∃(m1:Int),Rd I ((b,nO 0 0 0 0 0 (⟨#[]⟩:Bs) none 0 0 0)::F) c1 [.int .i64 m1]∧cU P 90 (#[.pointer m,.int .i64 (IntKind.wrap .i64 (m1+1)),.int .i64 d]) I ((b,nO 0 0 0 0 0 (⟨#[]⟩:Bs) none 0 0 0)::F) fun e1 I1 G1=>((∃(g h i j k:Int) (l:Bs) (a:OA) (e f:Nat) (n:Int),e1=.returned (nV g h i j k l a e f n)∧∃F1:cR,List.Perm G1 ((b,nO 0 0 0 0 0 (⟨#[]⟩:Bs) none 0 0 0)::F1)∧Q (.returned (nV g h i j k l a e f n)) I1 F1)∨(∃ch:List PanicEntry,e1=.panicked ch∧∃F2:cR,List.Perm G1 ((b,nO 0 0 0 0 0 (⟨#[]⟩:Bs) none 0 0 0)::F2)∧Q (.panicked ch) I1 F2))
theorem gC.vc{d:Int}{c c1:Addr}{I:cS}{F:cR}{Q:cT}  (h:gC.V (fun k o t n f s a l c q=>.agg #[.int .u8 k,.int .u8 o,.int .u8 t,.int .i64 n,.int .u8 f,.string s,.slice a l c,.int .i64 q]) (fun k o t n f s a l c q=>.cells #[.int .u8 k,.int .u8 o,.int .u8 t,.int .i64 n,.int .u8 f,.string s,.slice a l c,.int .i64 q] 64 (0,0)) d c c1 I F Q):cU P 114 #[.int .i64 d,.pointer (some c),.pointer (some c1)] I F Q :=
 tw (A:=(dy [] [90] [90] rb [] [] [] [] [] [] [])) [90] func114 h
def g9.V(nV:Int→Int→Int→Int→Int→Bs→OA→Nat→Nat→Int→Value)(nO:Int→Int→Int→Int→Int→Bs→OA→Nat→Nat→Int→Obj)(vb vi:Int→Value)(vs:Bs→Value)(vl:OA→Nat→Nat→Value)(vp:OA→Value)(p:Addr)(d:Int)(I:cS)(F:cR)(Q:cT)  : Prop:=∀b:Nat,cU P 90 (#[vp (some p),vi 2,vi d]) I ((b,nO 0 0 0 0 0 (⟨#[]⟩:Bs) none 0 0 0)::F) fun e1 I1 G1=>((∃(f g h i j:Int) (k:Bs) (a:OA) (c e:Nat) (l:Int),e1=.returned (nV f g h i j k a c e l)∧∃F1:cR,List.Perm G1 ((b,nO 0 0 0 0 0 (⟨#[]⟩:Bs) none 0 0 0)::F1)∧∀s:Nat,dt P 91 (#[vp (some p),vs (⟨#[63]⟩:Bs)]) I1 ((b,nO 0 0 0 0 0 (⟨#[]⟩:Bs) none 0 0 0)::(s,nO f g h i j k a c e l)::·) F1 .bool fun r I2 F2=>(It (!r) (Q (.returned (nV f g h i j k a c e l)) I2 F2) (∃(hb:Nat) (ho:Obj) (F3:cR),List.Perm F2 ((hb,ho)::F3)∧∃ad:Addr,some p=some ad∧∃(m:Int),Rd (cS.put I2 hb ho) ([]) ((ad.add 1).add 4) [vi m]∧cU P 92 (#[vp (some p),vi d]) (cS.put I2 hb ho) ((b,nO 0 0 0 0 0 (⟨#[]⟩:Bs) none 0 0 0)::(s,nO f g h i j k a c e l)::F3) fun e3 I3 G3=>((∃(r1:Int),e3=.returned (vi r1)∧∃F4:cR,List.Perm G3 ((b,nO 0 0 0 0 0 (⟨#[]⟩:Bs) none 0 0 0)::(s,nO f g h i j k a c e l)::F4)∧cU P 64 (#[vp (some p)]) (cS.del I3 hb) ((b,nO 0 0 0 0 0 (⟨#[]⟩:Bs) none 0 0 0)::(s,nO f g h i j k a c e l)::((hb,ho)::F4)) fun e4 I4 G4=>((e4=.returned (.tuple #[])∧∃F5:cR,List.Perm G4 ((b,nO 0 0 0 0 0 (⟨#[]⟩:Bs) none 0 0 0)::(s,nO f g h i j k a c e l)::F5)∧cU P 47 (#[vp (some p),vi r1]) I4 ((b,nO 0 0 0 0 0 (⟨#[]⟩:Bs) none 0 0 0)::(s,nO f g h i j k a c e l)::F5) fun e5 I5 G5=>((∃(t u v w x:Int) (y:Bs) (n:OA) (o q:Nat) (z:Int),e5=.returned (nV t u v w x y n o q z)∧∃F6:cR,List.Perm G5 ((b,nO 0 0 0 0 0 (⟨#[]⟩:Bs) none 0 0 0)::(s,nO f g h i j k a c e l)::F6)∧∀aa:Nat,∀(b1:Nat) (I6:cS),cS.le I5 I6→I6 b1=some (Obj.cells #[vs (⟨#[58]⟩:Bs)] 9 (0,0))→cU P 66 (#[vp (some p),vl (some ⟨b1,0,none⟩) 1 1]) I6 ((b,nO 0 0 0 0 0 (⟨#[]⟩:Bs) none 0 0 0)::(s,nO f g h i j k a c e l)::(aa,nO t u v w x y n o q z)::F6) fun e6 I7 G6=>((∃(r2:Int),e6=.returned (vi r2)∧∃F7:cR,List.Perm G6 ((b,nO 0 0 0 0 0 (⟨#[]⟩:Bs) none 0 0 0)::(s,nO f g h i j k a c e l)::(aa,nO t u v w x y n o q z)::F7)∧cU P 47 (#[vp (some p),vi r1]) I7 ((b,nO 0 0 0 0 0 (⟨#[]⟩:Bs) none 0 0 0)::(s,nO f g h i j k a c e l)::(aa,nO t u v w x y n o q z)::F7) fun e7 I8 G7=>((∃(af ag ah ai aj:Int) (ak:Bs) (ab:OA) (ac ae:Nat) (al:Int),e7=.returned (nV af ag ah ai aj ak ab ac ae al)∧∃F8:cR,List.Perm G7 ((b,nO 0 0 0 0 0 (⟨#[]⟩:Bs) none 0 0 0)::(s,nO f g h i j k a c e l)::(aa,nO t u v w x y n o q z)::F8)∧∀b2:Nat,Q (.returned (nV 7 0 0 0 0 (⟨#[]⟩:Bs) (some ⟨b2,0,none⟩) 3 3 m)) I8 (((b2,Obj.cells #[vb f,vb g,vb h,vi i,vb j,vs k,vl a c e,vi l,vb t,vb u,vb v,vi w,vb x,vs y,vl n o q,vi z,vb af,vb ag,vb ah,vi ai,vb aj,vs ak,vl ab ac ae,vi al] 64 (0,0))::F8)))∨(∃ch:List PanicEntry,e7=.panicked ch∧∃F9:cR,List.Perm G7 ((b,nO 0 0 0 0 0 (⟨#[]⟩:Bs) none 0 0 0)::(s,nO f g h i j k a c e l)::(aa,nO t u v w x y n o q z)::F9)∧Q (.panicked ch) I8 F9)))∨(∃am:List PanicEntry,e6=.panicked am∧∃F10:cR,List.Perm G6 ((b,nO 0 0 0 0 0 (⟨#[]⟩:Bs) none 0 0 0)::(s,nO f g h i j k a c e l)::(aa,nO t u v w x y n o q z)::F10)∧Q (.panicked am) I7 F10)))∨(∃an:List PanicEntry,e5=.panicked an∧∃F11:cR,List.Perm G5 ((b,nO 0 0 0 0 0 (⟨#[]⟩:Bs) none 0 0 0)::(s,nO f g h i j k a c e l)::F11)∧Q (.panicked an) I5 F11)))∨(∃ao:List PanicEntry,e4=.panicked ao∧∃F12:cR,List.Perm G4 ((b,nO 0 0 0 0 0 (⟨#[]⟩:Bs) none 0 0 0)::(s,nO f g h i j k a c e l)::F12)∧Q (.panicked ao) I4 F12)))∨(∃ap:List PanicEntry,e3=.panicked ap∧∃F13:cR,List.Perm G3 ((b,nO 0 0 0 0 0 (⟨#[]⟩:Bs) none 0 0 0)::(s,nO f g h i j k a c e l)::F13)∧Q (.panicked ap) (cS.del I3 hb) (((hb,ho)::F13)))))))∨(∃aq:List PanicEntry,e1=.panicked aq∧∃F14:cR,List.Perm G1 ((b,nO 0 0 0 0 0 (⟨#[]⟩:Bs) none 0 0 0)::F14)∧Q (.panicked aq) I1 F14))
theorem g9.vc{p:Addr}{d:Int}{I:cS}{F:cR}{Q:cT}  (h:g9.V (fun k o t n f s a l c q=>.agg #[.int .u8 k,.int .u8 o,.int .u8 t,.int .i64 n,.int .u8 f,.string s,.slice a l c,.int .i64 q]) (fun k o t n f s a l c q=>.cells #[.int .u8 k,.int .u8 o,.int .u8 t,.int .i64 n,.int .u8 f,.string s,.slice a l c,.int .i64 q] 64 (0,0)) (.int .u8) (.int .i64) .string .slice .pointer p d I F Q):cU P 47 #[.pointer (some p),.int .i64 d] I F Q :=
 tw (A:=(dy [2002] [47,64,66,90,92] [47,64,66,90,91,92] rb [] [7001] [8005] [] [] [(4,[0,1,3,4,5,6,7,2,8,9]),(8,[2,3,6,0,1,4,5,7,8])] [] [] [(4,[7,1000],10),(8,[0,1],8)])) [47,64,66,90,91,92] func47 h
def gD.V(nV:Int→Int→Int→Int→Int→Bs→OA→Nat→Nat→Int→Value)(nO:Int→Int→Int→Int→Int→Bs→OA→Nat→Nat→Int→Obj)(vb vi:Int→Value)(vp:OA→Value)(p:Addr)(d:Int)(I:cS)(F:cR)(Q:cT)  : Prop:=∀b:Nat,∀(b1:Nat) (I1:cS),cS.le I I1→I1 b1=some (Obj.cells #[.string (⟨#[45]⟩:Bs),.string (⟨#[33]⟩:Bs)] 9 (0,0))→dt P 104 (#[vp (some p),.slice (some ⟨b1,0,none⟩) 2 2]) I1 ((b,nO 0 0 0 0 0 (⟨#[]⟩:Bs) none 0 0 0)::·) F vi fun r I2 F1=>(Dt (r<0) (cU P 128 (#[vp (some p),vi d]) I2 ((b,nO 0 0 0 0 0 (⟨#[]⟩:Bs) none 0 0 0)::F1) fun e2 I3 G2=>((∃(s t u v w:Int) (x:Bs) (f:OA) (g h:Nat) (y:Int),e2=.returned (nV s t u v w x f g h y)∧∃F2:cR,List.Perm G2 ((b,nO 0 0 0 0 0 (⟨#[]⟩:Bs) none 0 0 0)::F2)∧Q (.returned (nV s t u v w x f g h y)) I3 F2)∨(∃ch:List PanicEntry,e2=.panicked ch∧∃F3:cR,List.Perm G2 ((b,nO 0 0 0 0 0 (⟨#[]⟩:Bs) none 0 0 0)::F3)∧Q (.panicked ch) I3 F3))) (∃(hb:Nat) (ho:Obj) (F4:cR),List.Perm F1 ((hb,ho)::F4)∧∃ad:Addr,some p=some ad∧∃(m:Int),Rd (cS.put I2 hb ho) ([]) ((ad.add 1).add 4) [vi m]∧cU P 92 (#[vp (some p),vi d]) (cS.put I2 hb ho) ((b,nO 0 0 0 0 0 (⟨#[]⟩:Bs) none 0 0 0)::F4) fun e3 I4 G3=>((∃(r1:Int),e3=.returned (vi r1)∧∃F5:cR,List.Perm G3 ((b,nO 0 0 0 0 0 (⟨#[]⟩:Bs) none 0 0 0)::F5)∧cU P 64 (#[vp (some p)]) (cS.del I4 hb) ((b,nO 0 0 0 0 0 (⟨#[]⟩:Bs) none 0 0 0)::((hb,ho)::F5)) fun e4 I5 G4=>((e4=.returned (.tuple #[])∧∃F6:cR,List.Perm G4 ((b,nO 0 0 0 0 0 (⟨#[]⟩:Bs) none 0 0 0)::F6)∧cU P 113 (#[vp (some p),vi r1]) I5 ((b,nO 0 0 0 0 0 (⟨#[]⟩:Bs) none 0 0 0)::F6) fun e5 I6 G5=>((∃(i j k l n:Int) (o:Bs) (a:OA) (c e:Nat) (q:Int),e5=.returned (nV i j k l n o a c e q)∧∃F7:cR,List.Perm G5 ((b,nO 0 0 0 0 0 (⟨#[]⟩:Bs) none 0 0 0)::F7)∧∀b2:Nat,Q (.returned (.agg #[vb 5,vb (IntKind.wrap .u8 (1+(IntKind.wrap .u8 r))),vb 0,vi 0,vb 0,.string (⟨#[]⟩:Bs),.slice (some ⟨b2,0,none⟩) 1 1,vi m])) I6 (((b2,nO i j k l n o a c e q)::F7)))∨(∃z:List PanicEntry,e5=.panicked z∧∃F8:cR,List.Perm G5 ((b,nO 0 0 0 0 0 (⟨#[]⟩:Bs) none 0 0 0)::F8)∧Q (.panicked z) I6 F8)))∨(∃aa:List PanicEntry,e4=.panicked aa∧∃F9:cR,List.Perm G4 ((b,nO 0 0 0 0 0 (⟨#[]⟩:Bs) none 0 0 0)::F9)∧Q (.panicked aa) I5 F9)))∨(∃ab:List PanicEntry,e3=.panicked ab∧∃F10:cR,List.Perm G3 ((b,nO 0 0 0 0 0 (⟨#[]⟩:Bs) none 0 0 0)::F10)∧Q (.panicked ab) (cS.del I4 hb) (((hb,ho)::F10))))))
theorem gD.vc{p:Addr}{d:Int}{I:cS}{F:cR}{Q:cT}  (h:gD.V (fun k o t n f s a l c q=>.agg #[.int .u8 k,.int .u8 o,.int .u8 t,.int .i64 n,.int .u8 f,.string s,.slice a l c,.int .i64 q]) (fun k o t n f s a l c q=>.cells #[.int .u8 k,.int .u8 o,.int .u8 t,.int .i64 n,.int .u8 f,.string s,.slice a l c,.int .i64 q] 64 (0,0)) (.int .u8) (.int .i64) .pointer p d I F Q):cU P 113 #[.pointer (some p),.int .i64 d] I F Q :=
 tw (A:=(dy [2001] [64,92,113,128] [64,92,104,113,128] rb [] [1001] [6006] [] [] [(4,[0,1,3,4,5,6,7,2,8,9])] [] [] [(4,[7,1000],10)])) [64,92,104,113,128] func113 h
def hU.V(nV:Int→Int→Int→Int→Int→Bs→OA→Nat→Nat→Int→Value)(nO:Int→Int→Int→Int→Int→Bs→OA→Nat→Nat→Int→Obj)(vi:Int→Value)(vl:OA→Nat→Nat→Value)(vp:OA→Value)(p:Addr)(t u w y z:Int)(aa:Bs)(o:OA)(q s:Nat)(aL ai d:Int)(I:cS)(F:cR)(Q:cT)(Inv14:Int→Int→Int→Int→Int→Int→Bs→OA→Nat→Nat→Int→Nat→cS→cR→Prop):Prop:=∀n:Nat,∀b:Nat,∃ad:Addr,some p=some ad∧∃(m:Int),Rd I ((n,nO t u w y z aa o q s aL)::(b,nO 0 0 0 0 0 (⟨#[]⟩:Bs) none 0 0 0)::F) ((ad.add 1).add 4) [vi m]∧cU P 92 (#[vp (some p),vi d]) I ((n,nO t u w y z aa o q s m)::(b,nO 0 0 0 0 0 (⟨#[]⟩:Bs) none 0 0 0)::F) fun e1 I1 G1=>((∃(r:Int),e1=.returned (vi r)∧∃F1:cR,List.Perm G1 ((n,nO t u w y z aa o q s m)::(b,nO 0 0 0 0 0 (⟨#[]⟩:Bs) none 0 0 0)::F1)∧cU P 64 (#[vp (some p)]) I1 ((n,nO t u w y z aa o q s m)::(b,nO 0 0 0 0 0 (⟨#[]⟩:Bs) none 0 0 0)::F1) fun e2 I2 G2=>((e2=.returned (.tuple #[])∧∃F2:cR,List.Perm G2 ((n,nO t u w y z aa o q s m)::(b,nO 0 0 0 0 0 (⟨#[]⟩:Bs) none 0 0 0)::F2)∧∀(b1:Nat) (I3:cS),cS.le I2 I3→I3 b1=some (Obj.cells #[.string (⟨#[40]⟩:Bs)] 9 (0,0))→cU P 66 (#[vp (some p),vl (some ⟨b1,0,none⟩) 1 1]) I3 ((n,nO t u w y z aa o q s m)::(b,nO 0 0 0 0 0 (⟨#[]⟩:Bs) none 0 0 0)::F2) fun e3 I4 G3=>((∃(r1:Int),e3=.returned (vi r1)∧∃F3:cR,List.Perm G3 ((n,nO t u w y z aa o q s m)::(b,nO 0 0 0 0 0 (⟨#[]⟩:Bs) none 0 0 0)::F3)∧(∃m1:Nat,Inv14 0 t u w y z aa o q s m m1 I4 F3)∧∀(x f g h i j:Int) (k:Bs) (a:OA) (c e:Nat) (l:Int) (m2:Nat) (I5:cS) (F4:cR),cS.le I4 I5→Inv14 x f g h i j k a c e l m2 I5 F4→(Dt (x<ai) (Dt (x>0) (∀(b2:Nat) (I6:cS),cS.le I5 I6→I6 b2=some (Obj.cells #[.string (⟨#[44]⟩:Bs)] 9 (0,0))→cU P 66 (#[vp (some p),vl (some ⟨b2,0,none⟩) 1 1]) I6 ((n,nO f g h i j k a c e l)::(b,nO 0 0 0 0 0 (⟨#[]⟩:Bs) none 0 0 0)::F4) fun e4 I7 G4=>((∃(r2:Int),e4=.returned (vi r2)∧∃F5:cR,List.Perm G4 ((n,nO f g h i j k a c e l)::(b,nO 0 0 0 0 0 (⟨#[]⟩:Bs) none 0 0 0)::F5)∧cU P 47 (#[vp (some p),vi r]) I7 ((n,nO f g h i j k a c e l)::(b,nO 0 0 0 0 0 (⟨#[]⟩:Bs) none 0 0 0)::F5) fun e5 I8 G5=>((∃(av aw ax ay az:Int) (aA:Bs) (af:OA) (ag ah:Nat) (aB:Int),e5=.returned (nV av aw ax ay az aA af ag ah aB)∧∃F6:cR,List.Perm G5 ((n,nO f g h i j k a c e l)::(b,nO 0 0 0 0 0 (⟨#[]⟩:Bs) none 0 0 0)::F6)∧∀(b3:Nat) (I9:cS),cS.le I8 I9→I9 b3=some (nO av aw ax ay az aA af ag ah aB)→dk P (Builtin.append_ #[62,62] 62 #[vl a c e,vl (some ⟨b3,0,none⟩) 1 1]) I9 ((n,nO f g h i j k a c e l)::(b,nO 0 0 0 0 0 (⟨#[]⟩:Bs) none 0 0 0)::F6) fun v I10 G6=>∃(aC:OA) (aD aE:Nat),v=vl aC aD aE∧∃F7:cR,List.Perm G6 ((n,nO f g h i j k a c e l)::(b,nO 0 0 0 0 0 (⟨#[]⟩:Bs) none 0 0 0)::F7)∧(∃m3:Nat,m3<m2∧Inv14 (IntKind.wrap .i64 (x+1)) f g h i j k aC aD aE l m3 I10 F7))∨(∃ch:List PanicEntry,e5=.panicked ch∧∃F8:cR,List.Perm G5 ((n,nO f g h i j k a c e l)::(b,nO 0 0 0 0 0 (⟨#[]⟩:Bs) none 0 0 0)::F8)∧Q (.panicked ch) I8 F8)))∨(∃aF:List PanicEntry,e4=.panicked aF∧∃F9:cR,List.Perm G4 ((n,nO f g h i j k a c e l)::(b,nO 0 0 0 0 0 (⟨#[]⟩:Bs) none 0 0 0)::F9)∧Q (.panicked aF) I7 F9))) (cU P 47 (#[vp (some p),vi r]) I5 ((n,nO f g h i j k a c e l)::(b,nO 0 0 0 0 0 (⟨#[]⟩:Bs) none 0 0 0)::F4) fun e6 I11 G7=>((∃(aj ak al am an:Int) (ao:Bs) (ab:OA) (ac ae:Nat) (ap:Int),e6=.returned (nV aj ak al am an ao ab ac ae ap)∧∃F10:cR,List.Perm G7 ((n,nO f g h i j k a c e l)::(b,nO 0 0 0 0 0 (⟨#[]⟩:Bs) none 0 0 0)::F10)∧∀(b4:Nat) (I12:cS),cS.le I11 I12→I12 b4=some (nO aj ak al am an ao ab ac ae ap)→dk P (Builtin.append_ #[62,62] 62 #[vl a c e,vl (some ⟨b4,0,none⟩) 1 1]) I12 ((n,nO f g h i j k a c e l)::(b,nO 0 0 0 0 0 (⟨#[]⟩:Bs) none 0 0 0)::F10) fun v1 I13 G8=>∃(aq:OA) (ar au:Nat),v1=vl aq ar au∧∃F11:cR,List.Perm G8 ((n,nO f g h i j k a c e l)::(b,nO 0 0 0 0 0 (⟨#[]⟩:Bs) none 0 0 0)::F11)∧(∃m4:Nat,m4<m2∧Inv14 (IntKind.wrap .i64 (x+1)) f g h i j k aq ar au l m4 I13 F11))∨(∃aG:List PanicEntry,e6=.panicked aG∧∃F12:cR,List.Perm G7 ((n,nO f g h i j k a c e l)::(b,nO 0 0 0 0 0 (⟨#[]⟩:Bs) none 0 0 0)::F12)∧Q (.panicked aG) I11 F12)))) (∀(b5:Nat) (I14:cS),cS.le I5 I14→I14 b5=some (Obj.cells #[.string (⟨#[41]⟩:Bs)] 9 (0,0))→cU P 66 (#[vp (some p),vl (some ⟨b5,0,none⟩) 1 1]) I14 ((n,nO f g h i j k a c e l)::(b,nO 0 0 0 0 0 (⟨#[]⟩:Bs) none 0 0 0)::F4) fun e7 I15 G9=>((∃(r3:Int),e7=.returned (vi r3)∧∃F13:cR,List.Perm G9 ((n,nO f g h i j k a c e l)::(b,nO 0 0 0 0 0 (⟨#[]⟩:Bs) none 0 0 0)::F13)∧Q (.returned (nV f g h i j k a c e l)) I15 F13)∨(∃aH:List PanicEntry,e7=.panicked aH∧∃F14:cR,List.Perm G9 ((n,nO f g h i j k a c e l)::(b,nO 0 0 0 0 0 (⟨#[]⟩:Bs) none 0 0 0)::F14)∧Q (.panicked aH) I15 F14)))))∨(∃aI:List PanicEntry,e3=.panicked aI∧∃F15:cR,List.Perm G3 ((n,nO t u w y z aa o q s m)::(b,nO 0 0 0 0 0 (⟨#[]⟩:Bs) none 0 0 0)::F15)∧Q (.panicked aI) I4 F15)))∨(∃aJ:List PanicEntry,e2=.panicked aJ∧∃F16:cR,List.Perm G2 ((n,nO t u w y z aa o q s m)::(b,nO 0 0 0 0 0 (⟨#[]⟩:Bs) none 0 0 0)::F16)∧Q (.panicked aJ) I2 F16)))∨(∃aK:List PanicEntry,e1=.panicked aK∧∃F17:cR,List.Perm G1 ((n,nO t u w y z aa o q s m)::(b,nO 0 0 0 0 0 (⟨#[]⟩:Bs) none 0 0 0)::F17)∧Q (.panicked aK) I1 F17))
theorem hU.vc{p:Addr}{j r u v w:Int}{x:Bs}{b:OA}{e g:Nat}{y i d:Int}{I:cS}{F:cR}{Q:cT}(Inv14:Int→Int→Int→Int→Int→Int→Bs→OA→Nat→Nat→Int→Nat→cS→cR→Prop)(h:hU.V (fun k o t n f s a l c q=>.agg #[.int .u8 k,.int .u8 o,.int .u8 t,.int .i64 n,.int .u8 f,.string s,.slice a l c,.int .i64 q]) (fun k o t n f s a l c q=>.cells #[.int .u8 k,.int .u8 o,.int .u8 t,.int .i64 n,.int .u8 f,.string s,.slice a l c,.int .i64 q] 64 (0,0)) (.int .i64) .slice .pointer p j r u v w x b e g y i d I F Q Inv14):cU P 143 #[.pointer (some p),.agg #[.int .u8 j,.int .u8 r,.int .u8 u,.int .i64 v,.int .u8 w,.string x,.slice b e g,.int .i64 y],.int .i64 i,.int .i64 d] I F Q :=
 tw (A:=(dy [6000,8001] [47,64,66,92] [47,64,66,92] rb [(14,⟨[(26,(.int .i64))],[(0,[(.int .u8),(.int .u8),(.int .u8),(.int .i64),(.int .u8),.str,.slc,(.int .i64)])],fun _ _ _ vs m I F=>match vs with | [.int _ y0,.int _ y1,.int _ y2,.int _ y3,.int _ y4,.int _ y5,.string y6,.slice y7 y8 y9,.int _ y10]=>Inv14 y0 y1 y2 y3 y4 y5 y6 y7 y8 y9 y10 m I F | _=>False,[],[]⟩)] [4001,9001,10005,12001] [] [] [] [(10,[0,2,3,1,4,5,6,7,8])] [] [] [(10,[1],8)])) [47,64,66,92] func143 h
def fP.V(nV:Int→Int→Int→Int→Int→Bs→OA→Nat→Nat→Int→Value)(nO:Int→Int→Int→Int→Int→Bs→OA→Nat→Nat→Int→Obj)(vb vi:Int→Value)(vs:Bs→Value)(vl:OA→Nat→Nat→Value)(vp:OA→Value)(p:Addr)(d:Int)(I:cS)(F:cR)(Q:cT)  : Prop:=∀b:Nat,cU P 105 (#[vp (some p)]) I ((b,nO 0 0 0 0 0 (⟨#[]⟩:Bs) none 0 0 0)::F) fun e1 I1 G1=>((∃(f g h i j:Int) (k:Bs) (a:OA) (c e:Nat) (l:Int) (r1:Bool),e1=.returned (.tuple #[nV f g h i j k a c e l,.bool r1])∧∃F1:cR,List.Perm G1 ((b,nO 0 0 0 0 0 (⟨#[]⟩:Bs) none 0 0 0)::F1)∧∀n:Nat,(It r1 (Q (.returned (nV f g h i j k a c e l)) I1 F1) (∃ad:Addr,some p=some ad∧∃(m:Int),Rd I1 ((b,nO 0 0 0 0 0 (⟨#[]⟩:Bs) none 0 0 0)::(n,nO f g h i j k a c e l)::F1) ((ad.add 1).add 4) [vi m]∧∃aW:Addr,some p=some aW∧∃(m1:Int),Rd I1 ((b,nO 0 0 0 0 0 (⟨#[]⟩:Bs) none 0 0 0)::(n,nO f g h i j k a c e l)::F1) ((aW.add 1).add 0) [vb m1]∧(It (m1==2) (cU P 67 (#[vp (some p)]) I1 ((b,nO 0 0 0 0 0 (⟨#[]⟩:Bs) none 0 0 0)::(n,nO f g h i j k a c e l)::F1) fun e2 I2 G2=>((∃(r:Bs),e2=.returned (vs r)∧∃F2:cR,List.Perm G2 ((b,nO 0 0 0 0 0 (⟨#[]⟩:Bs) none 0 0 0)::(n,nO f g h i j k a c e l)::F2)∧Q (.returned (nV 2 0 0 0 0 r none 0 0 m)) I2 F2)∨(∃ch:List PanicEntry,e2=.panicked ch∧∃F3:cR,List.Perm G2 ((b,nO 0 0 0 0 0 (⟨#[]⟩:Bs) none 0 0 0)::(n,nO f g h i j k a c e l)::F3)∧Q (.panicked ch) I2 F3))) (∀(b1:Nat) (I3:cS),cS.le I1 I3→I3 b1=some (Obj.cells #[vs (⟨#[98,105,100]⟩:Bs),vs (⟨#[97,115,107]⟩:Bs),vs (⟨#[108,97,115,116]⟩:Bs),vs (⟨#[118,111,108,117,109,101]⟩:Bs),vs (⟨#[110,111,119]⟩:Bs),vs (⟨#[111,112,101,110]⟩:Bs)] 9 (0,0))→dt P 104 (#[vp (some p),vl (some ⟨b1,0,none⟩) 6 6]) I3 ((b,nO 0 0 0 0 0 (⟨#[]⟩:Bs) none 0 0 0)::(n,nO f g h i j k a c e l)::·) F1 vi fun r2 I4 F4=>(Dt (r2≥0) (cU P 64 (#[vp (some p)]) I4 ((b,nO 0 0 0 0 0 (⟨#[]⟩:Bs) none 0 0 0)::(n,nO f g h i j k a c e l)::F4) fun e4 I5 G4=>((e4=.returned (.tuple #[])∧∃F5:cR,List.Perm G4 ((b,nO 0 0 0 0 0 (⟨#[]⟩:Bs) none 0 0 0)::(n,nO f g h i j k a c e l)::F5)∧Q (.returned (.agg #[vb 3,vb 0,vb 0,vi 0,vb (IntKind.wrap .u8 (1+(IntKind.wrap .u8 r2))),vs (⟨#[]⟩:Bs),vl none 0 0,vi m])) I5 F5)∨(∃aX:List PanicEntry,e4=.panicked aX∧∃F6:cR,List.Perm G4 ((b,nO 0 0 0 0 0 (⟨#[]⟩:Bs) none 0 0 0)::(n,nO f g h i j k a c e l)::F6)∧Q (.panicked aX) I5 F6))) (∀(b2:Nat) (I6:cS),cS.le I4 I6→I6 b2=some (Obj.cells #[vs (⟨#[105,110,116]⟩:Bs),vs (⟨#[113,116,121]⟩:Bs),vs (⟨#[112,114,105,99,101]⟩:Bs),vs (⟨#[116,105,109,101]⟩:Bs)] 9 (0,0))→dt P 104 (#[vp (some p),vl (some ⟨b2,0,none⟩) 4 4]) I6 ((b,nO 0 0 0 0 0 (⟨#[]⟩:Bs) none 0 0 0)::(n,nO f g h i j k a c e l)::·) F4 vi fun r3 I7 F7=>(Dt (r3≥0) (cU P 143 (#[vp (some p),.agg #[vb 9,vb 0,vb (IntKind.wrap .u8 (1+(IntKind.wrap .u8 r3))),vi 0,vb 0,vs (⟨#[]⟩:Bs),vl none 0 0,vi 0],vi 1,vi d]) I7 ((b,nO 0 0 0 0 0 (⟨#[]⟩:Bs) none 0 0 0)::(n,nO f g h i j k a c e l)::F7) fun e6 I8 G6=>((∃(aP aQ aR aS aT:Int) (aU:Bs) (al:OA) (am an:Nat) (aV:Int),e6=.returned (nV aP aQ aR aS aT aU al am an aV)∧∃F8:cR,List.Perm G6 ((b,nO 0 0 0 0 0 (⟨#[]⟩:Bs) none 0 0 0)::(n,nO f g h i j k a c e l)::F8)∧Q (.returned (nV aP aQ aR aS aT aU al am an aV)) I8 F8)∨(∃aY:List PanicEntry,e6=.panicked aY∧∃F9:cR,List.Perm G6 ((b,nO 0 0 0 0 0 (⟨#[]⟩:Bs) none 0 0 0)::(n,nO f g h i j k a c e l)::F9)∧Q (.panicked aY) I8 F9))) (∀(b3:Nat) (I9:cS),cS.le I7 I9→I9 b3=some (Obj.cells #[vs (⟨#[97,98,115]⟩:Bs),vs (⟨#[109,105,110]⟩:Bs),vs (⟨#[109,97,120]⟩:Bs),vs (⟨#[104,97,115]⟩:Bs),vs (⟨#[40]⟩:Bs)] 9 (0,0))→dt P 104 (#[vp (some p),vl (some ⟨b3,0,none⟩) 5 5]) I9 ((b,nO 0 0 0 0 0 (⟨#[]⟩:Bs) none 0 0 0)::(n,nO f g h i j k a c e l)::·) F7 vi fun r4 I10 F10=>(It (r4==0) (cU P 143 (#[vp (some p),nV 8 3 0 0 0 (⟨#[]⟩:Bs) none 0 0 0,vi 1,vi d]) I10 ((b,nO 0 0 0 0 0 (⟨#[]⟩:Bs) none 0 0 0)::(n,nO f g h i j k a c e l)::F10) fun e8 I11 G8=>((∃(ao ap aq ar au:Int) (av:Bs) (aa:OA) (ab ac:Nat) (aw:Int),e8=.returned (nV ao ap aq ar au av aa ab ac aw)∧∃F11:cR,List.Perm G8 ((b,nO 0 0 0 0 0 (⟨#[]⟩:Bs) none 0 0 0)::(n,nO f g h i j k a c e l)::F11)∧Q (.returned (nV ao ap aq ar au av aa ab ac aw)) I11 F11)∨(∃aZ:List PanicEntry,e8=.panicked aZ∧∃F12:cR,List.Perm G8 ((b,nO 0 0 0 0 0 (⟨#[]⟩:Bs) none 0 0 0)::(n,nO f g h i j k a c e l)::F12)∧Q (.panicked aZ) I11 F12))) (It (r4==1) (cU P 143 (#[vp (some p),nV 8 4 0 0 0 (⟨#[]⟩:Bs) none 0 0 0,vi 2,vi d]) I10 ((b,nO 0 0 0 0 0 (⟨#[]⟩:Bs) none 0 0 0)::(n,nO f g h i j k a c e l)::F10) fun e9 I12 G9=>((∃(ax ay az aA aB:Int) (aC:Bs) (ae:OA) (af ag:Nat) (aD:Int),e9=.returned (nV ax ay az aA aB aC ae af ag aD)∧∃F13:cR,List.Perm G9 ((b,nO 0 0 0 0 0 (⟨#[]⟩:Bs) none 0 0 0)::(n,nO f g h i j k a c e l)::F13)∧Q (.returned (nV ax ay az aA aB aC ae af ag aD)) I12 F13)∨(∃a0:List PanicEntry,e9=.panicked a0∧∃F14:cR,List.Perm G9 ((b,nO 0 0 0 0 0 (⟨#[]⟩:Bs) none 0 0 0)::(n,nO f g h i j k a c e l)::F14)∧Q (.panicked a0) I12 F14))) (It (r4==2) (cU P 143 (#[vp (some p),nV 8 5 0 0 0 (⟨#[]⟩:Bs) none 0 0 0,vi 2,vi d]) I10 ((b,nO 0 0 0 0 0 (⟨#[]⟩:Bs) none 0 0 0)::(n,nO f g h i j k a c e l)::F10) fun a6 I13 G10=>((∃(aE aF aG aH aI:Int) (aJ:Bs) (ah:OA) (ai aj:Nat) (aK:Int),a6=.returned (nV aE aF aG aH aI aJ ah ai aj aK)∧∃F15:cR,List.Perm G10 ((b,nO 0 0 0 0 0 (⟨#[]⟩:Bs) none 0 0 0)::(n,nO f g h i j k a c e l)::F15)∧Q (.returned (nV aE aF aG aH aI aJ ah ai aj aK)) I13 F15)∨(∃a1:List PanicEntry,a6=.panicked a1∧∃F16:cR,List.Perm G10 ((b,nO 0 0 0 0 0 (⟨#[]⟩:Bs) none 0 0 0)::(n,nO f g h i j k a c e l)::F16)∧Q (.panicked a1) I13 F16))) (It (r4==3) (cU P 64 (#[vp (some p)]) I10 ((b,nO 0 0 0 0 0 (⟨#[]⟩:Bs) none 0 0 0)::(n,nO f g h i j k a c e l)::F10) fun a7 I14 G11=>((a7=.returned (.tuple #[])∧∃F17:cR,List.Perm G11 ((b,nO 0 0 0 0 0 (⟨#[]⟩:Bs) none 0 0 0)::(n,nO f g h i j k a c e l)::F17)∧∀(b4:Nat) (I15:cS),cS.le I14 I15→I15 b4=some (Obj.cells #[vs (⟨#[98,105,100]⟩:Bs),vs (⟨#[97,115,107]⟩:Bs),vs (⟨#[108,97,115,116]⟩:Bs)] 9 (0,0))→cU P 66 (#[vp (some p),vl (some ⟨b4,0,none⟩) 3 3]) I15 ((b,nO 0 0 0 0 0 (⟨#[]⟩:Bs) none 0 0 0)::(n,nO f g h i j k a c e l)::F17) fun a8 I16 G12=>((∃(r5:Int),a8=.returned (vi r5)∧∃F18:cR,List.Perm G12 ((b,nO 0 0 0 0 0 (⟨#[]⟩:Bs) none 0 0 0)::(n,nO f g h i j k a c e l)::F18)∧Q (.returned (.agg #[vb 4,vb 0,vb 0,vi 0,vb (IntKind.wrap .u8 (1+(IntKind.wrap .u8 r5))),vs (⟨#[]⟩:Bs),vl none 0 0,vi m])) I16 F18)∨(∃a2:List PanicEntry,a8=.panicked a2∧∃F19:cR,List.Perm G12 ((b,nO 0 0 0 0 0 (⟨#[]⟩:Bs) none 0 0 0)::(n,nO f g h i j k a c e l)::F19)∧Q (.panicked a2) I16 F19)))∨(∃a3:List PanicEntry,a7=.panicked a3∧∃F20:cR,List.Perm G11 ((b,nO 0 0 0 0 0 (⟨#[]⟩:Bs) none 0 0 0)::(n,nO f g h i j k a c e l)::F20)∧Q (.panicked a3) I14 F20))) (It (r4==4) (cU P 92 (#[vp (some p),vi d]) I10 ((b,nO 0 0 0 0 0 (⟨#[]⟩:Bs) none 0 0 0)::(n,nO f g h i j k a c e l)::F10) fun a9 I17 G13=>((∃(r6:Int),a9=.returned (vi r6)∧∃F21:cR,List.Perm G13 ((b,nO 0 0 0 0 0 (⟨#[]⟩:Bs) none 0 0 0)::(n,nO f g h i j k a c e l)::F21)∧cU P 64 (#[vp (some p)]) I17 ((b,nO 0 0 0 0 0 (⟨#[]⟩:Bs) none 0 0 0)::(n,nO f g h i j k a c e l)::F21) fun ba I18 G14=>((ba=.returned (.tuple #[])∧∃F22:cR,List.Perm G14 ((b,nO 0 0 0 0 0 (⟨#[]⟩:Bs) none 0 0 0)::(n,nO f g h i j k a c e l)::F22)∧cU P 47 (#[vp (some p),vi r6]) I18 ((b,nO 0 0 0 0 0 (⟨#[]⟩:Bs) none 0 0 0)::(n,nO f g h i j k a c e l)::F22) fun bb I19 G15=>((∃(t u v w x:Int) (y:Bs) (o:OA) (q s:Nat) (z:Int),bb=.returned (nV t u v w x y o q s z)∧∃F23:cR,List.Perm G15 ((b,nO 0 0 0 0 0 (⟨#[]⟩:Bs) none 0 0 0)::(n,nO f g h i j k a c e l)::F23)∧∀ak:Nat,∀(b5:Nat) (I20:cS),cS.le I19 I20→I20 b5=some (Obj.cells #[vs (⟨#[41]⟩:Bs)] 9 (0,0))→cU P 66 (#[vp (some p),vl (some ⟨b5,0,none⟩) 1 1]) I20 ((b,nO 0 0 0 0 0 (⟨#[]⟩:Bs) none 0 0 0)::(n,nO f g h i j k a c e l)::(ak,nO t u v w x y o q s z)::F23) fun bc I21 G16=>((∃(r7:Int),bc=.returned (vi r7)∧∃F24:cR,List.Perm G16 ((b,nO 0 0 0 0 0 (⟨#[]⟩:Bs) none 0 0 0)::(n,nO f g h i j k a c e l)::(ak,nO t u v w x y o q s z)::F24)∧Q (.returned (nV t u v w x y o q s z)) I21 F24)∨(∃a4:List PanicEntry,bc=.panicked a4∧∃F25:cR,List.Perm G16 ((b,nO 0 0 0 0 0 (⟨#[]⟩:Bs) none 0 0 0)::(n,nO f g h i j k a c e l)::(ak,nO t u v w x y o q s z)::F25)∧Q (.panicked a4) I21 F25)))∨(∃a5:List PanicEntry,bb=.panicked a5∧∃F26:cR,List.Perm G15 ((b,nO 0 0 0 0 0 (⟨#[]⟩:Bs) none 0 0 0)::(n,nO f g h i j k a c e l)::F26)∧Q (.panicked a5) I19 F26)))∨(∃aL:List PanicEntry,ba=.panicked aL∧∃F27:cR,List.Perm G14 ((b,nO 0 0 0 0 0 (⟨#[]⟩:Bs) none 0 0 0)::(n,nO f g h i j k a c e l)::F27)∧Q (.panicked aL) I18 F27)))∨(∃aM:List PanicEntry,a9=.panicked aM∧∃F28:cR,List.Perm G13 ((b,nO 0 0 0 0 0 (⟨#[]⟩:Bs) none 0 0 0)::(n,nO f g h i j k a c e l)::F28)∧Q (.panicked aM) I17 F28))) (cU P 65 (#[vp (some p),vi 130]) I10 ((b,nO 0 0 0 0 0 (⟨#[]⟩:Bs) none 0 0 0)::(n,nO f g h i j k a c e l)::F10) fun bd I22 G17=>((bd=.returned (.tuple #[])∧∃F29:cR,List.Perm G17 ((b,nO 0 0 0 0 0 (⟨#[]⟩:Bs) none 0 0 0)::(n,nO f g h i j k a c e l)::F29)∧Q (.returned (nV 0 0 0 0 0 (⟨#[]⟩:Bs) none 0 0 0)) I22 F29)∨(∃aN:List PanicEntry,bd=.panicked aN∧∃F30:cR,List.Perm G17 ((b,nO 0 0 0 0 0 (⟨#[]⟩:Bs) none 0 0 0)::(n,nO f g h i j k a c e l)::F30)∧Q (.panicked aN) I22 F30)))))))))))))))))∨(∃aO:List PanicEntry,e1=.panicked aO∧∃F31:cR,List.Perm G1 ((b,nO 0 0 0 0 0 (⟨#[]⟩:Bs) none 0 0 0)::F31)∧Q (.panicked aO) I1 F31))
theorem fP.vc{p:Addr}{d:Int}{I:cS}{F:cR}{Q:cT}  (h:fP.V (fun k o t n f s a l c q=>.agg #[.int .u8 k,.int .u8 o,.int .u8 t,.int .i64 n,.int .u8 f,.string s,.slice a l c,.int .i64 q]) (fun k o t n f s a l c q=>.cells #[.int .u8 k,.int .u8 o,.int .u8 t,.int .i64 n,.int .u8 f,.string s,.slice a l c,.int .i64 q] 64 (0,0)) (.int .u8) (.int .i64) .string .slice .pointer p d I F Q):cU P 128 #[.pointer (some p),.int .i64 d] I F Q :=
 tw (A:=(dy [2000,5005,8001,12001,15000,17000,19000,21000,24000] [47,64,65,66,67,92,105,143] [47,64,65,66,67,92,104,105,143] rb [] [7001,11001,14001,23001,28001] [] [] [] [] [])) [47,64,65,66,67,92,104,105,143] func128 h
end Go.Lx
namespace Go.Lx
open Go.Vc
def HA(x:Int)(v:Value)(H:cR):Prop:=(∃i:Int,v=.int .i64 i)∧H=[]
def zZ(c:PC)(t:ByteArray)(f:Nat)(d:Int)(g:PS→Px×PS):Prop:=∀(b:Nat) (s:PS) (I:cS) (F F0:cR),c.Live s→F.Perm (c.px t b s::F0)→cU P f #[.pointer (some ⟨b,0,none⟩),.int .i64 d] I F (de c t b qu F0 (g s))
section
variable {c:PC} {t:ByteArray} {s:PS} {b:Nat} {I:cS} {F F0:cR}
theorem FE{b1:Nat}{w:ByteArray}(hb:I b1=some (.cells #[.string w] 9 (0,0))):Sl I 1 jS (some ⟨b1,0,none⟩) 1 [w]:=Sl.ie (f:=jS) (z:=1) (l:=[w]) (fun _=>rfl) hb rfl
theorem eS(hc:c.Of t)(hl:c.Live s){b1:Nat}{w:ByteArray}(hb:I b1=some (.cells #[.string w] 9 (0,0)))(hF:F.Perm (c.px t b s::F0)) :
  cU P 66 #[.pointer (some ⟨b,0,none⟩),.slice (some ⟨b1,0,none⟩) 1 1] I F (de c t b HA F0 (c.take w s)):=by
 refine de.use (q9 hc hl (FE hb) (by decide) hF) (fun v H I2 G l2 hL hv hG=>?_) fun f e I2 G l2 hd hf=>?_
 ·obtain⟨rfl,rfl⟩:=hv
  exact .inl ⟨by rw[pK];exact hL,_,[],rfl,⟨⟨_,rfl⟩,rfl⟩,by rw[pK];exact hG⟩
 ·exact .inr ⟨f,by rw[pK];exact hd,hf⟩
theorem re{d:Int}(h:d<24):c.c8 d s=s:=by unfold PC.c8;rw[if_neg (by omega)]
theorem mB(hl:c.Live s):(c.c8 24 s).over=true∧c.dP ⟨132,(c.tok s.next).pos,false⟩ (c.c8 24 s):=by
 unfold PC.c8;rw[if_pos (by decide)]
 have:=hl.da (e:=132) (by decide)
 exact⟨by rw[this.1];rfl,this.2⟩
theorem Eb{nx:Lv}{d kind oper dU pos:Int}{many:Nat}(hl:c.Live s)(h:d<24) :
  c.call nx d kind oper dU pos many s=(.mk kind oper dU 0 0 ⟨#[]⟩ (c.dK nx many true (c.take (⟨#[40]⟩:ByteArray) s.inc).2).1 pos,(c.take (⟨#[41]⟩:ByteArray) (c.dK nx many true (c.take (⟨#[40]⟩:ByteArray) s.inc).2).2).2):=by
 unfold PC.call;rw[re h,hl.1,if_neg (by simp)]
theorem Ec{nx:Lv}{kind oper dU pos:Int}{many:Nat}(hl:c.Live s):c.call nx 24 kind oper dU pos many s=(gO,c.c8 24 s):=by
 unfold PC.call;rw[(mB hl).1,if_pos rfl]
theorem se(hc:c.Of t)(hl:c.Live s)(hk:(c.tok s.next).kind≠0){nx:Lv}{d:Int}(h0:0≤d)(h1:d≤24)(hx:d<24→zZ c t 47 (d+1) nx.ex)(hkp:∀f,Kp c f nx.ex)(kind oper dU pos0:Int)(many:Nat)(hm:many≤2)(hF:F.Perm (c.px t b s::F0)) :
  cU P 143 #[.pointer (some ⟨b,0,none⟩),(Nd.mk kind oper dU 0 0 ⟨#[]⟩ none 0 [] pos0).v,.int .i64 many,.int .i64 d] I F (de c t b qu F0 (c.call nx d kind oper dU (c.tok s.next).pos many s)):=by
 have hp:=dY.of (I:=I) hF
 refine hU.vc (fun x n0 n1 n2 n3 n4 n5 a n k n7 m I' F'=>n0=kind∧n1=oper∧n2=dU∧n3=0∧n4=0∧n5=⟨#[]⟩∧n7=(c.tok s.next).pos∧d<24∧0≤x∧x≤many∧m=(many-x).toNat ∧
  ∃(ks:List Nd) (si:PS),(ks.length:Int)=x∧c.Live si∧c.dK nx many true (c.take (⟨#[40]⟩:ByteArray) s.inc).2=(ks.map Nd.px++(c.dK nx (many-x).toNat (decide (x=0)) si).1,(c.dK nx (many-x).toNat (decide (x=0)) si).2)∧Part 8 Nd.enc 64 (eo 64 false) a n k ks (c.px t b si::F0) F') ?_
 unfold hU.V
 intro bn b0
 refine⟨_,rfl,_,(hp.mono (cS.le_refl I) fun x hx=>.tail _ (.tail _ hx)).rd.dE (p:=1) (q:=4) rfl, ?_⟩
 refine (oG (hp.mono (cS.le_refl I) fun x hx=>.tail _ (.tail _ hx)) h0 h1).mono fun e I1 G l1 hd=>?_
 rcases hd with ⟨hlt,rfl,rfl⟩ | ⟨rfl,hf⟩
 rotate_left
 ·refine .inr (di.dC [_,_] (hf.perm (F1:=[_,_]++F) (.refl _) (.refl _)) fun e' G' hf'=>.inr ⟨_, ?_,hf'.tail hF⟩)
  rw[Ec hl];exact (mB hl).2
 rw[Eb hl hlt]
 refine .inl ⟨_,rfl,F,.refl _, ?_⟩
 have dead1:∀{f:PF} {s':PS},c.dP f s'→s'=(c.take (⟨#[40]⟩:ByteArray) s.inc).2→c.dP f (c.take (⟨#[41]⟩:ByteArray) (c.dK nx many true (c.take (⟨#[40]⟩:ByteArray) s.inc).2).2).2:=fun h e=>(Kp.kids (hkp _) _ _ _ (e▸h)).take _
 refine de.use (eb hc hl hk (gK hF)) (fun v H I2 G l2 hL hv hG=>.inl ?_) fun f e I2 G l2 hd hf=>.inr ?_
 rotate_left
 ·exact di.dC [_,_] hf fun e' G' hf'=>.inr ⟨f,dead1 (hd.take _) rfl,hf'⟩
 obtain⟨rfl,rfl⟩:=hv
 refine⟨rfl,c.px t b s.inc::F0,hG.trans (cV fun z=>by simp only[cW,cX,c7];omega),fun b1 I3 l3 hb1=>?_⟩
 refine de.use (eS hc hL hb1 (gK (.refl _))) (fun v H I4 G l4 hL1 hv hG=>.inl ?_) fun f e I4 G l4 hd hf=>.inr ?_
 rotate_left
 ·exact di.dC [_,_] hf fun e' G' hf'=>.inr ⟨f,dead1 hd rfl,hf'⟩
 obtain⟨⟨i1,rfl⟩,rfl⟩:=hv
 refine⟨_,rfl,c.px t b (c.take (⟨#[40]⟩:ByteArray) s.inc).2::F0,hG.trans (cV fun z=>by simp only[cW,cX,c7];omega),⟨_,rfl,rfl,rfl,rfl,rfl,rfl,rfl,hlt,by decide,by omega,rfl,[],_,rfl,hL1, ?_,Part.nil⟩, ?_⟩
 ·rw[decide_eq_true rfl,show ((many:Int)-0).toNat=many by omega];rfl
 intro x n0 n1 n2 n3 n4 n5 a n k n7 m I5 F4 l5 ⟨g0,g1,g2,g3,g4,g5,g7,_,x0,x1,gm,ks,si,gl,hLi,gk,gP⟩
 subst g0 g1 g2 g3 g4 g5 g7
 obtain⟨A,hs,hA,hO,hFp⟩:=gP
 have hnl:=hA.1
 have frame:∀(X Y:Nat×Obj),(X::Y::F4).Perm (c.px t b si::([X,Y]++(A++(dH ks.length hs++F0)))):=fun X Y=>(hFp.cons _ |>.cons _).trans (cV fun z=>by simp only[cW,cX,c7];omega)
 have key:∀(sj:PS) (X Y:Nat×Obj) (I5:cS) (F5:cR) (Q':Ending→cS→cR→Prop),c.Live sj→F5.Perm (A++(dH ks.length hs++(c.px t b sj::F0))) →
   c.dK nx (many-x).toNat (decide (x=0)) si=((nx.ex sj).1::(c.dK nx (many-(x+1)).toNat false (nx.ex sj).2).1,(c.dK nx (many-(x+1)).toNat false (nx.ex sj).2).2)→0≤x→x<many →
   (∀(tn:Nd) (I8:cS) (G F6:cR),cS.le I5 I8→G.Perm (X::Y::F6) →
    (∀(b3:Nat) (I9:cS),cS.le I8 I9→I9 b3=some (.cells tn.enc.toArray 64 (0,0))→dk P (Builtin.append_ #[62,62] 62 #[.slice a n k,.slice (some ⟨b3,0,none⟩) 1 1]) I9 (X::Y::F6) fun v I10 G6=>∃(ra:Option Addr) (rn rc:Nat),v=.slice ra rn rc∧∃F7:cR,G6.Perm (X::Y::F7) ∧
     ∃(ks:List Nd) (si:PS),(ks.length:Int)=x+1∧c.Live si∧c.dK nx many true (c.take (⟨#[40]⟩:ByteArray) s.inc).2=(ks.map Nd.px++(c.dK nx (many-(x+1)).toNat (decide (x+1=0)) si).1,(c.dK nx (many-(x+1)).toNat (decide (x+1=0)) si).2)∧Part 8 Nd.enc 64 (eo 64 false) ra rn rc ks (c.px t b si::F0) F7)→Q' (.returned tn.v) I8 G) →
   (∀(f:PF) (e:Ending) (I8:cS) (G:cR),cS.le I5 I8→c.dP f (c.dK nx many true (c.take (⟨#[40]⟩:ByteArray) s.inc).2).2→di f ([X,Y]++F0) e G→Q' e I8 G) →
   cU P 47 #[.pointer (some ⟨b,0,none⟩),.int .i64 (d+1)] I5 (X::Y::F5) Q':=by
  intro sj X Y I5 F5 Q' hLj hF5 hkd x0 x1 k1 k2
  refine de.use (hx hlt b sj I5 _ ([X,Y]++(A++(dH ks.length hs++F0))) hLj ((hF5.cons _ |>.cons _).trans (cV fun z=>by simp only[cW,cX,c7];omega))) (fun v H I8 G l8 hL8 hv hG=>?_) fun f e I8 G l8 hd hf=>?_
  ·obtain⟨tn,rfl,hpx,hOt⟩:=hv
   refine k1 tn I8 G (H++(A++(dH ks.length hs++(c.px t b (nx.ex sj).2::F0)))) l8 (hG.trans (cV fun z=>by simp only[cW,cX,c7];omega)) fun b3 I9 l9 hb3=>?_
   refine dk.mono (kN (f:=Nd.enc) Nd.qa (zv:=fW.v) (by':=72) (by kernel_rfl) (by kernel_rfl) rfl (by decide) (O:=eo 64 false) (x:=tn) (F:=c.px t b (nx.ex sj).2::F0) (R0:=[X,Y]) ⟨A,hs,hA,hO,.refl _⟩ tn.Ar rfl hb3 hOt (.refl _) (by omega)) fun v I10 G2 l10 ⟨ra,rn,rc,hv,F7,hG7,hP7⟩=>?_
   refine⟨ra,rn,rc,hv,F7,hG7,ks++[tn],(nx.ex sj).2,by rw[List.length_append,List.length_singleton];omega,hL8, ?_,hP7⟩
   rw[gk,hkd,decide_eq_false (by omega:¬x+1=0),List.map_append,List.append_assoc,List.map_singleton,hpx];rfl
  ·refine k2 f e I8 G l8 ?_ ?_
   ·rw[gk,hkd];exact Kp.kids (hkp _) _ _ _ hd
   ·refine di.more (A:=A++dH ks.length hs) (hf.perm (cV fun z=>by simp only[cX];omega) (.refl _))
 refine⟨fun hlt2=>?_,fun hge=>?_⟩
 ·have hlt2:=of_decide_eq_true hlt2
  have hsz:((many:Int)-x).toNat=((many:Int)-(x+1)).toNat+1:=by omega
  refine⟨fun hpos=>fun b2 I6 l6 hb2=>?_,fun hpos=>?_⟩
  ·have hpos:=of_decide_eq_true hpos
   have hkd:c.dK nx (many-x).toNat (decide (x=0)) si=((nx.ex (c.take (⟨#[44]⟩:ByteArray) si).2).1::(c.dK nx (many-(x+1)).toNat false (nx.ex (c.take (⟨#[44]⟩:ByteArray) si).2).2).1,(c.dK nx (many-(x+1)).toNat false (nx.ex (c.take (⟨#[44]⟩:ByteArray) si).2).2).2):=by
    rw[hsz,PC.dK,decide_eq_false (by omega)];rfl
   refine de.use (eS hc hLi hb2 (frame _ _)) (fun v H I7 G l7 hL7 hv hG=>.inl ?_) fun f e I7 G l7 hd hf=>.inr ?_
   rotate_left
   ·refine di.dC [_,_] hf fun e' G' hf'=>.inr ⟨f,PC.dP.take ?_ _,di.more (A:=A++dH ks.length hs) (hf'.perm (cV fun z=>by simp only[cX];omega) (.refl _))⟩
    rw[gk,hkd];exact Kp.kids (hkp _) _ _ _ (hkp _ _ hd)
   obtain⟨⟨i2,rfl⟩,rfl⟩:=hv
   refine⟨_,rfl,A++(dH ks.length hs++(c.px t b (c.take (⟨#[44]⟩:ByteArray) si).2::F0)),hG.trans (cV fun z=>by simp only[cW,cX,c7];omega),key _ _ _ _ _ _ hL7 (.refl _) hkd x0 hlt2 (fun tn I8 G F6 l8 hG8 kA=>.inl ⟨_,_,_,_,_,_,_,_,_,_,rfl,F6,hG8,fun b3 I9 l9 hb3=>?_⟩) fun f e I8 G l8 hd hf=>.inr (di.dC [_,_] hf fun e' G' hf'=>.inr ⟨f,hd.take _,hf'⟩)⟩
   refine dk.mono (kA b3 I9 l9 hb3) fun v I10 G6 l10 ⟨ra,rn,rc,hv,F7,hG7,r⟩=>⟨ra,rn,rc,hv,F7,hG7,(many-(x+1)).toNat,by omega, ?_⟩
   rw[ew (n:=x+1) (by omega)]
   exact⟨rfl,rfl,rfl,rfl,rfl,rfl,rfl,hlt,by omega,by omega,rfl,r⟩
  ·have hpos:x=0:=by have:=of_decide_eq_false hpos;omega
   have hkd:c.dK nx (many-x).toNat (decide (x=0)) si=((nx.ex si).1::(c.dK nx (many-(x+1)).toNat false (nx.ex si).2).1,(c.dK nx (many-(x+1)).toNat false (nx.ex si).2).2):=by
    rw[hsz,PC.dK,decide_eq_true hpos];rfl
   refine key _ _ _ _ _ _ hLi hFp hkd x0 hlt2 (fun tn I8 G F6 l8 hG8 kA=>.inl ⟨_,_,_,_,_,_,_,_,_,_,rfl,F6,hG8,fun b3 I9 l9 hb3=>?_⟩) fun f e I8 G l8 hd hf=>.inr (di.dC [_,_] hf fun e' G' hf'=>.inr ⟨f,hd.take _,hf'⟩)
   refine dk.mono (kA b3 I9 l9 hb3) fun v I10 G6 l10 ⟨ra,rn,rc,hv,F7,hG7,r⟩=>⟨ra,rn,rc,hv,F7,hG7,(many-(x+1)).toNat,by omega, ?_⟩
   rw[ew (n:=x+1) (by omega)]
   exact⟨rfl,rfl,rfl,rfl,rfl,rfl,rfl,hlt,by omega,by omega,rfl,r⟩
 ·have hge:=of_decide_eq_false hge
  intro b5 I6 l6 hb5
  have hxm:((many:Int)-x).toNat=0:=by omega
  have hend:c.dK nx many true (c.take (⟨#[40]⟩:ByteArray) s.inc).2=(ks.map Nd.px,si):=by rw[gk,hxm,PC.dK,List.append_nil]
  rw[hend]
  refine de.use (eS hc hLi hb5 (frame _ _)) (fun v H I7 G l7 hL7 hv hG=>.inl ?_) fun f e I7 G l7 hd hf=>.inr ?_
  ·obtain⟨⟨i3,rfl⟩,rfl⟩:=hv
   subst hnl
   refine⟨_,rfl,c.px t b (c.take (⟨#[41]⟩:ByteArray) si).2::((A++dH ks.length hs)++F0),hG.trans (cV fun z=>by simp only[cW,cX,c7];omega),.inl ⟨hL7,_,A++dH ks.length hs,rfl,⟨.mk n0 n1 n2 0 0 ⟨#[]⟩ a k ks (c.tok s.next).pos,rfl, ?_,.mk (t:=.mk n0 n1 n2 0 0 ⟨#[]⟩ a k ks (c.tok s.next).pos) hA (fun h=>by cases h) hO⟩,.refl _⟩⟩
   rw[Nd.px,Nd.rW]
  ·exact di.dC [_,_] hf fun e' G' hf'=>.inr ⟨f,hd,di.more (A:=A++dH ks.length hs) (hf'.perm (cV fun z=>by simp only[cX];omega) (.refl _))⟩
end
end Go.Lx
namespace Go.Lx
open Go.Vc
section
variable {c:PC} {t:ByteArray} {s:PS} {b:Nat} {I:cS} {F F0:cR}
theorem PC.dP.live{f:PF}(h:c.dP f s)(hl:c.Live s):False:=by
 have:=h.1
 unfold PC.fin at this
 rw[hl.1,if_neg (by simp),if_neg (by have:=hl.2;omega)] at this
 cases this
theorem yt{ws:List ByteArray}(h:0≤c.any ws s):∃w∈ws,c.eu w s=true:=by
 have:∀(ws:List ByteArray) (i:Int),0≤c.jx s ws i→∃w∈ws,c.eu w s=true:=by
  intro ws
  induction ws with
  | nil=>intro i h;rw[PC.jx] at h;omega
  | cons w r ih =>
    intro i h
    rw[PC.jx] at h
    by_cases hw:c.eu w s=true
    ·exact⟨w,.head _,hw⟩
    ·rw[if_neg hw] at h
     obtain⟨x,hx,hxw⟩:=ih _ h
     exact⟨x,.tail _ hx,hxw⟩
 exact this ws 0 h
def GJ(l m:List ByteArray):Bool:=l.all fun w=>m.all fun x=>!(w.toList==x.toList)
theorem Ed{l m:List ByteArray}(hf:GJ l m=true)(h:0≤c.any l s):c.any m s<0:=by
 apply Int.not_le.1
 intro h2
 obtain⟨w,hw,h3⟩:=yt h
 obtain⟨x,hx,h4⟩:=yt h2
 unfold PC.eu at h3 h4
 simp only[Bool.and_eq_true,beq_iff_eq] at h3 h4
 have:=List.all_eq_true.1 (List.all_eq_true.1 hf w hw) x hx
 rw[←h3.1,←h4.1] at this
 simp at this
def AU:List ByteArray:=[(⟨#[97,98,115]⟩:ByteArray),(⟨#[109,105,110]⟩:ByteArray),(⟨#[109,97,120]⟩:ByteArray),(⟨#[104,97,115]⟩:ByteArray),(⟨#[40]⟩:ByteArray)]
theorem HB:(0≤c.any fA s→c.any AU s=c.any fA s)∧(c.any fA s<0→c.any AU s=if c.eu (⟨#[104,97,115]⟩:ByteArray) s then 3 else if c.eu (⟨#[40]⟩:ByteArray) s then 4 else -1):=by
 unfold PC.any AU fA
 simp only[PC.jx]
 generalize c.eu _ s=b1
 generalize c.eu _ s=b2
 generalize c.eu _ s=b3
 generalize c.eu _ s=b4
 generalize c.eu _ s=b5
 cases b1<;>cases b2<;>cases b3<;>cases b4<;>cases b5<;>decide
theorem oH(hc:c.Of t)(hl:c.Live s)(h:(c.literal s).1.2=false):c.literal s=((gO,false),s):=by
 by_cases hk:(c.tok s.next).kind=3
 ·rw[wR hl hk] at h;cases h
 ·have:=AR hc hl hk
  split at this
  ·exact this
  ·rw[this] at h;cases h
theorem de.leaf{r:Px×PS}{e:Ending}{G:cR}(hL:c.Live r.2){k o ty n f p:Int}{w:ByteArray}(h:r.1=.mk k o ty n f w [] p)(he:e=.returned (Nd.mk k o ty n f w none 0 [] p).v)(hG:G.Perm (c.px t b r.2::F0)):de c t b qu F0 r e I G :=
 .inl ⟨hL,_,[],he,⟨_,rfl,by rw[h];simp only[Nd.px,Nd.qO],eo.leaf⟩,hG⟩
theorem words{b1:Nat}{ws:List ByteArray}{cs:Array Value}(hb:I b1=some (.cells cs 9 (0,0)))(h:cs.toList=ws.flatMap jS):Sl I 1 jS (some ⟨b1,0,none⟩) ws.length ws:=Sl.ie (f:=jS) (z:=1) (fun _=>rfl) hb h
theorem BS(hc:c.Of t){nx:Lv}{d:Int}(h0:0≤d)(h1:d≤24)(hx:d<24→zZ c t 47 (d+1) nx.ex)(hkp:∀f,Kp c f nx.ex)(hl:c.Live s)(hF:F.Perm (c.px t b s::F0)) :
  cU P 128 #[.pointer (some ⟨b,0,none⟩),.int .i64 d] I F (de c t b qu F0 (c.one nx d s)):=by
 have hn:=hl.now
 refine fP.vc ?_
 unfold fP.V
 intro b0
 refine de.use (pL hc hl (wO hF)) (fun v H I1 G l1 hL hv hG=>.inl ?_) fun f e I1 G l1 hd hf=>.inr ?_
 rotate_left
 ·refine di.dC [_] hf fun e' G' hf'=>.inr ⟨f, ?_,hf'⟩
  cases h2:(c.literal s).1.2 with
  | true=>unfold PC.one;rw[h2,if_pos rfl];exact hd
  | false=>rw[oH hc hl h2] at hd;exact (hd.live hl).elim
 obtain⟨n,rfl,hpx,hO,rfl⟩:=hv
 refine⟨_,_,_,_,_,_,_,_,_,_,_,rfl,c.px t b (c.literal s).2::F0,hG.trans (cV fun z=>by simp only[cW,cX,c7];omega),fun bn=>⟨fun h2=>?_,fun h2=>?_⟩⟩
 ·have e1:c.one nx d s=((c.literal s).1.1,(c.literal s).2):=by unfold PC.one;rw[h2,if_pos rfl]
  rw[e1]
  exact .inl ⟨hL,_,[],rfl,⟨n,rfl,hpx,hO⟩,.refl _⟩
 have eL:=oH hc hl h2
 clear hG
 rw[eL]
 generalize hF1:c.px t b (((gO,false),s):(Px×Bool)×PS).2::F0=F1
 have hF1:F1.Perm (c.px t b s::F0):=by rw[←hF1]
 have one_:c.one nx d s=if (c.tok s.next).kind=2 then (.mk 2 0 0 0 0 (c.tok s.next).text [] (c.tok s.next).pos,s.inc)
   else if 0≤c.any kh s then (.mk 3 0 0 0 (c.any kh s+1) ⟨#[]⟩ [] (c.tok s.next).pos,s.inc)
   else if 0≤c.any fA s then c.call nx d 8 (3+c.any fA s) 0 (c.tok s.next).pos (if c.any fA s=0 then 1 else 2) s
   else if 0≤c.any jM s then c.call nx d 9 0 (1+c.any jM s) (c.tok s.next).pos 1 s else c.rest nx d s:=by
  unfold PC.one;rw[eL,if_neg (by simp),hn]
 have hp1:∀{J:cS} (X Y:Nat×Obj),dY J (X::Y::F1) t b (c.tok s.next) (jN (c.tok s.next)):=fun X Y=>.inr (.tail _ (.tail _ (hF1.mem_iff.2 (.head _))))
 have up:∀{G:cR} {X Y:Nat×Obj} {s':PS} {K:cR},G.Perm (c.px t b s'::(K++(X::Y::F0)))→G.Perm (X::Y::(c.px t b s'::(K++F0))):=fun h=>h.trans (cV fun z=>by simp only[cW,cX,c7];omega)
 refine⟨_,rfl,_,(hp1 _ _).rd.dE (p:=1) (q:=4) rfl,_,rfl,_,(hp1 _ _).rd.dE (p:=1) (q:=0) rfl,fun h3=>?_,fun h3=>?_⟩
 ·have h3:(c.tok s.next).kind=2:=by simpa using h3
  have e1:c.one nx d s=(.mk 2 0 0 0 0 (c.tok s.next).text [] (c.tok s.next).pos,s.inc):=by rw[one_,if_pos h3]
  have e2:c.name s=((c.tok s.next).text,s.inc):=by unfold PC.name;rw[hn,if_pos h3]
  rw[e1]
  refine de.use (j3 hc hl (gK hF1)) (fun v K I2 G l2 hL hv hG=>.inl ?_) fun f e I2 G l2 hd hf=>.inr ?_
  ·obtain⟨rfl,rfl⟩:=hv
   rw[e2] at hL hG ⊢
   exact⟨_,rfl,_,up hG,.leaf hL rfl rfl (.refl _)⟩
  ·rw[e2] at hd
   exact di.dC [_,_] hf fun e' G' hf'=>.inr ⟨f,hd,hf'⟩
 have h3:(c.tok s.next).kind≠2:=by simpa using h3
 rw[if_neg h3] at one_
 intro b1 I3 l3 hb1
 refine cU.ret (iP hl (hp1 _ _) (words (ws:=kh) hb1 rfl) (by decide)) fun I4 l4=>⟨_,rfl,F1,.refl _,fun h4=>?_,fun h4=>?_⟩
 ·have h4:0≤c.any kh s:=of_decide_eq_true h4
  have hlt:c.any kh s<6:=(dD h4).2
  rw[one_,if_pos h4]
  refine de.use (eb hc hl (iQ hl h4) (gK hF1)) (fun v K I5 G l5 hL hv hG=>.inl ?_) fun f e I5 G l5 hd hf=>.inr (di.dC [_,_] hf fun e' G' hf'=>.inr ⟨f,hd,hf'⟩)
  obtain⟨rfl,rfl⟩:=hv
  refine⟨rfl,_,up hG,.leaf hL rfl ?_ (.refl _)⟩
  rw[w8 (n:=c.any kh s) (by omega),w8 (n:=1+c.any kh s) (by omega),Int.add_comm 1];rfl
 have h4:¬0≤c.any kh s:=of_decide_eq_false h4
 rw[if_neg h4] at one_
 have pass:∀{r:Px×PS} {g:Nat} {args:Array Value} {I5:cS} {X Y:Nat×Obj} {H1:cR} {Q':Ending→cS→cR→Prop},cU P g args I5 H1 (de c t b qu (X::Y::F0) r) →
   (∀(n:Nd) (I6:cS) (G F8:cR),G.Perm (X::Y::F8)→de c t b qu F0 r (.returned n.v) I6 F8→Q' (.returned n.v) I6 G)→(∀(f:PF) (e:Ending) (I6:cS) (G:cR),c.dP f r.2→di f ([X,Y]++F0) e G→Q' e I6 G)→cU P g args I5 H1 Q':=fun h k1 k2 =>
  de.use h (fun v K I6 G l6 hL hv hG=>by
   obtain⟨n,rfl,hv⟩:=hv
   exact k1 n I6 G _ (up hG) (.inl ⟨hL,_,K,rfl,⟨n,rfl,hv⟩,.refl _⟩)) fun f e I6 G l6 hd hf=>k2 f e I6 G hd hf
 intro b2 I6 l6 hb2
 refine cU.ret (iP hl (hp1 _ _) (words (ws:=jM) hb2 rfl) (by decide)) fun I7 l7=>⟨_,rfl,F1,.refl _,fun h5=>?_,fun h5=>?_⟩
 ·have h5:0≤c.any jM s:=of_decide_eq_true h5
  have hlt:c.any jM s<4:=(dD h5).2
  have h6:c.any fA s<0:=Ed (by kernel_rfl:GJ jM fA=true) h5
  rw[one_,if_neg (by omega),if_pos h5]
  have hw:IntKind.wrap .u8 (1+IntKind.wrap .u8 (c.any jM s))=1+c.any jM s:=by rw[w8 (n:=c.any jM s) (by omega),w8 (by omega)]
  rw[hw]
  exact pass (se hc hl (iQ hl h5) h0 h1 hx hkp 9 0 (1+c.any jM s) 0 1 (by decide) (gK hF1)) (fun n I8 G F8 hG hD=>.inl ⟨_,_,_,_,_,_,_,_,_,_,rfl,F8,hG,hD⟩) fun f e I8 G hd hf=>.inr (di.dC [_,_] hf fun e' G' hf'=>.inr ⟨f,hd,hf'⟩)
 have h5:¬0≤c.any jM s:=of_decide_eq_false h5
 rw[if_neg h5] at one_
 intro b3 I9 l9 hb3
 obtain⟨a1,a2⟩:=HB (c:=c) (s:=s)
 refine cU.ret (iP hl (hp1 _ _) (words (ws:=AU) hb3 rfl) (by decide)) fun I10 l10=>⟨_,rfl,F1,.refl _, ?_⟩
 by_cases hcall:0≤c.any fA s
 ·have hlt:c.any fA s<3:=(dD hcall).2
  rw[a1 hcall,one_,if_pos hcall]
  have hkd:=iQ hl hcall
  refine⟨fun h6=>?_,fun h6=>⟨fun h7=>?_,fun h7=>⟨fun h8=>?_,fun h8=>?_⟩⟩⟩
  ·have h6:c.any fA s=0:=by simpa using h6
   rw[h6,if_pos rfl]
   exact pass (se hc hl hkd h0 h1 hx hkp 8 3 0 0 1 (by decide) (gK hF1)) (fun n I8 G F8 hG hD=>.inl ⟨_,_,_,_,_,_,_,_,_,_,rfl,F8,hG,hD⟩) fun f e I8 G hd hf=>.inr (di.dC [_,_] hf fun e' G' hf'=>.inr ⟨f,hd,hf'⟩)
  ·have h7:c.any fA s=1:=by simpa using h7
   rw[h7,if_neg (by decide)]
   exact pass (se hc hl hkd h0 h1 hx hkp 8 4 0 0 2 (by decide) (gK hF1)) (fun n I8 G F8 hG hD=>.inl ⟨_,_,_,_,_,_,_,_,_,_,rfl,F8,hG,hD⟩) fun f e I8 G hd hf=>.inr (di.dC [_,_] hf fun e' G' hf'=>.inr ⟨f,hd,hf'⟩)
  ·have h8:c.any fA s=2:=by simpa using h8
   rw[h8,if_neg (by decide)]
   exact pass (se hc hl hkd h0 h1 hx hkp 8 5 0 0 2 (by decide) (gK hF1)) (fun n I8 G F8 hG hD=>.inl ⟨_,_,_,_,_,_,_,_,_,_,rfl,F8,hG,hD⟩) fun f e I8 G hd hf=>.inr (di.dC [_,_] hf fun e' G' hf'=>.inr ⟨f,hd,hf'⟩)
  ·have h6:c.any fA s≠0:=by simpa using h6
   have h7:c.any fA s≠1:=by simpa using h7
   have h8:c.any fA s≠2:=by simpa using h8
   omega
 rw[if_neg hcall] at one_
 rw[a2 (by omega),one_]
 unfold PC.rest
 have isk:∀{w:ByteArray},c.eu w s=true→(c.tok s.next).kind≠0:=fun h hk=>by
  unfold PC.eu at h;rw[hn,hk] at h;simp at h
 by_cases hhas:c.eu (⟨#[104,97,115]⟩:ByteArray) s=true
 ·rw[if_pos hhas,if_pos hhas]
  refine⟨fun h=>absurd h (by decide),fun _=>⟨fun h=>absurd h (by decide),fun _=>⟨fun h=>absurd h (by decide),fun _=>⟨fun _=>?_,fun h=>absurd h (by decide)⟩⟩⟩⟩
  have hst:∀(x:Px),(if c.any [(⟨#[98,105,100]⟩:ByteArray),(⟨#[97,115,107]⟩:ByteArray),(⟨#[108,97,115,116]⟩:ByteArray)] s.inc<0 then (gO,c.da 130 s.inc) else (x,s.inc.inc):Px×PS).2=(c.oneOf [(⟨#[98,105,100]⟩:ByteArray),(⟨#[97,115,107]⟩:ByteArray),(⟨#[108,97,115,116]⟩:ByteArray)] s.inc).2:=fun x=>by
   unfold PC.oneOf;split<;>rfl
  refine de.use (eb hc hl (isk hhas) (gK hF1)) (fun v K I5 G l5 hL hv hG=>.inl ?_) fun f e I5 G l5 hd hf=>.inr (di.dC [_,_] hf fun e' G' hf'=>.inr ⟨f, ?_,hf'⟩)
  rotate_left
  ·rw[hst,PC.oneOf,hd.any,if_pos (by decide)];exact hd.da _
  obtain⟨rfl,rfl⟩:=hv
  refine⟨rfl,_,up hG,fun b4 I8 l8 hb4=>?_⟩
  refine de.use (q9 hc hL (words (ws:=[(⟨#[98,105,100]⟩:ByteArray),(⟨#[97,115,107]⟩:ByteArray),(⟨#[108,97,115,116]⟩:ByteArray)]) hb4 rfl) (by decide) (gK (.refl _))) (fun v K I9 G l9 hL9 hv hG=>.inl ?_) fun f e I9 G l9 hd hf=>.inr (di.dC [_,_] hf fun e' G' hf'=>.inr ⟨f,by rw[hst];exact hd,hf'⟩)
  obtain⟨rfl,rfl⟩:=hv
  have hge:¬c.any [(⟨#[98,105,100]⟩:ByteArray),(⟨#[97,115,107]⟩:ByteArray),(⟨#[108,97,115,116]⟩:ByteArray)] s.inc<0:=fun hlt=>by
   have:(c.oneOf [(⟨#[98,105,100]⟩:ByteArray),(⟨#[97,115,107]⟩:ByteArray),(⟨#[108,97,115,116]⟩:ByteArray)] s.inc).2=c.da 130 s.inc:=if_pos hlt
   rw[this] at hL9
   exact (hL.da (e:=130) (by decide)).2.live hL9
  have hlt:c.any [(⟨#[98,105,100]⟩:ByteArray),(⟨#[97,115,107]⟩:ByteArray),(⟨#[108,97,115,116]⟩:ByteArray)] s.inc<3:=(dD (Int.not_lt.1 hge)).2
  have e2:(c.oneOf [(⟨#[98,105,100]⟩:ByteArray),(⟨#[97,115,107]⟩:ByteArray),(⟨#[108,97,115,116]⟩:ByteArray)] s.inc).2=s.inc.inc:=if_neg hge
  rw[e2] at hL9 hG
  rw[if_neg hge]
  refine⟨_,rfl,_,up hG,.leaf hL9 (by rw[hn]) ?_ (.refl _)⟩
  show _=Ending.returned (Value.agg #[_,_,_,_,.int .u8 (c.any [(⟨#[98,105,100]⟩:ByteArray),(⟨#[97,115,107]⟩:ByteArray),(⟨#[108,97,115,116]⟩:ByteArray)] s.inc+1),_,_,_])
  show Ending.returned (Value.agg #[_,_,_,_,.int .u8 (IntKind.wrap .u8 (1+IntKind.wrap .u8 (c.any [(⟨#[98,105,100]⟩:ByteArray),(⟨#[97,115,107]⟩:ByteArray),(⟨#[108,97,115,116]⟩:ByteArray)] s.inc))),_,_,_])=_
  rw[w8 (n:=c.any [(⟨#[98,105,100]⟩:ByteArray),(⟨#[97,115,107]⟩:ByteArray),(⟨#[108,97,115,116]⟩:ByteArray)] s.inc) (by omega),w8 (n:=1+c.any [(⟨#[98,105,100]⟩:ByteArray),(⟨#[97,115,107]⟩:ByteArray),(⟨#[108,97,115,116]⟩:ByteArray)] s.inc) (by omega),Int.add_comm 1];rfl
 have hhas:c.eu (⟨#[104,97,115]⟩:ByteArray) s=false:=by simpa using hhas
 have ff:¬(false=true):=by decide
 rw[hhas,if_neg ff,if_neg ff]
 by_cases hop:c.eu (⟨#[40]⟩:ByteArray) s=true
 ·rw[if_pos hop,if_pos hop]
  refine⟨fun h=>absurd h (by decide),fun _=>⟨fun h=>absurd h (by decide),fun _=>⟨fun h=>absurd h (by decide),fun _=>⟨fun h=>absurd h (by decide),fun _=>⟨fun _=>?_,fun h=>absurd h (by decide)⟩⟩⟩⟩⟩
  refine (oG (hp1 _ _) h0 h1).mono fun e I5 G l5 hd=>?_
  rcases hd with ⟨hlt,rfl,rfl⟩ | ⟨rfl,hf⟩
  rotate_left
  ·rw[(mB hl).1,if_pos rfl]
   exact .inr (di.dC [_,_] (hf.perm (F1:=[_,_]++F1) (.refl _) (.refl _)) fun e' G' hf'=>.inr ⟨_,(mB hl).2,hf'.tail hF1⟩)
  rw[re hlt,hl.1,if_neg (by simp)]
  refine .inl ⟨_,rfl,F1,.refl _, ?_⟩
  refine de.use (eb hc hl (isk hop) (gK hF1)) (fun v K I6 G l6 hL hv hG=>.inl ?_) fun f e I6 G l6 hd hf=>.inr (di.dC [_,_] hf fun e' G' hf'=>.inr ⟨f,(hkp f _ hd).take _,hf'⟩)
  obtain⟨rfl,rfl⟩:=hv
  refine⟨rfl,_,up hG, ?_⟩
  refine de.use (hx hlt b s.inc I6 _ _ hL (gK (.refl _))) (fun v K I7 G l7 hL7 hv hG=>.inl ?_) fun f e I7 G l7 hd hf=>.inr (di.dC [_,_] hf fun e' G' hf'=>.inr ⟨f,hd.take _,hf'⟩)
  obtain⟨n7,rfl,hpx7,hO7⟩:=hv
  refine⟨_,_,_,_,_,_,_,_,_,_,rfl,_,up hG,fun bn1 b5 I8 l8 hb5=>?_⟩
  refine de.use (eS hc hL7 hb5 (F0:=_::_::_::(K++F0)) (wP (.refl _))) (fun v L I9 G l9 hL9 hv hG=>.inl ?_) fun f e I9 G l9 hd hf=>.inr (di.dC [_,_,_] hf fun e' G' hf'=>.inr ⟨f,hd,hf'.more⟩)
  obtain⟨⟨i9,rfl⟩,rfl⟩:=hv
  exact⟨_,rfl,c.px t b (c.take (⟨#[41]⟩:ByteArray) (nx.ex s.inc).2).2::(K++F0),hG.trans (cV fun z=>by simp only[cW,cX,c7];omega),.inl ⟨hL9,_,K,rfl,⟨n7,rfl,hpx7,hO7⟩,.refl _⟩⟩
 have hop:c.eu (⟨#[40]⟩:ByteArray) s=false:=by simpa using hop
 rw[hop,if_neg ff,if_neg ff]
 refine⟨fun h=>absurd h (by decide),fun _=>⟨fun h=>absurd h (by decide),fun _=>⟨fun h=>absurd h (by decide),fun _=>⟨fun h=>absurd h (by decide),fun _=>⟨fun h=>absurd h (by decide),fun _=>?_⟩⟩⟩⟩⟩
 refine (fI (hp1 _ _) 130).mono fun e I5 G l5 hf=>.inr ?_
 exact di.dC [_,_] (hf.perm (F1:=[_,_]++F1) (.refl _) (.refl _)) fun e' G' hf'=>.inr ⟨_,(hl.da (by decide)).2,hf'.tail hF1⟩
end
end Go.Lx
namespace Go.Lx
open Go.Vc
theorem eo.two{x y:Nd}{H K:cR}{b1:Nat}{k o ty n f p:Int}{w:ByteArray}(hx:eo 64 false x H)(hy:eo 64 false y K) :
  eo 64 false (.mk k o ty n f w (some ⟨b1,0,none⟩) 2 [x,y] p) ((b1,.cells (x.enc++y.enc).toArray 64 (0,0))::(H++(K++[]))) :=
 .mk (t:=.mk k o ty n f w (some ⟨b1,0,none⟩) 2 [x,y] p) (A:=[(b1,.cells (x.enc++y.enc).toArray 64 (0,0))]) (hs:=fun i=>if i=0 then H else K)
  ⟨rfl,.inr ⟨b1,_,rfl,rfl,rfl,Nat.le_refl _,by simp[Nd.kids]⟩⟩ (fun h=>by cases h) fun i z h=>by
    match i,h with
    | 0,h=>cases h;exact hx
    | 1,h=>cases h;exact hy
theorem eo.H6{x:Nd}{H:cR}{b1:Nat}{k o ty n f p:Int}{w:ByteArray}(hx:eo 64 false x H) :
  eo 64 false (.mk k o ty n f w (some ⟨b1,0,none⟩) 1 [x] p) ((b1,.cells x.enc.toArray 64 (0,0))::(H++[])) :=
 .mk (t:=.mk k o ty n f w (some ⟨b1,0,none⟩) 1 [x] p) (A:=[(b1,.cells x.enc.toArray 64 (0,0))]) (hs:=fun i=>H)
  ⟨rfl,.inr ⟨b1,_,rfl,rfl,rfl,Nat.le_refl _,by simp[Nd.kids]⟩⟩ (fun h=>by cases h) fun i z h=>by
    match i,h with
    | 0,h=>cases h;exact hx
theorem eo.three{x y z:Nd}{H K L:cR}{b1:Nat}{k o ty n f p:Int}{w:ByteArray}(hx:eo 64 false x H)(hy:eo 64 false y K)(hz:eo 64 false z L) :
  eo 64 false (.mk k o ty n f w (some ⟨b1,0,none⟩) 3 [x,y,z] p) ((b1,.cells (x.enc++(y.enc++z.enc)).toArray 64 (0,0))::(H++(K++(L++[])))) :=
 .mk (t:=.mk k o ty n f w (some ⟨b1,0,none⟩) 3 [x,y,z] p) (A:=[(b1,.cells (x.enc++(y.enc++z.enc)).toArray 64 (0,0))]) (hs:=fun i=>if i=0 then H else if i=1 then K else L)
  ⟨rfl,.inr ⟨b1,_,rfl,rfl,rfl,Nat.le_refl _,by simp[Nd.kids]⟩⟩ (fun h=>by cases h) fun i u h=>by
    match i,h with
    | 0,h=>cases h;exact hx
    | 1,h=>cases h;exact hy
    | 2,h=>cases h;exact hz
def iJ(c:PC)(l:Int)(sub:PS→Px×PS)(res:Px×PS)(many:Int)(fuel:Nat)(x:Px)(s:PS):Prop :=
 res=if l=4 then (if many=0 then (if c.any lU s<0 then (x,s) else (wB (11+c.any lU s) (c.now s).pos x (sub s.inc).1,(sub s.inc).2)) else (x,s)) else c.fq (sd l) (BQ l) sub fuel x s
section
variable {c:PC} {t:ByteArray} {l:Int} {sub:PS→Px×PS} {res:Px×PS} {many:Int} {fuel:Nat} {x:Px} {s:PS}
theorem wS(h:0≤c.any (sd l) s):c.any (sd l) s<6:=by
 have h1:=(dD h).2
 have:(sd l).length≤6:=by unfold sd;repeat' split<;>try decide
 omega
theorem wT(l:Int):0≤BQ l∧BQ l≤18:=by unfold BQ;repeat' split<;>try decide
theorem iJ.stop(h:iJ c l sub res many fuel x s)(hs:c.any (sd l) s<0∨(l=4∧many≠0)):res=(x,s):=by
 unfold iJ at h
 by_cases h4:l=4
 ·subst h4
  rw[if_pos rfl] at h
  by_cases hm:many=0
  ·rw[if_pos hm] at h
   have hs:c.any lU s<0:=hs.resolve_right fun h=>h.2 hm
   rw[if_pos hs] at h;exact h
  ·rw[if_neg hm] at h;exact h
 ·rw[if_neg h4] at h
  have hs:=hs.resolve_right fun h=>h4 h.1
  cases fuel with
  | zero=>exact h
  | succ n=>rw[PC.fq,if_pos hs] at h;exact h
theorem iJ.next(h:iJ c l sub res many fuel x s)(hm:l≠4∨many=0)(ha:0≤c.any (sd l) s)(h0:0≤many)(hf:0<fuel):iJ c l sub res (many+1) (fuel-1) (wB (BQ l+c.any (sd l) s) (c.now s).pos x (sub s.inc).1) (sub s.inc).2:=by
 unfold iJ at h ⊢
 by_cases h4:l=4
 ·subst h4
  have hm:=hm.resolve_left fun h=>h rfl
  rw[if_pos rfl,if_pos hm,if_neg (Int.not_lt.2 (show 0≤c.any lU s from ha))] at h
  rw[if_pos rfl,if_neg (by omega)];exact h
 ·rw[if_neg h4] at h ⊢
  obtain⟨n,rfl⟩:∃n,fuel=n+1:=⟨fuel-1,by omega⟩
  rw[PC.fq,if_neg (Int.not_lt.2 ha)] at h;exact h
theorem iJ.dead(h:iJ c l sub res many fuel x s)(hk:∀f,Kp c f sub)(hm:many≠0){f:PF}(hd:c.dP f s):c.dP f res.2:=by
 unfold iJ at h
 rw[h]
 split
 ·exact hd
 ·exact Kp.fq _ _ _ hd
def PC.yu(c:PC)(l:Int)(sub:PS→Px×PS)(s:PS):Px×PS :=
 if l=4 then (if c.any lU (sub s).2<0 then sub s else (wB (11+c.any lU (sub s).2) (c.now (sub s).2).pos (sub s).1 (sub (sub s).2.inc).1,(sub (sub s).2.inc).2)) else c.loop (sd l) (BQ l) sub s
theorem iJ.start(c:PC)(l:Int)(sub:PS→Px×PS)(s:PS):iJ c l sub (c.yu l sub s) 0 c.l.length (sub s).1 (sub s).2:=by
 unfold iJ PC.yu
 split
 ·rw[if_pos rfl]
 ·rfl
theorem vH(hk:∀f,Kp c f sub){f:PF}(hd:c.dP f (sub s).2):c.dP f (c.yu l sub s).2:=by
 unfold PC.yu
 split
 ·rw[hd.any,if_pos (by decide)];exact hd
 ·exact Kp.fq _ _ _ hd
def wU(c:PC)(t:ByteArray)(l d:Int)(g:PS→Px×PS):Prop:=∀(b:Nat) (s:PS) (I:cS) (F F0:cR),c.Live s→F.Perm (c.px t b s::F0)→cU P 90 #[.pointer (some ⟨b,0,none⟩),.int .i64 l,.int .i64 d] I F (de c t b qu F0 (g s))
theorem wV{d:Int}{g:PS→Px×PS}(hl2:0≤l∧l≤10)(hr:wU c t (l+1) d g){b bp bl:Nat}{tp tl:Nat}{s:PS}{I:cS}{F F0:cR}(hl:c.Live s)(hp:(bp,Obj.cells #[.pointer (some ⟨b,0,none⟩)] tp (0,0))∈F)(hb:(bl,Obj.cells #[.int .i64 l] tl (0,0))∈F)(hF:F.Perm (c.px t b s::F0)) :
  cU P 114 #[.int .i64 d,.pointer (some ⟨bp,0,none⟩),.pointer (some ⟨bl,0,none⟩)] I F (de c t b qu F0 (g s)):=by
 refine gC.vc ?_
 unfold gC.V
 intro b0
 refine⟨_,AP (.tail _ hp),_,AP (.tail _ hb), ?_⟩
 rw[ew (n:=l+1) (by omega)]
 refine de.use (hr b s I _ _ hl (wO hF)) (fun v K I6 G l6 hL hv hG=>.inl ?_) fun f e I6 G l6 hd hf=>.inr (di.dC [_] hf fun e' G' hf'=>.inr ⟨f,hd,hf'⟩)
 obtain⟨n,rfl,hv⟩:=hv
 exact⟨_,_,_,_,_,_,_,_,_,_,rfl,c.px t b (g s).2::(K++F0),hG.trans (cV fun z=>by simp only[cW,cX,c7];omega),.inl ⟨hL,_,K,rfl,⟨n,rfl,hv⟩,.refl _⟩⟩
theorem uq(hc:c.Of t){d:Int}(hl6:2≤l∧l≤6)(hMo:ee c sub)(hKp:∀f,Kp c f sub)(hs1:l<6→wU c t (l+1) d sub)(hs2:l=6→zZ c t 113 d sub):wU c t l d (c.yu l sub):=by
 intro b s I F F0 hl hF
 refine iD.vc (fun many bp bl n0 n1 n2 n3 n4 n5 a n k n7 m I' F'=>bp=some ⟨b,0,none⟩∧l=bl∧0≤many∧∃(x:Nd) (H:cR) (si:PS) (fuel:Nat),n0=x.kind∧n1=x.oper∧n2=x.dU∧n3=x.n∧n4=x.field∧n5=x.name∧a=x.a∧n=x.kids.length∧k=x.c∧n7=x.pos∧eo 64 false x H∧c.Live si ∧
  many≤si.next∧iJ c l sub (c.yu l sub s) many fuel x.px si∧c.l.length≤fuel+si.next∧m=c.l.length-si.next∧F'.Perm (c.px t b si::(H++F0))) ?_
 unfold iD.V
 intro b_p b_l b0
 refine⟨fun hlt=>?_,fun hlt=>?_⟩
 ·have hlt:=of_decide_eq_true hlt
  refine (yr l I _).mono fun e I1 G l1 ⟨wa,wn,wk,he,hS,hn9,hG⟩=>?_
  subst he hG
  refine⟨_,_,_,_,rfl,F,.refl _, ?_⟩
  refine de.use (wV (by omega) (hs1 hlt) hl (.head _) (.tail _ (.head _)) (wP hF)) (fun v K I2 G l2 hL hv hG=>.inl ?_) fun f e I2 G l2 hd hf=>.inr ?_
  rotate_left
  ·obtain⟨ch,he,F2,hG2,hD⟩:=di.dC (I:=I2) (Q:=de c t b qu F0 (c.yu l sub s)) [_,_,_] hf fun e' G' hf'=>.inr ⟨f,vH hKp hd,hf'⟩
   exact⟨ch,he,_,_,F2,hG2,hD⟩
  obtain⟨x0,rfl,hpx0,hO0⟩:=hv
  have hRs:=iJ.start c l sub s
  rw[←hpx0] at hRs
  refine⟨_,_,_,_,_,_,_,_,_,_,rfl,_,_,c.px t b (sub s).2::(K++F0),hG.trans (cV fun z=>by simp only[cW,cX,c7];omega),fun b_n=>⟨⟨_,rfl,rfl,Int.le_refl 0,x0,K,(sub s).2,c.l.length,rfl,rfl,rfl,rfl,rfl,rfl,rfl,rfl,rfl,rfl,hO0,hL,by omega,hRs,by omega,rfl,.refl _⟩, ?_⟩⟩
  intro many bp bl n0 n1 n2 n3 n4 n5 a n k n7 m I3 F3 l3 ⟨gp,gl,g0,x,H,si,fuel,e0,e1,e2,e3,e4,e5,ea,en,ek,e7,hO,hLi,hmn,hR,hfu,gm,hFi⟩
  subst gp gl e0 e1 e2 e3 e4 e5 ea en ek e7 gm
  have lS:=l2
  refine⟨fun h4=>?_,fun h4=>⟨fun hm0=>?_,fun hm0=>?_⟩⟩
  ·have h4:l≠4:=by simpa using h4
   refine cU.ret (iP hLi (dY.of (yJ hFi)) (hS.mono (cS.le_trans lS l3)) hn9) fun I4 l4=>⟨_,rfl,F3,.refl _,fun h=>?_,fun h=>?_⟩
   ·have h:=of_decide_eq_true h
    have e1:=hR.stop (.inl h)
    exact .inl ⟨by rw[e1];exact hLi,_,H,rfl,⟨x,rfl,by rw[e1],hO⟩,by rw[e1];exact hFi⟩
   ·have h:0≤c.any (sd l) si:=by have:=of_decide_eq_false h;omega
    have haw:=wS h
    have hkd:=iQ hLi h
    have hR2:=hR.next (.inl h4) h g0 (show 0<fuel by have:=hLi.2;omega)
    refine⟨_,rfl,_,(dY.of (I:=I4) (yJ hFi)).rd.dE (p:=1) (q:=4) rfl, ?_⟩
    refine de.use (eb hc hLi hkd (yJ hFi)) (fun v K I5 G l5 hL5 hv hG=>.inl ?_) fun f e I5 G l5 hd hf=>.inr (di.dC [_,_,_,_] hf fun e' G' hf'=>.inr ⟨f,hR2.dead hKp (by omega) (hKp _ _ hd),hf'.more⟩)
    obtain⟨rfl,rfl⟩:=hv
    refine⟨rfl,c.px t b si.inc::(H++F0),hG.trans (cV fun z=>by simp only[cW,cX,c7];omega), ?_⟩
    refine de.use (wV (F0:=_::_::_::_::(H++F0)) (by omega) (hs1 hlt) hL5 (.head _) (.tail _ (.head _)) (yJ (.refl _))) (fun v K I6 G l6 hL6 hv hG=>.inl ?_) fun f e I6 G l6 hd hf=>.inr (di.dC [_,_,_,_] hf fun e' G' hf'=>.inr ⟨f,hR2.dead hKp (by omega) hd,hf'.more⟩)
    obtain⟨kn,rfl,hpx,hOk⟩:=hv
    have hup:=hMo si.inc
    have hnx:si.inc.next=si.next+1:=rfl
    refine⟨_,_,_,_,_,_,_,_,_,_,rfl,c.px t b (sub si.inc).2::(K++(H++F0)),hG.trans (cV fun z=>by simp only[cW,cX,c7];omega),fun b1=>⟨c.l.length-(sub si.inc).2.next, ?_,rfl,rfl, ?_,.mk 6 (BQ l+c.any (sd l) si) 0 0 0 ⟨#[]⟩ (some ⟨b1,0,none⟩) 2 [x,kn] (c.tok si.next).pos,(b1,.cells (x.enc++kn.enc).toArray 64 (0,0))::(H++(K++[])),(sub si.inc).2,fuel-1,rfl, ?_,rfl,rfl,rfl,rfl,rfl,rfl,rfl,rfl,eo.two hO hOk,hL6, ?_, ?_, ?_,rfl, ?_⟩⟩
    ·have:=hLi.2;have:=hup.1;omega
    ·rw[ew (n:=many+1) (by have:=hLi.2;have:=hc.qI;omega)];omega
    ·have:=wT l;rw[w8 (n:=c.any (sd l) si) (by omega),w8 (by omega)];rfl
    ·rw[ew (n:=many+1) (by have:=hLi.2;have:=hc.qI;omega)];have:=hup.1;omega
    ·rw[ew (n:=many+1) (by have:=hLi.2;have:=hc.qI;omega),hLi.now] at *
     simp only[Nd.px,Nd.qO,hpx];exact hR2
    ·have:=hup.1;omega
    ·show List.Perm ((b1,Obj.cells (x.enc++kn.enc).toArray 64 (0,0))::_) _
     exact cV fun z=>by simp only[cW,cX,c7];omega
  ·have h4:l=4:=by simpa using h4
   have hm0:many=0:=by simpa using hm0
   refine cU.ret (iP hLi (dY.of (yJ hFi)) (hS.mono (cS.le_trans lS l3)) hn9) fun I4 l4=>⟨_,rfl,F3,.refl _,fun h=>?_,fun h=>?_⟩
   ·have h:=of_decide_eq_true h
    have e1:=hR.stop (.inl h)
    exact .inl ⟨by rw[e1];exact hLi,_,H,rfl,⟨x,rfl,by rw[e1],hO⟩,by rw[e1];exact hFi⟩
   ·have h:0≤c.any (sd l) si:=by have:=of_decide_eq_false h;omega
    have haw:=wS h
    have hkd:=iQ hLi h
    have hR2:=hR.next (.inr hm0) h g0 (show 0<fuel by have:=hLi.2;omega)
    refine⟨_,rfl,_,(dY.of (I:=I4) (yJ hFi)).rd.dE (p:=1) (q:=4) rfl, ?_⟩
    refine de.use (eb hc hLi hkd (yJ hFi)) (fun v K I5 G l5 hL5 hv hG=>.inl ?_) fun f e I5 G l5 hd hf=>.inr (di.dC [_,_,_,_] hf fun e' G' hf'=>.inr ⟨f,hR2.dead hKp (by omega) (hKp _ _ hd),hf'.more⟩)
    obtain⟨rfl,rfl⟩:=hv
    refine⟨rfl,c.px t b si.inc::(H++F0),hG.trans (cV fun z=>by simp only[cW,cX,c7];omega), ?_⟩
    refine de.use (wV (F0:=_::_::_::_::(H++F0)) (by omega) (hs1 hlt) hL5 (.head _) (.tail _ (.head _)) (yJ (.refl _))) (fun v K I6 G l6 hL6 hv hG=>.inl ?_) fun f e I6 G l6 hd hf=>.inr (di.dC [_,_,_,_] hf fun e' G' hf'=>.inr ⟨f,hR2.dead hKp (by omega) hd,hf'.more⟩)
    obtain⟨kn,rfl,hpx,hOk⟩:=hv
    have hup:=hMo si.inc
    have hnx:si.inc.next=si.next+1:=rfl
    refine⟨_,_,_,_,_,_,_,_,_,_,rfl,c.px t b (sub si.inc).2::(K++(H++F0)),hG.trans (cV fun z=>by simp only[cW,cX,c7];omega),fun b1=>⟨c.l.length-(sub si.inc).2.next, ?_,rfl,rfl, ?_,.mk 6 (BQ l+c.any (sd l) si) 0 0 0 ⟨#[]⟩ (some ⟨b1,0,none⟩) 2 [x,kn] (c.tok si.next).pos,(b1,.cells (x.enc++kn.enc).toArray 64 (0,0))::(H++(K++[])),(sub si.inc).2,fuel-1,rfl, ?_,rfl,rfl,rfl,rfl,rfl,rfl,rfl,rfl,eo.two hO hOk,hL6, ?_, ?_, ?_,rfl, ?_⟩⟩
    ·have:=hLi.2;have:=hup.1;omega
    ·rw[ew (n:=many+1) (by have:=hLi.2;have:=hc.qI;omega)];omega
    ·have:=wT l;rw[w8 (n:=c.any (sd l) si) (by omega),w8 (by omega)];rfl
    ·rw[ew (n:=many+1) (by have:=hLi.2;have:=hc.qI;omega)];have:=hup.1;omega
    ·rw[ew (n:=many+1) (by have:=hLi.2;have:=hc.qI;omega),hLi.now] at *
     simp only[Nd.px,Nd.qO,hpx];exact hR2
    ·have:=hup.1;omega
    ·show List.Perm ((b1,Obj.cells (x.enc++kn.enc).toArray 64 (0,0))::_) _
     exact cV fun z=>by simp only[cW,cX,c7];omega
  ·have h4:l=4:=by simpa using h4
   have hm0:many≠0:=by simpa using hm0
   have e1:=hR.stop (.inr ⟨h4,hm0⟩)
   exact .inl ⟨by rw[e1];exact hLi,_,H,rfl,⟨x,rfl,by rw[e1],hO⟩,by rw[e1];exact hFi⟩
 ·have h6:l=6:=by have:=of_decide_eq_false hlt;omega
  refine (yr l I _).mono fun e I1 G l1 ⟨wa,wn,wk,he,hS,hn9,hG⟩=>?_
  subst he hG
  refine⟨_,_,_,_,rfl,F,.refl _, ?_⟩
  refine de.use (hs2 h6 b s I1 _ _ hl (wP hF)) (fun v K I2 G l2 hL hv hG=>.inl ?_) fun f e I2 G l2 hd hf=>.inr ?_
  rotate_left
  ·obtain⟨ch,he,F2,hG2,hD⟩:=di.dC (I:=I2) (Q:=de c t b qu F0 (c.yu l sub s)) [_,_,_] hf fun e' G' hf'=>.inr ⟨f,vH hKp hd,hf'⟩
   exact⟨ch,he,F2,hG2,hD⟩
  obtain⟨x0,rfl,hpx0,hO0⟩:=hv
  have hRs:=iJ.start c l sub s
  rw[←hpx0] at hRs
  refine⟨_,_,_,_,_,_,_,_,_,_,rfl,c.px t b (sub s).2::(K++F0),hG.trans (cV fun z=>by simp only[cW,cX,c7];omega),fun b_n=>⟨⟨_,rfl,rfl,Int.le_refl 0,x0,K,(sub s).2,c.l.length,rfl,rfl,rfl,rfl,rfl,rfl,rfl,rfl,rfl,rfl,hO0,hL,by omega,hRs,by omega,rfl,.refl _⟩, ?_⟩⟩
  intro many bp bl n0 n1 n2 n3 n4 n5 a n k n7 m I3 F3 l3 ⟨gp,gl,g0,x,H,si,fuel,e0,e1,e2,e3,e4,e5,ea,en,ek,e7,hO,hLi,hmn,hR,hfu,gm,hFi⟩
  subst gp gl e0 e1 e2 e3 e4 e5 ea en ek e7 gm
  have lS:=l2
  refine⟨fun h4=>?_,fun h4=>⟨fun hm0=>?_,fun hm0=>?_⟩⟩
  ·have h4:l≠4:=by simpa using h4
   refine cU.ret (iP hLi (dY.of (yJ hFi)) (hS.mono (cS.le_trans lS l3)) hn9) fun I4 l4=>⟨_,rfl,F3,.refl _,fun h=>?_,fun h=>?_⟩
   ·have h:=of_decide_eq_true h
    have e1:=hR.stop (.inl h)
    exact .inl ⟨by rw[e1];exact hLi,_,H,rfl,⟨x,rfl,by rw[e1],hO⟩,by rw[e1];exact hFi⟩
   ·have h:0≤c.any (sd l) si:=by have:=of_decide_eq_false h;omega
    have haw:=wS h
    have hkd:=iQ hLi h
    have hR2:=hR.next (.inl h4) h g0 (show 0<fuel by have:=hLi.2;omega)
    refine⟨_,rfl,_,(dY.of (I:=I4) (yJ hFi)).rd.dE (p:=1) (q:=4) rfl, ?_⟩
    refine de.use (eb hc hLi hkd (yJ hFi)) (fun v K I5 G l5 hL5 hv hG=>.inl ?_) fun f e I5 G l5 hd hf=>.inr (di.dC [_,_,_,_] hf fun e' G' hf'=>.inr ⟨f,hR2.dead hKp (by omega) (hKp _ _ hd),hf'.more⟩)
    obtain⟨rfl,rfl⟩:=hv
    refine⟨rfl,c.px t b si.inc::(H++F0),hG.trans (cV fun z=>by simp only[cW,cX,c7];omega), ?_⟩
    refine de.use (hs2 h6 b si.inc I5 _ (_::_::_::_::(H++F0)) hL5 (yJ (.refl _))) (fun v K I6 G l6 hL6 hv hG=>.inl ?_) fun f e I6 G l6 hd hf=>.inr (di.dC [_,_,_,_] hf fun e' G' hf'=>.inr ⟨f,hR2.dead hKp (by omega) hd,hf'.more⟩)
    obtain⟨kn,rfl,hpx,hOk⟩:=hv
    have hup:=hMo si.inc
    have hnx:si.inc.next=si.next+1:=rfl
    refine⟨_,_,_,_,_,_,_,_,_,_,rfl,c.px t b (sub si.inc).2::(K++(H++F0)),hG.trans (cV fun z=>by simp only[cW,cX,c7];omega),fun b1=>⟨c.l.length-(sub si.inc).2.next, ?_,rfl,rfl, ?_,.mk 6 (BQ l+c.any (sd l) si) 0 0 0 ⟨#[]⟩ (some ⟨b1,0,none⟩) 2 [x,kn] (c.tok si.next).pos,(b1,.cells (x.enc++kn.enc).toArray 64 (0,0))::(H++(K++[])),(sub si.inc).2,fuel-1,rfl, ?_,rfl,rfl,rfl,rfl,rfl,rfl,rfl,rfl,eo.two hO hOk,hL6, ?_, ?_, ?_,rfl, ?_⟩⟩
    ·have:=hLi.2;have:=hup.1;omega
    ·rw[ew (n:=many+1) (by have:=hLi.2;have:=hc.qI;omega)];omega
    ·have:=wT l;rw[w8 (n:=c.any (sd l) si) (by omega),w8 (by omega)];rfl
    ·rw[ew (n:=many+1) (by have:=hLi.2;have:=hc.qI;omega)];have:=hup.1;omega
    ·rw[ew (n:=many+1) (by have:=hLi.2;have:=hc.qI;omega),hLi.now] at *
     simp only[Nd.px,Nd.qO,hpx];exact hR2
    ·have:=hup.1;omega
    ·show List.Perm ((b1,Obj.cells (x.enc++kn.enc).toArray 64 (0,0))::_) _
     exact cV fun z=>by simp only[cW,cX,c7];omega
  ·have h4:l=4:=by simpa using h4
   have hm0:many=0:=by simpa using hm0
   refine cU.ret (iP hLi (dY.of (yJ hFi)) (hS.mono (cS.le_trans lS l3)) hn9) fun I4 l4=>⟨_,rfl,F3,.refl _,fun h=>?_,fun h=>?_⟩
   ·have h:=of_decide_eq_true h
    have e1:=hR.stop (.inl h)
    exact .inl ⟨by rw[e1];exact hLi,_,H,rfl,⟨x,rfl,by rw[e1],hO⟩,by rw[e1];exact hFi⟩
   ·have h:0≤c.any (sd l) si:=by have:=of_decide_eq_false h;omega
    have haw:=wS h
    have hkd:=iQ hLi h
    have hR2:=hR.next (.inr hm0) h g0 (show 0<fuel by have:=hLi.2;omega)
    refine⟨_,rfl,_,(dY.of (I:=I4) (yJ hFi)).rd.dE (p:=1) (q:=4) rfl, ?_⟩
    refine de.use (eb hc hLi hkd (yJ hFi)) (fun v K I5 G l5 hL5 hv hG=>.inl ?_) fun f e I5 G l5 hd hf=>.inr (di.dC [_,_,_,_] hf fun e' G' hf'=>.inr ⟨f,hR2.dead hKp (by omega) (hKp _ _ hd),hf'.more⟩)
    obtain⟨rfl,rfl⟩:=hv
    refine⟨rfl,c.px t b si.inc::(H++F0),hG.trans (cV fun z=>by simp only[cW,cX,c7];omega), ?_⟩
    refine de.use (hs2 h6 b si.inc I5 _ (_::_::_::_::(H++F0)) hL5 (yJ (.refl _))) (fun v K I6 G l6 hL6 hv hG=>.inl ?_) fun f e I6 G l6 hd hf=>.inr (di.dC [_,_,_,_] hf fun e' G' hf'=>.inr ⟨f,hR2.dead hKp (by omega) hd,hf'.more⟩)
    obtain⟨kn,rfl,hpx,hOk⟩:=hv
    have hup:=hMo si.inc
    have hnx:si.inc.next=si.next+1:=rfl
    refine⟨_,_,_,_,_,_,_,_,_,_,rfl,c.px t b (sub si.inc).2::(K++(H++F0)),hG.trans (cV fun z=>by simp only[cW,cX,c7];omega),fun b1=>⟨c.l.length-(sub si.inc).2.next, ?_,rfl,rfl, ?_,.mk 6 (BQ l+c.any (sd l) si) 0 0 0 ⟨#[]⟩ (some ⟨b1,0,none⟩) 2 [x,kn] (c.tok si.next).pos,(b1,.cells (x.enc++kn.enc).toArray 64 (0,0))::(H++(K++[])),(sub si.inc).2,fuel-1,rfl, ?_,rfl,rfl,rfl,rfl,rfl,rfl,rfl,rfl,eo.two hO hOk,hL6, ?_, ?_, ?_,rfl, ?_⟩⟩
    ·have:=hLi.2;have:=hup.1;omega
    ·rw[ew (n:=many+1) (by have:=hLi.2;have:=hc.qI;omega)];omega
    ·have:=wT l;rw[w8 (n:=c.any (sd l) si) (by omega),w8 (by omega)];rfl
    ·rw[ew (n:=many+1) (by have:=hLi.2;have:=hc.qI;omega)];have:=hup.1;omega
    ·rw[ew (n:=many+1) (by have:=hLi.2;have:=hc.qI;omega),hLi.now] at *
     simp only[Nd.px,Nd.qO,hpx];exact hR2
    ·have:=hup.1;omega
    ·show List.Perm ((b1,Obj.cells (x.enc++kn.enc).toArray 64 (0,0))::_) _
     exact cV fun z=>by simp only[cW,cX,c7];omega
  ·have h4:l=4:=by simpa using h4
   have hm0:many≠0:=by simpa using hm0
   have e1:=hR.stop (.inr ⟨h4,hm0⟩)
   exact .inl ⟨by rw[e1];exact hLi,_,H,rfl,⟨x,rfl,by rw[e1],hO⟩,by rw[e1];exact hFi⟩
end
end Go.Lx
