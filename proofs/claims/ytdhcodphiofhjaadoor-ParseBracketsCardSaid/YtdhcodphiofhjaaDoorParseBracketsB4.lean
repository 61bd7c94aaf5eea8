import Derived.Test.YtdhcodphiofhjaaDoorParseBracketsB3
set_option linter.unusedVariables false
set_option linter.unusedSimpArgs false
set_option linter.unusedSectionVars false
set_option maxRecDepth 100000
namespace Go.Lx
open Go.Vc Go.Proofs.Tryd
def jz:List (Nat×List Sh):=[(0,[]),(2,[.one (.int .i64)]),(3,[.one (.int .i64)]),(9,[.one .str]),(25,[.one (.int .u8)]),(68,[.one (.int .u8)]),(103,[.agg [(.int .u8),.str,(.int .u8),(.int .i64),(.int .i64)],.one (.int .i64),.one (.int .i64)]),(134,[.one .slc,.one (.int .i64),.one (.int .i64)])]
def jf.V(b:OA)(a c:Nat)(v:Bs)(I:cS)(F:cR)(Q:cZ)(Inv6:Int→Int→Nat→cS→cR→Prop):Prop:=(∃m:Nat,Inv6 0 0 m I F)∧∀(x x1:Int) (m1:Nat) (I1:cS) (F1:cR),cS.le I I1→Inv6 x x1 m1 I1 F1→(Dt (x1<(a:Int)) ((0≤x1∧x1<(a:Int))∧∃ad:Addr,b=some ad∧∃(m2:Bs),Rd I1 F1 (ad.add (Int.toNat x1*1)) [.string m2]∧(It (v.toList==m2.toList) (Q (.returned (.int .i64 x1)) I1 F1) (∃m3:Nat,m3<m1∧Inv6 x (IntKind.wrap .i64 (x1+1)) m3 I1 F1))) (Q (.returned (.int .i64 (-1))) I1 F1))
theorem jf.vc{a:OA}{b c:Nat}{v:Bs}{I:cS}{F:cR}{Q:cZ}(Inv6:Int→Int→Nat→cS→cR→Prop)(h:jf.V a b c v I F Q Inv6):cX P 51 #[.slice a b c,.string v] I F Q :=
 tw (A:=(fP [2000,4005] [] [] jz [(6,⟨[(4,(.int .i64)),(8,(.int .i64))],[],fun _ _ _ vs m I F=>match vs with | [.int _ y0,.int _ y1]=>Inv6 y0 y1 m I F | _=>False,[],[]⟩)] [] [] [] [] [] [])) [] func51 h
def jg.V(s:Bs)(a:Int)(I:cS)(F:cR)(Q:cZ)  : Prop:=((0≤a∧a≤(s.size:Int)∧(s.size:Int)≤(s.size:Int))∧tR P 49 (#[.string (s.extract (Int.toNat a) (Int.toNat ((s.size:Int))))]) I (·) F fun e1 I1 G1=>∃(b:OA) (c d:Nat) (r1 r2:Int),e1=.returned (.tuple #[.slice b c d,.int .i64 r1,.int .i64 r2])∧G1 fun F1=>Q (.returned (.int .i64 (IntKind.wrap .i64 (a+r2)))) I1 F1)
theorem jg.vc{s:Bs}{a:Int}{I:cS}{F:cR}{Q:cZ}  (h:jg.V s a I F Q):cX P 37 #[.string s,.int .i64 a] I F Q :=
 tw (A:=(an [] [49] jz)) [49] func37 h
def jM.V(vb:Int→Value)(vs:Bs→Value)(vl:OA→Nat→Nat→Value)(a:Int)(I:cS)(F:cR)(Q:cZ)  : Prop:=(It (a==2) (∀(b:Nat) (I1:cS),cS.le I I1→I1 b=some (Obj.cells #[vs (⟨#[124,124]⟩:Bs)] 9 (0,0))→Q (.returned (.tuple #[vl (some ⟨b,0,none⟩) 1 1,vb 18])) I1 F) (It (a==3) (∀(b1:Nat) (I2:cS),cS.le I I2→I2 b1=some (Obj.cells #[vs (⟨#[38,38]⟩:Bs)] 9 (0,0))→Q (.returned (.tuple #[vl (some ⟨b1,0,none⟩) 1 1,vb 17])) I2 F) (It (a==4) (∀(b2:Nat) (I3:cS),cS.le I I3→I3 b2=some (Obj.cells #[vs (⟨#[61,61]⟩:Bs),vs (⟨#[33,61]⟩:Bs),vs (⟨#[60]⟩:Bs),vs (⟨#[60,61]⟩:Bs),vs (⟨#[62]⟩:Bs),vs (⟨#[62,61]⟩:Bs)] 9 (0,0))→Q (.returned (.tuple #[vl (some ⟨b2,0,none⟩) 6 6,vb 11])) I3 F) (It (a==5) (∀(b3:Nat) (I4:cS),cS.le I I4→I4 b3=some (Obj.cells #[vs (⟨#[43]⟩:Bs),vs (⟨#[45]⟩:Bs)] 9 (0,0))→Q (.returned (.tuple #[vl (some ⟨b3,0,none⟩) 2 2,vb 6])) I4 F) (∀(b4:Nat) (I5:cS),cS.le I I5→I5 b4=some (Obj.cells #[vs (⟨#[42]⟩:Bs),vs (⟨#[47]⟩:Bs),vs (⟨#[37]⟩:Bs)] 9 (0,0))→Q (.returned (.tuple #[vl (some ⟨b4,0,none⟩) 3 3,vb 8])) I5 F)))))
theorem jM.vc{a:Int}{I:cS}{F:cR}{Q:cZ}  (h:jM.V (.int .u8) .string .slice a I F Q):cX P 40 #[.int .i64 a] I F Q :=
 tw (A:=(fP [2000,4000,6000,8000] [] [] jz [] [3000,5000,7000,9000,10000] [] [] [] [] [])) [] func40 h
def fF.V(p:Addr)(e1:Int)(I:cS)(F:cR)(Q:cZ)  : Prop:=∃ad:Addr,some p=some ad∧∃(m:Int),Rd I F ((ad.add 1).add 4) [.int .i64 m]∧∀b:Nat,Q (.panicked ([{ v:=Value.iface 39 (.pointer (some (⟨b,0,none⟩:Addr))),recovered:=false }])) I (((b,Obj.cells #[.string (⟨#[]⟩:Bs),.int .i64 m,Value.iface 34 (.int .i64 e1)] 41 (0,0))::F))
theorem fF.vc{p:Addr}{e1:Int}{I:cS}{F:cR}{Q:cZ}  (h:fF.V p e1 I F Q):cX P 19 #[.pointer (some p),.int .i64 e1] I F Q :=
 tw (A:=(fP [] [] [] jz [] [] [8] [] [] [] [])) [] func19 h
def eh.V(ka:Nat→Int→Bs→Int→Int→Int→Nat×Obj)(kb:Nat→Bs→Int→Value→Nat×Obj)(vb vi:Int→Value)(vs:Bs→Value)(vp:OA→Value)(p:Addr)(I:cS)(F:cR)(Q:cZ)  : Prop:=∃ad:Addr,some p=some ad∧∃ae:Addr,some p=some ae∧∃(m:Bs),Rd I F (ad.add 0) [vs m]∧∃(m1:Int),Rd I F (ae.add 6) [vi m1]∧(tR P 36 #[vs m,vi m1] I (·) F fun e1 I1 G1=>∃(g:Int) (h:Bs) (i j k r1 r2:Int),e1=.returned (.tuple #[.agg #[vb g,vs h,vb i,vi j,vi k],vi r1,vi r2])∧G1 fun F1=>∀u:Nat,(It (r2 != 0) (It (r2 != 110) (∃af:Addr,some p=some af∧∃ag:Addr,some p=some ag∧∃(m2:Bs),Rd I1 ((ka u g h i j k)::F1) (af.add 0) [vs m2]∧∃(m3:Int),Rd I1 ((ka u g h i j k)::F1) (ag.add 6) [vi m3]∧mM P 37 #[vs m2,vi m3] I1 ((ka u g h i j k)::·) F1 vi fun r I2 F2=>∀b:Nat,∀b1:Nat,Q (.panicked ([{ v:=Value.iface 39 (vp (some (⟨b1,0,none⟩:Addr))),recovered:=false }])) I2 (((kb b1 (⟨#[]⟩:Bs) r (Value.iface 39 (vp (some (⟨b,0,none⟩:Addr)))))::((kb b (⟨#[84,111,107,101,110,115]⟩:Bs) r (Value.iface 34 (vi r2)))::F2)))) (∀b2:Nat,∀b3:Nat,Q (.panicked ([{ v:=Value.iface 39 (vp (some (⟨b3,0,none⟩:Addr))),recovered:=false }])) I1 (((kb b3 (⟨#[]⟩:Bs) 0 (Value.iface 39 (vp (some (⟨b2,0,none⟩:Addr)))))::((kb b2 (⟨#[84,111,107,101,110,115]⟩:Bs) 0 (Value.iface 34 (vi r2)))::F1))))) (∃o:Addr,some p=some o∧∃(cs:List Value) (el:Nat) (F3:cR),List.Perm F1 (((o.add 1).block,Obj.cells cs.toArray el (0,0))::F3)∧(o.add 1).spot=none∧(o.add 1).off+5≤cs.length∧∃q:Addr,some p=some q∧∃(w:List Value) (z:Nat) (F4:cR),List.Perm (((o.add 1).block,Obj.cells (de (o.add 1).off [vb g,vs h,vb i,vi j,vi k] cs).toArray el (0,0))::F3) (((q.add 6).block,Obj.cells w.toArray z (0,0))::F4)∧(q.add 6).spot=none∧(q.add 6).off+1≤w.length∧Q (.returned (.tuple #[])) I1 ((((q.add 6).block,Obj.cells (de (q.add 6).off [vi r1] w).toArray z (0,0))::F4)))))∧(∀l:Nat,tR P 36 #[vs m,vi m1] I ((ka l 0 (⟨#[]⟩:Bs) 0 0 0)::·) F fun e3 I3 G3=>∃(a:Int) (c:Bs) (d e f aa n:Int),e3=.returned (.tuple #[.agg #[vb a,vs c,vb d,vi e,vi f],vi aa,vi n])∧G3 fun F5=>(It (n != 0) (It (n != 110) (∃ah:Addr,some p=some ah∧∃ai:Addr,some p=some ai∧∃(m4:Bs),Rd I3 ((ka l a c d e f)::F5) (ah.add 0) [vs m4]∧∃(m5:Int),Rd I3 ((ka l a c d e f)::F5) (ai.add 6) [vi m5]∧mM P 37 #[vs m4,vi m5] I3 ((ka l a c d e f)::·) F5 vi fun r3 I4 F6=>∀b4:Nat,∀b5:Nat,Q (.panicked ([{ v:=Value.iface 39 (vp (some (⟨b5,0,none⟩:Addr))),recovered:=false }])) I4 (((kb b5 (⟨#[]⟩:Bs) r3 (Value.iface 39 (vp (some (⟨b4,0,none⟩:Addr)))))::((kb b4 (⟨#[84,111,107,101,110,115]⟩:Bs) r3 (Value.iface 34 (vi n)))::F6)))) (∀b6:Nat,∀b7:Nat,Q (.panicked ([{ v:=Value.iface 39 (vp (some (⟨b7,0,none⟩:Addr))),recovered:=false }])) I3 (((kb b7 (⟨#[]⟩:Bs) 0 (Value.iface 39 (vp (some (⟨b6,0,none⟩:Addr)))))::((kb b6 (⟨#[84,111,107,101,110,115]⟩:Bs) 0 (Value.iface 34 (vi n)))::F5))))) (∃s:Addr,some p=some s∧∃(x:List Value) (ab:Nat) (F7:cR),List.Perm F5 (((s.add 1).block,Obj.cells x.toArray ab (0,0))::F7)∧(s.add 1).spot=none∧(s.add 1).off+5≤x.length∧∃t:Addr,some p=some t∧∃(y:List Value) (ac:Nat) (F8:cR),List.Perm (((s.add 1).block,Obj.cells (de (s.add 1).off [vb a,vs c,vb d,vi e,vi f] x).toArray ab (0,0))::F7) (((t.add 6).block,Obj.cells y.toArray ac (0,0))::F8)∧(t.add 6).spot=none∧(t.add 6).off+1≤y.length∧Q (.returned (.tuple #[])) I3 ((((t.add 6).block,Obj.cells (de (t.add 6).off [vi aa] y).toArray ac (0,0))::F8)))))
theorem eh.vc{p:Addr}{I:cS}{F:cR}{Q:cZ}  (h:eh.V (fun W a b c d e=>(W,Obj.cells #[.int .u8 a,.string b,.int .u8 c,.int .i64 d,.int .i64 e] 70 (0,0))) (fun W a b c=>(W,Obj.cells #[.string a,.int .i64 b,c] 41 (0,0))) (.int .u8) (.int .i64) .string .pointer p I F Q):cX P 18 #[.pointer (some p)] I F Q :=
 tw (A:=(fP [1001,3001] [] [36,37] jz [] [] [5005,5008] [] [] [(0,[0,1,2,4,5,6,3,7]),(4,[0,1,2,4,5,6,3,7,8,9])] [] [(0,8,13,[9,10,11,12,13,14,15,16],[8,9,10,11,12,14,15,16])])) [36,37] func18 h
def gH.V(p:Addr)(s:Bs)(I:cS)(F:cR)(Q:cZ)  : Prop:=∃ad:Addr,some p=some ad∧∃(m:Int),Rd I F ((ad.add 1).add 0) [.int .u8 m]∧(It (m==1) (∃a:Addr,some p=some a∧∃(m1:Bs),Rd I F ((a.add 1).add 1) [.string m1]∧Q (.returned (.bool (m1.toList==s.toList))) I F) (∃b:Addr,some p=some b∧∃(m2:Int),Rd I F ((b.add 1).add 0) [.int .u8 m2]∧(It (m2==4) (∃c:Addr,some p=some c∧∃(m3:Bs),Rd I F ((c.add 1).add 1) [.string m3]∧Q (.returned (.bool (m3.toList==s.toList))) I F) (Q (.returned (.bool false)) I F))))
theorem gH.vc{p:Addr}{s:Bs}{I:cS}{F:cR}{Q:cZ}  (h:gH.V p s I F Q):cX P 21 #[.pointer (some p),.string s] I F Q :=
 tw (A:=(an [1005,1012] [] jz)) [] func21 h
def fG.V(vi:Int→Value)(vs:Bs→Value)(p:Addr)(a:OA)(b c:Nat)(I:cS)(F:cR)(Q:cZ)  : Prop:=∃ad:Addr,some p=some ad∧∃(m:Int),Rd I F ((ad.add 1).add 0) [.int .u8 m]∧(It (m != 1) (∃d:Addr,some p=some d∧∃(m1:Int),Rd I F ((d.add 1).add 0) [.int .u8 m1]∧(It (m1 != 4) (Q (.returned (vi (-1))) I F) (∃e:Addr,some p=some e∧∃(m2:Bs),Rd I F ((e.add 1).add 1) [vs m2]∧mM P 51 #[.slice a b c,vs m2] I (·) F vi fun r I1 F1=>Q (.returned (vi r)) I1 F1))) (∃f:Addr,some p=some f∧∃(m3:Bs),Rd I F ((f.add 1).add 1) [vs m3]∧mM P 51 #[.slice a b c,vs m3] I (·) F vi fun r1 I2 F2=>Q (.returned (vi r1)) I2 F2))
theorem fG.vc{p:Addr}{a:OA}{b c:Nat}{I:cS}{F:cR}{Q:cZ}  (h:fG.V (.int .i64) .string p a b c I F Q):cX P 41 #[.pointer (some p),.slice a b c] I F Q :=
 tw (A:=(an [1005,1012] [51] jz)) [51] func41 h
def gq.V(vi:Int→Value)(vp:OA→Value)(p:Addr)(c:OA)(d e:Nat)(I:cS)(F:cR)(Q:cZ)  : Prop:=mM P 41 (#[vp (some p),.slice c d e]) I (·) F vi fun r I1 F1=>(Dt (r<0) (cX P 19 (#[vp (some p),vi 130]) I1 F1 fun e2 I2 G2=>((e2=.returned (.tuple #[])∧∃F2:cR,List.Perm G2 F2∧cX P 18 (#[vp (some p)]) I2 F2 fun e3 I3 G3=>((e3=.returned (.tuple #[])∧∃F3:cR,List.Perm G3 F3∧Q (.returned (vi r)) I3 F3)∨(∃ch:List PanicEntry,e3=.panicked ch∧∃F4:cR,List.Perm G3 F4∧Q (.panicked ch) I3 F4)))∨(∃a:List PanicEntry,e2=.panicked a∧∃F5:cR,List.Perm G2 F5∧Q (.panicked a) I2 F5))) (cX P 18 (#[vp (some p)]) I1 F1 fun e4 I4 G4=>((e4=.returned (.tuple #[])∧∃F6:cR,List.Perm G4 F6∧Q (.returned (vi r)) I4 F6)∨(∃b:List PanicEntry,e4=.panicked b∧∃F7:cR,List.Perm G4 F7∧Q (.panicked b) I4 F7))))
theorem gq.vc{p:Addr}{a:OA}{b c:Nat}{I:cS}{F:cR}{Q:cZ}  (h:gq.V (.int .i64) .pointer p a b c I F Q):cX P 23 #[.pointer (some p),.slice a b c] I F Q :=
 tw (A:=(fP [2001] [18,19] [18,19,41] jz [] [] [] [] [] [] [])) [18,19,41] func23 h
def fT.V(p:Addr)(I:cS)(F:cR)(Q:cZ)  : Prop:=∃ad:Addr,some p=some ad∧∃(m:Bs),Rd I F ((ad.add 1).add 1) [.string m]∧∃a:Addr,some p=some a∧∃(m1:Int),Rd I F ((a.add 1).add 0) [.int .u8 m1]∧(It (m1 != 2) (cX P 19 (#[.pointer (some p),.int .i64 130]) I F fun e1 I1 G1=>((e1=.returned (.tuple #[])∧∃F1:cR,List.Perm G1 F1∧cX P 18 (#[.pointer (some p)]) I1 F1 fun e2 I2 G2=>((e2=.returned (.tuple #[])∧∃F2:cR,List.Perm G2 F2∧Q (.returned (.string m)) I2 F2)∨(∃ch:List PanicEntry,e2=.panicked ch∧∃F3:cR,List.Perm G2 F3∧Q (.panicked ch) I2 F3)))∨(∃b:List PanicEntry,e1=.panicked b∧∃F4:cR,List.Perm G1 F4∧Q (.panicked b) I1 F4))) (cX P 18 (#[.pointer (some p)]) I F fun e3 I3 G3=>((e3=.returned (.tuple #[])∧∃F5:cR,List.Perm G3 F5∧Q (.returned (.string m)) I3 F5)∨(∃c:List PanicEntry,e3=.panicked c∧∃F6:cR,List.Perm G3 F6∧Q (.panicked c) I3 F6))))
theorem fT.vc{p:Addr}{I:cS}{F:cR}{Q:cZ}  (h:fT.V p I F Q):cX P 29 #[.pointer (some p)] I F Q :=
 tw (A:=(fP [2005] [18,19] [18,19] jz [] [] [] [] [] [] [])) [18,19] func29 h
def fj.V(p:Addr)(d:Int)(I:cS)(F:cR)(Q:cZ)  : Prop:=(It (d==24) (cX P 19 (#[.pointer (some p),.int .i64 132]) I F fun e1 I1 G1=>((e1=.returned (.tuple #[])∧∃F1:cR,List.Perm G1 F1∧Q (.returned (.int .i64 (IntKind.wrap .i64 (d+1)))) I1 F1)∨(∃ch:List PanicEntry,e1=.panicked ch∧∃F2:cR,List.Perm G1 F2∧Q (.panicked ch) I1 F2))) (Q (.returned (.int .i64 (IntKind.wrap .i64 (d+1)))) I F))
theorem fj.vc{p:Addr}{d:Int}{I:cS}{F:cR}{Q:cZ}  (h:fj.V p d I F Q):cX P 22 #[.pointer (some p),.int .i64 d] I F Q :=
 tw (A:=(fP [1001] [19] [19] jz [] [] [] [] [] [] [])) [19] func22 h
def eZ.V(nV:Int→Int→Int→Int→Int→Bs→OA→Nat→Nat→Int→Value)(nO:Int→Int→Int→Int→Int→Bs→OA→Nat→Nat→Int→Obj)(vs:Bs→Value)(vt:Bool→Value)(vp:OA→Value)(wr:Int→Int)(p:Addr)(I:cS)(F:cR)(Q:cZ)  : Prop:=∀b:Nat,∃ad:Addr,some p=some ad∧∃(m:Int),Rd I ((b,nO 0 0 0 0 0 (⟨#[]⟩:Bs) none 0 0 0)::F) ((ad.add 1).add 4) [.int .i64 m]∧∀a:Nat,∃c:Addr,some p=some c∧∃(m1:Int),Rd I ((b,nO 0 0 0 0 0 (⟨#[]⟩:Bs) none 0 0 0)::(a,nO 1 0 0 0 0 (⟨#[]⟩:Bs) none 0 0 m)::F) ((c.add 1).add 0) [.int .u8 m1]∧(It (m1==3) (∃d:Addr,some p=some d∧∃(m2:Int),Rd I ((b,nO 0 0 0 0 0 (⟨#[]⟩:Bs) none 0 0 0)::(a,nO 1 0 0 0 0 (⟨#[]⟩:Bs) none 0 0 m)::F) ((d.add 1).add 2) [.int .u8 m2]∧∃e:Addr,some p=some e∧∃(m3:Int),Rd I F ((e.add 1).add 3) [.int .i64 m3]∧cX P 18 (#[vp (some p)]) I ((b,nO 0 0 0 0 0 (⟨#[]⟩:Bs) none 0 0 0)::(a,nO 1 0 m2 m3 0 (⟨#[]⟩:Bs) none 0 0 m)::F) fun e1 I1 G1=>((e1=.returned (.tuple #[])∧∃F1:cR,List.Perm G1 ((b,nO 0 0 0 0 0 (⟨#[]⟩:Bs) none 0 0 0)::(a,nO 1 0 m2 m3 0 (⟨#[]⟩:Bs) none 0 0 m)::F1)∧Q (.returned (.tuple #[nV 1 0 m2 m3 0 (⟨#[]⟩:Bs) none 0 0 m,vt true])) I1 F1)∨(∃ch:List PanicEntry,e1=.panicked ch∧∃F2:cR,List.Perm G1 ((b,nO 0 0 0 0 0 (⟨#[]⟩:Bs) none 0 0 0)::(a,nO 1 0 m2 m3 0 (⟨#[]⟩:Bs) none 0 0 m)::F2)∧Q (.panicked ch) I1 F2))) (∀(b1:Nat) (I2:cS),cS.le I I2→I2 b1=some (Obj.cells #[vs (⟨#[102,97,108,115,101]⟩:Bs),vs (⟨#[116,114,117,101]⟩:Bs),vs (⟨#[98,117,121]⟩:Bs),vs (⟨#[115,101,108,108]⟩:Bs)] 9 (0,0))→mM P 41 (#[vp (some p),.slice (some ⟨b1,0,none⟩) 4 4]) I2 ((b,nO 0 0 0 0 0 (⟨#[]⟩:Bs) none 0 0 0)::(a,nO 1 0 0 0 0 (⟨#[]⟩:Bs) none 0 0 m)::·) F (.int .i64) fun r I3 F3=>(Dt (r<0) (Q (.returned (.tuple #[nV 0 0 0 0 0 (⟨#[]⟩:Bs) none 0 0 0,vt false])) I3 F3) (Dt (r>1) (cX P 18 (#[vp (some p)]) I3 ((b,nO 0 0 0 0 0 (⟨#[]⟩:Bs) none 0 0 0)::(a,nO 1 0 6 (wr (r-1)) 0 (⟨#[]⟩:Bs) none 0 0 m)::F3) fun e3 I4 G3=>((e3=.returned (.tuple #[])∧∃F4:cR,List.Perm G3 ((b,nO 0 0 0 0 0 (⟨#[]⟩:Bs) none 0 0 0)::(a,nO 1 0 6 (wr (r-1)) 0 (⟨#[]⟩:Bs) none 0 0 m)::F4)∧Q (.returned (.tuple #[nV 1 0 6 (wr (r-1)) 0 (⟨#[]⟩:Bs) none 0 0 m,vt true])) I4 F4)∨(∃f:List PanicEntry,e3=.panicked f∧∃F5:cR,List.Perm G3 ((b,nO 0 0 0 0 0 (⟨#[]⟩:Bs) none 0 0 0)::(a,nO 1 0 6 (wr (r-1)) 0 (⟨#[]⟩:Bs) none 0 0 m)::F5)∧Q (.panicked f) I4 F5))) (cX P 18 (#[vp (some p)]) I3 ((b,nO 0 0 0 0 0 (⟨#[]⟩:Bs) none 0 0 0)::(a,nO 1 0 5 r 0 (⟨#[]⟩:Bs) none 0 0 m)::F3) fun e4 I5 G4=>((e4=.returned (.tuple #[])∧∃F6:cR,List.Perm G4 ((b,nO 0 0 0 0 0 (⟨#[]⟩:Bs) none 0 0 0)::(a,nO 1 0 5 r 0 (⟨#[]⟩:Bs) none 0 0 m)::F6)∧Q (.returned (.tuple #[nV 1 0 5 r 0 (⟨#[]⟩:Bs) none 0 0 m,vt true])) I5 F6)∨(∃g:List PanicEntry,e4=.panicked g∧∃F7:cR,List.Perm G4 ((b,nO 0 0 0 0 0 (⟨#[]⟩:Bs) none 0 0 0)::(a,nO 1 0 5 r 0 (⟨#[]⟩:Bs) none 0 0 m)::F7)∧Q (.panicked g) I5 F7)))))))
theorem eZ.vc{p:Addr}{I:cS}{F:cR}{Q:cZ}  (h:eZ.V (fun k o t n f s a l c q=>.agg #[.int .u8 k,.int .u8 o,.int .u8 t,.int .i64 n,.int .u8 f,.string s,.slice a l c,.int .i64 q]) (fun k o t n f s a l c q=>.cells #[.int .u8 k,.int .u8 o,.int .u8 t,.int .i64 n,.int .u8 f,.string s,.slice a l c,.int .i64 q] 29 (0,0)) .string .bool .pointer (IntKind.wrap .i64) p I F Q):cX P 45 #[.pointer (some p)] I F Q :=
 tw (A:=(fP [2005,5001,8001] [18] [18,41] jz [] [4001] [] [(3,11,[1])] [] [] [(3,12)])) [18,41] func45 h
end Go.Lx
namespace Go.Lx
open Go.Vc
def dO(I:cS)(G:cR)(t:ByteArray)(b:Nat)(k:Tok)(f:Int):Prop:=I b=some (zK t k f)∨(b,zK t k f)∈G
theorem dO.rd{I:cS}{G:cR}{t:ByteArray}{b:Nat}{k:Tok}{f:Int}(h:dO I G t b k f):Rd I G (⟨b,0,none⟩:Addr) (B2 t k f):=⟨rfl,_,_,_,h,fun j hj=>by simp⟩
theorem dO.mono{I J:cS}{G H:cR}{t:ByteArray}{b:Nat}{k:Tok}{f:Int}(h:dO I G t b k f)(hl:cS.le I J)(hs:∀x,x∈G→x∈H):dO J H t b k f:=h.imp (fun h=>hl.at h) (hs _)
theorem dO.of{I:cS}{F G:cR}{t:ByteArray}{b:Nat}{k:Tok}{f:Int}(h:F.Perm (pX t b k f::G)):dO I F t b k f:=.inr (h.mem_iff.2 (.head _))
theorem fa{I:cS}{F:cR}{t:ByteArray}{b:Nat}{k:Tok}{f:Int}(h:dO I F t b k f)(e:Int):cX P 19 #[.pointer (some ⟨b,0,none⟩),.int .i64 e] I F fun e' I' G=>dc ⟨e,k.pos,false⟩ F e' G:=by
 refine fF.vc ?_
 unfold fF.V
 exact⟨_,rfl,_,h.rd.dE (p:=1) (q:=4) rfl,fun b1=>⟨b1,_,[],[],rfl,⟨rfl,rfl⟩,.refl _⟩⟩
theorem wE{I:cS}{G:cR}{b ty:Nat}{v:Value}(h:(b,Obj.cells #[v] ty (0,0))∈G):Rd I G (⟨b,0,none⟩:Addr) [v]:=Rd.u7 h 0 fun j hj=>by
 have:j=0:=by simpa using hj
 subst this;rfl
theorem sM{x p:Nat×Obj}{F F0:cR}(h:F.Perm (p::F0)):(x::F).Perm (p::x::F0):=(h.cons x).trans (.swap ..)
theorem fQ{x y p:Nat×Obj}{F F0:cR}(h:F.Perm (p::F0)):(x::y::F).Perm (p::x::y::F0):=sM (sM h)
theorem sN{x y z p:Nat×Obj}{F F0:cR}(h:F.Perm (p::F0)):(x::y::z::F).Perm (p::x::y::z::F0):=sM (sM (sM h))
theorem uF{x y z u p:Nat×Obj}{F F0:cR}(h:F.Perm (p::F0)):(x::y::z::u::F).Perm (p::x::y::z::u::F0):=sM (sM (sM (sM h)))
theorem dc.tail{f:PF}{x:Nat×Obj}{F F0 G:cR}{e:Ending}(h:dc f F e G)(p:F.Perm (x::F0)):dc f F0 e G:=dc.more (A:=[x]) (h.perm p (.refl _))
theorem vA{t:ByteArray}{f:Int}(h0:0≤f)(h1:f≤t.size):eU (cut t f t.size) t f :=
 ⟨h0,by rw[hZ h0 h1 (Int.le_refl _)];omega,fun k g0 g1=>by
   rw[hZ h0 h1 (Int.le_refl _)] at g1
   rw[oC h0 g0 (by omega) (Int.le_refl _),Int.add_comm]⟩
theorem lr{t:ByteArray}(hs:(t.size:Int)≤4096){f:Int}(h0:0≤f)(h1:f≤t.size){e p:Int}(ht:eP t f=.bad e p)(I:cS)(F:cR):cX P 37 #[.string t,.int .i64 f] I F (od (.int .i64 p) F):=by
 have hB:=vA h0 h1
 have hz:=hZ h0 h1 (Int.le_refl _)
 have hp:0≤p∧p≤t.size:=by
  have ho:=gj (s:=t) h1
  rcases fC h0 h1 with ⟨_,h,_⟩ | ⟨e',h,_⟩
  ·rw[ht] at h;cases h
  ·rw[ht] at h
   have:p=da t f:=(TR.bad.inj h).2
   omega
 have htk:=hB.tok (f:=0) (by decide) (by omega)
 rw[Int.zero_add,ht] at htk
 have hb:eP (cut t f t.size) 0=.bad e (p-f):=by
  cases hc:eP (cut t f t.size) 0 with
  | ok u=>rw[hc] at htk;cases htk
  | bad e' p' =>
    rw[hc] at htk
    obtain⟨rfl,rfl⟩:=TR.bad.inj htk
    rw[show p'+f-f=p' by omega]
 have hT:nM (cut t f t.size)=.error (e,p-f):=by
  unfold nM
  rw[if_neg (by omega),dV (by decide) (by omega),hb]
 refine jg.vc ?_
 unfold jg.V
 refine⟨⟨h0,h1,Int.le_refl _⟩,(ud (s:=cut t f t.size) (by unfold dn;omega) I F).mono fun e1 I1 G l1 hr=>?_⟩
 obtain⟨rfl,hr⟩:=hr
 rw[hT] at hr
 refine⟨_,_,_,_,_,hr,_,.refl _, ?_,rfl⟩
 rw[jD (by omega),show f+(p-f)=p by omega]
theorem wF{I:cS}{F F0:cR}{t:ByteArray}(hs:(t.size:Int)≤4096){b:Nat}{k:Tok}{f:Int}(h0:0≤f)(h1:f≤t.size)(hF:F.Perm (pX t b k f::F0)) :
  cX P 18 #[.pointer (some ⟨b,0,none⟩)] I F fun e' I' G=>match eP t f with
   | .ok k'=>e'=.returned (.tuple #[])∧G.Perm (pX t b k' (ix k')::F0)
   | .bad e p=>dc ⟨e,p,true⟩ F0 e' G:=by
 have hp:=dO.of (I:=I) hF
 refine eh.vc ?_
 unfold eh.V
 have hshort:dn t:=by unfold dn;omega
 have hnx:rI t f=match eP t f with
  | .ok t'=>.tuple #[t'.v,.int .i64 (t'.pos+t'.text.size),.int .i64 0]
  | .bad e p=>.tuple #[(gC 0).v,.int .i64 0,.int .i64 e]:=by unfold rI;rw[if_neg (by omega),if_neg (by omega)];cases eP t f<;>rfl
 have hst:∀(k':Tok),pX t b k' (ix k')=(((⟨b,0,none⟩:Addr).add 6).block,Obj.cells (de ((⟨b,0,none⟩:Addr).add 6).off [.int .i64 (ix k')] (de ((⟨b,0,none⟩:Addr).add 1).off [.int .u8 k'.kind,.string k'.text,.int .u8 k'.dU,.int .i64 k'.n,.int .i64 k'.pos] (B2 t k f))).toArray 72 (0,0)):=fun k'=>by
  rw[fq,fq];rfl
 refine⟨_,rfl,_,rfl,_,hp.rd.field (o:=0) rfl,_,hp.rd.field (o:=6) rfl, ?_,fun b_t=>?_⟩
 ·refine cX.ret (lN hshort I _) fun I1 l1=>?_
  rw[hnx]
  rcases fC h0 h1 with ⟨k',ht,_⟩ | ⟨e,ht,he⟩
  ·rw[ht]
   refine⟨_,_,_,_,_,_,_,rfl,_,.refl _,fun b_t=>⟨fun h=>absurd h (by decide),fun _=>⟨_,rfl,B2 t k f,72,F0,hF,rfl,by rw[fq];exact (by decide:1+5≤7),_,rfl,_,72,F0,.refl _,rfl,by rw[fq,fq];exact (by decide:6+1≤7),rfl, ?_⟩⟩⟩
   rw[hst k'];exact .refl _
  ·rw[ht]
   refine⟨_,_,_,_,_,_,_,rfl,_,.refl _,fun b_t=>⟨fun _=>⟨fun _=>?_,fun h=>?_⟩,fun h=>?_⟩⟩
   ·have hp1:=(hp.mono (J:=I1) (H:=(b_t,Obj.cells #[.int .u8 0,.string ⟨#[]⟩,.int .u8 0,.int .i64 0,.int .i64 0] 70 (0,0))::F) l1 fun x hx=>.tail _ hx)
    refine⟨_,rfl,_,rfl,_,hp1.rd.field (o:=0) rfl,_,hp1.rd.field (o:=6) rfl,cX.ret (lr hs h0 h1 ht I1 _) fun I2 l2=>⟨_,rfl,F,.refl _,fun b1 b2=>?_⟩⟩
    exact dc.tail (F:=F) ⟨b2,_,_,[],rfl,⟨b1,rfl,rfl⟩,.refl _⟩ hF
   ·rcases he with rfl | rfl | rfl<;>exact absurd h (by decide)
   ·rcases he with rfl | rfl | rfl<;>exact absurd h (by decide)
 ·refine cX.ret (lN hshort I _) fun I1 l1=>?_
  rw[hnx]
  rcases fC h0 h1 with ⟨k',ht,_⟩ | ⟨e,ht,he⟩
  ·rw[ht]
   refine⟨_,_,_,_,_,_,_,rfl,_,.refl _,⟨fun h=>absurd h (by decide),fun _=>⟨_,rfl,B2 t k f,72,F0,hF,rfl,by rw[fq];exact (by decide:1+5≤7),_,rfl,_,72,F0,.refl _,rfl,by rw[fq,fq];exact (by decide:6+1≤7),rfl, ?_⟩⟩⟩
   rw[hst k'];exact .refl _
  ·rw[ht]
   refine⟨_,_,_,_,_,_,_,rfl,_,.refl _,⟨fun _=>⟨fun _=>?_,fun h=>?_⟩,fun h=>?_⟩⟩
   ·have hp1:=(hp.mono (J:=I1) (H:=(b_t,Obj.cells #[.int .u8 0,.string ⟨#[]⟩,.int .u8 0,.int .i64 0,.int .i64 0] 70 (0,0))::F) l1 fun x hx=>.tail _ hx)
    refine⟨_,rfl,_,rfl,_,hp1.rd.field (o:=0) rfl,_,hp1.rd.field (o:=6) rfl,cX.ret (lr hs h0 h1 ht I1 _) fun I2 l2=>⟨_,rfl,F,.refl _,fun b1 b2=>?_⟩⟩
    exact dc.tail (F:=F) ⟨b2,_,_,[],rfl,⟨b1,rfl,rfl⟩,.refl _⟩ hF
   ·rcases he with rfl | rfl | rfl<;>exact absurd h (by decide)
   ·rcases he with rfl | rfl | rfl<;>exact absurd h (by decide)
theorem yP{I:cS}{F F0:cR}{t:ByteArray}(hs:4096<(t.size:Int))(hs2:dn t){b:Nat}{k:Tok}{f:Int}(hF:F.Perm (pX t b k f::F0)) :
  cX P 18 #[.pointer (some ⟨b,0,none⟩)] I F fun e' I' G=>dc ⟨110,0,true⟩ F0 e' G:=by
 have hp:=dO.of (I:=I) hF
 refine eh.vc ?_
 unfold eh.V
 have hnx:rI t f=.tuple #[(gC 0).v,.int .i64 0,.int .i64 110]:=by unfold rI;rw[if_pos (by omega)]
 refine⟨_,rfl,_,rfl,_,hp.rd.field (o:=0) rfl,_,hp.rd.field (o:=6) rfl, ?_,fun b_t=>?_⟩
 ·refine cX.ret (lN hs2 I _) fun I1 l1=>?_
  rw[hnx]
  exact⟨_,_,_,_,_,_,_,rfl,_,.refl _,fun b_t=>⟨fun _=>⟨fun h=>absurd h (by decide),fun _ b1 b2=>dc.tail (F:=F) ⟨b2,_,_,[],rfl,⟨b1,rfl,rfl⟩,.refl _⟩ hF⟩,fun h=>absurd h (by decide)⟩⟩
 ·refine cX.ret (lN hs2 I _) fun I1 l1=>?_
  rw[hnx]
  exact⟨_,_,_,_,_,_,_,rfl,_,.refl _,⟨fun _=>⟨fun h=>absurd h (by decide),fun _ b1 b2=>dc.tail (F:=F) ⟨b2,_,_,[],rfl,⟨b1,rfl,rfl⟩,.refl _⟩ hF⟩,fun h=>absurd h (by decide)⟩⟩
def uq(v:ByteArray):List ByteArray→Int→Int
 | [],_=>-1
 | w::r,i=>if v.toList==w.toList then i else uq v r (i+1)
theorem qD{c:PC}{s:PS}(hk:(c.now s).kind=1∨(c.now s).kind=4):∀(ws:List ByteArray) (i:Int),c.fe s ws i=uq (c.now s).text ws i
 | [],i=>rfl
 | w::r,i=>by
   rw[PC.fe,uq,qD hk r]
   have:c.dH w s=((c.now s).text.toList==w.toList):=by
    unfold PC.dH
    rcases hk with h | h<;>rw[h]<;>simp
   rw[this]
theorem any_none{c:PC}{s:PS}(h1:(c.now s).kind≠1)(h4:(c.now s).kind≠4):∀(ws:List ByteArray) (i:Int),c.fe s ws i = -1
 | [],i=>rfl
 | w::r,i=>by
   have:c.dH w s=false:=by unfold PC.dH;simp[h1,h4]
   rw[PC.fe,this,if_neg (by simp),any_none h1 h4 r]
theorem qE{v:ByteArray}{a:Option Addr}{n k:Nat}{ws:List ByteArray}{I:cS}(hS:Sl I 1 lg a n ws)(hl:n≤100)(F:cR):cX P 51 #[.slice a n k,.string v] I F (od (.int .i64 (uq v ws 0)) F):=by
 have hn:=hS.1
 refine jf.vc (fun x i m I' F'=>F'=F∧0≤i∧i≤n∧m=(n-i).toNat∧uq v ws 0=uq v (ws.drop i.toNat) i) ?_
 unfold jf.V
 refine⟨⟨_,rfl,by omega,by omega,rfl,rfl⟩,fun x i m1 I1 F1 l1 ⟨gF,g0,g1,gm,ge⟩=>⟨fun hlt=>?_,fun hlt=>⟨?_,gF⟩⟩⟩
 ·subst gF
  have hlt:=of_decide_eq_true hlt
  obtain⟨ad,w,ha,hw,hr⟩:=(hS.mono l1).at g0 hlt
  obtain⟨hk,rfl⟩:=List.getElem?_eq_some_iff.1 hw
  rw[List.drop_eq_getElem_cons hk,uq] at ge
  refine⟨⟨g0,hlt⟩,ad,ha,_,hr _,fun h=>⟨?_,rfl⟩,fun h=>⟨(n-(i+1)).toNat,by omega,rfl, ?_⟩⟩
  ·rw[ge,if_pos h]
  ·rw[jD (n:=i+1) (by omega)]
   refine⟨by omega,by omega,rfl, ?_⟩
   rw[ge,if_neg (by simp[h]),show (i+1).toNat=i.toNat+1 by omega]
 ·have hlt:=of_decide_eq_false hlt
  rw[ge,List.drop_eq_nil_of_le (by omega),uq]
section
variable {c:PC} {t:ByteArray} {s:PS} {b:Nat} {I:cS} {F F0:cR}
theorem nX(hl:c.Live s)(hp:dO I F t b (c.tok s.next) (ix (c.tok s.next)))(w:ByteArray):cX P 21 #[.pointer (some ⟨b,0,none⟩),.string w] I F (od (.bool (c.dH w s)) F):=by
 refine gH.vc ?_
 unfold gH.V
 have hn:=hl.now
 refine⟨_,rfl,_,hp.rd.dE (p:=1) (q:=0) rfl,fun h=>⟨_,rfl,_,hp.rd.dE (p:=1) (q:=1) rfl, ?_,rfl⟩,fun h=>⟨_,rfl,_,hp.rd.dE (p:=1) (q:=0) rfl,fun h2=>⟨_,rfl,_,hp.rd.dE (p:=1) (q:=1) rfl, ?_,rfl⟩,fun h2=>⟨?_,rfl⟩⟩⟩ <;>
  unfold PC.dH<;>rw[hn]<;>simp_all
theorem gE(hl:c.Live s)(hp:dO I F t b (c.tok s.next) (ix (c.tok s.next))){a:Option Addr}{n k:Nat}{ws:List ByteArray}(hS:Sl I 1 lg a n ws)(hn:n≤100) :
  cX P 41 #[.pointer (some ⟨b,0,none⟩),.slice a n k] I F (od (.int .i64 (c.any ws s)) F):=by
 refine fG.vc ?_
 unfold fG.V
 have hw:=hl.now
 refine⟨_,rfl,_,hp.rd.dE (p:=1) (q:=0) rfl,fun h=>⟨_,rfl,_,hp.rd.dE (p:=1) (q:=0) rfl,fun h2=>⟨?_,rfl⟩,fun h2=>⟨_,rfl,_,hp.rd.dE (p:=1) (q:=1) rfl,cX.ret (qE hS hn F) fun I1 l1=>⟨_,rfl,F,.refl _, ?_,rfl⟩⟩⟩,fun h=>⟨_,rfl,_,hp.rd.dE (p:=1) (q:=1) rfl,cX.ret (qE hS hn F) fun I1 l1=>⟨_,rfl,F,.refl _, ?_,rfl⟩⟩⟩
 ·unfold PC.any;rw[any_none (by rw[hw];simpa using h) (by rw[hw];simpa using h2)]
 ·unfold PC.any;rw[qD (.inr (by rw[hw];simpa using h2)),hw]
 ·unfold PC.any;rw[qD (.inl (by rw[hw];simpa using h)),hw]
def PC.oneOf(c:PC)(ws:List ByteArray)(s:PS):Int×PS:=(c.any ws s,if c.any ws s<0 then c.cV 130 s else s.inc)
theorem mY(c:PC)(w:ByteArray)(s:PS):(c.take w s).2=(c.oneOf [w] s).2:=by
 unfold PC.take PC.oneOf PC.any PC.fe PC.fe
 split
 ·rw[if_neg (by decide)]
 ·rw[if_pos (by decide)]
theorem gG{ws:List ByteArray}(hl:c.Live s)(h:0≤c.any ws s):(c.tok s.next).kind≠0:=fun hk=>by
 have:c.any ws s = -1:=any_none (by rw[hl.now,hk];decide) (by rw[hl.now,hk];decide) ws 0
 omega
theorem dQ(hc:c.Of t)(hl:c.Live s)(hk:(c.tok s.next).kind≠0)(hF:F.Perm (c.px t b s::F0)):cX P 18 #[.pointer (some ⟨b,0,none⟩)] I F (c9 c t b CE F0 ((),s.inc)):=by
 have hfr:kX c.l 0 (s.next+1)=ix (c.tok s.next):=rfl
 have hr:=hc.B1 (i:=s.next+1) hl.2
 rw[hfr] at hr
 refine (wF hc.len hr.1 hr.2 hF).mono fun e I' G l h=>?_
 rcases hc.next hl.2 hk with h1 | ⟨h1,h2,h3⟩
 ·have ht:=hc.tk h1
  rw[hfr] at ht
  rw[ht] at h
  exact .inl ⟨⟨hl.1,h1⟩,_,[],h.1,⟨rfl,rfl⟩,h.2⟩
 ·rw[hfr] at h3
  rw[h3] at h
  rcases hl.inc hc hk with g | ⟨_,g⟩
  ·have:=g.2
   have h9:s.inc.next=s.next+1:=rfl
   omega
  ·exact .inr ⟨_,g,h⟩
theorem oG(hc:c.Of t)(hl:c.Live s){a:Option Addr}{n k:Nat}{ws:List ByteArray}(hS:Sl I 1 lg a n ws)(hn:n≤100)(hF:F.Perm (c.px t b s::F0)) :
  cX P 23 #[.pointer (some ⟨b,0,none⟩),.slice a n k] I F (c9 c t b CF F0 (c.oneOf ws s)):=by
 refine gq.vc ?_
 unfold gq.V
 refine cX.ret (gE hl (.of hF) hS hn) fun I1 l1=>⟨_,rfl,F,.refl _,fun h=>?_,fun h=>?_⟩
 ·have h:=of_decide_eq_true h
  refine (fa (.of hF) 130).mono fun e I2 G l2 hf=>.inr ?_
  refine dc.pass hf fun e' hf'=>.inr ⟨_, ?_,hf'.tail hF⟩
  show c.dq _ (if c.any ws s<0 then c.cV 130 s else s.inc)
  rw[if_pos h];exact (hl.cV (by decide)).2
 ·have h:=of_decide_eq_false h
  have hk:=gG (ws:=ws) hl (by omega)
  have e2:(c.oneOf ws s).2=s.inc:=if_neg h
  refine c9.use (dQ hc hl hk hF) (fun v H I2 G l2 hL hv hG=>.inl ?_) fun f e I2 G l2 hd hf=>.inr ?_
  ·obtain⟨rfl,rfl⟩:=hv
   exact⟨rfl,G,.refl _,.inl ⟨by rw[e2];exact hL,_,[],rfl,⟨rfl,rfl⟩,by rw[e2];exact hG⟩⟩
  ·exact dc.pass hf fun e' hf'=>.inr ⟨f,by rw[e2];exact hd,hf'⟩
theorem iG(hc:c.Of t)(hl:c.Live s)(hF:F.Perm (c.px t b s::F0)):cX P 29 #[.pointer (some ⟨b,0,none⟩)] I F (c9 c t b CG F0 (c.name s)):=by
 have hp:=dO.of (I:=I) hF
 have hw:=hl.now
 refine fT.vc ?_
 unfold fT.V
 refine⟨_,rfl,_,hp.rd.dE (p:=1) (q:=1) rfl,_,rfl,_,hp.rd.dE (p:=1) (q:=0) rfl,fun h=>?_,fun h=>?_⟩
 ·have h:(c.tok s.next).kind≠2:=by simpa using h
  refine (fa hp 130).mono fun e I2 G l2 hf=>.inr ?_
  refine dc.pass hf fun e' hf'=>.inr ⟨_, ?_,hf'.tail hF⟩
  unfold PC.name
  rw[hw,if_neg h];exact (hl.cV (by decide)).2
 ·have h:(c.tok s.next).kind=2:=by simpa using h
  have e1:c.name s=((c.tok s.next).text,s.inc):=by unfold PC.name;rw[hw,if_pos h]
  rw[e1]
  refine c9.use (dQ hc hl (by rw[h];decide) hF) (fun v H I2 G l2 hL hv hG=>.inl ?_) fun f e I2 G l2 hd hf=>.inr ?_
  ·obtain⟨rfl,rfl⟩:=hv
   exact⟨rfl,G,.refl _,.inl ⟨hL,_,[],rfl,⟨rfl,rfl⟩,hG⟩⟩
  ·exact dc.pass hf fun e' hf'=>.inr ⟨f,hd,hf'⟩
theorem lU{k:Tok}{f:Int}(hp:dO I F t b k f){d:Int}(h0:0≤d)(h1:d≤24):cX P 22 #[.pointer (some ⟨b,0,none⟩),.int .i64 d] I F fun e I' G=>(d<24∧e=.returned (.int .i64 (d+1))∧G=F)∨(d=24∧dc ⟨132,k.pos,false⟩ F e G):=by
 refine fj.vc ?_
 unfold fj.V
 rw[jD (n:=d+1) (by omega)]
 refine⟨fun h=>?_,fun h=>.inl ⟨?_,rfl,rfl⟩⟩
 ·have h:d=24:=by simpa using h
  refine (fa hp 132).mono fun e I2 G l2 hf=>.inr ?_
  exact dc.pass (I:=I2) (Q:=fun e I' G=>(d<24∧e=.returned (.int .i64 (d+1))∧G=F)∨(d=24∧dc ⟨132,k.pos,false⟩ F e G)) hf fun e' hf'=>.inr ⟨h,hf'⟩
 ·have h:d≠24:=by simpa using h
  omega
def pw(l:Int):List ByteArray:=if l=2 then Cv else if l=3 then AG else if l=4 then gY else if l=5 then AF else zq
def xD(l:Int):Int:=if l=2 then 18 else if l=3 then 17 else if l=4 then 11 else if l=5 then 6 else 8
theorem uu(l:Int)(I:cS)(F:cR):cX P 40 #[.int .i64 l] I F fun e I' G=>∃(a:Option Addr) (n k:Nat),e=.returned (.tuple #[.slice a n k,.int .u8 (xD l)])∧Sl I' 1 lg a n (pw l)∧n≤100∧G=F:=by
 refine jM.vc ?_
 unfold jM.V
 have key:∀{b:Nat} {I1:cS} {ws:List ByteArray} {cs:Array Value},I1 b=some (.cells cs 9 (0,0))→cs.toList=ws.flatMap lg→Sl I1 1 lg (some ⟨b,0,none⟩) ws.length ws:=fun hb hc=>Sl.lb (f:=lg) (z:=1) (fun _=>rfl) hb hc
 refine⟨fun h=>fun b I1 l1 hb=>?_,fun h2=>⟨fun h=>fun b I1 l1 hb=>?_,fun h3=>⟨fun h=>fun b I1 l1 hb=>?_,fun h4=>⟨fun h=>fun b I1 l1 hb=>?_,fun h5=>fun b I1 l1 hb=>?_⟩⟩⟩⟩
 ·have h:l=2:=by simpa using h
  subst h
  exact⟨_,_,_,rfl,key (ws:=Cv) hb rfl,by decide,rfl⟩
 ·have h:l=3:=by simpa using h
  subst h
  exact⟨_,_,_,rfl,key (ws:=AG) hb rfl,by decide,rfl⟩
 ·have h:l=4:=by simpa using h
  subst h
  exact⟨_,_,_,rfl,key (ws:=gY) hb rfl,by decide,rfl⟩
 ·have h:l=5:=by simpa using h
  subst h
  exact⟨_,_,_,rfl,key (ws:=AF) hb rfl,by decide,rfl⟩
 ·have e2:l≠2:=by simpa using h2
  have e3:l≠3:=by simpa using h3
  have e4:l≠4:=by simpa using h4
  have e5:l≠5:=by simpa using h5
  have hO:xD l=8:=by unfold xD;rw[if_neg e2,if_neg e3,if_neg e4,if_neg e5]
  have hW:pw l=zq:=by unfold pw;rw[if_neg e2,if_neg e3,if_neg e4,if_neg e5]
  rw[hO,hW]
  exact⟨_,_,_,rfl,key (ws:=zq) hb rfl,by decide,rfl⟩
end
end Go.Lx
namespace Go.Lx
open Go.Vc
theorem xE{t:ByteArray}{f:Int}{k:Tok}(h0:0≤f)(h1:f≤t.size)(h:eP t f=.ok k)(hk:k.kind=4):iR (bt k.text 0)=false:=by
 have ho:=gj (s:=t) h1
 unfold eP at h
 simp only at h
 split at h
 ·have:=TR.ok.inj h
  subst this
  exact absurd hk (by show ¬(0:Int)=4;decide)
 ·rename_i hne
  split at h
  ·obtain⟨E,e2,_,_,_,rfl⟩:=zu h
   exact absurd hk (by show ¬(3:Int)=4;decide)
  ·split at h
   ·unfold ld at h
    simp only at h
    split at h
    ·cases h
    ·have:=TR.ok.inj h
     subst this
     simp only at hk
     split at hk<;>omega
   ·rename_i hs
    unfold kU at h
    split at h
    ·cases h
    ·rename_i hm
     have:=TR.ok.inj h
     subst this
     have hr:=iK t (da t f)
     have hl:=ln (s:=t) (i:=da t f) (by omega)
     show iR (bt (cut t (da t f) (da t f+fL t (da t f))) 0)=false
     rw[oC (by omega) (Int.le_refl 0) (by omega) (by omega),Int.add_zero]
     simpa using hs
theorem vB{x w:ByteArray}(h:iR (bt x 0)=false)(hw:iR (bt w 0)=true):(x.toList==w.toList)=false:=by
 rw[Bool.eq_false_iff]
 intro he
 have he:x.toList=w.toList:=by simpa using he
 have:x=w:=BB he
 rw[this,hw] at h;cases h
theorem sO{x y:List UInt8}(h:(x==y)=false):x≠y:=fun e=>by rw[e] at h;simp at h
def kN:List ByteArray:=[(⟨#[102,97,108,115,101]⟩:ByteArray),(⟨#[116,114,117,101]⟩:ByteArray),(⟨#[98,117,121]⟩:ByteArray),(⟨#[115,101,108,108]⟩:ByteArray)]
def Bc(i:Int)(pos:Int):Px:=if i>1 then nP 6 (i-1) pos else nP 5 i pos
section
variable {c:PC} {t:ByteArray} {s:PS}
theorem sP(hl:c.Live s)(h:(c.tok s.next).kind=3):c.literal s=((nP (c.tok s.next).dU (c.tok s.next).n (c.tok s.next).pos,true),s.inc):=by
 unfold PC.literal;rw[hl.now,if_pos h]
theorem wG(hc:c.Of t)(hl:c.Live s)(h:(c.tok s.next).kind≠3):c.literal s=if c.any kN s<0 then ((dZ,false),s) else ((Bc (c.any kN s) (c.tok s.next).pos,true),s.inc):=by
 have hn:=hl.now
 have hr:=hc.B1 (Nat.le_of_lt hl.2)
 have hmk:=fun hk=>xE hr.1 hr.2 (hc.tk hl.2) hk
 have hw:∀w∈kN,iR (bt w 0)=true:=by decide
 have hi:∀w∈kN,c.dH w s=((c.tok s.next).text.toList==w.toList&&(c.tok s.next).kind==1):=fun w hwm=>by
  unfold PC.dH;rw[hn]
  by_cases h4:(c.tok s.next).kind=4
  ·rw[vB (hmk h4) (hw w hwm)];rfl
  ·have:((c.tok s.next).kind==4)=false:=by simpa using h4
   rw[this,Bool.or_false]
 have ea:c.any kN s=if (c.tok s.next).kind=1 then (if (c.tok s.next).text.toList=(⟨#[102,97,108,115,101]⟩:ByteArray).toList then 0 else if (c.tok s.next).text.toList=(⟨#[116,114,117,101]⟩:ByteArray).toList then 1 else if (c.tok s.next).text.toList=(⟨#[98,117,121]⟩:ByteArray).toList then 2 else if (c.tok s.next).text.toList=(⟨#[115,101,108,108]⟩:ByteArray).toList then 3 else -1) else -1:=by
  show c.fe s kN 0=_
  unfold kN
  rw[PC.fe,PC.fe,PC.fe,PC.fe,PC.fe,hi _ (.head _),hi _ (.tail _ (.head _)),hi _ (.tail _ (.tail _ (.head _))),hi _ (.tail _ (.tail _ (.tail _ (.head _))))]
  by_cases h1:(c.tok s.next).kind=1
  ·rw[if_pos h1]
   simp only[h1,Bool.and_eq_true,beq_iff_eq,and_true]
   rfl
  ·rw[if_neg h1]
   have:((c.tok s.next).kind==1)=false:=by simpa using h1
   simp only[this,Bool.and_false,Bool.false_eq_true,if_false]
 have d1:(⟨#[116,114,117,101]⟩:ByteArray).toList≠(⟨#[102,97,108,115,101]⟩:ByteArray).toList:=sO (by kernel_rfl)
 have d2:(⟨#[98,117,121]⟩:ByteArray).toList≠(⟨#[115,101,108,108]⟩:ByteArray).toList:=sO (by kernel_rfl)
 have d3:(⟨#[102,97,108,115,101]⟩:ByteArray).toList≠(⟨#[116,114,117,101]⟩:ByteArray).toList:=sO (by kernel_rfl)
 have d4:(⟨#[115,101,108,108]⟩:ByteArray).toList≠(⟨#[98,117,121]⟩:ByteArray).toList:=sO (by kernel_rfl)
 unfold PC.literal
 rw[hn,if_neg h,ea]
 generalize (c.tok s.next).text.toList=x
 by_cases h1:(c.tok s.next).kind=1
 ·rw[if_pos h1]
  by_cases x0:x=(⟨#[102,97,108,115,101]⟩:ByteArray).toList
  ·subst x0
   rw[if_pos rfl,if_pos ⟨h1,.inr rfl⟩,if_neg d3,if_neg (by decide)];rfl
  ·rw[if_neg x0]
   by_cases x1:x=(⟨#[116,114,117,101]⟩:ByteArray).toList
   ·subst x1
    rw[if_pos rfl,if_pos ⟨h1,.inl rfl⟩,if_pos rfl,if_neg (by decide)];rfl
   ·rw[if_neg x1,if_neg (by rintro ⟨_,h | h⟩;exact x1 h;exact x0 h)]
    by_cases x2:x=(⟨#[98,117,121]⟩:ByteArray).toList
    ·subst x2
     rw[if_pos rfl,if_pos ⟨h1,.inl rfl⟩,if_neg d2,if_neg x1,if_neg (by decide)];rfl
    ·rw[if_neg x2]
     by_cases x3:x=(⟨#[115,101,108,108]⟩:ByteArray).toList
     ·subst x3
      rw[if_pos rfl,if_pos ⟨h1,.inr rfl⟩,if_pos rfl,if_neg x1,if_neg (by decide)];rfl
     ·rw[if_neg (by rintro ⟨_,h | h⟩;exact x2 h;exact x3 h),if_neg x1,if_neg x3,if_pos (by decide)]
 ·rw[if_neg h1,if_neg (fun h=>h1 h.1),if_neg (fun h=>h1 h.1),if_pos (by decide)]
def CH(x:Px×Bool)(v:Value)(H:cR):Prop:=∃n:Nd,v=.tuple #[n.v,.bool x.2]∧n.px=x.1∧ef 29 false n H∧H=[]
theorem ef.leaf{k o ty n f p:Int}{w:ByteArray}:ef 29 false (.mk k o ty n f w none 0 [] p) [] :=
 .mk (t:=.mk k o ty n f w none 0 [] p) (hs:=fun _=>[]) Acc.nil (fun h=>by cases h) fun i k h=>by simp[Nd.kids] at h
theorem mZ(hc:c.Of t)(hl:c.Live s){b:Nat}{I:cS}{F F0:cR}(hF:F.Perm (c.px t b s::F0)):cX P 45 #[.pointer (some ⟨b,0,none⟩)] I F (c9 c t b CH F0 (c.literal s)):=by
 have hp:=dO.of (I:=I) hF
 refine eZ.vc ?_
 unfold eZ.V
 intro b0
 refine⟨_,rfl,_,(hp.mono (cS.le_refl I) fun x hx=>.tail _ hx).rd.dE (p:=1) (q:=4) rfl,fun bn=>⟨_,rfl,_,(hp.mono (cS.le_refl I) fun x hx=>.tail _ (.tail _ hx)).rd.dE (p:=1) (q:=0) rfl,fun h=>?_,fun h=>?_⟩⟩
 ·have h:(c.tok s.next).kind=3:=by simpa using h
  have e1:=sP hl h
  refine⟨_,rfl,_,(hp.mono (cS.le_refl I) fun x hx=>.tail _ (.tail _ hx)).rd.dE (p:=1) (q:=2) rfl,_,rfl,_,hp.rd.dE (p:=1) (q:=3) rfl, ?_⟩
  refine c9.use (dQ hc hl (by rw[h];decide) (fQ hF)) (fun v H I2 G l2 hL hv hG=>.inl ?_) fun f e I2 G l2 hd hf=>.inr ?_
  ·obtain⟨rfl,rfl⟩:=hv
   exact⟨rfl,c.px t b s.inc::F0,hG.trans (cU fun z=>by simp only[cW,cY,c6];omega),.inl ⟨by rw[e1];exact hL,_,[],rfl,by rw[e1];exact⟨.mk 1 0 (c.tok s.next).dU (c.tok s.next).n 0 ⟨#[]⟩ none 0 [] (c.tok s.next).pos,rfl,by simp only[Nd.px,Nd.tU];rfl,ef.leaf,rfl⟩,by rw[e1];exact .refl _⟩⟩
  ·exact dc.dy [_,_] hf fun e' G' hf'=>.inr ⟨f,by rw[e1];exact hd,hf'⟩
 ·have h:(c.tok s.next).kind≠3:=by simpa using h
  have e1:=wG hc hl h
  intro b1 I2 l2 hb1
  have hS:Sl I2 1 lg (some ⟨b1,0,none⟩) 4 kN:=Sl.lb (f:=lg) (z:=1) (l:=kN) (fun _=>rfl) hb1 rfl
  refine cX.ret (gE hl (hp.mono l2 fun x hx=>.tail _ (.tail _ hx)) hS (by decide)) fun I3 l3=>⟨_,rfl,F,.refl _,fun hi=>?_,fun hi=>?_⟩
  ·have hi:=of_decide_eq_true hi
   rw[if_pos hi] at e1
   exact .inl ⟨by rw[e1];exact hl,_,[],rfl,by rw[e1];exact⟨kZ,rfl,by simp only[kZ,Nd.px,Nd.tU];rfl,ef.leaf,rfl⟩,by rw[e1];exact hF⟩
  ·have hi:=of_decide_eq_false hi
   rw[if_neg hi] at e1
   have hk:=gG (ws:=kN) hl (by omega)
   have hlt:=(dt (c:=c) (s:=s) (ws:=kN) (by omega)).2
   have hlt:c.any kN s<4:=hlt
   refine⟨fun h2=>?_,fun h2=>?_⟩
   ·have h2:=of_decide_eq_true h2
    rw[jD (n:=c.any kN s-1) (by omega)]
    have e3:Bc (c.any kN s) (c.tok s.next).pos=nP 6 (c.any kN s-1) (c.tok s.next).pos:=if_pos h2
    refine c9.use (dQ hc hl hk (fQ hF)) (fun v H I4 G l4 hL hv hG=>.inl ?_) fun f e I4 G l4 hd hf=>.inr ?_
    ·obtain⟨rfl,rfl⟩:=hv
     exact⟨rfl,c.px t b s.inc::F0,hG.trans (cU fun z=>by simp only[cW,cY,c6];omega),.inl ⟨by rw[e1];exact hL,_,[],rfl,by rw[e1,e3];exact⟨.mk 1 0 6 (c.any kN s-1) 0 ⟨#[]⟩ none 0 [] (c.tok s.next).pos,rfl,by simp only[Nd.px,Nd.tU];rfl,ef.leaf,rfl⟩,by rw[e1];exact .refl _⟩⟩
    ·exact dc.dy [_,_] hf fun e' G' hf'=>.inr ⟨f,by rw[e1];exact hd,hf'⟩
   ·have h2:=of_decide_eq_false h2
    have e3:Bc (c.any kN s) (c.tok s.next).pos=nP 5 (c.any kN s) (c.tok s.next).pos:=if_neg h2
    refine c9.use (dQ hc hl hk (fQ hF)) (fun v H I4 G l4 hL hv hG=>.inl ?_) fun f e I4 G l4 hd hf=>.inr ?_
    ·obtain⟨rfl,rfl⟩:=hv
     exact⟨rfl,c.px t b s.inc::F0,hG.trans (cU fun z=>by simp only[cW,cY,c6];omega),.inl ⟨by rw[e1];exact hL,_,[],rfl,by rw[e1,e3];exact⟨.mk 1 0 5 (c.any kN s) 0 ⟨#[]⟩ none 0 [] (c.tok s.next).pos,rfl,by simp only[Nd.px,Nd.tU];rfl,ef.leaf,rfl⟩,by rw[e1];exact .refl _⟩⟩
    ·exact dc.dy [_,_] hf fun e' G' hf'=>.inr ⟨f,by rw[e1];exact hd,hf'⟩
end
end Go.Lx
namespace Go.Lx
open Go.Vc Go.Proofs.Tryd
def oH:List (Nat×List Sh):=[(0,[]),(3,[.one (.int .i64)]),(4,[.one .bool]),(9,[.one .str]),(27,[.one .slc]),(29,[.agg [(.int .u8),(.int .u8),(.int .u8),(.int .i64),(.int .u8),.str,.slc,(.int .i64)]]),(55,[.one .ptr]),(68,[.one (.int .u8)]),(107,[.one .slc,.one (.int .u8)]),(123,[.agg [(.int .u8),(.int .u8),(.int .u8),(.int .i64),(.int .u8),.str,.slc,(.int .i64)],.one .bool])]
def gu.V(al ah:Nat→Nat×Obj)(nV:Int→Int→Int→Int→Int→Bs→OA→Nat→Nat→Int→Value)(nO:Int→Int→Int→Int→Int→Bs→OA→Nat→Nat→Int→Obj)(vb vi:Int→Value)(vs:Bs→Value)(vl:OA→Nat→Nat→Value)(vp:OA→Value)(wr:Int→Int)(p:Addr)(aj d:Int)(I:cS)(F:cR)(Q:cZ)(Inv18:Int→OA→Int→Int→Int→Int→Int→Int→Bs→OA→Nat→Nat→Int→Nat→cS→cR→Prop):Prop:=∀w:Nat,∀a:Nat,∀b:Nat,(Dt (aj<6) (tR P 40 #[vi aj] I ((al w)::(ah a)::(b,nO 0 0 0 0 0 (⟨#[]⟩:Bs) none 0 0 0)::·) F fun e1 I1 G1=>∃(aJ:OA) (aK aL:Nat) (r1:Int),e1=.returned (.tuple #[vl aJ aK aL,vb r1])∧G1 fun F1=>cX P 39 (#[vi d,vp (some ⟨w,0,none⟩),vp (some ⟨a,0,none⟩)]) I1 ((al w)::(ah a)::(b,nO 0 0 0 0 0 (⟨#[]⟩:Bs) none 0 0 0)::F1) fun e2 I2 G2=>((∃(br bs bt bu bv:Int) (bw:Bs) (aM:OA) (aN aO:Nat) (bx:Int),e2=.returned (nV br bs bt bu bv bw aM aN aO bx)∧∃(aP:OA) (am:Int),∃F2:cR,List.Perm G2 ((w,Obj.cells #[vp aP] 55 (0,0))::(a,Obj.cells #[vi am] 3 (0,0))::(b,nO 0 0 0 0 0 (⟨#[]⟩:Bs) none 0 0 0)::F2)∧∀ai:Nat,(∃m:Nat,Inv18 0 aP am br bs bt bu bv bw aM aN aO bx m I2 F2)∧∀(an:Int) (x:OA) (e y z aa ab ac:Int) (ae:Bs) (i:OA) (j k:Nat) (af:Int) (m1:Nat) (I3:cS) (F3:cR),cS.le I2 I3→Inv18 an x e y z aa ab ac ae i j k af m1 I3 F3→(It (e != 4) (mM P 41 #[vp x,vl aJ aK aL] I3 ((w,Obj.cells #[vp x] 55 (0,0))::(a,Obj.cells #[vi e] 3 (0,0))::(b,nO 0 0 0 0 0 (⟨#[]⟩:Bs) none 0 0 0)::(ai,nO y z aa ab ac ae i j k af)::·) F3 vi fun r I4 F4=>(Dt (r<0) (Q (.returned (nV y z aa ab ac ae i j k af)) I4 F4) (∃ad:Addr,x=some ad∧∃(m2:Int),Rd I4 ((w,Obj.cells #[vp x] 55 (0,0))::(a,Obj.cells #[vi e] 3 (0,0))::(b,nO 0 0 0 0 0 (⟨#[]⟩:Bs) none 0 0 0)::(ai,nO y z aa ab ac ae i j k af)::F4) ((ad.add 1).add 4) [vi m2]∧cX P 18 #[vp x] I4 ((w,Obj.cells #[vp x] 55 (0,0))::(a,Obj.cells #[vi e] 3 (0,0))::(b,nO 0 0 0 0 0 (⟨#[]⟩:Bs) none 0 0 0)::(ai,nO y z aa ab ac ae i j k af)::F4) fun e4 I5 G4=>((e4=.returned (.tuple #[])∧∃F5:cR,List.Perm G4 ((w,Obj.cells #[vp x] 55 (0,0))::(a,Obj.cells #[vi e] 3 (0,0))::(b,nO 0 0 0 0 0 (⟨#[]⟩:Bs) none 0 0 0)::(ai,nO y z aa ab ac ae i j k af)::F5)∧cX P 39 (#[vi d,vp (some ⟨w,0,none⟩),vp (some ⟨a,0,none⟩)]) I5 ((w,Obj.cells #[vp x] 55 (0,0))::(a,Obj.cells #[vi e] 3 (0,0))::(b,nO 0 0 0 0 0 (⟨#[]⟩:Bs) none 0 0 0)::(ai,nO y z aa ab ac ae i j k af)::F5) fun e5 I6 G5=>((∃(aQ aR aS aT aU:Int) (aV:Bs) (au:OA) (av aw:Nat) (aW:Int),e5=.returned (nV aQ aR aS aT aU aV au av aw aW)∧∃F6:cR,List.Perm G5 ((w,Obj.cells #[vp x] 55 (0,0))::(a,Obj.cells #[vi e] 3 (0,0))::(b,nO 0 0 0 0 0 (⟨#[]⟩:Bs) none 0 0 0)::(ai,nO y z aa ab ac ae i j k af)::F6)∧∀b1:Nat,(∃m3:Nat,m3<m1∧Inv18 (wr (an+1)) x e 6 (IntKind.wrap .u8 (r1+(IntKind.wrap .u8 r))) 0 0 0 (⟨#[]⟩:Bs) (some ⟨b1,0,none⟩) 2 2 m2 m3 I6 ((b1,Obj.cells #[vb y,vb z,vb aa,vi ab,vb ac,vs ae,vl i j k,vi af,vb aQ,vb aR,vb aS,vi aT,vb aU,vs aV,vl au av aw,vi aW] 29 (0,0))::F6)))∨(∃ch:List PanicEntry,e5=.panicked ch∧∃F7:cR,List.Perm G5 ((w,Obj.cells #[vp x] 55 (0,0))::(a,Obj.cells #[vi e] 3 (0,0))::(b,nO 0 0 0 0 0 (⟨#[]⟩:Bs) none 0 0 0)::(ai,nO y z aa ab ac ae i j k af)::F7)∧Q (.panicked ch) I6 F7)))∨(∃bA:List PanicEntry,e4=.panicked bA∧∃F8:cR,List.Perm G4 ((w,Obj.cells #[vp x] 55 (0,0))::(a,Obj.cells #[vi e] 3 (0,0))::(b,nO 0 0 0 0 0 (⟨#[]⟩:Bs) none 0 0 0)::(ai,nO y z aa ab ac ae i j k af)::F8)∧Q (.panicked bA) I5 F8))))) (It (an==0) (mM P 41 #[vp x,vl aJ aK aL] I3 ((w,Obj.cells #[vp x] 55 (0,0))::(a,Obj.cells #[vi e] 3 (0,0))::(b,nO 0 0 0 0 0 (⟨#[]⟩:Bs) none 0 0 0)::(ai,nO y z aa ab ac ae i j k af)::·) F3 vi fun r2 I7 F9=>(Dt (r2<0) (Q (.returned (nV y z aa ab ac ae i j k af)) I7 F9) (∃bB:Addr,x=some bB∧∃(m4:Int),Rd I7 ((w,Obj.cells #[vp x] 55 (0,0))::(a,Obj.cells #[vi e] 3 (0,0))::(b,nO 0 0 0 0 0 (⟨#[]⟩:Bs) none 0 0 0)::(ai,nO y z aa ab ac ae i j k af)::F9) ((bB.add 1).add 4) [vi m4]∧cX P 18 #[vp x] I7 ((w,Obj.cells #[vp x] 55 (0,0))::(a,Obj.cells #[vi e] 3 (0,0))::(b,nO 0 0 0 0 0 (⟨#[]⟩:Bs) none 0 0 0)::(ai,nO y z aa ab ac ae i j k af)::F9) fun e7 I8 G7=>((e7=.returned (.tuple #[])∧∃F10:cR,List.Perm G7 ((w,Obj.cells #[vp x] 55 (0,0))::(a,Obj.cells #[vi e] 3 (0,0))::(b,nO 0 0 0 0 0 (⟨#[]⟩:Bs) none 0 0 0)::(ai,nO y z aa ab ac ae i j k af)::F10)∧cX P 39 (#[vi d,vp (some ⟨w,0,none⟩),vp (some ⟨a,0,none⟩)]) I8 ((w,Obj.cells #[vp x] 55 (0,0))::(a,Obj.cells #[vi e] 3 (0,0))::(b,nO 0 0 0 0 0 (⟨#[]⟩:Bs) none 0 0 0)::(ai,nO y z aa ab ac ae i j k af)::F10) fun e8 I9 G8=>((∃(aX aY aZ a0 a1:Int) (a2:Bs) (ax:OA) (ay az:Nat) (a3:Int),e8=.returned (nV aX aY aZ a0 a1 a2 ax ay az a3)∧∃F11:cR,List.Perm G8 ((w,Obj.cells #[vp x] 55 (0,0))::(a,Obj.cells #[vi e] 3 (0,0))::(b,nO 0 0 0 0 0 (⟨#[]⟩:Bs) none 0 0 0)::(ai,nO y z aa ab ac ae i j k af)::F11)∧∀b2:Nat,(∃m5:Nat,m5<m1∧Inv18 (wr (an+1)) x e 6 (IntKind.wrap .u8 (r1+(IntKind.wrap .u8 r2))) 0 0 0 (⟨#[]⟩:Bs) (some ⟨b2,0,none⟩) 2 2 m4 m5 I9 ((b2,Obj.cells #[vb y,vb z,vb aa,vi ab,vb ac,vs ae,vl i j k,vi af,vb aX,vb aY,vb aZ,vi a0,vb a1,vs a2,vl ax ay az,vi a3] 29 (0,0))::F11)))∨(∃bC:List PanicEntry,e8=.panicked bC∧∃F12:cR,List.Perm G8 ((w,Obj.cells #[vp x] 55 (0,0))::(a,Obj.cells #[vi e] 3 (0,0))::(b,nO 0 0 0 0 0 (⟨#[]⟩:Bs) none 0 0 0)::(ai,nO y z aa ab ac ae i j k af)::F12)∧Q (.panicked bC) I9 F12)))∨(∃bD:List PanicEntry,e7=.panicked bD∧∃F13:cR,List.Perm G7 ((w,Obj.cells #[vp x] 55 (0,0))::(a,Obj.cells #[vi e] 3 (0,0))::(b,nO 0 0 0 0 0 (⟨#[]⟩:Bs) none 0 0 0)::(ai,nO y z aa ab ac ae i j k af)::F13)∧Q (.panicked bD) I8 F13))))) (Q (.returned (nV y z aa ab ac ae i j k af)) I3 F3))))∨(∃bE:List PanicEntry,e2=.panicked bE∧∃(a4:OA) (ao:Int),∃F14:cR,List.Perm G2 ((w,Obj.cells #[vp a4] 55 (0,0))::(a,Obj.cells #[vi ao] 3 (0,0))::(b,nO 0 0 0 0 0 (⟨#[]⟩:Bs) none 0 0 0)::F14)∧Q (.panicked bE) I2 F14))) (tR P 40 #[vi aj] I ((al w)::(ah a)::(b,nO 0 0 0 0 0 (⟨#[]⟩:Bs) none 0 0 0)::·) F fun e9 I10 G9=>∃(ap:OA) (aq ar:Nat) (a5:Int),e9=.returned (.tuple #[vl ap aq ar,vb a5])∧G9 fun F15=>cX P 38 (#[vp (some p),vi d]) I10 ((al w)::(ah a)::(b,nO 0 0 0 0 0 (⟨#[]⟩:Bs) none 0 0 0)::F15) fun bN I11 G10=>((∃(a6 a7 a8 a9 ba:Int) (bb:Bs) (aA:OA) (aB aC:Nat) (bc:Int),bN=.returned (nV a6 a7 a8 a9 ba bb aA aB aC bc)∧∃F16:cR,List.Perm G10 ((al w)::(ah a)::(b,nO 0 0 0 0 0 (⟨#[]⟩:Bs) none 0 0 0)::F16)∧∀ag:Nat,(∃m6:Nat,Inv18 0 (some p) aj a6 a7 a8 a9 ba bb aA aB aC bc m6 I11 F16)∧∀(ak:Int) (l:OA) (c n o q s t:Int) (u:Bs) (f:OA) (g h:Nat) (v:Int) (m7:Nat) (I12:cS) (F17:cR),cS.le I11 I12→Inv18 ak l c n o q s t u f g h v m7 I12 F17→(It (c != 4) (mM P 41 #[vp l,vl ap aq ar] I12 ((w,Obj.cells #[vp l] 55 (0,0))::(a,Obj.cells #[vi c] 3 (0,0))::(b,nO 0 0 0 0 0 (⟨#[]⟩:Bs) none 0 0 0)::(ag,nO n o q s t u f g h v)::·) F17 vi fun r3 I13 F18=>(Dt (r3<0) (Q (.returned (nV n o q s t u f g h v)) I13 F18) (∃bF:Addr,l=some bF∧∃(m8:Int),Rd I13 ((w,Obj.cells #[vp l] 55 (0,0))::(a,Obj.cells #[vi c] 3 (0,0))::(b,nO 0 0 0 0 0 (⟨#[]⟩:Bs) none 0 0 0)::(ag,nO n o q s t u f g h v)::F18) ((bF.add 1).add 4) [vi m8]∧cX P 18 #[vp l] I13 ((w,Obj.cells #[vp l] 55 (0,0))::(a,Obj.cells #[vi c] 3 (0,0))::(b,nO 0 0 0 0 0 (⟨#[]⟩:Bs) none 0 0 0)::(ag,nO n o q s t u f g h v)::F18) fun bO I14 G12=>((bO=.returned (.tuple #[])∧∃F19:cR,List.Perm G12 ((w,Obj.cells #[vp l] 55 (0,0))::(a,Obj.cells #[vi c] 3 (0,0))::(b,nO 0 0 0 0 0 (⟨#[]⟩:Bs) none 0 0 0)::(ag,nO n o q s t u f g h v)::F19)∧cX P 38 (#[vp (some p),vi d]) I14 ((w,Obj.cells #[vp l] 55 (0,0))::(a,Obj.cells #[vi c] 3 (0,0))::(b,nO 0 0 0 0 0 (⟨#[]⟩:Bs) none 0 0 0)::(ag,nO n o q s t u f g h v)::F19) fun bP I15 G13=>((∃(bd be bf bg bh:Int) (bi:Bs) (aD:OA) (aE aF:Nat) (bj:Int),bP=.returned (nV bd be bf bg bh bi aD aE aF bj)∧∃F20:cR,List.Perm G13 ((w,Obj.cells #[vp l] 55 (0,0))::(a,Obj.cells #[vi c] 3 (0,0))::(b,nO 0 0 0 0 0 (⟨#[]⟩:Bs) none 0 0 0)::(ag,nO n o q s t u f g h v)::F20)∧∀b3:Nat,(∃m9:Nat,m9<m7∧Inv18 (wr (ak+1)) l c 6 (IntKind.wrap .u8 (a5+(IntKind.wrap .u8 r3))) 0 0 0 (⟨#[]⟩:Bs) (some ⟨b3,0,none⟩) 2 2 m8 m9 I15 ((b3,Obj.cells #[vb n,vb o,vb q,vi s,vb t,vs u,vl f g h,vi v,vb bd,vb be,vb bf,vi bg,vb bh,vs bi,vl aD aE aF,vi bj] 29 (0,0))::F20)))∨(∃bG:List PanicEntry,bP=.panicked bG∧∃F21:cR,List.Perm G13 ((w,Obj.cells #[vp l] 55 (0,0))::(a,Obj.cells #[vi c] 3 (0,0))::(b,nO 0 0 0 0 0 (⟨#[]⟩:Bs) none 0 0 0)::(ag,nO n o q s t u f g h v)::F21)∧Q (.panicked bG) I15 F21)))∨(∃bH:List PanicEntry,bO=.panicked bH∧∃F22:cR,List.Perm G12 ((w,Obj.cells #[vp l] 55 (0,0))::(a,Obj.cells #[vi c] 3 (0,0))::(b,nO 0 0 0 0 0 (⟨#[]⟩:Bs) none 0 0 0)::(ag,nO n o q s t u f g h v)::F22)∧Q (.panicked bH) I14 F22))))) (It (ak==0) (mM P 41 #[vp l,vl ap aq ar] I12 ((w,Obj.cells #[vp l] 55 (0,0))::(a,Obj.cells #[vi c] 3 (0,0))::(b,nO 0 0 0 0 0 (⟨#[]⟩:Bs) none 0 0 0)::(ag,nO n o q s t u f g h v)::·) F17 vi fun r4 I16 F23=>(Dt (r4<0) (Q (.returned (nV n o q s t u f g h v)) I16 F23) (∃bI:Addr,l=some bI∧∃(bz:Int),Rd I16 ((w,Obj.cells #[vp l] 55 (0,0))::(a,Obj.cells #[vi c] 3 (0,0))::(b,nO 0 0 0 0 0 (⟨#[]⟩:Bs) none 0 0 0)::(ag,nO n o q s t u f g h v)::F23) ((bI.add 1).add 4) [vi bz]∧cX P 18 #[vp l] I16 ((w,Obj.cells #[vp l] 55 (0,0))::(a,Obj.cells #[vi c] 3 (0,0))::(b,nO 0 0 0 0 0 (⟨#[]⟩:Bs) none 0 0 0)::(ag,nO n o q s t u f g h v)::F23) fun bQ I17 G15=>((bQ=.returned (.tuple #[])∧∃F24:cR,List.Perm G15 ((w,Obj.cells #[vp l] 55 (0,0))::(a,Obj.cells #[vi c] 3 (0,0))::(b,nO 0 0 0 0 0 (⟨#[]⟩:Bs) none 0 0 0)::(ag,nO n o q s t u f g h v)::F24)∧cX P 38 (#[vp (some p),vi d]) I17 ((w,Obj.cells #[vp l] 55 (0,0))::(a,Obj.cells #[vi c] 3 (0,0))::(b,nO 0 0 0 0 0 (⟨#[]⟩:Bs) none 0 0 0)::(ag,nO n o q s t u f g h v)::F24) fun bR I18 G16=>((∃(bk bl bm bn bo:Int) (bp:Bs) (aG:OA) (aH aI:Nat) (bq:Int),bR=.returned (nV bk bl bm bn bo bp aG aH aI bq)∧∃F25:cR,List.Perm G16 ((w,Obj.cells #[vp l] 55 (0,0))::(a,Obj.cells #[vi c] 3 (0,0))::(b,nO 0 0 0 0 0 (⟨#[]⟩:Bs) none 0 0 0)::(ag,nO n o q s t u f g h v)::F25)∧∀b4:Nat,(∃bJ:Nat,bJ<m7∧Inv18 (wr (ak+1)) l c 6 (IntKind.wrap .u8 (a5+(IntKind.wrap .u8 r4))) 0 0 0 (⟨#[]⟩:Bs) (some ⟨b4,0,none⟩) 2 2 bz bJ I18 ((b4,Obj.cells #[vb n,vb o,vb q,vi s,vb t,vs u,vl f g h,vi v,vb bk,vb bl,vb bm,vi bn,vb bo,vs bp,vl aG aH aI,vi bq] 29 (0,0))::F25)))∨(∃bK:List PanicEntry,bR=.panicked bK∧∃F26:cR,List.Perm G16 ((w,Obj.cells #[vp l] 55 (0,0))::(a,Obj.cells #[vi c] 3 (0,0))::(b,nO 0 0 0 0 0 (⟨#[]⟩:Bs) none 0 0 0)::(ag,nO n o q s t u f g h v)::F26)∧Q (.panicked bK) I18 F26)))∨(∃bL:List PanicEntry,bQ=.panicked bL∧∃F27:cR,List.Perm G15 ((w,Obj.cells #[vp l] 55 (0,0))::(a,Obj.cells #[vi c] 3 (0,0))::(b,nO 0 0 0 0 0 (⟨#[]⟩:Bs) none 0 0 0)::(ag,nO n o q s t u f g h v)::F27)∧Q (.panicked bL) I17 F27))))) (Q (.returned (nV n o q s t u f g h v)) I12 F17))))∨(∃bM:List PanicEntry,bN=.panicked bM∧∃F28:cR,List.Perm G10 ((al w)::(ah a)::(b,nO 0 0 0 0 0 (⟨#[]⟩:Bs) none 0 0 0)::F28)∧Q (.panicked bM) I11 F28))))
theorem gu.vc{p:Addr}{e d:Int}{I:cS}{F:cR}{Q:cZ}(Inv18:Int→OA→Int→Int→Int→Int→Int→Int→Bs→OA→Nat→Nat→Int→Nat→cS→cR→Prop)(h:gu.V (fun b=>(b,Obj.cells #[.pointer (some p)] 55 (0,0))) (fun b=>(b,Obj.cells #[.int .i64 e] 3 (0,0))) (fun k o t n f s a l c q=>.agg #[.int .u8 k,.int .u8 o,.int .u8 t,.int .i64 n,.int .u8 f,.string s,.slice a l c,.int .i64 q]) (fun k o t n f s a l c q=>.cells #[.int .u8 k,.int .u8 o,.int .u8 t,.int .i64 n,.int .u8 f,.string s,.slice a l c,.int .i64 q] 29 (0,0)) (.int .u8) (.int .i64) .string .slice .pointer (IntKind.wrap .i64) p e d I F Q Inv18):cX P 20 #[.pointer (some p),.int .i64 e,.int .i64 d] I F Q :=
 tw (A:=(fP [2001,7001,7004,10001] [18,38,39] [18,38,39,40,41] oH [(18,⟨[(11,(.int .i64))],[(0,[.ptr]),(1,[(.int .i64)]),(3,[(.int .u8),(.int .u8),(.int .u8),(.int .i64),(.int .u8),.str,.slc,(.int .i64)])],fun _ _ _ vs m I F=>match vs with | [.int _ y0,.pointer y1,.int _ y2,.int _ y3,.int _ y4,.int _ y5,.int _ y6,.int _ y7,.string y8,.slice y9 y10 y11,.int _ y12]=>Inv18 y0 y1 y2 y3 y4 y5 y6 y7 y8 y9 y10 y11 y12 m I F | _=>False,[],[]⟩)] [] [13008] [] [] [(13,[0,1,2,3,5,6,9,4,7,8,10,11])] [] [] [(13,[4],11)])) [18,38,39,40,41] func20 h
def fH.V(nV:Int→Int→Int→Int→Int→Bs→OA→Nat→Nat→Int→Value)(nO:Int→Int→Int→Int→Int→Bs→OA→Nat→Nat→Int→Obj)(d:Int)(c c1:Addr)(I:cS)(F:cR)(Q:cZ)  : Prop:=∀b:Nat,∃(m:OA),Rd I ((b,nO 0 0 0 0 0 (⟨#[]⟩:Bs) none 0 0 0)::F) c [.pointer m]∧∃(m1:Int),Rd I ((b,nO 0 0 0 0 0 (⟨#[]⟩:Bs) none 0 0 0)::F) c1 [.int .i64 m1]∧cX P 20 (#[.pointer m,.int .i64 (IntKind.wrap .i64 (m1+1)),.int .i64 d]) I ((b,nO 0 0 0 0 0 (⟨#[]⟩:Bs) none 0 0 0)::F) fun e1 I1 G1=>((∃(g h i j k:Int) (l:Bs) (a:OA) (e f:Nat) (n:Int),e1=.returned (nV g h i j k l a e f n)∧∃F1:cR,List.Perm G1 ((b,nO 0 0 0 0 0 (⟨#[]⟩:Bs) none 0 0 0)::F1)∧Q (.returned (nV g h i j k l a e f n)) I1 F1)∨(∃ch:List PanicEntry,e1=.panicked ch∧∃F2:cR,List.Perm G1 ((b,nO 0 0 0 0 0 (⟨#[]⟩:Bs) none 0 0 0)::F2)∧Q (.panicked ch) I1 F2))
theorem fH.vc{d:Int}{c c1:Addr}{I:cS}{F:cR}{Q:cZ}  (h:fH.V (fun k o t n f s a l c q=>.agg #[.int .u8 k,.int .u8 o,.int .u8 t,.int .i64 n,.int .u8 f,.string s,.slice a l c,.int .i64 q]) (fun k o t n f s a l c q=>.cells #[.int .u8 k,.int .u8 o,.int .u8 t,.int .i64 n,.int .u8 f,.string s,.slice a l c,.int .i64 q] 29 (0,0)) d c c1 I F Q):cX P 39 #[.int .i64 d,.pointer (some c),.pointer (some c1)] I F Q :=
 tw (A:=(fP [] [20] [20] oH [] [] [] [] [] [] [])) [20] func39 h
def fU.V(nV:Int→Int→Int→Int→Int→Bs→OA→Nat→Nat→Int→Value)(nO:Int→Int→Int→Int→Int→Bs→OA→Nat→Nat→Int→Obj)(vb vi:Int→Value)(vs:Bs→Value)(vl:OA→Nat→Nat→Value)(vp:OA→Value)(p:Addr)(d:Int)(I:cS)(F:cR)(Q:cZ)  : Prop:=∀b:Nat,cX P 20 (#[vp (some p),vi 2,vi d]) I ((b,nO 0 0 0 0 0 (⟨#[]⟩:Bs) none 0 0 0)::F) fun e1 I1 G1=>((∃(f g h i j:Int) (k:Bs) (a:OA) (c e:Nat) (l:Int),e1=.returned (nV f g h i j k a c e l)∧∃F1:cR,List.Perm G1 ((b,nO 0 0 0 0 0 (⟨#[]⟩:Bs) none 0 0 0)::F1)∧∀s:Nat,mM P 21 (#[vp (some p),vs (⟨#[63]⟩:Bs)]) I1 ((b,nO 0 0 0 0 0 (⟨#[]⟩:Bs) none 0 0 0)::(s,nO f g h i j k a c e l)::·) F1 .bool fun r I2 F2=>(It (!r) (Q (.returned (nV f g h i j k a c e l)) I2 F2) (∃(hb:Nat) (ho:Obj) (F3:cR),List.Perm F2 ((hb,ho)::F3)∧∃ad:Addr,some p=some ad∧∃(m:Int),Rd (cS.put I2 hb ho) ([]) ((ad.add 1).add 4) [vi m]∧cX P 22 (#[vp (some p),vi d]) (cS.put I2 hb ho) ((b,nO 0 0 0 0 0 (⟨#[]⟩:Bs) none 0 0 0)::(s,nO f g h i j k a c e l)::F3) fun e3 I3 G3=>((∃(r1:Int),e3=.returned (vi r1)∧∃F4:cR,List.Perm G3 ((b,nO 0 0 0 0 0 (⟨#[]⟩:Bs) none 0 0 0)::(s,nO f g h i j k a c e l)::F4)∧cX P 18 (#[vp (some p)]) (cS.del I3 hb) ((b,nO 0 0 0 0 0 (⟨#[]⟩:Bs) none 0 0 0)::(s,nO f g h i j k a c e l)::((hb,ho)::F4)) fun e4 I4 G4=>((e4=.returned (.tuple #[])∧∃F5:cR,List.Perm G4 ((b,nO 0 0 0 0 0 (⟨#[]⟩:Bs) none 0 0 0)::(s,nO f g h i j k a c e l)::F5)∧cX P 13 (#[vp (some p),vi r1]) I4 ((b,nO 0 0 0 0 0 (⟨#[]⟩:Bs) none 0 0 0)::(s,nO f g h i j k a c e l)::F5) fun e5 I5 G5=>((∃(t u v w x:Int) (y:Bs) (n:OA) (o q:Nat) (z:Int),e5=.returned (nV t u v w x y n o q z)∧∃F6:cR,List.Perm G5 ((b,nO 0 0 0 0 0 (⟨#[]⟩:Bs) none 0 0 0)::(s,nO f g h i j k a c e l)::F6)∧∀aa:Nat,∀(b1:Nat) (I6:cS),cS.le I5 I6→I6 b1=some (Obj.cells #[vs (⟨#[58]⟩:Bs)] 9 (0,0))→cX P 23 (#[vp (some p),vl (some ⟨b1,0,none⟩) 1 1]) I6 ((b,nO 0 0 0 0 0 (⟨#[]⟩:Bs) none 0 0 0)::(s,nO f g h i j k a c e l)::(aa,nO t u v w x y n o q z)::F6) fun e6 I7 G6=>((∃(r2:Int),e6=.returned (vi r2)∧∃F7:cR,List.Perm G6 ((b,nO 0 0 0 0 0 (⟨#[]⟩:Bs) none 0 0 0)::(s,nO f g h i j k a c e l)::(aa,nO t u v w x y n o q z)::F7)∧cX P 13 (#[vp (some p),vi r1]) I7 ((b,nO 0 0 0 0 0 (⟨#[]⟩:Bs) none 0 0 0)::(s,nO f g h i j k a c e l)::(aa,nO t u v w x y n o q z)::F7) fun e7 I8 G7=>((∃(af ag ah ai aj:Int) (ak:Bs) (ab:OA) (ac ae:Nat) (al:Int),e7=.returned (nV af ag ah ai aj ak ab ac ae al)∧∃F8:cR,List.Perm G7 ((b,nO 0 0 0 0 0 (⟨#[]⟩:Bs) none 0 0 0)::(s,nO f g h i j k a c e l)::(aa,nO t u v w x y n o q z)::F8)∧∀b2:Nat,Q (.returned (nV 7 0 0 0 0 (⟨#[]⟩:Bs) (some ⟨b2,0,none⟩) 3 3 m)) I8 (((b2,Obj.cells #[vb f,vb g,vb h,vi i,vb j,vs k,vl a c e,vi l,vb t,vb u,vb v,vi w,vb x,vs y,vl n o q,vi z,vb af,vb ag,vb ah,vi ai,vb aj,vs ak,vl ab ac ae,vi al] 29 (0,0))::F8)))∨(∃ch:List PanicEntry,e7=.panicked ch∧∃F9:cR,List.Perm G7 ((b,nO 0 0 0 0 0 (⟨#[]⟩:Bs) none 0 0 0)::(s,nO f g h i j k a c e l)::(aa,nO t u v w x y n o q z)::F9)∧Q (.panicked ch) I8 F9)))∨(∃am:List PanicEntry,e6=.panicked am∧∃F10:cR,List.Perm G6 ((b,nO 0 0 0 0 0 (⟨#[]⟩:Bs) none 0 0 0)::(s,nO f g h i j k a c e l)::(aa,nO t u v w x y n o q z)::F10)∧Q (.panicked am) I7 F10)))∨(∃an:List PanicEntry,e5=.panicked an∧∃F11:cR,List.Perm G5 ((b,nO 0 0 0 0 0 (⟨#[]⟩:Bs) none 0 0 0)::(s,nO f g h i j k a c e l)::F11)∧Q (.panicked an) I5 F11)))∨(∃ao:List PanicEntry,e4=.panicked ao∧∃F12:cR,List.Perm G4 ((b,nO 0 0 0 0 0 (⟨#[]⟩:Bs) none 0 0 0)::(s,nO f g h i j k a c e l)::F12)∧Q (.panicked ao) I4 F12)))∨(∃ap:List PanicEntry,e3=.panicked ap∧∃F13:cR,List.Perm G3 ((b,nO 0 0 0 0 0 (⟨#[]⟩:Bs) none 0 0 0)::(s,nO f g h i j k a c e l)::F13)∧Q (.panicked ap) (cS.del I3 hb) (((hb,ho)::F13)))))))∨(∃aq:List PanicEntry,e1=.panicked aq∧∃F14:cR,List.Perm G1 ((b,nO 0 0 0 0 0 (⟨#[]⟩:Bs) none 0 0 0)::F14)∧Q (.panicked aq) I1 F14))
theorem fU.vc{p:Addr}{d:Int}{I:cS}{F:cR}{Q:cZ}  (h:fU.V (fun k o t n f s a l c q=>.agg #[.int .u8 k,.int .u8 o,.int .u8 t,.int .i64 n,.int .u8 f,.string s,.slice a l c,.int .i64 q]) (fun k o t n f s a l c q=>.cells #[.int .u8 k,.int .u8 o,.int .u8 t,.int .i64 n,.int .u8 f,.string s,.slice a l c,.int .i64 q] 29 (0,0)) (.int .u8) (.int .i64) .string .slice .pointer p d I F Q):cX P 13 #[.pointer (some p),.int .i64 d] I F Q :=
 tw (A:=(fP [2002] [13,18,20,22,23] [13,18,20,21,22,23] oH [] [7001] [8005] [] [] [(4,[0,1,3,4,5,6,7,2,8,9]),(8,[2,3,6,0,1,4,5,7,8])] [] [] [(4,[7,1000],10),(8,[0,1],8)])) [13,18,20,21,22,23] func13 h
def fI.V(nV:Int→Int→Int→Int→Int→Bs→OA→Nat→Nat→Int→Value)(nO:Int→Int→Int→Int→Int→Bs→OA→Nat→Nat→Int→Obj)(vb vi:Int→Value)(vp:OA→Value)(p:Addr)(d:Int)(I:cS)(F:cR)(Q:cZ)  : Prop:=∀b:Nat,∀(b1:Nat) (I1:cS),cS.le I I1→I1 b1=some (Obj.cells #[.string (⟨#[45]⟩:Bs),.string (⟨#[33]⟩:Bs)] 9 (0,0))→mM P 41 (#[vp (some p),.slice (some ⟨b1,0,none⟩) 2 2]) I1 ((b,nO 0 0 0 0 0 (⟨#[]⟩:Bs) none 0 0 0)::·) F vi fun r I2 F1=>(Dt (r<0) (cX P 50 (#[vp (some p),vi d]) I2 ((b,nO 0 0 0 0 0 (⟨#[]⟩:Bs) none 0 0 0)::F1) fun e2 I3 G2=>((∃(s t u v w:Int) (x:Bs) (f:OA) (g h:Nat) (y:Int),e2=.returned (nV s t u v w x f g h y)∧∃F2:cR,List.Perm G2 ((b,nO 0 0 0 0 0 (⟨#[]⟩:Bs) none 0 0 0)::F2)∧Q (.returned (nV s t u v w x f g h y)) I3 F2)∨(∃ch:List PanicEntry,e2=.panicked ch∧∃F3:cR,List.Perm G2 ((b,nO 0 0 0 0 0 (⟨#[]⟩:Bs) none 0 0 0)::F3)∧Q (.panicked ch) I3 F3))) (∃(hb:Nat) (ho:Obj) (F4:cR),List.Perm F1 ((hb,ho)::F4)∧∃ad:Addr,some p=some ad∧∃(m:Int),Rd (cS.put I2 hb ho) ([]) ((ad.add 1).add 4) [vi m]∧cX P 22 (#[vp (some p),vi d]) (cS.put I2 hb ho) ((b,nO 0 0 0 0 0 (⟨#[]⟩:Bs) none 0 0 0)::F4) fun e3 I4 G3=>((∃(r1:Int),e3=.returned (vi r1)∧∃F5:cR,List.Perm G3 ((b,nO 0 0 0 0 0 (⟨#[]⟩:Bs) none 0 0 0)::F5)∧cX P 18 (#[vp (some p)]) (cS.del I4 hb) ((b,nO 0 0 0 0 0 (⟨#[]⟩:Bs) none 0 0 0)::((hb,ho)::F5)) fun e4 I5 G4=>((e4=.returned (.tuple #[])∧∃F6:cR,List.Perm G4 ((b,nO 0 0 0 0 0 (⟨#[]⟩:Bs) none 0 0 0)::F6)∧cX P 38 (#[vp (some p),vi r1]) I5 ((b,nO 0 0 0 0 0 (⟨#[]⟩:Bs) none 0 0 0)::F6) fun e5 I6 G5=>((∃(i j k l n:Int) (o:Bs) (a:OA) (c e:Nat) (q:Int),e5=.returned (nV i j k l n o a c e q)∧∃F7:cR,List.Perm G5 ((b,nO 0 0 0 0 0 (⟨#[]⟩:Bs) none 0 0 0)::F7)∧∀b2:Nat,Q (.returned (.agg #[vb 5,vb (IntKind.wrap .u8 (1+(IntKind.wrap .u8 r))),vb 0,vi 0,vb 0,.string (⟨#[]⟩:Bs),.slice (some ⟨b2,0,none⟩) 1 1,vi m])) I6 (((b2,nO i j k l n o a c e q)::F7)))∨(∃z:List PanicEntry,e5=.panicked z∧∃F8:cR,List.Perm G5 ((b,nO 0 0 0 0 0 (⟨#[]⟩:Bs) none 0 0 0)::F8)∧Q (.panicked z) I6 F8)))∨(∃aa:List PanicEntry,e4=.panicked aa∧∃F9:cR,List.Perm G4 ((b,nO 0 0 0 0 0 (⟨#[]⟩:Bs) none 0 0 0)::F9)∧Q (.panicked aa) I5 F9)))∨(∃ab:List PanicEntry,e3=.panicked ab∧∃F10:cR,List.Perm G3 ((b,nO 0 0 0 0 0 (⟨#[]⟩:Bs) none 0 0 0)::F10)∧Q (.panicked ab) (cS.del I4 hb) (((hb,ho)::F10))))))
theorem fI.vc{p:Addr}{d:Int}{I:cS}{F:cR}{Q:cZ}  (h:fI.V (fun k o t n f s a l c q=>.agg #[.int .u8 k,.int .u8 o,.int .u8 t,.int .i64 n,.int .u8 f,.string s,.slice a l c,.int .i64 q]) (fun k o t n f s a l c q=>.cells #[.int .u8 k,.int .u8 o,.int .u8 t,.int .i64 n,.int .u8 f,.string s,.slice a l c,.int .i64 q] 29 (0,0)) (.int .u8) (.int .i64) .pointer p d I F Q):cX P 38 #[.pointer (some p),.int .i64 d] I F Q :=
 tw (A:=(fP [2001] [18,22,38,50] [18,22,38,41,50] oH [] [1001] [6006] [] [] [(4,[0,1,3,4,5,6,7,2,8,9])] [] [] [(4,[7,1000],10)])) [18,22,38,41,50] func38 h
def fV.V(nV:Int→Int→Int→Int→Int→Bs→OA→Nat→Nat→Int→Value)(nO:Int→Int→Int→Int→Int→Bs→OA→Nat→Nat→Int→Obj)(vi:Int→Value)(vl:OA→Nat→Nat→Value)(vp:OA→Value)(p:Addr)(t u w y z:Int)(aa:Bs)(o:OA)(q s:Nat)(aL ai d:Int)(I:cS)(F:cR)(Q:cZ)(Inv14:Int→Int→Int→Int→Int→Int→Bs→OA→Nat→Nat→Int→Nat→cS→cR→Prop):Prop:=∀n:Nat,∀b:Nat,∃ad:Addr,some p=some ad∧∃(m:Int),Rd I ((n,nO t u w y z aa o q s aL)::(b,nO 0 0 0 0 0 (⟨#[]⟩:Bs) none 0 0 0)::F) ((ad.add 1).add 4) [vi m]∧cX P 22 (#[vp (some p),vi d]) I ((n,nO t u w y z aa o q s m)::(b,nO 0 0 0 0 0 (⟨#[]⟩:Bs) none 0 0 0)::F) fun e1 I1 G1=>((∃(r:Int),e1=.returned (vi r)∧∃F1:cR,List.Perm G1 ((n,nO t u w y z aa o q s m)::(b,nO 0 0 0 0 0 (⟨#[]⟩:Bs) none 0 0 0)::F1)∧cX P 18 (#[vp (some p)]) I1 ((n,nO t u w y z aa o q s m)::(b,nO 0 0 0 0 0 (⟨#[]⟩:Bs) none 0 0 0)::F1) fun e2 I2 G2=>((e2=.returned (.tuple #[])∧∃F2:cR,List.Perm G2 ((n,nO t u w y z aa o q s m)::(b,nO 0 0 0 0 0 (⟨#[]⟩:Bs) none 0 0 0)::F2)∧∀(b1:Nat) (I3:cS),cS.le I2 I3→I3 b1=some (Obj.cells #[.string (⟨#[40]⟩:Bs)] 9 (0,0))→cX P 23 (#[vp (some p),vl (some ⟨b1,0,none⟩) 1 1]) I3 ((n,nO t u w y z aa o q s m)::(b,nO 0 0 0 0 0 (⟨#[]⟩:Bs) none 0 0 0)::F2) fun e3 I4 G3=>((∃(r1:Int),e3=.returned (vi r1)∧∃F3:cR,List.Perm G3 ((n,nO t u w y z aa o q s m)::(b,nO 0 0 0 0 0 (⟨#[]⟩:Bs) none 0 0 0)::F3)∧(∃m1:Nat,Inv14 0 t u w y z aa o q s m m1 I4 F3)∧∀(x f g h i j:Int) (k:Bs) (a:OA) (c e:Nat) (l:Int) (m2:Nat) (I5:cS) (F4:cR),cS.le I4 I5→Inv14 x f g h i j k a c e l m2 I5 F4→(Dt (x<ai) (Dt (x>0) (∀(b2:Nat) (I6:cS),cS.le I5 I6→I6 b2=some (Obj.cells #[.string (⟨#[44]⟩:Bs)] 9 (0,0))→cX P 23 (#[vp (some p),vl (some ⟨b2,0,none⟩) 1 1]) I6 ((n,nO f g h i j k a c e l)::(b,nO 0 0 0 0 0 (⟨#[]⟩:Bs) none 0 0 0)::F4) fun e4 I7 G4=>((∃(r2:Int),e4=.returned (vi r2)∧∃F5:cR,List.Perm G4 ((n,nO f g h i j k a c e l)::(b,nO 0 0 0 0 0 (⟨#[]⟩:Bs) none 0 0 0)::F5)∧cX P 13 (#[vp (some p),vi r]) I7 ((n,nO f g h i j k a c e l)::(b,nO 0 0 0 0 0 (⟨#[]⟩:Bs) none 0 0 0)::F5) fun e5 I8 G5=>((∃(av aw ax ay az:Int) (aA:Bs) (af:OA) (ag ah:Nat) (aB:Int),e5=.returned (nV av aw ax ay az aA af ag ah aB)∧∃F6:cR,List.Perm G5 ((n,nO f g h i j k a c e l)::(b,nO 0 0 0 0 0 (⟨#[]⟩:Bs) none 0 0 0)::F6)∧∀(b3:Nat) (I9:cS),cS.le I8 I9→I9 b3=some (nO av aw ax ay az aA af ag ah aB)→eM P (Builtin.append_ #[27,27] 27 #[vl a c e,vl (some ⟨b3,0,none⟩) 1 1]) I9 ((n,nO f g h i j k a c e l)::(b,nO 0 0 0 0 0 (⟨#[]⟩:Bs) none 0 0 0)::F6) fun v I10 G6=>∃(aC:OA) (aD aE:Nat),v=vl aC aD aE∧∃F7:cR,List.Perm G6 ((n,nO f g h i j k a c e l)::(b,nO 0 0 0 0 0 (⟨#[]⟩:Bs) none 0 0 0)::F7)∧(∃m3:Nat,m3<m2∧Inv14 (IntKind.wrap .i64 (x+1)) f g h i j k aC aD aE l m3 I10 F7))∨(∃ch:List PanicEntry,e5=.panicked ch∧∃F8:cR,List.Perm G5 ((n,nO f g h i j k a c e l)::(b,nO 0 0 0 0 0 (⟨#[]⟩:Bs) none 0 0 0)::F8)∧Q (.panicked ch) I8 F8)))∨(∃aF:List PanicEntry,e4=.panicked aF∧∃F9:cR,List.Perm G4 ((n,nO f g h i j k a c e l)::(b,nO 0 0 0 0 0 (⟨#[]⟩:Bs) none 0 0 0)::F9)∧Q (.panicked aF) I7 F9))) (cX P 13 (#[vp (some p),vi r]) I5 ((n,nO f g h i j k a c e l)::(b,nO 0 0 0 0 0 (⟨#[]⟩:Bs) none 0 0 0)::F4) fun e6 I11 G7=>((∃(aj ak al am an:Int) (ao:Bs) (ab:OA) (ac ae:Nat) (ap:Int),e6=.returned (nV aj ak al am an ao ab ac ae ap)∧∃F10:cR,List.Perm G7 ((n,nO f g h i j k a c e l)::(b,nO 0 0 0 0 0 (⟨#[]⟩:Bs) none 0 0 0)::F10)∧∀(b4:Nat) (I12:cS),cS.le I11 I12→I12 b4=some (nO aj ak al am an ao ab ac ae ap)→eM P (Builtin.append_ #[27,27] 27 #[vl a c e,vl (some ⟨b4,0,none⟩) 1 1]) I12 ((n,nO f g h i j k a c e l)::(b,nO 0 0 0 0 0 (⟨#[]⟩:Bs) none 0 0 0)::F10) fun v1 I13 G8=>∃(aq:OA) (ar au:Nat),v1=vl aq ar au∧∃F11:cR,List.Perm G8 ((n,nO f g h i j k a c e l)::(b,nO 0 0 0 0 0 (⟨#[]⟩:Bs) none 0 0 0)::F11)∧(∃m4:Nat,m4<m2∧Inv14 (IntKind.wrap .i64 (x+1)) f g h i j k aq ar au l m4 I13 F11))∨(∃aG:List PanicEntry,e6=.panicked aG∧∃F12:cR,List.Perm G7 ((n,nO f g h i j k a c e l)::(b,nO 0 0 0 0 0 (⟨#[]⟩:Bs) none 0 0 0)::F12)∧Q (.panicked aG) I11 F12)))) (∀(b5:Nat) (I14:cS),cS.le I5 I14→I14 b5=some (Obj.cells #[.string (⟨#[41]⟩:Bs)] 9 (0,0))→cX P 23 (#[vp (some p),vl (some ⟨b5,0,none⟩) 1 1]) I14 ((n,nO f g h i j k a c e l)::(b,nO 0 0 0 0 0 (⟨#[]⟩:Bs) none 0 0 0)::F4) fun e7 I15 G9=>((∃(r3:Int),e7=.returned (vi r3)∧∃F13:cR,List.Perm G9 ((n,nO f g h i j k a c e l)::(b,nO 0 0 0 0 0 (⟨#[]⟩:Bs) none 0 0 0)::F13)∧Q (.returned (nV f g h i j k a c e l)) I15 F13)∨(∃aH:List PanicEntry,e7=.panicked aH∧∃F14:cR,List.Perm G9 ((n,nO f g h i j k a c e l)::(b,nO 0 0 0 0 0 (⟨#[]⟩:Bs) none 0 0 0)::F14)∧Q (.panicked aH) I15 F14)))))∨(∃aI:List PanicEntry,e3=.panicked aI∧∃F15:cR,List.Perm G3 ((n,nO t u w y z aa o q s m)::(b,nO 0 0 0 0 0 (⟨#[]⟩:Bs) none 0 0 0)::F15)∧Q (.panicked aI) I4 F15)))∨(∃aJ:List PanicEntry,e2=.panicked aJ∧∃F16:cR,List.Perm G2 ((n,nO t u w y z aa o q s m)::(b,nO 0 0 0 0 0 (⟨#[]⟩:Bs) none 0 0 0)::F16)∧Q (.panicked aJ) I2 F16)))∨(∃aK:List PanicEntry,e1=.panicked aK∧∃F17:cR,List.Perm G1 ((n,nO t u w y z aa o q s m)::(b,nO 0 0 0 0 0 (⟨#[]⟩:Bs) none 0 0 0)::F17)∧Q (.panicked aK) I1 F17))
theorem fV.vc{p:Addr}{j r u v w:Int}{x:Bs}{b:OA}{e g:Nat}{y i d:Int}{I:cS}{F:cR}{Q:cZ}(Inv14:Int→Int→Int→Int→Int→Int→Bs→OA→Nat→Nat→Int→Nat→cS→cR→Prop)(h:fV.V (fun k o t n f s a l c q=>.agg #[.int .u8 k,.int .u8 o,.int .u8 t,.int .i64 n,.int .u8 f,.string s,.slice a l c,.int .i64 q]) (fun k o t n f s a l c q=>.cells #[.int .u8 k,.int .u8 o,.int .u8 t,.int .i64 n,.int .u8 f,.string s,.slice a l c,.int .i64 q] 29 (0,0)) (.int .i64) .slice .pointer p j r u v w x b e g y i d I F Q Inv14):cX P 61 #[.pointer (some p),.agg #[.int .u8 j,.int .u8 r,.int .u8 u,.int .i64 v,.int .u8 w,.string x,.slice b e g,.int .i64 y],.int .i64 i,.int .i64 d] I F Q :=
 tw (A:=(fP [6000,8001] [13,18,22,23] [13,18,22,23] oH [(14,⟨[(26,(.int .i64))],[(0,[(.int .u8),(.int .u8),(.int .u8),(.int .i64),(.int .u8),.str,.slc,(.int .i64)])],fun _ _ _ vs m I F=>match vs with | [.int _ y0,.int _ y1,.int _ y2,.int _ y3,.int _ y4,.int _ y5,.string y6,.slice y7 y8 y9,.int _ y10]=>Inv14 y0 y1 y2 y3 y4 y5 y6 y7 y8 y9 y10 m I F | _=>False,[],[]⟩)] [4001,9001,10005,12001] [] [] [] [(10,[0,2,3,1,4,5,6,7,8])] [] [] [(10,[1],8)])) [13,18,22,23] func61 h
def fk.V(nV:Int→Int→Int→Int→Int→Bs→OA→Nat→Nat→Int→Value)(nO:Int→Int→Int→Int→Int→Bs→OA→Nat→Nat→Int→Obj)(vb vi:Int→Value)(vs:Bs→Value)(vl:OA→Nat→Nat→Value)(vp:OA→Value)(p:Addr)(d:Int)(I:cS)(F:cR)(Q:cZ)  : Prop:=∀b:Nat,cX P 45 (#[vp (some p)]) I ((b,nO 0 0 0 0 0 (⟨#[]⟩:Bs) none 0 0 0)::F) fun e1 I1 G1=>((∃(f g h i j:Int) (k:Bs) (a:OA) (c e:Nat) (l:Int) (r1:Bool),e1=.returned (.tuple #[nV f g h i j k a c e l,.bool r1])∧∃F1:cR,List.Perm G1 ((b,nO 0 0 0 0 0 (⟨#[]⟩:Bs) none 0 0 0)::F1)∧∀n:Nat,(It r1 (Q (.returned (nV f g h i j k a c e l)) I1 F1) (∃ad:Addr,some p=some ad∧∃(m:Int),Rd I1 ((b,nO 0 0 0 0 0 (⟨#[]⟩:Bs) none 0 0 0)::(n,nO f g h i j k a c e l)::F1) ((ad.add 1).add 4) [vi m]∧∃aW:Addr,some p=some aW∧∃(m1:Int),Rd I1 ((b,nO 0 0 0 0 0 (⟨#[]⟩:Bs) none 0 0 0)::(n,nO f g h i j k a c e l)::F1) ((aW.add 1).add 0) [vb m1]∧(It (m1==2) (cX P 29 (#[vp (some p)]) I1 ((b,nO 0 0 0 0 0 (⟨#[]⟩:Bs) none 0 0 0)::(n,nO f g h i j k a c e l)::F1) fun e2 I2 G2=>((∃(r:Bs),e2=.returned (vs r)∧∃F2:cR,List.Perm G2 ((b,nO 0 0 0 0 0 (⟨#[]⟩:Bs) none 0 0 0)::(n,nO f g h i j k a c e l)::F2)∧Q (.returned (nV 2 0 0 0 0 r none 0 0 m)) I2 F2)∨(∃ch:List PanicEntry,e2=.panicked ch∧∃F3:cR,List.Perm G2 ((b,nO 0 0 0 0 0 (⟨#[]⟩:Bs) none 0 0 0)::(n,nO f g h i j k a c e l)::F3)∧Q (.panicked ch) I2 F3))) (∀(b1:Nat) (I3:cS),cS.le I1 I3→I3 b1=some (Obj.cells #[vs (⟨#[98,105,100]⟩:Bs),vs (⟨#[97,115,107]⟩:Bs),vs (⟨#[108,97,115,116]⟩:Bs),vs (⟨#[118,111,108,117,109,101]⟩:Bs),vs (⟨#[110,111,119]⟩:Bs),vs (⟨#[111,112,101,110]⟩:Bs)] 9 (0,0))→mM P 41 (#[vp (some p),vl (some ⟨b1,0,none⟩) 6 6]) I3 ((b,nO 0 0 0 0 0 (⟨#[]⟩:Bs) none 0 0 0)::(n,nO f g h i j k a c e l)::·) F1 vi fun r2 I4 F4=>(Dt (r2≥0) (cX P 18 (#[vp (some p)]) I4 ((b,nO 0 0 0 0 0 (⟨#[]⟩:Bs) none 0 0 0)::(n,nO f g h i j k a c e l)::F4) fun e4 I5 G4=>((e4=.returned (.tuple #[])∧∃F5:cR,List.Perm G4 ((b,nO 0 0 0 0 0 (⟨#[]⟩:Bs) none 0 0 0)::(n,nO f g h i j k a c e l)::F5)∧Q (.returned (.agg #[vb 3,vb 0,vb 0,vi 0,vb (IntKind.wrap .u8 (1+(IntKind.wrap .u8 r2))),vs (⟨#[]⟩:Bs),vl none 0 0,vi m])) I5 F5)∨(∃aX:List PanicEntry,e4=.panicked aX∧∃F6:cR,List.Perm G4 ((b,nO 0 0 0 0 0 (⟨#[]⟩:Bs) none 0 0 0)::(n,nO f g h i j k a c e l)::F6)∧Q (.panicked aX) I5 F6))) (∀(b2:Nat) (I6:cS),cS.le I4 I6→I6 b2=some (Obj.cells #[vs (⟨#[105,110,116]⟩:Bs),vs (⟨#[113,116,121]⟩:Bs),vs (⟨#[112,114,105,99,101]⟩:Bs),vs (⟨#[116,105,109,101]⟩:Bs)] 9 (0,0))→mM P 41 (#[vp (some p),vl (some ⟨b2,0,none⟩) 4 4]) I6 ((b,nO 0 0 0 0 0 (⟨#[]⟩:Bs) none 0 0 0)::(n,nO f g h i j k a c e l)::·) F4 vi fun r3 I7 F7=>(Dt (r3≥0) (cX P 61 (#[vp (some p),.agg #[vb 9,vb 0,vb (IntKind.wrap .u8 (1+(IntKind.wrap .u8 r3))),vi 0,vb 0,vs (⟨#[]⟩:Bs),vl none 0 0,vi 0],vi 1,vi d]) I7 ((b,nO 0 0 0 0 0 (⟨#[]⟩:Bs) none 0 0 0)::(n,nO f g h i j k a c e l)::F7) fun e6 I8 G6=>((∃(aP aQ aR aS aT:Int) (aU:Bs) (al:OA) (am an:Nat) (aV:Int),e6=.returned (nV aP aQ aR aS aT aU al am an aV)∧∃F8:cR,List.Perm G6 ((b,nO 0 0 0 0 0 (⟨#[]⟩:Bs) none 0 0 0)::(n,nO f g h i j k a c e l)::F8)∧Q (.returned (nV aP aQ aR aS aT aU al am an aV)) I8 F8)∨(∃aY:List PanicEntry,e6=.panicked aY∧∃F9:cR,List.Perm G6 ((b,nO 0 0 0 0 0 (⟨#[]⟩:Bs) none 0 0 0)::(n,nO f g h i j k a c e l)::F9)∧Q (.panicked aY) I8 F9))) (∀(b3:Nat) (I9:cS),cS.le I7 I9→I9 b3=some (Obj.cells #[vs (⟨#[97,98,115]⟩:Bs),vs (⟨#[109,105,110]⟩:Bs),vs (⟨#[109,97,120]⟩:Bs),vs (⟨#[104,97,115]⟩:Bs),vs (⟨#[40]⟩:Bs)] 9 (0,0))→mM P 41 (#[vp (some p),vl (some ⟨b3,0,none⟩) 5 5]) I9 ((b,nO 0 0 0 0 0 (⟨#[]⟩:Bs) none 0 0 0)::(n,nO f g h i j k a c e l)::·) F7 vi fun r4 I10 F10=>(It (r4==0) (cX P 61 (#[vp (some p),nV 8 3 0 0 0 (⟨#[]⟩:Bs) none 0 0 0,vi 1,vi d]) I10 ((b,nO 0 0 0 0 0 (⟨#[]⟩:Bs) none 0 0 0)::(n,nO f g h i j k a c e l)::F10) fun e8 I11 G8=>((∃(ao ap aq ar au:Int) (av:Bs) (aa:OA) (ab ac:Nat) (aw:Int),e8=.returned (nV ao ap aq ar au av aa ab ac aw)∧∃F11:cR,List.Perm G8 ((b,nO 0 0 0 0 0 (⟨#[]⟩:Bs) none 0 0 0)::(n,nO f g h i j k a c e l)::F11)∧Q (.returned (nV ao ap aq ar au av aa ab ac aw)) I11 F11)∨(∃aZ:List PanicEntry,e8=.panicked aZ∧∃F12:cR,List.Perm G8 ((b,nO 0 0 0 0 0 (⟨#[]⟩:Bs) none 0 0 0)::(n,nO f g h i j k a c e l)::F12)∧Q (.panicked aZ) I11 F12))) (It (r4==1) (cX P 61 (#[vp (some p),nV 8 4 0 0 0 (⟨#[]⟩:Bs) none 0 0 0,vi 2,vi d]) I10 ((b,nO 0 0 0 0 0 (⟨#[]⟩:Bs) none 0 0 0)::(n,nO f g h i j k a c e l)::F10) fun e9 I12 G9=>((∃(ax ay az aA aB:Int) (aC:Bs) (ae:OA) (af ag:Nat) (aD:Int),e9=.returned (nV ax ay az aA aB aC ae af ag aD)∧∃F13:cR,List.Perm G9 ((b,nO 0 0 0 0 0 (⟨#[]⟩:Bs) none 0 0 0)::(n,nO f g h i j k a c e l)::F13)∧Q (.returned (nV ax ay az aA aB aC ae af ag aD)) I12 F13)∨(∃a0:List PanicEntry,e9=.panicked a0∧∃F14:cR,List.Perm G9 ((b,nO 0 0 0 0 0 (⟨#[]⟩:Bs) none 0 0 0)::(n,nO f g h i j k a c e l)::F14)∧Q (.panicked a0) I12 F14))) (It (r4==2) (cX P 61 (#[vp (some p),nV 8 5 0 0 0 (⟨#[]⟩:Bs) none 0 0 0,vi 2,vi d]) I10 ((b,nO 0 0 0 0 0 (⟨#[]⟩:Bs) none 0 0 0)::(n,nO f g h i j k a c e l)::F10) fun a6 I13 G10=>((∃(aE aF aG aH aI:Int) (aJ:Bs) (ah:OA) (ai aj:Nat) (aK:Int),a6=.returned (nV aE aF aG aH aI aJ ah ai aj aK)∧∃F15:cR,List.Perm G10 ((b,nO 0 0 0 0 0 (⟨#[]⟩:Bs) none 0 0 0)::(n,nO f g h i j k a c e l)::F15)∧Q (.returned (nV aE aF aG aH aI aJ ah ai aj aK)) I13 F15)∨(∃a1:List PanicEntry,a6=.panicked a1∧∃F16:cR,List.Perm G10 ((b,nO 0 0 0 0 0 (⟨#[]⟩:Bs) none 0 0 0)::(n,nO f g h i j k a c e l)::F16)∧Q (.panicked a1) I13 F16))) (It (r4==3) (cX P 18 (#[vp (some p)]) I10 ((b,nO 0 0 0 0 0 (⟨#[]⟩:Bs) none 0 0 0)::(n,nO f g h i j k a c e l)::F10) fun a7 I14 G11=>((a7=.returned (.tuple #[])∧∃F17:cR,List.Perm G11 ((b,nO 0 0 0 0 0 (⟨#[]⟩:Bs) none 0 0 0)::(n,nO f g h i j k a c e l)::F17)∧∀(b4:Nat) (I15:cS),cS.le I14 I15→I15 b4=some (Obj.cells #[vs (⟨#[98,105,100]⟩:Bs),vs (⟨#[97,115,107]⟩:Bs),vs (⟨#[108,97,115,116]⟩:Bs)] 9 (0,0))→cX P 23 (#[vp (some p),vl (some ⟨b4,0,none⟩) 3 3]) I15 ((b,nO 0 0 0 0 0 (⟨#[]⟩:Bs) none 0 0 0)::(n,nO f g h i j k a c e l)::F17) fun a8 I16 G12=>((∃(r5:Int),a8=.returned (vi r5)∧∃F18:cR,List.Perm G12 ((b,nO 0 0 0 0 0 (⟨#[]⟩:Bs) none 0 0 0)::(n,nO f g h i j k a c e l)::F18)∧Q (.returned (.agg #[vb 4,vb 0,vb 0,vi 0,vb (IntKind.wrap .u8 (1+(IntKind.wrap .u8 r5))),vs (⟨#[]⟩:Bs),vl none 0 0,vi m])) I16 F18)∨(∃a2:List PanicEntry,a8=.panicked a2∧∃F19:cR,List.Perm G12 ((b,nO 0 0 0 0 0 (⟨#[]⟩:Bs) none 0 0 0)::(n,nO f g h i j k a c e l)::F19)∧Q (.panicked a2) I16 F19)))∨(∃a3:List PanicEntry,a7=.panicked a3∧∃F20:cR,List.Perm G11 ((b,nO 0 0 0 0 0 (⟨#[]⟩:Bs) none 0 0 0)::(n,nO f g h i j k a c e l)::F20)∧Q (.panicked a3) I14 F20))) (It (r4==4) (cX P 22 (#[vp (some p),vi d]) I10 ((b,nO 0 0 0 0 0 (⟨#[]⟩:Bs) none 0 0 0)::(n,nO f g h i j k a c e l)::F10) fun a9 I17 G13=>((∃(r6:Int),a9=.returned (vi r6)∧∃F21:cR,List.Perm G13 ((b,nO 0 0 0 0 0 (⟨#[]⟩:Bs) none 0 0 0)::(n,nO f g h i j k a c e l)::F21)∧cX P 18 (#[vp (some p)]) I17 ((b,nO 0 0 0 0 0 (⟨#[]⟩:Bs) none 0 0 0)::(n,nO f g h i j k a c e l)::F21) fun ba I18 G14=>((ba=.returned (.tuple #[])∧∃F22:cR,List.Perm G14 ((b,nO 0 0 0 0 0 (⟨#[]⟩:Bs) none 0 0 0)::(n,nO f g h i j k a c e l)::F22)∧cX P 13 (#[vp (some p),vi r6]) I18 ((b,nO 0 0 0 0 0 (⟨#[]⟩:Bs) none 0 0 0)::(n,nO f g h i j k a c e l)::F22) fun bb I19 G15=>((∃(t u v w x:Int) (y:Bs) (o:OA) (q s:Nat) (z:Int),bb=.returned (nV t u v w x y o q s z)∧∃F23:cR,List.Perm G15 ((b,nO 0 0 0 0 0 (⟨#[]⟩:Bs) none 0 0 0)::(n,nO f g h i j k a c e l)::F23)∧∀ak:Nat,∀(b5:Nat) (I20:cS),cS.le I19 I20→I20 b5=some (Obj.cells #[vs (⟨#[41]⟩:Bs)] 9 (0,0))→cX P 23 (#[vp (some p),vl (some ⟨b5,0,none⟩) 1 1]) I20 ((b,nO 0 0 0 0 0 (⟨#[]⟩:Bs) none 0 0 0)::(n,nO f g h i j k a c e l)::(ak,nO t u v w x y o q s z)::F23) fun bc I21 G16=>((∃(r7:Int),bc=.returned (vi r7)∧∃F24:cR,List.Perm G16 ((b,nO 0 0 0 0 0 (⟨#[]⟩:Bs) none 0 0 0)::(n,nO f g h i j k a c e l)::(ak,nO t u v w x y o q s z)::F24)∧Q (.returned (nV t u v w x y o q s z)) I21 F24)∨(∃a4:List PanicEntry,bc=.panicked a4∧∃F25:cR,List.Perm G16 ((b,nO 0 0 0 0 0 (⟨#[]⟩:Bs) none 0 0 0)::(n,nO f g h i j k a c e l)::(ak,nO t u v w x y o q s z)::F25)∧Q (.panicked a4) I21 F25)))∨(∃a5:List PanicEntry,bb=.panicked a5∧∃F26:cR,List.Perm G15 ((b,nO 0 0 0 0 0 (⟨#[]⟩:Bs) none 0 0 0)::(n,nO f g h i j k a c e l)::F26)∧Q (.panicked a5) I19 F26)))∨(∃aL:List PanicEntry,ba=.panicked aL∧∃F27:cR,List.Perm G14 ((b,nO 0 0 0 0 0 (⟨#[]⟩:Bs) none 0 0 0)::(n,nO f g h i j k a c e l)::F27)∧Q (.panicked aL) I18 F27)))∨(∃aM:List PanicEntry,a9=.panicked aM∧∃F28:cR,List.Perm G13 ((b,nO 0 0 0 0 0 (⟨#[]⟩:Bs) none 0 0 0)::(n,nO f g h i j k a c e l)::F28)∧Q (.panicked aM) I17 F28))) (cX P 19 (#[vp (some p),vi 130]) I10 ((b,nO 0 0 0 0 0 (⟨#[]⟩:Bs) none 0 0 0)::(n,nO f g h i j k a c e l)::F10) fun bd I22 G17=>((bd=.returned (.tuple #[])∧∃F29:cR,List.Perm G17 ((b,nO 0 0 0 0 0 (⟨#[]⟩:Bs) none 0 0 0)::(n,nO f g h i j k a c e l)::F29)∧Q (.returned (nV 0 0 0 0 0 (⟨#[]⟩:Bs) none 0 0 0)) I22 F29)∨(∃aN:List PanicEntry,bd=.panicked aN∧∃F30:cR,List.Perm G17 ((b,nO 0 0 0 0 0 (⟨#[]⟩:Bs) none 0 0 0)::(n,nO f g h i j k a c e l)::F30)∧Q (.panicked aN) I22 F30)))))))))))))))))∨(∃aO:List PanicEntry,e1=.panicked aO∧∃F31:cR,List.Perm G1 ((b,nO 0 0 0 0 0 (⟨#[]⟩:Bs) none 0 0 0)::F31)∧Q (.panicked aO) I1 F31))
theorem fk.vc{p:Addr}{d:Int}{I:cS}{F:cR}{Q:cZ}  (h:fk.V (fun k o t n f s a l c q=>.agg #[.int .u8 k,.int .u8 o,.int .u8 t,.int .i64 n,.int .u8 f,.string s,.slice a l c,.int .i64 q]) (fun k o t n f s a l c q=>.cells #[.int .u8 k,.int .u8 o,.int .u8 t,.int .i64 n,.int .u8 f,.string s,.slice a l c,.int .i64 q] 29 (0,0)) (.int .u8) (.int .i64) .string .slice .pointer p d I F Q):cX P 50 #[.pointer (some p),.int .i64 d] I F Q :=
 tw (A:=(fP [2000,5005,8001,12001,15000,17000,19000,21000,24000] [13,18,19,22,23,29,45,61] [13,18,19,22,23,29,41,45,61] oH [] [7001,11001,14001,23001,28001] [] [] [] [] [])) [13,18,19,22,23,29,41,45,61] func50 h
end Go.Lx
namespace Go.Lx
open Go.Vc
def CI(x:Int)(v:Value)(H:cR):Prop:=(∃i:Int,v=.int .i64 i)∧H=[]
def vC(c:PC)(t:ByteArray)(f:Nat)(d:Int)(g:PS→Px×PS):Prop:=∀(b:Nat) (s:PS) (I:cS) (F F0:cR),c.Live s→F.Perm (c.px t b s::F0)→cX P f #[.pointer (some ⟨b,0,none⟩),.int .i64 d] I F (c9 c t b nW F0 (g s))
section
variable {c:PC} {t:ByteArray} {s:PS} {b:Nat} {I:cS} {F F0:cR}
theorem Bd{b1:Nat}{w:ByteArray}(hb:I b1=some (.cells #[.string w] 9 (0,0))):Sl I 1 lg (some ⟨b1,0,none⟩) 1 [w]:=Sl.lb (f:=lg) (z:=1) (l:=[w]) (fun _=>rfl) hb rfl
theorem ej(hc:c.Of t)(hl:c.Live s){b1:Nat}{w:ByteArray}(hb:I b1=some (.cells #[.string w] 9 (0,0)))(hF:F.Perm (c.px t b s::F0)) :
  cX P 23 #[.pointer (some ⟨b,0,none⟩),.slice (some ⟨b1,0,none⟩) 1 1] I F (c9 c t b CI F0 (c.take w s)):=by
 refine c9.use (oG hc hl (Bd hb) (by decide) hF) (fun v H I2 G l2 hL hv hG=>?_) fun f e I2 G l2 hd hf=>?_
 ·obtain⟨rfl,rfl⟩:=hv
  exact .inl ⟨by rw[mY];exact hL,_,[],rfl,⟨⟨_,rfl⟩,rfl⟩,by rw[mY];exact hG⟩
 ·exact .inr ⟨f,by rw[mY];exact hd,hf⟩
theorem oI{d:Int}(h:d<24):c.cT d s=s:=by unfold PC.cT;rw[if_neg (by omega)]
theorem ke(hl:c.Live s):(c.cT 24 s).over=true∧c.dq ⟨132,(c.tok s.next).pos,false⟩ (c.cT 24 s):=by
 unfold PC.cT;rw[if_pos (by decide)]
 have:=hl.cV (e:=132) (by decide)
 exact⟨by rw[this.1];rfl,this.2⟩
theorem zL{nx:Lv}{d kind oper dU pos:Int}{many:Nat}(hl:c.Live s)(h:d<24) :
  c.call nx d kind oper dU pos many s=(.mk kind oper dU 0 0 ⟨#[]⟩ (c.dv nx many true (c.take (⟨#[40]⟩:ByteArray) s.inc).2).1 pos,(c.take (⟨#[41]⟩:ByteArray) (c.dv nx many true (c.take (⟨#[40]⟩:ByteArray) s.inc).2).2).2):=by
 unfold PC.call;rw[oI h,hl.1,if_neg (by simp)]
theorem zM{nx:Lv}{kind oper dU pos:Int}{many:Nat}(hl:c.Live s):c.call nx 24 kind oper dU pos many s=(dZ,c.cT 24 s):=by
 unfold PC.call;rw[(ke hl).1,if_pos rfl]
theorem py(hc:c.Of t)(hl:c.Live s)(hk:(c.tok s.next).kind≠0){nx:Lv}{d:Int}(h0:0≤d)(h1:d≤24)(hx:d<24→vC c t 13 (d+1) nx.ex)(hkp:∀f,Kp c f nx.ex)(kind oper dU pos0:Int)(many:Nat)(hm:many≤2)(hF:F.Perm (c.px t b s::F0)) :
  cX P 61 #[.pointer (some ⟨b,0,none⟩),(Nd.mk kind oper dU 0 0 ⟨#[]⟩ none 0 [] pos0).v,.int .i64 many,.int .i64 d] I F (c9 c t b nW F0 (c.call nx d kind oper dU (c.tok s.next).pos many s)):=by
 have hp:=dO.of (I:=I) hF
 refine fV.vc (fun x n0 n1 n2 n3 n4 n5 a n k n7 m I' F'=>n0=kind∧n1=oper∧n2=dU∧n3=0∧n4=0∧n5=⟨#[]⟩∧n7=(c.tok s.next).pos∧d<24∧0≤x∧x≤many∧m=(many-x).toNat ∧
  ∃(ks:List Nd) (si:PS),(ks.length:Int)=x∧c.Live si∧c.dv nx many true (c.take (⟨#[40]⟩:ByteArray) s.inc).2=(ks.map Nd.px++(c.dv nx (many-x).toNat (decide (x=0)) si).1,(c.dv nx (many-x).toNat (decide (x=0)) si).2)∧Part 8 Nd.enc 29 (ef 29 false) a n k ks (c.px t b si::F0) F') ?_
 unfold fV.V
 intro bn b0
 refine⟨_,rfl,_,(hp.mono (cS.le_refl I) fun x hx=>.tail _ (.tail _ hx)).rd.dE (p:=1) (q:=4) rfl, ?_⟩
 refine (lU (hp.mono (cS.le_refl I) fun x hx=>.tail _ (.tail _ hx)) h0 h1).mono fun e I1 G l1 hd=>?_
 rcases hd with ⟨hlt,rfl,rfl⟩ | ⟨rfl,hf⟩
 rotate_left
 ·refine .inr (dc.dy [_,_] (hf.perm (F1:=[_,_]++F) (.refl _) (.refl _)) fun e' G' hf'=>.inr ⟨_, ?_,hf'.tail hF⟩)
  rw[zM hl];exact (ke hl).2
 rw[zL hl hlt]
 refine .inl ⟨_,rfl,F,.refl _, ?_⟩
 have dead1:∀{f:PF} {s':PS},c.dq f s'→s'=(c.take (⟨#[40]⟩:ByteArray) s.inc).2→c.dq f (c.take (⟨#[41]⟩:ByteArray) (c.dv nx many true (c.take (⟨#[40]⟩:ByteArray) s.inc).2).2).2:=fun h e=>(Kp.kids (hkp _) _ _ _ (e▸h)).take _
 refine c9.use (dQ hc hl hk (fQ hF)) (fun v H I2 G l2 hL hv hG=>.inl ?_) fun f e I2 G l2 hd hf=>.inr ?_
 rotate_left
 ·exact dc.dy [_,_] hf fun e' G' hf'=>.inr ⟨f,dead1 (hd.take _) rfl,hf'⟩
 obtain⟨rfl,rfl⟩:=hv
 refine⟨rfl,c.px t b s.inc::F0,hG.trans (cU fun z=>by simp only[cW,cY,c6];omega),fun b1 I3 l3 hb1=>?_⟩
 refine c9.use (ej hc hL hb1 (fQ (.refl _))) (fun v H I4 G l4 hL1 hv hG=>.inl ?_) fun f e I4 G l4 hd hf=>.inr ?_
 rotate_left
 ·exact dc.dy [_,_] hf fun e' G' hf'=>.inr ⟨f,dead1 hd rfl,hf'⟩
 obtain⟨⟨i1,rfl⟩,rfl⟩:=hv
 refine⟨_,rfl,c.px t b (c.take (⟨#[40]⟩:ByteArray) s.inc).2::F0,hG.trans (cU fun z=>by simp only[cW,cY,c6];omega),⟨_,rfl,rfl,rfl,rfl,rfl,rfl,rfl,hlt,by decide,by omega,rfl,[],_,rfl,hL1, ?_,Part.nil⟩, ?_⟩
 ·rw[decide_eq_true rfl,show ((many:Int)-0).toNat=many by omega];rfl
 intro x n0 n1 n2 n3 n4 n5 a n k n7 m I5 F4 l5 ⟨g0,g1,g2,g3,g4,g5,g7,_,x0,x1,gm,ks,si,gl,hLi,gk,gP⟩
 subst g0 g1 g2 g3 g4 g5 g7
 obtain⟨A,hs,hA,hO,hFp⟩:=gP
 have hnl:=hA.1
 have frame:∀(X Y:Nat×Obj),(X::Y::F4).Perm (c.px t b si::([X,Y]++(A++(dM ks.length hs++F0)))):=fun X Y=>(hFp.cons _ |>.cons _).trans (cU fun z=>by simp only[cW,cY,c6];omega)
 have key:∀(sj:PS) (X Y:Nat×Obj) (I5:cS) (F5:cR) (Q':Ending→cS→cR→Prop),c.Live sj→F5.Perm (A++(dM ks.length hs++(c.px t b sj::F0))) →
   c.dv nx (many-x).toNat (decide (x=0)) si=((nx.ex sj).1::(c.dv nx (many-(x+1)).toNat false (nx.ex sj).2).1,(c.dv nx (many-(x+1)).toNat false (nx.ex sj).2).2)→0≤x→x<many →
   (∀(tn:Nd) (I8:cS) (G F6:cR),cS.le I5 I8→G.Perm (X::Y::F6) →
    (∀(b3:Nat) (I9:cS),cS.le I8 I9→I9 b3=some (.cells tn.enc.toArray 29 (0,0))→eM P (Builtin.append_ #[27,27] 27 #[.slice a n k,.slice (some ⟨b3,0,none⟩) 1 1]) I9 (X::Y::F6) fun v I10 G6=>∃(ra:Option Addr) (rn rc:Nat),v=.slice ra rn rc∧∃F7:cR,G6.Perm (X::Y::F7) ∧
     ∃(ks:List Nd) (si:PS),(ks.length:Int)=x+1∧c.Live si∧c.dv nx many true (c.take (⟨#[40]⟩:ByteArray) s.inc).2=(ks.map Nd.px++(c.dv nx (many-(x+1)).toNat (decide (x+1=0)) si).1,(c.dv nx (many-(x+1)).toNat (decide (x+1=0)) si).2)∧Part 8 Nd.enc 29 (ef 29 false) ra rn rc ks (c.px t b si::F0) F7)→Q' (.returned tn.v) I8 G) →
   (∀(f:PF) (e:Ending) (I8:cS) (G:cR),cS.le I5 I8→c.dq f (c.dv nx many true (c.take (⟨#[40]⟩:ByteArray) s.inc).2).2→dc f ([X,Y]++F0) e G→Q' e I8 G) →
   cX P 13 #[.pointer (some ⟨b,0,none⟩),.int .i64 (d+1)] I5 (X::Y::F5) Q':=by
  intro sj X Y I5 F5 Q' hLj hF5 hkd x0 x1 k1 k2
  refine c9.use (hx hlt b sj I5 _ ([X,Y]++(A++(dM ks.length hs++F0))) hLj ((hF5.cons _ |>.cons _).trans (cU fun z=>by simp only[cW,cY,c6];omega))) (fun v H I8 G l8 hL8 hv hG=>?_) fun f e I8 G l8 hd hf=>?_
  ·obtain⟨tn,rfl,hpx,hOt⟩:=hv
   refine k1 tn I8 G (H++(A++(dM ks.length hs++(c.px t b (nx.ex sj).2::F0)))) l8 (hG.trans (cU fun z=>by simp only[cW,cY,c6];omega)) fun b3 I9 l9 hb3=>?_
   refine eM.mono (jn (f:=Nd.enc) Nd.wc (zv:=kZ.v) (by':=72) (by kernel_rfl) (by kernel_rfl) rfl (by decide) (O:=ef 29 false) (x:=tn) (F:=c.px t b (nx.ex sj).2::F0) (R0:=[X,Y]) ⟨A,hs,hA,hO,.refl _⟩ tn.zn rfl hb3 hOt (.refl _) (by omega)) fun v I10 G2 l10 ⟨ra,rn,rc,hv,F7,hG7,hP7⟩=>?_
   refine⟨ra,rn,rc,hv,F7,hG7,ks++[tn],(nx.ex sj).2,by rw[List.length_append,List.length_singleton];omega,hL8, ?_,hP7⟩
   rw[gk,hkd,decide_eq_false (by omega:¬x+1=0),List.map_append,List.append_assoc,List.map_singleton,hpx];rfl
  ·refine k2 f e I8 G l8 ?_ ?_
   ·rw[gk,hkd];exact Kp.kids (hkp _) _ _ _ hd
   ·refine dc.more (A:=A++dM ks.length hs) (hf.perm (cU fun z=>by simp only[cY];omega) (.refl _))
 refine⟨fun hlt2=>?_,fun hge=>?_⟩
 ·have hlt2:=of_decide_eq_true hlt2
  have hsz:((many:Int)-x).toNat=((many:Int)-(x+1)).toNat+1:=by omega
  refine⟨fun hpos=>fun b2 I6 l6 hb2=>?_,fun hpos=>?_⟩
  ·have hpos:=of_decide_eq_true hpos
   have hkd:c.dv nx (many-x).toNat (decide (x=0)) si=((nx.ex (c.take (⟨#[44]⟩:ByteArray) si).2).1::(c.dv nx (many-(x+1)).toNat false (nx.ex (c.take (⟨#[44]⟩:ByteArray) si).2).2).1,(c.dv nx (many-(x+1)).toNat false (nx.ex (c.take (⟨#[44]⟩:ByteArray) si).2).2).2):=by
    rw[hsz,PC.dv,decide_eq_false (by omega)];rfl
   refine c9.use (ej hc hLi hb2 (frame _ _)) (fun v H I7 G l7 hL7 hv hG=>.inl ?_) fun f e I7 G l7 hd hf=>.inr ?_
   rotate_left
   ·refine dc.dy [_,_] hf fun e' G' hf'=>.inr ⟨f,PC.dq.take ?_ _,dc.more (A:=A++dM ks.length hs) (hf'.perm (cU fun z=>by simp only[cY];omega) (.refl _))⟩
    rw[gk,hkd];exact Kp.kids (hkp _) _ _ _ (hkp _ _ hd)
   obtain⟨⟨i2,rfl⟩,rfl⟩:=hv
   refine⟨_,rfl,A++(dM ks.length hs++(c.px t b (c.take (⟨#[44]⟩:ByteArray) si).2::F0)),hG.trans (cU fun z=>by simp only[cW,cY,c6];omega),key _ _ _ _ _ _ hL7 (.refl _) hkd x0 hlt2 (fun tn I8 G F6 l8 hG8 kA=>.inl ⟨_,_,_,_,_,_,_,_,_,_,rfl,F6,hG8,fun b3 I9 l9 hb3=>?_⟩) fun f e I8 G l8 hd hf=>.inr (dc.dy [_,_] hf fun e' G' hf'=>.inr ⟨f,hd.take _,hf'⟩)⟩
   refine eM.mono (kA b3 I9 l9 hb3) fun v I10 G6 l10 ⟨ra,rn,rc,hv,F7,hG7,r⟩=>⟨ra,rn,rc,hv,F7,hG7,(many-(x+1)).toNat,by omega, ?_⟩
   rw[jD (n:=x+1) (by omega)]
   exact⟨rfl,rfl,rfl,rfl,rfl,rfl,rfl,hlt,by omega,by omega,rfl,r⟩
  ·have hpos:x=0:=by have:=of_decide_eq_false hpos;omega
   have hkd:c.dv nx (many-x).toNat (decide (x=0)) si=((nx.ex si).1::(c.dv nx (many-(x+1)).toNat false (nx.ex si).2).1,(c.dv nx (many-(x+1)).toNat false (nx.ex si).2).2):=by
    rw[hsz,PC.dv,decide_eq_true hpos];rfl
   refine key _ _ _ _ _ _ hLi hFp hkd x0 hlt2 (fun tn I8 G F6 l8 hG8 kA=>.inl ⟨_,_,_,_,_,_,_,_,_,_,rfl,F6,hG8,fun b3 I9 l9 hb3=>?_⟩) fun f e I8 G l8 hd hf=>.inr (dc.dy [_,_] hf fun e' G' hf'=>.inr ⟨f,hd.take _,hf'⟩)
   refine eM.mono (kA b3 I9 l9 hb3) fun v I10 G6 l10 ⟨ra,rn,rc,hv,F7,hG7,r⟩=>⟨ra,rn,rc,hv,F7,hG7,(many-(x+1)).toNat,by omega, ?_⟩
   rw[jD (n:=x+1) (by omega)]
   exact⟨rfl,rfl,rfl,rfl,rfl,rfl,rfl,hlt,by omega,by omega,rfl,r⟩
 ·have hge:=of_decide_eq_false hge
  intro b5 I6 l6 hb5
  have hxm:((many:Int)-x).toNat=0:=by omega
  have hend:c.dv nx many true (c.take (⟨#[40]⟩:ByteArray) s.inc).2=(ks.map Nd.px,si):=by rw[gk,hxm,PC.dv,List.append_nil]
  rw[hend]
  refine c9.use (ej hc hLi hb5 (frame _ _)) (fun v H I7 G l7 hL7 hv hG=>.inl ?_) fun f e I7 G l7 hd hf=>.inr ?_
  ·obtain⟨⟨i3,rfl⟩,rfl⟩:=hv
   subst hnl
   refine⟨_,rfl,c.px t b (c.take (⟨#[41]⟩:ByteArray) si).2::((A++dM ks.length hs)++F0),hG.trans (cU fun z=>by simp only[cW,cY,c6];omega),.inl ⟨hL7,_,A++dM ks.length hs,rfl,⟨.mk n0 n1 n2 0 0 ⟨#[]⟩ a k ks (c.tok s.next).pos,rfl, ?_,.mk (t:=.mk n0 n1 n2 0 0 ⟨#[]⟩ a k ks (c.tok s.next).pos) hA (fun h=>by cases h) hO⟩,.refl _⟩⟩
   rw[Nd.px,Nd.sv]
  ·exact dc.dy [_,_] hf fun e' G' hf'=>.inr ⟨f,hd,dc.more (A:=A++dM ks.length hs) (hf'.perm (cU fun z=>by simp only[cY];omega) (.refl _))⟩
end
end Go.Lx
namespace Go.Lx
open Go.Vc
section
variable {c:PC} {t:ByteArray} {s:PS} {b:Nat} {I:cS} {F F0:cR}
theorem PC.dq.live{f:PF}(h:c.dq f s)(hl:c.Live s):False:=by
 have:=h.1
 unfold PC.fin at this
 rw[hl.1,if_neg (by simp),if_neg (by have:=hl.2;omega)] at this
 cases this
theorem uv{ws:List ByteArray}(h:0≤c.any ws s):∃w∈ws,c.dH w s=true:=by
 have:∀(ws:List ByteArray) (i:Int),0≤c.fe s ws i→∃w∈ws,c.dH w s=true:=by
  intro ws
  induction ws with
  | nil=>intro i h;rw[PC.fe] at h;omega
  | cons w r ih =>
    intro i h
    rw[PC.fe] at h
    by_cases hw:c.dH w s=true
    ·exact⟨w,.head _,hw⟩
    ·rw[if_neg hw] at h
     obtain⟨x,hx,hxw⟩:=ih _ h
     exact⟨x,.tail _ hx,hxw⟩
 exact this ws 0 h
def B3(l m:List ByteArray):Bool:=l.all fun w=>m.all fun x=>!(w.toList==x.toList)
theorem zN{l m:List ByteArray}(hf:B3 l m=true)(h:0≤c.any l s):c.any m s<0:=by
 apply Int.not_le.1
 intro h2
 obtain⟨w,hw,h3⟩:=uv h
 obtain⟨x,hx,h4⟩:=uv h2
 unfold PC.dH at h3 h4
 simp only[Bool.and_eq_true,beq_iff_eq] at h3 h4
 have:=List.all_eq_true.1 (List.all_eq_true.1 hf w hw) x hx
 rw[←h3.1,←h4.1] at this
 simp at this
def wH:List ByteArray:=[(⟨#[97,98,115]⟩:ByteArray),(⟨#[109,105,110]⟩:ByteArray),(⟨#[109,97,120]⟩:ByteArray),(⟨#[104,97,115]⟩:ByteArray),(⟨#[40]⟩:ByteArray)]
theorem CJ:(0≤c.any fM s→c.any wH s=c.any fM s)∧(c.any fM s<0→c.any wH s=if c.dH (⟨#[104,97,115]⟩:ByteArray) s then 3 else if c.dH (⟨#[40]⟩:ByteArray) s then 4 else -1):=by
 unfold PC.any wH fM
 simp only[PC.fe]
 generalize c.dH _ s=b1
 generalize c.dH _ s=b2
 generalize c.dH _ s=b3
 generalize c.dH _ s=b4
 generalize c.dH _ s=b5
 cases b1<;>cases b2<;>cases b3<;>cases b4<;>cases b5<;>decide
theorem lV(hc:c.Of t)(hl:c.Live s)(h:(c.literal s).1.2=false):c.literal s=((dZ,false),s):=by
 by_cases hk:(c.tok s.next).kind=3
 ·rw[sP hl hk] at h;cases h
 ·have:=wG hc hl hk
  split at this
  ·exact this
  ·rw[this] at h;cases h
theorem c9.leaf{r:Px×PS}{e:Ending}{G:cR}(hL:c.Live r.2){k o ty n f p:Int}{w:ByteArray}(h:r.1=.mk k o ty n f w [] p)(he:e=.returned (Nd.mk k o ty n f w none 0 [] p).v)(hG:G.Perm (c.px t b r.2::F0)):c9 c t b nW F0 r e I G :=
 .inl ⟨hL,_,[],he,⟨_,rfl,by rw[h];simp only[Nd.px,Nd.tU],ef.leaf⟩,hG⟩
theorem words{b1:Nat}{ws:List ByteArray}{cs:Array Value}(hb:I b1=some (.cells cs 9 (0,0)))(h:cs.toList=ws.flatMap lg):Sl I 1 lg (some ⟨b1,0,none⟩) ws.length ws:=Sl.lb (f:=lg) (z:=1) (fun _=>rfl) hb h
theorem xF(hc:c.Of t){nx:Lv}{d:Int}(h0:0≤d)(h1:d≤24)(hx:d<24→vC c t 13 (d+1) nx.ex)(hkp:∀f,Kp c f nx.ex)(hl:c.Live s)(hF:F.Perm (c.px t b s::F0)) :
  cX P 50 #[.pointer (some ⟨b,0,none⟩),.int .i64 d] I F (c9 c t b nW F0 (c.one nx d s)):=by
 have hn:=hl.now
 refine fk.vc ?_
 unfold fk.V
 intro b0
 refine c9.use (mZ hc hl (sM hF)) (fun v H I1 G l1 hL hv hG=>.inl ?_) fun f e I1 G l1 hd hf=>.inr ?_
 rotate_left
 ·refine dc.dy [_] hf fun e' G' hf'=>.inr ⟨f, ?_,hf'⟩
  cases h2:(c.literal s).1.2 with
  | true=>unfold PC.one;rw[h2,if_pos rfl];exact hd
  | false=>rw[lV hc hl h2] at hd;exact (hd.live hl).elim
 obtain⟨n,rfl,hpx,hO,rfl⟩:=hv
 refine⟨_,_,_,_,_,_,_,_,_,_,_,rfl,c.px t b (c.literal s).2::F0,hG.trans (cU fun z=>by simp only[cW,cY,c6];omega),fun bn=>⟨fun h2=>?_,fun h2=>?_⟩⟩
 ·have e1:c.one nx d s=((c.literal s).1.1,(c.literal s).2):=by unfold PC.one;rw[h2,if_pos rfl]
  rw[e1]
  exact .inl ⟨hL,_,[],rfl,⟨n,rfl,hpx,hO⟩,.refl _⟩
 have eL:=lV hc hl h2
 clear hG
 rw[eL]
 generalize hF1:c.px t b (((dZ,false),s):(Px×Bool)×PS).2::F0=F1
 have hF1:F1.Perm (c.px t b s::F0):=by rw[←hF1]
 have one_:c.one nx d s=if (c.tok s.next).kind=2 then (.mk 2 0 0 0 0 (c.tok s.next).text [] (c.tok s.next).pos,s.inc)
   else if 0≤c.any ia s then (.mk 3 0 0 0 (c.any ia s+1) ⟨#[]⟩ [] (c.tok s.next).pos,s.inc)
   else if 0≤c.any fM s then c.call nx d 8 (3+c.any fM s) 0 (c.tok s.next).pos (if c.any fM s=0 then 1 else 2) s
   else if 0≤c.any iL s then c.call nx d 9 0 (1+c.any iL s) (c.tok s.next).pos 1 s else c.rest nx d s:=by
  unfold PC.one;rw[eL,if_neg (by simp),hn]
 have hp1:∀{J:cS} (X Y:Nat×Obj),dO J (X::Y::F1) t b (c.tok s.next) (ix (c.tok s.next)):=fun X Y=>.inr (.tail _ (.tail _ (hF1.mem_iff.2 (.head _))))
 have up:∀{G:cR} {X Y:Nat×Obj} {s':PS} {K:cR},G.Perm (c.px t b s'::(K++(X::Y::F0)))→G.Perm (X::Y::(c.px t b s'::(K++F0))):=fun h=>h.trans (cU fun z=>by simp only[cW,cY,c6];omega)
 refine⟨_,rfl,_,(hp1 _ _).rd.dE (p:=1) (q:=4) rfl,_,rfl,_,(hp1 _ _).rd.dE (p:=1) (q:=0) rfl,fun h3=>?_,fun h3=>?_⟩
 ·have h3:(c.tok s.next).kind=2:=by simpa using h3
  have e1:c.one nx d s=(.mk 2 0 0 0 0 (c.tok s.next).text [] (c.tok s.next).pos,s.inc):=by rw[one_,if_pos h3]
  have e2:c.name s=((c.tok s.next).text,s.inc):=by unfold PC.name;rw[hn,if_pos h3]
  rw[e1]
  refine c9.use (iG hc hl (fQ hF1)) (fun v K I2 G l2 hL hv hG=>.inl ?_) fun f e I2 G l2 hd hf=>.inr ?_
  ·obtain⟨rfl,rfl⟩:=hv
   rw[e2] at hL hG ⊢
   exact⟨_,rfl,_,up hG,.leaf hL rfl rfl (.refl _)⟩
  ·rw[e2] at hd
   exact dc.dy [_,_] hf fun e' G' hf'=>.inr ⟨f,hd,hf'⟩
 have h3:(c.tok s.next).kind≠2:=by simpa using h3
 rw[if_neg h3] at one_
 intro b1 I3 l3 hb1
 refine cX.ret (gE hl (hp1 _ _) (words (ws:=ia) hb1 rfl) (by decide)) fun I4 l4=>⟨_,rfl,F1,.refl _,fun h4=>?_,fun h4=>?_⟩
 ·have h4:0≤c.any ia s:=of_decide_eq_true h4
  have hlt:c.any ia s<6:=(dt h4).2
  rw[one_,if_pos h4]
  refine c9.use (dQ hc hl (gG hl h4) (fQ hF1)) (fun v K I5 G l5 hL hv hG=>.inl ?_) fun f e I5 G l5 hd hf=>.inr (dc.dy [_,_] hf fun e' G' hf'=>.inr ⟨f,hd,hf'⟩)
  obtain⟨rfl,rfl⟩:=hv
  refine⟨rfl,_,up hG,.leaf hL rfl ?_ (.refl _)⟩
  rw[w8 (n:=c.any ia s) (by omega),w8 (n:=1+c.any ia s) (by omega),Int.add_comm 1];rfl
 have h4:¬0≤c.any ia s:=of_decide_eq_false h4
 rw[if_neg h4] at one_
 have pass:∀{r:Px×PS} {g:Nat} {args:Array Value} {I5:cS} {X Y:Nat×Obj} {H1:cR} {Q':Ending→cS→cR→Prop},cX P g args I5 H1 (c9 c t b nW (X::Y::F0) r) →
   (∀(n:Nd) (I6:cS) (G F8:cR),G.Perm (X::Y::F8)→c9 c t b nW F0 r (.returned n.v) I6 F8→Q' (.returned n.v) I6 G)→(∀(f:PF) (e:Ending) (I6:cS) (G:cR),c.dq f r.2→dc f ([X,Y]++F0) e G→Q' e I6 G)→cX P g args I5 H1 Q':=fun h k1 k2 =>
  c9.use h (fun v K I6 G l6 hL hv hG=>by
   obtain⟨n,rfl,hv⟩:=hv
   exact k1 n I6 G _ (up hG) (.inl ⟨hL,_,K,rfl,⟨n,rfl,hv⟩,.refl _⟩)) fun f e I6 G l6 hd hf=>k2 f e I6 G hd hf
 intro b2 I6 l6 hb2
 refine cX.ret (gE hl (hp1 _ _) (words (ws:=iL) hb2 rfl) (by decide)) fun I7 l7=>⟨_,rfl,F1,.refl _,fun h5=>?_,fun h5=>?_⟩
 ·have h5:0≤c.any iL s:=of_decide_eq_true h5
  have hlt:c.any iL s<4:=(dt h5).2
  have h6:c.any fM s<0:=zN (by kernel_rfl:B3 iL fM=true) h5
  rw[one_,if_neg (by omega),if_pos h5]
  have hw:IntKind.wrap .u8 (1+IntKind.wrap .u8 (c.any iL s))=1+c.any iL s:=by rw[w8 (n:=c.any iL s) (by omega),w8 (by omega)]
  rw[hw]
  exact pass (py hc hl (gG hl h5) h0 h1 hx hkp 9 0 (1+c.any iL s) 0 1 (by decide) (fQ hF1)) (fun n I8 G F8 hG hD=>.inl ⟨_,_,_,_,_,_,_,_,_,_,rfl,F8,hG,hD⟩) fun f e I8 G hd hf=>.inr (dc.dy [_,_] hf fun e' G' hf'=>.inr ⟨f,hd,hf'⟩)
 have h5:¬0≤c.any iL s:=of_decide_eq_false h5
 rw[if_neg h5] at one_
 intro b3 I9 l9 hb3
 obtain⟨a1,a2⟩:=CJ (c:=c) (s:=s)
 refine cX.ret (gE hl (hp1 _ _) (words (ws:=wH) hb3 rfl) (by decide)) fun I10 l10=>⟨_,rfl,F1,.refl _, ?_⟩
 by_cases hcall:0≤c.any fM s
 ·have hlt:c.any fM s<3:=(dt hcall).2
  rw[a1 hcall,one_,if_pos hcall]
  have hkd:=gG hl hcall
  refine⟨fun h6=>?_,fun h6=>⟨fun h7=>?_,fun h7=>⟨fun h8=>?_,fun h8=>?_⟩⟩⟩
  ·have h6:c.any fM s=0:=by simpa using h6
   rw[h6,if_pos rfl]
   exact pass (py hc hl hkd h0 h1 hx hkp 8 3 0 0 1 (by decide) (fQ hF1)) (fun n I8 G F8 hG hD=>.inl ⟨_,_,_,_,_,_,_,_,_,_,rfl,F8,hG,hD⟩) fun f e I8 G hd hf=>.inr (dc.dy [_,_] hf fun e' G' hf'=>.inr ⟨f,hd,hf'⟩)
  ·have h7:c.any fM s=1:=by simpa using h7
   rw[h7,if_neg (by decide)]
   exact pass (py hc hl hkd h0 h1 hx hkp 8 4 0 0 2 (by decide) (fQ hF1)) (fun n I8 G F8 hG hD=>.inl ⟨_,_,_,_,_,_,_,_,_,_,rfl,F8,hG,hD⟩) fun f e I8 G hd hf=>.inr (dc.dy [_,_] hf fun e' G' hf'=>.inr ⟨f,hd,hf'⟩)
  ·have h8:c.any fM s=2:=by simpa using h8
   rw[h8,if_neg (by decide)]
   exact pass (py hc hl hkd h0 h1 hx hkp 8 5 0 0 2 (by decide) (fQ hF1)) (fun n I8 G F8 hG hD=>.inl ⟨_,_,_,_,_,_,_,_,_,_,rfl,F8,hG,hD⟩) fun f e I8 G hd hf=>.inr (dc.dy [_,_] hf fun e' G' hf'=>.inr ⟨f,hd,hf'⟩)
  ·have h6:c.any fM s≠0:=by simpa using h6
   have h7:c.any fM s≠1:=by simpa using h7
   have h8:c.any fM s≠2:=by simpa using h8
   omega
 rw[if_neg hcall] at one_
 rw[a2 (by omega),one_]
 unfold PC.rest
 have isk:∀{w:ByteArray},c.dH w s=true→(c.tok s.next).kind≠0:=fun h hk=>by
  unfold PC.dH at h;rw[hn,hk] at h;simp at h
 by_cases hhas:c.dH (⟨#[104,97,115]⟩:ByteArray) s=true
 ·rw[if_pos hhas,if_pos hhas]
  refine⟨fun h=>absurd h (by decide),fun _=>⟨fun h=>absurd h (by decide),fun _=>⟨fun h=>absurd h (by decide),fun _=>⟨fun _=>?_,fun h=>absurd h (by decide)⟩⟩⟩⟩
  have hst:∀(x:Px),(if c.any [(⟨#[98,105,100]⟩:ByteArray),(⟨#[97,115,107]⟩:ByteArray),(⟨#[108,97,115,116]⟩:ByteArray)] s.inc<0 then (dZ,c.cV 130 s.inc) else (x,s.inc.inc):Px×PS).2=(c.oneOf [(⟨#[98,105,100]⟩:ByteArray),(⟨#[97,115,107]⟩:ByteArray),(⟨#[108,97,115,116]⟩:ByteArray)] s.inc).2:=fun x=>by
   unfold PC.oneOf;split<;>rfl
  refine c9.use (dQ hc hl (isk hhas) (fQ hF1)) (fun v K I5 G l5 hL hv hG=>.inl ?_) fun f e I5 G l5 hd hf=>.inr (dc.dy [_,_] hf fun e' G' hf'=>.inr ⟨f, ?_,hf'⟩)
  rotate_left
  ·rw[hst,PC.oneOf,hd.any,if_pos (by decide)];exact hd.cV _
  obtain⟨rfl,rfl⟩:=hv
  refine⟨rfl,_,up hG,fun b4 I8 l8 hb4=>?_⟩
  refine c9.use (oG hc hL (words (ws:=[(⟨#[98,105,100]⟩:ByteArray),(⟨#[97,115,107]⟩:ByteArray),(⟨#[108,97,115,116]⟩:ByteArray)]) hb4 rfl) (by decide) (fQ (.refl _))) (fun v K I9 G l9 hL9 hv hG=>.inl ?_) fun f e I9 G l9 hd hf=>.inr (dc.dy [_,_] hf fun e' G' hf'=>.inr ⟨f,by rw[hst];exact hd,hf'⟩)
  obtain⟨rfl,rfl⟩:=hv
  have hge:¬c.any [(⟨#[98,105,100]⟩:ByteArray),(⟨#[97,115,107]⟩:ByteArray),(⟨#[108,97,115,116]⟩:ByteArray)] s.inc<0:=fun hlt=>by
   have:(c.oneOf [(⟨#[98,105,100]⟩:ByteArray),(⟨#[97,115,107]⟩:ByteArray),(⟨#[108,97,115,116]⟩:ByteArray)] s.inc).2=c.cV 130 s.inc:=if_pos hlt
   rw[this] at hL9
   exact (hL.cV (e:=130) (by decide)).2.live hL9
  have hlt:c.any [(⟨#[98,105,100]⟩:ByteArray),(⟨#[97,115,107]⟩:ByteArray),(⟨#[108,97,115,116]⟩:ByteArray)] s.inc<3:=(dt (Int.not_lt.1 hge)).2
  have e2:(c.oneOf [(⟨#[98,105,100]⟩:ByteArray),(⟨#[97,115,107]⟩:ByteArray),(⟨#[108,97,115,116]⟩:ByteArray)] s.inc).2=s.inc.inc:=if_neg hge
  rw[e2] at hL9 hG
  rw[if_neg hge]
  refine⟨_,rfl,_,up hG,.leaf hL9 (by rw[hn]) ?_ (.refl _)⟩
  show _=Ending.returned (Value.agg #[_,_,_,_,.int .u8 (c.any [(⟨#[98,105,100]⟩:ByteArray),(⟨#[97,115,107]⟩:ByteArray),(⟨#[108,97,115,116]⟩:ByteArray)] s.inc+1),_,_,_])
  show Ending.returned (Value.agg #[_,_,_,_,.int .u8 (IntKind.wrap .u8 (1+IntKind.wrap .u8 (c.any [(⟨#[98,105,100]⟩:ByteArray),(⟨#[97,115,107]⟩:ByteArray),(⟨#[108,97,115,116]⟩:ByteArray)] s.inc))),_,_,_])=_
  rw[w8 (n:=c.any [(⟨#[98,105,100]⟩:ByteArray),(⟨#[97,115,107]⟩:ByteArray),(⟨#[108,97,115,116]⟩:ByteArray)] s.inc) (by omega),w8 (n:=1+c.any [(⟨#[98,105,100]⟩:ByteArray),(⟨#[97,115,107]⟩:ByteArray),(⟨#[108,97,115,116]⟩:ByteArray)] s.inc) (by omega),Int.add_comm 1];rfl
 have hhas:c.dH (⟨#[104,97,115]⟩:ByteArray) s=false:=by simpa using hhas
 have ff:¬(false=true):=by decide
 rw[hhas,if_neg ff,if_neg ff]
 by_cases hop:c.dH (⟨#[40]⟩:ByteArray) s=true
 ·rw[if_pos hop,if_pos hop]
  refine⟨fun h=>absurd h (by decide),fun _=>⟨fun h=>absurd h (by decide),fun _=>⟨fun h=>absurd h (by decide),fun _=>⟨fun h=>absurd h (by decide),fun _=>⟨fun _=>?_,fun h=>absurd h (by decide)⟩⟩⟩⟩⟩
  refine (lU (hp1 _ _) h0 h1).mono fun e I5 G l5 hd=>?_
  rcases hd with ⟨hlt,rfl,rfl⟩ | ⟨rfl,hf⟩
  rotate_left
  ·rw[(ke hl).1,if_pos rfl]
   exact .inr (dc.dy [_,_] (hf.perm (F1:=[_,_]++F1) (.refl _) (.refl _)) fun e' G' hf'=>.inr ⟨_,(ke hl).2,hf'.tail hF1⟩)
  rw[oI hlt,hl.1,if_neg (by simp)]
  refine .inl ⟨_,rfl,F1,.refl _, ?_⟩
  refine c9.use (dQ hc hl (isk hop) (fQ hF1)) (fun v K I6 G l6 hL hv hG=>.inl ?_) fun f e I6 G l6 hd hf=>.inr (dc.dy [_,_] hf fun e' G' hf'=>.inr ⟨f,(hkp f _ hd).take _,hf'⟩)
  obtain⟨rfl,rfl⟩:=hv
  refine⟨rfl,_,up hG, ?_⟩
  refine c9.use (hx hlt b s.inc I6 _ _ hL (fQ (.refl _))) (fun v K I7 G l7 hL7 hv hG=>.inl ?_) fun f e I7 G l7 hd hf=>.inr (dc.dy [_,_] hf fun e' G' hf'=>.inr ⟨f,hd.take _,hf'⟩)
  obtain⟨n7,rfl,hpx7,hO7⟩:=hv
  refine⟨_,_,_,_,_,_,_,_,_,_,rfl,_,up hG,fun bn1 b5 I8 l8 hb5=>?_⟩
  refine c9.use (ej hc hL7 hb5 (F0:=_::_::_::(K++F0)) (sN (.refl _))) (fun v L I9 G l9 hL9 hv hG=>.inl ?_) fun f e I9 G l9 hd hf=>.inr (dc.dy [_,_,_] hf fun e' G' hf'=>.inr ⟨f,hd,hf'.more⟩)
  obtain⟨⟨i9,rfl⟩,rfl⟩:=hv
  exact⟨_,rfl,c.px t b (c.take (⟨#[41]⟩:ByteArray) (nx.ex s.inc).2).2::(K++F0),hG.trans (cU fun z=>by simp only[cW,cY,c6];omega),.inl ⟨hL9,_,K,rfl,⟨n7,rfl,hpx7,hO7⟩,.refl _⟩⟩
 have hop:c.dH (⟨#[40]⟩:ByteArray) s=false:=by simpa using hop
 rw[hop,if_neg ff,if_neg ff]
 refine⟨fun h=>absurd h (by decide),fun _=>⟨fun h=>absurd h (by decide),fun _=>⟨fun h=>absurd h (by decide),fun _=>⟨fun h=>absurd h (by decide),fun _=>⟨fun h=>absurd h (by decide),fun _=>?_⟩⟩⟩⟩⟩
 refine (fa (hp1 _ _) 130).mono fun e I5 G l5 hf=>.inr ?_
 exact dc.dy [_,_] (hf.perm (F1:=[_,_]++F1) (.refl _) (.refl _)) fun e' G' hf'=>.inr ⟨_,(hl.cV (by decide)).2,hf'.tail hF1⟩
end
end Go.Lx
namespace Go.Lx
open Go.Vc
theorem ef.two{x y:Nd}{H K:cR}{b1:Nat}{k o ty n f p:Int}{w:ByteArray}(hx:ef 29 false x H)(hy:ef 29 false y K) :
  ef 29 false (.mk k o ty n f w (some ⟨b1,0,none⟩) 2 [x,y] p) ((b1,.cells (x.enc++y.enc).toArray 29 (0,0))::(H++(K++[]))) :=
 .mk (t:=.mk k o ty n f w (some ⟨b1,0,none⟩) 2 [x,y] p) (A:=[(b1,.cells (x.enc++y.enc).toArray 29 (0,0))]) (hs:=fun i=>if i=0 then H else K)
  ⟨rfl,.inr ⟨b1,_,rfl,rfl,rfl,Nat.le_refl _,by simp[Nd.kids]⟩⟩ (fun h=>by cases h) fun i z h=>by
    match i,h with
    | 0,h=>cases h;exact hx
    | 1,h=>cases h;exact hy
theorem ef.C7{x:Nd}{H:cR}{b1:Nat}{k o ty n f p:Int}{w:ByteArray}(hx:ef 29 false x H) :
  ef 29 false (.mk k o ty n f w (some ⟨b1,0,none⟩) 1 [x] p) ((b1,.cells x.enc.toArray 29 (0,0))::(H++[])) :=
 .mk (t:=.mk k o ty n f w (some ⟨b1,0,none⟩) 1 [x] p) (A:=[(b1,.cells x.enc.toArray 29 (0,0))]) (hs:=fun i=>H)
  ⟨rfl,.inr ⟨b1,_,rfl,rfl,rfl,Nat.le_refl _,by simp[Nd.kids]⟩⟩ (fun h=>by cases h) fun i z h=>by
    match i,h with
    | 0,h=>cases h;exact hx
theorem ef.three{x y z:Nd}{H K L:cR}{b1:Nat}{k o ty n f p:Int}{w:ByteArray}(hx:ef 29 false x H)(hy:ef 29 false y K)(hz:ef 29 false z L) :
  ef 29 false (.mk k o ty n f w (some ⟨b1,0,none⟩) 3 [x,y,z] p) ((b1,.cells (x.enc++(y.enc++z.enc)).toArray 29 (0,0))::(H++(K++(L++[])))) :=
 .mk (t:=.mk k o ty n f w (some ⟨b1,0,none⟩) 3 [x,y,z] p) (A:=[(b1,.cells (x.enc++(y.enc++z.enc)).toArray 29 (0,0))]) (hs:=fun i=>if i=0 then H else if i=1 then K else L)
  ⟨rfl,.inr ⟨b1,_,rfl,rfl,rfl,Nat.le_refl _,by simp[Nd.kids]⟩⟩ (fun h=>by cases h) fun i u h=>by
    match i,h with
    | 0,h=>cases h;exact hx
    | 1,h=>cases h;exact hy
    | 2,h=>cases h;exact hz
def gA(c:PC)(l:Int)(sub:PS→Px×PS)(res:Px×PS)(many:Int)(fuel:Nat)(x:Px)(s:PS):Prop :=
 res=if l=4 then (if many=0 then (if c.any gY s<0 then (x,s) else (ib (11+c.any gY s) (c.now s).pos x (sub s.inc).1,(sub s.inc).2)) else (x,s)) else c.dA (pw l) (xD l) sub fuel x s
section
variable {c:PC} {t:ByteArray} {l:Int} {sub:PS→Px×PS} {res:Px×PS} {many:Int} {fuel:Nat} {x:Px} {s:PS}
theorem sQ(h:0≤c.any (pw l) s):c.any (pw l) s<6:=by
 have h1:=(dt h).2
 have:(pw l).length≤6:=by unfold pw;repeat' split<;>try decide
 omega
theorem sR(l:Int):0≤xD l∧xD l≤18:=by unfold xD;repeat' split<;>try decide
theorem gA.stop(h:gA c l sub res many fuel x s)(hs:c.any (pw l) s<0∨(l=4∧many≠0)):res=(x,s):=by
 unfold gA at h
 by_cases h4:l=4
 ·subst h4
  rw[if_pos rfl] at h
  by_cases hm:many=0
  ·rw[if_pos hm] at h
   have hs:c.any gY s<0:=hs.resolve_right fun h=>h.2 hm
   rw[if_pos hs] at h;exact h
  ·rw[if_neg hm] at h;exact h
 ·rw[if_neg h4] at h
  have hs:=hs.resolve_right fun h=>h4 h.1
  cases fuel with
  | zero=>exact h
  | succ n=>rw[PC.dA,if_pos hs] at h;exact h
theorem gA.next(h:gA c l sub res many fuel x s)(hm:l≠4∨many=0)(ha:0≤c.any (pw l) s)(h0:0≤many)(hf:0<fuel):gA c l sub res (many+1) (fuel-1) (ib (xD l+c.any (pw l) s) (c.now s).pos x (sub s.inc).1) (sub s.inc).2:=by
 unfold gA at h ⊢
 by_cases h4:l=4
 ·subst h4
  have hm:=hm.resolve_left fun h=>h rfl
  rw[if_pos rfl,if_pos hm,if_neg (Int.not_lt.2 (show 0≤c.any gY s from ha))] at h
  rw[if_pos rfl,if_neg (by omega)];exact h
 ·rw[if_neg h4] at h ⊢
  obtain⟨n,rfl⟩:∃n,fuel=n+1:=⟨fuel-1,by omega⟩
  rw[PC.dA,if_neg (Int.not_lt.2 ha)] at h;exact h
theorem gA.dead(h:gA c l sub res many fuel x s)(hk:∀f,Kp c f sub)(hm:many≠0){f:PF}(hd:c.dq f s):c.dq f res.2:=by
 unfold gA at h
 rw[h]
 split
 ·exact hd
 ·exact Kp.dA _ _ _ hd
def PC.uw(c:PC)(l:Int)(sub:PS→Px×PS)(s:PS):Px×PS :=
 if l=4 then (if c.any gY (sub s).2<0 then sub s else (ib (11+c.any gY (sub s).2) (c.now (sub s).2).pos (sub s).1 (sub (sub s).2.inc).1,(sub (sub s).2.inc).2)) else c.loop (pw l) (xD l) sub s
theorem gA.start(c:PC)(l:Int)(sub:PS→Px×PS)(s:PS):gA c l sub (c.uw l sub s) 0 c.l.length (sub s).1 (sub s).2:=by
 unfold gA PC.uw
 split
 ·rw[if_pos rfl]
 ·rfl
theorem rM(hk:∀f,Kp c f sub){f:PF}(hd:c.dq f (sub s).2):c.dq f (c.uw l sub s).2:=by
 unfold PC.uw
 split
 ·rw[hd.any,if_pos (by decide)];exact hd
 ·exact Kp.dA _ _ _ hd
def sS(c:PC)(t:ByteArray)(l d:Int)(g:PS→Px×PS):Prop:=∀(b:Nat) (s:PS) (I:cS) (F F0:cR),c.Live s→F.Perm (c.px t b s::F0)→cX P 20 #[.pointer (some ⟨b,0,none⟩),.int .i64 l,.int .i64 d] I F (c9 c t b nW F0 (g s))
theorem sT{d:Int}{g:PS→Px×PS}(hl2:0≤l∧l≤10)(hr:sS c t (l+1) d g){b bp bl:Nat}{tp tl:Nat}{s:PS}{I:cS}{F F0:cR}(hl:c.Live s)(hp:(bp,Obj.cells #[.pointer (some ⟨b,0,none⟩)] tp (0,0))∈F)(hb:(bl,Obj.cells #[.int .i64 l] tl (0,0))∈F)(hF:F.Perm (c.px t b s::F0)) :
  cX P 39 #[.int .i64 d,.pointer (some ⟨bp,0,none⟩),.pointer (some ⟨bl,0,none⟩)] I F (c9 c t b nW F0 (g s)):=by
 refine fH.vc ?_
 unfold fH.V
 intro b0
 refine⟨_,wE (.tail _ hp),_,wE (.tail _ hb), ?_⟩
 rw[jD (n:=l+1) (by omega)]
 refine c9.use (hr b s I _ _ hl (sM hF)) (fun v K I6 G l6 hL hv hG=>.inl ?_) fun f e I6 G l6 hd hf=>.inr (dc.dy [_] hf fun e' G' hf'=>.inr ⟨f,hd,hf'⟩)
 obtain⟨n,rfl,hv⟩:=hv
 exact⟨_,_,_,_,_,_,_,_,_,_,rfl,c.px t b (g s).2::(K++F0),hG.trans (cU fun z=>by simp only[cW,cY,c6];omega),.inl ⟨hL,_,K,rfl,⟨n,rfl,hv⟩,.refl _⟩⟩
theorem qF(hc:c.Of t){d:Int}(hl6:2≤l∧l≤6)(hMo:dN c sub)(hKp:∀f,Kp c f sub)(hs1:l<6→sS c t (l+1) d sub)(hs2:l=6→vC c t 38 d sub):sS c t l d (c.uw l sub):=by
 intro b s I F F0 hl hF
 refine gu.vc (fun many bp bl n0 n1 n2 n3 n4 n5 a n k n7 m I' F'=>bp=some ⟨b,0,none⟩∧l=bl∧0≤many∧∃(x:Nd) (H:cR) (si:PS) (fuel:Nat),n0=x.kind∧n1=x.oper∧n2=x.dU∧n3=x.n∧n4=x.field∧n5=x.name∧a=x.a∧n=x.kids.length∧k=x.c∧n7=x.pos∧ef 29 false x H∧c.Live si ∧
  many≤si.next∧gA c l sub (c.uw l sub s) many fuel x.px si∧c.l.length≤fuel+si.next∧m=c.l.length-si.next∧F'.Perm (c.px t b si::(H++F0))) ?_
 unfold gu.V
 intro b_p b_l b0
 refine⟨fun hlt=>?_,fun hlt=>?_⟩
 ·have hlt:=of_decide_eq_true hlt
  refine (uu l I _).mono fun e I1 G l1 ⟨wa,wn,wk,he,hS,hn9,hG⟩=>?_
  subst he hG
  refine⟨_,_,_,_,rfl,F,.refl _, ?_⟩
  refine c9.use (sT (by omega) (hs1 hlt) hl (.head _) (.tail _ (.head _)) (sN hF)) (fun v K I2 G l2 hL hv hG=>.inl ?_) fun f e I2 G l2 hd hf=>.inr ?_
  rotate_left
  ·obtain⟨ch,he,F2,hG2,hD⟩:=dc.dy (I:=I2) (Q:=c9 c t b nW F0 (c.uw l sub s)) [_,_,_] hf fun e' G' hf'=>.inr ⟨f,rM hKp hd,hf'⟩
   exact⟨ch,he,_,_,F2,hG2,hD⟩
  obtain⟨x0,rfl,hpx0,hO0⟩:=hv
  have hRs:=gA.start c l sub s
  rw[←hpx0] at hRs
  refine⟨_,_,_,_,_,_,_,_,_,_,rfl,_,_,c.px t b (sub s).2::(K++F0),hG.trans (cU fun z=>by simp only[cW,cY,c6];omega),fun b_n=>⟨⟨_,rfl,rfl,Int.le_refl 0,x0,K,(sub s).2,c.l.length,rfl,rfl,rfl,rfl,rfl,rfl,rfl,rfl,rfl,rfl,hO0,hL,by omega,hRs,by omega,rfl,.refl _⟩, ?_⟩⟩
  intro many bp bl n0 n1 n2 n3 n4 n5 a n k n7 m I3 F3 l3 ⟨gp,gl,g0,x,H,si,fuel,e0,e1,e2,e3,e4,e5,ea,en,ek,e7,hO,hLi,hmn,hR,hfu,gm,hFi⟩
  subst gp gl e0 e1 e2 e3 e4 e5 ea en ek e7 gm
  have lS:=l2
  refine⟨fun h4=>?_,fun h4=>⟨fun hm0=>?_,fun hm0=>?_⟩⟩
  ·have h4:l≠4:=by simpa using h4
   refine cX.ret (gE hLi (dO.of (uF hFi)) (hS.mono (cS.le_trans lS l3)) hn9) fun I4 l4=>⟨_,rfl,F3,.refl _,fun h=>?_,fun h=>?_⟩
   ·have h:=of_decide_eq_true h
    have e1:=hR.stop (.inl h)
    exact .inl ⟨by rw[e1];exact hLi,_,H,rfl,⟨x,rfl,by rw[e1],hO⟩,by rw[e1];exact hFi⟩
   ·have h:0≤c.any (pw l) si:=by have:=of_decide_eq_false h;omega
    have haw:=sQ h
    have hkd:=gG hLi h
    have hR2:=hR.next (.inl h4) h g0 (show 0<fuel by have:=hLi.2;omega)
    refine⟨_,rfl,_,(dO.of (I:=I4) (uF hFi)).rd.dE (p:=1) (q:=4) rfl, ?_⟩
    refine c9.use (dQ hc hLi hkd (uF hFi)) (fun v K I5 G l5 hL5 hv hG=>.inl ?_) fun f e I5 G l5 hd hf=>.inr (dc.dy [_,_,_,_] hf fun e' G' hf'=>.inr ⟨f,hR2.dead hKp (by omega) (hKp _ _ hd),hf'.more⟩)
    obtain⟨rfl,rfl⟩:=hv
    refine⟨rfl,c.px t b si.inc::(H++F0),hG.trans (cU fun z=>by simp only[cW,cY,c6];omega), ?_⟩
    refine c9.use (sT (F0:=_::_::_::_::(H++F0)) (by omega) (hs1 hlt) hL5 (.head _) (.tail _ (.head _)) (uF (.refl _))) (fun v K I6 G l6 hL6 hv hG=>.inl ?_) fun f e I6 G l6 hd hf=>.inr (dc.dy [_,_,_,_] hf fun e' G' hf'=>.inr ⟨f,hR2.dead hKp (by omega) hd,hf'.more⟩)
    obtain⟨kn,rfl,hpx,hOk⟩:=hv
    have hup:=hMo si.inc
    have hnx:si.inc.next=si.next+1:=rfl
    refine⟨_,_,_,_,_,_,_,_,_,_,rfl,c.px t b (sub si.inc).2::(K++(H++F0)),hG.trans (cU fun z=>by simp only[cW,cY,c6];omega),fun b1=>⟨c.l.length-(sub si.inc).2.next, ?_,rfl,rfl, ?_,.mk 6 (xD l+c.any (pw l) si) 0 0 0 ⟨#[]⟩ (some ⟨b1,0,none⟩) 2 [x,kn] (c.tok si.next).pos,(b1,.cells (x.enc++kn.enc).toArray 29 (0,0))::(H++(K++[])),(sub si.inc).2,fuel-1,rfl, ?_,rfl,rfl,rfl,rfl,rfl,rfl,rfl,rfl,ef.two hO hOk,hL6, ?_, ?_, ?_,rfl, ?_⟩⟩
    ·have:=hLi.2;have:=hup.1;omega
    ·rw[jD (n:=many+1) (by have:=hLi.2;have:=hc.oo;omega)];omega
    ·have:=sR l;rw[w8 (n:=c.any (pw l) si) (by omega),w8 (by omega)];rfl
    ·rw[jD (n:=many+1) (by have:=hLi.2;have:=hc.oo;omega)];have:=hup.1;omega
    ·rw[jD (n:=many+1) (by have:=hLi.2;have:=hc.oo;omega),hLi.now] at *
     simp only[Nd.px,Nd.tU,hpx];exact hR2
    ·have:=hup.1;omega
    ·show List.Perm ((b1,Obj.cells (x.enc++kn.enc).toArray 29 (0,0))::_) _
     exact cU fun z=>by simp only[cW,cY,c6];omega
  ·have h4:l=4:=by simpa using h4
   have hm0:many=0:=by simpa using hm0
   refine cX.ret (gE hLi (dO.of (uF hFi)) (hS.mono (cS.le_trans lS l3)) hn9) fun I4 l4=>⟨_,rfl,F3,.refl _,fun h=>?_,fun h=>?_⟩
   ·have h:=of_decide_eq_true h
    have e1:=hR.stop (.inl h)
    exact .inl ⟨by rw[e1];exact hLi,_,H,rfl,⟨x,rfl,by rw[e1],hO⟩,by rw[e1];exact hFi⟩
   ·have h:0≤c.any (pw l) si:=by have:=of_decide_eq_false h;omega
    have haw:=sQ h
    have hkd:=gG hLi h
    have hR2:=hR.next (.inr hm0) h g0 (show 0<fuel by have:=hLi.2;omega)
    refine⟨_,rfl,_,(dO.of (I:=I4) (uF hFi)).rd.dE (p:=1) (q:=4) rfl, ?_⟩
    refine c9.use (dQ hc hLi hkd (uF hFi)) (fun v K I5 G l5 hL5 hv hG=>.inl ?_) fun f e I5 G l5 hd hf=>.inr (dc.dy [_,_,_,_] hf fun e' G' hf'=>.inr ⟨f,hR2.dead hKp (by omega) (hKp _ _ hd),hf'.more⟩)
    obtain⟨rfl,rfl⟩:=hv
    refine⟨rfl,c.px t b si.inc::(H++F0),hG.trans (cU fun z=>by simp only[cW,cY,c6];omega), ?_⟩
    refine c9.use (sT (F0:=_::_::_::_::(H++F0)) (by omega) (hs1 hlt) hL5 (.head _) (.tail _ (.head _)) (uF (.refl _))) (fun v K I6 G l6 hL6 hv hG=>.inl ?_) fun f e I6 G l6 hd hf=>.inr (dc.dy [_,_,_,_] hf fun e' G' hf'=>.inr ⟨f,hR2.dead hKp (by omega) hd,hf'.more⟩)
    obtain⟨kn,rfl,hpx,hOk⟩:=hv
    have hup:=hMo si.inc
    have hnx:si.inc.next=si.next+1:=rfl
    refine⟨_,_,_,_,_,_,_,_,_,_,rfl,c.px t b (sub si.inc).2::(K++(H++F0)),hG.trans (cU fun z=>by simp only[cW,cY,c6];omega),fun b1=>⟨c.l.length-(sub si.inc).2.next, ?_,rfl,rfl, ?_,.mk 6 (xD l+c.any (pw l) si) 0 0 0 ⟨#[]⟩ (some ⟨b1,0,none⟩) 2 [x,kn] (c.tok si.next).pos,(b1,.cells (x.enc++kn.enc).toArray 29 (0,0))::(H++(K++[])),(sub si.inc).2,fuel-1,rfl, ?_,rfl,rfl,rfl,rfl,rfl,rfl,rfl,rfl,ef.two hO hOk,hL6, ?_, ?_, ?_,rfl, ?_⟩⟩
    ·have:=hLi.2;have:=hup.1;omega
    ·rw[jD (n:=many+1) (by have:=hLi.2;have:=hc.oo;omega)];omega
    ·have:=sR l;rw[w8 (n:=c.any (pw l) si) (by omega),w8 (by omega)];rfl
    ·rw[jD (n:=many+1) (by have:=hLi.2;have:=hc.oo;omega)];have:=hup.1;omega
    ·rw[jD (n:=many+1) (by have:=hLi.2;have:=hc.oo;omega),hLi.now] at *
     simp only[Nd.px,Nd.tU,hpx];exact hR2
    ·have:=hup.1;omega
    ·show List.Perm ((b1,Obj.cells (x.enc++kn.enc).toArray 29 (0,0))::_) _
     exact cU fun z=>by simp only[cW,cY,c6];omega
  ·have h4:l=4:=by simpa using h4
   have hm0:many≠0:=by simpa using hm0
   have e1:=hR.stop (.inr ⟨h4,hm0⟩)
   exact .inl ⟨by rw[e1];exact hLi,_,H,rfl,⟨x,rfl,by rw[e1],hO⟩,by rw[e1];exact hFi⟩
 ·have h6:l=6:=by have:=of_decide_eq_false hlt;omega
  refine (uu l I _).mono fun e I1 G l1 ⟨wa,wn,wk,he,hS,hn9,hG⟩=>?_
  subst he hG
  refine⟨_,_,_,_,rfl,F,.refl _, ?_⟩
  refine c9.use (hs2 h6 b s I1 _ _ hl (sN hF)) (fun v K I2 G l2 hL hv hG=>.inl ?_) fun f e I2 G l2 hd hf=>.inr ?_
  rotate_left
  ·obtain⟨ch,he,F2,hG2,hD⟩:=dc.dy (I:=I2) (Q:=c9 c t b nW F0 (c.uw l sub s)) [_,_,_] hf fun e' G' hf'=>.inr ⟨f,rM hKp hd,hf'⟩
   exact⟨ch,he,F2,hG2,hD⟩
  obtain⟨x0,rfl,hpx0,hO0⟩:=hv
  have hRs:=gA.start c l sub s
  rw[←hpx0] at hRs
  refine⟨_,_,_,_,_,_,_,_,_,_,rfl,c.px t b (sub s).2::(K++F0),hG.trans (cU fun z=>by simp only[cW,cY,c6];omega),fun b_n=>⟨⟨_,rfl,rfl,Int.le_refl 0,x0,K,(sub s).2,c.l.length,rfl,rfl,rfl,rfl,rfl,rfl,rfl,rfl,rfl,rfl,hO0,hL,by omega,hRs,by omega,rfl,.refl _⟩, ?_⟩⟩
  intro many bp bl n0 n1 n2 n3 n4 n5 a n k n7 m I3 F3 l3 ⟨gp,gl,g0,x,H,si,fuel,e0,e1,e2,e3,e4,e5,ea,en,ek,e7,hO,hLi,hmn,hR,hfu,gm,hFi⟩
  subst gp gl e0 e1 e2 e3 e4 e5 ea en ek e7 gm
  have lS:=l2
  refine⟨fun h4=>?_,fun h4=>⟨fun hm0=>?_,fun hm0=>?_⟩⟩
  ·have h4:l≠4:=by simpa using h4
   refine cX.ret (gE hLi (dO.of (uF hFi)) (hS.mono (cS.le_trans lS l3)) hn9) fun I4 l4=>⟨_,rfl,F3,.refl _,fun h=>?_,fun h=>?_⟩
   ·have h:=of_decide_eq_true h
    have e1:=hR.stop (.inl h)
    exact .inl ⟨by rw[e1];exact hLi,_,H,rfl,⟨x,rfl,by rw[e1],hO⟩,by rw[e1];exact hFi⟩
   ·have h:0≤c.any (pw l) si:=by have:=of_decide_eq_false h;omega
    have haw:=sQ h
    have hkd:=gG hLi h
    have hR2:=hR.next (.inl h4) h g0 (show 0<fuel by have:=hLi.2;omega)
    refine⟨_,rfl,_,(dO.of (I:=I4) (uF hFi)).rd.dE (p:=1) (q:=4) rfl, ?_⟩
    refine c9.use (dQ hc hLi hkd (uF hFi)) (fun v K I5 G l5 hL5 hv hG=>.inl ?_) fun f e I5 G l5 hd hf=>.inr (dc.dy [_,_,_,_] hf fun e' G' hf'=>.inr ⟨f,hR2.dead hKp (by omega) (hKp _ _ hd),hf'.more⟩)
    obtain⟨rfl,rfl⟩:=hv
    refine⟨rfl,c.px t b si.inc::(H++F0),hG.trans (cU fun z=>by simp only[cW,cY,c6];omega), ?_⟩
    refine c9.use (hs2 h6 b si.inc I5 _ (_::_::_::_::(H++F0)) hL5 (uF (.refl _))) (fun v K I6 G l6 hL6 hv hG=>.inl ?_) fun f e I6 G l6 hd hf=>.inr (dc.dy [_,_,_,_] hf fun e' G' hf'=>.inr ⟨f,hR2.dead hKp (by omega) hd,hf'.more⟩)
    obtain⟨kn,rfl,hpx,hOk⟩:=hv
    have hup:=hMo si.inc
    have hnx:si.inc.next=si.next+1:=rfl
    refine⟨_,_,_,_,_,_,_,_,_,_,rfl,c.px t b (sub si.inc).2::(K++(H++F0)),hG.trans (cU fun z=>by simp only[cW,cY,c6];omega),fun b1=>⟨c.l.length-(sub si.inc).2.next, ?_,rfl,rfl, ?_,.mk 6 (xD l+c.any (pw l) si) 0 0 0 ⟨#[]⟩ (some ⟨b1,0,none⟩) 2 [x,kn] (c.tok si.next).pos,(b1,.cells (x.enc++kn.enc).toArray 29 (0,0))::(H++(K++[])),(sub si.inc).2,fuel-1,rfl, ?_,rfl,rfl,rfl,rfl,rfl,rfl,rfl,rfl,ef.two hO hOk,hL6, ?_, ?_, ?_,rfl, ?_⟩⟩
    ·have:=hLi.2;have:=hup.1;omega
    ·rw[jD (n:=many+1) (by have:=hLi.2;have:=hc.oo;omega)];omega
    ·have:=sR l;rw[w8 (n:=c.any (pw l) si) (by omega),w8 (by omega)];rfl
    ·rw[jD (n:=many+1) (by have:=hLi.2;have:=hc.oo;omega)];have:=hup.1;omega
    ·rw[jD (n:=many+1) (by have:=hLi.2;have:=hc.oo;omega),hLi.now] at *
     simp only[Nd.px,Nd.tU,hpx];exact hR2
    ·have:=hup.1;omega
    ·show List.Perm ((b1,Obj.cells (x.enc++kn.enc).toArray 29 (0,0))::_) _
     exact cU fun z=>by simp only[cW,cY,c6];omega
  ·have h4:l=4:=by simpa using h4
   have hm0:many=0:=by simpa using hm0
   refine cX.ret (gE hLi (dO.of (uF hFi)) (hS.mono (cS.le_trans lS l3)) hn9) fun I4 l4=>⟨_,rfl,F3,.refl _,fun h=>?_,fun h=>?_⟩
   ·have h:=of_decide_eq_true h
    have e1:=hR.stop (.inl h)
    exact .inl ⟨by rw[e1];exact hLi,_,H,rfl,⟨x,rfl,by rw[e1],hO⟩,by rw[e1];exact hFi⟩
   ·have h:0≤c.any (pw l) si:=by have:=of_decide_eq_false h;omega
    have haw:=sQ h
    have hkd:=gG hLi h
    have hR2:=hR.next (.inr hm0) h g0 (show 0<fuel by have:=hLi.2;omega)
    refine⟨_,rfl,_,(dO.of (I:=I4) (uF hFi)).rd.dE (p:=1) (q:=4) rfl, ?_⟩
    refine c9.use (dQ hc hLi hkd (uF hFi)) (fun v K I5 G l5 hL5 hv hG=>.inl ?_) fun f e I5 G l5 hd hf=>.inr (dc.dy [_,_,_,_] hf fun e' G' hf'=>.inr ⟨f,hR2.dead hKp (by omega) (hKp _ _ hd),hf'.more⟩)
    obtain⟨rfl,rfl⟩:=hv
    refine⟨rfl,c.px t b si.inc::(H++F0),hG.trans (cU fun z=>by simp only[cW,cY,c6];omega), ?_⟩
    refine c9.use (hs2 h6 b si.inc I5 _ (_::_::_::_::(H++F0)) hL5 (uF (.refl _))) (fun v K I6 G l6 hL6 hv hG=>.inl ?_) fun f e I6 G l6 hd hf=>.inr (dc.dy [_,_,_,_] hf fun e' G' hf'=>.inr ⟨f,hR2.dead hKp (by omega) hd,hf'.more⟩)
    obtain⟨kn,rfl,hpx,hOk⟩:=hv
    have hup:=hMo si.inc
    have hnx:si.inc.next=si.next+1:=rfl
    refine⟨_,_,_,_,_,_,_,_,_,_,rfl,c.px t b (sub si.inc).2::(K++(H++F0)),hG.trans (cU fun z=>by simp only[cW,cY,c6];omega),fun b1=>⟨c.l.length-(sub si.inc).2.next, ?_,rfl,rfl, ?_,.mk 6 (xD l+c.any (pw l) si) 0 0 0 ⟨#[]⟩ (some ⟨b1,0,none⟩) 2 [x,kn] (c.tok si.next).pos,(b1,.cells (x.enc++kn.enc).toArray 29 (0,0))::(H++(K++[])),(sub si.inc).2,fuel-1,rfl, ?_,rfl,rfl,rfl,rfl,rfl,rfl,rfl,rfl,ef.two hO hOk,hL6, ?_, ?_, ?_,rfl, ?_⟩⟩
    ·have:=hLi.2;have:=hup.1;omega
    ·rw[jD (n:=many+1) (by have:=hLi.2;have:=hc.oo;omega)];omega
    ·have:=sR l;rw[w8 (n:=c.any (pw l) si) (by omega),w8 (by omega)];rfl
    ·rw[jD (n:=many+1) (by have:=hLi.2;have:=hc.oo;omega)];have:=hup.1;omega
    ·rw[jD (n:=many+1) (by have:=hLi.2;have:=hc.oo;omega),hLi.now] at *
     simp only[Nd.px,Nd.tU,hpx];exact hR2
    ·have:=hup.1;omega
    ·show List.Perm ((b1,Obj.cells (x.enc++kn.enc).toArray 29 (0,0))::_) _
     exact cU fun z=>by simp only[cW,cY,c6];omega
  ·have h4:l=4:=by simpa using h4
   have hm0:many≠0:=by simpa using hm0
   have e1:=hR.stop (.inr ⟨h4,hm0⟩)
   exact .inl ⟨by rw[e1];exact hLi,_,H,rfl,⟨x,rfl,by rw[e1],hO⟩,by rw[e1];exact hFi⟩
end
end Go.Lx
namespace Go.Lx
open Go.Vc
section
variable {c:PC} {t:ByteArray}
theorem dO.held{I:cS}{G:cR}{b:Nat}{k:Tok}{f:Int}:dO (cS.put I b (zK t k f)) G t b k f:=.inl (by simp[cS.put])
theorem rN{s:PS}(hl:c.Live s){d:Int}(h1:d≤24):(d<24∧c.cT d s=s)∨(d=24∧(c.cT d s).over=true∧c.dq ⟨132,(c.tok s.next).pos,false⟩ (c.cT d s)):=by
 by_cases h:d<24
 ·exact .inl ⟨h,oI h⟩
 ·have:d=24:=by omega
  subst this
  exact .inr ⟨rfl,ke hl⟩
theorem yQ(hc:c.Of t){nx:Lv}{d:Int}(h0:0≤d)(h1:d≤24)(hx:d<24→vC c t 13 (d+1) nx.ex)(hu:d<24→vC c t 38 (d+1) nx.un)(hkp:∀f,Kp c f nx.ex)(hku:∀f,Kp c f nx.un) :
  vC c t 38 d (c.unary nx d):=by
 intro b s I F F0 hl hF
 have hn:=hl.now
 refine fI.vc ?_
 unfold fI.V
 intro b0 b1 I1 l1 hb1
 refine cX.ret (gE hl (dO.of (sM hF)) (words (ws:=jw) hb1 rfl) (by decide)) fun I2 l2=>⟨_,rfl,F,.refl _,fun h=>?_,fun h=>?_⟩
 ·have h:=of_decide_eq_true h
  have e1:c.unary nx d s=c.one nx d s:=by unfold PC.unary;rw[if_pos h]
  rw[e1]
  refine c9.use (xF hc h0 h1 hx hkp hl (sM hF)) (fun v K I6 G l6 hL hv hG=>.inl ?_) fun f e I6 G l6 hd hf=>.inr (dc.dy [_] hf fun e' G' hf'=>.inr ⟨f,hd,hf'⟩)
  obtain⟨n,rfl,hv⟩:=hv
  exact⟨_,_,_,_,_,_,_,_,_,_,rfl,c.px t b (c.one nx d s).2::(K++F0),hG.trans (cU fun z=>by simp only[cW,cY,c6];omega),.inl ⟨hL,_,K,rfl,⟨n,rfl,hv⟩,.refl _⟩⟩
 have hge:¬c.any jw s<0:=of_decide_eq_false h
 have hlt:c.any jw s<2:=(dt (Int.not_lt.1 hge)).2
 have hkd:=gG hl (Int.not_lt.1 hge)
 refine⟨b,zK t (c.tok s.next) (ix (c.tok s.next)),F0,hF,_,rfl,_,dO.held.rd.dE (p:=1) (q:=4) rfl, ?_⟩
 refine (lU dO.held h0 h1).mono fun e I4 G l4 hd=>?_
 have hdp:=rN hl h1
 rcases hd with ⟨hlt2,rfl,rfl⟩ | ⟨rfl,hf⟩
 rotate_left
 ·obtain⟨_,g1,g2⟩:=hdp.resolve_left fun h=>by omega
  have e1:c.unary nx 24 s=(dZ,c.cT 24 s):=by unfold PC.unary;rw[if_neg hge,g1,if_pos rfl]
  rw[e1]
  exact .inr (dc.dy (I:=I4.del b) (Q:=fun e J G=>c9 c t b nW F0 (dZ,c.cT 24 s) e J ((b,zK t (c.tok s.next) (ix (c.tok s.next)))::G)) [_] hf fun e' G' hf'=>.inr ⟨_,g2,hf'.z4⟩)
 obtain⟨_,g1⟩:=hdp.resolve_right fun h=>by omega
 have e1:c.unary nx d s=(.mk 5 (1+c.any jw s) 0 0 0 ⟨#[]⟩ [(nx.un s.inc).1] (c.tok s.next).pos,(nx.un s.inc).2):=by unfold PC.unary;rw[if_neg hge,g1,hl.1,if_neg (by simp),hn]
 rw[e1]
 refine .inl ⟨_,rfl,F0,.refl _, ?_⟩
 refine c9.use (dQ hc hl hkd (F:=_::(c.px t b s::F0)) (sM (.refl _))) (fun v K I6 G l6 hL hv hG=>.inl ?_) fun f e I6 G l6 hd hf=>.inr (dc.dy [_] hf fun e' G' hf'=>.inr ⟨f,hku f _ hd,hf'⟩)
 obtain⟨rfl,rfl⟩:=hv
 refine⟨rfl,c.px t b s.inc::F0,hG.trans (cU fun z=>by simp only[cW,cY,c6];omega), ?_⟩
 refine c9.use (hu hlt2 b s.inc I6 _ _ hL (sM (.refl _))) (fun v K I7 G l7 hL7 hv hG=>.inl ?_) fun f e I7 G l7 hd hf=>.inr (dc.dy [_] hf fun e' G' hf'=>.inr ⟨f,hd,hf'⟩)
 obtain⟨n7,rfl,hpx7,hO7⟩:=hv
 refine⟨_,_,_,_,_,_,_,_,_,_,rfl,c.px t b (nx.un s.inc).2::(K++F0),hG.trans (cU fun z=>by simp only[cW,cY,c6];omega),fun b2=>?_⟩
 refine .inl ⟨hL7,_,(b2,.cells n7.enc.toArray 29 (0,0))::(K++[]), ?_,⟨.mk 5 (1+c.any jw s) 0 0 0 ⟨#[]⟩ (some ⟨b2,0,none⟩) 1 [n7] (c.tok s.next).pos,rfl, ?_,ef.C7 hO7⟩, ?_⟩
 ·rw[w8 (n:=c.any jw s) (by omega),w8 (by omega)];rfl
 ·simp only[Nd.px,Nd.tU,hpx7]
 ·show List.Perm ((b2,Obj.cells n7.enc.toArray 29 (0,0))::_) _
  exact cU fun z=>by simp only[cW,cY,c6];omega
theorem zO(hc:c.Of t){nx:Lv}{d:Int}(h0:0≤d)(h1:d≤24)(hx:d<24→vC c t 13 (d+1) nx.ex)(hkp:∀f,Kp c f nx.ex)(hor:sS c t 2 d (c.or nx d)):vC c t 13 d (c.expr nx d):=by
 intro b s I F F0 hl hF
 refine fU.vc ?_
 unfold fU.V
 intro b0
 have ex_:c.expr nx d s=if c.dH (⟨#[63]⟩:ByteArray) (c.or nx d s).2 then (if (c.cT d (c.or nx d s).2).over then (dZ,c.cT d (c.or nx d s).2) else
   (.mk 7 0 0 0 0 ⟨#[]⟩ [(c.or nx d s).1,(nx.ex (c.cT d (c.or nx d s).2).inc).1,(nx.ex (c.take (⟨#[58]⟩:ByteArray) (nx.ex (c.cT d (c.or nx d s).2).inc).2).2).1] (c.now (c.cT d (c.or nx d s).2)).pos,(nx.ex (c.take (⟨#[58]⟩:ByteArray) (nx.ex (c.cT d (c.or nx d s).2).inc).2).2).2)) else c.or nx d s:=rfl
 refine c9.use (hor b s I _ _ hl (sM hF)) (fun v K I1 G l1 hL hv hG=>.inl ?_) fun f e I1 G l1 hd hf=>.inr (dc.dy [_] hf fun e' G' hf'=>.inr ⟨f,by rw[ex_,hd.dH];exact hd,hf'⟩)
 obtain⟨n,rfl,hpx,hO⟩:=hv
 generalize c.or nx d s=r at ex_ hL hpx hG
 have hn:=hL.now
 refine⟨_,_,_,_,_,_,_,_,_,_,rfl,c.px t b r.2::(K++F0),hG.trans (cU fun z=>by simp only[cW,cY,c6];omega),fun bn=>?_⟩
 refine cX.ret (nX hL (dO.of (fQ (.refl _))) (⟨#[63]⟩:ByteArray)) fun I2 l2=>⟨_,rfl,_,.refl _,fun h=>?_,fun h=>?_⟩
 ·have h:c.dH (⟨#[63]⟩:ByteArray) r.2=false:=by simpa using h
  rw[h] at ex_
  rw[ex_]
  exact .inl ⟨hL,_,K,rfl,⟨n,rfl,hpx,hO⟩,.refl _⟩
 have h:c.dH (⟨#[63]⟩:ByteArray) r.2=true:=by simpa using h
 have hkd:(c.tok r.2.next).kind≠0:=fun hk=>by
  unfold PC.dH at h;rw[hn,hk] at h;simp at h
 rw[if_pos h] at ex_
 refine⟨b,zK t (c.tok r.2.next) (ix (c.tok r.2.next)),K++F0,.refl _,_,rfl,_,dO.held.rd.dE (p:=1) (q:=4) rfl, ?_⟩
 refine (lU dO.held h0 h1).mono fun e I4 G l4 hd=>?_
 have hdp:=rN hL h1
 rcases hd with ⟨hlt2,rfl,rfl⟩ | ⟨rfl,hf⟩
 rotate_left
 ·obtain⟨_,g1,g2⟩:=hdp.resolve_left fun h=>by omega
  rw[g1,if_pos rfl] at ex_
  rw[ex_]
  exact .inr (dc.dy (I:=I4.del b) (Q:=fun e J G=>c9 c t b nW F0 (dZ,c.cT 24 r.2) e J ((b,zK t (c.tok r.2.next) (ix (c.tok r.2.next)))::G)) [_,_] hf fun e' G' hf'=>.inr ⟨_,g2,hf'.more.z4⟩)
 obtain⟨_,g1⟩:=hdp.resolve_right fun h=>by omega
 rw[g1,hL.1,if_neg (by simp),hn] at ex_
 rw[ex_]
 refine .inl ⟨_,rfl,K++F0,.refl _, ?_⟩
 refine c9.use (dQ hc hL hkd (F:=_::_::(c.px t b r.2::(K++F0))) (fQ (.refl _))) (fun v J I6 G l6 hL6 hv hG=>.inl ?_) fun f e I6 G l6 hd hf=>.inr (dc.dy [_,_] hf fun e' G' hf'=>.inr ⟨f,hkp f _ ((hkp f _ hd).take _),hf'.more⟩)
 obtain⟨rfl,rfl⟩:=hv
 refine⟨rfl,c.px t b r.2.inc::(K++F0),hG.trans (cU fun z=>by simp only[cW,cY,c6];omega), ?_⟩
 refine c9.use (hx hlt2 b r.2.inc I6 _ _ hL6 (fQ (.refl _))) (fun v J I7 G l7 hL7 hv hG=>.inl ?_) fun f e I7 G l7 hd hf=>.inr (dc.dy [_,_] hf fun e' G' hf'=>.inr ⟨f,hkp f _ (hd.take _),hf'.more⟩)
 obtain⟨y,rfl,hpy,hOy⟩:=hv
 refine⟨_,_,_,_,_,_,_,_,_,_,rfl,c.px t b (nx.ex r.2.inc).2::(J++(K++F0)),hG.trans (cU fun z=>by simp only[cW,cY,c6];omega),fun by_ b1 I8 l8 hb1=>?_⟩
 refine c9.use (ej hc hL7 hb1 (sN (.refl _))) (fun v L I9 G l9 hL9 hv hG=>.inl ?_) fun f e I9 G l9 hd hf=>.inr (dc.dy [_,_,_] hf fun e' G' hf'=>.inr ⟨f,hkp f _ hd,hf'.more.more⟩)
 obtain⟨⟨i9,rfl⟩,rfl⟩:=hv
 refine⟨_,rfl,c.px t b (c.take (⟨#[58]⟩:ByteArray) (nx.ex r.2.inc).2).2::(J++(K++F0)),hG.trans (cU fun z=>by simp only[cW,cY,c6];omega), ?_⟩
 refine c9.use (hx hlt2 b _ I9 _ _ hL9 (sN (.refl _))) (fun v L I10 G l10 hL10 hv hG=>.inl ?_) fun f e I10 G l10 hd hf=>.inr (dc.dy [_,_,_] hf fun e' G' hf'=>.inr ⟨f,hd,hf'.more.more⟩)
 obtain⟨z,rfl,hpz,hOz⟩:=hv
 refine⟨_,_,_,_,_,_,_,_,_,_,rfl,c.px t b (nx.ex (c.take (⟨#[58]⟩:ByteArray) (nx.ex r.2.inc).2).2).2::(L++(J++(K++F0))),hG.trans (cU fun z=>by simp only[cW,cY,c6];omega),fun b2=>?_⟩
 refine .inl ⟨hL10,_,(b2,.cells (n.enc++(y.enc++z.enc)).toArray 29 (0,0))::(K++(J++(L++[]))),rfl,⟨.mk 7 0 0 0 0 ⟨#[]⟩ (some ⟨b2,0,none⟩) 3 [n,y,z] (c.tok r.2.next).pos,rfl, ?_,ef.three hO hOy hOz⟩, ?_⟩
 ·simp only[Nd.px,Nd.tU,hpx,hpy,hpz]
 ·show List.Perm ((b2,Obj.cells (n.enc++(y.enc++z.enc)).toArray 29 (0,0))::_) _
  exact cU fun z=>by simp only[cW,cY,c6];omega
theorem z5(hc:c.Of t){nx:Lv}{d:Int}(h0:0≤d)(h1:d≤24)(hx:d<24→vC c t 13 (d+1) nx.ex)(hu:d<24→vC c t 38 (d+1) nx.un)(hkp:∀f,Kp c f nx.ex)(hku:∀f,Kp c f nx.un)(hmx:dN c nx.ex)(hmu:dN c nx.un) :
  vC c t 13 d (c.expr nx d)∧vC c t 38 d (c.unary nx d):=by
 have u:=yQ hc h0 h1 hx hu hkp hku
 have r6:sS c t 6 d (c.product nx d):=qF hc (l:=6) (by decide) (Up.unary hmx hmu d) (fun f=>Kp.unary nx d) (fun h=>absurd h (by decide)) fun _=>u
 have r5:sS c t 5 d (c.sum nx d):=qF hc (l:=5) (by decide) (Up.product hmx hmu d) (fun f=>Kp.product nx d) (fun _=>r6) fun h=>absurd h (by decide)
 have r4:sS c t 4 d (c.compare nx d):=qF hc (l:=4) (by decide) (Up.sum hmx hmu d) (fun f=>Kp.sum nx d) (fun _=>r5) fun h=>absurd h (by decide)
 have r3:sS c t 3 d (c.and nx d):=qF hc (l:=3) (by decide) (Up.compare hmx hmu d) (fun f=>Kp.compare nx d) (fun _=>r4) fun h=>absurd h (by decide)
 have r2:sS c t 2 d (c.or nx d):=qF hc (l:=2) (by decide) (Up.and hmx hmu d) (fun f=>Kp.and nx d) (fun _=>r3) fun h=>absurd h (by decide)
 exact⟨zO hc h0 h1 hx hkp r2,u⟩
theorem yR(hc:c.Of t):∀(k:Nat) (d:Int),0≤d→d+k=24→vC c t 13 d (c.lvl k d).ex∧vC c t 38 d (c.lvl k d).un
 | 0,d,h0,h1=>z5 hc h0 (by omega) (fun h=>by omega) (fun h=>by omega) (fun f s h=>h) (fun f s h=>h) (fun s=>.refl) fun s=>.refl
 | k+1,d,h0,h1=>by
   have ih:=yR hc k (d+1) (by omega) (by omega)
   exact z5 hc h0 (by omega) (fun _=>ih.1) (fun _=>ih.2) (fun f=>(Kp.lvl k (d+1)).1) (fun f=>(Kp.lvl k (d+1)).2) (Up.lvl k (d+1)).1 (Up.lvl k (d+1)).2
theorem lu(hc:c.Of t):vC c t 13 0 c.dC:=(yR hc 24 0 (by decide) (by decide)).1
end
end Go.Lx
namespace Go.Lx
open Go.Vc Go.Proofs.Tryd
def jV:List (Nat×List Sh):=[(0,[]),(3,[.one (.int .i64)]),(4,[.one .bool]),(9,[.one .str]),(29,[.agg [(.int .u8),(.int .u8),(.int .u8),(.int .i64),(.int .u8),.str,.slc,(.int .i64)]]),(44,[.one .slc]),(45,[.one .slc]),(46,[.one .slc]),(51,[.one .slc]),(53,[.agg [.str,.slc,(.int .i64)]]),(68,[.one (.int .u8)]),(92,[.agg [.str,(.int .u8),(.int .u8),(.int .u8),(.int .u8),(.int .i64),(.int .u8),.str,.slc,(.int .i64),(.int .i64)]]),(97,[.agg [.str,(.int .i64)]]),(123,[.agg [(.int .u8),(.int .u8),(.int .u8),(.int .i64),(.int .u8),.str,.slc,(.int .i64)],.one .bool]),(126,[.one .slc]),(128,[.agg [(.int .u8),(.int .u8),(.int .u8),(.int .i64),(.int .u8),.str,.slc,(.int .i64),.slc,(.int .i64)]]),(138,[.one (.int .u8)]),(140,[.agg [(.int .u8),(.int .u8),.str,(.int .u8),(.int .u8),(.int .u8),(.int .i64),(.int .u8),.str,.slc,(.int .i64),(.int .u8),(.int .u8),(.int .u8),(.int .i64),(.int .u8),.str,.slc,(.int .i64),(.int .u8),(.int .u8),(.int .u8),(.int .i64),(.int .u8),.str,.slc,(.int .i64),(.int .u8),(.int .u8),(.int .u8),(.int .i64),(.int .u8),.str,.slc,(.int .i64),(.int .i64)]])]
def gw.V(ka:Nat→Bs→Int→Int→Int→Int→Int→Int→Bs→OA→Nat→Nat→Int→Int→Nat×Obj)(kb:Bs→Int→Int→Int→Int→Int→Int→Bs→OA→Nat→Nat→Int→Int→Value)(nV:Int→Int→Int→Int→Int→Bs→OA→Nat→Nat→Int→Value)(nO:Int→Int→Int→Int→Int→Bs→OA→Nat→Nat→Int→Obj)(vb vi:Int→Value)(vs:Bs→Value)(vl:OA→Nat→Nat→Value)(vt:Bool→Value)(vp:OA→Value)(p:Addr)(I:cS)(F:cR)(Q:cZ)  : Prop:=∀b:Nat,∃ad:Addr,some p=some ad∧∃(m:Int),Rd I ((ka b (⟨#[]⟩:Bs) 0 0 0 0 0 0 (⟨#[]⟩:Bs) none 0 0 0 0)::F) ((ad.add 1).add 4) [vi m]∧∀a:Nat,cX P 18 (#[vp (some p)]) I ((ka b (⟨#[]⟩:Bs) 0 0 0 0 0 0 (⟨#[]⟩:Bs) none 0 0 0 0)::(ka a (⟨#[]⟩:Bs) 0 0 0 0 0 0 (⟨#[]⟩:Bs) none 0 0 0 m)::F) fun e1 I1 G1=>((e1=.returned (.tuple #[])∧∃F1:cR,List.Perm G1 ((ka b (⟨#[]⟩:Bs) 0 0 0 0 0 0 (⟨#[]⟩:Bs) none 0 0 0 0)::(ka a (⟨#[]⟩:Bs) 0 0 0 0 0 0 (⟨#[]⟩:Bs) none 0 0 0 m)::F1)∧cX P 29 (#[vp (some p)]) I1 ((ka b (⟨#[]⟩:Bs) 0 0 0 0 0 0 (⟨#[]⟩:Bs) none 0 0 0 0)::(ka a (⟨#[]⟩:Bs) 0 0 0 0 0 0 (⟨#[]⟩:Bs) none 0 0 0 m)::F1) fun e2 I2 G2=>((∃(r:Bs),e2=.returned (vs r)∧∃F2:cR,List.Perm G2 ((ka b (⟨#[]⟩:Bs) 0 0 0 0 0 0 (⟨#[]⟩:Bs) none 0 0 0 0)::(ka a (⟨#[]⟩:Bs) 0 0 0 0 0 0 (⟨#[]⟩:Bs) none 0 0 0 m)::F2)∧∀(b1:Nat) (I3:cS),cS.le I2 I3→I3 b1=some (Obj.cells #[vs (⟨#[105,110,116]⟩:Bs),vs (⟨#[113,116,121]⟩:Bs),vs (⟨#[112,114,105,99,101]⟩:Bs),vs (⟨#[116,105,109,101]⟩:Bs),vs (⟨#[98,111,111,108]⟩:Bs),vs (⟨#[115,105,100,101]⟩:Bs)] 9 (0,0))→cX P 23 (#[vp (some p),vl (some ⟨b1,0,none⟩) 6 6]) I3 ((ka b (⟨#[]⟩:Bs) 0 0 0 0 0 0 (⟨#[]⟩:Bs) none 0 0 0 0)::(ka a r 0 0 0 0 0 0 (⟨#[]⟩:Bs) none 0 0 0 m)::F2) fun e3 I4 G3=>((∃(r1:Int),e3=.returned (vi r1)∧∃F3:cR,List.Perm G3 ((ka b (⟨#[]⟩:Bs) 0 0 0 0 0 0 (⟨#[]⟩:Bs) none 0 0 0 0)::(ka a r 0 0 0 0 0 0 (⟨#[]⟩:Bs) none 0 0 0 m)::F3)∧∀(b2:Nat) (I5:cS),cS.le I4 I5→I5 b2=some (Obj.cells #[vs (⟨#[61]⟩:Bs)] 9 (0,0))→cX P 23 (#[vp (some p),vl (some ⟨b2,0,none⟩) 1 1]) I5 ((ka b (⟨#[]⟩:Bs) 0 0 0 0 0 0 (⟨#[]⟩:Bs) none 0 0 0 0)::(ka a r (IntKind.wrap .u8 (1+(IntKind.wrap .u8 r1))) 0 0 0 0 0 (⟨#[]⟩:Bs) none 0 0 0 m)::F3) fun e4 I6 G4=>((∃(r2:Int),e4=.returned (vi r2)∧∃F4:cR,List.Perm G4 ((ka b (⟨#[]⟩:Bs) 0 0 0 0 0 0 (⟨#[]⟩:Bs) none 0 0 0 0)::(ka a r (IntKind.wrap .u8 (1+(IntKind.wrap .u8 r1))) 0 0 0 0 0 (⟨#[]⟩:Bs) none 0 0 0 m)::F4)∧∃(hb:Nat) (ho:Obj) (F5:cR),List.Perm F4 ((hb,ho)::F5)∧∃aR:Addr,some p=some aR∧∃(m1:Int),Rd (cS.put I6 hb ho) ([]) ((aR.add 1).add 4) [vi m1]∧cX P 21 (#[vp (some p),vs (⟨#[45]⟩:Bs)]) (cS.put I6 hb ho) ((ka b (⟨#[]⟩:Bs) 0 0 0 0 0 0 (⟨#[]⟩:Bs) none 0 0 0 0)::(ka a r (IntKind.wrap .u8 (1+(IntKind.wrap .u8 r1))) 0 0 0 0 0 (⟨#[]⟩:Bs) none 0 0 0 m)::F5) fun e5 I7 G5=>∃(r3:Bool),e5=.returned (vt r3)∧∃F6:cR,List.Perm G5 ((ka b (⟨#[]⟩:Bs) 0 0 0 0 0 0 (⟨#[]⟩:Bs) none 0 0 0 0)::(ka a r (IntKind.wrap .u8 (1+(IntKind.wrap .u8 r1))) 0 0 0 0 0 (⟨#[]⟩:Bs) none 0 0 0 m)::F6)∧(It r3 (cX P 18 (#[vp (some p)]) (cS.del I7 hb) ((ka b (⟨#[]⟩:Bs) 0 0 0 0 0 0 (⟨#[]⟩:Bs) none 0 0 0 0)::(ka a r (IntKind.wrap .u8 (1+(IntKind.wrap .u8 r1))) 0 0 0 0 0 (⟨#[]⟩:Bs) none 0 0 0 m)::((hb,ho)::F6)) fun e6 I8 G6=>((e6=.returned (.tuple #[])∧∃F7:cR,List.Perm G6 ((ka b (⟨#[]⟩:Bs) 0 0 0 0 0 0 (⟨#[]⟩:Bs) none 0 0 0 0)::(ka a r (IntKind.wrap .u8 (1+(IntKind.wrap .u8 r1))) 0 0 0 0 0 (⟨#[]⟩:Bs) none 0 0 0 m)::F7)∧∃aS:Addr,some p=some aS∧∃(m2:Int),Rd I8 ((ka b (⟨#[]⟩:Bs) 0 0 0 0 0 0 (⟨#[]⟩:Bs) none 0 0 0 0)::(ka a r (IntKind.wrap .u8 (1+(IntKind.wrap .u8 r1))) 0 0 0 0 0 (⟨#[]⟩:Bs) none 0 0 0 m)::F7) ((aS.add 1).add 0) [vb m2]∧(It (m2 != 3) (cX P 19 (#[vp (some p),vi 130]) I8 ((ka b (⟨#[]⟩:Bs) 0 0 0 0 0 0 (⟨#[]⟩:Bs) none 0 0 0 0)::(ka a r (IntKind.wrap .u8 (1+(IntKind.wrap .u8 r1))) 0 0 0 0 0 (⟨#[]⟩:Bs) none 0 0 0 m)::F7) fun e7 I9 G7=>((e7=.returned (.tuple #[])∧∃F8:cR,List.Perm G7 ((ka b (⟨#[]⟩:Bs) 0 0 0 0 0 0 (⟨#[]⟩:Bs) none 0 0 0 0)::(ka a r (IntKind.wrap .u8 (1+(IntKind.wrap .u8 r1))) 0 0 0 0 0 (⟨#[]⟩:Bs) none 0 0 0 m)::F8)∧cX P 45 (#[vp (some p)]) I9 ((ka b (⟨#[]⟩:Bs) 0 0 0 0 0 0 (⟨#[]⟩:Bs) none 0 0 0 0)::(ka a r (IntKind.wrap .u8 (1+(IntKind.wrap .u8 r1))) 0 0 0 0 0 (⟨#[]⟩:Bs) none 0 0 0 m)::F8) fun e8 I10 G8=>((∃(ac ae af ag ah:Int) (ai:Bs) (i:OA) (j k:Nat) (aj:Int) (aq:Bool),e8=.returned (.tuple #[nV ac ae af ag ah ai i j k aj,vt aq])∧∃F9:cR,List.Perm G8 ((ka b (⟨#[]⟩:Bs) 0 0 0 0 0 0 (⟨#[]⟩:Bs) none 0 0 0 0)::(ka a r (IntKind.wrap .u8 (1+(IntKind.wrap .u8 r1))) 0 0 0 0 0 (⟨#[]⟩:Bs) none 0 0 0 m)::F9)∧∀am:Nat,(It (!aq) (cX P 19 (#[vp (some p),vi 130]) I10 ((ka b (⟨#[]⟩:Bs) 0 0 0 0 0 0 (⟨#[]⟩:Bs) none 0 0 0 0)::(ka a r (IntKind.wrap .u8 (1+(IntKind.wrap .u8 r1))) 0 0 0 0 0 (⟨#[]⟩:Bs) none 0 0 0 m)::(am,nO ac ae af ag ah ai i j k aj)::F9) fun e9 I11 G9=>((e9=.returned (.tuple #[])∧∃F10:cR,List.Perm G9 ((ka b (⟨#[]⟩:Bs) 0 0 0 0 0 0 (⟨#[]⟩:Bs) none 0 0 0 0)::(ka a r (IntKind.wrap .u8 (1+(IntKind.wrap .u8 r1))) 0 0 0 0 0 (⟨#[]⟩:Bs) none 0 0 0 m)::(am,nO ac ae af ag ah ai i j k aj)::F10)∧(It r3 (∀b3:Nat,∀(b4:Nat) (I12:cS),cS.le I11 I12→I12 b4=some (Obj.cells #[vs (⟨#[59]⟩:Bs)] 9 (0,0))→cX P 23 (#[vp (some p),vl (some ⟨b4,0,none⟩) 1 1]) I12 ((ka b (⟨#[]⟩:Bs) 0 0 0 0 0 0 (⟨#[]⟩:Bs) none 0 0 0 0)::(ka a r (IntKind.wrap .u8 (1+(IntKind.wrap .u8 r1))) 5 1 0 0 0 (⟨#[]⟩:Bs) (some ⟨b3,0,none⟩) 1 1 m1 m)::(am,nO 5 1 0 0 0 (⟨#[]⟩:Bs) (some ⟨b3,0,none⟩) 1 1 m1)::((b3,nO ac ae af ag ah ai i j k aj)::F10)) fun a2 I13 G10=>((∃(r4:Int),a2=.returned (vi r4)∧∃F11:cR,List.Perm G10 ((ka b (⟨#[]⟩:Bs) 0 0 0 0 0 0 (⟨#[]⟩:Bs) none 0 0 0 0)::(ka a r (IntKind.wrap .u8 (1+(IntKind.wrap .u8 r1))) 5 1 0 0 0 (⟨#[]⟩:Bs) (some ⟨b3,0,none⟩) 1 1 m1 m)::(am,nO 5 1 0 0 0 (⟨#[]⟩:Bs) (some ⟨b3,0,none⟩) 1 1 m1)::F11)∧Q (.returned ((kb r (IntKind.wrap .u8 (1+(IntKind.wrap .u8 r1))) 5 1 0 0 0 (⟨#[]⟩:Bs) (some ⟨b3,0,none⟩) 1 1 m1 m))) I13 F11)∨(∃ch:List PanicEntry,a2=.panicked ch∧∃F12:cR,List.Perm G10 ((ka b (⟨#[]⟩:Bs) 0 0 0 0 0 0 (⟨#[]⟩:Bs) none 0 0 0 0)::(ka a r (IntKind.wrap .u8 (1+(IntKind.wrap .u8 r1))) 5 1 0 0 0 (⟨#[]⟩:Bs) (some ⟨b3,0,none⟩) 1 1 m1 m)::(am,nO 5 1 0 0 0 (⟨#[]⟩:Bs) (some ⟨b3,0,none⟩) 1 1 m1)::F12)∧Q (.panicked ch) I13 F12))) (∀(b5:Nat) (I14:cS),cS.le I11 I14→I14 b5=some (Obj.cells #[vs (⟨#[59]⟩:Bs)] 9 (0,0))→cX P 23 (#[vp (some p),vl (some ⟨b5,0,none⟩) 1 1]) I14 ((ka b (⟨#[]⟩:Bs) 0 0 0 0 0 0 (⟨#[]⟩:Bs) none 0 0 0 0)::(ka a r (IntKind.wrap .u8 (1+(IntKind.wrap .u8 r1))) ac ae af ag ah ai i j k aj m)::(am,nO ac ae af ag ah ai i j k aj)::F10) fun a3 I15 G11=>((∃(r5:Int),a3=.returned (vi r5)∧∃F13:cR,List.Perm G11 ((ka b (⟨#[]⟩:Bs) 0 0 0 0 0 0 (⟨#[]⟩:Bs) none 0 0 0 0)::(ka a r (IntKind.wrap .u8 (1+(IntKind.wrap .u8 r1))) ac ae af ag ah ai i j k aj m)::(am,nO ac ae af ag ah ai i j k aj)::F13)∧Q (.returned ((kb r (IntKind.wrap .u8 (1+(IntKind.wrap .u8 r1))) ac ae af ag ah ai i j k aj m))) I15 F13)∨(∃aT:List PanicEntry,a3=.panicked aT∧∃F14:cR,List.Perm G11 ((ka b (⟨#[]⟩:Bs) 0 0 0 0 0 0 (⟨#[]⟩:Bs) none 0 0 0 0)::(ka a r (IntKind.wrap .u8 (1+(IntKind.wrap .u8 r1))) ac ae af ag ah ai i j k aj m)::(am,nO ac ae af ag ah ai i j k aj)::F14)∧Q (.panicked aT) I15 F14)))))∨(∃aU:List PanicEntry,e9=.panicked aU∧∃F15:cR,List.Perm G9 ((ka b (⟨#[]⟩:Bs) 0 0 0 0 0 0 (⟨#[]⟩:Bs) none 0 0 0 0)::(ka a r (IntKind.wrap .u8 (1+(IntKind.wrap .u8 r1))) 0 0 0 0 0 (⟨#[]⟩:Bs) none 0 0 0 m)::(am,nO ac ae af ag ah ai i j k aj)::F15)∧Q (.panicked aU) I11 F15))) (It r3 (∀b6:Nat,∀(b7:Nat) (I16:cS),cS.le I10 I16→I16 b7=some (Obj.cells #[vs (⟨#[59]⟩:Bs)] 9 (0,0))→cX P 23 (#[vp (some p),vl (some ⟨b7,0,none⟩) 1 1]) I16 ((ka b (⟨#[]⟩:Bs) 0 0 0 0 0 0 (⟨#[]⟩:Bs) none 0 0 0 0)::(ka a r (IntKind.wrap .u8 (1+(IntKind.wrap .u8 r1))) 5 1 0 0 0 (⟨#[]⟩:Bs) (some ⟨b6,0,none⟩) 1 1 m1 m)::(am,nO 5 1 0 0 0 (⟨#[]⟩:Bs) (some ⟨b6,0,none⟩) 1 1 m1)::((b6,nO ac ae af ag ah ai i j k aj)::F9)) fun a4 I17 G12=>((∃(r6:Int),a4=.returned (vi r6)∧∃F16:cR,List.Perm G12 ((ka b (⟨#[]⟩:Bs) 0 0 0 0 0 0 (⟨#[]⟩:Bs) none 0 0 0 0)::(ka a r (IntKind.wrap .u8 (1+(IntKind.wrap .u8 r1))) 5 1 0 0 0 (⟨#[]⟩:Bs) (some ⟨b6,0,none⟩) 1 1 m1 m)::(am,nO 5 1 0 0 0 (⟨#[]⟩:Bs) (some ⟨b6,0,none⟩) 1 1 m1)::F16)∧Q (.returned ((kb r (IntKind.wrap .u8 (1+(IntKind.wrap .u8 r1))) 5 1 0 0 0 (⟨#[]⟩:Bs) (some ⟨b6,0,none⟩) 1 1 m1 m))) I17 F16)∨(∃aV:List PanicEntry,a4=.panicked aV∧∃F17:cR,List.Perm G12 ((ka b (⟨#[]⟩:Bs) 0 0 0 0 0 0 (⟨#[]⟩:Bs) none 0 0 0 0)::(ka a r (IntKind.wrap .u8 (1+(IntKind.wrap .u8 r1))) 5 1 0 0 0 (⟨#[]⟩:Bs) (some ⟨b6,0,none⟩) 1 1 m1 m)::(am,nO 5 1 0 0 0 (⟨#[]⟩:Bs) (some ⟨b6,0,none⟩) 1 1 m1)::F17)∧Q (.panicked aV) I17 F17))) (∀(b8:Nat) (I18:cS),cS.le I10 I18→I18 b8=some (Obj.cells #[vs (⟨#[59]⟩:Bs)] 9 (0,0))→cX P 23 (#[vp (some p),vl (some ⟨b8,0,none⟩) 1 1]) I18 ((ka b (⟨#[]⟩:Bs) 0 0 0 0 0 0 (⟨#[]⟩:Bs) none 0 0 0 0)::(ka a r (IntKind.wrap .u8 (1+(IntKind.wrap .u8 r1))) ac ae af ag ah ai i j k aj m)::(am,nO ac ae af ag ah ai i j k aj)::F9) fun a5 I19 G13=>((∃(r7:Int),a5=.returned (vi r7)∧∃F18:cR,List.Perm G13 ((ka b (⟨#[]⟩:Bs) 0 0 0 0 0 0 (⟨#[]⟩:Bs) none 0 0 0 0)::(ka a r (IntKind.wrap .u8 (1+(IntKind.wrap .u8 r1))) ac ae af ag ah ai i j k aj m)::(am,nO ac ae af ag ah ai i j k aj)::F18)∧Q (.returned ((kb r (IntKind.wrap .u8 (1+(IntKind.wrap .u8 r1))) ac ae af ag ah ai i j k aj m))) I19 F18)∨(∃aW:List PanicEntry,a5=.panicked aW∧∃F19:cR,List.Perm G13 ((ka b (⟨#[]⟩:Bs) 0 0 0 0 0 0 (⟨#[]⟩:Bs) none 0 0 0 0)::(ka a r (IntKind.wrap .u8 (1+(IntKind.wrap .u8 r1))) ac ae af ag ah ai i j k aj m)::(am,nO ac ae af ag ah ai i j k aj)::F19)∧Q (.panicked aW) I19 F19))))))∨(∃aX:List PanicEntry,e8=.panicked aX∧∃F20:cR,List.Perm G8 ((ka b (⟨#[]⟩:Bs) 0 0 0 0 0 0 (⟨#[]⟩:Bs) none 0 0 0 0)::(ka a r (IntKind.wrap .u8 (1+(IntKind.wrap .u8 r1))) 0 0 0 0 0 (⟨#[]⟩:Bs) none 0 0 0 m)::F20)∧Q (.panicked aX) I10 F20)))∨(∃aY:List PanicEntry,e7=.panicked aY∧∃F21:cR,List.Perm G7 ((ka b (⟨#[]⟩:Bs) 0 0 0 0 0 0 (⟨#[]⟩:Bs) none 0 0 0 0)::(ka a r (IntKind.wrap .u8 (1+(IntKind.wrap .u8 r1))) 0 0 0 0 0 (⟨#[]⟩:Bs) none 0 0 0 m)::F21)∧Q (.panicked aY) I9 F21))) (cX P 45 (#[vp (some p)]) I8 ((ka b (⟨#[]⟩:Bs) 0 0 0 0 0 0 (⟨#[]⟩:Bs) none 0 0 0 0)::(ka a r (IntKind.wrap .u8 (1+(IntKind.wrap .u8 r1))) 0 0 0 0 0 (⟨#[]⟩:Bs) none 0 0 0 m)::F7) fun a6 I20 G14=>((∃(l n o q s:Int) (t:Bs) (c:OA) (d e:Nat) (u:Int) (ar:Bool),a6=.returned (.tuple #[nV l n o q s t c d e u,vt ar])∧∃F22:cR,List.Perm G14 ((ka b (⟨#[]⟩:Bs) 0 0 0 0 0 0 (⟨#[]⟩:Bs) none 0 0 0 0)::(ka a r (IntKind.wrap .u8 (1+(IntKind.wrap .u8 r1))) 0 0 0 0 0 (⟨#[]⟩:Bs) none 0 0 0 m)::F22)∧∀ak:Nat,(It (!ar) (cX P 19 (#[vp (some p),vi 130]) I20 ((ka b (⟨#[]⟩:Bs) 0 0 0 0 0 0 (⟨#[]⟩:Bs) none 0 0 0 0)::(ka a r (IntKind.wrap .u8 (1+(IntKind.wrap .u8 r1))) 0 0 0 0 0 (⟨#[]⟩:Bs) none 0 0 0 m)::(ak,nO l n o q s t c d e u)::F22) fun a7 I21 G15=>((a7=.returned (.tuple #[])∧∃F23:cR,List.Perm G15 ((ka b (⟨#[]⟩:Bs) 0 0 0 0 0 0 (⟨#[]⟩:Bs) none 0 0 0 0)::(ka a r (IntKind.wrap .u8 (1+(IntKind.wrap .u8 r1))) 0 0 0 0 0 (⟨#[]⟩:Bs) none 0 0 0 m)::(ak,nO l n o q s t c d e u)::F23)∧(It r3 (∀b9:Nat,∀(aJ:Nat) (I22:cS),cS.le I21 I22→I22 aJ=some (Obj.cells #[vs (⟨#[59]⟩:Bs)] 9 (0,0))→cX P 23 (#[vp (some p),vl (some ⟨aJ,0,none⟩) 1 1]) I22 ((ka b (⟨#[]⟩:Bs) 0 0 0 0 0 0 (⟨#[]⟩:Bs) none 0 0 0 0)::(ka a r (IntKind.wrap .u8 (1+(IntKind.wrap .u8 r1))) 5 1 0 0 0 (⟨#[]⟩:Bs) (some ⟨b9,0,none⟩) 1 1 m1 m)::(ak,nO 5 1 0 0 0 (⟨#[]⟩:Bs) (some ⟨b9,0,none⟩) 1 1 m1)::((b9,nO l n o q s t c d e u)::F23)) fun a8 I23 G16=>((∃(r8:Int),a8=.returned (vi r8)∧∃F24:cR,List.Perm G16 ((ka b (⟨#[]⟩:Bs) 0 0 0 0 0 0 (⟨#[]⟩:Bs) none 0 0 0 0)::(ka a r (IntKind.wrap .u8 (1+(IntKind.wrap .u8 r1))) 5 1 0 0 0 (⟨#[]⟩:Bs) (some ⟨b9,0,none⟩) 1 1 m1 m)::(ak,nO 5 1 0 0 0 (⟨#[]⟩:Bs) (some ⟨b9,0,none⟩) 1 1 m1)::F24)∧Q (.returned ((kb r (IntKind.wrap .u8 (1+(IntKind.wrap .u8 r1))) 5 1 0 0 0 (⟨#[]⟩:Bs) (some ⟨b9,0,none⟩) 1 1 m1 m))) I23 F24)∨(∃aZ:List PanicEntry,a8=.panicked aZ∧∃F25:cR,List.Perm G16 ((ka b (⟨#[]⟩:Bs) 0 0 0 0 0 0 (⟨#[]⟩:Bs) none 0 0 0 0)::(ka a r (IntKind.wrap .u8 (1+(IntKind.wrap .u8 r1))) 5 1 0 0 0 (⟨#[]⟩:Bs) (some ⟨b9,0,none⟩) 1 1 m1 m)::(ak,nO 5 1 0 0 0 (⟨#[]⟩:Bs) (some ⟨b9,0,none⟩) 1 1 m1)::F25)∧Q (.panicked aZ) I23 F25))) (∀(aK:Nat) (I24:cS),cS.le I21 I24→I24 aK=some (Obj.cells #[vs (⟨#[59]⟩:Bs)] 9 (0,0))→cX P 23 (#[vp (some p),vl (some ⟨aK,0,none⟩) 1 1]) I24 ((ka b (⟨#[]⟩:Bs) 0 0 0 0 0 0 (⟨#[]⟩:Bs) none 0 0 0 0)::(ka a r (IntKind.wrap .u8 (1+(IntKind.wrap .u8 r1))) l n o q s t c d e u m)::(ak,nO l n o q s t c d e u)::F23) fun a9 I25 G17=>((∃(r9:Int),a9=.returned (vi r9)∧∃F26:cR,List.Perm G17 ((ka b (⟨#[]⟩:Bs) 0 0 0 0 0 0 (⟨#[]⟩:Bs) none 0 0 0 0)::(ka a r (IntKind.wrap .u8 (1+(IntKind.wrap .u8 r1))) l n o q s t c d e u m)::(ak,nO l n o q s t c d e u)::F26)∧Q (.returned ((kb r (IntKind.wrap .u8 (1+(IntKind.wrap .u8 r1))) l n o q s t c d e u m))) I25 F26)∨(∃a0:List PanicEntry,a9=.panicked a0∧∃F27:cR,List.Perm G17 ((ka b (⟨#[]⟩:Bs) 0 0 0 0 0 0 (⟨#[]⟩:Bs) none 0 0 0 0)::(ka a r (IntKind.wrap .u8 (1+(IntKind.wrap .u8 r1))) l n o q s t c d e u m)::(ak,nO l n o q s t c d e u)::F27)∧Q (.panicked a0) I25 F27)))))∨(∃a1:List PanicEntry,a7=.panicked a1∧∃F28:cR,List.Perm G15 ((ka b (⟨#[]⟩:Bs) 0 0 0 0 0 0 (⟨#[]⟩:Bs) none 0 0 0 0)::(ka a r (IntKind.wrap .u8 (1+(IntKind.wrap .u8 r1))) 0 0 0 0 0 (⟨#[]⟩:Bs) none 0 0 0 m)::(ak,nO l n o q s t c d e u)::F28)∧Q (.panicked a1) I21 F28))) (It r3 (∀an:Nat,∀(aL:Nat) (I26:cS),cS.le I20 I26→I26 aL=some (Obj.cells #[vs (⟨#[59]⟩:Bs)] 9 (0,0))→cX P 23 (#[vp (some p),vl (some ⟨aL,0,none⟩) 1 1]) I26 ((ka b (⟨#[]⟩:Bs) 0 0 0 0 0 0 (⟨#[]⟩:Bs) none 0 0 0 0)::(ka a r (IntKind.wrap .u8 (1+(IntKind.wrap .u8 r1))) 5 1 0 0 0 (⟨#[]⟩:Bs) (some ⟨an,0,none⟩) 1 1 m1 m)::(ak,nO 5 1 0 0 0 (⟨#[]⟩:Bs) (some ⟨an,0,none⟩) 1 1 m1)::((an,nO l n o q s t c d e u)::F22)) fun ba I27 G18=>((∃(bi:Int),ba=.returned (vi bi)∧∃F29:cR,List.Perm G18 ((ka b (⟨#[]⟩:Bs) 0 0 0 0 0 0 (⟨#[]⟩:Bs) none 0 0 0 0)::(ka a r (IntKind.wrap .u8 (1+(IntKind.wrap .u8 r1))) 5 1 0 0 0 (⟨#[]⟩:Bs) (some ⟨an,0,none⟩) 1 1 m1 m)::(ak,nO 5 1 0 0 0 (⟨#[]⟩:Bs) (some ⟨an,0,none⟩) 1 1 m1)::F29)∧Q (.returned ((kb r (IntKind.wrap .u8 (1+(IntKind.wrap .u8 r1))) 5 1 0 0 0 (⟨#[]⟩:Bs) (some ⟨an,0,none⟩) 1 1 m1 m))) I27 F29)∨(∃av:List PanicEntry,ba=.panicked av∧∃F30:cR,List.Perm G18 ((ka b (⟨#[]⟩:Bs) 0 0 0 0 0 0 (⟨#[]⟩:Bs) none 0 0 0 0)::(ka a r (IntKind.wrap .u8 (1+(IntKind.wrap .u8 r1))) 5 1 0 0 0 (⟨#[]⟩:Bs) (some ⟨an,0,none⟩) 1 1 m1 m)::(ak,nO 5 1 0 0 0 (⟨#[]⟩:Bs) (some ⟨an,0,none⟩) 1 1 m1)::F30)∧Q (.panicked av) I27 F30))) (∀(aM:Nat) (I28:cS),cS.le I20 I28→I28 aM=some (Obj.cells #[vs (⟨#[59]⟩:Bs)] 9 (0,0))→cX P 23 (#[vp (some p),vl (some ⟨aM,0,none⟩) 1 1]) I28 ((ka b (⟨#[]⟩:Bs) 0 0 0 0 0 0 (⟨#[]⟩:Bs) none 0 0 0 0)::(ka a r (IntKind.wrap .u8 (1+(IntKind.wrap .u8 r1))) l n o q s t c d e u m)::(ak,nO l n o q s t c d e u)::F22) fun bb I29 G19=>((∃(bj:Int),bb=.returned (vi bj)∧∃F31:cR,List.Perm G19 ((ka b (⟨#[]⟩:Bs) 0 0 0 0 0 0 (⟨#[]⟩:Bs) none 0 0 0 0)::(ka a r (IntKind.wrap .u8 (1+(IntKind.wrap .u8 r1))) l n o q s t c d e u m)::(ak,nO l n o q s t c d e u)::F31)∧Q (.returned ((kb r (IntKind.wrap .u8 (1+(IntKind.wrap .u8 r1))) l n o q s t c d e u m))) I29 F31)∨(∃aw:List PanicEntry,bb=.panicked aw∧∃F32:cR,List.Perm G19 ((ka b (⟨#[]⟩:Bs) 0 0 0 0 0 0 (⟨#[]⟩:Bs) none 0 0 0 0)::(ka a r (IntKind.wrap .u8 (1+(IntKind.wrap .u8 r1))) l n o q s t c d e u m)::(ak,nO l n o q s t c d e u)::F32)∧Q (.panicked aw) I29 F32))))))∨(∃ax:List PanicEntry,a6=.panicked ax∧∃F33:cR,List.Perm G14 ((ka b (⟨#[]⟩:Bs) 0 0 0 0 0 0 (⟨#[]⟩:Bs) none 0 0 0 0)::(ka a r (IntKind.wrap .u8 (1+(IntKind.wrap .u8 r1))) 0 0 0 0 0 (⟨#[]⟩:Bs) none 0 0 0 m)::F33)∧Q (.panicked ax) I20 F33)))))∨(∃ay:List PanicEntry,e6=.panicked ay∧∃F34:cR,List.Perm G6 ((ka b (⟨#[]⟩:Bs) 0 0 0 0 0 0 (⟨#[]⟩:Bs) none 0 0 0 0)::(ka a r (IntKind.wrap .u8 (1+(IntKind.wrap .u8 r1))) 0 0 0 0 0 (⟨#[]⟩:Bs) none 0 0 0 m)::F34)∧Q (.panicked ay) I8 F34))) (cX P 45 (#[vp (some p)]) (cS.del I7 hb) ((ka b (⟨#[]⟩:Bs) 0 0 0 0 0 0 (⟨#[]⟩:Bs) none 0 0 0 0)::(ka a r (IntKind.wrap .u8 (1+(IntKind.wrap .u8 r1))) 0 0 0 0 0 (⟨#[]⟩:Bs) none 0 0 0 m)::((hb,ho)::F6)) fun bc I30 G20=>((∃(v w x y z:Int) (aa:Bs) (f:OA) (g h:Nat) (ab:Int) (au:Bool),bc=.returned (.tuple #[nV v w x y z aa f g h ab,vt au])∧∃F35:cR,List.Perm G20 ((ka b (⟨#[]⟩:Bs) 0 0 0 0 0 0 (⟨#[]⟩:Bs) none 0 0 0 0)::(ka a r (IntKind.wrap .u8 (1+(IntKind.wrap .u8 r1))) 0 0 0 0 0 (⟨#[]⟩:Bs) none 0 0 0 m)::F35)∧∀al:Nat,(It (!au) (cX P 19 (#[vp (some p),vi 130]) I30 ((ka b (⟨#[]⟩:Bs) 0 0 0 0 0 0 (⟨#[]⟩:Bs) none 0 0 0 0)::(ka a r (IntKind.wrap .u8 (1+(IntKind.wrap .u8 r1))) 0 0 0 0 0 (⟨#[]⟩:Bs) none 0 0 0 m)::(al,nO v w x y z aa f g h ab)::F35) fun bd I31 G21=>((bd=.returned (.tuple #[])∧∃F36:cR,List.Perm G21 ((ka b (⟨#[]⟩:Bs) 0 0 0 0 0 0 (⟨#[]⟩:Bs) none 0 0 0 0)::(ka a r (IntKind.wrap .u8 (1+(IntKind.wrap .u8 r1))) 0 0 0 0 0 (⟨#[]⟩:Bs) none 0 0 0 m)::(al,nO v w x y z aa f g h ab)::F36)∧(It r3 (∀ao:Nat,∀(aN:Nat) (I32:cS),cS.le I31 I32→I32 aN=some (Obj.cells #[vs (⟨#[59]⟩:Bs)] 9 (0,0))→cX P 23 (#[vp (some p),vl (some ⟨aN,0,none⟩) 1 1]) I32 ((ka b (⟨#[]⟩:Bs) 0 0 0 0 0 0 (⟨#[]⟩:Bs) none 0 0 0 0)::(ka a r (IntKind.wrap .u8 (1+(IntKind.wrap .u8 r1))) 5 1 0 0 0 (⟨#[]⟩:Bs) (some ⟨ao,0,none⟩) 1 1 m1 m)::(al,nO 5 1 0 0 0 (⟨#[]⟩:Bs) (some ⟨ao,0,none⟩) 1 1 m1)::((ao,nO v w x y z aa f g h ab)::F36)) fun be I33 G22=>((∃(bk:Int),be=.returned (vi bk)∧∃F37:cR,List.Perm G22 ((ka b (⟨#[]⟩:Bs) 0 0 0 0 0 0 (⟨#[]⟩:Bs) none 0 0 0 0)::(ka a r (IntKind.wrap .u8 (1+(IntKind.wrap .u8 r1))) 5 1 0 0 0 (⟨#[]⟩:Bs) (some ⟨ao,0,none⟩) 1 1 m1 m)::(al,nO 5 1 0 0 0 (⟨#[]⟩:Bs) (some ⟨ao,0,none⟩) 1 1 m1)::F37)∧Q (.returned ((kb r (IntKind.wrap .u8 (1+(IntKind.wrap .u8 r1))) 5 1 0 0 0 (⟨#[]⟩:Bs) (some ⟨ao,0,none⟩) 1 1 m1 m))) I33 F37)∨(∃az:List PanicEntry,be=.panicked az∧∃F38:cR,List.Perm G22 ((ka b (⟨#[]⟩:Bs) 0 0 0 0 0 0 (⟨#[]⟩:Bs) none 0 0 0 0)::(ka a r (IntKind.wrap .u8 (1+(IntKind.wrap .u8 r1))) 5 1 0 0 0 (⟨#[]⟩:Bs) (some ⟨ao,0,none⟩) 1 1 m1 m)::(al,nO 5 1 0 0 0 (⟨#[]⟩:Bs) (some ⟨ao,0,none⟩) 1 1 m1)::F38)∧Q (.panicked az) I33 F38))) (∀(aO:Nat) (I34:cS),cS.le I31 I34→I34 aO=some (Obj.cells #[vs (⟨#[59]⟩:Bs)] 9 (0,0))→cX P 23 (#[vp (some p),vl (some ⟨aO,0,none⟩) 1 1]) I34 ((ka b (⟨#[]⟩:Bs) 0 0 0 0 0 0 (⟨#[]⟩:Bs) none 0 0 0 0)::(ka a r (IntKind.wrap .u8 (1+(IntKind.wrap .u8 r1))) v w x y z aa f g h ab m)::(al,nO v w x y z aa f g h ab)::F36) fun bf I35 G23=>((∃(bl:Int),bf=.returned (vi bl)∧∃F39:cR,List.Perm G23 ((ka b (⟨#[]⟩:Bs) 0 0 0 0 0 0 (⟨#[]⟩:Bs) none 0 0 0 0)::(ka a r (IntKind.wrap .u8 (1+(IntKind.wrap .u8 r1))) v w x y z aa f g h ab m)::(al,nO v w x y z aa f g h ab)::F39)∧Q (.returned ((kb r (IntKind.wrap .u8 (1+(IntKind.wrap .u8 r1))) v w x y z aa f g h ab m))) I35 F39)∨(∃aA:List PanicEntry,bf=.panicked aA∧∃F40:cR,List.Perm G23 ((ka b (⟨#[]⟩:Bs) 0 0 0 0 0 0 (⟨#[]⟩:Bs) none 0 0 0 0)::(ka a r (IntKind.wrap .u8 (1+(IntKind.wrap .u8 r1))) v w x y z aa f g h ab m)::(al,nO v w x y z aa f g h ab)::F40)∧Q (.panicked aA) I35 F40)))))∨(∃aB:List PanicEntry,bd=.panicked aB∧∃F41:cR,List.Perm G21 ((ka b (⟨#[]⟩:Bs) 0 0 0 0 0 0 (⟨#[]⟩:Bs) none 0 0 0 0)::(ka a r (IntKind.wrap .u8 (1+(IntKind.wrap .u8 r1))) 0 0 0 0 0 (⟨#[]⟩:Bs) none 0 0 0 m)::(al,nO v w x y z aa f g h ab)::F41)∧Q (.panicked aB) I31 F41))) (It r3 (∀ap:Nat,∀(aP:Nat) (I36:cS),cS.le I30 I36→I36 aP=some (Obj.cells #[vs (⟨#[59]⟩:Bs)] 9 (0,0))→cX P 23 (#[vp (some p),vl (some ⟨aP,0,none⟩) 1 1]) I36 ((ka b (⟨#[]⟩:Bs) 0 0 0 0 0 0 (⟨#[]⟩:Bs) none 0 0 0 0)::(ka a r (IntKind.wrap .u8 (1+(IntKind.wrap .u8 r1))) 5 1 0 0 0 (⟨#[]⟩:Bs) (some ⟨ap,0,none⟩) 1 1 m1 m)::(al,nO 5 1 0 0 0 (⟨#[]⟩:Bs) (some ⟨ap,0,none⟩) 1 1 m1)::((ap,nO v w x y z aa f g h ab)::F35)) fun bg I37 G24=>((∃(bm:Int),bg=.returned (vi bm)∧∃F42:cR,List.Perm G24 ((ka b (⟨#[]⟩:Bs) 0 0 0 0 0 0 (⟨#[]⟩:Bs) none 0 0 0 0)::(ka a r (IntKind.wrap .u8 (1+(IntKind.wrap .u8 r1))) 5 1 0 0 0 (⟨#[]⟩:Bs) (some ⟨ap,0,none⟩) 1 1 m1 m)::(al,nO 5 1 0 0 0 (⟨#[]⟩:Bs) (some ⟨ap,0,none⟩) 1 1 m1)::F42)∧Q (.returned ((kb r (IntKind.wrap .u8 (1+(IntKind.wrap .u8 r1))) 5 1 0 0 0 (⟨#[]⟩:Bs) (some ⟨ap,0,none⟩) 1 1 m1 m))) I37 F42)∨(∃aC:List PanicEntry,bg=.panicked aC∧∃F43:cR,List.Perm G24 ((ka b (⟨#[]⟩:Bs) 0 0 0 0 0 0 (⟨#[]⟩:Bs) none 0 0 0 0)::(ka a r (IntKind.wrap .u8 (1+(IntKind.wrap .u8 r1))) 5 1 0 0 0 (⟨#[]⟩:Bs) (some ⟨ap,0,none⟩) 1 1 m1 m)::(al,nO 5 1 0 0 0 (⟨#[]⟩:Bs) (some ⟨ap,0,none⟩) 1 1 m1)::F43)∧Q (.panicked aC) I37 F43))) (∀(aQ:Nat) (I38:cS),cS.le I30 I38→I38 aQ=some (Obj.cells #[vs (⟨#[59]⟩:Bs)] 9 (0,0))→cX P 23 (#[vp (some p),vl (some ⟨aQ,0,none⟩) 1 1]) I38 ((ka b (⟨#[]⟩:Bs) 0 0 0 0 0 0 (⟨#[]⟩:Bs) none 0 0 0 0)::(ka a r (IntKind.wrap .u8 (1+(IntKind.wrap .u8 r1))) v w x y z aa f g h ab m)::(al,nO v w x y z aa f g h ab)::F35) fun bh I39 G25=>((∃(bn:Int),bh=.returned (vi bn)∧∃F44:cR,List.Perm G25 ((ka b (⟨#[]⟩:Bs) 0 0 0 0 0 0 (⟨#[]⟩:Bs) none 0 0 0 0)::(ka a r (IntKind.wrap .u8 (1+(IntKind.wrap .u8 r1))) v w x y z aa f g h ab m)::(al,nO v w x y z aa f g h ab)::F44)∧Q (.returned ((kb r (IntKind.wrap .u8 (1+(IntKind.wrap .u8 r1))) v w x y z aa f g h ab m))) I39 F44)∨(∃aD:List PanicEntry,bh=.panicked aD∧∃F45:cR,List.Perm G25 ((ka b (⟨#[]⟩:Bs) 0 0 0 0 0 0 (⟨#[]⟩:Bs) none 0 0 0 0)::(ka a r (IntKind.wrap .u8 (1+(IntKind.wrap .u8 r1))) v w x y z aa f g h ab m)::(al,nO v w x y z aa f g h ab)::F45)∧Q (.panicked aD) I39 F45))))))∨(∃aE:List PanicEntry,bc=.panicked aE∧∃F46:cR,List.Perm G20 ((ka b (⟨#[]⟩:Bs) 0 0 0 0 0 0 (⟨#[]⟩:Bs) none 0 0 0 0)::(ka a r (IntKind.wrap .u8 (1+(IntKind.wrap .u8 r1))) 0 0 0 0 0 (⟨#[]⟩:Bs) none 0 0 0 m)::F46)∧Q (.panicked aE) I30 F46)))))∨(∃aF:List PanicEntry,e4=.panicked aF∧∃F47:cR,List.Perm G4 ((ka b (⟨#[]⟩:Bs) 0 0 0 0 0 0 (⟨#[]⟩:Bs) none 0 0 0 0)::(ka a r (IntKind.wrap .u8 (1+(IntKind.wrap .u8 r1))) 0 0 0 0 0 (⟨#[]⟩:Bs) none 0 0 0 m)::F47)∧Q (.panicked aF) I6 F47)))∨(∃aG:List PanicEntry,e3=.panicked aG∧∃F48:cR,List.Perm G3 ((ka b (⟨#[]⟩:Bs) 0 0 0 0 0 0 (⟨#[]⟩:Bs) none 0 0 0 0)::(ka a r 0 0 0 0 0 0 (⟨#[]⟩:Bs) none 0 0 0 m)::F48)∧Q (.panicked aG) I4 F48)))∨(∃aH:List PanicEntry,e2=.panicked aH∧∃F49:cR,List.Perm G2 ((ka b (⟨#[]⟩:Bs) 0 0 0 0 0 0 (⟨#[]⟩:Bs) none 0 0 0 0)::(ka a (⟨#[]⟩:Bs) 0 0 0 0 0 0 (⟨#[]⟩:Bs) none 0 0 0 m)::F49)∧Q (.panicked aH) I2 F49)))∨(∃aI:List PanicEntry,e1=.panicked aI∧∃F50:cR,List.Perm G1 ((ka b (⟨#[]⟩:Bs) 0 0 0 0 0 0 (⟨#[]⟩:Bs) none 0 0 0 0)::(ka a (⟨#[]⟩:Bs) 0 0 0 0 0 0 (⟨#[]⟩:Bs) none 0 0 0 m)::F50)∧Q (.panicked aI) I1 F50))
theorem gw.vc{p:Addr}{I:cS}{F:cR}{Q:cZ}  (h:gw.V (fun W a b c d e f g h i j k l m=>(W,Obj.cells #[.string a,.int .u8 b,.int .u8 c,.int .u8 d,.int .u8 e,.int .i64 f,.int .u8 g,.string h,.slice i j k,.int .i64 l,.int .i64 m] 92 (0,0))) (fun a b c d e f g h i j k l m=>.agg #[.string a,.int .u8 b,.int .u8 c,.int .u8 d,.int .u8 e,.int .i64 f,.int .u8 g,.string h,.slice i j k,.int .i64 l,.int .i64 m]) (fun k o t n f s a l c q=>.agg #[.int .u8 k,.int .u8 o,.int .u8 t,.int .i64 n,.int .u8 f,.string s,.slice a l c,.int .i64 q]) (fun k o t n f s a l c q=>.cells #[.int .u8 k,.int .u8 o,.int .u8 t,.int .i64 n,.int .u8 f,.string s,.slice a l c,.int .i64 q] 29 (0,0)) (.int .u8) (.int .i64) .string .slice .bool .pointer p I F Q):cX P 31 #[.pointer (some p)] I F Q :=
 tw (A:=(fP [7000,9005,12001,14000] [18,19,23,29,45] [18,19,21,23,29,45] jV [] [4001,5001,17001] [15001] [] [] [(6,[0,1,2,3,5,4,6,7,8])] [] [] [(6,[4,1000],9)])) [18,19,21,23,29,45] func31 h
def fW.V(ka:Nat→Bs→Int→Nat×Obj)(vi:Int→Value)(vs:Bs→Value)(p:Addr)(I:cS)(F:cR)(Q:cZ)  : Prop:=∀b:Nat,∃ad:Addr,some p=some ad∧∃(m:Int),Rd I ((ka b (⟨#[]⟩:Bs) 0)::F) ((ad.add 1).add 4) [vi m]∧∀a:Nat,cX P 18 (#[.pointer (some p)]) I ((ka b (⟨#[]⟩:Bs) 0)::(ka a (⟨#[]⟩:Bs) m)::F) fun e1 I1 G1=>((e1=.returned (.tuple #[])∧∃F1:cR,List.Perm G1 ((ka b (⟨#[]⟩:Bs) 0)::(ka a (⟨#[]⟩:Bs) m)::F1)∧cX P 29 (#[.pointer (some p)]) I1 ((ka b (⟨#[]⟩:Bs) 0)::(ka a (⟨#[]⟩:Bs) m)::F1) fun e2 I2 G2=>((∃(r:Bs),e2=.returned (vs r)∧∃F2:cR,List.Perm G2 ((ka b (⟨#[]⟩:Bs) 0)::(ka a (⟨#[]⟩:Bs) m)::F2)∧∀(b1:Nat) (I3:cS),cS.le I2 I3→I3 b1=some (Obj.cells #[vs (⟨#[59]⟩:Bs)] 9 (0,0))→cX P 23 (#[.pointer (some p),.slice (some ⟨b1,0,none⟩) 1 1]) I3 ((ka b (⟨#[]⟩:Bs) 0)::(ka a r m)::F2) fun e3 I4 G3=>((∃(r1:Int),e3=.returned (vi r1)∧∃F3:cR,List.Perm G3 ((ka b (⟨#[]⟩:Bs) 0)::(ka a r m)::F3)∧Q (.returned (.agg #[vs r,vi m])) I4 F3)∨(∃ch:List PanicEntry,e3=.panicked ch∧∃F4:cR,List.Perm G3 ((ka b (⟨#[]⟩:Bs) 0)::(ka a r m)::F4)∧Q (.panicked ch) I4 F4)))∨(∃c:List PanicEntry,e2=.panicked c∧∃F5:cR,List.Perm G2 ((ka b (⟨#[]⟩:Bs) 0)::(ka a (⟨#[]⟩:Bs) m)::F5)∧Q (.panicked c) I2 F5)))∨(∃d:List PanicEntry,e1=.panicked d∧∃F6:cR,List.Perm G1 ((ka b (⟨#[]⟩:Bs) 0)::(ka a (⟨#[]⟩:Bs) m)::F6)∧Q (.panicked d) I1 F6))
theorem fW.vc{p:Addr}{I:cS}{F:cR}{Q:cZ}  (h:fW.V (fun W a b=>(W,Obj.cells #[.string a,.int .i64 b] 97 (0,0))) (.int .i64) .string p I F Q):cX P 33 #[.pointer (some p)] I F Q :=
 tw (A:=(fP [] [18,23,29] [18,23,29] jV [] [4001] [] [] [] [] [])) [18,23,29] func33 h
def gI.V(ka:Nat→Int→Int→Bs→Int→Int→Int→Int→Int→Bs→OA→Nat→Nat→Int→Int→Int→Int→Int→Int→Bs→OA→Nat→Nat→Int→Int→Int→Int→Int→Int→Bs→OA→Nat→Nat→Int→Int→Int→Int→Int→Int→Bs→OA→Nat→Nat→Int→Int→Nat×Obj)(kb:Int→Int→Bs→Int→Int→Int→Int→Int→Bs→OA→Nat→Nat→Int→Int→Int→Int→Int→Int→Bs→OA→Nat→Nat→Int→Int→Int→Int→Int→Int→Bs→OA→Nat→Nat→Int→Int→Int→Int→Int→Int→Bs→OA→Nat→Nat→Int→Int→Value)(nV:Int→Int→Int→Int→Int→Bs→OA→Nat→Nat→Int→Value)(vb vi:Int→Value)(vs:Bs→Value)(vl:OA→Nat→Nat→Value)(vp:OA→Value)(p:Addr)(I:cS)(F:cR)(Q:cZ)  : Prop:=∀b:Nat,∃ad:Addr,some p=some ad∧∃(m:Int),Rd I ((ka b 0 0 (⟨#[]⟩:Bs) 0 0 0 0 0 (⟨#[]⟩:Bs) none 0 0 0 0 0 0 0 0 (⟨#[]⟩:Bs) none 0 0 0 0 0 0 0 0 (⟨#[]⟩:Bs) none 0 0 0 0 0 0 0 0 (⟨#[]⟩:Bs) none 0 0 0 0)::F) ((ad.add 1).add 4) [vi m]∧∀a:Nat,∀(b1:Nat) (I1:cS),cS.le I I1→I1 b1=some (Obj.cells #[vs (⟨#[115,117,98,109,105,116]⟩:Bs),vs (⟨#[97,109,101,110,100]⟩:Bs),vs (⟨#[99,97,110,99,101,108]⟩:Bs),vs (⟨#[115,101,116]⟩:Bs),vs (⟨#[103,111,116,111]⟩:Bs),vs (⟨#[104,97,108,116]⟩:Bs)] 9 (0,0))→cX P 23 (#[vp (some p),vl (some ⟨b1,0,none⟩) 6 6]) I1 ((ka b 0 0 (⟨#[]⟩:Bs) 0 0 0 0 0 (⟨#[]⟩:Bs) none 0 0 0 0 0 0 0 0 (⟨#[]⟩:Bs) none 0 0 0 0 0 0 0 0 (⟨#[]⟩:Bs) none 0 0 0 0 0 0 0 0 (⟨#[]⟩:Bs) none 0 0 0 0)::(ka a 0 0 (⟨#[]⟩:Bs) 0 0 0 0 0 (⟨#[]⟩:Bs) none 0 0 0 0 0 0 0 0 (⟨#[]⟩:Bs) none 0 0 0 0 0 0 0 0 (⟨#[]⟩:Bs) none 0 0 0 0 0 0 0 0 (⟨#[]⟩:Bs) none 0 0 0 m)::F) fun e1 I2 G1=>((∃(r:Int),e1=.returned (vi r)∧∃F1:cR,List.Perm G1 ((ka b 0 0 (⟨#[]⟩:Bs) 0 0 0 0 0 (⟨#[]⟩:Bs) none 0 0 0 0 0 0 0 0 (⟨#[]⟩:Bs) none 0 0 0 0 0 0 0 0 (⟨#[]⟩:Bs) none 0 0 0 0 0 0 0 0 (⟨#[]⟩:Bs) none 0 0 0 0)::(ka a 0 0 (⟨#[]⟩:Bs) 0 0 0 0 0 (⟨#[]⟩:Bs) none 0 0 0 0 0 0 0 0 (⟨#[]⟩:Bs) none 0 0 0 0 0 0 0 0 (⟨#[]⟩:Bs) none 0 0 0 0 0 0 0 0 (⟨#[]⟩:Bs) none 0 0 0 m)::F1)∧(It ((IntKind.wrap .u8 (1+(IntKind.wrap .u8 r)))==1) (cX P 13 (#[vp (some p),vi 0]) I2 ((ka b 0 0 (⟨#[]⟩:Bs) 0 0 0 0 0 (⟨#[]⟩:Bs) none 0 0 0 0 0 0 0 0 (⟨#[]⟩:Bs) none 0 0 0 0 0 0 0 0 (⟨#[]⟩:Bs) none 0 0 0 0 0 0 0 0 (⟨#[]⟩:Bs) none 0 0 0 0)::(ka a (IntKind.wrap .u8 (1+(IntKind.wrap .u8 r))) 0 (⟨#[]⟩:Bs) 0 0 0 0 0 (⟨#[]⟩:Bs) none 0 0 0 0 0 0 0 0 (⟨#[]⟩:Bs) none 0 0 0 0 0 0 0 0 (⟨#[]⟩:Bs) none 0 0 0 0 0 0 0 0 (⟨#[]⟩:Bs) none 0 0 0 m)::F1) fun e2 I3 G2=>((∃(s t u v w:Int) (x:Bs) (f:OA) (g h:Nat) (y:Int),e2=.returned (nV s t u v w x f g h y)∧∃F2:cR,List.Perm G2 ((ka b 0 0 (⟨#[]⟩:Bs) 0 0 0 0 0 (⟨#[]⟩:Bs) none 0 0 0 0 0 0 0 0 (⟨#[]⟩:Bs) none 0 0 0 0 0 0 0 0 (⟨#[]⟩:Bs) none 0 0 0 0 0 0 0 0 (⟨#[]⟩:Bs) none 0 0 0 0)::(ka a (IntKind.wrap .u8 (1+(IntKind.wrap .u8 r))) 0 (⟨#[]⟩:Bs) 0 0 0 0 0 (⟨#[]⟩:Bs) none 0 0 0 0 0 0 0 0 (⟨#[]⟩:Bs) none 0 0 0 0 0 0 0 0 (⟨#[]⟩:Bs) none 0 0 0 0 0 0 0 0 (⟨#[]⟩:Bs) none 0 0 0 m)::F2)∧∀(b2:Nat) (I4:cS),cS.le I3 I4→I4 b2=some (Obj.cells #[vs (⟨#[111,102]⟩:Bs)] 9 (0,0))→cX P 23 (#[vp (some p),vl (some ⟨b2,0,none⟩) 1 1]) I4 ((ka b 0 0 (⟨#[]⟩:Bs) 0 0 0 0 0 (⟨#[]⟩:Bs) none 0 0 0 0 0 0 0 0 (⟨#[]⟩:Bs) none 0 0 0 0 0 0 0 0 (⟨#[]⟩:Bs) none 0 0 0 0 0 0 0 0 (⟨#[]⟩:Bs) none 0 0 0 0)::(ka a (IntKind.wrap .u8 (1+(IntKind.wrap .u8 r))) 0 (⟨#[]⟩:Bs) s t u v w x f g h y 0 0 0 0 0 (⟨#[]⟩:Bs) none 0 0 0 0 0 0 0 0 (⟨#[]⟩:Bs) none 0 0 0 0 0 0 0 0 (⟨#[]⟩:Bs) none 0 0 0 m)::F2) fun e3 I5 G3=>((∃(r1:Int),e3=.returned (vi r1)∧∃F3:cR,List.Perm G3 ((ka b 0 0 (⟨#[]⟩:Bs) 0 0 0 0 0 (⟨#[]⟩:Bs) none 0 0 0 0 0 0 0 0 (⟨#[]⟩:Bs) none 0 0 0 0 0 0 0 0 (⟨#[]⟩:Bs) none 0 0 0 0 0 0 0 0 (⟨#[]⟩:Bs) none 0 0 0 0)::(ka a (IntKind.wrap .u8 (1+(IntKind.wrap .u8 r))) 0 (⟨#[]⟩:Bs) s t u v w x f g h y 0 0 0 0 0 (⟨#[]⟩:Bs) none 0 0 0 0 0 0 0 0 (⟨#[]⟩:Bs) none 0 0 0 0 0 0 0 0 (⟨#[]⟩:Bs) none 0 0 0 m)::F3)∧cX P 13 (#[vp (some p),vi 0]) I5 ((ka b 0 0 (⟨#[]⟩:Bs) 0 0 0 0 0 (⟨#[]⟩:Bs) none 0 0 0 0 0 0 0 0 (⟨#[]⟩:Bs) none 0 0 0 0 0 0 0 0 (⟨#[]⟩:Bs) none 0 0 0 0 0 0 0 0 (⟨#[]⟩:Bs) none 0 0 0 0)::(ka a (IntKind.wrap .u8 (1+(IntKind.wrap .u8 r))) 0 (⟨#[]⟩:Bs) s t u v w x f g h y 0 0 0 0 0 (⟨#[]⟩:Bs) none 0 0 0 0 0 0 0 0 (⟨#[]⟩:Bs) none 0 0 0 0 0 0 0 0 (⟨#[]⟩:Bs) none 0 0 0 m)::F3) fun e4 I6 G4=>((∃(i j k l n:Int) (o:Bs) (c:OA) (d e:Nat) (q:Int),e4=.returned (nV i j k l n o c d e q)∧∃F4:cR,List.Perm G4 ((ka b 0 0 (⟨#[]⟩:Bs) 0 0 0 0 0 (⟨#[]⟩:Bs) none 0 0 0 0 0 0 0 0 (⟨#[]⟩:Bs) none 0 0 0 0 0 0 0 0 (⟨#[]⟩:Bs) none 0 0 0 0 0 0 0 0 (⟨#[]⟩:Bs) none 0 0 0 0)::(ka a (IntKind.wrap .u8 (1+(IntKind.wrap .u8 r))) 0 (⟨#[]⟩:Bs) s t u v w x f g h y 0 0 0 0 0 (⟨#[]⟩:Bs) none 0 0 0 0 0 0 0 0 (⟨#[]⟩:Bs) none 0 0 0 0 0 0 0 0 (⟨#[]⟩:Bs) none 0 0 0 m)::F4)∧∀(b3:Nat) (I7:cS),cS.le I6 I7→I7 b3=some (Obj.cells #[vs (⟨#[109,97,114,107,101,116]⟩:Bs),vs (⟨#[97,116]⟩:Bs)] 9 (0,0))→cX P 23 (#[vp (some p),vl (some ⟨b3,0,none⟩) 2 2]) I7 ((ka b 0 0 (⟨#[]⟩:Bs) 0 0 0 0 0 (⟨#[]⟩:Bs) none 0 0 0 0 0 0 0 0 (⟨#[]⟩:Bs) none 0 0 0 0 0 0 0 0 (⟨#[]⟩:Bs) none 0 0 0 0 0 0 0 0 (⟨#[]⟩:Bs) none 0 0 0 0)::(ka a (IntKind.wrap .u8 (1+(IntKind.wrap .u8 r))) 2 (⟨#[]⟩:Bs) s t u v w x f g h y i j k l n o c d e q 0 0 0 0 0 (⟨#[]⟩:Bs) none 0 0 0 0 0 0 0 0 (⟨#[]⟩:Bs) none 0 0 0 m)::F4) fun e5 I8 G5=>((∃(r2:Int),e5=.returned (vi r2)∧∃F5:cR,List.Perm G5 ((ka b 0 0 (⟨#[]⟩:Bs) 0 0 0 0 0 (⟨#[]⟩:Bs) none 0 0 0 0 0 0 0 0 (⟨#[]⟩:Bs) none 0 0 0 0 0 0 0 0 (⟨#[]⟩:Bs) none 0 0 0 0 0 0 0 0 (⟨#[]⟩:Bs) none 0 0 0 0)::(ka a (IntKind.wrap .u8 (1+(IntKind.wrap .u8 r))) 2 (⟨#[]⟩:Bs) s t u v w x f g h y i j k l n o c d e q 0 0 0 0 0 (⟨#[]⟩:Bs) none 0 0 0 0 0 0 0 0 (⟨#[]⟩:Bs) none 0 0 0 m)::F5)∧(It (r2==1) (cX P 13 (#[vp (some p),vi 0]) I8 ((ka b 0 0 (⟨#[]⟩:Bs) 0 0 0 0 0 (⟨#[]⟩:Bs) none 0 0 0 0 0 0 0 0 (⟨#[]⟩:Bs) none 0 0 0 0 0 0 0 0 (⟨#[]⟩:Bs) none 0 0 0 0 0 0 0 0 (⟨#[]⟩:Bs) none 0 0 0 0)::(ka a (IntKind.wrap .u8 (1+(IntKind.wrap .u8 r))) 2 (⟨#[]⟩:Bs) s t u v w x f g h y i j k l n o c d e q 0 0 0 0 0 (⟨#[]⟩:Bs) none 0 0 0 0 0 0 0 0 (⟨#[]⟩:Bs) none 0 0 0 m)::F5) fun e6 I9 G6=>((∃(ac ae af ag ah:Int) (ai:Bs) (z:OA) (aa ab:Nat) (aj:Int),e6=.returned (nV ac ae af ag ah ai z aa ab aj)∧∃F6:cR,List.Perm G6 ((ka b 0 0 (⟨#[]⟩:Bs) 0 0 0 0 0 (⟨#[]⟩:Bs) none 0 0 0 0 0 0 0 0 (⟨#[]⟩:Bs) none 0 0 0 0 0 0 0 0 (⟨#[]⟩:Bs) none 0 0 0 0 0 0 0 0 (⟨#[]⟩:Bs) none 0 0 0 0)::(ka a (IntKind.wrap .u8 (1+(IntKind.wrap .u8 r))) 2 (⟨#[]⟩:Bs) s t u v w x f g h y i j k l n o c d e q 0 0 0 0 0 (⟨#[]⟩:Bs) none 0 0 0 0 0 0 0 0 (⟨#[]⟩:Bs) none 0 0 0 m)::F6)∧∀(b4:Nat) (I10:cS),cS.le I9 I10→I10 b4=some (Obj.cells #[vb 1,vb 3,vb 4,vb 5] 138 (0,0))→∀(b5:Nat) (I11:cS),cS.le I10 I11→I11 b5=some (Obj.cells #[vs (⟨#[108,105,109,105,116]⟩:Bs),vs (⟨#[105,111,99]⟩:Bs),vs (⟨#[102,111,107]⟩:Bs),vs (⟨#[112,111,115,116]⟩:Bs)] 9 (0,0))→cX P 23 (#[vp (some p),vl (some ⟨b5,0,none⟩) 4 4]) I11 ((ka b 0 0 (⟨#[]⟩:Bs) 0 0 0 0 0 (⟨#[]⟩:Bs) none 0 0 0 0 0 0 0 0 (⟨#[]⟩:Bs) none 0 0 0 0 0 0 0 0 (⟨#[]⟩:Bs) none 0 0 0 0 0 0 0 0 (⟨#[]⟩:Bs) none 0 0 0 0)::(ka a (IntKind.wrap .u8 (1+(IntKind.wrap .u8 r))) 2 (⟨#[]⟩:Bs) s t u v w x f g h y i j k l n o c d e q ac ae af ag ah ai z aa ab aj 0 0 0 0 0 (⟨#[]⟩:Bs) none 0 0 0 m)::F6) fun e7 I12 G7=>((∃(r3:Int),e7=.returned (vi r3)∧∃F7:cR,List.Perm G7 ((ka b 0 0 (⟨#[]⟩:Bs) 0 0 0 0 0 (⟨#[]⟩:Bs) none 0 0 0 0 0 0 0 0 (⟨#[]⟩:Bs) none 0 0 0 0 0 0 0 0 (⟨#[]⟩:Bs) none 0 0 0 0 0 0 0 0 (⟨#[]⟩:Bs) none 0 0 0 0)::(ka a (IntKind.wrap .u8 (1+(IntKind.wrap .u8 r))) 2 (⟨#[]⟩:Bs) s t u v w x f g h y i j k l n o c d e q ac ae af ag ah ai z aa ab aj 0 0 0 0 0 (⟨#[]⟩:Bs) none 0 0 0 m)::F7)∧((0≤r3∧r3<(4:Int))∧∃a2:Addr,some ⟨b4,0,none⟩=some a2∧∃(m1:Int),Rd I12 ((ka b 0 0 (⟨#[]⟩:Bs) 0 0 0 0 0 (⟨#[]⟩:Bs) none 0 0 0 0 0 0 0 0 (⟨#[]⟩:Bs) none 0 0 0 0 0 0 0 0 (⟨#[]⟩:Bs) none 0 0 0 0 0 0 0 0 (⟨#[]⟩:Bs) none 0 0 0 0)::(ka a (IntKind.wrap .u8 (1+(IntKind.wrap .u8 r))) 2 (⟨#[]⟩:Bs) s t u v w x f g h y i j k l n o c d e q ac ae af ag ah ai z aa ab aj 0 0 0 0 0 (⟨#[]⟩:Bs) none 0 0 0 m)::F7) (a2.add (Int.toNat r3*1)) [vb m1]∧mM P 21 (#[vp (some p),vs (⟨#[97,115]⟩:Bs)]) I12 ((ka b 0 0 (⟨#[]⟩:Bs) 0 0 0 0 0 (⟨#[]⟩:Bs) none 0 0 0 0 0 0 0 0 (⟨#[]⟩:Bs) none 0 0 0 0 0 0 0 0 (⟨#[]⟩:Bs) none 0 0 0 0 0 0 0 0 (⟨#[]⟩:Bs) none 0 0 0 0)::(ka a (IntKind.wrap .u8 (1+(IntKind.wrap .u8 r))) m1 (⟨#[]⟩:Bs) s t u v w x f g h y i j k l n o c d e q ac ae af ag ah ai z aa ab aj 0 0 0 0 0 (⟨#[]⟩:Bs) none 0 0 0 m)::·) F7 .bool fun r4 I13 F8=>(It r4 (cX P 18 (#[vp (some p)]) I13 ((ka b 0 0 (⟨#[]⟩:Bs) 0 0 0 0 0 (⟨#[]⟩:Bs) none 0 0 0 0 0 0 0 0 (⟨#[]⟩:Bs) none 0 0 0 0 0 0 0 0 (⟨#[]⟩:Bs) none 0 0 0 0 0 0 0 0 (⟨#[]⟩:Bs) none 0 0 0 0)::(ka a (IntKind.wrap .u8 (1+(IntKind.wrap .u8 r))) m1 (⟨#[]⟩:Bs) s t u v w x f g h y i j k l n o c d e q ac ae af ag ah ai z aa ab aj 0 0 0 0 0 (⟨#[]⟩:Bs) none 0 0 0 m)::F8) fun e9 I14 G9=>((e9=.returned (.tuple #[])∧∃F9:cR,List.Perm G9 ((ka b 0 0 (⟨#[]⟩:Bs) 0 0 0 0 0 (⟨#[]⟩:Bs) none 0 0 0 0 0 0 0 0 (⟨#[]⟩:Bs) none 0 0 0 0 0 0 0 0 (⟨#[]⟩:Bs) none 0 0 0 0 0 0 0 0 (⟨#[]⟩:Bs) none 0 0 0 0)::(ka a (IntKind.wrap .u8 (1+(IntKind.wrap .u8 r))) m1 (⟨#[]⟩:Bs) s t u v w x f g h y i j k l n o c d e q ac ae af ag ah ai z aa ab aj 0 0 0 0 0 (⟨#[]⟩:Bs) none 0 0 0 m)::F9)∧cX P 29 (#[vp (some p)]) I14 ((ka b 0 0 (⟨#[]⟩:Bs) 0 0 0 0 0 (⟨#[]⟩:Bs) none 0 0 0 0 0 0 0 0 (⟨#[]⟩:Bs) none 0 0 0 0 0 0 0 0 (⟨#[]⟩:Bs) none 0 0 0 0 0 0 0 0 (⟨#[]⟩:Bs) none 0 0 0 0)::(ka a (IntKind.wrap .u8 (1+(IntKind.wrap .u8 r))) m1 (⟨#[]⟩:Bs) s t u v w x f g h y i j k l n o c d e q ac ae af ag ah ai z aa ab aj 0 0 0 0 0 (⟨#[]⟩:Bs) none 0 0 0 m)::F9) fun bc I15 G10=>((∃(r5:Bs),bc=.returned (vs r5)∧∃F10:cR,List.Perm G10 ((ka b 0 0 (⟨#[]⟩:Bs) 0 0 0 0 0 (⟨#[]⟩:Bs) none 0 0 0 0 0 0 0 0 (⟨#[]⟩:Bs) none 0 0 0 0 0 0 0 0 (⟨#[]⟩:Bs) none 0 0 0 0 0 0 0 0 (⟨#[]⟩:Bs) none 0 0 0 0)::(ka a (IntKind.wrap .u8 (1+(IntKind.wrap .u8 r))) m1 (⟨#[]⟩:Bs) s t u v w x f g h y i j k l n o c d e q ac ae af ag ah ai z aa ab aj 0 0 0 0 0 (⟨#[]⟩:Bs) none 0 0 0 m)::F10)∧Q (.returned ((kb (IntKind.wrap .u8 (1+(IntKind.wrap .u8 r))) m1 r5 s t u v w x f g h y i j k l n o c d e q ac ae af ag ah ai z aa ab aj 0 0 0 0 0 (⟨#[]⟩:Bs) none 0 0 0 m))) I15 F10)∨(∃ch:List PanicEntry,bc=.panicked ch∧∃F11:cR,List.Perm G10 ((ka b 0 0 (⟨#[]⟩:Bs) 0 0 0 0 0 (⟨#[]⟩:Bs) none 0 0 0 0 0 0 0 0 (⟨#[]⟩:Bs) none 0 0 0 0 0 0 0 0 (⟨#[]⟩:Bs) none 0 0 0 0 0 0 0 0 (⟨#[]⟩:Bs) none 0 0 0 0)::(ka a (IntKind.wrap .u8 (1+(IntKind.wrap .u8 r))) m1 (⟨#[]⟩:Bs) s t u v w x f g h y i j k l n o c d e q ac ae af ag ah ai z aa ab aj 0 0 0 0 0 (⟨#[]⟩:Bs) none 0 0 0 m)::F11)∧Q (.panicked ch) I15 F11)))∨(∃a3:List PanicEntry,e9=.panicked a3∧∃F12:cR,List.Perm G9 ((ka b 0 0 (⟨#[]⟩:Bs) 0 0 0 0 0 (⟨#[]⟩:Bs) none 0 0 0 0 0 0 0 0 (⟨#[]⟩:Bs) none 0 0 0 0 0 0 0 0 (⟨#[]⟩:Bs) none 0 0 0 0 0 0 0 0 (⟨#[]⟩:Bs) none 0 0 0 0)::(ka a (IntKind.wrap .u8 (1+(IntKind.wrap .u8 r))) m1 (⟨#[]⟩:Bs) s t u v w x f g h y i j k l n o c d e q ac ae af ag ah ai z aa ab aj 0 0 0 0 0 (⟨#[]⟩:Bs) none 0 0 0 m)::F12)∧Q (.panicked a3) I14 F12))) (Q (.returned ((kb (IntKind.wrap .u8 (1+(IntKind.wrap .u8 r))) m1 (⟨#[]⟩:Bs) s t u v w x f g h y i j k l n o c d e q ac ae af ag ah ai z aa ab aj 0 0 0 0 0 (⟨#[]⟩:Bs) none 0 0 0 m))) I13 F8))))∨(∃a4:List PanicEntry,e7=.panicked a4∧∃F13:cR,List.Perm G7 ((ka b 0 0 (⟨#[]⟩:Bs) 0 0 0 0 0 (⟨#[]⟩:Bs) none 0 0 0 0 0 0 0 0 (⟨#[]⟩:Bs) none 0 0 0 0 0 0 0 0 (⟨#[]⟩:Bs) none 0 0 0 0 0 0 0 0 (⟨#[]⟩:Bs) none 0 0 0 0)::(ka a (IntKind.wrap .u8 (1+(IntKind.wrap .u8 r))) 2 (⟨#[]⟩:Bs) s t u v w x f g h y i j k l n o c d e q ac ae af ag ah ai z aa ab aj 0 0 0 0 0 (⟨#[]⟩:Bs) none 0 0 0 m)::F13)∧Q (.panicked a4) I12 F13)))∨(∃a5:List PanicEntry,e6=.panicked a5∧∃F14:cR,List.Perm G6 ((ka b 0 0 (⟨#[]⟩:Bs) 0 0 0 0 0 (⟨#[]⟩:Bs) none 0 0 0 0 0 0 0 0 (⟨#[]⟩:Bs) none 0 0 0 0 0 0 0 0 (⟨#[]⟩:Bs) none 0 0 0 0 0 0 0 0 (⟨#[]⟩:Bs) none 0 0 0 0)::(ka a (IntKind.wrap .u8 (1+(IntKind.wrap .u8 r))) 2 (⟨#[]⟩:Bs) s t u v w x f g h y i j k l n o c d e q 0 0 0 0 0 (⟨#[]⟩:Bs) none 0 0 0 0 0 0 0 0 (⟨#[]⟩:Bs) none 0 0 0 m)::F14)∧Q (.panicked a5) I9 F14))) (mM P 21 (#[vp (some p),vs (⟨#[97,115]⟩:Bs)]) I8 ((ka b 0 0 (⟨#[]⟩:Bs) 0 0 0 0 0 (⟨#[]⟩:Bs) none 0 0 0 0 0 0 0 0 (⟨#[]⟩:Bs) none 0 0 0 0 0 0 0 0 (⟨#[]⟩:Bs) none 0 0 0 0 0 0 0 0 (⟨#[]⟩:Bs) none 0 0 0 0)::(ka a (IntKind.wrap .u8 (1+(IntKind.wrap .u8 r))) 2 (⟨#[]⟩:Bs) s t u v w x f g h y i j k l n o c d e q 0 0 0 0 0 (⟨#[]⟩:Bs) none 0 0 0 0 0 0 0 0 (⟨#[]⟩:Bs) none 0 0 0 m)::·) F5 .bool fun r6 I16 F15=>(It r6 (cX P 18 (#[vp (some p)]) I16 ((ka b 0 0 (⟨#[]⟩:Bs) 0 0 0 0 0 (⟨#[]⟩:Bs) none 0 0 0 0 0 0 0 0 (⟨#[]⟩:Bs) none 0 0 0 0 0 0 0 0 (⟨#[]⟩:Bs) none 0 0 0 0 0 0 0 0 (⟨#[]⟩:Bs) none 0 0 0 0)::(ka a (IntKind.wrap .u8 (1+(IntKind.wrap .u8 r))) 2 (⟨#[]⟩:Bs) s t u v w x f g h y i j k l n o c d e q 0 0 0 0 0 (⟨#[]⟩:Bs) none 0 0 0 0 0 0 0 0 (⟨#[]⟩:Bs) none 0 0 0 m)::F15) fun bd I17 G12=>((bd=.returned (.tuple #[])∧∃F16:cR,List.Perm G12 ((ka b 0 0 (⟨#[]⟩:Bs) 0 0 0 0 0 (⟨#[]⟩:Bs) none 0 0 0 0 0 0 0 0 (⟨#[]⟩:Bs) none 0 0 0 0 0 0 0 0 (⟨#[]⟩:Bs) none 0 0 0 0 0 0 0 0 (⟨#[]⟩:Bs) none 0 0 0 0)::(ka a (IntKind.wrap .u8 (1+(IntKind.wrap .u8 r))) 2 (⟨#[]⟩:Bs) s t u v w x f g h y i j k l n o c d e q 0 0 0 0 0 (⟨#[]⟩:Bs) none 0 0 0 0 0 0 0 0 (⟨#[]⟩:Bs) none 0 0 0 m)::F16)∧cX P 29 (#[vp (some p)]) I17 ((ka b 0 0 (⟨#[]⟩:Bs) 0 0 0 0 0 (⟨#[]⟩:Bs) none 0 0 0 0 0 0 0 0 (⟨#[]⟩:Bs) none 0 0 0 0 0 0 0 0 (⟨#[]⟩:Bs) none 0 0 0 0 0 0 0 0 (⟨#[]⟩:Bs) none 0 0 0 0)::(ka a (IntKind.wrap .u8 (1+(IntKind.wrap .u8 r))) 2 (⟨#[]⟩:Bs) s t u v w x f g h y i j k l n o c d e q 0 0 0 0 0 (⟨#[]⟩:Bs) none 0 0 0 0 0 0 0 0 (⟨#[]⟩:Bs) none 0 0 0 m)::F16) fun be I18 G13=>((∃(r7:Bs),be=.returned (vs r7)∧∃F17:cR,List.Perm G13 ((ka b 0 0 (⟨#[]⟩:Bs) 0 0 0 0 0 (⟨#[]⟩:Bs) none 0 0 0 0 0 0 0 0 (⟨#[]⟩:Bs) none 0 0 0 0 0 0 0 0 (⟨#[]⟩:Bs) none 0 0 0 0 0 0 0 0 (⟨#[]⟩:Bs) none 0 0 0 0)::(ka a (IntKind.wrap .u8 (1+(IntKind.wrap .u8 r))) 2 (⟨#[]⟩:Bs) s t u v w x f g h y i j k l n o c d e q 0 0 0 0 0 (⟨#[]⟩:Bs) none 0 0 0 0 0 0 0 0 (⟨#[]⟩:Bs) none 0 0 0 m)::F17)∧Q (.returned ((kb (IntKind.wrap .u8 (1+(IntKind.wrap .u8 r))) 2 r7 s t u v w x f g h y i j k l n o c d e q 0 0 0 0 0 (⟨#[]⟩:Bs) none 0 0 0 0 0 0 0 0 (⟨#[]⟩:Bs) none 0 0 0 m))) I18 F17)∨(∃a6:List PanicEntry,be=.panicked a6∧∃F18:cR,List.Perm G13 ((ka b 0 0 (⟨#[]⟩:Bs) 0 0 0 0 0 (⟨#[]⟩:Bs) none 0 0 0 0 0 0 0 0 (⟨#[]⟩:Bs) none 0 0 0 0 0 0 0 0 (⟨#[]⟩:Bs) none 0 0 0 0 0 0 0 0 (⟨#[]⟩:Bs) none 0 0 0 0)::(ka a (IntKind.wrap .u8 (1+(IntKind.wrap .u8 r))) 2 (⟨#[]⟩:Bs) s t u v w x f g h y i j k l n o c d e q 0 0 0 0 0 (⟨#[]⟩:Bs) none 0 0 0 0 0 0 0 0 (⟨#[]⟩:Bs) none 0 0 0 m)::F18)∧Q (.panicked a6) I18 F18)))∨(∃a7:List PanicEntry,bd=.panicked a7∧∃F19:cR,List.Perm G12 ((ka b 0 0 (⟨#[]⟩:Bs) 0 0 0 0 0 (⟨#[]⟩:Bs) none 0 0 0 0 0 0 0 0 (⟨#[]⟩:Bs) none 0 0 0 0 0 0 0 0 (⟨#[]⟩:Bs) none 0 0 0 0 0 0 0 0 (⟨#[]⟩:Bs) none 0 0 0 0)::(ka a (IntKind.wrap .u8 (1+(IntKind.wrap .u8 r))) 2 (⟨#[]⟩:Bs) s t u v w x f g h y i j k l n o c d e q 0 0 0 0 0 (⟨#[]⟩:Bs) none 0 0 0 0 0 0 0 0 (⟨#[]⟩:Bs) none 0 0 0 m)::F19)∧Q (.panicked a7) I17 F19))) (Q (.returned ((kb (IntKind.wrap .u8 (1+(IntKind.wrap .u8 r))) 2 (⟨#[]⟩:Bs) s t u v w x f g h y i j k l n o c d e q 0 0 0 0 0 (⟨#[]⟩:Bs) none 0 0 0 0 0 0 0 0 (⟨#[]⟩:Bs) none 0 0 0 m))) I16 F15)))))∨(∃a8:List PanicEntry,e5=.panicked a8∧∃F20:cR,List.Perm G5 ((ka b 0 0 (⟨#[]⟩:Bs) 0 0 0 0 0 (⟨#[]⟩:Bs) none 0 0 0 0 0 0 0 0 (⟨#[]⟩:Bs) none 0 0 0 0 0 0 0 0 (⟨#[]⟩:Bs) none 0 0 0 0 0 0 0 0 (⟨#[]⟩:Bs) none 0 0 0 0)::(ka a (IntKind.wrap .u8 (1+(IntKind.wrap .u8 r))) 2 (⟨#[]⟩:Bs) s t u v w x f g h y i j k l n o c d e q 0 0 0 0 0 (⟨#[]⟩:Bs) none 0 0 0 0 0 0 0 0 (⟨#[]⟩:Bs) none 0 0 0 m)::F20)∧Q (.panicked a8) I8 F20)))∨(∃a9:List PanicEntry,e4=.panicked a9∧∃F21:cR,List.Perm G4 ((ka b 0 0 (⟨#[]⟩:Bs) 0 0 0 0 0 (⟨#[]⟩:Bs) none 0 0 0 0 0 0 0 0 (⟨#[]⟩:Bs) none 0 0 0 0 0 0 0 0 (⟨#[]⟩:Bs) none 0 0 0 0 0 0 0 0 (⟨#[]⟩:Bs) none 0 0 0 0)::(ka a (IntKind.wrap .u8 (1+(IntKind.wrap .u8 r))) 0 (⟨#[]⟩:Bs) s t u v w x f g h y 0 0 0 0 0 (⟨#[]⟩:Bs) none 0 0 0 0 0 0 0 0 (⟨#[]⟩:Bs) none 0 0 0 0 0 0 0 0 (⟨#[]⟩:Bs) none 0 0 0 m)::F21)∧Q (.panicked a9) I6 F21)))∨(∃ba:List PanicEntry,e3=.panicked ba∧∃F22:cR,List.Perm G3 ((ka b 0 0 (⟨#[]⟩:Bs) 0 0 0 0 0 (⟨#[]⟩:Bs) none 0 0 0 0 0 0 0 0 (⟨#[]⟩:Bs) none 0 0 0 0 0 0 0 0 (⟨#[]⟩:Bs) none 0 0 0 0 0 0 0 0 (⟨#[]⟩:Bs) none 0 0 0 0)::(ka a (IntKind.wrap .u8 (1+(IntKind.wrap .u8 r))) 0 (⟨#[]⟩:Bs) s t u v w x f g h y 0 0 0 0 0 (⟨#[]⟩:Bs) none 0 0 0 0 0 0 0 0 (⟨#[]⟩:Bs) none 0 0 0 0 0 0 0 0 (⟨#[]⟩:Bs) none 0 0 0 m)::F22)∧Q (.panicked ba) I5 F22)))∨(∃bb:List PanicEntry,e2=.panicked bb∧∃F23:cR,List.Perm G2 ((ka b 0 0 (⟨#[]⟩:Bs) 0 0 0 0 0 (⟨#[]⟩:Bs) none 0 0 0 0 0 0 0 0 (⟨#[]⟩:Bs) none 0 0 0 0 0 0 0 0 (⟨#[]⟩:Bs) none 0 0 0 0 0 0 0 0 (⟨#[]⟩:Bs) none 0 0 0 0)::(ka a (IntKind.wrap .u8 (1+(IntKind.wrap .u8 r))) 0 (⟨#[]⟩:Bs) 0 0 0 0 0 (⟨#[]⟩:Bs) none 0 0 0 0 0 0 0 0 (⟨#[]⟩:Bs) none 0 0 0 0 0 0 0 0 (⟨#[]⟩:Bs) none 0 0 0 0 0 0 0 0 (⟨#[]⟩:Bs) none 0 0 0 m)::F23)∧Q (.panicked bb) I3 F23))) (It ((IntKind.wrap .u8 (1+(IntKind.wrap .u8 r)))==2) (cX P 29 (#[vp (some p)]) I2 ((ka b 0 0 (⟨#[]⟩:Bs) 0 0 0 0 0 (⟨#[]⟩:Bs) none 0 0 0 0 0 0 0 0 (⟨#[]⟩:Bs) none 0 0 0 0 0 0 0 0 (⟨#[]⟩:Bs) none 0 0 0 0 0 0 0 0 (⟨#[]⟩:Bs) none 0 0 0 0)::(ka a (IntKind.wrap .u8 (1+(IntKind.wrap .u8 r))) 0 (⟨#[]⟩:Bs) 0 0 0 0 0 (⟨#[]⟩:Bs) none 0 0 0 0 0 0 0 0 (⟨#[]⟩:Bs) none 0 0 0 0 0 0 0 0 (⟨#[]⟩:Bs) none 0 0 0 0 0 0 0 0 (⟨#[]⟩:Bs) none 0 0 0 m)::F1) fun bf I19 G14=>((∃(r8:Bs),bf=.returned (vs r8)∧∃F24:cR,List.Perm G14 ((ka b 0 0 (⟨#[]⟩:Bs) 0 0 0 0 0 (⟨#[]⟩:Bs) none 0 0 0 0 0 0 0 0 (⟨#[]⟩:Bs) none 0 0 0 0 0 0 0 0 (⟨#[]⟩:Bs) none 0 0 0 0 0 0 0 0 (⟨#[]⟩:Bs) none 0 0 0 0)::(ka a (IntKind.wrap .u8 (1+(IntKind.wrap .u8 r))) 0 (⟨#[]⟩:Bs) 0 0 0 0 0 (⟨#[]⟩:Bs) none 0 0 0 0 0 0 0 0 (⟨#[]⟩:Bs) none 0 0 0 0 0 0 0 0 (⟨#[]⟩:Bs) none 0 0 0 0 0 0 0 0 (⟨#[]⟩:Bs) none 0 0 0 m)::F24)∧∀(b6:Nat) (I20:cS),cS.le I19 I20→I20 b6=some (Obj.cells #[vs (⟨#[116,111]⟩:Bs)] 9 (0,0))→cX P 23 (#[vp (some p),vl (some ⟨b6,0,none⟩) 1 1]) I20 ((ka b 0 0 (⟨#[]⟩:Bs) 0 0 0 0 0 (⟨#[]⟩:Bs) none 0 0 0 0 0 0 0 0 (⟨#[]⟩:Bs) none 0 0 0 0 0 0 0 0 (⟨#[]⟩:Bs) none 0 0 0 0 0 0 0 0 (⟨#[]⟩:Bs) none 0 0 0 0)::(ka a (IntKind.wrap .u8 (1+(IntKind.wrap .u8 r))) 0 r8 0 0 0 0 0 (⟨#[]⟩:Bs) none 0 0 0 0 0 0 0 0 (⟨#[]⟩:Bs) none 0 0 0 0 0 0 0 0 (⟨#[]⟩:Bs) none 0 0 0 0 0 0 0 0 (⟨#[]⟩:Bs) none 0 0 0 m)::F24) fun bg I21 G15=>((∃(r9:Int),bg=.returned (vi r9)∧∃F25:cR,List.Perm G15 ((ka b 0 0 (⟨#[]⟩:Bs) 0 0 0 0 0 (⟨#[]⟩:Bs) none 0 0 0 0 0 0 0 0 (⟨#[]⟩:Bs) none 0 0 0 0 0 0 0 0 (⟨#[]⟩:Bs) none 0 0 0 0 0 0 0 0 (⟨#[]⟩:Bs) none 0 0 0 0)::(ka a (IntKind.wrap .u8 (1+(IntKind.wrap .u8 r))) 0 r8 0 0 0 0 0 (⟨#[]⟩:Bs) none 0 0 0 0 0 0 0 0 (⟨#[]⟩:Bs) none 0 0 0 0 0 0 0 0 (⟨#[]⟩:Bs) none 0 0 0 0 0 0 0 0 (⟨#[]⟩:Bs) none 0 0 0 m)::F25)∧cX P 13 (#[vp (some p),vi 0]) I21 ((ka b 0 0 (⟨#[]⟩:Bs) 0 0 0 0 0 (⟨#[]⟩:Bs) none 0 0 0 0 0 0 0 0 (⟨#[]⟩:Bs) none 0 0 0 0 0 0 0 0 (⟨#[]⟩:Bs) none 0 0 0 0 0 0 0 0 (⟨#[]⟩:Bs) none 0 0 0 0)::(ka a (IntKind.wrap .u8 (1+(IntKind.wrap .u8 r))) 0 r8 0 0 0 0 0 (⟨#[]⟩:Bs) none 0 0 0 0 0 0 0 0 (⟨#[]⟩:Bs) none 0 0 0 0 0 0 0 0 (⟨#[]⟩:Bs) none 0 0 0 0 0 0 0 0 (⟨#[]⟩:Bs) none 0 0 0 m)::F25) fun bh I22 G16=>((∃(an ao ap aq ar:Int) (au:Bs) (ak:OA) (al am:Nat) (av:Int),bh=.returned (nV an ao ap aq ar au ak al am av)∧∃F26:cR,List.Perm G16 ((ka b 0 0 (⟨#[]⟩:Bs) 0 0 0 0 0 (⟨#[]⟩:Bs) none 0 0 0 0 0 0 0 0 (⟨#[]⟩:Bs) none 0 0 0 0 0 0 0 0 (⟨#[]⟩:Bs) none 0 0 0 0 0 0 0 0 (⟨#[]⟩:Bs) none 0 0 0 0)::(ka a (IntKind.wrap .u8 (1+(IntKind.wrap .u8 r))) 0 r8 0 0 0 0 0 (⟨#[]⟩:Bs) none 0 0 0 0 0 0 0 0 (⟨#[]⟩:Bs) none 0 0 0 0 0 0 0 0 (⟨#[]⟩:Bs) none 0 0 0 0 0 0 0 0 (⟨#[]⟩:Bs) none 0 0 0 m)::F26)∧∀(b7:Nat) (I23:cS),cS.le I22 I23→I23 b7=some (Obj.cells #[vs (⟨#[97,116]⟩:Bs)] 9 (0,0))→cX P 23 (#[vp (some p),vl (some ⟨b7,0,none⟩) 1 1]) I23 ((ka b 0 0 (⟨#[]⟩:Bs) 0 0 0 0 0 (⟨#[]⟩:Bs) none 0 0 0 0 0 0 0 0 (⟨#[]⟩:Bs) none 0 0 0 0 0 0 0 0 (⟨#[]⟩:Bs) none 0 0 0 0 0 0 0 0 (⟨#[]⟩:Bs) none 0 0 0 0)::(ka a (IntKind.wrap .u8 (1+(IntKind.wrap .u8 r))) 0 r8 0 0 0 0 0 (⟨#[]⟩:Bs) none 0 0 0 an ao ap aq ar au ak al am av 0 0 0 0 0 (⟨#[]⟩:Bs) none 0 0 0 0 0 0 0 0 (⟨#[]⟩:Bs) none 0 0 0 m)::F26) fun bi I24 G17=>((∃(bo:Int),bi=.returned (vi bo)∧∃F27:cR,List.Perm G17 ((ka b 0 0 (⟨#[]⟩:Bs) 0 0 0 0 0 (⟨#[]⟩:Bs) none 0 0 0 0 0 0 0 0 (⟨#[]⟩:Bs) none 0 0 0 0 0 0 0 0 (⟨#[]⟩:Bs) none 0 0 0 0 0 0 0 0 (⟨#[]⟩:Bs) none 0 0 0 0)::(ka a (IntKind.wrap .u8 (1+(IntKind.wrap .u8 r))) 0 r8 0 0 0 0 0 (⟨#[]⟩:Bs) none 0 0 0 an ao ap aq ar au ak al am av 0 0 0 0 0 (⟨#[]⟩:Bs) none 0 0 0 0 0 0 0 0 (⟨#[]⟩:Bs) none 0 0 0 m)::F27)∧cX P 13 (#[vp (some p),vi 0]) I24 ((ka b 0 0 (⟨#[]⟩:Bs) 0 0 0 0 0 (⟨#[]⟩:Bs) none 0 0 0 0 0 0 0 0 (⟨#[]⟩:Bs) none 0 0 0 0 0 0 0 0 (⟨#[]⟩:Bs) none 0 0 0 0 0 0 0 0 (⟨#[]⟩:Bs) none 0 0 0 0)::(ka a (IntKind.wrap .u8 (1+(IntKind.wrap .u8 r))) 0 r8 0 0 0 0 0 (⟨#[]⟩:Bs) none 0 0 0 an ao ap aq ar au ak al am av 0 0 0 0 0 (⟨#[]⟩:Bs) none 0 0 0 0 0 0 0 0 (⟨#[]⟩:Bs) none 0 0 0 m)::F27) fun bj I25 G18=>((∃(aD aE aF aG aH:Int) (aI:Bs) (ax:OA) (ay az:Nat) (aJ:Int),bj=.returned (nV aD aE aF aG aH aI ax ay az aJ)∧∃F28:cR,List.Perm G18 ((ka b 0 0 (⟨#[]⟩:Bs) 0 0 0 0 0 (⟨#[]⟩:Bs) none 0 0 0 0 0 0 0 0 (⟨#[]⟩:Bs) none 0 0 0 0 0 0 0 0 (⟨#[]⟩:Bs) none 0 0 0 0 0 0 0 0 (⟨#[]⟩:Bs) none 0 0 0 0)::(ka a (IntKind.wrap .u8 (1+(IntKind.wrap .u8 r))) 0 r8 0 0 0 0 0 (⟨#[]⟩:Bs) none 0 0 0 an ao ap aq ar au ak al am av 0 0 0 0 0 (⟨#[]⟩:Bs) none 0 0 0 0 0 0 0 0 (⟨#[]⟩:Bs) none 0 0 0 m)::F28)∧Q (.returned ((kb (IntKind.wrap .u8 (1+(IntKind.wrap .u8 r))) 0 r8 0 0 0 0 0 (⟨#[]⟩:Bs) none 0 0 0 an ao ap aq ar au ak al am av aD aE aF aG aH aI ax ay az aJ 0 0 0 0 0 (⟨#[]⟩:Bs) none 0 0 0 m))) I25 F28)∨(∃aR:List PanicEntry,bj=.panicked aR∧∃F29:cR,List.Perm G18 ((ka b 0 0 (⟨#[]⟩:Bs) 0 0 0 0 0 (⟨#[]⟩:Bs) none 0 0 0 0 0 0 0 0 (⟨#[]⟩:Bs) none 0 0 0 0 0 0 0 0 (⟨#[]⟩:Bs) none 0 0 0 0 0 0 0 0 (⟨#[]⟩:Bs) none 0 0 0 0)::(ka a (IntKind.wrap .u8 (1+(IntKind.wrap .u8 r))) 0 r8 0 0 0 0 0 (⟨#[]⟩:Bs) none 0 0 0 an ao ap aq ar au ak al am av 0 0 0 0 0 (⟨#[]⟩:Bs) none 0 0 0 0 0 0 0 0 (⟨#[]⟩:Bs) none 0 0 0 m)::F29)∧Q (.panicked aR) I25 F29)))∨(∃aS:List PanicEntry,bi=.panicked aS∧∃F30:cR,List.Perm G17 ((ka b 0 0 (⟨#[]⟩:Bs) 0 0 0 0 0 (⟨#[]⟩:Bs) none 0 0 0 0 0 0 0 0 (⟨#[]⟩:Bs) none 0 0 0 0 0 0 0 0 (⟨#[]⟩:Bs) none 0 0 0 0 0 0 0 0 (⟨#[]⟩:Bs) none 0 0 0 0)::(ka a (IntKind.wrap .u8 (1+(IntKind.wrap .u8 r))) 0 r8 0 0 0 0 0 (⟨#[]⟩:Bs) none 0 0 0 an ao ap aq ar au ak al am av 0 0 0 0 0 (⟨#[]⟩:Bs) none 0 0 0 0 0 0 0 0 (⟨#[]⟩:Bs) none 0 0 0 m)::F30)∧Q (.panicked aS) I24 F30)))∨(∃aT:List PanicEntry,bh=.panicked aT∧∃F31:cR,List.Perm G16 ((ka b 0 0 (⟨#[]⟩:Bs) 0 0 0 0 0 (⟨#[]⟩:Bs) none 0 0 0 0 0 0 0 0 (⟨#[]⟩:Bs) none 0 0 0 0 0 0 0 0 (⟨#[]⟩:Bs) none 0 0 0 0 0 0 0 0 (⟨#[]⟩:Bs) none 0 0 0 0)::(ka a (IntKind.wrap .u8 (1+(IntKind.wrap .u8 r))) 0 r8 0 0 0 0 0 (⟨#[]⟩:Bs) none 0 0 0 0 0 0 0 0 (⟨#[]⟩:Bs) none 0 0 0 0 0 0 0 0 (⟨#[]⟩:Bs) none 0 0 0 0 0 0 0 0 (⟨#[]⟩:Bs) none 0 0 0 m)::F31)∧Q (.panicked aT) I22 F31)))∨(∃aU:List PanicEntry,bg=.panicked aU∧∃F32:cR,List.Perm G15 ((ka b 0 0 (⟨#[]⟩:Bs) 0 0 0 0 0 (⟨#[]⟩:Bs) none 0 0 0 0 0 0 0 0 (⟨#[]⟩:Bs) none 0 0 0 0 0 0 0 0 (⟨#[]⟩:Bs) none 0 0 0 0 0 0 0 0 (⟨#[]⟩:Bs) none 0 0 0 0)::(ka a (IntKind.wrap .u8 (1+(IntKind.wrap .u8 r))) 0 r8 0 0 0 0 0 (⟨#[]⟩:Bs) none 0 0 0 0 0 0 0 0 (⟨#[]⟩:Bs) none 0 0 0 0 0 0 0 0 (⟨#[]⟩:Bs) none 0 0 0 0 0 0 0 0 (⟨#[]⟩:Bs) none 0 0 0 m)::F32)∧Q (.panicked aU) I21 F32)))∨(∃aV:List PanicEntry,bf=.panicked aV∧∃F33:cR,List.Perm G14 ((ka b 0 0 (⟨#[]⟩:Bs) 0 0 0 0 0 (⟨#[]⟩:Bs) none 0 0 0 0 0 0 0 0 (⟨#[]⟩:Bs) none 0 0 0 0 0 0 0 0 (⟨#[]⟩:Bs) none 0 0 0 0 0 0 0 0 (⟨#[]⟩:Bs) none 0 0 0 0)::(ka a (IntKind.wrap .u8 (1+(IntKind.wrap .u8 r))) 0 (⟨#[]⟩:Bs) 0 0 0 0 0 (⟨#[]⟩:Bs) none 0 0 0 0 0 0 0 0 (⟨#[]⟩:Bs) none 0 0 0 0 0 0 0 0 (⟨#[]⟩:Bs) none 0 0 0 0 0 0 0 0 (⟨#[]⟩:Bs) none 0 0 0 m)::F33)∧Q (.panicked aV) I19 F33))) (It ((IntKind.wrap .u8 (1+(IntKind.wrap .u8 r)))==4) (cX P 29 (#[vp (some p)]) I2 ((ka b 0 0 (⟨#[]⟩:Bs) 0 0 0 0 0 (⟨#[]⟩:Bs) none 0 0 0 0 0 0 0 0 (⟨#[]⟩:Bs) none 0 0 0 0 0 0 0 0 (⟨#[]⟩:Bs) none 0 0 0 0 0 0 0 0 (⟨#[]⟩:Bs) none 0 0 0 0)::(ka a (IntKind.wrap .u8 (1+(IntKind.wrap .u8 r))) 0 (⟨#[]⟩:Bs) 0 0 0 0 0 (⟨#[]⟩:Bs) none 0 0 0 0 0 0 0 0 (⟨#[]⟩:Bs) none 0 0 0 0 0 0 0 0 (⟨#[]⟩:Bs) none 0 0 0 0 0 0 0 0 (⟨#[]⟩:Bs) none 0 0 0 m)::F1) fun bk I26 G19=>((∃(aw:Bs),bk=.returned (vs aw)∧∃F34:cR,List.Perm G19 ((ka b 0 0 (⟨#[]⟩:Bs) 0 0 0 0 0 (⟨#[]⟩:Bs) none 0 0 0 0 0 0 0 0 (⟨#[]⟩:Bs) none 0 0 0 0 0 0 0 0 (⟨#[]⟩:Bs) none 0 0 0 0 0 0 0 0 (⟨#[]⟩:Bs) none 0 0 0 0)::(ka a (IntKind.wrap .u8 (1+(IntKind.wrap .u8 r))) 0 (⟨#[]⟩:Bs) 0 0 0 0 0 (⟨#[]⟩:Bs) none 0 0 0 0 0 0 0 0 (⟨#[]⟩:Bs) none 0 0 0 0 0 0 0 0 (⟨#[]⟩:Bs) none 0 0 0 0 0 0 0 0 (⟨#[]⟩:Bs) none 0 0 0 m)::F34)∧∀(b8:Nat) (I27:cS),cS.le I26 I27→I27 b8=some (Obj.cells #[vs (⟨#[61]⟩:Bs)] 9 (0,0))→cX P 23 (#[vp (some p),vl (some ⟨b8,0,none⟩) 1 1]) I27 ((ka b 0 0 (⟨#[]⟩:Bs) 0 0 0 0 0 (⟨#[]⟩:Bs) none 0 0 0 0 0 0 0 0 (⟨#[]⟩:Bs) none 0 0 0 0 0 0 0 0 (⟨#[]⟩:Bs) none 0 0 0 0 0 0 0 0 (⟨#[]⟩:Bs) none 0 0 0 0)::(ka a (IntKind.wrap .u8 (1+(IntKind.wrap .u8 r))) 0 aw 0 0 0 0 0 (⟨#[]⟩:Bs) none 0 0 0 0 0 0 0 0 (⟨#[]⟩:Bs) none 0 0 0 0 0 0 0 0 (⟨#[]⟩:Bs) none 0 0 0 0 0 0 0 0 (⟨#[]⟩:Bs) none 0 0 0 m)::F34) fun bl I28 G20=>((∃(bp:Int),bl=.returned (vi bp)∧∃F35:cR,List.Perm G20 ((ka b 0 0 (⟨#[]⟩:Bs) 0 0 0 0 0 (⟨#[]⟩:Bs) none 0 0 0 0 0 0 0 0 (⟨#[]⟩:Bs) none 0 0 0 0 0 0 0 0 (⟨#[]⟩:Bs) none 0 0 0 0 0 0 0 0 (⟨#[]⟩:Bs) none 0 0 0 0)::(ka a (IntKind.wrap .u8 (1+(IntKind.wrap .u8 r))) 0 aw 0 0 0 0 0 (⟨#[]⟩:Bs) none 0 0 0 0 0 0 0 0 (⟨#[]⟩:Bs) none 0 0 0 0 0 0 0 0 (⟨#[]⟩:Bs) none 0 0 0 0 0 0 0 0 (⟨#[]⟩:Bs) none 0 0 0 m)::F35)∧cX P 13 (#[vp (some p),vi 0]) I28 ((ka b 0 0 (⟨#[]⟩:Bs) 0 0 0 0 0 (⟨#[]⟩:Bs) none 0 0 0 0 0 0 0 0 (⟨#[]⟩:Bs) none 0 0 0 0 0 0 0 0 (⟨#[]⟩:Bs) none 0 0 0 0 0 0 0 0 (⟨#[]⟩:Bs) none 0 0 0 0)::(ka a (IntKind.wrap .u8 (1+(IntKind.wrap .u8 r))) 0 aw 0 0 0 0 0 (⟨#[]⟩:Bs) none 0 0 0 0 0 0 0 0 (⟨#[]⟩:Bs) none 0 0 0 0 0 0 0 0 (⟨#[]⟩:Bs) none 0 0 0 0 0 0 0 0 (⟨#[]⟩:Bs) none 0 0 0 m)::F35) fun bm I29 G21=>((∃(aK aL aM aN aO:Int) (aP:Bs) (aA:OA) (aB aC:Nat) (aQ:Int),bm=.returned (nV aK aL aM aN aO aP aA aB aC aQ)∧∃F36:cR,List.Perm G21 ((ka b 0 0 (⟨#[]⟩:Bs) 0 0 0 0 0 (⟨#[]⟩:Bs) none 0 0 0 0 0 0 0 0 (⟨#[]⟩:Bs) none 0 0 0 0 0 0 0 0 (⟨#[]⟩:Bs) none 0 0 0 0 0 0 0 0 (⟨#[]⟩:Bs) none 0 0 0 0)::(ka a (IntKind.wrap .u8 (1+(IntKind.wrap .u8 r))) 0 aw 0 0 0 0 0 (⟨#[]⟩:Bs) none 0 0 0 0 0 0 0 0 (⟨#[]⟩:Bs) none 0 0 0 0 0 0 0 0 (⟨#[]⟩:Bs) none 0 0 0 0 0 0 0 0 (⟨#[]⟩:Bs) none 0 0 0 m)::F36)∧Q (.returned ((kb (IntKind.wrap .u8 (1+(IntKind.wrap .u8 r))) 0 aw 0 0 0 0 0 (⟨#[]⟩:Bs) none 0 0 0 0 0 0 0 0 (⟨#[]⟩:Bs) none 0 0 0 0 0 0 0 0 (⟨#[]⟩:Bs) none 0 0 0 aK aL aM aN aO aP aA aB aC aQ m))) I29 F36)∨(∃aW:List PanicEntry,bm=.panicked aW∧∃F37:cR,List.Perm G21 ((ka b 0 0 (⟨#[]⟩:Bs) 0 0 0 0 0 (⟨#[]⟩:Bs) none 0 0 0 0 0 0 0 0 (⟨#[]⟩:Bs) none 0 0 0 0 0 0 0 0 (⟨#[]⟩:Bs) none 0 0 0 0 0 0 0 0 (⟨#[]⟩:Bs) none 0 0 0 0)::(ka a (IntKind.wrap .u8 (1+(IntKind.wrap .u8 r))) 0 aw 0 0 0 0 0 (⟨#[]⟩:Bs) none 0 0 0 0 0 0 0 0 (⟨#[]⟩:Bs) none 0 0 0 0 0 0 0 0 (⟨#[]⟩:Bs) none 0 0 0 0 0 0 0 0 (⟨#[]⟩:Bs) none 0 0 0 m)::F37)∧Q (.panicked aW) I29 F37)))∨(∃aX:List PanicEntry,bl=.panicked aX∧∃F38:cR,List.Perm G20 ((ka b 0 0 (⟨#[]⟩:Bs) 0 0 0 0 0 (⟨#[]⟩:Bs) none 0 0 0 0 0 0 0 0 (⟨#[]⟩:Bs) none 0 0 0 0 0 0 0 0 (⟨#[]⟩:Bs) none 0 0 0 0 0 0 0 0 (⟨#[]⟩:Bs) none 0 0 0 0)::(ka a (IntKind.wrap .u8 (1+(IntKind.wrap .u8 r))) 0 aw 0 0 0 0 0 (⟨#[]⟩:Bs) none 0 0 0 0 0 0 0 0 (⟨#[]⟩:Bs) none 0 0 0 0 0 0 0 0 (⟨#[]⟩:Bs) none 0 0 0 0 0 0 0 0 (⟨#[]⟩:Bs) none 0 0 0 m)::F38)∧Q (.panicked aX) I28 F38)))∨(∃aY:List PanicEntry,bk=.panicked aY∧∃F39:cR,List.Perm G19 ((ka b 0 0 (⟨#[]⟩:Bs) 0 0 0 0 0 (⟨#[]⟩:Bs) none 0 0 0 0 0 0 0 0 (⟨#[]⟩:Bs) none 0 0 0 0 0 0 0 0 (⟨#[]⟩:Bs) none 0 0 0 0 0 0 0 0 (⟨#[]⟩:Bs) none 0 0 0 0)::(ka a (IntKind.wrap .u8 (1+(IntKind.wrap .u8 r))) 0 (⟨#[]⟩:Bs) 0 0 0 0 0 (⟨#[]⟩:Bs) none 0 0 0 0 0 0 0 0 (⟨#[]⟩:Bs) none 0 0 0 0 0 0 0 0 (⟨#[]⟩:Bs) none 0 0 0 0 0 0 0 0 (⟨#[]⟩:Bs) none 0 0 0 m)::F39)∧Q (.panicked aY) I26 F39))) (It ((IntKind.wrap .u8 (1+(IntKind.wrap .u8 r)))==6) (Q (.returned ((kb (IntKind.wrap .u8 (1+(IntKind.wrap .u8 r))) 0 (⟨#[]⟩:Bs) 0 0 0 0 0 (⟨#[]⟩:Bs) none 0 0 0 0 0 0 0 0 (⟨#[]⟩:Bs) none 0 0 0 0 0 0 0 0 (⟨#[]⟩:Bs) none 0 0 0 0 0 0 0 0 (⟨#[]⟩:Bs) none 0 0 0 m))) I2 F1) (cX P 29 (#[vp (some p)]) I2 ((ka b 0 0 (⟨#[]⟩:Bs) 0 0 0 0 0 (⟨#[]⟩:Bs) none 0 0 0 0 0 0 0 0 (⟨#[]⟩:Bs) none 0 0 0 0 0 0 0 0 (⟨#[]⟩:Bs) none 0 0 0 0 0 0 0 0 (⟨#[]⟩:Bs) none 0 0 0 0)::(ka a (IntKind.wrap .u8 (1+(IntKind.wrap .u8 r))) 0 (⟨#[]⟩:Bs) 0 0 0 0 0 (⟨#[]⟩:Bs) none 0 0 0 0 0 0 0 0 (⟨#[]⟩:Bs) none 0 0 0 0 0 0 0 0 (⟨#[]⟩:Bs) none 0 0 0 0 0 0 0 0 (⟨#[]⟩:Bs) none 0 0 0 m)::F1) fun bn I30 G22=>((∃(a1:Bs),bn=.returned (vs a1)∧∃F40:cR,List.Perm G22 ((ka b 0 0 (⟨#[]⟩:Bs) 0 0 0 0 0 (⟨#[]⟩:Bs) none 0 0 0 0 0 0 0 0 (⟨#[]⟩:Bs) none 0 0 0 0 0 0 0 0 (⟨#[]⟩:Bs) none 0 0 0 0 0 0 0 0 (⟨#[]⟩:Bs) none 0 0 0 0)::(ka a (IntKind.wrap .u8 (1+(IntKind.wrap .u8 r))) 0 (⟨#[]⟩:Bs) 0 0 0 0 0 (⟨#[]⟩:Bs) none 0 0 0 0 0 0 0 0 (⟨#[]⟩:Bs) none 0 0 0 0 0 0 0 0 (⟨#[]⟩:Bs) none 0 0 0 0 0 0 0 0 (⟨#[]⟩:Bs) none 0 0 0 m)::F40)∧Q (.returned ((kb (IntKind.wrap .u8 (1+(IntKind.wrap .u8 r))) 0 a1 0 0 0 0 0 (⟨#[]⟩:Bs) none 0 0 0 0 0 0 0 0 (⟨#[]⟩:Bs) none 0 0 0 0 0 0 0 0 (⟨#[]⟩:Bs) none 0 0 0 0 0 0 0 0 (⟨#[]⟩:Bs) none 0 0 0 m))) I30 F40)∨(∃aZ:List PanicEntry,bn=.panicked aZ∧∃F41:cR,List.Perm G22 ((ka b 0 0 (⟨#[]⟩:Bs) 0 0 0 0 0 (⟨#[]⟩:Bs) none 0 0 0 0 0 0 0 0 (⟨#[]⟩:Bs) none 0 0 0 0 0 0 0 0 (⟨#[]⟩:Bs) none 0 0 0 0 0 0 0 0 (⟨#[]⟩:Bs) none 0 0 0 0)::(ka a (IntKind.wrap .u8 (1+(IntKind.wrap .u8 r))) 0 (⟨#[]⟩:Bs) 0 0 0 0 0 (⟨#[]⟩:Bs) none 0 0 0 0 0 0 0 0 (⟨#[]⟩:Bs) none 0 0 0 0 0 0 0 0 (⟨#[]⟩:Bs) none 0 0 0 0 0 0 0 0 (⟨#[]⟩:Bs) none 0 0 0 m)::F41)∧Q (.panicked aZ) I30 F41))))))))∨(∃a0:List PanicEntry,e1=.panicked a0∧∃F42:cR,List.Perm G1 ((ka b 0 0 (⟨#[]⟩:Bs) 0 0 0 0 0 (⟨#[]⟩:Bs) none 0 0 0 0 0 0 0 0 (⟨#[]⟩:Bs) none 0 0 0 0 0 0 0 0 (⟨#[]⟩:Bs) none 0 0 0 0 0 0 0 0 (⟨#[]⟩:Bs) none 0 0 0 0)::(ka a 0 0 (⟨#[]⟩:Bs) 0 0 0 0 0 (⟨#[]⟩:Bs) none 0 0 0 0 0 0 0 0 (⟨#[]⟩:Bs) none 0 0 0 0 0 0 0 0 (⟨#[]⟩:Bs) none 0 0 0 0 0 0 0 0 (⟨#[]⟩:Bs) none 0 0 0 m)::F42)∧Q (.panicked a0) I2 F42))
theorem gI.vc{p:Addr}{I:cS}{F:cR}{Q:cZ}  (h:gI.V (fun W a b c d e f g h i j k l m n o p q r s t u v w x y z aa ab ac ad ae af ag ah ai aj ak al am an ao ap aq ar=>(W,Obj.cells #[.int .u8 a,.int .u8 b,.string c,.int .u8 d,.int .u8 e,.int .u8 f,.int .i64 g,.int .u8 h,.string i,.slice j k l,.int .i64 m,.int .u8 n,.int .u8 o,.int .u8 p,.int .i64 q,.int .u8 r,.string s,.slice t u v,.int .i64 w,.int .u8 x,.int .u8 y,.int .u8 z,.int .i64 aa,.int .u8 ab,.string ac,.slice ad ae af,.int .i64 ag,.int .u8 ah,.int .u8 ai,.int .u8 aj,.int .i64 ak,.int .u8 al,.string am,.slice an ao ap,.int .i64 aq,.int .i64 ar] 140 (0,0))) (fun a b c d e f g h i j k l m n o p q r s t u v w x y z aa ab ac ad ae af ag ah ai aj ak al am an ao ap aq ar=>.agg #[.int .u8 a,.int .u8 b,.string c,.int .u8 d,.int .u8 e,.int .u8 f,.int .i64 g,.int .u8 h,.string i,.slice j k l,.int .i64 m,.int .u8 n,.int .u8 o,.int .u8 p,.int .i64 q,.int .u8 r,.string s,.slice t u v,.int .i64 w,.int .u8 x,.int .u8 y,.int .u8 z,.int .i64 aa,.int .u8 ab,.string ac,.slice ad ae af,.int .i64 ag,.int .u8 ah,.int .u8 ai,.int .u8 aj,.int .i64 ak,.int .u8 al,.string am,.slice an ao ap,.int .i64 aq,.int .i64 ar]) (fun k o t n f s a l c q=>.agg #[.int .u8 k,.int .u8 o,.int .u8 t,.int .i64 n,.int .u8 f,.string s,.slice a l c,.int .i64 q]) (.int .u8) (.int .i64) .string .slice .pointer p I F Q):cX P 52 #[.pointer (some p)] I F Q :=
 tw (A:=(fP [5000,10003,13001,16000,22000,26000] [13,18,23,29] [13,18,21,23,29] jV [] [2001,7001,10001,12000,12002,18001,20001,24001] [] [] [] [] [])) [13,18,21,23,29] func52 h
def fX.V(ka:Nat→Int→Int→Int→Int→Int→Bs→OA→Nat→Nat→Int→OA→Nat→Nat→Int→Nat×Obj)(vb vi:Int→Value)(vs:Bs→Value)(vl:OA→Nat→Nat→Value)(vp:OA→Value)(p:Addr)(I:cS)(F:cR)(Q:cZ)(Inv14:Int→Int→Int→Int→Int→Bs→OA→Nat→Nat→Int→OA→Nat→Nat→Int→Nat→cS→cR→Prop):Prop:=∀b:Nat,∃ad:Addr,some p=some ad∧∃(m:Int),Rd I ((ka b 0 0 0 0 0 (⟨#[]⟩:Bs) none 0 0 0 none 0 0 0)::F) ((ad.add 1).add 4) [vi m]∧∀s:Nat,cX P 18 (#[vp (some p)]) I ((ka b 0 0 0 0 0 (⟨#[]⟩:Bs) none 0 0 0 none 0 0 0)::(ka s 0 0 0 0 0 (⟨#[]⟩:Bs) none 0 0 0 none 0 0 m)::F) fun e1 I1 G1=>((e1=.returned (.tuple #[])∧∃F1:cR,List.Perm G1 ((ka b 0 0 0 0 0 (⟨#[]⟩:Bs) none 0 0 0 none 0 0 0)::(ka s 0 0 0 0 0 (⟨#[]⟩:Bs) none 0 0 0 none 0 0 m)::F1)∧cX P 13 (#[vp (some p),vi 0]) I1 ((ka b 0 0 0 0 0 (⟨#[]⟩:Bs) none 0 0 0 none 0 0 0)::(ka s 0 0 0 0 0 (⟨#[]⟩:Bs) none 0 0 0 none 0 0 m)::F1) fun e2 I2 G2=>((∃(x y z aa ab:Int) (ac:Bs) (t:OA) (u w:Nat) (ae:Int),e2=.returned (.agg #[vb x,vb y,vb z,vi aa,vb ab,vs ac,vl t u w,vi ae])∧∃F2:cR,List.Perm G2 ((ka b 0 0 0 0 0 (⟨#[]⟩:Bs) none 0 0 0 none 0 0 0)::(ka s 0 0 0 0 0 (⟨#[]⟩:Bs) none 0 0 0 none 0 0 m)::F2)∧∀(b1:Nat) (I3:cS),cS.le I2 I3→I3 b1=some (Obj.cells #[vs (⟨#[100,111]⟩:Bs)] 9 (0,0))→cX P 23 (#[vp (some p),vl (some ⟨b1,0,none⟩) 1 1]) I3 ((ka b 0 0 0 0 0 (⟨#[]⟩:Bs) none 0 0 0 none 0 0 0)::(ka s x y z aa ab ac t u w ae none 0 0 m)::F2) fun e3 I4 G3=>((∃(r:Int),e3=.returned (vi r)∧∃F3:cR,List.Perm G3 ((ka b 0 0 0 0 0 (⟨#[]⟩:Bs) none 0 0 0 none 0 0 0)::(ka s x y z aa ab ac t u w ae none 0 0 m)::F3)∧cX P 52 (#[vp (some p)]) I4 ((ka b 0 0 0 0 0 (⟨#[]⟩:Bs) none 0 0 0 none 0 0 0)::(ka s x y z aa ab ac t u w ae none 0 0 m)::F3) fun e4 I5 G4=>((∃(bH bI:Int) (bJ:Bs) (bK bL bM cB bN:Int) (cC:Bs) (aO:OA) (aP aQ:Nat) (bO aR bP bQ bR bS:Int) (bT:Bs) (az:OA) (aA aB:Nat) (bU bV bW aS bX bY:Int) (bZ:Bs) (aC:OA) (aD aE:Nat) (b0 b6 b7 b8 b9 aT:Int) (ca:Bs) (aF:OA) (aG aH:Nat) (cb cc:Int),e4=.returned (.agg #[vb bH,vb bI,vs bJ,vb bK,vb bL,vb bM,vi cB,vb bN,vs cC,vl aO aP aQ,vi bO,vb aR,vb bP,vb bQ,vi bR,vb bS,vs bT,vl az aA aB,vi bU,vb bV,vb bW,vb aS,vi bX,vb bY,vs bZ,vl aC aD aE,vi b0,vb b6,vb b7,vb b8,vi b9,vb aT,vs ca,vl aF aG aH,vi cb,vi cc])∧∃F4:cR,List.Perm G4 ((ka b 0 0 0 0 0 (⟨#[]⟩:Bs) none 0 0 0 none 0 0 0)::(ka s x y z aa ab ac t u w ae none 0 0 m)::F4)∧∀(b2:Nat) (I6:cS),cS.le I5 I6→I6 b2=some (Obj.cells #[vb bH,vb bI,vs bJ,vb bK,vb bL,vb bM,vi cB,vb bN,vs cC,vl aO aP aQ,vi bO,vb aR,vb bP,vb bQ,vi bR,vb bS,vs bT,vl az aA aB,vi bU,vb bV,vb bW,vb aS,vi bX,vb bY,vs bZ,vl aC aD aE,vi b0,vb b6,vb b7,vb b8,vi b9,vb aT,vs ca,vl aF aG aH,vi cb,vi cc] 140 (0,0))→eM P (Builtin.append_ #[126,126] 126 #[vl none 0 0,vl (some ⟨b2,0,none⟩) 1 1]) I6 ((ka b 0 0 0 0 0 (⟨#[]⟩:Bs) none 0 0 0 none 0 0 0)::(ka s x y z aa ab ac t u w ae none 0 0 m)::F4) fun v I7 G5=>∃(cD:OA) (cE cF:Nat),v=vl cD cE cF∧∃F5:cR,List.Perm G5 ((ka b 0 0 0 0 0 (⟨#[]⟩:Bs) none 0 0 0 none 0 0 0)::(ka s x y z aa ab ac t u w ae none 0 0 m)::F5)∧(∃m1:Nat,Inv14 x y z aa ab ac t u w ae cD cE cF m m1 I7 F5)∧∀(h i j k l:Int) (n:Bs) (c:OA) (d e:Nat) (o:Int) (f:OA) (a g:Nat) (q:Int) (m2:Nat) (I8:cS) (F6:cR),cS.le I7 I8→Inv14 h i j k l n c d e o f a g q m2 I8 F6→mM P 21 (#[vp (some p),vs (⟨#[44]⟩:Bs)]) I8 ((ka b 0 0 0 0 0 (⟨#[]⟩:Bs) none 0 0 0 none 0 0 0)::(ka s h i j k l n c d e o f a g q)::·) F6 .bool fun r1 I9 F7=>(It r1 (It ((a:Int)==8) (cX P 19 (#[vp (some p),vi 131]) I9 ((ka b 0 0 0 0 0 (⟨#[]⟩:Bs) none 0 0 0 none 0 0 0)::(ka s h i j k l n c d e o f a g q)::F7) fun e6 I10 G7=>((e6=.returned (.tuple #[])∧∃F8:cR,List.Perm G7 ((ka b 0 0 0 0 0 (⟨#[]⟩:Bs) none 0 0 0 none 0 0 0)::(ka s h i j k l n c d e o f a g q)::F8)∧cX P 18 (#[vp (some p)]) I10 ((ka b 0 0 0 0 0 (⟨#[]⟩:Bs) none 0 0 0 none 0 0 0)::(ka s h i j k l n c d e o f a g q)::F8) fun e7 I11 G8=>((e7=.returned (.tuple #[])∧∃F9:cR,List.Perm G8 ((ka b 0 0 0 0 0 (⟨#[]⟩:Bs) none 0 0 0 none 0 0 0)::(ka s h i j k l n c d e o f a g q)::F9)∧cX P 52 (#[vp (some p)]) I11 ((ka b 0 0 0 0 0 (⟨#[]⟩:Bs) none 0 0 0 none 0 0 0)::(ka s h i j k l n c d e o f a g q)::F9) fun e8 I12 G9=>((∃(cd ce:Int) (cf:Bs) (cg ci cj ck cl:Int) (cm:Bs) (aI:OA) (aJ aK:Nat) (aU aV aW aX aY aZ:Int) (a0:Bs) (af:OA) (ag ah:Nat) (a1 a2 a3 a4 a5 a6:Int) (a7:Bs) (ai:OA) (aj ak:Nat) (a8 a9 ba bb bc bd:Int) (be:Bs) (al:OA) (am an:Nat) (bf bg:Int),e8=.returned (.agg #[vb cd,vb ce,vs cf,vb cg,vb ci,vb cj,vi ck,vb cl,vs cm,vl aI aJ aK,vi aU,vb aV,vb aW,vb aX,vi aY,vb aZ,vs a0,vl af ag ah,vi a1,vb a2,vb a3,vb a4,vi a5,vb a6,vs a7,vl ai aj ak,vi a8,vb a9,vb ba,vb bb,vi bc,vb bd,vs be,vl al am an,vi bf,vi bg])∧∃F10:cR,List.Perm G9 ((ka b 0 0 0 0 0 (⟨#[]⟩:Bs) none 0 0 0 none 0 0 0)::(ka s h i j k l n c d e o f a g q)::F10)∧∀(b3:Nat) (I13:cS),cS.le I12 I13→I13 b3=some (Obj.cells #[vb cd,vb ce,vs cf,vb cg,vb ci,vb cj,vi ck,vb cl,vs cm,vl aI aJ aK,vi aU,vb aV,vb aW,vb aX,vi aY,vb aZ,vs a0,vl af ag ah,vi a1,vb a2,vb a3,vb a4,vi a5,vb a6,vs a7,vl ai aj ak,vi a8,vb a9,vb ba,vb bb,vi bc,vb bd,vs be,vl al am an,vi bf,vi bg] 140 (0,0))→eM P (Builtin.append_ #[126,126] 126 #[vl f a g,vl (some ⟨b3,0,none⟩) 1 1]) I13 ((ka b 0 0 0 0 0 (⟨#[]⟩:Bs) none 0 0 0 none 0 0 0)::(ka s h i j k l n c d e o f a g q)::F10) fun v1 I14 G10=>∃(co:OA) (cp cq:Nat),v1=vl co cp cq∧∃F11:cR,List.Perm G10 ((ka b 0 0 0 0 0 (⟨#[]⟩:Bs) none 0 0 0 none 0 0 0)::(ka s h i j k l n c d e o f a g q)::F11)∧(∃m3:Nat,m3<m2∧Inv14 h i j k l n c d e o co cp cq q m3 I14 F11))∨(∃ch:List PanicEntry,e8=.panicked ch∧∃F12:cR,List.Perm G9 ((ka b 0 0 0 0 0 (⟨#[]⟩:Bs) none 0 0 0 none 0 0 0)::(ka s h i j k l n c d e o f a g q)::F12)∧Q (.panicked ch) I12 F12)))∨(∃cG:List PanicEntry,e7=.panicked cG∧∃F13:cR,List.Perm G8 ((ka b 0 0 0 0 0 (⟨#[]⟩:Bs) none 0 0 0 none 0 0 0)::(ka s h i j k l n c d e o f a g q)::F13)∧Q (.panicked cG) I11 F13)))∨(∃cH:List PanicEntry,e6=.panicked cH∧∃F14:cR,List.Perm G7 ((ka b 0 0 0 0 0 (⟨#[]⟩:Bs) none 0 0 0 none 0 0 0)::(ka s h i j k l n c d e o f a g q)::F14)∧Q (.panicked cH) I10 F14))) (cX P 18 (#[vp (some p)]) I9 ((ka b 0 0 0 0 0 (⟨#[]⟩:Bs) none 0 0 0 none 0 0 0)::(ka s h i j k l n c d e o f a g q)::F7) fun e9 I15 G11=>((e9=.returned (.tuple #[])∧∃F15:cR,List.Perm G11 ((ka b 0 0 0 0 0 (⟨#[]⟩:Bs) none 0 0 0 none 0 0 0)::(ka s h i j k l n c d e o f a g q)::F15)∧cX P 52 (#[vp (some p)]) I15 ((ka b 0 0 0 0 0 (⟨#[]⟩:Bs) none 0 0 0 none 0 0 0)::(ka s h i j k l n c d e o f a g q)::F15) fun cP I16 G12=>((∃(cr bh:Int) (bi:Bs) (cs ct cu cv cw:Int) (cx:Bs) (aL:OA) (aM aN:Nat) (bj bk bl bm bn bo:Int) (bp:Bs) (ao:OA) (ap aq:Nat) (bq br bs bt bu bv:Int) (bw:Bs) (ar:OA) (au av:Nat) (bx bz bA bB bC bD:Int) (bE:Bs) (aw:OA) (ax ay:Nat) (bF bG:Int),cP=.returned (.agg #[vb cr,vb bh,vs bi,vb cs,vb ct,vb cu,vi cv,vb cw,vs cx,vl aL aM aN,vi bj,vb bk,vb bl,vb bm,vi bn,vb bo,vs bp,vl ao ap aq,vi bq,vb br,vb bs,vb bt,vi bu,vb bv,vs bw,vl ar au av,vi bx,vb bz,vb bA,vb bB,vi bC,vb bD,vs bE,vl aw ax ay,vi bF,vi bG])∧∃F16:cR,List.Perm G12 ((ka b 0 0 0 0 0 (⟨#[]⟩:Bs) none 0 0 0 none 0 0 0)::(ka s h i j k l n c d e o f a g q)::F16)∧∀(b4:Nat) (I17:cS),cS.le I16 I17→I17 b4=some (Obj.cells #[vb cr,vb bh,vs bi,vb cs,vb ct,vb cu,vi cv,vb cw,vs cx,vl aL aM aN,vi bj,vb bk,vb bl,vb bm,vi bn,vb bo,vs bp,vl ao ap aq,vi bq,vb br,vb bs,vb bt,vi bu,vb bv,vs bw,vl ar au av,vi bx,vb bz,vb bA,vb bB,vi bC,vb bD,vs bE,vl aw ax ay,vi bF,vi bG] 140 (0,0))→eM P (Builtin.append_ #[126,126] 126 #[vl f a g,vl (some ⟨b4,0,none⟩) 1 1]) I17 ((ka b 0 0 0 0 0 (⟨#[]⟩:Bs) none 0 0 0 none 0 0 0)::(ka s h i j k l n c d e o f a g q)::F16) fun v2 I18 G13=>∃(cy:OA) (cz cA:Nat),v2=vl cy cz cA∧∃F17:cR,List.Perm G13 ((ka b 0 0 0 0 0 (⟨#[]⟩:Bs) none 0 0 0 none 0 0 0)::(ka s h i j k l n c d e o f a g q)::F17)∧(∃m4:Nat,m4<m2∧Inv14 h i j k l n c d e o cy cz cA q m4 I18 F17))∨(∃cI:List PanicEntry,cP=.panicked cI∧∃F18:cR,List.Perm G12 ((ka b 0 0 0 0 0 (⟨#[]⟩:Bs) none 0 0 0 none 0 0 0)::(ka s h i j k l n c d e o f a g q)::F18)∧Q (.panicked cI) I16 F18)))∨(∃cJ:List PanicEntry,e9=.panicked cJ∧∃F19:cR,List.Perm G11 ((ka b 0 0 0 0 0 (⟨#[]⟩:Bs) none 0 0 0 none 0 0 0)::(ka s h i j k l n c d e o f a g q)::F19)∧Q (.panicked cJ) I15 F19)))) (∀(b5:Nat) (I19:cS),cS.le I9 I19→I19 b5=some (Obj.cells #[vs (⟨#[59]⟩:Bs)] 9 (0,0))→cX P 23 (#[vp (some p),vl (some ⟨b5,0,none⟩) 1 1]) I19 ((ka b 0 0 0 0 0 (⟨#[]⟩:Bs) none 0 0 0 none 0 0 0)::(ka s h i j k l n c d e o f a g q)::F7) fun cQ I20 G14=>((∃(r2:Int),cQ=.returned (vi r2)∧∃F20:cR,List.Perm G14 ((ka b 0 0 0 0 0 (⟨#[]⟩:Bs) none 0 0 0 none 0 0 0)::(ka s h i j k l n c d e o f a g q)::F20)∧Q (.returned (.agg #[vb h,vb i,vb j,vi k,vb l,vs n,vl c d e,vi o,vl f a g,vi q])) I20 F20)∨(∃cK:List PanicEntry,cQ=.panicked cK∧∃F21:cR,List.Perm G14 ((ka b 0 0 0 0 0 (⟨#[]⟩:Bs) none 0 0 0 none 0 0 0)::(ka s h i j k l n c d e o f a g q)::F21)∧Q (.panicked cK) I20 F21)))))∨(∃cL:List PanicEntry,e4=.panicked cL∧∃F22:cR,List.Perm G4 ((ka b 0 0 0 0 0 (⟨#[]⟩:Bs) none 0 0 0 none 0 0 0)::(ka s x y z aa ab ac t u w ae none 0 0 m)::F22)∧Q (.panicked cL) I5 F22)))∨(∃cM:List PanicEntry,e3=.panicked cM∧∃F23:cR,List.Perm G3 ((ka b 0 0 0 0 0 (⟨#[]⟩:Bs) none 0 0 0 none 0 0 0)::(ka s x y z aa ab ac t u w ae none 0 0 m)::F23)∧Q (.panicked cM) I4 F23)))∨(∃cN:List PanicEntry,e2=.panicked cN∧∃F24:cR,List.Perm G2 ((ka b 0 0 0 0 0 (⟨#[]⟩:Bs) none 0 0 0 none 0 0 0)::(ka s 0 0 0 0 0 (⟨#[]⟩:Bs) none 0 0 0 none 0 0 m)::F24)∧Q (.panicked cN) I2 F24)))∨(∃cO:List PanicEntry,e1=.panicked cO∧∃F25:cR,List.Perm G1 ((ka b 0 0 0 0 0 (⟨#[]⟩:Bs) none 0 0 0 none 0 0 0)::(ka s 0 0 0 0 0 (⟨#[]⟩:Bs) none 0 0 0 none 0 0 m)::F25)∧Q (.panicked cO) I1 F25))
theorem fX.vc{p:Addr}{I:cS}{F:cR}{Q:cZ}(Inv14:Int→Int→Int→Int→Int→Bs→OA→Nat→Nat→Int→OA→Nat→Nat→Int→Nat→cS→cR→Prop)(h:fX.V (fun W a b c d e f g h i j k l m n=>(W,Obj.cells #[.int .u8 a,.int .u8 b,.int .u8 c,.int .i64 d,.int .u8 e,.string f,.slice g h i,.int .i64 j,.slice k l m,.int .i64 n] 128 (0,0))) (.int .u8) (.int .i64) .string .slice .pointer p I F Q Inv14):cX P 47 #[.pointer (some p)] I F Q :=
 tw (A:=(fP [6001,7003] [13,18,19,23,52] [13,18,19,21,23,52] jV [(14,⟨[],[(1,[(.int .u8),(.int .u8),(.int .u8),(.int .i64),(.int .u8),.str,.slc,(.int .i64),.slc,(.int .i64)])],fun _ _ _ vs m I F=>match vs with | [.int _ y0,.int _ y1,.int _ y2,.int _ y3,.int _ y4,.string y5,.slice y6 y7 y8,.int _ y9,.slice y10 y11 y12,.int _ y13]=>Inv14 y0 y1 y2 y3 y4 y5 y6 y7 y8 y9 y10 y11 y12 y13 m I F | _=>False,[],[]⟩)] [4001,5004,10004,11001] [] [] [] [(5,[0,2,1,3,4,5,6,7]),(10,[0,2,1,3,4,5,6,7])] [] [] [(5,[1],7),(10,[1],7)])) [13,18,19,21,23,52] func47 h
def fJ.V(ka:Nat→Bs→OA→Nat→Nat→Int→Nat×Obj)(vi:Int→Value)(vs:Bs→Value)(vl:OA→Nat→Nat→Value)(vp:OA→Value)(p:Addr)(I:cS)(F:cR)(Q:cZ)  : Prop:=∀b:Nat,∃ad:Addr,some p=some ad∧∃(m:Int),Rd I ((ka b (⟨#[]⟩:Bs) none 0 0 0)::F) ((ad.add 1).add 4) [vi m]∧∀a:Nat,cX P 18 (#[vp (some p)]) I ((ka b (⟨#[]⟩:Bs) none 0 0 0)::(ka a (⟨#[]⟩:Bs) none 0 0 m)::F) fun e1 I1 G1=>((e1=.returned (.tuple #[])∧∃F1:cR,List.Perm G1 ((ka b (⟨#[]⟩:Bs) none 0 0 0)::(ka a (⟨#[]⟩:Bs) none 0 0 m)::F1)∧cX P 29 (#[vp (some p)]) I1 ((ka b (⟨#[]⟩:Bs) none 0 0 0)::(ka a (⟨#[]⟩:Bs) none 0 0 m)::F1) fun e2 I2 G2=>((∃(r:Bs),e2=.returned (vs r)∧∃F2:cR,List.Perm G2 ((ka b (⟨#[]⟩:Bs) none 0 0 0)::(ka a (⟨#[]⟩:Bs) none 0 0 m)::F2)∧∀(b1:Nat) (I3:cS),cS.le I2 I3→I3 b1=some (Obj.cells #[vs (⟨#[123]⟩:Bs)] 9 (0,0))→cX P 23 (#[vp (some p),vl (some ⟨b1,0,none⟩) 1 1]) I3 ((ka b (⟨#[]⟩:Bs) none 0 0 0)::(ka a r none 0 0 m)::F2) fun e3 I4 G3=>((∃(r1:Int),e3=.returned (vi r1)∧∃F3:cR,List.Perm G3 ((ka b (⟨#[]⟩:Bs) none 0 0 0)::(ka a r none 0 0 m)::F3)∧cX P 46 (#[vp (some p),vs (⟨#[119,104,101,110]⟩:Bs),vi 12,.func (.func 47) #[] #[]]) I4 ((ka b (⟨#[]⟩:Bs) none 0 0 0)::(ka a r none 0 0 m)::F3) fun e4 I5 G4=>((∃(c:OA) (d e:Nat),e4=.returned (vl c d e)∧∃F4:cR,List.Perm G4 ((ka b (⟨#[]⟩:Bs) none 0 0 0)::(ka a r none 0 0 m)::F4)∧∀(b2:Nat) (I6:cS),cS.le I5 I6→I6 b2=some (Obj.cells #[vs (⟨#[125]⟩:Bs)] 9 (0,0))→cX P 23 (#[vp (some p),vl (some ⟨b2,0,none⟩) 1 1]) I6 ((ka b (⟨#[]⟩:Bs) none 0 0 0)::(ka a r c d e m)::F4) fun e5 I7 G5=>((∃(r2:Int),e5=.returned (vi r2)∧∃F5:cR,List.Perm G5 ((ka b (⟨#[]⟩:Bs) none 0 0 0)::(ka a r c d e m)::F5)∧Q (.returned (.agg #[vs r,vl c d e,vi m])) I7 F5)∨(∃ch:List PanicEntry,e5=.panicked ch∧∃F6:cR,List.Perm G5 ((ka b (⟨#[]⟩:Bs) none 0 0 0)::(ka a r c d e m)::F6)∧Q (.panicked ch) I7 F6)))∨(∃f:List PanicEntry,e4=.panicked f∧∃F7:cR,List.Perm G4 ((ka b (⟨#[]⟩:Bs) none 0 0 0)::(ka a r none 0 0 m)::F7)∧Q (.panicked f) I5 F7)))∨(∃g:List PanicEntry,e3=.panicked g∧∃F8:cR,List.Perm G3 ((ka b (⟨#[]⟩:Bs) none 0 0 0)::(ka a r none 0 0 m)::F8)∧Q (.panicked g) I4 F8)))∨(∃h:List PanicEntry,e2=.panicked h∧∃F9:cR,List.Perm G2 ((ka b (⟨#[]⟩:Bs) none 0 0 0)::(ka a (⟨#[]⟩:Bs) none 0 0 m)::F9)∧Q (.panicked h) I2 F9)))∨(∃i:List PanicEntry,e1=.panicked i∧∃F10:cR,List.Perm G1 ((ka b (⟨#[]⟩:Bs) none 0 0 0)::(ka a (⟨#[]⟩:Bs) none 0 0 m)::F10)∧Q (.panicked i) I1 F10))
theorem fJ.vc{p:Addr}{I:cS}{F:cR}{Q:cZ}  (h:fJ.V (fun W a b c d e=>(W,Obj.cells #[.string a,.slice b c d,.int .i64 e] 53 (0,0))) (.int .i64) .string .slice .pointer p I F Q):cX P 35 #[.pointer (some p)] I F Q :=
 tw (A:=(fP [] [18,23,29,46] [18,23,29,46] jV [] [4001,6001] [] [] [] [] [])) [18,23,29,46] func35 h
def eR.V(ka:Nat→Bs→OA→Nat→Nat→OA→Nat→Nat→OA→Nat→Nat→Nat×Obj)(vi:Int→Value)(vs:Bs→Value)(vl:OA→Nat→Nat→Value)(vp:OA→Value)(p:Addr)(I:cS)(F:cR)(Q:cZ)  : Prop:=∀b:Nat,∀(b1:Nat) (I1:cS),cS.le I I1→I1 b1=some (Obj.cells #[vs (⟨#[115,116,114,97,116,101,103,121]⟩:Bs)] 9 (0,0))→cX P 23 (#[vp (some p),vl (some ⟨b1,0,none⟩) 1 1]) I1 ((ka b (⟨#[]⟩:Bs) none 0 0 none 0 0 none 0 0)::F) fun e1 I2 G1=>((∃(r:Int),e1=.returned (vi r)∧∃F1:cR,List.Perm G1 ((ka b (⟨#[]⟩:Bs) none 0 0 none 0 0 none 0 0)::F1)∧cX P 29 (#[vp (some p)]) I2 ((ka b (⟨#[]⟩:Bs) none 0 0 none 0 0 none 0 0)::F1) fun e2 I3 G2=>((∃(r1:Bs),e2=.returned (vs r1)∧∃F2:cR,List.Perm G2 ((ka b (⟨#[]⟩:Bs) none 0 0 none 0 0 none 0 0)::F2)∧∀a:Nat,∀(b2:Nat) (I4:cS),cS.le I3 I4→I4 b2=some (Obj.cells #[vs (⟨#[123]⟩:Bs)] 9 (0,0))→cX P 23 (#[vp (some p),vl (some ⟨b2,0,none⟩) 1 1]) I4 ((ka b (⟨#[]⟩:Bs) none 0 0 none 0 0 none 0 0)::(ka a r1 none 0 0 none 0 0 none 0 0)::F2) fun e3 I5 G3=>((∃(r2:Int),e3=.returned (vi r2)∧∃F3:cR,List.Perm G3 ((ka b (⟨#[]⟩:Bs) none 0 0 none 0 0 none 0 0)::(ka a r1 none 0 0 none 0 0 none 0 0)::F3)∧cX P 30 (#[vp (some p),vs (⟨#[114,101,103]⟩:Bs),vi 12,.func (.func 31) #[] #[]]) I5 ((ka b (⟨#[]⟩:Bs) none 0 0 none 0 0 none 0 0)::(ka a r1 none 0 0 none 0 0 none 0 0)::F3) fun e4 I6 G4=>((∃(g:OA) (h i:Nat),e4=.returned (vl g h i)∧∃F4:cR,List.Perm G4 ((ka b (⟨#[]⟩:Bs) none 0 0 none 0 0 none 0 0)::(ka a r1 none 0 0 none 0 0 none 0 0)::F4)∧cX P 32 (#[vp (some p),vs (⟨#[115,108,111,116]⟩:Bs),vi 4,.func (.func 33) #[] #[]]) I6 ((ka b (⟨#[]⟩:Bs) none 0 0 none 0 0 none 0 0)::(ka a r1 g h i none 0 0 none 0 0)::F4) fun e5 I7 G5=>((∃(c:OA) (d e:Nat),e5=.returned (vl c d e)∧∃F5:cR,List.Perm G5 ((ka b (⟨#[]⟩:Bs) none 0 0 none 0 0 none 0 0)::(ka a r1 g h i none 0 0 none 0 0)::F5)∧cX P 34 (#[vp (some p),vs (⟨#[115,116,97,116,101]⟩:Bs),vi 12,.func (.func 35) #[] #[]]) I7 ((ka b (⟨#[]⟩:Bs) none 0 0 none 0 0 none 0 0)::(ka a r1 g h i c d e none 0 0)::F5) fun e6 I8 G6=>((∃(j:OA) (f k:Nat),e6=.returned (vl j f k)∧∃F6:cR,List.Perm G6 ((ka b (⟨#[]⟩:Bs) none 0 0 none 0 0 none 0 0)::(ka a r1 g h i c d e none 0 0)::F6)∧(It ((f:Int)==0) (cX P 19 (#[vp (some p),vi 130]) I8 ((ka b (⟨#[]⟩:Bs) none 0 0 none 0 0 none 0 0)::(ka a r1 g h i c d e j f k)::F6) fun e7 I9 G7=>((e7=.returned (.tuple #[])∧∃F7:cR,List.Perm G7 ((ka b (⟨#[]⟩:Bs) none 0 0 none 0 0 none 0 0)::(ka a r1 g h i c d e j f k)::F7)∧∀(b3:Nat) (I10:cS),cS.le I9 I10→I10 b3=some (Obj.cells #[vs (⟨#[125]⟩:Bs)] 9 (0,0))→cX P 23 (#[vp (some p),vl (some ⟨b3,0,none⟩) 1 1]) I10 ((ka b (⟨#[]⟩:Bs) none 0 0 none 0 0 none 0 0)::(ka a r1 g h i c d e j f k)::F7) fun e8 I11 G8=>((∃(r3:Int),e8=.returned (vi r3)∧∃F8:cR,List.Perm G8 ((ka b (⟨#[]⟩:Bs) none 0 0 none 0 0 none 0 0)::(ka a r1 g h i c d e j f k)::F8)∧Q (.returned (.agg #[vs r1,vl g h i,vl c d e,vl j f k])) I11 F8)∨(∃ch:List PanicEntry,e8=.panicked ch∧∃F9:cR,List.Perm G8 ((ka b (⟨#[]⟩:Bs) none 0 0 none 0 0 none 0 0)::(ka a r1 g h i c d e j f k)::F9)∧Q (.panicked ch) I11 F9)))∨(∃l:List PanicEntry,e7=.panicked l∧∃F10:cR,List.Perm G7 ((ka b (⟨#[]⟩:Bs) none 0 0 none 0 0 none 0 0)::(ka a r1 g h i c d e j f k)::F10)∧Q (.panicked l) I9 F10))) (∀(b4:Nat) (I12:cS),cS.le I8 I12→I12 b4=some (Obj.cells #[vs (⟨#[125]⟩:Bs)] 9 (0,0))→cX P 23 (#[vp (some p),vl (some ⟨b4,0,none⟩) 1 1]) I12 ((ka b (⟨#[]⟩:Bs) none 0 0 none 0 0 none 0 0)::(ka a r1 g h i c d e j f k)::F6) fun e9 I13 G9=>((∃(r4:Int),e9=.returned (vi r4)∧∃F11:cR,List.Perm G9 ((ka b (⟨#[]⟩:Bs) none 0 0 none 0 0 none 0 0)::(ka a r1 g h i c d e j f k)::F11)∧Q (.returned (.agg #[vs r1,vl g h i,vl c d e,vl j f k])) I13 F11)∨(∃m:List PanicEntry,e9=.panicked m∧∃F12:cR,List.Perm G9 ((ka b (⟨#[]⟩:Bs) none 0 0 none 0 0 none 0 0)::(ka a r1 g h i c d e j f k)::F12)∧Q (.panicked m) I13 F12)))))∨(∃n:List PanicEntry,e6=.panicked n∧∃F13:cR,List.Perm G6 ((ka b (⟨#[]⟩:Bs) none 0 0 none 0 0 none 0 0)::(ka a r1 g h i c d e none 0 0)::F13)∧Q (.panicked n) I8 F13)))∨(∃o:List PanicEntry,e5=.panicked o∧∃F14:cR,List.Perm G5 ((ka b (⟨#[]⟩:Bs) none 0 0 none 0 0 none 0 0)::(ka a r1 g h i none 0 0 none 0 0)::F14)∧Q (.panicked o) I7 F14)))∨(∃q:List PanicEntry,e4=.panicked q∧∃F15:cR,List.Perm G4 ((ka b (⟨#[]⟩:Bs) none 0 0 none 0 0 none 0 0)::(ka a r1 none 0 0 none 0 0 none 0 0)::F15)∧Q (.panicked q) I6 F15)))∨(∃s:List PanicEntry,e3=.panicked s∧∃F16:cR,List.Perm G3 ((ka b (⟨#[]⟩:Bs) none 0 0 none 0 0 none 0 0)::(ka a r1 none 0 0 none 0 0 none 0 0)::F16)∧Q (.panicked s) I5 F16)))∨(∃t:List PanicEntry,e2=.panicked t∧∃F17:cR,List.Perm G2 ((ka b (⟨#[]⟩:Bs) none 0 0 none 0 0 none 0 0)::F17)∧Q (.panicked t) I3 F17)))∨(∃u:List PanicEntry,e1=.panicked u∧∃F18:cR,List.Perm G1 ((ka b (⟨#[]⟩:Bs) none 0 0 none 0 0 none 0 0)::F18)∧Q (.panicked u) I2 F18))
theorem eR.vc{p:Addr}{I:cS}{F:cR}{Q:cZ}  (h:eR.V (fun W a b c d e f g h i j=>(W,Obj.cells #[.string a,.slice b c d,.slice e f g,.slice h i j] 48 (0,0))) (.int .i64) .string .slice .pointer p I F Q):cX P 16 #[.pointer (some p)] I F Q :=
 tw (A:=(fP [7003] [19,23,29,30,32,34] [19,23,29,30,32,34] jV [] [1001,3001,9001] [] [] [] [] [])) [19,23,29,30,32,34] func16 h
def jh.V(vb vi:Int→Value)(vs:Bs→Value)(vl:OA→Nat→Nat→Value)(vp:OA→Value)(p:Addr)(aw:Bs)(o:Int)(q:Fn)(c d:Array Value)(I:cS)(F:cR)(Q:cZ)(Inv6:OA→Nat→Nat→Nat→cS→cR→Prop):Prop:=(∃m:Nat,Inv6 none 0 0 m I F)∧∀(h:OA) (a i m1:Nat) (I1:cS) (F1:cR),cS.le I I1→Inv6 h a i m1 I1 F1→mM P 21 (#[vp (some p),vs aw]) I1 (·) F1 .bool fun r I2 F2=>(It r (It ((a:Int)==o) (cX P 19 (#[vp (some p),vi 131]) I2 F2 fun e2 I3 G2=>((e2=.returned (.tuple #[])∧∃F3:cR,List.Perm G2 F3∧iA P (.func q c d) [vp (some p)] I3 F3 fun e3 I4 G3=>((∃(ag:Bs) (ah ai aj ak al am:Int) (an:Bs) (j:OA) (k l:Nat) (ao s:Int),e3=.returned (.agg #[vs ag,vb ah,vb ai,vb aj,vb ak,vi al,vb am,vs an,vl j k l,vi ao,vi s])∧∃F4:cR,List.Perm G3 F4∧∀(b:Nat) (I5:cS),cS.le I4 I5→I5 b=some (Obj.cells #[vs ag,vb ah,vb ai,vb aj,vb ak,vi al,vb am,vs an,vl j k l,vi ao,vi s] 92 (0,0))→eM P (Builtin.append_ #[44,44] 44 #[vl h a i,vl (some ⟨b,0,none⟩) 1 1]) I5 F4 fun v I6 G4=>∃(ap:OA) (aq ar:Nat),v=vl ap aq ar∧∃F5:cR,List.Perm G4 F5∧(∃m2:Nat,m2<m1∧Inv6 ap aq ar m2 I6 F5))∨(∃ch:List PanicEntry,e3=.panicked ch∧∃F6:cR,List.Perm G3 F6∧Q (.panicked ch) I4 F6)))∨(∃au:List PanicEntry,e2=.panicked au∧∃F7:cR,List.Perm G2 F7∧Q (.panicked au) I3 F7))) (iA P (.func q c d) [vp (some p)] I2 F2 fun e4 I7 G5=>((∃(t:Bs) (u w x y z aa:Int) (ab:Bs) (e:OA) (f g:Nat) (ac n:Int),e4=.returned (.agg #[vs t,vb u,vb w,vb x,vb y,vi z,vb aa,vs ab,vl e f g,vi ac,vi n])∧∃F8:cR,List.Perm G5 F8∧∀(b1:Nat) (I8:cS),cS.le I7 I8→I8 b1=some (Obj.cells #[vs t,vb u,vb w,vb x,vb y,vi z,vb aa,vs ab,vl e f g,vi ac,vi n] 92 (0,0))→eM P (Builtin.append_ #[44,44] 44 #[vl h a i,vl (some ⟨b1,0,none⟩) 1 1]) I8 F8 fun v1 I9 G6=>∃(ad:OA) (ae af:Nat),v1=vl ad ae af∧∃F9:cR,List.Perm G6 F9∧(∃m3:Nat,m3<m1∧Inv6 ad ae af m3 I9 F9))∨(∃av:List PanicEntry,e4=.panicked av∧∃F10:cR,List.Perm G5 F10∧Q (.panicked av) I7 F10)))) (Q (.returned (vl h a i)) I2 F2))
theorem jh.vc{p:Addr}{c:Bs}{d:Int}{e:Fn}{a b:Array Value}{I:cS}{F:cR}{Q:cZ}(Inv6:OA→Nat→Nat→Nat→cS→cR→Prop)(h:jh.V (.int .u8) (.int .i64) .string .slice .pointer p c d e a b I F Q Inv6):cX P 30 #[.pointer (some p),.string c,.int .i64 d,.func e a b] I F Q :=
 tw (A:=(fP [2002,3003] [0,19] [19,21] jV [(6,⟨[(9,.slc)],[],fun _ _ _ vs m I F=>match vs with | [.slice y0 y1 y2]=>Inv6 y0 y1 y2 m I F | _=>False,[],[]⟩)] [5004] [] [] [5003] [] [])) [19,21] func30 h
def iH.V(vi:Int→Value)(vs:Bs→Value)(vl:OA→Nat→Nat→Value)(vp:OA→Value)(p:Addr)(y:Bs)(g:Int)(h:Fn)(c d:Array Value)(I:cS)(F:cR)(Q:cZ)(Inv6:OA→Nat→Nat→Nat→cS→cR→Prop):Prop:=(∃m:Nat,Inv6 none 0 0 m I F)∧∀(e:OA) (a f m1:Nat) (I1:cS) (F1:cR),cS.le I I1→Inv6 e a f m1 I1 F1→mM P 21 (#[vp (some p),vs y]) I1 (·) F1 .bool fun r I2 F2=>(It r (It ((a:Int)==g) (cX P 19 (#[vp (some p),vi 131]) I2 F2 fun e2 I3 G2=>((e2=.returned (.tuple #[])∧∃F3:cR,List.Perm G2 F3∧iA P (.func h c d) [vp (some p)] I3 F3 fun e3 I4 G3=>((∃(o:Bs) (q:Int),e3=.returned (.agg #[vs o,vi q])∧∃F4:cR,List.Perm G3 F4∧∀(b:Nat) (I5:cS),cS.le I4 I5→I5 b=some (Obj.cells #[vs o,vi q] 97 (0,0))→eM P (Builtin.append_ #[45,45] 45 #[vl e a f,vl (some ⟨b,0,none⟩) 1 1]) I5 F4 fun v I6 G4=>∃(s:OA) (t u:Nat),v=vl s t u∧∃F5:cR,List.Perm G4 F5∧(∃m2:Nat,m2<m1∧Inv6 s t u m2 I6 F5))∨(∃ch:List PanicEntry,e3=.panicked ch∧∃F6:cR,List.Perm G3 F6∧Q (.panicked ch) I4 F6)))∨(∃w:List PanicEntry,e2=.panicked w∧∃F7:cR,List.Perm G2 F7∧Q (.panicked w) I3 F7))) (iA P (.func h c d) [vp (some p)] I2 F2 fun e4 I7 G5=>((∃(i:Bs) (j:Int),e4=.returned (.agg #[vs i,vi j])∧∃F8:cR,List.Perm G5 F8∧∀(b1:Nat) (I8:cS),cS.le I7 I8→I8 b1=some (Obj.cells #[vs i,vi j] 97 (0,0))→eM P (Builtin.append_ #[45,45] 45 #[vl e a f,vl (some ⟨b1,0,none⟩) 1 1]) I8 F8 fun v1 I9 G6=>∃(k:OA) (l n:Nat),v1=vl k l n∧∃F9:cR,List.Perm G6 F9∧(∃m3:Nat,m3<m1∧Inv6 k l n m3 I9 F9))∨(∃x:List PanicEntry,e4=.panicked x∧∃F10:cR,List.Perm G5 F10∧Q (.panicked x) I7 F10)))) (Q (.returned (vl e a f)) I2 F2))
theorem iH.vc{p:Addr}{c:Bs}{d:Int}{e:Fn}{a b:Array Value}{I:cS}{F:cR}{Q:cZ}(Inv6:OA→Nat→Nat→Nat→cS→cR→Prop)(h:iH.V (.int .i64) .string .slice .pointer p c d e a b I F Q Inv6):cX P 32 #[.pointer (some p),.string c,.int .i64 d,.func e a b] I F Q :=
 tw (A:=(fP [2002,3003] [0,19] [19,21] jV [(6,⟨[(9,.slc)],[],fun _ _ _ vs m I F=>match vs with | [.slice y0 y1 y2]=>Inv6 y0 y1 y2 m I F | _=>False,[],[]⟩)] [5004] [] [] [5003] [] [])) [19,21] func32 h
def iI.V(vb vi:Int→Value)(vs:Bs→Value)(vl:OA→Nat→Nat→Value)(vp:OA→Value)(p:Addr)(ay:Bs)(w:Int)(x:Fn)(c d:Array Value)(I:cS)(F:cR)(Q:cZ)(Inv6:OA→Nat→Nat→Nat→cS→cR→Prop):Prop:=(∃m:Nat,Inv6 none 0 0 m I F)∧∀(k:OA) (a l m1:Nat) (I1:cS) (F1:cR),cS.le I I1→Inv6 k a l m1 I1 F1→mM P 21 (#[vp (some p),vs ay]) I1 (·) F1 .bool fun r I2 F2=>(It r (It ((a:Int)==w) (cX P 19 (#[vp (some p),vi 131]) I2 F2 fun e2 I3 G2=>((e2=.returned (.tuple #[])∧∃F3:cR,List.Perm G2 F3∧iA P (.func x c d) [vp (some p)] I3 F3 fun e3 I4 G3=>((∃(aj ak al am an:Int) (ao:Bs) (n:OA) (o q:Nat) (ap:Int) (s:OA) (t u:Nat) (aq:Int),e3=.returned (.agg #[vb aj,vb ak,vb al,vi am,vb an,vs ao,vl n o q,vi ap,vl s t u,vi aq])∧∃F4:cR,List.Perm G3 F4∧∀(b:Nat) (I5:cS),cS.le I4 I5→I5 b=some (Obj.cells #[vb aj,vb ak,vb al,vi am,vb an,vs ao,vl n o q,vi ap,vl s t u,vi aq] 128 (0,0))→eM P (Builtin.append_ #[51,51] 51 #[vl k a l,vl (some ⟨b,0,none⟩) 1 1]) I5 F4 fun v I6 G4=>∃(ar:OA) (au av:Nat),v=vl ar au av∧∃F5:cR,List.Perm G4 F5∧(∃m2:Nat,m2<m1∧Inv6 ar au av m2 I6 F5))∨(∃ch:List PanicEntry,e3=.panicked ch∧∃F6:cR,List.Perm G3 F6∧Q (.panicked ch) I4 F6)))∨(∃aw:List PanicEntry,e2=.panicked aw∧∃F7:cR,List.Perm G2 F7∧Q (.panicked aw) I3 F7))) (iA P (.func x c d) [vp (some p)] I2 F2 fun e4 I7 G5=>((∃(y z aa ab ac:Int) (ad:Bs) (e:OA) (f g:Nat) (ae:Int) (h:OA) (i j:Nat) (af:Int),e4=.returned (.agg #[vb y,vb z,vb aa,vi ab,vb ac,vs ad,vl e f g,vi ae,vl h i j,vi af])∧∃F8:cR,List.Perm G5 F8∧∀(b1:Nat) (I8:cS),cS.le I7 I8→I8 b1=some (Obj.cells #[vb y,vb z,vb aa,vi ab,vb ac,vs ad,vl e f g,vi ae,vl h i j,vi af] 128 (0,0))→eM P (Builtin.append_ #[51,51] 51 #[vl k a l,vl (some ⟨b1,0,none⟩) 1 1]) I8 F8 fun v1 I9 G6=>∃(ag:OA) (ah ai:Nat),v1=vl ag ah ai∧∃F9:cR,List.Perm G6 F9∧(∃m3:Nat,m3<m1∧Inv6 ag ah ai m3 I9 F9))∨(∃ax:List PanicEntry,e4=.panicked ax∧∃F10:cR,List.Perm G5 F10∧Q (.panicked ax) I7 F10)))) (Q (.returned (vl k a l)) I2 F2))
theorem iI.vc{p:Addr}{c:Bs}{d:Int}{e:Fn}{a b:Array Value}{I:cS}{F:cR}{Q:cZ}(Inv6:OA→Nat→Nat→Nat→cS→cR→Prop)(h:iI.V (.int .u8) (.int .i64) .string .slice .pointer p c d e a b I F Q Inv6):cX P 46 #[.pointer (some p),.string c,.int .i64 d,.func e a b] I F Q :=
 tw (A:=(fP [2002,3003] [0,19] [19,21] jV [(6,⟨[(9,.slc)],[],fun _ _ _ vs m I F=>match vs with | [.slice y0 y1 y2]=>Inv6 y0 y1 y2 m I F | _=>False,[],[]⟩)] [5004] [] [] [5003] [] [])) [19,21] func46 h
def ik.V(vi:Int→Value)(vs:Bs→Value)(vl:OA→Nat→Nat→Value)(vp:OA→Value)(p:Addr)(ae:Bs)(n:Int)(o:Fn)(c d:Array Value)(I:cS)(F:cR)(Q:cZ)(Inv6:OA→Nat→Nat→Nat→cS→cR→Prop):Prop:=(∃m:Nat,Inv6 none 0 0 m I F)∧∀(h:OA) (a i m1:Nat) (I1:cS) (F1:cR),cS.le I I1→Inv6 h a i m1 I1 F1→mM P 21 (#[vp (some p),vs ae]) I1 (·) F1 .bool fun r I2 F2=>(It r (It ((a:Int)==n) (cX P 19 (#[vp (some p),vi 131]) I2 F2 fun e2 I3 G2=>((e2=.returned (.tuple #[])∧∃F3:cR,List.Perm G2 F3∧iA P (.func o c d) [vp (some p)] I3 F3 fun e3 I4 G3=>((∃(x:Bs) (j:OA) (k l:Nat) (y:Int),e3=.returned (.agg #[vs x,vl j k l,vi y])∧∃F4:cR,List.Perm G3 F4∧∀(b:Nat) (I5:cS),cS.le I4 I5→I5 b=some (Obj.cells #[vs x,vl j k l,vi y] 53 (0,0))→eM P (Builtin.append_ #[46,46] 46 #[vl h a i,vl (some ⟨b,0,none⟩) 1 1]) I5 F4 fun v I6 G4=>∃(z:OA) (aa ab:Nat),v=vl z aa ab∧∃F5:cR,List.Perm G4 F5∧(∃m2:Nat,m2<m1∧Inv6 z aa ab m2 I6 F5))∨(∃ch:List PanicEntry,e3=.panicked ch∧∃F6:cR,List.Perm G3 F6∧Q (.panicked ch) I4 F6)))∨(∃ac:List PanicEntry,e2=.panicked ac∧∃F7:cR,List.Perm G2 F7∧Q (.panicked ac) I3 F7))) (iA P (.func o c d) [vp (some p)] I2 F2 fun e4 I7 G5=>((∃(q:Bs) (e:OA) (f g:Nat) (s:Int),e4=.returned (.agg #[vs q,vl e f g,vi s])∧∃F8:cR,List.Perm G5 F8∧∀(b1:Nat) (I8:cS),cS.le I7 I8→I8 b1=some (Obj.cells #[vs q,vl e f g,vi s] 53 (0,0))→eM P (Builtin.append_ #[46,46] 46 #[vl h a i,vl (some ⟨b1,0,none⟩) 1 1]) I8 F8 fun v1 I9 G6=>∃(t:OA) (u w:Nat),v1=vl t u w∧∃F9:cR,List.Perm G6 F9∧(∃m3:Nat,m3<m1∧Inv6 t u w m3 I9 F9))∨(∃ad:List PanicEntry,e4=.panicked ad∧∃F10:cR,List.Perm G5 F10∧Q (.panicked ad) I7 F10)))) (Q (.returned (vl h a i)) I2 F2))
theorem ik.vc{p:Addr}{c:Bs}{d:Int}{e:Fn}{a b:Array Value}{I:cS}{F:cR}{Q:cZ}(Inv6:OA→Nat→Nat→Nat→cS→cR→Prop)(h:ik.V (.int .i64) .string .slice .pointer p c d e a b I F Q Inv6):cX P 34 #[.pointer (some p),.string c,.int .i64 d,.func e a b] I F Q :=
 tw (A:=(fP [2002,3003] [0,19] [19,21] jV [(6,⟨[(9,.slc)],[],fun _ _ _ vs m I F=>match vs with | [.slice y0 y1 y2]=>Inv6 y0 y1 y2 m I F | _=>False,[],[]⟩)] [5004] [] [] [5003] [] [])) [19,21] func34 h
end Go.Lx
namespace Go.Lx
open Go.Vc
theorem eV{G K A F0:cR}{X Y p:Nat×Obj}(h:G.Perm (p::(K++(X::Y::(A++F0))))):G.Perm (X::Y::(p::((K++A)++F0))):=h.trans (cU fun z=>by simp only[cW,cY,c6];omega)
theorem B4{G K A F0:cR}{X Y Z p:Nat×Obj}(h:G.Perm (p::(K++(X::Y::Z::(A++F0))))):G.Perm (X::Y::Z::(p::((K++A)++F0))):=h.trans (cU fun z=>by simp only[cW,cY,c6];omega)
section
variable {c:PC} {t:ByteArray} {s:PS} {b:Nat} {F F0:cR}
theorem eF{α:Type}{val:α→Value→cR→Prop}{f:PF}{r:α×PS}{X Y:Nat×Obj}{A:cR}{e:Ending}{I:cS}{G:cR}(hd:c.dq f r.2)(hf:dc f (X::Y::(A++F0)) e G):∃ch,e=.panicked ch∧∃F2:cR,List.Perm G (X::Y::F2)∧c9 c t b val F0 r (.panicked ch) I F2 :=
 dc.dy (F0:=A++F0) [X,Y] hf fun e' G' hf'=>.inr ⟨f,hd,hf'.more⟩
theorem Be{α:Type}{val:α→Value→cR→Prop}{f:PF}{r:α×PS}{X Y Z:Nat×Obj}{A:cR}{e:Ending}{I:cS}{G:cR}(hd:c.dq f r.2)(hf:dc f (X::Y::Z::(A++F0)) e G):∃ch,e=.panicked ch∧∃F2:cR,List.Perm G (X::Y::Z::F2)∧c9 c t b val F0 r (.panicked ch) I F2 :=
 dc.dy (F0:=A++F0) [X,Y,Z] hf fun e' G' hf'=>.inr ⟨f,hd,hf'.more⟩
theorem iO{w:ByteArray}(hl:c.Live s)(h:c.dH w s=true):(c.tok s.next).kind≠0:=fun hk=>by
 unfold PC.dH at h;rw[hl.now,hk] at h;simp at h
theorem nY{w:ByteArray}(hl:c.Live s)(h:c.dH w s=true):c.take w s=((c.tok s.next).pos,s.inc):=by
 unfold PC.take;rw[if_pos h,hl.now]
def CK(x:dB)(v:Value)(H:cR):Prop:=v=x.v∧H=[]
def CL(x:fi)(v:Value)(H:cR):Prop:=∃d:jS,v=d.v∧d.p=x∧iw false d H
theorem zP(hc:c.Of t)(hl:c.Live s)(hw:c.dH (⟨#[115,108,111,116]⟩:ByteArray) s=true){I:cS}(hF:F.Perm (c.px t b s::F0)) :
  cX P 33 #[.pointer (some ⟨b,0,none⟩)] I F (c9 c t b CK F0 (c.slot s)):=by
 have hp:=dO.of (I:=I) hF
 have e0:c.slot s=(⟨(c.name s.inc).1,(c.tok s.next).pos⟩,(c.take (⟨#[59]⟩:ByteArray) (c.name s.inc).2).2):=by unfold PC.slot;rw[nY hl hw]
 rw[e0]
 refine fW.vc ?_
 unfold fW.V
 intro b0
 refine⟨_,rfl,_,(hp.mono (cS.le_refl I) fun x hx=>.tail _ hx).rd.dE (p:=1) (q:=4) rfl,fun bx=>?_⟩
 refine c9.use (dQ hc hl (iO hl hw) (fQ hF)) (fun v K I1 G l1 hL hv hG=>.inl ?_) fun f e I1 G l1 hd hf=>.inr (eF (A:=[]) (hd.name.take _) hf)
 obtain⟨rfl,rfl⟩:=hv
 refine⟨rfl,_,eV (A:=[]) hG, ?_⟩
 refine c9.use (iG hc hL (fQ (.refl _))) (fun v K I2 G l2 hL2 hv hG=>.inl ?_) fun f e I2 G l2 hd hf=>.inr (eF (A:=[]) (hd.take _) hf)
 obtain⟨rfl,rfl⟩:=hv
 refine⟨_,rfl,_,eV (A:=[]) hG,fun b1 I3 l3 hb1=>?_⟩
 refine c9.use (ej hc hL2 hb1 (fQ (.refl _))) (fun v K I4 G l4 hL4 hv hG=>.inl ?_) fun f e I4 G l4 hd hf=>.inr (eF (A:=[]) hd hf)
 obtain⟨⟨i,rfl⟩,rfl⟩:=hv
 exact⟨_,rfl,_,eV (A:=[]) hG,.inl ⟨hL4,_,[],rfl,⟨rfl,rfl⟩,.refl _⟩⟩
theorem any_zero{w:ByteArray}{ws:List ByteArray}(h:c.any (w::ws) s=0):c.dH w s=true:=by
 unfold PC.any at h
 rw[PC.fe] at h
 by_cases hw:c.dH w s=true
 ·exact hw
 ·rw[if_neg hw] at h
  have:=(sA (c:=c) (s:=s) (ws:=ws) (i:=0+1) (by decide) (by omega)).2.1
  omega
def PC.xN(c:PC)(i pos:Int)(s:PS):fi×PS:=if i=0 then c.qZ (c.dC s).1 pos (c.dC s).2 else if i=5 then c.mc 6 ⟨#[]⟩ pos s else c.mc (1+i) (c.name s).1 pos (c.name s).2
theorem z6(hl:c.Live s)(h:0≤c.any s6 s):c.do s=c.xN (c.any s6 s) (c.tok s.next).pos s.inc:=by
 unfold PC.do PC.xN
 rw[if_neg (Int.not_lt.2 h),hl.now]
 split
 ·rename_i h0
  unfold PC.gb
  rw[nY hl (any_zero (ws:=[(⟨#[97,109,101,110,100]⟩:ByteArray),(⟨#[99,97,110,99,101,108]⟩:ByteArray),(⟨#[115,101,116]⟩:ByteArray),(⟨#[103,111,116,111]⟩:ByteArray),(⟨#[104,97,108,116]⟩:ByteArray)]) h0)]
 ·rfl
theorem Kp.xN(i pos:Int)(f:PF):Kp c f (c.xN i pos):=fun s h=>by
 unfold PC.xN
 split
 ·exact Kp.qZ _ _ _ (Kp.dC _ h)
 ·split
  ·exact Kp.mc _ _ _ _ h
  ·exact Kp.mc _ _ _ _ h.name
theorem iw.of{d:jS}{H1 H2 H3 H4:cR}(h1:ef 29 false d.side H1)(h2:ef 29 false d.qty H2)(h3:ef 29 false d.price H3)(h4:ef 29 false d.value H4):iw false d (H1++(H2++(H3++H4))):=⟨H1,H2,H3,H4,rfl,h1,h2,h3,h4⟩
theorem eo:ef 29 false kZ []:=ef.leaf
end
end Go.Lx
namespace Go.Lx
open Go.Vc
section
variable {c:PC} {t:ByteArray} {s:PS} {b:Nat} {F F0:cR}
theorem xG{I:cS}{G:cR}{b4:Nat}{i:Int}(hb:I b4=some (.cells #[.int .u8 1,.int .u8 3,.int .u8 4,.int .u8 5] 138 (0,0)))(h0:0≤i)(h1:i<4) :
  Rd I G ((⟨b4,0,none⟩:Addr).add (i.toNat*1)) [.int .u8 (if i=0 then 1 else 2+i)]:=by
 rw[fq]
 refine Rd.yf hb G _ fun j hj=>?_
 have:j=0:=by simpa using hj
 subst this
 have:i=0∨i=1∨i=2∨i=3:=by omega
 rcases this with rfl | rfl | rfl | rfl<;>rfl
theorem wI{x y z:Px}{pos o:Int}(hl:c.Live s):c.iU x y pos z o s=if c.dH (⟨#[97,115]⟩:ByteArray) s then (⟨1,o,(c.name s.inc).1,x,y,z,dZ,pos⟩,(c.name s.inc).2) else (⟨1,o,⟨#[]⟩,x,y,z,dZ,pos⟩,s):=by
 unfold PC.iU PC.dS;split<;>rfl
theorem z7(hc:c.Of t)(hl:c.Live s){I:cS}(hF:F.Perm (c.px t b s::F0)):cX P 52 #[.pointer (some ⟨b,0,none⟩)] I F (c9 c t b CL F0 (c.do s)):=by
 have hp:=dO.of (I:=I) hF
 have hn:=hl.now
 refine gI.vc ?_
 unfold gI.V
 intro b0
 refine⟨_,rfl,_,(hp.mono (cS.le_refl I) fun x hx=>.tail _ hx).rd.dE (p:=1) (q:=4) rfl,fun bd b1 I1 l1 hb1=>?_⟩
 generalize hpos:(c.tok s.next).pos=pos
 refine c9.use (oG hc hl (words (ws:=s6) hb1 rfl) (by decide) (fQ hF)) (fun v K I2 G l2 hL hv hG=>.inl ?_) fun f e I2 G l2 hd hf=>.inr (eF (A:=[]) ?_ hf)
 rotate_left
 ·by_cases h:c.any s6 s<0
  ·have e1:c.do s=(C3,c.cV 130 s):=by unfold PC.do;rw[if_pos h]
   have e2:(c.oneOf s6 s).2=c.cV 130 s:=if_pos h
   rw[e1];rw[e2] at hd;exact hd
  ·have e2:(c.oneOf s6 s).2=s.inc:=if_neg h
   rw[z6 hl (Int.not_lt.1 h)];rw[e2] at hd;exact Kp.xN _ _ _ _ hd
 obtain⟨rfl,rfl⟩:=hv
 have hge:¬c.any s6 s<0:=fun hlt=>by
  have:(c.oneOf s6 s).2=c.cV 130 s:=if_pos hlt
  rw[this] at hL
  exact (hl.cV (e:=130) (by decide)).2.live hL
 have e2:(c.oneOf s6 s).2=s.inc:=if_neg hge
 have h6:c.any s6 s<6:=(dt (Int.not_lt.1 hge)).2
 rw[e2] at hL hG
 rw[z6 hl (Int.not_lt.1 hge),hpos]
 have e3:(c.oneOf s6 s).1=c.any s6 s:=rfl
 rw[e3]
 refine⟨_,rfl,_,eV (A:=[]) hG, ?_⟩
 clear hG
 generalize hi:c.any s6 s=i at hge h6
 have hw:IntKind.wrap .u8 (1+IntKind.wrap .u8 i)=1+i:=by rw[w8 (n:=i) (by omega),w8 (by omega)]
 rw[hw]
 have hi6:i=0∨i=1∨i=2∨i=3∨i=4∨i=5:=by omega
 have just:∀(k:Int),i=k-1→k=3∨k=5→c.xN i pos s.inc=(⟨k,0,(c.name s.inc).1,dZ,dZ,dZ,dZ,pos⟩,(c.name s.inc).2):=fun k h1 h2=>by
  unfold PC.xN PC.mc
  rw[if_neg (by omega),if_neg (by omega),if_neg (by omega),if_neg (by omega),h1,show 1+(k-1)=k by omega]
 refine⟨fun h=>?_,fun h1=>⟨fun h=>?_,fun h2=>⟨fun h=>?_,fun h4=>⟨fun h=>?_,fun h6'=>?_⟩⟩⟩⟩
 ·-- gb
  have h:i=0:=by have:1+i=1:=by simpa using h
                 omega
  subst h
  have ed:c.xN 0 pos s.inc=c.qZ (c.dC s.inc).1 pos (c.dC s.inc).2:=if_pos rfl
  rw[ed]
  refine c9.use (lu hc b s.inc I2 _ _ hL (fQ (.refl _))) (fun v K I3 G l3 hL3 hv hG=>.inl ?_) fun f e I3 G l3 hd hf=>.inr (eF (A:=[]) (Kp.qZ _ _ _ hd) hf)
  obtain⟨n1,rfl,hp1,hO1⟩:=hv
  generalize c.dC s.inc=r1 at hL3 hp1 hG
  refine⟨_,_,_,_,_,_,_,_,_,_,rfl,_,eV (A:=[]) hG,fun b2 I4 l4 hb2=>?_⟩
  have ex_:c.qZ r1.1 pos r1.2=c.gN r1.1 (c.dC (c.take (⟨#[111,102]⟩:ByteArray) r1.2).2).1 pos (c.dC (c.take (⟨#[111,102]⟩:ByteArray) r1.2).2).2:=rfl
  rw[ex_]
  refine c9.use (ej hc hL3 hb2 (fQ (.refl _))) (fun v L I5 G l5 hL5 hv hG=>.inl ?_) fun f e I5 G l5 hd hf=>.inr (eF (Kp.gN _ _ _ _ (Kp.dC _ hd)) hf)
  obtain⟨⟨i5,rfl⟩,rfl⟩:=hv
  refine⟨_,rfl,_,eV hG, ?_⟩
  refine c9.use (lu hc b _ I5 _ _ hL5 (fQ (.refl _))) (fun v L I6 G l6 hL6 hv hG=>.inl ?_) fun f e I6 G l6 hd hf=>.inr (eF (Kp.gN _ _ _ _ hd) hf)
  obtain⟨n2,rfl,hp2,hO2⟩:=hv
  generalize c.dC (c.take (⟨#[111,102]⟩:ByteArray) r1.2).2=r2 at hL6 hp2 hG
  refine⟨_,_,_,_,_,_,_,_,_,_,rfl,_,eV hG,fun b3 I7 l7 hb3=>?_⟩
  have ey:c.gN r1.1 r2.1 pos r2.2=if c.any vn r2.2<0 then (⟨1,0,⟨#[]⟩,r1.1,r2.1,dZ,dZ,pos⟩,c.cV 130 r2.2)
    else if c.any vn r2.2=1 then c.gZ r1.1 r2.1 pos (c.dC r2.2.inc).1 (c.dC r2.2.inc).2 else c.iU r1.1 r2.1 pos dZ 2 r2.2.inc:=rfl
  refine c9.use (oG hc hL6 (words (ws:=vn) hb3 rfl) (by decide) (fQ (.refl _))) (fun v M I8 G l8 hL8 hv hG=>.inl ?_) fun f e I8 G l8 hd hf=>.inr (eF ?_ hf)
  rotate_left
  ·rw[ey]
   by_cases h:c.any vn r2.2<0
   ·rw[if_pos h];rw[show (c.oneOf vn r2.2).2=c.cV 130 r2.2 from if_pos h] at hd;exact hd
   ·rw[if_neg h];rw[show (c.oneOf vn r2.2).2=r2.2.inc from if_neg h] at hd
    split
    ·exact Kp.gZ _ _ _ _ _ (Kp.dC _ hd)
    ·exact Kp.iU _ _ _ _ _ _ hd
  obtain⟨rfl,rfl⟩:=hv
  have hg2:¬c.any vn r2.2<0:=fun hlt=>by
   rw[show (c.oneOf vn r2.2).2=c.cV 130 r2.2 from if_pos hlt] at hL8
   exact (hL6.cV (e:=130) (by decide)).2.live hL8
  rw[show (c.oneOf vn r2.2).2=r2.2.inc from if_neg hg2] at hL8 hG
  rw[ey,if_neg hg2]
  have e4:(c.oneOf vn r2.2).1=c.any vn r2.2:=rfl
  rw[e4]
  refine⟨_,rfl,_,eV hG,fun h=>?_,fun h=>?_⟩
  ·have h:c.any vn r2.2=1:=by simpa using h
   rw[if_pos h]
   refine c9.use (lu hc b _ I8 _ _ hL8 (fQ (.refl _))) (fun v M I9 G l9 hL9 hv hG=>.inl ?_) fun f e I9 G l9 hd hf=>.inr (eF (Kp.gZ _ _ _ _ _ hd) hf)
   obtain⟨n3,rfl,hp3,hO3⟩:=hv
   generalize c.dC r2.2.inc=r3 at hL9 hp3 hG
   refine⟨_,_,_,_,_,_,_,_,_,_,rfl,_,eV hG,fun b4 I10 l10 hb4 b5 I11 l11 hb5=>?_⟩
   have ez:c.gZ r1.1 r2.1 pos r3.1 r3.2=if c.any fD r3.2<0 then (⟨1,2,⟨#[]⟩,r1.1,r2.1,r3.1,dZ,pos⟩,c.cV 130 r3.2) else c.iU r1.1 r2.1 pos r3.1 (if c.any fD r3.2=0 then 1 else 2+c.any fD r3.2) r3.2.inc:=rfl
   refine c9.use (oG hc hL9 (words (ws:=fD) hb5 rfl) (by decide) (fQ (.refl _))) (fun v N I12 G l12 hL12 hv hG=>.inl ?_) fun f e I12 G l12 hd hf=>.inr (eF ?_ hf)
   rotate_left
   ·rw[ez]
    by_cases h:c.any fD r3.2<0
    ·rw[if_pos h];rw[show (c.oneOf fD r3.2).2=c.cV 130 r3.2 from if_pos h] at hd;exact hd
    ·rw[if_neg h];rw[show (c.oneOf fD r3.2).2=r3.2.inc from if_neg h] at hd;exact Kp.iU _ _ _ _ _ _ hd
   obtain⟨rfl,rfl⟩:=hv
   have hg3:¬c.any fD r3.2<0:=fun hlt=>by
    rw[show (c.oneOf fD r3.2).2=c.cV 130 r3.2 from if_pos hlt] at hL12
    exact (hL9.cV (e:=130) (by decide)).2.live hL12
   rw[show (c.oneOf fD r3.2).2=r3.2.inc from if_neg hg3] at hL12 hG
   rw[ez,if_neg hg3]
   have e5:(c.oneOf fD r3.2).1=c.any fD r3.2:=rfl
   rw[e5]
   have hlo:0≤c.any fD r3.2∧c.any fD r3.2<4:=⟨Int.not_lt.1 hg3,(dt (Int.not_lt.1 hg3)).2⟩
   generalize c.any fD r3.2=k at hlo
   refine⟨_,rfl,_,eV hG,hlo,_,rfl,_,xG ((cS.le_trans l11 l12).at hb4) hlo.1 hlo.2, ?_⟩
   rw[wI hL12]
   refine cX.ret (nX hL12 (dO.of (fQ (.refl _))) (⟨#[97,115]⟩:ByteArray)) fun I13 l13=>⟨_,rfl,_,.refl _,fun h=>?_,fun h=>?_⟩
   ·rw[if_pos h]
    refine c9.use (dQ hc hL12 (iO hL12 h) (fQ (.refl _))) (fun v N I14 G l14 hL14 hv hG=>.inl ?_) fun f e I14 G l14 hd hf=>.inr (eF hd.name hf)
    obtain⟨rfl,rfl⟩:=hv
    refine⟨rfl,_,eV hG, ?_⟩
    refine c9.use (iG hc hL14 (fQ (.refl _))) (fun v N I15 G l15 hL15 hv hG=>.inl ?_) fun f e I15 G l15 hd hf=>.inr (eF hd hf)
    obtain⟨rfl,rfl⟩:=hv
    exact⟨_,rfl,_,eV hG,.inl ⟨hL15,_,_,rfl,⟨⟨1,if k=0 then 1 else 2+k,(c.name r3.2.inc.inc).1,n1,n2,n3,kZ,pos⟩,rfl,by simp only[jS.p,hp1,hp2,hp3,kH],iw.of hO1 hO2 hO3 eo⟩,cU fun z=>by simp only[cW,cY,c6];omega⟩⟩
   ·rw[if_neg (by simp[h])]
    exact .inl ⟨hL12,_,_,rfl,⟨⟨1,if k=0 then 1 else 2+k,⟨#[]⟩,n1,n2,n3,kZ,pos⟩,rfl,by simp only[jS.p,hp1,hp2,hp3,kH],iw.of hO1 hO2 hO3 eo⟩,cU fun z=>by simp only[cW,cY,c6];omega⟩
  ·have h:c.any vn r2.2≠1:=by simpa using h
   rw[if_neg h,wI hL8]
   refine cX.ret (nX hL8 (dO.of (fQ (.refl _))) (⟨#[97,115]⟩:ByteArray)) fun I13 l13=>⟨_,rfl,_,.refl _,fun h=>?_,fun h=>?_⟩
   ·rw[if_pos h]
    refine c9.use (dQ hc hL8 (iO hL8 h) (fQ (.refl _))) (fun v N I14 G l14 hL14 hv hG=>.inl ?_) fun f e I14 G l14 hd hf=>.inr (eF hd.name hf)
    obtain⟨rfl,rfl⟩:=hv
    refine⟨rfl,_,eV hG, ?_⟩
    refine c9.use (iG hc hL14 (fQ (.refl _))) (fun v N I15 G l15 hL15 hv hG=>.inl ?_) fun f e I15 G l15 hd hf=>.inr (eF hd hf)
    obtain⟨rfl,rfl⟩:=hv
    exact⟨_,rfl,_,eV hG,.inl ⟨hL15,_,_,rfl,⟨⟨1,2,(c.name r2.2.inc.inc).1,n1,n2,kZ,kZ,pos⟩,rfl,by simp only[jS.p,hp1,hp2,kH],iw.of hO1 hO2 eo eo⟩,cU fun z=>by simp only[cW,cY,c6];omega⟩⟩
   ·rw[if_neg (by simp[h])]
    exact .inl ⟨hL8,_,_,rfl,⟨⟨1,2,⟨#[]⟩,n1,n2,kZ,kZ,pos⟩,rfl,by simp only[jS.p,hp1,hp2,kH],iw.of hO1 hO2 eo eo⟩,cU fun z=>by simp only[cW,cY,c6];omega⟩
 ·-- amend
  have h:i=1:=by have:1+i=2:=by simpa using h
                 omega
  subst h
  have ed:c.xN 1 pos s.inc=c.yt (c.name s.inc).1 pos (c.dC (c.take (⟨#[116,111]⟩:ByteArray) (c.name s.inc).2).2).1 (c.dC (c.take (⟨#[116,111]⟩:ByteArray) (c.name s.inc).2).2).2:=rfl
  rw[ed]
  refine c9.use (iG hc hL (fQ (.refl _))) (fun v K I3 G l3 hL3 hv hG=>.inl ?_) fun f e I3 G l3 hd hf=>.inr (eF (A:=[]) (Kp.yt _ _ _ _ (Kp.dC _ (hd.take _))) hf)
  obtain⟨rfl,rfl⟩:=hv
  refine⟨_,rfl,_,eV (A:=[]) hG,fun b6 I4 l4 hb6=>?_⟩
  refine c9.use (ej hc hL3 hb6 (fQ (.refl _))) (fun v L I5 G l5 hL5 hv hG=>.inl ?_) fun f e I5 G l5 hd hf=>.inr (eF (Kp.yt _ _ _ _ (Kp.dC _ hd)) hf)
  obtain⟨⟨i5,rfl⟩,rfl⟩:=hv
  refine⟨_,rfl,_,eV hG, ?_⟩
  refine c9.use (lu hc b _ I5 _ _ hL5 (fQ (.refl _))) (fun v L I6 G l6 hL6 hv hG=>.inl ?_) fun f e I6 G l6 hd hf=>.inr (eF (Kp.yt _ _ _ _ hd) hf)
  obtain⟨n2,rfl,hp2,hO2⟩:=hv
  generalize c.dC (c.take (⟨#[116,111]⟩:ByteArray) (c.name s.inc).2).2=r2 at hL6 hp2 hG
  have ea:c.yt (c.name s.inc).1 pos r2.1 r2.2=(⟨2,0,(c.name s.inc).1,dZ,r2.1,(c.dC (c.take (⟨#[97,116]⟩:ByteArray) r2.2).2).1,dZ,pos⟩,(c.dC (c.take (⟨#[97,116]⟩:ByteArray) r2.2).2).2):=rfl
  rw[ea]
  refine⟨_,_,_,_,_,_,_,_,_,_,rfl,_,eV hG,fun b7 I7 l7 hb7=>?_⟩
  refine c9.use (ej hc hL6 hb7 (fQ (.refl _))) (fun v L I8 G l8 hL8 hv hG=>.inl ?_) fun f e I8 G l8 hd hf=>.inr (eF (Kp.dC _ hd) hf)
  obtain⟨⟨i8,rfl⟩,rfl⟩:=hv
  refine⟨_,rfl,_,eV hG, ?_⟩
  refine c9.use (lu hc b _ I8 _ _ hL8 (fQ (.refl _))) (fun v L I9 G l9 hL9 hv hG=>.inl ?_) fun f e I9 G l9 hd hf=>.inr (eF hd hf)
  obtain⟨n3,rfl,hp3,hO3⟩:=hv
  exact⟨_,_,_,_,_,_,_,_,_,_,rfl,_,eV hG,.inl ⟨hL9,_,_,rfl,⟨⟨2,0,(c.name s.inc).1,kZ,n2,n3,kZ,pos⟩,rfl,by simp only[jS.p,hp2,hp3,kH],iw.of eo hO2 hO3 eo⟩,cU fun z=>by simp only[cW,cY,c6];omega⟩⟩
 ·-- set
  have h:i=3:=by have:1+i=4:=by simpa using h
                 omega
  subst h
  have ed:c.xN 3 pos s.inc=(⟨4,0,(c.name s.inc).1,dZ,dZ,dZ,(c.dC (c.take (⟨#[61]⟩:ByteArray) (c.name s.inc).2).2).1,pos⟩,(c.dC (c.take (⟨#[61]⟩:ByteArray) (c.name s.inc).2).2).2):=rfl
  rw[ed]
  refine c9.use (iG hc hL (fQ (.refl _))) (fun v K I3 G l3 hL3 hv hG=>.inl ?_) fun f e I3 G l3 hd hf=>.inr (eF (A:=[]) (Kp.dC _ (hd.take _)) hf)
  obtain⟨rfl,rfl⟩:=hv
  refine⟨_,rfl,_,eV (A:=[]) hG,fun b6 I4 l4 hb6=>?_⟩
  refine c9.use (ej hc hL3 hb6 (fQ (.refl _))) (fun v L I5 G l5 hL5 hv hG=>.inl ?_) fun f e I5 G l5 hd hf=>.inr (eF (Kp.dC _ hd) hf)
  obtain⟨⟨i5,rfl⟩,rfl⟩:=hv
  refine⟨_,rfl,_,eV hG, ?_⟩
  refine c9.use (lu hc b _ I5 _ _ hL5 (fQ (.refl _))) (fun v L I6 G l6 hL6 hv hG=>.inl ?_) fun f e I6 G l6 hd hf=>.inr (eF hd hf)
  obtain⟨n2,rfl,hp2,hO2⟩:=hv
  exact⟨_,_,_,_,_,_,_,_,_,_,rfl,_,eV hG,.inl ⟨hL6,_,_,rfl,⟨⟨4,0,(c.name s.inc).1,kZ,kZ,kZ,n2,pos⟩,rfl,by simp only[jS.p,hp2,kH],iw.of eo eo eo hO2⟩,cU fun z=>by simp only[cW,cY,c6];omega⟩⟩
 ·-- halt
  have h:i=5:=by have:1+i=6:=by simpa using h
                 omega
  subst h
  have ed:c.xN 5 pos s.inc=(⟨6,0,⟨#[]⟩,dZ,dZ,dZ,dZ,pos⟩,s.inc):=rfl
  rw[ed]
  exact .inl ⟨hL,_,_,rfl,⟨⟨6,0,⟨#[]⟩,kZ,kZ,kZ,kZ,pos⟩,rfl,by simp only[jS.p,kH],iw.of eo eo eo eo⟩,.refl _⟩
 ·have h1:1+i≠1:=by simpa using h1
  have h2:1+i≠2:=by simpa using h2
  have h4:1+i≠4:=by simpa using h4
  have h6':1+i≠6:=by simpa using h6'
  rw[just (1+i) (by omega) (by omega)]
  refine c9.use (iG hc hL (fQ (.refl _))) (fun v K I3 G l3 hL3 hv hG=>.inl ?_) fun f e I3 G l3 hd hf=>.inr (eF (A:=[]) hd hf)
  obtain⟨rfl,rfl⟩:=hv
  exact⟨_,rfl,_,eV (A:=[]) hG,.inl ⟨hL3,_,_,rfl,⟨⟨1+i,0,(c.name s.inc).1,kZ,kZ,kZ,kZ,pos⟩,rfl,by simp only[jS.p,kH],iw.of eo eo eo eo⟩,.refl _⟩⟩
end
end Go.Lx
