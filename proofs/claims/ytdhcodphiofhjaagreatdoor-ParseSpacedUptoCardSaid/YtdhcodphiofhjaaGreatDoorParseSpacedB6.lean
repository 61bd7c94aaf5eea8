import Derived.Test.YtdhcodphiofhjaaGreatDoorParseSpacedB5
set_option linter.unusedVariables false
set_option linter.unusedSimpArgs false
set_option linter.unusedSectionVars false
set_option maxRecDepth 100000
namespace Go.Lx
open Go.Vc Go.Proofs.Tryz
def EP:List (Nat×List Sh):=[(3,[.one (.int .i64)]),(4,[.one .bool]),(9,[.one .str]),(45,[.one .any]),(46,[.agg [.str,.slc,.slc,.slc],.one .any]),(53,[.one (.int .i64),.one (.int .i64)]),(59,[.one (.int .u8)]),(65,[.agg [(.int .u8),(.int .u8),(.int .u8),(.int .i64),(.int .u8),.str,.slc,(.int .i64)],.one .any]),(97,[.one .ptr])]
def lj.V(ka:Nat→Bs→OA→Nat→Nat→OA→Nat→Nat→OA→Nat→Nat→Nat×Obj)(nV:Int→Int→Int→Int→Int→Bs→OA→Nat→Nat→Int→Value)(nO:Int→Int→Int→Int→Int→Bs→OA→Nat→Nat→Int→Obj)(vi:Int→Value)(vs:Bs→Value)(vl:OA→Nat→Nat→Value)(vt:Bool→Value)(I:cS)(F:cR)(Q:cW)  : Prop:=ni P 16 (#[vs (⟨#[49,32,45,32,50,32,45,32,51]⟩:Bs)]) I (·) F fun e1 I1 G1=>∃(t u v w x:Int) (y:Bs) (c:OA) (b e:Nat) (j:Int) (r1:Value),e1=.returned (.tuple #[nV t u v w x y c b e j,r1])∧G1 fun F1=>∀aq:Nat,ni P 12 #[r1] I1 ((aq,nO t u v w x y c b e j)::·) F1 fun e2 I2 G2=>∃(r0 aC:Int),e2=.returned (.tuple #[vi r0,vi aC])∧G2 fun F2=>ni P 16 (#[vs (⟨#[40,49,32,43,32,38]⟩:Bs)]) I2 ((aq,nO t u v w x y c b e j)::·) F2 fun e3 I3 G3=>∃(k l n o p:Int) (r:Bs) (f:OA) (g h:Nat) (s:Int) (aD:Value),e3=.returned (.tuple #[nV k l n o p r f g h s,aD])∧G3 fun F3=>∀au:Nat,ni P 12 #[aD] I3 ((aq,nO t u v w x y c b e j)::(au,nO k l n o p r f g h s)::·) F3 fun e4 I4 G4=>∃(av aw:Int),e4=.returned (.tuple #[vi av,vi aw])∧G4 fun F4=>ni P 10 (#[vs (⟨#[115,116,114,97,116,101,103,121,32,115,123,115,116,97,116,101,32,97,123,125,125]⟩:Bs)]) I4 ((aq,nO t u v w x y c b e j)::(au,nO k l n o p r f g h s)::·) F4 fun e5 I5 G5=>∃(d:Bs) (aj:OA) (ak al:Nat) (am:OA) (an ao:Nat) (i:OA) (a ap:Nat) (aA:Value),e5=.returned (.tuple #[.agg #[vs d,vl aj ak al,vl am an ao,vl i a ap],aA])∧G5 fun F5=>∀az:Nat,ni P 10 (#[vs (⟨#[115,116,114,97,116,101,103,121,32,115,123,125]⟩:Bs)]) I5 ((aq,nO t u v w x y c b e j)::(au,nO k l n o p r f g h s)::(ka az d aj ak al am an ao i a ap)::·) F5 fun e6 I6 G6=>∃(ar:Bs) (z:OA) (aa ab:Nat) (ac:OA) (ae af:Nat) (ag:OA) (ah ai:Nat) (aE:Value),e6=.returned (.tuple #[.agg #[vs ar,vl z aa ab,vl ac ae af,vl ag ah ai],aE])∧G6 fun F6=>∀ay:Nat,ni P 12 #[aE] I6 ((aq,nO t u v w x y c b e j)::(au,nO k l n o p r f g h s)::(ka az d aj ak al am an ao i a ap)::(ka ay ar z aa ab ac ae af ag ah ai)::·) F6 fun e7 I7 G7=>∃(ax aB:Int),e7=.returned (.tuple #[vi ax,vi aB])∧G7 fun F7=>∃q:Bool,eu P .eql 45 (.tmp 47) (.const (Value.nilIface)) r1 Value.nilIface q∧(It q (It (r0==0) (It (aC==0) (It (j==6) (It ((b:Int)==2) ((0≤(0:Int)∧(0:Int)<(b:Int))∧∃ad:Addr,c=some ad∧∃(m:Int),Rd I7 ((aq,nO t u v w x y c b e j)::(au,nO k l n o p r f g h s)::(ka az d aj ak al am an ao i a ap)::(ka ay ar z aa ab ac ae af ag ah ai)::F7) ((ad.add (Int.toNat 0*8)).add 1) [.int .u8 m]∧(It (m==7) ((0≤(0:Int)∧(0:Int)<(b:Int))∧∃aF:Addr,c=some aF∧∃(m1:Int),Rd I7 ((aq,nO t u v w x y c b e j)::(au,nO k l n o p r f g h s)::(ka az d aj ak al am an ao i a ap)::(ka ay ar z aa ab ac ae af ag ah ai)::F7) ((aF.add (Int.toNat 0*8)).add 7) [vi m1]∧(It (m1==2) (It (av==111) (It (aw==5) (∃q1:Bool,eu P .eql 45 (.tmp 94) (.const (Value.nilIface)) aA Value.nilIface q1∧(It q1 (It (d.toList==(⟨#[115]⟩:Bs).toList) (It ((a:Int)==1) ((0≤(0:Int)∧(0:Int)<(a:Int))∧∃aG:Addr,i=some aG∧∃(m2:Int),Rd I7 ((aq,nO t u v w x y c b e j)::(au,nO k l n o p r f g h s)::(ka az d aj ak al am an ao i a ap)::(ka ay ar z aa ab ac ae af ag ah ai)::F7) ((aG.add (Int.toNat 0*3)).add 2) [vi m2]∧(It (m2==11) (It (ax==130) (Q (.returned (vt (aB==11))) I7 F7) (Q (.returned (vt false)) I7 F7)) (Q (.returned (vt false)) I7 F7))) (Q (.returned (vt false)) I7 F7)) (Q (.returned (vt false)) I7 F7)) (Q (.returned (vt false)) I7 F7))) (Q (.returned (vt false)) I7 F7)) (Q (.returned (vt false)) I7 F7)) (Q (.returned (vt false)) I7 F7))) (It false (It (av==111) (It (aw==5) (∃q2:Bool,eu P .eql 45 (.tmp 94) (.const (Value.nilIface)) aA Value.nilIface q2∧(It q2 (It (d.toList==(⟨#[115]⟩:Bs).toList) (It ((a:Int)==1) ((0≤(0:Int)∧(0:Int)<(a:Int))∧∃aH:Addr,i=some aH∧∃(m3:Int),Rd I7 ((aq,nO t u v w x y c b e j)::(au,nO k l n o p r f g h s)::(ka az d aj ak al am an ao i a ap)::(ka ay ar z aa ab ac ae af ag ah ai)::F7) ((aH.add (Int.toNat 0*3)).add 2) [vi m3]∧(It (m3==11) (It (ax==130) (Q (.returned (vt (aB==11))) I7 F7) (Q (.returned (vt false)) I7 F7)) (Q (.returned (vt false)) I7 F7))) (Q (.returned (vt false)) I7 F7)) (Q (.returned (vt false)) I7 F7)) (Q (.returned (vt false)) I7 F7))) (Q (.returned (vt false)) I7 F7)) (Q (.returned (vt false)) I7 F7)) (Q (.returned (vt false)) I7 F7)))) (It false (It (av==111) (It (aw==5) (∃q3:Bool,eu P .eql 45 (.tmp 94) (.const (Value.nilIface)) aA Value.nilIface q3∧(It q3 (It (d.toList==(⟨#[115]⟩:Bs).toList) (It ((a:Int)==1) ((0≤(0:Int)∧(0:Int)<(a:Int))∧∃aI:Addr,i=some aI∧∃(m4:Int),Rd I7 ((aq,nO t u v w x y c b e j)::(au,nO k l n o p r f g h s)::(ka az d aj ak al am an ao i a ap)::(ka ay ar z aa ab ac ae af ag ah ai)::F7) ((aI.add (Int.toNat 0*3)).add 2) [vi m4]∧(It (m4==11) (It (ax==130) (Q (.returned (vt (aB==11))) I7 F7) (Q (.returned (vt false)) I7 F7)) (Q (.returned (vt false)) I7 F7))) (Q (.returned (vt false)) I7 F7)) (Q (.returned (vt false)) I7 F7)) (Q (.returned (vt false)) I7 F7))) (Q (.returned (vt false)) I7 F7)) (Q (.returned (vt false)) I7 F7)) (Q (.returned (vt false)) I7 F7))) (It false (It (av==111) (It (aw==5) (∃q4:Bool,eu P .eql 45 (.tmp 94) (.const (Value.nilIface)) aA Value.nilIface q4∧(It q4 (It (d.toList==(⟨#[115]⟩:Bs).toList) (It ((a:Int)==1) ((0≤(0:Int)∧(0:Int)<(a:Int))∧∃aJ:Addr,i=some aJ∧∃(m5:Int),Rd I7 ((aq,nO t u v w x y c b e j)::(au,nO k l n o p r f g h s)::(ka az d aj ak al am an ao i a ap)::(ka ay ar z aa ab ac ae af ag ah ai)::F7) ((aJ.add (Int.toNat 0*3)).add 2) [vi m5]∧(It (m5==11) (It (ax==130) (Q (.returned (vt (aB==11))) I7 F7) (Q (.returned (vt false)) I7 F7)) (Q (.returned (vt false)) I7 F7))) (Q (.returned (vt false)) I7 F7)) (Q (.returned (vt false)) I7 F7)) (Q (.returned (vt false)) I7 F7))) (Q (.returned (vt false)) I7 F7)) (Q (.returned (vt false)) I7 F7)) (Q (.returned (vt false)) I7 F7))) (It false (It (av==111) (It (aw==5) (∃q5:Bool,eu P .eql 45 (.tmp 94) (.const (Value.nilIface)) aA Value.nilIface q5∧(It q5 (It (d.toList==(⟨#[115]⟩:Bs).toList) (It ((a:Int)==1) ((0≤(0:Int)∧(0:Int)<(a:Int))∧∃aK:Addr,i=some aK∧∃(m6:Int),Rd I7 ((aq,nO t u v w x y c b e j)::(au,nO k l n o p r f g h s)::(ka az d aj ak al am an ao i a ap)::(ka ay ar z aa ab ac ae af ag ah ai)::F7) ((aK.add (Int.toNat 0*3)).add 2) [vi m6]∧(It (m6==11) (It (ax==130) (Q (.returned (vt (aB==11))) I7 F7) (Q (.returned (vt false)) I7 F7)) (Q (.returned (vt false)) I7 F7))) (Q (.returned (vt false)) I7 F7)) (Q (.returned (vt false)) I7 F7)) (Q (.returned (vt false)) I7 F7))) (Q (.returned (vt false)) I7 F7)) (Q (.returned (vt false)) I7 F7)) (Q (.returned (vt false)) I7 F7))) (It false (It (av==111) (It (aw==5) (∃q6:Bool,eu P .eql 45 (.tmp 94) (.const (Value.nilIface)) aA Value.nilIface q6∧(It q6 (It (d.toList==(⟨#[115]⟩:Bs).toList) (It ((a:Int)==1) ((0≤(0:Int)∧(0:Int)<(a:Int))∧∃aL:Addr,i=some aL∧∃(m7:Int),Rd I7 ((aq,nO t u v w x y c b e j)::(au,nO k l n o p r f g h s)::(ka az d aj ak al am an ao i a ap)::(ka ay ar z aa ab ac ae af ag ah ai)::F7) ((aL.add (Int.toNat 0*3)).add 2) [vi m7]∧(It (m7==11) (It (ax==130) (Q (.returned (vt (aB==11))) I7 F7) (Q (.returned (vt false)) I7 F7)) (Q (.returned (vt false)) I7 F7))) (Q (.returned (vt false)) I7 F7)) (Q (.returned (vt false)) I7 F7)) (Q (.returned (vt false)) I7 F7))) (Q (.returned (vt false)) I7 F7)) (Q (.returned (vt false)) I7 F7)) (Q (.returned (vt false)) I7 F7))) (It false (It (av==111) (It (aw==5) (∃q7:Bool,eu P .eql 45 (.tmp 94) (.const (Value.nilIface)) aA Value.nilIface q7∧(It q7 (It (d.toList==(⟨#[115]⟩:Bs).toList) (It ((a:Int)==1) ((0≤(0:Int)∧(0:Int)<(a:Int))∧∃aM:Addr,i=some aM∧∃(m8:Int),Rd I7 ((aq,nO t u v w x y c b e j)::(au,nO k l n o p r f g h s)::(ka az d aj ak al am an ao i a ap)::(ka ay ar z aa ab ac ae af ag ah ai)::F7) ((aM.add (Int.toNat 0*3)).add 2) [vi m8]∧(It (m8==11) (It (ax==130) (Q (.returned (vt (aB==11))) I7 F7) (Q (.returned (vt false)) I7 F7)) (Q (.returned (vt false)) I7 F7))) (Q (.returned (vt false)) I7 F7)) (Q (.returned (vt false)) I7 F7)) (Q (.returned (vt false)) I7 F7))) (Q (.returned (vt false)) I7 F7)) (Q (.returned (vt false)) I7 F7)) (Q (.returned (vt false)) I7 F7)))
theorem lj.vc  {I:cS}{F:cR}{Q:cW}  (h:lj.V (fun W a b c d e f g h i j=>(W,Obj.cells #[.string a,.slice b c d,.slice e f g,.slice h i j] 43 (0,0))) (fun k o t n f s a l c q=>.agg #[.int .u8 k,.int .u8 o,.int .u8 t,.int .i64 n,.int .u8 f,.string s,.slice a l c,.int .i64 q]) (fun k o t n f s a l c q=>.cells #[.int .u8 k,.int .u8 o,.int .u8 t,.int .i64 n,.int .u8 f,.string s,.slice a l c,.int .i64 q] 64 (0,0)) (.int .i64) .string .slice .bool I F Q):cZ P 9 #[] I F Q :=
 tw (A:=(an [8001,8004,8008,8013,8019,8027,9000,9003,9007,9011,9016,9022,9030,9034] [10,12,16] EP)) [10,12,16] func9 h
end Go.Lx
namespace Go.Lx
open Go.Vc
def wH(I:cS)(call:ByteArray)(f:PF)(v:Value):Prop:=(f.e=0→v=.nilIface)∧(f.e≠0→match f.tok with
 | true=>∃u,xN I (⟨#[84,111,107,101,110,115]⟩:ByteArray) f.pos (oH f.e) u∧xN I call f.pos u v
 | false=>xN I call f.pos (oH f.e) v)
theorem wH.mono{I J:cS}{call:ByteArray}{f:PF}{v:Value}(h:wH I call f v)(hl:cS.le I J):wH J call f v:=⟨h.1,fun he=>by
 have h2:=h.2 he
 split at h2
 ·obtain⟨u,h3,h4⟩:=h2;exact⟨u,h3.mono hl,h4.mono hl⟩
 ·exact h2.mono hl⟩
theorem A3.keep{I:cS}{call:ByteArray}{f:PF}{v:Value}{B X G:cR}{w:World}(h:A3 call f v B)(hw:Sat I (B++(X++G)) w):∃J,cS.le I J∧Sat J G w∧wH J call f v:=by
 by_cases he:f.e=0
 ·obtain⟨rfl,rfl⟩:=h.1 he
  exact⟨I,cS.le_refl I,Sat.drop (A:=X) hw,fun _=>rfl,fun h=>absurd he h⟩
 ·obtain⟨b,u,B',rfl,hu,rfl⟩:=h.2 he
  obtain⟨l1,s1⟩:=hw.kR
  obtain⟨e,p,tk⟩:=f
  cases tk with
  | false =>
    obtain⟨rfl,rfl⟩:=hu
    exact⟨_,l1,Sat.drop (A:=X) s1,fun h=>absurd h he,fun _=>⟨b,rfl,by simp[cS.put]⟩⟩
  | true =>
    obtain⟨b2,rfl,rfl⟩:=hu
    obtain⟨l2,s2⟩:=s1.kR
    exact⟨_,cS.le_trans l1 l2,Sat.drop (A:=X) s2,fun h=>absurd h he,fun _=>⟨_,⟨b2,rfl,by simp[cS.put]⟩,⟨b,rfl,l2.at (by simp[cS.put])⟩⟩⟩
theorem xZ(t:ByteArray):(dS t).2.e=0→(dS t).2.pos=0:=fun h=>by
 unfold dS at h ⊢
 simp only at h ⊢
 split at h
 ·rename_i ho
  rw[if_pos ho]
  exact absurd h (by simpa[PS.over] using ho)
 ·rename_i ho
  rw[if_neg ho];rfl
theorem tY{t:ByteArray}(hs:dj t)(I:cS)(F:cR):cZ P 16 #[.string t] I F fun e I' G=>∃(n:Nd) (v:Value) (H:cR),e=.returned (.tuple #[n.v,v])∧n.px=(lC t).1∧eH 64 false n H∧wH I' (⟨#[69,120,112,114]⟩:ByteArray) (lC t).2 v∧G=H++F :=
 (zh hs I F).keep fun e I' G w l hw ⟨n,v,H,B,X,he,hpx,hO,hE,hG⟩=>by
   obtain⟨J,h1,h2,h3⟩:=A3.keep (X:=X) (G:=H++F) hE (hw.perm (cU fun z=>by have q:=iW hG z;simp only[cY] at q ⊢;omega))
   exact⟨J,_,h1,h2,n,v,H,he,hpx,hO,h3,rfl⟩
theorem jl{t:ByteArray}(hs:dj t)(I:cS)(F:cR):cZ P 10 #[.string t] I F fun e I' G=>∃(n:fG) (v:Value) (H:cR),e=.returned (.tuple #[n.v,v])∧n.p=(dS t).1∧o5 false n H∧wH I' (⟨#[83,116,114,97,116,101,103,121]⟩:ByteArray) (dS t).2 v∧G=H++F :=
 (tW hs I F).keep fun e I' G w l hw ⟨n,v,H,B,X,he,hpx,hO,hE,hG⟩=>by
   obtain⟨J,h1,h2,h3⟩:=A3.keep (X:=X) (G:=H++F) hE (hw.perm (cU fun z=>by have q:=iW hG z;simp only[cY] at q ⊢;omega))
   exact⟨J,_,h1,h2,n,v,H,he,hpx,hO,h3,rfl⟩
def PF.w(f:PF):Value:=.tuple #[.int .i64 f.e,.int .i64 f.pos]
theorem mb{I:cS}(hg:Gl I){call:ByteArray}{f:PF}(hz:f.e=0→f.pos=0){v:Value}(h:wH I call f v)(F:cR):cZ P 12 #[v] I F (lH f.w F):=by
 by_cases he:f.e=0
 ·unfold PF.w
  rw[h.1 he,hz he,he];exact A4 I F
 ·have h2:=h.2 he
  split at h2
  ·obtain⟨u,hu,hv⟩:=h2
   obtain⟨b,rfl,hb⟩:=id hv
   exact tX hg hb (fun J hJ G t ty old=>FD (hg.mono hJ) (hv.mono hJ) (hu.mono hJ)) F
  ·obtain⟨b,rfl,hb⟩:=id h2
   exact tX hg hb (fun J hJ G t ty old=>FC (hg.mono hJ) (h2.mono hJ)) F
theorem wH.FP{I:cS}{call:ByteArray}{f:PF}{v:Value}(h:wH I call f v){t:TypeId}(ht:tL P t=true){x:Operand}:eu P .eql t x (.const .nilIface) v .nilIface (f.e==0):=by
 by_cases he:f.e=0
 ·rw[h.1 he,he];exact qb ht
 ·have h2:=h.2 he
  have:(f.e==0)=false:=by simpa using he
  rw[this]
  split at h2
  ·obtain⟨u,hu,b,rfl,hb⟩:=h2;exact qH ht
  ·obtain⟨b,rfl,hb⟩:=h2;exact qH ht
theorem FQ:lC (⟨#[49,32,45,32,50,32,45,32,51]⟩:ByteArray)=(.mk 6 7 0 0 0 ⟨#[]⟩ [.mk 6 7 0 0 0 ⟨#[]⟩ [.mk 1 0 1 1 0 ⟨#[]⟩ [] 0,.mk 1 0 1 2 0 ⟨#[]⟩ [] 4] 2,.mk 1 0 1 3 0 ⟨#[]⟩ [] 8] 6,zF):=by kernel_rfl
theorem FR:(lC (⟨#[40,49,32,43,32,38]⟩:ByteArray)).2=⟨111,5,true⟩:=by kernel_rfl
theorem FT:dS (⟨#[115,116,114,97,116,101,103,121,32,115,123,115,116,97,116,101,32,97,123,125,125]⟩:ByteArray)=(⟨(⟨#[115]⟩:ByteArray),[],[],[⟨(⟨#[97]⟩:ByteArray),[],11⟩]⟩,zF):=by kernel_rfl
theorem FU:(dS (⟨#[115,116,114,97,116,101,103,121,32,115,123,125]⟩:ByteArray)).2=⟨130,11,false⟩:=by kernel_rfl
theorem FV{n:Nd}{k o ty v f p:Int}{w:ByteArray}{x y:Px}(h:n.px=.mk k o ty v f w [x,y] p):∃a b:Nd,n.kids=[a,b]∧a.px=x∧b.px=y∧n.pos=p:=by
 have hk:=Nd.jA n
 rw[h] at hk
 have hp:n.px.pos=p:=by rw[h];rfl
 have hk:[x,y]=n.kids.map Nd.px:=hk
 match hn:n.kids,hk with
 | [a,b],hk =>
   simp only[List.map_cons,List.map_nil,List.cons.injEq,and_true] at hk
   exact⟨a,b,rfl,hk.1.symm,hk.2.symm,by rw[←hp,Nd.vL]⟩
 | [],hk=>simp at hk
 | [a],hk=>simp at hk
 | a::b::c::r,hk=>simp at hk
theorem wI{I:cS}(hg:Gl I)(F:cR):cZ P 9 #[] I F fun e I' G=>e=.returned (.bool true)∧∃X,G.Perm (X++F):=by
 refine lj.vc ?_
 unfold lj.V
 refine (tY (t:=(⟨#[49,32,45,32,50,32,45,32,51]⟩:ByteArray)) (by unfold dj;decide) I F).mono fun e I1 G l1 ⟨n,v,H,he,hpx,hO,hE,hG⟩=>?_
 subst he hG
 rw[FQ] at hpx hE
 obtain⟨ka,kb,hk,hka,hkb,hnp⟩:=FV hpx
 refine⟨_,_,_,_,_,_,_,_,_,_,_,rfl,H++F,.refl _,fun bn=>?_⟩
 refine cZ.ret (mb (hg.mono l1) (fun _=>rfl) hE _) fun I2 l2=>⟨_,_,rfl,_,.refl _, ?_⟩
 have hg2:=hg.mono (cS.le_trans l1 l2)
 refine (tY (t:=(⟨#[40,49,32,43,32,38]⟩:ByteArray)) (by unfold dj;decide) I2 _).mono fun e I3 G l3 ⟨n2,v2,H2,he,hpx2,hO2,hE2,hG⟩=>?_
 subst he hG
 rw[FR] at hE2
 refine⟨_,_,_,_,_,_,_,_,_,_,_,rfl,H2++(H++F),cU fun z=>by simp only[cV,cY,c6];omega,fun b_=>?_⟩
 refine cZ.ret (mb (hg2.mono l3) (fun h=>absurd h (show ¬(111:Int)=0 by decide)) hE2 _) fun I4 l4=>⟨_,_,rfl,_,.refl _, ?_⟩
 have hg4:=hg2.mono (cS.le_trans l3 l4)
 refine (jl (t:=(⟨#[115,116,114,97,116,101,103,121,32,115,123,115,116,97,116,101,32,97,123,125,125]⟩:ByteArray)) (by unfold dj;decide) I4 _).mono fun e I5 G l5 ⟨n3,v3,H3,he,hpx3,hO3,hE3,hG⟩=>?_
 subst he hG
 rw[FT] at hpx3 hE3
 refine⟨_,_,_,_,_,_,_,_,_,_,_,rfl,H3++(H2++(H++F)),cU fun z=>by simp only[cV,cY,c6];omega,fun bs=>?_⟩
 refine (jl (t:=(⟨#[115,116,114,97,116,101,103,121,32,115,123,125]⟩:ByteArray)) (by unfold dj;decide) I5 _).mono fun e I6 G l6 ⟨n4,v4,H4,he,hpx4,hO4,hE4,hG⟩=>?_
 subst he hG
 rw[FU] at hE4
 refine⟨_,_,_,_,_,_,_,_,_,_,_,rfl,H4++(H3++(H2++(H++F))),cU fun z=>by simp only[cV,cY,c6];omega,fun b__=>?_⟩
 refine cZ.ret (mb (hg4.mono (cS.le_trans l5 l6)) (fun h=>absurd h (show ¬(130:Int)=0 by decide)) hE4 _) fun I7 l7=>⟨_,_,rfl,_,.refl _, ?_⟩
 have hin:∀{Z:cR} x,x∈H→x∈Z++(H4++(H3++(H2++(H++F)))):=fun x hx=>by simp[hx]
 have okn:∀{Z:cR},fR I7 (Z++(H4++(H3++(H2++(H++F))))) n:=fun {Z}=>hO.ok hin
 have hlen:n.kids.length=2:=by rw[hk];rfl
 have CP:∀{Z:cR},∃ad,n.a=some ad∧Rd I7 (Z++(H4++(H3++(H2++(H++F))))) (ad.add (Int.toNat 0*8)) ka.enc:=fun {Z}=>by
  obtain⟨ad,x,had,hx,hr,_,_⟩:=(okn (Z:=Z)).kids.at (i:=0) (by decide) (by rw[hlen];decide)
  have:x=ka:=by
   have h0:n.kids[0]? = some x:=hx
   rw[hk] at h0;exact (Option.some.inj h0).symm
  subst this
  exact⟨ad,had,hr⟩
 have hko:ka.oper=7:=by rw[←Nd.rP,hka];rfl
 have hkp:ka.pos=2:=by rw[←Nd.vL,hka];rfl
 obtain rfl:=hE.1 rfl
 obtain rfl:=hE3.1 rfl
 have hst:n3.states.map c9.p=[⟨(⟨#[97]⟩:ByteArray),[],11⟩]:=by have:n3.p.states=[⟨(⟨#[97]⟩:ByteArray),[],11⟩]:=by { rw[hpx3] };exact this
 have hnm:n3.name=(⟨#[115]⟩:ByteArray):=by have:n3.p.name=(⟨#[115]⟩:ByteArray):=by { rw[hpx3] };exact this
 obtain⟨x,hx,hxp⟩:∃x,n3.states=[x]∧x.pos=11:=by
  match hn:n3.states,hst with
  | [x],h =>
    simp only[List.map_cons,List.map_nil,List.cons.injEq,and_true] at h
    exact⟨x,rfl,by have:x.p.pos=11:=by { rw[h] };exact this⟩
  | [],h=>simp at h
  | x::y::r,h=>simp at h
 have hl3:n3.states.length=1:=by rw[hx];rfl
 have ok3:∀{Z:cR},n3.Ok I7 (Z++(H4++(H3++(H2++(H++F))))):=fun {Z}=>hO3.ok fun y hy=>by simp[hy]
 have st3:∀{Z:cR},∃ad,n3.ta=some ad∧Rd I7 (Z++(H4++(H3++(H2++(H++F))))) (ad.add (Int.toNat 0*3)) x.enc:=fun {Z}=>by
  obtain⟨ad,y,had,hy,hr,_⟩:=mv.x7 (ok3 (Z:=Z)).states (i:=0) (by decide) (by rw[hl3];decide)
  have:y=x:=by
   have h0:n3.states[0]? = some y:=hy
   rw[hx] at h0;exact (Option.some.inj h0).symm
  subst this
  exact⟨ad,had,hr⟩
 refine⟨true,qb (by kernel_rfl),fun _=>⟨fun _=>⟨fun _=>⟨fun _=>⟨fun _=>⟨⟨by decide,by rw[hlen];decide⟩, ?_⟩,fun h=>?_⟩,fun h=>?_⟩,fun h=>absurd h (by decide)⟩,fun h=>absurd h (by decide)⟩,fun h=>absurd h (by decide)⟩
 rotate_left
 ·rw[hlen] at h;exact absurd h (by decide)
 ·rw[hnp] at h;exact absurd h (by decide)
 obtain⟨ad,had,hr⟩:=CP (Z:=[_,_,_,_])
 refine⟨ad,had,_,hr.field (o:=1) rfl,fun _=>⟨⟨by decide,by rw[hlen];decide⟩,ad,had,_,hr.field (o:=7) rfl,fun _=>⟨fun _=>⟨fun _=>⟨true,qb (by kernel_rfl),fun _=>⟨fun _=>⟨fun _=>⟨⟨by decide,by rw[hl3];decide⟩, ?_⟩,fun h=>?_⟩,fun h=>?_⟩,fun h=>absurd h (by decide)⟩,fun h=>absurd h (by decide)⟩,fun h=>absurd h (by decide)⟩,fun h=>?_⟩,fun h=>?_⟩
 rotate_left
 ·rw[hl3] at h;exact absurd h (by decide)
 ·rw[hnm] at h;exact absurd h (by simp)
 ·rw[hkp] at h;exact absurd h (by decide)
 ·rw[hko] at h;exact absurd h (by decide)
 obtain⟨ad2,had2,hr2⟩:=st3 (Z:=[_,_,_,_])
 refine⟨ad2,had2,_,hr2.field (o:=2) rfl,fun _=>⟨fun _=>⟨rfl,H4++(H3++(H2++H)),cU fun z=>by simp only[cY];omega⟩,fun h=>absurd h (by decide)⟩,fun h=>?_⟩
 rw[hxp] at h;exact absurd h (by decide)
theorem x4{I:cS}(hg:Gl I)(F:cR):cZ P 9 #[] I F (lH (.bool true) F):=cZ.clean (wI hg F)
abbrev RK:=Nat→List Row
def RK.z:RK:=fun _=>[]
def RK.add(A B:RK):RK:=fun k=>A k++B k
def RK.one(j:Nat)(r:Row):RK:=fun k=>if k=j then [r] else []
def RK.nd(l:List Row):RK:=fun k=>if k=1 then l else []
def RK.sum{α:Type}(f:α→RK)(l:List α):RK:=fun k=>l.flatMap fun x=>f x k
def gC.K(d:gC):RK:=(RK.nd d.side.rows).add ((RK.nd d.qty.rows).add ((RK.nd d.price.rows).add (RK.nd d.value.rows)))
def dq.K(r:dq):RK:=(RK.nd r.when.rows).add ((RK.one 6 ⟨r.a,r.dos.length,r.c⟩).add (RK.sum gC.K r.dos))
def c9.K(x:c9):RK:=(RK.one 5 ⟨x.a,x.rules.length,x.c⟩).add (RK.sum dq.K x.rules)
def dV.K(r:dV):RK:=RK.nd r.init.rows
def fG.K(s:fG):RK:=(RK.one 2 ⟨s.ra,s.regs.length,s.rc⟩).add ((RK.sum dV.K s.regs).add ((RK.one 3 ⟨s.sa,s.slots.length,s.sc⟩).add ((RK.one 4 ⟨s.ta,s.states.length,s.tc⟩).add (RK.sum c9.K s.states))))
def mT(A:RK)(n:Int):Prop:=∀k,((A k).length:Int)≤n
theorem mT.z:mT RK.z 0:=fun k=>Int.le_refl _
theorem mT.add{A B:RK}{m n:Int}(h:mT A m)(h':mT B n):mT (A.add B) (m+n):=fun k=>by
 have h1:=h k
 have h2:=h' k
 show ((A k++B k).length:Int)≤_
 rw[List.length_append];omega
theorem mT.one(j:Nat)(r:Row):mT (RK.one j r) 1:=fun k=>by
 show (((if k=j then [r] else []):List Row).length:Int)≤1
 split<;>simp
theorem mT.nd(t:Nd):mT (RK.nd t.rows) t.px.size:=fun k=>by
 have h1:=BD t
 have h2:=Px.size_pos t.px
 show (((if k=1 then t.rows else []):List Row).length:Int)≤_
 split
 ·omega
 ·simp only[List.length_nil];omega
theorem mT.sum{α:Type}{f:α→RK}{m:α→Int}(h:∀x,mT (f x) (m x)):∀l,mT (RK.sum f l) (jo m l)
 | []=>mT.z
 | x::r=>fun k=>by
   have h1:=h x k
   have h2:=mT.sum h r k
   show (((x::r).flatMap fun y=>f y k).length:Int)≤_
   rw[List.flatMap_cons,List.length_append,jo]
   have:(RK.sum f r k)=r.flatMap fun y=>f y k:=rfl
   rw[this] at h2
   omega
theorem mT.mono{A:RK}{m n:Int}(h:mT A m)(hl:m≤n):mT A n:=fun k=>Int.le_trans (h k) hl
theorem gC.cap(d:gC):mT d.K d.fH:=by
 refine ((mT.nd d.side).add ((mT.nd d.qty).add ((mT.nd d.price).add (mT.nd d.value)))).mono ?_
 show _≤1+d.side.px.size+d.qty.px.size+d.price.px.size+d.value.px.size
 omega
theorem dq.cap(r:dq):mT r.K r.fH:=by
 refine ((mT.nd r.when).add ((mT.one _ _).add (mT.sum gC.cap _))).mono ?_
 rw[dq.pZ];omega
theorem c9.cap(r:c9):mT r.K r.fH:=by
 refine ((mT.one _ _).add (mT.sum dq.cap _)).mono ?_
 rw[c9.pZ];omega
theorem dV.cap(r:dV):mT r.K r.fH:=by
 refine (mT.nd r.init).mono ?_
 show _≤1+r.init.px.size
 omega
theorem fG.cap(s:fG):mT s.K (s.p.fH+3):=by
 refine ((mT.one _ _).add ((mT.sum dV.cap _).add ((mT.one _ _).add ((mT.one _ _).add (mT.sum c9.cap _))))).mono ?_
 rw[fG.pZ];omega
def He:Nat→Nat
 | 1=>62
 | 2=>39
 | 3=>40
 | 4=>41
 | 5=>86
 | _=>108
def rD(A:Nat→cR)(j:Nat)(H:cR):Nat→cR:=fun k=>if k=j then H else A k
def tZ(A:Nat→cR)(R:cR):cR:=A 1++(A 2++(A 3++(A 4++(A 5++(A 6++R)))))
def Bk(b:Nat)(rw:Nat→Row)(rs:RK)(R F':cR):Prop :=
 (∀k,k=0∨6<k→rw k=Fh)∧∃A:Nat→cR,(∀k,1≤k→k≤6→Acc 1 Row.enc (He k) (rw k).a (rw k).n (rw k).c (rs k) (A k))∧F'.Perm ((b,Obj.cells (Ar rw) 37 (0,0))::tZ A R)
theorem ua(A:Nat→cR)(R:cR){k:Nat}(h1:1≤k)(h6:k≤6)(H:cR):(tZ (rD A k H) R).Perm (H++tZ (rD A k []) R):=by
 have:k=1∨k=2∨k=3∨k=4∨k=5∨k=6:=by omega
 rcases this with rfl | rfl | rfl | rfl | rfl | rfl<;>exact cU fun z=>by
  simp[tZ,rD,cY]
  try omega
def Has(z e:Nat)(rs:List Row)(H:cR):Prop:=∃ls:List (List (Ck z)),mW z e rs ls H∧Bd ls
theorem Has.nil{z e:Nat}:Has z e [] []:=⟨[],rfl,fun j l h=>by simp at h⟩
theorem Has.app{z e:Nat}{rs rs':List Row}{H H':cR}(h:Has z e rs H)(h':Has z e rs' H'):Has z e (rs++rs') (H++H'):=by
 obtain⟨ls,h1,h2⟩:=h
 obtain⟨ls',h1',h2'⟩:=h'
 exact⟨ls++ls',h1.app h1',h2.app h2'⟩
def zK:Nat→Nat
 | 1=>8
 | 2=>11
 | 3=>2
 | 4=>3
 | 5=>10
 | _=>36
def eK:Nat→Nat
 | 1=>64
 | 2=>104
 | 3=>106
 | 4=>88
 | 5=>110
 | _=>114
def pg(K:RK)(H:cR):Prop:=∃A:Nat→cR,(∀k,1≤k→k≤6→Has (zK k) (eK k) (K k) (A k))∧H.Perm (tZ A [])
theorem pg.z:pg RK.z []:=⟨fun _=>[],fun _ _ _=>Has.nil,.refl _⟩
theorem pg.add{K K':RK}{H H':cR}(h:pg K H)(h':pg K' H'):pg (K.add K') (H++H'):=by
 obtain⟨A,h1,h2⟩:=h
 obtain⟨A',h1',h2'⟩:=h'
 refine⟨fun k=>A k++A' k,fun k k1 k6=>(h1 k k1 k6).app (h1' k k1 k6),cU fun z=>?_⟩
 have q0:=iW h2 z
 have q1:=iW h2' z
 unfold tZ at q0 q1 ⊢
 simp only[cY,c6] at q0 q1 ⊢
 omega
theorem pg.one{j:Nat}{r:Row}{H:cR}(j1:1≤j)(j6:j≤6)(h:Has (zK j) (eK j) [r] H):pg (RK.one j r) H:=by
 refine⟨rD (fun _=>[]) j H,fun k k1 k6=>?_, ?_⟩
 ·by_cases hk:k=j
  ·subst hk
   rw[show RK.one k r k=[r] from if_pos rfl,show rD (fun _=>[]) k H k=H from if_pos rfl]
   exact h
  ·rw[show RK.one j r k=[] from if_neg hk,show rD (fun _=>[]) j H k=[] from if_neg hk]
   exact Has.nil
 ·have h0:=ua (fun _=>[]) [] j1 j6 H
  have h1:rD (fun _=>([]:cR)) j []=fun _=>[]:=funext fun k=>by unfold rD;split<;>rfl
  rw[h1] at h0
  exact (h0.trans (by simp[tZ])).symm
theorem pg.nd{l:List Row}{H:cR}(h:Has 8 64 l H):pg (RK.nd l) H:=by
 refine⟨rD (fun _=>[]) 1 H,fun k k1 k6=>?_, ?_⟩
 ·by_cases hk:k=1
  ·subst hk;exact h
  ·rw[show RK.nd l k=[] from if_neg hk,show rD (fun _=>[]) 1 H k=[] from if_neg hk]
   exact Has.nil
 ·have h0:=ua (fun _=>[]) [] (k:=1) (by decide) (by decide) H
  have h1:rD (fun _=>([]:cR)) 1 []=fun _=>[]:=funext fun k=>by unfold rD;split<;>rfl
  rw[h1] at h0
  exact (h0.trans (by simp[tZ])).symm
theorem pg.sum{α:Type}{f:α→RK}:∀(l:List α) (hs:Nat→cR),(∀(i:Nat) (x:α),l[i]? = some x→pg (f x) (hs i))→pg (RK.sum f l) (dI l.length hs)
 | [],hs,_=>pg.z
 | x::r,hs,h=>by
   have h1:=pg.sum r (fun i=>hs (i+1)) fun i y hy=>h (i+1) y (by simpa using hy)
   have h2:=(h 0 x rfl).add h1
   rw[List.length_cons,tg]
   exact h2
section
variable {rs:RK} {s:fG} {N:Int} (h:mT rs N)
include h
end
end Go.Lx
namespace Go.Lx
open Go.Vc
theorem z4(A:Nat→cR)(R:cR)(z:Nat×Obj):cn z (tZ A R)=cn z (tZ A [])+cn z R:=by
 unfold tZ
 simp only[cY,c6]
 omega
theorem Bk.more{b:Nat}{rw:Nat→Row}{rs:RK}{R F G X R':cR}(h:Bk b rw rs R F)(hG:G.Perm (X++F))(hR:R'.Perm (X++R)):Bk b rw rs R' G:=by
 obtain⟨h0,A,hA,hp⟩:=h
 refine⟨h0,A,hA,hG.trans (cU fun z=>?_)⟩
 have q:=iW hp z
 have q2:=iW hR z
 simp only[cY,cV,z4 A R z,z4 A R' z] at q q2 ⊢
 omega
end Go.Lx
namespace Go.Lx
open Go.Vc Go.Proofs.Tryz
def qN:List (Nat×List Sh):=[(3,[.one (.int .i64)]),(4,[.one .bool]),(5,[.one (.int .u8)]),(9,[.one .str]),(46,[.agg [.str,.slc,.slc,.slc],.one .any]),(53,[.one (.int .i64),.one (.int .i64)]),(81,[.one .slc,.one (.int .i64),.one (.int .i64)]),(83,[.one .slc])]
def gS.V(ka:Nat→Bs→OA→Nat→Nat→OA→Nat→Nat→OA→Nat→Nat→Nat×Obj)(vi:Int→Value)(vs:Bs→Value)(vl:OA→Nat→Nat→Value)(vt:Bool→Value)(wr:Int→Int)(s:Bs)(av:OA)(al aK:Nat)(I:cS)(F:cR)(Q:cW)(Inv30:Bool→OA→Nat→Nat→Int→Int→Bs→OA→Nat→Nat→Int→Nat→cS→cR→cS→cR→Prop)(Inv81:Bool→OA→Nat→Nat→Int→Int→Bs→OA→Nat→Nat→Int→OA→OA→Int→Int→Int→Int→Bool→Int→Nat→cS→cR→cS→cR→Prop):Prop:=jW P 9 #[] I (·) F vt fun r I1 F1=>(It (!r) (Q (.returned (vt r)) I1 F1) (Dt ((s.size:Int)>4096) (Q (.returned (vt r)) I1 F1) (Dt ((al:Int)>1048576) (Q (.returned (vt r)) I1 F1) (ni P 23 #[vs s] I1 (·) F1 fun e2 I2 G2=>∃(ai:OA) (a am:Nat) (r1 r2:Int),e2=.returned (.tuple #[vl ai a am,vi r1,vi r2])∧G2 fun F2=>(It (r1 != 0) (Q (.returned (vt r)) I2 F2) ((∃m:Nat,Inv30 r ai a am r1 r2 (⟨#[]⟩:Bs) none 0 0 0 m I2 F2 I2 F2)∧∀(ah:Bs) (ab:OA) (ac ag:Nat) (i:Int) (m1:Nat) (I3:cS) (F3:cR),cS.le I2 I3→Inv30 r ai a am r1 r2 ah ab ac ag i m1 I2 F2 I3 F3→(Dt (i<(a:Int)) (Dt (i<(al:Int)) (∀(b:Nat) (I4:cS),cS.le I3 I4→I4 b=some (Obj.cells #[vs (⟨#[32]⟩:Bs),vs (⟨#[10]⟩:Bs),vs (⟨#[9]⟩:Bs),vs (⟨#[32,32]⟩:Bs),vs (⟨#[32,35,32,120,10]⟩:Bs),vs (⟨#[13,10]⟩:Bs)] 9 (0,0))→((0≤i∧i<(al:Int))∧∃ad:Addr,av=some ad∧∃(m2:Int),Rd I4 F3 (ad.add (Int.toNat i*1)) [.int .u8 m2]∧((0≤(Int.tmod m2 6)∧(Int.tmod m2 6)<(6:Int))∧∃aE:Addr,some ⟨b,0,none⟩=some aE∧∃(m3:Bs),Rd I4 F3 (aE.add (Int.toNat (Int.tmod m2 6)*1)) [vs m3]∧∀(b1:Nat) (I5:cS),cS.le I4 I5→I5 b1=some (Obj.cells #[vi (ah.size:Int)] 3 (0,0))→dO P (Builtin.append_ #[83,83] 83 #[vl ab ac ag,vl (some ⟨b1,0,none⟩) 1 1]) I5 F3 fun v I6 G3=>∃(aA:OA) (aB aC:Nat),v=vl aA aB aC∧∃F4:cR,List.Perm G3 F4∧((0≤i∧i<(a:Int))∧∃aF:Addr,ai=some aF∧∃(m4:Bs),Rd I6 F4 ((aF.add (Int.toNat i*5)).add 1) [vs m4]∧((((ah.size+m4.size:Nat):Int)≤IntKind.i64.max)∧(((((ah++m4).size+m3.size:Nat):Int)≤IntKind.i64.max)∧(∃m5:Nat,m5<m1∧Inv30 r ai a am r1 r2 ((ah++m4)++m3) aA aB aC (wr (i+1)) m5 I2 F2 I6 F4))))))) (∀(b2:Nat) (I7:cS),cS.le I3 I7→I7 b2=some (Obj.cells #[vi (ah.size:Int)] 3 (0,0))→dO P (Builtin.append_ #[83,83] 83 #[vl ab ac ag,vl (some ⟨b2,0,none⟩) 1 1]) I7 F3 fun v1 I8 G4=>∃(aw:OA) (ax ay:Nat),v1=vl aw ax ay∧∃F5:cR,List.Perm G4 F5∧((0≤i∧i<(a:Int))∧∃aG:Addr,ai=some aG∧∃(m6:Bs),Rd I8 F5 ((aG.add (Int.toNat i*5)).add 1) [vs m6]∧((((ah.size+m6.size:Nat):Int)≤IntKind.i64.max)∧(((((ah++m6).size+(⟨#[32]⟩:Bs).size:Nat):Int)≤IntKind.i64.max)∧(∃m7:Nat,m7<m1∧Inv30 r ai a am r1 r2 ((ah++m6)++(⟨#[32]⟩:Bs)) aw ax ay (wr (i+1)) m7 I2 F2 I8 F5)))))) ((0≤(wr ((a:Int)-1))∧(wr ((a:Int)-1))<(ac:Int))∧∃an:Addr,ab=some an∧∃(cs:List Value) (el:Nat) (F6:cR),List.Perm F3 (((an.add (Int.toNat (wr ((a:Int)-1))*1)).block,Obj.cells cs.toArray el (0,0))::F6)∧(an.add (Int.toNat (wr ((a:Int)-1))*1)).spot=none∧(an.add (Int.toNat (wr ((a:Int)-1))*1)).off+1≤cs.length∧(Dt ((ah.size:Int)>4096) (Q (.returned (vt true)) I3 ((((an.add (Int.toNat (wr ((a:Int)-1))*1)).block,Obj.cells (de (an.add (Int.toNat (wr ((a:Int)-1))*1)).off [vi (ah.size:Int)] cs).toArray el (0,0))::F6))) (cZ P 10 #[vs s] I3 ((((an.add (Int.toNat (wr ((a:Int)-1))*1)).block,Obj.cells (de (an.add (Int.toNat (wr ((a:Int)-1))*1)).off [vi (ah.size:Int)] cs).toArray el (0,0))::F6)) fun e3 I9 G5=>∃(af:Bs) (n:OA) (o p:Nat) (t:OA) (u w:Nat) (y:OA) (z aa:Nat) (aq:Value),e3=.returned (.tuple #[.agg #[vs af,vl n o p,vl t u w,vl y z aa],aq])∧∃F7:cR,List.Perm G5 F7∧∀aj:Nat,ni P 10 #[vs ah] I9 ((ka aj af n o p t u w y z aa)::·) F7 fun e4 I10 G6=>∃(ae:Bs) (c:OA) (d e:Nat) (f:OA) (g h:Nat) (j:OA) (k l:Nat) (ar:Value),e4=.returned (.tuple #[.agg #[vs ae,vl c d e,vl f g h,vl j k l],ar])∧G6 fun F8=>∀ak:Nat,∃q:Bool,eu P .eql 45 (.tmp 97) (.const (Value.nilIface)) aq Value.nilIface q∧(It q (∃q1:Bool,eu P .eql 45 (.tmp 103) (.const (Value.nilIface)) aq Value.nilIface q1∧(It q1 (∃q2:Bool,eu P .eql 45 (.tmp 106) (.const (Value.nilIface)) ar Value.nilIface q2∧(It q2 (jW P 24 #[.agg #[vs af,vl n o p,vl t u w,vl y z aa],.agg #[vs ae,vl c d e,vl f g h,vl j k l]] I10 ((ka aj af n o p t u w y z aa)::(ka ak ae c d e f g h j k l)::·) F8 vt fun r3 I11 F9=>Q (.returned (vt r3)) I11 F9) (Q (.returned (vt false)) I10 F8))) (Q (.returned (vt false)) I10 F8))) (∃q3:Bool,eu P .eql 45 (.tmp 100) (.const (Value.nilIface)) ar Value.nilIface q3∧(It q3 (∃q4:Bool,eu P .eql 45 (.tmp 103) (.const (Value.nilIface)) aq Value.nilIface q4∧(It q4 (∃q5:Bool,eu P .eql 45 (.tmp 106) (.const (Value.nilIface)) ar Value.nilIface q5∧(It q5 (jW P 24 #[.agg #[vs af,vl n o p,vl t u w,vl y z aa],.agg #[vs ae,vl c d e,vl f g h,vl j k l]] I10 ((ka aj af n o p t u w y z aa)::(ka ak ae c d e f g h j k l)::·) F8 vt fun r4 I12 F10=>Q (.returned (vt r4)) I12 F10) (Q (.returned (vt false)) I10 F8))) (Q (.returned (vt false)) I10 F8))) (ni P 12 #[aq] I10 ((ka aj af n o p t u w y z aa)::(ka ak ae c d e f g h j k l)::·) F8 fun e7 I13 G9=>∃(r0 ao:Int),e7=.returned (.tuple #[vi r0,vi ao])∧G9 fun F11=>ni P 12 #[ar] I13 ((ka aj af n o p t u w y z aa)::(ka ak ae c d e f g h j k l)::·) F11 fun e8 I14 G10=>∃(ap au:Int),e8=.returned (.tuple #[vi ap,vi au])∧G10 fun F12=>(∃m8:Nat,Inv81 r ai a am r1 r2 ah ab ac ag i (some ⟨aj,0,none⟩) (some ⟨ak,0,none⟩) r0 ao ap au false 0 m8 I14 F12 I14 F12)∧∀(x:Bool) (i1:Int) (m9:Nat) (I15:cS) (F13:cR),cS.le I14 I15→Inv81 r ai a am r1 r2 ah ab ac ag i (some ⟨aj,0,none⟩) (some ⟨ak,0,none⟩) r0 ao ap au x i1 m9 I14 F12 I15 F13→(Dt (i1<(a:Int)) ((0≤i1∧i1<(a:Int))∧∃aH:Addr,ai=some aH∧∃(az:Int),Rd I15 ((ka aj af n o p t u w y z aa)::(ka ak ae c d e f g h j k l)::F13) ((aH.add (Int.toNat i1*5)).add 4) [vi az]∧(It (az==ao) (It (r0==ap) ((0≤i1∧i1<(ac:Int))∧∃aI:Addr,ab=some aI∧∃(aD:Int),Rd I15 ((ka aj af n o p t u w y z aa)::(ka ak ae c d e f g h j k l)::F13) (aI.add (Int.toNat i1*1)) [vi aD]∧Q (.returned (vt (aD==au))) I15 F13) (Q (.returned (vt false)) I15 F13)) (∃aJ:Nat,aJ<m9∧Inv81 r ai a am r1 r2 ah ab ac ag i (some ⟨aj,0,none⟩) (some ⟨ak,0,none⟩) r0 ao ap au x (wr (i1+1)) aJ I14 F12 I15 F13))) (Q (.returned (vt false)) I15 F13))))))))))))))))
theorem gS.vc{s:Bs}{k:OA}{l n:Nat}{I:cS}{F:cR}{Q:cW}(Inv30:Bool→OA→Nat→Nat→Int→Int→Bs→OA→Nat→Nat→Int→Nat→cS→cR→cS→cR→Prop)(Inv81:Bool→OA→Nat→Nat→Int→Int→Bs→OA→Nat→Nat→Int→OA→OA→Int→Int→Int→Int→Bool→Int→Nat→cS→cR→cS→cR→Prop)(h:gS.V (fun W a b c d e f g h i j=>(W,Obj.cells #[.string a,.slice b c d,.slice e f g,.slice h i j] 43 (0,0))) (.int .i64) .string .slice .bool (IntKind.wrap .i64) s k l n I F Q Inv30 Inv81):cZ P 7 #[.string s,.slice k l n] I F Q :=
 tw (A:=(fa [2001,2005,2010,5001,10003,13003,18002,22001,22004,23001,23004,27003,29006,30002] [] [9,10,12,23,24] qN [(30,⟨[(9,.str),(10,.slc),(11,(.int .i64))],[],fun fs I0 F0 vs m I F=>match fs,vs with | [.bool y0,.slice y1 y2 y3,.int _ y4,.int _ y5],[.string y6,.slice y7 y8 y9,.int _ y10]=>Inv30 y0 y1 y2 y3 y4 y5 y6 y7 y8 y9 y10 m I0 F0 I F | _,_=>False,[5,6,7,8],[]⟩),(81,⟨[(4,.bool),(21,(.int .i64))],[],fun fs I0 F0 vs m I F=>match fs,vs with | [.bool y0,.slice y1 y2 y3,.int _ y4,.int _ y5,.string y6,.slice y7 y8 y9,.int _ y10,.pointer y11,.pointer y12,.int _ y13,.int _ y14,.int _ y15,.int _ y16],[.bool y17,.int _ y18]=>Inv81 y0 y1 y2 y3 y4 y5 y6 y7 y8 y9 y10 y11 y12 y13 y14 y15 y16 y17 y18 m I0 F0 I F | _,_=>False,[5,6,7,8,9,10,11,13,15,17,18,19,20],[]⟩)] [14000,15003] [] [] [] [] [])) [9,10,12,23,24] func7 h
end Go.Lx
namespace Go.Lx
open Go.Vc
theorem Cz{k:IntKind}{x:Int}(h:(Lit.int k x).wf=true)(hk:k.signed=false:=by rfl):0≤x:=by
 cases k<;>simp_all [Lit.wf,IntKind.signed,IntKind.min]
def DP(x:Int):List Value:=[.int .i64 x]
theorem ER(x:Int):∀u∈DP x,u.oneCell'=true:=by
 intro u hu
 simp only[DP,List.mem_singleton] at hu
 subst hu;rfl
theorem z5:∀ps:List Int,ps.flatMap DP=ps.map fun p=>Value.int .i64 p
 | []=>rfl
 | p::r=>by rw[List.flatMap_cons,List.map_cons,z5 r];rfl
theorem CA{a:Option Addr}{n c b1:Nat}{l:List Int}{A F R:cR}{I:cS}(hA:Acc 1 DP 3 a n c l A)(hl:l.length≤1000000)(x:Int)(hbm:I b1=some (.cells #[.int .i64 x] 3 (0,0)))(hF:F.Perm (A++R)) :
  dO P (Builtin.append_ #[83,83] 83 #[.slice a n c,.slice (some ⟨b1,0,none⟩) 1 1]) I F fun v I' G=>∃a' n' c' A',v=.slice a' n' c'∧Acc 1 DP 3 a' n' c' (l++[x]) A'∧G.Perm (A'++R):=by
 refine dO.perm (dO.mono (jX (f:=DP) (z:=1) (zv:=.int .i64 0) (fun _=>rfl) (by':=8) (by kernel_rfl) (by kernel_rfl) rfl (by decide) hA (xs:=[x]) (fun y _=>ER y) (by simp) rfl ?_ (by simp only[List.length_cons,List.length_nil];omega) (F:=R)) fun v I' G _ ⟨a',n',c',A',h1,h2,h3,_⟩=>⟨a',n',c',A',h1,h2,by rw[h3]⟩) hF
 exact⟨rfl,_,_,_,.inl hbm,fun j hj=>by simp[DP]⟩
theorem ub{α:Type}(v:α):∀(n:Nat) (cs:List α) (j:Nat),n<cs.length→(de n [v] cs)[j]? = if j=n then some v else cs[j]?
 | n,[],j,h=>by simp at h
 | 0,c::cs,j,h=>by
   have h0:de 0 ([]:List α) cs=cs:=by cases cs<;>rfl
   rw[de,h0]
   cases j<;>simp
 | n+1,c::cs,j,h=>by
   rw[de]
   cases j with
   | zero=>simp
   | succ j =>
     rw[List.getElem?_cons_succ,ub v n cs j (by simpa using h),List.getElem?_cons_succ]
     by_cases hj:j=n
     ·rw[if_pos hj,if_pos (by omega)]
     ·rw[if_neg hj,if_neg (by omega)]
theorem vk{l:List Tok}{i:Nat}{t:Tok}(h:l[i]? = some t):l.take (i+1)=l.take i++[t]:=by
 rw[List.take_add_one,h];rfl
theorem gH.size{l:List Tok}{ps:List Int}{out:ByteArray}(h:gH l ps out)(ht:∀t∈l,t.text.size≤4096):out.size≤l.length*4102:=by
 induction h with
 | nil=>exact Nat.zero_le _
 | @cons t l ps g rest hg _ ih =>
   have h1:=ih fun u hu=>ht u (.tail _ hu)
   have h2:=ht t (.head _)
   have h3:=(og hg).2.1
   rw[ByteArray.size_append,ByteArray.size_append,List.length_cons]
   omega
theorem qO(s:ByteArray){ga:Option Addr}{gn gc:Nat}{gl:List Int}{I:cS}(hG:Sl I 1 BM ga gn gl)(hgl:∀x∈gl,0≤x)(hg:Gl I)(F:cR):cZ P 7 #[.string s,.slice ga gn gc] I F fun e I' G=>e=.returned (.bool true):=by
 refine gS.vc
  (fun up la ln lc e to out pa pn pc i m I0 F0 I' F'=>0≤i∧i≤(eQ s 0).1.length∧m=((eQ s 0).1.length-i).toNat∧∃ps A,gH ((eQ s 0).1.take i.toNat) ps out∧Acc 1 DP 3 pa pn pc ps A∧F'.Perm (A++F))
  (fun up la ln lc e to out pa pn pc i bx by' f at' g to' x i1 m I0 F0 I' F'=>0≤i1∧i1≤(eQ s 0).1.length∧m=((eQ s 0).1.length-i1).toNat∧F'=F0∧∀(j:Nat) (t:Tok),(eQ s 0).1[j]? = some t→(j:Int)<i1→t.pos≠(dS s).2.pos) ?_
 unfold gS.V
 refine cZ.ret (x4 hg F) fun I1 l1=>⟨_,rfl,F,.refl _,fun h=>absurd h (by decide),fun _=>⟨fun _=>rfl,fun h=>⟨fun _=>rfl,fun hgn=>?_⟩⟩⟩
 have hsz:(s.size:Int)≤4096:=by have:=of_decide_eq_false h;omega
 have hs:dj s:=by unfold dj;omega
 refine (vT hs I1 F).mono fun e I2 G l2 ⟨hGF,hq⟩=>?_
 cases hT:eQ s 0 with
 | mk l oe =>
 cases oe with
 | some ep =>
   obtain⟨e',p⟩:=ep
   have hne:=(Cf _ 0 (Int.le_refl 0) (by omega) rfl e' p (by rw[hT])).1
   have hR:hZ s=.error (e',p):=by unfold hZ;rw[if_neg (by omega),hT]
   rw[hR] at hq
   exact⟨none,0,0,e',p,hq,F,by rw[hGF],fun _=>rfl,fun h=>absurd (by simpa using h) hne⟩
 | none =>
 have hR:hZ s=.ok l:=by unfold hZ;rw[if_neg (by omega),hT]
 rw[hR] at hq
 obtain⟨a,n,c,he,hS⟩:=hq
 have hn:=hS.1
 have hlen:=v8 hR
 have hinc:=Ch (s:=s) _ 0 (Int.le_refl 0) (by omega) rfl
 rw[hT] at hinc
 have htx:∀t∈l,t.text.size≤4096:=fun t ht=>by
  have h:=(tJ s).2 t (by rw[o8 hsz,hT];exact ht)
  omega
 obtain⟨t0,r0,hl0,_⟩:=rR (Int.le_refl 0) (by omega) hT
 have hpos:0<l.length:=by rw[hl0];exact Nat.succ_pos _
 have hmax:(IntKind.i64.max)=9223372036854775807:=rfl
 refine⟨a,n,c,0,0,he,F,by rw[hGF],fun h=>by simp at h,fun _=>⟨⟨_,by omega,by omega,rfl,[],[],by simpa using gH.nil,Acc.nil,.refl _⟩, ?_⟩⟩
 intro out pa pn pc i m I3 F3 l3 ⟨i0,i1,im,ps,A,hsp,hA,hF3⟩
 have i1:i≤(l.length:Int):=i1
 have im:m=((l.length:Int)-i).toNat:=im
 have hsp:gH (l.take i.toNat) ps out:=hsp
 have hpn:=hA.1
 have hpl:=hsp.len
 rw[List.length_take] at hpl
 have hosz:=hsp.size fun t ht=>htx t (List.mem_of_mem_take ht)
 rw[List.length_take] at hosz
 refine⟨fun hlt=>⟨fun hgi=>?_,fun hgi=>?_⟩,fun hlt=>?_⟩
 ·have hlt:=of_decide_eq_true hlt
  have hgi:=of_decide_eq_true hgi
  intro b I4 l4 hb
  have hB:Sl I4 1 kH (some ⟨b,0,none⟩) 6 rp:=Sl.jG (f:=kH) (z:=1) (l:=rp) (fun _=>rfl) hb rfl
  obtain⟨ad,x,had,hx,hrd⟩:=(hG.mono (cS.le_trans l1 (cS.le_trans l2 (cS.le_trans l3 l4)))).at (i:=i) i0 hgi
  have hx0:=hgl x (List.mem_of_getElem? hx)
  have hmod:0≤Int.tmod x 6∧Int.tmod x 6<6:=by rw[Int.tmod_eq_emod_of_nonneg hx0];omega
  obtain⟨adg,g,hadg,hg',hrdg⟩:=hB.at (i:=Int.tmod x 6) hmod.1 hmod.2
  have hgm:=List.mem_of_getElem? hg'
  have hgf:=og hgm
  refine⟨⟨i0,hgi⟩,ad,had,x,hrd _,hmod,adg,hadg,g,hrdg _,fun b1 I5 l5 hb1=>?_⟩
  refine dO.mono (CA hA (by omega) _ hb1 hF3) fun v I6 G l6 ⟨a',n',c',A',hv,hA',hG'⟩=>⟨a',n',c',hv,A'++F,hG', ?_⟩
  obtain⟨adt,t,hadt,ht,hrdt⟩:=(hS.mono (cS.le_trans l3 (cS.le_trans l4 (cS.le_trans l5 l6)))).at (i:=i) i0 (by omega)
  have htz:=htx t (List.mem_of_getElem? ht)
  refine⟨⟨i0,by omega⟩,adt,hadt,t.text,(hrdt _).field rfl,by rw[hmax];omega,by rw[hmax,ByteArray.size_append];omega, ?_⟩
  rw[gU (by omega)]
  refine⟨(l.length-(i+1)).toNat,by omega,by omega,by omega,rfl,ps++[(out.size:Int)],A', ?_,hA',.refl _⟩
  rw[show (i+1).toNat=i.toNat+1 by omega,vk ht];exact hsp.snoc t hgm
 ·have hlt:=of_decide_eq_true hlt
  intro b1 I5 l5 hb1
  refine dO.mono (CA hA (by omega) _ hb1 hF3) fun v I6 G l6 ⟨a',n',c',A',hv,hA',hG'⟩=>⟨a',n',c',hv,A'++F,hG', ?_⟩
  obtain⟨adt,t,hadt,ht,hrdt⟩:=(hS.mono (cS.le_trans l3 (cS.le_trans l5 l6))).at (i:=i) i0 (by omega)
  have htz:=htx t (List.mem_of_getElem? ht)
  refine⟨⟨i0,by omega⟩,adt,hadt,t.text,(hrdt _).field rfl,by rw[hmax];omega,by rw[hmax,ByteArray.size_append];show ((out.size+t.text.size+1:Nat):Int)≤_;omega, ?_⟩
  rw[gU (by omega)]
  refine⟨(l.length-(i+1)).toNat,by omega,by omega,by omega,rfl,ps++[(out.size:Int)],A', ?_,hA',.refl _⟩
  rw[show (i+1).toNat=i.toNat+1 by omega,vk ht];exact hsp.snoc t (by simp[rp])
 ·have hlt:=of_decide_eq_false hlt
  rw[List.take_of_length_le (by omega)] at hsp
  have hpl:ps.length=l.length:=hsp.len
  obtain⟨_,⟨_,_,hps,_⟩ | ⟨b,cells,hpa,hAe,hcs,hnc,htk⟩⟩:=hA
  ·rw[hps] at hpl;simp at hpl;omega
  subst hpa hAe
  rw[gU (n:=(n:Int)-1) (by omega)]
  have hk:Int.toNat ((n:Int)-1)*1=l.length-1:=by omega
  rw[hk]
  refine⟨⟨by omega,by omega⟩,⟨b,0,none⟩,rfl, ?_⟩
  rw[fm]
  have hcl:cells.toList.length=pc:=by rw[Array.length_toList,hcs];omega
  refine⟨cells.toList,3,F,hF3,rfl,by rw[hcl];show l.length-1+1≤pc;omega,fun _=>rfl,fun hout=>?_⟩
  have hout:=of_decide_eq_false hout
  show cZ P _ #[.string s] I3 ((b,Obj.cells (de (l.length-1) [.int .i64 out.size] cells.toList).toArray 3 (0,0))::F) _
  have hso:dj out:=by unfold dj;omega
  have hcell:∀j:Nat,j<l.length→(de (l.length-1) [.int .i64 (out.size:Int)] cells.toList)[j]? = (ps.dropLast++[(out.size:Int)])[j]?.map fun p=>Value.int .i64 p:=fun j hj=>by
   rw[ub _ _ _ _ (by rw[hcl];omega)]
   split
   ·rename_i h
    rw[List.getElem?_append_right (by rw[List.length_dropLast];omega),List.length_dropLast,show j-(ps.length-1)=0 by omega];rfl
   ·rename_i h
    rw[List.getElem?_append_left (by rw[List.length_dropLast];omega),List.getElem?_dropLast,if_pos (by omega)]
    have h1:(cells.toList.take (pn*1))[j]? = cells.toList[j]?:=by rw[List.getElem?_take,if_pos (by omega)]
    rw[←h1,htk]
    rw[z5,List.getElem?_map]
  obtain⟨p1,p2,p3⟩:=wb hsz (by omega) hT hsp
  refine (jl hs I3 _).mono fun e I4 G l4 ⟨x,v,H,he,hpx,hO,hE,hG4⟩=>?_
  subst he hG4
  refine⟨_,_,_,_,_,_,_,_,_,_,_,rfl,H++((b,Obj.cells (de (l.length-1) [.int .i64 out.size] cells.toList).toArray 3 (0,0))::F),.refl _,fun b_x=>?_⟩
  refine (jl hso I4 _).mono fun e I5 G l5 ⟨y,v2,H2,he,hpy,hO2,hE2,hG5⟩=>?_
  subst he hG5
  refine⟨_,_,_,_,_,_,_,_,_,_,_,rfl,H2++(H++((b,Obj.cells (de (l.length-1) [.int .i64 out.size] cells.toList).toArray 3 (0,0))::F)),(cU fun z=>by simp only[cY,cV,c6];omega),fun b_y=>?_⟩
  by_cases h0:(dS s).2.e=0
  ·have h0':(dS out).2.e=0:=by rw[p1,h0]
   have t1:((dS s).2.e==0)=true:=by rw[h0];rfl
   have t2:((dS out).2.e==0)=true:=by rw[h0'];rfl
   refine⟨true,t1▸(hE.mono l5).FP (by kernel_rfl),fun _=>⟨true,t1▸(hE.mono l5).FP (by kernel_rfl),fun _=>⟨true,t2▸hE2.FP (by kernel_rfl),fun _=>?_,fun h=>by (cases h)⟩,fun h=>by (cases h)⟩,fun h=>by (cases h)⟩
   have hx:x.p.dj:=by rw[hpx];exact wc hs
   refine (ux x y hx (by rw[hpx];exact (qG s).thin) (by rw[hpy];exact (qG out).thin) I5 _ (hO.ok fun z hz=>by simp only[List.mem_cons,List.mem_append];simp only[hz,true_or,or_true]) (hO2.ok fun z hz=>by simp only[List.mem_cons,List.mem_append];simp only[hz,true_or,or_true])).mono fun e I6 G l6 ⟨he,H3,hG6⟩=>?_
   refine⟨_,he,H3++(H2++(H++((b,Obj.cells (de (l.length-1) [.int .i64 out.size] cells.toList).toArray 3 (0,0))::F))),hG6.trans (cU fun z=>by simp only[cY,cV,c6];omega), ?_⟩
   have:x.p.gT y.p=true:=by rw[hpx,hpy,←dU.eC,p2,dU.eI]
   rw[this]
  ·have h0':(dS out).2.e≠0:=by rw[p1];exact h0
   have t1:((dS s).2.e==0)=false:=by simpa using h0
   have t2:((dS out).2.e==0)=false:=by simpa using h0'
   have g5:=hg.mono (cS.le_trans l1 (cS.le_trans l2 (cS.le_trans l3 (cS.le_trans l4 l5))))
   refine⟨false,t1▸(hE.mono l5).FP (by kernel_rfl),fun h=>by (cases h),fun _=>⟨false,t2▸hE2.FP (by kernel_rfl),fun h=>by (cases h),fun _=>?_⟩⟩
   refine cZ.ret (mb g5 (xZ s) (hE.mono l5) _) fun I6 l6=>⟨_,_,rfl,H2++(H++((b,Obj.cells (de (l.length-1) [.int .i64 out.size] cells.toList).toArray 3 (0,0))::F)),.refl _, ?_⟩
   refine cZ.ret (mb (g5.mono l6) (xZ out) (hE2.mono l6) _) fun I7 l7=>⟨_,_,rfl,H2++(H++((b,Obj.cells (de (l.length-1) [.int .i64 out.size] cells.toList).toArray 3 (0,0))::F)),.refl _,⟨_,by omega,by omega,rfl,rfl,fun j t _ hj=>by omega⟩, ?_⟩
   intro x' i2 m2 I8 F8 l8 ⟨j0,j1,jm,hF8,hbefore⟩
   have j1:i2≤(l.length:Int):=j1
   have jm:m2=((l.length:Int)-i2).toNat:=jm
   have hbefore:∀(j:Nat) (t:Tok),l[j]? = some t→(j:Int)<i2→t.pos≠(dS s).2.pos:=hbefore
   subst hF8
   obtain⟨k,u,hku,hup,hkp⟩:=p3 h0
   have hkl:k<l.length:=(List.getElem?_eq_some_iff.1 hku).1
   refine⟨fun hlt2=>?_,fun hlt2=>?_⟩
   ·have hlt2:=of_decide_eq_true hlt2
    obtain⟨adt,t,hadt,ht,hrdt⟩:=(hS.mono (cS.le_trans l3 (cS.le_trans l4 (cS.le_trans l5 (cS.le_trans l6 (cS.le_trans l7 l8)))))).at (i:=i2) j0 (by omega)
    refine⟨⟨j0,hlt2⟩,adt,hadt,t.pos,(hrdt _).field rfl,fun hq=>⟨fun _=>?_,fun h=>by simp[p1] at h⟩,fun hq=>?_⟩
    ·have hq:t.pos=(dS s).2.pos:=by simpa using hq
     have hki:k=i2.toNat:=by
      have hi2:i2.toNat<l.length:=(List.getElem?_eq_some_iff.1 ht).1
      rcases Nat.lt_trichotomy k i2.toNat with h | h | h
      ·have:=List.pairwise_iff_getElem.1 hinc k i2.toNat hkl hi2 h
       rw[(List.getElem?_eq_some_iff.1 hku).2,(List.getElem?_eq_some_iff.1 ht).2] at this;omega
      ·exact h
      ·have:=List.pairwise_iff_getElem.1 hinc i2.toNat k hi2 hkl h
       rw[(List.getElem?_eq_some_iff.1 hku).2,(List.getElem?_eq_some_iff.1 ht).2] at this;omega
     refine⟨⟨j0,by omega⟩,⟨b,0,none⟩,rfl,(dS out).2.pos, ?_,by simp⟩
     rw[Nat.mul_one,fm]
     refine⟨rfl,_,_,_,.inr (show (b,Obj.cells (de (l.length-1) [.int .i64 out.size] cells.toList).toArray 3 (0,0))∈_ by simp only[List.mem_cons,List.mem_append,true_or,or_true]),fun j hj=>?_⟩
     obtain rfl:j=0:=by simpa using hj
     have:=hcell k hkl
     rw[hkp] at this
     show (de (l.length-1) [.int .i64 (out.size:Int)] cells.toList).toArray[i2.toNat+0]? = _
     rw[Nat.add_zero,←hki,List.getElem?_toArray,this];rfl
    ·have hq:t.pos≠(dS s).2.pos:=by simpa using hq
     rw[gU (n:=i2+1) (by omega)]
     refine⟨(l.length-(i2+1)).toNat,by omega,by omega,by omega,rfl,rfl,fun j t' ht' hj=>?_⟩
     by_cases hji:j=i2.toNat
     ·subst hji
      rw[ht] at ht';cases ht';exact hq
     ·exact hbefore j t' ht' (by omega)
   ·have hlt2:=of_decide_eq_false hlt2
    exact absurd hup (hbefore k u hku (by omega))
end Go.Lx
namespace Go.Vc
open Go.ChangeShapes Go.WideShapes Go.ChangeAt Go.RowKit
theorem lg.cell{w w':World}(h:lg w w'){a:Addr}(ha:a.block<w.heap.size):w'.cell? a=w.cell? a:=by
 unfold World.cell?;rw[h.heap _ ha]
theorem lg.same{w w':World}(h:lg w w'){p:MemPlace}(hp:p.block<w.heap.size):w.sameAt w' p:=by
 cases p with
 | cell b off=>exact h.cell (a:=⟨b,off,none⟩) hp
 | map b=>exact h.heap b hp
theorem oJ{H:Type}{enc:TypeId×Value→H}{P:Program}{T:TypeId→Prop}{w w':World}(K:Kids P T)(hsz:∀{t e:TypeId},T t→P.underlying t=some (.slice e)→0<P.cellsOf e)(st:lg w w'){sp':Nat→Bool} :
  ∀{ts:List TypeId} {vs:List Value} {ds:List (DataW H)} {ps:List MemPlace},(∀t∈ts,T t)→DataW.TrodAll enc P w 0 (fun _=>true) true ts vs ds ps→(∀p∈ps,sp' p.block=true)→DataW.TrodAll enc P w' 0 sp' true ts vs ds ps
 | [],[],[],ps,_,h,_=>h
 | t::ts,v::vs,d::ds,ps,ht,⟨p,q,⟨n,h1⟩,h2,e⟩,hs=>by
   subst e
   have hlt:∀x∈p,x.block<w.heap.size:=DataW.trod_lt n t v.cells.toList (d,p) h1
   refine⟨p,q,⟨n, ?_⟩,oJ K hsz st (fun t' ht'=>ht t' (List.mem_cons_of_mem _ ht')) h2 (fun x hx=>hs x (List.mem_append_right _ hx)),rfl⟩
   exact DataW.trod_stays K hsz (fun h=>by cases h) (ht t (List.mem_cons_self ..)) h1 (fun x hx=>st.same (hlt x hx)) (fun x hx=>hs x (List.mem_append_left _ hx))
 | [],_::_,_,_,_,h,_=>h.elim
 | [],[],_::_,_,_,h,_=>h.elim
 | _::_,[],_,_,_,h,_=>h.elim
 | _::_,_::_,[],_,_,h,_=>h.elim
theorem Rd.wh{W:World}{ad:Addr}{v:Value}(h:W.cell? ad=some v)(G:cR):Rd (cS.all W) G ad [v]:=by
 unfold World.cell? at h
 cases hb:W.heap[ad.block]? with
 | none=>rw[hb] at h;cases h
 | some o =>
   rw[hb] at h
   cases o with
   | cells c e fz =>
     simp only at h
     cases hs:ad.spot with
     | some x=>rw[hs] at h;simp at h
     | none =>
       rw[hs] at h
       refine⟨hs,c,e,fz,.inl hb,fun j hj=>?_⟩
       have:j=0:=by simpa using hj
       subst this
       simpa using h
   | _=>cases h
theorem A5{H:Type}{enc:TypeId×Value→H}{P:Program}{W:World}{base b0:Nat}{sp:Nat→Bool}{held:Bool}{t e:TypeId}{k:IntKind}{v:Value}{d:DataW H}{ps:List MemPlace}{r:Reach}
  (ht:P.underlying t=some (.slice e)) (he:P.underlying e=some (.int k)) (hc:P.cellsOf e=1) (hval:Value.okWide P W r b0 t v) (h:DataW.Trod enc P W base sp held t v d ps) :
  ∃a n c zs,v=.slice a n c∧Sl (cS.all W) 1 (fun x=>[Value.int k x]) a n zs∧∀x∈zs,(Lit.int k x).wf=true:=by
 obtain⟨a,n,c,rfl⟩:=okWide_slice ht hval
 obtain⟨fuel,hf⟩:=h
 rcases Go.ChangeShapes.open_ints ht he hc hf with ⟨h1,_⟩ | ⟨ad,len,cap,zs,h1,_,hl,_,hzs,_,hcell,hwf⟩
 ·have h1:[Value.slice a n c]=[.slice none 0 0]:=h1
  cases h1
  exact⟨none,0,0,[],rfl,⟨rfl,fun h=>absurd rfl h⟩,fun x hx=>by simp at hx⟩
 ·have h1:[Value.slice a n c]=[.slice (some ad) len cap]:=h1
  cases h1
  have hlen:n≤zs.length:=by rw[hzs];split<;>omega
  refine⟨_,_,_,zs.take n,rfl,⟨by rw[List.length_take];omega,fun _=>⟨ad,rfl,fun i x hx G=>?_⟩⟩,fun x hx=>hwf x (List.mem_of_mem_take hx)⟩
  have hi:i<zs.length:=by
   have:=(List.getElem?_eq_some_iff.1 hx).1
   rw[List.length_take] at this;omega
  have hc:=hcell i hi
  have hx':zs.getD i 0=x:=by
   rw[List.getElem?_take] at hx
   split at hx
   ·rw[List.getD_eq_getElem?_getD,hx];rfl
   ·cases hx
  rw[hx'] at hc
  rw[Nat.mul_one]
  exact Rd.wh hc G
end Go.Vc
