import Derived.Test.YtdhcodphiofhjaaGreatDoorParseExprsB5
set_option linter.unusedVariables false
set_option linter.unusedSimpArgs false
set_option linter.unusedSectionVars false
set_option maxRecDepth 100000
namespace Go.Lx
open Go.Vc Go.Proofs.Tryz
def p4:List (Nat×List Sh):=[(0,[]),(4,[.one .bool]),(9,[.one .str]),(53,[.one (.int .i64),.one (.int .i64)]),(65,[.agg [(.int .u8),(.int .u8),(.int .u8),(.int .i64),(.int .u8),.str,.slc,(.int .i64)],.one .any]),(67,[.agg [(.int .u8),(.int .u8),(.int .u8),(.int .i64),(.int .u8),.str,.slc,(.int .i64)],.agg [(.int .i64),(.int .i64),.bool]])]
def gI.V(ka:Nat→Int→Int→Bool→Nat×Obj)(nV:Int→Int→Int→Int→Int→Bs→OA→Nat→Nat→Int→Value)(nO:Int→Int→Int→Int→Int→Bs→OA→Nat→Nat→Int→Obj)(vi:Int→Value)(vs:Bs→Value)(vl:OA→Nat→Nat→Value)(vt:Bool→Value)(s ai:Bs)(I:cS)(F:cR)(Q:cT)(Inv20:Bool→OA→OA→Nat→Nat→Bool→Int→Nat→cS→cR→cS→cR→Prop):Prop:=eZ P 9 #[] I (·) F vt fun r I1 F1=>(It (!r) (Q (.returned (vt r)) I1 F1) (Dt ((s.size:Int)>1048576) (Q (.returned (vt r)) I1 F1) (Dt ((ai.size:Int)>1048576) (Q (.returned (vt r)) I1 F1) (∀b:Nat,∀(b1:Nat) (I2:cS),cS.le I1 I2→I2 b1=some (Obj.cells #[vs s,vs ai,vs s] 9 (0,0))→(∃m:Nat,Inv20 r (some (⟨b,0,none⟩:Addr)) (some ⟨b1,0,none⟩) 3 3 false 0 m I2 ((b,Obj.cells #[vl none 0 0,vl none 0 0,vl none 0 0,vl none 0 0,vl none 0 0,vl none 0 0,vl none 0 0,vl none 0 0,vl none 0 0,vl none 0 0,vl none 0 0,vl none 0 0] 37 (0,0))::F1) I2 ((b,Obj.cells #[vl none 0 0,vl none 0 0,vl none 0 0,vl none 0 0,vl none 0 0,vl none 0 0,vl none 0 0,vl none 0 0,vl none 0 0,vl none 0 0,vl none 0 0,vl none 0 0] 37 (0,0))::F1))∧∀(x:Bool) (i:Int) (m1:Nat) (I3:cS) (F2:cR),cS.le I2 I3→Inv20 r (some (⟨b,0,none⟩:Addr)) (some ⟨b1,0,none⟩) 3 3 x i m1 I2 ((b,Obj.cells #[vl none 0 0,vl none 0 0,vl none 0 0,vl none 0 0,vl none 0 0,vl none 0 0,vl none 0 0,vl none 0 0,vl none 0 0,vl none 0 0,vl none 0 0,vl none 0 0] 37 (0,0))::F1) I3 F2→(Dt (i<3) ((0≤i∧i<(3:Int))∧∃ad:Addr,some ⟨b1,0,none⟩=some ad∧∃(m2:Bs),Rd I3 F2 (ad.add (Int.toNat i*1)) [vs m2]∧gO P 16 #[vs m2] I3 (·) F2 fun e2 I4 G2=>∃(h j k l n:Int) (o:Bs) (a:OA) (c d:Nat) (p:Int) (r1:Value),e2=.returned (.tuple #[nV h j k l n o a c d p,r1])∧G2 fun F3=>∀ag:Nat,((0≤i∧i<(3:Int))∧∃ak:Addr,some ⟨b1,0,none⟩=some ak∧∃(m3:Bs),Rd I4 ((ag,nO h j k l n o a c d p)::F3) (ak.add (Int.toNat i*1)) [vs m3]∧gO P 17 #[vs m3] I4 ((ag,nO h j k l n o a c d p)::·) F3 fun e3 I5 G3=>∃(t u v w y:Int) (z:Bs) (e:OA) (f g:Nat) (aa ac ae:Int) (af:Bool),e3=.returned (.tuple #[nV t u v w y z e f g aa,.agg #[vi ac,vi ae,vt af]])∧G3 fun F4=>∀ab:Nat,∀ah:Nat,gO P 12 #[r1] I5 ((ag,nO h j k l n o a c d p)::(ab,nO t u v w y z e f g aa)::(ka ah ac ae af)::·) F4 fun e4 I6 G4=>∃(r0 aj:Int),e4=.returned (.tuple #[vi r0,vi aj])∧G4 fun F5=>eZ P 18 #[nV h j k l n o a c d p,nV t u v w y z e f g aa] I6 ((ag,nO h j k l n o a c d p)::(ab,nO t u v w y z e f g aa)::(ka ah ac ae af)::·) F5 vt fun r2 I7 F6=>(It (!r2) (Q (.returned (vt false)) I7 F6) (It (r0 != ac) (Q (.returned (vt false)) I7 F6) (It (aj != ae) (Q (.returned (vt false)) I7 F6) (∃q:Bool,eW P .eql 45 (.tmp 79) (.const (Value.nilIface)) r1 Value.nilIface q∧(It (!(q==(r0==0))) (Q (.returned (vt false)) I7 F6) (gO P 19 (#[.pointer (some (⟨b,0,none⟩:Addr)),nV h j k l n o a c d p]) I7 ((ag,nO h j k l n o a c d p)::(ab,nO t u v w y z e f g aa)::(ka ah ac ae af)::·) F6 fun e6 I8 G6=>e6=.returned (.tuple #[])∧G6 fun F7=>(∃m4:Nat,m4<m1∧Inv20 r (some (⟨b,0,none⟩:Addr)) (some ⟨b1,0,none⟩) 3 3 x (IntKind.wrap .i64 (i+1)) m4 I2 ((b,Obj.cells #[vl none 0 0,vl none 0 0,vl none 0 0,vl none 0 0,vl none 0 0,vl none 0 0,vl none 0 0,vl none 0 0,vl none 0 0,vl none 0 0,vl none 0 0,vl none 0 0] 37 (0,0))::F1) I8 F7))))))))) (eZ P 15 (#[.pointer (some (⟨b,0,none⟩:Addr))]) I3 (·) F2 vt fun r3 I9 F8=>Q (.returned (vt r3)) I9 F8))))))
theorem gI.vc{s d:Bs}{I:cS}{F:cR}{Q:cT}(Inv20:Bool→OA→OA→Nat→Nat→Bool→Int→Nat→cS→cR→cS→cR→Prop)(h:gI.V (fun W a b c=>(W,Obj.cells #[.int .i64 a,.int .i64 b,.bool c] 50 (0,0))) (fun k o t n f s a l c q=>.agg #[.int .u8 k,.int .u8 o,.int .u8 t,.int .i64 n,.int .u8 f,.string s,.slice a l c,.int .i64 q]) (fun k o t n f s a l c q=>.cells #[.int .u8 k,.int .u8 o,.int .u8 t,.int .i64 n,.int .u8 f,.string s,.slice a l c,.int .i64 q] 64 (0,0)) (.int .i64) .string .slice .bool s d I F Q Inv20):cU P 4 #[.string s,.string d] I F Q :=
 tw (A:=(dr [2001,2005,2010,7001,13001,13006,13012,13019] [] [9,12,15,16,17,18,19] p4 [(20,⟨[(4,.bool),(8,(.int .i64))],[],fun fs I0 F0 vs m I F=>match fs,vs with | [.bool y0,.pointer y1,.slice y2 y3 y4],[.bool y5,.int _ y6]=>Inv20 y0 y1 y2 y3 y4 y5 y6 m I0 F0 I F | _,_=>False,[5,6,7],[]⟩)] [5003] [4001] [] [] [] [])) [9,12,15,16,17,18,19] func4 h
end Go.Lx
namespace Go.Lx
open Go.Vc
theorem p5(s other:ByteArray)(I:cS)(hg:Gl I)(F:cR):cU P 4 #[.string s,.string other] I F fun e I' G=>e=.returned (.bool true):=by
 refine gI.vc (fun up bk la ln lc x i m I0 F0 I' F'=>0≤i∧i≤3∧m=(3-i).toNat∧∃b,bk=some ⟨b,0,none⟩∧∃rw rs H,Bk b rw rs (H++F) F'∧xJ rs (i*20000)∧mP rs H) ?_
 unfold gI.V
 refine cU.ret (wo hg F) fun I1 l1=>⟨_,rfl,F,.refl _,fun h=>absurd h (by decide),fun _=>⟨fun _=>rfl,fun hs=>⟨fun _=>rfl,fun ho=>?_⟩⟩⟩
 have hs:dt s:=by unfold dt;have:=of_decide_eq_false hs;omega
 have ho:dt other:=by unfold dt;have:=of_decide_eq_false ho;omega
 intro b b1 I2 l2 hb1
 have hSl:Sl I2 1 iS (some ⟨b1,0,none⟩) 3 [s,other,s]:=Sl.gQ (f:=iS) (z:=1) (l:=[s,other,s]) (fun _=>rfl) hb1 rfl
 refine⟨⟨_,by omega,by omega,rfl,b,rfl,fun _=>yk,RK.z,[],Bk.nil (.refl _),xJ.z,mP.z⟩, ?_⟩
 intro x i m I3 F2 l3 ⟨i0,i1,im,b',hb',rw0,rs,H,hB,hC,hK⟩
 obtain rfl:b=b':=by simpa using hb'
 refine⟨fun hlt=>?_,fun hlt=>?_⟩
 ·have hlt:=of_decide_eq_true hlt
  obtain⟨ad,t,had,ht,hrd⟩:=(hSl.mono l3).at (i:=i) i0 (by omega)
  have hts:dt t:=by
   have:=List.mem_of_getElem? ht
   simp only[List.mem_cons,List.not_mem_nil,or_false] at this
   rcases this with h | h | h<;>(subst h;assumption)
  refine⟨⟨i0,hlt⟩,ad,had,t,hrd _, ?_⟩
  refine (nR hts I3 F2).mono fun e I4 G l4 ⟨n,v,Hn,he,hpx,hO,hE,hG⟩=>?_
  subst he hG
  refine⟨_,_,_,_,_,_,_,_,_,_,_,rfl,Hn++F2,.refl _,fun b_n=>⟨⟨i0,hlt⟩,ad,had,t,(hrd []).sub l4 fun y hy=>(by cases hy), ?_⟩⟩
  refine (xo t hts I4 _).mono fun e I5 G l5 ⟨y,he,hy,oky,hG⟩=>?_
  subst hG
  refine⟨_,_,_,_,_,_,_,_,_,_,_,_,_,he,Hn++F2,.refl _,fun b_want b_f=>?_⟩
  have g5:=hg.mono (cS.le_trans l1 (cS.le_trans l2 (cS.le_trans l3 (cS.le_trans l4 l5))))
  refine cU.ret (mL g5 (AL t) (hE.mono l5) _) fun I6 l6=>⟨_,_,rfl,Hn++F2,.refl _, ?_⟩
  have hn:n.px.iz:=by rw[hpx];exact ux hts
  refine cU.ret (yY n hn y I6 _ (by rw[hpx,hy]) (hO.ok fun a ha=>by simp only[List.mem_cons,List.mem_append];simp only[ha,true_or,or_true]) (oky.mono l6 Eo)) fun I7 l7=>⟨_,rfl,Hn++F2,.refl _,fun h=>by (cases h),fun _=>⟨fun h=>by simp[PF.w] at h,fun _=>⟨fun h=>by simp[PF.w] at h,fun _=>⟨_,hE.EI (by kernel_rfl),fun h=>by simp[PF.w] at h,fun _=>?_⟩⟩⟩⟩
  have hsz:n.px.size≤20000:=by rw[hpx];exact (tu t).1
  have hC1:=hC 1
  have hB1:Bk b rw0 rs ((H++Hn)++F) (Hn++F2):=hB.more (.refl _) (cV fun z=>by simp only[cX,cW,cZ];omega)
  refine (hB1.node n (by omega) (R0:=[(b_n,Obj.cells #[.int .u8 n.kind,.int .u8 n.oper,.int .u8 n.fL,.int .i64 n.n,.int .u8 n.field,.string n.name,.slice n.a n.kids.length n.c,.int .i64 n.pos] 64 (0,0)),(b_want,Obj.cells #[.int .u8 y.kind,.int .u8 y.oper,.int .u8 y.fL,.int .i64 y.n,.int .u8 y.field,.string y.name,.slice y.a y.kids.length y.c,.int .i64 y.pos] 64 (0,0)),(b_f,Obj.cells #[.int .i64 (ew t).2.e,.int .i64 (ew t).2.pos,.bool (ew t).2.tok] 50 (0,0))]) (.refl _) (by omega) I7 (hO.ok fun a ha=>by simp only[List.mem_append];simp only[ha,true_or,or_true])).mono fun e I8 G l8 ⟨he,rw1,F3,hG,hB3⟩=>?_
  refine⟨he,F3,hG,(3-(i+1)).toNat,by omega, ?_⟩
  rw[ef (n:=i+1) (by omega)]
  refine⟨by omega,by omega,rfl,b,rfl,rw1,_,H++Hn,hB3,(hC.add (xJ.nd n)).mono (by omega),hK.add (hO.has (by omega))⟩
 ·have hlt:=of_decide_eq_false hlt
  refine (hB.own (.refl _) hK (fun k=>by have:=hC k;omega) I3).mono fun e I9 G l9 ⟨he,hG⟩=>?_
  exact⟨true,he,G,.refl _,rfl⟩
end Go.Lx
namespace Go.Vc
open Go.ChangeShapes Go.WideShapes Go.ChangeAt Go.RowKit
theorem kg.cell{w w':World}(h:kg w w'){a:Addr}(ha:a.block<w.heap.size):w'.cell? a=w.cell? a:=by
 unfold World.cell?;rw[h.heap _ ha]
theorem kg.same{w w':World}(h:kg w w'){p:MemPlace}(hp:p.block<w.heap.size):w.sameAt w' p:=by
 cases p with
 | cell b off=>exact h.cell (a:=⟨b,off,none⟩) hp
 | map b=>exact h.heap b hp
theorem nf{H:Type}{enc:TypeId×Value→H}{P:Program}{T:TypeId→Prop}{w w':World}(K:Kids P T)(hsz:∀{t e:TypeId},T t→P.underlying t=some (.slice e)→0<P.cellsOf e)(st:kg w w'){sp':Nat→Bool} :
  ∀{ts:List TypeId} {vs:List Value} {ds:List (DataW H)} {ps:List MemPlace},(∀t∈ts,T t)→DataW.TrodAll enc P w 0 (fun _=>true) true ts vs ds ps→(∀p∈ps,sp' p.block=true)→DataW.TrodAll enc P w' 0 sp' true ts vs ds ps
 | [],[],[],ps,_,h,_=>h
 | t::ts,v::vs,d::ds,ps,ht,⟨p,q,⟨n,h1⟩,h2,e⟩,hs=>by
   subst e
   have hlt:∀x∈p,x.block<w.heap.size:=DataW.trod_lt n t v.cells.toList (d,p) h1
   refine⟨p,q,⟨n, ?_⟩,nf K hsz st (fun t' ht'=>ht t' (List.mem_cons_of_mem _ ht')) h2 (fun x hx=>hs x (List.mem_append_right _ hx)),rfl⟩
   exact DataW.trod_stays K hsz (fun h=>by cases h) (ht t (List.mem_cons_self ..)) h1 (fun x hx=>st.same (hlt x hx)) (fun x hx=>hs x (List.mem_append_left _ hx))
 | [],_::_,_,_,_,h,_=>h.elim
 | [],[],_::_,_,_,h,_=>h.elim
 | _::_,[],_,_,_,h,_=>h.elim
 | _::_,_::_,[],_,_,h,_=>h.elim
end Go.Vc
