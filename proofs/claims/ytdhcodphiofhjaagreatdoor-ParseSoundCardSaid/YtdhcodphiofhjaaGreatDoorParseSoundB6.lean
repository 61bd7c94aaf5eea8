import Derived.Test.YtdhcodphiofhjaaGreatDoorParseSoundB5
set_option linter.unusedVariables false
set_option linter.unusedSimpArgs false
set_option linter.unusedSectionVars false
set_option maxRecDepth 100000
namespace Go.Lx
open Go.Vc Go.Proofs.Tryz
def qP:List (Nat×List Sh):=[(4,[.one .bool]),(46,[.agg [.str,.slc,.slc,.slc],.one .any]),(48,[.one (.int .i64)]),(53,[.one (.int .i64),.one (.int .i64)]),(77,[.agg [(.int .u8),.str,(.int .u8),(.int .i64),(.int .i64)],.one (.int .i64),.one (.int .i64)])]
def gX.V(ka:Nat→Bs→OA→Nat→Nat→OA→Nat→Nat→OA→Nat→Nat→Nat×Obj)(vb vi:Int→Value)(vs:Bs→Value)(vl:OA→Nat→Nat→Value)(vt:Bool→Value)(wr:Int→Int)(s t:Bs)(I:cS)(F:cR)(Q:cU)  : Prop:=fp P 9 #[] I (·) F vt fun r I1 F1=>(It (!r) (Q (.returned (vt r)) I1 F1) (Dt ((s.size:Int)>1048576) (Q (.returned (vt r)) I1 F1) (Dt ((t.size:Int)>1048576) (Q (.returned (vt r)) I1 F1) (sg P 10 #[vs s] I1 (·) F1 fun e2 I2 G2=>∃(k:Bs) (a:OA) (b c:Nat) (d:OA) (e f:Nat) (g:OA) (h i:Nat) (r1:Value),e2=.returned (.tuple #[.agg #[vs k,vl a b c,vl d e f,vl g h i],r1])∧G2 fun F2=>∀o:Nat,∃q:Bool,eU P .eql 45 (.tmp 37) (.const (Value.nilIface)) r1 Value.nilIface q∧(It q (fp P 21 #[.agg #[vs k,vl a b c,vl d e f,vl g h i]] I2 ((ka o k a b c d e f g h i)::·) F2 vi fun r2 I3 F3=>Q (.returned (vt (r2==0))) I3 F3) (sg P 12 #[r1] I2 ((ka o k a b c d e f g h i)::·) F2 fun e4 I4 G4=>∃(r0 j:Int),e4=.returned (.tuple #[vi r0,vi j])∧G4 fun F4=>(Dt (j<0) (Q (.returned (vt false)) I4 F4) (Dt (j>(s.size:Int)) (Q (.returned (vt false)) I4 F4) (Dt ((s.size:Int)>4096) (It (r0==110) (Q (.returned (vt (j==0))) I4 F4) (Q (.returned (vt false)) I4 F4)) (sg P 22 #[vs s,vi j] I4 ((ka o k a b c d e f g h i)::·) F4 fun e5 I5 G5=>∃(m:Int) (l:Bs) (ac ad p ag al:Int),e5=.returned (.tuple #[.agg #[vb m,vs l,vb ac,vi ad,vi p],vi ag,vi al])∧G5 fun F5=>∀af:Nat,(It (ag != 0) (Q (.returned (vt true)) I5 F5) (It (p != j) (Q (.returned (vt true)) I5 F5) (It (m==0) (Q (.returned (vt true)) I5 F5) (Dt ((wr ((wr ((wr (j+(l.size:Int)))+1))+(t.size:Int)))>4096) (Q (.returned (vt true)) I5 F5) ((0≤(0:Int)∧(0:Int)≤(wr (j+(l.size:Int)))∧(wr (j+(l.size:Int)))≤(s.size:Int))∧(((((s.extract (Int.toNat ((0:Int))) (Int.toNat ((wr (j+(l.size:Int)))))).size+(⟨#[10]⟩:Bs).size:Nat):Int)≤IntKind.i64.max)∧((((((s.extract (Int.toNat ((0:Int))) (Int.toNat ((wr (j+(l.size:Int))))))++(⟨#[10]⟩:Bs)).size+t.size:Nat):Int)≤IntKind.i64.max)∧sg P 10 (#[vs (((s.extract (Int.toNat ((0:Int))) (Int.toNat ((wr (j+(l.size:Int))))))++(⟨#[10]⟩:Bs))++t)]) I5 ((ka o k a b c d e f g h i)::(af,Obj.cells #[vb m,vs l,vb ac,vi ad,vi p] 76 (0,0))::·) F5 fun e6 I6 G6=>∃(ae:Bs) (u:OA) (v w:Nat) (x:OA) (y z:Nat) (aa:OA) (n ab:Nat) (ah:Value),e6=.returned (.tuple #[.agg #[vs ae,vl u v w,vl x y z,vl aa n ab],ah])∧G6 fun F6=>∀ak:Nat,sg P 12 #[ah] I6 ((ka o k a b c d e f g h i)::(af,Obj.cells #[vb m,vs l,vb ac,vi ad,vi p] 76 (0,0))::(ka ak ae u v w x y z aa n ab)::·) F6 fun e7 I7 G7=>∃(ai aj:Int),e7=.returned (.tuple #[vi ai,vi aj])∧G7 fun F7=>∃q1:Bool,eU P .neq 45 (.tmp 112) (.const (Value.nilIface)) ah Value.nilIface q1∧(It q1 (It (ai==r0) (It (aj==j) (Q (.returned (vt ((n:Int)==0))) I7 F7) (Q (.returned (vt false)) I7 F7)) (Q (.returned (vt false)) I7 F7)) (Q (.returned (vt false)) I7 F7)))))))))))))))))))
theorem gX.vc{s k:Bs}{I:cS}{F:cR}{Q:cU}  (h:gX.V (fun W a b c d e f g h i j=>(W,Obj.cells #[.string a,.slice b c d,.slice e f g,.slice h i j] 43 (0,0))) (.int .u8) (.int .i64) .string .slice .bool (IntKind.wrap .i64) s k I F Q):cV P 6 #[.string s,.string k] I F Q :=
 tw (A:=(an [2001,2005,2010,5001,8001,8006,10002,11001,14001,14006,14011,14019,18001,18005,18010] [9,10,12,21,22] qP)) [9,10,12,21,22] func6 h
end Go.Lx
namespace Go.Lx
open Go.Vc
theorem sZ.FP{I:cS}{call:ByteArray}{f:PF}{v:Value}(h:sZ I call f v){t:TypeId}(ht:nA P t=true){x:Operand}:eU P .neq t x (.const .nilIface) v .nilIface (f.e != 0):=by
 by_cases he:f.e=0
 ·rw[h.1 he,he];exact Cx ht
 ·have h2:=h.2 he
  have:(f.e != 0)=true:=by simpa using he
  rw[this]
  split at h2
  ·obtain⟨u,hu,b,rfl,hb⟩:=h2;exact w9 ht
  ·obtain⟨b,rfl,hb⟩:=h2;exact w9 ht
theorem Au{s more:ByteArray}{E:Int}(h0:0≤E)(h1:E≤s.size):Alike s (cut s 0 E++⟨#[10]⟩++more) E∧((cut s 0 E++⟨#[10]⟩++more).size:Int)=E+1+more.size∧((cut s 0 E++⟨#[10]⟩).size:Int)=E+1:=by
 have hc:=eD (s:=s) (Int.le_refl 0) h0 h1
 have h10:(⟨#[10]⟩:ByteArray).size=1:=rfl
 have hs:(cut s 0 E++⟨#[10]⟩).size=(cut s 0 E).size+1:=by rw[ByteArray.size_append,h10]
 have hs2:(cut s 0 E++⟨#[10]⟩++more).size=(cut s 0 E).size+1+more.size:=by rw[ByteArray.size_append,hs]
 refine⟨⟨h1,by omega,fun k g0 g1=>?_, ?_⟩,by omega,by omega⟩
 ·rw[nz g0 (by omega),nz g0 (by omega),ld (Int.le_refl 0) g0 (by omega) h1,Int.zero_add]
 ·rw[nz h0 (by omega)]
  have:=va (x:=cut s 0 E) (y:=⟨#[10]⟩) (k:=0) (Int.le_refl 0) (by omega)
  rw[show (((cut s 0 E).size:Nat):Int)+0=E by omega] at this
  rw[this];rfl
theorem qQ(s more:ByteArray)(I:cS)(hg:Gl I)(F:cR):cV P 6 #[.string s,.string more] I F fun e I' G=>e=.returned (.bool true):=by
 refine gX.vc ?_
 unfold gX.V
 refine cV.ret (xn hg F) fun I1 l1=>⟨_,rfl,F,.refl _,fun h=>absurd h (by decide),fun _=>⟨fun _=>rfl,fun h=>⟨fun _=>rfl,fun hm=>?_⟩⟩⟩
 have h:¬(s.size:Int)>1048576:=of_decide_eq_false h
 have hm:¬(more.size:Int)>1048576:=of_decide_eq_false hm
 have hs:dV s:=by unfold dV;omega
 refine (jd hs I1 F).mono fun e I2 G l2 ⟨n,v,H,he,hpx,hO,hE,hG⟩=>?_
 subst he hG
 have hin:n.p.In s.size 20000:=by rw[hpx];exact Ad s
 refine⟨_,_,_,_,_,_,_,_,_,_,_,rfl,H++F,.refl _,fun b_x=>⟨_,hE.Gk (by kernel_rfl),fun h0=>?_,fun h0=>?_⟩⟩
 ·have h0:(dI s).2.e=0:=by simpa using h0
  refine cV.ret (u7 n hin.thin I2 _ (hO.ok fun a ha=>by simp only[List.mem_cons,List.mem_append];simp only[ha,true_or,or_true])) fun I3 l3=>⟨_,rfl,H++F,.refl _, ?_⟩
  rw[hpx,BE h0];rfl
 ·have h0:(dI s).2.e≠0:=by simpa using h0
  have g2:=hg.mono (cS.le_trans l1 l2)
  refine cV.ret (lK g2 (xm s) hE _) fun I3 l3=>⟨_,_,rfl,H++F,.refl _, ?_⟩
  by_cases hl:4096<(s.size:Int)
  ·rw[show (dI s).2.e=110 by rw[oW hl],show (dI s).2.pos=0 by rw[oW hl]]
   exact⟨fun h=>by simp at h,fun _=>⟨fun h=>by (have h:=of_decide_eq_true h;exfalso;omega),fun _=>⟨fun _=>⟨fun _=>rfl,fun h=>by simp at h⟩,fun h=>absurd (of_decide_eq_false h) (by omega)⟩⟩⟩
  ·have hl:(s.size:Int)≤4096:=by omega
   obtain⟨_,p0,p1,_⟩:=wZ hl h0
   refine⟨fun h=>by (have h:=of_decide_eq_true h;exfalso;omega),fun _=>⟨fun h=>by (have h:=of_decide_eq_true h;exfalso;omega),fun _=>⟨fun h=>by (have h:=of_decide_eq_true h;exfalso;omega),fun _=>?_⟩⟩⟩
   have hone:=Bg hs p0 p1 I3 ((b_x,Obj.cells #[.string n.name,.slice n.ra n.regs.length n.rc,.slice n.sa n.slots.length n.sc,.slice n.ta n.states.length n.tc] 43 (0,0))::(H++F))
   rcases fF p0 p1 with ⟨t,ht,_⟩ | ⟨e,ht,hne⟩
   ·rw[ht] at hone
    refine cV.ret hone fun I4 l4=>⟨_,_,_,_,_,_,_,rfl,H++F,.refl _,fun b_t=>⟨fun h=>by simp at h,fun _=>⟨fun _=>rfl,fun hat=>⟨fun _=>rfl,fun hk=>⟨fun _=>rfl,fun hlen=>?_⟩⟩⟩⟩⟩
    have hat:t.pos=(dI s).2.pos:=by simpa using hat
    have hk:t.kind≠0:=by simpa using hk
    have hlen:=of_decide_eq_false hlen
    have hnx:=gO p0 p1 ht
    have hsz:=Int.natCast_nonneg t.text.size
    rw[←hat] at hlen ⊢
    rw[gN (n:=t.pos+(t.text.size:Int)) (by omega),gN (n:=t.pos+(t.text.size:Int)+1) (by omega),gN (by omega)] at hlen
    rw[gN (n:=t.pos+(t.text.size:Int)) (by omega)]
    obtain⟨hA,hz1,hz2⟩:=Au (s:=s) (more:=more) (E:=t.pos+t.text.size) (by omega) hnx.1
    have hmax:(IntKind.i64.max)=9223372036854775807:=rfl
    have hz2':((cut s 0 (t.pos+t.text.size)).size+(⟨#[10]⟩:ByteArray).size:Nat)=(cut s 0 (t.pos+t.text.size)++⟨#[10]⟩).size:=(ByteArray.size_append ..).symm
    have hz1':((cut s 0 (t.pos+t.text.size)++⟨#[10]⟩).size+more.size:Nat)=(cut s 0 (t.pos+t.text.size)++⟨#[10]⟩++more).size:=(ByteArray.size_append ..).symm
    refine⟨⟨Int.le_refl 0,by omega,hnx.1⟩, ?_, ?_, ?_⟩
    ·show (((cut s 0 (t.pos+t.text.size)).size+(⟨#[10]⟩:ByteArray).size:Nat):Int)≤_
     rw[hz2',hmax];omega
    ·show (((cut s 0 (t.pos+t.text.size)++⟨#[10]⟩).size+more.size:Nat):Int)≤_
     rw[hz1',hmax];omega
    ·have hmore:=ye hl (z:=cut s 0 (t.pos+t.text.size)++⟨#[10]⟩++more) (by omega) h0 ht hk rfl hA
     clear hz1' hz2' hA hz2
     unfold cut at hmore hz1
     generalize s.extract (Int.toNat 0) (Int.toNat (t.pos+(t.text.size:Int)))++⟨#[10]⟩++more=z at hmore hz1 ⊢
     have hzs:dV z:=by unfold dV;omega
     refine (jd hzs I4 _).mono fun e I5 G l5 ⟨n2,v2,H2,he,hpx2,hO2,hE2,hG⟩=>?_
     subst he hG
     rw[hmore] at hpx2 hE2
     refine⟨_,_,_,_,_,_,_,_,_,_,_,rfl,H2++(H++F),(cY fun z=>by simp only[c6,cZ,c8];omega),fun b_y=>?_⟩
     refine cV.ret (lK (g2.mono (cS.le_trans l3 (cS.le_trans l4 l5))) (xm s) hE2 _) fun I6 l6=>⟨_,_,rfl,H2++(H++F),.refl _,_,hE2.FP (by kernel_rfl),fun _=>⟨fun _=>⟨fun _=>?_,fun h=>by simp[hat] at h⟩,fun h=>by simp at h⟩,fun h=>absurd (by simpa using h) h0⟩
     have:n2.states=[]:=by
      have:=congrArg fm.states hpx2
      exact List.map_eq_nil_iff.1 this
     rw[this];rfl
   ·rw[ht] at hone
    refine cV.ret hone fun I4 l4=>⟨_,_,_,_,_,_,_,rfl,H++F,.refl _,fun b_t=>⟨fun _=>rfl,fun h=>?_⟩⟩
    have:e=0:=by simpa using h
    omega
end Go.Lx
namespace Go.Vc
open Go.ChangeShapes Go.WideShapes Go.ChangeAt Go.RowKit
theorem kX.cell{w w':World}(h:kX w w'){a:Addr}(ha:a.block<w.heap.size):w'.cell? a=w.cell? a:=by
 unfold World.cell?;rw[h.heap _ ha]
theorem kX.same{w w':World}(h:kX w w'){p:MemPlace}(hp:p.block<w.heap.size):w.sameAt w' p:=by
 cases p with
 | cell b off=>exact h.cell (a:=⟨b,off,none⟩) hp
 | map b=>exact h.heap b hp
theorem ow{H:Type}{enc:TypeId×Value→H}{P:Program}{T:TypeId→Prop}{w w':World}(K:Kids P T)(hsz:∀{t e:TypeId},T t→P.underlying t=some (.slice e)→0<P.cellsOf e)(st:kX w w'){sp':Nat→Bool} :
  ∀{ts:List TypeId} {vs:List Value} {ds:List (DataW H)} {ps:List MemPlace},(∀t∈ts,T t)→DataW.TrodAll enc P w 0 (fun _=>true) true ts vs ds ps→(∀p∈ps,sp' p.block=true)→DataW.TrodAll enc P w' 0 sp' true ts vs ds ps
 | [],[],[],ps,_,h,_=>h
 | t::ts,v::vs,d::ds,ps,ht,⟨p,q,⟨n,h1⟩,h2,e⟩,hs=>by
   subst e
   have hlt:∀x∈p,x.block<w.heap.size:=DataW.trod_lt n t v.cells.toList (d,p) h1
   refine⟨p,q,⟨n, ?_⟩,ow K hsz st (fun t' ht'=>ht t' (List.mem_cons_of_mem _ ht')) h2 (fun x hx=>hs x (List.mem_append_right _ hx)),rfl⟩
   exact DataW.trod_stays K hsz (fun h=>by cases h) (ht t (List.mem_cons_self ..)) h1 (fun x hx=>st.same (hlt x hx)) (fun x hx=>hs x (List.mem_append_left _ hx))
 | [],_::_,_,_,_,h,_=>h.elim
 | [],[],_::_,_,_,h,_=>h.elim
 | _::_,[],_,_,_,h,_=>h.elim
 | _::_,_::_,[],_,_,h,_=>h.elim
end Go.Vc
