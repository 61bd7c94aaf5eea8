import Derived.Test.YtmbkaikdndflbaaGreatDoorCostStatesB2
set_option linter.unusedVariables false
set_option linter.unusedSimpArgs false
set_option linter.unusedSectionVars false
set_option maxRecDepth 100000
namespace Go.Lx
open Go.Vc
mutual
def Nd.nodes:Nd→List Nd
 | .mk k o t n f s a c l q=>.mk k o t n f s a c l q::Nd.iF l
def Nd.iF:List Nd→List Nd
 | []=>[]
 | x::r=>Nd.nodes x++Nd.iF r
end
theorem Nd.rR(t:Nd):t.nodes=t::Nd.iF t.kids:=by cases t;rw[Nd.nodes];rfl
theorem z9:∀t:Nd,t.nodes.map Nd.px=t.px.nodes:=by
 have hL:∀l:List Nd,(∀x∈l,(Nd.nodes x).map Nd.px=x.px.nodes)→(Nd.iF l).map Nd.px=Px.iF (l.map Nd.px):=by
  intro l
  induction l with
  | nil=>intro _;rfl
  | cons x r ih =>
    intro h
    rw[Nd.iF,List.map_append,List.map_cons,Px.iF,h x (List.mem_cons_self ..),ih fun y hy=>h y (List.mem_cons_of_mem _ hy)]
 refine Nd.ind fun t h=>?_
 rw[Nd.rR,Px.rR,List.map_cons,hL t.kids h,Nd.db]
instance decBA:DecidableEq ByteArray:=fun a b=>decidable_of_iff (a.data=b.data) ⟨fun h=>by cases a;cases b;simp_all,fun h=>by rw[h]⟩
def iM(l:List ByteArray)(s:ByteArray):Bool:=l.any fun y=>decide (y=s)
def Px.Fit(x:Px):Prop:=(0≤x.kind∧x.kind≤255)∧(0≤x.oper∧x.oper≤255)∧(0≤x.cO∧x.cO≤255)∧(-9223372036854775808≤x.n∧x.n≤9223372036854775807)∧(0≤x.field∧x.field≤255)∧(-9223372036854775808≤x.pos∧x.pos≤9223372036854775807)
def Px.Wf(x:Px):Prop:=∀y∈x.nodes,y.Fit
theorem Wf.nd{t:Nd}(h:t.px.Wf):∀x∈t.nodes,x.px.Fit:=fun x hx=>h _ (by rw[←z9];exact List.mem_map_of_mem hx)
end Go.Lx
namespace Go.Vc
theorem mH{α:Type}:∀(n:Nat) (vs cs:List α),n+vs.length≤cs.length→cj n vs cs=cs.take n++(vs++cs.drop (n+vs.length))
 | 0,[],[],_=>rfl
 | 0,v::vs,[],h=>by simp at h
 | n+1,vs,[],h=>by simp at h
 | n+1,vs,c::cs,h=>by
   rw[cj,mH n vs cs (by simp at h;omega),List.take_succ_cons,List.cons_append,show n+1+vs.length=n+vs.length+1 by omega,List.drop_succ_cons]
 | 0,[],c::cs,_=>by simp[cj]
 | 0,v::vs,c::cs,h=>by
   rw[cj,mH 0 vs cs (by simp at h;omega)]
   simp
theorem vP{α:Type}{n:Nat}{vs cs:List α}(h:n+vs.length≤cs.length):(cj n vs cs).length=cs.length:=by
 rw[mH n vs cs h];simp;omega
theorem Aa{α:Type}{n:Nat}{vs cs:List α}(h:n+vs.length≤cs.length):(cj n vs cs).take (n+vs.length)=cs.take n++vs:=by
 rw[mH n vs cs h,←List.append_assoc]
 have:(cs.take n++vs).length=n+vs.length:=by simp;omega
 rw[←this];exact List.take_left
theorem ji{P:Program}{t e:TypeId}{z by':Nat}{zv:Value}(ht:P.underlying t=some (.slice e))(hi:(P.info? e).map (fun i=>(i.zero,i.size,i.bytes))=some (some zv,z,by')){l c:Int}(h0:0≤l)(hlc:l≤c)(hb:(by':Int)*c≤281474976710656)(hc:c≤9223372036854775807){I:cc}{F:b8} :
  cF P (Instr.makeSlice t (.int .i64 l) (.int .i64 c)) I F fun v I' G=>∃(b:Nat) (cs:List Value),v=.slice (some ⟨b,0,none⟩) l.toNat c.toNat∧cs.length=c.toNat*z∧cs.toArray=madeCells zv.cells (c.toNat*z)∧I'=I∧G=(b,Obj.cells cs.toArray e (0,0))::F:=by
 intro w hw
 cases h:P.info? e with
 | none=>rw[h] at hi;cases hi
 | some i =>
   rw[h] at hi
   simp only[Option.map_some,Option.some.injEq,Prod.mk.injEq] at hi
   have hr:=run_make (P:=P) w t e i zv ht h hi.1 .i64 .i64 l c h0 hlc (by rw[hi.2.2];exact hb) hc
   rw[hi.2.1] at hr
   refine⟨_,_,I,_,hr,cc.le_refl I,hw.alloc _,w.heap.size,(madeCells zv.cells (c.toNat*z)).toList,rfl, ?_,by simp,rfl,by simp⟩
   simp[size_madeCells]
theorem jW(c z:Nat)(a:Option Addr):(if c=Int.toNat 0 then a else Option.map (fun x:Addr=>x.add (Int.toNat 0*z)) a)=a:=by
 split
 ·rfl
 ·cases a with
  | none=>rfl
  | some x=>show some (x.add (0*z))=some x;rw[Nat.zero_mul];rfl
end Go.Vc
namespace Go.Lx
open Go.Vc
theorem kH:∀(t:Nd),t.px.size≤1048576→∀(I:cc) (F:b8),cC I F t→cf P 11 #[t.v] I F (Made 28 true t.px F):=by
 refine Nd.ind fun t ih hs I F ht=>?_
 have hln:=iK hs
 refine iI.vc (fun bx ra rn rc i m I0 F0 I' F'=>0≤i∧i≤t.kids.length∧m=(t.kids.length-i).toNat∧∃(b:Nat) (cs:List Value) (ks:List Nd) (hs:Nat→b8),ra=some ⟨b,0,none⟩∧rn=t.kids.length+2∧rc=t.kids.length+2 ∧
  cs.length=(t.kids.length+2)*8∧cs.take (i.toNat*8)=ks.flatMap Nd.enc∧ks.map Nd.px=(t.kids.take i.toNat).map Nd.px∧(∀(j:Nat) (k:Nd),ks[j]? = some k→oI 28 true k (hs j))∧(ks.length:Int)=i ∧
  F'.Perm ((b,Obj.cells cs.toArray 28 (0,0))::(ir ks.length hs++F))) ?_
 unfold iI.V
 intro b_x b0
 have hw2:IntKind.wrap .i64 ((t.kids.length:Int)+2)=(t.kids.length:Int)+2:=cY (by omega)
 rw[hw2]
 refine cF.mono (ji (e:=28) (z:=8) (by':=72) (zv:=iU.v) (by kernel_rfl) (by kernel_rfl) (by omega) (Int.le_refl _) (by omega) (by omega)) fun v I1 G hI1 ⟨b,cs,hv,hcl,_,hI,hG⟩=>?_
 subst hG
 have htn:((t.kids.length:Int)+2).toNat=t.kids.length+2:=by omega
 rw[htn] at hv hcl
 refine⟨_,_,_,hv,(b,.cells cs.toArray 28 (0,0))::F,(cT fun z=>by simp only[rS,di,cS,dp];omega),⟨_,by omega,by omega,rfl,b,cs,[],fun _=>[],rfl,rfl,rfl,hcl,by simp,by simp,fun j k h=>by simp at h,rfl,.refl _⟩, ?_⟩
 intro i m I2 F2 hI2 ⟨g0,g1,gm,b',cs,ks,hh,hra,_,_,hcl,htk,hp,hk,hl,hF⟩
 simp only[Option.some.injEq,Addr.mk.injEq,and_true] at hra
 subst hra
 have hle:=cc.le_trans hI1 hI2
 refine⟨fun hlt=>?_,fun hlt=>?_⟩
 ·have hlt:=of_decide_eq_true hlt
  have ht1:cC I2 F2 t:=ht.mono hle fun x hx=>hF.mem_iff.2 (List.mem_cons_of_mem _ (List.mem_append_right _ hx))
  obtain⟨ad,x,had,hx,hrd,hxo,hxm⟩:=(ht1.cons.cons (x:=(rS b_x t)) (t:=t)).kids.at g0 hlt
  refine⟨⟨g0,hlt⟩,ad,had,_,_,_,_,_,_,_,_,_,_,hrd,(ih x hxm (fT hxm hs) I2 _ hxo).mono fun e I3 G hI3 ⟨t',H,he,hpx,hO,hG⟩=>?_⟩
  subst he
  refine⟨_,_,_,_,_,_,_,_,_,_,rfl,H++F2,hG.trans (cT fun z=>by simp only[rS,di,cS,dp];omega),⟨g0,by omega⟩,_,rfl,cs,28,H++(ir ks.length hh++F), ?_, ?_, ?_,(t.kids.length-(i+1)).toNat,by omega, ?_⟩
  all_goals rw[eD]
  ·exact (cT fun z=>by have q0:=j7 hF z;simp only[rS,di,cS,dp] at q0 ⊢;omega)
  ·show i.toNat*8+8≤cs.length
   omega
  ·rw[cY (n:=i+1) (by omega)]
   have hfit:i.toNat*8+t'.enc.length≤cs.length:=by rw[Nd.nq];omega
   refine⟨by omega,by omega,rfl,b,cj (i.toNat*8) t'.enc cs,ks++[t'],fun j=>if j<ks.length then hh j else H,rfl,rfl,rfl,(vP hfit).trans hcl, ?_, ?_,fun j k hj=>?_,by rw[List.length_append];simp;omega, ?_⟩
   ·have:=Aa hfit
    rw[Nd.nq] at this
    rw[show (i+1).toNat*8=i.toNat*8+8 by omega,this,htk,List.flatMap_append];simp
   ·have:=xd (f:=id) hx
    rw[List.map_id,List.map_id] at this
    rw[show (i+1).toNat=i.toNat+1 by omega,this,List.map_append,hp,List.map_singleton,hpx];rfl
   ·show oI _ _ k (if j<ks.length then hh j else H)
    rw[List.getElem?_append] at hj
    split at hj
    ·rename_i hlt';rw[if_pos hlt'];exact hk j k hj
    ·rename_i hge
     have hj':=List.mem_of_getElem? hj
     rw[List.mem_singleton] at hj'
     rw[if_neg hge,hj'];exact hO
   ·rw[List.length_append,List.length_singleton,nw,if_neg (Nat.lt_irrefl _),tI (hs':=hh) fun j hj=>if_pos hj]
    exact (List.Perm.of_eq rfl).trans ((cT fun z=>by simp only[rS,di,cS,dp];omega):List.Perm ((b,Obj.cells (cj (i.toNat*8) t'.enc cs).toArray 28 (0,0))::(H++(ir ks.length hh++F))) _)
 ·have hlt:=of_decide_eq_false hlt
  have hi:i=t.kids.length:=by omega
  have hw1:IntKind.wrap .i64 ((t.kids.length:Int)+1)=(t.kids.length:Int)+1:=cY (by omega)
  rw[hw1]
  refine⟨⟨by omega,by omega⟩,_,rfl,cs,28,ir ks.length hh++F, ?_, ?_, ?_,⟨by omega,by omega⟩,_,rfl,cs.set (t.kids.length*8+7) (.int .i64 (-771)),28,ir ks.length hh++F, ?_, ?_, ?_,⟨by omega,by omega,by omega⟩, ?_⟩
  all_goals (try rw[add_add])
  all_goals (try rw[add_add])
  ·exact hF
  ·simp only[Int.toNat_natCast];omega
  ·simp only[Int.toNat_natCast]
   rw[qV _ _ _ (by omega)]
  ·rw[List.length_set];show ((t.kids.length:Int)+1).toNat*8+7+1≤_;omega
  ·have e1:((t.kids.length:Int)+1).toNat*8+7=(t.kids.length+1)*8+7:=by omega
   dsimp only
   rw[jW,e1,qV _ _ _ (by rw[List.length_set];omega)]
   have hkl:ks.length=t.kids.length:=by omega
   have hi8:i.toNat*8=t.kids.length*8:=by omega
   rw[hi8] at htk
   refine⟨.mk t.kind t.oper t.cO t.n t.field t.name (some ⟨b,0,none⟩) (t.kids.length+2) ks t.pos,_, ?_, ?_,.mk (t:=.mk t.kind t.oper t.cO t.n t.field t.name (some ⟨b,0,none⟩) (t.kids.length+2) ks t.pos)
    (A:=[(b,Obj.cells ((cs.set (t.kids.length*8+7) (.int .i64 (-771))).set ((t.kids.length+1)*8+7) (.int .i64 (-772))).toArray 28 (0,0))]) ⟨rfl,.inr ⟨b,_,rfl,rfl, ?_, ?_, ?_⟩⟩ (fun _=>⟨b,_,_,rfl,rfl, ?_, ?_, ?_⟩) hk, ?_⟩
   ·show Ending.returned (.agg #[.int .u8 t.kind,.int .u8 t.oper,.int .u8 t.cO,.int .i64 t.n,.int .u8 t.field,.string t.name,.slice (some ⟨b,0,none⟩) (t.kids.length-Int.toNat 0) (t.kids.length+2-Int.toNat 0),.int .i64 t.pos])=.returned (.agg #[.int .u8 t.kind,.int .u8 t.oper,.int .u8 t.cO,.int .i64 t.n,.int .u8 t.field,.string t.name,.slice (some ⟨b,0,none⟩) ks.length (t.kids.length+2),.int .i64 t.pos])
    rw[hkl];rfl
   ·rw[Nd.px,Nd.uA,hp,List.take_of_length_le (by omega),←Nd.db,←Nd.cG,←Nd.eP,←Nd.gJ,←Nd.xb,←Nd.gQ,←Nd.fF,←Nd.qX];exact (Px.eta _).symm
   ·simp[hcl];rfl
   ·show ks.length≤t.kids.length+2;omega
   ·show ((cs.set _ _).set _ _).take (ks.length*8)=_
    rw[List.take_set_of_le (by omega),List.take_set_of_le (by omega),hkl];exact htk
   ·show t.kids.length+2=ks.length+2;omega
   ·show ((cs.set _ _).set _ _).toArray[ks.length*8+7]? = _
    rw[hkl]
    simp only[List.getElem?_toArray]
    rw[List.getElem?_set_ne (by omega),List.getElem?_set_self (by omega)]
   ·show ((cs.set _ _).set _ _).toArray[(ks.length+1)*8+7]? = _
    rw[hkl]
    simp only[List.getElem?_toArray]
    rw[List.getElem?_set_self (by rw[List.length_set];omega)]
   ·exact .refl _
theorem oI.inv{E:Nat}{R:Bool}{t:Nd}{H:b8}(h:oI E R t H):∃(A:b8) (hs:Nat→b8),H=A++ir t.kids.length hs∧Acc 8 Nd.enc E t.a t.kids.length t.c t.kids A∧(R=true→E0 t.kids.length t.a t.c A) ∧
  ∀(i:Nat) (k:Nd),t.kids[i]? = some k→oI E R k (hs i):=by
 cases h with
 | mk h1 h2 h3=>exact⟨_,_,rfl,h1,h2,h3⟩
theorem DS:∀(t:Nd),t.px.size≤1048576→∀(H:b8) (I:cc) (F:b8),oI 28 true t H→(∀x,x∈H→x∈F)→cf P 34 #[t.v] I F (dS (.bool true) F):=by
 refine Nd.ind fun t ih hs H I F hO hF=>?_
 have hln:=iK hs
 obtain⟨A,hh,rfl,hA,hR,hk⟩:=hO.inv
 obtain⟨b,cells,e,ha,hAe,hc,hm1,hm2⟩:=hR rfl
 subst hAe
 refine iJ.vc (fun x i m I' F'=>0≤i∧i≤t.kids.length∧m=(t.kids.length-i).toNat∧F'=F) ?_
 unfold iJ.V
 intro b_x
 have hw2:IntKind.wrap .i64 ((t.kids.length:Int)+2)=(t.kids.length:Int)+2:=cY (by omega)
 have hw1:IntKind.wrap .i64 ((t.kids.length:Int)+1)=(t.kids.length:Int)+1:=cY (by omega)
 rw[hw2,hw1,jW]
 have hmem:(b,Obj.cells cells e (0,0))∈(rS b_x t)::F:=List.mem_cons_of_mem _ (hF _ (List.mem_append_left _ (List.mem_cons_self ..)))
 have hrd:∀(k:Nat) (v:Value),cells[k]? = some v→Rd I ((rS b_x t)::F) (⟨b,k,none⟩:Addr) [v]:=fun k v hv=>Rd.qW hmem k fun j hj=>by
  have:j=0:=by simpa using hj
  subst this
  rw[Nat.add_zero,hv];rfl
 refine⟨⟨by omega,by omega,by omega⟩,⟨by omega,by omega⟩,_,ha, -771, ?_,fun h=>absurd h (by decide),fun _=>⟨⟨by omega,by omega⟩,_,ha, -772, ?_,fun h=>absurd h (by decide),fun _=>⟨⟨_,by omega,by omega,rfl,rfl⟩,fun x i m I1 F1 hI ⟨g0,g1,gm,hF1⟩=>⟨fun hlt=>?_,fun hlt=>⟨rfl,hF1⟩⟩⟩⟩⟩
 ·rw[add_add,Int.toNat_natCast];exact hrd _ _ hm1
 ·rw[add_add,show ((t.kids.length:Int)+1).toNat*8+7=(t.kids.length+1)*8+7 by omega];exact hrd _ _ hm2
 ·have hlt:=of_decide_eq_true hlt
  subst hF1
  have ht1:cC I1 ((rS b_x t)::F1) t:=hO.ok fun x hx=>List.mem_cons_of_mem _ (hF x hx)
  obtain⟨ad,x,had,hx,hrd,hxo,hxm⟩:=ht1.kids.at g0 hlt
  refine⟨⟨g0,hlt⟩,ad,had,_,_,_,_,_,_,_,_,_,_,hrd,cf.ret (ih x hxm (fT hxm hs) (hh i.toNat) I1 _ (hk _ _ hx) fun z hz=>List.mem_cons_of_mem _ (hF z (List.mem_append_right _ (pH (by omega) hz)))) fun I2 hI2=>⟨_,rfl,F1,.refl _,fun h=>by (cases h),fun _=>⟨(t.kids.length-(i+1)).toNat,by omega, ?_⟩⟩⟩
  rw[cY (n:=i+1) (by omega)]
  exact⟨by omega,by omega,rfl,rfl⟩
end Go.Lx
namespace Go.Vc
def qB:FrameMode→Value→FrameMode→Prop
 | .returning,v,u=>v=.nilIface∧u=.returning
 | .panicking ({ v:=x,recovered:=false,goexit:=false }::older),v,u=>v=x∧u=.panicking ({ v:=x,recovered:=true }::older)
 | _,_,_=>False
theorem DT:qB .returning .nilIface .returning:=⟨rfl,rfl⟩
theorem DU(v:Value):qB (.panicking [{ v:=v,recovered:=false }]) v (.panicking [{ v:=v,recovered:=true }]):=⟨rfl,rfl⟩
def HL(o:Oper):Bool:=match o.op,o.guard with
 | .call { callee:=.builtin .recover,args:=_,argTypes:=_ },none=>true
 | _,_=>false
theorem qB.at{c:Frame}{cs:List Frame}{u u1:FrameMode}{v:Value}(hu:c.mode=u)(h:qB u v u1) :
  recoverD (c::cs)=some (v,{ c with mode:=u1 }::cs)∨(recoverD (c::cs)=none∧v=.nilIface∧{ c with mode:=u1 }::cs=c::cs):=by
 subst hu
 unfold qB at h
 split at h
 ·rename_i hm
  obtain⟨h1,h2⟩:=h
  refine .inr ⟨by simp[recoverD,hm],h1, ?_⟩
  subst h2
  rw[←hm]
 ·rename_i hm
  obtain⟨h1,h2⟩:=h
  subst h1 h2
  exact .inl (by simp[recoverD,hm])
 ·exact h.elim
theorem DV{P:Program}{id:Nat}{ops:Array Oper}{o:Oper}{r:List Oper}{Q:Exit→Act→List Frame→World→Prop}{a:Act}{cs cs':List Frame}{w:World}{v:Value}(hl:ops.toList=o::r)(ho:HL o=true)
  (hrec:recoverD cs=some (v,cs')∨(recoverD cs=none∧v=.nilIface∧cs'=cs)) (h:wpListIn Fence.wide 0 P ops (fun e a' w'=>Q e a' cs' w') r (a.put o.dst v) w) :
  (Code.region id ops false).wpSIn Fence.wide 0 P Q a cs w:=by
 intro b k hb hr hF hroom
 have hsz:ops.size=r.length+1:=by rw[←Array.length_toList,hl];rfl
 have h0:ops[0]? = some o:=by rw[←Array.getElem?_toList,hl];rfl
 have hrest:∀j,r[j]? = ops[1+j]?:=fun j=>by rw[←Array.getElem?_toList,hl,Nat.add_comm];rfl
 rw[←wpOpsIn_eq_wpListIn r 1 hrest] at h
 have hex:∀ci,o.op=.call ci→True:=fun _ _=>trivial
 have hop:∃ci,o.op=.call ci∧ci.callee=.builtin .recover∧o.guard=none:=by
  unfold HL at ho
  split at ho
  ·rename_i h1 h2;exact⟨_,h1,rfl,h2⟩
  ·cases ho
 obtain⟨ci,hci,hcal,hgd⟩:=hop
 have hw:Region.wanted o (yielded ops a.tmps)=true:=by unfold Region.wanted;rw[hgd]
 have hrun:(execOp a.eval o).run P w=.ok .recover w:=by
  obtain⟨cal,args,tys⟩:=ci
  simp only at hcal
  subst hcal
  simp only[execOp,hci]
  rfl
 have hlen:cs'.length=cs.length:=by
  rcases hrec with hrec | ⟨_,_,rfl⟩
  ·exact recoverD_length hrec
  ·rfl
 obtain⟨e,a',w',q,harr⟩:=wp_opsIn _ _ _ h b k cs' (hr.trans rfl) hF (hlen▸hroom)
 refine⟨e,a',cs',w',hlen,q,.of_steps (.one (fenced_calm hF hroom rfl) stepR_region) ?_⟩
 rw[List.range_eq_range',hsz,List.range'_succ]
 have hg:=stepGR_op (P:=P) (b:=b) (k:=k) (cs:=cs) (w:=w) (rest:=List.range' (0+1) r.length) h0 hw
 rw[hr,Oper.semAt_none] at hg
 have hfin:∀v,(b.atR a (.inRegion ops (0::List.range' (0+1) r.length)::k)).finish v=b.atR (a.put o.dst v) (.inRegion ops (List.range' (0+1) r.length)::k):=by
  intro v;rw[Frame.finish_atR,h0];rfl
 have hk:(b.atR a (.inRegion ops (0::List.range' (0+1) r.length)::k)).kind=.deferred:=hb
 have htr:=tryRecover_deferred hk cs
 refine .of_steps (.one (fenced_oper hF hroom h0 fun f _=>trivial) (step_lone_go ?_)) harr
 rw[hg,←hfin]
 simp only[Frame.atR,hr] at htr ⊢
 rcases hrec with hrec | ⟨hrec,rfl,rfl⟩
 ·simp[stepG.apply,hrun,htr,hrec]
 ·simp[stepG.apply,hrun,htr,hrec]
def Ab(P:Program)(rs:List ResultVar)(keep:List Nat)(Q:Ending→cc→b8→Prop)(u:Option (List PanicEntry))(σ:S)(I:cc)(F:b8):Prop:=match σ.df with
 | []=>match u with
   | none=>(match qT P σ rs with
     | some vs=>Q (.returned (Bu vs)) I (cL (pick σ.own keep)++F)
     | none=>False)
   | some ch=>Q (.panicked ch) I (cL (pick σ.own keep)++F)
 | _=>False
def BN(P:Program)(rs:List ResultVar)(keep:List Nat)(Q:Ending→cc→b8→Prop):Kt
 | .normal,σ,I,F=>Ab P rs keep Q none σ I F
 | .ret,σ,I,F=>Ab P rs keep Q none σ I F
 | .panic ch,σ,I,F=>Ab P rs keep Q (some ch) σ I F
 | _,_,_,_=>False
def HM(P:Program)(A:qj)(v:Value)(rs:List ResultVar)(keep:List Nat)(Q:Ending→cc→b8→Prop)(σ:S)(I:cc)(F:b8):Code→Prop
 | .seq (.region id ops false) rest=>match ops.toList with
   | o::r=>cond (HL o) (yh P A id ops r 1 (σ.put o.dst (some (.a (.v v)))) I F (W P A none rest 2 (BN P rs keep Q)) (fun ch=>BN P rs keep Q (.panic ch))) False
   | []=>False
 | _=>False
section
variable {P:Program} {A:qj}
theorem IV{fn:Func}{keep:List Nat}(hk:Gb 0 keep=true){Q:Ending→cc→b8→Prop}{c0:Frame}{cs:List Frame}{u1:FrameMode}{R:Ending→FrameMode→World→Prop}{I0:cc}
  (hR:∀e I' F' w',cc.le I0 I'→Sat I' F' w'→Q e I' F'→R e u1 w') {e:Exit} {σ:S} {I:cc} {F:b8} {a:Act} {w:World} (hr:Rel σ I F a w) (hl:cc.le I0 I)
  (h:BN P fn.results.toList keep Q e σ I F):bodyPostS P fn c0 cs R e a ({ c0 with mode:=u1 }::cs) w:=by
 have hsub:Sat I (cL (pick σ.own keep)++F) w:=by
  have h5:=vx keep 0 σ.own hk
  rw[List.drop_zero] at h5
  exact hr.sat.sub ((h5.map _).append (List.Sublist.refl F))
 have key:∀u,Ab P fn.results.toList keep Q u σ I F→a.defers=[]∧match u with
   | none=>∃v,(results fn a.tmps).run P w=.ok v w∧Q (.returned v) I (cL (pick σ.own keep)++F)
   | some ch=>Q (.panicked ch) I (cL (pick σ.own keep)++F):=by
  intro u h
  unfold Ab at h
  split at h
  ·rename_i hd
   refine⟨by rw[hr.defers,hd];rfl, ?_⟩
   cases u with
   | none =>
     simp only at h ⊢
     split at h
     ·rename_i vs hvs;exact⟨_,tF hr hvs,h⟩
     ·exact h.elim
   | some ch=>exact h
  ·exact h.elim
 cases e with
 | normal=>obtain⟨h1,v,h2,h3⟩:=key none h;exact⟨h1,u1,rfl,v,h2,hR _ _ _ _ hl hsub h3⟩
 | ret=>obtain⟨h1,v,h2,h3⟩:=key none h;exact⟨h1,u1,rfl,v,h2,hR _ _ _ _ hl hsub h3⟩
 | panic ch=>obtain⟨h1,h2⟩:=key (some ch) h;exact⟨h1,u1,rfl,hR _ _ _ _ hl hsub h2⟩
 | exit id=>exact h.elim
 | goto l=>exact h.elim
 | outgrown=>exact h.elim
theorem DW(hP:∀f,A.good f=true→dz P f){f:FuncId}{fn:Func}{c:Code}(hf:P.funcs[f]? = some fn)(hb:fn.body=some c){args:List AV}{own:List dr}
  {I:cc} {F:b8} {keep:List Nat} {Q:Ending→cc→b8→Prop} (hk:Gb 0 keep=true) (hwa:∀x∈args,AV.wf own x) (hwo:∀b∈own,∀x∈b.cells,AV.wf own x) {u u1:FrameMode} {v:Value} (hrec:qB u v u1)
  (h:HM P A v fn.results.toList keep Q ⟨lz args fn.ntmps,own,[]⟩ I F c) {vs:List Value} (hv:vs=args.map AV.g):w9 P f vs u I (cL own++F) fun e u' I' G=>u'=u1∧Q e I' G:=by
 subst hv
 intro w hw
 unfold HM at h
 split at h
 ·rename_i id ops rest
  split at h
  ·rename_i o r hl
   obtain⟨ho,h⟩:=cE h
   refine callsDIn_of_wpSIn hf hb trivial fun c0 cs hu=>?_
   refine wpSIn_seq (DV hl ho (qB.at hu hrec) ?_)
   have hrel:Rel ⟨lz args fn.ntmps,own,[]⟩ I F { tmps:=(args.map AV.g).toArray++Array.replicate (fn.ntmps-(args.map AV.g).toArray.size) undef,defers:=[] } w:=by
    refine⟨by simp[lz], ?_,rfl, ?_, ?_,hw⟩
    ·intro t av ht
     simp only[lz,List.getElem?_append] at ht
     split at ht
     ·rename_i hlt
      simp only[List.getElem?_map] at ht
      cases ha:args[t]? with
      | none=>rw[ha] at ht;simp at ht
      | some x =>
        rw[ha] at ht
        simp only[Option.map_some,Option.some.injEq] at ht
        subst ht
        simp at hlt
        rw[Array.getElem?_append_left (by simpa using hlt)]
        simp[ha]
     ·rw[List.getElem?_replicate] at ht;split at ht<;>cases ht
    ·intro t av ht
     simp only[lz,List.getElem?_append] at ht
     split at ht
     ·simp only[List.getElem?_map] at ht
      cases ha:args[t]? with
      | none=>rw[ha] at ht;simp at ht
      | some x =>
        rw[ha] at ht
        simp only[Option.map_some,Option.some.injEq] at ht
        subst ht
        exact hwa _ (List.mem_of_getElem? ha)
     ·rw[List.getElem?_replicate] at ht;split at ht<;>cases ht
    ·exact fun i b hb' x hx=>hwo b (List.mem_of_getElem? hb') x hx
   have hrel2:=hrel.put o.dst (av:=.a (.v v)) (v:=v) rfl trivial
   refine kQ (ro:=none) hP r 1 _ I F _ w (.inl rfl) h hrel2 ?_ ?_
   ·intro σ' I' F' a' w' h1 h2 h3 _
    refine wpSIn_of_wpIn rfl (wpIn_mono (CR hP rest 2 _ none none σ' I' F' a' w' rfl h3 h1) ?_)
    intro e a2 w2 ⟨σ2,I2,F2,g1,g2,g3,_⟩
    exact IV (fn:=fn) hk (fun e I3 F3 w3 hl3 hs3 hq3=>⟨I3,F3,hl3,hs3,rfl,hq3⟩) g1 (cc.le_trans h2 g2) g3
   ·intro ch σ' I' F' a' w' h1 h2 h3 _
    show bodyPostS P fn c0 cs (fun e u' w'=>∃I' F',I.le I'∧Sat I' F' w'∧u'=u1∧Q e I' F') (.panic ch) a' _ w'
    exact IV (fn:=fn) hk (e:=.panic ch) (fun e I3 F3 w3 hl3 hs3 hq3=>⟨I3,F3,hl3,hs3,rfl,hq3⟩) h1 h2 h3
  ·exact h.elim
 ·exact h.elim
theorem xL{f:FuncId}{fn:Func}{args:List AV}{own:List dr}{I:cc}{F:b8}{keep:List Nat}{Q:cd}{V:Prop}{u u1:FrameMode}{v:Value}(gd:List Nat)(hf:P.funcs[f]? = some fn)(hrec:qB u v u1)(h:V)
  (e:HM P A v fn.results.toList keep Q ⟨lz args fn.ntmps,own,[]⟩ I F (fn.body.getD .skip)=V) (hg:A.good=rN gd) (hG:gd.all (vy P)=true) (hb:fn.body=some (fn.body.getD .skip)) (hk:Gb 0 keep=true)
  (hwa:∀x∈args,AV.wf own x) (hwo:∀b∈own,∀x∈b.cells,AV.wf own x) {vs:List Value} (hv:vs=args.map AV.g):w9 P f vs u I (cL own++F) fun e u' I' G=>u'=u1∧Q e I' G :=
 DW (fun f hf'=>zO gd hG f (by rw[←hg];exact hf')) hf hb hk hwa hwo hrec (by rw[←e] at h;exact h) hv
end
end Go.Vc
namespace Go.Lx
open Go.Vc Go.Proofs.Tryz
def E2:List (Nat×List Sh):=[]
def ic.V(a:Nat)(c:Int)(I:cc)(F:b8)(Q:cd)  : Prop:=∀b:Nat,Q (.returned (.tuple #[])) I ((a,Obj.cells #[.int .i64 c] 47 (0,0))::F)
theorem ic.vc{b:Nat}{c:Int}{u u1:FrameMode}(d:qB u (Value.nilIface) u1){I:cc}{F:b8}{Q:cd}  (h:ic.V b c I F Q):w9 P 96 [.pointer (some ⟨b,0,none⟩)] u I ((b,Obj.cells #[.int .i64 c] 47 (0,0))::F) (fun e u' I' G=>u'=u1∧Q e I' G) :=
 xL (A:=(an [] [] E2)) (args:=[.a (.p 0 b 0)]) (own:=[⟨b,47,false,[.a (.v (.int .i64 c))]⟩]) (keep:=[0]) [] func96 d h (by kernel_rfl) (by kernel_rfl) (by kernel_rfl) (by kernel_rfl) (by kernel_rfl) (by simp[AV.wf,At.wf]) (by simp[AV.wf,At.wf]) rfl
def ie.V(a:Nat)(c b:Int)(I:cc)(F:b8)(Q:cd)  : Prop:=∀d:Nat,Q (.returned (.tuple #[])) I ((a,Obj.cells #[.int .i64 b] 47 (0,0))::F)
theorem ie.vc{b:Nat}{c d:Int}{u u1:FrameMode}(f:qB u (Value.iface 155 (.agg #[.int .i64 d])) u1){I:cc}{F:b8}{Q:cd}  (h:ie.V b c d I F Q):w9 P 96 [.pointer (some ⟨b,0,none⟩)] u I ((b,Obj.cells #[.int .i64 c] 47 (0,0))::F) (fun e u' I' G=>u'=u1∧Q e I' G) :=
 xL (A:=(an [] [] E2)) (args:=[.a (.p 0 b 0)]) (own:=[⟨b,47,false,[.a (.v (.int .i64 c))]⟩]) (keep:=[0]) [] func96 f h (by kernel_rfl) (by kernel_rfl) (by kernel_rfl) (by kernel_rfl) (by kernel_rfl) (by simp[AV.wf,At.wf]) (by simp[AV.wf,At.wf]) rfl
end Go.Lx
namespace Go.Vc
theorem sN.fn{P:Program}{f:FuncId}{fr cap:Array Value}{args:List Value}{I:cc}{F:b8}{Q:Ending→cc→b8→Prop}(he:dz P f){vs:Array Value}(hv:fr++args.toArray++cap=vs)(h:cf P f vs I F Q):sN P (.func (.func f) fr cap) args I F Q :=
 fun w hw=>.inl ⟨f,fr,cap,rfl,he,by rw[hv];exact h w hw⟩
theorem w9.mono{P:Program}{f:FuncId}{args:List Value}{u:FrameMode}{I:cc}{F:b8}{Q Q':Ending→FrameMode→cc→b8→Prop}(h:w9 P f args u I F Q)(k:∀e u' I' G,cc.le I I'→Q e u' I' G→Q' e u' I' G):w9 P f args u I F Q' :=
 fun w hw=>(h w hw).mono fun e u' w' ⟨I',F',h1,h2,h3⟩=>⟨I',F',h1,h2,k _ _ _ _ h1 h3⟩
end Go.Vc
namespace Go.Lx
open Go.Vc
abbrev rX(n:Int):Ending:=if n=0 then .returned (.tuple #[]) else .panicked (nH n)
theorem tN{look:Fn}{lf lc:Array Value}{n:Int}{I:cc}{F:b8}(h:∀b:Nat,sN P (.func look lf lc) [] I ((b,.cells #[.int .i64 0] 47 (0,0))::F) fun e I' G=>e=rX n∧G=(b,.cells #[.int .i64 0] 47 (0,0))::F) :
  cf P 57 #[.func look lf lc] I F (dS (.int .i64 n) F):=by
 refine lF.vc ?_
 unfold lF.V
 intro b_e
 refine (h b_e).mono fun e I1 G hI1 ⟨he,hG⟩=>?_
 subst hG
 by_cases hn:n=0
 ·subst hn
  refine .inl ⟨he,F,.refl _,(ic.vc DT (Q:=fun e I' G=>e=.returned (.tuple #[])∧G=(b_e,.cells #[.int .i64 0] 47 (0,0))::F) fun b_x=>⟨rfl,rfl⟩).mono fun e u I2 G _ ⟨hu,he,hG⟩=>?_⟩
  subst hu
  exact⟨_,he,0,F,by rw[hG],.inl ⟨rfl,rfl,rfl⟩⟩
 ·rw[rX,if_neg hn] at he
  refine .inr ⟨_,he,F,.refl _,(ie.vc (DU _) (Q:=fun e I' G=>e=.returned (.tuple #[])∧G=(b_e,.cells #[.int .i64 n] 47 (0,0))::F) fun b_x=>⟨rfl,rfl⟩).mono fun e u I2 G _ ⟨hu,he,hG⟩=>?_⟩
  subst hu
  exact⟨_,he,n,F,by rw[hG],.inl ⟨rfl,rfl,rfl⟩⟩
theorem BO:dz P 58:=zO [58] (by kernel_rfl) _ (by decide)
theorem IW{b:Nat}{t:Nd}{I:cc}{G:b8}(h:(rS b t)∈G):Rd I G (⟨b,0,none⟩:Addr) t.enc:=Rd.qW h 0 fun j hj=>by simp
theorem uj(t:Nd)(hs:t.px.size≤4194304)(I:cc)(F:b8)(ht:cC I F t):cf P 31 #[t.v] I F (dS (.int .i64 t.px.dj) F):=by
 refine iL.vc ?_
 unfold iL.V
 intro b_n
 refine (tN (n:=t.px.dj) fun b=>sN.fn BO (by simp) (z8 hs (ht.cons.cons) (IW (List.mem_cons_of_mem _ (List.mem_cons_self ..))))).mono fun e I1 G hI1 ⟨he,hG⟩=>?_
 subst hG
 exact⟨_,he,_,_,_,_,_,_,_,_,_,_,F,.refl _,rfl,rfl⟩
end Go.Lx
namespace Go.Vc
open Go.MapKept
def kY{κ β:Type}(key:κ→Value)(val:β→Value)(g:κ→Option β)(es:Array MapEntry)(clock:Nat):Prop :=
 Stamped es clock∧(∀x∈es.toList,∃k b,x.key=key k∧x.val=val b∧g k=some b)∧(∀k b,g k=some b→∃x∈es.toList,x.key=key k)
theorem kY.nil{κ β:Type}{key:κ→Value}{val:β→Value}(c:Nat):kY key val (fun _=>none) #[] c:=⟨stamped_empty c,by simp,fun k b h=>by cases h⟩
theorem kY.congr{κ β:Type}{key:κ→Value}{val:β→Value}{g g':κ→Option β}{es:Array MapEntry}{clock:Nat}(h:kY key val g es clock)(e:∀k,g k=g' k):kY key val g' es clock:=by
 rw[←funext e];exact h
theorem vQ{α:Type}:∀{l:List α} {i j:Nat} {x:α},l.Nodup→i<j→l[i]? = some x→l[j]? = some x→False
 | [],_,_,_,_,_,h,_=>by simp at h
 | y::l,0,j+1,x,hn,_,h1,h2=>by
   simp only[List.getElem?_cons_zero,Option.some.injEq] at h1
   subst h1
   exact (List.nodup_cons.1 hn).1 (List.mem_of_getElem? (by simpa using h2))
 | y::l,i+1,j+1,x,hn,hl,h1,h2=>vQ (l:=l) (x:=x) (i:=i) (j:=j) (List.nodup_cons.1 hn).2 (by omega) (by simpa using h1) (by simpa using h2)
def re{κ β:Type}[DecidableEq κ](g:κ→Option β)(k:κ)(b:β):κ→Option β:=fun j=>if j=k then some b else g j
section
variable {P:Program} {κ β:Type} {d:TypeDesc} {key:κ→Value} {val:β→Value} {g:κ→Option β} {es:Array MapEntry} {clock:Nat} {t kt et:TypeId} {I:cc} {F:b8} {r:Nat} {k:κ} {z:Value}
theorem kY.find(hk:∀k,IsKey d (key k))(hi:∀k k',key k=key k'→k=k')(h:kY key val g es clock)(k:κ) :
  (Instr.findNow d (key k) es.toList 0=some none∧(∀x∈es.toList,x.key≠key k)∧g k=none) ∨
  ∃j e b,Instr.findNow d (key k) es.toList 0=some (some (j,val b))∧es[j]? = some e∧e.key=key k∧e.val=val b∧g k=some b:=by
 obtain⟨hs,h1,h2⟩:=h
 have hks:∀x∈es.toList,IsKey d x.key:=fun x hx=>by obtain⟨k',b,e,_⟩:=h1 x hx;rw[e];exact hk k'
 rcases findNow_spec (hk k) es.toList 0 hks with ⟨g1,g2⟩ | ⟨j,e,g1,g2,g3⟩
 ·refine .inl ⟨g1,g2, ?_⟩
  cases hg:g k with
  | none=>rfl
  | some b=>obtain⟨x,hx,e⟩:=h2 k b hg;exact absurd e (g2 x hx)
 ·obtain⟨k',b,e1,e2,e3⟩:=h1 e (List.mem_of_getElem? g2)
  obtain rfl:k'=k:=hi _ _ (e1.symm.trans g3)
  refine .inr ⟨j,e,b, ?_,by simpa using g2,g3,e2,e3⟩
  rw[g1,e2,Nat.zero_add]
theorem Ac{et:TypeId}{z:Value}(hz:(P.info? et).map (·.zero)=some (some z))(w:World):(zeroValue et).run P w=.ok z w:=by
 cases h:P.info? et with
 | none=>rw[h] at hz;cases hz
 | some i =>
   rw[h] at hz
   simp only[Option.map_some,Option.some.injEq] at hz
   simp[zeroValue,typeInfo,h,hz,Result.andThen]
theorem E3(hm:I r=some (.map es clock)∨(r,Obj.map es clock)∈F){w:World}(hw:Sat I F w):w.heap[r]? = some (.map es clock):=hm.elim (hw.imm _ _) (hw.own _ _)
theorem tb(ht:P.underlying t=some (.map kt et))(hd:P.underlying kt=some d)(hk:∀k,IsKey d (key k))(hi:∀k k',key k=key k'→k=k')(hz:(P.info? et).map (·.zero)=some (some z))
  (h:kY key val g es clock) (hm:I r=some (.map es clock)∨(r,Obj.map es clock)∈F) (k:κ) :
  cF P (Instr.lookup t (.map (some r)) (key k) true) I F fun v I' G=>v=.tuple #[(g k).elim z val,.bool (g k).isSome]∧I'=I∧G=F:=by
 intro w hw
 have hb:=E3 hm hw
 rcases h.find hk hi k with ⟨h1,_,hg⟩ | ⟨j,e,b,h1,_,_,_,hg⟩
 ·refine⟨_,w,I,F, ?_,cc.le_refl I,hw,rfl,rfl,rfl⟩
  simp[Instr.lookup,run_underlying ht,MapKept.run_getObj_map hb,run_checkKey hd (hk k),run_findKey hd h1,Ac hz,Result.andThen,hg]
 ·refine⟨_,w,I,F, ?_,cc.le_refl I,hw,rfl,rfl,rfl⟩
  simp[Instr.lookup,run_underlying ht,MapKept.run_getObj_map hb,run_checkKey hd (hk k),run_findKey hd h1,Result.andThen,hg]
theorem rf(ht:P.underlying t=some (.map kt et))(hd:P.underlying kt=some d)(hk:∀k,IsKey d (key k))(hi:∀k k',key k=key k'→k=k')(hz:(P.info? et).map (·.zero)=some (some z))
  (h:kY key val g es clock) (hm:I r=some (.map es clock)∨(r,Obj.map es clock)∈F) (k:κ) :
  cF P (Instr.lookup t (.map (some r)) (key k) false) I F fun v I' G=>v=(g k).elim z val∧I'=I∧G=F:=by
 intro w hw
 have hb:=E3 hm hw
 rcases h.find hk hi k with ⟨h1,_,hg⟩ | ⟨j,e,b,h1,_,_,_,hg⟩
 ·refine⟨_,w,I,F, ?_,cc.le_refl I,hw,rfl,rfl,rfl⟩
  simp[Instr.lookup,run_underlying ht,MapKept.run_getObj_map hb,run_checkKey hd (hk k),run_findKey hd h1,Ac hz,Result.andThen,hg]
 ·refine⟨_,w,I,F, ?_,cc.le_refl I,hw,rfl,rfl,rfl⟩
  simp[Instr.lookup,run_underlying ht,MapKept.run_getObj_map hb,run_checkKey hd (hk k),run_findKey hd h1,Result.andThen,hg]
theorem kf:cF P (Instr.makeMap t none) I F fun v I' G=>∃b,v=.map (some b)∧I'=I∧G=(b,Obj.map #[] 0)::F:=by
 intro w hw
 exact⟨_,_,I,_,rfl,cc.le_refl I,hw.alloc _,_,rfl,rfl,rfl⟩
variable [DecidableEq κ]
theorem kY.push(hi:∀k k',key k=key k'→k=k')(h:kY key val g es clock)(hno:∀x∈es.toList,x.key≠key k)(b:β):kY key val (re g k b) (es.push { key:=key k,val:=val b,born:=clock }) (clock+1):=by
 obtain⟨hs,h1,h2⟩:=h
 refine⟨stamped_push hs hno,fun x hx=>?_,fun k' b' hg=>?_⟩
 ·simp only[Array.toList_push,List.mem_append,List.mem_singleton] at hx
  rcases hx with hx | rfl
  ·obtain⟨k',b',e1,e2,e3⟩:=h1 x hx
   refine⟨k',b',e1,e2, ?_⟩
   unfold re;rw[if_neg]
   ·exact e3
   ·intro e;subst e;exact hno x hx e1
  ·exact⟨k,b,rfl,rfl,if_pos rfl⟩
 ·unfold re at hg
  by_cases e:k'=k
  ·subst e;exact⟨_,by simp;exact .inr rfl,rfl⟩
  ·rw[if_neg e] at hg
   obtain⟨x,hx,e⟩:=h2 k' b' hg
   exact⟨x,by simp only[Array.toList_push,List.mem_append];exact .inl hx,e⟩
theorem kY.modify(hi:∀k k',key k=key k'→k=k')(h:kY key val g es clock){j:Nat}{e:MapEntry}(hj:es[j]? = some e)(he:e.key=key k)(b:β){f:MapEntry→MapEntry}(hf:∀x,(f x).born=x.born)
  (hfk:∀x,x.key=key k→(f x).key=key k) (hv:∀x,(f x).val=val b):kY key val (re g k b) (es.modify j f) clock:=by
 obtain⟨hs,h1,h2⟩:=h
 have hkey:∀e',es[j]? = some e'→(f e').key=e'.key:=fun e' he'=>by rw[hj] at he';cases he';rw[hfk _ he,he]
 refine⟨stamped_modify hs _ _ (fun x _=>hf x) fun x _ hx=>hkey x hx,fun x hx=>?_,fun k' b' hg=>?_⟩
 ·obtain⟨i,hx'⟩:=List.mem_iff_getElem?.1 hx
  simp only[Array.getElem?_toList,Array.getElem?_modify] at hx'
  by_cases hij:j=i
  ·subst hij
   rw[if_pos rfl,hj] at hx'
   simp only[Option.map_some,Option.some.injEq] at hx'
   subst hx'
   exact⟨k,b,hfk _ he,hv _,if_pos rfl⟩
  ·rw[if_neg hij] at hx'
   obtain⟨k',b',e1,e2,e3⟩:=h1 x (List.mem_of_getElem? (by simpa using hx'))
   refine⟨k',b',e1,e2, ?_⟩
   unfold re;rw[if_neg]
   ·exact e3
   ·intro ek;subst ek
    have hnd:=hs.2.2
    have:i<es.size:=(Array.getElem?_eq_some_iff.1 hx').1
    have:j<es.size:=(Array.getElem?_eq_some_iff.1 hj).1
    rcases Nat.lt_or_gt_of_ne hij with hlt | hlt
    ·exact vQ hnd hlt (by simp[hj];exact he) (by simp[hx'];exact e1)
    ·exact vQ hnd hlt (by simp[hx'];exact e1) (by simp[hj];exact he)
 ·have hk':key k'∈es.toList.map (·.key):=by
   by_cases e':k'=k
   ·subst e';exact List.mem_map.2 ⟨e,List.mem_of_getElem? (by simpa using hj),he⟩
   ·unfold re at hg
    rw[if_neg e'] at hg
    obtain⟨x,hx,ex⟩:=h2 k' b' hg
    exact List.mem_map.2 ⟨x,hx,ex⟩
  rw[←modify_keys j f hkey] at hk'
  obtain⟨x,hx,ex⟩:=List.mem_map.1 hk'
  exact⟨x,hx,ex⟩
theorem tP(ht:P.underlying t=some (.map kt et))(hd:P.underlying kt=some d)(hk:∀k,IsKey d (key k))(hi:∀k k',key k=key k'→k=k')(h:kY key val g es clock)(k:κ)(b:β) :
  mu P (Instr.mapUpdate t (.map (some r)) (key k) (val b)) I ((r,Obj.map es clock)::F) fun I' G=>I'=I∧∃es' c',G=(r,Obj.map es' c')::F∧kY key val (re g k b) es' c':=by
 intro w hw
 have hb:w.heap[r]? = some (.map es clock):=hw.own _ _ (List.mem_cons_self ..)
 rcases h.find hk hi k with ⟨h1,h2,hg⟩ | ⟨j,e,b',h1,h2,h3,h4,hg⟩
 ·refine⟨_,I,_, ?_,cc.le_refl I,hw.set (w':={ w with heap:=w.heap.setIfInBounds r (.map (es.push { key:=key k,val:=val b,born:=clock }) (clock+1)) }) rfl ⟨rfl,rfl⟩,rfl,_,_,rfl,h.push hi h2 b⟩
  simp[Instr.mapUpdate,run_underlying ht,MapKept.run_getObj_map hb,run_checkKey hd (hk k),run_findKey hd h1,run_setObj_map _ hb,Result.andThen]
 ·refine⟨_,I,_, ?_,cc.le_refl I,hw.set (w':={ w with heap:=w.heap.setIfInBounds r (.map (es.modify j fun e=>{ e with key:=key k,val:=val b }) clock) }) rfl ⟨rfl,rfl⟩,rfl,_,_,rfl,h.modify hi h2 h3 b (fun _=>rfl) (fun _ _=>rfl) (fun _=>rfl)⟩
  simp[Instr.mapUpdate,run_underlying ht,MapKept.run_getObj_map hb,run_checkKey hd (hk k),run_findKey hd h1,h2,h3,run_keyThatStays (hk k),run_setObj_map _ hb,Result.andThen]
end
end Go.Vc
namespace Go.Vc
theorem mu.perm{P:Program}{s:Sem Unit}{I:cc}{F G:b8}{Q:cc→b8→Prop}(h:mu P s I F Q)(p:G.Perm F):mu P s I G Q:=fun w hw=>h w (hw.perm p)
theorem mu.mono{P:Program}{s:Sem Unit}{I:cc}{F:b8}{Q Q':cc→b8→Prop}(h:mu P s I F Q)(k:∀I' F',cc.le I I'→Q I' F'→Q' I' F'):mu P s I F Q' :=
 fun w hw=>let ⟨w',I',F',hr,hl,hs,hq⟩:=h w hw;⟨w',I',F',hr,hl,hs,k _ _ hl hq⟩
theorem lG:∀s:ByteArray,MapKept.IsKey .string (Value.string s):=fun _=>trivial
theorem str_inj:∀s t:ByteArray,Value.string s=Value.string t→s=t:=fun _ _ h=>by cases h;rfl
end Go.Vc
namespace Go.Lx
open Go.Vc
def A7(l:List ByteArray)(k:Nat)(g:ByteArray→Option Int):Prop:=∀s,(iM l s=true→∃m,g s=some m∧1≤m∧m≤k)∧(iM l s=false→g s=none)
theorem A7.nil:A7 [] 0 fun _=>none:=fun s=>⟨fun h=>by simp[iM] at h,fun _=>rfl⟩
theorem A7.mono{l:List ByteArray}{k:Nat}{g:ByteArray→Option Int}(h:A7 l k g):A7 l (k+1) g:=fun s=>⟨fun hs=>let ⟨m,h1,h2,h3⟩:=(h s).1 hs;⟨m,h1,h2,by omega⟩,(h s).2⟩
theorem A7.new{l:List ByteArray}{k:Nat}{g:ByteArray→Option Int}(h:A7 l k g){s:ByteArray}:A7 (l++[s]) (k+1) (re g s 1):=fun t=>by
 have e:iM (l++[s]) t=(iM l t||decide (s=t)):=by unfold iM;rw[List.any_append];simp
 rw[e]
 unfold re
 by_cases hts:t=s
 ·subst hts;rw[if_pos rfl];exact⟨fun _=>⟨1,rfl,by omega,by omega⟩,fun h=>by simp at h⟩
 ·rw[if_neg hts]
  have:decide (s=t)=false:=decide_eq_false fun e=>hts e.symm
  rw[this,Bool.or_false];exact h.mono t
theorem A7.more{l:List ByteArray}{k:Nat}{g:ByteArray→Option Int}(h:A7 l k g){s:ByteArray}{m:Int}(hs:iM l s=true)(h1:1≤m)(h2:m≤k):A7 l (k+1) (re g s (m+1)):=fun t=>by
 unfold re
 by_cases hts:t=s
 ·subst hts;rw[if_pos rfl];exact⟨fun _=>⟨_,rfl,by omega,by omega⟩,fun h=>by rw[hs] at h;cases h⟩
 ·rw[if_neg hts];exact h.mono t
structure dh where
 name:ByteArray
 cO:Int
 init:Px
 pos:Int
structure cx where
 name:ByteArray
 pos:Int
structure dA where
 kind:Int
 order:Int
 name:ByteArray
 side:Px
 qty:Px
 price:Px
 value:Px
 pos:Int
structure cD where
 when:Px
 dos:List dA
 pos:Int
structure cq where
 name:ByteArray
 rules:List cD
 pos:Int
structure cu where
 name:ByteArray
 regs:List dh
 slots:List cx
 states:List cq
structure cH where
 name:ByteArray
 cO:Int
 init:Nd
 pos:Int
structure dy where
 kind:Int
 order:Int
 name:ByteArray
 side:Nd
 qty:Nd
 price:Nd
 value:Nd
 pos:Int
structure cp where
 when:Nd
 a:Option Addr
 c:Nat
 dos:List dy
 pos:Int
structure cg where
 name:ByteArray
 a:Option Addr
 c:Nat
 rules:List cp
 pos:Int
structure cw where
 name:ByteArray
 ra:Option Addr
 rc:Nat
 regs:List cH
 sa:Option Addr
 sc:Nat
 slots:List cx
 ta:Option Addr
 tc:Nat
 states:List cg
def cH.p(r:cH):dh:=⟨r.name,r.cO,r.init.px,r.pos⟩
def dy.p(d:dy):dA:=⟨d.kind,d.order,d.name,d.side.px,d.qty.px,d.price.px,d.value.px,d.pos⟩
def cp.p(r:cp):cD:=⟨r.when.px,r.dos.map dy.p,r.pos⟩
def cg.p(s:cg):cq:=⟨s.name,s.rules.map cp.p,s.pos⟩
def cw.p(s:cw):cu:=⟨s.name,s.regs.map cH.p,s.slots,s.states.map cg.p⟩
abbrev cH.enc(r:cH):List Value:=[.string r.name,.int .u8 r.cO,.int .u8 r.init.kind,.int .u8 r.init.oper,.int .u8 r.init.cO,.int .i64 r.init.n,.int .u8 r.init.field,.string r.init.name,.slice r.init.a r.init.kids.length r.init.c,.int .i64 r.init.pos,.int .i64 r.pos]
abbrev cx.enc(r:cx):List Value:=[.string r.name,.int .i64 r.pos]
abbrev dy.enc(d:dy):List Value:=[.int .u8 d.kind,.int .u8 d.order,.string d.name,.int .u8 d.side.kind,.int .u8 d.side.oper,.int .u8 d.side.cO,.int .i64 d.side.n,.int .u8 d.side.field,.string d.side.name,.slice d.side.a d.side.kids.length d.side.c,.int .i64 d.side.pos,.int .u8 d.qty.kind,.int .u8 d.qty.oper,.int .u8 d.qty.cO,.int .i64 d.qty.n,.int .u8 d.qty.field,.string d.qty.name,.slice d.qty.a d.qty.kids.length d.qty.c,.int .i64 d.qty.pos,.int .u8 d.price.kind,.int .u8 d.price.oper,.int .u8 d.price.cO,.int .i64 d.price.n,.int .u8 d.price.field,.string d.price.name,.slice d.price.a d.price.kids.length d.price.c,.int .i64 d.price.pos,.int .u8 d.value.kind,.int .u8 d.value.oper,.int .u8 d.value.cO,.int .i64 d.value.n,.int .u8 d.value.field,.string d.value.name,.slice d.value.a d.value.kids.length d.value.c,.int .i64 d.value.pos,.int .i64 d.pos]
abbrev cp.enc(r:cp):List Value:=[.int .u8 r.when.kind,.int .u8 r.when.oper,.int .u8 r.when.cO,.int .i64 r.when.n,.int .u8 r.when.field,.string r.when.name,.slice r.when.a r.when.kids.length r.when.c,.int .i64 r.when.pos,.slice r.a r.dos.length r.c,.int .i64 r.pos]
abbrev cg.enc(s:cg):List Value:=[.string s.name,.slice s.a s.rules.length s.c,.int .i64 s.pos]
abbrev cH.v(r:cH):Value:=.agg #[.string r.name,.int .u8 r.cO,.int .u8 r.init.kind,.int .u8 r.init.oper,.int .u8 r.init.cO,.int .i64 r.init.n,.int .u8 r.init.field,.string r.init.name,.slice r.init.a r.init.kids.length r.init.c,.int .i64 r.init.pos,.int .i64 r.pos]
abbrev cx.v(r:cx):Value:=.agg #[.string r.name,.int .i64 r.pos]
abbrev dy.v(d:dy):Value:=.agg #[.int .u8 d.kind,.int .u8 d.order,.string d.name,.int .u8 d.side.kind,.int .u8 d.side.oper,.int .u8 d.side.cO,.int .i64 d.side.n,.int .u8 d.side.field,.string d.side.name,.slice d.side.a d.side.kids.length d.side.c,.int .i64 d.side.pos,.int .u8 d.qty.kind,.int .u8 d.qty.oper,.int .u8 d.qty.cO,.int .i64 d.qty.n,.int .u8 d.qty.field,.string d.qty.name,.slice d.qty.a d.qty.kids.length d.qty.c,.int .i64 d.qty.pos,.int .u8 d.price.kind,.int .u8 d.price.oper,.int .u8 d.price.cO,.int .i64 d.price.n,.int .u8 d.price.field,.string d.price.name,.slice d.price.a d.price.kids.length d.price.c,.int .i64 d.price.pos,.int .u8 d.value.kind,.int .u8 d.value.oper,.int .u8 d.value.cO,.int .i64 d.value.n,.int .u8 d.value.field,.string d.value.name,.slice d.value.a d.value.kids.length d.value.c,.int .i64 d.value.pos,.int .i64 d.pos]
abbrev cp.v(r:cp):Value:=.agg #[.int .u8 r.when.kind,.int .u8 r.when.oper,.int .u8 r.when.cO,.int .i64 r.when.n,.int .u8 r.when.field,.string r.when.name,.slice r.when.a r.when.kids.length r.when.c,.int .i64 r.when.pos,.slice r.a r.dos.length r.c,.int .i64 r.pos]
abbrev cg.v(s:cg):Value:=.agg #[.string s.name,.slice s.a s.rules.length s.c,.int .i64 s.pos]
abbrev cw.enc(s:cw):List Value:=[.string s.name,.slice s.ra s.regs.length s.rc,.slice s.sa s.slots.length s.sc,.slice s.ta s.states.length s.tc]
abbrev cw.v(s:cw):Value:=.agg #[.string s.name,.slice s.ra s.regs.length s.rc,.slice s.sa s.slots.length s.sc,.slice s.ta s.states.length s.tc]
def cH.Ok(I:cc)(G:b8)(r:cH):Prop:=cC I G r.init
def dy.Ok(I:cc)(G:b8)(d:dy):Prop:=cC I G d.side∧cC I G d.qty∧cC I G d.price∧cC I G d.value
def cp.Ok(I:cc)(G:b8)(r:cp):Prop:=cC I G r.when∧dq I G 36 dy.enc r.a r.dos.length r.dos∧∀d∈r.dos,d.Ok I G
def cg.Ok(I:cc)(G:b8)(s:cg):Prop:=dq I G 10 cp.enc s.a s.rules.length s.rules∧∀r∈s.rules,r.Ok I G
structure cw.Ok (I:cc) (G:b8) (s:cw):Prop where
 regs:dq I G 11 cH.enc s.ra s.regs.length s.regs
 fG:∀r∈s.regs,r.Ok I G
 slots:dq I G 2 cx.enc s.sa s.slots.length s.slots
 states:dq I G 3 cg.enc s.ta s.states.length s.states
 state:∀x∈s.states,x.Ok I G
section
variable {I J:cc} {G H:b8}
theorem cH.Ok.mono{r:cH}(h:r.Ok I G)(hl:cc.le I J)(hs:∀x,x∈G→x∈H):r.Ok J H:=cC.mono h hl hs
theorem dy.Ok.mono{d:dy}(h:d.Ok I G)(hl:cc.le I J)(hs:∀x,x∈G→x∈H):d.Ok J H:=⟨h.1.mono hl hs,h.2.1.mono hl hs,h.2.2.1.mono hl hs,h.2.2.2.mono hl hs⟩
theorem cp.Ok.mono{r:cp}(h:r.Ok I G)(hl:cc.le I J)(hs:∀x,x∈G→x∈H):r.Ok J H:=⟨h.1.mono hl hs,h.2.1.mono hl hs,fun d hd=>(h.2.2 d hd).mono hl hs⟩
theorem cg.Ok.mono{s:cg}(h:s.Ok I G)(hl:cc.le I J)(hs:∀x,x∈G→x∈H):s.Ok J H:=⟨h.1.mono hl hs,fun r hr=>(h.2 r hr).mono hl hs⟩
theorem cw.Ok.mono{s:cw}(h:s.Ok I G)(hl:cc.le I J)(hs:∀x,x∈G→x∈H):s.Ok J H :=
 ⟨h.regs.mono hl hs,fun r hr=>(h.fG r hr).mono hl hs,h.slots.mono hl hs,h.states.mono hl hs,fun r hr=>(h.state r hr).mono hl hs⟩
theorem cw.Ok.cons{s:cw}(h:s.Ok I G){x:Nat×Obj}:s.Ok I (x::G):=h.mono (cc.le_refl I) fun _ h=>List.mem_cons_of_mem _ h
theorem cp.Ok.cons{s:cp}(h:s.Ok I G){x:Nat×Obj}:s.Ok I (x::G):=h.mono (cc.le_refl I) fun _ h=>List.mem_cons_of_mem _ h
theorem cg.Ok.cons{s:cg}(h:s.Ok I G){x:Nat×Obj}:s.Ok I (x::G):=h.mono (cc.le_refl I) fun _ h=>List.mem_cons_of_mem _ h
theorem dy.Ok.cons{s:dy}(h:s.Ok I G){x:Nat×Obj}:s.Ok I (x::G):=h.mono (cc.le_refl I) fun _ h=>List.mem_cons_of_mem _ h
end
def dA.oJ(d:dA):List Px:=[d.side,d.qty,d.price,d.value]
def cD.oJ(r:cD):List Px:=r.when::r.dos.flatMap dA.oJ
def cu.oJ(s:cu):List Px:=s.regs.map dh.init++s.states.flatMap fun x=>x.rules.flatMap cD.oJ
def cV(b:Bool)(n:Int):Int:=if b then 0 else n
def cm(a b:Int):Int:=if a=0 then b else a
def Px.tQ(x:Px):Bool:=x.kind==0&&(x.oper==0&&(x.cO==0&&(x.n==0&&(x.field==0&&(x.name.toList==[])))))&&decide (x.kids.length=0)
def cN(is:Bool)(x:Px):Int:=if is then x.dj else cV x.tQ 120
def Px.nI(x:Px):Bool:=if x.kind=5∧x.oper=1 then (match x.kids with | k::_=>decide (k.kind=1∧k.cO≤4) | []=>false) else decide (x.kind=1)
def dh.check(r:dh):Int:=cV (c9 r.name&&(decide (1≤r.cO∧r.cO≤6)&&(r.init.formed&&r.init.nI))) 120
def dA.mJ(d:dA):Bool:=decide (1≤d.kind∧d.kind≤6)
def dA.kZ(d:dA):Bool:=decide (d.kind=1∧1≤d.order∧d.order≤5∨d.kind≠1∧d.order=0)
def dA.c9(d:dA):Bool:=if d.kind=6 then d.name.toList==[] else if d.kind≠1∨d.name.toList≠[] then Lx.c9 d.name else true
def dA.check(d:dA):Int:=cm (cV d.mJ 120) (cm (cV d.kZ 120) (cm (cV d.c9 120) (cm (cN (decide (d.kind=1)) d.side) (cm (cN (decide (d.kind=1∨d.kind=2)) d.qty)
 (cm (cN (decide (d.kind=1∧d.order≠2∨d.kind=2)) d.price) (cN (decide (d.kind=4)) d.value))))))
def cJ{α:Type}(f:α→Int):List α→Int
 | []=>0
 | x::r=>cm (f x) (cJ f r)
def cD.check(r:cD):Int:=cm r.when.dj (cm (cV (decide (0<r.dos.length)) 120) (cm (cV (decide (r.dos.length≤8)) 121) (cJ dA.check r.dos)))
def cq.check(s:cq):Int:=cm (cV (c9 s.name) 120) (cm (cV (decide (s.rules.length≤12)) 121) (cJ cD.check s.rules))
def cx.check(s:cx):Int:=cV (c9 s.name) 120
def cu.check(s:cu):Int:=cm (cV (c9 s.name) 120) (cm (cV (decide (s.regs.length≤12)) 121) (cm (cJ dh.check s.regs) (cm (cV (decide (s.slots.length≤4)) 121) (cm (cJ cx.check s.slots)
 (cm (cV (decide (0<s.states.length)) 120) (cm (cV (decide (s.states.length≤12)) 121) (cJ cq.check s.states)))))))
theorem tR{α:Type}(f:α→Int){l:List α}{i:Nat}{x:α}(h:l[i]? = some x):cJ f (l.drop i)=cm (f x) (cJ f (l.drop (i+1))):=by
 obtain⟨hk,rfl⟩:=List.getElem?_eq_some_iff.1 h
 rw[List.drop_eq_getElem_cons hk,cJ]
theorem cz(b:Int):cm 0 b=b:=rfl
theorem mL{a:Int}(h:a≠0)(b:Int):cm a b=a:=if_neg h
theorem jK(a b c:Int):cm (cm a b) c=cm a (cm b c):=by unfold cm;split<;>simp[*]
abbrev ql(b:Nat)(x:dy):Nat×Obj:=(b,Obj.cells #[.int .u8 x.kind,.int .u8 x.order,.string x.name,.int .u8 x.side.kind,.int .u8 x.side.oper,.int .u8 x.side.cO,.int .i64 x.side.n,.int .u8 x.side.field,.string x.side.name,.slice x.side.a x.side.kids.length x.side.c,.int .i64 x.side.pos,.int .u8 x.qty.kind,.int .u8 x.qty.oper,.int .u8 x.qty.cO,.int .i64 x.qty.n,.int .u8 x.qty.field,.string x.qty.name,.slice x.qty.a x.qty.kids.length x.qty.c,.int .i64 x.qty.pos,.int .u8 x.price.kind,.int .u8 x.price.oper,.int .u8 x.price.cO,.int .i64 x.price.n,.int .u8 x.price.field,.string x.price.name,.slice x.price.a x.price.kids.length x.price.c,.int .i64 x.price.pos,.int .u8 x.value.kind,.int .u8 x.value.oper,.int .u8 x.value.cO,.int .i64 x.value.n,.int .u8 x.value.field,.string x.value.name,.slice x.value.a x.value.kids.length x.value.c,.int .i64 x.value.pos,.int .i64 x.pos] 99 (0,0))
abbrev HN(b:Nat)(x:cH):Nat×Obj:=(b,Obj.cells #[.string x.name,.int .u8 x.cO,.int .u8 x.init.kind,.int .u8 x.init.oper,.int .u8 x.init.cO,.int .i64 x.init.n,.int .u8 x.init.field,.string x.init.name,.slice x.init.a x.init.kids.length x.init.c,.int .i64 x.init.pos,.int .i64 x.pos] 77 (0,0))
abbrev kg(b:Nat)(x:cp):Nat×Obj:=(b,Obj.cells #[.int .u8 x.when.kind,.int .u8 x.when.oper,.int .u8 x.when.cO,.int .i64 x.when.n,.int .u8 x.when.field,.string x.when.name,.slice x.when.a x.when.kids.length x.when.c,.int .i64 x.when.pos,.slice x.a x.dos.length x.c,.int .i64 x.pos] 84 (0,0))
abbrev fU(b:Nat)(x:cg):Nat×Obj:=(b,Obj.cells #[.string x.name,.slice x.a x.rules.length x.c,.int .i64 x.pos] 65 (0,0))
abbrev c6(b:Nat)(x:cw):Nat×Obj:=(b,Obj.cells #[.string x.name,.slice x.ra x.regs.length x.rc,.slice x.sa x.slots.length x.sc,.slice x.ta x.states.length x.tc] 39 (0,0))
end Go.Lx
namespace Go.Lx
open Go.Vc Go.Proofs.Tryz
def oY:List (Nat×List Sh):=[(0,[]),(4,[.one .bool]),(9,[.one .str]),(28,[.agg [(.int .u8),(.int .u8),(.int .u8),(.int .i64),(.int .u8),.str,.slc,(.int .i64)]]),(35,[.one .slc]),(36,[.one .slc]),(37,[.one .slc]),(39,[.agg [.str,.slc,.slc,.slc]]),(47,[.one (.int .i64)]),(65,[.agg [.str,.slc,(.int .i64)]]),(77,[.agg [.str,(.int .u8),(.int .u8),(.int .u8),(.int .u8),(.int .i64),(.int .u8),.str,.slc,(.int .i64),(.int .i64)]]),(79,[.agg [.str,(.int .i64)]]),(84,[.agg [(.int .u8),(.int .u8),(.int .u8),(.int .i64),(.int .u8),.str,.slc,(.int .i64),.slc,(.int .i64)]]),(99,[.agg [(.int .u8),(.int .u8),.str,(.int .u8),(.int .u8),(.int .u8),(.int .i64),(.int .u8),.str,.slc,(.int .i64),(.int .u8),(.int .u8),(.int .u8),(.int .i64),(.int .u8),.str,.slc,(.int .i64),(.int .u8),(.int .u8),(.int .u8),(.int .i64),(.int .u8),.str,.slc,(.int .i64),(.int .u8),(.int .u8),(.int .u8),(.int .i64),(.int .u8),.str,.slc,(.int .i64),(.int .i64)]]),(199,[.agg [(.int .u8),(.int .u8),(.int .u8),(.int .i64),(.int .u8),.str]])]
def nJ.V(vl:OA→Nat→Nat→Value)(v:Bs)(k:OA)(l m:Nat)(n:OA)(o p:Nat)(q:OA)(s t:Nat)(I:cc)(F:b8)(Q:cd)  : Prop:=∀j:Nat,cf P 57 (#[.func (.func 103) #[] #[.pointer (some ⟨j,0,none⟩)]]) I ((j,Obj.cells #[.string v,vl k l m,vl n o p,vl q s t] 39 (0,0))::F) fun e1 I1 G1=>∃(r:Int),e1=.returned (.int .i64 r)∧∃(u:Bs) (a:OA) (b c:Nat) (d:OA) (e f:Nat) (g:OA) (h i:Nat),∃F1:b8,List.Perm G1 ((j,Obj.cells #[.string u,vl a b c,vl d e f,vl g h i] 39 (0,0))::F1)∧Q (.returned (.int .i64 r)) I1 (F1)
theorem nJ.vc{k:Bs}{a:OA}{b c:Nat}{d:OA}{e f:Nat}{g:OA}{i j:Nat}{I:cc}{F:b8}{Q:cd}  (h:nJ.V .slice k a b c d e f g i j I F Q):cf P 64 #[.agg #[.string k,.slice a b c,.slice d e f,.slice g i j]] I F Q :=
 tw (A:=(an [] [57] oY)) [57] func64 h
def kh.V(ka:Nat→Bs→Int→Int→Int→Int→Int→Int→Bs→OA→Nat→Nat→Int→Int→Nat×Obj)(kb:Nat→Bs→OA→Nat→Nat→Int→Nat×Obj)(nV:Int→Int→Int→Int→Int→Bs→OA→Nat→Nat→Int→Value)(vb vi:Int→Value)(vs:Bs→Value)(vl:OA→Nat→Nat→Value)(vt:Bool→Value)(wr:Int→Int)(c:Addr)(I:cc)(F:b8)(Q:cd)(Inv8:Int→Nat→cc→b8→cc→b8→Prop)(Inv31:Int→Nat→cc→b8→cc→b8→Prop)(Inv51:Int→Nat→cc→b8→cc→b8→Prop)(Inv69:Int→Int→Nat→cc→b8→cc→b8→Prop):Prop:=∃(m:Bs),Rd I F (c.add 0) [vs m]∧cf P 104 #[vs m] I F fun e1 I1 G1=>((e1=.returned (.tuple #[])∧∃F1:b8,List.Perm G1 F1∧∃(a9:OA) (aF ba:Nat),Rd I1 F1 (c.add 1) [vl a9 aF ba]∧cf P 98 (#[vt (decide ((aF:Int)≤12)),vi 121]) I1 F1 fun e2 I2 G2=>((e2=.returned (.tuple #[])∧∃F2:b8,List.Perm G2 F2∧∃(au:OA) (an a0:Nat),Rd I2 F2 (c.add 1) [vl au an a0]∧(∃m1:Nat,Inv8 0 m1 I2 F2 I2 F2)∧∀(x:Int) (m2:Nat) (I3:cc) (F3:b8),cc.le I2 I3→Inv8 x m2 I2 F2 I3 F3→(Dt (x<(an:Int)) ((0≤x∧x<(an:Int))∧∃ad:Addr,au=some ad∧∃(r:Bs) (h j k l n o:Int) (p:Bs) (a:OA) (b d:Nat) (q f:Int),Rd I3 F3 (ad.add (Int.toNat x*11)) [vs r,vb h,vb j,vb k,vb l,vi n,vb o,vs p,vl a b d,vi q,vi f]∧∀u:Nat,cf P 104 #[vs r] I3 ((ka u r h j k l n o p a b d q f)::F3) fun e3 I4 G3=>((e3=.returned (.tuple #[])∧∃F4:b8,List.Perm G3 ((ka u r h j k l n o p a b d q f)::F4)∧(Dt (1≤h) (cf P 98 (#[vt (decide (h≤6)),vi 120]) I4 ((ka u r h j k l n o p a b d q f)::F4) fun e4 I5 G4=>((e4=.returned (.tuple #[])∧∃F5:b8,List.Perm G4 ((ka u r h j k l n o p a b d q f)::F5)∧cf P 105 #[nV j k l n o p a b d q] I5 ((ka u r h j k l n o p a b d q f)::F5) fun e5 I6 G5=>((e5=.returned (.tuple #[])∧∃F6:b8,List.Perm G5 ((ka u r h j k l n o p a b d q f)::F6)∧(∃m3:Nat,m3<m2∧Inv8 (wr (x+1)) m3 I2 F2 I6 F6))∨(∃ch:List PanicEntry,e5=.panicked ch∧∃F7:b8,List.Perm G5 ((ka u r h j k l n o p a b d q f)::F7)∧Q (.panicked ch) I6 F7)))∨(∃aH:List PanicEntry,e4=.panicked aH∧∃F8:b8,List.Perm G4 ((ka u r h j k l n o p a b d q f)::F8)∧Q (.panicked aH) I5 F8))) (cf P 98 #[vt false,vi 120] I4 ((ka u r h j k l n o p a b d q f)::F4) fun e6 I7 G6=>((e6=.returned (.tuple #[])∧∃F9:b8,List.Perm G6 ((ka u r h j k l n o p a b d q f)::F9)∧cf P 105 #[nV j k l n o p a b d q] I7 ((ka u r h j k l n o p a b d q f)::F9) fun e7 I8 G7=>((e7=.returned (.tuple #[])∧∃F10:b8,List.Perm G7 ((ka u r h j k l n o p a b d q f)::F10)∧(∃m4:Nat,m4<m2∧Inv8 (wr (x+1)) m4 I2 F2 I8 F10))∨(∃aI:List PanicEntry,e7=.panicked aI∧∃F11:b8,List.Perm G7 ((ka u r h j k l n o p a b d q f)::F11)∧Q (.panicked aI) I8 F11)))∨(∃aJ:List PanicEntry,e6=.panicked aJ∧∃F12:b8,List.Perm G6 ((ka u r h j k l n o p a b d q f)::F12)∧Q (.panicked aJ) I7 F12)))))∨(∃aK:List PanicEntry,e3=.panicked aK∧∃F13:b8,List.Perm G3 ((ka u r h j k l n o p a b d q f)::F13)∧Q (.panicked aK) I4 F13))) (∃(a1:OA) (av a2:Nat),Rd I3 F3 (c.add 2) [vl a1 av a2]∧cf P 98 (#[vt (decide ((av:Int)≤4)),vi 121]) I3 F3 fun e8 I9 G8=>((e8=.returned (.tuple #[])∧∃F14:b8,List.Perm G8 F14∧∃(aw:OA) (ao a3:Nat),Rd I9 F14 (c.add 2) [vl aw ao a3]∧(∃m5:Nat,Inv31 0 m5 I9 F14 I9 F14)∧∀(x1:Int) (m6:Nat) (I10:cc) (F15:b8),cc.le I9 I10→Inv31 x1 m6 I9 F14 I10 F15→(Dt (x1<(ao:Int)) ((0≤x1∧x1<(ao:Int))∧∃aL:Addr,aw=some aL∧∃(ae:Bs) (ap:Int),Rd I10 F15 (aL.add (Int.toNat x1*2)) [vs ae,vi ap]∧∀aA:Nat,cf P 104 #[vs ae] I10 ((aA,Obj.cells #[vs ae,vi ap] 79 (0,0))::F15) fun e9 I11 G9=>((e9=.returned (.tuple #[])∧∃F16:b8,List.Perm G9 ((aA,Obj.cells #[vs ae,vi ap] 79 (0,0))::F16)∧(∃m7:Nat,m7<m6∧Inv31 (wr (x1+1)) m7 I9 F14 I11 F16))∨(∃aM:List PanicEntry,e9=.panicked aM∧∃F17:b8,List.Perm G9 ((aA,Obj.cells #[vs ae,vi ap] 79 (0,0))::F17)∧Q (.panicked aM) I11 F17))) (∃(a4:OA) (ax a5:Nat),Rd I10 F15 (c.add 3) [vl a4 ax a5]∧cf P 98 (#[vt (decide ((ax:Int)>0)),vi 120]) I10 F15 fun aV I12 G10=>((aV=.returned (.tuple #[])∧∃F18:b8,List.Perm G10 F18∧∃(a6:OA) (ay a7:Nat),Rd I12 F18 (c.add 3) [vl a6 ay a7]∧cf P 98 (#[vt (decide ((ay:Int)≤12)),vi 121]) I12 F18 fun aW I13 G11=>((aW=.returned (.tuple #[])∧∃F19:b8,List.Perm G11 F19∧∃(az:OA) (aq a8:Nat),Rd I13 F19 (c.add 3) [vl az aq a8]∧(∃m8:Nat,Inv51 0 m8 I13 F19 I13 F19)∧∀(x2:Int) (m9:Nat) (I14:cc) (F20:b8),cc.le I13 I14→Inv51 x2 m9 I13 F19 I14 F20→(Dt (x2<(aq:Int)) ((0≤x2∧x2<(aq:Int))∧∃aN:Addr,az=some aN∧∃(s:Bs) (g:OA) (e i:Nat) (t:Int),Rd I14 F20 (aN.add (Int.toNat x2*3)) [vs s,vl g e i,vi t]∧∀v:Nat,cf P 104 #[vs s] I14 ((kb v s g e i t)::F20) fun aX I15 G12=>((aX=.returned (.tuple #[])∧∃F21:b8,List.Perm G12 ((kb v s g e i t)::F21)∧cf P 98 (#[vt (decide ((e:Int)≤12)),vi 121]) I15 ((kb v s g e i t)::F21) fun aY I16 G13=>((aY=.returned (.tuple #[])∧∃F22:b8,List.Perm G13 ((kb v s g e i t)::F22)∧(∃bb:Nat,Inv69 x2 0 bb I16 F22 I16 F22)∧∀(x3:Int) (aG:Nat) (I17:cc) (F23:b8),cc.le I16 I17→Inv69 x2 x3 aG I16 F22 I17 F23→(Dt (x3<(e:Int)) ((0≤x3∧x3<(e:Int))∧∃aO:Addr,g=some aO∧∃(af ag ah ai aj:Int) (ak:Bs) (aa:OA) (ab ac:Nat) (al:Int) (w:OA) (y z:Nat) (am:Int),Rd I17 ((kb v s g e i t)::F23) (aO.add (Int.toNat x3*10)) [vb af,vb ag,vb ah,vi ai,vb aj,vs ak,vl aa ab ac,vi al,vl w y z,vi am]∧∀ar:Nat,cf P 106 #[.agg #[vb af,vb ag,vb ah,vi ai,vb aj,vs ak,vl aa ab ac,vi al,vl w y z,vi am]] I17 ((kb v s g e i t)::(ar,Obj.cells #[vb af,vb ag,vb ah,vi ai,vb aj,vs ak,vl aa ab ac,vi al,vl w y z,vi am] 84 (0,0))::F23) fun aZ I18 G14=>((aZ=.returned (.tuple #[])∧∃F24:b8,List.Perm G14 ((kb v s g e i t)::(ar,Obj.cells #[vb af,vb ag,vb ah,vi ai,vb aj,vs ak,vl aa ab ac,vi al,vl w y z,vi am] 84 (0,0))::F24)∧(∃aP:Nat,aP<aG∧Inv69 x2 (wr (x3+1)) aP I16 F22 I18 F24))∨(∃aQ:List PanicEntry,aZ=.panicked aQ∧∃F25:b8,List.Perm G14 ((kb v s g e i t)::(ar,Obj.cells #[vb af,vb ag,vb ah,vi ai,vb aj,vs ak,vl aa ab ac,vi al,vl w y z,vi am] 84 (0,0))::F25)∧Q (.panicked aQ) I18 F25))) (∃aR:Nat,aR<m9∧Inv51 (wr (x2+1)) aR I13 F19 I17 F23)))∨(∃aS:List PanicEntry,aY=.panicked aS∧∃F26:b8,List.Perm G13 ((kb v s g e i t)::F26)∧Q (.panicked aS) I16 F26)))∨(∃aT:List PanicEntry,aX=.panicked aT∧∃F27:b8,List.Perm G12 ((kb v s g e i t)::F27)∧Q (.panicked aT) I15 F27))) (Q (.returned (.tuple #[])) I14 F20)))∨(∃aU:List PanicEntry,aW=.panicked aU∧∃F28:b8,List.Perm G11 F28∧Q (.panicked aU) I13 F28)))∨(∃aB:List PanicEntry,aV=.panicked aB∧∃F29:b8,List.Perm G10 F29∧Q (.panicked aB) I12 F29)))))∨(∃aC:List PanicEntry,e8=.panicked aC∧∃F30:b8,List.Perm G8 F30∧Q (.panicked aC) I9 F30)))))∨(∃aD:List PanicEntry,e2=.panicked aD∧∃F31:b8,List.Perm G2 F31∧Q (.panicked aD) I2 F31)))∨(∃aE:List PanicEntry,e1=.panicked aE∧∃F32:b8,List.Perm G1 F32∧Q (.panicked aE) I1 F32))
theorem kh.vc{c:Addr}{I:cc}{F:b8}{Q:cd}(Inv8:Int→Nat→cc→b8→cc→b8→Prop)(Inv31:Int→Nat→cc→b8→cc→b8→Prop)(Inv51:Int→Nat→cc→b8→cc→b8→Prop)(Inv69:Int→Int→Nat→cc→b8→cc→b8→Prop)(h:kh.V (fun W a b c d e f g h i j k l m=>(W,Obj.cells #[.string a,.int .u8 b,.int .u8 c,.int .u8 d,.int .u8 e,.int .i64 f,.int .u8 g,.string h,.slice i j k,.int .i64 l,.int .i64 m] 77 (0,0))) (fun W a b c d e=>(W,Obj.cells #[.string a,.slice b c d,.int .i64 e] 65 (0,0))) (fun k o t n f s a l c q=>.agg #[.int .u8 k,.int .u8 o,.int .u8 t,.int .i64 n,.int .u8 f,.string s,.slice a l c,.int .i64 q]) (.int .u8) (.int .i64) .string .slice .bool (IntKind.wrap .i64) c I F Q Inv8 Inv31 Inv51 Inv69):cf P 103 #[.pointer (some c)] I F Q :=
 tw (A:=(cK [3000,6002,11000,18000,23000] [98,104,105,106] [98,104,105,106] oY [(8,⟨[(20,(.int .i64))],[],fun fs I0 F0 vs m I F=>match fs,vs with | [],[.int _ y0]=>Inv8 y0 m I0 F0 I F | _,_=>False,[],[]⟩),(31,⟨[(48,(.int .i64))],[],fun fs I0 F0 vs m I F=>match fs,vs with | [],[.int _ y0]=>Inv31 y0 m I0 F0 I F | _,_=>False,[],[]⟩),(51,⟨[(69,(.int .i64))],[],fun fs I0 F0 vs m I F=>match fs,vs with | [],[.int _ y0]=>Inv51 y0 m I0 F0 I F | _,_=>False,[],[]⟩),(69,⟨[(84,(.int .i64))],[],fun fs I0 F0 vs m I F=>match fs,vs with | [.int _ y0],[.int _ y1]=>Inv69 y0 y1 m I0 F0 I F | _,_=>False,[69],[]⟩)] [] [] [] [] [] [])) [98,104,105,106] func103 h
def nK.V(s:Bs)(I:cc)(F:b8)(Q:cd)  : Prop:=cy P 126 #[.string s] I (·) F .bool fun r I1 F1=>cf P 98 #[.bool r,.int .i64 120] I1 F1 fun e2 I2 G2=>((e2=.returned (.tuple #[])∧∃F2:b8,List.Perm G2 F2∧Q (.returned (.tuple #[])) I2 F2)∨(∃ch:List PanicEntry,e2=.panicked ch∧∃F3:b8,List.Perm G2 F3∧Q (.panicked ch) I2 F3))
theorem nK.vc{s:Bs}{I:cc}{F:b8}{Q:cd}  (h:nK.V s I F Q):cf P 104 #[.string s] I F Q :=
 tw (A:=(cK [] [98] [98,126] oY [] [] [] [] [] [] [])) [98,126] func104 h
def ki.V(a:Nat→Nat×Obj)(vb vi:Int→Value)(vs:Bs→Value)(m n o p r:Int)(s:Bs)(d:OA)(c e:Nat)(t:Int)(I:cc)(F:b8)(Q:cd)  : Prop:=∀b:Nat,dg P 127 #[.agg #[vb m,vb n,vb o,vi p,vb r,vs s,.slice d c e,vi t]] I ((a b)::·) F fun e1 I1 G1=>∃(f g h i j:Int) (k:Bs),e1=.returned (.agg #[vb f,vb g,vb h,vi i,vb j,vs k])∧G1 fun F1=>∃q:Bool,cU P .eql 199 (.tmp 3) (.tmp 4) (.agg #[vb f,vb g,vb h,vi i,vb j,vs k]) (.agg #[vb 0,vb 0,vb 0,vi 0,vb 0,vs (⟨#[]⟩:Bs)]) q∧(It q (cf P 98 (#[.bool ((c:Int)==0),vi 120]) I1 ((a b)::F1) fun e2 I2 G2=>((e2=.returned (.tuple #[])∧∃F2:b8,List.Perm G2 ((a b)::F2)∧Q (.returned (.tuple #[])) I2 F2)∨(∃ch:List PanicEntry,e2=.panicked ch∧∃F3:b8,List.Perm G2 ((a b)::F3)∧Q (.panicked ch) I2 F3))) (cf P 98 #[.bool false,vi 120] I1 ((a b)::F1) fun e3 I3 G3=>((e3=.returned (.tuple #[])∧∃F4:b8,List.Perm G3 ((a b)::F4)∧Q (.returned (.tuple #[])) I3 F4)∨(∃l:List PanicEntry,e3=.panicked l∧∃F5:b8,List.Perm G3 ((a b)::F5)∧Q (.panicked l) I3 F5))))
theorem ki.vc{e f g i j:Int}{k:Bs}{a:OA}{c d:Nat}{l:Int}{I:cc}{F:b8}{Q:cd}  (h:ki.V (fun b=>(b,Obj.cells #[.int .u8 e,.int .u8 f,.int .u8 g,.int .i64 i,.int .u8 j,.string k,.slice a c d,.int .i64 l] 28 (0,0))) (.int .u8) (.int .i64) .string e f g i j k a c d l I F Q):cf P 162 #[.agg #[.int .u8 e,.int .u8 f,.int .u8 g,.int .i64 i,.int .u8 j,.string k,.slice a c d,.int .i64 l]] I F Q :=
 tw (A:=(cK [1003] [98] [98,127] oY [] [] [] [] [] [] [])) [98,127] func162 h
def pM.V(a:Nat→Nat×Obj)(nV:Int→Int→Int→Int→Int→Bs→OA→Nat→Nat→Int→Value)(is:Bool)(f g h i j:Int)(k:Bs)(c:OA)(d e:Nat)(l:Int)(I:cc)(F:b8)(Q:cd)  : Prop:=∀b:Nat,(It is (cf P 59 #[nV f g h i j k c d e l] I ((a b)::F) fun e1 I1 G1=>((e1=.returned (.tuple #[])∧∃F1:b8,List.Perm G1 ((a b)::F1)∧Q (.returned (.tuple #[])) I1 F1)∨(∃ch:List PanicEntry,e1=.panicked ch∧∃F2:b8,List.Perm G1 ((a b)::F2)∧Q (.panicked ch) I1 F2))) (cf P 162 #[nV f g h i j k c d e l] I ((a b)::F) fun e2 I2 G2=>((e2=.returned (.tuple #[])∧∃F3:b8,List.Perm G2 ((a b)::F3)∧Q (.returned (.tuple #[])) I2 F3)∨(∃m:List PanicEntry,e2=.panicked m∧∃F4:b8,List.Perm G2 ((a b)::F4)∧Q (.panicked m) I2 F4))))
theorem pM.vc{is:Bool}{i j m p r:Int}{u:Bs}{d:OA}{e g:Nat}{v:Int}{I:cc}{F:b8}{Q:cd}  (h:pM.V (fun b=>(b,Obj.cells #[.int .u8 i,.int .u8 j,.int .u8 m,.int .i64 p,.int .u8 r,.string u,.slice d e g,.int .i64 v] 28 (0,0))) (fun k o t n f s a l c q=>.agg #[.int .u8 k,.int .u8 o,.int .u8 t,.int .i64 n,.int .u8 f,.string s,.slice a l c,.int .i64 q]) is i j m p r u d e g v I F Q):cf P 150 #[.bool is,.agg #[.int .u8 i,.int .u8 j,.int .u8 m,.int .i64 p,.int .u8 r,.string u,.slice d e g,.int .i64 v]] I F Q :=
 tw (A:=(cK [1000] [59,162] [59,162] oY [] [] [] [] [] [] [])) [59,162] func150 h
def uB.V(a:Nat→Nat×Obj)(nV:Int→Int→Int→Int→Int→Bs→OA→Nat→Nat→Int→Value)(vi:Int→Value)(vt:Bool→Value)(c d:Int)(h:Bs)(aR aS aT aU aV:Int)(aW:Bs)(al:OA)(am an:Nat)(aJ s t u v w:Int)(x:Bs)(i:OA)(j k:Nat)(y l m n o p:Int)(q:Bs)(e:OA)(f g:Nat)(r aK aL aM aN aO:Int)(aP:Bs)(z:OA)(aa ab:Nat)(aQ aX:Int)(I:cc)(F:b8)(Q:cd)(Inv4:cc→b8→Prop)(Inv6:cc→b8→Prop)(Inv8:cc→b8→Prop)(Inv19:cc→b8→Prop)(Inv21:cc→b8→Prop)(Inv23:cc→b8→Prop):Prop:=∀b:Nat,((Dt (1≤c) (cf P 98 (#[vt (decide (c≤6)),vi 120]) I ((a b)::F) fun e1 I1 G1=>((e1=.returned (.tuple #[])∧∃F1:b8,List.Perm G1 ((a b)::F1)∧Inv4 I1 F1)∨(∃ch:List PanicEntry,e1=.panicked ch∧∃F2:b8,List.Perm G1 ((a b)::F2)∧Q (.panicked ch) I1 F2))) (cf P 98 #[vt false,vi 120] I ((a b)::F) fun e2 I2 G2=>((e2=.returned (.tuple #[])∧∃F3:b8,List.Perm G2 ((a b)::F3)∧Inv4 I2 F3)∨(∃ao:List PanicEntry,e2=.panicked ao∧∃F4:b8,List.Perm G2 ((a b)::F4)∧Q (.panicked ao) I2 F4)))))∧∀(I3:cc) (F5:b8),cc.le I I3→Inv4 I3 F5→((It (c==1) (Dt (1≤d) (Dt (d≤5) (cf P 98 #[vt true,vi 120] I3 ((a b)::F5) fun e3 I4 G3=>((e3=.returned (.tuple #[])∧∃F6:b8,List.Perm G3 ((a b)::F6)∧Inv6 I4 F6)∨(∃ap:List PanicEntry,e3=.panicked ap∧∃F7:b8,List.Perm G3 ((a b)::F7)∧Q (.panicked ap) I4 F7))) (It (!(c==1)) (cf P 98 (#[vt (d==0),vi 120]) I3 ((a b)::F5) fun e4 I5 G4=>((e4=.returned (.tuple #[])∧∃F8:b8,List.Perm G4 ((a b)::F8)∧Inv6 I5 F8)∨(∃aq:List PanicEntry,e4=.panicked aq∧∃F9:b8,List.Perm G4 ((a b)::F9)∧Q (.panicked aq) I5 F9))) (cf P 98 #[vt false,vi 120] I3 ((a b)::F5) fun e5 I6 G5=>((e5=.returned (.tuple #[])∧∃F10:b8,List.Perm G5 ((a b)::F10)∧Inv6 I6 F10)∨(∃ar:List PanicEntry,e5=.panicked ar∧∃F11:b8,List.Perm G5 ((a b)::F11)∧Q (.panicked ar) I6 F11))))) (It (!(c==1)) (cf P 98 (#[vt (d==0),vi 120]) I3 ((a b)::F5) fun e6 I7 G6=>((e6=.returned (.tuple #[])∧∃F12:b8,List.Perm G6 ((a b)::F12)∧Inv6 I7 F12)∨(∃au:List PanicEntry,e6=.panicked au∧∃F13:b8,List.Perm G6 ((a b)::F13)∧Q (.panicked au) I7 F13))) (cf P 98 #[vt false,vi 120] I3 ((a b)::F5) fun e7 I8 G7=>((e7=.returned (.tuple #[])∧∃F14:b8,List.Perm G7 ((a b)::F14)∧Inv6 I8 F14)∨(∃av:List PanicEntry,e7=.panicked av∧∃F15:b8,List.Perm G7 ((a b)::F15)∧Q (.panicked av) I8 F15))))) (It (!(c==1)) (cf P 98 (#[vt (d==0),vi 120]) I3 ((a b)::F5) fun e8 I9 G8=>((e8=.returned (.tuple #[])∧∃F16:b8,List.Perm G8 ((a b)::F16)∧Inv6 I9 F16)∨(∃aw:List PanicEntry,e8=.panicked aw∧∃F17:b8,List.Perm G8 ((a b)::F17)∧Q (.panicked aw) I9 F17))) (cf P 98 #[vt false,vi 120] I3 ((a b)::F5) fun e9 I10 G9=>((e9=.returned (.tuple #[])∧∃F18:b8,List.Perm G9 ((a b)::F18)∧Inv6 I10 F18)∨(∃ax:List PanicEntry,e9=.panicked ax∧∃F19:b8,List.Perm G9 ((a b)::F19)∧Q (.panicked ax) I10 F19))))))∧∀(I11:cc) (F20:b8),cc.le I3 I11→Inv6 I11 F20→((It (c==6) (cf P 98 (#[vt (h.toList==(⟨#[]⟩:Bs).toList),vi 120]) I11 ((a b)::F20) fun az I12 G10=>((az=.returned (.tuple #[])∧∃F21:b8,List.Perm G10 ((a b)::F21)∧Inv8 I12 F21)∨(∃ay:List PanicEntry,az=.panicked ay∧∃F22:b8,List.Perm G10 ((a b)::F22)∧Q (.panicked ay) I12 F22))) (It (!(c==1)) (cf P 104 #[.string h] I11 ((a b)::F20) fun aA I13 G11=>((aA=.returned (.tuple #[])∧∃F23:b8,List.Perm G11 ((a b)::F23)∧Inv8 I13 F23)∨(∃ac:List PanicEntry,aA=.panicked ac∧∃F24:b8,List.Perm G11 ((a b)::F24)∧Q (.panicked ac) I13 F24))) (It (!(h.toList==(⟨#[]⟩:Bs).toList)) (cf P 104 #[.string h] I11 ((a b)::F20) fun aB I14 G12=>((aB=.returned (.tuple #[])∧∃F25:b8,List.Perm G12 ((a b)::F25)∧Inv8 I14 F25)∨(∃ad:List PanicEntry,aB=.panicked ad∧∃F26:b8,List.Perm G12 ((a b)::F26)∧Q (.panicked ad) I14 F26))) (Inv8 I11 F20)))))∧∀(I15:cc) (F27:b8),cc.le I11 I15→Inv8 I15 F27→(cf P 150 (#[vt (c==1),nV aR aS aT aU aV aW al am an aJ]) I15 ((a b)::F27) fun aC I16 G13=>((aC=.returned (.tuple #[])∧∃F28:b8,List.Perm G13 ((a b)::F28)∧Inv19 I16 F28)∨(∃ae:List PanicEntry,aC=.panicked ae∧∃F29:b8,List.Perm G13 ((a b)::F29)∧Q (.panicked ae) I16 F29)))∧∀(I17:cc) (F30:b8),cc.le I15 I17→Inv19 I17 F30→((It (c==1) (cf P 150 #[vt true,nV s t u v w x i j k y] I17 ((a b)::F30) fun aD I18 G14=>((aD=.returned (.tuple #[])∧∃F31:b8,List.Perm G14 ((a b)::F31)∧Inv21 I18 F31)∨(∃af:List PanicEntry,aD=.panicked af∧∃F32:b8,List.Perm G14 ((a b)::F32)∧Q (.panicked af) I18 F32))) (cf P 150 (#[vt (c==2),nV s t u v w x i j k y]) I17 ((a b)::F30) fun aE I19 G15=>((aE=.returned (.tuple #[])∧∃F33:b8,List.Perm G15 ((a b)::F33)∧Inv21 I19 F33)∨(∃ag:List PanicEntry,aE=.panicked ag∧∃F34:b8,List.Perm G15 ((a b)::F34)∧Q (.panicked ag) I19 F34)))))∧∀(I20:cc) (F35:b8),cc.le I17 I20→Inv21 I20 F35→((It (c==1) (It (d != 2) (cf P 150 #[vt true,nV l m n o p q e f g r] I20 ((a b)::F35) fun aF I21 G16=>((aF=.returned (.tuple #[])∧∃F36:b8,List.Perm G16 ((a b)::F36)∧Inv23 I21 F36)∨(∃ah:List PanicEntry,aF=.panicked ah∧∃F37:b8,List.Perm G16 ((a b)::F37)∧Q (.panicked ah) I21 F37))) (cf P 150 (#[vt (c==2),nV l m n o p q e f g r]) I20 ((a b)::F35) fun aG I22 G17=>((aG=.returned (.tuple #[])∧∃F38:b8,List.Perm G17 ((a b)::F38)∧Inv23 I22 F38)∨(∃ai:List PanicEntry,aG=.panicked ai∧∃F39:b8,List.Perm G17 ((a b)::F39)∧Q (.panicked ai) I22 F39)))) (cf P 150 (#[vt (c==2),nV l m n o p q e f g r]) I20 ((a b)::F35) fun aH I23 G18=>((aH=.returned (.tuple #[])∧∃F40:b8,List.Perm G18 ((a b)::F40)∧Inv23 I23 F40)∨(∃aj:List PanicEntry,aH=.panicked aj∧∃F41:b8,List.Perm G18 ((a b)::F41)∧Q (.panicked aj) I23 F41)))))∧∀(I24:cc) (F42:b8),cc.le I20 I24→Inv23 I24 F42→cf P 150 (#[vt (c==4),nV aK aL aM aN aO aP z aa ab aQ]) I24 ((a b)::F42) fun aI I25 G19=>((aI=.returned (.tuple #[])∧∃F43:b8,List.Perm G19 ((a b)::F43)∧Q (.returned (.tuple #[])) I25 F43)∨(∃ak:List PanicEntry,aI=.panicked ak∧∃F44:b8,List.Perm G19 ((a b)::F44)∧Q (.panicked ak) I25 F44))
theorem uB.vc{ay az:Int}{aA:Bs}{aB aC aD aE aF:Int}{aG:Bs}{w:OA}{x y:Nat}{z aa ab ac ad ae:Int}{af:Bs}{d:OA}{e g:Nat}{ag ah ai aj ak al:Int}{am:Bs}{i:OA}{j p:Nat}{an ao ap aq ar au:Int}{av:Bs}{r:OA}{u v:Nat}{aw ax:Int}{I:cc}{F:b8}{Q:cd}(Inv4:cc→b8→Prop)(Inv6:cc→b8→Prop)(Inv8:cc→b8→Prop)(Inv19:cc→b8→Prop)(Inv21:cc→b8→Prop)(Inv23:cc→b8→Prop)(h:uB.V (fun b=>(b,Obj.cells #[.int .u8 ay,.int .u8 az,.string aA,.int .u8 aB,.int .u8 aC,.int .u8 aD,.int .i64 aE,.int .u8 aF,.string aG,.slice w x y,.int .i64 z,.int .u8 aa,.int .u8 ab,.int .u8 ac,.int .i64 ad,.int .u8 ae,.string af,.slice d e g,.int .i64 ag,.int .u8 ah,.int .u8 ai,.int .u8 aj,.int .i64 ak,.int .u8 al,.string am,.slice i j p,.int .i64 an,.int .u8 ao,.int .u8 ap,.int .u8 aq,.int .i64 ar,.int .u8 au,.string av,.slice r u v,.int .i64 aw,.int .i64 ax] 99 (0,0))) (fun k o t n f s a l c q=>.agg #[.int .u8 k,.int .u8 o,.int .u8 t,.int .i64 n,.int .u8 f,.string s,.slice a l c,.int .i64 q]) (.int .i64) .bool ay az aA aB aC aD aE aF aG w x y z aa ab ac ad ae af d e g ag ah ai aj ak al am i j p an ao ap aq ar au av r u v aw ax I F Q Inv4 Inv6 Inv8 Inv19 Inv21 Inv23):cf P 132 #[.agg #[.int .u8 ay,.int .u8 az,.string aA,.int .u8 aB,.int .u8 aC,.int .u8 aD,.int .i64 aE,.int .u8 aF,.string aG,.slice w x y,.int .i64 z,.int .u8 aa,.int .u8 ab,.int .u8 ac,.int .i64 ad,.int .u8 ae,.string af,.slice d e g,.int .i64 ag,.int .u8 ah,.int .u8 ai,.int .u8 aj,.int .i64 ak,.int .u8 al,.string am,.slice i j p,.int .i64 an,.int .u8 ao,.int .u8 ap,.int .u8 aq,.int .i64 ar,.int .u8 au,.string av,.slice r u v,.int .i64 aw,.int .i64 ax]] I F Q :=
 tw (A:=(cK [2002,3000,3004,3009,3013,4002,6001,6005,9000,10000,10004] [98,104,150] [98,104,150] oY [(4,⟨[],[],fun _ _ _ vs m I F=>match vs with | []=>Inv4  I F | _=>False,[],[]⟩),(6,⟨[],[],fun _ _ _ vs m I F=>match vs with | []=>Inv6  I F | _=>False,[],[]⟩),(8,⟨[],[],fun _ _ _ vs m I F=>match vs with | []=>Inv8  I F | _=>False,[],[]⟩),(19,⟨[],[],fun _ _ _ vs m I F=>match vs with | []=>Inv19  I F | _=>False,[],[]⟩),(21,⟨[],[],fun _ _ _ vs m I F=>match vs with | []=>Inv21  I F | _=>False,[],[]⟩),(23,⟨[],[],fun _ _ _ vs m I F=>match vs with | []=>Inv23  I F | _=>False,[],[]⟩)] [] [] [] [] [] [])) [98,104,150] func132 h
def nM.V(l:Nat→Nat×Obj)(nO:Int→Int→Int→Int→Int→Bs→OA→Nat→Nat→Int→Obj)(vb vi:Int→Value)(vt:Bool→Value)(m p x y z:Int)(aa:Bs)(n:OA)(o q:Nat)(ab:Int)(I:cc)(F:b8)(Q:cd)  : Prop:=∀d:Nat,cf P 97 #[.agg #[vb m,vb p,vb x,vi y,vb z,.string aa,.slice n o q,vi ab]] I ((l d)::F) fun e1 I1 G1=>((e1=.returned (.tuple #[])∧∃F1:b8,List.Perm G1 ((l d)::F1)∧(It (m==5) (It (p==1) ((0≤(0:Int)∧(0:Int)<(o:Int))∧∃ad:Addr,n=some ad∧∃(e g f h i:Int) (j:Bs) (a:OA) (b c:Nat) (k:Int),Rd I1 ((l d)::F1) (ad.add (Int.toNat 0*8)) [vb e,vb g,vb f,vi h,vb i,.string j,.slice a b c,vi k]∧(It (e==1) (cf P 98 (#[vt (decide (f≤4)),vi 120]) I1 ((d,nO e g f h i j a b c k)::F1) fun e2 I2 G2=>((e2=.returned (.tuple #[])∧∃F2:b8,List.Perm G2 ((d,nO e g f h i j a b c k)::F2)∧cf P 98 (#[vt (e==1),vi 120]) I2 ((d,nO e g f h i j a b c k)::F2) fun e3 I3 G3=>((e3=.returned (.tuple #[])∧∃F3:b8,List.Perm G3 ((d,nO e g f h i j a b c k)::F3)∧Q (.returned (.tuple #[])) I3 F3)∨(∃ch:List PanicEntry,e3=.panicked ch∧∃F4:b8,List.Perm G3 ((d,nO e g f h i j a b c k)::F4)∧Q (.panicked ch) I3 F4)))∨(∃r:List PanicEntry,e2=.panicked r∧∃F5:b8,List.Perm G2 ((d,nO e g f h i j a b c k)::F5)∧Q (.panicked r) I2 F5))) (cf P 98 #[vt false,vi 120] I1 ((d,nO e g f h i j a b c k)::F1) fun e4 I4 G4=>((e4=.returned (.tuple #[])∧∃F6:b8,List.Perm G4 ((d,nO e g f h i j a b c k)::F6)∧cf P 98 (#[vt (e==1),vi 120]) I4 ((d,nO e g f h i j a b c k)::F6) fun e5 I5 G5=>((e5=.returned (.tuple #[])∧∃F7:b8,List.Perm G5 ((d,nO e g f h i j a b c k)::F7)∧Q (.returned (.tuple #[])) I5 F7)∨(∃s:List PanicEntry,e5=.panicked s∧∃F8:b8,List.Perm G5 ((d,nO e g f h i j a b c k)::F8)∧Q (.panicked s) I5 F8)))∨(∃t:List PanicEntry,e4=.panicked t∧∃F9:b8,List.Perm G4 ((d,nO e g f h i j a b c k)::F9)∧Q (.panicked t) I4 F9))))) (cf P 98 (#[vt (m==1),vi 120]) I1 ((l d)::F1) fun e6 I6 G6=>((e6=.returned (.tuple #[])∧∃F10:b8,List.Perm G6 ((l d)::F10)∧Q (.returned (.tuple #[])) I6 F10)∨(∃u:List PanicEntry,e6=.panicked u∧∃F11:b8,List.Perm G6 ((l d)::F11)∧Q (.panicked u) I6 F11)))) (cf P 98 (#[vt (m==1),vi 120]) I1 ((l d)::F1) fun e7 I7 G7=>((e7=.returned (.tuple #[])∧∃F12:b8,List.Perm G7 ((l d)::F12)∧Q (.returned (.tuple #[])) I7 F12)∨(∃v:List PanicEntry,e7=.panicked v∧∃F13:b8,List.Perm G7 ((l d)::F13)∧Q (.panicked v) I7 F13)))))∨(∃w:List PanicEntry,e1=.panicked w∧∃F14:b8,List.Perm G1 ((l d)::F14)∧Q (.panicked w) I1 F14))
theorem nM.vc{i j m p r:Int}{u:Bs}{d:OA}{e g:Nat}{v:Int}{I:cc}{F:b8}{Q:cd}  (h:nM.V (fun b=>(b,Obj.cells #[.int .u8 i,.int .u8 j,.int .u8 m,.int .i64 p,.int .u8 r,.string u,.slice d e g,.int .i64 v] 28 (0,0))) (fun k o t n f s a l c q=>.cells #[.int .u8 k,.int .u8 o,.int .u8 t,.int .i64 n,.int .u8 f,.string s,.slice a l c,.int .i64 q] 28 (0,0)) (.int .u8) (.int .i64) .bool i j m p r u d e g v I F Q):cf P 105 #[.agg #[.int .u8 i,.int .u8 j,.int .u8 m,.int .i64 p,.int .u8 r,.string u,.slice d e g,.int .i64 v]] I F Q :=
 tw (A:=(cK [2002,2006,4002] [97,98] [97,98] oY [] [] [] [] [] [] [])) [97,98] func105 h
def pN.V(a:Nat→Nat×Obj)(vb vi:Int→Value)(vs:Bs→Value)(vl:OA→Nat→Nat→Value)(aI aJ aK aL aM:Int)(aN:Bs)(aB:OA)(aC aD:Nat)(aO:Int)(aE:OA)(l aP:Nat)(aQ:Int)(I:cc)(F:b8)(Q:cd)(Inv11:Int→Nat→cc→b8→Prop):Prop:=∀b:Nat,cf P 59 #[.agg #[vb aI,vb aJ,vb aK,vi aL,vb aM,vs aN,vl aB aC aD,vi aO]] I ((a b)::F) fun e1 I1 G1=>((e1=.returned (.tuple #[])∧∃F1:b8,List.Perm G1 ((a b)::F1)∧cf P 98 (#[.bool (decide ((l:Int)>0)),vi 120]) I1 ((a b)::F1) fun e2 I2 G2=>((e2=.returned (.tuple #[])∧∃F2:b8,List.Perm G2 ((a b)::F2)∧cf P 98 (#[.bool (decide ((l:Int)≤8)),vi 121]) I2 ((a b)::F2) fun e3 I3 G3=>((e3=.returned (.tuple #[])∧∃F3:b8,List.Perm G3 ((a b)::F3)∧(∃m:Nat,Inv11 0 m I3 F3)∧∀(x:Int) (m1:Nat) (I4:cc) (F4:b8),cc.le I3 I4→Inv11 x m1 I4 F4→(Dt (x<(l:Int)) ((0≤x∧x<(l:Int))∧∃ad:Addr,aE=some ad∧∃(ap aq:Int) (ar:Bs) (au av aw ax ay:Int) (az:Bs) (n:OA) (o p:Nat) (q r s t u v:Int) (w:Bs) (c:OA) (d e:Nat) (y z aa ab ac ae:Int) (af:Bs) (f:OA) (g h:Nat) (ag ah ai aj ak al:Int) (am:Bs) (i:OA) (j k:Nat) (an ao:Int),Rd I4 ((a b)::F4) (ad.add (Int.toNat x*36)) [vb ap,vb aq,vs ar,vb au,vb av,vb aw,vi ax,vb ay,vs az,vl n o p,vi q,vb r,vb s,vb t,vi u,vb v,vs w,vl c d e,vi y,vb z,vb aa,vb ab,vi ac,vb ae,vs af,vl f g h,vi ag,vb ah,vb ai,vb aj,vi ak,vb al,vs am,vl i j k,vi an,vi ao]∧∀aA:Nat,cf P 132 #[.agg #[vb ap,vb aq,vs ar,vb au,vb av,vb aw,vi ax,vb ay,vs az,vl n o p,vi q,vb r,vb s,vb t,vi u,vb v,vs w,vl c d e,vi y,vb z,vb aa,vb ab,vi ac,vb ae,vs af,vl f g h,vi ag,vb ah,vb ai,vb aj,vi ak,vb al,vs am,vl i j k,vi an,vi ao]] I4 ((a b)::(aA,Obj.cells #[vb ap,vb aq,vs ar,vb au,vb av,vb aw,vi ax,vb ay,vs az,vl n o p,vi q,vb r,vb s,vb t,vi u,vb v,vs w,vl c d e,vi y,vb z,vb aa,vb ab,vi ac,vb ae,vs af,vl f g h,vi ag,vb ah,vb ai,vb aj,vi ak,vb al,vs am,vl i j k,vi an,vi ao] 99 (0,0))::F4) fun e4 I5 G4=>((e4=.returned (.tuple #[])∧∃F5:b8,List.Perm G4 ((a b)::(aA,Obj.cells #[vb ap,vb aq,vs ar,vb au,vb av,vb aw,vi ax,vb ay,vs az,vl n o p,vi q,vb r,vb s,vb t,vi u,vb v,vs w,vl c d e,vi y,vb z,vb aa,vb ab,vi ac,vb ae,vs af,vl f g h,vi ag,vb ah,vb ai,vb aj,vi ak,vb al,vs am,vl i j k,vi an,vi ao] 99 (0,0))::F5)∧(∃m2:Nat,m2<m1∧Inv11 (IntKind.wrap .i64 (x+1)) m2 I5 F5))∨(∃ch:List PanicEntry,e4=.panicked ch∧∃F6:b8,List.Perm G4 ((a b)::(aA,Obj.cells #[vb ap,vb aq,vs ar,vb au,vb av,vb aw,vi ax,vb ay,vs az,vl n o p,vi q,vb r,vb s,vb t,vi u,vb v,vs w,vl c d e,vi y,vb z,vb aa,vb ab,vi ac,vb ae,vs af,vl f g h,vi ag,vb ah,vb ai,vb aj,vi ak,vb al,vs am,vl i j k,vi an,vi ao] 99 (0,0))::F6)∧Q (.panicked ch) I5 F6))) (Q (.returned (.tuple #[])) I4 F4)))∨(∃aF:List PanicEntry,e3=.panicked aF∧∃F7:b8,List.Perm G3 ((a b)::F7)∧Q (.panicked aF) I3 F7)))∨(∃aG:List PanicEntry,e2=.panicked aG∧∃F8:b8,List.Perm G2 ((a b)::F8)∧Q (.panicked aG) I2 F8)))∨(∃aH:List PanicEntry,e1=.panicked aH∧∃F9:b8,List.Perm G1 ((a b)::F9)∧Q (.panicked aH) I1 F9))
theorem pN.vc{i j k l n:Int}{o:Bs}{a:OA}{c d:Nat}{p:Int}{e:OA}{f g:Nat}{q:Int}{I:cc}{F:b8}{Q:cd}(Inv11:Int→Nat→cc→b8→Prop)(h:pN.V (fun b=>(b,Obj.cells #[.int .u8 i,.int .u8 j,.int .u8 k,.int .i64 l,.int .u8 n,.string o,.slice a c d,.int .i64 p,.slice e f g,.int .i64 q] 84 (0,0))) (.int .u8) (.int .i64) .string .slice i j k l n o a c d p e f g q I F Q Inv11):cf P 106 #[.agg #[.int .u8 i,.int .u8 j,.int .u8 k,.int .i64 l,.int .u8 n,.string o,.slice a c d,.int .i64 p,.slice e f g,.int .i64 q]] I F Q :=
 tw (A:=(cK [5000] [59,98,132] [59,98,132] oY [(11,⟨[(20,(.int .i64))],[],fun _ _ _ vs m I F=>match vs with | [.int _ y0]=>Inv11 y0 m I F | _=>False,[],[]⟩)] [] [] [] [] [] [])) [59,98,132] func106 h
end Go.Lx
namespace Go.Lx
open Go.Vc
def dB(n:Int)(F:b8)(e:Ending)(I:cc)(G:b8):Prop:=e=rX n∧G=F
theorem dB.use{Pr:Program}{f:FuncId}{args:Array Value}{I:cc}{F:b8}{n:Int}{Q:Ending→cc→b8→Prop}(h:cf Pr f args I F (dB n F))
  (k1:n=0→∀I',cc.le I I'→Q (.returned (.tuple #[])) I' F) (k2:n≠0→∀I',cc.le I I'→Q (.panicked (nH n)) I' F):cf Pr f args I F Q :=
 h.mono fun e I' G hl ⟨he,hG⟩=>by
  subst hG
  by_cases hn:n=0
  ·rw[rX,if_pos hn] at he;subst he;exact k1 hn I' hl
  ·rw[rX,if_neg hn] at he;subst he;exact k2 hn I' hl
theorem dB.fail{n b N:Int}{F:b8}{I:cc}(h:N=cm n b)(hn:n≠0):dB N F (.panicked (nH n)) I F:=⟨by rw[h,mL hn,rX,if_neg hn],rfl⟩
theorem dB.oZ{n N:Int}{F:b8}{I:cc}(h:N=n)(hn:n≠0):dB N F (.panicked (nH n)) I F:=⟨by rw[h,rX,if_neg hn],rfl⟩
theorem dB.done{N:Int}{F:b8}{I:cc}(h:N=0):dB N F (.returned (.tuple #[])) I F:=⟨by rw[h,rX,if_pos rfl],rfl⟩
theorem dB.look{b:Bool}{err:Int}(he:err≠0){Pr:Program}{f:FuncId}{args:Array Value}{I:cc}{F:b8}(h:cf Pr f args I F (ui b err F)):cf Pr f args I F (dB (cV b err) F) :=
 h.mono fun e I' G _ ⟨h1,h2⟩=>⟨by rw[h1];cases b<;>simp[cV,rX,he],h2⟩
theorem c8(b:Bool){err:Int}(he:err≠0)(I:cc)(F:b8):cf P 98 #[.bool b,.int .i64 err] I F (dB (cV b err) F):=dB.look he (mG b err I F)
theorem jo(s:ByteArray)(I:cc)(F:b8):cf P 104 #[.string s] I F (dB (cV (c9 s) 120) F):=by
 refine nK.vc ?_
 unfold nK.V
 exact cf.ret (xH (t:=s) I _) fun I1 _=>⟨_,rfl,F,.refl _,dB.use (c8 _ (by decide) I1 _) (fun q I2 _=>.inl ⟨rfl,F,.refl _,.done q⟩) (fun q I2 _=>.inr ⟨_,rfl,F,.refl _,.oZ rfl q⟩)⟩
theorem Gs(t:Nd):t.px.tQ=(IE t.kind t.oper t.cO t.n t.field t.name 0 0 0 0 0 ⟨#[]⟩&&decide (t.kids.length=0)):=by
 unfold Px.tQ IE
 rw[Nd.cG,Nd.eP,Nd.gJ,Nd.xb,Nd.gQ,Nd.fF,Nd.ja,dF]
 simp only[Bool.and_true]
theorem yx(t:Nd)(I:cc)(F:b8):cf P 162 #[t.v] I F (dB (cV t.px.tQ 120) F):=by
 refine ki.vc ?_
 unfold ki.V
 intro b_n
 rw[Gs]
 refine (vM t I _).mono fun e I1 G hI1 ⟨he,hG⟩=>?_
 subst hG
 refine⟨_,_,_,_,_,_,he,F,.refl _,_,z6 t.kind t.oper t.cO t.n t.field t.name 0 0 0 0 0 ⟨#[]⟩,fun hq=>?_,fun hq=>?_⟩
 ·rw[hq,Bool.true_and]
  have e:(((t.kids.length:Nat):Int)==0)=decide (t.kids.length=0):=by rw[Bool.eq_iff_iff];simp
  rw[e]
  refine dB.use (c8 _ (by decide) I1 _) (fun q2 I2 hI2=>.inl ⟨rfl,_,.refl _, ?_⟩) (fun q2 I2 hI2=>.inr ⟨_,rfl,_,.refl _, ?_⟩)
  ·exact .done q2
  ·exact .oZ rfl q2
 ·rw[hq,Bool.false_and]
  refine dB.use (c8 _ (by decide) I1 _) (fun q2 I2 hI2=>.inl ⟨rfl,_,.refl _, ?_⟩) (fun q2 I2 hI2=>.inr ⟨_,rfl,_,.refl _, ?_⟩)
  ·exact .done q2
  ·exact .oZ rfl q2
theorem pO(is:Bool)(t:Nd)(hs:t.px.size≤1048576)(I:cc)(F:b8)(ht:cC I F t):cf P 150 #[.bool is,t.v] I F (dB (cN is t.px) F):=by
 refine pM.vc ?_
 unfold pM.V cN
 intro b_n
 refine⟨fun h=>?_,fun h=>?_⟩
 ·rw[h]
  refine dB.use (xK t hs I _ ht.cons) (fun q1 I1 hI1=>.inl ⟨rfl,_,.refl _, ?_⟩) (fun q1 I1 hI1=>.inr ⟨_,rfl,_,.refl _, ?_⟩)
  ·exact .done q1
  ·exact .oZ rfl q1
 ·rw[h]
  refine dB.use (yx t I _) (fun q1 I1 hI1=>.inl ⟨rfl,_,.refl _, ?_⟩) (fun q1 I1 hI1=>.inr ⟨_,rfl,_,.refl _, ?_⟩)
  ·exact .done q1
  ·exact .oZ rfl q1
theorem pP{b:Bool}{n:Int}(hn:n≠0)(h:cV b n=0):b=true:=by
 unfold cV at h;cases b<;>simp_all
theorem pQ{b:Bool}{n:Int}(h:cV b n≠0):b=false∧cV b n=n:=by
 unfold cV at h ⊢;cases b<;>simp_all
theorem BP(t:Nd)(hs:t.px.size≤1048576)(I:cc)(F:b8)(ht:cC I F t):cf P 105 #[t.v] I F (dB (cV (t.px.formed&&t.px.nI) 120) F):=by
 refine nM.vc ?_
 unfold nM.V
 intro b_n
 refine dB.use (dB.look (by decide) (DR t hs I _ ht.cons)) (fun q1 I1 hI1=>.inl ⟨rfl,_,.refl _, ?_⟩) (fun q1 I1 hI1=>.inr ⟨_,rfl,_,.refl _, ?_⟩)
 ·have hf:=pP (by decide) q1
  rw[hf,Bool.true_and]
  unfold Px.nI
  rw[Nd.cG,Nd.eP]
  have hk1:(t.kind==1)=decide (t.kind=1):=rfl
  refine⟨fun h5=>⟨fun h1=>?_,fun h1=>?_⟩,fun h5=>?_⟩
  ·have h5:t.kind=5:=by simpa using h5
   have h1:t.oper=1:=by simpa using h1
   have hlen:t.kids.length=1:=by
    have:=Px.er t.px
    rw[hf] at this
    have h2:=(Bool.and_eq_true _ _▸this.symm).1
    unfold Px.gO at h2
    simp only[Bool.and_eq_true,decide_eq_true_eq] at h2
    have h3:=h2.2
    unfold Px.arity at h3
    rw[Nd.cG,if_pos (.inl h5),Nd.ja] at h3
    exact h3
   obtain⟨ad,x,had,hx,hrd,hxo,hxm⟩:=((ht.mono hI1 fun _ h=>h).cons (x:=(rS b_n t))).kids.at (i:=0) (by decide) (by omega)
   have hks:t.px.kids=[x.px]:=by
    rw[Nd.db]
    match hk:t.kids with
    | [y]=>rw[hk] at hx;simp at hx;rw[hx];rfl
    | []=>rw[hk] at hlen;simp at hlen
    | y::z::r=>rw[hk] at hlen;simp at hlen
   rw[if_pos ⟨h5,h1⟩,hks]
   simp only
   rw[Nd.cG,Nd.gJ]
   refine⟨⟨by omega,by omega⟩,ad,had,_,_,_,_,_,_,_,_,_,_,hrd,fun hk=>?_,fun hk=>?_⟩
   ·have hk':x.kind=1:=by simpa using hk
    refine dB.use (c8 _ (by decide) I1 _) (fun q2 I2 hI2=>.inl ⟨rfl,_,.refl _, ?_⟩) (fun q2 I2 hI2=>.inr ⟨_,rfl,_,.refl _, ?_⟩)
    ·have:=pP (by decide) q2
     have h2:decide (x.kind=1∧x.cO≤4)=true:=decide_eq_true ⟨hk',of_decide_eq_true this⟩
     rw[h2,hk]
     refine dB.use (c8 _ (by decide) I2 _) (fun q3 I3 hI3=>.inl ⟨rfl,_,.refl _, ?_⟩) (fun q3 I3 hI3=>.inr ⟨_,rfl,_,.refl _, ?_⟩)
     ·exact .done rfl
     ·exact absurd rfl q3
    ·have h2:decide (x.kind=1∧x.cO≤4)=false:=decide_eq_false fun h=>by
      have:=(pQ q2).1;rw[decide_eq_true h.2] at this;cases this
     rw[h2]
     exact .oZ (pQ q2).2.symm q2
   ·have hk':x.kind≠1:=by simpa using hk
    have h2:decide (x.kind=1∧x.cO≤4)=false:=decide_eq_false fun h=>hk' h.1
    rw[h2]
    refine dB.use (c8 _ (by decide) I1 _) (fun q2 I2 hI2=>.inl ⟨rfl,_,.refl _, ?_⟩) (fun q2 I2 hI2=>.inr ⟨_,rfl,_,.refl _, ?_⟩)
    ·cases q2
    ·exact .oZ rfl q2
  ·have h1:t.oper≠1:=by simpa using h1
   rw[if_neg fun h=>h1 h.2,←hk1]
   refine dB.use (c8 _ (by decide) I1 _) (fun q2 I2 hI2=>.inl ⟨rfl,_,.refl _, ?_⟩) (fun q2 I2 hI2=>.inr ⟨_,rfl,_,.refl _, ?_⟩)
   ·exact .done q2
   ·exact .oZ rfl q2
  ·have h5:t.kind≠5:=by simpa using h5
   rw[if_neg fun h=>h5 h.1,←hk1]
   refine dB.use (c8 _ (by decide) I1 _) (fun q2 I2 hI2=>.inl ⟨rfl,_,.refl _, ?_⟩) (fun q2 I2 hI2=>.inr ⟨_,rfl,_,.refl _, ?_⟩)
   ·exact .done q2
   ·exact .oZ rfl q2
 ·exact .oZ (by rw[(pQ q1).1];rfl) q1
theorem Ad(s:ByteArray)(i:Int):0≤kW s i∧kW s i≤2:=by
 unfold kW;simp only;repeat' split
 all_goals decide
theorem E4{s:ByteArray}{i:Int}(h:i<(s.size:Int)):i+kW s i≤s.size:=by
 have hb:cZ s (i+1)≠0→i+1<(s.size:Int):=fun hne=>by
  unfold cZ at hne;split at hne
  ·assumption
  ·exact absurd rfl hne
 unfold kW;simp only
 split
 ·omega
 ·split
  ·rename_i hc;split
   ·rename_i hd;have:=hb (by omega);omega
   ·omega
  ·split
   ·split
    ·rename_i hd;have:=hb (by omega);omega
    ·omega
   ·omega
def qn(c:Int):List Value:=[.int .u8 c]
def bytesOf(s:ByteArray):List Int:=s.data.toList.map fun b=>(b.toNat:Int)
theorem rY{s:ByteArray}{i j:Int}(h0:0≤i)(h1:i≤j)(h2:j≤s.size):((cut s i j).size:Int)=j-i:=by
 unfold cut;rw[ByteArray.size_extract];omega
theorem BQ{s:ByteArray}{i j k:Int}(h0:0≤i)(hk:0≤k)(h1:i+k<j)(h2:j≤s.size):bt (cut s i j) k=bt s (i+k):=by
 have hsz:=rY (s:=s) (i:=i) (j:=j) h0 (by omega) h2
 unfold bt
 have e1:(cut s i j)[k.toNat]? = s[(i+k).toNat]?:=by
  have hk':k.toNat<(s.extract i.toNat j.toNat).size:=by unfold cut at hsz;omega
  have hi':(i+k).toNat<s.size:=by omega
  have a1:(s.extract i.toNat j.toNat)[k.toNat]? = some (s.extract i.toNat j.toNat)[k.toNat]:=by simp[hk']
  have a2:s[(i+k).toNat]? = some s[(i+k).toNat]:=by simp[hi']
  show (s.extract i.toNat j.toNat)[k.toNat]? = _
  rw[a1,a2,ByteArray.getElem_extract]
  congr 2
  omega
 rw[e1]
def TR.v2:TR→Value
 | .ok t=>.tuple #[t.v,.int .i64 0]
 | .bad e p=>.tuple #[(zT 0).v,.int .i64 e]
theorem HO{α:Type}{C:Prop}[d:Decidable C]{x y z:α}(h:z=if C then x else y):∃C':Prop,(C'∧z=x)∨(¬C'∧z=y) :=
 ⟨C,(Classical.em C).imp (fun c=>⟨c,by rw[h,if_pos c]⟩) fun c=>⟨c,by rw[h,if_neg c]⟩⟩
theorem CW(s:ByteArray)(i:Int):∃C:Prop,(C∧sX s i=.bad 113 i)∨(¬C∧sX s i =
  .ok ⟨3,cut s i (if kV (cZ s (eX dI s i))=1 then eX dI s i else eX dI s i+1),kV (cZ s (eX dI s i)),iE s i 0,i⟩):=by
 exact HO rfl
theorem BR(s:ByteArray)(i:Int):(∃t,sX s i=.ok t∧t.pos=i)∨sX s i=.bad 113 i:=by
 obtain⟨C,⟨_,h⟩ | ⟨_,h⟩⟩:=CW s i
 ·exact .inr h
 ·exact .inl ⟨_,h,rfl⟩
def xM(s:ByteArray)(i:Int)(t:Tok):Prop :=
 t.pos=i∧t.pos+t.text.size≤s.size∧t.text=cut s t.pos (t.pos+t.text.size)∧((t.kind=0∧i=s.size∧t=zT s.size)∨(0<t.kind∧t.kind≤4∧0<t.text.size))
theorem xM.mk'{s:ByteArray}{i e k y n:Int}(h0:0≤i)(h:i<e)(h1:e≤s.size)(hk:0<k∧k≤4):xM s i ⟨k,cut s i e,y,n,i⟩:=by
 have hc:=rY h0 (by omega:i≤e) h1
 refine⟨rfl, ?_, ?_,.inr ⟨hk.1,hk.2, ?_⟩⟩
 ·show i+((cut s i e).size:Int)≤_;omega
 ·show cut s i e=cut s i (i+(cut s i e).size);rw[hc];congr 1;omega
 ·show 0<(cut s i e).size;omega
theorem E5(s:ByteArray)(i:Int):cut s i i=⟨#[]⟩:=by
 unfold cut
 have:(s.extract i.toNat i.toNat).size=0:=by rw[ByteArray.size_extract];omega
 exact ByteArray.size_eq_zero_iff.1 this
theorem vR{s:ByteArray}{f:Int}(h0:0≤f)(h1:f≤s.size) :
  (∃t,uh s f=.ok t∧xM s (jU s f) t)∨(∃e,uh s f=.bad e (jU s f)∧(e=111∨e=112∨e=113)):=by
 have ho:=sW (s:=s) h1
 unfold uh
 simp only
 generalize jU s f=i at ho ⊢
 by_cases hi:i=s.size
 ·rw[if_pos hi]
  refine .inl ⟨_,rfl,rfl, ?_, ?_,.inl ⟨rfl,hi,by rw[hi]⟩⟩
  ·show i+((0:Nat):Int)≤_;omega
  ·show (⟨#[]⟩:ByteArray)=cut s i (i+((0:Nat):Int))
   rw[show i+((0:Nat):Int)=i by omega,E5]
 ·have hlt:i<s.size:=by omega
  rw[if_neg hi]
  by_cases hd:dI (bt s i)=true
  ·rw[if_pos hd]
   obtain⟨C,⟨_,h⟩ | ⟨_,h⟩⟩:=CW s i
   ·exact .inr ⟨_,h,by simp⟩
   ·refine .inl ⟨_,h, ?_⟩
    have hr:=eL (p:=dI) hlt
    rw[if_pos hd] at hr
    have:=oS (p:=dI) (s:=s) (i:=i+1) (by omega)
    refine xM.mk' (by omega) ?_ ?_ (by decide)
    ·split<;>omega
    ·split
     ·omega
     ·rename_i hne
      have:eX dI s i<s.size:=by
       rcases Int.lt_or_le (eX dI s i) s.size with h | h
       ·exact h
       ·rw[show cZ s (eX dI s i)=0 by unfold cZ;rw[if_neg (by omega)]] at hne
        exact absurd rfl hne
      omega
  ·rw[if_neg hd]
   by_cases hm:gI (bt s i)=true
   ·rw[if_pos hm]
    have hr:=eL (p:=dE) hlt
    rw[if_pos (by simp[dE,hm])] at hr
    have:=oS (p:=dE) (s:=s) (i:=i+1) (by omega)
    unfold tG
    simp only
    split
    ·exact .inr ⟨_,rfl,by simp⟩
    ·exact .inl ⟨_,rfl,xM.mk' (by omega) (by omega) (by omega) (by split<;>decide)⟩
   ·rw[if_neg hm]
    have hr:=Ad s i
    have hl:=E4 hlt
    unfold tH
    split
    ·exact .inr ⟨_,rfl,by simp⟩
    ·exact .inl ⟨_,rfl,xM.mk' (by omega) (by omega) (by omega) (by decide)⟩
end Go.Lx
namespace Go.Lx
open Go.Vc Go.Proofs.Tryz
def td:List (Nat×List Sh):=[(3,[.one (.int .i64)]),(4,[.one .bool]),(9,[.one .str]),(105,[.one .slc]),(190,[.agg [(.int .u8),.str,(.int .u8),(.int .i64),(.int .i64)],.one (.int .i64),.one (.int .i64)]),(214,[.agg [(.int .u8),.str,(.int .u8),(.int .i64),(.int .i64)],.one (.int .i64)])]
def nN.V(vi:Int→Value)(wr:Int→Int)(s:Bs)(p:Int)(I:cc)(F:b8)(Q:cd)(Inv8:Int→Bool→Int→Nat→cc→b8→Prop):Prop:=(∃m:Nat,Inv8 0 false p m I F)∧∀(x:Int) (a:Bool) (i:Int) (m1:Nat) (I1:cc) (F1:b8),cc.le I I1→Inv8 x a i m1 I1 F1→(Dt (i<(s.size:Int)) ((0≤i∧i<(s.size:Int))∧(It ((bt s i)==10) (It ((bt s i)==35) (It false (It ((bt s i)!=32) (It ((bt s i)!=9) (It ((bt s i)!=10) (It ((bt s i)!=13) (Q (.returned (vi i)) I1 F1) (∃m2:Nat,m2<m1∧Inv8 x true (wr (i+1)) m2 I1 F1)) (∃m3:Nat,m3<m1∧Inv8 x true (wr (i+1)) m3 I1 F1)) (∃m4:Nat,m4<m1∧Inv8 x true (wr (i+1)) m4 I1 F1)) (∃m5:Nat,m5<m1∧Inv8 x true (wr (i+1)) m5 I1 F1)) (∃m6:Nat,m6<m1∧Inv8 x true (wr (i+1)) m6 I1 F1)) (It true (It ((bt s i)!=32) (It ((bt s i)!=9) (It ((bt s i)!=10) (It ((bt s i)!=13) (Q (.returned (vi i)) I1 F1) (∃m7:Nat,m7<m1∧Inv8 x false (wr (i+1)) m7 I1 F1)) (∃m8:Nat,m8<m1∧Inv8 x false (wr (i+1)) m8 I1 F1)) (∃m9:Nat,m9<m1∧Inv8 x false (wr (i+1)) m9 I1 F1)) (∃b:Nat,b<m1∧Inv8 x false (wr (i+1)) b I1 F1)) (∃c:Nat,c<m1∧Inv8 x false (wr (i+1)) c I1 F1))) (It ((bt s i)==35) (It false (It ((bt s i)!=32) (It ((bt s i)!=9) (It ((bt s i)!=10) (It ((bt s i)!=13) (Q (.returned (vi i)) I1 F1) (∃d:Nat,d<m1∧Inv8 x true (wr (i+1)) d I1 F1)) (∃e:Nat,e<m1∧Inv8 x true (wr (i+1)) e I1 F1)) (∃f:Nat,f<m1∧Inv8 x true (wr (i+1)) f I1 F1)) (∃g:Nat,g<m1∧Inv8 x true (wr (i+1)) g I1 F1)) (∃h:Nat,h<m1∧Inv8 x true (wr (i+1)) h I1 F1)) (It (!a) (It ((bt s i)!=32) (It ((bt s i)!=9) (It ((bt s i)!=10) (It ((bt s i)!=13) (Q (.returned (vi i)) I1 F1) (∃j:Nat,j<m1∧Inv8 x a (wr (i+1)) j I1 F1)) (∃k:Nat,k<m1∧Inv8 x a (wr (i+1)) k I1 F1)) (∃l:Nat,l<m1∧Inv8 x a (wr (i+1)) l I1 F1)) (∃n:Nat,n<m1∧Inv8 x a (wr (i+1)) n I1 F1)) (∃o:Nat,o<m1∧Inv8 x a (wr (i+1)) o I1 F1))))) (Q (.returned (vi (s.size:Int))) I1 F1))
theorem nN.vc{s:Bs}{a:Int}{I:cc}{F:b8}{Q:cd}(Inv8:Int→Bool→Int→Nat→cc→b8→Prop)(h:nN.V (.int .i64) (IntKind.wrap .i64) s a I F Q Inv8):cf P 141 #[.string s,.int .i64 a] I F Q :=
 tw (A:=(cK [3003,6001,8001,10001,10004,10008,10012,10016] [] [] td [(8,⟨[(4,(.int .i64)),(5,.bool),(6,(.int .i64))],[],fun _ _ _ vs m I F=>match vs with | [.int _ y0,.bool y1,.int _ y2]=>Inv8 y0 y1 y2 m I F | _=>False,[],[]⟩)] [] [] [] [] [] [])) [] func141 h
def lH.V(ka:Nat→Int→Bs→Int→Int→Int→Nat×Obj)(vb vi:Int→Value)(vs:Bs→Value)(wr:Int→Int)(s:Bs)(c:Int)(I:cc)(F:b8)(Q:cd)(Inv6:Int→Nat→cc→b8→Prop):Prop:=∀b:Nat,(∃m:Nat,Inv6 c m I F)∧∀(a:Int) (m1:Nat) (I1:cc) (F1:b8),cc.le I I1→Inv6 a m1 I1 F1→(Dt (a<(s.size:Int)) ((0≤a∧a<(s.size:Int))∧cy P 102 (#[vb (bt s a)]) I1 ((ka b 0 (⟨#[]⟩:Bs) 0 0 0)::·) F1 .bool fun r I2 F2=>(It r (∃m2:Nat,m2<m1∧Inv6 (wr (a+1)) m2 I2 F2) ((0≤c∧c≤a∧a≤(s.size:Int))∧∀e:Nat,(Dt ((wr (a-c))>16) (Q (.returned (.tuple #[.agg #[vb 0,vs (⟨#[]⟩:Bs),vb 0,vi 0,vi 0],vi 112])) I2 F2) (cy P 100 (#[vs (s.extract (Int.toNat c) (Int.toNat a))]) I2 ((ka b 0 (⟨#[]⟩:Bs) 0 0 0)::(ka e 2 (s.extract (Int.toNat c) (Int.toNat a)) 0 0 c)::·) F2 .bool fun r1 I3 F3=>(It r1 (Q (.returned (.tuple #[.agg #[vb 1,vs (s.extract (Int.toNat c) (Int.toNat a)),vb 0,vi 0,vi c],vi 0])) I3 F3) (Q (.returned (.tuple #[.agg #[vb 2,vs (s.extract (Int.toNat c) (Int.toNat a)),vb 0,vi 0,vi c],vi 0])) I3 F3))))))) ((0≤c∧c≤a∧a≤(s.size:Int))∧∀d:Nat,(Dt ((wr (a-c))>16) (Q (.returned (.tuple #[.agg #[vb 0,vs (⟨#[]⟩:Bs),vb 0,vi 0,vi 0],vi 112])) I1 F1) (cy P 100 (#[vs (s.extract (Int.toNat c) (Int.toNat a))]) I1 ((ka b 0 (⟨#[]⟩:Bs) 0 0 0)::(ka d 2 (s.extract (Int.toNat c) (Int.toNat a)) 0 0 c)::·) F1 .bool fun r2 I4 F4=>(It r2 (Q (.returned (.tuple #[.agg #[vb 1,vs (s.extract (Int.toNat c) (Int.toNat a)),vb 0,vi 0,vi c],vi 0])) I4 F4) (Q (.returned (.tuple #[.agg #[vb 2,vs (s.extract (Int.toNat c) (Int.toNat a)),vb 0,vi 0,vi c],vi 0])) I4 F4))))))
theorem lH.vc{s:Bs}{f:Int}{I:cc}{F:b8}{Q:cd}(Inv6:Int→Nat→cc→b8→Prop)(h:lH.V (fun W a b c d e=>(W,Obj.cells #[.int .u8 a,.string b,.int .u8 c,.int .i64 d,.int .i64 e] 145 (0,0))) (.int .u8) (.int .i64) .string (IntKind.wrap .i64) s f I F Q Inv6):cf P 142 #[.string s,.int .i64 f] I F Q :=
 tw (A:=(cK [2003,2008,5003,8000] [] [100,102] td [(6,⟨[(6,(.int .i64))],[],fun _ _ _ vs m I F=>match vs with | [.int _ y0]=>Inv6 y0 m I F | _=>False,[],[]⟩)] [] [] [] [] [] [])) [100,102] func142 h
def kj.V(ka:Nat→Int→Bs→Int→Int→Int→Nat×Obj)(kb:Int→Bs→Int→Int→Int→Value)(vb vi:Int→Value)(vs:Bs→Value)(wr:Int→Int)(s:Bs)(d:Int)(I:cc)(F:b8)(Q:cd)(Inv8:Int→Int→Int→Int→Bs→Int→Int→Int→cc→b8→Prop)(Inv10:Int→Int→Int→Int→Bs→Int→Int→Int→Nat→cc→b8→Prop)(Inv29:Int→Int→Bs→Int→Int→Int→cc→b8→Prop)(Inv39:Int→Bs→Int→Int→Int→cc→b8→Prop)(Inv45:Int→Bs→Int→Int→Int→cc→b8→Prop)(Inv51:Int→Bs→Int→Int→Int→cc→b8→Prop)(Inv57:Int→cc→b8→Prop):Prop:=∀b:Nat,∀ao:Nat,((∃m:Nat,Inv10 0 d 0 0 (⟨#[]⟩:Bs) 0 0 0 m I F)∧∀(x f n y:Int) (z:Bs) (aa ab ac:Int) (m1:Nat) (I1:cc) (F1:b8),cc.le I I1→Inv10 x f n y z aa ab ac m1 I1 F1→(Dt (f<(s.size:Int)) ((0≤f∧f<(s.size:Int))∧cy P 131 (#[vb (bt s f)]) I1 ((ka b y z aa ab ac)::(ka ao 3 (⟨#[]⟩:Bs) 1 0 d)::·) F1 .bool fun r I2 F2=>(It r (Dt (n>922337203685477580) (Q (.returned (.tuple #[(kb 0 (⟨#[]⟩:Bs) 0 0 0),vi 113])) I2 F2) ((0≤f∧f<(s.size:Int))∧(∃m2:Nat,m2<m1∧Inv10 x (wr (f+1)) (IntKind.wrap .u64 ((IntKind.wrap .u64 (10*n))+(IntKind.wrap .u64 (IntKind.wrap .u8 ((bt s f)-48))))) y z aa ab ac m2 I2 F2))) (Inv8 x f n y z aa ab ac I2 F2))) (Inv8 x f n y z aa ab ac I1 F1)))∧∀(x1 a n1 ae:Int) (af:Bs) (ag ah ai:Int) (I3:cc) (F3:b8),cc.le I I3→Inv8 x1 a n1 ae af ag ah ai I3 F3→((Dt (n1>9223372036854775807) (Q (.returned (.tuple #[(kb 0 (⟨#[]⟩:Bs) 0 0 0),vi 113])) I3 F3) (Dt ((wr (a-d))>1) ((0≤d∧d<(s.size:Int))∧(It ((bt s d)==48) (Q (.returned (.tuple #[(kb 0 (⟨#[]⟩:Bs) 0 0 0),vi 113])) I3 F3) (Inv29 x1 ae af ag ah ai I3 F3))) (Inv29 x1 ae af ag ah ai I3 F3))))∧∀(x2 aj:Int) (ak:Bs) (al am an:Int) (I4:cc) (F4:b8),cc.le I3 I4→Inv29 x2 aj ak al am an I4 F4→((Dt (a<(s.size:Int)) ((0≤a∧a<(s.size:Int))∧(It ((bt s a)==113) (Inv39 3 (⟨#[]⟩:Bs) 2 (wr n1) d I4 F4) (Inv39 3 (⟨#[]⟩:Bs) 1 (wr n1) d I4 F4))) (Inv39 3 (⟨#[]⟩:Bs) 1 (wr n1) d I4 F4)))∧∀(p:Int) (q:Bs) (ad t u:Int) (I5:cc) (F5:b8),cc.le I4 I5→Inv39 p q ad t u I5 F5→((Dt (a<(s.size:Int)) ((0≤a∧a<(s.size:Int))∧(It ((bt s a)==112) (Inv45 p q 3 t u I5 F5) (Inv45 p q ad t u I5 F5))) (Inv45 p q ad t u I5 F5)))∧∀(j:Int) (k:Bs) (v l o:Int) (I6:cc) (F6:b8),cc.le I5 I6→Inv45 j k v l o I6 F6→((Dt (a<(s.size:Int)) ((0≤a∧a<(s.size:Int))∧(It ((bt s a)==116) (Inv51 j k 4 l o I6 F6) (Inv51 j k v l o I6 F6))) (Inv51 j k v l o I6 F6)))∧∀(g:Int) (w:Bs) (e h i:Int) (I7:cc) (F7:b8),cc.le I6 I7→Inv51 g w e h i I7 F7→((It (e != 1) (Inv57 (wr (a+1)) I7 F7) (Inv57 a I7 F7)))∧∀(c:Int) (I8:cc) (F8:b8),cc.le I7 I8→Inv57 c I8 F8→(Dt (c<(s.size:Int)) ((0≤c∧c<(s.size:Int))∧cy P 102 (#[vb (bt s c)]) I8 ((ka b aj ak al am an)::(ka ao g w e h i)::·) F8 .bool fun r1 I9 F9=>(It r1 (Q (.returned (.tuple #[(kb 0 (⟨#[]⟩:Bs) 0 0 0),vi 113])) I9 F9) ((0≤c∧c<(s.size:Int))∧(Dt ((bt s c)≥65) ((0≤c∧c<(s.size:Int))∧(Dt ((bt s c)≤90) (Q (.returned (.tuple #[(kb 0 (⟨#[]⟩:Bs) 0 0 0),vi 113])) I9 F9) ((0≤d∧d≤c∧c≤(s.size:Int))∧Q (.returned (.tuple #[(kb g (s.extract (Int.toNat d) (Int.toNat c)) e h i),vi 0])) I9 F9))) ((0≤d∧d≤c∧c≤(s.size:Int))∧Q (.returned (.tuple #[(kb g (s.extract (Int.toNat d) (Int.toNat c)) e h i),vi 0])) I9 F9))))) ((0≤d∧d≤c∧c≤(s.size:Int))∧Q (.returned (.tuple #[(kb g (s.extract (Int.toNat d) (Int.toNat c)) e h i),vi 0])) I8 F8))
theorem kj.vc{s:Bs}{f:Int}{I:cc}{F:b8}{Q:cd}(Inv8:Int→Int→Int→Int→Bs→Int→Int→Int→cc→b8→Prop)(Inv10:Int→Int→Int→Int→Bs→Int→Int→Int→Nat→cc→b8→Prop)(Inv29:Int→Int→Bs→Int→Int→Int→cc→b8→Prop)(Inv39:Int→Bs→Int→Int→Int→cc→b8→Prop)(Inv45:Int→Bs→Int→Int→Int→cc→b8→Prop)(Inv51:Int→Bs→Int→Int→Int→cc→b8→Prop)(Inv57:Int→cc→b8→Prop)(h:kj.V (fun W a b c d e=>(W,Obj.cells #[.int .u8 a,.string b,.int .u8 c,.int .i64 d,.int .i64 e] 145 (0,0))) (fun a b c d e=>.agg #[.int .u8 a,.string b,.int .u8 c,.int .i64 d,.int .i64 e]) (.int .u8) (.int .i64) .string (IntKind.wrap .i64) s f I F Q Inv8 Inv10 Inv29 Inv39 Inv45 Inv51 Inv57):cf P 143 #[.string s,.int .i64 f] I F Q :=
 tw (A:=(cK [4003,4008,5001,9001,9006,9011,12003,12008,14003,14008,16003,16008,18002,20003,20008,20013,20018] [] [102,131] td [(8,⟨[(5,(.int .i64)),(7,(.int .i64)),(8,(.int .u64))],[(0,[(.int .u8),.str,(.int .u8),(.int .i64),(.int .i64)])],fun _ _ _ vs m I F=>match vs with | [.int _ y0,.int _ y1,.int _ y2,.int _ y3,.string y4,.int _ y5,.int _ y6,.int _ y7]=>Inv8 y0 y1 y2 y3 y4 y5 y6 y7 I F | _=>False,[],[]⟩),(10,⟨[(5,(.int .i64)),(7,(.int .i64)),(8,(.int .u64))],[(0,[(.int .u8),.str,(.int .u8),(.int .i64),(.int .i64)])],fun _ _ _ vs m I F=>match vs with | [.int _ y0,.int _ y1,.int _ y2,.int _ y3,.string y4,.int _ y5,.int _ y6,.int _ y7]=>Inv10 y0 y1 y2 y3 y4 y5 y6 y7 m I F | _=>False,[],[]⟩),(29,⟨[(5,(.int .i64))],[(0,[(.int .u8),.str,(.int .u8),(.int .i64),(.int .i64)])],fun _ _ _ vs m I F=>match vs with | [.int _ y0,.int _ y1,.string y2,.int _ y3,.int _ y4,.int _ y5]=>Inv29 y0 y1 y2 y3 y4 y5 I F | _=>False,[],[]⟩),(39,⟨[],[(1,[(.int .u8),.str,(.int .u8),(.int .i64),(.int .i64)])],fun _ _ _ vs m I F=>match vs with | [.int _ y0,.string y1,.int _ y2,.int _ y3,.int _ y4]=>Inv39 y0 y1 y2 y3 y4 I F | _=>False,[],[]⟩),(45,⟨[],[(1,[(.int .u8),.str,(.int .u8),(.int .i64),(.int .i64)])],fun _ _ _ vs m I F=>match vs with | [.int _ y0,.string y1,.int _ y2,.int _ y3,.int _ y4]=>Inv45 y0 y1 y2 y3 y4 I F | _=>False,[],[]⟩),(51,⟨[],[(1,[(.int .u8),.str,(.int .u8),(.int .i64),(.int .i64)])],fun _ _ _ vs m I F=>match vs with | [.int _ y0,.string y1,.int _ y2,.int _ y3,.int _ y4]=>Inv51 y0 y1 y2 y3 y4 I F | _=>False,[],[]⟩),(57,⟨[(7,(.int .i64))],[],fun _ _ _ vs m I F=>match vs with | [.int _ y0]=>Inv57 y0 I F | _=>False,[],[]⟩)] [] [] [] [] [] [])) [102,131] func143 h
def nP.V(vb vi:Int→Value)(vs:Bs→Value)(wr:Int→Int)(s:Bs)(a:Int)(I:cc)(F:b8)(Q:cd)(Inv8:Int→Int→Int→Bs→Int→Int→Int→Nat→cc→b8→Prop):Prop:=∀b:Nat,∀(b1:Nat) (I1:cc),cc.le I I1→I1 b1=some (Obj.cells #[vs (⟨#[61,61]⟩:Bs),vs (⟨#[33,61]⟩:Bs),vs (⟨#[60,61]⟩:Bs),vs (⟨#[62,61]⟩:Bs),vs (⟨#[38,38]⟩:Bs),vs (⟨#[124,124]⟩:Bs),vs (⟨#[123]⟩:Bs),vs (⟨#[125]⟩:Bs),vs (⟨#[40]⟩:Bs),vs (⟨#[41]⟩:Bs),vs (⟨#[44]⟩:Bs),vs (⟨#[59]⟩:Bs),vs (⟨#[63]⟩:Bs),vs (⟨#[58]⟩:Bs),vs (⟨#[61]⟩:Bs),vs (⟨#[33]⟩:Bs),vs (⟨#[60]⟩:Bs),vs (⟨#[62]⟩:Bs),vs (⟨#[43]⟩:Bs),vs (⟨#[45]⟩:Bs),vs (⟨#[42]⟩:Bs),vs (⟨#[47]⟩:Bs),vs (⟨#[37]⟩:Bs)] 9 (0,0))→(∃m:Nat,Inv8 0 0 0 (⟨#[]⟩:Bs) 0 0 0 m I1 F)∧∀(x i c:Int) (d:Bs) (e f g:Int) (m1:Nat) (I2:cc) (F1:b8),cc.le I1 I2→Inv8 x i c d e f g m1 I2 F1→(Dt (i<(23:Int)) ((0≤i∧i<(23:Int))∧∃ad:Addr,some ⟨b1,0,none⟩=some ad∧∃(m2:Bs),Rd I2 ((b,Obj.cells #[vb c,vs d,vb e,vi f,vi g] 145 (0,0))::F1) (ad.add (Int.toNat i*1)) [vs m2]∧(Dt ((wr (a+(m2.size:Int)))≤(s.size:Int)) ((0≤a∧a≤(wr (a+(m2.size:Int)))∧(wr (a+(m2.size:Int)))≤(s.size:Int))∧((0≤i∧i<(23:Int))∧∃h:Addr,some ⟨b1,0,none⟩=some h∧∃(m3:Bs),Rd I2 ((b,Obj.cells #[vb c,vs d,vb e,vi f,vi g] 145 (0,0))::F1) (h.add (Int.toNat i*1)) [vs m3]∧(It ((s.extract (Int.toNat a) (Int.toNat ((wr (a+(m2.size:Int)))))).toList==m3.toList) ((0≤i∧i<(23:Int))∧∃j:Addr,some ⟨b1,0,none⟩=some j∧∃(m4:Bs),Rd I2 ((b,Obj.cells #[vb c,vs d,vb e,vi f,vi g] 145 (0,0))::F1) (j.add (Int.toNat i*1)) [vs m4]∧Q (.returned (.tuple #[.agg #[vb 4,vs m4,vb 0,vi 0,vi a],vi 0])) I2 F1) (∃m5:Nat,m5<m1∧Inv8 x (wr (i+1)) c d e f g m5 I2 F1)))) (∃m6:Nat,m6<m1∧Inv8 x (wr (i+1)) c d e f g m6 I2 F1))) (Q (.returned (.tuple #[.agg #[vb 0,vs (⟨#[]⟩:Bs),vb 0,vi 0,vi 0],vi 111])) I2 F1))
theorem nP.vc{s:Bs}{a:Int}{I:cc}{F:b8}{Q:cd}(Inv8:Int→Int→Int→Bs→Int→Int→Int→Nat→cc→b8→Prop)(h:nP.V (.int .u8) (.int .i64) .string (IntKind.wrap .i64) s a I F Q Inv8):cf P 144 #[.string s,.int .i64 a] I F Q :=
 tw (A:=(cK [3003,6005,6017] [] [] td [(8,⟨[(5,(.int .i64)),(7,(.int .i64))],[(0,[(.int .u8),.str,(.int .u8),(.int .i64),(.int .i64)])],fun _ _ _ vs m I F=>match vs with | [.int _ y0,.int _ y1,.int _ y2,.string y3,.int _ y4,.int _ y5,.int _ y6]=>Inv8 y0 y1 y2 y3 y4 y5 y6 m I F | _=>False,[],[]⟩)] [1000] [] [] [] [] [])) [] func144 h
def pR.V(ka:Nat→Int→Bs→Int→Int→Int→Nat×Obj)(kb:Int→Bs→Int→Int→Int→Value)(vb vi:Int→Value)(vs:Bs→Value)(s:Bs)(w:Int)(I:cc)(F:b8)(Q:cd)  : Prop:=∀b:Nat,cy P 141 #[vs s,vi w] I ((ka b 0 (⟨#[]⟩:Bs) 0 0 0)::·) F vi fun r I1 F1=>(It (r==(s.size:Int)) (Q (.returned (.tuple #[(kb 0 (⟨#[]⟩:Bs) 0 0 r),vi 0,vi 0])) I1 F1) (∀a:Nat,((0≤r∧r<(s.size:Int))∧cy P 101 (#[vb (bt s r)]) I1 ((ka b 0 (⟨#[]⟩:Bs) 0 0 0)::(ka a 0 (⟨#[]⟩:Bs) 0 0 0)::·) F1 .bool fun r1 I2 F2=>(It r1 (dg P 142 #[vs s,vi r] I2 ((ka b 0 (⟨#[]⟩:Bs) 0 0 0)::(ka a 0 (⟨#[]⟩:Bs) 0 0 0)::·) F2 fun e3 I3 G3=>∃(p:Int) (q:Bs) (t u v m:Int),e3=.returned (.tuple #[(kb p q t u v),vi m])∧G3 fun F3=>(It (m != 0) (Q (.returned (.tuple #[(kb p q t u v),vi m,vi r])) I3 F3) (Q (.returned (.tuple #[(kb p q t u v),vi m,vi 0])) I3 F3))) ((0≤r∧r<(s.size:Int))∧cy P 131 (#[vb (bt s r)]) I2 ((ka b 0 (⟨#[]⟩:Bs) 0 0 0)::(ka a 0 (⟨#[]⟩:Bs) 0 0 0)::·) F2 .bool fun r2 I4 F4=>(It r2 (dg P 143 #[vs s,vi r] I4 ((ka b 0 (⟨#[]⟩:Bs) 0 0 0)::(ka a 0 (⟨#[]⟩:Bs) 0 0 0)::·) F4 fun e5 I5 G5=>∃(c:Int) (d:Bs) (e f g n:Int),e5=.returned (.tuple #[(kb c d e f g),vi n])∧G5 fun F5=>(It (n != 0) (Q (.returned (.tuple #[(kb c d e f g),vi n,vi r])) I5 F5) (Q (.returned (.tuple #[(kb c d e f g),vi n,vi 0])) I5 F5))) (dg P 144 #[vs s,vi r] I4 ((ka b 0 (⟨#[]⟩:Bs) 0 0 0)::(ka a 0 (⟨#[]⟩:Bs) 0 0 0)::·) F4 fun e6 I6 G6=>∃(h:Int) (i:Bs) (j k l o:Int),e6=.returned (.tuple #[(kb h i j k l),vi o])∧G6 fun F6=>(It (o != 0) (Q (.returned (.tuple #[(kb h i j k l),vi o,vi r])) I6 F6) (Q (.returned (.tuple #[(kb h i j k l),vi o,vi 0])) I6 F6)))))))))
theorem pR.vc{s:Bs}{f:Int}{I:cc}{F:b8}{Q:cd}  (h:pR.V (fun W a b c d e=>(W,Obj.cells #[.int .u8 a,.string b,.int .u8 c,.int .i64 d,.int .i64 e] 145 (0,0))) (fun a b c d e=>.agg #[.int .u8 a,.string b,.int .u8 c,.int .i64 d,.int .i64 e]) (.int .u8) (.int .i64) .string s f I F Q):cf P 119 #[.string s,.int .i64 f] I F Q :=
 tw (A:=(an [2003,7003,9003,11001] [101,131,141,142,143,144] td)) [101,131,141,142,143,144] func119 h
def lI.V(vb vi:Int→Value)(vs:Bs→Value)(vl:OA→Nat→Nat→Value)(s:Bs)(I:cc)(F:b8)(Q:cd)(Inv7:OA→Nat→Nat→Int→Int→OA→Nat→Nat→Int→Nat→cc→b8→Prop):Prop:=(∃m:Nat,Inv7 none 0 0 0 0 none 0 0 0 m I F)∧∀(n:OA) (o p:Nat) (x x1:Int) (g:OA) (h i:Nat) (q:Int) (m1:Nat) (I1:cc) (F1:b8),cc.le I I1→Inv7 n o p x x1 g h i q m1 I1 F1→dg P 119 #[vs s,vi q] I1 (·) F1 fun e1 I2 G1=>∃(a:Int) (c:Bs) (e f d r1 r2:Int),e1=.returned (.tuple #[.agg #[vb a,vs c,vb e,vi f,vi d],vi r1,vi r2])∧G1 fun F2=>∀r:Nat,(It (r1 != 0) (Q (.returned (.tuple #[vl g h i,vi r1,vi r2])) I2 F2) (∀(b:Nat) (I3:cc),cc.le I2 I3→I3 b=some (Obj.cells #[vb a,vs c,vb e,vi f,vi d] 145 (0,0))→cF P (Builtin.append_ #[105,105] 105 #[vl g h i,vl (some ⟨b,0,none⟩) 1 1]) I3 ((r,Obj.cells #[vb a,vs c,vb e,vi f,vi d] 145 (0,0))::F2) fun v I4 G2=>∃(j:OA) (k l:Nat),v=vl j k l∧∃F3:b8,List.Perm G2 ((r,Obj.cells #[vb a,vs c,vb e,vi f,vi d] 145 (0,0))::F3)∧(It (a==0) (Q (.returned (.tuple #[vl j k l,vi 0,vi 0])) I4 F3) (∃m2:Nat,m2<m1∧Inv7 n o p x x1 j k l (IntKind.wrap .i64 (d+(c.size:Int))) m2 I4 F3))))
theorem lI.vc{s:Bs}{I:cc}{F:b8}{Q:cd}(Inv7:OA→Nat→Nat→Int→Int→OA→Nat→Nat→Int→Nat→cc→b8→Prop)(h:lI.V (.int .u8) (.int .i64) .string .slice s I F Q Inv7):cf P 84 #[.string s] I F Q :=
 tw (A:=(cK [4001,7002] [] [119] td [(7,⟨[(2,.slc),(3,(.int .i64)),(4,(.int .i64)),(5,.slc),(6,(.int .i64))],[],fun _ _ _ vs m I F=>match vs with | [.slice y0 y1 y2,.int _ y3,.int _ y4,.slice y5 y6 y7,.int _ y8]=>Inv7 y0 y1 y2 y3 y4 y5 y6 y7 y8 m I F | _=>False,[],[]⟩)] [6002] [] [] [] [] [])) [119] func84 h
end Go.Lx
namespace Go.Lx
open Go.Vc
theorem BS{s:ByteArray}(hs:cW s){i:Int}(h0:0≤i)(h1:i≤s.size)(I:cc)(F:b8) :
  cf P 141 #[.string s,.int .i64 i] I F (dS (.int .i64 (jU s i)) F):=by
 have hs':=hs
 unfold cW at hs'
 refine nN.vc (fun x r j m I' F'=>0≤j∧j≤s.size∧m=(s.size-j).toNat∧rO s r j=jU s i∧F'=F) ?_
 unfold nN.V
 refine⟨⟨_,h0,h1,rfl,rfl,rfl⟩,fun x r j m I1 F1 hI ⟨g0,g1,gm,gr,gF⟩=>⟨fun hlt=>?_,fun hlt=>?_⟩⟩
 ·have hlt:j<(s.size:Int):=by simpa using hlt
  subst gF
  have step:=BC (r:=r) hlt
  have stop:∀J:cc,yt (bt s j) r=false→blank (bt s j)=false→dS (.int .i64 (jU s i)) F1 (.returned (.int .i64 j)) J F1:=fun J a b=>by
   rw[a,b,gr] at step
   exact⟨by rw[step];rfl,rfl⟩
  have cont:∀r',yt (bt s j) r=r'→(r'=true∨blank (bt s j)=true)→∃m2:Nat,m2<m∧(0≤IntKind.wrap .i64 (j+1)∧IntKind.wrap .i64 (j+1)≤s.size∧m2=(s.size-IntKind.wrap .i64 (j+1)).toNat ∧
    rO s r' (IntKind.wrap .i64 (j+1))=jU s i∧F1=F1):=fun r' a b=>by
   rw[cY (by omega)]
   refine⟨_,by omega,by omega,by omega,rfl, ?_,rfl⟩
   rw[a,gr] at step
   rw[step,if_neg]
   rcases b with b | b<;>simp[b]
  refine⟨⟨g0,hlt⟩, ?_⟩
  clear step gr
  repeat' (first | (with_reducible apply And.intro) | (with_reducible intro h))
  all_goals first
   | (refine stop I1 ?_ ?_<;>simp_all [yt,blank];done)
   | (refine cont _ ?_ ?_<;>simp_all [yt,blank];done)
   | (exfalso;simp_all;done)
 ·have hlt:¬j<(s.size:Int):=by simpa using hlt
  refine⟨?_,gF⟩
  rw[DG (by omega)] at gr
  rw[←gr]
  have:j=s.size:=by omega
  rw[this]
theorem Ae{s:ByteArray}(hs:cW s){i:Int}(h0:0≤i)(h1:i<s.size)(I:cc)(F:b8):cf P 142 #[.string s,.int .i64 i] I F (dS (tG s i).v2 F):=by
 have hs':=hs
 unfold cW at hs'
 have hE:=oS (p:=dE) (s:=s) (i:=i) (by omega)
 refine lH.vc (fun j m I' F'=>i≤j∧j≤s.size∧m=(s.size-j).toNat∧eX dE s j=eX dE s i∧F'=F) ?_
 unfold lH.V
 intro b
 refine⟨⟨_,by omega,by omega,rfl,rfl,rfl⟩,fun j m I1 F1 hI ⟨g0,g1,gm,gr,gF⟩=>⟨fun hlt=>?_,fun hlt=>?_⟩⟩
 ·have hlt:j<(s.size:Int):=of_decide_eq_true hlt
  subst gF
  refine⟨⟨by omega,hlt⟩, ?_⟩
  refine cf.ret (qZ (bt s j) I1 _) fun I2 hI2=>⟨_,rfl,F1,.refl _,fun hc=>?_,fun hc=>⟨⟨h0,g0,g1⟩,fun b_t=>?_⟩⟩
  ·refine⟨m-1,by omega, ?_⟩
   rw[cY (by omega)]
   rw[eL hlt,if_pos hc] at gr
   exact⟨by omega,by omega,by omega,gr,rfl⟩
  ·rw[eL hlt,if_neg (by rw[hc];exact Bool.false_ne_true)] at gr
   unfold tG
   simp only[←gr]
   rw[cY (by omega)]
   refine⟨fun h=>⟨?_,rfl⟩,fun h=>?_⟩
   ·rw[if_pos (of_decide_eq_true h)];rfl
   ·rw[if_neg (of_decide_eq_false h)]
    refine cf.ret (q8 (cut s i j) I2 _) fun I3 hI3=>⟨_,rfl,F1,.refl _,fun hw=>⟨?_,rfl⟩,fun hw=>⟨?_,rfl⟩⟩
    ·rw[if_pos hw];rfl
    ·rw[if_neg (by rw[hw];exact Bool.false_ne_true)];rfl
 ·have hlt:¬j<(s.size:Int):=of_decide_eq_false hlt
  subst gF
  refine⟨⟨h0,g0,g1⟩,fun b_t=>?_⟩
  rw[pE (by omega)] at gr
  unfold tG
  simp only[←gr]
  rw[cY (by omega)]
  refine⟨fun h=>⟨?_,rfl⟩,fun h=>?_⟩
  ·rw[if_pos (of_decide_eq_true h)];rfl
  ·rw[if_neg (of_decide_eq_false h)]
   refine cf.ret (q8 (cut s i j) I1 _) fun I3 hI3=>⟨_,rfl,F1,.refl _,fun hw=>⟨?_,rfl⟩,fun hw=>⟨?_,rfl⟩⟩
   ·rw[if_pos hw];rfl
   ·rw[if_neg (by rw[hw];exact Bool.false_ne_true)];rfl
theorem DX{c:Int}(h:dI c=true):IntKind.wrap .u64 (IntKind.wrap .u8 (c-48))=c-48∧48≤c∧c≤57:=by
 simp only[dI,Bool.and_eq_true,decide_eq_true_eq] at h
 rw[w8 (by omega),Gq (by omega)]
 exact⟨rfl,h⟩
theorem yy{s:ByteArray}(hs:cW s){i:Int}(h0:0≤i)(h1:i<s.size)(I:cc)(F:b8):cf P 143 #[.string s,.int .i64 i] I F (dS (sX s i).v2 F):=by
 have hs':=hs
 unfold cW at hs'
 have hE:=oS (p:=dI) (s:=s) (i:=i) (by omega)
 generalize hEd:eX dI s i=E at hE
 let e2:Int:=if kV (cZ s E)=1 then E else E+1
 have hbad:(iE s i 0>9223372036854775807∨(E-i>1∧bt s i=48)∨(e2<s.size∧(dE (bt s e2)=true∨(65≤bt s e2∧bt s e2≤90)))) →
   (sX s i).v2=.tuple #[(zT 0).v,.int .i64 113]:=fun h=>by
  unfold sX;simp only[hEd];rw[if_pos h];rfl
 have hok:¬(iE s i 0>9223372036854775807∨(E-i>1∧bt s i=48)∨(e2<s.size∧(dE (bt s e2)=true∨(65≤bt s e2∧bt s e2≤90)))) →
   (sX s i).v2=.tuple #[(⟨3,cut s i e2,kV (cZ s E),iE s i 0,i⟩:Tok).v,.int .i64 0]:=fun h=>by
  unfold sX;simp only[hEd];rw[if_neg h];rfl
 have he2r:e2≤s.size∧E≤e2∧e2≤E+1:=by
  show (if kV (cZ s E)=1 then E else E+1)≤_∧_≤(if kV (cZ s E)=1 then E else E+1)∧(if kV (cZ s E)=1 then E else E+1)≤_
  split
  ·omega
  ·rename_i hne
   have:E<s.size:=by
    rcases Int.lt_or_le E s.size with h | h
    ·exact h
    ·rw[show cZ s E=0 by unfold cZ;rw[if_neg (by omega)]] at hne
     exact absurd rfl hne
   omega
 refine kj.vc (fun x en n b0 b1 b2 b3 b4 I' F'=>en=E∧n=iE s i 0∧F'=F)
  (fun x j n b0 b1 b2 b3 b4 m I' F'=>i≤j∧j≤E∧m=(E-j).toNat∧0≤n∧n≤18446744073709551615∧eX dI s j=E∧iE s j n=iE s i 0∧F'=F)
  (fun x b0 b1 b2 b3 b4 I' F'=>¬(E-i>1∧bt s i=48)∧¬iE s i 0>9223372036854775807∧F'=F)
  (fun t0 t1 t2 t3 t4 I' F'=>t0=3∧t2=(if cZ s E=113 then 2 else 1)∧t3=iE s i 0∧t4=i∧F'=F)
  (fun t0 t1 t2 t3 t4 I' F'=>t0=3∧t2=(if cZ s E=112 then 3 else if cZ s E=113 then 2 else 1)∧t3=iE s i 0∧t4=i∧F'=F)
  (fun t0 t1 t2 t3 t4 I' F'=>t0=3∧t2=kV (cZ s E)∧t3=iE s i 0∧t4=i∧F'=F)
  (fun en I' F'=>en=e2∧F'=F) ?_
 unfold kj.V
 intro b b_t
 refine⟨⟨⟨_,by omega,by omega,rfl,by omega,by omega,hEd,rfl,rfl⟩, ?_⟩, ?_⟩
 ·intro x j n b0 b1 b2 b3 b4 m I1 F1 hI1 ⟨g0,g1,gm,gn0,gn1,gr,gv,gF⟩
  subst gF
  refine⟨fun hlt=>?_,fun hlt=>?_⟩
  ·have hlt:j<s.size:=of_decide_eq_true hlt
   refine⟨⟨by omega,hlt⟩, ?_⟩
   refine cf.ret (oW (bt s j) I1 _) fun I2 hI2=>⟨_,rfl,F1,.refl _,fun hd=>?_,fun hd=>?_⟩
   ·obtain⟨hw,hc0,hc1⟩:=DX hd
    rw[eL hlt,if_pos hd] at gr
    rw[vD hlt,if_pos hd] at gv
    have hr2:=oS (p:=dI) (s:=s) (i:=j+1) (by omega)
    refine⟨fun hgt=>⟨?_,rfl⟩,fun hgt=>⟨⟨by omega,hlt⟩, ?_⟩⟩
    ·refine (congrArg Ending.returned (hbad (.inl ?_)).symm)
     have hgt:=of_decide_eq_true hgt
     have:=zU (s:=s) (i:=j+1) (v:=10*n+(bt s j-48)) (by omega)
     omega
    ·have hgt:=of_decide_eq_false hgt
     rw[hw,Gq (n:=10*n) (by omega),Gq (n:=10*n+_) (by omega),cY (by omega)]
     exact⟨_,by omega,by omega,by omega,rfl,by omega,by omega,gr,gv,rfl⟩
   ·rw[eL hlt,if_neg (by rw[hd];exact Bool.false_ne_true)] at gr
    rw[vD hlt,if_neg (by rw[hd];exact Bool.false_ne_true)] at gv
    exact⟨gr,gv,rfl⟩
  ·have hlt:¬j<s.size:=of_decide_eq_false hlt
   rw[pE (by omega)] at gr
   rw[DH (by omega)] at gv
   exact⟨gr,gv,rfl⟩
 intro x en n b0 b1 b2 b3 b4 I3 F3 hI3 ⟨hen,hn,hF3⟩
 subst hen hF3
 rw[cY (n:=en-i) (by omega)]
 refine⟨⟨fun h=>⟨?_,rfl⟩,fun h=>⟨fun hl=>⟨⟨h0,h1⟩,fun h48=>⟨?_,rfl⟩,fun h48=>⟨?_, ?_,rfl⟩⟩,fun hl=>⟨?_, ?_,rfl⟩⟩⟩, ?_⟩
 ·exact congrArg Ending.returned (hbad (.inl (by have:=of_decide_eq_true h;omega))).symm
 ·exact congrArg Ending.returned (hbad (.inr (.inl ⟨of_decide_eq_true hl,by simpa using h48⟩))).symm
 ·intro hc;rw[hc.2] at h48;simp at h48
 ·have:=of_decide_eq_false h;omega
 ·intro hc;exact absurd hc.1 (of_decide_eq_false hl)
 ·have:=of_decide_eq_false h;omega
 intro x2 c0 c1 c2 c3 c4 I4 F4 hI4 ⟨hz,nov,hF4⟩
 subst hF4
 have hv0:=zU (s:=s) (i:=i) (v:=0) (by omega)
 rw[cY (n:=n) (by omega)]
 have hpos:en<s.size→cZ s en=bt s en:=fun h=>by unfold cZ;rw[if_pos h]
 have hneg:¬en<s.size→cZ s en=0:=fun h=>by unfold cZ;rw[if_neg h]
 refine⟨⟨fun hl=>⟨⟨by omega,of_decide_eq_true hl⟩,fun h=>⟨rfl, ?_,hn,rfl,rfl⟩,fun h=>⟨rfl, ?_,hn,rfl,rfl⟩⟩,fun hl=>⟨rfl, ?_,hn,rfl,rfl⟩⟩, ?_⟩
 ·rw[hpos (of_decide_eq_true hl),if_pos (by simpa using h)]
 ·rw[hpos (of_decide_eq_true hl),if_neg (by simpa using h)]
 ·rw[hneg (of_decide_eq_false hl)];rfl
 intro t0 t1 t2 t3 t4 I5 F5 hI5 ⟨ht0,ht2,ht3,ht4,hF5⟩
 subst hF5
 refine⟨⟨fun hl=>⟨⟨by omega,of_decide_eq_true hl⟩,fun h=>⟨ht0, ?_,ht3,ht4,rfl⟩,fun h=>⟨ht0, ?_,ht3,ht4,rfl⟩⟩,fun hl=>⟨ht0, ?_,ht3,ht4,rfl⟩⟩, ?_⟩
 ·rw[hpos (of_decide_eq_true hl),if_pos (by simpa using h)]
 ·rw[ht2,hpos (of_decide_eq_true hl),if_neg (c:=bt s en=112) (by simpa using h)]
 ·rw[ht2,hneg (of_decide_eq_false hl)];rfl
 clear ht0 ht2 ht3 ht4
 intro t0 t1 t2 t3 t4 I6 F6 hI6 ⟨ht0,ht2,ht3,ht4,hF6⟩
 subst hF6
 refine⟨⟨fun hl=>⟨⟨by omega,of_decide_eq_true hl⟩,fun h=>⟨ht0, ?_,ht3,ht4,rfl⟩,fun h=>⟨ht0, ?_,ht3,ht4,rfl⟩⟩,fun hl=>⟨ht0, ?_,ht3,ht4,rfl⟩⟩, ?_⟩
 ·unfold kV;rw[hpos (of_decide_eq_true hl),if_pos (by simpa using h)]
 ·unfold kV;rw[ht2,hpos (of_decide_eq_true hl),if_neg (c:=bt s en=116) (by simpa using h)]
 ·unfold kV;rw[ht2,hneg (of_decide_eq_false hl)];rfl
 clear ht0 ht2 ht3 ht4
 intro u0 u1 u2 u3 u4 I7 F7 hI7 ⟨hu0,hu2,hu3,hu4,hF7⟩
 subst hu0 hu2 hF7
 obtain rfl:i=u4:=hu4.symm
 refine⟨⟨fun h=>⟨?_,rfl⟩,fun h=>⟨?_,rfl⟩⟩, ?_⟩
 ·show _=if kV (cZ s en)=1 then en else en+1
  rw[if_neg (by simpa using h),cY (by omega)]
 ·show _=if kV (cZ s en)=1 then en else en+1
  rw[if_pos (by simpa using h)]
 intro e3 I8 F8 hI8 ⟨he3,hF8⟩
 subst he3 hF8
 have okk:¬(e2<s.size∧(dE (bt s e2)=true∨(65≤bt s e2∧bt s e2≤90))) →
   (0≤i∧i≤e2∧e2≤(s.size:Int))∧∀(J:cc),dS (sX s i).v2 F8 (.returned (Value.tuple #[Value.agg #[Value.int .u8 3,Value.string (s.extract (Int.toNat (i)) (Int.toNat (e2))),Value.int .u8 (kV (cZ s en)),Value.int .i64 u3,Value.int .i64 i],Value.int .i64 0])) J F8:=fun h=>by
  refine⟨by omega,fun J=>⟨?_,rfl⟩⟩
  rw[hok (fun h'=>h'.elim nov fun h'=>h'.elim hz h),hu3]
  rfl
 refine⟨fun hl=>⟨⟨by omega,of_decide_eq_true hl⟩, ?_⟩,fun hl=>?_⟩
 ·have hl:=of_decide_eq_true hl
  refine cf.ret (qZ (bt s e2) I8 _) fun I9 hI9=>⟨_,rfl,F8,.refl _,fun hi=>⟨?_,rfl⟩,fun hi=>⟨⟨by omega,hl⟩,fun h65=>⟨⟨by omega,hl⟩,fun h90=>⟨?_,rfl⟩,fun h90=>?_⟩,fun h65=>?_⟩⟩
  ·exact congrArg Ending.returned (hbad (.inr (.inr ⟨hl,.inl hi⟩))).symm
  ·exact congrArg Ending.returned (hbad (.inr (.inr ⟨hl,.inr ⟨of_decide_eq_true h65,of_decide_eq_true h90⟩⟩))).symm
  ·obtain⟨a1,a2⟩:=okk (fun h=>h.2.elim (fun h=>by rw[hi] at h;cases h) fun h=>of_decide_eq_false h90 h.2)
   exact⟨a1,a2 _⟩
  ·obtain⟨a1,a2⟩:=okk (fun h=>h.2.elim (fun h=>by rw[hi] at h;cases h) fun h=>of_decide_eq_false h65 h.1)
   exact⟨a1,a2 _⟩
 ·obtain⟨a1,a2⟩:=okk (fun h=>of_decide_eq_false hl h.1)
  exact⟨a1,a2 _⟩
def jq:List ByteArray:=[⟨#[61,61]⟩,⟨#[33,61]⟩,⟨#[60,61]⟩,⟨#[62,61]⟩,⟨#[38,38]⟩,⟨#[124,124]⟩,⟨#[123]⟩,⟨#[125]⟩,⟨#[40]⟩,⟨#[41]⟩,⟨#[44]⟩,⟨#[59]⟩,⟨#[63]⟩,⟨#[58]⟩,⟨#[61]⟩,⟨#[33]⟩,⟨#[60]⟩,⟨#[62]⟩,⟨#[43]⟩,⟨#[45]⟩,⟨#[42]⟩,⟨#[47]⟩,⟨#[37]⟩]
def o0(s:ByteArray)(i:Int)(m:ByteArray):Bool:=decide (i+(m.size:Int)≤s.size)&&((cut s i (i+(m.size:Int))).toList==m.toList)
theorem He{a b:ByteArray}(h:a.toList=b.toList):a=b:=by
 rw[Lib.toList_data,Lib.toList_data] at h
 have:a.data=b.data:=Array.toList_inj.1 h
 cases a;cases b;simp_all
theorem E6{a:ByteArray}{k:Nat}(h:k<a.size):bt a k=(a.data[k].toNat:Int):=by
 have h2:a[k]? = some a[k]:=by simp[h]
 unfold bt
 rw[Int.toNat_natCast,h2]
 rfl
theorem E7{a b:ByteArray}(hs:a.size=b.size)(h:∀k:Nat,k<a.size→bt a k=bt b k):a=b:=by
 have:a.data=b.data:=by
  refine Array.ext hs fun k h1 h2=>?_
  have:=h k h1
  rw[E6 h1,E6 h2] at this
  exact UInt8.toNat_inj.1 (by omega)
 cases a;cases b;simp_all
theorem yz{s:ByteArray}{i:Int}(h0:0≤i)(m:ByteArray):o0 s i m=true↔i+m.size≤s.size∧∀k:Nat,k<m.size→bt s (i+k)=bt m k:=by
 unfold o0
 simp only[Bool.and_eq_true,decide_eq_true_eq,beq_iff_eq]
 refine⟨fun ⟨h1,h2⟩=>⟨h1,fun k hk=>?_⟩,fun ⟨h1,h2⟩=>⟨h1, ?_⟩⟩
 ·have:=He h2
  rw[←BQ (j:=i+m.size) h0 (by omega) (by omega) h1,this]
 ·have hc:=rY (s:=s) h0 (by omega:i≤i+m.size) h1
  have:cut s i (i+m.size)=m:=E7 (by omega) fun k hk=>by
   rw[BQ h0 (by omega) (by omega) h1]
   exact h2 k (by omega)
  rw[this]
theorem JQ{s:ByteArray}{i:Int}(h0:0≤i)(h:i<s.size)(c:UInt8):o0 s i ⟨#[c]⟩=(bt s i==(c.toNat:Int)):=by
 rw[Bool.eq_iff_iff,yz h0,beq_iff_eq]
 refine⟨fun ⟨_,h⟩=>by have:=h 0 (Nat.lt_succ_self 0);rwa [Int.natCast_zero,Int.add_zero] at this,fun hc=>⟨by show i+((1:Nat):Int)≤_;omega,fun k hk=>?_⟩⟩
 have:k=0:=by have:k<1:=hk;omega
 subst this
 rw[Int.natCast_zero,Int.add_zero,hc];rfl
theorem HP{s:ByteArray}{i:Int}(h0:0≤i)(c d:UInt8)(hd:d.toNat≠0):o0 s i ⟨#[c,d]⟩=(bt s i==(c.toNat:Int)&&cZ s (i+1)==(d.toNat:Int)):=by
 rw[Bool.eq_iff_iff,yz h0]
 simp only[Bool.and_eq_true,beq_iff_eq]
 refine⟨fun ⟨h1,h⟩=>⟨?_, ?_⟩,fun ⟨hc,hd'⟩=>?_⟩
 ·have:=h 0 (show 0<2 by decide);rwa [Int.natCast_zero,Int.add_zero] at this
 ·have h1:i+((2:Nat):Int)≤s.size:=h1
  unfold cZ
  rw[if_pos (by omega)]
  exact h 1 (show 1<2 by decide)
 ·have hl:i+1<s.size:=by
   rcases Int.lt_or_le (i+1) s.size with h | h
   ·exact h
   ·unfold cZ at hd';rw[if_neg (by omega)] at hd';omega
  unfold cZ at hd'
  rw[if_pos hl] at hd'
  refine⟨by show i+((2:Nat):Int)≤_;omega,fun k hk=>?_⟩
  have hk:k<2:=hk
  rcases (by omega:k=0∨k=1) with rfl | rfl
  ·rw[Int.natCast_zero,Int.add_zero,hc];rfl
  ·exact hd'
theorem DY{s:ByteArray}{i:Int}(h0:0≤i)(h:i<s.size) :
  (jq.find? (o0 s i)=none∧kW s i=0)∨(∃m,jq.find? (o0 s i)=some m∧(m.size:Int)=kW s i∧0<kW s i∧cut s i (i+kW s i)=m):=by
 have key:(jq.find? (o0 s i)=none∧kW s i=0)∨(∃m,jq.find? (o0 s i)=some m∧(m.size:Int)=kW s i∧0<kW s i):=by
  unfold jq
  simp only[List.find?_cons,List.find?_nil,JQ h0 h,HP h0 _ 61 (by decide),HP h0 _ 38 (by decide),HP h0 _ 124 (by decide)]
  unfold kW
  generalize bt s i=c
  generalize cZ s (i+1)=d
  clear h h0
  repeat' split
  all_goals first | (simp_all [single];done) | (simp_all [single];rfl) | (simp_all [single];omega)
 rcases key with hk | ⟨m,hm,hs,hp⟩
 ·exact .inl hk
 ·refine .inr ⟨m,hm,hs,hp, ?_⟩
  have:=List.find?_some hm
  rw[yz h0] at this
  rw[←hs]
  have hc:=rY (s:=s) h0 (by omega:i≤i+m.size) this.1
  refine E7 (by omega) fun k hk=>?_
  rw[BQ h0 (by omega) (by omega) this.1]
  exact this.2 k (by omega)
theorem Af{k:Nat}{m:ByteArray}(h:jq[k]? = some m):m.size≤2:=by
 have:=List.mem_of_getElem? h
 simp only[jq,List.mem_cons,List.not_mem_nil,or_false] at this
 rcases this with h | h | h | h | h | h | h | h | h | h | h | h | h | h | h | h | h | h | h | h | h | h | h<;>(subst h;decide)
theorem BT{s:ByteArray}(hs:cW s){i:Int}(h0:0≤i)(h1:i<s.size)(I:cc)(F:b8):cf P 144 #[.string s,.int .i64 i] I F (dS (tH s i).v2 F):=by
 unfold cW at hs
 have hm:=DY h0 h1
 refine nP.vc (fun x k b0 b1 b2 b3 b4 m I' F'=>0≤k∧k≤23∧m=(23-k).toNat∧jq.find? (o0 s i)=(jq.drop k.toNat).find? (o0 s i)∧F'=F) ?_
 unfold nP.V
 intro b b1 I1 hI1 hb1
 have hS:Sl I1 1 vI (some ⟨b1,0,none⟩) 23 jq:=Sl.kU (f:=vI) (z:=1) (l:=jq) (fun _=>rfl) hb1 (by kernel_rfl)
 refine⟨⟨_,by omega,by omega,rfl,rfl,rfl⟩,fun x k c0 c1 c2 c3 c4 m I2 F2 hI2 ⟨g0,g1,gm,gf,gF⟩=>⟨fun hlt=>?_,fun hlt=>?_⟩⟩
 ·have hlt:k<23:=of_decide_eq_true hlt
  obtain⟨ad,w,ha,hw,hrd⟩:=(hS.mono hI2).at (i:=k) g0 hlt
  have hwz:=Af hw
  subst gF
  rw[DO hw] at gf
  have cont:o0 s i w=false→∃m6,m6<m∧(0≤IntKind.wrap .i64 (k+1)∧IntKind.wrap .i64 (k+1)≤23∧m6=(23-IntKind.wrap .i64 (k+1)).toNat ∧
    jq.find? (o0 s i)=(jq.drop (IntKind.wrap .i64 (k+1)).toNat).find? (o0 s i)∧F2=F2):=fun h=>by
   rw[cY (by omega)]
   refine⟨(23-(k+1)).toNat,by omega,by omega,by omega,rfl, ?_,rfl⟩
   rw[gf,h,show (k+1).toNat=k.toNat+1 by omega];rfl
  refine⟨⟨g0,hlt⟩,ad,ha,w,hrd _, ?_⟩
  rw[cY (n:=i+w.size) (by omega)]
  refine⟨fun hle=>⟨⟨h0,by omega,of_decide_eq_true hle⟩,⟨g0,hlt⟩,ad,ha,w,hrd _,fun he=>⟨⟨g0,hlt⟩,ad,ha,w,hrd _, ?_,rfl⟩,fun he=>cont ?_⟩,fun hle=>cont ?_⟩
  ·have hhit:o0 s i w=true:=by
    unfold o0;rw[hle,Bool.true_and];exact he
   rw[hhit,if_pos rfl] at gf
   rcases hm with ⟨h,_⟩ | ⟨w',h,hsz,hp,hcut⟩
   ·rw[h] at gf;cases gf
   ·rw[h] at gf;cases gf
    unfold tH
    rw[if_neg (by omega),hcut];rfl
  ·unfold o0;rw[hle,Bool.true_and];exact he
  ·unfold o0;rw[hle];rfl
 ·have hlt:¬k<23:=of_decide_eq_false hlt
  refine⟨?_,gF⟩
  rw[List.drop_eq_nil_of_le (by show 23≤_;omega)] at gf
  rcases hm with ⟨h,hz⟩ | ⟨w',h,_⟩
  ·unfold tH
   rw[if_pos hz];rfl
  ·rw[h] at gf;cases gf
def TR.v3:TR→Value
 | .ok t=>.tuple #[t.v,.int .i64 0,.int .i64 0]
 | .bad e p=>.tuple #[(zT 0).v,.int .i64 e,.int .i64 p]
theorem E8(s:ByteArray)(i:Int):(∃t,sX s i=.ok t)∨∃e,sX s i=.bad e i∧(e != 0)=true:=by
 rcases BR s i with ⟨t,h,_⟩ | h
 ·exact .inl ⟨t,h⟩
 ·exact .inr ⟨_,h,rfl⟩
theorem DZ(s:ByteArray)(i:Int):(∃t,tG s i=.ok t)∨∃e,tG s i=.bad e i∧(e != 0)=true:=by
 unfold tG;simp only;split
 ·exact .inr ⟨_,rfl,rfl⟩
 ·exact .inl ⟨_,rfl⟩
theorem D0(s:ByteArray)(i:Int):(∃t,tH s i=.ok t)∨∃e,tH s i=.bad e i∧(e != 0)=true:=by
 unfold tH;split
 ·exact .inr ⟨_,rfl,rfl⟩
 ·exact .inl ⟨_,rfl⟩
theorem E9{c:Int}(h:gI c=true):dI c=false:=by
 simp only[gI,dI,Bool.and_eq_true,decide_eq_true_eq,Bool.and_eq_false_iff,decide_eq_false_iff_not] at h ⊢
 omega
theorem Fa{s:ByteArray}(hs:cW s){f:Int}(h0:0≤f)(h1:f≤s.size)(I:cc)(F:b8):cf P 119 #[.string s,.int .i64 f] I F (dS (uh s f).v3 F):=by
 have hs':=hs
 unfold cW at hs'
 refine pR.vc ?_
 unfold pR.V
 intro b
 have ho:=sW (s:=s) h1
 refine cf.ret (BS hs h0 h1 I _) fun I1 hI1=>⟨_,rfl,F,.refl _, ?_⟩
 unfold uh
 simp only
 generalize jU s f=r at ho ⊢
 refine⟨fun h=>⟨?_,rfl⟩,fun h b_t=>?_⟩
 ·rw[if_pos (by simpa using h)];rfl
 ·have hne:r≠s.size:=by simpa using h
  have hlt:r<s.size:=by omega
  rw[if_neg hne]
  refine⟨⟨by omega,hlt⟩, ?_⟩
  refine cf.ret (nv (bt s r) I1 _) fun I2 hI2=>⟨_,rfl,F,.refl _,fun hm=>?_,fun hm=>⟨⟨by omega,hlt⟩, ?_⟩⟩
  ·rw[if_neg (by rw[E9 hm];exact Bool.false_ne_true),if_pos hm]
   refine cf.ret (Ae hs (by omega) hlt I2 _) fun I3 hI3=>?_
   rcases DZ s r with ⟨t,ht⟩ | ⟨e,ht,he⟩
   ·rw[ht];exact⟨_,_,_,_,_,_,rfl,F,.refl _,fun h=>absurd h (by decide),fun _=>⟨rfl,rfl⟩⟩
   ·rw[ht];exact⟨_,_,_,_,_,_,rfl,F,.refl _,fun h=>⟨rfl,rfl⟩,fun h=>by rw[he] at h;cases h⟩
  ·rw[if_neg (c:=gI (bt s r)=true) (by rw[hm];exact Bool.false_ne_true)]
   refine cf.ret (oW (bt s r) I2 _) fun I3 hI3=>⟨_,rfl,F,.refl _,fun hd=>?_,fun hd=>?_⟩
   ·rw[if_pos hd]
    refine cf.ret (yy hs (by omega) hlt I3 _) fun I4 hI4=>?_
    rcases E8 s r with ⟨t,ht⟩ | ⟨e,ht,he⟩
    ·rw[ht];exact⟨_,_,_,_,_,_,rfl,F,.refl _,fun h=>absurd h (by decide),fun _=>⟨rfl,rfl⟩⟩
    ·rw[ht];exact⟨_,_,_,_,_,_,rfl,F,.refl _,fun h=>⟨rfl,rfl⟩,fun h=>by rw[he] at h;cases h⟩
   ·rw[if_neg (by rw[hd];exact Bool.false_ne_true)]
    refine cf.ret (BT hs (by omega) hlt I3 _) fun I4 hI4=>?_
    rcases D0 s r with ⟨t,ht⟩ | ⟨e,ht,he⟩
    ·rw[ht];exact⟨_,_,_,_,_,_,rfl,F,.refl _,fun h=>absurd h (by decide),fun _=>⟨rfl,rfl⟩⟩
    ·rw[ht];exact⟨_,_,_,_,_,_,rfl,F,.refl _,fun h=>⟨rfl,rfl⟩,fun h=>by rw[he] at h;cases h⟩
def qC(s:ByteArray):Nat→Int→List Tok×Option (Int×Int)
 | 0,_=>([],none)
 | n+1,f=>match uh s f with
   | .bad e p=>([],some (e,p))
   | .ok t=>if t.kind=0 then ([t],none) else (t::(qC s n (t.pos+t.text.size)).1,(qC s n (t.pos+t.text.size)).2)
def te(s:ByteArray)(f:Int):List Tok×Option (Int×Int):=qC s (s.size-f+1).toNat f
theorem vS{s:ByteArray}{f:Int}(h0:0≤f)(h1:f≤s.size){t:Tok}(ht:uh s f=.ok t):t.pos+t.text.size≤s.size∧f≤t.pos∧(t.kind≠0→f+1≤t.pos+t.text.size):=by
 have ho:=sW (s:=s) h1
 rcases vR h0 h1 with ⟨t',ht',hp,hl,_,hk⟩ | ⟨e,ht',_⟩
 ·rw[ht] at ht';cases ht'
  refine⟨hl,by omega,fun hne=>?_⟩
  rcases hk with ⟨h,_⟩ | ⟨_,_,h⟩
  ·exact absurd h hne
  ·omega
 ·rw[ht] at ht';cases ht'
theorem vT(s:ByteArray):∀(n n':Nat) (f:Int),0≤f→f≤s.size→(s.size-f+1).toNat≤n→(s.size-f+1).toNat≤n'→qC s n f=qC s n' f
 | 0,n',f,h0,h1,hn,hn'=>by omega
 | n+1,0,f,h0,h1,hn,hn'=>by omega
 | n+1,n'+1,f,h0,h1,hn,hn'=>by
   unfold qC
   cases ht:uh s f with
   | bad e p=>rfl
   | ok t =>
     have:=vS h0 h1 ht
     by_cases hk:t.kind=0
     ·simp[hk]
     ·have:=this.2.2 hk
      simp only[hk,if_false]
      rw[vT s n n' _ (by omega) (by omega) (by omega) (by omega)]
theorem D1{s:ByteArray}{f:Int}(h0:0≤f)(h1:f≤s.size):te s f=match uh s f with
  | .bad e p=>([],some (e,p))
  | .ok t=>if t.kind=0 then ([t],none) else (t::(te s (t.pos+t.text.size)).1,(te s (t.pos+t.text.size)).2):=by
 unfold te
 obtain⟨n,hn⟩:∃n,(s.size-f+1).toNat=n+1:=⟨(s.size-f+1).toNat-1,by omega⟩
 rw[hn]
 show (match uh s f with
  | .bad e p=>([],some (e,p))
  | .ok t=>if t.kind=0 then ([t],none) else (t::(qC s n (t.pos+t.text.size)).1,(qC s n (t.pos+t.text.size)).2))=_
 cases ht:uh s f with
 | bad e p=>rfl
 | ok t =>
   have:=vS h0 h1 ht
   by_cases hk:t.kind=0
   ·simp[hk]
   ·have:=this.2.2 hk
    simp only[hk,if_false]
    rw[vT s n _ _ (by omega) (by omega) (by omega) (Nat.le_refl _)]
def Tok.enc(t:Tok):List Value:=[.int .u8 t.kind,.string t.text,.int .u8 t.cO,.int .i64 t.n,.int .i64 t.pos]
theorem Gt:∀(t:Tok),∀u∈t.enc,u.oneCell'=true:=by
 intro t u hu
 simp only[Tok.enc,List.mem_cons,List.not_mem_nil,or_false] at hu
 rcases hu with h | h | h | h | h<;>(subst h;rfl)
theorem BU{a:Option Addr}{n c:Nat}{l:List Tok}{A F:b8}(hA:Acc 5 Tok.enc 145 a n c l A)(hl:l.length≤1000000000)(t:Tok){b:Nat}{I:cc}(hb:I b=some (.cells t.enc.toArray 145 (0,0))) :
  cF P (Builtin.append_ #[105,105] 105 #[.slice a n c,.slice (some ⟨b,0,none⟩) 1 1]) I (A++F) fun v I' G=>∃a' n' c' A',v=.slice a' n' c'∧Acc 5 Tok.enc 145 a' n' c' (l++[t]) A'∧G=A'++F:=by
 refine (iD (f:=Tok.enc) (zv:=(zT 0).v) (fun _=>rfl) (by':=48) (by kernel_rfl) (by kernel_rfl) rfl (by decide) hA (xs:=[t]) (fun x _=>Gt x) (by simp) rfl ?_ (by simp only[List.length_cons,List.length_nil];omega)).mono
  fun v I' G _ ⟨a',n',c',A',h1,h2,h3,_⟩=>⟨a',n',c',A',h1,h2,h3⟩
 exact⟨rfl,_,_,_,.inl hb,fun j hj=>by simp⟩
def Fb(r:List Tok×Option (Int×Int))(F:b8)(e:Ending)(I:cc)(G:b8):Prop :=
 ∃a n c A,e=.returned (.tuple #[.slice a n c,.int .i64 ((r.2.map Prod.fst).getD 0),.int .i64 ((r.2.map Prod.snd).getD 0)])∧Acc 5 Tok.enc 145 a n c r.1 A∧G=A++F
theorem BV{s:ByteArray}(hs:cW s)(hs2:(s.size:Int)≤1000000000)(I:cc)(F:b8):cf P 84 #[.string s] I F (Fb (te s 0) F):=by
 refine lI.vc (fun x_a x_n x_c x x1 a n c f m I' F'=>0≤f∧f≤s.size∧m=(s.size-f).toNat∧∃l A,Acc 5 Tok.enc 145 a n c l A∧F'=A++F∧l.length≤f ∧
  te s 0=(l++(te s f).1,(te s f).2)) ?_
 unfold lI.V
 have h:True:=trivial
 refine⟨⟨_,by omega,by omega,rfl,[],[],Acc.nil,rfl,by decide,rfl⟩, ?_⟩
 intro x_a x_n x_c x x1 a n c f m I1 F1 hI1 ⟨h0,h1,gm,l,A,hA,hF,hl,ht⟩
 subst hF
 rw[D1 h0 h1] at ht
 refine cf.ret (Fa hs h0 h1 I1 _) fun I2 hI2=>?_
 rcases vR h0 h1 with ⟨t,htok,htat⟩ | ⟨e,htok,he⟩
 ·rw[htok] at ht ⊢
  have hnx:=vS h0 h1 htok
  refine⟨_,_,_,_,_,_,_,rfl,_,.refl _,fun b_t=>⟨fun h=>absurd h (by decide),fun _=>?_⟩⟩
  intro b I3 hI3 hb
  refine cF.perm ((BU hA (by omega) t hb (F:=(b_t,_)::F)).mono fun v I4 G2 hI4 ⟨a',n',c',A',hv,hA',hG⟩=>?_) List.perm_middle.symm
  subst hG
  refine⟨_,_,_,hv,A'++F,List.perm_middle,fun hk=>?_,fun hk=>?_⟩
  ·have hk:t.kind=0:=by simpa using hk
   simp only[hk,if_true] at ht
   rw[ht]
   exact⟨_,_,_,_,rfl,hA',rfl⟩
  ·have hk:t.kind≠0:=by simpa using hk
   have:=hnx.2.2 hk
   simp only[hk,if_false] at ht
   rw[cY (by omega)]
   refine⟨_, ?_,by omega,by omega,rfl,_,_,hA',rfl, ?_, ?_⟩
   ·omega
   ·rw[List.length_append,List.length_singleton];omega
   ·rw[ht,List.append_assoc];rfl
 ·rw[htok] at ht ⊢
  refine⟨_,_,_,_,_,_,_,rfl,_,.refl _,fun b_t=>⟨fun _=>?_,fun h=>?_⟩⟩
  ·rw[ht]
   exact⟨_,_,_,A,rfl,by simpa using hA,rfl⟩
  ·rcases he with rfl | rfl | rfl<;>exact absurd h (by decide)
structure PF where
 e:Int
 pos:Int
 tok:Bool
structure PS where
 next:Nat
 f:PF
structure PC where
 l:List Tok
 bad:Int
 pos:Int
def o5:Px:=.mk 0 0 0 0 0 ⟨#[]⟩ [] 0
def PS.over(s:PS):Bool:=s.f.e != 0
def PS.inc(s:PS):PS:=⟨s.next+1,s.f⟩
section
variable (c:PC)
def PC.tok(i:Nat):Tok:=(c.l[i]?).getD (zT 0)
def PC.now(s:PS):Tok:=if s.over||decide (c.l.length≤s.next) then zT 0 else c.tok s.next
def PC.c5(e:Int)(s:PS):PS:=if s.over then s else if c.l.length≤s.next then ⟨s.next,⟨c.bad,c.pos,true⟩⟩ else ⟨s.next,⟨e,(c.tok s.next).pos,false⟩⟩
def PC.lj(w:ByteArray)(s:PS):Bool:=(c.now s).text.toList==w.toList&&((c.now s).kind==1||(c.now s).kind==4)
def PC.xf(s:PS):List ByteArray→Int→Int
 | [],_=>-1
 | w::r,i=>if c.lj w s then i else PC.xf s r (i+1)
def PC.any(ws:List ByteArray)(s:PS):Int:=c.xf s ws 0
def PC.take(w:ByteArray)(s:PS):Int×PS:=if c.lj w s then ((c.now s).pos,s.inc) else (0,c.c5 130 s)
def PC.name(s:PS):ByteArray×PS:=if (c.now s).kind=2 then ((c.now s).text,s.inc) else (⟨#[]⟩,c.c5 130 s)
def PC.cQ(d:Int)(s:PS):PS:=if 24<d+1 then c.c5 132 s else s
def Gu(cO n pos:Int):Px:=.mk 1 0 cO n 0 ⟨#[]⟩ [] pos
def PC.literal(s:PS):(Px×Bool)×PS :=
 if (c.now s).kind=3 then ((Gu (c.now s).cO (c.now s).n (c.now s).pos,true),s.inc)
 else if (c.now s).kind=1∧((c.now s).text.toList=(⟨#[116,114,117,101]⟩:ByteArray).toList∨(c.now s).text.toList=(⟨#[102,97,108,115,101]⟩:ByteArray).toList) then ((Gu 5 (if (c.now s).text.toList=(⟨#[116,114,117,101]⟩:ByteArray).toList then 1 else 0) (c.now s).pos,true),s.inc)
 else if (c.now s).kind=1∧((c.now s).text.toList=(⟨#[98,117,121]⟩:ByteArray).toList∨(c.now s).text.toList=(⟨#[115,101,108,108]⟩:ByteArray).toList) then ((Gu 6 (if (c.now s).text.toList=(⟨#[115,101,108,108]⟩:ByteArray).toList then 2 else 1) (c.now s).pos,true),s.inc)
 else ((o5,false),s)
structure Lv where
 ex:PS→Px×PS
 un:PS→Px×PS
def PC.o6(nx:Lv):Nat→Bool→PS→List Px×PS
 | 0,_,s=>([],s)
 | n+1,first,s =>
   let r:=nx.ex (if first then s else (c.take (⟨#[44]⟩:ByteArray) s).2)
   let q:=PC.o6 nx n false r.2
   (r.1::q.1,q.2)
def PC.call(nx:Lv)(d:Int)(kind oper cO pos:Int)(many:Nat)(s:PS):Px×PS :=
 if (c.cQ d s).over then (o5,c.cQ d s)
 else
  let q:=c.o6 nx many true (c.take (⟨#[40]⟩:ByteArray) (c.cQ d s).inc).2
  (.mk kind oper cO 0 0 ⟨#[]⟩ q.1 pos,(c.take (⟨#[41]⟩:ByteArray) q.2).2)
def PC.rest(nx:Lv)(d:Int)(s:PS):Px×PS :=
 if c.lj (⟨#[104,97,115]⟩:ByteArray) s then
  if c.any [(⟨#[98,105,100]⟩:ByteArray),(⟨#[97,115,107]⟩:ByteArray),(⟨#[108,97,115,116]⟩:ByteArray)] s.inc<0 then (o5,c.c5 130 s.inc) else (.mk 4 0 0 0 (c.any [(⟨#[98,105,100]⟩:ByteArray),(⟨#[97,115,107]⟩:ByteArray),(⟨#[108,97,115,116]⟩:ByteArray)] s.inc+1) ⟨#[]⟩ [] (c.now s).pos,s.inc.inc)
 else if c.lj (⟨#[40]⟩:ByteArray) s then
  if (c.cQ d s).over then (o5,c.cQ d s)
  else
   let r:=nx.ex (c.cQ d s).inc
   (r.1,(c.take (⟨#[41]⟩:ByteArray) r.2).2)
 else (o5,c.c5 130 s)
def yA:List ByteArray:=[(⟨#[98,105,100]⟩:ByteArray),(⟨#[97,115,107]⟩:ByteArray),(⟨#[108,97,115,116]⟩:ByteArray),(⟨#[118,111,108,117,109,101]⟩:ByteArray),(⟨#[110,111,119]⟩:ByteArray),(⟨#[111,112,101,110]⟩:ByteArray)]
def oD:List ByteArray:=[(⟨#[97,98,115]⟩:ByteArray),(⟨#[109,105,110]⟩:ByteArray),(⟨#[109,97,120]⟩:ByteArray)]
def vU:List ByteArray:=[(⟨#[105,110,116]⟩:ByteArray),(⟨#[113,116,121]⟩:ByteArray),(⟨#[112,114,105,99,101]⟩:ByteArray),(⟨#[116,105,109,101]⟩:ByteArray)]
def PC.one(nx:Lv)(d:Int)(s:PS):Px×PS :=
 if (c.literal s).1.2 then ((c.literal s).1.1,(c.literal s).2)
 else if (c.now s).kind=2 then (.mk 2 0 0 0 0 (c.now s).text [] (c.now s).pos,s.inc)
 else if 0≤c.any yA s then (.mk 3 0 0 0 (c.any yA s+1) ⟨#[]⟩ [] (c.now s).pos,s.inc)
 else if 0≤c.any oD s then c.call nx d 8 (3+c.any oD s) 0 (c.now s).pos (if c.any oD s=0 then 1 else 2) s
 else if 0≤c.any vU s then c.call nx d 9 0 (1+c.any vU s) (c.now s).pos 1 s
 else c.rest nx d s
def tS:List ByteArray:=[(⟨#[45]⟩:ByteArray),(⟨#[33]⟩:ByteArray)]
def PC.unary(nx:Lv)(d:Int)(s:PS):Px×PS :=
 if c.any tS s<0 then c.one nx d s
 else if (c.cQ d s).over then (o5,c.cQ d s)
 else
  let r:=nx.un (c.cQ d s).inc
  (.mk 5 (1+c.any tS s) 0 0 0 ⟨#[]⟩ [r.1] (c.now (c.cQ d s)).pos,r.2)
def HQ(o pos:Int)(a b:Px):Px:=.mk 6 o 0 0 0 ⟨#[]⟩ [a,b] pos
def PC.jL(ws:List ByteArray)(o:Int)(sub:PS→Px×PS):Nat→Px→PS→Px×PS
 | 0,n,s=>(n,s)
 | m+1,n,s=>if c.any ws s<0 then (n,s) else
   let k:=sub s.inc
   PC.jL ws o sub m (HQ (o+c.any ws s) (c.now s).pos n k.1) k.2
def PC.loop(ws:List ByteArray)(o:Int)(sub:PS→Px×PS)(s:PS):Px×PS:=c.jL ws o sub c.l.length (sub s).1 (sub s).2
def Ag:List ByteArray:=[(⟨#[42]⟩:ByteArray),(⟨#[47]⟩:ByteArray),(⟨#[37]⟩:ByteArray)]
def Ah:List ByteArray:=[(⟨#[43]⟩:ByteArray),(⟨#[45]⟩:ByteArray)]
def yB:List ByteArray:=[(⟨#[61,61]⟩:ByteArray),(⟨#[33,61]⟩:ByteArray),(⟨#[60]⟩:ByteArray),(⟨#[60,61]⟩:ByteArray),(⟨#[62]⟩:ByteArray),(⟨#[62,61]⟩:ByteArray)]
def Ai:List ByteArray:=[(⟨#[38,38]⟩:ByteArray)]
def Hf:List ByteArray:=[(⟨#[124,124]⟩:ByteArray)]
def PC.product(nx:Lv)(d:Int)(s:PS):Px×PS:=c.loop Ag 8 (c.unary nx d) s
def PC.sum(nx:Lv)(d:Int)(s:PS):Px×PS:=c.loop Ah 6 (c.product nx d) s
def PC.compare(nx:Lv)(d:Int)(s:PS):Px×PS :=
 let n:=c.sum nx d s
 if c.any yB n.2<0 then n else
  let k:=c.sum nx d n.2.inc
  (HQ (11+c.any yB n.2) (c.now n.2).pos n.1 k.1,k.2)
def PC.and(nx:Lv)(d:Int)(s:PS):Px×PS:=c.loop Ai 17 (c.compare nx d) s
def PC.or(nx:Lv)(d:Int)(s:PS):Px×PS:=c.loop Hf 18 (c.and nx d) s
def PC.expr(nx:Lv)(d:Int)(s:PS):Px×PS :=
 let n:=c.or nx d s
 if c.lj (⟨#[63]⟩:ByteArray) n.2 then
  if (c.cQ d n.2).over then (o5,c.cQ d n.2)
  else
   let a:=nx.ex (c.cQ d n.2).inc
   let b:=nx.ex (c.take (⟨#[58]⟩:ByteArray) a.2).2
   (.mk 7 0 0 0 0 ⟨#[]⟩ [n.1,a.1,b.1] (c.now (c.cQ d n.2)).pos,b.2)
 else n
def PC.lv(nx:Lv)(d:Int):Lv:=⟨c.expr nx d,c.unary nx d⟩
def PC.lvl:Nat→Int→Lv
 | 0,d=>c.lv ⟨fun s=>(o5,s),fun s=>(o5,s)⟩ d
 | k+1,d=>c.lv (PC.lvl k (d+1)) d
def PC.iA(s:PS):Px×PS:=(c.lvl 24 0).ex s
def tT:List ByteArray:=[(⟨#[105,110,116]⟩:ByteArray),(⟨#[113,116,121]⟩:ByteArray),(⟨#[112,114,105,99,101]⟩:ByteArray),(⟨#[116,105,109,101]⟩:ByteArray),(⟨#[98,111,111,108]⟩:ByteArray),(⟨#[115,105,100,101]⟩:ByteArray)]
def PC.Fc(nm:ByteArray)(t pos pos2:Int)(minus:Bool)(n:Px)(s:PS):dh×PS:=(⟨nm,t,if minus then .mk 5 1 0 0 0 ⟨#[]⟩ [n] pos2 else n,pos⟩,(c.take (⟨#[59]⟩:ByteArray) s).2)
def PC.rZ(nm:ByteArray)(t pos pos2:Int)(minus:Bool)(s:PS):dh×PS :=
 if minus=true∧(c.now s).kind≠3 then (⟨nm,t,o5,pos⟩,c.c5 130 s) else c.Fc nm t pos pos2 minus (c.literal s).1.1 (if (c.literal s).1.2 then (c.literal s).2 else c.c5 130 (c.literal s).2)
def PC.ko(nm:ByteArray)(t pos:Int)(s:PS):dh×PS:=c.rZ nm t pos (c.now s).pos (c.lj (⟨#[45]⟩:ByteArray) s) (if c.lj (⟨#[45]⟩:ByteArray) s then s.inc else s)
def PC.BW(nm:ByteArray)(pos:Int)(s:PS):dh×PS:=if c.any tT s<0 then (⟨nm,0,o5,pos⟩,c.c5 130 s) else c.ko nm (1+c.any tT s) pos (c.take (⟨#[61]⟩:ByteArray) s.inc).2
def PC.fG(s:PS):dh×PS:=c.BW (c.name (c.take (⟨#[114,101,103]⟩:ByteArray) s).2).1 (c.take (⟨#[114,101,103]⟩:ByteArray) s).1 (c.name (c.take (⟨#[114,101,103]⟩:ByteArray) s).2).2
def o7:List ByteArray:=[(⟨#[108,105,109,105,116]⟩:ByteArray),(⟨#[105,111,99]⟩:ByteArray),(⟨#[102,111,107]⟩:ByteArray),(⟨#[112,111,115,116]⟩:ByteArray)]
def PC.o8(s:PS):ByteArray×PS:=if c.lj (⟨#[97,115]⟩:ByteArray) s then c.name s.inc else (⟨#[]⟩,s)
def PC.Aj(x y:Px)(pos:Int)(z:Px)(o:Int)(s:PS):dA×PS:=(⟨1,o,(c.o8 s).1,x,y,z,o5,pos⟩,(c.o8 s).2)
def PC.D2(x y:Px)(pos:Int)(z:Px)(s:PS):dA×PS:=if c.any o7 s<0 then (⟨1,2,⟨#[]⟩,x,y,z,o5,pos⟩,c.c5 130 s) else c.Aj x y pos z (if c.any o7 s=0 then 1 else 2+c.any o7 s) s.inc
def IX:List ByteArray:=[(⟨#[109,97,114,107,101,116]⟩:ByteArray),(⟨#[97,116]⟩:ByteArray)]
def PC.D3(x y:Px)(pos:Int)(s:PS):dA×PS:=if c.any IX s<0 then (⟨1,0,⟨#[]⟩,x,y,o5,o5,pos⟩,c.c5 130 s)
 else if c.any IX s=1 then c.D2 x y pos (c.iA s.inc).1 (c.iA s.inc).2 else c.Aj x y pos o5 2 s.inc
def PC.IY(x:Px)(pos:Int)(s:PS):dA×PS:=c.D3 x (c.iA (c.take (⟨#[111,102]⟩:ByteArray) s).2).1 pos (c.iA (c.take (⟨#[111,102]⟩:ByteArray) s).2).2
def PC.rh(s:PS):dA×PS:=c.IY (c.iA (c.take (⟨#[115,117,98,109,105,116]⟩:ByteArray) s).2).1 (c.take (⟨#[115,117,98,109,105,116]⟩:ByteArray) s).1 (c.iA (c.take (⟨#[115,117,98,109,105,116]⟩:ByteArray) s).2).2
def Gc:List ByteArray:=[(⟨#[115,117,98,109,105,116]⟩:ByteArray),(⟨#[97,109,101,110,100]⟩:ByteArray),(⟨#[99,97,110,99,101,108]⟩:ByteArray),(⟨#[115,101,116]⟩:ByteArray),(⟨#[103,111,116,111]⟩:ByteArray),(⟨#[104,97,108,116]⟩:ByteArray)]
def Kf:dA:=⟨0,0,⟨#[]⟩,o5,o5,o5,o5,0⟩
def PC.J8(nm:ByteArray)(pos:Int)(x:Px)(s:PS):dA×PS:=(⟨2,0,nm,o5,x,(c.iA (c.take (⟨#[97,116]⟩:ByteArray) s).2).1,o5,pos⟩,(c.iA (c.take (⟨#[97,116]⟩:ByteArray) s).2).2)
def PC.J9(nm:ByteArray)(pos:Int)(s:PS):dA×PS:=(⟨4,0,nm,o5,o5,o5,(c.iA (c.take (⟨#[61]⟩:ByteArray) s).2).1,pos⟩,(c.iA (c.take (⟨#[61]⟩:ByteArray) s).2).2)
def PC.Gv(k:Int)(nm:ByteArray)(pos:Int)(s:PS):dA×PS:=if k=2 then c.J8 nm pos (c.iA (c.take (⟨#[116,111]⟩:ByteArray) s).2).1 (c.iA (c.take (⟨#[116,111]⟩:ByteArray) s).2).2 else if k=4 then c.J9 nm pos s else (⟨k,0,nm,o5,o5,o5,o5,pos⟩,s)
def PC.do(s:PS):dA×PS :=
 if c.any Gc s<0 then (Kf,c.c5 130 s)
 else if c.any Gc s=0 then c.rh s
 else if c.any Gc s=5 then c.Gv 6 ⟨#[]⟩ (c.now s).pos s.inc
 else c.Gv (1+c.any Gc s) (c.name s.inc).1 (c.now s).pos (c.name s.inc).2
def PC.many(n most:Nat)(s:PS):PS:=if most≤n then c.c5 131 s else s
def PC.mM:Nat→List dA→PS→List dA×PS
 | 0,l,s=>(l,s)
 | m+1,l,s =>
   if c.lj (⟨#[44]⟩:ByteArray) (c.do s).2 then
    if (c.many (l.length+1) 8 (c.do s).2).over then (l++[(c.do s).1],c.many (l.length+1) 8 (c.do s).2) else PC.mM m (l++[(c.do s).1]) (c.many (l.length+1) 8 (c.do s).2).inc
   else (l++[(c.do s).1],(c.do s).2)
def PC.Hg(w:Px)(pos:Int)(s:PS):cD×PS:=(⟨w,(c.mM 8 [] s).1,pos⟩,(c.take (⟨#[59]⟩:ByteArray) (c.mM 8 [] s).2).2)
def PC.qo(s:PS):cD×PS:=c.Hg (c.iA (c.take (⟨#[119,104,101,110]⟩:ByteArray) s).2).1 (c.take (⟨#[119,104,101,110]⟩:ByteArray) s).1 (c.take (⟨#[100,111]⟩:ByteArray) (c.iA (c.take (⟨#[119,104,101,110]⟩:ByteArray) s).2).2).2
def PC.iN{α:Type}(w:ByteArray)(most:Nat)(one:PS→α×PS):Nat→List α→PS→List α×PS
 | 0,l,s=>(l,if c.lj w s then c.many l.length most s else s)
 | m+1,l,s=>if c.lj w s then
    if (c.many l.length most s).over then (l,c.many l.length most s) else PC.iN w most one m (l++[(one (c.many l.length most s)).1]) (one (c.many l.length most s)).2
   else (l,s)
def PC.list{α:Type}(w:ByteArray)(most:Nat)(one:PS→α×PS)(s:PS):List α×PS:=c.iN w most one most [] s
def PC.Fe(nm:ByteArray)(pos:Int)(s:PS):cq×PS:=(⟨nm,(c.list (⟨#[119,104,101,110]⟩:ByteArray) 12 c.qo s).1,pos⟩,(c.take (⟨#[125]⟩:ByteArray) (c.list (⟨#[119,104,101,110]⟩:ByteArray) 12 c.qo s).2).2)
def PC.state(s:PS):cq×PS:=c.Fe (c.name (c.take (⟨#[115,116,97,116,101]⟩:ByteArray) s).2).1 (c.take (⟨#[115,116,97,116,101]⟩:ByteArray) s).1 (c.take (⟨#[123]⟩:ByteArray) (c.name (c.take (⟨#[115,116,97,116,101]⟩:ByteArray) s).2).2).2
def PC.slot(s:PS):cx×PS:=(⟨(c.name (c.take (⟨#[115,108,111,116]⟩:ByteArray) s).2).1,(c.take (⟨#[115,108,111,116]⟩:ByteArray) s).1⟩,(c.take (⟨#[59]⟩:ByteArray) (c.name (c.take (⟨#[115,108,111,116]⟩:ByteArray) s).2).2).2)
def PC.end(s:PS):PS:=if s.over then s else if c.l.length≤s.next∨(c.tok s.next).kind≠0 then c.c5 130 s else s
def PC.Ff(nm:ByteArray)(rs:List dh)(ss:List cx)(ts:List cq)(s:PS):cu×PS:=(⟨nm,rs,ss,ts⟩,c.end (c.take (⟨#[125]⟩:ByteArray) (if ts.length=0 then c.c5 130 s else s)).2)
def PC.Fg(nm:ByteArray)(rs:List dh)(ss:List cx)(s:PS):cu×PS:=c.Ff nm rs ss (c.list (⟨#[115,116,97,116,101]⟩:ByteArray) 12 c.state s).1 (c.list (⟨#[115,116,97,116,101]⟩:ByteArray) 12 c.state s).2
def PC.Fh(nm:ByteArray)(rs:List dh)(s:PS):cu×PS:=c.Fg nm rs (c.list (⟨#[115,108,111,116]⟩:ByteArray) 4 c.slot s).1 (c.list (⟨#[115,108,111,116]⟩:ByteArray) 4 c.slot s).2
def PC.Fi(nm:ByteArray)(s:PS):cu×PS:=c.Fh nm (c.list (⟨#[114,101,103]⟩:ByteArray) 12 c.fG s).1 (c.list (⟨#[114,101,103]⟩:ByteArray) 12 c.fG s).2
def PC.whole(s:PS):cu×PS:=c.Fi (c.name (c.take (⟨#[115,116,114,97,116,101,103,121]⟩:ByteArray) s).2).1 (c.take (⟨#[123]⟩:ByteArray) (c.name (c.take (⟨#[115,116,114,97,116,101,103,121]⟩:ByteArray) s).2).2).2
end
def tf(t:ByteArray):PC:=if 4096<(t.size:Int) then ⟨[],0,0⟩ else ⟨(te t 0).1,((te t 0).2.map Prod.fst).getD 0,((te t 0).2.map Prod.snd).getD 0⟩
def gR(t:ByteArray):PS:=⟨0,if 4096<(t.size:Int) then ⟨110,0,true⟩ else ⟨0,0,false⟩⟩
def zF:PF:=⟨0,0,false⟩
def nQ(t:ByteArray):cu×PF :=
 let r:=(tf t).whole (gR t)
 if r.2.over then (⟨⟨#[]⟩,[],[],[]⟩,r.2.f) else (r.1,zF)
def nR(t:ByteArray):Px×PF :=
 let n:=(tf t).iA (gR t)
 let s:=(tf t).end n.2
 if s.over then (o5,s.f) else (n.1,zF)
end Go.Lx
namespace Go.Lx
open Go.Vc Go.Proofs.Tryz
def jX:List (Nat×List Sh):=[(0,[]),(3,[.one (.int .i64)]),(4,[.one .bool]),(9,[.one .str]),(47,[.one (.int .i64)]),(105,[.one .slc]),(140,[.one .slc,.one (.int .i64),.one (.int .i64)]),(143,[.one (.int .u8)]),(145,[.agg [(.int .u8),.str,(.int .u8),(.int .i64),(.int .i64)]])]
def fH.V(p:Addr)(I:cc)(F:b8)(Q:cd)  : Prop:=∃ad:Addr,some p=some ad∧∃(m:Int),Rd I F ((ad.add 4).add 0) [.int .i64 m]∧Q (.returned (.bool (m != 0))) I (F)
theorem fH.vc{p:Addr}{I:cc}{F:b8}{Q:cd}  (h:fH.V p I F Q):cf P 55 #[.pointer (some p)] I F Q :=
 tw (A:=(an [] [] jX)) [] func55 h
def fZ.V(ka:Nat→Int→Bs→Int→Int→Int→Nat×Obj)(vb vi:Int→Value)(vs:Bs→Value)(p:Addr)(I:cc)(F:b8)(Q:cd)  : Prop:=∀b:Nat,∃(r:Bool),(cf P 55 (#[.pointer (some p)]) I ((ka b 0 (⟨#[]⟩:Bs) 0 0 0)::F) fun e1 I1 G1=>e1=.returned (.bool r)∧List.Perm G1 ((ka b 0 (⟨#[]⟩:Bs) 0 0 0)::F))∧(It r (Q (.returned (.agg #[vb 0,vs (⟨#[]⟩:Bs),vb 0,vi 0,vi 0])) I F) (∃ad:Addr,some p=some ad∧∃(m:Int),Rd I ((ka b 0 (⟨#[]⟩:Bs) 0 0 0)::F) (ad.add 3) [vi m]∧∃j:Addr,some p=some j∧∃(q:OA) (a s:Nat),Rd I ((ka b 0 (⟨#[]⟩:Bs) 0 0 0)::F) (j.add 0) [.slice q a s]∧(Dt (m≥(a:Int)) (Q (.returned (.agg #[vb 0,vs (⟨#[]⟩:Bs),vb 0,vi 0,vi 0])) I F) (∃k:Addr,some p=some k∧∃(c:OA) (d o:Nat),Rd I ((ka b 0 (⟨#[]⟩:Bs) 0 0 0)::F) (k.add 0) [.slice c d o]∧∃l:Addr,some p=some l∧∃(m1:Int),Rd I ((ka b 0 (⟨#[]⟩:Bs) 0 0 0)::F) (l.add 3) [vi m1]∧((0≤m1∧m1<(d:Int))∧∃n:Addr,c=some n∧∃(e:Int) (f:Bs) (g h i:Int),Rd I ((ka b 0 (⟨#[]⟩:Bs) 0 0 0)::F) (n.add (Int.toNat m1*5)) [vb e,vs f,vb g,vi h,vi i]∧Q (.returned (.agg #[vb e,vs f,vb g,vi h,vi i])) I F)))))
theorem fZ.vc{p:Addr}{I:cc}{F:b8}{Q:cd}  (h:fZ.V (fun W a b c d e=>(W,Obj.cells #[.int .u8 a,.string b,.int .u8 c,.int .i64 d,.int .i64 e] 145 (0,0))) (.int .u8) (.int .i64) .string p I F Q):cf P 88 #[.pointer (some p)] I F Q :=
 tw (A:=(cK [1001,1012] [] [55] jX [] [] [] [(3,10,[0])] [] [] [])) [55] func88 h
def ff.V(vi:Int→Value)(p:Addr)(e1:Int)(I:cc)(F:b8)(Q:cd)  : Prop:=cy P 55 (#[.pointer (some p)]) I (·) F .bool fun r I1 F1=>(It r (Q (.returned (.tuple #[])) I1 F1) (∃ad:Addr,some p=some ad∧∃(m:Int),Rd I1 F1 (ad.add 3) [vi m]∧∃h:Addr,some p=some h∧∃(q:OA) (c s:Nat),Rd I1 F1 (h.add 0) [.slice q c s]∧(Dt (m≥(c:Int)) (∃i:Addr,some p=some i∧∃(m1:Int),Rd I1 F1 (i.add 1) [vi m1]∧∃j:Addr,some p=some j∧∃(m2:Int),Rd I1 F1 (j.add 2) [vi m2]∧∃a:Addr,some p=some a∧∃(cs:List Value) (el:Nat) (F2:b8),List.Perm F1 (((a.add 4).block,Obj.cells cs.toArray el (0,0))::F2)∧(a.add 4).spot=none∧(a.add 4).off+3≤cs.length∧Q (.returned (.tuple #[])) I1 ((((a.add 4).block,Obj.cells (cj (a.add 4).off [vi m1,vi m2,.bool true] cs).toArray el (0,0))::F2))) (∃k:Addr,some p=some k∧∃(d:OA) (e o:Nat),Rd I1 F1 (k.add 0) [.slice d e o]∧∃l:Addr,some p=some l∧∃(m3:Int),Rd I1 F1 (l.add 3) [vi m3]∧((0≤m3∧m3<(e:Int))∧∃n:Addr,d=some n∧∃(m4:Int),Rd I1 F1 ((n.add (Int.toNat m3*5)).add 4) [vi m4]∧∃b:Addr,some p=some b∧∃(f:List Value) (g:Nat) (F3:b8),List.Perm F1 (((b.add 4).block,Obj.cells f.toArray g (0,0))::F3)∧(b.add 4).spot=none∧(b.add 4).off+3≤f.length∧Q (.returned (.tuple #[])) I1 ((((b.add 4).block,Obj.cells (cj (b.add 4).off [vi e1,vi m4,.bool false] f).toArray g (0,0))::F3)))))))
theorem ff.vc{p:Addr}{e1:Int}{I:cc}{F:b8}{Q:cd}  (h:ff.V (.int .i64) p e1 I F Q):cf P 90 #[.pointer (some p),.int .i64 e1] I F Q :=
 tw (A:=(cK [1,1009] [] [55] jX [] [] [] [(2,12,[]),(3,16,[])] [] [] [])) [55] func90 h
def gY.V(p:Addr)(s:Bs)(I:cc)(F:b8)(Q:cd)  : Prop:=dg P 88 (#[.pointer (some p)]) I (·) F fun e1 I1 G1=>∃(a:Int) (b:Bs) (c d e:Int),e1=.returned (.agg #[.int .u8 a,.string b,.int .u8 c,.int .i64 d,.int .i64 e])∧G1 fun F1=>∀f:Nat,(It (b.toList==s.toList) (It (a==1) (Q (.returned (.bool true)) I1 F1) (Q (.returned (.bool (a==4))) I1 F1)) (Q (.returned (.bool false)) I1 F1))
theorem gY.vc{p:Addr}{s:Bs}{I:cc}{F:b8}{Q:cd}  (h:gY.V p s I F Q):cf P 86 #[.pointer (some p),.string s] I F Q :=
 tw (A:=(an [2003,2007] [88] jX)) [88] func86 h
def gg.V(p:Addr)(b:OA)(a c:Nat)(I:cc)(F:b8)(Q:cd)(Inv6:Int→Int→Nat→cc→b8→Prop):Prop:=(∃m:Nat,Inv6 0 0 m I F)∧∀(x i:Int) (m1:Nat) (I1:cc) (F1:b8),cc.le I I1→Inv6 x i m1 I1 F1→(Dt (i<(a:Int)) ((0≤i∧i<(a:Int))∧∃ad:Addr,b=some ad∧∃(m2:Bs),Rd I1 F1 (ad.add (Int.toNat i*1)) [.string m2]∧cy P 86 (#[.pointer (some p),.string m2]) I1 (·) F1 .bool fun r I2 F2=>(It r (Q (.returned (.int .i64 i)) I2 F2) (∃m3:Nat,m3<m1∧Inv6 x (IntKind.wrap .i64 (i+1)) m3 I2 F2))) (Q (.returned (.int .i64 (-1))) I1 F1))
theorem gg.vc{p:Addr}{a:OA}{b c:Nat}{I:cc}{F:b8}{Q:cd}(Inv6:Int→Int→Nat→cc→b8→Prop)(h:gg.V p a b c I F Q Inv6):cf P 122 #[.pointer (some p),.slice a b c] I F Q :=
 tw (A:=(cK [2003,5000] [] [86] jX [(6,⟨[(4,(.int .i64)),(5,(.int .i64))],[],fun _ _ _ vs m I F=>match vs with | [.int _ y0,.int _ y1]=>Inv6 y0 y1 m I F | _=>False,[],[]⟩)] [] [] [] [] [] [])) [86] func122 h
def fI.V(vi:Int→Value)(p:Addr)(s:Bs)(I:cc)(F:b8)(Q:cd)  : Prop:=cy P 86 (#[.pointer (some p),.string s]) I (·) F .bool fun r I1 F1=>(It (!r) (dg P 90 (#[.pointer (some p),vi 130]) I1 (·) F1 fun e2 I2 G2=>e2=.returned (.tuple #[])∧G2 fun F2=>Q (.returned (vi 0)) I2 F2) (dg P 88 (#[.pointer (some p)]) I1 (·) F1 fun e3 I3 G3=>∃(c:Int) (d:Bs) (e f b:Int),e3=.returned (.agg #[.int .u8 c,.string d,.int .u8 e,vi f,vi b])∧G3 fun F3=>∃ad:Addr,some p=some ad∧∃(m:Int),Rd I3 F3 (ad.add 3) [vi m]∧∃a:Addr,some p=some a∧∃(cs:List Value) (el:Nat) (F4:b8),List.Perm F3 (((a.add 3).block,Obj.cells cs.toArray el (0,0))::F4)∧(a.add 3).spot=none∧(a.add 3).off+1≤cs.length∧Q (.returned (vi b)) I3 ((((a.add 3).block,Obj.cells (cj (a.add 3).off [vi (IntKind.wrap .i64 (m+1))] cs).toArray el (0,0))::F4))))
theorem fI.vc{p:Addr}{s:Bs}{I:cc}{F:b8}{Q:cd}  (h:fI.V (.int .i64) p s I F Q):cf P 89 #[.pointer (some p),.string s] I F Q :=
 tw (A:=(an [2001] [86,88,90] jX)) [86,88,90] func89 h
def fJ.V(vb vi:Int→Value)(vs:Bs→Value)(p:Addr)(I:cc)(F:b8)(Q:cd)  : Prop:=dg P 88 (#[.pointer (some p)]) I (·) F fun e1 I1 G1=>∃(a:Int) (c:Bs) (d e f:Int),e1=.returned (.agg #[vb a,vs c,vb d,vi e,vi f])∧G1 fun F1=>∀g:Nat,(It (a != 2) (dg P 90 (#[.pointer (some p),vi 130]) I1 ((g,Obj.cells #[vb a,vs c,vb d,vi e,vi f] 145 (0,0))::·) F1 fun e2 I2 G2=>e2=.returned (.tuple #[])∧G2 fun F2=>Q (.returned (vs (⟨#[]⟩:Bs))) I2 F2) (∃ad:Addr,some p=some ad∧∃(m:Int),Rd I1 ((g,Obj.cells #[vb a,vs c,vb d,vi e,vi f] 145 (0,0))::F1) (ad.add 3) [vi m]∧∃b:Addr,some p=some b∧∃(cs:List Value) (el:Nat) (F3:b8),List.Perm F1 (((b.add 3).block,Obj.cells cs.toArray el (0,0))::F3)∧(b.add 3).spot=none∧(b.add 3).off+1≤cs.length∧Q (.returned (vs c)) I1 ((((b.add 3).block,Obj.cells (cj (b.add 3).off [vi (IntKind.wrap .i64 (m+1))] cs).toArray el (0,0))::F3))))
theorem fJ.vc{p:Addr}{I:cc}{F:b8}{Q:cd}  (h:fJ.V (.int .u8) (.int .i64) .string p I F Q):cf P 91 #[.pointer (some p)] I F Q :=
 tw (A:=(an [2002] [88,90] jX)) [88,90] func91 h
def eR.V(vt:Bool→Value)(p:Addr)(d:Int)(I:cc)(F:b8)(Q:cd)  : Prop:=(Dt ((IntKind.wrap .i64 (d+1))>24) (dg P 90 (#[.pointer (some p),.int .i64 132]) I (·) F fun e1 I1 G1=>e1=.returned (.tuple #[])∧G1 fun F1=>cy P 55 (#[.pointer (some p)]) I1 (·) F1 vt fun r I2 F2=>Q (.returned (vt (!r))) I2 F2) (cy P 55 (#[.pointer (some p)]) I (·) F vt fun r1 I3 F3=>Q (.returned (vt (!r1))) I3 F3))
theorem eR.vc{p:Addr}{d:Int}{I:cc}{F:b8}{Q:cd}  (h:eR.V .bool p d I F Q):cf P 87 #[.pointer (some p),.int .i64 d] I F Q :=
 tw (A:=(an [1002] [55,90] jX)) [55,90] func87 h
def eE.V(nV:Int→Int→Int→Int→Int→Bs→OA→Nat→Nat→Int→Value)(nO:Int→Int→Int→Int→Int→Bs→OA→Nat→Nat→Int→Obj)(vb vi:Int→Value)(vt:Bool→Value)(p:Addr)(I:cc)(F:b8)(Q:cd)(Inv6:Bool→Int→Int→Int→Int→Int→Bs→OA→Nat→Nat→Int→Int→Int→Int→Int→Int→Bs→OA→Nat→Nat→Int→cc→b8→Prop):Prop:=∀b:Nat,dg P 88 (#[.pointer (some p)]) I ((b,nO 0 0 0 0 0 (⟨#[]⟩:Bs) none 0 0 0)::·) F fun e1 I1 G1=>∃(d:Int) (a:Bs) (u v c:Int),e1=.returned (.agg #[vb d,.string a,vb u,vi v,vi c])∧G1 fun F1=>∀af:Nat,∀ag:Nat,((It (d==3) (Inv6 false 0 0 0 0 0 (⟨#[]⟩:Bs) none 0 0 0 1 0 u v 0 (⟨#[]⟩:Bs) none 0 0 c I1 F1) (It (d==1) (It (a.toList==(⟨#[116,114,117,101]⟩:Bs).toList) (It (a.toList==(⟨#[116,114,117,101]⟩:Bs).toList) (Inv6 false 0 0 0 0 0 (⟨#[]⟩:Bs) none 0 0 0 1 0 5 1 0 (⟨#[]⟩:Bs) none 0 0 c I1 F1) (Inv6 false 0 0 0 0 0 (⟨#[]⟩:Bs) none 0 0 0 1 0 5 0 0 (⟨#[]⟩:Bs) none 0 0 c I1 F1)) (It (a.toList==(⟨#[102,97,108,115,101]⟩:Bs).toList) (It (a.toList==(⟨#[116,114,117,101]⟩:Bs).toList) (Inv6 false 0 0 0 0 0 (⟨#[]⟩:Bs) none 0 0 0 1 0 5 1 0 (⟨#[]⟩:Bs) none 0 0 c I1 F1) (Inv6 false 0 0 0 0 0 (⟨#[]⟩:Bs) none 0 0 0 1 0 5 0 0 (⟨#[]⟩:Bs) none 0 0 c I1 F1)) (It (d==1) (It (a.toList==(⟨#[98,117,121]⟩:Bs).toList) (It (a.toList==(⟨#[115,101,108,108]⟩:Bs).toList) (Inv6 false 0 0 0 0 0 (⟨#[]⟩:Bs) none 0 0 0 1 0 6 2 0 (⟨#[]⟩:Bs) none 0 0 c I1 F1) (Inv6 false 0 0 0 0 0 (⟨#[]⟩:Bs) none 0 0 0 1 0 6 1 0 (⟨#[]⟩:Bs) none 0 0 c I1 F1)) (It (a.toList==(⟨#[115,101,108,108]⟩:Bs).toList) (It (a.toList==(⟨#[115,101,108,108]⟩:Bs).toList) (Inv6 false 0 0 0 0 0 (⟨#[]⟩:Bs) none 0 0 0 1 0 6 2 0 (⟨#[]⟩:Bs) none 0 0 c I1 F1) (Inv6 false 0 0 0 0 0 (⟨#[]⟩:Bs) none 0 0 0 1 0 6 1 0 (⟨#[]⟩:Bs) none 0 0 c I1 F1)) (Q (.returned (.tuple #[nV 0 0 0 0 0 (⟨#[]⟩:Bs) none 0 0 0,vt false])) I1 F1))) (Q (.returned (.tuple #[nV 0 0 0 0 0 (⟨#[]⟩:Bs) none 0 0 0,vt false])) I1 F1)))) (It (d==1) (It (a.toList==(⟨#[98,117,121]⟩:Bs).toList) (It (a.toList==(⟨#[115,101,108,108]⟩:Bs).toList) (Inv6 false 0 0 0 0 0 (⟨#[]⟩:Bs) none 0 0 0 1 0 6 2 0 (⟨#[]⟩:Bs) none 0 0 c I1 F1) (Inv6 false 0 0 0 0 0 (⟨#[]⟩:Bs) none 0 0 0 1 0 6 1 0 (⟨#[]⟩:Bs) none 0 0 c I1 F1)) (It (a.toList==(⟨#[115,101,108,108]⟩:Bs).toList) (It (a.toList==(⟨#[115,101,108,108]⟩:Bs).toList) (Inv6 false 0 0 0 0 0 (⟨#[]⟩:Bs) none 0 0 0 1 0 6 2 0 (⟨#[]⟩:Bs) none 0 0 c I1 F1) (Inv6 false 0 0 0 0 0 (⟨#[]⟩:Bs) none 0 0 0 1 0 6 1 0 (⟨#[]⟩:Bs) none 0 0 c I1 F1)) (Q (.returned (.tuple #[nV 0 0 0 0 0 (⟨#[]⟩:Bs) none 0 0 0,vt false])) I1 F1))) (Q (.returned (.tuple #[nV 0 0 0 0 0 (⟨#[]⟩:Bs) none 0 0 0,vt false])) I1 F1)))))∧∀(x:Bool) (w y z aa ab:Int) (ac:Bs) (r:OA) (s t:Nat) (ae i j k l n:Int) (o:Bs) (e:OA) (f g:Nat) (q:Int) (I2:cc) (F2:b8),cc.le I1 I2→Inv6 x w y z aa ab ac r s t ae i j k l n o e f g q I2 F2→∃ad:Addr,some p=some ad∧∃(m:Int),Rd I2 ((b,nO w y z aa ab ac r s t ae)::(af,Obj.cells #[vb d,.string a,vb u,vi v,vi c] 145 (0,0))::(ag,nO i j k l n o e f g q)::F2) (ad.add 3) [vi m]∧∃h:Addr,some p=some h∧∃(cs:List Value) (el:Nat) (F3:b8),List.Perm F2 (((h.add 3).block,Obj.cells cs.toArray el (0,0))::F3)∧(h.add 3).spot=none∧(h.add 3).off+1≤cs.length∧Q (.returned (.tuple #[nV i j k l n o e f g q,vt true])) I2 ((((h.add 3).block,Obj.cells (cj (h.add 3).off [vi (IntKind.wrap .i64 (m+1))] cs).toArray el (0,0))::F3))
theorem eE.vc{p:Addr}{I:cc}{F:b8}{Q:cd}(Inv6:Bool→Int→Int→Int→Int→Int→Bs→OA→Nat→Nat→Int→Int→Int→Int→Int→Int→Bs→OA→Nat→Nat→Int→cc→b8→Prop)(h:eE.V (fun k o t n f s a l c q=>.agg #[.int .u8 k,.int .u8 o,.int .u8 t,.int .i64 n,.int .u8 f,.string s,.slice a l c,.int .i64 q]) (fun k o t n f s a l c q=>.cells #[.int .u8 k,.int .u8 o,.int .u8 t,.int .i64 n,.int .u8 f,.string s,.slice a l c,.int .i64 q] 28 (0,0)) (.int .u8) (.int .i64) .bool p I F Q Inv6):cf P 123 #[.pointer (some p)] I F Q :=
 tw (A:=(cK [4002,7002,7006,7010,9002,11002,11006,11010,14002] [] [88] jX [(6,⟨[(3,.bool)],[(0,[(.int .u8),(.int .u8),(.int .u8),(.int .i64),(.int .u8),.str,.slc,(.int .i64)]),(2,[(.int .u8),(.int .u8),(.int .u8),(.int .i64),(.int .u8),.str,.slc,(.int .i64)])],fun _ _ _ vs m I F=>match vs with | [.bool y0,.int _ y1,.int _ y2,.int _ y3,.int _ y4,.int _ y5,.string y6,.slice y7 y8 y9,.int _ y10,.int _ y11,.int _ y12,.int _ y13,.int _ y14,.int _ y15,.string y16,.slice y17 y18 y19,.int _ y20]=>Inv6 y0 y1 y2 y3 y4 y5 y6 y7 y8 y9 y10 y11 y12 y13 y14 y15 y16 y17 y18 y19 y20 I F | _=>False,[],[]⟩)] [] [] [] [] [] [])) [88] func123 h
def gh.V(vi:Int→Value)(p:Addr)(I:cc)(F:b8)(Q:cd)  : Prop:=cy P 55 (#[.pointer (some p)]) I (·) F .bool fun r I1 F1=>(It r (Q (.returned (.tuple #[])) I1 F1) (∃ad:Addr,some p=some ad∧∃(m:Int),Rd I1 F1 (ad.add 3) [vi m]∧∃d:Addr,some p=some d∧∃(i:OA) (a j:Nat),Rd I1 F1 (d.add 0) [.slice i a j]∧(Dt (m≥(a:Int)) (dg P 90 (#[.pointer (some p),vi 130]) I1 (·) F1 fun e2 I2 G2=>e2=.returned (.tuple #[])∧G2 fun F2=>Q (.returned (.tuple #[])) I2 F2) (∃e:Addr,some p=some e∧∃(b:OA) (c h:Nat),Rd I1 F1 (e.add 0) [.slice b c h]∧∃f:Addr,some p=some f∧∃(m1:Int),Rd I1 F1 (f.add 3) [vi m1]∧((0≤m1∧m1<(c:Int))∧∃g:Addr,b=some g∧∃(m2:Int),Rd I1 F1 ((g.add (Int.toNat m1*5)).add 0) [.int .u8 m2]∧(It (m2 != 0) (dg P 90 (#[.pointer (some p),vi 130]) I1 (·) F1 fun e3 I3 G3=>e3=.returned (.tuple #[])∧G3 fun F3=>Q (.returned (.tuple #[])) I3 F3) (Q (.returned (.tuple #[])) I1 F1)))))))
theorem gh.vc{p:Addr}{I:cc}{F:b8}{Q:cd}  (h:gh.V (.int .i64) p I F Q):cf P 54 #[.pointer (some p)] I F Q :=
 tw (A:=(an [1,1009,1022] [55,90] jX)) [55,90] func54 h
def fK.V(vt:Bool→Value)(p:Addr)(n a:Int)(I:cc)(F:b8)(Q:cd)  : Prop:=(Dt (n≥a) (dg P 90 (#[.pointer (some p),.int .i64 131]) I (·) F fun e1 I1 G1=>e1=.returned (.tuple #[])∧G1 fun F1=>cy P 55 (#[.pointer (some p)]) I1 (·) F1 vt fun r I2 F2=>Q (.returned (vt (!r))) I2 F2) (cy P 55 (#[.pointer (some p)]) I (·) F vt fun r1 I3 F3=>Q (.returned (vt (!r1))) I3 F3))
theorem fK.vc{p:Addr}{n a:Int}{I:cc}{F:b8}{Q:cd}  (h:fK.V .bool p n a I F Q):cf P 92 #[.pointer (some p),.int .i64 n,.int .i64 a] I F Q :=
 tw (A:=(an [1002] [55,90] jX)) [55,90] func92 h
def lJ.V(vi:Int→Value)(s:Bs)(I:cc)(F:b8)(Q:cd)  : Prop:=(Dt ((s.size:Int)>4096) (∀b:Nat,Q (.returned (.pointer (some (⟨b,0,none⟩:Addr)))) I (((b,Obj.cells #[.slice none 0 0,vi 0,vi 0,vi 0,vi 110,vi 0,.bool true] 107 (0,0))::F))) (dg P 84 #[.string s] I (·) F fun e1 I1 G1=>∃(a:OA) (c d:Nat) (r1 r2:Int),e1=.returned (.tuple #[.slice a c d,vi r1,vi r2])∧G1 fun F1=>∀b1:Nat,Q (.returned (.pointer (some (⟨b1,0,none⟩:Addr)))) I1 (((b1,Obj.cells #[.slice a c d,vi r1,vi r2,vi 0,vi 0,vi 0,.bool false] 107 (0,0))::F1))))
theorem lJ.vc{s:Bs}{I:cc}{F:b8}{Q:cd}  (h:lJ.V (.int .i64) s I F Q):cf P 52 #[.string s] I F Q :=
 tw (A:=(cK [1002] [] [84] jX [] [] [2002,4004] [] [] [] [])) [84] func52 h
end Go.Lx
namespace Go.Lx
open Go.Vc
structure PQ where
 c:PC
 a:Option Addr
 cap:Nat
def PQ.cl(q:PQ)(s:PS):List Value:=[.slice q.a q.c.l.length q.cap,.int .i64 q.c.bad,.int .i64 q.c.pos,.int .i64 s.next,.int .i64 s.f.e,.int .i64 s.f.pos,.bool s.f.tok]
def PQ.cr(q:PQ)(b:Nat)(s:PS):Nat×Obj:=(b,.cells (q.cl s).toArray 107 (0,0))
structure PQ.ok (q:PQ) (I:cc):Prop where
 sl:Sl I 5 Tok.enc q.a q.c.l.length q.c.l
 len:q.c.l.length≤1000000
theorem PQ.ok.mono{q:PQ}{I J:cc}(h:q.ok I)(hl:cc.le I J):q.ok J:=⟨h.sl.mono hl,h.len⟩
theorem PQ.rd{q:PQ}{b:Nat}{s:PS}{I:cc}{G:b8}(h:q.cr b s∈G){k:Nat}{v:Value}(hv:(q.cl s)[k]? = some v):Rd I G ((⟨b,0,none⟩:Addr).add k) [v]:=by
 rw[eD]
 refine⟨rfl,_,_,_,.inr h,fun j hj=>?_⟩
 have:j=0:=by simpa using hj
 subst this
 simpa using hv
theorem PQ.eh{q:PQ}{b:Nat}{s:PS}(hn:s.next≤2000000) :
  (((⟨b,0,none⟩:Addr).add 3).block,Obj.cells (cj ((⟨b,0,none⟩:Addr).add 3).off [.int .i64 (IntKind.wrap .i64 ((s.next:Int)+1))] (q.cl s)).toArray 107 (0,0))=q.cr b s.inc:=by
 rw[eD,cY (by omega)]
 rfl
theorem PQ.IZ{q:PQ}{b:Nat}{s:PS}{e p:Int}{t:Bool} :
  (((⟨b,0,none⟩:Addr).add 4).block,Obj.cells (cj ((⟨b,0,none⟩:Addr).add 4).off [.int .i64 e,.int .i64 p,.bool t] (q.cl s)).toArray 107 (0,0))=q.cr b ⟨s.next,⟨e,p,t⟩⟩:=by
 rw[eD]
 rfl
theorem PQ.spot(b k:Nat):((⟨b,0,none⟩:Addr).add k).spot=none:=by rw[eD]
theorem PQ.off(b k:Nat):((⟨b,0,none⟩:Addr).add k).off=k:=by rw[eD]
variable {q:PQ} {b:Nat} {s:PS} {I:cc}
theorem nS{F:b8}(hm:q.cr b s∈F):cf P 55 #[.pointer (some ⟨b,0,none⟩)] I F (dS (.bool s.over) F):=by
 refine fH.vc ?_
 unfold fH.V
 exact⟨_,rfl,_,(PQ.rd hm (k:=4) rfl).field (o:=0) rfl,rfl,rfl⟩
theorem j3(hq:q.ok I){F:b8}(hm:q.cr b s∈F):cf P 88 #[.pointer (some ⟨b,0,none⟩)] I F (dS (q.c.now s).v F):=by
 refine fZ.vc ?_
 unfold fZ.V
 intro b1
 refine⟨s.over,cf.ret (nS (.tail _ hm)) fun I1 l1=>⟨rfl,.refl _⟩,fun h=>⟨?_,rfl⟩,fun h=>⟨_,rfl,_,PQ.rd (.tail _ hm) rfl,_,rfl,_,_,_,PQ.rd (.tail _ hm) rfl,fun hn=>⟨?_,rfl⟩,fun hn=>⟨_,rfl,_,_,_,PQ.rd (.tail _ hm) rfl,_,rfl,_,PQ.rd (.tail _ hm) rfl, ?_⟩⟩⟩
 ·unfold PC.now;rw[h];rfl
 ·have hn:=of_decide_eq_true hn
  unfold PC.now;rw[h,if_pos (by simp;omega)];rfl
 ·have hn:=of_decide_eq_false hn
  obtain⟨ad,t,ha,ht,hr⟩:=hq.sl.at (i:=(s.next:Int)) (by omega) (by omega)
  refine⟨⟨by omega,by omega⟩,ad,ha,_,_,_,_,_,hr _, ?_,rfl⟩
  have ht:q.c.l[s.next]? = some t:=ht
  unfold PC.now PC.tok;rw[h,if_neg (by simp;omega),ht];rfl
theorem fg(hq:q.ok I)(e:Int){F F0:b8}(hF:F.Perm (q.cr b s::F0)):cf P 90 #[.pointer (some ⟨b,0,none⟩),.int .i64 e] I F fun e1 I' G=>e1=.returned (.tuple #[])∧G.Perm (q.cr b (q.c.c5 e s)::F0):=by
 have hm:q.cr b s∈F:=hF.mem_iff.2 (.head _)
 refine ff.vc ?_
 unfold ff.V
 refine cf.ret (nS hm) fun I1 l1=>⟨_,rfl,F,.refl _,fun h=>⟨rfl, ?_⟩,fun h=>⟨_,rfl,_,PQ.rd hm rfl,_,rfl,_,_,_,PQ.rd hm rfl,fun hn=>⟨_,rfl,_,PQ.rd hm rfl,_,rfl,_,PQ.rd hm rfl,_,rfl,q.cl s,107,F0,hF,PQ.spot _ _,by rw[PQ.off];exact (by decide:4+3≤7),rfl, ?_⟩,
  fun hn=>⟨_,rfl,_,_,_,PQ.rd hm rfl,_,rfl,_,PQ.rd hm rfl, ?_⟩⟩⟩
 ·unfold PC.c5;rw[if_pos h];exact hF
 ·have hn:=of_decide_eq_true hn
  unfold PC.c5;rw[if_neg (by simp[h]),if_pos (by omega),PQ.IZ]
 ·have hn:=of_decide_eq_false hn
  obtain⟨ad,t,ha,ht,hr⟩:=(hq.mono l1).sl.at (i:=(s.next:Int)) (by omega) (by omega)
  refine⟨⟨by omega,by omega⟩,ad,ha,t.pos,(hr _).field (o:=4) rfl,_,rfl,q.cl s,107,F0,hF,PQ.spot _ _,by rw[PQ.off];exact (by decide:4+3≤7),rfl, ?_⟩
  have ht:q.c.l[s.next]? = some t:=ht
  unfold PC.c5 PC.tok;rw[if_neg (by simp[h]),if_neg (by omega),ht,PQ.IZ];exact .refl _
theorem ri(hq:q.ok I)(w:ByteArray){F:b8}(hm:q.cr b s∈F):cf P 86 #[.pointer (some ⟨b,0,none⟩),.string w] I F (dS (.bool (q.c.lj w s)) F):=by
 refine gY.vc ?_
 unfold gY.V
 refine cf.ret (j3 hq hm) fun I1 l1=>⟨_,_,_,_,_,rfl,F,.refl _,fun b_t=>⟨fun h=>⟨fun h1=>⟨?_,rfl⟩,fun h1=>⟨?_,rfl⟩⟩,fun h=>⟨?_,rfl⟩⟩⟩<;>unfold PC.lj<;>simp_all
theorem oE(hq:q.ok I){a:Option Addr}{n k:Nat}{ws:List ByteArray}(hS:Sl I 1 vI a n ws)(hl:n≤100){F:b8}(hm:q.cr b s∈F):cf P 122 #[.pointer (some ⟨b,0,none⟩),.slice a n k] I F (dS (.int .i64 (q.c.any ws s)) F):=by
 have hn:=hS.1
 refine gg.vc (fun x i m I' F'=>F'=F∧0≤i∧i≤n∧m=(n-i).toNat∧q.c.any ws s=q.c.xf s (ws.drop i.toNat) i) ?_
 unfold gg.V
 refine⟨⟨_,rfl,by omega,by omega,rfl,rfl⟩,fun x i m1 I1 F1 l1 ⟨gF,g0,g1,gm,ge⟩=>⟨fun hlt=>?_,fun hlt=>⟨?_,gF⟩⟩⟩
 ·subst gF
  have hlt:=of_decide_eq_true hlt
  obtain⟨ad,w,ha,hw,hr⟩:=(hS.mono l1).at g0 hlt
  obtain⟨hk,rfl⟩:=List.getElem?_eq_some_iff.1 hw
  rw[List.drop_eq_getElem_cons hk,PC.xf] at ge
  refine⟨⟨g0,hlt⟩,ad,ha,_,hr _,cf.ret (ri (hq.mono l1) _ hm) fun I2 l2=>⟨_,rfl,F1,.refl _,fun h=>⟨?_,rfl⟩,fun h=>⟨(n-(i+1)).toNat,by omega,rfl, ?_⟩⟩⟩
  ·rw[ge,if_pos h]
  ·rw[cY (n:=i+1) (by omega)]
   refine⟨by omega,by omega,rfl, ?_⟩
   rw[ge,if_neg (by simp[h]),show (i+1).toNat=i.toNat+1 by omega]
 ·have hlt:=of_decide_eq_false hlt
  rw[ge,List.drop_eq_nil_of_le (by omega),PC.xf]
theorem mj{c:PC}{s:PS}(h:(c.now s).kind≠0):s.next<c.l.length:=by
 unfold PC.now at h
 split at h
 ·exact absurd rfl h
 ·rename_i h1
  simp only[Bool.or_eq_true,decide_eq_true_eq,not_or] at h1
  omega
theorem eb{c:PC}{s:PS}{w:ByteArray}(h:c.lj w s=true):s.next<c.l.length:=by
 refine mj fun hk=>?_
 unfold PC.lj at h
 rw[hk] at h
 simp at h
theorem CX{c:PC}{s:PS}:∀{ws:List ByteArray} {i:Int},0≤i→0≤c.xf s ws i→s.next<c.l.length∧i≤c.xf s ws i∧c.xf s ws i<i+ws.length
 | [],i,h0,h=>by rw[PC.xf] at h;omega
 | w::r,i,h0,h=>by
   rw[PC.xf] at h ⊢
   split at h
   ·rename_i hw
    rw[if_pos hw]
    exact⟨eb hw,Int.le_refl _,by rw[List.length_cons];omega⟩
   ·rename_i hw
    rw[if_neg hw]
    have:=CX (ws:=r) (i:=i+1) (by omega) h
    rw[List.length_cons];exact⟨this.1,by omega,by omega⟩
theorem ed{c:PC}{s:PS}{ws:List ByteArray}(h:0≤c.any ws s):s.next<c.l.length∧c.any ws s<ws.length:=by
 have:=CX (Int.le_refl 0) h
 exact⟨this.1,by have:=this.2.2;unfold PC.any;omega⟩
theorem dV(hq:q.ok I)(w:ByteArray){F F0:b8}(hF:F.Perm (q.cr b s::F0)):cf P 89 #[.pointer (some ⟨b,0,none⟩),.string w] I F fun e1 I' G=>e1=.returned (.int .i64 (q.c.take w s).1)∧G.Perm (q.cr b (q.c.take w s).2::F0):=by
 have hm:q.cr b s∈F:=hF.mem_iff.2 (.head _)
 have hl:=hq.len
 refine fI.vc ?_
 unfold fI.V
 refine cf.ret (ri hq w hm) fun I1 l1=>⟨_,rfl,F,.refl _,fun h=>?_,fun h=>?_⟩
 ·have h:q.c.lj w s=false:=by simpa using h
  refine (fg (hq.mono l1) 130 hF).mono fun e I2 G l2 ⟨he,hG⟩=>?_
  refine⟨he,G,.refl _, ?_⟩
  unfold PC.take
  rw[if_neg (by simp[h])]
  exact⟨rfl,hG⟩
 ·have h:q.c.lj w s=true:=by simpa using h
  have hlt:=eb h
  refine cf.ret (j3 (hq.mono l1) hm) fun I2 l2=>⟨_,_,_,_,_,rfl,F,.refl _,_,rfl,_,PQ.rd (k:=3) hm rfl,_,rfl,q.cl s,107,F0,hF,PQ.spot _ _,by rw[PQ.off];exact (by decide:3+1≤7), ?_⟩
  rw[PQ.eh (by omega)]
  unfold PC.take
  rw[if_pos h]
  exact⟨rfl,.refl _⟩
theorem rj(hq:q.ok I){F F0:b8}(hF:F.Perm (q.cr b s::F0)):cf P 91 #[.pointer (some ⟨b,0,none⟩)] I F fun e1 I' G=>e1=.returned (.string (q.c.name s).1)∧G.Perm (q.cr b (q.c.name s).2::F0):=by
 have hm:q.cr b s∈F:=hF.mem_iff.2 (.head _)
 have hl:=hq.len
 refine fJ.vc ?_
 unfold fJ.V
 refine cf.ret (j3 hq hm) fun I1 l1=>⟨_,_,_,_,_,rfl,F,.refl _,fun b_t=>⟨fun h=>?_,fun h=>?_⟩⟩
 ·have h:(q.c.now s).kind≠2:=by simpa using h
  refine (fg (hq.mono l1) 130 (F0:=_::F0) ((List.Perm.cons _ hF).trans (List.Perm.swap _ _ _))).mono fun e I2 G l2 ⟨he,hG⟩=>?_
  refine⟨he,q.cr b (q.c.c5 130 s)::F0,hG.trans (List.Perm.swap _ _ _), ?_⟩
  unfold PC.name
  rw[if_neg h]
  exact⟨rfl,.refl _⟩
 ·have h:(q.c.now s).kind=2:=by simpa using h
  have hlt:=mj (by rw[h];decide:(q.c.now s).kind≠0)
  refine⟨_,rfl,_,PQ.rd (k:=3) (.tail _ hm) rfl,_,rfl,q.cl s,107,F0,hF,PQ.spot _ _,by rw[PQ.off];exact (by decide:3+1≤7), ?_⟩
  rw[PQ.eh (by omega)]
  unfold PC.name
  rw[if_pos h]
  exact⟨rfl,.refl _⟩
theorem sd(hq:q.ok I)(d:Int)(h0:0≤d)(h1:d≤1000){F F0:b8}(hF:F.Perm (q.cr b s::F0)):cf P 87 #[.pointer (some ⟨b,0,none⟩),.int .i64 d] I F fun e1 I' G=>e1=.returned (.bool (!(q.c.cQ d s).over))∧G.Perm (q.cr b (q.c.cQ d s)::F0):=by
 have hm:q.cr b s∈F:=hF.mem_iff.2 (.head _)
 refine eR.vc ?_
 unfold eR.V
 rw[cY (n:=d+1) (by omega)]
 unfold PC.cQ
 refine⟨fun h=>?_,fun h=>?_⟩
 ·have h:=of_decide_eq_true h
  rw[if_pos (by omega)]
  refine (fg hq 132 hF).mono fun e I2 G l2 ⟨he,hG⟩=>⟨he,G,.refl _,cf.ret (nS (hG.mem_iff.2 (.head _))) fun I3 l3=>⟨_,rfl,G,.refl _,rfl,hG⟩⟩
 ·have h:=of_decide_eq_false h
  rw[if_neg (by omega)]
  exact cf.ret (nS hm) fun I3 l3=>⟨_,rfl,F,.refl _,rfl,hF⟩
theorem vV(hq:q.ok I)(n most:Nat){F F0:b8}(hF:F.Perm (q.cr b s::F0)):cf P 92 #[.pointer (some ⟨b,0,none⟩),.int .i64 n,.int .i64 most] I F fun e1 I' G=>e1=.returned (.bool (!(q.c.many n most s).over))∧G.Perm (q.cr b (q.c.many n most s)::F0):=by
 have hm:q.cr b s∈F:=hF.mem_iff.2 (.head _)
 refine fK.vc ?_
 unfold fK.V
 unfold PC.many
 refine⟨fun h=>?_,fun h=>?_⟩
 ·have h:=of_decide_eq_true h
  rw[if_pos (by omega)]
  refine (fg hq 131 hF).mono fun e I2 G l2 ⟨he,hG⟩=>⟨he,G,.refl _,cf.ret (nS (hG.mem_iff.2 (.head _))) fun I3 l3=>⟨_,rfl,G,.refl _,rfl,hG⟩⟩
 ·have h:=of_decide_eq_false h
  rw[if_neg (by omega)]
  exact cf.ret (nS hm) fun I3 l3=>⟨_,rfl,F,.refl _,rfl,hF⟩
theorem Fj(hq:q.ok I){F F0:b8}(hF:F.Perm (q.cr b s::F0)):cf P 54 #[.pointer (some ⟨b,0,none⟩)] I F fun e1 I' G=>e1=.returned (.tuple #[])∧G.Perm (q.cr b (q.c.end s)::F0):=by
 have hm:q.cr b s∈F:=hF.mem_iff.2 (.head _)
 refine gh.vc ?_
 unfold gh.V
 unfold PC.end
 refine cf.ret (nS hm) fun I1 l1=>⟨_,rfl,F,.refl _,fun h=>?_,fun h=>⟨_,rfl,_,PQ.rd hm rfl,_,rfl,_,_,_,PQ.rd hm rfl,fun hn=>?_,fun hn=>⟨_,rfl,_,_,_,PQ.rd hm rfl,_,rfl,_,PQ.rd hm rfl, ?_⟩⟩⟩
 ·rw[if_pos h];exact⟨rfl,hF⟩
 ·have hn:=of_decide_eq_true hn
  rw[if_neg (by simp[h]),if_pos (.inl (by omega))]
  exact (fg (hq.mono l1) 130 hF).mono fun e I2 G l2 ⟨he,hG⟩=>⟨he,G,.refl _,rfl,hG⟩
 ·have hn:=of_decide_eq_false hn
  obtain⟨ad,t,ha,ht,hr⟩:=(hq.mono l1).sl.at (i:=(s.next:Int)) (by omega) (by omega)
  have ht:q.c.l[s.next]? = some t:=ht
  have htk:q.c.tok s.next=t:=by unfold PC.tok;rw[ht];rfl
  refine⟨⟨by omega,by omega⟩,ad,ha,t.kind,(hr _).field (o:=0) rfl,fun h2=>?_,fun h2=>?_⟩
  ·rw[if_neg (by simp[h]),if_pos (.inr (by rw[htk];simpa using h2))]
   exact (fg (hq.mono l1) 130 hF).mono fun e I2 G l2 ⟨he,hG⟩=>⟨he,G,.refl _,rfl,hG⟩
  ·rw[if_neg (by simp[h]),if_neg (by rw[htk];simp at h2;omega)]
   exact⟨rfl,hF⟩
end Go.Lx
namespace Go.Lx
open Go.Vc
def Small(l:List Px):Prop:=∀x∈l,x.size≤1048576
theorem tg(s:ByteArray):(s.toList==(⟨#[]⟩:ByteArray).toList)=(s.toList==[]):=by rw[dF]
theorem Gw(d:dy)(hs:Small d.p.oJ)(I:cc)(F:b8)(hd:d.Ok I F):cf P 132 #[d.v] I F (dB d.p.check F):=by
 have hs1:=hs d.side.px (by simp[dA.oJ,dy.p])
 have hs2:=hs d.qty.px (by simp[dA.oJ,dy.p])
 have hs3:=hs d.price.px (by simp[dA.oJ,dy.p])
 have hs4:=hs d.value.px (by simp[dA.oJ,dy.p])
 have hn:d.p.check=cm (cV d.p.mJ 120) (cm (cV d.p.kZ 120) (cm (cV d.p.c9 120) (cm (cN (decide (d.kind=1)) d.side.px) (cm (cN (decide (d.kind=1∨d.kind=2)) d.qty.px)
  (cm (cN (decide (d.kind=1∧d.order≠2∨d.kind=2)) d.price.px) (cN (decide (d.kind=4)) d.value.px)))))):=rfl
 refine uB.vc (fun I' F'=>cc.le I I'∧F'=F∧d.p.check=cm (cV d.p.kZ 120) (cm (cV d.p.c9 120) (cm (cN (decide (d.kind=1)) d.side.px) (cm (cN (decide (d.kind=1∨d.kind=2)) d.qty.px)
  (cm (cN (decide (d.kind=1∧d.order≠2∨d.kind=2)) d.price.px) (cN (decide (d.kind=4)) d.value.px))))))
  (fun I' F'=>cc.le I I'∧F'=F∧d.p.check=cm (cV d.p.c9 120) (cm (cN (decide (d.kind=1)) d.side.px) (cm (cN (decide (d.kind=1∨d.kind=2)) d.qty.px)
  (cm (cN (decide (d.kind=1∧d.order≠2∨d.kind=2)) d.price.px) (cN (decide (d.kind=4)) d.value.px)))))
  (fun I' F'=>cc.le I I'∧F'=F∧d.p.check=(cm (cN (decide (d.kind=1)) d.side.px) (cm (cN (decide (d.kind=1∨d.kind=2)) d.qty.px)
  (cm (cN (decide (d.kind=1∧d.order≠2∨d.kind=2)) d.price.px) (cN (decide (d.kind=4)) d.value.px)))))
  (fun I' F'=>cc.le I I'∧F'=F∧d.p.check=((cm (cN (decide (d.kind=1∨d.kind=2)) d.qty.px)
  (cm (cN (decide (d.kind=1∧d.order≠2∨d.kind=2)) d.price.px) (cN (decide (d.kind=4)) d.value.px)))))
  (fun I' F'=>cc.le I I'∧F'=F∧d.p.check=((cm (cN (decide (d.kind=1∧d.order≠2∨d.kind=2)) d.price.px) (cN (decide (d.kind=4)) d.value.px))))
  (fun I' F'=>cc.le I I'∧F'=F∧d.p.check=cN (decide (d.kind=4)) d.value.px) ?_
 unfold uB.V
 intro b_d
 have k1:(d.kind==1)=decide (d.kind=1):=rfl
 have k2:(d.kind==2)=decide (d.kind=2):=rfl
 have k4:(d.kind==4)=decide (d.kind=4):=rfl
 refine⟨⟨fun h=>?_,fun h=>?_⟩,fun I1 F1 hI1 ⟨hl1,hF1,hc1⟩=>?_⟩
 ·have e:d.p.mJ=decide (d.kind≤6):=by
   have h:=of_decide_eq_true h
   unfold dA.mJ;rw[Bool.eq_iff_iff];simp only[decide_eq_true_eq];exact⟨fun h=>h.2,fun h'=>⟨h,h'⟩⟩
  rw[e] at hn
  refine dB.use (c8 _ (by decide) I _) (fun q2 I2 hI2=>.inl ⟨rfl,_,.refl _, ?_⟩) (fun q2 I2 hI2=>.inr ⟨_,rfl,_,.refl _, ?_⟩)
  ·rw[q2,cz] at hn
   exact⟨hI2,rfl,hn⟩
  ·exact .fail hn q2
 ·have e:d.p.mJ=false:=by
   have h:=of_decide_eq_false h
   exact decide_eq_false fun h'=>h h'.1
  rw[e] at hn
  refine dB.use (c8 _ (by decide) I _) (fun q2 I2 hI2=>.inl ⟨rfl,_,.refl _, ?_⟩) (fun q2 I2 hI2=>.inr ⟨_,rfl,_,.refl _, ?_⟩)
  ·cases q2
  ·exact .fail hn q2
 subst hF1
 clear hn
 refine⟨?_,fun I2 F2 hI2 ⟨hl2,hF2,hc2⟩=>?_⟩
 ·have key:∀b:Bool,b=d.p.kZ→cf P 98 #[.bool b,.int .i64 120] I1 ((ql b_d d)::F1) fun e1 I2 G1=>(e1=.returned (.tuple #[])∧∃F1':b8,List.Perm G1 ((ql b_d d)::F1')∧(cc.le I I2∧F1'=F1∧d.p.check=cm (cV d.p.c9 120) (cm (cN (decide (d.kind=1)) d.side.px) (cm (cN (decide (d.kind=1∨d.kind=2)) d.qty.px)
    (cm (cN (decide (d.kind=1∧d.order≠2∨d.kind=2)) d.price.px) (cN (decide (d.kind=4)) d.value.px))))))∨(∃ch:List PanicEntry,e1=.panicked ch∧∃F2:b8,List.Perm G1 ((ql b_d d)::F2)∧dB d.p.check F1 (.panicked ch) I2 F2):=fun b hb=>by
   subst hb
   refine dB.use (c8 _ (by decide) I1 _) (fun q2 I2 hI2=>.inl ⟨rfl,_,.refl _, ?_⟩) (fun q2 I2 hI2=>.inr ⟨_,rfl,_,.refl _, ?_⟩)
   ·rw[q2,cz] at hc1
    exact⟨cc.le_trans hl1 hI2,rfl,hc1⟩
   ·exact .fail hc1 q2
  have eo:d.p.kZ=decide (d.kind=1∧1≤d.order∧d.order≤5∨d.kind≠1∧d.order=0):=rfl
  refine⟨fun h=>⟨fun h2=>⟨fun h3=>key _ ?_,fun h3=>⟨fun h4=>key _ ?_,fun h4=>key _ ?_⟩⟩,fun h2=>⟨fun h4=>key _ ?_,fun h4=>key _ ?_⟩⟩,fun h=>⟨fun h4=>key _ ?_,fun h4=>key _ ?_⟩⟩
  all_goals
   rw[eo,Bool.eq_iff_iff]
   simp only[decide_eq_true_eq,decide_eq_false_iff_not,beq_iff_eq,beq_eq_false_iff_ne,Bool.not_eq_true',Bool.not_eq_false',iff_true,true_iff,false_iff,Bool.false_eq_true] at *
   omega
 subst hF2
 clear hc1
 have en:d.p.c9=if d.kind=6 then d.name.toList==[] else if d.kind≠1∨d.name.toList≠[] then Lx.c9 d.name else true:=rfl
 refine⟨⟨fun h=>?_,fun h=>⟨fun h2=>?_,fun h2=>⟨fun h3=>?_,fun h3=>?_⟩⟩⟩,fun I3 F3 hI3 ⟨hl3,hF3,hc3⟩=>?_⟩
 ·have h:d.kind=6:=by simpa using h
  rw[if_pos h] at en
  rw[tg,←en]
  refine dB.use (c8 _ (by decide) I2 _) (fun q3 I3 hI3=>.inl ⟨rfl,_,.refl _, ?_⟩) (fun q3 I3 hI3=>.inr ⟨_,rfl,_,.refl _, ?_⟩)
  ·rw[q3,cz] at hc2;exact⟨cc.le_trans hl2 hI3,rfl,hc2⟩
  ·exact .fail hc2 q3
 ·have h:d.kind≠6:=by simpa using h
  have h2:d.kind≠1:=by simpa using h2
  rw[if_neg h,if_pos (.inl h2)] at en
  refine dB.use (jo d.name I2 _) (fun q3 I3 hI3=>.inl ⟨rfl,_,.refl _, ?_⟩) (fun q3 I3 hI3=>.inr ⟨_,rfl,_,.refl _, ?_⟩)
  ·rw[en,q3,cz] at hc2;exact⟨cc.le_trans hl2 hI3,rfl,hc2⟩
  ·rw[en] at hc2;exact .fail hc2 q3
 ·have h:d.kind≠6:=by simpa using h
  rw[tg] at h3
  rw[if_neg h,if_pos (.inr (by simpa using h3))] at en
  refine dB.use (jo d.name I2 _) (fun q3 I3 hI3=>.inl ⟨rfl,_,.refl _, ?_⟩) (fun q3 I3 hI3=>.inr ⟨_,rfl,_,.refl _, ?_⟩)
  ·rw[en,q3,cz] at hc2;exact⟨cc.le_trans hl2 hI3,rfl,hc2⟩
  ·rw[en] at hc2;exact .fail hc2 q3
 ·have h:d.kind≠6:=by simpa using h
  have h2:d.kind=1:=by simpa using h2
  rw[tg] at h3
  have h3:d.name.toList=[]:=by simpa using h3
  rw[if_neg h,if_neg (by simp[h2,h3])] at en
  rw[en] at hc2
  exact⟨hl2,rfl,hc2⟩
 subst hF3
 clear hc2 en
 have ok:∀{J:cc},cc.le I J→d.Ok J ((ql b_d d)::F3):=fun hJ=>(hd.mono hJ fun _ h=>h).cons
 refine⟨?_,fun I4 F4 hI4 ⟨hl4,hF4,hc4⟩=>?_⟩
 ·rw[k1]
  refine dB.use (pO _ d.side hs1 I3 _ (ok hl3).1) (fun q4 I4 hI4=>.inl ⟨rfl,_,.refl _, ?_⟩) (fun q4 I4 hI4=>.inr ⟨_,rfl,_,.refl _, ?_⟩)
  ·rw[q4,cz] at hc3;exact⟨cc.le_trans hl3 hI4,rfl,hc3⟩
  ·exact .fail hc3 q4
 subst hF4
 refine⟨?_,fun I5 F5 hI5 ⟨hl5,hF5,hc5⟩=>?_⟩
 ·have key:∀b:Bool,b=decide (d.kind=1∨d.kind=2)→cf P 150 #[.bool b,d.qty.v] I4 ((ql b_d d)::F4) fun e1 I2 G1=>(e1=.returned (.tuple #[])∧∃F1':b8,List.Perm G1 ((ql b_d d)::F1')∧(cc.le I I2∧F1'=F4∧d.p.check =
    (cm (cN (decide (d.kind=1∧d.order≠2∨d.kind=2)) d.price.px) (cN (decide (d.kind=4)) d.value.px))))∨(∃ch:List PanicEntry,e1=.panicked ch∧∃F2:b8,List.Perm G1 ((ql b_d d)::F2)∧dB d.p.check F4 (.panicked ch) I2 F2):=fun b hb=>by
   subst hb
   refine dB.use (pO _ d.qty hs2 I4 _ (ok hl4).2.1) (fun q5 I5 hI5=>.inl ⟨rfl,_,.refl _, ?_⟩) (fun q5 I5 hI5=>.inr ⟨_,rfl,_,.refl _, ?_⟩)
   ·rw[q5,cz] at hc4;exact⟨cc.le_trans hl4 hI5,rfl,hc4⟩
   ·exact .fail hc4 q5
  refine⟨fun h=>key _ ?_,fun h=>key _ ?_⟩
  ·simp only[beq_iff_eq] at h;simp[h]
  ·simp only[beq_eq_false_iff_ne] at h;rw[Bool.eq_iff_iff];simp[h]
 subst hF5
 refine⟨?_,fun I6 F6 hI6 ⟨hl6,hF6,hc6⟩=>?_⟩
 ·have key:∀b:Bool,b=decide (d.kind=1∧d.order≠2∨d.kind=2)→cf P 150 #[.bool b,d.price.v] I5 ((ql b_d d)::F5) fun e1 I2 G1=>(e1=.returned (.tuple #[])∧∃F1':b8,List.Perm G1 ((ql b_d d)::F1')∧(cc.le I I2∧F1'=F5∧d.p.check =
    cN (decide (d.kind=4)) d.value.px))∨(∃ch:List PanicEntry,e1=.panicked ch∧∃F2:b8,List.Perm G1 ((ql b_d d)::F2)∧dB d.p.check F5 (.panicked ch) I2 F2):=fun b hb=>by
   subst hb
   refine dB.use (pO _ d.price hs3 I5 _ (ok hl5).2.2.1) (fun q6 I6 hI6=>.inl ⟨rfl,_,.refl _, ?_⟩) (fun q6 I6 hI6=>.inr ⟨_,rfl,_,.refl _, ?_⟩)
   ·rw[q6,cz] at hc5;exact⟨cc.le_trans hl5 hI6,rfl,hc5⟩
   ·exact .fail hc5 q6
  refine⟨fun h=>⟨fun h2=>key _ ?_,fun h2=>key _ ?_⟩,fun h=>key _ ?_⟩
  all_goals simp only[beq_iff_eq,beq_eq_false_iff_ne,bne_iff_ne,bne_eq_false_iff_eq] at *
  ·simp[h,h2]
  ·rw[Bool.eq_iff_iff];simp[h,h2]
  ·rw[Bool.eq_iff_iff];simp[h]
 subst hF6
 rw[k4]
 refine dB.use (pO _ d.value hs4 I6 _ (ok hl6).2.2.2) (fun q7 I7 hI7=>.inl ⟨rfl,_,.refl _, ?_⟩) (fun q7 I7 hI7=>.inr ⟨_,rfl,_,.refl _, ?_⟩)
 ·rw[q7] at hc6;exact .done hc6
 ·exact .oZ hc6 q7
theorem dv{α β:Type}(f:β→Int)(g:α→β){l:List α}{i:Nat}{x:α}(h:l[i]? = some x):cJ f ((l.drop i).map g)=cm (f (g x)) (cJ f ((l.drop (i+1)).map g)):=by
 obtain⟨hk,rfl⟩:=List.getElem?_eq_some_iff.1 h
 rw[List.drop_eq_getElem_cons hk,List.map_cons,cJ]
theorem dO{α β:Type}(f:β→Int)(g:α→β){l:List α}{i:Nat}(h:l.length≤i):cJ f ((l.drop i).map g)=0:=by rw[List.drop_eq_nil_of_le h];rfl
theorem dq.gj{α:Type}{I:cc}{G:b8}{z:Nat}{f:α→List Value}{a:Option Addr}{n:Nat}{l:List α}(h:dq I G z f a n l){i:Int}(h0:0≤i)(h1:i<n) :
  ∃ad x,a=some ad∧l[i.toNat]? = some x∧Rd I G (ad.add (Int.toNat i*z)) (f x)∧x∈l:=by
 obtain⟨ad,x,g1,g2,g3⟩:=h.at h0 h1
 exact⟨ad,x,g1,g2,g3,List.mem_of_getElem? g2⟩
theorem D4(r:cp)(hs:Small r.p.oJ)(I:cc)(F:b8)(hr:r.Ok I F)(hlen:r.dos.length≤1000000000):cf P 106 #[r.v] I F (dB r.p.check F):=by
 have hsw:=hs r.when.px (by simp[cD.oJ,cp.p])
 have hsd:∀d∈r.dos,Small d.p.oJ:=fun d hd x hx=>hs x (by
  simp only[cD.oJ,cp.p,List.mem_cons,List.mem_flatMap,List.mem_map]
  exact .inr ⟨_,⟨d,hd,rfl⟩,hx⟩)
 have hc:r.p.check=cm r.when.px.dj (cm (cV (decide (0<r.dos.length)) 120) (cm (cV (decide (r.dos.length≤8)) 121) (cJ dA.check (r.dos.map dy.p)))):=by
  show cm _ (cm (cV (decide (0<(r.dos.map dy.p).length)) 120) (cm (cV (decide ((r.dos.map dy.p).length≤8)) 121) _))=_
  rw[List.length_map];rfl
 refine pN.vc (fun i m I' F'=>0≤i∧i≤r.dos.length∧m=(r.dos.length-i).toNat∧cc.le I I'∧F'=F∧r.p.check=cJ dA.check ((r.dos.drop i.toNat).map dy.p)) ?_
 unfold pN.V
 intro b_r
 refine dB.use (xK r.when hsw I _ hr.1.cons) (fun q1 I1 hI1=>.inl ⟨rfl,_,.refl _, ?_⟩) (fun q1 I1 hI1=>.inr ⟨_,rfl,_,.refl _, ?_⟩)
 ·rw[q1,cz] at hc
  have e1:decide (((r.dos.length:Nat):Int)>0)=decide (0<r.dos.length):=by rw[Bool.eq_iff_iff];simp only[decide_eq_true_eq];omega
  have e2:decide (((r.dos.length:Nat):Int)≤8)=decide (r.dos.length≤8):=by rw[Bool.eq_iff_iff];simp only[decide_eq_true_eq];omega
  rw[e1,e2]
  refine dB.use (c8 _ (by decide) I1 _) (fun q2 I2 hI2=>.inl ⟨rfl,_,.refl _, ?_⟩) (fun q2 I2 hI2=>.inr ⟨_,rfl,_,.refl _, ?_⟩)
  ·rw[q2,cz] at hc
   refine dB.use (c8 _ (by decide) I2 _) (fun q3 I3 hI3=>.inl ⟨rfl,_,.refl _, ?_⟩) (fun q3 I3 hI3=>.inr ⟨_,rfl,_,.refl _, ?_⟩)
   ·rw[q3,cz] at hc
    refine⟨⟨_,by omega,by omega,rfl,cc.le_trans hI1 (cc.le_trans hI2 hI3),rfl,hc⟩,fun i m I4 F4 hI4 ⟨g0,g1,gm,hl,hF,gc⟩=>⟨fun hlt=>?_,fun hlt=>?_⟩⟩
    ·have hlt:=of_decide_eq_true hlt
     subst hF
     have hr4:=(hr.mono hl fun _ h=>h).cons (x:=(kg b_r r))
     obtain⟨ad,d,had,hd,hrd,hdm⟩:=dq.gj hr4.2.1 g0 hlt
     refine⟨⟨g0,hlt⟩,ad,had,_,_,_,_,_,_,_,_,_,_,_,_,_,_,_,_,_,_,_,_,_,_,_,_,_,_,_,_,_,_,_,_,_,_,_,_,_,_,_,_,_,_,_,_,hrd,fun b_d=>?_⟩
     rw[dv _ _ hd] at gc
     have hd4:d.Ok I4 ((kg b_r r)::(ql b_d d)::F4):=((hr.2.2 d hdm).mono hl fun _ h=>h).cons.cons
     refine dB.use (Gw d (hsd d hdm) I4 _ hd4) (fun q5 I5 hI5=>.inl ⟨rfl,_,.refl _, ?_⟩) (fun q5 I5 hI5=>.inr ⟨_,rfl,_,.refl _, ?_⟩)
     ·rw[q5,cz] at gc
      refine⟨(r.dos.length-(i+1)).toNat,by omega, ?_⟩
      rw[cY (n:=i+1) (by omega)]
      exact⟨by omega,by omega,rfl,cc.le_trans hl hI5,rfl,by rw[gc,show (i+1).toNat=i.toNat+1 by omega]⟩
     ·exact .fail gc q5
    ·have hlt:=of_decide_eq_false hlt
     subst hF
     rw[dO _ _ (by omega)] at gc
     exact .done gc
   ·exact .fail hc q3
  ·exact .fail hc q2
 ·exact .fail hc q1
structure cw.Gx (s:cw):Prop where
 regs:s.regs.length≤1000000000
 slots:s.slots.length≤1000000000
 states:s.states.length≤1000000000
 rules:∀x∈s.states,x.rules.length≤1000000000
 dos:∀x∈s.states,∀r∈x.rules,r.dos.length≤1000000000
theorem yC(s:cw)(hs:Small s.p.oJ)(hl:s.Gx)(I:cc)(F:b8)(hok:s.Ok I F){c:Addr}(hc:Rd I F c s.enc):cf P 103 #[.pointer (some c)] I F (dB s.p.check F):=by
 have hsr:∀r∈s.regs,r.init.px.size≤1048576:=fun r hr=>hs _ (by
  simp only[cu.oJ,cw.p,List.mem_append,List.mem_map]
  exact .inl ⟨_,⟨r,hr,rfl⟩,rfl⟩)
 have hss:∀x∈s.states,∀r∈x.rules,Small r.p.oJ:=fun x hx r hr y hy=>hs y (by
  simp only[cu.oJ,cw.p,List.mem_append,List.mem_flatMap,List.mem_map]
  exact .inr ⟨_,⟨x,hx,rfl⟩,_,by simp only[cg.p,List.mem_map];exact⟨r,hr,rfl⟩,hy⟩)
 have hck:s.p.check=cm (cV (c9 s.name) 120) (cm (cV (decide (s.regs.length≤12)) 121) (cm (cJ dh.check (s.regs.map cH.p)) (cm (cV (decide (s.slots.length≤4)) 121) (cm (cJ cx.check s.slots)
   (cm (cV (decide (0<s.states.length)) 120) (cm (cV (decide (s.states.length≤12)) 121) (cJ cq.check (s.states.map cg.p)))))))):=by
  show cm _ (cm (cV (decide ((s.regs.map cH.p).length≤12)) 121) (cm _ (cm _ (cm _ (cm (cV (decide (0<(s.states.map cg.p).length)) 120) (cm (cV (decide ((s.states.map cg.p).length≤12)) 121) _))))))=_
  rw[List.length_map,List.length_map];rfl
 refine kh.vc
  (fun i m _ _ I' F'=>0≤i∧i≤s.regs.length∧m=(s.regs.length-i).toNat∧cc.le I I'∧F'=F∧s.p.check=cm (cJ dh.check ((s.regs.drop i.toNat).map cH.p)) (cm (cV (decide (s.slots.length≤4)) 121) (cm (cJ cx.check s.slots)
    (cm (cV (decide (0<s.states.length)) 120) (cm (cV (decide (s.states.length≤12)) 121) (cJ cq.check (s.states.map cg.p)))))))
  (fun i m _ _ I' F'=>0≤i∧i≤s.slots.length∧m=(s.slots.length-i).toNat∧cc.le I I'∧F'=F∧s.p.check=cm (cJ cx.check ((s.slots.drop i.toNat).map id))
    (cm (cV (decide (0<s.states.length)) 120) (cm (cV (decide (s.states.length≤12)) 121) (cJ cq.check (s.states.map cg.p)))))
  (fun i m _ _ I' F'=>0≤i∧i≤s.states.length∧m=(s.states.length-i).toNat∧cc.le I I'∧F'=F∧s.p.check=cJ cq.check ((s.states.drop i.toNat).map cg.p))
  (fun i j n _ _ I' F'=>cc.le I I'∧F'=F∧0≤j∧∃x:cg,s.states[i.toNat]? = some x∧j≤x.rules.length∧n=(x.rules.length-j).toNat∧s.p.check=cm (cJ cD.check ((x.rules.drop j.toNat).map cp.p)) (cJ cq.check ((s.states.drop (i.toNat+1)).map cg.p))) ?_
 unfold kh.V
 have rd:∀{J:cc},cc.le I J→∀(o:Nat) (v:Value),s.enc[o]? = some v→Rd J F (c.add o) [v]:=fun hJ o v hv=>(hc.sub hJ fun _ h=>h).field hv
 have ok:∀{J:cc},cc.le I J→s.Ok J F:=fun hJ=>hok.mono hJ fun _ h=>h
 have e12:∀n:Nat,decide ((n:Int)≤12)=decide (n≤12):=fun n=>by rw[Bool.eq_iff_iff];simp only[decide_eq_true_eq];omega
 have e4:∀n:Nat,decide ((n:Int)≤4)=decide (n≤4):=fun n=>by rw[Bool.eq_iff_iff];simp only[decide_eq_true_eq];omega
 have e0:∀n:Nat,decide ((n:Int)>0)=decide (0<n):=fun n=>by rw[Bool.eq_iff_iff];simp only[decide_eq_true_eq];omega
 have hlr:=hl.regs
 have hls:=hl.slots
 have hlt':=hl.states
 refine⟨s.name,rd (cc.le_refl I) 0 _ rfl,dB.use (jo s.name I _) (fun q1 I1 hI1=>.inl ⟨rfl,_,.refl _, ?_⟩) (fun q1 I1 hI1=>.inr ⟨_,rfl,_,.refl _, ?_⟩)⟩
 case refine_2=>exact .fail hck q1
 rw[q1,cz] at hck
 refine⟨_,_,_,rd hI1 1 _ rfl, ?_⟩
 rw[e12]
 refine dB.use (c8 _ (by decide) I1 _) (fun q2 I2 hI2=>.inl ⟨rfl,_,.refl _, ?_⟩) (fun q2 I2 hI2=>.inr ⟨_,rfl,_,.refl _, ?_⟩)
 case refine_2=>exact .fail hck q2
 rw[q2,cz] at hck
 have hl2:=cc.le_trans hI1 hI2
 refine⟨_,_,_,rd hl2 1 _ rfl,⟨_,by omega,by omega,rfl,hl2,rfl,hck⟩, ?_⟩
 clear hck
 intro i m I3 F3 hI3 ⟨g0,g1,gm,hl3,hF3,gc⟩
 subst hF3
 refine⟨fun hlt=>?_,fun hlt=>?_⟩
 ·have hlt:=of_decide_eq_true hlt
  obtain⟨ad,r,had,hr,hrd,hrm⟩:=dq.gj (ok hl3).regs g0 hlt
  rw[dv _ _ hr,jK] at gc
  have rc:r.p.check=cV (c9 r.name&&(decide (1≤r.cO∧r.cO≤6)&&(r.init.px.formed&&r.init.px.nI))) 120:=rfl
  refine⟨⟨g0,hlt⟩,ad,had,_,_,_,_,_,_,_,_,_,_,_,_,_,hrd,fun b_r=>dB.use (jo r.name I3 _) (fun q4 I4 hI4=>.inl ⟨rfl,_,.refl _, ?_⟩) (fun q4 I4 hI4=>.inr ⟨_,rfl,_,.refl _, ?_⟩)⟩
  ·have h4:=pP (by decide) q4
   rw[h4,Bool.true_and] at rc
   have bad:(decide (1≤r.cO∧r.cO≤6))=false→s.p.check=cm 120 (cm (cJ dh.check ((s.regs.drop (i.toNat+1)).map cH.p)) (cm (cV (decide (s.slots.length≤4)) 121) (cm (cJ cx.check s.slots)
     (cm (cV (decide (0<s.states.length)) 120) (cm (cV (decide (s.states.length≤12)) 121) (cJ cq.check (s.states.map cg.p))))))):=fun h=>by
    rw[gc,rc,h];rfl
   refine⟨fun h1=>?_,fun h1=>?_⟩
   ·have h1:=of_decide_eq_true h1
    refine dB.use (c8 _ (by decide) I4 _) (fun q5 I5 hI5=>.inl ⟨rfl,_,.refl _, ?_⟩) (fun q5 I5 hI5=>.inr ⟨_,rfl,_,.refl _, ?_⟩)
    ·have h5:=of_decide_eq_true (pP (by decide) q5)
     rw[decide_eq_true ⟨h1,h5⟩,Bool.true_and] at rc
     have hl5:=cc.le_trans hl3 (cc.le_trans hI4 hI5)
     refine dB.use (BP r.init (hsr r hrm) I5 _ (((ok hl5).fG r hrm:cC _ _ _).cons)) (fun q6 I6 hI6=>.inl ⟨rfl,_,.refl _, ?_⟩) (fun q6 I6 hI6=>.inr ⟨_,rfl,_,.refl _, ?_⟩)
     ·rw[rc,q6,cz] at gc
      refine⟨(s.regs.length-(i+1)).toNat,by omega, ?_⟩
      rw[cY (n:=i+1) (by omega)]
      exact⟨by omega,by omega,rfl,cc.le_trans hl5 hI6,rfl,by rw[gc,show (i+1).toNat=i.toNat+1 by omega]⟩
     ·rw[rc] at gc;exact .fail gc q6
    ·have h5:=(pQ q5).1
     have h6:=(pQ q5).2
     rw[h6] at q5 ⊢
     exact .fail (bad (decide_eq_false fun h=>by rw[decide_eq_true h.2] at h5;cases h5)) q5
   ·have h1:=of_decide_eq_false h1
    refine dB.use (c8 _ (by decide) I4 _) (fun q5 I5 hI5=>.inl ⟨rfl,_,.refl _, ?_⟩) (fun q5 I5 hI5=>.inr ⟨_,rfl,_,.refl _, ?_⟩)
    ·cases q5
    ·exact .fail (bad (decide_eq_false fun h=>h1 h.1)) q5
  ·have h4:=pQ q4
   rw[h4.2] at q4 ⊢
   rw[h4.1,Bool.false_and] at rc
   rw[rc] at gc
   exact .fail gc q4
 have hlt:=of_decide_eq_false hlt
 rw[dO _ _ (by omega),cz] at gc
 refine⟨_,_,_,rd hl3 2 _ rfl, ?_⟩
 rw[e4]
 refine dB.use (c8 _ (by decide) I3 _) (fun q4 I4 hI4=>.inl ⟨rfl,_,.refl _, ?_⟩) (fun q4 I4 hI4=>.inr ⟨_,rfl,_,.refl _, ?_⟩)
 case refine_2=>exact .fail gc q4
 rw[q4,cz] at gc
 have hl4:=cc.le_trans hl3 hI4
 refine⟨_,_,_,rd hl4 2 _ rfl,⟨_,by omega,by omega,rfl,hl4,rfl,by rw[gc];simp⟩, ?_⟩
 clear gc
 clear gm
 intro i m I5 F5 hI5 ⟨g0,g1,gm,hl5,hF5,gc⟩
 subst hF5
 refine⟨fun hlt=>?_,fun hlt=>?_⟩
 ·have hlt:=of_decide_eq_true hlt
  obtain⟨ad,x,had,hx,hrd,hxm⟩:=dq.gj (ok hl5).slots g0 hlt
  rw[dv _ _ hx,jK] at gc
  refine⟨⟨g0,hlt⟩,ad,had,_,_,hrd,fun b_x=>dB.use (jo x.name I5 _) (fun q6 I6 hI6=>.inl ⟨rfl,_,.refl _, ?_⟩) (fun q6 I6 hI6=>.inr ⟨_,rfl,_,.refl _, ?_⟩)⟩
  ·have e:cx.check (id x)=cV (c9 x.name) 120:=rfl
   rw[e,q6,cz] at gc
   refine⟨(s.slots.length-(i+1)).toNat,by omega, ?_⟩
   rw[cY (n:=i+1) (by omega)]
   exact⟨by omega,by omega,rfl,cc.le_trans hl5 hI6,rfl,by rw[gc,show (i+1).toNat=i.toNat+1 by omega]⟩
  ·exact .fail gc q6
 have hlt:=of_decide_eq_false hlt
 rw[dO _ _ (by omega),cz] at gc
 refine⟨_,_,_,rd hl5 3 _ rfl, ?_⟩
 rw[e0]
 refine dB.use (c8 _ (by decide) I5 _) (fun q6 I6 hI6=>.inl ⟨rfl,_,.refl _, ?_⟩) (fun q6 I6 hI6=>.inr ⟨_,rfl,_,.refl _, ?_⟩)
 case refine_2=>exact .fail gc q6
 rw[q6,cz] at gc
 have hl6:=cc.le_trans hl5 hI6
 refine⟨_,_,_,rd hl6 3 _ rfl, ?_⟩
 rw[e12]
 refine dB.use (c8 _ (by decide) I6 _) (fun q7 I7 hI7=>.inl ⟨rfl,_,.refl _, ?_⟩) (fun q7 I7 hI7=>.inr ⟨_,rfl,_,.refl _, ?_⟩)
 case refine_2=>exact .fail gc q7
 rw[q7,cz] at gc
 have hl7:=cc.le_trans hl6 hI7
 refine⟨_,_,_,rd hl7 3 _ rfl,⟨_,by omega,by omega,rfl,hl7,rfl,gc⟩, ?_⟩
 clear gc
 clear gm
 intro i m I8 F8 hI8 ⟨g0,g1,gm,hl8,hF8,gc⟩
 subst hF8
 refine⟨fun hlt=>?_,fun hlt=>?_⟩
 ·have hlt:=of_decide_eq_true hlt
  obtain⟨ad,x,had,hx,hrd,hxm⟩:=dq.gj (ok hl8).states g0 hlt
  have hxl:=hl.rules x hxm
  rw[dv _ _ hx] at gc
  have ec:x.p.check=cm (cV (c9 x.name) 120) (cm (cV (decide (x.rules.length≤12)) 121) (cJ cD.check (x.rules.map cp.p))):=by
   show cm _ (cm (cV (decide ((x.rules.map cp.p).length≤12)) 121) _)=_
   rw[List.length_map];rfl
  rw[ec,jK,jK] at gc
  refine⟨⟨g0,hlt⟩,ad,had,_,_,_,_,_,hrd,fun b_x=>dB.use (jo x.name I8 _) (fun q9 I9 hI9=>.inl ⟨rfl,_,.refl _, ?_⟩) (fun q9 I9 hI9=>.inr ⟨_,rfl,_,.refl _, ?_⟩)⟩
  case refine_2=>exact .fail gc q9
  rw[q9,cz] at gc
  rw[e12]
  refine dB.use (c8 _ (by decide) I9 _) (fun q10 I10 hI10=>.inl ⟨rfl,_,.refl _, ?_⟩) (fun q10 I10 hI10=>.inr ⟨_,rfl,_,.refl _, ?_⟩)
  case refine_2=>exact .fail gc q10
  rw[q10,cz] at gc
  have hl10:=cc.le_trans hl8 (cc.le_trans hI9 hI10)
  refine⟨⟨_,hl10,rfl,by omega,x,hx,by omega,rfl,gc⟩, ?_⟩
  clear gc
  intro j n I11 F11 hI11 ⟨hl11,hF11,j0,y,hy,j1,gn,gc⟩
  subst hF11
  rw[hx] at hy
  cases hy
  refine⟨fun hlt2=>?_,fun hlt2=>?_⟩
  ·have hlt2:=of_decide_eq_true hlt2
   have hok11:=((ok hl11).state x hxm).cons (x:=(fU b_x x))
   obtain⟨ad3,r,had3,hr,hrd3,hrm⟩:=dq.gj hok11.1 j0 hlt2
   rw[dv _ _ hr,jK] at gc
   refine⟨⟨j0,hlt2⟩,ad3,had3,_,_,_,_,_,_,_,_,_,_,_,_,_,_,hrd3,fun b_r=>dB.use (D4 r (hss x hxm r hrm) I11 _ ((((ok hl11).state x hxm).2 r hrm).cons.cons) (hl.dos x hxm r hrm)) (fun q12 I12 hI12=>.inl ⟨rfl,_,.refl _, ?_⟩) (fun q12 I12 hI12=>.inr ⟨_,rfl,_,.refl _, ?_⟩)⟩
   ·rw[q12,cz] at gc
    refine⟨(x.rules.length-(j+1)).toNat,by omega, ?_⟩
    rw[cY (n:=j+1) (by omega)]
    exact⟨cc.le_trans hl11 hI12,rfl,by omega,x,hx,by omega,rfl,by rw[gc,show (j+1).toNat=j.toNat+1 by omega]⟩
   ·exact .fail gc q12
  ·have hlt2:=of_decide_eq_false hlt2
   rw[dO _ _ (by omega),cz] at gc
   refine⟨(s.states.length-(i+1)).toNat,by omega, ?_⟩
   rw[cY (n:=i+1) (by omega)]
   exact⟨by omega,by omega,rfl,hl11,rfl,by rw[gc,show (i+1).toNat=i.toNat+1 by omega]⟩
 ·have hlt:=of_decide_eq_false hlt
  rw[dO _ _ (by omega)] at gc
  exact .done gc
theorem BX:dz P 103:=zO [103] (by kernel_rfl) _ (by decide)
theorem BZ(s:cw)(hs:Small s.p.oJ)(hl:s.Gx)(I:cc)(F:b8)(hok:s.Ok I F):cf P 64 #[s.v] I F (dS (.int .i64 s.p.check) F):=by
 refine nJ.vc ?_
 unfold nJ.V
 intro b_s
 have hrd:∀{b:Nat} {I:cc} {G:b8},(c6 b s)∈G→Rd I G (⟨b,0,none⟩:Addr) s.enc:=fun h=>Rd.qW h 0 fun j hj=>by simp
 refine (tN (n:=s.p.check) fun b=>sN.fn BX (by simp) (yC s hs hl I _ hok.cons.cons (hrd (List.mem_cons_of_mem _ (List.mem_cons_self ..))))).mono fun e I1 G hI1 ⟨he,hG⟩=>?_
 subst hG
 exact⟨_,he,_,_,_,_,_,_,_,_,_,_,F,.refl _,rfl,rfl⟩
theorem dq.nil{α:Type}{I:cc}{G:b8}{z:Nat}{f:α→List Value}{a:Option Addr}:dq I G z f a 0 ([]:List α):=⟨rfl,fun h=>absurd rfl h⟩
theorem cC.leaf{I:cc}{G:b8}{k o ty n f:Int}{s:ByteArray}{a:Option Addr}{c:Nat}{q:Int}:cC I G (.mk k o ty n f s a c [] q):=.mk dq.nil fun k hk=>by cases hk
end Go.Lx
namespace Go.Lx
open Go.Vc Go.Proofs.Tryz
def k9:List (Nat×List Sh):=[(0,[]),(3,[.one (.int .i64)]),(4,[.one .bool]),(26,[.one .slc]),(28,[.agg [(.int .u8),(.int .u8),(.int .u8),(.int .i64),(.int .u8),.str,.slc,(.int .i64)]]),(145,[.agg [(.int .u8),.str,(.int .u8),(.int .i64),(.int .i64)]]),(195,[.agg [(.int .u8),(.int .u8),(.int .u8),(.int .i64),(.int .u8),.str,.slc,(.int .i64)],.one .bool])]
def fL.V(ah:Nat→Nat×Obj)(nV:Int→Int→Int→Int→Int→Bs→OA→Nat→Nat→Int→Value)(nO:Int→Int→Int→Int→Int→Bs→OA→Nat→Nat→Int→Obj)(vi:Int→Value)(vl:OA→Nat→Nat→Value)(vp:OA→Value)(wr:Int→Int)(p:Addr)(aD aE aF aG aH:Int)(aI:Bs)(aw:OA)(ax ay:Nat)(aJ ap d:Int)(I:cc)(F:b8)(Q:cd)(Inv20:Int→Int→Int→Int→Int→Int→Bs→OA→Nat→Nat→Int→Nat→cc→b8→Prop):Prop:=∀o:Nat,∀b:Nat,cy P 87 (#[vp (some p),vi d]) I ((ah o)::(b,nO 0 0 0 0 0 (⟨#[]⟩:Bs) none 0 0 0)::·) F .bool fun r I1 F1=>(It (!r) (Q (.returned (nV 0 0 0 0 0 (⟨#[]⟩:Bs) none 0 0 0)) I1 F1) (∃ad:Addr,some p=some ad∧∃(m:Int),Rd I1 ((ah o)::(b,nO 0 0 0 0 0 (⟨#[]⟩:Bs) none 0 0 0)::F1) (ad.add 3) [vi m]∧∃y:Addr,some p=some y∧∃(cs:List Value) (el:Nat) (F2:b8),List.Perm F1 (((y.add 3).block,Obj.cells cs.toArray el (0,0))::F2)∧(y.add 3).spot=none∧(y.add 3).off+1≤cs.length∧cf P 89 (#[vp (some p),.string (⟨#[40]⟩:Bs)]) I1 ((ah o)::(b,nO 0 0 0 0 0 (⟨#[]⟩:Bs) none 0 0 0)::(((y.add 3).block,Obj.cells (cj (y.add 3).off [vi (wr (m+1))] cs).toArray el (0,0))::F2)) fun e2 I2 G2=>∃(r1:Int),e2=.returned (vi r1)∧∃F3:b8,List.Perm G2 ((ah o)::(b,nO 0 0 0 0 0 (⟨#[]⟩:Bs) none 0 0 0)::F3)∧(∃m1:Nat,Inv20 0 aD aE aF aG aH aI aw ax ay aJ m1 I2 F3)∧∀(i f g h j k:Int) (l:Bs) (a:OA) (c e:Nat) (n:Int) (m2:Nat) (I3:cc) (F4:b8),cc.le I2 I3→Inv20 i f g h j k l a c e n m2 I3 F4→(Dt (i<ap) (Dt (i>0) (cy P 89 (#[vp (some p),.string (⟨#[44]⟩:Bs)]) I3 ((o,nO f g h j k l a c e n)::(b,nO 0 0 0 0 0 (⟨#[]⟩:Bs) none 0 0 0)::·) F4 vi fun r2 I4 F5=>dg P 53 (#[vp (some p),vi (wr (d+1))]) I4 ((o,nO f g h j k l a c e n)::(b,nO 0 0 0 0 0 (⟨#[]⟩:Bs) none 0 0 0)::·) F5 fun e4 I5 G4=>∃(ai aj ak al am:Int) (an:Bs) (u:OA) (w x:Nat) (ao:Int),e4=.returned (nV ai aj ak al am an u w x ao)∧G4 fun F6=>∀aC:Nat,∀(b1:Nat) (I6:cc),cc.le I5 I6→I6 b1=some (nO ai aj ak al am an u w x ao)→cF P (Builtin.append_ #[26,26] 26 #[vl a c e,vl (some ⟨b1,0,none⟩) 1 1]) I6 ((o,nO f g h j k l a c e n)::(b,nO 0 0 0 0 0 (⟨#[]⟩:Bs) none 0 0 0)::(aC,nO ai aj ak al am an u w x ao)::F6) fun v I7 G5=>∃(az:OA) (aA aB:Nat),v=vl az aA aB∧∃F7:b8,List.Perm G5 ((o,nO f g h j k l a c e n)::(b,nO 0 0 0 0 0 (⟨#[]⟩:Bs) none 0 0 0)::(aC,nO ai aj ak al am an u w x ao)::F7)∧(∃m3:Nat,m3<m2∧Inv20 (wr (i+1)) f g h j k l az aA aB n m3 I7 F7)) (dg P 53 (#[vp (some p),vi (wr (d+1))]) I3 ((o,nO f g h j k l a c e n)::(b,nO 0 0 0 0 0 (⟨#[]⟩:Bs) none 0 0 0)::·) F4 fun e5 I8 G6=>∃(z aa ab ac ae:Int) (af:Bs) (q:OA) (s t:Nat) (ag:Int),e5=.returned (nV z aa ab ac ae af q s t ag)∧G6 fun F8=>∀av:Nat,∀(b2:Nat) (I9:cc),cc.le I8 I9→I9 b2=some (nO z aa ab ac ae af q s t ag)→cF P (Builtin.append_ #[26,26] 26 #[vl a c e,vl (some ⟨b2,0,none⟩) 1 1]) I9 ((o,nO f g h j k l a c e n)::(b,nO 0 0 0 0 0 (⟨#[]⟩:Bs) none 0 0 0)::(av,nO z aa ab ac ae af q s t ag)::F8) fun v1 I10 G7=>∃(aq:OA) (ar au:Nat),v1=vl aq ar au∧∃F9:b8,List.Perm G7 ((o,nO f g h j k l a c e n)::(b,nO 0 0 0 0 0 (⟨#[]⟩:Bs) none 0 0 0)::(av,nO z aa ab ac ae af q s t ag)::F9)∧(∃m4:Nat,m4<m2∧Inv20 (wr (i+1)) f g h j k l aq ar au n m4 I10 F9))) (cy P 89 (#[vp (some p),.string (⟨#[41]⟩:Bs)]) I3 ((o,nO f g h j k l a c e n)::(b,nO 0 0 0 0 0 (⟨#[]⟩:Bs) none 0 0 0)::·) F4 vi fun r3 I11 F10=>Q (.returned (nV f g h j k l a c e n)) I11 F10))))
theorem fL.vc{p:Addr}{j r u v w:Int}{x:Bs}{e:OA}{g i:Nat}{y z d:Int}{I:cc}{F:b8}{Q:cd}(Inv20:Int→Int→Int→Int→Int→Int→Bs→OA→Nat→Nat→Int→Nat→cc→b8→Prop)(h:fL.V (fun b=>(b,Obj.cells #[.int .u8 j,.int .u8 r,.int .u8 u,.int .i64 v,.int .u8 w,.string x,.slice e g i,.int .i64 y] 28 (0,0))) (fun k o t n f s a l c q=>.agg #[.int .u8 k,.int .u8 o,.int .u8 t,.int .i64 n,.int .u8 f,.string s,.slice a l c,.int .i64 q]) (fun k o t n f s a l c q=>.cells #[.int .u8 k,.int .u8 o,.int .u8 t,.int .i64 n,.int .u8 f,.string s,.slice a l c,.int .i64 q] 28 (0,0)) (.int .i64) .slice .pointer (IntKind.wrap .i64) p j r u v w x e g i y z d I F Q Inv20):cf P 173 #[.pointer (some p),.agg #[.int .u8 j,.int .u8 r,.int .u8 u,.int .i64 v,.int .u8 w,.string x,.slice e g i,.int .i64 y],.int .i64 z,.int .i64 d] I F Q :=
 tw (A:=(cK [2001,7002,9001] [] [53,87,89] k9 [(20,⟨[(10,(.int .i64))],[(0,[(.int .u8),(.int .u8),(.int .u8),(.int .i64),(.int .u8),.str,.slc,(.int .i64)])],fun _ _ _ vs m I F=>match vs with | [.int _ y0,.int _ y1,.int _ y2,.int _ y3,.int _ y4,.int _ y5,.string y6,.slice y7 y8 y9,.int _ y10]=>Inv20 y0 y1 y2 y3 y4 y5 y6 y7 y8 y9 y10 m I F | _=>False,[],[]⟩)] [12003] [] [] [] [] [])) [53,87,89] func173 h
def gp.V(ka:Nat→Int→Bs→Int→Int→Int→Nat×Obj)(nV:Int→Int→Int→Int→Int→Bs→OA→Nat→Nat→Int→Value)(nO:Int→Int→Int→Int→Int→Bs→OA→Nat→Nat→Int→Obj)(vb vi:Int→Value)(vs:Bs→Value)(vl:OA→Nat→Nat→Value)(vp:OA→Value)(p:Addr)(d:Int)(I:cc)(F:b8)(Q:cd)  : Prop:=∀b:Nat,dg P 123 (#[vp (some p)]) I ((b,nO 0 0 0 0 0 (⟨#[]⟩:Bs) none 0 0 0)::·) F fun e1 I1 G1=>∃(f g h i j:Int) (k:Bs) (a:OA) (c e:Nat) (l:Int) (r1:Bool),e1=.returned (.tuple #[nV f g h i j k a c e l,.bool r1])∧G1 fun F1=>∀s:Nat,(It r1 (Q (.returned (nV f g h i j k a c e l)) I1 F1) (dg P 88 (#[vp (some p)]) I1 ((b,nO 0 0 0 0 0 (⟨#[]⟩:Bs) none 0 0 0)::(s,nO f g h i j k a c e l)::·) F1 fun e2 I2 G2=>∃(o:Int) (q:Bs) (t u n:Int),e2=.returned (.agg #[vb o,vs q,vb t,vi u,vi n])∧G2 fun F2=>∀v:Nat,(It (o==2) (∃ad:Addr,some p=some ad∧∃(m:Int),Rd I2 ((b,nO 0 0 0 0 0 (⟨#[]⟩:Bs) none 0 0 0)::(s,nO f g h i j k a c e l)::(ka v o q t u n)::F2) (ad.add 3) [vi m]∧∃w:Addr,some p=some w∧∃(cs:List Value) (el:Nat) (F3:b8),List.Perm F2 (((w.add 3).block,Obj.cells cs.toArray el (0,0))::F3)∧(w.add 3).spot=none∧(w.add 3).off+1≤cs.length∧Q (.returned (nV 2 0 0 0 0 q none 0 0 n)) I2 ((((w.add 3).block,Obj.cells (cj (w.add 3).off [vi (IntKind.wrap .i64 (m+1))] cs).toArray el (0,0))::F3))) (∀(b1:Nat) (I3:cc),cc.le I2 I3→I3 b1=some (Obj.cells #[vs (⟨#[98,105,100]⟩:Bs),vs (⟨#[97,115,107]⟩:Bs),vs (⟨#[108,97,115,116]⟩:Bs),vs (⟨#[118,111,108,117,109,101]⟩:Bs),vs (⟨#[110,111,119]⟩:Bs),vs (⟨#[111,112,101,110]⟩:Bs)] 9 (0,0))→cy P 122 (#[vp (some p),vl (some ⟨b1,0,none⟩) 6 6]) I3 ((b,nO 0 0 0 0 0 (⟨#[]⟩:Bs) none 0 0 0)::(s,nO f g h i j k a c e l)::(ka v o q t u n)::·) F2 vi fun r I4 F4=>(Dt (r≥0) (∃aR:Addr,some p=some aR∧∃(m1:Int),Rd I4 ((b,nO 0 0 0 0 0 (⟨#[]⟩:Bs) none 0 0 0)::(s,nO f g h i j k a c e l)::(ka v o q t u n)::F4) (aR.add 3) [vi m1]∧∃x:Addr,some p=some x∧∃(al:List Value) (aO:Nat) (F5:b8),List.Perm F4 (((x.add 3).block,Obj.cells al.toArray aO (0,0))::F5)∧(x.add 3).spot=none∧(x.add 3).off+1≤al.length∧Q (.returned (.agg #[vb 3,vb 0,vb 0,vi 0,vb (IntKind.wrap .u8 (IntKind.wrap .i64 (r+1))),vs (⟨#[]⟩:Bs),vl none 0 0,vi n])) I4 ((((x.add 3).block,Obj.cells (cj (x.add 3).off [vi (IntKind.wrap .i64 (m1+1))] al).toArray aO (0,0))::F5))) (∀(b2:Nat) (I5:cc),cc.le I4 I5→I5 b2=some (Obj.cells #[vs (⟨#[97,98,115]⟩:Bs),vs (⟨#[109,105,110]⟩:Bs),vs (⟨#[109,97,120]⟩:Bs)] 9 (0,0))→cy P 122 (#[vp (some p),vl (some ⟨b2,0,none⟩) 3 3]) I5 ((b,nO 0 0 0 0 0 (⟨#[]⟩:Bs) none 0 0 0)::(s,nO f g h i j k a c e l)::(ka v o q t u n)::·) F4 vi fun r2 I6 F6=>(Dt (r2≥0) (It (r2==0) (dg P 173 (#[vp (some p),.agg #[vb 8,vb (IntKind.wrap .u8 (3+(IntKind.wrap .u8 r2))),vb 0,vi 0,vb 0,vs (⟨#[]⟩:Bs),vl none 0 0,vi n],vi 1,vi d]) I6 ((b,nO 0 0 0 0 0 (⟨#[]⟩:Bs) none 0 0 0)::(s,nO f g h i j k a c e l)::(ka v o q t u n)::·) F6 fun e5 I7 G5=>∃(am an ao ap aq:Int) (aP:Bs) (ai:OA) (aj ak:Nat) (aQ:Int),e5=.returned (nV am an ao ap aq aP ai aj ak aQ)∧G5 fun F7=>Q (.returned (nV am an ao ap aq aP ai aj ak aQ)) I7 F7) (dg P 173 (#[vp (some p),.agg #[vb 8,vb (IntKind.wrap .u8 (3+(IntKind.wrap .u8 r2))),vb 0,vi 0,vb 0,vs (⟨#[]⟩:Bs),vl none 0 0,vi n],vi 2,vi d]) I6 ((b,nO 0 0 0 0 0 (⟨#[]⟩:Bs) none 0 0 0)::(s,nO f g h i j k a c e l)::(ka v o q t u n)::·) F6 fun e6 I8 G6=>∃(ar au av aw ax:Int) (ay:Bs) (y:OA) (z aa:Nat) (az:Int),e6=.returned (nV ar au av aw ax ay y z aa az)∧G6 fun F8=>Q (.returned (nV ar au av aw ax ay y z aa az)) I8 F8)) (∀(b3:Nat) (I9:cc),cc.le I6 I9→I9 b3=some (Obj.cells #[vs (⟨#[105,110,116]⟩:Bs),vs (⟨#[113,116,121]⟩:Bs),vs (⟨#[112,114,105,99,101]⟩:Bs),vs (⟨#[116,105,109,101]⟩:Bs)] 9 (0,0))→cy P 122 (#[vp (some p),vl (some ⟨b3,0,none⟩) 4 4]) I9 ((b,nO 0 0 0 0 0 (⟨#[]⟩:Bs) none 0 0 0)::(s,nO f g h i j k a c e l)::(ka v o q t u n)::·) F6 vi fun r3 I10 F9=>(Dt (r3≥0) (dg P 173 (#[vp (some p),.agg #[vb 9,vb 0,vb (IntKind.wrap .u8 (1+(IntKind.wrap .u8 r3))),vi 0,vb 0,vs (⟨#[]⟩:Bs),vl none 0 0,vi n],vi 1,vi d]) I10 ((b,nO 0 0 0 0 0 (⟨#[]⟩:Bs) none 0 0 0)::(s,nO f g h i j k a c e l)::(ka v o q t u n)::·) F9 fun e8 I11 G8=>∃(aA aB aC aD aE:Int) (aF:Bs) (ab:OA) (ac ae:Nat) (aG:Int),e8=.returned (nV aA aB aC aD aE aF ab ac ae aG)∧G8 fun F10=>Q (.returned (nV aA aB aC aD aE aF ab ac ae aG)) I11 F10) (dg P 174 (#[vp (some p),vi d]) I10 ((b,nO 0 0 0 0 0 (⟨#[]⟩:Bs) none 0 0 0)::(s,nO f g h i j k a c e l)::(ka v o q t u n)::·) F9 fun e9 I12 G9=>∃(aH aI aJ aK aL:Int) (aM:Bs) (af:OA) (ag ah:Nat) (aN:Int),e9=.returned (nV aH aI aJ aK aL aM af ag ah aN)∧G9 fun F11=>Q (.returned (nV aH aI aJ aK aL aM af ag ah aN)) I12 F11))))))))))
theorem gp.vc{p:Addr}{d:Int}{I:cc}{F:b8}{Q:cd}  (h:gp.V (fun W a b c d e=>(W,Obj.cells #[.int .u8 a,.string b,.int .u8 c,.int .i64 d,.int .i64 e] 145 (0,0))) (fun k o t n f s a l c q=>.agg #[.int .u8 k,.int .u8 o,.int .u8 t,.int .i64 n,.int .u8 f,.string s,.slice a l c,.int .i64 q]) (fun k o t n f s a l c q=>.cells #[.int .u8 k,.int .u8 o,.int .u8 t,.int .i64 n,.int .u8 f,.string s,.slice a l c,.int .i64 q] 28 (0,0)) (.int .u8) (.int .i64) .string .slice .pointer p d I F Q):cf P 172 #[.pointer (some p),.int .i64 d] I F Q :=
 tw (A:=(cK [2000,5002,9001,13001,15001,19001] [] [88,122,123,173,174] k9 [] [8001,12001,18001] [] [] [] [] [])) [88,122,123,173,174] func172 h
def fM.V(nV:Int→Int→Int→Int→Int→Bs→OA→Nat→Nat→Int→Value)(nO:Int→Int→Int→Int→Int→Bs→OA→Nat→Nat→Int→Obj)(vb vi:Int→Value)(vs:Bs→Value)(vp:OA→Value)(wr:Int→Int)(p:Addr)(d:Int)(I:cc)(F:b8)(Q:cd)  : Prop:=∀b:Nat,dg P 88 (#[vp (some p)]) I ((b,nO 0 0 0 0 0 (⟨#[]⟩:Bs) none 0 0 0)::·) F fun e1 I1 G1=>∃(aa:Int) (ab:Bs) (ac ae u:Int),e1=.returned (.agg #[vb aa,vs ab,vb ac,vi ae,vi u])∧G1 fun F1=>cy P 86 (#[vp (some p),vs (⟨#[104,97,115]⟩:Bs)]) I1 ((b,nO 0 0 0 0 0 (⟨#[]⟩:Bs) none 0 0 0)::·) F1 .bool fun r I2 F2=>(It r (∃ad:Addr,some p=some ad∧∃(m:Int),Rd I2 ((b,nO 0 0 0 0 0 (⟨#[]⟩:Bs) none 0 0 0)::F2) (ad.add 3) [vi m]∧∃f:Addr,some p=some f∧∃(cs:List Value) (el:Nat) (F3:b8),List.Perm F2 (((f.add 3).block,Obj.cells cs.toArray el (0,0))::F3)∧(f.add 3).spot=none∧(f.add 3).off+1≤cs.length∧∀(b1:Nat) (I3:cc),cc.le I2 I3→I3 b1=some (Obj.cells #[vs (⟨#[98,105,100]⟩:Bs),vs (⟨#[97,115,107]⟩:Bs),vs (⟨#[108,97,115,116]⟩:Bs)] 9 (0,0))→cf P 122 (#[vp (some p),.slice (some ⟨b1,0,none⟩) 3 3]) I3 ((b,nO 0 0 0 0 0 (⟨#[]⟩:Bs) none 0 0 0)::(((f.add 3).block,Obj.cells (cj (f.add 3).off [vi (wr (m+1))] cs).toArray el (0,0))::F3)) fun e3 I4 G3=>∃(r1:Int),e3=.returned (vi r1)∧∃F4:b8,List.Perm G3 ((b,nO 0 0 0 0 0 (⟨#[]⟩:Bs) none 0 0 0)::F4)∧(Dt (r1<0) (dg P 90 (#[vp (some p),vi 130]) I4 ((b,nO 0 0 0 0 0 (⟨#[]⟩:Bs) none 0 0 0)::·) F4 fun e4 I5 G4=>e4=.returned (.tuple #[])∧G4 fun F5=>Q (.returned (nV 0 0 0 0 0 (⟨#[]⟩:Bs) none 0 0 0)) I5 F5) (∃x:Addr,some p=some x∧∃(m1:Int),Rd I4 ((b,nO 0 0 0 0 0 (⟨#[]⟩:Bs) none 0 0 0)::F4) (x.add 3) [vi m1]∧∃g:Addr,some p=some g∧∃(s:List Value) (v:Nat) (F6:b8),List.Perm F4 (((g.add 3).block,Obj.cells s.toArray v (0,0))::F6)∧(g.add 3).spot=none∧(g.add 3).off+1≤s.length∧Q (.returned (.agg #[vb 4,vb 0,vb 0,vi 0,vb (IntKind.wrap .u8 (wr (r1+1))),vs (⟨#[]⟩:Bs),.slice none 0 0,vi u])) I4 ((((g.add 3).block,Obj.cells (cj (g.add 3).off [vi (wr (m1+1))] s).toArray v (0,0))::F6))))) (cy P 86 (#[vp (some p),vs (⟨#[40]⟩:Bs)]) I2 ((b,nO 0 0 0 0 0 (⟨#[]⟩:Bs) none 0 0 0)::·) F2 .bool fun r2 I6 F7=>(It (!r2) (dg P 90 (#[vp (some p),vi 130]) I6 ((b,nO 0 0 0 0 0 (⟨#[]⟩:Bs) none 0 0 0)::·) F7 fun e6 I7 G6=>e6=.returned (.tuple #[])∧G6 fun F8=>Q (.returned (nV 0 0 0 0 0 (⟨#[]⟩:Bs) none 0 0 0)) I7 F8) (cy P 87 (#[vp (some p),vi d]) I6 ((b,nO 0 0 0 0 0 (⟨#[]⟩:Bs) none 0 0 0)::·) F7 .bool fun r3 I8 F9=>(It (!r3) (Q (.returned (nV 0 0 0 0 0 (⟨#[]⟩:Bs) none 0 0 0)) I8 F9) (∃y:Addr,some p=some y∧∃(m2:Int),Rd I8 ((b,nO 0 0 0 0 0 (⟨#[]⟩:Bs) none 0 0 0)::F9) (y.add 3) [vi m2]∧∃h:Addr,some p=some h∧∃(t:List Value) (w:Nat) (F10:b8),List.Perm F9 (((h.add 3).block,Obj.cells t.toArray w (0,0))::F10)∧(h.add 3).spot=none∧(h.add 3).off+1≤t.length∧cf P 53 (#[vp (some p),vi (wr (d+1))]) I8 ((b,nO 0 0 0 0 0 (⟨#[]⟩:Bs) none 0 0 0)::(((h.add 3).block,Obj.cells (cj (h.add 3).off [vi (wr (m2+1))] t).toArray w (0,0))::F10)) fun e8 I9 G8=>∃(i j k l n:Int) (o:Bs) (a:OA) (c e:Nat) (q:Int),e8=.returned (nV i j k l n o a c e q)∧∃F11:b8,List.Perm G8 ((b,nO 0 0 0 0 0 (⟨#[]⟩:Bs) none 0 0 0)::F11)∧∀z:Nat,cy P 89 (#[vp (some p),vs (⟨#[41]⟩:Bs)]) I9 ((b,nO 0 0 0 0 0 (⟨#[]⟩:Bs) none 0 0 0)::(z,nO i j k l n o a c e q)::·) F11 vi fun r4 I10 F12=>Q (.returned (nV i j k l n o a c e q)) I10 F12))))))
theorem fM.vc{p:Addr}{d:Int}{I:cc}{F:b8}{Q:cd}  (h:fM.V (fun k o t n f s a l c q=>.agg #[.int .u8 k,.int .u8 o,.int .u8 t,.int .i64 n,.int .u8 f,.string s,.slice a l c,.int .i64 q]) (fun k o t n f s a l c q=>.cells #[.int .u8 k,.int .u8 o,.int .u8 t,.int .i64 n,.int .u8 f,.string s,.slice a l c,.int .i64 q] 28 (0,0)) (.int .u8) (.int .i64) .string .pointer (IntKind.wrap .i64) p d I F Q):cf P 174 #[.pointer (some p),.int .i64 d] I F Q :=
 tw (A:=(cK [3000,6001,12001,16001] [] [53,86,87,88,89,90,122] k9 [] [5001] [] [] [] [] [])) [53,86,87,88,89,90,122] func174 h
def fh.V(ka:Nat→Int→Int→Int→Int→Int→Bs→OA→Nat→Nat→Int→Nat×Obj)(nV:Int→Int→Int→Int→Int→Bs→OA→Nat→Nat→Int→Value)(nO:Int→Int→Int→Int→Int→Bs→OA→Nat→Nat→Int→Obj)(vb vi:Int→Value)(vs:Bs→Value)(vl:OA→Nat→Nat→Value)(vp:OA→Value)(p:Addr)(d:Int)(I:cc)(F:b8)(Q:cd)  : Prop:=∀b:Nat,∀(b1:Nat) (I1:cc),cc.le I I1→I1 b1=some (Obj.cells #[vs (⟨#[45]⟩:Bs),vs (⟨#[33]⟩:Bs)] 9 (0,0))→cy P 122 (#[vp (some p),vl (some ⟨b1,0,none⟩) 2 2]) I1 ((b,nO 0 0 0 0 0 (⟨#[]⟩:Bs) none 0 0 0)::·) F vi fun r I2 F1=>(Dt (r<0) (dg P 172 (#[vp (some p),vi d]) I2 ((b,nO 0 0 0 0 0 (⟨#[]⟩:Bs) none 0 0 0)::·) F1 fun e2 I3 G2=>∃(w x y z aa:Int) (ab:Bs) (s:OA) (t u:Nat) (ac:Int),e2=.returned (nV w x y z aa ab s t u ac)∧G2 fun F2=>Q (.returned (nV w x y z aa ab s t u ac)) I3 F2) (cy P 87 (#[vp (some p),vi d]) I2 ((b,nO 0 0 0 0 0 (⟨#[]⟩:Bs) none 0 0 0)::·) F1 .bool fun r1 I4 F3=>(It (!r1) (Q (.returned (nV 0 0 0 0 0 (⟨#[]⟩:Bs) none 0 0 0)) I4 F3) (dg P 88 (#[vp (some p)]) I4 ((b,nO 0 0 0 0 0 (⟨#[]⟩:Bs) none 0 0 0)::·) F3 fun e4 I5 G4=>∃(ai:Int) (aj:Bs) (ak al a:Int),e4=.returned (.agg #[vb ai,vs aj,vb ak,vi al,vi a])∧G4 fun F4=>∀q:Nat,∃ad:Addr,some p=some ad∧∃(m:Int),Rd I5 ((b,nO 0 0 0 0 0 (⟨#[]⟩:Bs) none 0 0 0)::(ka q 5 (IntKind.wrap .u8 (1+(IntKind.wrap .u8 r))) 0 0 0 (⟨#[]⟩:Bs) none 0 0 a)::F4) (ad.add 3) [vi m]∧∃g:Addr,some p=some g∧∃(cs:List Value) (el:Nat) (F5:b8),List.Perm F4 (((g.add 3).block,Obj.cells cs.toArray el (0,0))::F5)∧(g.add 3).spot=none∧(g.add 3).off+1≤cs.length∧cf P 170 (#[vp (some p),vi (IntKind.wrap .i64 (d+1))]) I5 ((b,nO 0 0 0 0 0 (⟨#[]⟩:Bs) none 0 0 0)::(ka q 5 (IntKind.wrap .u8 (1+(IntKind.wrap .u8 r))) 0 0 0 (⟨#[]⟩:Bs) none 0 0 a)::(((g.add 3).block,Obj.cells (cj (g.add 3).off [vi (IntKind.wrap .i64 (m+1))] cs).toArray el (0,0))::F5)) fun e5 I6 G5=>∃(h i j k l:Int) (n:Bs) (c:OA) (e f:Nat) (o:Int),e5=.returned (nV h i j k l n c e f o)∧∃F6:b8,List.Perm G5 ((b,nO 0 0 0 0 0 (⟨#[]⟩:Bs) none 0 0 0)::(ka q 5 (IntKind.wrap .u8 (1+(IntKind.wrap .u8 r))) 0 0 0 (⟨#[]⟩:Bs) none 0 0 a)::F6)∧∀ah:Nat,∀(b2:Nat) (I7:cc),cc.le I6 I7→I7 b2=some (nO h i j k l n c e f o)→cF P (Builtin.append_ #[26,26] 26 #[vl none 0 0,vl (some ⟨b2,0,none⟩) 1 1]) I7 ((b,nO 0 0 0 0 0 (⟨#[]⟩:Bs) none 0 0 0)::(ka q 5 (IntKind.wrap .u8 (1+(IntKind.wrap .u8 r))) 0 0 0 (⟨#[]⟩:Bs) none 0 0 a)::(ah,nO h i j k l n c e f o)::F6) fun v I8 G6=>∃(ae:OA) (af ag:Nat),v=vl ae af ag∧∃F7:b8,List.Perm G6 ((b,nO 0 0 0 0 0 (⟨#[]⟩:Bs) none 0 0 0)::(ka q 5 (IntKind.wrap .u8 (1+(IntKind.wrap .u8 r))) 0 0 0 (⟨#[]⟩:Bs) none 0 0 a)::(ah,nO h i j k l n c e f o)::F7)∧Q (.returned (.agg #[vb 5,vb (IntKind.wrap .u8 (1+(IntKind.wrap .u8 r))),vb 0,vi 0,vb 0,vs (⟨#[]⟩:Bs),vl ae af ag,vi a])) I8 F7))))
theorem fh.vc{p:Addr}{d:Int}{I:cc}{F:b8}{Q:cd}  (h:fh.V (fun W a b c d e f g h i j=>(W,Obj.cells #[.int .u8 a,.int .u8 b,.int .u8 c,.int .i64 d,.int .u8 e,.string f,.slice g h i,.int .i64 j] 28 (0,0))) (fun k o t n f s a l c q=>.agg #[.int .u8 k,.int .u8 o,.int .u8 t,.int .i64 n,.int .u8 f,.string s,.slice a l c,.int .i64 q]) (fun k o t n f s a l c q=>.cells #[.int .u8 k,.int .u8 o,.int .u8 t,.int .i64 n,.int .u8 f,.string s,.slice a l c,.int .i64 q] 28 (0,0)) (.int .u8) (.int .i64) .string .slice .pointer p d I F Q):cf P 170 #[.pointer (some p),.int .i64 d] I F Q :=
 tw (A:=(cK [2001,5001] [] [87,88,122,170,172] k9 [] [1001,10003] [] [] [] [] [])) [87,88,122,170,172] func170 h
def eF.V(nV:Int→Int→Int→Int→Int→Bs→OA→Nat→Nat→Int→Value)(nO:Int→Int→Int→Int→Int→Bs→OA→Nat→Nat→Int→Obj)(vi:Int→Value)(vs:Bs→Value)(vp:OA→Value)(p:Addr)(d:Int)(I:cc)(F:b8)(Q:cd)(Inv5:Int→Int→Int→Int→Int→Bs→OA→Nat→Nat→Int→Int→Int→Int→Int→Int→Bs→OA→Nat→Nat→Int→Nat→cc→b8→Prop):Prop:=∀b:Nat,dg P 170 (#[vp (some p),vi d]) I ((b,nO 0 0 0 0 0 (⟨#[]⟩:Bs) none 0 0 0)::·) F fun e1 I1 G1=>∃(aC aD aE aF aG:Int) (aH:Bs) (ap:OA) (aq ar:Nat) (aI:Int),e1=.returned (nV aC aD aE aF aG aH ap aq ar aI)∧G1 fun F1=>∀ac:Nat,(∃m:Nat,Inv5 0 0 0 0 0 (⟨#[]⟩:Bs) none 0 0 0 aC aD aE aF aG aH ap aq ar aI m I1 F1)∧∀(s t u v w:Int) (x:Bs) (n:OA) (o q:Nat) (y f g h i j:Int) (k:Bs) (a:OA) (c e:Nat) (l:Int) (m1:Nat) (I2:cc) (F2:b8),cc.le I1 I2→Inv5 s t u v w x n o q y f g h i j k a c e l m1 I2 F2→∀(b1:Nat) (I3:cc),cc.le I2 I3→I3 b1=some (Obj.cells #[vs (⟨#[42]⟩:Bs),vs (⟨#[47]⟩:Bs),vs (⟨#[37]⟩:Bs)] 9 (0,0))→cy P 122 (#[vp (some p),.slice (some ⟨b1,0,none⟩) 3 3]) I3 ((b,nO s t u v w x n o q y)::(ac,nO f g h i j k a c e l)::·) F2 vi fun r I4 F3=>(Dt (r<0) (Q (.returned (nV f g h i j k a c e l)) I4 F3) (dg P 88 (#[vp (some p)]) I4 ((b,nO s t u v w x n o q y)::(ac,nO f g h i j k a c e l)::·) F3 fun e3 I5 G3=>∃(aK:Int) (aL:Bs) (aM aN au:Int),e3=.returned (.agg #[.int .u8 aK,vs aL,.int .u8 aM,vi aN,vi au])∧G3 fun F4=>∃ad:Addr,some p=some ad∧∃(m2:Int),Rd I5 ((b,nO s t u v w x n o q y)::(ac,nO f g h i j k a c e l)::F4) (ad.add 3) [vi m2]∧∃ae:Addr,some p=some ae∧∃(cs:List Value) (el:Nat) (F5:b8),List.Perm F4 (((ae.add 3).block,Obj.cells cs.toArray el (0,0))::F5)∧(ae.add 3).spot=none∧(ae.add 3).off+1≤cs.length∧cf P 170 (#[vp (some p),vi d]) I5 ((b,nO s t u v w x n o q y)::(ac,nO f g h i j k a c e l)::(((ae.add 3).block,Obj.cells (cj (ae.add 3).off [vi (IntKind.wrap .i64 (m2+1))] cs).toArray el (0,0))::F5)) fun e4 I6 G4=>∃(af ag ah ai aj:Int) (ak:Bs) (z:OA) (aa ab:Nat) (al:Int),e4=.returned (nV af ag ah ai aj ak z aa ab al)∧∃F6:b8,List.Perm G4 ((b,nO s t u v w x n o q y)::(ac,nO f g h i j k a c e l)::F6)∧∀aJ:Nat,dg P 121 (#[.int .u8 (IntKind.wrap .u8 (8+(IntKind.wrap .u8 r))),vi au,nV f g h i j k a c e l,nV af ag ah ai aj ak z aa ab al]) I6 ((b,nO s t u v w x n o q y)::(ac,nO f g h i j k a c e l)::(aJ,nO af ag ah ai aj ak z aa ab al)::·) F6 fun e5 I7 G5=>∃(av aw ax ay az:Int) (aA:Bs) (am:OA) (an ao:Nat) (aB:Int),e5=.returned (nV av aw ax ay az aA am an ao aB)∧G5 fun F7=>(∃m3:Nat,m3<m1∧Inv5 s t u v w x n o q y av aw ax ay az aA am an ao aB m3 I7 F7)))
theorem eF.vc{p:Addr}{d:Int}{I:cc}{F:b8}{Q:cd}(Inv5:Int→Int→Int→Int→Int→Bs→OA→Nat→Nat→Int→Int→Int→Int→Int→Int→Bs→OA→Nat→Nat→Int→Nat→cc→b8→Prop)(h:eF.V (fun k o t n f s a l c q=>.agg #[.int .u8 k,.int .u8 o,.int .u8 t,.int .i64 n,.int .u8 f,.string s,.slice a l c,.int .i64 q]) (fun k o t n f s a l c q=>.cells #[.int .u8 k,.int .u8 o,.int .u8 t,.int .i64 n,.int .u8 f,.string s,.slice a l c,.int .i64 q] 28 (0,0)) (.int .i64) .string .pointer p d I F Q Inv5):cf P 165 #[.pointer (some p),.int .i64 d] I F Q :=
 tw (A:=(cK [3001] [] [88,121,122,170] k9 [(5,⟨[],[(0,[(.int .u8),(.int .u8),(.int .u8),(.int .i64),(.int .u8),.str,.slc,(.int .i64)]),(1,[(.int .u8),(.int .u8),(.int .u8),(.int .i64),(.int .u8),.str,.slc,(.int .i64)])],fun _ _ _ vs m I F=>match vs with | [.int _ y0,.int _ y1,.int _ y2,.int _ y3,.int _ y4,.string y5,.slice y6 y7 y8,.int _ y9,.int _ y10,.int _ y11,.int _ y12,.int _ y13,.int _ y14,.string y15,.slice y16 y17 y18,.int _ y19]=>Inv5 y0 y1 y2 y3 y4 y5 y6 y7 y8 y9 y10 y11 y12 y13 y14 y15 y16 y17 y18 y19 m I F | _=>False,[],[]⟩)] [2001] [] [] [] [] [])) [88,121,122,170] func165 h
def gq.V(nV:Int→Int→Int→Int→Int→Bs→OA→Nat→Nat→Int→Value)(nO:Int→Int→Int→Int→Int→Bs→OA→Nat→Nat→Int→Obj)(vi:Int→Value)(vp:OA→Value)(p:Addr)(d:Int)(I:cc)(F:b8)(Q:cd)(Inv5:Int→Int→Int→Int→Int→Bs→OA→Nat→Nat→Int→Int→Int→Int→Int→Int→Bs→OA→Nat→Nat→Int→Nat→cc→b8→Prop):Prop:=∀b:Nat,dg P 165 (#[vp (some p),vi d]) I ((b,nO 0 0 0 0 0 (⟨#[]⟩:Bs) none 0 0 0)::·) F fun e1 I1 G1=>∃(aC aD aE aF aG:Int) (aH:Bs) (ap:OA) (aq ar:Nat) (aI:Int),e1=.returned (nV aC aD aE aF aG aH ap aq ar aI)∧G1 fun F1=>∀ac:Nat,(∃m:Nat,Inv5 0 0 0 0 0 (⟨#[]⟩:Bs) none 0 0 0 aC aD aE aF aG aH ap aq ar aI m I1 F1)∧∀(s t u v w:Int) (x:Bs) (n:OA) (o q:Nat) (y f g h i j:Int) (k:Bs) (a:OA) (c e:Nat) (l:Int) (m1:Nat) (I2:cc) (F2:b8),cc.le I1 I2→Inv5 s t u v w x n o q y f g h i j k a c e l m1 I2 F2→∀(b1:Nat) (I3:cc),cc.le I2 I3→I3 b1=some (Obj.cells #[.string (⟨#[43]⟩:Bs),.string (⟨#[45]⟩:Bs)] 9 (0,0))→cy P 122 (#[vp (some p),.slice (some ⟨b1,0,none⟩) 2 2]) I3 ((b,nO s t u v w x n o q y)::(ac,nO f g h i j k a c e l)::·) F2 vi fun r I4 F3=>(Dt (r<0) (Q (.returned (nV f g h i j k a c e l)) I4 F3) (dg P 88 (#[vp (some p)]) I4 ((b,nO s t u v w x n o q y)::(ac,nO f g h i j k a c e l)::·) F3 fun e3 I5 G3=>∃(aK:Int) (aL:Bs) (aM aN au:Int),e3=.returned (.agg #[.int .u8 aK,.string aL,.int .u8 aM,vi aN,vi au])∧G3 fun F4=>∃ad:Addr,some p=some ad∧∃(m2:Int),Rd I5 ((b,nO s t u v w x n o q y)::(ac,nO f g h i j k a c e l)::F4) (ad.add 3) [vi m2]∧∃ae:Addr,some p=some ae∧∃(cs:List Value) (el:Nat) (F5:b8),List.Perm F4 (((ae.add 3).block,Obj.cells cs.toArray el (0,0))::F5)∧(ae.add 3).spot=none∧(ae.add 3).off+1≤cs.length∧cf P 165 (#[vp (some p),vi d]) I5 ((b,nO s t u v w x n o q y)::(ac,nO f g h i j k a c e l)::(((ae.add 3).block,Obj.cells (cj (ae.add 3).off [vi (IntKind.wrap .i64 (m2+1))] cs).toArray el (0,0))::F5)) fun e4 I6 G4=>∃(af ag ah ai aj:Int) (ak:Bs) (z:OA) (aa ab:Nat) (al:Int),e4=.returned (nV af ag ah ai aj ak z aa ab al)∧∃F6:b8,List.Perm G4 ((b,nO s t u v w x n o q y)::(ac,nO f g h i j k a c e l)::F6)∧∀aJ:Nat,dg P 121 (#[.int .u8 (IntKind.wrap .u8 (6+(IntKind.wrap .u8 r))),vi au,nV f g h i j k a c e l,nV af ag ah ai aj ak z aa ab al]) I6 ((b,nO s t u v w x n o q y)::(ac,nO f g h i j k a c e l)::(aJ,nO af ag ah ai aj ak z aa ab al)::·) F6 fun e5 I7 G5=>∃(av aw ax ay az:Int) (aA:Bs) (am:OA) (an ao:Nat) (aB:Int),e5=.returned (nV av aw ax ay az aA am an ao aB)∧G5 fun F7=>(∃m3:Nat,m3<m1∧Inv5 s t u v w x n o q y av aw ax ay az aA am an ao aB m3 I7 F7)))
theorem gq.vc{p:Addr}{d:Int}{I:cc}{F:b8}{Q:cd}(Inv5:Int→Int→Int→Int→Int→Bs→OA→Nat→Nat→Int→Int→Int→Int→Int→Int→Bs→OA→Nat→Nat→Int→Nat→cc→b8→Prop)(h:gq.V (fun k o t n f s a l c q=>.agg #[.int .u8 k,.int .u8 o,.int .u8 t,.int .i64 n,.int .u8 f,.string s,.slice a l c,.int .i64 q]) (fun k o t n f s a l c q=>.cells #[.int .u8 k,.int .u8 o,.int .u8 t,.int .i64 n,.int .u8 f,.string s,.slice a l c,.int .i64 q] 28 (0,0)) (.int .i64) .pointer p d I F Q Inv5):cf P 157 #[.pointer (some p),.int .i64 d] I F Q :=
 tw (A:=(cK [3001] [] [88,121,122,165] k9 [(5,⟨[],[(0,[(.int .u8),(.int .u8),(.int .u8),(.int .i64),(.int .u8),.str,.slc,(.int .i64)]),(1,[(.int .u8),(.int .u8),(.int .u8),(.int .i64),(.int .u8),.str,.slc,(.int .i64)])],fun _ _ _ vs m I F=>match vs with | [.int _ y0,.int _ y1,.int _ y2,.int _ y3,.int _ y4,.string y5,.slice y6 y7 y8,.int _ y9,.int _ y10,.int _ y11,.int _ y12,.int _ y13,.int _ y14,.string y15,.slice y16 y17 y18,.int _ y19]=>Inv5 y0 y1 y2 y3 y4 y5 y6 y7 y8 y9 y10 y11 y12 y13 y14 y15 y16 y17 y18 y19 m I F | _=>False,[],[]⟩)] [2001] [] [] [] [] [])) [88,121,122,165] func157 h
def eG.V(nV:Int→Int→Int→Int→Int→Bs→OA→Nat→Nat→Int→Value)(nO:Int→Int→Int→Int→Int→Bs→OA→Nat→Nat→Int→Obj)(vi:Int→Value)(vs:Bs→Value)(vp:OA→Value)(p:Addr)(d:Int)(I:cc)(F:b8)(Q:cd)  : Prop:=∀b:Nat,dg P 157 (#[vp (some p),vi d]) I ((b,nO 0 0 0 0 0 (⟨#[]⟩:Bs) none 0 0 0)::·) F fun e1 I1 G1=>∃(f g h i j:Int) (k:Bs) (a:OA) (c e:Nat) (l:Int),e1=.returned (nV f g h i j k a c e l)∧G1 fun F1=>∀s:Nat,∀(b1:Nat) (I2:cc),cc.le I1 I2→I2 b1=some (Obj.cells #[vs (⟨#[61,61]⟩:Bs),vs (⟨#[33,61]⟩:Bs),vs (⟨#[60]⟩:Bs),vs (⟨#[60,61]⟩:Bs),vs (⟨#[62]⟩:Bs),vs (⟨#[62,61]⟩:Bs)] 9 (0,0))→cy P 122 (#[vp (some p),.slice (some ⟨b1,0,none⟩) 6 6]) I2 ((b,nO 0 0 0 0 0 (⟨#[]⟩:Bs) none 0 0 0)::(s,nO f g h i j k a c e l)::·) F1 vi fun r I3 F2=>(Dt (r<0) (Q (.returned (nV f g h i j k a c e l)) I3 F2) (dg P 88 (#[vp (some p)]) I3 ((b,nO 0 0 0 0 0 (⟨#[]⟩:Bs) none 0 0 0)::(s,nO f g h i j k a c e l)::·) F2 fun e3 I4 G3=>∃(ao:Int) (ap:Bs) (aq ar af:Int),e3=.returned (.agg #[.int .u8 ao,vs ap,.int .u8 aq,vi ar,vi af])∧G3 fun F3=>∃ad:Addr,some p=some ad∧∃(m:Int),Rd I4 ((b,nO 0 0 0 0 0 (⟨#[]⟩:Bs) none 0 0 0)::(s,nO f g h i j k a c e l)::F3) (ad.add 3) [vi m]∧∃t:Addr,some p=some t∧∃(cs:List Value) (el:Nat) (F4:b8),List.Perm F3 (((t.add 3).block,Obj.cells cs.toArray el (0,0))::F4)∧(t.add 3).spot=none∧(t.add 3).off+1≤cs.length∧cf P 157 (#[vp (some p),vi d]) I4 ((b,nO 0 0 0 0 0 (⟨#[]⟩:Bs) none 0 0 0)::(s,nO f g h i j k a c e l)::(((t.add 3).block,Obj.cells (cj (t.add 3).off [vi (IntKind.wrap .i64 (m+1))] cs).toArray el (0,0))::F4)) fun e4 I5 G4=>∃(u v w x y:Int) (z:Bs) (n:OA) (o q:Nat) (aa:Int),e4=.returned (nV u v w x y z n o q aa)∧∃F5:b8,List.Perm G4 ((b,nO 0 0 0 0 0 (⟨#[]⟩:Bs) none 0 0 0)::(s,nO f g h i j k a c e l)::F5)∧∀an:Nat,dg P 121 (#[.int .u8 (IntKind.wrap .u8 (11+(IntKind.wrap .u8 r))),vi af,nV f g h i j k a c e l,nV u v w x y z n o q aa]) I5 ((b,nO 0 0 0 0 0 (⟨#[]⟩:Bs) none 0 0 0)::(s,nO f g h i j k a c e l)::(an,nO u v w x y z n o q aa)::·) F5 fun e5 I6 G5=>∃(ag ah ai aj ak:Int) (al:Bs) (ab:OA) (ac ae:Nat) (am:Int),e5=.returned (nV ag ah ai aj ak al ab ac ae am)∧G5 fun F6=>Q (.returned (nV ag ah ai aj ak al ab ac ae am)) I6 F6))
theorem eG.vc{p:Addr}{d:Int}{I:cc}{F:b8}{Q:cd}  (h:eG.V (fun k o t n f s a l c q=>.agg #[.int .u8 k,.int .u8 o,.int .u8 t,.int .i64 n,.int .u8 f,.string s,.slice a l c,.int .i64 q]) (fun k o t n f s a l c q=>.cells #[.int .u8 k,.int .u8 o,.int .u8 t,.int .i64 n,.int .u8 f,.string s,.slice a l c,.int .i64 q] 28 (0,0)) (.int .i64) .string .pointer p d I F Q):cf P 145 #[.pointer (some p),.int .i64 d] I F Q :=
 tw (A:=(cK [3001] [] [88,121,122,157] k9 [] [2001] [] [] [] [] [])) [88,121,122,157] func145 h
def gx.V(nV:Int→Int→Int→Int→Int→Bs→OA→Nat→Nat→Int→Value)(nO:Int→Int→Int→Int→Int→Bs→OA→Nat→Nat→Int→Obj)(vi:Int→Value)(vp:OA→Value)(p:Addr)(d:Int)(I:cc)(F:b8)(Q:cd)(Inv5:Int→Int→Int→Int→Int→Bs→OA→Nat→Nat→Int→Int→Int→Int→Int→Int→Bs→OA→Nat→Nat→Int→Nat→cc→b8→Prop):Prop:=∀b:Nat,dg P 145 (#[vp (some p),vi d]) I ((b,nO 0 0 0 0 0 (⟨#[]⟩:Bs) none 0 0 0)::·) F fun e1 I1 G1=>∃(aC aD aE aF aG:Int) (aH:Bs) (ap:OA) (aq ar:Nat) (aI:Int),e1=.returned (nV aC aD aE aF aG aH ap aq ar aI)∧G1 fun F1=>∀ac:Nat,(∃m:Nat,Inv5 0 0 0 0 0 (⟨#[]⟩:Bs) none 0 0 0 aC aD aE aF aG aH ap aq ar aI m I1 F1)∧∀(s t u v w:Int) (x:Bs) (n:OA) (o q:Nat) (y f g h i j:Int) (k:Bs) (a:OA) (c e:Nat) (l:Int) (m1:Nat) (I2:cc) (F2:b8),cc.le I1 I2→Inv5 s t u v w x n o q y f g h i j k a c e l m1 I2 F2→cy P 86 (#[vp (some p),.string (⟨#[38,38]⟩:Bs)]) I2 ((b,nO s t u v w x n o q y)::(ac,nO f g h i j k a c e l)::·) F2 .bool fun r I3 F3=>(It (!r) (Q (.returned (nV f g h i j k a c e l)) I3 F3) (dg P 88 (#[vp (some p)]) I3 ((b,nO s t u v w x n o q y)::(ac,nO f g h i j k a c e l)::·) F3 fun e3 I4 G3=>∃(aK:Int) (aL:Bs) (aM aN au:Int),e3=.returned (.agg #[.int .u8 aK,.string aL,.int .u8 aM,vi aN,vi au])∧G3 fun F4=>∃ad:Addr,some p=some ad∧∃(m2:Int),Rd I4 ((b,nO s t u v w x n o q y)::(ac,nO f g h i j k a c e l)::F4) (ad.add 3) [vi m2]∧∃ae:Addr,some p=some ae∧∃(cs:List Value) (el:Nat) (F5:b8),List.Perm F4 (((ae.add 3).block,Obj.cells cs.toArray el (0,0))::F5)∧(ae.add 3).spot=none∧(ae.add 3).off+1≤cs.length∧cf P 145 (#[vp (some p),vi d]) I4 ((b,nO s t u v w x n o q y)::(ac,nO f g h i j k a c e l)::(((ae.add 3).block,Obj.cells (cj (ae.add 3).off [vi (IntKind.wrap .i64 (m2+1))] cs).toArray el (0,0))::F5)) fun e4 I5 G4=>∃(af ag ah ai aj:Int) (ak:Bs) (z:OA) (aa ab:Nat) (al:Int),e4=.returned (nV af ag ah ai aj ak z aa ab al)∧∃F6:b8,List.Perm G4 ((b,nO s t u v w x n o q y)::(ac,nO f g h i j k a c e l)::F6)∧∀aJ:Nat,dg P 121 #[.int .u8 17,vi au,nV f g h i j k a c e l,nV af ag ah ai aj ak z aa ab al] I5 ((b,nO s t u v w x n o q y)::(ac,nO f g h i j k a c e l)::(aJ,nO af ag ah ai aj ak z aa ab al)::·) F6 fun e5 I6 G5=>∃(av aw ax ay az:Int) (aA:Bs) (am:OA) (an ao:Nat) (aB:Int),e5=.returned (nV av aw ax ay az aA am an ao aB)∧G5 fun F7=>(∃m3:Nat,m3<m1∧Inv5 s t u v w x n o q y av aw ax ay az aA am an ao aB m3 I6 F7)))
theorem gx.vc{p:Addr}{d:Int}{I:cc}{F:b8}{Q:cd}(Inv5:Int→Int→Int→Int→Int→Bs→OA→Nat→Nat→Int→Int→Int→Int→Int→Int→Bs→OA→Nat→Nat→Int→Nat→cc→b8→Prop)(h:gx.V (fun k o t n f s a l c q=>.agg #[.int .u8 k,.int .u8 o,.int .u8 t,.int .i64 n,.int .u8 f,.string s,.slice a l c,.int .i64 q]) (fun k o t n f s a l c q=>.cells #[.int .u8 k,.int .u8 o,.int .u8 t,.int .i64 n,.int .u8 f,.string s,.slice a l c,.int .i64 q] 28 (0,0)) (.int .i64) .pointer p d I F Q Inv5):cf P 120 #[.pointer (some p),.int .i64 d] I F Q :=
 tw (A:=(cK [3001] [] [86,88,121,145] k9 [(5,⟨[],[(0,[(.int .u8),(.int .u8),(.int .u8),(.int .i64),(.int .u8),.str,.slc,(.int .i64)]),(1,[(.int .u8),(.int .u8),(.int .u8),(.int .i64),(.int .u8),.str,.slc,(.int .i64)])],fun _ _ _ vs m I F=>match vs with | [.int _ y0,.int _ y1,.int _ y2,.int _ y3,.int _ y4,.string y5,.slice y6 y7 y8,.int _ y9,.int _ y10,.int _ y11,.int _ y12,.int _ y13,.int _ y14,.string y15,.slice y16 y17 y18,.int _ y19]=>Inv5 y0 y1 y2 y3 y4 y5 y6 y7 y8 y9 y10 y11 y12 y13 y14 y15 y16 y17 y18 y19 m I F | _=>False,[],[]⟩)] [] [] [] [] [] [])) [86,88,121,145] func120 h
def gZ.V(nV:Int→Int→Int→Int→Int→Bs→OA→Nat→Nat→Int→Value)(nO:Int→Int→Int→Int→Int→Bs→OA→Nat→Nat→Int→Obj)(vi:Int→Value)(vp:OA→Value)(p:Addr)(d:Int)(I:cc)(F:b8)(Q:cd)(Inv5:Int→Int→Int→Int→Int→Bs→OA→Nat→Nat→Int→Int→Int→Int→Int→Int→Bs→OA→Nat→Nat→Int→Nat→cc→b8→Prop):Prop:=∀b:Nat,dg P 120 (#[vp (some p),vi d]) I ((b,nO 0 0 0 0 0 (⟨#[]⟩:Bs) none 0 0 0)::·) F fun e1 I1 G1=>∃(aC aD aE aF aG:Int) (aH:Bs) (ap:OA) (aq ar:Nat) (aI:Int),e1=.returned (nV aC aD aE aF aG aH ap aq ar aI)∧G1 fun F1=>∀ac:Nat,(∃m:Nat,Inv5 0 0 0 0 0 (⟨#[]⟩:Bs) none 0 0 0 aC aD aE aF aG aH ap aq ar aI m I1 F1)∧∀(s t u v w:Int) (x:Bs) (n:OA) (o q:Nat) (y f g h i j:Int) (k:Bs) (a:OA) (c e:Nat) (l:Int) (m1:Nat) (I2:cc) (F2:b8),cc.le I1 I2→Inv5 s t u v w x n o q y f g h i j k a c e l m1 I2 F2→cy P 86 (#[vp (some p),.string (⟨#[124,124]⟩:Bs)]) I2 ((b,nO s t u v w x n o q y)::(ac,nO f g h i j k a c e l)::·) F2 .bool fun r I3 F3=>(It (!r) (Q (.returned (nV f g h i j k a c e l)) I3 F3) (dg P 88 (#[vp (some p)]) I3 ((b,nO s t u v w x n o q y)::(ac,nO f g h i j k a c e l)::·) F3 fun e3 I4 G3=>∃(aK:Int) (aL:Bs) (aM aN au:Int),e3=.returned (.agg #[.int .u8 aK,.string aL,.int .u8 aM,vi aN,vi au])∧G3 fun F4=>∃ad:Addr,some p=some ad∧∃(m2:Int),Rd I4 ((b,nO s t u v w x n o q y)::(ac,nO f g h i j k a c e l)::F4) (ad.add 3) [vi m2]∧∃ae:Addr,some p=some ae∧∃(cs:List Value) (el:Nat) (F5:b8),List.Perm F4 (((ae.add 3).block,Obj.cells cs.toArray el (0,0))::F5)∧(ae.add 3).spot=none∧(ae.add 3).off+1≤cs.length∧cf P 120 (#[vp (some p),vi d]) I4 ((b,nO s t u v w x n o q y)::(ac,nO f g h i j k a c e l)::(((ae.add 3).block,Obj.cells (cj (ae.add 3).off [vi (IntKind.wrap .i64 (m2+1))] cs).toArray el (0,0))::F5)) fun e4 I5 G4=>∃(af ag ah ai aj:Int) (ak:Bs) (z:OA) (aa ab:Nat) (al:Int),e4=.returned (nV af ag ah ai aj ak z aa ab al)∧∃F6:b8,List.Perm G4 ((b,nO s t u v w x n o q y)::(ac,nO f g h i j k a c e l)::F6)∧∀aJ:Nat,dg P 121 #[.int .u8 18,vi au,nV f g h i j k a c e l,nV af ag ah ai aj ak z aa ab al] I5 ((b,nO s t u v w x n o q y)::(ac,nO f g h i j k a c e l)::(aJ,nO af ag ah ai aj ak z aa ab al)::·) F6 fun e5 I6 G5=>∃(av aw ax ay az:Int) (aA:Bs) (am:OA) (an ao:Nat) (aB:Int),e5=.returned (nV av aw ax ay az aA am an ao aB)∧G5 fun F7=>(∃m3:Nat,m3<m1∧Inv5 s t u v w x n o q y av aw ax ay az aA am an ao aB m3 I6 F7)))
theorem gZ.vc{p:Addr}{d:Int}{I:cc}{F:b8}{Q:cd}(Inv5:Int→Int→Int→Int→Int→Bs→OA→Nat→Nat→Int→Int→Int→Int→Int→Int→Bs→OA→Nat→Nat→Int→Nat→cc→b8→Prop)(h:gZ.V (fun k o t n f s a l c q=>.agg #[.int .u8 k,.int .u8 o,.int .u8 t,.int .i64 n,.int .u8 f,.string s,.slice a l c,.int .i64 q]) (fun k o t n f s a l c q=>.cells #[.int .u8 k,.int .u8 o,.int .u8 t,.int .i64 n,.int .u8 f,.string s,.slice a l c,.int .i64 q] 28 (0,0)) (.int .i64) .pointer p d I F Q Inv5):cf P 85 #[.pointer (some p),.int .i64 d] I F Q :=
 tw (A:=(cK [3001] [] [86,88,120,121] k9 [(5,⟨[],[(0,[(.int .u8),(.int .u8),(.int .u8),(.int .i64),(.int .u8),.str,.slc,(.int .i64)]),(1,[(.int .u8),(.int .u8),(.int .u8),(.int .i64),(.int .u8),.str,.slc,(.int .i64)])],fun _ _ _ vs m I F=>match vs with | [.int _ y0,.int _ y1,.int _ y2,.int _ y3,.int _ y4,.string y5,.slice y6 y7 y8,.int _ y9,.int _ y10,.int _ y11,.int _ y12,.int _ y13,.int _ y14,.string y15,.slice y16 y17 y18,.int _ y19]=>Inv5 y0 y1 y2 y3 y4 y5 y6 y7 y8 y9 y10 y11 y12 y13 y14 y15 y16 y17 y18 y19 m I F | _=>False,[],[]⟩)] [] [] [] [] [] [])) [86,88,120,121] func85 h
def fN.V(nV:Int→Int→Int→Int→Int→Bs→OA→Nat→Nat→Int→Value)(nO:Int→Int→Int→Int→Int→Bs→OA→Nat→Nat→Int→Obj)(vb vi:Int→Value)(vs:Bs→Value)(vp:OA→Value)(p:Addr)(d:Int)(I:cc)(F:b8)(Q:cd)  : Prop:=∀b:Nat,dg P 85 (#[vp (some p),vi d]) I ((b,nO 0 0 0 0 0 (⟨#[]⟩:Bs) none 0 0 0)::·) F fun e1 I1 G1=>∃(f g h i j:Int) (k:Bs) (a:OA) (c e:Nat) (l:Int),e1=.returned (nV f g h i j k a c e l)∧G1 fun F1=>∀s:Nat,cy P 86 (#[vp (some p),vs (⟨#[63]⟩:Bs)]) I1 ((b,nO 0 0 0 0 0 (⟨#[]⟩:Bs) none 0 0 0)::(s,nO f g h i j k a c e l)::·) F1 .bool fun r I2 F2=>(It (!r) (Q (.returned (nV f g h i j k a c e l)) I2 F2) (cy P 87 (#[vp (some p),vi d]) I2 ((b,nO 0 0 0 0 0 (⟨#[]⟩:Bs) none 0 0 0)::(s,nO f g h i j k a c e l)::·) F2 .bool fun r1 I3 F3=>(It (!r1) (Q (.returned (nV 0 0 0 0 0 (⟨#[]⟩:Bs) none 0 0 0)) I3 F3) (dg P 88 (#[vp (some p)]) I3 ((b,nO 0 0 0 0 0 (⟨#[]⟩:Bs) none 0 0 0)::(s,nO f g h i j k a c e l)::·) F3 fun e4 I4 G4=>∃(ao:Int) (ap:Bs) (aq ar ag:Int),e4=.returned (.agg #[vb ao,vs ap,vb aq,vi ar,vi ag])∧G4 fun F4=>∃ad:Addr,some p=some ad∧∃(m:Int),Rd I4 ((b,nO 0 0 0 0 0 (⟨#[]⟩:Bs) none 0 0 0)::(s,nO f g h i j k a c e l)::F4) (ad.add 3) [vi m]∧∃aa:Addr,some p=some aa∧∃(cs:List Value) (el:Nat) (F5:b8),List.Perm F4 (((aa.add 3).block,Obj.cells cs.toArray el (0,0))::F5)∧(aa.add 3).spot=none∧(aa.add 3).off+1≤cs.length∧cf P 53 (#[vp (some p),vi (IntKind.wrap .i64 (d+1))]) I4 ((b,nO 0 0 0 0 0 (⟨#[]⟩:Bs) none 0 0 0)::(s,nO f g h i j k a c e l)::(((aa.add 3).block,Obj.cells (cj (aa.add 3).off [vi (IntKind.wrap .i64 (m+1))] cs).toArray el (0,0))::F5)) fun e5 I5 G5=>∃(t u v w x:Int) (y:Bs) (n:OA) (o q:Nat) (z:Int),e5=.returned (nV t u v w x y n o q z)∧∃F6:b8,List.Perm G5 ((b,nO 0 0 0 0 0 (⟨#[]⟩:Bs) none 0 0 0)::(s,nO f g h i j k a c e l)::F6)∧∀af:Nat,cy P 89 (#[vp (some p),vs (⟨#[58]⟩:Bs)]) I5 ((b,nO 0 0 0 0 0 (⟨#[]⟩:Bs) none 0 0 0)::(s,nO f g h i j k a c e l)::(af,nO t u v w x y n o q z)::·) F6 vi fun r2 I6 F7=>dg P 53 (#[vp (some p),vi (IntKind.wrap .i64 (d+1))]) I6 ((b,nO 0 0 0 0 0 (⟨#[]⟩:Bs) none 0 0 0)::(s,nO f g h i j k a c e l)::(af,nO t u v w x y n o q z)::·) F7 fun e7 I7 G7=>∃(ah ai aj ak al:Int) (am:Bs) (ab:OA) (ac ae:Nat) (an:Int),e7=.returned (nV ah ai aj ak al am ab ac ae an)∧G7 fun F8=>∀au:Nat,∀(b1:Nat) (I8:cc),cc.le I7 I8→I8 b1=some (Obj.cells #[vb f,vb g,vb h,vi i,vb j,vs k,.slice a c e,vi l,vb t,vb u,vb v,vi w,vb x,vs y,.slice n o q,vi z,vb ah,vb ai,vb aj,vi ak,vb al,vs am,.slice ab ac ae,vi an] 28 (0,0))→Q (.returned (nV 7 0 0 0 0 (⟨#[]⟩:Bs) (some ⟨b1,0,none⟩) 3 3 ag)) I8 F8))))
theorem fN.vc{p:Addr}{d:Int}{I:cc}{F:b8}{Q:cd}  (h:fN.V (fun k o t n f s a l c q=>.agg #[.int .u8 k,.int .u8 o,.int .u8 t,.int .i64 n,.int .u8 f,.string s,.slice a l c,.int .i64 q]) (fun k o t n f s a l c q=>.cells #[.int .u8 k,.int .u8 o,.int .u8 t,.int .i64 n,.int .u8 f,.string s,.slice a l c,.int .i64 q] 28 (0,0)) (.int .u8) (.int .i64) .string .pointer p d I F Q):cf P 53 #[.pointer (some p),.int .i64 d] I F Q :=
 tw (A:=(cK [3001,6001] [] [53,85,86,87,88,89] k9 [] [13003] [] [] [] [] [])) [53,85,86,87,88,89] func53 h
def pS.V(vb vi:Int→Value)(o h i j k l m:Int)(n:Bs)(a:OA)(c d:Nat)(p q r s t u:Int)(v:Bs)(e:OA)(f g:Nat)(w:Int)(I:cc)(F:b8)(Q:cd)  : Prop:=∀x:Nat,∀y:Nat,∀b:Nat,∀(b1:Nat) (I1:cc),cc.le I I1→I1 b1=some (Obj.cells #[vb i,vb j,vb k,vi l,vb m,.string n,.slice a c d,vi p,vb q,vb r,vb s,vi t,vb u,.string v,.slice e f g,vi w] 28 (0,0))→Q (.returned (.agg #[vb 6,vb o,vb 0,vi 0,vb 0,.string (⟨#[]⟩:Bs),.slice (some ⟨b1,0,none⟩) 2 2,vi h])) I1 (F)
theorem pS.vc{o g i j k l m:Int}{n:Bs}{a:OA}{b c:Nat}{p q r s t u:Int}{v:Bs}{d:OA}{e f:Nat}{w:Int}{I:cc}{F:b8}{Q:cd}  (h:pS.V (.int .u8) (.int .i64) o g i j k l m n a b c p q r s t u v d e f w I F Q):cf P 121 #[.int .u8 o,.int .i64 g,.agg #[.int .u8 i,.int .u8 j,.int .u8 k,.int .i64 l,.int .u8 m,.string n,.slice a b c,.int .i64 p],.agg #[.int .u8 q,.int .u8 r,.int .u8 s,.int .i64 t,.int .u8 u,.string v,.slice d e f,.int .i64 w]] I F Q :=
 tw (A:=(cK [] [] [] k9 [] [1003] [] [] [] [] [])) [] func121 h
end Go.Lx
namespace Go.Lx
open Go.Vc
section
variable {c:PC} {s:PS}
theorem se:s.inc.next=s.next+1:=rfl
theorem rk(e:Int):(c.c5 e s).next=s.next:=by
 unfold PC.c5;split
 ·rfl
 ·split<;>rfl
theorem Ak(d:Int):(c.cQ d s).next=s.next:=by
 unfold PC.cQ;split
 ·exact rk _
 ·rfl
theorem th(n m:Nat):(c.many n m s).next=s.next:=by
 unfold PC.many;split
 ·exact rk _
 ·rfl
theorem vW{e:Int}(he:e≠0)(hl:s.next<c.l.length):(c.c5 e s).over=true:=by
 unfold PC.c5
 split
 ·assumption
 ·rw[if_neg (by omega)]
  simpa[PS.over] using he
theorem iu{d:Int}(hl:s.next<c.l.length)(h:(c.cQ d s).over=false):d+1≤24∧c.cQ d s=s:=by
 unfold PC.cQ at h ⊢
 split
 ·rename_i hd
  rw[if_pos hd,vW (by decide) hl] at h
  cases h
 ·rename_i hd
  exact⟨by omega,rfl⟩
theorem lK{n m:Nat}(hl:s.next<c.l.length)(h:(c.many n m s).over=false):n<m∧c.many n m s=s:=by
 unfold PC.many at h ⊢
 split
 ·rename_i hd
  rw[if_pos hd,vW (by decide) hl] at h
  cases h
 ·rename_i hd
  exact⟨by omega,rfl⟩
def Up(c:PC)(s s':PS):Prop:=s.next≤s'.next∧(s.next≤c.l.length→s'.next≤c.l.length)
theorem Up.refl:Up c s s:=⟨Nat.le_refl _,fun h=>h⟩
theorem Up.trans{a b d:PS}(h:Up c a b)(h':Up c b d):Up c a d:=⟨Nat.le_trans h.1 h'.1,fun h0=>h'.2 (h.2 h0)⟩
theorem Up.inc(hl:s.next<c.l.length):Up c s s.inc:=⟨Nat.le_succ _,fun _=>hl⟩
theorem Up.of_eq{s':PS}(h:s'.next=s.next):Up c s s':=⟨by omega,fun _=>by omega⟩
theorem Up.c5(e:Int):Up c s (c.c5 e s):=.of_eq (rk e)
theorem Up.cQ(d:Int):Up c s (c.cQ d s):=.of_eq (Ak d)
theorem Up.many(n m:Nat):Up c s (c.many n m s):=.of_eq (th n m)
theorem Up.take(w:ByteArray):Up c s (c.take w s).2:=by
 unfold PC.take;split
 ·rename_i h;exact .inc (eb h)
 ·exact .c5 _
theorem Up.name:Up c s (c.name s).2:=by
 unfold PC.name;split
 ·rename_i h;exact .inc (mj (by rw[h];decide))
 ·exact .c5 _
theorem Up.literal:Up c s (c.literal s).2:=by
 unfold PC.literal
 split
 ·rename_i h;exact .inc (mj (by rw[h];decide))
 ·split
  ·rename_i h;exact .inc (mj (by rw[h.1];decide))
  ·split
   ·rename_i h;exact .inc (mj (by rw[h.1];decide))
   ·exact .refl
end
def dW(c:PC){α:Type}(f:PS→α×PS):Prop:=∀s,Up c s (f s).2
section
variable {c:PC} {nx:Lv} (hx:dW c nx.ex) (hu:dW c nx.un)
include hx
theorem Up.kids:∀(n:Nat) (f:Bool) (s:PS),Up c s (c.o6 nx n f s).2
 | 0,f,s=>.refl
 | n+1,f,s=>by
   rw[PC.o6]
   refine Up.trans ?_ (Up.kids n false _)
   refine Up.trans ?_ (hx _)
   split
   ·exact .refl
   ·exact .take _
theorem Up.call{d kind oper cO pos:Int}{many:Nat}{s:PS}(hl:s.next<c.l.length):Up c s (c.call nx d kind oper cO pos many s).2:=by
 unfold PC.call
 split
 ·exact .cQ _
 ·rename_i h
  obtain⟨_,he⟩:=iu hl (by simpa using h)
  rw[he]
  exact ((Up.inc hl).trans (.take _)).trans ((Up.kids hx _ _ _).trans (.take _))
theorem Up.rest(d:Int):dW c (c.rest nx d):=fun s=>by
 unfold PC.rest
 split
 ·rename_i h
  have hl:=eb h
  split
  ·exact (Up.inc hl).trans (.c5 _)
  ·rename_i h2
   exact (Up.inc hl).trans (.inc (ed (Int.not_lt.1 h2)).1)
 ·split
  ·rename_i h
   have hl:=eb h
   split
   ·exact .cQ _
   ·rename_i h2
    obtain⟨_,he⟩:=iu hl (by simpa using h2)
    rw[he]
    exact (Up.inc hl).trans ((hx _).trans (.take _))
  ·exact .c5 _
theorem Up.one(d:Int):dW c (c.one nx d):=fun s=>by
 unfold PC.one
 split
 ·exact .literal
 ·split
  ·rename_i h;exact .inc (mj (by rw[h];decide))
  ·split
   ·rename_i h;exact .inc (ed h).1
   ·split
    ·rename_i h;exact .call hx (ed h).1
    ·split
     ·rename_i h;exact .call hx (ed h).1
     ·exact Up.rest hx d s
include hu
theorem Up.unary(d:Int):dW c (c.unary nx d):=fun s=>by
 unfold PC.unary
 split
 ·exact Up.one hx d s
 ·rename_i h
  have hl:=(ed (c:=c) (s:=s) (ws:=tS) (by omega)).1
  split
  ·exact .cQ _
  ·rename_i h2
   obtain⟨_,he⟩:=iu hl (by simpa using h2)
   rw[he]
   exact (Up.inc hl).trans (hu _)
end
theorem Up.jL{c:PC}{ws:List ByteArray}{o:Int}{sub:PS→Px×PS}(h:dW c sub):∀(m:Nat) (n:Px) (s:PS),Up c s (c.jL ws o sub m n s).2
 | 0,n,s=>.refl
 | m+1,n,s=>by
   rw[PC.jL]
   split
   ·exact .refl
   ·rename_i h2
    exact ((Up.inc (ed (Int.not_lt.1 h2)).1).trans (h _)).trans (Up.jL h m _ _)
theorem Up.loop{c:PC}{ws:List ByteArray}{o:Int}{sub:PS→Px×PS}(h:dW c sub):dW c (c.loop ws o sub):=fun s=>(h s).trans (.jL h _ _ _)
section
variable {c:PC} {nx:Lv} (hx:dW c nx.ex) (hu:dW c nx.un) (d:Int)
include hx hu
theorem Up.product:dW c (c.product nx d):=Up.loop (Up.unary hx hu d)
theorem Up.sum:dW c (c.sum nx d):=Up.loop (Up.product hx hu d)
theorem Up.compare:dW c (c.compare nx d):=fun s=>by
 unfold PC.compare
 have h1:=Up.sum hx hu d s
 show Up c s (if c.any yB (c.sum nx d s).2<0 then c.sum nx d s else _).2
 split
 ·exact h1
 ·rename_i h2
  exact (h1.trans (.inc (ed (Int.not_lt.1 h2)).1)).trans (Up.sum hx hu d _)
theorem Up.and:dW c (c.and nx d):=Up.loop (Up.compare hx hu d)
theorem Up.or:dW c (c.or nx d):=Up.loop (Up.and hx hu d)
theorem Up.expr:dW c (c.expr nx d):=fun s=>by
 unfold PC.expr
 have h1:=Up.or hx hu d s
 show Up c s (if c.lj _ (c.or nx d s).2 then _ else _:Px×PS).2
 split
 ·rename_i h2
  have hl:=eb h2
  show Up c s (if (c.cQ d (c.or nx d s).2).over then _ else _:Px×PS).2
  split
  ·exact h1.trans (.cQ _)
  ·rename_i h3
   obtain⟨_,he⟩:=iu hl (by simpa using h3)
   rw[he]
   exact h1.trans ((Up.inc hl).trans ((hx _).trans ((Up.take _).trans (hx _))))
 ·exact h1
end
theorem Up.lvl{c:PC}:∀(k:Nat) (d:Int),dW c (c.lvl k d).ex∧dW c (c.lvl k d).un
 | 0,d=>⟨Up.expr (fun s=>.refl) (fun s=>.refl) d,Up.unary (fun s=>.refl) (fun s=>.refl) d⟩
 | k+1,d=>⟨Up.expr (Up.lvl k (d+1)).1 (Up.lvl k (d+1)).2 d,Up.unary (Up.lvl k (d+1)).1 (Up.lvl k (d+1)).2 d⟩
theorem Up.iA{c:PC}:dW c c.iA:=(Up.lvl 24 0).1
def fO(q:PQ)(b:Nat)(F0:b8)(r:Px×PS)(e:Ending)(I:cc)(G:b8):Prop:=∃t:Nd,e=.returned t.v∧t.px=r.1∧cC I [] t∧G.Perm (q.cr b r.2::F0)
def Al(q:PQ)(b:Nat)(F0:b8)(r:Px×PS)(e:Ending)(I:cc)(G:b8):Prop:=∃(t:Nd) (A:b8),e=.returned t.v∧t.px=r.1∧(Acc 8 Nd.enc 28 t.a t.kids.length t.c t.kids A∨A=[]∧dq I [] 8 Nd.enc t.a t.kids.length t.kids)∧(∀k∈t.kids,cC I [] k)∧G.Perm (q.cr b r.2::(A++F0))
theorem Al.keep{f:Nat}{args:Array Value}{I:cc}{F F0:b8}{q:PQ}{b:Nat}{r:Px×PS}(h:cf P f args I F (Al q b F0 r)):cf P f args I F (fO q b F0 r):=by
 refine h.keep fun e I' G w hl hs ⟨t,A,he,px,hA,hk,hG⟩=>?_
 rcases hA with hA | ⟨rfl,hA⟩
 ·obtain⟨J,h1,h2,h3⟩:=Acc.keep (z:=8) (f:=Nd.enc) Nd.nq hA (hs.perm (hG.trans (cT fun z=>by simp only[cS,di];omega):G.Perm (A++(q.cr b r.2::F0))))
  exact⟨J,_,h1,h2,t,he,px,.mk (h3.yr []) fun k hkm=>(hk k hkm).mono h1 fun _ h=>h,.refl _⟩
 ·exact⟨I',G,cc.le_refl _,hs,t,he,px,.mk hA hk,hG⟩
theorem fO.own{q:PQ}{b:Nat}{F0:b8}{r:Px×PS}{e:Ending}{I:cc}{G:b8}(h:fO q b F0 r e I G):Al q b F0 r e I G:=by
 obtain⟨t,he,px,hok,hG⟩:=h
 exact⟨t,[],he,px,.inr ⟨rfl,hok.sl⟩,hok.IU,hG⟩
def ej(f:Nat)(q:PQ)(d:Int)(g:PS→Px×PS):Prop:=∀(b:Nat) (s:PS) (I:cc) (F F0:b8),q.ok I→s.next≤q.c.l.length→F.Perm (q.cr b s::F0)→cf P f #[.pointer (some ⟨b,0,none⟩),.int .i64 d] I F (fO q b F0 (g s))
theorem fO.nil{q:PQ}{b:Nat}{F0:b8}{r:Px×PS}{I:cc}{G:b8}{k o ty n f pos:Int}{s:ByteArray}(h:r.1=.mk k o ty n f s [] pos)(hG:G.Perm (q.cr b r.2::F0)):fO q b F0 r (.returned (Nd.mk k o ty n f s none 0 [] pos).v) I G :=
 ⟨_,rfl,by rw[h];simp only[Nd.px,Nd.BD],.leaf,hG⟩
theorem cC.Fk{I:cc}{b:Nat}{l:List Nd}(hb:I b=some (.cells (l.flatMap Nd.enc).toArray 28 (0,0)))(hk:∀k∈l,cC I [] k)(k o ty n f pos:Int)(s:ByteArray)(c:Nat):cC I [] (.mk k o ty n f s (some ⟨b,0,none⟩) c l pos):=by
 have hS:Sl I 8 Nd.enc (some ⟨b,0,none⟩) l.length l:=Sl.kU (f:=Nd.enc) (z:=8) Nd.nq hb (by simp)
 exact .mk (hS.yr []) hk
theorem Am(o pos:Int)(x y:Nd)(I:cc)(F:b8)(hx:cC I [] x)(hy:cC I [] y):cf P 121 #[.int .u8 o,.int .i64 pos,x.v,y.v] I F fun e I' G=>∃t:Nd,e=.returned t.v∧t.px=HQ o pos x.px y.px∧cC I' [] t∧G=F:=by
 refine pS.vc ?_
 unfold pS.V
 intro b_a b_b b b1 I1 l1 hb
 refine⟨.mk 6 o 0 0 0 ⟨#[]⟩ (some ⟨b1,0,none⟩) 2 [x,y] pos,rfl,by simp only[Nd.px,Nd.BD];rfl,cC.Fk hb (fun k hk=>?_) ..,rfl⟩
 rcases List.mem_cons.1 hk with rfl | hk
 ·exact hx.mono l1 fun _ h=>h
 ·rw[List.mem_singleton] at hk;subst hk;exact hy.mono l1 fun _ h=>h
end Go.Lx
