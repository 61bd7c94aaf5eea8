import Derived.Test.YtmbkaikdndflbaaGreatDoorCostStatesB6
set_option linter.unusedVariables false
set_option linter.unusedSimpArgs false
set_option linter.unusedSectionVars false
set_option maxRecDepth 100000
namespace Go.Vc
theorem cc.FK{I:cc}{b:Nat}{o:Obj}(h:I b=none):cc.le I (I.put b o):=⟨fun c x hc=>by
 have hne:c≠b:=fun e=>by rw[e,h] at hc;cases hc
 show (if c=b then some o else I c)=some x
 rw[if_neg hne];exact hc,rfl,rfl⟩
theorem cc.Iu{I I':cc}{b:Nat}{o:Obj}(hb:I b=none)(hl:cc.le (I.put b o) I'):cc.le I (I'.del b):=⟨fun x y hx=>by
 have hne:x≠b:=fun e=>by rw[e,hb] at hx;cases hx
 show (if x=b then none else I' x)=some y
 rw[if_neg hne]
 exact hl.at (by simp[cc.put,hne,hx]),hl.2.1,hl.2.2⟩
theorem cc.FL(I:cc)(b:Nat):I.del b b=none:=if_pos rfl
theorem rv{α:Type}(v w:α)(B:List α):∀A:List α,cj A.length [v] (A++w::B)=A++v::B
 | []=>by cases B<;>simp[cj]
 | a::A=>by rw[List.length_cons,List.cons_append,cj,rv v w B A];rfl
theorem cf.off{P:Program}{f:FuncId}{args:Array Value}{I:cc}{F:b8}{Q:Ending→cc→b8→Prop}(h:cf P f args I F Q):cf P f args I F fun e I' G=>Q e I' G∧∀b o,(b,o)∈G→I' b=none :=
 h.keep fun e I' G w hl hs hq=>⟨I',G,cc.le_refl I',hs,hq,fun b o hm=>hs.off b o hm⟩
end Go.Vc
namespace Go.Lx
open Go.Vc
abbrev C2:Type:=Int×Int
def kD(c:C2):List Value:=[.int .i64 c.1,.int .i64 c.2]
def cq.cost(x:cq):C2:=(x.steps,x.eO)
def cu.iz(s:cu):List C2:=s.states.map cq.cost
def Hn:Value:=.int .i64 0
theorem Iw(n:Nat):madeCells (Value.agg #[.int .i64 0,.int .i64 0]).cells n=(List.replicate n Hn).toArray:=by
 show madeCells #[Hn,Hn] n=_
 refine Array.ext (by rw[size_madeCells];simp) fun i h1 h2=>?_
 have:i % 2=0∨i % 2=1:=by omega
 rcases this with h | h<;>simp[madeCells,h]
theorem qg(m x:Int)(r:List Int):iB m (x::r)=iB (max m x) r:=rfl
theorem yZ:∀(l:List Int) (m:Int),m≤iB m l
 | [],m=>Int.le_refl m
 | x::r,m=>by have:=yZ r (max m x);rw[qg];omega
theorem za{B:Int}:∀(l:List Int) (m:Int),m≤B→(∀x∈l,x≤B)→iB m l≤B
 | [],m,h,_=>h
 | x::r,m,h,hl=>by rw[qg];exact za r _ (by have:=hl x (.head _);omega) fun y hy=>hl y (.tail _ hy)
theorem sC(x:cg):x.p.steps=ep (x.rules.map fun r=>r.when.px.wt)+iB 0 (x.rules.map fun r=>r.p.body):=by
 show ep ((x.rules.map cp.p).map fun r=>r.when.wt)+iB 0 ((x.rules.map cp.p).map cD.body)=_
 rw[List.map_map,List.map_map];rfl
theorem uI(x:cg):x.p.eO=iB 0 (x.rules.map fun r=>r.p.eO):=by
 show iB 0 ((x.rules.map cp.p).map cD.eO)=_
 rw[List.map_map];rfl
theorem cq.Sound.when{x:cg}(h:x.p.Sound):∀r∈x.rules,0≤r.when.px.wt∧r.when.px.wt≤2097152:=fun r hr=>by
 have h1:=h.rules r.p (List.mem_map_of_mem hr)
 have:=Px.jS r.when.px h1.when
 have:r.when.px.size≤1048576:=h1.size
 omega
theorem cq.Sound.range{x:cg}(h:x.p.Sound):(0≤x.p.steps∧x.p.steps≤100000000)∧0≤x.p.eO∧x.p.eO≤8:=by
 have h1:=iy (l:=x.rules.map fun r=>r.when.px.wt) fun w hw=>by obtain⟨r,hr,rfl⟩:=List.mem_map.1 hw;exact (h.when r hr).1
 have h2:=qc (B:=2097152) (l:=x.rules.map fun r=>r.when.px.wt) fun w hw=>by obtain⟨r,hr,rfl⟩:=List.mem_map.1 hw;exact (h.when r hr).2
 have h3:=yZ (x.rules.map fun r=>r.p.body) 0
 have h4:=za (B:=67108864) (x.rules.map fun r=>r.p.body) 0 (by decide) fun w hw=>by obtain⟨r,hr,rfl⟩:=List.mem_map.1 hw;exact (h.rules r.p (List.mem_map_of_mem hr)).body.2
 have h5:=yZ (x.rules.map fun r=>r.p.eO) 0
 have h6:=za (B:=8) (x.rules.map fun r=>r.p.eO) 0 (by decide) fun w hw=>by
  obtain⟨r,hr,rfl⟩:=List.mem_map.1 hw
  have:=r.p.ru
  have:=(h.rules r.p (List.mem_map_of_mem hr)).len
  omega
 have hl:=h.len
 have hl:x.rules.length≤12:=by simpa[cg.p] using hl
 rw[List.length_map] at h2
 rw[sC,uI]
 omega
def mf(s:cw)(i:Nat):List Value:=(s.states.take i).flatMap fun y=>kD y.p.cost
theorem mT(s:cw){i:Nat}(h:i≤s.states.length):(mf s i).length=i*2:=by
 unfold mf
 rw[jI (z:=2) (fun _=>rfl),List.length_take,Nat.min_eq_left h]
theorem Cu(s:cw){i:Nat}{y:cg}(h:s.states[i]? = some y):mf s (i+1)=mf s i++[.int .i64 y.p.steps,.int .i64 y.p.eO]:=by
 obtain⟨hk,hx⟩:=List.getElem?_eq_some_iff.1 h
 unfold mf
 rw[List.take_succ_eq_append_getElem hk,List.flatMap_append,hx]
 show _=_++_
 simp[kD,cq.cost]
def dM(s:cw)(i:Nat)(st ac:Int):List Value:=mf s i ++ .int .i64 st :: .int .i64 ac::List.replicate ((s.states.length-(i+1))*2) Hn
def mq(s:cw)(i:Nat):List Value:=mf s i++List.replicate ((s.states.length-i)*2) Hn
theorem Ep(s:cw){i:Nat}(h:i<s.states.length):mq s i=dM s i 0 0:=by
 unfold mq dM
 rw[show (s.states.length-i)*2=(s.states.length-(i+1))*2+1+1 by omega,List.replicate_succ,List.replicate_succ];rfl
theorem sD(s:cw){i:Nat}{y:cg}(h:s.states[i]? = some y):dM s i y.p.steps y.p.eO=mq s (i+1):=by
 unfold mq dM
 rw[Cu s h,List.append_assoc];rfl
theorem Cv(s:cw):mq s s.states.length=s.p.iz.flatMap kD:=by
 unfold mq mf cu.iz
 rw[List.take_length,Nat.sub_self,Nat.zero_mul,List.replicate_zero,List.append_nil]
 show _=((s.states.map cg.p).map cq.cost).flatMap kD
 rw[List.map_map,List.flatMap_map];rfl
theorem po(s:cw){i:Nat}(h:i<s.states.length)(st ac:Int):(dM s i st ac).length=s.states.length*2:=by
 unfold dM
 rw[List.length_append,mT s (by omega),List.length_cons,List.length_cons,List.length_replicate];omega
theorem qE(s:cw){i:Nat}(h:i<s.states.length)(st ac v:Int):cj (i*2) [.int .i64 v] (dM s i st ac)=dM s i v ac:=by
 unfold dM
 rw[←mT s (by omega),rv]
theorem zc(s:cw){i:Nat}(h:i<s.states.length)(st ac v:Int):cj (i*2+1) [.int .i64 v] (dM s i st ac)=dM s i st v:=by
 unfold dM
 have e:∀w:Int,mf s i ++ .int .i64 st :: .int .i64 w::List.replicate ((s.states.length-(i+1))*2) Hn=(mf s i++[.int .i64 st]) ++ .int .i64 w::List.replicate ((s.states.length-(i+1))*2) Hn:=fun w=>by rw[List.append_assoc];rfl
 rw[e,e,show i*2+1=(mf s i++[Value.int .i64 st]).length by rw[List.length_append,mT s (by omega)];rfl,rv]
theorem AU(s:cw){i:Nat}(h:i<s.states.length)(st ac:Int):(dM s i st ac)[i*2]? = some (.int .i64 st):=by
 unfold dM
 have hd:=mT s (i:=i) (by omega)
 rw[List.getElem?_append_right (by omega),show i*2-(mf s i).length=0 by omega];rfl
theorem AW(s:cw){i:Nat}(h:i<s.states.length)(st ac:Int):(dM s i st ac)[i*2+1]? = some (.int .i64 ac):=by
 unfold dM
 have hd:=mT s (i:=i) (by omega)
 rw[List.getElem?_append_right (by omega),show i*2+1-(mf s i).length=1 by omega];rfl
theorem wL(b n k:Nat):((⟨b,0,none⟩:Addr).add n).add k=⟨b,n+k,none⟩:=by rw[eD];unfold Addr.add;split<;>simp_all
abbrev oB(s:cw)(bl i:Nat)(st ac:Int):Nat×Obj:=(bl,.cells (dM s i st ac).toArray 57 (0,0))
theorem FM{s:cw}{bl i:Nat}{st ac:Int}(hi:i<s.states.length){I:cc}{G:b8}(h:I bl=some (oB s bl i st ac).2∨oB s bl i st ac∈G):Rd I G (⟨bl,i*2+0,none⟩:Addr) [.int .i64 st] :=
 ⟨rfl,_,_,_,h,fun j hj=>by
   have:j=0:=by simpa using hj
   subst this
   show (dM s i st ac).toArray[i*2+0+0]? = _
   rw[List.getElem?_toArray];exact AU s hi st ac⟩
theorem Ix{s:cw}{bl i:Nat}{st ac:Int}(hi:i<s.states.length){I:cc}{G:b8}(h:I bl=some (oB s bl i st ac).2∨oB s bl i st ac∈G):Rd I G (⟨bl,i*2+1,none⟩:Addr) [.int .i64 ac] :=
 ⟨rfl,_,_,_,h,fun j hj=>by
   have:j=0:=by simpa using hj
   subst this
   show (dM s i st ac).toArray[i*2+1+0]? = _
   rw[List.getElem?_toArray];exact AW s hi st ac⟩
theorem ya(f:cp→Int){l:List cp}{i:Nat}{x:cp}(h:l[i]? = some x):ep ((l.drop i).map f)=f x+ep ((l.drop (i+1)).map f):=by
 obtain⟨hk,hx⟩:=List.getElem?_eq_some_iff.1 h
 rw[List.drop_eq_getElem_cons hk,List.map_cons,ep,hx]
theorem qh(f:cp→Int){l:List cp}{i:Nat}{x:cp}(h:l[i]? = some x)(m:Int):iB m ((l.drop i).map f)=iB (max m (f x)) ((l.drop (i+1)).map f):=by
 obtain⟨hk,hx⟩:=List.getElem?_eq_some_iff.1 h
 rw[List.drop_eq_getElem_cons hk,List.map_cons,qg,hx]
theorem ry{s:cu}(h:s.types.e=0):s.check=0:=by
 unfold cu.types at h
 split at h
 ·rename_i hc;exact absurd h hc
 ·rename_i hc;exact Decidable.not_not.1 hc
def GV(s:cw)(F:b8)(e:Ending)(I:cc)(G:b8):Prop :=
 (s.p.types.e≠0∧∃v,e=.returned (.tuple #[.slice none 0 0,v])∧yU s.p.types v I∧G=F) ∨
 (s.p.types.e=0∧∃bl,e=.returned (.tuple #[.slice (some ⟨bl,0,none⟩) s.states.length s.states.length,.nilIface])∧G.Perm ((bl,.cells (s.p.iz.flatMap kD).toArray 57 (0,0))::F))
set_option maxHeartbeats 4000000 in
theorem qF(s:cw)(hl:s.p.oK){I:cc}{F:b8}(hok:s.Ok I F)(hg:Gl I):cf P 19 #[s.v] I F (GV s F):=by
 refine mb.vc
  (fun ps ra rn rc x m I0 F0 I' F'=>0≤x∧x≤s.states.length∧m=(s.states.length-x).toNat∧s.p.types.e=0∧∃bl,ra=some (⟨bl,0,none⟩:Addr)∧rn=s.states.length∧rc=s.states.length∧F'.Perm ((bl,.cells (mq s x.toNat).toArray 57 (0,0))::F))
  (fun ps ra rn rc x px most k m I0 F0 I' F'=>∃y,s.states[x.toNat]? = some y∧0≤k∧k≤y.rules.length∧m=(y.rules.length-k).toNat∧∃(bl:Nat) (st ac:Int),ra=some (⟨bl,0,none⟩:Addr)∧F'.Perm (oB s bl x.toNat st ac::F) ∧
    0≤st∧st≤2097152*k∧(0≤most∧most≤67108864)∧(0≤ac∧ac≤8)∧st+ep ((y.rules.drop k.toNat).map fun r=>r.when.px.wt)+iB most ((y.rules.drop k.toNat).map fun r=>r.p.body)=y.p.steps∧iB ac ((y.rules.drop k.toNat).map fun r=>r.p.eO)=y.p.eO) ?_
 unfold mb.V
 intro b_s
 refine cf.jQ (yV s hl (hok.cons (x:=(c6 b_s s))) hg) fun v I1 l1 hv=>⟨v,rfl,F,.refl _,_,fQ.neq hv (by kernel_rfl),fun hq=>?_,fun hq=>?_⟩
 ·exact .inl ⟨by simpa using hq,v,rfl,hv,rfl⟩
 have hq:s.p.types.e=0:=by simpa using hq
 have hs:=cu.sound (ry hq) hl
 have hn:s.states.length≤12:=by have:=hs.len;simpa[cw.p] using this
 refine cF.mono (ji (e:=57) (z:=2) (by':=16) (zv:=.agg #[.int .i64 0,.int .i64 0]) (by kernel_rfl) (by kernel_rfl) (by omega) (Int.le_refl _) (by omega) (by omega)) fun v2 I2 G l2 ⟨bl,cs,hv2,hcl,hcs,hI,hG⟩=>?_
 rw[Iw] at hcs
 subst hG
 have hcs:cs=mq s 0:=by
  have h:cs=List.replicate ((s.states.length:Int).toNat*2) Hn:=by have:=congrArg Array.toList hcs;simpa using this
  rw[h];unfold mq mf;simp
 subst hcs
 have htn:(s.states.length:Int).toNat=s.states.length:=by omega
 rw[htn] at hv2
 have l02:=cc.le_trans l1 l2
 refine⟨_,_,_,hv2,(bl,.cells (mq s 0).toArray 57 (0,0))::F,.swap ..,⟨_,by omega,by omega,rfl,hq,bl,rfl,rfl,rfl,.refl _⟩,fun x m I3 F3 l3 ⟨g0,g1,gm,_,bl',hbl,_,_,gF⟩=>⟨fun hlt=>?_,fun hlt=>?_⟩⟩
 ·obtain rfl:bl=bl':=by simpa using hbl
  have hlt:=of_decide_eq_true hlt
  have hxn:x.toNat<s.states.length:=by omega
  have l03:=cc.le_trans l02 l3
  have hsub:∀y,y∈F→y∈F3:=fun y hy=>gF.mem_iff.2 (.tail _ hy)
  obtain⟨ad,y,had,hy,hrd,hym⟩:=dq.gj ((hok.mono l03 hsub).cons (x:=(c6 b_s s))).states g0 hlt
  have hyo:=hok.state y hym
  have hys:=hs.states y.p (List.mem_map_of_mem hym)
  have hyl:y.rules.length≤12:=by have:=hys.len;simpa[cg.p] using this
  have hyr:=hys.range
  rw[Ep s hxn] at gF
  refine⟨⟨g0,hlt⟩,ad,had,_,_,_,_,_,hrd,fun b_x=>⟨fun h=>?_,fun h=>⟨⟨_,y,hy,by omega,by omega,rfl,bl,0,0,rfl,gF,by omega,by omega,by omega,by omega, ?_, ?_⟩,fun most k m4 I4 F4 l4 ⟨y',hy',k0,k1,km,bl',st,ac,hbl',kF,s0,s1,mo,a0,ks,ka⟩=>⟨fun hk=>?_,fun hk=>?_⟩⟩⟩⟩
  ·have h0:(y.rules.length:Int)=0:=by simpa using h
   have hr0:y.rules=[]:=List.length_eq_zero_iff.1 (by omega)
   refine⟨(s.states.length-(x+1)).toNat,by omega, ?_⟩
   rw[cY (n:=x+1) (by omega)]
   refine⟨by omega,by omega,rfl,hq,bl,rfl,rfl,rfl, ?_⟩
   have e1:y.p.steps=0:=by rw[sC,hr0];rfl
   have e2:y.p.eO=0:=by rw[uI,hr0];rfl
   have:=sD s hy
   rw[e1,e2] at this
   rw[show (x+1).toNat=x.toNat+1 by omega,←this];exact gF
  ·rw[sC];show 0+_+_=_;rw[Int.zero_add];rfl
  ·rw[uI];rfl
  ·obtain rfl:y=y':=by rw[hy] at hy';exact Option.some.inj hy'
   obtain rfl:bl=bl':=by simpa using hbl'
   have hk:=of_decide_eq_true hk
   have l04:=cc.le_trans l03 l4
   have sub4:∀z,z∈F→z∈F4:=fun z hz=>kF.mem_iff.2 (.tail _ hz)
   obtain⟨ad1,r,had1,hr,hrd1,hrm⟩:=dq.gj (((hyo.mono l04 sub4).cons (x:=(fU b_x y))).cons (x:=(c6 b_s s))).1 k0 hk
   have hro:=hyo.2 r hrm
   have hrs:=hys.rules r.p (List.mem_map_of_mem hrm)
   have hrw:=hys.when r hrm
   have hbd:=hrs.body
   have hra:=r.p.ru
   have hrl:=hrs.len
   have hrl:r.dos.length≤8:=by simpa[cp.p] using hrl
   have hrp:r.p.dos.length=r.dos.length:=by simp[cp.p]
   refine⟨⟨k0,hk⟩,ad1,had1,_,_,_,_,_,_,_,_,_,_,_,_,_,_,hrd1,fun b_r b_sum=>?_⟩
   refine cf.perm (F:=(b_sum,.cells #[.int .i64 0] 3 (0,0))::(c6 b_s s)::(fU b_x y)::(kg b_r r)::F4) ((Eo r (hro.mono l04 fun z hz=>.tail _ (.tail _ (.tail _ (sub4 z hz)))) hrs b_sum 0 (by omega) (by omega)).mono fun e I5 G5 l5 ⟨he,hG5⟩=>?_) (cT fun z=>by simp only[kg,fU,c6,di,cS,dp];omega)
   refine⟨he,0+r.p.body,F4,by rw[hG5];exact (cT fun z=>by simp only[kg,fU,c6,di,cS,dp];omega),fun b I6 l6 hb6=>?_⟩
   have hbody:(0:Int)+r.p.body=r.p.body:=Int.zero_add _
   rw[hbody] at hb6 hG5 ⊢
   refine (gE most r.p.body hb6).off.mono fun e I7 G7 l7 ⟨⟨he,hG7⟩,hoff⟩=>?_
   refine⟨_,he,F4,by rw[hG7],bl,(oB s bl x.toNat st ac).2,F,kF,⟨g0,hlt⟩,_,rfl,ac, ?_, ?_⟩
   ·rw[wL];exact Ix hxn (.inl (cc.kJ _ _ _))
   have hn7:I7 bl=none:=hoff bl _ (by rw[hG7];exact .tail _ (.tail _ (.tail _ (.tail _ (kF.mem_iff.2 (.head _))))))
   have l07:=cc.le_trans l04 (cc.le_trans l5 (cc.le_trans l6 l7))
   have l7p:cc.le I7 (I7.put bl (oB s bl x.toNat st ac).2):=cc.FK hn7
   refine cf.ret (AR r (hro.mono (cc.le_trans l07 l7p) fun z hz=>.tail _ (.tail _ (.tail _ (.tail _ hz)))) (by omega)) fun I8 l8=>⟨_,rfl,F,.refl _,fun b1 I9 l9 hb1=>cf.ret (gE ac r.p.eO hb1) fun I10 l10=>⟨_,rfl,F,.refl _,⟨g0,hlt⟩,_,rfl,dM s x.toNat st ac,57,F, ?_⟩⟩
   have l7d:cc.le I7 (I10.del bl):=cc.Iu hn7 (cc.le_trans l8 (cc.le_trans l9 l10))
   rw[wL]
   refine⟨.refl _,rfl,by rw[po s hxn];show x.toNat*2+1+1≤_;omega,bl,(oB s bl x.toNat st (max ac r.p.eO)).2,F, ?_,⟨g0,hlt⟩,_,rfl,st, ?_, ?_⟩
   ·show List.Perm ((bl,Obj.cells (cj (x.toNat*2+1) _ _).toArray _ _)::F) _
    rw[zc s hxn]
   ·rw[wL];exact FM hxn (.inl (cc.kJ _ _ _))
   have l7q:cc.le I7 ((I10.del bl).put bl (oB s bl x.toNat st (max ac r.p.eO)).2):=cc.le_trans l7d (cc.FK (cc.FL _ _))
   have hsz:=hrs.size
   have hsz:r.when.px.size≤1048576:=hsz
   refine cf.ret (pk r.when (by omega) hrs.when _ _ (hro.1.mono (cc.le_trans l07 l7q) fun z hz=>.tail _ (.tail _ (.tail _ (.tail _ hz))))) fun I11 l11=>⟨_,rfl,F,.refl _,⟨g0,hlt⟩,_,rfl,dM s x.toNat st (max ac r.p.eO),57,F, ?_⟩
   rw[wL]
   refine⟨.refl _,rfl,by rw[po s hxn];show x.toNat*2+0+1≤_;omega,(y.rules.length-(k+1)).toNat,by omega, ?_⟩
   rw[cY (n:=k+1) (by omega),cY (n:=st+r.when.px.wt) (by omega)]
   refine⟨y,hy,by omega,by omega,rfl,bl,st+r.when.px.wt,max ac r.p.eO,rfl, ?_,by omega,by omega,by omega,by omega, ?_, ?_⟩
   ·show List.Perm ((bl,Obj.cells (cj (x.toNat*2) _ _).toArray _ _)::F) _
    rw[qE s hxn]
   ·rw[ya _ hr,qh _ hr] at ks
    rw[show (k+1).toNat=k.toNat+1 by omega,←ks];omega
   ·rw[qh _ hr] at ka
    rw[show (k+1).toNat=k.toNat+1 by omega,←ka]
  ·obtain rfl:y=y':=by rw[hy] at hy';exact Option.some.inj hy'
   obtain rfl:bl=bl':=by simpa using hbl'
   have hk:=of_decide_eq_false hk
   rw[List.drop_eq_nil_of_le (by omega)] at ks ka
   have ks:st+0+most=y.p.steps:=ks
   have ka:ac=y.p.eO:=ka
   refine⟨⟨g0,hlt⟩,_,rfl,st, ?_,⟨g0,hlt⟩,_,rfl,dM s x.toNat st ac,57,F, ?_⟩
   ·rw[wL];exact FM hxn (.inr (.tail _ (.tail _ (kF.mem_iff.2 (.head _)))))
   rw[wL]
   refine⟨kF,rfl,by rw[po s hxn];show x.toNat*2+0+1≤_;omega,(s.states.length-(x+1)).toNat,by omega, ?_⟩
   rw[cY (n:=x+1) (by omega),cY (n:=st+most) (by omega)]
   refine⟨by omega,by omega,rfl,hq,bl,rfl,rfl,rfl, ?_⟩
   show List.Perm ((bl,Obj.cells (cj (x.toNat*2) _ _).toArray _ _)::F) _
   rw[qE s hxn,ka,show st+most=y.p.steps by omega,sD s hy,show (x+1).toNat=x.toNat+1 by omega]
 ·obtain rfl:bl=bl':=by simpa using hbl
  have hlt:=of_decide_eq_false hlt
  rw[show x.toNat=s.states.length by omega,Cv] at gF
  exact .inr ⟨hq,bl,rfl,gF⟩
def cu.top(s:cu):C2:=(iB 0 (s.iz.map Prod.fst),iB 0 (s.iz.map Prod.snd))
def cu.cost(s:cu):C2×TF:=if s.types.e≠0 then ((0,0),s.types) else if 500<s.top.1 then ((0,0),⟨160,0,false⟩) else (s.top,sK)
def zd:ByteArray:=⟨#[83,116,114,97,116,101,103,121]⟩
def FN(s:cu)(I:cc)(w:Value):Prop:=if s.types.e≠0 then fQ I s.types w else if 500<s.top.1 then A8 I zd 0 (pg 160) w else w=.nilIface
def GW(s:cw)(F:b8)(e:Ending)(I:cc)(G:b8):Prop :=
 (s.p.types.e≠0∧∃v,e=.returned (.tuple #[.slice none 0 0,v])∧yU s.p.types v I∧G=F) ∨
 (s.p.types.e=0∧∃bl,e=.returned (.tuple #[.slice (some ⟨bl,0,none⟩) s.states.length s.states.length,.nilIface])∧Sl I 2 kD (some ⟨bl,0,none⟩) s.states.length s.p.iz∧G=F)
theorem kI(s:cw):s.p.iz.length=s.states.length:=by simp[cu.iz,cw.p]
theorem lg(s:cw)(hl:s.p.oK){I:cc}{F:b8}(hok:s.Ok I F)(hg:Gl I):cf P 19 #[s.v] I F (GW s F) :=
 (qF s hl hok hg).keep fun e I' G w l1 hs hq=>by
   rcases hq with ⟨he,v,h1,h2,h3⟩ | ⟨he,bl,h1,h2⟩
   ·exact⟨I',G,cc.le_refl I',hs,.inl ⟨he,v,h1,h2,h3⟩⟩
   ·obtain⟨k1,k2⟩:=(hs.perm h2).lp
    refine⟨_,F,k1,k2,.inr ⟨he,bl,h1, ?_,rfl⟩⟩
    rw[←kI s]
    exact Sl.mD (f:=kD) (z:=2) (fun _=>rfl) (cc.kJ _ _ _) fun k hk=>by rw[List.getElem?_toArray]
theorem Er(f:C2→Int){l:List C2}{i:Nat}{x:C2}(h:l[i]? = some x)(m:Int):iB m ((l.drop i).map f)=iB (max m (f x)) ((l.drop (i+1)).map f):=by
 obtain⟨hk,hx⟩:=List.getElem?_eq_some_iff.1 h
 rw[List.drop_eq_getElem_cons hk,List.map_cons,qg,hx]
set_option maxHeartbeats 2000000 in
theorem uo(s:cw)(hl:s.p.oK){I:cc}{F:b8}(hok:s.Ok I F)(hg:Gl I):cf P 24 #[s.v] I F (ll (fun v J=>∃w,v=.tuple #[.agg #[.int .i64 s.p.cost.1.1,.int .i64 s.p.cost.1.2],w]∧FN s.p J w) F):=by
 refine cf.still (jE.vc (fun ps ra rn rc pc x c0 c1 m I0 F0 I' F'=>F'=F∧0≤x∧x≤s.states.length∧m=(s.states.length-x).toNat∧s.p.types.e=0∧iB c0 ((s.p.iz.drop x.toNat).map Prod.fst)=s.p.top.1∧iB c1 ((s.p.iz.drop x.toNat).map Prod.snd)=s.p.top.2) ?_)
 unfold jE.V
 intro b_s b
 refine (lg s hl (hok.mono (cc.le_refl I) fun y hy=>.tail _ (.tail _ hy)) hg).mono fun e I1 G l1 hq=>?_
 rcases hq with ⟨he,v,h1,hv,hG⟩ | ⟨he,bl,h1,hS,hG⟩
 ·subst hG
  refine⟨_,_,_,v,h1,F,.refl _,_,fQ.neq hv (by kernel_rfl),fun hq=>⟨_,[],rfl,.refl _,fun J hJ hx=>⟨v, ?_, ?_⟩⟩,fun hq=>absurd he (by simpa using hq)⟩
  ·unfold cu.cost;rw[if_pos he]
  ·unfold FN;rw[if_pos he];exact fQ.mono hv hJ
 ·subst hG
  have hs:=cu.sound (ry he) hl
  have hn:s.states.length≤12:=by have:=hs.len;simpa[cw.p] using this
  have hcl:=kI s
  refine⟨_,_,_,_,h1,F,.refl _,false,yN (by kernel_rfl),fun h=>(by cases h),fun _ b_c=>⟨⟨_,rfl,by omega,by omega,rfl,he,rfl,rfl⟩,fun x c0 c1 m I2 F2 l2 ⟨gF,g0,g1,gm,_,gs,ga⟩=>⟨fun hlt=>?_,fun hlt=>⟨fun hc=>?_,fun hc=>?_⟩⟩⟩⟩
  ·subst gF
   have hlt:=of_decide_eq_true hlt
   obtain⟨ad,c,had,hc,hrd,hcm⟩:=dq.gj ((hS.mono l2).yr ((c6 b_s s)::(b,.cells #[.int .i64 0,.int .i64 0] 57 (0,0))::(b_c,.cells #[.int .i64 c0,.int .i64 c1] 57 (0,0))::F2)) g0 hlt
   rw[Er _ hc] at gs ga
   have key:∀(J:cc),∃m2:Nat,m2<m∧(F2=F2∧0≤IntKind.wrap .i64 (x+1)∧IntKind.wrap .i64 (x+1)≤s.states.length∧m2=(s.states.length-IntKind.wrap .i64 (x+1)).toNat∧s.p.types.e=0∧iB (max c0 c.1) ((s.p.iz.drop (IntKind.wrap .i64 (x+1)).toNat).map Prod.fst)=s.p.top.1 ∧
     iB (max c1 c.2) ((s.p.iz.drop (IntKind.wrap .i64 (x+1)).toNat).map Prod.snd)=s.p.top.2):=fun J=>by
    rw[cY (n:=x+1) (by omega)]
    refine⟨(s.states.length-(x+1)).toNat,by omega,rfl,by omega,by omega,rfl,he, ?_, ?_⟩
    ·rw[show (x+1).toNat=x.toNat+1 by omega,←gs]
    ·rw[show (x+1).toNat=x.toNat+1 by omega,←ga]
   refine⟨⟨g0,hlt⟩,ad,had,_,_,hrd,fun b_x=>⟨fun b1 I3 l3 h1=>⟨?_,fun b3 I7 l7 h3=>?_⟩,fun b4 I10 l10 h4 b5 I11 l11 h5=>?_⟩⟩
   ·exact cf.ret (gE c0 c.1 h1) fun I4 l4=>⟨_,rfl,F2,.refl _,fun b2 I5 l5 h2=>cf.ret (gE c1 c.2 h2) fun I6 l6=>⟨_,rfl,F2,.refl _,key I6⟩⟩
   ·exact cf.ret (gE c0 c.1 (l7.at h1)) fun I4 l4=>⟨_,rfl,F2,.refl _,cf.ret (gE c1 c.2 (l4.at h3)) fun I6 l6=>⟨_,rfl,F2,.refl _,key I6⟩⟩
   ·exact cf.ret (gE c0 c.1 h5) fun I4 l4=>⟨_,rfl,F2,.refl _,cf.ret (gE c1 c.2 (l4.at (l11.at h4))) fun I6 l6=>⟨_,rfl,F2,.refl _,key I6⟩⟩
  ·intro b6
   have hlt:=of_decide_eq_false hlt
   have hc:=of_decide_eq_true hc
   rw[List.drop_eq_nil_of_le (by omega)] at gs
   have gs:c0=s.p.top.1:=gs
   refine⟨_,[_],rfl,by rw[gF];exact .refl _,fun J hJ hx=>⟨.iface 89 (.pointer (some ⟨b6,0,none⟩)), ?_, ?_⟩⟩
   ·unfold cu.cost;rw[if_neg (by simpa using he),if_pos (by omega)]
   ·unfold FN;rw[if_neg (by simpa using he),if_pos (by omega)]
    exact⟨b6,rfl,hx _ (.head _)⟩
  ·have hlt:=of_decide_eq_false hlt
   have hc:=of_decide_eq_false hc
   rw[List.drop_eq_nil_of_le (by omega)] at gs ga
   have gs:c0=s.p.top.1:=gs
   have ga:c1=s.p.top.2:=ga
   refine⟨_,[],rfl,by rw[gF];exact .refl _,fun J hJ hx=>⟨.nilIface, ?_, ?_⟩⟩
   ·unfold cu.cost;rw[if_neg (by simpa using he),if_neg (by omega),gs,ga]
   ·unfold FN;rw[if_neg (by simpa using he),if_neg (by omega)]
theorem sE:∀(t:Nd),t.px.size≤4194304→t.px.formed=true→∀(I:cc) (F:b8),cC I F t→cf P 35 #[t.v] I F (dS (.int .i64 t.px.wt) F):=by
 refine Nd.ind fun t ih hs hf I F ht=>?_
 have hln:=iK hs
 have h1:t.px.gO=true:=by rw[Px.er,Bool.and_eq_true] at hf;exact hf.1
 have hl:(t.kids.length:Nat)=Px.arity t.px:=by
  unfold Px.gO at h1
  rw[Bool.and_eq_true,decide_eq_true_eq,Nd.db,List.length_map] at h1
  exact h1.2
 have hr:=Px.jS t.px hf
 have hkf:∀k∈t.kids,k.px.formed=true:=fun k hk=>Px.ib hf _ (by rw[Nd.db];exact List.mem_map_of_mem hk)
 have hat:∀{J:cc} {i:Int},cc.le I J→0≤i→i<t.kids.length→∀b_n:Nat,∃ad x,t.a=some ad∧t.kids[i.toNat]? = some x∧Rd J ((rS b_n t)::F) (ad.add (Int.toNat i*8)) x.enc ∧
   (1≤x.px.wt∧x.px.wt+1≤2*x.px.size)∧x.px.size≤4194304∧cf P 35 #[x.v] J ((rS b_n t)::F) (dS (.int .i64 x.px.wt) ((rS b_n t)::F)):=by
  intro J i hJ g0 hlt b_n
  obtain⟨ad,x,had,hx,hrd,hxo,hxm⟩:=((ht.mono hJ fun _ h=>h).cons (x:=(rS b_n t))).kids.at g0 hlt
  exact⟨ad,x,had,hx,hrd,Px.jS _ (hkf x hxm),fT hxm hs,ih x hxm (fT hxm hs) (hkf x hxm) J _ hxo⟩
 have hwt:=Di t
 refine kB.vc (fun w i m I' F'=>t.kind≠7∧0≤i∧i≤t.kids.length∧m=(t.kids.length-i).toNat∧0≤w∧t.px.wt=w+ep ((t.kids.drop i.toNat).map fun y=>y.px.wt)∧F'=F) ?_
 unfold kB.V
 intro b_n
 refine⟨fun h7=>?_,fun h7=>⟨fun h9=>⟨⟨_,by simpa using h7,by omega,by omega,rfl,by omega, ?_,rfl⟩,fun w i m I1 F1 hI hinv=>?_⟩,fun h9=>⟨⟨_,by simpa using h7,by omega,by omega,rfl,by omega, ?_,rfl⟩,fun w i m I1 F1 hI hinv=>?_⟩⟩⟩
 ·have h7:t.kind=7:=by simpa using h7
  have h3:t.kids.length=3:=by rw[hl];unfold Px.arity;rw[Nd.cG,h7];rfl
  obtain⟨ad1,x1,ha1,hx1,hr1,hw1,hs1,ht1⟩:=hat (i:=1) (cc.le_refl I) (by omega) (by omega) b_n
  refine⟨⟨by omega,by omega⟩,ad1,ha1,_,_,_,_,_,_,_,_,_,_,hr1,cf.ret ht1 fun I1 l1=>⟨_,rfl,F,.refl _, ?_⟩⟩
  obtain⟨ad2,x2,ha2,hx2,hr2,hw2,hs2,ht2⟩:=hat (i:=2) l1 (by omega) (by omega) b_n
  refine⟨⟨by omega,by omega⟩,ad2,ha2,_,_,_,_,_,_,_,_,_,_,hr2,cf.ret ht2 fun I2 l2=>⟨_,rfl,F,.refl _, ?_⟩⟩
  obtain⟨ad0,x0,ha0,hx0,hr0,hw0,hs0,ht0⟩:=hat (i:=0) (cc.le_trans l1 l2) (by omega) (by omega) b_n
  have key:t.px.wt=x0.px.wt+max x1.px.wt x2.px.wt+2:=by
   rw[hwt]
   unfold Ge
   rw[if_pos h7]
   match hk:t.kids,h3 with
   | [a,b,c],_ =>
     rw[hk] at hx0 hx1 hx2
     cases hx0;cases hx1;cases hx2
     rfl
  refine⟨fun h=>⟨⟨by omega,by omega⟩,ad0,ha0,_,_,_,_,_,_,_,_,_,_,hr0,cf.ret ht0 fun I3 l3=>⟨_,rfl,F,.refl _, ?_,rfl⟩⟩,fun h=>⟨⟨by omega,by omega⟩,ad0,ha0,_,_,_,_,_,_,_,_,_,_,hr0,cf.ret ht0 fun I3 l3=>⟨_,rfl,F,.refl _, ?_,rfl⟩⟩⟩
  ·have h:=of_decide_eq_true h
   rw[cY (n:=x0.px.wt+x2.px.wt) (by omega),cY (by omega),show x0.px.wt+x2.px.wt+2=t.px.wt by omega]
  ·have h:=of_decide_eq_false h
   rw[cY (n:=x0.px.wt+x1.px.wt) (by omega),cY (by omega),show x0.px.wt+x1.px.wt+2=t.px.wt by omega]
 ·have h7:t.kind≠7:=by simpa using h7
  have h9:t.kind=9:=by simpa using h9
  rw[hwt];unfold Ge;rw[if_neg h7,if_pos h9];rfl
 ·obtain⟨h7,g0,g1,gm,g2,gs,gF⟩:=hinv
  subst gF
  refine⟨fun hlt=>?_,fun hlt=>⟨?_,rfl⟩⟩
  ·have hlt:=of_decide_eq_true hlt
   obtain⟨ad0,x0,ha0,hx0,hr0,hw0,hs0,ht0⟩:=hat hI g0 hlt b_n
   have hd:=uH (l:=t.kids.drop (i.toNat+1)) fun k hk=>hkf k (List.mem_of_mem_drop hk)
   rw[tp hx0] at gs
   refine⟨⟨g0,hlt⟩,ad0,ha0,_,_,_,_,_,_,_,_,_,_,hr0,cf.ret ht0 fun I2 l2=>⟨_,rfl,F1,.refl _,(t.kids.length-(i+1)).toNat,by omega, ?_⟩⟩
   rw[cY (n:=i+1) (by omega),cY (n:=w+x0.px.wt) (by omega)]
   refine⟨h7,by omega,by omega,rfl,by omega, ?_,rfl⟩
   rw[gs,show (i+1).toNat=i.toNat+1 by omega,Int.add_assoc]
  ·have hlt:=of_decide_eq_false hlt
   rw[gs,List.drop_eq_nil_of_le (by omega)]
   show _=Ending.returned (Value.int .i64 (w+0))
   rw[Int.add_zero]
 ·have h7:t.kind≠7:=by simpa using h7
  have h9:t.kind≠9:=by simpa using h9
  rw[hwt];unfold Ge;rw[if_neg h7,if_neg h9];rfl
 ·obtain⟨h7,g0,g1,gm,g2,gs,gF⟩:=hinv
  subst gF
  refine⟨fun hlt=>?_,fun hlt=>⟨?_,rfl⟩⟩
  ·have hlt:=of_decide_eq_true hlt
   obtain⟨ad0,x0,ha0,hx0,hr0,hw0,hs0,ht0⟩:=hat hI g0 hlt b_n
   have hd:=uH (l:=t.kids.drop (i.toNat+1)) fun k hk=>hkf k (List.mem_of_mem_drop hk)
   rw[tp hx0] at gs
   refine⟨⟨g0,hlt⟩,ad0,ha0,_,_,_,_,_,_,_,_,_,_,hr0,cf.ret ht0 fun I2 l2=>⟨_,rfl,F1,.refl _,(t.kids.length-(i+1)).toNat,by omega, ?_⟩⟩
   rw[cY (n:=i+1) (by omega),cY (n:=w+x0.px.wt) (by omega)]
   refine⟨h7,by omega,by omega,rfl,by omega, ?_,rfl⟩
   rw[gs,show (i+1).toNat=i.toNat+1 by omega,Int.add_assoc]
  ·have hlt:=of_decide_eq_false hlt
   rw[gs,List.drop_eq_nil_of_le (by omega)]
   show _=Ending.returned (Value.int .i64 (w+0))
   rw[Int.add_zero]
set_option maxHeartbeats 1000000 in
theorem Cw(r:cp){I:cc}{F:b8}(hr:r.Ok I F)(hs:r.p.Sound):cf P 73 #[r.v] I F (dS (.tuple #[.int .i64 r.p.body,.int .i64 r.p.eO]) F):=by
 have hbd:=hs.body
 have hlen:=hs.len
 have hlen:r.dos.length≤8:=by simpa[cp.p] using hlen
 refine oz.vc
  (fun w u x m I0 F0 I' F'=>0≤x∧x≤r.dos.length∧m=(r.dos.length-x).toNat∧F'=F∧0≤w∧w+ep ((r.dos.drop x.toNat).map fun d=>d.p.wt)=r.p.body∧0≤u∧u≤x∧u+ep ((r.dos.drop x.toNat).map fun d=>d.p.act)=r.p.eO)
  (fun x w k m I0 F0 I' F'=>∃d,r.dos[x.toNat]? = some d∧0≤k∧k≤4∧m=(4-k).toNat∧F'=F∧0≤w∧w+yY ((gN d).drop k.toNat)+ep ((r.dos.drop (x.toNat+1)).map fun d=>d.p.wt)=r.p.body) ?_
 unfold oz.V
 intro b_r
 refine⟨⟨_,by omega,by omega,rfl,rfl,by omega, ?_,by omega,by omega, ?_⟩,fun w u x m I1 F1 l1 ⟨g0,g1,gm,gF,gw,gs,u0,u1,ga⟩=>⟨fun hlt=>?_,fun hlt=>?_⟩⟩
 ·rw[Dk,Int.zero_add];rfl
 ·rw[Dl,Int.zero_add];rfl
 ·have hlt:=of_decide_eq_true hlt
  subst gF
  have hr1:r.Ok I1 ((kg b_r r)::F1):=hr.mono l1 fun y hy=>.tail _ hy
  obtain⟨ad,d,had,hd,hrd,hdm⟩:=dq.gj hr1.2.1 g0 hlt
  refine⟨⟨g0,hlt⟩,ad,had,_,_,_,_,_,_,_,_,_,_,_,_,_,_,_,_,_,_,_,_,_,_,_,_,_,_,_,_,_,_,_,_,_,_,_,_,_,_,_,_,_,_,_,_,hrd,fun b_d b2 I2 l2 hb2=>⟨⟨_,d,hd,by omega,by omega,rfl,rfl,gw, ?_⟩,fun w' k m3 I3 F3 l3 ⟨d',hd',k0,k4,km,kF,ku,ks⟩=>⟨fun hk=>?_,fun hk=>?_⟩⟩⟩
  ·rw[←gs,qf dA.wt hd]
   show w+yY (gN d)+_=_
   rw[Dj,Int.add_assoc]
  ·obtain rfl:d=d':=by rw[hd] at hd';exact Option.some.inj hd'
   have hk:=of_decide_eq_true hk
   subst kF
   have hso:=ub (hs.dos d.p (List.mem_map_of_mem hdm))
   obtain⟨ad1,x1,had1,hx1,hrd1,hxm⟩:=dq.gj (AP (l3.at hb2) ((kg b_r r)::(ql b_d d)::F3)) k0 hk
   have hp:=hso x1 hxm
   have hpr:=hp.range
   have n1:=uc (l:=(gN d).drop (k.toNat+1)) fun y hy=>hso y (List.mem_of_mem_drop hy)
   have n2:=ud hs (x.toNat+1)
   rw[x8 hx1] at ks
   refine⟨⟨k0,hk⟩,ad1,had1,x1.kind, ?_,fun hn=>⟨⟨k0,hk⟩,ad1,had1,_,_,_,_,_,_,_,_,_,_,hrd1, ?_⟩,fun hn=>⟨(4-(k+1)).toNat,by omega,d,hd, ?_⟩⟩
   ·obtain⟨q1,cells,e,fz,q2,q3⟩:=hrd1
    have ha:∀a:Addr,a.add 0=a:=fun a=>by unfold Addr.add;rfl
    rw[ha]
    exact⟨q1,cells,e,fz,q2,fun j hj=>by
     have:j=0:=by simpa using hj
     subst this
     exact q3 0 (by show 0<8;decide)⟩
   ·have hn:x1.px.kind≠0:=by rw[Nd.cG];simpa using hn
    have hw:gT x1.px=x1.px.wt:=if_neg hn
    have hok:cC I3 ((kg b_r r)::(ql b_d d)::F3) x1:=(AQ (hr.2.2 d hdm) x1 hxm).mono (cc.le_trans (cc.le_trans l1 l2) l3) fun y hy=>.tail _ (.tail _ hy)
    have hsz:=hp.size
    refine cf.ret (sE x1 (by omega) (hp.ok.resolve_left hn) I3 _ hok) fun I4 l4=>⟨_,rfl,F3,.refl _,(4-(k+1)).toNat,by omega,d,hd, ?_⟩
    rw[cY (n:=k+1) (by omega),cY (n:=w'+x1.px.wt) (by omega)]
    refine⟨by omega,by omega,rfl,rfl,by omega, ?_⟩
    rw[show (k+1).toNat=k.toNat+1 by omega,←ks,hw];omega
   ·have hn:x1.px.kind=0:=by rw[Nd.cG];simpa using hn
    have hw:gT x1.px=0:=if_pos hn
    rw[cY (n:=k+1) (by omega)]
    refine⟨by omega,by omega,rfl,rfl,ku, ?_⟩
    rw[show (k+1).toNat=k.toNat+1 by omega,←ks,hw];omega
  ·obtain rfl:d=d':=by rw[hd] at hd';exact Option.some.inj hd'
   have hk:=of_decide_eq_false hk
   rw[List.drop_eq_nil_of_le (show (gN d).length≤k.toNat by show 4≤_;omega)] at ks
   have ks:w'+0+ep ((r.dos.drop (x.toNat+1)).map fun d=>d.p.wt)=r.p.body:=ks
   rw[qf dA.act hd] at ga
   subst kF
   have key:∀v,v=u+d.p.act→∃m2:Nat,m2<m∧(0≤IntKind.wrap .i64 (x+1)∧IntKind.wrap .i64 (x+1)≤r.dos.length∧m2=(r.dos.length-IntKind.wrap .i64 (x+1)).toNat∧F3=F3∧0≤w'∧w'+ep ((r.dos.drop (IntKind.wrap .i64 (x+1)).toNat).map fun d=>d.p.wt)=r.p.body ∧
     0≤v∧v≤IntKind.wrap .i64 (x+1)∧v+ep ((r.dos.drop (IntKind.wrap .i64 (x+1)).toNat).map fun d=>d.p.act)=r.p.eO):=by
    intro v hv
    have:=d.p.qd
    rw[cY (n:=x+1) (by omega)]
    refine⟨(r.dos.length-(x+1)).toNat,by omega,by omega,by omega,rfl,rfl,ku, ?_,by omega,by omega, ?_⟩
    ·rw[show (x+1).toNat=x.toNat+1 by omega,←ks];omega
    ·rw[show (x+1).toNat=x.toNat+1 by omega,←ga];omega
   have hk:d.p.kind=d.kind:=rfl
   have hw:IntKind.wrap .i64 (u+1)=u+1:=cY (by omega)
   refine⟨fun h=>?_,fun h=>⟨fun h2=>?_,fun h2=>⟨fun h3=>?_,fun h3=>?_⟩⟩⟩
   ·rw[hw];exact key _ (by unfold dA.act;rw[hk,if_pos (by simp at h;exact .inl h)])
   ·rw[hw];exact key _ (by unfold dA.act;rw[hk,if_pos (by simp at h2;exact .inr (.inl h2))])
   ·rw[hw];exact key _ (by unfold dA.act;rw[hk,if_pos (by simp at h3;exact .inr (.inr h3))])
   ·refine key _ ?_
    simp at h h2 h3
    unfold dA.act;rw[hk,if_neg (by omega),Int.add_zero]
 ·have hlt:=of_decide_eq_false hlt
  rw[List.drop_eq_nil_of_le (by omega)] at gs ga
  have gs:w+0=r.p.body:=gs
  have ga:u+0=r.p.eO:=ga
  refine⟨?_,gF⟩
  rw[←gs,←ga,Int.add_zero,Int.add_zero]
set_option maxHeartbeats 1000000 in
theorem xl(x:cg){I:cc}{F:b8}(hx:x.Ok I F)(hs:x.p.Sound):cf P 45 #[x.v] I F (dS (.agg #[.int .i64 x.p.steps,.int .i64 x.p.eO]) F):=by
 have hyl:x.rules.length≤12:=by have:=hs.len;simpa[cg.p] using this
 have hyr:=hs.range
 refine mc.vc (fun most k st ac m I' F'=>F'=F∧0≤k∧k≤x.rules.length∧m=(x.rules.length-k).toNat∧0≤st∧st≤2097152*k∧(0≤most∧most≤67108864)∧(0≤ac∧ac≤8) ∧
  st+ep ((x.rules.drop k.toNat).map fun r=>r.when.px.wt)+iB most ((x.rules.drop k.toNat).map fun r=>r.p.body)=x.p.steps∧iB ac ((x.rules.drop k.toNat).map fun r=>r.p.eO)=x.p.eO) ?_
 unfold mc.V
 intro b_x b b_c
 refine⟨⟨_,rfl,by omega,by omega,rfl,by omega,by omega,by omega,by omega, ?_, ?_⟩,fun most k st ac m I1 F1 l1 ⟨gF,k0,k1,km,s0,s1,mo,a0,ks,ka⟩=>⟨fun hk=>?_,fun hk=>⟨?_,gF⟩⟩⟩
 ·rw[sC];show 0+_+_=_;rw[Int.zero_add];rfl
 ·rw[uI];rfl
 ·have hk:=of_decide_eq_true hk
  subst gF
  have hx1:∀{J:cc} (z1 z2 z3:Nat×Obj),cc.le I J→x.Ok J (z1::z2::z3::F1):=fun z1 z2 z3 hJ=>hx.mono hJ fun _ h=>.tail _ (.tail _ (.tail _ h))
  obtain⟨ad,r,had,hr,hrd,hrm⟩:=dq.gj (hx1 (fU b_x x) (b,.cells #[.int .i64 0,.int .i64 0] 57 (0,0)) (b_c,.cells #[.int .i64 st,.int .i64 ac] 57 (0,0)) l1).1 k0 hk
  have hrs:=hs.rules r.p (List.mem_map_of_mem hrm)
  have hrw:=hs.when r hrm
  have hbd:=hrs.body
  have hra:=r.p.ru
  have hrl:=hrs.len
  have hsz:r.when.px.size≤1048576:=hrs.size
  rw[ya _ hr,qh _ hr] at ks
  rw[qh _ hr] at ka
  refine⟨⟨k0,hk⟩,ad,had,_,_,_,_,_,_,_,_,_,_,_,_,_,_,hrd,cf.ret (Cw r ((hx1 _ _ _ l1).2 r hrm) hrs) fun I2 l2=>⟨_,_,rfl,F1,.refl _, ?_⟩⟩
  have l02:=cc.le_trans l1 l2
  have key:∀most2 ac2,most2=max most r.p.body→ac2=max ac r.p.eO→((0≤k∧k<(x.rules.length:Int))∧∃ad1:Addr,x.a=some ad1∧∃(m_01 m_11 m_21 m_31 m_41:Int) (m_51:ByteArray) (m_6_a1:Option Addr) (m_6_n1 m_6_c1:Nat) (m_71:Int),
    Rd I2 ((fU b_x x)::(b,.cells #[.int .i64 0,.int .i64 0] 57 (0,0))::(b_c,.cells #[.int .i64 st,.int .i64 ac2] 57 (0,0))::F1) ((ad1.add (k.toNat*10)).add 0) [.int .u8 m_01,.int .u8 m_11,.int .u8 m_21,.int .i64 m_31,.int .u8 m_41,.string m_51,.slice m_6_a1 m_6_n1 m_6_c1,.int .i64 m_71]∧∃(q:Int),
    (cf P 35 #[.agg #[.int .u8 m_01,.int .u8 m_11,.int .u8 m_21,.int .i64 m_31,.int .u8 m_41,.string m_51,.slice m_6_a1 m_6_n1 m_6_c1,.int .i64 m_71]] I2 ((fU b_x x)::(b,.cells #[.int .i64 0,.int .i64 0] 57 (0,0))::(b_c,.cells #[.int .i64 st,.int .i64 ac2] 57 (0,0))::F1) fun e2 I3 G2=>e2=.returned (.int .i64 q)∧G2.Perm ((fU b_x x)::(b,.cells #[.int .i64 0,.int .i64 0] 57 (0,0))::(b_c,.cells #[.int .i64 st,.int .i64 ac2] 57 (0,0))::F1)) ∧
    ∃m2:Nat,m2<m∧(F1=F1∧0≤IntKind.wrap .i64 (k+1)∧IntKind.wrap .i64 (k+1)≤x.rules.length∧m2=(x.rules.length-IntKind.wrap .i64 (k+1)).toNat∧0≤IntKind.wrap .i64 (st+q)∧IntKind.wrap .i64 (st+q)≤2097152*IntKind.wrap .i64 (k+1)∧(0≤most2∧most2≤67108864)∧(0≤ac2∧ac2≤8) ∧
     IntKind.wrap .i64 (st+q)+ep ((x.rules.drop (IntKind.wrap .i64 (k+1)).toNat).map fun r=>r.when.px.wt)+iB most2 ((x.rules.drop (IntKind.wrap .i64 (k+1)).toNat).map fun r=>r.p.body)=x.p.steps∧iB ac2 ((x.rules.drop (IntKind.wrap .i64 (k+1)).toNat).map fun r=>r.p.eO)=x.p.eO)):=by
   intro most2 ac2 hm ha
   have hxx:=hx1 (fU b_x x) (b,.cells #[.int .i64 0,.int .i64 0] 57 (0,0)) (b_c,.cells #[.int .i64 st,.int .i64 ac2] 57 (0,0)) l02
   obtain⟨ad1,r1,had1,hr1,hrd1,_⟩:=dq.gj hxx.1 k0 hk
   obtain rfl:r=r1:=by rw[hr] at hr1;exact Option.some.inj hr1
   refine⟨⟨k0,hk⟩,ad1,had1,_,_,_,_,_,_,_,_,_,_, ?_,r.when.px.wt,(sE r.when (by omega) hrs.when I2 _ (hxx.2 r hrm).1).mono fun e I3 G l3 ⟨he,hG⟩=>⟨he,by rw[hG]⟩,(x.rules.length-(k+1)).toNat,by omega, ?_⟩
   ·obtain⟨q1,cells,e,fz,q2,q3⟩:=hrd1
    have ha:∀a:Addr,a.add 0=a:=fun a=>by unfold Addr.add;rfl
    rw[ha]
    exact⟨q1,cells,e,fz,q2,fun j hj=>by
     have hj:j<8:=hj
     have h:=q3 j (by show j<10;omega)
     rw[h]
     match j,hj with
     | 0,_=>rfl
     | 1,_=>rfl
     | 2,_=>rfl
     | 3,_=>rfl
     | 4,_=>rfl
     | 5,_=>rfl
     | 6,_=>rfl
     | 7,_=>rfl⟩
   ·have hrp:r.p.dos.length=r.dos.length:=by simp[cp.p]
    rw[cY (n:=k+1) (by omega),cY (n:=st+r.when.px.wt) (by omega)]
    refine⟨rfl,by omega,by omega,rfl,by omega,by omega,by omega,by omega, ?_, ?_⟩
    ·rw[show (k+1).toNat=k.toNat+1 by omega,←ks,hm];omega
    ·rw[show (k+1).toNat=k.toNat+1 by omega,←ka,ha]
  refine⟨fun h=>⟨fun h2=>key _ _ ?_ ?_,fun h2=>key _ _ ?_ ?_⟩,fun h=>⟨fun h2=>key _ _ ?_ ?_,fun h2=>key _ _ ?_ ?_⟩⟩
  all_goals (first | have h:=of_decide_eq_true h | have h:=of_decide_eq_false h)
  all_goals (first | have h2:=of_decide_eq_true h2 | have h2:=of_decide_eq_false h2)
  all_goals omega
 ·have hk:=of_decide_eq_false hk
  rw[List.drop_eq_nil_of_le (by omega)] at ks ka
  have ks:st+0+most=x.p.steps:=ks
  have ka:ac=x.p.eO:=ka
  rw[cY (n:=st+most) (by omega),show st+most=x.p.steps by omega,ka]
theorem wM:P.underlying 57=some (.struct (P.fieldsOf 57)):=by kernel_rfl
theorem wN:P.stoodInHeld 57=false:=by kernel_rfl
theorem wO:P.eqGuardType P.depth 57=false:=by kernel_rfl
theorem yb(a p b q:Int):oR P #[.int .i64 a,.int .i64 p] #[.int .i64 b,.int .i64 q] (P.fieldsOf 57).toList=some (a==b&&(p==q&&true)):=by kernel_rfl
theorem FO(a p b q:Int):(a==b&&(p==q&&true))=decide (((a,p):C2)=(b,q)):=by
 by_cases h1:a=b<;>by_cases h2:p=q<;>simp[h1,h2]
theorem AX(a p b q:Int){x y:Operand}:cU P .eql 57 x y (.agg #[.int .i64 a,.int .i64 p]) (.agg #[.int .i64 b,.int .i64 q]) (decide (((a,p):C2)=(b,q))):=by
 rw[←FO];exact vB wM wN wO (yb ..)
theorem FP(a p b q:Int){x y:Operand}:cU P .neq 57 x y (.agg #[.int .i64 a,.int .i64 p]) (.agg #[.int .i64 b,.int .i64 q]) (!decide (((a,p):C2)=(b,q))):=by
 rw[←FO];exact vC wM wN wO (yb ..)
theorem pq{a b:Option Addr}{n k c d:Nat}{l m:List C2}{I:cc}{F:b8}(hl:dq I F 2 kD a n l)(hm:dq I F 2 kD b k m)(hn:n≤1000000000):cf P 22 #[.slice a n c,.slice b k d] I F (dS (.bool (decide (l=m))) F):=by
 refine hZ.vc (fun q i w I' F'=>F'=F∧0≤i∧i≤n∧w=(n-i).toNat∧n=k∧l.take i.toNat=m.take i.toNat) ?_
 unfold hZ.V
 have h1:=hl.1
 have h2:=hm.1
 refine⟨fun h=>⟨?_,rfl⟩,fun h=>⟨⟨_,rfl,by omega,by omega,rfl, ?_,rfl⟩,fun q i w I1 F1 l1 ⟨gF,g0,g1,gw,gn,gt⟩=>⟨fun hlt=>?_,fun hlt=>⟨?_,gF⟩⟩⟩⟩
 ·have h:(n:Int)≠(k:Int):=by simpa using h
  rw[decide_eq_false (fun e:l=m=>h (by rw[h1,h2,e]))]
 ·have h:(n:Int)=(k:Int):=by simpa using h
  omega
 ·have hlt:=of_decide_eq_true hlt
  subst gF
  obtain⟨ad,x,had,hx,hrd,_⟩:=dq.gj (hl.mono l1 fun _ h=>h) g0 hlt
  obtain⟨ad2,y,had2,hy,hrd2,_⟩:=dq.gj (hm.mono l1 fun _ h=>h) g0 (by omega)
  refine⟨⟨g0,hlt⟩,ad,had,_,_,hrd,⟨g0,by omega⟩,ad2,had2,_,_,hrd2,_,FP _ _ _ _,fun hq=>⟨?_,rfl⟩,fun hq=>⟨(n-(i+1)).toNat,by omega, ?_⟩⟩
  ·have hq:x≠y:=fun e=>by subst e;simp at hq
   rw[decide_eq_false]
   intro e
   rw[e,hy] at hx
   exact hq (Option.some.inj hx).symm
  ·have hq:x=y:=by
    have h:x.1=y.1∧x.2=y.2:=by simpa using hq
    exact Prod.ext h.1 h.2
   obtain⟨hk,hx⟩:=List.getElem?_eq_some_iff.1 hx
   obtain⟨hk2,hy⟩:=List.getElem?_eq_some_iff.1 hy
   rw[cY (n:=i+1) (by omega)]
   refine⟨rfl,by omega,by omega,rfl,gn, ?_⟩
   rw[show (i+1).toNat=i.toNat+1 by omega,List.take_succ_eq_append_getElem hk,List.take_succ_eq_append_getElem hk2,gt,hx,hy,hq]
 ·have hlt:=of_decide_eq_false hlt
  rw[List.take_of_length_le (by omega),List.take_of_length_le (by omega)] at gt
  rw[decide_eq_true gt]
def cu.said(s:cu):List C2:=if s.types.e≠0 then [] else s.iz
def JB(s:cw)(F:b8)(e:Ending)(I:cc)(G:b8):Prop:=∃(a:Option Addr) (n c:Nat),e=.returned (.tuple #[.slice a n c,s.p.types.v])∧Sl I 2 kD a n s.p.said∧G=F
theorem Es{l:List C2}{i:Nat}{x:C2}(h:l[i]? = some x):l.take (i+1)=l.take i++[x]:=by
 obtain⟨hk,hx⟩:=List.getElem?_eq_some_iff.1 h
 rw[List.take_succ_eq_append_getElem hk,hx]
theorem FQ(c:C2):∀u∈kD c,u.oneCell'=true:=by
 intro u hu
 simp only[kD,List.mem_cons,List.not_mem_nil,or_false] at hu
 rcases hu with h | h<;>(subst h;rfl)
set_option maxHeartbeats 1000000 in
theorem wP(s:cw)(hl:s.p.oK){I:cc}{F:b8}(hok:s.Ok I F):cf P 21 #[s.v] I F (JB s F):=by
 refine cf.keep (Q:=fun e I' G=>∃(a:Option Addr) (n c:Nat) (A:b8),e=.returned (.tuple #[.slice a n c,s.p.types.v])∧Acc 2 kD 57 a n c s.p.said A∧G.Perm (A++F)) ?_ fun e I' G w _ hs ⟨a,n,c,A,he,hA,hG⟩=>by
  obtain⟨J,k1,k2,k3⟩:=Acc.keep (z:=2) (f:=kD) (fun _=>rfl) hA (hs.perm hG)
  exact⟨J,F,k1,k2,a,n,c,he,k3,rfl⟩
 refine kC.vc (fun a n c i m I' F'=>s.p.types.e=0∧0≤i∧i≤s.states.length∧m=(s.states.length-i).toNat∧∃A,Acc 2 kD 57 a n c (s.p.iz.take i.toNat) A∧F'.Perm (A++F)) ?_
 unfold kC.V
 intro b_s b
 refine cf.ret (xi s hl (hok.mono (cc.le_refl I) fun y hy=>.tail _ (.tail _ hy))) fun I1 l1=>⟨_,_,_,rfl,F,.refl _,fun b_f=>⟨fun h=>?_,fun h=>?_⟩⟩
 ·have h:s.p.types.e≠0:=by simpa using h
  refine⟨none,0,0,[],rfl, ?_,.refl _⟩
  unfold cu.said;rw[if_pos h];exact Acc.nil
 have h:s.p.types.e=0:=by simpa using h
 have hs:=cu.sound (ry h) hl
 have hn:s.states.length≤12:=by have:=hs.len;simpa[cw.p] using this
 have hcl:=kI s
 refine⟨⟨_,h,by omega,by omega,rfl,[],Acc.nil,.refl _⟩,fun a n c i m I2 F2 l2 ⟨_,g0,g1,gm,A,hA,gF⟩=>⟨fun hlt=>?_,fun hlt=>?_⟩⟩
 ·have hlt:=of_decide_eq_true hlt
  have hsub:∀y,y∈F→y∈F2:=fun y hy=>gF.mem_iff.2 (List.mem_append_right _ hy)
  have l02:=cc.le_trans l1 l2
  have hok3:∀{J:cc} (x1 x2 x3:Nat×Obj),cc.le I J→s.Ok J (x1::x2::x3::F2):=fun x1 x2 x3 hJ=>hok.mono hJ fun y hy=>.tail _ (.tail _ (.tail _ (hsub y hy)))
  obtain⟨ad,y,had,hy,hrd,hym⟩:=dq.gj (hok3 (c6 b_s s) (b,.cells #[.int .i64 0,.int .i64 0,.bool false] 51 (0,0)) (b_f,.cells #[.int .i64 s.p.types.e,.int .i64 s.p.types.pos,.bool s.p.types.of] 51 (0,0)) l02).states g0 hlt
  refine⟨⟨g0,hlt⟩,ad,had,_,_,_,_,_,hrd,cf.ret (xl y ((hok3 _ _ _ l02).state y hym) (hs.states y.p (List.mem_map_of_mem hym))) fun I3 l3=>⟨_,_,rfl,F2,.refl _,fun b1 I4 l4 hb1=>?_⟩⟩
  have hlen:(s.p.iz.take i.toNat).length≤100:=by rw[List.length_take];omega
  refine cF.mono (vY (z:=2) (f:=kD) (by':=16) (zv:=.agg #[.int .i64 0,.int .i64 0]) (fun _=>rfl) (by kernel_rfl) (by kernel_rfl) rfl (by decide) (by decide) hA hlen (y.p.steps,y.p.eO) (FQ _) hb1 rfl (R:=(c6 b_s s)::(b,.cells #[.int .i64 0,.int .i64 0,.bool false] 51 (0,0))::(b_f,.cells #[.int .i64 s.p.types.e,.int .i64 s.p.types.pos,.bool s.p.types.of] 51 (0,0))::F) (cT fun z=>by have q0:=j7 gF z;simp only[c6,di,cS,dp] at q0 ⊢;omega)) fun v I5 G l5 ⟨a',n',c',A',hv,hA',hG⟩=>?_
  refine⟨a',n',c',hv,A'++F,hG.trans (cT fun z=>by simp only[c6,di,cS,dp];omega),(s.states.length-(i+1)).toNat,by omega, ?_⟩
  rw[cY (n:=i+1) (by omega)]
  refine⟨h,by omega,by omega,rfl,A', ?_,.refl _⟩
  have hcy:s.p.iz[i.toNat]? = some (y.p.steps,y.p.eO):=by
   show ((s.states.map cg.p).map cq.cost)[i.toNat]? = _
   rw[List.getElem?_map,List.getElem?_map,hy];rfl
  rw[show (i+1).toNat=i.toNat+1 by omega,Es hcy];exact hA'
 ·have hlt:=of_decide_eq_false hlt
  rw[List.take_of_length_le (by omega)] at hA
  refine⟨a,n,c,A,rfl, ?_,gF⟩
  unfold cu.said;rw[if_neg (by simpa using h)];exact hA
def Ho:ByteArray:=(⟨#[100,111,110,101,32,63,32,98,105,100,32,58,32,98,105,100,32,43,32,49,112]⟩:ByteArray)
def Hp:ByteArray:=(⟨#[115,116,114,97,116,101,103,121,32,115,32,123,32,114,101,103,32,110,32,105,110,116,32,61,32,48,59,32,115,108,111,116,32,111,59,32,115,116,97,116,101,32,97,32,123,32,119,104,101,110,32,104,97,115,32,98,105,100,32,100,111,32,115,117,98,109,105,116,32,98,117,121,32,111,102,32,50,113,32,97,116,32,98,105,100,32,43,32,49,112,32,108,105,109,105,116,44,32,104,97,108,116,59,32,119,104,101,110,32,110,111,119,32,62,32,53,116,32,100,111,32,115,101,116,32,110,32,61,32,110,32,43,32,49,44,32,99,97,110,99,101,108,32,111,44,32,99,97,110,99,101,108,32,111,59,32,125,32,115,116,97,116,101,32,98,32,123,125,32,125]⟩:ByteArray)
abbrev FR:Px:=(nR Ho).1
abbrev Dm:cu:=(nQ Hp).1
theorem FT:FR.size≤1048576:=of_decide_eq_true (by kernel_rfl)
theorem Iy:(if FR.formed then FR.wt else 0)=6:=by kernel_rfl
theorem Et:Dm.dC:=cu.sm (of_decide_eq_true (by kernel_rfl))
theorem Eu:Dm.types.e=0:=by kernel_rfl
theorem FU:Dm.cost=((9,2),sK):=by kernel_rfl
theorem Ev:Dm.iz=[(9,2),(0,0)]:=by kernel_rfl
theorem ze:B4.p.dC:=cu.sm (by decide)
theorem sF:B4.p.types.e≠0:=by
 have h:B4.p.types.e=120:=by kernel_rfl
 rw[h];decide
theorem Ew{I:cc}{F:b8}:B4.Ok I F:=⟨dq.nil,fun r hr=>(by cases hr),dq.nil,dq.nil,fun x hx=>(by cases hx)⟩
theorem FV{I:cc}{f:TF}{w:Value}(h:fQ I f w){t:TypeId}(ht:oy P t=true){x:Operand}:cU P .eql t x (.const .nilIface) w .nilIface (f.e==0):=by
 by_cases he:f.e=0
 ·rw[h.1 he,he];exact sx ht
 ·have h2:=h.2 he
  rw[show (f.e==0)=false by simpa using he]
  split at h2
  ·obtain⟨u,_,b,hw,_⟩:=h2;rw[hw];exact tk ht
  ·obtain⟨b,hw,_⟩:=h2;rw[hw];exact tk ht
set_option maxHeartbeats 1000000 in
theorem zf{I:cc}(hg:Gl I)(F:b8):cf P 9 #[] I F (dS (.bool true) F):=by
 refine me.vc ?_
 unfold me.V
 refine (B5 Ho (by unfold cW;decide) I _).mono fun e I1 G l1 ⟨n,he,hn,okn,hG⟩=>?_
 refine⟨_,_,_,_,_,_,_,_,_,_,_,_,_,he,F,by rw[hG],fun b_n b__=>?_⟩
 refine (vZ Hp (by unfold cW;exact of_decide_eq_true (by kernel_rfl)) I1 _).mono fun e I2 G l2 ⟨s,he,hs,oks,hG⟩=>?_
 refine⟨_,_,_,_,_,_,_,_,_,_,_,_,_,he,F,by rw[hG],fun b_s b_1=>?_⟩
 have ls:s.p.dC:=hs▸Et
 have lth:=ls.thin
 have hnz:n.px.size≤1048576:=by rw[hn];exact FT
 have hnw:(if n.px.formed then n.px.wt else 0)=6:=by rw[hn];exact Iy
 have hst:s.p.types.e=0:=by rw[hs];exact Eu
 have hsc:s.p.cost=((9,2),sK):=by rw[hs];exact FU
 have hsl:s.p.iz=[(9,2),(0,0)]:=by rw[hs];exact Ev
 refine cf.ret (ua n (by omega) I2 _ (okn.mono l2 GU)) fun I3 l3=>⟨_,rfl,F,.refl _, ?_⟩
 refine cf.ret (ua iU (by decide) I3 _ (dK.mono (cc.le_refl _) GU)) fun I4 l4=>⟨_,rfl,F,.refl _, ?_⟩
 have l24:=cc.le_trans l3 l4
 have l04:=cc.le_trans l1 (cc.le_trans l2 l24)
 refine cf.jQ (uo s lth (oks.mono l24 GU) (hg.mono l04)) fun v5 I5 l5 ⟨w5,hv5,hw5⟩=>⟨_,_,w5,congrArg Ending.returned hv5,F,.refl _,fun b_c=>?_⟩
 have l25:=cc.le_trans l24 l5
 have l05:=cc.le_trans l04 l5
 refine (lg s lth (oks.mono l25 GU) (hg.mono l05)).mono fun e I6 G l6 hq=>?_
 rcases hq with ⟨h,_⟩ | ⟨_,bl,he,hS,hG⟩
 ·exact absurd hst h
 refine⟨_,_,_,_,he,F,by rw[hG], ?_⟩
 have l06:=cc.le_trans l05 l6
 refine (lg B4 ze.thin Ew (hg.mono l06)).mono fun e I7 G7 l7 hq=>?_
 rcases hq with ⟨hz,v7,he,hv7,hG7⟩ | ⟨h,_⟩
 rotate_left
 ·exact absurd h sF
 refine⟨_,_,_,_,he,F,by rw[hG7], ?_⟩
 have h2:s.states.length=2:=by rw[←kI s,hsl];rfl
 have hzw:(if iU.px.formed then iU.px.wt else 0)=0:=by decide
 rw[hnw,hzw]
 have hw5':w5=.nilIface:=by
  unfold FN at hw5
  rw[if_neg (by simpa using hst)] at hw5
  have htop:¬500<s.p.top.1:=by
   unfold cu.top;rw[hsl];decide
  rwa [if_neg htop] at hw5
 rw[hw5',hsc]
 refine⟨fun _=>⟨fun _=>⟨true,sx (by kernel_rfl),fun _=>⟨true,AX 9 2 9 2,fun _=>⟨true,sx (by kernel_rfl),fun _=>⟨fun _=>⟨⟨by decide,by rw[h2];decide⟩,⟨bl,0,none⟩,rfl,0,0, ?_,⟨true,AX 0 0 0 0,fun _=>⟨true, ?_,rfl,rfl⟩,fun h=>(by cases h)⟩⟩,fun h=>?_⟩,fun h=>(by cases h)⟩,fun h=>(by cases h)⟩,fun h=>(by cases h)⟩,fun h=>(by cases h)⟩,fun h=>(by cases h)⟩
 ·obtain⟨ad,c,had,hc,hrd,_⟩:=dq.gj ((hS.mono l7).yr _) (i:=1) (by decide) (by rw[h2];decide)
  rw[hsl] at hc
  cases hc
  cases had
  exact hrd
 ·have:=fQ.neq hv7 (t:=44) (by kernel_rfl) (x:=.tmp 72)
  rwa [show (B4.p.types.e != 0)=true by simpa using sF] at this
 ·rw[h2] at h;cases h
theorem Cx(s:cw)(hs:s.p.cW)(I:cc)(F:b8)(hok:s.Ok I F):cf P 17 #[s.v] I F fun e I' G=>∃r:Bool,e=.returned (.bool r)∧G=F∧(r=false→s.p.dC):=by
 refine qb.vc ?_
 unfold qb.V
 intro b_s
 refine (xg s hs I _ hok.cons).mono fun e I1 G l1 ⟨r,he,hG,h0,h1,hl⟩=>?_
 subst hG
 exact⟨r,he,F,.refl _,_,rfl,rfl,fun h=>hl (by have:=of_decide_eq_false h;omega)⟩
end Go.Lx
namespace Go.Lx
open Go.Vc Go.Proofs.Tryz
def uq:List (Nat×List Sh):=[(4,[.one .bool]),(39,[.agg [.str,.slc,.slc,.slc]]),(45,[.one .slc,.one .any]),(48,[.one (.int .i64),.one (.int .i64)]),(52,[.one .slc,.agg [(.int .i64),(.int .i64),.bool]])]
def gG.V(ka:Nat→Bs→OA→Nat→Nat→OA→Nat→Nat→OA→Nat→Nat→Nat×Obj)(kb:Nat→Int→Int→Bool→Nat×Obj)(k:Nat→Nat×Obj)(vi:Int→Value)(vs:Bs→Value)(vl:OA→Nat→Nat→Value)(vt:Bool→Value)(am:Bs)(w:OA)(x y:Nat)(z:OA)(aa ab:Nat)(ac:OA)(ae af:Nat)(I:cc)(F:b8)(Q:cd)(Inv34:OA→Nat→Nat→Int→Nat→cc→b8→cc→b8→Prop):Prop:=∀l:Nat,cy P 9 #[] I ((k l)::·) F vt fun r I1 F1=>cy P 17 #[.agg #[vs am,vl w x y,vl z aa ab,vl ac ae af]] I1 ((k l)::·) F1 vt fun r1 I2 F2=>(It (!r) (Q (.returned (vt r)) I2 F2) (It r1 (Q (.returned (vt r)) I2 F2) (dg P 18 #[.agg #[vs am,vl w x y,vl z aa ab,vl ac ae af]] I2 ((k l)::·) F2 fun e3 I3 G3=>∃(n:Bs) (a:OA) (b c:Nat) (d:OA) (e f:Nat) (g:OA) (h j:Nat),e3=.returned (.agg #[vs n,vl a b c,vl d e f,vl g h j])∧G3 fun F3=>∀o:Nat,dg P 19 #[.agg #[vs n,vl a b c,vl d e f,vl g h j]] I3 ((k l)::(ka o n a b c d e f g h j)::·) F3 fun e4 I4 G4=>∃(v:OA) (t ag:Nat) (aq:Value),e4=.returned (.tuple #[vl v t ag,aq])∧G4 fun F4=>dg P 19 #[.agg #[vs n,vl a b c,vl d e f,vl g h j]] I4 ((k l)::(ka o n a b c d e f g h j)::·) F4 fun e5 I5 G5=>∃(an:OA) (ao ap:Nat) (av:Value),e5=.returned (.tuple #[vl an ao ap,av])∧G5 fun F5=>dg P 20 #[aq] I5 ((k l)::(ka o n a b c d e f g h j)::·) F5 fun e6 I6 G6=>∃(r0 al:Int),e6=.returned (.tuple #[vi r0,vi al])∧G6 fun F6=>dg P 20 #[av] I6 ((k l)::(ka o n a b c d e f g h j)::·) F6 fun e7 I7 G7=>∃(ar au:Int),e7=.returned (.tuple #[vi ar,vi au])∧G7 fun F7=>dg P 21 #[.agg #[vs am,vl w x y,vl z aa ab,vl ac ae af]] I7 ((k l)::(ka o n a b c d e f g h j)::·) F7 fun e8 I8 G8=>∃(ai:OA) (aj ak:Nat) (p s:Int) (u:Bool),e8=.returned (.tuple #[vl ai aj ak,.agg #[vi p,vi s,vt u]])∧G8 fun F8=>∀ah:Nat,cy P 22 #[vl v t ag,vl ai aj ak] I8 ((k l)::(ka o n a b c d e f g h j)::(kb ah p s u)::·) F8 vt fun r2 I9 F9=>cy P 23 #[.agg #[vs n,vl a b c,vl d e f,vl g h j],.agg #[vs am,vl w x y,vl z aa ab,vl ac ae af]] I9 ((k l)::(ka o n a b c d e f g h j)::(kb ah p s u)::·) F9 vt fun r3 I10 F10=>(∃m:Nat,Inv34 v t ag 0 m I10 F10 I10 F10)∧∀(i:Int) (m1:Nat) (I11:cc) (F11:b8),cc.le I10 I11→Inv34 v t ag i m1 I10 F10 I11 F11→(Dt (i<(t:Int)) ((0≤i∧i<(t:Int))∧∃ad:Addr,v=some ad∧∃(cs:List Value) (el:Nat) (F12:b8),List.Perm F11 ((((ad.add (Int.toNat i*2)).add 0).block,Obj.cells cs.toArray el (0,0))::F12)∧((ad.add (Int.toNat i*2)).add 0).spot=none∧((ad.add (Int.toNat i*2)).add 0).off+1≤cs.length∧(∃m2:Nat,m2<m1∧Inv34 v t ag (IntKind.wrap .i64 (i+1)) m2 I10 F10 I11 ((((ad.add (Int.toNat i*2)).add 0).block,Obj.cells (cj ((ad.add (Int.toNat i*2)).add 0).off [vi (-1)] cs).toArray el (0,0))::F12))) (cy P 22 #[vl an ao ap,vl ai aj ak] I11 ((k l)::(ka o n a b c d e f g h j)::(kb ah p s u)::·) F11 vt fun r4 I12 F13=>(It r2 (It r4 (It (r0==p) (It (al==s) (It (ar==r0) (It (au==al) (∃q:Bool,cU P .eql 44 (.tmp 102) (.const (Value.nilIface)) aq Value.nilIface q∧(It (q==(r0==0)) (Q (.returned (vt r3)) I12 F13) (Q (.returned (vt false)) I12 F13))) (Q (.returned (vt false)) I12 F13)) (Q (.returned (vt false)) I12 F13)) (Q (.returned (vt false)) I12 F13)) (Q (.returned (vt false)) I12 F13)) (Q (.returned (vt false)) I12 F13)) (Q (.returned (vt false)) I12 F13)))))))
theorem gG.vc{u:Bs}{k:OA}{l n:Nat}{o:OA}{p q:Nat}{r:OA}{s t:Nat}{I:cc}{F:b8}{Q:cd}(Inv34:OA→Nat→Nat→Int→Nat→cc→b8→cc→b8→Prop)(h:gG.V (fun W a b c d e f g h i j=>(W,Obj.cells #[.string a,.slice b c d,.slice e f g,.slice h i j] 39 (0,0))) (fun W a b c=>(W,Obj.cells #[.int .i64 a,.int .i64 b,.bool c] 51 (0,0))) (fun b=>(b,Obj.cells #[.string u,.slice k l n,.slice o p q,.slice r s t] 39 (0,0))) (.int .i64) .string .slice .bool u k l n o p q r s t I F Q Inv34):cf P 6 #[.agg #[.string u,.slice k l n,.slice o p q,.slice r s t]] I F Q :=
 tw (A:=(cK [3001,3003,14003,18000,18002,18008,18014,18019,18024,18031] [] [9,17,18,19,20,21,22,23] uq [(34,⟨[(18,(.int .i64))],[],fun fs I0 F0 vs m I F=>match fs,vs with | [.slice y0 y1 y2],[.int _ y3]=>Inv34 y0 y1 y2 y3 m I0 F0 I F | _,_=>False,[6],[]⟩)] [] [] [] [] [] [])) [9,17,18,19,20,21,22,23] func6 h
end Go.Lx
namespace Go.Lx
open Go.Vc
theorem _root_.Go.Vc.cf.nd{P:Program}{f:FuncId}{args:Array Value}{I:cc}{F:b8}{Q:Ending→cc→b8→Prop}(h:cf P f args I F Q):cf P f args I F fun e I' G=>Q e I' G∧(G.map Prod.fst).Nodup :=
 h.keep fun e I' G w hl hs hq=>⟨I',G,cc.le_refl I',hs,hq,hs.nd⟩
theorem Hq(s:cw)(hl:s.p.oK){I:cc}{F:b8}(hok:s.Ok I F)(hg:Gl I) :
  cf P 19 #[s.v] I F fun e I' G=>∃(a:Option Addr) (n:Nat) (w:Value) (A:b8),e=.returned (.tuple #[.slice a n n,w])∧yU s.p.types w I'∧n=s.p.said.length∧G.Perm (A++F) ∧
   ((a=none∧n=0∧A=[])∨∃bl,a=some (⟨bl,0,none⟩:Addr)∧A=[(bl,.cells (s.p.said.flatMap kD).toArray 57 (0,0))]) :=
 (qF s hl hok hg).mono fun e I' G l1 hq=>by
   rcases hq with ⟨he,v,h1,h2,h3⟩ | ⟨he,bl,h1,h2⟩
   ·refine⟨none,0,v,[],h1,h2, ?_,by rw[h3];exact .refl _,(.inl ⟨rfl,rfl,rfl⟩)⟩
    unfold cu.said;rw[if_pos he];rfl
   ·have hz:s.p.types=sK:=yW s.p he
    have hsd:s.p.said=s.p.iz:=if_neg (by simpa using he)
    refine⟨some ⟨bl,0,none⟩,s.states.length,.nilIface,[(bl,.cells (s.p.iz.flatMap kD).toArray 57 (0,0))],h1,by rw[hz];exact fQ.ok, ?_,h2,.inr ⟨bl,rfl,by rw[hsd]⟩⟩
    rw[hsd,kI]
theorem Dn{a:Option Addr}{n:Nat}{l:List C2}{A G:b8}{I:cc}(hn:n=l.length)(h:(a=none∧n=0∧A=[])∨∃bl,a=some (⟨bl,0,none⟩:Addr)∧A=[(bl,.cells (l.flatMap kD).toArray 57 (0,0))])(hs:∀x∈A,x∈G):dq I G 2 kD a n l:=by
 rcases h with ⟨_,h0,_⟩ | ⟨bl,ha,hA⟩
 ·refine⟨hn,fun hne=>absurd (List.length_eq_zero_iff.1 (by omega)) hne⟩
 ·subst hA ha hn
  exact dq.EV (f:=kD) (z:=2) (fun _=>rfl) (hs _ (.head _)) fun k _=>by rw[List.getElem?_toArray]
theorem GX(l:List C2):(l.flatMap kD).length=l.length*2:=jI (z:=2) (f:=kD) (fun _=>rfl) l
theorem AY{α:Type}{n:Nat}{v:α}{cs:List α}(h:n+1≤cs.length):(cj n [v] cs).length=cs.length:=vP (by simpa using h)
set_option maxHeartbeats 2000000 in
theorem ur(s:cw)(hss:s.p.cW)(I:cc)(hg:Gl I)(F:b8)(hs:s.Ok I F):cf P 6 #[s.v] I F fun e I' G=>e=.returned (.bool true):=by
 refine gG.vc (fun ra rn rc i m I0 F0 I' F'=>0≤i∧i≤rn∧m=(rn-i).toNat∧(ra=none→F'=F0)∧∀bl,ra=some (⟨bl,0,none⟩:Addr)→∃(cs:List Value) (R:b8),F'.Perm ((bl,.cells cs.toArray 57 (0,0))::R)∧cs.length=rn*2∧∀y∈F0,y.1≠bl→y∈R) ?_
 unfold gG.V
 intro b_s
 have oks:∀{J:cc} {G:b8},cc.le I J→(∀a,a∈F→a∈G)→s.Ok J G:=fun hl h=>hs.mono hl h
 refine cf.ret (zf hg _) fun I1 l1=>⟨_,rfl,F,.refl _, ?_⟩
 refine (Cx s hss I1 _ (oks l1 fun a ha=>by simp only[List.mem_cons,List.mem_append];simp only[ha,true_or,or_true])).mono fun e I2 G h2 ⟨r1,he,hG,f1⟩=>?_
 subst hG
 refine⟨_,he,F,.refl _,fun h=>(by cases h),fun _=>⟨fun _=>rfl,fun e1=>?_⟩⟩
 have l2:=cc.le_trans l1 h2
 have ls:=f1 e1
 refine (yJ s ls I2 _ (oks l2 fun a ha=>by simp only[List.mem_cons,List.mem_append];simp only[ha,true_or,or_true])).mono fun e I3 G h3 ⟨x,Hx,he,px,hOx,hG⟩=>?_
 have l3:=cc.le_trans l2 h3
 refine⟨_,_,_,_,_,_,_,_,_,_,he,Hx++F,hG.trans (cT fun z=>by simp only[di,cS,dp];omega),fun b_x=>?_⟩
 have lx:x.p.dC:=by rw[px];exact ls
 have hsx:x.p.cW:=by rw[px];exact hss
 refine (Hq x lx.thin (hOx.ok fun a ha=>by simp only[List.mem_cons,List.mem_append];simp only[ha,true_or,or_true]) (hg.mono l3)).mono fun e I4 G h4 ⟨a1,n1,w1,A1,he,hw1,hn1,hG,hA1⟩=>?_
 have l4:=cc.le_trans l3 h4
 refine⟨_,_,_,w1,he,A1++(Hx++F),hG.trans (cT fun z=>by simp only[di,cS,dp];omega), ?_⟩
 refine (Hq x lx.thin (hOx.ok fun a ha=>by simp only[List.mem_cons,List.mem_append];simp only[ha,true_or,or_true]) (hg.mono l4)).nd.mono fun e I5 G h5 ⟨⟨a2,n2,w2,A2,he,hw2,hn2,hG,hA2⟩,hnd⟩=>?_
 rw[(hG.map Prod.fst).nodup_iff] at hnd
 have l5:=cc.le_trans l4 h5
 refine⟨_,_,_,w2,he,A2++(A1++(Hx++F)),hG.trans (cT fun z=>by simp only[di,cS,dp];omega), ?_⟩
 have hw1:fQ I5 x.p.types w1:=fQ.mono hw1 h5
 refine cf.ret (xY (hg.mono l5) (yW x.p) hw1 _) fun I6 h6=>⟨_,_,rfl,A2++(A1++(Hx++F)),.refl _, ?_⟩
 have l6:=cc.le_trans l5 h6
 refine cf.ret (xY (hg.mono l6) (yW x.p) (fQ.mono hw2 h6) _) fun I7 h7=>⟨_,_,rfl,A2++(A1++(Hx++F)),.refl _, ?_⟩
 have l7:=cc.le_trans l6 h7
 refine (wP s ls.thin (oks l7 fun a ha=>by simp only[List.mem_cons,List.mem_append];simp only[ha,true_or,or_true])).mono fun e I8 G h8 ⟨a3,n3,c3,he,hS,hG⟩=>?_
 subst hG
 have l8:=cc.le_trans l7 h8
 refine⟨_,_,_,_,_,_,he,A2++(A1++(Hx++F)),.refl _,fun b_f=>?_⟩
 have hpx:s.p.said=x.p.said:=by rw[px]
 rw[hpx] at hS
 have hle:x.p.said.length≤1048576:=by
  unfold cu.said
  split
  ·decide
  ·have:=lx.states;have:=kI x;simp only[cw.p,List.length_map] at *;omega
 refine cf.ret (pq (Dn hn1 hA1 fun a ha=>by simp only[List.mem_cons,List.mem_append];simp only[ha,true_or,or_true]) (hS.yr _) (by omega)) fun I9 h9=>⟨_,rfl,A2++(A1++(Hx++F)),.refl _, ?_⟩
 have l9:=cc.le_trans l8 h9
 refine cf.ret (xh (u:=s) lx hsx px hOx fun a ha=>by simp only[List.mem_cons,List.mem_append];simp only[ha,true_or,or_true] (oks l9 fun a ha=>by simp only[List.mem_cons,List.mem_append];simp only[ha,true_or,or_true])) fun I10 h10=>⟨_,rfl,A2++(A1++(Hx++F)),.refl _, ?_⟩
 have key:∀(i:Int) {J:cc},0≤i→¬i<(n1:Int)→∀F11:b8,(a1=none→F11=A2++(A1++(Hx++F)))→(∀bl,a1=some (⟨bl,0,none⟩:Addr)→∃(cs:List Value) (R:b8),F11.Perm ((bl,.cells cs.toArray 57 (0,0))::R)∧cs.length=n1*2∧∀y∈A2++(A1++(Hx++F)),y.1≠bl→y∈R)→∀z∈A2,z∈F11:=by
  intro i J g0 g1 F11 k1 k2 z hz
  rcases hA1 with ⟨ha,_,_⟩ | ⟨bl,ha,hA⟩
  ·rw[k1 ha];exact List.mem_append_left _ hz
  ·obtain⟨cs,R,hp,_,hR⟩:=k2 bl ha
   refine hp.mem_iff.2 (.tail _ (hR z (List.mem_append_left _ hz) fun hb=>?_))
   rcases hA2 with ⟨_,_,hB⟩ | ⟨bl2,_,hB⟩
   ·rw[hB] at hz;cases hz
   ·rw[hB,List.mem_singleton] at hz
    rw[hA,hB] at hnd
    have hb:bl2=bl:=by rw[hz] at hb;exact hb
    have:=(List.nodup_cons.1 hnd).1
    exact this (by rw[hb];simp)
 refine⟨⟨_,by omega,by omega,rfl,fun _=>rfl,fun bl ha=>?_⟩,fun i m I11 F11 l11 ⟨g0,g1,gm,k1,k2⟩=>⟨fun hlt=>?_,fun hlt=>?_⟩⟩
 ·rcases hA1 with ⟨h,_⟩ | ⟨bl',h,hA⟩
  ·rw[h] at ha;cases ha
  ·rw[h] at ha
   obtain rfl:bl'=bl:=by simpa using ha
   refine⟨x.p.said.flatMap kD,A2++(Hx++F),by rw[hA];exact (cT fun z=>by simp only[di,cS,dp];omega),by rw[GX];omega,fun y hy hne=>?_⟩
   rw[hA] at hy
   rcases List.mem_append.1 hy with hy | hy
   ·exact List.mem_append_left _ hy
   ·rcases List.mem_cons.1 hy with rfl | hy
    ·exact absurd rfl hne
    ·exact List.mem_append_right _ hy
 ·have hlt:=of_decide_eq_true hlt
  rcases hA1 with ⟨_,h0,_⟩ | ⟨bl,ha,hA⟩
  ·omega
  ·obtain⟨cs,R,hp,hl,hR⟩:=k2 bl ha
   refine⟨⟨g0,hlt⟩,_,ha,cs,57,R, ?_⟩
   rw[wL]
   refine⟨hp,rfl,by show i.toNat*2+0+1≤_;omega,(n1-(i+1)).toNat,by omega, ?_⟩
   rw[cY (n:=i+1) (by omega)]
   refine⟨by omega,by omega,rfl,(fun h=>by rw[ha] at h;cases h),fun bl' ha'=>?_⟩
   rw[ha] at ha'
   obtain rfl:bl=bl':=by simpa using ha'
   exact⟨_,R,.refl _,by rw[AY (by show i.toNat*2+0+1≤_;omega)];exact hl,hR⟩
 ·have hlt:=of_decide_eq_false hlt
  have hA:=key i (J:=I11) g0 hlt F11 k1 k2
  refine cf.ret (pq (Dn hn2 hA2 fun z hz=>.tail _ (.tail _ (.tail _ (hA z hz)))) ((hS.mono (cc.le_trans h9 (cc.le_trans h10 l11))).yr _) (by omega)) fun I12 h12=>⟨_,rfl,F11,.refl _, ?_⟩
  have hq:=(FV hw1 (t:=44) (by kernel_rfl) (x:=.tmp 102))
  rw[px] at hq ⊢
  refine⟨fun _=>⟨fun _=>⟨fun _=>⟨fun _=>⟨fun _=>⟨fun _=>⟨_,hq,fun _=>rfl,fun h=>?_⟩,fun h=>?_⟩,fun h=>?_⟩,fun h=>?_⟩,fun h=>?_⟩,fun h=>?_⟩,fun h=>?_⟩<;>simp at h
end Go.Lx
namespace Go.Vc
open Go.ChangeShapes Go.WideShapes Go.ChangeAt Go.RowKit
theorem lC.cell{w w':World}(h:lC w w'){a:Addr}(ha:a.block<w.heap.size):w'.cell? a=w.cell? a:=by
 unfold World.cell?;rw[h.heap _ ha]
theorem lC.same{w w':World}(h:lC w w'){p:MemPlace}(hp:p.block<w.heap.size):w.sameAt w' p:=by
 cases p with
 | cell b off=>exact h.cell (a:=⟨b,off,none⟩) hp
 | map b=>exact h.heap b hp
theorem qG{H:Type}{enc:TypeId×Value→H}{P:Program}{T:TypeId→Prop}{w w':World}(K:Kids P T)(hsz:∀{t e:TypeId},T t→P.underlying t=some (.slice e)→0<P.cellsOf e)(st:lC w w'){sp':Nat→Bool} :
  ∀{ts:List TypeId} {vs:List Value} {ds:List (DataW H)} {ps:List MemPlace},(∀t∈ts,T t)→DataW.TrodAll enc P w 0 (fun _=>true) true ts vs ds ps→(∀p∈ps,sp' p.block=true)→DataW.TrodAll enc P w' 0 sp' true ts vs ds ps
 | [],[],[],ps,_,h,_=>h
 | t::ts,v::vs,d::ds,ps,ht,⟨p,q,⟨n,h1⟩,h2,e⟩,hs=>by
   subst e
   have hlt:∀x∈p,x.block<w.heap.size:=DataW.trod_lt n t v.cells.toList (d,p) h1
   refine⟨p,q,⟨n, ?_⟩,qG K hsz st (fun t' ht'=>ht t' (List.mem_cons_of_mem _ ht')) h2 (fun x hx=>hs x (List.mem_append_right _ hx)),rfl⟩
   exact DataW.trod_stays K hsz (fun h=>by cases h) (ht t (List.mem_cons_self ..)) h1 (fun x hx=>st.same (hlt x hx)) (fun x hx=>hs x (List.mem_append_left _ hx))
 | [],_::_,_,_,_,h,_=>h.elim
 | [],[],_::_,_,_,h,_=>h.elim
 | _::_,[],_,_,_,h,_=>h.elim
 | _::_,_::_,[],_,_,h,_=>h.elim
theorem ue{α:Type}{p:Nat→α→Prop}:∀(n:Nat),(∀i,i<n→∃x,p i x)→∃l:List α,l.length=n∧∀(i:Nat) (x:α),l[i]? = some x→p i x
 | 0,_=>⟨[],rfl,fun i x h=>by simp at h⟩
 | n+1,h=>by
   obtain⟨l,hl,hp⟩:=ue n fun i hi=>h i (by omega)
   obtain⟨x,hx⟩:=h n (by omega)
   refine⟨l++[x],by simp[hl],fun i y hy=>?_⟩
   rw[List.getElem?_append] at hy
   split at hy
   ·exact hp i y hy
   ·rename_i hi
    have:i-l.length=0:=by
     rcases Nat.eq_zero_or_pos (i-l.length) with h | h
     ·exact h
     ·rw[List.getElem?_eq_none (by simp;omega)] at hy;cases hy
    rw[this] at hy
    simp only[List.getElem?_cons_zero,Option.some.injEq] at hy
    subst hy
    have:i=n:=by omega
    rw[this];exact hx
theorem Rd.Iz{W:World}{ad:Addr}{n:Nat}{cs:List Value}{base:Nat}(h:W.cells? base ad n=some cs)(hn:0<n)(G:b8):ad.spot=none→Rd (cc.all W) G ad cs:=by
 intro hsp
 obtain⟨_,hl,hc⟩:=World.cells?_some h
 have h0:W.cell? ad=cs[0]?:=by have:=hc 0 hn;rwa [show ad.add 0=ad from rfl] at this
 have hlen:cs.length=n:=hl
 unfold World.cell? at h0
 cases hb:W.heap[ad.block]? with
 | none=>rw[hb] at h0;simp only at h0;rw[List.getElem?_eq_getElem (by omega)] at h0;cases h0
 | some o =>
   cases o with
   | cells c e fz =>
     refine⟨hsp,c,e,fz,.inl hb,fun j hj=>?_⟩
     have h1:=hc j (by omega)
     have hadd:ad.add j=⟨ad.block,ad.off+j,none⟩:=by
      obtain⟨b,off,sp⟩:=ad
      simp only at hsp;subst hsp
      unfold Addr.add;split<;>simp_all
     rw[hadd] at h1
     unfold World.cell? at h1
     simp only[hb] at h1
     simpa using h1
   | _=>rw[hb] at h0;simp only at h0;rw[List.getElem?_eq_getElem (by omega)] at h0;cases h0
def cB{H α:Type}(en:TypeId×Value→H)(P:Program)(W:World)(sp:Nat→Bool)(hd:Bool)(n:Nat)(t:TypeId)(f:α→List Value)(R S:α→Prop):Prop :=
 ∀cs d ps,DataW.trod en P W 0 sp hd n t cs=some (d,ps)→∃x,cs=f x∧R x∧((∀m∈d.weights P t,m≤reachBytes)→S x)
def cP{H α:Type}(en:TypeId×Value→H)(P:Program)(W:World)(sp:Nat→Bool)(hd:Bool)(n:Nat)(z:Nat)(fs:List (TypeId×Nat))(o:Nat)(f:α→List Value)(R S:α→Prop):Prop :=
 ∀(cs:List Value) (xs:List (DataW H×List MemPlace)),(fs.mapM fun p=>DataW.trod en P W 0 sp hd n p.1 ((cs.drop p.2).take (P.cellsOf p.1)))=some xs→cs.length=z→∃x,cs.drop o=f x∧R x∧((∀m∈DataW.weightsEach P (fs.map Prod.fst) (xs.map Prod.fst),m≤reachBytes)→S x)
def uJ(P:Program)(t:TypeId)(l:List (TypeId×Nat))(z:Nat):Bool:=match P.underlying t with
 | some (.struct fs)=>(fs.toList.map fun f=>(f.type,f.offset))==l&&P.cellsOf t==z
 | _=>false
theorem AZ{α β γ:Type}(h:α→β)(g:β→Option γ):∀l:List α,(l.map h).mapM g=l.mapM fun x=>g (h x)
 | []=>rfl
 | x::l=>by simp[List.mapM_cons,AZ h g l]
section
variable {H:Type} {en:TypeId×Value→H} {P:Program} {W:World} {sp:Nat→Bool} {hd:Bool} {n:Nat}
theorem cP.nil{z:Nat}:cP en P W sp hd n z [] z (fun _:Unit=>[]) (fun _=>True) (fun _=>True):=by
 intro cs xs h hl
 exact⟨(),List.drop_eq_nil_of_le (by omega),trivial,fun _=>trivial⟩
theorem cP.cons{α β:Type}{z o k:Nat}{t:TypeId}{fs:List (TypeId×Nat)}{f:α→List Value}{g:β→List Value}{R S:α→Prop}{R' S':β→Prop}(h:cB en P W sp hd n t f R S)(hc:P.cellsOf t=k)
  (hs:cP en P W sp hd n z fs (o+k) g R' S'):cP en P W sp hd n z ((t,o)::fs) o (fun x:α×β=>f x.1++g x.2) (fun x=>R x.1∧R' x.2) (fun x=>S x.1∧S' x.2):=by
 intro cs xs hm hl
 rw[List.mapM_cons] at hm
 cases h0:DataW.trod en P W 0 sp hd n t ((cs.drop o).take (P.cellsOf t)) with
 | none=>simp[h0] at hm
 | some x0 =>
   cases h1:(fs.mapM fun p=>DataW.trod en P W 0 sp hd n p.1 ((cs.drop p.2).take (P.cellsOf p.1))) with
   | none=>simp[h0,h1] at hm
   | some ys =>
     simp[h0,h1] at hm
     subst hm
     obtain⟨d0,p0⟩:=x0
     obtain⟨x,e1,r1,s1⟩:=h _ _ _ h0
     obtain⟨y,e2,r2,s2⟩:=hs _ _ h1 hl
     refine⟨(x,y), ?_,⟨r1,r2⟩,fun hw=>⟨s1 fun m hm=>hw m ?_,s2 fun m hm=>hw m ?_⟩⟩
     ·show cs.drop o=f x++g y
      rw[←e1,←e2,hc,←List.drop_drop,List.take_append_drop]
     ·simp only[List.map_cons,DataW.weightsEach,List.mem_append];exact .inl hm
     ·simp only[List.map_cons,DataW.weightsEach,List.mem_append];exact .inr hm
theorem cB.struct{α:Type}{z:Nat}{t:TypeId}{fs:List (TypeId×Nat)}{f:α→List Value}{R S:α→Prop}(ht:uJ P t fs z=true)(h:cP en P W sp hd n z fs 0 f R S):cB en P W sp hd (n+1) t f R S:=by
 intro cs d ps hr
 unfold uJ at ht
 split at ht
 ·rename_i gs hg
  simp only[Bool.and_eq_true,beq_iff_eq] at ht
  obtain⟨ht,hz⟩:=ht
  simp only[DataW.trod,hg] at hr
  split at hr
  ·rename_i hl
   rw[hz] at hl
   cases hm:gs.toList.mapM fun f=>DataW.trod en P W 0 sp hd n f.type ((cs.drop f.offset).take (P.cellsOf f.type)) with
   | none=>rw[hm] at hr;cases hr
   | some xs =>
     rw[hm] at hr
     simp only[Option.map_some,Option.some.injEq,Prod.mk.injEq] at hr
     have hm':(fs.mapM fun p=>DataW.trod en P W 0 sp hd n p.1 ((cs.drop p.2).take (P.cellsOf p.1)))=some xs:=by rw[←ht,AZ];exact hm
     obtain⟨x,e,r,s⟩:=h cs xs hm' hl
     refine⟨x,by simpa using e,r,fun hw=>s fun m hmm=>hw m ?_⟩
     rw[←hr.1]
     simp only[DataW.weights,hg]
     have:gs.toList.map (fun f=>f.type)=fs.map Prod.fst:=by rw[←ht,List.map_map];rfl
     rw[this];exact hmm
  ·cases hr
 ·cases ht
theorem cB.map{α β:Type}{t:TypeId}{f:α→List Value}{g:β→List Value}{R S:α→Prop}{R' S':β→Prop}(h:cB en P W sp hd n t f R S)(φ:α→β)(hf:∀x,R x→f x=g (φ x))(hr:∀x,R x→R' (φ x))(hs:∀x,R x→S x→S' (φ x)):cB en P W sp hd n t g R' S':=by
 intro cs d ps hd
 obtain⟨x,e,r,s⟩:=h cs d ps hd
 exact⟨φ x,e.trans (hf x r),hr x r,fun hw=>hs x r (s hw)⟩
theorem cB.int{k:IntKind}{t:TypeId}(ht:P.underlying t=some (.int k)):cB en P W sp hd n t (fun x:Int=>[.int k x]) (fun x=>(Lit.int k x).wf=true) (fun _=>True):=by
 intro cs d ps h
 obtain⟨x,e,_,hw⟩:=DataW.trod_int ht h
 exact⟨x,e,hw,fun _=>trivial⟩
theorem cB.str{t:TypeId}(ht:P.underlying t=some .string):cB en P W sp hd n t (fun x:ByteArray=>[.string x]) (fun x=>x.size≤maxLen) (fun x=>x.size≤reachBytes):=by
 intro cs d ps h
 obtain⟨s,e,hx,hl⟩:=DataW.trod_string ht h
 refine⟨s,e,hl,fun hw=>?_⟩
 simp only[Prod.mk.injEq] at hx
 have:=hw s.data.toList.length (by rw[hx.1];simp[DataW.weights])
 simpa using this
structure IA (β:Type) where
 a:Option Addr
 n:Nat
 c:Nat
 l:List β
theorem cB.slice{β:Type}{z by':Nat}{t e:TypeId}{f:β→List Value}{R S:β→Prop}(ht:P.underlying t=some (.slice e))(hc:P.cellsOf e=z)(hz:0<z)(hb:P.bytesOf e=by')(hb1:1≤by')(hf:∀x,(f x).length=z)(h:cB en P W sp hd n e f R S) :
  cB en P W sp hd (n+1) t (fun s:IA β=>[.slice s.a s.n s.c]) (fun s=>dq (cc.all W) [] z f s.a s.n s.l∧∀x∈s.l,R x) (fun s=>s.l.length≤reachBytes∧∀x∈s.l,S x):=by
 intro cs d ps hr
 rcases DataW.trod_slice ht hr with ⟨h1,h2⟩ | ⟨ad,len,cap,elems,rest,n',hn,hcs,hx,_,_,_,hlen,hel,_,_⟩
 ·exact⟨⟨none,0,0,[]⟩,h1,⟨⟨rfl,fun h=>absurd rfl h⟩,fun x hx=>by cases hx⟩,fun _=>⟨by simp,fun x hx=>by cases hx⟩⟩
 ·cases hn
  simp only[Prod.mk.injEq] at hx
  obtain⟨hdd,hps⟩:=hx
  clear hps
  subst hcs
  have hone:∀i,i<len→∃x,Rd (cc.all W) [] (ad.add (i*z)) (f x)∧R x∧((∀y∈elems,∀m∈y.1.weights P e,m≤reachBytes)→S x):=by
   intro i hi
   have hfy:=hel i hi
   obtain⟨y,hy⟩:∃y,elems[i]? = some y:=⟨_,List.getElem?_eq_getElem (by omega)⟩
   rw[hc,hy] at hfy
   cases hcs:W.cells? 0 (ad.add (i*z)) z with
   | none=>rw[hcs] at hfy;cases hfy
   | some cs =>
     rw[hcs] at hfy
     simp only[Option.bind_some] at hfy
     obtain⟨x,e1,r1,s1⟩:=h cs y.1 y.2 hfy
     subst e1
     have hspk:(ad.add (i*z)).spot=none:=by
      obtain⟨_,hl,hc'⟩:=World.cells?_some hcs
      have h0:=hc' 0 hz
      rw[show (ad.add (i*z)).add 0=ad.add (i*z) from rfl,List.getElem?_eq_getElem (by rw[hf];omega)] at h0
      cases hs:(ad.add (i*z)).spot with
      | none=>rfl
      | some q =>
        unfold World.cell? at h0
        split at h0<;>simp_all
     refine⟨x,Rd.Iz hcs hz [] hspk,r1,fun hw=>s1 fun m hm=>hw y (List.mem_of_getElem? hy) m hm⟩
  obtain⟨l,hll,hlx⟩:=ue len hone
  refine⟨⟨some ad,len,cap,l⟩,rfl,⟨⟨hll.symm,fun _=>⟨ad,rfl,fun i x hx=>(hlx i x hx).1⟩⟩,fun x hx=>?_⟩,fun hw=>⟨?_,fun x hx=>?_⟩⟩
  ·obtain⟨i,hi,rfl⟩:=List.mem_iff_getElem.1 hx
   exact (hlx i _ (List.getElem?_eq_getElem hi)).2.1
  ·have h1:=hw ((elems.length+rest.length)*by') (by rw[hdd];simp only[DataW.weights,ht,List.length_map,hb];exact List.mem_cons_self ..)
   have h2:elems.length+rest.length≤(elems.length+rest.length)*by':=Nat.le_mul_of_pos_right _ hb1
   show l.length≤reachBytes
   omega
  ·obtain⟨i,hi,rfl⟩:=List.mem_iff_getElem.1 hx
   refine (hlx i _ (List.getElem?_eq_getElem hi)).2.2 fun y hy m hm=>hw m ?_
   rw[hdd]
   simp only[DataW.weights,ht]
   refine List.mem_cons_of_mem _ (List.mem_append_left _ ?_)
   clear hx hlen hel hone hlx hdd hr hw hi hll
   induction elems with
   | nil=>cases hy
   | cons q qs ihq =>
     simp only[List.map_cons,DataW.weightsAll,List.mem_append]
     rcases List.mem_cons.1 hy with rfl | hy
     ·exact .inl hm
     ·exact .inr (ihq hy)
theorem cB.zero{α:Type}{t:TypeId}{f:α→List Value}{R S:α→Prop}:cB en P W sp hd 0 t f R S:=fun cs d ps h=>by cases h
end
end Go.Vc
namespace Go.Lx
open Go.Vc Go.ChangeShapes Go.WideShapes Go.ChangeAt Go.RowKit
def Ki:List (TypeId×Nat):=[(22,0),(23,1),(24,2),(2,3),(25,4),(9,5),(26,6),(3,7)]
theorem IB{x:Int}(h:(Lit.int .u8 x).wf=true):0≤x∧x≤255:=by
 simp[Lit.wf,IntKind.min,IntKind.max,IntKind.signed,IntKind.bits] at h;omega
theorem Cy{x:Int}(h:(Lit.int .i64 x).wf=true) : -9223372036854775808≤x∧x≤9223372036854775807:=by
 simp[Lit.wf,IntKind.min,IntKind.max,IntKind.signed,IntKind.bits] at h;omega
theorem Wf.mk{t:Nd}(h:t.px.Fit)(hk:∀k∈t.kids,k.px.Wf):t.px.Wf:=by
 intro y hy
 rw[←z9] at hy
 obtain⟨x,hx,rfl⟩:=List.mem_map.1 hy
 rw[Nd.rR] at hx
 rcases List.mem_cons.1 hx with rfl | hx
 ·exact h
 ·have hL:∀l:List Nd,(∀k∈l,k.px.Wf)→x∈Nd.iF l→x.px.Fit:=by
   intro l
   induction l with
   | nil=>intro _ h;rw[Nd.iF] at h;cases h
   | cons z r ih =>
     intro hz h
     rw[Nd.iF] at h
     rcases List.mem_append.1 h with h | h
     ·exact Wf.nd (hz z (List.mem_cons_self ..)) x h
     ·exact ih (fun k hk=>hz k (List.mem_cons_of_mem _ hk)) h
  exact hL _ hk hx
theorem qi{H:Type}{en:TypeId×Value→H}{W:World}{sp:Nat→Bool}{hd:Bool}:∀n,cB en P W sp hd n 28 Nd.enc (fun t=>cC (cc.all W) [] t∧t.px.Wf) (fun t=>t.px.ew):=by
 intro n
 induction n using Nat.strongRecOn with
 | ind n ih =>
   cases n with
   | zero=>exact cB.zero
   | succ n =>
     have hsl:cB en P W sp hd n 26 (fun s:IA Nd=>[.slice s.a s.n s.c]) (fun s=>dq (cc.all W) [] 8 Nd.enc s.a s.n s.l∧∀x∈s.l,cC (cc.all W) [] x∧x.px.Wf) (fun s=>s.l.length≤reachBytes∧∀x∈s.l,x.px.ew):=by
      cases n with
      | zero=>exact cB.zero
      | succ n=>exact cB.slice (z:=8) (by':=72) (by kernel_rfl) (by kernel_rfl) (by decide) (by kernel_rfl) (by decide) Nd.nq (ih n (by omega))
     refine (cB.struct (z:=8) (fs:=Ki) (by kernel_rfl) ((cP.cons (k:=1) (cB.int (k:=.u8) (by kernel_rfl)) (by kernel_rfl)<|cP.cons (k:=1) (cB.int (k:=.u8) (by kernel_rfl)) (by kernel_rfl)<|cP.cons (k:=1) (cB.int (k:=.u8) (by kernel_rfl)) (by kernel_rfl) <|
      cP.cons (k:=1) (cB.int (k:=.i64) (by kernel_rfl)) (by kernel_rfl)<|cP.cons (k:=1) (cB.int (k:=.u8) (by kernel_rfl)) (by kernel_rfl)<|cP.cons (k:=1) (cB.str (by kernel_rfl)) (by kernel_rfl)<|cP.cons (k:=1) hsl (by kernel_rfl) <|
      cP.cons (k:=1) (cB.int (k:=.i64) (by kernel_rfl)) (by kernel_rfl) cP.nil))).map (fun x=>Nd.mk x.1 x.2.1 x.2.2.1 x.2.2.2.1 x.2.2.2.2.1 x.2.2.2.2.2.1 x.2.2.2.2.2.2.1.a x.2.2.2.2.2.2.1.c x.2.2.2.2.2.2.1.l x.2.2.2.2.2.2.2.1) ?_ ?_ ?_
     ·intro ⟨k,o,ty,m,f,s,⟨a,l,c,ks⟩,q,u⟩ ⟨_,_,_,_,_,_,⟨h7,_⟩,_⟩
      have hl:l=ks.length:=h7.1
      subst hl;rfl
     ·intro ⟨k,o,ty,m,f,s,⟨a,l,c,ks⟩,q,u⟩ ⟨h1,h2,h3,h4,h5,h6,⟨h7,h8⟩,h9,_⟩
      have hl:l=ks.length:=h7.1
      subst hl
      refine⟨.mk h7 fun x hx=>(h8 x hx).1,Wf.mk ?_ fun x hx=>(h8 x hx).2⟩
      unfold Px.Fit
      rw[Nd.cG,Nd.eP,Nd.gJ,Nd.xb,Nd.gQ,Nd.qX]
      exact⟨IB h1,IB h2,IB h3,Cy h4,IB h5,Cy h9⟩
     ·intro ⟨k,o,ty,m,f,s,⟨a,l,c,ks⟩,q,u⟩ _ ⟨_,_,_,_,_,g6,⟨g7,g8⟩,_⟩
      refine .mk (by rw[Nd.fF];exact g6) (by rw[Nd.ja];exact g7) fun x hx=>?_
      rw[Nd.db] at hx
      obtain⟨y,hy,rfl⟩:=List.mem_map.1 hx
      exact g8 y hy
theorem IC{P:Program}{W:World}{r:Reach}{b0:Nat}{t:TypeId}{v:Value}{fs:List (TypeId×Nat)}{z:Nat}(hst:uJ P t fs z=true)(hval:Value.okWide P W r b0 t v):v=.agg v.cells.toList.toArray:=by
 unfold uJ at hst
 split at hst
 ·rename_i gs hg
  have h5:=okWide_struct hg hval
  obtain⟨cs,hv,hcs⟩:=h5
  clear hcs
  subst hv
  rfl
 ·cases hst
def FW(x:Int):Prop:=-9223372036854775808≤x∧x≤9223372036854775807
def JX(x:Int):Prop:=0≤x∧x≤255
def dA.Wf(d:dA):Prop:=(JX d.kind∧JX d.order∧FW d.pos)∧d.side.Wf∧d.qty.Wf∧d.price.Wf∧d.value.Wf
def cD.Wf(r:cD):Prop:=FW r.pos∧r.when.Wf∧∀d∈r.dos,d.Wf
def cq.Wf(x:cq):Prop:=FW x.pos∧∀r∈x.rules,r.Wf
def dh.Wf(r:dh):Prop:=(JX r.cO∧FW r.pos)∧r.init.Wf
def cx.Wf(r:cx):Prop:=FW r.pos
def cu.Wf(s:cu):Prop:=(∀r∈s.regs,r.Wf)∧(∀r∈s.slots,r.Wf)∧∀x∈s.states,x.Wf
section
variable {H:Type} {en:TypeId×Value→H} {W:World} {sp:Nat→Bool} {hd:Bool}
def JY:List (TypeId×Nat):=[(9,0),(24,1),(28,2),(3,10)]
theorem Ex(n:Nat):cB en P W sp hd (n+1) 77 cH.enc (fun r=>r.Ok (cc.all W) []∧r.p.Wf) (fun r=>r.p.cW):=by
 refine (cB.struct (z:=11) (fs:=JY) (by kernel_rfl) (cP.cons (k:=1) (cB.str (by kernel_rfl)) (by kernel_rfl)<|cP.cons (k:=1) (cB.int (k:=.u8) (by kernel_rfl)) (by kernel_rfl) <|
  cP.cons (k:=8) (qi n) (by kernel_rfl)<|cP.cons (k:=1) (cB.int (k:=.i64) (by kernel_rfl)) (by kernel_rfl) cP.nil)).map (fun x=>cH.mk x.1 x.2.1 x.2.2.1 x.2.2.2.1) ?_ ?_ ?_
 ·intro ⟨a,b,c,d,u⟩ _;rfl
 ·intro ⟨a,b,c,d,u⟩ ⟨h1,h2,h3,h4,_⟩
  exact⟨h3.1,⟨IB h2,Cy h4⟩,h3.2⟩
 ·intro ⟨a,b,c,d,u⟩ _ ⟨g1,g2,g3,g4,_⟩
  exact⟨g1,g3⟩
def JC:List (TypeId×Nat):=[(9,0),(3,1)]
theorem Cz(n:Nat):cB en P W sp hd (n+1) 79 cx.enc (fun r=>r.Wf) (fun r=>r.cW):=by
 refine (cB.struct (z:=2) (fs:=JC) (by kernel_rfl) (cP.cons (k:=1) (cB.str (by kernel_rfl)) (by kernel_rfl)<|cP.cons (k:=1) (cB.int (k:=.i64) (by kernel_rfl)) (by kernel_rfl) cP.nil)).map (fun x=>cx.mk x.1 x.2.1) ?_ ?_ ?_
 ·intro ⟨a,b,u⟩ _;rfl
 ·intro ⟨a,b,u⟩ ⟨h1,h2,_⟩;exact Cy h2
 ·intro ⟨a,b,u⟩ _ ⟨g1,g2,_⟩;exact g1
def Kj:List (TypeId×Nat):=[(96,0),(97,1),(9,2),(28,3),(28,11),(28,19),(28,27),(3,35)]
theorem FX(n:Nat):cB en P W sp hd (n+1) 99 dy.enc (fun r=>r.Ok (cc.all W) []∧r.p.Wf) (fun r=>r.p.cW):=by
 refine (cB.struct (z:=36) (fs:=Kj) (by kernel_rfl) (cP.cons (k:=1) (cB.int (k:=.u8) (by kernel_rfl)) (by kernel_rfl)<|cP.cons (k:=1) (cB.int (k:=.u8) (by kernel_rfl)) (by kernel_rfl)<|cP.cons (k:=1) (cB.str (by kernel_rfl)) (by kernel_rfl) <|
  cP.cons (k:=8) (qi n) (by kernel_rfl)<|cP.cons (k:=8) (qi n) (by kernel_rfl)<|cP.cons (k:=8) (qi n) (by kernel_rfl)<|cP.cons (k:=8) (qi n) (by kernel_rfl)<|cP.cons (k:=1) (cB.int (k:=.i64) (by kernel_rfl)) (by kernel_rfl) cP.nil)).map
   (fun x=>dy.mk x.1 x.2.1 x.2.2.1 x.2.2.2.1 x.2.2.2.2.1 x.2.2.2.2.2.1 x.2.2.2.2.2.2.1 x.2.2.2.2.2.2.2.1) ?_ ?_ ?_
 ·intro ⟨a,b,c,d,e,f,g,h,u⟩ _;rfl
 ·intro ⟨a,b,c,d,e,f,g,h,u⟩ ⟨h1,h2,h3,h4,h5,h6,h7,h8,_⟩
  exact⟨⟨h4.1,h5.1,h6.1,h7.1⟩,⟨IB h1,IB h2,Cy h8⟩,h4.2,h5.2,h6.2,h7.2⟩
 ·intro ⟨a,b,c,d,e,f,g,h,u⟩ _ ⟨g1,g2,g3,g4,g5,g6,g7,g8,_⟩
  refine⟨g3,fun x hx=>?_⟩
  simp only[dA.oJ,dy.p,List.mem_cons,List.not_mem_nil,or_false] at hx
  rcases hx with rfl | rfl | rfl | rfl
  ·exact g4
  ·exact g5
  ·exact g6
  ·exact g7
def JD:List (TypeId×Nat):=[(28,0),(82,8),(3,9)]
theorem Ey:∀n,cB en P W sp hd n 82 (fun s:IA dy=>[.slice s.a s.n s.c]) (fun s=>dq (cc.all W) [] 36 dy.enc s.a s.n s.l∧∀x∈s.l,x.Ok (cc.all W) []∧x.p.Wf) (fun s=>s.l.length≤reachBytes∧∀x∈s.l,x.p.cW)
 | 0=>cB.zero
 | 1=>cB.slice (e:=99) (z:=36) (by':=320) (by kernel_rfl) (by kernel_rfl) (by decide) (by kernel_rfl) (by decide) (fun _=>rfl) cB.zero
 | n+2=>cB.slice (e:=99) (z:=36) (by':=320) (by kernel_rfl) (by kernel_rfl) (by decide) (by kernel_rfl) (by decide) (fun _=>rfl) (FX n)
theorem CA(n:Nat):cB en P W sp hd (n+1) 84 cp.enc (fun r=>r.Ok (cc.all W) []∧r.p.Wf) (fun r=>r.p.cW):=by
 refine (cB.struct (z:=10) (fs:=JD) (by kernel_rfl) (cP.cons (k:=8) (qi n) (by kernel_rfl)<|cP.cons (k:=1) (Ey n) (by kernel_rfl)<|cP.cons (k:=1) (cB.int (k:=.i64) (by kernel_rfl)) (by kernel_rfl) cP.nil)).map
  (fun x=>cp.mk x.1 x.2.1.a x.2.1.c x.2.1.l x.2.2.1) ?_ ?_ ?_
 ·intro ⟨a,⟨sa,sn,sc,sl⟩,c,u⟩ ⟨_,⟨h2,_⟩,_⟩
  have e:sn=sl.length:=h2.1
  subst e;rfl
 ·intro ⟨a,⟨sa,sn,sc,sl⟩,c,u⟩ ⟨h1,⟨h2,h2'⟩,h3,_⟩
  have e:sn=sl.length:=h2.1
  subst e
  refine⟨⟨h1.1,h2,fun d hd=>(h2' d hd).1⟩,Cy h3,h1.2,fun d hd=>?_⟩
  obtain⟨d',hd',rfl⟩:=List.mem_map.1 hd
  exact (h2' d' hd').2
 ·intro ⟨a,⟨sa,sn,sc,sl⟩,c,u⟩ _ ⟨g1,⟨g2,g2'⟩,_⟩
  refine⟨g1,by simp only[cp.p,List.length_map];exact g2,fun d hd=>?_⟩
  obtain⟨d',hd',rfl⟩:=List.mem_map.1 hd
  exact g2' d' hd'
def ID:List (TypeId×Nat):=[(9,0),(63,1),(3,2)]
theorem A0:∀n,cB en P W sp hd n 63 (fun s:IA cp=>[.slice s.a s.n s.c]) (fun s=>dq (cc.all W) [] 10 cp.enc s.a s.n s.l∧∀x∈s.l,x.Ok (cc.all W) []∧x.p.Wf) (fun s=>s.l.length≤reachBytes∧∀x∈s.l,x.p.cW)
 | 0=>cB.zero
 | 1=>cB.slice (e:=84) (z:=10) (by':=104) (by kernel_rfl) (by kernel_rfl) (by decide) (by kernel_rfl) (by decide) (fun _=>rfl) cB.zero
 | n+2=>cB.slice (e:=84) (z:=10) (by':=104) (by kernel_rfl) (by kernel_rfl) (by decide) (by kernel_rfl) (by decide) (fun _=>rfl) (CA n)
theorem A4(n:Nat):cB en P W sp hd (n+1) 65 cg.enc (fun r=>r.Ok (cc.all W) []∧r.p.Wf) (fun r=>r.p.cW):=by
 refine (cB.struct (z:=3) (fs:=ID) (by kernel_rfl) (cP.cons (k:=1) (cB.str (by kernel_rfl)) (by kernel_rfl)<|cP.cons (k:=1) (A0 n) (by kernel_rfl)<|cP.cons (k:=1) (cB.int (k:=.i64) (by kernel_rfl)) (by kernel_rfl) cP.nil)).map
  (fun x=>cg.mk x.1 x.2.1.a x.2.1.c x.2.1.l x.2.2.1) ?_ ?_ ?_
 ·intro ⟨a,⟨sa,sn,sc,sl⟩,c,u⟩ ⟨_,⟨h2,_⟩,_⟩
  have e:sn=sl.length:=h2.1
  subst e;rfl
 ·intro ⟨a,⟨sa,sn,sc,sl⟩,c,u⟩ ⟨h1,⟨h2,h2'⟩,h3,_⟩
  have e:sn=sl.length:=h2.1
  subst e
  refine⟨⟨h2,fun d hd=>(h2' d hd).1⟩,Cy h3,fun d hd=>?_⟩
  obtain⟨d',hd',rfl⟩:=List.mem_map.1 hd
  exact (h2' d' hd').2
 ·intro ⟨a,⟨sa,sn,sc,sl⟩,c,u⟩ _ ⟨g1,⟨g2,g2'⟩,_⟩
  refine⟨g1,by simp only[cg.p,List.length_map];exact g2,fun d hd=>?_⟩
  obtain⟨d',hd',rfl⟩:=List.mem_map.1 hd
  exact g2' d' hd'
def JE:List (TypeId×Nat):=[(9,0),(35,1),(36,2),(37,3)]
theorem CB:∀n,cB en P W sp hd n 35 (fun s:IA cH=>[.slice s.a s.n s.c]) (fun s=>dq (cc.all W) [] 11 cH.enc s.a s.n s.l∧∀x∈s.l,x.Ok (cc.all W) []∧x.p.Wf) (fun s=>s.l.length≤reachBytes∧∀x∈s.l,x.p.cW)
 | 0=>cB.zero
 | 1=>cB.slice (e:=77) (z:=11) (by':=104) (by kernel_rfl) (by kernel_rfl) (by decide) (by kernel_rfl) (by decide) (fun _=>rfl) cB.zero
 | n+2=>cB.slice (e:=77) (z:=11) (by':=104) (by kernel_rfl) (by kernel_rfl) (by decide) (by kernel_rfl) (by decide) (fun _=>rfl) (Ex n)
theorem A5:∀n,cB en P W sp hd n 36 (fun s:IA cx=>[.slice s.a s.n s.c]) (fun s=>dq (cc.all W) [] 2 cx.enc s.a s.n s.l∧∀x∈s.l,x.Wf) (fun s=>s.l.length≤reachBytes∧∀x∈s.l,x.cW)
 | 0=>cB.zero
 | 1=>cB.slice (e:=79) (z:=2) (by':=24) (by kernel_rfl) (by kernel_rfl) (by decide) (by kernel_rfl) (by decide) (fun _=>rfl) cB.zero
 | n+2=>cB.slice (e:=79) (z:=2) (by':=24) (by kernel_rfl) (by kernel_rfl) (by decide) (by kernel_rfl) (by decide) (fun _=>rfl) (Cz n)
theorem zg:∀n,cB en P W sp hd n 37 (fun s:IA cg=>[.slice s.a s.n s.c]) (fun s=>dq (cc.all W) [] 3 cg.enc s.a s.n s.l∧∀x∈s.l,x.Ok (cc.all W) []∧x.p.Wf) (fun s=>s.l.length≤reachBytes∧∀x∈s.l,x.p.cW)
 | 0=>cB.zero
 | 1=>cB.slice (e:=65) (z:=3) (by':=48) (by kernel_rfl) (by kernel_rfl) (by decide) (by kernel_rfl) (by decide) (fun _=>rfl) cB.zero
 | n+2=>cB.slice (e:=65) (z:=3) (by':=48) (by kernel_rfl) (by kernel_rfl) (by decide) (by kernel_rfl) (by decide) (fun _=>rfl) (A4 n)
theorem Ez(n:Nat):cB en P W sp hd (n+1) 39 cw.enc (fun r=>r.Ok (cc.all W) []∧r.p.Wf) (fun r=>r.p.cW):=by
 refine (cB.struct (z:=4) (fs:=JE) (by kernel_rfl) (cP.cons (k:=1) (cB.str (by kernel_rfl)) (by kernel_rfl)<|cP.cons (k:=1) (CB n) (by kernel_rfl)<|cP.cons (k:=1) (A5 n) (by kernel_rfl)<|cP.cons (k:=1) (zg n) (by kernel_rfl) cP.nil)).map
  (fun x=>cw.mk x.1 x.2.1.a x.2.1.c x.2.1.l x.2.2.1.a x.2.2.1.c x.2.2.1.l x.2.2.2.1.a x.2.2.2.1.c x.2.2.2.1.l) ?_ ?_ ?_
 ·intro ⟨a,⟨ra,rn,rc,rl⟩,⟨sa,sn,sc,sl⟩,⟨ta,tn,tc,tl⟩,u⟩ ⟨_,⟨h2,_⟩,⟨h3,_⟩,⟨h4,_⟩,_⟩
  have e2:rn=rl.length:=h2.1
  have e3:sn=sl.length:=h3.1
  have e4:tn=tl.length:=h4.1
  subst e2 e3 e4;rfl
 ·intro ⟨a,⟨ra,rn,rc,rl⟩,⟨sa,sn,sc,sl⟩,⟨ta,tn,tc,tl⟩,u⟩ ⟨h1,⟨h2,h2'⟩,⟨h3,h3'⟩,⟨h4,h4'⟩,_⟩
  have e2:rn=rl.length:=h2.1
  have e3:sn=sl.length:=h3.1
  have e4:tn=tl.length:=h4.1
  subst e2 e3 e4
  refine⟨⟨h2,fun d hd=>(h2' d hd).1,h3,h4,fun d hd=>(h4' d hd).1⟩,fun d hd=>?_,h3',fun d hd=>?_⟩
  ·obtain⟨d',hd',rfl⟩:=List.mem_map.1 hd
   exact (h2' d' hd').2
  ·obtain⟨d',hd',rfl⟩:=List.mem_map.1 hd
   exact (h4' d' hd').2
 ·intro ⟨a,⟨ra,rn,rc,rl⟩,⟨sa,sn,sc,sl⟩,⟨ta,tn,tc,tl⟩,u⟩ _ ⟨g1,⟨g2,g2'⟩,⟨g3,g3'⟩,⟨g4,g4'⟩,_⟩
  refine⟨g1,by simp only[cw.p,List.length_map];exact g2,fun d hd=>?_,g3,g3',by simp only[cw.p,List.length_map];exact g4,fun d hd=>?_⟩
  ·obtain⟨d',hd',rfl⟩:=List.mem_map.1 hd
   exact g2' d' hd'
  ·obtain⟨d',hd',rfl⟩:=List.mem_map.1 hd
   exact g4' d' hd'
end
theorem FY{H:Type}{en:TypeId×Value→H}{W:World}{base:Nat}{sp:Nat→Bool}{hd:Bool}{v:Value}{d:DataW H}{ps:List MemPlace}{r:Reach}(hval:Value.okWide P W r base 39 v)(h:DataW.Trod en P W 0 sp hd 39 v d ps) :
  ∃s:cw,v=s.v∧s.Ok (cc.all W) []∧s.p.Wf∧((∀m∈d.weights P 39,m≤reachBytes)→s.p.cW):=by
 have hv:=IC (fs:=JE) (z:=4) (by kernel_rfl) hval
 obtain⟨fuel,hf⟩:=h
 cases fuel with
 | zero=>cases hf
 | succ n =>
   obtain⟨t,e,⟨h1,h2⟩,h3⟩:=Ez n _ d ps hf
   exact⟨t,by rw[hv,e],h1,h2,h3⟩
end Go.Lx
