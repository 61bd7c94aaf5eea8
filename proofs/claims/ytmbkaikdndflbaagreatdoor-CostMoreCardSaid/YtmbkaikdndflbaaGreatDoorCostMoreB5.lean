import Derived.Test.YtmbkaikdndflbaaGreatDoorCostMoreB4
set_option linter.unusedVariables false
set_option linter.unusedSimpArgs false
set_option linter.unusedSectionVars false
set_option maxRecDepth 100000
namespace Go.Lx
open Go.Vc
def dS.c9(d:dS):Prop:=d.name.size≤140737488351232∧∀x∈d.nG,x.eB
def cM.c9(r:cM):Prop:=r.when.eB∧r.dos.length≤140737488351232∧∀d∈r.dos,d.c9
def cq.c9(x:cq):Prop:=x.name.size≤140737488351232∧x.rules.length≤140737488351232∧∀r∈x.rules,r.c9
def dg.c9(r:dg):Prop:=r.name.size≤140737488351232∧r.init.eB
def cI.c9(r:cI):Prop:=r.name.size≤140737488351232
structure cu.c9 (s:cu):Prop where
 name:s.name.size≤140737488351232
 regs:s.regs.length≤140737488351232
 eX:∀r∈s.regs,r.c9
 slots:s.slots.length≤140737488351232
 slot:∀r∈s.slots,r.c9
 cd:s.cd.length≤140737488351232
 state:∀x∈s.cd,x.c9
def dS.dN(d:dS):Prop:=Small d.nG
def cM.dN(r:cM):Prop:=r.when.size≤1048576∧r.dos.length≤1048576∧∀d∈r.dos,d.dN
def cq.dN(x:cq):Prop:=x.rules.length≤1048576∧∀r∈x.rules,r.dN
def dV{α:Type}(f:α→Int):List α→Int
 | []=>0
 | x::r=>f x+dV f r
theorem k9{α:Type}{f:α→Int}(h:∀x,0≤f x):∀l,0≤dV f l
 | []=>Int.le_refl _
 | x::r=>by have:=k9 h r;have:=h x;rw[dV];omega
theorem oh{α:Type}{f:α→Int}(h:∀x,1≤f x):∀l:List α,(l.length:Int)≤dV f l
 | []=>Int.le_refl _
 | x::r=>by have:=oh h r;have:=h x;rw[dV,List.length_cons];omega
theorem oj{α:Type}{f:α→Int}(h:∀x,0≤f x):∀{l:List α} {x:α},x∈l→f x≤dV f l
 | y::r,x,hx=>by
   have h1:=k9 h r
   have h2:=h y
   rw[dV]
   rcases List.mem_cons.1 hx with rfl | hx
   ·omega
   ·have:=oj h hx;omega
theorem zH{α:Type}(f:α→Int):∀l m:List α,dV f (l++m)=dV f l+dV f m
 | [],m=>by rw[List.nil_append,dV];omega
 | x::l,m=>by rw[List.cons_append,dV,dV,zH f l m];omega
theorem om{α β:Type}(f:α→Int)(g:β→α):∀l:List β,dV f (l.map g)=dV (fun x=>f (g x)) l
 | []=>rfl
 | x::l=>by rw[List.map_cons,dV,dV,om f g l]
theorem oY{α:Type}(f:α→Int){l:List α}{i:Nat}{x:α}(hx:l[i]? = some x):dV f (l.take (i+1))=dV f (l.take i)+f x:=by
 obtain⟨hi,rfl⟩:=List.getElem?_eq_some_iff.1 hx
 rw[List.take_succ_eq_append_getElem hi,zH,dV,dV];omega
theorem oZ{α:Type}(f:α→Int){l:List α}{i:Nat}(hi:l.length≤i):dV f (l.take i)=dV f l:=by rw[List.take_of_length_le hi]
def dS.dr(d:dS):Int:=1+d.side.size+d.qty.size+d.price.size+d.value.size
def cM.dr(r:cM):Int:=1+r.when.size+dV dS.dr r.dos
def cq.dr(x:cq):Int:=1+dV cM.dr x.rules
def dg.dr(r:dg):Int:=1+r.init.size
def cu.dr(s:cu):Int:=dV dg.dr s.regs+s.slots.length+dV cq.dr s.cd
theorem dS.eK(d:dS):1≤d.dr:=by
 have q1:=Px.size_pos d.side
 have q2:=Px.size_pos d.qty
 have q3:=Px.size_pos d.price
 have q4:=Px.size_pos d.value
 unfold dS.dr;omega
theorem cM.eK(r:cM):1≤r.dr:=by
 have q1:=Px.size_pos r.when
 have q2:=k9 (fun x=>Int.le_trans (by decide) (dS.eK x)) r.dos
 unfold cM.dr;omega
theorem cq.eK(x:cq):1≤x.dr:=by
 have q2:=k9 (fun x=>Int.le_trans (by decide) (cM.eK x)) x.rules
 unfold cq.dr;omega
theorem dg.eK(r:dg):1≤r.dr:=by
 have q1:=Px.size_pos r.init
 unfold dg.dr;omega
structure cu.dN (s:cu):Prop where
 regs:s.regs.length≤1048576
 eX:∀r∈s.regs,r.init.size≤1048576
 slots:s.slots.length≤1048576
 cd:s.cd.length≤1048576
 state:∀x∈s.cd,x.dN
 all:s.dr≤1048576
theorem dS.rf{d:dS}(h:d.dr≤1048576):d.dN:=fun x hx=>by
 have q1:=Px.size_pos d.side
 have q2:=Px.size_pos d.qty
 have q3:=Px.size_pos d.price
 have q4:=Px.size_pos d.value
 unfold dS.dr at h
 simp only[dS.nG,List.mem_cons,List.not_mem_nil,or_false] at hx
 rcases hx with rfl | rfl | rfl | rfl<;>omega
theorem cM.rf{r:cM}(h:r.dr≤1048576):r.dN:=by
 have q1:=Px.size_pos r.when
 have q2:=oh dS.eK r.dos
 unfold cM.dr at h
 refine⟨by omega,by omega,fun d hd=>dS.rf ?_⟩
 have:=oj (fun x=>Int.le_trans (by decide) (dS.eK x)) hd
 omega
theorem cq.rf{x:cq}(h:x.dr≤1048576):x.dN:=by
 have q2:=oh cM.eK x.rules
 unfold cq.dr at h
 refine⟨by omega,fun d hd=>cM.rf ?_⟩
 have:=oj (fun x=>Int.le_trans (by decide) (cM.eK x)) hd
 omega
theorem cu.rf{s:cu}(h:s.dr≤1048576):s.dN:=by
 have h':=h
 have q1:=oh dg.eK s.regs
 have q2:=oh cq.eK s.cd
 unfold cu.dr at h
 refine⟨by omega,fun r hr=>?_,by omega,by omega,fun x hx=>cq.rf ?_,h'⟩
 ·have:=oj (fun x=>Int.le_trans (by decide) (dg.eK x)) hr
  have hm:r.dr=1+r.init.size:=rfl
  omega
 ·have:=oj (fun x=>Int.le_trans (by decide) (cq.eK x)) hx
  omega
def dG.dr(d:dG):Int:=d.p.dr
def cr.dr(r:cr):Int:=r.p.dr
def cj.dr(r:cj):Int:=r.p.dr
def cJ.dr(r:cJ):Int:=r.p.dr
theorem cr.rh(r:cr):r.dr=1+r.when.px.size+dV dG.dr r.dos:=by
 show 1+r.when.px.size+dV dS.dr (r.dos.map dG.p)=_
 rw[om];rfl
theorem cj.rh(r:cj):r.dr=1+dV cr.dr r.rules:=by
 show 1+dV cM.dr (r.rules.map cr.p)=_
 rw[om];rfl
theorem cB.rh(s:cB):s.p.dr=dV cJ.dr s.regs+s.slots.length+dV cj.dr s.cd:=by
 show dV dg.dr (s.regs.map cJ.p)+s.slots.length+dV cq.dr (s.cd.map cj.p)=_
 rw[om,om];rfl
theorem cu.dN.small{s:cu}(h:s.dN):Small s.nG:=fun x hx=>by
 simp only[cu.nG,List.mem_append,List.mem_map,List.mem_flatMap] at hx
 rcases hx with ⟨r,hr,rfl⟩ | ⟨y,hy,r,hr,hx⟩
 ·exact h.eX r hr
 ·obtain⟨_,h1⟩:=h.state y hy
  obtain⟨h2,_,h3⟩:=h1 r hr
  unfold cM.nG at hx
  rcases List.mem_cons.1 hx with rfl | hx
  ·exact h2
  ·obtain⟨d,hd,hx⟩:=List.mem_flatMap.1 hx
   exact h3 d hd x hx
theorem cu.dN.lens{s:cB}(h:s.p.dN):s.FN:=by
 have l1:=h.regs
 have l2:=h.slots
 have l3:=h.cd
 simp only[cB.p,List.length_map] at l1 l2 l3
 refine⟨by omega,by omega,by omega,fun x hx=>?_,fun x hx r hr=>?_⟩
 ·have:=(h.state x.p (List.mem_map_of_mem hx)).1
  simp only[cj.p,List.length_map] at this
  omega
 ·have:=((h.state x.p (List.mem_map_of_mem hx)).2 r.p (List.mem_map_of_mem hr)).2.1
  simp only[cr.p,List.length_map] at this
  omega
structure cu.nH (s:cu):Prop where
 regs:s.regs.length≤1048576
 eX:∀r∈s.regs,r.init.size≤1048576
 slots:s.slots.length≤1048576
 cd:s.cd.length≤1048576
 state:∀x∈s.cd,x.dN
theorem cu.dN.thin{s:cu}(h:s.dN):s.nH:=⟨h.regs,h.eX,h.slots,h.cd,h.state⟩
theorem cu.nH.small{s:cu}(h:s.nH):Small s.nG:=fun x hx=>by
 simp only[cu.nG,List.mem_append,List.mem_map,List.mem_flatMap] at hx
 rcases hx with ⟨r,hr,rfl⟩ | ⟨y,hy,r,hr,hx⟩
 ·exact h.eX r hr
 ·obtain⟨_,h1⟩:=h.state y hy
  obtain⟨h2,_,h3⟩:=h1 r hr
  unfold cM.nG at hx
  rcases List.mem_cons.1 hx with rfl | hx
  ·exact h2
  ·obtain⟨d,hd,hx⟩:=List.mem_flatMap.1 hx
   exact h3 d hd x hx
theorem cu.nH.lens{s:cB}(h:s.p.nH):s.FN:=by
 have l1:=h.regs
 have l2:=h.slots
 have l3:=h.cd
 simp only[cB.p,List.length_map] at l1 l2 l3
 refine⟨by omega,by omega,by omega,fun x hx=>?_,fun x hx r hr=>?_⟩
 ·have:=(h.state x.p (List.mem_map_of_mem hx)).1
  simp only[cj.p,List.length_map] at this
  omega
 ·have:=((h.state x.p (List.mem_map_of_mem hx)).2 r.p (List.mem_map_of_mem hr)).2.1
  simp only[cr.p,List.length_map] at this
  omega
theorem wX(d:Int):∀(l:List Px),(∀x∈l,∀n,x.iK n d≤max n 1048576+140737488351233)→∀n,Px.fA l n d≤max n (1048576+140737488351233)
 | [],_,n=>by rw[Px.fA];omega
 | x::r,h,n=>by
   rw[Px.fA]
   split
   ·have h1:=h x (List.mem_cons_self ..) n
    have h2:=wX d r (fun y hy=>h y (List.mem_cons_of_mem _ hy)) (x.iK n d)
    omega
   ·omega
theorem lT:∀{x:Px},x.eB→∀n d:Int,x.iK n d≤max n 1048576+140737488351233:=by
 intro x h
 induction h with
 | mk h1 h2 h3 ih =>
   rename_i x
   intro n d
   rw[Px.qL]
   split
   ·omega
   ·have:=wX (d+1) x.kids (fun y hy n=>ih y hy n (d+1)) (n+1+x.name.size)
    omega
theorem uZ{α:Type}{l:List α}{i:Nat}{x:α}{p:α→Prop}(hx:l[i]? = some x)(h:∀y∈l.take i,p y)(hp:p x):∀y∈l.take (i+1),p y:=by
 obtain⟨hi,rfl⟩:=List.getElem?_eq_some_iff.1 hx
 intro y hy
 rw[List.take_succ_eq_append_getElem hi] at hy
 rcases List.mem_append.1 hy with hy | hy
 ·exact h y hy
 ·rw[List.mem_singleton] at hy;rw[hy];exact hp
theorem Rd.part{I:cc}{G:b8}{ad:Addr}{cs xs ds ys:List Value}(h:Rd I G ad cs){o:Nat}(e:cs=xs++(ds++ys))(ho:xs.length=o):Rd I G (ad.add o) ds:=by
 obtain⟨h1,cells,t,fz,h2,h3⟩:=h
 have hadd:ad.add o=⟨ad.block,ad.off+o,none⟩:=by
  obtain⟨b,off,sp⟩:=ad
  simp only at h1;subst h1
  unfold Addr.add;split<;>simp_all
 rw[hadd]
 refine⟨rfl,cells,t,fz,h2,fun j hj=>?_⟩
 have:=h3 (o+j) (by rw[e];simp only[List.length_append];omega)
 rw[←Nat.add_assoc] at this
 rw[this,e,List.getElem?_append_right (by omega),show o+j-xs.length=j by omega,List.getElem?_append_left hj]
theorem xO(d:dG)(hs:d.p.c9)(n:Int)(h0:0≤n)(h1:n≤10000000)(I:cc)(F:b8)(hd:d.Ok I F):cg P 63 #[d.v,.int .i64 n] I F fun e I' G=>∃r:Int,e=.returned (.int .i64 r)∧G=F ∧
  0≤r∧r≤1000000000000000∧(r≤1048576→n+d.dr≤r+1):=by
 refine jd.vc ?_
 unfold jd.V
 intro b_d
 have hnm:=hs.1
 have hsh:=hs.2
 simp only[dS.nG,List.mem_cons,List.not_mem_nil,or_false] at hsh
 have s1:d.side.px.eB:=hsh _ (.inl rfl)
 have s2:d.qty.px.eB:=hsh _ (.inr (.inl rfl))
 have s3:d.price.px.eB:=hsh _ (.inr (.inr (.inl rfl)))
 have s4:d.value.px.eB:=hsh _ (.inr (.inr (.inr rfl)))
 have hnm':d.name.size≤140737488351232:=hnm
 rw[du (n:=n+_) (by omega)]
 have ok:∀{J:cc},cc.le I J→d.Ok J ((b_d,Obj.cells #[.int .u8 d.kind,.int .u8 d.order,.string d.name,.int .u8 d.side.kind,.int .u8 d.side.oper,.int .u8 d.side.cx,.int .i64 d.side.n,.int .u8 d.side.field,.string d.side.name,.slice d.side.a d.side.kids.length d.side.c,.int .i64 d.side.pos,.int .u8 d.qty.kind,.int .u8 d.qty.oper,.int .u8 d.qty.cx,.int .i64 d.qty.n,.int .u8 d.qty.field,.string d.qty.name,.slice d.qty.a d.qty.kids.length d.qty.c,.int .i64 d.qty.pos,.int .u8 d.price.kind,.int .u8 d.price.oper,.int .u8 d.price.cx,.int .i64 d.price.n,.int .u8 d.price.field,.string d.price.name,.slice d.price.a d.price.kids.length d.price.c,.int .i64 d.price.pos,.int .u8 d.value.kind,.int .u8 d.value.oper,.int .u8 d.value.cx,.int .i64 d.value.n,.int .u8 d.value.field,.string d.value.name,.slice d.value.a d.value.kids.length d.value.c,.int .i64 d.value.pos,.int .i64 d.pos] 99 (0,0))::F):=fun hl=>(hd.mono hl fun _ h=>h).cons
 have e1:=lT s1 (n+d.name.size) 0
 have p1:=Px.iO d.side.px (n+d.name.size) 0 (by omega)
 have z1:=Px.iN d.side.px (n+d.name.size) 0
 generalize hw1:d.side.px.iK (n+d.name.size) 0=a1 at *
 have e2:=lT s2 a1 0
 have p2:=Px.iO d.qty.px a1 0 p1
 have z2:=Px.iN d.qty.px a1 0
 generalize hw2:d.qty.px.iK a1 0=a2 at *
 have e3:=lT s3 a2 0
 have p3:=Px.iO d.price.px a2 0 p2
 have z3:=Px.iN d.price.px a2 0
 generalize hw3:d.price.px.iK a2 0=a3 at *
 have e4:=lT s4 a3 0
 have p4:=Px.iO d.value.px a3 0 p3
 have z4:=Px.iN d.value.px a3 0
 generalize hw4:d.value.px.iK a3 0=a4 at *
 refine cg.ret (iQ d.side s1 _ 0 I _ (ok (cc.le_refl I)).1 (by omega) (by omega) (by decide) (by decide)) fun I1 l1=>⟨_,rfl,F,.refl _, ?_⟩
 rw[hw1]
 refine cg.ret (iQ d.qty s2 _ 0 I1 _ (ok l1).2.1 (by omega) (by omega) (by decide) (by decide)) fun I2 h2=>⟨_,rfl,F,.refl _, ?_⟩
 have l2:=cc.le_trans l1 h2
 rw[hw2]
 refine cg.ret (iQ d.price s3 _ 0 I2 _ (ok l2).2.2.1 (by omega) (by omega) (by decide) (by decide)) fun I3 h3=>⟨_,rfl,F,.refl _, ?_⟩
 have l3:=cc.le_trans l2 h3
 rw[hw3]
 refine cg.ret (iQ d.value s4 _ 0 I3 _ (ok l3).2.2.2 (by omega) (by omega) (by decide) (by decide)) fun I4 h4=>⟨_,rfl,F,.refl _, ?_⟩
 rw[hw4]
 refine⟨_,rfl,rfl,p4,by omega,fun hle=>?_⟩
 have q1:=Px.size_pos d.side.px
 have q2:=Px.size_pos d.qty.px
 have q3:=Px.size_pos d.price.px
 have q4:=Px.size_pos d.value.px
 have y4:=z4 (by omega)
 have y3:=z3 (by omega)
 have y2:=z2 (by omega)
 have y1:=z1 (by omega)
 show n+(1+d.side.px.size+d.qty.px.size+d.price.px.size+d.value.px.size)≤a4+1
 omega
set_option maxHeartbeats 2000000 in
theorem v9(s:cB)(hs:s.p.c9)(I:cc)(F:b8)(hok:s.Ok I F):cg P 37 #[s.v] I F fun e I' G=>∃r:Int,e=.returned (.int .i64 r)∧G=F∧0≤r∧r≤2000000000000000∧(r≤1048576→s.p.dN):=by
 have lr:=hs.regs
 have ls:=hs.slots
 have lt:=hs.cd
 have ln:=hs.name
 simp only[cB.p,List.length_map] at lr ls lt ln
 have hnm:∀r∈s.regs,r.p.c9:=fun r hr=>hs.eX _ (List.mem_map_of_mem hr)
 have hst:∀x∈s.cd,x.p.c9:=fun x hx=>hs.state _ (List.mem_map_of_mem hx)
 have hru:∀x∈s.cd,∀r∈x.rules,r.p.c9:=fun x hx r hr=>(hst x hx).2.2 _ (List.mem_map_of_mem hr)
 have hdo:∀x∈s.cd,∀r∈x.rules,∀d∈r.dos,d.p.c9:=fun x hx r hr d hd=>(hru x hx r hr).2.2 _ (List.mem_map_of_mem hd)
 have hrl:∀x∈s.cd,x.rules.length≤140737488351232:=fun x hx=>by have:=(hst x hx).2.1;simpa only[cj.p,List.length_map] using this
 have hdl:∀x∈s.cd,∀r∈x.rules,r.dos.length≤140737488351232:=fun x hx r hr=>by have:=(hru x hx r hr).2.1;simpa only[cr.p,List.length_map] using this
 refine eU.vc
  (fun n I0 F0 I' F'=>F'=F∧0≤n∧n≤2000000000000000∧(n≤1048576→dV cJ.dr s.regs≤n))
  (fun n i m I0 F0 I' F'=>F'=F∧0≤i∧i≤s.regs.length∧m=(s.regs.length-i).toNat∧0≤n∧n≤2000000000000000∧(n≤1048576→dV cJ.dr (s.regs.take i.toNat)≤n))
  (fun n I0 F0 I' F'=>F'=F∧0≤n∧n≤2000000000000000∧(n≤1048576→dV cJ.dr s.regs+s.slots.length≤n))
  (fun n i m I0 F0 I' F'=>F'=F∧0≤i∧i≤s.slots.length∧m=(s.slots.length-i).toNat∧0≤n∧n≤2000000000000000∧(n≤1048576→dV cJ.dr s.regs+i≤n))
  (fun n I0 F0 I' F'=>F'=F∧0≤n∧n≤2000000000000000∧(n≤1048576→s.p.dN))
  (fun n i m I0 F0 I' F'=>F'=F∧0≤i∧i≤s.cd.length∧m=(s.cd.length-i).toNat∧0≤n∧n≤2000000000000000∧(n≤1048576→dV cJ.dr s.regs+s.slots.length+dV cj.dr (s.cd.take i.toNat)≤n))
  (fun i n k m I0 F0 I' F'=>F'=F∧∃x,s.cd[i.toNat]? = some x∧0≤k∧k≤x.rules.length∧m=(x.rules.length-k).toNat∧0≤n∧n≤2000000000000000 ∧
    (n≤1048576→dV cJ.dr s.regs+s.slots.length+dV cj.dr (s.cd.take i.toNat)+1+dV cr.dr (x.rules.take k.toNat)≤n))
  (fun i k n j m I0 F0 I' F'=>F'=F∧∃x r,s.cd[i.toNat]? = some x∧x.rules[k.toNat]? = some r∧0≤j∧j≤r.dos.length∧m=(r.dos.length-j).toNat∧0≤n∧n≤2000000000000000 ∧
    (n≤1048576→dV cJ.dr s.regs+s.slots.length+dV cj.dr (s.cd.take i.toNat)+1+dV cr.dr (x.rules.take k.toNat)+1+r.when.px.size+dV dG.dr (r.dos.take j.toNat)≤n)) ?_
 unfold eU.V
 intro b_s
 have ok:∀{J:cc},cc.le I J→s.Ok J ((b_s,Obj.cells #[.string s.name,.slice s.ra s.regs.length s.rc,.slice s.sa s.slots.length s.sc,.slice s.ta s.cd.length s.tc] 39 (0,0))::F):=fun hl=>(hok.mono hl fun _ h=>h).cons
 refine⟨⟨⟨_,rfl,by omega,by omega,rfl,by omega,by omega,fun _=>by simp only[Int.toNat_zero,List.take_zero,dV];omega⟩,fun n i m I1 F1 l1 ⟨gF,g0,g1,gm,gn,gb,gl⟩=>?_⟩,fun n1 I3 F2 l3 ⟨gF,gn,gb,gl⟩=>?_⟩
 ·subst gF
  refine⟨fun hlt=>⟨fun hle=>?_,fun hle=>⟨rfl,gn,gb,fun h=>absurd h (of_decide_eq_false hle)⟩⟩,fun hlt=>⟨rfl,gn,gb,fun h=>?_⟩⟩
  ·have hlt:=of_decide_eq_true hlt
   have hle:=of_decide_eq_true hle
   obtain⟨ad,r,had,hr,hrd,hrm⟩:=dy.j3 (ok l1).regs g0 hlt
   have hsh:=hnm r hrm
   have hna:r.name.size≤140737488351232:=hsh.1
   have hin:r.init.px.eB:=hsh.2
   rw[du (n:=n+1) (by omega)]
   have e2:IntKind.wrap .i64 (n+1+(r.name.size:Int))=n+1+r.name.size:=du (by omega)
   have u1:=lT hin (n+1+r.name.size) 0
   have u2:=Px.iO r.init.px (n+1+r.name.size) 0 (by omega)
   have u3:=Px.iN r.init.px (n+1+r.name.size) 0
   have u4:=Px.size_pos r.init.px
   refine⟨⟨g0,hlt⟩,ad,had,_,_,_,_,_,_,_,_,_,_,Rd.part hrd (xs:=[.string r.name,.int .u8 r.cx]) (ds:=r.init.enc) (ys:=[.int .i64 r.pos]) rfl rfl,⟨g0,hlt⟩,ad,had,r.name,hrd.field (o:=0) rfl,r.init.px.iK (n+1+r.name.size) 0, ?_,(s.regs.length-(i+1)).toNat,by omega,rfl, ?_⟩
   ·rw[e2]
    exact cg.ret (iQ r.init hin _ 0 I1 _ ((ok l1).eX r hrm) (by omega) (by omega) (by decide) (by decide)) fun _ _=>⟨rfl,.refl _⟩
   rw[du (n:=i+1) (by omega)]
   refine⟨by omega,by omega,rfl,u2,by omega,fun h=>?_⟩
   have u5:=u3 h
   have v1:=gl hle
   have hma:r.dr=1+r.init.px.size:=rfl
   rw[show (i+1).toNat=i.toNat+1 by omega,oY _ hr]
   omega
  ·have hlt:=of_decide_eq_false hlt
   have v1:=gl h
   rw[oZ _ (by omega)] at v1
   exact v1
 ·subst gF
  refine⟨⟨⟨_,rfl,by omega,by omega,rfl,gn,gb,fun h=>by have:=gl h;omega⟩,fun n i m I4 F3 l4 ⟨gF,g0,g1,gm,gn,gb,gl⟩=>?_⟩,fun n3 I5 F4 l5 ⟨gF,gn,gb,gl⟩=>?_⟩
  ·subst gF
   have l4:=cc.le_trans l3 l4
   refine⟨fun hlt=>⟨fun hle=>?_,fun hle=>⟨rfl,gn,gb,fun h=>absurd h (of_decide_eq_false hle)⟩⟩,fun hlt=>⟨rfl,gn,gb,fun h=>?_⟩⟩
   ·have hlt:=of_decide_eq_true hlt
    have hle:=of_decide_eq_true hle
    obtain⟨ad,r,had,hr,hrd,hrm⟩:=dy.j3 (ok l4).slots g0 hlt
    have hna:r.name.size≤140737488351232:=hs.slot r hrm
    rw[du (n:=n+1) (by omega)]
    refine⟨⟨g0,hlt⟩,ad,had,r.name,hrd.field (o:=0) rfl,(s.slots.length-(i+1)).toNat,by omega,rfl, ?_⟩
    rw[du (n:=i+1) (by omega),du (n:=n+1+(r.name.size:Int)) (by omega)]
    refine⟨by omega,by omega,rfl,by omega,by omega,fun h=>?_⟩
    have v1:=gl hle
    omega
   ·have hlt:=of_decide_eq_false hlt
    have v1:=gl h
    omega
  ·subst gF
   have l5:=cc.le_trans l3 l5
   refine⟨⟨⟨_,rfl,by omega,by omega,rfl,gn,gb,fun h=>by have:=gl h;simp only[Int.toNat_zero,List.take_zero,dV];omega⟩,fun n i m I6 F5 l6 ⟨gF,g0,g1,gm,gn,gb,gl⟩=>?_⟩,fun n7 I7 F6 l7 ⟨gF,gn,gb,gl⟩=>?_⟩
   ·subst gF
    have l6:=cc.le_trans l5 l6
    refine⟨fun hlt=>⟨fun hle=>?_,fun hle=>⟨rfl,gn,gb,fun h=>absurd h (of_decide_eq_false hle)⟩⟩,fun hlt=>⟨rfl,gn,gb,fun h=>?_⟩⟩
    ·have hlt:=of_decide_eq_true hlt
     have hle:=of_decide_eq_true hle
     obtain⟨ad,x,had,hx,hrd,hxm⟩:=dy.j3 (ok l6).cd g0 hlt
     have hna:x.name.size≤140737488351232:=(hst x hxm).1
     have hxl:=hrl x hxm
     rw[du (n:=n+1) (by omega)]
     have e2:IntKind.wrap .i64 (n+1+(x.name.size:Int))=n+1+x.name.size:=du (by omega)
     refine⟨⟨g0,hlt⟩,ad,had,x.name,hrd.field (o:=0) rfl,⟨g0,hlt⟩,ad,had,_,_,_,hrd.field (o:=1) rfl,⟨_,rfl,x,hx,by omega,by omega,rfl,by rw[e2];omega,by rw[e2];omega,fun h=>?_⟩,fun n5 k m12 I7 F6 l7 ⟨gF,x',hx',k0,k1,km,kn,kb,kl⟩=>?_⟩
     ·rw[e2] at h ⊢
      have v1:=gl hle
      simp only[Int.toNat_zero,List.take_zero,dV];omega
     ·subst gF
      obtain rfl:x=x':=by rw[hx] at hx';exact Option.some.inj hx'
      have l7:=cc.le_trans l6 l7
      refine⟨fun hlt2=>⟨fun hle2=>?_,fun hle2=>⟨(s.cd.length-(i+1)).toNat,by omega,rfl, ?_⟩⟩,fun hlt2=>⟨(s.cd.length-(i+1)).toNat,by omega,rfl, ?_⟩⟩
      ·have hlt2:=of_decide_eq_true hlt2
       have hle2:=of_decide_eq_true hle2
       have okx:=(ok l7).state x hxm
       obtain⟨ad5,r,had5,hr,hrd5,hrm⟩:=dy.j3 okx.1 k0 hlt2
       have okr:=okx.2 r hrm
       have hwh:r.when.px.eB:=(hru x hxm r hrm).1
       rw[du (n:=n5+1) (by omega)]
       have u1:=lT hwh (n5+1) 0
       have u2:=Px.iO r.when.px (n5+1) 0 (by omega)
       have u3:=Px.iN r.when.px (n5+1) 0
       have u4:=Px.size_pos r.when.px
       have hrl2:=hdl x hxm r hrm
       refine⟨⟨k0,hlt2⟩,ad5,had5,_,_,_,_,_,_,_,_,_,_,Rd.part hrd5 (xs:=[]) (ds:=r.when.enc) (ys:=[.slice r.a r.dos.length r.c,.int .i64 r.pos]) rfl rfl,
        cg.ret (iQ r.when hwh _ 0 I7 _ okr.1 (by omega) (by omega) (by decide) (by decide)) fun I8 l8=>⟨_,rfl,F6,.refl _,⟨_,rfl,x,r,hx,hr,by omega,by omega,rfl,u2,by omega,fun h=>?_⟩,fun n6 j m14 I9 F8 l9 ⟨gF,x',r',hx',hr',j0,j1,jm,jn,jb,jl⟩=>?_⟩⟩
       ·have u5:=u3 h
        have v1:=kl hle2
        simp only[Int.toNat_zero,List.take_zero,dV];omega
       ·subst gF
        obtain rfl:x=x':=by rw[hx] at hx';exact Option.some.inj hx'
        obtain rfl:r=r':=by rw[hr] at hr';exact Option.some.inj hr'
        have l9:=cc.le_trans (cc.le_trans l7 l8) l9
        have okr9:=((ok l9).state x hxm).2 r hrm
        have hrd9:∀{J},cc.le I7 J→Rd J ((b_s,Obj.cells #[.string s.name,.slice s.ra s.regs.length s.rc,.slice s.sa s.slots.length s.sc,.slice s.ta s.cd.length s.tc] 39 (0,0))::F8) ((ad5.add (Int.toNat k*10)).add 8) [.slice r.a r.dos.length r.c]:=fun hl=>(hrd5.mono hl).field (o:=8) rfl
        have l79:cc.le I7 I9:=cc.le_trans l8 ‹cc.le I8 I9›
        refine⟨⟨k0,hlt2⟩,ad5,had5,_,_,_,hrd9 l79,fun hlt3=>⟨fun hle3=>?_,fun hle3=>⟨(x.rules.length-(k+1)).toNat,by omega,rfl,x,hx, ?_⟩⟩,fun hlt3=>⟨(x.rules.length-(k+1)).toNat,by omega,rfl,x,hx, ?_⟩⟩
        ·have hlt3:=of_decide_eq_true hlt3
         have hle3:=of_decide_eq_true hle3
         obtain⟨ad8,d,had8,hd,hrd8,hdm⟩:=dy.j3 okr9.2.1 j0 hlt3
         rw[du (n:=n6+1) (by omega)]
         refine⟨⟨k0,hlt2⟩,ad5,had5,_,_,_,hrd9 l79,⟨j0,hlt3⟩,ad8,had8,_,_,_,_,_,_,_,_,_,_,_,_,_,_,_,_,_,_,_,_,_,_,_,_,_,_,_,_,_,_,_,_,_,_,_,_,_,_,_,_,_,_,_,_,hrd8,(xO d (hdo x hxm r hrm d hdm) (n6+1) (by omega) (by omega) I9 _ (okr9.2.2 d hdm)).mono fun e I10 G l10 ⟨w,he,hG,w0,w1,wl⟩=>?_⟩
         subst hG
         refine⟨w,he,F8,.refl _,(r.dos.length-(j+1)).toNat,by omega,rfl,x,r,hx,hr, ?_⟩
         rw[du (n:=j+1) (by omega)]
         refine⟨by omega,by omega,rfl,w0,by omega,fun h=>?_⟩
         have wa:=wl h
         have v1:=jl hle3
         have hdp:=dS.eK d.p
         rw[show (j+1).toNat=j.toNat+1 by omega,oY _ hd]
         omega
        ·have hle3:=of_decide_eq_false hle3
         rw[du (n:=k+1) (by omega)]
         exact⟨by omega,by omega,rfl,jn,jb,fun h=>absurd h hle3⟩
        ·have hlt3:=of_decide_eq_false hlt3
         rw[du (n:=k+1) (by omega)]
         refine⟨by omega,by omega,rfl,jn,jb,fun h=>?_⟩
         have v1:=jl h
         rw[oZ dG.dr (by omega)] at v1
         rw[show (k+1).toNat=k.toNat+1 by omega,oY _ hr,cr.rh]
         omega
      ·have hle2:=of_decide_eq_false hle2
       rw[du (n:=i+1) (by omega)]
       exact⟨by omega,by omega,rfl,kn,kb,fun h=>absurd h hle2⟩
      ·have hlt2:=of_decide_eq_false hlt2
       rw[du (n:=i+1) (by omega)]
       refine⟨by omega,by omega,rfl,kn,kb,fun h=>?_⟩
       have v1:=kl h
       rw[oZ cr.dr (by omega)] at v1
       rw[show (i+1).toNat=i.toNat+1 by omega,oY _ hx,cj.rh]
       omega
    ·have hlt:=of_decide_eq_false hlt
     have v1:=gl h
     rw[oZ cj.dr (by omega)] at v1
     refine cu.rf ?_
     rw[cB.rh];omega
   ·subst gF
    exact⟨n7,rfl,rfl,gn,gb,gl⟩
end Go.Lx
namespace Go.Vc
end Go.Vc
namespace Go.Lx
open Go.Vc
namespace Px
mutual
def same:Px→Px→Bool
 | .mk k o t n f s l q,y=>q==y.pos&&(FG (.mk k o t n f s l q) y&&(decide (l.length=y.kids.length)&&GG l y.kids))
def GG:List Px→List Px→Bool
 | [],_=>true
 | _::_,[]=>false
 | x::r,y::r'=>same x y&&GG r r'
end
end Px
theorem sX{b:Bool}(h:(!b)=true):b=false:=by simpa using h
theorem ri{b:Bool}(h:(!b)=false):b=true:=by simpa using h
def IC(z n:Nat)(a:Option Addr)(c:Nat)(A:b8):Prop :=
 ∃b cells e,a=some ⟨b,0,none⟩∧A=[(b,Obj.cells cells e (0,0))]∧c=n+2∧cells[n*z+(z-1)]? = some (.int .i64 (-771))
def u6{α:Type}(R:Bool)(z:Nat)(f:α→List Value)(E:Nat)(O:α→b8→Prop)(a:Option Addr)(n c:Nat)(l:List α)(H:b8):Prop :=
 ∃A hs,H=A++fq n hs∧Acc z f E a n c l A∧(R=true→IC z n a c A)∧∀(i:Nat) (k:α),l[i]? = some k→O k (hs i)
def wY(R:Bool)(d:dG)(H:b8):Prop:=∃H1 H2 H3 H4,H=H1++(H2++(H3++H4))∧qQ 28 R d.side H1∧qQ 28 R d.qty H2∧qQ 28 R d.price H3∧qQ 28 R d.value H4
def sm(R:Bool)(r:cJ)(H:b8):Prop:=qQ 28 R r.init H
def Ct(r:cI)(H:b8):Prop:=H=[]
def rj(R:Bool)(r:cr)(H:b8):Prop:=∃H1 H2,H=H1++H2∧qQ 28 R r.when H1∧u6 R 36 dG.enc 99 (wY R) r.a r.dos.length r.c r.dos H2
def lU(R:Bool)(x:cj)(H:b8):Prop:=u6 R 10 cr.enc 84 (rj R) x.a x.rules.length x.c x.rules H
def Bw(R:Bool)(s:cB)(H:b8):Prop:=∃H1 H2 H3,H=H1++(H2++H3)∧u6 R 11 cJ.enc 77 (sm R) s.ra s.regs.length s.rc s.regs H1∧u6 R 2 cI.enc 79 Ct s.sa s.slots.length s.sc s.slots H2 ∧
 u6 R 3 cj.enc 65 (lU R) s.ta s.cd.length s.tc s.cd H3
theorem u6.ok{α:Type}{R:Bool}{z E n c:Nat}{f:α→List Value}{O:α→b8→Prop}{a:Option Addr}{l:List α}{H:b8}(h:u6 R z f E O a n c l H)(hz:∀x,(f x).length=z){I:cc}{G:b8}{K:α→Prop}(hG:∀x,x∈H→x∈G)
  (hk:∀x H',O x H'→(∀y,y∈H'→y∈G)→K x):dy I G z f a n l∧∀x∈l,K x:=by
 obtain⟨A,hs,rfl,hA, -,hO⟩:=h
 refine⟨hA.yl hz I fun x hx=>hG x (List.mem_append_left _ hx),fun x hx=>?_⟩
 obtain⟨i,hi,rfl⟩:=List.mem_iff_getElem.1 hx
 have hn:=hA.1
 exact hk _ _ (hO i _ (List.getElem?_eq_getElem hi)) fun y hy=>hG y (List.mem_append_right _ (rX (by omega) hy))
theorem wY.ok{R:Bool}{d:dG}{H:b8}(h:wY R d H){I:cc}{G:b8}(hG:∀x,x∈H→x∈G):d.Ok I G:=by
 obtain⟨H1,H2,H3,H4,rfl,h1,h2,h3,h4⟩:=h
 simp only[List.mem_append] at hG
 exact⟨h1.ok fun x hx=>hG x (.inl hx),h2.ok fun x hx=>hG x (.inr (.inl hx)),h3.ok fun x hx=>hG x (.inr (.inr (.inl hx))),h4.ok fun x hx=>hG x (.inr (.inr (.inr hx)))⟩
theorem sm.ok{R:Bool}{d:cJ}{H:b8}(h:sm R d H){I:cc}{G:b8}(hG:∀x,x∈H→x∈G):d.Ok I G:=qQ.ok h hG
theorem rj.ok{R:Bool}{r:cr}{H:b8}(h:rj R r H){I:cc}{G:b8}(hG:∀x,x∈H→x∈G):r.Ok I G:=by
 obtain⟨H1,H2,rfl,h1,h2⟩:=h
 obtain⟨g1,g2⟩:=h2.ok (I:=I) (G:=G) (K:=fun d=>d.Ok I G) (fun _=>rfl) (fun x hx=>hG x (List.mem_append_right _ hx)) fun x H' hO hs=>wY.ok hO hs
 exact⟨h1.ok fun x hx=>hG x (List.mem_append_left _ hx),g1,g2⟩
theorem lU.ok{R:Bool}{r:cj}{H:b8}(h:lU R r H){I:cc}{G:b8}(hG:∀x,x∈H→x∈G):r.Ok I G :=
 u6.ok h (fun _=>rfl) hG fun x H' hO hs=>rj.ok hO hs
def Part{α:Type}(z:Nat)(f:α→List Value)(E:Nat)(O:α→b8→Prop)(a:Option Addr)(n c:Nat)(l:List α)(F F':b8):Prop :=
 ∃A hs,Acc z f E a n c l A∧(∀(i:Nat) (k:α),l[i]? = some k→O k (hs i))∧F'.Perm (A++(fq l.length hs++F))
theorem Part.nil{α:Type}{z E:Nat}{f:α→List Value}{O:α→b8→Prop}{F:b8}:Part z f E O none 0 0 ([]:List α) F F:=⟨[],fun _=>[],Acc.nil,fun i k h=>by simp at h,.refl _⟩
theorem Part.own{α:Type}{z E n c:Nat}{f:α→List Value}{O:α→b8→Prop}{a:Option Addr}{l:List α}{F F':b8}(h:Part z f E O a n c l F F'):∃H,u6 false z f E O a n c l H∧F'.Perm (H++F):=by
 obtain⟨A,hs,hA,hk,hp⟩:=h
 exact⟨A++fq n hs,⟨A,hs,rfl,hA,fun h=>(by cases h),hk⟩,by rw[hA.1,List.append_assoc];exact hp⟩
theorem Part.mem{α:Type}{z E n c:Nat}{f:α→List Value}{O:α→b8→Prop}{a:Option Addr}{l:List α}{F F':b8}(h:Part z f E O a n c l F F'):∀x,x∈F→x∈F':=by
 obtain⟨A,hs,hA,hk,hp⟩:=h
 exact fun x hx=>hp.mem_iff.2 (List.mem_append_right _ (List.mem_append_right _ hx))
theorem Dx{α:Type}{z E n c:Nat}{f:α→List Value}{O:α→b8→Prop}{a:Option Addr}{l:List α}{F:b8}{hs:Nat→b8}{x:α}{Hx A' G:b8}(hA':Acc z f E a n c (l++[x]) A')(hk:∀(i:Nat) (k:α),l[i]? = some k→O k (hs i))(hx:O x Hx)
  (hG:G.Perm (A'++(Hx++(fq l.length hs++F)))):Part z f E O a n c (l++[x]) F G:=by
 refine⟨A',fun j=>if j<l.length then hs j else Hx,hA',fun j k hj=>?_, ?_⟩
 ·show O k (if j<l.length then hs j else Hx)
  rw[List.getElem?_append] at hj
  split at hj
  ·rename_i hlt';rw[if_pos hlt'];exact hk j k hj
  ·rename_i hge
   have hj':=List.mem_of_getElem? hj
   rw[List.mem_singleton] at hj'
   rw[if_neg hge,hj'];exact hx
 ·rw[List.length_append,List.length_singleton,mB,if_neg (Nat.lt_irrefl _),sH (hs':=hs) fun j hj=>if_pos hj]
  exact hG.trans (cW fun z=>by simp only[dp];omega)
theorem o0{P:Program}{α:Type}{z:Nat}{f:α→List Value}(hz:∀x,(f x).length=z){t ty e:TypeId}{zv:Value}{by':Nat}(ht:P.underlying t=some (.slice e))(hi:(P.info? e).map (fun i=>(i.zero,i.size,i.bytes))=some (some zv,z,by'))(hzs:zv.cells.size=z)(hb:1≤by')
  {a:Option Addr} {n c:Nat} {l:List α} {O:α→b8→Prop} {F F1 F2 R0 Hx:b8} {x:α} (h:Part z f e O a n c l F F1) (h1:∀u∈f x,u.oneCell'=true) {b:Nat} {I:cc} {o:Obj} (ho:o=.cells (f x).toArray e (0,0)) (hbm:I b=some o)
  (hx:O x Hx) (hF2:F2.Perm (R0++(Hx++F1))) (hfit:(l.length+1)*by'≤140737488355328) :
  cE P (Builtin.append_ #[t,t] ty #[.slice a n c,.slice (some ⟨b,0,none⟩) 1 1]) I F2 fun v I' G=>∃a' n' c',v=.slice a' n' c'∧∃F3,G.Perm (R0++F3)∧Part z f e O a' n' c' (l++[x]) F F3:=by
 obtain⟨A,hs,hA,hk,hp⟩:=h
 subst ho
 refine cE.perm (cE.mono (eF hz ht hi hzs hb hA (xs:=[x]) (fun y hy=>by rw[List.mem_singleton] at hy;rw[hy];exact h1) (by simp) rfl ?_ (by simpa using hfit) (F:=R0++(Hx++(fq l.length hs++F)))) fun v I2 G hI2 ⟨a',n',c',A',hv,hA',hG',_⟩=>?_) ?_
 ·refine⟨rfl,_,_,_,.inl hbm,fun j hj=>?_⟩
  simp
 ·subst hG'
  exact⟨a',n',c',hv,A'++(Hx++(fq l.length hs++F)),cW fun z=>by simp only[dp];omega,Dx hA' hk hx (.refl _)⟩
 ·refine hF2.trans ?_
  exact cW fun z=>by have:=oF hp z;simp only[dp] at this ⊢;omega
theorem Part.len{α:Type}{z E n c:Nat}{f:α→List Value}{O:α→b8→Prop}{a:Option Addr}{l:List α}{F F':b8}(h:Part z f E O a n c l F F'):n=l.length:=by
 obtain⟨A,hs,hA,hk,hp⟩:=h;exact hA.1
theorem iW{α β:Type}{g:α→β}{l:List α}{i:Nat}{x:α}(hx:l[i]? = some x):(l.take (i+1)).map g=(l.take i).map g++[g x]:=by
 obtain⟨hk,rfl⟩:=List.getElem?_eq_some_iff.1 hx
 rw[List.take_succ_eq_append_getElem hk,List.map_append];rfl
theorem rk{α β δ:Type}{g:α→β}{p:δ→β}{l:List α}{ks:List δ}{i:Nat}(e:ks.map p=(l.take i).map g)(hi:i≤l.length):ks.length=i:=by
 have:=congrArg List.length e
 simp only[List.length_map,List.length_take] at this
 omega
end Go.Lx
namespace Go.Lx
open Go.Vc Go.Proofs.Tryz
def np:List (Nat×List Sh):=[(4,[.one .bool]),(9,[.one .str]),(28,[.agg [(.int .u8),(.int .u8),(.int .u8),(.int .i64),(.int .u8),.str,.slc,(.int .i64)]]),(47,[.one (.int .i64)]),(65,[.agg [.str,.slc,(.int .i64)]]),(77,[.agg [.str,(.int .u8),(.int .u8),(.int .u8),(.int .u8),(.int .i64),(.int .u8),.str,.slc,(.int .i64),(.int .i64)]]),(84,[.agg [(.int .u8),(.int .u8),(.int .u8),(.int .i64),(.int .u8),.str,.slc,(.int .i64),.slc,(.int .i64)]]),(99,[.agg [(.int .u8),(.int .u8),.str,(.int .u8),(.int .u8),(.int .u8),(.int .i64),(.int .u8),.str,.slc,(.int .i64),(.int .u8),(.int .u8),(.int .u8),(.int .i64),(.int .u8),.str,.slc,(.int .i64),(.int .u8),(.int .u8),(.int .u8),(.int .i64),(.int .u8),.str,.slc,(.int .i64),(.int .u8),(.int .u8),(.int .u8),(.int .i64),(.int .u8),.str,.slc,(.int .i64),(.int .i64)]])]
def la.V(b:Nat→Nat×Obj)(vb vi:Int→Value)(vs:Bs→Value)(vl:OA→Nat→Nat→Value)(ah:Bs)(q:OA)(d aj:Nat)(s:OA)(e ak:Nat)(t:OA)(a al:Nat)(I:cc)(F:b8)(Q:cf)(Inv24:Int→Bool→Int→Nat→cc→b8→Prop)(Inv55:Int→Bool→Int→Nat→cc→b8→Prop)(Inv94:Int→Int→Nat→cc→b8→Prop):Prop:=∀c:Nat,cF P 61 #[vs ah] I ((b c)::·) F .bool fun r I1 F1=>(It (!r) (Q (.returned (vi 120)) I1 F1) (Dt ((d:Int)>12) (Q (.returned (vi 121)) I1 F1) ((∃m:Nat,Inv24 0 r 0 m I1 F1)∧∀(x:Int) (ok:Bool) (i:Int) (m1:Nat) (I2:cc) (F2:b8),cc.le I1 I2→Inv24 x ok i m1 I2 F2→(Dt (i<(d:Int)) ((0≤i∧i<(d:Int))∧∃ad:Addr,q=some ad∧∃(u:Bs) (v w y z aa ab:Int) (ac:Bs) (f:OA) (g h:Nat) (ae n:Int),Rd I2 ((b c)::F2) (ad.add (Int.toNat i*11)) [vs u,vb v,vb w,vb y,vb z,vi aa,vb ab,vs ac,vl f g h,vi ae,vi n]∧cF P 75 #[.agg #[vs u,vb v,vb w,vb y,vb z,vi aa,vb ab,vs ac,vl f g h,vi ae,vi n]] I2 ((b c)::·) F2 .bool fun r1 I3 F3=>(It (!r1) (Q (.returned (vi 120)) I3 F3) (∃m2:Nat,m2<m1∧Inv24 x r1 (IntKind.wrap .i64 (i+1)) m2 I3 F3))) (Dt ((e:Int)>4) (Q (.returned (vi 121)) I2 F2) ((∃m3:Nat,Inv55 x ok 0 m3 I2 F2)∧∀(x1:Int) (ai:Bool) (i1:Int) (m4:Nat) (I4:cc) (F4:b8),cc.le I2 I4→Inv55 x1 ai i1 m4 I4 F4→(Dt (i1<(e:Int)) ((0≤i1∧i1<(e:Int))∧∃af:Addr,s=some af∧∃(m5:Bs),Rd I4 ((b c)::F4) ((af.add (Int.toNat i1*2)).add 0) [vs m5]∧cF P 61 #[vs m5] I4 ((b c)::·) F4 .bool fun r2 I5 F5=>(It (!r2) (Q (.returned (vi 120)) I5 F5) (∃m6:Nat,m6<m4∧Inv55 x1 r2 (IntKind.wrap .i64 (i1+1)) m6 I5 F5))) (It ((a:Int)==0) (Q (.returned (vi 120)) I4 F4) (Dt ((a:Int)>12) (Q (.returned (vi 121)) I4 F4) ((∃m7:Nat,Inv94 x1 0 m7 I4 F4)∧∀(x2 i2:Int) (m8:Nat) (I6:cc) (F6:b8),cc.le I4 I6→Inv94 x2 i2 m8 I6 F6→(Dt (i2<(a:Int)) ((0≤i2∧i2<(a:Int))∧∃ag:Addr,t=some ag∧∃(o:Bs) (j:OA) (k l:Nat) (p:Int),Rd I6 ((b c)::F6) (ag.add (Int.toNat i2*3)) [vs o,vl j k l,vi p]∧cF P 76 #[.agg #[vs o,vl j k l,vi p]] I6 ((b c)::·) F6 vi fun r3 I7 F7=>(It (r3 != 0) (Q (.returned (vi r3)) I7 F7) (∃m9:Nat,m9<m8∧Inv94 x2 (IntKind.wrap .i64 (i2+1)) m9 I7 F7))) (Q (.returned (vi 0)) I6 F6))))))))))))
theorem la.vc{l:Bs}{a:OA}{c d:Nat}{e:OA}{f g:Nat}{i:OA}{j k:Nat}{I:cc}{F:b8}{Q:cf}(Inv24:Int→Bool→Int→Nat→cc→b8→Prop)(Inv55:Int→Bool→Int→Nat→cc→b8→Prop)(Inv94:Int→Int→Nat→cc→b8→Prop)(h:la.V (fun b=>(b,Obj.cells #[.string l,.slice a c d,.slice e f g,.slice i j k] 39 (0,0))) (.int .u8) (.int .i64) .string .slice l a c d e f g i j k I F Q Inv24 Inv55 Inv94):cg P 47 #[.agg #[.string l,.slice a c d,.slice e f g,.slice i j k]] I F Q :=
 tw (A:=(cQ [2001,4003,7004,10001,12003,15004,18001,20003,22003,25004,28001] [] [61,75,76] np [(24,⟨[(2,(.int .i64)),(3,.bool),(4,(.int .i64))],[],fun _ _ _ vs m I F=>match vs with | [.int _ y0,.bool y1,.int _ y2]=>Inv24 y0 y1 y2 m I F | _=>False,[],[]⟩),(55,⟨[(2,(.int .i64)),(3,.bool),(5,(.int .i64))],[],fun _ _ _ vs m I F=>match vs with | [.int _ y0,.bool y1,.int _ y2]=>Inv55 y0 y1 y2 m I F | _=>False,[],[]⟩),(94,⟨[(2,(.int .i64)),(6,(.int .i64))],[],fun _ _ _ vs m I F=>match vs with | [.int _ y0,.int _ y1]=>Inv94 y0 y1 m I F | _=>False,[],[]⟩)] [] [] [] [] [] [])) [61,75,76] func47 h
def o5.V(a:Nat→Nat×Obj)(vb:Int→Value)(vt:Bool→Value)(g:Bs)(b h i j k l:Int)(m:Bs)(d:OA)(e f:Nat)(n o:Int)(I:cc)(F:b8)(Q:cf)  : Prop:=∀c:Nat,cF P 61 #[.string g] I ((a c)::·) F vt fun r I1 F1=>(It r (Dt (b≥1) (Dt (b≤6) (cF P 114 #[.agg #[vb h,vb i,vb j,.int .i64 k,vb l,.string m,.slice d e f,.int .i64 n]] I1 ((a c)::·) F1 vt fun r1 I2 F2=>Q (.returned (vt r1)) I2 F2) (Q (.returned (vt false)) I1 F1)) (Q (.returned (vt false)) I1 F1)) (Q (.returned (vt false)) I1 F1))
theorem o5.vc{f:Bs}{g i j k l m:Int}{n:Bs}{a:OA}{c d:Nat}{o e:Int}{I:cc}{F:b8}{Q:cf}  (h:o5.V (fun b=>(b,Obj.cells #[.string f,.int .u8 g,.int .u8 i,.int .u8 j,.int .u8 k,.int .i64 l,.int .u8 m,.string n,.slice a c d,.int .i64 o,.int .i64 e] 77 (0,0))) (.int .u8) .bool f g i j k l m n a c d o e I F Q):cg P 75 #[.agg #[.string f,.int .u8 g,.int .u8 i,.int .u8 j,.int .u8 k,.int .i64 l,.int .u8 m,.string n,.slice a c d,.int .i64 o,.int .i64 e]] I F Q :=
 tw (A:=(an [2000,2004,2009] [61,114] np)) [61,114] func75 h
def lb.V(b:Nat→Nat×Obj)(vb vi:Int→Value)(vl:OA→Nat→Nat→Value)(v:Bs)(k:OA)(a w:Nat)(y:Int)(I:cc)(F:b8)(Q:cf)(Inv24:Int→Int→Nat→cc→b8→Prop):Prop:=∀c:Nat,cF P 61 #[.string v] I ((b c)::·) F .bool fun r I1 F1=>(It (!r) (Q (.returned (vi 120)) I1 F1) (Dt ((a:Int)>12) (Q (.returned (vi 121)) I1 F1) ((∃m:Nat,Inv24 0 0 m I1 F1)∧∀(x i:Int) (m1:Nat) (I2:cc) (F2:b8),cc.le I1 I2→Inv24 x i m1 I2 F2→(Dt (i<(a:Int)) ((0≤i∧i<(a:Int))∧∃ad:Addr,k=some ad∧∃(l n o p q:Int) (s:Bs) (d:OA) (e f:Nat) (t:Int) (g:OA) (h j:Nat) (u:Int),Rd I2 ((b c)::F2) (ad.add (Int.toNat i*10)) [vb l,vb n,vb o,vi p,vb q,.string s,vl d e f,vi t,vl g h j,vi u]∧cF P 115 #[.agg #[vb l,vb n,vb o,vi p,vb q,.string s,vl d e f,vi t,vl g h j,vi u]] I2 ((b c)::·) F2 vi fun r1 I3 F3=>(It (r1 != 0) (Q (.returned (vi r1)) I3 F3) (∃m2:Nat,m2<m1∧Inv24 x (IntKind.wrap .i64 (i+1)) m2 I3 F3))) (Q (.returned (vi 0)) I2 F2)))))
theorem lb.vc{e:Bs}{a:OA}{c d:Nat}{f:Int}{I:cc}{F:b8}{Q:cf}(Inv24:Int→Int→Nat→cc→b8→Prop)(h:lb.V (fun b=>(b,Obj.cells #[.string e,.slice a c d,.int .i64 f] 65 (0,0))) (.int .u8) (.int .i64) .slice e a c d f I F Q Inv24):cg P 76 #[.agg #[.string e,.slice a c d,.int .i64 f]] I F Q :=
 tw (A:=(cQ [2001,4003,7004,10001] [] [61,115] np [(24,⟨[(2,(.int .i64)),(4,(.int .i64))],[],fun _ _ _ vs m I F=>match vs with | [.int _ y0,.int _ y1]=>Inv24 y0 y1 m I F | _=>False,[],[]⟩)] [] [] [] [] [] [])) [61,115] func76 h
def nq.V(b:Nat→Nat×Obj)(vb vi:Int→Value)(vs:Bs→Value)(vl:OA→Nat→Nat→Value)(aG aH aI aJ aK:Int)(aL:Bs)(ar:OA)(au av:Nat)(aM:Int)(aw:OA)(a aN:Nat)(aO:Int)(I:cc)(F:b8)(Q:cf)(Inv32:Int→Int→Int→Nat→cc→b8→Prop):Prop:=∀n:Nat,cF P 137 #[.agg #[vb aG,vb aH,vb aI,vi aJ,vb aK,vs aL,vl ar au av,vi aM]] I ((b n)::·) F vi fun r I1 F1=>(It (r != 0) (Q (.returned (vi r)) I1 F1) (It ((a:Int)==0) (Q (.returned (vi 120)) I1 F1) (Dt ((a:Int)>8) (Q (.returned (vi 121)) I1 F1) ((∃m:Nat,Inv32 0 r 0 m I1 F1)∧∀(x e2 i:Int) (m1:Nat) (I2:cc) (F2:b8),cc.le I1 I2→Inv32 x e2 i m1 I2 F2→(Dt (i<(a:Int)) ((0≤i∧i<(a:Int))∧∃ad:Addr,aw=some ad∧∃(ax ay:Int) (az:Bs) (aA aB aC aD aE:Int) (aF:Bs) (o:OA) (p q:Nat) (s t u v w y:Int) (z:Bs) (c:OA) (d e:Nat) (aa ab ac ae af ag:Int) (ah:Bs) (f:OA) (g h:Nat) (ai aj ak al am an:Int) (ao:Bs) (j:OA) (k l:Nat) (ap aq:Int),Rd I2 ((b n)::F2) (ad.add (Int.toNat i*36)) [vb ax,vb ay,vs az,vb aA,vb aB,vb aC,vi aD,vb aE,vs aF,vl o p q,vi s,vb t,vb u,vb v,vi w,vb y,vs z,vl c d e,vi aa,vb ab,vb ac,vb ae,vi af,vb ag,vs ah,vl f g h,vi ai,vb aj,vb ak,vb al,vi am,vb an,vs ao,vl j k l,vi ap,vi aq]∧cF P 138 #[.agg #[vb ax,vb ay,vs az,vb aA,vb aB,vb aC,vi aD,vb aE,vs aF,vl o p q,vi s,vb t,vb u,vb v,vi w,vb y,vs z,vl c d e,vi aa,vb ab,vb ac,vb ae,vi af,vb ag,vs ah,vl f g h,vi ai,vb aj,vb ak,vb al,vi am,vb an,vs ao,vl j k l,vi ap,vi aq]] I2 ((b n)::·) F2 vi fun r1 I3 F3=>(It (r1 != 0) (Q (.returned (vi r1)) I3 F3) (∃m2:Nat,m2<m1∧Inv32 x r1 (IntKind.wrap .i64 (i+1)) m2 I3 F3))) (Q (.returned (vi 0)) I2 F2))))))
theorem nq.vc{i j k l n:Int}{o:Bs}{a:OA}{c d:Nat}{p:Int}{e:OA}{f g:Nat}{q:Int}{I:cc}{F:b8}{Q:cf}(Inv32:Int→Int→Int→Nat→cc→b8→Prop)(h:nq.V (fun b=>(b,Obj.cells #[.int .u8 i,.int .u8 j,.int .u8 k,.int .i64 l,.int .u8 n,.string o,.slice a c d,.int .i64 p,.slice e f g,.int .i64 q] 84 (0,0))) (.int .u8) (.int .i64) .string .slice i j k l n o a c d p e f g q I F Q Inv32):cg P 115 #[.agg #[.int .u8 i,.int .u8 j,.int .u8 k,.int .i64 l,.int .u8 n,.string o,.slice a c d,.int .i64 p,.slice e f g,.int .i64 q]] I F Q :=
 tw (A:=(cQ [2001,4003,6003,9004,12001] [] [137,138] np [(32,⟨[(2,(.int .i64)),(3,(.int .i64)),(4,(.int .i64))],[],fun _ _ _ vs m I F=>match vs with | [.int _ y0,.int _ y1,.int _ y2]=>Inv32 y0 y1 y2 m I F | _=>False,[],[]⟩)] [] [] [] [] [] [])) [137,138] func115 h
def rm.V(a:Nat→Nat×Obj)(nV:Int→Int→Int→Int→Int→Bs→OA→Nat→Nat→Int→Value)(vi:Int→Value)(vl:OA→Nat→Nat→Value)(vt:Bool→Value)(d k:Int)(ab:Bs)(aE aF aG aH aI:Int)(aJ:Bs)(an:OA)(ao ap:Nat)(aD ag ah ai aj ak:Int)(al:Bs)(ac:OA)(ad ae:Nat)(am l m n o p:Int)(q:Bs)(e:OA)(f g:Nat)(s t u v w y:Int)(z:Bs)(h:OA)(i j:Nat)(aa aX:Int)(I:cc)(F:b8)(Q:cf)(Inv6:Int→cc→b8→Prop)(Inv14:Int→cc→b8→Prop)(Inv24:Int→cc→b8→Prop):Prop:=∀c:Nat,((Dt (d<1) (Q (.returned (vi 120)) I F) (Dt (d>6) (Q (.returned (vi 120)) I F) (Inv6 0 I F))))∧∀(x:Int) (I1:cc) (F1:b8),cc.le I I1→Inv6 x I1 F1→((It (d==1) (Dt (k<1) (Q (.returned (vi 120)) I1 F1) (Dt (k>5) (Q (.returned (vi 120)) I1 F1) (It (!(d==1)) (It (k != 0) (Q (.returned (vi 120)) I1 F1) (Inv14 x I1 F1)) (Inv14 x I1 F1)))) (It (!(d==1)) (It (k != 0) (Q (.returned (vi 120)) I1 F1) (Inv14 x I1 F1)) (Inv14 x I1 F1))))∧∀(x1:Int) (I2:cc) (F2:b8),cc.le I1 I2→Inv14 x1 I2 F2→cF P 61 #[.string ab] I2 ((a c)::·) F2 vt fun r I3 F3=>((It (d==6) (It (!(ab.toList==(⟨#[]⟩:Bs).toList)) (Q (.returned (vi 120)) I3 F3) (It (d != 6) (It (!r) (It (d==1) (It (!(ab.toList==(⟨#[]⟩:Bs).toList)) (Q (.returned (vi 120)) I3 F3) (Inv24 x1 I3 F3)) (It true (Q (.returned (vi 120)) I3 F3) (Inv24 x1 I3 F3))) (Inv24 x1 I3 F3)) (Inv24 x1 I3 F3))) (It (d != 6) (It (!r) (It (d==1) (It (!(ab.toList==(⟨#[]⟩:Bs).toList)) (Q (.returned (vi 120)) I3 F3) (Inv24 x1 I3 F3)) (It true (Q (.returned (vi 120)) I3 F3) (Inv24 x1 I3 F3))) (Inv24 x1 I3 F3)) (Inv24 x1 I3 F3))))∧∀(x2:Int) (I4:cc) (F4:b8),cc.le I3 I4→Inv24 x2 I4 F4→cF P 153 (#[vt (d==1),nV aE aF aG aH aI aJ an ao ap aD]) I4 ((a c)::·) F4 vi fun r1 I5 F5=>(It (d==1) (cF P 153 #[vt true,nV ag ah ai aj ak al ac ad ae am] I5 ((a c)::·) F5 vi fun r2 I6 F6=>(It (d==1) (It (k != 2) (cF P 153 #[vt true,nV l m n o p q e f g s] I6 ((a c)::·) F6 vi fun r3 I7 F7=>cF P 153 (#[vt (d==4),nV t u v w y z h i j aa]) I7 ((a c)::·) F7 vi fun r4 I8 F8=>∀(b:Nat) (I9:cc),cc.le I8 I9→I9 b=some (Obj.cells #[vi r1,vi r2,vi r3,vi r4] 47 (0,0))→cF P 154 (#[vl (some ⟨b,0,none⟩) 4 4]) I9 ((a c)::·) F8 vi fun r5 I10 F9=>Q (.returned (vi r5)) I10 F9) (cF P 153 (#[vt (d==2),nV l m n o p q e f g s]) I6 ((a c)::·) F6 vi fun r6 I11 F10=>cF P 153 (#[vt (d==4),nV t u v w y z h i j aa]) I11 ((a c)::·) F10 vi fun r7 I12 F11=>∀(b1:Nat) (I13:cc),cc.le I12 I13→I13 b1=some (Obj.cells #[vi r1,vi r2,vi r6,vi r7] 47 (0,0))→cF P 154 (#[vl (some ⟨b1,0,none⟩) 4 4]) I13 ((a c)::·) F11 vi fun r8 I14 F12=>Q (.returned (vi r8)) I14 F12)) (cF P 153 (#[vt (d==2),nV l m n o p q e f g s]) I6 ((a c)::·) F6 vi fun r9 I15 F13=>cF P 153 (#[vt (d==4),nV t u v w y z h i j aa]) I15 ((a c)::·) F13 vi fun aq I16 F14=>∀(b2:Nat) (I17:cc),cc.le I16 I17→I17 b2=some (Obj.cells #[vi r1,vi r2,vi r9,vi aq] 47 (0,0))→cF P 154 (#[vl (some ⟨b2,0,none⟩) 4 4]) I17 ((a c)::·) F14 vi fun ar I18 F15=>Q (.returned (vi ar)) I18 F15))) (cF P 153 (#[vt (d==2),nV ag ah ai aj ak al ac ad ae am]) I5 ((a c)::·) F5 vi fun af I19 F16=>(It (d==1) (It (k != 2) (cF P 153 #[vt true,nV l m n o p q e f g s] I19 ((a c)::·) F16 vi fun au I20 F17=>cF P 153 (#[vt (d==4),nV t u v w y z h i j aa]) I20 ((a c)::·) F17 vi fun av I21 F18=>∀(b3:Nat) (I22:cc),cc.le I21 I22→I22 b3=some (Obj.cells #[vi r1,vi af,vi au,vi av] 47 (0,0))→cF P 154 (#[vl (some ⟨b3,0,none⟩) 4 4]) I22 ((a c)::·) F18 vi fun aw I23 F19=>Q (.returned (vi aw)) I23 F19) (cF P 153 (#[vt (d==2),nV l m n o p q e f g s]) I19 ((a c)::·) F16 vi fun ax I24 F20=>cF P 153 (#[vt (d==4),nV t u v w y z h i j aa]) I24 ((a c)::·) F20 vi fun ay I25 F21=>∀(b4:Nat) (I26:cc),cc.le I25 I26→I26 b4=some (Obj.cells #[vi r1,vi af,vi ax,vi ay] 47 (0,0))→cF P 154 (#[vl (some ⟨b4,0,none⟩) 4 4]) I26 ((a c)::·) F21 vi fun az I27 F22=>Q (.returned (vi az)) I27 F22)) (cF P 153 (#[vt (d==2),nV l m n o p q e f g s]) I19 ((a c)::·) F16 vi fun aA I28 F23=>cF P 153 (#[vt (d==4),nV t u v w y z h i j aa]) I28 ((a c)::·) F23 vi fun aB I29 F24=>∀(b5:Nat) (I30:cc),cc.le I29 I30→I30 b5=some (Obj.cells #[vi r1,vi af,vi aA,vi aB] 47 (0,0))→cF P 154 (#[vl (some ⟨b5,0,none⟩) 4 4]) I30 ((a c)::·) F24 vi fun aC I31 F25=>Q (.returned (vi aC)) I31 F25))))
theorem rm.vc{ay az:Int}{aA:Bs}{aB aC aD aE aF:Int}{aG:Bs}{w:OA}{x y:Nat}{z aa ab ac ad ae:Int}{af:Bs}{d:OA}{e g:Nat}{ag ah ai aj ak al:Int}{am:Bs}{i:OA}{j p:Nat}{an ao ap aq ar au:Int}{av:Bs}{r:OA}{u v:Nat}{aw ax:Int}{I:cc}{F:b8}{Q:cf}(Inv6:Int→cc→b8→Prop)(Inv14:Int→cc→b8→Prop)(Inv24:Int→cc→b8→Prop)(h:rm.V (fun b=>(b,Obj.cells #[.int .u8 ay,.int .u8 az,.string aA,.int .u8 aB,.int .u8 aC,.int .u8 aD,.int .i64 aE,.int .u8 aF,.string aG,.slice w x y,.int .i64 z,.int .u8 aa,.int .u8 ab,.int .u8 ac,.int .i64 ad,.int .u8 ae,.string af,.slice d e g,.int .i64 ag,.int .u8 ah,.int .u8 ai,.int .u8 aj,.int .i64 ak,.int .u8 al,.string am,.slice i j p,.int .i64 an,.int .u8 ao,.int .u8 ap,.int .u8 aq,.int .i64 ar,.int .u8 au,.string av,.slice r u v,.int .i64 aw,.int .i64 ax] 99 (0,0))) (fun k o t n f s a l c q=>.agg #[.int .u8 k,.int .u8 o,.int .u8 t,.int .i64 n,.int .u8 f,.string s,.slice a l c,.int .i64 q]) (.int .i64) .slice .bool ay az aA aB aC aD aE aF aG w x y z aa ab ac ad ae af d e g ag ah ai aj ak al am i j p an ao ap aq ar au av r u v aw ax I F Q Inv6 Inv14 Inv24):cg P 138 #[.agg #[.int .u8 ay,.int .u8 az,.string aA,.int .u8 aB,.int .u8 aC,.int .u8 aD,.int .i64 aE,.int .u8 aF,.string aG,.slice w x y,.int .i64 z,.int .u8 aa,.int .u8 ab,.int .u8 ac,.int .i64 ad,.int .u8 ae,.string af,.slice d e g,.int .i64 ag,.int .u8 ah,.int .u8 ai,.int .u8 aj,.int .i64 ak,.int .u8 al,.string am,.slice i j p,.int .i64 an,.int .u8 ao,.int .u8 ap,.int .u8 aq,.int .i64 ar,.int .u8 au,.string av,.slice r u v,.int .i64 aw,.int .i64 ax]] I F Q :=
 tw (A:=(cQ [3002,3006,5000,5004,5008,5013,5017,8002,8006,8011,8014,8017,8023,11000,12000,12004] [] [61,153,154] np [(6,⟨[(2,(.int .i64))],[],fun _ _ _ vs m I F=>match vs with | [.int _ y0]=>Inv6 y0 I F | _=>False,[],[]⟩),(14,⟨[(2,(.int .i64))],[],fun _ _ _ vs m I F=>match vs with | [.int _ y0]=>Inv14 y0 I F | _=>False,[],[]⟩),(24,⟨[(2,(.int .i64))],[],fun _ _ _ vs m I F=>match vs with | [.int _ y0]=>Inv24 y0 I F | _=>False,[],[]⟩)] [14004] [] [] [] [] [])) [61,153,154] func138 h
def ld.V(vi:Int→Value)(b:OA)(a d:Nat)(I:cc)(F:b8)(Q:cf)(Inv6:Int→Int→Nat→cc→b8→Prop):Prop:=(∃m:Nat,Inv6 0 0 m I F)∧∀(x i:Int) (m1:Nat) (I1:cc) (F1:b8),cc.le I I1→Inv6 x i m1 I1 F1→(Dt (i<(a:Int)) ((0≤i∧i<(a:Int))∧∃ad:Addr,b=some ad∧∃(m2:Int),Rd I1 F1 (ad.add (Int.toNat i*1)) [vi m2]∧(It (m2 != 0) ((0≤i∧i<(a:Int))∧∃c:Addr,b=some c∧∃(m3:Int),Rd I1 F1 (c.add (Int.toNat i*1)) [vi m3]∧Q (.returned (vi m3)) I1 F1) (∃m4:Nat,m4<m1∧Inv6 x (IntKind.wrap .i64 (i+1)) m4 I1 F1))) (Q (.returned (vi 0)) I1 F1))
theorem ld.vc{a:OA}{b c:Nat}{I:cc}{F:b8}{Q:cf}(Inv6:Int→Int→Nat→cc→b8→Prop)(h:ld.V (.int .i64) a b c I F Q Inv6):cg P 154 #[.slice a b c] I F Q :=
 tw (A:=(cQ [2003,4004] [] [] np [(6,⟨[(2,(.int .i64)),(3,(.int .i64))],[],fun _ _ _ vs m I F=>match vs with | [.int _ y0,.int _ y1]=>Inv6 y0 y1 m I F | _=>False,[],[]⟩)] [] [] [] [] [] [])) [] func154 h
def nr.V(a:Nat→Nat×Obj)(nV:Int→Int→Int→Int→Int→Bs→OA→Nat→Nat→Int→Value)(vi:Int→Value)(b:Bool)(g h i j k:Int)(l:Bs)(c:OA)(d e:Nat)(m:Int)(I:cc)(F:b8)(Q:cf)  : Prop:=∀f:Nat,(It b (cF P 137 #[nV g h i j k l c d e m] I ((a f)::·) F vi fun r I1 F1=>Q (.returned (vi r)) I1 F1) (cF P 164 #[nV g h i j k l c d e m] I ((a f)::·) F .bool fun r1 I2 F2=>(It (!r1) (Q (.returned (vi 120)) I2 F2) (Q (.returned (vi 0)) I2 F2))))
theorem nr.vc{i:Bool}{j m p r u:Int}{v:Bs}{d:OA}{e g:Nat}{w:Int}{I:cc}{F:b8}{Q:cf}  (h:nr.V (fun b=>(b,Obj.cells #[.int .u8 j,.int .u8 m,.int .u8 p,.int .i64 r,.int .u8 u,.string v,.slice d e g,.int .i64 w] 28 (0,0))) (fun k o t n f s a l c q=>.agg #[.int .u8 k,.int .u8 o,.int .u8 t,.int .i64 n,.int .u8 f,.string s,.slice a l c,.int .i64 q]) (.int .i64) i j m p r u v d e g w I F Q):cg P 153 #[.bool i,.agg #[.int .u8 j,.int .u8 m,.int .u8 p,.int .i64 r,.int .u8 u,.string v,.slice d e g,.int .i64 w]] I F Q :=
 tw (A:=(an [1000,4001] [137,164] np)) [137,164] func153 h
def ns.V(nO:Int→Int→Int→Int→Int→Bs→OA→Nat→Nat→Int→Obj)(vb:Int→Value)(vt:Bool→Value)(d e f g h:Int)(i:Bs)(b:OA)(a c:Nat)(j:Int)(I:cc)(F:b8)(Q:cf)  : Prop:=∀k:Nat,(It (d==0) (cF P 62 #[.agg #[vb d,vb e,vb f,.int .i64 g,vb h,.string i,.slice b a c,.int .i64 j]] I ((k,nO d e f g h i b a c j)::·) F vt fun r I1 F1=>(It r (Q (.returned (vt ((a:Int)==0))) I1 F1) (Q (.returned (vt false)) I1 F1))) (Q (.returned (vt false)) I F))
theorem ns.vc{g i j m p:Int}{r:Bs}{b:OA}{d e:Nat}{u:Int}{I:cc}{F:b8}{Q:cf}  (h:ns.V (fun k o t n f s a l c q=>.cells #[.int .u8 k,.int .u8 o,.int .u8 t,.int .i64 n,.int .u8 f,.string s,.slice a l c,.int .i64 q] 28 (0,0)) (.int .u8) .bool g i j m p r b d e u I F Q):cg P 164 #[.agg #[.int .u8 g,.int .u8 i,.int .u8 j,.int .i64 m,.int .u8 p,.string r,.slice b d e,.int .i64 u]] I F Q :=
 tw (A:=(an [1002,1005] [62] np)) [62] func164 h
def jT.V(b:Nat→Nat×Obj)(nV:Int→Int→Int→Int→Int→Bs→OA→Nat→Nat→Int→Value)(nO:Int→Int→Int→Int→Int→Bs→OA→Nat→Nat→Int→Obj)(vb:Int→Value)(vt:Bool→Value)(c g l m n:Int)(o:Bs)(d:OA)(a f:Nat)(p:Int)(I:cc)(F:b8)(Q:cf)  : Prop:=∀e:Nat,(It (c==5) (It (g==1) (It ((a:Int)==1) ((0≤(0:Int)∧(0:Int)<(a:Int))∧∃ad:Addr,d=some ad∧∃(k s q t u:Int) (v:Bs) (h:OA) (i j:Nat) (w:Int),Rd I ((b e)::F) (ad.add (Int.toNat 0*8)) [vb k,vb s,vb q,.int .i64 t,vb u,.string v,.slice h i j,.int .i64 w]∧∀x:Nat,cF P 15 #[nV c g l m n o d a f p] I ((b e)::(x,nO k s q t u v h i j w)::·) F vt fun r I1 F1=>(It r (It (k==1) (Q (.returned (vt (decide (q≤4)))) I1 F1) (Q (.returned (vt false)) I1 F1)) (Q (.returned (vt false)) I1 F1))) (cF P 15 #[nV c g l m n o d a f p] I ((b e)::·) F vt fun r1 I2 F2=>(It r1 (Q (.returned (vt (c==1))) I2 F2) (Q (.returned (vt false)) I2 F2)))) (cF P 15 #[nV c g l m n o d a f p] I ((b e)::·) F vt fun r2 I3 F3=>(It r2 (Q (.returned (vt (c==1))) I3 F3) (Q (.returned (vt false)) I3 F3)))) (cF P 15 #[nV c g l m n o d a f p] I ((b e)::·) F vt fun r3 I4 F4=>(It r3 (Q (.returned (vt (c==1))) I4 F4) (Q (.returned (vt false)) I4 F4))))
theorem jT.vc{i j m p r:Int}{u:Bs}{d:OA}{e g:Nat}{v:Int}{I:cc}{F:b8}{Q:cf}  (h:jT.V (fun b=>(b,Obj.cells #[.int .u8 i,.int .u8 j,.int .u8 m,.int .i64 p,.int .u8 r,.string u,.slice d e g,.int .i64 v] 28 (0,0))) (fun k o t n f s a l c q=>.agg #[.int .u8 k,.int .u8 o,.int .u8 t,.int .i64 n,.int .u8 f,.string s,.slice a l c,.int .i64 q]) (fun k o t n f s a l c q=>.cells #[.int .u8 k,.int .u8 o,.int .u8 t,.int .i64 n,.int .u8 f,.string s,.slice a l c,.int .i64 q] 28 (0,0)) (.int .u8) .bool i j m p r u d e g v I F Q):cg P 114 #[.agg #[.int .u8 i,.int .u8 j,.int .u8 m,.int .i64 p,.int .u8 r,.string u,.slice d e g,.int .i64 v]] I F Q :=
 tw (A:=(an [1002,1006,1012,3001,3005,4001] [15] np)) [15] func114 h
end Go.Lx
namespace Go.Lx
open Go.Vc
theorem Bx(t:Nd)(I:cc)(F:b8):cg P 164 #[t.v] I F (eg (.bool t.px.sO) F):=by
 refine ns.vc ?_
 unfold ns.V
 intro b_n
 have hdef:t.px.sO=(t.kind==0&&(zB t.oper t.cx t.n t.field t.name&&decide (t.kids.length=0))):=by
  unfold Px.sO zB
  rw[Nd.cO,Nd.fD,Nd.ir,Nd.yY,Nd.jt,Nd.gL,Nd.dv,List.length_map,dB]
  simp only[Bool.and_assoc]
 rw[hdef]
 refine⟨fun h=>cg.ret (rY _ _ _ _ _ _ _ _ _ _ I _) fun I1 l1=>⟨_,rfl,F,.refl _,fun h2=>⟨?_,rfl⟩,fun h2=>⟨?_,rfl⟩⟩,fun h=>⟨?_,rfl⟩⟩
 ·rw[h,h2]
  simp only[Bool.true_and]
  have:(((t.kids.length:Nat):Int)==0)=decide (t.kids.length=0):=by
   rw[Bool.eq_iff_iff];simp
  rw[this]
 ·rw[h,h2];rfl
 ·rw[h];rfl
theorem dt(q:Bool)(t:Nd)(hs:t.px.size≤1048576)(I:cc)(F:b8)(ht:cH I F t):cg P 153 #[.bool q,t.v] I F (eg (.int .i64 (cN q t.px)) F):=by
 refine nr.vc ?_
 unfold nr.V
 intro b_n
 unfold cN
 refine⟨fun h=>cg.ret (jC t hs I _ ht.cons) fun I1 l1=>⟨_,rfl,F,.refl _, ?_,rfl⟩,fun h=>cg.ret (Bx t I _) fun I1 l1=>⟨_,rfl,F,.refl _,fun h2=>⟨?_,rfl⟩,fun h2=>⟨?_,rfl⟩⟩⟩
 ·subst h;rfl
 ·subst h;rw[sX h2];rfl
 ·subst h;rw[ri h2];rfl
theorem Bz{a:Option Addr}{c:Nat}{l:List Int}(I:cc)(F:b8)(hl:l.length≤1000000)(ha:dy I F 1 (fun x=>[Value.int .i64 x]) a l.length l):cg P 154 #[.slice a l.length c] I F (eg (.int .i64 (cD id l)) F):=by
 refine ld.vc (fun x i m I' F'=>F'=F∧0≤i∧i≤l.length∧m=(l.length-i).toNat∧cc.le I I'∧cD id l=cD id (l.drop i.toNat)) ?_
 unfold ld.V
 refine⟨⟨_,rfl,by omega,by omega,rfl,cc.le_refl I,rfl⟩,fun x i m I1 F1 _ ⟨gF,g0,g1,gm,l1,ge⟩=>?_⟩
 subst gF
 refine⟨fun hlt=>?_,fun hlt=>⟨?_,rfl⟩⟩
 ·have hlt:=of_decide_eq_true hlt
  obtain⟨ad,x,had,hx,hrd,hxm⟩:=dy.j3 (ha.mono l1 fun _ h=>h) g0 hlt
  refine⟨⟨g0,hlt⟩,ad,had,x,hrd,fun h=>⟨⟨g0,hlt⟩,ad,had,x,hrd, ?_,rfl⟩,fun h=>⟨(l.length-(i+1)).toNat,by omega,rfl, ?_⟩⟩
  ·have hne:x≠0:=by simpa using h
   rw[ge,sP id hx]
   show _=Ending.returned (.int .i64 (cm x _))
   rw[lR hne]
  ·rw[du (n:=i+1) (by omega)]
   have he:x=0:=by simpa using h
   refine⟨by omega,by omega,rfl,l1, ?_⟩
   rw[ge,sP id hx,show (i+1).toNat=i.toNat+1 by omega]
   show cm x _=_
   rw[he,cw]
 ·have hlt:=of_decide_eq_false hlt
  rw[ge,List.drop_eq_nil_of_le (by omega)];rfl
theorem ER(d:dG)(hs:Small d.p.nG)(I:cc)(F:b8)(hd:d.Ok I F):cg P 138 #[d.v] I F (eg (.int .i64 d.p.check) F):=by
 simp only[Small,dS.nG,dG.p,List.mem_cons,List.not_mem_nil,or_false] at hs
 have z1:=hs _ (.inl rfl)
 have z2:=hs _ (.inr (.inl rfl))
 have z3:=hs _ (.inr (.inr (.inl rfl)))
 have z4:=hs _ (.inr (.inr (.inr rfl)))
 have hdef:d.p.check=cm (cT d.p.lQ 120) (cm (cT d.p.kr 120) (cm (cT d.p.cY 120) (cm (cN (decide (d.kind=1)) d.side.px) (cm (cN (decide (d.kind=1∨d.kind=2)) d.qty.px)
  (cm (cN (decide (d.kind=1∧d.order≠2∨d.kind=2)) d.price.px) (cN (decide (d.kind=4)) d.value.px)))))):=rfl
 have kdef:d.p.lQ=decide (1≤d.kind∧d.kind≤6):=rfl
 have odef:d.p.kr=decide (d.kind=1∧1≤d.order∧d.order≤5∨d.kind≠1∧d.order=0):=rfl
 have ndef:d.p.cY=if d.kind=6 then d.name.toList==[] else if d.kind≠1∨d.name.toList≠[] then cY d.name else true:=rfl
 refine rm.vc (fun x I' F'=>F'=F∧cc.le I I'∧d.p.lQ=true) (fun x I' F'=>F'=F∧cc.le I I'∧d.p.lQ=true∧d.p.kr=true) (fun x I' F'=>F'=F∧cc.le I I'∧d.p.lQ=true∧d.p.kr=true∧d.p.cY=true) ?_
 unfold rm.V
 intro b_d
 have ok:∀{J:cc},cc.le I J→d.Ok J ((b_d,Obj.cells #[.int .u8 d.kind,.int .u8 d.order,.string d.name,.int .u8 d.side.kind,.int .u8 d.side.oper,.int .u8 d.side.cx,.int .i64 d.side.n,.int .u8 d.side.field,.string d.side.name,.slice d.side.a d.side.kids.length d.side.c,.int .i64 d.side.pos,.int .u8 d.qty.kind,.int .u8 d.qty.oper,.int .u8 d.qty.cx,.int .i64 d.qty.n,.int .u8 d.qty.field,.string d.qty.name,.slice d.qty.a d.qty.kids.length d.qty.c,.int .i64 d.qty.pos,.int .u8 d.price.kind,.int .u8 d.price.oper,.int .u8 d.price.cx,.int .i64 d.price.n,.int .u8 d.price.field,.string d.price.name,.slice d.price.a d.price.kids.length d.price.c,.int .i64 d.price.pos,.int .u8 d.value.kind,.int .u8 d.value.oper,.int .u8 d.value.cx,.int .i64 d.value.n,.int .u8 d.value.field,.string d.value.name,.slice d.value.a d.value.kids.length d.value.c,.int .i64 d.value.pos,.int .i64 d.pos] 99 (0,0))::F):=fun hl=>(hd.mono hl fun _ h=>h).cons
 have hk:d.p.lQ=false→Ending.returned (.int .i64 120)=.returned (.int .i64 d.p.check):=fun h=>by rw[hdef,h];rfl
 have ho:d.p.lQ=true→d.p.kr=false→Ending.returned (.int .i64 120)=.returned (.int .i64 d.p.check):=fun h h'=>by rw[hdef,h,h'];rfl
 have hn:d.p.lQ=true→d.p.kr=true→d.p.cY=false→Ending.returned (.int .i64 120)=.returned (.int .i64 d.p.check):=fun h h' h2=>by rw[hdef,h,h',h2];rfl
 rw[dB]
 refine⟨⟨fun h1=>⟨hk (by rw[kdef];simp only[decide_eq_true_eq] at h1;exact decide_eq_false (by omega)),rfl⟩,fun h1=>⟨fun h2=>⟨hk (by rw[kdef];simp only[decide_eq_true_eq] at h2;exact decide_eq_false (by omega)),rfl⟩,fun h2=>⟨rfl,cc.le_refl I,by rw[kdef];simp only[decide_eq_false_iff_not] at h1 h2;exact decide_eq_true (by omega)⟩⟩⟩,fun x I1 F1 _ ⟨gF,l1,k1⟩=>?_⟩
 subst gF
 refine⟨⟨fun h1=>⟨fun h2=>⟨ho k1 ?_,rfl⟩,fun h2=>⟨fun h3=>⟨ho k1 ?_,rfl⟩,fun h3=>⟨fun h4=>⟨fun h5=>⟨ho k1 ?_,rfl⟩,fun h5=>⟨rfl,l1,k1, ?_⟩⟩,fun h4=>⟨rfl,l1,k1, ?_⟩⟩⟩⟩,fun h1=>⟨fun h4=>⟨fun h5=>⟨ho k1 ?_,rfl⟩,fun h5=>⟨rfl,l1,k1, ?_⟩⟩,fun h4=>⟨rfl,l1,k1, ?_⟩⟩⟩,fun x1 I2 F2 _ ⟨gF,l2,k2,o2⟩=>?_⟩
 ·rw[odef];simp only[decide_eq_true_eq,beq_iff_eq] at h1 h2;exact decide_eq_false (by omega)
 ·rw[odef];simp only[decide_eq_true_eq,beq_iff_eq] at h1 h3;exact decide_eq_false (by omega)
 ·rw[h1] at h4;cases h4
 ·rw[h1] at h4;cases h4
 ·rw[odef];simp only[decide_eq_false_iff_not,beq_iff_eq] at h1 h2 h3;exact decide_eq_true (by omega)
 ·rw[odef];simp only[beq_eq_false_iff_ne,bne_iff_ne,ne_eq] at h1 h5;exact decide_eq_false (by omega)
 ·rw[odef];simp only[beq_eq_false_iff_ne,bne_eq_false_iff_eq,ne_eq] at h1 h5;exact decide_eq_true (by omega)
 ·rw[h1] at h4;cases h4
 subst gF
 refine cg.ret (iP I2 _) fun I3 l3=>⟨_,rfl,F2,.refl _, ?_⟩
 have l23:=cc.le_trans l2 l3
 refine⟨⟨fun h1=>⟨fun h2=>⟨hn k2 o2 ?_,rfl⟩,fun h2=>⟨fun h3=>?_,fun h3=>⟨rfl,l23,k2,o2, ?_⟩⟩⟩,fun h1=>⟨fun h3=>⟨fun h4=>⟨fun h5=>⟨fun h6=>⟨hn k2 o2 ?_,rfl⟩,fun h6=>⟨rfl,l23,k2,o2, ?_⟩⟩,fun h5=>⟨fun h6=>⟨hn k2 o2 ?_,rfl⟩,fun h6=>by cases h6⟩⟩,fun h4=>⟨rfl,l23,k2,o2, ?_⟩⟩,fun h3=>?_⟩⟩,fun x2 I4 F4 _ ⟨gF,l4,k4,o4,n4⟩=>?_⟩
 ·rw[ndef,if_pos (by simpa using h1)];exact sX h2
 ·have e1:d.kind=6:=by simpa using h1
  have e2:d.kind≠6:=by simpa using h3
  exact absurd e1 e2
 ·rw[ndef,if_pos (by simpa using h1)];exact ri h2
 ·rw[ndef,if_neg (by simpa using h1),if_pos (.inr (by simpa using h6))];exact sX h4
 ·have e1:d.kind=1:=by simpa using h5
  have e2:d.name.toList=[]:=by simpa using h6
  rw[ndef,if_neg (by simpa using h1),if_neg (fun h=>h.elim (fun h=>h e1) fun h=>h e2)]
 ·have e1:d.kind≠1:=by simpa using h5
  rw[ndef,if_neg (by simpa using h1),if_pos (.inl e1)];exact sX h4
 ·rw[ndef,if_neg (by simpa using h1)]
  split
  ·exact ri h4
  ·rfl
 ·have e1:d.kind≠6:=by simpa using h1
  have e2:d.kind=6:=by simpa using h3
  exact absurd e2 e1
 subst gF
 have hb:∀a b:Int,(a==b)=decide (a=b):=fun a b=>by rw[Bool.eq_iff_iff];simp
 rw[hb,hb]
 have hT:d.p.check=cm (cN (decide (d.kind=1)) d.side.px) (cm (cN (decide (d.kind=1∨d.kind=2)) d.qty.px) (cm (cN (decide (d.kind=1∧d.order≠2∨d.kind=2)) d.price.px) (cN (decide (d.kind=4)) d.value.px))):=by
  rw[hdef,k4,o4,n4];rfl
 have thz:∀a:Int,cm a 0=a:=fun a=>by
  unfold cm
  by_cases h:a=0
  ·rw[if_pos h,h]
  ·rw[if_neg h]
 have fin:∀(q2 q3:Bool),q2=decide (d.kind=1∨d.kind=2)→q3=decide (d.kind=1∧d.order≠2∨d.kind=2)→∀(J:cc) (G:b8) (b:Nat),J b=some (.cells #[.int .i64 (cN (decide (d.kind=1)) d.side.px),.int .i64 (cN q2 d.qty.px),.int .i64 (cN q3 d.price.px),.int .i64 (cN (decide (d.kind=4)) d.value.px)] 47 (0,0)) →
   cg P 154 #[.slice (some ⟨b,0,none⟩) 4 4] J G (eg (.int .i64 d.p.check) G):=fun q2 q3 e2 e3 J G b hb=>by
  have:=Bz (a:=some ⟨b,0,none⟩) (c:=4) (l:=[cN (decide (d.kind=1)) d.side.px,cN q2 d.qty.px,cN q3 d.price.px,cN (decide (d.kind=4)) d.value.px]) J G (by show 4≤1000000;decide) ⟨rfl,fun _=>⟨_,rfl,fun i x hx=>?_⟩⟩
  ·rw[hT,←e2,←e3]
   have e:cD id [cN (decide (d.kind=1)) d.side.px,cN q2 d.qty.px,cN q3 d.price.px,cN (decide (d.kind=4)) d.value.px]=cm (cN (decide (d.kind=1)) d.side.px) (cm (cN q2 d.qty.px) (cm (cN q3 d.price.px) (cN (decide (d.kind=4)) d.value.px))):=by
    show cm _ (cm _ (cm _ (cm _ 0)))=_
    rw[thz];rfl
   rw[←e];exact this
  ·rw[js]
   refine Rd.rR hb _ _ fun j hj=>?_
   obtain rfl:j=0:=by simpa using hj
   rw[Nat.add_zero,Nat.mul_one]
   have hi:i<4:=(List.getElem?_eq_some_iff.1 hx).1
   have:i=0∨i=1∨i=2∨i=3:=by omega
   rcases this with rfl | rfl | rfl | rfl<;>(cases hx;rfl)
 refine cg.ret (dt _ d.side z1 I4 _ (ok l4).1) fun I5 h5=>⟨_,rfl,F4,.refl _, ?_⟩
 have l5:=cc.le_trans l4 h5
 refine⟨fun c1=>cg.ret (dt _ d.qty z2 I5 _ (ok l5).2.1) fun I6 h6=>⟨_,rfl,F4,.refl _, ?_⟩,fun c1=>cg.ret (dt _ d.qty z2 I5 _ (ok l5).2.1) fun I6 h6=>⟨_,rfl,F4,.refl _, ?_⟩⟩
 ·have l6:=cc.le_trans l5 h6
  have c1':=of_decide_eq_true c1
  refine⟨fun c2=>⟨fun c3=>?_,fun c3=>?_⟩,fun c2=>?_⟩
  ·have c2':=of_decide_eq_true c2
   have c3':d.order≠2:=by simpa using c3
   exact cg.ret (dt _ d.price z3 I6 _ (ok l6).2.2.1) fun I7 h7=>⟨_,rfl,F4,.refl _,cg.ret (dt _ d.value z4 I7 _ (ok (cc.le_trans l6 h7)).2.2.2) fun I8 h8=>⟨_,rfl,F4,.refl _,fun b I9 h9 hb9=>cg.ret (fin _ _ (decide_eq_true (by omega)).symm (decide_eq_true (by omega)).symm I9 _ b hb9) fun I10 _=>⟨_,rfl,F4,.refl _,rfl,rfl⟩⟩⟩
  ·have c2':=of_decide_eq_true c2
   have c3':d.order=2:=by simpa using c3
   exact cg.ret (dt _ d.price z3 I6 _ (ok l6).2.2.1) fun I7 h7=>⟨_,rfl,F4,.refl _,cg.ret (dt _ d.value z4 I7 _ (ok (cc.le_trans l6 h7)).2.2.2) fun I8 h8=>⟨_,rfl,F4,.refl _,fun b I9 h9 hb9=>cg.ret (fin _ _ (decide_eq_true (by omega)).symm (by rw[hb];exact decide_eq_decide.2 (by omega)) I9 _ b hb9) fun I10 _=>⟨_,rfl,F4,.refl _,rfl,rfl⟩⟩⟩
  ·have c2':=of_decide_eq_false c2
   exact cg.ret (dt _ d.price z3 I6 _ (ok l6).2.2.1) fun I7 h7=>⟨_,rfl,F4,.refl _,cg.ret (dt _ d.value z4 I7 _ (ok (cc.le_trans l6 h7)).2.2.2) fun I8 h8=>⟨_,rfl,F4,.refl _,fun b I9 h9 hb9=>cg.ret (fin _ _ (decide_eq_true (by omega)).symm (by rw[hb];exact decide_eq_decide.2 (by omega)) I9 _ b hb9) fun I10 _=>⟨_,rfl,F4,.refl _,rfl,rfl⟩⟩⟩
 ·have l6:=cc.le_trans l5 h6
  have c1':=of_decide_eq_false c1
  refine⟨fun c2=>⟨fun c3=>?_,fun c3=>?_⟩,fun c2=>?_⟩
  ·have c2':=of_decide_eq_true c2
   have c3':d.order≠2:=by simpa using c3
   exact cg.ret (dt _ d.price z3 I6 _ (ok l6).2.2.1) fun I7 h7=>⟨_,rfl,F4,.refl _,cg.ret (dt _ d.value z4 I7 _ (ok (cc.le_trans l6 h7)).2.2.2) fun I8 h8=>⟨_,rfl,F4,.refl _,fun b I9 h9 hb9=>cg.ret (fin _ _ (by rw[hb];exact decide_eq_decide.2 (by omega)) (decide_eq_true (by omega)).symm I9 _ b hb9) fun I10 _=>⟨_,rfl,F4,.refl _,rfl,rfl⟩⟩⟩
  ·have c2':=of_decide_eq_true c2
   have c3':d.order=2:=by simpa using c3
   exact cg.ret (dt _ d.price z3 I6 _ (ok l6).2.2.1) fun I7 h7=>⟨_,rfl,F4,.refl _,cg.ret (dt _ d.value z4 I7 _ (ok (cc.le_trans l6 h7)).2.2.2) fun I8 h8=>⟨_,rfl,F4,.refl _,fun b I9 h9 hb9=>cg.ret (fin _ _ (by rw[hb];exact decide_eq_decide.2 (by omega)) (by rw[hb];exact decide_eq_decide.2 (by omega)) I9 _ b hb9) fun I10 _=>⟨_,rfl,F4,.refl _,rfl,rfl⟩⟩⟩
  ·have c2':=of_decide_eq_false c2
   exact cg.ret (dt _ d.price z3 I6 _ (ok l6).2.2.1) fun I7 h7=>⟨_,rfl,F4,.refl _,cg.ret (dt _ d.value z4 I7 _ (ok (cc.le_trans l6 h7)).2.2.2) fun I8 h8=>⟨_,rfl,F4,.refl _,fun b I9 h9 hb9=>cg.ret (fin _ _ (by rw[hb];exact decide_eq_decide.2 (by omega)) (by rw[hb];exact decide_eq_decide.2 (by omega)) I9 _ b hb9) fun I10 _=>⟨_,rfl,F4,.refl _,rfl,rfl⟩⟩⟩
theorem BA(r:cr)(hs:r.p.dN)(I:cc)(F:b8)(hr:r.Ok I F):cg P 115 #[r.v] I F (eg (.int .i64 r.p.check) F):=by
 have hc:r.p.check=cm r.when.px.db (cm (cT (decide (0<r.dos.length)) 120) (cm (cT (decide (r.dos.length≤8)) 121) (cD dS.check (r.dos.map dG.p)))):=by
  show cm _ (cm (cT (decide (0<(r.dos.map dG.p).length)) 120) (cm (cT (decide ((r.dos.map dG.p).length≤8)) 121) _))=_
  rw[List.length_map];rfl
 refine nq.vc (fun x e i m I' F'=>F'=F∧0≤i∧i≤r.dos.length∧m=(r.dos.length-i).toNat∧cc.le I I'∧r.dos.length≤8∧r.p.check=cD dS.check ((r.dos.drop i.toNat).map dG.p)) ?_
 unfold nq.V
 intro b_r
 refine cg.ret (jC r.when hs.1 I _ hr.cons.1) fun I1 l1=>⟨_,rfl,F,.refl _,fun h=>⟨?_,rfl⟩,fun h=>⟨fun h2=>⟨?_,rfl⟩,fun h2=>⟨fun h3=>⟨?_,rfl⟩,fun h3=>⟨⟨_,rfl,by omega,by omega,rfl,l1, ?_, ?_⟩,fun x e i m I2 F2 _ ⟨gF,g0,g1,gm,l2,gl,ge⟩=>?_⟩⟩⟩⟩
 ·rw[hc,lR (by simpa using h)]
 ·have e1:r.when.px.db=0:=by simpa using h
  have e2:r.dos.length=0:=by have:(r.dos.length:Int)=0:=by simpa using h2
                             omega
  rw[hc,e1,e2];rfl
 ·have e1:r.when.px.db=0:=by simpa using h
  have e3:=of_decide_eq_true h3
  rw[hc,e1,decide_eq_true (show 0<r.dos.length by omega),decide_eq_false (show ¬r.dos.length≤8 by omega)];rfl
 ·have e3:=of_decide_eq_false h3
  omega
 ·have e1:r.when.px.db=0:=by simpa using h
  have e2:¬r.dos.length=0:=fun e=>by rw[e] at h2;simp at h2
  have e3:=of_decide_eq_false h3
  rw[hc,e1,decide_eq_true (show 0<r.dos.length by omega),decide_eq_true (show r.dos.length≤8 by omega)];rfl
 subst gF
 have okr:=(hr.mono l2 fun _ h=>h).cons (x:=(b_r,Obj.cells #[.int .u8 r.when.kind,.int .u8 r.when.oper,.int .u8 r.when.cx,.int .i64 r.when.n,.int .u8 r.when.field,.string r.when.name,.slice r.when.a r.when.kids.length r.when.c,.int .i64 r.when.pos,.slice r.a r.dos.length r.c,.int .i64 r.pos] 84 (0,0)))
 refine⟨fun hlt=>?_,fun hlt=>⟨?_,rfl⟩⟩
 ·have hlt:=of_decide_eq_true hlt
  obtain⟨ad,d,had,hd,hrd,hdm⟩:=dy.j3 okr.2.1 g0 hlt
  refine⟨⟨g0,hlt⟩,ad,had,_,_,_,_,_,_,_,_,_,_,_,_,_,_,_,_,_,_,_,_,_,_,_,_,_,_,_,_,_,_,_,_,_,_,_,_,_,_,_,_,_,_,_,_,hrd,cg.ret (ER d (hs.2.2 _ (List.mem_map_of_mem hdm)) I2 _ (okr.2.2 d hdm)) fun I3 l3=>⟨_,rfl,F2,.refl _,fun h=>⟨?_,rfl⟩,fun h=>⟨(r.dos.length-(i+1)).toNat,by omega,rfl, ?_⟩⟩⟩
  ·rw[ge,dq dS.check dG.p hd,lR (by simpa using h)]
  ·have e1:d.p.check=0:=by simpa using h
   rw[du (n:=i+1) (by omega)]
   refine⟨by omega,by omega,rfl,cc.le_trans l2 l3,gl, ?_⟩
   rw[ge,dq dS.check dG.p hd,e1,cw,show (i+1).toNat=i.toNat+1 by omega]
 ·have hlt:=of_decide_eq_false hlt
  rw[ge,dL dS.check dG.p (by omega)]
theorem zI(x:cj)(hs:x.p.dN)(I:cc)(F:b8)(hx:x.Ok I F):cg P 76 #[x.v] I F (eg (.int .i64 x.p.check) F):=by
 have hc:x.p.check=cm (cT (cY x.name) 120) (cm (cT (decide (x.rules.length≤12)) 121) (cD cM.check (x.rules.map cr.p))):=by
  show cm _ (cm (cT (decide ((x.rules.map cr.p).length≤12)) 121) _)=_
  rw[List.length_map];rfl
 refine lb.vc (fun q i m I' F'=>F'=F∧0≤i∧i≤x.rules.length∧m=(x.rules.length-i).toNat∧cc.le I I'∧x.rules.length≤12∧x.p.check=cD cM.check ((x.rules.drop i.toNat).map cr.p)) ?_
 unfold lb.V
 intro b_s
 refine cg.ret (iP I _) fun I1 l1=>⟨_,rfl,F,.refl _,fun h=>⟨?_,rfl⟩,fun h=>⟨fun h3=>⟨?_,rfl⟩,fun h3=>⟨⟨_,rfl,by omega,by omega,rfl,l1, ?_, ?_⟩,fun q i m I2 F2 _ ⟨gF,g0,g1,gm,l2,gl,ge⟩=>?_⟩⟩⟩
 ·rw[hc,sX h];rfl
 ·have e3:=of_decide_eq_true h3
  rw[hc,ri h,decide_eq_false (show ¬x.rules.length≤12 by omega)];rfl
 ·have e3:=of_decide_eq_false h3
  omega
 ·have e3:=of_decide_eq_false h3
  rw[hc,ri h,decide_eq_true (show x.rules.length≤12 by omega)];rfl
 subst gF
 have okx:=(hx.mono l2 fun _ h=>h).cons (x:=(b_s,Obj.cells #[.string x.name,.slice x.a x.rules.length x.c,.int .i64 x.pos] 65 (0,0)))
 refine⟨fun hlt=>?_,fun hlt=>⟨?_,rfl⟩⟩
 ·have hlt:=of_decide_eq_true hlt
  obtain⟨ad,r,had,hr,hrd,hrm⟩:=dy.j3 okx.1 g0 hlt
  refine⟨⟨g0,hlt⟩,ad,had,_,_,_,_,_,_,_,_,_,_,_,_,_,_,hrd,cg.ret (BA r (hs.2 _ (List.mem_map_of_mem hrm)) I2 _ (okx.2 r hrm)) fun I3 l3=>⟨_,rfl,F2,.refl _,fun h=>⟨?_,rfl⟩,fun h=>⟨(x.rules.length-(i+1)).toNat,by omega,rfl, ?_⟩⟩⟩
  ·rw[ge,dq cM.check cr.p hr,lR (by simpa using h)]
  ·have e1:r.p.check=0:=by simpa using h
   rw[du (n:=i+1) (by omega)]
   refine⟨by omega,by omega,rfl,cc.le_trans l2 l3,gl, ?_⟩
   rw[ge,dq cM.check cr.p hr,e1,cw,show (i+1).toNat=i.toNat+1 by omega]
 ·have hlt:=of_decide_eq_false hlt
  rw[ge,dL cM.check cr.p (by omega)]
theorem zJ{x:Px}(h:x.formed=true)(hk:x.kind=5):x.kids.length=1:=by
 rw[Px.eD,Bool.and_eq_true] at h
 have h1:=h.1
 unfold Px.ig at h1
 simp only[Bool.and_eq_true,decide_eq_true_eq] at h1
 rw[h1.2]
 unfold Px.arity
 rw[if_pos (.inl hk)]
theorem zK(t:Nd)(hs:t.px.size≤1048576)(I:cc)(F:b8)(ht:cH I F t):cg P 114 #[t.v] I F (eg (.bool (t.px.formed&&t.px.mN)) F):=by
 refine jT.vc ?_
 unfold jT.V
 intro b_n
 have hdef:t.px.mN=if t.kind=5∧t.oper=1 then (match t.px.kids with | k::_=>decide (k.kind=1∧k.cx≤4) | []=>false) else decide (t.kind=1):=by
  unfold Px.mN;rw[Nd.cO,Nd.fD];rfl
 have hb:∀a b:Int,(a==b)=decide (a=b):=fun a b=>by rw[Bool.eq_iff_iff];simp
 refine⟨fun h1=>⟨fun h2=>⟨fun h3=>?_,fun h3=>?_⟩,fun h2=>?_⟩,fun h1=>?_⟩
 ·have e1:t.kind=5:=by simpa using h1
  have e2:t.oper=1:=by simpa using h2
  have e3:t.kids.length=1:=by have:(t.kids.length:Int)=1:=by simpa using h3
                              omega
  obtain⟨ad,k,had,hk,hrd,hko,hkm⟩:=(ht.cons (x:=(b_n,Obj.cells #[.int .u8 t.kind,.int .u8 t.oper,.int .u8 t.cx,.int .i64 t.n,.int .u8 t.field,.string t.name,.slice t.a t.kids.length t.c,.int .i64 t.pos] 28 (0,0)))).kids.at (i:=0) (Int.le_refl 0) (by omega)
  have hkids:t.px.kids=[k.px]:=by
   rw[Nd.dv]
   cases hkk:t.kids with
   | nil=>rw[hkk] at e3;cases e3
   | cons y l =>
     rw[hkk] at hk e3
     cases l with
     | nil=>cases hk;rfl
     | cons z l=>simp at e3
  rw[hdef,if_pos ⟨e1,e2⟩,hkids]
  refine⟨⟨Int.le_refl 0,by omega⟩,ad,had,_,_,_,_,_,_,_,_,_,_,hrd,fun b_k=>cg.ret (jv t hs I _ (ht.cons.cons)) fun I1 l1=>⟨_,rfl,F,.refl _,fun h4=>⟨fun h5=>⟨?_,rfl⟩,fun h5=>⟨?_,rfl⟩⟩,fun h4=>⟨?_,rfl⟩⟩⟩
  ·have e5:k.kind=1:=by simpa using h5
   rw[h4]
   show _=Ending.returned (.bool (true&&decide (k.px.kind=1∧k.px.cx≤4)))
   rw[Nd.cO,Nd.ir,e5];simp
  ·have e5:k.kind≠1:=by simpa using h5
   rw[h4]
   show _=Ending.returned (.bool (true&&decide (k.px.kind=1∧k.px.cx≤4)))
   rw[Nd.cO,decide_eq_false (fun h=>e5 h.1)];rfl
  ·rw[h4];rfl
 ·have e1:t.kind=5:=by simpa using h1
  have e3:t.kids.length≠1:=fun e=>by rw[e] at h3;simp at h3
  have hf:t.px.formed=false:=by
   cases hh:t.px.formed with
   | false=>rfl
   | true =>
     have:=zJ hh (by rw[Nd.cO];exact e1)
     rw[Nd.dv,List.length_map] at this
     exact absurd this e3
  refine cg.ret (jv t hs I _ ht.cons) fun I1 l1=>⟨_,rfl,F,.refl _,fun h4=>?_,fun h4=>⟨?_,rfl⟩⟩
  ·rw[hf] at h4;cases h4
  ·rw[hf];rfl
 ·have e2:t.oper≠1:=by simpa using h2
  rw[hdef,if_neg (fun h=>e2 h.2)]
  refine cg.ret (jv t hs I _ ht.cons) fun I1 l1=>⟨_,rfl,F,.refl _,fun h4=>⟨?_,rfl⟩,fun h4=>⟨?_,rfl⟩⟩
  ·rw[h4,hb];rfl
  ·rw[h4];rfl
 ·have e1:t.kind≠5:=by simpa using h1
  rw[hdef,if_neg (fun h=>e1 h.1)]
  refine cg.ret (jv t hs I _ ht.cons) fun I1 l1=>⟨_,rfl,F,.refl _,fun h4=>⟨?_,rfl⟩,fun h4=>⟨?_,rfl⟩⟩
  ·rw[h4,hb];rfl
  ·rw[h4];rfl
theorem Dy(r:cJ)(hs:r.init.px.size≤1048576)(I:cc)(F:b8)(hr:r.Ok I F):cg P 75 #[r.v] I F (eg (.bool (cY r.name&&(decide (1≤r.cx∧r.cx≤6)&&(r.init.px.formed&&r.init.px.mN)))) F):=by
 refine o5.vc ?_
 unfold o5.V
 intro b_r
 refine cg.ret (iP I _) fun I1 l1=>⟨_,rfl,F,.refl _,fun h1=>⟨fun h2=>⟨fun h3=>?_,fun h3=>⟨?_,rfl⟩⟩,fun h2=>⟨?_,rfl⟩⟩,fun h1=>⟨?_,rfl⟩⟩
 ·have e2:=of_decide_eq_true h2
  have e3:=of_decide_eq_true h3
  refine cg.ret (zK r.init hs I1 _ (cH.mono hr l1 fun a ha=>.tail _ ha)) fun I2 l2=>⟨_,rfl,F,.refl _, ?_,rfl⟩
  rw[h1,decide_eq_true (show 1≤r.cx∧r.cx≤6 by omega)];rfl
 ·have e3:=of_decide_eq_false h3
  rw[h1,decide_eq_false (show ¬(1≤r.cx∧r.cx≤6) by omega)];rfl
 ·have e2:=of_decide_eq_false h2
  rw[h1,decide_eq_false (show ¬(1≤r.cx∧r.cx≤6) by omega)];rfl
 ·rw[h1];rfl
theorem xP(s:cB)(hs:s.p.nH)(I:cc)(F:b8)(hok:s.Ok I F):cg P 47 #[s.v] I F (eg (.int .i64 s.p.check) F):=by
 have hc:s.p.check=cm (cT (cY s.name) 120) (cm (cT (decide (s.regs.length≤12)) 121) (cm (cD dg.check (s.regs.map cJ.p)) (cm (cT (decide (s.slots.length≤4)) 121) (cm (cD cI.check s.slots)
   (cm (cT (decide (0<s.cd.length)) 120) (cm (cT (decide (s.cd.length≤12)) 121) (cD cq.check (s.cd.map cj.p)))))))):=by
  show cm _ (cm (cT (decide ((s.regs.map cJ.p).length≤12)) 121) (cm _ (cm _ (cm _ (cm (cT (decide (0<(s.cd.map cj.p).length)) 120) (cm (cT (decide ((s.cd.map cj.p).length≤12)) 121) _))))))=_
  rw[List.length_map,List.length_map];rfl
 have hnm:∀r∈s.regs,r.init.px.size≤1048576:=fun r hr=>hs.eX _ (List.mem_map_of_mem hr)
 have hst:∀x∈s.cd,x.p.dN:=fun x hx=>hs.state _ (List.mem_map_of_mem hx)
 have lr:=hs.regs
 have ls:=hs.slots
 have lt:=hs.cd
 simp only[cB.p,List.length_map] at lr ls lt
 refine la.vc
  (fun x q i m I' F'=>F'=F∧0≤i∧i≤s.regs.length∧m=(s.regs.length-i).toNat∧cc.le I I'∧s.p.check=cm (cD dg.check ((s.regs.drop i.toNat).map cJ.p)) (cm (cT (decide (s.slots.length≤4)) 121) (cm (cD cI.check s.slots)
    (cm (cT (decide (0<s.cd.length)) 120) (cm (cT (decide (s.cd.length≤12)) 121) (cD cq.check (s.cd.map cj.p)))))))
  (fun x q i m I' F'=>F'=F∧0≤i∧i≤s.slots.length∧m=(s.slots.length-i).toNat∧cc.le I I'∧s.p.check=cm (cD cI.check ((s.slots.drop i.toNat).map id)) (cm (cT (decide (0<s.cd.length)) 120) (cm (cT (decide (s.cd.length≤12)) 121) (cD cq.check (s.cd.map cj.p)))))
  (fun x i m I' F'=>F'=F∧0≤i∧i≤s.cd.length∧m=(s.cd.length-i).toNat∧cc.le I I'∧s.p.check=cD cq.check ((s.cd.drop i.toNat).map cj.p)) ?_
 unfold la.V
 intro b_s
 have ok:∀{J:cc},cc.le I J→s.Ok J ((b_s,Obj.cells #[.string s.name,.slice s.ra s.regs.length s.rc,.slice s.sa s.slots.length s.sc,.slice s.ta s.cd.length s.tc] 39 (0,0))::F):=fun hl=>(hok.mono hl fun _ h=>h).cons
 refine cg.ret (iP I _) fun I1 l1=>⟨_,rfl,F,.refl _,fun h=>⟨?_,rfl⟩,fun h=>⟨fun h3=>⟨?_,rfl⟩,fun h3=>⟨⟨_,rfl,by omega,by omega,rfl,l1, ?_⟩,fun x q i m I2 F2 _ ⟨gF,g0,g1,gm,l2,ge⟩=>?_⟩⟩⟩
 ·rw[hc,sX h];rfl
 ·have e3:=of_decide_eq_true h3
  rw[hc,ri h,decide_eq_false (show ¬s.regs.length≤12 by omega)];rfl
 ·have e3:=of_decide_eq_false h3
  rw[hc,ri h,decide_eq_true (show s.regs.length≤12 by omega)];rfl
 subst gF
 refine⟨fun hlt=>?_,fun hlt=>⟨fun h4=>⟨?_,rfl⟩,fun h4=>⟨⟨_,rfl,by omega,by omega,rfl,l2, ?_⟩,fun x1 q1 j m4 I4 F4 _ ⟨gF,j0,j1,jm,l4,je⟩=>?_⟩⟩⟩
 ·have hlt:=of_decide_eq_true hlt
  obtain⟨ad,r,had,hr,hrd,hrm⟩:=dy.j3 (ok l2).regs g0 hlt
  have hcr:r.p.check=cT (cY r.name&&(decide (1≤r.cx∧r.cx≤6)&&(r.init.px.formed&&r.init.px.mN))) 120:=rfl
  refine⟨⟨g0,hlt⟩,ad,had,_,_,_,_,_,_,_,_,_,_,_,_,_,hrd,cg.ret (Dy r (hnm r hrm) I2 _ ((ok l2).eX r hrm)) fun I3 l3=>⟨_,rfl,F2,.refl _,fun h=>⟨?_,rfl⟩,fun h=>⟨(s.regs.length-(i+1)).toNat,by omega,rfl, ?_⟩⟩⟩
  ·rw[ge,dq dg.check cJ.p hr,hcr,sX h];rfl
  ·rw[du (n:=i+1) (by omega)]
   refine⟨by omega,by omega,rfl,cc.le_trans l2 l3, ?_⟩
   rw[ge,dq dg.check cJ.p hr,hcr,ri h,show (i+1).toNat=i.toNat+1 by omega];rfl
 ·have hlt:=of_decide_eq_false hlt
  have e4:=of_decide_eq_true h4
  rw[ge,dL dg.check cJ.p (by omega),decide_eq_false (show ¬s.slots.length≤4 by omega)];rfl
 ·have hlt:=of_decide_eq_false hlt
  have e4:=of_decide_eq_false h4
  rw[ge,dL dg.check cJ.p (by omega),decide_eq_true (show s.slots.length≤4 by omega)]
  show cm 0 (cm 0 (cm (cD cI.check s.slots) _))=cm (cD cI.check (s.slots.map id)) _
  rw[List.map_id];rfl
 subst gF
 refine⟨fun hlt=>?_,fun hlt=>⟨fun h5=>⟨?_,rfl⟩,fun h5=>⟨fun h6=>⟨?_,rfl⟩,fun h6=>⟨⟨_,rfl,by omega,by omega,rfl,l4, ?_⟩,fun x2 k m8 I6 F6 _ ⟨gF,k0,k1,km,l6,ke⟩=>?_⟩⟩⟩⟩
 ·have hlt:=of_decide_eq_true hlt
  obtain⟨ad,r,had,hr,hrd,hrm⟩:=dy.j3 (ok l4).slots j0 hlt
  have hcr:cI.check r=cT (cY r.name) 120:=rfl
  refine⟨⟨j0,hlt⟩,ad,had,r.name,hrd.field (o:=0) rfl,cg.ret (iP I4 _) fun I5 l5=>⟨_,rfl,F4,.refl _,fun h=>⟨?_,rfl⟩,fun h=>⟨(s.slots.length-(j+1)).toNat,by omega,rfl, ?_⟩⟩⟩
  ·rw[je,dq cI.check id hr]
   show _=Ending.returned (.int .i64 (cm (cm (cI.check r) _) _))
   rw[hcr,sX h];rfl
  ·rw[du (n:=j+1) (by omega)]
   refine⟨by omega,by omega,rfl,cc.le_trans l4 l5, ?_⟩
   rw[je,dq cI.check id hr,show (j+1).toNat=j.toNat+1 by omega]
   show cm (cm (cI.check r) _) _=_
   rw[hcr,ri h];rfl
 ·have hlt:=of_decide_eq_false hlt
  have e5:s.cd.length=0:=by have:(s.cd.length:Int)=0:=by simpa using h5
                            omega
  rw[je,dL cI.check id (by omega),e5];rfl
 ·have hlt:=of_decide_eq_false hlt
  have e6:=of_decide_eq_true h6
  rw[je,dL cI.check id (by omega),decide_eq_true (show 0<s.cd.length by omega),decide_eq_false (show ¬s.cd.length≤12 by omega)];rfl
 ·have hlt:=of_decide_eq_false hlt
  have e5:¬s.cd.length=0:=fun e=>by rw[e] at h5;simp at h5
  have e6:=of_decide_eq_false h6
  rw[je,dL cI.check id (by omega),decide_eq_true (show 0<s.cd.length by omega),decide_eq_true (show s.cd.length≤12 by omega)];rfl
 subst gF
 refine⟨fun hlt=>?_,fun hlt=>⟨?_,rfl⟩⟩
 ·have hlt:=of_decide_eq_true hlt
  obtain⟨ad,x,had,hx,hrd,hxm⟩:=dy.j3 (ok l6).cd k0 hlt
  refine⟨⟨k0,hlt⟩,ad,had,_,_,_,_,_,hrd,cg.ret (zI x (hst x hxm) I6 _ ((ok l6).state x hxm)) fun I7 l7=>⟨_,rfl,F6,.refl _,fun h=>⟨?_,rfl⟩,fun h=>⟨(s.cd.length-(k+1)).toNat,by omega,rfl, ?_⟩⟩⟩
  ·rw[ke,dq cq.check cj.p hx,lR (by simpa using h)]
  ·have e1:x.p.check=0:=by simpa using h
   rw[du (n:=k+1) (by omega)]
   refine⟨by omega,by omega,rfl,cc.le_trans l6 l7, ?_⟩
   rw[ke,dq cq.check cj.p hx,e1,cw,show (k+1).toNat=k.toNat+1 by omega]
 ·have hlt:=of_decide_eq_false hlt
  rw[ke,dL cq.check cj.p (by omega)]
theorem FU{α:Type}{x y w z:α}{A l:List α}:(x::y::w::z::(A++l)).Perm (A++(x::y::w::z::l)):=List.perm_append_comm_assoc [x,y,w,z] A l
theorem Ht(x:Int):∀u∈pA x,u.oneCell'=true:=by
 intro u hu
 simp only[pA,List.mem_singleton] at hu
 subst hu;rfl
theorem ES{a:Option Addr}{n c b1:Nat}{l:List Int}{A F R:b8}{I:cc}(hA:Acc 1 pA 24 a n c l A)(hl:l.length≤1000000000)(x:Int)(hbm:I b1=some (.cells #[.int .u8 x] 24 (0,0)))(hF:F.Perm (A++R)) :
  cE P (Builtin.append_ #[186,186] 186 #[.slice a n c,.slice (some ⟨b1,0,none⟩) 1 1]) I F fun v I' G=>∃a' n' c' A',v=.slice a' n' c'∧Acc 1 pA 24 a' n' c' (l++[x]) A'∧G.Perm (A'++R):=by
 refine cE.perm (cE.mono (eF (f:=pA) (z:=1) (zv:=.int .u8 0) (fun _=>rfl) (by':=1) (by kernel_rfl) (by kernel_rfl) rfl (by decide) hA (xs:=[x]) (fun y _=>Ht y) (by simp) rfl ?_ (by simp only[List.length_cons,List.length_nil];omega) (F:=R)) fun v I' G _ ⟨a',n',c',A',h1,h2,h3,_⟩=>⟨a',n',c',A',h1,h2,by rw[h3]⟩) hF
 exact⟨rfl,_,_,_,.inl hbm,fun j hj=>by simp[pA]⟩
theorem zL{s:cu}{x:Px}(h:∀k∈x.kids,(typed s k).2.e=0):typed s x=eb s x (x.kids.map fun k=>(typed s k).1):=by
 rw[q8,wW h,if_neg fun h=>h rfl]
theorem wZ{s:cu}{x k:Px}{i:Nat}(h:∀k∈x.kids.take i,(typed s k).2.e=0)(hk:x.kids[i]? = some k)(he:(typed s k).2.e≠0):typed s x=(0,(typed s k).2):=by
 rw[q8,uY h hk he,if_pos he]
theorem rp(s:cB)(hl:s.regs.length≤1048576):∀(t:Nd),t.px.size≤1048576→t.px.formed=true→∀(I:cc) (F:b8),s.Ok I F→cH I F t →
  cg P 78 #[s.v,t.v] I F (eg (.tuple #[.int .u8 (typed s.p t.px).1,(typed s.p t.px).2.v]) F):=by
 refine Nd.ind fun t ih hs hf I F hok ht=>cg.clean ?_
 have hln:=kk hs
 have ekid:t.px.kids=t.kids.map Nd.px:=Nd.dv t
 have ek:t.px.kind=t.kind:=Nd.cO t
 have en:t.px.name=t.name:=by cases t;rw[Nd.px];rfl
 have epos:t.px.pos=t.pos:=by cases t;rw[Nd.px];rfl
 refine kV.vc (fun x a n c i b0 b1 b2 m I' F'=>0≤i∧i≤t.kids.length∧m=(t.kids.length-i).toNat∧∃A,Acc 1 pA 24 a n c ((t.kids.take i.toNat).map fun k=>(typed s.p k.px).1) A∧(∀k∈t.kids.take i.toNat,(typed s.p k.px).2.e=0)∧F'.Perm (A++F)) ?_
 unfold kV.V
 intro b_s b_n b2
 refine⟨⟨_,by omega,by omega,rfl,[],Acc.nil,fun k hk=>by simp at hk,.refl _⟩,fun x a n c i b0 b1 b2' m I1 F1 l1 ⟨g0,g1,gm,A,hA,hall,hF1⟩=>⟨fun hlt=>?_,fun hlt=>?_⟩⟩
 ·have hlt:=of_decide_eq_true hlt
  have hsub:∀y,y∈F→y∈F1:=fun y hy=>hF1.mem_iff.2 (List.mem_append_right _ hy)
  have hok1:s.Ok I1 F1:=hok.mono l1 hsub
  have ht1:cH I1 F1 t:=ht.mono l1 hsub
  obtain⟨ad,k,had,hk,hrd,hko,hkm⟩:=ht1.kids.at g0 hlt
  have hkf:=Px.iR hf k.px (by rw[ekid];exact List.mem_map_of_mem hkm)
  have hks:=ju hkm hs
  have hbad:(typed s.p k.px).2.e≠0→typed s.p t.px=(0,(typed s.p k.px).2):=fun he=>wZ (i:=i.toNat) (fun y hy=>by
   rw[ekid,←List.map_take] at hy
   obtain⟨z,hz,rfl⟩:=List.mem_map.1 hy
   exact hall z hz) (by rw[ekid,List.getElem?_map,hk];rfl) he
  have hnext:(typed s.p k.px).2.e=0→∀y∈t.kids.take (i+1).toNat,(typed s.p y.px).2.e=0:=fun he=>by
   rw[show (i+1).toNat=i.toNat+1 by omega]
   exact uZ hk hall he
  have hlen:((t.kids.take i.toNat).map fun k=>(typed s.p k.px).1).length≤1000000000:=by rw[List.length_map,List.length_take];omega
  refine⟨⟨g0,hlt⟩,ad,had,_,_,_,_,_,_,_,_,_,_,hrd.sub (cc.le_refl _) (fun y hy=>.tail _ (.tail _ (.tail _ hy))), ?_, ?_⟩
  ·refine cg.ret (ih k hkm hks hkf I1 _ (hok1.mono (cc.le_refl _) fun y hy=>.tail _ (.tail _ (.tail _ hy))) (hko.mono (cc.le_refl _) fun y hy=>.tail _ (.tail _ (.tail _ hy)))) fun I2 l2=>⟨_,_,_,_,rfl,F1,.refl _,fun b_f=>⟨fun he=>?_,fun he=>?_⟩⟩
   ·have he:(typed s.p k.px).2.e≠0:=by simpa using he
    rw[hbad he]
    exact⟨rfl,A,hF1⟩
   ·have he:(typed s.p k.px).2.e=0:=by simpa using he
    intro b3 I3 l3 hb3
    refine (ES hA hlen (typed s.p k.px).1 hb3 (R:=_::_::_::_::F) (((((hF1.cons _).cons _).cons _).cons _).trans FU)).mono fun v I4 G l4 ⟨a',n',c',A',hv,hA',hG⟩=>⟨a',n',c',hv,A'++F,hG.trans FU.symm,(t.kids.length-(i+1)).toNat,by omega, ?_⟩
    rw[du (n:=i+1) (by omega)]
    refine⟨by omega,by omega,rfl,A', ?_,hnext he,.refl _⟩
    rw[show (i+1).toNat=i.toNat+1 by omega,iW hk]
    exact hA'
  ·intro b_f
   refine cg.ret (ih k hkm hks hkf I1 _ (hok1.mono (cc.le_refl _) fun y hy=>.tail _ (.tail _ (.tail _ (.tail _ hy)))) (hko.mono (cc.le_refl _) fun y hy=>.tail _ (.tail _ (.tail _ (.tail _ hy))))) fun I2 l2=>⟨_,_,_,_,rfl,F1,.refl _,fun he=>?_,fun he=>?_⟩
   ·have he:(typed s.p k.px).2.e≠0:=by simpa using he
    rw[hbad he]
    exact⟨rfl,A,hF1⟩
   ·have he:(typed s.p k.px).2.e=0:=by simpa using he
    intro b3 I3 l3 hb3
    refine (ES hA hlen (typed s.p k.px).1 hb3 (R:=_::_::_::_::F) (((((hF1.cons _).cons _).cons _).cons _).trans FU)).mono fun v I4 G l4 ⟨a',n',c',A',hv,hA',hG⟩=>⟨a',n',c',hv,A'++F,hG.trans FU.symm,(t.kids.length-(i+1)).toNat,by omega, ?_⟩
    rw[du (n:=i+1) (by omega)]
    refine⟨by omega,by omega,rfl,A', ?_,hnext he,.refl _⟩
    rw[show (i+1).toNat=i.toNat+1 by omega,iW hk]
    exact hA'
 ·have hlt:=of_decide_eq_false hlt
  have hsub:∀y,y∈F→y∈F1:=fun y hy=>hF1.mem_iff.2 (List.mem_append_right _ hy)
  rw[List.take_of_length_le (l:=t.kids) (i:=i.toNat) (by omega)] at hA hall
  have hty:typed s.p t.px=eb s.p t.px (t.kids.map fun k=>(typed s.p k.px).1):=by
   rw[zL (fun k hk=>by
    rw[ekid] at hk
    obtain⟨z,hz,rfl⟩:=List.mem_map.1 hk
    exact hall z hz),ekid,List.map_map]
   rfl
  have hn:=hA.1
  rw[List.length_map] at hn
  subst hn
  generalize hts:(t.kids.map fun k=>(typed s.p k.px).1)=ts at hA hty
  have hSl:∀J,dy J ((b_s,Obj.cells #[.string s.name,.slice s.ra s.regs.length s.rc,.slice s.sa s.slots.length s.sc,.slice s.ta s.cd.length s.tc] 39 (0,0))::(b_n,Obj.cells #[.int .u8 t.kind,.int .u8 t.oper,.int .u8 t.cx,.int .i64 t.n,.int .u8 t.field,.string t.name,.slice t.a t.kids.length t.c,.int .i64 t.pos] 28 (0,0))::(b2,Obj.cells #[.int .i64 b0,.int .i64 b1,.bool b2'] 51 (0,0))::F1) 1 pA a t.kids.length ts:=fun J=>hA.yl (z:=1) (f:=pA) (fun _=>rfl) J fun y hy=>.tail _ (.tail _ (.tail _ (hF1.mem_iff.2 (List.mem_append_left _ hy))))
  have hok1:∀{J:cc},cc.le I J→s.Ok J ((b_s,Obj.cells #[.string s.name,.slice s.ra s.regs.length s.rc,.slice s.sa s.slots.length s.sc,.slice s.ta s.cd.length s.tc] 39 (0,0))::(b_n,Obj.cells #[.int .u8 t.kind,.int .u8 t.oper,.int .u8 t.cx,.int .i64 t.n,.int .u8 t.field,.string t.name,.slice t.a t.kids.length t.c,.int .i64 t.pos] 28 (0,0))::(b2,Obj.cells #[.int .i64 b0,.int .i64 b1,.bool b2'] 51 (0,0))::F1):=fun hJ=>hok.mono hJ fun y hy=>.tail _ (.tail _ (.tail _ (hsub y hy)))
  rw[hty]
  unfold eb
  rw[ek,en,epos]
  refine⟨fun h2=>?_,fun h2=>?_⟩
  ·have h2:t.kind=2:=by simpa using h2
   refine cg.ret (nk hl t.name (hok1 l1)) fun I2 l2=>⟨_,rfl,F1,.refl _,fun hr=>?_,fun hr=>?_⟩
   ·have hr:=of_decide_eq_true hr
    rw[if_pos ⟨h2,hr⟩]
    exact⟨rfl,A,hF1⟩
   ·have hr:=of_decide_eq_false hr
    rw[if_neg (fun h=>hr h.2)]
    refine cg.ret (sW s t hl hf (hSl I2) (hok1 (cc.le_trans l1 l2)) fun _=>by omega) fun I3 l3=>⟨_,_,rfl,F1,.refl _,fun hb=>?_,fun hb=>?_⟩
    ·rw[if_neg (by simpa using hb)];exact⟨rfl,A,hF1⟩
    ·rw[if_pos (by simpa using hb)];exact⟨rfl,A,hF1⟩
  ·have h2:t.kind≠2:=by simpa using h2
   rw[if_neg (fun h=>h2 h.1)]
   refine cg.ret (sW s t hl hf (hSl I1) (hok1 l1) fun h=>absurd h h2) fun I3 l3=>⟨_,_,rfl,F1,.refl _,fun hb=>?_,fun hb=>?_⟩
   ·rw[if_neg (by simpa using hb)];exact⟨rfl,A,hF1⟩
   ·rw[if_pos (by simpa using hb)];exact⟨rfl,A,hF1⟩
theorem jf{x:Px}(h:x.db=0):x.formed=true:=by
 unfold Px.db at h
 split at h
 ·assumption
 ·cases h
theorem Dz(s:cB)(hl:s.regs.length≤1048576)(t:Nd)(hs:t.px.size≤1048576)(I:cc)(F:b8)(hok:s.Ok I F)(ht:cH I F t) :
  cg P 117 #[s.v,t.v] I F (eg (.tuple #[.int .u8 (typeOf s.p t.px).1,(typeOf s.p t.px).2.v]) F):=by
 refine qY.vc ?_
 unfold qY.V
 unfold typeOf
 intro b_s b_n b2
 refine cg.ret (jC t hs I _ (ht.mono (cc.le_refl I) fun y hy=>.tail _ (.tail _ (.tail _ hy)))) fun I1 l1=>⟨_,rfl,F,.refl _,fun h=>?_,fun h=>?_⟩
 ·have h:t.px.db≠0:=by simpa using h
  rw[if_pos h];exact⟨rfl,rfl⟩
 ·have h:t.px.db=0:=by simpa using h
  rw[if_neg (by simpa using h)]
  refine cg.ret (rp s hl t hs (jf h) I1 _ (hok.mono l1 fun y hy=>.tail _ (.tail _ (.tail _ hy))) (ht.mono l1 fun y hy=>.tail _ (.tail _ (.tail _ hy)))) fun I2 l2=>?_
  exact⟨_,_,_,_,rfl,F,.refl _,rfl,rfl⟩
def TF.enc(f:TF):List Value:=[.int .i64 f.e,.int .i64 f.pos,.bool f.of]
theorem Hu(f:TF):∀u∈f.enc,u.oneCell'=true:=by
 intro u hu
 simp only[TF.enc,List.mem_cons,List.not_mem_nil,or_false] at hu
 rcases hu with h | h | h<;>(subst h;rfl)
theorem ET{nm:ByteArray}:∀(l:List ByteArray) (i:Int),0≤i→0≤iV nm l i→iV nm l i<i+l.length
 | [],i,_,h=>by rw[iV] at h;omega
 | x::r,i,hi,h=>by
   rw[iV] at h ⊢
   split at h
   ·rename_i hx
    rw[if_pos hx,List.length_cons];omega
   ·rename_i hx
    rw[if_neg hx,List.length_cons]
    have:=ET r (i+1) (by omega) h
    omega
theorem Hv{s:cB}{nm:ByteArray}(h:0≤s.p.eX nm):s.p.eX nm<s.regs.length:=by
 have:=ET (nm:=nm) (s.p.regs.map dg.name) 0 (Int.le_refl 0) h
 simp only[cB.p,List.length_map] at this
 show iV nm _ 0<_
 simp only[cB.p]
 omega
section
variable (s:cB) (hl:s.p.nH) {I:cc} {F:b8} (hok:s.Ok I F)
include hl hok
theorem fO(t:Nd)(hs:t.px.size≤1048576)(ht:cH I F t)(ty:Int):cg P 81 #[s.v,t.v,.int .u8 ty] I F (eg (eJ s.p t.px ty).v F):=by
 have lr:=hl.regs
 simp only[cB.p,List.length_map] at lr
 have epos:t.px.pos=t.pos:=by cases t;rw[Nd.px];rfl
 refine ni.vc ?_
 unfold ni.V
 unfold eJ
 rw[epos]
 intro b_s b_n b2
 refine cg.ret (Dz s lr t hs I _ (hok.mono (cc.le_refl I) fun y hy=>.tail _ (.tail _ (.tail _ hy))) (ht.mono (cc.le_refl I) fun y hy=>.tail _ (.tail _ (.tail _ hy)))) fun I1 l1=>⟨_,_,_,_,rfl,F,.refl _,fun b_f=>⟨fun h=>?_,fun h=>⟨fun h2=>?_,fun h2=>?_⟩⟩⟩
 ·rw[if_pos (by simpa using h)];exact⟨rfl,rfl⟩
 ·rw[if_neg (by simpa using h),if_pos (by simpa using h2)];exact⟨rfl,rfl⟩
 ·rw[if_neg (by simpa using h),if_neg (by simpa using h2)];exact⟨rfl,rfl⟩
end
theorem xQ{a:Option Addr}{n c:Nat}{fs:List TF}{I:cc}{F:b8}(hS:dy I F 3 TF.enc a n fs)(hn:n≤100):cg P 118 #[.slice a n c] I F (eg (cR id fs).v F):=by
 have hnl:=hS.1
 refine kX.vc (fun i b0 b1 b2 m I' F'=>F'=F∧0≤i∧i≤n∧m=(n-i).toNat∧cR id fs=cR id (fs.drop i.toNat)) ?_
 unfold kX.V
 intro b2
 refine⟨⟨_,rfl,by omega,by omega,rfl,rfl⟩,fun i b0 b1 b2' m I1 F1 l1 ⟨gF,g0,g1,gm,ge⟩=>⟨fun hlt=>?_,fun hlt=>⟨?_,gF⟩⟩⟩
 ·subst gF
  have hlt:=of_decide_eq_true hlt
  obtain⟨ad,f,had,hf,hrd⟩:=(hS.mono l1 fun _ h=>h).at g0 hlt
  obtain⟨hk,rfl⟩:=List.getElem?_eq_some_iff.1 hf
  rw[List.drop_eq_getElem_cons hk,cR] at ge
  have hrd':=hrd.sub (cc.le_refl _) fun y hy=>List.Mem.tail (b2,Obj.cells #[.int .i64 b0,.int .i64 b1,.bool b2'] 51 (0,0)) hy
  refine⟨⟨g0,hlt⟩,ad,had,_,hrd'.field (o:=0) rfl,fun h=>⟨⟨g0,hlt⟩,ad,had,_,_,_,hrd', ?_,rfl⟩,fun h=>⟨(n-(i+1)).toNat,by omega,rfl, ?_⟩⟩
  ·rw[ge,if_pos (by simpa using h)];rfl
  ·rw[du (n:=i+1) (by omega)]
   refine⟨by omega,by omega,rfl, ?_⟩
   rw[ge,if_neg (by simpa using h),show (i+1).toNat=i.toNat+1 by omega]
 ·have hlt:=of_decide_eq_false hlt
  rw[ge,List.drop_eq_nil_of_le (by omega)];rfl
end Go.Lx
namespace Go.Lx
open Go.Vc
theorem JN{α:Type}{x y w:α}{A l:List α}:(x::y::w::(A++l)).Perm (A++(x::y::w::l)):=List.perm_append_comm_assoc [x,y,w] A l
theorem Hy{a:Option Addr}{n c b1:Nat}{l:List TF}{A F R:b8}{I:cc}(hA:Acc 3 TF.enc 51 a n c l A)(hl:l.length≤100)(x:TF)(hbm:I b1=some (.cells #[.int .i64 x.e,.int .i64 x.pos,.bool x.of] 51 (0,0)))(hF:F.Perm (A++R)) :
  cE P (Builtin.append_ #[188,188] 188 #[.slice a n c,.slice (some ⟨b1,0,none⟩) 1 1]) I F fun v I' G=>∃a' n' c' A',v=.slice a' n' c'∧Acc 3 TF.enc 51 a' n' c' (l++[x]) A'∧G.Perm (A'++R) :=
 wU (f:=TF.enc) (fun _=>rfl) (zv:=sk.v) (by':=24) (by kernel_rfl) (by kernel_rfl) rfl (by decide) (by decide) hA hl x (Hu x) hbm rfl hF
section
variable (s:cB) (hl:s.p.nH) {I:cc} {F:b8} (hok:s.Ok I F)
include hl hok
set_option maxHeartbeats 1000000 in
theorem DA(d:dG)(hd:d.p.dN)(hdo:d.Ok I F):cg P 82 #[s.v,d.v] I F (eg (zE s.p d.p).v F):=by
 have lr:=hl.regs
 have ls:=hl.slots
 have lt:=hl.cd
 simp only[cB.p,List.length_map] at lr ls lt
 simp only[dS.dN,Small,dS.nG,dG.p,List.mem_cons,List.not_mem_nil,or_false] at hd
 have z1:d.side.px.size≤1048576:=hd _ (.inl rfl)
 have z2:d.qty.px.size≤1048576:=hd _ (.inr (.inl rfl))
 have z3:d.price.px.size≤1048576:=hd _ (.inr (.inr (.inl rfl)))
 have z4:d.value.px.size≤1048576:=hd _ (.inr (.inr (.inr rfl)))
 refine cg.clean ?_
 obtain⟨i0,hi0⟩:∃i0,i0=Fu s.p d.p:=⟨_,rfl⟩
 obtain⟨L1,hL1⟩:∃L,L=(if d.kind=1 then [eJ s.p d.side.px 6] else []):=⟨_,rfl⟩
 obtain⟨L2,hL2⟩:∃L,L=(if d.kind=1∨d.kind=2 then [eJ s.p d.qty.px 2] else []):=⟨_,rfl⟩
 obtain⟨L3,hL3⟩:∃L,L=(if d.kind=1∧d.order≠2∨d.kind=2 then [eJ s.p d.price.px 3] else []):=⟨_,rfl⟩
 obtain⟨L4,hL4⟩:∃L,L=(if d.kind=4 then [eJ s.p d.value.px (s.p.iz i0)] else []):=⟨_,rfl⟩
 have n1:L1.length≤1:=by rw[hL1];split<;>simp
 have n2:L2.length≤1:=by rw[hL2];split<;>simp
 have n3:L3.length≤1:=by rw[hL3];split<;>simp
 have n4:L4.length≤1:=by rw[hL4];split<;>simp
 have hL:IB s.p d.p=L1++(L2++(L3++L4)):=by rw[hL1,hL2,hL3,hL4,hi0];rfl
 have hI:Fu s.p d.p=if d.kind=1 then (if d.name.toList=[] then 0 else s.p.slot d.name) else if d.kind=2∨d.kind=3 then s.p.slot d.name else if d.kind=4 then s.p.eX d.name else if d.kind=5 then s.p.room d.name else 0:=rfl
 refine qZ.vc (fun i I' F'=>F'=F∧i=i0)
  (fun a n c I' F'=>∃A,Acc 3 TF.enc 51 a n c L1 A∧F'.Perm (A++F))
  (fun a n c I' F'=>∃A,Acc 3 TF.enc 51 a n c (L1++L2) A∧F'.Perm (A++F))
  (fun a n c I' F'=>∃A,Acc 3 TF.enc 51 a n c (L1++L2++L3) A∧F'.Perm (A++F))
  (fun a n c I' F'=>∃A,Acc 3 TF.enc 51 a n c (L1++L2++L3++L4) A∧F'.Perm (A++F)) ?_
 unfold qZ.V
 intro b_s b_d b2
 have ok3:∀{J:cc} {G:b8} {x y w:Nat×Obj},cc.le I J→(∀y,y∈F→y∈G)→s.Ok J (x::y::w::G):=fun hJ hG=>hok.mono hJ fun y hy=>.tail _ (.tail _ (.tail _ (hG y hy)))
 have nd3:∀{J:cc} {G:b8} {x y w:Nat×Obj} {t:Nd},cH I F t→cc.le I J→(∀y,y∈F→y∈G)→cH J (x::y::w::G) t:=fun h hJ hG=>h.mono hJ fun y hy=>.tail _ (.tail _ (.tail _ (hG y hy)))
 refine⟨?_, ?_⟩
 ·refine⟨fun h1=>⟨fun hn=>?_,fun hn=>?_⟩,fun h1=>⟨fun h2=>?_,fun h2=>⟨fun h3=>?_,fun h3=>⟨fun h4=>?_,fun h4=>⟨fun h5=>?_,fun h5=>?_⟩⟩⟩⟩⟩
  ·have h1:d.kind=1:=by simpa using h1
   have hn:¬d.name.toList=[]:=by simpa using hn
   exact cg.ret (kZ ls d.name (ok3 (cc.le_refl I) fun _ h=>h)) fun I1 l1=>⟨_,rfl,F,.refl _,rfl,by rw[hi0,hI,if_pos h1,if_neg hn]⟩
  ·have h1:d.kind=1:=by simpa using h1
   have hn:d.name.toList=[]:=by simpa using hn
   exact⟨rfl,by rw[hi0,hI,if_pos h1,if_pos hn]⟩
  all_goals have h1:d.kind≠1:=by simpa using h1
  all_goals rw[if_neg h1] at hI
  ·have h2:d.kind=2:=by simpa using h2
   exact cg.ret (kZ ls d.name (ok3 (cc.le_refl I) fun _ h=>h)) fun I1 l1=>⟨_,rfl,F,.refl _,rfl,by rw[hi0,hI,if_pos (.inl h2)]⟩
  all_goals have h2:d.kind≠2:=by simpa using h2
  ·have h3:d.kind=3:=by simpa using h3
   exact cg.ret (kZ ls d.name (ok3 (cc.le_refl I) fun _ h=>h)) fun I1 l1=>⟨_,rfl,F,.refl _,rfl,by rw[hi0,hI,if_pos (.inr h3)]⟩
  all_goals have h3:d.kind≠3:=by simpa using h3
  all_goals rw[if_neg (by omega)] at hI
  ·have h4:d.kind=4:=by simpa using h4
   exact cg.ret (nk lr d.name (ok3 (cc.le_refl I) fun _ h=>h)) fun I1 l1=>⟨_,rfl,F,.refl _,rfl,by rw[hi0,hI,if_pos h4]⟩
  all_goals have h4:d.kind≠4:=by simpa using h4
  all_goals rw[if_neg h4] at hI
  ·have h5:d.kind=5:=by simpa using h5
   exact cg.ret (rb lt d.name (ok3 (cc.le_refl I) fun _ h=>h)) fun I1 l1=>⟨_,rfl,F,.refl _,rfl,by rw[hi0,hI,if_pos h5]⟩
  ·have h5:d.kind≠5:=by simpa using h5
   exact⟨rfl,by rw[hi0,hI,if_neg h5]⟩
 intro i I6 F6 l6 ⟨gF,gi⟩
 subst gF gi
 have hdT:zE s.p d.p=if i<0 then ⟨151,d.pos,false⟩ else cR id (L1++(L2++(L3++L4))):=by
  unfold zE
  rw[hL,←hi0];rfl
 rw[hdT]
 refine⟨fun hneg=>?_,fun hneg=>?_⟩
 ·rw[if_pos (of_decide_eq_true hneg)]
  exact⟨rfl,[],.refl _⟩
 have hneg:=of_decide_eq_false hneg
 rw[if_neg hneg]
 have app:∀{J J2:cc} {G G2:b8} {a:Option Addr} {n c b1:Nat} {L:List TF} {A:b8} {x y w:Nat×Obj} {f:TF},Acc 3 TF.enc 51 a n c L A→L.length≤100→G.Perm (A++F6)→J b1=some (.cells #[.int .i64 f.e,.int .i64 f.pos,.bool f.of] 51 (0,0)) →
   cE P (Builtin.append_ #[188,188] 188 #[.slice a n c,.slice (some ⟨b1,0,none⟩) 1 1]) J (x::y::w::G) fun v I' G'=>∃(a':Option Addr) (n' c':Nat),v=.slice a' n' c'∧∃F1:b8,G'.Perm (x::y::w::F1)∧∃A',Acc 3 TF.enc 51 a' n' c' (L++[f]) A'∧F1.Perm (A'++F6):=by
  intro J J2 G G2 a n c b1 L A x y w f hA hLl hG hb
  refine (Hy hA hLl f hb (R:=x::y::w::F6) ((((hG.cons w).cons y).cons x).trans JN)).mono fun v I' G' _ ⟨a',n',c',A',hv,hA',hG'⟩=>⟨a',n',c',hv,A'++F6,hG'.trans JN.symm,A',hA',.refl _⟩
 refine⟨⟨fun h1=>?_,fun h1=>?_⟩,fun a n c I10 F9 l10 ⟨A,hA,hF9⟩=>⟨⟨fun h1=>?_,fun h1=>⟨fun h2=>?_,fun h2=>?_⟩⟩,fun a n c I17 F14 l17 ⟨A,hA,hF14⟩=>⟨⟨fun h1=>⟨fun ho=>?_,fun ho=>⟨fun h2=>?_,fun h2=>?_⟩⟩,fun h1=>⟨fun h2=>?_,fun h2=>?_⟩⟩,fun a n c I27 F21 l27 ⟨A,hA,hF21⟩=>⟨⟨fun h4=>?_,fun h4=>?_⟩,fun a n c I31 F24 l31 ⟨A,hA,hF24⟩=>?_⟩⟩⟩⟩
 ·have h1:d.kind=1:=by simpa using h1
  rw[if_pos h1] at hL1
  refine cg.ret (fO s hl (ok3 l6 fun _ h=>h) d.side z1 (nd3 hdo.1 l6 fun _ h=>h) 6) fun I7 l7=>⟨_,_,_,rfl,F6,.refl _,fun b5 I8 l8 hb=>(app (J2:=I8) (G2:=[]) (L:=[]) (A:=[]) Acc.nil (by decide) (.refl _) hb).mono fun v I9 G9 l9 ⟨a',n',c',hv,F1,hG,A',hA',hF1⟩=>⟨a',n',c',hv,F1,hG,A', ?_,hF1⟩⟩
  rw[hL1];exact hA'
 ·have h1:d.kind≠1:=by simpa using h1
  rw[if_neg h1] at hL1
  exact⟨[],by rw[hL1];exact Acc.nil,.refl _⟩
 ·have h1:d.kind=1:=by simpa using h1
  rw[if_pos (.inl h1)] at hL2
  have l610:=cc.le_trans l6 l10
  have hs:∀y,y∈F6→y∈F9:=fun y hy=>hF9.mem_iff.2 (List.mem_append_right _ hy)
  refine cg.ret (fO s hl (ok3 l610 hs) d.qty z2 (nd3 hdo.2.1 l610 hs) 2) fun I7 l7=>⟨_,_,_,rfl,F9,.refl _,fun b5 I8 l8 hb=>(app (J2:=I8) (G2:=[]) hA (by omega) hF9 hb).mono fun v I9 G9 l9 ⟨a',n',c',hv,F1,hG,A',hA',hF1⟩=>⟨a',n',c',hv,F1,hG,A', ?_,hF1⟩⟩
  rw[hL2];exact hA'
 ·have h2:d.kind=2:=by simpa using h2
  rw[if_pos (.inr h2)] at hL2
  have l610:=cc.le_trans l6 l10
  have hs:∀y,y∈F6→y∈F9:=fun y hy=>hF9.mem_iff.2 (List.mem_append_right _ hy)
  refine cg.ret (fO s hl (ok3 l610 hs) d.qty z2 (nd3 hdo.2.1 l610 hs) 2) fun I7 l7=>⟨_,_,_,rfl,F9,.refl _,fun b5 I8 l8 hb=>(app (J2:=I8) (G2:=[]) hA (by omega) hF9 hb).mono fun v I9 G9 l9 ⟨a',n',c',hv,F1,hG,A',hA',hF1⟩=>⟨a',n',c',hv,F1,hG,A', ?_,hF1⟩⟩
  rw[hL2];exact hA'
 ·have h1:d.kind≠1:=by simpa using h1
  have h2:d.kind≠2:=by simpa using h2
  rw[if_neg (by omega)] at hL2
  exact⟨A,by rw[hL2,List.append_nil];exact hA,hF9⟩
 ·have h1:d.kind=1:=by simpa using h1
  have ho:d.order≠2:=by simpa using ho
  rw[if_pos (.inl ⟨h1,ho⟩)] at hL3
  have l617:=cc.le_trans l6 (cc.le_trans l10 l17)
  have hs:∀y,y∈F6→y∈F14:=fun y hy=>hF14.mem_iff.2 (List.mem_append_right _ hy)
  refine cg.ret (fO s hl (ok3 l617 hs) d.price z3 (nd3 hdo.2.2.1 l617 hs) 3) fun I7 l7=>⟨_,_,_,rfl,F14,.refl _,fun b5 I8 l8 hb=>(app (J2:=I8) (G2:=[]) hA (by rw[List.length_append];omega) hF14 hb).mono fun v I9 G9 l9 ⟨a',n',c',hv,F1,hG,A',hA',hF1⟩=>⟨a',n',c',hv,F1,hG,A', ?_,hF1⟩⟩
  rw[hL3];exact hA'
 ·have h1:d.kind=1:=by simpa using h1
  have h2:d.kind=2:=by simpa using h2
  omega
 ·have h1:d.kind=1:=by simpa using h1
  have ho:d.order=2:=by simpa using ho
  rw[if_neg (by omega)] at hL3
  exact⟨A,by rw[hL3,List.append_nil];exact hA,hF14⟩
 ·have h2:d.kind=2:=by simpa using h2
  rw[if_pos (.inr h2)] at hL3
  have l617:=cc.le_trans l6 (cc.le_trans l10 l17)
  have hs:∀y,y∈F6→y∈F14:=fun y hy=>hF14.mem_iff.2 (List.mem_append_right _ hy)
  refine cg.ret (fO s hl (ok3 l617 hs) d.price z3 (nd3 hdo.2.2.1 l617 hs) 3) fun I7 l7=>⟨_,_,_,rfl,F14,.refl _,fun b5 I8 l8 hb=>(app (J2:=I8) (G2:=[]) hA (by rw[List.length_append];omega) hF14 hb).mono fun v I9 G9 l9 ⟨a',n',c',hv,F1,hG,A',hA',hF1⟩=>⟨a',n',c',hv,F1,hG,A', ?_,hF1⟩⟩
  rw[hL3];exact hA'
 ·have h1:d.kind≠1:=by simpa using h1
  have h2:d.kind≠2:=by simpa using h2
  rw[if_neg (by omega)] at hL3
  exact⟨A,by rw[hL3,List.append_nil];exact hA,hF14⟩
 ·have h4:d.kind=4:=by simpa using h4
  rw[if_pos h4] at hL4
  have hir:i=s.p.eX d.name:=by rw[hi0,hI,if_neg (by omega),if_neg (by omega),if_pos h4]
  have hilt:i<s.regs.length:=by rw[hir];exact Hv (by omega)
  have l627:=cc.le_trans l6 (cc.le_trans l10 (cc.le_trans l17 l27))
  have hs:∀y,y∈F6→y∈F21:=fun y hy=>hF21.mem_iff.2 (List.mem_append_right _ hy)
  obtain⟨ad,r,had,hrr,hrd,_⟩:=dy.j3 (ok3 (x:=(b_s,Obj.cells #[.string s.name,.slice s.ra s.regs.length s.rc,.slice s.sa s.slots.length s.sc,.slice s.ta s.cd.length s.tc] 39 (0,0))) (y:=(b_d,Obj.cells #[.int .u8 d.kind,.int .u8 d.order,.string d.name,.int .u8 d.side.kind,.int .u8 d.side.oper,.int .u8 d.side.cx,.int .i64 d.side.n,.int .u8 d.side.field,.string d.side.name,.slice d.side.a d.side.kids.length d.side.c,.int .i64 d.side.pos,.int .u8 d.qty.kind,.int .u8 d.qty.oper,.int .u8 d.qty.cx,.int .i64 d.qty.n,.int .u8 d.qty.field,.string d.qty.name,.slice d.qty.a d.qty.kids.length d.qty.c,.int .i64 d.qty.pos,.int .u8 d.price.kind,.int .u8 d.price.oper,.int .u8 d.price.cx,.int .i64 d.price.n,.int .u8 d.price.field,.string d.price.name,.slice d.price.a d.price.kids.length d.price.c,.int .i64 d.price.pos,.int .u8 d.value.kind,.int .u8 d.value.oper,.int .u8 d.value.cx,.int .i64 d.value.n,.int .u8 d.value.field,.string d.value.name,.slice d.value.a d.value.kids.length d.value.c,.int .i64 d.value.pos,.int .i64 d.pos] 99 (0,0))) (w:=(b2,Obj.cells #[.int .i64 0,.int .i64 0,.bool false] 51 (0,0))) l627 hs).regs (Int.not_lt.1 hneg) hilt
  have hT:s.p.iz i=r.cx:=by
   unfold cu.iz
   show (((s.regs.map cJ.p)[i.toNat]?).map dg.cx).getD 0=_
   rw[List.getElem?_map,hrr];rfl
  rw[hT] at hL4
  refine⟨⟨Int.not_lt.1 hneg,hilt⟩,ad,had,r.cx,hrd.field (o:=1) rfl, ?_⟩
  refine cg.ret (fO s hl (ok3 l627 hs) d.value z4 (nd3 hdo.2.2.2 l627 hs) r.cx) fun I7 l7=>⟨_,_,_,rfl,F21,.refl _,fun b5 I8 l8 hb=>(app (J2:=I8) (G2:=[]) hA (by rw[List.length_append,List.length_append];omega) hF21 hb).mono fun v I9 G9 l9 ⟨a',n',c',hv,F1,hG,A',hA',hF1⟩=>⟨a',n',c',hv,F1,hG,A', ?_,hF1⟩⟩
  rw[hL4];exact hA'
 ·have h4:d.kind≠4:=by simpa using h4
  rw[if_neg h4] at hL4
  exact⟨A,by rw[hL4,List.append_nil];exact hA,hF21⟩
 ·have hn:=hA.1
  subst hn
  refine cg.ret (xQ (hA.yl (z:=3) (f:=TF.enc) (fun _=>rfl) I31 fun y hy=>.tail _ (.tail _ (.tail _ (hF24.mem_iff.2 (List.mem_append_left _ hy))))) (by simp only[List.length_append];omega)) fun I32 l32=>⟨_,_,_,rfl,F24,.refl _, ?_,A,hF24⟩
  simp only[List.append_assoc];rfl
theorem zM(r:cr)(hr:r.p.dN)(hro:r.Ok I F):cg P 49 #[s.v,r.v] I F (eg (ez s.p r.p).v F):=by
 have hdl:=hr.2.1
 simp only[cr.p,List.length_map] at hdl
 have hds:∀d∈r.dos,d.p.dN:=fun d hd=>hr.2.2 _ (List.mem_map_of_mem hd)
 have hrule:ez s.p r.p=dM (eJ s.p r.when.px 5) (pE s.p (r.dos.map dG.p) false):=rfl
 refine nj.vc (fun last i b0 b1 b2 f0 f1 f2 m I' F'=>F'=F∧0≤i∧i≤r.dos.length∧m=(r.dos.length-i).toNat∧ez s.p r.p=pE s.p ((r.dos.drop i.toNat).map dG.p) last) ?_
 unfold nj.V
 intro b_s b_r b2
 have ok3:∀{J:cc} {x y w:Nat×Obj},cc.le I J→s.Ok J (x::y::w::F):=fun hJ=>hok.mono hJ fun y hy=>.tail _ (.tail _ (.tail _ hy))
 have ro3:∀{J:cc} {x y w:Nat×Obj},cc.le I J→r.Ok J (x::y::w::F):=fun hJ=>hro.mono hJ fun y hy=>.tail _ (.tail _ (.tail _ hy))
 refine cg.ret (fO s hl (ok3 (cc.le_refl I)) r.when hr.1 (ro3 (cc.le_refl I)).1 5) fun I1 l1=>⟨_,_,_,rfl,F,.refl _,fun b_f=>⟨fun h=>?_,fun h=>?_⟩⟩
 ·rw[hrule];unfold dM;rw[if_pos (by simpa using h)];exact⟨rfl,rfl⟩
 ·have h:(eJ s.p r.when.px 5).e=0:=by simpa using h
  refine⟨⟨_,rfl,by omega,by omega,rfl,by rw[hrule];unfold dM;rw[if_neg (by simpa using h)];rfl⟩,fun last i b0 b1 b2' f0 f1 f2 m I2 F2 l2 ⟨gF,g0,g1,gm,ge⟩=>⟨fun hlt=>?_,fun hlt=>⟨?_,gF⟩⟩⟩
  ·subst gF
   have hlt:=of_decide_eq_true hlt
   have l12:=cc.le_trans l1 l2
   obtain⟨ad,d,had,hd,hrd,hdm⟩:=dy.j3 (hro.mono l12 fun _ h=>h).2.1 g0 hlt
   obtain⟨hk,rfl⟩:=List.getElem?_eq_some_iff.1 hd
   rw[List.drop_eq_getElem_cons hk,List.map_cons,pE] at ge
   refine⟨⟨g0,hlt⟩,ad,had,_,_,_,_,_,_,_,_,_,_,_,_,_,_,_,_,_,_,_,_,_,_,_,_,_,_,_,_,_,_,_,_,_,_,_,_,_,_,_,_,_,_,_,_,hrd.sub (cc.le_refl _) fun y hy=>.tail _ (.tail _ (.tail _ (.tail _ hy))),fun b_d=>⟨fun hla=>?_,fun hla=>?_⟩⟩
   ·rw[ge,if_pos hla];exact⟨rfl,rfl⟩
   ·rw[if_neg (by simp[hla])] at ge
    have hdo:=(hro.mono l12 fun _ h=>h).2.2 _ hdm
    refine cg.ret (DA s hl (hok.mono l12 fun y hy=>.tail _ (.tail _ (.tail _ (.tail _ (.tail _ hy))))) r.dos[i.toNat] (hds _ hdm) (hdo.mono (cc.le_refl _) fun y hy=>.tail _ (.tail _ (.tail _ (.tail _ (.tail _ hy)))))) fun I3 l3=>⟨_,_,_,rfl,F2,.refl _,fun he=>?_,fun he=>?_⟩
    ·rw[ge,if_pos (by simpa using he)];exact⟨rfl,rfl⟩
    ·rw[if_neg (by simpa using he)] at ge
     rw[du (n:=i+1) (by omega)]
     refine⟨fun h5=>⟨(r.dos.length-(i+1)).toNat,by omega,rfl,by omega,by omega,rfl, ?_⟩,fun h5=>⟨(r.dos.length-(i+1)).toNat,by omega,rfl,by omega,by omega,rfl, ?_⟩⟩
     ·have h5:(r.dos[i.toNat]).kind=5:=by simpa using h5
      rw[ge,show (i+1).toNat=i.toNat+1 by omega,show decide ((r.dos[i.toNat]).p.kind=5∨(r.dos[i.toNat]).p.kind=6)=true from decide_eq_true (.inl h5)]
     ·have h5:(r.dos[i.toNat]).kind≠5:=by simpa using h5
      rw[ge,show (i+1).toNat=i.toNat+1 by omega]
      congr 1
      by_cases h6:(r.dos[i.toNat]).kind=6
      ·rw[show ((r.dos[i.toNat]).kind==6)=true by simpa using h6];exact decide_eq_true (.inr h6)
      ·rw[show ((r.dos[i.toNat]).kind==6)=false by simpa using h6];exact decide_eq_false (fun h=>h.elim h5 h6)
  ·have hlt:=of_decide_eq_false hlt
   rw[ge,List.drop_eq_nil_of_le (by omega)];rfl
end
end Go.Lx
namespace Go.Lx
open Go.Vc
theorem rq(a:TF)(h:a.e=0)(b:TF):dM a b=b:=by unfold dM;rw[if_neg (by simpa using h)]
theorem jU(a:TF)(h:a.e≠0)(b:TF):dM a b=a:=by unfold dM;rw[if_pos h]
def TF.Z(f:TF):Prop:=f.e=0→f=sk
theorem w6:sk.Z:=fun _=>rfl
theorem u7{e p:Int}{b:Bool}(h:e≠0):(⟨e,p,b⟩:TF).Z:=fun h'=>absurd h' h
theorem tC{a b:TF}(ha:a.Z)(hb:b.Z):(dM a b).Z:=by
 unfold dM;split
 ·exact ha
 ·exact hb
theorem FV(s:cu)(x:Px)(t:Int):(eJ s x t).Z:=by
 unfold eJ;split
 ·rename_i h;exact fun h'=>absurd h' h
 ·split
  ·exact u7 (by decide)
  ·exact w6
theorem EU(s:cu):∀(l:List dS) (b:Bool),(pE s l b).Z
 | [],b=>w6
 | d::l,b=>by
   rw[pE];split
   ·exact u7 (by decide)
   ·split
    ·rename_i h;exact fun h'=>absurd h' h
    ·exact EU s l _
theorem Cu(s:cu)(r:cM):(ez s r).Z:=tC (FV _ _ _) (EU _ _ _)
theorem zN(s:cu):∀(l:List dg) (i:Int),(gZ s l i).Z
 | [],i=>w6
 | r::l,i=>by
   rw[gZ];split
   ·exact u7 (by decide)
   ·split
    ·exact u7 (by decide)
    ·exact zN s l _
theorem zO(s:cu):∀(l:List cI) (i:Int),(g9 s l i).Z
 | [],i=>w6
 | r::l,i=>by
   rw[g9];split
   ·exact u7 (by decide)
   ·exact zO s l _
theorem zP(s:cu):∀(l:List cq) (i:Int),(ew s l i).Z
 | [],i=>w6
 | r::l,i=>by
   rw[ew];split
   ·exact u7 (by decide)
   ·exact zP s l _
theorem Cv(s:cu):s.named.Z:=tC (zN _ _ _) (tC (zO _ _ _) (zP _ _ _))
theorem cz{a b:Int}(h:cm a b=0):a=0∧b=0:=by
 unfold cm at h
 split at h
 ·rename_i h0;exact⟨h0,h⟩
 ·rename_i h0;exact absurd h h0
theorem fP{α:Type}{f:α→Int}:∀{l:List α},cD f l=0→∀x∈l,f x=0
 | [],_,x,hx=>by cases hx
 | y::r,h,x,hx=>by
   rw[cD] at h
   obtain⟨h1,h2⟩:=cz h
   rcases List.mem_cons.1 hx with rfl | hx
   ·exact h1
   ·exact fP h2 x hx
theorem jG{b:Bool}{n:Int}(hn:n≠0)(h:cT b n=0):b=true:=by
 unfold cT at h
 split at h
 ·assumption
 ·exact absurd h hn
theorem u9{s:cu}(h:s.check=0):∀r∈s.regs,r.init.formed=true:=by
 unfold cu.check at h
 obtain⟨_,h⟩:=cz h
 obtain⟨_,h⟩:=cz h
 obtain⟨h,_⟩:=cz h
 intro r hr
 have h1:=jG (by decide) (fP h r hr)
 simp only[Bool.and_eq_true] at h1
 exact h1.2.2.1
section
variable (s:cB) (hl:s.p.nH) {I:cc} {F:b8} (hok:s.Ok I F)
include hl hok
theorem xR(hf:∀r∈s.regs,r.init.px.formed=true):cg P 48 #[s.v] I F (eg s.p.named.v F):=by
 have lr:=hl.regs
 have ls:=hl.slots
 have lt:=hl.cd
 simp only[cB.p,List.length_map] at lr ls lt
 have hnm:∀r∈s.regs,r.init.px.size≤1048576:=fun r hr=>hl.eX _ (List.mem_map_of_mem hr)
 have hdef:s.p.named=dM (gZ s.p (s.regs.map cJ.p) 0) (dM (g9 s.p s.slots 0) (ew s.p (s.cd.map cj.p) 0)):=rfl
 refine kW.vc (fun i b0 b1 b2 m I' F'=>F'=F∧0≤i∧i≤s.regs.length∧m=(s.regs.length-i).toNat∧gZ s.p (s.regs.map cJ.p) 0=gZ s.p ((s.regs.drop i.toNat).map cJ.p) i)
  (fun i b0 b1 b2 m I' F'=>F'=F∧0≤i∧i≤s.slots.length∧m=(s.slots.length-i).toNat∧s.p.named=dM (g9 s.p (s.slots.drop i.toNat) i) (ew s.p (s.cd.map cj.p) 0))
  (fun i b0 b1 b2 m I' F'=>F'=F∧0≤i∧i≤s.cd.length∧m=(s.cd.length-i).toNat∧s.p.named=ew s.p ((s.cd.drop i.toNat).map cj.p) i) ?_
 unfold kW.V
 intro b_s b2
 have ok2:∀{J:cc} {x y:Nat×Obj},cc.le I J→s.Ok J (x::y::F):=fun hJ=>hok.mono hJ fun y hy=>.tail _ (.tail _ hy)
 have ok3:∀{J:cc} {x y w:Nat×Obj},cc.le I J→s.Ok J (x::y::w::F):=fun hJ=>hok.mono hJ fun y hy=>.tail _ (.tail _ (.tail _ hy))
 refine⟨⟨_,rfl,by omega,by omega,rfl,rfl⟩,fun i b0 b1 b2' m I1 F1 l1 ⟨gF,g0,g1,gm,ge⟩=>⟨fun hlt=>?_,fun hlt=>⟨⟨_,gF,by omega,by omega,rfl, ?_⟩,fun i1 c0 c1 c2 m4 I4 F4 l4 ⟨hF,h0,h1,hm,he⟩=>⟨fun hlt1=>?_,fun hlt1=>⟨⟨_,hF,by omega,by omega,rfl, ?_⟩,fun i2 d0 d1 d2 m9 I6 F5 l6 ⟨kF,k0,k1,km,ke⟩=>⟨fun hlt2=>?_,fun hlt2=>⟨?_,kF⟩⟩⟩⟩⟩⟩⟩
 ·subst gF
  have hlt:=of_decide_eq_true hlt
  obtain⟨ad,r,had,hr,hrd,hrm⟩:=dy.j3 (ok2 (x:=(b_s,Obj.cells #[.string s.name,.slice s.ra s.regs.length s.rc,.slice s.sa s.slots.length s.sc,.slice s.ta s.cd.length s.tc] 39 (0,0))) (y:=(b2,Obj.cells #[.int .i64 b0,.int .i64 b1,.bool b2'] 51 (0,0))) l1).regs g0 hlt
  obtain⟨hk,rfl⟩:=List.getElem?_eq_some_iff.1 hr
  rw[List.drop_eq_getElem_cons hk,List.map_cons,gZ] at ge
  refine⟨⟨g0,hlt⟩,ad,had,_,_,_,_,_,_,_,_,_,_,_,_,_,hrd,fun b_r=>?_⟩
  refine cg.ret (nk lr _ (ok3 l1)) fun I2 l2=>⟨_,rfl,F1,.refl _,fun hn=>?_,fun hn=>?_⟩
  ·have hn:=of_decide_eq_true hn
   rw[hdef,ge,if_pos (show s.p.eX (s.regs[i.toNat]).p.name<i from hn)]
   exact⟨rfl,rfl⟩
  ·have hn:=of_decide_eq_false hn
   rw[if_neg (show ¬s.p.eX (s.regs[i.toNat]).p.name<i from hn)] at ge
   have l12:=cc.le_trans l1 l2
   refine cg.ret (rp s lr _ (hnm _ hrm) (hf _ hrm) I2 _ (ok3 l12) (cH.mono (hok.eX _ hrm) l12 fun y hy=>.tail _ (.tail _ (.tail _ hy)))) fun I3 l3=>⟨_,_,_,_,rfl,F1,.refl _,fun b__=>⟨fun ht=>?_,fun ht=>?_⟩⟩
   ·have ht:(typed s.p (s.regs[i.toNat]).init.px).1≠(s.regs[i.toNat]).cx:=by simpa using ht
    rw[hdef,ge,if_pos (show (typed s.p (s.regs[i.toNat]).p.init).1≠(s.regs[i.toNat]).p.cx from ht)]
    exact⟨rfl,rfl⟩
   ·have ht:(typed s.p (s.regs[i.toNat]).init.px).1=(s.regs[i.toNat]).cx:=by simpa using ht
    rw[if_neg (show ¬(typed s.p (s.regs[i.toNat]).p.init).1≠(s.regs[i.toNat]).p.cx from fun h=>h ht)] at ge
    rw[du (n:=i+1) (by omega)]
    refine⟨(s.regs.length-(i+1)).toNat,by omega,rfl,by omega,by omega,rfl, ?_⟩
    rw[ge,show (i+1).toNat=i.toNat+1 by omega]
 ·have hlt:=of_decide_eq_false hlt
  rw[List.drop_eq_nil_of_le (by omega)] at ge
  rw[hdef,ge];rfl
 ·subst hF
  have hlt1:=of_decide_eq_true hlt1
  have l14:=cc.le_trans l1 l4
  obtain⟨ad,r,had,hr,hrd,hrm⟩:=dy.j3 (ok2 (x:=(b_s,Obj.cells #[.string s.name,.slice s.ra s.regs.length s.rc,.slice s.sa s.slots.length s.sc,.slice s.ta s.cd.length s.tc] 39 (0,0))) (y:=(b2,Obj.cells #[.int .i64 c0,.int .i64 c1,.bool c2] 51 (0,0))) l14).slots h0 hlt1
  obtain⟨hk,rfl⟩:=List.getElem?_eq_some_iff.1 hr
  rw[List.drop_eq_getElem_cons hk,g9] at he
  refine⟨⟨h0,hlt1⟩,ad,had,_,hrd.field (o:=0) rfl,_,cg.ret (kZ ls _ (ok2 l14)) fun I5 l5=>⟨rfl,.refl _⟩,fun hn=>⟨⟨h0,hlt1⟩,ad,had,_,hrd.field (o:=1) rfl, ?_⟩,fun hn=>⟨(s.slots.length-(i1+1)).toNat,by omega,rfl, ?_⟩⟩
  ·have hn:=of_decide_eq_true hn
   rw[he,if_pos hn]
   exact⟨rfl,rfl⟩
  ·have hn:=of_decide_eq_false hn
   rw[du (n:=i1+1) (by omega)]
   refine⟨by omega,by omega,rfl, ?_⟩
   rw[he,if_neg hn,show (i1+1).toNat=i1.toNat+1 by omega]
 ·have hlt1:=of_decide_eq_false hlt1
  rw[List.drop_eq_nil_of_le (by omega)] at he
  rw[he];rfl
 ·subst kF
  have hlt2:=of_decide_eq_true hlt2
  have l16:=cc.le_trans l1 (cc.le_trans l4 l6)
  obtain⟨ad,r,had,hr,hrd,hrm⟩:=dy.j3 (ok2 (x:=(b_s,Obj.cells #[.string s.name,.slice s.ra s.regs.length s.rc,.slice s.sa s.slots.length s.sc,.slice s.ta s.cd.length s.tc] 39 (0,0))) (y:=(b2,Obj.cells #[.int .i64 d0,.int .i64 d1,.bool d2] 51 (0,0))) l16).cd k0 hlt2
  obtain⟨hk,rfl⟩:=List.getElem?_eq_some_iff.1 hr
  rw[List.drop_eq_getElem_cons hk,List.map_cons,ew] at ke
  refine⟨⟨k0,hlt2⟩,ad,had,_,hrd.field (o:=0) rfl,_,cg.ret (rb lt _ (ok2 l16)) fun I5 l5=>⟨rfl,.refl _⟩,fun hn=>⟨⟨k0,hlt2⟩,ad,had,_,hrd.field (o:=2) rfl, ?_⟩,fun hn=>⟨(s.cd.length-(i2+1)).toNat,by omega,rfl, ?_⟩⟩
  ·have hn:=of_decide_eq_true hn
   rw[ke,if_pos (show s.p.room (s.cd[i2.toNat]).p.name<i2 from hn)]
   exact⟨rfl,rfl⟩
  ·have hn:=of_decide_eq_false hn
   rw[du (n:=i2+1) (by omega)]
   refine⟨by omega,by omega,rfl, ?_⟩
   rw[ke,if_neg (show ¬s.p.room (s.cd[i2.toNat]).p.name<i2 from hn),show (i2+1).toNat=i2.toNat+1 by omega]
 ·have hlt2:=of_decide_eq_false hlt2
  rw[List.drop_eq_nil_of_le (by omega)] at ke
  rw[ke];rfl
theorem wc:cg P 26 #[s.v] I F (eg s.p.types.v F):=by
 have lt:=hl.cd
 simp only[cB.p,List.length_map] at lt
 have hst:∀x∈s.cd,x.p.dN:=fun x hx=>hl.state _ (List.mem_map_of_mem hx)
 refine kY.vc
  (fun i f0 f1 f2 m I0 F0 I' F'=>F'=F∧0≤i∧i≤s.cd.length∧m=(s.cd.length-i).toNat∧(⟨f0,f1,f2⟩:TF).Z∧s.p.types=dM ⟨f0,f1,f2⟩ (cR (fun x=>cR (ez s.p) x.rules) ((s.cd.drop i.toNat).map cj.p)))
  (fun i k f0 f1 f2 m I0 F0 I' F'=>F'=F∧∃x,s.cd[i.toNat]? = some x∧0≤k∧k≤x.rules.length∧m=(x.rules.length-k).toNat∧(⟨f0,f1,f2⟩:TF).Z∧s.p.types=dM ⟨f0,f1,f2⟩ (dM (cR (ez s.p) ((x.rules.drop k.toNat).map cr.p)) (cR (fun x=>cR (ez s.p) x.rules) ((s.cd.drop (i.toNat+1)).map cj.p)))) ?_
 unfold kY.V
 intro b_s b2
 have ok2:∀{J:cc} {x y:Nat×Obj},cc.le I J→s.Ok J (x::y::F):=fun hJ=>hok.mono hJ fun y hy=>.tail _ (.tail _ hy)
 have ok3:∀{J:cc} {x y w:Nat×Obj},cc.le I J→s.Ok J (x::y::w::F):=fun hJ=>hok.mono hJ fun y hy=>.tail _ (.tail _ (.tail _ hy))
 have hdef:s.p.types=if s.p.check≠0 then ⟨s.p.check,0,false⟩ else dM s.p.named (cR (fun x=>cR (ez s.p) x.rules) (s.cd.map cj.p)):=rfl
 refine cg.ret (xP s hl I _ (ok2 (cc.le_refl I))) fun I1 l1=>⟨_,rfl,F,.refl _,fun hc=>?_,fun hc=>?_⟩
 ·have hc:s.p.check≠0:=by simpa using hc
  rw[hdef,if_pos hc];exact⟨rfl,rfl⟩
 have hc:s.p.check=0:=by simpa using hc
 rw[if_neg (by simpa using hc)] at hdef
 have hfm:∀r∈s.regs,r.init.px.formed=true:=fun r hr=>u9 hc r.p (List.mem_map_of_mem hr)
 refine cg.ret (xR s hl (ok2 l1) hfm) fun I2 l2=>⟨_,_,_,rfl,F,.refl _,fun b_f=>⟨⟨_,rfl,by omega,by omega,rfl,Cv _,hdef⟩,fun i f0 f1 f2 m I3 F3 l3 ⟨gF,g0,g1,gm,gz,ge⟩=>⟨fun hlt=>⟨fun hf=>?_,fun hf=>?_⟩,fun hlt=>?_⟩⟩⟩
 ·subst gF
  have hlt:=of_decide_eq_true hlt
  have hf:f0=0:=by simpa using hf
  have l13:=cc.le_trans l1 (cc.le_trans l2 l3)
  obtain⟨x,hx⟩:∃x,s.cd[i.toNat]? = some x:=⟨_,List.getElem?_eq_getElem (by omega)⟩
  obtain⟨hk,hxe⟩:=List.getElem?_eq_some_iff.1 hx
  have hxm:x∈s.cd:=hxe▸List.getElem_mem hk
  have hxl:=(hst x hxm).1
  simp only[cj.p,List.length_map] at hxl
  rw[List.drop_eq_getElem_cons hk,hxe,List.map_cons,cR] at ge
  refine⟨⟨_,rfl,x,hx,by omega,by omega,rfl,gz, ?_⟩,fun k h0 h1 h2 m3 I4 F4 l4 ⟨hF,x',hx',k0,k1,km,kz,ke⟩=>?_⟩
  ·rw[ge];rfl
  subst hF
  obtain rfl:x=x':=by rw[hx] at hx';exact Option.some.inj hx'
  have l14:=cc.le_trans l13 l4
  obtain⟨ad,x2,had,hx2,hrd,_⟩:=dy.j3 (ok3 (x:=(b_s,Obj.cells #[.string s.name,.slice s.ra s.regs.length s.rc,.slice s.sa s.slots.length s.sc,.slice s.ta s.cd.length s.tc] 39 (0,0))) (y:=(b2,Obj.cells #[.int .i64 0,.int .i64 0,.bool false] 51 (0,0))) (w:=(b_f,Obj.cells #[.int .i64 h0,.int .i64 h1,.bool h2] 51 (0,0))) l14).cd g0 hlt
  obtain rfl:x=x2:=by rw[hx] at hx2;exact Option.some.inj hx2
  refine⟨⟨g0,hlt⟩,ad,had,_,_,_,hrd.field (o:=1) rfl,fun hlt2=>⟨fun hh=>?_,fun hh=>?_⟩,fun hlt2=>?_⟩
  ·have hlt2:=of_decide_eq_true hlt2
   have hh:h0=0:=by simpa using hh
   have hxo:=(ok3 (x:=(b_s,Obj.cells #[.string s.name,.slice s.ra s.regs.length s.rc,.slice s.sa s.slots.length s.sc,.slice s.ta s.cd.length s.tc] 39 (0,0))) (y:=(b2,Obj.cells #[.int .i64 0,.int .i64 0,.bool false] 51 (0,0))) (w:=(b_f,Obj.cells #[.int .i64 h0,.int .i64 h1,.bool h2] 51 (0,0))) l14).state x hxm
   obtain⟨ad5,r,had5,hr,hrd5,hrm⟩:=dy.j3 hxo.1 k0 hlt2
   obtain⟨hk5,hre⟩:=List.getElem?_eq_some_iff.1 hr
   rw[List.drop_eq_getElem_cons hk5,hre,List.map_cons,cR] at ke
   refine⟨⟨g0,hlt⟩,ad,had,_,_,_,hrd.field (o:=1) rfl,⟨k0,hlt2⟩,ad5,had5,_,_,_,_,_,_,_,_,_,_,_,_,_,_,hrd5,(ez s.p r.p).e,(ez s.p r.p).pos,(ez s.p r.p).of,cg.ret (zM s hl (ok3 l14) r ((hst x hxm).2 _ (List.mem_map_of_mem hrm)) (hxo.2 r hrm)) fun I5 l5=>⟨rfl,.refl _⟩,(x.rules.length-(k+1)).toNat,by omega,rfl,x,hx, ?_⟩
   rw[du (n:=k+1) (by omega)]
   refine⟨by omega,by omega,rfl,Cu _ _, ?_⟩
   rw[ke,rq _ hh,show (k+1).toNat=k.toNat+1 by omega]
   by_cases he:(ez s.p r.p).e=0
   ·rw[if_neg (by simpa using he),rq _ he]
   ·rw[if_pos he,jU _ he,jU (⟨(ez s.p r.p).e,(ez s.p r.p).pos,(ez s.p r.p).of⟩:TF) he]
  ·have hh:h0≠0:=by simpa using hh
   rw[du (n:=i+1) (by omega)]
   refine⟨(s.cd.length-(i+1)).toNat,by omega,rfl,by omega,by omega,rfl,kz, ?_⟩
   rw[ke,jU _ hh,jU _ hh]
  ·have hlt2:=of_decide_eq_false hlt2
   rw[du (n:=i+1) (by omega)]
   refine⟨(s.cd.length-(i+1)).toNat,by omega,rfl,by omega,by omega,rfl,kz, ?_⟩
   rw[ke,(List.drop_eq_nil_of_le (by omega):x.rules.drop k.toNat=[]),show (i+1).toNat=i.toNat+1 by omega];rfl
 ·have hf:f0≠0:=by simpa using hf
  rw[ge,jU _ hf];exact⟨rfl,gF⟩
 ·have hlt:=of_decide_eq_false hlt
  rw[List.drop_eq_nil_of_le (by omega)] at ge
  rw[ge]
  refine⟨?_,gF⟩
  show Ending.returned (TF.v ⟨f0,f1,f2⟩)=.returned (dM ⟨f0,f1,f2⟩ sk).v
  unfold dM
  split
  ·rfl
  ·rename_i h0
   have h0:f0=0:=by simpa using h0
   rw[gz h0]
end
end Go.Lx
namespace Go.Lx
open Go.Vc Go.Proofs.Tryz
def iX:List (Nat×List Sh):=[(3,[.one (.int .i64)]),(4,[.one .bool]),(24,[.one (.int .u8)]),(28,[.agg [(.int .u8),(.int .u8),(.int .u8),(.int .i64),(.int .u8),.str,.slc,(.int .i64)]]),(44,[.one .any]),(47,[.one (.int .i64)]),(65,[.agg [.str,.slc,(.int .i64)]]),(77,[.agg [.str,(.int .u8),(.int .u8),(.int .u8),(.int .u8),(.int .i64),(.int .u8),.str,.slc,(.int .i64),(.int .i64)]]),(79,[.agg [.str,(.int .i64)]]),(84,[.agg [(.int .u8),(.int .u8),(.int .u8),(.int .i64),(.int .u8),.str,.slc,(.int .i64),.slc,(.int .i64)]]),(89,[.one .ptr]),(96,[.one (.int .u8)]),(99,[.agg [(.int .u8),(.int .u8),.str,(.int .u8),(.int .u8),(.int .u8),(.int .i64),(.int .u8),.str,.slc,(.int .i64),(.int .u8),(.int .u8),(.int .u8),(.int .i64),(.int .u8),.str,.slc,(.int .i64),(.int .u8),(.int .u8),(.int .u8),(.int .i64),(.int .u8),.str,.slc,(.int .i64),(.int .u8),(.int .u8),(.int .u8),(.int .i64),(.int .u8),.str,.slc,(.int .i64),(.int .i64)]]),(113,[.one .ptr]),(161,[.one .map]),(162,[.one .map]),(165,[.one (.int .u8),.one .bool]),(166,[.one (.int .u8),.one .any]),(208,[.one .slc]),(210,[.agg [(.int .u8),(.int .u8),(.int .u8),(.int .i64),(.int .u8),.str,.slc,(.int .i64),(.int .u8)]])]
def nt.V(t:Int)(I:cc)(F:b8)(Q:cf)  : Prop:=(Dt (1≤t) (Q (.returned (.bool (decide (t≤4)))) I F) (Q (.returned (.bool false)) I F))
theorem nt.vc{t:Int}{I:cc}{F:b8}{Q:cf}  (h:nt.V t I F Q):cg P 151 #[.int .u8 t] I F Q :=
 tw (A:=(an [1001] [] iX)) [] func151 h
def lg.V(f g h i j:Int)(k:Bs)(c:OA)(d e:Nat)(a e1:Int)(I:cc)(F:b8)(Q:cf)  : Prop:=∀l:Nat,∀b:Nat,Q (.returned (.tuple #[.int .u8 0,Value.iface 89 (.pointer (some (⟨b,0,none⟩:Addr)))])) I (((b,Obj.cells #[.string (⟨#[79,102]⟩:Bs),.int .i64 a,Value.iface 47 (.int .i64 e1)] 93 (0,0))::F))
theorem lg.vc{d e f g i:Int}{j:Bs}{a:OA}{b c:Nat}{k e1:Int}{I:cc}{F:b8}{Q:cf}  (h:lg.V d e f g i j a b c k e1 I F Q):cg P 136 #[.agg #[.int .u8 d,.int .u8 e,.int .u8 f,.int .i64 g,.int .u8 i,.string j,.slice a b c,.int .i64 k],.int .i64 e1] I F Q :=
 tw (A:=(cQ [] [] [] iX [] [] [1005] [] [] [(1,[0,2,3,7,1,4,5,6,8])] [])) [] func136 h
def jV.V(c:Nat→Nat×Obj)(vb:Int→Value)(vt:Bool→Value)(e b f j k:Int)(l:Bs)(g:OA)(h i:Nat)(m a:Int)(I:cc)(F:b8)(Q:cf)  : Prop:=∀d:Nat,(It (e==9) (cF P 151 #[vb a] I ((c d)::·) F vt fun r I1 F1=>(It r (Q (.returned (vb f)) I1 F1) (It (e==9) (Q (.returned (vb 0)) I1 F1) (It (b==2) (It (a==5) (Q (.returned (vb a)) I1 F1) (It (b != 2) (cF P 151 #[vb a] I1 ((c d)::·) F1 vt fun r1 I2 F2=>(It r1 (Q (.returned (vb a)) I2 F2) (Q (.returned (vb 0)) I2 F2))) (Q (.returned (vb 0)) I1 F1))) (It (b != 2) (cF P 151 #[vb a] I1 ((c d)::·) F1 vt fun r2 I3 F3=>(It r2 (Q (.returned (vb a)) I3 F3) (Q (.returned (vb 0)) I3 F3))) (Q (.returned (vb 0)) I1 F1)))))) (It (e==9) (Q (.returned (vb 0)) I F) (It (b==2) (It (a==5) (Q (.returned (vb a)) I F) (It (b != 2) (cF P 151 #[vb a] I ((c d)::·) F vt fun r3 I4 F4=>(It r3 (Q (.returned (vb a)) I4 F4) (Q (.returned (vb 0)) I4 F4))) (Q (.returned (vb 0)) I F))) (It (b != 2) (cF P 151 #[vb a] I ((c d)::·) F vt fun r4 I5 F5=>(It r4 (Q (.returned (vb a)) I5 F5) (Q (.returned (vb 0)) I5 F5))) (Q (.returned (vb 0)) I F)))))
theorem jV.vc{f g i j k:Int}{l:Bs}{c:OA}{d e:Nat}{m a:Int}{I:cc}{F:b8}{Q:cf}  (h:jV.V (fun b=>(b,Obj.cells #[.int .u8 f,.int .u8 g,.int .u8 i,.int .i64 j,.int .u8 k,.string l,.slice c d e,.int .i64 m] 28 (0,0))) (.int .u8) .bool f g i j k l c d e m a I F Q):cg P 134 #[.agg #[.int .u8 f,.int .u8 g,.int .u8 i,.int .i64 j,.int .u8 k,.string l,.slice c d e,.int .i64 m],.int .u8 a] I F Q :=
 tw (A:=(an [1002,1005,3002,4002,4005,5002,5005] [151] iX)) [151] func134 h
def jW.V(vb:Int→Value)(vt:Bool→Value)(o a b:Int)(I:cc)(F:b8)(Q:cf)  : Prop:=(It (o==8) (It (a==1) (cF P 151 #[vb b] I (·) F vt fun r I1 F1=>Q (.returned (.tuple #[vb b,vt r])) I1 F1) (It (b==1) (cF P 151 #[vb a] I (·) F vt fun r1 I2 F2=>Q (.returned (.tuple #[vb a,vt r1])) I2 F2) (It (a != b) (It ((IntKind.wrap .u8 (a+b))==5) (cF P 151 #[vb a] I (·) F vt fun r2 I3 F3=>(It r2 (cF P 151 #[vb b] I3 (·) F3 vt fun r3 I4 F4=>Q (.returned (.tuple #[vb 1,vt r3])) I4 F4) (Q (.returned (.tuple #[vb 1,vt false])) I3 F3))) (Q (.returned (.tuple #[vb 1,vt false])) I F)) (Q (.returned (.tuple #[vb 1,vt false])) I F)))) (It (o==9) (It (b==1) (cF P 151 #[vb a] I (·) F vt fun r4 I5 F5=>Q (.returned (.tuple #[vb a,vt r4])) I5 F5) (It (a==b) (cF P 151 #[vb a] I (·) F vt fun r5 I6 F6=>Q (.returned (.tuple #[vb 1,vt r5])) I6 F6) (Q (.returned (.tuple #[vb 1,vt false])) I F))) (It (o==11) (Q (.returned (.tuple #[vb 5,vt (a==b)])) I F) (It (o==12) (Q (.returned (.tuple #[vb 5,vt (a==b)])) I F) (It (o==17) (It (a==b) (Q (.returned (.tuple #[vb a,vt (a==5)])) I F) (Q (.returned (.tuple #[vb a,vt false])) I F)) (It (o==18) (It (a==b) (Q (.returned (.tuple #[vb a,vt (a==5)])) I F) (Q (.returned (.tuple #[vb a,vt false])) I F)) (It (o==13) (It (a==b) (cF P 151 #[vb a] I (·) F vt fun r6 I7 F7=>Q (.returned (.tuple #[vb 5,vt r6])) I7 F7) (Q (.returned (.tuple #[vb 5,vt false])) I F)) (It (o==14) (It (a==b) (cF P 151 #[vb a] I (·) F vt fun r7 I8 F8=>Q (.returned (.tuple #[vb 5,vt r7])) I8 F8) (Q (.returned (.tuple #[vb 5,vt false])) I F)) (It (o==15) (It (a==b) (cF P 151 #[vb a] I (·) F vt fun r8 I9 F9=>Q (.returned (.tuple #[vb 5,vt r8])) I9 F9) (Q (.returned (.tuple #[vb 5,vt false])) I F)) (It (o==16) (It (a==b) (cF P 151 #[vb a] I (·) F vt fun r9 I10 F10=>Q (.returned (.tuple #[vb 5,vt r9])) I10 F10) (Q (.returned (.tuple #[vb 5,vt false])) I F)) (It (a==b) (cF P 151 #[vb a] I (·) F vt fun c I11 F11=>Q (.returned (.tuple #[vb a,vt c])) I11 F11) (Q (.returned (.tuple #[vb a,vt false])) I F))))))))))))
theorem jW.vc{o a b:Int}{I:cc}{F:b8}{Q:cf}  (h:jW.V (.int .u8) .bool o a b I F Q):cg P 135 #[.int .u8 o,.int .u8 a,.int .u8 b] I F Q :=
 tw (A:=(an [2000,3001,5001,7002,7007,7011,8000,9001,11002,12000,13000,15000,16000,17003,18000,19000,20000,21000,22002,23003] [151] iX)) [151] func135 h
def gU.V(ka:Nat→Bs→Int→Int→Int→Int→Int→Int→Bs→OA→Nat→Nat→Int→Int→Nat×Obj)(kb:Nat→(Option Nat)→(Option Nat)→(Option Nat)→Nat×Obj)(c:Nat→Nat×Obj)(vb vi:Int→Value)(vs:Bs→Value)(vl:OA→Nat→Nat→Value)(ai:Bs)(w:OA)(t aa:Nat)(ab:OA)(ac ae:Nat)(af:OA)(ag ah:Nat)(I:cc)(F:b8)(Q:cf)(Inv8:OA→OA→Int→Nat→cc→b8→cc→b8→Prop):Prop:=∀a:Nat,cE P (Instr.makeMap 161 none) I ((c a)::F) fun v I1 G1=>∃(r:Option Nat),v=.map r∧∃F1:b8,List.Perm G1 ((c a)::F1)∧cE P (Instr.makeMap 162 none) I1 ((c a)::F1) fun v1 I2 G2=>∃(r1:Option Nat),v1=.map r1∧∃F2:b8,List.Perm G2 ((c a)::F2)∧cE P (Instr.makeMap 162 none) I2 ((c a)::F2) fun v2 I3 G3=>∃(r2:Option Nat),v2=.map r2∧∃F3:b8,List.Perm G3 ((c a)::F3)∧∀b:Nat,(∃m:Nat,Inv8 (some ⟨a,0,none⟩) (some (⟨b,0,none⟩:Addr)) 0 m I3 ((kb b r r1 r2)::F3) I3 ((kb b r r1 r2)::F3))∧∀(x:Int) (m1:Nat) (I4:cc) (F4:b8),cc.le I3 I4→Inv8 (some ⟨a,0,none⟩) (some (⟨b,0,none⟩:Addr)) x m1 I3 ((kb b r r1 r2)::F3) I4 F4→(Dt (x<(t:Int)) ((0≤x∧x<(t:Int))∧∃ad:Addr,w=some ad∧∃(h:Bs) (i j k l n o:Int) (p:Bs) (d:OA) (e f:Nat) (q g:Int),Rd I4 ((c a)::F4) (ad.add (Int.toNat x*11)) [vs h,vb i,vb j,vb k,vb l,vi n,vb o,vs p,vl d e f,vi q,vi g]∧∀s:Nat,∃y:Addr,some (⟨b,0,none⟩:Addr)=some y∧∃(m2:Option Nat),Rd I4 ((c a)::(ka s h i j k l n o p d e f q g)::F4) (y.add 0) [.map m2]∧cE P (Instr.lookup 161 (.map m2) (vs h) true) I4 ((c a)::(ka s h i j k l n o p d e f q g)::F4) fun v3 I5 G4=>∃(r0:Int) (u:Bool),v3=.tuple #[vb r0,.bool u]∧∃F5:b8,List.Perm G4 ((c a)::(ka s h i j k l n o p d e f q g)::F5)∧(It (!u) (∃z:Addr,some (⟨b,0,none⟩:Addr)=some z∧∃(m3:Option Nat),Rd I5 ((c a)::(ka s h i j k l n o p d e f q g)::F5) (z.add 0) [.map m3]∧lF P (Instr.mapUpdate 161 (.map m3) (vs h) (vb i)) I5 ((c a)::(ka s h i j k l n o p d e f q g)::F5) fun I6 G5=>∃F6:b8,List.Perm G5 ((c a)::(ka s h i j k l n o p d e f q g)::F6)∧(∃m4:Nat,m4<m1∧Inv8 (some ⟨a,0,none⟩) (some (⟨b,0,none⟩:Addr)) (IntKind.wrap .i64 (x+1)) m4 I3 ((kb b r r1 r2)::F3) I6 F6)) (∃m5:Nat,m5<m1∧Inv8 (some ⟨a,0,none⟩) (some (⟨b,0,none⟩:Addr)) (IntKind.wrap .i64 (x+1)) m5 I3 ((kb b r r1 r2)::F3) I5 F5))) (Q (.returned (.pointer (some (⟨b,0,none⟩:Addr)))) I4 F4))
theorem gU.vc{w:Bs}{n:OA}{o p:Nat}{q:OA}{r s:Nat}{t:OA}{u v:Nat}{I:cc}{F:b8}{Q:cf}(Inv8:OA→OA→Int→Nat→cc→b8→cc→b8→Prop)(h:gU.V (fun W a b c d e f g h i j k l m=>(W,Obj.cells #[.string a,.int .u8 b,.int .u8 c,.int .u8 d,.int .u8 e,.int .i64 f,.int .u8 g,.string h,.slice i j k,.int .i64 l,.int .i64 m] 77 (0,0))) (fun W a b c=>(W,Obj.cells #[.map a,.map b,.map c] 164 (0,0))) (fun b=>(b,Obj.cells #[.string w,.slice n o p,.slice q r s,.slice t u v] 39 (0,0))) (.int .u8) (.int .i64) .string .slice w n o p q r s t u v I F Q Inv8):cg P 66 #[.agg #[.string w,.slice n o p,.slice q r s,.slice t u v]] I F Q :=
 tw (A:=(cQ [3000,6001] [] [] iX [(8,⟨[(16,(.int .i64))],[],fun fs I0 F0 vs m I F=>match fs,vs with | [.pointer y0,.pointer y1],[.int _ y2]=>Inv8 y0 y1 y2 m I0 F0 I F | _,_=>False,[1,3],[]⟩)] [] [1004] [] [] [(5,[0,1,2,4,3,5,6,7,8,9,10,11]),(7,[0,1,2,4,6,3,5,7,8])] [])) [] func66 h
def fw.V(vp:OA→Value)(c:Int)(et:TypeId)(ev:Value)(I:cc)(F:b8)(Q:cf)  : Prop:=∀a:Nat,cg P 44 (#[Value.iface et ev,Value.iface 91 (vp (some (⟨a,0,none⟩:Addr)))]) I (((a,Obj.cells #[vp none] 89 (0,0))::F)) fun e1 I1 G1=>∃(r:Bool),e1=.returned (.bool r)∧∃F1:b8,List.Perm G1 F1∧(It r (∃(m:OA),Rd I1 F1 (⟨a,0,none⟩:Addr) [vp m]∧∃ad:Addr,m=some ad∧∃(m1:Int),Rd I1 F1 (ad.add 1) [.int .i64 m1]∧∀b:Nat,Q (.returned (Value.iface 89 (vp (some (⟨b,0,none⟩:Addr))))) I1 (((b,Obj.cells #[.string (⟨#[67,104,101,99,107]⟩:Bs),.int .i64 m1,Value.iface et ev] 93 (0,0))::F1))) (∀b1:Nat,Q (.returned (Value.iface 89 (vp (some (⟨b1,0,none⟩:Addr))))) I1 (((b1,Obj.cells #[.string (⟨#[67,104,101,99,107]⟩:Bs),.int .i64 c,Value.iface et ev] 93 (0,0))::F1))))
theorem fw.vc{a:Int}{et:TypeId}{ev:Value}{I:cc}{F:b8}{Q:cf}  (h:fw.V .pointer a et ev I F Q):cg P 65 #[.int .i64 a,Value.iface et ev] I F Q :=
 tw (A:=(cQ [2002] [] [44] iX [] [] [1000,4003] [] [] [] [])) [44] func65 h
def lh.V(b:Nat→Nat×Obj)(vb vi:Int→Value)(vs:Bs→Value)(vl:OA→Nat→Nat→Value)(aj:Bs)(o:OA)(p s:Nat)(t:OA)(u v:Nat)(f:OA)(d w:Nat)(I:cc)(F:b8)(Q:cf)(Inv28:OA→Value→Int→Nat→cc→b8→cc→b8→Prop)(Inv42:OA→Int→Value→Int→Nat→cc→b8→cc→b8→Prop):Prop:=∀c:Nat,cF P 64 #[.agg #[vs aj,vl o p s,vl t u v,vl f d w]] I ((b c)::·) F vi fun r I1 F1=>(It (r != 0) (de P 65 (#[vi 0,Value.iface 47 (vi r)]) I1 ((b c)::·) F1 fun e2 I2 G2=>∃(r1:Value),e2=.returned r1∧G2 fun F2=>Q (.returned r1) I2 F2) (cF P 66 #[.agg #[vs aj,vl o p s,vl t u v,vl f d w]] I1 ((b c)::·) F1 .pointer fun r2 I3 F3=>de P 67 #[.pointer r2,.agg #[vs aj,vl o p s,vl t u v,vl f d w]] I3 ((b c)::·) F3 fun e4 I4 G4=>∃(r3:Value),e4=.returned r3∧G4 fun F4=>∃q:Bool,cP P .neq 44 (.tmp 23) (.const (Value.nilIface)) r3 Value.nilIface q∧(It q (Q (.returned r3) I4 F4) ((∃m:Nat,Inv28 r2 Value.nilIface 0 m I4 F4 I4 F4)∧∀(x:Value) (x1:Int) (m1:Nat) (I5:cc) (F5:b8),cc.le I4 I5→Inv28 r2 x x1 m1 I4 F4 I5 F5→(Dt (x1<(d:Int)) ((0≤x1∧x1<(d:Int))∧∃ad:Addr,f=some ad∧∃(aa:Bs) (e:OA) (a g:Nat) (ab:Int),Rd I5 ((b c)::F5) (ad.add (Int.toNat x1*3)) [vs aa,vl e a g,vi ab]∧∀ak:Nat,(∃m2:Nat,Inv42 r2 x1 x 0 m2 I5 F5 I5 F5)∧∀(x2:Value) (x3:Int) (m3:Nat) (I6:cc) (F6:b8),cc.le I5 I6→Inv42 r2 x1 x2 x3 m3 I5 F5 I6 F6→(Dt (x3<(a:Int)) ((0≤x3∧x3<(a:Int))∧∃al:Addr,e=some al∧∃(y ac z ae af:Int) (ag:Bs) (h:OA) (i j:Nat) (ah:Int) (k:OA) (l n:Nat) (ai:Int),Rd I6 ((b c)::(ak,Obj.cells #[vs aa,vl e a g,vi ab] 65 (0,0))::F6) (al.add (Int.toNat x3*10)) [vb y,vb ac,vb z,vi ae,vb af,vs ag,vl h i j,vi ah,vl k l n,vi ai]∧∀am:Nat,de P 68 #[.pointer r2,.agg #[vb y,vb ac,vb z,vi ae,vb af,vs ag,vl h i j,vi ah,vl k l n,vi ai]] I6 ((b c)::(ak,Obj.cells #[vs aa,vl e a g,vi ab] 65 (0,0))::(am,Obj.cells #[vb y,vb ac,vb z,vi ae,vb af,vs ag,vl h i j,vi ah,vl k l n,vi ai] 84 (0,0))::·) F6 fun e5 I7 G5=>∃(r4:Value),e5=.returned r4∧G5 fun F7=>∃q1:Bool,cP P .neq 44 (.tmp 43) (.const (Value.nilIface)) r4 Value.nilIface q1∧(It q1 (Q (.returned r4) I7 F7) (∃m4:Nat,m4<m3∧Inv42 r2 x1 x2 (IntKind.wrap .i64 (x3+1)) m4 I5 F5 I7 F7))) (∃m5:Nat,m5<m1∧Inv28 r2 x2 (IntKind.wrap .i64 (x1+1)) m5 I4 F4 I6 F6))) (Q (.returned (Value.nilIface)) I5 F5))))))
theorem lh.vc{l:Bs}{a:OA}{c d:Nat}{e:OA}{f g:Nat}{i:OA}{j k:Nat}{I:cc}{F:b8}{Q:cf}(Inv28:OA→Value→Int→Nat→cc→b8→cc→b8→Prop)(Inv42:OA→Int→Value→Int→Nat→cc→b8→cc→b8→Prop)(h:lh.V (fun b=>(b,Obj.cells #[.string l,.slice a c d,.slice e f g,.slice i j k] 39 (0,0))) (.int .u8) (.int .i64) .string .slice l a c d e f g i j k I F Q Inv28 Inv42):cg P 39 #[.agg #[.string l,.slice a c d,.slice e f g,.slice i j k]] I F Q :=
 tw (A:=(cQ [2001,6001,9000,12000,15001] [] [64,65,66,67,68] iX [(28,⟨[(2,.any),(29,(.int .i64))],[],fun fs I0 F0 vs m I F=>match fs,vs with | [.pointer y0],[y1,.int _ y2]=>Inv28 y0 y1 y2 m I0 F0 I F | _,_=>False,[4],[]⟩),(42,⟨[(2,.any),(36,(.int .i64))],[],fun fs I0 F0 vs m I F=>match fs,vs with | [.pointer y0,.int _ y1],[y2,.int _ y3]=>Inv42 y0 y1 y2 y3 m I0 F0 I F | _,_=>False,[4,29],[]⟩)] [] [] [] [] [] [])) [64,65,66,67,68] func39 h
def gj.V(d:Nat→Nat×Obj)(vb:Int→Value)(c:Addr)(a n i o b:Int)(j:Bs)(f:OA)(g h:Nat)(p:Int)(I:cc)(F:b8)(Q:cf)  : Prop:=∀e:Nat,(It (a==1) (Q (.returned (.tuple #[vb i,Value.nilIface])) I F) (It (a==4) (Q (.returned (.tuple #[vb 5,Value.nilIface])) I F) (It (a==2) (∃ad:Addr,some c=some ad∧∃(m:Option Nat),Rd I ((d e)::F) (ad.add 0) [.map m]∧cE P (Instr.lookup 161 (.map m) (.string j) true) I ((d e)::F) fun v I1 G1=>∃(r0:Int) (r1:Bool),v=.tuple #[vb r0,.bool r1]∧∃F1:b8,List.Perm G1 ((d e)::F1)∧(It r1 (Q (.returned (.tuple #[vb r0,Value.nilIface])) I1 F1) (de P 136 #[.agg #[vb a,vb n,vb i,.int .i64 o,vb b,.string j,.slice f g h,.int .i64 p],.int .i64 151] I1 ((d e)::·) F1 fun e1 I2 G2=>∃(k:Int) (l:Value),e1=.returned (.tuple #[vb k,l])∧G2 fun F2=>Q (.returned (.tuple #[vb k,l])) I2 F2))) (It (b==5) (Q (.returned (.tuple #[vb 4,Value.nilIface])) I F) (It (b==4) (Q (.returned (.tuple #[vb 2,Value.nilIface])) I F) (It (b==6) (Q (.returned (.tuple #[vb 2,Value.nilIface])) I F) (Q (.returned (.tuple #[vb 3,Value.nilIface])) I F)))))))
theorem gj.vc{c:Addr}{f g i j k:Int}{l:Bs}{a:OA}{d e:Nat}{m:Int}{I:cc}{F:b8}{Q:cf}  (h:gj.V (fun b=>(b,Obj.cells #[.int .u8 f,.int .u8 g,.int .u8 i,.int .i64 j,.int .u8 k,.string l,.slice a d e,.int .i64 m] 28 (0,0))) (.int .u8) c f g i j k l a d e m I F Q):cg P 133 #[.pointer (some c),.agg #[.int .u8 f,.int .u8 g,.int .u8 i,.int .i64 j,.int .u8 k,.string l,.slice a d e,.int .i64 m]] I F Q :=
 tw (A:=(cQ [2000,4000,6000,8000,12000,14000,15000] [] [136] iX [] [] [] [] [] [(7,[0,1,2,4,3,5,6,7,8,9,10,11])] [])) [136] func133 h
def iE.V(d u:Nat→Nat×Obj)(nV:Int→Int→Int→Int→Int→Bs→OA→Nat→Nat→Int→Value)(nO:Int→Int→Int→Int→Int→Bs→OA→Nat→Nat→Int→Obj)(vb vi:Int→Value)(c:Addr)(l k n o p:Int)(s:Bs)(f:OA)(b g:Nat)(t:Int)(I:cc)(F:b8)(Q:cf)(Inv8:OA→OA→Int→Value→Int→Nat→cc→b8→cc→b8→Prop):Prop:=∀a:Nat,∀e:Nat,(∃m:Nat,Inv8 (some ⟨a,0,none⟩) (some (⟨e,0,none⟩:Addr)) 0 Value.nilIface 0 m I ((u e)::F) I ((u e)::F))∧∀(x:Int) (x1:Value) (x2:Int) (m1:Nat) (I1:cc) (F1:b8),cc.le I I1→Inv8 (some ⟨a,0,none⟩) (some (⟨e,0,none⟩:Addr)) x x1 x2 m1 I ((u e)::F) I1 F1→(Dt (x2<(b:Int)) ((0≤x2∧x2<(b:Int))∧∃ad:Addr,f=some ad∧∃(v w y z aa:Int) (ab:Bs) (h:OA) (i j:Nat) (ac:Int),Rd I1 ((d a)::F1) (ad.add (Int.toNat x2*8)) [vb v,vb w,vb y,vi z,vb aa,.string ab,.slice h i j,vi ac]∧∀aq:Nat,de P 107 (#[.pointer (some c),nV v w y z aa ab h i j ac]) I1 ((d a)::(aq,nO v w y z aa ab h i j ac)::·) F1 fun e1 I2 G1=>∃(r0:Int) (r1:Value),e1=.returned (.tuple #[vb r0,r1])∧G1 fun F2=>∃q:Bool,cP P .neq 44 (.tmp 27) (.const (Value.nilIface)) r1 Value.nilIface q∧(It q (Q (.returned (.tuple #[vb 0,r1])) I2 F2) ((0≤x2∧x2<(3:Int))∧∃(cs:List Value) (el:Nat) (F3:b8),List.Perm F2 ((((⟨e,0,none⟩:Addr).add (Int.toNat x2*1)).block,Obj.cells cs.toArray el (0,0))::F3)∧((⟨e,0,none⟩:Addr).add (Int.toNat x2*1)).spot=none∧((⟨e,0,none⟩:Addr).add (Int.toNat x2*1)).off+1≤cs.length∧(∃m2:Nat,m2<m1∧Inv8 (some ⟨a,0,none⟩) (some (⟨e,0,none⟩:Addr)) x x1 (IntKind.wrap .i64 (x2+1)) m2 I ((u e)::F) I2 ((((⟨e,0,none⟩:Addr).add (Int.toNat x2*1)).block,Obj.cells (cp ((⟨e,0,none⟩:Addr).add (Int.toNat x2*1)).off [vb r0] cs).toArray el (0,0))::F3))))) (It ((b:Int)==0) (de P 133 (#[.pointer (some c),nV l k n o p s f b g t]) I1 ((d a)::·) F1 fun e2 I3 G2=>∃(af:Int) (ag:Value),e2=.returned (.tuple #[vb af,ag])∧G2 fun F4=>Q (.returned (.tuple #[vb af,ag])) I3 F4) (It ((b:Int)==1) ((0≤(0:Int)∧(0:Int)<(3:Int))∧∃(m3:Int),Rd I1 ((d a)::F1) ((⟨e,0,none⟩:Addr).add (Int.toNat 0*1)) [vb m3]∧cF P 134 #[nV l k n o p s f b g t,vb m3] I1 ((d a)::·) F1 vb fun r I4 F5=>(It (!(r != 0)) (de P 136 #[nV l k n o p s f b g t,vi 152] I4 ((d a)::·) F5 fun e4 I5 G4=>∃(ah:Int) (ai:Value),e4=.returned (.tuple #[vb ah,ai])∧G4 fun F6=>Q (.returned (.tuple #[vb ah,ai])) I5 F6) (Q (.returned (.tuple #[vb r,Value.nilIface])) I4 F5))) (It ((b:Int)==2) ((0≤(0:Int)∧(0:Int)<(3:Int))∧∃(m4:Int),Rd I1 ((d a)::F1) ((⟨e,0,none⟩:Addr).add (Int.toNat 0*1)) [vb m4]∧((0≤(1:Int)∧(1:Int)<(3:Int))∧∃(m5:Int),Rd I1 ((d a)::F1) ((⟨e,0,none⟩:Addr).add (Int.toNat 1*1)) [vb m5]∧de P 135 #[vb k,vb m4,vb m5] I1 ((d a)::·) F1 fun e5 I6 G5=>∃(aj:Int) (ae:Bool),e5=.returned (.tuple #[vb aj,.bool ae])∧G5 fun F7=>(It (!ae) (de P 136 #[nV l k n o p s f b g t,vi 152] I6 ((d a)::·) F7 fun e6 I7 G6=>∃(ak:Int) (al:Value),e6=.returned (.tuple #[vb ak,al])∧G6 fun F8=>Q (.returned (.tuple #[vb ak,al])) I7 F8) (Q (.returned (.tuple #[vb aj,Value.nilIface])) I6 F7)))) ((0≤(1:Int)∧(1:Int)<(3:Int))∧∃(m6:Int),Rd I1 ((d a)::F1) ((⟨e,0,none⟩:Addr).add (Int.toNat 1*1)) [vb m6]∧((0≤(0:Int)∧(0:Int)<(3:Int))∧∃(m7:Int),Rd I1 ((d a)::F1) ((⟨e,0,none⟩:Addr).add (Int.toNat 0*1)) [vb m7]∧(It (m7==5) ((0≤(1:Int)∧(1:Int)<(3:Int))∧∃(m8:Int),Rd I1 ((d a)::F1) ((⟨e,0,none⟩:Addr).add (Int.toNat 1*1)) [vb m8]∧((0≤(2:Int)∧(2:Int)<(3:Int))∧∃(m9:Int),Rd I1 ((d a)::F1) ((⟨e,0,none⟩:Addr).add (Int.toNat 2*1)) [vb m9]∧(It (!(m8==m9)) (de P 136 #[nV l k n o p s f b g t,vi 152] I1 ((d a)::·) F1 fun e7 I8 G7=>∃(am:Int) (an:Value),e7=.returned (.tuple #[vb am,an])∧G7 fun F9=>Q (.returned (.tuple #[vb am,an])) I8 F9) (Q (.returned (.tuple #[vb m6,Value.nilIface])) I1 F1)))) (It true (de P 136 #[nV l k n o p s f b g t,vi 152] I1 ((d a)::·) F1 fun e8 I9 G8=>∃(ao:Int) (ap:Value),e8=.returned (.tuple #[vb ao,ap])∧G8 fun F10=>Q (.returned (.tuple #[vb ao,ap])) I9 F10) (Q (.returned (.tuple #[vb m6,Value.nilIface])) I1 F1)))))))))
theorem iE.vc{c:Addr}{i j p r u:Int}{v:Bs}{d:OA}{e g:Nat}{w:Int}{I:cc}{F:b8}{Q:cf}(Inv8:OA→OA→Int→Value→Int→Nat→cc→b8→cc→b8→Prop)(h:iE.V (fun b=>(b,Obj.cells #[.int .u8 i,.int .u8 j,.int .u8 p,.int .i64 r,.int .u8 u,.string v,.slice d e g,.int .i64 w] 28 (0,0))) (fun b=>(b,Obj.cells #[.int .u8 0,.int .u8 0,.int .u8 0] 204 (0,0))) (fun k o t n f s a l c q=>.agg #[.int .u8 k,.int .u8 o,.int .u8 t,.int .i64 n,.int .u8 f,.string s,.slice a l c,.int .i64 q]) (fun k o t n f s a l c q=>.cells #[.int .u8 k,.int .u8 o,.int .u8 t,.int .i64 n,.int .u8 f,.string s,.slice a l c,.int .i64 q] 28 (0,0)) (.int .u8) (.int .i64) c i j p r u v d e g w I F Q Inv8):cg P 107 #[.pointer (some c),.agg #[.int .u8 i,.int .u8 j,.int .u8 p,.int .i64 r,.int .u8 u,.string v,.slice d e g,.int .i64 w]] I F Q :=
 tw (A:=(cQ [3000,6001,13004,14000,16000,19000,21001] [] [107,133,134,135,136] iX [(8,⟨[(4,(.int .u8)),(5,.any),(16,(.int .i64))],[],fun fs I0 F0 vs m I F=>match fs,vs with | [.pointer y0,.pointer y1],[.int _ y2,y3,.int _ y4]=>Inv8 y0 y1 y2 y3 y4 m I0 F0 I F | _,_=>False,[3,6],[]⟩)] [] [1000] [] [] [] [])) [107,133,134,135,136] func107 h
def gp.V(a:Nat→Nat×Obj)(vb vi:Int→Value)(c:Addr)(i j k l m:Int)(n:Bs)(e:OA)(f g:Nat)(h d:Int)(I:cc)(F:b8)(Q:cf)  : Prop:=∀b:Nat,de P 107 (#[.pointer (some c),.agg #[vb i,vb j,vb k,vi l,vb m,.string n,.slice e f g,vi h]]) I ((a b)::·) F fun e1 I1 G1=>∃(r0:Int) (r1:Value),e1=.returned (.tuple #[vb r0,r1])∧G1 fun F1=>∃q:Bool,cP P .neq 44 (.tmp 16) (.const (Value.nilIface)) r1 Value.nilIface q∧(It q (de P 65 #[vi 0,r1] I1 ((a b)::·) F1 fun e2 I2 G2=>∃(r:Value),e2=.returned r∧G2 fun F2=>Q (.returned r) I2 F2) (It (r0 != d) (de P 65 (#[vi h,Value.iface 47 (vi 152)]) I1 ((a b)::·) F1 fun e3 I3 G3=>∃(r2:Value),e3=.returned r2∧G3 fun F3=>Q (.returned r2) I3 F3) (Q (.returned (Value.nilIface)) I1 F1)))
theorem gp.vc{c:Addr}{f g i j k:Int}{l:Bs}{a:OA}{d e:Nat}{m n:Int}{I:cc}{F:b8}{Q:cf}  (h:gp.V (fun b=>(b,Obj.cells #[.int .u8 f,.int .u8 g,.int .u8 i,.int .i64 j,.int .u8 k,.string l,.slice a d e,.int .i64 m] 28 (0,0))) (.int .u8) (.int .i64) c f g i j k l a d e m n I F Q):cg P 108 #[.pointer (some c),.agg #[.int .u8 f,.int .u8 g,.int .u8 i,.int .i64 j,.int .u8 k,.string l,.slice a d e,.int .i64 m],.int .u8 n] I F Q :=
 tw (A:=(an [2001,4002] [65,107] iX)) [65,107] func108 h
def eL.V(ka:Nat→Bs→Int→Int→Int→Int→Int→Int→Bs→OA→Nat→Nat→Int→Int→Nat×Obj)(kb:Nat→Bs→OA→Nat→Nat→Int→Nat×Obj)(kc:Nat→Bs→Int→Nat×Obj)(a:Nat→Nat×Obj)(vb vi:Int→Value)(vs:Bs→Value)(vl:OA→Nat→Nat→Value)(wr:Int→Int)(c:Addr)(aB:Bs)(aj:OA)(af ay:Nat)(ak:OA)(ag az:Nat)(al:OA)(ah aA:Nat)(I:cc)(F:b8)(Q:cf)(Inv8:Option Nat→Value→Int→Nat→cc→b8→cc→b8→Prop)(Inv43:Value→Int→Nat→cc→b8→cc→b8→Prop)(Inv68:Value→Int→Nat→cc→b8→cc→b8→Prop):Prop:=∀b:Nat,cE P (Instr.makeMap 162 none) I ((a b)::F) fun v I1 G1=>∃(r:Option Nat),v=.map r∧∃F1:b8,List.Perm G1 ((a b)::F1)∧(∃m:Nat,Inv8 r Value.nilIface 0 m I1 F1 I1 F1)∧∀(x:Value) (x1:Int) (m1:Nat) (I2:cc) (F2:b8),cc.le I1 I2→Inv8 r x x1 m1 I1 F1 I2 F2→(Dt (x1<(af:Int)) ((0≤x1∧x1<(af:Int))∧∃ad:Addr,aj=some ad∧∃(p:Bs) (q s t u w y:Int) (z:Bs) (d:OA) (e f:Nat) (aa g:Int),Rd I2 ((a b)::F2) (ad.add (Int.toNat x1*11)) [vs p,vb q,vb s,vb t,vb u,vi w,vb y,vs z,vl d e f,vi aa,vi g]∧∀ac:Nat,cE P (Instr.lookup 162 (.map r) (vs p) false) I2 ((a b)::(ka ac p q s t u w y z d e f aa g)::F2) fun v1 I3 G2=>∃(r1:Int),v1=vi r1∧∃F3:b8,List.Perm G2 ((a b)::(ka ac p q s t u w y z d e f aa g)::F3)∧lF P (Instr.mapUpdate 162 (.map r) (vs p) (vi (wr (r1+1)))) I3 ((a b)::(ka ac p q s t u w y z d e f aa g)::F3) fun I4 G3=>∃F4:b8,List.Perm G3 ((a b)::(ka ac p q s t u w y z d e f aa g)::F4)∧cE P (Instr.lookup 162 (.map r) (vs p) false) I4 ((a b)::(ka ac p q s t u w y z d e f aa g)::F4) fun v2 I5 G4=>∃(r2:Int),v2=vi r2∧∃F5:b8,List.Perm G4 ((a b)::(ka ac p q s t u w y z d e f aa g)::F5)∧(Dt (r2>1) (de P 65 (#[vi g,Value.iface 47 (vi 150)]) I5 ((a b)::(ka ac p q s t u w y z d e f aa g)::·) F5 fun e1 I6 G5=>∃(r3:Value),e1=.returned r3∧G5 fun F6=>Q (.returned r3) I6 F6) (de P 107 (#[.pointer (some c),.agg #[vb s,vb t,vb u,vi w,vb y,vs z,vl d e f,vi aa]]) I5 ((a b)::(ka ac p q s t u w y z d e f aa g)::·) F5 fun e2 I7 G6=>∃(r0:Int) (ax:Value),e2=.returned (.tuple #[vb r0,ax])∧G6 fun F7=>(It (r0 != q) (de P 65 (#[vi g,Value.iface 47 (vi 152)]) I7 ((a b)::(ka ac p q s t u w y z d e f aa g)::·) F7 fun e3 I8 G7=>∃(r4:Value),e3=.returned r4∧G7 fun F8=>Q (.returned r4) I8 F8) (∃m2:Nat,m2<m1∧Inv8 r x (wr (x1+1)) m2 I1 F1 I7 F7))))) ((∃m3:Nat,Inv43 x 0 m3 I2 F2 I2 F2)∧∀(x2:Value) (x3:Int) (m4:Nat) (I9:cc) (F9:b8),cc.le I2 I9→Inv43 x2 x3 m4 I2 F2 I9 F9→(Dt (x3<(ag:Int)) ((0≤x3∧x3<(ag:Int))∧∃ao:Addr,ak=some ao∧∃(h:Bs) (n:Int),Rd I9 ((a b)::F9) (ao.add (Int.toNat x3*2)) [vs h,vi n]∧∀ae:Nat,∃ap:Addr,some c=some ap∧∃(m5:Option Nat),Rd I9 ((a b)::(kc ae h n)::F9) (ap.add 1) [.map m5]∧cE P (Instr.lookup 162 (.map m5) (vs h) false) I9 ((a b)::(kc ae h n)::F9) fun v3 I10 G8=>∃(r5:Int),v3=vi r5∧∃F10:b8,List.Perm G8 ((a b)::(kc ae h n)::F10)∧lF P (Instr.mapUpdate 162 (.map m5) (vs h) (vi (wr (r5+1)))) I10 ((a b)::(kc ae h n)::F10) fun I11 G9=>∃F11:b8,List.Perm G9 ((a b)::(kc ae h n)::F11)∧∃aq:Addr,some c=some aq∧∃(m6:Option Nat),Rd I11 ((a b)::(kc ae h n)::F11) (aq.add 1) [.map m6]∧cE P (Instr.lookup 162 (.map m6) (vs h) false) I11 ((a b)::(kc ae h n)::F11) fun v4 I12 G10=>∃(r6:Int),v4=vi r6∧∃F12:b8,List.Perm G10 ((a b)::(kc ae h n)::F12)∧(Dt (r6>1) (de P 65 (#[vi n,Value.iface 47 (vi 150)]) I12 ((a b)::(kc ae h n)::·) F12 fun e4 I13 G11=>∃(r7:Value),e4=.returned r7∧G11 fun F13=>Q (.returned r7) I13 F13) (∃m7:Nat,m7<m4∧Inv43 x2 (wr (x3+1)) m7 I2 F2 I12 F12))) ((∃m8:Nat,Inv68 x2 0 m8 I9 F9 I9 F9)∧∀(x4:Value) (x5:Int) (m9:Nat) (I14:cc) (F14:b8),cc.le I9 I14→Inv68 x4 x5 m9 I9 F9 I14 F14→(Dt (x5<(ah:Int)) ((0≤x5∧x5<(ah:Int))∧∃ar:Addr,al=some ar∧∃(i:Bs) (j:OA) (k l:Nat) (o:Int),Rd I14 ((a b)::F14) (ar.add (Int.toNat x5*3)) [vs i,vl j k l,vi o]∧∀ab:Nat,∃au:Addr,some c=some au∧∃(ai:Option Nat),Rd I14 ((a b)::(kb ab i j k l o)::F14) (au.add 2) [.map ai]∧cE P (Instr.lookup 162 (.map ai) (vs i) false) I14 ((a b)::(kb ab i j k l o)::F14) fun v5 I15 G12=>∃(r8:Int),v5=vi r8∧∃F15:b8,List.Perm G12 ((a b)::(kb ab i j k l o)::F15)∧lF P (Instr.mapUpdate 162 (.map ai) (vs i) (vi (wr (r8+1)))) I15 ((a b)::(kb ab i j k l o)::F15) fun I16 G13=>∃F16:b8,List.Perm G13 ((a b)::(kb ab i j k l o)::F16)∧∃av:Addr,some c=some av∧∃(am:Option Nat),Rd I16 ((a b)::(kb ab i j k l o)::F16) (av.add 2) [.map am]∧cE P (Instr.lookup 162 (.map am) (vs i) false) I16 ((a b)::(kb ab i j k l o)::F16) fun v6 I17 G14=>∃(r9:Int),v6=vi r9∧∃F17:b8,List.Perm G14 ((a b)::(kb ab i j k l o)::F17)∧(Dt (r9>1) (de P 65 (#[vi o,Value.iface 47 (vi 150)]) I17 ((a b)::(kb ab i j k l o)::·) F17 fun e5 I18 G15=>∃(an:Value),e5=.returned an∧G15 fun F18=>Q (.returned an) I18 F18) (∃aw:Nat,aw<m9∧Inv68 x4 (wr (x5+1)) aw I9 F9 I17 F17))) (Q (.returned (Value.nilIface)) I14 F14))))))
theorem eL.vc{c:Addr}{w:Bs}{n:OA}{o p:Nat}{q:OA}{r s:Nat}{t:OA}{u v:Nat}{I:cc}{F:b8}{Q:cf}(Inv8:Option Nat→Value→Int→Nat→cc→b8→cc→b8→Prop)(Inv43:Value→Int→Nat→cc→b8→cc→b8→Prop)(Inv68:Value→Int→Nat→cc→b8→cc→b8→Prop)(h:eL.V (fun W a b c d e f g h i j k l m=>(W,Obj.cells #[.string a,.int .u8 b,.int .u8 c,.int .u8 d,.int .u8 e,.int .i64 f,.int .u8 g,.string h,.slice i j k,.int .i64 l,.int .i64 m] 77 (0,0))) (fun W a b c d e=>(W,Obj.cells #[.string a,.slice b c d,.int .i64 e] 65 (0,0))) (fun W a b=>(W,Obj.cells #[.string a,.int .i64 b] 79 (0,0))) (fun b=>(b,Obj.cells #[.string w,.slice n o p,.slice q r s,.slice t u v] 39 (0,0))) (.int .u8) (.int .i64) .string .slice (IntKind.wrap .i64) c w n o p q r s t u v I F Q Inv8 Inv43 Inv68):cg P 67 #[.pointer (some c),.agg #[.string w,.slice n o p,.slice q r s,.slice t u v]] I F Q :=
 tw (A:=(cQ [3000,6004,9003,13000,16007,20000,23007] [] [65,107] iX [(8,⟨[(4,.any),(18,(.int .i64))],[],fun fs I0 F0 vs m I F=>match fs,vs with | [.map y0],[y1,.int _ y2]=>Inv8 y0 y1 y2 m I0 F0 I F | _,_=>False,[5],[]⟩),(43,⟨[(4,.any),(55,(.int .i64))],[],fun fs I0 F0 vs m I F=>match fs,vs with | [],[y0,.int _ y1]=>Inv43 y0 y1 m I0 F0 I F | _,_=>False,[],[]⟩),(68,⟨[(4,.any),(83,(.int .i64))],[],fun fs I0 F0 vs m I F=>match fs,vs with | [],[y0,.int _ y1]=>Inv68 y0 y1 m I0 F0 I F | _,_=>False,[],[]⟩)] [] [] [] [] [(15,[0,1,2,4,3,5,6,7,8]),(16,[0,1,2,4,3,5,6,7]),(22,[0,1,2,4,3,5,6,7,8]),(23,[0,1,2,4,3,5,6,7])] [])) [65,107] func67 h
def iF.V(a:Nat→Nat×Obj)(vb vi:Int→Value)(vs:Bs→Value)(vl:OA→Nat→Nat→Value)(c:Addr)(h aS:Int)(p:Bs)(a9 ba bb bc bd:Int)(be:Bs)(aO:OA)(aP aQ:Nat)(a0 aj ak al am an:Int)(ao:Bs)(s:OA)(t u:Nat)(ap aq ar au av aw:Int)(ax:Bs)(w:OA)(y z:Nat)(ay a1 a2 a3 a4 a5:Int)(a6:Bs)(az:OA)(aA aB:Nat)(a7 a8:Int)(I:cc)(F:b8)(Q:cf)(Inv9:Int→Bool→OA→Nat→Nat→cc→b8→cc→b8→Prop)(Inv18:OA→Nat→Nat→cc→b8→cc→b8→Prop)(Inv64:OA→Nat→Nat→Value→Int→Nat→cc→b8→cc→b8→Prop):Prop:=∀d:Nat,((It (h==1) (∀(b:Nat) (I1:cc),cc.le I I1→I1 b=some (Obj.cells #[vb a9,vb ba,vb bb,vi bc,vb bd,vs be,vl aO aP aQ,vi a0,vb 6,vb aj,vb ak,vb al,vi am,vb an,vs ao,vl s t u,vi ap,vb 2] 210 (0,0))→cE P (Builtin.append_ #[208,208] 208 #[vl none 0 0,vl (some ⟨b,0,none⟩) 2 2]) I1 ((a d)::F) fun v I2 G1=>∃(aC:OA) (aD aE:Nat),v=vl aC aD aE∧∃F1:b8,List.Perm G1 ((a d)::F1)∧((It (aS != 2) (∀(b1:Nat) (I3:cc),cc.le I2 I3→I3 b1=some (Obj.cells #[vb aq,vb ar,vb au,vi av,vb aw,vs ax,vl w y z,vi ay,vb 3] 210 (0,0))→cE P (Builtin.append_ #[208,208] 208 #[vl aC aD aE,vl (some ⟨b1,0,none⟩) 1 1]) I3 ((a d)::F1) fun v1 I4 G2=>∃(aF:OA) (aG aH:Nat),v1=vl aF aG aH∧∃F2:b8,List.Perm G2 ((a d)::F2)∧Inv18 aF aG aH I2 F1 I4 F2) (Inv18 aC aD aE I2 F1 I2 F1)))∧∀(i:OA) (j k:Nat) (I5:cc) (F3:b8),cc.le I2 I5→Inv18 i j k I2 F1 I5 F3→(It (p.toList==(⟨#[]⟩:Bs).toList) (Inv9 5 true i j k I F I5 F3) (∃ad:Addr,some c=some ad∧∃(m:Option Nat),Rd I5 ((a d)::F3) (ad.add 1) [.map m]∧cE P (Instr.lookup 162 (.map m) (vs p) false) I5 ((a d)::F3) fun v2 I6 G3=>∃(r:Int),v2=vi r∧∃F4:b8,List.Perm G3 ((a d)::F4)∧Inv9 5 (decide (r>0)) i j k I F I6 F4))) (It (h==2) (∀(b2:Nat) (I7:cc),cc.le I I7→I7 b2=some (Obj.cells #[vb aj,vb ak,vb al,vi am,vb an,vs ao,vl s t u,vi ap,vb 2,vb aq,vb ar,vb au,vi av,vb aw,vs ax,vl w y z,vi ay,vb 3] 210 (0,0))→cE P (Builtin.append_ #[208,208] 208 #[vl none 0 0,vl (some ⟨b2,0,none⟩) 2 2]) I7 ((a d)::F) fun v3 I8 G4=>∃(aI:OA) (aJ aK:Nat),v3=vl aI aJ aK∧∃F5:b8,List.Perm G4 ((a d)::F5)∧∃aU:Addr,some c=some aU∧∃(m1:Option Nat),Rd I8 ((a d)::F5) (aU.add 1) [.map m1]∧cE P (Instr.lookup 162 (.map m1) (vs p) false) I8 ((a d)::F5) fun v4 I9 G5=>∃(r1:Int),v4=vi r1∧∃F6:b8,List.Perm G5 ((a d)::F6)∧Inv9 5 (decide (r1>0)) aI aJ aK I F I9 F6) (It (h==3) (∃aV:Addr,some c=some aV∧∃(m2:Option Nat),Rd I ((a d)::F) (aV.add 1) [.map m2]∧cE P (Instr.lookup 162 (.map m2) (vs p) false) I ((a d)::F) fun v5 I10 G6=>∃(r2:Int),v5=vi r2∧∃F7:b8,List.Perm G6 ((a d)::F7)∧Inv9 5 (decide (r2>0)) none 0 0 I F I10 F7) (It (h==4) (∃aW:Addr,some c=some aW∧∃(m3:Option Nat),Rd I ((a d)::F) (aW.add 0) [.map m3]∧cE P (Instr.lookup 161 (.map m3) (vs p) true) I ((a d)::F) fun v6 I11 G7=>∃(r0:Int) (aT:Bool),v6=.tuple #[vb r0,.bool aT]∧∃F8:b8,List.Perm G7 ((a d)::F8)∧∀(b3:Nat) (I12:cc),cc.le I11 I12→I12 b3=some (Obj.cells #[vb a1,vb a2,vb a3,vi a4,vb a5,vs a6,vl az aA aB,vi a7,vb r0] 210 (0,0))→cE P (Builtin.append_ #[208,208] 208 #[vl none 0 0,vl (some ⟨b3,0,none⟩) 1 1]) I12 ((a d)::F8) fun v7 I13 G8=>∃(aL:OA) (aM aN:Nat),v7=vl aL aM aN∧∃F9:b8,List.Perm G8 ((a d)::F9)∧Inv9 r0 aT aL aM aN I F I13 F9) (It (h==5) (∃aX:Addr,some c=some aX∧∃(m4:Option Nat),Rd I ((a d)::F) (aX.add 2) [.map m4]∧cE P (Instr.lookup 162 (.map m4) (vs p) false) I ((a d)::F) fun v8 I14 G9=>∃(r3:Int),v8=vi r3∧∃F10:b8,List.Perm G9 ((a d)::F10)∧Inv9 5 (decide (r3>0)) none 0 0 I F I14 F10) (Inv9 5 true none 0 0 I F I F)))))))∧∀(aR:Int) (is:Bool) (f:OA) (e g:Nat) (I15:cc) (F11:b8),cc.le I I15→Inv9 aR is f e g I F I15 F11→(It (!is) (de P 65 (#[vi a8,Value.iface 47 (vi 151)]) I15 ((a d)::·) F11 fun e1 I16 G10=>∃(r4:Value),e1=.returned r4∧G10 fun F12=>Q (.returned r4) I16 F12) ((∃m5:Nat,Inv64 f e g Value.nilIface 0 m5 I15 F11 I15 F11)∧∀(x:Value) (x1:Int) (m6:Nat) (I17:cc) (F13:b8),cc.le I15 I17→Inv64 f e g x x1 m6 I15 F11 I17 F13→(Dt (x1<(e:Int)) ((0≤x1∧x1<(e:Int))∧∃aY:Addr,f=some aY∧∃(aa ab ac ae af:Int) (ag:Bs) (l:OA) (n o:Nat) (ah ai:Int),Rd I17 ((a d)::F13) (aY.add (Int.toNat x1*9)) [vb aa,vb ab,vb ac,vi ae,vb af,vs ag,vl l n o,vi ah,vb ai]∧∀aZ:Nat,de P 108 (#[.pointer (some c),.agg #[vb aa,vb ab,vb ac,vi ae,vb af,vs ag,vl l n o,vi ah],vb ai]) I17 ((a d)::(aZ,Obj.cells #[vb aa,vb ab,vb ac,vi ae,vb af,vs ag,vl l n o,vi ah,vb ai] 210 (0,0))::·) F13 fun e2 I18 G11=>∃(r5:Value),e2=.returned r5∧G11 fun F14=>∃q:Bool,cP P .neq 44 (.tmp 120) (.const (Value.nilIface)) r5 Value.nilIface q∧(It q (Q (.returned r5) I18 F14) (∃m7:Nat,m7<m6∧Inv64 f e g x (IntKind.wrap .i64 (x1+1)) m7 I15 F11 I18 F14))) (Q (.returned (Value.nilIface)) I17 F13))))
theorem iF.vc{c:Addr}{an ao:Int}{ap:Bs}{aq ar au av aw:Int}{ax:Bs}{n:OA}{o p:Nat}{q r s t u v:Int}{w:Bs}{a:OA}{d e:Nat}{x y z aa ab ac:Int}{ad:Bs}{f:OA}{g i:Nat}{ae af ag ah ai aj:Int}{ak:Bs}{j:OA}{k l:Nat}{al am:Int}{I:cc}{F:b8}{Q:cf}(Inv9:Int→Bool→OA→Nat→Nat→cc→b8→cc→b8→Prop)(Inv18:OA→Nat→Nat→cc→b8→cc→b8→Prop)(Inv64:OA→Nat→Nat→Value→Int→Nat→cc→b8→cc→b8→Prop)(h:iF.V (fun b=>(b,Obj.cells #[.int .u8 an,.int .u8 ao,.string ap,.int .u8 aq,.int .u8 ar,.int .u8 au,.int .i64 av,.int .u8 aw,.string ax,.slice n o p,.int .i64 q,.int .u8 r,.int .u8 s,.int .u8 t,.int .i64 u,.int .u8 v,.string w,.slice a d e,.int .i64 x,.int .u8 y,.int .u8 z,.int .u8 aa,.int .i64 ab,.int .u8 ac,.string ad,.slice f g i,.int .i64 ae,.int .u8 af,.int .u8 ag,.int .u8 ah,.int .i64 ai,.int .u8 aj,.string ak,.slice j k l,.int .i64 al,.int .i64 am] 99 (0,0))) (.int .u8) (.int .i64) .string .slice c an ao ap aq ar au av aw ax n o p q r s t u v w a d e x y z aa ab ac ad f g i ae af ag ah ai aj ak j k l al am I F Q Inv9 Inv18 Inv64):cg P 109 #[.pointer (some c),.agg #[.int .u8 an,.int .u8 ao,.string ap,.int .u8 aq,.int .u8 ar,.int .u8 au,.int .i64 av,.int .u8 aw,.string ax,.slice n o p,.int .i64 q,.int .u8 r,.int .u8 s,.int .u8 t,.int .i64 u,.int .u8 v,.string w,.slice a d e,.int .i64 x,.int .u8 y,.int .u8 z,.int .u8 aa,.int .i64 ab,.int .u8 ac,.string ad,.slice f g i,.int .i64 ae,.int .u8 af,.int .u8 ag,.int .u8 ah,.int .i64 ai,.int .u8 aj,.string ak,.slice j k l,.int .i64 al,.int .i64 am]] I F Q :=
 tw (A:=(cQ [4000,6002,8002,10000,13000,15000,18000,20001,23000,26001] [] [65,108] iX [(9,⟨[(5,(.int .u8)),(6,.bool),(7,.slc)],[],fun fs I0 F0 vs m I F=>match fs,vs with | [],[.int _ y0,.bool y1,.slice y2 y3 y4]=>Inv9 y0 y1 y2 y3 y4 I0 F0 I F | _,_=>False,[],[]⟩),(18,⟨[(7,.slc)],[],fun fs I0 F0 vs m I F=>match fs,vs with | [],[.slice y0 y1 y2]=>Inv18 y0 y1 y2 I0 F0 I F | _,_=>False,[],[]⟩),(64,⟨[(4,.any),(110,(.int .i64))],[],fun fs I0 F0 vs m I F=>match fs,vs with | [.slice y0 y1 y2],[y3,.int _ y4]=>Inv64 y0 y1 y2 y3 y4 m I0 F0 I F | _,_=>False,[7],[]⟩)] [5007,7004,11007,17005] [] [] [] [(9,[0,1,2,4,3,5,6,7,8]),(12,[0,1,2,4,3,5,6,7,8]),(14,[0,1,2,4,3,5,6,7,8]),(16,[0,1,2,4,3,5,6,7,8,9,10,11]),(19,[0,1,2,4,3,5,6,7,8])] [])) [65,108] func109 h
def gq.V(ka:Nat→Int→Int→Bs→Int→Int→Int→Int→Int→Bs→OA→Nat→Nat→Int→Int→Int→Int→Int→Int→Bs→OA→Nat→Nat→Int→Int→Int→Int→Int→Int→Bs→OA→Nat→Nat→Int→Int→Int→Int→Int→Int→Bs→OA→Nat→Nat→Int→Int→Nat×Obj)(ap:Nat→Nat×Obj)(vb vi:Int→Value)(vs:Bs→Value)(vl:OA→Nat→Nat→Value)(wr:Int→Int)(c:Addr)(aJ aK aL aM aN:Int)(aO:Bs)(aF:OA)(aG aH:Nat)(aP:Int)(aE:OA)(aC aQ:Nat)(aR:Int)(I:cc)(F:b8)(Q:cf)(Inv16:Value→Int→Nat→cc→b8→Prop):Prop:=∀aB:Nat,de P 108 (#[.pointer (some c),.agg #[vb aJ,vb aK,vb aL,vi aM,vb aN,vs aO,vl aF aG aH,vi aP],vb 5]) I ((ap aB)::·) F fun e1 I1 G1=>∃(r:Value),e1=.returned r∧G1 fun F1=>∃q:Bool,cP P .neq 44 (.tmp 13) (.const (Value.nilIface)) r Value.nilIface q∧(It q (Q (.returned r) I1 F1) ((∃m:Nat,Inv16 Value.nilIface 0 m I1 F1)∧∀(x:Value) (x1:Int) (m1:Nat) (I2:cc) (F2:b8),cc.le I1 I2→Inv16 x x1 m1 I2 F2→(Dt (x1<(aC:Int)) ((0≤x1∧x1<(aC:Int))∧∃ad:Addr,aE=some ad∧∃(aq ar:Int) (au:Bs) (av aw ax ay az:Int) (aA:Bs) (k:OA) (l n:Nat) (p s t u v w:Int) (y:Bs) (a:OA) (b d:Nat) (z aa ab ac ae af:Int) (ag:Bs) (e:OA) (f g:Nat) (ah ai aj ak al am:Int) (an:Bs) (h:OA) (i j:Nat) (ao o:Int),Rd I2 ((ap aB)::F2) (ad.add (Int.toNat x1*36)) [vb aq,vb ar,vs au,vb av,vb aw,vb ax,vi ay,vb az,vs aA,vl k l n,vi p,vb s,vb t,vb u,vi v,vb w,vs y,vl a b d,vi z,vb aa,vb ab,vb ac,vi ae,vb af,vs ag,vl e f g,vi ah,vb ai,vb aj,vb ak,vi al,vb am,vs an,vl h i j,vi ao,vi o]∧∀aD:Nat,(Dt (x1>0) ((0≤(wr (x1-1))∧(wr (x1-1))<(aC:Int))∧∃aI:Addr,aE=some aI∧∃(m2:Int),Rd I2 ((ap aB)::(ka aD aq ar au av aw ax ay az aA k l n p s t u v w y a b d z aa ab ac ae af ag e f g ah ai aj ak al am an h i j ao o)::F2) ((aI.add (Int.toNat (wr (x1-1))*36)).add 0) [vb m2]∧(Dt (m2≥5) (de P 65 (#[vi o,Value.iface 47 (vi 153)]) I2 ((ap aB)::(ka aD aq ar au av aw ax ay az aA k l n p s t u v w y a b d z aa ab ac ae af ag e f g ah ai aj ak al am an h i j ao o)::·) F2 fun e2 I3 G2=>∃(r1:Value),e2=.returned r1∧G2 fun F3=>Q (.returned r1) I3 F3) (de P 109 (#[.pointer (some c),.agg #[vb aq,vb ar,vs au,vb av,vb aw,vb ax,vi ay,vb az,vs aA,vl k l n,vi p,vb s,vb t,vb u,vi v,vb w,vs y,vl a b d,vi z,vb aa,vb ab,vb ac,vi ae,vb af,vs ag,vl e f g,vi ah,vb ai,vb aj,vb ak,vi al,vb am,vs an,vl h i j,vi ao,vi o]]) I2 ((ap aB)::(ka aD aq ar au av aw ax ay az aA k l n p s t u v w y a b d z aa ab ac ae af ag e f g ah ai aj ak al am an h i j ao o)::·) F2 fun e3 I4 G3=>∃(r2:Value),e3=.returned r2∧G3 fun F4=>∃q1:Bool,cP P .neq 44 (.tmp 43) (.const (Value.nilIface)) r2 Value.nilIface q1∧(It q1 (Q (.returned r2) I4 F4) (∃m3:Nat,m3<m1∧Inv16 x (wr (x1+1)) m3 I4 F4))))) (de P 109 (#[.pointer (some c),.agg #[vb aq,vb ar,vs au,vb av,vb aw,vb ax,vi ay,vb az,vs aA,vl k l n,vi p,vb s,vb t,vb u,vi v,vb w,vs y,vl a b d,vi z,vb aa,vb ab,vb ac,vi ae,vb af,vs ag,vl e f g,vi ah,vb ai,vb aj,vb ak,vi al,vb am,vs an,vl h i j,vi ao,vi o]]) I2 ((ap aB)::(ka aD aq ar au av aw ax ay az aA k l n p s t u v w y a b d z aa ab ac ae af ag e f g ah ai aj ak al am an h i j ao o)::·) F2 fun e4 I5 G4=>∃(r3:Value),e4=.returned r3∧G4 fun F5=>∃q2:Bool,cP P .neq 44 (.tmp 43) (.const (Value.nilIface)) r3 Value.nilIface q2∧(It q2 (Q (.returned r3) I5 F5) (∃m4:Nat,m4<m1∧Inv16 x (wr (x1+1)) m4 I5 F5))))) (Q (.returned (Value.nilIface)) I2 F2))))
theorem gq.vc{c:Addr}{aA aB aC aD aE:Int}{aF:Bs}{au:OA}{av aw:Nat}{aG:Int}{ax:OA}{ay az:Nat}{aH:Int}{I:cc}{F:b8}{Q:cf}(Inv16:Value→Int→Nat→cc→b8→Prop)(h:gq.V (fun W a b c d e f g h i j k l m n o p q r s t u v w x y z aa ab ac ad ae af ag ah ai aj ak al am an ao ap aq ar=>(W,Obj.cells #[.int .u8 a,.int .u8 b,.string c,.int .u8 d,.int .u8 e,.int .u8 f,.int .i64 g,.int .u8 h,.string i,.slice j k l,.int .i64 m,.int .u8 n,.int .u8 o,.int .u8 p,.int .i64 q,.int .u8 r,.string s,.slice t u v,.int .i64 w,.int .u8 x,.int .u8 y,.int .u8 z,.int .i64 aa,.int .u8 ab,.string ac,.slice ad ae af,.int .i64 ag,.int .u8 ah,.int .u8 ai,.int .u8 aj,.int .i64 ak,.int .u8 al,.string am,.slice an ao ap,.int .i64 aq,.int .i64 ar] 99 (0,0))) (fun b=>(b,Obj.cells #[.int .u8 aA,.int .u8 aB,.int .u8 aC,.int .i64 aD,.int .u8 aE,.string aF,.slice au av aw,.int .i64 aG,.slice ax ay az,.int .i64 aH] 84 (0,0))) (.int .u8) (.int .i64) .string .slice (IntKind.wrap .i64) c aA aB aC aD aE aF au av aw aG ax ay az aH I F Q Inv16):cg P 68 #[.pointer (some c),.agg #[.int .u8 aA,.int .u8 aB,.int .u8 aC,.int .i64 aD,.int .u8 aE,.string aF,.slice au av aw,.int .i64 aG,.slice ax ay az,.int .i64 aH]] I F Q :=
 tw (A:=(cQ [2001,5000,7001,7010,10001] [] [65,108,109] iX [(16,⟨[(4,.any),(19,(.int .i64))],[],fun _ _ _ vs m I F=>match vs with | [y0,.int _ y1]=>Inv16 y0 y1 m I F | _=>False,[],[]⟩)] [] [] [] [] [] [])) [65,108,109] func68 h
end Go.Lx
namespace Go.Vc
def kC(R:Value→cc→Prop)(F:b8)(e:Ending)(I:cc)(G:b8):Prop:=∃v,e=.returned v∧R v I∧G=F
theorem Sat.still:∀(H:b8) {I:cc} {F:b8} {w:World},Sat I (H++F) w→∃J,cc.le I J∧(∀x∈H,J x.1=some x.2)∧Sat J F w
 | [],I,F,w,h=>⟨I,cc.le_refl I,fun x hx=>absurd hx (by simp),h⟩
 | (b,o)::H,I,F,w,h=>by
   obtain⟨h1,h2⟩:=Sat.kD (b:=b) (o:=o) h
   obtain⟨J,g1,g2,g3⟩:=Sat.still H h2
   refine⟨J,cc.le_trans h1 g1,fun x hx=>?_,g3⟩
   rcases List.mem_cons.1 hx with rfl | hx
   ·exact g1.at (by simp[cc.put])
   ·exact g2 x hx
section
variable {P:Program} {f:FuncId} {args:Array Value} {I:cc} {F:b8} {R:Value→cc→Prop}
theorem cg.still(h:cg P f args I F fun e I' G=>∃v H,e=.returned v∧G.Perm (H++F)∧∀J,cc.le I' J→(∀x∈H,J x.1=some x.2)→R v J):cg P f args I F (kC R F) :=
 h.keep fun e I' G w hl hs ⟨v,H,he,hp,hk⟩=>by
  obtain⟨J,g1,g2,g3⟩:=Sat.still H (hs.perm hp)
  exact⟨J,F,g1,g3,v,he,hk J g1 g2,rfl⟩
theorem cg.iY{Q:Ending→cc→b8→Prop}(h:cg P f args I F (kC R F))(k:∀v I',cc.le I I'→R v I'→Q (.returned v) I' F):cg P f args I F Q :=
 h.mono fun e I' G hl ⟨v,he,hr,hG⟩=>by subst he hG;exact k v I' hl hr
end
def nu(P:Program)(t:TypeId):Bool:=match P.underlying t with
 | some (.interface _)=>true
 | _=>false
theorem o6{P:Program}{t:TypeId}(h:nu P t=true):∃ms,P.underlying t=some (.interface ms):=by
 unfold nu at h
 split at h
 ·rename_i ht;exact⟨_,ht⟩
 ·cases h
theorem rr{P:Program}{t:TypeId}(h:nu P t=true){x:Operand}:cP P .neq t x (.const .nilIface) .nilIface .nilIface false:=by
 obtain⟨ms,ht⟩:=o6 h
 intro w
 have he:(Op.equal t .nilIface .nilIface).run P w=.ok true w:=by
  show (Op.equalIn (9999+1) t .nilIface .nilIface).run P w=_
  unfold Op.equalIn
  simp[Sem.run_bind,c5 ht]
 simp[eqGuard,binOp,Sem.run_bind,he]
theorem va{P:Program}{t:TypeId}(h:nu P t=true){x:Operand}{d:TypeId}{v:Value}:cP P .neq t x (.const .nilIface) (.iface d v) .nilIface true:=by
 obtain⟨ms,ht⟩:=o6 h
 intro w
 have he:(Op.equal t (.iface d v) .nilIface).run P w=.ok false w:=by
  show (Op.equalIn (9999+1) t (.iface d v) .nilIface).run P w=_
  unfold Op.equalIn
  simp[Sem.run_bind,c5 ht]
 simp[eqGuard,binOp,Sem.run_bind,he]
theorem ru{P:Program}{t:TypeId}(h:nu P t=true){x:Operand}:cP P .eql t x (.const .nilIface) .nilIface .nilIface true:=by
 obtain⟨ms,ht⟩:=o6 h
 intro w
 have he:(Op.equal t .nilIface .nilIface).run P w=.ok true w:=by
  show (Op.equalIn (9999+1) t .nilIface .nilIface).run P w=_
  unfold Op.equalIn
  simp[Sem.run_bind,c5 ht]
 simp[eqGuard,binOp,Sem.run_bind,he]
theorem o7{P:Program}{t:TypeId}(h:nu P t=true){x:Operand}{d:TypeId}{v:Value}:cP P .eql t x (.const .nilIface) (.iface d v) .nilIface false:=by
 obtain⟨ms,ht⟩:=o6 h
 intro w
 have he:(Op.equal t (.iface d v) .nilIface).run P w=.ok false w:=by
  show (Op.equalIn (9999+1) t (.iface d v) .nilIface).run P w=_
  unfold Op.equalIn
  simp[Sem.run_bind,c5 ht]
 simp[eqGuard,binOp,Sem.run_bind,he]
end Go.Vc
namespace Go.Lx
open Go.Vc
def xS:ByteArray:=⟨#[79,102]⟩
def w7:ByteArray:=⟨#[67,104,101,99,107]⟩
abbrev oo(e:Int):Value:=.iface 47 (.int .i64 e)
def Al(I:cc)(call:ByteArray)(pos:Int)(err v:Value):Prop:=∃b,v=.iface 89 (.pointer (some ⟨b,0,none⟩))∧I b=some (.cells #[.string call,.int .i64 pos,err] 93 (0,0))
theorem Al.mono{I J:cc}{call:ByteArray}{pos:Int}{err v:Value}(h:Al I call pos err v)(hl:cc.le I J):Al J call pos err v:=let ⟨b,h1,h2⟩:=h;⟨b,h1,hl.at h2⟩
def Fv(I:cc)(f:TF)(w:Value):Prop:=(f.e=0→w=.nilIface)∧(f.e≠0→Al I xS f.pos (oo f.e) w)
theorem Fv.mono{I J:cc}{f:TF}{w:Value}(h:Fv I f w)(hl:cc.le I J):Fv J f w:=⟨h.1,fun he=>(h.2 he).mono hl⟩
theorem Fv.ok{I:cc}:Fv I sk .nilIface:=⟨fun _=>rfl,fun h=>absurd rfl h⟩
def GH(r:Int×TF)(v:Value)(I:cc):Prop:=∃w,v=.tuple #[.int .u8 r.1,w]∧Fv I r.2 w
theorem Fv.neq{I:cc}{f:TF}{w:Value}(h:Fv I f w){t:TypeId}(ht:nu P t=true){x:Operand}:cP P .neq t x (.const .nilIface) w .nilIface (f.e != 0):=by
 by_cases he:f.e=0
 ·rw[h.1 he,he];exact rr ht
 ·obtain⟨b,hw,_⟩:=h.2 he
  rw[hw,show (f.e != 0)=true by simpa using he];exact va ht
theorem fy(t:Int)(I:cc)(F:b8):cg P 151 #[.int .u8 t] I F (eg (.bool (fB t)) F):=by
 refine nt.vc ⟨fun h=>⟨?_,rfl⟩,fun h=>⟨?_,rfl⟩⟩<;>simp[fB] at h ⊢<;>omega
theorem sY(t:Nd)(e:Int)(I:cc)(F:b8)(he:e≠0)(b:Bool):cg P 136 #[t.v,.int .i64 e] I F (kC (GH (0,⟨e,t.pos,b⟩)) F):=by
 refine cg.still (lg.vc ?_)
 unfold lg.V
 intro b_n b1
 refine⟨_,[(b1,.cells #[.string xS,.int .i64 t.pos,oo e] 93 (0,0))],rfl,.refl _,fun J hJ hx=>⟨_,rfl,fun h=>absurd h he,fun _=>⟨b1,rfl, ?_⟩⟩⟩
 exact hx _ (List.mem_singleton.2 rfl)
def vd(k o cx a:Int):Int:=if k=9 then (if fB a then cx else 0) else if o=2∧a=5∨o≠2∧fB a then a else 0
theorem DB(t:Nd)(a:Int)(I:cc)(F:b8):cg P 134 #[t.v,.int .u8 a] I F (eg (.int .u8 (vd t.kind t.oper t.cx a)) F):=by
 refine jV.vc ?_
 unfold jV.V
 unfold vd
 intro b_n
 refine⟨fun h9=>cg.ret (fy a I _) fun I1 l1=>⟨_,rfl,F,.refl _,fun hn=>?_,fun hn=>⟨fun _=>?_,fun h=>?_⟩⟩,fun h9=>⟨fun h=>?_,fun _=>⟨fun h2=>⟨fun h5=>?_,fun h5=>⟨fun h=>?_,fun _=>?_⟩⟩,fun h2=>⟨fun _=>cg.ret (fy a I _) fun I1 l1=>⟨_,rfl,F,.refl _,fun hn=>?_,fun hn=>?_⟩,fun h=>?_⟩⟩⟩⟩
 ·have h9:t.kind=9:=by simpa using h9
  rw[if_pos h9,if_pos hn];exact⟨rfl,rfl⟩
 ·have h9:t.kind=9:=by simpa using h9
  rw[if_pos h9,if_neg (by rw[hn];exact Bool.false_ne_true)];exact⟨rfl,rfl⟩
 ·rw[h9] at h;cases h
 ·rw[h9] at h;cases h
 ·have h9:t.kind≠9:=by simpa using h9
  have h2:t.oper=2:=by simpa using h2
  have h5:a=5:=by simpa using h5
  rw[if_neg h9,if_pos (.inl ⟨h2,h5⟩)];exact⟨rfl,rfl⟩
 ·have h2:t.oper=2:=by simpa using h2
  simp[h2] at h
 ·have h9:t.kind≠9:=by simpa using h9
  have h2:t.oper=2:=by simpa using h2
  have h5:a≠5:=by simpa using h5
  rw[if_neg h9,if_neg (by omega)];exact⟨rfl,rfl⟩
 ·have h9:t.kind≠9:=by simpa using h9
  have h2:t.oper≠2:=by simpa using h2
  rw[if_neg h9,if_pos (.inr ⟨h2,hn⟩)];exact⟨rfl,rfl⟩
 ·have h9:t.kind≠9:=by simpa using h9
  have h2:t.oper≠2:=by simpa using h2
  rw[if_neg h9,if_neg (by rw[hn];intro h;rcases h with h | h;exact h2 h.1;exact Bool.false_ne_true h.2)];exact⟨rfl,rfl⟩
 ·simp at h2 h;exact absurd h h2
def DC(o a b:Int)(v:Value)(_:cc):Prop:=∃t,v=.tuple #[.int .u8 t,.bool (jF o a b).2]∧((jF o a b).2=true→t=(jF o a b).1)
theorem dI{o a b t:Int}{r:Bool}{I:cc}{F:b8}(h1:r=(jF o a b).2)(h2:r=true→t=(jF o a b).1):kC (DC o a b) F (.returned (.tuple #[.int .u8 t,.bool r])) I F :=
 ⟨_,rfl,⟨t,by rw[h1],h1▸h2⟩,rfl⟩
theorem jy{a:Int}:fB a=true↔1≤a∧a≤4:=by unfold fB;rw[decide_eq_true_eq]
theorem tD{a:Int}:fB a=false↔¬(1≤a∧a≤4):=by unfold fB;rw[decide_eq_false_iff_not]
theorem DD{a b:Int}(ha:fB a=true)(hb:fB b=true):IntKind.wrap .u8 (a+b)=a+b:=by
 have:=jy.1 ha;have:=jy.1 hb
 unfold IntKind.wrap;simp[IntKind.bits,IntKind.signed];omega
theorem DE(o a b:Int)(ho:4≤o∧o≤18)(I:cc)(F:b8):cg P 135 #[.int .u8 o,.int .u8 a,.int .u8 b] I F (kC (DC o a b) F):=by
 refine jW.vc ?_
 unfold jW.V
 have e8:o=8→jF o a b=(ft a b,ft a b != 0):=fun h=>by subst h;unfold jF;rw[if_neg (by omega),if_pos rfl]
 have e9:o=9→jF o a b=(ql a b,ql a b != 0):=fun h=>by subst h;unfold jF;rw[if_neg (by omega),if_neg (by omega),if_pos rfl]
 have eq_:o=11∨o=12→jF o a b=(5,a==b):=fun h=>by unfold jF;rw[if_neg (by omega),if_neg (by omega),if_neg (by omega),if_pos h]
 have ea:o=17∨o=18→jF o a b=(5,a==b&&a==5):=fun h=>by unfold jF;rw[if_neg (by omega),if_neg (by omega),if_neg (by omega),if_neg (by omega),if_pos h]
 have el:o=13∨o=14∨o=15∨o=16→jF o a b=(5,a==b&&fB a):=fun h=>by unfold jF;rw[if_neg (by omega),if_neg (by omega),if_neg (by omega),if_neg (by omega),if_neg (by omega)]
 have es:o=4∨o=5∨o=6∨o=7∨o=10→jF o a b=(a,a==b&&fB a):=fun h=>by unfold jF;rw[if_pos (by omega)]
 have hless:∀{q:Int},(o==q)=true→o=q:=fun h=>by simpa using h
 have hnot:∀{q:Int},(o==q)=false→o≠q:=fun h=>by simpa using h
 have lt:o=13∨o=14∨o=15∨o=16→((a==b)=true→cg P 151 #[.int .u8 a] I F fun e7 I7 G7=>∃r:Bool,e7=.returned (.bool r)∧∃F7:b8,G7.Perm F7∧kC (DC o a b) F (.returned (.tuple #[.int .u8 5,.bool r])) I7 F7)∧((a==b)=false→kC (DC o a b) F (.returned (.tuple #[.int .u8 5,.bool false])) I F):=fun h =>
  ⟨fun hab=>cg.ret (fy a I _) fun I1 l1=>⟨_,rfl,F,.refl _,dI (by rw[el h,hab,Bool.true_and]) fun _=>by rw[el h]⟩,fun hab=>dI (by rw[el h,hab,Bool.false_and]) fun h=>by cases h⟩
 have an:o=17∨o=18→((a==b)=true→kC (DC o a b) F (.returned (.tuple #[.int .u8 a,.bool (a==5)])) I F)∧((a==b)=false→kC (DC o a b) F (.returned (.tuple #[.int .u8 a,.bool false])) I F):=fun h =>
  ⟨fun hab=>dI (by rw[ea h,hab,Bool.true_and]) fun h5=>by rw[ea h];simpa using h5,fun hab=>dI (by rw[ea h,hab,Bool.false_and]) fun h=>by cases h⟩
 refine⟨fun h8=>?_,fun h8=>⟨fun h9=>?_,fun h9=>⟨fun h=>dI (by rw[eq_ (.inl (hless h))]) fun _=>by rw[eq_ (.inl (hless h))],fun h11=>⟨fun h=>dI (by rw[eq_ (.inr (hless h))]) fun _=>by rw[eq_ (.inr (hless h))],fun h12=>⟨fun h=>an (.inl (hless h)),fun h17=>⟨fun h=>an (.inr (hless h)),fun h18=>⟨fun h=>lt (.inl (hless h)),fun h13=>⟨fun h=>lt (.inr (.inl (hless h))),fun h14=>⟨fun h=>lt (.inr (.inr (.inl (hless h)))),fun h15=>⟨fun h=>lt (.inr (.inr (.inr (hless h)))),fun h16=>?_⟩⟩⟩⟩⟩⟩⟩⟩⟩⟩
 ·have e:=e8 (hless h8)
  refine⟨fun h1=>cg.ret (fy b I _) fun I1 l1=>⟨_,rfl,F,.refl _, ?_⟩,fun h1=>⟨fun h2=>cg.ret (fy a I _) fun I1 l1=>⟨_,rfl,F,.refl _, ?_⟩,fun h2=>⟨fun h3=>⟨fun h4=>cg.ret (fy a I _) fun I1 l1=>⟨_,rfl,F,.refl _,fun h5=>cg.ret (fy b I1 _) fun I2 l2=>⟨_,rfl,F,.refl _, ?_⟩,fun h5=>?_⟩,fun h4=>?_⟩,fun h3=>?_⟩⟩⟩
  ·have h1:a=1:=by simpa using h1
   subst h1
   cases hb:fB b
   ·have:=tD.1 hb
    exact dI (by rw[e];unfold ft;simp[hb];omega) fun h=>by cases h
   ·have:=jy.1 hb
    exact dI (by rw[e];unfold ft;simp[hb];omega) fun _=>by rw[e];unfold ft;simp[hb]
  ·have h1:a≠1:=by simpa using h1
   have h2:b=1:=by simpa using h2
   subst h2
   cases hb:fB a
   ·have:=tD.1 hb
    exact dI (by rw[e];unfold ft;simp[hb,h1]) fun h=>by cases h
   ·have:=jy.1 hb
    exact dI (by rw[e];unfold ft;simp[hb,h1];omega) fun _=>by rw[e];unfold ft;simp[hb,h1]
  ·have h1:a≠1:=by simpa using h1
   have h2:b≠1:=by simpa using h2
   have h3:a≠b:=by simpa using h3
   have h4:IntKind.wrap .u8 (a+b)=5:=by simpa using h4
   have ha:=jy.1 h5
   cases hb:fB b
   ·have:=tD.1 hb
    have hz:ft a b=0:=by unfold ft;rw[if_neg (fun h=>h1 h.1),if_neg (fun h=>h2 h.1),if_neg (by omega)]
    exact dI (by rw[e,hz];rfl) fun h=>by cases h
   ·have:=jy.1 hb
    rw[DD h5 hb] at h4
    have hz:ft a b=1:=by unfold ft;rw[if_neg (fun h=>h1 h.1),if_neg (fun h=>h2 h.1),if_pos (by omega)]
    exact dI (by rw[e,hz];rfl) fun _=>by rw[e,hz]
  ·have h1:a≠1:=by simpa using h1
   have h2:b≠1:=by simpa using h2
   have:=tD.1 h5
   have hz:ft a b=0:=by unfold ft;rw[if_neg (fun h=>h1 h.1),if_neg (fun h=>h2 h.1),if_neg (by omega)]
   exact dI (by rw[e,hz];rfl) fun h=>by cases h
  ·have h1:a≠1:=by simpa using h1
   have h2:b≠1:=by simpa using h2
   have hz:ft a b=0:=by
    unfold ft;rw[if_neg (fun h=>h1 h.1),if_neg (fun h=>h2 h.1),if_neg]
    intro h
    rcases h with ⟨rfl,rfl⟩ | ⟨rfl,rfl⟩<;>exact absurd h4 (by decide)
   exact dI (by rw[e,hz];rfl) fun h=>by cases h
  ·have h1:a≠1:=by simpa using h1
   have h2:b≠1:=by simpa using h2
   have h3:a=b:=by simpa using h3
   have hz:ft a b=0:=by unfold ft;rw[if_neg (fun h=>h1 h.1),if_neg (fun h=>h2 h.1),if_neg (by omega)]
   exact dI (by rw[e,hz];rfl) fun h=>by cases h
 ·have e:=e9 (hless h9)
  refine⟨fun h1=>cg.ret (fy a I _) fun I1 l1=>⟨_,rfl,F,.refl _, ?_⟩,fun h1=>⟨fun h2=>cg.ret (fy a I _) fun I1 l1=>⟨_,rfl,F,.refl _, ?_⟩,fun h2=>?_⟩⟩
  ·have h1:b=1:=by simpa using h1
   subst h1
   cases ha:fB a
   ·exact dI (by rw[e];unfold ql;simp[ha]) fun h=>by cases h
   ·have:=jy.1 ha
    exact dI (by rw[e];unfold ql;simp[ha];omega) fun _=>by rw[e];unfold ql;simp[ha]
  ·have h1:b≠1:=by simpa using h1
   have h2:a=b:=by simpa using h2
   subst h2
   cases ha:fB a
   ·exact dI (by rw[e];unfold ql;simp[ha]) fun h=>by cases h
   ·exact dI (by rw[e];unfold ql;simp[ha,h1]) fun _=>by rw[e];unfold ql;simp[ha,h1]
  ·have h1:b≠1:=by simpa using h1
   have h2:a≠b:=by simpa using h2
   exact dI (by rw[e];unfold ql;simp[h1,h2]) fun h=>by cases h
 ·have e:=es (by have:=hnot h8;have:=hnot h9;have:=hnot h11;have:=hnot h12;have:=hnot h17;have:=hnot h18;have:=hnot h13;have:=hnot h14;have:=hnot h15;have:=hnot h16;omega)
  exact⟨fun hab=>cg.ret (fy a I _) fun I1 l1=>⟨_,rfl,F,.refl _,dI (by rw[e,hab,Bool.true_and]) fun _=>by rw[e]⟩,fun hab=>dI (by rw[e,hab,Bool.false_and]) fun h=>by cases h⟩
def dC:List dg→ByteArray→Option Int
 | [],_=>none
 | r::l,k=>if k=r.name then some r.cx else dC l k
theorem lV{a b:ByteArray}:(a.toList==b.toList)=true↔a=b:=by
 rw[beq_iff_eq]
 exact⟨GC,fun h=>by rw[h]⟩
theorem w9(k:ByteArray):∀(l:List dg) (i:Int),0≤i→dC l k=if iV k (l.map dg.name) i<0 then none else ((l[(iV k (l.map dg.name) i-i).toNat]?).map dg.cx)
 | [],i,hi=>by rw[dC,List.map_nil,iV,if_pos (by omega)]
 | r::l,i,hi=>by
   rw[dC,List.map_cons,iV]
   by_cases h:k=r.name
   ·rw[if_pos h,if_pos (lV.2 h.symm),if_neg (by omega)];simp
   ·rw[if_neg h,if_neg (fun h'=>h (lV.1 h').symm),w9 k l (i+1) (by omega)]
    by_cases hn:iV k (l.map dg.name) (i+1)<0
    ·rw[if_pos hn,if_pos hn]
    ·rw[if_neg hn,if_neg hn]
     have hge:∀(l:List ByteArray) (j:Int),¬iV k l j<0→j≤iV k l j:=by
      intro l
      induction l with
      | nil=>intro j h;rw[iV] at h;exact absurd (by decide) h
      | cons x r ih =>
        intro j h
        rw[iV] at h ⊢
        split
        ·exact Int.le_refl _
        ·rename_i hx;rw[if_neg hx] at h;have:=ih (j+1) h;omega
     have:=hge _ _ hn
     rw[show (iV k (l.map dg.name) (i+1)-i).toNat=(iV k (l.map dg.name) (i+1)-(i+1)).toNat+1 by omega,List.getElem?_cons_succ]
theorem EV(k:ByteArray):∀(l:List ByteArray) (j:Int),¬iV k l j<0→j≤iV k l j∧iV k l j<j+l.length
 | [],j,h=>by rw[iV] at h;exact absurd (by decide) h
 | x::r,j,h=>by
   rw[iV] at h ⊢
   split
   ·rw[List.length_cons];exact⟨Int.le_refl _,by omega⟩
   ·rename_i hx;rw[if_neg hx] at h;have:=EV k r (j+1) h;rw[List.length_cons];omega
theorem ve(s:cu)(k:ByteArray):dC s.regs k=if s.eX k<0 then none else some (s.iz (s.eX k)):=by
 rw[w9 k s.regs 0 (by omega)]
 unfold cu.iz cu.eX
 by_cases h:iV k (s.regs.map dg.name) 0<0
 ·rw[if_pos h,if_pos h]
 ·rw[if_neg h,if_neg h]
  obtain⟨h1,h2⟩:=EV k _ _ h
  rw[List.length_map] at h2
  rw[Int.sub_zero]
  have hlt:(iV k (s.regs.map dg.name) 0).toNat<s.regs.length:=by omega
  rw[List.getElem?_eq_getElem hlt];rfl
theorem oq(k:ByteArray)(r:dg):∀l:List dg,dC (l++[r]) k=match dC l k with
  | some t=>some t
  | none=>if k=r.name then some r.cx else none
 | []=>by rw[List.nil_append,dC,dC,dC]
 | x::l=>by
   rw[List.cons_append,dC,dC]
   by_cases h:k=x.name
   ·rw[if_pos h,if_pos h]
   ·rw[if_neg h,if_neg h,oq k r l]
def Cw(I:cc)(c:Nat)(s:cu)(m1 m2:Nat):Prop:=∃m0 es ck,I c=some (.cells #[.map (some m0),.map (some m1),.map (some m2)] 164 (0,0))∧I m0=some (.map es ck)∧kq Value.string (Value.int .u8) (dC s.regs) es ck
theorem Cw.mono{I J:cc}{c:Nat}{s:cu}{m1 m2:Nat}(h:Cw I c s m1 m2)(hl:cc.le I J):Cw J c s m1 m2:=let ⟨m0,es,ck,h1,h2,h3⟩:=h;⟨m0,es,ck,hl.at h1,hl.at h2,h3⟩
theorem FW:P.underlying 161=some (.map 9 24):=by kernel_rfl
theorem FX:P.underlying 162=some (.map 9 3):=by kernel_rfl
theorem zQ:P.underlying 9=some .string:=by kernel_rfl
theorem EW:(P.info? 24).map (·.zero)=some (some (.int .u8 0)):=by kernel_rfl
theorem EX:(P.info? 3).map (·.zero)=some (some (.int .i64 0)):=by kernel_rfl
theorem zR{x:Px}(h:x.formed=true)(h0:x.kids.length=0):x.kind=1∨x.kind=2∨x.kind=3∨x.kind=4:=by
 rcases Classical.em (x.kind=1) with h1 | h1
 ·exact .inl h1
 rcases Classical.em (x.kind=2) with h2 | h2
 ·exact .inr (.inl h2)
 rcases Classical.em (x.kind=3) with h3 | h3
 ·exact .inr (.inr (.inl h3))
 rcases Classical.em (x.kind=4) with h4 | h4
 ·exact .inr (.inr (.inr h4))
 rcases Classical.em (x.kind=7) with h7 | h7
 ·have:=sT h h7;omega
 rcases Classical.em (x.kind=9) with h9 | h9
 ·have:=sU h h9;omega
 have:=sV h h1 h2 h3 h4 h7 h9
 omega
theorem BB{x:Px}(h:x.formed=true)(hk:x.kind=9):x.cx≠0:=by
 have h1:=(fj h).1
 unfold Px.yZ at h1
 rw[if_neg (by omega),if_neg (by omega),if_neg (by omega),if_neg (by omega),if_neg (by omega),if_neg (by omega),if_neg (by omega),if_neg (by omega),if_pos hk] at h1
 have:=of_decide_eq_true h1
 omega
theorem BC{x:Px}(h:x.formed=true)(h2:x.kids.length=2):x.kind≠1∧x.kind≠2∧x.kind≠3∧x.kind≠4∧x.kind≠7∧x.kind≠9∧((x.kind=6∧6≤x.oper∧x.oper≤18)∨(x.kind=8∧(x.oper=4∨x.oper=5))):=by
 obtain⟨g1,g2⟩:=fj h
 rw[h2] at g2
 unfold Px.arity at g2
 unfold Px.yZ at g1
 split at g2
 ·omega
 ·rename_i k59
  split at g2
  ·rename_i k6
   rw[if_neg (by omega),if_neg (by omega),if_neg (by omega),if_neg (by omega),if_neg (by omega),if_pos k6] at g1
   have:=of_decide_eq_true g1
   omega
  ·split at g2
   ·omega
   ·split at g2
    ·rename_i k8
     rw[if_neg (by omega),if_neg (by omega),if_neg (by omega),if_neg (by omega),if_neg (by omega),if_neg (by omega),if_neg (by omega),if_pos k8] at g1
     have:=of_decide_eq_true g1
     split at g2<;>omega
    ·omega
theorem EY{x:Px}(h:x.formed=true)(h2:x.kids.length=1):x.kind≠1∧x.kind≠2∧x.kind≠3∧x.kind≠4∧x.kind≠7∧x.kind≠6:=by
 obtain⟨g1,g2⟩:=fj h
 rw[h2] at g2
 unfold Px.arity at g2
 split at g2
 ·omega
 ·split at g2
  ·omega
  ·split at g2
   ·omega
   ·split at g2<;>omega
theorem EZ{x:Px}(h:x.formed=true)(h2:3≤x.kids.length):x.kind=7∧x.kids.length=3:=by
 obtain⟨g1,g2⟩:=fj h
 unfold Px.arity at g2
 split at g2
 ·omega
 ·split at g2
  ·omega
  ·split at g2
   ·exact⟨by assumption,g2⟩
   ·split at g2
    ·split at g2<;>omega
    ·omega
theorem DF{s:cB}{c m1 m2:Nat}(t:Nd)(hf:t.px.formed=true)(h0:t.kids.length=0)(I:cc)(F:b8)(hS:Cw I c s.p m1 m2) :
  cg P 133 #[.pointer (some ⟨c,0,none⟩),t.v] I F (kC (GH (eb s.p t.px [])) F):=by
 refine gj.vc ?_
 unfold gj.V
 have hk:t.kind=1∨t.kind=2∨t.kind=3∨t.kind=4:=by
  have:=zR hf (by rw[Nd.jB,h0]);rwa [Nd.cO] at this
 have hfld:t.kind=3→1≤t.field∧t.field≤6:=fun h=>by
  have:=re hf (by rw[Nd.cO];exact h);rwa [Nd.jt] at this
 have ok:∀{J:cc} {x:Int},eb s.p t.px []=(x,sk)→kC (GH (eb s.p t.px [])) F (.returned (.tuple #[.int .u8 x,.nilIface])) J F:=fun e=>by rw[e];exact⟨_,rfl,⟨_,rfl,Fv.ok⟩,rfl⟩
 have eN:∀{x:Int},(t.kind=2→¬s.p.eX t.name<0)→iD s.p t.px []=(x,true)→eb s.p t.px []=(x,sk):=fun hn e=>by
  unfold eb;rw[Nd.cO,Nd.gL,if_neg (fun h=>hn h.1 h.2),e,if_pos rfl]
 have e1:t.kind=1→eb s.p t.px []=(t.cx,sk):=fun h=>eN (fun h2=>by omega) (by
  unfold iD;rw[Nd.cO,Nd.ir,if_pos h])
 have e4:t.kind=4→eb s.p t.px []=(5,sk):=fun h=>eN (fun h2=>by omega) (by
  unfold iD;rw[Nd.cO,if_neg (by omega),if_neg (by omega),if_neg (by omega),if_pos h])
 have e3:t.kind=3→eb s.p t.px []=(iL xN (t.field-1).toNat,sk):=fun h=>eN (fun h2=>by omega) (by
  unfold iD;rw[Nd.cO,Nd.jt,if_neg (by omega),if_neg (by omega),if_pos h])
 intro b_n
 refine⟨fun h=>ok (e1 (by simpa using h)),fun h1=>⟨fun h=>ok (e4 (by simpa using h)),fun h4=>⟨fun h=>?_,fun h2=>?_⟩⟩⟩
 ·have h2:t.kind=2:=by simpa using h
  obtain⟨m0,es,ck,hc,hm,hg⟩:=hS
  refine⟨_,rfl,some m0,⟨rfl,_,_,_,.inl hc,fun j hj=>?_⟩, ?_⟩
  ·have:j=0:=by simpa using hj
   subst this;rfl
  refine cE.mono (rZ FW zQ kN str_inj EW hg (.inl hm) t.name) fun v I1 G hl ⟨hv,hI,hG⟩=>?_
  subst hI hG
  rw[ve] at hv
  by_cases hr:s.p.eX t.name<0
  ·rw[if_pos hr] at hv
   refine⟨0,false,hv,F,.refl _,fun h=>(by cases h),fun _=>?_⟩
   refine cg.iY (sY t 151 I1 _ (by decide) true) fun v1 I2 l2 ⟨w,hv1,hw⟩=>?_
   refine⟨_,_,by rw[hv1],F,.refl _,_,rfl,⟨w, ?_, ?_⟩,rfl⟩
   ·unfold eb;rw[Nd.cO,Nd.gL,if_pos ⟨h2,hr⟩]
   ·unfold eb;rw[Nd.cO,Nd.gL,if_pos ⟨h2,hr⟩,Nd.uG];exact hw
  ·rw[if_neg hr] at hv
   refine⟨s.p.iz (s.p.eX t.name),true,hv,F,.refl _,fun _=>ok ?_,fun h=>by cases h⟩
   exact eN (fun _=>hr) (by unfold iD;rw[Nd.cO,Nd.gL,if_neg (by omega),if_pos h2])
 ·have h3:t.kind=3:=by simp at h1 h4 h2;omega
  obtain⟨f1,f2⟩:=hfld h3
  refine⟨fun h=>ok ?_,fun h5=>⟨fun h=>ok ?_,fun h4=>⟨fun h=>ok ?_,fun h6=>ok ?_⟩⟩⟩<;>rw[e3 h3]
  ·rw[show t.field=5 by simpa using h];rfl
  ·rw[show t.field=4 by simpa using h];rfl
  ·rw[show t.field=6 by simpa using h];rfl
  ·have:t.field=1∨t.field=2∨t.field=3:=by simp at h5 h4 h6;omega
   rcases this with h | h | h<;>rw[h]<;>rfl
def lO(ts:List Int):Obj:=.cells #[.int .u8 (iL ts 0),.int .u8 (iL ts 1),.int .u8 (iL ts 2)] 204 (0,0)
theorem rv(b n:Nat):(⟨b,0,none⟩:Addr).add n=⟨b,n,none⟩:=by unfold Addr.add;split<;>simp_all
theorem vf{I:cc}{G:b8}{b:Nat}{ts:List Int}(h:(b,lO ts)∈G){i:Nat}(hi:i<3):Rd I G ((⟨b,0,none⟩:Addr).add i) [.int .u8 (iL ts i)]:=by
 rw[rv]
 refine⟨rfl,_,_,_,.inr h,fun j hj=>?_⟩
 have:j=0:=by simpa using hj
 subst this
 match i,hi with
 | 0,_=>rfl
 | 1,_=>rfl
 | 2,_=>rfl
theorem Hz{ts:List Int}(x:Int)(h:ts.length<3):Obj.cells (cp ts.length [Value.int .u8 x] [.int .u8 (iL ts 0),.int .u8 (iL ts 1),.int .u8 (iL ts 2)]).toArray 204 (0,0)=lO (ts++[x]):=by
 match ts,h with
 | [],_=>rfl
 | [a],_=>rfl
 | [a,b],_=>rfl
theorem BD{x:Px}(h:x.formed=true):x.kids.length≤3:=by
 rw[(fj h).2]
 unfold Px.arity
 repeat' split
 all_goals omega
def E0(k o cx a:Int):Int×Bool:=if k=9 then (cx,fB a) else if o=2 then (5,a==5) else (a,fB a)
theorem HA(k o cx a:Int)(ht:k=9→cx≠0):((E0 k o cx a).2=true↔vd k o cx a≠0)∧(vd k o cx a≠0→(E0 k o cx a).1=vd k o cx a):=by
 have h0:fB a=true→a≠0:=fun h=>by have:=jy.1 h;omega
 unfold E0 vd
 by_cases h9:k=9
 ·by_cases hn:fB a=true
  ·simp[h9,hn,ht h9]
  ·simp[h9,hn]
 ·by_cases ho:o=2
  ·by_cases h5:a=5
   ·simp[h9,ho,h5]
   ·simp[h9,ho,h5]
  ·by_cases hn:fB a=true
   ·simp[h9,ho,hn,h0 hn]
   ·simp[h9,ho,hn]
set_option maxHeartbeats 1000000 in
theorem Cx{s:cB}{c m1 m2:Nat}:∀(t:Nd),t.px.formed=true→∀(I:cc) (F:b8),Cw I c s.p m1 m2→cH I F t →
  cg P 107 #[.pointer (some ⟨c,0,none⟩),t.v] I F (kC (GH (typed s.p t.px)) F):=by
 refine Nd.ind fun t ih hf I F hS ht=>cg.still ?_
 have ekid:t.px.kids=t.kids.map Nd.px:=Nd.dv t
 have hlen:t.kids.length≤3:=by have:=BD hf;rwa [Nd.jB] at this
 refine iE.vc (fun nA lA x x1 i m I0 F0 I' F'=>0≤i∧i≤t.kids.length∧m=(t.kids.length-i).toNat∧(∀k∈t.kids.take i.toNat,(typed s.p k.px).2.e=0) ∧
  ∃b,lA=some (⟨b,0,none⟩:Addr)∧F'.Perm ((b,lO ((t.kids.take i.toNat).map fun k=>(typed s.p k.px).1))::F)) ?_
 unfold iE.V
 intro b_n b_l
 refine⟨⟨_,by omega,by omega,rfl,fun k hk=>by simp at hk,b_l,rfl,.refl _⟩,fun x x1 i m I1 F1 l1 ⟨g0,g1,gm,hall,b,hb,hF1⟩=>?_⟩
 obtain rfl:b_l=b:=by simpa using hb
 have hS1:Cw I1 c s.p m1 m2:=hS.mono l1
 have hsub:∀y,y∈F→y∈F1:=fun y hy=>hF1.mem_iff.2 (List.mem_cons_of_mem _ hy)
 have ht1:cH I1 F1 t:=ht.mono l1 hsub
 refine⟨fun hlt=>?_,fun hlt=>?_⟩
 ·have hlt:=of_decide_eq_true hlt
  obtain⟨ad,k,had,hk,hrd,hko,hkm⟩:=ht1.kids.at g0 hlt
  have hkf:=Px.iR hf k.px (by rw[ekid];exact List.mem_map_of_mem hkm)
  have hbad:(typed s.p k.px).2.e≠0→typed s.p t.px=(0,(typed s.p k.px).2):=fun he=>wZ (i:=i.toNat) (fun y hy=>by
   rw[ekid,←List.map_take] at hy
   obtain⟨z,hz,rfl⟩:=List.mem_map.1 hy
   exact hall z hz) (by rw[ekid,List.getElem?_map,hk];rfl) he
  refine⟨⟨g0,hlt⟩,ad,had,_,_,_,_,_,_,_,_,_,_,hrd.sub (cc.le_refl _) (fun y hy=>.tail _ hy), ?_⟩
  intro b_k
  refine cg.iY (ih k hkm hkf I1 _ hS1 (hko.mono (cc.le_refl _) fun y hy=>.tail _ (.tail _ hy))) fun v I2 l2 ⟨w,hv,hw⟩=>?_
  refine⟨_,_,by rw[hv],F1,.refl _,_,hw.neq (by kernel_rfl),fun hq=>?_,fun hq=>?_⟩
  ·have he:(typed s.p k.px).2.e≠0:=by simpa using hq
   refine⟨_,[_],rfl,hF1,fun J hJ hx=>?_⟩
   rw[hbad he]
   exact⟨w,rfl,hw.mono hJ⟩
  ·have he:(typed s.p k.px).2.e=0:=by simpa using hq
   have hl3:(((t.kids.take i.toNat).map fun k=>(typed s.p k.px).1)).length=i.toNat:=by rw[List.length_map,List.length_take];omega
   refine⟨⟨g0,by omega⟩,_,_,F,by rw[rv];exact hF1,by rw[rv],by rw[rv];simp only[List.length_cons,List.length_nil];omega,(t.kids.length-(i+1)).toNat,by omega, ?_⟩
   rw[du (n:=i+1) (by omega)]
   refine⟨by omega,by omega,rfl, ?_,b_l,rfl, ?_⟩
   ·rw[show (i+1).toNat=i.toNat+1 by omega]
    exact uZ hk hall he
   ·rw[rv,show (i+1).toNat=i.toNat+1 by omega,iW hk,←Hz _ (by rw[hl3];omega),hl3,Nat.mul_one]
 ·have hlt:=of_decide_eq_false hlt
  rw[List.take_of_length_le (l:=t.kids) (i:=i.toNat) (by omega)] at hall hF1
  have hty:typed s.p t.px=eb s.p t.px (t.kids.map fun k=>(typed s.p k.px).1):=by
   rw[zL (fun k hk=>by
    rw[ekid] at hk
    obtain⟨z,hz,rfl⟩:=List.mem_map.1 hk
    exact hall z hz),ekid,List.map_map]
   rfl
  rw[hty]
  have htl:(t.kids.map fun k=>(typed s.p k.px).1).length=t.kids.length:=List.length_map ..
  generalize (t.kids.map fun k=>(typed s.p k.px).1)=ts at hF1 htl ⊢
  have hmem:∀y:Nat×Obj,(b_l,lO ts)∈y::F1:=fun y=>.tail _ (hF1.mem_iff.2 (.head _))
  have ek:t.px.kind=t.kind:=Nd.cO t
  have wr:∀{J:cc} {G:b8},eb s.p t.px ts=(0,⟨152,t.pos,true⟩)→cg P 136 #[t.v,.int .i64 152] J G (kC (GH (eb s.p t.px ts)) G):=fun e=>by
   rw[e];exact sY t 152 _ _ (by decide) true
  have fin:∀{J:cc} {x:Int},eb s.p t.px ts=(x,sk)→∃v H,Ending.returned (Value.tuple #[.int .u8 x,.nilIface])=.returned v∧F1.Perm (H++F)∧∀K,cc.le J K→(∀z∈H,K z.1=some z.2)→GH (eb s.p t.px ts) v K :=
   fun e=>⟨_,[_],rfl,hF1,fun K hJ hx=>by rw[e];exact⟨_,rfl,Fv.ok⟩⟩
  have finw:∀{J:cc} {v:Value},GH (eb s.p t.px ts) v J→∃v1 H,Ending.returned v=.returned v1∧F1.Perm (H++F)∧∀K,cc.le J K→(∀z∈H,K z.1=some z.2)→GH (eb s.p t.px ts) v1 K :=
   fun ⟨w,hv,hw⟩=>⟨_,[_],rfl,hF1,fun K hJ hx=>⟨w,hv,hw.mono hJ⟩⟩
  have eN:¬t.kind=2→eb s.p t.px ts=if (iD s.p t.px ts).2 then ((iD s.p t.px ts).1,sk) else (0,⟨152,t.pos,true⟩):=fun h2=>by
   unfold eb;rw[ek,if_neg (fun h=>h2 h.1),Nd.uG]
  refine⟨fun h=>?_,fun h=>⟨fun h1=>?_,fun h1=>⟨fun h2=>?_,fun h2=>?_⟩⟩⟩
  ·have h0:t.kids.length=0:=by simpa using h
   obtain rfl:ts=[]:=List.length_eq_zero_iff.1 (by omega)
   refine cg.iY (DF t hf h0 I1 _ hS1) fun v I3 l3 hv=>?_
   obtain⟨w,hv1,hw⟩:=id hv
   exact⟨_,_,by rw[hv1],F1,.refl _,by rw[←hv1];exact finw hv⟩
  ·have h1:t.kids.length=1:=by simp at h1;omega
   obtain⟨n1,n2,n3,n4,n7,n6⟩:=EY hf (by rw[Nd.jB,h1])
   rw[ek] at n1 n2 n3 n4 n7 n6
   have hn:iD s.p t.px ts=E0 t.kind t.oper t.cx (iL ts 0):=by
    unfold iD E0
    rw[ek,Nd.ir,Nd.fD,if_neg n1,if_neg n2,if_neg n3,if_neg n4,if_neg n7,if_neg (show ¬ts.length=2 by omega)]
   have hty:t.kind=9→t.cx≠0:=fun h9=>by have:=BB hf (by rw[ek];exact h9);rwa [Nd.ir] at this
   obtain⟨ho1,ho2⟩:=HA t.kind t.oper t.cx (iL ts 0) hty
   have hE:vd t.kind t.oper t.cx (iL ts 0)≠0→eb s.p t.px ts=(vd t.kind t.oper t.cx (iL ts 0),sk):=fun h=>by
    rw[eN n2,hn,if_pos (ho1.2 h),ho2 h]
   have hN:vd t.kind t.oper t.cx (iL ts 0)=0→eb s.p t.px ts=(0,⟨152,t.pos,true⟩):=fun h=>by
    rw[eN n2,hn,if_neg (fun h'=>ho1.1 h' h)]
   refine⟨⟨by omega,by omega⟩,iL ts 0,vf (i:=0) (hmem _) (by decide), ?_⟩
   refine cg.ret (DB t (iL ts 0) I1 _) fun I3 l3=>⟨_,rfl,F1,.refl _,fun hz=>?_,fun hz=>?_⟩
   ·have hz:vd t.kind t.oper t.cx (iL ts 0)=0:=by simpa using hz
    refine cg.iY (wr (hN hz)) fun v I4 l4 hv=>?_
    obtain⟨w,hv1,hw⟩:=id hv
    exact⟨_,_,by rw[hv1],F1,.refl _,by rw[←hv1];exact finw hv⟩
   ·have hz:vd t.kind t.oper t.cx (iL ts 0)≠0:=by simpa using hz
    exact fin (hE hz)
  ·have h2:t.kids.length=2:=by simp at h2;omega
   obtain⟨n1,n2,n3,n4,n7,n9,ho⟩:=BC hf (by rw[Nd.jB,h2])
   rw[ek] at n1 n2 n3 n4 n7 n9
   have hn:iD s.p t.px ts=jF t.oper (iL ts 0) (iL ts 1):=by
    unfold iD
    rw[ek,Nd.fD,if_neg n1,if_neg n2,if_neg n3,if_neg n4,if_neg n7,if_neg n9,if_pos (show ts.length=2 by omega)]
   rw[Nd.fD] at ho
   refine⟨⟨by omega,by omega⟩,iL ts 0,vf (i:=0) (hmem _) (by decide),⟨by omega,by omega⟩,iL ts 1,vf (i:=1) (hmem _) (by decide), ?_⟩
   refine cg.iY (DE t.oper (iL ts 0) (iL ts 1) (by omega) I1 _) fun v I3 l3 ⟨x,hv,hx⟩=>⟨_,_,congrArg Ending.returned hv,F1,.refl _,fun hz=>?_,fun hz=>?_⟩
   ·have hz:(jF t.oper (iL ts 0) (iL ts 1)).2=false:=by simpa using hz
    have e:eb s.p t.px ts=(0,⟨152,t.pos,true⟩):=by rw[eN n2,hn,hz];rfl
    refine cg.iY (wr e) fun v I4 l4 hv=>?_
    obtain⟨w,hv1,hw⟩:=id hv
    exact⟨_,_,by rw[hv1],F1,.refl _,by rw[←hv1];exact finw hv⟩
   ·have hz:(jF t.oper (iL ts 0) (iL ts 1)).2=true:=by simpa using hz
    exact fin (by rw[eN n2,hn,if_pos hz,←hx hz])
  ·have h3:3≤t.px.kids.length:=by
    rw[Nd.jB]
    have g0:t.kids.length≠0:=fun e=>by rw[e] at h;cases h
    have g1:t.kids.length≠1:=fun e=>by rw[e] at h1;cases h1
    have g2:t.kids.length≠2:=fun e=>by rw[e] at h2;cases h2
    omega
   obtain⟨k7,k3⟩:=EZ hf h3
   rw[Nd.jB] at k3
   rw[ek] at k7
   have hn:iD s.p t.px ts=(iL ts 1,iL ts 0==5&&iL ts 1==iL ts 2):=by
    unfold iD
    rw[ek,if_neg (show ¬t.kind=1 by omega),if_neg (show ¬t.kind=2 by omega),if_neg (show ¬t.kind=3 by omega),if_neg (show ¬t.kind=4 by omega),if_pos k7]
   have n2:¬t.kind=2:=by omega
   refine⟨⟨by omega,by omega⟩,iL ts 1,vf (i:=1) (hmem _) (by decide),⟨by omega,by omega⟩,iL ts 0,vf (i:=0) (hmem _) (by decide),fun h5=>⟨⟨by omega,by omega⟩,iL ts 1,vf (i:=1) (hmem _) (by decide),⟨by omega,by omega⟩,iL ts 2,vf (i:=2) (hmem _) (by decide),fun hz=>?_,fun hz=>?_⟩,fun h5=>⟨fun _=>?_,fun h=>(by cases h)⟩⟩
   ·have e:eb s.p t.px ts=(0,⟨152,t.pos,true⟩):=by
     rw[eN n2,hn]
     have:(iL ts 1==iL ts 2)=false:=by simpa using hz
     rw[this,Bool.and_false];rfl
    refine cg.iY (wr e) fun v I4 l4 hv=>?_
    obtain⟨w,hv1,hw⟩:=id hv
    exact⟨_,_,by rw[hv1],F1,.refl _,by rw[←hv1];exact finw hv⟩
   ·have h12:(iL ts 1==iL ts 2)=true:=by simpa using hz
    exact fin (by rw[eN n2,hn,h5,h12];rfl)
   ·have e:eb s.p t.px ts=(0,⟨152,t.pos,true⟩):=by
     rw[eN n2,hn,h5,Bool.false_and];rfl
    refine cg.iY (wr e) fun v I4 l4 hv=>?_
    obtain⟨w,hv1,hw⟩:=id hv
    exact⟨_,_,by rw[hv1],F1,.refl _,by rw[←hv1];exact finw hv⟩
end Go.Lx
namespace Go.As
open Go.RowKit Go.Extern.Stop Go.Stop Go.Extern
theorem Jh(z:Sem Value)(f:TypeId→Addr→Nat→Nat→Sem Value)(v:Value) :
  ReflectliteValue.method z f #[v]=(do match ←ReflectliteValue.parts v with | none=>z | some (t,a,fl)=>f t a fl (fl % 32)):=rfl
theorem JO(v x:Value):ReflectliteValue.set #[v,x]=(do
  let (some (dst,a,fl),some (src,b,_)):=(←ReflectliteValue.parts v,←ReflectliteValue.parts x)
   | unsupported (.noEntry "extern/(internal/reflectlite.Value).Set.zeroValue")
  if fl / ReflectliteValue.flagAddr % 2==0 then unsupported (.noEntry "extern/(internal/reflectlite.Value).Set.unaddressable")
  let val ←loadVar src b
  if ←Rtype.directlyAssignable dst src then storeVar dst a val
  else if ←Rtype.implements dst src then
   if (←Rtype.kind src)==20 then
    match val with
    | .nilIface=>unsupported (.noEntry "extern/reflectlite: a nil value of one interface type handed on as a value of another")
    | _=>storeVar dst a val
   else storeVar dst a (.iface src val)
  else panicString ("reflectlite.Set: value of type " ++ (←Rtype.spelt src) ++ " is not assignable to type " ++ (←Rtype.spelt dst))
  pure (.tuple #[])):=rfl
theorem vg(h:Value)(w:World):(Go.method 359 171 (.agg #[h]) "Kind").run Go.Proofs.Tryz.prog w=.ok (189,h) w:=by kernel_rfl
theorem vh(h:Value)(w:World):(Go.method 359 171 (.agg #[h]) "Elem").run Go.Proofs.Tryz.prog w=.ok (201,.agg #[h]) w:=by kernel_rfl
theorem lW(h:Value)(w:World):(Go.method 359 171 (.agg #[h]) "Implements").run Go.Proofs.Tryz.prog w=.ok (202,.agg #[h]) w:=by kernel_rfl
theorem eA(h:Value)(w:World):(Go.method 359 171 (.agg #[h]) "AssignableTo").run Go.Proofs.Tryz.prog w=.ok (199,.agg #[h]) w:=by kernel_rfl
theorem E1(t:Addr)(w:World):(ReflectliteValue.unpack (.iface 91 (.pointer (some t)))).run Go.Proofs.Tryz.prog w=.ok (.agg #[.pointer (some ⟨1,91,none⟩),.pointer (some ⟨w.heap.size,0,none⟩),.int .u64 150]) (w.alloc (.cells #[.pointer (some t)] 91)):=by kernel_rfl
theorem ID(a:Addr)(w:World):(ReflectliteValue.methodAny (ReflectliteValue.valueError "reflectlite.Value.Type" 0) (fun t _ _ _=>ReflectliteType.toType t) #[(.agg #[.pointer (some ⟨1,91,none⟩),.pointer (some a),.int .u64 150])]).run Go.Proofs.Tryz.prog w=.ok (.iface 171 (.agg #[.pointer (some ⟨1,91,none⟩)])) w:=by kernel_rfl
theorem HB(w:World):((ReflectliteType.abiMethod fun t=>(fun a:Nat=>Value.int IntKind.u8 (a:Int)) <$> Rtype.kind t) #[.pointer (some ⟨1,91,none⟩)]).run Go.Proofs.Tryz.prog w=.ok (.int .u8 22) w:=by kernel_rfl
theorem IE(w:World):((ReflectliteType.abiMethod fun t=>(fun a:Nat=>Value.int IntKind.u8 (a:Int)) <$> Rtype.kind t) #[.pointer (some ⟨1,89,none⟩)]).run Go.Proofs.Tryz.prog w=.ok (.int .u8 22) w:=by kernel_rfl
theorem Cy(a:Addr)(w:World):(ReflectliteValue.parts (.agg #[.pointer (some ⟨1,91,none⟩),.pointer (some a),.int .u64 150])).run Go.Proofs.Tryz.prog w=.ok (some (91,a,150)) w:=by kernel_rfl
theorem Cz:Go.Proofs.Tryz.prog.underlying 91=some (.pointer 89):=by kernel_rfl
theorem HC(a p:Addr)(W:World)(ha:W.cell? a=some (.pointer (some p))) :
  (ReflectliteValue.method (ReflectliteValue.valueError "reflectlite.Value.IsNil" 0) ReflectliteValue.isNil #[(.agg #[.pointer (some ⟨1,91,none⟩),.pointer (some a),.int .u64 150])]).run Go.Proofs.Tryz.prog W=.ok (.bool false) W:=by
 rw[Jh]
 simp only[Sem.run_bind,Cy,Result.andThen]
 simp[ReflectliteValue.isNil,loadVar,isAgg,underlying,Cz,ha,Result.andThen]
theorem IF(w:World):(ReflectliteType.method ReflectliteType.elem #[.agg #[.pointer (some ⟨1,91,none⟩)]]).run Go.Proofs.Tryz.prog w=.ok (.iface 171 (.agg #[.pointer (some ⟨1,89,none⟩)])) w:=by kernel_rfl
theorem IG(w:World):(ReflectliteType.relation "Implements" ReflectliteType.implements_ #[.agg #[.pointer (some ⟨1,89,none⟩)],.iface 171 (.agg #[.pointer (some ⟨1,44,none⟩)])]).run Go.Proofs.Tryz.prog w=.ok (.bool true) w:=by kernel_rfl
theorem xU(v:Value)(w:World):(ReflectliteType.typeOf #[.iface 89 v]).run Go.Proofs.Tryz.prog w=.ok (.iface 171 (.agg #[.pointer (some ⟨1,89,none⟩)])) w:=by kernel_rfl
theorem FY(w:World):(Rtype.elem? 91).run Go.Proofs.Tryz.prog w=.ok (some 89) w:=by kernel_rfl
theorem JR(p:Addr)(w:World):(ReflectliteValue.mk 89 p ReflectliteValue.flagAddr).run Go.Proofs.Tryz.prog w=.ok (.agg #[.pointer (some ⟨1,89,none⟩),.pointer (some p),.int .u64 406]) w:=by kernel_rfl
theorem HD(a p:Addr)(W:World)(ha:W.cell? a=some (.pointer (some p))) :
  (ReflectliteValue.method (ReflectliteValue.valueError "reflectlite.Value.Elem" 0) ReflectliteValue.elem #[(.agg #[.pointer (some ⟨1,91,none⟩),.pointer (some a),.int .u64 150])]).run Go.Proofs.Tryz.prog W=.ok (.agg #[.pointer (some ⟨1,89,none⟩),.pointer (some p),.int .u64 406]) W:=by
 rw[Jh]
 simp only[Sem.run_bind,Cy,Result.andThen]
 simp[ReflectliteValue.elem,loadVar,isAgg,underlying,Cz,ha,Result.andThen,FY,JR]
theorem FZ(a:Addr)(w:World):(ReflectliteValue.parts (.agg #[.pointer (some ⟨1,89,none⟩),.pointer (some a),.int .u64 406])).run Go.Proofs.Tryz.prog w=.ok (some (89,a,406)) w:=by kernel_rfl
theorem HE(a:Addr)(w:World):(ReflectliteValue.parts (.agg #[.pointer (some ⟨1,89,none⟩),.pointer (some a),.int .u64 150])).run Go.Proofs.Tryz.prog w=.ok (some (89,a,150)) w:=by kernel_rfl
theorem Ga(w:World):(Rtype.directlyAssignable 89 89).run Go.Proofs.Tryz.prog w=.ok true w:=by kernel_rfl
theorem HF:Go.Proofs.Tryz.prog.underlying 89=some (.pointer 93):=by kernel_rfl
theorem HG(x:Addr)(w:World):(ReflectliteValue.unpack (.iface 89 (.pointer (some x)))).run Go.Proofs.Tryz.prog w=.ok (.agg #[.pointer (some ⟨1,89,none⟩),.pointer (some ⟨w.heap.size,0,none⟩),.int .u64 150]) (w.alloc (.cells #[.pointer (some x)] 89)):=by kernel_rfl
theorem Ju(ta b:Addr)(x:Addr)(old:Value)(W:World)(hb:W.cell? b=some (.pointer (some x)))(ht:W.cell? ta=some old)(hf:W.frozen? ta=false) :
  (ReflectliteValue.set #[(.agg #[.pointer (some ⟨1,89,none⟩),.pointer (some ta),.int .u64 406]),(.agg #[.pointer (some ⟨1,89,none⟩),.pointer (some b),.int .u64 150])]).run Go.Proofs.Tryz.prog W=.ok (.tuple #[]) (W.setCell ta (.pointer (some x))):=by
 rw[JO]
 simp only[Sem.run_bind,FZ,HE,Result.andThen]
 simp[ReflectliteValue.flagAddr,loadVar,isAgg,underlying,HF,hb,Result.andThen,Ga,storeVar,Value.cells,storeCells,Addr.add]
 rw[run_store Go.Proofs.Tryz.prog W ta _ _ (by rfl)]
 simp[ht,hf]
theorem E2(t:Addr)(w:World):(ReflectliteValue.unpack (.iface 94 (.pointer (some t)))).run Go.Proofs.Tryz.prog w=.ok (.agg #[.pointer (some ⟨1,94,none⟩),.pointer (some ⟨w.heap.size,0,none⟩),.int .u64 150]) (w.alloc (.cells #[.pointer (some t)] 94)):=by kernel_rfl
theorem IH(a:Addr)(w:World):(ReflectliteValue.methodAny (ReflectliteValue.valueError "reflectlite.Value.Type" 0) (fun t _ _ _=>ReflectliteType.toType t) #[(.agg #[.pointer (some ⟨1,94,none⟩),.pointer (some a),.int .u64 150])]).run Go.Proofs.Tryz.prog w=.ok (.iface 171 (.agg #[.pointer (some ⟨1,94,none⟩)])) w:=by kernel_rfl
theorem HH(w:World):((ReflectliteType.abiMethod fun t=>(fun a:Nat=>Value.int IntKind.u8 (a:Int)) <$> Rtype.kind t) #[.pointer (some ⟨1,94,none⟩)]).run Go.Proofs.Tryz.prog w=.ok (.int .u8 22) w:=by kernel_rfl
theorem II(w:World):((ReflectliteType.abiMethod fun t=>(fun a:Nat=>Value.int IntKind.u8 (a:Int)) <$> Rtype.kind t) #[.pointer (some ⟨1,47,none⟩)]).run Go.Proofs.Tryz.prog w=.ok (.int .u8 2) w:=by kernel_rfl
theorem CA(a:Addr)(w:World):(ReflectliteValue.parts (.agg #[.pointer (some ⟨1,94,none⟩),.pointer (some a),.int .u64 150])).run Go.Proofs.Tryz.prog w=.ok (some (94,a,150)) w:=by kernel_rfl
theorem CB:Go.Proofs.Tryz.prog.underlying 94=some (.pointer 47):=by kernel_rfl
theorem HI(a p:Addr)(W:World)(ha:W.cell? a=some (.pointer (some p))) :
  (ReflectliteValue.method (ReflectliteValue.valueError "reflectlite.Value.IsNil" 0) ReflectliteValue.isNil #[(.agg #[.pointer (some ⟨1,94,none⟩),.pointer (some a),.int .u64 150])]).run Go.Proofs.Tryz.prog W=.ok (.bool false) W:=by
 rw[Jh]
 simp only[Sem.run_bind,CA,Result.andThen]
 simp[ReflectliteValue.isNil,loadVar,isAgg,underlying,CB,ha,Result.andThen]
theorem IJ(w:World):(ReflectliteType.method ReflectliteType.elem #[.agg #[.pointer (some ⟨1,94,none⟩)]]).run Go.Proofs.Tryz.prog w=.ok (.iface 171 (.agg #[.pointer (some ⟨1,47,none⟩)])) w:=by kernel_rfl
theorem IK(w:World):(ReflectliteType.relation "Implements" ReflectliteType.implements_ #[.agg #[.pointer (some ⟨1,47,none⟩)],.iface 171 (.agg #[.pointer (some ⟨1,44,none⟩)])]).run Go.Proofs.Tryz.prog w=.ok (.bool true) w:=by kernel_rfl
theorem tE(v:Value)(w:World):(ReflectliteType.typeOf #[.iface 47 v]).run Go.Proofs.Tryz.prog w=.ok (.iface 171 (.agg #[.pointer (some ⟨1,47,none⟩)])) w:=by kernel_rfl
theorem Gb(w:World):(Rtype.elem? 94).run Go.Proofs.Tryz.prog w=.ok (some 47) w:=by kernel_rfl
theorem JS(p:Addr)(w:World):(ReflectliteValue.mk 47 p ReflectliteValue.flagAddr).run Go.Proofs.Tryz.prog w=.ok (.agg #[.pointer (some ⟨1,47,none⟩),.pointer (some p),.int .u64 386]) w:=by kernel_rfl
theorem BE(a p:Addr)(W:World)(ha:W.cell? a=some (.pointer (some p))) :
  (ReflectliteValue.method (ReflectliteValue.valueError "reflectlite.Value.Elem" 0) ReflectliteValue.elem #[(.agg #[.pointer (some ⟨1,94,none⟩),.pointer (some a),.int .u64 150])]).run Go.Proofs.Tryz.prog W=.ok (.agg #[.pointer (some ⟨1,47,none⟩),.pointer (some p),.int .u64 386]) W:=by
 rw[Jh]
 simp only[Sem.run_bind,CA,Result.andThen]
 simp[ReflectliteValue.elem,loadVar,isAgg,underlying,CB,ha,Result.andThen,Gb,JS]
theorem Gc(a:Addr)(w:World):(ReflectliteValue.parts (.agg #[.pointer (some ⟨1,47,none⟩),.pointer (some a),.int .u64 386])).run Go.Proofs.Tryz.prog w=.ok (some (47,a,386)) w:=by kernel_rfl
theorem HJ(a:Addr)(w:World):(ReflectliteValue.parts (.agg #[.pointer (some ⟨1,47,none⟩),.pointer (some a),.int .u64 130])).run Go.Proofs.Tryz.prog w=.ok (some (47,a,130)) w:=by kernel_rfl
theorem Gd(w:World):(Rtype.directlyAssignable 47 47).run Go.Proofs.Tryz.prog w=.ok true w:=by kernel_rfl
theorem HK:Go.Proofs.Tryz.prog.underlying 47=some (.int .i64):=by kernel_rfl
theorem BF(x:Int)(w:World):(ReflectliteValue.unpack (.iface 47 (.int .i64 x))).run Go.Proofs.Tryz.prog w=.ok (.agg #[.pointer (some ⟨1,47,none⟩),.pointer (some ⟨w.heap.size,0,none⟩),.int .u64 130]) (w.alloc (.cells #[.int .i64 x] 47)):=by kernel_rfl
theorem HL(ta b:Addr)(x:Int)(old:Value)(W:World)(hb:W.cell? b=some (.int .i64 x))(ht:W.cell? ta=some old)(hf:W.frozen? ta=false) :
  (ReflectliteValue.set #[(.agg #[.pointer (some ⟨1,47,none⟩),.pointer (some ta),.int .u64 386]),(.agg #[.pointer (some ⟨1,47,none⟩),.pointer (some b),.int .u64 130])]).run Go.Proofs.Tryz.prog W=.ok (.tuple #[]) (W.setCell ta (.int .i64 x)):=by
 rw[JO]
 simp only[Sem.run_bind,Gc,HJ,Result.andThen]
 simp[ReflectliteValue.flagAddr,loadVar,isAgg,underlying,HK,hb,Result.andThen,Gd,storeVar,Value.cells,storeCells,Addr.add]
 rw[run_store Go.Proofs.Tryz.prog W ta _ _ (by rfl)]
 simp[ht,hf]
theorem E3(w:World):(ReflectliteType.relation "AssignableTo" ReflectliteType.assignableTo #[.agg #[.pointer (some ⟨1,89,none⟩)],.iface 171 (.agg #[.pointer (some ⟨1,89,none⟩)])]).run Go.Proofs.Tryz.prog w=.ok (.bool true) w:=by kernel_rfl
theorem zS(w:World):(ReflectliteType.relation "AssignableTo" ReflectliteType.assignableTo #[.agg #[.pointer (some ⟨1,89,none⟩)],.iface 171 (.agg #[.pointer (some ⟨1,47,none⟩)])]).run Go.Proofs.Tryz.prog w=.ok (.bool false) w:=by kernel_rfl
theorem E4(w:World):(ReflectliteType.relation "AssignableTo" ReflectliteType.assignableTo #[.agg #[.pointer (some ⟨1,47,none⟩)],.iface 171 (.agg #[.pointer (some ⟨1,89,none⟩)])]).run Go.Proofs.Tryz.prog w=.ok (.bool false) w:=by kernel_rfl
theorem vj(w:World):(ReflectliteType.relation "AssignableTo" ReflectliteType.assignableTo #[.agg #[.pointer (some ⟨1,47,none⟩)],.iface 171 (.agg #[.pointer (some ⟨1,47,none⟩)])]).run Go.Proofs.Tryz.prog w=.ok (.bool true) w:=by kernel_rfl
theorem GI(v:Value)(xT:TypeId)(w:World):(Instr.typeAssert (.iface 89 v) xT 176 true).run Go.Proofs.Tryz.prog w=.ok (.tuple #[.nilIface,.bool false]) w:=run_typeAssert_lacksB Go.Proofs.Tryz.underlying176 (by kernel_rfl) (by kernel_rfl) v xT w
theorem GJ(v:Value)(xT:TypeId)(w:World):(Instr.typeAssert (.iface 89 v) xT 179 true).run Go.Proofs.Tryz.prog w=.ok (.tuple #[.iface 89 v,.bool true]) w:=run_typeAssert_hasB Go.Proofs.Tryz.underlying179 (by kernel_rfl) v xT w
theorem IL(v:Value)(xT:TypeId)(w:World):(Instr.typeAssert (.iface 47 v) xT 176 true).run Go.Proofs.Tryz.prog w=.ok (.tuple #[.nilIface,.bool false]) w:=run_typeAssert_lacksB Go.Proofs.Tryz.underlying176 (by kernel_rfl) (by kernel_rfl) v xT w
theorem IM(v:Value)(xT:TypeId)(w:World):(Instr.typeAssert (.iface 47 v) xT 179 true).run Go.Proofs.Tryz.prog w=.ok (.tuple #[.nilIface,.bool false]) w:=run_typeAssert_lacksB Go.Proofs.Tryz.underlying179 (by kernel_rfl) (by kernel_rfl) v xT w
theorem IP(v:Value)(xT:TypeId)(w:World):(Instr.typeAssert (.iface 47 v) xT 181 true).run Go.Proofs.Tryz.prog w=.ok (.tuple #[.nilIface,.bool false]) w:=run_typeAssert_lacksB Go.Proofs.Tryz.underlying181 (by kernel_rfl) (by kernel_rfl) v xT w
theorem ry(e:Addr)(w:World):(Go.method 359 89 (.pointer (some e)) "Unwrap").run Go.Proofs.Tryz.prog w=.ok (194,.pointer (some e)) w:=by kernel_rfl
abbrev Jv:Value:=.iface 171 (.agg #[.pointer (some ⟨1,89,none⟩)])
abbrev Ji:Value:=.iface 171 (.agg #[.pointer (some ⟨1,47,none⟩)])
abbrev vM(PT:Nat)(a:Addr):Obj:=.cells #[.pointer (some ⟨1,PT,none⟩),.pointer (some a),.int .u64 150] 120
set_option maxHeartbeats 4000000 in
theorem IQ(e t a:Addr)(old tgt:Value)(w:World)(ha:w.cell? a=some (.pointer (some t)))(ht0:w.cell? t=some old)(hf0:w.frozen? t=false) :
  Calls Go.Proofs.Tryz.prog 72 #[.iface 89 (.pointer (some e)),tgt,.agg #[.pointer (some ⟨1,91,none⟩),.pointer (some a),.int .u64 150],Jv] w fun ev w'=>ev=.returned (.bool true) ∧
   w'=((w.alloc (vM 91 a)).alloc (.cells #[.pointer (some e)] 89)).setCell t (.pointer (some e)):=by
 have hTO:=@run_callFunc_extern Go.Proofs.Tryz.prog 110 _ ReflectliteType.typeOf Go.Proofs.Tryz.func110 (by kernel_rfl) (by kernel_rfl) (by kernel_rfl) (by kernel_rfl)
 have hA:=@run_callFunc_extern Go.Proofs.Tryz.prog 199 _ (ReflectliteType.relation "AssignableTo" ReflectliteType.assignableTo) Go.Proofs.Tryz.func199 (by kernel_rfl) (by kernel_rfl) (by kernel_rfl) (by kernel_rfl)
 have hVE:=@run_callFunc_extern Go.Proofs.Tryz.prog 111 _ (ReflectliteValue.method (ReflectliteValue.valueError "reflectlite.Value.Elem" 0) ReflectliteValue.elem) Go.Proofs.Tryz.func111 (by kernel_rfl) (by kernel_rfl) (by kernel_rfl) (by kernel_rfl)
 have hS:=@run_callFunc_extern Go.Proofs.Tryz.prog 112 _ ReflectliteValue.set Go.Proofs.Tryz.func112 (by kernel_rfl) (by kernel_rfl) (by kernel_rfl) (by kernel_rfl)
 have hV:=@run_callFunc_extern Go.Proofs.Tryz.prog 69 _ (fun args=>ReflectliteValue.unpack (args.getD 0 (.tuple #[]))) Go.Proofs.Tryz.func69 (by kernel_rfl) (by kernel_rfl) (by kernel_rfl) (by kernel_rfl)
 have tO:=xU
 have mA:=eA
 have aF:=E3
 have vF:=HG
 have hal:a.block<w.heap.size:=by
  rcases Nat.lt_or_ge a.block w.heap.size with h | h
  ·exact h
  ·simp[World.cell?,Array.getElem?_eq_none h] at ha
 have htl:t.block<w.heap.size:=by
  rcases Nat.lt_or_ge t.block w.heap.size with h | h
  ·exact h
  ·simp[World.cell?,Array.getElem?_eq_none h] at ht0
 have el:=HD a t (w.alloc (vM 91 a)) (by rw[World.cell?_alloc_lt _ _ a hal];exact ha)
 have st:=Ju t ⟨w.heap.size+1,0,none⟩ e old ((w.alloc (vM 91 a)).alloc (.cells #[.pointer (some e)] 89))
  (by rw[World.cell?_alloc_at _ _ _ _ (by simp)];rfl)
  (by rw[World.cell?_alloc_lt _ _ t (by simp;omega),World.cell?_alloc_lt _ _ t htl];exact ht0)
  (by rw[World.frozen?_alloc_old _ _ t (by simp;omega),World.frozen?_alloc_old _ _ t (Nat.ne_of_lt htl)];exact hf0)
 go_enter Go.Proofs.Tryz.func72,Go.Proofs.Tryz.ntmps72
 go_wp2
 refine wp_loop_rounds 1 ?_
 rw[rounds_succ]
 go_wp2
 go_ret
 exact⟨rfl,rfl⟩
set_option maxHeartbeats 4000000 in
theorem IU(n:Int)(a:Addr)(tgt:Value)(w:World) :
  Calls Go.Proofs.Tryz.prog 72 #[.iface 47 (.int .i64 n),tgt,.agg #[.pointer (some ⟨1,91,none⟩),.pointer (some a),.int .u64 150],Jv] w fun ev w'=>ev=.returned (.bool false) ∧
   w'=w.alloc (vM 91 a):=by
 have hTO:=@run_callFunc_extern Go.Proofs.Tryz.prog 110 _ ReflectliteType.typeOf Go.Proofs.Tryz.func110 (by kernel_rfl) (by kernel_rfl) (by kernel_rfl) (by kernel_rfl)
 have hA:=@run_callFunc_extern Go.Proofs.Tryz.prog 199 _ (ReflectliteType.relation "AssignableTo" ReflectliteType.assignableTo) Go.Proofs.Tryz.func199 (by kernel_rfl) (by kernel_rfl) (by kernel_rfl) (by kernel_rfl)
 have tO:=tE
 have mA:=eA
 have aF:=E4
 have t1:=IL
 have t2:=IM
 have t3:=IP
 go_enter Go.Proofs.Tryz.func72,Go.Proofs.Tryz.ntmps72
 go_wp2
 refine wp_loop_rounds 1 ?_
 rw[rounds_succ]
 go_wp2
 go_ret
 exact⟨rfl,rfl⟩
set_option maxHeartbeats 4000000 in
theorem IV(n:Int)(t a:Addr)(old tgt:Value)(w:World)(ha:w.cell? a=some (.pointer (some t)))(ht0:w.cell? t=some old)(hf0:w.frozen? t=false) :
  Calls Go.Proofs.Tryz.prog 72 #[.iface 47 (.int .i64 n),tgt,.agg #[.pointer (some ⟨1,94,none⟩),.pointer (some a),.int .u64 150],Ji] w fun ev w'=>ev=.returned (.bool true) ∧
   w'=((w.alloc (vM 94 a)).alloc (.cells #[.int .i64 n] 47)).setCell t (.int .i64 n):=by
 have hTO:=@run_callFunc_extern Go.Proofs.Tryz.prog 110 _ ReflectliteType.typeOf Go.Proofs.Tryz.func110 (by kernel_rfl) (by kernel_rfl) (by kernel_rfl) (by kernel_rfl)
 have hA:=@run_callFunc_extern Go.Proofs.Tryz.prog 199 _ (ReflectliteType.relation "AssignableTo" ReflectliteType.assignableTo) Go.Proofs.Tryz.func199 (by kernel_rfl) (by kernel_rfl) (by kernel_rfl) (by kernel_rfl)
 have hVE:=@run_callFunc_extern Go.Proofs.Tryz.prog 111 _ (ReflectliteValue.method (ReflectliteValue.valueError "reflectlite.Value.Elem" 0) ReflectliteValue.elem) Go.Proofs.Tryz.func111 (by kernel_rfl) (by kernel_rfl) (by kernel_rfl) (by kernel_rfl)
 have hS:=@run_callFunc_extern Go.Proofs.Tryz.prog 112 _ ReflectliteValue.set Go.Proofs.Tryz.func112 (by kernel_rfl) (by kernel_rfl) (by kernel_rfl) (by kernel_rfl)
 have hV:=@run_callFunc_extern Go.Proofs.Tryz.prog 69 _ (fun args=>ReflectliteValue.unpack (args.getD 0 (.tuple #[]))) Go.Proofs.Tryz.func69 (by kernel_rfl) (by kernel_rfl) (by kernel_rfl) (by kernel_rfl)
 have tO:=tE
 have mA:=eA
 have aE:=vj
 have vE:=BF
 have hal:a.block<w.heap.size:=by
  rcases Nat.lt_or_ge a.block w.heap.size with h | h
  ·exact h
  ·simp[World.cell?,Array.getElem?_eq_none h] at ha
 have htl:t.block<w.heap.size:=by
  rcases Nat.lt_or_ge t.block w.heap.size with h | h
  ·exact h
  ·simp[World.cell?,Array.getElem?_eq_none h] at ht0
 have el:=BE a t (w.alloc (vM 94 a)) (by rw[World.cell?_alloc_lt _ _ a hal];exact ha)
 have st:=HL t ⟨w.heap.size+1,0,none⟩ n old ((w.alloc (vM 94 a)).alloc (.cells #[.int .i64 n] 47))
  (by rw[World.cell?_alloc_at _ _ _ _ (by simp)];rfl)
  (by rw[World.cell?_alloc_lt _ _ t (by simp;omega),World.cell?_alloc_lt _ _ t htl];exact ht0)
  (by rw[World.frozen?_alloc_old _ _ t (by simp;omega),World.frozen?_alloc_old _ _ t (Nat.ne_of_lt htl)];exact hf0)
 go_enter Go.Proofs.Tryz.func72,Go.Proofs.Tryz.ntmps72
 go_wp2
 refine wp_loop_rounds 1 ?_
 rw[rounds_succ]
 go_wp2
 go_ret
 exact⟨rfl,rfl⟩
abbrev BG:Value:=.iface 171 (.agg #[.pointer (some ⟨1,44,none⟩)])
set_option maxHeartbeats 4000000 in
theorem IW(d:TypeId)(v:Value)(t:Addr)(w w2:World)(r:Bool)(hg:w.cell? ⟨0,0,none⟩=some BG)
  (h:Calls Go.Proofs.Tryz.prog 72 #[.iface d v,.iface 91 (.pointer (some t)),.agg #[.pointer (some ⟨1,91,none⟩),.pointer (some ⟨w.heap.size,0,none⟩),.int .u64 150],Jv] ((w.alloc (.cells #[.pointer (some t)] 91)).alloc (vM 91 ⟨w.heap.size,0,none⟩)) fun ev w'=>ev=.returned (.bool r)∧w'=w2) :
  Calls Go.Proofs.Tryz.prog 44 #[.iface d v,.iface 91 (.pointer (some t))] w fun ev w'=>ev=.returned (.bool r)∧w'=w2:=by
 have hV:=@run_callFunc_extern Go.Proofs.Tryz.prog 69 _ (fun args=>ReflectliteValue.unpack (args.getD 0 (.tuple #[]))) Go.Proofs.Tryz.func69 (by kernel_rfl) (by kernel_rfl) (by kernel_rfl) (by kernel_rfl)
 have hT:=@run_callFunc_extern Go.Proofs.Tryz.prog 70 _ (ReflectliteValue.methodAny (ReflectliteValue.valueError "reflectlite.Value.Type" 0) (fun t _ _ _=>ReflectliteType.toType t)) Go.Proofs.Tryz.func70 (by kernel_rfl) (by kernel_rfl) (by kernel_rfl) (by kernel_rfl)
 have hN:=@run_callFunc_extern Go.Proofs.Tryz.prog 71 _ (ReflectliteValue.method (ReflectliteValue.valueError "reflectlite.Value.IsNil" 0) ReflectliteValue.isNil) Go.Proofs.Tryz.func71 (by kernel_rfl) (by kernel_rfl) (by kernel_rfl) (by kernel_rfl)
 have hK:=@run_callFunc_extern Go.Proofs.Tryz.prog 189 _ (ReflectliteType.abiMethod fun t=>do pure (.int .u8 (←Rtype.kind t))) Go.Proofs.Tryz.func189 (by kernel_rfl) (by kernel_rfl) (by kernel_rfl) (by kernel_rfl)
 have hE:=@run_callFunc_extern Go.Proofs.Tryz.prog 201 _ (ReflectliteType.method ReflectliteType.elem) Go.Proofs.Tryz.func201 (by kernel_rfl) (by kernel_rfl) (by kernel_rfl) (by kernel_rfl)
 have hI:=@run_callFunc_extern Go.Proofs.Tryz.prog 202 _ (ReflectliteType.relation "Implements" ReflectliteType.implements_) Go.Proofs.Tryz.func202 (by kernel_rfl) (by kernel_rfl) (by kernel_rfl) (by kernel_rfl)
 have f6:=E1
 have f7:=ID
 have mK:=vg
 have mE:=vh
 have mI:=lW
 have kP:=HB
 have kT:=IE
 have eT:=IF
 have iT:=IG
 have n8:=HC ⟨w.heap.size,0,none⟩ t ((w.alloc (.cells #[.pointer (some t)] 91)).alloc (vM 91 ⟨w.heap.size,0,none⟩)) (by simp)
 have hlt:0<w.heap.size:=by
  rcases Nat.eq_zero_or_pos w.heap.size with h0 | h
  ·simp[World.cell?,h0] at hg
  ·exact h
 have hg2:((w.alloc (.cells #[.pointer (some t)] 91)).alloc (vM 91 ⟨w.heap.size,0,none⟩)).cell? ⟨0,0,none⟩=some BG:=by
  rw[World.cell?_alloc_lt _ _ ⟨0,0,none⟩ (by simp),World.cell?_alloc_lt _ _ ⟨0,0,none⟩ hlt];exact hg
 go_enter Go.Proofs.Tryz.func44,Go.Proofs.Tryz.ntmps44
 go_wp2_with (first | (go_at_call 72;refine h.mono ?_;rintro e w' ⟨rfl,rfl⟩))
 go_ret
 exact⟨rfl,rfl⟩
set_option maxHeartbeats 4000000 in
theorem HM(d:TypeId)(v:Value)(t:Addr)(w w2:World)(r:Bool)(hg:w.cell? ⟨0,0,none⟩=some BG)
  (h:Calls Go.Proofs.Tryz.prog 72 #[.iface d v,.iface 94 (.pointer (some t)),.agg #[.pointer (some ⟨1,94,none⟩),.pointer (some ⟨w.heap.size,0,none⟩),.int .u64 150],Ji] ((w.alloc (.cells #[.pointer (some t)] 94)).alloc (vM 94 ⟨w.heap.size,0,none⟩)) fun ev w'=>ev=.returned (.bool r)∧w'=w2) :
  Calls Go.Proofs.Tryz.prog 44 #[.iface d v,.iface 94 (.pointer (some t))] w fun ev w'=>ev=.returned (.bool r)∧w'=w2:=by
 have hV:=@run_callFunc_extern Go.Proofs.Tryz.prog 69 _ (fun args=>ReflectliteValue.unpack (args.getD 0 (.tuple #[]))) Go.Proofs.Tryz.func69 (by kernel_rfl) (by kernel_rfl) (by kernel_rfl) (by kernel_rfl)
 have hT:=@run_callFunc_extern Go.Proofs.Tryz.prog 70 _ (ReflectliteValue.methodAny (ReflectliteValue.valueError "reflectlite.Value.Type" 0) (fun t _ _ _=>ReflectliteType.toType t)) Go.Proofs.Tryz.func70 (by kernel_rfl) (by kernel_rfl) (by kernel_rfl) (by kernel_rfl)
 have hN:=@run_callFunc_extern Go.Proofs.Tryz.prog 71 _ (ReflectliteValue.method (ReflectliteValue.valueError "reflectlite.Value.IsNil" 0) ReflectliteValue.isNil) Go.Proofs.Tryz.func71 (by kernel_rfl) (by kernel_rfl) (by kernel_rfl) (by kernel_rfl)
 have hK:=@run_callFunc_extern Go.Proofs.Tryz.prog 189 _ (ReflectliteType.abiMethod fun t=>do pure (.int .u8 (←Rtype.kind t))) Go.Proofs.Tryz.func189 (by kernel_rfl) (by kernel_rfl) (by kernel_rfl) (by kernel_rfl)
 have hE:=@run_callFunc_extern Go.Proofs.Tryz.prog 201 _ (ReflectliteType.method ReflectliteType.elem) Go.Proofs.Tryz.func201 (by kernel_rfl) (by kernel_rfl) (by kernel_rfl) (by kernel_rfl)
 have hI:=@run_callFunc_extern Go.Proofs.Tryz.prog 202 _ (ReflectliteType.relation "Implements" ReflectliteType.implements_) Go.Proofs.Tryz.func202 (by kernel_rfl) (by kernel_rfl) (by kernel_rfl) (by kernel_rfl)
 have f6:=E2
 have f7:=IH
 have mK:=vg
 have mE:=vh
 have mI:=lW
 have kP:=HH
 have kT:=II
 have eT:=IJ
 have iT:=IK
 have n8:=HI ⟨w.heap.size,0,none⟩ t ((w.alloc (.cells #[.pointer (some t)] 94)).alloc (vM 94 ⟨w.heap.size,0,none⟩)) (by simp)
 have hlt:0<w.heap.size:=by
  rcases Nat.eq_zero_or_pos w.heap.size with h0 | h
  ·simp[World.cell?,h0] at hg
  ·exact h
 have hg2:((w.alloc (.cells #[.pointer (some t)] 94)).alloc (vM 94 ⟨w.heap.size,0,none⟩)).cell? ⟨0,0,none⟩=some BG:=by
  rw[World.cell?_alloc_lt _ _ ⟨0,0,none⟩ (by simp),World.cell?_alloc_lt _ _ ⟨0,0,none⟩ hlt];exact hg
 go_enter Go.Proofs.Tryz.func44,Go.Proofs.Tryz.ntmps44
 go_wp2_with (first | (go_at_call 72;refine h.mono ?_;rintro e w' ⟨rfl,rfl⟩))
 go_ret
 exact⟨rfl,rfl⟩
open Go.Vc (Sat)
theorem BH(b:Nat)(v:Value)(w:World)(he:w.cell? ⟨b,2,none⟩=some v):Calls Go.Proofs.Tryz.prog 194 #[.pointer (some ⟨b,0,none⟩)] w fun ev w'=>ev=.returned v∧w'=w:=by
 go_enter Go.Proofs.Tryz.func194,Go.Proofs.Tryz.ntmps194
 go_wp2
 go_ret
 exact⟨rfl,rfl⟩
set_option maxHeartbeats 4000000 in
theorem HN(b:Nat)(n:Int)(t a:Addr)(old tgt:Value)(w:World)(he:w.cell? ⟨b,2,none⟩=some (.iface 47 (.int .i64 n)))(ha:w.cell? a=some (.pointer (some t)))(ht0:w.cell? t=some old)(hf0:w.frozen? t=false) :
  Calls Go.Proofs.Tryz.prog 72 #[.iface 89 (.pointer (some ⟨b,0,none⟩)),tgt,.agg #[.pointer (some ⟨1,94,none⟩),.pointer (some a),.int .u64 150],Ji] w fun ev w'=>ev=.returned (.bool true) ∧
   w'=((w.alloc (vM 94 a)).alloc (.cells #[.int .i64 n] 47)).setCell t (.int .i64 n):=by
 have hTO:=@run_callFunc_extern Go.Proofs.Tryz.prog 110 _ ReflectliteType.typeOf Go.Proofs.Tryz.func110 (by kernel_rfl) (by kernel_rfl) (by kernel_rfl) (by kernel_rfl)
 have hA:=@run_callFunc_extern Go.Proofs.Tryz.prog 199 _ (ReflectliteType.relation "AssignableTo" ReflectliteType.assignableTo) Go.Proofs.Tryz.func199 (by kernel_rfl) (by kernel_rfl) (by kernel_rfl) (by kernel_rfl)
 have hVE:=@run_callFunc_extern Go.Proofs.Tryz.prog 111 _ (ReflectliteValue.method (ReflectliteValue.valueError "reflectlite.Value.Elem" 0) ReflectliteValue.elem) Go.Proofs.Tryz.func111 (by kernel_rfl) (by kernel_rfl) (by kernel_rfl) (by kernel_rfl)
 have hS:=@run_callFunc_extern Go.Proofs.Tryz.prog 112 _ ReflectliteValue.set Go.Proofs.Tryz.func112 (by kernel_rfl) (by kernel_rfl) (by kernel_rfl) (by kernel_rfl)
 have hV:=@run_callFunc_extern Go.Proofs.Tryz.prog 69 _ (fun args=>ReflectliteValue.unpack (args.getD 0 (.tuple #[]))) Go.Proofs.Tryz.func69 (by kernel_rfl) (by kernel_rfl) (by kernel_rfl) (by kernel_rfl)
 have tO:=tE
 have tO2:=xU
 have mA:=eA
 have aE:=vj
 have aF:=zS
 have vE:=BF
 have t1:=GI
 have t2:=GJ
 have mU:=ry
 have hal:a.block<w.heap.size:=by
  rcases Nat.lt_or_ge a.block w.heap.size with h | h
  ·exact h
  ·simp[World.cell?,Array.getElem?_eq_none h] at ha
 have hel:b<w.heap.size:=by
  rcases Nat.lt_or_ge b w.heap.size with h | h
  ·exact h
  ·simp[World.cell?,Array.getElem?_eq_none h] at he
 have htl:t.block<w.heap.size:=by
  rcases Nat.lt_or_ge t.block w.heap.size with h | h
  ·exact h
  ·simp[World.cell?,Array.getElem?_eq_none h] at ht0
 have he1:(w.alloc (vM 94 a)).cell? ⟨b,2,none⟩=some (.iface 47 (.int .i64 n)):=by rw[World.cell?_alloc_lt _ _ _ hel];exact he
 have el:=BE a t (w.alloc (vM 94 a)) (by rw[World.cell?_alloc_lt _ _ a hal];exact ha)
 have st:=HL t ⟨w.heap.size+1,0,none⟩ n old ((w.alloc (vM 94 a)).alloc (.cells #[.int .i64 n] 47))
  (by rw[World.cell?_alloc_at _ _ _ _ (by simp)];rfl)
  (by rw[World.cell?_alloc_lt _ _ t (by simp;omega),World.cell?_alloc_lt _ _ t htl];exact ht0)
  (by rw[World.frozen?_alloc_old _ _ t (by simp;omega),World.frozen?_alloc_old _ _ t (Nat.ne_of_lt htl)];exact hf0)
 go_enter Go.Proofs.Tryz.func72,Go.Proofs.Tryz.ntmps72
 go_wp2
 refine wp_loop_rounds 2 ?_
 rw[rounds_succ]
 go_wp2_with (first | (go_at_call 194;refine (BH b _ _ he1).mono ?_;rintro e w' ⟨rfl,rfl⟩))
 rw[rounds_succ]
 go_wp2
 go_ret
 exact⟨rfl,rfl⟩
set_option maxHeartbeats 4000000 in
theorem HO(b c:Nat)(n:Int)(t a:Addr)(old tgt:Value)(w:World)(he:w.cell? ⟨b,2,none⟩=some (.iface 89 (.pointer (some ⟨c,0,none⟩))))(hc:w.cell? ⟨c,2,none⟩=some (.iface 47 (.int .i64 n)))(ha:w.cell? a=some (.pointer (some t)))(ht0:w.cell? t=some old)(hf0:w.frozen? t=false) :
  Calls Go.Proofs.Tryz.prog 72 #[.iface 89 (.pointer (some ⟨b,0,none⟩)),tgt,.agg #[.pointer (some ⟨1,94,none⟩),.pointer (some a),.int .u64 150],Ji] w fun ev w'=>ev=.returned (.bool true) ∧
   w'=((w.alloc (vM 94 a)).alloc (.cells #[.int .i64 n] 47)).setCell t (.int .i64 n):=by
 have hTO:=@run_callFunc_extern Go.Proofs.Tryz.prog 110 _ ReflectliteType.typeOf Go.Proofs.Tryz.func110 (by kernel_rfl) (by kernel_rfl) (by kernel_rfl) (by kernel_rfl)
 have hA:=@run_callFunc_extern Go.Proofs.Tryz.prog 199 _ (ReflectliteType.relation "AssignableTo" ReflectliteType.assignableTo) Go.Proofs.Tryz.func199 (by kernel_rfl) (by kernel_rfl) (by kernel_rfl) (by kernel_rfl)
 have hVE:=@run_callFunc_extern Go.Proofs.Tryz.prog 111 _ (ReflectliteValue.method (ReflectliteValue.valueError "reflectlite.Value.Elem" 0) ReflectliteValue.elem) Go.Proofs.Tryz.func111 (by kernel_rfl) (by kernel_rfl) (by kernel_rfl) (by kernel_rfl)
 have hS:=@run_callFunc_extern Go.Proofs.Tryz.prog 112 _ ReflectliteValue.set Go.Proofs.Tryz.func112 (by kernel_rfl) (by kernel_rfl) (by kernel_rfl) (by kernel_rfl)
 have hV:=@run_callFunc_extern Go.Proofs.Tryz.prog 69 _ (fun args=>ReflectliteValue.unpack (args.getD 0 (.tuple #[]))) Go.Proofs.Tryz.func69 (by kernel_rfl) (by kernel_rfl) (by kernel_rfl) (by kernel_rfl)
 have tO:=tE
 have tO2:=xU
 have mA:=eA
 have aE:=vj
 have aF:=zS
 have vE:=BF
 have t1:=GI
 have t2:=GJ
 have mU:=ry
 have hal:a.block<w.heap.size:=by
  rcases Nat.lt_or_ge a.block w.heap.size with h | h
  ·exact h
  ·simp[World.cell?,Array.getElem?_eq_none h] at ha
 have hel:b<w.heap.size:=by
  rcases Nat.lt_or_ge b w.heap.size with h | h
  ·exact h
  ·simp[World.cell?,Array.getElem?_eq_none h] at he
 have htl:t.block<w.heap.size:=by
  rcases Nat.lt_or_ge t.block w.heap.size with h | h
  ·exact h
  ·simp[World.cell?,Array.getElem?_eq_none h] at ht0
 have he1:(w.alloc (vM 94 a)).cell? ⟨b,2,none⟩=some (.iface 89 (.pointer (some ⟨c,0,none⟩))):=by rw[World.cell?_alloc_lt _ _ _ hel];exact he
 have hcl:c<w.heap.size:=by
  rcases Nat.lt_or_ge c w.heap.size with h | h
  ·exact h
  ·simp[World.cell?,Array.getElem?_eq_none h] at hc
 have hc1:(w.alloc (vM 94 a)).cell? ⟨c,2,none⟩=some (.iface 47 (.int .i64 n)):=by rw[World.cell?_alloc_lt _ _ _ hcl];exact hc
 have el:=BE a t (w.alloc (vM 94 a)) (by rw[World.cell?_alloc_lt _ _ a hal];exact ha)
 have st:=HL t ⟨w.heap.size+1,0,none⟩ n old ((w.alloc (vM 94 a)).alloc (.cells #[.int .i64 n] 47))
  (by rw[World.cell?_alloc_at _ _ _ _ (by simp)];rfl)
  (by rw[World.cell?_alloc_lt _ _ t (by simp;omega),World.cell?_alloc_lt _ _ t htl];exact ht0)
  (by rw[World.frozen?_alloc_old _ _ t (by simp;omega),World.frozen?_alloc_old _ _ t (Nat.ne_of_lt htl)];exact hf0)
 go_enter Go.Proofs.Tryz.func72,Go.Proofs.Tryz.ntmps72
 go_wp2
 refine wp_loop_rounds 3 ?_
 rw[rounds_succ]
 go_wp2_with (first | (go_at_call 194;refine (BH b _ _ he1).mono ?_;rintro e w' ⟨rfl,rfl⟩))
 rw[rounds_succ]
 go_wp2_with (first | (go_at_call 194;refine (BH c _ _ hc1).mono ?_;rintro e w' ⟨rfl,rfl⟩))
 rw[rounds_succ]
 go_wp2
 go_ret
 exact⟨rfl,rfl⟩
end Go.As
namespace Go.Lx
open Go.Vc
def Gl(I:cc):Prop:=∃cs ty fz,I 0=some (.cells cs ty fz)∧cs[0]? = some Go.As.BG
theorem Gl.mono{I J:cc}(h:Gl I)(hl:cc.le I J):Gl J:=let ⟨cs,ty,fz,h1,h2⟩:=h;⟨cs,ty,fz,hl.at h1,h2⟩
theorem Gl.cell{I:cc}{F:b8}{w:World}(h:Gl I)(hw:Sat I F w):w.cell? ⟨0,0,none⟩=some Go.As.BG:=by
 obtain⟨cs,ty,fz,h1,h2⟩:=h
 have:=hw.imm _ _ h1
 unfold World.cell?
 simp[this,h2]
theorem Gl.Ge{w:World}(h:w.cell? ⟨0,0,none⟩=some Go.As.BG):Gl (cc.all w):=by
 unfold World.cell? at h
 split at h
 ·rename_i c ty fz hc
  exact⟨c,ty,fz,hc,by simpa using h⟩
 ·cases h
theorem j7{I:cc}{F:b8}{w:World}{t ty:Nat}{old:Value}(hw:Sat I ((t,.cells #[old] ty (0,0))::F) w):w.cell? ⟨t,0,none⟩=some old∧w.frozen? ⟨t,0,none⟩=false:=by
 have:=hw.own _ _ (.head _)
 unfold World.cell? World.frozen?
 simp[this]
theorem Al.cell{I:cc}{F:b8}{w:World}{b ty:Nat}{fz:Nat×Nat}{x y z:Value}(h:I b=some (.cells #[x,y,z] ty fz))(hw:Sat I F w):w.cell? ⟨b,2,none⟩=some z:=by
 have:=hw.imm _ _ h
 unfold World.cell?
 simp[this]
theorem kx{w:World}{o o':Obj}{a:Addr}{v:Value}(h:w.cell? a=some v):((w.alloc o).alloc o').cell? a=some v:=by
 have hl:a.block<w.heap.size:=by
  rcases Nat.lt_or_ge a.block w.heap.size with h1 | h1
  ·exact h1
  ·simp[World.cell?,Array.getElem?_eq_none h1] at h
 rw[World.cell?_alloc_lt _ _ _ (by simp;omega),World.cell?_alloc_lt _ _ _ hl];exact h
theorem o8{w:World}{o o':Obj}{a:Addr}{v:Value}(h:w.cell? a=some v)(hf:w.frozen? a=false):((w.alloc o).alloc o').frozen? a=false:=by
 have hl:a.block<w.heap.size:=by
  rcases Nat.lt_or_ge a.block w.heap.size with h1 | h1
  ·exact h1
  ·simp[World.cell?,Array.getElem?_eq_none h1] at h
 rw[World.frozen?_alloc_old _ _ _ (by simp;omega),World.frozen?_alloc_old _ _ _ (Nat.ne_of_lt hl)];exact hf
end Go.Lx
namespace Go.Vc
theorem Sat.fk{I:cc}{F:b8}{w:World}(h:Sat I F w)(o:Obj):Sat I F (w.alloc o):=(h.alloc o).drop (A:=[_])
theorem Sat.Gf{I:cc}{F:b8}{w:World}{t ty:Nat}{old v:Value}(h:Sat I ((t,.cells #[old] ty (0,0))::F) w):Sat I ((t,.cells #[v] ty (0,0))::F) (w.setCell ⟨t,0,none⟩ v) :=
 Sat.set h (qx (cs:=[old]) (h.own _ _ (.head _)) 0 v) ⟨rfl,rfl⟩
end Go.Vc
namespace Go.Lx
open Go.Vc
def H9(r:Bool)(G:b8)(e:Ending)(I:cc)(F:b8):Prop:=e=.returned (.bool r)∧F=G
section
variable {I:cc} {F:b8} {t ty:Nat} {old:Value}
theorem CC(hg:Gl I)(b:Nat):cg P 44 #[.iface 89 (.pointer (some ⟨b,0,none⟩)),.iface 91 (.pointer (some ⟨t,0,none⟩))] I ((t,.cells #[old] ty (0,0))::F) (H9 true ((t,.cells #[.pointer (some ⟨b,0,none⟩)] ty (0,0))::F)):=fun w hw=>by
 obtain⟨hc,hf⟩:=j7 hw
 refine (Go.As.IW _ _ _ w _ true (hg.cell hw) (Go.As.IQ ⟨b,0,none⟩ ⟨t,0,none⟩ ⟨w.heap.size,0,none⟩ old _ _ (by simp) (kx hc) (o8 hc hf))).mono fun e w' ⟨he,hw'⟩=>⟨I,_,cc.le_refl I, ?_,he,rfl⟩
 rw[hw']
 exact Sat.Gf ((((hw.fk _).fk _).fk _).fk _)
theorem HP(hg:Gl I)(n:Int):cg P 44 #[oo n,.iface 91 (.pointer (some ⟨t,0,none⟩))] I F (H9 false F):=fun w hw=>by
 refine (Go.As.IW _ _ _ w _ false (hg.cell hw) (Go.As.IU n ⟨w.heap.size,0,none⟩ _ _)).mono fun e w' ⟨he,hw'⟩=>⟨I,_,cc.le_refl I, ?_,he,rfl⟩
 rw[hw']
 exact ((hw.fk _).fk _).fk _
theorem JP(hg:Gl I)(n:Int):cg P 44 #[oo n,.iface 94 (.pointer (some ⟨t,0,none⟩))] I ((t,.cells #[old] ty (0,0))::F) (H9 true ((t,.cells #[.int .i64 n] ty (0,0))::F)):=fun w hw=>by
 obtain⟨hc,hf⟩:=j7 hw
 refine (Go.As.HM _ _ _ w _ true (hg.cell hw) (Go.As.IV n ⟨t,0,none⟩ ⟨w.heap.size,0,none⟩ old _ _ (by simp) (kx hc) (o8 hc hf))).mono fun e w' ⟨he,hw'⟩=>⟨I,_,cc.le_refl I, ?_,he,rfl⟩
 rw[hw']
 exact Sat.Gf ((((hw.fk _).fk _).fk _).fk _)
theorem GK(hg:Gl I){call:ByteArray}{pos n:Int}{v:Value}(h:Al I call pos (oo n) v):cg P 44 #[v,.iface 94 (.pointer (some ⟨t,0,none⟩))] I ((t,.cells #[old] ty (0,0))::F) (H9 true ((t,.cells #[.int .i64 n] ty (0,0))::F)):=fun w hw=>by
 obtain⟨b,rfl,hb⟩:=h
 obtain⟨hc,hf⟩:=j7 hw
 refine (Go.As.HM _ _ _ w _ true (hg.cell hw) (Go.As.HN b n ⟨t,0,none⟩ ⟨w.heap.size,0,none⟩ old _ _ (kx (Al.cell hb hw)) (by simp) (kx hc) (o8 hc hf))).mono fun e w' ⟨he,hw'⟩=>⟨I,_,cc.le_refl I, ?_,he,rfl⟩
 rw[hw']
 exact Sat.Gf ((((hw.fk _).fk _).fk _).fk _)
theorem IX(hg:Gl I){call call':ByteArray}{pos pos' n:Int}{v u:Value}(h:Al I call pos u v)(h':Al I call' pos' (oo n) u):cg P 44 #[v,.iface 94 (.pointer (some ⟨t,0,none⟩))] I ((t,.cells #[old] ty (0,0))::F) (H9 true ((t,.cells #[.int .i64 n] ty (0,0))::F)):=fun w hw=>by
 obtain⟨b,rfl,hb⟩:=h
 obtain⟨c,rfl,hc'⟩:=h'
 obtain⟨hc,hf⟩:=j7 hw
 refine (Go.As.HM _ _ _ w _ true (hg.cell hw) (Go.As.HO b c n ⟨t,0,none⟩ ⟨w.heap.size,0,none⟩ old _ _ (kx (Al.cell hb hw)) (kx (Al.cell hc' hw)) (by simp) (kx hc) (o8 hc hf))).mono fun e w' ⟨he,hw'⟩=>⟨I,_,cc.le_refl I, ?_,he,rfl⟩
 rw[hw']
 exact Sat.Gf ((((hw.fk _).fk _).fk _).fk _)
end
def gJ(I:cc)(f:TF)(v:Value):Prop :=
 (f.e=0→v=.nilIface)∧(f.e≠0→if f.of then ∃u,Al I xS f.pos (oo f.e) u∧Al I w7 f.pos u v else Al I w7 f.pos (oo f.e) v)
theorem gJ.mono{I J:cc}{f:TF}{w:Value}(h:gJ I f w)(hl:cc.le I J):gJ J f w:=⟨h.1,fun he=>by
 have:=h.2 he
 split at this
 ·rename_i hof;rw[if_pos hof];obtain⟨u,h1,h2⟩:=this;exact⟨u,h1.mono hl,h2.mono hl⟩
 ·rename_i hof;rw[if_neg hof];exact this.mono hl⟩
theorem gJ.ok{I:cc}:gJ I sk .nilIface:=⟨fun _=>rfl,fun h=>absurd rfl h⟩
theorem gJ.neq{I:cc}{f:TF}{w:Value}(h:gJ I f w){t:TypeId}(ht:nu P t=true){x:Operand}:cP P .neq t x (.const .nilIface) w .nilIface (f.e != 0):=by
 by_cases he:f.e=0
 ·rw[h.1 he,he];exact rr ht
 ·have h2:=h.2 he
  rw[show (f.e != 0)=true by simpa using he]
  split at h2
  ·obtain⟨u,_,b,hw,_⟩:=h2;rw[hw];exact va ht
  ·obtain⟨b,hw,_⟩:=h2;rw[hw];exact va ht
theorem fQ{I:cc}(hg:Gl I)(pos n:Int)(hn:n≠0)(F:b8):cg P 65 #[.int .i64 pos,oo n] I F (kC (fun v J=>gJ J ⟨n,pos,false⟩ v) F):=by
 refine cg.still (fw.vc ?_)
 unfold fw.V
 intro b_below
 refine (HP hg n).mono fun e I1 G l1 ⟨he,hG⟩=>?_
 subst hG
 refine⟨false,he,_,.refl _,fun h=>(by cases h),fun _ b1=>⟨_,[_,_],rfl,.refl _,fun J hJ hx=>⟨fun h=>absurd h hn,fun _=>?_⟩⟩⟩
 rw[if_neg (by simp)]
 exact⟨b1,rfl,hx _ (.head _)⟩
theorem BI{I:cc}(hg:Gl I)(pos0 pos n:Int)(hn:n≠0){u:Value}(hu:Al I xS pos (oo n) u)(F:b8):cg P 65 #[.int .i64 pos0,u] I F (kC (fun v J=>gJ J ⟨n,pos,true⟩ v) F):=by
 obtain⟨b,rfl,hb⟩:=hu
 refine cg.still (fw.vc ?_)
 unfold fw.V
 intro b_below
 refine (CC hg b).mono fun e I1 G l1 ⟨he,hG⟩=>?_
 subst hG
 refine⟨true,he,_,.refl _,fun _=>⟨some ⟨b,0,none⟩,Rd.uE (.head _) 0 (fun j hj=>?_),⟨b,0,none⟩,rfl,pos, ?_,fun b1=>⟨_,[_,_],rfl,.refl _,fun J hJ hx=>⟨fun h=>absurd h hn,fun _=>?_⟩⟩⟩,fun h=>(by cases h)⟩
 ·have:j=0:=by simpa using hj
  subst this;rfl
 ·rw[rv]
  exact Rd.rR (l1.at hb) _ 1 fun j hj=>by
   have:j=0:=by simpa using hj
   subst this;rfl
 ·rw[if_pos rfl]
  exact⟨_,⟨b,rfl,hJ.at (l1.at hb)⟩,b1,rfl,hx _ (.head _)⟩
end Go.Lx
namespace Go.Lx
open Go.Vc
theorem BJ{l:List dg}{r:dg}{t:Int}(h:dC l r.name=some t)(k:ByteArray):dC (l++[r]) k=dC l k:=by
 rw[oq]
 cases hk:dC l k with
 | some t=>rfl
 | none =>
   show (if k=r.name then some r.cx else none)=none
   rw[if_neg]
   intro e;subst e;rw[hk] at h;cases h
theorem BK{l:List dg}{r:dg}(h:dC l r.name=none)(k:ByteArray):dC (l++[r]) k=qf (dC l) r.name r.cx k:=by
 rw[oq]
 unfold qf
 by_cases e:k=r.name
 ·subst e;rw[h,if_pos rfl]
 ·rw[if_neg e,if_neg e]
  cases hk:dC l k<;>rfl
def IY(m0 m1 m2:Nat):Obj:=.cells #[.map (some m0),.map (some m1),.map (some m2)] 164 (0,0)
def IZ(s:cB)(F:b8)(e:Ending)(I:cc)(G:b8):Prop:=∃c m1 m2,e=.returned (.pointer (some ⟨c,0,none⟩))∧Cw I c s.p m1 m2∧G=(m1,.map #[] 0)::(m2,.map #[] 0)::F
theorem vk(s:cB)(hl:s.regs.length≤1048576)(I:cc)(F:b8)(hok:s.Ok I F):cg P 66 #[s.v] I F (IZ s F):=by
 refine cg.keep (Q:=fun e I' G=>∃c m0 m1 m2 es ck,e=.returned (.pointer (some ⟨c,0,none⟩))∧kq Value.string (Value.int .u8) (dC s.p.regs) es ck∧G.Perm ((m0,.map es ck)::(c,IY m0 m1 m2)::(m1,.map #[] 0)::(m2,.map #[] 0)::F)) ?_ fun e I' G w hl hs ⟨c,m0,m1,m2,es,ck,he,hg,hp⟩=>by
  obtain⟨J,g1,g2,g3⟩:=Sat.still [_,_] (hs.perm hp)
  exact⟨J,_,g1,g3,c,m1,m2,he,⟨m0,es,ck,g2 _ (.tail _ (.head _)),g2 _ (.head _),hg⟩,rfl⟩
 refine gU.vc (fun sA cA i m I0 F0 I' F'=>0≤i∧i≤s.regs.length∧m=(s.regs.length-i).toNat∧∃c m0 m1 m2 es ck,cA=some (⟨c,0,none⟩:Addr)∧kq Value.string (Value.int .u8) (dC (s.p.regs.take i.toNat)) es ck∧F'.Perm ((m0,.map es ck)::(c,IY m0 m1 m2)::(m1,.map #[] 0)::(m2,.map #[] 0)::F)) ?_
 unfold gU.V
 intro b_s
 refine cE.mono jP fun v I1 G h1 ⟨r,hv,hI,hG⟩=>?_
 subst hI hG
 refine⟨some r,hv,(r,.map #[] 0)::F,.swap .., ?_⟩
 refine cE.mono jP fun v1 I1 G h1 ⟨r1,hv1,hI,hG⟩=>?_
 subst hI hG
 refine⟨some r1,hv1,(r1,.map #[] 0)::(r,.map #[] 0)::F,.swap .., ?_⟩
 refine cE.mono jP fun v2 I1 G h1 ⟨r2,hv2,hI,hG⟩=>?_
 subst hI hG
 refine⟨some r2,hv2,(r2,.map #[] 0)::(r1,.map #[] 0)::(r,.map #[] 0)::F,.swap .., ?_⟩
 intro b
 refine⟨⟨_,by omega,by omega,rfl,b,r,r1,r2,_,_,rfl,kq.nil 0, ?_⟩,fun i m I2 F2 l2 ⟨g0,g1,gm,c,m0,m1,m2,es,ck,hc,hg,hp⟩=>?_⟩
 ·exact th.trans (((List.Perm.swap ..).cons _).cons _)
 obtain rfl:b=c:=by simpa using hc
 have hok1:s.Ok I2 F2:=hok.mono l2 fun y hy=>hp.mem_iff.2 (.tail _ (.tail _ (.tail _ (.tail _ hy))))
 refine⟨fun hlt=>?_,fun hlt=>?_⟩
 ·have hlt:=of_decide_eq_true hlt
  obtain⟨ad,g,had,hg1,hrd,hgm⟩:=dy.j3 (hok1.cons (x:=(b_s,Obj.cells #[.string s.name,.slice s.ra s.regs.length s.rc,.slice s.sa s.slots.length s.sc,.slice s.ta s.cd.length s.tc] 39 (0,0)))).regs g0 hlt
  refine⟨⟨g0,hlt⟩,ad,had,_,_,_,_,_,_,_,_,_,_,_,_,_,hrd,fun b_r=>?_⟩
  have hmc:∀(x y:Nat×Obj),(b,IY m0 m1 m2)∈x::y::F2:=fun x y=>.tail _ (.tail _ (hp.mem_iff.2 (.tail _ (.head _))))
  have hm0:∀(x y:Nat×Obj),(m0,Obj.map es ck)∈x::y::F2:=fun x y=>.tail _ (.tail _ (hp.mem_iff.2 (.head _)))
  have hrdm:∀(J:cc) (x y:Nat×Obj),Rd J (x::y::F2) (⟨b,0,none⟩:Addr) [.map (some m0)]:=fun J x y=>Rd.uE (hmc x y) 0 fun j hj=>by
   have:j=0:=by simpa using hj
   subst this;rfl
  have hgl:s.p.regs[i.toNat]? = some g.p:=by
   show (s.regs.map cJ.p)[i.toNat]? = _
   rw[List.getElem?_map,hg1];rfl
  have htk:s.p.regs.take (i+1).toNat=s.p.regs.take i.toNat++[g.p]:=by
   rw[show (i+1).toNat=i.toNat+1 by omega,List.take_add_one,hgl];rfl
  refine⟨_,rfl,some m0,hrdm _ _ _, ?_⟩
  refine cE.mono (rZ FW zQ kN str_inj EW hg (.inr (hm0 _ _)) g.name) fun v3 I3 G h3 ⟨hv3,hI,hG⟩=>?_
  subst hI hG
  refine⟨((dC (s.p.regs.take i.toNat) g.name).getD 0),(dC (s.p.regs.take i.toNat) g.name).isSome,by rw[hv3];cases dC (s.p.regs.take i.toNat) g.name<;>rfl,F2,.refl _,fun hn=>?_,fun hn=>⟨(s.regs.length-(i+1)).toNat,by omega, ?_⟩⟩
  ·have hn:dC (s.p.regs.take i.toNat) g.name=none:=by simpa using hn
   refine⟨_,rfl,some m0,hrdm _ _ _, ?_⟩
   refine lF.perm (lF.mono (sN FW zQ kN str_inj hg g.name g.cx (F:=(b_s,Obj.cells #[.string s.name,.slice s.ra s.regs.length s.rc,.slice s.sa s.slots.length s.sc,.slice s.ta s.cd.length s.tc] 39 (0,0))::(b_r,.cells g.enc.toArray 77 (0,0))::(b,IY m0 m1 m2)::(m1,.map #[] 0)::(m2,.map #[] 0)::F)) fun I4 G h4 ⟨hI,es',c',hG,hg'⟩=>?_) (((hp.cons _).cons _).trans dh)
   subst hI hG
   refine⟨(m0,.map es' c')::(b,IY m0 m1 m2)::(m1,.map #[] 0)::(m2,.map #[] 0)::F,dh.symm,(s.regs.length-(i+1)).toNat,by omega, ?_⟩
   rw[du (n:=i+1) (by omega)]
   refine⟨by omega,by omega,rfl,b,m0,m1,m2,es',c',rfl, ?_,.refl _⟩
   rw[htk]
   exact hg'.congr fun k=>(BK (r:=g.p) hn k).symm
  ·obtain⟨t,hn⟩:∃t,dC (s.p.regs.take i.toNat) g.name=some t:=by
    cases h:dC (s.p.regs.take i.toNat) g.name with
    | none=>rw[h] at hn;cases hn
    | some t=>exact⟨t,rfl⟩
   rw[du (n:=i+1) (by omega)]
   refine⟨by omega,by omega,rfl,b,m0,m1,m2,es,ck,rfl, ?_,hp⟩
   rw[htk]
   exact hg.congr fun k=>(BJ (r:=g.p) hn k).symm
 ·have hlt:=of_decide_eq_false hlt
  refine⟨b,m0,m1,m2,es,ck,rfl, ?_,hp⟩
  rw[List.take_of_length_le (by show (s.regs.map cJ.p).length≤_;rw[List.length_map];omega)] at hg
  exact hg
theorem xV(nm:ByteArray):∀(l:List ByteArray) (i:Nat) (j:Int),l[i]? = some nm→(iV nm l j<j+i↔iy (l.take i) nm=true)∧0≤iV nm l j-j
 | [],i,j,h=>by simp at h
 | x::l,0,j,h=>by
   simp only[List.getElem?_cons_zero,Option.some.injEq] at h
   subst h
   rw[iV,if_pos (by simp)]
   refine⟨⟨fun h=>by omega,fun h=>by simp[iy] at h⟩,by omega⟩
 | x::l,i+1,j,h=>by
   rw[iV]
   have ih:=xV nm l i (j+1) (by simpa using h)
   by_cases hx:(x.toList==nm.toList)=true
   ·rw[if_pos hx]
    have:=lV.1 hx
    subst this
    refine⟨⟨fun _=>by simp[iy],fun _=>by omega⟩,by omega⟩
   ·rw[if_neg hx]
    have hne:¬x=nm:=fun e=>hx (lV.2 e)
    refine⟨?_,by omega⟩
    rw[List.take_succ_cons]
    have e:iy (x::l.take i) nm=iy (l.take i) nm:=by
     unfold iy;rw[List.any_cons,decide_eq_false hne,Bool.false_or]
    rw[e,←ih.1]
    constructor<;>intro h<;>omega
theorem xW(nm:ByteArray):∀(l:List ByteArray) (j:Int),0≤j→(iV nm l j<0↔iy l nm=false)
 | [],j,h=>by rw[iV];simp[iy]
 | x::l,j,h=>by
   rw[iV]
   by_cases hx:(x.toList==nm.toList)=true
   ·rw[if_pos hx]
    have:=lV.1 hx
    subst this
    refine⟨fun h=>by omega,fun h=>by simp[iy] at h⟩
   ·rw[if_neg hx,xW nm l (j+1) (by omega)]
    have hne:¬x=nm:=fun e=>hx (lV.2 e)
    unfold iy;rw[List.any_cons,decide_eq_false hne,Bool.false_or]
def ym(l:List ByteArray)(k:Nat)(o:Obj):Prop:=∃es ck g,o=.map es ck∧kq Value.string (Value.int .i64) g es ck∧Ak l k g
theorem ym.nil:ym [] 0 (.map #[] 0):=⟨_,_,_,rfl,kq.nil 0,Ak.nil⟩
def HQ(l:List ByteArray)(i:Nat)(nm:ByteArray)(c:Int):Prop:=1≤c∧c≤i+1∧(1<c↔iy (l.take i) nm=true)
theorem Ak.step{l:List ByteArray}{i:Nat}{g:ByteArray→Option Int}{nm:ByteArray}(h:Ak (l.take i) i g)(hl:l[i]? = some nm) :
  Ak (l.take (i+1)) (i+1) (qf g nm ((g nm).getD 0+1))∧HQ l i nm ((g nm).getD 0+1):=by
 have htk:l.take (i+1)=l.take i++[nm]:=by rw[List.take_add_one,hl];rfl
 by_cases hs:iy (l.take i) nm=true
 ·obtain⟨m,h1,h2,h3⟩:=(h nm).1 hs
  rw[h1]
  refine⟨?_, ?_, ?_, ?_⟩
  ·intro s
   have:=(h.more hs h2 h3) s
   rw[htk]
   have e:iy (l.take i++[nm]) s=iy (l.take i) s:=by
    unfold iy at hs ⊢;rw[List.any_append]
    by_cases hsn:nm=s
    ·subst hsn;rw[hs];rfl
    ·simp[hsn]
   rw[e];exact this
  ·show 1≤m+1;omega
  ·show m+1≤i+1;omega
  ·exact⟨fun _=>hs,fun _=>by show 1<m+1;omega⟩
 ·have hs:iy (l.take i) nm=false:=by simpa using hs
  have h1:=(h nm).2 hs
  rw[h1]
  refine⟨?_, ?_, ?_, ?_⟩
  ·rw[htk];exact h.new
  ·show (1:Int)≤0+1;omega
  ·show (0:Int)+1≤i+1;omega
  ·rw[hs];exact⟨fun h=>by simp at h,fun h=>by cases h⟩
section
variable {I:cc} {l:List ByteArray} {i:Nat} {nm:ByteArray} {o:Obj} {m:Nat} {G R:b8}
theorem xX(hc:ym (l.take i) i o)(hl:l[i]? = some nm)(hi:i≤1048576)(hm:(m,o)∈G):cE P (Instr.lookup 162 (.map (some m)) (.string nm) false) I G fun v I' G'=>∃r:Int,v=.int .i64 r∧I'=I∧G'=G ∧
  (∀G2,G.Perm ((m,o)::G2)→lF P (Instr.mapUpdate 162 (.map (some m)) (.string nm) (.int .i64 (IntKind.wrap .i64 (r+1)))) I G fun I' G'=>I'=I∧∃o',ym (l.take (i+1)) (i+1) o'∧G'=(m,o')::G2 ∧
   ∀G3,(m,o')∈G3→cE P (Instr.lookup 162 (.map (some m)) (.string nm) false) I G3 fun v I' G'=>∃c:Int,v=.int .i64 c∧I'=I∧G'=G3∧HQ l i nm c):=by
 obtain⟨es,ck,g,rfl,hg,hmet⟩:=hc
 obtain⟨h1,h2⟩:=hmet.step hl
 refine cE.mono (qg FX zQ kN str_inj EX hg (.inr hm) nm) fun v I1 G1 hl1 ⟨hv,hI,hG⟩=>⟨(g nm).getD 0, ?_,hI,hG,fun G2 hp=>?_⟩
 ·rw[hv];cases g nm<;>rfl
 ·have hw:IntKind.wrap .i64 ((g nm).getD 0+1)=(g nm).getD 0+1:=du (by unfold HQ at h2;omega)
  rw[hw]
  refine lF.perm (lF.mono (sN FX zQ kN str_inj hg nm ((g nm).getD 0+1) (F:=G2)) fun I2 G3 hl2 ⟨hI2,es',ck',hG3,hg'⟩=>⟨hI2,_,⟨es',ck',_,rfl,hg',h1⟩,hG3,fun G4 hm4=>?_⟩) hp
  refine cE.mono (qg FX zQ kN str_inj EX hg' (.inr hm4) nm) fun v3 I3 G5 hl3 ⟨hv3,hI3,hG5⟩=>⟨(g nm).getD 0+1, ?_,hI3,hG5,h2⟩
  rw[hv3];unfold qf;rw[if_pos rfl];rfl
end
section
variable (s:cB) (hl:s.p.dN) {I:cc} {F:b8} (hok:s.Ok I F)
def lj(s:cB):List ByteArray:=s.slots.map cI.name
def lY(s:cB):List ByteArray:=s.cd.map cj.name
def qU(s:cB):List ByteArray:=s.regs.map cJ.name
def Jw(s:cB)(m1 m2:Nat)(F:b8)(e:Ending)(I:cc)(G:b8):Prop:=∃v,e=.returned v∧gJ I s.p.named v∧∃o1 o2,G=(m1,o1)::(m2,o2)::F∧(s.p.named.e=0→ym (lj s) s.slots.length o1∧ym (lY s) s.cd.length o2)
theorem Gg(nm:ByteArray):s.p.eX nm=iV nm (qU s) 0:=by
 unfold cu.eX qU
 show iV nm ((s.regs.map cJ.p).map dg.name) 0=_
 rw[List.map_map];rfl
theorem zT(nm:ByteArray):s.p.room nm=iV nm (lY s) 0:=by
 unfold cu.room lY
 show iV nm ((s.cd.map cj.p).map cq.name) 0=_
 rw[List.map_map];rfl
end
end Go.Lx
