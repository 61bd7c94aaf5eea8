import Derived.Test.YtdhcodphiofhjaaGreatDoorParseSpacedB3
set_option linter.unusedVariables false
set_option linter.unusedSimpArgs false
set_option linter.unusedSectionVars false
set_option maxRecDepth 100000
namespace Go.Lx
open Go.Vc
def Al(c:PC)(s:PS):Prop:=s.over=false∧s.next<c.l.length
theorem Al.back{c:PC}{s s2:PS}(h:Al c s2)(hu:Up c s s2)(hk:∀f,c.dD f s→c.dD f s2):Al c s:=by
 refine⟨?_,Nat.lt_of_le_of_lt hu.1 h.2⟩
 cases hs:s.over with
 | false=>rfl
 | true =>
   have h1:=(hk _ (kq hs)).1
   unfold PC.fin at h1
   rw[if_neg (by rw[h.1];decide),if_neg (Nat.not_le_of_lt h.2)] at h1
   cases h1
theorem Al.c5{c:PC}{s:PS}{e:Int}(he:e≠0)(h:Al c (c.c5 e s)):False:=by
 have h2:=h.2
 rw[hU] at h2
 rw[Al,iF he h2] at h
 exact absurd h.1 (by decide)
theorem p7(k o t n f q:Int)(l:List Px):(Px.mk k o t n f ⟨#[]⟩ l q).s7=((o==0||k==5||k==6||k==8)&&(t==0||k==1||k==9)&&(n==0||k==1)&&(f==0||k==3||k==4)&&true):=by
 show ((o==0||k==5||k==6||k==8)&&(t==0||k==1||k==9)&&(n==0||k==1)&&(f==0||k==3||k==4)&&((⟨#[]⟩:ByteArray).toList==[]||k==2))=_
 rw[mF];rfl
theorem vZ{k o t n f q:Int}{l:List Px}(h:((Px.mk k o t n f ⟨#[]⟩ l q).yB&&((o==0||k==5||k==6||k==8)&&(t==0||k==1||k==9)&&(n==0||k==1)&&(f==0||k==3||k==4)&&true)&&decide (l.length=(Px.mk k o t n f ⟨#[]⟩ l q).arity))=true):(Px.mk k o t n f ⟨#[]⟩ l q).jN=true:=by
 unfold Px.jN;rw[p7];exact h
def xH(c:PC):Prop:=∀t∈c.l,(t.kind=2→iO t.text=true)∧(t.kind=3→1≤t.dH∧t.dH≤4∧0≤t.n)
theorem BX{c:PC}(hF:xH c)(s:PS):((c.now s).kind=2→iO (c.now s).text=true)∧((c.now s).kind=3→1≤(c.now s).dH∧(c.now s).dH≤4∧0≤(c.now s).n):=by
 have hz:((ir 0).kind=2→iO (ir 0).text=true)∧((ir 0).kind=3→1≤(ir 0).dH∧(ir 0).dH≤4∧0≤(ir 0).n):=⟨fun h=>absurd h (by decide),fun h=>absurd h (by decide)⟩
 unfold PC.now
 split
 ·exact hz
 ·unfold PC.tok
  cases h:c.l[s.next]? with
  | none=>exact hz
  | some t=>exact hF t (List.mem_of_getElem? h)
def Fit(L d:Int)(x:Px):Prop:=x.formed=true∧x.depth+d+(if x.level<L then 1 else 0)≤24
theorem nD(x:Px):1≤x.level∧x.level≤8:=by
 unfold Px.level
 repeat' split
 all_goals decide
theorem Fit.CV{L L' d:Int}{x:Px}(h:Fit L d x)(hl:L'≤L):Fit L' d x:=by
 refine⟨h.1, ?_⟩
 have:=h.2
 split at this
 ·split<;>omega
 ·rw[if_neg (by omega)];omega
theorem Fit.deep{d:Int}{x:Px}(h:Fit 1 (d+1) x)(L:Int):Fit L d x:=by
 refine⟨h.1, ?_⟩
 have h2:=h.2
 have:=nD x
 rw[if_neg (by omega)] at h2
 split<;>omega
theorem lU{x:Px}{b:Int}:∀(l:List Px) (i m:Int),m≤b→(∀(j:Nat) y,l[j]? = some y→y.depth+Px.vN x y (i+j)≤b)→Px.lu x i l m≤b
 | [],i,m,hm,_=>by rw[Px.lu];exact hm
 | y::r,i,m,hm,h=>by
   rw[Px.lu]
   have h0:=h 0 y rfl
   rw[show i+((0:Nat):Int)=i by omega] at h0
   refine lU r (i+1) _ (by omega) fun j z hj=>?_
   have:=h (j+1) z (by simpa using hj)
   rwa [show i+1+(j:Int)=i+((j+1:Nat):Int) by omega]
theorem mP{l:List Px}(h:∀k∈l,k.formed=true):Px.mz l=true:=by
 induction l with
 | nil=>rw[Px.mz]
 | cons x r ih=>rw[Px.mz,h x (.head _),ih fun k hk=>h k (.tail _ hk)];rfl
theorem Fit.leaf{x:Px}(h1:x.jN=true)(hk:x.kids=[])(hl:x.kind≠5∧x.kind≠6∧x.kind≠7){d:Int}(hd:d≤24):Fit 8 d x:=by
 refine⟨by rw[Px.lP,h1,hk,Px.mz];rfl, ?_⟩
 have h2:x.level=8:=by unfold Px.level;rw[if_neg hl.2.2,if_neg hl.1,if_neg hl.2.1]
 rw[Px.nj,hk,Px.lu,h2,if_neg (by decide)];omega
theorem Fit.call{x:Px}(h1:x.jN=true)(hl:x.kind=8∨x.kind=9){d:Int}(hd:d≤24)(hk:∀k∈x.kids,Fit 1 (d+1) k):Fit 8 d x:=by
 have h57:x.kind≠5∧x.kind≠6∧x.kind≠7:=by omega
 refine⟨by rw[Px.lP,h1,mP fun k hm=>(hk k hm).1];rfl, ?_⟩
 have h2:x.level=8:=by unfold Px.level;rw[if_neg h57.2.2,if_neg h57.1,if_neg h57.2.1]
 rw[h2,if_neg (by decide),Px.nj]
 have:=lU (x:=x) (b:=24-d) x.kids 0 0 (by omega) fun j y hj=>by
  have hy:=hk y (List.mem_of_getElem? hj)
  have h3:=hy.2
  have:=nD y
  rw[if_neg (by omega)] at h3
  have ha:Px.vN x y (0+j)=1:=by
   unfold Px.vN Px.asks
   rw[if_neg h57.2.2,if_neg h57.1,if_neg h57.2.1,if_neg (by omega)]
   rw[if_neg h57.2.1,if_neg h57.2.2];rfl
  rw[ha];omega
 omega
theorem Fit.un{o q d:Int}{y:Px}(ho:o=1∨o=2)(hd:d≤24)(hy:Fit 7 (d+1) y):Fit 7 d (.mk 5 o 0 0 0 ⟨#[]⟩ [y] q):=by
 have h1:(Px.mk 5 o 0 0 0 ⟨#[]⟩ [y] q).jN=true:=by rcases ho with rfl | rfl<;>exact vZ rfl
 refine⟨by rw[Px.lP,h1,mP fun k hm=>?_];rfl;· have hm:k∈[y]:=hm
                                              rw[List.mem_singleton] at hm;subst hm;exact hy.1, ?_⟩
 have h2:(Px.mk 5 o 0 0 0 ⟨#[]⟩ [y] q).level=7:=rfl
 rw[h2,if_neg (by decide),Px.nj]
 have:=lU (x:=.mk 5 o 0 0 0 ⟨#[]⟩ [y] q) (b:=24-d) [y] 0 0 (by omega) fun j z hj=>by
  have hz:z=y:=by have:=List.mem_of_getElem? hj;rwa [List.mem_singleton] at this
  subst hz
  have h3:=hy.2
  have ha:Px.vN (.mk 5 o 0 0 0 ⟨#[]⟩ [z] q) z (0+j)=(if z.level<7 then 1 else 0)+1:=rfl
  rw[ha];omega
 show Px.lu _ 0 [y] 0+d+0≤24
 omega
theorem Fit.two{L A B o q d:Int}{a b:Px}(ho:6≤o∧o≤18)(hd:d≤24)(hL:∀l:List Px,(Px.mk 6 o 0 0 0 ⟨#[]⟩ l q).level=L)(hA:A=if L=4 then 5 else L)(hB:B=if L=4 then 5 else L+1)(ha:Fit A d a)(hb:Fit B d b):Fit L d (jc o q a b):=by
 have h1:(jc o q a b).jN=true:=by
  have hf:(jc o q a b).yB=true:=by
   show decide (6≤o∧o≤18)=true
   exact decide_eq_true ho
  have hz:(jc o q a b).s7=true:=by
   refine (p7 ..).trans ?_
   show ((o==0||false||true||false)&&true&&true&&true&&true)=true
   simp
  have har:decide ((jc o q a b).kids.length=(jc o q a b).arity)=true:=rfl
  unfold Px.jN;rw[hf,hz,har];rfl
 refine⟨by rw[Px.lP,h1,mP fun k hm=>?_];rfl;· have hm:k∈[a,b]:=hm
                                              rcases List.mem_cons.1 hm with rfl | hm
                                              ·exact ha.1
                                              ·rw[List.mem_singleton] at hm;subst hm;exact hb.1, ?_⟩
 have h2:(jc o q a b).level=L:=hL _
 rw[h2,if_neg (by omega),Px.nj]
 have hs:∀y i,Px.vN (jc o q a b) y i=if y.level<(if L=4 then 5 else L+i) then 1 else 0:=fun y i=>by
  show (if y.level<(if (jc o q a b).level=4 then 5 else (jc o q a b).level+i) then (1:Int) else 0)+0=_
  rw[h2];omega
 have:=lU (x:=jc o q a b) (b:=24-d) [a,b] 0 0 (by omega) fun j z hj=>by
  rw[hs]
  rcases j with _ | _ | j
  ·obtain rfl:a=z:=by simpa using hj
   have h3:=ha.2
   rw[hA] at h3
   rw[show (0:Int)+((0:Nat):Int)=0 by omega,Int.add_zero];omega
  ·obtain rfl:b=z:=by simpa using hj
   have h3:=hb.2
   rw[hB] at h3
   rw[show (0:Int)+((0+1:Nat):Int)=1 by omega];omega
  ·simp at hj
 show Px.lu _ 0 [a,b] 0+d+0≤24
 omega
theorem Fit.cond{q d:Int}{a b e:Px}(hd:d≤24)(ha:Fit 2 d a)(hb:Fit 1 (d+1) b)(he:Fit 1 (d+1) e):Fit 1 d (.mk 7 0 0 0 0 ⟨#[]⟩ [a,b,e] q):=by
 have h1:(Px.mk 7 0 0 0 0 ⟨#[]⟩ [a,b,e] q).jN=true:=vZ rfl
 refine⟨by rw[Px.lP,h1,mP fun k hm=>?_];rfl;· have hm:k∈[a,b,e]:=hm
                                              simp only[List.mem_cons,List.not_mem_nil,or_false] at hm
                                              rcases hm with rfl | rfl | rfl
                                              ·exact ha.1
                                              ·exact hb.1
                                              ·exact he.1, ?_⟩
 have h2:(Px.mk 7 0 0 0 0 ⟨#[]⟩ [a,b,e] q).level=1:=rfl
 rw[h2,if_neg (by decide),Px.nj]
 have h3:=ha.2
 have h4:=hb.2
 have h5:=he.2
 have l1:=nD b
 have l2:=nD e
 rw[if_neg (by omega)] at h4 h5
 have:=lU (x:=.mk 7 0 0 0 0 ⟨#[]⟩ [a,b,e] q) (b:=24-d) [a,b,e] 0 0 (by omega) fun j z hj=>by
  rcases j with _ | _ | _ | j
  ·obtain rfl:a=z:=by simpa using hj
   have:Px.vN (.mk 7 0 0 0 0 ⟨#[]⟩ [a,b,e] q) a (0+((0:Nat):Int))=(if a.level<2 then 1 else 0)+0:=rfl
   rw[this];omega
  ·obtain rfl:b=z:=by simpa using hj
   have:Px.vN (.mk 7 0 0 0 0 ⟨#[]⟩ [a,b,e] q) b (0+((0+1:Nat):Int))=(if b.level<1 then 1 else 0)+1:=rfl
   rw[this,if_neg (by omega)];omega
  ·obtain rfl:e=z:=by simpa using hj
   have:Px.vN (.mk 7 0 0 0 0 ⟨#[]⟩ [a,b,e] q) e (0+((0+1+1:Nat):Int))=(if e.level<1 then 1 else 0)+1:=rfl
   rw[this,if_neg (by omega)];omega
  ·simp at hj
 show Px.lu _ 0 [a,b,e] 0+d+0≤24
 omega
def xI(c:PC)(L d:Int)(g:PS→Px×PS):Prop:=∀s,Al c (g s).2→Fit L d (g s).1
structure FX (c:PC) (nx:Lv) (d:Int):Prop where
 mx:dQ c nx.ex
 mu:dQ c nx.un
 kx:∀f,Kp c f nx.ex
 ku:∀f,Kp c f nx.un
 fx:d+1≤24→xI c 1 (d+1) nx.ex
 fu:d+1≤24→xI c 7 (d+1) nx.un
theorem AH{c:PC}(hF:xH c)(s:PS):(c.literal s).1.2=true→(∀d:Int,d≤24→Fit 8 d (c.literal s).1.1)∧(c.literal s).1.1.kind=1∧((c.now s).kind=3→(c.literal s).1.1.dH≤4):=by
 have hn:=BX hF s
 have key:∀t n q:Int,(pW t n q).E4=true→∀d:Int,d≤24→Fit 8 d (pW t n q):=fun t n q hl d hd=>by
  refine .leaf ?_ rfl ⟨by show (1:Int)≠5;decide,by show (1:Int)≠6;decide,by show (1:Int)≠7;decide⟩ hd
  have hf:(pW t n q).yB=true:=hl
  have hz:(pW t n q).s7=true:=by
   refine (p7 ..).trans ?_
   show (true&&(t==0||true||false)&&(n==0||true)&&true&&true)=true
   simp
  unfold Px.jN;rw[hf,hz];rfl
 unfold PC.literal
 split
 ·rename_i h
  intro _
  have h3:=hn.2 h
  refine⟨key _ _ _ ?_,rfl,fun _=>h3.2.1⟩
  show (if (c.now s).dH=6 then _ else if (c.now s).dH=5 then _ else if 1≤(c.now s).dH∧(c.now s).dH≤4 then decide (0≤(c.now s).n) else false)=true
  rw[if_neg (by omega),if_neg (by omega),if_pos ⟨h3.1,h3.2.1⟩]
  exact decide_eq_true h3.2.2
 ·rename_i h
  split
  ·intro _
   refine⟨key _ _ _ ?_,rfl,fun h3=>absurd h3 h⟩
   split<;>rfl
  ·split
   ·intro _
    refine⟨key _ _ _ ?_,rfl,fun h3=>absurd h3 h⟩
    split<;>rfl
   ·intro h;cases h
section
variable {c:PC} (hF:xH c) {nx:Lv} {d:Int} (h0:0≤d) (hd:d≤24) (hx:FX c nx d)
include hF h0 hd hx
theorem BZ(hd1:d+1≤24):∀(n:Nat) (b:Bool) (s:PS),Al c (c.dF nx n b s).2→(c.dF nx n b s).1.length=n∧∀k∈(c.dF nx n b s).1,Fit 1 (d+1) k
 | 0,b,s,h=>⟨rfl,fun k hk=>by cases hk⟩
 | n+1,b,s,h=>by
   rw[PC.dF] at h ⊢
   have h:Al c (c.dF nx n false (nx.ex (if b=true then s else (c.take (⟨#[44]⟩:ByteArray) s).2)).2).2:=h
   have h1:=h.back (Up.kids hx.mx n false _) fun f h=>Kp.kids (hx.kx f) n false _ h
   obtain⟨i1,i2⟩:=BZ hd1 n false _ h
   refine⟨by show List.length (_::_)=_;rw[List.length_cons,i1],fun k hk=>?_⟩
   rcases List.mem_cons.1 hk with rfl | hk
   ·exact hx.fx hd1 _ h1
   ·exact i2 k hk
theorem B0{kind oper dH pos:Int}{many:Nat}{s:PS}(hl:s.next<c.l.length)(hk:kind=8∧3≤oper∧oper≤5∧dH=0∧many=(if oper=3 then 1 else 2)∨kind=9∧oper=0∧1≤dH∧dH≤4∧many=1)(h:Al c (c.call nx d kind oper dH pos many s).2):Fit 8 d (c.call nx d kind oper dH pos many s).1:=by
 unfold PC.call at h ⊢
 split
 ·rename_i ho
  rw[if_pos ho] at h
  exact absurd h.1 (by rw[ho];decide)
 ·rename_i ho
  rw[if_neg ho] at h
  obtain⟨hd1,_⟩:=fw hl (by simpa using ho)
  have h:Al c (c.take (⟨#[41]⟩:ByteArray) (c.dF nx many true (c.take (⟨#[40]⟩:ByteArray) (c.cT d s).inc).2).2).2:=h
  obtain⟨k1,k2⟩:=BZ hF h0 hd hx hd1 many true _ (h.back (Up.take _) fun f h=>h.take _)
  show Fit 8 d (.mk kind oper dH 0 0 ⟨#[]⟩ (c.dF nx many true (c.take (⟨#[40]⟩:ByteArray) (c.cT d s).inc).2).1 pos)
  generalize (c.dF nx many true (c.take (⟨#[40]⟩:ByteArray) (c.cT d s).inc).2).1=l at k1 k2
  refine .call ?_ ?_ hd k2
  ·rcases hk with ⟨rfl,ho1,ho2,rfl,hm⟩ | ⟨rfl,rfl,ho1,ho2,rfl⟩
   ·have hf:(Px.mk 8 oper 0 0 0 ⟨#[]⟩ l pos).yB=true:=decide_eq_true (⟨ho1,ho2⟩:3≤oper∧oper≤5)
    have hz:(Px.mk 8 oper 0 0 0 ⟨#[]⟩ l pos).s7=true:=by
     refine (p7 ..).trans ?_
     show ((oper==0||false||false||true)&&true&&true&&true&&true)=true
     simp
    have har:decide ((Px.mk 8 oper 0 0 0 ⟨#[]⟩ l pos).kids.length=(Px.mk 8 oper 0 0 0 ⟨#[]⟩ l pos).arity)=true:=by
     refine decide_eq_true ?_
     show l.length=if oper=3 then 1 else 2
     rw[k1,hm]
    unfold Px.jN;rw[hf,hz,har];rfl
   ·have hf:(Px.mk 9 0 dH 0 0 ⟨#[]⟩ l pos).yB=true:=decide_eq_true (⟨ho1,ho2⟩:1≤dH∧dH≤4)
    have hz:(Px.mk 9 0 dH 0 0 ⟨#[]⟩ l pos).s7=true:=by
     refine (p7 ..).trans ?_
     show (true&&(dH==0||false||true)&&true&&true&&true)=true
     simp
    have har:decide ((Px.mk 9 0 dH 0 0 ⟨#[]⟩ l pos).kids.length=(Px.mk 9 0 dH 0 0 ⟨#[]⟩ l pos).arity)=true:=decide_eq_true k1
    unfold Px.jN;rw[hf,hz,har];rfl
  ·rcases hk with ⟨rfl,_⟩ | ⟨rfl,_⟩
   ·exact .inl rfl
   ·exact .inr rfl
theorem En:xI c 8 d (c.rest nx d):=fun s h=>by
 unfold PC.rest at h ⊢
 split
 ·rename_i hw
  rw[if_pos hw] at h
  split
  ·rename_i ha
   rw[if_pos ha] at h
   exact (Al.c5 (by decide) h).elim
  ·rename_i ha
   have h3:=(dB (Int.not_lt.1 ha)).2
   have ha:=Int.not_lt.1 ha
   refine .leaf ?_ rfl ⟨by show (4:Int)≠5;decide,by show (4:Int)≠6;decide,by show (4:Int)≠7;decide⟩ hd
   generalize c.any [(⟨#[98,105,100]⟩:ByteArray),(⟨#[97,115,107]⟩:ByteArray),(⟨#[108,97,115,116]⟩:ByteArray)] s.inc=a at h3 ha
   have h3:a<3:=h3
   rcases (by omega:a=0∨a=1∨a=2) with rfl | rfl | rfl<;>exact vZ rfl
 ·rename_i hw
  rw[if_neg hw] at h
  split
  ·rename_i hw2
   rw[if_pos hw2] at h
   split
   ·rename_i ho
    rw[if_pos ho] at h
    exact absurd h.1 (by rw[ho];decide)
   ·rename_i ho
    rw[if_neg ho] at h
    obtain⟨hd1,_⟩:=fw (gZ hw2) (by simpa using ho)
    have h:Al c (c.take (⟨#[41]⟩:ByteArray) (nx.ex (c.cT d s).inc).2).2:=h
    exact (hx.fx hd1 _ (h.back (Up.take _) fun f h=>h.take _)).deep 8
  ·rename_i hw2
   rw[if_neg hw2] at h
   exact (Al.c5 (by decide) h).elim
theorem Fe:xI c 8 d (c.one nx d):=fun s h=>by
 unfold PC.one at h ⊢
 split
 ·rename_i hl
  exact (AH hF s hl).1 d hd
 ·rename_i hl
  rw[if_neg hl] at h
  split
  ·rename_i hk
   have hn:=(BX hF s).1 hk
   refine .leaf ?_ rfl ⟨by show (2:Int)≠5;decide,by show (2:Int)≠6;decide,by show (2:Int)≠7;decide⟩ hd
   generalize (c.now s).text=t at hn
   generalize (c.now s).pos=q
   have hf:(Px.mk 2 0 0 0 0 t [] q).yB=true:=hn
   have hz:(Px.mk 2 0 0 0 0 t [] q).s7=true:=by
    show (true&&true&&true&&true&&(t.toList==[]||true))=true
    simp
   unfold Px.jN;rw[hf,hz];rfl
  ·rename_i hk
   rw[if_neg hk] at h
   split
   ·rename_i ha
    have h3:=(dB ha).2
    refine .leaf ?_ rfl ⟨by show (3:Int)≠5;decide,by show (3:Int)≠6;decide,by show (3:Int)≠7;decide⟩ hd
    generalize c.any jv s=a at h3 ha
    have h3:a<6:=h3
    rcases (by omega:a=0∨a=1∨a=2∨a=3∨a=4∨a=5) with rfl | rfl | rfl | rfl | rfl | rfl<;>exact vZ rfl
   ·rename_i ha
    rw[if_neg ha] at h
    split
    ·rename_i hb
     rw[if_pos hb] at h
     have h3:=(dB hb).2
     have h3:c.any gL s<3:=h3
     refine B0 hF h0 hd hx (dB hb).1 (.inl ⟨rfl,by omega,by omega,rfl, ?_⟩) h
     by_cases h4:c.any gL s=0
     ·rw[if_pos h4,if_pos (by omega)]
     ·rw[if_neg h4,if_neg (by omega)]
    ·rename_i hb
     rw[if_neg hb] at h
     split
     ·rename_i he
      rw[if_pos he] at h
      have h3:=(dB he).2
      have h3:c.any jS s<4:=h3
      exact B0 hF h0 hd hx (dB he).1 (.inr ⟨rfl,rfl,by omega,by omega,rfl⟩) h
     ·rename_i he
      rw[if_neg he] at h
      exact En hF h0 hd hx s h
theorem v5:xI c 7 d (c.unary nx d):=fun s h=>by
 unfold PC.unary at h ⊢
 split
 ·rename_i ha
  rw[if_pos ha] at h
  exact (Fe hF h0 hd hx s h).CV (by decide)
 ·rename_i ha
  rw[if_neg ha] at h
  have ha:=Int.not_lt.1 ha
  have h3:=dB ha
  split
  ·rename_i ho
   rw[if_pos ho] at h
   exact absurd h.1 (by rw[ho];decide)
  ·rename_i ho
   rw[if_neg ho] at h
   obtain⟨hd1,_⟩:=fw h3.1 (by simpa using ho)
   have h4:c.any k9 s<2:=h3.2
   exact .un (by omega) hd (hx.fu hd1 _ h)
end
theorem zJ{c:PC}{L d o:Int}{ws:List ByteArray}{sub:PS→Px×PS}(h0:dQ c sub)(hk:∀f,Kp c f sub)(hf:xI c (L+1) d sub)(ht:∀(a q:Int) (n k:Px),0≤a→a<ws.length→Fit L d n→Fit (L+1) d k→Fit L d (jc (o+a) q n k)) :
  ∀(m:Nat) (n:Px) (s:PS),(Al c s→Fit L d n)→Al c (c.dN ws o sub m n s).2→Fit L d (c.dN ws o sub m n s).1
 | 0,n,s,hn,h=>hn h
 | m+1,n,s,hn,h=>by
   rw[PC.dN] at h ⊢
   split
   ·rename_i ha
    rw[if_pos ha] at h
    exact hn h
   ·rename_i ha
    rw[if_neg ha] at h
    have ha:=Int.not_lt.1 ha
    refine zJ h0 hk hf ht m _ _ (fun hs=>?_) h
    exact ht _ _ _ _ ha (dB ha).2 (hn ⟨lR ha,(dB ha).1⟩) (hf _ hs)
theorem v7{c:PC}{L d o:Int}{ws:List ByteArray}{sub:PS→Px×PS}(h0:dQ c sub)(hk:∀f,Kp c f sub)(hf:xI c (L+1) d sub)(ht:∀(a q:Int) (n k:Px),0≤a→a<ws.length→Fit L d n→Fit (L+1) d k→Fit L d (jc (o+a) q n k)):xI c L d (c.loop ws o sub):=fun s h =>
 zJ h0 hk hf ht _ _ _ (fun hs=>(hf s hs).CV (by omega)) h
section
variable {c:PC} (hF:xH c) {nx:Lv} {d:Int} (h0:0≤d) (hd:d≤24) (hx:FX c nx d)
include hF h0 hd hx
theorem AJ:xI c 6 d (c.product nx d) :=
 v7 (Up.unary hx.mx hx.mu d) (fun f=>Kp.unary nx d) (v5 hF h0 hd hx) fun a q n k a0 a1 hn hk=>by
  have a1:a<3:=a1
  rcases (by omega:a=0∨a=1∨a=2) with rfl | rfl | rfl<;>exact .two (by decide) hd (fun l=>rfl) rfl rfl hn hk
theorem B1:xI c 5 d (c.sum nx d) :=
 v7 (Up.product hx.mx hx.mu d) (fun f=>Kp.product nx d) (AJ hF h0 hd hx) fun a q n k a0 a1 hn hk=>by
  have a1:a<2:=a1
  rcases (by omega:a=0∨a=1) with rfl | rfl<;>exact .two (by decide) hd (fun l=>rfl) rfl rfl hn hk
theorem AK:xI c 4 d (c.compare nx d):=fun s h=>by
 unfold PC.compare at h ⊢
 replace h:Al c (if c.any jd (c.sum nx d s).2<0 then c.sum nx d s else (jc (11+c.any jd (c.sum nx d s).2) (c.now (c.sum nx d s).2).pos (c.sum nx d s).1 (c.sum nx d (c.sum nx d s).2.inc).1,(c.sum nx d (c.sum nx d s).2.inc).2)).2:=h
 show Fit 4 d (if c.any jd (c.sum nx d s).2<0 then c.sum nx d s else (jc (11+c.any jd (c.sum nx d s).2) (c.now (c.sum nx d s).2).pos (c.sum nx d s).1 (c.sum nx d (c.sum nx d s).2.inc).1,(c.sum nx d (c.sum nx d s).2.inc).2)).1
 split
 ·rename_i ha
  rw[if_pos ha] at h
  exact (B1 hF h0 hd hx s h).CV (by decide)
 ·rename_i ha
  rw[if_neg ha] at h
  have ha:=Int.not_lt.1 ha
  have h1:=B1 hF h0 hd hx s ⟨lR ha,(dB ha).1⟩
  have h2:=B1 hF h0 hd hx _ h
  have a1:c.any jd (c.sum nx d s).2<6:=(dB ha).2
  generalize c.any jd (c.sum nx d s).2=a at ha a1
  show Fit 4 d (jc (11+a) (c.now (c.sum nx d s).2).pos (c.sum nx d s).1 (c.sum nx d (c.sum nx d s).2.inc).1)
  rcases (by omega:a=0∨a=1∨a=2∨a=3∨a=4∨a=5) with rfl | rfl | rfl | rfl | rfl | rfl<;>exact .two (by decide) hd (fun l=>rfl) rfl rfl h1 h2
theorem Ff:xI c 3 d (c.and nx d) :=
 v7 (Up.compare hx.mx hx.mu d) (fun f=>Kp.compare nx d) (AK hF h0 hd hx) fun a q n k a0 a1 hn hk=>by
  have a1:a<1:=a1
  obtain rfl:a=0:=by omega
  exact .two (by decide) hd (fun l=>rfl) rfl rfl hn hk
theorem Gj:xI c 2 d (c.or nx d) :=
 v7 (Up.and hx.mx hx.mu d) (fun f=>Kp.and nx d) (Ff hF h0 hd hx) fun a q n k a0 a1 hn hk=>by
  have a1:a<1:=a1
  obtain rfl:a=0:=by omega
  exact .two (by decide) hd (fun l=>rfl) rfl rfl hn hk
theorem B2:xI c 1 d (c.expr nx d):=fun s h=>by
 unfold PC.expr at h ⊢
 have ho:=Gj hF h0 hd hx s
 generalize c.or nx d s=r at ho h
 replace h:Al c (if c.ej (⟨#[63]⟩:ByteArray) r.2 then (if (c.cT d r.2).over then (eU,c.cT d r.2) else (.mk 7 0 0 0 0 ⟨#[]⟩ [r.1,(nx.ex (c.cT d r.2).inc).1,(nx.ex (c.take (⟨#[58]⟩:ByteArray) (nx.ex (c.cT d r.2).inc).2).2).1] (c.now (c.cT d r.2)).pos,(nx.ex (c.take (⟨#[58]⟩:ByteArray) (nx.ex (c.cT d r.2).inc).2).2).2)) else r:Px×PS).2:=h
 show Fit 1 d (if c.ej (⟨#[63]⟩:ByteArray) r.2 then (if (c.cT d r.2).over then (eU,c.cT d r.2) else (.mk 7 0 0 0 0 ⟨#[]⟩ [r.1,(nx.ex (c.cT d r.2).inc).1,(nx.ex (c.take (⟨#[58]⟩:ByteArray) (nx.ex (c.cT d r.2).inc).2).2).1] (c.now (c.cT d r.2)).pos,(nx.ex (c.take (⟨#[58]⟩:ByteArray) (nx.ex (c.cT d r.2).inc).2).2).2)) else r:Px×PS).1
 split
 ·rename_i hw
  rw[if_pos hw] at h
  split
  ·rename_i hv
   rw[if_pos hv] at h
   exact absurd h.1 (by rw[hv];decide)
  ·rename_i hv
   rw[if_neg hv] at h
   obtain⟨hd1,_⟩:=fw (gZ hw) (by simpa using hv)
   have h:Al c (nx.ex (c.take (⟨#[58]⟩:ByteArray) (nx.ex (c.cT d r.2).inc).2).2).2:=h
   have h2:=(h.back (hx.mx _) fun f h=>hx.kx f _ h).back (Up.take _) fun f h=>h.take _
   exact .cond hd (ho ⟨nz hw,gZ hw⟩) (hx.fx hd1 _ h2) (hx.fx hd1 _ h)
 ·rename_i hw
  rw[if_neg hw] at h
  exact (ho h).CV (by decide)
end
theorem DE{c:PC}(hF:xH c):∀(k:Nat) (d:Int),0≤d→(k:Int)+d=24→xI c 1 d (c.lvl k d).ex∧xI c 7 d (c.lvl k d).un
 | 0,d,h0,hk=>by
   have hz:dQ c (fun s:PS=>(eU,s)):=fun s=>.refl
   have kz:∀f,Kp c f (fun s:PS=>(eU,s)):=fun f s h=>h
   have hx:FX c ⟨fun s=>(eU,s),fun s=>(eU,s)⟩ d:=⟨hz,hz,kz,kz,fun h=>by omega,fun h=>by omega⟩
   exact⟨B2 hF h0 (by omega) hx,v5 hF h0 (by omega) hx⟩
 | k+1,d,h0,hk=>by
   have hi:=DE hF k (d+1) (by omega) (by omega)
   have hx:FX c (c.lvl k (d+1)) d:=⟨(Up.lvl k (d+1)).1,(Up.lvl k (d+1)).2,fun f=>(Kp.lvl k (d+1)).1,fun f=>(Kp.lvl k (d+1)).2,fun _=>hi.1,fun _=>hi.2⟩
   exact⟨B2 hF h0 (by omega) hx,v5 hF h0 (by omega) hx⟩
theorem Fg{c:PC}(hF:xH c):xI c 1 0 c.dW:=(DE hF 24 0 (Int.le_refl 0) (by decide)).1
theorem jy{c:PC}(hF:xH c)(s:PS)(h:Al c (c.dW s).2):(c.dW s).1.gY=0:=by
 obtain⟨h1,h2⟩:=Fg hF s h
 have:=nD (c.dW s).1
 rw[if_neg (by omega)] at h2
 unfold Px.gY
 rw[if_pos h1,if_neg (by omega)]
end Go.Lx
namespace Go.Lx
open Go.Vc
theorem c8{a b:Int}(ha:a=0)(hb:b=0):iu a b=0:=by rw[ha,yG,hb]
theorem gD{b:Bool}{n:Int}(h:b=true):ns b n=0:=by rw[h];rfl
theorem jf:uZ false eU=0:=by
 show ns eU.DC 120=0
 refine gD ?_
 show (true&&(true&&(true&&(true&&(true&&((⟨#[]⟩:ByteArray).toList==[])))))&&true)=true
 rw[mF];rfl
theorem rj{α:Type}{f:α→Int}:∀{l:List α},(∀x∈l,f x=0)→nt f l=0
 | [],_=>rfl
 | x::r,h=>by rw[nt];exact c8 (h x (.head _)) (rj fun y hy=>h y (.tail _ hy))
section
variable {c:PC} (hF:xH c)
include hF
theorem B3(s:PS)(h:Al c (c.name s).2):iO (c.name s).1=true:=by
 unfold PC.name at h ⊢
 split
 ·rename_i hk;exact (BX hF s).1 hk
 ·rename_i hk;rw[if_neg hk] at h;exact (Al.c5 (by decide) h).elim
theorem B4(s:PS)(h:Al c (c.eg s).2):(c.eg s).1.toList=[]∨iO (c.eg s).1=true:=by
 unfold PC.eg at h ⊢
 split
 ·rename_i hc;rw[if_pos hc] at h;exact .inr (B3 hF _ h)
 ·exact .inl mF
omit hF in
theorem AL{x y z:Px}{p o:Int}{nm:ByteArray}(hx:x.gY=0)(hy:y.gY=0)(hz:o≠2∧z.gY=0∨o=2∧z=eU)(ho:1≤o∧o≤5)(hn:nm.toList=[]∨iO nm=true):eJ.check ⟨1,o,nm,x,y,z,eU,p⟩=0:=by
 unfold eJ.check
 refine c8 rfl (c8 (gD ?_) (c8 (gD ?_) (c8 hx (c8 hy (c8 ?_ jf)))))
 ·exact decide_eq_true (.inl ⟨rfl,ho⟩)
 ·show (if (1:Int)=6 then _ else if (1:Int)≠1∨nm.toList≠[] then iO nm else true)=true
  rw[if_neg (by decide)]
  split
  ·rename_i h
   rcases hn with hn | hn
   ·rcases h with h | h
    ·exact absurd rfl h
    ·exact absurd hn h
   ·exact hn
  ·rfl
 ·show uZ (decide ((1:Int)=1∧o≠2∨(1:Int)=2)) z=0
  rcases hz with ⟨h1,h2⟩ | ⟨h1,h2⟩
  ·rw[decide_eq_true (.inl ⟨rfl,h1⟩)];exact h2
  ·rw[decide_eq_false (by rintro (h | h);exact h.2 h1;exact absurd h (by decide)),h2];exact jf
theorem B5{x y z:Px}{p o:Int}(hx:x.gY=0)(hy:y.gY=0)(hz:o≠2∧z.gY=0∨o=2∧z=eU)(ho:1≤o∧o≤5)(s:PS)(h:Al c (c.jK x y p z o s).2):(c.jK x y p z o s).1.check=0 :=
 AL hx hy hz ho (B4 hF s h)
theorem Eo{x y z:Px}{p:Int}(hx:x.gY=0)(hy:y.gY=0)(hz:z.gY=0)(s:PS)(h:Al c (c.iw x y p z s).2):(c.iw x y p z s).1.check=0:=by
 unfold PC.iw at h ⊢
 split
 ·rename_i hc;rw[if_pos hc] at h;exact (Al.c5 (by decide) h).elim
 ·rename_i hc
  rw[if_neg hc] at h
  have hc:=Int.not_lt.1 hc
  have h4:c.any fY s<4:=(dB hc).2
  refine B5 hF hx hy (.inl ⟨?_,hz⟩) ?_ _ h
  ·split<;>omega
  ·split<;>omega
theorem Ep{x y:Px}{p:Int}(hx:x.gY=0)(hy:y.gY=0)(s:PS)(h:Al c (c.ij x y p s).2):(c.ij x y p s).1.check=0:=by
 unfold PC.ij at h ⊢
 split
 ·rename_i hc;rw[if_pos hc] at h;exact (Al.c5 (by decide) h).elim
 ·rename_i hc
  rw[if_neg hc] at h
  split
  ·rename_i hc2
   rw[if_pos hc2] at h
   exact Eo hF hx hy (jy hF _ (h.back (Up.iw _) fun f h=>Kp.iw _ _ _ _ _ h)) _ h
  ·rename_i hc2
   rw[if_neg hc2] at h
   exact B5 hF hx hy (.inr ⟨rfl,rfl⟩) (by decide) _ h
theorem B6(s:PS)(h:Al c (c.fZ s).2):(c.fZ s).1.check=0:=by
 unfold PC.fZ PC.tC at h ⊢
 have g4:=h.back (Up.ij _) (fun f h=>Kp.ij _ _ _ _ h)
 have g3:=g4.back (Up.dW _) (fun f h=>Kp.dW _ h)
 have g2:=g3.back (Up.take _) (fun f h=>h.take _)
 exact Ep hF (jy hF _ g2) (jy hF _ g4) _ h
theorem DF{k p:Int}{nm:ByteArray}(hk:k=6∧nm=⟨#[]⟩∨2≤k∧k≤5∧iO nm=true)(s:PS)(h:Al c (c.ny k nm p s).2):(c.ny k nm p s).1.check=0:=by
 have hnm:k≠6→iO nm=true:=fun hne=>by
  rcases hk with ⟨h1,_⟩ | ⟨_,_,h1⟩
  ·exact absurd h1 hne
  ·exact h1
 have key:∀(j:Int),j=2∨j=3∨j=4∨j=5→iO nm=true→∀y z v:Px,eJ.iO ⟨j,0,nm,eU,y,z,v,p⟩=true:=fun j hj hn y z v=>by
  show (if j=6 then _ else if j≠1∨nm.toList≠[] then iO nm else true)=true
  rw[if_neg (by omega),if_pos (.inl (by omega)),hn]
 unfold PC.ny at h ⊢
 split
 ·rename_i hc
  rw[if_pos hc] at h
  unfold PC.A8 at h ⊢
  have g4:Al c (c.dW (c.take (⟨#[97,116]⟩:ByteArray) (c.dW (c.take (⟨#[116,111]⟩:ByteArray) s).2).2).2).2:=h
  have g3:=g4.back (Up.dW _) (fun f h=>Kp.dW _ h)
  have g2:=g3.back (Up.take _) (fun f h=>h.take _)
  have e1:=jy hF _ g2
  have e2:=jy hF _ g4
  unfold eJ.check
  exact c8 rfl (c8 rfl (c8 (gD (key 2 (.inl rfl) (hnm (by omega)) _ _ _)) (c8 jf (c8 e1 (c8 e2 jf)))))
 ·rename_i hc
  rw[if_neg hc] at h
  split
  ·rename_i hc2
   rw[if_pos hc2] at h
   unfold PC.Em at h ⊢
   have e1:=jy hF _ (show Al c (c.dW (c.take (⟨#[61]⟩:ByteArray) s).2).2 from h)
   unfold eJ.check
   exact c8 rfl (c8 rfl (c8 (gD (key 4 (.inr (.inr (.inl rfl))) (hnm (by omega)) _ _ _)) (c8 jf (c8 jf (c8 jf e1)))))
  ·rename_i hc2
   rcases hk with ⟨rfl,rfl⟩ | ⟨h1,h2,h3⟩
   ·unfold eJ.check
    refine c8 rfl (c8 rfl (c8 (gD ?_) (c8 jf (c8 jf (c8 jf jf)))))
    show ((⟨#[]⟩:ByteArray).toList==[])=true
    rw[mF];rfl
   ·rcases (by omega:k=3∨k=5) with rfl | rfl
    ·unfold eJ.check
     exact c8 rfl (c8 rfl (c8 (gD (key 3 (.inr (.inl rfl)) h3 _ _ _)) (c8 jf (c8 jf (c8 jf jf)))))
    ·unfold eJ.check
     exact c8 rfl (c8 rfl (c8 (gD (key 5 (.inr (.inr (.inr rfl))) h3 _ _ _)) (c8 jf (c8 jf (c8 jf jf)))))
theorem Gk(s:PS)(h:Al c (c.do s).2):(c.do s).1.check=0:=by
 unfold PC.do at h ⊢
 split
 ·rename_i hc;rw[if_pos hc] at h;exact (Al.c5 (by decide) h).elim
 ·rename_i hc
  rw[if_neg hc] at h
  have hc:=Int.not_lt.1 hc
  have h6:c.any wJ s<6:=(dB hc).2
  split
  ·rename_i hc2;rw[if_pos hc2] at h;exact B6 hF s h
  ·rename_i hc2
   rw[if_neg hc2] at h
   split
   ·rename_i hc3;rw[if_pos hc3] at h;exact DF hF (.inl ⟨rfl,rfl⟩) _ h
   ·rename_i hc3
    rw[if_neg hc3] at h
    exact DF hF (.inr ⟨by omega,by omega,B3 hF _ (h.back (Up.ny _) fun f h=>Kp.ny _ _ _ _ h)⟩) _ h
theorem B7:∀(m:Nat) (l:List eJ) (s:PS),(∀d∈l,d.check=0)→Al c (c.fc m l s).2→(∀d∈(c.fc m l s).1,d.check=0)∧(c.fc m l s).1.length≤l.length+m∧(0<m→0<(c.fc m l s).1.length)
 | 0,l,s,hl,h=>⟨hl,Nat.le_refl _,fun h=>absurd h (by decide)⟩
 | m+1,l,s,hl,h=>by
   rw[PC.fc] at h ⊢
   have key:Al c (c.do s).2→∀d∈l++[(c.do s).1],d.check=0:=fun ha d hd=>by
    rcases List.mem_append.1 hd with hd | hd
    ·exact hl d hd
    ·rw[List.mem_singleton] at hd;subst hd;exact Gk hF s ha
   have hlen:(l++[(c.do s).1]).length=l.length+1:=by rw[List.length_append,List.length_singleton]
   split
   ·rename_i hw
    rw[if_pos hw] at h
    have hk:=key ⟨nz hw,gZ hw⟩
    split
    ·rename_i ho
     rw[if_pos ho] at h
     exact absurd h.1 (by show ¬(c.many (l.length+1) 8 (c.do s).2).over=false;rw[ho];decide)
    ·rename_i ho
     rw[if_neg ho] at h
     obtain⟨i1,i2,i3⟩:=B7 m _ _ hk h
     rw[hlen] at i2
     refine⟨i1,by omega,fun _=>?_⟩
     cases m with
     | zero=>rw[PC.fc,hlen];omega
     | succ m=>exact i3 (by omega)
   ·rename_i hw
    rw[if_neg hw] at h
    exact⟨key h,by show (l++[(c.do s).1]).length≤_;rw[hlen];omega,fun _=>by show 0<(l++[(c.do s).1]).length;rw[hlen];omega⟩
theorem Gm(s:PS)(h:Al c (c.fS s).2):(c.fS s).1.check=0:=by
 unfold PC.fS PC.kK at h ⊢
 have g5:Al c (c.take (⟨#[59]⟩:ByteArray) (c.fc 8 [] (c.take (⟨#[100,111]⟩:ByteArray) (c.dW (c.take (⟨#[119,104,101,110]⟩:ByteArray) s).2).2).2).2).2:=h
 have g4:=g5.back (Up.take _) (fun f h=>h.take _)
 have g3:=g4.back (Up.fc 8 [] _) (fun f h=>Kp.fc _ _ _ h)
 have g2:=g3.back (Up.take _) (fun f h=>h.take _)
 have e1:=jy hF _ g2
 obtain⟨i1,i2,i3⟩:=B7 hF 8 [] _ (fun d hd=>by cases hd) g4
 show dz.check ⟨(c.dW (c.take (⟨#[119,104,101,110]⟩:ByteArray) s).2).1,(c.fc 8 [] (c.take (⟨#[100,111]⟩:ByteArray) (c.dW (c.take (⟨#[119,104,101,110]⟩:ByteArray) s).2).2).2).1,_⟩=0
 unfold dz.check
 exact c8 e1 (c8 (gD (decide_eq_true (i3 (by decide)))) (c8 (gD (decide_eq_true (by simpa using i2))) (rj i1)))
omit hF in
omit hF in
end
end Go.Lx
namespace Go.Lx
open Go.Vc
def mY(s:ByteArray)(i:Int):TR:=if dh (bt s i) then jH s i else if gE (bt s i) then jQ s i else jR s i
theorem iQ(s:ByteArray)(f:Int):fj s f=if dg s f=s.size then .ok (ir (dg s f)) else mY s (dg s f):=rfl
def AM(c:Int):Bool:=blank c||c==35
theorem AN{c:Int}(h:AM c=true):c=32∨c=9∨c=10∨c=13∨c=35:=by
 simp only[AM,blank,Bool.or_eq_true,beq_iff_eq] at h;omega
theorem tE{p:Int→Bool}{s:ByteArray}{i E:Int}(h:i≤E)(hE:E≤s.size)(hall:∀k,i≤k→k<E→p (bt s k)=true)(hend:E<s.size→p (bt s E)=false):dA p s i=E:=by
 obtain⟨n,hn⟩:∃n:Nat,n=(E-i).toNat:=⟨_,rfl⟩
 induction n generalizing i with
 | zero =>
   have:i=E:=by omega
   subst this
   rcases Int.lt_or_le i s.size with h' | h'
   ·rw[dK h',hend h'];rfl
   ·exact kj h'
 | succ n ih =>
   rw[dK (by omega),if_pos (hall i (Int.le_refl i) (by omega))]
   exact ih (by omega) (fun k h1 h2=>hall k (by omega) h2) (by omega)
theorem lV{p:Int→Bool}{s:ByteArray}{i k:Int}(h1:i≤k)(h2:k<dA p s i)(h3:i≤(s.size:Int)):p (bt s k)=true:=(xy h1 h2 h3).1
theorem o6{s s':ByteArray}{i i' E:Int}(hE:i≤E)(hEs:E≤s.size)(hE':i'+(E-i)≤s'.size)(hag:∀k,0≤k→k<E-i→bt s' (i'+k)=bt s (i+k))(hd:∀k,i≤k→k<E→dh (bt s k)=true)
  (h1:E<s.size→dh (bt s E)=false) (h2:i'+(E-i)<s'.size→dh (bt s' (i'+(E-i)))=false) (v:Int):dY s' i' v=dY s i v:=by
 obtain⟨n,hn⟩:∃n:Nat,n=(E-i).toNat:=⟨_,rfl⟩
 induction n generalizing i i' v with
 | zero =>
   have hi:i=E:=by omega
   subst hi
   have e1:dY s i v=v:=by
    rcases Int.lt_or_le i s.size with h | h
    ·rw[gX h,h1 h];rfl
    ·exact nR h
   have e2:dY s' i' v=v:=by
    rcases Int.lt_or_le i' s'.size with h | h
    ·rw[gX h,show dh (bt s' i')=false by have:=h2 (by omega);rwa [show i'+(i-i)=i' by omega] at this];rfl
    ·exact nR h
   rw[e1,e2]
 | succ n ih =>
   have hb:bt s' i'=bt s i:=by have:=hag 0 (Int.le_refl 0) (by omega);rwa [Int.add_zero,Int.add_zero] at this
   rw[gX (s:=s) (by omega),gX (s:=s') (by omega),hb,hd i (Int.le_refl i) (by omega)]
   simp only[if_true]
   refine ih (i:=i+1) (i':=i'+1) (by omega) (by omega) (fun k g0 g1=>?_) (fun k g0 g1=>hd k (by omega) g1) (fun h=>?_) _ (by omega)
   ·have:=hag (k+1) (by omega) (by omega)
    rw[show i'+1+k=i'+(k+1) by omega,show i+1+k=i+(k+1) by omega];exact this
   ·have:=h2 (by omega)
    rwa [show i'+1+(E-(i+1))=i'+(E-i) by omega]
theorem p8{s s':ByteArray}{i i':Int}{n:Int}(h0:0≤i)(h0':0≤i')(hn:0≤n)(hle:i+n≤s.size)(hle':i'+n≤s'.size)(hag:∀k,0≤k→k<n→bt s' (i'+k)=bt s (i+k)):cut s' i' (i'+n)=cut s i (i+n):=by
 have h1:=fO h0 (by omega:i≤i+n) hle
 have h2:=fO h0' (by omega:i'≤i'+n) hle'
 refine tz (by omega) fun k hk=>?_
 rw[mL h0' (by omega) (by omega) hle',mL h0 (by omega) (by omega) hle]
 exact hag k (by omega) (by omega)
theorem zL{s:ByteArray}{i:Int}{t:Tok}(h:jH s i=.ok t) :
  ∃E e2,E=dA dh s i∧e2=(if dM (cX s E)=1 then E else E+1)∧¬(dY s i 0>9223372036854775807∨(E-i>1∧bt s i=48)∨(e2<s.size∧(dx (bt s e2)=true∨(65≤bt s e2∧bt s e2≤90)))) ∧
   t=⟨3,cut s i e2,dM (cX s E),dY s i 0,i⟩:=by
 refine⟨_,_,rfl,rfl, ?_, ?_⟩
 ·intro hc
  have:jH s i=.bad 113 i:=if_pos hc
  rw[this] at h;cases h
 ·have:∀C:Prop,[Decidable C]→∀x y:TR,(if C then x else y)=.ok t→x=.bad 113 i→y=.ok t:=fun C _ x y h hx=>by
   split at h
   ·rw[hx] at h;cases h
   ·exact h
  have:=this _ _ _ h rfl
  cases this;rfl
theorem CW{s:ByteArray}{i E e2:Int}(hE:dA dh s i=E)(he2:e2=(if dM (cX s E)=1 then E else E+1))(hc:¬(dY s i 0>9223372036854775807∨(E-i>1∧bt s i=48)∨(e2<s.size∧(dx (bt s e2)=true∨(65≤bt s e2∧bt s e2≤90))))) :
  jH s i=.ok ⟨3,cut s i e2,dM (cX s E),dY s i 0,i⟩:=by
 subst hE he2
 exact if_neg hc
theorem AO{s s':ByteArray}{i i':Int}{t:Tok}(h0:0≤i)(hi:i<s.size)(h0':0≤i')(ht:mY s i=.ok t)(hle:i'+t.text.size≤s'.size)
  (hag:∀k,0≤k→k<(t.text.size:Int)→bt s' (i'+k)=bt s (i+k)) (hsep:i'+t.text.size<s'.size→AM (bt s' (i'+t.text.size))=true):mY s' i'=.ok ⟨t.kind,t.text,t.dH,t.n,i'⟩:=by
 have hsn:∀{c:Int},AM c=true→dh c=false∧dx c=false∧dM c=1∧c≠61∧¬(65≤c∧c≤90)∧c≠38∧c≠124:=fun {c} h=>by
  rcases AN h with h | h | h | h | h<;>subst h<;>decide
 unfold mY at ht
 by_cases hd:dh (bt s i)=true
 ·rw[if_pos hd] at ht
  obtain⟨E,e2,hE,he2,hc,htt⟩:=zL ht
  have hr:=dK (p:=dh) hi
  rw[if_pos hd] at hr
  have hEb:=eP (p:=dh) (s:=s) (i:=i+1) (by omega)
  rw[←hr,←hE] at hEb
  have hdE:E<s.size→dh (bt s E)=false:=fun h=>by rw[hE] at h ⊢;exact gW (by omega) h
  have htE:dM (cX s E)≠1→E<s.size:=fun hne=>by
   rcases Int.lt_or_le E s.size with h | h
   ·exact h
   ·rw[show cX s E=0 by unfold cX;rw[if_neg (by omega)]] at hne;exact absurd rfl hne
  have he2b:E≤e2∧e2≤s.size:=by
   rw[he2];split
   ·omega
   ·rename_i h;have:=htE h;omega
  have hn:(t.text.size:Int)=e2-i:=by rw[htt];exact fO h0 (by omega) he2b.2
  rw[hn] at hle hag hsep
  have hdig:∀k,i≤k→k<E→dh (bt s k)=true:=fun k g0 g1=>lV (p:=dh) g0 (by omega) (by omega)
  have hag':∀k,0≤k→k<E-i→bt s' (i'+k)=bt s (i+k):=fun k g0 g1=>hag k g0 (by omega)
  have hend:cX s' (i'+(E-i))=cX s E∨(dM (cX s E)=1∧dM (cX s' (i'+(E-i)))=1):=by
   by_cases h1:dM (cX s E)=1
   ·right
    refine⟨h1, ?_⟩
    rw[if_pos h1] at he2
    subst he2
    unfold cX
    split
    ·rename_i h;exact (hsn (hsep h)).2.2.1
    ·rfl
   ·left
    have:=htE h1
    rw[if_neg h1] at he2
    unfold cX
    rw[if_pos (by omega),if_pos this,hag (E-i) (by omega) (by omega)]
    congr 1;omega
  have hty:dM (cX s' (i'+(E-i)))=dM (cX s E):=by
   rcases hend with h | ⟨h1,h2⟩
   ·rw[h]
   ·rw[h1,h2]
  have hdE':i'+(E-i)<s'.size→dh (bt s' (i'+(E-i)))=false:=fun h=>by
   by_cases h1:dM (cX s E)=1
   ·rw[if_pos h1] at he2
    subst he2
    exact (hsn (hsep h)).1
   ·have hlt:=htE h1
    rw[if_neg h1] at he2
    rw[hag (E-i) (by omega) (by omega),show i+(E-i)=E by omega]
    exact hdE hlt
  have hE':dA dh s' i'=i'+(E-i):=by
   refine tE (by omega) (by omega) (fun k g0 g1=>?_) hdE'
   rw[show k=i'+(k-i') by omega,hag' (k-i') (by omega) (by omega)]
   exact hdig _ (by omega) (by omega)
  have hv:dY s' i' 0=dY s i 0:=o6 (by omega) (by omega) (by omega) hag' hdig hdE hdE' 0
  have hb0:bt s' i'=bt s i:=by have:=hag 0 (Int.le_refl 0) (by omega);rwa [Int.add_zero,Int.add_zero] at this
  have he2':i'+(e2-i)=(if dM (cX s' (i'+(E-i)))=1 then i'+(E-i) else i'+(E-i)+1):=by
   rw[hty,he2];split<;>omega
  unfold mY
  rw[hb0,if_pos hd,CW hE' he2' (fun hc'=>hc ?_),hty,hv]
  ·rw[htt]
   rw[p8 h0 h0' (by omega) (by omega) (by omega) hag,show i+(e2-i)=e2 by omega]
  ·rcases hc' with h | ⟨h,h'⟩ | ⟨h,h'⟩
   ·exact .inl (by rw[←hv];exact h)
   ·exact .inr (.inl ⟨by omega,by rw[←hb0];exact h'⟩)
   ·have hs:=hsn (hsep h)
    rcases h' with h' | h'
    ·rw[hs.2.1] at h';cases h'
    ·exact absurd h' hs.2.2.2.2.1
 ·rw[if_neg hd] at ht
  by_cases hm:gE (bt s i)=true
  ·rw[if_pos hm] at ht
   have hr:=dK (p:=dx) hi
   rw[if_pos (by simp[dx,hm])] at hr
   have hEb:=eP (p:=dx) (s:=s) (i:=i+1) (by omega)
   rw[←hr] at hEb
   unfold jQ at ht
   simp only at ht
   split at ht
   ·cases ht
   ·rename_i h16
    have htt:=TR.ok.inj ht
    have hn:(t.text.size:Int)=dA dx s i-i:=by rw[←htt];exact fO h0 (by omega) hEb.2
    rw[hn] at hle hag hsep
    have hb0:bt s' i'=bt s i:=by have:=hag 0 (Int.le_refl 0) (by omega);rwa [Int.add_zero,Int.add_zero] at this
    have hE':dA dx s' i'=i'+(dA dx s i-i):=by
     refine tE (by omega) (by omega) (fun k g0 g1=>?_) (fun h=>(hsn (hsep h)).2.1)
     rw[show k=i'+(k-i') by omega,hag (k-i') (by omega) (by omega)]
     exact lV (p:=dx) (i:=i) (k:=i+(k-i')) (by omega) (by omega) (by omega)
    have hcut:cut s' i' (i'+(dA dx s i-i))=cut s i (dA dx s i):=by
     rw[p8 h0 h0' (by omega) (by omega) (by omega) hag,show i+(dA dx s i-i)=dA dx s i by omega]
    unfold mY
    rw[hb0,if_neg hd,if_pos hm]
    unfold jQ
    simp only[hE']
    rw[if_neg (by omega),hcut,←htt]
  ·rw[if_neg hm] at ht
   have hr:=jI s i
   have hl:=nv hi
   unfold jR at ht
   split at ht
   ·cases ht
   ·rename_i hz
    have htt:=TR.ok.inj ht
    have hn:(t.text.size:Int)=eF s i:=by
     rw[←htt]
     have:=fO h0 (by omega:i≤i+eF s i) hl
     show ((cut s i (i+eF s i)).size:Int)=_
     omega
    rw[hn] at hle hag hsep
    have hb0:bt s' i'=bt s i:=by have:=hag 0 (Int.le_refl 0) (by omega);rwa [Int.add_zero,Int.add_zero] at this
    have hmk:eF s' i'=eF s i:=by
     rcases (by omega:eF s i=1∨eF s i=2) with h1 | h2
     ·-- the next byte parts
      have hnx:cX s' (i'+1)=0∨AM (cX s' (i'+1))=true:=by
       unfold cX
       split
       ·rename_i h;right;have:=hsep (by omega);rwa [h1] at this
       ·exact .inl rfl
      have hnx':cX s' (i'+1)≠61∧cX s' (i'+1)≠38∧cX s' (i'+1)≠124:=by
       rcases hnx with h | h
       ·rw[h];decide
       ·exact⟨(hsn h).2.2.2.1,(hsn h).2.2.2.2.2.1,(hsn h).2.2.2.2.2.2⟩
      rw[h1]
      unfold eF at h1 ⊢
      simp only[hb0] at h1 ⊢
      generalize cX s' (i'+1)=d' at hnx'
      split at h1
      ·rw[if_pos (by assumption)]
      ·rw[if_neg (by assumption)]
       split at h1
       ·split at h1<;>omega
       ·rw[if_neg (by assumption)]
        split at h1
        ·rw[if_pos (by assumption),if_neg hnx'.1]
        ·omega
     ·have hnx:cX s' (i'+1)=cX s (i+1):=by
       unfold cX
       rw[if_pos (by omega),if_pos (by omega)]
       exact hag 1 (by decide) (by omega)
      unfold eF
      rw[hnx,hb0]
    have hcut:cut s' i' (i'+eF s i)=cut s i (i+eF s i):=p8 h0 h0' hr.1 hl hle hag
    unfold mY
    rw[hb0,if_neg hd,if_neg hm]
    unfold jR
    rw[hmk,if_neg hz,hcut,←htt]
theorem qE{s:ByteArray}{f:Int}(h0:0≤f)(h1:f≤s.size){t:Tok}(ht:fj s f=.ok t):tx s (dg s f) t:=by
 rcases fo h0 h1 with ⟨t',ht',h⟩ | ⟨e,ht',_⟩
 ·rw[ht] at ht';cases ht';exact h
 ·rw[ht] at ht';cases ht'
theorem B8{s:ByteArray}{f:Int}(h0:0≤f)(h1:f≤s.size){t:Tok}(ht:fj s f=.ok t)(hk:t.kind≠0):dg s f<s.size∧mY s (dg s f)=.ok t:=by
 have ho:=fN h1
 have hat:=qE h0 h1 ht
 rw[iQ] at ht
 by_cases he:dg s f=s.size
 ·rcases hat.2.2.2 with ⟨h,_⟩ | ⟨_,_,h⟩
  ·exact absurd h hk
  ·have:=hat.1;have:=hat.2.1;omega
 ·rw[if_neg he] at ht;exact⟨by omega,ht⟩
theorem CX{s:ByteArray}{i:Int}{t:Tok}(h0:0≤i)(hi:i<s.size)(hb:blank (bt s i)=false)(h35:bt s i≠35)(hr:mY s i=.ok t):fj s i=.ok t:=by
 rw[iQ,my hi hb h35,if_neg (by omega),hr]
theorem B9{s:ByteArray}{f:Int}(h0:0≤f)(h1:f≤s.size)(ho:dg s f=s.size):eQ s f=([ir s.size],none):=by
 rw[eS h0 h1,iQ,if_pos ho,ho];rfl
theorem o7(s:ByteArray):∀(n:Nat) (f:Int),(iv s n f).1.length≤n
 | 0,f=>Nat.le_refl _
 | n+1,f=>by
   unfold iv
   cases fj s f with
   | bad e p=>simp
   | ok t =>
     simp only
     split
     ·simp
     ·simp only[List.length_cons];exact Nat.succ_le_succ (o7 s n _)
theorem v8{s:ByteArray}{l:List Tok}(h:hZ s=.ok l):l.length≤4097:=by
 unfold hZ at h
 split at h
 ·cases h
 ·rename_i hs
  have hl:=o7 s ((s.size:Int)-0+1).toNat 0
  split at h
  ·rename_i l' hl'
   cases h
   unfold eQ at hl'
   rw[hl'] at hl
   simp only at hl
   omega
  ·cases h
theorem rR{s:ByteArray}{f:Int}(h0:0≤f)(h1:f≤s.size){l:List Tok}(h:eQ s f=(l,none)):∃t r,l=t::r∧fj s f=.ok t∧((t.kind=0∧r=[])∨(t.kind≠0∧eQ s (t.pos+t.text.size)=(r,none))):=by
 rw[eS h0 h1] at h
 cases ht:fj s f with
 | bad e p=>rw[ht] at h;cases h
 | ok t =>
   rw[ht] at h
   by_cases hk:t.kind=0
   ·simp only[hk,if_true] at h
    cases h
    exact⟨t,[],rfl,rfl,.inl ⟨hk,rfl⟩⟩
   ·simp only[hk,if_false] at h
    obtain⟨e1,e2⟩:=Prod.mk.inj h
    exact⟨t,_,e1.symm,rfl,.inr ⟨hk,Prod.ext rfl e2⟩⟩
structure zM (a z:ByteArray):Prop where
 lt:(a.size:Int)<z.size
 same:∀k,0≤k→k<(a.size:Int)→bt z k=bt a k
 nl:bt z a.size=10
theorem zM.val{a z:ByteArray}(h:zM a z){i:Int}(h0:0≤i)(h1:i≤a.size):dY z i 0=dY a i 0:=by
 have:=h.lt
 have hE:=eP (p:=dh) h1
 refine o6 (E:=dA dh a i) hE.1 hE.2 (by omega) (fun k g0 g1=>h.same _ (by omega) (by omega)) (fun k g0 g1=>lV g0 g1 h1) (fun hl=>gW h1 hl) (fun hl=>?_) 0
 rw[show i+(dA dh a i-i)=dA dh a i by omega]
 rcases Int.lt_or_le (dA dh a i) a.size with hh | hh
 ·rw[h.same _ (by omega) hh];exact gW h1 hh
 ·rw[show dA dh a i=a.size by omega,h.nl];rfl
theorem CY{C D:Prop}[Decidable C][Decidable D](h:C↔D){α:Type}(x y:α):(if C then x else y)=if D then x else y:=by
 by_cases hc:C
 ·rw[if_pos hc,if_pos (h.1 hc)]
 ·rw[if_neg hc,if_neg (fun hd=>hc (h.2 hd))]
theorem zM.over{a z:ByteArray}(h:zM a z):∀(n:Nat) (r:Bool) (f:Int),0≤f→f≤a.size→(a.size-f).toNat=n →
  (ig a r f<a.size→ig z r f=ig a r f)∧(ig a r f=a.size→ig z r f=dg z (a.size+1)):=by
 have hlt:=h.lt
 intro n
 induction n with
 | zero =>
   intro r f h0 h1 hn
   have hf:f=a.size:=by omega
   subst hf
   rw[hY (Int.le_refl _)]
   refine⟨fun h=>by omega,fun _=>?_⟩
   rw[eA (by omega),h.nl]
   rw[show mw 10 r=false from rfl]
   rfl
 | succ n ih =>
   intro r f h0 h1 hn
   have hb:=h.same f h0 (by omega)
   have st:=eA (s:=a) (r:=r) (i:=f) (by omega)
   have st':=eA (s:=z) (r:=r) (i:=f) (by omega)
   rw[hb] at st'
   split at st
   ·rename_i hc
    rw[if_pos hc] at st'
    exact⟨fun _=>by rw[st,st'],fun e=>by omega⟩
   ·rename_i hc
    rw[if_neg hc] at st'
    rw[st,st']
    exact ih _ (f+1) (by omega) (by omega) (by omega)
theorem AP{s:ByteArray}{f g:Int}(h:dg s f=dg s g):fj s f=fj s g:=by rw[iQ,iQ,h]
theorem AQ{s:ByteArray}{f g:Int}(h0:0≤f)(h1:f≤s.size)(g0:0≤g)(g1:g≤s.size)(h:dg s f=dg s g):eQ s f=eQ s g:=by
 rw[eS h0 h1,eS g0 g1,AP h]
structure fF (b z:ByteArray) (d:Int):Prop where
 d0:0≤d
 size:(z.size:Int)=b.size+d
 same:∀k,0≤k→k<(b.size:Int)→bt z (k+d)=bt b k
theorem fF.run{b z:ByteArray}{d:Int}(h:fF b z d){p:Int→Bool}{i:Int}(h0:0≤i)(h1:i≤b.size):dA p z (i+d)=dA p b i+d:=by
 have hE:=eP (p:=p) h1
 have hd:=h.d0
 have hs:=h.size
 refine tE (by omega) (by omega) (fun k g0 g1=>?_) fun hl=>?_
 ·rw[show k=k-d+d by omega,h.same (k-d) (by omega) (by omega)];exact lV (by omega) (by omega) h1
 ·rw[h.same _ (by omega) (by omega)];exact gW h1 (by omega)
theorem fF.byte{b z:ByteArray}{d:Int}(h:fF b z d){i:Int}(h0:0≤i):cX z (i+d)=cX b i:=by
 have hs:=h.size
 unfold cX
 by_cases hh:i<b.size
 ·rw[if_pos (by omega),if_pos hh,h.same i h0 hh]
 ·rw[if_neg (by omega),if_neg hh]
theorem fF.cut{b z:ByteArray}{d:Int}(h:fF b z d){i e:Int}(h0:0≤i)(h1:i≤e)(h2:e≤b.size):cut z (i+d) (e+d)=cut b i e:=by
 have hd:=h.d0
 have hs:=h.size
 have hc:=p8 (s:=b) (s':=z) (i:=i) (i':=i+d) (n:=e-i) h0 (by omega) (by omega) (by omega) (by omega) fun k g0 g1=>by
  rw[show i+d+k=i+k+d by omega];exact h.same _ (by omega) (by omega)
 rwa [show i+(e-i)=e by omega,show i+d+(e-i)=e+d by omega] at hc
theorem fF.val{b z:ByteArray}{d:Int}(h:fF b z d){i:Int}(h0:0≤i)(h1:i≤b.size):dY z (i+d) 0=dY b i 0:=by
 have hd:=h.d0
 have hs:=h.size
 have hE:=eP (p:=dh) h1
 refine o6 (E:=dA dh b i) hE.1 hE.2 (by omega) (fun k g0 g1=>?_) (fun k g0 g1=>lV g0 g1 h1) (fun hl=>gW h1 hl) (fun hl=>?_) 0
 ·rw[show i+d+k=i+k+d by omega];exact h.same _ (by omega) (by omega)
 ·rw[show i+d+(dA dh b i-i)=dA dh b i+d by omega,h.same _ (by omega) (by omega)];exact gW h1 (by omega)
def TR.shift(d:Int):TR→TR
 | .ok t=>.ok ⟨t.kind,t.text,t.dH,t.n,t.pos+d⟩
 | .bad e p=>.bad e (p+d)
theorem lW{C:Prop}[Decidable C]{d:Int}{x y:TR}:TR.shift d (if C then x else y)=if C then x.shift d else y.shift d:=by split<;>rfl
theorem fF.num{b z:ByteArray}{d:Int}(h:fF b z d){i:Int}(h0:0≤i)(h1:i<b.size):jH z (i+d)=(jH b i).shift d:=by
 have hd:=h.d0
 have hs:=h.size
 have hE:=eP (p:=dh) (s:=b) (i:=i) (by omega)
 have hr:=h.run (p:=dh) (i:=i) h0 (by omega)
 have hv:=h.val (i:=i) h0 (by omega)
 generalize hEd:dA dh b i=E at hE hr
 have hby:=h.byte (i:=E) (by omega)
 have htE:dM (cX b E)≠1→E<b.size:=fun hne=>by
  rcases Int.lt_or_le E b.size with h | h
  ·exact h
  ·rw[show cX b E=0 by unfold cX;rw[if_neg (by omega)]] at hne;exact absurd rfl hne
 have he2:∃e2,e2=(if dM (cX b E)=1 then E else E+1)∧(if dM (cX b E)=1 then E+d else E+d+1)=e2+d∧E≤e2∧e2≤b.size:=by
  refine⟨_,rfl, ?_⟩
  split
  ·exact⟨rfl,by omega⟩
  ·rename_i hne;have:=htE hne;exact⟨by omega,by omega⟩
 obtain⟨e2,he2,he2',hb1,hb2⟩:=he2
 have hb0:bt z (i+d)=bt b i:=h.same i h0 h1
 have hc:(e2+d<z.size∧(dx (bt z (e2+d))=true∨(65≤bt z (e2+d)∧bt z (e2+d)≤90)))↔(e2<b.size∧(dx (bt b e2)=true∨(65≤bt b e2∧bt b e2≤90))):=by
  rcases Int.lt_or_le e2 b.size with hh | hh
  ·rw[h.same e2 (by omega) hh]
   exact⟨fun x=>⟨hh,x.2⟩,fun x=>⟨by omega,x.2⟩⟩
  ·exact⟨fun x=>by omega,fun x=>by omega⟩
 have hdig:(E+d-(i+d)>1∧bt b i=48)↔(E-i>1∧bt b i=48):=by rw[show E+d-(i+d)=E-i by omega]
 unfold jH
 simp only[hr,hEd,hby,he2',←he2,hv,hb0,h.cut h0 (by omega:i≤e2) hb2]
 rw[lW]
 exact CY (or_congr (Iff.refl (dY b i 0>9223372036854775807)) (or_congr hdig hc)) _ _
theorem fF.read{b z:ByteArray}{d:Int}(h:fF b z d){i:Int}(h0:0≤i)(h1:i<b.size):mY z (i+d)=(mY b i).shift d:=by
 have hb0:bt z (i+d)=bt b i:=h.same i h0 h1
 have hn:jQ z (i+d)=(jQ b i).shift d:=by
  have hE:=eP (p:=dx) (s:=b) (i:=i) (by omega)
  unfold jQ
  simp only[h.run (p:=dx) (i:=i) h0 (by omega),h.cut h0 hE.1 hE.2,show dA dx b i+d-(i+d)=dA dx b i-i by omega]
  rw[lW]
  rfl
 have hm:jR z (i+d)=(jR b i).shift d:=by
  have hr:=jI b i
  have hl:=nv h1
  have hmn:eF z (i+d)=eF b i:=by
   unfold eF
   rw[hb0,show i+d+1=i+1+d by omega,h.byte (i:=i+1) (by omega)]
  unfold jR
  rw[hmn,show i+d+eF b i=i+eF b i+d by omega,h.cut h0 (by omega) hl,lW]
  rfl
 unfold mY
 rw[hb0,h.num h0 h1,hn,hm,lW,lW]
theorem fF.over{b z:ByteArray}{d:Int}(h:fF b z d):∀(n:Nat) (r:Bool) (f:Int),0≤f→f≤b.size→(b.size-f).toNat=n→ig z r (f+d)=ig b r f+d:=by
 have hs:=h.size
 intro n
 induction n with
 | zero =>
   intro r f h0 h1 hn
   rw[hY (by omega),hY (by omega)]
 | succ n ih =>
   intro r f h0 h1 hn
   rw[eA (s:=b) (by omega),eA (s:=z) (by omega),h.same f h0 (by omega)]
   split
   ·rfl
   ·rw[show f+d+1=f+1+d by omega]
    exact ih _ (f+1) (by omega) (by omega) (by omega)
theorem fF.tok{b z:ByteArray}{d:Int}(h:fF b z d){f:Int}(h0:0≤f)(h1:f≤b.size):fj z (f+d)=(fj b f).shift d:=by
 have hs:=h.size
 have ho:=fN (s:=b) h1
 have hz:dg z (f+d)=dg b f+d:=h.over _ false f h0 h1 rfl
 rw[iQ,iQ,hz]
 by_cases he:dg b f=b.size
 ·rw[if_pos (by omega),if_pos he];rfl
 ·rw[if_neg (by omega),if_neg he,h.read (by omega) (by omega)]
def Tok.shift(d:Int)(t:Tok):Tok:=⟨t.kind,t.text,t.dH,t.n,t.pos+d⟩
theorem fF.eQ{b z:ByteArray}{d:Int}(h:fF b z d):∀(n:Nat) (f:Int),0≤f→f≤b.size→(b.size-f).toNat=n →
  eQ z (f+d)=((eQ b f).1.map (Tok.shift d),(eQ b f).2.map fun ep=>(ep.1,ep.2+d)):=by
 have hs:=h.size
 have hd:=h.d0
 intro n
 induction n using Nat.strongRecOn with
 | _ n ih =>
   intro f h0 h1 hn
   rw[eS (by omega) (by omega),eS h0 h1,h.tok h0 h1]
   cases ht:fj b f with
   | bad e p=>rfl
   | ok t =>
     have hnx:=fP h0 h1 ht
     simp only[TR.shift]
     by_cases hk:t.kind=0
     ·simp only[hk,if_true];simp[Tok.shift,hk]
     ·have:=hnx.2.2 hk
      simp only[hk,if_false]
      have hi:=ih (b.size-(t.pos+t.text.size)).toNat (by omega) (t.pos+t.text.size) (by omega) hnx.1 rfl
      rw[show t.pos+d+(t.text.size:Int)=t.pos+t.text.size+d by omega,hi]
      rfl
theorem u6(s:ByteArray):∀(n:Nat) (f:Int),(iv s n f).1.length≤n
 | 0,f=>Nat.le_refl _
 | n+1,f=>by
   unfold iv
   cases ht:fj s f with
   | bad e p=>exact Nat.zero_le _
   | ok t =>
     show (if t.kind=0 then ([t],none) else _:List Tok×Option (Int×Int)).1.length≤n+1
     split
     ·exact Nat.succ_le_succ (Nat.zero_le _)
     ·exact Nat.succ_le_succ (u6 s n _)
def PF.v(f:PF):Value:=.agg #[.int .i64 f.e,.int .i64 f.pos,.bool f.tok]
structure TF where
 e:Int
 pos:Int
 of:Bool
def GW:TF:=⟨0,0,false⟩
def TF.v(f:TF):Value:=.agg #[.int .i64 f.e,.int .i64 f.pos,.bool f.of]
theorem cZ.clean{P:Program}{f:FuncId}{args:Array Value}{I:cS}{F:cR}{v:Value}(h:cZ P f args I F fun e I' G=>e=.returned v∧∃H,G.Perm (H++F)):cZ P f args I F (lH v F) :=
 h.keep fun e I' G w hl hs ⟨he,H,hp⟩=>⟨I',F,cS.le_refl _,(hs.perm hp).drop,he,rfl⟩
theorem Part.len{α:Type}{z E n c:Nat}{f:α→List Value}{O:α→cR→Prop}{a:Option Addr}{l:List α}{F F':cR}(h:Part z f E O a n c l F F'):n=l.length:=by
 obtain⟨A,hs,hA,hk,hp⟩:=h;exact hA.1
theorem nE{α β γ:Type}{g:α→β}{h:β→γ}{l:List α}{i:Nat}{x:α}(hx:l[i]? = some x):((l.take (i+1)).map g).map h=((l.take i).map g).map h++[h (g x)]:=by
 obtain⟨hk,rfl⟩:=List.getElem?_eq_some_iff.1 hx
 rw[List.take_succ_eq_append_getElem hk,List.map_append,List.map_append];rfl
theorem p9{α β γ δ:Type}{g:α→β}{p:δ→γ}{h:β→γ}{l:List α}{ks:List δ}{i:Nat}(e:ks.map p=((l.take i).map g).map h)(hi:i≤l.length):ks.length=i:=by
 have:=congrArg List.length e
 simp only[List.length_map,List.length_take] at this
 omega
theorem tF(x:c9)(hs:x.p.nA)(I:cS)(F:cR)(hx:x.Ok I F):cZ P 101 #[x.v] I F fun e I' G=>∃(x':c9) (H:cR),e=.returned x'.v∧x'.p=x.p.bare∧je false x' H∧G.Perm (H++F):=by
 have hl:=hs.1
 have hru:∀r∈x.rules,r.p.nA:=fun r hr=>hs.2 _ (List.mem_map_of_mem hr)
 have hdl:∀r∈x.rules,r.dos.length≤1048576:=fun r hr=>by have:=(hru r hr).2.1;simpa only[dq.p,List.length_map] using this
 simp only[c9.p,List.length_map] at hl
 refine iz.vc
  (fun a n c i m I0 F0 I' F'=>0≤i∧i≤x.rules.length∧m=(x.rules.length-i).toNat∧∃ks:List dq,ks.map dq.p=((x.rules.take i.toNat).map dq.p).map dz.bare∧Part 10 dq.enc 110 (lb false) a n c ks F F')
  (fun i a n c k m I0 F0 I' F'=>∃r,x.rules[i.toNat]? = some r∧0≤k∧k≤r.dos.length∧m=(r.dos.length-k).toNat∧∃ds:List gC,ds.map gC.p=((r.dos.take k.toNat).map gC.p).map eJ.bare∧Part 36 gC.enc 114 (iP false) a n c ds F0 F') ?_
 unfold iz.V
 intro b_x b
 refine⟨⟨_,by omega,by omega,rfl,[],by simp,Part.nil⟩,fun a n c i m I1 F1 l1 ⟨g0,g1,gm,ks,gk,gP⟩=>⟨fun hlt=>?_,fun hlt=>?_⟩⟩
 ·have hlt:=of_decide_eq_true hlt
  have ok1:x.Ok I1 F1:=hx.mono l1 gP.mem
  obtain⟨ad,r,had,hr,hrd,hrm⟩:=mv.x7 (ok1.cons.cons (x:=(b_x,Obj.cells #[.string x.name,.slice x.a x.rules.length x.c,.int .i64 x.pos] 88 (0,0))) (s:=x)).1 g0 hlt
  have hkl:=p9 gk (by omega)
  refine⟨⟨g0,hlt⟩,ad,had,_,_,_,_,_,_,_,_,_,_,_,_,_,_,hrd,fun b_r=>⟨⟨_,r,hr,by omega,by omega,rfl,[],by simp,Part.nil⟩,fun da dn dc k m3 I2 F2 l2 ⟨r',hr',k0,k1,km,ds,dk,dP⟩=>⟨fun hlt2=>?_,fun hlt2=>?_⟩⟩⟩
  ·obtain rfl:r=r':=by rw[hr] at hr';exact Option.some.inj hr'
   have hlt2:=of_decide_eq_true hlt2
   have ok2:r.Ok I2 F2:=(ok1.2 r hrm).mono l2 dP.mem
   obtain⟨ad1,d,had1,hd,hrd1,hdm⟩:=mv.x7 (ok2.cons.cons.cons (x:=(b_x,Obj.cells #[.string x.name,.slice x.a x.rules.length x.c,.int .i64 x.pos] 88 (0,0))) (s:=r)).2.1 k0 hlt2
   have hdlen:=p9 dk (by omega)
   have hrl:=hdl r hrm
   refine⟨⟨k0,hlt2⟩,ad1,had1,_,_,_,_,_,_,_,_,_,_,_,_,_,_,_,_,_,_,_,_,_,_,_,_,_,_,_,_,_,_,_,_,_,_,_,_,_,_,_,_,_,_,_,_,hrd1,(xG d ((hru r hrm).2.2 _ (List.mem_map_of_mem hdm)) I2 _ ((ok2.2.2 d hdm).cons.cons.cons)).mono fun e I3 G l3 ⟨d',Hd,he,pd,od,hG⟩=>?_⟩
   subst he
   refine⟨_,_,_,_,_,_,_,_,_,_,_,_,_,_,_,_,_,_,_,_,_,_,_,_,_,_,_,_,_,_,_,_,_,_,_,_,_,_,_,_,_,_,_,_,rfl,Hd++F2,hG.trans (cU fun z=>by simp only[cY,cV,c6];omega),fun b1 I4 l4 hb1=>?_⟩
   refine dO.mono (fQ (f:=gC.enc) (fun _=>rfl) (zv:=(⟨0,0,⟨#[]⟩,kY,kY,kY,kY,0⟩:gC).v) (by':=320) (by kernel_rfl) (by kernel_rfl) rfl (by decide) dP (x:=d') (fun u hu=>?_) (R0:=[(b_x,Obj.cells #[.string x.name,.slice x.a x.rules.length x.c,.int .i64 x.pos] 88 (0,0)),(b,Obj.cells #[.string ⟨#[]⟩,.slice none 0 0,.int .i64 0] 88 (0,0)),(b_r,Obj.cells #[.int .u8 r.when.kind,.int .u8 r.when.oper,.int .u8 r.when.dH,.int .i64 r.when.n,.int .u8 r.when.field,.string r.when.name,.slice r.when.a r.when.kids.length r.when.c,.int .i64 r.when.pos,.slice r.a r.dos.length r.c,.int .i64 r.pos] 110 (0,0))]) rfl hb1 od (.refl _) (by omega)) fun v I5 G2 l5 ⟨a',n',c',hv,F3,hG2,hP2⟩=>?_
   ·simp only[gC.enc,List.mem_cons,List.not_mem_nil,or_false] at hu
    rcases hu with rfl | rfl | rfl | rfl | rfl | rfl | rfl | rfl | rfl | rfl | rfl | rfl | rfl | rfl | rfl | rfl | rfl | rfl | rfl | rfl | rfl | rfl | rfl | rfl | rfl | rfl | rfl | rfl | rfl | rfl | rfl | rfl | rfl | rfl | rfl | rfl<;>rfl
   ·refine⟨a',n',c',hv,F3,hG2,(r.dos.length-(k+1)).toNat,by omega,r,hr, ?_⟩
    rw[gU (n:=k+1) (by omega)]
    refine⟨by omega,by omega,rfl,ds++[d'], ?_,hP2⟩
    rw[show (k+1).toNat=k.toNat+1 by omega,nE hd,List.map_append,dk,List.map_singleton,pd]
  ·obtain rfl:r=r':=by rw[hr] at hr';exact Option.some.inj hr'
   have hlt2:=of_decide_eq_false hlt2
   have ok2:r.Ok I2 F2:=(ok1.2 r hrm).mono l2 dP.mem
   refine (kl r.when (hru r hrm).1 I2 _ ok2.1.cons.cons.cons).mono fun e I6 G l6 ⟨w,Hw,he,pw,ow,hG⟩=>?_
   subst he
   refine⟨_,_,_,_,_,_,_,_,_,_,rfl,Hw++F2,hG.trans (cU fun z=>by simp only[cY,cV,c6];omega),fun b2 I7 l7 hb2=>?_⟩
   have hdn:=dP.len
   subst hdn
   obtain⟨Hd,hO,hp⟩:=dP.own
   refine dO.mono (fQ (f:=dq.enc) (fun _=>rfl) (zv:=(⟨kY,none,0,[],0⟩:dq).v) (by':=104) (by kernel_rfl) (by kernel_rfl) rfl (by decide) gP (x:=⟨w,da,dc,ds,0⟩) (fun u hu=>?_) (R0:=[(b_x,Obj.cells #[.string x.name,.slice x.a x.rules.length x.c,.int .i64 x.pos] 88 (0,0)),(b,Obj.cells #[.string ⟨#[]⟩,.slice none 0 0,.int .i64 0] 88 (0,0)),(b_r,Obj.cells #[.int .u8 r.when.kind,.int .u8 r.when.oper,.int .u8 r.when.dH,.int .i64 r.when.n,.int .u8 r.when.field,.string r.when.name,.slice r.when.a r.when.kids.length r.when.c,.int .i64 r.when.pos,.slice r.a r.dos.length r.c,.int .i64 r.pos] 110 (0,0))]) rfl hb2 (Hx:=Hw++Hd) ⟨Hw,Hd,rfl,ow,hO⟩ ?_ (by omega)) fun v I8 G2 l8 ⟨a',n',c',hv,F3,hG2,hP2⟩=>?_
   ·simp only[dq.enc,List.mem_cons,List.not_mem_nil,or_false] at hu
    rcases hu with rfl | rfl | rfl | rfl | rfl | rfl | rfl | rfl | rfl | rfl<;>rfl
   ·exact (cU fun z=>by have q0:=iW hp z;simp only[cY,cV,c6] at q0 ⊢;omega)
   ·refine⟨a',n',c',hv,F3,hG2,(x.rules.length-(i+1)).toNat,by omega, ?_⟩
    rw[gU (n:=i+1) (by omega)]
    refine⟨by omega,by omega,rfl,_, ?_,hP2⟩
    rw[show (i+1).toNat=i.toNat+1 by omega,nE hr,List.map_append,gk,List.map_singleton]
    congr 2
    show dz.mk w.px (ds.map gC.p) 0=⟨r.when.px.bare,(r.dos.map gC.p).map eJ.bare,0⟩
    rw[pw,dk,List.take_of_length_le (by omega)]
 ·have hlt:=of_decide_eq_false hlt
  have hn:=gP.len
  subst hn
  obtain⟨H,hO,hp⟩:=gP.own
  refine⟨⟨x.name,a,c,ks,0⟩,H,rfl, ?_,hO,hp⟩
  show dm.mk x.name (ks.map dq.p) 0=⟨x.name,(x.rules.map dq.p).map dz.bare,0⟩
  rw[gk,List.take_of_length_le (by omega)]
theorem oG(s:fG)(hs:s.p.xE)(I:cS)(F:cR)(hx:s.Ok I F):cZ P 60 #[s.v] I F fun e I' G=>∃(s':fG) (H:cR),e=.returned s'.v∧s'.p=s.p.bare∧o5 false s' H∧G.Perm (H++F):=by
 have lr:=hs.regs
 have ls:=hs.slots
 have lt:=hs.states
 simp only[fG.p,List.length_map] at lr ls lt
 have hnm:∀r∈s.regs,r.init.px.size≤1048576:=fun r hr=>hs.lx _ (List.mem_map_of_mem hr)
 have hst:∀x∈s.states,x.p.nA:=fun x hx=>hs.state _ (List.mem_map_of_mem hx)
 refine gb.vc
  (fun i nm a n c a2 n2 c2 a3 n3 c3 m I' F'=>nm=s.name∧(a2=none∧n2=0∧c2=0)∧(a3=none∧n3=0∧c3=0)∧0≤i∧i≤s.regs.length∧m=(s.regs.length-i).toNat∧cS.le I I'∧∃rs:List dV,rs.map dV.p=((s.regs.take i.toNat).map dV.p).map dL.bare∧Part 11 dV.enc 104 (lE false) a n c rs F F')
  (fun i nm a n c a2 n2 c2 a3 n3 c3 m I' F'=>nm=s.name∧(a3=none∧n3=0∧c3=0)∧0≤i∧i≤s.slots.length∧m=(s.slots.length-i).toNat∧cS.le I I'∧∃(rs:List dV) (H1:cR) (ss:List di),rs.map dV.p=(s.regs.map dV.p).map dL.bare∧n=rs.length∧nb false 11 dV.enc 104 (lE false) a n c rs H1 ∧
    ss.map id=((s.slots.take i.toNat).map id).map di.bare∧Part 2 di.enc 106 p6 a2 n2 c2 ss (H1++F) F')
  (fun i nm a n c a2 n2 c2 a3 n3 c3 m I' F'=>nm=s.name∧0≤i∧i≤s.states.length∧m=(s.states.length-i).toNat∧cS.le I I'∧∃(rs:List dV) (H1:cR) (ss:List di) (H2:cR) (ts:List c9),rs.map dV.p=(s.regs.map dV.p).map dL.bare∧n=rs.length∧nb false 11 dV.enc 104 (lE false) a n c rs H1 ∧
    ss=s.slots.map di.bare∧n2=ss.length∧nb false 2 di.enc 106 p6 a2 n2 c2 ss H2∧ts.map c9.p=((s.states.take i.toNat).map c9.p).map dm.bare∧Part 3 c9.enc 88 (je false) a3 n3 c3 ts (H1++(H2++F)) F') ?_
 unfold gb.V
 intro b_s b b_x
 refine⟨⟨_,rfl,⟨rfl,rfl,rfl⟩,⟨rfl,rfl,rfl⟩,by omega,by omega,rfl,cS.le_refl I,[],by simp,Part.nil⟩,fun i nm a n c a2 n2 c2 a3 n3 c3 m I1 F1 _ ⟨hnm1,⟨e1,e2,e3⟩,⟨e4,e5,e6⟩,g0,g1,gm,l1,rs,gk,gP⟩=>⟨fun hlt=>?_,fun hlt=>?_⟩⟩
 ·subst e1 e2 e3 e4 e5 e6 hnm1
  have hlt:=of_decide_eq_true hlt
  have ok1:s.Ok I1 F1:=hx.mono l1 gP.mem
  obtain⟨ad,r,had,hr,hrd,hrm⟩:=mv.x7 (ok1.cons.cons.cons (x:=(b_s,Obj.cells #[.string s.name,.slice s.ra s.regs.length s.rc,.slice s.sa s.slots.length s.sc,.slice s.ta s.states.length s.tc] 43 (0,0))) (s:=s)).regs g0 hlt
  have hkl:=p9 gk (by omega)
  refine⟨⟨g0,hlt⟩,ad,had,_,_,_,_,_,_,_,_,_,_,_,_,_,hrd,fun b_r=>(kl r.init (hnm r hrm) I1 _ ((ok1.lx r hrm).mono (cS.le_refl _) fun a ha=>.tail _ (.tail _ (.tail _ (.tail _ ha))))).mono fun e I2 G l2 ⟨w,Hw,he,pw,ow,hG⟩=>?_⟩
  subst he
  refine⟨_,_,_,_,_,_,_,_,_,_,rfl,Hw++F1,hG.trans (cU fun z=>by simp only[cY,cV,c6];omega),fun b1 I3 l3 hb1=>?_⟩
  refine dO.mono (fQ (f:=dV.enc) (fun _=>rfl) (zv:=(⟨⟨#[]⟩,0,kY,0⟩:dV).v) (by':=104) (by kernel_rfl) (by kernel_rfl) rfl (by decide) gP (x:=⟨r.name,r.dH,w,0⟩) (fun u hu=>?_) (R0:=[(b_s,Obj.cells #[.string s.name,.slice s.ra s.regs.length s.rc,.slice s.sa s.slots.length s.sc,.slice s.ta s.states.length s.tc] 43 (0,0)),(b,_),(b_x,_),(b_r,Obj.cells #[.string r.name,.int .u8 r.dH,.int .u8 r.init.kind,.int .u8 r.init.oper,.int .u8 r.init.dH,.int .i64 r.init.n,.int .u8 r.init.field,.string r.init.name,.slice r.init.a r.init.kids.length r.init.c,.int .i64 r.init.pos,.int .i64 r.pos] 104 (0,0))]) rfl hb1 (Hx:=Hw) ow (.refl _) (by omega)) fun v I4 G2 l4 ⟨a',n',c',hv,F3,hG2,hP2⟩=>?_
  ·simp only[dV.enc,List.mem_cons,List.not_mem_nil,or_false] at hu
   rcases hu with rfl | rfl | rfl | rfl | rfl | rfl | rfl | rfl | rfl | rfl | rfl<;>rfl
  ·refine⟨a',n',c',hv,F3,hG2,(s.regs.length-(i+1)).toNat,by omega,rfl,⟨rfl,rfl,rfl⟩,⟨rfl,rfl,rfl⟩, ?_⟩
   rw[gU (n:=i+1) (by omega)]
   refine⟨by omega,by omega,rfl,cS.le_trans l1 (cS.le_trans l2 (cS.le_trans l3 l4)),_, ?_,hP2⟩
   rw[show (i+1).toNat=i.toNat+1 by omega,nE hr,List.map_append,gk,List.map_singleton]
   congr 2
   show dL.mk r.name r.dH w.px 0=⟨r.name,r.dH,r.init.px.bare,0⟩
   rw[pw]
 ·subst e1 e2 e3 e4 e5 e6 hnm1
  have hlt:=of_decide_eq_false hlt
  obtain⟨H1,hO1,hp1⟩:=gP.own
  refine⟨⟨_,rfl,⟨rfl,rfl,rfl⟩,by omega,by omega,rfl,l1,rs,H1,[],by rw[gk,List.take_of_length_le (by omega)],gP.len,hO1,by simp,[],fun _=>[],Acc.nil,fun i k h=>by simp at h,hp1⟩,fun i nm a n c a2 n2 c2 a3 n3 c3 m I5 F4 _ ⟨hnm1,⟨e4,e5,e6⟩,g0,g1,gm,l5,rs,H1,ss,gr,hn,hO1,gk,gP⟩=>⟨fun hlt=>?_,fun hlt=>?_⟩⟩
  ·subst e4 e5 e6 hnm1
   have hlt:=of_decide_eq_true hlt
   have ok1:s.Ok I5 F4:=hx.mono l5 fun a ha=>gP.mem a (List.mem_append_right _ ha)
   obtain⟨ad,r,had,hr,hrd,hrm⟩:=mv.x7 (ok1.cons.cons.cons (x:=(b_s,Obj.cells #[.string s.name,.slice s.ra s.regs.length s.rc,.slice s.sa s.slots.length s.sc,.slice s.ta s.states.length s.tc] 43 (0,0))) (s:=s)).slots g0 hlt
   have hkl:=p9 gk (by omega)
   refine⟨⟨g0,hlt⟩,ad,had,r.name,hrd.field (o:=0) rfl,fun b2 I6 l6 hb2=>?_⟩
   refine dO.mono (fQ (f:=di.enc) (fun _=>rfl) (zv:=(⟨⟨#[]⟩,0⟩:di).v) (by':=24) (by kernel_rfl) (by kernel_rfl) rfl (by decide) gP (x:=⟨r.name,0⟩) (fun u hu=>?_) (R0:=[(b_s,Obj.cells #[.string s.name,.slice s.ra s.regs.length s.rc,.slice s.sa s.slots.length s.sc,.slice s.ta s.states.length s.tc] 43 (0,0)),(b,_),(b_x,_)]) rfl hb2 (Hx:=[]) rfl (.refl _) (by omega)) fun v I7 G2 l7 ⟨a',n',c',hv,F3,hG2,hP2⟩=>?_
   ·simp only[di.enc,List.mem_cons,List.not_mem_nil,or_false] at hu
    rcases hu with rfl | rfl<;>rfl
   ·refine⟨a',n',c',hv,F3,hG2,(s.slots.length-(i+1)).toNat,by omega,rfl,⟨rfl,rfl,rfl⟩, ?_⟩
    rw[gU (n:=i+1) (by omega)]
    refine⟨by omega,by omega,rfl,cS.le_trans l5 (cS.le_trans l6 l7),rs,H1,_,gr,hn,hO1, ?_,hP2⟩
    rw[show (i+1).toNat=i.toNat+1 by omega,nE hr,List.map_append,gk,List.map_singleton];rfl
  ·subst e4 e5 e6 hnm1
   have hlt:=of_decide_eq_false hlt
   obtain⟨H2,hO2,hp2⟩:=gP.own
   have hss:ss=s.slots.map di.bare:=by
    rw[List.map_id,List.map_id,List.take_of_length_le (by omega)] at gk;exact gk
   refine⟨⟨_,rfl,by omega,by omega,rfl,l5,rs,H1,ss,H2,[],gr,hn,hO1,hss,gP.len,hO2,by simp,[],fun _=>[],Acc.nil,fun i k h=>by simp at h,(show List.Perm _ (H1++(H2++F)) from (cU fun z=>by have q0:=iW hp2 z;simp only[cY,cV,c6] at q0 ⊢;omega))⟩,fun i nm a n c a2 n2 c2 a3 n3 c3 m I8 F6 _ ⟨hnm1,g0,g1,gm,l8,rs,H1,ss,H2,ts,gr,hn,hO1,gs,hn2,hO2,gk,gP⟩=>⟨fun hlt=>?_,fun hlt=>?_⟩⟩
   ·subst hnm1
    have hlt:=of_decide_eq_true hlt
    have ok1:s.Ok I8 F6:=hx.mono l8 fun a ha=>gP.mem a (List.mem_append_right _ (List.mem_append_right _ ha))
    obtain⟨ad,x,had,hx',hrd,hxm⟩:=mv.x7 (ok1.cons.cons.cons (x:=(b_s,Obj.cells #[.string s.name,.slice s.ra s.regs.length s.rc,.slice s.sa s.slots.length s.sc,.slice s.ta s.states.length s.tc] 43 (0,0))) (s:=s)).states g0 hlt
    have hkl:=p9 gk (by omega)
    refine⟨⟨g0,hlt⟩,ad,had,_,_,_,_,_,hrd,(tF x (hst x hxm) I8 _ (((ok1.state x hxm).cons).cons.cons)).mono fun e I9 G l9 ⟨x',Hx,he,px,ox,hG⟩=>?_⟩
    subst he
    refine⟨_,_,_,_,_,rfl,Hx++F6,hG.trans (cU fun z=>by simp only[cY,cV,c6];omega),fun b3 I10 l10 hb3=>?_⟩
    refine dO.mono (fQ (f:=c9.enc) (fun _=>rfl) (zv:=(⟨⟨#[]⟩,none,0,[],0⟩:c9).v) (by':=48) (by kernel_rfl) (by kernel_rfl) rfl (by decide) gP (x:=x') (fun u hu=>?_) (R0:=[(b_s,Obj.cells #[.string s.name,.slice s.ra s.regs.length s.rc,.slice s.sa s.slots.length s.sc,.slice s.ta s.states.length s.tc] 43 (0,0)),(b,_),(b_x,_)]) rfl hb3 (Hx:=Hx) ox (.refl _) (by omega)) fun v I11 G2 l11 ⟨a',n',c',hv,F3,hG2,hP2⟩=>?_
    ·simp only[c9.enc,List.mem_cons,List.not_mem_nil,or_false] at hu
     rcases hu with rfl | rfl | rfl<;>rfl
    ·refine⟨a',n',c',hv,F3,hG2,(s.states.length-(i+1)).toNat,by omega,rfl, ?_⟩
     rw[gU (n:=i+1) (by omega)]
     refine⟨by omega,by omega,rfl,cS.le_trans l8 (cS.le_trans l9 (cS.le_trans l10 l11)),rs,H1,ss,H2,_,gr,hn,hO1,gs,hn2,hO2, ?_,hP2⟩
     rw[show (i+1).toNat=i.toNat+1 by omega,nE hx',List.map_append,gk,List.map_singleton,px]
   ·subst hnm1
    have hlt:=of_decide_eq_false hlt
    have hn3:=gP.len
    subst hn hn2 hn3
    obtain⟨H3,hO3,hp3⟩:=gP.own
    refine⟨⟨s.name,a,c,rs,a2,c2,ss,a3,c3,ts⟩,H1++(H2++H3),rfl, ?_,⟨H1,H2,H3,rfl,hO1,hO2,hO3⟩,(cU fun z=>by have q0:=iW hp3 z;simp only[cY,cV,c6] at q0 ⊢;omega)⟩
    show dU.mk s.name (rs.map dV.p) ss (ts.map c9.p)=⟨s.name,(s.regs.map dV.p).map dL.bare,s.slots.map di.bare,(s.states.map c9.p).map dm.bare⟩
    rw[gr,gs,gk,List.take_of_length_le (by omega)]
def Fh:Row:=⟨none,0,0⟩
theorem Px.fX.bare:∀{x:Px},x.fX→x.bare.fX:=by
 refine @(Px.ind fun x ih h=>?_)
 rw[Px.nS]
 refine .mk h.name (by show (x.kids.map Px.bare).length≤_;rw[List.length_map];exact h.len) fun k hk=>?_
 have hk:k∈x.kids.map Px.bare:=hk
 obtain⟨y,hy,rfl⟩:=List.mem_map.1 hk
 exact ih y hy (h.CP y hy)
theorem Bd.app{z:Nat}{ls ms:List (List (Ck z))}(h:Bd ls)(h':Bd ms):Bd (ls++ms):=by
 intro j y hy
 rw[List.getElem?_append] at hy
 split at hy
 ·exact h j y hy
 ·exact h' _ y hy
def rm{α β:Type}(f:α→β→Bool)(l:List α)(m:List β):Bool:=decide (l.length=m.length)&&eV f l m
def eJ.gT(d e:eJ):Bool:=d.kind==e.kind&&(d.order==e.order&&(d.name.toList==e.name.toList&&(d.side.gT e.side&&(d.qty.gT e.qty&&(d.price.gT e.price&&d.value.gT e.value)))))
def dz.gT(r q:dz):Bool:=r.when.gT q.when&&rm eJ.gT r.dos q.dos
def dm.gT(x y:dm):Bool:=x.name.toList==y.name.toList&&rm dz.gT x.rules y.rules
def dL.gT(r q:dL):Bool:=r.name.toList==q.name.toList&&(r.dH==q.dH&&r.init.gT q.init)
def di.gT(r q:di):Bool:=r.name.toList==q.name.toList
def dU.gT(s u:dU):Bool:=s.name.toList==u.name.toList&&(rm dL.gT s.regs u.regs&&(rm di.gT s.slots u.slots&&rm dm.gT s.states u.states))
theorem eJ.eC(d e:eJ):d.bare.same e.bare=d.gT e:=by
 simp only[eJ.same,eJ.bare,eJ.gT,Px.eC,BEq.rfl,Bool.true_and]
theorem dz.eC(r q:dz):r.bare.same q.bare=r.gT q:=by
 simp only[dz.same,dz.bare,dz.gT,rm,Px.eC,BEq.rfl,Bool.true_and,List.length_map]
 rw[kr fun x _ y=>eJ.eC x y]
theorem dm.eC(r q:dm):r.bare.same q.bare=r.gT q:=by
 simp only[dm.same,dm.bare,dm.gT,rm,BEq.rfl,Bool.true_and,List.length_map]
 rw[kr fun x _ y=>dz.eC x y]
theorem dL.eC(r q:dL):r.bare.same q.bare=r.gT q:=by
 simp only[dL.same,dL.bare,dL.gT,Px.eC,BEq.rfl,Bool.and_true]
 rw[Bool.and_comm,Bool.and_assoc]
theorem di.eC(r q:di):r.bare.same q.bare=r.gT q:=by
 simp only[di.same,di.bare,di.gT,BEq.rfl,Bool.and_true]
theorem dU.eC(s u:dU):s.bare.same u.bare=s.gT u:=by
 simp only[dU.same,dU.bare,dU.gT,rm,List.length_map]
 rw[kr fun x _ y=>dL.eC x y,kr fun x _ y=>di.eC x y,kr fun x _ y=>dm.eC x y]
 generalize (s.name.toList==u.name.toList)=a
 generalize decide (s.regs.length=u.regs.length)=b
 generalize decide (s.slots.length=u.slots.length)=c
 generalize decide (s.states.length=u.states.length)=d
 cases a<;>cases b<;>cases c<;>cases d<;>simp
theorem eJ.dj.bare{d:eJ}(h:d.dj):d.bare.dj:=by
 refine⟨h.1,fun x hx=>?_⟩
 have hs:=h.2
 simp only[eJ.DB,eJ.bare,List.mem_cons,List.not_mem_nil,or_false] at hx hs
 rcases hx with rfl | rfl | rfl | rfl
 ·exact (hs _ (.inl rfl)).bare
 ·exact (hs _ (.inr (.inl rfl))).bare
 ·exact (hs _ (.inr (.inr (.inl rfl)))).bare
 ·exact (hs _ (.inr (.inr (.inr rfl)))).bare
theorem dz.dj.bare{r:dz}(h:r.dj):r.bare.dj:=by
 refine⟨h.1.bare,by simp only[dz.bare,List.length_map];exact h.2.1,fun d hd=>?_⟩
 obtain⟨d',hd',rfl⟩:=List.mem_map.1 hd
 exact (h.2.2 d' hd').bare
theorem dm.dj.bare{r:dm}(h:r.dj):r.bare.dj:=by
 refine⟨h.1,by simp only[dm.bare,List.length_map];exact h.2.1,fun d hd=>?_⟩
 obtain⟨d',hd',rfl⟩:=List.mem_map.1 hd
 exact (h.2.2 d' hd').bare
theorem dU.dj.bare{s:dU}(h:s.dj):s.bare.dj:=by
 refine⟨h.name, ?_,fun d hd=>?_, ?_,fun d hd=>?_, ?_,fun d hd=>?_⟩
 ·simp only[dU.bare,List.length_map];exact h.regs
 ·obtain⟨d',hd',rfl⟩:=List.mem_map.1 hd
  exact⟨(h.lx d' hd').1,(h.lx d' hd').2.bare⟩
 ·simp only[dU.bare,List.length_map];exact h.slots
 ·obtain⟨d',hd',rfl⟩:=List.mem_map.1 hd
  exact h.slot d' hd'
 ·simp only[dU.bare,List.length_map];exact h.states
 ·obtain⟨d',hd',rfl⟩:=List.mem_map.1 hd
  exact (h.state d' hd').bare
theorem ux(s u:fG)(hs:s.p.dj)(hls:s.p.xE)(hlu:u.p.xE)(I:cS)(F:cR)(hx:s.Ok I F)(hy:u.Ok I F):cZ P 24 #[s.v,u.v] I F fun e I' G=>e=.returned (.bool (s.p.gT u.p))∧∃H,G.Perm (H++F):=by
 refine gj.vc ?_
 unfold gj.V
 intro b_a b_b
 refine (oG s hls I _ hx.cons.cons).mono fun e I1 G l1 ⟨s',H1,he,p1,o1,hG⟩=>?_
 subst he
 refine⟨_,_,_,_,_,_,_,_,_,_,rfl,H1++F,hG.trans (cU fun z=>by simp only[cY,cV,c6];omega),fun b_x=>?_⟩
 refine (oG u hlu I1 _ (hy.mono l1 fun a ha=>.tail _ (.tail _ (.tail _ (List.mem_append_right _ ha))))).mono fun e I2 G l2 ⟨u',H2,he,p2,o2,hG⟩=>?_
 subst he
 refine⟨_,_,_,_,_,_,_,_,_,_,rfl,H2++(H1++F),hG.trans (cU fun z=>by simp only[cY,cV,c6];omega),fun b_y=>?_⟩
 refine cZ.ret (vY s' u' (by rw[p1];exact hs.bare) I2 _ (o1.ok fun a ha=>.tail _ (.tail _ (.tail _ (.tail _ (List.mem_append_right _ (List.mem_append_left _ ha)))))) (o2.ok fun a ha=>.tail _ (.tail _ (.tail _ (.tail _ (List.mem_append_left _ ha)))))) fun I3 l3=>⟨_,rfl,H2++(H1++F),.refl _, ?_,H2++H1,(cU fun z=>by simp only[cY,cV,c6];omega)⟩
 rw[p1,p2,dU.eC]
theorem nb.tail{α:Type}{z E n c:Nat}{f:α→List Value}{O:α→cR→Prop}{a:Option Addr}{l:List α}{H G:cR}(h:nb true z f E O a n c l H)(hG:∀x,x∈H→x∈G) :
  ∃b,a=some ⟨b,0,none⟩∧c=n+2∧∀I,Rd I G (⟨b,n*z+(z-1),none⟩:Addr) [.int .i64 (-771)]:=by
 obtain⟨A,hs,rfl,hA,ht,hO⟩:=h
 obtain⟨b,cells,e,ha,hAe,hc,hm⟩:=ht rfl
 subst hAe
 refine⟨b,ha,hc,fun I=>Rd.yz (hG _ (List.mem_append_left _ (List.mem_cons_self ..))) _ fun j hj=>?_⟩
 have:j=0:=by simpa using hj
 subst this
 rw[Nat.add_zero,hm];rfl
def TF.enc(f:TF):List Value:=[.int .i64 f.e,.int .i64 f.pos,.bool f.of]
section
variable (s:fG) (hl:s.p.xE) {I:cS} {F:cR} (hok:s.Ok I F)
include hl hok
end
end Go.Lx
namespace Go.Lx
open Go.Vc
section
variable (s:fG) (hl:s.p.xE) {I:cS} {F:cR} (hok:s.Ok I F)
include hl hok
end
end Go.Lx
namespace Go.Lx
open Go.Vc
section
variable (s:fG) (hl:s.p.xE) {I:cS} {F:cR} (hok:s.Ok I F)
include hl hok
end
end Go.Lx
namespace Go.Lx
open Go.Vc
inductive jL (B:Int):Px→Prop
 | mk {k o t n f:Int} {s:ByteArray} {l:List Px} {q:Int}:0≤q→q≤B→(∀x∈l,jL B x)→(s.size:Int)≤B→jL B (.mk k o t n f s l q)
theorem jL.pos{B:Int}{x:Px}(h:jL B x):0≤x.pos∧x.pos≤B:=by cases h;exact⟨by assumption,by assumption⟩
theorem jL.nm{B:Int}{x:Px}(h:jL B x):(x.name.size:Int)≤B:=by cases h;assumption
theorem yQ{B q:Int}(h0:0≤q)(h1:q≤B):(((⟨#[]⟩:ByteArray).size:Nat):Int)≤B:=Int.le_trans h0 h1
theorem jL.CP{B:Int}{x:Px}(h:jL B x):∀k∈x.kids,jL B k:=by cases h;assumption
theorem jL.leaf{B:Int}{k o t n f:Int}{q:Int}(h0:0≤q)(h1:q≤B):jL B (.mk k o t n f ⟨#[]⟩ [] q):=.mk h0 h1 (fun x hx=>by cases hx) (yQ h0 h1)
def v9(c:PC)(B:Int):Prop:=0≤B∧∀t∈c.l,(0≤t.pos∧t.pos≤B)∧(t.text.size:Int)≤B
def Sz(c:PC)(B:Int)(g:PS→Px×PS):Prop:=∀s,(g s).1.size+3*s.next≤1+3*(g s).2.next∧jL B (g s).1
section
variable {c:PC} {B:Int} (hB:v9 c B)
include hB
theorem CZ(i:Nat):0≤(c.tok i).pos∧(c.tok i).pos≤B:=by
 unfold PC.tok
 cases h:c.l[i]? with
 | none=>exact⟨Int.le_refl 0,hB.1⟩
 | some t=>exact (hB.2 t (List.mem_of_getElem? h)).1
theorem jg(s:PS):0≤(c.now s).pos∧(c.now s).pos≤B:=by
 unfold PC.now
 split
 ·exact⟨Int.le_refl 0,hB.1⟩
 ·exact CZ hB _
theorem Ca(s:PS):((c.now s).text.size:Int)≤B:=by
 unfold PC.now
 split
 ·exact hB.1
 ·unfold PC.tok
  cases h:c.l[s.next]? with
  | none=>exact hB.1
  | some t=>exact (hB.2 t (List.mem_of_getElem? h)).2
theorem oc(s:PS):((c.name s).1.size:Int)≤B:=by
 unfold PC.name
 split
 ·exact Ca hB s
 ·exact hB.1
theorem j7:jL B eU:=.leaf (Int.le_refl 0) hB.1
theorem nF(w:ByteArray)(s:PS):0≤(c.take w s).1∧(c.take w s).1≤B:=by
 unfold PC.take
 split
 ·exact jg hB s
 ·exact⟨Int.le_refl 0,hB.1⟩
theorem tG(s:PS):(c.literal s).1.1.size=1∧jL B (c.literal s).1.1:=by
 unfold PC.literal
 have hn:=jg hB s
 have one:∀(a b:Int),(pW a b (c.now s).pos).size=1∧jL B (pW a b (c.now s).pos):=fun a b=>⟨rfl,.leaf hn.1 hn.2⟩
 split
 ·exact one _ _
 ·split
  ·exact one _ _
  ·split
   ·exact one _ _
   ·exact⟨rfl,j7 hB⟩
end
theorem qF(a b:Px):Px.fA [a,b]=a.size+b.size:=by rw[Px.fA,Px.fA,Px.fA];omega
section
variable {c:PC} {B:Int} (hB:v9 c B) {nx:Lv} (hx:Sz c B nx.ex) (hu:Sz c B nx.un)
include hB hx
theorem zN:∀(n:Nat) (f:Bool) (s:PS),Px.fA (c.dF nx n f s).1+3*s.next≤n+3*(c.dF nx n f s).2.next∧∀k∈(c.dF nx n f s).1,jL B k
 | 0,f,s=>by rw[PC.dF];exact⟨by show (0:Int)+3*(s.next:Int)≤((0:Nat):Int)+3*(s.next:Int);omega,fun k hk=>by cases hk⟩
 | n+1,f,s=>by
   have _:=hB
   rw[PC.dF]
   have h1:s.next≤(if f then s else (c.take (⟨#[44]⟩:ByteArray) s).2).next:=by
    split
    ·exact Nat.le_refl _
    ·exact (Up.take _).1
   obtain⟨h2,h3⟩:=hx (if f then s else (c.take (⟨#[44]⟩:ByteArray) s).2)
   obtain⟨h4,h5⟩:=zN n false (nx.ex (if f then s else (c.take (⟨#[44]⟩:ByteArray) s).2)).2
   refine⟨?_,fun k hk=>?_⟩
   ·show Px.fA ((nx.ex _).1::_)+_≤_
    rw[Px.fA]
    show _≤_+3*(((c.dF nx n false (nx.ex (if f then s else (c.take (⟨#[44]⟩:ByteArray) s).2)).2).2.next:Nat):Int)
    omega
   ·rcases List.mem_cons.1 hk with rfl | hk
    ·exact h3
    ·exact h5 k hk
theorem zO{d kind oper dH pos:Int}{many:Nat}{s:PS}(hm:many≤3)(h0:0≤pos)(h1:pos≤B):(c.call nx d kind oper dH pos many s).1.size+3*s.next≤1+3*(c.call nx d kind oper dH pos many s).2.next∧jL B (c.call nx d kind oper dH pos many s).1:=by
 unfold PC.call
 split
 ·rw[ef];exact⟨Int.le_refl _,j7 hB⟩
 ·have h2:(c.cT d s).inc.next=s.next+1:=by rw[fB,ef]
  have h3:=(Up.take (c:=c) (s:=(c.cT d s).inc) (⟨#[40]⟩:ByteArray)).1
  obtain⟨h4,h5⟩:=zN hB hx many true (c.take (⟨#[40]⟩:ByteArray) (c.cT d s).inc).2
  have h6:=(Up.take (c:=c) (s:=(c.dF nx many true (c.take (⟨#[40]⟩:ByteArray) (c.cT d s).inc).2).2) (⟨#[41]⟩:ByteArray)).1
  refine⟨?_,.mk h0 h1 h5 (yQ h0 h1)⟩
  show Px.size (.mk kind oper dH 0 0 ⟨#[]⟩ _ pos)+_≤1+3*((c.take (⟨#[41]⟩:ByteArray) (c.dF nx many true (c.take (⟨#[40]⟩:ByteArray) (c.cT d s).inc).2).2).2.next:Int)
  rw[Px.size]
  omega
theorem C0(d:Int):Sz c B (c.rest nx d):=fun s=>by
 unfold PC.rest
 have hn:=jg hB s
 split
 ·split
  ·rw[hU,fB];exact⟨by show (1:Int)+_≤_;omega,j7 hB⟩
  ·exact⟨by show (1:Int)+3*(s.next:Int)≤1+3*((s.next+1+1:Nat):Int);omega,.leaf hn.1 hn.2⟩
 ·split
  ·split
   ·rw[ef];exact⟨Int.le_refl _,j7 hB⟩
   ·have h2:(c.cT d s).inc.next=s.next+1:=by rw[fB,ef]
    obtain⟨h3,h4⟩:=hx (c.cT d s).inc
    have h5:=(Up.take (c:=c) (s:=(nx.ex (c.cT d s).inc).2) (⟨#[41]⟩:ByteArray)).1
    exact⟨by show (nx.ex (c.cT d s).inc).1.size+_≤1+3*((c.take (⟨#[41]⟩:ByteArray) (nx.ex (c.cT d s).inc).2).2.next:Int);omega,h4⟩
  ·rw[hU];exact⟨Int.le_refl _,j7 hB⟩
theorem Er(d:Int):Sz c B (c.one nx d):=fun s=>by
 unfold PC.one
 have hn:=jg hB s
 split
 ·obtain⟨h1,h2⟩:=tG hB s
  have h3:=(Up.literal (c:=c) (s:=s)).1
  exact⟨by show (c.literal s).1.1.size+_≤1+3*((c.literal s).2.next:Int);rw[h1];omega,h2⟩
 ·split
  ·exact⟨by show (1:Int)+3*(s.next:Int)≤1+3*((s.next+1:Nat):Int);omega,.mk hn.1 hn.2 (fun x hx=>by cases hx) (Ca hB s)⟩
  ·split
   ·exact⟨by show (1:Int)+3*(s.next:Int)≤1+3*((s.next+1:Nat):Int);omega,.leaf hn.1 hn.2⟩
   ·split
    ·exact zO hB hx (by split<;>decide) hn.1 hn.2
    ·split
     ·exact zO hB hx (by decide) hn.1 hn.2
     ·exact C0 hB hx d s
include hu
theorem tH(d:Int):Sz c B (c.unary nx d):=fun s=>by
 unfold PC.unary
 have hn:=jg hB (c.cT d s)
 split
 ·exact Er hB hx d s
 ·split
  ·rw[ef];exact⟨Int.le_refl _,j7 hB⟩
  ·have h2:(c.cT d s).inc.next=s.next+1:=by rw[fB,ef]
   obtain⟨h3,h4⟩:=hu (c.cT d s).inc
   refine⟨?_,.mk hn.1 hn.2 (fun k hk=>?_) (yQ hn.1 hn.2)⟩
   ·show Px.size (.mk 5 _ 0 0 0 ⟨#[]⟩ [(nx.un (c.cT d s).inc).1] _)+_≤1+3*((nx.un (c.cT d s).inc).2.next:Int)
    rw[Px.size,Px.fA,Px.fA];omega
   ·rw[List.mem_singleton] at hk;subst hk;exact h4
end
theorem xJ{c:PC}{B:Int}(hB:v9 c B){ws:List ByteArray}{o:Int}{sub:PS→Px×PS}(h:Sz c B sub):∀(m:Nat) (n:Px) (s:PS) (s0:Int),n.size+s0≤1+3*s.next→jL B n→(c.dN ws o sub m n s).1.size+s0≤1+3*(c.dN ws o sub m n s).2.next∧jL B (c.dN ws o sub m n s).1
 | 0,n,s,s0,hn,hp=>⟨hn,hp⟩
 | m+1,n,s,s0,hn,hp=>by
   rw[PC.dN]
   split
   ·exact⟨hn,hp⟩
   ·have hq:=jg hB s
    obtain⟨h1,h2⟩:=h s.inc
    rw[fB] at h1
    refine xJ hB h m _ _ s0 ?_ (.mk hq.1 hq.2 (fun k hk=>?_) (yQ hq.1 hq.2))
    ·rw[jc,Px.size,qF];omega
    ·rcases List.mem_cons.1 hk with rfl | hk
     ·exact hp
     ·rw[List.mem_singleton] at hk;subst hk;exact h2
theorem rS{c:PC}{B:Int}(hB:v9 c B){ws:List ByteArray}{o:Int}{sub:PS→Px×PS}(h:Sz c B sub):Sz c B (c.loop ws o sub):=fun s=>xJ hB h _ _ _ _ (h s).1 (h s).2
section
variable {c:PC} {B:Int} (hB:v9 c B) {nx:Lv} (hx:Sz c B nx.ex) (hu:Sz c B nx.un) (hm:dQ c nx.ex) (hmu:dQ c nx.un) (d:Int)
include hB hx hu
theorem yR:Sz c B (c.product nx d):=rS hB (tH hB hx hu d)
theorem Cb:Sz c B (c.sum nx d):=rS hB (yR hB hx hu d)
theorem yS:Sz c B (c.compare nx d):=fun s=>by
 unfold PC.compare
 obtain⟨h1,h2⟩:=Cb hB hx hu d s
 have hq:=jg hB (c.sum nx d s).2
 show (if c.any jd (c.sum nx d s).2<0 then c.sum nx d s else _).1.size+_≤1+3*((if c.any jd (c.sum nx d s).2<0 then c.sum nx d s else _:Px×PS).2.next:Int)∧jL B (if c.any jd (c.sum nx d s).2<0 then c.sum nx d s else _:Px×PS).1
 split
 ·exact⟨h1,h2⟩
 ·obtain⟨h3,h4⟩:=Cb hB hx hu d (c.sum nx d s).2.inc
  rw[fB] at h3
  refine⟨?_,.mk hq.1 hq.2 (fun k hk=>?_) (yQ hq.1 hq.2)⟩
  ·show Px.size (jc _ _ _ _)+_≤1+3*((c.sum nx d (c.sum nx d s).2.inc).2.next:Int)
   rw[jc,Px.size,qF];omega
  ·rcases List.mem_cons.1 hk with rfl | hk
   ·exact h2
   ·rw[List.mem_singleton] at hk;subst hk;exact h4
theorem Es:Sz c B (c.and nx d):=rS hB (yS hB hx hu d)
theorem Fi:Sz c B (c.or nx d):=rS hB (Es hB hx hu d)
include hm hmu
theorem zP:Sz c B (c.expr nx d):=fun s=>by
 unfold PC.expr
 obtain⟨h1,h2⟩:=Fi hB hx hu d s
 have hup:=(Up.or hm hmu d s).1
 show (if c.ej _ (c.or nx d s).2 then _ else c.or nx d s:Px×PS).1.size+_≤1+3*((if c.ej _ (c.or nx d s).2 then _ else c.or nx d s:Px×PS).2.next:Int)∧jL B (if c.ej _ (c.or nx d s).2 then _ else c.or nx d s:Px×PS).1
 split
 ·show (if (c.cT d (c.or nx d s).2).over then _ else _:Px×PS).1.size+_≤1+3*((if (c.cT d (c.or nx d s).2).over then _ else _:Px×PS).2.next:Int)∧jL B (if (c.cT d (c.or nx d s).2).over then _ else _:Px×PS).1
  have hq:=jg hB (c.cT d (c.or nx d s).2)
  split
  ·rw[ef];exact⟨by show (1:Int)+_≤_;omega,j7 hB⟩
  ·have h3:(c.cT d (c.or nx d s).2).inc.next=(c.or nx d s).2.next+1:=by rw[fB,ef]
   obtain⟨h4,h5⟩:=hx (c.cT d (c.or nx d s).2).inc
   have h6:=(Up.take (c:=c) (s:=(nx.ex (c.cT d (c.or nx d s).2).inc).2) (⟨#[58]⟩:ByteArray)).1
   obtain⟨h7,h8⟩:=hx (c.take (⟨#[58]⟩:ByteArray) (nx.ex (c.cT d (c.or nx d s).2).inc).2).2
   refine⟨?_,.mk hq.1 hq.2 (fun k hk=>?_) (yQ hq.1 hq.2)⟩
   ·show Px.size (.mk 7 0 0 0 0 ⟨#[]⟩ [(c.or nx d s).1,(nx.ex (c.cT d (c.or nx d s).2).inc).1,(nx.ex (c.take (⟨#[58]⟩:ByteArray) (nx.ex (c.cT d (c.or nx d s).2).inc).2).2).1] _)+_≤1+3*((nx.ex (c.take (⟨#[58]⟩:ByteArray) (nx.ex (c.cT d (c.or nx d s).2).inc).2).2).2.next:Int)
    rw[Px.size,Px.fA,qF];omega
   ·rcases List.mem_cons.1 hk with rfl | hk
    ·exact h2
    ·rcases List.mem_cons.1 hk with rfl | hk
     ·exact h5
     ·rw[List.mem_singleton] at hk;subst hk;exact h8
 ·exact⟨h1,h2⟩
end
theorem tI{c:PC}{B:Int}(hB:v9 c B):∀(k:Nat) (d:Int),Sz c B (c.lvl k d).ex∧Sz c B (c.lvl k d).un
 | 0,d=>by
   have hz:Sz c B (fun s=>(eU,s)):=fun s=>⟨Int.le_refl _,j7 hB⟩
   exact⟨zP hB hz hz (fun s=>.refl) (fun s=>.refl) d,tH hB hz hz d⟩
 | k+1,d=>⟨zP hB (tI hB k (d+1)).1 (tI hB k (d+1)).2 (Up.lvl k (d+1)).1 (Up.lvl k (d+1)).2 d,tH hB (tI hB k (d+1)).1 (tI hB k (d+1)).2 d⟩
theorem Et{c:PC}{B:Int}(hB:v9 c B):Sz c B c.dW:=(tI hB 24 0).1
theorem xK{s:ByteArray}:∀(n:Nat) (f:Int),0≤f→f≤s.size→∀t∈(iv s n f).1,(0≤t.pos∧t.pos≤s.size)∧(t.text.size:Int)≤s.size
 | 0,f,h0,h1,t,ht=>by rw[iv] at ht;cases ht
 | n+1,f,h0,h1,t,ht=>by
   rw[iv] at ht
   split at ht
   ·cases ht
   ·rename_i u hu
    obtain⟨g1,g2,_⟩:=fP h0 h1 hu
    have hp:(0≤u.pos∧u.pos≤s.size)∧(u.text.size:Int)≤s.size:=⟨⟨by omega,by omega⟩,by omega⟩
    split at ht
    ·rw[List.mem_singleton] at ht;subst ht;exact hp
    ·rcases List.mem_cons.1 ht with rfl | ht
     ·exact hp
     ·exact xK n _ (by omega) g1 t ht
theorem tJ(t:ByteArray):v9 (dC t) t.size:=by
 refine⟨by omega,fun u hu=>?_⟩
 unfold dC at hu
 split at hu
 ·cases hu
 ·exact xK _ 0 (Int.le_refl 0) (by omega) u hu
theorem xL(t:ByteArray):(dC t).l.length≤4097:=by
 unfold dC
 split
 ·decide
 ·have:=u6 t ((t.size:Int)-0+1).toNat 0
  show (eQ t 0).1.length≤4097
  unfold eQ
  omega
end Go.Lx
namespace Go.Lx
open Go.Vc
def uy(B M:Int)(x:Px):Prop:=x.size≤M∧jL B x
def eJ.In(B M:Int)(d:eJ):Prop:=((0≤d.pos∧d.pos≤B)∧(d.name.size:Int)≤B)∧uy B M d.side∧uy B M d.qty∧uy B M d.price∧uy B M d.value
def dz.In(B M:Int)(r:dz):Prop:=(0≤r.pos∧r.pos≤B)∧uy B M r.when∧r.dos.length≤8∧∀d∈r.dos,d.In B M
def dm.In(B M:Int)(x:dm):Prop:=((0≤x.pos∧x.pos≤B)∧(x.name.size:Int)≤B)∧x.rules.length≤12∧∀r∈x.rules,r.In B M
def dL.In(B M:Int)(r:dL):Prop:=((0≤r.pos∧r.pos≤B)∧(r.name.size:Int)≤B)∧uy B M r.init
def di.In(B:Int)(r:di):Prop:=(0≤r.pos∧r.pos≤B)∧(r.name.size:Int)≤B
structure dU.In (B M:Int) (s:dU):Prop where
 rl:s.regs.length≤12
 rr:∀x∈s.regs,x.In B M
 sl:s.slots.length≤4
 ss:∀x∈s.slots,x.In B
 tl:s.states.length≤12
 tt:∀x∈s.states,x.In B M
 nn:(s.name.size:Int)≤B
section
variable {c:PC} {B M:Int} (hB:v9 c B) (hM:2+3*(c.l.length:Int)≤M)
include hB hM
theorem lF:uy B M eU:=⟨by show (1:Int)≤M;omega,j7 hB⟩
theorem nG{s:PS}(hs:s.next≤c.l.length):uy B M (c.dW s).1∧(c.dW s).2.next≤c.l.length:=by
 obtain⟨h1,h2⟩:=Et hB s
 have h3:=(Up.dW (c:=c) s).2 hs
 exact⟨⟨by omega,h2⟩,h3⟩
theorem C1{nm:ByteArray}{t pos pos2:Int}{minus:Bool}{n:Px}(h0:(0≤pos∧pos≤B)∧(nm.size:Int)≤B)(h2:0≤pos2∧pos2≤B)(hn:n.size=1∧jL B n)(s:PS):(c.lQ nm t pos pos2 minus n s).1.In B M:=by
 have _:=hB
 unfold PC.lQ dL.In
 refine⟨h0, ?_⟩
 show uy B M (if minus then _ else n)
 split
 ·refine⟨?_,.mk h2.1 h2.2 (fun k hk=>?_) (yQ h2.1 h2.2)⟩
  ·rw[Px.size,Px.fA,Px.fA,hn.1];omega
  ·rw[List.mem_singleton] at hk;subst hk;exact hn.2
 ·exact⟨by rw[hn.1];omega,hn.2⟩
theorem C2{nm:ByteArray}{t pos pos2:Int}{minus:Bool}(h0:(0≤pos∧pos≤B)∧(nm.size:Int)≤B)(h2:0≤pos2∧pos2≤B)(s:PS):(c.jJ nm t pos pos2 minus s).1.In B M:=by
 unfold PC.jJ
 split
 ·exact⟨h0,lF hB hM⟩
 ·exact C1 hB hM h0 h2 (tG hB s) _
theorem C3{nm:ByteArray}{pos:Int}(h0:(0≤pos∧pos≤B)∧(nm.size:Int)≤B)(s:PS):(c.kJ nm pos s).1.In B M:=by
 unfold PC.kJ
 split
 ·exact⟨h0,lF hB hM⟩
 ·unfold PC.kI;exact C2 hB hM h0 (jg hB _) _
theorem Eu(s:PS):(c.lx s).1.In B M:=by unfold PC.lx;exact C3 hB hM ⟨nF hB _ s,oc hB _⟩ _
theorem AR(s:PS):((c.eg s).1.size:Int)≤B:=by
 have _:=hM
 unfold PC.eg
 split
 ·exact oc hB _
 ·exact hB.1
theorem zQ{x y z:Px}{pos o:Int}(h0:0≤pos∧pos≤B)(hx:uy B M x)(hy:uy B M y)(hz:uy B M z)(s:PS):(c.jK x y pos z o s).1.In B M:=⟨⟨h0,AR hB hM _⟩,hx,hy,hz,lF hB hM⟩
theorem C4{x y z:Px}{pos:Int}(h0:0≤pos∧pos≤B)(hx:uy B M x)(hy:uy B M y)(hz:uy B M z)(s:PS):(c.iw x y pos z s).1.In B M:=by
 unfold PC.iw
 split
 ·exact⟨⟨h0,hB.1⟩,hx,hy,hz,lF hB hM⟩
 ·exact zQ hB hM h0 hx hy hz _
theorem C5{x y:Px}{pos:Int}(h0:0≤pos∧pos≤B)(hx:uy B M x)(hy:uy B M y){s:PS}(hs:s.next≤c.l.length):(c.ij x y pos s).1.In B M:=by
 unfold PC.ij
 split
 ·exact⟨⟨h0,hB.1⟩,hx,hy,lF hB hM,lF hB hM⟩
 ·rename_i h2
  split
  ·exact C4 hB hM h0 hx hy (nG hB hM ((Up.inc (dB (Int.not_lt.1 h2)).1).2 hs)).1 _
  ·exact zQ hB hM h0 hx hy (lF hB hM) _
theorem AU{s:PS}(hs:s.next≤c.l.length):(c.fZ s).1.In B M:=by
 unfold PC.fZ PC.tC
 obtain⟨h1,h2⟩:=nG hB hM ((Up.take (c:=c) (s:=s) (⟨#[115,117,98,109,105,116]⟩:ByteArray)).2 hs)
 obtain⟨h3,h4⟩:=nG hB hM ((Up.take (c:=c) (s:=(c.dW (c.take (⟨#[115,117,98,109,105,116]⟩:ByteArray) s).2).2) (⟨#[111,102]⟩:ByteArray)).2 h2)
 exact C5 hB hM (nF hB _ s) h1 h3 h4
theorem Cc{k:Int}{nm:ByteArray}{pos:Int}(h0:(0≤pos∧pos≤B)∧(nm.size:Int)≤B){s:PS}(hs:s.next≤c.l.length):(c.ny k nm pos s).1.In B M:=by
 unfold PC.ny
 have hz:=lF hB hM
 split
 ·unfold PC.A8
  obtain⟨h1,h2⟩:=nG hB hM ((Up.take (c:=c) (s:=s) (⟨#[116,111]⟩:ByteArray)).2 hs)
  exact⟨h0,hz,h1,(nG hB hM ((Up.take (c:=c) (s:=(c.dW (c.take (⟨#[116,111]⟩:ByteArray) s).2).2) (⟨#[97,116]⟩:ByteArray)).2 h2)).1,hz⟩
 ·split
  ·unfold PC.Em
   exact⟨h0,hz,hz,hz,(nG hB hM ((Up.take (c:=c) (s:=s) (⟨#[61]⟩:ByteArray)).2 hs)).1⟩
  ·exact⟨h0,hz,hz,hz,hz⟩
theorem Fj{s:PS}(hs:s.next≤c.l.length):(c.do s).1.In B M:=by
 unfold PC.do
 have hz:=lF hB hM
 split
 ·exact⟨⟨⟨Int.le_refl 0,hB.1⟩,hB.1⟩,hz,hz,hz,hz⟩
 ·rename_i h2
  have hi:=(Up.inc (dB (Int.not_lt.1 h2)).1:Up c s s.inc).2 hs
  split
  ·exact AU hB hM hs
  ·split
   ·exact Cc hB hM (nm:=⟨#[]⟩) ⟨jg hB s,hB.1⟩ hi
   ·exact Cc hB hM ⟨jg hB s,oc hB _⟩ (Up.name.2 hi)
theorem zR:∀(m:Nat) (l:List eJ) (s:PS),s.next≤c.l.length→(∀d∈l,d.In B M)→(∀d∈(c.fc m l s).1,d.In B M)∧(c.fc m l s).1.length≤l.length+m
 | 0,l,s,hs,hl=>⟨hl,Nat.le_refl _⟩
 | m+1,l,s,hs,hl=>by
   rw[PC.fc]
   have hd:=Fj hB hM hs
   have hl2:∀d∈l++[(c.do s).1],d.In B M:=fun d hm=>by
    rcases List.mem_append.1 hm with hm | hm
    ·exact hl d hm
    ·rw[List.mem_singleton] at hm;subst hm;exact hd
   have hn:=(Up.do s).2 hs
   have he:(l++[(c.do s).1]).length=l.length+1:=by rw[List.length_append];rfl
   split
   ·rename_i h1
    have hlt:=gZ h1
    split
    ·exact⟨hl2,by show (l++[(c.do s).1]).length≤_;omega⟩
    ·obtain⟨g1,g2⟩:=zR m (l++[(c.do s).1]) (c.many (l.length+1) 8 (c.do s).2).inc (by rw[fB,ko];exact hlt) hl2
     exact⟨g1,by omega⟩
   ·exact⟨hl2,by show (l++[(c.do s).1]).length≤_;omega⟩
theorem C6{s:PS}(hs:s.next≤c.l.length):(c.fS s).1.In B M:=by
 unfold PC.fS PC.kK
 obtain⟨h1,h2⟩:=nG hB hM ((Up.take (c:=c) (s:=s) (⟨#[119,104,101,110]⟩:ByteArray)).2 hs)
 obtain⟨h3,h4⟩:=zR hB hM 8 [] (c.take (⟨#[100,111]⟩:ByteArray) (c.dW (c.take (⟨#[119,104,101,110]⟩:ByteArray) s).2).2).2 ((Up.take (c:=c) (s:=(c.dW (c.take (⟨#[119,104,101,110]⟩:ByteArray) s).2).2) (⟨#[100,111]⟩:ByteArray)).2 h2) (fun d hd=>by cases hd)
 exact⟨nF hB _ s,h1,by simpa using h4,h3⟩
omit hB hM in
theorem nH{α:Type}{w:ByteArray}{most:Nat}{one:PS→α×PS}{Q:α→Prop}(hm:dQ c one)(h1:∀s:PS,s.next≤c.l.length→Q (one s).1):∀(m:Nat) (l:List α) (s:PS),s.next≤c.l.length→(∀x∈l,Q x)→(∀x∈(c.dZ w most one m l s).1,Q x)∧(c.dZ w most one m l s).1.length≤l.length+m
 | 0,l,s,hs,hl=>⟨hl,Nat.le_refl _⟩
 | m+1,l,s,hs,hl=>by
   rw[PC.dZ]
   split
   ·split
    ·exact⟨hl,Nat.le_add_right _ _⟩
    ·have hn:(c.many l.length most s).next≤c.l.length:=by rw[ko];exact hs
     obtain⟨g1,g2⟩:=nH hm h1 m (l++[(one (c.many l.length most s)).1]) (one (c.many l.length most s)).2 ((hm _).2 hn) fun x hx=>by
      rcases List.mem_append.1 hx with hx | hx
      ·exact hl x hx
      ·rw[List.mem_singleton] at hx;subst hx;exact h1 _ hn
     rw[List.length_append,List.length_singleton] at g2
     exact⟨g1,by omega⟩
   ·exact⟨hl,Nat.le_add_right _ _⟩
theorem Cd{s:PS}(hs:s.next≤c.l.length):(c.state s).1.In B M:=by
 unfold PC.state PC.ly
 have h1:=(Up.take (c:=c) (s:=s) (⟨#[115,116,97,116,101]⟩:ByteArray)).2 hs
 have h2:=(Up.name (c:=c) (s:=(c.take (⟨#[115,116,97,116,101]⟩:ByteArray) s).2)).2 h1
 have h3:=(Up.take (c:=c) (s:=(c.name (c.take (⟨#[115,116,97,116,101]⟩:ByteArray) s).2).2) (⟨#[123]⟩:ByteArray)).2 h2
 obtain⟨h4,h5⟩:=nH (w:=(⟨#[119,104,101,110]⟩:ByteArray)) (most:=12) (Q:=dz.In B M) Up.fS (fun s hs=>C6 hB hM hs) 12 [] _ h3 (fun x hx=>by cases hx)
 exact⟨⟨nF hB _ s,oc hB _⟩,h5,h4⟩
theorem C7(s:PS):(c.slot s).1.In B:=by
 have _:=hM
 exact⟨nF hB _ s,oc hB _⟩
theorem Ce{s:PS}(hs:s.next≤c.l.length):(c.whole s).1.In B M:=by
 unfold PC.whole PC.qD PC.qC PC.qB PC.lz
 have h1:=(Up.take (c:=c) (s:=s) (⟨#[115,116,114,97,116,101,103,121]⟩:ByteArray)).2 hs
 have h2:=(Up.name (c:=c) (s:=(c.take (⟨#[115,116,114,97,116,101,103,121]⟩:ByteArray) s).2)).2 h1
 have h3:=(Up.take (c:=c) (s:=(c.name (c.take (⟨#[115,116,114,97,116,101,103,121]⟩:ByteArray) s).2).2) (⟨#[123]⟩:ByteArray)).2 h2
 obtain⟨h4,h5⟩:=nH (w:=(⟨#[114,101,103]⟩:ByteArray)) (most:=12) (Q:=dL.In B M) Up.lx (fun s hs=>Eu hB hM s) 12 [] _ h3 (fun x hx=>by cases hx)
 have h6:=(Up.list (w:=(⟨#[114,101,103]⟩:ByteArray)) (most:=12) Up.lx (c.take (⟨#[123]⟩:ByteArray) (c.name (c.take (⟨#[115,116,114,97,116,101,103,121]⟩:ByteArray) s).2).2).2).2 h3
 obtain⟨h7,h8⟩:=nH (w:=(⟨#[115,108,111,116]⟩:ByteArray)) (most:=4) (Q:=di.In B) Up.slot (fun s hs=>C7 hB hM s) 4 [] _ h6 (fun x hx=>by cases hx)
 have h9:=(Up.list (w:=(⟨#[115,108,111,116]⟩:ByteArray)) (most:=4) Up.slot (c.list (⟨#[114,101,103]⟩:ByteArray) 12 c.lx (c.take (⟨#[123]⟩:ByteArray) (c.name (c.take (⟨#[115,116,114,97,116,101,103,121]⟩:ByteArray) s).2).2).2).2).2 h6
 obtain⟨h10,h11⟩:=nH (w:=(⟨#[115,116,97,116,101]⟩:ByteArray)) (most:=12) (Q:=dm.In B M) Up.state (fun s hs=>Cd hB hM hs) 12 [] _ h9 (fun x hx=>by cases hx)
 exact⟨h5,h4,h8,h7,h11,h10,oc hB _⟩
end
theorem qG(t:ByteArray):(dS t).1.In t.size 20000:=by
 unfold dS
 show (if ((dC t).whole (eD t)).2.over then _ else _:dU×PF).1.In t.size 20000
 split
 ·exact⟨Nat.zero_le _,fun x hx=>(by cases hx),Nat.zero_le _,fun x hx=>(by cases hx),Nat.zero_le _,fun x hx=>(by cases hx),Int.natCast_nonneg _⟩
 ·exact Ce (tJ t) (by have:=xL t;omega) (Nat.zero_le _)
theorem dU.In.thin{B:Int}{s:dU}(h:s.In B 20000):s.xE:=by
 have h1:=h.rl
 have h2:=h.sl
 have h3:=h.tl
 refine⟨by omega,fun r hr=>?_,by omega,by omega,fun x hx=>?_⟩
 ·have:=(h.rr r hr).2.1;omega
 ·obtain⟨_,g1,g2⟩:=h.tt x hx
  refine⟨by omega,fun r hr=>?_⟩
  obtain⟨_,k1,k2,k3⟩:=g2 r hr
  refine⟨by have:=k1.1;omega,by omega,fun d hd=>?_⟩
  obtain⟨_,d1,d2,d3,d4⟩:=k3 d hd
  intro y hy
  simp only[eJ.DB,List.mem_cons,List.not_mem_nil,or_false] at hy
  rcases hy with rfl | rfl | rfl | rfl
  ·have:=d1.1;omega
  ·have:=d2.1;omega
  ·have:=d3.1;omega
  ·have:=d4.1;omega
section
variable {B M:Int} {s:dU}
variable (h0:0≤B)
include h0
end
end Go.Lx
namespace Go.Lx
open Go.Vc
theorem Fk{s:ByteArray}{p:Tok→Prop}(h:∀f t,0≤f→f≤(s.size:Int)→fj s f=.ok t→p t):∀(n:Nat) (f:Int),0≤f→f≤s.size→(s.size-f).toNat=n→∀t∈(eQ s f).1,p t:=by
 intro n
 induction n using Nat.strongRecOn with
 | _ n ih =>
   intro f h0 h1 hn t ht
   rw[eS h0 h1] at ht
   cases htk:fj s f with
   | bad e q=>rw[htk] at ht;cases ht
   | ok u =>
     rw[htk] at ht
     simp only at ht
     have hnx:=fP h0 h1 htk
     by_cases hk:u.kind=0
     ·rw[if_pos hk] at ht
      have ht:t∈[u]:=ht
      rw[List.mem_singleton] at ht
      subst ht;exact h f t h0 h1 htk
     ·rw[if_neg hk] at ht
      have:=hnx.2.2 hk
      rcases List.mem_cons.1 ht with ht | ht
      ·subst ht;exact h f t h0 h1 htk
      ·exact ih _ (by omega) _ (by omega) hnx.1 rfl t ht
theorem Cf{s:ByteArray}:∀(n:Nat) (f:Int),0≤f→f≤s.size→(s.size-f).toNat=n→∀e p,(eQ s f).2=some (e,p)→e≠0∧f≤p∧p≤s.size∧fj s p=.bad e p:=by
 intro n
 induction n using Nat.strongRecOn with
 | _ n ih =>
   intro f h0 h1 hn e p ht
   rw[eS h0 h1] at ht
   have ho:=fN h1
   cases htk:fj s f with
   | bad e' q =>
     rw[htk] at ht
     have ht:some (e',q)=some (e,p):=ht
     cases ht
     rcases fo h0 h1 with ⟨u,hu,_⟩ | ⟨e2,hu,he2⟩
     ·rw[htk] at hu;cases hu
     ·rw[htk] at hu
      cases hu
      refine⟨by omega,ho.1,ho.2, ?_⟩
      rw[iQ] at htk ⊢
      by_cases he:dg s f=s.size
      ·rw[if_pos he] at htk;cases htk
      ·rw[if_neg he] at htk
       have hlt:dg s f<s.size:=by omega
       obtain⟨st1,st2⟩:=pM h1 hlt
       rw[my hlt st1 st2,if_neg he,htk]
   | ok u =>
     rw[htk] at ht
     simp only at ht
     have hnx:=fP h0 h1 htk
     by_cases hk:u.kind=0
     ·rw[if_pos hk] at ht;cases ht
     ·rw[if_neg hk] at ht
      have:=hnx.2.2 hk
      obtain⟨g1,g2,g3,g4⟩:=ih _ (by omega) _ (by omega) hnx.1 rfl e p ht
      exact⟨g1,by omega,g3,g4⟩
theorem o8{t:ByteArray}(h:(t.size:Int)≤4096):dC t=⟨(eQ t 0).1,((eQ t 0).2.map Prod.fst).getD 0,((eQ t 0).2.map Prod.snd).getD 0⟩:=if_neg (by omega)
theorem o9{t:ByteArray}(h:(t.size:Int)≤4096):eD t=⟨0,0,0,false⟩:=by unfold eD;rw[if_neg (by omega)]
theorem u7(t:ByteArray):dS t=if ((dC t).whole (eD t)).2.over then (⟨⟨#[]⟩,[],[],[]⟩,((dC t).whole (eD t)).2.f) else (((dC t).whole (eD t)).1,zF):=rfl
theorem C8{s:ByteArray}:∀(n:Nat) (f:Int),0≤f→f≤s.size→(s.size-f).toNat=n→∀t∈(eQ s f).1,f≤t.pos:=by
 intro n
 induction n using Nat.strongRecOn with
 | _ n ih =>
   intro f h0 h1 hn t ht
   rw[eS h0 h1] at ht
   cases htk:fj s f with
   | bad e q=>rw[htk] at ht;cases ht
   | ok u =>
     rw[htk] at ht
     simp only at ht
     have hnx:=fP h0 h1 htk
     by_cases hk:u.kind=0
     ·rw[if_pos hk] at ht
      have ht:t∈[u]:=ht
      rw[List.mem_singleton] at ht
      subst ht;exact hnx.2.1
     ·rw[if_neg hk] at ht
      have:=hnx.2.2 hk
      rcases List.mem_cons.1 ht with ht | ht
      ·subst ht;exact hnx.2.1
      ·have:=ih _ (by omega) _ (by omega) hnx.1 rfl t ht
       omega
theorem lf{x y:ByteArray}{k:Int}(h0:0≤k)(h:k<x.size):bt (x++y) k=bt x k:=by
 obtain⟨n,rfl⟩:∃n:Nat,k=n:=⟨k.toNat,by omega⟩
 have hx:n<x.size:=by omega
 have hxy:n<(x++y).size:=by rw[ByteArray.size_append];omega
 rw[qA hxy,qA hx]
 have:(x++y).data=x.data++y.data:=ByteArray.data_append
 simp only[this]
 rw[Array.getElem_append_left (by exact hx)]
theorem j8{x y:ByteArray}{k:Int}(h0:0≤k)(h:k<y.size):bt (x++y) (x.size+k)=bt y k:=by
 obtain⟨n,rfl⟩:∃n:Nat,k=n:=⟨k.toNat,by omega⟩
 have hy:n<y.size:=by omega
 have hxy:x.size+n<(x++y).size:=by rw[ByteArray.size_append];omega
 rw[show (x.size:Int)+(n:Int)=((x.size+n:Nat):Int) by omega,qA hxy,qA hy]
 have:(x++y).data=x.data++y.data:=ByteArray.data_append
 simp only[this]
 rw[Array.getElem_append_right (by show x.data.size≤x.size+n;exact Nat.le_add_right _ _)]
 have hh:x.size+n-x.data.size=n:=Nat.add_sub_cancel_left x.size n
 simp only[hh]
def xM:List Int→Bool→Option Bool
 | [],r=>some r
 | c::cs,r=>if !(mw c r) && !blank c then none else xM cs (mw c r)
theorem u9{z:ByteArray}:∀(cs:List Int) (r r':Bool) (i:Int),xM cs r=some r'→0≤i→i+cs.length≤z.size→(∀j:Nat,j<cs.length→cs[j]? = some (bt z (i+j)))→ig z r i=ig z r' (i+cs.length)
 | [],r,r',i,h,h0,hl,hb=>by
   simp only[xM,Option.some.injEq] at h
   subst h;simp
 | c::cs,r,r',i,h,h0,hl,hb=>by
   have hc:c=bt z i:=by have:=hb 0 (by simp);simpa using this
   simp only[List.length_cons] at hl ⊢
   rw[eA (by omega),←hc]
   unfold xM at h
   split at h
   ·cases h
   ·rename_i hn
    rw[if_neg hn,u9 cs _ r' (i+1) h (by omega) (by omega) fun j hj=>?_]
    ·congr 1;omega
    ·have:=hb (j+1) (by simpa using hj)
     rw[List.getElem?_cons_succ] at this
     rw[this];congr 2;omega
def rp:List ByteArray:=[⟨#[32]⟩,⟨#[10]⟩,⟨#[9]⟩,⟨#[32,32]⟩,⟨#[32,35,32,120,10]⟩,⟨#[13,10]⟩]
theorem og{g:ByteArray}(h:g∈rp):0<g.size∧g.size≤6∧AM (bt g 0)=true∧xM (bytesOf g) false=some false:=by
 simp only[rp,List.mem_cons,List.not_mem_nil,or_false] at h
 rcases h with h | h | h | h | h | h<;>(subst h;exact⟨by decide,by decide,by kernel_rfl,by kernel_rfl⟩)
inductive gH:List Tok→List Int→ByteArray→Prop
 | nil:gH [] [] ⟨#[]⟩
 | cons {t:Tok} {l:List Tok} {ps:List Int} {g rest:ByteArray}:g∈rp→gH l ps rest→gH (t::l) (0::ps.map fun p:Int=>p+((t.text.size:Int)+g.size)) (t.text++(g++rest))
theorem C9(x:ByteArray):x++⟨#[]⟩=x:=by
 refine tz ?_ fun k hk=>?_
 ·rw[ByteArray.size_append];rfl
 ·rw[ByteArray.size_append] at hk
  exact lf (by omega) (by have:(⟨#[]⟩:ByteArray).size=0:=rfl;omega)
theorem Da(x:ByteArray):(⟨#[]⟩:ByteArray)++x=x:=by
 refine tz ?_ fun k hk=>?_
 ·rw[ByteArray.size_append];exact Nat.zero_add _
 ·rw[ByteArray.size_append] at hk
  have h0:(⟨#[]⟩:ByteArray).size=0:=rfl
  have:=j8 (x:=⟨#[]⟩) (y:=x) (k:=k) (by omega) (by omega)
  rwa [show (((⟨#[]⟩:ByteArray).size:Nat):Int)+(k:Int)=k by rw[h0];omega] at this
theorem va(x y z:ByteArray):x++y++z=x++(y++z):=ByteArray.append_assoc
theorem gH.snoc{l:List Tok}{ps:List Int}{out:ByteArray}(h:gH l ps out)(t:Tok){g:ByteArray}(hg:g∈rp):gH (l++[t]) (ps++[(out.size:Int)]) (out++t.text++g):=by
 induction h with
 | nil =>
   have:=gH.cons (t:=t) hg gH.nil
   rw[C9] at this
   rw[Da];exact this
 | @cons t0 l0 ps0 g0 rest0 hg' _ ih =>
   have:=gH.cons (t:=t0) hg' ih
   rw[List.cons_append]
   have e:(0::ps0.map fun p:Int=>p+((t0.text.size:Int)+g0.size))++[((t0.text++(g0++rest0)).size:Int)]=0::(ps0++[(rest0.size:Int)]).map fun p:Int=>p+((t0.text.size:Int)+g0.size):=by
    rw[List.map_append,List.cons_append]
    congr 2
    rw[List.map_singleton]
    congr 1
    rw[ByteArray.size_append,ByteArray.size_append];omega
   rw[e]
   simp only[va] at this ⊢
   exact this
theorem gH.len{l:List Tok}{ps:List Int}{out:ByteArray}(h:gH l ps out):ps.length=l.length:=by
 induction h with
 | nil=>rfl
 | cons _ _ ih=>rw[List.length_cons,List.length_cons,List.length_map,ih]
def DG(t u:Tok):Prop:=t.kind=u.kind∧t.text=u.text∧t.dH=u.dH∧t.n=u.n
inductive tK:List Tok→List Tok→Prop
 | nil:tK [] []
 | cons {t u:Tok} {l m:List Tok}:DG t u→tK l m→tK (t::l) (u::m)
theorem tK.shift{l m:List Tok}(h:tK l m)(d:Int):tK (l.map (Tok.shift d)) m:=by
 induction h with
 | nil=>exact .nil
 | cons h _ ih=>exact .cons h ih
theorem tK.len{l m:List Tok}(h:tK l m):l.length=m.length:=by
 induction h with
 | nil=>rfl
 | cons _ _ ih=>simp[ih]
theorem tK.get{l m:List Tok}(h:tK l m):∀{i:Nat} {t u:Tok},l[i]? = some t→m[i]? = some u→DG t u:=by
 induction h with
 | nil=>intro i t u h;simp at h
 | cons h _ ih =>
   intro i t u h1 h2
   cases i with
   | zero=>simp at h1 h2;subst h1 h2;exact h
   | succ i=>exact ih (by simpa using h1) (by simpa using h2)
theorem yT(x y:ByteArray):fF y (x++y) x.size:=by
 refine⟨by omega,by rw[ByteArray.size_append];omega,fun k g0 g1=>?_⟩
 rw[show k+(x.size:Int)=x.size+k by omega]
 exact j8 g0 g1
theorem Cg{x g rest:ByteArray}(hg:g∈rp):dg (x++(g++rest)) x.size=dg (x++(g++rest)) (x.size+g.size):=by
 obtain⟨h1,h2,h3,h4⟩:=og hg
 have hl:(bytesOf g).length=g.size:=by unfold bytesOf;simp
 have hs:((x++(g++rest)).size:Int)=x.size+(g.size+rest.size):=by rw[ByteArray.size_append,ByteArray.size_append];omega
 have:=u9 (z:=x++(g++rest)) (bytesOf g) false false x.size h4 (by omega) (by rw[hl];omega) fun j hj=>by
  rw[hl] at hj
  rw[re hj]
  congr 1
  rw[j8 (x:=x) (y:=g++rest) (k:=j) (by omega) (by rw[ByteArray.size_append];omega),lf (by omega) (by omega)]
 rw[hl] at this
 exact this
theorem rq{s:ByteArray}:∀(l:List Tok) (f:Int),0≤f→f≤s.size→eQ s f=(l,none)→∀ps out,gH l ps out→∃m,eQ out 0=(m,none)∧tK m l∧m.map Tok.pos=ps.dropLast++[(out.size:Int)]
 | [],f,h0,h1,ht,ps,out,hsp=>by
   obtain⟨t,r,hl,_⟩:=rR h0 h1 ht
   cases hl
 | t::l,f,h0,h1,ht,ps,out,hsp=>by
   obtain⟨t',r,hl,htok,hor⟩:=rR h0 h1 ht
   obtain⟨rfl,rfl⟩:=List.cons.inj hl
   cases hsp with
   | @cons _ _ ps g rest hg hrest =>
     obtain⟨g1,g2,g3,g4⟩:=og hg
     have hs:((t.text++(g++rest)).size:Int)=t.text.size+(g.size+rest.size):=by rw[ByteArray.size_append,ByteArray.size_append];omega
     have hgo:=Cg (x:=t.text) (rest:=rest) hg
     have hat:=qE h0 h1 htok
     rcases hor with ⟨hk,hr⟩ | ⟨hk,hr⟩
     ·subst hr
      have htz:t=ir s.size:=by
       rcases hat.2.2.2 with ⟨_,_,h⟩ | ⟨h,_⟩
       ·exact h
       ·omega
      have htx:t.text=⟨#[]⟩:=by rw[htz];rfl
      have hsz:(t.text.size:Int)=0:=by rw[htx];rfl
      cases hrest
      have hrs:((⟨#[]⟩:ByteArray).size:Int)=0:=rfl
      rw[hsz,Int.zero_add] at hgo
      have hend:dg (t.text++(g++(⟨#[]⟩:ByteArray))) 0=(t.text++(g++(⟨#[]⟩:ByteArray))).size:=by
       rw[hgo];unfold dg;rw[hY (by omega)];omega
      exact⟨_,B9 (Int.le_refl 0) (by omega) hend,.cons (by rw[htz];exact⟨rfl,rfl,rfl,rfl⟩) .nil,rfl⟩
     ·obtain⟨hlt,hrd⟩:=B8 h0 h1 htok hk
      have ho:=fN h1
      have hst:=pM h1 hlt
      obtain⟨hpos,hle,htx,hsz⟩:=hat
      have hsz:0<t.text.size:=by
       rcases hsz with ⟨h,_⟩ | ⟨_,_,h⟩
       ·exact absurd h hk
       ·exact h
      have hag:∀k,0≤k→k<(t.text.size:Int)→bt (t.text++(g++rest)) (0+k)=bt s (dg s f+k):=fun k q0 q1=>by
       rw[Int.zero_add,lf q0 q1]
       conv=>lhs;rw[htx]
       rw[mL (by omega) q0 (by omega) hle,hpos]
      have h00:bt (t.text++(g++rest)) 0=bt s (dg s f):=by have:=hag 0 (Int.le_refl 0) (by omega);rwa [Int.add_zero,Int.add_zero] at this
      have hr':=AO (s':=t.text++(g++rest)) (i':=0) (by omega) hlt (Int.le_refl 0) hrd (by omega) hag (fun h=>by
       have e1:=j8 (x:=t.text) (y:=g++rest) (k:=0) (Int.le_refl 0) (by rw[ByteArray.size_append];omega)
       rw[Int.add_zero,lf (Int.le_refl 0) (by omega)] at e1
       rw[Int.zero_add,e1];exact g3)
      have htok':fj (t.text++(g++rest)) 0=.ok ⟨t.kind,t.text,t.dH,t.n,0⟩:=CX (Int.le_refl 0) (by omega) (by rw[h00];exact hst.1) (by rw[h00];exact hst.2) hr'
      have hnx:=fP h0 h1 htok
      obtain⟨m,hm,hlike,hps⟩:=rq l _ (by omega) hnx.1 hr ps rest hrest
      have hbh:fF rest (t.text++(g++rest)) (t.text.size+g.size):=by
       have:=yT (t.text++g) rest
       rw[va,ByteArray.size_append] at this
       have hc:((t.text.size+g.size:Nat):Int)=t.text.size+g.size:=by omega
       rwa [hc] at this
      have hb:=hbh.eQ _ 0 (Int.le_refl 0) (by omega) rfl
      rw[Int.zero_add,hm] at hb
      have hto:=AQ (s:=t.text++(g++rest)) (f:=t.text.size) (g:=t.text.size+g.size) (by omega) (by omega) (by omega) (by omega) hgo
      refine⟨⟨t.kind,t.text,t.dH,t.n,0⟩::m.map (Tok.shift (t.text.size+g.size)), ?_,.cons ⟨rfl,rfl,rfl,rfl⟩ (hlike.shift _), ?_⟩
      ·rw[eS (Int.le_refl 0) (by omega),htok']
       simp only[hk,if_false]
       rw[Int.zero_add,hto,hb]
       rfl
      ·have hne:ps≠[]:=fun h=>by
        have h2:=hrest.len
        obtain⟨_,_,hl2,_⟩:=rR (by omega) hnx.1 hr
        rw[h,hl2] at h2;cases h2
       have hne2:(ps.map fun p:Int=>p+((t.text.size:Int)+g.size))≠[]:=fun h=>hne (List.map_eq_nil_iff.1 h)
       rw[List.dropLast_cons_of_ne_nil hne2,←List.map_dropLast,List.map_cons,List.map_map,List.cons_append]
       congr 1
       have e1:(Tok.pos∘Tok.shift ((t.text.size:Int)+g.size))=(fun p:Int=>p+((t.text.size:Int)+g.size))∘Tok.pos:=rfl
       rw[e1,←List.map_map,hps,List.map_append,List.map_singleton]
       congr 2
       omega
theorem Ch{s:ByteArray}:∀(n:Nat) (f:Int),0≤f→f≤s.size→(s.size-f).toNat=n→(eQ s f).1.Pairwise fun t u=>t.pos<u.pos:=by
 intro n
 induction n using Nat.strongRecOn with
 | _ n ih =>
   intro f h0 h1 hn
   rw[eS h0 h1]
   cases htk:fj s f with
   | bad e q=>exact .nil
   | ok u =>
     simp only
     have hnx:=fP h0 h1 htk
     by_cases hk:u.kind=0
     ·rw[if_pos hk];exact List.pairwise_singleton _ _
     ·rw[if_neg hk]
      have:=hnx.2.2 hk
      have hsz:0<u.text.size:=by
       rcases (qE h0 h1 htk).2.2.2 with ⟨h,_⟩ | ⟨_,_,h⟩
       ·exact absurd h hk
       ·exact h
      refine List.Pairwise.cons (fun t ht=>?_) (ih _ (by omega) _ (by omega) hnx.1 rfl)
      have:=C8 _ _ (by omega) hnx.1 rfl t ht
      omega
theorem wb{s out:ByteArray}{l:List Tok}{ps:List Int}(hs:(s.size:Int)≤4096)(ho:(out.size:Int)≤4096)(hl:eQ s 0=(l,none))(hsp:gH l ps out) :
  (dS out).2.e=(dS s).2.e∧(dS out).1.bare=(dS s).1.bare∧((dS s).2.e≠0→∃(i:Nat) (t:Tok),l[i]? = some t∧t.pos=(dS s).2.pos∧(ps.dropLast++[(out.size:Int)])[i]? = some (dS out).2.pos):=by
 obtain⟨m,hm,hlike,hps⟩:=rq l 0 (Int.le_refl 0) (by omega) hl ps out hsp
 have hc:dC s=⟨l,0,0⟩:=by rw[o8 hs,hl];rfl
 have hc':dC out=⟨m,0,0⟩:=by rw[o8 ho,hm];rfl
 have hlen:=hlike.len
 let M:c7:=⟨⟨l,0,0⟩,⟨m,0,0⟩,0,0,l.length,false,fun a b=>∃(i:Nat) (t:Tok),l[i]? = some t∧t.pos=a∧(m.map Tok.pos)[i]? = some b⟩
 have hok:M.Ok:=by
  refine⟨Int.le_refl 0,fun i hi=>?_,fun i hi hil=>?_,fun h=>by (cases h),.inr ⟨rfl,rfl⟩⟩
  ·show i<l.length↔i+0<m.length;omega
  ·have hil:i<l.length:=hil
   have hil':i<m.length:=by omega
   have h1:l[i]? = some l[i]:=List.getElem?_eq_getElem hil
   have h2:m[i]? = some m[i]:=List.getElem?_eq_getElem hil'
   have e1:M.c.tok i=l[i]:=by show (l[i]?).getD _=_;rw[h1];rfl
   have e2:M.c'.tok (i+M.o)=m[i]:=by show (m[i+0]?).getD _=_;rw[Nat.add_zero,h2];rfl
   rw[e1,e2]
   obtain⟨g1,g2,g3,g4⟩:=hlike.get h2 h1
   exact⟨.inl ⟨g1,g2,g3,g4⟩,i,l[i],h1,rfl,by rw[List.getElem?_map,h2];rfl⟩
 have hrs:M.Rs (eD s) (eD out):=by
  rw[o9 hs,o9 ho]
  exact⟨rfl,rfl,rfl,fun h=>absurd rfl h⟩
 have hn0:(eD s).next=0:=by rw[o9 hs]
 have hup:=(Up.whole (c:=⟨l,0,0⟩) (eD s)).2 (by rw[hn0];exact Nat.zero_le _)
 obtain⟨⟨_,g1,g2,g3⟩,g4⟩:=c7.whole hok rfl rfl (eD s) (eD out) hrs ⟨hup,fun h=>by (cases h)⟩
 have g1:((dC out).whole (eD out)).2.f.e=((dC s).whole (eD s)).2.f.e:=by rw[hc,hc'];exact g1
 have g3:((dC s).whole (eD s)).2.f.e≠0→∃(i:Nat) (t:Tok),l[i]? = some t∧t.pos=((dC s).whole (eD s)).2.f.pos∧(m.map Tok.pos)[i]? = some ((dC out).whole (eD out)).2.f.pos:=by rw[hc,hc'];exact g3
 have g4:((dC out).whole (eD out)).1.bare=((dC s).whole (eD s)).1.bare:=by rw[hc,hc'];exact g4
 rw[←hps,u7,u7]
 generalize (dC out).whole (eD out)=r' at *
 generalize (dC s).whole (eD s)=r at *
 have hov:r'.2.over=r.2.over:=by unfold PS.over;rw[g1]
 rw[hov]
 split
 ·exact⟨g1,rfl,g3⟩
 ·exact⟨rfl,g4,fun h=>absurd rfl h⟩
theorem jL.short{B:Int}(hB:B≤140737488351232):∀x:Px,jL B x→x.size≤1048576→x.fX:=by
 refine Px.ind fun x ih h hs=>?_
 have hn:=h.nm
 have hsz:x.size=1+Px.fA x.kids:=Px.size_eq x
 have hk:∀l:List Px,(l.length:Int)≤Px.fA l∧∀k∈l,k.size≤Px.fA l:=by
  intro l
  induction l with
  | nil=>exact⟨Int.le_refl _,fun k hk=>by cases hk⟩
  | cons y r ih2 =>
    have hp:=Px.size_pos y
    rw[Px.fA,List.length_cons]
    refine⟨by have:=ih2.1;omega,fun k hk=>?_⟩
    rcases List.mem_cons.1 hk with rfl | hk
    ·have:=ih2.1;omega
    ·have:=ih2.2 k hk;omega
 have hl:=(hk x.kids).1
 refine .mk (by omega) (by omega) fun k hm=>ih k hm (h.CP k hm) ?_
 have:=(hk x.kids).2 k hm
 omega
theorem uy.short{B M:Int}(hB:B≤140737488351232)(hM:M≤1048576){x:Px}(h:uy B M x):x.fX:=h.2.short hB x (Int.le_trans h.1 hM)
theorem dU.In.short{B M:Int}{s:dU}(hB:B≤140737488351232)(hM:M≤1048576)(h:s.In B M):s.dj:=by
 have h1:=h.rl
 have h2:=h.sl
 have h3:=h.tl
 have h4:=h.nn
 refine⟨by omega,by omega,fun r hr=>?_,by omega,fun r hr=>?_,by omega,fun x hx=>?_⟩
 ·obtain⟨⟨_,g1⟩,g2⟩:=h.rr r hr
  exact⟨by omega,g2.short hB hM⟩
 ·have:=(h.ss r hr).2
  show r.name.size≤_
  omega
 ·obtain⟨⟨_,g1⟩,g2,g3⟩:=h.tt x hx
  refine⟨by omega,by omega,fun r hr=>?_⟩
  obtain⟨_,k1,k2,k3⟩:=g3 r hr
  refine⟨k1.short hB hM,by omega,fun d hd=>?_⟩
  obtain⟨⟨_,d0⟩,d1,d2,d3,d4⟩:=k3 d hd
  refine⟨by omega,fun y hy=>?_⟩
  simp only[eJ.DB,List.mem_cons,List.not_mem_nil,or_false] at hy
  rcases hy with rfl | rfl | rfl | rfl
  ·exact d1.short hB hM
  ·exact d2.short hB hM
  ·exact d3.short hB hM
  ·exact d4.short hB hM
theorem lY{α:Type}{f:α→Int}{M:Int}:∀{l:List α},(∀x∈l,f x≤M)→jo f l≤M*l.length
 | [],_=>by rw[jo];simp
 | x::r,h=>by
   have h1:=lY fun y hy=>h y (List.Mem.tail _ hy)
   have h2:=h x (.head _)
   rw[jo,List.length_cons,Int.natCast_add,Int.mul_add]
   omega
theorem qa{n m:Nat}{M:Int}(h:n≤m)(h0:0≤M):M*(n:Int)≤M*(m:Int):=Int.mul_le_mul_of_nonneg_left (by omega) h0
theorem dU.In.fH{B:Int}{s:dU}(h:s.In B 20000):s.fH≤100000000:=by
 have h1:=qa (M:=20001) h.rl (by decide)
 have h2:=h.sl
 have h3:=qa (M:=7920181) h.tl (by decide)
 have g1:jo dL.fH s.regs≤20001*s.regs.length:=lY fun r hr=>by
  have:=(h.rr r hr).2.1
  show 1+r.init.size≤_
  omega
 have g3:jo dm.fH s.states≤7920181*s.states.length:=lY fun x hx=>by
  obtain⟨_,g2,g3⟩:=h.tt x hx
  have k:=qa (M:=660015) g2 (by decide)
  have:jo dz.fH x.rules≤660015*x.rules.length:=lY fun r hr=>by
   obtain⟨_,k1,k2,k3⟩:=g3 r hr
   have j:=qa (M:=80001) k2 (by decide)
   have:jo eJ.fH r.dos≤80001*r.dos.length:=lY fun d hd=>by
    obtain⟨_,d1,d2,d3,d4⟩:=k3 d hd
    have e1:=d1.1
    have e2:=d2.1
    have e3:=d3.1
    have e4:=d4.1
    show 1+d.side.size+d.qty.size+d.price.size+d.value.size≤_
    omega
   have e1:=k1.1
   show 1+r.when.size+jo eJ.fH r.dos≤_
   omega
  show 1+jo dz.fH x.rules≤_
  omega
 unfold dU.fH
 omega
theorem AW(t:ByteArray):uy t.size 20000 (lC t).1:=by
 unfold lC
 have hB:=tJ t
 have hl:=xL t
 have hz:=lF hB (M:=20000) (by omega)
 show uy t.size 20000 (if ((dC t).end ((dC t).dW (eD t)).2).over then _ else _:Px×PF).1
 split
 ·exact hz
 ·exact (nG hB (by omega) (Nat.zero_le _)).1
theorem Db{t:ByteArray}(h:dj t):(lC t).1.fX:=(AW t).short (by unfold dj at h;omega) (by decide)
theorem wc{t:ByteArray}(h:dj t):(dS t).1.dj:=(qG t).short (by unfold dj at h;omega) (by decide)
end Go.Lx
namespace Go.Vc
open Go.ChangeShapes Go.WideShapes Go.ChangeAt Go.RowKit
def cS.all(w:World):cS:=⟨fun b=>w.heap[b]?,w.os,w.output⟩
theorem Sat.all(w:World):Sat (cS.all w) [] w:=⟨fun _ _ h=>h,fun _ _ h=>by simp at h,fun _ _ h=>by simp at h,List.nodup_nil,rfl,rfl⟩
structure lg (w w':World):Prop where
 heap:∀i,i<w.heap.size→w'.heap[i]? = w.heap[i]?
 os:w'.os=w.os
 out:w'.output=w.output
theorem lg.of{w w':World}{I:cS}{F:cR}(hl:cS.le (cS.all w) I)(hs:Sat I F w'):lg w w':=by
 refine⟨fun i hi=>?_,hs.env.1.trans hl.2.1,hs.env.2.trans hl.2.2⟩
 obtain⟨o,ho⟩:∃o,w.heap[i]? = some o:=⟨_,Array.getElem?_eq_getElem hi⟩
 rw[ho]
 exact hs.imm _ _ (hl.1 i o ho)
theorem lg.kept{w w':World}(h:lg w w')(may:MemPlace→Prop):w.keptBut w' may:=by
 refine⟨h.os,h.out,fun i hi=>?_⟩
 rw[h.heap i hi]
 cases w.heap[i]? with
 | none=>rfl
 | some o=>cases o with
   | cells c t fr=>exact⟨rfl,rfl,rfl,fun _ _=>rfl⟩
   | map es clock=>exact .inr ⟨rfl,rfl⟩
   | _=>rfl
theorem lg.frozen{w w':World}(h:lg w w'){a:Addr}(ha:a.block<w.heap.size):w'.frozen? a=w.frozen? a:=by
 unfold World.frozen?;rw[h.heap _ ha]
theorem yU{H:Type}{enc:TypeId×Value→H}{P:Program}{f:Func}{s:ChangeSpec}{apart fresh handsOn again:Bool}{W W':World}{args:Array Value}{v:Value}{ds gs:List (DataW H)}{before pa pv:List MemPlace}
  (hW:DataW.Whole enc P f.params.toList s.vars apart W args.toList ds gs before)
  (hres:∀(b:Nat) (sp:Nat→Bool) (hd:Bool),DataW.TrodAll enc P W' b sp hd f.resultTypes.toList (v.resultList f.resultTypes.size) (s.fn H (ds++gs)).results [])
  (hargs:∀sp:Nat→Bool,(∀p∈before,sp p.block=true)→DataW.TrodAll enc P W' 0 sp true f.params.toList args.toList (s.fn H (ds++gs)).args pa)
  (hvars:∀sp:Nat→Bool,(∀p∈before,sp p.block=true)→DataW.TrodVars enc P W' sp s.vars (s.fn H (ds++gs)).vars pv)
  (hps:before=pa++pv) (hk:lg W W')
  (hok:∀(j:Nat) (t:TypeId) (r:Value),f.resultTypes[j]? = some t→(v.resultList f.resultTypes.size)[j]? = some r→Value.okWide P W' .any 0 t r) :
  s.post enc P f apart fresh handsOn again W args v W':=by
 have hold:∀p∈before,(fun b=>decide (b<W.heap.size)) p.block=true:=fun p hp=>by simpa using hW.lt p hp
 have hlt:∀p∈before,p.block<W.heap.size:=fun p hp=>hW.lt p hp
 refine⟨ds,gs,before,[],pa,pv,hW,hres _ _ _,hargs _ hold,hvars _ hold,World.keptBut_mono (fun p hp=>⟨hp, ?_⟩) (hk.kept (·∈before)),fun _=>?_⟩
 ·rw[hps,List.mem_append] at hp
  exact Or.inr hp
 ·obtain⟨_,_,_,_,_,hz,hn⟩:=hW
  refine⟨hok,_,_,([]++pa)++pv,⟨[]++pa,pv,trodAll_append (hargs _ (fun _ _=>rfl)) (hres _ _ _),hvars _ (fun _ _=>rfl),rfl, ?_, ?_⟩, ?_⟩
  ·intro b off hp
   have hp':MemPlace.cell b off∈before:=by rw[hps];simpa using hp
   rw[hk.frozen (hlt _ hp')]
   exact hz b off hp'
  ·intro ha
   have:=hn ha
   rw[hps] at this
   simpa using this
  ·intro p hp _
   rw[hps]
   simpa using hp
end Go.Vc
namespace Go.Lx
open Go.Vc
end Go.Lx
namespace Go.Vc
section
variable {P:Program} {f:FuncId} {args:Array Value} {I:cS} {F:cR} {R:Value→cS→Prop}
end
def tL(P:Program)(t:TypeId):Bool:=match P.underlying t with
 | some (.interface _)=>true
 | _=>false
theorem vd{P:Program}{t:TypeId}(h:tL P t=true):∃ms,P.underlying t=some (.interface ms):=by
 unfold tL at h
 split at h
 ·rename_i ht;exact⟨_,ht⟩
 ·cases h
theorem qb{P:Program}{t:TypeId}(h:tL P t=true){x:Operand}:eu P .eql t x (.const .nilIface) .nilIface .nilIface true:=by
 obtain⟨ms,ht⟩:=vd h
 intro w
 have he:(Op.equal t .nilIface .nilIface).run P w=.ok true w:=by
  show (Op.equalIn (9999+1) t .nilIface .nilIface).run P w=_
  unfold Op.equalIn
  simp[Sem.run_bind,dT ht]
 simp[eqGuard,binOp,Sem.run_bind,he]
theorem qH{P:Program}{t:TypeId}(h:tL P t=true){x:Operand}{d:TypeId}{v:Value}:eu P .eql t x (.const .nilIface) (.iface d v) .nilIface false:=by
 obtain⟨ms,ht⟩:=vd h
 intro w
 have he:(Op.equal t (.iface d v) .nilIface).run P w=.ok false w:=by
  show (Op.equalIn (9999+1) t (.iface d v) .nilIface).run P w=_
  unfold Op.equalIn
  simp[Sem.run_bind,dT ht]
 simp[eqGuard,binOp,Sem.run_bind,he]
end Go.Vc
namespace Go.Lx
open Go.Vc
def Ci:ByteArray:=⟨#[79,102]⟩
def ve:ByteArray:=⟨#[67,104,101,99,107]⟩
abbrev oH(e:Int):Value:=.iface 48 (.int .i64 e)
def xN(I:cS)(call:ByteArray)(pos:Int)(err v:Value):Prop:=∃b,v=.iface 97 (.pointer (some ⟨b,0,none⟩))∧I b=some (.cells #[.string call,.int .i64 pos,err] 101 (0,0))
theorem xN.mono{I J:cS}{call:ByteArray}{pos:Int}{err v:Value}(h:xN I call pos err v)(hl:cS.le I J):xN J call pos err v:=let ⟨b,h1,h2⟩:=h;⟨b,h1,hl.at h2⟩
def Fl(I:cS)(f:TF)(w:Value):Prop:=(f.e=0→w=.nilIface)∧(f.e≠0→xN I Ci f.pos (oH f.e) w)
theorem Fl.mono{I J:cS}{f:TF}{w:Value}(h:Fl I f w)(hl:cS.le I J):Fl J f w:=⟨h.1,fun he=>(h.2 he).mono hl⟩
theorem Fl.ok{I:cS}:Fl I GW .nilIface:=⟨fun _=>rfl,fun h=>absurd rfl h⟩
theorem Fm(b n:Nat):(⟨b,0,none⟩:Addr).add n=⟨b,n,none⟩:=by unfold Addr.add;split<;>simp_all
end Go.Lx
namespace Go.As
open Go.RowKit Go.Extern.Stop Go.Stop Go.Extern
theorem FY(z:Sem Value)(f:TypeId→Addr→Nat→Nat→Sem Value)(v:Value) :
  ReflectliteValue.method z f #[v]=(do match ←ReflectliteValue.parts v with | none=>z | some (t,a,fl)=>f t a fl (fl % 32)):=rfl
theorem GX(v x:Value):ReflectliteValue.set #[v,x]=(do
  let (some (dst,a,fl),some (src,b,_)):=(←ReflectliteValue.parts v,←ReflectliteValue.parts x)
   | unsupported (.noEntry "extern/(internal/reflectlite.Value).Set.zeroValue")
  if fl / ReflectliteValue.flagAddr % 2==0 then unsupported (.noEntry "extern/(internal/reflectlite.Value).Set.unaddressable")
  let val ←loadVar src b
  if ←Rtype.directlyAssignable dst src then storeVar dst a val
  else if ←Rtype.implements dst src then
   if (←Rtype.kind src)==20 then
    match val with
    | .nilIface=>unsupported (.noEntry "extern/reflectlite: a nil value of one interface type handed on as a value of another")
    | _=>storeVar dst a val
   else storeVar dst a (.iface src val)
  else panicString ("reflectlite.Set: value of type " ++ (←Rtype.spelt src) ++ " is not assignable to type " ++ (←Rtype.spelt dst))
  pure (.tuple #[])):=rfl
theorem tM(h:Value)(w:World):(Go.method 368 196 (.agg #[h]) "Kind").run Go.Proofs.Tryz.prog w=.ok (176,h) w:=by kernel_rfl
theorem tN(h:Value)(w:World):(Go.method 368 196 (.agg #[h]) "Elem").run Go.Proofs.Tryz.prog w=.ok (188,.agg #[h]) w:=by kernel_rfl
theorem lZ(h:Value)(w:World):(Go.method 368 196 (.agg #[h]) "Implements").run Go.Proofs.Tryz.prog w=.ok (189,.agg #[h]) w:=by kernel_rfl
theorem gq(h:Value)(w:World):(Go.method 368 196 (.agg #[h]) "AssignableTo").run Go.Proofs.Tryz.prog w=.ok (186,.agg #[h]) w:=by kernel_rfl
theorem Cj(t:Addr)(w:World):(ReflectliteValue.unpack (.iface 99 (.pointer (some t)))).run Go.Proofs.Tryz.prog w=.ok (.agg #[.pointer (some ⟨1,99,none⟩),.pointer (some ⟨w.heap.size,0,none⟩),.int .u64 150]) (w.alloc (.cells #[.pointer (some t)] 99)):=by kernel_rfl
theorem Fo(a:Addr)(w:World):(ReflectliteValue.methodAny (ReflectliteValue.valueError "reflectlite.Value.Type" 0) (fun t _ _ _=>ReflectliteType.toType t) #[(.agg #[.pointer (some ⟨1,99,none⟩),.pointer (some a),.int .u64 150])]).run Go.Proofs.Tryz.prog w=.ok (.iface 196 (.agg #[.pointer (some ⟨1,99,none⟩)])) w:=by kernel_rfl
theorem Ev(w:World):((ReflectliteType.abiMethod fun t=>(fun a:Nat=>Value.int IntKind.u8 (a:Int)) <$> Rtype.kind t) #[.pointer (some ⟨1,99,none⟩)]).run Go.Proofs.Tryz.prog w=.ok (.int .u8 22) w:=by kernel_rfl
theorem Fp(w:World):((ReflectliteType.abiMethod fun t=>(fun a:Nat=>Value.int IntKind.u8 (a:Int)) <$> Rtype.kind t) #[.pointer (some ⟨1,97,none⟩)]).run Go.Proofs.Tryz.prog w=.ok (.int .u8 22) w:=by kernel_rfl
theorem zS(a:Addr)(w:World):(ReflectliteValue.parts (.agg #[.pointer (some ⟨1,99,none⟩),.pointer (some a),.int .u64 150])).run Go.Proofs.Tryz.prog w=.ok (some (99,a,150)) w:=by kernel_rfl
theorem zT:Go.Proofs.Tryz.prog.underlying 99=some (.pointer 97):=by kernel_rfl
theorem Ew(a p:Addr)(W:World)(ha:W.cell? a=some (.pointer (some p))) :
  (ReflectliteValue.method (ReflectliteValue.valueError "reflectlite.Value.IsNil" 0) ReflectliteValue.isNil #[(.agg #[.pointer (some ⟨1,99,none⟩),.pointer (some a),.int .u64 150])]).run Go.Proofs.Tryz.prog W=.ok (.bool false) W:=by
 rw[FY]
 simp only[Sem.run_bind,zS,Result.andThen]
 simp[ReflectliteValue.isNil,loadVar,isAgg,underlying,zT,ha,Result.andThen]
theorem Fq(w:World):(ReflectliteType.method ReflectliteType.elem #[.agg #[.pointer (some ⟨1,99,none⟩)]]).run Go.Proofs.Tryz.prog w=.ok (.iface 196 (.agg #[.pointer (some ⟨1,97,none⟩)])) w:=by kernel_rfl
theorem Ft(w:World):(ReflectliteType.relation "Implements" ReflectliteType.implements_ #[.agg #[.pointer (some ⟨1,97,none⟩)],.iface 196 (.agg #[.pointer (some ⟨1,45,none⟩)])]).run Go.Proofs.Tryz.prog w=.ok (.bool true) w:=by kernel_rfl
theorem we(v:Value)(w:World):(ReflectliteType.typeOf #[.iface 97 v]).run Go.Proofs.Tryz.prog w=.ok (.iface 196 (.agg #[.pointer (some ⟨1,97,none⟩)])) w:=by kernel_rfl
theorem Dc(w:World):(Rtype.elem? 99).run Go.Proofs.Tryz.prog w=.ok (some 97) w:=by kernel_rfl
theorem Hb(p:Addr)(w:World):(ReflectliteValue.mk 97 p ReflectliteValue.flagAddr).run Go.Proofs.Tryz.prog w=.ok (.agg #[.pointer (some ⟨1,97,none⟩),.pointer (some p),.int .u64 406]) w:=by kernel_rfl
theorem Ex(a p:Addr)(W:World)(ha:W.cell? a=some (.pointer (some p))) :
  (ReflectliteValue.method (ReflectliteValue.valueError "reflectlite.Value.Elem" 0) ReflectliteValue.elem #[(.agg #[.pointer (some ⟨1,99,none⟩),.pointer (some a),.int .u64 150])]).run Go.Proofs.Tryz.prog W=.ok (.agg #[.pointer (some ⟨1,97,none⟩),.pointer (some p),.int .u64 406]) W:=by
 rw[FY]
 simp only[Sem.run_bind,zS,Result.andThen]
 simp[ReflectliteValue.elem,loadVar,isAgg,underlying,zT,ha,Result.andThen,Dc,Hb]
theorem Dd(a:Addr)(w:World):(ReflectliteValue.parts (.agg #[.pointer (some ⟨1,97,none⟩),.pointer (some a),.int .u64 406])).run Go.Proofs.Tryz.prog w=.ok (some (97,a,406)) w:=by kernel_rfl
theorem Ey(a:Addr)(w:World):(ReflectliteValue.parts (.agg #[.pointer (some ⟨1,97,none⟩),.pointer (some a),.int .u64 150])).run Go.Proofs.Tryz.prog w=.ok (some (97,a,150)) w:=by kernel_rfl
theorem De(w:World):(Rtype.directlyAssignable 97 97).run Go.Proofs.Tryz.prog w=.ok true w:=by kernel_rfl
theorem Ez:Go.Proofs.Tryz.prog.underlying 97=some (.pointer 101):=by kernel_rfl
theorem EA(x:Addr)(w:World):(ReflectliteValue.unpack (.iface 97 (.pointer (some x)))).run Go.Proofs.Tryz.prog w=.ok (.agg #[.pointer (some ⟨1,97,none⟩),.pointer (some ⟨w.heap.size,0,none⟩),.int .u64 150]) (w.alloc (.cells #[.pointer (some x)] 97)):=by kernel_rfl
theorem Gn(ta b:Addr)(x:Addr)(old:Value)(W:World)(hb:W.cell? b=some (.pointer (some x)))(ht:W.cell? ta=some old)(hf:W.frozen? ta=false) :
  (ReflectliteValue.set #[(.agg #[.pointer (some ⟨1,97,none⟩),.pointer (some ta),.int .u64 406]),(.agg #[.pointer (some ⟨1,97,none⟩),.pointer (some b),.int .u64 150])]).run Go.Proofs.Tryz.prog W=.ok (.tuple #[]) (W.setCell ta (.pointer (some x))):=by
 rw[GX]
 simp only[Sem.run_bind,Dd,Ey,Result.andThen]
 simp[ReflectliteValue.flagAddr,loadVar,isAgg,underlying,Ez,hb,Result.andThen,De,storeVar,Value.cells,storeCells,Addr.add]
 rw[run_store Go.Proofs.Tryz.prog W ta _ _ (by rfl)]
 simp[ht,hf]
theorem Cl(t:Addr)(w:World):(ReflectliteValue.unpack (.iface 102 (.pointer (some t)))).run Go.Proofs.Tryz.prog w=.ok (.agg #[.pointer (some ⟨1,102,none⟩),.pointer (some ⟨w.heap.size,0,none⟩),.int .u64 150]) (w.alloc (.cells #[.pointer (some t)] 102)):=by kernel_rfl
theorem Fu(a:Addr)(w:World):(ReflectliteValue.methodAny (ReflectliteValue.valueError "reflectlite.Value.Type" 0) (fun t _ _ _=>ReflectliteType.toType t) #[(.agg #[.pointer (some ⟨1,102,none⟩),.pointer (some a),.int .u64 150])]).run Go.Proofs.Tryz.prog w=.ok (.iface 196 (.agg #[.pointer (some ⟨1,102,none⟩)])) w:=by kernel_rfl
theorem EB(w:World):((ReflectliteType.abiMethod fun t=>(fun a:Nat=>Value.int IntKind.u8 (a:Int)) <$> Rtype.kind t) #[.pointer (some ⟨1,102,none⟩)]).run Go.Proofs.Tryz.prog w=.ok (.int .u8 22) w:=by kernel_rfl
theorem Fv(w:World):((ReflectliteType.abiMethod fun t=>(fun a:Nat=>Value.int IntKind.u8 (a:Int)) <$> Rtype.kind t) #[.pointer (some ⟨1,48,none⟩)]).run Go.Proofs.Tryz.prog w=.ok (.int .u8 2) w:=by kernel_rfl
theorem zU(a:Addr)(w:World):(ReflectliteValue.parts (.agg #[.pointer (some ⟨1,102,none⟩),.pointer (some a),.int .u64 150])).run Go.Proofs.Tryz.prog w=.ok (some (102,a,150)) w:=by kernel_rfl
theorem zV:Go.Proofs.Tryz.prog.underlying 102=some (.pointer 48):=by kernel_rfl
theorem EC(a p:Addr)(W:World)(ha:W.cell? a=some (.pointer (some p))) :
  (ReflectliteValue.method (ReflectliteValue.valueError "reflectlite.Value.IsNil" 0) ReflectliteValue.isNil #[(.agg #[.pointer (some ⟨1,102,none⟩),.pointer (some a),.int .u64 150])]).run Go.Proofs.Tryz.prog W=.ok (.bool false) W:=by
 rw[FY]
 simp only[Sem.run_bind,zU,Result.andThen]
 simp[ReflectliteValue.isNil,loadVar,isAgg,underlying,zV,ha,Result.andThen]
theorem Fx(w:World):(ReflectliteType.method ReflectliteType.elem #[.agg #[.pointer (some ⟨1,102,none⟩)]]).run Go.Proofs.Tryz.prog w=.ok (.iface 196 (.agg #[.pointer (some ⟨1,48,none⟩)])) w:=by kernel_rfl
theorem Fy(w:World):(ReflectliteType.relation "Implements" ReflectliteType.implements_ #[.agg #[.pointer (some ⟨1,48,none⟩)],.iface 196 (.agg #[.pointer (some ⟨1,45,none⟩)])]).run Go.Proofs.Tryz.prog w=.ok (.bool true) w:=by kernel_rfl
theorem wg(v:Value)(w:World):(ReflectliteType.typeOf #[.iface 48 v]).run Go.Proofs.Tryz.prog w=.ok (.iface 196 (.agg #[.pointer (some ⟨1,48,none⟩)])) w:=by kernel_rfl
theorem Dg(w:World):(Rtype.elem? 102).run Go.Proofs.Tryz.prog w=.ok (some 48) w:=by kernel_rfl
theorem Hc(p:Addr)(w:World):(ReflectliteValue.mk 48 p ReflectliteValue.flagAddr).run Go.Proofs.Tryz.prog w=.ok (.agg #[.pointer (some ⟨1,48,none⟩),.pointer (some p),.int .u64 386]) w:=by kernel_rfl
theorem yV(a p:Addr)(W:World)(ha:W.cell? a=some (.pointer (some p))) :
  (ReflectliteValue.method (ReflectliteValue.valueError "reflectlite.Value.Elem" 0) ReflectliteValue.elem #[(.agg #[.pointer (some ⟨1,102,none⟩),.pointer (some a),.int .u64 150])]).run Go.Proofs.Tryz.prog W=.ok (.agg #[.pointer (some ⟨1,48,none⟩),.pointer (some p),.int .u64 386]) W:=by
 rw[FY]
 simp only[Sem.run_bind,zU,Result.andThen]
 simp[ReflectliteValue.elem,loadVar,isAgg,underlying,zV,ha,Result.andThen,Dg,Hc]
theorem Dh(a:Addr)(w:World):(ReflectliteValue.parts (.agg #[.pointer (some ⟨1,48,none⟩),.pointer (some a),.int .u64 386])).run Go.Proofs.Tryz.prog w=.ok (some (48,a,386)) w:=by kernel_rfl
theorem ED(a:Addr)(w:World):(ReflectliteValue.parts (.agg #[.pointer (some ⟨1,48,none⟩),.pointer (some a),.int .u64 130])).run Go.Proofs.Tryz.prog w=.ok (some (48,a,130)) w:=by kernel_rfl
theorem Di(w:World):(Rtype.directlyAssignable 48 48).run Go.Proofs.Tryz.prog w=.ok true w:=by kernel_rfl
theorem EE:Go.Proofs.Tryz.prog.underlying 48=some (.int .i64):=by kernel_rfl
theorem yW(x:Int)(w:World):(ReflectliteValue.unpack (.iface 48 (.int .i64 x))).run Go.Proofs.Tryz.prog w=.ok (.agg #[.pointer (some ⟨1,48,none⟩),.pointer (some ⟨w.heap.size,0,none⟩),.int .u64 130]) (w.alloc (.cells #[.int .i64 x] 48)):=by kernel_rfl
theorem EF(ta b:Addr)(x:Int)(old:Value)(W:World)(hb:W.cell? b=some (.int .i64 x))(ht:W.cell? ta=some old)(hf:W.frozen? ta=false) :
  (ReflectliteValue.set #[(.agg #[.pointer (some ⟨1,48,none⟩),.pointer (some ta),.int .u64 386]),(.agg #[.pointer (some ⟨1,48,none⟩),.pointer (some b),.int .u64 130])]).run Go.Proofs.Tryz.prog W=.ok (.tuple #[]) (W.setCell ta (.int .i64 x)):=by
 rw[GX]
 simp only[Sem.run_bind,Dh,ED,Result.andThen]
 simp[ReflectliteValue.flagAddr,loadVar,isAgg,underlying,EE,hb,Result.andThen,Di,storeVar,Value.cells,storeCells,Addr.add]
 rw[run_store Go.Proofs.Tryz.prog W ta _ _ (by rfl)]
 simp[ht,hf]
theorem Cm(w:World):(ReflectliteType.relation "AssignableTo" ReflectliteType.assignableTo #[.agg #[.pointer (some ⟨1,97,none⟩)],.iface 196 (.agg #[.pointer (some ⟨1,97,none⟩)])]).run Go.Proofs.Tryz.prog w=.ok (.bool true) w:=by kernel_rfl
theorem xO(w:World):(ReflectliteType.relation "AssignableTo" ReflectliteType.assignableTo #[.agg #[.pointer (some ⟨1,97,none⟩)],.iface 196 (.agg #[.pointer (some ⟨1,48,none⟩)])]).run Go.Proofs.Tryz.prog w=.ok (.bool false) w:=by kernel_rfl
theorem tP(w:World):(ReflectliteType.relation "AssignableTo" ReflectliteType.assignableTo #[.agg #[.pointer (some ⟨1,48,none⟩)],.iface 196 (.agg #[.pointer (some ⟨1,48,none⟩)])]).run Go.Proofs.Tryz.prog w=.ok (.bool true) w:=by kernel_rfl
theorem DH(v:Value)(xT:TypeId)(w:World):(Instr.typeAssert (.iface 97 v) xT 216 true).run Go.Proofs.Tryz.prog w=.ok (.tuple #[.nilIface,.bool false]) w:=run_typeAssert_lacksB Go.Proofs.Tryz.underlying216 (by kernel_rfl) (by kernel_rfl) v xT w
theorem DI(v:Value)(xT:TypeId)(w:World):(Instr.typeAssert (.iface 97 v) xT 201 true).run Go.Proofs.Tryz.prog w=.ok (.tuple #[.iface 97 v,.bool true]) w:=run_typeAssert_hasB Go.Proofs.Tryz.underlying201 (by kernel_rfl) v xT w
theorem qc(e:Addr)(w:World):(Go.method 368 97 (.pointer (some e)) "Unwrap").run Go.Proofs.Tryz.prog w=.ok (181,.pointer (some e)) w:=by kernel_rfl
abbrev GY:Value:=.iface 196 (.agg #[.pointer (some ⟨1,97,none⟩)])
abbrev FZ:Value:=.iface 196 (.agg #[.pointer (some ⟨1,48,none⟩)])
abbrev uz(PT:Nat)(a:Addr):Obj:=.cells #[.pointer (some ⟨1,PT,none⟩),.pointer (some a),.int .u64 150] 162
set_option maxHeartbeats 4000000 in
theorem Fz(e t a:Addr)(old tgt:Value)(w:World)(ha:w.cell? a=some (.pointer (some t)))(ht0:w.cell? t=some old)(hf0:w.frozen? t=false) :
  Calls Go.Proofs.Tryz.prog 85 #[.iface 97 (.pointer (some e)),tgt,.agg #[.pointer (some ⟨1,99,none⟩),.pointer (some a),.int .u64 150],GY] w fun ev w'=>ev=.returned (.bool true) ∧
   w'=((w.alloc (uz 99 a)).alloc (.cells #[.pointer (some e)] 97)).setCell t (.pointer (some e)):=by
 have hTO:=@run_callFunc_extern Go.Proofs.Tryz.prog 61 _ ReflectliteType.typeOf Go.Proofs.Tryz.func61 (by kernel_rfl) (by kernel_rfl) (by kernel_rfl) (by kernel_rfl)
 have hA:=@run_callFunc_extern Go.Proofs.Tryz.prog 186 _ (ReflectliteType.relation "AssignableTo" ReflectliteType.assignableTo) Go.Proofs.Tryz.func186 (by kernel_rfl) (by kernel_rfl) (by kernel_rfl) (by kernel_rfl)
 have hVE:=@run_callFunc_extern Go.Proofs.Tryz.prog 111 _ (ReflectliteValue.method (ReflectliteValue.valueError "reflectlite.Value.Elem" 0) ReflectliteValue.elem) Go.Proofs.Tryz.func111 (by kernel_rfl) (by kernel_rfl) (by kernel_rfl) (by kernel_rfl)
 have hS:=@run_callFunc_extern Go.Proofs.Tryz.prog 112 _ ReflectliteValue.set Go.Proofs.Tryz.func112 (by kernel_rfl) (by kernel_rfl) (by kernel_rfl) (by kernel_rfl)
 have hV:=@run_callFunc_extern Go.Proofs.Tryz.prog 82 _ (fun args=>ReflectliteValue.unpack (args.getD 0 (.tuple #[]))) Go.Proofs.Tryz.func82 (by kernel_rfl) (by kernel_rfl) (by kernel_rfl) (by kernel_rfl)
 have tO:=we
 have mA:=gq
 have aF:=Cm
 have vF:=EA
 have hal:a.block<w.heap.size:=by
  rcases Nat.lt_or_ge a.block w.heap.size with h | h
  ·exact h
  ·simp[World.cell?,Array.getElem?_eq_none h] at ha
 have htl:t.block<w.heap.size:=by
  rcases Nat.lt_or_ge t.block w.heap.size with h | h
  ·exact h
  ·simp[World.cell?,Array.getElem?_eq_none h] at ht0
 have el:=Ex a t (w.alloc (uz 99 a)) (by rw[World.cell?_alloc_lt _ _ a hal];exact ha)
 have st:=Gn t ⟨w.heap.size+1,0,none⟩ e old ((w.alloc (uz 99 a)).alloc (.cells #[.pointer (some e)] 97))
  (by rw[World.cell?_alloc_at _ _ _ _ (by simp)];rfl)
  (by rw[World.cell?_alloc_lt _ _ t (by simp;omega),World.cell?_alloc_lt _ _ t htl];exact ht0)
  (by rw[World.frozen?_alloc_old _ _ t (by simp;omega),World.frozen?_alloc_old _ _ t (Nat.ne_of_lt htl)];exact hf0)
 go_enter Go.Proofs.Tryz.func85,Go.Proofs.Tryz.ntmps85
 go_wp2
 refine wp_loop_rounds 1 ?_
 rw[rounds_succ]
 go_wp2
 go_ret
 exact⟨rfl,rfl⟩
set_option maxHeartbeats 4000000 in
theorem FA(n:Int)(t a:Addr)(old tgt:Value)(w:World)(ha:w.cell? a=some (.pointer (some t)))(ht0:w.cell? t=some old)(hf0:w.frozen? t=false) :
  Calls Go.Proofs.Tryz.prog 85 #[.iface 48 (.int .i64 n),tgt,.agg #[.pointer (some ⟨1,102,none⟩),.pointer (some a),.int .u64 150],FZ] w fun ev w'=>ev=.returned (.bool true) ∧
   w'=((w.alloc (uz 102 a)).alloc (.cells #[.int .i64 n] 48)).setCell t (.int .i64 n):=by
 have hTO:=@run_callFunc_extern Go.Proofs.Tryz.prog 61 _ ReflectliteType.typeOf Go.Proofs.Tryz.func61 (by kernel_rfl) (by kernel_rfl) (by kernel_rfl) (by kernel_rfl)
 have hA:=@run_callFunc_extern Go.Proofs.Tryz.prog 186 _ (ReflectliteType.relation "AssignableTo" ReflectliteType.assignableTo) Go.Proofs.Tryz.func186 (by kernel_rfl) (by kernel_rfl) (by kernel_rfl) (by kernel_rfl)
 have hVE:=@run_callFunc_extern Go.Proofs.Tryz.prog 111 _ (ReflectliteValue.method (ReflectliteValue.valueError "reflectlite.Value.Elem" 0) ReflectliteValue.elem) Go.Proofs.Tryz.func111 (by kernel_rfl) (by kernel_rfl) (by kernel_rfl) (by kernel_rfl)
 have hS:=@run_callFunc_extern Go.Proofs.Tryz.prog 112 _ ReflectliteValue.set Go.Proofs.Tryz.func112 (by kernel_rfl) (by kernel_rfl) (by kernel_rfl) (by kernel_rfl)
 have hV:=@run_callFunc_extern Go.Proofs.Tryz.prog 82 _ (fun args=>ReflectliteValue.unpack (args.getD 0 (.tuple #[]))) Go.Proofs.Tryz.func82 (by kernel_rfl) (by kernel_rfl) (by kernel_rfl) (by kernel_rfl)
 have tO:=wg
 have mA:=gq
 have aE:=tP
 have vE:=yW
 have hal:a.block<w.heap.size:=by
  rcases Nat.lt_or_ge a.block w.heap.size with h | h
  ·exact h
  ·simp[World.cell?,Array.getElem?_eq_none h] at ha
 have htl:t.block<w.heap.size:=by
  rcases Nat.lt_or_ge t.block w.heap.size with h | h
  ·exact h
  ·simp[World.cell?,Array.getElem?_eq_none h] at ht0
 have el:=yV a t (w.alloc (uz 102 a)) (by rw[World.cell?_alloc_lt _ _ a hal];exact ha)
 have st:=EF t ⟨w.heap.size+1,0,none⟩ n old ((w.alloc (uz 102 a)).alloc (.cells #[.int .i64 n] 48))
  (by rw[World.cell?_alloc_at _ _ _ _ (by simp)];rfl)
  (by rw[World.cell?_alloc_lt _ _ t (by simp;omega),World.cell?_alloc_lt _ _ t htl];exact ht0)
  (by rw[World.frozen?_alloc_old _ _ t (by simp;omega),World.frozen?_alloc_old _ _ t (Nat.ne_of_lt htl)];exact hf0)
 go_enter Go.Proofs.Tryz.func85,Go.Proofs.Tryz.ntmps85
 go_wp2
 refine wp_loop_rounds 1 ?_
 rw[rounds_succ]
 go_wp2
 go_ret
 exact⟨rfl,rfl⟩
abbrev yX:Value:=.iface 196 (.agg #[.pointer (some ⟨1,45,none⟩)])
set_option maxHeartbeats 4000000 in
theorem Gp(d:TypeId)(v:Value)(t:Addr)(w w2:World)(r:Bool)(hg:w.cell? ⟨0,0,none⟩=some yX)
  (h:Calls Go.Proofs.Tryz.prog 85 #[.iface d v,.iface 99 (.pointer (some t)),.agg #[.pointer (some ⟨1,99,none⟩),.pointer (some ⟨w.heap.size,0,none⟩),.int .u64 150],GY] ((w.alloc (.cells #[.pointer (some t)] 99)).alloc (uz 99 ⟨w.heap.size,0,none⟩)) fun ev w'=>ev=.returned (.bool r)∧w'=w2) :
  Calls Go.Proofs.Tryz.prog 31 #[.iface d v,.iface 99 (.pointer (some t))] w fun ev w'=>ev=.returned (.bool r)∧w'=w2:=by
 have hV:=@run_callFunc_extern Go.Proofs.Tryz.prog 82 _ (fun args=>ReflectliteValue.unpack (args.getD 0 (.tuple #[]))) Go.Proofs.Tryz.func82 (by kernel_rfl) (by kernel_rfl) (by kernel_rfl) (by kernel_rfl)
 have hT:=@run_callFunc_extern Go.Proofs.Tryz.prog 83 _ (ReflectliteValue.methodAny (ReflectliteValue.valueError "reflectlite.Value.Type" 0) (fun t _ _ _=>ReflectliteType.toType t)) Go.Proofs.Tryz.func83 (by kernel_rfl) (by kernel_rfl) (by kernel_rfl) (by kernel_rfl)
 have hN:=@run_callFunc_extern Go.Proofs.Tryz.prog 84 _ (ReflectliteValue.method (ReflectliteValue.valueError "reflectlite.Value.IsNil" 0) ReflectliteValue.isNil) Go.Proofs.Tryz.func84 (by kernel_rfl) (by kernel_rfl) (by kernel_rfl) (by kernel_rfl)
 have hK:=@run_callFunc_extern Go.Proofs.Tryz.prog 176 _ (ReflectliteType.abiMethod fun t=>do pure (.int .u8 (←Rtype.kind t))) Go.Proofs.Tryz.func176 (by kernel_rfl) (by kernel_rfl) (by kernel_rfl) (by kernel_rfl)
 have hE:=@run_callFunc_extern Go.Proofs.Tryz.prog 188 _ (ReflectliteType.method ReflectliteType.elem) Go.Proofs.Tryz.func188 (by kernel_rfl) (by kernel_rfl) (by kernel_rfl) (by kernel_rfl)
 have hI:=@run_callFunc_extern Go.Proofs.Tryz.prog 189 _ (ReflectliteType.relation "Implements" ReflectliteType.implements_) Go.Proofs.Tryz.func189 (by kernel_rfl) (by kernel_rfl) (by kernel_rfl) (by kernel_rfl)
 have f6:=Cj
 have f7:=Fo
 have mK:=tM
 have mE:=tN
 have mI:=lZ
 have kP:=Ev
 have kT:=Fp
 have eT:=Fq
 have iT:=Ft
 have n8:=Ew ⟨w.heap.size,0,none⟩ t ((w.alloc (.cells #[.pointer (some t)] 99)).alloc (uz 99 ⟨w.heap.size,0,none⟩)) (by simp)
 have hlt:0<w.heap.size:=by
  rcases Nat.eq_zero_or_pos w.heap.size with h0 | h
  ·simp[World.cell?,h0] at hg
  ·exact h
 have hg2:((w.alloc (.cells #[.pointer (some t)] 99)).alloc (uz 99 ⟨w.heap.size,0,none⟩)).cell? ⟨0,0,none⟩=some yX:=by
  rw[World.cell?_alloc_lt _ _ ⟨0,0,none⟩ (by simp),World.cell?_alloc_lt _ _ ⟨0,0,none⟩ hlt];exact hg
 go_enter Go.Proofs.Tryz.func31,Go.Proofs.Tryz.ntmps31
 go_wp2_with (first | (go_at_call 85;refine h.mono ?_;rintro e w' ⟨rfl,rfl⟩))
 go_ret
 exact⟨rfl,rfl⟩
set_option maxHeartbeats 4000000 in
theorem EG(d:TypeId)(v:Value)(t:Addr)(w w2:World)(r:Bool)(hg:w.cell? ⟨0,0,none⟩=some yX)
  (h:Calls Go.Proofs.Tryz.prog 85 #[.iface d v,.iface 102 (.pointer (some t)),.agg #[.pointer (some ⟨1,102,none⟩),.pointer (some ⟨w.heap.size,0,none⟩),.int .u64 150],FZ] ((w.alloc (.cells #[.pointer (some t)] 102)).alloc (uz 102 ⟨w.heap.size,0,none⟩)) fun ev w'=>ev=.returned (.bool r)∧w'=w2) :
  Calls Go.Proofs.Tryz.prog 31 #[.iface d v,.iface 102 (.pointer (some t))] w fun ev w'=>ev=.returned (.bool r)∧w'=w2:=by
 have hV:=@run_callFunc_extern Go.Proofs.Tryz.prog 82 _ (fun args=>ReflectliteValue.unpack (args.getD 0 (.tuple #[]))) Go.Proofs.Tryz.func82 (by kernel_rfl) (by kernel_rfl) (by kernel_rfl) (by kernel_rfl)
 have hT:=@run_callFunc_extern Go.Proofs.Tryz.prog 83 _ (ReflectliteValue.methodAny (ReflectliteValue.valueError "reflectlite.Value.Type" 0) (fun t _ _ _=>ReflectliteType.toType t)) Go.Proofs.Tryz.func83 (by kernel_rfl) (by kernel_rfl) (by kernel_rfl) (by kernel_rfl)
 have hN:=@run_callFunc_extern Go.Proofs.Tryz.prog 84 _ (ReflectliteValue.method (ReflectliteValue.valueError "reflectlite.Value.IsNil" 0) ReflectliteValue.isNil) Go.Proofs.Tryz.func84 (by kernel_rfl) (by kernel_rfl) (by kernel_rfl) (by kernel_rfl)
 have hK:=@run_callFunc_extern Go.Proofs.Tryz.prog 176 _ (ReflectliteType.abiMethod fun t=>do pure (.int .u8 (←Rtype.kind t))) Go.Proofs.Tryz.func176 (by kernel_rfl) (by kernel_rfl) (by kernel_rfl) (by kernel_rfl)
 have hE:=@run_callFunc_extern Go.Proofs.Tryz.prog 188 _ (ReflectliteType.method ReflectliteType.elem) Go.Proofs.Tryz.func188 (by kernel_rfl) (by kernel_rfl) (by kernel_rfl) (by kernel_rfl)
 have hI:=@run_callFunc_extern Go.Proofs.Tryz.prog 189 _ (ReflectliteType.relation "Implements" ReflectliteType.implements_) Go.Proofs.Tryz.func189 (by kernel_rfl) (by kernel_rfl) (by kernel_rfl) (by kernel_rfl)
 have f6:=Cl
 have f7:=Fu
 have mK:=tM
 have mE:=tN
 have mI:=lZ
 have kP:=EB
 have kT:=Fv
 have eT:=Fx
 have iT:=Fy
 have n8:=EC ⟨w.heap.size,0,none⟩ t ((w.alloc (.cells #[.pointer (some t)] 102)).alloc (uz 102 ⟨w.heap.size,0,none⟩)) (by simp)
 have hlt:0<w.heap.size:=by
  rcases Nat.eq_zero_or_pos w.heap.size with h0 | h
  ·simp[World.cell?,h0] at hg
  ·exact h
 have hg2:((w.alloc (.cells #[.pointer (some t)] 102)).alloc (uz 102 ⟨w.heap.size,0,none⟩)).cell? ⟨0,0,none⟩=some yX:=by
  rw[World.cell?_alloc_lt _ _ ⟨0,0,none⟩ (by simp),World.cell?_alloc_lt _ _ ⟨0,0,none⟩ hlt];exact hg
 go_enter Go.Proofs.Tryz.func31,Go.Proofs.Tryz.ntmps31
 go_wp2_with (first | (go_at_call 85;refine h.mono ?_;rintro e w' ⟨rfl,rfl⟩))
 go_ret
 exact⟨rfl,rfl⟩
open Go.Vc (Sat)
theorem yY(b:Nat)(v:Value)(w:World)(he:w.cell? ⟨b,2,none⟩=some v):Calls Go.Proofs.Tryz.prog 181 #[.pointer (some ⟨b,0,none⟩)] w fun ev w'=>ev=.returned v∧w'=w:=by
 go_enter Go.Proofs.Tryz.func181,Go.Proofs.Tryz.ntmps181
 go_wp2
 go_ret
 exact⟨rfl,rfl⟩
set_option maxHeartbeats 4000000 in
theorem EH(b:Nat)(n:Int)(t a:Addr)(old tgt:Value)(w:World)(he:w.cell? ⟨b,2,none⟩=some (.iface 48 (.int .i64 n)))(ha:w.cell? a=some (.pointer (some t)))(ht0:w.cell? t=some old)(hf0:w.frozen? t=false) :
  Calls Go.Proofs.Tryz.prog 85 #[.iface 97 (.pointer (some ⟨b,0,none⟩)),tgt,.agg #[.pointer (some ⟨1,102,none⟩),.pointer (some a),.int .u64 150],FZ] w fun ev w'=>ev=.returned (.bool true) ∧
   w'=((w.alloc (uz 102 a)).alloc (.cells #[.int .i64 n] 48)).setCell t (.int .i64 n):=by
 have hTO:=@run_callFunc_extern Go.Proofs.Tryz.prog 61 _ ReflectliteType.typeOf Go.Proofs.Tryz.func61 (by kernel_rfl) (by kernel_rfl) (by kernel_rfl) (by kernel_rfl)
 have hA:=@run_callFunc_extern Go.Proofs.Tryz.prog 186 _ (ReflectliteType.relation "AssignableTo" ReflectliteType.assignableTo) Go.Proofs.Tryz.func186 (by kernel_rfl) (by kernel_rfl) (by kernel_rfl) (by kernel_rfl)
 have hVE:=@run_callFunc_extern Go.Proofs.Tryz.prog 111 _ (ReflectliteValue.method (ReflectliteValue.valueError "reflectlite.Value.Elem" 0) ReflectliteValue.elem) Go.Proofs.Tryz.func111 (by kernel_rfl) (by kernel_rfl) (by kernel_rfl) (by kernel_rfl)
 have hS:=@run_callFunc_extern Go.Proofs.Tryz.prog 112 _ ReflectliteValue.set Go.Proofs.Tryz.func112 (by kernel_rfl) (by kernel_rfl) (by kernel_rfl) (by kernel_rfl)
 have hV:=@run_callFunc_extern Go.Proofs.Tryz.prog 82 _ (fun args=>ReflectliteValue.unpack (args.getD 0 (.tuple #[]))) Go.Proofs.Tryz.func82 (by kernel_rfl) (by kernel_rfl) (by kernel_rfl) (by kernel_rfl)
 have tO:=wg
 have tO2:=we
 have mA:=gq
 have aE:=tP
 have aF:=xO
 have vE:=yW
 have t1:=DH
 have t2:=DI
 have mU:=qc
 have hal:a.block<w.heap.size:=by
  rcases Nat.lt_or_ge a.block w.heap.size with h | h
  ·exact h
  ·simp[World.cell?,Array.getElem?_eq_none h] at ha
 have hel:b<w.heap.size:=by
  rcases Nat.lt_or_ge b w.heap.size with h | h
  ·exact h
  ·simp[World.cell?,Array.getElem?_eq_none h] at he
 have htl:t.block<w.heap.size:=by
  rcases Nat.lt_or_ge t.block w.heap.size with h | h
  ·exact h
  ·simp[World.cell?,Array.getElem?_eq_none h] at ht0
 have he1:(w.alloc (uz 102 a)).cell? ⟨b,2,none⟩=some (.iface 48 (.int .i64 n)):=by rw[World.cell?_alloc_lt _ _ _ hel];exact he
 have el:=yV a t (w.alloc (uz 102 a)) (by rw[World.cell?_alloc_lt _ _ a hal];exact ha)
 have st:=EF t ⟨w.heap.size+1,0,none⟩ n old ((w.alloc (uz 102 a)).alloc (.cells #[.int .i64 n] 48))
  (by rw[World.cell?_alloc_at _ _ _ _ (by simp)];rfl)
  (by rw[World.cell?_alloc_lt _ _ t (by simp;omega),World.cell?_alloc_lt _ _ t htl];exact ht0)
  (by rw[World.frozen?_alloc_old _ _ t (by simp;omega),World.frozen?_alloc_old _ _ t (Nat.ne_of_lt htl)];exact hf0)
 go_enter Go.Proofs.Tryz.func85,Go.Proofs.Tryz.ntmps85
 go_wp2
 refine wp_loop_rounds 2 ?_
 rw[rounds_succ]
 go_wp2_with (first | (go_at_call 181;refine (yY b _ _ he1).mono ?_;rintro e w' ⟨rfl,rfl⟩))
 rw[rounds_succ]
 go_wp2
 go_ret
 exact⟨rfl,rfl⟩
set_option maxHeartbeats 4000000 in
theorem EI(b c:Nat)(n:Int)(t a:Addr)(old tgt:Value)(w:World)(he:w.cell? ⟨b,2,none⟩=some (.iface 97 (.pointer (some ⟨c,0,none⟩))))(hc:w.cell? ⟨c,2,none⟩=some (.iface 48 (.int .i64 n)))(ha:w.cell? a=some (.pointer (some t)))(ht0:w.cell? t=some old)(hf0:w.frozen? t=false) :
  Calls Go.Proofs.Tryz.prog 85 #[.iface 97 (.pointer (some ⟨b,0,none⟩)),tgt,.agg #[.pointer (some ⟨1,102,none⟩),.pointer (some a),.int .u64 150],FZ] w fun ev w'=>ev=.returned (.bool true) ∧
   w'=((w.alloc (uz 102 a)).alloc (.cells #[.int .i64 n] 48)).setCell t (.int .i64 n):=by
 have hTO:=@run_callFunc_extern Go.Proofs.Tryz.prog 61 _ ReflectliteType.typeOf Go.Proofs.Tryz.func61 (by kernel_rfl) (by kernel_rfl) (by kernel_rfl) (by kernel_rfl)
 have hA:=@run_callFunc_extern Go.Proofs.Tryz.prog 186 _ (ReflectliteType.relation "AssignableTo" ReflectliteType.assignableTo) Go.Proofs.Tryz.func186 (by kernel_rfl) (by kernel_rfl) (by kernel_rfl) (by kernel_rfl)
 have hVE:=@run_callFunc_extern Go.Proofs.Tryz.prog 111 _ (ReflectliteValue.method (ReflectliteValue.valueError "reflectlite.Value.Elem" 0) ReflectliteValue.elem) Go.Proofs.Tryz.func111 (by kernel_rfl) (by kernel_rfl) (by kernel_rfl) (by kernel_rfl)
 have hS:=@run_callFunc_extern Go.Proofs.Tryz.prog 112 _ ReflectliteValue.set Go.Proofs.Tryz.func112 (by kernel_rfl) (by kernel_rfl) (by kernel_rfl) (by kernel_rfl)
 have hV:=@run_callFunc_extern Go.Proofs.Tryz.prog 82 _ (fun args=>ReflectliteValue.unpack (args.getD 0 (.tuple #[]))) Go.Proofs.Tryz.func82 (by kernel_rfl) (by kernel_rfl) (by kernel_rfl) (by kernel_rfl)
 have tO:=wg
 have tO2:=we
 have mA:=gq
 have aE:=tP
 have aF:=xO
 have vE:=yW
 have t1:=DH
 have t2:=DI
 have mU:=qc
 have hal:a.block<w.heap.size:=by
  rcases Nat.lt_or_ge a.block w.heap.size with h | h
  ·exact h
  ·simp[World.cell?,Array.getElem?_eq_none h] at ha
 have hel:b<w.heap.size:=by
  rcases Nat.lt_or_ge b w.heap.size with h | h
  ·exact h
  ·simp[World.cell?,Array.getElem?_eq_none h] at he
 have htl:t.block<w.heap.size:=by
  rcases Nat.lt_or_ge t.block w.heap.size with h | h
  ·exact h
  ·simp[World.cell?,Array.getElem?_eq_none h] at ht0
 have he1:(w.alloc (uz 102 a)).cell? ⟨b,2,none⟩=some (.iface 97 (.pointer (some ⟨c,0,none⟩))):=by rw[World.cell?_alloc_lt _ _ _ hel];exact he
 have hcl:c<w.heap.size:=by
  rcases Nat.lt_or_ge c w.heap.size with h | h
  ·exact h
  ·simp[World.cell?,Array.getElem?_eq_none h] at hc
 have hc1:(w.alloc (uz 102 a)).cell? ⟨c,2,none⟩=some (.iface 48 (.int .i64 n)):=by rw[World.cell?_alloc_lt _ _ _ hcl];exact hc
 have el:=yV a t (w.alloc (uz 102 a)) (by rw[World.cell?_alloc_lt _ _ a hal];exact ha)
 have st:=EF t ⟨w.heap.size+1,0,none⟩ n old ((w.alloc (uz 102 a)).alloc (.cells #[.int .i64 n] 48))
  (by rw[World.cell?_alloc_at _ _ _ _ (by simp)];rfl)
  (by rw[World.cell?_alloc_lt _ _ t (by simp;omega),World.cell?_alloc_lt _ _ t htl];exact ht0)
  (by rw[World.frozen?_alloc_old _ _ t (by simp;omega),World.frozen?_alloc_old _ _ t (Nat.ne_of_lt htl)];exact hf0)
 go_enter Go.Proofs.Tryz.func85,Go.Proofs.Tryz.ntmps85
 go_wp2
 refine wp_loop_rounds 3 ?_
 rw[rounds_succ]
 go_wp2_with (first | (go_at_call 181;refine (yY b _ _ he1).mono ?_;rintro e w' ⟨rfl,rfl⟩))
 rw[rounds_succ]
 go_wp2_with (first | (go_at_call 181;refine (yY c _ _ hc1).mono ?_;rintro e w' ⟨rfl,rfl⟩))
 rw[rounds_succ]
 go_wp2
 go_ret
 exact⟨rfl,rfl⟩
end Go.As
namespace Go.Lx
open Go.Vc
def Gl(I:cS):Prop:=∃cs ty fz,I 0=some (.cells cs ty fz)∧cs[0]? = some Go.As.yX
theorem Gl.mono{I J:cS}(h:Gl I)(hl:cS.le I J):Gl J:=let ⟨cs,ty,fz,h1,h2⟩:=h;⟨cs,ty,fz,hl.at h1,h2⟩
theorem Gl.cell{I:cS}{F:cR}{w:World}(h:Gl I)(hw:Sat I F w):w.cell? ⟨0,0,none⟩=some Go.As.yX:=by
 obtain⟨cs,ty,fz,h1,h2⟩:=h
 have:=hw.imm _ _ h1
 unfold World.cell?
 simp[this,h2]
theorem Gl.wh{w:World}(h:w.cell? ⟨0,0,none⟩=some Go.As.yX):Gl (cS.all w):=by
 unfold World.cell? at h
 split at h
 ·rename_i c ty fz hc
  exact⟨c,ty,fz,hc,by simpa using h⟩
 ·cases h
theorem kB{I:cS}{F:cR}{w:World}{t ty:Nat}{old:Value}(hw:Sat I ((t,.cells #[old] ty (0,0))::F) w):w.cell? ⟨t,0,none⟩=some old∧w.frozen? ⟨t,0,none⟩=false:=by
 have:=hw.own _ _ (.head _)
 unfold World.cell? World.frozen?
 simp[this]
theorem xN.cell{I:cS}{F:cR}{w:World}{b ty:Nat}{fz:Nat×Nat}{x y z:Value}(h:I b=some (.cells #[x,y,z] ty fz))(hw:Sat I F w):w.cell? ⟨b,2,none⟩=some z:=by
 have:=hw.imm _ _ h
 unfold World.cell?
 simp[this]
theorem kM{w:World}{o o':Obj}{a:Addr}{v:Value}(h:w.cell? a=some v):((w.alloc o).alloc o').cell? a=some v:=by
 have hl:a.block<w.heap.size:=by
  rcases Nat.lt_or_ge a.block w.heap.size with h1 | h1
  ·exact h1
  ·simp[World.cell?,Array.getElem?_eq_none h1] at h
 rw[World.cell?_alloc_lt _ _ _ (by simp;omega),World.cell?_alloc_lt _ _ _ hl];exact h
theorem oh{w:World}{o o':Obj}{a:Addr}{v:Value}(h:w.cell? a=some v)(hf:w.frozen? a=false):((w.alloc o).alloc o').frozen? a=false:=by
 have hl:a.block<w.heap.size:=by
  rcases Nat.lt_or_ge a.block w.heap.size with h1 | h1
  ·exact h1
  ·simp[World.cell?,Array.getElem?_eq_none h1] at h
 rw[World.frozen?_alloc_old _ _ _ (by simp;omega),World.frozen?_alloc_old _ _ _ (Nat.ne_of_lt hl)];exact hf
end Go.Lx
namespace Go.Vc
theorem Sat.ik{I:cS}{F:cR}{w:World}(h:Sat I F w)(o:Obj):Sat I F (w.alloc o):=(h.alloc o).drop (A:=[_])
theorem Sat.Dj{I:cS}{F:cR}{w:World}{t ty:Nat}{old v:Value}(h:Sat I ((t,.cells #[old] ty (0,0))::F) w):Sat I ((t,.cells #[v] ty (0,0))::F) (w.setCell ⟨t,0,none⟩ v) :=
 Sat.set h (py (cs:=[old]) (h.own _ _ (.head _)) 0 v) ⟨rfl,rfl⟩
end Go.Vc
namespace Go.Lx
open Go.Vc
def FB(r:Bool)(G:cR)(e:Ending)(I:cS)(F:cR):Prop:=e=.returned (.bool r)∧F=G
section
variable {I:cS} {F:cR} {t ty:Nat} {old:Value}
theorem Dk(hg:Gl I)(b:Nat):cZ P 31 #[.iface 97 (.pointer (some ⟨b,0,none⟩)),.iface 99 (.pointer (some ⟨t,0,none⟩))] I ((t,.cells #[old] ty (0,0))::F) (FB true ((t,.cells #[.pointer (some ⟨b,0,none⟩)] ty (0,0))::F)):=fun w hw=>by
 obtain⟨hc,hf⟩:=kB hw
 refine (Go.As.Gp _ _ _ w _ true (hg.cell hw) (Go.As.Fz ⟨b,0,none⟩ ⟨t,0,none⟩ ⟨w.heap.size,0,none⟩ old _ _ (by simp) (kM hc) (oh hc hf))).mono fun e w' ⟨he,hw'⟩=>⟨I,_,cS.le_refl I, ?_,he,rfl⟩
 rw[hw']
 exact Sat.Dj ((((hw.ik _).ik _).ik _).ik _)
theorem GZ(hg:Gl I)(n:Int):cZ P 31 #[oH n,.iface 102 (.pointer (some ⟨t,0,none⟩))] I ((t,.cells #[old] ty (0,0))::F) (FB true ((t,.cells #[.int .i64 n] ty (0,0))::F)):=fun w hw=>by
 obtain⟨hc,hf⟩:=kB hw
 refine (Go.As.EG _ _ _ w _ true (hg.cell hw) (Go.As.FA n ⟨t,0,none⟩ ⟨w.heap.size,0,none⟩ old _ _ (by simp) (kM hc) (oh hc hf))).mono fun e w' ⟨he,hw'⟩=>⟨I,_,cS.le_refl I, ?_,he,rfl⟩
 rw[hw']
 exact Sat.Dj ((((hw.ik _).ik _).ik _).ik _)
theorem FC(hg:Gl I){call:ByteArray}{pos n:Int}{v:Value}(h:xN I call pos (oH n) v):cZ P 31 #[v,.iface 102 (.pointer (some ⟨t,0,none⟩))] I ((t,.cells #[old] ty (0,0))::F) (FB true ((t,.cells #[.int .i64 n] ty (0,0))::F)):=fun w hw=>by
 obtain⟨b,rfl,hb⟩:=h
 obtain⟨hc,hf⟩:=kB hw
 refine (Go.As.EG _ _ _ w _ true (hg.cell hw) (Go.As.EH b n ⟨t,0,none⟩ ⟨w.heap.size,0,none⟩ old _ _ (kM (xN.cell hb hw)) (by simp) (kM hc) (oh hc hf))).mono fun e w' ⟨he,hw'⟩=>⟨I,_,cS.le_refl I, ?_,he,rfl⟩
 rw[hw']
 exact Sat.Dj ((((hw.ik _).ik _).ik _).ik _)
theorem FD(hg:Gl I){call call':ByteArray}{pos pos' n:Int}{v u:Value}(h:xN I call pos u v)(h':xN I call' pos' (oH n) u):cZ P 31 #[v,.iface 102 (.pointer (some ⟨t,0,none⟩))] I ((t,.cells #[old] ty (0,0))::F) (FB true ((t,.cells #[.int .i64 n] ty (0,0))::F)):=fun w hw=>by
 obtain⟨b,rfl,hb⟩:=h
 obtain⟨c,rfl,hc'⟩:=h'
 obtain⟨hc,hf⟩:=kB hw
 refine (Go.As.EG _ _ _ w _ true (hg.cell hw) (Go.As.EI b c n ⟨t,0,none⟩ ⟨w.heap.size,0,none⟩ old _ _ (kM (xN.cell hb hw)) (kM (xN.cell hc' hw)) (by simp) (kM hc) (oh hc hf))).mono fun e w' ⟨he,hw'⟩=>⟨I,_,cS.le_refl I, ?_,he,rfl⟩
 rw[hw']
 exact Sat.Dj ((((hw.ik _).ik _).ik _).ik _)
end
def Cn(I:cS)(f:TF)(v:Value):Prop :=
 (f.e=0→v=.nilIface)∧(f.e≠0→if f.of then ∃u,xN I Ci f.pos (oH f.e) u∧xN I ve f.pos u v else xN I ve f.pos (oH f.e) v)
theorem Cn.mono{I J:cS}{f:TF}{w:Value}(h:Cn I f w)(hl:cS.le I J):Cn J f w:=⟨h.1,fun he=>by
 have:=h.2 he
 split at this
 ·rename_i hof;rw[if_pos hof];obtain⟨u,h1,h2⟩:=this;exact⟨u,h1.mono hl,h2.mono hl⟩
 ·rename_i hof;rw[if_neg hof];exact this.mono hl⟩
theorem Cn.ok{I:cS}:Cn I GW .nilIface:=⟨fun _=>rfl,fun h=>absurd rfl h⟩
end Go.Lx
namespace Go.Lx
open Go.Vc
def js(t:Tok):Int:=t.pos+t.text.size
def mZ(l:List Tok)(f:Int):Nat→Int
 | 0=>f
 | i+1=>js ((l[i]?).getD (ir 0))
theorem pb(t:Tok)(l:List Tok)(f:Int)(i:Nat):mZ (t::l) f (i+1)=mZ l (js t) i:=by cases i<;>rfl
structure Steps (s:ByteArray) (f:Int) (l:List Tok) (o:Option (Int×Int)):Prop where
 tk:∀i,i<l.length→fj s (mZ l f i)=.ok ((l[i]?).getD (ir 0))
 FE:∀i,i≤l.length→0≤mZ l f i∧mZ l f i≤s.size
 kinds:∀i,i+1<l.length→((l[i]?).getD (ir 0)).kind≠0
 last:o=none→0<l.length∧((l[l.length-1]?).getD (ir 0)).kind=0
 bad:∀e p,o=some (e,p)→fj s (mZ l f l.length)=.bad e p∧e≠0∧∀i,i<l.length→((l[i]?).getD (ir 0)).kind≠0
theorem Steps.cons{s:ByteArray}{f:Int}{t:Tok}{l:List Tok}{o:Option (Int×Int)}(h0:0≤f)(h1:f≤s.size)(ht:fj s f=.ok t)(hk:t.kind≠0)(h:Steps s (js t) l o):Steps s f (t::l) o:=by
 refine⟨fun i hi=>?_,fun i hi=>?_,fun i hi=>?_,fun ho=>?_,fun e p ho=>?_⟩
 ·cases i with
  | zero=>exact ht
  | succ i=>rw[pb,List.getElem?_cons_succ];exact h.tk i (by simpa using hi)
 ·cases i with
  | zero=>exact⟨h0,h1⟩
  | succ i=>rw[pb];exact h.FE i (by simpa using hi)
 ·cases i with
  | zero=>exact hk
  | succ i=>rw[List.getElem?_cons_succ];exact h.kinds i (by simpa using hi)
 ·obtain⟨g0,g1⟩:=h.last ho
  refine⟨by simp, ?_⟩
  obtain⟨n,hn⟩:∃n,l.length=n+1:=⟨l.length-1,by omega⟩
  rw[List.length_cons,hn,Nat.add_sub_cancel,List.getElem?_cons_succ]
  rw[hn,Nat.add_sub_cancel] at g1;exact g1
 ·obtain⟨g1,g2,g3⟩:=h.bad e p ho
  refine⟨by rw[List.length_cons,pb];exact g1,g2,fun i hi=>?_⟩
  cases i with
  | zero=>exact hk
  | succ i=>rw[List.getElem?_cons_succ];exact g3 i (by simpa using hi)
theorem ru(s:ByteArray):∀(n:Nat) (f:Int),0≤f→f≤s.size→(s.size-f+1).toNat≤n→Steps s f (iv s n f).1 (iv s n f).2
 | 0,f,h0,h1,hn=>by omega
 | n+1,f,h0,h1,hn=>by
   unfold iv
   rcases fo h0 h1 with ⟨t,ht,_⟩ | ⟨e,ht,he⟩
   ·have hx:=fP h0 h1 ht
    rw[ht]
    by_cases hk:t.kind=0
    ·simp only[hk,if_true]
     refine⟨fun i hi=>?_,fun i hi=>?_,fun i hi=>?_,fun _=>⟨by simp,hk⟩,fun e p ho=>(by cases ho)⟩
     ·have:i=0:=by simpa using hi
      subst this;exact ht
     ·have hi:i≤1:=hi
      cases i with
      | zero=>exact⟨h0,h1⟩
      | succ i =>
        have:i=0:=by omega
        subst this
        show 0≤t.pos+t.text.size∧t.pos+t.text.size≤(s.size:Int)
        omega
     ·simp at hi
    ·simp only[hk,if_false]
     have:=hx.2.2 hk
     have e0:js t=t.pos+t.text.size:=rfl
     exact .cons h0 h1 ht hk (ru s n _ (by omega) (by omega) (by omega))
   ·rw[ht]
    refine⟨fun i hi=>(by simp at hi),fun i hi=>?_,fun i hi=>(by simp at hi),fun ho=>(by cases ho),fun e' p' ho=>?_⟩
    ·have:i=0:=by simpa using hi
     subst this;exact⟨h0,h1⟩
    ·cases ho
     exact⟨ht,by rcases he with rfl | rfl | rfl<;>decide,fun i hi=>(by simp at hi)⟩
structure PC.Of (c:PC) (t:ByteArray):Prop where
 len:(t.size:Int)≤4096
 qs:c.l.length≤5000
 st:∃o,Steps t 0 c.l o∧c.bad=(o.map Prod.fst).getD 0∧c.pos=(o.map Prod.snd).getD 0
theorem wi{t:ByteArray}(h:(t.size:Int)≤4096):(dC t).Of t:=by
 unfold dC
 rw[if_neg (by omega)]
 exact⟨h,by have:=o7 t (t.size-0+1:Int).toNat 0;show (eQ t 0).1.length≤5000;unfold eQ;omega,_,ru t _ 0 (by decide) (by omega) (Nat.le_refl _),rfl,rfl⟩
def PC.Live(c:PC)(s:PS):Prop:=s.over=false∧s.next<c.l.length
def PC.Gq(c:PC):PF:=⟨c.bad,c.pos,true⟩
section
variable {c:PC} {t:ByteArray} {s:PS}
theorem PC.Of.tk(h:c.Of t){i:Nat}(hi:i<c.l.length):fj t (mZ c.l 0 i)=.ok (c.tok i):=let ⟨_,h,_⟩:=h.st;h.tk i hi
theorem PC.Of.FE(h:c.Of t){i:Nat}(hi:i≤c.l.length):0≤mZ c.l 0 i∧mZ c.l 0 i≤t.size:=let ⟨_,h,_⟩:=h.st;h.FE i hi
theorem PC.Of.next(h:c.Of t){i:Nat}(hi:i<c.l.length)(hk:(c.tok i).kind≠0):i+1<c.l.length∨(i+1=c.l.length∧c.bad≠0∧fj t (mZ c.l 0 (i+1))=.bad c.bad c.pos):=by
 obtain⟨o,h,hb,hp⟩:=h.st
 by_cases hl:i+1<c.l.length
 ·exact .inl hl
 ·have hl:i+1=c.l.length:=by omega
  right
  cases o with
  | none =>
    have:=(h.last rfl).2
    rw[←hl,Nat.add_sub_cancel] at this
    exact absurd this hk
  | some ep =>
    obtain⟨g1,g2,_⟩:=h.bad ep.1 ep.2 rfl
    rw[hb,hp,hl];exact⟨rfl,g2,g1⟩
theorem PC.Of.none(h:c.Of t)(hl:c.l.length=0):c.bad≠0∧fj t 0=.bad c.bad c.pos:=by
 obtain⟨o,h,hb,hp⟩:=h.st
 cases o with
 | none=>have:=(h.last rfl).1;omega
 | some ep =>
   obtain⟨g1,g2,_⟩:=h.bad ep.1 ep.2 rfl
   rw[hl] at g1
   rw[hb,hp];exact⟨g2,g1⟩
theorem PC.Live.now(h:c.Live s):c.now s=c.tok s.next:=by
 unfold PC.now;rw[h.1,if_neg];have:=h.2;simp;omega
theorem PC.Live.inc(h:c.Of t)(hl:c.Live s)(hk:(c.tok s.next).kind≠0):c.Live s.inc∨(s.next+1=c.l.length∧c.dD c.Gq s.inc):=by
 rcases h.next hl.2 hk with h1 | ⟨h1,h2,_⟩
 ·exact .inl ⟨hl.1,h1⟩
 ·refine .inr ⟨h1, ?_,fun _=>h2⟩
  have h1:c.l.length≤s.inc.next:=by show _≤s.next+1;omega
  have ho:s.inc.over=false:=hl.1
  unfold PC.fin;rw[ho,if_neg (by simp),if_pos h1];rfl
theorem PC.Live.c5(hl:c.Live s){e:Int}(he:e≠0):c.c5 e s=⟨s.next,⟨e,(c.tok s.next).pos,false⟩⟩∧c.dD ⟨e,(c.tok s.next).pos,false⟩ (c.c5 e s):=by
 have h1:c.c5 e s=⟨s.next,⟨e,(c.tok s.next).pos,false⟩⟩:=by
  unfold PC.c5;rw[hl.1,if_neg (by simp),if_neg (by have:=hl.2;omega)]
 refine⟨h1, ?_⟩
 have ho:PS.over ⟨s.next,⟨e,(c.tok s.next).pos,false⟩⟩=true:=by simpa[PS.over] using he
 rw[h1]
 exact⟨by unfold PC.fin;rw[if_pos ho],fun h=>by rw[ho] at h;cases h⟩
end
def FF(t:ByteArray)(k:Tok)(f:Int):List Value:=[.string t,.int .u8 k.kind,.string k.text,.int .u8 k.dH,.int .i64 k.n,.int .i64 k.pos,.int .i64 f]
def Dl(t:ByteArray)(k:Tok)(f:Int):Obj:=.cells (FF t k f).toArray 143 (0,0)
def pX(t:ByteArray)(b:Nat)(k:Tok)(f:Int):Nat×Obj:=(b,Dl t k f)
def PC.px(c:PC)(t:ByteArray)(b:Nat)(s:PS):Nat×Obj:=pX t b (c.tok s.next) (js (c.tok s.next))
def Gs(b:Nat):List PanicEntry:=[{ v:=.iface 97 (.pointer (some ⟨b,0,none⟩)),recovered:=false }]
def DJ(f:PF)(u:Value)(B:cR):Prop:=match f.tok with
 | true=>∃b,u=.iface 97 (.pointer (some ⟨b,0,none⟩))∧B=[(b,.cells #[.string (⟨#[84,111,107,101,110,115]⟩:ByteArray),.int .i64 f.pos,oH f.e] 101 (0,0))]
 | false=>u=oH f.e∧B=[]
def dt(f:PF)(F0:cR)(e:Ending)(G:cR):Prop:=∃(b:Nat) (u:Value) (B X:cR),e=.panicked (Gs b)∧DJ f u B∧G.Perm ((b,.cells #[.string ⟨#[]⟩,.int .i64 f.pos,u] 101 (0,0))::(B++(X++F0)))
theorem dt.perm{f:PF}{F0 F1 G H:cR}{e:Ending}(h:dt f F0 e G)(p:F0.Perm F1)(q:H.Perm G):dt f F1 e H :=
 let ⟨b,u,B,X,he,hu,hG⟩:=h;⟨b,u,B,X,he,hu,q.trans (hG.trans (((p.append_left X).append_left B).cons _))⟩
theorem dt.more{f:PF}{A F0 G:cR}{e:Ending}(h:dt f (A++F0) e G):dt f F0 e G :=
 let ⟨b,u,B,X,he,hu,hG⟩:=h;⟨b,u,B,X++A,he,hu,by rw[List.append_assoc];exact hG⟩
theorem dt.DK{f:PF}{x:Nat×Obj}{F0 G:cR}{e:Ending}(h:dt f F0 e G):dt f F0 e (x::G) :=
 let ⟨b,u,B,X,he,hu,hG⟩:=h;⟨b,u,B,x::X,he,hu,(hG.cons x).trans (cU fun z=>by simp only[cY,cV,c6];omega)⟩
theorem dt.pass{f:PF}{F0 G:cR}{e:Ending}{I:cS}{Q:Ending→cS→cR→Prop}(h:dt f F0 e G)(k:∀e',dt f F0 e' G→Q e' I G):∃ch,e=.panicked ch∧∃F2:cR,List.Perm G F2∧Q (.panicked ch) I F2 :=
 let ⟨b,u,B,X,he,hu,hG⟩:=h;⟨_,he,G,.refl _,k _ ⟨b,u,B,X,rfl,hu,hG⟩⟩
theorem dt.dJ{f:PF}{F0 G:cR}{e:Ending}{I:cS}{Q:Ending→cS→cR→Prop}(L:cR)(h:dt f (L++F0) e G)(k:∀e' G',dt f F0 e' G'→Q e' I G'):∃ch,e=.panicked ch∧∃F2:cR,List.Perm G (L++F2)∧Q (.panicked ch) I F2:=by
 obtain⟨b,u,B,X,he,hu,hG⟩:=h
 exact⟨_,he,_,hG.trans (cU fun z=>by simp only[cY,cV,c6];omega),k _ _ ⟨b,u,B,X,rfl,hu,.refl _⟩⟩
def db(c:PC)(t:ByteArray)(b:Nat){α:Type}(val:α→Value→cR→Prop)(F0:cR)(r:α×PS)(e:Ending)(I:cS)(G:cR):Prop :=
 (c.Live r.2∧∃v H,e=.returned v∧val r.1 v H∧G.Perm (c.px t b r.2::(H++F0)))∨∃f,c.dD f r.2∧dt f F0 e G
section
variable {c:PC} {t:ByteArray} {b:Nat} {α:Type} {val:α→Value→cR→Prop} {F0:cR} {r:α×PS}
theorem db.use{g:Nat}{args:Array Value}{I:cS}{F:cR}{Q:Ending→cS→cR→Prop}(h:cZ P g args I F (db c t b val F0 r))
  (k1:∀v H I' G,cS.le I I'→c.Live r.2→val r.1 v H→G.Perm (c.px t b r.2::(H++F0))→Q (.returned v) I' G) (k2:∀f e I' G,cS.le I I'→c.dD f r.2→dt f F0 e G→Q e I' G):cZ P g args I F Q :=
 h.mono fun e I' G hl hd=>by
  rcases hd with ⟨h1,v,H,rfl,hv,hG⟩ | ⟨f,hd,hf⟩
  ·exact k1 v H I' G hl h1 hv hG
  ·exact k2 f e I' G hl hd hf
end
def Gt(x:Unit)(v:Value)(H:cR):Prop:=v=.tuple #[]∧H=[]
def Gu(x:Int)(v:Value)(H:cR):Prop:=v=.int .i64 x∧H=[]
def Gv(x:ByteArray)(v:Value)(H:cR):Prop:=v=.string x∧H=[]
def qd(x:Px)(v:Value)(H:cR):Prop:=∃t:Nd,v=t.v∧t.px=x∧eH 64 false t H
end Go.Lx
namespace Go.Lx
open Go.Vc Go.Proofs.Tryz
def kN:List (Nat×List Sh):=[(0,[]),(2,[.one (.int .i64)]),(3,[.one (.int .i64)]),(9,[.one .str]),(60,[.one (.int .u8)]),(74,[.one (.int .u8)]),(81,[.one .slc,.one (.int .i64),.one (.int .i64)]),(206,[.agg [(.int .u8),.str,(.int .u8),(.int .i64),(.int .i64)],.one (.int .i64),.one (.int .i64)])]
def j9.V(b:OA)(a c:Nat)(v:Bs)(I:cS)(F:cR)(Q:cW)(Inv6:Int→Int→Nat→cS→cR→Prop):Prop:=(∃m:Nat,Inv6 0 0 m I F)∧∀(x x1:Int) (m1:Nat) (I1:cS) (F1:cR),cS.le I I1→Inv6 x x1 m1 I1 F1→(Dt (x1<(a:Int)) ((0≤x1∧x1<(a:Int))∧∃ad:Addr,b=some ad∧∃(m2:Bs),Rd I1 F1 (ad.add (Int.toNat x1*1)) [.string m2]∧(It (v.toList==m2.toList) (Q (.returned (.int .i64 x1)) I1 F1) (∃m3:Nat,m3<m1∧Inv6 x (IntKind.wrap .i64 (x1+1)) m3 I1 F1))) (Q (.returned (.int .i64 (-1))) I1 F1))
theorem j9.vc{a:OA}{b c:Nat}{v:Bs}{I:cS}{F:cR}{Q:cW}(Inv6:Int→Int→Nat→cS→cR→Prop)(h:j9.V a b c v I F Q Inv6):cZ P 125 #[.slice a b c,.string v] I F Q :=
 tw (A:=(fa [2000,4005] [] [] kN [(6,⟨[(4,(.int .i64)),(8,(.int .i64))],[],fun _ _ _ vs m I F=>match vs with | [.int _ y0,.int _ y1]=>Inv6 y0 y1 m I F | _=>False,[],[]⟩)] [] [] [] [] [] [])) [] func125 h
def kc.V(s:Bs)(a:Int)(I:cS)(F:cR)(Q:cW)  : Prop:=((0≤a∧a≤(s.size:Int)∧(s.size:Int)≤(s.size:Int))∧ni P 124 (#[.string (s.extract (Int.toNat a) (Int.toNat ((s.size:Int))))]) I (·) F fun e1 I1 G1=>∃(b:OA) (c d:Nat) (r1 r2:Int),e1=.returned (.tuple #[.slice b c d,.int .i64 r1,.int .i64 r2])∧G1 fun F1=>Q (.returned (.int .i64 (IntKind.wrap .i64 (a+r2)))) I1 F1)
theorem kc.vc{s:Bs}{a:Int}{I:cS}{F:cR}{Q:cW}  (h:kc.V s a I F Q):cZ P 103 #[.string s,.int .i64 a] I F Q :=
 tw (A:=(an [] [124] kN)) [124] func103 h
def lh.V(vb:Int→Value)(vs:Bs→Value)(vl:OA→Nat→Nat→Value)(a:Int)(I:cS)(F:cR)(Q:cW)  : Prop:=(It (a==2) (∀(b:Nat) (I1:cS),cS.le I I1→I1 b=some (Obj.cells #[vs (⟨#[124,124]⟩:Bs)] 9 (0,0))→Q (.returned (.tuple #[vl (some ⟨b,0,none⟩) 1 1,vb 18])) I1 F) (It (a==3) (∀(b1:Nat) (I2:cS),cS.le I I2→I2 b1=some (Obj.cells #[vs (⟨#[38,38]⟩:Bs)] 9 (0,0))→Q (.returned (.tuple #[vl (some ⟨b1,0,none⟩) 1 1,vb 17])) I2 F) (It (a==4) (∀(b2:Nat) (I3:cS),cS.le I I3→I3 b2=some (Obj.cells #[vs (⟨#[61,61]⟩:Bs),vs (⟨#[33,61]⟩:Bs),vs (⟨#[60]⟩:Bs),vs (⟨#[60,61]⟩:Bs),vs (⟨#[62]⟩:Bs),vs (⟨#[62,61]⟩:Bs)] 9 (0,0))→Q (.returned (.tuple #[vl (some ⟨b2,0,none⟩) 6 6,vb 11])) I3 F) (It (a==5) (∀(b3:Nat) (I4:cS),cS.le I I4→I4 b3=some (Obj.cells #[vs (⟨#[43]⟩:Bs),vs (⟨#[45]⟩:Bs)] 9 (0,0))→Q (.returned (.tuple #[vl (some ⟨b3,0,none⟩) 2 2,vb 6])) I4 F) (∀(b4:Nat) (I5:cS),cS.le I I5→I5 b4=some (Obj.cells #[vs (⟨#[42]⟩:Bs),vs (⟨#[47]⟩:Bs),vs (⟨#[37]⟩:Bs)] 9 (0,0))→Q (.returned (.tuple #[vl (some ⟨b4,0,none⟩) 3 3,vb 8])) I5 F)))))
theorem lh.vc{a:Int}{I:cS}{F:cR}{Q:cW}  (h:lh.V (.int .u8) .string .slice a I F Q):cZ P 115 #[.int .i64 a] I F Q :=
 tw (A:=(fa [2000,4000,6000,8000] [] [] kN [] [3000,5000,7000,9000,10000] [] [] [] [] [])) [] func115 h
def gu.V(p:Addr)(e1:Int)(I:cS)(F:cR)(Q:cW)  : Prop:=∃ad:Addr,some p=some ad∧∃(m:Int),Rd I F ((ad.add 1).add 4) [.int .i64 m]∧∀b:Nat,Q (.panicked ([{ v:=Value.iface 97 (.pointer (some (⟨b,0,none⟩:Addr))),recovered:=false }])) I (((b,Obj.cells #[.string (⟨#[]⟩:Bs),.int .i64 m,Value.iface 48 (.int .i64 e1)] 101 (0,0))::F))
theorem gu.vc{p:Addr}{e1:Int}{I:cS}{F:cR}{Q:cW}  (h:gu.V p e1 I F Q):cZ P 65 #[.pointer (some p),.int .i64 e1] I F Q :=
 tw (A:=(fa [] [] [] kN [] [] [8] [] [] [] [])) [] func65 h
def eW.V(ka:Nat→Int→Bs→Int→Int→Int→Nat×Obj)(kb:Nat→Bs→Int→Value→Nat×Obj)(vb vi:Int→Value)(vs:Bs→Value)(vp:OA→Value)(p:Addr)(I:cS)(F:cR)(Q:cW)  : Prop:=∃ad:Addr,some p=some ad∧∃ae:Addr,some p=some ae∧∃(m:Bs),Rd I F (ad.add 0) [vs m]∧∃(m1:Int),Rd I F (ae.add 6) [vi m1]∧(ni P 102 #[vs m,vi m1] I (·) F fun e1 I1 G1=>∃(g:Int) (h:Bs) (i j k r1 r2:Int),e1=.returned (.tuple #[.agg #[vb g,vs h,vb i,vi j,vi k],vi r1,vi r2])∧G1 fun F1=>∀u:Nat,(It (r2 != 0) (It (r2 != 110) (∃af:Addr,some p=some af∧∃ag:Addr,some p=some ag∧∃(m2:Bs),Rd I1 ((ka u g h i j k)::F1) (af.add 0) [vs m2]∧∃(m3:Int),Rd I1 ((ka u g h i j k)::F1) (ag.add 6) [vi m3]∧jW P 103 #[vs m2,vi m3] I1 ((ka u g h i j k)::·) F1 vi fun r I2 F2=>∀b:Nat,∀b1:Nat,Q (.panicked ([{ v:=Value.iface 97 (vp (some (⟨b1,0,none⟩:Addr))),recovered:=false }])) I2 (((kb b1 (⟨#[]⟩:Bs) r (Value.iface 97 (vp (some (⟨b,0,none⟩:Addr)))))::((kb b (⟨#[84,111,107,101,110,115]⟩:Bs) r (Value.iface 48 (vi r2)))::F2)))) (∀b2:Nat,∀b3:Nat,Q (.panicked ([{ v:=Value.iface 97 (vp (some (⟨b3,0,none⟩:Addr))),recovered:=false }])) I1 (((kb b3 (⟨#[]⟩:Bs) 0 (Value.iface 97 (vp (some (⟨b2,0,none⟩:Addr)))))::((kb b2 (⟨#[84,111,107,101,110,115]⟩:Bs) 0 (Value.iface 48 (vi r2)))::F1))))) (∃o:Addr,some p=some o∧∃(cs:List Value) (el:Nat) (F3:cR),List.Perm F1 (((o.add 1).block,Obj.cells cs.toArray el (0,0))::F3)∧(o.add 1).spot=none∧(o.add 1).off+5≤cs.length∧∃q:Addr,some p=some q∧∃(w:List Value) (z:Nat) (F4:cR),List.Perm (((o.add 1).block,Obj.cells (de (o.add 1).off [vb g,vs h,vb i,vi j,vi k] cs).toArray el (0,0))::F3) (((q.add 6).block,Obj.cells w.toArray z (0,0))::F4)∧(q.add 6).spot=none∧(q.add 6).off+1≤w.length∧Q (.returned (.tuple #[])) I1 ((((q.add 6).block,Obj.cells (de (q.add 6).off [vi r1] w).toArray z (0,0))::F4)))))∧(∀l:Nat,ni P 102 #[vs m,vi m1] I ((ka l 0 (⟨#[]⟩:Bs) 0 0 0)::·) F fun e3 I3 G3=>∃(a:Int) (c:Bs) (d e f aa n:Int),e3=.returned (.tuple #[.agg #[vb a,vs c,vb d,vi e,vi f],vi aa,vi n])∧G3 fun F5=>(It (n != 0) (It (n != 110) (∃ah:Addr,some p=some ah∧∃ai:Addr,some p=some ai∧∃(m4:Bs),Rd I3 ((ka l a c d e f)::F5) (ah.add 0) [vs m4]∧∃(m5:Int),Rd I3 ((ka l a c d e f)::F5) (ai.add 6) [vi m5]∧jW P 103 #[vs m4,vi m5] I3 ((ka l a c d e f)::·) F5 vi fun r3 I4 F6=>∀b4:Nat,∀b5:Nat,Q (.panicked ([{ v:=Value.iface 97 (vp (some (⟨b5,0,none⟩:Addr))),recovered:=false }])) I4 (((kb b5 (⟨#[]⟩:Bs) r3 (Value.iface 97 (vp (some (⟨b4,0,none⟩:Addr)))))::((kb b4 (⟨#[84,111,107,101,110,115]⟩:Bs) r3 (Value.iface 48 (vi n)))::F6)))) (∀b6:Nat,∀b7:Nat,Q (.panicked ([{ v:=Value.iface 97 (vp (some (⟨b7,0,none⟩:Addr))),recovered:=false }])) I3 (((kb b7 (⟨#[]⟩:Bs) 0 (Value.iface 97 (vp (some (⟨b6,0,none⟩:Addr)))))::((kb b6 (⟨#[84,111,107,101,110,115]⟩:Bs) 0 (Value.iface 48 (vi n)))::F5))))) (∃s:Addr,some p=some s∧∃(x:List Value) (ab:Nat) (F7:cR),List.Perm F5 (((s.add 1).block,Obj.cells x.toArray ab (0,0))::F7)∧(s.add 1).spot=none∧(s.add 1).off+5≤x.length∧∃t:Addr,some p=some t∧∃(y:List Value) (ac:Nat) (F8:cR),List.Perm (((s.add 1).block,Obj.cells (de (s.add 1).off [vb a,vs c,vb d,vi e,vi f] x).toArray ab (0,0))::F7) (((t.add 6).block,Obj.cells y.toArray ac (0,0))::F8)∧(t.add 6).spot=none∧(t.add 6).off+1≤y.length∧Q (.returned (.tuple #[])) I3 ((((t.add 6).block,Obj.cells (de (t.add 6).off [vi aa] y).toArray ac (0,0))::F8)))))
theorem eW.vc{p:Addr}{I:cS}{F:cR}{Q:cW}  (h:eW.V (fun W a b c d e=>(W,Obj.cells #[.int .u8 a,.string b,.int .u8 c,.int .i64 d,.int .i64 e] 76 (0,0))) (fun W a b c=>(W,Obj.cells #[.string a,.int .i64 b,c] 101 (0,0))) (.int .u8) (.int .i64) .string .pointer p I F Q):cZ P 64 #[.pointer (some p)] I F Q :=
 tw (A:=(fa [1001,3001] [] [102,103] kN [] [] [5005,5008] [] [] [(0,[0,1,2,4,5,6,3,7]),(4,[0,1,2,4,5,6,3,7,8,9])] [] [(0,8,13,[9,10,11,12,13,14,15,16],[8,9,10,11,12,14,15,16])])) [102,103] func64 h
def iB.V(p:Addr)(s:Bs)(I:cS)(F:cR)(Q:cW)  : Prop:=∃ad:Addr,some p=some ad∧∃(m:Int),Rd I F ((ad.add 1).add 0) [.int .u8 m]∧(It (m==1) (∃a:Addr,some p=some a∧∃(m1:Bs),Rd I F ((a.add 1).add 1) [.string m1]∧Q (.returned (.bool (m1.toList==s.toList))) I F) (∃b:Addr,some p=some b∧∃(m2:Int),Rd I F ((b.add 1).add 0) [.int .u8 m2]∧(It (m2==4) (∃c:Addr,some p=some c∧∃(m3:Bs),Rd I F ((c.add 1).add 1) [.string m3]∧Q (.returned (.bool (m3.toList==s.toList))) I F) (Q (.returned (.bool false)) I F))))
theorem iB.vc{p:Addr}{s:Bs}{I:cS}{F:cR}{Q:cW}  (h:iB.V p s I F Q):cZ P 91 #[.pointer (some p),.string s] I F Q :=
 tw (A:=(an [1005,1012] [] kN)) [] func91 h
def gx.V(vi:Int→Value)(vs:Bs→Value)(p:Addr)(a:OA)(b c:Nat)(I:cS)(F:cR)(Q:cW)  : Prop:=∃ad:Addr,some p=some ad∧∃(m:Int),Rd I F ((ad.add 1).add 0) [.int .u8 m]∧(It (m != 1) (∃d:Addr,some p=some d∧∃(m1:Int),Rd I F ((d.add 1).add 0) [.int .u8 m1]∧(It (m1 != 4) (Q (.returned (vi (-1))) I F) (∃e:Addr,some p=some e∧∃(m2:Bs),Rd I F ((e.add 1).add 1) [vs m2]∧jW P 125 #[.slice a b c,vs m2] I (·) F vi fun r I1 F1=>Q (.returned (vi r)) I1 F1))) (∃f:Addr,some p=some f∧∃(m3:Bs),Rd I F ((f.add 1).add 1) [vs m3]∧jW P 125 #[.slice a b c,vs m3] I (·) F vi fun r1 I2 F2=>Q (.returned (vi r1)) I2 F2))
theorem gx.vc{p:Addr}{a:OA}{b c:Nat}{I:cS}{F:cR}{Q:cW}  (h:gx.V (.int .i64) .string p a b c I F Q):cZ P 104 #[.pointer (some p),.slice a b c] I F Q :=
 tw (A:=(an [1005,1012] [125] kN)) [125] func104 h
def ia.V(vi:Int→Value)(vp:OA→Value)(p:Addr)(c:OA)(d e:Nat)(I:cS)(F:cR)(Q:cW)  : Prop:=jW P 104 (#[vp (some p),.slice c d e]) I (·) F vi fun r I1 F1=>(Dt (r<0) (cZ P 65 (#[vp (some p),vi 130]) I1 F1 fun e2 I2 G2=>((e2=.returned (.tuple #[])∧∃F2:cR,List.Perm G2 F2∧cZ P 64 (#[vp (some p)]) I2 F2 fun e3 I3 G3=>((e3=.returned (.tuple #[])∧∃F3:cR,List.Perm G3 F3∧Q (.returned (vi r)) I3 F3)∨(∃ch:List PanicEntry,e3=.panicked ch∧∃F4:cR,List.Perm G3 F4∧Q (.panicked ch) I3 F4)))∨(∃a:List PanicEntry,e2=.panicked a∧∃F5:cR,List.Perm G2 F5∧Q (.panicked a) I2 F5))) (cZ P 64 (#[vp (some p)]) I1 F1 fun e4 I4 G4=>((e4=.returned (.tuple #[])∧∃F6:cR,List.Perm G4 F6∧Q (.returned (vi r)) I4 F6)∨(∃b:List PanicEntry,e4=.panicked b∧∃F7:cR,List.Perm G4 F7∧Q (.panicked b) I4 F7))))
theorem ia.vc{p:Addr}{a:OA}{b c:Nat}{I:cS}{F:cR}{Q:cW}  (h:ia.V (.int .i64) .pointer p a b c I F Q):cZ P 66 #[.pointer (some p),.slice a b c] I F Q :=
 tw (A:=(fa [2001] [64,65] [64,65,104] kN [] [] [] [] [] [] [])) [64,65,104] func66 h
def gM.V(p:Addr)(I:cS)(F:cR)(Q:cW)  : Prop:=∃ad:Addr,some p=some ad∧∃(m:Bs),Rd I F ((ad.add 1).add 1) [.string m]∧∃a:Addr,some p=some a∧∃(m1:Int),Rd I F ((a.add 1).add 0) [.int .u8 m1]∧(It (m1 != 2) (cZ P 65 (#[.pointer (some p),.int .i64 130]) I F fun e1 I1 G1=>((e1=.returned (.tuple #[])∧∃F1:cR,List.Perm G1 F1∧cZ P 64 (#[.pointer (some p)]) I1 F1 fun e2 I2 G2=>((e2=.returned (.tuple #[])∧∃F2:cR,List.Perm G2 F2∧Q (.returned (.string m)) I2 F2)∨(∃ch:List PanicEntry,e2=.panicked ch∧∃F3:cR,List.Perm G2 F3∧Q (.panicked ch) I2 F3)))∨(∃b:List PanicEntry,e1=.panicked b∧∃F4:cR,List.Perm G1 F4∧Q (.panicked b) I1 F4))) (cZ P 64 (#[.pointer (some p)]) I F fun e3 I3 G3=>((e3=.returned (.tuple #[])∧∃F5:cR,List.Perm G3 F5∧Q (.returned (.string m)) I3 F5)∨(∃c:List PanicEntry,e3=.panicked c∧∃F6:cR,List.Perm G3 F6∧Q (.panicked c) I3 F6))))
theorem gM.vc{p:Addr}{I:cS}{F:cR}{Q:cW}  (h:gM.V p I F Q):cZ P 67 #[.pointer (some p)] I F Q :=
 tw (A:=(fa [2005] [64,65] [64,65] kN [] [] [] [] [] [] [])) [64,65] func67 h
def fJ.V(p:Addr)(d:Int)(I:cS)(F:cR)(Q:cW)  : Prop:=(It (d==24) (cZ P 65 (#[.pointer (some p),.int .i64 132]) I F fun e1 I1 G1=>((e1=.returned (.tuple #[])∧∃F1:cR,List.Perm G1 F1∧Q (.returned (.int .i64 (IntKind.wrap .i64 (d+1)))) I1 F1)∨(∃ch:List PanicEntry,e1=.panicked ch∧∃F2:cR,List.Perm G1 F2∧Q (.panicked ch) I1 F2))) (Q (.returned (.int .i64 (IntKind.wrap .i64 (d+1)))) I F))
theorem fJ.vc{p:Addr}{d:Int}{I:cS}{F:cR}{Q:cW}  (h:fJ.V p d I F Q):cZ P 92 #[.pointer (some p),.int .i64 d] I F Q :=
 tw (A:=(fa [1001] [65] [65] kN [] [] [] [] [] [] [])) [65] func92 h
def fC.V(nV:Int→Int→Int→Int→Int→Bs→OA→Nat→Nat→Int→Value)(nO:Int→Int→Int→Int→Int→Bs→OA→Nat→Nat→Int→Obj)(vs:Bs→Value)(vt:Bool→Value)(vp:OA→Value)(wr:Int→Int)(p:Addr)(I:cS)(F:cR)(Q:cW)  : Prop:=∀b:Nat,∃ad:Addr,some p=some ad∧∃(m:Int),Rd I ((b,nO 0 0 0 0 0 (⟨#[]⟩:Bs) none 0 0 0)::F) ((ad.add 1).add 4) [.int .i64 m]∧∀a:Nat,∃c:Addr,some p=some c∧∃(m1:Int),Rd I ((b,nO 0 0 0 0 0 (⟨#[]⟩:Bs) none 0 0 0)::(a,nO 1 0 0 0 0 (⟨#[]⟩:Bs) none 0 0 m)::F) ((c.add 1).add 0) [.int .u8 m1]∧(It (m1==3) (∃d:Addr,some p=some d∧∃(m2:Int),Rd I ((b,nO 0 0 0 0 0 (⟨#[]⟩:Bs) none 0 0 0)::(a,nO 1 0 0 0 0 (⟨#[]⟩:Bs) none 0 0 m)::F) ((d.add 1).add 2) [.int .u8 m2]∧∃e:Addr,some p=some e∧∃(m3:Int),Rd I F ((e.add 1).add 3) [.int .i64 m3]∧cZ P 64 (#[vp (some p)]) I ((b,nO 0 0 0 0 0 (⟨#[]⟩:Bs) none 0 0 0)::(a,nO 1 0 m2 m3 0 (⟨#[]⟩:Bs) none 0 0 m)::F) fun e1 I1 G1=>((e1=.returned (.tuple #[])∧∃F1:cR,List.Perm G1 ((b,nO 0 0 0 0 0 (⟨#[]⟩:Bs) none 0 0 0)::(a,nO 1 0 m2 m3 0 (⟨#[]⟩:Bs) none 0 0 m)::F1)∧Q (.returned (.tuple #[nV 1 0 m2 m3 0 (⟨#[]⟩:Bs) none 0 0 m,vt true])) I1 F1)∨(∃ch:List PanicEntry,e1=.panicked ch∧∃F2:cR,List.Perm G1 ((b,nO 0 0 0 0 0 (⟨#[]⟩:Bs) none 0 0 0)::(a,nO 1 0 m2 m3 0 (⟨#[]⟩:Bs) none 0 0 m)::F2)∧Q (.panicked ch) I1 F2))) (∀(b1:Nat) (I2:cS),cS.le I I2→I2 b1=some (Obj.cells #[vs (⟨#[102,97,108,115,101]⟩:Bs),vs (⟨#[116,114,117,101]⟩:Bs),vs (⟨#[98,117,121]⟩:Bs),vs (⟨#[115,101,108,108]⟩:Bs)] 9 (0,0))→jW P 104 (#[vp (some p),.slice (some ⟨b1,0,none⟩) 4 4]) I2 ((b,nO 0 0 0 0 0 (⟨#[]⟩:Bs) none 0 0 0)::(a,nO 1 0 0 0 0 (⟨#[]⟩:Bs) none 0 0 m)::·) F (.int .i64) fun r I3 F3=>(Dt (r<0) (Q (.returned (.tuple #[nV 0 0 0 0 0 (⟨#[]⟩:Bs) none 0 0 0,vt false])) I3 F3) (Dt (r>1) (cZ P 64 (#[vp (some p)]) I3 ((b,nO 0 0 0 0 0 (⟨#[]⟩:Bs) none 0 0 0)::(a,nO 1 0 6 (wr (r-1)) 0 (⟨#[]⟩:Bs) none 0 0 m)::F3) fun e3 I4 G3=>((e3=.returned (.tuple #[])∧∃F4:cR,List.Perm G3 ((b,nO 0 0 0 0 0 (⟨#[]⟩:Bs) none 0 0 0)::(a,nO 1 0 6 (wr (r-1)) 0 (⟨#[]⟩:Bs) none 0 0 m)::F4)∧Q (.returned (.tuple #[nV 1 0 6 (wr (r-1)) 0 (⟨#[]⟩:Bs) none 0 0 m,vt true])) I4 F4)∨(∃f:List PanicEntry,e3=.panicked f∧∃F5:cR,List.Perm G3 ((b,nO 0 0 0 0 0 (⟨#[]⟩:Bs) none 0 0 0)::(a,nO 1 0 6 (wr (r-1)) 0 (⟨#[]⟩:Bs) none 0 0 m)::F5)∧Q (.panicked f) I4 F5))) (cZ P 64 (#[vp (some p)]) I3 ((b,nO 0 0 0 0 0 (⟨#[]⟩:Bs) none 0 0 0)::(a,nO 1 0 5 r 0 (⟨#[]⟩:Bs) none 0 0 m)::F3) fun e4 I5 G4=>((e4=.returned (.tuple #[])∧∃F6:cR,List.Perm G4 ((b,nO 0 0 0 0 0 (⟨#[]⟩:Bs) none 0 0 0)::(a,nO 1 0 5 r 0 (⟨#[]⟩:Bs) none 0 0 m)::F6)∧Q (.returned (.tuple #[nV 1 0 5 r 0 (⟨#[]⟩:Bs) none 0 0 m,vt true])) I5 F6)∨(∃g:List PanicEntry,e4=.panicked g∧∃F7:cR,List.Perm G4 ((b,nO 0 0 0 0 0 (⟨#[]⟩:Bs) none 0 0 0)::(a,nO 1 0 5 r 0 (⟨#[]⟩:Bs) none 0 0 m)::F7)∧Q (.panicked g) I5 F7)))))))
theorem fC.vc{p:Addr}{I:cS}{F:cR}{Q:cW}  (h:fC.V (fun k o t n f s a l c q=>.agg #[.int .u8 k,.int .u8 o,.int .u8 t,.int .i64 n,.int .u8 f,.string s,.slice a l c,.int .i64 q]) (fun k o t n f s a l c q=>.cells #[.int .u8 k,.int .u8 o,.int .u8 t,.int .i64 n,.int .u8 f,.string s,.slice a l c,.int .i64 q] 64 (0,0)) .string .bool .pointer (IntKind.wrap .i64) p I F Q):cZ P 105 #[.pointer (some p)] I F Q :=
 tw (A:=(fa [2005,5001,8001] [64] [64,104] kN [] [4001] [] [(3,11,[1])] [] [] [(3,12)])) [64,104] func105 h
end Go.Lx
namespace Go.Lx
open Go.Vc
def eo(I:cS)(G:cR)(t:ByteArray)(b:Nat)(k:Tok)(f:Int):Prop:=I b=some (Dl t k f)∨(b,Dl t k f)∈G
theorem eo.rd{I:cS}{G:cR}{t:ByteArray}{b:Nat}{k:Tok}{f:Int}(h:eo I G t b k f):Rd I G (⟨b,0,none⟩:Addr) (FF t k f):=⟨rfl,_,_,_,h,fun j hj=>by simp⟩
theorem eo.mono{I J:cS}{G H:cR}{t:ByteArray}{b:Nat}{k:Tok}{f:Int}(h:eo I G t b k f)(hl:cS.le I J)(hs:∀x,x∈G→x∈H):eo J H t b k f:=h.imp (fun h=>hl.at h) (hs _)
theorem eo.of{I:cS}{F G:cR}{t:ByteArray}{b:Nat}{k:Tok}{f:Int}(h:F.Perm (pX t b k f::G)):eo I F t b k f:=.inr (h.mem_iff.2 (.head _))
theorem fD{I:cS}{F:cR}{t:ByteArray}{b:Nat}{k:Tok}{f:Int}(h:eo I F t b k f)(e:Int):cZ P 65 #[.pointer (some ⟨b,0,none⟩),.int .i64 e] I F fun e' I' G=>dt ⟨e,k.pos,false⟩ F e' G:=by
 refine gu.vc ?_
 unfold gu.V
 exact⟨_,rfl,_,h.rd.dR (p:=1) (q:=4) rfl,fun b1=>⟨b1,_,[],[],rfl,⟨rfl,rfl⟩,.refl _⟩⟩
theorem zW{I:cS}{G:cR}{b ty:Nat}{v:Value}(h:(b,Obj.cells #[v] ty (0,0))∈G):Rd I G (⟨b,0,none⟩:Addr) [v]:=Rd.yz h 0 fun j hj=>by
 have:j=0:=by simpa using hj
 subst this;rfl
theorem wj{x p:Nat×Obj}{F F0:cR}(h:F.Perm (p::F0)):(x::F).Perm (p::x::F0):=(h.cons x).trans (.swap ..)
theorem gI{x y p:Nat×Obj}{F F0:cR}(h:F.Perm (p::F0)):(x::y::F).Perm (p::x::y::F0):=wj (wj h)
theorem wm{x y z p:Nat×Obj}{F F0:cR}(h:F.Perm (p::F0)):(x::y::z::F).Perm (p::x::y::z::F0):=wj (wj (wj h))
theorem x8{x y z u p:Nat×Obj}{F F0:cR}(h:F.Perm (p::F0)):(x::y::z::u::F).Perm (p::x::y::z::u::F0):=wj (wj (wj (wj h)))
theorem dt.tail{f:PF}{x:Nat×Obj}{F F0 G:cR}{e:Ending}(h:dt f F e G)(p:F.Perm (x::F0)):dt f F0 e G:=dt.more (A:=[x]) (h.perm p (.refl _))
theorem yZ{t:ByteArray}{f:Int}(h0:0≤f)(h1:f≤t.size):fF (cut t f t.size) t f :=
 ⟨h0,by rw[fO h0 h1 (Int.le_refl _)];omega,fun k g0 g1=>by
   rw[fO h0 h1 (Int.le_refl _)] at g1
   rw[mL h0 g0 (by omega) (Int.le_refl _),Int.add_comm]⟩
theorem nI{t:ByteArray}(hs:(t.size:Int)≤4096){f:Int}(h0:0≤f)(h1:f≤t.size){e p:Int}(ht:fj t f=.bad e p)(I:cS)(F:cR):cZ P 103 #[.string t,.int .i64 f] I F (lH (.int .i64 p) F):=by
 have hB:=yZ h0 h1
 have hz:=fO h0 h1 (Int.le_refl _)
 have hp:0≤p∧p≤t.size:=by
  have ho:=fN (s:=t) h1
  rcases fo h0 h1 with ⟨_,h,_⟩ | ⟨e',h,_⟩
  ·rw[ht] at h;cases h
  ·rw[ht] at h
   have:p=dg t f:=(TR.bad.inj h).2
   omega
 have htk:=hB.tok (f:=0) (by decide) (by omega)
 rw[Int.zero_add,ht] at htk
 have hb:fj (cut t f t.size) 0=.bad e (p-f):=by
  cases hc:fj (cut t f t.size) 0 with
  | ok u=>rw[hc] at htk;cases htk
  | bad e' p' =>
    rw[hc] at htk
    obtain⟨rfl,rfl⟩:=TR.bad.inj htk
    rw[show p'+f-f=p' by omega]
 have hT:hZ (cut t f t.size)=.error (e,p-f):=by
  unfold hZ
  rw[if_neg (by omega),eS (by decide) (by omega),hb]
 refine kc.vc ?_
 unfold kc.V
 refine⟨⟨h0,h1,Int.le_refl _⟩,(xC (s:=cut t f t.size) (by unfold dj;omega) I F).mono fun e1 I1 G l1 hr=>?_⟩
 obtain⟨rfl,hr⟩:=hr
 rw[hT] at hr
 refine⟨_,_,_,_,_,hr,_,.refl _, ?_,rfl⟩
 rw[gU (by omega),show f+(p-f)=p by omega]
theorem zX{I:cS}{F F0:cR}{t:ByteArray}(hs:(t.size:Int)≤4096){b:Nat}{k:Tok}{f:Int}(h0:0≤f)(h1:f≤t.size)(hF:F.Perm (pX t b k f::F0)) :
  cZ P 64 #[.pointer (some ⟨b,0,none⟩)] I F fun e' I' G=>match fj t f with
   | .ok k'=>e'=.returned (.tuple #[])∧G.Perm (pX t b k' (js k')::F0)
   | .bad e p=>dt ⟨e,p,true⟩ F0 e' G:=by
 have hp:=eo.of (I:=I) hF
 refine eW.vc ?_
 unfold eW.V
 have hshort:dj t:=by unfold dj;omega
 have hnx:u5 t f=match fj t f with
  | .ok t'=>.tuple #[t'.v,.int .i64 (t'.pos+t'.text.size),.int .i64 0]
  | .bad e p=>.tuple #[(ir 0).v,.int .i64 0,.int .i64 e]:=by unfold u5;rw[if_neg (by omega),if_neg (by omega)];cases fj t f<;>rfl
 have hst:∀(k':Tok),pX t b k' (js k')=(((⟨b,0,none⟩:Addr).add 6).block,Obj.cells (de ((⟨b,0,none⟩:Addr).add 6).off [.int .i64 (js k')] (de ((⟨b,0,none⟩:Addr).add 1).off [.int .u8 k'.kind,.string k'.text,.int .u8 k'.dH,.int .i64 k'.n,.int .i64 k'.pos] (FF t k f))).toArray 143 (0,0)):=fun k'=>by
  rw[fm,fm];rfl
 refine⟨_,rfl,_,rfl,_,hp.rd.field (o:=0) rfl,_,hp.rd.field (o:=6) rfl, ?_,fun b_t=>?_⟩
 ·refine cZ.ret (nY hshort I _) fun I1 l1=>?_
  rw[hnx]
  rcases fo h0 h1 with ⟨k',ht,_⟩ | ⟨e,ht,he⟩
  ·rw[ht]
   refine⟨_,_,_,_,_,_,_,rfl,_,.refl _,fun b_t=>⟨fun h=>absurd h (by decide),fun _=>⟨_,rfl,FF t k f,143,F0,hF,rfl,by rw[fm];exact (by decide:1+5≤7),_,rfl,_,143,F0,.refl _,rfl,by rw[fm,fm];exact (by decide:6+1≤7),rfl, ?_⟩⟩⟩
   rw[hst k'];exact .refl _
  ·rw[ht]
   refine⟨_,_,_,_,_,_,_,rfl,_,.refl _,fun b_t=>⟨fun _=>⟨fun _=>?_,fun h=>?_⟩,fun h=>?_⟩⟩
   ·have hp1:=(hp.mono (J:=I1) (H:=(b_t,Obj.cells #[.int .u8 0,.string ⟨#[]⟩,.int .u8 0,.int .i64 0,.int .i64 0] 76 (0,0))::F) l1 fun x hx=>.tail _ hx)
    refine⟨_,rfl,_,rfl,_,hp1.rd.field (o:=0) rfl,_,hp1.rd.field (o:=6) rfl,cZ.ret (nI hs h0 h1 ht I1 _) fun I2 l2=>⟨_,rfl,F,.refl _,fun b1 b2=>?_⟩⟩
    exact dt.tail (F:=F) ⟨b2,_,_,[],rfl,⟨b1,rfl,rfl⟩,.refl _⟩ hF
   ·rcases he with rfl | rfl | rfl<;>exact absurd h (by decide)
   ·rcases he with rfl | rfl | rfl<;>exact absurd h (by decide)
 ·refine cZ.ret (nY hshort I _) fun I1 l1=>?_
  rw[hnx]
  rcases fo h0 h1 with ⟨k',ht,_⟩ | ⟨e,ht,he⟩
  ·rw[ht]
   refine⟨_,_,_,_,_,_,_,rfl,_,.refl _,⟨fun h=>absurd h (by decide),fun _=>⟨_,rfl,FF t k f,143,F0,hF,rfl,by rw[fm];exact (by decide:1+5≤7),_,rfl,_,143,F0,.refl _,rfl,by rw[fm,fm];exact (by decide:6+1≤7),rfl, ?_⟩⟩⟩
   rw[hst k'];exact .refl _
  ·rw[ht]
   refine⟨_,_,_,_,_,_,_,rfl,_,.refl _,⟨fun _=>⟨fun _=>?_,fun h=>?_⟩,fun h=>?_⟩⟩
   ·have hp1:=(hp.mono (J:=I1) (H:=(b_t,Obj.cells #[.int .u8 0,.string ⟨#[]⟩,.int .u8 0,.int .i64 0,.int .i64 0] 76 (0,0))::F) l1 fun x hx=>.tail _ hx)
    refine⟨_,rfl,_,rfl,_,hp1.rd.field (o:=0) rfl,_,hp1.rd.field (o:=6) rfl,cZ.ret (nI hs h0 h1 ht I1 _) fun I2 l2=>⟨_,rfl,F,.refl _,fun b1 b2=>?_⟩⟩
    exact dt.tail (F:=F) ⟨b2,_,_,[],rfl,⟨b1,rfl,rfl⟩,.refl _⟩ hF
   ·rcases he with rfl | rfl | rfl<;>exact absurd h (by decide)
   ·rcases he with rfl | rfl | rfl<;>exact absurd h (by decide)
theorem Co{I:cS}{F F0:cR}{t:ByteArray}(hs:4096<(t.size:Int))(hs2:dj t){b:Nat}{k:Tok}{f:Int}(hF:F.Perm (pX t b k f::F0)) :
  cZ P 64 #[.pointer (some ⟨b,0,none⟩)] I F fun e' I' G=>dt ⟨110,0,true⟩ F0 e' G:=by
 have hp:=eo.of (I:=I) hF
 refine eW.vc ?_
 unfold eW.V
 have hnx:u5 t f=.tuple #[(ir 0).v,.int .i64 0,.int .i64 110]:=by unfold u5;rw[if_pos (by omega)]
 refine⟨_,rfl,_,rfl,_,hp.rd.field (o:=0) rfl,_,hp.rd.field (o:=6) rfl, ?_,fun b_t=>?_⟩
 ·refine cZ.ret (nY hs2 I _) fun I1 l1=>?_
  rw[hnx]
  exact⟨_,_,_,_,_,_,_,rfl,_,.refl _,fun b_t=>⟨fun _=>⟨fun h=>absurd h (by decide),fun _ b1 b2=>dt.tail (F:=F) ⟨b2,_,_,[],rfl,⟨b1,rfl,rfl⟩,.refl _⟩ hF⟩,fun h=>absurd h (by decide)⟩⟩
 ·refine cZ.ret (nY hs2 I _) fun I1 l1=>?_
  rw[hnx]
  exact⟨_,_,_,_,_,_,_,rfl,_,.refl _,⟨fun _=>⟨fun h=>absurd h (by decide),fun _ b1 b2=>dt.tail (F:=F) ⟨b2,_,_,[],rfl,⟨b1,rfl,rfl⟩,.refl _⟩ hF⟩,fun h=>absurd h (by decide)⟩⟩
def xP(v:ByteArray):List ByteArray→Int→Int
 | [],_=>-1
 | w::r,i=>if v.toList==w.toList then i else xP v r (i+1)
theorem tQ{c:PC}{s:PS}(hk:(c.now s).kind=1∨(c.now s).kind=4):∀(ws:List ByteArray) (i:Int),c.gG s ws i=xP (c.now s).text ws i
 | [],i=>rfl
 | w::r,i=>by
   rw[PC.gG,xP,tQ hk r]
   have:c.ej w s=((c.now s).text.toList==w.toList):=by
    unfold PC.ej
    rcases hk with h | h<;>rw[h]<;>simp
   rw[this]
theorem any_none{c:PC}{s:PS}(h1:(c.now s).kind≠1)(h4:(c.now s).kind≠4):∀(ws:List ByteArray) (i:Int),c.gG s ws i = -1
 | [],i=>rfl
 | w::r,i=>by
   have:c.ej w s=false:=by unfold PC.ej;simp[h1,h4]
   rw[PC.gG,this,if_neg (by simp),any_none h1 h4 r]
theorem tR{v:ByteArray}{a:Option Addr}{n k:Nat}{ws:List ByteArray}{I:cS}(hS:Sl I 1 kH a n ws)(hl:n≤100)(F:cR):cZ P 125 #[.slice a n k,.string v] I F (lH (.int .i64 (xP v ws 0)) F):=by
 have hn:=hS.1
 refine j9.vc (fun x i m I' F'=>F'=F∧0≤i∧i≤n∧m=(n-i).toNat∧xP v ws 0=xP v (ws.drop i.toNat) i) ?_
 unfold j9.V
 refine⟨⟨_,rfl,by omega,by omega,rfl,rfl⟩,fun x i m1 I1 F1 l1 ⟨gF,g0,g1,gm,ge⟩=>⟨fun hlt=>?_,fun hlt=>⟨?_,gF⟩⟩⟩
 ·subst gF
  have hlt:=of_decide_eq_true hlt
  obtain⟨ad,w,ha,hw,hr⟩:=(hS.mono l1).at g0 hlt
  obtain⟨hk,rfl⟩:=List.getElem?_eq_some_iff.1 hw
  rw[List.drop_eq_getElem_cons hk,xP] at ge
  refine⟨⟨g0,hlt⟩,ad,ha,_,hr _,fun h=>⟨?_,rfl⟩,fun h=>⟨(n-(i+1)).toNat,by omega,rfl, ?_⟩⟩
  ·rw[ge,if_pos h]
  ·rw[gU (n:=i+1) (by omega)]
   refine⟨by omega,by omega,rfl, ?_⟩
   rw[ge,if_neg (by simp[h]),show (i+1).toNat=i.toNat+1 by omega]
 ·have hlt:=of_decide_eq_false hlt
  rw[ge,List.drop_eq_nil_of_le (by omega),xP]
section
variable {c:PC} {t:ByteArray} {s:PS} {b:Nat} {I:cS} {F F0:cR}
theorem qe(hl:c.Live s)(hp:eo I F t b (c.tok s.next) (js (c.tok s.next)))(w:ByteArray):cZ P 91 #[.pointer (some ⟨b,0,none⟩),.string w] I F (lH (.bool (c.ej w s)) F):=by
 refine iB.vc ?_
 unfold iB.V
 have hn:=hl.now
 refine⟨_,rfl,_,hp.rd.dR (p:=1) (q:=0) rfl,fun h=>⟨_,rfl,_,hp.rd.dR (p:=1) (q:=1) rfl, ?_,rfl⟩,fun h=>⟨_,rfl,_,hp.rd.dR (p:=1) (q:=0) rfl,fun h2=>⟨_,rfl,_,hp.rd.dR (p:=1) (q:=1) rfl, ?_,rfl⟩,fun h2=>⟨?_,rfl⟩⟩⟩ <;>
  unfold PC.ej<;>rw[hn]<;>simp_all
theorem ix(hl:c.Live s)(hp:eo I F t b (c.tok s.next) (js (c.tok s.next))){a:Option Addr}{n k:Nat}{ws:List ByteArray}(hS:Sl I 1 kH a n ws)(hn:n≤100) :
  cZ P 104 #[.pointer (some ⟨b,0,none⟩),.slice a n k] I F (lH (.int .i64 (c.any ws s)) F):=by
 refine gx.vc ?_
 unfold gx.V
 have hw:=hl.now
 refine⟨_,rfl,_,hp.rd.dR (p:=1) (q:=0) rfl,fun h=>⟨_,rfl,_,hp.rd.dR (p:=1) (q:=0) rfl,fun h2=>⟨?_,rfl⟩,fun h2=>⟨_,rfl,_,hp.rd.dR (p:=1) (q:=1) rfl,cZ.ret (tR hS hn F) fun I1 l1=>⟨_,rfl,F,.refl _, ?_,rfl⟩⟩⟩,fun h=>⟨_,rfl,_,hp.rd.dR (p:=1) (q:=1) rfl,cZ.ret (tR hS hn F) fun I1 l1=>⟨_,rfl,F,.refl _, ?_,rfl⟩⟩⟩
 ·unfold PC.any;rw[any_none (by rw[hw];simpa using h) (by rw[hw];simpa using h2)]
 ·unfold PC.any;rw[tQ (.inr (by rw[hw];simpa using h2)),hw]
 ·unfold PC.any;rw[tQ (.inl (by rw[hw];simpa using h)),hw]
def PC.oneOf(c:PC)(ws:List ByteArray)(s:PS):Int×PS:=(c.any ws s,if c.any ws s<0 then c.c5 130 s else s.inc)
theorem pe(c:PC)(w:ByteArray)(s:PS):(c.take w s).2=(c.oneOf [w] s).2:=by
 unfold PC.take PC.oneOf PC.any PC.gG PC.gG
 split
 ·rw[if_neg (by decide)]
 ·rw[if_pos (by decide)]
theorem iy{ws:List ByteArray}(hl:c.Live s)(h:0≤c.any ws s):(c.tok s.next).kind≠0:=fun hk=>by
 have:c.any ws s = -1:=any_none (by rw[hl.now,hk];decide) (by rw[hl.now,hk];decide) ws 0
 omega
theorem eB(hc:c.Of t)(hl:c.Live s)(hk:(c.tok s.next).kind≠0)(hF:F.Perm (c.px t b s::F0)):cZ P 64 #[.pointer (some ⟨b,0,none⟩)] I F (db c t b Gt F0 ((),s.inc)):=by
 have hfr:mZ c.l 0 (s.next+1)=js (c.tok s.next):=rfl
 have hr:=hc.FE (i:=s.next+1) hl.2
 rw[hfr] at hr
 refine (zX hc.len hr.1 hr.2 hF).mono fun e I' G l h=>?_
 rcases hc.next hl.2 hk with h1 | ⟨h1,h2,h3⟩
 ·have ht:=hc.tk h1
  rw[hfr] at ht
  rw[ht] at h
  exact .inl ⟨⟨hl.1,h1⟩,_,[],h.1,⟨rfl,rfl⟩,h.2⟩
 ·rw[hfr] at h3
  rw[h3] at h
  rcases hl.inc hc hk with g | ⟨_,g⟩
  ·have:=g.2
   have h9:s.inc.next=s.next+1:=rfl
   omega
  ·exact .inr ⟨_,g,h⟩
theorem qI(hc:c.Of t)(hl:c.Live s){a:Option Addr}{n k:Nat}{ws:List ByteArray}(hS:Sl I 1 kH a n ws)(hn:n≤100)(hF:F.Perm (c.px t b s::F0)) :
  cZ P 66 #[.pointer (some ⟨b,0,none⟩),.slice a n k] I F (db c t b Gu F0 (c.oneOf ws s)):=by
 refine ia.vc ?_
 unfold ia.V
 refine cZ.ret (ix hl (.of hF) hS hn) fun I1 l1=>⟨_,rfl,F,.refl _,fun h=>?_,fun h=>?_⟩
 ·have h:=of_decide_eq_true h
  refine (fD (.of hF) 130).mono fun e I2 G l2 hf=>.inr ?_
  refine dt.pass hf fun e' hf'=>.inr ⟨_, ?_,hf'.tail hF⟩
  show c.dD _ (if c.any ws s<0 then c.c5 130 s else s.inc)
  rw[if_pos h];exact (hl.c5 (by decide)).2
 ·have h:=of_decide_eq_false h
  have hk:=iy (ws:=ws) hl (by omega)
  have e2:(c.oneOf ws s).2=s.inc:=if_neg h
  refine db.use (eB hc hl hk hF) (fun v H I2 G l2 hL hv hG=>.inl ?_) fun f e I2 G l2 hd hf=>.inr ?_
  ·obtain⟨rfl,rfl⟩:=hv
   exact⟨rfl,G,.refl _,.inl ⟨by rw[e2];exact hL,_,[],rfl,⟨rfl,rfl⟩,by rw[e2];exact hG⟩⟩
  ·exact dt.pass hf fun e' hf'=>.inr ⟨f,by rw[e2];exact hd,hf'⟩
theorem jC(hc:c.Of t)(hl:c.Live s)(hF:F.Perm (c.px t b s::F0)):cZ P 67 #[.pointer (some ⟨b,0,none⟩)] I F (db c t b Gv F0 (c.name s)):=by
 have hp:=eo.of (I:=I) hF
 have hw:=hl.now
 refine gM.vc ?_
 unfold gM.V
 refine⟨_,rfl,_,hp.rd.dR (p:=1) (q:=1) rfl,_,rfl,_,hp.rd.dR (p:=1) (q:=0) rfl,fun h=>?_,fun h=>?_⟩
 ·have h:(c.tok s.next).kind≠2:=by simpa using h
  refine (fD hp 130).mono fun e I2 G l2 hf=>.inr ?_
  refine dt.pass hf fun e' hf'=>.inr ⟨_, ?_,hf'.tail hF⟩
  unfold PC.name
  rw[hw,if_neg h];exact (hl.c5 (by decide)).2
 ·have h:(c.tok s.next).kind=2:=by simpa using h
  have e1:c.name s=((c.tok s.next).text,s.inc):=by unfold PC.name;rw[hw,if_pos h]
  rw[e1]
  refine db.use (eB hc hl (by rw[h];decide) hF) (fun v H I2 G l2 hL hv hG=>.inl ?_) fun f e I2 G l2 hd hf=>.inr ?_
  ·obtain⟨rfl,rfl⟩:=hv
   exact⟨rfl,G,.refl _,.inl ⟨hL,_,[],rfl,⟨rfl,rfl⟩,hG⟩⟩
  ·exact dt.pass hf fun e' hf'=>.inr ⟨f,hd,hf'⟩
theorem oj{k:Tok}{f:Int}(hp:eo I F t b k f){d:Int}(h0:0≤d)(h1:d≤24):cZ P 92 #[.pointer (some ⟨b,0,none⟩),.int .i64 d] I F fun e I' G=>(d<24∧e=.returned (.int .i64 (d+1))∧G=F)∨(d=24∧dt ⟨132,k.pos,false⟩ F e G):=by
 refine fJ.vc ?_
 unfold fJ.V
 rw[gU (n:=d+1) (by omega)]
 refine⟨fun h=>?_,fun h=>.inl ⟨?_,rfl,rfl⟩⟩
 ·have h:d=24:=by simpa using h
  refine (fD hp 132).mono fun e I2 G l2 hf=>.inr ?_
  exact dt.pass (I:=I2) (Q:=fun e I' G=>(d<24∧e=.returned (.int .i64 (d+1))∧G=F)∨(d=24∧dt ⟨132,k.pos,false⟩ F e G)) hf fun e' hf'=>.inr ⟨h,hf'⟩
 ·have h:d≠24:=by simpa using h
  omega
def rT(l:Int):List ByteArray:=if l=2 then Gi else if l=3 then El else if l=4 then jd else if l=5 then Ek else CU
def AX(l:Int):Int:=if l=2 then 18 else if l=3 then 17 else if l=4 then 11 else if l=5 then 6 else 8
theorem xQ(l:Int)(I:cS)(F:cR):cZ P 115 #[.int .i64 l] I F fun e I' G=>∃(a:Option Addr) (n k:Nat),e=.returned (.tuple #[.slice a n k,.int .u8 (AX l)])∧Sl I' 1 kH a n (rT l)∧n≤100∧G=F:=by
 refine lh.vc ?_
 unfold lh.V
 have key:∀{b:Nat} {I1:cS} {ws:List ByteArray} {cs:Array Value},I1 b=some (.cells cs 9 (0,0))→cs.toList=ws.flatMap kH→Sl I1 1 kH (some ⟨b,0,none⟩) ws.length ws:=fun hb hc=>Sl.jG (f:=kH) (z:=1) (fun _=>rfl) hb hc
 refine⟨fun h=>fun b I1 l1 hb=>?_,fun h2=>⟨fun h=>fun b I1 l1 hb=>?_,fun h3=>⟨fun h=>fun b I1 l1 hb=>?_,fun h4=>⟨fun h=>fun b I1 l1 hb=>?_,fun h5=>fun b I1 l1 hb=>?_⟩⟩⟩⟩
 ·have h:l=2:=by simpa using h
  subst h
  exact⟨_,_,_,rfl,key (ws:=Gi) hb rfl,by decide,rfl⟩
 ·have h:l=3:=by simpa using h
  subst h
  exact⟨_,_,_,rfl,key (ws:=El) hb rfl,by decide,rfl⟩
 ·have h:l=4:=by simpa using h
  subst h
  exact⟨_,_,_,rfl,key (ws:=jd) hb rfl,by decide,rfl⟩
 ·have h:l=5:=by simpa using h
  subst h
  exact⟨_,_,_,rfl,key (ws:=Ek) hb rfl,by decide,rfl⟩
 ·have e2:l≠2:=by simpa using h2
  have e3:l≠3:=by simpa using h3
  have e4:l≠4:=by simpa using h4
  have e5:l≠5:=by simpa using h5
  have hO:AX l=8:=by unfold AX;rw[if_neg e2,if_neg e3,if_neg e4,if_neg e5]
  have hW:rT l=CU:=by unfold rT;rw[if_neg e2,if_neg e3,if_neg e4,if_neg e5]
  rw[hO,hW]
  exact⟨_,_,_,rfl,key (ws:=CU) hb rfl,by decide,rfl⟩
end
end Go.Lx
namespace Go.Lx
open Go.Vc
theorem AY{t:ByteArray}{f:Int}{k:Tok}(h0:0≤f)(h1:f≤t.size)(h:fj t f=.ok k)(hk:k.kind=4):gE (bt k.text 0)=false:=by
 have ho:=fN (s:=t) h1
 unfold fj at h
 simp only at h
 split at h
 ·have:=TR.ok.inj h
  subst this
  exact absurd hk (by show ¬(0:Int)=4;decide)
 ·rename_i hne
  split at h
  ·obtain⟨E,e2,_,_,_,rfl⟩:=zL h
   exact absurd hk (by show ¬(3:Int)=4;decide)
  ·split at h
   ·unfold jQ at h
    simp only at h
    split at h
    ·cases h
    ·have:=TR.ok.inj h
     subst this
     simp only at hk
     split at hk<;>omega
   ·rename_i hs
    unfold jR at h
    split at h
    ·cases h
    ·rename_i hm
     have:=TR.ok.inj h
     subst this
     have hr:=jI t (dg t f)
     have hl:=nv (s:=t) (i:=dg t f) (by omega)
     show gE (bt (cut t (dg t f) (dg t f+eF t (dg t f))) 0)=false
     rw[mL (by omega) (Int.le_refl 0) (by omega) (by omega),Int.add_zero]
     simpa using hs
theorem za{x w:ByteArray}(h:gE (bt x 0)=false)(hw:gE (bt w 0)=true):(x.toList==w.toList)=false:=by
 rw[Bool.eq_false_iff]
 intro he
 have he:x.toList=w.toList:=by simpa using he
 have:x=w:=DD he
 rw[this,hw] at h;cases h
theorem wo{x y:List UInt8}(h:(x==y)=false):x≠y:=fun e=>by rw[e] at h;simp at h
def mQ:List ByteArray:=[(⟨#[102,97,108,115,101]⟩:ByteArray),(⟨#[116,114,117,101]⟩:ByteArray),(⟨#[98,117,121]⟩:ByteArray),(⟨#[115,101,108,108]⟩:ByteArray)]
def EJ(i:Int)(pos:Int):Px:=if i>1 then pW 6 (i-1) pos else pW 5 i pos
section
variable {c:PC} {t:ByteArray} {s:PS}
theorem wq(hl:c.Live s)(h:(c.tok s.next).kind=3):c.literal s=((pW (c.tok s.next).dH (c.tok s.next).n (c.tok s.next).pos,true),s.inc):=by
 unfold PC.literal;rw[hl.now,if_pos h]
theorem zY(hc:c.Of t)(hl:c.Live s)(h:(c.tok s.next).kind≠3):c.literal s=if c.any mQ s<0 then ((eU,false),s) else ((EJ (c.any mQ s) (c.tok s.next).pos,true),s.inc):=by
 have hn:=hl.now
 have hr:=hc.FE (Nat.le_of_lt hl.2)
 have hmk:=fun hk=>AY hr.1 hr.2 (hc.tk hl.2) hk
 have hw:∀w∈mQ,gE (bt w 0)=true:=by decide
 have hi:∀w∈mQ,c.ej w s=((c.tok s.next).text.toList==w.toList&&(c.tok s.next).kind==1):=fun w hwm=>by
  unfold PC.ej;rw[hn]
  by_cases h4:(c.tok s.next).kind=4
  ·rw[za (hmk h4) (hw w hwm)];rfl
  ·have:((c.tok s.next).kind==4)=false:=by simpa using h4
   rw[this,Bool.or_false]
 have ea:c.any mQ s=if (c.tok s.next).kind=1 then (if (c.tok s.next).text.toList=(⟨#[102,97,108,115,101]⟩:ByteArray).toList then 0 else if (c.tok s.next).text.toList=(⟨#[116,114,117,101]⟩:ByteArray).toList then 1 else if (c.tok s.next).text.toList=(⟨#[98,117,121]⟩:ByteArray).toList then 2 else if (c.tok s.next).text.toList=(⟨#[115,101,108,108]⟩:ByteArray).toList then 3 else -1) else -1:=by
  show c.gG s mQ 0=_
  unfold mQ
  rw[PC.gG,PC.gG,PC.gG,PC.gG,PC.gG,hi _ (.head _),hi _ (.tail _ (.head _)),hi _ (.tail _ (.tail _ (.head _))),hi _ (.tail _ (.tail _ (.tail _ (.head _))))]
  by_cases h1:(c.tok s.next).kind=1
  ·rw[if_pos h1]
   simp only[h1,Bool.and_eq_true,beq_iff_eq,and_true]
   rfl
  ·rw[if_neg h1]
   have:((c.tok s.next).kind==1)=false:=by simpa using h1
   simp only[this,Bool.and_false,Bool.false_eq_true,if_false]
 have d1:(⟨#[116,114,117,101]⟩:ByteArray).toList≠(⟨#[102,97,108,115,101]⟩:ByteArray).toList:=wo (by kernel_rfl)
 have d2:(⟨#[98,117,121]⟩:ByteArray).toList≠(⟨#[115,101,108,108]⟩:ByteArray).toList:=wo (by kernel_rfl)
 have d3:(⟨#[102,97,108,115,101]⟩:ByteArray).toList≠(⟨#[116,114,117,101]⟩:ByteArray).toList:=wo (by kernel_rfl)
 have d4:(⟨#[115,101,108,108]⟩:ByteArray).toList≠(⟨#[98,117,121]⟩:ByteArray).toList:=wo (by kernel_rfl)
 unfold PC.literal
 rw[hn,if_neg h,ea]
 generalize (c.tok s.next).text.toList=x
 by_cases h1:(c.tok s.next).kind=1
 ·rw[if_pos h1]
  by_cases x0:x=(⟨#[102,97,108,115,101]⟩:ByteArray).toList
  ·subst x0
   rw[if_pos rfl,if_pos ⟨h1,.inr rfl⟩,if_neg d3,if_neg (by decide)];rfl
  ·rw[if_neg x0]
   by_cases x1:x=(⟨#[116,114,117,101]⟩:ByteArray).toList
   ·subst x1
    rw[if_pos rfl,if_pos ⟨h1,.inl rfl⟩,if_pos rfl,if_neg (by decide)];rfl
   ·rw[if_neg x1,if_neg (by rintro ⟨_,h | h⟩;exact x1 h;exact x0 h)]
    by_cases x2:x=(⟨#[98,117,121]⟩:ByteArray).toList
    ·subst x2
     rw[if_pos rfl,if_pos ⟨h1,.inl rfl⟩,if_neg d2,if_neg x1,if_neg (by decide)];rfl
    ·rw[if_neg x2]
     by_cases x3:x=(⟨#[115,101,108,108]⟩:ByteArray).toList
     ·subst x3
      rw[if_pos rfl,if_pos ⟨h1,.inr rfl⟩,if_pos rfl,if_neg x1,if_neg (by decide)];rfl
     ·rw[if_neg (by rintro ⟨_,h | h⟩;exact x2 h;exact x3 h),if_neg x1,if_neg x3,if_pos (by decide)]
 ·rw[if_neg h1,if_neg (fun h=>h1 h.1),if_neg (fun h=>h1 h.1),if_pos (by decide)]
def Gw(x:Px×Bool)(v:Value)(H:cR):Prop:=∃n:Nd,v=.tuple #[n.v,.bool x.2]∧n.px=x.1∧eH 64 false n H∧H=[]
theorem eH.leaf{k o ty n f p:Int}{w:ByteArray}:eH 64 false (.mk k o ty n f w none 0 [] p) [] :=
 .mk (t:=.mk k o ty n f w none 0 [] p) (hs:=fun _=>[]) Acc.nil (fun h=>by cases h) fun i k h=>by simp[Nd.kids] at h
theorem pf(hc:c.Of t)(hl:c.Live s){b:Nat}{I:cS}{F F0:cR}(hF:F.Perm (c.px t b s::F0)):cZ P 105 #[.pointer (some ⟨b,0,none⟩)] I F (db c t b Gw F0 (c.literal s)):=by
 have hp:=eo.of (I:=I) hF
 refine fC.vc ?_
 unfold fC.V
 intro b0
 refine⟨_,rfl,_,(hp.mono (cS.le_refl I) fun x hx=>.tail _ hx).rd.dR (p:=1) (q:=4) rfl,fun bn=>⟨_,rfl,_,(hp.mono (cS.le_refl I) fun x hx=>.tail _ (.tail _ hx)).rd.dR (p:=1) (q:=0) rfl,fun h=>?_,fun h=>?_⟩⟩
 ·have h:(c.tok s.next).kind=3:=by simpa using h
  have e1:=wq hl h
  refine⟨_,rfl,_,(hp.mono (cS.le_refl I) fun x hx=>.tail _ (.tail _ hx)).rd.dR (p:=1) (q:=2) rfl,_,rfl,_,hp.rd.dR (p:=1) (q:=3) rfl, ?_⟩
  refine db.use (eB hc hl (by rw[h];decide) (gI hF)) (fun v H I2 G l2 hL hv hG=>.inl ?_) fun f e I2 G l2 hd hf=>.inr ?_
  ·obtain⟨rfl,rfl⟩:=hv
   exact⟨rfl,c.px t b s.inc::F0,hG.trans (cU fun z=>by simp only[cV,cY,c6];omega),.inl ⟨by rw[e1];exact hL,_,[],rfl,by rw[e1];exact⟨.mk 1 0 (c.tok s.next).dH (c.tok s.next).n 0 ⟨#[]⟩ none 0 [] (c.tok s.next).pos,rfl,by simp only[Nd.px,Nd.xp];rfl,eH.leaf,rfl⟩,by rw[e1];exact .refl _⟩⟩
  ·exact dt.dJ [_,_] hf fun e' G' hf'=>.inr ⟨f,by rw[e1];exact hd,hf'⟩
 ·have h:(c.tok s.next).kind≠3:=by simpa using h
  have e1:=zY hc hl h
  intro b1 I2 l2 hb1
  have hS:Sl I2 1 kH (some ⟨b1,0,none⟩) 4 mQ:=Sl.jG (f:=kH) (z:=1) (l:=mQ) (fun _=>rfl) hb1 rfl
  refine cZ.ret (ix hl (hp.mono l2 fun x hx=>.tail _ (.tail _ hx)) hS (by decide)) fun I3 l3=>⟨_,rfl,F,.refl _,fun hi=>?_,fun hi=>?_⟩
  ·have hi:=of_decide_eq_true hi
   rw[if_pos hi] at e1
   exact .inl ⟨by rw[e1];exact hl,_,[],rfl,by rw[e1];exact⟨kY,rfl,by simp only[kY,Nd.px,Nd.xp];rfl,eH.leaf,rfl⟩,by rw[e1];exact hF⟩
  ·have hi:=of_decide_eq_false hi
   rw[if_neg hi] at e1
   have hk:=iy (ws:=mQ) hl (by omega)
   have hlt:=(dB (c:=c) (s:=s) (ws:=mQ) (by omega)).2
   have hlt:c.any mQ s<4:=hlt
   refine⟨fun h2=>?_,fun h2=>?_⟩
   ·have h2:=of_decide_eq_true h2
    rw[gU (n:=c.any mQ s-1) (by omega)]
    have e3:EJ (c.any mQ s) (c.tok s.next).pos=pW 6 (c.any mQ s-1) (c.tok s.next).pos:=if_pos h2
    refine db.use (eB hc hl hk (gI hF)) (fun v H I4 G l4 hL hv hG=>.inl ?_) fun f e I4 G l4 hd hf=>.inr ?_
    ·obtain⟨rfl,rfl⟩:=hv
     exact⟨rfl,c.px t b s.inc::F0,hG.trans (cU fun z=>by simp only[cV,cY,c6];omega),.inl ⟨by rw[e1];exact hL,_,[],rfl,by rw[e1,e3];exact⟨.mk 1 0 6 (c.any mQ s-1) 0 ⟨#[]⟩ none 0 [] (c.tok s.next).pos,rfl,by simp only[Nd.px,Nd.xp];rfl,eH.leaf,rfl⟩,by rw[e1];exact .refl _⟩⟩
    ·exact dt.dJ [_,_] hf fun e' G' hf'=>.inr ⟨f,by rw[e1];exact hd,hf'⟩
   ·have h2:=of_decide_eq_false h2
    have e3:EJ (c.any mQ s) (c.tok s.next).pos=pW 5 (c.any mQ s) (c.tok s.next).pos:=if_neg h2
    refine db.use (eB hc hl hk (gI hF)) (fun v H I4 G l4 hL hv hG=>.inl ?_) fun f e I4 G l4 hd hf=>.inr ?_
    ·obtain⟨rfl,rfl⟩:=hv
     exact⟨rfl,c.px t b s.inc::F0,hG.trans (cU fun z=>by simp only[cV,cY,c6];omega),.inl ⟨by rw[e1];exact hL,_,[],rfl,by rw[e1,e3];exact⟨.mk 1 0 5 (c.any mQ s) 0 ⟨#[]⟩ none 0 [] (c.tok s.next).pos,rfl,by simp only[Nd.px,Nd.xp];rfl,eH.leaf,rfl⟩,by rw[e1];exact .refl _⟩⟩
    ·exact dt.dJ [_,_] hf fun e' G' hf'=>.inr ⟨f,by rw[e1];exact hd,hf'⟩
end
end Go.Lx
namespace Go.Lx
open Go.Vc Go.Proofs.Tryz
def qJ:List (Nat×List Sh):=[(0,[]),(3,[.one (.int .i64)]),(4,[.one .bool]),(9,[.one .str]),(62,[.one .slc]),(64,[.agg [(.int .u8),(.int .u8),(.int .u8),(.int .i64),(.int .u8),.str,.slc,(.int .i64)]]),(74,[.one (.int .u8)]),(92,[.one .ptr]),(208,[.agg [(.int .u8),(.int .u8),(.int .u8),(.int .i64),(.int .u8),.str,.slc,(.int .i64)],.one .bool]),(219,[.one .slc,.one (.int .u8)])]
def ib.V(al ah:Nat→Nat×Obj)(nV:Int→Int→Int→Int→Int→Bs→OA→Nat→Nat→Int→Value)(nO:Int→Int→Int→Int→Int→Bs→OA→Nat→Nat→Int→Obj)(vb vi:Int→Value)(vs:Bs→Value)(vl:OA→Nat→Nat→Value)(vp:OA→Value)(wr:Int→Int)(p:Addr)(aj d:Int)(I:cS)(F:cR)(Q:cW)(Inv18:Int→OA→Int→Int→Int→Int→Int→Int→Bs→OA→Nat→Nat→Int→Nat→cS→cR→Prop):Prop:=∀w:Nat,∀a:Nat,∀b:Nat,(Dt (aj<6) (ni P 115 #[vi aj] I ((al w)::(ah a)::(b,nO 0 0 0 0 0 (⟨#[]⟩:Bs) none 0 0 0)::·) F fun e1 I1 G1=>∃(aJ:OA) (aK aL:Nat) (r1:Int),e1=.returned (.tuple #[vl aJ aK aL,vb r1])∧G1 fun F1=>cZ P 114 (#[vi d,vp (some ⟨w,0,none⟩),vp (some ⟨a,0,none⟩)]) I1 ((al w)::(ah a)::(b,nO 0 0 0 0 0 (⟨#[]⟩:Bs) none 0 0 0)::F1) fun e2 I2 G2=>((∃(br bs bt bu bv:Int) (bw:Bs) (aM:OA) (aN aO:Nat) (bx:Int),e2=.returned (nV br bs bt bu bv bw aM aN aO bx)∧∃(aP:OA) (am:Int),∃F2:cR,List.Perm G2 ((w,Obj.cells #[vp aP] 92 (0,0))::(a,Obj.cells #[vi am] 3 (0,0))::(b,nO 0 0 0 0 0 (⟨#[]⟩:Bs) none 0 0 0)::F2)∧∀ai:Nat,(∃m:Nat,Inv18 0 aP am br bs bt bu bv bw aM aN aO bx m I2 F2)∧∀(an:Int) (x:OA) (e y z aa ab ac:Int) (ae:Bs) (i:OA) (j k:Nat) (af:Int) (m1:Nat) (I3:cS) (F3:cR),cS.le I2 I3→Inv18 an x e y z aa ab ac ae i j k af m1 I3 F3→(It (e != 4) (jW P 104 #[vp x,vl aJ aK aL] I3 ((w,Obj.cells #[vp x] 92 (0,0))::(a,Obj.cells #[vi e] 3 (0,0))::(b,nO 0 0 0 0 0 (⟨#[]⟩:Bs) none 0 0 0)::(ai,nO y z aa ab ac ae i j k af)::·) F3 vi fun r I4 F4=>(Dt (r<0) (Q (.returned (nV y z aa ab ac ae i j k af)) I4 F4) (∃ad:Addr,x=some ad∧∃(m2:Int),Rd I4 ((w,Obj.cells #[vp x] 92 (0,0))::(a,Obj.cells #[vi e] 3 (0,0))::(b,nO 0 0 0 0 0 (⟨#[]⟩:Bs) none 0 0 0)::(ai,nO y z aa ab ac ae i j k af)::F4) ((ad.add 1).add 4) [vi m2]∧cZ P 64 #[vp x] I4 ((w,Obj.cells #[vp x] 92 (0,0))::(a,Obj.cells #[vi e] 3 (0,0))::(b,nO 0 0 0 0 0 (⟨#[]⟩:Bs) none 0 0 0)::(ai,nO y z aa ab ac ae i j k af)::F4) fun e4 I5 G4=>((e4=.returned (.tuple #[])∧∃F5:cR,List.Perm G4 ((w,Obj.cells #[vp x] 92 (0,0))::(a,Obj.cells #[vi e] 3 (0,0))::(b,nO 0 0 0 0 0 (⟨#[]⟩:Bs) none 0 0 0)::(ai,nO y z aa ab ac ae i j k af)::F5)∧cZ P 114 (#[vi d,vp (some ⟨w,0,none⟩),vp (some ⟨a,0,none⟩)]) I5 ((w,Obj.cells #[vp x] 92 (0,0))::(a,Obj.cells #[vi e] 3 (0,0))::(b,nO 0 0 0 0 0 (⟨#[]⟩:Bs) none 0 0 0)::(ai,nO y z aa ab ac ae i j k af)::F5) fun e5 I6 G5=>((∃(aQ aR aS aT aU:Int) (aV:Bs) (au:OA) (av aw:Nat) (aW:Int),e5=.returned (nV aQ aR aS aT aU aV au av aw aW)∧∃F6:cR,List.Perm G5 ((w,Obj.cells #[vp x] 92 (0,0))::(a,Obj.cells #[vi e] 3 (0,0))::(b,nO 0 0 0 0 0 (⟨#[]⟩:Bs) none 0 0 0)::(ai,nO y z aa ab ac ae i j k af)::F6)∧∀b1:Nat,(∃m3:Nat,m3<m1∧Inv18 (wr (an+1)) x e 6 (IntKind.wrap .u8 (r1+(IntKind.wrap .u8 r))) 0 0 0 (⟨#[]⟩:Bs) (some ⟨b1,0,none⟩) 2 2 m2 m3 I6 ((b1,Obj.cells #[vb y,vb z,vb aa,vi ab,vb ac,vs ae,vl i j k,vi af,vb aQ,vb aR,vb aS,vi aT,vb aU,vs aV,vl au av aw,vi aW] 64 (0,0))::F6)))∨(∃ch:List PanicEntry,e5=.panicked ch∧∃F7:cR,List.Perm G5 ((w,Obj.cells #[vp x] 92 (0,0))::(a,Obj.cells #[vi e] 3 (0,0))::(b,nO 0 0 0 0 0 (⟨#[]⟩:Bs) none 0 0 0)::(ai,nO y z aa ab ac ae i j k af)::F7)∧Q (.panicked ch) I6 F7)))∨(∃bA:List PanicEntry,e4=.panicked bA∧∃F8:cR,List.Perm G4 ((w,Obj.cells #[vp x] 92 (0,0))::(a,Obj.cells #[vi e] 3 (0,0))::(b,nO 0 0 0 0 0 (⟨#[]⟩:Bs) none 0 0 0)::(ai,nO y z aa ab ac ae i j k af)::F8)∧Q (.panicked bA) I5 F8))))) (It (an==0) (jW P 104 #[vp x,vl aJ aK aL] I3 ((w,Obj.cells #[vp x] 92 (0,0))::(a,Obj.cells #[vi e] 3 (0,0))::(b,nO 0 0 0 0 0 (⟨#[]⟩:Bs) none 0 0 0)::(ai,nO y z aa ab ac ae i j k af)::·) F3 vi fun r2 I7 F9=>(Dt (r2<0) (Q (.returned (nV y z aa ab ac ae i j k af)) I7 F9) (∃bB:Addr,x=some bB∧∃(m4:Int),Rd I7 ((w,Obj.cells #[vp x] 92 (0,0))::(a,Obj.cells #[vi e] 3 (0,0))::(b,nO 0 0 0 0 0 (⟨#[]⟩:Bs) none 0 0 0)::(ai,nO y z aa ab ac ae i j k af)::F9) ((bB.add 1).add 4) [vi m4]∧cZ P 64 #[vp x] I7 ((w,Obj.cells #[vp x] 92 (0,0))::(a,Obj.cells #[vi e] 3 (0,0))::(b,nO 0 0 0 0 0 (⟨#[]⟩:Bs) none 0 0 0)::(ai,nO y z aa ab ac ae i j k af)::F9) fun e7 I8 G7=>((e7=.returned (.tuple #[])∧∃F10:cR,List.Perm G7 ((w,Obj.cells #[vp x] 92 (0,0))::(a,Obj.cells #[vi e] 3 (0,0))::(b,nO 0 0 0 0 0 (⟨#[]⟩:Bs) none 0 0 0)::(ai,nO y z aa ab ac ae i j k af)::F10)∧cZ P 114 (#[vi d,vp (some ⟨w,0,none⟩),vp (some ⟨a,0,none⟩)]) I8 ((w,Obj.cells #[vp x] 92 (0,0))::(a,Obj.cells #[vi e] 3 (0,0))::(b,nO 0 0 0 0 0 (⟨#[]⟩:Bs) none 0 0 0)::(ai,nO y z aa ab ac ae i j k af)::F10) fun e8 I9 G8=>((∃(aX aY aZ a0 a1:Int) (a2:Bs) (ax:OA) (ay az:Nat) (a3:Int),e8=.returned (nV aX aY aZ a0 a1 a2 ax ay az a3)∧∃F11:cR,List.Perm G8 ((w,Obj.cells #[vp x] 92 (0,0))::(a,Obj.cells #[vi e] 3 (0,0))::(b,nO 0 0 0 0 0 (⟨#[]⟩:Bs) none 0 0 0)::(ai,nO y z aa ab ac ae i j k af)::F11)∧∀b2:Nat,(∃m5:Nat,m5<m1∧Inv18 (wr (an+1)) x e 6 (IntKind.wrap .u8 (r1+(IntKind.wrap .u8 r2))) 0 0 0 (⟨#[]⟩:Bs) (some ⟨b2,0,none⟩) 2 2 m4 m5 I9 ((b2,Obj.cells #[vb y,vb z,vb aa,vi ab,vb ac,vs ae,vl i j k,vi af,vb aX,vb aY,vb aZ,vi a0,vb a1,vs a2,vl ax ay az,vi a3] 64 (0,0))::F11)))∨(∃bC:List PanicEntry,e8=.panicked bC∧∃F12:cR,List.Perm G8 ((w,Obj.cells #[vp x] 92 (0,0))::(a,Obj.cells #[vi e] 3 (0,0))::(b,nO 0 0 0 0 0 (⟨#[]⟩:Bs) none 0 0 0)::(ai,nO y z aa ab ac ae i j k af)::F12)∧Q (.panicked bC) I9 F12)))∨(∃bD:List PanicEntry,e7=.panicked bD∧∃F13:cR,List.Perm G7 ((w,Obj.cells #[vp x] 92 (0,0))::(a,Obj.cells #[vi e] 3 (0,0))::(b,nO 0 0 0 0 0 (⟨#[]⟩:Bs) none 0 0 0)::(ai,nO y z aa ab ac ae i j k af)::F13)∧Q (.panicked bD) I8 F13))))) (Q (.returned (nV y z aa ab ac ae i j k af)) I3 F3))))∨(∃bE:List PanicEntry,e2=.panicked bE∧∃(a4:OA) (ao:Int),∃F14:cR,List.Perm G2 ((w,Obj.cells #[vp a4] 92 (0,0))::(a,Obj.cells #[vi ao] 3 (0,0))::(b,nO 0 0 0 0 0 (⟨#[]⟩:Bs) none 0 0 0)::F14)∧Q (.panicked bE) I2 F14))) (ni P 115 #[vi aj] I ((al w)::(ah a)::(b,nO 0 0 0 0 0 (⟨#[]⟩:Bs) none 0 0 0)::·) F fun e9 I10 G9=>∃(ap:OA) (aq ar:Nat) (a5:Int),e9=.returned (.tuple #[vl ap aq ar,vb a5])∧G9 fun F15=>cZ P 113 (#[vp (some p),vi d]) I10 ((al w)::(ah a)::(b,nO 0 0 0 0 0 (⟨#[]⟩:Bs) none 0 0 0)::F15) fun bN I11 G10=>((∃(a6 a7 a8 a9 ba:Int) (bb:Bs) (aA:OA) (aB aC:Nat) (bc:Int),bN=.returned (nV a6 a7 a8 a9 ba bb aA aB aC bc)∧∃F16:cR,List.Perm G10 ((al w)::(ah a)::(b,nO 0 0 0 0 0 (⟨#[]⟩:Bs) none 0 0 0)::F16)∧∀ag:Nat,(∃m6:Nat,Inv18 0 (some p) aj a6 a7 a8 a9 ba bb aA aB aC bc m6 I11 F16)∧∀(ak:Int) (l:OA) (c n o q s t:Int) (u:Bs) (f:OA) (g h:Nat) (v:Int) (m7:Nat) (I12:cS) (F17:cR),cS.le I11 I12→Inv18 ak l c n o q s t u f g h v m7 I12 F17→(It (c != 4) (jW P 104 #[vp l,vl ap aq ar] I12 ((w,Obj.cells #[vp l] 92 (0,0))::(a,Obj.cells #[vi c] 3 (0,0))::(b,nO 0 0 0 0 0 (⟨#[]⟩:Bs) none 0 0 0)::(ag,nO n o q s t u f g h v)::·) F17 vi fun r3 I13 F18=>(Dt (r3<0) (Q (.returned (nV n o q s t u f g h v)) I13 F18) (∃bF:Addr,l=some bF∧∃(m8:Int),Rd I13 ((w,Obj.cells #[vp l] 92 (0,0))::(a,Obj.cells #[vi c] 3 (0,0))::(b,nO 0 0 0 0 0 (⟨#[]⟩:Bs) none 0 0 0)::(ag,nO n o q s t u f g h v)::F18) ((bF.add 1).add 4) [vi m8]∧cZ P 64 #[vp l] I13 ((w,Obj.cells #[vp l] 92 (0,0))::(a,Obj.cells #[vi c] 3 (0,0))::(b,nO 0 0 0 0 0 (⟨#[]⟩:Bs) none 0 0 0)::(ag,nO n o q s t u f g h v)::F18) fun bO I14 G12=>((bO=.returned (.tuple #[])∧∃F19:cR,List.Perm G12 ((w,Obj.cells #[vp l] 92 (0,0))::(a,Obj.cells #[vi c] 3 (0,0))::(b,nO 0 0 0 0 0 (⟨#[]⟩:Bs) none 0 0 0)::(ag,nO n o q s t u f g h v)::F19)∧cZ P 113 (#[vp (some p),vi d]) I14 ((w,Obj.cells #[vp l] 92 (0,0))::(a,Obj.cells #[vi c] 3 (0,0))::(b,nO 0 0 0 0 0 (⟨#[]⟩:Bs) none 0 0 0)::(ag,nO n o q s t u f g h v)::F19) fun bP I15 G13=>((∃(bd be bf bg bh:Int) (bi:Bs) (aD:OA) (aE aF:Nat) (bj:Int),bP=.returned (nV bd be bf bg bh bi aD aE aF bj)∧∃F20:cR,List.Perm G13 ((w,Obj.cells #[vp l] 92 (0,0))::(a,Obj.cells #[vi c] 3 (0,0))::(b,nO 0 0 0 0 0 (⟨#[]⟩:Bs) none 0 0 0)::(ag,nO n o q s t u f g h v)::F20)∧∀b3:Nat,(∃m9:Nat,m9<m7∧Inv18 (wr (ak+1)) l c 6 (IntKind.wrap .u8 (a5+(IntKind.wrap .u8 r3))) 0 0 0 (⟨#[]⟩:Bs) (some ⟨b3,0,none⟩) 2 2 m8 m9 I15 ((b3,Obj.cells #[vb n,vb o,vb q,vi s,vb t,vs u,vl f g h,vi v,vb bd,vb be,vb bf,vi bg,vb bh,vs bi,vl aD aE aF,vi bj] 64 (0,0))::F20)))∨(∃bG:List PanicEntry,bP=.panicked bG∧∃F21:cR,List.Perm G13 ((w,Obj.cells #[vp l] 92 (0,0))::(a,Obj.cells #[vi c] 3 (0,0))::(b,nO 0 0 0 0 0 (⟨#[]⟩:Bs) none 0 0 0)::(ag,nO n o q s t u f g h v)::F21)∧Q (.panicked bG) I15 F21)))∨(∃bH:List PanicEntry,bO=.panicked bH∧∃F22:cR,List.Perm G12 ((w,Obj.cells #[vp l] 92 (0,0))::(a,Obj.cells #[vi c] 3 (0,0))::(b,nO 0 0 0 0 0 (⟨#[]⟩:Bs) none 0 0 0)::(ag,nO n o q s t u f g h v)::F22)∧Q (.panicked bH) I14 F22))))) (It (ak==0) (jW P 104 #[vp l,vl ap aq ar] I12 ((w,Obj.cells #[vp l] 92 (0,0))::(a,Obj.cells #[vi c] 3 (0,0))::(b,nO 0 0 0 0 0 (⟨#[]⟩:Bs) none 0 0 0)::(ag,nO n o q s t u f g h v)::·) F17 vi fun r4 I16 F23=>(Dt (r4<0) (Q (.returned (nV n o q s t u f g h v)) I16 F23) (∃bI:Addr,l=some bI∧∃(bz:Int),Rd I16 ((w,Obj.cells #[vp l] 92 (0,0))::(a,Obj.cells #[vi c] 3 (0,0))::(b,nO 0 0 0 0 0 (⟨#[]⟩:Bs) none 0 0 0)::(ag,nO n o q s t u f g h v)::F23) ((bI.add 1).add 4) [vi bz]∧cZ P 64 #[vp l] I16 ((w,Obj.cells #[vp l] 92 (0,0))::(a,Obj.cells #[vi c] 3 (0,0))::(b,nO 0 0 0 0 0 (⟨#[]⟩:Bs) none 0 0 0)::(ag,nO n o q s t u f g h v)::F23) fun bQ I17 G15=>((bQ=.returned (.tuple #[])∧∃F24:cR,List.Perm G15 ((w,Obj.cells #[vp l] 92 (0,0))::(a,Obj.cells #[vi c] 3 (0,0))::(b,nO 0 0 0 0 0 (⟨#[]⟩:Bs) none 0 0 0)::(ag,nO n o q s t u f g h v)::F24)∧cZ P 113 (#[vp (some p),vi d]) I17 ((w,Obj.cells #[vp l] 92 (0,0))::(a,Obj.cells #[vi c] 3 (0,0))::(b,nO 0 0 0 0 0 (⟨#[]⟩:Bs) none 0 0 0)::(ag,nO n o q s t u f g h v)::F24) fun bR I18 G16=>((∃(bk bl bm bn bo:Int) (bp:Bs) (aG:OA) (aH aI:Nat) (bq:Int),bR=.returned (nV bk bl bm bn bo bp aG aH aI bq)∧∃F25:cR,List.Perm G16 ((w,Obj.cells #[vp l] 92 (0,0))::(a,Obj.cells #[vi c] 3 (0,0))::(b,nO 0 0 0 0 0 (⟨#[]⟩:Bs) none 0 0 0)::(ag,nO n o q s t u f g h v)::F25)∧∀b4:Nat,(∃bJ:Nat,bJ<m7∧Inv18 (wr (ak+1)) l c 6 (IntKind.wrap .u8 (a5+(IntKind.wrap .u8 r4))) 0 0 0 (⟨#[]⟩:Bs) (some ⟨b4,0,none⟩) 2 2 bz bJ I18 ((b4,Obj.cells #[vb n,vb o,vb q,vi s,vb t,vs u,vl f g h,vi v,vb bk,vb bl,vb bm,vi bn,vb bo,vs bp,vl aG aH aI,vi bq] 64 (0,0))::F25)))∨(∃bK:List PanicEntry,bR=.panicked bK∧∃F26:cR,List.Perm G16 ((w,Obj.cells #[vp l] 92 (0,0))::(a,Obj.cells #[vi c] 3 (0,0))::(b,nO 0 0 0 0 0 (⟨#[]⟩:Bs) none 0 0 0)::(ag,nO n o q s t u f g h v)::F26)∧Q (.panicked bK) I18 F26)))∨(∃bL:List PanicEntry,bQ=.panicked bL∧∃F27:cR,List.Perm G15 ((w,Obj.cells #[vp l] 92 (0,0))::(a,Obj.cells #[vi c] 3 (0,0))::(b,nO 0 0 0 0 0 (⟨#[]⟩:Bs) none 0 0 0)::(ag,nO n o q s t u f g h v)::F27)∧Q (.panicked bL) I17 F27))))) (Q (.returned (nV n o q s t u f g h v)) I12 F17))))∨(∃bM:List PanicEntry,bN=.panicked bM∧∃F28:cR,List.Perm G10 ((al w)::(ah a)::(b,nO 0 0 0 0 0 (⟨#[]⟩:Bs) none 0 0 0)::F28)∧Q (.panicked bM) I11 F28))))
theorem ib.vc{p:Addr}{e d:Int}{I:cS}{F:cR}{Q:cW}(Inv18:Int→OA→Int→Int→Int→Int→Int→Int→Bs→OA→Nat→Nat→Int→Nat→cS→cR→Prop)(h:ib.V (fun b=>(b,Obj.cells #[.pointer (some p)] 92 (0,0))) (fun b=>(b,Obj.cells #[.int .i64 e] 3 (0,0))) (fun k o t n f s a l c q=>.agg #[.int .u8 k,.int .u8 o,.int .u8 t,.int .i64 n,.int .u8 f,.string s,.slice a l c,.int .i64 q]) (fun k o t n f s a l c q=>.cells #[.int .u8 k,.int .u8 o,.int .u8 t,.int .i64 n,.int .u8 f,.string s,.slice a l c,.int .i64 q] 64 (0,0)) (.int .u8) (.int .i64) .string .slice .pointer (IntKind.wrap .i64) p e d I F Q Inv18):cZ P 90 #[.pointer (some p),.int .i64 e,.int .i64 d] I F Q :=
 tw (A:=(fa [2001,7001,7004,10001] [64,113,114] [64,104,113,114,115] qJ [(18,⟨[(11,(.int .i64))],[(0,[.ptr]),(1,[(.int .i64)]),(3,[(.int .u8),(.int .u8),(.int .u8),(.int .i64),(.int .u8),.str,.slc,(.int .i64)])],fun _ _ _ vs m I F=>match vs with | [.int _ y0,.pointer y1,.int _ y2,.int _ y3,.int _ y4,.int _ y5,.int _ y6,.int _ y7,.string y8,.slice y9 y10 y11,.int _ y12]=>Inv18 y0 y1 y2 y3 y4 y5 y6 y7 y8 y9 y10 y11 y12 m I F | _=>False,[],[]⟩)] [] [13008] [] [] [(13,[0,1,2,3,5,6,9,4,7,8,10,11])] [] [] [(13,[4],11)])) [64,104,113,114,115] func90 h
def gy.V(nV:Int→Int→Int→Int→Int→Bs→OA→Nat→Nat→Int→Value)(nO:Int→Int→Int→Int→Int→Bs→OA→Nat→Nat→Int→Obj)(d:Int)(c c1:Addr)(I:cS)(F:cR)(Q:cW)  : Prop:=∀b:Nat,∃(m:OA),Rd I ((b,nO 0 0 0 0 0 (⟨#[]⟩:Bs) none 0 0 0)::F) c [.pointer m]∧∃(m1:Int),Rd I ((b,nO 0 0 0 0 0 (⟨#[]⟩:Bs) none 0 0 0)::F) c1 [.int .i64 m1]∧cZ P 90 (#[.pointer m,.int .i64 (IntKind.wrap .i64 (m1+1)),.int .i64 d]) I ((b,nO 0 0 0 0 0 (⟨#[]⟩:Bs) none 0 0 0)::F) fun e1 I1 G1=>((∃(g h i j k:Int) (l:Bs) (a:OA) (e f:Nat) (n:Int),e1=.returned (nV g h i j k l a e f n)∧∃F1:cR,List.Perm G1 ((b,nO 0 0 0 0 0 (⟨#[]⟩:Bs) none 0 0 0)::F1)∧Q (.returned (nV g h i j k l a e f n)) I1 F1)∨(∃ch:List PanicEntry,e1=.panicked ch∧∃F2:cR,List.Perm G1 ((b,nO 0 0 0 0 0 (⟨#[]⟩:Bs) none 0 0 0)::F2)∧Q (.panicked ch) I1 F2))
theorem gy.vc{d:Int}{c c1:Addr}{I:cS}{F:cR}{Q:cW}  (h:gy.V (fun k o t n f s a l c q=>.agg #[.int .u8 k,.int .u8 o,.int .u8 t,.int .i64 n,.int .u8 f,.string s,.slice a l c,.int .i64 q]) (fun k o t n f s a l c q=>.cells #[.int .u8 k,.int .u8 o,.int .u8 t,.int .i64 n,.int .u8 f,.string s,.slice a l c,.int .i64 q] 64 (0,0)) d c c1 I F Q):cZ P 114 #[.int .i64 d,.pointer (some c),.pointer (some c1)] I F Q :=
 tw (A:=(fa [] [90] [90] qJ [] [] [] [] [] [] [])) [90] func114 h
def gN.V(nV:Int→Int→Int→Int→Int→Bs→OA→Nat→Nat→Int→Value)(nO:Int→Int→Int→Int→Int→Bs→OA→Nat→Nat→Int→Obj)(vb vi:Int→Value)(vs:Bs→Value)(vl:OA→Nat→Nat→Value)(vp:OA→Value)(p:Addr)(d:Int)(I:cS)(F:cR)(Q:cW)  : Prop:=∀b:Nat,cZ P 90 (#[vp (some p),vi 2,vi d]) I ((b,nO 0 0 0 0 0 (⟨#[]⟩:Bs) none 0 0 0)::F) fun e1 I1 G1=>((∃(f g h i j:Int) (k:Bs) (a:OA) (c e:Nat) (l:Int),e1=.returned (nV f g h i j k a c e l)∧∃F1:cR,List.Perm G1 ((b,nO 0 0 0 0 0 (⟨#[]⟩:Bs) none 0 0 0)::F1)∧∀s:Nat,jW P 91 (#[vp (some p),vs (⟨#[63]⟩:Bs)]) I1 ((b,nO 0 0 0 0 0 (⟨#[]⟩:Bs) none 0 0 0)::(s,nO f g h i j k a c e l)::·) F1 .bool fun r I2 F2=>(It (!r) (Q (.returned (nV f g h i j k a c e l)) I2 F2) (∃(hb:Nat) (ho:Obj) (F3:cR),List.Perm F2 ((hb,ho)::F3)∧∃ad:Addr,some p=some ad∧∃(m:Int),Rd (cS.put I2 hb ho) ([]) ((ad.add 1).add 4) [vi m]∧cZ P 92 (#[vp (some p),vi d]) (cS.put I2 hb ho) ((b,nO 0 0 0 0 0 (⟨#[]⟩:Bs) none 0 0 0)::(s,nO f g h i j k a c e l)::F3) fun e3 I3 G3=>((∃(r1:Int),e3=.returned (vi r1)∧∃F4:cR,List.Perm G3 ((b,nO 0 0 0 0 0 (⟨#[]⟩:Bs) none 0 0 0)::(s,nO f g h i j k a c e l)::F4)∧cZ P 64 (#[vp (some p)]) (cS.del I3 hb) ((b,nO 0 0 0 0 0 (⟨#[]⟩:Bs) none 0 0 0)::(s,nO f g h i j k a c e l)::((hb,ho)::F4)) fun e4 I4 G4=>((e4=.returned (.tuple #[])∧∃F5:cR,List.Perm G4 ((b,nO 0 0 0 0 0 (⟨#[]⟩:Bs) none 0 0 0)::(s,nO f g h i j k a c e l)::F5)∧cZ P 47 (#[vp (some p),vi r1]) I4 ((b,nO 0 0 0 0 0 (⟨#[]⟩:Bs) none 0 0 0)::(s,nO f g h i j k a c e l)::F5) fun e5 I5 G5=>((∃(t u v w x:Int) (y:Bs) (n:OA) (o q:Nat) (z:Int),e5=.returned (nV t u v w x y n o q z)∧∃F6:cR,List.Perm G5 ((b,nO 0 0 0 0 0 (⟨#[]⟩:Bs) none 0 0 0)::(s,nO f g h i j k a c e l)::F6)∧∀aa:Nat,∀(b1:Nat) (I6:cS),cS.le I5 I6→I6 b1=some (Obj.cells #[vs (⟨#[58]⟩:Bs)] 9 (0,0))→cZ P 66 (#[vp (some p),vl (some ⟨b1,0,none⟩) 1 1]) I6 ((b,nO 0 0 0 0 0 (⟨#[]⟩:Bs) none 0 0 0)::(s,nO f g h i j k a c e l)::(aa,nO t u v w x y n o q z)::F6) fun e6 I7 G6=>((∃(r2:Int),e6=.returned (vi r2)∧∃F7:cR,List.Perm G6 ((b,nO 0 0 0 0 0 (⟨#[]⟩:Bs) none 0 0 0)::(s,nO f g h i j k a c e l)::(aa,nO t u v w x y n o q z)::F7)∧cZ P 47 (#[vp (some p),vi r1]) I7 ((b,nO 0 0 0 0 0 (⟨#[]⟩:Bs) none 0 0 0)::(s,nO f g h i j k a c e l)::(aa,nO t u v w x y n o q z)::F7) fun e7 I8 G7=>((∃(af ag ah ai aj:Int) (ak:Bs) (ab:OA) (ac ae:Nat) (al:Int),e7=.returned (nV af ag ah ai aj ak ab ac ae al)∧∃F8:cR,List.Perm G7 ((b,nO 0 0 0 0 0 (⟨#[]⟩:Bs) none 0 0 0)::(s,nO f g h i j k a c e l)::(aa,nO t u v w x y n o q z)::F8)∧∀b2:Nat,Q (.returned (nV 7 0 0 0 0 (⟨#[]⟩:Bs) (some ⟨b2,0,none⟩) 3 3 m)) I8 (((b2,Obj.cells #[vb f,vb g,vb h,vi i,vb j,vs k,vl a c e,vi l,vb t,vb u,vb v,vi w,vb x,vs y,vl n o q,vi z,vb af,vb ag,vb ah,vi ai,vb aj,vs ak,vl ab ac ae,vi al] 64 (0,0))::F8)))∨(∃ch:List PanicEntry,e7=.panicked ch∧∃F9:cR,List.Perm G7 ((b,nO 0 0 0 0 0 (⟨#[]⟩:Bs) none 0 0 0)::(s,nO f g h i j k a c e l)::(aa,nO t u v w x y n o q z)::F9)∧Q (.panicked ch) I8 F9)))∨(∃am:List PanicEntry,e6=.panicked am∧∃F10:cR,List.Perm G6 ((b,nO 0 0 0 0 0 (⟨#[]⟩:Bs) none 0 0 0)::(s,nO f g h i j k a c e l)::(aa,nO t u v w x y n o q z)::F10)∧Q (.panicked am) I7 F10)))∨(∃an:List PanicEntry,e5=.panicked an∧∃F11:cR,List.Perm G5 ((b,nO 0 0 0 0 0 (⟨#[]⟩:Bs) none 0 0 0)::(s,nO f g h i j k a c e l)::F11)∧Q (.panicked an) I5 F11)))∨(∃ao:List PanicEntry,e4=.panicked ao∧∃F12:cR,List.Perm G4 ((b,nO 0 0 0 0 0 (⟨#[]⟩:Bs) none 0 0 0)::(s,nO f g h i j k a c e l)::F12)∧Q (.panicked ao) I4 F12)))∨(∃ap:List PanicEntry,e3=.panicked ap∧∃F13:cR,List.Perm G3 ((b,nO 0 0 0 0 0 (⟨#[]⟩:Bs) none 0 0 0)::(s,nO f g h i j k a c e l)::F13)∧Q (.panicked ap) (cS.del I3 hb) (((hb,ho)::F13)))))))∨(∃aq:List PanicEntry,e1=.panicked aq∧∃F14:cR,List.Perm G1 ((b,nO 0 0 0 0 0 (⟨#[]⟩:Bs) none 0 0 0)::F14)∧Q (.panicked aq) I1 F14))
theorem gN.vc{p:Addr}{d:Int}{I:cS}{F:cR}{Q:cW}  (h:gN.V (fun k o t n f s a l c q=>.agg #[.int .u8 k,.int .u8 o,.int .u8 t,.int .i64 n,.int .u8 f,.string s,.slice a l c,.int .i64 q]) (fun k o t n f s a l c q=>.cells #[.int .u8 k,.int .u8 o,.int .u8 t,.int .i64 n,.int .u8 f,.string s,.slice a l c,.int .i64 q] 64 (0,0)) (.int .u8) (.int .i64) .string .slice .pointer p d I F Q):cZ P 47 #[.pointer (some p),.int .i64 d] I F Q :=
 tw (A:=(fa [2002] [47,64,66,90,92] [47,64,66,90,91,92] qJ [] [7001] [8005] [] [] [(4,[0,1,3,4,5,6,7,2,8,9]),(8,[2,3,6,0,1,4,5,7,8])] [] [] [(4,[7,1000],10),(8,[0,1],8)])) [47,64,66,90,91,92] func47 h
def gz.V(nV:Int→Int→Int→Int→Int→Bs→OA→Nat→Nat→Int→Value)(nO:Int→Int→Int→Int→Int→Bs→OA→Nat→Nat→Int→Obj)(vb vi:Int→Value)(vp:OA→Value)(p:Addr)(d:Int)(I:cS)(F:cR)(Q:cW)  : Prop:=∀b:Nat,∀(b1:Nat) (I1:cS),cS.le I I1→I1 b1=some (Obj.cells #[.string (⟨#[45]⟩:Bs),.string (⟨#[33]⟩:Bs)] 9 (0,0))→jW P 104 (#[vp (some p),.slice (some ⟨b1,0,none⟩) 2 2]) I1 ((b,nO 0 0 0 0 0 (⟨#[]⟩:Bs) none 0 0 0)::·) F vi fun r I2 F1=>(Dt (r<0) (cZ P 128 (#[vp (some p),vi d]) I2 ((b,nO 0 0 0 0 0 (⟨#[]⟩:Bs) none 0 0 0)::F1) fun e2 I3 G2=>((∃(s t u v w:Int) (x:Bs) (f:OA) (g h:Nat) (y:Int),e2=.returned (nV s t u v w x f g h y)∧∃F2:cR,List.Perm G2 ((b,nO 0 0 0 0 0 (⟨#[]⟩:Bs) none 0 0 0)::F2)∧Q (.returned (nV s t u v w x f g h y)) I3 F2)∨(∃ch:List PanicEntry,e2=.panicked ch∧∃F3:cR,List.Perm G2 ((b,nO 0 0 0 0 0 (⟨#[]⟩:Bs) none 0 0 0)::F3)∧Q (.panicked ch) I3 F3))) (∃(hb:Nat) (ho:Obj) (F4:cR),List.Perm F1 ((hb,ho)::F4)∧∃ad:Addr,some p=some ad∧∃(m:Int),Rd (cS.put I2 hb ho) ([]) ((ad.add 1).add 4) [vi m]∧cZ P 92 (#[vp (some p),vi d]) (cS.put I2 hb ho) ((b,nO 0 0 0 0 0 (⟨#[]⟩:Bs) none 0 0 0)::F4) fun e3 I4 G3=>((∃(r1:Int),e3=.returned (vi r1)∧∃F5:cR,List.Perm G3 ((b,nO 0 0 0 0 0 (⟨#[]⟩:Bs) none 0 0 0)::F5)∧cZ P 64 (#[vp (some p)]) (cS.del I4 hb) ((b,nO 0 0 0 0 0 (⟨#[]⟩:Bs) none 0 0 0)::((hb,ho)::F5)) fun e4 I5 G4=>((e4=.returned (.tuple #[])∧∃F6:cR,List.Perm G4 ((b,nO 0 0 0 0 0 (⟨#[]⟩:Bs) none 0 0 0)::F6)∧cZ P 113 (#[vp (some p),vi r1]) I5 ((b,nO 0 0 0 0 0 (⟨#[]⟩:Bs) none 0 0 0)::F6) fun e5 I6 G5=>((∃(i j k l n:Int) (o:Bs) (a:OA) (c e:Nat) (q:Int),e5=.returned (nV i j k l n o a c e q)∧∃F7:cR,List.Perm G5 ((b,nO 0 0 0 0 0 (⟨#[]⟩:Bs) none 0 0 0)::F7)∧∀b2:Nat,Q (.returned (.agg #[vb 5,vb (IntKind.wrap .u8 (1+(IntKind.wrap .u8 r))),vb 0,vi 0,vb 0,.string (⟨#[]⟩:Bs),.slice (some ⟨b2,0,none⟩) 1 1,vi m])) I6 (((b2,nO i j k l n o a c e q)::F7)))∨(∃z:List PanicEntry,e5=.panicked z∧∃F8:cR,List.Perm G5 ((b,nO 0 0 0 0 0 (⟨#[]⟩:Bs) none 0 0 0)::F8)∧Q (.panicked z) I6 F8)))∨(∃aa:List PanicEntry,e4=.panicked aa∧∃F9:cR,List.Perm G4 ((b,nO 0 0 0 0 0 (⟨#[]⟩:Bs) none 0 0 0)::F9)∧Q (.panicked aa) I5 F9)))∨(∃ab:List PanicEntry,e3=.panicked ab∧∃F10:cR,List.Perm G3 ((b,nO 0 0 0 0 0 (⟨#[]⟩:Bs) none 0 0 0)::F10)∧Q (.panicked ab) (cS.del I4 hb) (((hb,ho)::F10))))))
theorem gz.vc{p:Addr}{d:Int}{I:cS}{F:cR}{Q:cW}  (h:gz.V (fun k o t n f s a l c q=>.agg #[.int .u8 k,.int .u8 o,.int .u8 t,.int .i64 n,.int .u8 f,.string s,.slice a l c,.int .i64 q]) (fun k o t n f s a l c q=>.cells #[.int .u8 k,.int .u8 o,.int .u8 t,.int .i64 n,.int .u8 f,.string s,.slice a l c,.int .i64 q] 64 (0,0)) (.int .u8) (.int .i64) .pointer p d I F Q):cZ P 113 #[.pointer (some p),.int .i64 d] I F Q :=
 tw (A:=(fa [2001] [64,92,113,128] [64,92,104,113,128] qJ [] [1001] [6006] [] [] [(4,[0,1,3,4,5,6,7,2,8,9])] [] [] [(4,[7,1000],10)])) [64,92,104,113,128] func113 h
def gO.V(nV:Int→Int→Int→Int→Int→Bs→OA→Nat→Nat→Int→Value)(nO:Int→Int→Int→Int→Int→Bs→OA→Nat→Nat→Int→Obj)(vi:Int→Value)(vl:OA→Nat→Nat→Value)(vp:OA→Value)(p:Addr)(t u w y z:Int)(aa:Bs)(o:OA)(q s:Nat)(aL ai d:Int)(I:cS)(F:cR)(Q:cW)(Inv14:Int→Int→Int→Int→Int→Int→Bs→OA→Nat→Nat→Int→Nat→cS→cR→Prop):Prop:=∀n:Nat,∀b:Nat,∃ad:Addr,some p=some ad∧∃(m:Int),Rd I ((n,nO t u w y z aa o q s aL)::(b,nO 0 0 0 0 0 (⟨#[]⟩:Bs) none 0 0 0)::F) ((ad.add 1).add 4) [vi m]∧cZ P 92 (#[vp (some p),vi d]) I ((n,nO t u w y z aa o q s m)::(b,nO 0 0 0 0 0 (⟨#[]⟩:Bs) none 0 0 0)::F) fun e1 I1 G1=>((∃(r:Int),e1=.returned (vi r)∧∃F1:cR,List.Perm G1 ((n,nO t u w y z aa o q s m)::(b,nO 0 0 0 0 0 (⟨#[]⟩:Bs) none 0 0 0)::F1)∧cZ P 64 (#[vp (some p)]) I1 ((n,nO t u w y z aa o q s m)::(b,nO 0 0 0 0 0 (⟨#[]⟩:Bs) none 0 0 0)::F1) fun e2 I2 G2=>((e2=.returned (.tuple #[])∧∃F2:cR,List.Perm G2 ((n,nO t u w y z aa o q s m)::(b,nO 0 0 0 0 0 (⟨#[]⟩:Bs) none 0 0 0)::F2)∧∀(b1:Nat) (I3:cS),cS.le I2 I3→I3 b1=some (Obj.cells #[.string (⟨#[40]⟩:Bs)] 9 (0,0))→cZ P 66 (#[vp (some p),vl (some ⟨b1,0,none⟩) 1 1]) I3 ((n,nO t u w y z aa o q s m)::(b,nO 0 0 0 0 0 (⟨#[]⟩:Bs) none 0 0 0)::F2) fun e3 I4 G3=>((∃(r1:Int),e3=.returned (vi r1)∧∃F3:cR,List.Perm G3 ((n,nO t u w y z aa o q s m)::(b,nO 0 0 0 0 0 (⟨#[]⟩:Bs) none 0 0 0)::F3)∧(∃m1:Nat,Inv14 0 t u w y z aa o q s m m1 I4 F3)∧∀(x f g h i j:Int) (k:Bs) (a:OA) (c e:Nat) (l:Int) (m2:Nat) (I5:cS) (F4:cR),cS.le I4 I5→Inv14 x f g h i j k a c e l m2 I5 F4→(Dt (x<ai) (Dt (x>0) (∀(b2:Nat) (I6:cS),cS.le I5 I6→I6 b2=some (Obj.cells #[.string (⟨#[44]⟩:Bs)] 9 (0,0))→cZ P 66 (#[vp (some p),vl (some ⟨b2,0,none⟩) 1 1]) I6 ((n,nO f g h i j k a c e l)::(b,nO 0 0 0 0 0 (⟨#[]⟩:Bs) none 0 0 0)::F4) fun e4 I7 G4=>((∃(r2:Int),e4=.returned (vi r2)∧∃F5:cR,List.Perm G4 ((n,nO f g h i j k a c e l)::(b,nO 0 0 0 0 0 (⟨#[]⟩:Bs) none 0 0 0)::F5)∧cZ P 47 (#[vp (some p),vi r]) I7 ((n,nO f g h i j k a c e l)::(b,nO 0 0 0 0 0 (⟨#[]⟩:Bs) none 0 0 0)::F5) fun e5 I8 G5=>((∃(av aw ax ay az:Int) (aA:Bs) (af:OA) (ag ah:Nat) (aB:Int),e5=.returned (nV av aw ax ay az aA af ag ah aB)∧∃F6:cR,List.Perm G5 ((n,nO f g h i j k a c e l)::(b,nO 0 0 0 0 0 (⟨#[]⟩:Bs) none 0 0 0)::F6)∧∀(b3:Nat) (I9:cS),cS.le I8 I9→I9 b3=some (nO av aw ax ay az aA af ag ah aB)→dO P (Builtin.append_ #[62,62] 62 #[vl a c e,vl (some ⟨b3,0,none⟩) 1 1]) I9 ((n,nO f g h i j k a c e l)::(b,nO 0 0 0 0 0 (⟨#[]⟩:Bs) none 0 0 0)::F6) fun v I10 G6=>∃(aC:OA) (aD aE:Nat),v=vl aC aD aE∧∃F7:cR,List.Perm G6 ((n,nO f g h i j k a c e l)::(b,nO 0 0 0 0 0 (⟨#[]⟩:Bs) none 0 0 0)::F7)∧(∃m3:Nat,m3<m2∧Inv14 (IntKind.wrap .i64 (x+1)) f g h i j k aC aD aE l m3 I10 F7))∨(∃ch:List PanicEntry,e5=.panicked ch∧∃F8:cR,List.Perm G5 ((n,nO f g h i j k a c e l)::(b,nO 0 0 0 0 0 (⟨#[]⟩:Bs) none 0 0 0)::F8)∧Q (.panicked ch) I8 F8)))∨(∃aF:List PanicEntry,e4=.panicked aF∧∃F9:cR,List.Perm G4 ((n,nO f g h i j k a c e l)::(b,nO 0 0 0 0 0 (⟨#[]⟩:Bs) none 0 0 0)::F9)∧Q (.panicked aF) I7 F9))) (cZ P 47 (#[vp (some p),vi r]) I5 ((n,nO f g h i j k a c e l)::(b,nO 0 0 0 0 0 (⟨#[]⟩:Bs) none 0 0 0)::F4) fun e6 I11 G7=>((∃(aj ak al am an:Int) (ao:Bs) (ab:OA) (ac ae:Nat) (ap:Int),e6=.returned (nV aj ak al am an ao ab ac ae ap)∧∃F10:cR,List.Perm G7 ((n,nO f g h i j k a c e l)::(b,nO 0 0 0 0 0 (⟨#[]⟩:Bs) none 0 0 0)::F10)∧∀(b4:Nat) (I12:cS),cS.le I11 I12→I12 b4=some (nO aj ak al am an ao ab ac ae ap)→dO P (Builtin.append_ #[62,62] 62 #[vl a c e,vl (some ⟨b4,0,none⟩) 1 1]) I12 ((n,nO f g h i j k a c e l)::(b,nO 0 0 0 0 0 (⟨#[]⟩:Bs) none 0 0 0)::F10) fun v1 I13 G8=>∃(aq:OA) (ar au:Nat),v1=vl aq ar au∧∃F11:cR,List.Perm G8 ((n,nO f g h i j k a c e l)::(b,nO 0 0 0 0 0 (⟨#[]⟩:Bs) none 0 0 0)::F11)∧(∃m4:Nat,m4<m2∧Inv14 (IntKind.wrap .i64 (x+1)) f g h i j k aq ar au l m4 I13 F11))∨(∃aG:List PanicEntry,e6=.panicked aG∧∃F12:cR,List.Perm G7 ((n,nO f g h i j k a c e l)::(b,nO 0 0 0 0 0 (⟨#[]⟩:Bs) none 0 0 0)::F12)∧Q (.panicked aG) I11 F12)))) (∀(b5:Nat) (I14:cS),cS.le I5 I14→I14 b5=some (Obj.cells #[.string (⟨#[41]⟩:Bs)] 9 (0,0))→cZ P 66 (#[vp (some p),vl (some ⟨b5,0,none⟩) 1 1]) I14 ((n,nO f g h i j k a c e l)::(b,nO 0 0 0 0 0 (⟨#[]⟩:Bs) none 0 0 0)::F4) fun e7 I15 G9=>((∃(r3:Int),e7=.returned (vi r3)∧∃F13:cR,List.Perm G9 ((n,nO f g h i j k a c e l)::(b,nO 0 0 0 0 0 (⟨#[]⟩:Bs) none 0 0 0)::F13)∧Q (.returned (nV f g h i j k a c e l)) I15 F13)∨(∃aH:List PanicEntry,e7=.panicked aH∧∃F14:cR,List.Perm G9 ((n,nO f g h i j k a c e l)::(b,nO 0 0 0 0 0 (⟨#[]⟩:Bs) none 0 0 0)::F14)∧Q (.panicked aH) I15 F14)))))∨(∃aI:List PanicEntry,e3=.panicked aI∧∃F15:cR,List.Perm G3 ((n,nO t u w y z aa o q s m)::(b,nO 0 0 0 0 0 (⟨#[]⟩:Bs) none 0 0 0)::F15)∧Q (.panicked aI) I4 F15)))∨(∃aJ:List PanicEntry,e2=.panicked aJ∧∃F16:cR,List.Perm G2 ((n,nO t u w y z aa o q s m)::(b,nO 0 0 0 0 0 (⟨#[]⟩:Bs) none 0 0 0)::F16)∧Q (.panicked aJ) I2 F16)))∨(∃aK:List PanicEntry,e1=.panicked aK∧∃F17:cR,List.Perm G1 ((n,nO t u w y z aa o q s m)::(b,nO 0 0 0 0 0 (⟨#[]⟩:Bs) none 0 0 0)::F17)∧Q (.panicked aK) I1 F17))
theorem gO.vc{p:Addr}{j r u v w:Int}{x:Bs}{b:OA}{e g:Nat}{y i d:Int}{I:cS}{F:cR}{Q:cW}(Inv14:Int→Int→Int→Int→Int→Int→Bs→OA→Nat→Nat→Int→Nat→cS→cR→Prop)(h:gO.V (fun k o t n f s a l c q=>.agg #[.int .u8 k,.int .u8 o,.int .u8 t,.int .i64 n,.int .u8 f,.string s,.slice a l c,.int .i64 q]) (fun k o t n f s a l c q=>.cells #[.int .u8 k,.int .u8 o,.int .u8 t,.int .i64 n,.int .u8 f,.string s,.slice a l c,.int .i64 q] 64 (0,0)) (.int .i64) .slice .pointer p j r u v w x b e g y i d I F Q Inv14):cZ P 143 #[.pointer (some p),.agg #[.int .u8 j,.int .u8 r,.int .u8 u,.int .i64 v,.int .u8 w,.string x,.slice b e g,.int .i64 y],.int .i64 i,.int .i64 d] I F Q :=
 tw (A:=(fa [6000,8001] [47,64,66,92] [47,64,66,92] qJ [(14,⟨[(26,(.int .i64))],[(0,[(.int .u8),(.int .u8),(.int .u8),(.int .i64),(.int .u8),.str,.slc,(.int .i64)])],fun _ _ _ vs m I F=>match vs with | [.int _ y0,.int _ y1,.int _ y2,.int _ y3,.int _ y4,.int _ y5,.string y6,.slice y7 y8 y9,.int _ y10]=>Inv14 y0 y1 y2 y3 y4 y5 y6 y7 y8 y9 y10 m I F | _=>False,[],[]⟩)] [4001,9001,10005,12001] [] [] [] [(10,[0,2,3,1,4,5,6,7,8])] [] [] [(10,[1],8)])) [47,64,66,92] func143 h
def fK.V(nV:Int→Int→Int→Int→Int→Bs→OA→Nat→Nat→Int→Value)(nO:Int→Int→Int→Int→Int→Bs→OA→Nat→Nat→Int→Obj)(vb vi:Int→Value)(vs:Bs→Value)(vl:OA→Nat→Nat→Value)(vp:OA→Value)(p:Addr)(d:Int)(I:cS)(F:cR)(Q:cW)  : Prop:=∀b:Nat,cZ P 105 (#[vp (some p)]) I ((b,nO 0 0 0 0 0 (⟨#[]⟩:Bs) none 0 0 0)::F) fun e1 I1 G1=>((∃(f g h i j:Int) (k:Bs) (a:OA) (c e:Nat) (l:Int) (r1:Bool),e1=.returned (.tuple #[nV f g h i j k a c e l,.bool r1])∧∃F1:cR,List.Perm G1 ((b,nO 0 0 0 0 0 (⟨#[]⟩:Bs) none 0 0 0)::F1)∧∀n:Nat,(It r1 (Q (.returned (nV f g h i j k a c e l)) I1 F1) (∃ad:Addr,some p=some ad∧∃(m:Int),Rd I1 ((b,nO 0 0 0 0 0 (⟨#[]⟩:Bs) none 0 0 0)::(n,nO f g h i j k a c e l)::F1) ((ad.add 1).add 4) [vi m]∧∃aW:Addr,some p=some aW∧∃(m1:Int),Rd I1 ((b,nO 0 0 0 0 0 (⟨#[]⟩:Bs) none 0 0 0)::(n,nO f g h i j k a c e l)::F1) ((aW.add 1).add 0) [vb m1]∧(It (m1==2) (cZ P 67 (#[vp (some p)]) I1 ((b,nO 0 0 0 0 0 (⟨#[]⟩:Bs) none 0 0 0)::(n,nO f g h i j k a c e l)::F1) fun e2 I2 G2=>((∃(r:Bs),e2=.returned (vs r)∧∃F2:cR,List.Perm G2 ((b,nO 0 0 0 0 0 (⟨#[]⟩:Bs) none 0 0 0)::(n,nO f g h i j k a c e l)::F2)∧Q (.returned (nV 2 0 0 0 0 r none 0 0 m)) I2 F2)∨(∃ch:List PanicEntry,e2=.panicked ch∧∃F3:cR,List.Perm G2 ((b,nO 0 0 0 0 0 (⟨#[]⟩:Bs) none 0 0 0)::(n,nO f g h i j k a c e l)::F3)∧Q (.panicked ch) I2 F3))) (∀(b1:Nat) (I3:cS),cS.le I1 I3→I3 b1=some (Obj.cells #[vs (⟨#[98,105,100]⟩:Bs),vs (⟨#[97,115,107]⟩:Bs),vs (⟨#[108,97,115,116]⟩:Bs),vs (⟨#[118,111,108,117,109,101]⟩:Bs),vs (⟨#[110,111,119]⟩:Bs),vs (⟨#[111,112,101,110]⟩:Bs)] 9 (0,0))→jW P 104 (#[vp (some p),vl (some ⟨b1,0,none⟩) 6 6]) I3 ((b,nO 0 0 0 0 0 (⟨#[]⟩:Bs) none 0 0 0)::(n,nO f g h i j k a c e l)::·) F1 vi fun r2 I4 F4=>(Dt (r2≥0) (cZ P 64 (#[vp (some p)]) I4 ((b,nO 0 0 0 0 0 (⟨#[]⟩:Bs) none 0 0 0)::(n,nO f g h i j k a c e l)::F4) fun e4 I5 G4=>((e4=.returned (.tuple #[])∧∃F5:cR,List.Perm G4 ((b,nO 0 0 0 0 0 (⟨#[]⟩:Bs) none 0 0 0)::(n,nO f g h i j k a c e l)::F5)∧Q (.returned (.agg #[vb 3,vb 0,vb 0,vi 0,vb (IntKind.wrap .u8 (1+(IntKind.wrap .u8 r2))),vs (⟨#[]⟩:Bs),vl none 0 0,vi m])) I5 F5)∨(∃aX:List PanicEntry,e4=.panicked aX∧∃F6:cR,List.Perm G4 ((b,nO 0 0 0 0 0 (⟨#[]⟩:Bs) none 0 0 0)::(n,nO f g h i j k a c e l)::F6)∧Q (.panicked aX) I5 F6))) (∀(b2:Nat) (I6:cS),cS.le I4 I6→I6 b2=some (Obj.cells #[vs (⟨#[105,110,116]⟩:Bs),vs (⟨#[113,116,121]⟩:Bs),vs (⟨#[112,114,105,99,101]⟩:Bs),vs (⟨#[116,105,109,101]⟩:Bs)] 9 (0,0))→jW P 104 (#[vp (some p),vl (some ⟨b2,0,none⟩) 4 4]) I6 ((b,nO 0 0 0 0 0 (⟨#[]⟩:Bs) none 0 0 0)::(n,nO f g h i j k a c e l)::·) F4 vi fun r3 I7 F7=>(Dt (r3≥0) (cZ P 143 (#[vp (some p),.agg #[vb 9,vb 0,vb (IntKind.wrap .u8 (1+(IntKind.wrap .u8 r3))),vi 0,vb 0,vs (⟨#[]⟩:Bs),vl none 0 0,vi 0],vi 1,vi d]) I7 ((b,nO 0 0 0 0 0 (⟨#[]⟩:Bs) none 0 0 0)::(n,nO f g h i j k a c e l)::F7) fun e6 I8 G6=>((∃(aP aQ aR aS aT:Int) (aU:Bs) (al:OA) (am an:Nat) (aV:Int),e6=.returned (nV aP aQ aR aS aT aU al am an aV)∧∃F8:cR,List.Perm G6 ((b,nO 0 0 0 0 0 (⟨#[]⟩:Bs) none 0 0 0)::(n,nO f g h i j k a c e l)::F8)∧Q (.returned (nV aP aQ aR aS aT aU al am an aV)) I8 F8)∨(∃aY:List PanicEntry,e6=.panicked aY∧∃F9:cR,List.Perm G6 ((b,nO 0 0 0 0 0 (⟨#[]⟩:Bs) none 0 0 0)::(n,nO f g h i j k a c e l)::F9)∧Q (.panicked aY) I8 F9))) (∀(b3:Nat) (I9:cS),cS.le I7 I9→I9 b3=some (Obj.cells #[vs (⟨#[97,98,115]⟩:Bs),vs (⟨#[109,105,110]⟩:Bs),vs (⟨#[109,97,120]⟩:Bs),vs (⟨#[104,97,115]⟩:Bs),vs (⟨#[40]⟩:Bs)] 9 (0,0))→jW P 104 (#[vp (some p),vl (some ⟨b3,0,none⟩) 5 5]) I9 ((b,nO 0 0 0 0 0 (⟨#[]⟩:Bs) none 0 0 0)::(n,nO f g h i j k a c e l)::·) F7 vi fun r4 I10 F10=>(It (r4==0) (cZ P 143 (#[vp (some p),nV 8 3 0 0 0 (⟨#[]⟩:Bs) none 0 0 0,vi 1,vi d]) I10 ((b,nO 0 0 0 0 0 (⟨#[]⟩:Bs) none 0 0 0)::(n,nO f g h i j k a c e l)::F10) fun e8 I11 G8=>((∃(ao ap aq ar au:Int) (av:Bs) (aa:OA) (ab ac:Nat) (aw:Int),e8=.returned (nV ao ap aq ar au av aa ab ac aw)∧∃F11:cR,List.Perm G8 ((b,nO 0 0 0 0 0 (⟨#[]⟩:Bs) none 0 0 0)::(n,nO f g h i j k a c e l)::F11)∧Q (.returned (nV ao ap aq ar au av aa ab ac aw)) I11 F11)∨(∃aZ:List PanicEntry,e8=.panicked aZ∧∃F12:cR,List.Perm G8 ((b,nO 0 0 0 0 0 (⟨#[]⟩:Bs) none 0 0 0)::(n,nO f g h i j k a c e l)::F12)∧Q (.panicked aZ) I11 F12))) (It (r4==1) (cZ P 143 (#[vp (some p),nV 8 4 0 0 0 (⟨#[]⟩:Bs) none 0 0 0,vi 2,vi d]) I10 ((b,nO 0 0 0 0 0 (⟨#[]⟩:Bs) none 0 0 0)::(n,nO f g h i j k a c e l)::F10) fun e9 I12 G9=>((∃(ax ay az aA aB:Int) (aC:Bs) (ae:OA) (af ag:Nat) (aD:Int),e9=.returned (nV ax ay az aA aB aC ae af ag aD)∧∃F13:cR,List.Perm G9 ((b,nO 0 0 0 0 0 (⟨#[]⟩:Bs) none 0 0 0)::(n,nO f g h i j k a c e l)::F13)∧Q (.returned (nV ax ay az aA aB aC ae af ag aD)) I12 F13)∨(∃a0:List PanicEntry,e9=.panicked a0∧∃F14:cR,List.Perm G9 ((b,nO 0 0 0 0 0 (⟨#[]⟩:Bs) none 0 0 0)::(n,nO f g h i j k a c e l)::F14)∧Q (.panicked a0) I12 F14))) (It (r4==2) (cZ P 143 (#[vp (some p),nV 8 5 0 0 0 (⟨#[]⟩:Bs) none 0 0 0,vi 2,vi d]) I10 ((b,nO 0 0 0 0 0 (⟨#[]⟩:Bs) none 0 0 0)::(n,nO f g h i j k a c e l)::F10) fun a6 I13 G10=>((∃(aE aF aG aH aI:Int) (aJ:Bs) (ah:OA) (ai aj:Nat) (aK:Int),a6=.returned (nV aE aF aG aH aI aJ ah ai aj aK)∧∃F15:cR,List.Perm G10 ((b,nO 0 0 0 0 0 (⟨#[]⟩:Bs) none 0 0 0)::(n,nO f g h i j k a c e l)::F15)∧Q (.returned (nV aE aF aG aH aI aJ ah ai aj aK)) I13 F15)∨(∃a1:List PanicEntry,a6=.panicked a1∧∃F16:cR,List.Perm G10 ((b,nO 0 0 0 0 0 (⟨#[]⟩:Bs) none 0 0 0)::(n,nO f g h i j k a c e l)::F16)∧Q (.panicked a1) I13 F16))) (It (r4==3) (cZ P 64 (#[vp (some p)]) I10 ((b,nO 0 0 0 0 0 (⟨#[]⟩:Bs) none 0 0 0)::(n,nO f g h i j k a c e l)::F10) fun a7 I14 G11=>((a7=.returned (.tuple #[])∧∃F17:cR,List.Perm G11 ((b,nO 0 0 0 0 0 (⟨#[]⟩:Bs) none 0 0 0)::(n,nO f g h i j k a c e l)::F17)∧∀(b4:Nat) (I15:cS),cS.le I14 I15→I15 b4=some (Obj.cells #[vs (⟨#[98,105,100]⟩:Bs),vs (⟨#[97,115,107]⟩:Bs),vs (⟨#[108,97,115,116]⟩:Bs)] 9 (0,0))→cZ P 66 (#[vp (some p),vl (some ⟨b4,0,none⟩) 3 3]) I15 ((b,nO 0 0 0 0 0 (⟨#[]⟩:Bs) none 0 0 0)::(n,nO f g h i j k a c e l)::F17) fun a8 I16 G12=>((∃(r5:Int),a8=.returned (vi r5)∧∃F18:cR,List.Perm G12 ((b,nO 0 0 0 0 0 (⟨#[]⟩:Bs) none 0 0 0)::(n,nO f g h i j k a c e l)::F18)∧Q (.returned (.agg #[vb 4,vb 0,vb 0,vi 0,vb (IntKind.wrap .u8 (1+(IntKind.wrap .u8 r5))),vs (⟨#[]⟩:Bs),vl none 0 0,vi m])) I16 F18)∨(∃a2:List PanicEntry,a8=.panicked a2∧∃F19:cR,List.Perm G12 ((b,nO 0 0 0 0 0 (⟨#[]⟩:Bs) none 0 0 0)::(n,nO f g h i j k a c e l)::F19)∧Q (.panicked a2) I16 F19)))∨(∃a3:List PanicEntry,a7=.panicked a3∧∃F20:cR,List.Perm G11 ((b,nO 0 0 0 0 0 (⟨#[]⟩:Bs) none 0 0 0)::(n,nO f g h i j k a c e l)::F20)∧Q (.panicked a3) I14 F20))) (It (r4==4) (cZ P 92 (#[vp (some p),vi d]) I10 ((b,nO 0 0 0 0 0 (⟨#[]⟩:Bs) none 0 0 0)::(n,nO f g h i j k a c e l)::F10) fun a9 I17 G13=>((∃(r6:Int),a9=.returned (vi r6)∧∃F21:cR,List.Perm G13 ((b,nO 0 0 0 0 0 (⟨#[]⟩:Bs) none 0 0 0)::(n,nO f g h i j k a c e l)::F21)∧cZ P 64 (#[vp (some p)]) I17 ((b,nO 0 0 0 0 0 (⟨#[]⟩:Bs) none 0 0 0)::(n,nO f g h i j k a c e l)::F21) fun ba I18 G14=>((ba=.returned (.tuple #[])∧∃F22:cR,List.Perm G14 ((b,nO 0 0 0 0 0 (⟨#[]⟩:Bs) none 0 0 0)::(n,nO f g h i j k a c e l)::F22)∧cZ P 47 (#[vp (some p),vi r6]) I18 ((b,nO 0 0 0 0 0 (⟨#[]⟩:Bs) none 0 0 0)::(n,nO f g h i j k a c e l)::F22) fun bb I19 G15=>((∃(t u v w x:Int) (y:Bs) (o:OA) (q s:Nat) (z:Int),bb=.returned (nV t u v w x y o q s z)∧∃F23:cR,List.Perm G15 ((b,nO 0 0 0 0 0 (⟨#[]⟩:Bs) none 0 0 0)::(n,nO f g h i j k a c e l)::F23)∧∀ak:Nat,∀(b5:Nat) (I20:cS),cS.le I19 I20→I20 b5=some (Obj.cells #[vs (⟨#[41]⟩:Bs)] 9 (0,0))→cZ P 66 (#[vp (some p),vl (some ⟨b5,0,none⟩) 1 1]) I20 ((b,nO 0 0 0 0 0 (⟨#[]⟩:Bs) none 0 0 0)::(n,nO f g h i j k a c e l)::(ak,nO t u v w x y o q s z)::F23) fun bc I21 G16=>((∃(r7:Int),bc=.returned (vi r7)∧∃F24:cR,List.Perm G16 ((b,nO 0 0 0 0 0 (⟨#[]⟩:Bs) none 0 0 0)::(n,nO f g h i j k a c e l)::(ak,nO t u v w x y o q s z)::F24)∧Q (.returned (nV t u v w x y o q s z)) I21 F24)∨(∃a4:List PanicEntry,bc=.panicked a4∧∃F25:cR,List.Perm G16 ((b,nO 0 0 0 0 0 (⟨#[]⟩:Bs) none 0 0 0)::(n,nO f g h i j k a c e l)::(ak,nO t u v w x y o q s z)::F25)∧Q (.panicked a4) I21 F25)))∨(∃a5:List PanicEntry,bb=.panicked a5∧∃F26:cR,List.Perm G15 ((b,nO 0 0 0 0 0 (⟨#[]⟩:Bs) none 0 0 0)::(n,nO f g h i j k a c e l)::F26)∧Q (.panicked a5) I19 F26)))∨(∃aL:List PanicEntry,ba=.panicked aL∧∃F27:cR,List.Perm G14 ((b,nO 0 0 0 0 0 (⟨#[]⟩:Bs) none 0 0 0)::(n,nO f g h i j k a c e l)::F27)∧Q (.panicked aL) I18 F27)))∨(∃aM:List PanicEntry,a9=.panicked aM∧∃F28:cR,List.Perm G13 ((b,nO 0 0 0 0 0 (⟨#[]⟩:Bs) none 0 0 0)::(n,nO f g h i j k a c e l)::F28)∧Q (.panicked aM) I17 F28))) (cZ P 65 (#[vp (some p),vi 130]) I10 ((b,nO 0 0 0 0 0 (⟨#[]⟩:Bs) none 0 0 0)::(n,nO f g h i j k a c e l)::F10) fun bd I22 G17=>((bd=.returned (.tuple #[])∧∃F29:cR,List.Perm G17 ((b,nO 0 0 0 0 0 (⟨#[]⟩:Bs) none 0 0 0)::(n,nO f g h i j k a c e l)::F29)∧Q (.returned (nV 0 0 0 0 0 (⟨#[]⟩:Bs) none 0 0 0)) I22 F29)∨(∃aN:List PanicEntry,bd=.panicked aN∧∃F30:cR,List.Perm G17 ((b,nO 0 0 0 0 0 (⟨#[]⟩:Bs) none 0 0 0)::(n,nO f g h i j k a c e l)::F30)∧Q (.panicked aN) I22 F30)))))))))))))))))∨(∃aO:List PanicEntry,e1=.panicked aO∧∃F31:cR,List.Perm G1 ((b,nO 0 0 0 0 0 (⟨#[]⟩:Bs) none 0 0 0)::F31)∧Q (.panicked aO) I1 F31))
theorem fK.vc{p:Addr}{d:Int}{I:cS}{F:cR}{Q:cW}  (h:fK.V (fun k o t n f s a l c q=>.agg #[.int .u8 k,.int .u8 o,.int .u8 t,.int .i64 n,.int .u8 f,.string s,.slice a l c,.int .i64 q]) (fun k o t n f s a l c q=>.cells #[.int .u8 k,.int .u8 o,.int .u8 t,.int .i64 n,.int .u8 f,.string s,.slice a l c,.int .i64 q] 64 (0,0)) (.int .u8) (.int .i64) .string .slice .pointer p d I F Q):cZ P 128 #[.pointer (some p),.int .i64 d] I F Q :=
 tw (A:=(fa [2000,5005,8001,12001,15000,17000,19000,21000,24000] [47,64,65,66,67,92,105,143] [47,64,65,66,67,92,104,105,143] qJ [] [7001,11001,14001,23001,28001] [] [] [] [] [])) [47,64,65,66,67,92,104,105,143] func128 h
end Go.Lx
