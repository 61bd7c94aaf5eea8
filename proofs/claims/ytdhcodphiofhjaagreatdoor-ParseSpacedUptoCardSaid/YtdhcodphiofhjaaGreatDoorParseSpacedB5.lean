import Derived.Test.YtdhcodphiofhjaaGreatDoorParseSpacedB4
set_option linter.unusedVariables false
set_option linter.unusedSimpArgs false
set_option linter.unusedSectionVars false
set_option maxRecDepth 100000
namespace Go.Lx
open Go.Vc
def Gx(x:Int)(v:Value)(H:cR):Prop:=(∃i:Int,v=.int .i64 i)∧H=[]
def zb(c:PC)(t:ByteArray)(f:Nat)(d:Int)(g:PS→Px×PS):Prop:=∀(b:Nat) (s:PS) (I:cS) (F F0:cR),c.Live s→F.Perm (c.px t b s::F0)→cZ P f #[.pointer (some ⟨b,0,none⟩),.int .i64 d] I F (db c t b qd F0 (g s))
section
variable {c:PC} {t:ByteArray} {s:PS} {b:Nat} {I:cS} {F F0:cR}
theorem EK{b1:Nat}{w:ByteArray}(hb:I b1=some (.cells #[.string w] 9 (0,0))):Sl I 1 kH (some ⟨b1,0,none⟩) 1 [w]:=Sl.jG (f:=kH) (z:=1) (l:=[w]) (fun _=>rfl) hb rfl
theorem eX(hc:c.Of t)(hl:c.Live s){b1:Nat}{w:ByteArray}(hb:I b1=some (.cells #[.string w] 9 (0,0)))(hF:F.Perm (c.px t b s::F0)) :
  cZ P 66 #[.pointer (some ⟨b,0,none⟩),.slice (some ⟨b1,0,none⟩) 1 1] I F (db c t b Gx F0 (c.take w s)):=by
 refine db.use (qI hc hl (EK hb) (by decide) hF) (fun v H I2 G l2 hL hv hG=>?_) fun f e I2 G l2 hd hf=>?_
 ·obtain⟨rfl,rfl⟩:=hv
  exact .inl ⟨by rw[pe];exact hL,_,[],rfl,⟨⟨_,rfl⟩,rfl⟩,by rw[pe];exact hG⟩
 ·exact .inr ⟨f,by rw[pe];exact hd,hf⟩
theorem qK{d:Int}(h:d<24):c.cT d s=s:=by unfold PC.cT;rw[if_neg (by omega)]
theorem ma(hl:c.Live s):(c.cT 24 s).over=true∧c.dD ⟨132,(c.tok s.next).pos,false⟩ (c.cT 24 s):=by
 unfold PC.cT;rw[if_pos (by decide)]
 have:=hl.c5 (e:=132) (by decide)
 exact⟨by rw[this.1];rfl,this.2⟩
theorem Dm{nx:Lv}{d kind oper dH pos:Int}{many:Nat}(hl:c.Live s)(h:d<24) :
  c.call nx d kind oper dH pos many s=(.mk kind oper dH 0 0 ⟨#[]⟩ (c.dF nx many true (c.take (⟨#[40]⟩:ByteArray) s.inc).2).1 pos,(c.take (⟨#[41]⟩:ByteArray) (c.dF nx many true (c.take (⟨#[40]⟩:ByteArray) s.inc).2).2).2):=by
 unfold PC.call;rw[qK h,hl.1,if_neg (by simp)]
theorem Dn{nx:Lv}{kind oper dH pos:Int}{many:Nat}(hl:c.Live s):c.call nx 24 kind oper dH pos many s=(eU,c.cT 24 s):=by
 unfold PC.call;rw[(ma hl).1,if_pos rfl]
theorem rU(hc:c.Of t)(hl:c.Live s)(hk:(c.tok s.next).kind≠0){nx:Lv}{d:Int}(h0:0≤d)(h1:d≤24)(hx:d<24→zb c t 47 (d+1) nx.ex)(hkp:∀f,Kp c f nx.ex)(kind oper dH pos0:Int)(many:Nat)(hm:many≤2)(hF:F.Perm (c.px t b s::F0)) :
  cZ P 143 #[.pointer (some ⟨b,0,none⟩),(Nd.mk kind oper dH 0 0 ⟨#[]⟩ none 0 [] pos0).v,.int .i64 many,.int .i64 d] I F (db c t b qd F0 (c.call nx d kind oper dH (c.tok s.next).pos many s)):=by
 have hp:=eo.of (I:=I) hF
 refine gO.vc (fun x n0 n1 n2 n3 n4 n5 a n k n7 m I' F'=>n0=kind∧n1=oper∧n2=dH∧n3=0∧n4=0∧n5=⟨#[]⟩∧n7=(c.tok s.next).pos∧d<24∧0≤x∧x≤many∧m=(many-x).toNat ∧
  ∃(ks:List Nd) (si:PS),(ks.length:Int)=x∧c.Live si∧c.dF nx many true (c.take (⟨#[40]⟩:ByteArray) s.inc).2=(ks.map Nd.px++(c.dF nx (many-x).toNat (decide (x=0)) si).1,(c.dF nx (many-x).toNat (decide (x=0)) si).2)∧Part 8 Nd.enc 64 (eH 64 false) a n k ks (c.px t b si::F0) F') ?_
 unfold gO.V
 intro bn b0
 refine⟨_,rfl,_,(hp.mono (cS.le_refl I) fun x hx=>.tail _ (.tail _ hx)).rd.dR (p:=1) (q:=4) rfl, ?_⟩
 refine (oj (hp.mono (cS.le_refl I) fun x hx=>.tail _ (.tail _ hx)) h0 h1).mono fun e I1 G l1 hd=>?_
 rcases hd with ⟨hlt,rfl,rfl⟩ | ⟨rfl,hf⟩
 rotate_left
 ·refine .inr (dt.dJ [_,_] (hf.perm (F1:=[_,_]++F) (.refl _) (.refl _)) fun e' G' hf'=>.inr ⟨_, ?_,hf'.tail hF⟩)
  rw[Dn hl];exact (ma hl).2
 rw[Dm hl hlt]
 refine .inl ⟨_,rfl,F,.refl _, ?_⟩
 have dead1:∀{f:PF} {s':PS},c.dD f s'→s'=(c.take (⟨#[40]⟩:ByteArray) s.inc).2→c.dD f (c.take (⟨#[41]⟩:ByteArray) (c.dF nx many true (c.take (⟨#[40]⟩:ByteArray) s.inc).2).2).2:=fun h e=>(Kp.kids (hkp _) _ _ _ (e▸h)).take _
 refine db.use (eB hc hl hk (gI hF)) (fun v H I2 G l2 hL hv hG=>.inl ?_) fun f e I2 G l2 hd hf=>.inr ?_
 rotate_left
 ·exact dt.dJ [_,_] hf fun e' G' hf'=>.inr ⟨f,dead1 (hd.take _) rfl,hf'⟩
 obtain⟨rfl,rfl⟩:=hv
 refine⟨rfl,c.px t b s.inc::F0,hG.trans (cU fun z=>by simp only[cV,cY,c6];omega),fun b1 I3 l3 hb1=>?_⟩
 refine db.use (eX hc hL hb1 (gI (.refl _))) (fun v H I4 G l4 hL1 hv hG=>.inl ?_) fun f e I4 G l4 hd hf=>.inr ?_
 rotate_left
 ·exact dt.dJ [_,_] hf fun e' G' hf'=>.inr ⟨f,dead1 hd rfl,hf'⟩
 obtain⟨⟨i1,rfl⟩,rfl⟩:=hv
 refine⟨_,rfl,c.px t b (c.take (⟨#[40]⟩:ByteArray) s.inc).2::F0,hG.trans (cU fun z=>by simp only[cV,cY,c6];omega),⟨_,rfl,rfl,rfl,rfl,rfl,rfl,rfl,hlt,by decide,by omega,rfl,[],_,rfl,hL1, ?_,Part.nil⟩, ?_⟩
 ·rw[decide_eq_true rfl,show ((many:Int)-0).toNat=many by omega];rfl
 intro x n0 n1 n2 n3 n4 n5 a n k n7 m I5 F4 l5 ⟨g0,g1,g2,g3,g4,g5,g7,_,x0,x1,gm,ks,si,gl,hLi,gk,gP⟩
 subst g0 g1 g2 g3 g4 g5 g7
 obtain⟨A,hs,hA,hO,hFp⟩:=gP
 have hnl:=hA.1
 have frame:∀(X Y:Nat×Obj),(X::Y::F4).Perm (c.px t b si::([X,Y]++(A++(dI ks.length hs++F0)))):=fun X Y=>(hFp.cons _ |>.cons _).trans (cU fun z=>by simp only[cV,cY,c6];omega)
 have key:∀(sj:PS) (X Y:Nat×Obj) (I5:cS) (F5:cR) (Q':Ending→cS→cR→Prop),c.Live sj→F5.Perm (A++(dI ks.length hs++(c.px t b sj::F0))) →
   c.dF nx (many-x).toNat (decide (x=0)) si=((nx.ex sj).1::(c.dF nx (many-(x+1)).toNat false (nx.ex sj).2).1,(c.dF nx (many-(x+1)).toNat false (nx.ex sj).2).2)→0≤x→x<many →
   (∀(tn:Nd) (I8:cS) (G F6:cR),cS.le I5 I8→G.Perm (X::Y::F6) →
    (∀(b3:Nat) (I9:cS),cS.le I8 I9→I9 b3=some (.cells tn.enc.toArray 64 (0,0))→dO P (Builtin.append_ #[62,62] 62 #[.slice a n k,.slice (some ⟨b3,0,none⟩) 1 1]) I9 (X::Y::F6) fun v I10 G6=>∃(ra:Option Addr) (rn rc:Nat),v=.slice ra rn rc∧∃F7:cR,G6.Perm (X::Y::F7) ∧
     ∃(ks:List Nd) (si:PS),(ks.length:Int)=x+1∧c.Live si∧c.dF nx many true (c.take (⟨#[40]⟩:ByteArray) s.inc).2=(ks.map Nd.px++(c.dF nx (many-(x+1)).toNat (decide (x+1=0)) si).1,(c.dF nx (many-(x+1)).toNat (decide (x+1=0)) si).2)∧Part 8 Nd.enc 64 (eH 64 false) ra rn rc ks (c.px t b si::F0) F7)→Q' (.returned tn.v) I8 G) →
   (∀(f:PF) (e:Ending) (I8:cS) (G:cR),cS.le I5 I8→c.dD f (c.dF nx many true (c.take (⟨#[40]⟩:ByteArray) s.inc).2).2→dt f ([X,Y]++F0) e G→Q' e I8 G) →
   cZ P 47 #[.pointer (some ⟨b,0,none⟩),.int .i64 (d+1)] I5 (X::Y::F5) Q':=by
  intro sj X Y I5 F5 Q' hLj hF5 hkd x0 x1 k1 k2
  refine db.use (hx hlt b sj I5 _ ([X,Y]++(A++(dI ks.length hs++F0))) hLj ((hF5.cons _ |>.cons _).trans (cU fun z=>by simp only[cV,cY,c6];omega))) (fun v H I8 G l8 hL8 hv hG=>?_) fun f e I8 G l8 hd hf=>?_
  ·obtain⟨tn,rfl,hpx,hOt⟩:=hv
   refine k1 tn I8 G (H++(A++(dI ks.length hs++(c.px t b (nx.ex sj).2::F0)))) l8 (hG.trans (cU fun z=>by simp only[cV,cY,c6];omega)) fun b3 I9 l9 hb3=>?_
   refine dO.mono (fQ (f:=Nd.enc) Nd.vM (zv:=kY.v) (by':=72) (by kernel_rfl) (by kernel_rfl) rfl (by decide) (O:=eH 64 false) (x:=tn) (F:=c.px t b (nx.ex sj).2::F0) (R0:=[X,Y]) ⟨A,hs,hA,hO,.refl _⟩ tn.zC rfl hb3 hOt (.refl _) (by omega)) fun v I10 G2 l10 ⟨ra,rn,rc,hv,F7,hG7,hP7⟩=>?_
   refine⟨ra,rn,rc,hv,F7,hG7,ks++[tn],(nx.ex sj).2,by rw[List.length_append,List.length_singleton];omega,hL8, ?_,hP7⟩
   rw[gk,hkd,decide_eq_false (by omega:¬x+1=0),List.map_append,List.append_assoc,List.map_singleton,hpx];rfl
  ·refine k2 f e I8 G l8 ?_ ?_
   ·rw[gk,hkd];exact Kp.kids (hkp _) _ _ _ hd
   ·refine dt.more (A:=A++dI ks.length hs) (hf.perm (cU fun z=>by simp only[cY];omega) (.refl _))
 refine⟨fun hlt2=>?_,fun hge=>?_⟩
 ·have hlt2:=of_decide_eq_true hlt2
  have hsz:((many:Int)-x).toNat=((many:Int)-(x+1)).toNat+1:=by omega
  refine⟨fun hpos=>fun b2 I6 l6 hb2=>?_,fun hpos=>?_⟩
  ·have hpos:=of_decide_eq_true hpos
   have hkd:c.dF nx (many-x).toNat (decide (x=0)) si=((nx.ex (c.take (⟨#[44]⟩:ByteArray) si).2).1::(c.dF nx (many-(x+1)).toNat false (nx.ex (c.take (⟨#[44]⟩:ByteArray) si).2).2).1,(c.dF nx (many-(x+1)).toNat false (nx.ex (c.take (⟨#[44]⟩:ByteArray) si).2).2).2):=by
    rw[hsz,PC.dF,decide_eq_false (by omega)];rfl
   refine db.use (eX hc hLi hb2 (frame _ _)) (fun v H I7 G l7 hL7 hv hG=>.inl ?_) fun f e I7 G l7 hd hf=>.inr ?_
   rotate_left
   ·refine dt.dJ [_,_] hf fun e' G' hf'=>.inr ⟨f,PC.dD.take ?_ _,dt.more (A:=A++dI ks.length hs) (hf'.perm (cU fun z=>by simp only[cY];omega) (.refl _))⟩
    rw[gk,hkd];exact Kp.kids (hkp _) _ _ _ (hkp _ _ hd)
   obtain⟨⟨i2,rfl⟩,rfl⟩:=hv
   refine⟨_,rfl,A++(dI ks.length hs++(c.px t b (c.take (⟨#[44]⟩:ByteArray) si).2::F0)),hG.trans (cU fun z=>by simp only[cV,cY,c6];omega),key _ _ _ _ _ _ hL7 (.refl _) hkd x0 hlt2 (fun tn I8 G F6 l8 hG8 kA=>.inl ⟨_,_,_,_,_,_,_,_,_,_,rfl,F6,hG8,fun b3 I9 l9 hb3=>?_⟩) fun f e I8 G l8 hd hf=>.inr (dt.dJ [_,_] hf fun e' G' hf'=>.inr ⟨f,hd.take _,hf'⟩)⟩
   refine dO.mono (kA b3 I9 l9 hb3) fun v I10 G6 l10 ⟨ra,rn,rc,hv,F7,hG7,r⟩=>⟨ra,rn,rc,hv,F7,hG7,(many-(x+1)).toNat,by omega, ?_⟩
   rw[gU (n:=x+1) (by omega)]
   exact⟨rfl,rfl,rfl,rfl,rfl,rfl,rfl,hlt,by omega,by omega,rfl,r⟩
  ·have hpos:x=0:=by have:=of_decide_eq_false hpos;omega
   have hkd:c.dF nx (many-x).toNat (decide (x=0)) si=((nx.ex si).1::(c.dF nx (many-(x+1)).toNat false (nx.ex si).2).1,(c.dF nx (many-(x+1)).toNat false (nx.ex si).2).2):=by
    rw[hsz,PC.dF,decide_eq_true hpos];rfl
   refine key _ _ _ _ _ _ hLi hFp hkd x0 hlt2 (fun tn I8 G F6 l8 hG8 kA=>.inl ⟨_,_,_,_,_,_,_,_,_,_,rfl,F6,hG8,fun b3 I9 l9 hb3=>?_⟩) fun f e I8 G l8 hd hf=>.inr (dt.dJ [_,_] hf fun e' G' hf'=>.inr ⟨f,hd.take _,hf'⟩)
   refine dO.mono (kA b3 I9 l9 hb3) fun v I10 G6 l10 ⟨ra,rn,rc,hv,F7,hG7,r⟩=>⟨ra,rn,rc,hv,F7,hG7,(many-(x+1)).toNat,by omega, ?_⟩
   rw[gU (n:=x+1) (by omega)]
   exact⟨rfl,rfl,rfl,rfl,rfl,rfl,rfl,hlt,by omega,by omega,rfl,r⟩
 ·have hge:=of_decide_eq_false hge
  intro b5 I6 l6 hb5
  have hxm:((many:Int)-x).toNat=0:=by omega
  have hend:c.dF nx many true (c.take (⟨#[40]⟩:ByteArray) s.inc).2=(ks.map Nd.px,si):=by rw[gk,hxm,PC.dF,List.append_nil]
  rw[hend]
  refine db.use (eX hc hLi hb5 (frame _ _)) (fun v H I7 G l7 hL7 hv hG=>.inl ?_) fun f e I7 G l7 hd hf=>.inr ?_
  ·obtain⟨⟨i3,rfl⟩,rfl⟩:=hv
   subst hnl
   refine⟨_,rfl,c.px t b (c.take (⟨#[41]⟩:ByteArray) si).2::((A++dI ks.length hs)++F0),hG.trans (cU fun z=>by simp only[cV,cY,c6];omega),.inl ⟨hL7,_,A++dI ks.length hs,rfl,⟨.mk n0 n1 n2 0 0 ⟨#[]⟩ a k ks (c.tok s.next).pos,rfl, ?_,.mk (t:=.mk n0 n1 n2 0 0 ⟨#[]⟩ a k ks (c.tok s.next).pos) hA (fun h=>by cases h) hO⟩,.refl _⟩⟩
   rw[Nd.px,Nd.rO]
  ·exact dt.dJ [_,_] hf fun e' G' hf'=>.inr ⟨f,hd,dt.more (A:=A++dI ks.length hs) (hf'.perm (cU fun z=>by simp only[cY];omega) (.refl _))⟩
end
end Go.Lx
namespace Go.Lx
open Go.Vc
section
variable {c:PC} {t:ByteArray} {s:PS} {b:Nat} {I:cS} {F F0:cR}
theorem PC.dD.live{f:PF}(h:c.dD f s)(hl:c.Live s):False:=by
 have:=h.1
 unfold PC.fin at this
 rw[hl.1,if_neg (by simp),if_neg (by have:=hl.2;omega)] at this
 cases this
theorem xR{ws:List ByteArray}(h:0≤c.any ws s):∃w∈ws,c.ej w s=true:=by
 have:∀(ws:List ByteArray) (i:Int),0≤c.gG s ws i→∃w∈ws,c.ej w s=true:=by
  intro ws
  induction ws with
  | nil=>intro i h;rw[PC.gG] at h;omega
  | cons w r ih =>
    intro i h
    rw[PC.gG] at h
    by_cases hw:c.ej w s=true
    ·exact⟨w,.head _,hw⟩
    ·rw[if_neg hw] at h
     obtain⟨x,hx,hxw⟩:=ih _ h
     exact⟨x,.tail _ hx,hxw⟩
 exact this ws 0 h
def FG(l m:List ByteArray):Bool:=l.all fun w=>m.all fun x=>!(w.toList==x.toList)
theorem Dp{l m:List ByteArray}(hf:FG l m=true)(h:0≤c.any l s):c.any m s<0:=by
 apply Int.not_le.1
 intro h2
 obtain⟨w,hw,h3⟩:=xR h
 obtain⟨x,hx,h4⟩:=xR h2
 unfold PC.ej at h3 h4
 simp only[Bool.and_eq_true,beq_iff_eq] at h3 h4
 have:=List.all_eq_true.1 (List.all_eq_true.1 hf w hw) x hx
 rw[←h3.1,←h4.1] at this
 simp at this
def zZ:List ByteArray:=[(⟨#[97,98,115]⟩:ByteArray),(⟨#[109,105,110]⟩:ByteArray),(⟨#[109,97,120]⟩:ByteArray),(⟨#[104,97,115]⟩:ByteArray),(⟨#[40]⟩:ByteArray)]
theorem Gy:(0≤c.any gL s→c.any zZ s=c.any gL s)∧(c.any gL s<0→c.any zZ s=if c.ej (⟨#[104,97,115]⟩:ByteArray) s then 3 else if c.ej (⟨#[40]⟩:ByteArray) s then 4 else -1):=by
 unfold PC.any zZ gL
 simp only[PC.gG]
 generalize c.ej _ s=b1
 generalize c.ej _ s=b2
 generalize c.ej _ s=b3
 generalize c.ej _ s=b4
 generalize c.ej _ s=b5
 cases b1<;>cases b2<;>cases b3<;>cases b4<;>cases b5<;>decide
theorem om(hc:c.Of t)(hl:c.Live s)(h:(c.literal s).1.2=false):c.literal s=((eU,false),s):=by
 by_cases hk:(c.tok s.next).kind=3
 ·rw[wq hl hk] at h;cases h
 ·have:=zY hc hl hk
  split at this
  ·exact this
  ·rw[this] at h;cases h
theorem db.leaf{r:Px×PS}{e:Ending}{G:cR}(hL:c.Live r.2){k o ty n f p:Int}{w:ByteArray}(h:r.1=.mk k o ty n f w [] p)(he:e=.returned (Nd.mk k o ty n f w none 0 [] p).v)(hG:G.Perm (c.px t b r.2::F0)):db c t b qd F0 r e I G :=
 .inl ⟨hL,_,[],he,⟨_,rfl,by rw[h];simp only[Nd.px,Nd.xp],eH.leaf⟩,hG⟩
theorem words{b1:Nat}{ws:List ByteArray}{cs:Array Value}(hb:I b1=some (.cells cs 9 (0,0)))(h:cs.toList=ws.flatMap kH):Sl I 1 kH (some ⟨b1,0,none⟩) ws.length ws:=Sl.jG (f:=kH) (z:=1) (fun _=>rfl) hb h
theorem AZ(hc:c.Of t){nx:Lv}{d:Int}(h0:0≤d)(h1:d≤24)(hx:d<24→zb c t 47 (d+1) nx.ex)(hkp:∀f,Kp c f nx.ex)(hl:c.Live s)(hF:F.Perm (c.px t b s::F0)) :
  cZ P 128 #[.pointer (some ⟨b,0,none⟩),.int .i64 d] I F (db c t b qd F0 (c.one nx d s)):=by
 have hn:=hl.now
 refine fK.vc ?_
 unfold fK.V
 intro b0
 refine db.use (pf hc hl (wj hF)) (fun v H I1 G l1 hL hv hG=>.inl ?_) fun f e I1 G l1 hd hf=>.inr ?_
 rotate_left
 ·refine dt.dJ [_] hf fun e' G' hf'=>.inr ⟨f, ?_,hf'⟩
  cases h2:(c.literal s).1.2 with
  | true=>unfold PC.one;rw[h2,if_pos rfl];exact hd
  | false=>rw[om hc hl h2] at hd;exact (hd.live hl).elim
 obtain⟨n,rfl,hpx,hO,rfl⟩:=hv
 refine⟨_,_,_,_,_,_,_,_,_,_,_,rfl,c.px t b (c.literal s).2::F0,hG.trans (cU fun z=>by simp only[cV,cY,c6];omega),fun bn=>⟨fun h2=>?_,fun h2=>?_⟩⟩
 ·have e1:c.one nx d s=((c.literal s).1.1,(c.literal s).2):=by unfold PC.one;rw[h2,if_pos rfl]
  rw[e1]
  exact .inl ⟨hL,_,[],rfl,⟨n,rfl,hpx,hO⟩,.refl _⟩
 have eL:=om hc hl h2
 clear hG
 rw[eL]
 generalize hF1:c.px t b (((eU,false),s):(Px×Bool)×PS).2::F0=F1
 have hF1:F1.Perm (c.px t b s::F0):=by rw[←hF1]
 have one_:c.one nx d s=if (c.tok s.next).kind=2 then (.mk 2 0 0 0 0 (c.tok s.next).text [] (c.tok s.next).pos,s.inc)
   else if 0≤c.any jv s then (.mk 3 0 0 0 (c.any jv s+1) ⟨#[]⟩ [] (c.tok s.next).pos,s.inc)
   else if 0≤c.any gL s then c.call nx d 8 (3+c.any gL s) 0 (c.tok s.next).pos (if c.any gL s=0 then 1 else 2) s
   else if 0≤c.any jS s then c.call nx d 9 0 (1+c.any jS s) (c.tok s.next).pos 1 s else c.rest nx d s:=by
  unfold PC.one;rw[eL,if_neg (by simp),hn]
 have hp1:∀{J:cS} (X Y:Nat×Obj),eo J (X::Y::F1) t b (c.tok s.next) (js (c.tok s.next)):=fun X Y=>.inr (.tail _ (.tail _ (hF1.mem_iff.2 (.head _))))
 have up:∀{G:cR} {X Y:Nat×Obj} {s':PS} {K:cR},G.Perm (c.px t b s'::(K++(X::Y::F0)))→G.Perm (X::Y::(c.px t b s'::(K++F0))):=fun h=>h.trans (cU fun z=>by simp only[cV,cY,c6];omega)
 refine⟨_,rfl,_,(hp1 _ _).rd.dR (p:=1) (q:=4) rfl,_,rfl,_,(hp1 _ _).rd.dR (p:=1) (q:=0) rfl,fun h3=>?_,fun h3=>?_⟩
 ·have h3:(c.tok s.next).kind=2:=by simpa using h3
  have e1:c.one nx d s=(.mk 2 0 0 0 0 (c.tok s.next).text [] (c.tok s.next).pos,s.inc):=by rw[one_,if_pos h3]
  have e2:c.name s=((c.tok s.next).text,s.inc):=by unfold PC.name;rw[hn,if_pos h3]
  rw[e1]
  refine db.use (jC hc hl (gI hF1)) (fun v K I2 G l2 hL hv hG=>.inl ?_) fun f e I2 G l2 hd hf=>.inr ?_
  ·obtain⟨rfl,rfl⟩:=hv
   rw[e2] at hL hG ⊢
   exact⟨_,rfl,_,up hG,.leaf hL rfl rfl (.refl _)⟩
  ·rw[e2] at hd
   exact dt.dJ [_,_] hf fun e' G' hf'=>.inr ⟨f,hd,hf'⟩
 have h3:(c.tok s.next).kind≠2:=by simpa using h3
 rw[if_neg h3] at one_
 intro b1 I3 l3 hb1
 refine cZ.ret (ix hl (hp1 _ _) (words (ws:=jv) hb1 rfl) (by decide)) fun I4 l4=>⟨_,rfl,F1,.refl _,fun h4=>?_,fun h4=>?_⟩
 ·have h4:0≤c.any jv s:=of_decide_eq_true h4
  have hlt:c.any jv s<6:=(dB h4).2
  rw[one_,if_pos h4]
  refine db.use (eB hc hl (iy hl h4) (gI hF1)) (fun v K I5 G l5 hL hv hG=>.inl ?_) fun f e I5 G l5 hd hf=>.inr (dt.dJ [_,_] hf fun e' G' hf'=>.inr ⟨f,hd,hf'⟩)
  obtain⟨rfl,rfl⟩:=hv
  refine⟨rfl,_,up hG,.leaf hL rfl ?_ (.refl _)⟩
  rw[w8 (n:=c.any jv s) (by omega),w8 (n:=1+c.any jv s) (by omega),Int.add_comm 1];rfl
 have h4:¬0≤c.any jv s:=of_decide_eq_false h4
 rw[if_neg h4] at one_
 have pass:∀{r:Px×PS} {g:Nat} {args:Array Value} {I5:cS} {X Y:Nat×Obj} {H1:cR} {Q':Ending→cS→cR→Prop},cZ P g args I5 H1 (db c t b qd (X::Y::F0) r) →
   (∀(n:Nd) (I6:cS) (G F8:cR),G.Perm (X::Y::F8)→db c t b qd F0 r (.returned n.v) I6 F8→Q' (.returned n.v) I6 G)→(∀(f:PF) (e:Ending) (I6:cS) (G:cR),c.dD f r.2→dt f ([X,Y]++F0) e G→Q' e I6 G)→cZ P g args I5 H1 Q':=fun h k1 k2 =>
  db.use h (fun v K I6 G l6 hL hv hG=>by
   obtain⟨n,rfl,hv⟩:=hv
   exact k1 n I6 G _ (up hG) (.inl ⟨hL,_,K,rfl,⟨n,rfl,hv⟩,.refl _⟩)) fun f e I6 G l6 hd hf=>k2 f e I6 G hd hf
 intro b2 I6 l6 hb2
 refine cZ.ret (ix hl (hp1 _ _) (words (ws:=jS) hb2 rfl) (by decide)) fun I7 l7=>⟨_,rfl,F1,.refl _,fun h5=>?_,fun h5=>?_⟩
 ·have h5:0≤c.any jS s:=of_decide_eq_true h5
  have hlt:c.any jS s<4:=(dB h5).2
  have h6:c.any gL s<0:=Dp (by kernel_rfl:FG jS gL=true) h5
  rw[one_,if_neg (by omega),if_pos h5]
  have hw:IntKind.wrap .u8 (1+IntKind.wrap .u8 (c.any jS s))=1+c.any jS s:=by rw[w8 (n:=c.any jS s) (by omega),w8 (by omega)]
  rw[hw]
  exact pass (rU hc hl (iy hl h5) h0 h1 hx hkp 9 0 (1+c.any jS s) 0 1 (by decide) (gI hF1)) (fun n I8 G F8 hG hD=>.inl ⟨_,_,_,_,_,_,_,_,_,_,rfl,F8,hG,hD⟩) fun f e I8 G hd hf=>.inr (dt.dJ [_,_] hf fun e' G' hf'=>.inr ⟨f,hd,hf'⟩)
 have h5:¬0≤c.any jS s:=of_decide_eq_false h5
 rw[if_neg h5] at one_
 intro b3 I9 l9 hb3
 obtain⟨a1,a2⟩:=Gy (c:=c) (s:=s)
 refine cZ.ret (ix hl (hp1 _ _) (words (ws:=zZ) hb3 rfl) (by decide)) fun I10 l10=>⟨_,rfl,F1,.refl _, ?_⟩
 by_cases hcall:0≤c.any gL s
 ·have hlt:c.any gL s<3:=(dB hcall).2
  rw[a1 hcall,one_,if_pos hcall]
  have hkd:=iy hl hcall
  refine⟨fun h6=>?_,fun h6=>⟨fun h7=>?_,fun h7=>⟨fun h8=>?_,fun h8=>?_⟩⟩⟩
  ·have h6:c.any gL s=0:=by simpa using h6
   rw[h6,if_pos rfl]
   exact pass (rU hc hl hkd h0 h1 hx hkp 8 3 0 0 1 (by decide) (gI hF1)) (fun n I8 G F8 hG hD=>.inl ⟨_,_,_,_,_,_,_,_,_,_,rfl,F8,hG,hD⟩) fun f e I8 G hd hf=>.inr (dt.dJ [_,_] hf fun e' G' hf'=>.inr ⟨f,hd,hf'⟩)
  ·have h7:c.any gL s=1:=by simpa using h7
   rw[h7,if_neg (by decide)]
   exact pass (rU hc hl hkd h0 h1 hx hkp 8 4 0 0 2 (by decide) (gI hF1)) (fun n I8 G F8 hG hD=>.inl ⟨_,_,_,_,_,_,_,_,_,_,rfl,F8,hG,hD⟩) fun f e I8 G hd hf=>.inr (dt.dJ [_,_] hf fun e' G' hf'=>.inr ⟨f,hd,hf'⟩)
  ·have h8:c.any gL s=2:=by simpa using h8
   rw[h8,if_neg (by decide)]
   exact pass (rU hc hl hkd h0 h1 hx hkp 8 5 0 0 2 (by decide) (gI hF1)) (fun n I8 G F8 hG hD=>.inl ⟨_,_,_,_,_,_,_,_,_,_,rfl,F8,hG,hD⟩) fun f e I8 G hd hf=>.inr (dt.dJ [_,_] hf fun e' G' hf'=>.inr ⟨f,hd,hf'⟩)
  ·have h6:c.any gL s≠0:=by simpa using h6
   have h7:c.any gL s≠1:=by simpa using h7
   have h8:c.any gL s≠2:=by simpa using h8
   omega
 rw[if_neg hcall] at one_
 rw[a2 (by omega),one_]
 unfold PC.rest
 have isk:∀{w:ByteArray},c.ej w s=true→(c.tok s.next).kind≠0:=fun h hk=>by
  unfold PC.ej at h;rw[hn,hk] at h;simp at h
 by_cases hhas:c.ej (⟨#[104,97,115]⟩:ByteArray) s=true
 ·rw[if_pos hhas,if_pos hhas]
  refine⟨fun h=>absurd h (by decide),fun _=>⟨fun h=>absurd h (by decide),fun _=>⟨fun h=>absurd h (by decide),fun _=>⟨fun _=>?_,fun h=>absurd h (by decide)⟩⟩⟩⟩
  have hst:∀(x:Px),(if c.any [(⟨#[98,105,100]⟩:ByteArray),(⟨#[97,115,107]⟩:ByteArray),(⟨#[108,97,115,116]⟩:ByteArray)] s.inc<0 then (eU,c.c5 130 s.inc) else (x,s.inc.inc):Px×PS).2=(c.oneOf [(⟨#[98,105,100]⟩:ByteArray),(⟨#[97,115,107]⟩:ByteArray),(⟨#[108,97,115,116]⟩:ByteArray)] s.inc).2:=fun x=>by
   unfold PC.oneOf;split<;>rfl
  refine db.use (eB hc hl (isk hhas) (gI hF1)) (fun v K I5 G l5 hL hv hG=>.inl ?_) fun f e I5 G l5 hd hf=>.inr (dt.dJ [_,_] hf fun e' G' hf'=>.inr ⟨f, ?_,hf'⟩)
  rotate_left
  ·rw[hst,PC.oneOf,hd.any,if_pos (by decide)];exact hd.c5 _
  obtain⟨rfl,rfl⟩:=hv
  refine⟨rfl,_,up hG,fun b4 I8 l8 hb4=>?_⟩
  refine db.use (qI hc hL (words (ws:=[(⟨#[98,105,100]⟩:ByteArray),(⟨#[97,115,107]⟩:ByteArray),(⟨#[108,97,115,116]⟩:ByteArray)]) hb4 rfl) (by decide) (gI (.refl _))) (fun v K I9 G l9 hL9 hv hG=>.inl ?_) fun f e I9 G l9 hd hf=>.inr (dt.dJ [_,_] hf fun e' G' hf'=>.inr ⟨f,by rw[hst];exact hd,hf'⟩)
  obtain⟨rfl,rfl⟩:=hv
  have hge:¬c.any [(⟨#[98,105,100]⟩:ByteArray),(⟨#[97,115,107]⟩:ByteArray),(⟨#[108,97,115,116]⟩:ByteArray)] s.inc<0:=fun hlt=>by
   have:(c.oneOf [(⟨#[98,105,100]⟩:ByteArray),(⟨#[97,115,107]⟩:ByteArray),(⟨#[108,97,115,116]⟩:ByteArray)] s.inc).2=c.c5 130 s.inc:=if_pos hlt
   rw[this] at hL9
   exact (hL.c5 (e:=130) (by decide)).2.live hL9
  have hlt:c.any [(⟨#[98,105,100]⟩:ByteArray),(⟨#[97,115,107]⟩:ByteArray),(⟨#[108,97,115,116]⟩:ByteArray)] s.inc<3:=(dB (Int.not_lt.1 hge)).2
  have e2:(c.oneOf [(⟨#[98,105,100]⟩:ByteArray),(⟨#[97,115,107]⟩:ByteArray),(⟨#[108,97,115,116]⟩:ByteArray)] s.inc).2=s.inc.inc:=if_neg hge
  rw[e2] at hL9 hG
  rw[if_neg hge]
  refine⟨_,rfl,_,up hG,.leaf hL9 (by rw[hn]) ?_ (.refl _)⟩
  show _=Ending.returned (Value.agg #[_,_,_,_,.int .u8 (c.any [(⟨#[98,105,100]⟩:ByteArray),(⟨#[97,115,107]⟩:ByteArray),(⟨#[108,97,115,116]⟩:ByteArray)] s.inc+1),_,_,_])
  show Ending.returned (Value.agg #[_,_,_,_,.int .u8 (IntKind.wrap .u8 (1+IntKind.wrap .u8 (c.any [(⟨#[98,105,100]⟩:ByteArray),(⟨#[97,115,107]⟩:ByteArray),(⟨#[108,97,115,116]⟩:ByteArray)] s.inc))),_,_,_])=_
  rw[w8 (n:=c.any [(⟨#[98,105,100]⟩:ByteArray),(⟨#[97,115,107]⟩:ByteArray),(⟨#[108,97,115,116]⟩:ByteArray)] s.inc) (by omega),w8 (n:=1+c.any [(⟨#[98,105,100]⟩:ByteArray),(⟨#[97,115,107]⟩:ByteArray),(⟨#[108,97,115,116]⟩:ByteArray)] s.inc) (by omega),Int.add_comm 1];rfl
 have hhas:c.ej (⟨#[104,97,115]⟩:ByteArray) s=false:=by simpa using hhas
 have ff:¬(false=true):=by decide
 rw[hhas,if_neg ff,if_neg ff]
 by_cases hop:c.ej (⟨#[40]⟩:ByteArray) s=true
 ·rw[if_pos hop,if_pos hop]
  refine⟨fun h=>absurd h (by decide),fun _=>⟨fun h=>absurd h (by decide),fun _=>⟨fun h=>absurd h (by decide),fun _=>⟨fun h=>absurd h (by decide),fun _=>⟨fun _=>?_,fun h=>absurd h (by decide)⟩⟩⟩⟩⟩
  refine (oj (hp1 _ _) h0 h1).mono fun e I5 G l5 hd=>?_
  rcases hd with ⟨hlt,rfl,rfl⟩ | ⟨rfl,hf⟩
  rotate_left
  ·rw[(ma hl).1,if_pos rfl]
   exact .inr (dt.dJ [_,_] (hf.perm (F1:=[_,_]++F1) (.refl _) (.refl _)) fun e' G' hf'=>.inr ⟨_,(ma hl).2,hf'.tail hF1⟩)
  rw[qK hlt,hl.1,if_neg (by simp)]
  refine .inl ⟨_,rfl,F1,.refl _, ?_⟩
  refine db.use (eB hc hl (isk hop) (gI hF1)) (fun v K I6 G l6 hL hv hG=>.inl ?_) fun f e I6 G l6 hd hf=>.inr (dt.dJ [_,_] hf fun e' G' hf'=>.inr ⟨f,(hkp f _ hd).take _,hf'⟩)
  obtain⟨rfl,rfl⟩:=hv
  refine⟨rfl,_,up hG, ?_⟩
  refine db.use (hx hlt b s.inc I6 _ _ hL (gI (.refl _))) (fun v K I7 G l7 hL7 hv hG=>.inl ?_) fun f e I7 G l7 hd hf=>.inr (dt.dJ [_,_] hf fun e' G' hf'=>.inr ⟨f,hd.take _,hf'⟩)
  obtain⟨n7,rfl,hpx7,hO7⟩:=hv
  refine⟨_,_,_,_,_,_,_,_,_,_,rfl,_,up hG,fun bn1 b5 I8 l8 hb5=>?_⟩
  refine db.use (eX hc hL7 hb5 (F0:=_::_::_::(K++F0)) (wm (.refl _))) (fun v L I9 G l9 hL9 hv hG=>.inl ?_) fun f e I9 G l9 hd hf=>.inr (dt.dJ [_,_,_] hf fun e' G' hf'=>.inr ⟨f,hd,hf'.more⟩)
  obtain⟨⟨i9,rfl⟩,rfl⟩:=hv
  exact⟨_,rfl,c.px t b (c.take (⟨#[41]⟩:ByteArray) (nx.ex s.inc).2).2::(K++F0),hG.trans (cU fun z=>by simp only[cV,cY,c6];omega),.inl ⟨hL9,_,K,rfl,⟨n7,rfl,hpx7,hO7⟩,.refl _⟩⟩
 have hop:c.ej (⟨#[40]⟩:ByteArray) s=false:=by simpa using hop
 rw[hop,if_neg ff,if_neg ff]
 refine⟨fun h=>absurd h (by decide),fun _=>⟨fun h=>absurd h (by decide),fun _=>⟨fun h=>absurd h (by decide),fun _=>⟨fun h=>absurd h (by decide),fun _=>⟨fun h=>absurd h (by decide),fun _=>?_⟩⟩⟩⟩⟩
 refine (fD (hp1 _ _) 130).mono fun e I5 G l5 hf=>.inr ?_
 exact dt.dJ [_,_] (hf.perm (F1:=[_,_]++F1) (.refl _) (.refl _)) fun e' G' hf'=>.inr ⟨_,(hl.c5 (by decide)).2,hf'.tail hF1⟩
end
end Go.Lx
namespace Go.Lx
open Go.Vc
theorem eH.two{x y:Nd}{H K:cR}{b1:Nat}{k o ty n f p:Int}{w:ByteArray}(hx:eH 64 false x H)(hy:eH 64 false y K) :
  eH 64 false (.mk k o ty n f w (some ⟨b1,0,none⟩) 2 [x,y] p) ((b1,.cells (x.enc++y.enc).toArray 64 (0,0))::(H++(K++[]))) :=
 .mk (t:=.mk k o ty n f w (some ⟨b1,0,none⟩) 2 [x,y] p) (A:=[(b1,.cells (x.enc++y.enc).toArray 64 (0,0))]) (hs:=fun i=>if i=0 then H else K)
  ⟨rfl,.inr ⟨b1,_,rfl,rfl,rfl,Nat.le_refl _,by simp[Nd.kids]⟩⟩ (fun h=>by cases h) fun i z h=>by
    match i,h with
    | 0,h=>cases h;exact hx
    | 1,h=>cases h;exact hy
theorem eH.G0{x:Nd}{H:cR}{b1:Nat}{k o ty n f p:Int}{w:ByteArray}(hx:eH 64 false x H) :
  eH 64 false (.mk k o ty n f w (some ⟨b1,0,none⟩) 1 [x] p) ((b1,.cells x.enc.toArray 64 (0,0))::(H++[])) :=
 .mk (t:=.mk k o ty n f w (some ⟨b1,0,none⟩) 1 [x] p) (A:=[(b1,.cells x.enc.toArray 64 (0,0))]) (hs:=fun i=>H)
  ⟨rfl,.inr ⟨b1,_,rfl,rfl,rfl,Nat.le_refl _,by simp[Nd.kids]⟩⟩ (fun h=>by cases h) fun i z h=>by
    match i,h with
    | 0,h=>cases h;exact hx
theorem eH.three{x y z:Nd}{H K L:cR}{b1:Nat}{k o ty n f p:Int}{w:ByteArray}(hx:eH 64 false x H)(hy:eH 64 false y K)(hz:eH 64 false z L) :
  eH 64 false (.mk k o ty n f w (some ⟨b1,0,none⟩) 3 [x,y,z] p) ((b1,.cells (x.enc++(y.enc++z.enc)).toArray 64 (0,0))::(H++(K++(L++[])))) :=
 .mk (t:=.mk k o ty n f w (some ⟨b1,0,none⟩) 3 [x,y,z] p) (A:=[(b1,.cells (x.enc++(y.enc++z.enc)).toArray 64 (0,0))]) (hs:=fun i=>if i=0 then H else if i=1 then K else L)
  ⟨rfl,.inr ⟨b1,_,rfl,rfl,rfl,Nat.le_refl _,by simp[Nd.kids]⟩⟩ (fun h=>by cases h) fun i u h=>by
    match i,h with
    | 0,h=>cases h;exact hx
    | 1,h=>cases h;exact hy
    | 2,h=>cases h;exact hz
def il(c:PC)(l:Int)(sub:PS→Px×PS)(res:Px×PS)(many:Int)(fuel:Nat)(x:Px)(s:PS):Prop :=
 res=if l=4 then (if many=0 then (if c.any jd s<0 then (x,s) else (jc (11+c.any jd s) (c.now s).pos x (sub s.inc).1,(sub s.inc).2)) else (x,s)) else c.dN (rT l) (AX l) sub fuel x s
section
variable {c:PC} {t:ByteArray} {l:Int} {sub:PS→Px×PS} {res:Px×PS} {many:Int} {fuel:Nat} {x:Px} {s:PS}
theorem wu(h:0≤c.any (rT l) s):c.any (rT l) s<6:=by
 have h1:=(dB h).2
 have:(rT l).length≤6:=by unfold rT;repeat' split<;>try decide
 omega
theorem wv(l:Int):0≤AX l∧AX l≤18:=by unfold AX;repeat' split<;>try decide
theorem il.stop(h:il c l sub res many fuel x s)(hs:c.any (rT l) s<0∨(l=4∧many≠0)):res=(x,s):=by
 unfold il at h
 by_cases h4:l=4
 ·subst h4
  rw[if_pos rfl] at h
  by_cases hm:many=0
  ·rw[if_pos hm] at h
   have hs:c.any jd s<0:=hs.resolve_right fun h=>h.2 hm
   rw[if_pos hs] at h;exact h
  ·rw[if_neg hm] at h;exact h
 ·rw[if_neg h4] at h
  have hs:=hs.resolve_right fun h=>h4 h.1
  cases fuel with
  | zero=>exact h
  | succ n=>rw[PC.dN,if_pos hs] at h;exact h
theorem il.next(h:il c l sub res many fuel x s)(hm:l≠4∨many=0)(ha:0≤c.any (rT l) s)(h0:0≤many)(hf:0<fuel):il c l sub res (many+1) (fuel-1) (jc (AX l+c.any (rT l) s) (c.now s).pos x (sub s.inc).1) (sub s.inc).2:=by
 unfold il at h ⊢
 by_cases h4:l=4
 ·subst h4
  have hm:=hm.resolve_left fun h=>h rfl
  rw[if_pos rfl,if_pos hm,if_neg (Int.not_lt.2 (show 0≤c.any jd s from ha))] at h
  rw[if_pos rfl,if_neg (by omega)];exact h
 ·rw[if_neg h4] at h ⊢
  obtain⟨n,rfl⟩:∃n,fuel=n+1:=⟨fuel-1,by omega⟩
  rw[PC.dN,if_neg (Int.not_lt.2 ha)] at h;exact h
theorem il.dead(h:il c l sub res many fuel x s)(hk:∀f,Kp c f sub)(hm:many≠0){f:PF}(hd:c.dD f s):c.dD f res.2:=by
 unfold il at h
 rw[h]
 split
 ·exact hd
 ·exact Kp.dN _ _ _ hd
def PC.xS(c:PC)(l:Int)(sub:PS→Px×PS)(s:PS):Px×PS :=
 if l=4 then (if c.any jd (sub s).2<0 then sub s else (jc (11+c.any jd (sub s).2) (c.now (sub s).2).pos (sub s).1 (sub (sub s).2.inc).1,(sub (sub s).2.inc).2)) else c.loop (rT l) (AX l) sub s
theorem il.start(c:PC)(l:Int)(sub:PS→Px×PS)(s:PS):il c l sub (c.xS l sub s) 0 c.l.length (sub s).1 (sub s).2:=by
 unfold il PC.xS
 split
 ·rw[if_pos rfl]
 ·rfl
theorem vf(hk:∀f,Kp c f sub){f:PF}(hd:c.dD f (sub s).2):c.dD f (c.xS l sub s).2:=by
 unfold PC.xS
 split
 ·rw[hd.any,if_pos (by decide)];exact hd
 ·exact Kp.dN _ _ _ hd
def wz(c:PC)(t:ByteArray)(l d:Int)(g:PS→Px×PS):Prop:=∀(b:Nat) (s:PS) (I:cS) (F F0:cR),c.Live s→F.Perm (c.px t b s::F0)→cZ P 90 #[.pointer (some ⟨b,0,none⟩),.int .i64 l,.int .i64 d] I F (db c t b qd F0 (g s))
theorem wA{d:Int}{g:PS→Px×PS}(hl2:0≤l∧l≤10)(hr:wz c t (l+1) d g){b bp bl:Nat}{tp tl:Nat}{s:PS}{I:cS}{F F0:cR}(hl:c.Live s)(hp:(bp,Obj.cells #[.pointer (some ⟨b,0,none⟩)] tp (0,0))∈F)(hb:(bl,Obj.cells #[.int .i64 l] tl (0,0))∈F)(hF:F.Perm (c.px t b s::F0)) :
  cZ P 114 #[.int .i64 d,.pointer (some ⟨bp,0,none⟩),.pointer (some ⟨bl,0,none⟩)] I F (db c t b qd F0 (g s)):=by
 refine gy.vc ?_
 unfold gy.V
 intro b0
 refine⟨_,zW (.tail _ hp),_,zW (.tail _ hb), ?_⟩
 rw[gU (n:=l+1) (by omega)]
 refine db.use (hr b s I _ _ hl (wj hF)) (fun v K I6 G l6 hL hv hG=>.inl ?_) fun f e I6 G l6 hd hf=>.inr (dt.dJ [_] hf fun e' G' hf'=>.inr ⟨f,hd,hf'⟩)
 obtain⟨n,rfl,hv⟩:=hv
 exact⟨_,_,_,_,_,_,_,_,_,_,rfl,c.px t b (g s).2::(K++F0),hG.trans (cU fun z=>by simp only[cV,cY,c6];omega),.inl ⟨hL,_,K,rfl,⟨n,rfl,hv⟩,.refl _⟩⟩
theorem tS(hc:c.Of t){d:Int}(hl6:2≤l∧l≤6)(hMo:dQ c sub)(hKp:∀f,Kp c f sub)(hs1:l<6→wz c t (l+1) d sub)(hs2:l=6→zb c t 113 d sub):wz c t l d (c.xS l sub):=by
 intro b s I F F0 hl hF
 refine ib.vc (fun many bp bl n0 n1 n2 n3 n4 n5 a n k n7 m I' F'=>bp=some ⟨b,0,none⟩∧l=bl∧0≤many∧∃(x:Nd) (H:cR) (si:PS) (fuel:Nat),n0=x.kind∧n1=x.oper∧n2=x.dH∧n3=x.n∧n4=x.field∧n5=x.name∧a=x.a∧n=x.kids.length∧k=x.c∧n7=x.pos∧eH 64 false x H∧c.Live si ∧
  many≤si.next∧il c l sub (c.xS l sub s) many fuel x.px si∧c.l.length≤fuel+si.next∧m=c.l.length-si.next∧F'.Perm (c.px t b si::(H++F0))) ?_
 unfold ib.V
 intro b_p b_l b0
 refine⟨fun hlt=>?_,fun hlt=>?_⟩
 ·have hlt:=of_decide_eq_true hlt
  refine (xQ l I _).mono fun e I1 G l1 ⟨wa,wn,wk,he,hS,hn9,hG⟩=>?_
  subst he hG
  refine⟨_,_,_,_,rfl,F,.refl _, ?_⟩
  refine db.use (wA (by omega) (hs1 hlt) hl (.head _) (.tail _ (.head _)) (wm hF)) (fun v K I2 G l2 hL hv hG=>.inl ?_) fun f e I2 G l2 hd hf=>.inr ?_
  rotate_left
  ·obtain⟨ch,he,F2,hG2,hD⟩:=dt.dJ (I:=I2) (Q:=db c t b qd F0 (c.xS l sub s)) [_,_,_] hf fun e' G' hf'=>.inr ⟨f,vf hKp hd,hf'⟩
   exact⟨ch,he,_,_,F2,hG2,hD⟩
  obtain⟨x0,rfl,hpx0,hO0⟩:=hv
  have hRs:=il.start c l sub s
  rw[←hpx0] at hRs
  refine⟨_,_,_,_,_,_,_,_,_,_,rfl,_,_,c.px t b (sub s).2::(K++F0),hG.trans (cU fun z=>by simp only[cV,cY,c6];omega),fun b_n=>⟨⟨_,rfl,rfl,Int.le_refl 0,x0,K,(sub s).2,c.l.length,rfl,rfl,rfl,rfl,rfl,rfl,rfl,rfl,rfl,rfl,hO0,hL,by omega,hRs,by omega,rfl,.refl _⟩, ?_⟩⟩
  intro many bp bl n0 n1 n2 n3 n4 n5 a n k n7 m I3 F3 l3 ⟨gp,gl,g0,x,H,si,fuel,e0,e1,e2,e3,e4,e5,ea,en,ek,e7,hO,hLi,hmn,hR,hfu,gm,hFi⟩
  subst gp gl e0 e1 e2 e3 e4 e5 ea en ek e7 gm
  have lS:=l2
  refine⟨fun h4=>?_,fun h4=>⟨fun hm0=>?_,fun hm0=>?_⟩⟩
  ·have h4:l≠4:=by simpa using h4
   refine cZ.ret (ix hLi (eo.of (x8 hFi)) (hS.mono (cS.le_trans lS l3)) hn9) fun I4 l4=>⟨_,rfl,F3,.refl _,fun h=>?_,fun h=>?_⟩
   ·have h:=of_decide_eq_true h
    have e1:=hR.stop (.inl h)
    exact .inl ⟨by rw[e1];exact hLi,_,H,rfl,⟨x,rfl,by rw[e1],hO⟩,by rw[e1];exact hFi⟩
   ·have h:0≤c.any (rT l) si:=by have:=of_decide_eq_false h;omega
    have haw:=wu h
    have hkd:=iy hLi h
    have hR2:=hR.next (.inl h4) h g0 (show 0<fuel by have:=hLi.2;omega)
    refine⟨_,rfl,_,(eo.of (I:=I4) (x8 hFi)).rd.dR (p:=1) (q:=4) rfl, ?_⟩
    refine db.use (eB hc hLi hkd (x8 hFi)) (fun v K I5 G l5 hL5 hv hG=>.inl ?_) fun f e I5 G l5 hd hf=>.inr (dt.dJ [_,_,_,_] hf fun e' G' hf'=>.inr ⟨f,hR2.dead hKp (by omega) (hKp _ _ hd),hf'.more⟩)
    obtain⟨rfl,rfl⟩:=hv
    refine⟨rfl,c.px t b si.inc::(H++F0),hG.trans (cU fun z=>by simp only[cV,cY,c6];omega), ?_⟩
    refine db.use (wA (F0:=_::_::_::_::(H++F0)) (by omega) (hs1 hlt) hL5 (.head _) (.tail _ (.head _)) (x8 (.refl _))) (fun v K I6 G l6 hL6 hv hG=>.inl ?_) fun f e I6 G l6 hd hf=>.inr (dt.dJ [_,_,_,_] hf fun e' G' hf'=>.inr ⟨f,hR2.dead hKp (by omega) hd,hf'.more⟩)
    obtain⟨kn,rfl,hpx,hOk⟩:=hv
    have hup:=hMo si.inc
    have hnx:si.inc.next=si.next+1:=rfl
    refine⟨_,_,_,_,_,_,_,_,_,_,rfl,c.px t b (sub si.inc).2::(K++(H++F0)),hG.trans (cU fun z=>by simp only[cV,cY,c6];omega),fun b1=>⟨c.l.length-(sub si.inc).2.next, ?_,rfl,rfl, ?_,.mk 6 (AX l+c.any (rT l) si) 0 0 0 ⟨#[]⟩ (some ⟨b1,0,none⟩) 2 [x,kn] (c.tok si.next).pos,(b1,.cells (x.enc++kn.enc).toArray 64 (0,0))::(H++(K++[])),(sub si.inc).2,fuel-1,rfl, ?_,rfl,rfl,rfl,rfl,rfl,rfl,rfl,rfl,eH.two hO hOk,hL6, ?_, ?_, ?_,rfl, ?_⟩⟩
    ·have:=hLi.2;have:=hup.1;omega
    ·rw[gU (n:=many+1) (by have:=hLi.2;have:=hc.qs;omega)];omega
    ·have:=wv l;rw[w8 (n:=c.any (rT l) si) (by omega),w8 (by omega)];rfl
    ·rw[gU (n:=many+1) (by have:=hLi.2;have:=hc.qs;omega)];have:=hup.1;omega
    ·rw[gU (n:=many+1) (by have:=hLi.2;have:=hc.qs;omega),hLi.now] at *
     simp only[Nd.px,Nd.xp,hpx];exact hR2
    ·have:=hup.1;omega
    ·show List.Perm ((b1,Obj.cells (x.enc++kn.enc).toArray 64 (0,0))::_) _
     exact cU fun z=>by simp only[cV,cY,c6];omega
  ·have h4:l=4:=by simpa using h4
   have hm0:many=0:=by simpa using hm0
   refine cZ.ret (ix hLi (eo.of (x8 hFi)) (hS.mono (cS.le_trans lS l3)) hn9) fun I4 l4=>⟨_,rfl,F3,.refl _,fun h=>?_,fun h=>?_⟩
   ·have h:=of_decide_eq_true h
    have e1:=hR.stop (.inl h)
    exact .inl ⟨by rw[e1];exact hLi,_,H,rfl,⟨x,rfl,by rw[e1],hO⟩,by rw[e1];exact hFi⟩
   ·have h:0≤c.any (rT l) si:=by have:=of_decide_eq_false h;omega
    have haw:=wu h
    have hkd:=iy hLi h
    have hR2:=hR.next (.inr hm0) h g0 (show 0<fuel by have:=hLi.2;omega)
    refine⟨_,rfl,_,(eo.of (I:=I4) (x8 hFi)).rd.dR (p:=1) (q:=4) rfl, ?_⟩
    refine db.use (eB hc hLi hkd (x8 hFi)) (fun v K I5 G l5 hL5 hv hG=>.inl ?_) fun f e I5 G l5 hd hf=>.inr (dt.dJ [_,_,_,_] hf fun e' G' hf'=>.inr ⟨f,hR2.dead hKp (by omega) (hKp _ _ hd),hf'.more⟩)
    obtain⟨rfl,rfl⟩:=hv
    refine⟨rfl,c.px t b si.inc::(H++F0),hG.trans (cU fun z=>by simp only[cV,cY,c6];omega), ?_⟩
    refine db.use (wA (F0:=_::_::_::_::(H++F0)) (by omega) (hs1 hlt) hL5 (.head _) (.tail _ (.head _)) (x8 (.refl _))) (fun v K I6 G l6 hL6 hv hG=>.inl ?_) fun f e I6 G l6 hd hf=>.inr (dt.dJ [_,_,_,_] hf fun e' G' hf'=>.inr ⟨f,hR2.dead hKp (by omega) hd,hf'.more⟩)
    obtain⟨kn,rfl,hpx,hOk⟩:=hv
    have hup:=hMo si.inc
    have hnx:si.inc.next=si.next+1:=rfl
    refine⟨_,_,_,_,_,_,_,_,_,_,rfl,c.px t b (sub si.inc).2::(K++(H++F0)),hG.trans (cU fun z=>by simp only[cV,cY,c6];omega),fun b1=>⟨c.l.length-(sub si.inc).2.next, ?_,rfl,rfl, ?_,.mk 6 (AX l+c.any (rT l) si) 0 0 0 ⟨#[]⟩ (some ⟨b1,0,none⟩) 2 [x,kn] (c.tok si.next).pos,(b1,.cells (x.enc++kn.enc).toArray 64 (0,0))::(H++(K++[])),(sub si.inc).2,fuel-1,rfl, ?_,rfl,rfl,rfl,rfl,rfl,rfl,rfl,rfl,eH.two hO hOk,hL6, ?_, ?_, ?_,rfl, ?_⟩⟩
    ·have:=hLi.2;have:=hup.1;omega
    ·rw[gU (n:=many+1) (by have:=hLi.2;have:=hc.qs;omega)];omega
    ·have:=wv l;rw[w8 (n:=c.any (rT l) si) (by omega),w8 (by omega)];rfl
    ·rw[gU (n:=many+1) (by have:=hLi.2;have:=hc.qs;omega)];have:=hup.1;omega
    ·rw[gU (n:=many+1) (by have:=hLi.2;have:=hc.qs;omega),hLi.now] at *
     simp only[Nd.px,Nd.xp,hpx];exact hR2
    ·have:=hup.1;omega
    ·show List.Perm ((b1,Obj.cells (x.enc++kn.enc).toArray 64 (0,0))::_) _
     exact cU fun z=>by simp only[cV,cY,c6];omega
  ·have h4:l=4:=by simpa using h4
   have hm0:many≠0:=by simpa using hm0
   have e1:=hR.stop (.inr ⟨h4,hm0⟩)
   exact .inl ⟨by rw[e1];exact hLi,_,H,rfl,⟨x,rfl,by rw[e1],hO⟩,by rw[e1];exact hFi⟩
 ·have h6:l=6:=by have:=of_decide_eq_false hlt;omega
  refine (xQ l I _).mono fun e I1 G l1 ⟨wa,wn,wk,he,hS,hn9,hG⟩=>?_
  subst he hG
  refine⟨_,_,_,_,rfl,F,.refl _, ?_⟩
  refine db.use (hs2 h6 b s I1 _ _ hl (wm hF)) (fun v K I2 G l2 hL hv hG=>.inl ?_) fun f e I2 G l2 hd hf=>.inr ?_
  rotate_left
  ·obtain⟨ch,he,F2,hG2,hD⟩:=dt.dJ (I:=I2) (Q:=db c t b qd F0 (c.xS l sub s)) [_,_,_] hf fun e' G' hf'=>.inr ⟨f,vf hKp hd,hf'⟩
   exact⟨ch,he,F2,hG2,hD⟩
  obtain⟨x0,rfl,hpx0,hO0⟩:=hv
  have hRs:=il.start c l sub s
  rw[←hpx0] at hRs
  refine⟨_,_,_,_,_,_,_,_,_,_,rfl,c.px t b (sub s).2::(K++F0),hG.trans (cU fun z=>by simp only[cV,cY,c6];omega),fun b_n=>⟨⟨_,rfl,rfl,Int.le_refl 0,x0,K,(sub s).2,c.l.length,rfl,rfl,rfl,rfl,rfl,rfl,rfl,rfl,rfl,rfl,hO0,hL,by omega,hRs,by omega,rfl,.refl _⟩, ?_⟩⟩
  intro many bp bl n0 n1 n2 n3 n4 n5 a n k n7 m I3 F3 l3 ⟨gp,gl,g0,x,H,si,fuel,e0,e1,e2,e3,e4,e5,ea,en,ek,e7,hO,hLi,hmn,hR,hfu,gm,hFi⟩
  subst gp gl e0 e1 e2 e3 e4 e5 ea en ek e7 gm
  have lS:=l2
  refine⟨fun h4=>?_,fun h4=>⟨fun hm0=>?_,fun hm0=>?_⟩⟩
  ·have h4:l≠4:=by simpa using h4
   refine cZ.ret (ix hLi (eo.of (x8 hFi)) (hS.mono (cS.le_trans lS l3)) hn9) fun I4 l4=>⟨_,rfl,F3,.refl _,fun h=>?_,fun h=>?_⟩
   ·have h:=of_decide_eq_true h
    have e1:=hR.stop (.inl h)
    exact .inl ⟨by rw[e1];exact hLi,_,H,rfl,⟨x,rfl,by rw[e1],hO⟩,by rw[e1];exact hFi⟩
   ·have h:0≤c.any (rT l) si:=by have:=of_decide_eq_false h;omega
    have haw:=wu h
    have hkd:=iy hLi h
    have hR2:=hR.next (.inl h4) h g0 (show 0<fuel by have:=hLi.2;omega)
    refine⟨_,rfl,_,(eo.of (I:=I4) (x8 hFi)).rd.dR (p:=1) (q:=4) rfl, ?_⟩
    refine db.use (eB hc hLi hkd (x8 hFi)) (fun v K I5 G l5 hL5 hv hG=>.inl ?_) fun f e I5 G l5 hd hf=>.inr (dt.dJ [_,_,_,_] hf fun e' G' hf'=>.inr ⟨f,hR2.dead hKp (by omega) (hKp _ _ hd),hf'.more⟩)
    obtain⟨rfl,rfl⟩:=hv
    refine⟨rfl,c.px t b si.inc::(H++F0),hG.trans (cU fun z=>by simp only[cV,cY,c6];omega), ?_⟩
    refine db.use (hs2 h6 b si.inc I5 _ (_::_::_::_::(H++F0)) hL5 (x8 (.refl _))) (fun v K I6 G l6 hL6 hv hG=>.inl ?_) fun f e I6 G l6 hd hf=>.inr (dt.dJ [_,_,_,_] hf fun e' G' hf'=>.inr ⟨f,hR2.dead hKp (by omega) hd,hf'.more⟩)
    obtain⟨kn,rfl,hpx,hOk⟩:=hv
    have hup:=hMo si.inc
    have hnx:si.inc.next=si.next+1:=rfl
    refine⟨_,_,_,_,_,_,_,_,_,_,rfl,c.px t b (sub si.inc).2::(K++(H++F0)),hG.trans (cU fun z=>by simp only[cV,cY,c6];omega),fun b1=>⟨c.l.length-(sub si.inc).2.next, ?_,rfl,rfl, ?_,.mk 6 (AX l+c.any (rT l) si) 0 0 0 ⟨#[]⟩ (some ⟨b1,0,none⟩) 2 [x,kn] (c.tok si.next).pos,(b1,.cells (x.enc++kn.enc).toArray 64 (0,0))::(H++(K++[])),(sub si.inc).2,fuel-1,rfl, ?_,rfl,rfl,rfl,rfl,rfl,rfl,rfl,rfl,eH.two hO hOk,hL6, ?_, ?_, ?_,rfl, ?_⟩⟩
    ·have:=hLi.2;have:=hup.1;omega
    ·rw[gU (n:=many+1) (by have:=hLi.2;have:=hc.qs;omega)];omega
    ·have:=wv l;rw[w8 (n:=c.any (rT l) si) (by omega),w8 (by omega)];rfl
    ·rw[gU (n:=many+1) (by have:=hLi.2;have:=hc.qs;omega)];have:=hup.1;omega
    ·rw[gU (n:=many+1) (by have:=hLi.2;have:=hc.qs;omega),hLi.now] at *
     simp only[Nd.px,Nd.xp,hpx];exact hR2
    ·have:=hup.1;omega
    ·show List.Perm ((b1,Obj.cells (x.enc++kn.enc).toArray 64 (0,0))::_) _
     exact cU fun z=>by simp only[cV,cY,c6];omega
  ·have h4:l=4:=by simpa using h4
   have hm0:many=0:=by simpa using hm0
   refine cZ.ret (ix hLi (eo.of (x8 hFi)) (hS.mono (cS.le_trans lS l3)) hn9) fun I4 l4=>⟨_,rfl,F3,.refl _,fun h=>?_,fun h=>?_⟩
   ·have h:=of_decide_eq_true h
    have e1:=hR.stop (.inl h)
    exact .inl ⟨by rw[e1];exact hLi,_,H,rfl,⟨x,rfl,by rw[e1],hO⟩,by rw[e1];exact hFi⟩
   ·have h:0≤c.any (rT l) si:=by have:=of_decide_eq_false h;omega
    have haw:=wu h
    have hkd:=iy hLi h
    have hR2:=hR.next (.inr hm0) h g0 (show 0<fuel by have:=hLi.2;omega)
    refine⟨_,rfl,_,(eo.of (I:=I4) (x8 hFi)).rd.dR (p:=1) (q:=4) rfl, ?_⟩
    refine db.use (eB hc hLi hkd (x8 hFi)) (fun v K I5 G l5 hL5 hv hG=>.inl ?_) fun f e I5 G l5 hd hf=>.inr (dt.dJ [_,_,_,_] hf fun e' G' hf'=>.inr ⟨f,hR2.dead hKp (by omega) (hKp _ _ hd),hf'.more⟩)
    obtain⟨rfl,rfl⟩:=hv
    refine⟨rfl,c.px t b si.inc::(H++F0),hG.trans (cU fun z=>by simp only[cV,cY,c6];omega), ?_⟩
    refine db.use (hs2 h6 b si.inc I5 _ (_::_::_::_::(H++F0)) hL5 (x8 (.refl _))) (fun v K I6 G l6 hL6 hv hG=>.inl ?_) fun f e I6 G l6 hd hf=>.inr (dt.dJ [_,_,_,_] hf fun e' G' hf'=>.inr ⟨f,hR2.dead hKp (by omega) hd,hf'.more⟩)
    obtain⟨kn,rfl,hpx,hOk⟩:=hv
    have hup:=hMo si.inc
    have hnx:si.inc.next=si.next+1:=rfl
    refine⟨_,_,_,_,_,_,_,_,_,_,rfl,c.px t b (sub si.inc).2::(K++(H++F0)),hG.trans (cU fun z=>by simp only[cV,cY,c6];omega),fun b1=>⟨c.l.length-(sub si.inc).2.next, ?_,rfl,rfl, ?_,.mk 6 (AX l+c.any (rT l) si) 0 0 0 ⟨#[]⟩ (some ⟨b1,0,none⟩) 2 [x,kn] (c.tok si.next).pos,(b1,.cells (x.enc++kn.enc).toArray 64 (0,0))::(H++(K++[])),(sub si.inc).2,fuel-1,rfl, ?_,rfl,rfl,rfl,rfl,rfl,rfl,rfl,rfl,eH.two hO hOk,hL6, ?_, ?_, ?_,rfl, ?_⟩⟩
    ·have:=hLi.2;have:=hup.1;omega
    ·rw[gU (n:=many+1) (by have:=hLi.2;have:=hc.qs;omega)];omega
    ·have:=wv l;rw[w8 (n:=c.any (rT l) si) (by omega),w8 (by omega)];rfl
    ·rw[gU (n:=many+1) (by have:=hLi.2;have:=hc.qs;omega)];have:=hup.1;omega
    ·rw[gU (n:=many+1) (by have:=hLi.2;have:=hc.qs;omega),hLi.now] at *
     simp only[Nd.px,Nd.xp,hpx];exact hR2
    ·have:=hup.1;omega
    ·show List.Perm ((b1,Obj.cells (x.enc++kn.enc).toArray 64 (0,0))::_) _
     exact cU fun z=>by simp only[cV,cY,c6];omega
  ·have h4:l=4:=by simpa using h4
   have hm0:many≠0:=by simpa using hm0
   have e1:=hR.stop (.inr ⟨h4,hm0⟩)
   exact .inl ⟨by rw[e1];exact hLi,_,H,rfl,⟨x,rfl,by rw[e1],hO⟩,by rw[e1];exact hFi⟩
end
end Go.Lx
namespace Go.Lx
open Go.Vc
section
variable {c:PC} {t:ByteArray}
theorem eo.held{I:cS}{G:cR}{b:Nat}{k:Tok}{f:Int}:eo (cS.put I b (Dl t k f)) G t b k f:=.inl (by simp[cS.put])
theorem vg{s:PS}(hl:c.Live s){d:Int}(h1:d≤24):(d<24∧c.cT d s=s)∨(d=24∧(c.cT d s).over=true∧c.dD ⟨132,(c.tok s.next).pos,false⟩ (c.cT d s)):=by
 by_cases h:d<24
 ·exact .inl ⟨h,qK h⟩
 ·have:d=24:=by omega
  subst this
  exact .inr ⟨rfl,ma hl⟩
theorem Cp(hc:c.Of t){nx:Lv}{d:Int}(h0:0≤d)(h1:d≤24)(hx:d<24→zb c t 47 (d+1) nx.ex)(hu:d<24→zb c t 113 (d+1) nx.un)(hkp:∀f,Kp c f nx.ex)(hku:∀f,Kp c f nx.un) :
  zb c t 113 d (c.unary nx d):=by
 intro b s I F F0 hl hF
 have hn:=hl.now
 refine gz.vc ?_
 unfold gz.V
 intro b0 b1 I1 l1 hb1
 refine cZ.ret (ix hl (eo.of (wj hF)) (words (ws:=k9) hb1 rfl) (by decide)) fun I2 l2=>⟨_,rfl,F,.refl _,fun h=>?_,fun h=>?_⟩
 ·have h:=of_decide_eq_true h
  have e1:c.unary nx d s=c.one nx d s:=by unfold PC.unary;rw[if_pos h]
  rw[e1]
  refine db.use (AZ hc h0 h1 hx hkp hl (wj hF)) (fun v K I6 G l6 hL hv hG=>.inl ?_) fun f e I6 G l6 hd hf=>.inr (dt.dJ [_] hf fun e' G' hf'=>.inr ⟨f,hd,hf'⟩)
  obtain⟨n,rfl,hv⟩:=hv
  exact⟨_,_,_,_,_,_,_,_,_,_,rfl,c.px t b (c.one nx d s).2::(K++F0),hG.trans (cU fun z=>by simp only[cV,cY,c6];omega),.inl ⟨hL,_,K,rfl,⟨n,rfl,hv⟩,.refl _⟩⟩
 have hge:¬c.any k9 s<0:=of_decide_eq_false h
 have hlt:c.any k9 s<2:=(dB (Int.not_lt.1 hge)).2
 have hkd:=iy hl (Int.not_lt.1 hge)
 refine⟨b,Dl t (c.tok s.next) (js (c.tok s.next)),F0,hF,_,rfl,_,eo.held.rd.dR (p:=1) (q:=4) rfl, ?_⟩
 refine (oj eo.held h0 h1).mono fun e I4 G l4 hd=>?_
 have hdp:=vg hl h1
 rcases hd with ⟨hlt2,rfl,rfl⟩ | ⟨rfl,hf⟩
 rotate_left
 ·obtain⟨_,g1,g2⟩:=hdp.resolve_left fun h=>by omega
  have e1:c.unary nx 24 s=(eU,c.cT 24 s):=by unfold PC.unary;rw[if_neg hge,g1,if_pos rfl]
  rw[e1]
  exact .inr (dt.dJ (I:=I4.del b) (Q:=fun e J G=>db c t b qd F0 (eU,c.cT 24 s) e J ((b,Dl t (c.tok s.next) (js (c.tok s.next)))::G)) [_] hf fun e' G' hf'=>.inr ⟨_,g2,hf'.DK⟩)
 obtain⟨_,g1⟩:=hdp.resolve_right fun h=>by omega
 have e1:c.unary nx d s=(.mk 5 (1+c.any k9 s) 0 0 0 ⟨#[]⟩ [(nx.un s.inc).1] (c.tok s.next).pos,(nx.un s.inc).2):=by unfold PC.unary;rw[if_neg hge,g1,hl.1,if_neg (by simp),hn]
 rw[e1]
 refine .inl ⟨_,rfl,F0,.refl _, ?_⟩
 refine db.use (eB hc hl hkd (F:=_::(c.px t b s::F0)) (wj (.refl _))) (fun v K I6 G l6 hL hv hG=>.inl ?_) fun f e I6 G l6 hd hf=>.inr (dt.dJ [_] hf fun e' G' hf'=>.inr ⟨f,hku f _ hd,hf'⟩)
 obtain⟨rfl,rfl⟩:=hv
 refine⟨rfl,c.px t b s.inc::F0,hG.trans (cU fun z=>by simp only[cV,cY,c6];omega), ?_⟩
 refine db.use (hu hlt2 b s.inc I6 _ _ hL (wj (.refl _))) (fun v K I7 G l7 hL7 hv hG=>.inl ?_) fun f e I7 G l7 hd hf=>.inr (dt.dJ [_] hf fun e' G' hf'=>.inr ⟨f,hd,hf'⟩)
 obtain⟨n7,rfl,hpx7,hO7⟩:=hv
 refine⟨_,_,_,_,_,_,_,_,_,_,rfl,c.px t b (nx.un s.inc).2::(K++F0),hG.trans (cU fun z=>by simp only[cV,cY,c6];omega),fun b2=>?_⟩
 refine .inl ⟨hL7,_,(b2,.cells n7.enc.toArray 64 (0,0))::(K++[]), ?_,⟨.mk 5 (1+c.any k9 s) 0 0 0 ⟨#[]⟩ (some ⟨b2,0,none⟩) 1 [n7] (c.tok s.next).pos,rfl, ?_,eH.G0 hO7⟩, ?_⟩
 ·rw[w8 (n:=c.any k9 s) (by omega),w8 (by omega)];rfl
 ·simp only[Nd.px,Nd.xp,hpx7]
 ·show List.Perm ((b2,Obj.cells n7.enc.toArray 64 (0,0))::_) _
  exact cU fun z=>by simp only[cV,cY,c6];omega
theorem Dq(hc:c.Of t){nx:Lv}{d:Int}(h0:0≤d)(h1:d≤24)(hx:d<24→zb c t 47 (d+1) nx.ex)(hkp:∀f,Kp c f nx.ex)(hor:wz c t 2 d (c.or nx d)):zb c t 47 d (c.expr nx d):=by
 intro b s I F F0 hl hF
 refine gN.vc ?_
 unfold gN.V
 intro b0
 have ex_:c.expr nx d s=if c.ej (⟨#[63]⟩:ByteArray) (c.or nx d s).2 then (if (c.cT d (c.or nx d s).2).over then (eU,c.cT d (c.or nx d s).2) else
   (.mk 7 0 0 0 0 ⟨#[]⟩ [(c.or nx d s).1,(nx.ex (c.cT d (c.or nx d s).2).inc).1,(nx.ex (c.take (⟨#[58]⟩:ByteArray) (nx.ex (c.cT d (c.or nx d s).2).inc).2).2).1] (c.now (c.cT d (c.or nx d s).2)).pos,(nx.ex (c.take (⟨#[58]⟩:ByteArray) (nx.ex (c.cT d (c.or nx d s).2).inc).2).2).2)) else c.or nx d s:=rfl
 refine db.use (hor b s I _ _ hl (wj hF)) (fun v K I1 G l1 hL hv hG=>.inl ?_) fun f e I1 G l1 hd hf=>.inr (dt.dJ [_] hf fun e' G' hf'=>.inr ⟨f,by rw[ex_,hd.ej];exact hd,hf'⟩)
 obtain⟨n,rfl,hpx,hO⟩:=hv
 generalize c.or nx d s=r at ex_ hL hpx hG
 have hn:=hL.now
 refine⟨_,_,_,_,_,_,_,_,_,_,rfl,c.px t b r.2::(K++F0),hG.trans (cU fun z=>by simp only[cV,cY,c6];omega),fun bn=>?_⟩
 refine cZ.ret (qe hL (eo.of (gI (.refl _))) (⟨#[63]⟩:ByteArray)) fun I2 l2=>⟨_,rfl,_,.refl _,fun h=>?_,fun h=>?_⟩
 ·have h:c.ej (⟨#[63]⟩:ByteArray) r.2=false:=by simpa using h
  rw[h] at ex_
  rw[ex_]
  exact .inl ⟨hL,_,K,rfl,⟨n,rfl,hpx,hO⟩,.refl _⟩
 have h:c.ej (⟨#[63]⟩:ByteArray) r.2=true:=by simpa using h
 have hkd:(c.tok r.2.next).kind≠0:=fun hk=>by
  unfold PC.ej at h;rw[hn,hk] at h;simp at h
 rw[if_pos h] at ex_
 refine⟨b,Dl t (c.tok r.2.next) (js (c.tok r.2.next)),K++F0,.refl _,_,rfl,_,eo.held.rd.dR (p:=1) (q:=4) rfl, ?_⟩
 refine (oj eo.held h0 h1).mono fun e I4 G l4 hd=>?_
 have hdp:=vg hL h1
 rcases hd with ⟨hlt2,rfl,rfl⟩ | ⟨rfl,hf⟩
 rotate_left
 ·obtain⟨_,g1,g2⟩:=hdp.resolve_left fun h=>by omega
  rw[g1,if_pos rfl] at ex_
  rw[ex_]
  exact .inr (dt.dJ (I:=I4.del b) (Q:=fun e J G=>db c t b qd F0 (eU,c.cT 24 r.2) e J ((b,Dl t (c.tok r.2.next) (js (c.tok r.2.next)))::G)) [_,_] hf fun e' G' hf'=>.inr ⟨_,g2,hf'.more.DK⟩)
 obtain⟨_,g1⟩:=hdp.resolve_right fun h=>by omega
 rw[g1,hL.1,if_neg (by simp),hn] at ex_
 rw[ex_]
 refine .inl ⟨_,rfl,K++F0,.refl _, ?_⟩
 refine db.use (eB hc hL hkd (F:=_::_::(c.px t b r.2::(K++F0))) (gI (.refl _))) (fun v J I6 G l6 hL6 hv hG=>.inl ?_) fun f e I6 G l6 hd hf=>.inr (dt.dJ [_,_] hf fun e' G' hf'=>.inr ⟨f,hkp f _ ((hkp f _ hd).take _),hf'.more⟩)
 obtain⟨rfl,rfl⟩:=hv
 refine⟨rfl,c.px t b r.2.inc::(K++F0),hG.trans (cU fun z=>by simp only[cV,cY,c6];omega), ?_⟩
 refine db.use (hx hlt2 b r.2.inc I6 _ _ hL6 (gI (.refl _))) (fun v J I7 G l7 hL7 hv hG=>.inl ?_) fun f e I7 G l7 hd hf=>.inr (dt.dJ [_,_] hf fun e' G' hf'=>.inr ⟨f,hkp f _ (hd.take _),hf'.more⟩)
 obtain⟨y,rfl,hpy,hOy⟩:=hv
 refine⟨_,_,_,_,_,_,_,_,_,_,rfl,c.px t b (nx.ex r.2.inc).2::(J++(K++F0)),hG.trans (cU fun z=>by simp only[cV,cY,c6];omega),fun by_ b1 I8 l8 hb1=>?_⟩
 refine db.use (eX hc hL7 hb1 (wm (.refl _))) (fun v L I9 G l9 hL9 hv hG=>.inl ?_) fun f e I9 G l9 hd hf=>.inr (dt.dJ [_,_,_] hf fun e' G' hf'=>.inr ⟨f,hkp f _ hd,hf'.more.more⟩)
 obtain⟨⟨i9,rfl⟩,rfl⟩:=hv
 refine⟨_,rfl,c.px t b (c.take (⟨#[58]⟩:ByteArray) (nx.ex r.2.inc).2).2::(J++(K++F0)),hG.trans (cU fun z=>by simp only[cV,cY,c6];omega), ?_⟩
 refine db.use (hx hlt2 b _ I9 _ _ hL9 (wm (.refl _))) (fun v L I10 G l10 hL10 hv hG=>.inl ?_) fun f e I10 G l10 hd hf=>.inr (dt.dJ [_,_,_] hf fun e' G' hf'=>.inr ⟨f,hd,hf'.more.more⟩)
 obtain⟨z,rfl,hpz,hOz⟩:=hv
 refine⟨_,_,_,_,_,_,_,_,_,_,rfl,c.px t b (nx.ex (c.take (⟨#[58]⟩:ByteArray) (nx.ex r.2.inc).2).2).2::(L++(J++(K++F0))),hG.trans (cU fun z=>by simp only[cV,cY,c6];omega),fun b2=>?_⟩
 refine .inl ⟨hL10,_,(b2,.cells (n.enc++(y.enc++z.enc)).toArray 64 (0,0))::(K++(J++(L++[]))),rfl,⟨.mk 7 0 0 0 0 ⟨#[]⟩ (some ⟨b2,0,none⟩) 3 [n,y,z] (c.tok r.2.next).pos,rfl, ?_,eH.three hO hOy hOz⟩, ?_⟩
 ·simp only[Nd.px,Nd.xp,hpx,hpy,hpz]
 ·show List.Perm ((b2,Obj.cells (n.enc++(y.enc++z.enc)).toArray 64 (0,0))::_) _
  exact cU fun z=>by simp only[cV,cY,c6];omega
theorem DL(hc:c.Of t){nx:Lv}{d:Int}(h0:0≤d)(h1:d≤24)(hx:d<24→zb c t 47 (d+1) nx.ex)(hu:d<24→zb c t 113 (d+1) nx.un)(hkp:∀f,Kp c f nx.ex)(hku:∀f,Kp c f nx.un)(hmx:dQ c nx.ex)(hmu:dQ c nx.un) :
  zb c t 47 d (c.expr nx d)∧zb c t 113 d (c.unary nx d):=by
 have u:=Cp hc h0 h1 hx hu hkp hku
 have r6:wz c t 6 d (c.product nx d):=tS hc (l:=6) (by decide) (Up.unary hmx hmu d) (fun f=>Kp.unary nx d) (fun h=>absurd h (by decide)) fun _=>u
 have r5:wz c t 5 d (c.sum nx d):=tS hc (l:=5) (by decide) (Up.product hmx hmu d) (fun f=>Kp.product nx d) (fun _=>r6) fun h=>absurd h (by decide)
 have r4:wz c t 4 d (c.compare nx d):=tS hc (l:=4) (by decide) (Up.sum hmx hmu d) (fun f=>Kp.sum nx d) (fun _=>r5) fun h=>absurd h (by decide)
 have r3:wz c t 3 d (c.and nx d):=tS hc (l:=3) (by decide) (Up.compare hmx hmu d) (fun f=>Kp.compare nx d) (fun _=>r4) fun h=>absurd h (by decide)
 have r2:wz c t 2 d (c.or nx d):=tS hc (l:=2) (by decide) (Up.and hmx hmu d) (fun f=>Kp.and nx d) (fun _=>r3) fun h=>absurd h (by decide)
 exact⟨Dq hc h0 h1 hx hkp r2,u⟩
theorem Cq(hc:c.Of t):∀(k:Nat) (d:Int),0≤d→d+k=24→zb c t 47 d (c.lvl k d).ex∧zb c t 113 d (c.lvl k d).un
 | 0,d,h0,h1=>DL hc h0 (by omega) (fun h=>by omega) (fun h=>by omega) (fun f s h=>h) (fun f s h=>h) (fun s=>.refl) fun s=>.refl
 | k+1,d,h0,h1=>by
   have ih:=Cq hc k (d+1) (by omega) (by omega)
   exact DL hc h0 (by omega) (fun _=>ih.1) (fun _=>ih.2) (fun f=>(Kp.lvl k (d+1)).1) (fun f=>(Kp.lvl k (d+1)).2) (Up.lvl k (d+1)).1 (Up.lvl k (d+1)).2
theorem nJ(hc:c.Of t):zb c t 47 0 c.dW:=(Cq hc 24 0 (by decide) (by decide)).1
end
end Go.Lx
namespace Go.Lx
open Go.Vc Go.Proofs.Tryz
def lG:List (Nat×List Sh):=[(0,[]),(3,[.one (.int .i64)]),(4,[.one .bool]),(9,[.one .str]),(39,[.one .slc]),(40,[.one .slc]),(41,[.one .slc]),(64,[.agg [(.int .u8),(.int .u8),(.int .u8),(.int .i64),(.int .u8),.str,.slc,(.int .i64)]]),(74,[.one (.int .u8)]),(86,[.one .slc]),(88,[.agg [.str,.slc,(.int .i64)]]),(104,[.agg [.str,(.int .u8),(.int .u8),(.int .u8),(.int .u8),(.int .i64),(.int .u8),.str,.slc,(.int .i64),(.int .i64)]]),(106,[.agg [.str,(.int .i64)]]),(108,[.one .slc]),(110,[.agg [(.int .u8),(.int .u8),(.int .u8),(.int .i64),(.int .u8),.str,.slc,(.int .i64),.slc,(.int .i64)]]),(112,[.one (.int .u8)]),(114,[.agg [(.int .u8),(.int .u8),.str,(.int .u8),(.int .u8),(.int .u8),(.int .i64),(.int .u8),.str,.slc,(.int .i64),(.int .u8),(.int .u8),(.int .u8),(.int .i64),(.int .u8),.str,.slc,(.int .i64),(.int .u8),(.int .u8),(.int .u8),(.int .i64),(.int .u8),.str,.slc,(.int .i64),(.int .u8),(.int .u8),(.int .u8),(.int .i64),(.int .u8),.str,.slc,(.int .i64),(.int .i64)]]),(208,[.agg [(.int .u8),(.int .u8),(.int .u8),(.int .i64),(.int .u8),.str,.slc,(.int .i64)],.one .bool])]
def ic.V(ka:Nat→Bs→Int→Int→Int→Int→Int→Int→Bs→OA→Nat→Nat→Int→Int→Nat×Obj)(kb:Bs→Int→Int→Int→Int→Int→Int→Bs→OA→Nat→Nat→Int→Int→Value)(nV:Int→Int→Int→Int→Int→Bs→OA→Nat→Nat→Int→Value)(nO:Int→Int→Int→Int→Int→Bs→OA→Nat→Nat→Int→Obj)(vb vi:Int→Value)(vs:Bs→Value)(vl:OA→Nat→Nat→Value)(vt:Bool→Value)(vp:OA→Value)(p:Addr)(I:cS)(F:cR)(Q:cW)  : Prop:=∀b:Nat,∃ad:Addr,some p=some ad∧∃(m:Int),Rd I ((ka b (⟨#[]⟩:Bs) 0 0 0 0 0 0 (⟨#[]⟩:Bs) none 0 0 0 0)::F) ((ad.add 1).add 4) [vi m]∧∀a:Nat,cZ P 64 (#[vp (some p)]) I ((ka b (⟨#[]⟩:Bs) 0 0 0 0 0 0 (⟨#[]⟩:Bs) none 0 0 0 0)::(ka a (⟨#[]⟩:Bs) 0 0 0 0 0 0 (⟨#[]⟩:Bs) none 0 0 0 m)::F) fun e1 I1 G1=>((e1=.returned (.tuple #[])∧∃F1:cR,List.Perm G1 ((ka b (⟨#[]⟩:Bs) 0 0 0 0 0 0 (⟨#[]⟩:Bs) none 0 0 0 0)::(ka a (⟨#[]⟩:Bs) 0 0 0 0 0 0 (⟨#[]⟩:Bs) none 0 0 0 m)::F1)∧cZ P 67 (#[vp (some p)]) I1 ((ka b (⟨#[]⟩:Bs) 0 0 0 0 0 0 (⟨#[]⟩:Bs) none 0 0 0 0)::(ka a (⟨#[]⟩:Bs) 0 0 0 0 0 0 (⟨#[]⟩:Bs) none 0 0 0 m)::F1) fun e2 I2 G2=>((∃(r:Bs),e2=.returned (vs r)∧∃F2:cR,List.Perm G2 ((ka b (⟨#[]⟩:Bs) 0 0 0 0 0 0 (⟨#[]⟩:Bs) none 0 0 0 0)::(ka a (⟨#[]⟩:Bs) 0 0 0 0 0 0 (⟨#[]⟩:Bs) none 0 0 0 m)::F2)∧∀(b1:Nat) (I3:cS),cS.le I2 I3→I3 b1=some (Obj.cells #[vs (⟨#[105,110,116]⟩:Bs),vs (⟨#[113,116,121]⟩:Bs),vs (⟨#[112,114,105,99,101]⟩:Bs),vs (⟨#[116,105,109,101]⟩:Bs),vs (⟨#[98,111,111,108]⟩:Bs),vs (⟨#[115,105,100,101]⟩:Bs)] 9 (0,0))→cZ P 66 (#[vp (some p),vl (some ⟨b1,0,none⟩) 6 6]) I3 ((ka b (⟨#[]⟩:Bs) 0 0 0 0 0 0 (⟨#[]⟩:Bs) none 0 0 0 0)::(ka a r 0 0 0 0 0 0 (⟨#[]⟩:Bs) none 0 0 0 m)::F2) fun e3 I4 G3=>((∃(r1:Int),e3=.returned (vi r1)∧∃F3:cR,List.Perm G3 ((ka b (⟨#[]⟩:Bs) 0 0 0 0 0 0 (⟨#[]⟩:Bs) none 0 0 0 0)::(ka a r 0 0 0 0 0 0 (⟨#[]⟩:Bs) none 0 0 0 m)::F3)∧∀(b2:Nat) (I5:cS),cS.le I4 I5→I5 b2=some (Obj.cells #[vs (⟨#[61]⟩:Bs)] 9 (0,0))→cZ P 66 (#[vp (some p),vl (some ⟨b2,0,none⟩) 1 1]) I5 ((ka b (⟨#[]⟩:Bs) 0 0 0 0 0 0 (⟨#[]⟩:Bs) none 0 0 0 0)::(ka a r (IntKind.wrap .u8 (1+(IntKind.wrap .u8 r1))) 0 0 0 0 0 (⟨#[]⟩:Bs) none 0 0 0 m)::F3) fun e4 I6 G4=>((∃(r2:Int),e4=.returned (vi r2)∧∃F4:cR,List.Perm G4 ((ka b (⟨#[]⟩:Bs) 0 0 0 0 0 0 (⟨#[]⟩:Bs) none 0 0 0 0)::(ka a r (IntKind.wrap .u8 (1+(IntKind.wrap .u8 r1))) 0 0 0 0 0 (⟨#[]⟩:Bs) none 0 0 0 m)::F4)∧∃(hb:Nat) (ho:Obj) (F5:cR),List.Perm F4 ((hb,ho)::F5)∧∃aR:Addr,some p=some aR∧∃(m1:Int),Rd (cS.put I6 hb ho) ([]) ((aR.add 1).add 4) [vi m1]∧cZ P 91 (#[vp (some p),vs (⟨#[45]⟩:Bs)]) (cS.put I6 hb ho) ((ka b (⟨#[]⟩:Bs) 0 0 0 0 0 0 (⟨#[]⟩:Bs) none 0 0 0 0)::(ka a r (IntKind.wrap .u8 (1+(IntKind.wrap .u8 r1))) 0 0 0 0 0 (⟨#[]⟩:Bs) none 0 0 0 m)::F5) fun e5 I7 G5=>∃(r3:Bool),e5=.returned (vt r3)∧∃F6:cR,List.Perm G5 ((ka b (⟨#[]⟩:Bs) 0 0 0 0 0 0 (⟨#[]⟩:Bs) none 0 0 0 0)::(ka a r (IntKind.wrap .u8 (1+(IntKind.wrap .u8 r1))) 0 0 0 0 0 (⟨#[]⟩:Bs) none 0 0 0 m)::F6)∧(It r3 (cZ P 64 (#[vp (some p)]) (cS.del I7 hb) ((ka b (⟨#[]⟩:Bs) 0 0 0 0 0 0 (⟨#[]⟩:Bs) none 0 0 0 0)::(ka a r (IntKind.wrap .u8 (1+(IntKind.wrap .u8 r1))) 0 0 0 0 0 (⟨#[]⟩:Bs) none 0 0 0 m)::((hb,ho)::F6)) fun e6 I8 G6=>((e6=.returned (.tuple #[])∧∃F7:cR,List.Perm G6 ((ka b (⟨#[]⟩:Bs) 0 0 0 0 0 0 (⟨#[]⟩:Bs) none 0 0 0 0)::(ka a r (IntKind.wrap .u8 (1+(IntKind.wrap .u8 r1))) 0 0 0 0 0 (⟨#[]⟩:Bs) none 0 0 0 m)::F7)∧∃aS:Addr,some p=some aS∧∃(m2:Int),Rd I8 ((ka b (⟨#[]⟩:Bs) 0 0 0 0 0 0 (⟨#[]⟩:Bs) none 0 0 0 0)::(ka a r (IntKind.wrap .u8 (1+(IntKind.wrap .u8 r1))) 0 0 0 0 0 (⟨#[]⟩:Bs) none 0 0 0 m)::F7) ((aS.add 1).add 0) [vb m2]∧(It (m2 != 3) (cZ P 65 (#[vp (some p),vi 130]) I8 ((ka b (⟨#[]⟩:Bs) 0 0 0 0 0 0 (⟨#[]⟩:Bs) none 0 0 0 0)::(ka a r (IntKind.wrap .u8 (1+(IntKind.wrap .u8 r1))) 0 0 0 0 0 (⟨#[]⟩:Bs) none 0 0 0 m)::F7) fun e7 I9 G7=>((e7=.returned (.tuple #[])∧∃F8:cR,List.Perm G7 ((ka b (⟨#[]⟩:Bs) 0 0 0 0 0 0 (⟨#[]⟩:Bs) none 0 0 0 0)::(ka a r (IntKind.wrap .u8 (1+(IntKind.wrap .u8 r1))) 0 0 0 0 0 (⟨#[]⟩:Bs) none 0 0 0 m)::F8)∧cZ P 105 (#[vp (some p)]) I9 ((ka b (⟨#[]⟩:Bs) 0 0 0 0 0 0 (⟨#[]⟩:Bs) none 0 0 0 0)::(ka a r (IntKind.wrap .u8 (1+(IntKind.wrap .u8 r1))) 0 0 0 0 0 (⟨#[]⟩:Bs) none 0 0 0 m)::F8) fun e8 I10 G8=>((∃(ac ae af ag ah:Int) (ai:Bs) (i:OA) (j k:Nat) (aj:Int) (aq:Bool),e8=.returned (.tuple #[nV ac ae af ag ah ai i j k aj,vt aq])∧∃F9:cR,List.Perm G8 ((ka b (⟨#[]⟩:Bs) 0 0 0 0 0 0 (⟨#[]⟩:Bs) none 0 0 0 0)::(ka a r (IntKind.wrap .u8 (1+(IntKind.wrap .u8 r1))) 0 0 0 0 0 (⟨#[]⟩:Bs) none 0 0 0 m)::F9)∧∀am:Nat,(It (!aq) (cZ P 65 (#[vp (some p),vi 130]) I10 ((ka b (⟨#[]⟩:Bs) 0 0 0 0 0 0 (⟨#[]⟩:Bs) none 0 0 0 0)::(ka a r (IntKind.wrap .u8 (1+(IntKind.wrap .u8 r1))) 0 0 0 0 0 (⟨#[]⟩:Bs) none 0 0 0 m)::(am,nO ac ae af ag ah ai i j k aj)::F9) fun e9 I11 G9=>((e9=.returned (.tuple #[])∧∃F10:cR,List.Perm G9 ((ka b (⟨#[]⟩:Bs) 0 0 0 0 0 0 (⟨#[]⟩:Bs) none 0 0 0 0)::(ka a r (IntKind.wrap .u8 (1+(IntKind.wrap .u8 r1))) 0 0 0 0 0 (⟨#[]⟩:Bs) none 0 0 0 m)::(am,nO ac ae af ag ah ai i j k aj)::F10)∧(It r3 (∀b3:Nat,∀(b4:Nat) (I12:cS),cS.le I11 I12→I12 b4=some (Obj.cells #[vs (⟨#[59]⟩:Bs)] 9 (0,0))→cZ P 66 (#[vp (some p),vl (some ⟨b4,0,none⟩) 1 1]) I12 ((ka b (⟨#[]⟩:Bs) 0 0 0 0 0 0 (⟨#[]⟩:Bs) none 0 0 0 0)::(ka a r (IntKind.wrap .u8 (1+(IntKind.wrap .u8 r1))) 5 1 0 0 0 (⟨#[]⟩:Bs) (some ⟨b3,0,none⟩) 1 1 m1 m)::(am,nO 5 1 0 0 0 (⟨#[]⟩:Bs) (some ⟨b3,0,none⟩) 1 1 m1)::((b3,nO ac ae af ag ah ai i j k aj)::F10)) fun a2 I13 G10=>((∃(r4:Int),a2=.returned (vi r4)∧∃F11:cR,List.Perm G10 ((ka b (⟨#[]⟩:Bs) 0 0 0 0 0 0 (⟨#[]⟩:Bs) none 0 0 0 0)::(ka a r (IntKind.wrap .u8 (1+(IntKind.wrap .u8 r1))) 5 1 0 0 0 (⟨#[]⟩:Bs) (some ⟨b3,0,none⟩) 1 1 m1 m)::(am,nO 5 1 0 0 0 (⟨#[]⟩:Bs) (some ⟨b3,0,none⟩) 1 1 m1)::F11)∧Q (.returned ((kb r (IntKind.wrap .u8 (1+(IntKind.wrap .u8 r1))) 5 1 0 0 0 (⟨#[]⟩:Bs) (some ⟨b3,0,none⟩) 1 1 m1 m))) I13 F11)∨(∃ch:List PanicEntry,a2=.panicked ch∧∃F12:cR,List.Perm G10 ((ka b (⟨#[]⟩:Bs) 0 0 0 0 0 0 (⟨#[]⟩:Bs) none 0 0 0 0)::(ka a r (IntKind.wrap .u8 (1+(IntKind.wrap .u8 r1))) 5 1 0 0 0 (⟨#[]⟩:Bs) (some ⟨b3,0,none⟩) 1 1 m1 m)::(am,nO 5 1 0 0 0 (⟨#[]⟩:Bs) (some ⟨b3,0,none⟩) 1 1 m1)::F12)∧Q (.panicked ch) I13 F12))) (∀(b5:Nat) (I14:cS),cS.le I11 I14→I14 b5=some (Obj.cells #[vs (⟨#[59]⟩:Bs)] 9 (0,0))→cZ P 66 (#[vp (some p),vl (some ⟨b5,0,none⟩) 1 1]) I14 ((ka b (⟨#[]⟩:Bs) 0 0 0 0 0 0 (⟨#[]⟩:Bs) none 0 0 0 0)::(ka a r (IntKind.wrap .u8 (1+(IntKind.wrap .u8 r1))) ac ae af ag ah ai i j k aj m)::(am,nO ac ae af ag ah ai i j k aj)::F10) fun a3 I15 G11=>((∃(r5:Int),a3=.returned (vi r5)∧∃F13:cR,List.Perm G11 ((ka b (⟨#[]⟩:Bs) 0 0 0 0 0 0 (⟨#[]⟩:Bs) none 0 0 0 0)::(ka a r (IntKind.wrap .u8 (1+(IntKind.wrap .u8 r1))) ac ae af ag ah ai i j k aj m)::(am,nO ac ae af ag ah ai i j k aj)::F13)∧Q (.returned ((kb r (IntKind.wrap .u8 (1+(IntKind.wrap .u8 r1))) ac ae af ag ah ai i j k aj m))) I15 F13)∨(∃aT:List PanicEntry,a3=.panicked aT∧∃F14:cR,List.Perm G11 ((ka b (⟨#[]⟩:Bs) 0 0 0 0 0 0 (⟨#[]⟩:Bs) none 0 0 0 0)::(ka a r (IntKind.wrap .u8 (1+(IntKind.wrap .u8 r1))) ac ae af ag ah ai i j k aj m)::(am,nO ac ae af ag ah ai i j k aj)::F14)∧Q (.panicked aT) I15 F14)))))∨(∃aU:List PanicEntry,e9=.panicked aU∧∃F15:cR,List.Perm G9 ((ka b (⟨#[]⟩:Bs) 0 0 0 0 0 0 (⟨#[]⟩:Bs) none 0 0 0 0)::(ka a r (IntKind.wrap .u8 (1+(IntKind.wrap .u8 r1))) 0 0 0 0 0 (⟨#[]⟩:Bs) none 0 0 0 m)::(am,nO ac ae af ag ah ai i j k aj)::F15)∧Q (.panicked aU) I11 F15))) (It r3 (∀b6:Nat,∀(b7:Nat) (I16:cS),cS.le I10 I16→I16 b7=some (Obj.cells #[vs (⟨#[59]⟩:Bs)] 9 (0,0))→cZ P 66 (#[vp (some p),vl (some ⟨b7,0,none⟩) 1 1]) I16 ((ka b (⟨#[]⟩:Bs) 0 0 0 0 0 0 (⟨#[]⟩:Bs) none 0 0 0 0)::(ka a r (IntKind.wrap .u8 (1+(IntKind.wrap .u8 r1))) 5 1 0 0 0 (⟨#[]⟩:Bs) (some ⟨b6,0,none⟩) 1 1 m1 m)::(am,nO 5 1 0 0 0 (⟨#[]⟩:Bs) (some ⟨b6,0,none⟩) 1 1 m1)::((b6,nO ac ae af ag ah ai i j k aj)::F9)) fun a4 I17 G12=>((∃(r6:Int),a4=.returned (vi r6)∧∃F16:cR,List.Perm G12 ((ka b (⟨#[]⟩:Bs) 0 0 0 0 0 0 (⟨#[]⟩:Bs) none 0 0 0 0)::(ka a r (IntKind.wrap .u8 (1+(IntKind.wrap .u8 r1))) 5 1 0 0 0 (⟨#[]⟩:Bs) (some ⟨b6,0,none⟩) 1 1 m1 m)::(am,nO 5 1 0 0 0 (⟨#[]⟩:Bs) (some ⟨b6,0,none⟩) 1 1 m1)::F16)∧Q (.returned ((kb r (IntKind.wrap .u8 (1+(IntKind.wrap .u8 r1))) 5 1 0 0 0 (⟨#[]⟩:Bs) (some ⟨b6,0,none⟩) 1 1 m1 m))) I17 F16)∨(∃aV:List PanicEntry,a4=.panicked aV∧∃F17:cR,List.Perm G12 ((ka b (⟨#[]⟩:Bs) 0 0 0 0 0 0 (⟨#[]⟩:Bs) none 0 0 0 0)::(ka a r (IntKind.wrap .u8 (1+(IntKind.wrap .u8 r1))) 5 1 0 0 0 (⟨#[]⟩:Bs) (some ⟨b6,0,none⟩) 1 1 m1 m)::(am,nO 5 1 0 0 0 (⟨#[]⟩:Bs) (some ⟨b6,0,none⟩) 1 1 m1)::F17)∧Q (.panicked aV) I17 F17))) (∀(b8:Nat) (I18:cS),cS.le I10 I18→I18 b8=some (Obj.cells #[vs (⟨#[59]⟩:Bs)] 9 (0,0))→cZ P 66 (#[vp (some p),vl (some ⟨b8,0,none⟩) 1 1]) I18 ((ka b (⟨#[]⟩:Bs) 0 0 0 0 0 0 (⟨#[]⟩:Bs) none 0 0 0 0)::(ka a r (IntKind.wrap .u8 (1+(IntKind.wrap .u8 r1))) ac ae af ag ah ai i j k aj m)::(am,nO ac ae af ag ah ai i j k aj)::F9) fun a5 I19 G13=>((∃(r7:Int),a5=.returned (vi r7)∧∃F18:cR,List.Perm G13 ((ka b (⟨#[]⟩:Bs) 0 0 0 0 0 0 (⟨#[]⟩:Bs) none 0 0 0 0)::(ka a r (IntKind.wrap .u8 (1+(IntKind.wrap .u8 r1))) ac ae af ag ah ai i j k aj m)::(am,nO ac ae af ag ah ai i j k aj)::F18)∧Q (.returned ((kb r (IntKind.wrap .u8 (1+(IntKind.wrap .u8 r1))) ac ae af ag ah ai i j k aj m))) I19 F18)∨(∃aW:List PanicEntry,a5=.panicked aW∧∃F19:cR,List.Perm G13 ((ka b (⟨#[]⟩:Bs) 0 0 0 0 0 0 (⟨#[]⟩:Bs) none 0 0 0 0)::(ka a r (IntKind.wrap .u8 (1+(IntKind.wrap .u8 r1))) ac ae af ag ah ai i j k aj m)::(am,nO ac ae af ag ah ai i j k aj)::F19)∧Q (.panicked aW) I19 F19))))))∨(∃aX:List PanicEntry,e8=.panicked aX∧∃F20:cR,List.Perm G8 ((ka b (⟨#[]⟩:Bs) 0 0 0 0 0 0 (⟨#[]⟩:Bs) none 0 0 0 0)::(ka a r (IntKind.wrap .u8 (1+(IntKind.wrap .u8 r1))) 0 0 0 0 0 (⟨#[]⟩:Bs) none 0 0 0 m)::F20)∧Q (.panicked aX) I10 F20)))∨(∃aY:List PanicEntry,e7=.panicked aY∧∃F21:cR,List.Perm G7 ((ka b (⟨#[]⟩:Bs) 0 0 0 0 0 0 (⟨#[]⟩:Bs) none 0 0 0 0)::(ka a r (IntKind.wrap .u8 (1+(IntKind.wrap .u8 r1))) 0 0 0 0 0 (⟨#[]⟩:Bs) none 0 0 0 m)::F21)∧Q (.panicked aY) I9 F21))) (cZ P 105 (#[vp (some p)]) I8 ((ka b (⟨#[]⟩:Bs) 0 0 0 0 0 0 (⟨#[]⟩:Bs) none 0 0 0 0)::(ka a r (IntKind.wrap .u8 (1+(IntKind.wrap .u8 r1))) 0 0 0 0 0 (⟨#[]⟩:Bs) none 0 0 0 m)::F7) fun a6 I20 G14=>((∃(l n o q s:Int) (t:Bs) (c:OA) (d e:Nat) (u:Int) (ar:Bool),a6=.returned (.tuple #[nV l n o q s t c d e u,vt ar])∧∃F22:cR,List.Perm G14 ((ka b (⟨#[]⟩:Bs) 0 0 0 0 0 0 (⟨#[]⟩:Bs) none 0 0 0 0)::(ka a r (IntKind.wrap .u8 (1+(IntKind.wrap .u8 r1))) 0 0 0 0 0 (⟨#[]⟩:Bs) none 0 0 0 m)::F22)∧∀ak:Nat,(It (!ar) (cZ P 65 (#[vp (some p),vi 130]) I20 ((ka b (⟨#[]⟩:Bs) 0 0 0 0 0 0 (⟨#[]⟩:Bs) none 0 0 0 0)::(ka a r (IntKind.wrap .u8 (1+(IntKind.wrap .u8 r1))) 0 0 0 0 0 (⟨#[]⟩:Bs) none 0 0 0 m)::(ak,nO l n o q s t c d e u)::F22) fun a7 I21 G15=>((a7=.returned (.tuple #[])∧∃F23:cR,List.Perm G15 ((ka b (⟨#[]⟩:Bs) 0 0 0 0 0 0 (⟨#[]⟩:Bs) none 0 0 0 0)::(ka a r (IntKind.wrap .u8 (1+(IntKind.wrap .u8 r1))) 0 0 0 0 0 (⟨#[]⟩:Bs) none 0 0 0 m)::(ak,nO l n o q s t c d e u)::F23)∧(It r3 (∀b9:Nat,∀(aJ:Nat) (I22:cS),cS.le I21 I22→I22 aJ=some (Obj.cells #[vs (⟨#[59]⟩:Bs)] 9 (0,0))→cZ P 66 (#[vp (some p),vl (some ⟨aJ,0,none⟩) 1 1]) I22 ((ka b (⟨#[]⟩:Bs) 0 0 0 0 0 0 (⟨#[]⟩:Bs) none 0 0 0 0)::(ka a r (IntKind.wrap .u8 (1+(IntKind.wrap .u8 r1))) 5 1 0 0 0 (⟨#[]⟩:Bs) (some ⟨b9,0,none⟩) 1 1 m1 m)::(ak,nO 5 1 0 0 0 (⟨#[]⟩:Bs) (some ⟨b9,0,none⟩) 1 1 m1)::((b9,nO l n o q s t c d e u)::F23)) fun a8 I23 G16=>((∃(r8:Int),a8=.returned (vi r8)∧∃F24:cR,List.Perm G16 ((ka b (⟨#[]⟩:Bs) 0 0 0 0 0 0 (⟨#[]⟩:Bs) none 0 0 0 0)::(ka a r (IntKind.wrap .u8 (1+(IntKind.wrap .u8 r1))) 5 1 0 0 0 (⟨#[]⟩:Bs) (some ⟨b9,0,none⟩) 1 1 m1 m)::(ak,nO 5 1 0 0 0 (⟨#[]⟩:Bs) (some ⟨b9,0,none⟩) 1 1 m1)::F24)∧Q (.returned ((kb r (IntKind.wrap .u8 (1+(IntKind.wrap .u8 r1))) 5 1 0 0 0 (⟨#[]⟩:Bs) (some ⟨b9,0,none⟩) 1 1 m1 m))) I23 F24)∨(∃aZ:List PanicEntry,a8=.panicked aZ∧∃F25:cR,List.Perm G16 ((ka b (⟨#[]⟩:Bs) 0 0 0 0 0 0 (⟨#[]⟩:Bs) none 0 0 0 0)::(ka a r (IntKind.wrap .u8 (1+(IntKind.wrap .u8 r1))) 5 1 0 0 0 (⟨#[]⟩:Bs) (some ⟨b9,0,none⟩) 1 1 m1 m)::(ak,nO 5 1 0 0 0 (⟨#[]⟩:Bs) (some ⟨b9,0,none⟩) 1 1 m1)::F25)∧Q (.panicked aZ) I23 F25))) (∀(aK:Nat) (I24:cS),cS.le I21 I24→I24 aK=some (Obj.cells #[vs (⟨#[59]⟩:Bs)] 9 (0,0))→cZ P 66 (#[vp (some p),vl (some ⟨aK,0,none⟩) 1 1]) I24 ((ka b (⟨#[]⟩:Bs) 0 0 0 0 0 0 (⟨#[]⟩:Bs) none 0 0 0 0)::(ka a r (IntKind.wrap .u8 (1+(IntKind.wrap .u8 r1))) l n o q s t c d e u m)::(ak,nO l n o q s t c d e u)::F23) fun a9 I25 G17=>((∃(r9:Int),a9=.returned (vi r9)∧∃F26:cR,List.Perm G17 ((ka b (⟨#[]⟩:Bs) 0 0 0 0 0 0 (⟨#[]⟩:Bs) none 0 0 0 0)::(ka a r (IntKind.wrap .u8 (1+(IntKind.wrap .u8 r1))) l n o q s t c d e u m)::(ak,nO l n o q s t c d e u)::F26)∧Q (.returned ((kb r (IntKind.wrap .u8 (1+(IntKind.wrap .u8 r1))) l n o q s t c d e u m))) I25 F26)∨(∃a0:List PanicEntry,a9=.panicked a0∧∃F27:cR,List.Perm G17 ((ka b (⟨#[]⟩:Bs) 0 0 0 0 0 0 (⟨#[]⟩:Bs) none 0 0 0 0)::(ka a r (IntKind.wrap .u8 (1+(IntKind.wrap .u8 r1))) l n o q s t c d e u m)::(ak,nO l n o q s t c d e u)::F27)∧Q (.panicked a0) I25 F27)))))∨(∃a1:List PanicEntry,a7=.panicked a1∧∃F28:cR,List.Perm G15 ((ka b (⟨#[]⟩:Bs) 0 0 0 0 0 0 (⟨#[]⟩:Bs) none 0 0 0 0)::(ka a r (IntKind.wrap .u8 (1+(IntKind.wrap .u8 r1))) 0 0 0 0 0 (⟨#[]⟩:Bs) none 0 0 0 m)::(ak,nO l n o q s t c d e u)::F28)∧Q (.panicked a1) I21 F28))) (It r3 (∀an:Nat,∀(aL:Nat) (I26:cS),cS.le I20 I26→I26 aL=some (Obj.cells #[vs (⟨#[59]⟩:Bs)] 9 (0,0))→cZ P 66 (#[vp (some p),vl (some ⟨aL,0,none⟩) 1 1]) I26 ((ka b (⟨#[]⟩:Bs) 0 0 0 0 0 0 (⟨#[]⟩:Bs) none 0 0 0 0)::(ka a r (IntKind.wrap .u8 (1+(IntKind.wrap .u8 r1))) 5 1 0 0 0 (⟨#[]⟩:Bs) (some ⟨an,0,none⟩) 1 1 m1 m)::(ak,nO 5 1 0 0 0 (⟨#[]⟩:Bs) (some ⟨an,0,none⟩) 1 1 m1)::((an,nO l n o q s t c d e u)::F22)) fun ba I27 G18=>((∃(bi:Int),ba=.returned (vi bi)∧∃F29:cR,List.Perm G18 ((ka b (⟨#[]⟩:Bs) 0 0 0 0 0 0 (⟨#[]⟩:Bs) none 0 0 0 0)::(ka a r (IntKind.wrap .u8 (1+(IntKind.wrap .u8 r1))) 5 1 0 0 0 (⟨#[]⟩:Bs) (some ⟨an,0,none⟩) 1 1 m1 m)::(ak,nO 5 1 0 0 0 (⟨#[]⟩:Bs) (some ⟨an,0,none⟩) 1 1 m1)::F29)∧Q (.returned ((kb r (IntKind.wrap .u8 (1+(IntKind.wrap .u8 r1))) 5 1 0 0 0 (⟨#[]⟩:Bs) (some ⟨an,0,none⟩) 1 1 m1 m))) I27 F29)∨(∃av:List PanicEntry,ba=.panicked av∧∃F30:cR,List.Perm G18 ((ka b (⟨#[]⟩:Bs) 0 0 0 0 0 0 (⟨#[]⟩:Bs) none 0 0 0 0)::(ka a r (IntKind.wrap .u8 (1+(IntKind.wrap .u8 r1))) 5 1 0 0 0 (⟨#[]⟩:Bs) (some ⟨an,0,none⟩) 1 1 m1 m)::(ak,nO 5 1 0 0 0 (⟨#[]⟩:Bs) (some ⟨an,0,none⟩) 1 1 m1)::F30)∧Q (.panicked av) I27 F30))) (∀(aM:Nat) (I28:cS),cS.le I20 I28→I28 aM=some (Obj.cells #[vs (⟨#[59]⟩:Bs)] 9 (0,0))→cZ P 66 (#[vp (some p),vl (some ⟨aM,0,none⟩) 1 1]) I28 ((ka b (⟨#[]⟩:Bs) 0 0 0 0 0 0 (⟨#[]⟩:Bs) none 0 0 0 0)::(ka a r (IntKind.wrap .u8 (1+(IntKind.wrap .u8 r1))) l n o q s t c d e u m)::(ak,nO l n o q s t c d e u)::F22) fun bb I29 G19=>((∃(bj:Int),bb=.returned (vi bj)∧∃F31:cR,List.Perm G19 ((ka b (⟨#[]⟩:Bs) 0 0 0 0 0 0 (⟨#[]⟩:Bs) none 0 0 0 0)::(ka a r (IntKind.wrap .u8 (1+(IntKind.wrap .u8 r1))) l n o q s t c d e u m)::(ak,nO l n o q s t c d e u)::F31)∧Q (.returned ((kb r (IntKind.wrap .u8 (1+(IntKind.wrap .u8 r1))) l n o q s t c d e u m))) I29 F31)∨(∃aw:List PanicEntry,bb=.panicked aw∧∃F32:cR,List.Perm G19 ((ka b (⟨#[]⟩:Bs) 0 0 0 0 0 0 (⟨#[]⟩:Bs) none 0 0 0 0)::(ka a r (IntKind.wrap .u8 (1+(IntKind.wrap .u8 r1))) l n o q s t c d e u m)::(ak,nO l n o q s t c d e u)::F32)∧Q (.panicked aw) I29 F32))))))∨(∃ax:List PanicEntry,a6=.panicked ax∧∃F33:cR,List.Perm G14 ((ka b (⟨#[]⟩:Bs) 0 0 0 0 0 0 (⟨#[]⟩:Bs) none 0 0 0 0)::(ka a r (IntKind.wrap .u8 (1+(IntKind.wrap .u8 r1))) 0 0 0 0 0 (⟨#[]⟩:Bs) none 0 0 0 m)::F33)∧Q (.panicked ax) I20 F33)))))∨(∃ay:List PanicEntry,e6=.panicked ay∧∃F34:cR,List.Perm G6 ((ka b (⟨#[]⟩:Bs) 0 0 0 0 0 0 (⟨#[]⟩:Bs) none 0 0 0 0)::(ka a r (IntKind.wrap .u8 (1+(IntKind.wrap .u8 r1))) 0 0 0 0 0 (⟨#[]⟩:Bs) none 0 0 0 m)::F34)∧Q (.panicked ay) I8 F34))) (cZ P 105 (#[vp (some p)]) (cS.del I7 hb) ((ka b (⟨#[]⟩:Bs) 0 0 0 0 0 0 (⟨#[]⟩:Bs) none 0 0 0 0)::(ka a r (IntKind.wrap .u8 (1+(IntKind.wrap .u8 r1))) 0 0 0 0 0 (⟨#[]⟩:Bs) none 0 0 0 m)::((hb,ho)::F6)) fun bc I30 G20=>((∃(v w x y z:Int) (aa:Bs) (f:OA) (g h:Nat) (ab:Int) (au:Bool),bc=.returned (.tuple #[nV v w x y z aa f g h ab,vt au])∧∃F35:cR,List.Perm G20 ((ka b (⟨#[]⟩:Bs) 0 0 0 0 0 0 (⟨#[]⟩:Bs) none 0 0 0 0)::(ka a r (IntKind.wrap .u8 (1+(IntKind.wrap .u8 r1))) 0 0 0 0 0 (⟨#[]⟩:Bs) none 0 0 0 m)::F35)∧∀al:Nat,(It (!au) (cZ P 65 (#[vp (some p),vi 130]) I30 ((ka b (⟨#[]⟩:Bs) 0 0 0 0 0 0 (⟨#[]⟩:Bs) none 0 0 0 0)::(ka a r (IntKind.wrap .u8 (1+(IntKind.wrap .u8 r1))) 0 0 0 0 0 (⟨#[]⟩:Bs) none 0 0 0 m)::(al,nO v w x y z aa f g h ab)::F35) fun bd I31 G21=>((bd=.returned (.tuple #[])∧∃F36:cR,List.Perm G21 ((ka b (⟨#[]⟩:Bs) 0 0 0 0 0 0 (⟨#[]⟩:Bs) none 0 0 0 0)::(ka a r (IntKind.wrap .u8 (1+(IntKind.wrap .u8 r1))) 0 0 0 0 0 (⟨#[]⟩:Bs) none 0 0 0 m)::(al,nO v w x y z aa f g h ab)::F36)∧(It r3 (∀ao:Nat,∀(aN:Nat) (I32:cS),cS.le I31 I32→I32 aN=some (Obj.cells #[vs (⟨#[59]⟩:Bs)] 9 (0,0))→cZ P 66 (#[vp (some p),vl (some ⟨aN,0,none⟩) 1 1]) I32 ((ka b (⟨#[]⟩:Bs) 0 0 0 0 0 0 (⟨#[]⟩:Bs) none 0 0 0 0)::(ka a r (IntKind.wrap .u8 (1+(IntKind.wrap .u8 r1))) 5 1 0 0 0 (⟨#[]⟩:Bs) (some ⟨ao,0,none⟩) 1 1 m1 m)::(al,nO 5 1 0 0 0 (⟨#[]⟩:Bs) (some ⟨ao,0,none⟩) 1 1 m1)::((ao,nO v w x y z aa f g h ab)::F36)) fun be I33 G22=>((∃(bk:Int),be=.returned (vi bk)∧∃F37:cR,List.Perm G22 ((ka b (⟨#[]⟩:Bs) 0 0 0 0 0 0 (⟨#[]⟩:Bs) none 0 0 0 0)::(ka a r (IntKind.wrap .u8 (1+(IntKind.wrap .u8 r1))) 5 1 0 0 0 (⟨#[]⟩:Bs) (some ⟨ao,0,none⟩) 1 1 m1 m)::(al,nO 5 1 0 0 0 (⟨#[]⟩:Bs) (some ⟨ao,0,none⟩) 1 1 m1)::F37)∧Q (.returned ((kb r (IntKind.wrap .u8 (1+(IntKind.wrap .u8 r1))) 5 1 0 0 0 (⟨#[]⟩:Bs) (some ⟨ao,0,none⟩) 1 1 m1 m))) I33 F37)∨(∃az:List PanicEntry,be=.panicked az∧∃F38:cR,List.Perm G22 ((ka b (⟨#[]⟩:Bs) 0 0 0 0 0 0 (⟨#[]⟩:Bs) none 0 0 0 0)::(ka a r (IntKind.wrap .u8 (1+(IntKind.wrap .u8 r1))) 5 1 0 0 0 (⟨#[]⟩:Bs) (some ⟨ao,0,none⟩) 1 1 m1 m)::(al,nO 5 1 0 0 0 (⟨#[]⟩:Bs) (some ⟨ao,0,none⟩) 1 1 m1)::F38)∧Q (.panicked az) I33 F38))) (∀(aO:Nat) (I34:cS),cS.le I31 I34→I34 aO=some (Obj.cells #[vs (⟨#[59]⟩:Bs)] 9 (0,0))→cZ P 66 (#[vp (some p),vl (some ⟨aO,0,none⟩) 1 1]) I34 ((ka b (⟨#[]⟩:Bs) 0 0 0 0 0 0 (⟨#[]⟩:Bs) none 0 0 0 0)::(ka a r (IntKind.wrap .u8 (1+(IntKind.wrap .u8 r1))) v w x y z aa f g h ab m)::(al,nO v w x y z aa f g h ab)::F36) fun bf I35 G23=>((∃(bl:Int),bf=.returned (vi bl)∧∃F39:cR,List.Perm G23 ((ka b (⟨#[]⟩:Bs) 0 0 0 0 0 0 (⟨#[]⟩:Bs) none 0 0 0 0)::(ka a r (IntKind.wrap .u8 (1+(IntKind.wrap .u8 r1))) v w x y z aa f g h ab m)::(al,nO v w x y z aa f g h ab)::F39)∧Q (.returned ((kb r (IntKind.wrap .u8 (1+(IntKind.wrap .u8 r1))) v w x y z aa f g h ab m))) I35 F39)∨(∃aA:List PanicEntry,bf=.panicked aA∧∃F40:cR,List.Perm G23 ((ka b (⟨#[]⟩:Bs) 0 0 0 0 0 0 (⟨#[]⟩:Bs) none 0 0 0 0)::(ka a r (IntKind.wrap .u8 (1+(IntKind.wrap .u8 r1))) v w x y z aa f g h ab m)::(al,nO v w x y z aa f g h ab)::F40)∧Q (.panicked aA) I35 F40)))))∨(∃aB:List PanicEntry,bd=.panicked aB∧∃F41:cR,List.Perm G21 ((ka b (⟨#[]⟩:Bs) 0 0 0 0 0 0 (⟨#[]⟩:Bs) none 0 0 0 0)::(ka a r (IntKind.wrap .u8 (1+(IntKind.wrap .u8 r1))) 0 0 0 0 0 (⟨#[]⟩:Bs) none 0 0 0 m)::(al,nO v w x y z aa f g h ab)::F41)∧Q (.panicked aB) I31 F41))) (It r3 (∀ap:Nat,∀(aP:Nat) (I36:cS),cS.le I30 I36→I36 aP=some (Obj.cells #[vs (⟨#[59]⟩:Bs)] 9 (0,0))→cZ P 66 (#[vp (some p),vl (some ⟨aP,0,none⟩) 1 1]) I36 ((ka b (⟨#[]⟩:Bs) 0 0 0 0 0 0 (⟨#[]⟩:Bs) none 0 0 0 0)::(ka a r (IntKind.wrap .u8 (1+(IntKind.wrap .u8 r1))) 5 1 0 0 0 (⟨#[]⟩:Bs) (some ⟨ap,0,none⟩) 1 1 m1 m)::(al,nO 5 1 0 0 0 (⟨#[]⟩:Bs) (some ⟨ap,0,none⟩) 1 1 m1)::((ap,nO v w x y z aa f g h ab)::F35)) fun bg I37 G24=>((∃(bm:Int),bg=.returned (vi bm)∧∃F42:cR,List.Perm G24 ((ka b (⟨#[]⟩:Bs) 0 0 0 0 0 0 (⟨#[]⟩:Bs) none 0 0 0 0)::(ka a r (IntKind.wrap .u8 (1+(IntKind.wrap .u8 r1))) 5 1 0 0 0 (⟨#[]⟩:Bs) (some ⟨ap,0,none⟩) 1 1 m1 m)::(al,nO 5 1 0 0 0 (⟨#[]⟩:Bs) (some ⟨ap,0,none⟩) 1 1 m1)::F42)∧Q (.returned ((kb r (IntKind.wrap .u8 (1+(IntKind.wrap .u8 r1))) 5 1 0 0 0 (⟨#[]⟩:Bs) (some ⟨ap,0,none⟩) 1 1 m1 m))) I37 F42)∨(∃aC:List PanicEntry,bg=.panicked aC∧∃F43:cR,List.Perm G24 ((ka b (⟨#[]⟩:Bs) 0 0 0 0 0 0 (⟨#[]⟩:Bs) none 0 0 0 0)::(ka a r (IntKind.wrap .u8 (1+(IntKind.wrap .u8 r1))) 5 1 0 0 0 (⟨#[]⟩:Bs) (some ⟨ap,0,none⟩) 1 1 m1 m)::(al,nO 5 1 0 0 0 (⟨#[]⟩:Bs) (some ⟨ap,0,none⟩) 1 1 m1)::F43)∧Q (.panicked aC) I37 F43))) (∀(aQ:Nat) (I38:cS),cS.le I30 I38→I38 aQ=some (Obj.cells #[vs (⟨#[59]⟩:Bs)] 9 (0,0))→cZ P 66 (#[vp (some p),vl (some ⟨aQ,0,none⟩) 1 1]) I38 ((ka b (⟨#[]⟩:Bs) 0 0 0 0 0 0 (⟨#[]⟩:Bs) none 0 0 0 0)::(ka a r (IntKind.wrap .u8 (1+(IntKind.wrap .u8 r1))) v w x y z aa f g h ab m)::(al,nO v w x y z aa f g h ab)::F35) fun bh I39 G25=>((∃(bn:Int),bh=.returned (vi bn)∧∃F44:cR,List.Perm G25 ((ka b (⟨#[]⟩:Bs) 0 0 0 0 0 0 (⟨#[]⟩:Bs) none 0 0 0 0)::(ka a r (IntKind.wrap .u8 (1+(IntKind.wrap .u8 r1))) v w x y z aa f g h ab m)::(al,nO v w x y z aa f g h ab)::F44)∧Q (.returned ((kb r (IntKind.wrap .u8 (1+(IntKind.wrap .u8 r1))) v w x y z aa f g h ab m))) I39 F44)∨(∃aD:List PanicEntry,bh=.panicked aD∧∃F45:cR,List.Perm G25 ((ka b (⟨#[]⟩:Bs) 0 0 0 0 0 0 (⟨#[]⟩:Bs) none 0 0 0 0)::(ka a r (IntKind.wrap .u8 (1+(IntKind.wrap .u8 r1))) v w x y z aa f g h ab m)::(al,nO v w x y z aa f g h ab)::F45)∧Q (.panicked aD) I39 F45))))))∨(∃aE:List PanicEntry,bc=.panicked aE∧∃F46:cR,List.Perm G20 ((ka b (⟨#[]⟩:Bs) 0 0 0 0 0 0 (⟨#[]⟩:Bs) none 0 0 0 0)::(ka a r (IntKind.wrap .u8 (1+(IntKind.wrap .u8 r1))) 0 0 0 0 0 (⟨#[]⟩:Bs) none 0 0 0 m)::F46)∧Q (.panicked aE) I30 F46)))))∨(∃aF:List PanicEntry,e4=.panicked aF∧∃F47:cR,List.Perm G4 ((ka b (⟨#[]⟩:Bs) 0 0 0 0 0 0 (⟨#[]⟩:Bs) none 0 0 0 0)::(ka a r (IntKind.wrap .u8 (1+(IntKind.wrap .u8 r1))) 0 0 0 0 0 (⟨#[]⟩:Bs) none 0 0 0 m)::F47)∧Q (.panicked aF) I6 F47)))∨(∃aG:List PanicEntry,e3=.panicked aG∧∃F48:cR,List.Perm G3 ((ka b (⟨#[]⟩:Bs) 0 0 0 0 0 0 (⟨#[]⟩:Bs) none 0 0 0 0)::(ka a r 0 0 0 0 0 0 (⟨#[]⟩:Bs) none 0 0 0 m)::F48)∧Q (.panicked aG) I4 F48)))∨(∃aH:List PanicEntry,e2=.panicked aH∧∃F49:cR,List.Perm G2 ((ka b (⟨#[]⟩:Bs) 0 0 0 0 0 0 (⟨#[]⟩:Bs) none 0 0 0 0)::(ka a (⟨#[]⟩:Bs) 0 0 0 0 0 0 (⟨#[]⟩:Bs) none 0 0 0 m)::F49)∧Q (.panicked aH) I2 F49)))∨(∃aI:List PanicEntry,e1=.panicked aI∧∃F50:cR,List.Perm G1 ((ka b (⟨#[]⟩:Bs) 0 0 0 0 0 0 (⟨#[]⟩:Bs) none 0 0 0 0)::(ka a (⟨#[]⟩:Bs) 0 0 0 0 0 0 (⟨#[]⟩:Bs) none 0 0 0 m)::F50)∧Q (.panicked aI) I1 F50))
theorem ic.vc{p:Addr}{I:cS}{F:cR}{Q:cW}  (h:ic.V (fun W a b c d e f g h i j k l m=>(W,Obj.cells #[.string a,.int .u8 b,.int .u8 c,.int .u8 d,.int .u8 e,.int .i64 f,.int .u8 g,.string h,.slice i j k,.int .i64 l,.int .i64 m] 104 (0,0))) (fun a b c d e f g h i j k l m=>.agg #[.string a,.int .u8 b,.int .u8 c,.int .u8 d,.int .u8 e,.int .i64 f,.int .u8 g,.string h,.slice i j k,.int .i64 l,.int .i64 m]) (fun k o t n f s a l c q=>.agg #[.int .u8 k,.int .u8 o,.int .u8 t,.int .i64 n,.int .u8 f,.string s,.slice a l c,.int .i64 q]) (fun k o t n f s a l c q=>.cells #[.int .u8 k,.int .u8 o,.int .u8 t,.int .i64 n,.int .u8 f,.string s,.slice a l c,.int .i64 q] 64 (0,0)) (.int .u8) (.int .i64) .string .slice .bool .pointer p I F Q):cZ P 69 #[.pointer (some p)] I F Q :=
 tw (A:=(fa [7000,9005,12001,14000] [64,65,66,67,105] [64,65,66,67,91,105] lG [] [4001,5001,17001] [15001] [] [] [(6,[0,1,2,3,5,4,6,7,8])] [] [] [(6,[4,1000],9)])) [64,65,66,67,91,105] func69 h
def gQ.V(ka:Nat→Bs→Int→Nat×Obj)(vi:Int→Value)(vs:Bs→Value)(p:Addr)(I:cS)(F:cR)(Q:cW)  : Prop:=∀b:Nat,∃ad:Addr,some p=some ad∧∃(m:Int),Rd I ((ka b (⟨#[]⟩:Bs) 0)::F) ((ad.add 1).add 4) [vi m]∧∀a:Nat,cZ P 64 (#[.pointer (some p)]) I ((ka b (⟨#[]⟩:Bs) 0)::(ka a (⟨#[]⟩:Bs) m)::F) fun e1 I1 G1=>((e1=.returned (.tuple #[])∧∃F1:cR,List.Perm G1 ((ka b (⟨#[]⟩:Bs) 0)::(ka a (⟨#[]⟩:Bs) m)::F1)∧cZ P 67 (#[.pointer (some p)]) I1 ((ka b (⟨#[]⟩:Bs) 0)::(ka a (⟨#[]⟩:Bs) m)::F1) fun e2 I2 G2=>((∃(r:Bs),e2=.returned (vs r)∧∃F2:cR,List.Perm G2 ((ka b (⟨#[]⟩:Bs) 0)::(ka a (⟨#[]⟩:Bs) m)::F2)∧∀(b1:Nat) (I3:cS),cS.le I2 I3→I3 b1=some (Obj.cells #[vs (⟨#[59]⟩:Bs)] 9 (0,0))→cZ P 66 (#[.pointer (some p),.slice (some ⟨b1,0,none⟩) 1 1]) I3 ((ka b (⟨#[]⟩:Bs) 0)::(ka a r m)::F2) fun e3 I4 G3=>((∃(r1:Int),e3=.returned (vi r1)∧∃F3:cR,List.Perm G3 ((ka b (⟨#[]⟩:Bs) 0)::(ka a r m)::F3)∧Q (.returned (.agg #[vs r,vi m])) I4 F3)∨(∃ch:List PanicEntry,e3=.panicked ch∧∃F4:cR,List.Perm G3 ((ka b (⟨#[]⟩:Bs) 0)::(ka a r m)::F4)∧Q (.panicked ch) I4 F4)))∨(∃c:List PanicEntry,e2=.panicked c∧∃F5:cR,List.Perm G2 ((ka b (⟨#[]⟩:Bs) 0)::(ka a (⟨#[]⟩:Bs) m)::F5)∧Q (.panicked c) I2 F5)))∨(∃d:List PanicEntry,e1=.panicked d∧∃F6:cR,List.Perm G1 ((ka b (⟨#[]⟩:Bs) 0)::(ka a (⟨#[]⟩:Bs) m)::F6)∧Q (.panicked d) I1 F6))
theorem gQ.vc{p:Addr}{I:cS}{F:cR}{Q:cW}  (h:gQ.V (fun W a b=>(W,Obj.cells #[.string a,.int .i64 b] 106 (0,0))) (.int .i64) .string p I F Q):cZ P 71 #[.pointer (some p)] I F Q :=
 tw (A:=(fa [] [64,66,67] [64,66,67] lG [] [4001] [] [] [] [] [])) [64,66,67] func71 h
def iC.V(ka:Nat→Int→Int→Bs→Int→Int→Int→Int→Int→Bs→OA→Nat→Nat→Int→Int→Int→Int→Int→Int→Bs→OA→Nat→Nat→Int→Int→Int→Int→Int→Int→Bs→OA→Nat→Nat→Int→Int→Int→Int→Int→Int→Bs→OA→Nat→Nat→Int→Int→Nat×Obj)(kb:Int→Int→Bs→Int→Int→Int→Int→Int→Bs→OA→Nat→Nat→Int→Int→Int→Int→Int→Int→Bs→OA→Nat→Nat→Int→Int→Int→Int→Int→Int→Bs→OA→Nat→Nat→Int→Int→Int→Int→Int→Int→Bs→OA→Nat→Nat→Int→Int→Value)(nV:Int→Int→Int→Int→Int→Bs→OA→Nat→Nat→Int→Value)(vb vi:Int→Value)(vs:Bs→Value)(vl:OA→Nat→Nat→Value)(vp:OA→Value)(p:Addr)(I:cS)(F:cR)(Q:cW)  : Prop:=∀b:Nat,∃ad:Addr,some p=some ad∧∃(m:Int),Rd I ((ka b 0 0 (⟨#[]⟩:Bs) 0 0 0 0 0 (⟨#[]⟩:Bs) none 0 0 0 0 0 0 0 0 (⟨#[]⟩:Bs) none 0 0 0 0 0 0 0 0 (⟨#[]⟩:Bs) none 0 0 0 0 0 0 0 0 (⟨#[]⟩:Bs) none 0 0 0 0)::F) ((ad.add 1).add 4) [vi m]∧∀a:Nat,∀(b1:Nat) (I1:cS),cS.le I I1→I1 b1=some (Obj.cells #[vs (⟨#[115,117,98,109,105,116]⟩:Bs),vs (⟨#[97,109,101,110,100]⟩:Bs),vs (⟨#[99,97,110,99,101,108]⟩:Bs),vs (⟨#[115,101,116]⟩:Bs),vs (⟨#[103,111,116,111]⟩:Bs),vs (⟨#[104,97,108,116]⟩:Bs)] 9 (0,0))→cZ P 66 (#[vp (some p),vl (some ⟨b1,0,none⟩) 6 6]) I1 ((ka b 0 0 (⟨#[]⟩:Bs) 0 0 0 0 0 (⟨#[]⟩:Bs) none 0 0 0 0 0 0 0 0 (⟨#[]⟩:Bs) none 0 0 0 0 0 0 0 0 (⟨#[]⟩:Bs) none 0 0 0 0 0 0 0 0 (⟨#[]⟩:Bs) none 0 0 0 0)::(ka a 0 0 (⟨#[]⟩:Bs) 0 0 0 0 0 (⟨#[]⟩:Bs) none 0 0 0 0 0 0 0 0 (⟨#[]⟩:Bs) none 0 0 0 0 0 0 0 0 (⟨#[]⟩:Bs) none 0 0 0 0 0 0 0 0 (⟨#[]⟩:Bs) none 0 0 0 m)::F) fun e1 I2 G1=>((∃(r:Int),e1=.returned (vi r)∧∃F1:cR,List.Perm G1 ((ka b 0 0 (⟨#[]⟩:Bs) 0 0 0 0 0 (⟨#[]⟩:Bs) none 0 0 0 0 0 0 0 0 (⟨#[]⟩:Bs) none 0 0 0 0 0 0 0 0 (⟨#[]⟩:Bs) none 0 0 0 0 0 0 0 0 (⟨#[]⟩:Bs) none 0 0 0 0)::(ka a 0 0 (⟨#[]⟩:Bs) 0 0 0 0 0 (⟨#[]⟩:Bs) none 0 0 0 0 0 0 0 0 (⟨#[]⟩:Bs) none 0 0 0 0 0 0 0 0 (⟨#[]⟩:Bs) none 0 0 0 0 0 0 0 0 (⟨#[]⟩:Bs) none 0 0 0 m)::F1)∧(It ((IntKind.wrap .u8 (1+(IntKind.wrap .u8 r)))==1) (cZ P 47 (#[vp (some p),vi 0]) I2 ((ka b 0 0 (⟨#[]⟩:Bs) 0 0 0 0 0 (⟨#[]⟩:Bs) none 0 0 0 0 0 0 0 0 (⟨#[]⟩:Bs) none 0 0 0 0 0 0 0 0 (⟨#[]⟩:Bs) none 0 0 0 0 0 0 0 0 (⟨#[]⟩:Bs) none 0 0 0 0)::(ka a (IntKind.wrap .u8 (1+(IntKind.wrap .u8 r))) 0 (⟨#[]⟩:Bs) 0 0 0 0 0 (⟨#[]⟩:Bs) none 0 0 0 0 0 0 0 0 (⟨#[]⟩:Bs) none 0 0 0 0 0 0 0 0 (⟨#[]⟩:Bs) none 0 0 0 0 0 0 0 0 (⟨#[]⟩:Bs) none 0 0 0 m)::F1) fun e2 I3 G2=>((∃(s t u v w:Int) (x:Bs) (f:OA) (g h:Nat) (y:Int),e2=.returned (nV s t u v w x f g h y)∧∃F2:cR,List.Perm G2 ((ka b 0 0 (⟨#[]⟩:Bs) 0 0 0 0 0 (⟨#[]⟩:Bs) none 0 0 0 0 0 0 0 0 (⟨#[]⟩:Bs) none 0 0 0 0 0 0 0 0 (⟨#[]⟩:Bs) none 0 0 0 0 0 0 0 0 (⟨#[]⟩:Bs) none 0 0 0 0)::(ka a (IntKind.wrap .u8 (1+(IntKind.wrap .u8 r))) 0 (⟨#[]⟩:Bs) 0 0 0 0 0 (⟨#[]⟩:Bs) none 0 0 0 0 0 0 0 0 (⟨#[]⟩:Bs) none 0 0 0 0 0 0 0 0 (⟨#[]⟩:Bs) none 0 0 0 0 0 0 0 0 (⟨#[]⟩:Bs) none 0 0 0 m)::F2)∧∀(b2:Nat) (I4:cS),cS.le I3 I4→I4 b2=some (Obj.cells #[vs (⟨#[111,102]⟩:Bs)] 9 (0,0))→cZ P 66 (#[vp (some p),vl (some ⟨b2,0,none⟩) 1 1]) I4 ((ka b 0 0 (⟨#[]⟩:Bs) 0 0 0 0 0 (⟨#[]⟩:Bs) none 0 0 0 0 0 0 0 0 (⟨#[]⟩:Bs) none 0 0 0 0 0 0 0 0 (⟨#[]⟩:Bs) none 0 0 0 0 0 0 0 0 (⟨#[]⟩:Bs) none 0 0 0 0)::(ka a (IntKind.wrap .u8 (1+(IntKind.wrap .u8 r))) 0 (⟨#[]⟩:Bs) s t u v w x f g h y 0 0 0 0 0 (⟨#[]⟩:Bs) none 0 0 0 0 0 0 0 0 (⟨#[]⟩:Bs) none 0 0 0 0 0 0 0 0 (⟨#[]⟩:Bs) none 0 0 0 m)::F2) fun e3 I5 G3=>((∃(r1:Int),e3=.returned (vi r1)∧∃F3:cR,List.Perm G3 ((ka b 0 0 (⟨#[]⟩:Bs) 0 0 0 0 0 (⟨#[]⟩:Bs) none 0 0 0 0 0 0 0 0 (⟨#[]⟩:Bs) none 0 0 0 0 0 0 0 0 (⟨#[]⟩:Bs) none 0 0 0 0 0 0 0 0 (⟨#[]⟩:Bs) none 0 0 0 0)::(ka a (IntKind.wrap .u8 (1+(IntKind.wrap .u8 r))) 0 (⟨#[]⟩:Bs) s t u v w x f g h y 0 0 0 0 0 (⟨#[]⟩:Bs) none 0 0 0 0 0 0 0 0 (⟨#[]⟩:Bs) none 0 0 0 0 0 0 0 0 (⟨#[]⟩:Bs) none 0 0 0 m)::F3)∧cZ P 47 (#[vp (some p),vi 0]) I5 ((ka b 0 0 (⟨#[]⟩:Bs) 0 0 0 0 0 (⟨#[]⟩:Bs) none 0 0 0 0 0 0 0 0 (⟨#[]⟩:Bs) none 0 0 0 0 0 0 0 0 (⟨#[]⟩:Bs) none 0 0 0 0 0 0 0 0 (⟨#[]⟩:Bs) none 0 0 0 0)::(ka a (IntKind.wrap .u8 (1+(IntKind.wrap .u8 r))) 0 (⟨#[]⟩:Bs) s t u v w x f g h y 0 0 0 0 0 (⟨#[]⟩:Bs) none 0 0 0 0 0 0 0 0 (⟨#[]⟩:Bs) none 0 0 0 0 0 0 0 0 (⟨#[]⟩:Bs) none 0 0 0 m)::F3) fun e4 I6 G4=>((∃(i j k l n:Int) (o:Bs) (c:OA) (d e:Nat) (q:Int),e4=.returned (nV i j k l n o c d e q)∧∃F4:cR,List.Perm G4 ((ka b 0 0 (⟨#[]⟩:Bs) 0 0 0 0 0 (⟨#[]⟩:Bs) none 0 0 0 0 0 0 0 0 (⟨#[]⟩:Bs) none 0 0 0 0 0 0 0 0 (⟨#[]⟩:Bs) none 0 0 0 0 0 0 0 0 (⟨#[]⟩:Bs) none 0 0 0 0)::(ka a (IntKind.wrap .u8 (1+(IntKind.wrap .u8 r))) 0 (⟨#[]⟩:Bs) s t u v w x f g h y 0 0 0 0 0 (⟨#[]⟩:Bs) none 0 0 0 0 0 0 0 0 (⟨#[]⟩:Bs) none 0 0 0 0 0 0 0 0 (⟨#[]⟩:Bs) none 0 0 0 m)::F4)∧∀(b3:Nat) (I7:cS),cS.le I6 I7→I7 b3=some (Obj.cells #[vs (⟨#[109,97,114,107,101,116]⟩:Bs),vs (⟨#[97,116]⟩:Bs)] 9 (0,0))→cZ P 66 (#[vp (some p),vl (some ⟨b3,0,none⟩) 2 2]) I7 ((ka b 0 0 (⟨#[]⟩:Bs) 0 0 0 0 0 (⟨#[]⟩:Bs) none 0 0 0 0 0 0 0 0 (⟨#[]⟩:Bs) none 0 0 0 0 0 0 0 0 (⟨#[]⟩:Bs) none 0 0 0 0 0 0 0 0 (⟨#[]⟩:Bs) none 0 0 0 0)::(ka a (IntKind.wrap .u8 (1+(IntKind.wrap .u8 r))) 2 (⟨#[]⟩:Bs) s t u v w x f g h y i j k l n o c d e q 0 0 0 0 0 (⟨#[]⟩:Bs) none 0 0 0 0 0 0 0 0 (⟨#[]⟩:Bs) none 0 0 0 m)::F4) fun e5 I8 G5=>((∃(r2:Int),e5=.returned (vi r2)∧∃F5:cR,List.Perm G5 ((ka b 0 0 (⟨#[]⟩:Bs) 0 0 0 0 0 (⟨#[]⟩:Bs) none 0 0 0 0 0 0 0 0 (⟨#[]⟩:Bs) none 0 0 0 0 0 0 0 0 (⟨#[]⟩:Bs) none 0 0 0 0 0 0 0 0 (⟨#[]⟩:Bs) none 0 0 0 0)::(ka a (IntKind.wrap .u8 (1+(IntKind.wrap .u8 r))) 2 (⟨#[]⟩:Bs) s t u v w x f g h y i j k l n o c d e q 0 0 0 0 0 (⟨#[]⟩:Bs) none 0 0 0 0 0 0 0 0 (⟨#[]⟩:Bs) none 0 0 0 m)::F5)∧(It (r2==1) (cZ P 47 (#[vp (some p),vi 0]) I8 ((ka b 0 0 (⟨#[]⟩:Bs) 0 0 0 0 0 (⟨#[]⟩:Bs) none 0 0 0 0 0 0 0 0 (⟨#[]⟩:Bs) none 0 0 0 0 0 0 0 0 (⟨#[]⟩:Bs) none 0 0 0 0 0 0 0 0 (⟨#[]⟩:Bs) none 0 0 0 0)::(ka a (IntKind.wrap .u8 (1+(IntKind.wrap .u8 r))) 2 (⟨#[]⟩:Bs) s t u v w x f g h y i j k l n o c d e q 0 0 0 0 0 (⟨#[]⟩:Bs) none 0 0 0 0 0 0 0 0 (⟨#[]⟩:Bs) none 0 0 0 m)::F5) fun e6 I9 G6=>((∃(ac ae af ag ah:Int) (ai:Bs) (z:OA) (aa ab:Nat) (aj:Int),e6=.returned (nV ac ae af ag ah ai z aa ab aj)∧∃F6:cR,List.Perm G6 ((ka b 0 0 (⟨#[]⟩:Bs) 0 0 0 0 0 (⟨#[]⟩:Bs) none 0 0 0 0 0 0 0 0 (⟨#[]⟩:Bs) none 0 0 0 0 0 0 0 0 (⟨#[]⟩:Bs) none 0 0 0 0 0 0 0 0 (⟨#[]⟩:Bs) none 0 0 0 0)::(ka a (IntKind.wrap .u8 (1+(IntKind.wrap .u8 r))) 2 (⟨#[]⟩:Bs) s t u v w x f g h y i j k l n o c d e q 0 0 0 0 0 (⟨#[]⟩:Bs) none 0 0 0 0 0 0 0 0 (⟨#[]⟩:Bs) none 0 0 0 m)::F6)∧∀(b4:Nat) (I10:cS),cS.le I9 I10→I10 b4=some (Obj.cells #[vb 1,vb 3,vb 4,vb 5] 112 (0,0))→∀(b5:Nat) (I11:cS),cS.le I10 I11→I11 b5=some (Obj.cells #[vs (⟨#[108,105,109,105,116]⟩:Bs),vs (⟨#[105,111,99]⟩:Bs),vs (⟨#[102,111,107]⟩:Bs),vs (⟨#[112,111,115,116]⟩:Bs)] 9 (0,0))→cZ P 66 (#[vp (some p),vl (some ⟨b5,0,none⟩) 4 4]) I11 ((ka b 0 0 (⟨#[]⟩:Bs) 0 0 0 0 0 (⟨#[]⟩:Bs) none 0 0 0 0 0 0 0 0 (⟨#[]⟩:Bs) none 0 0 0 0 0 0 0 0 (⟨#[]⟩:Bs) none 0 0 0 0 0 0 0 0 (⟨#[]⟩:Bs) none 0 0 0 0)::(ka a (IntKind.wrap .u8 (1+(IntKind.wrap .u8 r))) 2 (⟨#[]⟩:Bs) s t u v w x f g h y i j k l n o c d e q ac ae af ag ah ai z aa ab aj 0 0 0 0 0 (⟨#[]⟩:Bs) none 0 0 0 m)::F6) fun e7 I12 G7=>((∃(r3:Int),e7=.returned (vi r3)∧∃F7:cR,List.Perm G7 ((ka b 0 0 (⟨#[]⟩:Bs) 0 0 0 0 0 (⟨#[]⟩:Bs) none 0 0 0 0 0 0 0 0 (⟨#[]⟩:Bs) none 0 0 0 0 0 0 0 0 (⟨#[]⟩:Bs) none 0 0 0 0 0 0 0 0 (⟨#[]⟩:Bs) none 0 0 0 0)::(ka a (IntKind.wrap .u8 (1+(IntKind.wrap .u8 r))) 2 (⟨#[]⟩:Bs) s t u v w x f g h y i j k l n o c d e q ac ae af ag ah ai z aa ab aj 0 0 0 0 0 (⟨#[]⟩:Bs) none 0 0 0 m)::F7)∧((0≤r3∧r3<(4:Int))∧∃a2:Addr,some ⟨b4,0,none⟩=some a2∧∃(m1:Int),Rd I12 ((ka b 0 0 (⟨#[]⟩:Bs) 0 0 0 0 0 (⟨#[]⟩:Bs) none 0 0 0 0 0 0 0 0 (⟨#[]⟩:Bs) none 0 0 0 0 0 0 0 0 (⟨#[]⟩:Bs) none 0 0 0 0 0 0 0 0 (⟨#[]⟩:Bs) none 0 0 0 0)::(ka a (IntKind.wrap .u8 (1+(IntKind.wrap .u8 r))) 2 (⟨#[]⟩:Bs) s t u v w x f g h y i j k l n o c d e q ac ae af ag ah ai z aa ab aj 0 0 0 0 0 (⟨#[]⟩:Bs) none 0 0 0 m)::F7) (a2.add (Int.toNat r3*1)) [vb m1]∧jW P 91 (#[vp (some p),vs (⟨#[97,115]⟩:Bs)]) I12 ((ka b 0 0 (⟨#[]⟩:Bs) 0 0 0 0 0 (⟨#[]⟩:Bs) none 0 0 0 0 0 0 0 0 (⟨#[]⟩:Bs) none 0 0 0 0 0 0 0 0 (⟨#[]⟩:Bs) none 0 0 0 0 0 0 0 0 (⟨#[]⟩:Bs) none 0 0 0 0)::(ka a (IntKind.wrap .u8 (1+(IntKind.wrap .u8 r))) m1 (⟨#[]⟩:Bs) s t u v w x f g h y i j k l n o c d e q ac ae af ag ah ai z aa ab aj 0 0 0 0 0 (⟨#[]⟩:Bs) none 0 0 0 m)::·) F7 .bool fun r4 I13 F8=>(It r4 (cZ P 64 (#[vp (some p)]) I13 ((ka b 0 0 (⟨#[]⟩:Bs) 0 0 0 0 0 (⟨#[]⟩:Bs) none 0 0 0 0 0 0 0 0 (⟨#[]⟩:Bs) none 0 0 0 0 0 0 0 0 (⟨#[]⟩:Bs) none 0 0 0 0 0 0 0 0 (⟨#[]⟩:Bs) none 0 0 0 0)::(ka a (IntKind.wrap .u8 (1+(IntKind.wrap .u8 r))) m1 (⟨#[]⟩:Bs) s t u v w x f g h y i j k l n o c d e q ac ae af ag ah ai z aa ab aj 0 0 0 0 0 (⟨#[]⟩:Bs) none 0 0 0 m)::F8) fun e9 I14 G9=>((e9=.returned (.tuple #[])∧∃F9:cR,List.Perm G9 ((ka b 0 0 (⟨#[]⟩:Bs) 0 0 0 0 0 (⟨#[]⟩:Bs) none 0 0 0 0 0 0 0 0 (⟨#[]⟩:Bs) none 0 0 0 0 0 0 0 0 (⟨#[]⟩:Bs) none 0 0 0 0 0 0 0 0 (⟨#[]⟩:Bs) none 0 0 0 0)::(ka a (IntKind.wrap .u8 (1+(IntKind.wrap .u8 r))) m1 (⟨#[]⟩:Bs) s t u v w x f g h y i j k l n o c d e q ac ae af ag ah ai z aa ab aj 0 0 0 0 0 (⟨#[]⟩:Bs) none 0 0 0 m)::F9)∧cZ P 67 (#[vp (some p)]) I14 ((ka b 0 0 (⟨#[]⟩:Bs) 0 0 0 0 0 (⟨#[]⟩:Bs) none 0 0 0 0 0 0 0 0 (⟨#[]⟩:Bs) none 0 0 0 0 0 0 0 0 (⟨#[]⟩:Bs) none 0 0 0 0 0 0 0 0 (⟨#[]⟩:Bs) none 0 0 0 0)::(ka a (IntKind.wrap .u8 (1+(IntKind.wrap .u8 r))) m1 (⟨#[]⟩:Bs) s t u v w x f g h y i j k l n o c d e q ac ae af ag ah ai z aa ab aj 0 0 0 0 0 (⟨#[]⟩:Bs) none 0 0 0 m)::F9) fun bc I15 G10=>((∃(r5:Bs),bc=.returned (vs r5)∧∃F10:cR,List.Perm G10 ((ka b 0 0 (⟨#[]⟩:Bs) 0 0 0 0 0 (⟨#[]⟩:Bs) none 0 0 0 0 0 0 0 0 (⟨#[]⟩:Bs) none 0 0 0 0 0 0 0 0 (⟨#[]⟩:Bs) none 0 0 0 0 0 0 0 0 (⟨#[]⟩:Bs) none 0 0 0 0)::(ka a (IntKind.wrap .u8 (1+(IntKind.wrap .u8 r))) m1 (⟨#[]⟩:Bs) s t u v w x f g h y i j k l n o c d e q ac ae af ag ah ai z aa ab aj 0 0 0 0 0 (⟨#[]⟩:Bs) none 0 0 0 m)::F10)∧Q (.returned ((kb (IntKind.wrap .u8 (1+(IntKind.wrap .u8 r))) m1 r5 s t u v w x f g h y i j k l n o c d e q ac ae af ag ah ai z aa ab aj 0 0 0 0 0 (⟨#[]⟩:Bs) none 0 0 0 m))) I15 F10)∨(∃ch:List PanicEntry,bc=.panicked ch∧∃F11:cR,List.Perm G10 ((ka b 0 0 (⟨#[]⟩:Bs) 0 0 0 0 0 (⟨#[]⟩:Bs) none 0 0 0 0 0 0 0 0 (⟨#[]⟩:Bs) none 0 0 0 0 0 0 0 0 (⟨#[]⟩:Bs) none 0 0 0 0 0 0 0 0 (⟨#[]⟩:Bs) none 0 0 0 0)::(ka a (IntKind.wrap .u8 (1+(IntKind.wrap .u8 r))) m1 (⟨#[]⟩:Bs) s t u v w x f g h y i j k l n o c d e q ac ae af ag ah ai z aa ab aj 0 0 0 0 0 (⟨#[]⟩:Bs) none 0 0 0 m)::F11)∧Q (.panicked ch) I15 F11)))∨(∃a3:List PanicEntry,e9=.panicked a3∧∃F12:cR,List.Perm G9 ((ka b 0 0 (⟨#[]⟩:Bs) 0 0 0 0 0 (⟨#[]⟩:Bs) none 0 0 0 0 0 0 0 0 (⟨#[]⟩:Bs) none 0 0 0 0 0 0 0 0 (⟨#[]⟩:Bs) none 0 0 0 0 0 0 0 0 (⟨#[]⟩:Bs) none 0 0 0 0)::(ka a (IntKind.wrap .u8 (1+(IntKind.wrap .u8 r))) m1 (⟨#[]⟩:Bs) s t u v w x f g h y i j k l n o c d e q ac ae af ag ah ai z aa ab aj 0 0 0 0 0 (⟨#[]⟩:Bs) none 0 0 0 m)::F12)∧Q (.panicked a3) I14 F12))) (Q (.returned ((kb (IntKind.wrap .u8 (1+(IntKind.wrap .u8 r))) m1 (⟨#[]⟩:Bs) s t u v w x f g h y i j k l n o c d e q ac ae af ag ah ai z aa ab aj 0 0 0 0 0 (⟨#[]⟩:Bs) none 0 0 0 m))) I13 F8))))∨(∃a4:List PanicEntry,e7=.panicked a4∧∃F13:cR,List.Perm G7 ((ka b 0 0 (⟨#[]⟩:Bs) 0 0 0 0 0 (⟨#[]⟩:Bs) none 0 0 0 0 0 0 0 0 (⟨#[]⟩:Bs) none 0 0 0 0 0 0 0 0 (⟨#[]⟩:Bs) none 0 0 0 0 0 0 0 0 (⟨#[]⟩:Bs) none 0 0 0 0)::(ka a (IntKind.wrap .u8 (1+(IntKind.wrap .u8 r))) 2 (⟨#[]⟩:Bs) s t u v w x f g h y i j k l n o c d e q ac ae af ag ah ai z aa ab aj 0 0 0 0 0 (⟨#[]⟩:Bs) none 0 0 0 m)::F13)∧Q (.panicked a4) I12 F13)))∨(∃a5:List PanicEntry,e6=.panicked a5∧∃F14:cR,List.Perm G6 ((ka b 0 0 (⟨#[]⟩:Bs) 0 0 0 0 0 (⟨#[]⟩:Bs) none 0 0 0 0 0 0 0 0 (⟨#[]⟩:Bs) none 0 0 0 0 0 0 0 0 (⟨#[]⟩:Bs) none 0 0 0 0 0 0 0 0 (⟨#[]⟩:Bs) none 0 0 0 0)::(ka a (IntKind.wrap .u8 (1+(IntKind.wrap .u8 r))) 2 (⟨#[]⟩:Bs) s t u v w x f g h y i j k l n o c d e q 0 0 0 0 0 (⟨#[]⟩:Bs) none 0 0 0 0 0 0 0 0 (⟨#[]⟩:Bs) none 0 0 0 m)::F14)∧Q (.panicked a5) I9 F14))) (jW P 91 (#[vp (some p),vs (⟨#[97,115]⟩:Bs)]) I8 ((ka b 0 0 (⟨#[]⟩:Bs) 0 0 0 0 0 (⟨#[]⟩:Bs) none 0 0 0 0 0 0 0 0 (⟨#[]⟩:Bs) none 0 0 0 0 0 0 0 0 (⟨#[]⟩:Bs) none 0 0 0 0 0 0 0 0 (⟨#[]⟩:Bs) none 0 0 0 0)::(ka a (IntKind.wrap .u8 (1+(IntKind.wrap .u8 r))) 2 (⟨#[]⟩:Bs) s t u v w x f g h y i j k l n o c d e q 0 0 0 0 0 (⟨#[]⟩:Bs) none 0 0 0 0 0 0 0 0 (⟨#[]⟩:Bs) none 0 0 0 m)::·) F5 .bool fun r6 I16 F15=>(It r6 (cZ P 64 (#[vp (some p)]) I16 ((ka b 0 0 (⟨#[]⟩:Bs) 0 0 0 0 0 (⟨#[]⟩:Bs) none 0 0 0 0 0 0 0 0 (⟨#[]⟩:Bs) none 0 0 0 0 0 0 0 0 (⟨#[]⟩:Bs) none 0 0 0 0 0 0 0 0 (⟨#[]⟩:Bs) none 0 0 0 0)::(ka a (IntKind.wrap .u8 (1+(IntKind.wrap .u8 r))) 2 (⟨#[]⟩:Bs) s t u v w x f g h y i j k l n o c d e q 0 0 0 0 0 (⟨#[]⟩:Bs) none 0 0 0 0 0 0 0 0 (⟨#[]⟩:Bs) none 0 0 0 m)::F15) fun bd I17 G12=>((bd=.returned (.tuple #[])∧∃F16:cR,List.Perm G12 ((ka b 0 0 (⟨#[]⟩:Bs) 0 0 0 0 0 (⟨#[]⟩:Bs) none 0 0 0 0 0 0 0 0 (⟨#[]⟩:Bs) none 0 0 0 0 0 0 0 0 (⟨#[]⟩:Bs) none 0 0 0 0 0 0 0 0 (⟨#[]⟩:Bs) none 0 0 0 0)::(ka a (IntKind.wrap .u8 (1+(IntKind.wrap .u8 r))) 2 (⟨#[]⟩:Bs) s t u v w x f g h y i j k l n o c d e q 0 0 0 0 0 (⟨#[]⟩:Bs) none 0 0 0 0 0 0 0 0 (⟨#[]⟩:Bs) none 0 0 0 m)::F16)∧cZ P 67 (#[vp (some p)]) I17 ((ka b 0 0 (⟨#[]⟩:Bs) 0 0 0 0 0 (⟨#[]⟩:Bs) none 0 0 0 0 0 0 0 0 (⟨#[]⟩:Bs) none 0 0 0 0 0 0 0 0 (⟨#[]⟩:Bs) none 0 0 0 0 0 0 0 0 (⟨#[]⟩:Bs) none 0 0 0 0)::(ka a (IntKind.wrap .u8 (1+(IntKind.wrap .u8 r))) 2 (⟨#[]⟩:Bs) s t u v w x f g h y i j k l n o c d e q 0 0 0 0 0 (⟨#[]⟩:Bs) none 0 0 0 0 0 0 0 0 (⟨#[]⟩:Bs) none 0 0 0 m)::F16) fun be I18 G13=>((∃(r7:Bs),be=.returned (vs r7)∧∃F17:cR,List.Perm G13 ((ka b 0 0 (⟨#[]⟩:Bs) 0 0 0 0 0 (⟨#[]⟩:Bs) none 0 0 0 0 0 0 0 0 (⟨#[]⟩:Bs) none 0 0 0 0 0 0 0 0 (⟨#[]⟩:Bs) none 0 0 0 0 0 0 0 0 (⟨#[]⟩:Bs) none 0 0 0 0)::(ka a (IntKind.wrap .u8 (1+(IntKind.wrap .u8 r))) 2 (⟨#[]⟩:Bs) s t u v w x f g h y i j k l n o c d e q 0 0 0 0 0 (⟨#[]⟩:Bs) none 0 0 0 0 0 0 0 0 (⟨#[]⟩:Bs) none 0 0 0 m)::F17)∧Q (.returned ((kb (IntKind.wrap .u8 (1+(IntKind.wrap .u8 r))) 2 r7 s t u v w x f g h y i j k l n o c d e q 0 0 0 0 0 (⟨#[]⟩:Bs) none 0 0 0 0 0 0 0 0 (⟨#[]⟩:Bs) none 0 0 0 m))) I18 F17)∨(∃a6:List PanicEntry,be=.panicked a6∧∃F18:cR,List.Perm G13 ((ka b 0 0 (⟨#[]⟩:Bs) 0 0 0 0 0 (⟨#[]⟩:Bs) none 0 0 0 0 0 0 0 0 (⟨#[]⟩:Bs) none 0 0 0 0 0 0 0 0 (⟨#[]⟩:Bs) none 0 0 0 0 0 0 0 0 (⟨#[]⟩:Bs) none 0 0 0 0)::(ka a (IntKind.wrap .u8 (1+(IntKind.wrap .u8 r))) 2 (⟨#[]⟩:Bs) s t u v w x f g h y i j k l n o c d e q 0 0 0 0 0 (⟨#[]⟩:Bs) none 0 0 0 0 0 0 0 0 (⟨#[]⟩:Bs) none 0 0 0 m)::F18)∧Q (.panicked a6) I18 F18)))∨(∃a7:List PanicEntry,bd=.panicked a7∧∃F19:cR,List.Perm G12 ((ka b 0 0 (⟨#[]⟩:Bs) 0 0 0 0 0 (⟨#[]⟩:Bs) none 0 0 0 0 0 0 0 0 (⟨#[]⟩:Bs) none 0 0 0 0 0 0 0 0 (⟨#[]⟩:Bs) none 0 0 0 0 0 0 0 0 (⟨#[]⟩:Bs) none 0 0 0 0)::(ka a (IntKind.wrap .u8 (1+(IntKind.wrap .u8 r))) 2 (⟨#[]⟩:Bs) s t u v w x f g h y i j k l n o c d e q 0 0 0 0 0 (⟨#[]⟩:Bs) none 0 0 0 0 0 0 0 0 (⟨#[]⟩:Bs) none 0 0 0 m)::F19)∧Q (.panicked a7) I17 F19))) (Q (.returned ((kb (IntKind.wrap .u8 (1+(IntKind.wrap .u8 r))) 2 (⟨#[]⟩:Bs) s t u v w x f g h y i j k l n o c d e q 0 0 0 0 0 (⟨#[]⟩:Bs) none 0 0 0 0 0 0 0 0 (⟨#[]⟩:Bs) none 0 0 0 m))) I16 F15)))))∨(∃a8:List PanicEntry,e5=.panicked a8∧∃F20:cR,List.Perm G5 ((ka b 0 0 (⟨#[]⟩:Bs) 0 0 0 0 0 (⟨#[]⟩:Bs) none 0 0 0 0 0 0 0 0 (⟨#[]⟩:Bs) none 0 0 0 0 0 0 0 0 (⟨#[]⟩:Bs) none 0 0 0 0 0 0 0 0 (⟨#[]⟩:Bs) none 0 0 0 0)::(ka a (IntKind.wrap .u8 (1+(IntKind.wrap .u8 r))) 2 (⟨#[]⟩:Bs) s t u v w x f g h y i j k l n o c d e q 0 0 0 0 0 (⟨#[]⟩:Bs) none 0 0 0 0 0 0 0 0 (⟨#[]⟩:Bs) none 0 0 0 m)::F20)∧Q (.panicked a8) I8 F20)))∨(∃a9:List PanicEntry,e4=.panicked a9∧∃F21:cR,List.Perm G4 ((ka b 0 0 (⟨#[]⟩:Bs) 0 0 0 0 0 (⟨#[]⟩:Bs) none 0 0 0 0 0 0 0 0 (⟨#[]⟩:Bs) none 0 0 0 0 0 0 0 0 (⟨#[]⟩:Bs) none 0 0 0 0 0 0 0 0 (⟨#[]⟩:Bs) none 0 0 0 0)::(ka a (IntKind.wrap .u8 (1+(IntKind.wrap .u8 r))) 0 (⟨#[]⟩:Bs) s t u v w x f g h y 0 0 0 0 0 (⟨#[]⟩:Bs) none 0 0 0 0 0 0 0 0 (⟨#[]⟩:Bs) none 0 0 0 0 0 0 0 0 (⟨#[]⟩:Bs) none 0 0 0 m)::F21)∧Q (.panicked a9) I6 F21)))∨(∃ba:List PanicEntry,e3=.panicked ba∧∃F22:cR,List.Perm G3 ((ka b 0 0 (⟨#[]⟩:Bs) 0 0 0 0 0 (⟨#[]⟩:Bs) none 0 0 0 0 0 0 0 0 (⟨#[]⟩:Bs) none 0 0 0 0 0 0 0 0 (⟨#[]⟩:Bs) none 0 0 0 0 0 0 0 0 (⟨#[]⟩:Bs) none 0 0 0 0)::(ka a (IntKind.wrap .u8 (1+(IntKind.wrap .u8 r))) 0 (⟨#[]⟩:Bs) s t u v w x f g h y 0 0 0 0 0 (⟨#[]⟩:Bs) none 0 0 0 0 0 0 0 0 (⟨#[]⟩:Bs) none 0 0 0 0 0 0 0 0 (⟨#[]⟩:Bs) none 0 0 0 m)::F22)∧Q (.panicked ba) I5 F22)))∨(∃bb:List PanicEntry,e2=.panicked bb∧∃F23:cR,List.Perm G2 ((ka b 0 0 (⟨#[]⟩:Bs) 0 0 0 0 0 (⟨#[]⟩:Bs) none 0 0 0 0 0 0 0 0 (⟨#[]⟩:Bs) none 0 0 0 0 0 0 0 0 (⟨#[]⟩:Bs) none 0 0 0 0 0 0 0 0 (⟨#[]⟩:Bs) none 0 0 0 0)::(ka a (IntKind.wrap .u8 (1+(IntKind.wrap .u8 r))) 0 (⟨#[]⟩:Bs) 0 0 0 0 0 (⟨#[]⟩:Bs) none 0 0 0 0 0 0 0 0 (⟨#[]⟩:Bs) none 0 0 0 0 0 0 0 0 (⟨#[]⟩:Bs) none 0 0 0 0 0 0 0 0 (⟨#[]⟩:Bs) none 0 0 0 m)::F23)∧Q (.panicked bb) I3 F23))) (It ((IntKind.wrap .u8 (1+(IntKind.wrap .u8 r)))==2) (cZ P 67 (#[vp (some p)]) I2 ((ka b 0 0 (⟨#[]⟩:Bs) 0 0 0 0 0 (⟨#[]⟩:Bs) none 0 0 0 0 0 0 0 0 (⟨#[]⟩:Bs) none 0 0 0 0 0 0 0 0 (⟨#[]⟩:Bs) none 0 0 0 0 0 0 0 0 (⟨#[]⟩:Bs) none 0 0 0 0)::(ka a (IntKind.wrap .u8 (1+(IntKind.wrap .u8 r))) 0 (⟨#[]⟩:Bs) 0 0 0 0 0 (⟨#[]⟩:Bs) none 0 0 0 0 0 0 0 0 (⟨#[]⟩:Bs) none 0 0 0 0 0 0 0 0 (⟨#[]⟩:Bs) none 0 0 0 0 0 0 0 0 (⟨#[]⟩:Bs) none 0 0 0 m)::F1) fun bf I19 G14=>((∃(r8:Bs),bf=.returned (vs r8)∧∃F24:cR,List.Perm G14 ((ka b 0 0 (⟨#[]⟩:Bs) 0 0 0 0 0 (⟨#[]⟩:Bs) none 0 0 0 0 0 0 0 0 (⟨#[]⟩:Bs) none 0 0 0 0 0 0 0 0 (⟨#[]⟩:Bs) none 0 0 0 0 0 0 0 0 (⟨#[]⟩:Bs) none 0 0 0 0)::(ka a (IntKind.wrap .u8 (1+(IntKind.wrap .u8 r))) 0 (⟨#[]⟩:Bs) 0 0 0 0 0 (⟨#[]⟩:Bs) none 0 0 0 0 0 0 0 0 (⟨#[]⟩:Bs) none 0 0 0 0 0 0 0 0 (⟨#[]⟩:Bs) none 0 0 0 0 0 0 0 0 (⟨#[]⟩:Bs) none 0 0 0 m)::F24)∧∀(b6:Nat) (I20:cS),cS.le I19 I20→I20 b6=some (Obj.cells #[vs (⟨#[116,111]⟩:Bs)] 9 (0,0))→cZ P 66 (#[vp (some p),vl (some ⟨b6,0,none⟩) 1 1]) I20 ((ka b 0 0 (⟨#[]⟩:Bs) 0 0 0 0 0 (⟨#[]⟩:Bs) none 0 0 0 0 0 0 0 0 (⟨#[]⟩:Bs) none 0 0 0 0 0 0 0 0 (⟨#[]⟩:Bs) none 0 0 0 0 0 0 0 0 (⟨#[]⟩:Bs) none 0 0 0 0)::(ka a (IntKind.wrap .u8 (1+(IntKind.wrap .u8 r))) 0 r8 0 0 0 0 0 (⟨#[]⟩:Bs) none 0 0 0 0 0 0 0 0 (⟨#[]⟩:Bs) none 0 0 0 0 0 0 0 0 (⟨#[]⟩:Bs) none 0 0 0 0 0 0 0 0 (⟨#[]⟩:Bs) none 0 0 0 m)::F24) fun bg I21 G15=>((∃(r9:Int),bg=.returned (vi r9)∧∃F25:cR,List.Perm G15 ((ka b 0 0 (⟨#[]⟩:Bs) 0 0 0 0 0 (⟨#[]⟩:Bs) none 0 0 0 0 0 0 0 0 (⟨#[]⟩:Bs) none 0 0 0 0 0 0 0 0 (⟨#[]⟩:Bs) none 0 0 0 0 0 0 0 0 (⟨#[]⟩:Bs) none 0 0 0 0)::(ka a (IntKind.wrap .u8 (1+(IntKind.wrap .u8 r))) 0 r8 0 0 0 0 0 (⟨#[]⟩:Bs) none 0 0 0 0 0 0 0 0 (⟨#[]⟩:Bs) none 0 0 0 0 0 0 0 0 (⟨#[]⟩:Bs) none 0 0 0 0 0 0 0 0 (⟨#[]⟩:Bs) none 0 0 0 m)::F25)∧cZ P 47 (#[vp (some p),vi 0]) I21 ((ka b 0 0 (⟨#[]⟩:Bs) 0 0 0 0 0 (⟨#[]⟩:Bs) none 0 0 0 0 0 0 0 0 (⟨#[]⟩:Bs) none 0 0 0 0 0 0 0 0 (⟨#[]⟩:Bs) none 0 0 0 0 0 0 0 0 (⟨#[]⟩:Bs) none 0 0 0 0)::(ka a (IntKind.wrap .u8 (1+(IntKind.wrap .u8 r))) 0 r8 0 0 0 0 0 (⟨#[]⟩:Bs) none 0 0 0 0 0 0 0 0 (⟨#[]⟩:Bs) none 0 0 0 0 0 0 0 0 (⟨#[]⟩:Bs) none 0 0 0 0 0 0 0 0 (⟨#[]⟩:Bs) none 0 0 0 m)::F25) fun bh I22 G16=>((∃(an ao ap aq ar:Int) (au:Bs) (ak:OA) (al am:Nat) (av:Int),bh=.returned (nV an ao ap aq ar au ak al am av)∧∃F26:cR,List.Perm G16 ((ka b 0 0 (⟨#[]⟩:Bs) 0 0 0 0 0 (⟨#[]⟩:Bs) none 0 0 0 0 0 0 0 0 (⟨#[]⟩:Bs) none 0 0 0 0 0 0 0 0 (⟨#[]⟩:Bs) none 0 0 0 0 0 0 0 0 (⟨#[]⟩:Bs) none 0 0 0 0)::(ka a (IntKind.wrap .u8 (1+(IntKind.wrap .u8 r))) 0 r8 0 0 0 0 0 (⟨#[]⟩:Bs) none 0 0 0 0 0 0 0 0 (⟨#[]⟩:Bs) none 0 0 0 0 0 0 0 0 (⟨#[]⟩:Bs) none 0 0 0 0 0 0 0 0 (⟨#[]⟩:Bs) none 0 0 0 m)::F26)∧∀(b7:Nat) (I23:cS),cS.le I22 I23→I23 b7=some (Obj.cells #[vs (⟨#[97,116]⟩:Bs)] 9 (0,0))→cZ P 66 (#[vp (some p),vl (some ⟨b7,0,none⟩) 1 1]) I23 ((ka b 0 0 (⟨#[]⟩:Bs) 0 0 0 0 0 (⟨#[]⟩:Bs) none 0 0 0 0 0 0 0 0 (⟨#[]⟩:Bs) none 0 0 0 0 0 0 0 0 (⟨#[]⟩:Bs) none 0 0 0 0 0 0 0 0 (⟨#[]⟩:Bs) none 0 0 0 0)::(ka a (IntKind.wrap .u8 (1+(IntKind.wrap .u8 r))) 0 r8 0 0 0 0 0 (⟨#[]⟩:Bs) none 0 0 0 an ao ap aq ar au ak al am av 0 0 0 0 0 (⟨#[]⟩:Bs) none 0 0 0 0 0 0 0 0 (⟨#[]⟩:Bs) none 0 0 0 m)::F26) fun bi I24 G17=>((∃(bo:Int),bi=.returned (vi bo)∧∃F27:cR,List.Perm G17 ((ka b 0 0 (⟨#[]⟩:Bs) 0 0 0 0 0 (⟨#[]⟩:Bs) none 0 0 0 0 0 0 0 0 (⟨#[]⟩:Bs) none 0 0 0 0 0 0 0 0 (⟨#[]⟩:Bs) none 0 0 0 0 0 0 0 0 (⟨#[]⟩:Bs) none 0 0 0 0)::(ka a (IntKind.wrap .u8 (1+(IntKind.wrap .u8 r))) 0 r8 0 0 0 0 0 (⟨#[]⟩:Bs) none 0 0 0 an ao ap aq ar au ak al am av 0 0 0 0 0 (⟨#[]⟩:Bs) none 0 0 0 0 0 0 0 0 (⟨#[]⟩:Bs) none 0 0 0 m)::F27)∧cZ P 47 (#[vp (some p),vi 0]) I24 ((ka b 0 0 (⟨#[]⟩:Bs) 0 0 0 0 0 (⟨#[]⟩:Bs) none 0 0 0 0 0 0 0 0 (⟨#[]⟩:Bs) none 0 0 0 0 0 0 0 0 (⟨#[]⟩:Bs) none 0 0 0 0 0 0 0 0 (⟨#[]⟩:Bs) none 0 0 0 0)::(ka a (IntKind.wrap .u8 (1+(IntKind.wrap .u8 r))) 0 r8 0 0 0 0 0 (⟨#[]⟩:Bs) none 0 0 0 an ao ap aq ar au ak al am av 0 0 0 0 0 (⟨#[]⟩:Bs) none 0 0 0 0 0 0 0 0 (⟨#[]⟩:Bs) none 0 0 0 m)::F27) fun bj I25 G18=>((∃(aD aE aF aG aH:Int) (aI:Bs) (ax:OA) (ay az:Nat) (aJ:Int),bj=.returned (nV aD aE aF aG aH aI ax ay az aJ)∧∃F28:cR,List.Perm G18 ((ka b 0 0 (⟨#[]⟩:Bs) 0 0 0 0 0 (⟨#[]⟩:Bs) none 0 0 0 0 0 0 0 0 (⟨#[]⟩:Bs) none 0 0 0 0 0 0 0 0 (⟨#[]⟩:Bs) none 0 0 0 0 0 0 0 0 (⟨#[]⟩:Bs) none 0 0 0 0)::(ka a (IntKind.wrap .u8 (1+(IntKind.wrap .u8 r))) 0 r8 0 0 0 0 0 (⟨#[]⟩:Bs) none 0 0 0 an ao ap aq ar au ak al am av 0 0 0 0 0 (⟨#[]⟩:Bs) none 0 0 0 0 0 0 0 0 (⟨#[]⟩:Bs) none 0 0 0 m)::F28)∧Q (.returned ((kb (IntKind.wrap .u8 (1+(IntKind.wrap .u8 r))) 0 r8 0 0 0 0 0 (⟨#[]⟩:Bs) none 0 0 0 an ao ap aq ar au ak al am av aD aE aF aG aH aI ax ay az aJ 0 0 0 0 0 (⟨#[]⟩:Bs) none 0 0 0 m))) I25 F28)∨(∃aR:List PanicEntry,bj=.panicked aR∧∃F29:cR,List.Perm G18 ((ka b 0 0 (⟨#[]⟩:Bs) 0 0 0 0 0 (⟨#[]⟩:Bs) none 0 0 0 0 0 0 0 0 (⟨#[]⟩:Bs) none 0 0 0 0 0 0 0 0 (⟨#[]⟩:Bs) none 0 0 0 0 0 0 0 0 (⟨#[]⟩:Bs) none 0 0 0 0)::(ka a (IntKind.wrap .u8 (1+(IntKind.wrap .u8 r))) 0 r8 0 0 0 0 0 (⟨#[]⟩:Bs) none 0 0 0 an ao ap aq ar au ak al am av 0 0 0 0 0 (⟨#[]⟩:Bs) none 0 0 0 0 0 0 0 0 (⟨#[]⟩:Bs) none 0 0 0 m)::F29)∧Q (.panicked aR) I25 F29)))∨(∃aS:List PanicEntry,bi=.panicked aS∧∃F30:cR,List.Perm G17 ((ka b 0 0 (⟨#[]⟩:Bs) 0 0 0 0 0 (⟨#[]⟩:Bs) none 0 0 0 0 0 0 0 0 (⟨#[]⟩:Bs) none 0 0 0 0 0 0 0 0 (⟨#[]⟩:Bs) none 0 0 0 0 0 0 0 0 (⟨#[]⟩:Bs) none 0 0 0 0)::(ka a (IntKind.wrap .u8 (1+(IntKind.wrap .u8 r))) 0 r8 0 0 0 0 0 (⟨#[]⟩:Bs) none 0 0 0 an ao ap aq ar au ak al am av 0 0 0 0 0 (⟨#[]⟩:Bs) none 0 0 0 0 0 0 0 0 (⟨#[]⟩:Bs) none 0 0 0 m)::F30)∧Q (.panicked aS) I24 F30)))∨(∃aT:List PanicEntry,bh=.panicked aT∧∃F31:cR,List.Perm G16 ((ka b 0 0 (⟨#[]⟩:Bs) 0 0 0 0 0 (⟨#[]⟩:Bs) none 0 0 0 0 0 0 0 0 (⟨#[]⟩:Bs) none 0 0 0 0 0 0 0 0 (⟨#[]⟩:Bs) none 0 0 0 0 0 0 0 0 (⟨#[]⟩:Bs) none 0 0 0 0)::(ka a (IntKind.wrap .u8 (1+(IntKind.wrap .u8 r))) 0 r8 0 0 0 0 0 (⟨#[]⟩:Bs) none 0 0 0 0 0 0 0 0 (⟨#[]⟩:Bs) none 0 0 0 0 0 0 0 0 (⟨#[]⟩:Bs) none 0 0 0 0 0 0 0 0 (⟨#[]⟩:Bs) none 0 0 0 m)::F31)∧Q (.panicked aT) I22 F31)))∨(∃aU:List PanicEntry,bg=.panicked aU∧∃F32:cR,List.Perm G15 ((ka b 0 0 (⟨#[]⟩:Bs) 0 0 0 0 0 (⟨#[]⟩:Bs) none 0 0 0 0 0 0 0 0 (⟨#[]⟩:Bs) none 0 0 0 0 0 0 0 0 (⟨#[]⟩:Bs) none 0 0 0 0 0 0 0 0 (⟨#[]⟩:Bs) none 0 0 0 0)::(ka a (IntKind.wrap .u8 (1+(IntKind.wrap .u8 r))) 0 r8 0 0 0 0 0 (⟨#[]⟩:Bs) none 0 0 0 0 0 0 0 0 (⟨#[]⟩:Bs) none 0 0 0 0 0 0 0 0 (⟨#[]⟩:Bs) none 0 0 0 0 0 0 0 0 (⟨#[]⟩:Bs) none 0 0 0 m)::F32)∧Q (.panicked aU) I21 F32)))∨(∃aV:List PanicEntry,bf=.panicked aV∧∃F33:cR,List.Perm G14 ((ka b 0 0 (⟨#[]⟩:Bs) 0 0 0 0 0 (⟨#[]⟩:Bs) none 0 0 0 0 0 0 0 0 (⟨#[]⟩:Bs) none 0 0 0 0 0 0 0 0 (⟨#[]⟩:Bs) none 0 0 0 0 0 0 0 0 (⟨#[]⟩:Bs) none 0 0 0 0)::(ka a (IntKind.wrap .u8 (1+(IntKind.wrap .u8 r))) 0 (⟨#[]⟩:Bs) 0 0 0 0 0 (⟨#[]⟩:Bs) none 0 0 0 0 0 0 0 0 (⟨#[]⟩:Bs) none 0 0 0 0 0 0 0 0 (⟨#[]⟩:Bs) none 0 0 0 0 0 0 0 0 (⟨#[]⟩:Bs) none 0 0 0 m)::F33)∧Q (.panicked aV) I19 F33))) (It ((IntKind.wrap .u8 (1+(IntKind.wrap .u8 r)))==4) (cZ P 67 (#[vp (some p)]) I2 ((ka b 0 0 (⟨#[]⟩:Bs) 0 0 0 0 0 (⟨#[]⟩:Bs) none 0 0 0 0 0 0 0 0 (⟨#[]⟩:Bs) none 0 0 0 0 0 0 0 0 (⟨#[]⟩:Bs) none 0 0 0 0 0 0 0 0 (⟨#[]⟩:Bs) none 0 0 0 0)::(ka a (IntKind.wrap .u8 (1+(IntKind.wrap .u8 r))) 0 (⟨#[]⟩:Bs) 0 0 0 0 0 (⟨#[]⟩:Bs) none 0 0 0 0 0 0 0 0 (⟨#[]⟩:Bs) none 0 0 0 0 0 0 0 0 (⟨#[]⟩:Bs) none 0 0 0 0 0 0 0 0 (⟨#[]⟩:Bs) none 0 0 0 m)::F1) fun bk I26 G19=>((∃(aw:Bs),bk=.returned (vs aw)∧∃F34:cR,List.Perm G19 ((ka b 0 0 (⟨#[]⟩:Bs) 0 0 0 0 0 (⟨#[]⟩:Bs) none 0 0 0 0 0 0 0 0 (⟨#[]⟩:Bs) none 0 0 0 0 0 0 0 0 (⟨#[]⟩:Bs) none 0 0 0 0 0 0 0 0 (⟨#[]⟩:Bs) none 0 0 0 0)::(ka a (IntKind.wrap .u8 (1+(IntKind.wrap .u8 r))) 0 (⟨#[]⟩:Bs) 0 0 0 0 0 (⟨#[]⟩:Bs) none 0 0 0 0 0 0 0 0 (⟨#[]⟩:Bs) none 0 0 0 0 0 0 0 0 (⟨#[]⟩:Bs) none 0 0 0 0 0 0 0 0 (⟨#[]⟩:Bs) none 0 0 0 m)::F34)∧∀(b8:Nat) (I27:cS),cS.le I26 I27→I27 b8=some (Obj.cells #[vs (⟨#[61]⟩:Bs)] 9 (0,0))→cZ P 66 (#[vp (some p),vl (some ⟨b8,0,none⟩) 1 1]) I27 ((ka b 0 0 (⟨#[]⟩:Bs) 0 0 0 0 0 (⟨#[]⟩:Bs) none 0 0 0 0 0 0 0 0 (⟨#[]⟩:Bs) none 0 0 0 0 0 0 0 0 (⟨#[]⟩:Bs) none 0 0 0 0 0 0 0 0 (⟨#[]⟩:Bs) none 0 0 0 0)::(ka a (IntKind.wrap .u8 (1+(IntKind.wrap .u8 r))) 0 aw 0 0 0 0 0 (⟨#[]⟩:Bs) none 0 0 0 0 0 0 0 0 (⟨#[]⟩:Bs) none 0 0 0 0 0 0 0 0 (⟨#[]⟩:Bs) none 0 0 0 0 0 0 0 0 (⟨#[]⟩:Bs) none 0 0 0 m)::F34) fun bl I28 G20=>((∃(bp:Int),bl=.returned (vi bp)∧∃F35:cR,List.Perm G20 ((ka b 0 0 (⟨#[]⟩:Bs) 0 0 0 0 0 (⟨#[]⟩:Bs) none 0 0 0 0 0 0 0 0 (⟨#[]⟩:Bs) none 0 0 0 0 0 0 0 0 (⟨#[]⟩:Bs) none 0 0 0 0 0 0 0 0 (⟨#[]⟩:Bs) none 0 0 0 0)::(ka a (IntKind.wrap .u8 (1+(IntKind.wrap .u8 r))) 0 aw 0 0 0 0 0 (⟨#[]⟩:Bs) none 0 0 0 0 0 0 0 0 (⟨#[]⟩:Bs) none 0 0 0 0 0 0 0 0 (⟨#[]⟩:Bs) none 0 0 0 0 0 0 0 0 (⟨#[]⟩:Bs) none 0 0 0 m)::F35)∧cZ P 47 (#[vp (some p),vi 0]) I28 ((ka b 0 0 (⟨#[]⟩:Bs) 0 0 0 0 0 (⟨#[]⟩:Bs) none 0 0 0 0 0 0 0 0 (⟨#[]⟩:Bs) none 0 0 0 0 0 0 0 0 (⟨#[]⟩:Bs) none 0 0 0 0 0 0 0 0 (⟨#[]⟩:Bs) none 0 0 0 0)::(ka a (IntKind.wrap .u8 (1+(IntKind.wrap .u8 r))) 0 aw 0 0 0 0 0 (⟨#[]⟩:Bs) none 0 0 0 0 0 0 0 0 (⟨#[]⟩:Bs) none 0 0 0 0 0 0 0 0 (⟨#[]⟩:Bs) none 0 0 0 0 0 0 0 0 (⟨#[]⟩:Bs) none 0 0 0 m)::F35) fun bm I29 G21=>((∃(aK aL aM aN aO:Int) (aP:Bs) (aA:OA) (aB aC:Nat) (aQ:Int),bm=.returned (nV aK aL aM aN aO aP aA aB aC aQ)∧∃F36:cR,List.Perm G21 ((ka b 0 0 (⟨#[]⟩:Bs) 0 0 0 0 0 (⟨#[]⟩:Bs) none 0 0 0 0 0 0 0 0 (⟨#[]⟩:Bs) none 0 0 0 0 0 0 0 0 (⟨#[]⟩:Bs) none 0 0 0 0 0 0 0 0 (⟨#[]⟩:Bs) none 0 0 0 0)::(ka a (IntKind.wrap .u8 (1+(IntKind.wrap .u8 r))) 0 aw 0 0 0 0 0 (⟨#[]⟩:Bs) none 0 0 0 0 0 0 0 0 (⟨#[]⟩:Bs) none 0 0 0 0 0 0 0 0 (⟨#[]⟩:Bs) none 0 0 0 0 0 0 0 0 (⟨#[]⟩:Bs) none 0 0 0 m)::F36)∧Q (.returned ((kb (IntKind.wrap .u8 (1+(IntKind.wrap .u8 r))) 0 aw 0 0 0 0 0 (⟨#[]⟩:Bs) none 0 0 0 0 0 0 0 0 (⟨#[]⟩:Bs) none 0 0 0 0 0 0 0 0 (⟨#[]⟩:Bs) none 0 0 0 aK aL aM aN aO aP aA aB aC aQ m))) I29 F36)∨(∃aW:List PanicEntry,bm=.panicked aW∧∃F37:cR,List.Perm G21 ((ka b 0 0 (⟨#[]⟩:Bs) 0 0 0 0 0 (⟨#[]⟩:Bs) none 0 0 0 0 0 0 0 0 (⟨#[]⟩:Bs) none 0 0 0 0 0 0 0 0 (⟨#[]⟩:Bs) none 0 0 0 0 0 0 0 0 (⟨#[]⟩:Bs) none 0 0 0 0)::(ka a (IntKind.wrap .u8 (1+(IntKind.wrap .u8 r))) 0 aw 0 0 0 0 0 (⟨#[]⟩:Bs) none 0 0 0 0 0 0 0 0 (⟨#[]⟩:Bs) none 0 0 0 0 0 0 0 0 (⟨#[]⟩:Bs) none 0 0 0 0 0 0 0 0 (⟨#[]⟩:Bs) none 0 0 0 m)::F37)∧Q (.panicked aW) I29 F37)))∨(∃aX:List PanicEntry,bl=.panicked aX∧∃F38:cR,List.Perm G20 ((ka b 0 0 (⟨#[]⟩:Bs) 0 0 0 0 0 (⟨#[]⟩:Bs) none 0 0 0 0 0 0 0 0 (⟨#[]⟩:Bs) none 0 0 0 0 0 0 0 0 (⟨#[]⟩:Bs) none 0 0 0 0 0 0 0 0 (⟨#[]⟩:Bs) none 0 0 0 0)::(ka a (IntKind.wrap .u8 (1+(IntKind.wrap .u8 r))) 0 aw 0 0 0 0 0 (⟨#[]⟩:Bs) none 0 0 0 0 0 0 0 0 (⟨#[]⟩:Bs) none 0 0 0 0 0 0 0 0 (⟨#[]⟩:Bs) none 0 0 0 0 0 0 0 0 (⟨#[]⟩:Bs) none 0 0 0 m)::F38)∧Q (.panicked aX) I28 F38)))∨(∃aY:List PanicEntry,bk=.panicked aY∧∃F39:cR,List.Perm G19 ((ka b 0 0 (⟨#[]⟩:Bs) 0 0 0 0 0 (⟨#[]⟩:Bs) none 0 0 0 0 0 0 0 0 (⟨#[]⟩:Bs) none 0 0 0 0 0 0 0 0 (⟨#[]⟩:Bs) none 0 0 0 0 0 0 0 0 (⟨#[]⟩:Bs) none 0 0 0 0)::(ka a (IntKind.wrap .u8 (1+(IntKind.wrap .u8 r))) 0 (⟨#[]⟩:Bs) 0 0 0 0 0 (⟨#[]⟩:Bs) none 0 0 0 0 0 0 0 0 (⟨#[]⟩:Bs) none 0 0 0 0 0 0 0 0 (⟨#[]⟩:Bs) none 0 0 0 0 0 0 0 0 (⟨#[]⟩:Bs) none 0 0 0 m)::F39)∧Q (.panicked aY) I26 F39))) (It ((IntKind.wrap .u8 (1+(IntKind.wrap .u8 r)))==6) (Q (.returned ((kb (IntKind.wrap .u8 (1+(IntKind.wrap .u8 r))) 0 (⟨#[]⟩:Bs) 0 0 0 0 0 (⟨#[]⟩:Bs) none 0 0 0 0 0 0 0 0 (⟨#[]⟩:Bs) none 0 0 0 0 0 0 0 0 (⟨#[]⟩:Bs) none 0 0 0 0 0 0 0 0 (⟨#[]⟩:Bs) none 0 0 0 m))) I2 F1) (cZ P 67 (#[vp (some p)]) I2 ((ka b 0 0 (⟨#[]⟩:Bs) 0 0 0 0 0 (⟨#[]⟩:Bs) none 0 0 0 0 0 0 0 0 (⟨#[]⟩:Bs) none 0 0 0 0 0 0 0 0 (⟨#[]⟩:Bs) none 0 0 0 0 0 0 0 0 (⟨#[]⟩:Bs) none 0 0 0 0)::(ka a (IntKind.wrap .u8 (1+(IntKind.wrap .u8 r))) 0 (⟨#[]⟩:Bs) 0 0 0 0 0 (⟨#[]⟩:Bs) none 0 0 0 0 0 0 0 0 (⟨#[]⟩:Bs) none 0 0 0 0 0 0 0 0 (⟨#[]⟩:Bs) none 0 0 0 0 0 0 0 0 (⟨#[]⟩:Bs) none 0 0 0 m)::F1) fun bn I30 G22=>((∃(a1:Bs),bn=.returned (vs a1)∧∃F40:cR,List.Perm G22 ((ka b 0 0 (⟨#[]⟩:Bs) 0 0 0 0 0 (⟨#[]⟩:Bs) none 0 0 0 0 0 0 0 0 (⟨#[]⟩:Bs) none 0 0 0 0 0 0 0 0 (⟨#[]⟩:Bs) none 0 0 0 0 0 0 0 0 (⟨#[]⟩:Bs) none 0 0 0 0)::(ka a (IntKind.wrap .u8 (1+(IntKind.wrap .u8 r))) 0 (⟨#[]⟩:Bs) 0 0 0 0 0 (⟨#[]⟩:Bs) none 0 0 0 0 0 0 0 0 (⟨#[]⟩:Bs) none 0 0 0 0 0 0 0 0 (⟨#[]⟩:Bs) none 0 0 0 0 0 0 0 0 (⟨#[]⟩:Bs) none 0 0 0 m)::F40)∧Q (.returned ((kb (IntKind.wrap .u8 (1+(IntKind.wrap .u8 r))) 0 a1 0 0 0 0 0 (⟨#[]⟩:Bs) none 0 0 0 0 0 0 0 0 (⟨#[]⟩:Bs) none 0 0 0 0 0 0 0 0 (⟨#[]⟩:Bs) none 0 0 0 0 0 0 0 0 (⟨#[]⟩:Bs) none 0 0 0 m))) I30 F40)∨(∃aZ:List PanicEntry,bn=.panicked aZ∧∃F41:cR,List.Perm G22 ((ka b 0 0 (⟨#[]⟩:Bs) 0 0 0 0 0 (⟨#[]⟩:Bs) none 0 0 0 0 0 0 0 0 (⟨#[]⟩:Bs) none 0 0 0 0 0 0 0 0 (⟨#[]⟩:Bs) none 0 0 0 0 0 0 0 0 (⟨#[]⟩:Bs) none 0 0 0 0)::(ka a (IntKind.wrap .u8 (1+(IntKind.wrap .u8 r))) 0 (⟨#[]⟩:Bs) 0 0 0 0 0 (⟨#[]⟩:Bs) none 0 0 0 0 0 0 0 0 (⟨#[]⟩:Bs) none 0 0 0 0 0 0 0 0 (⟨#[]⟩:Bs) none 0 0 0 0 0 0 0 0 (⟨#[]⟩:Bs) none 0 0 0 m)::F41)∧Q (.panicked aZ) I30 F41))))))))∨(∃a0:List PanicEntry,e1=.panicked a0∧∃F42:cR,List.Perm G1 ((ka b 0 0 (⟨#[]⟩:Bs) 0 0 0 0 0 (⟨#[]⟩:Bs) none 0 0 0 0 0 0 0 0 (⟨#[]⟩:Bs) none 0 0 0 0 0 0 0 0 (⟨#[]⟩:Bs) none 0 0 0 0 0 0 0 0 (⟨#[]⟩:Bs) none 0 0 0 0)::(ka a 0 0 (⟨#[]⟩:Bs) 0 0 0 0 0 (⟨#[]⟩:Bs) none 0 0 0 0 0 0 0 0 (⟨#[]⟩:Bs) none 0 0 0 0 0 0 0 0 (⟨#[]⟩:Bs) none 0 0 0 0 0 0 0 0 (⟨#[]⟩:Bs) none 0 0 0 m)::F42)∧Q (.panicked a0) I2 F42))
theorem iC.vc{p:Addr}{I:cS}{F:cR}{Q:cW}  (h:iC.V (fun W a b c d e f g h i j k l m n o p q r s t u v w x y z aa ab ac ad ae af ag ah ai aj ak al am an ao ap aq ar=>(W,Obj.cells #[.int .u8 a,.int .u8 b,.string c,.int .u8 d,.int .u8 e,.int .u8 f,.int .i64 g,.int .u8 h,.string i,.slice j k l,.int .i64 m,.int .u8 n,.int .u8 o,.int .u8 p,.int .i64 q,.int .u8 r,.string s,.slice t u v,.int .i64 w,.int .u8 x,.int .u8 y,.int .u8 z,.int .i64 aa,.int .u8 ab,.string ac,.slice ad ae af,.int .i64 ag,.int .u8 ah,.int .u8 ai,.int .u8 aj,.int .i64 ak,.int .u8 al,.string am,.slice an ao ap,.int .i64 aq,.int .i64 ar] 114 (0,0))) (fun a b c d e f g h i j k l m n o p q r s t u v w x y z aa ab ac ad ae af ag ah ai aj ak al am an ao ap aq ar=>.agg #[.int .u8 a,.int .u8 b,.string c,.int .u8 d,.int .u8 e,.int .u8 f,.int .i64 g,.int .u8 h,.string i,.slice j k l,.int .i64 m,.int .u8 n,.int .u8 o,.int .u8 p,.int .i64 q,.int .u8 r,.string s,.slice t u v,.int .i64 w,.int .u8 x,.int .u8 y,.int .u8 z,.int .i64 aa,.int .u8 ab,.string ac,.slice ad ae af,.int .i64 ag,.int .u8 ah,.int .u8 ai,.int .u8 aj,.int .i64 ak,.int .u8 al,.string am,.slice an ao ap,.int .i64 aq,.int .i64 ar]) (fun k o t n f s a l c q=>.agg #[.int .u8 k,.int .u8 o,.int .u8 t,.int .i64 n,.int .u8 f,.string s,.slice a l c,.int .i64 q]) (.int .u8) (.int .i64) .string .slice .pointer p I F Q):cZ P 126 #[.pointer (some p)] I F Q :=
 tw (A:=(fa [5000,10003,13001,16000,22000,26000] [47,64,66,67] [47,64,66,67,91] lG [] [2001,7001,10001,12000,12002,18001,20001,24001] [] [] [] [] [])) [47,64,66,67,91] func126 h
def gR.V(ka:Nat→Int→Int→Int→Int→Int→Bs→OA→Nat→Nat→Int→OA→Nat→Nat→Int→Nat×Obj)(vb vi:Int→Value)(vs:Bs→Value)(vl:OA→Nat→Nat→Value)(vp:OA→Value)(p:Addr)(I:cS)(F:cR)(Q:cW)(Inv14:Int→Int→Int→Int→Int→Bs→OA→Nat→Nat→Int→OA→Nat→Nat→Int→Nat→cS→cR→Prop):Prop:=∀b:Nat,∃ad:Addr,some p=some ad∧∃(m:Int),Rd I ((ka b 0 0 0 0 0 (⟨#[]⟩:Bs) none 0 0 0 none 0 0 0)::F) ((ad.add 1).add 4) [vi m]∧∀s:Nat,cZ P 64 (#[vp (some p)]) I ((ka b 0 0 0 0 0 (⟨#[]⟩:Bs) none 0 0 0 none 0 0 0)::(ka s 0 0 0 0 0 (⟨#[]⟩:Bs) none 0 0 0 none 0 0 m)::F) fun e1 I1 G1=>((e1=.returned (.tuple #[])∧∃F1:cR,List.Perm G1 ((ka b 0 0 0 0 0 (⟨#[]⟩:Bs) none 0 0 0 none 0 0 0)::(ka s 0 0 0 0 0 (⟨#[]⟩:Bs) none 0 0 0 none 0 0 m)::F1)∧cZ P 47 (#[vp (some p),vi 0]) I1 ((ka b 0 0 0 0 0 (⟨#[]⟩:Bs) none 0 0 0 none 0 0 0)::(ka s 0 0 0 0 0 (⟨#[]⟩:Bs) none 0 0 0 none 0 0 m)::F1) fun e2 I2 G2=>((∃(x y z aa ab:Int) (ac:Bs) (t:OA) (u w:Nat) (ae:Int),e2=.returned (.agg #[vb x,vb y,vb z,vi aa,vb ab,vs ac,vl t u w,vi ae])∧∃F2:cR,List.Perm G2 ((ka b 0 0 0 0 0 (⟨#[]⟩:Bs) none 0 0 0 none 0 0 0)::(ka s 0 0 0 0 0 (⟨#[]⟩:Bs) none 0 0 0 none 0 0 m)::F2)∧∀(b1:Nat) (I3:cS),cS.le I2 I3→I3 b1=some (Obj.cells #[vs (⟨#[100,111]⟩:Bs)] 9 (0,0))→cZ P 66 (#[vp (some p),vl (some ⟨b1,0,none⟩) 1 1]) I3 ((ka b 0 0 0 0 0 (⟨#[]⟩:Bs) none 0 0 0 none 0 0 0)::(ka s x y z aa ab ac t u w ae none 0 0 m)::F2) fun e3 I4 G3=>((∃(r:Int),e3=.returned (vi r)∧∃F3:cR,List.Perm G3 ((ka b 0 0 0 0 0 (⟨#[]⟩:Bs) none 0 0 0 none 0 0 0)::(ka s x y z aa ab ac t u w ae none 0 0 m)::F3)∧cZ P 126 (#[vp (some p)]) I4 ((ka b 0 0 0 0 0 (⟨#[]⟩:Bs) none 0 0 0 none 0 0 0)::(ka s x y z aa ab ac t u w ae none 0 0 m)::F3) fun e4 I5 G4=>((∃(bH bI:Int) (bJ:Bs) (bK bL bM cB bN:Int) (cC:Bs) (aO:OA) (aP aQ:Nat) (bO aR bP bQ bR bS:Int) (bT:Bs) (az:OA) (aA aB:Nat) (bU bV bW aS bX bY:Int) (bZ:Bs) (aC:OA) (aD aE:Nat) (b0 b6 b7 b8 b9 aT:Int) (ca:Bs) (aF:OA) (aG aH:Nat) (cb cc:Int),e4=.returned (.agg #[vb bH,vb bI,vs bJ,vb bK,vb bL,vb bM,vi cB,vb bN,vs cC,vl aO aP aQ,vi bO,vb aR,vb bP,vb bQ,vi bR,vb bS,vs bT,vl az aA aB,vi bU,vb bV,vb bW,vb aS,vi bX,vb bY,vs bZ,vl aC aD aE,vi b0,vb b6,vb b7,vb b8,vi b9,vb aT,vs ca,vl aF aG aH,vi cb,vi cc])∧∃F4:cR,List.Perm G4 ((ka b 0 0 0 0 0 (⟨#[]⟩:Bs) none 0 0 0 none 0 0 0)::(ka s x y z aa ab ac t u w ae none 0 0 m)::F4)∧∀(b2:Nat) (I6:cS),cS.le I5 I6→I6 b2=some (Obj.cells #[vb bH,vb bI,vs bJ,vb bK,vb bL,vb bM,vi cB,vb bN,vs cC,vl aO aP aQ,vi bO,vb aR,vb bP,vb bQ,vi bR,vb bS,vs bT,vl az aA aB,vi bU,vb bV,vb bW,vb aS,vi bX,vb bY,vs bZ,vl aC aD aE,vi b0,vb b6,vb b7,vb b8,vi b9,vb aT,vs ca,vl aF aG aH,vi cb,vi cc] 114 (0,0))→dO P (Builtin.append_ #[108,108] 108 #[vl none 0 0,vl (some ⟨b2,0,none⟩) 1 1]) I6 ((ka b 0 0 0 0 0 (⟨#[]⟩:Bs) none 0 0 0 none 0 0 0)::(ka s x y z aa ab ac t u w ae none 0 0 m)::F4) fun v I7 G5=>∃(cD:OA) (cE cF:Nat),v=vl cD cE cF∧∃F5:cR,List.Perm G5 ((ka b 0 0 0 0 0 (⟨#[]⟩:Bs) none 0 0 0 none 0 0 0)::(ka s x y z aa ab ac t u w ae none 0 0 m)::F5)∧(∃m1:Nat,Inv14 x y z aa ab ac t u w ae cD cE cF m m1 I7 F5)∧∀(h i j k l:Int) (n:Bs) (c:OA) (d e:Nat) (o:Int) (f:OA) (a g:Nat) (q:Int) (m2:Nat) (I8:cS) (F6:cR),cS.le I7 I8→Inv14 h i j k l n c d e o f a g q m2 I8 F6→jW P 91 (#[vp (some p),vs (⟨#[44]⟩:Bs)]) I8 ((ka b 0 0 0 0 0 (⟨#[]⟩:Bs) none 0 0 0 none 0 0 0)::(ka s h i j k l n c d e o f a g q)::·) F6 .bool fun r1 I9 F7=>(It r1 (It ((a:Int)==8) (cZ P 65 (#[vp (some p),vi 131]) I9 ((ka b 0 0 0 0 0 (⟨#[]⟩:Bs) none 0 0 0 none 0 0 0)::(ka s h i j k l n c d e o f a g q)::F7) fun e6 I10 G7=>((e6=.returned (.tuple #[])∧∃F8:cR,List.Perm G7 ((ka b 0 0 0 0 0 (⟨#[]⟩:Bs) none 0 0 0 none 0 0 0)::(ka s h i j k l n c d e o f a g q)::F8)∧cZ P 64 (#[vp (some p)]) I10 ((ka b 0 0 0 0 0 (⟨#[]⟩:Bs) none 0 0 0 none 0 0 0)::(ka s h i j k l n c d e o f a g q)::F8) fun e7 I11 G8=>((e7=.returned (.tuple #[])∧∃F9:cR,List.Perm G8 ((ka b 0 0 0 0 0 (⟨#[]⟩:Bs) none 0 0 0 none 0 0 0)::(ka s h i j k l n c d e o f a g q)::F9)∧cZ P 126 (#[vp (some p)]) I11 ((ka b 0 0 0 0 0 (⟨#[]⟩:Bs) none 0 0 0 none 0 0 0)::(ka s h i j k l n c d e o f a g q)::F9) fun e8 I12 G9=>((∃(cd ce:Int) (cf:Bs) (cg ci cj ck cl:Int) (cm:Bs) (aI:OA) (aJ aK:Nat) (aU aV aW aX aY aZ:Int) (a0:Bs) (af:OA) (ag ah:Nat) (a1 a2 a3 a4 a5 a6:Int) (a7:Bs) (ai:OA) (aj ak:Nat) (a8 a9 ba bb bc bd:Int) (be:Bs) (al:OA) (am an:Nat) (bf bg:Int),e8=.returned (.agg #[vb cd,vb ce,vs cf,vb cg,vb ci,vb cj,vi ck,vb cl,vs cm,vl aI aJ aK,vi aU,vb aV,vb aW,vb aX,vi aY,vb aZ,vs a0,vl af ag ah,vi a1,vb a2,vb a3,vb a4,vi a5,vb a6,vs a7,vl ai aj ak,vi a8,vb a9,vb ba,vb bb,vi bc,vb bd,vs be,vl al am an,vi bf,vi bg])∧∃F10:cR,List.Perm G9 ((ka b 0 0 0 0 0 (⟨#[]⟩:Bs) none 0 0 0 none 0 0 0)::(ka s h i j k l n c d e o f a g q)::F10)∧∀(b3:Nat) (I13:cS),cS.le I12 I13→I13 b3=some (Obj.cells #[vb cd,vb ce,vs cf,vb cg,vb ci,vb cj,vi ck,vb cl,vs cm,vl aI aJ aK,vi aU,vb aV,vb aW,vb aX,vi aY,vb aZ,vs a0,vl af ag ah,vi a1,vb a2,vb a3,vb a4,vi a5,vb a6,vs a7,vl ai aj ak,vi a8,vb a9,vb ba,vb bb,vi bc,vb bd,vs be,vl al am an,vi bf,vi bg] 114 (0,0))→dO P (Builtin.append_ #[108,108] 108 #[vl f a g,vl (some ⟨b3,0,none⟩) 1 1]) I13 ((ka b 0 0 0 0 0 (⟨#[]⟩:Bs) none 0 0 0 none 0 0 0)::(ka s h i j k l n c d e o f a g q)::F10) fun v1 I14 G10=>∃(co:OA) (cp cq:Nat),v1=vl co cp cq∧∃F11:cR,List.Perm G10 ((ka b 0 0 0 0 0 (⟨#[]⟩:Bs) none 0 0 0 none 0 0 0)::(ka s h i j k l n c d e o f a g q)::F11)∧(∃m3:Nat,m3<m2∧Inv14 h i j k l n c d e o co cp cq q m3 I14 F11))∨(∃ch:List PanicEntry,e8=.panicked ch∧∃F12:cR,List.Perm G9 ((ka b 0 0 0 0 0 (⟨#[]⟩:Bs) none 0 0 0 none 0 0 0)::(ka s h i j k l n c d e o f a g q)::F12)∧Q (.panicked ch) I12 F12)))∨(∃cG:List PanicEntry,e7=.panicked cG∧∃F13:cR,List.Perm G8 ((ka b 0 0 0 0 0 (⟨#[]⟩:Bs) none 0 0 0 none 0 0 0)::(ka s h i j k l n c d e o f a g q)::F13)∧Q (.panicked cG) I11 F13)))∨(∃cH:List PanicEntry,e6=.panicked cH∧∃F14:cR,List.Perm G7 ((ka b 0 0 0 0 0 (⟨#[]⟩:Bs) none 0 0 0 none 0 0 0)::(ka s h i j k l n c d e o f a g q)::F14)∧Q (.panicked cH) I10 F14))) (cZ P 64 (#[vp (some p)]) I9 ((ka b 0 0 0 0 0 (⟨#[]⟩:Bs) none 0 0 0 none 0 0 0)::(ka s h i j k l n c d e o f a g q)::F7) fun e9 I15 G11=>((e9=.returned (.tuple #[])∧∃F15:cR,List.Perm G11 ((ka b 0 0 0 0 0 (⟨#[]⟩:Bs) none 0 0 0 none 0 0 0)::(ka s h i j k l n c d e o f a g q)::F15)∧cZ P 126 (#[vp (some p)]) I15 ((ka b 0 0 0 0 0 (⟨#[]⟩:Bs) none 0 0 0 none 0 0 0)::(ka s h i j k l n c d e o f a g q)::F15) fun cP I16 G12=>((∃(cr bh:Int) (bi:Bs) (cs ct cu cv cw:Int) (cx:Bs) (aL:OA) (aM aN:Nat) (bj bk bl bm bn bo:Int) (bp:Bs) (ao:OA) (ap aq:Nat) (bq br bs bt bu bv:Int) (bw:Bs) (ar:OA) (au av:Nat) (bx bz bA bB bC bD:Int) (bE:Bs) (aw:OA) (ax ay:Nat) (bF bG:Int),cP=.returned (.agg #[vb cr,vb bh,vs bi,vb cs,vb ct,vb cu,vi cv,vb cw,vs cx,vl aL aM aN,vi bj,vb bk,vb bl,vb bm,vi bn,vb bo,vs bp,vl ao ap aq,vi bq,vb br,vb bs,vb bt,vi bu,vb bv,vs bw,vl ar au av,vi bx,vb bz,vb bA,vb bB,vi bC,vb bD,vs bE,vl aw ax ay,vi bF,vi bG])∧∃F16:cR,List.Perm G12 ((ka b 0 0 0 0 0 (⟨#[]⟩:Bs) none 0 0 0 none 0 0 0)::(ka s h i j k l n c d e o f a g q)::F16)∧∀(b4:Nat) (I17:cS),cS.le I16 I17→I17 b4=some (Obj.cells #[vb cr,vb bh,vs bi,vb cs,vb ct,vb cu,vi cv,vb cw,vs cx,vl aL aM aN,vi bj,vb bk,vb bl,vb bm,vi bn,vb bo,vs bp,vl ao ap aq,vi bq,vb br,vb bs,vb bt,vi bu,vb bv,vs bw,vl ar au av,vi bx,vb bz,vb bA,vb bB,vi bC,vb bD,vs bE,vl aw ax ay,vi bF,vi bG] 114 (0,0))→dO P (Builtin.append_ #[108,108] 108 #[vl f a g,vl (some ⟨b4,0,none⟩) 1 1]) I17 ((ka b 0 0 0 0 0 (⟨#[]⟩:Bs) none 0 0 0 none 0 0 0)::(ka s h i j k l n c d e o f a g q)::F16) fun v2 I18 G13=>∃(cy:OA) (cz cA:Nat),v2=vl cy cz cA∧∃F17:cR,List.Perm G13 ((ka b 0 0 0 0 0 (⟨#[]⟩:Bs) none 0 0 0 none 0 0 0)::(ka s h i j k l n c d e o f a g q)::F17)∧(∃m4:Nat,m4<m2∧Inv14 h i j k l n c d e o cy cz cA q m4 I18 F17))∨(∃cI:List PanicEntry,cP=.panicked cI∧∃F18:cR,List.Perm G12 ((ka b 0 0 0 0 0 (⟨#[]⟩:Bs) none 0 0 0 none 0 0 0)::(ka s h i j k l n c d e o f a g q)::F18)∧Q (.panicked cI) I16 F18)))∨(∃cJ:List PanicEntry,e9=.panicked cJ∧∃F19:cR,List.Perm G11 ((ka b 0 0 0 0 0 (⟨#[]⟩:Bs) none 0 0 0 none 0 0 0)::(ka s h i j k l n c d e o f a g q)::F19)∧Q (.panicked cJ) I15 F19)))) (∀(b5:Nat) (I19:cS),cS.le I9 I19→I19 b5=some (Obj.cells #[vs (⟨#[59]⟩:Bs)] 9 (0,0))→cZ P 66 (#[vp (some p),vl (some ⟨b5,0,none⟩) 1 1]) I19 ((ka b 0 0 0 0 0 (⟨#[]⟩:Bs) none 0 0 0 none 0 0 0)::(ka s h i j k l n c d e o f a g q)::F7) fun cQ I20 G14=>((∃(r2:Int),cQ=.returned (vi r2)∧∃F20:cR,List.Perm G14 ((ka b 0 0 0 0 0 (⟨#[]⟩:Bs) none 0 0 0 none 0 0 0)::(ka s h i j k l n c d e o f a g q)::F20)∧Q (.returned (.agg #[vb h,vb i,vb j,vi k,vb l,vs n,vl c d e,vi o,vl f a g,vi q])) I20 F20)∨(∃cK:List PanicEntry,cQ=.panicked cK∧∃F21:cR,List.Perm G14 ((ka b 0 0 0 0 0 (⟨#[]⟩:Bs) none 0 0 0 none 0 0 0)::(ka s h i j k l n c d e o f a g q)::F21)∧Q (.panicked cK) I20 F21)))))∨(∃cL:List PanicEntry,e4=.panicked cL∧∃F22:cR,List.Perm G4 ((ka b 0 0 0 0 0 (⟨#[]⟩:Bs) none 0 0 0 none 0 0 0)::(ka s x y z aa ab ac t u w ae none 0 0 m)::F22)∧Q (.panicked cL) I5 F22)))∨(∃cM:List PanicEntry,e3=.panicked cM∧∃F23:cR,List.Perm G3 ((ka b 0 0 0 0 0 (⟨#[]⟩:Bs) none 0 0 0 none 0 0 0)::(ka s x y z aa ab ac t u w ae none 0 0 m)::F23)∧Q (.panicked cM) I4 F23)))∨(∃cN:List PanicEntry,e2=.panicked cN∧∃F24:cR,List.Perm G2 ((ka b 0 0 0 0 0 (⟨#[]⟩:Bs) none 0 0 0 none 0 0 0)::(ka s 0 0 0 0 0 (⟨#[]⟩:Bs) none 0 0 0 none 0 0 m)::F24)∧Q (.panicked cN) I2 F24)))∨(∃cO:List PanicEntry,e1=.panicked cO∧∃F25:cR,List.Perm G1 ((ka b 0 0 0 0 0 (⟨#[]⟩:Bs) none 0 0 0 none 0 0 0)::(ka s 0 0 0 0 0 (⟨#[]⟩:Bs) none 0 0 0 none 0 0 m)::F25)∧Q (.panicked cO) I1 F25))
theorem gR.vc{p:Addr}{I:cS}{F:cR}{Q:cW}(Inv14:Int→Int→Int→Int→Int→Bs→OA→Nat→Nat→Int→OA→Nat→Nat→Int→Nat→cS→cR→Prop)(h:gR.V (fun W a b c d e f g h i j k l m n=>(W,Obj.cells #[.int .u8 a,.int .u8 b,.int .u8 c,.int .i64 d,.int .u8 e,.string f,.slice g h i,.int .i64 j,.slice k l m,.int .i64 n] 110 (0,0))) (.int .u8) (.int .i64) .string .slice .pointer p I F Q Inv14):cZ P 107 #[.pointer (some p)] I F Q :=
 tw (A:=(fa [6001,7003] [47,64,65,66,126] [47,64,65,66,91,126] lG [(14,⟨[],[(1,[(.int .u8),(.int .u8),(.int .u8),(.int .i64),(.int .u8),.str,.slc,(.int .i64),.slc,(.int .i64)])],fun _ _ _ vs m I F=>match vs with | [.int _ y0,.int _ y1,.int _ y2,.int _ y3,.int _ y4,.string y5,.slice y6 y7 y8,.int _ y9,.slice y10 y11 y12,.int _ y13]=>Inv14 y0 y1 y2 y3 y4 y5 y6 y7 y8 y9 y10 y11 y12 y13 m I F | _=>False,[],[]⟩)] [4001,5004,10004,11001] [] [] [] [(5,[0,2,1,3,4,5,6,7]),(10,[0,2,1,3,4,5,6,7])] [] [] [(5,[1],7),(10,[1],7)])) [47,64,65,66,91,126] func107 h
def gA.V(ka:Nat→Bs→OA→Nat→Nat→Int→Nat×Obj)(vi:Int→Value)(vs:Bs→Value)(vl:OA→Nat→Nat→Value)(vp:OA→Value)(p:Addr)(I:cS)(F:cR)(Q:cW)  : Prop:=∀b:Nat,∃ad:Addr,some p=some ad∧∃(m:Int),Rd I ((ka b (⟨#[]⟩:Bs) none 0 0 0)::F) ((ad.add 1).add 4) [vi m]∧∀a:Nat,cZ P 64 (#[vp (some p)]) I ((ka b (⟨#[]⟩:Bs) none 0 0 0)::(ka a (⟨#[]⟩:Bs) none 0 0 m)::F) fun e1 I1 G1=>((e1=.returned (.tuple #[])∧∃F1:cR,List.Perm G1 ((ka b (⟨#[]⟩:Bs) none 0 0 0)::(ka a (⟨#[]⟩:Bs) none 0 0 m)::F1)∧cZ P 67 (#[vp (some p)]) I1 ((ka b (⟨#[]⟩:Bs) none 0 0 0)::(ka a (⟨#[]⟩:Bs) none 0 0 m)::F1) fun e2 I2 G2=>((∃(r:Bs),e2=.returned (vs r)∧∃F2:cR,List.Perm G2 ((ka b (⟨#[]⟩:Bs) none 0 0 0)::(ka a (⟨#[]⟩:Bs) none 0 0 m)::F2)∧∀(b1:Nat) (I3:cS),cS.le I2 I3→I3 b1=some (Obj.cells #[vs (⟨#[123]⟩:Bs)] 9 (0,0))→cZ P 66 (#[vp (some p),vl (some ⟨b1,0,none⟩) 1 1]) I3 ((ka b (⟨#[]⟩:Bs) none 0 0 0)::(ka a r none 0 0 m)::F2) fun e3 I4 G3=>((∃(r1:Int),e3=.returned (vi r1)∧∃F3:cR,List.Perm G3 ((ka b (⟨#[]⟩:Bs) none 0 0 0)::(ka a r none 0 0 m)::F3)∧cZ P 106 (#[vp (some p),vs (⟨#[119,104,101,110]⟩:Bs),vi 12,.func (.func 107) #[] #[]]) I4 ((ka b (⟨#[]⟩:Bs) none 0 0 0)::(ka a r none 0 0 m)::F3) fun e4 I5 G4=>((∃(c:OA) (d e:Nat),e4=.returned (vl c d e)∧∃F4:cR,List.Perm G4 ((ka b (⟨#[]⟩:Bs) none 0 0 0)::(ka a r none 0 0 m)::F4)∧∀(b2:Nat) (I6:cS),cS.le I5 I6→I6 b2=some (Obj.cells #[vs (⟨#[125]⟩:Bs)] 9 (0,0))→cZ P 66 (#[vp (some p),vl (some ⟨b2,0,none⟩) 1 1]) I6 ((ka b (⟨#[]⟩:Bs) none 0 0 0)::(ka a r c d e m)::F4) fun e5 I7 G5=>((∃(r2:Int),e5=.returned (vi r2)∧∃F5:cR,List.Perm G5 ((ka b (⟨#[]⟩:Bs) none 0 0 0)::(ka a r c d e m)::F5)∧Q (.returned (.agg #[vs r,vl c d e,vi m])) I7 F5)∨(∃ch:List PanicEntry,e5=.panicked ch∧∃F6:cR,List.Perm G5 ((ka b (⟨#[]⟩:Bs) none 0 0 0)::(ka a r c d e m)::F6)∧Q (.panicked ch) I7 F6)))∨(∃f:List PanicEntry,e4=.panicked f∧∃F7:cR,List.Perm G4 ((ka b (⟨#[]⟩:Bs) none 0 0 0)::(ka a r none 0 0 m)::F7)∧Q (.panicked f) I5 F7)))∨(∃g:List PanicEntry,e3=.panicked g∧∃F8:cR,List.Perm G3 ((ka b (⟨#[]⟩:Bs) none 0 0 0)::(ka a r none 0 0 m)::F8)∧Q (.panicked g) I4 F8)))∨(∃h:List PanicEntry,e2=.panicked h∧∃F9:cR,List.Perm G2 ((ka b (⟨#[]⟩:Bs) none 0 0 0)::(ka a (⟨#[]⟩:Bs) none 0 0 m)::F9)∧Q (.panicked h) I2 F9)))∨(∃i:List PanicEntry,e1=.panicked i∧∃F10:cR,List.Perm G1 ((ka b (⟨#[]⟩:Bs) none 0 0 0)::(ka a (⟨#[]⟩:Bs) none 0 0 m)::F10)∧Q (.panicked i) I1 F10))
theorem gA.vc{p:Addr}{I:cS}{F:cR}{Q:cW}  (h:gA.V (fun W a b c d e=>(W,Obj.cells #[.string a,.slice b c d,.int .i64 e] 88 (0,0))) (.int .i64) .string .slice .pointer p I F Q):cZ P 73 #[.pointer (some p)] I F Q :=
 tw (A:=(fa [] [64,66,67,106] [64,66,67,106] lG [] [4001,6001] [] [] [] [] [])) [64,66,67,106] func73 h
def fq.V(ka:Nat→Bs→OA→Nat→Nat→OA→Nat→Nat→OA→Nat→Nat→Nat×Obj)(vi:Int→Value)(vs:Bs→Value)(vl:OA→Nat→Nat→Value)(vp:OA→Value)(p:Addr)(I:cS)(F:cR)(Q:cW)  : Prop:=∀b:Nat,∀(b1:Nat) (I1:cS),cS.le I I1→I1 b1=some (Obj.cells #[vs (⟨#[115,116,114,97,116,101,103,121]⟩:Bs)] 9 (0,0))→cZ P 66 (#[vp (some p),vl (some ⟨b1,0,none⟩) 1 1]) I1 ((ka b (⟨#[]⟩:Bs) none 0 0 none 0 0 none 0 0)::F) fun e1 I2 G1=>((∃(r:Int),e1=.returned (vi r)∧∃F1:cR,List.Perm G1 ((ka b (⟨#[]⟩:Bs) none 0 0 none 0 0 none 0 0)::F1)∧cZ P 67 (#[vp (some p)]) I2 ((ka b (⟨#[]⟩:Bs) none 0 0 none 0 0 none 0 0)::F1) fun e2 I3 G2=>((∃(r1:Bs),e2=.returned (vs r1)∧∃F2:cR,List.Perm G2 ((ka b (⟨#[]⟩:Bs) none 0 0 none 0 0 none 0 0)::F2)∧∀a:Nat,∀(b2:Nat) (I4:cS),cS.le I3 I4→I4 b2=some (Obj.cells #[vs (⟨#[123]⟩:Bs)] 9 (0,0))→cZ P 66 (#[vp (some p),vl (some ⟨b2,0,none⟩) 1 1]) I4 ((ka b (⟨#[]⟩:Bs) none 0 0 none 0 0 none 0 0)::(ka a r1 none 0 0 none 0 0 none 0 0)::F2) fun e3 I5 G3=>((∃(r2:Int),e3=.returned (vi r2)∧∃F3:cR,List.Perm G3 ((ka b (⟨#[]⟩:Bs) none 0 0 none 0 0 none 0 0)::(ka a r1 none 0 0 none 0 0 none 0 0)::F3)∧cZ P 68 (#[vp (some p),vs (⟨#[114,101,103]⟩:Bs),vi 12,.func (.func 69) #[] #[]]) I5 ((ka b (⟨#[]⟩:Bs) none 0 0 none 0 0 none 0 0)::(ka a r1 none 0 0 none 0 0 none 0 0)::F3) fun e4 I6 G4=>((∃(g:OA) (h i:Nat),e4=.returned (vl g h i)∧∃F4:cR,List.Perm G4 ((ka b (⟨#[]⟩:Bs) none 0 0 none 0 0 none 0 0)::(ka a r1 none 0 0 none 0 0 none 0 0)::F4)∧cZ P 70 (#[vp (some p),vs (⟨#[115,108,111,116]⟩:Bs),vi 4,.func (.func 71) #[] #[]]) I6 ((ka b (⟨#[]⟩:Bs) none 0 0 none 0 0 none 0 0)::(ka a r1 g h i none 0 0 none 0 0)::F4) fun e5 I7 G5=>((∃(c:OA) (d e:Nat),e5=.returned (vl c d e)∧∃F5:cR,List.Perm G5 ((ka b (⟨#[]⟩:Bs) none 0 0 none 0 0 none 0 0)::(ka a r1 g h i none 0 0 none 0 0)::F5)∧cZ P 72 (#[vp (some p),vs (⟨#[115,116,97,116,101]⟩:Bs),vi 12,.func (.func 73) #[] #[]]) I7 ((ka b (⟨#[]⟩:Bs) none 0 0 none 0 0 none 0 0)::(ka a r1 g h i c d e none 0 0)::F5) fun e6 I8 G6=>((∃(j:OA) (f k:Nat),e6=.returned (vl j f k)∧∃F6:cR,List.Perm G6 ((ka b (⟨#[]⟩:Bs) none 0 0 none 0 0 none 0 0)::(ka a r1 g h i c d e none 0 0)::F6)∧(It ((f:Int)==0) (cZ P 65 (#[vp (some p),vi 130]) I8 ((ka b (⟨#[]⟩:Bs) none 0 0 none 0 0 none 0 0)::(ka a r1 g h i c d e j f k)::F6) fun e7 I9 G7=>((e7=.returned (.tuple #[])∧∃F7:cR,List.Perm G7 ((ka b (⟨#[]⟩:Bs) none 0 0 none 0 0 none 0 0)::(ka a r1 g h i c d e j f k)::F7)∧∀(b3:Nat) (I10:cS),cS.le I9 I10→I10 b3=some (Obj.cells #[vs (⟨#[125]⟩:Bs)] 9 (0,0))→cZ P 66 (#[vp (some p),vl (some ⟨b3,0,none⟩) 1 1]) I10 ((ka b (⟨#[]⟩:Bs) none 0 0 none 0 0 none 0 0)::(ka a r1 g h i c d e j f k)::F7) fun e8 I11 G8=>((∃(r3:Int),e8=.returned (vi r3)∧∃F8:cR,List.Perm G8 ((ka b (⟨#[]⟩:Bs) none 0 0 none 0 0 none 0 0)::(ka a r1 g h i c d e j f k)::F8)∧Q (.returned (.agg #[vs r1,vl g h i,vl c d e,vl j f k])) I11 F8)∨(∃ch:List PanicEntry,e8=.panicked ch∧∃F9:cR,List.Perm G8 ((ka b (⟨#[]⟩:Bs) none 0 0 none 0 0 none 0 0)::(ka a r1 g h i c d e j f k)::F9)∧Q (.panicked ch) I11 F9)))∨(∃l:List PanicEntry,e7=.panicked l∧∃F10:cR,List.Perm G7 ((ka b (⟨#[]⟩:Bs) none 0 0 none 0 0 none 0 0)::(ka a r1 g h i c d e j f k)::F10)∧Q (.panicked l) I9 F10))) (∀(b4:Nat) (I12:cS),cS.le I8 I12→I12 b4=some (Obj.cells #[vs (⟨#[125]⟩:Bs)] 9 (0,0))→cZ P 66 (#[vp (some p),vl (some ⟨b4,0,none⟩) 1 1]) I12 ((ka b (⟨#[]⟩:Bs) none 0 0 none 0 0 none 0 0)::(ka a r1 g h i c d e j f k)::F6) fun e9 I13 G9=>((∃(r4:Int),e9=.returned (vi r4)∧∃F11:cR,List.Perm G9 ((ka b (⟨#[]⟩:Bs) none 0 0 none 0 0 none 0 0)::(ka a r1 g h i c d e j f k)::F11)∧Q (.returned (.agg #[vs r1,vl g h i,vl c d e,vl j f k])) I13 F11)∨(∃m:List PanicEntry,e9=.panicked m∧∃F12:cR,List.Perm G9 ((ka b (⟨#[]⟩:Bs) none 0 0 none 0 0 none 0 0)::(ka a r1 g h i c d e j f k)::F12)∧Q (.panicked m) I13 F12)))))∨(∃n:List PanicEntry,e6=.panicked n∧∃F13:cR,List.Perm G6 ((ka b (⟨#[]⟩:Bs) none 0 0 none 0 0 none 0 0)::(ka a r1 g h i c d e none 0 0)::F13)∧Q (.panicked n) I8 F13)))∨(∃o:List PanicEntry,e5=.panicked o∧∃F14:cR,List.Perm G5 ((ka b (⟨#[]⟩:Bs) none 0 0 none 0 0 none 0 0)::(ka a r1 g h i none 0 0 none 0 0)::F14)∧Q (.panicked o) I7 F14)))∨(∃q:List PanicEntry,e4=.panicked q∧∃F15:cR,List.Perm G4 ((ka b (⟨#[]⟩:Bs) none 0 0 none 0 0 none 0 0)::(ka a r1 none 0 0 none 0 0 none 0 0)::F15)∧Q (.panicked q) I6 F15)))∨(∃s:List PanicEntry,e3=.panicked s∧∃F16:cR,List.Perm G3 ((ka b (⟨#[]⟩:Bs) none 0 0 none 0 0 none 0 0)::(ka a r1 none 0 0 none 0 0 none 0 0)::F16)∧Q (.panicked s) I5 F16)))∨(∃t:List PanicEntry,e2=.panicked t∧∃F17:cR,List.Perm G2 ((ka b (⟨#[]⟩:Bs) none 0 0 none 0 0 none 0 0)::F17)∧Q (.panicked t) I3 F17)))∨(∃u:List PanicEntry,e1=.panicked u∧∃F18:cR,List.Perm G1 ((ka b (⟨#[]⟩:Bs) none 0 0 none 0 0 none 0 0)::F18)∧Q (.panicked u) I2 F18))
theorem fq.vc{p:Addr}{I:cS}{F:cR}{Q:cW}  (h:fq.V (fun W a b c d e f g h i j=>(W,Obj.cells #[.string a,.slice b c d,.slice e f g,.slice h i j] 43 (0,0))) (.int .i64) .string .slice .pointer p I F Q):cZ P 27 #[.pointer (some p)] I F Q :=
 tw (A:=(fa [7003] [65,66,67,68,70,72] [65,66,67,68,70,72] lG [] [1001,3001,9001] [] [] [] [] [])) [65,66,67,68,70,72] func27 h
def kf.V(vb vi:Int→Value)(vs:Bs→Value)(vl:OA→Nat→Nat→Value)(vp:OA→Value)(p:Addr)(aw:Bs)(o:Int)(q:Fn)(c d:Array Value)(I:cS)(F:cR)(Q:cW)(Inv6:OA→Nat→Nat→Nat→cS→cR→Prop):Prop:=(∃m:Nat,Inv6 none 0 0 m I F)∧∀(h:OA) (a i m1:Nat) (I1:cS) (F1:cR),cS.le I I1→Inv6 h a i m1 I1 F1→jW P 91 (#[vp (some p),vs aw]) I1 (·) F1 .bool fun r I2 F2=>(It r (It ((a:Int)==o) (cZ P 65 (#[vp (some p),vi 131]) I2 F2 fun e2 I3 G2=>((e2=.returned (.tuple #[])∧∃F3:cR,List.Perm G2 F3∧iS P (.func q c d) [vp (some p)] I3 F3 fun e3 I4 G3=>((∃(ag:Bs) (ah ai aj ak al am:Int) (an:Bs) (j:OA) (k l:Nat) (ao s:Int),e3=.returned (.agg #[vs ag,vb ah,vb ai,vb aj,vb ak,vi al,vb am,vs an,vl j k l,vi ao,vi s])∧∃F4:cR,List.Perm G3 F4∧∀(b:Nat) (I5:cS),cS.le I4 I5→I5 b=some (Obj.cells #[vs ag,vb ah,vb ai,vb aj,vb ak,vi al,vb am,vs an,vl j k l,vi ao,vi s] 104 (0,0))→dO P (Builtin.append_ #[39,39] 39 #[vl h a i,vl (some ⟨b,0,none⟩) 1 1]) I5 F4 fun v I6 G4=>∃(ap:OA) (aq ar:Nat),v=vl ap aq ar∧∃F5:cR,List.Perm G4 F5∧(∃m2:Nat,m2<m1∧Inv6 ap aq ar m2 I6 F5))∨(∃ch:List PanicEntry,e3=.panicked ch∧∃F6:cR,List.Perm G3 F6∧Q (.panicked ch) I4 F6)))∨(∃au:List PanicEntry,e2=.panicked au∧∃F7:cR,List.Perm G2 F7∧Q (.panicked au) I3 F7))) (iS P (.func q c d) [vp (some p)] I2 F2 fun e4 I7 G5=>((∃(t:Bs) (u w x y z aa:Int) (ab:Bs) (e:OA) (f g:Nat) (ac n:Int),e4=.returned (.agg #[vs t,vb u,vb w,vb x,vb y,vi z,vb aa,vs ab,vl e f g,vi ac,vi n])∧∃F8:cR,List.Perm G5 F8∧∀(b1:Nat) (I8:cS),cS.le I7 I8→I8 b1=some (Obj.cells #[vs t,vb u,vb w,vb x,vb y,vi z,vb aa,vs ab,vl e f g,vi ac,vi n] 104 (0,0))→dO P (Builtin.append_ #[39,39] 39 #[vl h a i,vl (some ⟨b1,0,none⟩) 1 1]) I8 F8 fun v1 I9 G6=>∃(ad:OA) (ae af:Nat),v1=vl ad ae af∧∃F9:cR,List.Perm G6 F9∧(∃m3:Nat,m3<m1∧Inv6 ad ae af m3 I9 F9))∨(∃av:List PanicEntry,e4=.panicked av∧∃F10:cR,List.Perm G5 F10∧Q (.panicked av) I7 F10)))) (Q (.returned (vl h a i)) I2 F2))
theorem kf.vc{p:Addr}{c:Bs}{d:Int}{e:Fn}{a b:Array Value}{I:cS}{F:cR}{Q:cW}(Inv6:OA→Nat→Nat→Nat→cS→cR→Prop)(h:kf.V (.int .u8) (.int .i64) .string .slice .pointer p c d e a b I F Q Inv6):cZ P 68 #[.pointer (some p),.string c,.int .i64 d,.func e a b] I F Q :=
 tw (A:=(fa [2002,3003] [0,65] [65,91] lG [(6,⟨[(9,.slc)],[],fun _ _ _ vs m I F=>match vs with | [.slice y0 y1 y2]=>Inv6 y0 y1 y2 m I F | _=>False,[],[]⟩)] [5004] [] [] [5003] [] [])) [65,91] func68 h
def jD.V(vi:Int→Value)(vs:Bs→Value)(vl:OA→Nat→Nat→Value)(vp:OA→Value)(p:Addr)(y:Bs)(g:Int)(h:Fn)(c d:Array Value)(I:cS)(F:cR)(Q:cW)(Inv6:OA→Nat→Nat→Nat→cS→cR→Prop):Prop:=(∃m:Nat,Inv6 none 0 0 m I F)∧∀(e:OA) (a f m1:Nat) (I1:cS) (F1:cR),cS.le I I1→Inv6 e a f m1 I1 F1→jW P 91 (#[vp (some p),vs y]) I1 (·) F1 .bool fun r I2 F2=>(It r (It ((a:Int)==g) (cZ P 65 (#[vp (some p),vi 131]) I2 F2 fun e2 I3 G2=>((e2=.returned (.tuple #[])∧∃F3:cR,List.Perm G2 F3∧iS P (.func h c d) [vp (some p)] I3 F3 fun e3 I4 G3=>((∃(o:Bs) (q:Int),e3=.returned (.agg #[vs o,vi q])∧∃F4:cR,List.Perm G3 F4∧∀(b:Nat) (I5:cS),cS.le I4 I5→I5 b=some (Obj.cells #[vs o,vi q] 106 (0,0))→dO P (Builtin.append_ #[40,40] 40 #[vl e a f,vl (some ⟨b,0,none⟩) 1 1]) I5 F4 fun v I6 G4=>∃(s:OA) (t u:Nat),v=vl s t u∧∃F5:cR,List.Perm G4 F5∧(∃m2:Nat,m2<m1∧Inv6 s t u m2 I6 F5))∨(∃ch:List PanicEntry,e3=.panicked ch∧∃F6:cR,List.Perm G3 F6∧Q (.panicked ch) I4 F6)))∨(∃w:List PanicEntry,e2=.panicked w∧∃F7:cR,List.Perm G2 F7∧Q (.panicked w) I3 F7))) (iS P (.func h c d) [vp (some p)] I2 F2 fun e4 I7 G5=>((∃(i:Bs) (j:Int),e4=.returned (.agg #[vs i,vi j])∧∃F8:cR,List.Perm G5 F8∧∀(b1:Nat) (I8:cS),cS.le I7 I8→I8 b1=some (Obj.cells #[vs i,vi j] 106 (0,0))→dO P (Builtin.append_ #[40,40] 40 #[vl e a f,vl (some ⟨b1,0,none⟩) 1 1]) I8 F8 fun v1 I9 G6=>∃(k:OA) (l n:Nat),v1=vl k l n∧∃F9:cR,List.Perm G6 F9∧(∃m3:Nat,m3<m1∧Inv6 k l n m3 I9 F9))∨(∃x:List PanicEntry,e4=.panicked x∧∃F10:cR,List.Perm G5 F10∧Q (.panicked x) I7 F10)))) (Q (.returned (vl e a f)) I2 F2))
theorem jD.vc{p:Addr}{c:Bs}{d:Int}{e:Fn}{a b:Array Value}{I:cS}{F:cR}{Q:cW}(Inv6:OA→Nat→Nat→Nat→cS→cR→Prop)(h:jD.V (.int .i64) .string .slice .pointer p c d e a b I F Q Inv6):cZ P 70 #[.pointer (some p),.string c,.int .i64 d,.func e a b] I F Q :=
 tw (A:=(fa [2002,3003] [0,65] [65,91] lG [(6,⟨[(9,.slc)],[],fun _ _ _ vs m I F=>match vs with | [.slice y0 y1 y2]=>Inv6 y0 y1 y2 m I F | _=>False,[],[]⟩)] [5004] [] [] [5003] [] [])) [65,91] func70 h
def jE.V(vb vi:Int→Value)(vs:Bs→Value)(vl:OA→Nat→Nat→Value)(vp:OA→Value)(p:Addr)(ay:Bs)(w:Int)(x:Fn)(c d:Array Value)(I:cS)(F:cR)(Q:cW)(Inv6:OA→Nat→Nat→Nat→cS→cR→Prop):Prop:=(∃m:Nat,Inv6 none 0 0 m I F)∧∀(k:OA) (a l m1:Nat) (I1:cS) (F1:cR),cS.le I I1→Inv6 k a l m1 I1 F1→jW P 91 (#[vp (some p),vs ay]) I1 (·) F1 .bool fun r I2 F2=>(It r (It ((a:Int)==w) (cZ P 65 (#[vp (some p),vi 131]) I2 F2 fun e2 I3 G2=>((e2=.returned (.tuple #[])∧∃F3:cR,List.Perm G2 F3∧iS P (.func x c d) [vp (some p)] I3 F3 fun e3 I4 G3=>((∃(aj ak al am an:Int) (ao:Bs) (n:OA) (o q:Nat) (ap:Int) (s:OA) (t u:Nat) (aq:Int),e3=.returned (.agg #[vb aj,vb ak,vb al,vi am,vb an,vs ao,vl n o q,vi ap,vl s t u,vi aq])∧∃F4:cR,List.Perm G3 F4∧∀(b:Nat) (I5:cS),cS.le I4 I5→I5 b=some (Obj.cells #[vb aj,vb ak,vb al,vi am,vb an,vs ao,vl n o q,vi ap,vl s t u,vi aq] 110 (0,0))→dO P (Builtin.append_ #[86,86] 86 #[vl k a l,vl (some ⟨b,0,none⟩) 1 1]) I5 F4 fun v I6 G4=>∃(ar:OA) (au av:Nat),v=vl ar au av∧∃F5:cR,List.Perm G4 F5∧(∃m2:Nat,m2<m1∧Inv6 ar au av m2 I6 F5))∨(∃ch:List PanicEntry,e3=.panicked ch∧∃F6:cR,List.Perm G3 F6∧Q (.panicked ch) I4 F6)))∨(∃aw:List PanicEntry,e2=.panicked aw∧∃F7:cR,List.Perm G2 F7∧Q (.panicked aw) I3 F7))) (iS P (.func x c d) [vp (some p)] I2 F2 fun e4 I7 G5=>((∃(y z aa ab ac:Int) (ad:Bs) (e:OA) (f g:Nat) (ae:Int) (h:OA) (i j:Nat) (af:Int),e4=.returned (.agg #[vb y,vb z,vb aa,vi ab,vb ac,vs ad,vl e f g,vi ae,vl h i j,vi af])∧∃F8:cR,List.Perm G5 F8∧∀(b1:Nat) (I8:cS),cS.le I7 I8→I8 b1=some (Obj.cells #[vb y,vb z,vb aa,vi ab,vb ac,vs ad,vl e f g,vi ae,vl h i j,vi af] 110 (0,0))→dO P (Builtin.append_ #[86,86] 86 #[vl k a l,vl (some ⟨b1,0,none⟩) 1 1]) I8 F8 fun v1 I9 G6=>∃(ag:OA) (ah ai:Nat),v1=vl ag ah ai∧∃F9:cR,List.Perm G6 F9∧(∃m3:Nat,m3<m1∧Inv6 ag ah ai m3 I9 F9))∨(∃ax:List PanicEntry,e4=.panicked ax∧∃F10:cR,List.Perm G5 F10∧Q (.panicked ax) I7 F10)))) (Q (.returned (vl k a l)) I2 F2))
theorem jE.vc{p:Addr}{c:Bs}{d:Int}{e:Fn}{a b:Array Value}{I:cS}{F:cR}{Q:cW}(Inv6:OA→Nat→Nat→Nat→cS→cR→Prop)(h:jE.V (.int .u8) (.int .i64) .string .slice .pointer p c d e a b I F Q Inv6):cZ P 106 #[.pointer (some p),.string c,.int .i64 d,.func e a b] I F Q :=
 tw (A:=(fa [2002,3003] [0,65] [65,91] lG [(6,⟨[(9,.slc)],[],fun _ _ _ vs m I F=>match vs with | [.slice y0 y1 y2]=>Inv6 y0 y1 y2 m I F | _=>False,[],[]⟩)] [5004] [] [] [5003] [] [])) [65,91] func106 h
def jh.V(vi:Int→Value)(vs:Bs→Value)(vl:OA→Nat→Nat→Value)(vp:OA→Value)(p:Addr)(ae:Bs)(n:Int)(o:Fn)(c d:Array Value)(I:cS)(F:cR)(Q:cW)(Inv6:OA→Nat→Nat→Nat→cS→cR→Prop):Prop:=(∃m:Nat,Inv6 none 0 0 m I F)∧∀(h:OA) (a i m1:Nat) (I1:cS) (F1:cR),cS.le I I1→Inv6 h a i m1 I1 F1→jW P 91 (#[vp (some p),vs ae]) I1 (·) F1 .bool fun r I2 F2=>(It r (It ((a:Int)==n) (cZ P 65 (#[vp (some p),vi 131]) I2 F2 fun e2 I3 G2=>((e2=.returned (.tuple #[])∧∃F3:cR,List.Perm G2 F3∧iS P (.func o c d) [vp (some p)] I3 F3 fun e3 I4 G3=>((∃(x:Bs) (j:OA) (k l:Nat) (y:Int),e3=.returned (.agg #[vs x,vl j k l,vi y])∧∃F4:cR,List.Perm G3 F4∧∀(b:Nat) (I5:cS),cS.le I4 I5→I5 b=some (Obj.cells #[vs x,vl j k l,vi y] 88 (0,0))→dO P (Builtin.append_ #[41,41] 41 #[vl h a i,vl (some ⟨b,0,none⟩) 1 1]) I5 F4 fun v I6 G4=>∃(z:OA) (aa ab:Nat),v=vl z aa ab∧∃F5:cR,List.Perm G4 F5∧(∃m2:Nat,m2<m1∧Inv6 z aa ab m2 I6 F5))∨(∃ch:List PanicEntry,e3=.panicked ch∧∃F6:cR,List.Perm G3 F6∧Q (.panicked ch) I4 F6)))∨(∃ac:List PanicEntry,e2=.panicked ac∧∃F7:cR,List.Perm G2 F7∧Q (.panicked ac) I3 F7))) (iS P (.func o c d) [vp (some p)] I2 F2 fun e4 I7 G5=>((∃(q:Bs) (e:OA) (f g:Nat) (s:Int),e4=.returned (.agg #[vs q,vl e f g,vi s])∧∃F8:cR,List.Perm G5 F8∧∀(b1:Nat) (I8:cS),cS.le I7 I8→I8 b1=some (Obj.cells #[vs q,vl e f g,vi s] 88 (0,0))→dO P (Builtin.append_ #[41,41] 41 #[vl h a i,vl (some ⟨b1,0,none⟩) 1 1]) I8 F8 fun v1 I9 G6=>∃(t:OA) (u w:Nat),v1=vl t u w∧∃F9:cR,List.Perm G6 F9∧(∃m3:Nat,m3<m1∧Inv6 t u w m3 I9 F9))∨(∃ad:List PanicEntry,e4=.panicked ad∧∃F10:cR,List.Perm G5 F10∧Q (.panicked ad) I7 F10)))) (Q (.returned (vl h a i)) I2 F2))
theorem jh.vc{p:Addr}{c:Bs}{d:Int}{e:Fn}{a b:Array Value}{I:cS}{F:cR}{Q:cW}(Inv6:OA→Nat→Nat→Nat→cS→cR→Prop)(h:jh.V (.int .i64) .string .slice .pointer p c d e a b I F Q Inv6):cZ P 72 #[.pointer (some p),.string c,.int .i64 d,.func e a b] I F Q :=
 tw (A:=(fa [2002,3003] [0,65] [65,91] lG [(6,⟨[(9,.slc)],[],fun _ _ _ vs m I F=>match vs with | [.slice y0 y1 y2]=>Inv6 y0 y1 y2 m I F | _=>False,[],[]⟩)] [5004] [] [] [5003] [] [])) [65,91] func72 h
end Go.Lx
namespace Go.Lx
open Go.Vc
theorem ft{G K A F0:cR}{X Y p:Nat×Obj}(h:G.Perm (p::(K++(X::Y::(A++F0))))):G.Perm (X::Y::(p::((K++A)++F0))):=h.trans (cU fun z=>by simp only[cV,cY,c6];omega)
theorem FH{G K A F0:cR}{X Y Z p:Nat×Obj}(h:G.Perm (p::(K++(X::Y::Z::(A++F0))))):G.Perm (X::Y::Z::(p::((K++A)++F0))):=h.trans (cU fun z=>by simp only[cV,cY,c6];omega)
section
variable {c:PC} {t:ByteArray} {s:PS} {b:Nat} {F F0:cR}
theorem fe{α:Type}{val:α→Value→cR→Prop}{f:PF}{r:α×PS}{X Y:Nat×Obj}{A:cR}{e:Ending}{I:cS}{G:cR}(hd:c.dD f r.2)(hf:dt f (X::Y::(A++F0)) e G):∃ch,e=.panicked ch∧∃F2:cR,List.Perm G (X::Y::F2)∧db c t b val F0 r (.panicked ch) I F2 :=
 dt.dJ (F0:=A++F0) [X,Y] hf fun e' G' hf'=>.inr ⟨f,hd,hf'.more⟩
theorem EL{α:Type}{val:α→Value→cR→Prop}{f:PF}{r:α×PS}{X Y Z:Nat×Obj}{A:cR}{e:Ending}{I:cS}{G:cR}(hd:c.dD f r.2)(hf:dt f (X::Y::Z::(A++F0)) e G):∃ch,e=.panicked ch∧∃F2:cR,List.Perm G (X::Y::Z::F2)∧db c t b val F0 r (.panicked ch) I F2 :=
 dt.dJ (F0:=A++F0) [X,Y,Z] hf fun e' G' hf'=>.inr ⟨f,hd,hf'.more⟩
theorem jM{w:ByteArray}(hl:c.Live s)(h:c.ej w s=true):(c.tok s.next).kind≠0:=fun hk=>by
 unfold PC.ej at h;rw[hl.now,hk] at h;simp at h
theorem qf{w:ByteArray}(hl:c.Live s)(h:c.ej w s=true):c.take w s=((c.tok s.next).pos,s.inc):=by
 unfold PC.take;rw[if_pos h,hl.now]
def Gz(x:di)(v:Value)(H:cR):Prop:=v=x.v∧H=[]
def GA(x:eJ)(v:Value)(H:cR):Prop:=∃d:gC,v=d.v∧d.p=x∧iP false d H
theorem Dr(hc:c.Of t)(hl:c.Live s)(hw:c.ej (⟨#[115,108,111,116]⟩:ByteArray) s=true){I:cS}(hF:F.Perm (c.px t b s::F0)) :
  cZ P 71 #[.pointer (some ⟨b,0,none⟩)] I F (db c t b Gz F0 (c.slot s)):=by
 have hp:=eo.of (I:=I) hF
 have e0:c.slot s=(⟨(c.name s.inc).1,(c.tok s.next).pos⟩,(c.take (⟨#[59]⟩:ByteArray) (c.name s.inc).2).2):=by unfold PC.slot;rw[qf hl hw]
 rw[e0]
 refine gQ.vc ?_
 unfold gQ.V
 intro b0
 refine⟨_,rfl,_,(hp.mono (cS.le_refl I) fun x hx=>.tail _ hx).rd.dR (p:=1) (q:=4) rfl,fun bx=>?_⟩
 refine db.use (eB hc hl (jM hl hw) (gI hF)) (fun v K I1 G l1 hL hv hG=>.inl ?_) fun f e I1 G l1 hd hf=>.inr (fe (A:=[]) (hd.name.take _) hf)
 obtain⟨rfl,rfl⟩:=hv
 refine⟨rfl,_,ft (A:=[]) hG, ?_⟩
 refine db.use (jC hc hL (gI (.refl _))) (fun v K I2 G l2 hL2 hv hG=>.inl ?_) fun f e I2 G l2 hd hf=>.inr (fe (A:=[]) (hd.take _) hf)
 obtain⟨rfl,rfl⟩:=hv
 refine⟨_,rfl,_,ft (A:=[]) hG,fun b1 I3 l3 hb1=>?_⟩
 refine db.use (eX hc hL2 hb1 (gI (.refl _))) (fun v K I4 G l4 hL4 hv hG=>.inl ?_) fun f e I4 G l4 hd hf=>.inr (fe (A:=[]) hd hf)
 obtain⟨⟨i,rfl⟩,rfl⟩:=hv
 exact⟨_,rfl,_,ft (A:=[]) hG,.inl ⟨hL4,_,[],rfl,⟨rfl,rfl⟩,.refl _⟩⟩
theorem any_zero{w:ByteArray}{ws:List ByteArray}(h:c.any (w::ws) s=0):c.ej w s=true:=by
 unfold PC.any at h
 rw[PC.gG] at h
 by_cases hw:c.ej w s=true
 ·exact hw
 ·rw[if_neg hw] at h
  have:=(vU (c:=c) (s:=s) (ws:=ws) (i:=0+1) (by decide) (by omega)).2.1
  omega
def PC.A9(c:PC)(i pos:Int)(s:PS):eJ×PS:=if i=0 then c.tC (c.dW s).1 pos (c.dW s).2 else if i=5 then c.ny 6 ⟨#[]⟩ pos s else c.ny (1+i) (c.name s).1 pos (c.name s).2
theorem DM(hl:c.Live s)(h:0≤c.any wJ s):c.do s=c.A9 (c.any wJ s) (c.tok s.next).pos s.inc:=by
 unfold PC.do PC.A9
 rw[if_neg (Int.not_lt.2 h),hl.now]
 split
 ·rename_i h0
  unfold PC.fZ
  rw[qf hl (any_zero (ws:=[(⟨#[97,109,101,110,100]⟩:ByteArray),(⟨#[99,97,110,99,101,108]⟩:ByteArray),(⟨#[115,101,116]⟩:ByteArray),(⟨#[103,111,116,111]⟩:ByteArray),(⟨#[104,97,108,116]⟩:ByteArray)]) h0)]
 ·rfl
theorem Kp.A9(i pos:Int)(f:PF):Kp c f (c.A9 i pos):=fun s h=>by
 unfold PC.A9
 split
 ·exact Kp.tC _ _ _ (Kp.dW _ h)
 ·split
  ·exact Kp.ny _ _ _ _ h
  ·exact Kp.ny _ _ _ _ h.name
theorem iP.of{d:gC}{H1 H2 H3 H4:cR}(h1:eH 64 false d.side H1)(h2:eH 64 false d.qty H2)(h3:eH 64 false d.price H3)(h4:eH 64 false d.value H4):iP false d (H1++(H2++(H3++H4))):=⟨H1,H2,H3,H4,rfl,h1,h2,h3,h4⟩
theorem eY:eH 64 false kY []:=eH.leaf
end
end Go.Lx
namespace Go.Lx
open Go.Vc
section
variable {c:PC} {t:ByteArray} {s:PS} {b:Nat} {F F0:cR}
theorem A0{I:cS}{G:cR}{b4:Nat}{i:Int}(hb:I b4=some (.cells #[.int .u8 1,.int .u8 3,.int .u8 4,.int .u8 5] 112 (0,0)))(h0:0≤i)(h1:i<4) :
  Rd I G ((⟨b4,0,none⟩:Addr).add (i.toNat*1)) [.int .u8 (if i=0 then 1 else 2+i)]:=by
 rw[fm]
 refine Rd.Bz hb G _ fun j hj=>?_
 have:j=0:=by simpa using hj
 subst this
 have:i=0∨i=1∨i=2∨i=3:=by omega
 rcases this with rfl | rfl | rfl | rfl<;>rfl
theorem z0{x y z:Px}{pos o:Int}(hl:c.Live s):c.jK x y pos z o s=if c.ej (⟨#[97,115]⟩:ByteArray) s then (⟨1,o,(c.name s.inc).1,x,y,z,eU,pos⟩,(c.name s.inc).2) else (⟨1,o,⟨#[]⟩,x,y,z,eU,pos⟩,s):=by
 unfold PC.jK PC.eg;split<;>rfl
theorem DN(hc:c.Of t)(hl:c.Live s){I:cS}(hF:F.Perm (c.px t b s::F0)):cZ P 126 #[.pointer (some ⟨b,0,none⟩)] I F (db c t b GA F0 (c.do s)):=by
 have hp:=eo.of (I:=I) hF
 have hn:=hl.now
 refine iC.vc ?_
 unfold iC.V
 intro b0
 refine⟨_,rfl,_,(hp.mono (cS.le_refl I) fun x hx=>.tail _ hx).rd.dR (p:=1) (q:=4) rfl,fun bd b1 I1 l1 hb1=>?_⟩
 generalize hpos:(c.tok s.next).pos=pos
 refine db.use (qI hc hl (words (ws:=wJ) hb1 rfl) (by decide) (gI hF)) (fun v K I2 G l2 hL hv hG=>.inl ?_) fun f e I2 G l2 hd hf=>.inr (fe (A:=[]) ?_ hf)
 rotate_left
 ·by_cases h:c.any wJ s<0
  ·have e1:c.do s=(GV,c.c5 130 s):=by unfold PC.do;rw[if_pos h]
   have e2:(c.oneOf wJ s).2=c.c5 130 s:=if_pos h
   rw[e1];rw[e2] at hd;exact hd
  ·have e2:(c.oneOf wJ s).2=s.inc:=if_neg h
   rw[DM hl (Int.not_lt.1 h)];rw[e2] at hd;exact Kp.A9 _ _ _ _ hd
 obtain⟨rfl,rfl⟩:=hv
 have hge:¬c.any wJ s<0:=fun hlt=>by
  have:(c.oneOf wJ s).2=c.c5 130 s:=if_pos hlt
  rw[this] at hL
  exact (hl.c5 (e:=130) (by decide)).2.live hL
 have e2:(c.oneOf wJ s).2=s.inc:=if_neg hge
 have h6:c.any wJ s<6:=(dB (Int.not_lt.1 hge)).2
 rw[e2] at hL hG
 rw[DM hl (Int.not_lt.1 hge),hpos]
 have e3:(c.oneOf wJ s).1=c.any wJ s:=rfl
 rw[e3]
 refine⟨_,rfl,_,ft (A:=[]) hG, ?_⟩
 clear hG
 generalize hi:c.any wJ s=i at hge h6
 have hw:IntKind.wrap .u8 (1+IntKind.wrap .u8 i)=1+i:=by rw[w8 (n:=i) (by omega),w8 (by omega)]
 rw[hw]
 have hi6:i=0∨i=1∨i=2∨i=3∨i=4∨i=5:=by omega
 have just:∀(k:Int),i=k-1→k=3∨k=5→c.A9 i pos s.inc=(⟨k,0,(c.name s.inc).1,eU,eU,eU,eU,pos⟩,(c.name s.inc).2):=fun k h1 h2=>by
  unfold PC.A9 PC.ny
  rw[if_neg (by omega),if_neg (by omega),if_neg (by omega),if_neg (by omega),h1,show 1+(k-1)=k by omega]
 refine⟨fun h=>?_,fun h1=>⟨fun h=>?_,fun h2=>⟨fun h=>?_,fun h4=>⟨fun h=>?_,fun h6'=>?_⟩⟩⟩⟩
 ·-- fZ
  have h:i=0:=by have:1+i=1:=by simpa using h
                 omega
  subst h
  have ed:c.A9 0 pos s.inc=c.tC (c.dW s.inc).1 pos (c.dW s.inc).2:=if_pos rfl
  rw[ed]
  refine db.use (nJ hc b s.inc I2 _ _ hL (gI (.refl _))) (fun v K I3 G l3 hL3 hv hG=>.inl ?_) fun f e I3 G l3 hd hf=>.inr (fe (A:=[]) (Kp.tC _ _ _ hd) hf)
  obtain⟨n1,rfl,hp1,hO1⟩:=hv
  generalize c.dW s.inc=r1 at hL3 hp1 hG
  refine⟨_,_,_,_,_,_,_,_,_,_,rfl,_,ft (A:=[]) hG,fun b2 I4 l4 hb2=>?_⟩
  have ex_:c.tC r1.1 pos r1.2=c.ij r1.1 (c.dW (c.take (⟨#[111,102]⟩:ByteArray) r1.2).2).1 pos (c.dW (c.take (⟨#[111,102]⟩:ByteArray) r1.2).2).2:=rfl
  rw[ex_]
  refine db.use (eX hc hL3 hb2 (gI (.refl _))) (fun v L I5 G l5 hL5 hv hG=>.inl ?_) fun f e I5 G l5 hd hf=>.inr (fe (Kp.ij _ _ _ _ (Kp.dW _ hd)) hf)
  obtain⟨⟨i5,rfl⟩,rfl⟩:=hv
  refine⟨_,rfl,_,ft hG, ?_⟩
  refine db.use (nJ hc b _ I5 _ _ hL5 (gI (.refl _))) (fun v L I6 G l6 hL6 hv hG=>.inl ?_) fun f e I6 G l6 hd hf=>.inr (fe (Kp.ij _ _ _ _ hd) hf)
  obtain⟨n2,rfl,hp2,hO2⟩:=hv
  generalize c.dW (c.take (⟨#[111,102]⟩:ByteArray) r1.2).2=r2 at hL6 hp2 hG
  refine⟨_,_,_,_,_,_,_,_,_,_,rfl,_,ft hG,fun b3 I7 l7 hb3=>?_⟩
  have ey:c.ij r1.1 r2.1 pos r2.2=if c.any yM r2.2<0 then (⟨1,0,⟨#[]⟩,r1.1,r2.1,eU,eU,pos⟩,c.c5 130 r2.2)
    else if c.any yM r2.2=1 then c.iw r1.1 r2.1 pos (c.dW r2.2.inc).1 (c.dW r2.2.inc).2 else c.jK r1.1 r2.1 pos eU 2 r2.2.inc:=rfl
  refine db.use (qI hc hL6 (words (ws:=yM) hb3 rfl) (by decide) (gI (.refl _))) (fun v M I8 G l8 hL8 hv hG=>.inl ?_) fun f e I8 G l8 hd hf=>.inr (fe ?_ hf)
  rotate_left
  ·rw[ey]
   by_cases h:c.any yM r2.2<0
   ·rw[if_pos h];rw[show (c.oneOf yM r2.2).2=c.c5 130 r2.2 from if_pos h] at hd;exact hd
   ·rw[if_neg h];rw[show (c.oneOf yM r2.2).2=r2.2.inc from if_neg h] at hd
    split
    ·exact Kp.iw _ _ _ _ _ (Kp.dW _ hd)
    ·exact Kp.jK _ _ _ _ _ _ hd
  obtain⟨rfl,rfl⟩:=hv
  have hg2:¬c.any yM r2.2<0:=fun hlt=>by
   rw[show (c.oneOf yM r2.2).2=c.c5 130 r2.2 from if_pos hlt] at hL8
   exact (hL6.c5 (e:=130) (by decide)).2.live hL8
  rw[show (c.oneOf yM r2.2).2=r2.2.inc from if_neg hg2] at hL8 hG
  rw[ey,if_neg hg2]
  have e4:(c.oneOf yM r2.2).1=c.any yM r2.2:=rfl
  rw[e4]
  refine⟨_,rfl,_,ft hG,fun h=>?_,fun h=>?_⟩
  ·have h:c.any yM r2.2=1:=by simpa using h
   rw[if_pos h]
   refine db.use (nJ hc b _ I8 _ _ hL8 (gI (.refl _))) (fun v M I9 G l9 hL9 hv hG=>.inl ?_) fun f e I9 G l9 hd hf=>.inr (fe (Kp.iw _ _ _ _ _ hd) hf)
   obtain⟨n3,rfl,hp3,hO3⟩:=hv
   generalize c.dW r2.2.inc=r3 at hL9 hp3 hG
   refine⟨_,_,_,_,_,_,_,_,_,_,rfl,_,ft hG,fun b4 I10 l10 hb4 b5 I11 l11 hb5=>?_⟩
   have ez:c.iw r1.1 r2.1 pos r3.1 r3.2=if c.any fY r3.2<0 then (⟨1,2,⟨#[]⟩,r1.1,r2.1,r3.1,eU,pos⟩,c.c5 130 r3.2) else c.jK r1.1 r2.1 pos r3.1 (if c.any fY r3.2=0 then 1 else 2+c.any fY r3.2) r3.2.inc:=rfl
   refine db.use (qI hc hL9 (words (ws:=fY) hb5 rfl) (by decide) (gI (.refl _))) (fun v N I12 G l12 hL12 hv hG=>.inl ?_) fun f e I12 G l12 hd hf=>.inr (fe ?_ hf)
   rotate_left
   ·rw[ez]
    by_cases h:c.any fY r3.2<0
    ·rw[if_pos h];rw[show (c.oneOf fY r3.2).2=c.c5 130 r3.2 from if_pos h] at hd;exact hd
    ·rw[if_neg h];rw[show (c.oneOf fY r3.2).2=r3.2.inc from if_neg h] at hd;exact Kp.jK _ _ _ _ _ _ hd
   obtain⟨rfl,rfl⟩:=hv
   have hg3:¬c.any fY r3.2<0:=fun hlt=>by
    rw[show (c.oneOf fY r3.2).2=c.c5 130 r3.2 from if_pos hlt] at hL12
    exact (hL9.c5 (e:=130) (by decide)).2.live hL12
   rw[show (c.oneOf fY r3.2).2=r3.2.inc from if_neg hg3] at hL12 hG
   rw[ez,if_neg hg3]
   have e5:(c.oneOf fY r3.2).1=c.any fY r3.2:=rfl
   rw[e5]
   have hlo:0≤c.any fY r3.2∧c.any fY r3.2<4:=⟨Int.not_lt.1 hg3,(dB (Int.not_lt.1 hg3)).2⟩
   generalize c.any fY r3.2=k at hlo
   refine⟨_,rfl,_,ft hG,hlo,_,rfl,_,A0 ((cS.le_trans l11 l12).at hb4) hlo.1 hlo.2, ?_⟩
   rw[z0 hL12]
   refine cZ.ret (qe hL12 (eo.of (gI (.refl _))) (⟨#[97,115]⟩:ByteArray)) fun I13 l13=>⟨_,rfl,_,.refl _,fun h=>?_,fun h=>?_⟩
   ·rw[if_pos h]
    refine db.use (eB hc hL12 (jM hL12 h) (gI (.refl _))) (fun v N I14 G l14 hL14 hv hG=>.inl ?_) fun f e I14 G l14 hd hf=>.inr (fe hd.name hf)
    obtain⟨rfl,rfl⟩:=hv
    refine⟨rfl,_,ft hG, ?_⟩
    refine db.use (jC hc hL14 (gI (.refl _))) (fun v N I15 G l15 hL15 hv hG=>.inl ?_) fun f e I15 G l15 hd hf=>.inr (fe hd hf)
    obtain⟨rfl,rfl⟩:=hv
    exact⟨_,rfl,_,ft hG,.inl ⟨hL15,_,_,rfl,⟨⟨1,if k=0 then 1 else 2+k,(c.name r3.2.inc.inc).1,n1,n2,n3,kY,pos⟩,rfl,by simp only[gC.p,hp1,hp2,hp3,mO],iP.of hO1 hO2 hO3 eY⟩,cU fun z=>by simp only[cV,cY,c6];omega⟩⟩
   ·rw[if_neg (by simp[h])]
    exact .inl ⟨hL12,_,_,rfl,⟨⟨1,if k=0 then 1 else 2+k,⟨#[]⟩,n1,n2,n3,kY,pos⟩,rfl,by simp only[gC.p,hp1,hp2,hp3,mO],iP.of hO1 hO2 hO3 eY⟩,cU fun z=>by simp only[cV,cY,c6];omega⟩
  ·have h:c.any yM r2.2≠1:=by simpa using h
   rw[if_neg h,z0 hL8]
   refine cZ.ret (qe hL8 (eo.of (gI (.refl _))) (⟨#[97,115]⟩:ByteArray)) fun I13 l13=>⟨_,rfl,_,.refl _,fun h=>?_,fun h=>?_⟩
   ·rw[if_pos h]
    refine db.use (eB hc hL8 (jM hL8 h) (gI (.refl _))) (fun v N I14 G l14 hL14 hv hG=>.inl ?_) fun f e I14 G l14 hd hf=>.inr (fe hd.name hf)
    obtain⟨rfl,rfl⟩:=hv
    refine⟨rfl,_,ft hG, ?_⟩
    refine db.use (jC hc hL14 (gI (.refl _))) (fun v N I15 G l15 hL15 hv hG=>.inl ?_) fun f e I15 G l15 hd hf=>.inr (fe hd hf)
    obtain⟨rfl,rfl⟩:=hv
    exact⟨_,rfl,_,ft hG,.inl ⟨hL15,_,_,rfl,⟨⟨1,2,(c.name r2.2.inc.inc).1,n1,n2,kY,kY,pos⟩,rfl,by simp only[gC.p,hp1,hp2,mO],iP.of hO1 hO2 eY eY⟩,cU fun z=>by simp only[cV,cY,c6];omega⟩⟩
   ·rw[if_neg (by simp[h])]
    exact .inl ⟨hL8,_,_,rfl,⟨⟨1,2,⟨#[]⟩,n1,n2,kY,kY,pos⟩,rfl,by simp only[gC.p,hp1,hp2,mO],iP.of hO1 hO2 eY eY⟩,cU fun z=>by simp only[cV,cY,c6];omega⟩
 ·-- amend
  have h:i=1:=by have:1+i=2:=by simpa using h
                 omega
  subst h
  have ed:c.A9 1 pos s.inc=c.A8 (c.name s.inc).1 pos (c.dW (c.take (⟨#[116,111]⟩:ByteArray) (c.name s.inc).2).2).1 (c.dW (c.take (⟨#[116,111]⟩:ByteArray) (c.name s.inc).2).2).2:=rfl
  rw[ed]
  refine db.use (jC hc hL (gI (.refl _))) (fun v K I3 G l3 hL3 hv hG=>.inl ?_) fun f e I3 G l3 hd hf=>.inr (fe (A:=[]) (Kp.A8 _ _ _ _ (Kp.dW _ (hd.take _))) hf)
  obtain⟨rfl,rfl⟩:=hv
  refine⟨_,rfl,_,ft (A:=[]) hG,fun b6 I4 l4 hb6=>?_⟩
  refine db.use (eX hc hL3 hb6 (gI (.refl _))) (fun v L I5 G l5 hL5 hv hG=>.inl ?_) fun f e I5 G l5 hd hf=>.inr (fe (Kp.A8 _ _ _ _ (Kp.dW _ hd)) hf)
  obtain⟨⟨i5,rfl⟩,rfl⟩:=hv
  refine⟨_,rfl,_,ft hG, ?_⟩
  refine db.use (nJ hc b _ I5 _ _ hL5 (gI (.refl _))) (fun v L I6 G l6 hL6 hv hG=>.inl ?_) fun f e I6 G l6 hd hf=>.inr (fe (Kp.A8 _ _ _ _ hd) hf)
  obtain⟨n2,rfl,hp2,hO2⟩:=hv
  generalize c.dW (c.take (⟨#[116,111]⟩:ByteArray) (c.name s.inc).2).2=r2 at hL6 hp2 hG
  have ea:c.A8 (c.name s.inc).1 pos r2.1 r2.2=(⟨2,0,(c.name s.inc).1,eU,r2.1,(c.dW (c.take (⟨#[97,116]⟩:ByteArray) r2.2).2).1,eU,pos⟩,(c.dW (c.take (⟨#[97,116]⟩:ByteArray) r2.2).2).2):=rfl
  rw[ea]
  refine⟨_,_,_,_,_,_,_,_,_,_,rfl,_,ft hG,fun b7 I7 l7 hb7=>?_⟩
  refine db.use (eX hc hL6 hb7 (gI (.refl _))) (fun v L I8 G l8 hL8 hv hG=>.inl ?_) fun f e I8 G l8 hd hf=>.inr (fe (Kp.dW _ hd) hf)
  obtain⟨⟨i8,rfl⟩,rfl⟩:=hv
  refine⟨_,rfl,_,ft hG, ?_⟩
  refine db.use (nJ hc b _ I8 _ _ hL8 (gI (.refl _))) (fun v L I9 G l9 hL9 hv hG=>.inl ?_) fun f e I9 G l9 hd hf=>.inr (fe hd hf)
  obtain⟨n3,rfl,hp3,hO3⟩:=hv
  exact⟨_,_,_,_,_,_,_,_,_,_,rfl,_,ft hG,.inl ⟨hL9,_,_,rfl,⟨⟨2,0,(c.name s.inc).1,kY,n2,n3,kY,pos⟩,rfl,by simp only[gC.p,hp2,hp3,mO],iP.of eY hO2 hO3 eY⟩,cU fun z=>by simp only[cV,cY,c6];omega⟩⟩
 ·-- set
  have h:i=3:=by have:1+i=4:=by simpa using h
                 omega
  subst h
  have ed:c.A9 3 pos s.inc=(⟨4,0,(c.name s.inc).1,eU,eU,eU,(c.dW (c.take (⟨#[61]⟩:ByteArray) (c.name s.inc).2).2).1,pos⟩,(c.dW (c.take (⟨#[61]⟩:ByteArray) (c.name s.inc).2).2).2):=rfl
  rw[ed]
  refine db.use (jC hc hL (gI (.refl _))) (fun v K I3 G l3 hL3 hv hG=>.inl ?_) fun f e I3 G l3 hd hf=>.inr (fe (A:=[]) (Kp.dW _ (hd.take _)) hf)
  obtain⟨rfl,rfl⟩:=hv
  refine⟨_,rfl,_,ft (A:=[]) hG,fun b6 I4 l4 hb6=>?_⟩
  refine db.use (eX hc hL3 hb6 (gI (.refl _))) (fun v L I5 G l5 hL5 hv hG=>.inl ?_) fun f e I5 G l5 hd hf=>.inr (fe (Kp.dW _ hd) hf)
  obtain⟨⟨i5,rfl⟩,rfl⟩:=hv
  refine⟨_,rfl,_,ft hG, ?_⟩
  refine db.use (nJ hc b _ I5 _ _ hL5 (gI (.refl _))) (fun v L I6 G l6 hL6 hv hG=>.inl ?_) fun f e I6 G l6 hd hf=>.inr (fe hd hf)
  obtain⟨n2,rfl,hp2,hO2⟩:=hv
  exact⟨_,_,_,_,_,_,_,_,_,_,rfl,_,ft hG,.inl ⟨hL6,_,_,rfl,⟨⟨4,0,(c.name s.inc).1,kY,kY,kY,n2,pos⟩,rfl,by simp only[gC.p,hp2,mO],iP.of eY eY eY hO2⟩,cU fun z=>by simp only[cV,cY,c6];omega⟩⟩
 ·-- halt
  have h:i=5:=by have:1+i=6:=by simpa using h
                 omega
  subst h
  have ed:c.A9 5 pos s.inc=(⟨6,0,⟨#[]⟩,eU,eU,eU,eU,pos⟩,s.inc):=rfl
  rw[ed]
  exact .inl ⟨hL,_,_,rfl,⟨⟨6,0,⟨#[]⟩,kY,kY,kY,kY,pos⟩,rfl,by simp only[gC.p,mO],iP.of eY eY eY eY⟩,.refl _⟩
 ·have h1:1+i≠1:=by simpa using h1
  have h2:1+i≠2:=by simpa using h2
  have h4:1+i≠4:=by simpa using h4
  have h6':1+i≠6:=by simpa using h6'
  rw[just (1+i) (by omega) (by omega)]
  refine db.use (jC hc hL (gI (.refl _))) (fun v K I3 G l3 hL3 hv hG=>.inl ?_) fun f e I3 G l3 hd hf=>.inr (fe (A:=[]) hd hf)
  obtain⟨rfl,rfl⟩:=hv
  exact⟨_,rfl,_,ft (A:=[]) hG,.inl ⟨hL3,_,_,rfl,⟨⟨1+i,0,(c.name s.inc).1,kY,kY,kY,kY,pos⟩,rfl,by simp only[gC.p,mO],iP.of eY eY eY eY⟩,.refl _⟩⟩
end
end Go.Lx
namespace Go.Lx
open Go.Vc
theorem GB(d:gC):∀u∈d.enc,u.oneCell'=true:=fun u hu=>by
 simp only[gC.enc,List.mem_cons,List.not_mem_nil,or_false] at hu
 rcases hu with rfl | rfl | rfl | rfl | rfl | rfl | rfl | rfl | rfl | rfl | rfl | rfl | rfl | rfl | rfl | rfl | rfl | rfl | rfl | rfl | rfl | rfl | rfl | rfl | rfl | rfl | rfl | rfl | rfl | rfl | rfl | rfl | rfl | rfl | rfl | rfl<;>rfl
theorem GC(d:dV):∀u∈d.enc,u.oneCell'=true:=fun u hu=>by
 simp only[dV.enc,List.mem_cons,List.not_mem_nil,or_false] at hu
 rcases hu with rfl | rfl | rfl | rfl | rfl | rfl | rfl | rfl | rfl | rfl | rfl<;>rfl
theorem GD(d:di):∀u∈d.enc,u.oneCell'=true:=fun u hu=>by
 simp only[di.enc,List.mem_cons,List.not_mem_nil,or_false] at hu
 rcases hu with rfl | rfl<;>rfl
theorem GF(d:dq):∀u∈d.enc,u.oneCell'=true:=fun u hu=>by
 simp only[dq.enc,List.mem_cons,List.not_mem_nil,or_false] at hu
 rcases hu with rfl | rfl | rfl | rfl | rfl | rfl | rfl | rfl | rfl | rfl<;>rfl
theorem GG(d:c9):∀u∈d.enc,u.oneCell'=true:=fun u hu=>by
 simp only[c9.enc,List.mem_cons,List.not_mem_nil,or_false] at hu
 rcases hu with rfl | rfl | rfl<;>rfl
section
variable {F F1 F2 R0 Hx:cR} {a:Option Addr} {n k:Nat} {b:Nat} {I:cS}
theorem DO{l:List gC}{x:gC}{O:gC→cR→Prop}(h:Part 36 gC.enc 114 O a n k l F F1)(hb:I b=some (.cells x.enc.toArray 114 (0,0)))(hx:O x Hx)(hF2:F2.Perm (R0++(Hx++F1)))(hl:l.length≤1000000) :
  dO P (Builtin.append_ #[108,108] 108 #[.slice a n k,.slice (some ⟨b,0,none⟩) 1 1]) I F2 fun v I' G=>∃a' n' c',v=.slice a' n' c'∧∃F3,G.Perm (R0++F3)∧Part 36 gC.enc 114 O a' n' c' (l++[x]) F F3 :=
 fQ (f:=gC.enc) (fun _=>rfl) (zv:=(⟨0,0,⟨#[]⟩,kY,kY,kY,kY,0⟩:gC).v) (by':=320) (by kernel_rfl) (by kernel_rfl) rfl (by decide) h (GB x) rfl hb hx hF2 (by omega)
theorem FI{l:List dV}{x:dV}{O:dV→cR→Prop}(h:Part 11 dV.enc 104 O a n k l F F1)(hb:I b=some (.cells x.enc.toArray 104 (0,0)))(hx:O x Hx)(hF2:F2.Perm (R0++(Hx++F1)))(hl:l.length≤1000000) :
  dO P (Builtin.append_ #[39,39] 39 #[.slice a n k,.slice (some ⟨b,0,none⟩) 1 1]) I F2 fun v I' G=>∃a' n' c',v=.slice a' n' c'∧∃F3,G.Perm (R0++F3)∧Part 11 dV.enc 104 O a' n' c' (l++[x]) F F3 :=
 fQ (f:=dV.enc) (fun _=>rfl) (zv:=(⟨⟨#[]⟩,0,kY,0⟩:dV).v) (by':=104) (by kernel_rfl) (by kernel_rfl) rfl (by decide) h (GC x) rfl hb hx hF2 (by omega)
theorem FJ{l:List di}{x:di}{O:di→cR→Prop}(h:Part 2 di.enc 106 O a n k l F F1)(hb:I b=some (.cells x.enc.toArray 106 (0,0)))(hx:O x Hx)(hF2:F2.Perm (R0++(Hx++F1)))(hl:l.length≤1000000) :
  dO P (Builtin.append_ #[40,40] 40 #[.slice a n k,.slice (some ⟨b,0,none⟩) 1 1]) I F2 fun v I' G=>∃a' n' c',v=.slice a' n' c'∧∃F3,G.Perm (R0++F3)∧Part 2 di.enc 106 O a' n' c' (l++[x]) F F3 :=
 fQ (f:=di.enc) (fun _=>rfl) (zv:=(⟨⟨#[]⟩,0⟩:di).v) (by':=24) (by kernel_rfl) (by kernel_rfl) rfl (by decide) h (GD x) rfl hb hx hF2 (by omega)
theorem FK{l:List dq}{x:dq}{O:dq→cR→Prop}(h:Part 10 dq.enc 110 O a n k l F F1)(hb:I b=some (.cells x.enc.toArray 110 (0,0)))(hx:O x Hx)(hF2:F2.Perm (R0++(Hx++F1)))(hl:l.length≤1000000) :
  dO P (Builtin.append_ #[86,86] 86 #[.slice a n k,.slice (some ⟨b,0,none⟩) 1 1]) I F2 fun v I' G=>∃a' n' c',v=.slice a' n' c'∧∃F3,G.Perm (R0++F3)∧Part 10 dq.enc 110 O a' n' c' (l++[x]) F F3 :=
 fQ (f:=dq.enc) (fun _=>rfl) (zv:=(⟨kY,none,0,[],0⟩:dq).v) (by':=104) (by kernel_rfl) (by kernel_rfl) rfl (by decide) h (GF x) rfl hb hx hF2 (by omega)
theorem FL{l:List c9}{x:c9}{O:c9→cR→Prop}(h:Part 3 c9.enc 88 O a n k l F F1)(hb:I b=some (.cells x.enc.toArray 88 (0,0)))(hx:O x Hx)(hF2:F2.Perm (R0++(Hx++F1)))(hl:l.length≤1000000) :
  dO P (Builtin.append_ #[41,41] 41 #[.slice a n k,.slice (some ⟨b,0,none⟩) 1 1]) I F2 fun v I' G=>∃a' n' c',v=.slice a' n' c'∧∃F3,G.Perm (R0++F3)∧Part 3 c9.enc 88 O a' n' c' (l++[x]) F F3 :=
 fQ (f:=c9.enc) (fun _=>rfl) (zv:=(⟨⟨#[]⟩,none,0,[],0⟩:c9).v) (by':=48) (by kernel_rfl) (by kernel_rfl) rfl (by decide) h (GG x) rfl hb hx hF2 (by omega)
end
def gJ(c:PC)(res:List eJ×PS)(ds:List eJ)(s:PS):Prop :=
 res=if c.ej (⟨#[44]⟩:ByteArray) s then (if (c.many ds.length 8 s).over then (ds,c.many ds.length 8 s) else c.fc (8-ds.length) ds (c.many ds.length 8 s).inc) else (ds,s)
section
variable {c:PC} {t:ByteArray} {s:PS} {b:Nat} {F F0:cR} {res:List eJ×PS} {ds:List eJ}
theorem gJ.start(s:PS):gJ c (c.fc 8 [] s) [(c.do s).1] (c.do s).2:=by
 unfold gJ;rw[PC.fc];rfl
theorem z2{n m:Nat}(h:n<m):c.many n m s=s:=by unfold PC.many;rw[if_neg (by omega)]
theorem qL{n:Nat}(hl:c.Live s):(c.many n n s).over=true∧c.dD ⟨131,(c.tok s.next).pos,false⟩ (c.many n n s):=by
 unfold PC.many;rw[if_pos (Nat.le_refl _)]
 have:=hl.c5 (e:=131) (by decide)
 exact⟨by rw[this.1];rfl,this.2⟩
theorem gJ.stop(h:gJ c res ds s)(hw:c.ej (⟨#[44]⟩:ByteArray) s=false):res=(ds,s):=by
 unfold gJ at h;rw[hw] at h;exact h
theorem gJ.full(h:gJ c res ds s)(hl:c.Live s)(hw:c.ej (⟨#[44]⟩:ByteArray) s=true)(hd:ds.length=8):c.dD ⟨131,(c.tok s.next).pos,false⟩ res.2:=by
 unfold gJ at h
 rw[if_pos hw,hd,(qL hl).1,if_pos rfl] at h
 rw[h];exact (qL hl).2
theorem gJ.next(h:gJ c res ds s)(hl:c.Live s)(hw:c.ej (⟨#[44]⟩:ByteArray) s=true)(hd:ds.length<8):res=c.fc (8-ds.length) ds s.inc∧gJ c res (ds++[(c.do s.inc).1]) (c.do s.inc).2:=by
 unfold gJ at h ⊢
 rw[if_pos hw,z2 hd,hl.1,if_neg (by simp)] at h
 refine⟨h, ?_⟩
 obtain⟨m,hm⟩:∃m,8-ds.length=m+1:=⟨8-ds.length-1,by omega⟩
 rw[hm,PC.fc] at h
 rw[h,List.length_append,List.length_singleton,show 8-(ds.length+1)=m by omega]
theorem gJ.dead(h:gJ c res ds s){f:PF}(hd:c.dD f s):c.dD f res.2:=by
 rw[h.stop (hd.ej _)];exact hd
def GH(x:dz)(v:Value)(H:cR):Prop:=∃r:dq,v=r.v∧r.p=x∧lb false r H
theorem Ds(hc:c.Of t)(hl:c.Live s)(hw:c.ej (⟨#[119,104,101,110]⟩:ByteArray) s=true){I:cS}(hF:F.Perm (c.px t b s::F0)) :
  cZ P 107 #[.pointer (some ⟨b,0,none⟩)] I F (db c t b GH F0 (c.fS s)):=by
 have hp:=eo.of (I:=I) hF
 have er0:c.fS s=c.kK (c.dW s.inc).1 (c.tok s.next).pos (c.take (⟨#[100,111]⟩:ByteArray) (c.dW s.inc).2).2:=by unfold PC.fS;rw[qf hl hw]
 generalize hpos:(c.tok s.next).pos=pos at er0
 rw[er0]
 refine gR.vc (fun k0 k1 k2 k3 k4 k5 ka kn kk k7 a n k ps m I' F'=>ps=pos∧∃(w:Nd) (K:cR) (dsN:List gC) (si:PS),k0=w.kind∧k1=w.oper∧k2=w.dH∧k3=w.n∧k4=w.field∧k5=w.name∧ka=w.a∧kn=w.kids.length∧kk=w.c∧k7=w.pos∧w.px=(c.dW s.inc).1∧eH 64 false w K∧c.Live si∧m=8-dsN.length∧0<dsN.length∧dsN.length≤8 ∧
  gJ c (c.fc 8 [] (c.take (⟨#[100,111]⟩:ByteArray) (c.dW s.inc).2).2) (dsN.map gC.p) si∧Part 36 gC.enc 114 (iP false) a n k dsN (c.px t b si::(K++F0)) F') ?_
 unfold gR.V
 intro b0
 refine⟨_,rfl,_,(hp.mono (cS.le_refl I) fun x hx=>.tail _ hx).rd.dR (p:=1) (q:=4) rfl,fun br=>?_⟩
 rw[hpos]
 refine db.use (eB hc hl (jM hl hw) (gI hF)) (fun v K I1 G l1 hL hv hG=>.inl ?_) fun f e I1 G l1 hd hf=>.inr (fe (A:=[]) (Kp.kK _ _ _ ((Kp.dW _ hd).take _)) hf)
 obtain⟨rfl,rfl⟩:=hv
 refine⟨rfl,_,ft (A:=[]) hG, ?_⟩
 refine db.use (nJ hc b s.inc I1 _ _ hL (gI (.refl _))) (fun v K I2 G l2 hL2 hv hG=>.inl ?_) fun f e I2 G l2 hd hf=>.inr (fe (A:=[]) (Kp.kK _ _ _ (hd.take _)) hf)
 obtain⟨w,rfl,hpw,hOw⟩:=hv
 refine⟨_,_,_,_,_,_,_,_,_,_,rfl,_,ft (A:=[]) hG,fun b1 I3 l3 hb1=>?_⟩
 refine db.use (eX hc hL2 hb1 (gI (.refl _))) (fun v L I4 G l4 hL4 hv hG=>.inl ?_) fun f e I4 G l4 hd hf=>.inr (fe (Kp.kK _ _ _ hd) hf)
 obtain⟨⟨i4,rfl⟩,rfl⟩:=hv
 generalize hs4:(c.take (⟨#[100,111]⟩:ByteArray) (c.dW s.inc).2).2=s4 at hL4 hG
 have rel0:=gJ.start (c:=c) s4
 have fin:∀{f:PF} {q:List eJ×PS},q=c.fc 8 [] s4→c.dD f q.2→c.dD f (c.kK (c.dW s.inc).1 pos s4).2:=fun e h=>by
  subst e;exact h.take _
 refine⟨_,rfl,_,ft hG, ?_⟩
 refine db.use (DN hc hL4 (gI (.refl _))) (fun v L I5 G l5 hL5 hv hG=>.inl ?_) fun f e I5 G l5 hd hf=>.inr (fe (fin rfl (rel0.dead hd)) hf)
 obtain⟨d0,rfl,hpd,hOd⟩:=hv
 have hnil:Part 36 gC.enc 114 (iP false) none 0 0 [] (c.px t b (c.do s4).2::(K++F0)) (c.px t b (c.do s4).2::(K++F0)):=Part.nil
 refine⟨_,_,_,_,_,_,_,_,_,_,_,_,_,_,_,_,_,_,_,_,_,_,_,_,_,_,_,_,_,_,_,_,_,_,_,_,_,_,_,_,_,_,_,_,rfl,L++(c.px t b (c.do s4).2::(K++F0)),hG.trans (cU fun z=>by simp only[cV,cY,c6];omega),fun b2 I6 l6 hb2=>?_⟩
 refine dO.mono (DO (R0:=[_,_]) (Hx:=L) hnil hb2 hOd (.refl _) (by decide)) fun v I7 G l7 ⟨ra,rn,rk,hv,F3,hG3,hP⟩=>?_
 refine⟨ra,rn,rk,hv,F3,hG3,⟨_,rfl,w,K,[d0],(c.do s4).2,rfl,rfl,rfl,rfl,rfl,rfl,rfl,rfl,rfl,rfl,hpw,hOw,hL5,rfl,by simp,by simp, ?_,hP⟩, ?_⟩
 ·rw[List.map_singleton,hpd];exact rel0
 intro k0 k1 k2 k3 k4 k5 ka kn kk k7 a n k ps m I8 F6 l8 ⟨gp,w,K,dsN,si,e0,e1,e2,e3,e4,e5,ea,en,ek,e7,hpw,hOw,hLi,gm,hpos1,hle,hR,hPt⟩
 subst gp e0 e1 e2 e3 e4 e5 ea en ek e7 gm
 obtain⟨A,hs,hA,hO,hFp⟩:=hPt
 have hnl:=hA.1
 have frame:F6.Perm (c.px t b si::((A++(dI dsN.length hs++K))++F0)):=hFp.trans (cU fun z=>by simp only[cV,cY,c6];omega)
 refine cZ.ret (qe hLi (eo.of (gI frame)) (⟨#[44]⟩:ByteArray)) fun I9 l9=>⟨_,rfl,F6,.refl _,fun hw=>?_,fun hw=>?_⟩
 ·-- one more
  have key:∀(X Y:Nat×Obj) (I:cS) (F':cR) (Q':Ending→cS→cR→Prop),dsN.length<8→F'.Perm (c.px t b si.inc::((A++(dI dsN.length hs++K))++F0))→c.Live si.inc →
    (∀(d:gC) (I8:cS) (G F7:cR),G.Perm (X::Y::F7)→(∀(b3:Nat) (I9:cS),cS.le I8 I9→I9 b3=some (.cells d.enc.toArray 114 (0,0))→dO P (Builtin.append_ #[108,108] 108 #[.slice a n k,.slice (some ⟨b3,0,none⟩) 1 1]) I9 (X::Y::F7) fun v I10 G6=>∃(ra:Option Addr) (rn rc:Nat),v=.slice ra rn rc∧∃F8:cR,G6.Perm (X::Y::F8) ∧
     gJ c (c.fc 8 [] s4) ((dsN++[d]).map gC.p) (c.do si.inc).2∧c.Live (c.do si.inc).2∧Part 36 gC.enc 114 (iP false) ra rn rc (dsN++[d]) (c.px t b (c.do si.inc).2::(K++F0)) F8)→Q' (.returned d.v) I8 G) →
    (∀(f:PF) (e:Ending) (I8:cS) (G:cR),c.dD f (c.kK (c.dW s.inc).1 ps s4).2→dt f (X::Y::((A++(dI dsN.length hs++K))++F0)) e G→Q' e I8 G) →
    cZ P 126 #[.pointer (some ⟨b,0,none⟩)] I (X::Y::F') Q':=by
   intro X Y I F' Q' hlt hF' hLs k1 k2
   have hR2:=hR.next hLi hw (by rw[List.length_map];exact hlt)
   refine db.use (DN hc hLs (gI hF')) (fun v L I5 G l5 hL5 hv hG=>?_) fun f e I5 G l5 hd hf=>k2 f e I5 G (fin rfl (hR2.2.dead hd)) hf
   obtain⟨d,rfl,hpd,hOd⟩:=hv
   refine k1 d I5 G (L++(A++(dI dsN.length hs++(c.px t b (c.do si.inc).2::(K++F0))))) (hG.trans (cU fun z=>by simp only[cV,cY,c6];omega)) fun b3 I9 l9 hb3=>?_
   refine dO.mono (DO (R0:=[X,Y]) (Hx:=L) (F:=c.px t b (c.do si.inc).2::(K++F0)) ⟨A,hs,hA,hO,.refl _⟩ hb3 hOd (.refl _) (by omega)) fun v I7 G l7 ⟨ra,rn,rk,hv,F3,hG3,hP⟩=>⟨ra,rn,rk,hv,F3,hG3, ?_,hL5,hP⟩
   rw[List.map_append,List.map_singleton,hpd];exact hR2.2
  refine⟨fun h8=>?_,fun h8=>?_⟩
  ·have h8:dsN.length=8:=by have:(n:Int)=8:=by simpa using h8
                            omega
   refine (fD (eo.of (gI frame)) 131).mono fun e I10 G l10 hf=>.inr ?_
   have hd:=hR.full hLi hw (by rw[List.length_map];exact h8)
   exact fe (fin rfl hd) (hf.tail (gI frame))
  ·have h8:dsN.length<8:=by have:¬(n:Int)=8:=by simpa using h8
                            omega
   have hR2:=hR.next hLi hw (by rw[List.length_map];exact h8)
   refine db.use (eB hc hLi (jM hLi hw) (gI frame)) (fun v L I10 G l10 hL10 hv hG=>.inl ?_) fun f e I10 G l10 hd hf=>.inr (fe (fin hR2.1.symm (Kp.fc _ _ _ hd)) hf)
   obtain⟨rfl,rfl⟩:=hv
   refine⟨rfl,_,ft hG,key _ _ _ _ _ h8 (.refl _) hL10 (fun d I11 G F7 hG7 kA=>.inl ⟨_,_,_,_,_,_,_,_,_,_,_,_,_,_,_,_,_,_,_,_,_,_,_,_,_,_,_,_,_,_,_,_,_,_,_,_,_,_,_,_,_,_,_,_,rfl,F7,hG7,fun b3 I12 l12 hb3=>?_⟩) fun f e I11 G hd hf=>.inr (fe hd hf)⟩
   refine dO.mono (kA b3 I12 l12 hb3) fun v I13 G l13 ⟨ra,rn,rk,hv,F8,hG8,r1,r2,r3⟩=>⟨ra,rn,rk,hv,F8,hG8,8-(dsN.length+1),by omega,rfl,w,K,dsN++[d],_,rfl,rfl,rfl,rfl,rfl,rfl,rfl,rfl,rfl,rfl,hpw,hOw,r2,by rw[List.length_append,List.length_singleton],by rw[List.length_append,List.length_singleton];omega,by rw[List.length_append,List.length_singleton];omega,r1,r3⟩
 ·have hres:=hR.stop hw
  have er:c.kK (c.dW s.inc).1 ps s4=(⟨(c.dW s.inc).1,dsN.map gC.p,ps⟩,(c.take (⟨#[59]⟩:ByteArray) si).2):=by unfold PC.kK;rw[hres]
  rw[er]
  intro b5 I10 l10 hb5
  refine db.use (eX hc hLi hb5 (gI frame)) (fun v L I11 G l11 hL11 hv hG=>.inl ?_) fun f e I11 G l11 hd hf=>.inr (fe hd hf)
  obtain⟨⟨i11,rfl⟩,rfl⟩:=hv
  subst hnl
  refine⟨_,rfl,_,ft hG,.inl ⟨hL11,_,K++(A++dI dsN.length hs),rfl,⟨⟨w,a,k,dsN,ps⟩,rfl, ?_,K,A++dI dsN.length hs,rfl,hOw,A,hs,rfl,hA,fun h=>(by cases h),hO⟩,cU fun z=>by simp only[cV,cY,c6];omega⟩⟩
  simp only[dq.p,hpw]
end
end Go.Lx
namespace Go.Lx
open Go.Vc
section
variable {c:PC} {t:ByteArray} {s:PS} {b:Nat} {F F0:cR}
def GI(x:dL)(v:Value)(H:cR):Prop:=∃r:dV,v=r.v∧r.p=x∧lE false r H
theorem Cr(hc:c.Of t)(hl:c.Live s){f:PF}(hd:c.dD f (c.literal s).2):(c.literal s).1.2=true:=by
 cases h2:(c.literal s).1.2 with
 | true=>rfl
 | false=>rw[om hc hl h2] at hd;exact (hd.live hl).elim
theorem EM(hc:c.Of t)(hl:c.Live s)(hw:c.ej (⟨#[114,101,103]⟩:ByteArray) s=true){I:cS}(hF:F.Perm (c.px t b s::F0)) :
  cZ P 69 #[.pointer (some ⟨b,0,none⟩)] I F (db c t b GI F0 (c.lx s)):=by
 have hp:=eo.of (I:=I) hF
 have er0:c.lx s=c.kJ (c.name s.inc).1 (c.tok s.next).pos (c.name s.inc).2:=by unfold PC.lx;rw[qf hl hw]
 generalize hpos:(c.tok s.next).pos=pos at er0
 rw[er0]
 refine ic.vc ?_
 unfold ic.V
 intro b0
 refine⟨_,rfl,_,(hp.mono (cS.le_refl I) fun x hx=>.tail _ hx).rd.dR (p:=1) (q:=4) rfl,fun br=>?_⟩
 rw[hpos]
 refine db.use (eB hc hl (jM hl hw) (gI hF)) (fun v K I1 G l1 hL hv hG=>.inl ?_) fun f e I1 G l1 hd hf=>.inr (fe (A:=[]) (Kp.kJ _ _ _ hd.name) hf)
 obtain⟨rfl,rfl⟩:=hv
 refine⟨rfl,_,ft (A:=[]) hG, ?_⟩
 refine db.use (jC hc hL (gI (.refl _))) (fun v K I2 G l2 hL2 hv hG=>.inl ?_) fun f e I2 G l2 hd hf=>.inr (fe (A:=[]) (Kp.kJ _ _ _ hd) hf)
 obtain⟨rfl,rfl⟩:=hv
 generalize (c.name s.inc).1=nm at hG
 generalize (c.name s.inc).2=s2 at hL2 hG
 refine⟨_,rfl,_,ft (A:=[]) hG,fun b1 I3 l3 hb1=>?_⟩
 have en:c.kJ nm pos s2=if c.any jr s2<0 then (⟨nm,0,eU,pos⟩,c.c5 130 s2) else c.kI nm (1+c.any jr s2) pos (c.take (⟨#[61]⟩:ByteArray) s2.inc).2:=rfl
 refine db.use (qI hc hL2 (words (ws:=jr) hb1 rfl) (by decide) (gI (.refl _))) (fun v M I4 G l4 hL4 hv hG=>.inl ?_) fun f e I4 G l4 hd hf=>.inr (fe (A:=[]) ?_ hf)
 rotate_left
 ·rw[en]
  by_cases h:c.any jr s2<0
  ·rw[if_pos h];rw[show (c.oneOf jr s2).2=c.c5 130 s2 from if_pos h] at hd;exact hd
  ·rw[if_neg h];rw[show (c.oneOf jr s2).2=s2.inc from if_neg h] at hd;exact Kp.kI _ _ _ _ (hd.take _)
 obtain⟨rfl,rfl⟩:=hv
 have hg2:¬c.any jr s2<0:=fun hlt=>by
  rw[show (c.oneOf jr s2).2=c.c5 130 s2 from if_pos hlt] at hL4
  exact (hL2.c5 (e:=130) (by decide)).2.live hL4
 have h6:c.any jr s2<6:=(dB (Int.not_lt.1 hg2)).2
 rw[show (c.oneOf jr s2).2=s2.inc from if_neg hg2] at hL4 hG
 rw[if_neg hg2] at en
 rw[en]
 have e4:(c.oneOf jr s2).1=c.any jr s2:=rfl
 rw[e4]
 refine⟨_,rfl,_,ft (A:=[]) hG,fun b2 I5 l5 hb2=>?_⟩
 have hwr:IntKind.wrap .u8 (1+IntKind.wrap .u8 (c.any jr s2))=1+c.any jr s2:=by rw[w8 (n:=c.any jr s2) (by omega),w8 (by omega)]
 rw[hwr]
 generalize 1+c.any jr s2=ty
 refine db.use (eX hc hL4 hb2 (gI (.refl _))) (fun v L I6 G l6 hL6 hv hG=>.inl ?_) fun f e I6 G l6 hd hf=>.inr (fe (A:=[]) (Kp.kI _ _ _ _ hd) hf)
 obtain⟨⟨i6,rfl⟩,rfl⟩:=hv
 generalize (c.take (⟨#[61]⟩:ByteArray) s2.inc).2=s3 at hL6 hG
 have et:c.kI nm ty pos s3=c.jJ nm ty pos (c.tok s3.next).pos (c.ej (⟨#[45]⟩:ByteArray) s3) (if c.ej (⟨#[45]⟩:ByteArray) s3 then s3.inc else s3):=by unfold PC.kI;rw[hL6.now]
 rw[et]
 refine⟨_,rfl,_,ft (A:=[]) hG,b,Dl t (c.tok s3.next) (js (c.tok s3.next)),F0,.refl _,_,rfl,_,eo.held.rd.dR (p:=1) (q:=4) rfl, ?_⟩
 refine cZ.ret (qe hL6 eo.held (⟨#[45]⟩:ByteArray)) fun I7 l7=>⟨_,rfl,_,.refl _,fun hm=>?_,fun hm=>?_⟩
 ·-- a sign stands there
  rw[hm,if_pos rfl]
  refine db.use (eB hc hL6 (jM hL6 hm) (F:=_::_::(c.px t b s3::F0)) (gI (.refl _))) (fun v L I8 G l8 hL8 hv hG=>.inl ?_) fun f e I8 G l8 hd hf=>.inr (fe (A:=[]) (Kp.jJ _ _ _ _ _ _ hd) hf)
  obtain⟨rfl,rfl⟩:=hv
  refine⟨rfl,_,ft (A:=[]) hG,_,rfl,_,(eo.of (I:=I8) (gI (.refl _))).rd.dR (p:=1) (q:=0) rfl,fun h3=>?_,fun h3=>?_⟩
  ·have h3:(c.tok s3.inc.next).kind≠3:=by simpa using h3
   have el:c.jJ nm ty pos (c.tok s3.next).pos true s3.inc=(⟨nm,ty,eU,pos⟩,c.c5 130 s3.inc):=by unfold PC.jJ;rw[hL8.now,if_pos ⟨rfl,h3⟩]
   rw[el]
   refine (fD (eo.of (gI (.refl _))) 130).mono fun e I9 G l9 hf=>.inr ?_
   exact fe (A:=[]) (hL8.c5 (by decide)).2 (hf.tail (gI (.refl _)))
  ·have h3:(c.tok s3.inc.next).kind=3:=by simpa using h3
   have ell:=wq hL8 h3
   have el:c.jJ nm ty pos (c.tok s3.next).pos true s3.inc=c.lQ nm ty pos (c.tok s3.next).pos true (c.literal s3.inc).1.1 (c.literal s3.inc).2:=by
    unfold PC.jJ;rw[hL8.now,if_neg (fun h=>h.2 h3),ell,if_pos rfl]
   rw[el]
   refine db.use (pf hc hL8 (gI (.refl _))) (fun v L I9 G l9 hL9 hv hG=>.inl ?_) fun f e I9 G l9 hd hf=>.inr (fe (A:=[]) (Kp.lQ _ _ _ _ _ _ _ hd) hf)
   obtain⟨n,rfl,hpn,hOn,rfl⟩:=hv
   have htr:(c.literal s3.inc).1.2=true:=by rw[ell]
   refine⟨_,_,_,_,_,_,_,_,_,_,_,rfl,_,ft (A:=[]) hG,fun bn=>⟨fun h=>?_,fun _=>⟨fun _=>fun b3 b4 I10 l10 hb4=>?_,fun h=>absurd h (by decide)⟩⟩⟩
   ·rw[htr] at h;exact absurd h (by decide)
   ·refine db.use (eX hc hL9 hb4 (F0:=_::_::_::([(b3,Obj.cells n.enc.toArray 64 (0,0))]++F0)) ((List.Perm.cons _ (List.Perm.cons _ (List.Perm.cons _ (List.Perm.swap _ _ _)))).trans (wm (.refl _)))) (fun v L I11 G l11 hL11 hv hG=>.inl ?_) fun f e I11 G l11 hd hf=>.inr (EL hd hf)
    obtain⟨⟨i11,rfl⟩,rfl⟩:=hv
    refine⟨_,rfl,_,FH hG,.inl ⟨hL11,_,(b3,Obj.cells n.enc.toArray 64 (0,0))::([]++[]),rfl,⟨⟨nm,ty,.mk 5 1 0 0 0 ⟨#[]⟩ (some ⟨b3,0,none⟩) 1 [n] (c.tok s3.next).pos,pos⟩,rfl, ?_,eH.G0 hOn⟩,.refl _⟩⟩
    show dL.mk _ _ _ _=dL.mk _ _ _ _
    simp only[Nd.px,Nd.xp,hpn];rfl
 ·rw[hm,if_neg (by simp)]
  have el:c.jJ nm ty pos (c.tok s3.next).pos false s3=c.lQ nm ty pos (c.tok s3.next).pos false (c.literal s3).1.1 (if (c.literal s3).1.2 then (c.literal s3).2 else c.c5 130 (c.literal s3).2):=by
   unfold PC.jJ;rw[if_neg (fun h=>by cases h.1)]
  rw[el]
  refine db.use (pf hc hL6 (F:=_::_::(c.px t b s3::F0)) (gI (.refl _))) (fun v L I9 G l9 hL9 hv hG=>.inl ?_) fun f e I9 G l9 hd hf=>.inr (fe (A:=[]) (Kp.lQ _ _ _ _ _ _ _ ?_) hf)
  rotate_left
  ·rw[Cr hc hL6 hd,if_pos rfl];exact hd
  obtain⟨n,rfl,hpn,hOn,rfl⟩:=hv
  refine⟨_,_,_,_,_,_,_,_,_,_,_,rfl,_,ft (A:=[]) hG,fun bn=>⟨fun h=>?_,fun h=>⟨fun h=>absurd h (by decide),fun _=>fun b4 I10 l10 hb4=>?_⟩⟩⟩
  ·have h:(c.literal s3).1.2=false:=by simpa using h
   have hs:c.literal s3=((eU,false),s3):=om hc hL6 h
   rw[h,if_neg (by simp),hs]
   refine (fD (k:=c.tok s3.next) (f:=js (c.tok s3.next)) (t:=t) (eo.of (wm (.refl _))) 130).mono fun e I11 G l11 hf=>.inr ?_
   exact EL (A:=[]) (Kp.lQ _ _ _ _ _ _ _ (hL6.c5 (by decide)).2) (hf.tail (wm (.refl _)))
  ·have h:(c.literal s3).1.2=true:=by simpa using h
   rw[h,if_pos rfl]
   refine db.use (eX hc hL9 hb4 (wm (.refl _))) (fun v L I11 G l11 hL11 hv hG=>.inl ?_) fun f e I11 G l11 hd hf=>.inr (EL (A:=[]) hd hf)
   obtain⟨⟨i11,rfl⟩,rfl⟩:=hv
   refine⟨_,rfl,_,FH (A:=[]) hG,.inl ⟨hL11,_,[],rfl,⟨⟨nm,ty,n,pos⟩,rfl, ?_,hOn⟩,.refl _⟩⟩
   show dL.mk _ _ _ _=dL.mk _ _ _ _
   rw[hpn];rfl
end
end Go.Lx
namespace Go.Lx
open Go.Vc
theorem iS.ES{P:Program}{f:FuncId}{args:List Value}{I:cS}{F:cR}{Q:Ending→cS→cR→Prop}(he:dG P f)(h:cZ P f args.toArray I F Q):iS P (.func (.func f) #[] #[]) args I F Q :=
 fun w hw=>.inl ⟨f,#[],#[],rfl,he,by rw[show (#[]:Array Value)++args.toArray++#[]=args.toArray by simp];exact h w hw⟩
section
variable {c:PC} {t:ByteArray} {s:PS} {b:Nat} {F F0:cR}
def fi(c:PC){α:Type}(w:ByteArray)(most:Nat)(one:PS→α×PS)(res:List α×PS)(xs:List α)(s:PS):Prop:=xs.length≤most∧res=c.dZ w most one (most-xs.length) xs s
section
variable {α:Type} {w:ByteArray} {most:Nat} {one:PS→α×PS} {res:List α×PS} {xs:List α}
theorem fi.start(c:PC)(w:ByteArray)(most:Nat)(one:PS→α×PS)(s:PS):fi c w most one (c.list w most one s) [] s:=⟨Nat.zero_le _,rfl⟩
theorem fi.stop(h:fi c w most one res xs s)(hw:c.ej w s=false):res=(xs,s):=by
 rw[h.2]
 cases most-xs.length with
 | zero=>rw[PC.dZ,hw];rfl
 | succ m=>rw[PC.dZ,hw];rfl
theorem fi.full(h:fi c w most one res xs s)(hl:c.Live s)(hw:c.ej w s=true)(hx:xs.length=most):c.dD ⟨131,(c.tok s.next).pos,false⟩ res.2:=by
 rw[h.2,hx,Nat.sub_self,PC.dZ,hw,if_pos rfl,hx];exact (qL hl).2
theorem fi.next(h:fi c w most one res xs s)(hl:c.Live s)(hw:c.ej w s=true)(hx:xs.length<most):fi c w most one res (xs++[(one s).1]) (one s).2:=by
 obtain⟨h1,h2⟩:=h
 obtain⟨m,hm⟩:∃m,most-xs.length=m+1:=⟨most-xs.length-1,by omega⟩
 rw[hm,PC.dZ,if_pos hw,z2 hx,hl.1,if_neg (by simp)] at h2
 exact⟨by rw[List.length_append,List.length_singleton];omega,by rw[h2,List.length_append,List.length_singleton,show most-(xs.length+1)=m by omega]⟩
theorem fi.dead(h:fi c w most one res xs s){f:PF}(hd:c.dD f s):c.dD f res.2:=by
 rw[h.stop (hd.ej _)];exact hd
end
theorem rV{α:Type}{z E:Nat}{f:α→List Value}{O:α→cR→Prop}{F F':cR}(h:F'.Perm F):Part z f E O none 0 0 ([]:List α) F F':=⟨[],fun _=>[],Acc.nil,fun i k h=>by simp at h,h⟩
def Du(xs:List dL)(v:Value)(H:cR):Prop:=∃(a:Option Addr) (n k:Nat) (l:List dV),v=.slice a n k∧n=l.length∧l.map dV.p=xs∧nb false 11 dV.enc 104 (lE false) a n k l H
theorem zc:dG P 69:=q9 [69] (by kernel_rfl) _ (by decide)
theorem A1(hc:c.Of t)(hl:c.Live s){I:cS}(hF:F.Perm (c.px t b s::F0)) :
  cZ P 68 #[.pointer (some ⟨b,0,none⟩),.string (⟨#[114,101,103]⟩:ByteArray),.int .i64 12,.func (.func 69) #[] #[]] I F (db c t b Du F0 (c.list (⟨#[114,101,103]⟩:ByteArray) 12 c.lx s)):=by
 refine kf.vc (fun a n k m I' F'=>∃(xs:List dV) (si:PS),c.Live si∧m=12-xs.length∧fi c (⟨#[114,101,103]⟩:ByteArray) 12 c.lx (c.list (⟨#[114,101,103]⟩:ByteArray) 12 c.lx s) (xs.map dV.p) si∧Part 11 dV.enc 104 (lE false) a n k xs (c.px t b si::F0) F') ?_
 unfold kf.V
 refine⟨⟨_,[],s,hl,rfl,fi.start c _ _ _ s,rV hF⟩,fun a n k m I1 F1 l1 ⟨xs,si,hLi,gm,hR,hPt⟩=>?_⟩
 subst gm
 obtain⟨A,hs,hA,hO,hFp⟩:=hPt
 have hnl:=hA.1
 have hx:=hR.1
 rw[List.length_map] at hx
 have frame:F1.Perm (c.px t b si::((A++dI xs.length hs)++F0)):=hFp.trans (cU fun z=>by simp only[cV,cY,c6];omega)
 refine cZ.ret (qe hLi (eo.of frame) (⟨#[114,101,103]⟩:ByteArray)) fun I2 l2=>⟨_,rfl,F1,.refl _,fun hw=>⟨fun h=>?_,fun h=>?_⟩,fun hw=>?_⟩
 ·have h':(n:Int)=12:=by simpa using h
  have h:xs.length=12:=by omega
  refine (fD (eo.of frame) 131).mono fun e I3 G l3 hf=>.inr ?_
  exact dt.pass hf fun e' hf'=>.inr ⟨_,hR.full hLi hw (by rw[List.length_map];exact h),(hf'.tail frame).more⟩
 ·have h':¬(n:Int)=12:=by simpa using h
  have h:xs.length<12:=by omega
  have hR2:=hR.next hLi hw (by rw[List.length_map];exact h)
  refine iS.ES zc (db.use (EM hc hLi hw frame) (fun v L I3 G l3 hL3 hv hG=>.inl ?_) fun f e I3 G l3 hd hf=>.inr (dt.pass hf fun e' hf'=>.inr ⟨f,hR2.dead hd,hf'.more⟩))
  obtain⟨r,rfl,hpr,hOr⟩:=hv
  refine⟨_,_,_,_,_,_,_,_,_,_,_,_,_,rfl,L++(A++(dI xs.length hs++(c.px t b (c.lx si).2::F0))),hG.trans (cU fun z=>by simp only[cV,cY,c6];omega),fun b1 I4 l4 hb1=>?_⟩
  refine dO.mono (FI (R0:=[]) (Hx:=L) (x:=r) (F:=c.px t b (c.lx si).2::F0) ⟨A,hs,hA,hO,.refl _⟩ hb1 hOr (.refl _) (by omega)) fun v I5 G2 l5 ⟨ra,rn,rk,hv,F3,hG3,hP⟩=>?_
  refine⟨ra,rn,rk,hv,F3,hG3,12-(xs.length+1),by omega,xs++[r],(c.lx si).2,hL3,by rw[List.length_append,List.length_singleton], ?_,hP⟩
  rw[List.map_append,List.map_singleton,hpr];exact hR2
 ·have hres:=hR.stop hw
  rw[hres]
  exact .inl ⟨hLi,_,A++dI n hs,rfl,⟨a,n,k,xs,rfl,hnl,rfl,A,hs,rfl,hA,fun h=>(by cases h),hO⟩,by rw[hnl];exact frame⟩
def Cs(xs:List di)(v:Value)(H:cR):Prop:=∃(a:Option Addr) (n k:Nat) (l:List di),v=.slice a n k∧n=l.length∧l.map id=xs∧nb false 2 di.enc 106 p6 a n k l H
theorem xU:dG P 71:=q9 [71] (by kernel_rfl) _ (by decide)
theorem zd(hc:c.Of t)(hl:c.Live s){I:cS}(hF:F.Perm (c.px t b s::F0)) :
  cZ P 70 #[.pointer (some ⟨b,0,none⟩),.string (⟨#[115,108,111,116]⟩:ByteArray),.int .i64 4,.func (.func 71) #[] #[]] I F (db c t b Cs F0 (c.list (⟨#[115,108,111,116]⟩:ByteArray) 4 c.slot s)):=by
 refine jD.vc (fun a n k m I' F'=>∃(xs:List di) (si:PS),c.Live si∧m=4-xs.length∧fi c (⟨#[115,108,111,116]⟩:ByteArray) 4 c.slot (c.list (⟨#[115,108,111,116]⟩:ByteArray) 4 c.slot s) (xs.map id) si∧Part 2 di.enc 106 p6 a n k xs (c.px t b si::F0) F') ?_
 unfold jD.V
 refine⟨⟨_,[],s,hl,rfl,fi.start c _ _ _ s,rV hF⟩,fun a n k m I1 F1 l1 ⟨xs,si,hLi,gm,hR,hPt⟩=>?_⟩
 subst gm
 obtain⟨A,hs,hA,hO,hFp⟩:=hPt
 have hnl:=hA.1
 have hx:=hR.1
 rw[List.length_map] at hx
 have frame:F1.Perm (c.px t b si::((A++dI xs.length hs)++F0)):=hFp.trans (cU fun z=>by simp only[cV,cY,c6];omega)
 refine cZ.ret (qe hLi (eo.of frame) (⟨#[115,108,111,116]⟩:ByteArray)) fun I2 l2=>⟨_,rfl,F1,.refl _,fun hw=>⟨fun h=>?_,fun h=>?_⟩,fun hw=>?_⟩
 ·have h':(n:Int)=4:=by simpa using h
  have h:xs.length=4:=by omega
  refine (fD (eo.of frame) 131).mono fun e I3 G l3 hf=>.inr ?_
  exact dt.pass hf fun e' hf'=>.inr ⟨_,hR.full hLi hw (by rw[List.length_map];exact h),(hf'.tail frame).more⟩
 ·have h':¬(n:Int)=4:=by simpa using h
  have h:xs.length<4:=by omega
  have hR2:=hR.next hLi hw (by rw[List.length_map];exact h)
  refine iS.ES xU (db.use (Dr hc hLi hw frame) (fun v L I3 G l3 hL3 hv hG=>.inl ?_) fun f e I3 G l3 hd hf=>.inr (dt.pass hf fun e' hf'=>.inr ⟨f,hR2.dead hd,hf'.more⟩))
  obtain⟨rfl,rfl⟩:=hv
  refine⟨_,_,rfl,([]:cR)++(A++(dI xs.length hs++(c.px t b (c.slot si).2::F0))),hG.trans (cU fun z=>by simp only[cV,cY,c6];omega),fun b1 I4 l4 hb1=>?_⟩
  refine dO.mono (FJ (R0:=[]) (Hx:=([]:cR)) (x:=(c.slot si).1) (F:=c.px t b (c.slot si).2::F0) ⟨A,hs,hA,hO,.refl _⟩ hb1 rfl (.refl _) (by omega)) fun v I5 G2 l5 ⟨ra,rn,rk,hv,F3,hG3,hP⟩=>?_
  refine⟨ra,rn,rk,hv,F3,hG3,4-(xs.length+1),by omega,xs++[(c.slot si).1],(c.slot si).2,hL3,by rw[List.length_append,List.length_singleton], ?_,hP⟩
  rw[List.map_append,List.map_singleton,id];exact hR2
 ·have hres:=hR.stop hw
  rw[hres]
  exact .inl ⟨hLi,_,A++dI n hs,rfl,⟨a,n,k,xs,rfl,hnl,rfl,A,hs,rfl,hA,fun h=>(by cases h),hO⟩,by rw[hnl];exact frame⟩
def Ct(xs:List dz)(v:Value)(H:cR):Prop:=∃(a:Option Addr) (n k:Nat) (l:List dq),v=.slice a n k∧n=l.length∧l.map dq.p=xs∧nb false 10 dq.enc 110 (lb false) a n k l H
theorem xV:dG P 107:=q9 [107] (by kernel_rfl) _ (by decide)
theorem ze(hc:c.Of t)(hl:c.Live s){I:cS}(hF:F.Perm (c.px t b s::F0)) :
  cZ P 106 #[.pointer (some ⟨b,0,none⟩),.string (⟨#[119,104,101,110]⟩:ByteArray),.int .i64 12,.func (.func 107) #[] #[]] I F (db c t b Ct F0 (c.list (⟨#[119,104,101,110]⟩:ByteArray) 12 c.fS s)):=by
 refine jE.vc (fun a n k m I' F'=>∃(xs:List dq) (si:PS),c.Live si∧m=12-xs.length∧fi c (⟨#[119,104,101,110]⟩:ByteArray) 12 c.fS (c.list (⟨#[119,104,101,110]⟩:ByteArray) 12 c.fS s) (xs.map dq.p) si∧Part 10 dq.enc 110 (lb false) a n k xs (c.px t b si::F0) F') ?_
 unfold jE.V
 refine⟨⟨_,[],s,hl,rfl,fi.start c _ _ _ s,rV hF⟩,fun a n k m I1 F1 l1 ⟨xs,si,hLi,gm,hR,hPt⟩=>?_⟩
 subst gm
 obtain⟨A,hs,hA,hO,hFp⟩:=hPt
 have hnl:=hA.1
 have hx:=hR.1
 rw[List.length_map] at hx
 have frame:F1.Perm (c.px t b si::((A++dI xs.length hs)++F0)):=hFp.trans (cU fun z=>by simp only[cV,cY,c6];omega)
 refine cZ.ret (qe hLi (eo.of frame) (⟨#[119,104,101,110]⟩:ByteArray)) fun I2 l2=>⟨_,rfl,F1,.refl _,fun hw=>⟨fun h=>?_,fun h=>?_⟩,fun hw=>?_⟩
 ·have h':(n:Int)=12:=by simpa using h
  have h:xs.length=12:=by omega
  refine (fD (eo.of frame) 131).mono fun e I3 G l3 hf=>.inr ?_
  exact dt.pass hf fun e' hf'=>.inr ⟨_,hR.full hLi hw (by rw[List.length_map];exact h),(hf'.tail frame).more⟩
 ·have h':¬(n:Int)=12:=by simpa using h
  have h:xs.length<12:=by omega
  have hR2:=hR.next hLi hw (by rw[List.length_map];exact h)
  refine iS.ES xV (db.use (Ds hc hLi hw frame) (fun v L I3 G l3 hL3 hv hG=>.inl ?_) fun f e I3 G l3 hd hf=>.inr (dt.pass hf fun e' hf'=>.inr ⟨f,hR2.dead hd,hf'.more⟩))
  obtain⟨r,rfl,hpr,hOr⟩:=hv
  refine⟨_,_,_,_,_,_,_,_,_,_,_,_,_,_,rfl,L++(A++(dI xs.length hs++(c.px t b (c.fS si).2::F0))),hG.trans (cU fun z=>by simp only[cV,cY,c6];omega),fun b1 I4 l4 hb1=>?_⟩
  refine dO.mono (FK (R0:=[]) (Hx:=L) (x:=r) (F:=c.px t b (c.fS si).2::F0) ⟨A,hs,hA,hO,.refl _⟩ hb1 hOr (.refl _) (by omega)) fun v I5 G2 l5 ⟨ra,rn,rk,hv,F3,hG3,hP⟩=>?_
  refine⟨ra,rn,rk,hv,F3,hG3,12-(xs.length+1),by omega,xs++[r],(c.fS si).2,hL3,by rw[List.length_append,List.length_singleton], ?_,hP⟩
  rw[List.map_append,List.map_singleton,hpr];exact hR2
 ·have hres:=hR.stop hw
  rw[hres]
  exact .inl ⟨hLi,_,A++dI n hs,rfl,⟨a,n,k,xs,rfl,hnl,rfl,A,hs,rfl,hA,fun h=>(by cases h),hO⟩,by rw[hnl];exact frame⟩
def GJ(x:dm)(v:Value)(H:cR):Prop:=∃r:c9,v=r.v∧r.p=x∧je false r H
theorem Cu(hc:c.Of t)(hl:c.Live s)(hw:c.ej (⟨#[115,116,97,116,101]⟩:ByteArray) s=true){I:cS}(hF:F.Perm (c.px t b s::F0)) :
  cZ P 73 #[.pointer (some ⟨b,0,none⟩)] I F (db c t b GJ F0 (c.state s)):=by
 have hp:=eo.of (I:=I) hF
 have er0:c.state s=c.ly (c.name s.inc).1 (c.tok s.next).pos (c.take (⟨#[123]⟩:ByteArray) (c.name s.inc).2).2:=by unfold PC.state;rw[qf hl hw]
 generalize hpos:(c.tok s.next).pos=pos at er0
 rw[er0]
 refine gA.vc ?_
 unfold gA.V
 intro b0
 refine⟨_,rfl,_,(hp.mono (cS.le_refl I) fun x hx=>.tail _ hx).rd.dR (p:=1) (q:=4) rfl,fun bx=>?_⟩
 rw[hpos]
 refine db.use (eB hc hl (jM hl hw) (gI hF)) (fun v K I1 G l1 hL hv hG=>.inl ?_) fun f e I1 G l1 hd hf=>.inr (fe (A:=[]) (Kp.ly _ _ _ (hd.name.take _)) hf)
 obtain⟨rfl,rfl⟩:=hv
 refine⟨rfl,_,ft (A:=[]) hG, ?_⟩
 refine db.use (jC hc hL (gI (.refl _))) (fun v K I2 G l2 hL2 hv hG=>.inl ?_) fun f e I2 G l2 hd hf=>.inr (fe (A:=[]) (Kp.ly _ _ _ (hd.take _)) hf)
 obtain⟨rfl,rfl⟩:=hv
 refine⟨_,rfl,_,ft (A:=[]) hG,fun b1 I3 l3 hb1=>?_⟩
 refine db.use (eX hc hL2 hb1 (gI (.refl _))) (fun v K I4 G l4 hL4 hv hG=>.inl ?_) fun f e I4 G l4 hd hf=>.inr (fe (A:=[]) (Kp.ly _ _ _ hd) hf)
 obtain⟨⟨i,rfl⟩,rfl⟩:=hv
 generalize (c.take (⟨#[123]⟩:ByteArray) (c.name s.inc).2).2=s3 at hL4 hG
 have es:c.ly (c.name s.inc).1 pos s3=(⟨(c.name s.inc).1,(c.list (⟨#[119,104,101,110]⟩:ByteArray) 12 c.fS s3).1,pos⟩,(c.take (⟨#[125]⟩:ByteArray) (c.list (⟨#[119,104,101,110]⟩:ByteArray) 12 c.fS s3).2).2):=rfl
 rw[es]
 refine⟨_,rfl,_,ft (A:=[]) hG, ?_⟩
 refine db.use (ze hc hL4 (gI (.refl _))) (fun v K I5 G l5 hL5 hv hG=>.inl ?_) fun f e I5 G l5 hd hf=>.inr (fe (A:=[]) (hd.take _) hf)
 obtain⟨a,n,k,l,rfl,rfl,hlp,hOl⟩:=hv
 refine⟨_,_,_,rfl,_,ft (A:=[]) hG,fun b2 I6 l6 hb2=>?_⟩
 refine db.use (eX hc hL5 hb2 (gI (.refl _))) (fun v L I7 G l7 hL7 hv hG=>.inl ?_) fun f e I7 G l7 hd hf=>.inr (fe hd hf)
 obtain⟨⟨i7,rfl⟩,rfl⟩:=hv
 refine⟨_,rfl,_,ft hG,.inl ⟨hL7,_,K,rfl,⟨⟨(c.name s.inc).1,a,k,l,pos⟩,rfl, ?_,hOl⟩,cU fun z=>by simp only[cV,cY,c6];omega⟩⟩
 simp only[c9.p,hlp]
def A2(xs:List dm)(v:Value)(H:cR):Prop:=∃(a:Option Addr) (n k:Nat) (l:List c9),v=.slice a n k∧n=l.length∧l.map c9.p=xs∧nb false 3 c9.enc 88 (je false) a n k l H
theorem wB:dG P 73:=q9 [73] (by kernel_rfl) _ (by decide)
theorem xW(hc:c.Of t)(hl:c.Live s){I:cS}(hF:F.Perm (c.px t b s::F0)) :
  cZ P 72 #[.pointer (some ⟨b,0,none⟩),.string (⟨#[115,116,97,116,101]⟩:ByteArray),.int .i64 12,.func (.func 73) #[] #[]] I F (db c t b A2 F0 (c.list (⟨#[115,116,97,116,101]⟩:ByteArray) 12 c.state s)):=by
 refine jh.vc (fun a n k m I' F'=>∃(xs:List c9) (si:PS),c.Live si∧m=12-xs.length∧fi c (⟨#[115,116,97,116,101]⟩:ByteArray) 12 c.state (c.list (⟨#[115,116,97,116,101]⟩:ByteArray) 12 c.state s) (xs.map c9.p) si∧Part 3 c9.enc 88 (je false) a n k xs (c.px t b si::F0) F') ?_
 unfold jh.V
 refine⟨⟨_,[],s,hl,rfl,fi.start c _ _ _ s,rV hF⟩,fun a n k m I1 F1 l1 ⟨xs,si,hLi,gm,hR,hPt⟩=>?_⟩
 subst gm
 obtain⟨A,hs,hA,hO,hFp⟩:=hPt
 have hnl:=hA.1
 have hx:=hR.1
 rw[List.length_map] at hx
 have frame:F1.Perm (c.px t b si::((A++dI xs.length hs)++F0)):=hFp.trans (cU fun z=>by simp only[cV,cY,c6];omega)
 refine cZ.ret (qe hLi (eo.of frame) (⟨#[115,116,97,116,101]⟩:ByteArray)) fun I2 l2=>⟨_,rfl,F1,.refl _,fun hw=>⟨fun h=>?_,fun h=>?_⟩,fun hw=>?_⟩
 ·have h':(n:Int)=12:=by simpa using h
  have h:xs.length=12:=by omega
  refine (fD (eo.of frame) 131).mono fun e I3 G l3 hf=>.inr ?_
  exact dt.pass hf fun e' hf'=>.inr ⟨_,hR.full hLi hw (by rw[List.length_map];exact h),(hf'.tail frame).more⟩
 ·have h':¬(n:Int)=12:=by simpa using h
  have h:xs.length<12:=by omega
  have hR2:=hR.next hLi hw (by rw[List.length_map];exact h)
  refine iS.ES wB (db.use (Cu hc hLi hw frame) (fun v L I3 G l3 hL3 hv hG=>.inl ?_) fun f e I3 G l3 hd hf=>.inr (dt.pass hf fun e' hf'=>.inr ⟨f,hR2.dead hd,hf'.more⟩))
  obtain⟨r,rfl,hpr,hOr⟩:=hv
  refine⟨_,_,_,_,_,rfl,L++(A++(dI xs.length hs++(c.px t b (c.state si).2::F0))),hG.trans (cU fun z=>by simp only[cV,cY,c6];omega),fun b1 I4 l4 hb1=>?_⟩
  refine dO.mono (FL (R0:=[]) (Hx:=L) (x:=r) (F:=c.px t b (c.state si).2::F0) ⟨A,hs,hA,hO,.refl _⟩ hb1 hOr (.refl _) (by omega)) fun v I5 G2 l5 ⟨ra,rn,rk,hv,F3,hG3,hP⟩=>?_
  refine⟨ra,rn,rk,hv,F3,hG3,12-(xs.length+1),by omega,xs++[r],(c.state si).2,hL3,by rw[List.length_append,List.length_singleton], ?_,hP⟩
  rw[List.map_append,List.map_singleton,hpr];exact hR2
 ·have hres:=hR.stop hw
  rw[hres]
  exact .inl ⟨hLi,_,A++dI n hs,rfl,⟨a,n,k,xs,rfl,hnl,rfl,A,hs,rfl,hA,fun h=>(by cases h),hO⟩,by rw[hnl];exact frame⟩
def FM(x:dU)(v:Value)(H:cR):Prop:=∃r:fG,v=r.v∧r.p=x∧o5 false r H
def PC.rv(c:PC)(nm:ByteArray)(rs:List dL)(ss:List di)(ts:List dm)(s:PS):dU×PS:=(⟨nm,rs,ss,ts⟩,(c.take (⟨#[125]⟩:ByteArray) (if ts.length=0 then c.c5 130 s else s)).2)
def PC.tT(c:PC)(nm:ByteArray)(rs:List dL)(ss:List di)(s:PS):dU×PS:=c.rv nm rs ss (c.list (⟨#[115,116,97,116,101]⟩:ByteArray) 12 c.state s).1 (c.list (⟨#[115,116,97,116,101]⟩:ByteArray) 12 c.state s).2
def PC.tU(c:PC)(nm:ByteArray)(rs:List dL)(s:PS):dU×PS:=c.tT nm rs (c.list (⟨#[115,108,111,116]⟩:ByteArray) 4 c.slot s).1 (c.list (⟨#[115,108,111,116]⟩:ByteArray) 4 c.slot s).2
def PC.ry(c:PC)(nm:ByteArray)(s:PS):dU×PS:=c.tU nm (c.list (⟨#[114,101,103]⟩:ByteArray) 12 c.lx s).1 (c.list (⟨#[114,101,103]⟩:ByteArray) 12 c.lx s).2
def PC.body(c:PC)(s:PS):dU×PS:=c.ry (c.name (c.take (⟨#[115,116,114,97,116,101,103,121]⟩:ByteArray) s).2).1 (c.take (⟨#[123]⟩:ByteArray) (c.name (c.take (⟨#[115,116,114,97,116,101,103,121]⟩:ByteArray) s).2).2).2
theorem Kp.rv(nm:ByteArray)(rs:List dL)(ss:List di)(ts:List dm){f:PF}:Kp c f (c.rv nm rs ss ts):=fun s h=>by
 refine PC.dD.take ?_ _
 split
 ·exact h.c5 _
 ·exact h
theorem Kp.tT(nm:ByteArray)(rs:List dL)(ss:List di){f:PF}:Kp c f (c.tT nm rs ss):=fun s h=>Kp.rv _ _ _ _ _ (Kp.list _ _ _ s h)
theorem Kp.tU(nm:ByteArray)(rs:List dL){f:PF}:Kp c f (c.tU nm rs):=fun s h=>Kp.tT _ _ _ _ (Kp.list _ _ _ s h)
theorem Kp.ry(nm:ByteArray){f:PF}:Kp c f (c.ry nm):=fun s h=>Kp.tU _ _ _ (Kp.list _ _ _ s h)
theorem xX(hc:c.Of t)(hl:c.Live s){I:cS}(hF:F.Perm (c.px t b s::F0)) :
  cZ P 27 #[.pointer (some ⟨b,0,none⟩)] I F (db c t b FM F0 (c.body s)):=by
 unfold PC.body
 refine fq.vc ?_
 unfold fq.V
 intro b0 b1 I1 l1 hb1
 refine db.use (eX hc hl hb1 (wj hF)) (fun v K I2 G l2 hL2 hv hG=>.inl ?_) fun f e I2 G l2 hd hf=>.inr (dt.dJ [_] hf fun e' G' hf'=>.inr ⟨f,Kp.ry _ _ (hd.name.take _),hf'⟩)
 obtain⟨⟨i2,rfl⟩,rfl⟩:=hv
 refine⟨_,rfl,c.px t b (c.take (⟨#[115,116,114,97,116,101,103,121]⟩:ByteArray) s).2::F0,hG.trans (cU fun z=>by simp only[cV,cY,c6];omega), ?_⟩
 refine db.use (jC hc hL2 (wj (.refl _))) (fun v K I3 G l3 hL3 hv hG=>.inl ?_) fun f e I3 G l3 hd hf=>.inr (dt.dJ [_] hf fun e' G' hf'=>.inr ⟨f,Kp.ry _ _ (hd.take _),hf'⟩)
 obtain⟨rfl,rfl⟩:=hv
 generalize hq:c.name (c.take (⟨#[115,116,114,97,116,101,103,121]⟩:ByteArray) s).2=q at hL3 hG
 obtain⟨nm,s3⟩:=q
 refine⟨_,rfl,c.px t b s3::F0,hG.trans (cU fun z=>by simp only[cV,cY,c6];omega),fun bs b2 I4 l4 hb2=>?_⟩
 refine db.use (eX hc hL3 hb2 (gI (.refl _))) (fun v K I5 G l5 hL5 hv hG=>.inl ?_) fun f e I5 G l5 hd hf=>.inr (fe (A:=[]) (Kp.ry _ _ hd) hf)
 obtain⟨⟨i5,rfl⟩,rfl⟩:=hv
 generalize (c.take (⟨#[123]⟩:ByteArray) s3).2=s4 at hL5 hG
 refine⟨_,rfl,_,ft (A:=[]) hG, ?_⟩
 have e1:c.ry nm s4=c.tU nm (c.list (⟨#[114,101,103]⟩:ByteArray) 12 c.lx s4).1 (c.list (⟨#[114,101,103]⟩:ByteArray) 12 c.lx s4).2:=rfl
 rw[e1]
 refine db.use (A1 hc hL5 (gI (.refl _))) (fun v K I6 G l6 hL6 hv hG=>.inl ?_) fun f e I6 G l6 hd hf=>.inr (fe (A:=[]) (Kp.tU _ _ _ hd) hf)
 obtain⟨a1,n1,k1,l1',rfl,rfl,hp1,hO1⟩:=hv
 generalize c.list (⟨#[114,101,103]⟩:ByteArray) 12 c.lx s4=r1 at hL6 hG hp1
 refine⟨_,_,_,rfl,_,ft (A:=[]) hG, ?_⟩
 have e2:c.tU nm r1.1 r1.2=c.tT nm r1.1 (c.list (⟨#[115,108,111,116]⟩:ByteArray) 4 c.slot r1.2).1 (c.list (⟨#[115,108,111,116]⟩:ByteArray) 4 c.slot r1.2).2:=rfl
 rw[e2]
 refine db.use (zd hc hL6 (gI (.refl _))) (fun v L I7 G l7 hL7 hv hG=>.inl ?_) fun f e I7 G l7 hd hf=>.inr (fe (Kp.tT _ _ _ _ hd) hf)
 obtain⟨a2,n2,k2,l2',rfl,rfl,hp2,hO2⟩:=hv
 generalize c.list (⟨#[115,108,111,116]⟩:ByteArray) 4 c.slot r1.2=r2 at hL7 hG hp2
 refine⟨_,_,_,rfl,_,ft hG, ?_⟩
 have e3:c.tT nm r1.1 r2.1 r2.2=c.rv nm r1.1 r2.1 (c.list (⟨#[115,116,97,116,101]⟩:ByteArray) 12 c.state r2.2).1 (c.list (⟨#[115,116,97,116,101]⟩:ByteArray) 12 c.state r2.2).2:=rfl
 rw[e3]
 refine db.use (xW hc hL7 (gI (.refl _))) (fun v M I8 G l8 hL8 hv hG=>.inl ?_) fun f e I8 G l8 hd hf=>.inr (fe (Kp.rv _ _ _ _ _ hd) hf)
 obtain⟨a3,n3,k3,l3',rfl,rfl,hp3,hO3⟩:=hv
 generalize c.list (⟨#[115,116,97,116,101]⟩:ByteArray) 12 c.state r2.2=r3 at hL8 hG hp3
 have hlen:r3.1.length=l3'.length:=by rw[←hp3,List.length_map]
 have e4:c.rv nm r1.1 r2.1 r3.1 r3.2=(⟨nm,r1.1,r2.1,r3.1⟩,(c.take (⟨#[125]⟩:ByteArray) (if l3'.length=0 then c.c5 130 r3.2 else r3.2)).2):=by unfold PC.rv;rw[hlen]
 rw[e4]
 refine⟨_,_,_,rfl,_,ft hG,fun h=>?_,fun h=>?_⟩
 ·have h':(l3'.length:Int)=0:=by simpa using h
  have h:l3'.length=0:=by omega
  rw[if_pos h]
  refine (fD (eo.of (gI (.refl _))) 130).mono fun e I9 G l9 hf=>.inr ?_
  exact fe ((hL8.c5 (by decide)).2.take _) (hf.tail (gI (.refl _)))
 ·have h:¬l3'.length=0:=fun h0=>by rw[h0] at h;exact absurd h (by decide)
  rw[if_neg h]
  intro b4 I9 l9 hb4
  refine db.use (eX hc hL8 hb4 (gI (.refl _))) (fun v N I10 G l10 hL10 hv hG=>.inl ?_) fun f e I10 G l10 hd hf=>.inr (fe hd hf)
  obtain⟨⟨i10,rfl⟩,rfl⟩:=hv
  refine⟨_,rfl,_,ft hG,.inl ⟨hL10,_,K++(L++M),rfl,⟨⟨nm,a1,k1,l1',a2,k2,l2',a3,k3,l3'⟩,rfl, ?_,K,L,M,rfl,hO1,hO2,hO3⟩,cU fun z=>by simp only[cV,cY,c6];omega⟩⟩
  rw[List.map_id] at hp2
  simp only[fG.p,hp1,hp2,hp3]
end
end Go.Lx
namespace Go.Lx
open Go.Vc Go.Proofs.Tryz
def tV:List (Nat×List Sh):=[(0,[]),(9,[.one .str]),(43,[.agg [.str,.slc,.slc,.slc]]),(45,[.one .any]),(46,[.agg [.str,.slc,.slc,.slc],.one .any]),(64,[.agg [(.int .u8),(.int .u8),(.int .u8),(.int .i64),(.int .u8),.str,.slc,(.int .i64)]]),(65,[.agg [(.int .u8),(.int .u8),(.int .u8),(.int .i64),(.int .u8),.str,.slc,(.int .i64)],.one .any]),(74,[.one (.int .u8)])]
def fL.V(ka:Nat→Bs→OA→Nat→Nat→OA→Nat→Nat→OA→Nat→Nat→Nat×Obj)(e f:Nat→Nat×Obj)(vi:Int→Value)(vs:Bs→Value)(vl:OA→Nat→Nat→Value)(vp:OA→Value)(bf s:Bs)(be:Fn)(a5 a6:Array Value)(I:cS)(F:cR)(Q:cW)  : Prop:=∀a:Nat,∀c:Nat,∀d:Nat,∀b:Nat,cZ P 64 (#[vp (some (⟨b,0,none⟩:Addr))]) I ((e a)::(ka c (⟨#[]⟩:Bs) none 0 0 none 0 0 none 0 0)::(f d)::((b,Obj.cells #[vs s,.int .u8 0,vs (⟨#[]⟩:Bs),.int .u8 0,vi 0,vi 0,vi 0] 143 (0,0))::F)) fun e1 I1 G1=>((e1=.returned (.tuple #[])∧∃F1:cR,List.Perm G1 ((e a)::(ka c (⟨#[]⟩:Bs) none 0 0 none 0 0 none 0 0)::(f d)::F1)∧iS P (.func be a5 a6) [vp (some (⟨b,0,none⟩:Addr))] I1 ((e a)::(ka c (⟨#[]⟩:Bs) none 0 0 none 0 0 none 0 0)::(f d)::F1) fun e2 I2 G2=>((∃(aG:Bs) (g:OA) (h i:Nat) (j:OA) (k l:Nat) (n:OA) (o p:Nat),e2=.returned (.agg #[vs aG,vl g h i,vl j k l,vl n o p])∧∃F2:cR,List.Perm G2 ((e a)::(ka c (⟨#[]⟩:Bs) none 0 0 none 0 0 none 0 0)::(f d)::F2)∧∃ad:Addr,some (⟨b,0,none⟩:Addr)=some ad∧∃(m:Int),Rd I2 ((e a)::(ka c aG g h i j k l n o p)::(f d)::F2) ((ad.add 1).add 0) [.int .u8 m]∧(It (m != 0) (cZ P 65 (#[vp (some (⟨b,0,none⟩:Addr)),vi 130]) I2 ((e a)::(ka c aG g h i j k l n o p)::(f d)::F2) fun e3 I3 G3=>((e3=.returned (.tuple #[])∧∃F3:cR,List.Perm G3 ((e a)::(ka c aG g h i j k l n o p)::(f d)::F3)∧iq P 63 [vp (some ⟨a,0,none⟩),vp (some ⟨c,0,none⟩),vp (some ⟨d,0,none⟩)] .returning I3 ((e a)::(ka c aG g h i j k l n o p)::(f d)::F3) fun e4 u I4 G4=>∃v:Value,e4=.returned v∧∃(a4 aY:Bs) (aH:OA) (aI aJ:Nat) (aK:OA) (aL aM:Nat) (aN:OA) (aO aP:Nat) (aZ:Value),∃F4:cR,List.Perm G4 ((a,Obj.cells #[vs a4] 9 (0,0))::(ka c aY aH aI aJ aK aL aM aN aO aP)::(d,Obj.cells #[aZ] 45 (0,0))::F4)∧((settle u=.returning∧Q (.returned (.tuple #[.agg #[vs aY,vl aH aI aJ,vl aK aL aM,vl aN aO aP],aZ])) I4 F4)∨(∃ch:List PanicEntry,settle u=.panicking ch∧Q (.panicked ch) I4 F4)))∨(∃a7:List PanicEntry,e3=.panicked a7∧∃F5:cR,List.Perm G3 ((e a)::(ka c aG g h i j k l n o p)::(f d)::F5)∧iq P 63 [vp (some ⟨a,0,none⟩),vp (some ⟨c,0,none⟩),vp (some ⟨d,0,none⟩)] (.panicking a7) I3 ((e a)::(ka c aG g h i j k l n o p)::(f d)::F5) fun e5 u1 I5 G5=>∃v1:Value,e5=.returned v1∧∃(a0 aQ:Bs) (q:OA) (r t:Nat) (w:OA) (x y:Nat) (z:OA) (aa ab:Nat) (aR:Value),∃F6:cR,List.Perm G5 ((a,Obj.cells #[vs a0] 9 (0,0))::(ka c aQ q r t w x y z aa ab)::(d,Obj.cells #[aR] 45 (0,0))::F6)∧((settle u1=.returning∧Q (.returned (.tuple #[.agg #[vs aQ,vl q r t,vl w x y,vl z aa ab],aR])) I5 F6)∨(∃a8:List PanicEntry,settle u1=.panicking a8∧Q (.panicked a8) I5 F6))))) (iq P 63 [vp (some ⟨a,0,none⟩),vp (some ⟨c,0,none⟩),vp (some ⟨d,0,none⟩)] .returning I2 ((e a)::(ka c aG g h i j k l n o p)::(f d)::F2) fun e6 u2 I6 G6=>∃v2:Value,e6=.returned v2∧∃(a1 aS:Bs) (ac:OA) (ae af:Nat) (ag:OA) (ah ai:Nat) (aj:OA) (ak al:Nat) (aT:Value),∃F7:cR,List.Perm G6 ((a,Obj.cells #[vs a1] 9 (0,0))::(ka c aS ac ae af ag ah ai aj ak al)::(d,Obj.cells #[aT] 45 (0,0))::F7)∧((settle u2=.returning∧Q (.returned (.tuple #[.agg #[vs aS,vl ac ae af,vl ag ah ai,vl aj ak al],aT])) I6 F7)∨(∃a9:List PanicEntry,settle u2=.panicking a9∧Q (.panicked a9) I6 F7)))))∨(∃ba:List PanicEntry,e2=.panicked ba∧∃F8:cR,List.Perm G2 ((e a)::(ka c (⟨#[]⟩:Bs) none 0 0 none 0 0 none 0 0)::(f d)::F8)∧iq P 63 [vp (some ⟨a,0,none⟩),vp (some ⟨c,0,none⟩),vp (some ⟨d,0,none⟩)] (.panicking ba) I2 ((e a)::(ka c (⟨#[]⟩:Bs) none 0 0 none 0 0 none 0 0)::(f d)::F8) fun e7 u3 I7 G7=>∃v3:Value,e7=.returned v3∧∃(a2 aU:Bs) (am:OA) (an ao:Nat) (ap:OA) (aq ar:Nat) (au:OA) (av aw:Nat) (aV:Value),∃F9:cR,List.Perm G7 ((a,Obj.cells #[vs a2] 9 (0,0))::(ka c aU am an ao ap aq ar au av aw)::(d,Obj.cells #[aV] 45 (0,0))::F9)∧((settle u3=.returning∧Q (.returned (.tuple #[.agg #[vs aU,vl am an ao,vl ap aq ar,vl au av aw],aV])) I7 F9)∨(∃bb:List PanicEntry,settle u3=.panicking bb∧Q (.panicked bb) I7 F9)))))∨(∃bc:List PanicEntry,e1=.panicked bc∧∃F10:cR,List.Perm G1 ((e a)::(ka c (⟨#[]⟩:Bs) none 0 0 none 0 0 none 0 0)::(f d)::F10)∧iq P 63 [vp (some ⟨a,0,none⟩),vp (some ⟨c,0,none⟩),vp (some ⟨d,0,none⟩)] (.panicking bc) I1 ((e a)::(ka c (⟨#[]⟩:Bs) none 0 0 none 0 0 none 0 0)::(f d)::F10) fun e8 u4 I8 G8=>∃v4:Value,e8=.returned v4∧∃(a3 aW:Bs) (ax:OA) (ay az:Nat) (aA:OA) (aB aC:Nat) (aD:OA) (aE aF:Nat) (aX:Value),∃F11:cR,List.Perm G8 ((a,Obj.cells #[vs a3] 9 (0,0))::(ka c aW ax ay az aA aB aC aD aE aF)::(d,Obj.cells #[aX] 45 (0,0))::F11)∧((settle u4=.returning∧Q (.returned (.tuple #[.agg #[vs aW,vl ax ay az,vl aA aB aC,vl aD aE aF],aX])) I8 F11)∨(∃bd:List PanicEntry,settle u4=.panicking bd∧Q (.panicked bd) I8 F11))))
theorem fL.vc{m s:Bs}{n:Fn}{k l:Array Value}{I:cS}{F:cR}{Q:cW}  (h:fL.V (fun W a b c d e f g h i j=>(W,Obj.cells #[.string a,.slice b c d,.slice e f g,.slice h i j] 43 (0,0))) (fun b=>(b,Obj.cells #[.string m] 9 (0,0))) (fun b=>(b,Obj.cells #[Value.nilIface] 45 (0,0))) (.int .i64) .string .slice .pointer m s n k l I F Q):cZ P 26 #[.string m,.string s,.func n k l] I F Q :=
 tw (A:=(fa [5005] [0,64,65] [63,64,65] tV [] [] [2002] [] [4002] [] [])) [63,64,65] func26 h
def iD.V(e f:Nat→Nat×Obj)(nV:Int→Int→Int→Int→Int→Bs→OA→Nat→Nat→Int→Value)(nO:Int→Int→Int→Int→Int→Bs→OA→Nat→Nat→Int→Obj)(vi:Int→Value)(vs:Bs→Value)(vp:OA→Value)(bf s:Bs)(be:Fn)(a5 a6:Array Value)(I:cS)(F:cR)(Q:cW)  : Prop:=∀a:Nat,∀c:Nat,∀d:Nat,∀b:Nat,cZ P 64 (#[vp (some (⟨b,0,none⟩:Addr))]) I ((e a)::(c,nO 0 0 0 0 0 (⟨#[]⟩:Bs) none 0 0 0)::(f d)::((b,Obj.cells #[vs s,.int .u8 0,vs (⟨#[]⟩:Bs),.int .u8 0,vi 0,vi 0,vi 0] 143 (0,0))::F)) fun e1 I1 G1=>((e1=.returned (.tuple #[])∧∃F1:cR,List.Perm G1 ((e a)::(c,nO 0 0 0 0 0 (⟨#[]⟩:Bs) none 0 0 0)::(f d)::F1)∧iS P (.func be a5 a6) [vp (some (⟨b,0,none⟩:Addr))] I1 ((e a)::(c,nO 0 0 0 0 0 (⟨#[]⟩:Bs) none 0 0 0)::(f d)::F1) fun e2 I2 G2=>((∃(z aa ab ac ae:Int) (af:Bs) (g:OA) (h i:Nat) (ag:Int),e2=.returned (nV z aa ab ac ae af g h i ag)∧∃F2:cR,List.Perm G2 ((e a)::(c,nO 0 0 0 0 0 (⟨#[]⟩:Bs) none 0 0 0)::(f d)::F2)∧∃ad:Addr,some (⟨b,0,none⟩:Addr)=some ad∧∃(m:Int),Rd I2 ((e a)::(c,nO z aa ab ac ae af g h i ag)::(f d)::F2) ((ad.add 1).add 0) [.int .u8 m]∧(It (m != 0) (cZ P 65 (#[vp (some (⟨b,0,none⟩:Addr)),vi 130]) I2 ((e a)::(c,nO z aa ab ac ae af g h i ag)::(f d)::F2) fun e3 I3 G3=>((e3=.returned (.tuple #[])∧∃F3:cR,List.Perm G3 ((e a)::(c,nO z aa ab ac ae af g h i ag)::(f d)::F3)∧iq P 89 [vp (some ⟨a,0,none⟩),vp (some ⟨c,0,none⟩),vp (some ⟨d,0,none⟩)] .returning I3 ((e a)::(c,nO z aa ab ac ae af g h i ag)::(f d)::F3) fun e4 u I4 G4=>∃v:Value,e4=.returned v∧∃(a4:Bs) (aS aT aU aV aW:Int) (aX:Bs) (ah:OA) (ai aj:Nat) (aY:Int) (aZ:Value),∃F4:cR,List.Perm G4 ((a,Obj.cells #[vs a4] 9 (0,0))::(c,nO aS aT aU aV aW aX ah ai aj aY)::(d,Obj.cells #[aZ] 45 (0,0))::F4)∧((settle u=.returning∧Q (.returned (.tuple #[nV aS aT aU aV aW aX ah ai aj aY,aZ])) I4 F4)∨(∃ch:List PanicEntry,settle u=.panicking ch∧Q (.panicked ch) I4 F4)))∨(∃a7:List PanicEntry,e3=.panicked a7∧∃F5:cR,List.Perm G3 ((e a)::(c,nO z aa ab ac ae af g h i ag)::(f d)::F5)∧iq P 89 [vp (some ⟨a,0,none⟩),vp (some ⟨c,0,none⟩),vp (some ⟨d,0,none⟩)] (.panicking a7) I3 ((e a)::(c,nO z aa ab ac ae af g h i ag)::(f d)::F5) fun e5 u1 I5 G5=>∃v1:Value,e5=.returned v1∧∃(a0:Bs) (ak al am an ao:Int) (ap:Bs) (j:OA) (k l:Nat) (aq:Int) (ar:Value),∃F6:cR,List.Perm G5 ((a,Obj.cells #[vs a0] 9 (0,0))::(c,nO ak al am an ao ap j k l aq)::(d,Obj.cells #[ar] 45 (0,0))::F6)∧((settle u1=.returning∧Q (.returned (.tuple #[nV ak al am an ao ap j k l aq,ar])) I5 F6)∨(∃a8:List PanicEntry,settle u1=.panicking a8∧Q (.panicked a8) I5 F6))))) (iq P 89 [vp (some ⟨a,0,none⟩),vp (some ⟨c,0,none⟩),vp (some ⟨d,0,none⟩)] .returning I2 ((e a)::(c,nO z aa ab ac ae af g h i ag)::(f d)::F2) fun e6 u2 I6 G6=>∃v2:Value,e6=.returned v2∧∃(a1:Bs) (au av aw ax ay:Int) (az:Bs) (n:OA) (o p:Nat) (aA:Int) (aB:Value),∃F7:cR,List.Perm G6 ((a,Obj.cells #[vs a1] 9 (0,0))::(c,nO au av aw ax ay az n o p aA)::(d,Obj.cells #[aB] 45 (0,0))::F7)∧((settle u2=.returning∧Q (.returned (.tuple #[nV au av aw ax ay az n o p aA,aB])) I6 F7)∨(∃a9:List PanicEntry,settle u2=.panicking a9∧Q (.panicked a9) I6 F7)))))∨(∃ba:List PanicEntry,e2=.panicked ba∧∃F8:cR,List.Perm G2 ((e a)::(c,nO 0 0 0 0 0 (⟨#[]⟩:Bs) none 0 0 0)::(f d)::F8)∧iq P 89 [vp (some ⟨a,0,none⟩),vp (some ⟨c,0,none⟩),vp (some ⟨d,0,none⟩)] (.panicking ba) I2 ((e a)::(c,nO 0 0 0 0 0 (⟨#[]⟩:Bs) none 0 0 0)::(f d)::F8) fun e7 u3 I7 G7=>∃v3:Value,e7=.returned v3∧∃(a2:Bs) (aC aD aE aF aG:Int) (aH:Bs) (q:OA) (r t:Nat) (aI:Int) (aJ:Value),∃F9:cR,List.Perm G7 ((a,Obj.cells #[vs a2] 9 (0,0))::(c,nO aC aD aE aF aG aH q r t aI)::(d,Obj.cells #[aJ] 45 (0,0))::F9)∧((settle u3=.returning∧Q (.returned (.tuple #[nV aC aD aE aF aG aH q r t aI,aJ])) I7 F9)∨(∃bb:List PanicEntry,settle u3=.panicking bb∧Q (.panicked bb) I7 F9)))))∨(∃bc:List PanicEntry,e1=.panicked bc∧∃F10:cR,List.Perm G1 ((e a)::(c,nO 0 0 0 0 0 (⟨#[]⟩:Bs) none 0 0 0)::(f d)::F10)∧iq P 89 [vp (some ⟨a,0,none⟩),vp (some ⟨c,0,none⟩),vp (some ⟨d,0,none⟩)] (.panicking bc) I1 ((e a)::(c,nO 0 0 0 0 0 (⟨#[]⟩:Bs) none 0 0 0)::(f d)::F10) fun e8 u4 I8 G8=>∃v4:Value,e8=.returned v4∧∃(a3:Bs) (aK aL aM aN aO:Int) (aP:Bs) (w:OA) (x y:Nat) (aQ:Int) (aR:Value),∃F11:cR,List.Perm G8 ((a,Obj.cells #[vs a3] 9 (0,0))::(c,nO aK aL aM aN aO aP w x y aQ)::(d,Obj.cells #[aR] 45 (0,0))::F11)∧((settle u4=.returning∧Q (.returned (.tuple #[nV aK aL aM aN aO aP w x y aQ,aR])) I8 F11)∨(∃bd:List PanicEntry,settle u4=.panicking bd∧Q (.panicked bd) I8 F11))))
theorem iD.vc{g s:Bs}{i:Fn}{d e:Array Value}{I:cS}{F:cR}{Q:cW}  (h:iD.V (fun b=>(b,Obj.cells #[.string g] 9 (0,0))) (fun b=>(b,Obj.cells #[Value.nilIface] 45 (0,0))) (fun k o t n f s a l c q=>.agg #[.int .u8 k,.int .u8 o,.int .u8 t,.int .i64 n,.int .u8 f,.string s,.slice a l c,.int .i64 q]) (fun k o t n f s a l c q=>.cells #[.int .u8 k,.int .u8 o,.int .u8 t,.int .i64 n,.int .u8 f,.string s,.slice a l c,.int .i64 q] 64 (0,0)) (.int .i64) .string .pointer g s i d e I F Q):cZ P 45 #[.string g,.string s,.func i d e] I F Q :=
 tw (A:=(fa [5005] [0,64,65] [64,65,89] tV [] [] [2002] [] [4002] [] [])) [64,65,89] func45 h
def ji.V(vs:Bs→Value)(vl:OA→Nat→Nat→Value)(s:Bs)(I:cS)(F:cR)(Q:cW)  : Prop:=∀b:Nat,ni P 26 (#[vs (⟨#[83,116,114,97,116,101,103,121]⟩:Bs),vs s,.func (.func 27) #[] #[]]) I ((b,Obj.cells #[vs (⟨#[]⟩:Bs),vl none 0 0,vl none 0 0,vl none 0 0] 43 (0,0))::·) F fun e1 I1 G1=>∃(k:Bs) (a:OA) (c d:Nat) (e:OA) (f g:Nat) (h:OA) (i j:Nat) (r1:Value),e1=.returned (.tuple #[.agg #[vs k,vl a c d,vl e f g,vl h i j],r1])∧G1 fun F1=>Q (.returned (.tuple #[.agg #[vs k,vl a c d,vl e f g,vl h i j],r1])) I1 (F1)
theorem ji.vc{s:Bs}{I:cS}{F:cR}{Q:cW}  (h:ji.V .string .slice s I F Q):cZ P 10 #[.string s] I F Q :=
 tw (A:=(an [] [26] tV)) [26] func10 h
def mR.V(nV:Int→Int→Int→Int→Int→Bs→OA→Nat→Nat→Int→Value)(nO:Int→Int→Int→Int→Int→Bs→OA→Nat→Nat→Int→Obj)(s:Bs)(I:cS)(F:cR)(Q:cW)  : Prop:=∀b:Nat,ni P 45 (#[.string (⟨#[69,120,112,114]⟩:Bs),.string s,.func (.func 46) #[] #[]]) I ((b,nO 0 0 0 0 0 (⟨#[]⟩:Bs) none 0 0 0)::·) F fun e1 I1 G1=>∃(e f g h i:Int) (j:Bs) (a:OA) (c d:Nat) (k:Int) (r1:Value),e1=.returned (.tuple #[nV e f g h i j a c d k,r1])∧G1 fun F1=>Q (.returned (.tuple #[nV e f g h i j a c d k,r1])) I1 (F1)
theorem mR.vc{s:Bs}{I:cS}{F:cR}{Q:cW}  (h:mR.V (fun k o t n f s a l c q=>.agg #[.int .u8 k,.int .u8 o,.int .u8 t,.int .i64 n,.int .u8 f,.string s,.slice a l c,.int .i64 q]) (fun k o t n f s a l c q=>.cells #[.int .u8 k,.int .u8 o,.int .u8 t,.int .i64 n,.int .u8 f,.string s,.slice a l c,.int .i64 q] 64 (0,0)) s I F Q):cZ P 16 #[.string s] I F Q :=
 tw (A:=(an [] [45] tV)) [45] func16 h
def kg.V(nV:Int→Int→Int→Int→Int→Bs→OA→Nat→Nat→Int→Value)(nO:Int→Int→Int→Int→Int→Bs→OA→Nat→Nat→Int→Obj)(p:Addr)(I:cS)(F:cR)(Q:cW)  : Prop:=∀b:Nat,cZ P 47 (#[.pointer (some p),.int .i64 0]) I ((b,nO 0 0 0 0 0 (⟨#[]⟩:Bs) none 0 0 0)::F) fun e1 I1 G1=>((∃(e f g h i:Int) (j:Bs) (a:OA) (c d:Nat) (k:Int),e1=.returned (nV e f g h i j a c d k)∧∃F1:cR,List.Perm G1 ((b,nO 0 0 0 0 0 (⟨#[]⟩:Bs) none 0 0 0)::F1)∧Q (.returned (nV e f g h i j a c d k)) I1 F1)∨(∃ch:List PanicEntry,e1=.panicked ch∧∃F2:cR,List.Perm G1 ((b,nO 0 0 0 0 0 (⟨#[]⟩:Bs) none 0 0 0)::F2)∧Q (.panicked ch) I1 F2))
theorem kg.vc{p:Addr}{I:cS}{F:cR}{Q:cW}  (h:kg.V (fun k o t n f s a l c q=>.agg #[.int .u8 k,.int .u8 o,.int .u8 t,.int .i64 n,.int .u8 f,.string s,.slice a l c,.int .i64 q]) (fun k o t n f s a l c q=>.cells #[.int .u8 k,.int .u8 o,.int .u8 t,.int .i64 n,.int .u8 f,.string s,.slice a l c,.int .i64 q] 64 (0,0)) p I F Q):cZ P 46 #[.pointer (some p)] I F Q :=
 tw (A:=(fa [] [47] [47] tV [] [] [] [] [] [] [])) [47] func46 h
def wC:List (Nat×List Sh):=[]
def iH.V(m:Nat)(c:Bs)(k:Nat)(n:Bs)(a:OA)(b d:Nat)(e:OA)(f g:Nat)(h:OA)(i j l:Nat)(c1:Value)(I:cS)(F:cR)(Q:cW)  : Prop:=Q (.returned (.tuple #[])) I ((m,Obj.cells #[.string c] 9 (0,0))::(k,Obj.cells #[.string n,.slice a b d,.slice e f g,.slice h i j] 43 (0,0))::(l,Obj.cells #[c1] 45 (0,0))::F)
theorem iH.vc{q:Nat}{c:Bs}{b:Nat}{r:Bs}{f:OA}{g i:Nat}{j:OA}{k l:Nat}{m:OA}{n o d:Nat}{c1:Value}{u u1:FrameMode}(s:mX u (Value.nilIface) u1){I:cS}{F:cR}{Q:cW}  (h:iH.V q c b r f g i j k l m n o d c1 I F Q):iq P 63 [.pointer (some ⟨q,0,none⟩),.pointer (some ⟨b,0,none⟩),.pointer (some ⟨d,0,none⟩)] u I ((q,Obj.cells #[.string c] 9 (0,0))::(b,Obj.cells #[.string r,.slice f g i,.slice j k l,.slice m n o] 43 (0,0))::(d,Obj.cells #[c1] 45 (0,0))::F) (fun e u' I' G=>u'=u1∧Q e I' G) :=
 nW (A:=(an [] [] wC)) (args:=[.a (.p 0 q 0),.a (.p 1 b 0),.a (.p 2 d 0)]) (own:=[⟨q,9,false,[.a (.v (.string c))]⟩,⟨b,43,false,[.a (.v (.string r)),.a (.v (.slice f g i)),.a (.v (.slice j k l)),.a (.v (.slice m n o))]⟩,⟨d,45,false,[.a (.v c1)]⟩]) (keep:=[0,1,2]) [] func63 s h (by kernel_rfl) (by kernel_rfl) (by kernel_rfl) (by kernel_rfl) (by kernel_rfl) (by simp[AV.wf,At.wf]) (by simp[AV.wf,At.wf]) rfl
def iI.V(d:Nat)(c:Bs)(a:Nat)(o:Bs)(f:OA)(g h:Nat)(i:OA)(j k:Nat)(l:OA)(m n b:Nat)(c1:Value)(fb:Nat)(I:cS)(F:cR)(Q:cW)  : Prop:=∀e:Nat,∃ad:Addr,some ⟨fb,0,none⟩=some ad∧∃(cs:List Value) (el:Nat) (F1:cR),List.Perm F (((ad.add 0).block,Obj.cells cs.toArray el (0,0))::F1)∧(ad.add 0).spot=none∧(ad.add 0).off+1≤cs.length∧Q (.returned (.tuple #[])) I ((d,Obj.cells #[.string c] 9 (0,0))::(a,Obj.cells #[.string (⟨#[]⟩:Bs),.slice none 0 0,.slice none 0 0,.slice none 0 0] 43 (0,0))::(b,Obj.cells #[Value.iface 97 (.pointer (some ⟨fb,0,none⟩))] 45 (0,0))::(((ad.add 0).block,Obj.cells (de (ad.add 0).off [.string c] cs).toArray el (0,0))::F1))
theorem iI.vc{q:Nat}{c:Bs}{b:Nat}{r:Bs}{f:OA}{g i:Nat}{j:OA}{k l:Nat}{m:OA}{n o d:Nat}{c1:Value}{fb:Nat}{u u1:FrameMode}(s:mX u (Value.iface 97 (.pointer (some ⟨fb,0,none⟩))) u1){I:cS}{F:cR}{Q:cW}  (h:iI.V q c b r f g i j k l m n o d c1 fb I F Q):iq P 63 [.pointer (some ⟨q,0,none⟩),.pointer (some ⟨b,0,none⟩),.pointer (some ⟨d,0,none⟩)] u I ((q,Obj.cells #[.string c] 9 (0,0))::(b,Obj.cells #[.string r,.slice f g i,.slice j k l,.slice m n o] 43 (0,0))::(d,Obj.cells #[c1] 45 (0,0))::F) (fun e u' I' G=>u'=u1∧Q e I' G) :=
 nW (A:=(an [] [] wC)) (args:=[.a (.p 0 q 0),.a (.p 1 b 0),.a (.p 2 d 0)]) (own:=[⟨q,9,false,[.a (.v (.string c))]⟩,⟨b,43,false,[.a (.v (.string r)),.a (.v (.slice f g i)),.a (.v (.slice j k l)),.a (.v (.slice m n o))]⟩,⟨d,45,false,[.a (.v c1)]⟩]) (keep:=[0,1,2]) [] func63 s h (by kernel_rfl) (by kernel_rfl) (by kernel_rfl) (by kernel_rfl) (by kernel_rfl) (by simp[AV.wf,At.wf]) (by simp[AV.wf,At.wf]) rfl
def kO.V(vb:Int→Value)(g:Nat)(c:Bs)(e:Nat)(h i j k l:Int)(m:Bs)(a:OA)(b d:Nat)(n:Int)(f:Nat)(c1:Value)(I:cS)(F:cR)(Q:cW)  : Prop:=Q (.returned (.tuple #[])) I ((g,Obj.cells #[.string c] 9 (0,0))::(e,Obj.cells #[vb h,vb i,vb j,.int .i64 k,vb l,.string m,.slice a b d,.int .i64 n] 64 (0,0))::(f,Obj.cells #[c1] 45 (0,0))::F)
theorem kO.vc{j:Nat}{c:Bs}{b:Nat}{k l m n o:Int}{q:Bs}{f:OA}{g i:Nat}{r:Int}{d:Nat}{c1:Value}{u u1:FrameMode}(s:mX u (Value.nilIface) u1){I:cS}{F:cR}{Q:cW}  (h:kO.V (.int .u8) j c b k l m n o q f g i r d c1 I F Q):iq P 89 [.pointer (some ⟨j,0,none⟩),.pointer (some ⟨b,0,none⟩),.pointer (some ⟨d,0,none⟩)] u I ((j,Obj.cells #[.string c] 9 (0,0))::(b,Obj.cells #[.int .u8 k,.int .u8 l,.int .u8 m,.int .i64 n,.int .u8 o,.string q,.slice f g i,.int .i64 r] 64 (0,0))::(d,Obj.cells #[c1] 45 (0,0))::F) (fun e u' I' G=>u'=u1∧Q e I' G) :=
 nW (A:=(an [] [] wC)) (args:=[.a (.p 0 j 0),.a (.p 1 b 0),.a (.p 2 d 0)]) (own:=[⟨j,9,false,[.a (.v (.string c))]⟩,⟨b,64,false,[.a (.v (.int .u8 k)),.a (.v (.int .u8 l)),.a (.v (.int .u8 m)),.a (.v (.int .i64 n)),.a (.v (.int .u8 o)),.a (.v (.string q)),.a (.v (.slice f g i)),.a (.v (.int .i64 r))]⟩,⟨d,45,false,[.a (.v c1)]⟩]) (keep:=[0,1,2]) [] func89 s h (by kernel_rfl) (by kernel_rfl) (by kernel_rfl) (by kernel_rfl) (by kernel_rfl) (by simp[AV.wf,At.wf]) (by simp[AV.wf,At.wf]) rfl
def kQ.V(vb:Int→Value)(d:Nat)(c:Bs)(a:Nat)(i j k l m:Int)(n:Bs)(f:OA)(g h:Nat)(o:Int)(b:Nat)(c1:Value)(fb:Nat)(I:cS)(F:cR)(Q:cW)  : Prop:=∀e:Nat,∃ad:Addr,some ⟨fb,0,none⟩=some ad∧∃(cs:List Value) (el:Nat) (F1:cR),List.Perm F (((ad.add 0).block,Obj.cells cs.toArray el (0,0))::F1)∧(ad.add 0).spot=none∧(ad.add 0).off+1≤cs.length∧Q (.returned (.tuple #[])) I ((d,Obj.cells #[.string c] 9 (0,0))::(a,Obj.cells #[vb 0,vb 0,vb 0,.int .i64 0,vb 0,.string (⟨#[]⟩:Bs),.slice none 0 0,.int .i64 0] 64 (0,0))::(b,Obj.cells #[Value.iface 97 (.pointer (some ⟨fb,0,none⟩))] 45 (0,0))::(((ad.add 0).block,Obj.cells (de (ad.add 0).off [.string c] cs).toArray el (0,0))::F1))
theorem kQ.vc{j:Nat}{c:Bs}{b:Nat}{k l m n o:Int}{q:Bs}{f:OA}{g i:Nat}{r:Int}{d:Nat}{c1:Value}{fb:Nat}{u u1:FrameMode}(s:mX u (Value.iface 97 (.pointer (some ⟨fb,0,none⟩))) u1){I:cS}{F:cR}{Q:cW}  (h:kQ.V (.int .u8) j c b k l m n o q f g i r d c1 fb I F Q):iq P 89 [.pointer (some ⟨j,0,none⟩),.pointer (some ⟨b,0,none⟩),.pointer (some ⟨d,0,none⟩)] u I ((j,Obj.cells #[.string c] 9 (0,0))::(b,Obj.cells #[.int .u8 k,.int .u8 l,.int .u8 m,.int .i64 n,.int .u8 o,.string q,.slice f g i,.int .i64 r] 64 (0,0))::(d,Obj.cells #[c1] 45 (0,0))::F) (fun e u' I' G=>u'=u1∧Q e I' G) :=
 nW (A:=(an [] [] wC)) (args:=[.a (.p 0 j 0),.a (.p 1 b 0),.a (.p 2 d 0)]) (own:=[⟨j,9,false,[.a (.v (.string c))]⟩,⟨b,64,false,[.a (.v (.int .u8 k)),.a (.v (.int .u8 l)),.a (.v (.int .u8 m)),.a (.v (.int .i64 n)),.a (.v (.int .u8 o)),.a (.v (.string q)),.a (.v (.slice f g i)),.a (.v (.int .i64 r))]⟩,⟨d,45,false,[.a (.v c1)]⟩]) (keep:=[0,1,2]) [] func89 s h (by kernel_rfl) (by kernel_rfl) (by kernel_rfl) (by kernel_rfl) (by kernel_rfl) (by simp[AV.wf,At.wf]) (by simp[AV.wf,At.wf]) rfl
end Go.Lx
namespace Go.Lx
open Go.Vc
def A3(call:ByteArray)(f:PF)(v:Value)(B:cR):Prop :=
 (f.e=0→v=.nilIface∧B=[])∧(f.e≠0→∃(b:Nat) (u:Value) (B':cR),v=.iface 97 (.pointer (some ⟨b,0,none⟩))∧DJ f u B'∧B=(b,.cells #[.string call,.int .i64 f.pos,u] 101 (0,0))::B')
def qg{α:Type}(z:α)(g:PC→PS→α×PS)(t:ByteArray):α×PF :=
 if ((dC t).end (g (dC t) (eD t)).2).over then (z,((dC t).end (g (dC t) (eD t)).2).f) else ((g (dC t) (eD t)).1,zF)
theorem PC.dD.ends{c:PC}{f:PF}{s:PS}(h:c.dD f s):(c.end s).over=true∧(c.end s).f=f:=by
 by_cases ho:s.over=true
 ·have h1:=h.1
  unfold PC.fin at h1
  rw[if_pos ho] at h1
  have:c.end s=s:=by unfold PC.end;rw[if_pos ho]
  rw[this];exact⟨ho,Option.some.inj h1⟩
 ·have h1:=h.1
  have h2:=h.2 (by simpa using ho)
  unfold PC.fin at h1
  rw[if_neg ho] at h1
  split at h1
  ·rename_i hl
   have:c.end s=⟨s.next,⟨c.bad,c.pos,true⟩⟩:=by unfold PC.end PC.c5;rw[if_neg ho,if_pos (.inl hl),if_neg ho,if_pos hl]
   rw[this];exact⟨by simpa[PS.over] using h2,Option.some.inj h1⟩
  ·cases h1
theorem rW{c:PC}{f:PF}{s:PS}(h:c.dD f s):f.e≠0:=by
 have:=h.ends
 rw[←this.2];simpa[PS.over] using this.1
theorem oo{α:Type}{z:α}{g:PC→PS→α×PS}{t:ByteArray}{f:PF}(h:(dC t).dD f (g (dC t) (eD t)).2):qg z g t=(z,f):=by
 unfold qg;rw[h.ends.1,h.ends.2,if_pos rfl]
theorem vh{α:Type}{z:α}{g:PC→PS→α×PS}{t:ByteArray}(h:(dC t).Live (g (dC t) (eD t)).2)(hk:((dC t).tok (g (dC t) (eD t)).2.next).kind≠0):qg z g t=(z,⟨130,((dC t).tok (g (dC t) (eD t)).2.next).pos,false⟩):=by
 have e:(dC t).end (g (dC t) (eD t)).2=(dC t).c5 130 (g (dC t) (eD t)).2:=by unfold PC.end;rw[h.1,if_neg (by simp),if_pos (.inr hk)]
 unfold qg;rw[e,(h.c5 (by decide)).1];rfl
theorem z3{α:Type}{z:α}{g:PC→PS→α×PS}{t:ByteArray}(h:(dC t).Live (g (dC t) (eD t)).2)(hk:((dC t).tok (g (dC t) (eD t)).2.next).kind=0):qg z g t=((g (dC t) (eD t)).1,zF):=by
 have e:(dC t).end (g (dC t) (eD t)).2=(g (dC t) (eD t)).2:=by
  unfold PC.end;rw[h.1,if_neg (by simp),if_neg (by rintro (h1 | h1);have:=h.2;omega;exact h1 hk)]
 unfold qg;rw[e,h.1,if_neg (by simp)]
theorem Cv{t:ByteArray}(h:4096<(t.size:Int)):(dC t).dD ⟨110,0,true⟩ (eD t):=by
 have e:eD t=⟨0,⟨110,0,true⟩⟩:=by unfold eD;rw[if_pos h]
 rw[e]
 exact⟨rfl,fun h=>by cases h⟩
theorem FN{t:ByteArray}(h:(t.size:Int)≤4096):eD t=⟨0,⟨0,0,false⟩⟩:=by unfold eD;rw[if_neg (by omega)]
theorem FO{x y z:Nat×Obj}{H F:cR}:(x::y::z::(H++F)).Perm (H++(x::y::z::F)):=cU fun z=>by simp only[cV,cY,c6];omega
theorem xY{t:ByteArray}(hs:dj t){b:Nat}{I:cS}{F F0:cR}(hF:F.Perm (pX t b (ir 0) 0::F0)) :
  cZ P 64 #[.pointer (some ⟨b,0,none⟩)] I F fun e' I' G=>((t.size:Int)≤4096∧(dC t).Live (eD t)∧e'=.returned (.tuple #[])∧G.Perm ((dC t).px t b (eD t)::F0))∨∃f,(dC t).dD f (eD t)∧dt f F0 e' G:=by
 by_cases h:(t.size:Int)≤4096
 ·have hc:=wi h
  have es:=FN h
  refine (zX h (Int.le_refl 0) (by omega) hF).mono fun e I1 G l1 hr=>?_
  rcases Nat.eq_zero_or_pos (dC t).l.length with h0 | h0
  ·obtain⟨hb,ht⟩:=hc.none h0
   rw[ht] at hr
   refine .inr ⟨_, ?_,hr⟩
   rw[es]
   exact⟨by unfold PC.fin;rw[if_neg (by decide),if_pos (by rw[h0];exact Nat.zero_le _)],fun _=>hb⟩
  ·have ht:=hc.tk h0
   have:mZ (dC t).l 0 0=0:=rfl
   rw[this] at ht
   rw[ht] at hr
   exact .inl ⟨h,by rw[es];exact⟨rfl,h0⟩,hr.1,by rw[es];exact hr.2⟩
 ·have h:4096<(t.size:Int):=by omega
  exact (Co h hs hF).mono fun e I1 G l1 hr=>.inr ⟨_,Cv h,hr⟩
def wE(call:ByteArray)(x:Px)(f:PF)(F:cR)(e:Ending)(I:cS)(G:cR):Prop:=∃(n:Nd) (v:Value) (H B X:cR),e=.returned (.tuple #[n.v,v])∧n.px=x∧eH 64 false n H∧A3 call f v B∧G.Perm (H++(B++(X++F)))
theorem mS{call:ByteArray}{f:PF}{bc bo be:Nat}{n:Nd}{u:Value}{F:cR}{I:cS}{e:Ending}{G:cR}(hf:dt f ((bc,.cells #[.string call] 9 (0,0))::(bo,.cells n.enc.toArray 64 (0,0))::(be,.cells #[u] 45 (0,0))::F) e G)(hn:f.e≠0) :
  ∃ch,e=.panicked ch∧∃F8:cR,G.Perm ((bc,.cells #[.string call] 9 (0,0))::(bo,.cells n.enc.toArray 64 (0,0))::(be,.cells #[u] 45 (0,0))::F8) ∧
   iq P 89 [.pointer (some ⟨bc,0,none⟩),.pointer (some ⟨bo,0,none⟩),.pointer (some ⟨be,0,none⟩)] (.panicking ch) I ((bc,.cells #[.string call] 9 (0,0))::(bo,.cells n.enc.toArray 64 (0,0))::(be,.cells #[u] 45 (0,0))::F8)
    fun e u' I' G=>settle u'=.returning∧e=.returned (.tuple #[])∧∃(v:Value) (F9:cR),G=(bc,.cells #[.string call] 9 (0,0))::(bo,.cells kY.enc.toArray 64 (0,0))::(be,.cells #[v] 45 (0,0))::F9∧wE call eU f F (.returned (.tuple #[kY.v,v])) I' F9:=by
 obtain⟨b,w,B,X,he,hu,hG⟩:=hf
 refine⟨_,he,(b,.cells #[.string ⟨#[]⟩,.int .i64 f.pos,w] 101 (0,0))::(B++(X++F)),hG.trans (cU fun z=>by simp only[cY,cV,c6];omega), ?_⟩
 refine iq.mono (kQ.vc (uY _) (Q:=fun e I' G=>e=.returned (.tuple #[])∧G=(bc,.cells #[.string call] 9 (0,0))::(bo,.cells kY.enc.toArray 64 (0,0))::(be,.cells #[.iface 97 (.pointer (some ⟨b,0,none⟩))] 45 (0,0))::(b,.cells #[.string call,.int .i64 f.pos,w] 101 (0,0))::(B++(X++F))) fun bn=>?_) fun e u' I' G l ⟨hu',he,hG⟩=>?_
 ·refine⟨_,rfl,[.string ⟨#[]⟩,.int .i64 f.pos,w],101,B++(X++F),.refl _,rfl,by rw[fm];exact (by decide:0+1≤3),rfl, ?_⟩
  rw[fm];rfl
 ·subst hu'
  exact⟨rfl,he,_,_,hG,kY,_,[],(b,.cells #[.string call,.int .i64 f.pos,w] 101 (0,0))::B,X,rfl,mO,eY,⟨fun h=>absurd h hn,fun _=>⟨b,w,B,rfl,hu,rfl⟩⟩,.refl _⟩
theorem wF{t call:ByteArray}(hs:dj t){fS:Fn}{rf rc:Array Value}{g:PC→PS→Px×PS}(hk:∀(c:PC) (f:PF),Kp c f (g c))
  (hr:∀(c:PC),c.Of t→∀(b:Nat) (s:PS) (I:cS) (F F0:cR),c.Live s→F.Perm (c.px t b s::F0)→iS P (.func fS rf rc) [.pointer (some ⟨b,0,none⟩)] I F (db c t b qd F0 (g c s))) (I:cS) (F:cR) :
  cZ P 45 #[.string call,.string t,.func fS rf rc] I F (wE call (qg eU g t).1 (qg eU g t).2 F):=by
 refine iD.vc ?_
 unfold iD.V
 intro bc bo be b
 have kd:∀{f:PF} {n:Nd} {u:Value} {e:Ending} {I1:cS} {G:cR},qg eU g t=(eU,f)→f.e≠0→dt f ((bc,.cells #[.string call] 9 (0,0))::(bo,.cells n.enc.toArray 64 (0,0))::(be,.cells #[u] 45 (0,0))::F) e G→_:=fun {f n u e I1 G} h1 h2 h3=>mS (I:=I1) h3 h2
 refine (xY hs (wm (.refl _))).mono fun e I1 G l1 hd=>?_
 rcases hd with ⟨hsz,hL,rfl,hG⟩ | ⟨f,hd,hf⟩
 rotate_left
 ·have hdd:=hk (dC t) f _ hd
  obtain⟨ch,he,F8,hG,hT⟩:=mS (I:=I1) (n:=kY) hf (rW hd)
  refine .inr ⟨ch,he,F8,hG,iq.mono hT fun e u I2 G l2 ⟨hu,he,v,F9,hG,hB⟩=>?_⟩
  subst hG
  exact⟨_,he,_,_,_,_,_,_,_,_,_,_,_,_,F9,.refl _,.inl ⟨hu,by rw[oo hdd];exact hB⟩⟩
 have hc:=wi hsz
 refine .inl ⟨rfl,_,hG.trans (cU fun z=>by simp only[cV,cY,c6];omega:List.Perm _ (_::_::_::((dC t).px t b (eD t)::F))), ?_⟩
 refine iS.mono (hr _ hc b _ I1 _ _ hL (wm (.refl _))) fun e I2 G l2 hd=>?_
 rcases hd with ⟨hL2,v,H,rfl,hv,hG⟩ | ⟨f,hd,hf⟩
 rotate_left
 ·obtain⟨ch,he,F8,hG,hT⟩:=mS (I:=I2) (n:=kY) hf (rW hd)
  refine .inr ⟨ch,he,F8,hG,iq.mono hT fun e u I3 G l3 ⟨hu,he,v,F9,hG,hB⟩=>?_⟩
  subst hG
  exact⟨_,he,_,_,_,_,_,_,_,_,_,_,_,_,F9,.refl _,.inl ⟨hu,by rw[oo hd];exact hB⟩⟩
 obtain⟨n,rfl,hpx,hO⟩:=hv
 refine .inl ⟨_,_,_,_,_,_,_,_,_,_,rfl,(dC t).px t b (g (dC t) (eD t)).2::(H++F),hG.trans (cU fun z=>by simp only[cV,cY,c6];omega), ?_⟩
 refine⟨_,rfl,_,(eo.of (I:=I2) (wm (.refl _))).rd.dR (p:=1) (q:=0) rfl,fun h=>?_,fun h=>?_⟩
 ·have h:((dC t).tok (g (dC t) (eD t)).2.next).kind≠0:=by simpa using h
  refine (fD (eo.of (wm (.refl _))) 130).mono fun e I3 G l3 hf=>.inr ?_
  have hf:=hf.tail (wm (.refl _))
  have hf:dt _ ((bc,.cells #[.string call] 9 (0,0))::(bo,.cells n.enc.toArray 64 (0,0))::(be,.cells #[.nilIface] 45 (0,0))::F) e G:=dt.more (A:=H) (hf.perm FO (.refl _))
  obtain⟨ch,he,F8,hG,hT⟩:=mS (I:=I3) hf (show (130:Int)≠0 by decide)
  refine⟨ch,he,F8,hG,iq.mono hT fun e u I4 G l4 ⟨hu,he,v,F9,hG,hB⟩=>?_⟩
  subst hG
  exact⟨_,he,_,_,_,_,_,_,_,_,_,_,_,_,F9,.refl _,.inl ⟨hu,by rw[vh hL2 h];exact hB⟩⟩
 ·have h:((dC t).tok (g (dC t) (eD t)).2.next).kind=0:=by simpa using h
  refine iq.mono (kO.vc uX (Q:=fun e I' G=>e=.returned (.tuple #[])∧G=(bc,.cells #[.string call] 9 (0,0))::(bo,.cells n.enc.toArray 64 (0,0))::(be,.cells #[.nilIface] 45 (0,0))::((dC t).px t b (g (dC t) (eD t)).2::(H++F))) ⟨rfl,rfl⟩) fun e u I3 G l3 ⟨hu,he,hG⟩=>?_
  subst hu hG
  refine⟨_,he,_,_,_,_,_,_,_,_,_,_,_,_,_,.refl _,.inl ⟨rfl, ?_⟩⟩
  rw[z3 hL2 h]
  exact⟨n,_,H,[],[(dC t).px t b (g (dC t) (eD t)).2],rfl,hpx,hO,⟨fun _=>⟨rfl,rfl⟩,fun h=>absurd rfl h⟩,cU fun z=>by simp only[cV,cY,c6];omega⟩
def oI:fG:=⟨⟨#[]⟩,none,0,[],none,0,[],none,0,[]⟩
def vj:dU:=⟨⟨#[]⟩,[],[],[]⟩
theorem Cw:o5 false oI []:=⟨[],[],[],rfl,⟨[],fun _=>[],rfl,Acc.nil,fun h=>(by cases h),fun i k h=>by simp[oI] at h⟩,⟨[],fun _=>[],rfl,Acc.nil,fun h=>(by cases h),fun i k h=>by simp[oI] at h⟩,[],fun _=>[],rfl,Acc.nil,fun h=>(by cases h),fun i k h=>by simp[oI] at h⟩
def nK(call:ByteArray)(x:dU)(f:PF)(F:cR)(e:Ending)(I:cS)(G:cR):Prop:=∃(n:fG) (v:Value) (H B X:cR),e=.returned (.tuple #[n.v,v])∧n.p=x∧o5 false n H∧A3 call f v B∧G.Perm (H++(B++(X++F)))
theorem jk{call:ByteArray}{f:PF}{bc bo be:Nat}{n:fG}{u:Value}{F:cR}{I:cS}{e:Ending}{G:cR}(hf:dt f ((bc,.cells #[.string call] 9 (0,0))::(bo,.cells n.enc.toArray 43 (0,0))::(be,.cells #[u] 45 (0,0))::F) e G)(hn:f.e≠0) :
  ∃ch,e=.panicked ch∧∃F8:cR,G.Perm ((bc,.cells #[.string call] 9 (0,0))::(bo,.cells n.enc.toArray 43 (0,0))::(be,.cells #[u] 45 (0,0))::F8) ∧
   iq P 63 [.pointer (some ⟨bc,0,none⟩),.pointer (some ⟨bo,0,none⟩),.pointer (some ⟨be,0,none⟩)] (.panicking ch) I ((bc,.cells #[.string call] 9 (0,0))::(bo,.cells n.enc.toArray 43 (0,0))::(be,.cells #[u] 45 (0,0))::F8)
    fun e u' I' G=>settle u'=.returning∧e=.returned (.tuple #[])∧∃(v:Value) (F9:cR),G=(bc,.cells #[.string call] 9 (0,0))::(bo,.cells oI.enc.toArray 43 (0,0))::(be,.cells #[v] 45 (0,0))::F9∧nK call vj f F (.returned (.tuple #[oI.v,v])) I' F9:=by
 obtain⟨b,w,B,X,he,hu,hG⟩:=hf
 refine⟨_,he,(b,.cells #[.string ⟨#[]⟩,.int .i64 f.pos,w] 101 (0,0))::(B++(X++F)),hG.trans (cU fun z=>by simp only[cY,cV,c6];omega), ?_⟩
 refine iq.mono (iI.vc (uY _) (Q:=fun e I' G=>e=.returned (.tuple #[])∧G=(bc,.cells #[.string call] 9 (0,0))::(bo,.cells oI.enc.toArray 43 (0,0))::(be,.cells #[.iface 97 (.pointer (some ⟨b,0,none⟩))] 45 (0,0))::(b,.cells #[.string call,.int .i64 f.pos,w] 101 (0,0))::(B++(X++F))) fun bn=>?_) fun e u' I' G l ⟨hu',he,hG⟩=>?_
 ·refine⟨_,rfl,[.string ⟨#[]⟩,.int .i64 f.pos,w],101,B++(X++F),.refl _,rfl,by rw[fm];exact (by decide:0+1≤3),rfl, ?_⟩
  rw[fm];rfl
 ·subst hu'
  exact⟨rfl,he,_,_,hG,oI,_,[],(b,.cells #[.string call,.int .i64 f.pos,w] 101 (0,0))::B,X,rfl,rfl,Cw,⟨fun h=>absurd h hn,fun _=>⟨b,w,B,rfl,hu,rfl⟩⟩,.refl _⟩
theorem qM{t call:ByteArray}(hs:dj t){fS:Fn}{rf rc:Array Value}{g:PC→PS→dU×PS}(hk:∀(c:PC) (f:PF),Kp c f (g c))
  (hr:∀(c:PC),c.Of t→∀(b:Nat) (s:PS) (I:cS) (F F0:cR),c.Live s→F.Perm (c.px t b s::F0)→iS P (.func fS rf rc) [.pointer (some ⟨b,0,none⟩)] I F (db c t b FM F0 (g c s))) (I:cS) (F:cR) :
  cZ P 26 #[.string call,.string t,.func fS rf rc] I F (nK call (qg vj g t).1 (qg vj g t).2 F):=by
 refine fL.vc ?_
 unfold fL.V
 intro bc bo be b
 have kd:∀{f:PF} {n:fG} {u:Value} {e:Ending} {I1:cS} {G:cR},qg vj g t=(vj,f)→f.e≠0→dt f ((bc,.cells #[.string call] 9 (0,0))::(bo,.cells n.enc.toArray 43 (0,0))::(be,.cells #[u] 45 (0,0))::F) e G→_:=fun {f n u e I1 G} h1 h2 h3=>jk (I:=I1) h3 h2
 refine (xY hs (wm (.refl _))).mono fun e I1 G l1 hd=>?_
 rcases hd with ⟨hsz,hL,rfl,hG⟩ | ⟨f,hd,hf⟩
 rotate_left
 ·have hdd:=hk (dC t) f _ hd
  obtain⟨ch,he,F8,hG,hT⟩:=jk (I:=I1) (n:=oI) hf (rW hd)
  refine .inr ⟨ch,he,F8,hG,iq.mono hT fun e u I2 G l2 ⟨hu,he,v,F9,hG,hB⟩=>?_⟩
  subst hG
  exact⟨_,he,_,_,_,_,_,_,_,_,_,_,_,_,F9,.refl _,.inl ⟨hu,by rw[oo hdd];exact hB⟩⟩
 have hc:=wi hsz
 refine .inl ⟨rfl,_,hG.trans (cU fun z=>by simp only[cV,cY,c6];omega:List.Perm _ (_::_::_::((dC t).px t b (eD t)::F))), ?_⟩
 refine iS.mono (hr _ hc b _ I1 _ _ hL (wm (.refl _))) fun e I2 G l2 hd=>?_
 rcases hd with ⟨hL2,v,H,rfl,hv,hG⟩ | ⟨f,hd,hf⟩
 rotate_left
 ·obtain⟨ch,he,F8,hG,hT⟩:=jk (I:=I2) (n:=oI) hf (rW hd)
  refine .inr ⟨ch,he,F8,hG,iq.mono hT fun e u I3 G l3 ⟨hu,he,v,F9,hG,hB⟩=>?_⟩
  subst hG
  exact⟨_,he,_,_,_,_,_,_,_,_,_,_,_,_,F9,.refl _,.inl ⟨hu,by rw[oo hd];exact hB⟩⟩
 obtain⟨n,rfl,hpx,hO⟩:=hv
 refine .inl ⟨_,_,_,_,_,_,_,_,_,_,rfl,(dC t).px t b (g (dC t) (eD t)).2::(H++F),hG.trans (cU fun z=>by simp only[cV,cY,c6];omega), ?_⟩
 refine⟨_,rfl,_,(eo.of (I:=I2) (wm (.refl _))).rd.dR (p:=1) (q:=0) rfl,fun h=>?_,fun h=>?_⟩
 ·have h:((dC t).tok (g (dC t) (eD t)).2.next).kind≠0:=by simpa using h
  refine (fD (eo.of (wm (.refl _))) 130).mono fun e I3 G l3 hf=>.inr ?_
  have hf:=hf.tail (wm (.refl _))
  have hf:dt _ ((bc,.cells #[.string call] 9 (0,0))::(bo,.cells n.enc.toArray 43 (0,0))::(be,.cells #[.nilIface] 45 (0,0))::F) e G:=dt.more (A:=H) (hf.perm FO (.refl _))
  obtain⟨ch,he,F8,hG,hT⟩:=jk (I:=I3) hf (show (130:Int)≠0 by decide)
  refine⟨ch,he,F8,hG,iq.mono hT fun e u I4 G l4 ⟨hu,he,v,F9,hG,hB⟩=>?_⟩
  subst hG
  exact⟨_,he,_,_,_,_,_,_,_,_,_,_,_,_,F9,.refl _,.inl ⟨hu,by rw[vh hL2 h];exact hB⟩⟩
 ·have h:((dC t).tok (g (dC t) (eD t)).2.next).kind=0:=by simpa using h
  refine iq.mono (iH.vc uX (Q:=fun e I' G=>e=.returned (.tuple #[])∧G=(bc,.cells #[.string call] 9 (0,0))::(bo,.cells n.enc.toArray 43 (0,0))::(be,.cells #[.nilIface] 45 (0,0))::((dC t).px t b (g (dC t) (eD t)).2::(H++F))) ⟨rfl,rfl⟩) fun e u I3 G l3 ⟨hu,he,hG⟩=>?_
  subst hu hG
  refine⟨_,he,_,_,_,_,_,_,_,_,_,_,_,_,_,.refl _,.inl ⟨rfl, ?_⟩⟩
  rw[z3 hL2 h]
  exact⟨n,_,H,[],[(dC t).px t b (g (dC t) (eD t)).2],rfl,hpx,hO,⟨fun _=>⟨rfl,rfl⟩,fun h=>absurd rfl h⟩,cU fun z=>by simp only[cV,cY,c6];omega⟩
theorem zf(t:ByteArray):qg eU (fun c=>c.dW) t=lC t:=rfl
theorem zg(t:ByteArray):qg vj (fun c=>c.body) t=dS t:=rfl
theorem Kp.body{c:PC}{f:PF}:Kp c f c.body:=fun s h=>Kp.ry _ _ ((((h.take _).name).take _))
theorem rC:dG P 27:=q9 [27] (by kernel_rfl) _ (by decide)
theorem wG:dG P 46:=q9 [46] (by kernel_rfl) _ (by decide)
theorem Cx{c:PC}{t:ByteArray}(hc:c.Of t){b:Nat}{s:PS}{I:cS}{F F0:cR}(hl:c.Live s)(hF:F.Perm (c.px t b s::F0)):cZ P 46 #[.pointer (some ⟨b,0,none⟩)] I F (db c t b qd F0 (c.dW s)):=by
 refine kg.vc ?_
 unfold kg.V
 intro b0
 refine db.use (nJ hc b s I _ _ hl (wj hF)) (fun v K I2 G l2 hL2 hv hG=>.inl ?_) fun f e I2 G l2 hd hf=>.inr (dt.dJ [_] hf fun e' G' hf'=>.inr ⟨f,hd,hf'⟩)
 obtain⟨n,rfl,hv⟩:=hv
 exact⟨_,_,_,_,_,_,_,_,_,_,rfl,c.px t b (c.dW s).2::(K++F0),hG.trans (cU fun z=>by simp only[cV,cY,c6];omega),.inl ⟨hL2,_,K,rfl,⟨n,rfl,hv⟩,.refl _⟩⟩
theorem zh{t:ByteArray}(hs:dj t)(I:cS)(F:cR):cZ P 16 #[.string t] I F (wE (⟨#[69,120,112,114]⟩:ByteArray) (lC t).1 (lC t).2 F):=by
 refine mR.vc ?_
 unfold mR.V
 intro b0
 refine (wF hs (g:=fun c=>c.dW) (fun c f=>Kp.dW) (fun c hc b s I F F0 hl hF=>iS.ES wG (Cx hc hl hF)) I _).mono fun e I1 G l1 ⟨n,v,H,B,X,he,hpx,hO,hE,hG⟩=>?_
 subst he
 rw[zf] at hpx hE
 exact⟨_,_,_,_,_,_,_,_,_,_,_,rfl,H++(B++(X++F)),hG.trans (cU fun z=>by simp only[cV,cY,c6];omega),n,v,H,B,X,rfl,hpx,hO,hE,.refl _⟩
theorem tW{t:ByteArray}(hs:dj t)(I:cS)(F:cR):cZ P 10 #[.string t] I F (nK (⟨#[83,116,114,97,116,101,103,121]⟩:ByteArray) (dS t).1 (dS t).2 F):=by
 refine ji.vc ?_
 unfold ji.V
 intro b0
 refine (qM hs (g:=fun c=>c.body) (fun c f=>Kp.body) (fun c hc b s I F F0 hl hF=>iS.ES rC (xX hc hl hF)) I _).mono fun e I1 G l1 ⟨n,v,H,B,X,he,hpx,hO,hE,hG⟩=>?_
 subst he
 rw[zg] at hpx hE
 exact⟨_,_,_,_,_,_,_,_,_,_,_,rfl,H++(B++(X++F)),hG.trans (cU fun z=>by simp only[cV,cY,c6];omega),n,v,H,B,X,rfl,hpx,hO,hE,.refl _⟩
def GK(l:List ByteArray)(i:Nat)(nm:ByteArray)(c:Int):Prop:=1≤c∧c≤i+1∧(1<c↔rB (l.take i) nm=true)
theorem A7.step{l:List ByteArray}{i:Nat}{g:ByteArray→Option Int}{nm:ByteArray}(h:A7 (l.take i) i g)(hl:l[i]? = some nm) :
  A7 (l.take (i+1)) (i+1) (xx g nm ((g nm).getD 0+1))∧GK l i nm ((g nm).getD 0+1):=by
 have htk:l.take (i+1)=l.take i++[nm]:=by rw[List.take_add_one,hl];rfl
 by_cases hs:rB (l.take i) nm=true
 ·obtain⟨m,h1,h2,h3⟩:=(h nm).1 hs
  rw[h1]
  refine⟨?_, ?_, ?_, ?_⟩
  ·intro s
   have:=(h.more hs h2 h3) s
   rw[htk]
   have e:rB (l.take i++[nm]) s=rB (l.take i) s:=by
    unfold rB at hs ⊢;rw[List.any_append]
    by_cases hsn:nm=s
    ·subst hsn;rw[hs];rfl
    ·simp[hsn]
   rw[e];exact this
  ·show 1≤m+1;omega
  ·show m+1≤i+1;omega
  ·exact⟨fun _=>hs,fun _=>by show 1<m+1;omega⟩
 ·have hs:rB (l.take i) nm=false:=by simpa using hs
  have h1:=(h nm).2 hs
  rw[h1]
  refine⟨?_, ?_, ?_, ?_⟩
  ·rw[htk];exact h.new
  ·show (1:Int)≤0+1;omega
  ·show (0:Int)+1≤i+1;omega
  ·rw[hs];exact⟨fun h=>by simp at h,fun h=>by cases h⟩
section
variable {I:cS} {l:List ByteArray} {i:Nat} {nm:ByteArray} {o:Obj} {m:Nat} {G R:cR}
end
section
variable (s:fG) (hl:s.p.nA) {I:cS} {F:cR} (hok:s.Ok I F)
end
end Go.Lx
namespace Go.Lx
open Go.Vc
section
variable {s:fG} (hl:s.p.xE) {I:cS} {F:cR} (hok:s.Ok I F)
include hl hok
end
end Go.Lx
namespace Go.Lx
open Go.Vc
def EN(d:gC)(v:Int):List (Nd×Int) :=
 if d.kind=1 then [(d.side,6),(d.qty,2)]++(if d.order≠2 then [(d.price,3)] else []) else if d.kind=2 then [(d.qty,2),(d.price,3)] else if d.kind=4 then [(d.value,v)] else []
def gC.Fit(d:gC):Prop:=∀v,∀p∈EN d v,p.1.px.gY=0
section
variable {s:fG} {I:cS} {F:cR} {c:Nat}
end
end Go.Lx
namespace Go.Lx
open Go.Vc
def dq.Fit(r:dq):Prop:=r.when.px.gY=0∧∀d∈r.dos,d.Fit∧d.kind≤6
section
variable {s:fG} {I:cS} {F:cR} {c:Nat}
end
end Go.Lx
namespace Go.Lx
open Go.Vc
end Go.Lx
namespace Go.Lx
open Go.Vc Go.Proofs.Tryz
def EO:List (Nat×List Sh):=[(3,[.one (.int .i64)]),(4,[.one .bool]),(48,[.one (.int .i64)]),(97,[.one .ptr])]
def iR.V(vi:Int→Value)(vp:OA→Value)(b:Value)(I:cS)(F:cR)(Q:cW)  : Prop:=∃q:Bool,eu P .eql 45 (.tmp 7) (.const (Value.nilIface)) b Value.nilIface q∧(It q (Q (.returned (.tuple #[vi 0,vi 0])) I F) (∀a:Nat,∃(cs:List Value) (el:Nat) (F1:cR),List.Perm ((a,Obj.cells #[vi 0] 48 (0,0))::F) (((⟨a,0,none⟩:Addr).block,Obj.cells cs.toArray el (0,0))::F1)∧(⟨a,0,none⟩:Addr).spot=none∧(⟨a,0,none⟩:Addr).off+1≤cs.length∧∀c:Nat,cZ P 31 (#[b,Value.iface 99 (vp (some (⟨c,0,none⟩:Addr)))]) I (((c,Obj.cells #[vp none] 97 (0,0))::(((⟨a,0,none⟩:Addr).block,Obj.cells (de (⟨a,0,none⟩:Addr).off [vi (-1)] cs).toArray el (0,0))::F1))) fun e1 I1 G1=>∃(r:Bool),e1=.returned (.bool r)∧∃F2:cR,List.Perm G1 F2∧(It r (∃(m:OA),Rd I1 F2 (⟨c,0,none⟩:Addr) [vp m]∧∃ad:Addr,m=some ad∧∃(m1:Int),Rd I1 F2 (ad.add 1) [vi m1]∧jW P 31 (#[b,Value.iface 102 (vp (some (⟨a,0,none⟩:Addr)))]) I1 (·) F2 .bool fun r1 I2 F3=>∃(m2:Int),Rd I2 F3 (⟨a,0,none⟩:Addr) [vi m2]∧Q (.returned (.tuple #[vi m2,vi m1])) I2 F3) (jW P 31 (#[b,Value.iface 102 (vp (some (⟨a,0,none⟩:Addr)))]) I1 (·) F2 .bool fun r2 I3 F4=>∃(m3:Int),Rd I3 F4 (⟨a,0,none⟩:Addr) [vi m3]∧Q (.returned (.tuple #[vi m3,vi 0])) I3 F4))))
theorem iR.vc{a:Value}{I:cS}{F:cR}{Q:cW}  (h:iR.V (.int .i64) .pointer a I F Q):cZ P 12 #[a] I F Q :=
 tw (A:=(fa [1001,5002] [] [31] EO [] [] [3000,4000] [] [] [] [])) [31] func12 h
end Go.Lx
namespace Go.Lx
open Go.Vc
theorem Cy{I:cS}{G:cR}{b ty:Nat}{v:Value}(h:(b,Obj.cells #[v] ty (0,0))∈G):Rd I G (⟨b,0,none⟩:Addr) [v]:=Rd.yz h 0 fun j hj=>by
 have:j=0:=by simpa using hj
 subst this;rfl
theorem A4(I:cS)(F:cR):cZ P 12 #[.nilIface] I F (lH (.tuple #[.int .i64 0,.int .i64 0]) F):=by
 refine iR.vc ?_
 unfold iR.V
 exact⟨true,qb (by kernel_rfl),fun _=>⟨rfl,rfl⟩,fun h=>(by cases h)⟩
theorem tX{I:cS}(hg:Gl I){b:Nat}{call:ByteArray}{pos n:Int}{u:Value}(hb:I b=some (.cells #[.string call,.int .i64 pos,u] 101 (0,0)))
  (hE:∀J,cS.le I J→∀(G:cR) (t ty:Nat) (old:Value),cZ P 31 #[.iface 97 (.pointer (some ⟨b,0,none⟩)),.iface 102 (.pointer (some ⟨t,0,none⟩))] J ((t,.cells #[old] ty (0,0))::G) (FB true ((t,.cells #[.int .i64 n] ty (0,0))::G))) (F:cR) :
  cZ P 12 #[.iface 97 (.pointer (some ⟨b,0,none⟩))] I F (lH (.tuple #[.int .i64 n,.int .i64 pos]) F):=by
 refine cZ.clean ?_
 refine iR.vc ?_
 unfold iR.V
 refine⟨false,qH (by kernel_rfl),fun h=>(by cases h),fun _ b_e=>⟨[.int .i64 0],_,F,.refl _,rfl,by simp,fun b_f=>?_⟩⟩
 refine (Dk hg b).mono fun e I1 G l1 ⟨he,hG⟩=>?_
 subst hG
 refine⟨true,he,_,.refl _,fun _=>⟨some ⟨b,0,none⟩,Cy (.head _),⟨b,0,none⟩,rfl,pos, ?_, ?_⟩,fun h=>(by cases h)⟩
 ·rw[Fm]
  exact Rd.Bz (l1.at hb) _ 1 fun j hj=>by
   have:j=0:=by simpa using hj
   subst this;rfl
 ·refine cZ.perm ((hE I1 l1 ((b_f,.cells #[.pointer (some ⟨b,0,none⟩)] 97 (0,0))::F) b_e 48 (.int .i64 (-1))).mono fun e I2 G l2 ⟨he,hG⟩=>?_) (.swap ..)
  subst hG
  exact⟨true,he,_,.refl _,n,Cy (.head _),rfl,[_,_],.refl _⟩
end Go.Lx
