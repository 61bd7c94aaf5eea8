import Derived.Test.YtdhcodphiofhjaaDoorParseBracketsB4
set_option linter.unusedVariables false
set_option linter.unusedSimpArgs false
set_option linter.unusedSectionVars false
set_option maxRecDepth 100000
namespace Go.Lx
open Go.Vc
theorem CM(d:jS):∀u∈d.enc,u.oneCell'=true:=fun u hu=>by
 simp only[jS.enc,List.mem_cons,List.not_mem_nil,or_false] at hu
 rcases hu with rfl | rfl | rfl | rfl | rfl | rfl | rfl | rfl | rfl | rfl | rfl | rfl | rfl | rfl | rfl | rfl | rfl | rfl | rfl | rfl | rfl | rfl | rfl | rfl | rfl | rfl | rfl | rfl | rfl | rfl | rfl | rfl | rfl | rfl | rfl | rfl<;>rfl
theorem CN(d:gy):∀u∈d.enc,u.oneCell'=true:=fun u hu=>by
 simp only[gy.enc,List.mem_cons,List.not_mem_nil,or_false] at hu
 rcases hu with rfl | rfl | rfl | rfl | rfl | rfl | rfl | rfl | rfl | rfl | rfl<;>rfl
theorem CO(d:dB):∀u∈d.enc,u.oneCell'=true:=fun u hu=>by
 simp only[dB.enc,List.mem_cons,List.not_mem_nil,or_false] at hu
 rcases hu with rfl | rfl<;>rfl
theorem CP(d:eD):∀u∈d.enc,u.oneCell'=true:=fun u hu=>by
 simp only[eD.enc,List.mem_cons,List.not_mem_nil,or_false] at hu
 rcases hu with rfl | rfl | rfl | rfl | rfl | rfl | rfl | rfl | rfl | rfl<;>rfl
theorem CQ(d:dD):∀u∈d.enc,u.oneCell'=true:=fun u hu=>by
 simp only[dD.enc,List.mem_cons,List.not_mem_nil,or_false] at hu
 rcases hu with rfl | rfl | rfl<;>rfl
section
variable {F F1 F2 R0 Hx:cR} {a:Option Addr} {n k:Nat} {b:Nat} {I:cS}
theorem z8{l:List jS}{x:jS}{O:jS→cR→Prop}(h:Part 36 jS.enc 140 O a n k l F F1)(hb:I b=some (.cells x.enc.toArray 140 (0,0)))(hx:O x Hx)(hF2:F2.Perm (R0++(Hx++F1)))(hl:l.length≤1000000) :
  eM P (Builtin.append_ #[126,126] 126 #[.slice a n k,.slice (some ⟨b,0,none⟩) 1 1]) I F2 fun v I' G=>∃a' n' c',v=.slice a' n' c'∧∃F3,G.Perm (R0++F3)∧Part 36 jS.enc 140 O a' n' c' (l++[x]) F F3 :=
 jn (f:=jS.enc) (fun _=>rfl) (zv:=(⟨0,0,⟨#[]⟩,kZ,kZ,kZ,kZ,0⟩:jS).v) (by':=320) (by kernel_rfl) (by kernel_rfl) rfl (by decide) h (CM x) rfl hb hx hF2 (by omega)
theorem B5{l:List gy}{x:gy}{O:gy→cR→Prop}(h:Part 11 gy.enc 92 O a n k l F F1)(hb:I b=some (.cells x.enc.toArray 92 (0,0)))(hx:O x Hx)(hF2:F2.Perm (R0++(Hx++F1)))(hl:l.length≤1000000) :
  eM P (Builtin.append_ #[44,44] 44 #[.slice a n k,.slice (some ⟨b,0,none⟩) 1 1]) I F2 fun v I' G=>∃a' n' c',v=.slice a' n' c'∧∃F3,G.Perm (R0++F3)∧Part 11 gy.enc 92 O a' n' c' (l++[x]) F F3 :=
 jn (f:=gy.enc) (fun _=>rfl) (zv:=(⟨⟨#[]⟩,0,kZ,0⟩:gy).v) (by':=104) (by kernel_rfl) (by kernel_rfl) rfl (by decide) h (CN x) rfl hb hx hF2 (by omega)
theorem B6{l:List dB}{x:dB}{O:dB→cR→Prop}(h:Part 2 dB.enc 97 O a n k l F F1)(hb:I b=some (.cells x.enc.toArray 97 (0,0)))(hx:O x Hx)(hF2:F2.Perm (R0++(Hx++F1)))(hl:l.length≤1000000) :
  eM P (Builtin.append_ #[45,45] 45 #[.slice a n k,.slice (some ⟨b,0,none⟩) 1 1]) I F2 fun v I' G=>∃a' n' c',v=.slice a' n' c'∧∃F3,G.Perm (R0++F3)∧Part 2 dB.enc 97 O a' n' c' (l++[x]) F F3 :=
 jn (f:=dB.enc) (fun _=>rfl) (zv:=(⟨⟨#[]⟩,0⟩:dB).v) (by':=24) (by kernel_rfl) (by kernel_rfl) rfl (by decide) h (CO x) rfl hb hx hF2 (by omega)
theorem B7{l:List eD}{x:eD}{O:eD→cR→Prop}(h:Part 10 eD.enc 128 O a n k l F F1)(hb:I b=some (.cells x.enc.toArray 128 (0,0)))(hx:O x Hx)(hF2:F2.Perm (R0++(Hx++F1)))(hl:l.length≤1000000) :
  eM P (Builtin.append_ #[51,51] 51 #[.slice a n k,.slice (some ⟨b,0,none⟩) 1 1]) I F2 fun v I' G=>∃a' n' c',v=.slice a' n' c'∧∃F3,G.Perm (R0++F3)∧Part 10 eD.enc 128 O a' n' c' (l++[x]) F F3 :=
 jn (f:=eD.enc) (fun _=>rfl) (zv:=(⟨kZ,none,0,[],0⟩:eD).v) (by':=104) (by kernel_rfl) (by kernel_rfl) rfl (by decide) h (CP x) rfl hb hx hF2 (by omega)
theorem B8{l:List dD}{x:dD}{O:dD→cR→Prop}(h:Part 3 dD.enc 53 O a n k l F F1)(hb:I b=some (.cells x.enc.toArray 53 (0,0)))(hx:O x Hx)(hF2:F2.Perm (R0++(Hx++F1)))(hl:l.length≤1000000) :
  eM P (Builtin.append_ #[46,46] 46 #[.slice a n k,.slice (some ⟨b,0,none⟩) 1 1]) I F2 fun v I' G=>∃a' n' c',v=.slice a' n' c'∧∃F3,G.Perm (R0++F3)∧Part 3 dD.enc 53 O a' n' c' (l++[x]) F F3 :=
 jn (f:=dD.enc) (fun _=>rfl) (zv:=(⟨⟨#[]⟩,none,0,[],0⟩:dD).v) (by':=48) (by kernel_rfl) (by kernel_rfl) rfl (by decide) h (CQ x) rfl hb hx hF2 (by omega)
end
def fR(c:PC)(res:List fi×PS)(ds:List fi)(s:PS):Prop :=
 res=if c.dH (⟨#[44]⟩:ByteArray) s then (if (c.many ds.length 8 s).over then (ds,c.many ds.length 8 s) else c.eQ (8-ds.length) ds (c.many ds.length 8 s).inc) else (ds,s)
section
variable {c:PC} {t:ByteArray} {s:PS} {b:Nat} {F F0:cR} {res:List fi×PS} {ds:List fi}
theorem fR.start(s:PS):fR c (c.eQ 8 [] s) [(c.do s).1] (c.do s).2:=by
 unfold fR;rw[PC.eQ];rfl
theorem wJ{n m:Nat}(h:n<m):c.many n m s=s:=by unfold PC.many;rw[if_neg (by omega)]
theorem oJ{n:Nat}(hl:c.Live s):(c.many n n s).over=true∧c.dq ⟨131,(c.tok s.next).pos,false⟩ (c.many n n s):=by
 unfold PC.many;rw[if_pos (Nat.le_refl _)]
 have:=hl.cV (e:=131) (by decide)
 exact⟨by rw[this.1];rfl,this.2⟩
theorem fR.stop(h:fR c res ds s)(hw:c.dH (⟨#[44]⟩:ByteArray) s=false):res=(ds,s):=by
 unfold fR at h;rw[hw] at h;exact h
theorem fR.full(h:fR c res ds s)(hl:c.Live s)(hw:c.dH (⟨#[44]⟩:ByteArray) s=true)(hd:ds.length=8):c.dq ⟨131,(c.tok s.next).pos,false⟩ res.2:=by
 unfold fR at h
 rw[if_pos hw,hd,(oJ hl).1,if_pos rfl] at h
 rw[h];exact (oJ hl).2
theorem fR.next(h:fR c res ds s)(hl:c.Live s)(hw:c.dH (⟨#[44]⟩:ByteArray) s=true)(hd:ds.length<8):res=c.eQ (8-ds.length) ds s.inc∧fR c res (ds++[(c.do s.inc).1]) (c.do s.inc).2:=by
 unfold fR at h ⊢
 rw[if_pos hw,wJ hd,hl.1,if_neg (by simp)] at h
 refine⟨h, ?_⟩
 obtain⟨m,hm⟩:∃m,8-ds.length=m+1:=⟨8-ds.length-1,by omega⟩
 rw[hm,PC.eQ] at h
 rw[h,List.length_append,List.length_singleton,show 8-(ds.length+1)=m by omega]
theorem fR.dead(h:fR c res ds s){f:PF}(hd:c.dq f s):c.dq f res.2:=by
 rw[h.stop (hd.dH _)];exact hd
def CR(x:dT)(v:Value)(H:cR):Prop:=∃r:eD,v=r.v∧r.p=x∧kI false r H
theorem zQ(hc:c.Of t)(hl:c.Live s)(hw:c.dH (⟨#[119,104,101,110]⟩:ByteArray) s=true){I:cS}(hF:F.Perm (c.px t b s::F0)) :
  cX P 47 #[.pointer (some ⟨b,0,none⟩)] I F (c9 c t b CR F0 (c.fN s)):=by
 have hp:=dO.of (I:=I) hF
 have er0:c.fN s=c.jK (c.dC s.inc).1 (c.tok s.next).pos (c.take (⟨#[100,111]⟩:ByteArray) (c.dC s.inc).2).2:=by unfold PC.fN;rw[nY hl hw]
 generalize hpos:(c.tok s.next).pos=pos at er0
 rw[er0]
 refine fX.vc (fun k0 k1 k2 k3 k4 k5 ka kn kk k7 a n k ps m I' F'=>ps=pos∧∃(w:Nd) (K:cR) (dsN:List jS) (si:PS),k0=w.kind∧k1=w.oper∧k2=w.dU∧k3=w.n∧k4=w.field∧k5=w.name∧ka=w.a∧kn=w.kids.length∧kk=w.c∧k7=w.pos∧w.px=(c.dC s.inc).1∧ef 29 false w K∧c.Live si∧m=8-dsN.length∧0<dsN.length∧dsN.length≤8 ∧
  fR c (c.eQ 8 [] (c.take (⟨#[100,111]⟩:ByteArray) (c.dC s.inc).2).2) (dsN.map jS.p) si∧Part 36 jS.enc 140 (iw false) a n k dsN (c.px t b si::(K++F0)) F') ?_
 unfold fX.V
 intro b0
 refine⟨_,rfl,_,(hp.mono (cS.le_refl I) fun x hx=>.tail _ hx).rd.dE (p:=1) (q:=4) rfl,fun br=>?_⟩
 rw[hpos]
 refine c9.use (dQ hc hl (iO hl hw) (fQ hF)) (fun v K I1 G l1 hL hv hG=>.inl ?_) fun f e I1 G l1 hd hf=>.inr (eF (A:=[]) (Kp.jK _ _ _ ((Kp.dC _ hd).take _)) hf)
 obtain⟨rfl,rfl⟩:=hv
 refine⟨rfl,_,eV (A:=[]) hG, ?_⟩
 refine c9.use (lu hc b s.inc I1 _ _ hL (fQ (.refl _))) (fun v K I2 G l2 hL2 hv hG=>.inl ?_) fun f e I2 G l2 hd hf=>.inr (eF (A:=[]) (Kp.jK _ _ _ (hd.take _)) hf)
 obtain⟨w,rfl,hpw,hOw⟩:=hv
 refine⟨_,_,_,_,_,_,_,_,_,_,rfl,_,eV (A:=[]) hG,fun b1 I3 l3 hb1=>?_⟩
 refine c9.use (ej hc hL2 hb1 (fQ (.refl _))) (fun v L I4 G l4 hL4 hv hG=>.inl ?_) fun f e I4 G l4 hd hf=>.inr (eF (Kp.jK _ _ _ hd) hf)
 obtain⟨⟨i4,rfl⟩,rfl⟩:=hv
 generalize hs4:(c.take (⟨#[100,111]⟩:ByteArray) (c.dC s.inc).2).2=s4 at hL4 hG
 have rel0:=fR.start (c:=c) s4
 have fin:∀{f:PF} {q:List fi×PS},q=c.eQ 8 [] s4→c.dq f q.2→c.dq f (c.jK (c.dC s.inc).1 pos s4).2:=fun e h=>by
  subst e;exact h.take _
 refine⟨_,rfl,_,eV hG, ?_⟩
 refine c9.use (z7 hc hL4 (fQ (.refl _))) (fun v L I5 G l5 hL5 hv hG=>.inl ?_) fun f e I5 G l5 hd hf=>.inr (eF (fin rfl (rel0.dead hd)) hf)
 obtain⟨d0,rfl,hpd,hOd⟩:=hv
 have hnil:Part 36 jS.enc 140 (iw false) none 0 0 [] (c.px t b (c.do s4).2::(K++F0)) (c.px t b (c.do s4).2::(K++F0)):=Part.nil
 refine⟨_,_,_,_,_,_,_,_,_,_,_,_,_,_,_,_,_,_,_,_,_,_,_,_,_,_,_,_,_,_,_,_,_,_,_,_,_,_,_,_,_,_,_,_,rfl,L++(c.px t b (c.do s4).2::(K++F0)),hG.trans (cU fun z=>by simp only[cW,cY,c6];omega),fun b2 I6 l6 hb2=>?_⟩
 refine eM.mono (z8 (R0:=[_,_]) (Hx:=L) hnil hb2 hOd (.refl _) (by decide)) fun v I7 G l7 ⟨ra,rn,rk,hv,F3,hG3,hP⟩=>?_
 refine⟨ra,rn,rk,hv,F3,hG3,⟨_,rfl,w,K,[d0],(c.do s4).2,rfl,rfl,rfl,rfl,rfl,rfl,rfl,rfl,rfl,rfl,hpw,hOw,hL5,rfl,by simp,by simp, ?_,hP⟩, ?_⟩
 ·rw[List.map_singleton,hpd];exact rel0
 intro k0 k1 k2 k3 k4 k5 ka kn kk k7 a n k ps m I8 F6 l8 ⟨gp,w,K,dsN,si,e0,e1,e2,e3,e4,e5,ea,en,ek,e7,hpw,hOw,hLi,gm,hpos1,hle,hR,hPt⟩
 subst gp e0 e1 e2 e3 e4 e5 ea en ek e7 gm
 obtain⟨A,hs,hA,hO,hFp⟩:=hPt
 have hnl:=hA.1
 have frame:F6.Perm (c.px t b si::((A++(dM dsN.length hs++K))++F0)):=hFp.trans (cU fun z=>by simp only[cW,cY,c6];omega)
 refine cX.ret (nX hLi (dO.of (fQ frame)) (⟨#[44]⟩:ByteArray)) fun I9 l9=>⟨_,rfl,F6,.refl _,fun hw=>?_,fun hw=>?_⟩
 ·-- one more
  have key:∀(X Y:Nat×Obj) (I:cS) (F':cR) (Q':Ending→cS→cR→Prop),dsN.length<8→F'.Perm (c.px t b si.inc::((A++(dM dsN.length hs++K))++F0))→c.Live si.inc →
    (∀(d:jS) (I8:cS) (G F7:cR),G.Perm (X::Y::F7)→(∀(b3:Nat) (I9:cS),cS.le I8 I9→I9 b3=some (.cells d.enc.toArray 140 (0,0))→eM P (Builtin.append_ #[126,126] 126 #[.slice a n k,.slice (some ⟨b3,0,none⟩) 1 1]) I9 (X::Y::F7) fun v I10 G6=>∃(ra:Option Addr) (rn rc:Nat),v=.slice ra rn rc∧∃F8:cR,G6.Perm (X::Y::F8) ∧
     fR c (c.eQ 8 [] s4) ((dsN++[d]).map jS.p) (c.do si.inc).2∧c.Live (c.do si.inc).2∧Part 36 jS.enc 140 (iw false) ra rn rc (dsN++[d]) (c.px t b (c.do si.inc).2::(K++F0)) F8)→Q' (.returned d.v) I8 G) →
    (∀(f:PF) (e:Ending) (I8:cS) (G:cR),c.dq f (c.jK (c.dC s.inc).1 ps s4).2→dc f (X::Y::((A++(dM dsN.length hs++K))++F0)) e G→Q' e I8 G) →
    cX P 52 #[.pointer (some ⟨b,0,none⟩)] I (X::Y::F') Q':=by
   intro X Y I F' Q' hlt hF' hLs k1 k2
   have hR2:=hR.next hLi hw (by rw[List.length_map];exact hlt)
   refine c9.use (z7 hc hLs (fQ hF')) (fun v L I5 G l5 hL5 hv hG=>?_) fun f e I5 G l5 hd hf=>k2 f e I5 G (fin rfl (hR2.2.dead hd)) hf
   obtain⟨d,rfl,hpd,hOd⟩:=hv
   refine k1 d I5 G (L++(A++(dM dsN.length hs++(c.px t b (c.do si.inc).2::(K++F0))))) (hG.trans (cU fun z=>by simp only[cW,cY,c6];omega)) fun b3 I9 l9 hb3=>?_
   refine eM.mono (z8 (R0:=[X,Y]) (Hx:=L) (F:=c.px t b (c.do si.inc).2::(K++F0)) ⟨A,hs,hA,hO,.refl _⟩ hb3 hOd (.refl _) (by omega)) fun v I7 G l7 ⟨ra,rn,rk,hv,F3,hG3,hP⟩=>⟨ra,rn,rk,hv,F3,hG3, ?_,hL5,hP⟩
   rw[List.map_append,List.map_singleton,hpd];exact hR2.2
  refine⟨fun h8=>?_,fun h8=>?_⟩
  ·have h8:dsN.length=8:=by have:(n:Int)=8:=by simpa using h8
                            omega
   refine (fa (dO.of (fQ frame)) 131).mono fun e I10 G l10 hf=>.inr ?_
   have hd:=hR.full hLi hw (by rw[List.length_map];exact h8)
   exact eF (fin rfl hd) (hf.tail (fQ frame))
  ·have h8:dsN.length<8:=by have:¬(n:Int)=8:=by simpa using h8
                            omega
   have hR2:=hR.next hLi hw (by rw[List.length_map];exact h8)
   refine c9.use (dQ hc hLi (iO hLi hw) (fQ frame)) (fun v L I10 G l10 hL10 hv hG=>.inl ?_) fun f e I10 G l10 hd hf=>.inr (eF (fin hR2.1.symm (Kp.eQ _ _ _ hd)) hf)
   obtain⟨rfl,rfl⟩:=hv
   refine⟨rfl,_,eV hG,key _ _ _ _ _ h8 (.refl _) hL10 (fun d I11 G F7 hG7 kA=>.inl ⟨_,_,_,_,_,_,_,_,_,_,_,_,_,_,_,_,_,_,_,_,_,_,_,_,_,_,_,_,_,_,_,_,_,_,_,_,_,_,_,_,_,_,_,_,rfl,F7,hG7,fun b3 I12 l12 hb3=>?_⟩) fun f e I11 G hd hf=>.inr (eF hd hf)⟩
   refine eM.mono (kA b3 I12 l12 hb3) fun v I13 G l13 ⟨ra,rn,rk,hv,F8,hG8,r1,r2,r3⟩=>⟨ra,rn,rk,hv,F8,hG8,8-(dsN.length+1),by omega,rfl,w,K,dsN++[d],_,rfl,rfl,rfl,rfl,rfl,rfl,rfl,rfl,rfl,rfl,hpw,hOw,r2,by rw[List.length_append,List.length_singleton],by rw[List.length_append,List.length_singleton];omega,by rw[List.length_append,List.length_singleton];omega,r1,r3⟩
 ·have hres:=hR.stop hw
  have er:c.jK (c.dC s.inc).1 ps s4=(⟨(c.dC s.inc).1,dsN.map jS.p,ps⟩,(c.take (⟨#[59]⟩:ByteArray) si).2):=by unfold PC.jK;rw[hres]
  rw[er]
  intro b5 I10 l10 hb5
  refine c9.use (ej hc hLi hb5 (fQ frame)) (fun v L I11 G l11 hL11 hv hG=>.inl ?_) fun f e I11 G l11 hd hf=>.inr (eF hd hf)
  obtain⟨⟨i11,rfl⟩,rfl⟩:=hv
  subst hnl
  refine⟨_,rfl,_,eV hG,.inl ⟨hL11,_,K++(A++dM dsN.length hs),rfl,⟨⟨w,a,k,dsN,ps⟩,rfl, ?_,K,A++dM dsN.length hs,rfl,hOw,A,hs,rfl,hA,fun h=>(by cases h),hO⟩,cU fun z=>by simp only[cW,cY,c6];omega⟩⟩
  simp only[eD.p,hpw]
end
end Go.Lx
namespace Go.Lx
open Go.Vc
section
variable {c:PC} {t:ByteArray} {s:PS} {b:Nat} {F F0:cR}
def CS(x:eY)(v:Value)(H:cR):Prop:=∃r:gy,v=r.v∧r.p=x∧mT false r H
theorem yS(hc:c.Of t)(hl:c.Live s){f:PF}(hd:c.dq f (c.literal s).2):(c.literal s).1.2=true:=by
 cases h2:(c.literal s).1.2 with
 | true=>rfl
 | false=>rw[lV hc hl h2] at hd;exact (hd.live hl).elim
theorem Bf(hc:c.Of t)(hl:c.Live s)(hw:c.dH (⟨#[114,101,103]⟩:ByteArray) s=true){I:cS}(hF:F.Perm (c.px t b s::F0)) :
  cX P 31 #[.pointer (some ⟨b,0,none⟩)] I F (c9 c t b CS F0 (c.mb s)):=by
 have hp:=dO.of (I:=I) hF
 have er0:c.mb s=c.iM (c.name s.inc).1 (c.tok s.next).pos (c.name s.inc).2:=by unfold PC.mb;rw[nY hl hw]
 generalize hpos:(c.tok s.next).pos=pos at er0
 rw[er0]
 refine gw.vc ?_
 unfold gw.V
 intro b0
 refine⟨_,rfl,_,(hp.mono (cS.le_refl I) fun x hx=>.tail _ hx).rd.dE (p:=1) (q:=4) rfl,fun br=>?_⟩
 rw[hpos]
 refine c9.use (dQ hc hl (iO hl hw) (fQ hF)) (fun v K I1 G l1 hL hv hG=>.inl ?_) fun f e I1 G l1 hd hf=>.inr (eF (A:=[]) (Kp.iM _ _ _ hd.name) hf)
 obtain⟨rfl,rfl⟩:=hv
 refine⟨rfl,_,eV (A:=[]) hG, ?_⟩
 refine c9.use (iG hc hL (fQ (.refl _))) (fun v K I2 G l2 hL2 hv hG=>.inl ?_) fun f e I2 G l2 hd hf=>.inr (eF (A:=[]) (Kp.iM _ _ _ hd) hf)
 obtain⟨rfl,rfl⟩:=hv
 generalize (c.name s.inc).1=nm at hG
 generalize (c.name s.inc).2=s2 at hL2 hG
 refine⟨_,rfl,_,eV (A:=[]) hG,fun b1 I3 l3 hb1=>?_⟩
 have en:c.iM nm pos s2=if c.any iv s2<0 then (⟨nm,0,dZ,pos⟩,c.cV 130 s2) else c.iD nm (1+c.any iv s2) pos (c.take (⟨#[61]⟩:ByteArray) s2.inc).2:=rfl
 refine c9.use (oG hc hL2 (words (ws:=iv) hb1 rfl) (by decide) (fQ (.refl _))) (fun v M I4 G l4 hL4 hv hG=>.inl ?_) fun f e I4 G l4 hd hf=>.inr (eF (A:=[]) ?_ hf)
 rotate_left
 ·rw[en]
  by_cases h:c.any iv s2<0
  ·rw[if_pos h];rw[show (c.oneOf iv s2).2=c.cV 130 s2 from if_pos h] at hd;exact hd
  ·rw[if_neg h];rw[show (c.oneOf iv s2).2=s2.inc from if_neg h] at hd;exact Kp.iD _ _ _ _ (hd.take _)
 obtain⟨rfl,rfl⟩:=hv
 have hg2:¬c.any iv s2<0:=fun hlt=>by
  rw[show (c.oneOf iv s2).2=c.cV 130 s2 from if_pos hlt] at hL4
  exact (hL2.cV (e:=130) (by decide)).2.live hL4
 have h6:c.any iv s2<6:=(dt (Int.not_lt.1 hg2)).2
 rw[show (c.oneOf iv s2).2=s2.inc from if_neg hg2] at hL4 hG
 rw[if_neg hg2] at en
 rw[en]
 have e4:(c.oneOf iv s2).1=c.any iv s2:=rfl
 rw[e4]
 refine⟨_,rfl,_,eV (A:=[]) hG,fun b2 I5 l5 hb2=>?_⟩
 have hwr:IntKind.wrap .u8 (1+IntKind.wrap .u8 (c.any iv s2))=1+c.any iv s2:=by rw[w8 (n:=c.any iv s2) (by omega),w8 (by omega)]
 rw[hwr]
 generalize 1+c.any iv s2=ty
 refine c9.use (ej hc hL4 hb2 (fQ (.refl _))) (fun v L I6 G l6 hL6 hv hG=>.inl ?_) fun f e I6 G l6 hd hf=>.inr (eF (A:=[]) (Kp.iD _ _ _ _ hd) hf)
 obtain⟨⟨i6,rfl⟩,rfl⟩:=hv
 generalize (c.take (⟨#[61]⟩:ByteArray) s2.inc).2=s3 at hL6 hG
 have et:c.iD nm ty pos s3=c.ic nm ty pos (c.tok s3.next).pos (c.dH (⟨#[45]⟩:ByteArray) s3) (if c.dH (⟨#[45]⟩:ByteArray) s3 then s3.inc else s3):=by unfold PC.iD;rw[hL6.now]
 rw[et]
 refine⟨_,rfl,_,eV (A:=[]) hG,b,zK t (c.tok s3.next) (ix (c.tok s3.next)),F0,.refl _,_,rfl,_,dO.held.rd.dE (p:=1) (q:=4) rfl, ?_⟩
 refine cX.ret (nX hL6 dO.held (⟨#[45]⟩:ByteArray)) fun I7 l7=>⟨_,rfl,_,.refl _,fun hm=>?_,fun hm=>?_⟩
 ·-- a sign stands there
  rw[hm,if_pos rfl]
  refine c9.use (dQ hc hL6 (iO hL6 hm) (F:=_::_::(c.px t b s3::F0)) (fQ (.refl _))) (fun v L I8 G l8 hL8 hv hG=>.inl ?_) fun f e I8 G l8 hd hf=>.inr (eF (A:=[]) (Kp.ic _ _ _ _ _ _ hd) hf)
  obtain⟨rfl,rfl⟩:=hv
  refine⟨rfl,_,eV (A:=[]) hG,_,rfl,_,(dO.of (I:=I8) (fQ (.refl _))).rd.dE (p:=1) (q:=0) rfl,fun h3=>?_,fun h3=>?_⟩
  ·have h3:(c.tok s3.inc.next).kind≠3:=by simpa using h3
   have el:c.ic nm ty pos (c.tok s3.next).pos true s3.inc=(⟨nm,ty,dZ,pos⟩,c.cV 130 s3.inc):=by unfold PC.ic;rw[hL8.now,if_pos ⟨rfl,h3⟩]
   rw[el]
   refine (fa (dO.of (fQ (.refl _))) 130).mono fun e I9 G l9 hf=>.inr ?_
   exact eF (A:=[]) (hL8.cV (by decide)).2 (hf.tail (fQ (.refl _)))
  ·have h3:(c.tok s3.inc.next).kind=3:=by simpa using h3
   have ell:=sP hL8 h3
   have el:c.ic nm ty pos (c.tok s3.next).pos true s3.inc=c.jT nm ty pos (c.tok s3.next).pos true (c.literal s3.inc).1.1 (c.literal s3.inc).2:=by
    unfold PC.ic;rw[hL8.now,if_neg (fun h=>h.2 h3),ell,if_pos rfl]
   rw[el]
   refine c9.use (mZ hc hL8 (fQ (.refl _))) (fun v L I9 G l9 hL9 hv hG=>.inl ?_) fun f e I9 G l9 hd hf=>.inr (eF (A:=[]) (Kp.jT _ _ _ _ _ _ _ hd) hf)
   obtain⟨n,rfl,hpn,hOn,rfl⟩:=hv
   have htr:(c.literal s3.inc).1.2=true:=by rw[ell]
   refine⟨_,_,_,_,_,_,_,_,_,_,_,rfl,_,eV (A:=[]) hG,fun bn=>⟨fun h=>?_,fun _=>⟨fun _=>fun b3 b4 I10 l10 hb4=>?_,fun h=>absurd h (by decide)⟩⟩⟩
   ·rw[htr] at h;exact absurd h (by decide)
   ·refine c9.use (ej hc hL9 hb4 (F0:=_::_::_::([(b3,Obj.cells n.enc.toArray 29 (0,0))]++F0)) ((List.Perm.cons _ (List.Perm.cons _ (List.Perm.cons _ (List.Perm.swap _ _ _)))).trans (sN (.refl _)))) (fun v L I11 G l11 hL11 hv hG=>.inl ?_) fun f e I11 G l11 hd hf=>.inr (Be hd hf)
    obtain⟨⟨i11,rfl⟩,rfl⟩:=hv
    refine⟨_,rfl,_,B4 hG,.inl ⟨hL11,_,(b3,Obj.cells n.enc.toArray 29 (0,0))::([]++[]),rfl,⟨⟨nm,ty,.mk 5 1 0 0 0 ⟨#[]⟩ (some ⟨b3,0,none⟩) 1 [n] (c.tok s3.next).pos,pos⟩,rfl, ?_,ef.C7 hOn⟩,.refl _⟩⟩
    show eY.mk _ _ _ _=eY.mk _ _ _ _
    simp only[Nd.px,Nd.tU,hpn];rfl
 ·rw[hm,if_neg (by simp)]
  have el:c.ic nm ty pos (c.tok s3.next).pos false s3=c.jT nm ty pos (c.tok s3.next).pos false (c.literal s3).1.1 (if (c.literal s3).1.2 then (c.literal s3).2 else c.cV 130 (c.literal s3).2):=by
   unfold PC.ic;rw[if_neg (fun h=>by cases h.1)]
  rw[el]
  refine c9.use (mZ hc hL6 (F:=_::_::(c.px t b s3::F0)) (fQ (.refl _))) (fun v L I9 G l9 hL9 hv hG=>.inl ?_) fun f e I9 G l9 hd hf=>.inr (eF (A:=[]) (Kp.jT _ _ _ _ _ _ _ ?_) hf)
  rotate_left
  ·rw[yS hc hL6 hd,if_pos rfl];exact hd
  obtain⟨n,rfl,hpn,hOn,rfl⟩:=hv
  refine⟨_,_,_,_,_,_,_,_,_,_,_,rfl,_,eV (A:=[]) hG,fun bn=>⟨fun h=>?_,fun h=>⟨fun h=>absurd h (by decide),fun _=>fun b4 I10 l10 hb4=>?_⟩⟩⟩
  ·have h:(c.literal s3).1.2=false:=by simpa using h
   have hs:c.literal s3=((dZ,false),s3):=lV hc hL6 h
   rw[h,if_neg (by simp),hs]
   refine (fa (k:=c.tok s3.next) (f:=ix (c.tok s3.next)) (t:=t) (dO.of (sN (.refl _))) 130).mono fun e I11 G l11 hf=>.inr ?_
   exact Be (A:=[]) (Kp.jT _ _ _ _ _ _ _ (hL6.cV (by decide)).2) (hf.tail (sN (.refl _)))
  ·have h:(c.literal s3).1.2=true:=by simpa using h
   rw[h,if_pos rfl]
   refine c9.use (ej hc hL9 hb4 (sN (.refl _))) (fun v L I11 G l11 hL11 hv hG=>.inl ?_) fun f e I11 G l11 hd hf=>.inr (Be (A:=[]) hd hf)
   obtain⟨⟨i11,rfl⟩,rfl⟩:=hv
   refine⟨_,rfl,_,B4 (A:=[]) hG,.inl ⟨hL11,_,[],rfl,⟨⟨nm,ty,n,pos⟩,rfl, ?_,hOn⟩,.refl _⟩⟩
   show eY.mk _ _ _ _=eY.mk _ _ _ _
   rw[hpn];rfl
end
end Go.Lx
namespace Go.Lx
open Go.Vc
theorem iA.Bj{P:Program}{f:FuncId}{args:List Value}{I:cS}{F:cR}{Q:Ending→cS→cR→Prop}(he:dx P f)(h:cX P f args.toArray I F Q):iA P (.func (.func f) #[] #[]) args I F Q :=
 fun w hw=>.inl ⟨f,#[],#[],rfl,he,by rw[show (#[]:Array Value)++args.toArray++#[]=args.toArray by simp];exact h w hw⟩
section
variable {c:PC} {t:ByteArray} {s:PS} {b:Nat} {F F0:cR}
def eJ(c:PC){α:Type}(w:ByteArray)(most:Nat)(one:PS→α×PS)(res:List α×PS)(xs:List α)(s:PS):Prop:=xs.length≤most∧res=c.dW w most one (most-xs.length) xs s
section
variable {α:Type} {w:ByteArray} {most:Nat} {one:PS→α×PS} {res:List α×PS} {xs:List α}
theorem eJ.start(c:PC)(w:ByteArray)(most:Nat)(one:PS→α×PS)(s:PS):eJ c w most one (c.list w most one s) [] s:=⟨Nat.zero_le _,rfl⟩
theorem eJ.stop(h:eJ c w most one res xs s)(hw:c.dH w s=false):res=(xs,s):=by
 rw[h.2]
 cases most-xs.length with
 | zero=>rw[PC.dW,hw];rfl
 | succ m=>rw[PC.dW,hw];rfl
theorem eJ.full(h:eJ c w most one res xs s)(hl:c.Live s)(hw:c.dH w s=true)(hx:xs.length=most):c.dq ⟨131,(c.tok s.next).pos,false⟩ res.2:=by
 rw[h.2,hx,Nat.sub_self,PC.dW,hw,if_pos rfl,hx];exact (oJ hl).2
theorem eJ.next(h:eJ c w most one res xs s)(hl:c.Live s)(hw:c.dH w s=true)(hx:xs.length<most):eJ c w most one res (xs++[(one s).1]) (one s).2:=by
 obtain⟨h1,h2⟩:=h
 obtain⟨m,hm⟩:∃m,most-xs.length=m+1:=⟨most-xs.length-1,by omega⟩
 rw[hm,PC.dW,if_pos hw,wJ hx,hl.1,if_neg (by simp)] at h2
 exact⟨by rw[List.length_append,List.length_singleton];omega,by rw[h2,List.length_append,List.length_singleton,show most-(xs.length+1)=m by omega]⟩
theorem eJ.dead(h:eJ c w most one res xs s){f:PF}(hd:c.dq f s):c.dq f res.2:=by
 rw[h.stop (hd.dH _)];exact hd
end
theorem pz{α:Type}{z E:Nat}{f:α→List Value}{O:α→cR→Prop}{F F':cR}(h:F'.Perm F):Part z f E O none 0 0 ([]:List α) F F':=⟨[],fun _=>[],Acc.nil,fun i k h=>by simp at h,h⟩
def zR(xs:List eY)(v:Value)(H:cR):Prop:=∃(a:Option Addr) (n k:Nat) (l:List gy),v=.slice a n k∧n=l.length∧l.map gy.p=xs∧nR false 11 gy.enc 92 (mT false) a n k l H
theorem vD:dx P 31:=oZ [31] (by kernel_rfl) _ (by decide)
theorem xH(hc:c.Of t)(hl:c.Live s){I:cS}(hF:F.Perm (c.px t b s::F0)) :
  cX P 30 #[.pointer (some ⟨b,0,none⟩),.string (⟨#[114,101,103]⟩:ByteArray),.int .i64 12,.func (.func 31) #[] #[]] I F (c9 c t b zR F0 (c.list (⟨#[114,101,103]⟩:ByteArray) 12 c.mb s)):=by
 refine jh.vc (fun a n k m I' F'=>∃(xs:List gy) (si:PS),c.Live si∧m=12-xs.length∧eJ c (⟨#[114,101,103]⟩:ByteArray) 12 c.mb (c.list (⟨#[114,101,103]⟩:ByteArray) 12 c.mb s) (xs.map gy.p) si∧Part 11 gy.enc 92 (mT false) a n k xs (c.px t b si::F0) F') ?_
 unfold jh.V
 refine⟨⟨_,[],s,hl,rfl,eJ.start c _ _ _ s,pz hF⟩,fun a n k m I1 F1 l1 ⟨xs,si,hLi,gm,hR,hPt⟩=>?_⟩
 subst gm
 obtain⟨A,hs,hA,hO,hFp⟩:=hPt
 have hnl:=hA.1
 have hx:=hR.1
 rw[List.length_map] at hx
 have frame:F1.Perm (c.px t b si::((A++dM xs.length hs)++F0)):=hFp.trans (cU fun z=>by simp only[cW,cY,c6];omega)
 refine cX.ret (nX hLi (dO.of frame) (⟨#[114,101,103]⟩:ByteArray)) fun I2 l2=>⟨_,rfl,F1,.refl _,fun hw=>⟨fun h=>?_,fun h=>?_⟩,fun hw=>?_⟩
 ·have h':(n:Int)=12:=by simpa using h
  have h:xs.length=12:=by omega
  refine (fa (dO.of frame) 131).mono fun e I3 G l3 hf=>.inr ?_
  exact dc.pass hf fun e' hf'=>.inr ⟨_,hR.full hLi hw (by rw[List.length_map];exact h),(hf'.tail frame).more⟩
 ·have h':¬(n:Int)=12:=by simpa using h
  have h:xs.length<12:=by omega
  have hR2:=hR.next hLi hw (by rw[List.length_map];exact h)
  refine iA.Bj vD (c9.use (Bf hc hLi hw frame) (fun v L I3 G l3 hL3 hv hG=>.inl ?_) fun f e I3 G l3 hd hf=>.inr (dc.pass hf fun e' hf'=>.inr ⟨f,hR2.dead hd,hf'.more⟩))
  obtain⟨r,rfl,hpr,hOr⟩:=hv
  refine⟨_,_,_,_,_,_,_,_,_,_,_,_,_,rfl,L++(A++(dM xs.length hs++(c.px t b (c.mb si).2::F0))),hG.trans (cU fun z=>by simp only[cW,cY,c6];omega),fun b1 I4 l4 hb1=>?_⟩
  refine eM.mono (B5 (R0:=[]) (Hx:=L) (x:=r) (F:=c.px t b (c.mb si).2::F0) ⟨A,hs,hA,hO,.refl _⟩ hb1 hOr (.refl _) (by omega)) fun v I5 G2 l5 ⟨ra,rn,rk,hv,F3,hG3,hP⟩=>?_
  refine⟨ra,rn,rk,hv,F3,hG3,12-(xs.length+1),by omega,xs++[r],(c.mb si).2,hL3,by rw[List.length_append,List.length_singleton], ?_,hP⟩
  rw[List.map_append,List.map_singleton,hpr];exact hR2
 ·have hres:=hR.stop hw
  rw[hres]
  exact .inl ⟨hLi,_,A++dM n hs,rfl,⟨a,n,k,xs,rfl,hnl,rfl,A,hs,rfl,hA,fun h=>(by cases h),hO⟩,by rw[hnl];exact frame⟩
def yT(xs:List dB)(v:Value)(H:cR):Prop:=∃(a:Option Addr) (n k:Nat) (l:List dB),v=.slice a n k∧n=l.length∧l.map id=xs∧nR false 2 dB.enc 97 sD a n k l H
theorem ux:dx P 33:=oZ [33] (by kernel_rfl) _ (by decide)
theorem vG(hc:c.Of t)(hl:c.Live s){I:cS}(hF:F.Perm (c.px t b s::F0)) :
  cX P 32 #[.pointer (some ⟨b,0,none⟩),.string (⟨#[115,108,111,116]⟩:ByteArray),.int .i64 4,.func (.func 33) #[] #[]] I F (c9 c t b yT F0 (c.list (⟨#[115,108,111,116]⟩:ByteArray) 4 c.slot s)):=by
 refine iH.vc (fun a n k m I' F'=>∃(xs:List dB) (si:PS),c.Live si∧m=4-xs.length∧eJ c (⟨#[115,108,111,116]⟩:ByteArray) 4 c.slot (c.list (⟨#[115,108,111,116]⟩:ByteArray) 4 c.slot s) (xs.map id) si∧Part 2 dB.enc 97 sD a n k xs (c.px t b si::F0) F') ?_
 unfold iH.V
 refine⟨⟨_,[],s,hl,rfl,eJ.start c _ _ _ s,pz hF⟩,fun a n k m I1 F1 l1 ⟨xs,si,hLi,gm,hR,hPt⟩=>?_⟩
 subst gm
 obtain⟨A,hs,hA,hO,hFp⟩:=hPt
 have hnl:=hA.1
 have hx:=hR.1
 rw[List.length_map] at hx
 have frame:F1.Perm (c.px t b si::((A++dM xs.length hs)++F0)):=hFp.trans (cU fun z=>by simp only[cW,cY,c6];omega)
 refine cX.ret (nX hLi (dO.of frame) (⟨#[115,108,111,116]⟩:ByteArray)) fun I2 l2=>⟨_,rfl,F1,.refl _,fun hw=>⟨fun h=>?_,fun h=>?_⟩,fun hw=>?_⟩
 ·have h':(n:Int)=4:=by simpa using h
  have h:xs.length=4:=by omega
  refine (fa (dO.of frame) 131).mono fun e I3 G l3 hf=>.inr ?_
  exact dc.pass hf fun e' hf'=>.inr ⟨_,hR.full hLi hw (by rw[List.length_map];exact h),(hf'.tail frame).more⟩
 ·have h':¬(n:Int)=4:=by simpa using h
  have h:xs.length<4:=by omega
  have hR2:=hR.next hLi hw (by rw[List.length_map];exact h)
  refine iA.Bj ux (c9.use (zP hc hLi hw frame) (fun v L I3 G l3 hL3 hv hG=>.inl ?_) fun f e I3 G l3 hd hf=>.inr (dc.pass hf fun e' hf'=>.inr ⟨f,hR2.dead hd,hf'.more⟩))
  obtain⟨rfl,rfl⟩:=hv
  refine⟨_,_,rfl,([]:cR)++(A++(dM xs.length hs++(c.px t b (c.slot si).2::F0))),hG.trans (cU fun z=>by simp only[cW,cY,c6];omega),fun b1 I4 l4 hb1=>?_⟩
  refine eM.mono (B6 (R0:=[]) (Hx:=([]:cR)) (x:=(c.slot si).1) (F:=c.px t b (c.slot si).2::F0) ⟨A,hs,hA,hO,.refl _⟩ hb1 rfl (.refl _) (by omega)) fun v I5 G2 l5 ⟨ra,rn,rk,hv,F3,hG3,hP⟩=>?_
  refine⟨ra,rn,rk,hv,F3,hG3,4-(xs.length+1),by omega,xs++[(c.slot si).1],(c.slot si).2,hL3,by rw[List.length_append,List.length_singleton], ?_,hP⟩
  rw[List.map_append,List.map_singleton,id];exact hR2
 ·have hres:=hR.stop hw
  rw[hres]
  exact .inl ⟨hLi,_,A++dM n hs,rfl,⟨a,n,k,xs,rfl,hnl,rfl,A,hs,rfl,hA,fun h=>(by cases h),hO⟩,by rw[hnl];exact frame⟩
def yU(xs:List dT)(v:Value)(H:cR):Prop:=∃(a:Option Addr) (n k:Nat) (l:List eD),v=.slice a n k∧n=l.length∧l.map eD.p=xs∧nR false 10 eD.enc 128 (kI false) a n k l H
theorem uy:dx P 47:=oZ [47] (by kernel_rfl) _ (by decide)
theorem vH(hc:c.Of t)(hl:c.Live s){I:cS}(hF:F.Perm (c.px t b s::F0)) :
  cX P 46 #[.pointer (some ⟨b,0,none⟩),.string (⟨#[119,104,101,110]⟩:ByteArray),.int .i64 12,.func (.func 47) #[] #[]] I F (c9 c t b yU F0 (c.list (⟨#[119,104,101,110]⟩:ByteArray) 12 c.fN s)):=by
 refine iI.vc (fun a n k m I' F'=>∃(xs:List eD) (si:PS),c.Live si∧m=12-xs.length∧eJ c (⟨#[119,104,101,110]⟩:ByteArray) 12 c.fN (c.list (⟨#[119,104,101,110]⟩:ByteArray) 12 c.fN s) (xs.map eD.p) si∧Part 10 eD.enc 128 (kI false) a n k xs (c.px t b si::F0) F') ?_
 unfold iI.V
 refine⟨⟨_,[],s,hl,rfl,eJ.start c _ _ _ s,pz hF⟩,fun a n k m I1 F1 l1 ⟨xs,si,hLi,gm,hR,hPt⟩=>?_⟩
 subst gm
 obtain⟨A,hs,hA,hO,hFp⟩:=hPt
 have hnl:=hA.1
 have hx:=hR.1
 rw[List.length_map] at hx
 have frame:F1.Perm (c.px t b si::((A++dM xs.length hs)++F0)):=hFp.trans (cU fun z=>by simp only[cW,cY,c6];omega)
 refine cX.ret (nX hLi (dO.of frame) (⟨#[119,104,101,110]⟩:ByteArray)) fun I2 l2=>⟨_,rfl,F1,.refl _,fun hw=>⟨fun h=>?_,fun h=>?_⟩,fun hw=>?_⟩
 ·have h':(n:Int)=12:=by simpa using h
  have h:xs.length=12:=by omega
  refine (fa (dO.of frame) 131).mono fun e I3 G l3 hf=>.inr ?_
  exact dc.pass hf fun e' hf'=>.inr ⟨_,hR.full hLi hw (by rw[List.length_map];exact h),(hf'.tail frame).more⟩
 ·have h':¬(n:Int)=12:=by simpa using h
  have h:xs.length<12:=by omega
  have hR2:=hR.next hLi hw (by rw[List.length_map];exact h)
  refine iA.Bj uy (c9.use (zQ hc hLi hw frame) (fun v L I3 G l3 hL3 hv hG=>.inl ?_) fun f e I3 G l3 hd hf=>.inr (dc.pass hf fun e' hf'=>.inr ⟨f,hR2.dead hd,hf'.more⟩))
  obtain⟨r,rfl,hpr,hOr⟩:=hv
  refine⟨_,_,_,_,_,_,_,_,_,_,_,_,_,_,rfl,L++(A++(dM xs.length hs++(c.px t b (c.fN si).2::F0))),hG.trans (cU fun z=>by simp only[cW,cY,c6];omega),fun b1 I4 l4 hb1=>?_⟩
  refine eM.mono (B7 (R0:=[]) (Hx:=L) (x:=r) (F:=c.px t b (c.fN si).2::F0) ⟨A,hs,hA,hO,.refl _⟩ hb1 hOr (.refl _) (by omega)) fun v I5 G2 l5 ⟨ra,rn,rk,hv,F3,hG3,hP⟩=>?_
  refine⟨ra,rn,rk,hv,F3,hG3,12-(xs.length+1),by omega,xs++[r],(c.fN si).2,hL3,by rw[List.length_append,List.length_singleton], ?_,hP⟩
  rw[List.map_append,List.map_singleton,hpr];exact hR2
 ·have hres:=hR.stop hw
  rw[hres]
  exact .inl ⟨hLi,_,A++dM n hs,rfl,⟨a,n,k,xs,rfl,hnl,rfl,A,hs,rfl,hA,fun h=>(by cases h),hO⟩,by rw[hnl];exact frame⟩
def CT(x:dF)(v:Value)(H:cR):Prop:=∃r:dD,v=r.v∧r.p=x∧jx false r H
theorem yV(hc:c.Of t)(hl:c.Live s)(hw:c.dH (⟨#[115,116,97,116,101]⟩:ByteArray) s=true){I:cS}(hF:F.Perm (c.px t b s::F0)) :
  cX P 35 #[.pointer (some ⟨b,0,none⟩)] I F (c9 c t b CT F0 (c.state s)):=by
 have hp:=dO.of (I:=I) hF
 have er0:c.state s=c.jU (c.name s.inc).1 (c.tok s.next).pos (c.take (⟨#[123]⟩:ByteArray) (c.name s.inc).2).2:=by unfold PC.state;rw[nY hl hw]
 generalize hpos:(c.tok s.next).pos=pos at er0
 rw[er0]
 refine fJ.vc ?_
 unfold fJ.V
 intro b0
 refine⟨_,rfl,_,(hp.mono (cS.le_refl I) fun x hx=>.tail _ hx).rd.dE (p:=1) (q:=4) rfl,fun bx=>?_⟩
 rw[hpos]
 refine c9.use (dQ hc hl (iO hl hw) (fQ hF)) (fun v K I1 G l1 hL hv hG=>.inl ?_) fun f e I1 G l1 hd hf=>.inr (eF (A:=[]) (Kp.jU _ _ _ (hd.name.take _)) hf)
 obtain⟨rfl,rfl⟩:=hv
 refine⟨rfl,_,eV (A:=[]) hG, ?_⟩
 refine c9.use (iG hc hL (fQ (.refl _))) (fun v K I2 G l2 hL2 hv hG=>.inl ?_) fun f e I2 G l2 hd hf=>.inr (eF (A:=[]) (Kp.jU _ _ _ (hd.take _)) hf)
 obtain⟨rfl,rfl⟩:=hv
 refine⟨_,rfl,_,eV (A:=[]) hG,fun b1 I3 l3 hb1=>?_⟩
 refine c9.use (ej hc hL2 hb1 (fQ (.refl _))) (fun v K I4 G l4 hL4 hv hG=>.inl ?_) fun f e I4 G l4 hd hf=>.inr (eF (A:=[]) (Kp.jU _ _ _ hd) hf)
 obtain⟨⟨i,rfl⟩,rfl⟩:=hv
 generalize (c.take (⟨#[123]⟩:ByteArray) (c.name s.inc).2).2=s3 at hL4 hG
 have es:c.jU (c.name s.inc).1 pos s3=(⟨(c.name s.inc).1,(c.list (⟨#[119,104,101,110]⟩:ByteArray) 12 c.fN s3).1,pos⟩,(c.take (⟨#[125]⟩:ByteArray) (c.list (⟨#[119,104,101,110]⟩:ByteArray) 12 c.fN s3).2).2):=rfl
 rw[es]
 refine⟨_,rfl,_,eV (A:=[]) hG, ?_⟩
 refine c9.use (vH hc hL4 (fQ (.refl _))) (fun v K I5 G l5 hL5 hv hG=>.inl ?_) fun f e I5 G l5 hd hf=>.inr (eF (A:=[]) (hd.take _) hf)
 obtain⟨a,n,k,l,rfl,rfl,hlp,hOl⟩:=hv
 refine⟨_,_,_,rfl,_,eV (A:=[]) hG,fun b2 I6 l6 hb2=>?_⟩
 refine c9.use (ej hc hL5 hb2 (fQ (.refl _))) (fun v L I7 G l7 hL7 hv hG=>.inl ?_) fun f e I7 G l7 hd hf=>.inr (eF hd hf)
 obtain⟨⟨i7,rfl⟩,rfl⟩:=hv
 refine⟨_,rfl,_,eV hG,.inl ⟨hL7,_,K,rfl,⟨⟨(c.name s.inc).1,a,k,l,pos⟩,rfl, ?_,hOl⟩,cU fun z=>by simp only[cW,cY,c6];omega⟩⟩
 simp only[dD.p,hlp]
def xI(xs:List dF)(v:Value)(H:cR):Prop:=∃(a:Option Addr) (n k:Nat) (l:List dD),v=.slice a n k∧n=l.length∧l.map dD.p=xs∧nR false 3 dD.enc 53 (jx false) a n k l H
theorem sU:dx P 35:=oZ [35] (by kernel_rfl) _ (by decide)
theorem uz(hc:c.Of t)(hl:c.Live s){I:cS}(hF:F.Perm (c.px t b s::F0)) :
  cX P 34 #[.pointer (some ⟨b,0,none⟩),.string (⟨#[115,116,97,116,101]⟩:ByteArray),.int .i64 12,.func (.func 35) #[] #[]] I F (c9 c t b xI F0 (c.list (⟨#[115,116,97,116,101]⟩:ByteArray) 12 c.state s)):=by
 refine ik.vc (fun a n k m I' F'=>∃(xs:List dD) (si:PS),c.Live si∧m=12-xs.length∧eJ c (⟨#[115,116,97,116,101]⟩:ByteArray) 12 c.state (c.list (⟨#[115,116,97,116,101]⟩:ByteArray) 12 c.state s) (xs.map dD.p) si∧Part 3 dD.enc 53 (jx false) a n k xs (c.px t b si::F0) F') ?_
 unfold ik.V
 refine⟨⟨_,[],s,hl,rfl,eJ.start c _ _ _ s,pz hF⟩,fun a n k m I1 F1 l1 ⟨xs,si,hLi,gm,hR,hPt⟩=>?_⟩
 subst gm
 obtain⟨A,hs,hA,hO,hFp⟩:=hPt
 have hnl:=hA.1
 have hx:=hR.1
 rw[List.length_map] at hx
 have frame:F1.Perm (c.px t b si::((A++dM xs.length hs)++F0)):=hFp.trans (cU fun z=>by simp only[cW,cY,c6];omega)
 refine cX.ret (nX hLi (dO.of frame) (⟨#[115,116,97,116,101]⟩:ByteArray)) fun I2 l2=>⟨_,rfl,F1,.refl _,fun hw=>⟨fun h=>?_,fun h=>?_⟩,fun hw=>?_⟩
 ·have h':(n:Int)=12:=by simpa using h
  have h:xs.length=12:=by omega
  refine (fa (dO.of frame) 131).mono fun e I3 G l3 hf=>.inr ?_
  exact dc.pass hf fun e' hf'=>.inr ⟨_,hR.full hLi hw (by rw[List.length_map];exact h),(hf'.tail frame).more⟩
 ·have h':¬(n:Int)=12:=by simpa using h
  have h:xs.length<12:=by omega
  have hR2:=hR.next hLi hw (by rw[List.length_map];exact h)
  refine iA.Bj sU (c9.use (yV hc hLi hw frame) (fun v L I3 G l3 hL3 hv hG=>.inl ?_) fun f e I3 G l3 hd hf=>.inr (dc.pass hf fun e' hf'=>.inr ⟨f,hR2.dead hd,hf'.more⟩))
  obtain⟨r,rfl,hpr,hOr⟩:=hv
  refine⟨_,_,_,_,_,rfl,L++(A++(dM xs.length hs++(c.px t b (c.state si).2::F0))),hG.trans (cU fun z=>by simp only[cW,cY,c6];omega),fun b1 I4 l4 hb1=>?_⟩
  refine eM.mono (B8 (R0:=[]) (Hx:=L) (x:=r) (F:=c.px t b (c.state si).2::F0) ⟨A,hs,hA,hO,.refl _⟩ hb1 hOr (.refl _) (by omega)) fun v I5 G2 l5 ⟨ra,rn,rk,hv,F3,hG3,hP⟩=>?_
  refine⟨ra,rn,rk,hv,F3,hG3,12-(xs.length+1),by omega,xs++[r],(c.state si).2,hL3,by rw[List.length_append,List.length_singleton], ?_,hP⟩
  rw[List.map_append,List.map_singleton,hpr];exact hR2
 ·have hres:=hR.stop hw
  rw[hres]
  exact .inl ⟨hLi,_,A++dM n hs,rfl,⟨a,n,k,xs,rfl,hnl,rfl,A,hs,rfl,hA,fun h=>(by cases h),hO⟩,by rw[hnl];exact frame⟩
def B9(x:eK)(v:Value)(H:cR):Prop:=∃r:iS,v=r.v∧r.p=x∧oE false r H
def PC.o8(c:PC)(nm:ByteArray)(rs:List eY)(ss:List dB)(ts:List dF)(s:PS):eK×PS:=(⟨nm,rs,ss,ts⟩,(c.take (⟨#[125]⟩:ByteArray) (if ts.length=0 then c.cV 130 s else s)).2)
def PC.qG(c:PC)(nm:ByteArray)(rs:List eY)(ss:List dB)(s:PS):eK×PS:=c.o8 nm rs ss (c.list (⟨#[115,116,97,116,101]⟩:ByteArray) 12 c.state s).1 (c.list (⟨#[115,116,97,116,101]⟩:ByteArray) 12 c.state s).2
def PC.qH(c:PC)(nm:ByteArray)(rs:List eY)(s:PS):eK×PS:=c.qG nm rs (c.list (⟨#[115,108,111,116]⟩:ByteArray) 4 c.slot s).1 (c.list (⟨#[115,108,111,116]⟩:ByteArray) 4 c.slot s).2
def PC.o9(c:PC)(nm:ByteArray)(s:PS):eK×PS:=c.qH nm (c.list (⟨#[114,101,103]⟩:ByteArray) 12 c.mb s).1 (c.list (⟨#[114,101,103]⟩:ByteArray) 12 c.mb s).2
def PC.body(c:PC)(s:PS):eK×PS:=c.o9 (c.name (c.take (⟨#[115,116,114,97,116,101,103,121]⟩:ByteArray) s).2).1 (c.take (⟨#[123]⟩:ByteArray) (c.name (c.take (⟨#[115,116,114,97,116,101,103,121]⟩:ByteArray) s).2).2).2
theorem Kp.o8(nm:ByteArray)(rs:List eY)(ss:List dB)(ts:List dF){f:PF}:Kp c f (c.o8 nm rs ss ts):=fun s h=>by
 refine PC.dq.take ?_ _
 split
 ·exact h.cV _
 ·exact h
theorem Kp.qG(nm:ByteArray)(rs:List eY)(ss:List dB){f:PF}:Kp c f (c.qG nm rs ss):=fun s h=>Kp.o8 _ _ _ _ _ (Kp.list _ _ _ s h)
theorem Kp.qH(nm:ByteArray)(rs:List eY){f:PF}:Kp c f (c.qH nm rs):=fun s h=>Kp.qG _ _ _ _ (Kp.list _ _ _ s h)
theorem Kp.o9(nm:ByteArray){f:PF}:Kp c f (c.o9 nm):=fun s h=>Kp.qH _ _ _ (Kp.list _ _ _ s h)
theorem uA(hc:c.Of t)(hl:c.Live s){I:cS}(hF:F.Perm (c.px t b s::F0)) :
  cX P 16 #[.pointer (some ⟨b,0,none⟩)] I F (c9 c t b B9 F0 (c.body s)):=by
 unfold PC.body
 refine eR.vc ?_
 unfold eR.V
 intro b0 b1 I1 l1 hb1
 refine c9.use (ej hc hl hb1 (sM hF)) (fun v K I2 G l2 hL2 hv hG=>.inl ?_) fun f e I2 G l2 hd hf=>.inr (dc.dy [_] hf fun e' G' hf'=>.inr ⟨f,Kp.o9 _ _ (hd.name.take _),hf'⟩)
 obtain⟨⟨i2,rfl⟩,rfl⟩:=hv
 refine⟨_,rfl,c.px t b (c.take (⟨#[115,116,114,97,116,101,103,121]⟩:ByteArray) s).2::F0,hG.trans (cU fun z=>by simp only[cW,cY,c6];omega), ?_⟩
 refine c9.use (iG hc hL2 (sM (.refl _))) (fun v K I3 G l3 hL3 hv hG=>.inl ?_) fun f e I3 G l3 hd hf=>.inr (dc.dy [_] hf fun e' G' hf'=>.inr ⟨f,Kp.o9 _ _ (hd.take _),hf'⟩)
 obtain⟨rfl,rfl⟩:=hv
 generalize hq:c.name (c.take (⟨#[115,116,114,97,116,101,103,121]⟩:ByteArray) s).2=q at hL3 hG
 obtain⟨nm,s3⟩:=q
 refine⟨_,rfl,c.px t b s3::F0,hG.trans (cU fun z=>by simp only[cW,cY,c6];omega),fun bs b2 I4 l4 hb2=>?_⟩
 refine c9.use (ej hc hL3 hb2 (fQ (.refl _))) (fun v K I5 G l5 hL5 hv hG=>.inl ?_) fun f e I5 G l5 hd hf=>.inr (eF (A:=[]) (Kp.o9 _ _ hd) hf)
 obtain⟨⟨i5,rfl⟩,rfl⟩:=hv
 generalize (c.take (⟨#[123]⟩:ByteArray) s3).2=s4 at hL5 hG
 refine⟨_,rfl,_,eV (A:=[]) hG, ?_⟩
 have e1:c.o9 nm s4=c.qH nm (c.list (⟨#[114,101,103]⟩:ByteArray) 12 c.mb s4).1 (c.list (⟨#[114,101,103]⟩:ByteArray) 12 c.mb s4).2:=rfl
 rw[e1]
 refine c9.use (xH hc hL5 (fQ (.refl _))) (fun v K I6 G l6 hL6 hv hG=>.inl ?_) fun f e I6 G l6 hd hf=>.inr (eF (A:=[]) (Kp.qH _ _ _ hd) hf)
 obtain⟨a1,n1,k1,l1',rfl,rfl,hp1,hO1⟩:=hv
 generalize c.list (⟨#[114,101,103]⟩:ByteArray) 12 c.mb s4=r1 at hL6 hG hp1
 refine⟨_,_,_,rfl,_,eV (A:=[]) hG, ?_⟩
 have e2:c.qH nm r1.1 r1.2=c.qG nm r1.1 (c.list (⟨#[115,108,111,116]⟩:ByteArray) 4 c.slot r1.2).1 (c.list (⟨#[115,108,111,116]⟩:ByteArray) 4 c.slot r1.2).2:=rfl
 rw[e2]
 refine c9.use (vG hc hL6 (fQ (.refl _))) (fun v L I7 G l7 hL7 hv hG=>.inl ?_) fun f e I7 G l7 hd hf=>.inr (eF (Kp.qG _ _ _ _ hd) hf)
 obtain⟨a2,n2,k2,l2',rfl,rfl,hp2,hO2⟩:=hv
 generalize c.list (⟨#[115,108,111,116]⟩:ByteArray) 4 c.slot r1.2=r2 at hL7 hG hp2
 refine⟨_,_,_,rfl,_,eV hG, ?_⟩
 have e3:c.qG nm r1.1 r2.1 r2.2=c.o8 nm r1.1 r2.1 (c.list (⟨#[115,116,97,116,101]⟩:ByteArray) 12 c.state r2.2).1 (c.list (⟨#[115,116,97,116,101]⟩:ByteArray) 12 c.state r2.2).2:=rfl
 rw[e3]
 refine c9.use (uz hc hL7 (fQ (.refl _))) (fun v M I8 G l8 hL8 hv hG=>.inl ?_) fun f e I8 G l8 hd hf=>.inr (eF (Kp.o8 _ _ _ _ _ hd) hf)
 obtain⟨a3,n3,k3,l3',rfl,rfl,hp3,hO3⟩:=hv
 generalize c.list (⟨#[115,116,97,116,101]⟩:ByteArray) 12 c.state r2.2=r3 at hL8 hG hp3
 have hlen:r3.1.length=l3'.length:=by rw[←hp3,List.length_map]
 have e4:c.o8 nm r1.1 r2.1 r3.1 r3.2=(⟨nm,r1.1,r2.1,r3.1⟩,(c.take (⟨#[125]⟩:ByteArray) (if l3'.length=0 then c.cV 130 r3.2 else r3.2)).2):=by unfold PC.o8;rw[hlen]
 rw[e4]
 refine⟨_,_,_,rfl,_,eV hG,fun h=>?_,fun h=>?_⟩
 ·have h':(l3'.length:Int)=0:=by simpa using h
  have h:l3'.length=0:=by omega
  rw[if_pos h]
  refine (fa (dO.of (fQ (.refl _))) 130).mono fun e I9 G l9 hf=>.inr ?_
  exact eF ((hL8.cV (by decide)).2.take _) (hf.tail (fQ (.refl _)))
 ·have h:¬l3'.length=0:=fun h0=>by rw[h0] at h;exact absurd h (by decide)
  rw[if_neg h]
  intro b4 I9 l9 hb4
  refine c9.use (ej hc hL8 hb4 (fQ (.refl _))) (fun v N I10 G l10 hL10 hv hG=>.inl ?_) fun f e I10 G l10 hd hf=>.inr (eF hd hf)
  obtain⟨⟨i10,rfl⟩,rfl⟩:=hv
  refine⟨_,rfl,_,eV hG,.inl ⟨hL10,_,K++(L++M),rfl,⟨⟨nm,a1,k1,l1',a2,k2,l2',a3,k3,l3'⟩,rfl, ?_,K,L,M,rfl,hO1,hO2,hO3⟩,cU fun z=>by simp only[cW,cY,c6];omega⟩⟩
  rw[List.map_id] at hp2
  simp only[iS.p,hp1,hp2,hp3]
end
end Go.Lx
namespace Go.Lx
open Go.Vc Go.Proofs.Tryd
def qI:List (Nat×List Sh):=[(0,[]),(9,[.one .str]),(29,[.agg [(.int .u8),(.int .u8),(.int .u8),(.int .i64),(.int .u8),.str,.slc,(.int .i64)]]),(31,[.one .any]),(32,[.agg [(.int .u8),(.int .u8),(.int .u8),(.int .i64),(.int .u8),.str,.slc,(.int .i64)],.one .any]),(48,[.agg [.str,.slc,.slc,.slc]]),(49,[.agg [.str,.slc,.slc,.slc],.one .any]),(68,[.one (.int .u8)])]
def fm.V(ka:Nat→Bs→OA→Nat→Nat→OA→Nat→Nat→OA→Nat→Nat→Nat×Obj)(e f:Nat→Nat×Obj)(vi:Int→Value)(vs:Bs→Value)(vl:OA→Nat→Nat→Value)(vp:OA→Value)(bf s:Bs)(be:Fn)(a5 a6:Array Value)(I:cS)(F:cR)(Q:cZ)  : Prop:=∀a:Nat,∀c:Nat,∀d:Nat,∀b:Nat,cX P 18 (#[vp (some (⟨b,0,none⟩:Addr))]) I ((e a)::(ka c (⟨#[]⟩:Bs) none 0 0 none 0 0 none 0 0)::(f d)::((b,Obj.cells #[vs s,.int .u8 0,vs (⟨#[]⟩:Bs),.int .u8 0,vi 0,vi 0,vi 0] 72 (0,0))::F)) fun e1 I1 G1=>((e1=.returned (.tuple #[])∧∃F1:cR,List.Perm G1 ((e a)::(ka c (⟨#[]⟩:Bs) none 0 0 none 0 0 none 0 0)::(f d)::F1)∧iA P (.func be a5 a6) [vp (some (⟨b,0,none⟩:Addr))] I1 ((e a)::(ka c (⟨#[]⟩:Bs) none 0 0 none 0 0 none 0 0)::(f d)::F1) fun e2 I2 G2=>((∃(aG:Bs) (g:OA) (h i:Nat) (j:OA) (k l:Nat) (n:OA) (o p:Nat),e2=.returned (.agg #[vs aG,vl g h i,vl j k l,vl n o p])∧∃F2:cR,List.Perm G2 ((e a)::(ka c (⟨#[]⟩:Bs) none 0 0 none 0 0 none 0 0)::(f d)::F2)∧∃ad:Addr,some (⟨b,0,none⟩:Addr)=some ad∧∃(m:Int),Rd I2 ((e a)::(ka c aG g h i j k l n o p)::(f d)::F2) ((ad.add 1).add 0) [.int .u8 m]∧(It (m != 0) (cX P 19 (#[vp (some (⟨b,0,none⟩:Addr)),vi 130]) I2 ((e a)::(ka c aG g h i j k l n o p)::(f d)::F2) fun e3 I3 G3=>((e3=.returned (.tuple #[])∧∃F3:cR,List.Perm G3 ((e a)::(ka c aG g h i j k l n o p)::(f d)::F3)∧gB P 28 [vp (some ⟨a,0,none⟩),vp (some ⟨c,0,none⟩),vp (some ⟨d,0,none⟩)] .returning I3 ((e a)::(ka c aG g h i j k l n o p)::(f d)::F3) fun e4 u I4 G4=>∃v:Value,e4=.returned v∧∃(a4 aY:Bs) (aH:OA) (aI aJ:Nat) (aK:OA) (aL aM:Nat) (aN:OA) (aO aP:Nat) (aZ:Value),∃F4:cR,List.Perm G4 ((a,Obj.cells #[vs a4] 9 (0,0))::(ka c aY aH aI aJ aK aL aM aN aO aP)::(d,Obj.cells #[aZ] 31 (0,0))::F4)∧((settle u=.returning∧Q (.returned (.tuple #[.agg #[vs aY,vl aH aI aJ,vl aK aL aM,vl aN aO aP],aZ])) I4 F4)∨(∃ch:List PanicEntry,settle u=.panicking ch∧Q (.panicked ch) I4 F4)))∨(∃a7:List PanicEntry,e3=.panicked a7∧∃F5:cR,List.Perm G3 ((e a)::(ka c aG g h i j k l n o p)::(f d)::F5)∧gB P 28 [vp (some ⟨a,0,none⟩),vp (some ⟨c,0,none⟩),vp (some ⟨d,0,none⟩)] (.panicking a7) I3 ((e a)::(ka c aG g h i j k l n o p)::(f d)::F5) fun e5 u1 I5 G5=>∃v1:Value,e5=.returned v1∧∃(a0 aQ:Bs) (q:OA) (r t:Nat) (w:OA) (x y:Nat) (z:OA) (aa ab:Nat) (aR:Value),∃F6:cR,List.Perm G5 ((a,Obj.cells #[vs a0] 9 (0,0))::(ka c aQ q r t w x y z aa ab)::(d,Obj.cells #[aR] 31 (0,0))::F6)∧((settle u1=.returning∧Q (.returned (.tuple #[.agg #[vs aQ,vl q r t,vl w x y,vl z aa ab],aR])) I5 F6)∨(∃a8:List PanicEntry,settle u1=.panicking a8∧Q (.panicked a8) I5 F6))))) (gB P 28 [vp (some ⟨a,0,none⟩),vp (some ⟨c,0,none⟩),vp (some ⟨d,0,none⟩)] .returning I2 ((e a)::(ka c aG g h i j k l n o p)::(f d)::F2) fun e6 u2 I6 G6=>∃v2:Value,e6=.returned v2∧∃(a1 aS:Bs) (ac:OA) (ae af:Nat) (ag:OA) (ah ai:Nat) (aj:OA) (ak al:Nat) (aT:Value),∃F7:cR,List.Perm G6 ((a,Obj.cells #[vs a1] 9 (0,0))::(ka c aS ac ae af ag ah ai aj ak al)::(d,Obj.cells #[aT] 31 (0,0))::F7)∧((settle u2=.returning∧Q (.returned (.tuple #[.agg #[vs aS,vl ac ae af,vl ag ah ai,vl aj ak al],aT])) I6 F7)∨(∃a9:List PanicEntry,settle u2=.panicking a9∧Q (.panicked a9) I6 F7)))))∨(∃ba:List PanicEntry,e2=.panicked ba∧∃F8:cR,List.Perm G2 ((e a)::(ka c (⟨#[]⟩:Bs) none 0 0 none 0 0 none 0 0)::(f d)::F8)∧gB P 28 [vp (some ⟨a,0,none⟩),vp (some ⟨c,0,none⟩),vp (some ⟨d,0,none⟩)] (.panicking ba) I2 ((e a)::(ka c (⟨#[]⟩:Bs) none 0 0 none 0 0 none 0 0)::(f d)::F8) fun e7 u3 I7 G7=>∃v3:Value,e7=.returned v3∧∃(a2 aU:Bs) (am:OA) (an ao:Nat) (ap:OA) (aq ar:Nat) (au:OA) (av aw:Nat) (aV:Value),∃F9:cR,List.Perm G7 ((a,Obj.cells #[vs a2] 9 (0,0))::(ka c aU am an ao ap aq ar au av aw)::(d,Obj.cells #[aV] 31 (0,0))::F9)∧((settle u3=.returning∧Q (.returned (.tuple #[.agg #[vs aU,vl am an ao,vl ap aq ar,vl au av aw],aV])) I7 F9)∨(∃bb:List PanicEntry,settle u3=.panicking bb∧Q (.panicked bb) I7 F9)))))∨(∃bc:List PanicEntry,e1=.panicked bc∧∃F10:cR,List.Perm G1 ((e a)::(ka c (⟨#[]⟩:Bs) none 0 0 none 0 0 none 0 0)::(f d)::F10)∧gB P 28 [vp (some ⟨a,0,none⟩),vp (some ⟨c,0,none⟩),vp (some ⟨d,0,none⟩)] (.panicking bc) I1 ((e a)::(ka c (⟨#[]⟩:Bs) none 0 0 none 0 0 none 0 0)::(f d)::F10) fun e8 u4 I8 G8=>∃v4:Value,e8=.returned v4∧∃(a3 aW:Bs) (ax:OA) (ay az:Nat) (aA:OA) (aB aC:Nat) (aD:OA) (aE aF:Nat) (aX:Value),∃F11:cR,List.Perm G8 ((a,Obj.cells #[vs a3] 9 (0,0))::(ka c aW ax ay az aA aB aC aD aE aF)::(d,Obj.cells #[aX] 31 (0,0))::F11)∧((settle u4=.returning∧Q (.returned (.tuple #[.agg #[vs aW,vl ax ay az,vl aA aB aC,vl aD aE aF],aX])) I8 F11)∨(∃bd:List PanicEntry,settle u4=.panicking bd∧Q (.panicked bd) I8 F11))))
theorem fm.vc{m s:Bs}{n:Fn}{k l:Array Value}{I:cS}{F:cR}{Q:cZ}  (h:fm.V (fun W a b c d e f g h i j=>(W,Obj.cells #[.string a,.slice b c d,.slice e f g,.slice h i j] 48 (0,0))) (fun b=>(b,Obj.cells #[.string m] 9 (0,0))) (fun b=>(b,Obj.cells #[Value.nilIface] 31 (0,0))) (.int .i64) .string .slice .pointer m s n k l I F Q):cX P 15 #[.string m,.string s,.func n k l] I F Q :=
 tw (A:=(fP [5005] [0,18,19] [18,19,28] qI [] [] [2002] [] [4002] [] [])) [18,19,28] func15 h
def gJ.V(e f:Nat→Nat×Obj)(nV:Int→Int→Int→Int→Int→Bs→OA→Nat→Nat→Int→Value)(nO:Int→Int→Int→Int→Int→Bs→OA→Nat→Nat→Int→Obj)(vi:Int→Value)(vs:Bs→Value)(vp:OA→Value)(bf s:Bs)(be:Fn)(a5 a6:Array Value)(I:cS)(F:cR)(Q:cZ)  : Prop:=∀a:Nat,∀c:Nat,∀d:Nat,∀b:Nat,cX P 18 (#[vp (some (⟨b,0,none⟩:Addr))]) I ((e a)::(c,nO 0 0 0 0 0 (⟨#[]⟩:Bs) none 0 0 0)::(f d)::((b,Obj.cells #[vs s,.int .u8 0,vs (⟨#[]⟩:Bs),.int .u8 0,vi 0,vi 0,vi 0] 72 (0,0))::F)) fun e1 I1 G1=>((e1=.returned (.tuple #[])∧∃F1:cR,List.Perm G1 ((e a)::(c,nO 0 0 0 0 0 (⟨#[]⟩:Bs) none 0 0 0)::(f d)::F1)∧iA P (.func be a5 a6) [vp (some (⟨b,0,none⟩:Addr))] I1 ((e a)::(c,nO 0 0 0 0 0 (⟨#[]⟩:Bs) none 0 0 0)::(f d)::F1) fun e2 I2 G2=>((∃(z aa ab ac ae:Int) (af:Bs) (g:OA) (h i:Nat) (ag:Int),e2=.returned (nV z aa ab ac ae af g h i ag)∧∃F2:cR,List.Perm G2 ((e a)::(c,nO 0 0 0 0 0 (⟨#[]⟩:Bs) none 0 0 0)::(f d)::F2)∧∃ad:Addr,some (⟨b,0,none⟩:Addr)=some ad∧∃(m:Int),Rd I2 ((e a)::(c,nO z aa ab ac ae af g h i ag)::(f d)::F2) ((ad.add 1).add 0) [.int .u8 m]∧(It (m != 0) (cX P 19 (#[vp (some (⟨b,0,none⟩:Addr)),vi 130]) I2 ((e a)::(c,nO z aa ab ac ae af g h i ag)::(f d)::F2) fun e3 I3 G3=>((e3=.returned (.tuple #[])∧∃F3:cR,List.Perm G3 ((e a)::(c,nO z aa ab ac ae af g h i ag)::(f d)::F3)∧gB P 17 [vp (some ⟨a,0,none⟩),vp (some ⟨c,0,none⟩),vp (some ⟨d,0,none⟩)] .returning I3 ((e a)::(c,nO z aa ab ac ae af g h i ag)::(f d)::F3) fun e4 u I4 G4=>∃v:Value,e4=.returned v∧∃(a4:Bs) (aS aT aU aV aW:Int) (aX:Bs) (ah:OA) (ai aj:Nat) (aY:Int) (aZ:Value),∃F4:cR,List.Perm G4 ((a,Obj.cells #[vs a4] 9 (0,0))::(c,nO aS aT aU aV aW aX ah ai aj aY)::(d,Obj.cells #[aZ] 31 (0,0))::F4)∧((settle u=.returning∧Q (.returned (.tuple #[nV aS aT aU aV aW aX ah ai aj aY,aZ])) I4 F4)∨(∃ch:List PanicEntry,settle u=.panicking ch∧Q (.panicked ch) I4 F4)))∨(∃a7:List PanicEntry,e3=.panicked a7∧∃F5:cR,List.Perm G3 ((e a)::(c,nO z aa ab ac ae af g h i ag)::(f d)::F5)∧gB P 17 [vp (some ⟨a,0,none⟩),vp (some ⟨c,0,none⟩),vp (some ⟨d,0,none⟩)] (.panicking a7) I3 ((e a)::(c,nO z aa ab ac ae af g h i ag)::(f d)::F5) fun e5 u1 I5 G5=>∃v1:Value,e5=.returned v1∧∃(a0:Bs) (ak al am an ao:Int) (ap:Bs) (j:OA) (k l:Nat) (aq:Int) (ar:Value),∃F6:cR,List.Perm G5 ((a,Obj.cells #[vs a0] 9 (0,0))::(c,nO ak al am an ao ap j k l aq)::(d,Obj.cells #[ar] 31 (0,0))::F6)∧((settle u1=.returning∧Q (.returned (.tuple #[nV ak al am an ao ap j k l aq,ar])) I5 F6)∨(∃a8:List PanicEntry,settle u1=.panicking a8∧Q (.panicked a8) I5 F6))))) (gB P 17 [vp (some ⟨a,0,none⟩),vp (some ⟨c,0,none⟩),vp (some ⟨d,0,none⟩)] .returning I2 ((e a)::(c,nO z aa ab ac ae af g h i ag)::(f d)::F2) fun e6 u2 I6 G6=>∃v2:Value,e6=.returned v2∧∃(a1:Bs) (au av aw ax ay:Int) (az:Bs) (n:OA) (o p:Nat) (aA:Int) (aB:Value),∃F7:cR,List.Perm G6 ((a,Obj.cells #[vs a1] 9 (0,0))::(c,nO au av aw ax ay az n o p aA)::(d,Obj.cells #[aB] 31 (0,0))::F7)∧((settle u2=.returning∧Q (.returned (.tuple #[nV au av aw ax ay az n o p aA,aB])) I6 F7)∨(∃a9:List PanicEntry,settle u2=.panicking a9∧Q (.panicked a9) I6 F7)))))∨(∃ba:List PanicEntry,e2=.panicked ba∧∃F8:cR,List.Perm G2 ((e a)::(c,nO 0 0 0 0 0 (⟨#[]⟩:Bs) none 0 0 0)::(f d)::F8)∧gB P 17 [vp (some ⟨a,0,none⟩),vp (some ⟨c,0,none⟩),vp (some ⟨d,0,none⟩)] (.panicking ba) I2 ((e a)::(c,nO 0 0 0 0 0 (⟨#[]⟩:Bs) none 0 0 0)::(f d)::F8) fun e7 u3 I7 G7=>∃v3:Value,e7=.returned v3∧∃(a2:Bs) (aC aD aE aF aG:Int) (aH:Bs) (q:OA) (r t:Nat) (aI:Int) (aJ:Value),∃F9:cR,List.Perm G7 ((a,Obj.cells #[vs a2] 9 (0,0))::(c,nO aC aD aE aF aG aH q r t aI)::(d,Obj.cells #[aJ] 31 (0,0))::F9)∧((settle u3=.returning∧Q (.returned (.tuple #[nV aC aD aE aF aG aH q r t aI,aJ])) I7 F9)∨(∃bb:List PanicEntry,settle u3=.panicking bb∧Q (.panicked bb) I7 F9)))))∨(∃bc:List PanicEntry,e1=.panicked bc∧∃F10:cR,List.Perm G1 ((e a)::(c,nO 0 0 0 0 0 (⟨#[]⟩:Bs) none 0 0 0)::(f d)::F10)∧gB P 17 [vp (some ⟨a,0,none⟩),vp (some ⟨c,0,none⟩),vp (some ⟨d,0,none⟩)] (.panicking bc) I1 ((e a)::(c,nO 0 0 0 0 0 (⟨#[]⟩:Bs) none 0 0 0)::(f d)::F10) fun e8 u4 I8 G8=>∃v4:Value,e8=.returned v4∧∃(a3:Bs) (aK aL aM aN aO:Int) (aP:Bs) (w:OA) (x y:Nat) (aQ:Int) (aR:Value),∃F11:cR,List.Perm G8 ((a,Obj.cells #[vs a3] 9 (0,0))::(c,nO aK aL aM aN aO aP w x y aQ)::(d,Obj.cells #[aR] 31 (0,0))::F11)∧((settle u4=.returning∧Q (.returned (.tuple #[nV aK aL aM aN aO aP w x y aQ,aR])) I8 F11)∨(∃bd:List PanicEntry,settle u4=.panicking bd∧Q (.panicked bd) I8 F11))))
theorem gJ.vc{g s:Bs}{i:Fn}{d e:Array Value}{I:cS}{F:cR}{Q:cZ}  (h:gJ.V (fun b=>(b,Obj.cells #[.string g] 9 (0,0))) (fun b=>(b,Obj.cells #[Value.nilIface] 31 (0,0))) (fun k o t n f s a l c q=>.agg #[.int .u8 k,.int .u8 o,.int .u8 t,.int .i64 n,.int .u8 f,.string s,.slice a l c,.int .i64 q]) (fun k o t n f s a l c q=>.cells #[.int .u8 k,.int .u8 o,.int .u8 t,.int .i64 n,.int .u8 f,.string s,.slice a l c,.int .i64 q] 29 (0,0)) (.int .i64) .string .pointer g s i d e I F Q):cX P 11 #[.string g,.string s,.func i d e] I F Q :=
 tw (A:=(fP [5005] [0,18,19] [17,18,19] qI [] [] [2002] [] [4002] [] [])) [17,18,19] func11 h
def il.V(vs:Bs→Value)(vl:OA→Nat→Nat→Value)(s:Bs)(I:cS)(F:cR)(Q:cZ)  : Prop:=∀b:Nat,tR P 15 (#[vs (⟨#[83,116,114,97,116,101,103,121]⟩:Bs),vs s,.func (.func 16) #[] #[]]) I ((b,Obj.cells #[vs (⟨#[]⟩:Bs),vl none 0 0,vl none 0 0,vl none 0 0] 48 (0,0))::·) F fun e1 I1 G1=>∃(k:Bs) (a:OA) (c d:Nat) (e:OA) (f g:Nat) (h:OA) (i j:Nat) (r1:Value),e1=.returned (.tuple #[.agg #[vs k,vl a c d,vl e f g,vl h i j],r1])∧G1 fun F1=>Q (.returned (.tuple #[.agg #[vs k,vl a c d,vl e f g,vl h i j],r1])) I1 (F1)
theorem il.vc{s:Bs}{I:cS}{F:cR}{Q:cZ}  (h:il.V .string .slice s I F Q):cX P 10 #[.string s] I F Q :=
 tw (A:=(an [] [15] qI)) [15] func10 h
def kO.V(nV:Int→Int→Int→Int→Int→Bs→OA→Nat→Nat→Int→Value)(nO:Int→Int→Int→Int→Int→Bs→OA→Nat→Nat→Int→Obj)(s:Bs)(I:cS)(F:cR)(Q:cZ)  : Prop:=∀b:Nat,tR P 11 (#[.string (⟨#[69,120,112,114]⟩:Bs),.string s,.func (.func 12) #[] #[]]) I ((b,nO 0 0 0 0 0 (⟨#[]⟩:Bs) none 0 0 0)::·) F fun e1 I1 G1=>∃(e f g h i:Int) (j:Bs) (a:OA) (c d:Nat) (k:Int) (r1:Value),e1=.returned (.tuple #[nV e f g h i j a c d k,r1])∧G1 fun F1=>Q (.returned (.tuple #[nV e f g h i j a c d k,r1])) I1 (F1)
theorem kO.vc{s:Bs}{I:cS}{F:cR}{Q:cZ}  (h:kO.V (fun k o t n f s a l c q=>.agg #[.int .u8 k,.int .u8 o,.int .u8 t,.int .i64 n,.int .u8 f,.string s,.slice a l c,.int .i64 q]) (fun k o t n f s a l c q=>.cells #[.int .u8 k,.int .u8 o,.int .u8 t,.int .i64 n,.int .u8 f,.string s,.slice a l c,.int .i64 q] 29 (0,0)) s I F Q):cX P 6 #[.string s] I F Q :=
 tw (A:=(an [] [11] qI)) [11] func6 h
def ji.V(nV:Int→Int→Int→Int→Int→Bs→OA→Nat→Nat→Int→Value)(nO:Int→Int→Int→Int→Int→Bs→OA→Nat→Nat→Int→Obj)(p:Addr)(I:cS)(F:cR)(Q:cZ)  : Prop:=∀b:Nat,cX P 13 (#[.pointer (some p),.int .i64 0]) I ((b,nO 0 0 0 0 0 (⟨#[]⟩:Bs) none 0 0 0)::F) fun e1 I1 G1=>((∃(e f g h i:Int) (j:Bs) (a:OA) (c d:Nat) (k:Int),e1=.returned (nV e f g h i j a c d k)∧∃F1:cR,List.Perm G1 ((b,nO 0 0 0 0 0 (⟨#[]⟩:Bs) none 0 0 0)::F1)∧Q (.returned (nV e f g h i j a c d k)) I1 F1)∨(∃ch:List PanicEntry,e1=.panicked ch∧∃F2:cR,List.Perm G1 ((b,nO 0 0 0 0 0 (⟨#[]⟩:Bs) none 0 0 0)::F2)∧Q (.panicked ch) I1 F2))
theorem ji.vc{p:Addr}{I:cS}{F:cR}{Q:cZ}  (h:ji.V (fun k o t n f s a l c q=>.agg #[.int .u8 k,.int .u8 o,.int .u8 t,.int .i64 n,.int .u8 f,.string s,.slice a l c,.int .i64 q]) (fun k o t n f s a l c q=>.cells #[.int .u8 k,.int .u8 o,.int .u8 t,.int .i64 n,.int .u8 f,.string s,.slice a l c,.int .i64 q] 29 (0,0)) p I F Q):cX P 12 #[.pointer (some p)] I F Q :=
 tw (A:=(fP [] [13] [13] qI [] [] [] [] [] [] [])) [13] func12 h
def sV:List (Nat×List Sh):=[]
def gQ.V(m:Nat)(c:Bs)(k:Nat)(n:Bs)(a:OA)(b d:Nat)(e:OA)(f g:Nat)(h:OA)(i j l:Nat)(c1:Value)(I:cS)(F:cR)(Q:cZ)  : Prop:=Q (.returned (.tuple #[])) I ((m,Obj.cells #[.string c] 9 (0,0))::(k,Obj.cells #[.string n,.slice a b d,.slice e f g,.slice h i j] 48 (0,0))::(l,Obj.cells #[c1] 31 (0,0))::F)
theorem gQ.vc{q:Nat}{c:Bs}{b:Nat}{r:Bs}{f:OA}{g i:Nat}{j:OA}{k l:Nat}{m:OA}{n o d:Nat}{c1:Value}{u u1:FrameMode}(s:kW u (Value.nilIface) u1){I:cS}{F:cR}{Q:cZ}  (h:gQ.V q c b r f g i j k l m n o d c1 I F Q):gB P 28 [.pointer (some ⟨q,0,none⟩),.pointer (some ⟨b,0,none⟩),.pointer (some ⟨d,0,none⟩)] u I ((q,Obj.cells #[.string c] 9 (0,0))::(b,Obj.cells #[.string r,.slice f g i,.slice j k l,.slice m n o] 48 (0,0))::(d,Obj.cells #[c1] 31 (0,0))::F) (fun e u' I' G=>u'=u1∧Q e I' G) :=
 lL (A:=(an [] [] sV)) (args:=[.a (.p 0 q 0),.a (.p 1 b 0),.a (.p 2 d 0)]) (own:=[⟨q,9,false,[.a (.v (.string c))]⟩,⟨b,48,false,[.a (.v (.string r)),.a (.v (.slice f g i)),.a (.v (.slice j k l)),.a (.v (.slice m n o))]⟩,⟨d,31,false,[.a (.v c1)]⟩]) (keep:=[0,1,2]) [] func28 s h (by kernel_rfl) (by kernel_rfl) (by kernel_rfl) (by kernel_rfl) (by kernel_rfl) (by simp[AV.wf,At.wf]) (by simp[AV.wf,At.wf]) rfl
def gR.V(d:Nat)(c:Bs)(a:Nat)(o:Bs)(f:OA)(g h:Nat)(i:OA)(j k:Nat)(l:OA)(m n b:Nat)(c1:Value)(fb:Nat)(I:cS)(F:cR)(Q:cZ)  : Prop:=∀e:Nat,∃ad:Addr,some ⟨fb,0,none⟩=some ad∧∃(cs:List Value) (el:Nat) (F1:cR),List.Perm F (((ad.add 0).block,Obj.cells cs.toArray el (0,0))::F1)∧(ad.add 0).spot=none∧(ad.add 0).off+1≤cs.length∧Q (.returned (.tuple #[])) I ((d,Obj.cells #[.string c] 9 (0,0))::(a,Obj.cells #[.string (⟨#[]⟩:Bs),.slice none 0 0,.slice none 0 0,.slice none 0 0] 48 (0,0))::(b,Obj.cells #[Value.iface 39 (.pointer (some ⟨fb,0,none⟩))] 31 (0,0))::(((ad.add 0).block,Obj.cells (de (ad.add 0).off [.string c] cs).toArray el (0,0))::F1))
theorem gR.vc{q:Nat}{c:Bs}{b:Nat}{r:Bs}{f:OA}{g i:Nat}{j:OA}{k l:Nat}{m:OA}{n o d:Nat}{c1:Value}{fb:Nat}{u u1:FrameMode}(s:kW u (Value.iface 39 (.pointer (some ⟨fb,0,none⟩))) u1){I:cS}{F:cR}{Q:cZ}  (h:gR.V q c b r f g i j k l m n o d c1 fb I F Q):gB P 28 [.pointer (some ⟨q,0,none⟩),.pointer (some ⟨b,0,none⟩),.pointer (some ⟨d,0,none⟩)] u I ((q,Obj.cells #[.string c] 9 (0,0))::(b,Obj.cells #[.string r,.slice f g i,.slice j k l,.slice m n o] 48 (0,0))::(d,Obj.cells #[c1] 31 (0,0))::F) (fun e u' I' G=>u'=u1∧Q e I' G) :=
 lL (A:=(an [] [] sV)) (args:=[.a (.p 0 q 0),.a (.p 1 b 0),.a (.p 2 d 0)]) (own:=[⟨q,9,false,[.a (.v (.string c))]⟩,⟨b,48,false,[.a (.v (.string r)),.a (.v (.slice f g i)),.a (.v (.slice j k l)),.a (.v (.slice m n o))]⟩,⟨d,31,false,[.a (.v c1)]⟩]) (keep:=[0,1,2]) [] func28 s h (by kernel_rfl) (by kernel_rfl) (by kernel_rfl) (by kernel_rfl) (by kernel_rfl) (by simp[AV.wf,At.wf]) (by simp[AV.wf,At.wf]) rfl
def jA.V(vb:Int→Value)(g:Nat)(c:Bs)(e:Nat)(h i j k l:Int)(m:Bs)(a:OA)(b d:Nat)(n:Int)(f:Nat)(c1:Value)(I:cS)(F:cR)(Q:cZ)  : Prop:=Q (.returned (.tuple #[])) I ((g,Obj.cells #[.string c] 9 (0,0))::(e,Obj.cells #[vb h,vb i,vb j,.int .i64 k,vb l,.string m,.slice a b d,.int .i64 n] 29 (0,0))::(f,Obj.cells #[c1] 31 (0,0))::F)
theorem jA.vc{j:Nat}{c:Bs}{b:Nat}{k l m n o:Int}{q:Bs}{f:OA}{g i:Nat}{r:Int}{d:Nat}{c1:Value}{u u1:FrameMode}(s:kW u (Value.nilIface) u1){I:cS}{F:cR}{Q:cZ}  (h:jA.V (.int .u8) j c b k l m n o q f g i r d c1 I F Q):gB P 17 [.pointer (some ⟨j,0,none⟩),.pointer (some ⟨b,0,none⟩),.pointer (some ⟨d,0,none⟩)] u I ((j,Obj.cells #[.string c] 9 (0,0))::(b,Obj.cells #[.int .u8 k,.int .u8 l,.int .u8 m,.int .i64 n,.int .u8 o,.string q,.slice f g i,.int .i64 r] 29 (0,0))::(d,Obj.cells #[c1] 31 (0,0))::F) (fun e u' I' G=>u'=u1∧Q e I' G) :=
 lL (A:=(an [] [] sV)) (args:=[.a (.p 0 j 0),.a (.p 1 b 0),.a (.p 2 d 0)]) (own:=[⟨j,9,false,[.a (.v (.string c))]⟩,⟨b,29,false,[.a (.v (.int .u8 k)),.a (.v (.int .u8 l)),.a (.v (.int .u8 m)),.a (.v (.int .i64 n)),.a (.v (.int .u8 o)),.a (.v (.string q)),.a (.v (.slice f g i)),.a (.v (.int .i64 r))]⟩,⟨d,31,false,[.a (.v c1)]⟩]) (keep:=[0,1,2]) [] func17 s h (by kernel_rfl) (by kernel_rfl) (by kernel_rfl) (by kernel_rfl) (by kernel_rfl) (by simp[AV.wf,At.wf]) (by simp[AV.wf,At.wf]) rfl
def jB.V(vb:Int→Value)(d:Nat)(c:Bs)(a:Nat)(i j k l m:Int)(n:Bs)(f:OA)(g h:Nat)(o:Int)(b:Nat)(c1:Value)(fb:Nat)(I:cS)(F:cR)(Q:cZ)  : Prop:=∀e:Nat,∃ad:Addr,some ⟨fb,0,none⟩=some ad∧∃(cs:List Value) (el:Nat) (F1:cR),List.Perm F (((ad.add 0).block,Obj.cells cs.toArray el (0,0))::F1)∧(ad.add 0).spot=none∧(ad.add 0).off+1≤cs.length∧Q (.returned (.tuple #[])) I ((d,Obj.cells #[.string c] 9 (0,0))::(a,Obj.cells #[vb 0,vb 0,vb 0,.int .i64 0,vb 0,.string (⟨#[]⟩:Bs),.slice none 0 0,.int .i64 0] 29 (0,0))::(b,Obj.cells #[Value.iface 39 (.pointer (some ⟨fb,0,none⟩))] 31 (0,0))::(((ad.add 0).block,Obj.cells (de (ad.add 0).off [.string c] cs).toArray el (0,0))::F1))
theorem jB.vc{j:Nat}{c:Bs}{b:Nat}{k l m n o:Int}{q:Bs}{f:OA}{g i:Nat}{r:Int}{d:Nat}{c1:Value}{fb:Nat}{u u1:FrameMode}(s:kW u (Value.iface 39 (.pointer (some ⟨fb,0,none⟩))) u1){I:cS}{F:cR}{Q:cZ}  (h:jB.V (.int .u8) j c b k l m n o q f g i r d c1 fb I F Q):gB P 17 [.pointer (some ⟨j,0,none⟩),.pointer (some ⟨b,0,none⟩),.pointer (some ⟨d,0,none⟩)] u I ((j,Obj.cells #[.string c] 9 (0,0))::(b,Obj.cells #[.int .u8 k,.int .u8 l,.int .u8 m,.int .i64 n,.int .u8 o,.string q,.slice f g i,.int .i64 r] 29 (0,0))::(d,Obj.cells #[c1] 31 (0,0))::F) (fun e u' I' G=>u'=u1∧Q e I' G) :=
 lL (A:=(an [] [] sV)) (args:=[.a (.p 0 j 0),.a (.p 1 b 0),.a (.p 2 d 0)]) (own:=[⟨j,9,false,[.a (.v (.string c))]⟩,⟨b,29,false,[.a (.v (.int .u8 k)),.a (.v (.int .u8 l)),.a (.v (.int .u8 m)),.a (.v (.int .i64 n)),.a (.v (.int .u8 o)),.a (.v (.string q)),.a (.v (.slice f g i)),.a (.v (.int .i64 r))]⟩,⟨d,31,false,[.a (.v c1)]⟩]) (keep:=[0,1,2]) [] func17 s h (by kernel_rfl) (by kernel_rfl) (by kernel_rfl) (by kernel_rfl) (by kernel_rfl) (by simp[AV.wf,At.wf]) (by simp[AV.wf,At.wf]) rfl
end Go.Lx
namespace Go.Lx
open Go.Vc
def xJ(call:ByteArray)(f:PF)(v:Value)(B:cR):Prop :=
 (f.e=0→v=.nilIface∧B=[])∧(f.e≠0→∃(b:Nat) (u:Value) (B':cR),v=.iface 39 (.pointer (some ⟨b,0,none⟩))∧z3 f u B'∧B=(b,.cells #[.string call,.int .i64 f.pos,u] 41 (0,0))::B')
def nZ{α:Type}(z:α)(g:PC→PS→α×PS)(t:ByteArray):α×PF :=
 if ((dk t).end (g (dk t) (eE t)).2).over then (z,((dk t).end (g (dk t) (eE t)).2).f) else ((g (dk t) (eE t)).1,zF)
theorem PC.dq.ends{c:PC}{f:PF}{s:PS}(h:c.dq f s):(c.end s).over=true∧(c.end s).f=f:=by
 by_cases ho:s.over=true
 ·have h1:=h.1
  unfold PC.fin at h1
  rw[if_pos ho] at h1
  have:c.end s=s:=by unfold PC.end;rw[if_pos ho]
  rw[this];exact⟨ho,Option.some.inj h1⟩
 ·have h1:=h.1
  have h2:=h.2 (by simpa using ho)
  unfold PC.fin at h1
  rw[if_neg ho] at h1
  split at h1
  ·rename_i hl
   have:c.end s=⟨s.next,⟨c.bad,c.pos,true⟩⟩:=by unfold PC.end PC.cV;rw[if_neg ho,if_pos (.inl hl),if_neg ho,if_pos hl]
   rw[this];exact⟨by simpa[PS.over] using h2,Option.some.inj h1⟩
  ·cases h1
theorem pA{c:PC}{f:PF}{s:PS}(h:c.dq f s):f.e≠0:=by
 have:=h.ends
 rw[←this.2];simpa[PS.over] using this.1
theorem lW{α:Type}{z:α}{g:PC→PS→α×PS}{t:ByteArray}{f:PF}(h:(dk t).dq f (g (dk t) (eE t)).2):nZ z g t=(z,f):=by
 unfold nZ;rw[h.ends.1,h.ends.2,if_pos rfl]
theorem rO{α:Type}{z:α}{g:PC→PS→α×PS}{t:ByteArray}(h:(dk t).Live (g (dk t) (eE t)).2)(hk:((dk t).tok (g (dk t) (eE t)).2.next).kind≠0):nZ z g t=(z,⟨130,((dk t).tok (g (dk t) (eE t)).2.next).pos,false⟩):=by
 have e:(dk t).end (g (dk t) (eE t)).2=(dk t).cV 130 (g (dk t) (eE t)).2:=by unfold PC.end;rw[h.1,if_neg (by simp),if_pos (.inr hk)]
 unfold nZ;rw[e,(h.cV (by decide)).1];rfl
theorem wK{α:Type}{z:α}{g:PC→PS→α×PS}{t:ByteArray}(h:(dk t).Live (g (dk t) (eE t)).2)(hk:((dk t).tok (g (dk t) (eE t)).2.next).kind=0):nZ z g t=((g (dk t) (eE t)).1,zF):=by
 have e:(dk t).end (g (dk t) (eE t)).2=(g (dk t) (eE t)).2:=by
  unfold PC.end;rw[h.1,if_neg (by simp),if_neg (by rintro (h1 | h1);have:=h.2;omega;exact h1 hk)]
 unfold nZ;rw[e,h.1,if_neg (by simp)]
theorem yW{t:ByteArray}(h:4096<(t.size:Int)):(dk t).dq ⟨110,0,true⟩ (eE t):=by
 have e:eE t=⟨0,⟨110,0,true⟩⟩:=by unfold eE;rw[if_pos h]
 rw[e]
 exact⟨rfl,fun h=>by cases h⟩
theorem Ca{t:ByteArray}(h:(t.size:Int)≤4096):eE t=⟨0,⟨0,0,false⟩⟩:=by unfold eE;rw[if_neg (by omega)]
theorem Cb{x y z:Nat×Obj}{H F:cR}:(x::y::z::(H++F)).Perm (H++(x::y::z::F)):=cU fun z=>by simp only[cW,cY,c6];omega
theorem uB{t:ByteArray}(hs:dn t){b:Nat}{I:cS}{F F0:cR}(hF:F.Perm (pX t b (gC 0) 0::F0)) :
  cX P 18 #[.pointer (some ⟨b,0,none⟩)] I F fun e' I' G=>((t.size:Int)≤4096∧(dk t).Live (eE t)∧e'=.returned (.tuple #[])∧G.Perm ((dk t).px t b (eE t)::F0))∨∃f,(dk t).dq f (eE t)∧dc f F0 e' G:=by
 by_cases h:(t.size:Int)≤4096
 ·have hc:=sL h
  have es:=Ca h
  refine (wF h (Int.le_refl 0) (by omega) hF).mono fun e I1 G l1 hr=>?_
  rcases Nat.eq_zero_or_pos (dk t).l.length with h0 | h0
  ·obtain⟨hb,ht⟩:=hc.none h0
   rw[ht] at hr
   refine .inr ⟨_, ?_,hr⟩
   rw[es]
   exact⟨by unfold PC.fin;rw[if_neg (by decide),if_pos (by rw[h0];exact Nat.zero_le _)],fun _=>hb⟩
  ·have ht:=hc.tk h0
   have:kX (dk t).l 0 0=0:=rfl
   rw[this] at ht
   rw[ht] at hr
   exact .inl ⟨h,by rw[es];exact⟨rfl,h0⟩,hr.1,by rw[es];exact hr.2⟩
 ·have h:4096<(t.size:Int):=by omega
  exact (yP h hs hF).mono fun e I1 G l1 hr=>.inr ⟨_,yW h,hr⟩
def sW(call:ByteArray)(x:Px)(f:PF)(F:cR)(e:Ending)(I:cS)(G:cR):Prop:=∃(n:Nd) (v:Value) (H B X:cR),e=.returned (.tuple #[n.v,v])∧n.px=x∧ef 29 false n H∧xJ call f v B∧G.Perm (H++(B++(X++F)))
theorem kQ{call:ByteArray}{f:PF}{bc bo be:Nat}{n:Nd}{u:Value}{F:cR}{I:cS}{e:Ending}{G:cR}(hf:dc f ((bc,.cells #[.string call] 9 (0,0))::(bo,.cells n.enc.toArray 29 (0,0))::(be,.cells #[u] 31 (0,0))::F) e G)(hn:f.e≠0) :
  ∃ch,e=.panicked ch∧∃F8:cR,G.Perm ((bc,.cells #[.string call] 9 (0,0))::(bo,.cells n.enc.toArray 29 (0,0))::(be,.cells #[u] 31 (0,0))::F8) ∧
   gB P 17 [.pointer (some ⟨bc,0,none⟩),.pointer (some ⟨bo,0,none⟩),.pointer (some ⟨be,0,none⟩)] (.panicking ch) I ((bc,.cells #[.string call] 9 (0,0))::(bo,.cells n.enc.toArray 29 (0,0))::(be,.cells #[u] 31 (0,0))::F8)
    fun e u' I' G=>settle u'=.returning∧e=.returned (.tuple #[])∧∃(v:Value) (F9:cR),G=(bc,.cells #[.string call] 9 (0,0))::(bo,.cells kZ.enc.toArray 29 (0,0))::(be,.cells #[v] 31 (0,0))::F9∧sW call dZ f F (.returned (.tuple #[kZ.v,v])) I' F9:=by
 obtain⟨b,w,B,X,he,hu,hG⟩:=hf
 refine⟨_,he,(b,.cells #[.string ⟨#[]⟩,.int .i64 f.pos,w] 41 (0,0))::(B++(X++F)),hG.trans (cU fun z=>by simp only[cY,cW,c6];omega), ?_⟩
 refine gB.mono (jB.vc (rG _) (Q:=fun e I' G=>e=.returned (.tuple #[])∧G=(bc,.cells #[.string call] 9 (0,0))::(bo,.cells kZ.enc.toArray 29 (0,0))::(be,.cells #[.iface 39 (.pointer (some ⟨b,0,none⟩))] 31 (0,0))::(b,.cells #[.string call,.int .i64 f.pos,w] 41 (0,0))::(B++(X++F))) fun bn=>?_) fun e u' I' G l ⟨hu',he,hG⟩=>?_
 ·refine⟨_,rfl,[.string ⟨#[]⟩,.int .i64 f.pos,w],41,B++(X++F),.refl _,rfl,by rw[fq];exact (by decide:0+1≤3),rfl, ?_⟩
  rw[fq];rfl
 ·subst hu'
  exact⟨rfl,he,_,_,hG,kZ,_,[],(b,.cells #[.string call,.int .i64 f.pos,w] 41 (0,0))::B,X,rfl,kH,eo,⟨fun h=>absurd h hn,fun _=>⟨b,w,B,rfl,hu,rfl⟩⟩,.refl _⟩
theorem sX{t call:ByteArray}(hs:dn t){fN:Fn}{rf rc:Array Value}{g:PC→PS→Px×PS}(hk:∀(c:PC) (f:PF),Kp c f (g c))
  (hr:∀(c:PC),c.Of t→∀(b:Nat) (s:PS) (I:cS) (F F0:cR),c.Live s→F.Perm (c.px t b s::F0)→iA P (.func fN rf rc) [.pointer (some ⟨b,0,none⟩)] I F (c9 c t b nW F0 (g c s))) (I:cS) (F:cR) :
  cX P 11 #[.string call,.string t,.func fN rf rc] I F (sW call (nZ dZ g t).1 (nZ dZ g t).2 F):=by
 refine gJ.vc ?_
 unfold gJ.V
 intro bc bo be b
 have kd:∀{f:PF} {n:Nd} {u:Value} {e:Ending} {I1:cS} {G:cR},nZ dZ g t=(dZ,f)→f.e≠0→dc f ((bc,.cells #[.string call] 9 (0,0))::(bo,.cells n.enc.toArray 29 (0,0))::(be,.cells #[u] 31 (0,0))::F) e G→_:=fun {f n u e I1 G} h1 h2 h3=>kQ (I:=I1) h3 h2
 refine (uB hs (sN (.refl _))).mono fun e I1 G l1 hd=>?_
 rcases hd with ⟨hsz,hL,rfl,hG⟩ | ⟨f,hd,hf⟩
 rotate_left
 ·have hdd:=hk (dk t) f _ hd
  obtain⟨ch,he,F8,hG,hT⟩:=kQ (I:=I1) (n:=kZ) hf (pA hd)
  refine .inr ⟨ch,he,F8,hG,gB.mono hT fun e u I2 G l2 ⟨hu,he,v,F9,hG,hB⟩=>?_⟩
  subst hG
  exact⟨_,he,_,_,_,_,_,_,_,_,_,_,_,_,F9,.refl _,.inl ⟨hu,by rw[lW hdd];exact hB⟩⟩
 have hc:=sL hsz
 refine .inl ⟨rfl,_,hG.trans (cU fun z=>by simp only[cW,cY,c6];omega:List.Perm _ (_::_::_::((dk t).px t b (eE t)::F))), ?_⟩
 refine iA.mono (hr _ hc b _ I1 _ _ hL (sN (.refl _))) fun e I2 G l2 hd=>?_
 rcases hd with ⟨hL2,v,H,rfl,hv,hG⟩ | ⟨f,hd,hf⟩
 rotate_left
 ·obtain⟨ch,he,F8,hG,hT⟩:=kQ (I:=I2) (n:=kZ) hf (pA hd)
  refine .inr ⟨ch,he,F8,hG,gB.mono hT fun e u I3 G l3 ⟨hu,he,v,F9,hG,hB⟩=>?_⟩
  subst hG
  exact⟨_,he,_,_,_,_,_,_,_,_,_,_,_,_,F9,.refl _,.inl ⟨hu,by rw[lW hd];exact hB⟩⟩
 obtain⟨n,rfl,hpx,hO⟩:=hv
 refine .inl ⟨_,_,_,_,_,_,_,_,_,_,rfl,(dk t).px t b (g (dk t) (eE t)).2::(H++F),hG.trans (cU fun z=>by simp only[cW,cY,c6];omega), ?_⟩
 refine⟨_,rfl,_,(dO.of (I:=I2) (sN (.refl _))).rd.dE (p:=1) (q:=0) rfl,fun h=>?_,fun h=>?_⟩
 ·have h:((dk t).tok (g (dk t) (eE t)).2.next).kind≠0:=by simpa using h
  refine (fa (dO.of (sN (.refl _))) 130).mono fun e I3 G l3 hf=>.inr ?_
  have hf:=hf.tail (sN (.refl _))
  have hf:dc _ ((bc,.cells #[.string call] 9 (0,0))::(bo,.cells n.enc.toArray 29 (0,0))::(be,.cells #[.nilIface] 31 (0,0))::F) e G:=dc.more (A:=H) (hf.perm Cb (.refl _))
  obtain⟨ch,he,F8,hG,hT⟩:=kQ (I:=I3) hf (show (130:Int)≠0 by decide)
  refine⟨ch,he,F8,hG,gB.mono hT fun e u I4 G l4 ⟨hu,he,v,F9,hG,hB⟩=>?_⟩
  subst hG
  exact⟨_,he,_,_,_,_,_,_,_,_,_,_,_,_,F9,.refl _,.inl ⟨hu,by rw[rO hL2 h];exact hB⟩⟩
 ·have h:((dk t).tok (g (dk t) (eE t)).2.next).kind=0:=by simpa using h
  refine gB.mono (jA.vc rF (Q:=fun e I' G=>e=.returned (.tuple #[])∧G=(bc,.cells #[.string call] 9 (0,0))::(bo,.cells n.enc.toArray 29 (0,0))::(be,.cells #[.nilIface] 31 (0,0))::((dk t).px t b (g (dk t) (eE t)).2::(H++F))) ⟨rfl,rfl⟩) fun e u I3 G l3 ⟨hu,he,hG⟩=>?_
  subst hu hG
  refine⟨_,he,_,_,_,_,_,_,_,_,_,_,_,_,_,.refl _,.inl ⟨rfl, ?_⟩⟩
  rw[wK hL2 h]
  exact⟨n,_,H,[],[(dk t).px t b (g (dk t) (eE t)).2],rfl,hpx,hO,⟨fun _=>⟨rfl,rfl⟩,fun h=>absurd rfl h⟩,cU fun z=>by simp only[cW,cY,c6];omega⟩
def mr:iS:=⟨⟨#[]⟩,none,0,[],none,0,[],none,0,[]⟩
def rP:eK:=⟨⟨#[]⟩,[],[],[]⟩
theorem yX:oE false mr []:=⟨[],[],[],rfl,⟨[],fun _=>[],rfl,Acc.nil,fun h=>(by cases h),fun i k h=>by simp[mr] at h⟩,⟨[],fun _=>[],rfl,Acc.nil,fun h=>(by cases h),fun i k h=>by simp[mr] at h⟩,[],fun _=>[],rfl,Acc.nil,fun h=>(by cases h),fun i k h=>by simp[mr] at h⟩
def lx(call:ByteArray)(x:eK)(f:PF)(F:cR)(e:Ending)(I:cS)(G:cR):Prop:=∃(n:iS) (v:Value) (H B X:cR),e=.returned (.tuple #[n.v,v])∧n.p=x∧oE false n H∧xJ call f v B∧G.Perm (H++(B++(X++F)))
theorem im{call:ByteArray}{f:PF}{bc bo be:Nat}{n:iS}{u:Value}{F:cR}{I:cS}{e:Ending}{G:cR}(hf:dc f ((bc,.cells #[.string call] 9 (0,0))::(bo,.cells n.enc.toArray 48 (0,0))::(be,.cells #[u] 31 (0,0))::F) e G)(hn:f.e≠0) :
  ∃ch,e=.panicked ch∧∃F8:cR,G.Perm ((bc,.cells #[.string call] 9 (0,0))::(bo,.cells n.enc.toArray 48 (0,0))::(be,.cells #[u] 31 (0,0))::F8) ∧
   gB P 28 [.pointer (some ⟨bc,0,none⟩),.pointer (some ⟨bo,0,none⟩),.pointer (some ⟨be,0,none⟩)] (.panicking ch) I ((bc,.cells #[.string call] 9 (0,0))::(bo,.cells n.enc.toArray 48 (0,0))::(be,.cells #[u] 31 (0,0))::F8)
    fun e u' I' G=>settle u'=.returning∧e=.returned (.tuple #[])∧∃(v:Value) (F9:cR),G=(bc,.cells #[.string call] 9 (0,0))::(bo,.cells mr.enc.toArray 48 (0,0))::(be,.cells #[v] 31 (0,0))::F9∧lx call rP f F (.returned (.tuple #[mr.v,v])) I' F9:=by
 obtain⟨b,w,B,X,he,hu,hG⟩:=hf
 refine⟨_,he,(b,.cells #[.string ⟨#[]⟩,.int .i64 f.pos,w] 41 (0,0))::(B++(X++F)),hG.trans (cU fun z=>by simp only[cY,cW,c6];omega), ?_⟩
 refine gB.mono (gR.vc (rG _) (Q:=fun e I' G=>e=.returned (.tuple #[])∧G=(bc,.cells #[.string call] 9 (0,0))::(bo,.cells mr.enc.toArray 48 (0,0))::(be,.cells #[.iface 39 (.pointer (some ⟨b,0,none⟩))] 31 (0,0))::(b,.cells #[.string call,.int .i64 f.pos,w] 41 (0,0))::(B++(X++F))) fun bn=>?_) fun e u' I' G l ⟨hu',he,hG⟩=>?_
 ·refine⟨_,rfl,[.string ⟨#[]⟩,.int .i64 f.pos,w],41,B++(X++F),.refl _,rfl,by rw[fq];exact (by decide:0+1≤3),rfl, ?_⟩
  rw[fq];rfl
 ·subst hu'
  exact⟨rfl,he,_,_,hG,mr,_,[],(b,.cells #[.string call,.int .i64 f.pos,w] 41 (0,0))::B,X,rfl,rfl,yX,⟨fun h=>absurd h hn,fun _=>⟨b,w,B,rfl,hu,rfl⟩⟩,.refl _⟩
theorem oK{t call:ByteArray}(hs:dn t){fN:Fn}{rf rc:Array Value}{g:PC→PS→eK×PS}(hk:∀(c:PC) (f:PF),Kp c f (g c))
  (hr:∀(c:PC),c.Of t→∀(b:Nat) (s:PS) (I:cS) (F F0:cR),c.Live s→F.Perm (c.px t b s::F0)→iA P (.func fN rf rc) [.pointer (some ⟨b,0,none⟩)] I F (c9 c t b B9 F0 (g c s))) (I:cS) (F:cR) :
  cX P 15 #[.string call,.string t,.func fN rf rc] I F (lx call (nZ rP g t).1 (nZ rP g t).2 F):=by
 refine fm.vc ?_
 unfold fm.V
 intro bc bo be b
 have kd:∀{f:PF} {n:iS} {u:Value} {e:Ending} {I1:cS} {G:cR},nZ rP g t=(rP,f)→f.e≠0→dc f ((bc,.cells #[.string call] 9 (0,0))::(bo,.cells n.enc.toArray 48 (0,0))::(be,.cells #[u] 31 (0,0))::F) e G→_:=fun {f n u e I1 G} h1 h2 h3=>im (I:=I1) h3 h2
 refine (uB hs (sN (.refl _))).mono fun e I1 G l1 hd=>?_
 rcases hd with ⟨hsz,hL,rfl,hG⟩ | ⟨f,hd,hf⟩
 rotate_left
 ·have hdd:=hk (dk t) f _ hd
  obtain⟨ch,he,F8,hG,hT⟩:=im (I:=I1) (n:=mr) hf (pA hd)
  refine .inr ⟨ch,he,F8,hG,gB.mono hT fun e u I2 G l2 ⟨hu,he,v,F9,hG,hB⟩=>?_⟩
  subst hG
  exact⟨_,he,_,_,_,_,_,_,_,_,_,_,_,_,F9,.refl _,.inl ⟨hu,by rw[lW hdd];exact hB⟩⟩
 have hc:=sL hsz
 refine .inl ⟨rfl,_,hG.trans (cU fun z=>by simp only[cW,cY,c6];omega:List.Perm _ (_::_::_::((dk t).px t b (eE t)::F))), ?_⟩
 refine iA.mono (hr _ hc b _ I1 _ _ hL (sN (.refl _))) fun e I2 G l2 hd=>?_
 rcases hd with ⟨hL2,v,H,rfl,hv,hG⟩ | ⟨f,hd,hf⟩
 rotate_left
 ·obtain⟨ch,he,F8,hG,hT⟩:=im (I:=I2) (n:=mr) hf (pA hd)
  refine .inr ⟨ch,he,F8,hG,gB.mono hT fun e u I3 G l3 ⟨hu,he,v,F9,hG,hB⟩=>?_⟩
  subst hG
  exact⟨_,he,_,_,_,_,_,_,_,_,_,_,_,_,F9,.refl _,.inl ⟨hu,by rw[lW hd];exact hB⟩⟩
 obtain⟨n,rfl,hpx,hO⟩:=hv
 refine .inl ⟨_,_,_,_,_,_,_,_,_,_,rfl,(dk t).px t b (g (dk t) (eE t)).2::(H++F),hG.trans (cU fun z=>by simp only[cW,cY,c6];omega), ?_⟩
 refine⟨_,rfl,_,(dO.of (I:=I2) (sN (.refl _))).rd.dE (p:=1) (q:=0) rfl,fun h=>?_,fun h=>?_⟩
 ·have h:((dk t).tok (g (dk t) (eE t)).2.next).kind≠0:=by simpa using h
  refine (fa (dO.of (sN (.refl _))) 130).mono fun e I3 G l3 hf=>.inr ?_
  have hf:=hf.tail (sN (.refl _))
  have hf:dc _ ((bc,.cells #[.string call] 9 (0,0))::(bo,.cells n.enc.toArray 48 (0,0))::(be,.cells #[.nilIface] 31 (0,0))::F) e G:=dc.more (A:=H) (hf.perm Cb (.refl _))
  obtain⟨ch,he,F8,hG,hT⟩:=im (I:=I3) hf (show (130:Int)≠0 by decide)
  refine⟨ch,he,F8,hG,gB.mono hT fun e u I4 G l4 ⟨hu,he,v,F9,hG,hB⟩=>?_⟩
  subst hG
  exact⟨_,he,_,_,_,_,_,_,_,_,_,_,_,_,F9,.refl _,.inl ⟨hu,by rw[rO hL2 h];exact hB⟩⟩
 ·have h:((dk t).tok (g (dk t) (eE t)).2.next).kind=0:=by simpa using h
  refine gB.mono (gQ.vc rF (Q:=fun e I' G=>e=.returned (.tuple #[])∧G=(bc,.cells #[.string call] 9 (0,0))::(bo,.cells n.enc.toArray 48 (0,0))::(be,.cells #[.nilIface] 31 (0,0))::((dk t).px t b (g (dk t) (eE t)).2::(H++F))) ⟨rfl,rfl⟩) fun e u I3 G l3 ⟨hu,he,hG⟩=>?_
  subst hu hG
  refine⟨_,he,_,_,_,_,_,_,_,_,_,_,_,_,_,.refl _,.inl ⟨rfl, ?_⟩⟩
  rw[wK hL2 h]
  exact⟨n,_,H,[],[(dk t).px t b (g (dk t) (eE t)).2],rfl,hpx,hO,⟨fun _=>⟨rfl,rfl⟩,fun h=>absurd rfl h⟩,cU fun z=>by simp only[cW,cY,c6];omega⟩
theorem vI(t:ByteArray):nZ dZ (fun c=>c.dC) t=eC t:=rfl
theorem vJ(t:ByteArray):nZ rP (fun c=>c.body) t=mR t:=rfl
theorem Kp.body{c:PC}{f:PF}:Kp c f c.body:=fun s h=>Kp.o9 _ _ ((((h.take _).name).take _))
theorem pd:dx P 16:=oZ [16] (by kernel_rfl) _ (by decide)
theorem sY:dx P 12:=oZ [12] (by kernel_rfl) _ (by decide)
theorem yY{c:PC}{t:ByteArray}(hc:c.Of t){b:Nat}{s:PS}{I:cS}{F F0:cR}(hl:c.Live s)(hF:F.Perm (c.px t b s::F0)):cX P 12 #[.pointer (some ⟨b,0,none⟩)] I F (c9 c t b nW F0 (c.dC s)):=by
 refine ji.vc ?_
 unfold ji.V
 intro b0
 refine c9.use (lu hc b s I _ _ hl (sM hF)) (fun v K I2 G l2 hL2 hv hG=>.inl ?_) fun f e I2 G l2 hd hf=>.inr (dc.dy [_] hf fun e' G' hf'=>.inr ⟨f,hd,hf'⟩)
 obtain⟨n,rfl,hv⟩:=hv
 exact⟨_,_,_,_,_,_,_,_,_,_,rfl,c.px t b (c.dC s).2::(K++F0),hG.trans (cU fun z=>by simp only[cW,cY,c6];omega),.inl ⟨hL2,_,K,rfl,⟨n,rfl,hv⟩,.refl _⟩⟩
theorem vK{t:ByteArray}(hs:dn t)(I:cS)(F:cR):cX P 6 #[.string t] I F (sW (⟨#[69,120,112,114]⟩:ByteArray) (eC t).1 (eC t).2 F):=by
 refine kO.vc ?_
 unfold kO.V
 intro b0
 refine (sX hs (g:=fun c=>c.dC) (fun c f=>Kp.dC) (fun c hc b s I F F0 hl hF=>iA.Bj sY (yY hc hl hF)) I _).mono fun e I1 G l1 ⟨n,v,H,B,X,he,hpx,hO,hE,hG⟩=>?_
 subst he
 rw[vI] at hpx hE
 exact⟨_,_,_,_,_,_,_,_,_,_,_,rfl,H++(B++(X++F)),hG.trans (cU fun z=>by simp only[cW,cY,c6];omega),n,v,H,B,X,rfl,hpx,hO,hE,.refl _⟩
theorem qJ{t:ByteArray}(hs:dn t)(I:cS)(F:cR):cX P 10 #[.string t] I F (lx (⟨#[83,116,114,97,116,101,103,121]⟩:ByteArray) (mR t).1 (mR t).2 F):=by
 refine il.vc ?_
 unfold il.V
 intro b0
 refine (oK hs (g:=fun c=>c.body) (fun c f=>Kp.body) (fun c hc b s I F F0 hl hF=>iA.Bj pd (uA hc hl hF)) I _).mono fun e I1 G l1 ⟨n,v,H,B,X,he,hpx,hO,hE,hG⟩=>?_
 subst he
 rw[vJ] at hpx hE
 exact⟨_,_,_,_,_,_,_,_,_,_,_,rfl,H++(B++(X++F)),hG.trans (cU fun z=>by simp only[cW,cY,c6];omega),n,v,H,B,X,rfl,hpx,hO,hE,.refl _⟩
section
variable {I:cS} {l:List ByteArray} {i:Nat} {nm:ByteArray} {o:Obj} {m:Nat} {G R:cR}
end
section
variable (s:iS) (hl:s.p.o3) {I:cS} {F:cR} (hok:s.Ok I F)
def ic(s:iS):List ByteArray:=s.regs.map gy.name
end
end Go.Lx
namespace Go.Lx
open Go.Vc
section
variable {s:iS} (hl:s.p.zr) {I:cS} {F:cR} (hok:s.Ok I F)
include hl hok
end
end Go.Lx
namespace Go.Lx
open Go.Vc
section
variable {s:iS} {I:cS} {F:cR} {c:Nat}
end
end Go.Lx
namespace Go.Lx
open Go.Vc
section
variable {s:iS} {I:cS} {F:cR} {c:Nat}
end
end Go.Lx
namespace Go.Lx
open Go.Vc
end Go.Lx
namespace Go.Lx
open Go.Vc Go.Proofs.Tryd
def Bg:List (Nat×List Sh):=[(3,[.one (.int .i64)]),(4,[.one .bool]),(34,[.one (.int .i64)]),(39,[.one .ptr])]
def gX.V(vi:Int→Value)(vp:OA→Value)(b:Value)(I:cS)(F:cR)(Q:cZ)  : Prop:=∃q:Bool,eH P .eql 31 (.tmp 7) (.const (Value.nilIface)) b Value.nilIface q∧(It q (Q (.returned (.tuple #[vi 0,vi 0])) I F) (∀a:Nat,∃(cs:List Value) (el:Nat) (F1:cR),List.Perm ((a,Obj.cells #[vi 0] 34 (0,0))::F) (((⟨a,0,none⟩:Addr).block,Obj.cells cs.toArray el (0,0))::F1)∧(⟨a,0,none⟩:Addr).spot=none∧(⟨a,0,none⟩:Addr).off+1≤cs.length∧∀c:Nat,cX P 14 (#[b,Value.iface 59 (vp (some (⟨c,0,none⟩:Addr)))]) I (((c,Obj.cells #[vp none] 39 (0,0))::(((⟨a,0,none⟩:Addr).block,Obj.cells (de (⟨a,0,none⟩:Addr).off [vi (-1)] cs).toArray el (0,0))::F1))) fun e1 I1 G1=>∃(r:Bool),e1=.returned (.bool r)∧∃F2:cR,List.Perm G1 F2∧(It r (∃(m:OA),Rd I1 F2 (⟨c,0,none⟩:Addr) [vp m]∧∃ad:Addr,m=some ad∧∃(m1:Int),Rd I1 F2 (ad.add 1) [vi m1]∧mM P 14 (#[b,Value.iface 60 (vp (some (⟨a,0,none⟩:Addr)))]) I1 (·) F2 .bool fun r1 I2 F3=>∃(m2:Int),Rd I2 F3 (⟨a,0,none⟩:Addr) [vi m2]∧Q (.returned (.tuple #[vi m2,vi m1])) I2 F3) (mM P 14 (#[b,Value.iface 60 (vp (some (⟨a,0,none⟩:Addr)))]) I1 (·) F2 .bool fun r2 I3 F4=>∃(m3:Int),Rd I3 F4 (⟨a,0,none⟩:Addr) [vi m3]∧Q (.returned (.tuple #[vi m3,vi 0])) I3 F4))))
theorem gX.vc{a:Value}{I:cS}{F:cR}{Q:cZ}  (h:gX.V (.int .i64) .pointer a I F Q):cX P 7 #[a] I F Q :=
 tw (A:=(fP [1001,5002] [] [14] Bg [] [] [3000,4000] [] [] [] [])) [14] func7 h
end Go.Lx
namespace Go.Lx
open Go.Vc
theorem yZ{I:cS}{G:cR}{b ty:Nat}{v:Value}(h:(b,Obj.cells #[v] ty (0,0))∈G):Rd I G (⟨b,0,none⟩:Addr) [v]:=Rd.u7 h 0 fun j hj=>by
 have:j=0:=by simpa using hj
 subst this;rfl
theorem xK(I:cS)(F:cR):cX P 7 #[.nilIface] I F (od (.tuple #[.int .i64 0,.int .i64 0]) F):=by
 refine gX.vc ?_
 unfold gX.V
 exact⟨true,qy (by kernel_rfl),fun _=>⟨rfl,rfl⟩,fun h=>(by cases h)⟩
theorem qK{I:cS}(hg:Gl I){b:Nat}{call:ByteArray}{pos n:Int}{u:Value}(hb:I b=some (.cells #[.string call,.int .i64 pos,u] 41 (0,0)))
  (hE:∀J,cS.le I J→∀(G:cR) (t ty:Nat) (old:Value),cX P 14 #[.iface 39 (.pointer (some ⟨b,0,none⟩)),.iface 60 (.pointer (some ⟨t,0,none⟩))] J ((t,.cells #[old] ty (0,0))::G) (BX true ((t,.cells #[.int .i64 n] ty (0,0))::G))) (F:cR) :
  cX P 7 #[.iface 39 (.pointer (some ⟨b,0,none⟩))] I F (od (.tuple #[.int .i64 n,.int .i64 pos]) F):=by
 refine cX.clean ?_
 refine gX.vc ?_
 unfold gX.V
 refine⟨false,xB (by kernel_rfl),fun h=>(by cases h),fun _ b_e=>⟨[.int .i64 0],_,F,.refl _,rfl,by simp,fun b_f=>?_⟩⟩
 refine (zJ hg b).mono fun e I1 G l1 ⟨he,hG⟩=>?_
 subst hG
 refine⟨true,he,_,.refl _,fun _=>⟨some ⟨b,0,none⟩,yZ (.head _),⟨b,0,none⟩,rfl,pos, ?_, ?_⟩,fun h=>(by cases h)⟩
 ·rw[BM]
  exact Rd.yf (l1.at hb) _ 1 fun j hj=>by
   have:j=0:=by simpa using hj
   subst this;rfl
 ·refine cX.perm ((hE I1 l1 ((b_f,.cells #[.pointer (some ⟨b,0,none⟩)] 39 (0,0))::F) b_e 34 (.int .i64 (-1))).mono fun e I2 G l2 ⟨he,hG⟩=>?_) (.swap ..)
  subst hG
  exact⟨true,he,_,.refl _,n,yZ (.head _),rfl,[_,_],.refl _⟩
end Go.Lx
namespace Go.Lx
open Go.Vc Go.Proofs.Tryd
def Bh:List (Nat×List Sh):=[(3,[.one (.int .i64)]),(24,[.one (.int .u8)]),(32,[.agg [(.int .u8),(.int .u8),(.int .u8),(.int .i64),(.int .u8),.str,.slc,(.int .i64)],.one .any]),(35,[.one (.int .i64),.one (.int .i64)]),(49,[.agg [.str,.slc,.slc,.slc],.one .any])]
def jN.V(ka:Nat→Bs→OA→Nat→Nat→OA→Nat→Nat→OA→Nat→Nat→Nat×Obj)(nV:Int→Int→Int→Int→Int→Bs→OA→Nat→Nat→Int→Value)(nO:Int→Int→Int→Int→Int→Bs→OA→Nat→Nat→Int→Obj)(vi:Int→Value)(vs:Bs→Value)(vl:OA→Nat→Nat→Value)(vt:Bool→Value)(I:cS)(F:cR)(Q:cZ)  : Prop:=tR P 6 (#[vs (⟨#[49,32,45,32,50,32,45,32,51]⟩:Bs)]) I (·) F fun e1 I1 G1=>∃(t u v w x:Int) (y:Bs) (c:OA) (b e:Nat) (j:Int) (r1:Value),e1=.returned (.tuple #[nV t u v w x y c b e j,r1])∧G1 fun F1=>∀aq:Nat,tR P 7 #[r1] I1 ((aq,nO t u v w x y c b e j)::·) F1 fun e2 I2 G2=>∃(r0 aC:Int),e2=.returned (.tuple #[vi r0,vi aC])∧G2 fun F2=>tR P 6 (#[vs (⟨#[40,49,32,43,32,38]⟩:Bs)]) I2 ((aq,nO t u v w x y c b e j)::·) F2 fun e3 I3 G3=>∃(k l n o p:Int) (r:Bs) (f:OA) (g h:Nat) (s:Int) (aD:Value),e3=.returned (.tuple #[nV k l n o p r f g h s,aD])∧G3 fun F3=>∀au:Nat,tR P 7 #[aD] I3 ((aq,nO t u v w x y c b e j)::(au,nO k l n o p r f g h s)::·) F3 fun e4 I4 G4=>∃(av aw:Int),e4=.returned (.tuple #[vi av,vi aw])∧G4 fun F4=>tR P 10 (#[vs (⟨#[115,116,114,97,116,101,103,121,32,115,123,115,116,97,116,101,32,97,123,125,125]⟩:Bs)]) I4 ((aq,nO t u v w x y c b e j)::(au,nO k l n o p r f g h s)::·) F4 fun e5 I5 G5=>∃(d:Bs) (aj:OA) (ak al:Nat) (am:OA) (an ao:Nat) (i:OA) (a ap:Nat) (aA:Value),e5=.returned (.tuple #[.agg #[vs d,vl aj ak al,vl am an ao,vl i a ap],aA])∧G5 fun F5=>∀az:Nat,tR P 10 (#[vs (⟨#[115,116,114,97,116,101,103,121,32,115,123,125]⟩:Bs)]) I5 ((aq,nO t u v w x y c b e j)::(au,nO k l n o p r f g h s)::(ka az d aj ak al am an ao i a ap)::·) F5 fun e6 I6 G6=>∃(ar:Bs) (z:OA) (aa ab:Nat) (ac:OA) (ae af:Nat) (ag:OA) (ah ai:Nat) (aE:Value),e6=.returned (.tuple #[.agg #[vs ar,vl z aa ab,vl ac ae af,vl ag ah ai],aE])∧G6 fun F6=>∀ay:Nat,tR P 7 #[aE] I6 ((aq,nO t u v w x y c b e j)::(au,nO k l n o p r f g h s)::(ka az d aj ak al am an ao i a ap)::(ka ay ar z aa ab ac ae af ag ah ai)::·) F6 fun e7 I7 G7=>∃(ax aB:Int),e7=.returned (.tuple #[vi ax,vi aB])∧G7 fun F7=>∃q:Bool,eH P .eql 31 (.tmp 47) (.const (Value.nilIface)) r1 Value.nilIface q∧(It q (It (r0==0) (It (aC==0) (It (j==6) (It ((b:Int)==2) ((0≤(0:Int)∧(0:Int)<(b:Int))∧∃ad:Addr,c=some ad∧∃(m:Int),Rd I7 ((aq,nO t u v w x y c b e j)::(au,nO k l n o p r f g h s)::(ka az d aj ak al am an ao i a ap)::(ka ay ar z aa ab ac ae af ag ah ai)::F7) ((ad.add (Int.toNat 0*8)).add 1) [.int .u8 m]∧(It (m==7) ((0≤(0:Int)∧(0:Int)<(b:Int))∧∃aF:Addr,c=some aF∧∃(m1:Int),Rd I7 ((aq,nO t u v w x y c b e j)::(au,nO k l n o p r f g h s)::(ka az d aj ak al am an ao i a ap)::(ka ay ar z aa ab ac ae af ag ah ai)::F7) ((aF.add (Int.toNat 0*8)).add 7) [vi m1]∧(It (m1==2) (It (av==111) (It (aw==5) (∃q1:Bool,eH P .eql 31 (.tmp 94) (.const (Value.nilIface)) aA Value.nilIface q1∧(It q1 (It (d.toList==(⟨#[115]⟩:Bs).toList) (It ((a:Int)==1) ((0≤(0:Int)∧(0:Int)<(a:Int))∧∃aG:Addr,i=some aG∧∃(m2:Int),Rd I7 ((aq,nO t u v w x y c b e j)::(au,nO k l n o p r f g h s)::(ka az d aj ak al am an ao i a ap)::(ka ay ar z aa ab ac ae af ag ah ai)::F7) ((aG.add (Int.toNat 0*3)).add 2) [vi m2]∧(It (m2==11) (It (ax==130) (Q (.returned (vt (aB==11))) I7 F7) (Q (.returned (vt false)) I7 F7)) (Q (.returned (vt false)) I7 F7))) (Q (.returned (vt false)) I7 F7)) (Q (.returned (vt false)) I7 F7)) (Q (.returned (vt false)) I7 F7))) (Q (.returned (vt false)) I7 F7)) (Q (.returned (vt false)) I7 F7)) (Q (.returned (vt false)) I7 F7))) (It false (It (av==111) (It (aw==5) (∃q2:Bool,eH P .eql 31 (.tmp 94) (.const (Value.nilIface)) aA Value.nilIface q2∧(It q2 (It (d.toList==(⟨#[115]⟩:Bs).toList) (It ((a:Int)==1) ((0≤(0:Int)∧(0:Int)<(a:Int))∧∃aH:Addr,i=some aH∧∃(m3:Int),Rd I7 ((aq,nO t u v w x y c b e j)::(au,nO k l n o p r f g h s)::(ka az d aj ak al am an ao i a ap)::(ka ay ar z aa ab ac ae af ag ah ai)::F7) ((aH.add (Int.toNat 0*3)).add 2) [vi m3]∧(It (m3==11) (It (ax==130) (Q (.returned (vt (aB==11))) I7 F7) (Q (.returned (vt false)) I7 F7)) (Q (.returned (vt false)) I7 F7))) (Q (.returned (vt false)) I7 F7)) (Q (.returned (vt false)) I7 F7)) (Q (.returned (vt false)) I7 F7))) (Q (.returned (vt false)) I7 F7)) (Q (.returned (vt false)) I7 F7)) (Q (.returned (vt false)) I7 F7)))) (It false (It (av==111) (It (aw==5) (∃q3:Bool,eH P .eql 31 (.tmp 94) (.const (Value.nilIface)) aA Value.nilIface q3∧(It q3 (It (d.toList==(⟨#[115]⟩:Bs).toList) (It ((a:Int)==1) ((0≤(0:Int)∧(0:Int)<(a:Int))∧∃aI:Addr,i=some aI∧∃(m4:Int),Rd I7 ((aq,nO t u v w x y c b e j)::(au,nO k l n o p r f g h s)::(ka az d aj ak al am an ao i a ap)::(ka ay ar z aa ab ac ae af ag ah ai)::F7) ((aI.add (Int.toNat 0*3)).add 2) [vi m4]∧(It (m4==11) (It (ax==130) (Q (.returned (vt (aB==11))) I7 F7) (Q (.returned (vt false)) I7 F7)) (Q (.returned (vt false)) I7 F7))) (Q (.returned (vt false)) I7 F7)) (Q (.returned (vt false)) I7 F7)) (Q (.returned (vt false)) I7 F7))) (Q (.returned (vt false)) I7 F7)) (Q (.returned (vt false)) I7 F7)) (Q (.returned (vt false)) I7 F7))) (It false (It (av==111) (It (aw==5) (∃q4:Bool,eH P .eql 31 (.tmp 94) (.const (Value.nilIface)) aA Value.nilIface q4∧(It q4 (It (d.toList==(⟨#[115]⟩:Bs).toList) (It ((a:Int)==1) ((0≤(0:Int)∧(0:Int)<(a:Int))∧∃aJ:Addr,i=some aJ∧∃(m5:Int),Rd I7 ((aq,nO t u v w x y c b e j)::(au,nO k l n o p r f g h s)::(ka az d aj ak al am an ao i a ap)::(ka ay ar z aa ab ac ae af ag ah ai)::F7) ((aJ.add (Int.toNat 0*3)).add 2) [vi m5]∧(It (m5==11) (It (ax==130) (Q (.returned (vt (aB==11))) I7 F7) (Q (.returned (vt false)) I7 F7)) (Q (.returned (vt false)) I7 F7))) (Q (.returned (vt false)) I7 F7)) (Q (.returned (vt false)) I7 F7)) (Q (.returned (vt false)) I7 F7))) (Q (.returned (vt false)) I7 F7)) (Q (.returned (vt false)) I7 F7)) (Q (.returned (vt false)) I7 F7))) (It false (It (av==111) (It (aw==5) (∃q5:Bool,eH P .eql 31 (.tmp 94) (.const (Value.nilIface)) aA Value.nilIface q5∧(It q5 (It (d.toList==(⟨#[115]⟩:Bs).toList) (It ((a:Int)==1) ((0≤(0:Int)∧(0:Int)<(a:Int))∧∃aK:Addr,i=some aK∧∃(m6:Int),Rd I7 ((aq,nO t u v w x y c b e j)::(au,nO k l n o p r f g h s)::(ka az d aj ak al am an ao i a ap)::(ka ay ar z aa ab ac ae af ag ah ai)::F7) ((aK.add (Int.toNat 0*3)).add 2) [vi m6]∧(It (m6==11) (It (ax==130) (Q (.returned (vt (aB==11))) I7 F7) (Q (.returned (vt false)) I7 F7)) (Q (.returned (vt false)) I7 F7))) (Q (.returned (vt false)) I7 F7)) (Q (.returned (vt false)) I7 F7)) (Q (.returned (vt false)) I7 F7))) (Q (.returned (vt false)) I7 F7)) (Q (.returned (vt false)) I7 F7)) (Q (.returned (vt false)) I7 F7))) (It false (It (av==111) (It (aw==5) (∃q6:Bool,eH P .eql 31 (.tmp 94) (.const (Value.nilIface)) aA Value.nilIface q6∧(It q6 (It (d.toList==(⟨#[115]⟩:Bs).toList) (It ((a:Int)==1) ((0≤(0:Int)∧(0:Int)<(a:Int))∧∃aL:Addr,i=some aL∧∃(m7:Int),Rd I7 ((aq,nO t u v w x y c b e j)::(au,nO k l n o p r f g h s)::(ka az d aj ak al am an ao i a ap)::(ka ay ar z aa ab ac ae af ag ah ai)::F7) ((aL.add (Int.toNat 0*3)).add 2) [vi m7]∧(It (m7==11) (It (ax==130) (Q (.returned (vt (aB==11))) I7 F7) (Q (.returned (vt false)) I7 F7)) (Q (.returned (vt false)) I7 F7))) (Q (.returned (vt false)) I7 F7)) (Q (.returned (vt false)) I7 F7)) (Q (.returned (vt false)) I7 F7))) (Q (.returned (vt false)) I7 F7)) (Q (.returned (vt false)) I7 F7)) (Q (.returned (vt false)) I7 F7))) (It false (It (av==111) (It (aw==5) (∃q7:Bool,eH P .eql 31 (.tmp 94) (.const (Value.nilIface)) aA Value.nilIface q7∧(It q7 (It (d.toList==(⟨#[115]⟩:Bs).toList) (It ((a:Int)==1) ((0≤(0:Int)∧(0:Int)<(a:Int))∧∃aM:Addr,i=some aM∧∃(m8:Int),Rd I7 ((aq,nO t u v w x y c b e j)::(au,nO k l n o p r f g h s)::(ka az d aj ak al am an ao i a ap)::(ka ay ar z aa ab ac ae af ag ah ai)::F7) ((aM.add (Int.toNat 0*3)).add 2) [vi m8]∧(It (m8==11) (It (ax==130) (Q (.returned (vt (aB==11))) I7 F7) (Q (.returned (vt false)) I7 F7)) (Q (.returned (vt false)) I7 F7))) (Q (.returned (vt false)) I7 F7)) (Q (.returned (vt false)) I7 F7)) (Q (.returned (vt false)) I7 F7))) (Q (.returned (vt false)) I7 F7)) (Q (.returned (vt false)) I7 F7)) (Q (.returned (vt false)) I7 F7)))
theorem jN.vc  {I:cS}{F:cR}{Q:cZ}  (h:jN.V (fun W a b c d e f g h i j=>(W,Obj.cells #[.string a,.slice b c d,.slice e f g,.slice h i j] 48 (0,0))) (fun k o t n f s a l c q=>.agg #[.int .u8 k,.int .u8 o,.int .u8 t,.int .i64 n,.int .u8 f,.string s,.slice a l c,.int .i64 q]) (fun k o t n f s a l c q=>.cells #[.int .u8 k,.int .u8 o,.int .u8 t,.int .i64 n,.int .u8 f,.string s,.slice a l c,.int .i64 q] 29 (0,0)) (.int .i64) .string .slice .bool I F Q):cX P 5 #[] I F Q :=
 tw (A:=(an [8001,8004,8008,8013,8019,8027,9000,9003,9007,9011,9016,9022,9030,9034] [6,7,10] Bh)) [6,7,10] func5 h
end Go.Lx
namespace Go.Lx
open Go.Vc
def sZ(I:cS)(call:ByteArray)(f:PF)(v:Value):Prop:=(f.e=0→v=.nilIface)∧(f.e≠0→match f.tok with
 | true=>∃u,xC I (⟨#[84,111,107,101,110,115]⟩:ByteArray) f.pos (qz f.e) u∧xC I call f.pos u v
 | false=>xC I call f.pos (qz f.e) v)
theorem sZ.mono{I J:cS}{call:ByteArray}{f:PF}{v:Value}(h:sZ I call f v)(hl:cS.le I J):sZ J call f v:=⟨h.1,fun he=>by
 have h2:=h.2 he
 split at h2
 ·obtain⟨u,h3,h4⟩:=h2;exact⟨u,h3.mono hl,h4.mono hl⟩
 ·exact h2.mono hl⟩
theorem xJ.keep{I:cS}{call:ByteArray}{f:PF}{v:Value}{B X G:cR}{w:World}(h:xJ call f v B)(hw:Sat I (B++(X++G)) w):∃J,cS.le I J∧Sat J G w∧sZ J call f v:=by
 by_cases he:f.e=0
 ·obtain⟨rfl,rfl⟩:=h.1 he
  exact⟨I,cS.le_refl I,Sat.drop (A:=X) hw,fun _=>rfl,fun h=>absurd he h⟩
 ·obtain⟨b,u,B',rfl,hu,rfl⟩:=h.2 he
  obtain⟨l1,s1⟩:=hw.jE
  obtain⟨e,p,tk⟩:=f
  cases tk with
  | false =>
    obtain⟨rfl,rfl⟩:=hu
    exact⟨_,l1,Sat.drop (A:=X) s1,fun h=>absurd h he,fun _=>⟨b,rfl,by simp[cS.put]⟩⟩
  | true =>
    obtain⟨b2,rfl,rfl⟩:=hu
    obtain⟨l2,s2⟩:=s1.jE
    exact⟨_,cS.le_trans l1 l2,Sat.drop (A:=X) s2,fun h=>absurd h he,fun _=>⟨_,⟨b2,rfl,by simp[cS.put]⟩,⟨b,rfl,l2.at (by simp[cS.put])⟩⟩⟩
theorem za(t:ByteArray):(eC t).2.e=0→(eC t).2.pos=0:=fun h=>by
 unfold eC at h ⊢
 simp only at h ⊢
 split at h
 ·rename_i ho
  rw[if_pos ho]
  exact absurd h (by simpa[PS.over] using ho)
 ·rename_i ho
  rw[if_neg ho];rfl
theorem kR{t:ByteArray}(hs:dn t)(I:cS)(F:cR):cX P 6 #[.string t] I F fun e I' G=>∃(n:Nd) (v:Value) (H:cR),e=.returned (.tuple #[n.v,v])∧n.px=(eC t).1∧ef 29 false n H∧sZ I' (⟨#[69,120,112,114]⟩:ByteArray) (eC t).2 v∧G=H++F :=
 (vK hs I F).keep fun e I' G w l hw ⟨n,v,H,B,X,he,hpx,hO,hE,hG⟩=>by
   obtain⟨J,h1,h2,h3⟩:=xJ.keep (X:=X) (G:=H++F) hE (hw.perm (cU fun z=>by have q:=sm hG z;simp only[cY] at q ⊢;omega))
   exact⟨J,_,h1,h2,n,v,H,he,hpx,hO,h3,rfl⟩
theorem ly{t:ByteArray}(hs:dn t)(I:cS)(F:cR):cX P 10 #[.string t] I F fun e I' G=>∃(n:iS) (v:Value) (H:cR),e=.returned (.tuple #[n.v,v])∧n.p=(mR t).1∧oE false n H∧sZ I' (⟨#[83,116,114,97,116,101,103,121]⟩:ByteArray) (mR t).2 v∧G=H++F :=
 (qJ hs I F).keep fun e I' G w l hw ⟨n,v,H,B,X,he,hpx,hO,hE,hG⟩=>by
   obtain⟨J,h1,h2,h3⟩:=xJ.keep (X:=X) (G:=H++F) hE (hw.perm (cU fun z=>by have q:=sm hG z;simp only[cY] at q ⊢;omega))
   exact⟨J,_,h1,h2,n,v,H,he,hpx,hO,h3,rfl⟩
def PF.w(f:PF):Value:=.tuple #[.int .i64 f.e,.int .i64 f.pos]
theorem lY{I:cS}(hg:Gl I){call:ByteArray}{f:PF}(hz:f.e=0→f.pos=0){v:Value}(h:sZ I call f v)(F:cR):cX P 7 #[v] I F (od f.w F):=by
 by_cases he:f.e=0
 ·unfold PF.w
  rw[h.1 he,hz he,he];exact xK I F
 ·have h2:=h.2 he
  split at h2
  ·obtain⟨u,hu,hv⟩:=h2
   obtain⟨b,rfl,hb⟩:=id hv
   exact qK hg hb (fun J hJ G t ty old=>B0 (hg.mono hJ) (hv.mono hJ) (hu.mono hJ)) F
  ·obtain⟨b,rfl,hb⟩:=id h2
   exact qK hg hb (fun J hJ G t ty old=>BZ (hg.mono hJ) (h2.mono hJ)) F
theorem Cc:eC (⟨#[49,32,45,32,50,32,45,32,51]⟩:ByteArray)=(.mk 6 7 0 0 0 ⟨#[]⟩ [.mk 6 7 0 0 0 ⟨#[]⟩ [.mk 1 0 1 1 0 ⟨#[]⟩ [] 0,.mk 1 0 1 2 0 ⟨#[]⟩ [] 4] 2,.mk 1 0 1 3 0 ⟨#[]⟩ [] 8] 6,zF):=by kernel_rfl
theorem Cd:(eC (⟨#[40,49,32,43,32,38]⟩:ByteArray)).2=⟨111,5,true⟩:=by kernel_rfl
theorem Ce:mR (⟨#[115,116,114,97,116,101,103,121,32,115,123,115,116,97,116,101,32,97,123,125,125]⟩:ByteArray)=(⟨(⟨#[115]⟩:ByteArray),[],[],[⟨(⟨#[97]⟩:ByteArray),[],11⟩]⟩,zF):=by kernel_rfl
theorem Cf:(mR (⟨#[115,116,114,97,116,101,103,121,32,115,123,125]⟩:ByteArray)).2=⟨130,11,false⟩:=by kernel_rfl
theorem Cg{n:Nd}{k o ty v f p:Int}{w:ByteArray}{x y:Px}(h:n.px=.mk k o ty v f w [x,y] p):∃a b:Nd,n.kids=[a,b]∧a.px=x∧b.px=y∧n.pos=p:=by
 have hk:=Nd.nD n
 rw[h] at hk
 have hp:n.px.pos=p:=by rw[h];rfl
 have hk:[x,y]=n.kids.map Nd.px:=hk
 match hn:n.kids,hk with
 | [a,b],hk =>
   simp only[List.map_cons,List.map_nil,List.cons.injEq,and_true] at hk
   exact⟨a,b,rfl,hk.1.symm,hk.2.symm,by rw[←hp,Nd.yj]⟩
 | [],hk=>simp at hk
 | [a],hk=>simp at hk
 | a::b::c::r,hk=>simp at hk
theorem s5{I:cS}(hg:Gl I)(F:cR):cX P 5 #[] I F fun e I' G=>e=.returned (.bool true)∧∃X,G.Perm (X++F):=by
 refine jN.vc ?_
 unfold jN.V
 refine (kR (t:=(⟨#[49,32,45,32,50,32,45,32,51]⟩:ByteArray)) (by unfold dn;decide) I F).mono fun e I1 G l1 ⟨n,v,H,he,hpx,hO,hE,hG⟩=>?_
 subst he hG
 rw[Cc] at hpx hE
 obtain⟨ka,kb,hk,hka,hkb,hnp⟩:=Cg hpx
 refine⟨_,_,_,_,_,_,_,_,_,_,_,rfl,H++F,.refl _,fun bn=>?_⟩
 refine cX.ret (lY (hg.mono l1) (fun _=>rfl) hE _) fun I2 l2=>⟨_,_,rfl,_,.refl _, ?_⟩
 have hg2:=hg.mono (cS.le_trans l1 l2)
 refine (kR (t:=(⟨#[40,49,32,43,32,38]⟩:ByteArray)) (by unfold dn;decide) I2 _).mono fun e I3 G l3 ⟨n2,v2,H2,he,hpx2,hO2,hE2,hG⟩=>?_
 subst he hG
 rw[Cd] at hE2
 refine⟨_,_,_,_,_,_,_,_,_,_,_,rfl,H2++(H++F),cU fun z=>by simp only[cW,cY,c6];omega,fun b_=>?_⟩
 refine cX.ret (lY (hg2.mono l3) (fun h=>absurd h (show ¬(111:Int)=0 by decide)) hE2 _) fun I4 l4=>⟨_,_,rfl,_,.refl _, ?_⟩
 have hg4:=hg2.mono (cS.le_trans l3 l4)
 refine (ly (t:=(⟨#[115,116,114,97,116,101,103,121,32,115,123,115,116,97,116,101,32,97,123,125,125]⟩:ByteArray)) (by unfold dn;decide) I4 _).mono fun e I5 G l5 ⟨n3,v3,H3,he,hpx3,hO3,hE3,hG⟩=>?_
 subst he hG
 rw[Ce] at hpx3 hE3
 refine⟨_,_,_,_,_,_,_,_,_,_,_,rfl,H3++(H2++(H++F)),cU fun z=>by simp only[cW,cY,c6];omega,fun bs=>?_⟩
 refine (ly (t:=(⟨#[115,116,114,97,116,101,103,121,32,115,123,125]⟩:ByteArray)) (by unfold dn;decide) I5 _).mono fun e I6 G l6 ⟨n4,v4,H4,he,hpx4,hO4,hE4,hG⟩=>?_
 subst he hG
 rw[Cf] at hE4
 refine⟨_,_,_,_,_,_,_,_,_,_,_,rfl,H4++(H3++(H2++(H++F))),cU fun z=>by simp only[cW,cY,c6];omega,fun b__=>?_⟩
 refine cX.ret (lY (hg4.mono (cS.le_trans l5 l6)) (fun h=>absurd h (show ¬(130:Int)=0 by decide)) hE4 _) fun I7 l7=>⟨_,_,rfl,_,.refl _, ?_⟩
 have hin:∀{Z:cR} x,x∈H→x∈Z++(H4++(H3++(H2++(H++F)))):=fun x hx=>by simp[hx]
 have okn:∀{Z:cR},gL I7 (Z++(H4++(H3++(H2++(H++F))))) n:=fun {Z}=>hO.ok hin
 have hlen:n.kids.length=2:=by rw[hk];rfl
 have zX:∀{Z:cR},∃ad,n.a=some ad∧Rd I7 (Z++(H4++(H3++(H2++(H++F))))) (ad.add (Int.toNat 0*8)) ka.enc:=fun {Z}=>by
  obtain⟨ad,x,had,hx,hr,_,_⟩:=(okn (Z:=Z)).kids.at (i:=0) (by decide) (by rw[hlen];decide)
  have:x=ka:=by
   have h0:n.kids[0]? = some x:=hx
   rw[hk] at h0;exact (Option.some.inj h0).symm
  subst this
  exact⟨ad,had,hr⟩
 have hko:ka.oper=7:=by rw[←Nd.sw,hka];rfl
 have hkp:ka.pos=2:=by rw[←Nd.yj,hka];rfl
 obtain rfl:=hE.1 rfl
 obtain rfl:=hE3.1 rfl
 have hst:n3.states.map dD.p=[⟨(⟨#[97]⟩:ByteArray),[],11⟩]:=by have:n3.p.states=[⟨(⟨#[97]⟩:ByteArray),[],11⟩]:=by { rw[hpx3] };exact this
 have hnm:n3.name=(⟨#[115]⟩:ByteArray):=by have:n3.p.name=(⟨#[115]⟩:ByteArray):=by { rw[hpx3] };exact this
 obtain⟨x,hx,hxp⟩:∃x,n3.states=[x]∧x.pos=11:=by
  match hn:n3.states,hst with
  | [x],h =>
    simp only[List.map_cons,List.map_nil,List.cons.injEq,and_true] at h
    exact⟨x,rfl,by have:x.p.pos=11:=by { rw[h] };exact this⟩
  | [],h=>simp at h
  | x::y::r,h=>simp at h
 have hl3:n3.states.length=1:=by rw[hx];rfl
 have ok3:∀{Z:cR},n3.Ok I7 (Z++(H4++(H3++(H2++(H++F))))):=fun {Z}=>hO3.ok fun y hy=>by simp[hy]
 have st3:∀{Z:cR},∃ad,n3.ta=some ad∧Rd I7 (Z++(H4++(H3++(H2++(H++F))))) (ad.add (Int.toNat 0*3)) x.enc:=fun {Z}=>by
  obtain⟨ad,y,had,hy,hr,_⟩:=pk.C9 (ok3 (Z:=Z)).states (i:=0) (by decide) (by rw[hl3];decide)
  have:y=x:=by
   have h0:n3.states[0]? = some y:=hy
   rw[hx] at h0;exact (Option.some.inj h0).symm
  subst this
  exact⟨ad,had,hr⟩
 refine⟨true,qy (by kernel_rfl),fun _=>⟨fun _=>⟨fun _=>⟨fun _=>⟨fun _=>⟨⟨by decide,by rw[hlen];decide⟩, ?_⟩,fun h=>?_⟩,fun h=>?_⟩,fun h=>absurd h (by decide)⟩,fun h=>absurd h (by decide)⟩,fun h=>absurd h (by decide)⟩
 rotate_left
 ·rw[hlen] at h;exact absurd h (by decide)
 ·rw[hnp] at h;exact absurd h (by decide)
 obtain⟨ad,had,hr⟩:=zX (Z:=[_,_,_,_])
 refine⟨ad,had,_,hr.field (o:=1) rfl,fun _=>⟨⟨by decide,by rw[hlen];decide⟩,ad,had,_,hr.field (o:=7) rfl,fun _=>⟨fun _=>⟨fun _=>⟨true,qy (by kernel_rfl),fun _=>⟨fun _=>⟨fun _=>⟨⟨by decide,by rw[hl3];decide⟩, ?_⟩,fun h=>?_⟩,fun h=>?_⟩,fun h=>absurd h (by decide)⟩,fun h=>absurd h (by decide)⟩,fun h=>absurd h (by decide)⟩,fun h=>?_⟩,fun h=>?_⟩
 rotate_left
 ·rw[hl3] at h;exact absurd h (by decide)
 ·rw[hnm] at h;exact absurd h (by simp)
 ·rw[hkp] at h;exact absurd h (by decide)
 ·rw[hko] at h;exact absurd h (by decide)
 obtain⟨ad2,had2,hr2⟩:=st3 (Z:=[_,_,_,_])
 refine⟨ad2,had2,_,hr2.field (o:=2) rfl,fun _=>⟨fun _=>⟨rfl,H4++(H3++(H2++H)),cU fun z=>by simp only[cY];omega⟩,fun h=>absurd h (by decide)⟩,fun h=>?_⟩
 rw[hxp] at h;exact absurd h (by decide)
theorem uC{I:cS}(hg:Gl I)(F:cR):cX P 5 #[] I F (od (.bool true) F):=cX.clean (s5 hg F)
end Go.Lx
namespace Go.Lx
open Go.Vc Go.Proofs.Tryd
def na:List (Nat×List Sh):=[(4,[.one .bool]),(32,[.agg [(.int .u8),(.int .u8),(.int .u8),(.int .i64),(.int .u8),.str,.slc,(.int .i64)],.one .any]),(35,[.one (.int .i64),.one (.int .i64)])]
def fo.V(nV:Int→Int→Int→Int→Int→Bs→OA→Nat→Nat→Int→Value)(nO:Int→Int→Int→Int→Int→Bs→OA→Nat→Nat→Int→Obj)(vt:Bool→Value)(s:Bs)(I:cS)(F:cR)(Q:cZ)  : Prop:=mM P 5 #[] I (·) F vt fun r I1 F1=>(It (!r) (Q (.returned (vt r)) I1 F1) (Dt ((s.size:Int)>4000) (Q (.returned (vt r)) I1 F1) (tR P 6 #[.string s] I1 (·) F1 fun e2 I2 G2=>∃(g h i j k:Int) (l:Bs) (a:OA) (b c:Nat) (m:Int) (r1:Value),e2=.returned (.tuple #[nV g h i j k l a b c m,r1])∧G2 fun F2=>∀x:Nat,(((((⟨#[40]⟩:Bs).size+s.size:Nat):Int)≤IntKind.i64.max)∧((((((⟨#[40]⟩:Bs)++s).size+(⟨#[10,41]⟩:Bs).size:Nat):Int)≤IntKind.i64.max)∧tR P 6 (#[.string (((⟨#[40]⟩:Bs)++s)++(⟨#[10,41]⟩:Bs))]) I2 ((x,nO g h i j k l a b c m)::·) F2 fun e3 I3 G3=>∃(n o p t u:Int) (v:Bs) (d:OA) (e f:Nat) (w:Int) (z:Value),e3=.returned (.tuple #[nV n o p t u v d e f w,z])∧G3 fun F3=>∀y:Nat,tR P 7 #[z] I3 ((x,nO g h i j k l a b c m)::(y,nO n o p t u v d e f w)::·) F3 fun e4 I4 G4=>∃(r0 aa:Int),e4=.returned (.tuple #[.int .i64 r0,.int .i64 aa])∧G4 fun F4=>∃q:Bool,eH P .neq 31 (.tmp 36) (.const (Value.nilIface)) r1 Value.nilIface q∧(It q (Q (.returned (vt true)) I4 F4) (∃q1:Bool,eH P .neq 31 (.tmp 38) (.const (Value.nilIface)) z Value.nilIface q1∧(It q1 (Q (.returned (vt (r0==132))) I4 F4) (mM P 8 #[nV g h i j k l a b c m,nV n o p t u v d e f w] I4 ((x,nO g h i j k l a b c m)::(y,nO n o p t u v d e f w)::·) F4 vt fun r2 I5 F5=>Q (.returned (vt r2)) I5 F5)))))))))
theorem fo.vc{s:Bs}{I:cS}{F:cR}{Q:cZ}  (h:fo.V (fun k o t n f s a l c q=>.agg #[.int .u8 k,.int .u8 o,.int .u8 t,.int .i64 n,.int .u8 f,.string s,.slice a l c,.int .i64 q]) (fun k o t n f s a l c q=>.cells #[.int .u8 k,.int .u8 o,.int .u8 t,.int .i64 n,.int .u8 f,.string s,.slice a l c,.int .i64 q] 29 (0,0)) .bool s I F Q):cX P 3 #[.string s] I F Q :=
 tw (A:=(an [2001,2005,7001,9001] [5,6,7,8] na)) [5,6,7,8] func3 h
end Go.Lx
namespace Go.Lx
open Go.Vc
theorem sZ.z9{I:cS}{call:ByteArray}{f:PF}{v:Value}(h:sZ I call f v){t:TypeId}(ht:mW P t=true){x:Operand}:eH P .neq t x (.const .nilIface) v .nilIface (f.e != 0):=by
 by_cases he:f.e=0
 ·rw[h.1 he,he];exact zz ht
 ·have h2:=h.2 he
  have:(f.e != 0)=true:=by simpa using he
  rw[this]
  split at h2
  ·obtain⟨u,hu,b,rfl,hb⟩:=h2;exact um ht
  ·obtain⟨b,rfl,hb⟩:=h2;exact um ht
theorem nb(s:ByteArray)(I:cS)(hg:Gl I)(F:cR):cX P 3 #[.string s] I F fun e I' G=>e=.returned (.bool true):=by
 refine fo.vc ?_
 unfold fo.V
 refine cX.ret (uC hg F) fun I1 l1=>⟨_,rfl,F,.refl _,fun h=>absurd h (by decide),fun _=>⟨fun _=>rfl,fun h=>?_⟩⟩
 have h:(s.size:Int)≤4000:=by have:=of_decide_eq_false h;omega
 have hs:dn s:=by unfold dn;omega
 have hz:=qx s
 have hzs:dn (qL s):=by unfold dn;omega
 have hmax:(IntKind.i64.max)=9223372036854775807:=rfl
 refine (kR hs I1 F).mono fun e I2 G l2 ⟨n,v,H,he,hpx,hO,hE,hG⟩=>?_
 subst he hG
 have h1:((⟨#[40]⟩:ByteArray).size+s.size:Nat)=((⟨#[40]⟩:ByteArray)++s).size:=(ByteArray.size_append ..).symm
 have h2:(((⟨#[40]⟩:ByteArray)++s).size+(⟨#[10,41]⟩:ByteArray).size:Nat)=(qL s).size:=(ByteArray.size_append ..).symm
 have h40:(⟨#[40]⟩:ByteArray).size=1:=rfl
 refine⟨_,_,_,_,_,_,_,_,_,_,_,rfl,H++F,.refl _,fun b_n=>⟨by rw[h40,hmax];omega,by rw[h2,hmax];omega, ?_⟩⟩
 refine (kR hzs I2 _).mono fun e I3 G l3 ⟨n2,v2,H2,he,hpx2,hO2,hE2,hG⟩=>?_
 subst he hG
 refine⟨_,_,_,_,_,_,_,_,_,_,_,rfl,H2++(H++F),(cU fun z=>by simp only[cY,cW,c6];omega),fun b_m=>?_⟩
 refine cX.ret (lY (hg.mono (cS.le_trans l1 (cS.le_trans l2 l3))) (za (qL s)) hE2 _) fun I4 l4=>⟨_,_,rfl,H2++(H++F),.refl _, ?_⟩
 refine⟨_,(hE.mono (cS.le_trans l3 l4)).z9 (by kernel_rfl),fun _=>rfl,fun h0=>⟨_,(hE2.mono l4).z9 (by kernel_rfl),fun h3=>?_,fun h3=>?_⟩⟩
 ·have h0:(eC s).2.e=0:=by simpa using h0
  have h3:(eC (qL s)).2.e≠0:=by simpa using h3
  rcases mq h h0 with h4 | h4
  ·rw[h4];rfl
  ·exact absurd h4.1 h3
 ·have h0:(eC s).2.e=0:=by simpa using h0
  have h3:(eC (qL s)).2.e=0:=by simpa using h3
  rcases mq h h0 with h4 | ⟨_,h4⟩
  ·rw[h4] at h3;exact absurd h3 (by decide)
  have hsh:n.px.fs:=by rw[hpx];exact sI hs
  refine cX.ret (xb n hsh n2 I4 _ (hO.ok fun a ha=>by simp only[List.mem_cons,List.mem_append];simp only[ha,true_or,or_true]) (hO2.ok fun a ha=>by simp only[List.mem_cons,List.mem_append];simp only[ha,true_or,or_true])) fun I5 l5=>⟨_,rfl,H2++(H++F),.refl _, ?_⟩
  have:n.px.qY n2.px=true:=by rw[hpx,hpx2,←Px.xj,h4,Px.xi]
  rw[this]
end Go.Lx
namespace Go.Vc
open Go.ChangeShapes Go.WideShapes Go.ChangeAt Go.RowKit
theorem jL.cell{w w':World}(h:jL w w'){a:Addr}(ha:a.block<w.heap.size):w'.cell? a=w.cell? a:=by
 unfold World.cell?;rw[h.heap _ ha]
theorem jL.same{w w':World}(h:jL w w'){p:MemPlace}(hp:p.block<w.heap.size):w.sameAt w' p:=by
 cases p with
 | cell b off=>exact h.cell (a:=⟨b,off,none⟩) hp
 | map b=>exact h.heap b hp
theorem mv{H:Type}{enc:TypeId×Value→H}{P:Program}{T:TypeId→Prop}{w w':World}(K:Kids P T)(hsz:∀{t e:TypeId},T t→P.underlying t=some (.slice e)→0<P.cellsOf e)(st:jL w w'){sp':Nat→Bool} :
  ∀{ts:List TypeId} {vs:List Value} {ds:List (DataW H)} {ps:List MemPlace},(∀t∈ts,T t)→DataW.TrodAll enc P w 0 (fun _=>true) true ts vs ds ps→(∀p∈ps,sp' p.block=true)→DataW.TrodAll enc P w' 0 sp' true ts vs ds ps
 | [],[],[],ps,_,h,_=>h
 | t::ts,v::vs,d::ds,ps,ht,⟨p,q,⟨n,h1⟩,h2,e⟩,hs=>by
   subst e
   have hlt:∀x∈p,x.block<w.heap.size:=DataW.trod_lt n t v.cells.toList (d,p) h1
   refine⟨p,q,⟨n, ?_⟩,mv K hsz st (fun t' ht'=>ht t' (List.mem_cons_of_mem _ ht')) h2 (fun x hx=>hs x (List.mem_append_right _ hx)),rfl⟩
   exact DataW.trod_stays K hsz (fun h=>by cases h) (ht t (List.mem_cons_self ..)) h1 (fun x hx=>st.same (hlt x hx)) (fun x hx=>hs x (List.mem_append_left _ hx))
 | [],_::_,_,_,_,h,_=>h.elim
 | [],[],_::_,_,_,h,_=>h.elim
 | _::_,[],_,_,_,h,_=>h.elim
 | _::_,_::_,[],_,_,h,_=>h.elim
end Go.Vc
