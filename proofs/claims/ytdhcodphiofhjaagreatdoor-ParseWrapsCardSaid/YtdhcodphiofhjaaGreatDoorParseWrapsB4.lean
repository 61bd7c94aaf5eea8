import Derived.Test.YtdhcodphiofhjaaGreatDoorParseWrapsB3
set_option linter.unusedVariables false
set_option linter.unusedSimpArgs false
set_option linter.unusedSectionVars false
set_option maxRecDepth 100000
namespace Go.Lx
open Go.Vc
theorem fo:fq.px=gA:=by simp only[fq,Nd.px,Nd.oF];rfl
theorem ee{I:cS}{G:cR}:eb I G fq:=.leaf
theorem eb.up{I J:cS}{G:cR}{t:Nd}(h:eb I G t)(hl:cS.le I J):eb J G t:=h.mono hl fun _ h=>h
def vR:List Int:=[1,3,4,5]
theorem yS{q:PQ}:sw 142 fO.v fO.p uL q q.c.kZ:=by
 intro b s I F F0 hq hsn hF
 have hl:=hq.len
 unfold PC.kZ
 have ht:=(Up.take (c:=q.c) (s:=s) (⟨#[115,117,98,109,105,116]⟩:ByteArray)).2 hsn
 generalize hta:q.c.take (⟨#[115,117,98,109,105,116]⟩:ByteArray) s=ta at ht ⊢
 refine fg.vc ?_
 unfold fg.V
 intro b2
 refine (ec hq _ ((hF.cons _).trans kl)).mono fun e I1 G l1 ⟨he,hG⟩=>⟨_,he,q.c7 b ta.2::F0,by rw[hta] at hG;exact hG.trans kl,fun b_d=>?_⟩
 rw[hta]
 have hq1:=hq.mono l1
 have hx2:=(Up.eJ (c:=q.c) ta.2).2 ht
 refine (qR b ta.2 I1 _ _ hq1 ht dO).mono fun e I2 G l2 ⟨x,he,px,okx,hG⟩=>?_
 refine⟨_,_,_,_,_,_,_,_,_,_,he,q.c7 b (q.c.eJ ta.2).2::F0,hG.trans dO.symm, ?_⟩
 rw[←px]
 generalize (q.c.eJ ta.2).2=s2 at hx2 ⊢
 unfold PC.tb
 have hq2:=hq1.mono l2
 have hx3:=(Up.take (c:=q.c) (s:=s2) (⟨#[111,102]⟩:ByteArray)).2 hx2
 refine (ec hq2 _ (s:=s2) dO).mono fun e I3 G l3 ⟨he,hG⟩=>⟨_,he,q.c7 b (q.c.take (⟨#[111,102]⟩:ByteArray) s2).2::F0,hG.trans dO.symm, ?_⟩
 generalize (q.c.take (⟨#[111,102]⟩:ByteArray) s2).2=s3 at hx3 ⊢
 have hq3:=hq2.mono l3
 have hx4:=(Up.eJ (c:=q.c) s3).2 hx3
 refine (qR b s3 I3 _ _ hq3 hx3 dO).mono fun e I4 G l4 ⟨y,he,py,oky,hG⟩=>?_
 refine⟨_,_,_,_,_,_,_,_,_,_,he,q.c7 b (q.c.eJ s3).2::F0,hG.trans dO.symm, ?_⟩
 rw[←py]
 generalize (q.c.eJ s3).2=s4 at hx4 ⊢
 have hq4:=hq3.mono l4
 intro b3 I5 l5 hb3
 have hq5:=hq4.mono l5
 unfold PC.n6
 refine cU.ret (ln hq5 (Sl.words (ws:=tH) hb3 rfl) (by decide) (s:=s4) (.tail _ (.tail _ (.head _)))) fun I6 l6=>⟨_,rfl,q.c7 b s4::F0,.refl _,fun ha=>?_,fun ha=>?_⟩
 ·have ha:=of_decide_eq_true ha
  refine (fB (hq5.mono l6) 130 (s:=s4) dO).mono fun e I7 G l7 ⟨he,hG⟩=>⟨he,q.c7 b (q.c.c5 130 s4)::F0,hG.trans dO.symm, ?_⟩
  rw[if_pos ha]
  refine⟨⟨1,0,⟨#[]⟩,x,y,fq,fq,ta.1⟩,rfl,by simp only[fO.p,fo],⟨okx.up ?_,oky.up ?_,ee,ee⟩,.refl _⟩
  ·exact cS.le_trans l3 (cS.le_trans l4 (cS.le_trans l5 (cS.le_trans l6 l7)))
  ·exact cS.le_trans l5 (cS.le_trans l6 l7)
 have ha:=of_decide_eq_false ha
 rw[if_neg ha]
 have hlt:=(dt (Int.not_lt.1 ha)).1
 have hq6:=hq5.mono l6
 have okx6:=okx.up (cS.le_trans l3 (cS.le_trans l4 (cS.le_trans l5 l6)))
 have oky6:=oky.up (cS.le_trans l5 l6)
 refine⟨_,rfl,_,PQ.rd (k:=3) (.tail _ (.tail _ (.head _))) rfl,_,rfl,q.cl s4,96,F0,.refl _,PQ.spot _ _,by rw[PQ.off];exact (by decide:3+1≤7), ?_⟩
 rw[PQ.eD (by omega)]
 refine⟨fun h1=>?_,fun h1=>?_⟩
 ·have h1:q.c.any tH s4=1:=by simpa using h1
  rw[if_pos h1]
  have hx7:=(Up.eJ (c:=q.c) s4.inc).2 hlt
  refine (qR b s4.inc I6 _ _ hq6 hlt dO).mono fun e I7 G l7 ⟨z,he,pz,okz,hG⟩=>?_
  refine⟨_,_,_,_,_,_,_,_,_,_,he,q.c7 b (q.c.eJ s4.inc).2::F0,hG.trans dO.symm, ?_⟩
  rw[←pz]
  generalize (q.c.eJ s4.inc).2=s7 at hx7 ⊢
  have hq7:=hq6.mono l7
  intro b4 I8 l8 hb4
  have hq8:=hq7.mono l8
  unfold PC.oM
  refine cU.ret (ln hq8 (Sl.words (ws:=eI) hb4 rfl) (by decide) (s:=s7) (.tail _ (.tail _ (.head _)))) fun I9 l9=>⟨_,rfl,q.c7 b s7::F0,.refl _,fun hb=>?_,fun hb=>?_⟩
  ·have hb:=of_decide_eq_true hb
   refine (fB (hq8.mono l9) 130 (s:=s7) dO).mono fun e I10 G l10 ⟨he,hG⟩=>⟨he,q.c7 b (q.c.c5 130 s7)::F0,hG.trans dO.symm, ?_⟩
   rw[if_pos hb]
   exact⟨⟨1,2,⟨#[]⟩,x,y,z,fq,ta.1⟩,rfl,by simp only[fO.p,fo],⟨okx6.up (cS.le_trans l7 (cS.le_trans l8 (cS.le_trans l9 l10))),oky6.up (cS.le_trans l7 (cS.le_trans l8 (cS.le_trans l9 l10))),okz.up (cS.le_trans l8 (cS.le_trans l9 l10)),ee⟩,.refl _⟩
  have hb:=of_decide_eq_false hb
  rw[if_neg hb]
  have hlt7:=(dt (Int.not_lt.1 hb)).1
  have hb4':q.c.any eI s7<4:=(dt (Int.not_lt.1 hb)).2
  have hq9:=hq8.mono l9
  refine⟨_,rfl,_,PQ.rd (k:=3) (.tail _ (.tail _ (.head _))) rfl,_,rfl,q.cl s7,96,F0,.refl _,PQ.spot _ _,by rw[PQ.off];exact (by decide:3+1≤7), ?_⟩
  rw[PQ.eD (by omega)]
  intro b5 I10 l10 hb5
  have hq10:=hq9.mono l10
  have hS:Sl I10 1 xB (some ⟨b5,0,none⟩) 4 vR:=Sl.g8 (f:=xB) (z:=1) (l:=vR) (fun _=>rfl) hb5 rfl
  obtain⟨ad,k,had,hk,hr⟩:=hS.at (Int.not_lt.1 hb) hb4'
  have hko:k=if q.c.any eI s7=0 then 1 else 2+q.c.any eI s7:=by
   have h0:=Int.not_lt.1 hb
   generalize q.c.any eI s7=r at h0 hb4' hk ⊢
   have:r=0∨r=1∨r=2∨r=3:=by omega
   rcases this with rfl | rfl | rfl | rfl<;>simp[vR] at hk<;>subst hk<;>rfl
  rw[←hko]
  refine⟨⟨Int.not_lt.1 hb,hb4'⟩,ad,had,k,hr _, ?_⟩
  unfold PC.mq PC.iQ
  have okx10:=okx6.up (cS.le_trans l7 (cS.le_trans l8 (cS.le_trans l9 l10)))
  have oky10:=oky6.up (cS.le_trans l7 (cS.le_trans l8 (cS.le_trans l9 l10)))
  have okz10:=okz.up (cS.le_trans l8 (cS.le_trans l9 l10))
  refine cU.ret (nh hq10 _ (s:=s7.inc) (.tail _ (.tail _ (.head _)))) fun I11 l11=>⟨_,rfl,q.c7 b s7.inc::F0,.refl _,fun hw=>?_,fun hw=>?_⟩
  ·have hltw:=ew hw
   rw[if_pos hw]
   refine⟨_,rfl,_,PQ.rd (k:=3) (.tail _ (.tail _ (.head _))) rfl,_,rfl,q.cl s7.inc,96,F0,.refl _,PQ.spot _ _,by rw[PQ.off];exact (by decide:3+1≤7), ?_⟩
   rw[PQ.eD (s:=s7.inc) (by omega)]
   refine (ni (hq10.mono l11) (s:=s7.inc.inc) dO).mono fun e I12 G l12 ⟨he,hG⟩=>⟨_,he,q.c7 b (q.c.name s7.inc.inc).2::F0,hG.trans dO.symm, ?_⟩
   exact⟨⟨1,k,(q.c.name s7.inc.inc).1,x,y,z,fq,ta.1⟩,rfl,by simp only[fO.p,fo],⟨okx10.up (cS.le_trans l11 l12),oky10.up (cS.le_trans l11 l12),okz10.up (cS.le_trans l11 l12),ee⟩,.refl _⟩
  ·rw[if_neg (by simp[hw])]
   exact⟨⟨1,k,⟨#[]⟩,x,y,z,fq,ta.1⟩,rfl,by simp only[fO.p,fo],⟨okx10.up l11,oky10.up l11,okz10.up l11,ee⟩,.refl _⟩
 ·have h1:q.c.any tH s4≠1:=by simpa using h1
  rw[if_neg h1]
  unfold PC.mq PC.iQ
  refine cU.ret (nh hq6 _ (s:=s4.inc) (.tail _ (.tail _ (.head _)))) fun I11 l11=>⟨_,rfl,q.c7 b s4.inc::F0,.refl _,fun hw=>?_,fun hw=>?_⟩
  ·have hltw:=ew hw
   rw[if_pos hw]
   refine⟨_,rfl,_,PQ.rd (k:=3) (.tail _ (.tail _ (.head _))) rfl,_,rfl,q.cl s4.inc,96,F0,.refl _,PQ.spot _ _,by rw[PQ.off];exact (by decide:3+1≤7), ?_⟩
   rw[PQ.eD (s:=s4.inc) (by omega)]
   refine (ni (hq6.mono l11) (s:=s4.inc.inc) dO).mono fun e I12 G l12 ⟨he,hG⟩=>⟨_,he,q.c7 b (q.c.name s4.inc.inc).2::F0,hG.trans dO.symm, ?_⟩
   exact⟨⟨1,2,(q.c.name s4.inc.inc).1,x,y,fq,fq,ta.1⟩,rfl,by simp only[fO.p,fo],⟨okx6.up (cS.le_trans l11 l12),oky6.up (cS.le_trans l11 l12),ee,ee⟩,.refl _⟩
  ·rw[if_neg (by simp[hw])]
   exact⟨⟨1,2,⟨#[]⟩,x,y,fq,fq,ta.1⟩,rfl,by simp only[fO.p,fo],⟨okx6.up l11,oky6.up l11,ee,ee⟩,.refl _⟩
theorem Ct{q:PQ}:sw 127 fO.v fO.p uL q q.c.do:=by
 intro b s I F F0 hq hsn hF
 have hl:=hq.len
 have hm:q.c7 b s∈F:=hF.mem_iff.2 (.head _)
 refine ia.vc ?_
 unfold ia.V
 intro b2
 unfold PC.do
 refine cU.ret (jh hq (.tail _ hm)) fun I1 l1=>⟨_,_,_,_,_,rfl,F,.refl _,fun b3 I2 l2 hb3=>?_⟩
 have hq2:=(hq.mono l1).mono l2
 refine cU.ret (ln hq2 (Sl.words (ws:=qM) hb3 rfl) (by decide) (s:=s) (.tail _ hm)) fun I3 l3=>⟨_,rfl,F,.refl _,fun ha=>?_,fun ha=>?_⟩
 ·have ha:=of_decide_eq_true ha
  refine (fB (hq2.mono l3) 130 ((hF.cons _).trans kl)).mono fun e I7 G l7 ⟨he,hG⟩=>⟨he,q.c7 b (q.c.c5 130 s)::F0,hG.trans kl, ?_⟩
  rw[if_pos ha]
  exact⟨⟨0,0,⟨#[]⟩,fq,fq,fq,fq,0⟩,rfl,by simp only[fO.p,fo];rfl,⟨ee,ee,ee,ee⟩,.refl _⟩
 have ha:=of_decide_eq_false ha
 rw[if_neg ha]
 have hab:=mG (Int.not_lt.1 ha) (by decide)
 have hlt:=(dt (Int.not_lt.1 ha)).1
 have hq3:=hq2.mono l3
 refine⟨fun h0=>?_,fun h0=>?_⟩
 ·have h0:q.c.any qM s=0:=by simpa using h0
  rw[if_pos h0]
  refine (yS b s I3 _ _ hq3 hsn ((hF.cons _).trans kl)).mono fun e I4 G l4 ⟨d,he,pd,okd,hG⟩=>?_
  exact⟨_,_,_,_,_,_,_,_,_,_,_,_,_,_,_,_,_,_,_,_,_,_,_,_,_,_,_,_,_,_,_,_,_,_,_,_,_,_,_,_,_,_,_,_,he,q.c7 b (q.c.kZ s).2::F0,hG.trans kl,d,rfl,pd,okd,.refl _⟩
 have h0:q.c.any qM s≠0:=by simpa using h0
 rw[if_neg h0]
 refine⟨_,rfl,_,PQ.rd (k:=3) (.tail _ hm) rfl,_,rfl,q.cl s,96,F0,hF,PQ.spot _ _,by rw[PQ.off];exact (by decide:3+1≤7), ?_⟩
 rw[PQ.eD (by omega),w8 (n:=q.c.any qM s) (by omega),w8 (n:=1+q.c.any qM s) (by omega)]
 generalize hk:q.c.any qM s=k at ha hab h0 ⊢
 intro b_d
 refine⟨fun h6=>?_,fun h6=>?_⟩
 ·have h6:1+k≠6:=by simpa using h6
  rw[if_neg (by omega)]
  have hn:=(Up.name (c:=q.c) (s:=s.inc)).2 hlt
  refine (ni hq3 (s:=s.inc) dO).mono fun e I4 G l4 ⟨he,hG⟩=>⟨_,he,q.c7 b (q.c.name s.inc).2::F0,hG.trans dO.symm, ?_⟩
  generalize q.c.name s.inc=n at hn ⊢
  have hq4:=hq3.mono l4
  unfold PC.uF
  refine⟨fun h2=>?_,fun h2=>?_⟩
  ·have h2:1+k=2:=by simpa using h2
   rw[if_pos h2]
   have h5:=(Up.take (c:=q.c) (s:=n.2) (⟨#[116,111]⟩:ByteArray)).2 hn
   refine (ec hq4 _ (s:=n.2) dO).mono fun e I5 G l5 ⟨he,hG⟩=>⟨_,he,q.c7 b (q.c.take (⟨#[116,111]⟩:ByteArray) n.2).2::F0,hG.trans dO.symm, ?_⟩
   generalize (q.c.take (⟨#[116,111]⟩:ByteArray) n.2).2=s5 at h5 ⊢
   have hq5:=hq4.mono l5
   have h6':=(Up.eJ (c:=q.c) s5).2 h5
   refine (qR b s5 I5 _ _ hq5 h5 dO).mono fun e I6 G l6 ⟨x,he,px,okx,hG⟩=>?_
   refine⟨_,_,_,_,_,_,_,_,_,_,he,q.c7 b (q.c.eJ s5).2::F0,hG.trans dO.symm, ?_⟩
   rw[←px]
   generalize (q.c.eJ s5).2=s6 at h6' ⊢
   have hq6:=hq5.mono l6
   unfold PC.zq
   have h7:=(Up.take (c:=q.c) (s:=s6) (⟨#[97,116]⟩:ByteArray)).2 h6'
   refine (ec hq6 _ (s:=s6) dO).mono fun e I7 G l7 ⟨he,hG⟩=>⟨_,he,q.c7 b (q.c.take (⟨#[97,116]⟩:ByteArray) s6).2::F0,hG.trans dO.symm, ?_⟩
   generalize (q.c.take (⟨#[97,116]⟩:ByteArray) s6).2=s7 at h7 ⊢
   refine (qR b s7 I7 _ _ (hq6.mono l7) h7 dO).mono fun e I8 G l8 ⟨y,he,py,oky,hG⟩=>?_
   refine⟨_,_,_,_,_,_,_,_,_,_,he,q.c7 b (q.c.eJ s7).2::F0,hG.trans dO.symm, ?_⟩
   rw[←py]
   refine⟨fun h4=>?_,fun h4=>?_⟩
   ·exfalso
    have h4:1+k=4:=by simpa using h4
    omega
   ·rw[h2]
    exact⟨⟨2,0,n.1,fq,x,y,fq,(q.c.now s).pos⟩,rfl,by simp only[fO.p,fo],⟨ee,okx.up (cS.le_trans l7 l8),oky,ee⟩,.refl _⟩
  ·have h2:1+k≠2:=by simpa using h2
   rw[if_neg h2]
   refine⟨fun h4=>?_,fun h4=>?_⟩
   ·have h4:1+k=4:=by simpa using h4
    rw[if_pos h4]
    unfold PC.BA
    have h5:=(Up.take (c:=q.c) (s:=n.2) (⟨#[61]⟩:ByteArray)).2 hn
    refine (ec hq4 _ (s:=n.2) dO).mono fun e I5 G l5 ⟨he,hG⟩=>⟨_,he,q.c7 b (q.c.take (⟨#[61]⟩:ByteArray) n.2).2::F0,hG.trans dO.symm, ?_⟩
    generalize (q.c.take (⟨#[61]⟩:ByteArray) n.2).2=s5 at h5 ⊢
    have hq5:=hq4.mono l5
    refine (qR b s5 I5 _ _ hq5 h5 dO).mono fun e I6 G l6 ⟨x,he,px,okx,hG⟩=>?_
    refine⟨_,_,_,_,_,_,_,_,_,_,he,q.c7 b (q.c.eJ s5).2::F0,hG.trans dO.symm, ?_⟩
    rw[←px,h4]
    exact⟨⟨4,0,n.1,fq,fq,fq,x,(q.c.now s).pos⟩,rfl,by simp only[fO.p,fo],⟨ee,ee,ee,okx⟩,.refl _⟩
   ·have h4:1+k≠4:=by simpa using h4
    rw[if_neg h4]
    exact⟨⟨1+k,0,n.1,fq,fq,fq,fq,(q.c.now s).pos⟩,rfl,by simp only[fO.p,fo],⟨ee,ee,ee,ee⟩,.refl _⟩
 ·have h6:1+k=6:=by simpa using h6
  rw[if_pos (by omega)]
  unfold PC.uF
  rw[if_neg (by decide),if_neg (by decide)]
  refine⟨fun h2=>?_,fun h2=>⟨fun h4=>?_,fun h4=>?_⟩⟩
  ·exfalso
   have h2:1+k=2:=by simpa using h2
   omega
  ·exfalso
   have h4:1+k=4:=by simpa using h4
   omega
  ·rw[h6]
   exact⟨⟨6,0,⟨#[]⟩,fq,fq,fq,fq,(q.c.now s).pos⟩,rfl,by simp only[fO.p,fo],⟨ee,ee,ee,ee⟩,.refl _⟩
theorem uM{α:Type}{z:Nat}{f:α→List Value}(hz:∀x,(f x).length=z){t ty e:TypeId}{zv:Value}{by':Nat}(ht:P.underlying t=some (.slice e))(hi:(P.info? e).map (fun i=>(i.zero,i.size,i.bytes))=some (some zv,z,by'))(hzs:zv.cells.size=z)(hb:1≤by')(hb2:by'≤1000)
  {a:Option Addr} {n c b1:Nat} {l:List α} {A F R:cR} {I:cS} {o:Obj} (hA:Acc z f e a n c l A) (hl:l.length≤100) (x:α) (h1:∀u∈f x,u.oneCell'=true) (hbm:I b1=some o) (ho:o=.cells (f x).toArray e (0,0)) (hF:F.Perm (A++R)) :
  dC P (Builtin.append_ #[t,t] ty #[.slice a n c,.slice (some ⟨b1,0,none⟩) 1 1]) I F fun v I' G=>∃a' n' c' A',v=.slice a' n' c'∧Acc z f e a' n' c' (l++[x]) A'∧G.Perm (A'++R):=by
 subst ho
 have hfit:(l.length+1)*by'≤101*1000:=Nat.mul_le_mul (by omega) hb2
 refine dC.perm (dC.mono (jl hz ht hi hzs hb hA (xs:=[x]) (fun y hy=>by rw[List.mem_singleton] at hy;subst hy;exact h1) (by simp) rfl ?_ (by show (l.length+1)*by'≤_;omega) (F:=R)) fun v I' G _ ⟨a',n',c',A',h1,h2,h3,_⟩=>⟨a',n',c',A',h1,h2,by rw[h3]⟩) hF
 exact⟨rfl,_,_,_,.inl hbm,fun j hj=>by simp⟩
section
variable {N Pl:Type} (z:Nat) (f:N→List Value) (E:Nat) (p:N→Pl) (ok:cS→N→Prop) (q:PQ) (b:Nat) (w:ByteArray) (most:Nat) (one:PS→Pl×PS) (s0:PS) (F0:cR)
def mr(a:Option Addr)(n c m:Nat)(I:cS)(F:cR):Prop:=q.ok I∧∃(ks:List N) (A:cR) (s':PS),Acc z f E a n c ks A∧(∀k∈ks,ok I k)∧F.Perm (q.c7 b s'::(A++F0))∧s'.next≤q.c.l.length∧ks.length≤most∧m=most-ks.length∧q.c.list w most one s0=q.c.eR w most one (most-ks.length) (ks.map p) s'
def mu(a:Option Addr)(n c:Nat)(I:cS)(F:cR):Prop:=q.ok I∧∃(ks:List N) (A:cR),Acc z f E a n c ks A∧(∀k∈ks,ok I k)∧F.Perm (q.c7 b (q.c.list w most one s0).2::(A++F0))∧(q.c.list w most one s0).1=ks.map p∧(q.c.list w most one s0).2.next≤q.c.l.length
end
section
variable {N Pl:Type} {z:Nat} {f:N→List Value} {E:Nat} {p:N→Pl} {ok:cS→N→Prop} {q:PQ} {b:Nat} {w:ByteArray} {most:Nat} {one:PS→Pl×PS} {s0:PS} {F0:cR} {I J:cS} {F:cR}
theorem mr.start(hq:q.ok I)(hs:s0.next≤q.c.l.length)(hF:F.Perm (q.c7 b s0::F0)):mr z f E p ok q b w most one s0 F0 none 0 0 most I F :=
 ⟨hq,[],[],s0,Acc.nil,fun k hk=>(by cases hk),hF,hs,Nat.zero_le _,rfl,rfl⟩
theorem vS{c:PC}{l:List Pl}{s:PS}(h:c.dS w s=false):∀m,c.eR w most one m l s=(l,s)
 | 0=>by rw[PC.eR,if_neg (by simp[h])]
 | m+1=>by rw[PC.eR,if_neg (by simp[h])]
theorem vT{c:PC}{l:List Pl}{s:PS}(h:c.dS w s=true)(ho:(c.many l.length most s).over=true):∀m,c.eR w most one m l s=(l,c.many l.length most s)
 | 0=>by rw[PC.eR,if_pos h]
 | m+1=>by rw[PC.eR,if_pos h,if_pos ho]
end
theorem zL(x:dH):∀u∈x.enc,u.oneCell'=true:=by
 intro u hu
 simp only[dH.enc,List.mem_cons,List.not_mem_nil,or_false] at hu
 rcases hu with h | h | h | h | h | h | h | h | h | h | h<;>(subst h;rfl)
theorem yT(x:dr):∀u∈x.enc,u.oneCell'=true:=by
 intro u hu
 simp only[dr.enc,List.mem_cons,List.not_mem_nil,or_false] at hu
 rcases hu with h | h<;>(subst h;rfl)
theorem xL(x:da):∀u∈x.enc,u.oneCell'=true:=by
 intro u hu
 simp only[da.enc,List.mem_cons,List.not_mem_nil,or_false] at hu
 rcases hu with h | h | h<;>(subst h;rfl)
theorem yU(x:dm):∀u∈x.enc,u.oneCell'=true:=by
 intro u hu
 simp only[dm.enc,List.mem_cons,List.not_mem_nil,or_false] at hu
 rcases hu with h | h | h | h | h | h | h | h | h | h<;>(subst h;rfl)
theorem AU(x:fO):∀u∈x.enc,u.oneCell'=true:=by
 have h:x.enc.all (fun u=>u.oneCell')=true:=rfl
 exact fun u hu=>List.all_eq_true.1 h u hu
end Go.Lx
namespace Go.Lx
open Go.Vc
section
variable {c:PC}
theorem Up.gV:∀(m:Nat) (l:List mo),dT c (c.gV m l)
 | 0,l=>fun s=>.refl
 | m+1,l=>fun s=>by
   rw[PC.gV]
   have h1:=Up.do (c:=c) s
   split
   ·rename_i hw
    have hlt:=ew hw
    split
    ·exact h1.trans (.many _ _)
    ·rename_i hm
     obtain⟨_,he⟩:=j8 hlt (by simpa using hm)
     rw[he]
     exact h1.trans ((Up.inc hlt).trans (Up.gV m _ _))
   ·exact h1
theorem Up.gW:dT c c.gW:=fun s=>(Up.take _).trans ((Up.eJ _).trans ((Up.take _).trans ((Up.gV 8 [] _).trans (Up.take _))))
theorem Up.eR{α:Type}{w:ByteArray}{most:Nat}{one:PS→α×PS}(h:dT c one):∀(m:Nat) (l:List α),dT c (c.eR w most one m l)
 | 0,l=>fun s=>by
   rw[PC.eR]
   show Up c s (if c.dS w s then c.many l.length most s else s)
   split
   ·exact .many _ _
   ·exact .refl
 | m+1,l=>fun s=>by
   rw[PC.eR]
   split
   ·rename_i hw
    have hlt:=ew hw
    split
    ·exact .many _ _
    ·rename_i hm
     obtain⟨_,he⟩:=j8 hlt (by simpa using hm)
     rw[he]
     exact (h s).trans (Up.eR h m _ _)
   ·exact .refl
theorem Up.list{α:Type}{w:ByteArray}{most:Nat}{one:PS→α×PS}(h:dT c one):dT c (c.list w most one):=Up.eR h most []
theorem Up.state:dT c c.state:=fun s=>(Up.take _).trans (Up.name.trans ((Up.take _).trans ((Up.list Up.gW _).trans (Up.take _))))
theorem Up.slot:dT c c.slot:=fun s=>(Up.take _).trans (Up.name.trans (Up.take _))
end
section
variable {N Pl:Type} {z:Nat} {f:N→List Value} {E:Nat} {p:N→Pl} {ok:cS→N→Prop} {q:PQ} {b:Nat} {w:ByteArray} {most:Nat} {one:PS→Pl×PS} {s0:PS} {F0:cR} {I J:cS} {F:cR} {a:Option Addr} {n c m:Nat}
theorem mr.next(hmono:∀I J x,cS.le I J→ok I x→ok J x){ks:List N}{A:cR}{s':PS}(hm:dT q.c one)(hA:Acc z f E a n c ks A)(hks:∀k∈ks,ok I k)(hsn:s'.next≤q.c.l.length)(hr:q.c.list w most one s0=q.c.eR w most one (most-ks.length) (ks.map p) s')(hw:q.c.dS w s'=true)(ho:(q.c.many ks.length most s').over=false)
  {x:N} (hx:p x=(one s').1) (hok:ok J x) (hl:cS.le I J) (hq:q.ok J) {a':Option Addr} {n' c':Nat} {A':cR} (hA':Acc z f E a' n' c' (ks++[x]) A') (hF:F.Perm (q.c7 b (one s').2::(A'++F0))) :
  mr z f E p ok q b w most one s0 F0 a' n' c' (most-(ks.length+1)) J F:=by
 obtain⟨hlt,he⟩:=j8 (ew hw) ho
 obtain⟨j,hj⟩:∃j,most-ks.length=j+1:=⟨most-ks.length-1,by omega⟩
 refine⟨hq,ks++[x],A',(one s').2,hA',fun k hk=>?_,hF,(hm _).2 hsn,by rw[List.length_append,List.length_singleton];omega,by rw[List.length_append,List.length_singleton], ?_⟩
 ·rcases List.mem_append.1 hk with hk | hk
  ·exact hmono _ _ _ hl (hks k hk)
  ·rw[List.mem_singleton] at hk;subst hk;exact hok
 ·rw[hr,hj,PC.eR,if_pos hw,List.length_map,if_neg (by simp[ho]),he,List.map_append,List.map_singleton,hx,List.length_append,List.length_singleton,show most-(ks.length+1)=j by omega]
theorem mu.stop{ks:List N}{A:cR}{s':PS}(hq:q.ok I)(hA:Acc z f E a n c ks A)(hks:∀k∈ks,ok I k)(hsn:s'.next≤q.c.l.length)(hr:q.c.list w most one s0=q.c.eR w most one (most-ks.length) (ks.map p) s')(hw:q.c.dS w s'=false)(hF:F.Perm (q.c7 b s'::(A++F0))):mu z f E p ok q b w most one s0 F0 a n c I F:=by
 rw[vS hw] at hr
 exact⟨hq,ks,A,hA,hks,by rw[hr];exact hF,by rw[hr],by rw[hr];exact hsn⟩
theorem mu.full{ks:List N}{A:cR}{s':PS}(hq:q.ok I)(hA:Acc z f E a n c ks A)(hks:∀k∈ks,ok I k)(hsn:s'.next≤q.c.l.length)(hr:q.c.list w most one s0=q.c.eR w most one (most-ks.length) (ks.map p) s')(hw:q.c.dS w s'=true)(ho:(q.c.many ks.length most s').over=true)(hF:F.Perm (q.c7 b (q.c.many ks.length most s')::(A++F0))):mu z f E p ok q b w most one s0 F0 a n c I F:=by
 rw[vT hw (by rw[List.length_map];exact ho),List.length_map] at hr
 exact⟨hq,ks,A,hA,hks,by rw[hr];exact hF,by rw[hr],by rw[hr,oN];exact hsn⟩
end
theorem fa(I J:cS)(x:dH)(hl:cS.le I J)(h:od I x):od J x:=dH.Ok.mono h hl fun _ h=>h
theorem ix(I J:cS)(x:dm)(hl:cS.le I J)(h:oO I x):oO J x:=dm.Ok.mono h hl fun _ h=>h
theorem gL(I J:cS)(x:da)(hl:cS.le I J)(h:k9 I x):k9 J x:=da.Ok.mono h hl fun _ h=>h
theorem mg(I J:cS)(x:fO)(hl:cS.le I J)(h:uL I x):uL J x:=fO.Ok.mono h hl fun _ h=>h
theorem CY{α:Type}{w z:α}{A l:List α}:(w::z::(A++l)).Perm (A++(w::z::l)):=List.perm_append_comm_assoc [w,z] A l
theorem zM{q:PQ}(b:Nat)(s:PS)(I:cS)(F F0:cR)(hq:q.ok I)(hsn:s.next≤q.c.l.length)(hF:F.Perm (q.c7 b s::F0)):cU P 79 #[.pointer (some ⟨b,0,none⟩)] I F fun e I' G =>
  ∃a n c,e=.returned (.slice a n c)∧Sl I' 2 dr.enc a n (q.c.list (⟨#[115,108,111,116]⟩:ByteArray) 4 q.c.slot s).1∧G.Perm (q.c7 b (q.c.list (⟨#[115,108,111,116]⟩:ByteArray) 4 q.c.slot s).2::F0):=by
 refine cU.keep (Q:=fun e I' G=>∃a n c A,e=.returned (.slice a n c)∧Acc 2 dr.enc 106 a n c (q.c.list (⟨#[115,108,111,116]⟩:ByteArray) 4 q.c.slot s).1 A∧G.Perm (q.c7 b (q.c.list (⟨#[115,108,111,116]⟩:ByteArray) 4 q.c.slot s).2::(A++F0))) ?_ fun e I' G w hl hs ⟨a,n,c,A,he,hA,hG⟩=>?_
 rotate_left
 ·obtain⟨J,h1,h2,h3⟩:=Acc.keep (z:=2) (f:=dr.enc) (fun _=>rfl) hA (hs.perm (hG.trans (List.perm_append_comm_assoc [_] A F0)))
  exact⟨J,_,h1,h2,a,n,c,he,h3,.refl _⟩
 have hl:=hq.len
 have hend:∀a n c I F,mu 2 dr.enc 106 id (fun _ _=>True) q b (⟨#[115,108,111,116]⟩:ByteArray) 4 q.c.slot s F0 a n c I F→∃a' n' c' A,Ending.returned (.slice a n c)=.returned (.slice a' n' c')∧Acc 2 dr.enc 106 a' n' c' (q.c.list (⟨#[115,108,111,116]⟩:ByteArray) 4 q.c.slot s).1 A∧F.Perm (q.c7 b (q.c.list (⟨#[115,108,111,116]⟩:ByteArray) 4 q.c.slot s).2::(A++F0)):=by
  intro a n c I F ⟨_,ks,A,hA,_,hF,hk,_⟩
  rw[List.map_id] at hk
  exact⟨a,n,c,A,rfl,by rw[hk];exact hA,hF⟩
 refine fE.vc (fun xa xn xc a n c m I' F'=>mr 2 dr.enc 106 id (fun _ _=>True) q b (⟨#[115,108,111,116]⟩:ByteArray) 4 q.c.slot s F0 a n c m I' F') ?_
 unfold fE.V
 refine⟨⟨_,mr.start hq hsn hF⟩,fun xa xn xc a n c m I1 F1 l1 ⟨hq1,ks,A,s',hA,hks,hF1,hs1,hkl,hm,hr⟩=>?_⟩
 have hn:=hA.1
 subst hn
 refine cU.ret (nh hq1 _ (hF1.mem_iff.2 (.head _))) fun I2 l2=>⟨_,rfl,F1,.refl _,fun hw=>?_,fun hw=>?_⟩
 ·exact hend _ _ _ I2 _ (mu.stop (hq1.mono l2) hA (fun _ _=>trivial) hs1 hr (by simpa using hw) hF1)
 have hw:q.c.dS (⟨#[115,108,111,116]⟩:ByteArray) s'=true:=by simpa using hw
 have hlt:=ew hw
 have hq2:=hq1.mono l2
 refine (qO hq2 ks.length 4 hF1).mono fun e I3 G l3 ⟨he,hG⟩=>⟨_,he,G,.refl _,fun ho=>?_,fun ho=>?_⟩
 ·exact hend _ _ _ I3 _ (mu.full (hq2.mono l3) hA (fun _ _=>trivial) hs1 hr hw (by simpa using ho) hG)
 have ho:(q.c.many ks.length 4 s').over=false:=by simpa using ho
 obtain⟨hlt4,hme⟩:=j8 hlt ho
 rw[hme] at hG
 have hq3:=hq2.mono l3
 refine (ec hq3 _ hG).mono fun e I4 G4 l4 ⟨he,hG4⟩=>⟨_,he,q.c7 b (q.c.take (⟨#[115,108,111,116]⟩:ByteArray) s').2::(A++F0),hG4,fun b_x=>?_⟩
 have hq4:=hq3.mono l4
 refine (ni hq4 (s:=(q.c.take (⟨#[115,108,111,116]⟩:ByteArray) s').2) kl).mono fun e I5 G5 l5 ⟨he,hG5⟩=>⟨_,he,q.c7 b (q.c.name (q.c.take (⟨#[115,108,111,116]⟩:ByteArray) s').2).2::(A++F0),hG5.trans kl, ?_⟩
 have hq5:=hq4.mono l5
 refine (ec hq5 _ (s:=(q.c.name (q.c.take (⟨#[115,108,111,116]⟩:ByteArray) s').2).2) kl).mono fun e I6 G6 l6 ⟨he,hG6⟩=>⟨_,he,q.c7 b (q.c.slot s').2::(A++F0),hG6.trans kl,fun b4 I7 l7 hb4=>?_⟩
 have hq6:=hq5.mono l6
 refine (uM (f:=dr.enc) (fun _=>rfl) (zv:=(⟨⟨#[]⟩,0⟩:dr).v) (by':=24) (by kernel_rfl) (by kernel_rfl) rfl (by decide) (by decide) hA (by omega) (q.c.slot s').1 (yT _) hb4 rfl CY).mono fun v I8 G8 l8 ⟨a',n',c',A',hv,hA',hG8⟩=>⟨a',n',c',hv,q.c7 b (q.c.slot s').2::(A'++F0),hG8.trans CY.symm,4-(ks.length+1),by omega, ?_⟩
 exact mr.next (fun _ _ _ _ _=>trivial) Up.slot hA hks hs1 hr hw ho (x:=(q.c.slot s').1) rfl trivial (cS.le_refl _) ((hq6.mono l7).mono l8) hA' (.refl _)
end Go.Lx
namespace Go.Lx
open Go.Vc
theorem xM{c:PC}{m:Nat}{l:List mo}{s:PS}(h:c.dS (⟨#[44]⟩:ByteArray) (c.do s).2=false):c.gV (m+1) l s=(l++[(c.do s).1],(c.do s).2):=by
 rw[PC.gV,if_neg (by simp[h])]
theorem xN{c:PC}{m:Nat}{l:List mo}{s:PS}(h:c.dS (⟨#[44]⟩:ByteArray) (c.do s).2=true)(ho:(c.many (l.length+1) 8 (c.do s).2).over=true):c.gV (m+1) l s=(l++[(c.do s).1],c.many (l.length+1) 8 (c.do s).2):=by
 rw[PC.gV,if_pos h,if_pos ho]
theorem AW{q:PQ}:sw 110 dm.v dm.p oO q q.c.gW:=by
 intro b s I F F0 hq hsn hF
 have hl:=hq.len
 refine cU.keep (Q:=fun e I' G=>∃(w:Nd) (a:Option Addr) (c:Nat) (ds:List fO) (pos:Int) (A:cR),e=.returned (dm.v ⟨w,a,c,ds,pos⟩)∧(⟨w,a,c,ds,pos⟩:dm).p=(q.c.gW s).1∧eb I' [] w∧Acc 36 fO.enc 114 a ds.length c ds A∧(∀d∈ds,uL I' d)∧G.Perm (q.c7 b (q.c.gW s).2::(A++F0))) ?_ fun e I' G w hl hs ⟨w',a,c,ds,pos,A,he,hp,hw,hA,hd,hG⟩=>?_
 rotate_left
 ·obtain⟨J,h1,h2,h3⟩:=Acc.keep (z:=36) (f:=fO.enc) (fun _=>rfl) hA (hs.perm (hG.trans (List.perm_append_comm_assoc [_] A F0)))
  exact⟨J,_,h1,h2,_,he,hp,⟨hw.up h1,h3.zo [],fun d hdm=>mg _ _ _ h1 (hd d hdm)⟩,.refl _⟩
 unfold PC.gW
 have ht:=(Up.take (c:=q.c) (s:=s) (⟨#[119,104,101,110]⟩:ByteArray)).2 hsn
 generalize hta:q.c.take (⟨#[119,104,101,110]⟩:ByteArray) s=ta at ht ⊢
 have hx2:=(Up.eJ (c:=q.c) ta.2).2 ht
 have h3:=(Up.take (c:=q.c) (s:=(q.c.eJ ta.2).2) (⟨#[100,111]⟩:ByteArray)).2 hx2
 obtain⟨s3,hs3⟩:∃s3,s3=(q.c.take (⟨#[100,111]⟩:ByteArray) (q.c.eJ ta.2).2).2:=⟨_,rfl⟩
 rw[←hs3] at h3
 refine gg.vc (fun n0 n1 n2 n3 n4 n5 na nn nc n7 a n c pos I' F'=>q.ok I'∧∃(t:Nd) (ks:List fO) (A:cR),t.v=(.agg #[.int .u8 n0,.int .u8 n1,.int .u8 n2,.int .i64 n3,.int .u8 n4,.string n5,.slice na nn nc,.int .i64 n7])∧t.px=(q.c.eJ ta.2).1∧eb I' [] t∧pos=ta.1∧Acc 36 fO.enc 114 a n c ks A∧(∀k∈ks,uL I' k)∧F'.Perm (q.c7 b (q.c.gV 8 [] s3).2::(A++F0))∧(q.c.gV 8 [] s3).1=ks.map fO.p∧(q.c.gV 8 [] s3).2.next≤q.c.l.length)
  (fun n0 n1 n2 n3 n4 n5 na nn nc n7 a n c pos m I' F'=>q.ok I'∧∃(t:Nd) (ks:List fO) (A:cR) (s':PS),t.v=(.agg #[.int .u8 n0,.int .u8 n1,.int .u8 n2,.int .i64 n3,.int .u8 n4,.string n5,.slice na nn nc,.int .i64 n7])∧t.px=(q.c.eJ ta.2).1∧eb I' [] t∧pos=ta.1∧Acc 36 fO.enc 114 a n c ks A∧(∀k∈ks,uL I' k)∧F'.Perm (q.c7 b s'::(A++F0))∧s'.next≤q.c.l.length∧ks.length<8∧m=8-ks.length∧q.c.gV 8 [] s3=q.c.gV (8-ks.length) (ks.map fO.p) s') ?_
 unfold gg.V
 intro b2
 refine (ec hq _ ((hF.cons _).trans kl)).mono fun e I1 G l1 ⟨he,hG⟩=>⟨_,he,q.c7 b ta.2::F0,by rw[hta] at hG;exact hG.trans kl,fun b_r=>?_⟩
 rw[hta]
 have hq1:=hq.mono l1
 refine (qR b ta.2 I1 _ _ hq1 ht dO).mono fun e I2 G l2 ⟨x,he,px,okx,hG⟩=>?_
 refine⟨_,_,_,_,_,_,_,_,_,_,he,q.c7 b (q.c.eJ ta.2).2::F0,hG.trans dO.symm, ?_⟩
 have hq2:=hq1.mono l2
 refine (ec hq2 _ (s:=(q.c.eJ ta.2).2) dO).mono fun e I3 G l3 ⟨he,hG⟩=>⟨_,he,q.c7 b s3::F0,by rw[←hs3] at hG;exact hG.trans dO.symm,⟨⟨_,hq2.mono l3,x,[],[],s3,rfl,px,okx.up l3,rfl,Acc.nil,fun k hk=>(by cases hk),.refl _,h3,by decide,rfl,rfl⟩, ?_⟩, ?_⟩
 ·intro n0 n1 n2 n3 n4 n5 na nn nc n7 a n c pos m I4 F4 l4 ⟨hq4,t,ks,A,s',htv,pt,okt,hpos,hA,hks,hF4,hsn',hkl,hm,hr⟩
  have hn:=hA.1
  subst hn hpos
  have hup:=(Up.do (c:=q.c) s').2 hsn'
  refine (Ct b s' I4 _ _ hq4 hsn' (((hF4.cons _).cons _).trans dO)).mono fun e I5 G l5 ⟨d,he,pd,okd,hG⟩=>?_
  refine⟨_,_,_,_,_,_,_,_,_,_,_,_,_,_,_,_,_,_,_,_,_,_,_,_,_,_,_,_,_,_,_,_,_,_,_,_,_,_,_,_,_,_,_,_,he,q.c7 b (q.c.do s').2::(A++F0),hG.trans dO.symm,fun b_d b4 I6 l6 hb4=>?_⟩
  have hq6:=(hq4.mono l5).mono l6
  refine (uM (f:=fO.enc) (fun _=>rfl) (zv:=(⟨0,0,⟨#[]⟩,fq,fq,fq,fq,0⟩:fO).v) (by':=320) (by kernel_rfl) (by kernel_rfl) rfl (by decide) (by decide) hA (by omega) d (AU _) hb4 rfl xI).mono fun v I7 G7 l7 ⟨a',n',c',A',hv,hA',hG7⟩=>⟨a',n',c',hv,q.c7 b (q.c.do s').2::(A'++F0),hG7.trans xI.symm, ?_⟩
  have hq7:=hq6.mono l7
  have hn':=hA'.1
  rw[List.length_append,List.length_singleton] at hn'
  subst hn'
  obtain⟨j,hj⟩:∃j,8-ks.length=j+1:=⟨8-ks.length-1,by omega⟩
  rw[hj] at hr
  have l47:=cS.le_trans l5 (cS.le_trans l6 l7)
  have hks':∀J,cS.le I7 J→∀k∈ks++[d],uL J k:=fun J hJ k hk=>by
   rcases List.mem_append.1 hk with hk | hk
   ·exact mg _ _ _ (cS.le_trans l47 hJ) (hks k hk)
   ·rw[List.mem_singleton] at hk;subst hk;exact mg _ _ _ (cS.le_trans l6 (cS.le_trans l7 hJ)) okd
  refine cU.ret (nh hq7 _ (s:=(q.c.do s').2) (.tail _ (.tail _ (.tail _ (.head _))))) fun I8 l8=>⟨_,rfl,q.c7 b (q.c.do s').2::(A'++F0),.refl _,fun hw=>?_,fun hw=>?_⟩
  ·have hw:q.c.dS (⟨#[44]⟩:ByteArray) (q.c.do s').2=false:=by simpa using hw
   rw[xM hw] at hr
   exact⟨hq7.mono l8,t,ks++[d],A',htv,pt,okt.up (cS.le_trans l47 l8),rfl,hA',hks' _ l8,by rw[hr],by rw[hr,List.map_append,List.map_singleton,pd],by rw[hr];exact hup⟩
  have hw:q.c.dS (⟨#[44]⟩:ByteArray) (q.c.do s').2=true:=by simpa using hw
  have hlt:=ew hw
  have hq8:=hq7.mono l8
  refine (qO hq8 (ks.length+1) 8 (s:=(q.c.do s').2) sv).mono fun e I9 G l9 ⟨he,hG⟩=>⟨_,he,q.c7 b (q.c.many (ks.length+1) 8 (q.c.do s').2)::(A'++F0),hG.trans sv.symm,fun ho=>?_,fun ho=>?_⟩
  ·have ho:(q.c.many (ks.length+1) 8 (q.c.do s').2).over=true:=by simpa using ho
   rw[xN hw (by rw[List.length_map];exact ho),List.length_map] at hr
   exact⟨hq8.mono l9,t,ks++[d],A',htv,pt,okt.up (cS.le_trans l47 (cS.le_trans l8 l9)),rfl,hA',hks' _ (cS.le_trans l8 l9),by rw[hr],by rw[hr,List.map_append,List.map_singleton,pd],by rw[hr];show (q.c.many _ _ _).next≤_;rw[oN];exact hup⟩
  have ho:(q.c.many (ks.length+1) 8 (q.c.do s').2).over=false:=by simpa using ho
  obtain⟨hlt8,hme⟩:=j8 hlt ho
  rw[hme]
  refine⟨_,rfl,_,PQ.rd (k:=3) (.tail _ (.tail _ (.tail _ (.head _)))) rfl,_,rfl,q.cl (q.c.do s').2,96,A'++F0,.refl _,PQ.spot _ _,by rw[PQ.off];exact (by decide:3+1≤7), ?_⟩
  rw[PQ.eD (by omega)]
  refine⟨8-(ks.length+1),by omega,hq8.mono l9,t,ks++[d],A',_,htv,pt,okt.up (cS.le_trans l47 (cS.le_trans l8 l9)),rfl,hA',hks' _ (cS.le_trans l8 l9),.refl _,hlt,by rw[List.length_append,List.length_singleton];omega,by rw[List.length_append,List.length_singleton], ?_⟩
  rw[hr,PC.gV,if_pos hw,List.length_map,if_neg (by simp[ho]),hme,List.map_append,List.map_singleton,pd,List.length_append,List.length_singleton,show 8-(ks.length+1)=j by omega]
 ·intro n0 n1 n2 n3 n4 n5 na nn nc n7 a n c pos I10 F10 l10 ⟨hq10,t,ks,A,htv,pt,okt,hpos,hA,hks,hF10,hr,hn10⟩
  simp only[Nd.v,Value.agg.injEq,Array.mk.injEq,List.cons.injEq,Value.int.injEq,Value.string.injEq,Value.slice.injEq,true_and,and_true] at htv
  obtain⟨rfl,rfl,rfl,rfl,rfl,rfl,⟨rfl,rfl,rfl⟩,rfl⟩:=htv
  have hn:=hA.1
  subst hn hpos
  unfold PC.ll
  rw[←hs3]
  refine (ec hq10 _ (s:=(q.c.gV 8 [] s3).2) (((hF10.cons _).cons _).trans dO)).mono fun e I11 G l11 ⟨he,hG⟩=>⟨_,he,q.c7 b (q.c.take (⟨#[59]⟩:ByteArray) (q.c.gV 8 [] s3).2).2::(A++F0),hG.trans dO.symm, ?_⟩
  exact⟨t,a,c,ks,ta.1,A,rfl,by simp only[dm.p,pt,hr],okt.up l11,hA,fun k hk=>mg _ _ _ l11 (hks k hk),.refl _⟩
theorem zN{q:PQ}:sw 80 da.v da.p k9 q q.c.state:=by
 intro b s I F F0 hq hsn hF
 have hl:=hq.len
 refine cU.keep (Q:=fun e I' G=>∃(nm:ByteArray) (a:Option Addr) (c:Nat) (ds:List dm) (pos:Int) (A:cR),e=.returned (da.v ⟨nm,a,c,ds,pos⟩)∧(⟨nm,a,c,ds,pos⟩:da).p=(q.c.state s).1∧Acc 10 dm.enc 110 a ds.length c ds A∧(∀d∈ds,oO I' d)∧G.Perm (q.c7 b (q.c.state s).2::(A++F0))) ?_ fun e I' G w hl hs ⟨nm,a,c,ds,pos,A,he,hp,hA,hd,hG⟩=>?_
 rotate_left
 ·obtain⟨J,h1,h2,h3⟩:=Acc.keep (z:=10) (f:=dm.enc) (fun _=>rfl) hA (hs.perm (hG.trans (List.perm_append_comm_assoc [_] A F0)))
  exact⟨J,_,h1,h2,_,he,hp,⟨h3.zo [],fun d hdm=>ix _ _ _ h1 (hd d hdm)⟩,.refl _⟩
 unfold PC.state
 have ht:=(Up.take (c:=q.c) (s:=s) (⟨#[115,116,97,116,101]⟩:ByteArray)).2 hsn
 generalize hta:q.c.take (⟨#[115,116,97,116,101]⟩:ByteArray) s=ta at ht ⊢
 have hn:=(Up.name (c:=q.c) (s:=ta.2)).2 ht
 generalize hbb:q.c.name ta.2=bb at hn ⊢
 have h3:=(Up.take (c:=q.c) (s:=bb.2) (⟨#[123]⟩:ByteArray)).2 hn
 generalize hs3:(q.c.take (⟨#[123]⟩:ByteArray) bb.2).2=s3 at h3 ⊢
 refine fD.vc (fun nm a n c pos I' F'=>nm=bb.1∧pos=ta.1∧mu 10 dm.enc 110 dm.p oO q b (⟨#[119,104,101,110]⟩:ByteArray) 12 q.c.gW s3 F0 a n c I' F')
  (fun nm a n c pos m I' F'=>nm=bb.1∧pos=ta.1∧mr 10 dm.enc 110 dm.p oO q b (⟨#[119,104,101,110]⟩:ByteArray) 12 q.c.gW s3 F0 a n c m I' F') ?_
 unfold fD.V
 intro b2
 refine (ec hq _ ((hF.cons _).trans kl)).mono fun e I1 G l1 ⟨he,hG⟩=>⟨_,he,q.c7 b ta.2::F0,by rw[hta] at hG;exact hG.trans kl,fun b_s=>?_⟩
 rw[hta]
 have hq1:=hq.mono l1
 refine (ni hq1 (s:=ta.2) dO).mono fun e I2 G l2 ⟨he,hG⟩=>⟨_,he,q.c7 b bb.2::F0,by rw[hbb] at hG;exact hG.trans dO.symm, ?_⟩
 rw[hbb]
 have hq2:=hq1.mono l2
 refine (ec hq2 _ (s:=bb.2) dO).mono fun e I3 G l3 ⟨he,hG⟩=>⟨_,he,q.c7 b s3::F0,by rw[hs3] at hG;exact hG.trans dO.symm,⟨⟨_,rfl,rfl,mr.start (hq2.mono l3) h3 (.refl _)⟩, ?_⟩, ?_⟩
 ·intro nm a n c pos m I4 F4 l4 ⟨e1,e2,hq4,ks,A,s',hA,hks,hF4,hsn',hkl,hm,hr⟩
  have hn:=hA.1
  subst hn e1 e2
  have hm4:q.c7 b s'∈F4:=hF4.mem_iff.2 (.head _)
  refine cU.ret (nh hq4 _ (s:=s') (.tail _ (.tail _ hm4))) fun I5 l5=>⟨_,rfl,F4,.refl _,fun hw=>?_,fun hw=>?_⟩
  ·exact⟨rfl,rfl,mu.stop (hq4.mono l5) hA (fun k hk=>ix _ _ _ l5 (hks k hk)) hsn' hr (by simpa using hw) hF4⟩
  have hw:q.c.dS (⟨#[119,104,101,110]⟩:ByteArray) s'=true:=by simpa using hw
  have hlt:=ew hw
  have hq5:=hq4.mono l5
  refine (qO hq5 ks.length 12 (((hF4.cons _).cons _).trans dO)).mono fun e I6 G l6 ⟨he,hG⟩=>⟨_,he,q.c7 b (q.c.many ks.length 12 s')::(A++F0),hG.trans dO.symm,fun ho=>?_,fun ho=>?_⟩
  ·exact⟨rfl,rfl,mu.full (hq5.mono l6) hA (fun k hk=>ix _ _ _ (cS.le_trans l5 l6) (hks k hk)) hsn' hr hw (by simpa using ho) (.refl _)⟩
  have ho:(q.c.many ks.length 12 s').over=false:=by simpa using ho
  obtain⟨hlt4,hme⟩:=j8 hlt ho
  rw[hme]
  have hq6:=hq5.mono l6
  refine (AW b s' I6 _ _ hq6 hsn' dO).mono fun e I7 G l7 ⟨x,he,px,okx,hG⟩=>?_
  refine⟨_,_,_,_,_,_,_,_,_,_,_,_,_,_,he,q.c7 b (q.c.gW s').2::(A++F0),hG.trans dO.symm,fun b_r b4 I8 l8 hb4=>?_⟩
  have hq8:=(hq6.mono l7).mono l8
  refine (uM (f:=dm.enc) (fun _=>rfl) (zv:=(⟨fq,none,0,[],0⟩:dm).v) (by':=104) (by kernel_rfl) (by kernel_rfl) rfl (by decide) (by decide) hA (by omega) x (yU _) hb4 rfl xI).mono fun v I9 G9 l9 ⟨a',n',c',A',hv,hA',hG9⟩=>⟨a',n',c',hv,q.c7 b (q.c.gW s').2::(A'++F0),hG9.trans xI.symm,12-(ks.length+1),by omega,rfl,rfl, ?_⟩
  exact mr.next ix Up.gW hA hks hsn' hr hw ho px (ix _ _ _ (cS.le_trans l8 l9) okx) (cS.le_trans l5 (cS.le_trans l6 (cS.le_trans l7 (cS.le_trans l8 l9)))) (hq8.mono l9) hA' (.refl _)
 ·intro nm a n c pos I10 F10 l10 ⟨e1,e2,hq10,ks,A,hA,hks,hF10,hr,hn10⟩
  have hn:=hA.1
  subst hn e1 e2
  unfold PC.k6
  refine (ec hq10 _ (s:=(q.c.list (⟨#[119,104,101,110]⟩:ByteArray) 12 q.c.gW s3).2) (((hF10.cons _).cons _).trans dO)).mono fun e I11 G l11 ⟨he,hG⟩=>⟨_,he,q.c7 b (q.c.take (⟨#[125]⟩:ByteArray) (q.c.list (⟨#[119,104,101,110]⟩:ByteArray) 12 q.c.gW s3).2).2::(A++F0),hG.trans dO.symm, ?_⟩
  exact⟨bb.1,a,c,ks,ta.1,A,rfl,by simp only[da.p,hr],hA,fun k hk=>ix _ _ _ l11 (hks k hk),.refl _⟩
theorem zO{q:PQ}:sw 29 fN.v fN.p BF q q.c.whole:=by
 intro b s I F F0 hq hsn hF
 have hl:=hq.len
 refine cU.keep (Q:=fun e I' G=>∃(nm:ByteArray) (a1:Option Addr) (c1:Nat) (rs:List dH) (a2:Option Addr) (c2:Nat) (ss:List dr) (a3:Option Addr) (c3:Nat) (ts:List da) (A1 A2:cR),e=.returned (fN.v ⟨nm,a1,c1,rs,a2,c2,ss,a3,c3,ts⟩)∧(⟨nm,a1,c1,rs,a2,c2,ss,a3,c3,ts⟩:fN).p=(q.c.whole s).1 ∧
   Acc 11 dH.enc 104 a1 rs.length c1 rs A1∧(∀d∈rs,od I' d)∧Sl I' 2 dr.enc a2 ss.length ss∧Acc 3 da.enc 88 a3 ts.length c3 ts A2∧(∀d∈ts,k9 I' d)∧G.Perm (q.c7 b (q.c.whole s).2::(A2++(A1++F0)))) ?_
  fun e I' G w hl hs ⟨nm,a1,c1,rs,a2,c2,ss,a3,c3,ts,A1,A2,he,hp,hA1,hd1,hS,hA2,hd2,hG⟩=>?_
 rotate_left
 ·obtain⟨J,h1,h2,h3⟩:=Acc.keep (z:=3) (f:=da.enc) (fun _=>rfl) hA2 (hs.perm (hG.trans (List.perm_append_comm_assoc [_] A2 (A1++F0))))
  obtain⟨J2,k1,k2,k3⟩:=Acc.keep (z:=11) (f:=dH.enc) (fun _=>rfl) hA1 (h2.perm (List.perm_append_comm_assoc [_] A1 F0))
  exact⟨J2,_,cS.le_trans h1 k1,k2,_,he,hp,⟨k3.zo [],fun d hdm=>fa _ _ _ (cS.le_trans h1 k1) (hd1 d hdm),(hS.mono (cS.le_trans h1 k1)).zo [],(h3.mono k1).zo [],fun d hdm=>gL _ _ _ (cS.le_trans h1 k1) (hd2 d hdm)⟩,.refl _⟩
 unfold PC.whole
 have ht:=(Up.take (c:=q.c) (s:=s) (⟨#[115,116,114,97,116,101,103,121]⟩:ByteArray)).2 hsn
 generalize hta:(q.c.take (⟨#[115,116,114,97,116,101,103,121]⟩:ByteArray) s).2=s1 at ht ⊢
 have hn:=(Up.name (c:=q.c) (s:=s1)).2 ht
 generalize hbb:q.c.name s1=bb at hn ⊢
 have h3:=(Up.take (c:=q.c) (s:=bb.2) (⟨#[123]⟩:ByteArray)).2 hn
 generalize hs3:(q.c.take (⟨#[123]⟩:ByteArray) bb.2).2=s3 at h3 ⊢
 unfold PC.yO PC.yN PC.yM PC.yL
 refine fF.vc
  (fun nm a1 n1 c1 a2 n2 c2 a3 n3 c3 I' F'=>nm=bb.1∧a3=none∧n3=0∧c3=0∧mu 11 dH.enc 104 dH.p od q b (⟨#[114,101,103]⟩:ByteArray) 12 q.c.lx s3 F0 a1 n1 c1 I' F')
  (fun nm a1 n1 c1 a2 n2 c2 a3 n3 c3 m I' F'=>nm=bb.1∧a3=none∧n3=0∧c3=0∧mr 11 dH.enc 104 dH.p od q b (⟨#[114,101,103]⟩:ByteArray) 12 q.c.lx s3 F0 a1 n1 c1 m I' F')
  (fun nm a1 n1 c1 a2 n2 c2 a3 n3 c3 I' F'=>nm=bb.1∧∃(rs:List dH) (A1:cR),Acc 11 dH.enc 104 a1 n1 c1 rs A1∧(∀k∈rs,od I' k)∧(q.c.list (⟨#[114,101,103]⟩:ByteArray) 12 q.c.lx s3).1=rs.map dH.p∧Sl I' 2 dr.enc a2 n2 (q.c.list (⟨#[115,108,111,116]⟩:ByteArray) 4 q.c.slot (q.c.list (⟨#[114,101,103]⟩:ByteArray) 12 q.c.lx s3).2).1 ∧
    mu 3 da.enc 88 da.p k9 q b (⟨#[115,116,97,116,101]⟩:ByteArray) 12 q.c.state (q.c.list (⟨#[115,108,111,116]⟩:ByteArray) 4 q.c.slot (q.c.list (⟨#[114,101,103]⟩:ByteArray) 12 q.c.lx s3).2).2 (A1++F0) a3 n3 c3 I' F')
  (fun nm a1 n1 c1 a2 n2 c2 a3 n3 c3 m I' F'=>nm=bb.1∧∃(rs:List dH) (A1:cR),Acc 11 dH.enc 104 a1 n1 c1 rs A1∧(∀k∈rs,od I' k)∧(q.c.list (⟨#[114,101,103]⟩:ByteArray) 12 q.c.lx s3).1=rs.map dH.p∧Sl I' 2 dr.enc a2 n2 (q.c.list (⟨#[115,108,111,116]⟩:ByteArray) 4 q.c.slot (q.c.list (⟨#[114,101,103]⟩:ByteArray) 12 q.c.lx s3).2).1 ∧
    mr 3 da.enc 88 da.p k9 q b (⟨#[115,116,97,116,101]⟩:ByteArray) 12 q.c.state (q.c.list (⟨#[115,108,111,116]⟩:ByteArray) 4 q.c.slot (q.c.list (⟨#[114,101,103]⟩:ByteArray) 12 q.c.lx s3).2).2 (A1++F0) a3 n3 c3 m I' F') ?_
 unfold fF.V
 intro b2 b_s
 refine (ec hq _ (((hF.cons _).cons _).trans dO)).mono fun e I1 G l1 ⟨he,hG⟩=>⟨_,he,q.c7 b s1::F0,by rw[hta] at hG;exact hG.trans dO.symm, ?_⟩
 have hq1:=hq.mono l1
 refine (ni hq1 (s:=s1) dO).mono fun e I2 G l2 ⟨he,hG⟩=>⟨_,he,q.c7 b bb.2::F0,by rw[hbb] at hG;exact hG.trans dO.symm, ?_⟩
 rw[hbb]
 have hq2:=hq1.mono l2
 refine (ec hq2 _ (s:=bb.2) dO).mono fun e I3 G l3 ⟨he,hG⟩=>⟨_,he,q.c7 b s3::F0,by rw[hs3] at hG;exact hG.trans dO.symm,⟨⟨_,rfl,rfl,rfl,rfl,mr.start (hq2.mono l3) h3 (.refl _)⟩, ?_⟩, ?_⟩
 ·intro nm a1 n1 c1 a2 n2 c2 a3 n3 c3 m I4 F4 l4 ⟨e1,e2,e3,e4,hq4,ks,A,s',hA,hks,hF4,hsn',hkl,hm,hr⟩
  have hn:=hA.1
  subst hn e1 e2 e3 e4
  have hm4:q.c7 b s'∈F4:=hF4.mem_iff.2 (.head _)
  refine cU.ret (nh hq4 _ (s:=s') (.tail _ (.tail _ hm4))) fun I5 l5=>⟨_,rfl,F4,.refl _,fun hw=>?_,fun hw=>?_⟩
  ·exact⟨rfl,rfl,rfl,rfl,mu.stop (hq4.mono l5) hA (fun k hk=>fa _ _ _ l5 (hks k hk)) hsn' hr (by simpa using hw) hF4⟩
  have hw:q.c.dS (⟨#[114,101,103]⟩:ByteArray) s'=true:=by simpa using hw
  have hlt:=ew hw
  have hq5:=hq4.mono l5
  refine (qO hq5 ks.length 12 (((hF4.cons _).cons _).trans dO)).mono fun e I6 G l6 ⟨he,hG⟩=>⟨_,he,q.c7 b (q.c.many ks.length 12 s')::(A++F0),hG.trans dO.symm,fun ho=>?_,fun ho=>?_⟩
  ·exact⟨rfl,rfl,rfl,rfl,mu.full (hq5.mono l6) hA (fun k hk=>fa _ _ _ (cS.le_trans l5 l6) (hks k hk)) hsn' hr hw (by simpa using ho) (.refl _)⟩
  have ho:(q.c.many ks.length 12 s').over=false:=by simpa using ho
  obtain⟨hlt4,hme⟩:=j8 hlt ho
  rw[hme]
  have hq6:=hq5.mono l6
  refine (BG b s' I6 _ _ hq6 hsn' dO).mono fun e I7 G l7 ⟨x,he,px,okx,hG⟩=>?_
  refine⟨_,_,_,_,_,_,_,_,_,_,_,_,_,he,q.c7 b (q.c.lx s').2::(A++F0),hG.trans dO.symm,fun b_r b4 I8 l8 hb4=>?_⟩
  have hq8:=(hq6.mono l7).mono l8
  refine (uM (f:=dH.enc) (fun _=>rfl) (zv:=(⟨⟨#[]⟩,0,fq,0⟩:dH).v) (by':=104) (by kernel_rfl) (by kernel_rfl) rfl (by decide) (by decide) hA (by omega) x (zL _) hb4 rfl xI).mono fun v I9 G9 l9 ⟨a',n',c',A',hv,hA',hG9⟩=>⟨a',n',c',hv,q.c7 b (q.c.lx s').2::(A'++F0),hG9.trans xI.symm,12-(ks.length+1),by omega,rfl,rfl,rfl,rfl, ?_⟩
  exact mr.next fa Up.lx hA hks hsn' hr hw ho px (fa _ _ _ (cS.le_trans l8 l9) okx) (cS.le_trans l5 (cS.le_trans l6 (cS.le_trans l7 (cS.le_trans l8 l9)))) (hq8.mono l9) hA' (.refl _)
 intro nm a1 n1 c1 a2 n2 c2 a3 n3 c3 I10 F10 l10 ⟨e1,e2,e3,e4,hq10,rs,A1,hA1,hrs,hF10,hr1,hn10⟩
 subst e1 e2 e3 e4
 generalize hL1:q.c.list (⟨#[114,101,103]⟩:ByteArray) 12 q.c.lx s3=L1 at hF10 hr1 hn10 ⊢
 refine (zM b L1.2 I10 _ _ hq10 hn10 (((hF10.cons _).cons _).trans dO)).mono fun e I11 G l11 ⟨a2',n2',c2',he,hS,hG⟩=>?_
 have hn11:=(Up.list (c:=q.c) (w:=(⟨#[115,108,111,116]⟩:ByteArray)) (most:=4) Up.slot L1.2).2 hn10
 generalize hL2:q.c.list (⟨#[115,108,111,116]⟩:ByteArray) 4 q.c.slot L1.2=L2 at hS hG hn11 ⊢
 have hq11:=hq10.mono l11
 refine⟨a2',n2',c2',he,q.c7 b L2.2::(A1++F0),hG.trans dO.symm,⟨⟨_,rfl,rs,A1,hA1,fun k hk=>fa _ _ _ l11 (hrs k hk),hr1,hS,mr.start hq11 hn11 (.refl _)⟩, ?_⟩, ?_⟩
 ·intro nm a1 n1 c1 a2 n2 c2 a3 n3 c3 m I12 F12 l12 ⟨e1,rs,A1,hA1,hrs,hr1,hS,hq12,ks,A,s',hA,hks,hF4,hsn',hkl,hm,hr⟩
  have hn:=hA.1
  subst hn e1
  have hm4:q.c7 b s'∈F12:=hF4.mem_iff.2 (.head _)
  refine cU.ret (nh hq12 _ (s:=s') (.tail _ (.tail _ hm4))) fun I5 l5=>⟨_,rfl,F12,.refl _,fun hw=>?_,fun hw=>?_⟩
  ·exact⟨rfl,rs,A1,hA1,fun k hk=>fa _ _ _ l5 (hrs k hk),hr1,hS.mono l5,mu.stop (hq12.mono l5) hA (fun k hk=>gL _ _ _ l5 (hks k hk)) hsn' hr (by simpa using hw) hF4⟩
  have hw:q.c.dS (⟨#[115,116,97,116,101]⟩:ByteArray) s'=true:=by simpa using hw
  have hlt:=ew hw
  have hq5:=hq12.mono l5
  refine (qO hq5 ks.length 12 (((hF4.cons _).cons _).trans dO)).mono fun e I6 G l6 ⟨he,hG⟩=>⟨_,he,q.c7 b (q.c.many ks.length 12 s')::(A++(A1++F0)),hG.trans dO.symm,fun ho=>?_,fun ho=>?_⟩
  ·exact⟨rfl,rs,A1,hA1,fun k hk=>fa _ _ _ (cS.le_trans l5 l6) (hrs k hk),hr1,hS.mono (cS.le_trans l5 l6),mu.full (hq5.mono l6) hA (fun k hk=>gL _ _ _ (cS.le_trans l5 l6) (hks k hk)) hsn' hr hw (by simpa using ho) (.refl _)⟩
  have ho:(q.c.many ks.length 12 s').over=false:=by simpa using ho
  obtain⟨hlt4,hme⟩:=j8 hlt ho
  rw[hme]
  have hq6:=hq5.mono l6
  refine (zN b s' I6 _ _ hq6 hsn' dO).mono fun e I7 G l7 ⟨x,he,px,okx,hG⟩=>?_
  refine⟨_,_,_,_,_,he,q.c7 b (q.c.state s').2::(A++(A1++F0)),hG.trans dO.symm,fun b_r b4 I8 l8 hb4=>?_⟩
  have hq8:=(hq6.mono l7).mono l8
  have l59:∀J,cS.le I8 J→cS.le I12 J:=fun J h=>cS.le_trans l5 (cS.le_trans l6 (cS.le_trans l7 (cS.le_trans l8 h)))
  refine (uM (f:=da.enc) (fun _=>rfl) (zv:=(⟨⟨#[]⟩,none,0,[],0⟩:da).v) (by':=48) (by kernel_rfl) (by kernel_rfl) rfl (by decide) (by decide) hA (by omega) x (xL _) hb4 rfl xI).mono fun v I9 G9 l9 ⟨a',n',c',A',hv,hA',hG9⟩=>⟨a',n',c',hv,q.c7 b (q.c.state s').2::(A'++(A1++F0)),hG9.trans xI.symm,12-(ks.length+1),by omega,rfl,rs,A1,hA1,fun k hk=>fa _ _ _ (l59 _ l9) (hrs k hk),hr1,hS.mono (l59 _ l9), ?_⟩
  exact mr.next gL Up.state hA hks hsn' hr hw ho px (gL _ _ _ (cS.le_trans l8 l9) okx) (l59 _ l9) (hq8.mono l9) hA' (.refl _)
 intro nm a1 n1 c1 a2 n2 c2 a3 n3 c3 I18 F18 l18 ⟨e1,rs,A1,hA1,hrs,hr1,hS,hq18,ts,A2,hA2,hts,hF18,hr2,hn18⟩
 have hn3:=hA2.1
 have hn1:=hA1.1
 have hn2:=hS.1
 subst e1 hn3 hn1
 generalize hL3:q.c.list (⟨#[115,116,97,116,101]⟩:ByteArray) 12 q.c.state L2.2=L3 at hF18 hr2 hn18 ⊢
 have hfin:∀(s6:PS) (I':cS) (F':cR),cS.le I18 I'→s6=(if L3.1.length=0 then q.c.c5 130 L3.2 else L3.2)→F'.Perm (q.c7 b (q.c.end (q.c.take (⟨#[125]⟩:ByteArray) s6).2)::(A2++(A1++F0))) →
   ∃(nm:ByteArray) (a1':Option Addr) (c1':Nat) (rs':List dH) (a2':Option Addr) (c2':Nat) (ss:List dr) (a3':Option Addr) (c3':Nat) (ts':List da) (A1' A2':cR),Ending.returned (fN.v ⟨bb.1,a1,c1,rs,a2,c2,L2.1,a3,c3,ts⟩)=.returned (fN.v ⟨nm,a1',c1',rs',a2',c2',ss,a3',c3',ts'⟩)∧(⟨nm,a1',c1',rs',a2',c2',ss,a3',c3',ts'⟩:fN).p=⟨bb.1,L1.1,L2.1,L3.1⟩ ∧
   Acc 11 dH.enc 104 a1' rs'.length c1' rs' A1'∧(∀d∈rs',od I' d)∧Sl I' 2 dr.enc a2' ss.length ss∧Acc 3 da.enc 88 a3' ts'.length c3' ts' A2'∧(∀d∈ts',k9 I' d)∧F'.Perm (q.c7 b (q.c.end (q.c.take (⟨#[125]⟩:ByteArray) (if L3.1.length=0 then q.c.c5 130 L3.2 else L3.2)).2)::(A2'++(A1'++F0))):=fun s6 I' F' hl h6 hF' =>
  ⟨bb.1,a1,c1,rs,a2,c2,L2.1,a3,c3,ts,A1,A2,rfl,by simp only[fN.p,hr1,hr2],hA1,fun k hk=>fa _ _ _ hl (hrs k hk),hn2▸hS.mono hl,hA2,fun k hk=>gL _ _ _ hl (hts k hk),h6▸hF'⟩
 have h3l:L3.1.length=ts.length:=by rw[hr2,List.length_map]
 subst hn2
 refine⟨fun hz=>?_,fun hz=>?_⟩
 ·have hz:ts.length=0:=by have hz:((ts.length:Int)==0)=true:=hz;simpa using hz
  refine (fB hq18 130 (s:=L3.2) (((hF18.cons _).cons _).trans dO)).mono fun e I19 G l19 ⟨he,hG⟩=>⟨he,q.c7 b (q.c.c5 130 L3.2)::(A2++(A1++F0)),hG.trans dO.symm, ?_⟩
  have hq19:=hq18.mono l19
  refine (ec hq19 _ (s:=q.c.c5 130 L3.2) dO).mono fun e I20 G l20 ⟨he,hG⟩=>⟨_,he,q.c7 b (q.c.take (⟨#[125]⟩:ByteArray) (q.c.c5 130 L3.2)).2::(A2++(A1++F0)),hG.trans dO.symm, ?_⟩
  have hq20:=hq19.mono l20
  refine (Af hq20 (s:=(q.c.take (⟨#[125]⟩:ByteArray) (q.c.c5 130 L3.2)).2) dO).mono fun e I21 G l21 ⟨he,hG⟩=>⟨he,q.c7 b (q.c.end (q.c.take (⟨#[125]⟩:ByteArray) (q.c.c5 130 L3.2)).2)::(A2++(A1++F0)),hG.trans dO.symm, ?_⟩
  exact hfin _ _ _ (cS.le_trans l19 (cS.le_trans l20 l21)) (by rw[if_pos (by omega)]) (.refl _)
 ·have hz:ts.length≠0:=by have hz:((ts.length:Int)==0)=false:=hz;simp at hz;exact fun h=>hz (List.eq_nil_of_length_eq_zero h)
  refine (ec hq18 _ (s:=L3.2) (((hF18.cons _).cons _).trans dO)).mono fun e I20 G l20 ⟨he,hG⟩=>⟨_,he,q.c7 b (q.c.take (⟨#[125]⟩:ByteArray) L3.2).2::(A2++(A1++F0)),hG.trans dO.symm, ?_⟩
  have hq20:=hq18.mono l20
  refine (Af hq20 (s:=(q.c.take (⟨#[125]⟩:ByteArray) L3.2).2) dO).mono fun e I21 G l21 ⟨he,hG⟩=>⟨he,q.c7 b (q.c.end (q.c.take (⟨#[125]⟩:ByteArray) L3.2).2)::(A2++(A1++F0)),hG.trans dO.symm, ?_⟩
  exact hfin _ _ _ (cS.le_trans l20 l21) (by rw[if_neg (by omega)]) (.refl _)
theorem sx(s:ByteArray):∀(n:Nat) (f:Int),(jI s n f).1.length≤n
 | 0,f=>Nat.le_refl _
 | n+1,f=>by
   unfold jI
   cases ht:gU s f with
   | bad e p=>exact Nat.zero_le _
   | ok t =>
     show (if t.kind=0 then ([t],none) else _:List Tok×Option (Int×Int)).1.length≤n+1
     split
     ·exact Nat.succ_le_succ (Nat.zero_le _)
     ·exact Nat.succ_le_succ (sx s n _)
def PF.v(f:PF):Value:=.agg #[.int .i64 f.e,.int .i64 f.pos,.bool f.tok]
theorem zP(t:ByteArray)(ht:dz t)(I:cS)(F:cR):cU P 28 #[.string t] I F fun e I' G=>∃(q:PQ) (b:Nat),q.c=du t∧q.ok I'∧e=.returned (.pointer (some ⟨b,0,none⟩))∧G.Perm (q.c7 b (eG t)::F):=by
 refine cU.keep (Q:=fun e I' G=>∃(q:PQ) (b:Nat) (A:cR),q.c=du t∧Acc 5 Tok.enc 76 q.a q.c.l.length q.cap q.c.l A∧q.c.l.length≤1000000∧e=.returned (.pointer (some ⟨b,0,none⟩))∧G.Perm (q.c7 b (eG t)::(A++F))) ?_ fun e I' G w hl hs ⟨q,b,A,hc,hA,hle,he,hG⟩=>?_
 rotate_left
 ·obtain⟨J,h1,h2,h3⟩:=Acc.keep (z:=5) (f:=Tok.enc) (fun _=>rfl) hA (hs.perm (hG.trans (List.perm_append_comm_assoc [_] A F)))
  exact⟨J,_,h1,h2,q,b,hc,⟨h3,hle⟩,he,.refl _⟩
 refine j7.vc ?_
 unfold j7.V
 refine⟨fun h b=>?_,fun h=>?_⟩
 ·have h:(4096:Int)<t.size:=of_decide_eq_true h
  refine⟨⟨du t,none,0⟩,b,[],rfl, ?_, ?_,rfl, ?_⟩
  ·unfold du;rw[if_pos h];exact Acc.nil
  ·unfold du;rw[if_pos h];decide
  ·unfold PQ.c7 PQ.cl du eG;rw[if_pos h,if_pos h];exact .refl _
 ·have h:¬(4096:Int)<t.size:=of_decide_eq_false h
  refine (vN ht (by omega) I F).mono fun e I1 G l1 ⟨a,n,c,A,he,hA,hG⟩=>?_
  subst hG
  have hn:=hA.1
  subst hn
  refine⟨_,_,_,_,_,he,A++F,.refl _,fun b=>?_⟩
  refine⟨⟨du t,a,c⟩,b,A,rfl, ?_, ?_,rfl, ?_⟩
  ·unfold du;rw[if_neg h];exact hA
  ·unfold du;rw[if_neg h]
   show (kX t 0).1.length≤_
   have:=sx t ((t.size:Int)-0+1).toNat 0
   unfold kX
   omega
  ·unfold PQ.c7 PQ.cl du eG;rw[if_neg h,if_neg h];exact .refl _
theorem PQ.C5{q:PQ}{b:Nat}{s:PS}{I:cS}{G:cR}(h:q.c7 b s∈G):Rd I G ((⟨b,0,none⟩:Addr).add 4) [.int .i64 s.f.e,.int .i64 s.f.pos,.bool s.f.tok]:=by
 rw[dM]
 refine⟨rfl,_,_,_,.inr h,fun j hj=>?_⟩
 have:j=0∨j=1∨j=2:=by simp only[List.length_cons,List.length_nil] at hj;omega
 rcases this with rfl | rfl | rfl<;>rfl
def Cu:fN:=⟨⟨#[]⟩,none,0,[],none,0,[],none,0,[]⟩
theorem qS(t:ByteArray)(ht:dz t)(I:cS)(F:cR):cU P 11 #[.string t] I F fun e I' G=>∃x:fN,e=.returned (.tuple #[x.v,(gB t).2.v])∧x.p=(gB t).1∧x.Ok I' []∧G=F:=by
 refine cU.keep (Q:=fun e I' G=>∃(x:fN) (H:cR),e=.returned (.tuple #[x.v,(gB t).2.v])∧x.p=(gB t).1∧x.Ok I' []∧G.Perm (H++F)) ?_ fun e I' G w hl hs ⟨x,H,he,hp,hok,hG⟩=>⟨I',F,cS.le_refl _,(hs.perm hG).drop,x,he,hp,hok,rfl⟩
 refine iE.vc ?_
 unfold iE.V
 intro b2 b3
 refine (zP t ht I _).mono fun e I1 G l1 ⟨q,b,hc,hq,he,hG⟩=>⟨_,he,q.c7 b (eG t)::F,hG.trans dO.symm, ?_⟩
 have h0:(eG t).next≤q.c.l.length:=Nat.zero_le _
 refine (zO b (eG t) I1 _ _ hq h0 dO).mono fun e I2 G2 l2 ⟨x,he,hp,hok,hG2⟩=>?_
 have hok:x.Ok I2 []:=hok
 refine⟨_,_,_,_,_,_,_,_,_,_,he,q.c7 b (q.c.whole (eG t)).2::F,hG2.trans dO.symm,fun b_x=>?_⟩
 refine cU.ret (lL (q:=q) (b:=b) (s:=(q.c.whole (eG t)).2) (.tail _ (.tail _ (.tail _ (.head _))))) fun I3 l3=>⟨_,rfl,q.c7 b (q.c.whole (eG t)).2::F,.refl _,fun ho=>?_,fun ho=>?_⟩
 ·refine⟨_,rfl,_,_,_,PQ.C5 (.head _),Cu,[q.c7 b (q.c.whole (eG t)).2], ?_, ?_,⟨nK.nil,fun x hx=>(by cases hx),nK.nil,nK.nil,fun x hx=>(by cases hx)⟩,.refl _⟩
  ·unfold gB;rw[←hc,if_pos ho];rfl
  ·unfold gB;rw[←hc,if_pos ho];rfl
 ·refine⟨x,[q.c7 b (q.c.whole (eG t)).2], ?_, ?_,hok.mono l3 fun _ h=>h,.refl _⟩
  ·unfold gB;rw[←hc,if_neg (by simp[ho])];rfl
  ·unfold gB;rw[←hc,if_neg (by simp[ho])];exact hp
theorem cU.clean{P:Program}{f:FuncId}{args:Array Value}{I:cS}{F:cR}{v:Value}(h:cU P f args I F fun e I' G=>e=.returned v∧∃H,G.Perm (H++F)):cU P f args I F (kj v F) :=
 h.keep fun e I' G w hl hs ⟨he,H,hp⟩=>⟨I',F,cS.le_refl _,(hs.perm hp).drop,he,rfl⟩
def mo.pf(d:mo):Prop:=Small d.Bz
def j1.pf(r:j1):Prop:=r.when.size≤1048576∧r.dos.length≤1048576∧∀d∈r.dos,d.pf
def iD.pf(x:iD):Prop:=x.rules.length≤1048576∧∀r∈x.rules,r.pf
def yV{α:Type}(f:α→Int):List α→Int
 | []=>0
 | x::r=>f x+yV f r
def mo.lN(d:mo):Int:=1+d.side.size+d.qty.size+d.price.size+d.value.size
def j1.lN(r:j1):Int:=1+r.when.size+yV mo.lN r.dos
def iD.lN(x:iD):Int:=1+yV j1.lN x.rules
def iY.lN(r:iY):Int:=1+r.init.size
def jo.lN(s:jo):Int:=yV iY.lN s.regs+s.slots.length+yV iD.lN s.states
structure jo.pf (s:jo):Prop where
 regs:s.regs.length≤1048576
 lx:∀r∈s.regs,r.init.size≤1048576
 slots:s.slots.length≤1048576
 states:s.states.length≤1048576
 state:∀x∈s.states,x.pf
 all:s.lN≤1048576
def fO.lN(d:fO):Int:=d.p.lN
def dm.lN(r:dm):Int:=r.p.lN
def da.lN(r:da):Int:=r.p.lN
def dH.lN(r:dH):Int:=r.p.lN
structure jo.zQ (s:jo):Prop where
 regs:s.regs.length≤1048576
 lx:∀r∈s.regs,r.init.size≤1048576
 slots:s.slots.length≤1048576
 states:s.states.length≤1048576
 state:∀x∈s.states,x.pf
end Go.Lx
namespace Go.Vc
end Go.Vc
namespace Go.Lx
open Go.Vc
namespace Px
end Px
def BH(z n:Nat)(a:Option Addr)(c:Nat)(A:cR):Prop :=
 ∃b cells e,a=some ⟨b,0,none⟩∧A=[(b,Obj.cells cells e (0,0))]∧c=n+2∧cells[n*z+(z-1)]? = some (.int .i64 (-771))
def pw{α:Type}(R:Bool)(z:Nat)(f:α→List Value)(E:Nat)(O:α→cR→Prop)(a:Option Addr)(n c:Nat)(l:List α)(H:cR):Prop :=
 ∃A hs,H=A++dJ n hs∧Acc z f E a n c l A∧(R=true→BH z n a c A)∧∀(i:Nat) (k:α),l[i]? = some k→O k (hs i)
def iL(R:Bool)(d:fO)(H:cR):Prop:=∃H1 H2 H3 H4,H=H1++(H2++(H3++H4))∧ef 64 R d.side H1∧ef 64 R d.qty H2∧ef 64 R d.price H3∧ef 64 R d.value H4
def nk(R:Bool)(r:dH)(H:cR):Prop:=ef 64 R r.init H
def te(r:dr)(H:cR):Prop:=H=[]
def la(R:Bool)(r:dm)(H:cR):Prop:=∃H1 H2,H=H1++H2∧ef 64 R r.when H1∧pw R 36 fO.enc 114 (iL R) r.a r.dos.length r.c r.dos H2
def jK(R:Bool)(x:da)(H:cR):Prop:=pw R 10 dm.enc 110 (la R) x.a x.rules.length x.c x.rules H
def oP(R:Bool)(s:fN)(H:cR):Prop:=∃H1 H2 H3,H=H1++(H2++H3)∧pw R 11 dH.enc 104 (nk R) s.ra s.regs.length s.rc s.regs H1∧pw R 2 dr.enc 106 te s.sa s.slots.length s.sc s.slots H2 ∧
 pw R 3 da.enc 88 (jK R) s.ta s.states.length s.tc s.states H3
theorem pw.ok{α:Type}{R:Bool}{z E n c:Nat}{f:α→List Value}{O:α→cR→Prop}{a:Option Addr}{l:List α}{H:cR}(h:pw R z f E O a n c l H)(hz:∀x,(f x).length=z){I:cS}{G:cR}{K:α→Prop}(hG:∀x,x∈H→x∈G)
  (hk:∀x H',O x H'→(∀y,y∈H'→y∈G)→K x):nK I G z f a n l∧∀x∈l,K x:=by
 obtain⟨A,hs,rfl,hA, -,hO⟩:=h
 refine⟨hA.zo hz I fun x hx=>hG x (List.mem_append_left _ hx),fun x hx=>?_⟩
 obtain⟨i,hi,rfl⟩:=List.mem_iff_getElem.1 hx
 have hn:=hA.1
 exact hk _ _ (hO i _ (List.getElem?_eq_getElem hi)) fun y hy=>hG y (List.mem_append_right _ (sf (by omega) hy))
theorem iL.ok{R:Bool}{d:fO}{H:cR}(h:iL R d H){I:cS}{G:cR}(hG:∀x,x∈H→x∈G):d.Ok I G:=by
 obtain⟨H1,H2,H3,H4,rfl,h1,h2,h3,h4⟩:=h
 simp only[List.mem_append] at hG
 exact⟨h1.ok fun x hx=>hG x (.inl hx),h2.ok fun x hx=>hG x (.inr (.inl hx)),h3.ok fun x hx=>hG x (.inr (.inr (.inl hx))),h4.ok fun x hx=>hG x (.inr (.inr (.inr hx)))⟩
theorem nk.ok{R:Bool}{d:dH}{H:cR}(h:nk R d H){I:cS}{G:cR}(hG:∀x,x∈H→x∈G):d.Ok I G:=ef.ok h hG
theorem la.ok{R:Bool}{r:dm}{H:cR}(h:la R r H){I:cS}{G:cR}(hG:∀x,x∈H→x∈G):r.Ok I G:=by
 obtain⟨H1,H2,rfl,h1,h2⟩:=h
 obtain⟨g1,g2⟩:=h2.ok (I:=I) (G:=G) (K:=fun d=>d.Ok I G) (fun _=>rfl) (fun x hx=>hG x (List.mem_append_right _ hx)) fun x H' hO hs=>iL.ok hO hs
 exact⟨h1.ok fun x hx=>hG x (List.mem_append_left _ hx),g1,g2⟩
theorem jK.ok{R:Bool}{r:da}{H:cR}(h:jK R r H){I:cS}{G:cR}(hG:∀x,x∈H→x∈G):r.Ok I G :=
 pw.ok h (fun _=>rfl) hG fun x H' hO hs=>la.ok hO hs
theorem oP.ok{R:Bool}{s:fN}{H:cR}(h:oP R s H){I:cS}{G:cR}(hG:∀x,x∈H→x∈G):s.Ok I G:=by
 obtain⟨H1,H2,H3,rfl,h1,h2,h3⟩:=h
 simp only[List.mem_append] at hG
 obtain⟨a1,a2⟩:=h1.ok (I:=I) (G:=G) (K:=fun d=>d.Ok I G) (fun _=>rfl) (fun x hx=>hG x (.inl hx)) fun x H' hO hs=>nk.ok hO hs
 obtain⟨b1, -⟩:=h2.ok (I:=I) (G:=G) (K:=fun d=>True) (fun _=>rfl) (fun x hx=>hG x (.inr (.inl hx))) fun x H' hO hs=>trivial
 obtain⟨c1,c2⟩:=h3.ok (I:=I) (G:=G) (K:=fun d=>d.Ok I G) (fun _=>rfl) (fun x hx=>hG x (.inr (.inr hx))) fun x H' hO hs=>jK.ok hO hs
 exact⟨a1,a2,b1,c1,c2⟩
def Part{α:Type}(z:Nat)(f:α→List Value)(E:Nat)(O:α→cR→Prop)(a:Option Addr)(n c:Nat)(l:List α)(F F':cR):Prop :=
 ∃A hs,Acc z f E a n c l A∧(∀(i:Nat) (k:α),l[i]? = some k→O k (hs i))∧F'.Perm (A++(dJ l.length hs++F))
theorem Part.nil{α:Type}{z E:Nat}{f:α→List Value}{O:α→cR→Prop}{F:cR}:Part z f E O none 0 0 ([]:List α) F F:=⟨[],fun _=>[],Acc.nil,fun i k h=>by simp at h,.refl _⟩
theorem xO{α:Type}{z E n c:Nat}{f:α→List Value}{O:α→cR→Prop}{a:Option Addr}{l:List α}{F:cR}{hs:Nat→cR}{x:α}{Hx A' G:cR}(hA':Acc z f E a n c (l++[x]) A')(hk:∀(i:Nat) (k:α),l[i]? = some k→O k (hs i))(hx:O x Hx)
  (hG:G.Perm (A'++(Hx++(dJ l.length hs++F)))):Part z f E O a n c (l++[x]) F G:=by
 refine⟨A',fun j=>if j<l.length then hs j else Hx,hA',fun j k hj=>?_, ?_⟩
 ·show O k (if j<l.length then hs j else Hx)
  rw[List.getElem?_append] at hj
  split at hj
  ·rename_i hlt';rw[if_pos hlt'];exact hk j k hj
  ·rename_i hge
   have hj':=List.mem_of_getElem? hj
   rw[List.mem_singleton] at hj'
   rw[if_neg hge,hj'];exact hx
 ·rw[List.length_append,List.length_singleton,nb,if_neg (Nat.lt_irrefl _),ux (hs':=hs) fun j hj=>if_pos hj]
  exact hG.trans (cV fun z=>by simp only[cX];omega)
theorem jA{P:Program}{α:Type}{z:Nat}{f:α→List Value}(hz:∀x,(f x).length=z){t ty e:TypeId}{zv:Value}{by':Nat}(ht:P.underlying t=some (.slice e))(hi:(P.info? e).map (fun i=>(i.zero,i.size,i.bytes))=some (some zv,z,by'))(hzs:zv.cells.size=z)(hb:1≤by')
  {a:Option Addr} {n c:Nat} {l:List α} {O:α→cR→Prop} {F F1 F2 R0 Hx:cR} {x:α} (h:Part z f e O a n c l F F1) (h1:∀u∈f x,u.oneCell'=true) {b:Nat} {I:cS} {o:Obj} (ho:o=.cells (f x).toArray e (0,0)) (hbm:I b=some o)
  (hx:O x Hx) (hF2:F2.Perm (R0++(Hx++F1))) (hfit:(l.length+1)*by'≤140737488355328) :
  dC P (Builtin.append_ #[t,t] ty #[.slice a n c,.slice (some ⟨b,0,none⟩) 1 1]) I F2 fun v I' G=>∃a' n' c',v=.slice a' n' c'∧∃F3,G.Perm (R0++F3)∧Part z f e O a' n' c' (l++[x]) F F3:=by
 obtain⟨A,hs,hA,hk,hp⟩:=h
 subst ho
 refine dC.perm (dC.mono (jl hz ht hi hzs hb hA (xs:=[x]) (fun y hy=>by rw[List.mem_singleton] at hy;rw[hy];exact h1) (by simp) rfl ?_ (by simpa using hfit) (F:=R0++(Hx++(dJ l.length hs++F)))) fun v I2 G hI2 ⟨a',n',c',A',hv,hA',hG',_⟩=>?_) ?_
 ·refine⟨rfl,_,_,_,.inl hbm,fun j hj=>?_⟩
  simp
 ·subst hG'
  exact⟨a',n',c',hv,A'++(Hx++(dJ l.length hs++F)),cV fun z=>by simp only[cX];omega,xO hA' hk hx (.refl _)⟩
 ·refine hF2.trans ?_
  exact cV fun z=>by have:=sU hp z;simp only[cX] at this ⊢;omega
section
variable (s:fN) (hl:s.p.zQ) {I:cS} {F:cR} (hok:s.Ok I F)
include hl hok
end
end Go.Lx
namespace Go.Lx
open Go.Vc
section
variable (s:fN) (hl:s.p.zQ) {I:cS} {F:cR} (hok:s.Ok I F)
include hl hok
end
end Go.Lx
namespace Go.Lx
open Go.Vc
section
variable (s:fN) (hl:s.p.zQ) {I:cS} {F:cR} (hok:s.Ok I F)
include hl hok
end
end Go.Lx
namespace Go.Lx
open Go.Vc
end Go.Lx
namespace Go.Vc
section
variable {P:Program} {f:FuncId} {args:Array Value} {I:cS} {F:cR} {R:Value→cS→Prop}
end
def qT(P:Program)(t:TypeId):Bool:=match P.underlying t with
 | some (.interface _)=>true
 | _=>false
theorem sy{P:Program}{t:TypeId}(h:qT P t=true):∃ms,P.underlying t=some (.interface ms):=by
 unfold qT at h
 split at h
 ·rename_i ht;exact⟨_,ht⟩
 ·cases h
theorem oe{P:Program}{t:TypeId}(h:qT P t=true){x:Operand}:eY P .eql t x (.const .nilIface) .nilIface .nilIface true:=by
 obtain⟨ms,ht⟩:=sy h
 intro w
 have he:(Op.equal t .nilIface .nilIface).run P w=.ok true w:=by
  show (Op.equalIn (9999+1) t .nilIface .nilIface).run P w=_
  unfold Op.equalIn
  simp[Sem.run_bind,dA ht]
 simp[eqGuard,binOp,Sem.run_bind,he]
theorem oQ{P:Program}{t:TypeId}(h:qT P t=true){x:Operand}{d:TypeId}{v:Value}:eY P .eql t x (.const .nilIface) (.iface d v) .nilIface false:=by
 obtain⟨ms,ht⟩:=sy h
 intro w
 have he:(Op.equal t (.iface d v) .nilIface).run P w=.ok false w:=by
  show (Op.equalIn (9999+1) t (.iface d v) .nilIface).run P w=_
  unfold Op.equalIn
  simp[Sem.run_bind,dA ht]
 simp[eqGuard,binOp,Sem.run_bind,he]
end Go.Vc
namespace Go.Lx
open Go.Vc
abbrev pg(e:Int):Value:=.iface 48 (.int .i64 e)
def u6(I:cS)(call:ByteArray)(pos:Int)(err v:Value):Prop:=∃b,v=.iface 97 (.pointer (some ⟨b,0,none⟩))∧I b=some (.cells #[.string call,.int .i64 pos,err] 101 (0,0))
theorem u6.mono{I J:cS}{call:ByteArray}{pos:Int}{err v:Value}(h:u6 I call pos err v)(hl:cS.le I J):u6 J call pos err v:=let ⟨b,h1,h2⟩:=h;⟨b,h1,hl.at h2⟩
theorem BI(b n:Nat):(⟨b,0,none⟩:Addr).add n=⟨b,n,none⟩:=by unfold Addr.add;split<;>simp_all
end Go.Lx
namespace Go.As
open Go.RowKit Go.Extern.Stop Go.Stop Go.Extern
theorem Cg(z:Sem Value)(f:TypeId→Addr→Nat→Nat→Sem Value)(v:Value) :
  ReflectliteValue.method z f #[v]=(do match ←ReflectliteValue.parts v with | none=>z | some (t,a,fl)=>f t a fl (fl % 32)):=rfl
theorem CZ(v x:Value):ReflectliteValue.set #[v,x]=(do
  let (some (dst,a,fl),some (src,b,_)):=(←ReflectliteValue.parts v,←ReflectliteValue.parts x)
   | unsupported (.noEntry "extern/(internal/reflectlite.Value).Set.zeroValue")
  if fl / ReflectliteValue.flagAddr % 2==0 then unsupported (.noEntry "extern/(internal/reflectlite.Value).Set.unaddressable")
  let val ←loadVar src b
  if ←Rtype.directlyAssignable dst src then storeVar dst a val
  else if ←Rtype.implements dst src then
   if (←Rtype.kind src)==20 then
    match val with
    | .nilIface=>unsupported (.noEntry "extern/reflectlite: a nil value of one interface type handed on as a value of another")
    | _=>storeVar dst a val
   else storeVar dst a (.iface src val)
  else panicString ("reflectlite.Set: value of type " ++ (←Rtype.spelt src) ++ " is not assignable to type " ++ (←Rtype.spelt dst))
  pure (.tuple #[])):=rfl
theorem qU(h:Value)(w:World):(Go.method 368 196 (.agg #[h]) "Kind").run Go.Proofs.Tryz.prog w=.ok (176,h) w:=by kernel_rfl
theorem qV(h:Value)(w:World):(Go.method 368 196 (.agg #[h]) "Elem").run Go.Proofs.Tryz.prog w=.ok (188,.agg #[h]) w:=by kernel_rfl
theorem ky(h:Value)(w:World):(Go.method 368 196 (.agg #[h]) "Implements").run Go.Proofs.Tryz.prog w=.ok (189,.agg #[h]) w:=by kernel_rfl
theorem fG(h:Value)(w:World):(Go.method 368 196 (.agg #[h]) "AssignableTo").run Go.Proofs.Tryz.prog w=.ok (186,.agg #[h]) w:=by kernel_rfl
theorem yW(t:Addr)(w:World):(ReflectliteValue.unpack (.iface 99 (.pointer (some t)))).run Go.Proofs.Tryz.prog w=.ok (.agg #[.pointer (some ⟨1,99,none⟩),.pointer (some ⟨w.heap.size,0,none⟩),.int .u64 150]) (w.alloc (.cells #[.pointer (some t)] 99)):=by kernel_rfl
theorem BJ(a:Addr)(w:World):(ReflectliteValue.methodAny (ReflectliteValue.valueError "reflectlite.Value.Type" 0) (fun t _ _ _=>ReflectliteType.toType t) #[(.agg #[.pointer (some ⟨1,99,none⟩),.pointer (some a),.int .u64 150])]).run Go.Proofs.Tryz.prog w=.ok (.iface 196 (.agg #[.pointer (some ⟨1,99,none⟩)])) w:=by kernel_rfl
theorem AX(w:World):((ReflectliteType.abiMethod fun t=>(fun a:Nat=>Value.int IntKind.u8 (a:Int)) <$> Rtype.kind t) #[.pointer (some ⟨1,99,none⟩)]).run Go.Proofs.Tryz.prog w=.ok (.int .u8 22) w:=by kernel_rfl
theorem BK(w:World):((ReflectliteType.abiMethod fun t=>(fun a:Nat=>Value.int IntKind.u8 (a:Int)) <$> Rtype.kind t) #[.pointer (some ⟨1,97,none⟩)]).run Go.Proofs.Tryz.prog w=.ok (.int .u8 22) w:=by kernel_rfl
theorem wP(a:Addr)(w:World):(ReflectliteValue.parts (.agg #[.pointer (some ⟨1,99,none⟩),.pointer (some a),.int .u64 150])).run Go.Proofs.Tryz.prog w=.ok (some (99,a,150)) w:=by kernel_rfl
theorem wQ:Go.Proofs.Tryz.prog.underlying 99=some (.pointer 97):=by kernel_rfl
theorem AY(a p:Addr)(W:World)(ha:W.cell? a=some (.pointer (some p))) :
  (ReflectliteValue.method (ReflectliteValue.valueError "reflectlite.Value.IsNil" 0) ReflectliteValue.isNil #[(.agg #[.pointer (some ⟨1,99,none⟩),.pointer (some a),.int .u64 150])]).run Go.Proofs.Tryz.prog W=.ok (.bool false) W:=by
 rw[Cg]
 simp only[Sem.run_bind,wP,Result.andThen]
 simp[ReflectliteValue.isNil,loadVar,isAgg,underlying,wQ,ha,Result.andThen]
theorem BL(w:World):(ReflectliteType.method ReflectliteType.elem #[.agg #[.pointer (some ⟨1,99,none⟩)]]).run Go.Proofs.Tryz.prog w=.ok (.iface 196 (.agg #[.pointer (some ⟨1,97,none⟩)])) w:=by kernel_rfl
theorem BM(w:World):(ReflectliteType.relation "Implements" ReflectliteType.implements_ #[.agg #[.pointer (some ⟨1,97,none⟩)],.iface 196 (.agg #[.pointer (some ⟨1,45,none⟩)])]).run Go.Proofs.Tryz.prog w=.ok (.bool true) w:=by kernel_rfl
theorem tf(v:Value)(w:World):(ReflectliteType.typeOf #[.iface 97 v]).run Go.Proofs.Tryz.prog w=.ok (.iface 196 (.agg #[.pointer (some ⟨1,97,none⟩)])) w:=by kernel_rfl
theorem zR(w:World):(Rtype.elem? 99).run Go.Proofs.Tryz.prog w=.ok (some 97) w:=by kernel_rfl
theorem C6(p:Addr)(w:World):(ReflectliteValue.mk 97 p ReflectliteValue.flagAddr).run Go.Proofs.Tryz.prog w=.ok (.agg #[.pointer (some ⟨1,97,none⟩),.pointer (some p),.int .u64 406]) w:=by kernel_rfl
theorem AZ(a p:Addr)(W:World)(ha:W.cell? a=some (.pointer (some p))) :
  (ReflectliteValue.method (ReflectliteValue.valueError "reflectlite.Value.Elem" 0) ReflectliteValue.elem #[(.agg #[.pointer (some ⟨1,99,none⟩),.pointer (some a),.int .u64 150])]).run Go.Proofs.Tryz.prog W=.ok (.agg #[.pointer (some ⟨1,97,none⟩),.pointer (some p),.int .u64 406]) W:=by
 rw[Cg]
 simp only[Sem.run_bind,wP,Result.andThen]
 simp[ReflectliteValue.elem,loadVar,isAgg,underlying,wQ,ha,Result.andThen,zR,C6]
theorem zS(a:Addr)(w:World):(ReflectliteValue.parts (.agg #[.pointer (some ⟨1,97,none⟩),.pointer (some a),.int .u64 406])).run Go.Proofs.Tryz.prog w=.ok (some (97,a,406)) w:=by kernel_rfl
theorem A0(a:Addr)(w:World):(ReflectliteValue.parts (.agg #[.pointer (some ⟨1,97,none⟩),.pointer (some a),.int .u64 150])).run Go.Proofs.Tryz.prog w=.ok (some (97,a,150)) w:=by kernel_rfl
theorem zT(w:World):(Rtype.directlyAssignable 97 97).run Go.Proofs.Tryz.prog w=.ok true w:=by kernel_rfl
theorem A3:Go.Proofs.Tryz.prog.underlying 97=some (.pointer 101):=by kernel_rfl
theorem A4(x:Addr)(w:World):(ReflectliteValue.unpack (.iface 97 (.pointer (some x)))).run Go.Proofs.Tryz.prog w=.ok (.agg #[.pointer (some ⟨1,97,none⟩),.pointer (some ⟨w.heap.size,0,none⟩),.int .u64 150]) (w.alloc (.cells #[.pointer (some x)] 97)):=by kernel_rfl
theorem Cv(ta b:Addr)(x:Addr)(old:Value)(W:World)(hb:W.cell? b=some (.pointer (some x)))(ht:W.cell? ta=some old)(hf:W.frozen? ta=false) :
  (ReflectliteValue.set #[(.agg #[.pointer (some ⟨1,97,none⟩),.pointer (some ta),.int .u64 406]),(.agg #[.pointer (some ⟨1,97,none⟩),.pointer (some b),.int .u64 150])]).run Go.Proofs.Tryz.prog W=.ok (.tuple #[]) (W.setCell ta (.pointer (some x))):=by
 rw[CZ]
 simp only[Sem.run_bind,zS,A0,Result.andThen]
 simp[ReflectliteValue.flagAddr,loadVar,isAgg,underlying,A3,hb,Result.andThen,zT,storeVar,Value.cells,storeCells,Addr.add]
 rw[run_store Go.Proofs.Tryz.prog W ta _ _ (by rfl)]
 simp[ht,hf]
theorem yX(t:Addr)(w:World):(ReflectliteValue.unpack (.iface 102 (.pointer (some t)))).run Go.Proofs.Tryz.prog w=.ok (.agg #[.pointer (some ⟨1,102,none⟩),.pointer (some ⟨w.heap.size,0,none⟩),.int .u64 150]) (w.alloc (.cells #[.pointer (some t)] 102)):=by kernel_rfl
theorem BN(a:Addr)(w:World):(ReflectliteValue.methodAny (ReflectliteValue.valueError "reflectlite.Value.Type" 0) (fun t _ _ _=>ReflectliteType.toType t) #[(.agg #[.pointer (some ⟨1,102,none⟩),.pointer (some a),.int .u64 150])]).run Go.Proofs.Tryz.prog w=.ok (.iface 196 (.agg #[.pointer (some ⟨1,102,none⟩)])) w:=by kernel_rfl
theorem A5(w:World):((ReflectliteType.abiMethod fun t=>(fun a:Nat=>Value.int IntKind.u8 (a:Int)) <$> Rtype.kind t) #[.pointer (some ⟨1,102,none⟩)]).run Go.Proofs.Tryz.prog w=.ok (.int .u8 22) w:=by kernel_rfl
theorem BO(w:World):((ReflectliteType.abiMethod fun t=>(fun a:Nat=>Value.int IntKind.u8 (a:Int)) <$> Rtype.kind t) #[.pointer (some ⟨1,48,none⟩)]).run Go.Proofs.Tryz.prog w=.ok (.int .u8 2) w:=by kernel_rfl
theorem wR(a:Addr)(w:World):(ReflectliteValue.parts (.agg #[.pointer (some ⟨1,102,none⟩),.pointer (some a),.int .u64 150])).run Go.Proofs.Tryz.prog w=.ok (some (102,a,150)) w:=by kernel_rfl
theorem wS:Go.Proofs.Tryz.prog.underlying 102=some (.pointer 48):=by kernel_rfl
theorem A6(a p:Addr)(W:World)(ha:W.cell? a=some (.pointer (some p))) :
  (ReflectliteValue.method (ReflectliteValue.valueError "reflectlite.Value.IsNil" 0) ReflectliteValue.isNil #[(.agg #[.pointer (some ⟨1,102,none⟩),.pointer (some a),.int .u64 150])]).run Go.Proofs.Tryz.prog W=.ok (.bool false) W:=by
 rw[Cg]
 simp only[Sem.run_bind,wR,Result.andThen]
 simp[ReflectliteValue.isNil,loadVar,isAgg,underlying,wS,ha,Result.andThen]
theorem BP(w:World):(ReflectliteType.method ReflectliteType.elem #[.agg #[.pointer (some ⟨1,102,none⟩)]]).run Go.Proofs.Tryz.prog w=.ok (.iface 196 (.agg #[.pointer (some ⟨1,48,none⟩)])) w:=by kernel_rfl
theorem BQ(w:World):(ReflectliteType.relation "Implements" ReflectliteType.implements_ #[.agg #[.pointer (some ⟨1,48,none⟩)],.iface 196 (.agg #[.pointer (some ⟨1,45,none⟩)])]).run Go.Proofs.Tryz.prog w=.ok (.bool true) w:=by kernel_rfl
theorem pM(v:Value)(w:World):(ReflectliteType.typeOf #[.iface 48 v]).run Go.Proofs.Tryz.prog w=.ok (.iface 196 (.agg #[.pointer (some ⟨1,48,none⟩)])) w:=by kernel_rfl
theorem zU(w:World):(Rtype.elem? 102).run Go.Proofs.Tryz.prog w=.ok (some 48) w:=by kernel_rfl
theorem C7(p:Addr)(w:World):(ReflectliteValue.mk 48 p ReflectliteValue.flagAddr).run Go.Proofs.Tryz.prog w=.ok (.agg #[.pointer (some ⟨1,48,none⟩),.pointer (some p),.int .u64 386]) w:=by kernel_rfl
theorem vU(a p:Addr)(W:World)(ha:W.cell? a=some (.pointer (some p))) :
  (ReflectliteValue.method (ReflectliteValue.valueError "reflectlite.Value.Elem" 0) ReflectliteValue.elem #[(.agg #[.pointer (some ⟨1,102,none⟩),.pointer (some a),.int .u64 150])]).run Go.Proofs.Tryz.prog W=.ok (.agg #[.pointer (some ⟨1,48,none⟩),.pointer (some p),.int .u64 386]) W:=by
 rw[Cg]
 simp only[Sem.run_bind,wR,Result.andThen]
 simp[ReflectliteValue.elem,loadVar,isAgg,underlying,wS,ha,Result.andThen,zU,C7]
theorem zV(a:Addr)(w:World):(ReflectliteValue.parts (.agg #[.pointer (some ⟨1,48,none⟩),.pointer (some a),.int .u64 386])).run Go.Proofs.Tryz.prog w=.ok (some (48,a,386)) w:=by kernel_rfl
theorem A7(a:Addr)(w:World):(ReflectliteValue.parts (.agg #[.pointer (some ⟨1,48,none⟩),.pointer (some a),.int .u64 130])).run Go.Proofs.Tryz.prog w=.ok (some (48,a,130)) w:=by kernel_rfl
theorem zW(w:World):(Rtype.directlyAssignable 48 48).run Go.Proofs.Tryz.prog w=.ok true w:=by kernel_rfl
theorem A8:Go.Proofs.Tryz.prog.underlying 48=some (.int .i64):=by kernel_rfl
theorem vV(x:Int)(w:World):(ReflectliteValue.unpack (.iface 48 (.int .i64 x))).run Go.Proofs.Tryz.prog w=.ok (.agg #[.pointer (some ⟨1,48,none⟩),.pointer (some ⟨w.heap.size,0,none⟩),.int .u64 130]) (w.alloc (.cells #[.int .i64 x] 48)):=by kernel_rfl
theorem A9(ta b:Addr)(x:Int)(old:Value)(W:World)(hb:W.cell? b=some (.int .i64 x))(ht:W.cell? ta=some old)(hf:W.frozen? ta=false) :
  (ReflectliteValue.set #[(.agg #[.pointer (some ⟨1,48,none⟩),.pointer (some ta),.int .u64 386]),(.agg #[.pointer (some ⟨1,48,none⟩),.pointer (some b),.int .u64 130])]).run Go.Proofs.Tryz.prog W=.ok (.tuple #[]) (W.setCell ta (.int .i64 x)):=by
 rw[CZ]
 simp only[Sem.run_bind,zV,A7,Result.andThen]
 simp[ReflectliteValue.flagAddr,loadVar,isAgg,underlying,A8,hb,Result.andThen,zW,storeVar,Value.cells,storeCells,Addr.add]
 rw[run_store Go.Proofs.Tryz.prog W ta _ _ (by rfl)]
 simp[ht,hf]
theorem yY(w:World):(ReflectliteType.relation "AssignableTo" ReflectliteType.assignableTo #[.agg #[.pointer (some ⟨1,97,none⟩)],.iface 196 (.agg #[.pointer (some ⟨1,97,none⟩)])]).run Go.Proofs.Tryz.prog w=.ok (.bool true) w:=by kernel_rfl
theorem uN(w:World):(ReflectliteType.relation "AssignableTo" ReflectliteType.assignableTo #[.agg #[.pointer (some ⟨1,97,none⟩)],.iface 196 (.agg #[.pointer (some ⟨1,48,none⟩)])]).run Go.Proofs.Tryz.prog w=.ok (.bool false) w:=by kernel_rfl
theorem qW(w:World):(ReflectliteType.relation "AssignableTo" ReflectliteType.assignableTo #[.agg #[.pointer (some ⟨1,48,none⟩)],.iface 196 (.agg #[.pointer (some ⟨1,48,none⟩)])]).run Go.Proofs.Tryz.prog w=.ok (.bool true) w:=by kernel_rfl
theorem Ag(v:Value)(xT:TypeId)(w:World):(Instr.typeAssert (.iface 97 v) xT 216 true).run Go.Proofs.Tryz.prog w=.ok (.tuple #[.nilIface,.bool false]) w:=run_typeAssert_lacksB Go.Proofs.Tryz.underlying216 (by kernel_rfl) (by kernel_rfl) v xT w
theorem wT(v:Value)(xT:TypeId)(w:World):(Instr.typeAssert (.iface 97 v) xT 201 true).run Go.Proofs.Tryz.prog w=.ok (.tuple #[.iface 97 v,.bool true]) w:=run_typeAssert_hasB Go.Proofs.Tryz.underlying201 (by kernel_rfl) v xT w
theorem jr(e:Addr)(w:World):(Go.method 368 97 (.pointer (some e)) "Unwrap").run Go.Proofs.Tryz.prog w=.ok (181,.pointer (some e)) w:=by kernel_rfl
abbrev C0:Value:=.iface 196 (.agg #[.pointer (some ⟨1,97,none⟩)])
abbrev Ch:Value:=.iface 196 (.agg #[.pointer (some ⟨1,48,none⟩)])
abbrev rH(PT:Nat)(a:Addr):Obj:=.cells #[.pointer (some ⟨1,PT,none⟩),.pointer (some a),.int .u64 150] 162
set_option maxHeartbeats 4000000 in
theorem BR(e t a:Addr)(old tgt:Value)(w:World)(ha:w.cell? a=some (.pointer (some t)))(ht0:w.cell? t=some old)(hf0:w.frozen? t=false) :
  Calls Go.Proofs.Tryz.prog 85 #[.iface 97 (.pointer (some e)),tgt,.agg #[.pointer (some ⟨1,99,none⟩),.pointer (some a),.int .u64 150],C0] w fun ev w'=>ev=.returned (.bool true) ∧
   w'=((w.alloc (rH 99 a)).alloc (.cells #[.pointer (some e)] 97)).setCell t (.pointer (some e)):=by
 have hTO:=@run_callFunc_extern Go.Proofs.Tryz.prog 61 _ ReflectliteType.typeOf Go.Proofs.Tryz.func61 (by kernel_rfl) (by kernel_rfl) (by kernel_rfl) (by kernel_rfl)
 have hA:=@run_callFunc_extern Go.Proofs.Tryz.prog 186 _ (ReflectliteType.relation "AssignableTo" ReflectliteType.assignableTo) Go.Proofs.Tryz.func186 (by kernel_rfl) (by kernel_rfl) (by kernel_rfl) (by kernel_rfl)
 have hVE:=@run_callFunc_extern Go.Proofs.Tryz.prog 111 _ (ReflectliteValue.method (ReflectliteValue.valueError "reflectlite.Value.Elem" 0) ReflectliteValue.elem) Go.Proofs.Tryz.func111 (by kernel_rfl) (by kernel_rfl) (by kernel_rfl) (by kernel_rfl)
 have hS:=@run_callFunc_extern Go.Proofs.Tryz.prog 112 _ ReflectliteValue.set Go.Proofs.Tryz.func112 (by kernel_rfl) (by kernel_rfl) (by kernel_rfl) (by kernel_rfl)
 have hV:=@run_callFunc_extern Go.Proofs.Tryz.prog 82 _ (fun args=>ReflectliteValue.unpack (args.getD 0 (.tuple #[]))) Go.Proofs.Tryz.func82 (by kernel_rfl) (by kernel_rfl) (by kernel_rfl) (by kernel_rfl)
 have tO:=tf
 have mA:=fG
 have aF:=yY
 have vF:=A4
 have hal:a.block<w.heap.size:=by
  rcases Nat.lt_or_ge a.block w.heap.size with h | h
  ·exact h
  ·simp[World.cell?,Array.getElem?_eq_none h] at ha
 have htl:t.block<w.heap.size:=by
  rcases Nat.lt_or_ge t.block w.heap.size with h | h
  ·exact h
  ·simp[World.cell?,Array.getElem?_eq_none h] at ht0
 have el:=AZ a t (w.alloc (rH 99 a)) (by rw[World.cell?_alloc_lt _ _ a hal];exact ha)
 have st:=Cv t ⟨w.heap.size+1,0,none⟩ e old ((w.alloc (rH 99 a)).alloc (.cells #[.pointer (some e)] 97))
  (by rw[World.cell?_alloc_at _ _ _ _ (by simp)];rfl)
  (by rw[World.cell?_alloc_lt _ _ t (by simp;omega),World.cell?_alloc_lt _ _ t htl];exact ht0)
  (by rw[World.frozen?_alloc_old _ _ t (by simp;omega),World.frozen?_alloc_old _ _ t (Nat.ne_of_lt htl)];exact hf0)
 go_enter Go.Proofs.Tryz.func85,Go.Proofs.Tryz.ntmps85
 go_wp2
 refine wp_loop_rounds 1 ?_
 rw[rounds_succ]
 go_wp2
 go_ret
 exact⟨rfl,rfl⟩
set_option maxHeartbeats 4000000 in
theorem BS(n:Int)(t a:Addr)(old tgt:Value)(w:World)(ha:w.cell? a=some (.pointer (some t)))(ht0:w.cell? t=some old)(hf0:w.frozen? t=false) :
  Calls Go.Proofs.Tryz.prog 85 #[.iface 48 (.int .i64 n),tgt,.agg #[.pointer (some ⟨1,102,none⟩),.pointer (some a),.int .u64 150],Ch] w fun ev w'=>ev=.returned (.bool true) ∧
   w'=((w.alloc (rH 102 a)).alloc (.cells #[.int .i64 n] 48)).setCell t (.int .i64 n):=by
 have hTO:=@run_callFunc_extern Go.Proofs.Tryz.prog 61 _ ReflectliteType.typeOf Go.Proofs.Tryz.func61 (by kernel_rfl) (by kernel_rfl) (by kernel_rfl) (by kernel_rfl)
 have hA:=@run_callFunc_extern Go.Proofs.Tryz.prog 186 _ (ReflectliteType.relation "AssignableTo" ReflectliteType.assignableTo) Go.Proofs.Tryz.func186 (by kernel_rfl) (by kernel_rfl) (by kernel_rfl) (by kernel_rfl)
 have hVE:=@run_callFunc_extern Go.Proofs.Tryz.prog 111 _ (ReflectliteValue.method (ReflectliteValue.valueError "reflectlite.Value.Elem" 0) ReflectliteValue.elem) Go.Proofs.Tryz.func111 (by kernel_rfl) (by kernel_rfl) (by kernel_rfl) (by kernel_rfl)
 have hS:=@run_callFunc_extern Go.Proofs.Tryz.prog 112 _ ReflectliteValue.set Go.Proofs.Tryz.func112 (by kernel_rfl) (by kernel_rfl) (by kernel_rfl) (by kernel_rfl)
 have hV:=@run_callFunc_extern Go.Proofs.Tryz.prog 82 _ (fun args=>ReflectliteValue.unpack (args.getD 0 (.tuple #[]))) Go.Proofs.Tryz.func82 (by kernel_rfl) (by kernel_rfl) (by kernel_rfl) (by kernel_rfl)
 have tO:=pM
 have mA:=fG
 have aE:=qW
 have vE:=vV
 have hal:a.block<w.heap.size:=by
  rcases Nat.lt_or_ge a.block w.heap.size with h | h
  ·exact h
  ·simp[World.cell?,Array.getElem?_eq_none h] at ha
 have htl:t.block<w.heap.size:=by
  rcases Nat.lt_or_ge t.block w.heap.size with h | h
  ·exact h
  ·simp[World.cell?,Array.getElem?_eq_none h] at ht0
 have el:=vU a t (w.alloc (rH 102 a)) (by rw[World.cell?_alloc_lt _ _ a hal];exact ha)
 have st:=A9 t ⟨w.heap.size+1,0,none⟩ n old ((w.alloc (rH 102 a)).alloc (.cells #[.int .i64 n] 48))
  (by rw[World.cell?_alloc_at _ _ _ _ (by simp)];rfl)
  (by rw[World.cell?_alloc_lt _ _ t (by simp;omega),World.cell?_alloc_lt _ _ t htl];exact ht0)
  (by rw[World.frozen?_alloc_old _ _ t (by simp;omega),World.frozen?_alloc_old _ _ t (Nat.ne_of_lt htl)];exact hf0)
 go_enter Go.Proofs.Tryz.func85,Go.Proofs.Tryz.ntmps85
 go_wp2
 refine wp_loop_rounds 1 ?_
 rw[rounds_succ]
 go_wp2
 go_ret
 exact⟨rfl,rfl⟩
abbrev vW:Value:=.iface 196 (.agg #[.pointer (some ⟨1,45,none⟩)])
set_option maxHeartbeats 4000000 in
theorem Cw(d:TypeId)(v:Value)(t:Addr)(w w2:World)(r:Bool)(hg:w.cell? ⟨0,0,none⟩=some vW)
  (h:Calls Go.Proofs.Tryz.prog 85 #[.iface d v,.iface 99 (.pointer (some t)),.agg #[.pointer (some ⟨1,99,none⟩),.pointer (some ⟨w.heap.size,0,none⟩),.int .u64 150],C0] ((w.alloc (.cells #[.pointer (some t)] 99)).alloc (rH 99 ⟨w.heap.size,0,none⟩)) fun ev w'=>ev=.returned (.bool r)∧w'=w2) :
  Calls Go.Proofs.Tryz.prog 31 #[.iface d v,.iface 99 (.pointer (some t))] w fun ev w'=>ev=.returned (.bool r)∧w'=w2:=by
 have hV:=@run_callFunc_extern Go.Proofs.Tryz.prog 82 _ (fun args=>ReflectliteValue.unpack (args.getD 0 (.tuple #[]))) Go.Proofs.Tryz.func82 (by kernel_rfl) (by kernel_rfl) (by kernel_rfl) (by kernel_rfl)
 have hT:=@run_callFunc_extern Go.Proofs.Tryz.prog 83 _ (ReflectliteValue.methodAny (ReflectliteValue.valueError "reflectlite.Value.Type" 0) (fun t _ _ _=>ReflectliteType.toType t)) Go.Proofs.Tryz.func83 (by kernel_rfl) (by kernel_rfl) (by kernel_rfl) (by kernel_rfl)
 have hN:=@run_callFunc_extern Go.Proofs.Tryz.prog 84 _ (ReflectliteValue.method (ReflectliteValue.valueError "reflectlite.Value.IsNil" 0) ReflectliteValue.isNil) Go.Proofs.Tryz.func84 (by kernel_rfl) (by kernel_rfl) (by kernel_rfl) (by kernel_rfl)
 have hK:=@run_callFunc_extern Go.Proofs.Tryz.prog 176 _ (ReflectliteType.abiMethod fun t=>do pure (.int .u8 (←Rtype.kind t))) Go.Proofs.Tryz.func176 (by kernel_rfl) (by kernel_rfl) (by kernel_rfl) (by kernel_rfl)
 have hE:=@run_callFunc_extern Go.Proofs.Tryz.prog 188 _ (ReflectliteType.method ReflectliteType.elem) Go.Proofs.Tryz.func188 (by kernel_rfl) (by kernel_rfl) (by kernel_rfl) (by kernel_rfl)
 have hI:=@run_callFunc_extern Go.Proofs.Tryz.prog 189 _ (ReflectliteType.relation "Implements" ReflectliteType.implements_) Go.Proofs.Tryz.func189 (by kernel_rfl) (by kernel_rfl) (by kernel_rfl) (by kernel_rfl)
 have f6:=yW
 have f7:=BJ
 have mK:=qU
 have mE:=qV
 have mI:=ky
 have kP:=AX
 have kT:=BK
 have eT:=BL
 have iT:=BM
 have n8:=AY ⟨w.heap.size,0,none⟩ t ((w.alloc (.cells #[.pointer (some t)] 99)).alloc (rH 99 ⟨w.heap.size,0,none⟩)) (by simp)
 have hlt:0<w.heap.size:=by
  rcases Nat.eq_zero_or_pos w.heap.size with h0 | h
  ·simp[World.cell?,h0] at hg
  ·exact h
 have hg2:((w.alloc (.cells #[.pointer (some t)] 99)).alloc (rH 99 ⟨w.heap.size,0,none⟩)).cell? ⟨0,0,none⟩=some vW:=by
  rw[World.cell?_alloc_lt _ _ ⟨0,0,none⟩ (by simp),World.cell?_alloc_lt _ _ ⟨0,0,none⟩ hlt];exact hg
 go_enter Go.Proofs.Tryz.func31,Go.Proofs.Tryz.ntmps31
 go_wp2_with (first | (go_at_call 85;refine h.mono ?_;rintro e w' ⟨rfl,rfl⟩))
 go_ret
 exact⟨rfl,rfl⟩
set_option maxHeartbeats 4000000 in
theorem Ba(d:TypeId)(v:Value)(t:Addr)(w w2:World)(r:Bool)(hg:w.cell? ⟨0,0,none⟩=some vW)
  (h:Calls Go.Proofs.Tryz.prog 85 #[.iface d v,.iface 102 (.pointer (some t)),.agg #[.pointer (some ⟨1,102,none⟩),.pointer (some ⟨w.heap.size,0,none⟩),.int .u64 150],Ch] ((w.alloc (.cells #[.pointer (some t)] 102)).alloc (rH 102 ⟨w.heap.size,0,none⟩)) fun ev w'=>ev=.returned (.bool r)∧w'=w2) :
  Calls Go.Proofs.Tryz.prog 31 #[.iface d v,.iface 102 (.pointer (some t))] w fun ev w'=>ev=.returned (.bool r)∧w'=w2:=by
 have hV:=@run_callFunc_extern Go.Proofs.Tryz.prog 82 _ (fun args=>ReflectliteValue.unpack (args.getD 0 (.tuple #[]))) Go.Proofs.Tryz.func82 (by kernel_rfl) (by kernel_rfl) (by kernel_rfl) (by kernel_rfl)
 have hT:=@run_callFunc_extern Go.Proofs.Tryz.prog 83 _ (ReflectliteValue.methodAny (ReflectliteValue.valueError "reflectlite.Value.Type" 0) (fun t _ _ _=>ReflectliteType.toType t)) Go.Proofs.Tryz.func83 (by kernel_rfl) (by kernel_rfl) (by kernel_rfl) (by kernel_rfl)
 have hN:=@run_callFunc_extern Go.Proofs.Tryz.prog 84 _ (ReflectliteValue.method (ReflectliteValue.valueError "reflectlite.Value.IsNil" 0) ReflectliteValue.isNil) Go.Proofs.Tryz.func84 (by kernel_rfl) (by kernel_rfl) (by kernel_rfl) (by kernel_rfl)
 have hK:=@run_callFunc_extern Go.Proofs.Tryz.prog 176 _ (ReflectliteType.abiMethod fun t=>do pure (.int .u8 (←Rtype.kind t))) Go.Proofs.Tryz.func176 (by kernel_rfl) (by kernel_rfl) (by kernel_rfl) (by kernel_rfl)
 have hE:=@run_callFunc_extern Go.Proofs.Tryz.prog 188 _ (ReflectliteType.method ReflectliteType.elem) Go.Proofs.Tryz.func188 (by kernel_rfl) (by kernel_rfl) (by kernel_rfl) (by kernel_rfl)
 have hI:=@run_callFunc_extern Go.Proofs.Tryz.prog 189 _ (ReflectliteType.relation "Implements" ReflectliteType.implements_) Go.Proofs.Tryz.func189 (by kernel_rfl) (by kernel_rfl) (by kernel_rfl) (by kernel_rfl)
 have f6:=yX
 have f7:=BN
 have mK:=qU
 have mE:=qV
 have mI:=ky
 have kP:=A5
 have kT:=BO
 have eT:=BP
 have iT:=BQ
 have n8:=A6 ⟨w.heap.size,0,none⟩ t ((w.alloc (.cells #[.pointer (some t)] 102)).alloc (rH 102 ⟨w.heap.size,0,none⟩)) (by simp)
 have hlt:0<w.heap.size:=by
  rcases Nat.eq_zero_or_pos w.heap.size with h0 | h
  ·simp[World.cell?,h0] at hg
  ·exact h
 have hg2:((w.alloc (.cells #[.pointer (some t)] 102)).alloc (rH 102 ⟨w.heap.size,0,none⟩)).cell? ⟨0,0,none⟩=some vW:=by
  rw[World.cell?_alloc_lt _ _ ⟨0,0,none⟩ (by simp),World.cell?_alloc_lt _ _ ⟨0,0,none⟩ hlt];exact hg
 go_enter Go.Proofs.Tryz.func31,Go.Proofs.Tryz.ntmps31
 go_wp2_with (first | (go_at_call 85;refine h.mono ?_;rintro e w' ⟨rfl,rfl⟩))
 go_ret
 exact⟨rfl,rfl⟩
open Go.Vc (Sat)
theorem oR(b:Nat)(v:Value)(w:World)(he:w.cell? ⟨b,2,none⟩=some v):Calls Go.Proofs.Tryz.prog 181 #[.pointer (some ⟨b,0,none⟩)] w fun ev w'=>ev=.returned v∧w'=w:=by
 go_enter Go.Proofs.Tryz.func181,Go.Proofs.Tryz.ntmps181
 go_wp2
 go_ret
 exact⟨rfl,rfl⟩
set_option maxHeartbeats 4000000 in
theorem Bb(b:Nat)(n:Int)(t a:Addr)(old tgt:Value)(w:World)(he:w.cell? ⟨b,2,none⟩=some (.iface 48 (.int .i64 n)))(ha:w.cell? a=some (.pointer (some t)))(ht0:w.cell? t=some old)(hf0:w.frozen? t=false) :
  Calls Go.Proofs.Tryz.prog 85 #[.iface 97 (.pointer (some ⟨b,0,none⟩)),tgt,.agg #[.pointer (some ⟨1,102,none⟩),.pointer (some a),.int .u64 150],Ch] w fun ev w'=>ev=.returned (.bool true) ∧
   w'=((w.alloc (rH 102 a)).alloc (.cells #[.int .i64 n] 48)).setCell t (.int .i64 n):=by
 have hTO:=@run_callFunc_extern Go.Proofs.Tryz.prog 61 _ ReflectliteType.typeOf Go.Proofs.Tryz.func61 (by kernel_rfl) (by kernel_rfl) (by kernel_rfl) (by kernel_rfl)
 have hA:=@run_callFunc_extern Go.Proofs.Tryz.prog 186 _ (ReflectliteType.relation "AssignableTo" ReflectliteType.assignableTo) Go.Proofs.Tryz.func186 (by kernel_rfl) (by kernel_rfl) (by kernel_rfl) (by kernel_rfl)
 have hVE:=@run_callFunc_extern Go.Proofs.Tryz.prog 111 _ (ReflectliteValue.method (ReflectliteValue.valueError "reflectlite.Value.Elem" 0) ReflectliteValue.elem) Go.Proofs.Tryz.func111 (by kernel_rfl) (by kernel_rfl) (by kernel_rfl) (by kernel_rfl)
 have hS:=@run_callFunc_extern Go.Proofs.Tryz.prog 112 _ ReflectliteValue.set Go.Proofs.Tryz.func112 (by kernel_rfl) (by kernel_rfl) (by kernel_rfl) (by kernel_rfl)
 have hV:=@run_callFunc_extern Go.Proofs.Tryz.prog 82 _ (fun args=>ReflectliteValue.unpack (args.getD 0 (.tuple #[]))) Go.Proofs.Tryz.func82 (by kernel_rfl) (by kernel_rfl) (by kernel_rfl) (by kernel_rfl)
 have tO:=pM
 have tO2:=tf
 have mA:=fG
 have aE:=qW
 have aF:=uN
 have vE:=vV
 have t1:=Ag
 have t2:=wT
 have mU:=jr
 have hal:a.block<w.heap.size:=by
  rcases Nat.lt_or_ge a.block w.heap.size with h | h
  ·exact h
  ·simp[World.cell?,Array.getElem?_eq_none h] at ha
 have hel:b<w.heap.size:=by
  rcases Nat.lt_or_ge b w.heap.size with h | h
  ·exact h
  ·simp[World.cell?,Array.getElem?_eq_none h] at he
 have htl:t.block<w.heap.size:=by
  rcases Nat.lt_or_ge t.block w.heap.size with h | h
  ·exact h
  ·simp[World.cell?,Array.getElem?_eq_none h] at ht0
 have he1:(w.alloc (rH 102 a)).cell? ⟨b,2,none⟩=some (.iface 48 (.int .i64 n)):=by rw[World.cell?_alloc_lt _ _ _ hel];exact he
 have el:=vU a t (w.alloc (rH 102 a)) (by rw[World.cell?_alloc_lt _ _ a hal];exact ha)
 have st:=A9 t ⟨w.heap.size+1,0,none⟩ n old ((w.alloc (rH 102 a)).alloc (.cells #[.int .i64 n] 48))
  (by rw[World.cell?_alloc_at _ _ _ _ (by simp)];rfl)
  (by rw[World.cell?_alloc_lt _ _ t (by simp;omega),World.cell?_alloc_lt _ _ t htl];exact ht0)
  (by rw[World.frozen?_alloc_old _ _ t (by simp;omega),World.frozen?_alloc_old _ _ t (Nat.ne_of_lt htl)];exact hf0)
 go_enter Go.Proofs.Tryz.func85,Go.Proofs.Tryz.ntmps85
 go_wp2
 refine wp_loop_rounds 2 ?_
 rw[rounds_succ]
 go_wp2_with (first | (go_at_call 181;refine (oR b _ _ he1).mono ?_;rintro e w' ⟨rfl,rfl⟩))
 rw[rounds_succ]
 go_wp2
 go_ret
 exact⟨rfl,rfl⟩
set_option maxHeartbeats 4000000 in
theorem Bc(b c:Nat)(n:Int)(t a:Addr)(old tgt:Value)(w:World)(he:w.cell? ⟨b,2,none⟩=some (.iface 97 (.pointer (some ⟨c,0,none⟩))))(hc:w.cell? ⟨c,2,none⟩=some (.iface 48 (.int .i64 n)))(ha:w.cell? a=some (.pointer (some t)))(ht0:w.cell? t=some old)(hf0:w.frozen? t=false) :
  Calls Go.Proofs.Tryz.prog 85 #[.iface 97 (.pointer (some ⟨b,0,none⟩)),tgt,.agg #[.pointer (some ⟨1,102,none⟩),.pointer (some a),.int .u64 150],Ch] w fun ev w'=>ev=.returned (.bool true) ∧
   w'=((w.alloc (rH 102 a)).alloc (.cells #[.int .i64 n] 48)).setCell t (.int .i64 n):=by
 have hTO:=@run_callFunc_extern Go.Proofs.Tryz.prog 61 _ ReflectliteType.typeOf Go.Proofs.Tryz.func61 (by kernel_rfl) (by kernel_rfl) (by kernel_rfl) (by kernel_rfl)
 have hA:=@run_callFunc_extern Go.Proofs.Tryz.prog 186 _ (ReflectliteType.relation "AssignableTo" ReflectliteType.assignableTo) Go.Proofs.Tryz.func186 (by kernel_rfl) (by kernel_rfl) (by kernel_rfl) (by kernel_rfl)
 have hVE:=@run_callFunc_extern Go.Proofs.Tryz.prog 111 _ (ReflectliteValue.method (ReflectliteValue.valueError "reflectlite.Value.Elem" 0) ReflectliteValue.elem) Go.Proofs.Tryz.func111 (by kernel_rfl) (by kernel_rfl) (by kernel_rfl) (by kernel_rfl)
 have hS:=@run_callFunc_extern Go.Proofs.Tryz.prog 112 _ ReflectliteValue.set Go.Proofs.Tryz.func112 (by kernel_rfl) (by kernel_rfl) (by kernel_rfl) (by kernel_rfl)
 have hV:=@run_callFunc_extern Go.Proofs.Tryz.prog 82 _ (fun args=>ReflectliteValue.unpack (args.getD 0 (.tuple #[]))) Go.Proofs.Tryz.func82 (by kernel_rfl) (by kernel_rfl) (by kernel_rfl) (by kernel_rfl)
 have tO:=pM
 have tO2:=tf
 have mA:=fG
 have aE:=qW
 have aF:=uN
 have vE:=vV
 have t1:=Ag
 have t2:=wT
 have mU:=jr
 have hal:a.block<w.heap.size:=by
  rcases Nat.lt_or_ge a.block w.heap.size with h | h
  ·exact h
  ·simp[World.cell?,Array.getElem?_eq_none h] at ha
 have hel:b<w.heap.size:=by
  rcases Nat.lt_or_ge b w.heap.size with h | h
  ·exact h
  ·simp[World.cell?,Array.getElem?_eq_none h] at he
 have htl:t.block<w.heap.size:=by
  rcases Nat.lt_or_ge t.block w.heap.size with h | h
  ·exact h
  ·simp[World.cell?,Array.getElem?_eq_none h] at ht0
 have he1:(w.alloc (rH 102 a)).cell? ⟨b,2,none⟩=some (.iface 97 (.pointer (some ⟨c,0,none⟩))):=by rw[World.cell?_alloc_lt _ _ _ hel];exact he
 have hcl:c<w.heap.size:=by
  rcases Nat.lt_or_ge c w.heap.size with h | h
  ·exact h
  ·simp[World.cell?,Array.getElem?_eq_none h] at hc
 have hc1:(w.alloc (rH 102 a)).cell? ⟨c,2,none⟩=some (.iface 48 (.int .i64 n)):=by rw[World.cell?_alloc_lt _ _ _ hcl];exact hc
 have el:=vU a t (w.alloc (rH 102 a)) (by rw[World.cell?_alloc_lt _ _ a hal];exact ha)
 have st:=A9 t ⟨w.heap.size+1,0,none⟩ n old ((w.alloc (rH 102 a)).alloc (.cells #[.int .i64 n] 48))
  (by rw[World.cell?_alloc_at _ _ _ _ (by simp)];rfl)
  (by rw[World.cell?_alloc_lt _ _ t (by simp;omega),World.cell?_alloc_lt _ _ t htl];exact ht0)
  (by rw[World.frozen?_alloc_old _ _ t (by simp;omega),World.frozen?_alloc_old _ _ t (Nat.ne_of_lt htl)];exact hf0)
 go_enter Go.Proofs.Tryz.func85,Go.Proofs.Tryz.ntmps85
 go_wp2
 refine wp_loop_rounds 3 ?_
 rw[rounds_succ]
 go_wp2_with (first | (go_at_call 181;refine (oR b _ _ he1).mono ?_;rintro e w' ⟨rfl,rfl⟩))
 rw[rounds_succ]
 go_wp2_with (first | (go_at_call 181;refine (oR c _ _ hc1).mono ?_;rintro e w' ⟨rfl,rfl⟩))
 rw[rounds_succ]
 go_wp2
 go_ret
 exact⟨rfl,rfl⟩
end Go.As
namespace Go.Lx
open Go.Vc
def Gl(I:cS):Prop:=∃cs ty fz,I 0=some (.cells cs ty fz)∧cs[0]? = some Go.As.vW
theorem Gl.mono{I J:cS}(h:Gl I)(hl:cS.le I J):Gl J:=let ⟨cs,ty,fz,h1,h2⟩:=h;⟨cs,ty,fz,hl.at h1,h2⟩
theorem Gl.cell{I:cS}{F:cR}{w:World}(h:Gl I)(hw:Sat I F w):w.cell? ⟨0,0,none⟩=some Go.As.vW:=by
 obtain⟨cs,ty,fz,h1,h2⟩:=h
 have:=hw.imm _ _ h1
 unfold World.cell?
 simp[this,h2]
theorem Gl.zX{w:World}(h:w.cell? ⟨0,0,none⟩=some Go.As.vW):Gl (cS.all w):=by
 unfold World.cell? at h
 split at h
 ·rename_i c ty fz hc
  exact⟨c,ty,fz,hc,by simpa using h⟩
 ·cases h
theorem jD{I:cS}{F:cR}{w:World}{t ty:Nat}{old:Value}(hw:Sat I ((t,.cells #[old] ty (0,0))::F) w):w.cell? ⟨t,0,none⟩=some old∧w.frozen? ⟨t,0,none⟩=false:=by
 have:=hw.own _ _ (.head _)
 unfold World.cell? World.frozen?
 simp[this]
theorem u6.cell{I:cS}{F:cR}{w:World}{b ty:Nat}{fz:Nat×Nat}{x y z:Value}(h:I b=some (.cells #[x,y,z] ty fz))(hw:Sat I F w):w.cell? ⟨b,2,none⟩=some z:=by
 have:=hw.imm _ _ h
 unfold World.cell?
 simp[this]
theorem jL{w:World}{o o':Obj}{a:Addr}{v:Value}(h:w.cell? a=some v):((w.alloc o).alloc o').cell? a=some v:=by
 have hl:a.block<w.heap.size:=by
  rcases Nat.lt_or_ge a.block w.heap.size with h1 | h1
  ·exact h1
  ·simp[World.cell?,Array.getElem?_eq_none h1] at h
 rw[World.cell?_alloc_lt _ _ _ (by simp;omega),World.cell?_alloc_lt _ _ _ hl];exact h
theorem mh{w:World}{o o':Obj}{a:Addr}{v:Value}(h:w.cell? a=some v)(hf:w.frozen? a=false):((w.alloc o).alloc o').frozen? a=false:=by
 have hl:a.block<w.heap.size:=by
  rcases Nat.lt_or_ge a.block w.heap.size with h1 | h1
  ·exact h1
  ·simp[World.cell?,Array.getElem?_eq_none h1] at h
 rw[World.frozen?_alloc_old _ _ _ (by simp;omega),World.frozen?_alloc_old _ _ _ (Nat.ne_of_lt hl)];exact hf
end Go.Lx
namespace Go.Vc
theorem Sat.gX{I:cS}{F:cR}{w:World}(h:Sat I F w)(o:Obj):Sat I F (w.alloc o):=(h.alloc o).drop (A:=[_])
theorem Sat.zY{I:cS}{F:cR}{w:World}{t ty:Nat}{old v:Value}(h:Sat I ((t,.cells #[old] ty (0,0))::F) w):Sat I ((t,.cells #[v] ty (0,0))::F) (w.setCell ⟨t,0,none⟩ v) :=
 Sat.set h (nu (cs:=[old]) (h.own _ _ (.head _)) 0 v) ⟨rfl,rfl⟩
end Go.Vc
namespace Go.Lx
open Go.Vc
def BT(r:Bool)(G:cR)(e:Ending)(I:cS)(F:cR):Prop:=e=.returned (.bool r)∧F=G
section
variable {I:cS} {F:cR} {t ty:Nat} {old:Value}
theorem zZ(hg:Gl I)(b:Nat):cU P 31 #[.iface 97 (.pointer (some ⟨b,0,none⟩)),.iface 99 (.pointer (some ⟨t,0,none⟩))] I ((t,.cells #[old] ty (0,0))::F) (BT true ((t,.cells #[.pointer (some ⟨b,0,none⟩)] ty (0,0))::F)):=fun w hw=>by
 obtain⟨hc,hf⟩:=jD hw
 refine (Go.As.Cw _ _ _ w _ true (hg.cell hw) (Go.As.BR ⟨b,0,none⟩ ⟨t,0,none⟩ ⟨w.heap.size,0,none⟩ old _ _ (by simp) (jL hc) (mh hc hf))).mono fun e w' ⟨he,hw'⟩=>⟨I,_,cS.le_refl I, ?_,he,rfl⟩
 rw[hw']
 exact Sat.zY ((((hw.gX _).gX _).gX _).gX _)
theorem C1(hg:Gl I)(n:Int):cU P 31 #[pg n,.iface 102 (.pointer (some ⟨t,0,none⟩))] I ((t,.cells #[old] ty (0,0))::F) (BT true ((t,.cells #[.int .i64 n] ty (0,0))::F)):=fun w hw=>by
 obtain⟨hc,hf⟩:=jD hw
 refine (Go.As.Ba _ _ _ w _ true (hg.cell hw) (Go.As.BS n ⟨t,0,none⟩ ⟨w.heap.size,0,none⟩ old _ _ (by simp) (jL hc) (mh hc hf))).mono fun e w' ⟨he,hw'⟩=>⟨I,_,cS.le_refl I, ?_,he,rfl⟩
 rw[hw']
 exact Sat.zY ((((hw.gX _).gX _).gX _).gX _)
theorem BU(hg:Gl I){call:ByteArray}{pos n:Int}{v:Value}(h:u6 I call pos (pg n) v):cU P 31 #[v,.iface 102 (.pointer (some ⟨t,0,none⟩))] I ((t,.cells #[old] ty (0,0))::F) (BT true ((t,.cells #[.int .i64 n] ty (0,0))::F)):=fun w hw=>by
 obtain⟨b,rfl,hb⟩:=h
 obtain⟨hc,hf⟩:=jD hw
 refine (Go.As.Ba _ _ _ w _ true (hg.cell hw) (Go.As.Bb b n ⟨t,0,none⟩ ⟨w.heap.size,0,none⟩ old _ _ (jL (u6.cell hb hw)) (by simp) (jL hc) (mh hc hf))).mono fun e w' ⟨he,hw'⟩=>⟨I,_,cS.le_refl I, ?_,he,rfl⟩
 rw[hw']
 exact Sat.zY ((((hw.gX _).gX _).gX _).gX _)
theorem BV(hg:Gl I){call call':ByteArray}{pos pos' n:Int}{v u:Value}(h:u6 I call pos u v)(h':u6 I call' pos' (pg n) u):cU P 31 #[v,.iface 102 (.pointer (some ⟨t,0,none⟩))] I ((t,.cells #[old] ty (0,0))::F) (BT true ((t,.cells #[.int .i64 n] ty (0,0))::F)):=fun w hw=>by
 obtain⟨b,rfl,hb⟩:=h
 obtain⟨c,rfl,hc'⟩:=h'
 obtain⟨hc,hf⟩:=jD hw
 refine (Go.As.Ba _ _ _ w _ true (hg.cell hw) (Go.As.Bc b c n ⟨t,0,none⟩ ⟨w.heap.size,0,none⟩ old _ _ (jL (u6.cell hb hw)) (jL (u6.cell hc' hw)) (by simp) (jL hc) (mh hc hf))).mono fun e w' ⟨he,hw'⟩=>⟨I,_,cS.le_refl I, ?_,he,rfl⟩
 rw[hw']
 exact Sat.zY ((((hw.gX _).gX _).gX _).gX _)
end
end Go.Lx
namespace Go.Lx
open Go.Vc
def iM(t:Tok):Int:=t.pos+t.text.size
def lp(l:List Tok)(f:Int):Nat→Int
 | 0=>f
 | i+1=>iM ((l[i]?).getD (jm 0))
theorem np(t:Tok)(l:List Tok)(f:Int)(i:Nat):lp (t::l) f (i+1)=lp l (iM t) i:=by cases i<;>rfl
structure Steps (s:ByteArray) (f:Int) (l:List Tok) (o:Option (Int×Int)):Prop where
 tk:∀i,i<l.length→gU s (lp l f i)=.ok ((l[i]?).getD (jm 0))
 BW:∀i,i≤l.length→0≤lp l f i∧lp l f i≤s.size
 kinds:∀i,i+1<l.length→((l[i]?).getD (jm 0)).kind≠0
 last:o=none→0<l.length∧((l[l.length-1]?).getD (jm 0)).kind=0
 bad:∀e p,o=some (e,p)→gU s (lp l f l.length)=.bad e p∧e≠0∧∀i,i<l.length→((l[i]?).getD (jm 0)).kind≠0
theorem Steps.cons{s:ByteArray}{f:Int}{t:Tok}{l:List Tok}{o:Option (Int×Int)}(h0:0≤f)(h1:f≤s.size)(ht:gU s f=.ok t)(hk:t.kind≠0)(h:Steps s (iM t) l o):Steps s f (t::l) o:=by
 refine⟨fun i hi=>?_,fun i hi=>?_,fun i hi=>?_,fun ho=>?_,fun e p ho=>?_⟩
 ·cases i with
  | zero=>exact ht
  | succ i=>rw[np,List.getElem?_cons_succ];exact h.tk i (by simpa using hi)
 ·cases i with
  | zero=>exact⟨h0,h1⟩
  | succ i=>rw[np];exact h.BW i (by simpa using hi)
 ·cases i with
  | zero=>exact hk
  | succ i=>rw[List.getElem?_cons_succ];exact h.kinds i (by simpa using hi)
 ·obtain⟨g0,g1⟩:=h.last ho
  refine⟨by simp, ?_⟩
  obtain⟨n,hn⟩:∃n,l.length=n+1:=⟨l.length-1,by omega⟩
  rw[List.length_cons,hn,Nat.add_sub_cancel,List.getElem?_cons_succ]
  rw[hn,Nat.add_sub_cancel] at g1;exact g1
 ·obtain⟨g1,g2,g3⟩:=h.bad e p ho
  refine⟨by rw[List.length_cons,np];exact g1,g2,fun i hi=>?_⟩
  cases i with
  | zero=>exact hk
  | succ i=>rw[List.getElem?_cons_succ];exact g3 i (by simpa using hi)
theorem ph(s:ByteArray):∀(n:Nat) (f:Int),0≤f→f≤s.size→(s.size-f+1).toNat≤n→Steps s f (jI s n f).1 (jI s n f).2
 | 0,f,h0,h1,hn=>by omega
 | n+1,f,h0,h1,hn=>by
   unfold jI
   rcases gz h0 h1 with ⟨t,ht,_⟩ | ⟨e,ht,he⟩
   ·have hx:=lK h0 h1 ht
    rw[ht]
    by_cases hk:t.kind=0
    ·simp only[hk,if_true]
     refine⟨fun i hi=>?_,fun i hi=>?_,fun i hi=>?_,fun _=>⟨by simp,hk⟩,fun e p ho=>(by cases ho)⟩
     ·have:i=0:=by simpa using hi
      subst this;exact ht
     ·have hi:i≤1:=hi
      cases i with
      | zero=>exact⟨h0,h1⟩
      | succ i =>
        have:i=0:=by omega
        subst this
        show 0≤t.pos+t.text.size∧t.pos+t.text.size≤(s.size:Int)
        omega
     ·simp at hi
    ·simp only[hk,if_false]
     have:=hx.2.2 hk
     have e0:iM t=t.pos+t.text.size:=rfl
     exact .cons h0 h1 ht hk (ph s n _ (by omega) (by omega) (by omega))
   ·rw[ht]
    refine⟨fun i hi=>(by simp at hi),fun i hi=>?_,fun i hi=>(by simp at hi),fun ho=>(by cases ho),fun e' p' ho=>?_⟩
    ·have:i=0:=by simpa using hi
     subst this;exact⟨h0,h1⟩
    ·cases ho
     exact⟨ht,by rcases he with rfl | rfl | rfl<;>decide,fun i hi=>(by simp at hi)⟩
structure PC.Of (c:PC) (t:ByteArray):Prop where
 len:(t.size:Int)≤4096
 oB:c.l.length≤5000
 st:∃o,Steps t 0 c.l o∧c.bad=(o.map Prod.fst).getD 0∧c.pos=(o.map Prod.snd).getD 0
theorem tg{t:ByteArray}(h:(t.size:Int)≤4096):(du t).Of t:=by
 unfold du
 rw[if_neg (by omega)]
 exact⟨h,by have:=qN t (t.size-0+1:Int).toNat 0;show (kX t 0).1.length≤5000;unfold kX;omega,_,ph t _ 0 (by decide) (by omega) (Nat.le_refl _),rfl,rfl⟩
def PC.Live(c:PC)(s:PS):Prop:=s.over=false∧s.next<c.l.length
def PC.Cx(c:PC):PF:=⟨c.bad,c.pos,true⟩
section
variable {c:PC} {t:ByteArray} {s:PS}
theorem PC.Of.tk(h:c.Of t){i:Nat}(hi:i<c.l.length):gU t (lp c.l 0 i)=.ok (c.tok i):=let ⟨_,h,_⟩:=h.st;h.tk i hi
theorem PC.Of.BW(h:c.Of t){i:Nat}(hi:i≤c.l.length):0≤lp c.l 0 i∧lp c.l 0 i≤t.size:=let ⟨_,h,_⟩:=h.st;h.BW i hi
theorem PC.Of.next(h:c.Of t){i:Nat}(hi:i<c.l.length)(hk:(c.tok i).kind≠0):i+1<c.l.length∨(i+1=c.l.length∧c.bad≠0∧gU t (lp c.l 0 (i+1))=.bad c.bad c.pos):=by
 obtain⟨o,h,hb,hp⟩:=h.st
 by_cases hl:i+1<c.l.length
 ·exact .inl hl
 ·have hl:i+1=c.l.length:=by omega
  right
  cases o with
  | none =>
    have:=(h.last rfl).2
    rw[←hl,Nat.add_sub_cancel] at this
    exact absurd this hk
  | some ep =>
    obtain⟨g1,g2,_⟩:=h.bad ep.1 ep.2 rfl
    rw[hb,hp,hl];exact⟨rfl,g2,g1⟩
theorem PC.Of.none(h:c.Of t)(hl:c.l.length=0):c.bad≠0∧gU t 0=.bad c.bad c.pos:=by
 obtain⟨o,h,hb,hp⟩:=h.st
 cases o with
 | none=>have:=(h.last rfl).1;omega
 | some ep =>
   obtain⟨g1,g2,_⟩:=h.bad ep.1 ep.2 rfl
   rw[hl] at g1
   rw[hb,hp];exact⟨g2,g1⟩
theorem PC.Live.now(h:c.Live s):c.now s=c.tok s.next:=by
 unfold PC.now;rw[h.1,if_neg];have:=h.2;simp;omega
theorem PC.Live.inc(h:c.Of t)(hl:c.Live s)(hk:(c.tok s.next).kind≠0):c.Live s.inc∨(s.next+1=c.l.length∧c.dI c.Cx s.inc):=by
 rcases h.next hl.2 hk with h1 | ⟨h1,h2,_⟩
 ·exact .inl ⟨hl.1,h1⟩
 ·refine .inr ⟨h1, ?_,fun _=>h2⟩
  have h1:c.l.length≤s.inc.next:=by show _≤s.next+1;omega
  have ho:s.inc.over=false:=hl.1
  unfold PC.fin;rw[ho,if_neg (by simp),if_pos h1];rfl
theorem PC.Live.c5(hl:c.Live s){e:Int}(he:e≠0):c.c5 e s=⟨s.next,⟨e,(c.tok s.next).pos,false⟩⟩∧c.dI ⟨e,(c.tok s.next).pos,false⟩ (c.c5 e s):=by
 have h1:c.c5 e s=⟨s.next,⟨e,(c.tok s.next).pos,false⟩⟩:=by
  unfold PC.c5;rw[hl.1,if_neg (by simp),if_neg (by have:=hl.2;omega)]
 refine⟨h1, ?_⟩
 have ho:PS.over ⟨s.next,⟨e,(c.tok s.next).pos,false⟩⟩=true:=by simpa[PS.over] using he
 rw[h1]
 exact⟨by unfold PC.fin;rw[if_pos ho],fun h=>by rw[ho] at h;cases h⟩
end
def BX(t:ByteArray)(k:Tok)(f:Int):List Value:=[.string t,.int .u8 k.kind,.string k.text,.int .u8 k.iS,.int .i64 k.n,.int .i64 k.pos,.int .i64 f]
def z0(t:ByteArray)(k:Tok)(f:Int):Obj:=.cells (BX t k f).toArray 143 (0,0)
def pX(t:ByteArray)(b:Nat)(k:Tok)(f:Int):Nat×Obj:=(b,z0 t k f)
def PC.px(c:PC)(t:ByteArray)(b:Nat)(s:PS):Nat×Obj:=pX t b (c.tok s.next) (iM (c.tok s.next))
def Cy(b:Nat):List PanicEntry:=[{ v:=.iface 97 (.pointer (some ⟨b,0,none⟩)),recovered:=false }]
def Ah(f:PF)(u:Value)(B:cR):Prop:=match f.tok with
 | true=>∃b,u=.iface 97 (.pointer (some ⟨b,0,none⟩))∧B=[(b,.cells #[.string (⟨#[84,111,107,101,110,115]⟩:ByteArray),.int .i64 f.pos,pg f.e] 101 (0,0))]
 | false=>u=pg f.e∧B=[]
def dc(f:PF)(F0:cR)(e:Ending)(G:cR):Prop:=∃(b:Nat) (u:Value) (B X:cR),e=.panicked (Cy b)∧Ah f u B∧G.Perm ((b,.cells #[.string ⟨#[]⟩,.int .i64 f.pos,u] 101 (0,0))::(B++(X++F0)))
theorem dc.perm{f:PF}{F0 F1 G H:cR}{e:Ending}(h:dc f F0 e G)(p:F0.Perm F1)(q:H.Perm G):dc f F1 e H :=
 let ⟨b,u,B,X,he,hu,hG⟩:=h;⟨b,u,B,X,he,hu,q.trans (hG.trans (((p.append_left X).append_left B).cons _))⟩
theorem dc.more{f:PF}{A F0 G:cR}{e:Ending}(h:dc f (A++F0) e G):dc f F0 e G :=
 let ⟨b,u,B,X,he,hu,hG⟩:=h;⟨b,u,B,X++A,he,hu,by rw[List.append_assoc];exact hG⟩
theorem dc.Ai{f:PF}{x:Nat×Obj}{F0 G:cR}{e:Ending}(h:dc f F0 e G):dc f F0 e (x::G) :=
 let ⟨b,u,B,X,he,hu,hG⟩:=h;⟨b,u,B,x::X,he,hu,(hG.cons x).trans (cV fun z=>by simp only[cX,cW,c6];omega)⟩
theorem dc.pass{f:PF}{F0 G:cR}{e:Ending}{I:cS}{Q:Ending→cS→cR→Prop}(h:dc f F0 e G)(k:∀e',dc f F0 e' G→Q e' I G):∃ch,e=.panicked ch∧∃F2:cR,List.Perm G F2∧Q (.panicked ch) I F2 :=
 let ⟨b,u,B,X,he,hu,hG⟩:=h;⟨_,he,G,.refl _,k _ ⟨b,u,B,X,rfl,hu,hG⟩⟩
theorem dc.dq{f:PF}{F0 G:cR}{e:Ending}{I:cS}{Q:Ending→cS→cR→Prop}(L:cR)(h:dc f (L++F0) e G)(k:∀e' G',dc f F0 e' G'→Q e' I G'):∃ch,e=.panicked ch∧∃F2:cR,List.Perm G (L++F2)∧Q (.panicked ch) I F2:=by
 obtain⟨b,u,B,X,he,hu,hG⟩:=h
 exact⟨_,he,_,hG.trans (cV fun z=>by simp only[cX,cW,c6];omega),k _ _ ⟨b,u,B,X,rfl,hu,.refl _⟩⟩
def c8(c:PC)(t:ByteArray)(b:Nat){α:Type}(val:α→Value→cR→Prop)(F0:cR)(r:α×PS)(e:Ending)(I:cS)(G:cR):Prop :=
 (c.Live r.2∧∃v H,e=.returned v∧val r.1 v H∧G.Perm (c.px t b r.2::(H++F0)))∨∃f,c.dI f r.2∧dc f F0 e G
section
variable {c:PC} {t:ByteArray} {b:Nat} {α:Type} {val:α→Value→cR→Prop} {F0:cR} {r:α×PS}
theorem c8.use{g:Nat}{args:Array Value}{I:cS}{F:cR}{Q:Ending→cS→cR→Prop}(h:cU P g args I F (c8 c t b val F0 r))
  (k1:∀v H I' G,cS.le I I'→c.Live r.2→val r.1 v H→G.Perm (c.px t b r.2::(H++F0))→Q (.returned v) I' G) (k2:∀f e I' G,cS.le I I'→c.dI f r.2→dc f F0 e G→Q e I' G):cU P g args I F Q :=
 h.mono fun e I' G hl hd=>by
  rcases hd with ⟨h1,v,H,rfl,hv,hG⟩ | ⟨f,hd,hf⟩
  ·exact k1 v H I' G hl h1 hv hG
  ·exact k2 f e I' G hl hd hf
end
def Cz(x:Unit)(v:Value)(H:cR):Prop:=v=.tuple #[]∧H=[]
def CA(x:Int)(v:Value)(H:cR):Prop:=v=.int .i64 x∧H=[]
def CB(x:ByteArray)(v:Value)(H:cR):Prop:=v=.string x∧H=[]
def og(x:Px)(v:Value)(H:cR):Prop:=∃t:Nd,v=t.v∧t.px=x∧ef 64 false t H
end Go.Lx
namespace Go.Lx
open Go.Vc Go.Proofs.Tryz
def jM:List (Nat×List Sh):=[(0,[]),(2,[.one (.int .i64)]),(3,[.one (.int .i64)]),(9,[.one .str]),(60,[.one (.int .u8)]),(74,[.one (.int .u8)]),(81,[.one .slc,.one (.int .i64),.one (.int .i64)]),(206,[.agg [(.int .u8),.str,(.int .u8),(.int .i64),(.int .i64)],.one (.int .i64),.one (.int .i64)])]
def js.V(b:OA)(a c:Nat)(v:Bs)(I:cS)(F:cR)(Q:cT)(Inv6:Int→Int→Nat→cS→cR→Prop):Prop:=(∃m:Nat,Inv6 0 0 m I F)∧∀(x x1:Int) (m1:Nat) (I1:cS) (F1:cR),cS.le I I1→Inv6 x x1 m1 I1 F1→(Dt (x1<(a:Int)) ((0≤x1∧x1<(a:Int))∧∃ad:Addr,b=some ad∧∃(m2:Bs),Rd I1 F1 (ad.add (Int.toNat x1*1)) [.string m2]∧(It (v.toList==m2.toList) (Q (.returned (.int .i64 x1)) I1 F1) (∃m3:Nat,m3<m1∧Inv6 x (IntKind.wrap .i64 (x1+1)) m3 I1 F1))) (Q (.returned (.int .i64 (-1))) I1 F1))
theorem js.vc{a:OA}{b c:Nat}{v:Bs}{I:cS}{F:cR}{Q:cT}(Inv6:Int→Int→Nat→cS→cR→Prop)(h:js.V a b c v I F Q Inv6):cU P 125 #[.slice a b c,.string v] I F Q :=
 tw (A:=(dv [2000,4005] [] [] jM [(6,⟨[(4,(.int .i64)),(8,(.int .i64))],[],fun _ _ _ vs m I F=>match vs with | [.int _ y0,.int _ y1]=>Inv6 y0 y1 m I F | _=>False,[],[]⟩)] [] [] [] [] [] [])) [] func125 h
def jt.V(s:Bs)(a:Int)(I:cS)(F:cR)(Q:cT)  : Prop:=((0≤a∧a≤(s.size:Int)∧(s.size:Int)≤(s.size:Int))∧eM P 124 (#[.string (s.extract (Int.toNat a) (Int.toNat ((s.size:Int))))]) I (·) F fun e1 I1 G1=>∃(b:OA) (c d:Nat) (r1 r2:Int),e1=.returned (.tuple #[.slice b c d,.int .i64 r1,.int .i64 r2])∧G1 fun F1=>Q (.returned (.int .i64 (IntKind.wrap .i64 (a+r2)))) I1 F1)
theorem jt.vc{s:Bs}{a:Int}{I:cS}{F:cR}{Q:cT}  (h:jt.V s a I F Q):cU P 103 #[.string s,.int .i64 a] I F Q :=
 tw (A:=(an [] [124] jM)) [124] func103 h
def j9.V(vb:Int→Value)(vs:Bs→Value)(vl:OA→Nat→Nat→Value)(a:Int)(I:cS)(F:cR)(Q:cT)  : Prop:=(It (a==2) (∀(b:Nat) (I1:cS),cS.le I I1→I1 b=some (Obj.cells #[vs (⟨#[124,124]⟩:Bs)] 9 (0,0))→Q (.returned (.tuple #[vl (some ⟨b,0,none⟩) 1 1,vb 18])) I1 F) (It (a==3) (∀(b1:Nat) (I2:cS),cS.le I I2→I2 b1=some (Obj.cells #[vs (⟨#[38,38]⟩:Bs)] 9 (0,0))→Q (.returned (.tuple #[vl (some ⟨b1,0,none⟩) 1 1,vb 17])) I2 F) (It (a==4) (∀(b2:Nat) (I3:cS),cS.le I I3→I3 b2=some (Obj.cells #[vs (⟨#[61,61]⟩:Bs),vs (⟨#[33,61]⟩:Bs),vs (⟨#[60]⟩:Bs),vs (⟨#[60,61]⟩:Bs),vs (⟨#[62]⟩:Bs),vs (⟨#[62,61]⟩:Bs)] 9 (0,0))→Q (.returned (.tuple #[vl (some ⟨b2,0,none⟩) 6 6,vb 11])) I3 F) (It (a==5) (∀(b3:Nat) (I4:cS),cS.le I I4→I4 b3=some (Obj.cells #[vs (⟨#[43]⟩:Bs),vs (⟨#[45]⟩:Bs)] 9 (0,0))→Q (.returned (.tuple #[vl (some ⟨b3,0,none⟩) 2 2,vb 6])) I4 F) (∀(b4:Nat) (I5:cS),cS.le I I5→I5 b4=some (Obj.cells #[vs (⟨#[42]⟩:Bs),vs (⟨#[47]⟩:Bs),vs (⟨#[37]⟩:Bs)] 9 (0,0))→Q (.returned (.tuple #[vl (some ⟨b4,0,none⟩) 3 3,vb 8])) I5 F)))))
theorem j9.vc{a:Int}{I:cS}{F:cR}{Q:cT}  (h:j9.V (.int .u8) .string .slice a I F Q):cU P 115 #[.int .i64 a] I F Q :=
 tw (A:=(dv [2000,4000,6000,8000] [] [] jM [] [3000,5000,7000,9000,10000] [] [] [] [] [])) [] func115 h
def fH.V(p:Addr)(e1:Int)(I:cS)(F:cR)(Q:cT)  : Prop:=∃ad:Addr,some p=some ad∧∃(m:Int),Rd I F ((ad.add 1).add 4) [.int .i64 m]∧∀b:Nat,Q (.panicked ([{ v:=Value.iface 97 (.pointer (some (⟨b,0,none⟩:Addr))),recovered:=false }])) I (((b,Obj.cells #[.string (⟨#[]⟩:Bs),.int .i64 m,Value.iface 48 (.int .i64 e1)] 101 (0,0))::F))
theorem fH.vc{p:Addr}{e1:Int}{I:cS}{F:cR}{Q:cT}  (h:fH.V p e1 I F Q):cU P 65 #[.pointer (some p),.int .i64 e1] I F Q :=
 tw (A:=(dv [] [] [] jM [] [] [8] [] [] [] [])) [] func65 h
def eh.V(ka:Nat→Int→Bs→Int→Int→Int→Nat×Obj)(kb:Nat→Bs→Int→Value→Nat×Obj)(vb vi:Int→Value)(vs:Bs→Value)(vp:OA→Value)(p:Addr)(I:cS)(F:cR)(Q:cT)  : Prop:=∃ad:Addr,some p=some ad∧∃ae:Addr,some p=some ae∧∃(m:Bs),Rd I F (ad.add 0) [vs m]∧∃(m1:Int),Rd I F (ae.add 6) [vi m1]∧(eM P 102 #[vs m,vi m1] I (·) F fun e1 I1 G1=>∃(g:Int) (h:Bs) (i j k r1 r2:Int),e1=.returned (.tuple #[.agg #[vb g,vs h,vb i,vi j,vi k],vi r1,vi r2])∧G1 fun F1=>∀u:Nat,(It (r2 != 0) (It (r2 != 110) (∃af:Addr,some p=some af∧∃ag:Addr,some p=some ag∧∃(m2:Bs),Rd I1 ((ka u g h i j k)::F1) (af.add 0) [vs m2]∧∃(m3:Int),Rd I1 ((ka u g h i j k)::F1) (ag.add 6) [vi m3]∧dR P 103 #[vs m2,vi m3] I1 ((ka u g h i j k)::·) F1 vi fun r I2 F2=>∀b:Nat,∀b1:Nat,Q (.panicked ([{ v:=Value.iface 97 (vp (some (⟨b1,0,none⟩:Addr))),recovered:=false }])) I2 (((kb b1 (⟨#[]⟩:Bs) r (Value.iface 97 (vp (some (⟨b,0,none⟩:Addr)))))::((kb b (⟨#[84,111,107,101,110,115]⟩:Bs) r (Value.iface 48 (vi r2)))::F2)))) (∀b2:Nat,∀b3:Nat,Q (.panicked ([{ v:=Value.iface 97 (vp (some (⟨b3,0,none⟩:Addr))),recovered:=false }])) I1 (((kb b3 (⟨#[]⟩:Bs) 0 (Value.iface 97 (vp (some (⟨b2,0,none⟩:Addr)))))::((kb b2 (⟨#[84,111,107,101,110,115]⟩:Bs) 0 (Value.iface 48 (vi r2)))::F1))))) (∃o:Addr,some p=some o∧∃(cs:List Value) (el:Nat) (F3:cR),List.Perm F1 (((o.add 1).block,Obj.cells cs.toArray el (0,0))::F3)∧(o.add 1).spot=none∧(o.add 1).off+5≤cs.length∧∃q:Addr,some p=some q∧∃(w:List Value) (z:Nat) (F4:cR),List.Perm (((o.add 1).block,Obj.cells (cY (o.add 1).off [vb g,vs h,vb i,vi j,vi k] cs).toArray el (0,0))::F3) (((q.add 6).block,Obj.cells w.toArray z (0,0))::F4)∧(q.add 6).spot=none∧(q.add 6).off+1≤w.length∧Q (.returned (.tuple #[])) I1 ((((q.add 6).block,Obj.cells (cY (q.add 6).off [vi r1] w).toArray z (0,0))::F4)))))∧(∀l:Nat,eM P 102 #[vs m,vi m1] I ((ka l 0 (⟨#[]⟩:Bs) 0 0 0)::·) F fun e3 I3 G3=>∃(a:Int) (c:Bs) (d e f aa n:Int),e3=.returned (.tuple #[.agg #[vb a,vs c,vb d,vi e,vi f],vi aa,vi n])∧G3 fun F5=>(It (n != 0) (It (n != 110) (∃ah:Addr,some p=some ah∧∃ai:Addr,some p=some ai∧∃(m4:Bs),Rd I3 ((ka l a c d e f)::F5) (ah.add 0) [vs m4]∧∃(m5:Int),Rd I3 ((ka l a c d e f)::F5) (ai.add 6) [vi m5]∧dR P 103 #[vs m4,vi m5] I3 ((ka l a c d e f)::·) F5 vi fun r3 I4 F6=>∀b4:Nat,∀b5:Nat,Q (.panicked ([{ v:=Value.iface 97 (vp (some (⟨b5,0,none⟩:Addr))),recovered:=false }])) I4 (((kb b5 (⟨#[]⟩:Bs) r3 (Value.iface 97 (vp (some (⟨b4,0,none⟩:Addr)))))::((kb b4 (⟨#[84,111,107,101,110,115]⟩:Bs) r3 (Value.iface 48 (vi n)))::F6)))) (∀b6:Nat,∀b7:Nat,Q (.panicked ([{ v:=Value.iface 97 (vp (some (⟨b7,0,none⟩:Addr))),recovered:=false }])) I3 (((kb b7 (⟨#[]⟩:Bs) 0 (Value.iface 97 (vp (some (⟨b6,0,none⟩:Addr)))))::((kb b6 (⟨#[84,111,107,101,110,115]⟩:Bs) 0 (Value.iface 48 (vi n)))::F5))))) (∃s:Addr,some p=some s∧∃(x:List Value) (ab:Nat) (F7:cR),List.Perm F5 (((s.add 1).block,Obj.cells x.toArray ab (0,0))::F7)∧(s.add 1).spot=none∧(s.add 1).off+5≤x.length∧∃t:Addr,some p=some t∧∃(y:List Value) (ac:Nat) (F8:cR),List.Perm (((s.add 1).block,Obj.cells (cY (s.add 1).off [vb a,vs c,vb d,vi e,vi f] x).toArray ab (0,0))::F7) (((t.add 6).block,Obj.cells y.toArray ac (0,0))::F8)∧(t.add 6).spot=none∧(t.add 6).off+1≤y.length∧Q (.returned (.tuple #[])) I3 ((((t.add 6).block,Obj.cells (cY (t.add 6).off [vi aa] y).toArray ac (0,0))::F8)))))
theorem eh.vc{p:Addr}{I:cS}{F:cR}{Q:cT}  (h:eh.V (fun W a b c d e=>(W,Obj.cells #[.int .u8 a,.string b,.int .u8 c,.int .i64 d,.int .i64 e] 76 (0,0))) (fun W a b c=>(W,Obj.cells #[.string a,.int .i64 b,c] 101 (0,0))) (.int .u8) (.int .i64) .string .pointer p I F Q):cU P 64 #[.pointer (some p)] I F Q :=
 tw (A:=(dv [1001,3001] [] [102,103] jM [] [] [5005,5008] [] [] [(0,[0,1,2,4,5,6,3,7]),(4,[0,1,2,4,5,6,3,7,8,9])] [] [(0,8,13,[9,10,11,12,13,14,15,16],[8,9,10,11,12,14,15,16])])) [102,103] func64 h
def ib.V(p:Addr)(s:Bs)(I:cS)(F:cR)(Q:cT)  : Prop:=∃ad:Addr,some p=some ad∧∃(m:Int),Rd I F ((ad.add 1).add 0) [.int .u8 m]∧(It (m==1) (∃a:Addr,some p=some a∧∃(m1:Bs),Rd I F ((a.add 1).add 1) [.string m1]∧Q (.returned (.bool (m1.toList==s.toList))) I F) (∃b:Addr,some p=some b∧∃(m2:Int),Rd I F ((b.add 1).add 0) [.int .u8 m2]∧(It (m2==4) (∃c:Addr,some p=some c∧∃(m3:Bs),Rd I F ((c.add 1).add 1) [.string m3]∧Q (.returned (.bool (m3.toList==s.toList))) I F) (Q (.returned (.bool false)) I F))))
theorem ib.vc{p:Addr}{s:Bs}{I:cS}{F:cR}{Q:cT}  (h:ib.V p s I F Q):cU P 91 #[.pointer (some p),.string s] I F Q :=
 tw (A:=(an [1005,1012] [] jM)) [] func91 h
def fI.V(vi:Int→Value)(vs:Bs→Value)(p:Addr)(a:OA)(b c:Nat)(I:cS)(F:cR)(Q:cT)  : Prop:=∃ad:Addr,some p=some ad∧∃(m:Int),Rd I F ((ad.add 1).add 0) [.int .u8 m]∧(It (m != 1) (∃d:Addr,some p=some d∧∃(m1:Int),Rd I F ((d.add 1).add 0) [.int .u8 m1]∧(It (m1 != 4) (Q (.returned (vi (-1))) I F) (∃e:Addr,some p=some e∧∃(m2:Bs),Rd I F ((e.add 1).add 1) [vs m2]∧dR P 125 #[.slice a b c,vs m2] I (·) F vi fun r I1 F1=>Q (.returned (vi r)) I1 F1))) (∃f:Addr,some p=some f∧∃(m3:Bs),Rd I F ((f.add 1).add 1) [vs m3]∧dR P 125 #[.slice a b c,vs m3] I (·) F vi fun r1 I2 F2=>Q (.returned (vi r1)) I2 F2))
theorem fI.vc{p:Addr}{a:OA}{b c:Nat}{I:cS}{F:cR}{Q:cT}  (h:fI.V (.int .i64) .string p a b c I F Q):cU P 104 #[.pointer (some p),.slice a b c] I F Q :=
 tw (A:=(an [1005,1012] [125] jM)) [125] func104 h
def gM.V(vi:Int→Value)(vp:OA→Value)(p:Addr)(c:OA)(d e:Nat)(I:cS)(F:cR)(Q:cT)  : Prop:=dR P 104 (#[vp (some p),.slice c d e]) I (·) F vi fun r I1 F1=>(Dt (r<0) (cU P 65 (#[vp (some p),vi 130]) I1 F1 fun e2 I2 G2=>((e2=.returned (.tuple #[])∧∃F2:cR,List.Perm G2 F2∧cU P 64 (#[vp (some p)]) I2 F2 fun e3 I3 G3=>((e3=.returned (.tuple #[])∧∃F3:cR,List.Perm G3 F3∧Q (.returned (vi r)) I3 F3)∨(∃ch:List PanicEntry,e3=.panicked ch∧∃F4:cR,List.Perm G3 F4∧Q (.panicked ch) I3 F4)))∨(∃a:List PanicEntry,e2=.panicked a∧∃F5:cR,List.Perm G2 F5∧Q (.panicked a) I2 F5))) (cU P 64 (#[vp (some p)]) I1 F1 fun e4 I4 G4=>((e4=.returned (.tuple #[])∧∃F6:cR,List.Perm G4 F6∧Q (.returned (vi r)) I4 F6)∨(∃b:List PanicEntry,e4=.panicked b∧∃F7:cR,List.Perm G4 F7∧Q (.panicked b) I4 F7))))
theorem gM.vc{p:Addr}{a:OA}{b c:Nat}{I:cS}{F:cR}{Q:cT}  (h:gM.V (.int .i64) .pointer p a b c I F Q):cU P 66 #[.pointer (some p),.slice a b c] I F Q :=
 tw (A:=(dv [2001] [64,65] [64,65,104] jM [] [] [] [] [] [] [])) [64,65,104] func66 h
def gh.V(p:Addr)(I:cS)(F:cR)(Q:cT)  : Prop:=∃ad:Addr,some p=some ad∧∃(m:Bs),Rd I F ((ad.add 1).add 1) [.string m]∧∃a:Addr,some p=some a∧∃(m1:Int),Rd I F ((a.add 1).add 0) [.int .u8 m1]∧(It (m1 != 2) (cU P 65 (#[.pointer (some p),.int .i64 130]) I F fun e1 I1 G1=>((e1=.returned (.tuple #[])∧∃F1:cR,List.Perm G1 F1∧cU P 64 (#[.pointer (some p)]) I1 F1 fun e2 I2 G2=>((e2=.returned (.tuple #[])∧∃F2:cR,List.Perm G2 F2∧Q (.returned (.string m)) I2 F2)∨(∃ch:List PanicEntry,e2=.panicked ch∧∃F3:cR,List.Perm G2 F3∧Q (.panicked ch) I2 F3)))∨(∃b:List PanicEntry,e1=.panicked b∧∃F4:cR,List.Perm G1 F4∧Q (.panicked b) I1 F4))) (cU P 64 (#[.pointer (some p)]) I F fun e3 I3 G3=>((e3=.returned (.tuple #[])∧∃F5:cR,List.Perm G3 F5∧Q (.returned (.string m)) I3 F5)∨(∃c:List PanicEntry,e3=.panicked c∧∃F6:cR,List.Perm G3 F6∧Q (.panicked c) I3 F6))))
theorem gh.vc{p:Addr}{I:cS}{F:cR}{Q:cT}  (h:gh.V p I F Q):cU P 67 #[.pointer (some p)] I F Q :=
 tw (A:=(dv [2005] [64,65] [64,65] jM [] [] [] [] [] [] [])) [64,65] func67 h
def fh.V(p:Addr)(d:Int)(I:cS)(F:cR)(Q:cT)  : Prop:=(It (d==24) (cU P 65 (#[.pointer (some p),.int .i64 132]) I F fun e1 I1 G1=>((e1=.returned (.tuple #[])∧∃F1:cR,List.Perm G1 F1∧Q (.returned (.int .i64 (IntKind.wrap .i64 (d+1)))) I1 F1)∨(∃ch:List PanicEntry,e1=.panicked ch∧∃F2:cR,List.Perm G1 F2∧Q (.panicked ch) I1 F2))) (Q (.returned (.int .i64 (IntKind.wrap .i64 (d+1)))) I F))
theorem fh.vc{p:Addr}{d:Int}{I:cS}{F:cR}{Q:cT}  (h:fh.V p d I F Q):cU P 92 #[.pointer (some p),.int .i64 d] I F Q :=
 tw (A:=(dv [1001] [65] [65] jM [] [] [] [] [] [] [])) [65] func92 h
def eW.V(nV:Int→Int→Int→Int→Int→Bs→OA→Nat→Nat→Int→Value)(nO:Int→Int→Int→Int→Int→Bs→OA→Nat→Nat→Int→Obj)(vs:Bs→Value)(vt:Bool→Value)(vp:OA→Value)(wr:Int→Int)(p:Addr)(I:cS)(F:cR)(Q:cT)  : Prop:=∀b:Nat,∃ad:Addr,some p=some ad∧∃(m:Int),Rd I ((b,nO 0 0 0 0 0 (⟨#[]⟩:Bs) none 0 0 0)::F) ((ad.add 1).add 4) [.int .i64 m]∧∀a:Nat,∃c:Addr,some p=some c∧∃(m1:Int),Rd I ((b,nO 0 0 0 0 0 (⟨#[]⟩:Bs) none 0 0 0)::(a,nO 1 0 0 0 0 (⟨#[]⟩:Bs) none 0 0 m)::F) ((c.add 1).add 0) [.int .u8 m1]∧(It (m1==3) (∃d:Addr,some p=some d∧∃(m2:Int),Rd I ((b,nO 0 0 0 0 0 (⟨#[]⟩:Bs) none 0 0 0)::(a,nO 1 0 0 0 0 (⟨#[]⟩:Bs) none 0 0 m)::F) ((d.add 1).add 2) [.int .u8 m2]∧∃e:Addr,some p=some e∧∃(m3:Int),Rd I F ((e.add 1).add 3) [.int .i64 m3]∧cU P 64 (#[vp (some p)]) I ((b,nO 0 0 0 0 0 (⟨#[]⟩:Bs) none 0 0 0)::(a,nO 1 0 m2 m3 0 (⟨#[]⟩:Bs) none 0 0 m)::F) fun e1 I1 G1=>((e1=.returned (.tuple #[])∧∃F1:cR,List.Perm G1 ((b,nO 0 0 0 0 0 (⟨#[]⟩:Bs) none 0 0 0)::(a,nO 1 0 m2 m3 0 (⟨#[]⟩:Bs) none 0 0 m)::F1)∧Q (.returned (.tuple #[nV 1 0 m2 m3 0 (⟨#[]⟩:Bs) none 0 0 m,vt true])) I1 F1)∨(∃ch:List PanicEntry,e1=.panicked ch∧∃F2:cR,List.Perm G1 ((b,nO 0 0 0 0 0 (⟨#[]⟩:Bs) none 0 0 0)::(a,nO 1 0 m2 m3 0 (⟨#[]⟩:Bs) none 0 0 m)::F2)∧Q (.panicked ch) I1 F2))) (∀(b1:Nat) (I2:cS),cS.le I I2→I2 b1=some (Obj.cells #[vs (⟨#[102,97,108,115,101]⟩:Bs),vs (⟨#[116,114,117,101]⟩:Bs),vs (⟨#[98,117,121]⟩:Bs),vs (⟨#[115,101,108,108]⟩:Bs)] 9 (0,0))→dR P 104 (#[vp (some p),.slice (some ⟨b1,0,none⟩) 4 4]) I2 ((b,nO 0 0 0 0 0 (⟨#[]⟩:Bs) none 0 0 0)::(a,nO 1 0 0 0 0 (⟨#[]⟩:Bs) none 0 0 m)::·) F (.int .i64) fun r I3 F3=>(Dt (r<0) (Q (.returned (.tuple #[nV 0 0 0 0 0 (⟨#[]⟩:Bs) none 0 0 0,vt false])) I3 F3) (Dt (r>1) (cU P 64 (#[vp (some p)]) I3 ((b,nO 0 0 0 0 0 (⟨#[]⟩:Bs) none 0 0 0)::(a,nO 1 0 6 (wr (r-1)) 0 (⟨#[]⟩:Bs) none 0 0 m)::F3) fun e3 I4 G3=>((e3=.returned (.tuple #[])∧∃F4:cR,List.Perm G3 ((b,nO 0 0 0 0 0 (⟨#[]⟩:Bs) none 0 0 0)::(a,nO 1 0 6 (wr (r-1)) 0 (⟨#[]⟩:Bs) none 0 0 m)::F4)∧Q (.returned (.tuple #[nV 1 0 6 (wr (r-1)) 0 (⟨#[]⟩:Bs) none 0 0 m,vt true])) I4 F4)∨(∃f:List PanicEntry,e3=.panicked f∧∃F5:cR,List.Perm G3 ((b,nO 0 0 0 0 0 (⟨#[]⟩:Bs) none 0 0 0)::(a,nO 1 0 6 (wr (r-1)) 0 (⟨#[]⟩:Bs) none 0 0 m)::F5)∧Q (.panicked f) I4 F5))) (cU P 64 (#[vp (some p)]) I3 ((b,nO 0 0 0 0 0 (⟨#[]⟩:Bs) none 0 0 0)::(a,nO 1 0 5 r 0 (⟨#[]⟩:Bs) none 0 0 m)::F3) fun e4 I5 G4=>((e4=.returned (.tuple #[])∧∃F6:cR,List.Perm G4 ((b,nO 0 0 0 0 0 (⟨#[]⟩:Bs) none 0 0 0)::(a,nO 1 0 5 r 0 (⟨#[]⟩:Bs) none 0 0 m)::F6)∧Q (.returned (.tuple #[nV 1 0 5 r 0 (⟨#[]⟩:Bs) none 0 0 m,vt true])) I5 F6)∨(∃g:List PanicEntry,e4=.panicked g∧∃F7:cR,List.Perm G4 ((b,nO 0 0 0 0 0 (⟨#[]⟩:Bs) none 0 0 0)::(a,nO 1 0 5 r 0 (⟨#[]⟩:Bs) none 0 0 m)::F7)∧Q (.panicked g) I5 F7)))))))
theorem eW.vc{p:Addr}{I:cS}{F:cR}{Q:cT}  (h:eW.V (fun k o t n f s a l c q=>.agg #[.int .u8 k,.int .u8 o,.int .u8 t,.int .i64 n,.int .u8 f,.string s,.slice a l c,.int .i64 q]) (fun k o t n f s a l c q=>.cells #[.int .u8 k,.int .u8 o,.int .u8 t,.int .i64 n,.int .u8 f,.string s,.slice a l c,.int .i64 q] 64 (0,0)) .string .bool .pointer (IntKind.wrap .i64) p I F Q):cU P 105 #[.pointer (some p)] I F Q :=
 tw (A:=(dv [2005,5001,8001] [64] [64,104] jM [] [4001] [] [(3,11,[1])] [] [] [(3,12)])) [64,104] func105 h
end Go.Lx
namespace Go.Lx
open Go.Vc
def dK(I:cS)(G:cR)(t:ByteArray)(b:Nat)(k:Tok)(f:Int):Prop:=I b=some (z0 t k f)∨(b,z0 t k f)∈G
theorem dK.rd{I:cS}{G:cR}{t:ByteArray}{b:Nat}{k:Tok}{f:Int}(h:dK I G t b k f):Rd I G (⟨b,0,none⟩:Addr) (BX t k f):=⟨rfl,_,_,_,h,fun j hj=>by simp⟩
theorem dK.mono{I J:cS}{G H:cR}{t:ByteArray}{b:Nat}{k:Tok}{f:Int}(h:dK I G t b k f)(hl:cS.le I J)(hs:∀x,x∈G→x∈H):dK J H t b k f:=h.imp (fun h=>hl.at h) (hs _)
theorem dK.of{I:cS}{F G:cR}{t:ByteArray}{b:Nat}{k:Tok}{f:Int}(h:F.Perm (pX t b k f::G)):dK I F t b k f:=.inr (h.mem_iff.2 (.head _))
theorem eX{I:cS}{F:cR}{t:ByteArray}{b:Nat}{k:Tok}{f:Int}(h:dK I F t b k f)(e:Int):cU P 65 #[.pointer (some ⟨b,0,none⟩),.int .i64 e] I F fun e' I' G=>dc ⟨e,k.pos,false⟩ F e' G:=by
 refine fH.vc ?_
 unfold fH.V
 exact⟨_,rfl,_,h.rd.dw (p:=1) (q:=4) rfl,fun b1=>⟨b1,_,[],[],rfl,⟨rfl,rfl⟩,.refl _⟩⟩
theorem wU{I:cS}{G:cR}{b ty:Nat}{v:Value}(h:(b,Obj.cells #[v] ty (0,0))∈G):Rd I G (⟨b,0,none⟩:Addr) [v]:=Rd.yw h 0 fun j hj=>by
 have:j=0:=by simpa using hj
 subst this;rfl
theorem th{x p:Nat×Obj}{F F0:cR}(h:F.Perm (p::F0)):(x::F).Perm (p::x::F0):=(h.cons x).trans (.swap ..)
theorem fP{x y p:Nat×Obj}{F F0:cR}(h:F.Perm (p::F0)):(x::y::F).Perm (p::x::y::F0):=th (th h)
theorem tj{x y z p:Nat×Obj}{F F0:cR}(h:F.Perm (p::F0)):(x::y::z::F).Perm (p::x::y::z::F0):=th (th (th h))
theorem u7{x y z u p:Nat×Obj}{F F0:cR}(h:F.Perm (p::F0)):(x::y::z::u::F).Perm (p::x::y::z::u::F0):=th (th (th (th h)))
theorem dc.tail{f:PF}{x:Nat×Obj}{F F0 G:cR}{e:Ending}(h:dc f F e G)(p:F.Perm (x::F0)):dc f F0 e G:=dc.more (A:=[x]) (h.perm p (.refl _))
theorem vX{t:ByteArray}{f:Int}(h0:0≤f)(h1:f≤t.size):gC (cut t f t.size) t f :=
 ⟨h0,by rw[g9 h0 h1 (Int.le_refl _)];omega,fun k g0 g1=>by
   rw[g9 h0 h1 (Int.le_refl _)] at g1
   rw[lI h0 g0 (by omega) (Int.le_refl _),Int.add_comm]⟩
theorem lO{t:ByteArray}(hs:(t.size:Int)≤4096){f:Int}(h0:0≤f)(h1:f≤t.size){e p:Int}(ht:gU t f=.bad e p)(I:cS)(F:cR):cU P 103 #[.string t,.int .i64 f] I F (kj (.int .i64 p) F):=by
 have hB:=vX h0 h1
 have hz:=g9 h0 h1 (Int.le_refl _)
 have hp:0≤p∧p≤t.size:=by
  have ho:=iv (s:=t) h1
  rcases gz h0 h1 with ⟨_,h,_⟩ | ⟨e',h,_⟩
  ·rw[ht] at h;cases h
  ·rw[ht] at h
   have:p=dk t f:=(TR.bad.inj h).2
   omega
 have htk:=hB.tok (f:=0) (by decide) (by omega)
 rw[Int.zero_add,ht] at htk
 have hb:gU (cut t f t.size) 0=.bad e (p-f):=by
  cases hc:gU (cut t f t.size) 0 with
  | ok u=>rw[hc] at htk;cases htk
  | bad e' p' =>
    rw[hc] at htk
    obtain⟨rfl,rfl⟩:=TR.bad.inj htk
    rw[show p'+f-f=p' by omega]
 have hT:nW (cut t f t.size)=.error (e,p-f):=by
  unfold nW
  rw[if_neg (by omega),oK (by decide) (by omega),hb]
 refine jt.vc ?_
 unfold jt.V
 refine⟨⟨h0,h1,Int.le_refl _⟩,(uE (s:=cut t f t.size) (by unfold dz;omega) I F).mono fun e1 I1 G l1 hr=>?_⟩
 obtain⟨rfl,hr⟩:=hr
 rw[hT] at hr
 refine⟨_,_,_,_,_,hr,_,.refl _, ?_,rfl⟩
 rw[gS (by omega),show f+(p-f)=p by omega]
theorem wV{I:cS}{F F0:cR}{t:ByteArray}(hs:(t.size:Int)≤4096){b:Nat}{k:Tok}{f:Int}(h0:0≤f)(h1:f≤t.size)(hF:F.Perm (pX t b k f::F0)) :
  cU P 64 #[.pointer (some ⟨b,0,none⟩)] I F fun e' I' G=>match gU t f with
   | .ok k'=>e'=.returned (.tuple #[])∧G.Perm (pX t b k' (iM k')::F0)
   | .bad e p=>dc ⟨e,p,true⟩ F0 e' G:=by
 have hp:=dK.of (I:=I) hF
 refine eh.vc ?_
 unfold eh.V
 have hshort:dz t:=by unfold dz;omega
 have hnx:sm t f=match gU t f with
  | .ok t'=>.tuple #[t'.v,.int .i64 (t'.pos+t'.text.size),.int .i64 0]
  | .bad e p=>.tuple #[(jm 0).v,.int .i64 0,.int .i64 e]:=by unfold sm;rw[if_neg (by omega),if_neg (by omega)];cases gU t f<;>rfl
 have hst:∀(k':Tok),pX t b k' (iM k')=(((⟨b,0,none⟩:Addr).add 6).block,Obj.cells (cY ((⟨b,0,none⟩:Addr).add 6).off [.int .i64 (iM k')] (cY ((⟨b,0,none⟩:Addr).add 1).off [.int .u8 k'.kind,.string k'.text,.int .u8 k'.iS,.int .i64 k'.n,.int .i64 k'.pos] (BX t k f))).toArray 143 (0,0)):=fun k'=>by
  rw[dM,dM];rfl
 refine⟨_,rfl,_,rfl,_,hp.rd.field (o:=0) rfl,_,hp.rd.field (o:=6) rfl, ?_,fun b_t=>?_⟩
 ·refine cU.ret (mc hshort I _) fun I1 l1=>?_
  rw[hnx]
  rcases gz h0 h1 with ⟨k',ht,_⟩ | ⟨e,ht,he⟩
  ·rw[ht]
   refine⟨_,_,_,_,_,_,_,rfl,_,.refl _,fun b_t=>⟨fun h=>absurd h (by decide),fun _=>⟨_,rfl,BX t k f,143,F0,hF,rfl,by rw[dM];exact (by decide:1+5≤7),_,rfl,_,143,F0,.refl _,rfl,by rw[dM,dM];exact (by decide:6+1≤7),rfl, ?_⟩⟩⟩
   rw[hst k'];exact .refl _
  ·rw[ht]
   refine⟨_,_,_,_,_,_,_,rfl,_,.refl _,fun b_t=>⟨fun _=>⟨fun _=>?_,fun h=>?_⟩,fun h=>?_⟩⟩
   ·have hp1:=(hp.mono (J:=I1) (H:=(b_t,Obj.cells #[.int .u8 0,.string ⟨#[]⟩,.int .u8 0,.int .i64 0,.int .i64 0] 76 (0,0))::F) l1 fun x hx=>.tail _ hx)
    refine⟨_,rfl,_,rfl,_,hp1.rd.field (o:=0) rfl,_,hp1.rd.field (o:=6) rfl,cU.ret (lO hs h0 h1 ht I1 _) fun I2 l2=>⟨_,rfl,F,.refl _,fun b1 b2=>?_⟩⟩
    exact dc.tail (F:=F) ⟨b2,_,_,[],rfl,⟨b1,rfl,rfl⟩,.refl _⟩ hF
   ·rcases he with rfl | rfl | rfl<;>exact absurd h (by decide)
   ·rcases he with rfl | rfl | rfl<;>exact absurd h (by decide)
 ·refine cU.ret (mc hshort I _) fun I1 l1=>?_
  rw[hnx]
  rcases gz h0 h1 with ⟨k',ht,_⟩ | ⟨e,ht,he⟩
  ·rw[ht]
   refine⟨_,_,_,_,_,_,_,rfl,_,.refl _,⟨fun h=>absurd h (by decide),fun _=>⟨_,rfl,BX t k f,143,F0,hF,rfl,by rw[dM];exact (by decide:1+5≤7),_,rfl,_,143,F0,.refl _,rfl,by rw[dM,dM];exact (by decide:6+1≤7),rfl, ?_⟩⟩⟩
   rw[hst k'];exact .refl _
  ·rw[ht]
   refine⟨_,_,_,_,_,_,_,rfl,_,.refl _,⟨fun _=>⟨fun _=>?_,fun h=>?_⟩,fun h=>?_⟩⟩
   ·have hp1:=(hp.mono (J:=I1) (H:=(b_t,Obj.cells #[.int .u8 0,.string ⟨#[]⟩,.int .u8 0,.int .i64 0,.int .i64 0] 76 (0,0))::F) l1 fun x hx=>.tail _ hx)
    refine⟨_,rfl,_,rfl,_,hp1.rd.field (o:=0) rfl,_,hp1.rd.field (o:=6) rfl,cU.ret (lO hs h0 h1 ht I1 _) fun I2 l2=>⟨_,rfl,F,.refl _,fun b1 b2=>?_⟩⟩
    exact dc.tail (F:=F) ⟨b2,_,_,[],rfl,⟨b1,rfl,rfl⟩,.refl _⟩ hF
   ·rcases he with rfl | rfl | rfl<;>exact absurd h (by decide)
   ·rcases he with rfl | rfl | rfl<;>exact absurd h (by decide)
theorem yZ{I:cS}{F F0:cR}{t:ByteArray}(hs:4096<(t.size:Int))(hs2:dz t){b:Nat}{k:Tok}{f:Int}(hF:F.Perm (pX t b k f::F0)) :
  cU P 64 #[.pointer (some ⟨b,0,none⟩)] I F fun e' I' G=>dc ⟨110,0,true⟩ F0 e' G:=by
 have hp:=dK.of (I:=I) hF
 refine eh.vc ?_
 unfold eh.V
 have hnx:sm t f=.tuple #[(jm 0).v,.int .i64 0,.int .i64 110]:=by unfold sm;rw[if_pos (by omega)]
 refine⟨_,rfl,_,rfl,_,hp.rd.field (o:=0) rfl,_,hp.rd.field (o:=6) rfl, ?_,fun b_t=>?_⟩
 ·refine cU.ret (mc hs2 I _) fun I1 l1=>?_
  rw[hnx]
  exact⟨_,_,_,_,_,_,_,rfl,_,.refl _,fun b_t=>⟨fun _=>⟨fun h=>absurd h (by decide),fun _ b1 b2=>dc.tail (F:=F) ⟨b2,_,_,[],rfl,⟨b1,rfl,rfl⟩,.refl _⟩ hF⟩,fun h=>absurd h (by decide)⟩⟩
 ·refine cU.ret (mc hs2 I _) fun I1 l1=>?_
  rw[hnx]
  exact⟨_,_,_,_,_,_,_,rfl,_,.refl _,⟨fun _=>⟨fun h=>absurd h (by decide),fun _ b1 b2=>dc.tail (F:=F) ⟨b2,_,_,[],rfl,⟨b1,rfl,rfl⟩,.refl _⟩ hF⟩,fun h=>absurd h (by decide)⟩⟩
def uO(v:ByteArray):List ByteArray→Int→Int
 | [],_=>-1
 | w::r,i=>if v.toList==w.toList then i else uO v r (i+1)
theorem qX{c:PC}{s:PS}(hk:(c.now s).kind=1∨(c.now s).kind=4):∀(ws:List ByteArray) (i:Int),c.iz s ws i=uO (c.now s).text ws i
 | [],i=>rfl
 | w::r,i=>by
   rw[PC.iz,uO,qX hk r]
   have:c.dS w s=((c.now s).text.toList==w.toList):=by
    unfold PC.dS
    rcases hk with h | h<;>rw[h]<;>simp
   rw[this]
theorem any_none{c:PC}{s:PS}(h1:(c.now s).kind≠1)(h4:(c.now s).kind≠4):∀(ws:List ByteArray) (i:Int),c.iz s ws i = -1
 | [],i=>rfl
 | w::r,i=>by
   have:c.dS w s=false:=by unfold PC.dS;simp[h1,h4]
   rw[PC.iz,this,if_neg (by simp),any_none h1 h4 r]
theorem qY{v:ByteArray}{a:Option Addr}{n k:Nat}{ws:List ByteArray}{I:cS}(hS:Sl I 1 jd a n ws)(hl:n≤100)(F:cR):cU P 125 #[.slice a n k,.string v] I F (kj (.int .i64 (uO v ws 0)) F):=by
 have hn:=hS.1
 refine js.vc (fun x i m I' F'=>F'=F∧0≤i∧i≤n∧m=(n-i).toNat∧uO v ws 0=uO v (ws.drop i.toNat) i) ?_
 unfold js.V
 refine⟨⟨_,rfl,by omega,by omega,rfl,rfl⟩,fun x i m1 I1 F1 l1 ⟨gF,g0,g1,gm,ge⟩=>⟨fun hlt=>?_,fun hlt=>⟨?_,gF⟩⟩⟩
 ·subst gF
  have hlt:=of_decide_eq_true hlt
  obtain⟨ad,w,ha,hw,hr⟩:=(hS.mono l1).at g0 hlt
  obtain⟨hk,rfl⟩:=List.getElem?_eq_some_iff.1 hw
  rw[List.drop_eq_getElem_cons hk,uO] at ge
  refine⟨⟨g0,hlt⟩,ad,ha,_,hr _,fun h=>⟨?_,rfl⟩,fun h=>⟨(n-(i+1)).toNat,by omega,rfl, ?_⟩⟩
  ·rw[ge,if_pos h]
  ·rw[gS (n:=i+1) (by omega)]
   refine⟨by omega,by omega,rfl, ?_⟩
   rw[ge,if_neg (by simp[h]),show (i+1).toNat=i.toNat+1 by omega]
 ·have hlt:=of_decide_eq_false hlt
  rw[ge,List.drop_eq_nil_of_le (by omega),uO]
section
variable {c:PC} {t:ByteArray} {s:PS} {b:Nat} {I:cS} {F F0:cR}
theorem oh(hl:c.Live s)(hp:dK I F t b (c.tok s.next) (iM (c.tok s.next)))(w:ByteArray):cU P 91 #[.pointer (some ⟨b,0,none⟩),.string w] I F (kj (.bool (c.dS w s)) F):=by
 refine ib.vc ?_
 unfold ib.V
 have hn:=hl.now
 refine⟨_,rfl,_,hp.rd.dw (p:=1) (q:=0) rfl,fun h=>⟨_,rfl,_,hp.rd.dw (p:=1) (q:=1) rfl, ?_,rfl⟩,fun h=>⟨_,rfl,_,hp.rd.dw (p:=1) (q:=0) rfl,fun h2=>⟨_,rfl,_,hp.rd.dw (p:=1) (q:=1) rfl, ?_,rfl⟩,fun h2=>⟨?_,rfl⟩⟩⟩ <;>
  unfold PC.dS<;>rw[hn]<;>simp_all
theorem hM(hl:c.Live s)(hp:dK I F t b (c.tok s.next) (iM (c.tok s.next))){a:Option Addr}{n k:Nat}{ws:List ByteArray}(hS:Sl I 1 jd a n ws)(hn:n≤100) :
  cU P 104 #[.pointer (some ⟨b,0,none⟩),.slice a n k] I F (kj (.int .i64 (c.any ws s)) F):=by
 refine fI.vc ?_
 unfold fI.V
 have hw:=hl.now
 refine⟨_,rfl,_,hp.rd.dw (p:=1) (q:=0) rfl,fun h=>⟨_,rfl,_,hp.rd.dw (p:=1) (q:=0) rfl,fun h2=>⟨?_,rfl⟩,fun h2=>⟨_,rfl,_,hp.rd.dw (p:=1) (q:=1) rfl,cU.ret (qY hS hn F) fun I1 l1=>⟨_,rfl,F,.refl _, ?_,rfl⟩⟩⟩,fun h=>⟨_,rfl,_,hp.rd.dw (p:=1) (q:=1) rfl,cU.ret (qY hS hn F) fun I1 l1=>⟨_,rfl,F,.refl _, ?_,rfl⟩⟩⟩
 ·unfold PC.any;rw[any_none (by rw[hw];simpa using h) (by rw[hw];simpa using h2)]
 ·unfold PC.any;rw[qX (.inr (by rw[hw];simpa using h2)),hw]
 ·unfold PC.any;rw[qX (.inl (by rw[hw];simpa using h)),hw]
def PC.oneOf(c:PC)(ws:List ByteArray)(s:PS):Int×PS:=(c.any ws s,if c.any ws s<0 then c.c5 130 s else s.inc)
theorem nq(c:PC)(w:ByteArray)(s:PS):(c.take w s).2=(c.oneOf [w] s).2:=by
 unfold PC.take PC.oneOf PC.any PC.iz PC.iz
 split
 ·rw[if_neg (by decide)]
 ·rw[if_pos (by decide)]
theorem hU{ws:List ByteArray}(hl:c.Live s)(h:0≤c.any ws s):(c.tok s.next).kind≠0:=fun hk=>by
 have:c.any ws s = -1:=any_none (by rw[hl.now,hk];decide) (by rw[hl.now,hk];decide) ws 0
 omega
theorem dN(hc:c.Of t)(hl:c.Live s)(hk:(c.tok s.next).kind≠0)(hF:F.Perm (c.px t b s::F0)):cU P 64 #[.pointer (some ⟨b,0,none⟩)] I F (c8 c t b Cz F0 ((),s.inc)):=by
 have hfr:lp c.l 0 (s.next+1)=iM (c.tok s.next):=rfl
 have hr:=hc.BW (i:=s.next+1) hl.2
 rw[hfr] at hr
 refine (wV hc.len hr.1 hr.2 hF).mono fun e I' G l h=>?_
 rcases hc.next hl.2 hk with h1 | ⟨h1,h2,h3⟩
 ·have ht:=hc.tk h1
  rw[hfr] at ht
  rw[ht] at h
  exact .inl ⟨⟨hl.1,h1⟩,_,[],h.1,⟨rfl,rfl⟩,h.2⟩
 ·rw[hfr] at h3
  rw[h3] at h
  rcases hl.inc hc hk with g | ⟨_,g⟩
  ·have:=g.2
   have h9:s.inc.next=s.next+1:=rfl
   omega
  ·exact .inr ⟨_,g,h⟩
theorem oS(hc:c.Of t)(hl:c.Live s){a:Option Addr}{n k:Nat}{ws:List ByteArray}(hS:Sl I 1 jd a n ws)(hn:n≤100)(hF:F.Perm (c.px t b s::F0)) :
  cU P 66 #[.pointer (some ⟨b,0,none⟩),.slice a n k] I F (c8 c t b CA F0 (c.oneOf ws s)):=by
 refine gM.vc ?_
 unfold gM.V
 refine cU.ret (hM hl (.of hF) hS hn) fun I1 l1=>⟨_,rfl,F,.refl _,fun h=>?_,fun h=>?_⟩
 ·have h:=of_decide_eq_true h
  refine (eX (.of hF) 130).mono fun e I2 G l2 hf=>.inr ?_
  refine dc.pass hf fun e' hf'=>.inr ⟨_, ?_,hf'.tail hF⟩
  show c.dI _ (if c.any ws s<0 then c.c5 130 s else s.inc)
  rw[if_pos h];exact (hl.c5 (by decide)).2
 ·have h:=of_decide_eq_false h
  have hk:=hU (ws:=ws) hl (by omega)
  have e2:(c.oneOf ws s).2=s.inc:=if_neg h
  refine c8.use (dN hc hl hk hF) (fun v H I2 G l2 hL hv hG=>.inl ?_) fun f e I2 G l2 hd hf=>.inr ?_
  ·obtain⟨rfl,rfl⟩:=hv
   exact⟨rfl,G,.refl _,.inl ⟨by rw[e2];exact hL,_,[],rfl,⟨rfl,rfl⟩,by rw[e2];exact hG⟩⟩
  ·exact dc.pass hf fun e' hf'=>.inr ⟨f,by rw[e2];exact hd,hf'⟩
theorem iU(hc:c.Of t)(hl:c.Live s)(hF:F.Perm (c.px t b s::F0)):cU P 67 #[.pointer (some ⟨b,0,none⟩)] I F (c8 c t b CB F0 (c.name s)):=by
 have hp:=dK.of (I:=I) hF
 have hw:=hl.now
 refine gh.vc ?_
 unfold gh.V
 refine⟨_,rfl,_,hp.rd.dw (p:=1) (q:=1) rfl,_,rfl,_,hp.rd.dw (p:=1) (q:=0) rfl,fun h=>?_,fun h=>?_⟩
 ·have h:(c.tok s.next).kind≠2:=by simpa using h
  refine (eX hp 130).mono fun e I2 G l2 hf=>.inr ?_
  refine dc.pass hf fun e' hf'=>.inr ⟨_, ?_,hf'.tail hF⟩
  unfold PC.name
  rw[hw,if_neg h];exact (hl.c5 (by decide)).2
 ·have h:(c.tok s.next).kind=2:=by simpa using h
  have e1:c.name s=((c.tok s.next).text,s.inc):=by unfold PC.name;rw[hw,if_pos h]
  rw[e1]
  refine c8.use (dN hc hl (by rw[h];decide) hF) (fun v H I2 G l2 hL hv hG=>.inl ?_) fun f e I2 G l2 hd hf=>.inr ?_
  ·obtain⟨rfl,rfl⟩:=hv
   exact⟨rfl,G,.refl _,.inl ⟨hL,_,[],rfl,⟨rfl,rfl⟩,hG⟩⟩
  ·exact dc.pass hf fun e' hf'=>.inr ⟨f,hd,hf'⟩
theorem mi{k:Tok}{f:Int}(hp:dK I F t b k f){d:Int}(h0:0≤d)(h1:d≤24):cU P 92 #[.pointer (some ⟨b,0,none⟩),.int .i64 d] I F fun e I' G=>(d<24∧e=.returned (.int .i64 (d+1))∧G=F)∨(d=24∧dc ⟨132,k.pos,false⟩ F e G):=by
 refine fh.vc ?_
 unfold fh.V
 rw[gS (n:=d+1) (by omega)]
 refine⟨fun h=>?_,fun h=>.inl ⟨?_,rfl,rfl⟩⟩
 ·have h:d=24:=by simpa using h
  refine (eX hp 132).mono fun e I2 G l2 hf=>.inr ?_
  exact dc.pass (I:=I2) (Q:=fun e I' G=>(d<24∧e=.returned (.int .i64 (d+1))∧G=F)∨(d=24∧dc ⟨132,k.pos,false⟩ F e G)) hf fun e' hf'=>.inr ⟨h,hf'⟩
 ·have h:d≠24:=by simpa using h
  omega
def pN(l:Int):List ByteArray:=if l=2 then zp else if l=3 then rG else if l=4 then lu else if l=5 then rF else qL
def xP(l:Int):Int:=if l=2 then 18 else if l=3 then 17 else if l=4 then 11 else if l=5 then 6 else 8
theorem uP(l:Int)(I:cS)(F:cR):cU P 115 #[.int .i64 l] I F fun e I' G=>∃(a:Option Addr) (n k:Nat),e=.returned (.tuple #[.slice a n k,.int .u8 (xP l)])∧Sl I' 1 jd a n (pN l)∧n≤100∧G=F:=by
 refine j9.vc ?_
 unfold j9.V
 have key:∀{b:Nat} {I1:cS} {ws:List ByteArray} {cs:Array Value},I1 b=some (.cells cs 9 (0,0))→cs.toList=ws.flatMap jd→Sl I1 1 jd (some ⟨b,0,none⟩) ws.length ws:=fun hb hc=>Sl.g8 (f:=jd) (z:=1) (fun _=>rfl) hb hc
 refine⟨fun h=>fun b I1 l1 hb=>?_,fun h2=>⟨fun h=>fun b I1 l1 hb=>?_,fun h3=>⟨fun h=>fun b I1 l1 hb=>?_,fun h4=>⟨fun h=>fun b I1 l1 hb=>?_,fun h5=>fun b I1 l1 hb=>?_⟩⟩⟩⟩
 ·have h:l=2:=by simpa using h
  subst h
  exact⟨_,_,_,rfl,key (ws:=zp) hb rfl,by decide,rfl⟩
 ·have h:l=3:=by simpa using h
  subst h
  exact⟨_,_,_,rfl,key (ws:=rG) hb rfl,by decide,rfl⟩
 ·have h:l=4:=by simpa using h
  subst h
  exact⟨_,_,_,rfl,key (ws:=lu) hb rfl,by decide,rfl⟩
 ·have h:l=5:=by simpa using h
  subst h
  exact⟨_,_,_,rfl,key (ws:=rF) hb rfl,by decide,rfl⟩
 ·have e2:l≠2:=by simpa using h2
  have e3:l≠3:=by simpa using h3
  have e4:l≠4:=by simpa using h4
  have e5:l≠5:=by simpa using h5
  have hO:xP l=8:=by unfold xP;rw[if_neg e2,if_neg e3,if_neg e4,if_neg e5]
  have hW:pN l=qL:=by unfold pN;rw[if_neg e2,if_neg e3,if_neg e4,if_neg e5]
  rw[hO,hW]
  exact⟨_,_,_,rfl,key (ws:=qL) hb rfl,by decide,rfl⟩
end
end Go.Lx
namespace Go.Lx
open Go.Vc
theorem xQ{t:ByteArray}{f:Int}{k:Tok}(h0:0≤f)(h1:f≤t.size)(h:gU t f=.ok k)(hk:k.kind=4):gT (bt k.text 0)=false:=by
 have ho:=iv (s:=t) h1
 unfold gU at h
 simp only at h
 split at h
 ·have:=TR.ok.inj h
  subst this
  exact absurd hk (by show ¬(0:Int)=4;decide)
 ·rename_i hne
  split at h
  ·obtain⟨E,e2,_,_,_,rfl⟩:=zI h
   exact absurd hk (by show ¬(3:Int)=4;decide)
  ·split at h
   ·unfold jY at h
    simp only at h
    split at h
    ·cases h
    ·have:=TR.ok.inj h
     subst this
     simp only at hk
     split at hk<;>omega
   ·rename_i hs
    unfold jZ at h
    split at h
    ·cases h
    ·rename_i hm
     have:=TR.ok.inj h
     subst this
     have hr:=j2 t (dk t f)
     have hl:=nU (s:=t) (i:=dk t f) (by omega)
     show gT (bt (cut t (dk t f) (dk t f+fm t (dk t f))) 0)=false
     rw[lI (by omega) (Int.le_refl 0) (by omega) (by omega),Int.add_zero]
     simpa using hs
theorem vY{x w:ByteArray}(h:gT (bt x 0)=false)(hw:gT (bt w 0)=true):(x.toList==w.toList)=false:=by
 rw[Bool.eq_false_iff]
 intro he
 have he:x.toList=w.toList:=by simpa using he
 have:x=w:=Ae he
 rw[this,hw] at h;cases h
theorem tq{x y:List UInt8}(h:(x==y)=false):x≠y:=fun e=>by rw[e] at h;simp at h
def lb:List ByteArray:=[(⟨#[102,97,108,115,101]⟩:ByteArray),(⟨#[116,114,117,101]⟩:ByteArray),(⟨#[98,117,121]⟩:ByteArray),(⟨#[115,101,108,108]⟩:ByteArray)]
def Bd(i:Int)(pos:Int):Px:=if i>1 then s9 6 (i-1) pos else s9 5 i pos
section
variable {c:PC} {t:ByteArray} {s:PS}
theorem tr(hl:c.Live s)(h:(c.tok s.next).kind=3):c.literal s=((s9 (c.tok s.next).iS (c.tok s.next).n (c.tok s.next).pos,true),s.inc):=by
 unfold PC.literal;rw[hl.now,if_pos h]
theorem wW(hc:c.Of t)(hl:c.Live s)(h:(c.tok s.next).kind≠3):c.literal s=if c.any lb s<0 then ((gA,false),s) else ((Bd (c.any lb s) (c.tok s.next).pos,true),s.inc):=by
 have hn:=hl.now
 have hr:=hc.BW (Nat.le_of_lt hl.2)
 have hmk:=fun hk=>xQ hr.1 hr.2 (hc.tk hl.2) hk
 have hw:∀w∈lb,gT (bt w 0)=true:=by decide
 have hi:∀w∈lb,c.dS w s=((c.tok s.next).text.toList==w.toList&&(c.tok s.next).kind==1):=fun w hwm=>by
  unfold PC.dS;rw[hn]
  by_cases h4:(c.tok s.next).kind=4
  ·rw[vY (hmk h4) (hw w hwm)];rfl
  ·have:((c.tok s.next).kind==4)=false:=by simpa using h4
   rw[this,Bool.or_false]
 have ea:c.any lb s=if (c.tok s.next).kind=1 then (if (c.tok s.next).text.toList=(⟨#[102,97,108,115,101]⟩:ByteArray).toList then 0 else if (c.tok s.next).text.toList=(⟨#[116,114,117,101]⟩:ByteArray).toList then 1 else if (c.tok s.next).text.toList=(⟨#[98,117,121]⟩:ByteArray).toList then 2 else if (c.tok s.next).text.toList=(⟨#[115,101,108,108]⟩:ByteArray).toList then 3 else -1) else -1:=by
  show c.iz s lb 0=_
  unfold lb
  rw[PC.iz,PC.iz,PC.iz,PC.iz,PC.iz,hi _ (.head _),hi _ (.tail _ (.head _)),hi _ (.tail _ (.tail _ (.head _))),hi _ (.tail _ (.tail _ (.tail _ (.head _))))]
  by_cases h1:(c.tok s.next).kind=1
  ·rw[if_pos h1]
   simp only[h1,Bool.and_eq_true,beq_iff_eq,and_true]
   rfl
  ·rw[if_neg h1]
   have:((c.tok s.next).kind==1)=false:=by simpa using h1
   simp only[this,Bool.and_false,Bool.false_eq_true,if_false]
 have d1:(⟨#[116,114,117,101]⟩:ByteArray).toList≠(⟨#[102,97,108,115,101]⟩:ByteArray).toList:=tq (by kernel_rfl)
 have d2:(⟨#[98,117,121]⟩:ByteArray).toList≠(⟨#[115,101,108,108]⟩:ByteArray).toList:=tq (by kernel_rfl)
 have d3:(⟨#[102,97,108,115,101]⟩:ByteArray).toList≠(⟨#[116,114,117,101]⟩:ByteArray).toList:=tq (by kernel_rfl)
 have d4:(⟨#[115,101,108,108]⟩:ByteArray).toList≠(⟨#[98,117,121]⟩:ByteArray).toList:=tq (by kernel_rfl)
 unfold PC.literal
 rw[hn,if_neg h,ea]
 generalize (c.tok s.next).text.toList=x
 by_cases h1:(c.tok s.next).kind=1
 ·rw[if_pos h1]
  by_cases x0:x=(⟨#[102,97,108,115,101]⟩:ByteArray).toList
  ·subst x0
   rw[if_pos rfl,if_pos ⟨h1,.inr rfl⟩,if_neg d3,if_neg (by decide)];rfl
  ·rw[if_neg x0]
   by_cases x1:x=(⟨#[116,114,117,101]⟩:ByteArray).toList
   ·subst x1
    rw[if_pos rfl,if_pos ⟨h1,.inl rfl⟩,if_pos rfl,if_neg (by decide)];rfl
   ·rw[if_neg x1,if_neg (by rintro ⟨_,h | h⟩;exact x1 h;exact x0 h)]
    by_cases x2:x=(⟨#[98,117,121]⟩:ByteArray).toList
    ·subst x2
     rw[if_pos rfl,if_pos ⟨h1,.inl rfl⟩,if_neg d2,if_neg x1,if_neg (by decide)];rfl
    ·rw[if_neg x2]
     by_cases x3:x=(⟨#[115,101,108,108]⟩:ByteArray).toList
     ·subst x3
      rw[if_pos rfl,if_pos ⟨h1,.inr rfl⟩,if_pos rfl,if_neg x1,if_neg (by decide)];rfl
     ·rw[if_neg (by rintro ⟨_,h | h⟩;exact x2 h;exact x3 h),if_neg x1,if_neg x3,if_pos (by decide)]
 ·rw[if_neg h1,if_neg (fun h=>h1 h.1),if_neg (fun h=>h1 h.1),if_pos (by decide)]
def CC(x:Px×Bool)(v:Value)(H:cR):Prop:=∃n:Nd,v=.tuple #[n.v,.bool x.2]∧n.px=x.1∧ef 64 false n H∧H=[]
theorem ef.leaf{k o ty n f p:Int}{w:ByteArray}:ef 64 false (.mk k o ty n f w none 0 [] p) [] :=
 .mk (t:=.mk k o ty n f w none 0 [] p) (hs:=fun _=>[]) Acc.nil (fun h=>by cases h) fun i k h=>by simp[Nd.kids] at h
theorem nr(hc:c.Of t)(hl:c.Live s){b:Nat}{I:cS}{F F0:cR}(hF:F.Perm (c.px t b s::F0)):cU P 105 #[.pointer (some ⟨b,0,none⟩)] I F (c8 c t b CC F0 (c.literal s)):=by
 have hp:=dK.of (I:=I) hF
 refine eW.vc ?_
 unfold eW.V
 intro b0
 refine⟨_,rfl,_,(hp.mono (cS.le_refl I) fun x hx=>.tail _ hx).rd.dw (p:=1) (q:=4) rfl,fun bn=>⟨_,rfl,_,(hp.mono (cS.le_refl I) fun x hx=>.tail _ (.tail _ hx)).rd.dw (p:=1) (q:=0) rfl,fun h=>?_,fun h=>?_⟩⟩
 ·have h:(c.tok s.next).kind=3:=by simpa using h
  have e1:=tr hl h
  refine⟨_,rfl,_,(hp.mono (cS.le_refl I) fun x hx=>.tail _ (.tail _ hx)).rd.dw (p:=1) (q:=2) rfl,_,rfl,_,hp.rd.dw (p:=1) (q:=3) rfl, ?_⟩
  refine c8.use (dN hc hl (by rw[h];decide) (fP hF)) (fun v H I2 G l2 hL hv hG=>.inl ?_) fun f e I2 G l2 hd hf=>.inr ?_
  ·obtain⟨rfl,rfl⟩:=hv
   exact⟨rfl,c.px t b s.inc::F0,hG.trans (cV fun z=>by simp only[cW,cX,c6];omega),.inl ⟨by rw[e1];exact hL,_,[],rfl,by rw[e1];exact⟨.mk 1 0 (c.tok s.next).iS (c.tok s.next).n 0 ⟨#[]⟩ none 0 [] (c.tok s.next).pos,rfl,by simp only[Nd.px,Nd.oF];rfl,ef.leaf,rfl⟩,by rw[e1];exact .refl _⟩⟩
  ·exact dc.dq [_,_] hf fun e' G' hf'=>.inr ⟨f,by rw[e1];exact hd,hf'⟩
 ·have h:(c.tok s.next).kind≠3:=by simpa using h
  have e1:=wW hc hl h
  intro b1 I2 l2 hb1
  have hS:Sl I2 1 jd (some ⟨b1,0,none⟩) 4 lb:=Sl.g8 (f:=jd) (z:=1) (l:=lb) (fun _=>rfl) hb1 rfl
  refine cU.ret (hM hl (hp.mono l2 fun x hx=>.tail _ (.tail _ hx)) hS (by decide)) fun I3 l3=>⟨_,rfl,F,.refl _,fun hi=>?_,fun hi=>?_⟩
  ·have hi:=of_decide_eq_true hi
   rw[if_pos hi] at e1
   exact .inl ⟨by rw[e1];exact hl,_,[],rfl,by rw[e1];exact⟨fq,rfl,by simp only[fq,Nd.px,Nd.oF];rfl,ef.leaf,rfl⟩,by rw[e1];exact hF⟩
  ·have hi:=of_decide_eq_false hi
   rw[if_neg hi] at e1
   have hk:=hU (ws:=lb) hl (by omega)
   have hlt:=(dt (c:=c) (s:=s) (ws:=lb) (by omega)).2
   have hlt:c.any lb s<4:=hlt
   refine⟨fun h2=>?_,fun h2=>?_⟩
   ·have h2:=of_decide_eq_true h2
    rw[gS (n:=c.any lb s-1) (by omega)]
    have e3:Bd (c.any lb s) (c.tok s.next).pos=s9 6 (c.any lb s-1) (c.tok s.next).pos:=if_pos h2
    refine c8.use (dN hc hl hk (fP hF)) (fun v H I4 G l4 hL hv hG=>.inl ?_) fun f e I4 G l4 hd hf=>.inr ?_
    ·obtain⟨rfl,rfl⟩:=hv
     exact⟨rfl,c.px t b s.inc::F0,hG.trans (cV fun z=>by simp only[cW,cX,c6];omega),.inl ⟨by rw[e1];exact hL,_,[],rfl,by rw[e1,e3];exact⟨.mk 1 0 6 (c.any lb s-1) 0 ⟨#[]⟩ none 0 [] (c.tok s.next).pos,rfl,by simp only[Nd.px,Nd.oF];rfl,ef.leaf,rfl⟩,by rw[e1];exact .refl _⟩⟩
    ·exact dc.dq [_,_] hf fun e' G' hf'=>.inr ⟨f,by rw[e1];exact hd,hf'⟩
   ·have h2:=of_decide_eq_false h2
    have e3:Bd (c.any lb s) (c.tok s.next).pos=s9 5 (c.any lb s) (c.tok s.next).pos:=if_neg h2
    refine c8.use (dN hc hl hk (fP hF)) (fun v H I4 G l4 hL hv hG=>.inl ?_) fun f e I4 G l4 hd hf=>.inr ?_
    ·obtain⟨rfl,rfl⟩:=hv
     exact⟨rfl,c.px t b s.inc::F0,hG.trans (cV fun z=>by simp only[cW,cX,c6];omega),.inl ⟨by rw[e1];exact hL,_,[],rfl,by rw[e1,e3];exact⟨.mk 1 0 5 (c.any lb s) 0 ⟨#[]⟩ none 0 [] (c.tok s.next).pos,rfl,by simp only[Nd.px,Nd.oF];rfl,ef.leaf,rfl⟩,by rw[e1];exact .refl _⟩⟩
    ·exact dc.dq [_,_] hf fun e' G' hf'=>.inr ⟨f,by rw[e1];exact hd,hf'⟩
end
end Go.Lx
namespace Go.Lx
open Go.Vc Go.Proofs.Tryz
def oT:List (Nat×List Sh):=[(0,[]),(3,[.one (.int .i64)]),(4,[.one .bool]),(9,[.one .str]),(62,[.one .slc]),(64,[.agg [(.int .u8),(.int .u8),(.int .u8),(.int .i64),(.int .u8),.str,.slc,(.int .i64)]]),(74,[.one (.int .u8)]),(92,[.one .ptr]),(208,[.agg [(.int .u8),(.int .u8),(.int .u8),(.int .i64),(.int .u8),.str,.slc,(.int .i64)],.one .bool]),(219,[.one .slc,.one (.int .u8)])]
def gN.V(al ah:Nat→Nat×Obj)(nV:Int→Int→Int→Int→Int→Bs→OA→Nat→Nat→Int→Value)(nO:Int→Int→Int→Int→Int→Bs→OA→Nat→Nat→Int→Obj)(vb vi:Int→Value)(vs:Bs→Value)(vl:OA→Nat→Nat→Value)(vp:OA→Value)(wr:Int→Int)(p:Addr)(aj d:Int)(I:cS)(F:cR)(Q:cT)(Inv18:Int→OA→Int→Int→Int→Int→Int→Int→Bs→OA→Nat→Nat→Int→Nat→cS→cR→Prop):Prop:=∀w:Nat,∀a:Nat,∀b:Nat,(Dt (aj<6) (eM P 115 #[vi aj] I ((al w)::(ah a)::(b,nO 0 0 0 0 0 (⟨#[]⟩:Bs) none 0 0 0)::·) F fun e1 I1 G1=>∃(aJ:OA) (aK aL:Nat) (r1:Int),e1=.returned (.tuple #[vl aJ aK aL,vb r1])∧G1 fun F1=>cU P 114 (#[vi d,vp (some ⟨w,0,none⟩),vp (some ⟨a,0,none⟩)]) I1 ((al w)::(ah a)::(b,nO 0 0 0 0 0 (⟨#[]⟩:Bs) none 0 0 0)::F1) fun e2 I2 G2=>((∃(br bs bt bu bv:Int) (bw:Bs) (aM:OA) (aN aO:Nat) (bx:Int),e2=.returned (nV br bs bt bu bv bw aM aN aO bx)∧∃(aP:OA) (am:Int),∃F2:cR,List.Perm G2 ((w,Obj.cells #[vp aP] 92 (0,0))::(a,Obj.cells #[vi am] 3 (0,0))::(b,nO 0 0 0 0 0 (⟨#[]⟩:Bs) none 0 0 0)::F2)∧∀ai:Nat,(∃m:Nat,Inv18 0 aP am br bs bt bu bv bw aM aN aO bx m I2 F2)∧∀(an:Int) (x:OA) (e y z aa ab ac:Int) (ae:Bs) (i:OA) (j k:Nat) (af:Int) (m1:Nat) (I3:cS) (F3:cR),cS.le I2 I3→Inv18 an x e y z aa ab ac ae i j k af m1 I3 F3→(It (e != 4) (dR P 104 #[vp x,vl aJ aK aL] I3 ((w,Obj.cells #[vp x] 92 (0,0))::(a,Obj.cells #[vi e] 3 (0,0))::(b,nO 0 0 0 0 0 (⟨#[]⟩:Bs) none 0 0 0)::(ai,nO y z aa ab ac ae i j k af)::·) F3 vi fun r I4 F4=>(Dt (r<0) (Q (.returned (nV y z aa ab ac ae i j k af)) I4 F4) (∃ad:Addr,x=some ad∧∃(m2:Int),Rd I4 ((w,Obj.cells #[vp x] 92 (0,0))::(a,Obj.cells #[vi e] 3 (0,0))::(b,nO 0 0 0 0 0 (⟨#[]⟩:Bs) none 0 0 0)::(ai,nO y z aa ab ac ae i j k af)::F4) ((ad.add 1).add 4) [vi m2]∧cU P 64 #[vp x] I4 ((w,Obj.cells #[vp x] 92 (0,0))::(a,Obj.cells #[vi e] 3 (0,0))::(b,nO 0 0 0 0 0 (⟨#[]⟩:Bs) none 0 0 0)::(ai,nO y z aa ab ac ae i j k af)::F4) fun e4 I5 G4=>((e4=.returned (.tuple #[])∧∃F5:cR,List.Perm G4 ((w,Obj.cells #[vp x] 92 (0,0))::(a,Obj.cells #[vi e] 3 (0,0))::(b,nO 0 0 0 0 0 (⟨#[]⟩:Bs) none 0 0 0)::(ai,nO y z aa ab ac ae i j k af)::F5)∧cU P 114 (#[vi d,vp (some ⟨w,0,none⟩),vp (some ⟨a,0,none⟩)]) I5 ((w,Obj.cells #[vp x] 92 (0,0))::(a,Obj.cells #[vi e] 3 (0,0))::(b,nO 0 0 0 0 0 (⟨#[]⟩:Bs) none 0 0 0)::(ai,nO y z aa ab ac ae i j k af)::F5) fun e5 I6 G5=>((∃(aQ aR aS aT aU:Int) (aV:Bs) (au:OA) (av aw:Nat) (aW:Int),e5=.returned (nV aQ aR aS aT aU aV au av aw aW)∧∃F6:cR,List.Perm G5 ((w,Obj.cells #[vp x] 92 (0,0))::(a,Obj.cells #[vi e] 3 (0,0))::(b,nO 0 0 0 0 0 (⟨#[]⟩:Bs) none 0 0 0)::(ai,nO y z aa ab ac ae i j k af)::F6)∧∀b1:Nat,(∃m3:Nat,m3<m1∧Inv18 (wr (an+1)) x e 6 (IntKind.wrap .u8 (r1+(IntKind.wrap .u8 r))) 0 0 0 (⟨#[]⟩:Bs) (some ⟨b1,0,none⟩) 2 2 m2 m3 I6 ((b1,Obj.cells #[vb y,vb z,vb aa,vi ab,vb ac,vs ae,vl i j k,vi af,vb aQ,vb aR,vb aS,vi aT,vb aU,vs aV,vl au av aw,vi aW] 64 (0,0))::F6)))∨(∃ch:List PanicEntry,e5=.panicked ch∧∃F7:cR,List.Perm G5 ((w,Obj.cells #[vp x] 92 (0,0))::(a,Obj.cells #[vi e] 3 (0,0))::(b,nO 0 0 0 0 0 (⟨#[]⟩:Bs) none 0 0 0)::(ai,nO y z aa ab ac ae i j k af)::F7)∧Q (.panicked ch) I6 F7)))∨(∃bA:List PanicEntry,e4=.panicked bA∧∃F8:cR,List.Perm G4 ((w,Obj.cells #[vp x] 92 (0,0))::(a,Obj.cells #[vi e] 3 (0,0))::(b,nO 0 0 0 0 0 (⟨#[]⟩:Bs) none 0 0 0)::(ai,nO y z aa ab ac ae i j k af)::F8)∧Q (.panicked bA) I5 F8))))) (It (an==0) (dR P 104 #[vp x,vl aJ aK aL] I3 ((w,Obj.cells #[vp x] 92 (0,0))::(a,Obj.cells #[vi e] 3 (0,0))::(b,nO 0 0 0 0 0 (⟨#[]⟩:Bs) none 0 0 0)::(ai,nO y z aa ab ac ae i j k af)::·) F3 vi fun r2 I7 F9=>(Dt (r2<0) (Q (.returned (nV y z aa ab ac ae i j k af)) I7 F9) (∃bB:Addr,x=some bB∧∃(m4:Int),Rd I7 ((w,Obj.cells #[vp x] 92 (0,0))::(a,Obj.cells #[vi e] 3 (0,0))::(b,nO 0 0 0 0 0 (⟨#[]⟩:Bs) none 0 0 0)::(ai,nO y z aa ab ac ae i j k af)::F9) ((bB.add 1).add 4) [vi m4]∧cU P 64 #[vp x] I7 ((w,Obj.cells #[vp x] 92 (0,0))::(a,Obj.cells #[vi e] 3 (0,0))::(b,nO 0 0 0 0 0 (⟨#[]⟩:Bs) none 0 0 0)::(ai,nO y z aa ab ac ae i j k af)::F9) fun e7 I8 G7=>((e7=.returned (.tuple #[])∧∃F10:cR,List.Perm G7 ((w,Obj.cells #[vp x] 92 (0,0))::(a,Obj.cells #[vi e] 3 (0,0))::(b,nO 0 0 0 0 0 (⟨#[]⟩:Bs) none 0 0 0)::(ai,nO y z aa ab ac ae i j k af)::F10)∧cU P 114 (#[vi d,vp (some ⟨w,0,none⟩),vp (some ⟨a,0,none⟩)]) I8 ((w,Obj.cells #[vp x] 92 (0,0))::(a,Obj.cells #[vi e] 3 (0,0))::(b,nO 0 0 0 0 0 (⟨#[]⟩:Bs) none 0 0 0)::(ai,nO y z aa ab ac ae i j k af)::F10) fun e8 I9 G8=>((∃(aX aY aZ a0 a1:Int) (a2:Bs) (ax:OA) (ay az:Nat) (a3:Int),e8=.returned (nV aX aY aZ a0 a1 a2 ax ay az a3)∧∃F11:cR,List.Perm G8 ((w,Obj.cells #[vp x] 92 (0,0))::(a,Obj.cells #[vi e] 3 (0,0))::(b,nO 0 0 0 0 0 (⟨#[]⟩:Bs) none 0 0 0)::(ai,nO y z aa ab ac ae i j k af)::F11)∧∀b2:Nat,(∃m5:Nat,m5<m1∧Inv18 (wr (an+1)) x e 6 (IntKind.wrap .u8 (r1+(IntKind.wrap .u8 r2))) 0 0 0 (⟨#[]⟩:Bs) (some ⟨b2,0,none⟩) 2 2 m4 m5 I9 ((b2,Obj.cells #[vb y,vb z,vb aa,vi ab,vb ac,vs ae,vl i j k,vi af,vb aX,vb aY,vb aZ,vi a0,vb a1,vs a2,vl ax ay az,vi a3] 64 (0,0))::F11)))∨(∃bC:List PanicEntry,e8=.panicked bC∧∃F12:cR,List.Perm G8 ((w,Obj.cells #[vp x] 92 (0,0))::(a,Obj.cells #[vi e] 3 (0,0))::(b,nO 0 0 0 0 0 (⟨#[]⟩:Bs) none 0 0 0)::(ai,nO y z aa ab ac ae i j k af)::F12)∧Q (.panicked bC) I9 F12)))∨(∃bD:List PanicEntry,e7=.panicked bD∧∃F13:cR,List.Perm G7 ((w,Obj.cells #[vp x] 92 (0,0))::(a,Obj.cells #[vi e] 3 (0,0))::(b,nO 0 0 0 0 0 (⟨#[]⟩:Bs) none 0 0 0)::(ai,nO y z aa ab ac ae i j k af)::F13)∧Q (.panicked bD) I8 F13))))) (Q (.returned (nV y z aa ab ac ae i j k af)) I3 F3))))∨(∃bE:List PanicEntry,e2=.panicked bE∧∃(a4:OA) (ao:Int),∃F14:cR,List.Perm G2 ((w,Obj.cells #[vp a4] 92 (0,0))::(a,Obj.cells #[vi ao] 3 (0,0))::(b,nO 0 0 0 0 0 (⟨#[]⟩:Bs) none 0 0 0)::F14)∧Q (.panicked bE) I2 F14))) (eM P 115 #[vi aj] I ((al w)::(ah a)::(b,nO 0 0 0 0 0 (⟨#[]⟩:Bs) none 0 0 0)::·) F fun e9 I10 G9=>∃(ap:OA) (aq ar:Nat) (a5:Int),e9=.returned (.tuple #[vl ap aq ar,vb a5])∧G9 fun F15=>cU P 113 (#[vp (some p),vi d]) I10 ((al w)::(ah a)::(b,nO 0 0 0 0 0 (⟨#[]⟩:Bs) none 0 0 0)::F15) fun bN I11 G10=>((∃(a6 a7 a8 a9 ba:Int) (bb:Bs) (aA:OA) (aB aC:Nat) (bc:Int),bN=.returned (nV a6 a7 a8 a9 ba bb aA aB aC bc)∧∃F16:cR,List.Perm G10 ((al w)::(ah a)::(b,nO 0 0 0 0 0 (⟨#[]⟩:Bs) none 0 0 0)::F16)∧∀ag:Nat,(∃m6:Nat,Inv18 0 (some p) aj a6 a7 a8 a9 ba bb aA aB aC bc m6 I11 F16)∧∀(ak:Int) (l:OA) (c n o q s t:Int) (u:Bs) (f:OA) (g h:Nat) (v:Int) (m7:Nat) (I12:cS) (F17:cR),cS.le I11 I12→Inv18 ak l c n o q s t u f g h v m7 I12 F17→(It (c != 4) (dR P 104 #[vp l,vl ap aq ar] I12 ((w,Obj.cells #[vp l] 92 (0,0))::(a,Obj.cells #[vi c] 3 (0,0))::(b,nO 0 0 0 0 0 (⟨#[]⟩:Bs) none 0 0 0)::(ag,nO n o q s t u f g h v)::·) F17 vi fun r3 I13 F18=>(Dt (r3<0) (Q (.returned (nV n o q s t u f g h v)) I13 F18) (∃bF:Addr,l=some bF∧∃(m8:Int),Rd I13 ((w,Obj.cells #[vp l] 92 (0,0))::(a,Obj.cells #[vi c] 3 (0,0))::(b,nO 0 0 0 0 0 (⟨#[]⟩:Bs) none 0 0 0)::(ag,nO n o q s t u f g h v)::F18) ((bF.add 1).add 4) [vi m8]∧cU P 64 #[vp l] I13 ((w,Obj.cells #[vp l] 92 (0,0))::(a,Obj.cells #[vi c] 3 (0,0))::(b,nO 0 0 0 0 0 (⟨#[]⟩:Bs) none 0 0 0)::(ag,nO n o q s t u f g h v)::F18) fun bO I14 G12=>((bO=.returned (.tuple #[])∧∃F19:cR,List.Perm G12 ((w,Obj.cells #[vp l] 92 (0,0))::(a,Obj.cells #[vi c] 3 (0,0))::(b,nO 0 0 0 0 0 (⟨#[]⟩:Bs) none 0 0 0)::(ag,nO n o q s t u f g h v)::F19)∧cU P 113 (#[vp (some p),vi d]) I14 ((w,Obj.cells #[vp l] 92 (0,0))::(a,Obj.cells #[vi c] 3 (0,0))::(b,nO 0 0 0 0 0 (⟨#[]⟩:Bs) none 0 0 0)::(ag,nO n o q s t u f g h v)::F19) fun bP I15 G13=>((∃(bd be bf bg bh:Int) (bi:Bs) (aD:OA) (aE aF:Nat) (bj:Int),bP=.returned (nV bd be bf bg bh bi aD aE aF bj)∧∃F20:cR,List.Perm G13 ((w,Obj.cells #[vp l] 92 (0,0))::(a,Obj.cells #[vi c] 3 (0,0))::(b,nO 0 0 0 0 0 (⟨#[]⟩:Bs) none 0 0 0)::(ag,nO n o q s t u f g h v)::F20)∧∀b3:Nat,(∃m9:Nat,m9<m7∧Inv18 (wr (ak+1)) l c 6 (IntKind.wrap .u8 (a5+(IntKind.wrap .u8 r3))) 0 0 0 (⟨#[]⟩:Bs) (some ⟨b3,0,none⟩) 2 2 m8 m9 I15 ((b3,Obj.cells #[vb n,vb o,vb q,vi s,vb t,vs u,vl f g h,vi v,vb bd,vb be,vb bf,vi bg,vb bh,vs bi,vl aD aE aF,vi bj] 64 (0,0))::F20)))∨(∃bG:List PanicEntry,bP=.panicked bG∧∃F21:cR,List.Perm G13 ((w,Obj.cells #[vp l] 92 (0,0))::(a,Obj.cells #[vi c] 3 (0,0))::(b,nO 0 0 0 0 0 (⟨#[]⟩:Bs) none 0 0 0)::(ag,nO n o q s t u f g h v)::F21)∧Q (.panicked bG) I15 F21)))∨(∃bH:List PanicEntry,bO=.panicked bH∧∃F22:cR,List.Perm G12 ((w,Obj.cells #[vp l] 92 (0,0))::(a,Obj.cells #[vi c] 3 (0,0))::(b,nO 0 0 0 0 0 (⟨#[]⟩:Bs) none 0 0 0)::(ag,nO n o q s t u f g h v)::F22)∧Q (.panicked bH) I14 F22))))) (It (ak==0) (dR P 104 #[vp l,vl ap aq ar] I12 ((w,Obj.cells #[vp l] 92 (0,0))::(a,Obj.cells #[vi c] 3 (0,0))::(b,nO 0 0 0 0 0 (⟨#[]⟩:Bs) none 0 0 0)::(ag,nO n o q s t u f g h v)::·) F17 vi fun r4 I16 F23=>(Dt (r4<0) (Q (.returned (nV n o q s t u f g h v)) I16 F23) (∃bI:Addr,l=some bI∧∃(bz:Int),Rd I16 ((w,Obj.cells #[vp l] 92 (0,0))::(a,Obj.cells #[vi c] 3 (0,0))::(b,nO 0 0 0 0 0 (⟨#[]⟩:Bs) none 0 0 0)::(ag,nO n o q s t u f g h v)::F23) ((bI.add 1).add 4) [vi bz]∧cU P 64 #[vp l] I16 ((w,Obj.cells #[vp l] 92 (0,0))::(a,Obj.cells #[vi c] 3 (0,0))::(b,nO 0 0 0 0 0 (⟨#[]⟩:Bs) none 0 0 0)::(ag,nO n o q s t u f g h v)::F23) fun bQ I17 G15=>((bQ=.returned (.tuple #[])∧∃F24:cR,List.Perm G15 ((w,Obj.cells #[vp l] 92 (0,0))::(a,Obj.cells #[vi c] 3 (0,0))::(b,nO 0 0 0 0 0 (⟨#[]⟩:Bs) none 0 0 0)::(ag,nO n o q s t u f g h v)::F24)∧cU P 113 (#[vp (some p),vi d]) I17 ((w,Obj.cells #[vp l] 92 (0,0))::(a,Obj.cells #[vi c] 3 (0,0))::(b,nO 0 0 0 0 0 (⟨#[]⟩:Bs) none 0 0 0)::(ag,nO n o q s t u f g h v)::F24) fun bR I18 G16=>((∃(bk bl bm bn bo:Int) (bp:Bs) (aG:OA) (aH aI:Nat) (bq:Int),bR=.returned (nV bk bl bm bn bo bp aG aH aI bq)∧∃F25:cR,List.Perm G16 ((w,Obj.cells #[vp l] 92 (0,0))::(a,Obj.cells #[vi c] 3 (0,0))::(b,nO 0 0 0 0 0 (⟨#[]⟩:Bs) none 0 0 0)::(ag,nO n o q s t u f g h v)::F25)∧∀b4:Nat,(∃bJ:Nat,bJ<m7∧Inv18 (wr (ak+1)) l c 6 (IntKind.wrap .u8 (a5+(IntKind.wrap .u8 r4))) 0 0 0 (⟨#[]⟩:Bs) (some ⟨b4,0,none⟩) 2 2 bz bJ I18 ((b4,Obj.cells #[vb n,vb o,vb q,vi s,vb t,vs u,vl f g h,vi v,vb bk,vb bl,vb bm,vi bn,vb bo,vs bp,vl aG aH aI,vi bq] 64 (0,0))::F25)))∨(∃bK:List PanicEntry,bR=.panicked bK∧∃F26:cR,List.Perm G16 ((w,Obj.cells #[vp l] 92 (0,0))::(a,Obj.cells #[vi c] 3 (0,0))::(b,nO 0 0 0 0 0 (⟨#[]⟩:Bs) none 0 0 0)::(ag,nO n o q s t u f g h v)::F26)∧Q (.panicked bK) I18 F26)))∨(∃bL:List PanicEntry,bQ=.panicked bL∧∃F27:cR,List.Perm G15 ((w,Obj.cells #[vp l] 92 (0,0))::(a,Obj.cells #[vi c] 3 (0,0))::(b,nO 0 0 0 0 0 (⟨#[]⟩:Bs) none 0 0 0)::(ag,nO n o q s t u f g h v)::F27)∧Q (.panicked bL) I17 F27))))) (Q (.returned (nV n o q s t u f g h v)) I12 F17))))∨(∃bM:List PanicEntry,bN=.panicked bM∧∃F28:cR,List.Perm G10 ((al w)::(ah a)::(b,nO 0 0 0 0 0 (⟨#[]⟩:Bs) none 0 0 0)::F28)∧Q (.panicked bM) I11 F28))))
theorem gN.vc{p:Addr}{e d:Int}{I:cS}{F:cR}{Q:cT}(Inv18:Int→OA→Int→Int→Int→Int→Int→Int→Bs→OA→Nat→Nat→Int→Nat→cS→cR→Prop)(h:gN.V (fun b=>(b,Obj.cells #[.pointer (some p)] 92 (0,0))) (fun b=>(b,Obj.cells #[.int .i64 e] 3 (0,0))) (fun k o t n f s a l c q=>.agg #[.int .u8 k,.int .u8 o,.int .u8 t,.int .i64 n,.int .u8 f,.string s,.slice a l c,.int .i64 q]) (fun k o t n f s a l c q=>.cells #[.int .u8 k,.int .u8 o,.int .u8 t,.int .i64 n,.int .u8 f,.string s,.slice a l c,.int .i64 q] 64 (0,0)) (.int .u8) (.int .i64) .string .slice .pointer (IntKind.wrap .i64) p e d I F Q Inv18):cU P 90 #[.pointer (some p),.int .i64 e,.int .i64 d] I F Q :=
 tw (A:=(dv [2001,7001,7004,10001] [64,113,114] [64,104,113,114,115] oT [(18,⟨[(11,(.int .i64))],[(0,[.ptr]),(1,[(.int .i64)]),(3,[(.int .u8),(.int .u8),(.int .u8),(.int .i64),(.int .u8),.str,.slc,(.int .i64)])],fun _ _ _ vs m I F=>match vs with | [.int _ y0,.pointer y1,.int _ y2,.int _ y3,.int _ y4,.int _ y5,.int _ y6,.int _ y7,.string y8,.slice y9 y10 y11,.int _ y12]=>Inv18 y0 y1 y2 y3 y4 y5 y6 y7 y8 y9 y10 y11 y12 m I F | _=>False,[],[]⟩)] [] [13008] [] [] [(13,[0,1,2,3,5,6,9,4,7,8,10,11])] [] [] [(13,[4],11)])) [64,104,113,114,115] func90 h
def fJ.V(nV:Int→Int→Int→Int→Int→Bs→OA→Nat→Nat→Int→Value)(nO:Int→Int→Int→Int→Int→Bs→OA→Nat→Nat→Int→Obj)(d:Int)(c c1:Addr)(I:cS)(F:cR)(Q:cT)  : Prop:=∀b:Nat,∃(m:OA),Rd I ((b,nO 0 0 0 0 0 (⟨#[]⟩:Bs) none 0 0 0)::F) c [.pointer m]∧∃(m1:Int),Rd I ((b,nO 0 0 0 0 0 (⟨#[]⟩:Bs) none 0 0 0)::F) c1 [.int .i64 m1]∧cU P 90 (#[.pointer m,.int .i64 (IntKind.wrap .i64 (m1+1)),.int .i64 d]) I ((b,nO 0 0 0 0 0 (⟨#[]⟩:Bs) none 0 0 0)::F) fun e1 I1 G1=>((∃(g h i j k:Int) (l:Bs) (a:OA) (e f:Nat) (n:Int),e1=.returned (nV g h i j k l a e f n)∧∃F1:cR,List.Perm G1 ((b,nO 0 0 0 0 0 (⟨#[]⟩:Bs) none 0 0 0)::F1)∧Q (.returned (nV g h i j k l a e f n)) I1 F1)∨(∃ch:List PanicEntry,e1=.panicked ch∧∃F2:cR,List.Perm G1 ((b,nO 0 0 0 0 0 (⟨#[]⟩:Bs) none 0 0 0)::F2)∧Q (.panicked ch) I1 F2))
theorem fJ.vc{d:Int}{c c1:Addr}{I:cS}{F:cR}{Q:cT}  (h:fJ.V (fun k o t n f s a l c q=>.agg #[.int .u8 k,.int .u8 o,.int .u8 t,.int .i64 n,.int .u8 f,.string s,.slice a l c,.int .i64 q]) (fun k o t n f s a l c q=>.cells #[.int .u8 k,.int .u8 o,.int .u8 t,.int .i64 n,.int .u8 f,.string s,.slice a l c,.int .i64 q] 64 (0,0)) d c c1 I F Q):cU P 114 #[.int .i64 d,.pointer (some c),.pointer (some c1)] I F Q :=
 tw (A:=(dv [] [90] [90] oT [] [] [] [] [] [] [])) [90] func114 h
def gi.V(nV:Int→Int→Int→Int→Int→Bs→OA→Nat→Nat→Int→Value)(nO:Int→Int→Int→Int→Int→Bs→OA→Nat→Nat→Int→Obj)(vb vi:Int→Value)(vs:Bs→Value)(vl:OA→Nat→Nat→Value)(vp:OA→Value)(p:Addr)(d:Int)(I:cS)(F:cR)(Q:cT)  : Prop:=∀b:Nat,cU P 90 (#[vp (some p),vi 2,vi d]) I ((b,nO 0 0 0 0 0 (⟨#[]⟩:Bs) none 0 0 0)::F) fun e1 I1 G1=>((∃(f g h i j:Int) (k:Bs) (a:OA) (c e:Nat) (l:Int),e1=.returned (nV f g h i j k a c e l)∧∃F1:cR,List.Perm G1 ((b,nO 0 0 0 0 0 (⟨#[]⟩:Bs) none 0 0 0)::F1)∧∀s:Nat,dR P 91 (#[vp (some p),vs (⟨#[63]⟩:Bs)]) I1 ((b,nO 0 0 0 0 0 (⟨#[]⟩:Bs) none 0 0 0)::(s,nO f g h i j k a c e l)::·) F1 .bool fun r I2 F2=>(It (!r) (Q (.returned (nV f g h i j k a c e l)) I2 F2) (∃(hb:Nat) (ho:Obj) (F3:cR),List.Perm F2 ((hb,ho)::F3)∧∃ad:Addr,some p=some ad∧∃(m:Int),Rd (cS.put I2 hb ho) ([]) ((ad.add 1).add 4) [vi m]∧cU P 92 (#[vp (some p),vi d]) (cS.put I2 hb ho) ((b,nO 0 0 0 0 0 (⟨#[]⟩:Bs) none 0 0 0)::(s,nO f g h i j k a c e l)::F3) fun e3 I3 G3=>((∃(r1:Int),e3=.returned (vi r1)∧∃F4:cR,List.Perm G3 ((b,nO 0 0 0 0 0 (⟨#[]⟩:Bs) none 0 0 0)::(s,nO f g h i j k a c e l)::F4)∧cU P 64 (#[vp (some p)]) (cS.del I3 hb) ((b,nO 0 0 0 0 0 (⟨#[]⟩:Bs) none 0 0 0)::(s,nO f g h i j k a c e l)::((hb,ho)::F4)) fun e4 I4 G4=>((e4=.returned (.tuple #[])∧∃F5:cR,List.Perm G4 ((b,nO 0 0 0 0 0 (⟨#[]⟩:Bs) none 0 0 0)::(s,nO f g h i j k a c e l)::F5)∧cU P 47 (#[vp (some p),vi r1]) I4 ((b,nO 0 0 0 0 0 (⟨#[]⟩:Bs) none 0 0 0)::(s,nO f g h i j k a c e l)::F5) fun e5 I5 G5=>((∃(t u v w x:Int) (y:Bs) (n:OA) (o q:Nat) (z:Int),e5=.returned (nV t u v w x y n o q z)∧∃F6:cR,List.Perm G5 ((b,nO 0 0 0 0 0 (⟨#[]⟩:Bs) none 0 0 0)::(s,nO f g h i j k a c e l)::F6)∧∀aa:Nat,∀(b1:Nat) (I6:cS),cS.le I5 I6→I6 b1=some (Obj.cells #[vs (⟨#[58]⟩:Bs)] 9 (0,0))→cU P 66 (#[vp (some p),vl (some ⟨b1,0,none⟩) 1 1]) I6 ((b,nO 0 0 0 0 0 (⟨#[]⟩:Bs) none 0 0 0)::(s,nO f g h i j k a c e l)::(aa,nO t u v w x y n o q z)::F6) fun e6 I7 G6=>((∃(r2:Int),e6=.returned (vi r2)∧∃F7:cR,List.Perm G6 ((b,nO 0 0 0 0 0 (⟨#[]⟩:Bs) none 0 0 0)::(s,nO f g h i j k a c e l)::(aa,nO t u v w x y n o q z)::F7)∧cU P 47 (#[vp (some p),vi r1]) I7 ((b,nO 0 0 0 0 0 (⟨#[]⟩:Bs) none 0 0 0)::(s,nO f g h i j k a c e l)::(aa,nO t u v w x y n o q z)::F7) fun e7 I8 G7=>((∃(af ag ah ai aj:Int) (ak:Bs) (ab:OA) (ac ae:Nat) (al:Int),e7=.returned (nV af ag ah ai aj ak ab ac ae al)∧∃F8:cR,List.Perm G7 ((b,nO 0 0 0 0 0 (⟨#[]⟩:Bs) none 0 0 0)::(s,nO f g h i j k a c e l)::(aa,nO t u v w x y n o q z)::F8)∧∀b2:Nat,Q (.returned (nV 7 0 0 0 0 (⟨#[]⟩:Bs) (some ⟨b2,0,none⟩) 3 3 m)) I8 (((b2,Obj.cells #[vb f,vb g,vb h,vi i,vb j,vs k,vl a c e,vi l,vb t,vb u,vb v,vi w,vb x,vs y,vl n o q,vi z,vb af,vb ag,vb ah,vi ai,vb aj,vs ak,vl ab ac ae,vi al] 64 (0,0))::F8)))∨(∃ch:List PanicEntry,e7=.panicked ch∧∃F9:cR,List.Perm G7 ((b,nO 0 0 0 0 0 (⟨#[]⟩:Bs) none 0 0 0)::(s,nO f g h i j k a c e l)::(aa,nO t u v w x y n o q z)::F9)∧Q (.panicked ch) I8 F9)))∨(∃am:List PanicEntry,e6=.panicked am∧∃F10:cR,List.Perm G6 ((b,nO 0 0 0 0 0 (⟨#[]⟩:Bs) none 0 0 0)::(s,nO f g h i j k a c e l)::(aa,nO t u v w x y n o q z)::F10)∧Q (.panicked am) I7 F10)))∨(∃an:List PanicEntry,e5=.panicked an∧∃F11:cR,List.Perm G5 ((b,nO 0 0 0 0 0 (⟨#[]⟩:Bs) none 0 0 0)::(s,nO f g h i j k a c e l)::F11)∧Q (.panicked an) I5 F11)))∨(∃ao:List PanicEntry,e4=.panicked ao∧∃F12:cR,List.Perm G4 ((b,nO 0 0 0 0 0 (⟨#[]⟩:Bs) none 0 0 0)::(s,nO f g h i j k a c e l)::F12)∧Q (.panicked ao) I4 F12)))∨(∃ap:List PanicEntry,e3=.panicked ap∧∃F13:cR,List.Perm G3 ((b,nO 0 0 0 0 0 (⟨#[]⟩:Bs) none 0 0 0)::(s,nO f g h i j k a c e l)::F13)∧Q (.panicked ap) (cS.del I3 hb) (((hb,ho)::F13)))))))∨(∃aq:List PanicEntry,e1=.panicked aq∧∃F14:cR,List.Perm G1 ((b,nO 0 0 0 0 0 (⟨#[]⟩:Bs) none 0 0 0)::F14)∧Q (.panicked aq) I1 F14))
theorem gi.vc{p:Addr}{d:Int}{I:cS}{F:cR}{Q:cT}  (h:gi.V (fun k o t n f s a l c q=>.agg #[.int .u8 k,.int .u8 o,.int .u8 t,.int .i64 n,.int .u8 f,.string s,.slice a l c,.int .i64 q]) (fun k o t n f s a l c q=>.cells #[.int .u8 k,.int .u8 o,.int .u8 t,.int .i64 n,.int .u8 f,.string s,.slice a l c,.int .i64 q] 64 (0,0)) (.int .u8) (.int .i64) .string .slice .pointer p d I F Q):cU P 47 #[.pointer (some p),.int .i64 d] I F Q :=
 tw (A:=(dv [2002] [47,64,66,90,92] [47,64,66,90,91,92] oT [] [7001] [8005] [] [] [(4,[0,1,3,4,5,6,7,2,8,9]),(8,[2,3,6,0,1,4,5,7,8])] [] [] [(4,[7,1000],10),(8,[0,1],8)])) [47,64,66,90,91,92] func47 h
def fK.V(nV:Int→Int→Int→Int→Int→Bs→OA→Nat→Nat→Int→Value)(nO:Int→Int→Int→Int→Int→Bs→OA→Nat→Nat→Int→Obj)(vb vi:Int→Value)(vp:OA→Value)(p:Addr)(d:Int)(I:cS)(F:cR)(Q:cT)  : Prop:=∀b:Nat,∀(b1:Nat) (I1:cS),cS.le I I1→I1 b1=some (Obj.cells #[.string (⟨#[45]⟩:Bs),.string (⟨#[33]⟩:Bs)] 9 (0,0))→dR P 104 (#[vp (some p),.slice (some ⟨b1,0,none⟩) 2 2]) I1 ((b,nO 0 0 0 0 0 (⟨#[]⟩:Bs) none 0 0 0)::·) F vi fun r I2 F1=>(Dt (r<0) (cU P 128 (#[vp (some p),vi d]) I2 ((b,nO 0 0 0 0 0 (⟨#[]⟩:Bs) none 0 0 0)::F1) fun e2 I3 G2=>((∃(s t u v w:Int) (x:Bs) (f:OA) (g h:Nat) (y:Int),e2=.returned (nV s t u v w x f g h y)∧∃F2:cR,List.Perm G2 ((b,nO 0 0 0 0 0 (⟨#[]⟩:Bs) none 0 0 0)::F2)∧Q (.returned (nV s t u v w x f g h y)) I3 F2)∨(∃ch:List PanicEntry,e2=.panicked ch∧∃F3:cR,List.Perm G2 ((b,nO 0 0 0 0 0 (⟨#[]⟩:Bs) none 0 0 0)::F3)∧Q (.panicked ch) I3 F3))) (∃(hb:Nat) (ho:Obj) (F4:cR),List.Perm F1 ((hb,ho)::F4)∧∃ad:Addr,some p=some ad∧∃(m:Int),Rd (cS.put I2 hb ho) ([]) ((ad.add 1).add 4) [vi m]∧cU P 92 (#[vp (some p),vi d]) (cS.put I2 hb ho) ((b,nO 0 0 0 0 0 (⟨#[]⟩:Bs) none 0 0 0)::F4) fun e3 I4 G3=>((∃(r1:Int),e3=.returned (vi r1)∧∃F5:cR,List.Perm G3 ((b,nO 0 0 0 0 0 (⟨#[]⟩:Bs) none 0 0 0)::F5)∧cU P 64 (#[vp (some p)]) (cS.del I4 hb) ((b,nO 0 0 0 0 0 (⟨#[]⟩:Bs) none 0 0 0)::((hb,ho)::F5)) fun e4 I5 G4=>((e4=.returned (.tuple #[])∧∃F6:cR,List.Perm G4 ((b,nO 0 0 0 0 0 (⟨#[]⟩:Bs) none 0 0 0)::F6)∧cU P 113 (#[vp (some p),vi r1]) I5 ((b,nO 0 0 0 0 0 (⟨#[]⟩:Bs) none 0 0 0)::F6) fun e5 I6 G5=>((∃(i j k l n:Int) (o:Bs) (a:OA) (c e:Nat) (q:Int),e5=.returned (nV i j k l n o a c e q)∧∃F7:cR,List.Perm G5 ((b,nO 0 0 0 0 0 (⟨#[]⟩:Bs) none 0 0 0)::F7)∧∀b2:Nat,Q (.returned (.agg #[vb 5,vb (IntKind.wrap .u8 (1+(IntKind.wrap .u8 r))),vb 0,vi 0,vb 0,.string (⟨#[]⟩:Bs),.slice (some ⟨b2,0,none⟩) 1 1,vi m])) I6 (((b2,nO i j k l n o a c e q)::F7)))∨(∃z:List PanicEntry,e5=.panicked z∧∃F8:cR,List.Perm G5 ((b,nO 0 0 0 0 0 (⟨#[]⟩:Bs) none 0 0 0)::F8)∧Q (.panicked z) I6 F8)))∨(∃aa:List PanicEntry,e4=.panicked aa∧∃F9:cR,List.Perm G4 ((b,nO 0 0 0 0 0 (⟨#[]⟩:Bs) none 0 0 0)::F9)∧Q (.panicked aa) I5 F9)))∨(∃ab:List PanicEntry,e3=.panicked ab∧∃F10:cR,List.Perm G3 ((b,nO 0 0 0 0 0 (⟨#[]⟩:Bs) none 0 0 0)::F10)∧Q (.panicked ab) (cS.del I4 hb) (((hb,ho)::F10))))))
theorem fK.vc{p:Addr}{d:Int}{I:cS}{F:cR}{Q:cT}  (h:fK.V (fun k o t n f s a l c q=>.agg #[.int .u8 k,.int .u8 o,.int .u8 t,.int .i64 n,.int .u8 f,.string s,.slice a l c,.int .i64 q]) (fun k o t n f s a l c q=>.cells #[.int .u8 k,.int .u8 o,.int .u8 t,.int .i64 n,.int .u8 f,.string s,.slice a l c,.int .i64 q] 64 (0,0)) (.int .u8) (.int .i64) .pointer p d I F Q):cU P 113 #[.pointer (some p),.int .i64 d] I F Q :=
 tw (A:=(dv [2001] [64,92,113,128] [64,92,104,113,128] oT [] [1001] [6006] [] [] [(4,[0,1,3,4,5,6,7,2,8,9])] [] [] [(4,[7,1000],10)])) [64,92,104,113,128] func113 h
def gj.V(nV:Int→Int→Int→Int→Int→Bs→OA→Nat→Nat→Int→Value)(nO:Int→Int→Int→Int→Int→Bs→OA→Nat→Nat→Int→Obj)(vi:Int→Value)(vl:OA→Nat→Nat→Value)(vp:OA→Value)(p:Addr)(t u w y z:Int)(aa:Bs)(o:OA)(q s:Nat)(aL ai d:Int)(I:cS)(F:cR)(Q:cT)(Inv14:Int→Int→Int→Int→Int→Int→Bs→OA→Nat→Nat→Int→Nat→cS→cR→Prop):Prop:=∀n:Nat,∀b:Nat,∃ad:Addr,some p=some ad∧∃(m:Int),Rd I ((n,nO t u w y z aa o q s aL)::(b,nO 0 0 0 0 0 (⟨#[]⟩:Bs) none 0 0 0)::F) ((ad.add 1).add 4) [vi m]∧cU P 92 (#[vp (some p),vi d]) I ((n,nO t u w y z aa o q s m)::(b,nO 0 0 0 0 0 (⟨#[]⟩:Bs) none 0 0 0)::F) fun e1 I1 G1=>((∃(r:Int),e1=.returned (vi r)∧∃F1:cR,List.Perm G1 ((n,nO t u w y z aa o q s m)::(b,nO 0 0 0 0 0 (⟨#[]⟩:Bs) none 0 0 0)::F1)∧cU P 64 (#[vp (some p)]) I1 ((n,nO t u w y z aa o q s m)::(b,nO 0 0 0 0 0 (⟨#[]⟩:Bs) none 0 0 0)::F1) fun e2 I2 G2=>((e2=.returned (.tuple #[])∧∃F2:cR,List.Perm G2 ((n,nO t u w y z aa o q s m)::(b,nO 0 0 0 0 0 (⟨#[]⟩:Bs) none 0 0 0)::F2)∧∀(b1:Nat) (I3:cS),cS.le I2 I3→I3 b1=some (Obj.cells #[.string (⟨#[40]⟩:Bs)] 9 (0,0))→cU P 66 (#[vp (some p),vl (some ⟨b1,0,none⟩) 1 1]) I3 ((n,nO t u w y z aa o q s m)::(b,nO 0 0 0 0 0 (⟨#[]⟩:Bs) none 0 0 0)::F2) fun e3 I4 G3=>((∃(r1:Int),e3=.returned (vi r1)∧∃F3:cR,List.Perm G3 ((n,nO t u w y z aa o q s m)::(b,nO 0 0 0 0 0 (⟨#[]⟩:Bs) none 0 0 0)::F3)∧(∃m1:Nat,Inv14 0 t u w y z aa o q s m m1 I4 F3)∧∀(x f g h i j:Int) (k:Bs) (a:OA) (c e:Nat) (l:Int) (m2:Nat) (I5:cS) (F4:cR),cS.le I4 I5→Inv14 x f g h i j k a c e l m2 I5 F4→(Dt (x<ai) (Dt (x>0) (∀(b2:Nat) (I6:cS),cS.le I5 I6→I6 b2=some (Obj.cells #[.string (⟨#[44]⟩:Bs)] 9 (0,0))→cU P 66 (#[vp (some p),vl (some ⟨b2,0,none⟩) 1 1]) I6 ((n,nO f g h i j k a c e l)::(b,nO 0 0 0 0 0 (⟨#[]⟩:Bs) none 0 0 0)::F4) fun e4 I7 G4=>((∃(r2:Int),e4=.returned (vi r2)∧∃F5:cR,List.Perm G4 ((n,nO f g h i j k a c e l)::(b,nO 0 0 0 0 0 (⟨#[]⟩:Bs) none 0 0 0)::F5)∧cU P 47 (#[vp (some p),vi r]) I7 ((n,nO f g h i j k a c e l)::(b,nO 0 0 0 0 0 (⟨#[]⟩:Bs) none 0 0 0)::F5) fun e5 I8 G5=>((∃(av aw ax ay az:Int) (aA:Bs) (af:OA) (ag ah:Nat) (aB:Int),e5=.returned (nV av aw ax ay az aA af ag ah aB)∧∃F6:cR,List.Perm G5 ((n,nO f g h i j k a c e l)::(b,nO 0 0 0 0 0 (⟨#[]⟩:Bs) none 0 0 0)::F6)∧∀(b3:Nat) (I9:cS),cS.le I8 I9→I9 b3=some (nO av aw ax ay az aA af ag ah aB)→dC P (Builtin.append_ #[62,62] 62 #[vl a c e,vl (some ⟨b3,0,none⟩) 1 1]) I9 ((n,nO f g h i j k a c e l)::(b,nO 0 0 0 0 0 (⟨#[]⟩:Bs) none 0 0 0)::F6) fun v I10 G6=>∃(aC:OA) (aD aE:Nat),v=vl aC aD aE∧∃F7:cR,List.Perm G6 ((n,nO f g h i j k a c e l)::(b,nO 0 0 0 0 0 (⟨#[]⟩:Bs) none 0 0 0)::F7)∧(∃m3:Nat,m3<m2∧Inv14 (IntKind.wrap .i64 (x+1)) f g h i j k aC aD aE l m3 I10 F7))∨(∃ch:List PanicEntry,e5=.panicked ch∧∃F8:cR,List.Perm G5 ((n,nO f g h i j k a c e l)::(b,nO 0 0 0 0 0 (⟨#[]⟩:Bs) none 0 0 0)::F8)∧Q (.panicked ch) I8 F8)))∨(∃aF:List PanicEntry,e4=.panicked aF∧∃F9:cR,List.Perm G4 ((n,nO f g h i j k a c e l)::(b,nO 0 0 0 0 0 (⟨#[]⟩:Bs) none 0 0 0)::F9)∧Q (.panicked aF) I7 F9))) (cU P 47 (#[vp (some p),vi r]) I5 ((n,nO f g h i j k a c e l)::(b,nO 0 0 0 0 0 (⟨#[]⟩:Bs) none 0 0 0)::F4) fun e6 I11 G7=>((∃(aj ak al am an:Int) (ao:Bs) (ab:OA) (ac ae:Nat) (ap:Int),e6=.returned (nV aj ak al am an ao ab ac ae ap)∧∃F10:cR,List.Perm G7 ((n,nO f g h i j k a c e l)::(b,nO 0 0 0 0 0 (⟨#[]⟩:Bs) none 0 0 0)::F10)∧∀(b4:Nat) (I12:cS),cS.le I11 I12→I12 b4=some (nO aj ak al am an ao ab ac ae ap)→dC P (Builtin.append_ #[62,62] 62 #[vl a c e,vl (some ⟨b4,0,none⟩) 1 1]) I12 ((n,nO f g h i j k a c e l)::(b,nO 0 0 0 0 0 (⟨#[]⟩:Bs) none 0 0 0)::F10) fun v1 I13 G8=>∃(aq:OA) (ar au:Nat),v1=vl aq ar au∧∃F11:cR,List.Perm G8 ((n,nO f g h i j k a c e l)::(b,nO 0 0 0 0 0 (⟨#[]⟩:Bs) none 0 0 0)::F11)∧(∃m4:Nat,m4<m2∧Inv14 (IntKind.wrap .i64 (x+1)) f g h i j k aq ar au l m4 I13 F11))∨(∃aG:List PanicEntry,e6=.panicked aG∧∃F12:cR,List.Perm G7 ((n,nO f g h i j k a c e l)::(b,nO 0 0 0 0 0 (⟨#[]⟩:Bs) none 0 0 0)::F12)∧Q (.panicked aG) I11 F12)))) (∀(b5:Nat) (I14:cS),cS.le I5 I14→I14 b5=some (Obj.cells #[.string (⟨#[41]⟩:Bs)] 9 (0,0))→cU P 66 (#[vp (some p),vl (some ⟨b5,0,none⟩) 1 1]) I14 ((n,nO f g h i j k a c e l)::(b,nO 0 0 0 0 0 (⟨#[]⟩:Bs) none 0 0 0)::F4) fun e7 I15 G9=>((∃(r3:Int),e7=.returned (vi r3)∧∃F13:cR,List.Perm G9 ((n,nO f g h i j k a c e l)::(b,nO 0 0 0 0 0 (⟨#[]⟩:Bs) none 0 0 0)::F13)∧Q (.returned (nV f g h i j k a c e l)) I15 F13)∨(∃aH:List PanicEntry,e7=.panicked aH∧∃F14:cR,List.Perm G9 ((n,nO f g h i j k a c e l)::(b,nO 0 0 0 0 0 (⟨#[]⟩:Bs) none 0 0 0)::F14)∧Q (.panicked aH) I15 F14)))))∨(∃aI:List PanicEntry,e3=.panicked aI∧∃F15:cR,List.Perm G3 ((n,nO t u w y z aa o q s m)::(b,nO 0 0 0 0 0 (⟨#[]⟩:Bs) none 0 0 0)::F15)∧Q (.panicked aI) I4 F15)))∨(∃aJ:List PanicEntry,e2=.panicked aJ∧∃F16:cR,List.Perm G2 ((n,nO t u w y z aa o q s m)::(b,nO 0 0 0 0 0 (⟨#[]⟩:Bs) none 0 0 0)::F16)∧Q (.panicked aJ) I2 F16)))∨(∃aK:List PanicEntry,e1=.panicked aK∧∃F17:cR,List.Perm G1 ((n,nO t u w y z aa o q s m)::(b,nO 0 0 0 0 0 (⟨#[]⟩:Bs) none 0 0 0)::F17)∧Q (.panicked aK) I1 F17))
theorem gj.vc{p:Addr}{j r u v w:Int}{x:Bs}{b:OA}{e g:Nat}{y i d:Int}{I:cS}{F:cR}{Q:cT}(Inv14:Int→Int→Int→Int→Int→Int→Bs→OA→Nat→Nat→Int→Nat→cS→cR→Prop)(h:gj.V (fun k o t n f s a l c q=>.agg #[.int .u8 k,.int .u8 o,.int .u8 t,.int .i64 n,.int .u8 f,.string s,.slice a l c,.int .i64 q]) (fun k o t n f s a l c q=>.cells #[.int .u8 k,.int .u8 o,.int .u8 t,.int .i64 n,.int .u8 f,.string s,.slice a l c,.int .i64 q] 64 (0,0)) (.int .i64) .slice .pointer p j r u v w x b e g y i d I F Q Inv14):cU P 143 #[.pointer (some p),.agg #[.int .u8 j,.int .u8 r,.int .u8 u,.int .i64 v,.int .u8 w,.string x,.slice b e g,.int .i64 y],.int .i64 i,.int .i64 d] I F Q :=
 tw (A:=(dv [6000,8001] [47,64,66,92] [47,64,66,92] oT [(14,⟨[(26,(.int .i64))],[(0,[(.int .u8),(.int .u8),(.int .u8),(.int .i64),(.int .u8),.str,.slc,(.int .i64)])],fun _ _ _ vs m I F=>match vs with | [.int _ y0,.int _ y1,.int _ y2,.int _ y3,.int _ y4,.int _ y5,.string y6,.slice y7 y8 y9,.int _ y10]=>Inv14 y0 y1 y2 y3 y4 y5 y6 y7 y8 y9 y10 m I F | _=>False,[],[]⟩)] [4001,9001,10005,12001] [] [] [] [(10,[0,2,3,1,4,5,6,7,8])] [] [] [(10,[1],8)])) [47,64,66,92] func143 h
def fi.V(nV:Int→Int→Int→Int→Int→Bs→OA→Nat→Nat→Int→Value)(nO:Int→Int→Int→Int→Int→Bs→OA→Nat→Nat→Int→Obj)(vb vi:Int→Value)(vs:Bs→Value)(vl:OA→Nat→Nat→Value)(vp:OA→Value)(p:Addr)(d:Int)(I:cS)(F:cR)(Q:cT)  : Prop:=∀b:Nat,cU P 105 (#[vp (some p)]) I ((b,nO 0 0 0 0 0 (⟨#[]⟩:Bs) none 0 0 0)::F) fun e1 I1 G1=>((∃(f g h i j:Int) (k:Bs) (a:OA) (c e:Nat) (l:Int) (r1:Bool),e1=.returned (.tuple #[nV f g h i j k a c e l,.bool r1])∧∃F1:cR,List.Perm G1 ((b,nO 0 0 0 0 0 (⟨#[]⟩:Bs) none 0 0 0)::F1)∧∀n:Nat,(It r1 (Q (.returned (nV f g h i j k a c e l)) I1 F1) (∃ad:Addr,some p=some ad∧∃(m:Int),Rd I1 ((b,nO 0 0 0 0 0 (⟨#[]⟩:Bs) none 0 0 0)::(n,nO f g h i j k a c e l)::F1) ((ad.add 1).add 4) [vi m]∧∃aW:Addr,some p=some aW∧∃(m1:Int),Rd I1 ((b,nO 0 0 0 0 0 (⟨#[]⟩:Bs) none 0 0 0)::(n,nO f g h i j k a c e l)::F1) ((aW.add 1).add 0) [vb m1]∧(It (m1==2) (cU P 67 (#[vp (some p)]) I1 ((b,nO 0 0 0 0 0 (⟨#[]⟩:Bs) none 0 0 0)::(n,nO f g h i j k a c e l)::F1) fun e2 I2 G2=>((∃(r:Bs),e2=.returned (vs r)∧∃F2:cR,List.Perm G2 ((b,nO 0 0 0 0 0 (⟨#[]⟩:Bs) none 0 0 0)::(n,nO f g h i j k a c e l)::F2)∧Q (.returned (nV 2 0 0 0 0 r none 0 0 m)) I2 F2)∨(∃ch:List PanicEntry,e2=.panicked ch∧∃F3:cR,List.Perm G2 ((b,nO 0 0 0 0 0 (⟨#[]⟩:Bs) none 0 0 0)::(n,nO f g h i j k a c e l)::F3)∧Q (.panicked ch) I2 F3))) (∀(b1:Nat) (I3:cS),cS.le I1 I3→I3 b1=some (Obj.cells #[vs (⟨#[98,105,100]⟩:Bs),vs (⟨#[97,115,107]⟩:Bs),vs (⟨#[108,97,115,116]⟩:Bs),vs (⟨#[118,111,108,117,109,101]⟩:Bs),vs (⟨#[110,111,119]⟩:Bs),vs (⟨#[111,112,101,110]⟩:Bs)] 9 (0,0))→dR P 104 (#[vp (some p),vl (some ⟨b1,0,none⟩) 6 6]) I3 ((b,nO 0 0 0 0 0 (⟨#[]⟩:Bs) none 0 0 0)::(n,nO f g h i j k a c e l)::·) F1 vi fun r2 I4 F4=>(Dt (r2≥0) (cU P 64 (#[vp (some p)]) I4 ((b,nO 0 0 0 0 0 (⟨#[]⟩:Bs) none 0 0 0)::(n,nO f g h i j k a c e l)::F4) fun e4 I5 G4=>((e4=.returned (.tuple #[])∧∃F5:cR,List.Perm G4 ((b,nO 0 0 0 0 0 (⟨#[]⟩:Bs) none 0 0 0)::(n,nO f g h i j k a c e l)::F5)∧Q (.returned (.agg #[vb 3,vb 0,vb 0,vi 0,vb (IntKind.wrap .u8 (1+(IntKind.wrap .u8 r2))),vs (⟨#[]⟩:Bs),vl none 0 0,vi m])) I5 F5)∨(∃aX:List PanicEntry,e4=.panicked aX∧∃F6:cR,List.Perm G4 ((b,nO 0 0 0 0 0 (⟨#[]⟩:Bs) none 0 0 0)::(n,nO f g h i j k a c e l)::F6)∧Q (.panicked aX) I5 F6))) (∀(b2:Nat) (I6:cS),cS.le I4 I6→I6 b2=some (Obj.cells #[vs (⟨#[105,110,116]⟩:Bs),vs (⟨#[113,116,121]⟩:Bs),vs (⟨#[112,114,105,99,101]⟩:Bs),vs (⟨#[116,105,109,101]⟩:Bs)] 9 (0,0))→dR P 104 (#[vp (some p),vl (some ⟨b2,0,none⟩) 4 4]) I6 ((b,nO 0 0 0 0 0 (⟨#[]⟩:Bs) none 0 0 0)::(n,nO f g h i j k a c e l)::·) F4 vi fun r3 I7 F7=>(Dt (r3≥0) (cU P 143 (#[vp (some p),.agg #[vb 9,vb 0,vb (IntKind.wrap .u8 (1+(IntKind.wrap .u8 r3))),vi 0,vb 0,vs (⟨#[]⟩:Bs),vl none 0 0,vi 0],vi 1,vi d]) I7 ((b,nO 0 0 0 0 0 (⟨#[]⟩:Bs) none 0 0 0)::(n,nO f g h i j k a c e l)::F7) fun e6 I8 G6=>((∃(aP aQ aR aS aT:Int) (aU:Bs) (al:OA) (am an:Nat) (aV:Int),e6=.returned (nV aP aQ aR aS aT aU al am an aV)∧∃F8:cR,List.Perm G6 ((b,nO 0 0 0 0 0 (⟨#[]⟩:Bs) none 0 0 0)::(n,nO f g h i j k a c e l)::F8)∧Q (.returned (nV aP aQ aR aS aT aU al am an aV)) I8 F8)∨(∃aY:List PanicEntry,e6=.panicked aY∧∃F9:cR,List.Perm G6 ((b,nO 0 0 0 0 0 (⟨#[]⟩:Bs) none 0 0 0)::(n,nO f g h i j k a c e l)::F9)∧Q (.panicked aY) I8 F9))) (∀(b3:Nat) (I9:cS),cS.le I7 I9→I9 b3=some (Obj.cells #[vs (⟨#[97,98,115]⟩:Bs),vs (⟨#[109,105,110]⟩:Bs),vs (⟨#[109,97,120]⟩:Bs),vs (⟨#[104,97,115]⟩:Bs),vs (⟨#[40]⟩:Bs)] 9 (0,0))→dR P 104 (#[vp (some p),vl (some ⟨b3,0,none⟩) 5 5]) I9 ((b,nO 0 0 0 0 0 (⟨#[]⟩:Bs) none 0 0 0)::(n,nO f g h i j k a c e l)::·) F7 vi fun r4 I10 F10=>(It (r4==0) (cU P 143 (#[vp (some p),nV 8 3 0 0 0 (⟨#[]⟩:Bs) none 0 0 0,vi 1,vi d]) I10 ((b,nO 0 0 0 0 0 (⟨#[]⟩:Bs) none 0 0 0)::(n,nO f g h i j k a c e l)::F10) fun e8 I11 G8=>((∃(ao ap aq ar au:Int) (av:Bs) (aa:OA) (ab ac:Nat) (aw:Int),e8=.returned (nV ao ap aq ar au av aa ab ac aw)∧∃F11:cR,List.Perm G8 ((b,nO 0 0 0 0 0 (⟨#[]⟩:Bs) none 0 0 0)::(n,nO f g h i j k a c e l)::F11)∧Q (.returned (nV ao ap aq ar au av aa ab ac aw)) I11 F11)∨(∃aZ:List PanicEntry,e8=.panicked aZ∧∃F12:cR,List.Perm G8 ((b,nO 0 0 0 0 0 (⟨#[]⟩:Bs) none 0 0 0)::(n,nO f g h i j k a c e l)::F12)∧Q (.panicked aZ) I11 F12))) (It (r4==1) (cU P 143 (#[vp (some p),nV 8 4 0 0 0 (⟨#[]⟩:Bs) none 0 0 0,vi 2,vi d]) I10 ((b,nO 0 0 0 0 0 (⟨#[]⟩:Bs) none 0 0 0)::(n,nO f g h i j k a c e l)::F10) fun e9 I12 G9=>((∃(ax ay az aA aB:Int) (aC:Bs) (ae:OA) (af ag:Nat) (aD:Int),e9=.returned (nV ax ay az aA aB aC ae af ag aD)∧∃F13:cR,List.Perm G9 ((b,nO 0 0 0 0 0 (⟨#[]⟩:Bs) none 0 0 0)::(n,nO f g h i j k a c e l)::F13)∧Q (.returned (nV ax ay az aA aB aC ae af ag aD)) I12 F13)∨(∃a0:List PanicEntry,e9=.panicked a0∧∃F14:cR,List.Perm G9 ((b,nO 0 0 0 0 0 (⟨#[]⟩:Bs) none 0 0 0)::(n,nO f g h i j k a c e l)::F14)∧Q (.panicked a0) I12 F14))) (It (r4==2) (cU P 143 (#[vp (some p),nV 8 5 0 0 0 (⟨#[]⟩:Bs) none 0 0 0,vi 2,vi d]) I10 ((b,nO 0 0 0 0 0 (⟨#[]⟩:Bs) none 0 0 0)::(n,nO f g h i j k a c e l)::F10) fun a6 I13 G10=>((∃(aE aF aG aH aI:Int) (aJ:Bs) (ah:OA) (ai aj:Nat) (aK:Int),a6=.returned (nV aE aF aG aH aI aJ ah ai aj aK)∧∃F15:cR,List.Perm G10 ((b,nO 0 0 0 0 0 (⟨#[]⟩:Bs) none 0 0 0)::(n,nO f g h i j k a c e l)::F15)∧Q (.returned (nV aE aF aG aH aI aJ ah ai aj aK)) I13 F15)∨(∃a1:List PanicEntry,a6=.panicked a1∧∃F16:cR,List.Perm G10 ((b,nO 0 0 0 0 0 (⟨#[]⟩:Bs) none 0 0 0)::(n,nO f g h i j k a c e l)::F16)∧Q (.panicked a1) I13 F16))) (It (r4==3) (cU P 64 (#[vp (some p)]) I10 ((b,nO 0 0 0 0 0 (⟨#[]⟩:Bs) none 0 0 0)::(n,nO f g h i j k a c e l)::F10) fun a7 I14 G11=>((a7=.returned (.tuple #[])∧∃F17:cR,List.Perm G11 ((b,nO 0 0 0 0 0 (⟨#[]⟩:Bs) none 0 0 0)::(n,nO f g h i j k a c e l)::F17)∧∀(b4:Nat) (I15:cS),cS.le I14 I15→I15 b4=some (Obj.cells #[vs (⟨#[98,105,100]⟩:Bs),vs (⟨#[97,115,107]⟩:Bs),vs (⟨#[108,97,115,116]⟩:Bs)] 9 (0,0))→cU P 66 (#[vp (some p),vl (some ⟨b4,0,none⟩) 3 3]) I15 ((b,nO 0 0 0 0 0 (⟨#[]⟩:Bs) none 0 0 0)::(n,nO f g h i j k a c e l)::F17) fun a8 I16 G12=>((∃(r5:Int),a8=.returned (vi r5)∧∃F18:cR,List.Perm G12 ((b,nO 0 0 0 0 0 (⟨#[]⟩:Bs) none 0 0 0)::(n,nO f g h i j k a c e l)::F18)∧Q (.returned (.agg #[vb 4,vb 0,vb 0,vi 0,vb (IntKind.wrap .u8 (1+(IntKind.wrap .u8 r5))),vs (⟨#[]⟩:Bs),vl none 0 0,vi m])) I16 F18)∨(∃a2:List PanicEntry,a8=.panicked a2∧∃F19:cR,List.Perm G12 ((b,nO 0 0 0 0 0 (⟨#[]⟩:Bs) none 0 0 0)::(n,nO f g h i j k a c e l)::F19)∧Q (.panicked a2) I16 F19)))∨(∃a3:List PanicEntry,a7=.panicked a3∧∃F20:cR,List.Perm G11 ((b,nO 0 0 0 0 0 (⟨#[]⟩:Bs) none 0 0 0)::(n,nO f g h i j k a c e l)::F20)∧Q (.panicked a3) I14 F20))) (It (r4==4) (cU P 92 (#[vp (some p),vi d]) I10 ((b,nO 0 0 0 0 0 (⟨#[]⟩:Bs) none 0 0 0)::(n,nO f g h i j k a c e l)::F10) fun a9 I17 G13=>((∃(r6:Int),a9=.returned (vi r6)∧∃F21:cR,List.Perm G13 ((b,nO 0 0 0 0 0 (⟨#[]⟩:Bs) none 0 0 0)::(n,nO f g h i j k a c e l)::F21)∧cU P 64 (#[vp (some p)]) I17 ((b,nO 0 0 0 0 0 (⟨#[]⟩:Bs) none 0 0 0)::(n,nO f g h i j k a c e l)::F21) fun ba I18 G14=>((ba=.returned (.tuple #[])∧∃F22:cR,List.Perm G14 ((b,nO 0 0 0 0 0 (⟨#[]⟩:Bs) none 0 0 0)::(n,nO f g h i j k a c e l)::F22)∧cU P 47 (#[vp (some p),vi r6]) I18 ((b,nO 0 0 0 0 0 (⟨#[]⟩:Bs) none 0 0 0)::(n,nO f g h i j k a c e l)::F22) fun bb I19 G15=>((∃(t u v w x:Int) (y:Bs) (o:OA) (q s:Nat) (z:Int),bb=.returned (nV t u v w x y o q s z)∧∃F23:cR,List.Perm G15 ((b,nO 0 0 0 0 0 (⟨#[]⟩:Bs) none 0 0 0)::(n,nO f g h i j k a c e l)::F23)∧∀ak:Nat,∀(b5:Nat) (I20:cS),cS.le I19 I20→I20 b5=some (Obj.cells #[vs (⟨#[41]⟩:Bs)] 9 (0,0))→cU P 66 (#[vp (some p),vl (some ⟨b5,0,none⟩) 1 1]) I20 ((b,nO 0 0 0 0 0 (⟨#[]⟩:Bs) none 0 0 0)::(n,nO f g h i j k a c e l)::(ak,nO t u v w x y o q s z)::F23) fun bc I21 G16=>((∃(r7:Int),bc=.returned (vi r7)∧∃F24:cR,List.Perm G16 ((b,nO 0 0 0 0 0 (⟨#[]⟩:Bs) none 0 0 0)::(n,nO f g h i j k a c e l)::(ak,nO t u v w x y o q s z)::F24)∧Q (.returned (nV t u v w x y o q s z)) I21 F24)∨(∃a4:List PanicEntry,bc=.panicked a4∧∃F25:cR,List.Perm G16 ((b,nO 0 0 0 0 0 (⟨#[]⟩:Bs) none 0 0 0)::(n,nO f g h i j k a c e l)::(ak,nO t u v w x y o q s z)::F25)∧Q (.panicked a4) I21 F25)))∨(∃a5:List PanicEntry,bb=.panicked a5∧∃F26:cR,List.Perm G15 ((b,nO 0 0 0 0 0 (⟨#[]⟩:Bs) none 0 0 0)::(n,nO f g h i j k a c e l)::F26)∧Q (.panicked a5) I19 F26)))∨(∃aL:List PanicEntry,ba=.panicked aL∧∃F27:cR,List.Perm G14 ((b,nO 0 0 0 0 0 (⟨#[]⟩:Bs) none 0 0 0)::(n,nO f g h i j k a c e l)::F27)∧Q (.panicked aL) I18 F27)))∨(∃aM:List PanicEntry,a9=.panicked aM∧∃F28:cR,List.Perm G13 ((b,nO 0 0 0 0 0 (⟨#[]⟩:Bs) none 0 0 0)::(n,nO f g h i j k a c e l)::F28)∧Q (.panicked aM) I17 F28))) (cU P 65 (#[vp (some p),vi 130]) I10 ((b,nO 0 0 0 0 0 (⟨#[]⟩:Bs) none 0 0 0)::(n,nO f g h i j k a c e l)::F10) fun bd I22 G17=>((bd=.returned (.tuple #[])∧∃F29:cR,List.Perm G17 ((b,nO 0 0 0 0 0 (⟨#[]⟩:Bs) none 0 0 0)::(n,nO f g h i j k a c e l)::F29)∧Q (.returned (nV 0 0 0 0 0 (⟨#[]⟩:Bs) none 0 0 0)) I22 F29)∨(∃aN:List PanicEntry,bd=.panicked aN∧∃F30:cR,List.Perm G17 ((b,nO 0 0 0 0 0 (⟨#[]⟩:Bs) none 0 0 0)::(n,nO f g h i j k a c e l)::F30)∧Q (.panicked aN) I22 F30)))))))))))))))))∨(∃aO:List PanicEntry,e1=.panicked aO∧∃F31:cR,List.Perm G1 ((b,nO 0 0 0 0 0 (⟨#[]⟩:Bs) none 0 0 0)::F31)∧Q (.panicked aO) I1 F31))
theorem fi.vc{p:Addr}{d:Int}{I:cS}{F:cR}{Q:cT}  (h:fi.V (fun k o t n f s a l c q=>.agg #[.int .u8 k,.int .u8 o,.int .u8 t,.int .i64 n,.int .u8 f,.string s,.slice a l c,.int .i64 q]) (fun k o t n f s a l c q=>.cells #[.int .u8 k,.int .u8 o,.int .u8 t,.int .i64 n,.int .u8 f,.string s,.slice a l c,.int .i64 q] 64 (0,0)) (.int .u8) (.int .i64) .string .slice .pointer p d I F Q):cU P 128 #[.pointer (some p),.int .i64 d] I F Q :=
 tw (A:=(dv [2000,5005,8001,12001,15000,17000,19000,21000,24000] [47,64,65,66,67,92,105,143] [47,64,65,66,67,92,104,105,143] oT [] [7001,11001,14001,23001,28001] [] [] [] [] [])) [47,64,65,66,67,92,104,105,143] func128 h
end Go.Lx
namespace Go.Lx
open Go.Vc
def CD(x:Int)(v:Value)(H:cR):Prop:=(∃i:Int,v=.int .i64 i)∧H=[]
def vZ(c:PC)(t:ByteArray)(f:Nat)(d:Int)(g:PS→Px×PS):Prop:=∀(b:Nat) (s:PS) (I:cS) (F F0:cR),c.Live s→F.Perm (c.px t b s::F0)→cU P f #[.pointer (some ⟨b,0,none⟩),.int .i64 d] I F (c8 c t b og F0 (g s))
section
variable {c:PC} {t:ByteArray} {s:PS} {b:Nat} {I:cS} {F F0:cR}
theorem Be{b1:Nat}{w:ByteArray}(hb:I b1=some (.cells #[.string w] 9 (0,0))):Sl I 1 jd (some ⟨b1,0,none⟩) 1 [w]:=Sl.g8 (f:=jd) (z:=1) (l:=[w]) (fun _=>rfl) hb rfl
theorem ej(hc:c.Of t)(hl:c.Live s){b1:Nat}{w:ByteArray}(hb:I b1=some (.cells #[.string w] 9 (0,0)))(hF:F.Perm (c.px t b s::F0)) :
  cU P 66 #[.pointer (some ⟨b,0,none⟩),.slice (some ⟨b1,0,none⟩) 1 1] I F (c8 c t b CD F0 (c.take w s)):=by
 refine c8.use (oS hc hl (Be hb) (by decide) hF) (fun v H I2 G l2 hL hv hG=>?_) fun f e I2 G l2 hd hf=>?_
 ·obtain⟨rfl,rfl⟩:=hv
  exact .inl ⟨by rw[nq];exact hL,_,[],rfl,⟨⟨_,rfl⟩,rfl⟩,by rw[nq];exact hG⟩
 ·exact .inr ⟨f,by rw[nq];exact hd,hf⟩
theorem oU{d:Int}(h:d<24):c.c9 d s=s:=by unfold PC.c9;rw[if_neg (by omega)]
theorem kz(hl:c.Live s):(c.c9 24 s).over=true∧c.dI ⟨132,(c.tok s.next).pos,false⟩ (c.c9 24 s):=by
 unfold PC.c9;rw[if_pos (by decide)]
 have:=hl.c5 (e:=132) (by decide)
 exact⟨by rw[this.1];rfl,this.2⟩
theorem z1{nx:Lv}{d kind oper iS pos:Int}{many:Nat}(hl:c.Live s)(h:d<24) :
  c.call nx d kind oper iS pos many s=(.mk kind oper iS 0 0 ⟨#[]⟩ (c.dW nx many true (c.take (⟨#[40]⟩:ByteArray) s.inc).2).1 pos,(c.take (⟨#[41]⟩:ByteArray) (c.dW nx many true (c.take (⟨#[40]⟩:ByteArray) s.inc).2).2).2):=by
 unfold PC.call;rw[oU h,hl.1,if_neg (by simp)]
theorem z2{nx:Lv}{kind oper iS pos:Int}{many:Nat}(hl:c.Live s):c.call nx 24 kind oper iS pos many s=(gA,c.c9 24 s):=by
 unfold PC.call;rw[(kz hl).1,if_pos rfl]
theorem pO(hc:c.Of t)(hl:c.Live s)(hk:(c.tok s.next).kind≠0){nx:Lv}{d:Int}(h0:0≤d)(h1:d≤24)(hx:d<24→vZ c t 47 (d+1) nx.ex)(hkp:∀f,Kp c f nx.ex)(kind oper iS pos0:Int)(many:Nat)(hm:many≤2)(hF:F.Perm (c.px t b s::F0)) :
  cU P 143 #[.pointer (some ⟨b,0,none⟩),(Nd.mk kind oper iS 0 0 ⟨#[]⟩ none 0 [] pos0).v,.int .i64 many,.int .i64 d] I F (c8 c t b og F0 (c.call nx d kind oper iS (c.tok s.next).pos many s)):=by
 have hp:=dK.of (I:=I) hF
 refine gj.vc (fun x n0 n1 n2 n3 n4 n5 a n k n7 m I' F'=>n0=kind∧n1=oper∧n2=iS∧n3=0∧n4=0∧n5=⟨#[]⟩∧n7=(c.tok s.next).pos∧d<24∧0≤x∧x≤many∧m=(many-x).toNat ∧
  ∃(ks:List Nd) (si:PS),(ks.length:Int)=x∧c.Live si∧c.dW nx many true (c.take (⟨#[40]⟩:ByteArray) s.inc).2=(ks.map Nd.px++(c.dW nx (many-x).toNat (decide (x=0)) si).1,(c.dW nx (many-x).toNat (decide (x=0)) si).2)∧Part 8 Nd.enc 64 (ef 64 false) a n k ks (c.px t b si::F0) F') ?_
 unfold gj.V
 intro bn b0
 refine⟨_,rfl,_,(hp.mono (cS.le_refl I) fun x hx=>.tail _ (.tail _ hx)).rd.dw (p:=1) (q:=4) rfl, ?_⟩
 refine (mi (hp.mono (cS.le_refl I) fun x hx=>.tail _ (.tail _ hx)) h0 h1).mono fun e I1 G l1 hd=>?_
 rcases hd with ⟨hlt,rfl,rfl⟩ | ⟨rfl,hf⟩
 rotate_left
 ·refine .inr (dc.dq [_,_] (hf.perm (F1:=[_,_]++F) (.refl _) (.refl _)) fun e' G' hf'=>.inr ⟨_, ?_,hf'.tail hF⟩)
  rw[z2 hl];exact (kz hl).2
 rw[z1 hl hlt]
 refine .inl ⟨_,rfl,F,.refl _, ?_⟩
 have dead1:∀{f:PF} {s':PS},c.dI f s'→s'=(c.take (⟨#[40]⟩:ByteArray) s.inc).2→c.dI f (c.take (⟨#[41]⟩:ByteArray) (c.dW nx many true (c.take (⟨#[40]⟩:ByteArray) s.inc).2).2).2:=fun h e=>(Kp.kids (hkp _) _ _ _ (e▸h)).take _
 refine c8.use (dN hc hl hk (fP hF)) (fun v H I2 G l2 hL hv hG=>.inl ?_) fun f e I2 G l2 hd hf=>.inr ?_
 rotate_left
 ·exact dc.dq [_,_] hf fun e' G' hf'=>.inr ⟨f,dead1 (hd.take _) rfl,hf'⟩
 obtain⟨rfl,rfl⟩:=hv
 refine⟨rfl,c.px t b s.inc::F0,hG.trans (cV fun z=>by simp only[cW,cX,c6];omega),fun b1 I3 l3 hb1=>?_⟩
 refine c8.use (ej hc hL hb1 (fP (.refl _))) (fun v H I4 G l4 hL1 hv hG=>.inl ?_) fun f e I4 G l4 hd hf=>.inr ?_
 rotate_left
 ·exact dc.dq [_,_] hf fun e' G' hf'=>.inr ⟨f,dead1 hd rfl,hf'⟩
 obtain⟨⟨i1,rfl⟩,rfl⟩:=hv
 refine⟨_,rfl,c.px t b (c.take (⟨#[40]⟩:ByteArray) s.inc).2::F0,hG.trans (cV fun z=>by simp only[cW,cX,c6];omega),⟨_,rfl,rfl,rfl,rfl,rfl,rfl,rfl,hlt,by decide,by omega,rfl,[],_,rfl,hL1, ?_,Part.nil⟩, ?_⟩
 ·rw[decide_eq_true rfl,show ((many:Int)-0).toNat=many by omega];rfl
 intro x n0 n1 n2 n3 n4 n5 a n k n7 m I5 F4 l5 ⟨g0,g1,g2,g3,g4,g5,g7,_,x0,x1,gm,ks,si,gl,hLi,gk,gP⟩
 subst g0 g1 g2 g3 g4 g5 g7
 obtain⟨A,hs,hA,hO,hFp⟩:=gP
 have hnl:=hA.1
 have frame:∀(X Y:Nat×Obj),(X::Y::F4).Perm (c.px t b si::([X,Y]++(A++(dJ ks.length hs++F0)))):=fun X Y=>(hFp.cons _ |>.cons _).trans (cV fun z=>by simp only[cW,cX,c6];omega)
 have key:∀(sj:PS) (X Y:Nat×Obj) (I5:cS) (F5:cR) (Q':Ending→cS→cR→Prop),c.Live sj→F5.Perm (A++(dJ ks.length hs++(c.px t b sj::F0))) →
   c.dW nx (many-x).toNat (decide (x=0)) si=((nx.ex sj).1::(c.dW nx (many-(x+1)).toNat false (nx.ex sj).2).1,(c.dW nx (many-(x+1)).toNat false (nx.ex sj).2).2)→0≤x→x<many →
   (∀(tn:Nd) (I8:cS) (G F6:cR),cS.le I5 I8→G.Perm (X::Y::F6) →
    (∀(b3:Nat) (I9:cS),cS.le I8 I9→I9 b3=some (.cells tn.enc.toArray 64 (0,0))→dC P (Builtin.append_ #[62,62] 62 #[.slice a n k,.slice (some ⟨b3,0,none⟩) 1 1]) I9 (X::Y::F6) fun v I10 G6=>∃(ra:Option Addr) (rn rc:Nat),v=.slice ra rn rc∧∃F7:cR,G6.Perm (X::Y::F7) ∧
     ∃(ks:List Nd) (si:PS),(ks.length:Int)=x+1∧c.Live si∧c.dW nx many true (c.take (⟨#[40]⟩:ByteArray) s.inc).2=(ks.map Nd.px++(c.dW nx (many-(x+1)).toNat (decide (x+1=0)) si).1,(c.dW nx (many-(x+1)).toNat (decide (x+1=0)) si).2)∧Part 8 Nd.enc 64 (ef 64 false) ra rn rc ks (c.px t b si::F0) F7)→Q' (.returned tn.v) I8 G) →
   (∀(f:PF) (e:Ending) (I8:cS) (G:cR),cS.le I5 I8→c.dI f (c.dW nx many true (c.take (⟨#[40]⟩:ByteArray) s.inc).2).2→dc f ([X,Y]++F0) e G→Q' e I8 G) →
   cU P 47 #[.pointer (some ⟨b,0,none⟩),.int .i64 (d+1)] I5 (X::Y::F5) Q':=by
  intro sj X Y I5 F5 Q' hLj hF5 hkd x0 x1 k1 k2
  refine c8.use (hx hlt b sj I5 _ ([X,Y]++(A++(dJ ks.length hs++F0))) hLj ((hF5.cons _ |>.cons _).trans (cV fun z=>by simp only[cW,cX,c6];omega))) (fun v H I8 G l8 hL8 hv hG=>?_) fun f e I8 G l8 hd hf=>?_
  ·obtain⟨tn,rfl,hpx,hOt⟩:=hv
   refine k1 tn I8 G (H++(A++(dJ ks.length hs++(c.px t b (nx.ex sj).2::F0)))) l8 (hG.trans (cV fun z=>by simp only[cW,cX,c6];omega)) fun b3 I9 l9 hb3=>?_
   refine dC.mono (jA (f:=Nd.enc) Nd.nM (zv:=fq.v) (by':=72) (by kernel_rfl) (by kernel_rfl) rfl (by decide) (O:=ef 64 false) (x:=tn) (F:=c.px t b (nx.ex sj).2::F0) (R0:=[X,Y]) ⟨A,hs,hA,hO,.refl _⟩ tn.wK rfl hb3 hOt (.refl _) (by omega)) fun v I10 G2 l10 ⟨ra,rn,rc,hv,F7,hG7,hP7⟩=>?_
   refine⟨ra,rn,rc,hv,F7,hG7,ks++[tn],(nx.ex sj).2,by rw[List.length_append,List.length_singleton];omega,hL8, ?_,hP7⟩
   rw[gk,hkd,decide_eq_false (by omega:¬x+1=0),List.map_append,List.append_assoc,List.map_singleton,hpx];rfl
  ·refine k2 f e I8 G l8 ?_ ?_
   ·rw[gk,hkd];exact Kp.kids (hkp _) _ _ _ hd
   ·refine dc.more (A:=A++dJ ks.length hs) (hf.perm (cV fun z=>by simp only[cX];omega) (.refl _))
 refine⟨fun hlt2=>?_,fun hge=>?_⟩
 ·have hlt2:=of_decide_eq_true hlt2
  have hsz:((many:Int)-x).toNat=((many:Int)-(x+1)).toNat+1:=by omega
  refine⟨fun hpos=>fun b2 I6 l6 hb2=>?_,fun hpos=>?_⟩
  ·have hpos:=of_decide_eq_true hpos
   have hkd:c.dW nx (many-x).toNat (decide (x=0)) si=((nx.ex (c.take (⟨#[44]⟩:ByteArray) si).2).1::(c.dW nx (many-(x+1)).toNat false (nx.ex (c.take (⟨#[44]⟩:ByteArray) si).2).2).1,(c.dW nx (many-(x+1)).toNat false (nx.ex (c.take (⟨#[44]⟩:ByteArray) si).2).2).2):=by
    rw[hsz,PC.dW,decide_eq_false (by omega)];rfl
   refine c8.use (ej hc hLi hb2 (frame _ _)) (fun v H I7 G l7 hL7 hv hG=>.inl ?_) fun f e I7 G l7 hd hf=>.inr ?_
   rotate_left
   ·refine dc.dq [_,_] hf fun e' G' hf'=>.inr ⟨f,PC.dI.take ?_ _,dc.more (A:=A++dJ ks.length hs) (hf'.perm (cV fun z=>by simp only[cX];omega) (.refl _))⟩
    rw[gk,hkd];exact Kp.kids (hkp _) _ _ _ (hkp _ _ hd)
   obtain⟨⟨i2,rfl⟩,rfl⟩:=hv
   refine⟨_,rfl,A++(dJ ks.length hs++(c.px t b (c.take (⟨#[44]⟩:ByteArray) si).2::F0)),hG.trans (cV fun z=>by simp only[cW,cX,c6];omega),key _ _ _ _ _ _ hL7 (.refl _) hkd x0 hlt2 (fun tn I8 G F6 l8 hG8 kA=>.inl ⟨_,_,_,_,_,_,_,_,_,_,rfl,F6,hG8,fun b3 I9 l9 hb3=>?_⟩) fun f e I8 G l8 hd hf=>.inr (dc.dq [_,_] hf fun e' G' hf'=>.inr ⟨f,hd.take _,hf'⟩)⟩
   refine dC.mono (kA b3 I9 l9 hb3) fun v I10 G6 l10 ⟨ra,rn,rc,hv,F7,hG7,r⟩=>⟨ra,rn,rc,hv,F7,hG7,(many-(x+1)).toNat,by omega, ?_⟩
   rw[gS (n:=x+1) (by omega)]
   exact⟨rfl,rfl,rfl,rfl,rfl,rfl,rfl,hlt,by omega,by omega,rfl,r⟩
  ·have hpos:x=0:=by have:=of_decide_eq_false hpos;omega
   have hkd:c.dW nx (many-x).toNat (decide (x=0)) si=((nx.ex si).1::(c.dW nx (many-(x+1)).toNat false (nx.ex si).2).1,(c.dW nx (many-(x+1)).toNat false (nx.ex si).2).2):=by
    rw[hsz,PC.dW,decide_eq_true hpos];rfl
   refine key _ _ _ _ _ _ hLi hFp hkd x0 hlt2 (fun tn I8 G F6 l8 hG8 kA=>.inl ⟨_,_,_,_,_,_,_,_,_,_,rfl,F6,hG8,fun b3 I9 l9 hb3=>?_⟩) fun f e I8 G l8 hd hf=>.inr (dc.dq [_,_] hf fun e' G' hf'=>.inr ⟨f,hd.take _,hf'⟩)
   refine dC.mono (kA b3 I9 l9 hb3) fun v I10 G6 l10 ⟨ra,rn,rc,hv,F7,hG7,r⟩=>⟨ra,rn,rc,hv,F7,hG7,(many-(x+1)).toNat,by omega, ?_⟩
   rw[gS (n:=x+1) (by omega)]
   exact⟨rfl,rfl,rfl,rfl,rfl,rfl,rfl,hlt,by omega,by omega,rfl,r⟩
 ·have hge:=of_decide_eq_false hge
  intro b5 I6 l6 hb5
  have hxm:((many:Int)-x).toNat=0:=by omega
  have hend:c.dW nx many true (c.take (⟨#[40]⟩:ByteArray) s.inc).2=(ks.map Nd.px,si):=by rw[gk,hxm,PC.dW,List.append_nil]
  rw[hend]
  refine c8.use (ej hc hLi hb5 (frame _ _)) (fun v H I7 G l7 hL7 hv hG=>.inl ?_) fun f e I7 G l7 hd hf=>.inr ?_
  ·obtain⟨⟨i3,rfl⟩,rfl⟩:=hv
   subst hnl
   refine⟨_,rfl,c.px t b (c.take (⟨#[41]⟩:ByteArray) si).2::((A++dJ ks.length hs)++F0),hG.trans (cV fun z=>by simp only[cW,cX,c6];omega),.inl ⟨hL7,_,A++dJ ks.length hs,rfl,⟨.mk n0 n1 n2 0 0 ⟨#[]⟩ a k ks (c.tok s.next).pos,rfl, ?_,.mk (t:=.mk n0 n1 n2 0 0 ⟨#[]⟩ a k ks (c.tok s.next).pos) hA (fun h=>by cases h) hO⟩,.refl _⟩⟩
   rw[Nd.px,Nd.pJ]
  ·exact dc.dq [_,_] hf fun e' G' hf'=>.inr ⟨f,hd,dc.more (A:=A++dJ ks.length hs) (hf'.perm (cV fun z=>by simp only[cX];omega) (.refl _))⟩
end
end Go.Lx
namespace Go.Lx
open Go.Vc
section
variable {c:PC} {t:ByteArray} {s:PS} {b:Nat} {I:cS} {F F0:cR}
theorem PC.dI.live{f:PF}(h:c.dI f s)(hl:c.Live s):False:=by
 have:=h.1
 unfold PC.fin at this
 rw[hl.1,if_neg (by simp),if_neg (by have:=hl.2;omega)] at this
 cases this
theorem uQ{ws:List ByteArray}(h:0≤c.any ws s):∃w∈ws,c.dS w s=true:=by
 have:∀(ws:List ByteArray) (i:Int),0≤c.iz s ws i→∃w∈ws,c.dS w s=true:=by
  intro ws
  induction ws with
  | nil=>intro i h;rw[PC.iz] at h;omega
  | cons w r ih =>
    intro i h
    rw[PC.iz] at h
    by_cases hw:c.dS w s=true
    ·exact⟨w,.head _,hw⟩
    ·rw[if_neg hw] at h
     obtain⟨x,hx,hxw⟩:=ih _ h
     exact⟨x,.tail _ hx,hxw⟩
 exact this ws 0 h
def BZ(l m:List ByteArray):Bool:=l.all fun w=>m.all fun x=>!(w.toList==x.toList)
theorem z3{l m:List ByteArray}(hf:BZ l m=true)(h:0≤c.any l s):c.any m s<0:=by
 apply Int.not_le.1
 intro h2
 obtain⟨w,hw,h3⟩:=uQ h
 obtain⟨x,hx,h4⟩:=uQ h2
 unfold PC.dS at h3 h4
 simp only[Bool.and_eq_true,beq_iff_eq] at h3 h4
 have:=List.all_eq_true.1 (List.all_eq_true.1 hf w hw) x hx
 rw[←h3.1,←h4.1] at this
 simp at this
def wX:List ByteArray:=[(⟨#[97,98,115]⟩:ByteArray),(⟨#[109,105,110]⟩:ByteArray),(⟨#[109,97,120]⟩:ByteArray),(⟨#[104,97,115]⟩:ByteArray),(⟨#[40]⟩:ByteArray)]
theorem CE:(0≤c.any eQ s→c.any wX s=c.any eQ s)∧(c.any eQ s<0→c.any wX s=if c.dS (⟨#[104,97,115]⟩:ByteArray) s then 3 else if c.dS (⟨#[40]⟩:ByteArray) s then 4 else -1):=by
 unfold PC.any wX eQ
 simp only[PC.iz]
 generalize c.dS _ s=b1
 generalize c.dS _ s=b2
 generalize c.dS _ s=b3
 generalize c.dS _ s=b4
 generalize c.dS _ s=b5
 cases b1<;>cases b2<;>cases b3<;>cases b4<;>cases b5<;>decide
theorem mj(hc:c.Of t)(hl:c.Live s)(h:(c.literal s).1.2=false):c.literal s=((gA,false),s):=by
 by_cases hk:(c.tok s.next).kind=3
 ·rw[tr hl hk] at h;cases h
 ·have:=wW hc hl hk
  split at this
  ·exact this
  ·rw[this] at h;cases h
theorem c8.leaf{r:Px×PS}{e:Ending}{G:cR}(hL:c.Live r.2){k o ty n f p:Int}{w:ByteArray}(h:r.1=.mk k o ty n f w [] p)(he:e=.returned (Nd.mk k o ty n f w none 0 [] p).v)(hG:G.Perm (c.px t b r.2::F0)):c8 c t b og F0 r e I G :=
 .inl ⟨hL,_,[],he,⟨_,rfl,by rw[h];simp only[Nd.px,Nd.oF],ef.leaf⟩,hG⟩
theorem words{b1:Nat}{ws:List ByteArray}{cs:Array Value}(hb:I b1=some (.cells cs 9 (0,0)))(h:cs.toList=ws.flatMap jd):Sl I 1 jd (some ⟨b1,0,none⟩) ws.length ws:=Sl.g8 (f:=jd) (z:=1) (fun _=>rfl) hb h
theorem xR(hc:c.Of t){nx:Lv}{d:Int}(h0:0≤d)(h1:d≤24)(hx:d<24→vZ c t 47 (d+1) nx.ex)(hkp:∀f,Kp c f nx.ex)(hl:c.Live s)(hF:F.Perm (c.px t b s::F0)) :
  cU P 128 #[.pointer (some ⟨b,0,none⟩),.int .i64 d] I F (c8 c t b og F0 (c.one nx d s)):=by
 have hn:=hl.now
 refine fi.vc ?_
 unfold fi.V
 intro b0
 refine c8.use (nr hc hl (th hF)) (fun v H I1 G l1 hL hv hG=>.inl ?_) fun f e I1 G l1 hd hf=>.inr ?_
 rotate_left
 ·refine dc.dq [_] hf fun e' G' hf'=>.inr ⟨f, ?_,hf'⟩
  cases h2:(c.literal s).1.2 with
  | true=>unfold PC.one;rw[h2,if_pos rfl];exact hd
  | false=>rw[mj hc hl h2] at hd;exact (hd.live hl).elim
 obtain⟨n,rfl,hpx,hO,rfl⟩:=hv
 refine⟨_,_,_,_,_,_,_,_,_,_,_,rfl,c.px t b (c.literal s).2::F0,hG.trans (cV fun z=>by simp only[cW,cX,c6];omega),fun bn=>⟨fun h2=>?_,fun h2=>?_⟩⟩
 ·have e1:c.one nx d s=((c.literal s).1.1,(c.literal s).2):=by unfold PC.one;rw[h2,if_pos rfl]
  rw[e1]
  exact .inl ⟨hL,_,[],rfl,⟨n,rfl,hpx,hO⟩,.refl _⟩
 have eL:=mj hc hl h2
 clear hG
 rw[eL]
 generalize hF1:c.px t b (((gA,false),s):(Px×Bool)×PS).2::F0=F1
 have hF1:F1.Perm (c.px t b s::F0):=by rw[←hF1]
 have one_:c.one nx d s=if (c.tok s.next).kind=2 then (.mk 2 0 0 0 0 (c.tok s.next).text [] (c.tok s.next).pos,s.inc)
   else if 0≤c.any je s then (.mk 3 0 0 0 (c.any je s+1) ⟨#[]⟩ [] (c.tok s.next).pos,s.inc)
   else if 0≤c.any eQ s then c.call nx d 8 (3+c.any eQ s) 0 (c.tok s.next).pos (if c.any eQ s=0 then 1 else 2) s
   else if 0≤c.any iK s then c.call nx d 9 0 (1+c.any iK s) (c.tok s.next).pos 1 s else c.rest nx d s:=by
  unfold PC.one;rw[eL,if_neg (by simp),hn]
 have hp1:∀{J:cS} (X Y:Nat×Obj),dK J (X::Y::F1) t b (c.tok s.next) (iM (c.tok s.next)):=fun X Y=>.inr (.tail _ (.tail _ (hF1.mem_iff.2 (.head _))))
 have up:∀{G:cR} {X Y:Nat×Obj} {s':PS} {K:cR},G.Perm (c.px t b s'::(K++(X::Y::F0)))→G.Perm (X::Y::(c.px t b s'::(K++F0))):=fun h=>h.trans (cV fun z=>by simp only[cW,cX,c6];omega)
 refine⟨_,rfl,_,(hp1 _ _).rd.dw (p:=1) (q:=4) rfl,_,rfl,_,(hp1 _ _).rd.dw (p:=1) (q:=0) rfl,fun h3=>?_,fun h3=>?_⟩
 ·have h3:(c.tok s.next).kind=2:=by simpa using h3
  have e1:c.one nx d s=(.mk 2 0 0 0 0 (c.tok s.next).text [] (c.tok s.next).pos,s.inc):=by rw[one_,if_pos h3]
  have e2:c.name s=((c.tok s.next).text,s.inc):=by unfold PC.name;rw[hn,if_pos h3]
  rw[e1]
  refine c8.use (iU hc hl (fP hF1)) (fun v K I2 G l2 hL hv hG=>.inl ?_) fun f e I2 G l2 hd hf=>.inr ?_
  ·obtain⟨rfl,rfl⟩:=hv
   rw[e2] at hL hG ⊢
   exact⟨_,rfl,_,up hG,.leaf hL rfl rfl (.refl _)⟩
  ·rw[e2] at hd
   exact dc.dq [_,_] hf fun e' G' hf'=>.inr ⟨f,hd,hf'⟩
 have h3:(c.tok s.next).kind≠2:=by simpa using h3
 rw[if_neg h3] at one_
 intro b1 I3 l3 hb1
 refine cU.ret (hM hl (hp1 _ _) (words (ws:=je) hb1 rfl) (by decide)) fun I4 l4=>⟨_,rfl,F1,.refl _,fun h4=>?_,fun h4=>?_⟩
 ·have h4:0≤c.any je s:=of_decide_eq_true h4
  have hlt:c.any je s<6:=(dt h4).2
  rw[one_,if_pos h4]
  refine c8.use (dN hc hl (hU hl h4) (fP hF1)) (fun v K I5 G l5 hL hv hG=>.inl ?_) fun f e I5 G l5 hd hf=>.inr (dc.dq [_,_] hf fun e' G' hf'=>.inr ⟨f,hd,hf'⟩)
  obtain⟨rfl,rfl⟩:=hv
  refine⟨rfl,_,up hG,.leaf hL rfl ?_ (.refl _)⟩
  rw[w8 (n:=c.any je s) (by omega),w8 (n:=1+c.any je s) (by omega),Int.add_comm 1];rfl
 have h4:¬0≤c.any je s:=of_decide_eq_false h4
 rw[if_neg h4] at one_
 have pass:∀{r:Px×PS} {g:Nat} {args:Array Value} {I5:cS} {X Y:Nat×Obj} {H1:cR} {Q':Ending→cS→cR→Prop},cU P g args I5 H1 (c8 c t b og (X::Y::F0) r) →
   (∀(n:Nd) (I6:cS) (G F8:cR),G.Perm (X::Y::F8)→c8 c t b og F0 r (.returned n.v) I6 F8→Q' (.returned n.v) I6 G)→(∀(f:PF) (e:Ending) (I6:cS) (G:cR),c.dI f r.2→dc f ([X,Y]++F0) e G→Q' e I6 G)→cU P g args I5 H1 Q':=fun h k1 k2 =>
  c8.use h (fun v K I6 G l6 hL hv hG=>by
   obtain⟨n,rfl,hv⟩:=hv
   exact k1 n I6 G _ (up hG) (.inl ⟨hL,_,K,rfl,⟨n,rfl,hv⟩,.refl _⟩)) fun f e I6 G l6 hd hf=>k2 f e I6 G hd hf
 intro b2 I6 l6 hb2
 refine cU.ret (hM hl (hp1 _ _) (words (ws:=iK) hb2 rfl) (by decide)) fun I7 l7=>⟨_,rfl,F1,.refl _,fun h5=>?_,fun h5=>?_⟩
 ·have h5:0≤c.any iK s:=of_decide_eq_true h5
  have hlt:c.any iK s<4:=(dt h5).2
  have h6:c.any eQ s<0:=z3 (by kernel_rfl:BZ iK eQ=true) h5
  rw[one_,if_neg (by omega),if_pos h5]
  have hw:IntKind.wrap .u8 (1+IntKind.wrap .u8 (c.any iK s))=1+c.any iK s:=by rw[w8 (n:=c.any iK s) (by omega),w8 (by omega)]
  rw[hw]
  exact pass (pO hc hl (hU hl h5) h0 h1 hx hkp 9 0 (1+c.any iK s) 0 1 (by decide) (fP hF1)) (fun n I8 G F8 hG hD=>.inl ⟨_,_,_,_,_,_,_,_,_,_,rfl,F8,hG,hD⟩) fun f e I8 G hd hf=>.inr (dc.dq [_,_] hf fun e' G' hf'=>.inr ⟨f,hd,hf'⟩)
 have h5:¬0≤c.any iK s:=of_decide_eq_false h5
 rw[if_neg h5] at one_
 intro b3 I9 l9 hb3
 obtain⟨a1,a2⟩:=CE (c:=c) (s:=s)
 refine cU.ret (hM hl (hp1 _ _) (words (ws:=wX) hb3 rfl) (by decide)) fun I10 l10=>⟨_,rfl,F1,.refl _, ?_⟩
 by_cases hcall:0≤c.any eQ s
 ·have hlt:c.any eQ s<3:=(dt hcall).2
  rw[a1 hcall,one_,if_pos hcall]
  have hkd:=hU hl hcall
  refine⟨fun h6=>?_,fun h6=>⟨fun h7=>?_,fun h7=>⟨fun h8=>?_,fun h8=>?_⟩⟩⟩
  ·have h6:c.any eQ s=0:=by simpa using h6
   rw[h6,if_pos rfl]
   exact pass (pO hc hl hkd h0 h1 hx hkp 8 3 0 0 1 (by decide) (fP hF1)) (fun n I8 G F8 hG hD=>.inl ⟨_,_,_,_,_,_,_,_,_,_,rfl,F8,hG,hD⟩) fun f e I8 G hd hf=>.inr (dc.dq [_,_] hf fun e' G' hf'=>.inr ⟨f,hd,hf'⟩)
  ·have h7:c.any eQ s=1:=by simpa using h7
   rw[h7,if_neg (by decide)]
   exact pass (pO hc hl hkd h0 h1 hx hkp 8 4 0 0 2 (by decide) (fP hF1)) (fun n I8 G F8 hG hD=>.inl ⟨_,_,_,_,_,_,_,_,_,_,rfl,F8,hG,hD⟩) fun f e I8 G hd hf=>.inr (dc.dq [_,_] hf fun e' G' hf'=>.inr ⟨f,hd,hf'⟩)
  ·have h8:c.any eQ s=2:=by simpa using h8
   rw[h8,if_neg (by decide)]
   exact pass (pO hc hl hkd h0 h1 hx hkp 8 5 0 0 2 (by decide) (fP hF1)) (fun n I8 G F8 hG hD=>.inl ⟨_,_,_,_,_,_,_,_,_,_,rfl,F8,hG,hD⟩) fun f e I8 G hd hf=>.inr (dc.dq [_,_] hf fun e' G' hf'=>.inr ⟨f,hd,hf'⟩)
  ·have h6:c.any eQ s≠0:=by simpa using h6
   have h7:c.any eQ s≠1:=by simpa using h7
   have h8:c.any eQ s≠2:=by simpa using h8
   omega
 rw[if_neg hcall] at one_
 rw[a2 (by omega),one_]
 unfold PC.rest
 have isk:∀{w:ByteArray},c.dS w s=true→(c.tok s.next).kind≠0:=fun h hk=>by
  unfold PC.dS at h;rw[hn,hk] at h;simp at h
 by_cases hhas:c.dS (⟨#[104,97,115]⟩:ByteArray) s=true
 ·rw[if_pos hhas,if_pos hhas]
  refine⟨fun h=>absurd h (by decide),fun _=>⟨fun h=>absurd h (by decide),fun _=>⟨fun h=>absurd h (by decide),fun _=>⟨fun _=>?_,fun h=>absurd h (by decide)⟩⟩⟩⟩
  have hst:∀(x:Px),(if c.any [(⟨#[98,105,100]⟩:ByteArray),(⟨#[97,115,107]⟩:ByteArray),(⟨#[108,97,115,116]⟩:ByteArray)] s.inc<0 then (gA,c.c5 130 s.inc) else (x,s.inc.inc):Px×PS).2=(c.oneOf [(⟨#[98,105,100]⟩:ByteArray),(⟨#[97,115,107]⟩:ByteArray),(⟨#[108,97,115,116]⟩:ByteArray)] s.inc).2:=fun x=>by
   unfold PC.oneOf;split<;>rfl
  refine c8.use (dN hc hl (isk hhas) (fP hF1)) (fun v K I5 G l5 hL hv hG=>.inl ?_) fun f e I5 G l5 hd hf=>.inr (dc.dq [_,_] hf fun e' G' hf'=>.inr ⟨f, ?_,hf'⟩)
  rotate_left
  ·rw[hst,PC.oneOf,hd.any,if_pos (by decide)];exact hd.c5 _
  obtain⟨rfl,rfl⟩:=hv
  refine⟨rfl,_,up hG,fun b4 I8 l8 hb4=>?_⟩
  refine c8.use (oS hc hL (words (ws:=[(⟨#[98,105,100]⟩:ByteArray),(⟨#[97,115,107]⟩:ByteArray),(⟨#[108,97,115,116]⟩:ByteArray)]) hb4 rfl) (by decide) (fP (.refl _))) (fun v K I9 G l9 hL9 hv hG=>.inl ?_) fun f e I9 G l9 hd hf=>.inr (dc.dq [_,_] hf fun e' G' hf'=>.inr ⟨f,by rw[hst];exact hd,hf'⟩)
  obtain⟨rfl,rfl⟩:=hv
  have hge:¬c.any [(⟨#[98,105,100]⟩:ByteArray),(⟨#[97,115,107]⟩:ByteArray),(⟨#[108,97,115,116]⟩:ByteArray)] s.inc<0:=fun hlt=>by
   have:(c.oneOf [(⟨#[98,105,100]⟩:ByteArray),(⟨#[97,115,107]⟩:ByteArray),(⟨#[108,97,115,116]⟩:ByteArray)] s.inc).2=c.c5 130 s.inc:=if_pos hlt
   rw[this] at hL9
   exact (hL.c5 (e:=130) (by decide)).2.live hL9
  have hlt:c.any [(⟨#[98,105,100]⟩:ByteArray),(⟨#[97,115,107]⟩:ByteArray),(⟨#[108,97,115,116]⟩:ByteArray)] s.inc<3:=(dt (Int.not_lt.1 hge)).2
  have e2:(c.oneOf [(⟨#[98,105,100]⟩:ByteArray),(⟨#[97,115,107]⟩:ByteArray),(⟨#[108,97,115,116]⟩:ByteArray)] s.inc).2=s.inc.inc:=if_neg hge
  rw[e2] at hL9 hG
  rw[if_neg hge]
  refine⟨_,rfl,_,up hG,.leaf hL9 (by rw[hn]) ?_ (.refl _)⟩
  show _=Ending.returned (Value.agg #[_,_,_,_,.int .u8 (c.any [(⟨#[98,105,100]⟩:ByteArray),(⟨#[97,115,107]⟩:ByteArray),(⟨#[108,97,115,116]⟩:ByteArray)] s.inc+1),_,_,_])
  show Ending.returned (Value.agg #[_,_,_,_,.int .u8 (IntKind.wrap .u8 (1+IntKind.wrap .u8 (c.any [(⟨#[98,105,100]⟩:ByteArray),(⟨#[97,115,107]⟩:ByteArray),(⟨#[108,97,115,116]⟩:ByteArray)] s.inc))),_,_,_])=_
  rw[w8 (n:=c.any [(⟨#[98,105,100]⟩:ByteArray),(⟨#[97,115,107]⟩:ByteArray),(⟨#[108,97,115,116]⟩:ByteArray)] s.inc) (by omega),w8 (n:=1+c.any [(⟨#[98,105,100]⟩:ByteArray),(⟨#[97,115,107]⟩:ByteArray),(⟨#[108,97,115,116]⟩:ByteArray)] s.inc) (by omega),Int.add_comm 1];rfl
 have hhas:c.dS (⟨#[104,97,115]⟩:ByteArray) s=false:=by simpa using hhas
 have ff:¬(false=true):=by decide
 rw[hhas,if_neg ff,if_neg ff]
 by_cases hop:c.dS (⟨#[40]⟩:ByteArray) s=true
 ·rw[if_pos hop,if_pos hop]
  refine⟨fun h=>absurd h (by decide),fun _=>⟨fun h=>absurd h (by decide),fun _=>⟨fun h=>absurd h (by decide),fun _=>⟨fun h=>absurd h (by decide),fun _=>⟨fun _=>?_,fun h=>absurd h (by decide)⟩⟩⟩⟩⟩
  refine (mi (hp1 _ _) h0 h1).mono fun e I5 G l5 hd=>?_
  rcases hd with ⟨hlt,rfl,rfl⟩ | ⟨rfl,hf⟩
  rotate_left
  ·rw[(kz hl).1,if_pos rfl]
   exact .inr (dc.dq [_,_] (hf.perm (F1:=[_,_]++F1) (.refl _) (.refl _)) fun e' G' hf'=>.inr ⟨_,(kz hl).2,hf'.tail hF1⟩)
  rw[oU hlt,hl.1,if_neg (by simp)]
  refine .inl ⟨_,rfl,F1,.refl _, ?_⟩
  refine c8.use (dN hc hl (isk hop) (fP hF1)) (fun v K I6 G l6 hL hv hG=>.inl ?_) fun f e I6 G l6 hd hf=>.inr (dc.dq [_,_] hf fun e' G' hf'=>.inr ⟨f,(hkp f _ hd).take _,hf'⟩)
  obtain⟨rfl,rfl⟩:=hv
  refine⟨rfl,_,up hG, ?_⟩
  refine c8.use (hx hlt b s.inc I6 _ _ hL (fP (.refl _))) (fun v K I7 G l7 hL7 hv hG=>.inl ?_) fun f e I7 G l7 hd hf=>.inr (dc.dq [_,_] hf fun e' G' hf'=>.inr ⟨f,hd.take _,hf'⟩)
  obtain⟨n7,rfl,hpx7,hO7⟩:=hv
  refine⟨_,_,_,_,_,_,_,_,_,_,rfl,_,up hG,fun bn1 b5 I8 l8 hb5=>?_⟩
  refine c8.use (ej hc hL7 hb5 (F0:=_::_::_::(K++F0)) (tj (.refl _))) (fun v L I9 G l9 hL9 hv hG=>.inl ?_) fun f e I9 G l9 hd hf=>.inr (dc.dq [_,_,_] hf fun e' G' hf'=>.inr ⟨f,hd,hf'.more⟩)
  obtain⟨⟨i9,rfl⟩,rfl⟩:=hv
  exact⟨_,rfl,c.px t b (c.take (⟨#[41]⟩:ByteArray) (nx.ex s.inc).2).2::(K++F0),hG.trans (cV fun z=>by simp only[cW,cX,c6];omega),.inl ⟨hL9,_,K,rfl,⟨n7,rfl,hpx7,hO7⟩,.refl _⟩⟩
 have hop:c.dS (⟨#[40]⟩:ByteArray) s=false:=by simpa using hop
 rw[hop,if_neg ff,if_neg ff]
 refine⟨fun h=>absurd h (by decide),fun _=>⟨fun h=>absurd h (by decide),fun _=>⟨fun h=>absurd h (by decide),fun _=>⟨fun h=>absurd h (by decide),fun _=>⟨fun h=>absurd h (by decide),fun _=>?_⟩⟩⟩⟩⟩
 refine (eX (hp1 _ _) 130).mono fun e I5 G l5 hf=>.inr ?_
 exact dc.dq [_,_] (hf.perm (F1:=[_,_]++F1) (.refl _) (.refl _)) fun e' G' hf'=>.inr ⟨_,(hl.c5 (by decide)).2,hf'.tail hF1⟩
end
end Go.Lx
namespace Go.Lx
open Go.Vc
theorem ef.two{x y:Nd}{H K:cR}{b1:Nat}{k o ty n f p:Int}{w:ByteArray}(hx:ef 64 false x H)(hy:ef 64 false y K) :
  ef 64 false (.mk k o ty n f w (some ⟨b1,0,none⟩) 2 [x,y] p) ((b1,.cells (x.enc++y.enc).toArray 64 (0,0))::(H++(K++[]))) :=
 .mk (t:=.mk k o ty n f w (some ⟨b1,0,none⟩) 2 [x,y] p) (A:=[(b1,.cells (x.enc++y.enc).toArray 64 (0,0))]) (hs:=fun i=>if i=0 then H else K)
  ⟨rfl,.inr ⟨b1,_,rfl,rfl,rfl,Nat.le_refl _,by simp[Nd.kids]⟩⟩ (fun h=>by cases h) fun i z h=>by
    match i,h with
    | 0,h=>cases h;exact hx
    | 1,h=>cases h;exact hy
theorem ef.C2{x:Nd}{H:cR}{b1:Nat}{k o ty n f p:Int}{w:ByteArray}(hx:ef 64 false x H) :
  ef 64 false (.mk k o ty n f w (some ⟨b1,0,none⟩) 1 [x] p) ((b1,.cells x.enc.toArray 64 (0,0))::(H++[])) :=
 .mk (t:=.mk k o ty n f w (some ⟨b1,0,none⟩) 1 [x] p) (A:=[(b1,.cells x.enc.toArray 64 (0,0))]) (hs:=fun i=>H)
  ⟨rfl,.inr ⟨b1,_,rfl,rfl,rfl,Nat.le_refl _,by simp[Nd.kids]⟩⟩ (fun h=>by cases h) fun i z h=>by
    match i,h with
    | 0,h=>cases h;exact hx
theorem ef.three{x y z:Nd}{H K L:cR}{b1:Nat}{k o ty n f p:Int}{w:ByteArray}(hx:ef 64 false x H)(hy:ef 64 false y K)(hz:ef 64 false z L) :
  ef 64 false (.mk k o ty n f w (some ⟨b1,0,none⟩) 3 [x,y,z] p) ((b1,.cells (x.enc++(y.enc++z.enc)).toArray 64 (0,0))::(H++(K++(L++[])))) :=
 .mk (t:=.mk k o ty n f w (some ⟨b1,0,none⟩) 3 [x,y,z] p) (A:=[(b1,.cells (x.enc++(y.enc++z.enc)).toArray 64 (0,0))]) (hs:=fun i=>if i=0 then H else if i=1 then K else L)
  ⟨rfl,.inr ⟨b1,_,rfl,rfl,rfl,Nat.le_refl _,by simp[Nd.kids]⟩⟩ (fun h=>by cases h) fun i u h=>by
    match i,h with
    | 0,h=>cases h;exact hx
    | 1,h=>cases h;exact hy
    | 2,h=>cases h;exact hz
def gY(c:PC)(l:Int)(sub:PS→Px×PS)(res:Px×PS)(many:Int)(fuel:Nat)(x:Px)(s:PS):Prop :=
 res=if l=4 then (if many=0 then (if c.any lu s<0 then (x,s) else (xH (11+c.any lu s) (c.now s).pos x (sub s.inc).1,(sub s.inc).2)) else (x,s)) else c.fs (pN l) (xP l) sub fuel x s
section
variable {c:PC} {t:ByteArray} {l:Int} {sub:PS→Px×PS} {res:Px×PS} {many:Int} {fuel:Nat} {x:Px} {s:PS}
theorem tt(h:0≤c.any (pN l) s):c.any (pN l) s<6:=by
 have h1:=(dt h).2
 have:(pN l).length≤6:=by unfold pN;repeat' split<;>try decide
 omega
theorem tu(l:Int):0≤xP l∧xP l≤18:=by unfold xP;repeat' split<;>try decide
theorem gY.stop(h:gY c l sub res many fuel x s)(hs:c.any (pN l) s<0∨(l=4∧many≠0)):res=(x,s):=by
 unfold gY at h
 by_cases h4:l=4
 ·subst h4
  rw[if_pos rfl] at h
  by_cases hm:many=0
  ·rw[if_pos hm] at h
   have hs:c.any lu s<0:=hs.resolve_right fun h=>h.2 hm
   rw[if_pos hs] at h;exact h
  ·rw[if_neg hm] at h;exact h
 ·rw[if_neg h4] at h
  have hs:=hs.resolve_right fun h=>h4 h.1
  cases fuel with
  | zero=>exact h
  | succ n=>rw[PC.fs,if_pos hs] at h;exact h
theorem gY.next(h:gY c l sub res many fuel x s)(hm:l≠4∨many=0)(ha:0≤c.any (pN l) s)(h0:0≤many)(hf:0<fuel):gY c l sub res (many+1) (fuel-1) (xH (xP l+c.any (pN l) s) (c.now s).pos x (sub s.inc).1) (sub s.inc).2:=by
 unfold gY at h ⊢
 by_cases h4:l=4
 ·subst h4
  have hm:=hm.resolve_left fun h=>h rfl
  rw[if_pos rfl,if_pos hm,if_neg (Int.not_lt.2 (show 0≤c.any lu s from ha))] at h
  rw[if_pos rfl,if_neg (by omega)];exact h
 ·rw[if_neg h4] at h ⊢
  obtain⟨n,rfl⟩:∃n,fuel=n+1:=⟨fuel-1,by omega⟩
  rw[PC.fs,if_neg (Int.not_lt.2 ha)] at h;exact h
theorem gY.dead(h:gY c l sub res many fuel x s)(hk:∀f,Kp c f sub)(hm:many≠0){f:PF}(hd:c.dI f s):c.dI f res.2:=by
 unfold gY at h
 rw[h]
 split
 ·exact hd
 ·exact Kp.fs _ _ _ hd
def PC.uR(c:PC)(l:Int)(sub:PS→Px×PS)(s:PS):Px×PS :=
 if l=4 then (if c.any lu (sub s).2<0 then sub s else (xH (11+c.any lu (sub s).2) (c.now (sub s).2).pos (sub s).1 (sub (sub s).2.inc).1,(sub (sub s).2.inc).2)) else c.loop (pN l) (xP l) sub s
theorem gY.start(c:PC)(l:Int)(sub:PS→Px×PS)(s:PS):gY c l sub (c.uR l sub s) 0 c.l.length (sub s).1 (sub s).2:=by
 unfold gY PC.uR
 split
 ·rw[if_pos rfl]
 ·rfl
theorem sA(hk:∀f,Kp c f sub){f:PF}(hd:c.dI f (sub s).2):c.dI f (c.uR l sub s).2:=by
 unfold PC.uR
 split
 ·rw[hd.any,if_pos (by decide)];exact hd
 ·exact Kp.fs _ _ _ hd
def tx(c:PC)(t:ByteArray)(l d:Int)(g:PS→Px×PS):Prop:=∀(b:Nat) (s:PS) (I:cS) (F F0:cR),c.Live s→F.Perm (c.px t b s::F0)→cU P 90 #[.pointer (some ⟨b,0,none⟩),.int .i64 l,.int .i64 d] I F (c8 c t b og F0 (g s))
theorem tz{d:Int}{g:PS→Px×PS}(hl2:0≤l∧l≤10)(hr:tx c t (l+1) d g){b bp bl:Nat}{tp tl:Nat}{s:PS}{I:cS}{F F0:cR}(hl:c.Live s)(hp:(bp,Obj.cells #[.pointer (some ⟨b,0,none⟩)] tp (0,0))∈F)(hb:(bl,Obj.cells #[.int .i64 l] tl (0,0))∈F)(hF:F.Perm (c.px t b s::F0)) :
  cU P 114 #[.int .i64 d,.pointer (some ⟨bp,0,none⟩),.pointer (some ⟨bl,0,none⟩)] I F (c8 c t b og F0 (g s)):=by
 refine fJ.vc ?_
 unfold fJ.V
 intro b0
 refine⟨_,wU (.tail _ hp),_,wU (.tail _ hb), ?_⟩
 rw[gS (n:=l+1) (by omega)]
 refine c8.use (hr b s I _ _ hl (th hF)) (fun v K I6 G l6 hL hv hG=>.inl ?_) fun f e I6 G l6 hd hf=>.inr (dc.dq [_] hf fun e' G' hf'=>.inr ⟨f,hd,hf'⟩)
 obtain⟨n,rfl,hv⟩:=hv
 exact⟨_,_,_,_,_,_,_,_,_,_,rfl,c.px t b (g s).2::(K++F0),hG.trans (cV fun z=>by simp only[cW,cX,c6];omega),.inl ⟨hL,_,K,rfl,⟨n,rfl,hv⟩,.refl _⟩⟩
theorem qZ(hc:c.Of t){d:Int}(hl6:2≤l∧l≤6)(hMo:dT c sub)(hKp:∀f,Kp c f sub)(hs1:l<6→tx c t (l+1) d sub)(hs2:l=6→vZ c t 113 d sub):tx c t l d (c.uR l sub):=by
 intro b s I F F0 hl hF
 refine gN.vc (fun many bp bl n0 n1 n2 n3 n4 n5 a n k n7 m I' F'=>bp=some ⟨b,0,none⟩∧l=bl∧0≤many∧∃(x:Nd) (H:cR) (si:PS) (fuel:Nat),n0=x.kind∧n1=x.oper∧n2=x.iS∧n3=x.n∧n4=x.field∧n5=x.name∧a=x.a∧n=x.kids.length∧k=x.c∧n7=x.pos∧ef 64 false x H∧c.Live si ∧
  many≤si.next∧gY c l sub (c.uR l sub s) many fuel x.px si∧c.l.length≤fuel+si.next∧m=c.l.length-si.next∧F'.Perm (c.px t b si::(H++F0))) ?_
 unfold gN.V
 intro b_p b_l b0
 refine⟨fun hlt=>?_,fun hlt=>?_⟩
 ·have hlt:=of_decide_eq_true hlt
  refine (uP l I _).mono fun e I1 G l1 ⟨wa,wn,wk,he,hS,hn9,hG⟩=>?_
  subst he hG
  refine⟨_,_,_,_,rfl,F,.refl _, ?_⟩
  refine c8.use (tz (by omega) (hs1 hlt) hl (.head _) (.tail _ (.head _)) (tj hF)) (fun v K I2 G l2 hL hv hG=>.inl ?_) fun f e I2 G l2 hd hf=>.inr ?_
  rotate_left
  ·obtain⟨ch,he,F2,hG2,hD⟩:=dc.dq (I:=I2) (Q:=c8 c t b og F0 (c.uR l sub s)) [_,_,_] hf fun e' G' hf'=>.inr ⟨f,sA hKp hd,hf'⟩
   exact⟨ch,he,_,_,F2,hG2,hD⟩
  obtain⟨x0,rfl,hpx0,hO0⟩:=hv
  have hRs:=gY.start c l sub s
  rw[←hpx0] at hRs
  refine⟨_,_,_,_,_,_,_,_,_,_,rfl,_,_,c.px t b (sub s).2::(K++F0),hG.trans (cV fun z=>by simp only[cW,cX,c6];omega),fun b_n=>⟨⟨_,rfl,rfl,Int.le_refl 0,x0,K,(sub s).2,c.l.length,rfl,rfl,rfl,rfl,rfl,rfl,rfl,rfl,rfl,rfl,hO0,hL,by omega,hRs,by omega,rfl,.refl _⟩, ?_⟩⟩
  intro many bp bl n0 n1 n2 n3 n4 n5 a n k n7 m I3 F3 l3 ⟨gp,gl,g0,x,H,si,fuel,e0,e1,e2,e3,e4,e5,ea,en,ek,e7,hO,hLi,hmn,hR,hfu,gm,hFi⟩
  subst gp gl e0 e1 e2 e3 e4 e5 ea en ek e7 gm
  have lS:=l2
  refine⟨fun h4=>?_,fun h4=>⟨fun hm0=>?_,fun hm0=>?_⟩⟩
  ·have h4:l≠4:=by simpa using h4
   refine cU.ret (hM hLi (dK.of (u7 hFi)) (hS.mono (cS.le_trans lS l3)) hn9) fun I4 l4=>⟨_,rfl,F3,.refl _,fun h=>?_,fun h=>?_⟩
   ·have h:=of_decide_eq_true h
    have e1:=hR.stop (.inl h)
    exact .inl ⟨by rw[e1];exact hLi,_,H,rfl,⟨x,rfl,by rw[e1],hO⟩,by rw[e1];exact hFi⟩
   ·have h:0≤c.any (pN l) si:=by have:=of_decide_eq_false h;omega
    have haw:=tt h
    have hkd:=hU hLi h
    have hR2:=hR.next (.inl h4) h g0 (show 0<fuel by have:=hLi.2;omega)
    refine⟨_,rfl,_,(dK.of (I:=I4) (u7 hFi)).rd.dw (p:=1) (q:=4) rfl, ?_⟩
    refine c8.use (dN hc hLi hkd (u7 hFi)) (fun v K I5 G l5 hL5 hv hG=>.inl ?_) fun f e I5 G l5 hd hf=>.inr (dc.dq [_,_,_,_] hf fun e' G' hf'=>.inr ⟨f,hR2.dead hKp (by omega) (hKp _ _ hd),hf'.more⟩)
    obtain⟨rfl,rfl⟩:=hv
    refine⟨rfl,c.px t b si.inc::(H++F0),hG.trans (cV fun z=>by simp only[cW,cX,c6];omega), ?_⟩
    refine c8.use (tz (F0:=_::_::_::_::(H++F0)) (by omega) (hs1 hlt) hL5 (.head _) (.tail _ (.head _)) (u7 (.refl _))) (fun v K I6 G l6 hL6 hv hG=>.inl ?_) fun f e I6 G l6 hd hf=>.inr (dc.dq [_,_,_,_] hf fun e' G' hf'=>.inr ⟨f,hR2.dead hKp (by omega) hd,hf'.more⟩)
    obtain⟨kn,rfl,hpx,hOk⟩:=hv
    have hup:=hMo si.inc
    have hnx:si.inc.next=si.next+1:=rfl
    refine⟨_,_,_,_,_,_,_,_,_,_,rfl,c.px t b (sub si.inc).2::(K++(H++F0)),hG.trans (cV fun z=>by simp only[cW,cX,c6];omega),fun b1=>⟨c.l.length-(sub si.inc).2.next, ?_,rfl,rfl, ?_,.mk 6 (xP l+c.any (pN l) si) 0 0 0 ⟨#[]⟩ (some ⟨b1,0,none⟩) 2 [x,kn] (c.tok si.next).pos,(b1,.cells (x.enc++kn.enc).toArray 64 (0,0))::(H++(K++[])),(sub si.inc).2,fuel-1,rfl, ?_,rfl,rfl,rfl,rfl,rfl,rfl,rfl,rfl,ef.two hO hOk,hL6, ?_, ?_, ?_,rfl, ?_⟩⟩
    ·have:=hLi.2;have:=hup.1;omega
    ·rw[gS (n:=many+1) (by have:=hLi.2;have:=hc.oB;omega)];omega
    ·have:=tu l;rw[w8 (n:=c.any (pN l) si) (by omega),w8 (by omega)];rfl
    ·rw[gS (n:=many+1) (by have:=hLi.2;have:=hc.oB;omega)];have:=hup.1;omega
    ·rw[gS (n:=many+1) (by have:=hLi.2;have:=hc.oB;omega),hLi.now] at *
     simp only[Nd.px,Nd.oF,hpx];exact hR2
    ·have:=hup.1;omega
    ·show List.Perm ((b1,Obj.cells (x.enc++kn.enc).toArray 64 (0,0))::_) _
     exact cV fun z=>by simp only[cW,cX,c6];omega
  ·have h4:l=4:=by simpa using h4
   have hm0:many=0:=by simpa using hm0
   refine cU.ret (hM hLi (dK.of (u7 hFi)) (hS.mono (cS.le_trans lS l3)) hn9) fun I4 l4=>⟨_,rfl,F3,.refl _,fun h=>?_,fun h=>?_⟩
   ·have h:=of_decide_eq_true h
    have e1:=hR.stop (.inl h)
    exact .inl ⟨by rw[e1];exact hLi,_,H,rfl,⟨x,rfl,by rw[e1],hO⟩,by rw[e1];exact hFi⟩
   ·have h:0≤c.any (pN l) si:=by have:=of_decide_eq_false h;omega
    have haw:=tt h
    have hkd:=hU hLi h
    have hR2:=hR.next (.inr hm0) h g0 (show 0<fuel by have:=hLi.2;omega)
    refine⟨_,rfl,_,(dK.of (I:=I4) (u7 hFi)).rd.dw (p:=1) (q:=4) rfl, ?_⟩
    refine c8.use (dN hc hLi hkd (u7 hFi)) (fun v K I5 G l5 hL5 hv hG=>.inl ?_) fun f e I5 G l5 hd hf=>.inr (dc.dq [_,_,_,_] hf fun e' G' hf'=>.inr ⟨f,hR2.dead hKp (by omega) (hKp _ _ hd),hf'.more⟩)
    obtain⟨rfl,rfl⟩:=hv
    refine⟨rfl,c.px t b si.inc::(H++F0),hG.trans (cV fun z=>by simp only[cW,cX,c6];omega), ?_⟩
    refine c8.use (tz (F0:=_::_::_::_::(H++F0)) (by omega) (hs1 hlt) hL5 (.head _) (.tail _ (.head _)) (u7 (.refl _))) (fun v K I6 G l6 hL6 hv hG=>.inl ?_) fun f e I6 G l6 hd hf=>.inr (dc.dq [_,_,_,_] hf fun e' G' hf'=>.inr ⟨f,hR2.dead hKp (by omega) hd,hf'.more⟩)
    obtain⟨kn,rfl,hpx,hOk⟩:=hv
    have hup:=hMo si.inc
    have hnx:si.inc.next=si.next+1:=rfl
    refine⟨_,_,_,_,_,_,_,_,_,_,rfl,c.px t b (sub si.inc).2::(K++(H++F0)),hG.trans (cV fun z=>by simp only[cW,cX,c6];omega),fun b1=>⟨c.l.length-(sub si.inc).2.next, ?_,rfl,rfl, ?_,.mk 6 (xP l+c.any (pN l) si) 0 0 0 ⟨#[]⟩ (some ⟨b1,0,none⟩) 2 [x,kn] (c.tok si.next).pos,(b1,.cells (x.enc++kn.enc).toArray 64 (0,0))::(H++(K++[])),(sub si.inc).2,fuel-1,rfl, ?_,rfl,rfl,rfl,rfl,rfl,rfl,rfl,rfl,ef.two hO hOk,hL6, ?_, ?_, ?_,rfl, ?_⟩⟩
    ·have:=hLi.2;have:=hup.1;omega
    ·rw[gS (n:=many+1) (by have:=hLi.2;have:=hc.oB;omega)];omega
    ·have:=tu l;rw[w8 (n:=c.any (pN l) si) (by omega),w8 (by omega)];rfl
    ·rw[gS (n:=many+1) (by have:=hLi.2;have:=hc.oB;omega)];have:=hup.1;omega
    ·rw[gS (n:=many+1) (by have:=hLi.2;have:=hc.oB;omega),hLi.now] at *
     simp only[Nd.px,Nd.oF,hpx];exact hR2
    ·have:=hup.1;omega
    ·show List.Perm ((b1,Obj.cells (x.enc++kn.enc).toArray 64 (0,0))::_) _
     exact cV fun z=>by simp only[cW,cX,c6];omega
  ·have h4:l=4:=by simpa using h4
   have hm0:many≠0:=by simpa using hm0
   have e1:=hR.stop (.inr ⟨h4,hm0⟩)
   exact .inl ⟨by rw[e1];exact hLi,_,H,rfl,⟨x,rfl,by rw[e1],hO⟩,by rw[e1];exact hFi⟩
 ·have h6:l=6:=by have:=of_decide_eq_false hlt;omega
  refine (uP l I _).mono fun e I1 G l1 ⟨wa,wn,wk,he,hS,hn9,hG⟩=>?_
  subst he hG
  refine⟨_,_,_,_,rfl,F,.refl _, ?_⟩
  refine c8.use (hs2 h6 b s I1 _ _ hl (tj hF)) (fun v K I2 G l2 hL hv hG=>.inl ?_) fun f e I2 G l2 hd hf=>.inr ?_
  rotate_left
  ·obtain⟨ch,he,F2,hG2,hD⟩:=dc.dq (I:=I2) (Q:=c8 c t b og F0 (c.uR l sub s)) [_,_,_] hf fun e' G' hf'=>.inr ⟨f,sA hKp hd,hf'⟩
   exact⟨ch,he,F2,hG2,hD⟩
  obtain⟨x0,rfl,hpx0,hO0⟩:=hv
  have hRs:=gY.start c l sub s
  rw[←hpx0] at hRs
  refine⟨_,_,_,_,_,_,_,_,_,_,rfl,c.px t b (sub s).2::(K++F0),hG.trans (cV fun z=>by simp only[cW,cX,c6];omega),fun b_n=>⟨⟨_,rfl,rfl,Int.le_refl 0,x0,K,(sub s).2,c.l.length,rfl,rfl,rfl,rfl,rfl,rfl,rfl,rfl,rfl,rfl,hO0,hL,by omega,hRs,by omega,rfl,.refl _⟩, ?_⟩⟩
  intro many bp bl n0 n1 n2 n3 n4 n5 a n k n7 m I3 F3 l3 ⟨gp,gl,g0,x,H,si,fuel,e0,e1,e2,e3,e4,e5,ea,en,ek,e7,hO,hLi,hmn,hR,hfu,gm,hFi⟩
  subst gp gl e0 e1 e2 e3 e4 e5 ea en ek e7 gm
  have lS:=l2
  refine⟨fun h4=>?_,fun h4=>⟨fun hm0=>?_,fun hm0=>?_⟩⟩
  ·have h4:l≠4:=by simpa using h4
   refine cU.ret (hM hLi (dK.of (u7 hFi)) (hS.mono (cS.le_trans lS l3)) hn9) fun I4 l4=>⟨_,rfl,F3,.refl _,fun h=>?_,fun h=>?_⟩
   ·have h:=of_decide_eq_true h
    have e1:=hR.stop (.inl h)
    exact .inl ⟨by rw[e1];exact hLi,_,H,rfl,⟨x,rfl,by rw[e1],hO⟩,by rw[e1];exact hFi⟩
   ·have h:0≤c.any (pN l) si:=by have:=of_decide_eq_false h;omega
    have haw:=tt h
    have hkd:=hU hLi h
    have hR2:=hR.next (.inl h4) h g0 (show 0<fuel by have:=hLi.2;omega)
    refine⟨_,rfl,_,(dK.of (I:=I4) (u7 hFi)).rd.dw (p:=1) (q:=4) rfl, ?_⟩
    refine c8.use (dN hc hLi hkd (u7 hFi)) (fun v K I5 G l5 hL5 hv hG=>.inl ?_) fun f e I5 G l5 hd hf=>.inr (dc.dq [_,_,_,_] hf fun e' G' hf'=>.inr ⟨f,hR2.dead hKp (by omega) (hKp _ _ hd),hf'.more⟩)
    obtain⟨rfl,rfl⟩:=hv
    refine⟨rfl,c.px t b si.inc::(H++F0),hG.trans (cV fun z=>by simp only[cW,cX,c6];omega), ?_⟩
    refine c8.use (hs2 h6 b si.inc I5 _ (_::_::_::_::(H++F0)) hL5 (u7 (.refl _))) (fun v K I6 G l6 hL6 hv hG=>.inl ?_) fun f e I6 G l6 hd hf=>.inr (dc.dq [_,_,_,_] hf fun e' G' hf'=>.inr ⟨f,hR2.dead hKp (by omega) hd,hf'.more⟩)
    obtain⟨kn,rfl,hpx,hOk⟩:=hv
    have hup:=hMo si.inc
    have hnx:si.inc.next=si.next+1:=rfl
    refine⟨_,_,_,_,_,_,_,_,_,_,rfl,c.px t b (sub si.inc).2::(K++(H++F0)),hG.trans (cV fun z=>by simp only[cW,cX,c6];omega),fun b1=>⟨c.l.length-(sub si.inc).2.next, ?_,rfl,rfl, ?_,.mk 6 (xP l+c.any (pN l) si) 0 0 0 ⟨#[]⟩ (some ⟨b1,0,none⟩) 2 [x,kn] (c.tok si.next).pos,(b1,.cells (x.enc++kn.enc).toArray 64 (0,0))::(H++(K++[])),(sub si.inc).2,fuel-1,rfl, ?_,rfl,rfl,rfl,rfl,rfl,rfl,rfl,rfl,ef.two hO hOk,hL6, ?_, ?_, ?_,rfl, ?_⟩⟩
    ·have:=hLi.2;have:=hup.1;omega
    ·rw[gS (n:=many+1) (by have:=hLi.2;have:=hc.oB;omega)];omega
    ·have:=tu l;rw[w8 (n:=c.any (pN l) si) (by omega),w8 (by omega)];rfl
    ·rw[gS (n:=many+1) (by have:=hLi.2;have:=hc.oB;omega)];have:=hup.1;omega
    ·rw[gS (n:=many+1) (by have:=hLi.2;have:=hc.oB;omega),hLi.now] at *
     simp only[Nd.px,Nd.oF,hpx];exact hR2
    ·have:=hup.1;omega
    ·show List.Perm ((b1,Obj.cells (x.enc++kn.enc).toArray 64 (0,0))::_) _
     exact cV fun z=>by simp only[cW,cX,c6];omega
  ·have h4:l=4:=by simpa using h4
   have hm0:many=0:=by simpa using hm0
   refine cU.ret (hM hLi (dK.of (u7 hFi)) (hS.mono (cS.le_trans lS l3)) hn9) fun I4 l4=>⟨_,rfl,F3,.refl _,fun h=>?_,fun h=>?_⟩
   ·have h:=of_decide_eq_true h
    have e1:=hR.stop (.inl h)
    exact .inl ⟨by rw[e1];exact hLi,_,H,rfl,⟨x,rfl,by rw[e1],hO⟩,by rw[e1];exact hFi⟩
   ·have h:0≤c.any (pN l) si:=by have:=of_decide_eq_false h;omega
    have haw:=tt h
    have hkd:=hU hLi h
    have hR2:=hR.next (.inr hm0) h g0 (show 0<fuel by have:=hLi.2;omega)
    refine⟨_,rfl,_,(dK.of (I:=I4) (u7 hFi)).rd.dw (p:=1) (q:=4) rfl, ?_⟩
    refine c8.use (dN hc hLi hkd (u7 hFi)) (fun v K I5 G l5 hL5 hv hG=>.inl ?_) fun f e I5 G l5 hd hf=>.inr (dc.dq [_,_,_,_] hf fun e' G' hf'=>.inr ⟨f,hR2.dead hKp (by omega) (hKp _ _ hd),hf'.more⟩)
    obtain⟨rfl,rfl⟩:=hv
    refine⟨rfl,c.px t b si.inc::(H++F0),hG.trans (cV fun z=>by simp only[cW,cX,c6];omega), ?_⟩
    refine c8.use (hs2 h6 b si.inc I5 _ (_::_::_::_::(H++F0)) hL5 (u7 (.refl _))) (fun v K I6 G l6 hL6 hv hG=>.inl ?_) fun f e I6 G l6 hd hf=>.inr (dc.dq [_,_,_,_] hf fun e' G' hf'=>.inr ⟨f,hR2.dead hKp (by omega) hd,hf'.more⟩)
    obtain⟨kn,rfl,hpx,hOk⟩:=hv
    have hup:=hMo si.inc
    have hnx:si.inc.next=si.next+1:=rfl
    refine⟨_,_,_,_,_,_,_,_,_,_,rfl,c.px t b (sub si.inc).2::(K++(H++F0)),hG.trans (cV fun z=>by simp only[cW,cX,c6];omega),fun b1=>⟨c.l.length-(sub si.inc).2.next, ?_,rfl,rfl, ?_,.mk 6 (xP l+c.any (pN l) si) 0 0 0 ⟨#[]⟩ (some ⟨b1,0,none⟩) 2 [x,kn] (c.tok si.next).pos,(b1,.cells (x.enc++kn.enc).toArray 64 (0,0))::(H++(K++[])),(sub si.inc).2,fuel-1,rfl, ?_,rfl,rfl,rfl,rfl,rfl,rfl,rfl,rfl,ef.two hO hOk,hL6, ?_, ?_, ?_,rfl, ?_⟩⟩
    ·have:=hLi.2;have:=hup.1;omega
    ·rw[gS (n:=many+1) (by have:=hLi.2;have:=hc.oB;omega)];omega
    ·have:=tu l;rw[w8 (n:=c.any (pN l) si) (by omega),w8 (by omega)];rfl
    ·rw[gS (n:=many+1) (by have:=hLi.2;have:=hc.oB;omega)];have:=hup.1;omega
    ·rw[gS (n:=many+1) (by have:=hLi.2;have:=hc.oB;omega),hLi.now] at *
     simp only[Nd.px,Nd.oF,hpx];exact hR2
    ·have:=hup.1;omega
    ·show List.Perm ((b1,Obj.cells (x.enc++kn.enc).toArray 64 (0,0))::_) _
     exact cV fun z=>by simp only[cW,cX,c6];omega
  ·have h4:l=4:=by simpa using h4
   have hm0:many≠0:=by simpa using hm0
   have e1:=hR.stop (.inr ⟨h4,hm0⟩)
   exact .inl ⟨by rw[e1];exact hLi,_,H,rfl,⟨x,rfl,by rw[e1],hO⟩,by rw[e1];exact hFi⟩
end
end Go.Lx
namespace Go.Lx
open Go.Vc
section
variable {c:PC} {t:ByteArray}
theorem dK.held{I:cS}{G:cR}{b:Nat}{k:Tok}{f:Int}:dK (cS.put I b (z0 t k f)) G t b k f:=.inl (by simp[cS.put])
theorem sB{s:PS}(hl:c.Live s){d:Int}(h1:d≤24):(d<24∧c.c9 d s=s)∨(d=24∧(c.c9 d s).over=true∧c.dI ⟨132,(c.tok s.next).pos,false⟩ (c.c9 d s)):=by
 by_cases h:d<24
 ·exact .inl ⟨h,oU h⟩
 ·have:d=24:=by omega
  subst this
  exact .inr ⟨rfl,kz hl⟩
theorem za(hc:c.Of t){nx:Lv}{d:Int}(h0:0≤d)(h1:d≤24)(hx:d<24→vZ c t 47 (d+1) nx.ex)(hu:d<24→vZ c t 113 (d+1) nx.un)(hkp:∀f,Kp c f nx.ex)(hku:∀f,Kp c f nx.un) :
  vZ c t 113 d (c.unary nx d):=by
 intro b s I F F0 hl hF
 have hn:=hl.now
 refine fK.vc ?_
 unfold fK.V
 intro b0 b1 I1 l1 hb1
 refine cU.ret (hM hl (dK.of (th hF)) (words (ws:=j5) hb1 rfl) (by decide)) fun I2 l2=>⟨_,rfl,F,.refl _,fun h=>?_,fun h=>?_⟩
 ·have h:=of_decide_eq_true h
  have e1:c.unary nx d s=c.one nx d s:=by unfold PC.unary;rw[if_pos h]
  rw[e1]
  refine c8.use (xR hc h0 h1 hx hkp hl (th hF)) (fun v K I6 G l6 hL hv hG=>.inl ?_) fun f e I6 G l6 hd hf=>.inr (dc.dq [_] hf fun e' G' hf'=>.inr ⟨f,hd,hf'⟩)
  obtain⟨n,rfl,hv⟩:=hv
  exact⟨_,_,_,_,_,_,_,_,_,_,rfl,c.px t b (c.one nx d s).2::(K++F0),hG.trans (cV fun z=>by simp only[cW,cX,c6];omega),.inl ⟨hL,_,K,rfl,⟨n,rfl,hv⟩,.refl _⟩⟩
 have hge:¬c.any j5 s<0:=of_decide_eq_false h
 have hlt:c.any j5 s<2:=(dt (Int.not_lt.1 hge)).2
 have hkd:=hU hl (Int.not_lt.1 hge)
 refine⟨b,z0 t (c.tok s.next) (iM (c.tok s.next)),F0,hF,_,rfl,_,dK.held.rd.dw (p:=1) (q:=4) rfl, ?_⟩
 refine (mi dK.held h0 h1).mono fun e I4 G l4 hd=>?_
 have hdp:=sB hl h1
 rcases hd with ⟨hlt2,rfl,rfl⟩ | ⟨rfl,hf⟩
 rotate_left
 ·obtain⟨_,g1,g2⟩:=hdp.resolve_left fun h=>by omega
  have e1:c.unary nx 24 s=(gA,c.c9 24 s):=by unfold PC.unary;rw[if_neg hge,g1,if_pos rfl]
  rw[e1]
  exact .inr (dc.dq (I:=I4.del b) (Q:=fun e J G=>c8 c t b og F0 (gA,c.c9 24 s) e J ((b,z0 t (c.tok s.next) (iM (c.tok s.next)))::G)) [_] hf fun e' G' hf'=>.inr ⟨_,g2,hf'.Ai⟩)
 obtain⟨_,g1⟩:=hdp.resolve_right fun h=>by omega
 have e1:c.unary nx d s=(.mk 5 (1+c.any j5 s) 0 0 0 ⟨#[]⟩ [(nx.un s.inc).1] (c.tok s.next).pos,(nx.un s.inc).2):=by unfold PC.unary;rw[if_neg hge,g1,hl.1,if_neg (by simp),hn]
 rw[e1]
 refine .inl ⟨_,rfl,F0,.refl _, ?_⟩
 refine c8.use (dN hc hl hkd (F:=_::(c.px t b s::F0)) (th (.refl _))) (fun v K I6 G l6 hL hv hG=>.inl ?_) fun f e I6 G l6 hd hf=>.inr (dc.dq [_] hf fun e' G' hf'=>.inr ⟨f,hku f _ hd,hf'⟩)
 obtain⟨rfl,rfl⟩:=hv
 refine⟨rfl,c.px t b s.inc::F0,hG.trans (cV fun z=>by simp only[cW,cX,c6];omega), ?_⟩
 refine c8.use (hu hlt2 b s.inc I6 _ _ hL (th (.refl _))) (fun v K I7 G l7 hL7 hv hG=>.inl ?_) fun f e I7 G l7 hd hf=>.inr (dc.dq [_] hf fun e' G' hf'=>.inr ⟨f,hd,hf'⟩)
 obtain⟨n7,rfl,hpx7,hO7⟩:=hv
 refine⟨_,_,_,_,_,_,_,_,_,_,rfl,c.px t b (nx.un s.inc).2::(K++F0),hG.trans (cV fun z=>by simp only[cW,cX,c6];omega),fun b2=>?_⟩
 refine .inl ⟨hL7,_,(b2,.cells n7.enc.toArray 64 (0,0))::(K++[]), ?_,⟨.mk 5 (1+c.any j5 s) 0 0 0 ⟨#[]⟩ (some ⟨b2,0,none⟩) 1 [n7] (c.tok s.next).pos,rfl, ?_,ef.C2 hO7⟩, ?_⟩
 ·rw[w8 (n:=c.any j5 s) (by omega),w8 (by omega)];rfl
 ·simp only[Nd.px,Nd.oF,hpx7]
 ·show List.Perm ((b2,Obj.cells n7.enc.toArray 64 (0,0))::_) _
  exact cV fun z=>by simp only[cW,cX,c6];omega
theorem z4(hc:c.Of t){nx:Lv}{d:Int}(h0:0≤d)(h1:d≤24)(hx:d<24→vZ c t 47 (d+1) nx.ex)(hkp:∀f,Kp c f nx.ex)(hor:tx c t 2 d (c.or nx d)):vZ c t 47 d (c.expr nx d):=by
 intro b s I F F0 hl hF
 refine gi.vc ?_
 unfold gi.V
 intro b0
 have ex_:c.expr nx d s=if c.dS (⟨#[63]⟩:ByteArray) (c.or nx d s).2 then (if (c.c9 d (c.or nx d s).2).over then (gA,c.c9 d (c.or nx d s).2) else
   (.mk 7 0 0 0 0 ⟨#[]⟩ [(c.or nx d s).1,(nx.ex (c.c9 d (c.or nx d s).2).inc).1,(nx.ex (c.take (⟨#[58]⟩:ByteArray) (nx.ex (c.c9 d (c.or nx d s).2).inc).2).2).1] (c.now (c.c9 d (c.or nx d s).2)).pos,(nx.ex (c.take (⟨#[58]⟩:ByteArray) (nx.ex (c.c9 d (c.or nx d s).2).inc).2).2).2)) else c.or nx d s:=rfl
 refine c8.use (hor b s I _ _ hl (th hF)) (fun v K I1 G l1 hL hv hG=>.inl ?_) fun f e I1 G l1 hd hf=>.inr (dc.dq [_] hf fun e' G' hf'=>.inr ⟨f,by rw[ex_,hd.dS];exact hd,hf'⟩)
 obtain⟨n,rfl,hpx,hO⟩:=hv
 generalize c.or nx d s=r at ex_ hL hpx hG
 have hn:=hL.now
 refine⟨_,_,_,_,_,_,_,_,_,_,rfl,c.px t b r.2::(K++F0),hG.trans (cV fun z=>by simp only[cW,cX,c6];omega),fun bn=>?_⟩
 refine cU.ret (oh hL (dK.of (fP (.refl _))) (⟨#[63]⟩:ByteArray)) fun I2 l2=>⟨_,rfl,_,.refl _,fun h=>?_,fun h=>?_⟩
 ·have h:c.dS (⟨#[63]⟩:ByteArray) r.2=false:=by simpa using h
  rw[h] at ex_
  rw[ex_]
  exact .inl ⟨hL,_,K,rfl,⟨n,rfl,hpx,hO⟩,.refl _⟩
 have h:c.dS (⟨#[63]⟩:ByteArray) r.2=true:=by simpa using h
 have hkd:(c.tok r.2.next).kind≠0:=fun hk=>by
  unfold PC.dS at h;rw[hn,hk] at h;simp at h
 rw[if_pos h] at ex_
 refine⟨b,z0 t (c.tok r.2.next) (iM (c.tok r.2.next)),K++F0,.refl _,_,rfl,_,dK.held.rd.dw (p:=1) (q:=4) rfl, ?_⟩
 refine (mi dK.held h0 h1).mono fun e I4 G l4 hd=>?_
 have hdp:=sB hL h1
 rcases hd with ⟨hlt2,rfl,rfl⟩ | ⟨rfl,hf⟩
 rotate_left
 ·obtain⟨_,g1,g2⟩:=hdp.resolve_left fun h=>by omega
  rw[g1,if_pos rfl] at ex_
  rw[ex_]
  exact .inr (dc.dq (I:=I4.del b) (Q:=fun e J G=>c8 c t b og F0 (gA,c.c9 24 r.2) e J ((b,z0 t (c.tok r.2.next) (iM (c.tok r.2.next)))::G)) [_,_] hf fun e' G' hf'=>.inr ⟨_,g2,hf'.more.Ai⟩)
 obtain⟨_,g1⟩:=hdp.resolve_right fun h=>by omega
 rw[g1,hL.1,if_neg (by simp),hn] at ex_
 rw[ex_]
 refine .inl ⟨_,rfl,K++F0,.refl _, ?_⟩
 refine c8.use (dN hc hL hkd (F:=_::_::(c.px t b r.2::(K++F0))) (fP (.refl _))) (fun v J I6 G l6 hL6 hv hG=>.inl ?_) fun f e I6 G l6 hd hf=>.inr (dc.dq [_,_] hf fun e' G' hf'=>.inr ⟨f,hkp f _ ((hkp f _ hd).take _),hf'.more⟩)
 obtain⟨rfl,rfl⟩:=hv
 refine⟨rfl,c.px t b r.2.inc::(K++F0),hG.trans (cV fun z=>by simp only[cW,cX,c6];omega), ?_⟩
 refine c8.use (hx hlt2 b r.2.inc I6 _ _ hL6 (fP (.refl _))) (fun v J I7 G l7 hL7 hv hG=>.inl ?_) fun f e I7 G l7 hd hf=>.inr (dc.dq [_,_] hf fun e' G' hf'=>.inr ⟨f,hkp f _ (hd.take _),hf'.more⟩)
 obtain⟨y,rfl,hpy,hOy⟩:=hv
 refine⟨_,_,_,_,_,_,_,_,_,_,rfl,c.px t b (nx.ex r.2.inc).2::(J++(K++F0)),hG.trans (cV fun z=>by simp only[cW,cX,c6];omega),fun by_ b1 I8 l8 hb1=>?_⟩
 refine c8.use (ej hc hL7 hb1 (tj (.refl _))) (fun v L I9 G l9 hL9 hv hG=>.inl ?_) fun f e I9 G l9 hd hf=>.inr (dc.dq [_,_,_] hf fun e' G' hf'=>.inr ⟨f,hkp f _ hd,hf'.more.more⟩)
 obtain⟨⟨i9,rfl⟩,rfl⟩:=hv
 refine⟨_,rfl,c.px t b (c.take (⟨#[58]⟩:ByteArray) (nx.ex r.2.inc).2).2::(J++(K++F0)),hG.trans (cV fun z=>by simp only[cW,cX,c6];omega), ?_⟩
 refine c8.use (hx hlt2 b _ I9 _ _ hL9 (tj (.refl _))) (fun v L I10 G l10 hL10 hv hG=>.inl ?_) fun f e I10 G l10 hd hf=>.inr (dc.dq [_,_,_] hf fun e' G' hf'=>.inr ⟨f,hd,hf'.more.more⟩)
 obtain⟨z,rfl,hpz,hOz⟩:=hv
 refine⟨_,_,_,_,_,_,_,_,_,_,rfl,c.px t b (nx.ex (c.take (⟨#[58]⟩:ByteArray) (nx.ex r.2.inc).2).2).2::(L++(J++(K++F0))),hG.trans (cV fun z=>by simp only[cW,cX,c6];omega),fun b2=>?_⟩
 refine .inl ⟨hL10,_,(b2,.cells (n.enc++(y.enc++z.enc)).toArray 64 (0,0))::(K++(J++(L++[]))),rfl,⟨.mk 7 0 0 0 0 ⟨#[]⟩ (some ⟨b2,0,none⟩) 3 [n,y,z] (c.tok r.2.next).pos,rfl, ?_,ef.three hO hOy hOz⟩, ?_⟩
 ·simp only[Nd.px,Nd.oF,hpx,hpy,hpz]
 ·show List.Perm ((b2,Obj.cells (n.enc++(y.enc++z.enc)).toArray 64 (0,0))::_) _
  exact cV fun z=>by simp only[cW,cX,c6];omega
theorem Aj(hc:c.Of t){nx:Lv}{d:Int}(h0:0≤d)(h1:d≤24)(hx:d<24→vZ c t 47 (d+1) nx.ex)(hu:d<24→vZ c t 113 (d+1) nx.un)(hkp:∀f,Kp c f nx.ex)(hku:∀f,Kp c f nx.un)(hmx:dT c nx.ex)(hmu:dT c nx.un) :
  vZ c t 47 d (c.expr nx d)∧vZ c t 113 d (c.unary nx d):=by
 have u:=za hc h0 h1 hx hu hkp hku
 have r6:tx c t 6 d (c.product nx d):=qZ hc (l:=6) (by decide) (Up.unary hmx hmu d) (fun f=>Kp.unary nx d) (fun h=>absurd h (by decide)) fun _=>u
 have r5:tx c t 5 d (c.sum nx d):=qZ hc (l:=5) (by decide) (Up.product hmx hmu d) (fun f=>Kp.product nx d) (fun _=>r6) fun h=>absurd h (by decide)
 have r4:tx c t 4 d (c.compare nx d):=qZ hc (l:=4) (by decide) (Up.sum hmx hmu d) (fun f=>Kp.sum nx d) (fun _=>r5) fun h=>absurd h (by decide)
 have r3:tx c t 3 d (c.and nx d):=qZ hc (l:=3) (by decide) (Up.compare hmx hmu d) (fun f=>Kp.compare nx d) (fun _=>r4) fun h=>absurd h (by decide)
 have r2:tx c t 2 d (c.or nx d):=qZ hc (l:=2) (by decide) (Up.and hmx hmu d) (fun f=>Kp.and nx d) (fun _=>r3) fun h=>absurd h (by decide)
 exact⟨z4 hc h0 h1 hx hkp r2,u⟩
theorem zb(hc:c.Of t):∀(k:Nat) (d:Int),0≤d→d+k=24→vZ c t 47 d (c.lvl k d).ex∧vZ c t 113 d (c.lvl k d).un
 | 0,d,h0,h1=>Aj hc h0 (by omega) (fun h=>by omega) (fun h=>by omega) (fun f s h=>h) (fun f s h=>h) (fun s=>.refl) fun s=>.refl
 | k+1,d,h0,h1=>by
   have ih:=zb hc k (d+1) (by omega) (by omega)
   exact Aj hc h0 (by omega) (fun _=>ih.1) (fun _=>ih.2) (fun f=>(Kp.lvl k (d+1)).1) (fun f=>(Kp.lvl k (d+1)).2) (Up.lvl k (d+1)).1 (Up.lvl k (d+1)).2
theorem lP(hc:c.Of t):vZ c t 47 0 c.eJ:=(zb hc 24 0 (by decide) (by decide)).1
end
end Go.Lx
