import Derived.Test.YtmbkaikdndflbaaGreatDoorCostMoreB6
set_option linter.unusedVariables false
set_option linter.unusedSimpArgs false
set_option linter.unusedSectionVars false
set_option maxRecDepth 100000
namespace Go.Vc
theorem vJ{α:Type}(v:α):∀(n:Nat) (cs:List α) (i:Nat),n<cs.length→(cp n [v] cs)[i]? = if i=n then some v else cs[i]?
 | _,[],i,h=>by simp at h
 | 0,c::cs,0,_=>by simp[cp]
 | 0,c::cs,i+1,_=>by cases cs<;>simp[cp]
 | n+1,c::cs,0,_=>by simp[cp]
 | n+1,c::cs,i+1,h=>by
   rw[cp,List.getElem?_cons_succ,vJ v n cs i (by simpa using h),List.getElem?_cons_succ]
   by_cases hi:i=n
   ·rw[if_pos hi,if_pos (by omega)]
   ·rw[if_neg hi,if_neg (by omega)]
end Go.Vc
namespace Go.Lx
open Go.Vc
theorem Ia{I:cc}{a:Option Addr}{n:Nat}{l:List C2}(hS:Sl I 2 wh a n l){i:Int}(g0:0≤i)(hi:i<n):∃(ad:Addr) (c:C2),a=some ad∧l[i.toNat]? = some c∧(∀G,Rd I G (ad.add (i.toNat*2)) [.int .i64 c.1,.int .i64 c.2]) ∧
  (∀G,Rd I G ((ad.add (i.toNat*2)).add 0) [.int .i64 c.1])∧∀G,Rd I G ((ad.add (i.toNat*2)).add 1) [.int .i64 c.2]:=by
 have hn:=hS.1
 obtain⟨ad,ha,hr⟩:=hS.2 (by intro e;rw[e] at hn;simp at hn;omega)
 have hk:i.toNat<l.length:=by omega
 have hc:l[i.toNat]? = some l[i.toNat]:=List.getElem?_eq_getElem hk
 refine⟨ad,l[i.toNat],ha,hc,fun G=>hr _ _ hc G,fun G=>?_,fun G=>?_⟩
 all_goals
  obtain⟨q1,cells,e,fz,q2,q3⟩:=hr _ _ hc G
 ·have ha:∀a:Addr,a.add 0=a:=fun a=>by unfold Addr.add;rfl
  rw[ha]
  exact⟨q1,cells,e,fz,q2,fun j hj=>by
   have:j=0:=by simpa using hj
   subst this
   exact q3 0 (by show 0<2;decide)⟩
 ·have h2:∀z:Addr,z.spot=none→z.add 1=⟨z.block,z.off+1,none⟩:=fun z hz=>by
   cases z;simp only at hz;subst hz;rfl
  rw[h2 _ q1]
  exact⟨rfl,cells,e,fz,q2,fun j hj=>by
   have:j=0:=by simpa using hj
   subst this
   exact q3 1 (by show 1<2;decide)⟩
theorem Fo{I:cc}{G:b8}{ad:Addr}{y:cj}(h:Rd I G ad y.enc):Rd I G (ad.add 1) [.slice y.a y.rules.length y.c]:=by
 obtain⟨q1,cells,e,fz,q2,q3⟩:=h
 have h2:∀z:Addr,z.spot=none→z.add 1=⟨z.block,z.off+1,none⟩:=fun z hz=>by
  cases z;simp only at hz;subst hz;rfl
 rw[h2 _ q1]
 exact⟨rfl,cells,e,fz,q2,fun j hj=>by
  have:j=0:=by simpa using hj
  subst this
  exact q3 1 (by show 1<3;decide)⟩
theorem Gv{I:cc}{G:b8}{b e k:Nat}{cs:List Value}{l:List cj}{y y2:cj}(hk:l[k]? = some y)(hn:y2.name=y.name)(hp:y2.pos=y.pos)(hcs:cs.take (l.length*3)=l.flatMap cj.enc)(hlen:l.length*3≤cs.length)
  (hb:(b,Obj.cells (cp (k*3+1) [.slice y2.a y2.rules.length y2.c] cs).toArray e (0,0))∈G):dy I G 3 cj.enc (some ⟨b,0,none⟩) (l.set k y2).length (l.set k y2):=by
 have hkl:=(List.getElem?_eq_some_iff.1 hk).1
 refine dy.Em (f:=cj.enc) (z:=3) (fun _=>rfl) hb fun i hi=>?_
 rw[gG (z:=3) (f:=cj.enc) (fun _=>rfl),List.length_set] at hi
 have hq:i / 3<l.length:=by omega
 have hm:i % 3<3:=Nat.mod_lt _ (by decide)
 have hi3:i / 3*3+i % 3=i:=by omega
 have hold:∀x,l[i / 3]? = some x→cs[i]? = x.enc[i % 3]?:=fun x hx=>by
  have h1:=jr cj.enc 3 (fun _=>rfl) l (i / 3) x (i % 3) hx hm
  rw[hi3,←hcs,List.getElem?_take,if_pos hi] at h1
  exact h1
 rw[List.getElem?_toArray,vJ _ _ _ _ (by omega)]
 have hget:(l.set k y2)[i / 3]? = if i / 3=k then some y2 else l[i / 3]?:=by
  rw[List.getElem?_set]
  by_cases e:k=i / 3
  ·rw[if_pos e,if_pos e.symm,if_pos hkl]
  ·rw[if_neg e,if_neg (fun h=>e h.symm)]
 by_cases e:i / 3=k
 ·rw[if_pos e] at hget
  have h1:=jr cj.enc 3 (fun _=>rfl) (l.set k y2) (i / 3) y2 (i % 3) hget hm
  rw[hi3] at h1
  rw[h1]
  have h0:=hold y (by rw[e];exact hk)
  have hm':i % 3=0∨i % 3=1∨i % 3=2:=by omega
  rcases hm' with h | h | h
  ·rw[if_neg (by omega),h0,h]
   show some (Value.string y.name)=some (Value.string y2.name)
   rw[hn]
  ·rw[if_pos (by omega),h];rfl
  ·rw[if_neg (by omega),h0,h]
   show some (Value.int .i64 y.pos)=some (Value.int .i64 y2.pos)
   rw[hp]
 ·rw[if_neg e] at hget
  obtain⟨x,hx⟩:∃x,l[i / 3]? = some x:=⟨_,List.getElem?_eq_getElem hq⟩
  rw[hx] at hget
  have h1:=jr cj.enc 3 (fun _=>rfl) (l.set k y2) (i / 3) x (i % 3) hget hm
  rw[hi3] at h1
  rw[h1,if_neg (by omega),hold x hx]
theorem Bw.cd{s:cB}{H:b8}(h:Bw false s H)(hne:s.cd≠[]):∃(b:Nat) (cs:List Value) (R:b8),s.ta=some ⟨b,0,none⟩∧H.Perm ((b,.cells cs.toArray 65 (0,0))::R)∧cs.take (s.cd.length*3)=s.cd.flatMap cj.enc∧s.cd.length*3≤cs.length ∧
  ∀(I:cc) (G:b8),(∀x∈R,x∈G)→dy I G 11 cJ.enc s.ra s.regs.length s.regs∧(∀r∈s.regs,r.Ok I G)∧dy I G 2 cI.enc s.sa s.slots.length s.slots∧∀x∈s.cd,x.Ok I G:=by
 obtain⟨H1,H2,H3,rfl,h1,h2,h3⟩:=h
 obtain⟨A,hs,rfl,hA, -,hO⟩:=h3
 obtain⟨hn,⟨_,_,hl,_⟩ | ⟨b,cells,ha,hA,hcs,hnc,htk⟩⟩:=hA
 ·exact absurd hl hne
 subst hA
 refine⟨b,cells.toList,H1++(H2++fq s.cd.length hs),ha,by rw[Array.toArray_toList];exact (cW fun z=>by simp only[dp,c8,eu];omega),htk, ?_,fun I G hG=>?_⟩
 ·rw[Array.length_toList,hcs];exact Nat.mul_le_mul_right _ hnc
 simp only[List.mem_append] at hG
 obtain⟨a1,a2⟩:=h1.ok (I:=I) (G:=G) (K:=fun d=>d.Ok I G) (fun _=>rfl) (fun x hx=>hG x (.inl hx)) fun x H' hO hs=>sm.ok hO hs
 obtain⟨b1, -⟩:=h2.ok (I:=I) (G:=G) (K:=fun d=>True) (fun _=>rfl) (fun x hx=>hG x (.inr (.inl hx))) fun x H' hO hs=>trivial
 refine⟨a1,a2,b1,fun x hx=>?_⟩
 obtain⟨i,hi,rfl⟩:=List.mem_iff_getElem.1 hx
 exact lU.ok (hO i _ (List.getElem?_eq_getElem hi)) fun y hy=>hG y (.inr (.inr (rX hi hy)))
theorem D1(s:cu)(h:s.types.e=0):decide (s.top.1>500)=(s.cost.2.e==160)∧(s.cost.2.e=0→s.cost.1=s.top):=by
 unfold cu.cost
 rw[if_neg (by simpa using h)]
 by_cases h5:500<s.top.1
 ·rw[if_pos h5,decide_eq_true h5];exact⟨rfl,fun h=>(by cases h)⟩
 ·rw[if_neg h5,decide_eq_false h5];exact⟨rfl,fun _=>rfl⟩
set_option maxHeartbeats 4000000 in
theorem wk(s:cB)(which:Int)(hss:s.p.c9)(hcap:s.H6)(I:cc)(hg:Gl I)(F:b8)(hs:s.Ok I F):cg P 8 #[s.v,.int .i64 which] I F fun e I' G=>e=.returned (.bool true):=by
 refine iI.vc (fun i t0 t1 m I' F'=>F'=F∧0≤i∧i≤s.cd.length∧m=(s.cd.length-i).toNat∧gK t0 ((s.p.fR.drop i.toNat).map Prod.fst)=s.p.top.1∧gK t1 ((s.p.fR.drop i.toNat).map Prod.snd)=s.p.top.2)
  (fun _ _ F'=>F'=F) (fun _ i m _ _=>0≤i∧i≤s.cd.length∧m=(s.cd.length-i).toNat) ?_
 unfold iI.V
 intro b_s
 have oks:∀{J:cc} {G:b8},cc.le I J→(∀a,a∈F→a∈G)→s.Ok J G:=fun hl h=>hs.mono hl h
 refine cg.ret (yf hg _) fun I1 l1=>⟨_,rfl,F,.refl _, ?_⟩
 refine (BT s hss I1 _ (oks l1 fun a ha=>by simp only[List.mem_cons,List.mem_append];simp only[ha,true_or,or_true])).mono fun e I2 G h2 ⟨r1,he,hG,f1⟩=>?_
 subst hG
 refine⟨_,he,F,.refl _,fun h=>(by cases h),fun _=>⟨fun _=>rfl,fun e1=>⟨fun _=>rfl,fun hw=>?_⟩⟩⟩
 have hw:0≤which:=by have:=of_decide_eq_false hw;omega
 have l2:=cc.le_trans l1 h2
 have lL:=f1 e1
 have ls:=lL.thin
 refine cg.ret (wc s ls (oks l2 fun a ha=>by simp only[List.mem_cons,List.mem_append];simp only[ha,true_or,or_true])) fun I3 h3=>⟨_,_,_,rfl,F,.refl _,fun b_f=>?_⟩
 have l3:=cc.le_trans l2 h3
 refine (fS s ls (oks l3 fun a ha=>by simp only[List.mem_cons,List.mem_append];simp only[ha,true_or,or_true]) (hg.mono l3)).mono fun e I4 G h4 hq=>?_
 have l4:=cc.le_trans l3 h4
 rcases hq with ⟨hte,v,he,hv,hG⟩ | ⟨hte,bl,he,hS,hG⟩
 ·subst hG
  refine⟨_,_,_,v,he,F,.refl _,fun _=>⟨_,gJ.neq hv (by kernel_rfl),fun _=>rfl,fun h=>?_⟩,fun h=>?_⟩
  ·exact absurd hte (by simpa using h)
  ·exact absurd hte (by simpa using h)
 subst hG
 have hsd:=cu.sound (qq hte) ls
 have hn:s.cd.length≤12:=by have:=hsd.len;simpa[cB.p] using this
 have hn0:0<s.cd.length:=by have:=hsd.some;simpa[cB.p] using this
 have hcl:=ph s
 refine⟨_,_,_,.nilIface,he,F,.refl _,fun h=>absurd hte (by simpa using h),fun _=>?_⟩
 refine cg.iY (nE s ls (oks l4 fun a ha=>by simp only[List.mem_cons,List.mem_append];simp only[ha,true_or,or_true]) (hg.mono l4)) fun v5 I5 h5 ⟨w5,hv5,hw5⟩=>⟨_,_,w5,congrArg Ending.returned hv5,F,.refl _,fun b_c b_top=>?_⟩
 have l5:=cc.le_trans l4 h5
 obtain⟨hm1,hm2⟩:=D1 s.p hte
 refine⟨⟨_,rfl,by omega,by omega,rfl,rfl,rfl⟩,fun i t0 t1 m I6 F6 h6 ⟨gF,g0,g1,gm,gs,ga⟩=>⟨fun hlt=>?_,fun hlt=>?_⟩⟩
 ·subst gF
  have hlt:=of_decide_eq_true hlt
  obtain⟨ad,c,had,hc,_,r0,r1⟩:=Ia (hS.mono (cc.le_trans h5 h6)) g0 hlt
  rw[xh _ hc] at gs ga
  refine⟨⟨g0,hlt⟩,ad,had,c.1,r0 _,⟨g0,hlt⟩,ad,had,c.2,r1 _,(s.cd.length-(i+1)).toNat,by omega, ?_⟩
  rw[du (n:=i+1) (by omega)]
  refine⟨rfl,by omega,by omega,rfl, ?_, ?_⟩
  ·rw[show (i+1).toNat=i.toNat+1 by omega,←gs];congr 1;split<;>omega
  ·rw[show (i+1).toNat=i.toNat+1 by omega,←ga];congr 1;split<;>omega
 subst gF
 have hlt:=of_decide_eq_false hlt
 rw[List.drop_eq_nil_of_le (by omega)] at gs ga
 have gs:t0=s.p.top.1:=gs
 have ga:t1=s.p.top.2:=ga
 subst gs ga
 have l6:=cc.le_trans l5 h6
 refine cg.ret (DP (hg.mono l6) (hw5.mono h6) _) fun I7 h7=>⟨_,_,rfl,F6,.refl _, ?_⟩
 have l7:=cc.le_trans l6 h7
 have l47:=cc.le_trans h5 (cc.le_trans h6 h7)
 refine⟨⟨false,rr (by kernel_rfl),fun h=>(by cases h),fun _=>⟨fun h=>?_,fun _=>⟨fun h=>?_,fun _=>⟨_,hw5.eql (by kernel_rfl),fun hq=>⟨_,Aa _ _ _ _,fun h=>?_,fun _=>rfl⟩,fun _=>rfl⟩⟩⟩⟩,fun xx I8 F8 h8 gF=>?_⟩
 ·simp at h
 ·rw[hm1] at h;simp at h
 ·have hq:s.p.cost.2.e=0:=by simpa using hq
  rw[hm2 hq] at h;simp at h
 subst gF
 have l8:=cc.le_trans l7 h8
 have hk0:=Int.tmod_nonneg (a:=which) (s.cd.length:Int) hw
 have hk1:=Int.tmod_lt_of_pos which (b:=(s.cd.length:Int)) (by omega)
 generalize hkd:Int.tmod which (s.cd.length:Int)=k at *
 obtain⟨ad2,y,had2,hy,hrd2,hym⟩:=dy.j3 (oks l8 (G:=(b_s,Obj.cells #[.string s.name,.slice s.ra s.regs.length s.rc,.slice s.sa s.slots.length s.sc,.slice s.ta s.cd.length s.tc] 39 (0,0))::(b_f,.cells #[.int .i64 s.p.types.e,.int .i64 s.p.types.pos,.bool s.p.types.of] 51 (0,0))::(b_c,.cells #[.int .i64 s.p.cost.1.1,.int .i64 s.p.cost.1.2] 57 (0,0))::(b_top,.cells #[.int .i64 s.p.top.1,.int .i64 s.p.top.2] 57 (0,0))::F8) fun a ha=>by simp only[List.mem_cons,List.mem_append];simp only[ha,true_or,or_true]).cd hk0 hk1
 have hyo:=hs.state y hym
 have hys:=hsd.cd y.p (List.mem_map_of_mem hym)
 have hyl:y.rules.length≤12:=by have:=hys.len;simpa[cj.p] using this
 have hyc:y.rules.length≤y.c:=hcap y hym
 have hcy:s.p.fR[k.toNat]? = some (y.p.steps,y.p.fu):=by
  show ((s.cd.map cj.p).map cq.cost)[k.toNat]? = _
  rw[List.getElem?_map,List.getElem?_map,hy];rfl
 refine⟨by omega,⟨hk0,hk1⟩,ad2,had2,_,_,_,Fo hrd2,fun h=>?_,fun hne=>?_⟩
 ·have h0:(y.rules.length:Int)=0:=by simpa using h
  have hr0:y.rules=[]:=List.length_eq_zero_iff.1 (by omega)
  obtain⟨ad,c,had,hc,r0,_,_⟩:=Ia (hS.mono (cc.le_trans l47 h8)) hk0 hk1
  rw[hcy] at hc
  cases hc
  refine⟨⟨hk0,hk1⟩,ad,had,_,_,r0 _,_,vB _ _ _ _, ?_⟩
  have e1:y.p.steps=0:=by rw[rz,hr0];rfl
  have e2:y.p.fu=0:=by rw[tG,hr0];rfl
  show Ending.returned (Value.bool (decide (((y.p.steps,y.p.fu):C2)=(0,0))))=_
  rw[e1,e2];rfl
 have hne:y.rules.length≠0:=by
  intro h;rw[h] at hne;cases hne
 refine (yi s lL I8 _ (oks l8 fun a ha=>by simp only[List.mem_cons,List.mem_append];simp only[ha,true_or,or_true])).mono fun e I9 G h9 ⟨x,H,he,px,hO,hG⟩=>?_
 have l9:=cc.le_trans l8 h9
 refine⟨_,_,_,_,_,_,_,_,_,_,he,H++F8,hG.trans (cW fun z=>by simp only[dp,c8,eu];omega),fun b_x=>⟨by omega, ?_⟩⟩
 have hj0:=Int.tmod_nonneg (a:=which) (y.rules.length:Int) hw
 have hj1:=Int.tmod_lt_of_pos which (b:=(y.rules.length:Int)) (by omega)
 generalize hjd:Int.tmod which (y.rules.length:Int)=j at *
 have hjn:j.toNat≤y.rules.length:=by omega
 have hone:∀r:cr,∀u∈r.enc,u.oneCell'=true:=zD
 refine⟨⟨by omega,hj0,by omega⟩, ?_⟩
 rw[Hj]
 refine cE.mono (Fk (e:=84) (z:=10) (f:=cr.enc) (by':=104) (zv:=(⟨ik,none,0,[],0⟩:cr).v) (l:=y.rules.take j.toNat) (A:=[]) (k:=[]) (c:=0) (m:=0) (b:=none) (fun _=>rfl) (by decide) (by kernel_rfl) (by kernel_rfl) rfl (by decide) Acc.nil (fun r _=>hone r)
  (((hyo.mono l9 fun a ha=>by simp only[List.mem_cons,List.mem_append];simp only[ha,true_or,or_true]).1).take hjn) (.refl _) (by rw[List.length_take];simp only[List.length_nil];omega)) fun v I10 G h10 ⟨ra,rn,rc,A1,hv,hA1,hG⟩=>?_
 have l10:=cc.le_trans l9 h10
 rw[List.nil_append] at hA1
 refine⟨ra,rn,rc,hv,A1++(H++F8),hG.trans (cW fun z=>by simp only[dp,c8,eu];omega), ?_⟩
 have hwj:IntKind.wrap .i64 (j+1)=j+1:=du (by omega)
 rw[hwj]
 refine⟨⟨by omega,by omega,by omega⟩, ?_⟩
 have hj2:(j+1).toNat=j.toNat+1:=by omega
 have hS2:∀G:b8,(∀a,a∈F8→a∈G)→dy I10 G 10 cr.enc (if y.c=(j+1).toNat then y.a else Option.map (fun x=>x.add ((j+1).toNat*10)) y.a) ((y.rules.length:Int).toNat-(j+1).toNat) (y.rules.drop (j+1).toNat):=fun G hG=>by
  have hd:=((hyo.mono l10 hG).1).drop (k:=(j+1).toNat) (by omega)
  rw[show (y.rules.length:Int).toNat=y.rules.length by omega]
  split
  ·rename_i hc
   rw[List.drop_eq_nil_of_le (by omega)] at hd ⊢
   exact⟨hd.1,fun h=>absurd rfl h⟩
  ·exact hd
 refine cE.mono (Fk (e:=84) (z:=10) (f:=cr.enc) (by':=104) (zv:=(⟨ik,none,0,[],0⟩:cr).v) (l:=y.rules.drop (j+1).toNat) (A:=A1) (k:=y.rules.take j.toNat) (F:=(b_s,Obj.cells #[.string s.name,.slice s.ra s.regs.length s.rc,.slice s.sa s.slots.length s.sc,.slice s.ta s.cd.length s.tc] 39 (0,0))::(b_f,.cells #[.int .i64 s.p.types.e,.int .i64 s.p.types.pos,.bool s.p.types.of] 51 (0,0))::(b_c,.cells #[.int .i64 s.p.cost.1.1,.int .i64 s.p.cost.1.2] 57 (0,0))::(b_top,.cells #[.int .i64 s.p.top.1,.int .i64 s.p.top.2] 57 (0,0))::(b_x,Obj.cells #[.string x.name,.slice x.ra x.regs.length x.rc,.slice x.sa x.slots.length x.sc,.slice x.ta x.cd.length x.tc] 39 (0,0))::(H++F8))
  (fun _=>rfl) (by decide) (by kernel_rfl) (by kernel_rfl) rfl (by decide) hA1 (fun r _=>hone r) (hS2 _ fun a ha=>by simp only[List.mem_cons,List.mem_append];simp only[ha,true_or,or_true]) (cW fun z=>by simp only[dp,c8,eu];omega) (by rw[List.length_take,List.length_drop];omega)) fun v I11 G h11 ⟨ra2,rn2,rc2,A2,hv,hA2,hG⟩=>?_
 have l11:=cc.le_trans l10 h11
 rw[hj2,←List.eraseIdx_eq_take_drop_succ] at hA2
 refine⟨ra2,rn2,rc2,hv,A2++(H++F8),hG.trans (cW fun z=>by simp only[dp,c8,eu];omega), ?_⟩
 obtain⟨p1,p2,p3,p4⟩:x.name=s.name∧x.regs.map cJ.p=s.regs.map cJ.p∧x.slots=s.slots∧x.cd.map cj.p=s.cd.map cj.p:=⟨congrArg cu.name px,congrArg cu.regs px,congrArg cu.slots px,congrArg cu.cd px⟩
 have hxl:x.cd.length=s.cd.length:=by have:=congrArg List.length p4;simpa using this
 obtain⟨b,cs,R,hta,hHp,htk,hlen,hrest⟩:=hO.cd (fun h=>by rw[h] at hxl;simp at hxl;omega)
 have hkx:k.toNat<x.cd.length:=by omega
 obtain⟨yx,hyx⟩:∃yx,x.cd[k.toNat]? = some yx:=⟨_,List.getElem?_eq_getElem hkx⟩
 have hyp:yx.p=y.p:=by
  have h1:(x.cd.map cj.p)[k.toNat]? = some yx.p:=by rw[List.getElem?_map,hyx];rfl
  rw[p4,List.getElem?_map,hy] at h1
  exact (Option.some.inj h1).symm
 have hrn:rn2=(y.rules.eraseIdx j.toNat).length:=hA2.1
 subst hrn
 refine⟨⟨hk0,by omega⟩,_,hta,cs,65,A2++(R++F8), ?_⟩
 rw[vx]
 refine⟨(cW fun z=>by have q0:=oF hHp z;simp only[dp,c8,eu] at q0 ⊢;omega),rfl,by show k.toNat*3+1+1≤_;omega, ?_⟩
 have hset:=fun (G:b8) (hb:(b,Obj.cells (cp (k.toNat*3+1) [.slice ra2 (y.rules.eraseIdx j.toNat).length rc2] cs).toArray 65 (0,0))∈G) =>
  Gv (I:=I11) (G:=G) (y2:=⟨yx.name,ra2,rc2,y.rules.eraseIdx j.toNat,yx.pos⟩) hyx rfl rfl htk hlen hb
 generalize hbk:(b,Obj.cells (cp (k.toNat*3+1) [.slice ra2 (y.rules.eraseIdx j.toNat).length rc2] cs).toArray 65 (0,0))=bk at hset
 have hokx:∀G:b8,bk∈G→(∀a,a∈A2→a∈G)→(∀a,a∈R→a∈G)→(∀a,a∈F8→a∈G)→cB.Ok I11 G ⟨x.name,x.ra,x.rc,x.regs,x.sa,x.sc,x.slots,x.ta,x.tc,x.cd.set k.toNat ⟨yx.name,ra2,rc2,y.rules.eraseIdx j.toNat,yx.pos⟩⟩:=fun G g1 g2 g3 g4=>by
  obtain⟨q1,q2,q3,q4⟩:=hrest I11 G g3
  refine⟨q1,q2,q3,by show dy I11 G 3 cj.enc x.ta _ _;rw[hta];exact hset G g1,fun z hz=>?_⟩
  rcases tH hz with hz | rfl
  ·exact q4 z hz
  ·exact⟨Acc.yl (z:=10) (f:=cr.enc) (fun _=>rfl) hA2 I11 g2,fun r hr=>(hyo.mono l11 g4).2 r (pj hr)⟩
 have hpx:cB.p ⟨x.name,x.ra,x.rc,x.regs,x.sa,x.sc,x.slots,x.ta,x.tc,x.cd.set k.toNat ⟨yx.name,ra2,rc2,y.rules.eraseIdx j.toNat,yx.pos⟩⟩=s.p.put k.toNat (y.p.less j.toNat):=by
  show cu.mk x.name (x.regs.map cJ.p) x.slots ((x.cd.set k.toNat _).map cj.p)=⟨s.name,s.regs.map cJ.p,s.slots,(s.cd.map cj.p).set k.toNat (y.p.less j.toNat)⟩
  rw[p1,p2,p3,List.map_set,p4]
  congr 2
  show cq.mk yx.name ((y.rules.eraseIdx j.toNat).map cr.p) yx.pos=⟨y.name,(y.rules.map cr.p).eraseIdx j.toNat,y.pos⟩
  rw[ma,show yx.name=y.name from congrArg cq.name hyp,show yx.pos=y.pos from congrArg cq.pos hyp]
 have hyp2:s.p.cd[k.toNat]? = some y.p:=by
  show (s.cd.map cj.p)[k.toNat]? = _
  rw[List.getElem?_map,hy];rfl
 have hty:=BW (j:=j.toNat) hyp2 hte
 have hth:=DX (j:=j.toNat) hyp2 ls
 rw[←hpx] at hty hth
 have hvx:(Value.agg #[.string x.name,.slice x.ra x.regs.length x.rc,.slice x.sa x.slots.length x.sc,.slice x.ta x.cd.length x.tc])=cB.v ⟨x.name,x.ra,x.rc,x.regs,x.sa,x.sc,x.slots,x.ta,x.tc,x.cd.set k.toNat ⟨yx.name,ra2,rc2,y.rules.eraseIdx j.toNat,yx.pos⟩⟩:=by
  show _=Value.agg #[.string x.name,.slice x.ra x.regs.length x.rc,.slice x.sa x.slots.length x.sc,.slice x.ta (x.cd.set k.toNat _).length x.tc]
  rw[List.length_set]
 rw[hvx]
 refine (fS _ hth (hokx _ (by rw[←hbk];simp) fun a ha=>by simp only[List.mem_cons,List.mem_append];simp only[ha,true_or,or_true] fun a ha=>by simp only[List.mem_cons,List.mem_append];simp only[ha,true_or,or_true] fun a ha=>by simp only[List.mem_cons,List.mem_append];simp only[ha,true_or,or_true]) (hg.mono l11)).mono fun e I12 G h12 hq=>?_
 rcases hq with ⟨h,_⟩ | ⟨_,bm,he,hS3,hG⟩
 ·exact absurd hty h
 subst hG
 rw[hpx,DV] at hS3
 have hsl:(x.cd.set k.toNat (⟨yx.name,ra2,rc2,y.rules.eraseIdx j.toNat,yx.pos⟩:cj)).length=s.cd.length:=by rw[List.length_set,hxl]
 have hS3:Sl I12 2 wh (some ⟨bm,0,none⟩) s.cd.length (s.p.fR.set k.toNat (y.p.less j.toNat).cost):=by rw[←hsl];exact hS3
 refine⟨_,_,_,_,he,bk::(A2++(R++F8)),by rw[←hbk],false,rr (by kernel_rfl),fun h=>(by cases h),fun _=>⟨fun h=>?_,fun _=>?_⟩⟩
 ·exfalso
  have h:((x.cd.set k.toNat (⟨yx.name,ra2,rc2,y.rules.eraseIdx j.toNat,yx.pos⟩:cj)).length:Int)≠s.cd.length:=by simpa using h
  exact h (by rw[hsl])
 have l12:=cc.le_trans h9 (cc.le_trans h10 (cc.le_trans h11 h12))
 have hSl:Sl I12 2 wh (some ⟨bl,0,none⟩) s.cd.length s.p.fR:=hS.mono (cc.le_trans l47 (cc.le_trans h8 l12))
 refine⟨⟨_,by omega,by omega,rfl⟩,fun x1 i m I13 F13 h13 ⟨g0,g1,gm⟩=>⟨fun hlt=>⟨fun hik=>?_,fun hik=>?_⟩,fun hlt=>?_⟩⟩
 ·have hlt:=of_decide_eq_true hlt
  have hik:i≠k:=by simpa using hik
  obtain⟨ad,c,had,hc,r0,_,_⟩:=Ia (hS3.mono h13) g0 hlt
  obtain⟨ad',c',had',hc',r0',_,_⟩:=Ia (hSl.mono h13) g0 hlt
  rw[List.getElem?_set_ne (by omega),hc'] at hc
  cases hc
  refine⟨⟨g0,by rw[hsl];exact hlt⟩,ad,had,_,_,r0 _,⟨g0,hlt⟩,ad',had',_,_,r0' _,_,Aa _ _ _ _,fun h=>?_,fun _=>⟨(s.cd.length-(i+1)).toNat,by omega, ?_⟩⟩
  ·simp at h
  ·rw[du (n:=i+1) (by omega)]
   exact⟨by omega,by omega,rfl⟩
 ·have hlt:=of_decide_eq_true hlt
  refine⟨(s.cd.length-(i+1)).toNat,by omega, ?_⟩
  rw[du (n:=i+1) (by omega)]
  exact⟨by omega,by omega,rfl⟩
 ·obtain⟨ad,c,had,hc,_,r0,r1⟩:=Ia (hS3.mono h13) hk0 hk1
  obtain⟨ad',c',had',hc',_,r0',r1'⟩:=Ia (hSl.mono h13) hk0 hk1
  rw[hcy] at hc'
  cases hc'
  have hkc:k.toNat<s.p.fR.length:=by omega
  rw[List.getElem?_set_self hkc] at hc
  cases hc
  have hless:=DU hys (j:=j.toNat) (by show _<(y.rules.map cr.p).length;rw[List.length_map];omega)
  refine⟨⟨hk0,by rw[hsl];exact hk1⟩,ad,had,_,r0 _,⟨hk0,hk1⟩,ad',had',_,r0' _,fun _=>⟨⟨hk0,by rw[hsl];exact hk1⟩,ad,had,_,r1 _,⟨hk0,hk1⟩,ad',had',_,r1' _, ?_⟩,fun h=>?_⟩
  ·show Ending.returned (Value.bool (decide ((y.p.less j.toNat).fu≤y.p.fu)))=_
   rw[decide_eq_true hless.2]
  ·exact absurd hless.1 (of_decide_eq_false h)
end Go.Lx
