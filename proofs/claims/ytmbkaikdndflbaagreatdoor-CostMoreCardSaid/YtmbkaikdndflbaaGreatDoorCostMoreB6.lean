import Derived.Test.YtmbkaikdndflbaaGreatDoorCostMoreB5
set_option linter.unusedVariables false
set_option linter.unusedSimpArgs false
set_option linter.unusedSectionVars false
set_option maxRecDepth 100000
namespace Go.Lx
open Go.Vc
theorem Cw.rd{I:cc}{c m1 m2:Nat}{s:cu}(h:Cw I c s m1 m2)(G:b8):Rd I G ((⟨c,0,none⟩:Addr).add 1) [.map (some m1)]∧Rd I G ((⟨c,0,none⟩:Addr).add 2) [.map (some m2)]:=by
 obtain⟨m0,es,ck,hc,_,_⟩:=h
 rw[rv,rv]
 exact⟨Rd.rR hc _ 1 fun j hj=>by
  have:j=0:=by simpa using hj
  subst this;rfl,Rd.rR hc _ 2 fun j hj=>by
  have:j=0:=by simpa using hj
  subst this;rfl⟩
theorem xY{n p:Int}{b:Bool}(h:n≠0)(x:TF):dM ⟨n,p,b⟩ x=⟨n,p,b⟩:=jU _ h x
section
variable {s:cB} (hl:s.p.nH) {I:cc} {F:b8} (hok:s.Ok I F)
include hl hok
theorem we(hg:Gl I)(hf:∀r∈s.regs,r.init.px.formed=true){c m1 m2:Nat}(hS:Cw I c s.p m1 m2) :
  cg P 67 #[.pointer (some ⟨c,0,none⟩),s.v] I ((m1,.map #[] 0)::(m2,.map #[] 0)::F) (Jw s m1 m2 F):=by
 have lr:=hl.regs
 have ls:=hl.slots
 have lt:=hl.cd
 simp only[cB.p,List.length_map] at lr ls lt
 refine cg.keep (Q:=fun e I' G=>∃v o1 o2 H,e=.returned v∧gJ I' s.p.named v∧G.Perm ((m1,o1)::(m2,o2)::(H++F))∧(s.p.named.e=0→ym (lj s) s.slots.length o1∧ym (lY s) s.cd.length o2)) ?_
  fun e I' G w hl hs ⟨v,o1,o2,H,he,hv,hp,hk⟩=>⟨I',_,cc.le_refl _,(hs.perm hp).sub (((List.sublist_append_right H F).cons_cons _).cons_cons _),v,he,hv,o1,o2,rfl,hk⟩
 refine eL.vc
  (fun r x i m I0 F0 I' F'=>0≤i∧i≤s.regs.length∧m=(s.regs.length-i).toNat∧s.p.named=dM (gZ s.p (s.p.regs.drop i.toNat) i) (dM (g9 s.p s.slots 0) (ew s.p s.p.cd 0)) ∧
    ∃r0 o,r=some r0∧ym ((qU s).take i.toNat) i.toNat o∧F'.Perm ((r0,o)::(m1,.map #[] 0)::(m2,.map #[] 0)::F))
  (fun x i m I0 F0 I' F'=>0≤i∧i≤s.slots.length∧m=(s.slots.length-i).toNat∧s.p.named=dM (g9 s.p (s.slots.drop i.toNat) i) (ew s.p s.p.cd 0) ∧
    ∃H o,ym ((lj s).take i.toNat) i.toNat o∧F'.Perm ((m1,o)::(m2,.map #[] 0)::(H++F)))
  (fun x i m I0 F0 I' F'=>0≤i∧i≤s.cd.length∧m=(s.cd.length-i).toNat∧s.p.named=ew s.p (s.p.cd.drop i.toNat) i ∧
    ∃H o1 o,ym (lj s) s.slots.length o1∧ym ((lY s).take i.toNat) i.toNat o∧F'.Perm ((m1,o1)::(m2,o)::(H++F))) ?_
 unfold eL.V
 intro b_s
 refine cE.mono jP fun v I1 G h1 ⟨r,hv,hI,hG⟩=>?_
 subst hI hG
 refine⟨some r,hv,(r,.map #[] 0)::(m1,.map #[] 0)::(m2,.map #[] 0)::F,.swap .., ?_⟩
 refine⟨⟨_,by omega,by omega,rfl,rfl,r,_,rfl,ym.nil,.refl _⟩,fun x i m I2 F2 l2 ⟨g0,g1,gm,ge,r',o,hr,hcn,hp⟩=>?_⟩
 obtain rfl:r=r':=by simpa using hr
 refine⟨fun hlt=>?_,fun hlt=>⟨⟨_,by omega,by omega,rfl, ?_,[_],_,ym.nil,hp.trans dh.symm⟩,fun x2 i2 m4 I9 F9 l9 ⟨k0,k1,km,ke,H,o2,kcn,kp⟩=>⟨fun hlt2=>?_,fun hlt2=>⟨⟨_,by omega,by omega,rfl, ?_,H,o2,.map #[] 0, ?_,ym.nil,kp⟩,
  fun x4 i3 m9 I14 F14 l14 ⟨q0,q1,qm,qe,H',o1,o3,qs,qcn,qp⟩=>⟨fun hlt3=>?_,fun hlt3=>?_⟩⟩⟩⟩⟩
 ·have hlt:=of_decide_eq_true hlt
  have hok2:∀{J:cc} (G:b8),cc.le I1 J→(∀y,y∈F→y∈G)→s.Ok J G:=fun G hJ h=>hok.mono hJ h
  have hsub2:∀y,y∈F→y∈F2:=fun y hy=>hp.mem_iff.2 (.tail _ (.tail _ (.tail _ hy)))
  obtain⟨ad,g,had,hg1,hrd,hgm⟩:=dy.j3 (hok2 ((b_s,Obj.cells #[.string s.name,.slice s.ra s.regs.length s.rc,.slice s.sa s.slots.length s.sc,.slice s.ta s.cd.length s.tc] 39 (0,0))::F2) l2 fun y hy=>.tail _ (hsub2 y hy)).regs g0 hlt
  have hgl:(qU s)[i.toNat]? = some g.name:=by unfold qU;rw[List.getElem?_map,hg1];rfl
  have hgp:s.p.regs[i.toNat]? = some g.p:=by
   show (s.regs.map cJ.p)[i.toNat]? = _
   rw[List.getElem?_map,hg1];rfl
  have hdr:s.p.regs.drop i.toNat=g.p::s.p.regs.drop (i.toNat+1):=by
   obtain⟨h1,h2⟩:=List.getElem?_eq_some_iff.1 hgp
   rw[List.drop_eq_getElem_cons h1,h2]
  rw[hdr,gZ] at ge
  refine⟨⟨g0,hlt⟩,ad,had,_,_,_,_,_,_,_,_,_,_,_,_,_,hrd,fun b_r=>?_⟩
  have hm0:∀(x y:Nat×Obj),(r,o)∈x::y::F2:=fun x y=>.tail _ (.tail _ (hp.mem_iff.2 (.head _)))
  refine cE.mono (xX hcn hgl (by omega) (hm0 _ _)) fun v1 I3 G hl3 ⟨r1,hv1,hI,hG,hu⟩=>⟨r1,hv1,F2,by rw[hG], ?_⟩
  subst hI hG
  refine lF.mono (hu _ (((hp.cons _).cons _).trans dh)) fun I4 G hl4 ⟨hI,o',hcn',hG,hlk⟩=>?_
  subst hI hG
  refine⟨(r,o')::(m1,.map #[] 0)::(m2,.map #[] 0)::F,dh.symm, ?_⟩
  refine cE.mono (hlk _ (.tail _ (.tail _ (.head _)))) fun v2 I5 G hl5 ⟨r2,hv2,hI,hG,n1,n2,n3⟩=>?_
  subst hI hG
  have hix:=(xV g.name (qU s) i.toNat 0 hgl).1
  rw[←Gg,Int.zero_add,Int.toNat_of_nonneg g0] at hix
  have hgI:Gl I5:=hg.mono l2
  refine⟨r2,hv2,(r,o')::(m1,.map #[] 0)::(m2,.map #[] 0)::F,.refl _,fun h2=>?_,fun h2=>?_⟩
  ·have h2:=of_decide_eq_true h2
   rw[if_pos (show s.p.eX g.p.name<i from hix.2 (n3.1 h2)),xY (n:=150) (by decide)] at ge
   refine cg.iY (fQ hgI g.pos 150 (by decide) _) fun v I6 l6 hv=>⟨v,rfl,_,.refl _,v,_,_,[_],rfl, ?_,dh.symm,fun h=>?_⟩
   ·rw[ge];exact hv
   ·rw[ge] at h;exact absurd h (show (150:Int)≠0 by decide)
  ·have h2:=of_decide_eq_false h2
   rw[if_neg (show ¬s.p.eX g.p.name<i from fun h=>h2 (n3.2 (hix.1 h)))] at ge
   refine cg.iY (Cx g.init (hf g hgm) I5 _ (hS.mono l2) (cH.mono (hok.eX _ hgm) l2 fun y hy=>.tail _ (.tail _ (.tail _ (.tail _ (.tail _ hy)))))) fun v I7 l7 ⟨w,hv,hw⟩=>⟨_,_,congrArg Ending.returned hv,_,.refl _,fun ht=>?_,fun ht=>?_⟩
   ·have ht:(typed s.p g.init.px).1≠g.cx:=by simpa using ht
    rw[if_pos (show (typed s.p g.p.init).1≠g.p.cx from ht),xY (n:=152) (by decide)] at ge
    refine cg.iY (fQ (hgI.mono l7) g.pos 152 (by decide) _) fun v I8 l8 hv=>⟨v,rfl,_,.refl _,v,_,_,[_],rfl, ?_,dh.symm,fun h=>?_⟩
    ·rw[ge];exact hv
    ·rw[ge] at h;exact absurd h (show (152:Int)≠0 by decide)
   ·have ht:(typed s.p g.init.px).1=g.cx:=by simpa using ht
    rw[if_neg (show ¬(typed s.p g.p.init).1≠g.p.cx from fun h=>h ht)] at ge
    refine⟨(s.regs.length-(i+1)).toNat,by omega, ?_⟩
    rw[du (n:=i+1) (by omega)]
    refine⟨by omega,by omega,rfl, ?_,r,o',rfl, ?_,.refl _⟩
    ·rw[ge,show (i+1).toNat=i.toNat+1 by omega]
    ·rw[show (i+1).toNat=i.toNat+1 by omega];exact hcn'
 ·have hlt:=of_decide_eq_false hlt
  rw[ge,List.drop_eq_nil_of_le (by show (s.regs.map cJ.p).length≤_;rw[List.length_map];omega)];rfl
 ·have hlt2:=of_decide_eq_true hlt2
  have l29:=cc.le_trans l2 l9
  have hsub2:∀y,y∈F→y∈F9:=fun y hy=>kp.mem_iff.2 (.tail _ (.tail _ (List.mem_append_right _ hy)))
  obtain⟨ad,g,had,hg1,hrd,hgm⟩:=dy.j3 (hok.mono (H:=(b_s,Obj.cells #[.string s.name,.slice s.ra s.regs.length s.rc,.slice s.sa s.slots.length s.sc,.slice s.ta s.cd.length s.tc] 39 (0,0))::F9) l29 fun y hy=>.tail _ (hsub2 y hy)).slots k0 hlt2
  have hgl:(lj s)[i2.toNat]? = some g.name:=by unfold lj;rw[List.getElem?_map,hg1];rfl
  have hdr:s.slots.drop i2.toNat=g::s.slots.drop (i2.toNat+1):=by
   obtain⟨h1,h2⟩:=List.getElem?_eq_some_iff.1 hg1
   rw[List.drop_eq_getElem_cons h1,h2]
  rw[hdr,g9] at ke
  refine⟨⟨k0,hlt2⟩,ad,had,_,_,hrd,fun b_x=>?_⟩
  have hSJ:=hS.mono l29
  refine⟨_,rfl,some m1,(hSJ.rd _).1, ?_⟩
  have hm0:∀(x y:Nat×Obj),(m1,o2)∈x::y::F9:=fun x y=>.tail _ (.tail _ (kp.mem_iff.2 (.head _)))
  refine cE.mono (xX kcn hgl (by omega) (hm0 _ _)) fun v1 I3 G hl3 ⟨r1,hv1,hI,hG,hu⟩=>⟨r1,hv1,F9,by rw[hG], ?_⟩
  subst hI hG
  refine lF.mono (hu _ (((kp.cons _).cons _).trans dh)) fun I4 G hl4 ⟨hI,o',hcn',hG,hlk⟩=>?_
  subst hI hG
  refine⟨(m1,o')::(m2,.map #[] 0)::(H++F),dh.symm,_,rfl,some m1,(hSJ.rd _).1, ?_⟩
  refine cE.mono (hlk _ (.tail _ (.tail _ (.head _)))) fun v2 I5 G hl5 ⟨r2,hv2,hI,hG,n1,n2,n3⟩=>?_
  subst hI hG
  have hix:=(xV g.name (lj s) i2.toNat 0 hgl).1
  rw[show iV g.name (lj s) 0=s.p.slot g.name from rfl,Int.zero_add,Int.toNat_of_nonneg k0] at hix
  refine⟨r2,hv2,(m1,o')::(m2,.map #[] 0)::(H++F),.refl _,fun h2=>?_,fun h2=>⟨(s.slots.length-(i2+1)).toNat,by omega, ?_⟩⟩
  ·have h2:=of_decide_eq_true h2
   rw[if_pos (hix.2 (n3.1 h2)),xY (n:=150) (by decide)] at ke
   refine cg.iY (fQ (hg.mono l29) g.pos 150 (by decide) _) fun v I6 l6 hv=>⟨v,rfl,_,.refl _,v,_,_,H,rfl, ?_,.refl _,fun h=>?_⟩
   ·rw[ke];exact hv
   ·rw[ke] at h;exact absurd h (show (150:Int)≠0 by decide)
  ·have h2:=of_decide_eq_false h2
   rw[if_neg (fun h=>h2 (n3.2 (hix.1 h)))] at ke
   rw[du (n:=i2+1) (by omega)]
   refine⟨by omega,by omega,rfl, ?_,H,o', ?_,.refl _⟩
   ·rw[ke,show (i2+1).toNat=i2.toNat+1 by omega]
   ·rw[show (i2+1).toNat=i2.toNat+1 by omega];exact hcn'
 ·have hlt2:=of_decide_eq_false hlt2
  rw[ke,List.drop_eq_nil_of_le (by omega)];rfl
 ·have hlt2:=of_decide_eq_false hlt2
  rw[List.take_of_length_le (by unfold lj;rw[List.length_map];omega),show i2.toNat=s.slots.length by omega] at kcn
  exact kcn
 ·have hlt3:=of_decide_eq_true hlt3
  have l29:=cc.le_trans l2 (cc.le_trans l9 l14)
  have hsub2:∀y,y∈F→y∈F14:=fun y hy=>qp.mem_iff.2 (.tail _ (.tail _ (List.mem_append_right _ hy)))
  obtain⟨ad,g,had,hg1,hrd,hgm⟩:=dy.j3 (hok.mono (H:=(b_s,Obj.cells #[.string s.name,.slice s.ra s.regs.length s.rc,.slice s.sa s.slots.length s.sc,.slice s.ta s.cd.length s.tc] 39 (0,0))::F14) l29 fun y hy=>.tail _ (hsub2 y hy)).cd q0 hlt3
  have hgl:(lY s)[i3.toNat]? = some g.name:=by unfold lY;rw[List.getElem?_map,hg1];rfl
  have hgp:s.p.cd[i3.toNat]? = some g.p:=by
   show (s.cd.map cj.p)[i3.toNat]? = _
   rw[List.getElem?_map,hg1];rfl
  have hdr:s.p.cd.drop i3.toNat=g.p::s.p.cd.drop (i3.toNat+1):=by
   obtain⟨h1,h2⟩:=List.getElem?_eq_some_iff.1 hgp
   rw[List.drop_eq_getElem_cons h1,h2]
  rw[hdr,ew] at qe
  refine⟨⟨q0,hlt3⟩,ad,had,_,_,_,_,_,hrd,fun b_x=>?_⟩
  have hSJ:=hS.mono l29
  refine⟨_,rfl,some m2,(hSJ.rd _).2, ?_⟩
  have hm0:∀(x y:Nat×Obj),(m2,o3)∈x::y::F14:=fun x y=>.tail _ (.tail _ (qp.mem_iff.2 (.tail _ (.head _))))
  refine cE.mono (xX qcn hgl (by omega) (hm0 _ _)) fun v1 I3 G hl3 ⟨r1,hv1,hI,hG,hu⟩=>⟨r1,hv1,F14,by rw[hG], ?_⟩
  subst hI hG
  refine lF.mono (hu _ (((qp.cons _).cons _).trans th)) fun I4 G hl4 ⟨hI,o',hcn',hG,hlk⟩=>?_
  subst hI hG
  refine⟨(m1,o1)::(m2,o')::(H'++F),th.symm,_,rfl,some m2,(hSJ.rd _).2, ?_⟩
  refine cE.mono (hlk _ (.tail _ (.tail _ (.tail _ (.head _))))) fun v2 I5 G hl5 ⟨r2,hv2,hI,hG,n1,n2,n3⟩=>?_
  subst hI hG
  have hix:=(xV g.name (lY s) i3.toNat 0 hgl).1
  rw[←zT,Int.zero_add,Int.toNat_of_nonneg q0] at hix
  refine⟨r2,hv2,(m1,o1)::(m2,o')::(H'++F),.refl _,fun h2=>?_,fun h2=>⟨(s.cd.length-(i3+1)).toNat,by omega, ?_⟩⟩
  ·have h2:=of_decide_eq_true h2
   rw[if_pos (show s.p.room g.p.name<i3 from hix.2 (n3.1 h2))] at qe
   refine cg.iY (fQ (hg.mono l29) g.pos 150 (by decide) _) fun v I6 l6 hv=>⟨v,rfl,_,.refl _,v,_,_,H',rfl, ?_,.refl _,fun h=>?_⟩
   ·rw[qe];exact hv
   ·rw[qe] at h;exact absurd h (show (150:Int)≠0 by decide)
  ·have h2:=of_decide_eq_false h2
   rw[if_neg (show ¬s.p.room g.p.name<i3 from fun h=>h2 (n3.2 (hix.1 h)))] at qe
   rw[du (n:=i3+1) (by omega)]
   refine⟨by omega,by omega,rfl, ?_,H',o1,o',qs, ?_,.refl _⟩
   ·rw[qe,show (i3+1).toNat=i3.toNat+1 by omega]
   ·rw[show (i3+1).toNat=i3.toNat+1 by omega];exact hcn'
 ·have hlt3:=of_decide_eq_false hlt3
  rw[List.drop_eq_nil_of_le (by show (s.cd.map cj.p).length≤_;rw[List.length_map];omega)] at qe
  rw[List.take_of_length_le (by unfold lY;rw[List.length_map];omega),show i3.toNat=s.cd.length by omega] at qcn
  refine⟨_,o1,o3,H',rfl, ?_,qp,fun _=>⟨qs,qcn⟩⟩
  rw[qe];exact gJ.ok
end
end Go.Lx
namespace Go.Lx
open Go.Vc
def zU(f:TF)(v:Value)(J:cc):Prop:=gJ J f v
mutual
theorem zV(s:cu):∀x:Px,(typed s x).2.e≠0→(typed s x).2.of=true
 | .mk k o t n f nm l q,h=>by
   rw[typed] at h ⊢
   split
   ·rename_i h1;exact xb s l h1
   ·rename_i h1
    rw[if_neg h1] at h
    unfold eb at h ⊢
    split
    ·rfl
    ·rename_i h2
     rw[if_neg h2] at h
     split
     ·rename_i h3;rw[if_pos h3] at h;exact absurd rfl h
     ·rfl
theorem xb(s:cu):∀l:List Px,(ep s l).2.e≠0→(ep s l).2.of=true
 | [],h=>by rw[ep] at h;exact absurd rfl h
 | x::r,h=>by
   rw[ep] at h ⊢
   split
   ·rename_i h1;exact zV s x h1
   ·rename_i h1;rw[if_neg h1] at h;exact xb s r h
end
theorem DG{s:cu}{x:Px}(h:x.db=0):typeOf s x=typed s x:=by
 unfold typeOf
 rw[if_neg (fun h'=>h' h)]
theorem vm{s:cB}{c m1 m2:Nat}(t:Nd)(hc:t.px.db=0)(want:Int){I:cc}{F:b8}(hg:Gl I)(hS:Cw I c s.p m1 m2)(ht:cH I F t) :
  cg P 108 #[.pointer (some ⟨c,0,none⟩),t.v,.int .u8 want] I F (kC (zU (eJ s.p t.px want)) F):=by
 refine gp.vc ?_
 unfold gp.V
 unfold eJ
 have hf:=jf hc
 rw[DG hc]
 intro b_n
 refine cg.iY (Cx t hf I _ hS (ht.mono (cc.le_refl I) fun y hy=>.tail _ hy)) fun v I1 l1 ⟨w,hv,hw⟩=>⟨_,_,congrArg Ending.returned hv,F,.refl _,_,hw.neq (by kernel_rfl),fun hq=>?_,fun hq=>?_⟩
 ·have he:(typed s.p t.px).2.e≠0:=by simpa using hq
  have hof:=zV s.p t.px he
  rw[if_pos he]
  have e:(⟨(typed s.p t.px).2.e,(typed s.p t.px).2.pos,true⟩:TF)=(typed s.p t.px).2:=by rw[←hof]
  refine cg.iY (BI (hg.mono l1) 0 (typed s.p t.px).2.pos (typed s.p t.px).2.e he (hw.2 he) _) fun v2 I2 l2 hv2=>⟨v2,rfl,F,.refl _,v2,rfl, ?_,rfl⟩
  rw[e] at hv2;exact hv2
 ·have he:(typed s.p t.px).2.e=0:=by simpa using hq
  rw[if_neg (fun h=>h he)]
  refine⟨fun hn=>?_,fun hn=>?_⟩
  ·have hn:(typed s.p t.px).1≠want:=by simpa using hn
   rw[if_pos hn,Nd.uG]
   exact cg.iY (fQ (hg.mono l1) t.pos 152 (by decide) _) fun v2 I2 l2 hv2=>⟨v2,rfl,F,.refl _,v2,rfl,hv2,rfl⟩
  ·have hn:(typed s.p t.px).1=want:=by simpa using hn
   rw[if_neg (fun h=>h hn)]
   exact⟨_,rfl,gJ.ok,rfl⟩
theorem vn{α:Type}{f:α→TF}:∀{l:List α} {i:Nat} {x:α},(∀y∈l.take i,(f y).e=0)→l[i]? = some x→(f x).e≠0→cR f l=f x
 | y::r,0,x,_,hx,he=>by
   simp only[List.getElem?_cons_zero,Option.some.injEq] at hx
   subst hx;rw[cR,if_pos he]
 | y::r,i+1,x,h,hx,he=>by
   rw[List.take_succ_cons] at h
   rw[cR,if_neg (by simpa using h y (.head _))]
   exact vn (fun k hk=>h k (.tail _ hk)) (by simpa using hx) he
theorem vo{α:Type}{f:α→TF}:∀{l:List α},(∀y∈l,(f y).e=0)→cR f l=sk
 | [],_=>rfl
 | y::r,h=>by rw[cR,if_neg (by simpa using h y (.head _))];exact vo fun k hk=>h k (.tail _ hk)
theorem vq{α β:Type}{f:β→TF}{g:α→β}:∀l:List α,cR f (l.map g)=cR (fun x=>f (g x)) l
 | []=>rfl
 | x::r=>by rw[List.map_cons,cR,cR,vq r]
def CD(p:Nd×Int):List Value:=[.int .u8 p.1.kind,.int .u8 p.1.oper,.int .u8 p.1.cx,.int .i64 p.1.n,.int .u8 p.1.field,.string p.1.name,.slice p.1.a p.1.kids.length p.1.c,.int .i64 p.1.pos,.int .u8 p.2]
theorem Gh(p:Nd×Int):∀u∈CD p,u.oneCell'=true:=by
 intro u hu
 simp only[CD,List.mem_cons,List.not_mem_nil,or_false] at hu
 rcases hu with h | h | h | h | h | h | h | h | h<;>(subst h;rfl)
theorem vr{a:Option Addr}{n c b1 m:Nat}{l:List (Nd×Int)}{A F R:b8}{I:cc}(hA:Acc 9 CD 210 a n c l A)(hl:l.length≤100)(xs:List (Nd×Int))(hx:xs≠[])(hx2:xs.length≤2)(hm:m=xs.length)
  (hb:I b1=some (.cells (xs.flatMap CD).toArray 210 (0,0))) (hF:F.Perm (A++R)) :
  cE P (Builtin.append_ #[208,208] 208 #[.slice a n c,.slice (some ⟨b1,0,none⟩) m m]) I F fun v I' G=>∃a' n' c' A',v=.slice a' n' c'∧Acc 9 CD 210 a' n' c' (l++xs) A'∧G.Perm (A'++R):=by
 refine cE.perm (cE.mono (eF (f:=CD) (z:=9) (zv:=.agg (CD (ik,0)).toArray) (fun _=>rfl) (by':=80) (by kernel_rfl) (by kernel_rfl) rfl (by decide) hA (xs:=xs) (fun y _=>Gh y) hx hm ?_ ?_ (F:=R)) fun v I' G _ ⟨a',n',c',A',h1,h2,h3,_⟩=>⟨a',n',c',A',h1,h2,by rw[h3]⟩) hF
 ·exact⟨rfl,_,_,_,.inl hb,fun j hj=>by simp⟩
 ·have:(l.length+xs.length)*80≤102*80:=Nat.mul_le_mul (by omega) (Nat.le_refl _)
  omega
def ky(d:dG)(v:Int):List (Nd×Int) :=
 if d.kind=1 then [(d.side,6),(d.qty,2)]++(if d.order≠2 then [(d.price,3)] else []) else if d.kind=2 then [(d.qty,2),(d.price,3)] else if d.kind=4 then [(d.value,v)] else []
theorem BL(d:dG)(v:Int):(ky d v).length≤3:=by
 unfold ky
 split
 ·split<;>simp
 ·split
  ·simp
  ·split<;>simp
theorem DH(s:cu)(d:dG):IB s d.p=(ky d (s.iz (Fu s d.p))).map fun p=>eJ s p.1.px p.2:=by
 unfold IB ky
 show (if d.kind=1 then _ else _)++((if d.kind=1∨d.kind=2 then _ else _)++((if d.kind=1∧d.order≠2∨d.kind=2 then _ else _)++(if d.kind=4 then _ else _)))=_
 by_cases h1:d.kind=1
 ·rw[if_pos h1,if_pos (.inl h1),if_neg (show ¬d.kind=4 by omega),if_pos h1]
  by_cases ho:d.order≠2
  ·rw[if_pos (.inl ⟨h1,ho⟩),if_pos ho];rfl
  ·rw[if_neg (by omega),if_neg ho];rfl
 ·rw[if_neg h1,if_neg h1]
  by_cases h2:d.kind=2
  ·rw[if_pos (.inr h2),if_pos (.inr h2),if_neg (by omega),if_pos h2];rfl
  ·rw[if_neg (by omega),if_neg (by omega),if_neg h2]
   by_cases h4:d.kind=4
   ·rw[if_pos h4,if_pos h4];rfl
   ·rw[if_neg h4,if_neg h4];rfl
def Gi(I:cc)(c:Nat)(s:cB):Prop:=∃m1 m2 o1 o2,Cw I c s.p m1 m2∧I m1=some o1∧ym (lj s) s.slots.length o1∧I m2=some o2∧ym (lY s) s.cd.length o2
theorem Gi.mono{I J:cc}{c:Nat}{s:cB}(h:Gi I c s)(hl:cc.le I J):Gi J c s:=let ⟨m1,m2,o1,o2,h1,h2,h3,h4,h5⟩:=h;⟨m1,m2,o1,o2,h1.mono hl,hl.at h2,h3,hl.at h4,h5⟩
theorem tF{l:List ByteArray}{k:Nat}{o:Obj}{m:Nat}{I:cc}{G:b8}(hc:ym l k o)(hm:I m=some o)(nm:ByteArray):cE P (Instr.lookup 162 (.map (some m)) (.string nm) false) I G fun v I' G'=>∃r:Int,v=.int .i64 r∧I'=I∧G'=G∧decide (r>0)=iy l nm:=by
 obtain⟨es,ck,g,rfl,hg,hmet⟩:=hc
 refine cE.mono (qg FX zQ kN str_inj EX hg (.inl hm) nm) fun v I1 G1 hl1 ⟨hv,hI,hG⟩=>⟨(g nm).getD 0, ?_,hI,hG, ?_⟩
 ·rw[hv];cases g nm<;>rfl
 ·cases hs:iy l nm with
  | true=>obtain⟨x,h1,h2,_⟩:=(hmet nm).1 hs;rw[h1];exact decide_eq_true (by show x>0;omega)
  | false=>rw[(hmet nm).2 hs];rfl
def dG.Fit(d:dG):Prop:=∀v,∀p∈ky d v,p.1.px.db=0
theorem zW{d:dG}(h:d.p.check=0):d.Fit:=by
 unfold dS.check at h
 obtain⟨_,h⟩:=cz h
 obtain⟨_,h⟩:=cz h
 obtain⟨_,h⟩:=cz h
 obtain⟨h1,h⟩:=cz h
 obtain⟨h2,h⟩:=cz h
 obtain⟨h3,h4⟩:=cz h
 have e1:d.p.kind=d.kind:=rfl
 have e2:d.p.order=d.order:=rfl
 rw[e1] at h1 h2 h3 h4
 rw[e2] at h3
 have part:∀{b:Bool} {x:Px},cN b x=0→b=true→x.db=0:=fun {b} {x} h hb=>by unfold cN at h;rw[if_pos hb] at h;exact h
 intro v p hp
 unfold ky at hp
 split at hp
 ·rename_i k1
  rcases List.mem_append.1 hp with hp | hp
  ·simp only[List.mem_cons,List.not_mem_nil,or_false] at hp
   rcases hp with rfl | rfl
   ·exact part h1 (decide_eq_true k1)
   ·exact part h2 (decide_eq_true (.inl k1))
  ·split at hp
   ·rename_i ho
    rw[List.mem_singleton] at hp;subst hp
    exact part h3 (decide_eq_true (.inl ⟨k1,ho⟩))
   ·simp at hp
 ·split at hp
  ·rename_i k2
   simp only[List.mem_cons,List.not_mem_nil,or_false] at hp
   rcases hp with rfl | rfl
   ·exact part h2 (decide_eq_true (.inr k2))
   ·exact part h3 (decide_eq_true (.inr k2))
  ·split at hp
   ·rename_i k4
    rw[List.mem_singleton] at hp;subst hp
    exact part h4 (decide_eq_true k4)
   ·simp at hp
theorem DI{d:dG}{I:cc}{G:b8}(h:d.Ok I G){v:Int}:∀p∈ky d v,cH I G p.1:=by
 obtain⟨o1,o2,o3,o4⟩:=h
 intro p hp
 unfold ky at hp
 split at hp
 ·rcases List.mem_append.1 hp with hp | hp
  ·simp only[List.mem_cons,List.not_mem_nil,or_false] at hp
   rcases hp with rfl | rfl<;>assumption
  ·split at hp
   ·rw[List.mem_singleton] at hp;subst hp;assumption
   ·simp at hp
 ·split at hp
  ·simp only[List.mem_cons,List.not_mem_nil,or_false] at hp
   rcases hp with rfl | rfl<;>assumption
  ·split at hp
   ·rw[List.mem_singleton] at hp;subst hp;assumption
   ·simp at hp
theorem CE{I:cc}{b:Nat}{p q:Nd×Int}(h:I b=some (.cells (CD p++CD q).toArray 210 (0,0))):I b=some (.cells ([p,q].flatMap CD).toArray 210 (0,0)):=by
 rw[h];simp
section
variable {s:cB} {I:cc} {F:b8} {c:Nat}
theorem vu(nm:ByteArray):iy (lj s) nm = !decide (s.p.slot nm<0):=by
 have h:=xW nm (lj s) 0 (Int.le_refl 0)
 have e:s.p.slot nm=iV nm (lj s) 0:=rfl
 rw[e]
 cases hb:iy (lj s) nm with
 | true=>rw[hb] at h;simp at h;simp[h]
 | false=>rw[hb] at h;simp at h;simp[h]
theorem E5(nm:ByteArray):iy (lY s) nm = !decide (s.p.room nm<0):=by
 have h:=xW nm (lY s) 0 (Int.le_refl 0)
 rw[zT]
 cases hb:iy (lY s) nm with
 | true=>rw[hb] at h;simp at h;simp[h]
 | false=>rw[hb] at h;simp at h;simp[h]
set_option maxHeartbeats 1000000 in
theorem E6(hg:Gl I)(hA:Gi I c s)(d:dG)(hdo:d.Ok I F)(hfit:d.Fit):cg P 109 #[.pointer (some ⟨c,0,none⟩),d.v] I F (kC (zU (zE s.p d.p)) F):=by
 refine cg.still ?_
 obtain⟨i0,hi0⟩:∃i0,i0=Fu s.p d.p:=⟨_,rfl⟩
 have hI:Fu s.p d.p=if d.kind=1 then (if d.name.toList=[] then 0 else s.p.slot d.name) else if d.kind=2∨d.kind=3 then s.p.slot d.name else if d.kind=4 then s.p.eX d.name else if d.kind=5 then s.p.room d.name else 0:=rfl
 obtain⟨ps,hps⟩:∃ps,ps=ky d (s.p.iz i0):=⟨_,rfl⟩
 have hpl:ps.length≤3:=by rw[hps];exact BL _ _
 have hpd:ky d (s.p.iz i0)=if d.kind=1 then [(d.side,6),(d.qty,2)]++(if d.order≠2 then [(d.price,3)] else []) else if d.kind=2 then [(d.qty,2),(d.price,3)] else if d.kind=4 then [(d.value,s.p.iz i0)] else []:=rfl
 have hdT:zE s.p d.p=if i0<0 then ⟨151,d.pos,false⟩ else cR (fun p:Nd×Int=>eJ s.p p.1.px p.2) ps:=by
  unfold zE
  rw[DH,←hi0,←hps,vq];rfl
 refine iF.vc
  (fun v is a n k I0 F0 I' F'=>is = !decide (i0<0)∧∃A,F'.Perm (A++F)∧(is=true→Acc 9 CD 210 a n k ps A))
  (fun a n k I0 F0 I' F'=>∃A,F'.Perm (A++F)∧Acc 9 CD 210 a n k ps A)
  (fun a n k x i m I0 F0 I' F'=>0≤i∧i≤n∧m=(n-i).toNat∧¬i0<0∧∃A,F'.Perm (A++F)∧Acc 9 CD 210 a n k ps A∧∀p∈ps.take i.toNat,(eJ s.p p.1.px p.2).e=0) ?_
 unfold iF.V
 intro b_d
 have hsc:∀{J:cc},cc.le I J→Gi J c s:=fun h=>hA.mono h
 refine⟨⟨fun h1=>?_,fun h1=>⟨fun h2=>?_,fun h2=>⟨fun h3=>?_,fun h3=>⟨fun h4=>?_,fun h4=>⟨fun h5=>?_,fun h5=>?_⟩⟩⟩⟩⟩,fun v is a n k I15 F11 l15 ⟨his,A,hF11,hAcc⟩=>⟨fun hq=>?_,fun hq=>?_⟩⟩
 ·have h1:d.kind=1:=by simpa using h1
  rw[if_pos h1] at hI hpd
  intro b I1 l1 hb
  have happ:=vr (R:=(b_d,Obj.cells #[.int .u8 d.kind,.int .u8 d.order,.string d.name,.int .u8 d.side.kind,.int .u8 d.side.oper,.int .u8 d.side.cx,.int .i64 d.side.n,.int .u8 d.side.field,.string d.side.name,.slice d.side.a d.side.kids.length d.side.c,.int .i64 d.side.pos,.int .u8 d.qty.kind,.int .u8 d.qty.oper,.int .u8 d.qty.cx,.int .i64 d.qty.n,.int .u8 d.qty.field,.string d.qty.name,.slice d.qty.a d.qty.kids.length d.qty.c,.int .i64 d.qty.pos,.int .u8 d.price.kind,.int .u8 d.price.oper,.int .u8 d.price.cx,.int .i64 d.price.n,.int .u8 d.price.field,.string d.price.name,.slice d.price.a d.price.kids.length d.price.c,.int .i64 d.price.pos,.int .u8 d.value.kind,.int .u8 d.value.oper,.int .u8 d.value.cx,.int .i64 d.value.n,.int .u8 d.value.field,.string d.value.name,.slice d.value.a d.value.kids.length d.value.c,.int .i64 d.value.pos,.int .i64 d.pos] 99 (0,0))::F) (A:=[]) (m:=2) Acc.nil (by simp) [(d.side,6),(d.qty,2)] (by simp) (by simp) rfl (CE hb) (.refl _)
  refine cE.mono happ fun v I2 G l2 ⟨a',n',c',A',hv,hA',hG⟩=>⟨a',n',c',hv,A'++F,hG.trans List.perm_middle,⟨fun ho=>?_,fun ho=>?_⟩,fun pa pn pc I5 F3 l5 ⟨A3,hF3,hA3⟩=>⟨fun hn=>?_,fun hn=>?_⟩⟩
  ·have ho:d.order≠2:=by simpa using ho
   rw[if_pos ho] at hpd
   intro b1 I3 l3 hb1
   have happ:=vr (R:=(b_d,Obj.cells #[.int .u8 d.kind,.int .u8 d.order,.string d.name,.int .u8 d.side.kind,.int .u8 d.side.oper,.int .u8 d.side.cx,.int .i64 d.side.n,.int .u8 d.side.field,.string d.side.name,.slice d.side.a d.side.kids.length d.side.c,.int .i64 d.side.pos,.int .u8 d.qty.kind,.int .u8 d.qty.oper,.int .u8 d.qty.cx,.int .i64 d.qty.n,.int .u8 d.qty.field,.string d.qty.name,.slice d.qty.a d.qty.kids.length d.qty.c,.int .i64 d.qty.pos,.int .u8 d.price.kind,.int .u8 d.price.oper,.int .u8 d.price.cx,.int .i64 d.price.n,.int .u8 d.price.field,.string d.price.name,.slice d.price.a d.price.kids.length d.price.c,.int .i64 d.price.pos,.int .u8 d.value.kind,.int .u8 d.value.oper,.int .u8 d.value.cx,.int .i64 d.value.n,.int .u8 d.value.field,.string d.value.name,.slice d.value.a d.value.kids.length d.value.c,.int .i64 d.value.pos,.int .i64 d.pos] 99 (0,0))::F) (A:=A') hA' (by simp) [(d.price,3)] (by simp) (by simp) rfl hb1 List.perm_middle.symm
   refine cE.mono happ fun v I4 G l4 ⟨a2,n2,c2,A2,hv,hA2,hG⟩=>⟨a2,n2,c2,hv,A2++F,hG.trans List.perm_middle,A2,.refl _, ?_⟩
   rw[hps,hpd];exact hA2
  ·have ho:d.order=2:=by simpa using ho
   rw[if_neg (by simpa using ho)] at hpd
   refine⟨A',.refl _, ?_⟩
   rw[hps,hpd];exact hA'
  ·have hn:d.name.toList=[]:=by simpa using hn
   rw[if_pos hn] at hI
   exact⟨by rw[hi0,hI];rfl,A3,hF3,fun _=>hA3⟩
  ·have hn:¬d.name.toList=[]:=by simpa using hn
   rw[if_neg hn] at hI
   obtain⟨m1,m2,o1,o2,hS,hm1,hc1,hm2,hc2⟩:=hsc (cc.le_trans l1 (cc.le_trans l2 l5))
   refine⟨_,rfl,some m1,(hS.rd _).1,(tF hc1 hm1 d.name).mono fun v I6 G l6 ⟨r,hv,hI6,hG,hr⟩=>⟨r,hv,F3,by rw[hG], ?_,A3,hF3,fun _=>hA3⟩⟩
   rw[hr,vu,hi0,hI]
 ·have h1:d.kind≠1:=by simpa using h1
  have h2:d.kind=2:=by simpa using h2
  rw[if_neg h1,if_pos (.inl h2)] at hI
  rw[if_neg h1,if_pos h2] at hpd
  intro b I1 l1 hb
  have happ:=vr (R:=(b_d,Obj.cells #[.int .u8 d.kind,.int .u8 d.order,.string d.name,.int .u8 d.side.kind,.int .u8 d.side.oper,.int .u8 d.side.cx,.int .i64 d.side.n,.int .u8 d.side.field,.string d.side.name,.slice d.side.a d.side.kids.length d.side.c,.int .i64 d.side.pos,.int .u8 d.qty.kind,.int .u8 d.qty.oper,.int .u8 d.qty.cx,.int .i64 d.qty.n,.int .u8 d.qty.field,.string d.qty.name,.slice d.qty.a d.qty.kids.length d.qty.c,.int .i64 d.qty.pos,.int .u8 d.price.kind,.int .u8 d.price.oper,.int .u8 d.price.cx,.int .i64 d.price.n,.int .u8 d.price.field,.string d.price.name,.slice d.price.a d.price.kids.length d.price.c,.int .i64 d.price.pos,.int .u8 d.value.kind,.int .u8 d.value.oper,.int .u8 d.value.cx,.int .i64 d.value.n,.int .u8 d.value.field,.string d.value.name,.slice d.value.a d.value.kids.length d.value.c,.int .i64 d.value.pos,.int .i64 d.pos] 99 (0,0))::F) (A:=[]) (m:=2) Acc.nil (by simp) [(d.qty,2),(d.price,3)] (by simp) (by simp) rfl (CE hb) (.refl _)
  refine cE.mono happ fun v I2 G l2 ⟨a',n',c',A',hv,hA',hG⟩=>⟨a',n',c',hv,A'++F,hG.trans List.perm_middle, ?_⟩
  obtain⟨m1,m2,o1,o2,hS,hm1,hc1,hm2,hc2⟩:=hsc (cc.le_trans l1 l2)
  refine⟨_,rfl,some m1,(hS.rd _).1,(tF hc1 hm1 d.name).mono fun v I6 G l6 ⟨r,hv,hI6,hG,hr⟩=>⟨r,hv,A'++F,by rw[hG], ?_,A',.refl _,fun _=>?_⟩⟩
  ·rw[hr,vu,hi0,hI]
  ·rw[hps,hpd];exact hA'
 ·have h1:d.kind≠1:=by simpa using h1
  have h2:d.kind≠2:=by simpa using h2
  have h3:d.kind=3:=by simpa using h3
  rw[if_neg h1,if_pos (.inr h3)] at hI
  rw[if_neg h1,if_neg h2,if_neg (by omega)] at hpd
  obtain⟨m1,m2,o1,o2,hS,hm1,hc1,hm2,hc2⟩:=hA
  refine⟨_,rfl,some m1,(hS.rd _).1,(tF hc1 hm1 d.name).mono fun v I6 G l6 ⟨r,hv,hI6,hG,hr⟩=>⟨r,hv,F,by rw[hG], ?_,[],.refl _,fun _=>?_⟩⟩
  ·rw[hr,vu,hi0,hI]
  ·rw[hps,hpd];exact Acc.nil
 ·have h1:d.kind≠1:=by simpa using h1
  have h2:d.kind≠2:=by simpa using h2
  have h3:d.kind≠3:=by simpa using h3
  have h4:d.kind=4:=by simpa using h4
  rw[if_neg h1,if_neg (by omega),if_pos h4] at hI
  rw[if_neg h1,if_neg h2,if_pos h4] at hpd
  obtain⟨m1,m2,o1,o2,⟨m0,es,ck,hc,hm,hgm⟩,hm1,hc1,hm2,hc2⟩:=hA
  refine⟨_,rfl,some m0,Rd.rR hc _ 0 fun j hj=>?_, ?_⟩
  ·have:j=0:=by simpa using hj
   subst this;rfl
  refine cE.mono (rZ FW zQ kN str_inj EW hgm (.inl hm) d.name) fun v I3 G l3 ⟨hv,hI3,hG⟩=>?_
  subst hI3 hG
  rw[ve] at hv
  by_cases hr:s.p.eX d.name<0
  ·rw[if_pos hr] at hv
   refine⟨0,false,hv,F,.refl _,fun b I4 l4 hb=>?_⟩
   have happ:=vr (R:=(b_d,Obj.cells #[.int .u8 d.kind,.int .u8 d.order,.string d.name,.int .u8 d.side.kind,.int .u8 d.side.oper,.int .u8 d.side.cx,.int .i64 d.side.n,.int .u8 d.side.field,.string d.side.name,.slice d.side.a d.side.kids.length d.side.c,.int .i64 d.side.pos,.int .u8 d.qty.kind,.int .u8 d.qty.oper,.int .u8 d.qty.cx,.int .i64 d.qty.n,.int .u8 d.qty.field,.string d.qty.name,.slice d.qty.a d.qty.kids.length d.qty.c,.int .i64 d.qty.pos,.int .u8 d.price.kind,.int .u8 d.price.oper,.int .u8 d.price.cx,.int .i64 d.price.n,.int .u8 d.price.field,.string d.price.name,.slice d.price.a d.price.kids.length d.price.c,.int .i64 d.price.pos,.int .u8 d.value.kind,.int .u8 d.value.oper,.int .u8 d.value.cx,.int .i64 d.value.n,.int .u8 d.value.field,.string d.value.name,.slice d.value.a d.value.kids.length d.value.c,.int .i64 d.value.pos,.int .i64 d.pos] 99 (0,0))::F) (A:=[]) Acc.nil (by simp) [(d.value,0)] (by simp) (by simp) rfl hb (.refl _)
   refine cE.mono happ fun v I2 G l2 ⟨a',n',c',A',hv,hA',hG⟩=>⟨a',n',c',hv,A'++F,hG.trans List.perm_middle, ?_,A',.refl _,fun h=>(by cases h)⟩
   rw[hi0,hI,decide_eq_true hr];rfl
  ·rw[if_neg hr] at hv
   refine⟨s.p.iz (s.p.eX d.name),true,hv,F,.refl _,fun b I4 l4 hb=>?_⟩
   have happ:=vr (R:=(b_d,Obj.cells #[.int .u8 d.kind,.int .u8 d.order,.string d.name,.int .u8 d.side.kind,.int .u8 d.side.oper,.int .u8 d.side.cx,.int .i64 d.side.n,.int .u8 d.side.field,.string d.side.name,.slice d.side.a d.side.kids.length d.side.c,.int .i64 d.side.pos,.int .u8 d.qty.kind,.int .u8 d.qty.oper,.int .u8 d.qty.cx,.int .i64 d.qty.n,.int .u8 d.qty.field,.string d.qty.name,.slice d.qty.a d.qty.kids.length d.qty.c,.int .i64 d.qty.pos,.int .u8 d.price.kind,.int .u8 d.price.oper,.int .u8 d.price.cx,.int .i64 d.price.n,.int .u8 d.price.field,.string d.price.name,.slice d.price.a d.price.kids.length d.price.c,.int .i64 d.price.pos,.int .u8 d.value.kind,.int .u8 d.value.oper,.int .u8 d.value.cx,.int .i64 d.value.n,.int .u8 d.value.field,.string d.value.name,.slice d.value.a d.value.kids.length d.value.c,.int .i64 d.value.pos,.int .i64 d.pos] 99 (0,0))::F) (A:=[]) Acc.nil (by simp) [(d.value,s.p.iz (s.p.eX d.name))] (by simp) (by simp) rfl hb (.refl _)
   refine cE.mono happ fun v I2 G l2 ⟨a',n',c',A',hv,hA',hG⟩=>⟨a',n',c',hv,A'++F,hG.trans List.perm_middle, ?_,A',.refl _,fun _=>?_⟩
   ·rw[hi0,hI,decide_eq_false hr];rfl
   ·rw[hps,hpd,hi0,hI];exact hA'
 ·have h1:d.kind≠1:=by simpa using h1
  have h2:d.kind≠2:=by simpa using h2
  have h3:d.kind≠3:=by simpa using h3
  have h4:d.kind≠4:=by simpa using h4
  have h5:d.kind=5:=by simpa using h5
  rw[if_neg h1,if_neg (by omega),if_neg h4,if_pos h5] at hI
  rw[if_neg h1,if_neg h2,if_neg h4] at hpd
  obtain⟨m1,m2,o1,o2,hS,hm1,hc1,hm2,hc2⟩:=hA
  refine⟨_,rfl,some m2,(hS.rd _).2,(tF hc2 hm2 d.name).mono fun v I6 G l6 ⟨r,hv,hI6,hG,hr⟩=>⟨r,hv,F,by rw[hG], ?_,[],.refl _,fun _=>?_⟩⟩
  ·rw[hr,E5,hi0,hI]
  ·rw[hps,hpd];exact Acc.nil
 ·have h1:d.kind≠1:=by simpa using h1
  have h2:d.kind≠2:=by simpa using h2
  have h3:d.kind≠3:=by simpa using h3
  have h4:d.kind≠4:=by simpa using h4
  have h5:d.kind≠5:=by simpa using h5
  rw[if_neg h1,if_neg (by omega),if_neg h4,if_neg h5] at hI
  rw[if_neg h1,if_neg h2,if_neg h4] at hpd
  refine⟨by rw[hi0,hI];rfl,[],.refl _,fun _=>?_⟩
  rw[hps,hpd];exact Acc.nil
 ·have hneg:i0<0:=by rw[his] at hq;simpa using hq
  rw[if_pos hneg] at hdT
  refine cg.iY (fQ (hg.mono l15) d.pos 151 (by decide) _) fun v2 I2 l2 hv2=>⟨v2,rfl,F11,.refl _,v2,A,rfl,hF11,fun J hJ hx=>?_⟩
  rw[hdT];exact gJ.mono hv2 hJ
 ·have hq:is=true:=by simpa using hq
  have hneg:¬i0<0:=by rw[his] at hq;simpa using hq
  rw[if_neg hneg] at hdT
  have hAcc:=hAcc hq
  have hn:=hAcc.1
  refine⟨⟨_,by omega,by omega,rfl,hneg,A,hF11,hAcc,fun p hp=>by simp at hp⟩,fun x i m I17 F13 l17 ⟨g0,g1,gm,_,A2,hF13,hA2,hall⟩=>⟨fun hlt=>?_,fun hlt=>?_⟩⟩
  ·have hlt:=of_decide_eq_true hlt
   have l:=cc.le_trans l15 l17
   have hS2:=hA2.yl (z:=9) (f:=CD) (fun _=>rfl) I17 (G:=(b_d,Obj.cells #[.int .u8 d.kind,.int .u8 d.order,.string d.name,.int .u8 d.side.kind,.int .u8 d.side.oper,.int .u8 d.side.cx,.int .i64 d.side.n,.int .u8 d.side.field,.string d.side.name,.slice d.side.a d.side.kids.length d.side.c,.int .i64 d.side.pos,.int .u8 d.qty.kind,.int .u8 d.qty.oper,.int .u8 d.qty.cx,.int .i64 d.qty.n,.int .u8 d.qty.field,.string d.qty.name,.slice d.qty.a d.qty.kids.length d.qty.c,.int .i64 d.qty.pos,.int .u8 d.price.kind,.int .u8 d.price.oper,.int .u8 d.price.cx,.int .i64 d.price.n,.int .u8 d.price.field,.string d.price.name,.slice d.price.a d.price.kids.length d.price.c,.int .i64 d.price.pos,.int .u8 d.value.kind,.int .u8 d.value.oper,.int .u8 d.value.cx,.int .i64 d.value.n,.int .u8 d.value.field,.string d.value.name,.slice d.value.a d.value.kids.length d.value.c,.int .i64 d.value.pos,.int .i64 d.pos] 99 (0,0))::F13) fun y hy=>.tail _ (hF13.mem_iff.2 (List.mem_append_left _ hy))
   obtain⟨ad,p,had,hp,hrd,hpm⟩:=dy.j3 hS2 g0 hlt
   refine⟨⟨g0,hlt⟩,ad,had,_,_,_,_,_,_,_,_,_,_,_,hrd,fun b_p=>?_⟩
   have hpm':p∈ky d (s.p.iz i0):=hps▸hpm
   obtain⟨m1,m2,o1,o2,hS,hm1,hc1,hm2,hc2⟩:=hsc l
   refine cg.iY (vm p.1 (hfit _ p hpm') p.2 (hg.mono l) hS ((DI hdo p hpm').mono l fun y hy=>.tail _ (.tail _ (hF13.mem_iff.2 (List.mem_append_right _ hy))))) fun v2 I2 l2 hv2=>⟨v2,rfl,F13,.refl _,_,gJ.neq hv2 (by kernel_rfl),fun he=>?_,fun he=>⟨(n-(i+1)).toNat,by omega, ?_⟩⟩
   ·have he:(eJ s.p p.1.px p.2).e≠0:=by simpa using he
    refine⟨v2,A2,rfl,hF13,fun J hJ hx=>?_⟩
    rw[hdT,vn (f:=fun p:Nd×Int=>eJ s.p p.1.px p.2) hall hp he]
    exact gJ.mono hv2 hJ
   ·have he:(eJ s.p p.1.px p.2).e=0:=by simpa using he
    rw[du (n:=i+1) (by omega)]
    refine⟨by omega,by omega,rfl,hneg,A2,hF13,hA2, ?_⟩
    rw[show (i+1).toNat=i.toNat+1 by omega]
    exact uZ hp hall he
  ·have hlt:=of_decide_eq_false hlt
   refine⟨_,A2,rfl,hF13,fun J hJ hx=>?_⟩
   rw[List.take_of_length_le (by omega)] at hall
   rw[hdT,vo hall]
   exact gJ.ok
end
end Go.Lx
namespace Go.Lx
open Go.Vc
def cr.Fit(r:cr):Prop:=r.when.px.db=0∧∀d∈r.dos,d.Fit∧d.kind≤6
theorem BM{r:cr}(h:r.p.check=0):r.Fit:=by
 unfold cM.check at h
 obtain⟨h1,h⟩:=cz h
 obtain⟨_,h⟩:=cz h
 obtain⟨_,h⟩:=cz h
 refine⟨h1,fun d hd=>?_⟩
 have hd:=fP h d.p (List.mem_map_of_mem hd)
 refine⟨zW hd, ?_⟩
 unfold dS.check at hd
 have h1:=jG (by decide) (cz hd).1
 have:=of_decide_eq_true h1
 exact this.2
theorem zX{s:cB}(h:s.p.check=0):∀x∈s.cd,∀r∈x.rules,r.Fit:=by
 unfold cu.check at h
 obtain⟨_,h⟩:=cz h
 obtain⟨_,h⟩:=cz h
 obtain⟨_,h⟩:=cz h
 obtain⟨_,h⟩:=cz h
 obtain⟨_,h⟩:=cz h
 obtain⟨_,h⟩:=cz h
 obtain⟨_,h⟩:=cz h
 intro x hx r hr
 have h1:=fP h x.p (List.mem_map_of_mem hx)
 unfold cq.check at h1
 obtain⟨_,h1⟩:=cz h1
 obtain⟨_,h1⟩:=cz h1
 exact BM (fP h1 r.p (List.mem_map_of_mem hr))
def nD(l:List dG)(i:Int):Bool:=decide (0<i)&&(match l[i.toNat-1]? with
 | some d=>decide (d.kind=5∨d.kind=6)
 | none=>false)
section
variable {s:cB} {I:cc} {F:b8} {c:Nat}
set_option maxHeartbeats 1000000 in
theorem BN(hg:Gl I)(hA:Gi I c s)(r:cr)(hro:r.Ok I F)(hfit:r.Fit)(hlen:r.dos.length≤1048576):cg P 68 #[.pointer (some ⟨c,0,none⟩),r.v] I F (kC (zU (ez s.p r.p)) F):=by
 obtain⟨hw,hds⟩:=hfit
 have hrt:ez s.p r.p=dM (eJ s.p r.when.px 5) (pE s.p (r.dos.map dG.p) false):=rfl
 refine gq.vc (fun x i m I' F'=>F'=F∧0≤i∧i≤r.dos.length∧m=(r.dos.length-i).toNat∧ez s.p r.p=pE s.p ((r.dos.drop i.toNat).map dG.p) (nD r.dos i)) ?_
 unfold gq.V
 intro b_r
 have hS:∃m1 m2,Cw I c s.p m1 m2:=let ⟨m1,m2,_,_,h,_⟩:=hA;⟨m1,m2,h⟩
 obtain⟨m1,m2,hS⟩:=hS
 refine cg.iY (vm r.when hw 5 hg hS (hro.1.mono (cc.le_refl I) fun y hy=>.tail _ hy)) fun v I1 l1 hv=>⟨v,rfl,F,.refl _,_,gJ.neq hv (by kernel_rfl),fun he=>?_,fun he=>?_⟩
 ·have he:(eJ s.p r.when.px 5).e≠0:=by simpa using he
  rw[hrt,jU _ he]
  exact⟨v,rfl,hv,rfl⟩
 have he:(eJ s.p r.when.px 5).e=0:=by simpa using he
 rw[rq _ he] at hrt
 refine⟨⟨_,rfl,by omega,by omega,rfl,hrt⟩,fun x i m I2 F2 l2 ⟨gF,g0,g1,gm,ge⟩=>⟨fun hlt=>?_,fun hlt=>?_⟩⟩
 ·subst gF
  have hlt:=of_decide_eq_true hlt
  have l:=cc.le_trans l1 l2
  have hr2:∀x:Nat×Obj,cr.Ok I2 (x::F2) r:=fun x=>hro.mono l fun y hy=>.tail _ hy
  obtain⟨ad,d,had,hd,hrd,hdm⟩:=dy.j3 (hr2 (b_r,Obj.cells #[.int .u8 r.when.kind,.int .u8 r.when.oper,.int .u8 r.when.cx,.int .i64 r.when.n,.int .u8 r.when.field,.string r.when.name,.slice r.when.a r.when.kids.length r.when.c,.int .i64 r.when.pos,.slice r.a r.dos.length r.c,.int .i64 r.pos] 84 (0,0))).2.1 g0 hlt
  obtain⟨hk,hdk⟩:=List.getElem?_eq_some_iff.1 hd
  obtain⟨hdf,hd6⟩:=hds d hdm
  rw[List.drop_eq_getElem_cons hk,hdk,List.map_cons,pE] at ge
  have step:∀b_d:Nat,nD r.dos i=false→cg P 109 #[.pointer (some ⟨c,0,none⟩),d.v] I2 ((b_r,Obj.cells #[.int .u8 r.when.kind,.int .u8 r.when.oper,.int .u8 r.when.cx,.int .i64 r.when.n,.int .u8 r.when.field,.string r.when.name,.slice r.when.a r.when.kids.length r.when.c,.int .i64 r.when.pos,.slice r.a r.dos.length r.c,.int .i64 r.pos] 84 (0,0))::(b_d,Obj.cells #[.int .u8 d.kind,.int .u8 d.order,.string d.name,.int .u8 d.side.kind,.int .u8 d.side.oper,.int .u8 d.side.cx,.int .i64 d.side.n,.int .u8 d.side.field,.string d.side.name,.slice d.side.a d.side.kids.length d.side.c,.int .i64 d.side.pos,.int .u8 d.qty.kind,.int .u8 d.qty.oper,.int .u8 d.qty.cx,.int .i64 d.qty.n,.int .u8 d.qty.field,.string d.qty.name,.slice d.qty.a d.qty.kids.length d.qty.c,.int .i64 d.qty.pos,.int .u8 d.price.kind,.int .u8 d.price.oper,.int .u8 d.price.cx,.int .i64 d.price.n,.int .u8 d.price.field,.string d.price.name,.slice d.price.a d.price.kids.length d.price.c,.int .i64 d.price.pos,.int .u8 d.value.kind,.int .u8 d.value.oper,.int .u8 d.value.cx,.int .i64 d.value.n,.int .u8 d.value.field,.string d.value.name,.slice d.value.a d.value.kids.length d.value.c,.int .i64 d.value.pos,.int .i64 d.pos] 99 (0,0))::F2) (kC (zU (zE s.p d.p)) ((b_r,Obj.cells #[.int .u8 r.when.kind,.int .u8 r.when.oper,.int .u8 r.when.cx,.int .i64 r.when.n,.int .u8 r.when.field,.string r.when.name,.slice r.when.a r.when.kids.length r.when.c,.int .i64 r.when.pos,.slice r.a r.dos.length r.c,.int .i64 r.pos] 84 (0,0))::(b_d,Obj.cells #[.int .u8 d.kind,.int .u8 d.order,.string d.name,.int .u8 d.side.kind,.int .u8 d.side.oper,.int .u8 d.side.cx,.int .i64 d.side.n,.int .u8 d.side.field,.string d.side.name,.slice d.side.a d.side.kids.length d.side.c,.int .i64 d.side.pos,.int .u8 d.qty.kind,.int .u8 d.qty.oper,.int .u8 d.qty.cx,.int .i64 d.qty.n,.int .u8 d.qty.field,.string d.qty.name,.slice d.qty.a d.qty.kids.length d.qty.c,.int .i64 d.qty.pos,.int .u8 d.price.kind,.int .u8 d.price.oper,.int .u8 d.price.cx,.int .i64 d.price.n,.int .u8 d.price.field,.string d.price.name,.slice d.price.a d.price.kids.length d.price.c,.int .i64 d.price.pos,.int .u8 d.value.kind,.int .u8 d.value.oper,.int .u8 d.value.cx,.int .i64 d.value.n,.int .u8 d.value.field,.string d.value.name,.slice d.value.a d.value.kids.length d.value.c,.int .i64 d.value.pos,.int .i64 d.pos] 99 (0,0))::F2)):=fun b_d _ =>
   E6 (hg.mono l) (hA.mono l) d ((hro.2.2 d hdm).mono l fun y hy=>.tail _ (.tail _ hy)) hdf
  have next:nD r.dos i=false→(zE s.p d.p).e=0→ez s.p r.p=pE s.p ((r.dos.drop (i+1).toNat).map dG.p) (nD r.dos (i+1)):=fun hb h0=>by
   rw[ge,hb,if_neg (by simp),if_neg (by simpa using h0),show (i+1).toNat=i.toNat+1 by omega]
   have:nD r.dos (i+1)=decide (d.p.kind=5∨d.p.kind=6):=by
    unfold nD
    rw[show (i+1).toNat-1=i.toNat by omega,hd,decide_eq_true (show 0<i+1 by omega)]
    rfl
   rw[this]
  refine⟨⟨g0,hlt⟩,ad,had,_,_,_,_,_,_,_,_,_,_,_,_,_,_,_,_,_,_,_,_,_,_,_,_,_,_,_,_,_,_,_,_,_,_,_,_,_,_,_,_,_,_,_,_,hrd,fun b_d=>⟨fun hp=>?_,fun hp=>?_⟩⟩
  ·have hp:=of_decide_eq_true hp
   have hw1:IntKind.wrap .i64 (i-1)=i-1:=du (by omega)
   rw[hw1]
   obtain⟨ad1,d1,had1,hd1,hrd1,hdm1⟩:=dy.j3 ((hr2 (b_d,Obj.cells #[.int .u8 d.kind,.int .u8 d.order,.string d.name,.int .u8 d.side.kind,.int .u8 d.side.oper,.int .u8 d.side.cx,.int .i64 d.side.n,.int .u8 d.side.field,.string d.side.name,.slice d.side.a d.side.kids.length d.side.c,.int .i64 d.side.pos,.int .u8 d.qty.kind,.int .u8 d.qty.oper,.int .u8 d.qty.cx,.int .i64 d.qty.n,.int .u8 d.qty.field,.string d.qty.name,.slice d.qty.a d.qty.kids.length d.qty.c,.int .i64 d.qty.pos,.int .u8 d.price.kind,.int .u8 d.price.oper,.int .u8 d.price.cx,.int .i64 d.price.n,.int .u8 d.price.field,.string d.price.name,.slice d.price.a d.price.kids.length d.price.c,.int .i64 d.price.pos,.int .u8 d.value.kind,.int .u8 d.value.oper,.int .u8 d.value.cx,.int .i64 d.value.n,.int .u8 d.value.field,.string d.value.name,.slice d.value.a d.value.kids.length d.value.c,.int .i64 d.value.pos,.int .i64 d.pos] 99 (0,0))).cons (x:=(b_r,Obj.cells #[.int .u8 r.when.kind,.int .u8 r.when.oper,.int .u8 r.when.cx,.int .i64 r.when.n,.int .u8 r.when.field,.string r.when.name,.slice r.when.a r.when.kids.length r.when.c,.int .i64 r.when.pos,.slice r.a r.dos.length r.c,.int .i64 r.pos] 84 (0,0)))).2.1 (i:=i-1) (by omega) (by omega)
   have hlb:nD r.dos i=decide (d1.kind=5∨d1.kind=6):=by
    unfold nD
    rw[show i.toNat-1=(i-1).toNat by omega,hd1,decide_eq_true hp]
    rfl
   have h16:=(hds d1 hdm1).2
   refine⟨⟨by omega,by omega⟩,ad1,had1,d1.kind,hrd1.field (o:=0) rfl,fun h5=>?_,fun h5=>?_⟩
   ·have h5:=of_decide_eq_true h5
    have hb:nD r.dos i=true:=by rw[hlb];exact decide_eq_true (by omega)
    rw[hb,if_pos rfl] at ge
    exact cg.iY (fQ (hg.mono l) d.pos 153 (by decide) _) fun v2 I3 l3 hv2=>⟨v2,rfl,F2,.refl _,v2,rfl,by rw[ge];exact hv2,rfl⟩
   ·have h5:=of_decide_eq_false h5
    have hb:nD r.dos i=false:=by rw[hlb];exact decide_eq_false (by omega)
    refine cg.iY (step b_d hb) fun v2 I3 l3 hv2=>⟨v2,rfl,F2,.refl _,_,gJ.neq hv2 (by kernel_rfl),fun hq=>?_,fun hq=>⟨(r.dos.length-(i+1)).toNat,by omega, ?_⟩⟩
    ·have hq:(zE s.p d.p).e≠0:=by simpa using hq
     rw[ge,hb,if_neg (by simp),if_pos hq]
     exact⟨v2,rfl,hv2,rfl⟩
    ·have hq:(zE s.p d.p).e=0:=by simpa using hq
     rw[du (n:=i+1) (by omega)]
     exact⟨rfl,by omega,by omega,rfl,next hb hq⟩
  ·have hp:=of_decide_eq_false hp
   have hb:nD r.dos i=false:=by unfold nD;rw[decide_eq_false (by omega)];rfl
   refine cg.iY (step b_d hb) fun v2 I3 l3 hv2=>⟨v2,rfl,F2,.refl _,_,gJ.neq hv2 (by kernel_rfl),fun hq=>?_,fun hq=>⟨(r.dos.length-(i+1)).toNat,by omega, ?_⟩⟩
   ·have hq:(zE s.p d.p).e≠0:=by simpa using hq
    rw[ge,hb,if_neg (by simp),if_pos hq]
    exact⟨v2,rfl,hv2,rfl⟩
   ·have hq:(zE s.p d.p).e=0:=by simpa using hq
    rw[du (n:=i+1) (by omega)]
    exact⟨rfl,by omega,by omega,rfl,next hb hq⟩
 ·subst gF
  have hlt:=of_decide_eq_false hlt
  rw[List.drop_eq_nil_of_le (by omega),List.map_nil,pE] at ge
  rw[ge];exact⟨_,rfl,gJ.ok,rfl⟩
theorem vv(hl:s.p.nH)(hok:s.Ok I F)(hg:Gl I)(hf:∀r∈s.regs,r.init.px.formed=true){m1 m2:Nat}(hS:Cw I c s.p m1 m2) :
  cg P 67 #[.pointer (some ⟨c,0,none⟩),s.v] I ((m1,.map #[] 0)::(m2,.map #[] 0)::F) (kC (fun v J=>zU s.p.named v J∧(s.p.named.e=0→Gi J c s)) F) :=
 cg.keep (we hl hok hg hf hS) fun e I' G w l hs ⟨v,he,hv,o1,o2,hG,hk⟩=>by
  subst hG
  obtain⟨J,g1,g2,g3⟩:=Sat.still [(m1,o1),(m2,o2)] hs
  exact⟨J,F,g1,g3,v,he,⟨hv.mono g1,fun h0=>⟨m1,m2,o1,o2,hS.mono (cc.le_trans l g1),g2 _ (.head _),(hk h0).1,g2 _ (.tail _ (.head _)),(hk h0).2⟩⟩,rfl⟩
end
end Go.Lx
namespace Go.Lx
open Go.Vc
set_option maxHeartbeats 1000000 in
theorem xZ(s:cB)(hl:s.p.nH){I:cc}{F:b8}(hok:s.Ok I F)(hg:Gl I):cg P 39 #[s.v] I F (kC (zU s.p.types) F):=by
 have lr:=hl.regs
 have lt:=hl.cd
 simp only[cB.p,List.length_map] at lr lt
 have hdef:s.p.types=if s.p.check≠0 then ⟨s.p.check,0,false⟩ else dM s.p.named (cR (fun x=>cR (ez s.p) x.rules) (s.cd.map cj.p)):=rfl
 refine lh.vc
  (fun cA x i m I0 F0 I' F'=>F'=F∧0≤i∧i≤s.cd.length∧m=(s.cd.length-i).toNat∧(∃c,cA=some (⟨c,0,none⟩:Addr)∧Gi I' c s)∧(∀x∈s.cd,∀r∈x.rules,r.Fit)∧s.p.types=cR (fun x=>cR (ez s.p) x.rules) ((s.cd.drop i.toNat).map cj.p))
  (fun cA i x k m I0 F0 I' F'=>F'=F∧∃y,s.cd[i.toNat]? = some y∧0≤k∧k≤y.rules.length∧m=(y.rules.length-k).toNat∧(∃c,cA=some (⟨c,0,none⟩:Addr)∧Gi I' c s)∧(∀x∈s.cd,∀r∈x.rules,r.Fit) ∧
    s.p.types=dM (cR (ez s.p) ((y.rules.drop k.toNat).map cr.p)) (cR (fun x=>cR (ez s.p) x.rules) ((s.cd.drop (i.toNat+1)).map cj.p))) ?_
 unfold lh.V
 intro b_s
 have ok1:∀{J:cc} {x:Nat×Obj},cc.le I J→s.Ok J (x::F):=fun hJ=>hok.mono hJ fun y hy=>.tail _ hy
 refine cg.ret (Bm s hl.small hl.lens I _ (ok1 (cc.le_refl I))) fun I1 l1=>⟨_,rfl,F,.refl _,fun hc=>?_,fun hc=>?_⟩
 ·have hc:s.p.check≠0:=by simpa using hc
  rw[hdef,if_pos hc]
  exact cg.iY (fQ (hg.mono l1) 0 s.p.check hc _) fun v I2 l2 hv=>⟨v,rfl,F,.refl _,v,rfl,hv,rfl⟩
 have hc:s.p.check=0:=by simpa using hc
 rw[if_neg (by simpa using hc)] at hdef
 have hfit:=zX hc
 have hfm:∀r∈s.regs,r.init.px.formed=true:=fun r hr=>u9 hc r.p (List.mem_map_of_mem hr)
 refine (vk s lr I1 _ (ok1 l1)).mono fun e I2 G l2 ⟨c,m1,m2,he,hS,hG⟩=>?_
 subst hG
 have l12:=cc.le_trans l1 l2
 refine⟨_,he,(m1,.map #[] 0)::(m2,.map #[] 0)::F,dh, ?_⟩
 have hdec:=vv (F:=(b_s,Obj.cells #[.string s.name,.slice s.ra s.regs.length s.rc,.slice s.sa s.slots.length s.sc,.slice s.ta s.cd.length s.tc] 39 (0,0))::F) hl (ok1 l12) (hg.mono l12) hfm hS
 refine (hdec.perm dh.symm).mono fun e I3 G l3 ⟨v,he,⟨hv,hk⟩,hG⟩=>⟨v,he,F,by rw[hG],_,gJ.neq hv (by kernel_rfl),fun hq=>?_,fun hq=>?_⟩
 ·have hq:s.p.named.e≠0:=by simpa using hq
  rw[hdef,jU _ hq]
  exact⟨v,rfl,hv,rfl⟩
 have hq:s.p.named.e=0:=by simpa using hq
 rw[rq _ hq] at hdef
 have l123:=cc.le_trans l12 l3
 refine⟨⟨_,rfl,by omega,by omega,rfl,⟨c,rfl,hk hq⟩,hfit,hdef⟩,fun x i m I4 F4 l4 ⟨gF,g0,g1,gm,⟨c',hc',hA⟩,_,ge⟩=>⟨fun hlt=>?_,fun hlt=>?_⟩⟩
 ·subst gF
  obtain rfl:c=c':=by simpa using hc'
  have hlt:=of_decide_eq_true hlt
  have l:=cc.le_trans l123 l4
  obtain⟨ad,y,had,hy,hrd,hym⟩:=dy.j3 (ok1 (x:=(b_s,Obj.cells #[.string s.name,.slice s.ra s.regs.length s.rc,.slice s.sa s.slots.length s.sc,.slice s.ta s.cd.length s.tc] 39 (0,0))) l).cd g0 hlt
  obtain⟨hk2,hyk⟩:=List.getElem?_eq_some_iff.1 hy
  rw[List.drop_eq_getElem_cons hk2,hyk,List.map_cons] at ge
  have hly:=(hl.state y.p (List.mem_map_of_mem hym)).1
  have hlr:=(hl.state y.p (List.mem_map_of_mem hym)).2
  simp only[cj.p,List.length_map] at hly
  refine⟨⟨g0,hlt⟩,ad,had,_,_,_,_,_,hrd,fun b_x=>⟨⟨_,rfl,y,hy,by omega,by omega,rfl,⟨c,rfl,hA⟩,hfit, ?_⟩,fun x2 k m3 I5 F5 l5 ⟨hF,y',hy',h0,h1,hm,⟨c2,hc2,hA2⟩,_,he2⟩=>⟨fun hlt2=>?_,fun hlt2=>⟨(s.cd.length-(i+1)).toNat,by omega, ?_⟩⟩⟩⟩
  ·rw[ge];unfold dM;rw[cR];rfl
  ·subst hF
   obtain rfl:y=y':=by rw[hy] at hy';exact Option.some.inj hy'
   obtain rfl:c=c2:=by simpa using hc2
   have hlt2:=of_decide_eq_true hlt2
   have l5':=cc.le_trans l l5
   have hyo:y.Ok I5 ((b_s,Obj.cells #[.string s.name,.slice s.ra s.regs.length s.rc,.slice s.sa s.slots.length s.sc,.slice s.ta s.cd.length s.tc] 39 (0,0))::(b_x,Obj.cells #[.string y.name,.slice y.a y.rules.length y.c,.int .i64 y.pos] 65 (0,0))::F5):=(hok.state y hym).mono l5' fun z hz=>.tail _ (.tail _ hz)
   obtain⟨ad1,r,had1,hr,hrd1,hrm⟩:=dy.j3 hyo.1 h0 hlt2
   obtain⟨hk3,hrk⟩:=List.getElem?_eq_some_iff.1 hr
   rw[List.drop_eq_getElem_cons hk3,hrk,List.map_cons,cR] at he2
   have hdl:=(hlr r.p (List.mem_map_of_mem hrm)).2.1
   simp only[cr.p,List.length_map] at hdl
   refine⟨⟨h0,hlt2⟩,ad1,had1,_,_,_,_,_,_,_,_,_,_,_,_,_,_,hrd1,fun b_r=>?_⟩
   refine cg.iY (BN (hg.mono l5') hA2 r ((hyo.2 r hrm).mono (cc.le_refl _) fun z hz=>by
    rcases List.mem_cons.1 hz with rfl | hz
    ·exact .head _
    ·rcases List.mem_cons.1 hz with rfl | hz
     ·exact .tail _ (.head _)
     ·exact .tail _ (.tail _ (.tail _ hz))) (hfit y hym r hrm) hdl) fun v2 I6 l6 hv2=>⟨v2,rfl,F5,.refl _,_,gJ.neq hv2 (by kernel_rfl),fun hq=>?_,fun hq=>⟨(y.rules.length-(k+1)).toNat,by omega, ?_⟩⟩
   ·have hq:(ez s.p r.p).e≠0:=by simpa using hq
    rw[he2,if_pos hq,jU _ hq]
    exact⟨v2,rfl,hv2,rfl⟩
   ·have hq:(ez s.p r.p).e=0:=by simpa using hq
    rw[if_neg (by simpa using hq)] at he2
    rw[du (n:=k+1) (by omega)]
    refine⟨rfl,y,hy,by omega,by omega,rfl,⟨c,rfl,hA2.mono l6⟩,hfit, ?_⟩
    rw[he2,show (k+1).toNat=k.toNat+1 by omega]
  ·subst hF
   obtain rfl:y=y':=by rw[hy] at hy';exact Option.some.inj hy'
   obtain rfl:c=c2:=by simpa using hc2
   have hlt2:=of_decide_eq_false hlt2
   rw[List.drop_eq_nil_of_le (by omega),List.map_nil,cR,rq _ rfl] at he2
   rw[du (n:=i+1) (by omega)]
   refine⟨rfl,by omega,by omega,rfl,⟨c,rfl,hA2⟩,hfit, ?_⟩
   rw[he2,show (i+1).toNat=i.toNat+1 by omega]
 ·subst gF
  have hlt:=of_decide_eq_false hlt
  rw[List.drop_eq_nil_of_le (by omega),List.map_nil,cR] at ge
  rw[ge];exact⟨_,rfl,gJ.ok,rfl⟩
end Go.Lx
namespace Go.Lx
open Go.Vc Go.Proofs.Tryz
def HR:List (Nat×List Sh):=[(3,[.one (.int .i64)]),(4,[.one .bool]),(47,[.one (.int .i64)]),(89,[.one .ptr])]
def ic.V(vi:Int→Value)(vp:OA→Value)(b:Value)(I:cc)(F:b8)(Q:cf)  : Prop:=∃q:Bool,cP P .eql 44 (.tmp 7) (.const (Value.nilIface)) b Value.nilIface q∧(It q (Q (.returned (.tuple #[vi 0,vi 0])) I F) (∀a:Nat,∃(cs:List Value) (el:Nat) (F1:b8),List.Perm ((a,Obj.cells #[vi 0] 47 (0,0))::F) (((⟨a,0,none⟩:Addr).block,Obj.cells cs.toArray el (0,0))::F1)∧(⟨a,0,none⟩:Addr).spot=none∧(⟨a,0,none⟩:Addr).off+1≤cs.length∧∀c:Nat,cg P 44 (#[b,Value.iface 91 (vp (some (⟨c,0,none⟩:Addr)))]) I (((c,Obj.cells #[vp none] 89 (0,0))::(((⟨a,0,none⟩:Addr).block,Obj.cells (cp (⟨a,0,none⟩:Addr).off [vi (-1)] cs).toArray el (0,0))::F1))) fun e1 I1 G1=>∃(r:Bool),e1=.returned (.bool r)∧∃F2:b8,List.Perm G1 F2∧(It r (∃(m:OA),Rd I1 F2 (⟨c,0,none⟩:Addr) [vp m]∧∃ad:Addr,m=some ad∧∃(m1:Int),Rd I1 F2 (ad.add 1) [vi m1]∧cF P 44 (#[b,Value.iface 94 (vp (some (⟨a,0,none⟩:Addr)))]) I1 (·) F2 .bool fun r1 I2 F3=>∃(m2:Int),Rd I2 F3 (⟨a,0,none⟩:Addr) [vi m2]∧Q (.returned (.tuple #[vi m2,vi m1])) I2 F3) (cF P 44 (#[b,Value.iface 94 (vp (some (⟨a,0,none⟩:Addr)))]) I1 (·) F2 .bool fun r2 I3 F4=>∃(m3:Int),Rd I3 F4 (⟨a,0,none⟩:Addr) [vi m3]∧Q (.returned (.tuple #[vi m3,vi 0])) I3 F4))))
theorem ic.vc{a:Value}{I:cc}{F:b8}{Q:cf}  (h:ic.V (.int .i64) .pointer a I F Q):cg P 20 #[a] I F Q :=
 tw (A:=(cQ [1001,5002] [] [44] HR [] [] [3000,4000] [] [] [] [])) [44] func20 h
end Go.Lx
namespace Go.Lx
open Go.Vc
theorem E7{I:cc}{G:b8}{b ty:Nat}{v:Value}(h:(b,Obj.cells #[v] ty (0,0))∈G):Rd I G (⟨b,0,none⟩:Addr) [v]:=Rd.uE h 0 fun j hj=>by
 have:j=0:=by simpa using hj
 subst this;rfl
theorem xd(I:cc)(F:b8):cg P 20 #[.nilIface] I F (eg (.tuple #[.int .i64 0,.int .i64 0]) F):=by
 refine ic.vc ?_
 unfold ic.V
 exact⟨true,ru (by kernel_rfl),fun _=>⟨rfl,rfl⟩,fun h=>(by cases h)⟩
theorem qn{I:cc}(hg:Gl I){b:Nat}{call:ByteArray}{pos n:Int}{u:Value}(hb:I b=some (.cells #[.string call,.int .i64 pos,u] 93 (0,0)))
  (hE:∀J,cc.le I J→∀(G:b8) (t ty:Nat) (old:Value),cg P 44 #[.iface 89 (.pointer (some ⟨b,0,none⟩)),.iface 94 (.pointer (some ⟨t,0,none⟩))] J ((t,.cells #[old] ty (0,0))::G) (H9 true ((t,.cells #[.int .i64 n] ty (0,0))::G))) (F:b8) :
  cg P 20 #[.iface 89 (.pointer (some ⟨b,0,none⟩))] I F (eg (.tuple #[.int .i64 n,.int .i64 pos]) F):=by
 refine cg.clean ?_
 refine ic.vc ?_
 unfold ic.V
 refine⟨false,o7 (by kernel_rfl),fun h=>(by cases h),fun _ b_e=>⟨[.int .i64 0],_,F,.refl _,rfl,by simp,fun b_f=>?_⟩⟩
 refine (CC hg b).mono fun e I1 G l1 ⟨he,hG⟩=>?_
 subst hG
 refine⟨true,he,_,.refl _,fun _=>⟨some ⟨b,0,none⟩,E7 (.head _),⟨b,0,none⟩,rfl,pos, ?_, ?_⟩,fun h=>(by cases h)⟩
 ·rw[rv]
  exact Rd.rR (l1.at hb) _ 1 fun j hj=>by
   have:j=0:=by simpa using hj
   subst this;rfl
 ·refine cg.perm ((hE I1 l1 ((b_f,.cells #[.pointer (some ⟨b,0,none⟩)] 89 (0,0))::F) b_e 47 (.int .i64 (-1))).mono fun e I2 G l2 ⟨he,hG⟩=>?_) (.swap ..)
  subst hG
  exact⟨true,he,_,.refl _,n,E7 (.head _),rfl,[_,_],.refl _⟩
def TF.w(f:TF):Value:=.tuple #[.int .i64 f.e,.int .i64 f.pos]
theorem DJ{I:cc}(hg:Gl I){f:TF}(hz:f.Z){v:Value}(h:gJ I f v)(F:b8):cg P 20 #[v] I F (eg f.w F):=by
 by_cases he:f.e=0
 ·rw[h.1 he,hz he];exact xd I F
 ·have h2:=h.2 he
  split at h2
  ·obtain⟨u,hu,hv⟩:=h2
   obtain⟨b,rfl,hb⟩:=id hv
   exact qn hg hb (fun J hJ G t ty old=>IX (hg.mono hJ) (hv.mono hJ) (hu.mono hJ)) F
  ·obtain⟨b,rfl,hb⟩:=id h2
   exact qn hg hb (fun J hJ G t ty old=>GK (hg.mono hJ) (h2.mono hJ)) F
theorem Gj(s:cu):s.types.Z:=by
 unfold cu.types
 split
 ·rename_i h;exact u7 h
 ·refine tC (Cv s) ?_
  have fz:∀{α:Type} (f:α→TF) (l:List α),(∀x,(f x).Z)→(cR f l).Z:=fun f l h=>by
   induction l with
   | nil=>exact w6
   | cons x r ih =>
     rw[cR];split
     ·exact h x
     ·exact ih
  exact fz _ _ fun x=>fz _ _ fun r=>Cu s r
end Go.Lx
namespace Go.Lx
open Go.Vc Go.Proofs.Tryz
def BO:List (Nat×List Sh):=[(28,[.agg [(.int .u8),(.int .u8),(.int .u8),(.int .i64),(.int .u8),.str,.slc,(.int .i64)]]),(35,[.one .slc]),(36,[.one .slc]),(37,[.one .slc]),(63,[.one .slc]),(65,[.agg [.str,.slc,(.int .i64)]]),(77,[.agg [.str,(.int .u8),(.int .u8),(.int .u8),(.int .u8),(.int .i64),(.int .u8),.str,.slc,(.int .i64),(.int .i64)]]),(82,[.one .slc]),(84,[.agg [(.int .u8),(.int .u8),(.int .u8),(.int .i64),(.int .u8),.str,.slc,(.int .i64),.slc,(.int .i64)]]),(99,[.agg [(.int .u8),(.int .u8),.str,(.int .u8),(.int .u8),(.int .u8),(.int .i64),(.int .u8),.str,.slc,(.int .i64),(.int .u8),(.int .u8),(.int .u8),(.int .i64),(.int .u8),.str,.slc,(.int .i64),(.int .u8),(.int .u8),(.int .u8),(.int .i64),(.int .u8),.str,.slc,(.int .i64),(.int .u8),(.int .u8),(.int .u8),(.int .i64),(.int .u8),.str,.slc,(.int .i64),(.int .i64)]])]
def fm.V(y:Nat→Nat×Obj)(nV:Int→Int→Int→Int→Int→Bs→OA→Nat→Nat→Int→Value)(vb vi:Int→Value)(vs:Bs→Value)(vl:OA→Nat→Nat→Value)(a3:Bs)(aU:OA)(al a4:Nat)(aV:OA)(aW aX:Nat)(aY:OA)(am a5:Nat)(I:cc)(F:b8)(Q:cf)(Inv8:Int→Bs→OA→Nat→Nat→OA→Nat→Nat→OA→Nat→Nat→Nat→cc→b8→Prop)(Inv29:Int→Bs→OA→Nat→Nat→OA→Nat→Nat→OA→Nat→Nat→Nat→cc→b8→Prop):Prop:=∀z:Nat,∀b:Nat,∀aa:Nat,(∃m:Nat,Inv8 0 a3 none 0 0 none 0 0 none 0 0 m I F)∧∀(i:Int) (w:Bs) (a:OA) (c d:Nat) (e:OA) (f g:Nat) (h:OA) (j k m1:Nat) (I1:cc) (F1:b8),cc.le I I1→Inv8 i w a c d e f g h j k m1 I1 F1→((decide (i<(al:Int))=true→((0≤i∧i<(al:Int))∧∃ad:Addr,aU=some ad∧∃(aj:Bs) (ak an ao ap aq ar:Int) (au:Bs) (ac:OA) (ae af:Nat) (av ab:Int),Rd I1 ((y z)::(b,Obj.cells #[vs (⟨#[]⟩:Bs),vl none 0 0,vl none 0 0,vl none 0 0] 39 (0,0))::(aa,Obj.cells #[vs w,vl a c d,vl e f g,vl h j k] 39 (0,0))::F1) (ad.add (Int.toNat i*11)) [vs aj,vb ak,vb an,vb ao,vb ap,vi aq,vb ar,vs au,vl ac ae af,vi av,vi ab]∧∀aJ:Nat,cg P 50 #[nV an ao ap aq ar au ac ae af av] I1 ((y z)::(b,Obj.cells #[vs (⟨#[]⟩:Bs),vl none 0 0,vl none 0 0,vl none 0 0] 39 (0,0))::(aa,Obj.cells #[vs w,vl a c d,vl e f g,vl h j k] 39 (0,0))::(aJ,Obj.cells #[vs aj,vb ak,vb an,vb ao,vb ap,vi aq,vb ar,vs au,vl ac ae af,vi av,vi ab] 77 (0,0))::F1) fun e1 I2 G1=>∃(aw ax ay az aA:Int) (aB:Bs) (ag:OA) (ah ai:Nat) (aC:Int),e1=.returned (nV aw ax ay az aA aB ag ah ai aC)∧∃F2:b8,List.Perm G1 ((y z)::(b,Obj.cells #[vs (⟨#[]⟩:Bs),vl none 0 0,vl none 0 0,vl none 0 0] 39 (0,0))::(aa,Obj.cells #[vs w,vl a c d,vl e f g,vl h j k] 39 (0,0))::(aJ,Obj.cells #[vs aj,vb ak,vb an,vb ao,vb ap,vi aq,vb ar,vs au,vl ac ae af,vi av,vi ab] 77 (0,0))::F2)∧∀(b1:Nat) (I3:cc),cc.le I2 I3→I3 b1=some (Obj.cells #[vs aj,vb ak,vb aw,vb ax,vb ay,vi az,vb aA,vs aB,vl ag ah ai,vi aC,vi ab] 77 (0,0))→cE P (Builtin.append_ #[35,35] 35 #[vl a c d,vl (some ⟨b1,0,none⟩) 1 1]) I3 ((y z)::(b,Obj.cells #[vs (⟨#[]⟩:Bs),vl none 0 0,vl none 0 0,vl none 0 0] 39 (0,0))::(aa,Obj.cells #[vs w,vl a c d,vl e f g,vl h j k] 39 (0,0))::(aJ,Obj.cells #[vs aj,vb ak,vb aw,vb ax,vb ay,vi az,vb aA,vs aB,vl ag ah ai,vi aC,vi ab] 77 (0,0))::F2) fun v I4 G2=>∃(aZ:OA) (a0 a1:Nat),v=vl aZ a0 a1∧∃F3:b8,List.Perm G2 ((y z)::(b,Obj.cells #[vs (⟨#[]⟩:Bs),vl none 0 0,vl none 0 0,vl none 0 0] 39 (0,0))::(aa,Obj.cells #[vs w,vl a c d,vl e f g,vl h j k] 39 (0,0))::(aJ,Obj.cells #[vs aj,vb ak,vb aw,vb ax,vb ay,vi az,vb aA,vs aB,vl ag ah ai,vi aC,vi ab] 77 (0,0))::F3)∧(∃m2:Nat,m2<m1∧Inv8 (IntKind.wrap .i64 (i+1)) w aZ a0 a1 e f g h j k m2 I4 F3)))∧(decide (i<(al:Int))=false→cE P (Builtin.append_ #[36,36] 36 #[vl e f g,vl aV aW aX]) I1 ((y z)::(b,Obj.cells #[vs (⟨#[]⟩:Bs),vl none 0 0,vl none 0 0,vl none 0 0] 39 (0,0))::(aa,Obj.cells #[vs w,vl a c d,vl e f g,vl h j k] 39 (0,0))::F1) fun v1 I5 G3=>∃(aK:OA) (aL aM:Nat),v1=vl aK aL aM∧∃F4:b8,List.Perm G3 ((y z)::(b,Obj.cells #[vs (⟨#[]⟩:Bs),vl none 0 0,vl none 0 0,vl none 0 0] 39 (0,0))::(aa,Obj.cells #[vs w,vl a c d,vl e f g,vl h j k] 39 (0,0))::F4)∧(∃m3:Nat,Inv29 0 w a c d aK aL aM h j k m3 I5 F4)∧∀(i1:Int) (x:Bs) (l:OA) (n o:Nat) (p:OA) (q r:Nat) (s:OA) (t u m4:Nat) (I6:cc) (F5:b8),cc.le I5 I6→Inv29 i1 x l n o p q r s t u m4 I6 F5→((decide (i1<(am:Int))=true→((0≤i1∧i1<(am:Int))∧∃a2:Addr,aY=some a2∧∃(aN:Bs) (aD:OA) (aE aF:Nat) (aO:Int),Rd I6 ((y z)::(b,Obj.cells #[vs (⟨#[]⟩:Bs),vl none 0 0,vl none 0 0,vl none 0 0] 39 (0,0))::(aa,Obj.cells #[vs x,vl l n o,vl p q r,vl s t u] 39 (0,0))::F5) (a2.add (Int.toNat i1*3)) [vs aN,vl aD aE aF,vi aO]∧cg P 51 #[.agg #[vs aN,vl aD aE aF,vi aO]] I6 ((y z)::(b,Obj.cells #[vs (⟨#[]⟩:Bs),vl none 0 0,vl none 0 0,vl none 0 0] 39 (0,0))::(aa,Obj.cells #[vs x,vl l n o,vl p q r,vl s t u] 39 (0,0))::F5) fun e2 I7 G4=>∃(aP:Bs) (aG:OA) (aH aI:Nat) (aQ:Int),e2=.returned (.agg #[vs aP,vl aG aH aI,vi aQ])∧∃F6:b8,List.Perm G4 ((y z)::(b,Obj.cells #[vs (⟨#[]⟩:Bs),vl none 0 0,vl none 0 0,vl none 0 0] 39 (0,0))::(aa,Obj.cells #[vs x,vl l n o,vl p q r,vl s t u] 39 (0,0))::F6)∧∀(b2:Nat) (I8:cc),cc.le I7 I8→I8 b2=some (Obj.cells #[vs aP,vl aG aH aI,vi aQ] 65 (0,0))→cE P (Builtin.append_ #[37,37] 37 #[vl s t u,vl (some ⟨b2,0,none⟩) 1 1]) I8 ((y z)::(b,Obj.cells #[vs (⟨#[]⟩:Bs),vl none 0 0,vl none 0 0,vl none 0 0] 39 (0,0))::(aa,Obj.cells #[vs x,vl l n o,vl p q r,vl s t u] 39 (0,0))::F6) fun v2 I9 G5=>∃(aR:OA) (aS aT:Nat),v2=vl aR aS aT∧∃F7:b8,List.Perm G5 ((y z)::(b,Obj.cells #[vs (⟨#[]⟩:Bs),vl none 0 0,vl none 0 0,vl none 0 0] 39 (0,0))::(aa,Obj.cells #[vs x,vl l n o,vl p q r,vl s t u] 39 (0,0))::F7)∧(∃m5:Nat,m5<m4∧Inv29 (IntKind.wrap .i64 (i1+1)) x l n o p q r aR aS aT m5 I9 F7)))∧(decide (i1<(am:Int))=false→Q (.returned (.agg #[vs x,vl l n o,vl p q r,vl s t u])) I6 F5))))
theorem fm.vc{w:Bs}{d:OA}{e g:Nat}{i:OA}{j p:Nat}{r:OA}{u v:Nat}{I:cc}{F:b8}{Q:cf}(Inv8:Int→Bs→OA→Nat→Nat→OA→Nat→Nat→OA→Nat→Nat→Nat→cc→b8→Prop)(Inv29:Int→Bs→OA→Nat→Nat→OA→Nat→Nat→OA→Nat→Nat→Nat→cc→b8→Prop)(h:fm.V (fun b=>(b,Obj.cells #[.string w,.slice d e g,.slice i j p,.slice r u v] 39 (0,0))) (fun k o t n f s a l c q=>.agg #[.int .u8 k,.int .u8 o,.int .u8 t,.int .i64 n,.int .u8 f,.string s,.slice a l c,.int .i64 q]) (.int .u8) (.int .i64) .string .slice w d e g i j p r u v I F Q Inv8 Inv29):cg P 27 #[.agg #[.string w,.slice d e g,.slice i j p,.slice r u v]] I F Q :=
 tw (A:=(cQ [3004,10004] [] [50,51] BO [(8,⟨[(4,(.int .i64))],[(2,[.str,.slc,.slc,.slc])],fun _ _ _ vs m I F=>match vs with | [.int _ y0,.string y1,.slice y2 y3 y4,.slice y5 y6 y7,.slice y8 y9 y10]=>Inv8 y0 y1 y2 y3 y4 y5 y6 y7 y8 y9 y10 m I F | _=>False,[],[]⟩),(29,⟨[(6,(.int .i64))],[(2,[.str,.slc,.slc,.slc])],fun _ _ _ vs m I F=>match vs with | [.int _ y0,.string y1,.slice y2 y3 y4,.slice y5 y6 y7,.slice y8 y9 y10]=>Inv29 y0 y1 y2 y3 y4 y5 y6 y7 y8 y9 y10 m I F | _=>False,[],[]⟩)] [7003,12008] [] [] [] [(12,[0,2,4,1,3,5,6,7,8,9,10,11])] [] [] [(12,[1],11)])) [50,51] func27 h
def gV.V(s:Nat→Nat×Obj)(nV:Int→Int→Int→Int→Int→Bs→OA→Nat→Nat→Int→Value)(vb vi:Int→Value)(vs:Bs→Value)(vl:OA→Nat→Nat→Value)(bZ:Bs)(bJ:OA)(w b3:Nat)(b0:Int)(I:cc)(F:b8)(Q:cf)(Inv8:OA→Nat→Nat→Int→Nat→cc→b8→cc→b8→Prop)(Inv25:Int→OA→Nat→Nat→Int→Nat→cc→b8→cc→b8→Prop):Prop:=∀t:Nat,∀b:Nat,(∃m:Nat,Inv8 none 0 0 0 m I F I F)∧∀(aH:OA) (aI aJ:Nat) (i:Int) (m1:Nat) (I1:cc) (F1:b8),cc.le I I1→Inv8 aH aI aJ i m1 I F I1 F1→((decide (i<(w:Int))=true→((0≤i∧i<(w:Int))∧∃ad:Addr,bJ=some ad∧∃(h j l n o:Int) (p:Bs) (c:OA) (d e:Nat) (q:Int) (f:OA) (a g:Nat) (r:Int),Rd I1 ((s t)::(b,Obj.cells #[vs (⟨#[]⟩:Bs),vl none 0 0,vi 0] 65 (0,0))::F1) (ad.add (Int.toNat i*10)) [vb h,vb j,vb l,vi n,vb o,vs p,vl c d e,vi q,vl f a g,vi r]∧∀u:Nat,(∃m2:Nat,Inv25 i none 0 0 0 m2 I1 F1 I1 F1)∧∀(x:OA) (y z:Nat) (k:Int) (m3:Nat) (I2:cc) (F2:b8),cc.le I1 I2→Inv25 i x y z k m3 I1 F1 I2 F2→((decide (k<(a:Int))=true→((0≤k∧k<(a:Int))∧∃bY:Addr,f=some bY∧∃(aK aL:Int) (aM:Bs) (aN aO aP bK aQ:Int) (bL:Bs) (av:OA) (aw ax:Nat) (aR ay aS aT aU aV:Int) (aW:Bs) (aa:OA) (ab ac:Nat) (aX aY aZ az a0 a1:Int) (a2:Bs) (ae:OA) (af ag:Nat) (a3 a4 a5 a6 a7 aA:Int) (a8:Bs) (ah:OA) (ai aj:Nat) (a9 ba:Int),Rd I2 ((s t)::(b,Obj.cells #[vs (⟨#[]⟩:Bs),vl none 0 0,vi 0] 65 (0,0))::(u,Obj.cells #[vb h,vb j,vb l,vi n,vb o,vs p,vl c d e,vi q,vl f a g,vi r] 84 (0,0))::F2) (bY.add (Int.toNat k*36)) [vb aK,vb aL,vs aM,vb aN,vb aO,vb aP,vi bK,vb aQ,vs bL,vl av aw ax,vi aR,vb ay,vb aS,vb aT,vi aU,vb aV,vs aW,vl aa ab ac,vi aX,vb aY,vb aZ,vb az,vi a0,vb a1,vs a2,vl ae af ag,vi a3,vb a4,vb a5,vb a6,vi a7,vb aA,vs a8,vl ah ai aj,vi a9,vi ba]∧cg P 83 #[.agg #[vb aK,vb aL,vs aM,vb aN,vb aO,vb aP,vi bK,vb aQ,vs bL,vl av aw ax,vi aR,vb ay,vb aS,vb aT,vi aU,vb aV,vs aW,vl aa ab ac,vi aX,vb aY,vb aZ,vb az,vi a0,vb a1,vs a2,vl ae af ag,vi a3,vb a4,vb a5,vb a6,vi a7,vb aA,vs a8,vl ah ai aj,vi a9,vi ba]] I2 ((s t)::(b,Obj.cells #[vs (⟨#[]⟩:Bs),vl none 0 0,vi 0] 65 (0,0))::(u,Obj.cells #[vb h,vb j,vb l,vi n,vb o,vs p,vl c d e,vi q,vl f a g,vi r] 84 (0,0))::F2) fun e1 I3 G1=>∃(bM bN:Int) (bO:Bs) (bP bQ bR bS bT:Int) (bU:Bs) (aB:OA) (aC aD:Nat) (bb bc bd be bf bg:Int) (bh:Bs) (ak:OA) (al am:Nat) (bi bj bk bl bm bn:Int) (bo:Bs) (an:OA) (ao ap:Nat) (bp bq br bs bt bu:Int) (bv:Bs) (aq:OA) (ar au:Nat) (bw bx:Int),e1=.returned (.agg #[vb bM,vb bN,vs bO,vb bP,vb bQ,vb bR,vi bS,vb bT,vs bU,vl aB aC aD,vi bb,vb bc,vb bd,vb be,vi bf,vb bg,vs bh,vl ak al am,vi bi,vb bj,vb bk,vb bl,vi bm,vb bn,vs bo,vl an ao ap,vi bp,vb bq,vb br,vb bs,vi bt,vb bu,vs bv,vl aq ar au,vi bw,vi bx])∧∃F3:b8,List.Perm G1 ((s t)::(b,Obj.cells #[vs (⟨#[]⟩:Bs),vl none 0 0,vi 0] 65 (0,0))::(u,Obj.cells #[vb h,vb j,vb l,vi n,vb o,vs p,vl c d e,vi q,vl f a g,vi r] 84 (0,0))::F3)∧∀(b1:Nat) (I4:cc),cc.le I3 I4→I4 b1=some (Obj.cells #[vb bM,vb bN,vs bO,vb bP,vb bQ,vb bR,vi bS,vb bT,vs bU,vl aB aC aD,vi bb,vb bc,vb bd,vb be,vi bf,vb bg,vs bh,vl ak al am,vi bi,vb bj,vb bk,vb bl,vi bm,vb bn,vs bo,vl an ao ap,vi bp,vb bq,vb br,vb bs,vi bt,vb bu,vs bv,vl aq ar au,vi bw,vi bx] 99 (0,0))→cE P (Builtin.append_ #[82,82] 82 #[vl x y z,vl (some ⟨b1,0,none⟩) 1 1]) I4 ((s t)::(b,Obj.cells #[vs (⟨#[]⟩:Bs),vl none 0 0,vi 0] 65 (0,0))::(u,Obj.cells #[vb h,vb j,vb l,vi n,vb o,vs p,vl c d e,vi q,vl f a g,vi r] 84 (0,0))::F3) fun v I5 G2=>∃(bV:OA) (bW bX:Nat),v=vl bV bW bX∧∃F4:b8,List.Perm G2 ((s t)::(b,Obj.cells #[vs (⟨#[]⟩:Bs),vl none 0 0,vi 0] 65 (0,0))::(u,Obj.cells #[vb h,vb j,vb l,vi n,vb o,vs p,vl c d e,vi q,vl f a g,vi r] 84 (0,0))::F4)∧(∃m4:Nat,m4<m3∧Inv25 i bV bW bX (IntKind.wrap .i64 (k+1)) m4 I1 F1 I5 F4)))∧(decide (k<(a:Int))=false→cg P 50 #[nV h j l n o p c d e q] I2 ((s t)::(b,Obj.cells #[vs (⟨#[]⟩:Bs),vl none 0 0,vi 0] 65 (0,0))::(u,Obj.cells #[vb h,vb j,vb l,vi n,vb o,vs p,vl c d e,vi q,vl f a g,vi r] 84 (0,0))::F2) fun e2 I6 G3=>∃(bz bA bB bC bD:Int) (bE:Bs) (aE:OA) (aF aG:Nat) (bF:Int),e2=.returned (nV bz bA bB bC bD bE aE aF aG bF)∧∃F5:b8,List.Perm G3 ((s t)::(b,Obj.cells #[vs (⟨#[]⟩:Bs),vl none 0 0,vi 0] 65 (0,0))::(u,Obj.cells #[vb h,vb j,vb l,vi n,vb o,vs p,vl c d e,vi q,vl f a g,vi r] 84 (0,0))::F5)∧∀(b2:Nat) (I7:cc),cc.le I6 I7→I7 b2=some (Obj.cells #[vb bz,vb bA,vb bB,vi bC,vb bD,vs bE,vl aE aF aG,vi bF,vl x y z,vi r] 84 (0,0))→cE P (Builtin.append_ #[63,63] 63 #[vl aH aI aJ,vl (some ⟨b2,0,none⟩) 1 1]) I7 ((s t)::(b,Obj.cells #[vs (⟨#[]⟩:Bs),vl none 0 0,vi 0] 65 (0,0))::(u,Obj.cells #[vb h,vb j,vb l,vi n,vb o,vs p,vl c d e,vi q,vl f a g,vi r] 84 (0,0))::F5) fun v1 I8 G4=>∃(bG:OA) (bH bI:Nat),v1=vl bG bH bI∧∃F6:b8,List.Perm G4 ((s t)::(b,Obj.cells #[vs (⟨#[]⟩:Bs),vl none 0 0,vi 0] 65 (0,0))::(u,Obj.cells #[vb h,vb j,vb l,vi n,vb o,vs p,vl c d e,vi q,vl f a g,vi r] 84 (0,0))::F6)∧(∃m5:Nat,m5<m1∧Inv8 bG bH bI (IntKind.wrap .i64 (i+1)) m5 I F I8 F6)))))∧(decide (i<(w:Int))=false→Q (.returned (.agg #[vs bZ,vl aH aI aJ,vi b0])) I1 F1))
theorem gV.vc{i:Bs}{d:OA}{e g:Nat}{j:Int}{I:cc}{F:b8}{Q:cf}(Inv8:OA→Nat→Nat→Int→Nat→cc→b8→cc→b8→Prop)(Inv25:Int→OA→Nat→Nat→Int→Nat→cc→b8→cc→b8→Prop)(h:gV.V (fun b=>(b,Obj.cells #[.string i,.slice d e g,.int .i64 j] 65 (0,0))) (fun k o t n f s a l c q=>.agg #[.int .u8 k,.int .u8 o,.int .u8 t,.int .i64 n,.int .u8 f,.string s,.slice a l c,.int .i64 q]) (.int .u8) (.int .i64) .string .slice i d e g j I F Q Inv8 Inv25):cg P 51 #[.agg #[.string i,.slice d e g,.int .i64 j]] I F Q :=
 tw (A:=(cQ [3004,8004] [] [50,83] BO [(8,⟨[(3,.slc),(4,(.int .i64))],[],fun fs I0 F0 vs m I F=>match fs,vs with | [],[.slice y0 y1 y2,.int _ y3]=>Inv8 y0 y1 y2 y3 m I0 F0 I F | _,_=>False,[],[]⟩),(25,⟨[(6,.slc),(7,(.int .i64))],[],fun fs I0 F0 vs m I F=>match fs,vs with | [.int _ y0],[.slice y1 y2 y3,.int _ y4]=>Inv25 y0 y1 y2 y3 y4 m I0 F0 I F | _,_=>False,[4],[]⟩)] [10007,11008] [] [] [] [(11,[0,1,4,5,6,2,3,7,8,9,10])] [] [] [(11,[6],11)])) [50,83] func51 h
def jX.V(nV:Int→Int→Int→Int→Int→Bs→OA→Nat→Nat→Int→Value)(vb vi:Int→Value)(vs:Bs→Value)(vl:OA→Nat→Nat→Value)(af ag:Int)(ah:Bs)(aX aY aZ a0 a1:Int)(a2:Bs)(aJ:OA)(aK aL:Nat)(aW aC aD aE aF aG:Int)(aH:Bs)(v:OA)(w x:Nat)(aI y z aa ab ac:Int)(ad:Bs)(e:OA)(f g:Nat)(ae n o p q r:Int)(s:Bs)(a:OA)(c d:Nat)(t u:Int)(I:cc)(F:b8)(Q:cf)  : Prop:=∀aB:Nat,∀b:Nat,cg P 50 #[nV aX aY aZ a0 a1 a2 aJ aK aL aW] I ((aB,Obj.cells #[vb af,vb ag,vs ah,vb aX,vb aY,vb aZ,vi a0,vb a1,vs a2,vl aJ aK aL,vi aW,vb aC,vb aD,vb aE,vi aF,vb aG,vs aH,vl v w x,vi aI,vb y,vb z,vb aa,vi ab,vb ac,vs ad,vl e f g,vi ae,vb n,vb o,vb p,vi q,vb r,vs s,vl a c d,vi t,vi u] 99 (0,0))::(b,Obj.cells #[vb 0,vb 0,vs (⟨#[]⟩:Bs),vb 0,vb 0,vb 0,vi 0,vb 0,vs (⟨#[]⟩:Bs),vl none 0 0,vi 0,vb 0,vb 0,vb 0,vi 0,vb 0,vs (⟨#[]⟩:Bs),vl none 0 0,vi 0,vb 0,vb 0,vb 0,vi 0,vb 0,vs (⟨#[]⟩:Bs),vl none 0 0,vi 0,vb 0,vb 0,vb 0,vi 0,vb 0,vs (⟨#[]⟩:Bs),vl none 0 0,vi 0,vi 0] 99 (0,0))::F) fun e1 I1 G1=>∃(au av aw ax ay:Int) (az:Bs) (h:OA) (i j:Nat) (aA:Int),e1=.returned (nV au av aw ax ay az h i j aA)∧∃F1:b8,List.Perm G1 ((aB,Obj.cells #[vb af,vb ag,vs ah,vb aX,vb aY,vb aZ,vi a0,vb a1,vs a2,vl aJ aK aL,vi aW,vb aC,vb aD,vb aE,vi aF,vb aG,vs aH,vl v w x,vi aI,vb y,vb z,vb aa,vi ab,vb ac,vs ad,vl e f g,vi ae,vb n,vb o,vb p,vi q,vb r,vs s,vl a c d,vi t,vi u] 99 (0,0))::(b,Obj.cells #[vb 0,vb 0,vs (⟨#[]⟩:Bs),vb 0,vb 0,vb 0,vi 0,vb 0,vs (⟨#[]⟩:Bs),vl none 0 0,vi 0,vb 0,vb 0,vb 0,vi 0,vb 0,vs (⟨#[]⟩:Bs),vl none 0 0,vi 0,vb 0,vb 0,vb 0,vi 0,vb 0,vs (⟨#[]⟩:Bs),vl none 0 0,vi 0,vb 0,vb 0,vb 0,vi 0,vb 0,vs (⟨#[]⟩:Bs),vl none 0 0,vi 0,vi 0] 99 (0,0))::F1)∧cg P 50 #[nV aC aD aE aF aG aH v w x aI] I1 ((aB,Obj.cells #[vb af,vb ag,vs ah,vb au,vb av,vb aw,vi ax,vb ay,vs az,vl h i j,vi aA,vb aC,vb aD,vb aE,vi aF,vb aG,vs aH,vl v w x,vi aI,vb y,vb z,vb aa,vi ab,vb ac,vs ad,vl e f g,vi ae,vb n,vb o,vb p,vi q,vb r,vs s,vl a c d,vi t,vi u] 99 (0,0))::(b,Obj.cells #[vb 0,vb 0,vs (⟨#[]⟩:Bs),vb 0,vb 0,vb 0,vi 0,vb 0,vs (⟨#[]⟩:Bs),vl none 0 0,vi 0,vb 0,vb 0,vb 0,vi 0,vb 0,vs (⟨#[]⟩:Bs),vl none 0 0,vi 0,vb 0,vb 0,vb 0,vi 0,vb 0,vs (⟨#[]⟩:Bs),vl none 0 0,vi 0,vb 0,vb 0,vb 0,vi 0,vb 0,vs (⟨#[]⟩:Bs),vl none 0 0,vi 0,vi 0] 99 (0,0))::F1) fun e2 I2 G2=>∃(al am an ao ap:Int) (aq:Bs) (k:OA) (l m:Nat) (ar:Int),e2=.returned (nV al am an ao ap aq k l m ar)∧∃F2:b8,List.Perm G2 ((aB,Obj.cells #[vb af,vb ag,vs ah,vb au,vb av,vb aw,vi ax,vb ay,vs az,vl h i j,vi aA,vb aC,vb aD,vb aE,vi aF,vb aG,vs aH,vl v w x,vi aI,vb y,vb z,vb aa,vi ab,vb ac,vs ad,vl e f g,vi ae,vb n,vb o,vb p,vi q,vb r,vs s,vl a c d,vi t,vi u] 99 (0,0))::(b,Obj.cells #[vb 0,vb 0,vs (⟨#[]⟩:Bs),vb 0,vb 0,vb 0,vi 0,vb 0,vs (⟨#[]⟩:Bs),vl none 0 0,vi 0,vb 0,vb 0,vb 0,vi 0,vb 0,vs (⟨#[]⟩:Bs),vl none 0 0,vi 0,vb 0,vb 0,vb 0,vi 0,vb 0,vs (⟨#[]⟩:Bs),vl none 0 0,vi 0,vb 0,vb 0,vb 0,vi 0,vb 0,vs (⟨#[]⟩:Bs),vl none 0 0,vi 0,vi 0] 99 (0,0))::F2)∧cg P 50 #[nV y z aa ab ac ad e f g ae] I2 ((aB,Obj.cells #[vb af,vb ag,vs ah,vb au,vb av,vb aw,vi ax,vb ay,vs az,vl h i j,vi aA,vb al,vb am,vb an,vi ao,vb ap,vs aq,vl k l m,vi ar,vb y,vb z,vb aa,vi ab,vb ac,vs ad,vl e f g,vi ae,vb n,vb o,vb p,vi q,vb r,vs s,vl a c d,vi t,vi u] 99 (0,0))::(b,Obj.cells #[vb 0,vb 0,vs (⟨#[]⟩:Bs),vb 0,vb 0,vb 0,vi 0,vb 0,vs (⟨#[]⟩:Bs),vl none 0 0,vi 0,vb 0,vb 0,vb 0,vi 0,vb 0,vs (⟨#[]⟩:Bs),vl none 0 0,vi 0,vb 0,vb 0,vb 0,vi 0,vb 0,vs (⟨#[]⟩:Bs),vl none 0 0,vi 0,vb 0,vb 0,vb 0,vi 0,vb 0,vs (⟨#[]⟩:Bs),vl none 0 0,vi 0,vi 0] 99 (0,0))::F2) fun e3 I3 G3=>∃(aM aN aO aP aQ:Int) (aR:Bs) (ai:OA) (aj ak:Nat) (aS:Int),e3=.returned (nV aM aN aO aP aQ aR ai aj ak aS)∧∃F3:b8,List.Perm G3 ((aB,Obj.cells #[vb af,vb ag,vs ah,vb au,vb av,vb aw,vi ax,vb ay,vs az,vl h i j,vi aA,vb al,vb am,vb an,vi ao,vb ap,vs aq,vl k l m,vi ar,vb y,vb z,vb aa,vi ab,vb ac,vs ad,vl e f g,vi ae,vb n,vb o,vb p,vi q,vb r,vs s,vl a c d,vi t,vi u] 99 (0,0))::(b,Obj.cells #[vb 0,vb 0,vs (⟨#[]⟩:Bs),vb 0,vb 0,vb 0,vi 0,vb 0,vs (⟨#[]⟩:Bs),vl none 0 0,vi 0,vb 0,vb 0,vb 0,vi 0,vb 0,vs (⟨#[]⟩:Bs),vl none 0 0,vi 0,vb 0,vb 0,vb 0,vi 0,vb 0,vs (⟨#[]⟩:Bs),vl none 0 0,vi 0,vb 0,vb 0,vb 0,vi 0,vb 0,vs (⟨#[]⟩:Bs),vl none 0 0,vi 0,vi 0] 99 (0,0))::F3)∧cg P 50 #[nV n o p q r s a c d t] I3 ((aB,Obj.cells #[vb af,vb ag,vs ah,vb au,vb av,vb aw,vi ax,vb ay,vs az,vl h i j,vi aA,vb al,vb am,vb an,vi ao,vb ap,vs aq,vl k l m,vi ar,vb aM,vb aN,vb aO,vi aP,vb aQ,vs aR,vl ai aj ak,vi aS,vb n,vb o,vb p,vi q,vb r,vs s,vl a c d,vi t,vi u] 99 (0,0))::(b,Obj.cells #[vb 0,vb 0,vs (⟨#[]⟩:Bs),vb 0,vb 0,vb 0,vi 0,vb 0,vs (⟨#[]⟩:Bs),vl none 0 0,vi 0,vb 0,vb 0,vb 0,vi 0,vb 0,vs (⟨#[]⟩:Bs),vl none 0 0,vi 0,vb 0,vb 0,vb 0,vi 0,vb 0,vs (⟨#[]⟩:Bs),vl none 0 0,vi 0,vb 0,vb 0,vb 0,vi 0,vb 0,vs (⟨#[]⟩:Bs),vl none 0 0,vi 0,vi 0] 99 (0,0))::F3) fun e4 I4 G4=>∃(a3 a4 a5 a6 a7:Int) (a8:Bs) (aT:OA) (aU aV:Nat) (a9:Int),e4=.returned (nV a3 a4 a5 a6 a7 a8 aT aU aV a9)∧∃F4:b8,List.Perm G4 ((aB,Obj.cells #[vb af,vb ag,vs ah,vb au,vb av,vb aw,vi ax,vb ay,vs az,vl h i j,vi aA,vb al,vb am,vb an,vi ao,vb ap,vs aq,vl k l m,vi ar,vb aM,vb aN,vb aO,vi aP,vb aQ,vs aR,vl ai aj ak,vi aS,vb n,vb o,vb p,vi q,vb r,vs s,vl a c d,vi t,vi u] 99 (0,0))::(b,Obj.cells #[vb 0,vb 0,vs (⟨#[]⟩:Bs),vb 0,vb 0,vb 0,vi 0,vb 0,vs (⟨#[]⟩:Bs),vl none 0 0,vi 0,vb 0,vb 0,vb 0,vi 0,vb 0,vs (⟨#[]⟩:Bs),vl none 0 0,vi 0,vb 0,vb 0,vb 0,vi 0,vb 0,vs (⟨#[]⟩:Bs),vl none 0 0,vi 0,vb 0,vb 0,vb 0,vi 0,vb 0,vs (⟨#[]⟩:Bs),vl none 0 0,vi 0,vi 0] 99 (0,0))::F4)∧Q (.returned (.agg #[vb af,vb ag,vs ah,vb au,vb av,vb aw,vi ax,vb ay,vs az,vl h i j,vi aA,vb al,vb am,vb an,vi ao,vb ap,vs aq,vl k l m,vi ar,vb aM,vb aN,vb aO,vi aP,vb aQ,vs aR,vl ai aj ak,vi aS,vb a3,vb a4,vb a5,vi a6,vb a7,vs a8,vl aT aU aV,vi a9,vi u])) I4 (F4)
theorem jX.vc{ax ay:Int}{az:Bs}{aA aB aC aD aE:Int}{aF:Bs}{u:OA}{v w:Nat}{x y z aa ab ac:Int}{ad:Bs}{b:OA}{d e:Nat}{ae af ag ah ai aj:Int}{ak:Bs}{g:OA}{i j:Nat}{al am ao ap aq ar:Int}{au:Bs}{m:OA}{p r:Nat}{av aw:Int}{I:cc}{F:b8}{Q:cf}  (h:jX.V (fun k o t n f s a l c q=>.agg #[.int .u8 k,.int .u8 o,.int .u8 t,.int .i64 n,.int .u8 f,.string s,.slice a l c,.int .i64 q]) (.int .u8) (.int .i64) .string .slice ax ay az aA aB aC aD aE aF u v w x y z aa ab ac ad b d e ae af ag ah ai aj ak g i j al am ao ap aq ar au m p r av aw I F Q):cg P 83 #[.agg #[.int .u8 ax,.int .u8 ay,.string az,.int .u8 aA,.int .u8 aB,.int .u8 aC,.int .i64 aD,.int .u8 aE,.string aF,.slice u v w,.int .i64 x,.int .u8 y,.int .u8 z,.int .u8 aa,.int .i64 ab,.int .u8 ac,.string ad,.slice b d e,.int .i64 ae,.int .u8 af,.int .u8 ag,.int .u8 ah,.int .i64 ai,.int .u8 aj,.string ak,.slice g i j,.int .i64 al,.int .u8 am,.int .u8 ao,.int .u8 ap,.int .i64 aq,.int .u8 ar,.string au,.slice m p r,.int .i64 av,.int .i64 aw]] I F Q :=
 tw (A:=(an [] [50] BO)) [50] func83 h
end Go.Lx
namespace Go.Lx
open Go.Vc
theorem Gk{F:b8}:∀x,x∈([]:b8)→x∈F:=fun x hx=>absurd hx (by simp)
def eC:List Int→Int
 | []=>0
 | x::r=>x+eC r
def HS(k:Int)(w:List Int):Int:=if k=7 then iL w 0+max (iL w 1) (iL w 2)+2 else (if k=9 then 0 else 1)+eC w
namespace Px
mutual
def wt:Px→Int
 | .mk k _ _ _ _ _ l _=>HS k (Ja l)
def Ja:List Px→List Int
 | []=>[]
 | x::r=>wt x::Ja r
end
theorem CF:∀l:List Px,Ja l=l.map wt
 | []=>by rw[Ja];rfl
 | x::r=>by rw[Ja,CF r];rfl
theorem GL(x:Px):x.wt=HS x.kind (x.kids.map wt):=by cases x;rw[wt,CF];rfl
theorem xe:∀{l:List Px},(∀k∈l,1≤k.wt∧k.wt+1≤2*k.size)→(l.length:Int)≤eC (l.map wt)∧eC (l.map wt)+l.length≤2*fp l
 | [],_=>⟨Int.le_refl 0,Int.le_refl 0⟩
 | x::r,h=>by
   have h1:=h x (.head _)
   have h2:=xe fun k hk=>h k (.tail _ hk)
   rw[List.map_cons,eC,fp,List.length_cons]
   omega
theorem kA:∀x:Px,x.formed=true→1≤x.wt∧x.wt+1≤2*x.size:=by
 refine ind fun x ih hf=>?_
 have h1:x.ig=true:=by rw[eD,Bool.and_eq_true] at hf;exact hf.1
 have hl:x.kids.length=arity x:=by
  unfold ig at h1
  rw[Bool.and_eq_true,decide_eq_true_eq] at h1
  exact h1.2
 have hk:∀k∈x.kids,1≤k.wt∧k.wt+1≤2*k.size:=fun k hm=>ih k hm (iR hf k hm)
 rw[GL,size_eq]
 have hs:=xe hk
 unfold HS
 by_cases h7:x.kind=7
 ·rw[if_pos h7]
  have h3:x.kids.length=3:=by rw[hl];unfold arity;rw[h7];rfl
  match hx:x.kids,h3 with
  | [a,b,c],_ =>
    rw[hx] at hk
    have ha:=hk a (.head _)
    have hb:=hk b (.tail _ (.head _))
    have hc:=hk c (.tail _ (.tail _ (.head _)))
    rw[fp,fp,fp,fp]
    show 1≤a.wt+max b.wt c.wt+2∧a.wt+max b.wt c.wt+2+1≤_
    omega
 ·rw[if_neg h7]
  by_cases h9:x.kind=9
  ·rw[if_pos h9]
   have h1:x.kids.length=1:=by rw[hl];unfold arity;rw[h9];rfl
   omega
  ·rw[if_neg h9];omega
end Px
def iG(x:Px):Int:=if x.kind=0 then 0 else x.wt
def dS.wt(d:dS):Int:=iG d.side+iG d.qty+iG d.price+iG d.value
def dS.act(d:dS):Int:=if d.kind=1∨d.kind=2∨d.kind=3 then 1 else 0
def cM.body(r:cM):Int:=eC (r.dos.map dS.wt)
def cM.fu(r:cM):Int:=eC (r.dos.map dS.act)
def gK(m:Int)(l:List Int):Int:=l.foldl max m
def cq.steps(x:cq):Int:=eC (x.rules.map fun r=>r.when.wt)+gK 0 (x.rules.map cM.body)
def cq.fu(x:cq):Int:=gK 0 (x.rules.map cM.fu)
end Go.Lx
namespace Go.Lx
open Go.Vc Go.Proofs.Tryz
def ou:List (Nat×List Sh):=[(0,[]),(3,[.one (.int .i64)]),(28,[.agg [(.int .u8),(.int .u8),(.int .u8),(.int .i64),(.int .u8),.str,.slc,(.int .i64)]]),(42,[.one .slc]),(44,[.one .any]),(45,[.one .slc,.one .any]),(47,[.one (.int .i64)]),(57,[.agg [(.int .i64),(.int .i64)]]),(65,[.agg [.str,.slc,(.int .i64)]]),(84,[.agg [(.int .u8),(.int .u8),(.int .u8),(.int .i64),(.int .u8),.str,.slc,(.int .i64),.slc,(.int .i64)]]),(99,[.agg [(.int .u8),(.int .u8),.str,(.int .u8),(.int .u8),(.int .u8),(.int .i64),(.int .u8),.str,.slc,(.int .i64),(.int .u8),(.int .u8),(.int .u8),(.int .i64),(.int .u8),.str,.slc,(.int .i64),(.int .u8),(.int .u8),(.int .u8),(.int .i64),(.int .u8),.str,.slc,(.int .i64),(.int .u8),(.int .u8),(.int .u8),(.int .i64),(.int .u8),.str,.slc,(.int .i64),(.int .i64)]])]
def jg.V(c:Int)(d:OA)(b e:Nat)(I:cc)(F:b8)(Q:cf)(Inv6:Int→Int→Nat→cc→b8→Prop):Prop:=(∃m:Nat,Inv6 c 0 m I F)∧∀(a x:Int) (m1:Nat) (I1:cc) (F1:b8),cc.le I I1→Inv6 a x m1 I1 F1→(Dt (x<(b:Int)) ((0≤x∧x<(b:Int))∧∃ad:Addr,d=some ad∧∃(m2:Int),Rd I1 F1 (ad.add (Int.toNat x*1)) [.int .i64 m2]∧(∃m3:Nat,m3<m1∧Inv6 (if m2>a then m2 else a) (IntKind.wrap .i64 (x+1)) m3 I1 F1)) (Q (.returned (.int .i64 a)) I1 F1))
theorem jg.vc{a:Int}{b:OA}{c d:Nat}{I:cc}{F:b8}{Q:cf}(Inv6:Int→Int→Nat→cc→b8→Prop)(h:jg.V a b c d I F Q Inv6):cg P 42 #[.int .i64 a,.slice b c d] I F Q :=
 tw (A:=(cQ [2000] [] [] ou [(6,⟨[(0,(.int .i64)),(9,(.int .i64))],[],fun _ _ _ vs m I F=>match vs with | [.int _ y0,.int _ y1]=>Inv6 y0 y1 m I F | _=>False,[],[]⟩)] [] [] [] [] [] [])) [] func42 h
def ll.V(c:Nat→Nat×Obj)(nV:Int→Int→Int→Int→Int→Bs→OA→Nat→Nat→Int→Value)(nO:Int→Int→Int→Int→Int→Bs→OA→Nat→Nat→Int→Obj)(nL:Int→Int→Int→Int→Int→Bs→OA→Nat→Nat→Int→List Value)(vi:Int→Value)(wr:Int→Int)(ab aR aS aT aU:Int)(aV:Bs)(e:OA)(d aQ:Nat)(aW:Int)(I:cc)(F:b8)(Q:cf)(Inv25:OA→Int→Int→Nat→cc→b8→cc→b8→Prop):Prop:=∀a:Nat,(It (ab==7) ((0≤(0:Int)∧(0:Int)<(d:Int))∧∃ad:Addr,e=some ad∧((0≤(1:Int)∧(1:Int)<(d:Int))∧∃aL:Addr,e=some aL∧∃(aE aF aG aH aI:Int) (aJ:Bs) (ac:OA) (ae af:Nat) (aK:Int),Rd I ([]) (aL.add (Int.toNat 1*8)) (nL aE aF aG aH aI aJ ac ae af aK)∧((0≤(2:Int)∧(2:Int)<(d:Int))∧∃aM:Addr,e=some aM∧∃(ag ah ai aj ak:Int) (al:Bs) (q:OA) (s t:Nat) (am:Int),Rd I ([]) (aM.add (Int.toNat 2*8)) (nL ag ah ai aj ak al q s t am)∧∃(an ao ap aq ar:Int) (au:Bs) (u:OA) (v w:Nat) (av:Int),Rd I ((c a)::F) (ad.add (Int.toNat 0*8)) (nL an ao ap aq ar au u v w av)∧cF P 32 #[nV an ao ap aq ar au u v w av] I ((c a)::·) F vi fun r I1 F1=>cF P 32 #[nV aE aF aG aH aI aJ ac ae af aK] I1 ((c a)::·) F1 vi fun r1 I2 F2=>cF P 32 #[nV ag ah ai aj ak al q s t am] I2 ((c a)::·) F2 vi fun r2 I3 F3=>∀(b:Nat) (I4:cc),cc.le I3 I4→I4 b=some (Obj.cells #[vi r2] 3 (0,0))→cF P 42 (#[vi r1,.slice (some ⟨b,0,none⟩) 1 1]) I4 ((c a)::·) F3 vi fun r3 I5 F4=>Q (.returned (vi (wr ((wr (r+r3))+2)))) I5 F4))) (It (ab==9) ((0≤(0:Int)∧(0:Int)<(d:Int))∧∃aN:Addr,e=some aN∧∃(aw ax ay az aA:Int) (aB:Bs) (y:OA) (z aa:Nat) (aC:Int),Rd I ((c a)::F) (aN.add (Int.toNat 0*8)) (nL aw ax ay az aA aB y z aa aC)∧cF P 32 #[nV aw ax ay az aA aB y z aa aC] I ((c a)::·) F vi fun r4 I6 F5=>Q (.returned (vi r4)) I6 F5) ((∃m:Nat,Inv25 (some ⟨a,0,none⟩) 1 0 m I F I F)∧∀(aD x:Int) (m1:Nat) (I7:cc) (F6:b8),cc.le I I7→Inv25 (some ⟨a,0,none⟩) aD x m1 I F I7 F6→(Dt (x<(d:Int)) ((0≤x∧x<(d:Int))∧∃aO:Addr,e=some aO∧∃(i j k l n:Int) (o:Bs) (f:OA) (g h:Nat) (p:Int),Rd I7 ((c a)::F6) (aO.add (Int.toNat x*8)) (nL i j k l n o f g h p)∧∀aP:Nat,cF P 32 #[nV i j k l n o f g h p] I7 ((c a)::(aP,nO i j k l n o f g h p)::·) F6 vi fun r5 I8 F7=>(∃m2:Nat,m2<m1∧Inv25 (some ⟨a,0,none⟩) (wr (aD+r5)) (wr (x+1)) m2 I F I8 F7)) (Q (.returned (vi aD)) I7 F6)))))
theorem ll.vc{i j p r u:Int}{v:Bs}{d:OA}{e g:Nat}{w:Int}{I:cc}{F:b8}{Q:cf}(Inv25:OA→Int→Int→Nat→cc→b8→cc→b8→Prop)(h:ll.V (fun b=>(b,Obj.cells #[.int .u8 i,.int .u8 j,.int .u8 p,.int .i64 r,.int .u8 u,.string v,.slice d e g,.int .i64 w] 28 (0,0))) (fun k o t n f s a l c q=>.agg #[.int .u8 k,.int .u8 o,.int .u8 t,.int .i64 n,.int .u8 f,.string s,.slice a l c,.int .i64 q]) (fun k o t n f s a l c q=>.cells #[.int .u8 k,.int .u8 o,.int .u8 t,.int .i64 n,.int .u8 f,.string s,.slice a l c,.int .i64 q] 28 (0,0)) (fun k o t n f s a l c q=>[.int .u8 k,.int .u8 o,.int .u8 t,.int .i64 n,.int .u8 f,.string s,.slice a l c,.int .i64 q]) (.int .i64) (IntKind.wrap .i64) i j p r u v d e g w I F Q Inv25):cg P 32 #[.agg #[.int .u8 i,.int .u8 j,.int .u8 p,.int .i64 r,.int .u8 u,.string v,.slice d e g,.int .i64 w]] I F Q :=
 tw (A:=(cQ [2000,4000,8000] [] [32,42] ou [(25,⟨[(3,(.int .i64)),(39,(.int .i64))],[],fun fs I0 F0 vs m I F=>match fs,vs with | [.pointer y0],[.int _ y1,.int _ y2]=>Inv25 y0 y1 y2 m I0 F0 I F | _,_=>False,[1],[]⟩)] [3015] [] [] [] [(3,[0,5,10,1,2,6,7,8,11,12,13,3,4,9,14,15,16,17,18,19])] [] [] [(3,[1,6,8,11,13],20)])) [32,42] func32 h
def o9.V(a:Nat→Nat×Obj)(nV:Int→Int→Int→Int→Int→Bs→OA→Nat→Nat→Int→Value)(vi:Int→Value)(f g h i j:Int)(k:Bs)(b:OA)(c d:Nat)(l:Int)(I:cc)(F:b8)(Q:cf)  : Prop:=∀e:Nat,cF P 31 #[nV f g h i j k b c d l] I ((a e)::·) F vi fun r I1 F1=>(It (r==120) (Q (.returned (vi 0)) I1 F1) (cF P 32 #[nV f g h i j k b c d l] I1 ((a e)::·) F1 vi fun r1 I2 F2=>Q (.returned (vi r1)) I2 F2))
theorem o9.vc{i j m p r:Int}{u:Bs}{d:OA}{e g:Nat}{v:Int}{I:cc}{F:b8}{Q:cf}  (h:o9.V (fun b=>(b,Obj.cells #[.int .u8 i,.int .u8 j,.int .u8 m,.int .i64 p,.int .u8 r,.string u,.slice d e g,.int .i64 v] 28 (0,0))) (fun k o t n f s a l c q=>.agg #[.int .u8 k,.int .u8 o,.int .u8 t,.int .i64 n,.int .u8 f,.string s,.slice a l c,.int .i64 q]) (.int .i64) i j m p r u d e g v I F Q):cg P 12 #[.agg #[.int .u8 i,.int .u8 j,.int .u8 m,.int .i64 p,.int .u8 r,.string u,.slice d e g,.int .i64 v]] I F Q :=
 tw (A:=(an [1002] [31,32] ou)) [31,32] func12 h
def pb.V(aG:Nat→Nat×Obj)(nO:Int→Int→Int→Int→Int→Bs→OA→Nat→Nat→Int→Obj)(vb vi:Int→Value)(vs:Bs→Value)(vl:OA→Nat→Nat→Value)(aW aX aY aZ a0:Int)(a1:Bs)(aS:OA)(aT aU:Nat)(a2:Int)(aO:OA)(aq aV:Nat)(a3:Int)(aR:Fn)(aL aM:Array Value)(I:cc)(F:b8)(Q:cf)(Inv5:Int→Nat→cc→b8→cc→b8→Prop)(Inv19:Int→Int→Nat→cc→b8→cc→b8→Prop):Prop:=∀aK:Nat,(∃m:Nat,Inv5 0 m I F I F)∧∀(x:Int) (m1:Nat) (I1:cc) (F1:b8),cc.le I I1→Inv5 x m1 I F I1 F1→(Dt (x<(aq:Int)) ((0≤x∧x<(aq:Int))∧∃ad:Addr,aO=some ad∧∃(aH aI:Int) (aJ:Bs) (aA aB aC aD aE:Int) (aF:Bs) (k:OA) (l n:Nat) (s t u v w y:Int) (z:Bs) (a:OA) (c d:Nat) (aa ab ac ae af ag:Int) (ah:Bs) (e:OA) (f g:Nat) (ai aj ak al am an:Int) (ao:Bs) (h:OA) (i j:Nat) (ap ar:Int),Rd I1 ((aG aK)::F1) (ad.add (Int.toNat x*36)) [vb aH,vb aI,vs aJ,vb aA,vb aB,vb aC,vi aD,vb aE,vs aF,vl k l n,vi s,vb t,vb u,vb v,vi w,vb y,vs z,vl a c d,vi aa,vb ab,vb ac,vb ae,vi af,vb ag,vs ah,vl e f g,vi ai,vb aj,vb ak,vb al,vi am,vb an,vs ao,vl h i j,vi ap,vi ar]∧∀aN:Nat,∀(b:Nat) (I2:cc),cc.le I1 I2→I2 b=some (Obj.cells #[vb aA,vb aB,vb aC,vi aD,vb aE,vs aF,vl k l n,vi s,vb t,vb u,vb v,vi w,vb y,vs z,vl a c d,vi aa,vb ab,vb ac,vb ae,vi af,vb ag,vs ah,vl e f g,vi ai,vb aj,vb ak,vb al,vi am,vb an,vs ao,vl h i j,vi ap] 28 (0,0))→(∃m2:Nat,Inv19 x 0 m2 I2 F1 I2 F1)∧∀(x1:Int) (m3:Nat) (I3:cc) (F2:b8),cc.le I2 I3→Inv19 x x1 m3 I2 F1 I3 F2→(Dt (x1<(4:Int)) ((0≤x1∧x1<(4:Int))∧∃aP:Addr,some ⟨b,0,none⟩=some aP∧∃(o au av aw ax:Int) (ay:Bs) (p:OA) (q r:Nat) (az:Int),Rd I3 ((aG aK)::(aN,Obj.cells #[vb aH,vb aI,vs aJ,vb aA,vb aB,vb aC,vi aD,vb aE,vs aF,vl k l n,vi s,vb t,vb u,vb v,vi w,vb y,vs z,vl a c d,vi aa,vb ab,vb ac,vb ae,vi af,vb ag,vs ah,vl e f g,vi ai,vb aj,vb ak,vb al,vi am,vb an,vs ao,vl h i j,vi ap,vi ar] 99 (0,0))::F2) (aP.add (Int.toNat x1*8)) [vb o,vb au,vb av,vi aw,vb ax,vs ay,vl p q r,vi az]∧∀aQ:Nat,(It (o != 0) (rJ P (.func aR aL aM) [.agg #[vb o,vb au,vb av,vi aw,vb ax,vs ay,vl p q r,vi az]] I3 ((aG aK)::(aN,Obj.cells #[vb aH,vb aI,vs aJ,vb aA,vb aB,vb aC,vi aD,vb aE,vs aF,vl k l n,vi s,vb t,vb u,vb v,vi w,vb y,vs z,vl a c d,vi aa,vb ab,vb ac,vb ae,vi af,vb ag,vs ah,vl e f g,vi ai,vb aj,vb ak,vb al,vi am,vb an,vs ao,vl h i j,vi ap,vi ar] 99 (0,0))::(aQ,nO o au av aw ax ay p q r az)::F2) fun e1 I4 G1=>e1=.returned (.tuple #[])∧∃F3:b8,List.Perm G1 ((aG aK)::(aN,Obj.cells #[vb aH,vb aI,vs aJ,vb aA,vb aB,vb aC,vi aD,vb aE,vs aF,vl k l n,vi s,vb t,vb u,vb v,vi w,vb y,vs z,vl a c d,vi aa,vb ab,vb ac,vb ae,vi af,vb ag,vs ah,vl e f g,vi ai,vb aj,vb ak,vb al,vi am,vb an,vs ao,vl h i j,vi ap,vi ar] 99 (0,0))::(aQ,nO o au av aw ax ay p q r az)::F3)∧(∃m4:Nat,m4<m3∧Inv19 x (IntKind.wrap .i64 (x1+1)) m4 I2 F1 I4 F3)) (∃m5:Nat,m5<m3∧Inv19 x (IntKind.wrap .i64 (x1+1)) m5 I2 F1 I3 F2))) (∃m6:Nat,m6<m1∧Inv5 (IntKind.wrap .i64 (x+1)) m6 I F I3 F2))) (Q (.returned (.tuple #[])) I1 F1))
theorem pb.vc{v w x y z:Int}{aa:Bs}{d:OA}{e g:Nat}{ab:Int}{i:OA}{j p:Nat}{ac:Int}{ad:Fn}{r u:Array Value}{I:cc}{F:b8}{Q:cf}(Inv5:Int→Nat→cc→b8→cc→b8→Prop)(Inv19:Int→Int→Nat→cc→b8→cc→b8→Prop)(h:pb.V (fun b=>(b,Obj.cells #[.int .u8 v,.int .u8 w,.int .u8 x,.int .i64 y,.int .u8 z,.string aa,.slice d e g,.int .i64 ab,.slice i j p,.int .i64 ac] 84 (0,0))) (fun k o t n f s a l c q=>.cells #[.int .u8 k,.int .u8 o,.int .u8 t,.int .i64 n,.int .u8 f,.string s,.slice a l c,.int .i64 q] 28 (0,0)) (.int .u8) (.int .i64) .string .slice v w x y z aa d e g ab i j p ac ad r u I F Q Inv5 Inv19):cg P 40 #[.agg #[.int .u8 v,.int .u8 w,.int .u8 x,.int .i64 y,.int .u8 z,.string aa,.slice d e g,.int .i64 ab,.slice i j p,.int .i64 ac],.func ad r u] I F Q :=
 tw (A:=(cQ [2000,5000,7002] [] [] ou [(5,⟨[(11,(.int .i64))],[],fun fs I0 F0 vs m I F=>match fs,vs with | [],[.int _ y0]=>Inv5 y0 m I0 F0 I F | _,_=>False,[],[]⟩),(19,⟨[(25,(.int .i64))],[],fun fs I0 F0 vs m I F=>match fs,vs with | [.int _ y0],[.int _ y1]=>Inv19 y0 y1 m I0 F0 I F | _,_=>False,[11],[]⟩)] [4008] [] [] [8002] [] [])) [] func40 h
def pe.V(vb vi:Int→Value)(vs:Bs→Value)(vl:OA→Nat→Nat→Value)(wr:Int→Int)(aw ax ay az aA:Int)(aB:Bs)(o:OA)(p q:Nat)(aC:Int)(d:OA)(b r:Nat)(aD:Int)(I:cc)(F:b8)(Q:cf)(Inv8:Int→Int→Nat→cc→b8→Prop):Prop:=∀aM:Nat,(∃m:Nat,Inv8 0 0 m I F)∧∀(a x:Int) (m1:Nat) (I1:cc) (F1:b8),cc.le I I1→Inv8 a x m1 I1 F1→(Dt (x<(b:Int)) ((0≤x∧x<(b:Int))∧∃ad:Addr,d=some ad∧∃(c aE:Int) (aF:Bs) (aG aH aI aJ aK:Int) (aL:Bs) (s:OA) (t u:Nat) (v w y z aa ab:Int) (ac:Bs) (e:OA) (f g:Nat) (ae af ag ah ai aj:Int) (ak:Bs) (h:OA) (i j:Nat) (al am an ao ap aq:Int) (ar:Bs) (k:OA) (l n:Nat) (au av:Int),Rd I1 ((aM,Obj.cells #[vb aw,vb ax,vb ay,vi az,vb aA,vs aB,vl o p q,vi aC,vl d b r,vi aD] 84 (0,0))::F1) (ad.add (Int.toNat x*36)) [vb c,vb aE,vs aF,vb aG,vb aH,vb aI,vi aJ,vb aK,vs aL,vl s t u,vi v,vb w,vb y,vb z,vi aa,vb ab,vs ac,vl e f g,vi ae,vb af,vb ag,vb ah,vi ai,vb aj,vs ak,vl h i j,vi al,vb am,vb an,vb ao,vi ap,vb aq,vs ar,vl k l n,vi au,vi av]∧∀aN:Nat,(It (c==1) (∃m2:Nat,m2<m1∧Inv8 (wr (a+1)) (wr (x+1)) m2 I1 F1) (It (c==2) (∃m3:Nat,m3<m1∧Inv8 (wr (a+1)) (wr (x+1)) m3 I1 F1) (It (c==3) (∃m4:Nat,m4<m1∧Inv8 (wr (a+1)) (wr (x+1)) m4 I1 F1) (∃m5:Nat,m5<m1∧Inv8 a (wr (x+1)) m5 I1 F1))))) (Q (.returned (vi a)) I1 F1))
theorem pe.vc{g i j k l:Int}{n:Bs}{a:OA}{b c:Nat}{o:Int}{d:OA}{e f:Nat}{p:Int}{I:cc}{F:b8}{Q:cf}(Inv8:Int→Int→Nat→cc→b8→Prop)(h:pe.V (.int .u8) (.int .i64) .string .slice (IntKind.wrap .i64) g i j k l n a b c o d e f p I F Q Inv8):cg P 43 #[.agg #[.int .u8 g,.int .u8 i,.int .u8 j,.int .i64 k,.int .u8 l,.string n,.slice a b c,.int .i64 o,.slice d e f,.int .i64 p]] I F Q :=
 tw (A:=(cQ [3000,6000,7000,8000] [] [] ou [(8,⟨[(3,(.int .i64)),(9,(.int .i64))],[],fun _ _ _ vs m I F=>match vs with | [.int _ y0,.int _ y1]=>Inv8 y0 y1 m I F | _=>False,[],[]⟩)] [] [] [] [] [] [])) [] func43 h
def jh.V(nO:Int→Int→Int→Int→Int→Bs→OA→Nat→Nat→Int→Obj)(vb vi:Int→Value)(e f g h i:Int)(j:Bs)(a:OA)(b d:Nat)(k:Int)(l:Nat)(c:Int)(I:cc)(F:b8)(Q:cf)  : Prop:=∀m:Nat,∃(r:Int),(cg P 32 #[.agg #[vb e,vb f,vb g,vi h,vb i,.string j,.slice a b d,vi k]] I ((l,Obj.cells #[vi c] 3 (0,0))::(m,nO e f g h i j a b d k)::F) fun e1 I1 G1=>e1=.returned (vi r)∧List.Perm G1 ((l,Obj.cells #[vi c] 3 (0,0))::(m,nO e f g h i j a b d k)::F))∧Q (.returned (.tuple #[])) I ((l,Obj.cells #[vi (IntKind.wrap .i64 (c+r))] 3 (0,0))::F)
theorem jh.vc{i j m r u:Int}{w:Bs}{b:OA}{d e:Nat}{x:Int}{g:Nat}{c:Int}{I:cc}{F:b8}{Q:cf}  (h:jh.V (fun k o t n f s a l c q=>.cells #[.int .u8 k,.int .u8 o,.int .u8 t,.int .i64 n,.int .u8 f,.string s,.slice a l c,.int .i64 q] 28 (0,0)) (.int .u8) (.int .i64) i j m r u w b d e x g c I F Q):cg P 41 #[.agg #[.int .u8 i,.int .u8 j,.int .u8 m,.int .i64 r,.int .u8 u,.string w,.slice b d e,.int .i64 x],.pointer (some ⟨g,0,none⟩)] I ((g,Obj.cells #[.int .i64 c] 3 (0,0))::F) Q :=
 tv (A:=(cQ [] [] [32] ou [] [] [] [(1,4,[0])] [] [] [])) (args:=[.a (.v (.agg #[.int .u8 i,.int .u8 j,.int .u8 m,.int .i64 r,.int .u8 u,.string w,.slice b d e,.int .i64 x])),.a (.p 0 g 0)]) (own:=[⟨g,3,false,[.a (.v (.int .i64 c))]⟩]) (keep:=[0]) [32] func41 h
def lp.V(ka:Nat→Int→Int→Int→Int→Int→Bs→OA→Nat→Nat→Int→OA→Nat→Nat→Int→Nat×Obj)(kb:Nat→Bs→OA→Nat→Nat→Int→Nat×Obj)(s:Nat→Nat×Obj)(vb vi:Int→Value)(vs:Bs→Value)(vl:OA→Nat→Nat→Value)(wr:Int→Int)(aI:Bs)(av:OA)(aw ax:Nat)(ay:OA)(az aA:Nat)(ap:OA)(ah aB:Nat)(I:cc)(F:b8)(Q:cf)(Inv21:OA→OA→Nat→Nat→Int→Nat→cc→b8→cc→b8→Prop)(Inv44:OA→OA→Nat→Nat→Int→OA→Int→Int→Nat→cc→b8→cc→b8→Prop):Prop:=∀h:Nat,de P 39 #[.agg #[vs aI,vl av aw ax,vl ay az aA,vl ap ah aB]] I ((s h)::·) F fun e1 I1 G1=>∃(r:Value),e1=.returned r∧G1 fun F1=>∃q:Bool,cP P .neq 44 (.tmp 14) (.const (Value.nilIface)) r Value.nilIface q∧(It q (Q (.returned (.tuple #[vl none 0 0,r])) I1 F1) (cE P (Instr.makeSlice 42 (vi (ah:Int)) (vi (ah:Int))) I1 ((s h)::F1) fun v I2 G2=>∃(t:OA) (u aj:Nat),v=vl t u aj∧∃F2:b8,List.Perm G2 ((s h)::F2)∧(∃m:Nat,Inv21 (some ⟨h,0,none⟩) t u aj 0 m I2 F2 I2 F2)∧∀(x:Int) (m1:Nat) (I3:cc) (F3:b8),cc.le I2 I3→Inv21 (some ⟨h,0,none⟩) t u aj x m1 I2 F2 I3 F3→(Dt (x<(ah:Int)) ((0≤x∧x<(ah:Int))∧∃ad:Addr,ap=some ad∧∃(ae:Bs) (d:OA) (a i:Nat) (af:Int),Rd I3 ((s h)::F3) (ad.add (Int.toNat x*3)) [vs ae,vl d a i,vi af]∧∀w:Nat,(It ((a:Int)==0) (∃m2:Nat,m2<m1∧Inv21 (some ⟨h,0,none⟩) t u aj (wr (x+1)) m2 I2 F2 I3 F3) ((∃m3:Nat,Inv44 (some ⟨h,0,none⟩) t u aj x (some ⟨w,0,none⟩) 0 0 m3 I3 F3 I3 F3)∧∀(ao x1:Int) (m4:Nat) (I4:cc) (F4:b8),cc.le I3 I4→Inv44 (some ⟨h,0,none⟩) t u aj x (some ⟨w,0,none⟩) ao x1 m4 I3 F3 I4 F4→(Dt (x1<(a:Int)) ((0≤x1∧x1<(a:Int))∧∃aE:Addr,d=some aE∧∃(n y o z aa:Int) (ab:Bs) (e:OA) (f g:Nat) (ac:Int) (j:OA) (k l:Nat) (ag:Int),Rd I4 ((s h)::(kb w ae d a i af)::F4) (aE.add (Int.toNat x1*10)) [vb n,vb y,vb o,vi z,vb aa,vs ab,vl e f g,vi ac,vl j k l,vi ag]∧∀ai:Nat,∀p:Nat,cg P 40 (#[.agg #[vb n,vb y,vb o,vi z,vb aa,vs ab,vl e f g,vi ac,vl j k l,vi ag],.func (.func 41) #[] #[.pointer (some ⟨p,0,none⟩)]]) I4 ((s h)::(kb w ae d a i af)::(ka ai n y o z aa ab e f g ac j k l ag)::(p,Obj.cells #[vi 0] 3 (0,0))::F4) fun e2 I5 G3=>e2=.returned (.tuple #[])∧∃(c:Int),∃F5:b8,List.Perm G3 ((s h)::(kb w ae d a i af)::(ka ai n y o z aa ab e f g ac j k l ag)::(p,Obj.cells #[vi c] 3 (0,0))::F5)∧∀(b:Nat) (I6:cc),cc.le I5 I6→I6 b=some (Obj.cells #[vi c] 3 (0,0))→cF P 42 (#[vi ao,vl (some ⟨b,0,none⟩) 1 1]) I6 ((s h)::(kb w ae d a i af)::(ka ai n y o z aa ab e f g ac j k l ag)::(p,Obj.cells #[vi c] 3 (0,0))::·) F5 vi fun r1 I7 F6=>∃(hb:Nat) (ho:Obj) (F7:b8),List.Perm F6 ((hb,ho)::F7)∧((0≤x∧x<(u:Int))∧∃aF:Addr,t=some aF∧∃(m5:Int),Rd (cc.put I7 hb ho) ([]) ((aF.add (Int.toNat x*2)).add 1) [vi m5]∧cg P 43 #[.agg #[vb n,vb y,vb o,vi z,vb aa,vs ab,vl e f g,vi ac,vl j k l,vi ag]] (cc.put I7 hb ho) ((s h)::(kb w ae d a i af)::(ka ai n y o z aa ab e f g ac j k l ag)::(p,Obj.cells #[vi c] 3 (0,0))::F7) fun e4 I8 G5=>∃(r2:Int),e4=.returned (vi r2)∧∃F8:b8,List.Perm G5 ((s h)::(kb w ae d a i af)::(ka ai n y o z aa ab e f g ac j k l ag)::(p,Obj.cells #[vi c] 3 (0,0))::F8)∧∀(b1:Nat) (I9:cc),cc.le I8 I9→I9 b1=some (Obj.cells #[vi r2] 3 (0,0))→cF P 42 (#[vi m5,vl (some ⟨b1,0,none⟩) 1 1]) I9 ((s h)::(kb w ae d a i af)::(ka ai n y o z aa ab e f g ac j k l ag)::(p,Obj.cells #[vi c] 3 (0,0))::·) F8 vi fun r3 I10 F9=>((0≤x∧x<(u:Int))∧∃ak:Addr,t=some ak∧∃(cs:List Value) (el:Nat) (F10:b8),List.Perm ((hb,ho)::F9) ((((ak.add (Int.toNat x*2)).add 1).block,Obj.cells cs.toArray el (0,0))::F10)∧((ak.add (Int.toNat x*2)).add 1).spot=none∧((ak.add (Int.toNat x*2)).add 1).off+1≤cs.length∧∃(an:Nat) (aq:Obj) (F11:b8),List.Perm ((((ak.add (Int.toNat x*2)).add 1).block,Obj.cells (cp ((ak.add (Int.toNat x*2)).add 1).off [vi r3] cs).toArray el (0,0))::F10) ((an,aq)::F11)∧((0≤x∧x<(u:Int))∧∃aG:Addr,t=some aG∧∃(m6:Int),Rd (cc.put (cc.del I10 hb) an aq) ([]) ((aG.add (Int.toNat x*2)).add 0) [vi m6]∧cg P 32 #[.agg #[vb n,vb y,vb o,vi z,vb aa,vs ab,vl e f g,vi ac]] (cc.put (cc.del I10 hb) an aq) ((s h)::(kb w ae d a i af)::(ka ai n y o z aa ab e f g ac j k l ag)::(p,Obj.cells #[vi c] 3 (0,0))::F11) fun e6 I11 G7=>∃(r4:Int),e6=.returned (vi r4)∧∃F12:b8,List.Perm G7 ((s h)::(kb w ae d a i af)::(ka ai n y o z aa ab e f g ac j k l ag)::(p,Obj.cells #[vi c] 3 (0,0))::F12)∧((0≤x∧x<(u:Int))∧∃al:Addr,t=some al∧∃(ar:List Value) (aC:Nat) (F13:b8),List.Perm ((an,aq)::F12) ((((al.add (Int.toNat x*2)).add 0).block,Obj.cells ar.toArray aC (0,0))::F13)∧((al.add (Int.toNat x*2)).add 0).spot=none∧((al.add (Int.toNat x*2)).add 0).off+1≤ar.length∧(∃m7:Nat,m7<m4∧Inv44 (some ⟨h,0,none⟩) t u aj x (some ⟨w,0,none⟩) r1 (wr (x1+1)) m7 I3 F3 (cc.del I11 an) ((((al.add (Int.toNat x*2)).add 0).block,Obj.cells (cp ((al.add (Int.toNat x*2)).add 0).off [vi (wr (m6+r4))] ar).toArray aC (0,0))::F13))))))) ((0≤x∧x<(u:Int))∧∃aH:Addr,t=some aH∧∃(m8:Int),Rd I4 ((s h)::(kb w ae d a i af)::F4) ((aH.add (Int.toNat x*2)).add 0) [vi m8]∧((0≤x∧x<(u:Int))∧∃am:Addr,t=some am∧∃(au:List Value) (aD:Nat) (F14:b8),List.Perm F4 ((((am.add (Int.toNat x*2)).add 0).block,Obj.cells au.toArray aD (0,0))::F14)∧((am.add (Int.toNat x*2)).add 0).spot=none∧((am.add (Int.toNat x*2)).add 0).off+1≤au.length∧(∃m9:Nat,m9<m1∧Inv21 (some ⟨h,0,none⟩) t u aj (wr (x+1)) m9 I2 F2 I4 ((((am.add (Int.toNat x*2)).add 0).block,Obj.cells (cp ((am.add (Int.toNat x*2)).add 0).off [vi (wr (m8+ao))] au).toArray aD (0,0))::F14)))))))) (Q (.returned (.tuple #[vl t u aj,Value.nilIface])) I3 F3))))
theorem lp.vc{x:Bs}{o:OA}{p q:Nat}{r:OA}{s t:Nat}{u:OA}{v w:Nat}{I:cc}{F:b8}{Q:cf}(Inv21:OA→OA→Nat→Nat→Int→Nat→cc→b8→cc→b8→Prop)(Inv44:OA→OA→Nat→Nat→Int→OA→Int→Int→Nat→cc→b8→cc→b8→Prop)(h:lp.V (fun W a b c d e f g h i j k l m n=>(W,Obj.cells #[.int .u8 a,.int .u8 b,.int .u8 c,.int .i64 d,.int .u8 e,.string f,.slice g h i,.int .i64 j,.slice k l m,.int .i64 n] 84 (0,0))) (fun W a b c d e=>(W,Obj.cells #[.string a,.slice b c d,.int .i64 e] 65 (0,0))) (fun b=>(b,Obj.cells #[.string x,.slice o p q,.slice r s t,.slice u v w] 39 (0,0))) (.int .u8) (.int .i64) .string .slice (IntKind.wrap .i64) x o p q r s t u v w I F Q Inv21 Inv44):cg P 19 #[.agg #[.string x,.slice o p q,.slice r s t,.slice u v w]] I F Q :=
 tw (A:=(cQ [2001,6000,8003,11000] [] [32,39,40,42,43] ou [(21,⟨[(24,(.int .i64))],[],fun fs I0 F0 vs m I F=>match fs,vs with | [.pointer y0,.slice y1 y2 y3],[.int _ y4]=>Inv21 y0 y1 y2 y3 y4 m I0 F0 I F | _,_=>False,[1,5],[]⟩),(44,⟨[(8,(.int .i64)),(36,(.int .i64))],[],fun fs I0 F0 vs m I F=>match fs,vs with | [.pointer y0,.slice y1 y2 y3,.int _ y4,.pointer y5],[.int _ y6,.int _ y7]=>Inv44 y0 y1 y2 y3 y4 y5 y6 y7 m I0 F0 I F | _,_=>False,[1,5,6,7],[]⟩)] [15002,16009] [] [] [] [] [] [] [] [(16,[6,1000],.fin [0,1,2,3,4,5,6,7,8,9,10,11,12] [13]),(17,[4,1000],.fin [0,1,2,3,5,4,6,7,8,9,10] [11])])) [32,39,40,42,43] func19 h
def ji.V(ka:Nat→Int→Int→Nat×Obj)(g:Nat→Nat×Obj)(vi:Int→Value)(vl:OA→Nat→Nat→Value)(z:Bs)(n:OA)(o p:Nat)(s:OA)(t u:Nat)(v:OA)(w y:Nat)(I:cc)(F:b8)(Q:cf)(Inv18:OA→OA→Nat→Nat→OA→Int→Int→Int→Nat→cc→b8→cc→b8→Prop):Prop:=∀d:Nat,∀b:Nat,de P 19 #[.agg #[.string z,vl n o p,vl s t u,vl v w y]] I ((g d)::(ka b 0 0)::·) F fun e1 I1 G1=>∃(k:OA) (i l:Nat) (r1:Value),e1=.returned (.tuple #[vl k i l,r1])∧G1 fun F1=>∃q:Bool,cP P .neq 44 (.tmp 14) (.const (Value.nilIface)) r1 Value.nilIface q∧(It q (Q (.returned (.tuple #[.agg #[vi 0,vi 0],r1])) I1 F1) (∀e:Nat,(∃m:Nat,Inv18 (some ⟨d,0,none⟩) k i l (some ⟨e,0,none⟩) 0 0 0 m I1 F1 I1 F1)∧∀(x a c:Int) (m1:Nat) (I2:cc) (F2:b8),cc.le I1 I2→Inv18 (some ⟨d,0,none⟩) k i l (some ⟨e,0,none⟩) x a c m1 I1 F1 I2 F2→(Dt (x<(i:Int)) ((0≤x∧x<(i:Int))∧∃ad:Addr,k=some ad∧∃(h f:Int),Rd I2 ((g d)::(ka b 0 0)::(ka e a c)::F2) (ad.add (Int.toNat x*2)) [vi h,vi f]∧∀j:Nat,(∀(b1:Nat) (I3:cc),cc.le I2 I3→I3 b1=some (Obj.cells #[vi h] 3 (0,0))→(cF P 42 (#[vi a,vl (some ⟨b1,0,none⟩) 1 1]) I3 ((g d)::(ka b 0 0)::(ka e a c)::(ka j h f)::·) F2 vi fun r I4 F3=>∀(b2:Nat) (I5:cc),cc.le I4 I5→I5 b2=some (Obj.cells #[vi f] 3 (0,0))→cF P 42 (#[vi c,vl (some ⟨b2,0,none⟩) 1 1]) I5 ((g d)::(ka b 0 0)::(ka e a c)::(ka j h f)::·) F3 vi fun r2 I6 F4=>(∃m2:Nat,m2<m1∧Inv18 (some ⟨d,0,none⟩) k i l (some ⟨e,0,none⟩) (IntKind.wrap .i64 (x+1)) r r2 m2 I1 F1 I6 F4))∧(∀(b3:Nat) (I7:cc),cc.le I3 I7→I7 b3=some (Obj.cells #[vi f] 3 (0,0))→cF P 42 (#[vi a,vl (some ⟨b1,0,none⟩) 1 1]) I7 ((g d)::(ka b 0 0)::(ka e a c)::(ka j h f)::·) F2 vi fun r3 I8 F5=>cF P 42 (#[vi c,vl (some ⟨b3,0,none⟩) 1 1]) I8 ((g d)::(ka b 0 0)::(ka e a c)::(ka j h f)::·) F5 vi fun r4 I9 F6=>(∃m3:Nat,m3<m1∧Inv18 (some ⟨d,0,none⟩) k i l (some ⟨e,0,none⟩) (IntKind.wrap .i64 (x+1)) r3 r4 m3 I1 F1 I9 F6)))∧(∀(b4:Nat) (I10:cc),cc.le I2 I10→I10 b4=some (Obj.cells #[vi f] 3 (0,0))→∀(b5:Nat) (I11:cc),cc.le I10 I11→I11 b5=some (Obj.cells #[vi h] 3 (0,0))→cF P 42 (#[vi a,vl (some ⟨b5,0,none⟩) 1 1]) I11 ((g d)::(ka b 0 0)::(ka e a c)::(ka j h f)::·) F2 vi fun r5 I12 F7=>cF P 42 (#[vi c,vl (some ⟨b4,0,none⟩) 1 1]) I12 ((g d)::(ka b 0 0)::(ka e a c)::(ka j h f)::·) F7 vi fun r6 I13 F8=>(∃m4:Nat,m4<m1∧Inv18 (some ⟨d,0,none⟩) k i l (some ⟨e,0,none⟩) (IntKind.wrap .i64 (x+1)) r5 r6 m4 I1 F1 I13 F8))) (Dt (a>500) (∀b6:Nat,Q (.returned (.tuple #[.agg #[vi 0,vi 0],Value.iface 89 (.pointer (some (⟨b6,0,none⟩:Addr)))])) I2 (((b6,Obj.cells #[.string (⟨#[83,116,114,97,116,101,103,121]⟩:Bs),vi 0,Value.iface 47 (vi 160)] 93 (0,0))::F2))) (Q (.returned (.tuple #[.agg #[vi a,vi c],Value.nilIface])) I2 F2)))))
theorem ji.vc{n:Bs}{c:OA}{d e:Nat}{f:OA}{g i:Nat}{j:OA}{k l:Nat}{I:cc}{F:b8}{Q:cf}(Inv18:OA→OA→Nat→Nat→OA→Int→Int→Int→Nat→cc→b8→cc→b8→Prop)(h:ji.V (fun W a b=>(W,Obj.cells #[.int .i64 a,.int .i64 b] 57 (0,0))) (fun b=>(b,Obj.cells #[.string n,.slice c d e,.slice f g i,.slice j k l] 39 (0,0))) (.int .i64) .slice n c d e f g i j k l I F Q Inv18):cg P 24 #[.agg #[.string n,.slice c d e,.slice f g i,.slice j k l]] I F Q :=
 tw (A:=(cQ [2001,6000,10002] [] [19,42] ou [(18,⟨[(20,(.int .i64))],[(2,[(.int .i64),(.int .i64)])],fun fs I0 F0 vs m I F=>match fs,vs with | [.pointer y0,.slice y1 y2 y3,.pointer y4],[.int _ y5,.int _ y6,.int _ y7]=>Inv18 y0 y1 y2 y3 y4 y5 y6 y7 m I0 F0 I F | _,_=>False,[1,4,6],[]⟩)] [8004,8010] [11003] [] [] [] [] [] [] [(8,[1,3,7,9],.fork [0,2,6,8,1,3,7,9] 4 10 (.fork [] 5 10 (.fin [12,10,11] [13,14,15]) (.fin [5,12,11] [13,14,15])) (.fin [4,5,12,11] [13,14,15]))])) [19,42] func24 h
def E8:List (Nat×List Sh):=[(3,[.one (.int .i64)]),(4,[.one .bool]),(22,[.one (.int .u8)]),(28,[.agg [(.int .u8),(.int .u8),(.int .u8),(.int .i64),(.int .u8),.str,.slc,(.int .i64)]]),(42,[.one .slc]),(45,[.one .slc,.one .any]),(51,[.agg [(.int .i64),(.int .i64),.bool]]),(52,[.one .slc,.agg [(.int .i64),(.int .i64),.bool]]),(57,[.agg [(.int .i64),(.int .i64)]]),(58,[.agg [(.int .i64),(.int .i64)],.one .any]),(65,[.agg [.str,.slc,(.int .i64)]]),(69,[.agg [(.int .u8),(.int .u8),(.int .u8),(.int .i64),(.int .u8),.str,.slc,(.int .i64)],.agg [(.int .i64),(.int .i64),.bool]]),(71,[.agg [.str,.slc,.slc,.slc],.agg [(.int .i64),(.int .i64),.bool]]),(84,[.agg [(.int .u8),(.int .u8),(.int .u8),(.int .i64),(.int .u8),.str,.slc,(.int .i64),.slc,(.int .i64)]]),(99,[.agg [(.int .u8),(.int .u8),.str,(.int .u8),(.int .u8),(.int .u8),(.int .i64),(.int .u8),.str,.slc,(.int .i64),(.int .u8),(.int .u8),(.int .u8),(.int .i64),(.int .u8),.str,.slc,(.int .i64),(.int .u8),(.int .u8),(.int .u8),(.int .i64),(.int .u8),.str,.slc,(.int .i64),(.int .u8),(.int .u8),(.int .u8),(.int .i64),(.int .u8),.str,.slc,(.int .i64),(.int .i64)]]),(129,[.one (.int .i64),.one (.int .i64)])]
def lq.V(ka:Nat→Int→Int→Bool→Nat×Obj)(kb:Nat→Bs→OA→Nat→Nat→OA→Nat→Nat→OA→Nat→Nat→Nat×Obj)(kc:Nat→Int→Int→Nat×Obj)(nV:Int→Int→Int→Int→Int→Bs→OA→Nat→Nat→Int→Value)(nO:Int→Int→Int→Int→Int→Bs→OA→Nat→Nat→Int→Obj)(vi:Int→Value)(vs:Bs→Value)(vl:OA→Nat→Nat→Value)(vt:Bool→Value)(I:cc)(F:b8)(Q:cf)  : Prop:=de P 28 (#[vs (⟨#[100,111,110,101,32,63,32,98,105,100,32,58,32,98,105,100,32,43,32,49,112]⟩:Bs)]) I (·) F fun e1 I1 G1=>∃(s t u v w:Int) (x:Bs) (a:OA) (b c:Nat) (y z aa:Int) (ab:Bool),e1=.returned (.tuple #[nV s t u v w x a b c y,.agg #[vi z,vi aa,vt ab]])∧G1 fun F1=>∀ae:Nat,∀af:Nat,de P 29 (#[vs (⟨#[115,116,114,97,116,101,103,121,32,115,32,123,32,114,101,103,32,110,32,105,110,116,32,61,32,48,59,32,115,108,111,116,32,111,59,32,115,116,97,116,101,32,97,32,123,32,119,104,101,110,32,104,97,115,32,98,105,100,32,100,111,32,115,117,98,109,105,116,32,98,117,121,32,111,102,32,50,113,32,97,116,32,98,105,100,32,43,32,49,112,32,108,105,109,105,116,44,32,104,97,108,116,59,32,119,104,101,110,32,110,111,119,32,62,32,53,116,32,100,111,32,115,101,116,32,110,32,61,32,110,32,43,32,49,44,32,99,97,110,99,101,108,32,111,44,32,99,97,110,99,101,108,32,111,59,32,125,32,115,116,97,116,101,32,98,32,123,125,32,125]⟩:Bs)]) I1 ((ae,nO s t u v w x a b c y)::(ka af z aa ab)::·) F1 fun e2 I2 G2=>∃(m:Bs) (d:OA) (e f:Nat) (g:OA) (h i:Nat) (j:OA) (k l:Nat) (n o:Int) (p:Bool),e2=.returned (.tuple #[.agg #[vs m,vl d e f,vl g h i,vl j k l],.agg #[vi n,vi o,vt p]])∧G2 fun F2=>∀ai:Nat,∀ac:Nat,cF P 12 #[nV s t u v w x a b c y] I2 ((ae,nO s t u v w x a b c y)::(ka af z aa ab)::(kb ai m d e f g h i j k l)::(ka ac n o p)::·) F2 vi fun r I3 F3=>cF P 12 (#[nV 0 0 0 0 0 (⟨#[]⟩:Bs) none 0 0 0]) I3 ((ae,nO s t u v w x a b c y)::(ka af z aa ab)::(kb ai m d e f g h i j k l)::(ka ac n o p)::·) F3 vi fun r1 I4 F4=>de P 24 #[.agg #[vs m,vl d e f,vl g h i,vl j k l]] I4 ((ae,nO s t u v w x a b c y)::(ka af z aa ab)::(kb ai m d e f g h i j k l)::(ka ac n o p)::·) F4 fun e5 I5 G5=>∃(ag ah:Int) (ap:Value),e5=.returned (.tuple #[.agg #[vi ag,vi ah],ap])∧G5 fun F5=>∀ak:Nat,de P 19 #[.agg #[vs m,vl d e f,vl g h i,vl j k l]] I5 ((ae,nO s t u v w x a b c y)::(ka af z aa ab)::(kb ai m d e f g h i j k l)::(ka ac n o p)::(kc ak ag ah)::·) F5 fun e6 I6 G6=>∃(al:OA) (aj aw:Nat) (aq:Value),e6=.returned (.tuple #[vl al aj aw,aq])∧G6 fun F6=>de P 19 (#[.agg #[vs (⟨#[]⟩:Bs),vl none 0 0,vl none 0 0,vl none 0 0]]) I6 ((ae,nO s t u v w x a b c y)::(ka af z aa ab)::(kb ai m d e f g h i j k l)::(ka ac n o p)::(kc ak ag ah)::·) F6 fun e7 I7 G7=>∃(am:OA) (an ao:Nat) (ar:Value),e7=.returned (.tuple #[vl am an ao,ar])∧G7 fun F7=>(It (r==6) (It (r1==0) (∃q:Bool,cP P .eql 44 (.tmp 47) (.const (Value.nilIface)) ap Value.nilIface q∧(It q (∃q1:Bool,cP P .eql 57 (.tmp 51) (.tmp 52) (.agg #[vi ag,vi ah]) (.agg #[vi 9,vi 2]) q1∧(It q1 (∃q2:Bool,cP P .eql 44 (.tmp 56) (.const (Value.nilIface)) aq Value.nilIface q2∧(It q2 (It ((aj:Int)==2) ((0≤(1:Int)∧(1:Int)<(aj:Int))∧∃ad:Addr,al=some ad∧∃(au av:Int),Rd I7 ((ae,nO s t u v w x a b c y)::(ka af z aa ab)::(kb ai m d e f g h i j k l)::(ka ac n o p)::(kc ak ag ah)::F7) (ad.add (Int.toNat 1*2)) [vi au,vi av]∧∃q3:Bool,cP P .eql 57 (.tmp 67) (.tmp 68) (.agg #[vi au,vi av]) (.agg #[vi 0,vi 0]) q3∧(It q3 (∃q4:Bool,cP P .neq 44 (.tmp 72) (.const (Value.nilIface)) ar Value.nilIface q4∧Q (.returned (vt q4)) I7 F7) (Q (.returned (vt false)) I7 F7))) (Q (.returned (vt false)) I7 F7)) (Q (.returned (vt false)) I7 F7))) (Q (.returned (vt false)) I7 F7))) (Q (.returned (vt false)) I7 F7))) (Q (.returned (vt false)) I7 F7)) (Q (.returned (vt false)) I7 F7))
theorem lq.vc  {I:cc}{F:b8}{Q:cf}  (h:lq.V (fun W a b c=>(W,Obj.cells #[.int .i64 a,.int .i64 b,.bool c] 68 (0,0))) (fun W a b c d e f g h i j=>(W,Obj.cells #[.string a,.slice b c d,.slice e f g,.slice h i j] 39 (0,0))) (fun W a b=>(W,Obj.cells #[.int .i64 a,.int .i64 b] 57 (0,0))) (fun k o t n f s a l c q=>.agg #[.int .u8 k,.int .u8 o,.int .u8 t,.int .i64 n,.int .u8 f,.string s,.slice a l c,.int .i64 q]) (fun k o t n f s a l c q=>.cells #[.int .u8 k,.int .u8 o,.int .u8 t,.int .i64 n,.int .u8 f,.string s,.slice a l c,.int .i64 q] 28 (0,0)) (.int .i64) .string .slice .bool I F Q):cg P 9 #[] I F Q :=
 tw (A:=(an [8001,8004,8008,8013,8017,8022,8029] [12,19,24,28,29] E8)) [12,19,24,28,29] func9 h
def pf.V(vl:OA→Nat→Nat→Value)(j:Bs)(a:OA)(b c:Nat)(d:OA)(e f:Nat)(g:OA)(h i:Nat)(I:cc)(F:b8)(Q:cf)  : Prop:=∀k:Nat,cF P 37 #[.agg #[.string j,vl a b c,vl d e f,vl g h i]] I ((k,Obj.cells #[.string j,vl a b c,vl d e f,vl g h i] 39 (0,0))::·) F (.int .i64) fun r I1 F1=>Q (.returned (.bool (decide (r>1048576)))) I1 (F1)
theorem pf.vc{k:Bs}{a:OA}{b c:Nat}{d:OA}{e f:Nat}{g:OA}{i j:Nat}{I:cc}{F:b8}{Q:cf}  (h:pf.V .slice k a b c d e f g i j I F Q):cg P 17 #[.agg #[.string k,.slice a b c,.slice d e f,.slice g i j]] I F Q :=
 tw (A:=(an [] [37] E8)) [37] func17 h
end Go.Lx
namespace Go.Vc
section
variable {P:Program} {f:FuncId} {args:Array Value} {v:Value}
theorem cg.Jb{I:cc}{F:b8}{b:Nat}{o:Obj}(h:∀J,cc.le I J→J b=some o→cg P f args J F (Go.Lx.eg v F)):cg P f args I ((b,o)::F) (Go.Lx.eg v ((b,o)::F)):=fun w hw=>by
 have hb:=hw.off b o (List.mem_cons_self ..)
 obtain⟨hl,hs⟩:=hw.kD
 refine (h (I.put b o) hl (cc.j4 I b o) w hs).mono fun e w' ⟨I',F',g1,g2,g3,g4⟩=>?_
 subst g4
 obtain⟨d1,d2⟩:=Sat.AG hb g1 g2
 exact⟨I'.del b,(b,o)::F',d1,d2,g3,rfl⟩
theorem cg.GM:∀(A:b8) {I:cc} {F:b8} (h:∀J,cc.le I J→(∀x∈A,J x.1=some x.2)→cg P f args J F (Go.Lx.eg v F)),cg P f args I (A++F) (Go.Lx.eg v (A++F))
 | [],I,F,h=>h I (cc.le_refl I) fun x hx=>absurd hx (by simp)
 | (b,o)::A,I,F,h=>cg.Jb fun J hJ hb=>cg.GM A fun K hK hA=>h K (cc.le_trans hJ hK) fun x hx=>by
   rcases List.mem_cons.1 hx with rfl | hx
   ·exact hK.at hb
   ·exact hA x hx
theorem cg.BP{F:b8}{I:cc}(h:∀J,cc.le I J→(∀x∈F,J x.1=some x.2)→cg P f args J [] (Go.Lx.eg v [])):cg P f args I F (Go.Lx.eg v F):=by
 have:=cg.GM (f:=f) (args:=args) (v:=v) F (F:=[]) h
 rwa [List.append_nil] at this
end
theorem Rd.BP{I J:cc}{G:b8}{ad:Addr}{cs:List Value}(h:Rd I G ad cs)(hl:cc.le I J)(hs:∀x∈G,J x.1=some x.2):Rd J [] ad cs:=by
 obtain⟨h1,cells,e,fz,h2,h3⟩:=h
 exact⟨h1,cells,e,fz,.inl (h2.elim (fun h=>hl.at h) fun h=>hs _ h),h3⟩
theorem dy.BP{α:Type}{I J:cc}{G:b8}{z:Nat}{f:α→List Value}{a:Option Addr}{n:Nat}{l:List α}(h:dy I G z f a n l)(hl:cc.le I J)(hs:∀x∈G,J x.1=some x.2):dy J [] z f a n l :=
 ⟨h.1,fun hne=>let ⟨ad,ha,hr⟩:=h.2 hne;⟨ad,ha,fun i x hx=>(hr i x hx).BP hl hs⟩⟩
end Go.Vc
namespace Go.Lx
open Go.Vc
theorem cH.BP{I J:cc}{G:b8}{t:Nd}(h:cH I G t)(hl:cc.le I J)(hs:∀x∈G,J x.1=some x.2):cH J [] t:=by
 induction h with
 | mk h1 h2 ih=>exact .mk (h1.BP hl hs) ih
def HT(x:Int):List Value:=[.int .i64 x]
theorem wg(first:Int){a:Option Addr}{n c:Nat}{l:List Int}{I:cc}{F:b8}(hS:dy I F 1 HT a n l)(hn:(n:Int)≤1000000000):cg P 42 #[.int .i64 first,.slice a n c] I F (eg (.int .i64 (gK first l)) F):=by
 refine jg.vc (fun m i k I' F'=>0≤i∧i≤n∧k=(n-i).toNat∧gK first l=gK m (l.drop i.toNat)∧F'=F) ?_
 unfold jg.V
 have hl:=hS.1
 refine⟨⟨_,by omega,by omega,rfl,rfl,rfl⟩,fun m i k I1 F1 hI ⟨g0,g1,gk,gm,gF⟩=>⟨fun hlt=>?_,fun hlt=>⟨?_,gF⟩⟩⟩
 ·have hlt:=of_decide_eq_true hlt
  subst gF
  obtain⟨ad,x,had,hx,hrd⟩:=(hS.mono hI fun _ h=>h).at g0 hlt
  refine⟨⟨g0,hlt⟩,ad,had,x,hrd,(n-(i+1)).toNat,by omega, ?_⟩
  rw[du (n:=i+1) (by omega)]
  refine⟨by omega,by omega,rfl, ?_,rfl⟩
  have hd:l.drop i.toNat=x::l.drop (i.toNat+1):=by
   have hk:i.toNat<l.length:=by omega
   rw[List.drop_eq_getElem_cons hk]
   rw[List.getElem?_eq_getElem hk] at hx
   cases hx;rfl
  rw[gm,hd,show (i+1).toNat=i.toNat+1 by omega]
  show gK (max m x) _=_
  congr 1
  split<;>omega
 ·have hlt:=of_decide_eq_false hlt
  rw[gm,List.drop_eq_nil_of_le (by omega)];rfl
theorem gx(first x:Int){b t:Nat}{fz:Nat×Nat}{I:cc}{F:b8}(hb:I b=some (.cells #[.int .i64 x] t fz)):cg P 42 #[.int .i64 first,.slice (some ⟨b,0,none⟩) 1 1] I F (eg (.int .i64 (max first x)) F):=by
 have h:dy I F 1 HT (some ⟨b,0,none⟩) 1 [x]:=(Sl.lN (f:=HT) (z:=1) (l:=[x]) (fun _=>rfl) hb (fun k hk=>by
  have:k<1:=hk
  have:k=0:=by omega
  subst this;rfl)).yl F
 exact wg first h (by omega)
theorem DK{l:List Nd}{i:Nat}{x:Nd}(h:l[i]? = some x):eC ((l.drop i).map fun y=>y.px.wt)=x.px.wt+eC ((l.drop (i+1)).map fun y=>y.px.wt):=by
 obtain⟨hk,hx⟩:=List.getElem?_eq_some_iff.1 h
 rw[List.drop_eq_getElem_cons hk,List.map_cons,eC,hx]
theorem CG:∀{l:List Nd},(∀k∈l,k.px.formed=true)→0≤eC (l.map fun y=>y.px.wt)∧eC (l.map fun y=>y.px.wt)≤2*Px.fp (l.map Nd.px)
 | [],_=>⟨Int.le_refl 0,Int.le_refl 0⟩
 | x::r,h=>by
   have h1:=Px.kA x.px (h x (.head _))
   have h2:=CG fun k hk=>h k (.tail _ hk)
   rw[List.map_cons,List.map_cons,eC,Px.fp]
   omega
theorem Gm(t:Nd):t.px.wt=HS t.kind (t.kids.map fun y=>y.px.wt):=by rw[Px.GL,Nd.cO,Nd.dv,List.map_map];rfl
theorem x8:∀(t:Nd),t.px.size≤4194304→t.px.formed=true→∀(I:cc) (F:b8),cH I [] t→cg P 32 #[t.v] I F (eg (.int .i64 t.px.wt) F):=by
 refine Nd.ind fun t ih hs hf I F ht=>?_
 have hln:=kk hs
 have hr:=Px.kA t.px hf
 have h1:t.px.ig=true:=by rw[Px.eD,Bool.and_eq_true] at hf;exact hf.1
 have hl:(t.kids.length:Nat)=Px.arity t.px:=by
  unfold Px.ig at h1
  rw[Bool.and_eq_true,decide_eq_true_eq,Nd.dv,List.length_map] at h1
  exact h1.2
 have hkf:∀k∈t.kids,k.px.formed=true:=fun k hk=>Px.iR hf _ (by rw[Nd.dv];exact List.mem_map_of_mem hk)
 have hat:∀{J:cc} {G:b8} {i:Int},cc.le I J→0≤i→i<t.kids.length→∃ad x,t.a=some ad∧t.kids[i.toNat]? = some x∧Rd J G (ad.add (Int.toNat i*8)) x.enc ∧
   (1≤x.px.wt∧x.px.wt+1≤2*x.px.size)∧x.px.size≤4194304∧∀(K:cc) (H:b8),cc.le J K→cg P 32 #[x.v] K H (eg (.int .i64 x.px.wt) H):=by
  intro J G i hJ g0 hlt
  obtain⟨ad,x,had,hx,hrd,hxo,hxm⟩:=(ht.mono hJ fun _ h=>h).kids.at g0 hlt
  exact⟨ad,x,had,hx,hrd.sub (cc.le_refl J) (fun _ h=>absurd h (by simp)),Px.kA _ (hkf x hxm),ju hxm hs,fun K H hK=>ih x hxm (ju hxm hs) (hkf x hxm) K H (hxo.mono hK fun _ h=>h)⟩
 have hwt:=Gm t
 refine ll.vc (fun _ sum i m I0 F0 I' F'=>0≤i∧i≤t.kids.length∧m=(t.kids.length-i).toNat∧1≤sum∧t.px.wt=sum+eC ((t.kids.drop i.toNat).map fun y=>y.px.wt)∧F'=F) ?_
 unfold ll.V
 intro b_n
 refine⟨fun h7=>?_,fun h7=>⟨fun h9=>?_,fun h9=>⟨?_,fun sum i m I1 F1 hI ⟨g0,g1,gm,g2,gs,gF⟩=>⟨fun hlt=>?_,fun hlt=>⟨?_,gF⟩⟩⟩⟩⟩
 ·have h7:t.kind=7:=by simpa using h7
  have h3:t.kids.length=3:=by rw[hl];unfold Px.arity;rw[Nd.cO,h7];rfl
  obtain⟨ad0,x0,ha0,hx0,hr0,hw0,hs0,ht0⟩:=hat (i:=0) (G:=(b_n,.cells t.enc.toArray 28 (0,0))::F) (cc.le_refl I) (by omega) (by omega)
  obtain⟨ad1,x1,ha1,hx1,hr1,hw1,hs1,ht1⟩:=hat (i:=1) (G:=[]) (cc.le_refl I) (by omega) (by omega)
  obtain⟨ad2,x2,ha2,hx2,hr2,hw2,hs2,ht2⟩:=hat (i:=2) (G:=[]) (cc.le_refl I) (by omega) (by omega)
  refine⟨⟨by omega,by omega⟩,ad0,ha0,⟨by omega,by omega⟩,ad1,ha1,_,_,_,_,_,_,_,_,_,_,hr1,⟨by omega,by omega⟩,ad2,ha2,_,_,_,_,_,_,_,_,_,_,hr2,_,_,_,_,_,_,_,_,_,_,hr0, ?_⟩
  refine cg.ret (ht0 I _ (cc.le_refl I)) fun I1 l1=>⟨_,rfl,F,.refl _,cg.ret (ht1 I1 _ l1) fun I2 l2=>⟨_,rfl,F,.refl _,cg.ret (ht2 I2 _ (cc.le_trans l1 l2)) fun I3 l3=>⟨_,rfl,F,.refl _,fun b I4 l4 hb =>
   cg.ret (gx x1.px.wt x2.px.wt hb) fun I5 l5=>⟨_,rfl,F,.refl _, ?_,rfl⟩⟩⟩⟩
  rw[du (n:=x0.px.wt+max x1.px.wt x2.px.wt) (by omega),du (by omega),hwt]
  unfold HS
  rw[if_pos h7]
  match hk:t.kids,h3 with
  | [a,b,c],_ =>
    rw[hk] at hx0 hx1 hx2
    cases hx0;cases hx1;cases hx2
    rfl
 ·have h7:t.kind≠7:=by simpa using h7
  have h9:t.kind=9:=by simpa using h9
  have h3:t.kids.length=1:=by rw[hl];unfold Px.arity;rw[Nd.cO,h9];rfl
  obtain⟨ad0,x0,ha0,hx0,hr0,hw0,hs0,ht0⟩:=hat (i:=0) (G:=(b_n,.cells t.enc.toArray 28 (0,0))::F) (cc.le_refl I) (by omega) (by omega)
  refine⟨⟨by omega,by omega⟩,ad0,ha0,_,_,_,_,_,_,_,_,_,_,hr0,cg.ret (ht0 I _ (cc.le_refl I)) fun I1 l1=>⟨_,rfl,F,.refl _, ?_,rfl⟩⟩
  rw[hwt]
  unfold HS
  rw[if_neg h7,if_pos h9]
  match hk:t.kids,h3 with
  | [a],_ =>
    rw[hk] at hx0
    cases hx0
    show _=Ending.returned (Value.int .i64 (0+(x0.px.wt+0)))
    rw[Int.add_zero,Int.zero_add]
 ·have h7:t.kind≠7:=by simpa using h7
  have h9:t.kind≠9:=by simpa using h9
  refine⟨_,by omega,by omega,rfl,by omega, ?_,rfl⟩
  rw[hwt]
  unfold HS
  rw[if_neg h7,if_neg h9];rfl
 ·have hlt:=of_decide_eq_true hlt
  subst gF
  obtain⟨ad0,x0,ha0,hx0,hr0,hw0,hs0,ht0⟩:=hat (G:=(b_n,.cells t.enc.toArray 28 (0,0))::F1) hI g0 hlt
  have hd:=CG (l:=t.kids.drop (i.toNat+1)) fun k hk=>hkf k (List.mem_of_mem_drop hk)
  rw[DK hx0] at gs
  refine⟨⟨g0,hlt⟩,ad0,ha0,_,_,_,_,_,_,_,_,_,_,hr0,fun b_k=>cg.ret (ht0 I1 _ (cc.le_refl I1)) fun I2 l2=>⟨_,rfl,F1,.refl _,(t.kids.length-(i+1)).toNat,by omega, ?_⟩⟩
  rw[du (n:=i+1) (by omega),du (n:=sum+x0.px.wt) (by omega)]
  refine⟨by omega,by omega,rfl,by omega, ?_,rfl⟩
  rw[gs,show (i+1).toNat=i.toNat+1 by omega,Int.add_assoc]
 ·have hlt:=of_decide_eq_false hlt
  rw[gs,List.drop_eq_nil_of_le (by omega)]
  show _=Ending.returned (Value.int .i64 (sum+0))
  rw[Int.add_zero]
theorem ov(t:Nd)(hs:t.px.size≤4194304)(hf:t.px.formed=true)(I:cc)(F:b8)(ht:cH I F t):cg P 32 #[t.v] I F (eg (.int .i64 t.px.wt) F) :=
 cg.BP fun J hJ hF=>x8 t hs hf J [] (ht.BP hJ hF)
theorem ie:∀{l:List Int},(∀x∈l,0≤x)→0≤eC l
 | [],_=>Int.le_refl 0
 | x::r,h=>by
   have h1:=h x (.head _)
   have h2:=ie fun y hy=>h y (.tail _ hy)
   rw[eC];omega
theorem pg{B:Int}:∀{l:List Int},(∀x∈l,x≤B)→eC l≤B*l.length
 | [],_=>by rw[eC];simp
 | x::r,h=>by
   have h1:=h x (.head _)
   have h2:=pg fun y hy=>h y (.tail _ hy)
   rw[eC,List.length_cons,Int.natCast_add,Int.mul_add];omega
structure Px.Part (x:Px):Prop where
 ok:x.kind=0∨x.formed=true
 size:x.size≤1048576
theorem Px.Part.range{x:Px}(h:x.Part):0≤iG x∧iG x≤2097152:=by
 unfold iG
 split
 ·omega
 ·rename_i h0
  have:=Px.kA x (h.ok.resolve_left h0)
  have:=h.size
  omega
def dS.Sound(d:dS):Prop:=∀x∈d.nG,x.Part
theorem dS.Sound.range{d:dS}(h:d.Sound):0≤d.wt∧d.wt≤8388608:=by
 have h1:=(h d.side (.head _)).range
 have h2:=(h d.qty (.tail _ (.head _))).range
 have h3:=(h d.price (.tail _ (.tail _ (.head _)))).range
 have h4:=(h d.value (.tail _ (.tail _ (.tail _ (.head _))))).range
 unfold dS.wt;omega
structure cM.Sound (r:cM):Prop where
 when:r.when.formed=true
 size:r.when.size≤1048576
 len:r.dos.length≤8
 dos:∀d∈r.dos,d.Sound
theorem cM.Sound.body{r:cM}(h:r.Sound):0≤r.body∧r.body≤67108864:=by
 have h1:=ie (l:=r.dos.map dS.wt) fun x hx=>by obtain⟨d,hd,rfl⟩:=List.mem_map.1 hx;exact (h.dos d hd).range.1
 have h2:=pg (B:=8388608) (l:=r.dos.map dS.wt) fun x hx=>by obtain⟨d,hd,rfl⟩:=List.mem_map.1 hx;exact (h.dos d hd).range.2
 rw[List.length_map] at h2
 have h3:=h.len
 unfold cM.body;omega
theorem dS.so(d:dS):0≤d.act∧d.act≤1:=by unfold dS.act;split<;>omega
theorem cM.vw(r:cM):0≤r.fu∧r.fu≤r.dos.length:=by
 have h1:=ie (l:=r.dos.map dS.act) fun x hx=>by obtain⟨d,hd,rfl⟩:=List.mem_map.1 hx;exact d.so.1
 have h2:=pg (B:=1) (l:=r.dos.map dS.act) fun x hx=>by obtain⟨d,hd,rfl⟩:=List.mem_map.1 hx;exact d.so.2
 rw[List.length_map] at h2
 unfold cM.fu;omega
structure cq.Sound (x:cq):Prop where
 len:x.rules.length≤12
 rules:∀r∈x.rules,r.Sound
structure cu.Sound (s:cu):Prop where
 some:0<s.cd.length
 len:s.cd.length≤12
 cd:∀x∈s.cd,x.Sound
theorem nv{b:Bool}{x:Px}(h:cN b x=0)(hs:x.size≤1048576):x.Part:=by
 refine⟨?_,hs⟩
 unfold cN at h
 split at h
 ·exact .inr (jf h)
 ·have:=jG (by decide) h
  unfold Px.sO at this
  simp only[Bool.and_eq_true,beq_iff_eq] at this
  exact .inl this.1.1
theorem cu.sound{s:cu}(h:s.check=0)(hl:s.nH):s.Sound:=by
 unfold cu.check at h
 obtain⟨_,h⟩:=cz h
 obtain⟨_,h⟩:=cz h
 obtain⟨_,h⟩:=cz h
 obtain⟨_,h⟩:=cz h
 obtain⟨_,h⟩:=cz h
 obtain⟨h0,h⟩:=cz h
 obtain⟨h12,h⟩:=cz h
 refine⟨of_decide_eq_true (jG (by decide) h0),of_decide_eq_true (jG (by decide) h12),fun x hx=>?_⟩
 have h1:=fP h x hx
 have hxl:=(hl.state x hx).2
 unfold cq.check at h1
 obtain⟨_,h1⟩:=cz h1
 obtain⟨h2,h1⟩:=cz h1
 refine⟨of_decide_eq_true (jG (by decide) h2),fun r hr=>?_⟩
 have h3:=fP h1 r hr
 obtain⟨l1,l2,l3⟩:=hxl r hr
 unfold cM.check at h3
 obtain⟨hw,h3⟩:=cz h3
 obtain⟨_,h3⟩:=cz h3
 obtain⟨h8,h3⟩:=cz h3
 refine⟨jf hw,l1,of_decide_eq_true (jG (by decide) h8),fun d hd=>?_⟩
 have h4:=fP h3 d hd
 have l4:=l3 d hd
 unfold dS.check at h4
 obtain⟨_,h4⟩:=cz h4
 obtain⟨_,h4⟩:=cz h4
 obtain⟨_,h4⟩:=cz h4
 obtain⟨p1,h4⟩:=cz h4
 obtain⟨p2,h4⟩:=cz h4
 obtain⟨p3,p4⟩:=cz h4
 intro y hy
 have hy':=l4 y hy
 simp only[dS.nG,List.mem_cons,List.not_mem_nil,or_false] at hy
 rcases hy with rfl | rfl | rfl | rfl
 ·exact nv p1 hy'
 ·exact nv p2 hy'
 ·exact nv p3 hy'
 ·exact nv p4 hy'
theorem sZ(t:Nd)(hs:t.px.size≤4194304)(I:cc)(F:b8)(ht:cH I F t):cg P 12 #[t.v] I F (eg (.int .i64 (if t.px.formed then t.px.wt else 0)) F):=by
 refine o9.vc ?_
 unfold o9.V
 intro b_n
 refine cg.ret (tg t hs I _ (ht.cons (x:=(b_n,Obj.cells #[.int .u8 t.kind,.int .u8 t.oper,.int .u8 t.cx,.int .i64 t.n,.int .u8 t.field,.string t.name,.slice t.a t.kids.length t.c,.int .i64 t.pos] 28 (0,0))))) fun I1 l1=>⟨_,rfl,F,.refl _,fun h=>?_,fun h=>?_⟩
 ·have h:t.px.db=120:=by simpa using h
  have hf:t.px.formed=false:=by
   cases hf:t.px.formed with
   | false=>rfl
   | true=>unfold Px.db at h;rw[hf,if_pos rfl] at h;split at h<;>cases h
  rw[hf];exact⟨rfl,rfl⟩
 ·have h:t.px.db≠120:=by simpa using h
  have hf:t.px.formed=true:=by
   cases hf:t.px.formed with
   | true=>rfl
   | false=>exact absurd (by unfold Px.db;rw[hf];rfl) h
  refine cg.ret (ov t hs hf I1 _ ((ht.mono l1 fun _ h=>h).cons (x:=(b_n,Obj.cells #[.int .u8 t.kind,.int .u8 t.oper,.int .u8 t.cx,.int .i64 t.n,.int .u8 t.field,.string t.name,.slice t.a t.kids.length t.c,.int .i64 t.pos] 28 (0,0))))) fun I2 l2=>⟨_,rfl,F,.refl _, ?_⟩
  rw[hf];exact⟨rfl,rfl⟩
theorem zY:dw P 41:=yR [41] (by kernel_rfl) _ (by decide)
theorem zZ(t:Nd)(hs:t.px.size≤4194304)(hf:t.px.formed=true)(b:Nat)(c:Int)(h0:0≤c)(h1:c≤1000000000)(I:cc)(F:b8)(ht:cH I F t) :
  cg P 41 #[t.v,.pointer (some ⟨b,0,none⟩)] I ((b,.cells #[.int .i64 c] 3 (0,0))::F) fun e I' G=>e=.returned (.tuple #[])∧G=(b,.cells #[.int .i64 (c+t.px.wt)] 3 (0,0))::F:=by
 refine jh.vc ?_
 unfold jh.V
 intro b_n
 have hr:=Px.kA t.px hf
 refine⟨t.px.wt,(ov t hs hf I _ (ht.mono (cc.le_refl I) fun y hy=>.tail _ (.tail _ hy))).mono fun e I1 G l1 ⟨he,hG⟩=>⟨he,by rw[hG]⟩,rfl, ?_⟩
 rw[du (by omega)]
def jH(d:dG):List Nd:=[d.side,d.qty,d.price,d.value]
def BQ(l:List Nd):Int:=eC (l.map fun y=>iG y.px)
theorem E9{d:dG}{b t:Nat}{fz:Nat×Nat}{I:cc}(hb:I b=some (.cells #[.int .u8 d.side.kind,.int .u8 d.side.oper,.int .u8 d.side.cx,.int .i64 d.side.n,.int .u8 d.side.field,.string d.side.name,.slice d.side.a d.side.kids.length d.side.c,.int .i64 d.side.pos,.int .u8 d.qty.kind,.int .u8 d.qty.oper,.int .u8 d.qty.cx,.int .i64 d.qty.n,.int .u8 d.qty.field,.string d.qty.name,.slice d.qty.a d.qty.kids.length d.qty.c,.int .i64 d.qty.pos,.int .u8 d.price.kind,.int .u8 d.price.oper,.int .u8 d.price.cx,.int .i64 d.price.n,.int .u8 d.price.field,.string d.price.name,.slice d.price.a d.price.kids.length d.price.c,.int .i64 d.price.pos,.int .u8 d.value.kind,.int .u8 d.value.oper,.int .u8 d.value.cx,.int .i64 d.value.n,.int .u8 d.value.field,.string d.value.name,.slice d.value.a d.value.kids.length d.value.c,.int .i64 d.value.pos] t fz))(F:b8):dy I F 8 Nd.enc (some ⟨b,0,none⟩) 4 (jH d) :=
 (Sl.lN (f:=Nd.enc) (z:=8) (l:=jH d) (fun _=>rfl) hb (fun k hk=>by
   show (List.toArray ((jH d).flatMap Nd.enc))[k]? = _
   rw[List.getElem?_toArray])).yl F
theorem Fa{d:dG}{I:cc}{F:b8}(h:d.Ok I F):∀x∈jH d,cH I F x:=by
 intro x hx
 simp only[jH,List.mem_cons,List.not_mem_nil,or_false] at hx
 rcases hx with rfl | rfl | rfl | rfl
 ·exact h.1
 ·exact h.2.1
 ·exact h.2.2.1
 ·exact h.2.2.2
theorem z0{d:dG}(h:d.p.Sound):∀x∈jH d,x.px.Part:=fun x hx=>h x.px (by
 have:(jH d).map Nd.px=d.p.nG:=rfl
 rw[←this];exact List.mem_map_of_mem hx)
theorem DL{l:List Nd}{i:Nat}{x:Nd}(h:l[i]? = some x):BQ (l.drop i)=iG x.px+BQ (l.drop (i+1)):=by
 obtain⟨hk,hx⟩:=List.getElem?_eq_some_iff.1 h
 unfold BQ
 rw[List.drop_eq_getElem_cons hk,List.map_cons,eC,hx]
theorem z5{l:List Nd}(h:∀x∈l,x.px.Part):0≤BQ l:=ie fun x hx=>by
 obtain⟨y,hy,rfl⟩:=List.mem_map.1 hx
 exact (h y hy).range.1
theorem Gn(d:dG):BQ (jH d)=d.p.wt:=by
 show iG d.side.px+(iG d.qty.px+(iG d.price.px+(iG d.value.px+0)))=iG d.side.px+iG d.qty.px+iG d.price.px+iG d.value.px
 omega
theorem xf(f:dS→Int){l:List dG}{i:Nat}{x:dG}(h:l[i]? = some x):eC ((l.drop i).map fun d=>f d.p)=f x.p+eC ((l.drop (i+1)).map fun d=>f d.p):=by
 obtain⟨hk,hx⟩:=List.getElem?_eq_some_iff.1 h
 rw[List.drop_eq_getElem_cons hk,List.map_cons,eC,hx]
theorem z6{r:cr}(h:r.p.Sound)(i:Nat):0≤eC ((r.dos.drop i).map fun d=>d.p.wt):=ie fun x hx=>by
 obtain⟨y,hy,rfl⟩:=List.mem_map.1 hx
 exact ((h.dos y.p (List.mem_map_of_mem (List.mem_of_mem_drop hy))).range).1
theorem Gp(r:cr):r.p.body=eC (r.dos.map fun d=>d.p.wt):=by
 show eC ((r.dos.map dG.p).map dS.wt)=_
 rw[List.map_map];rfl
theorem Gq(r:cr):r.p.fu=eC (r.dos.map fun d=>d.p.act):=by
 show eC ((r.dos.map dG.p).map dS.act)=_
 rw[List.map_map];rfl
set_option maxHeartbeats 1000000 in
theorem DM(r:cr){I:cc}{F:b8}(hr:r.Ok I F)(hs:r.p.Sound)(b:Nat)(v:Int)(h0:0≤v)(h1:v≤100000000) :
  cg P 40 #[r.v,.func (.func 41) #[] #[.pointer (some ⟨b,0,none⟩)]] I ((b,.cells #[.int .i64 v] 3 (0,0))::F) fun e I' G=>e=.returned (.tuple #[])∧G=(b,.cells #[.int .i64 (v+r.p.body)] 3 (0,0))::F:=by
 have hbd:=hs.body
 have hlen:=hs.len
 have hlen:r.dos.length≤8:=by simpa[cr.p] using hlen
 refine pb.vc
  (fun x m I0 F0 I' F'=>0≤x∧x≤r.dos.length∧m=(r.dos.length-x).toNat∧∃u,F'=(b,.cells #[.int .i64 u] 3 (0,0))::F∧0≤u∧u+eC ((r.dos.drop x.toNat).map fun d=>d.p.wt)=v+r.p.body)
  (fun x k m I0 F0 I' F'=>∃d,r.dos[x.toNat]? = some d∧0≤k∧k≤4∧m=(4-k).toNat∧∃u,F'=(b,.cells #[.int .i64 u] 3 (0,0))::F∧0≤u∧u+BQ ((jH d).drop k.toNat)+eC ((r.dos.drop (x.toNat+1)).map fun d=>d.p.wt)=v+r.p.body) ?_
 unfold pb.V
 intro b_r
 refine⟨⟨_,by omega,by omega,rfl,v,rfl,h0, ?_⟩,fun x m I1 F1 l1 ⟨g0,g1,gm,u,gF,gu,gs⟩=>⟨fun hlt=>?_,fun hlt=>?_⟩⟩
 ·rw[Gp];rfl
 ·have hlt:=of_decide_eq_true hlt
  have hr1:r.Ok I1 ((b_r,Obj.cells #[.int .u8 r.when.kind,.int .u8 r.when.oper,.int .u8 r.when.cx,.int .i64 r.when.n,.int .u8 r.when.field,.string r.when.name,.slice r.when.a r.when.kids.length r.when.c,.int .i64 r.when.pos,.slice r.a r.dos.length r.c,.int .i64 r.pos] 84 (0,0))::F1):=hr.mono l1 fun y hy=>by rw[gF];exact .tail _ (.tail _ hy)
  obtain⟨ad,d,had,hd,hrd,hdm⟩:=dy.j3 hr1.2.1 g0 hlt
  refine⟨⟨g0,hlt⟩,ad,had,_,_,_,_,_,_,_,_,_,_,_,_,_,_,_,_,_,_,_,_,_,_,_,_,_,_,_,_,_,_,_,_,_,_,_,_,_,_,_,_,_,_,_,_,hrd,fun b_d b2 I2 l2 hb2=>⟨⟨_,d,hd,by omega,by omega,rfl,u,gF,gu, ?_⟩,fun k m3 I3 F3 l3 ⟨d',hd',k0,k4,km,u',kF,ku,ks⟩=>⟨fun hk=>?_,fun hk=>?_⟩⟩⟩
  ·rw[←gs,xf dS.wt hd]
   show u+BQ (jH d)+_=_
   rw[Gn,Int.add_assoc]
  ·obtain rfl:d=d':=by rw[hd] at hd';exact Option.some.inj hd'
   have hk:=of_decide_eq_true hk
   have hso:=z0 (hs.dos d.p (List.mem_map_of_mem hdm))
   obtain⟨ad1,x1,had1,hx1,hrd1,hxm⟩:=dy.j3 (E9 (l3.at hb2) ((b_r,Obj.cells #[.int .u8 r.when.kind,.int .u8 r.when.oper,.int .u8 r.when.cx,.int .i64 r.when.n,.int .u8 r.when.field,.string r.when.name,.slice r.when.a r.when.kids.length r.when.c,.int .i64 r.when.pos,.slice r.a r.dos.length r.c,.int .i64 r.pos] 84 (0,0))::(b_d,Obj.cells #[.int .u8 d.kind,.int .u8 d.order,.string d.name,.int .u8 d.side.kind,.int .u8 d.side.oper,.int .u8 d.side.cx,.int .i64 d.side.n,.int .u8 d.side.field,.string d.side.name,.slice d.side.a d.side.kids.length d.side.c,.int .i64 d.side.pos,.int .u8 d.qty.kind,.int .u8 d.qty.oper,.int .u8 d.qty.cx,.int .i64 d.qty.n,.int .u8 d.qty.field,.string d.qty.name,.slice d.qty.a d.qty.kids.length d.qty.c,.int .i64 d.qty.pos,.int .u8 d.price.kind,.int .u8 d.price.oper,.int .u8 d.price.cx,.int .i64 d.price.n,.int .u8 d.price.field,.string d.price.name,.slice d.price.a d.price.kids.length d.price.c,.int .i64 d.price.pos,.int .u8 d.value.kind,.int .u8 d.value.oper,.int .u8 d.value.cx,.int .i64 d.value.n,.int .u8 d.value.field,.string d.value.name,.slice d.value.a d.value.kids.length d.value.c,.int .i64 d.value.pos,.int .i64 d.pos] 99 (0,0))::F3)) k0 hk
   have hp:=hso x1 hxm
   have hpr:=hp.range
   have n1:=z5 (l:=(jH d).drop (k.toNat+1)) fun y hy=>hso y (List.mem_of_mem_drop hy)
   have n2:=z6 hs (x.toNat+1)
   rw[DL hx1] at ks
   refine⟨⟨k0,hk⟩,ad1,had1,_,_,_,_,_,_,_,_,_,_,hrd1,fun b_n=>⟨fun hn=>?_,fun hn=>⟨(4-(k+1)).toNat,by omega,d,hd, ?_⟩⟩⟩
   ·have hn:x1.px.kind≠0:=by rw[Nd.cO];simpa using hn
    have hw:iG x1.px=x1.px.wt:=if_neg hn
    subst kF
    have hok:cH I3 ((b_r,Obj.cells #[.int .u8 r.when.kind,.int .u8 r.when.oper,.int .u8 r.when.cx,.int .i64 r.when.n,.int .u8 r.when.field,.string r.when.name,.slice r.when.a r.when.kids.length r.when.c,.int .i64 r.when.pos,.slice r.a r.dos.length r.c,.int .i64 r.pos] 84 (0,0))::(b_d,Obj.cells #[.int .u8 d.kind,.int .u8 d.order,.string d.name,.int .u8 d.side.kind,.int .u8 d.side.oper,.int .u8 d.side.cx,.int .i64 d.side.n,.int .u8 d.side.field,.string d.side.name,.slice d.side.a d.side.kids.length d.side.c,.int .i64 d.side.pos,.int .u8 d.qty.kind,.int .u8 d.qty.oper,.int .u8 d.qty.cx,.int .i64 d.qty.n,.int .u8 d.qty.field,.string d.qty.name,.slice d.qty.a d.qty.kids.length d.qty.c,.int .i64 d.qty.pos,.int .u8 d.price.kind,.int .u8 d.price.oper,.int .u8 d.price.cx,.int .i64 d.price.n,.int .u8 d.price.field,.string d.price.name,.slice d.price.a d.price.kids.length d.price.c,.int .i64 d.price.pos,.int .u8 d.value.kind,.int .u8 d.value.oper,.int .u8 d.value.cx,.int .i64 d.value.n,.int .u8 d.value.field,.string d.value.name,.slice d.value.a d.value.kids.length d.value.c,.int .i64 d.value.pos,.int .i64 d.pos] 99 (0,0))::(b_n,Obj.cells #[.int .u8 x1.kind,.int .u8 x1.oper,.int .u8 x1.cx,.int .i64 x1.n,.int .u8 x1.field,.string x1.name,.slice x1.a x1.kids.length x1.c,.int .i64 x1.pos] 28 (0,0))::F) x1:=(Fa (hr.2.2 d hdm) x1 hxm).mono (cc.le_trans (cc.le_trans l1 l2) l3) fun y hy=>.tail _ (.tail _ (.tail _ hy))
    have hsz:=hp.size
    refine rJ.fn zY (by simp) (((zZ x1 (by omega) (hp.ok.resolve_left hn) b u' ku (by omega) I3 _ hok).perm ?_).mono fun e I4 G l4 ⟨he,hG⟩=>⟨he,(b,.cells #[.int .i64 (u'+x1.px.wt)] 3 (0,0))::F, ?_,(4-(k+1)).toNat,by omega,d,hd, ?_⟩)
    ·exact (cW fun z=>by simp only[dp,c8,eu];omega)
    ·rw[hG];exact (cW fun z=>by simp only[dp,c8,eu];omega)
    ·rw[du (n:=k+1) (by omega)]
     refine⟨by omega,by omega,rfl,u'+x1.px.wt,rfl,by omega, ?_⟩
     rw[show (k+1).toNat=k.toNat+1 by omega,←ks,hw];omega
   ·have hn:x1.px.kind=0:=by rw[Nd.cO];simpa using hn
    have hw:iG x1.px=0:=if_pos hn
    rw[du (n:=k+1) (by omega)]
    refine⟨by omega,by omega,rfl,u',kF,ku, ?_⟩
    rw[show (k+1).toNat=k.toNat+1 by omega,←ks,hw];omega
  ·obtain rfl:d=d':=by rw[hd] at hd';exact Option.some.inj hd'
   have hk:=of_decide_eq_false hk
   refine⟨(r.dos.length-(x+1)).toNat,by omega, ?_⟩
   rw[du (n:=x+1) (by omega)]
   refine⟨by omega,by omega,rfl,u',kF,ku, ?_⟩
   rw[show (x+1).toNat=x.toNat+1 by omega,←ks,List.drop_eq_nil_of_le (show (jH d).length≤k.toNat by show 4≤_;omega)]
   show _=u'+0+_
   omega
 ·have hlt:=of_decide_eq_false hlt
  rw[List.drop_eq_nil_of_le (by omega)] at gs
  have gs:u+0=v+r.p.body:=gs
  refine⟨rfl, ?_⟩
  rw[gF,←gs,Int.add_zero]
theorem z7(r:cr){I:cc}{F:b8}(hr:r.Ok I F)(hlen:r.dos.length≤1048576):cg P 43 #[r.v] I F (eg (.int .i64 r.p.fu) F):=by
 refine pe.vc (fun u x m I' F'=>0≤x∧x≤r.dos.length∧m=(r.dos.length-x).toNat∧F'=F∧0≤u∧u≤x∧u+eC ((r.dos.drop x.toNat).map fun d=>d.p.act)=r.p.fu) ?_
 unfold pe.V
 intro b_r
 refine⟨⟨_,by omega,by omega,rfl,rfl,by omega,by omega, ?_⟩,fun u x m I1 F1 l1 ⟨g0,g1,gm,gF,u0,u1,gs⟩=>⟨fun hlt=>?_,fun hlt=>⟨?_,gF⟩⟩⟩
 ·rw[Gq,Int.zero_add];rfl
 ·have hlt:=of_decide_eq_true hlt
  subst gF
  obtain⟨ad,d,had,hd,hrd,hdm⟩:=dy.j3 ((hr.mono l1 fun _ h=>h).cons (x:=(b_r,Obj.cells #[.int .u8 r.when.kind,.int .u8 r.when.oper,.int .u8 r.when.cx,.int .i64 r.when.n,.int .u8 r.when.field,.string r.when.name,.slice r.when.a r.when.kids.length r.when.c,.int .i64 r.when.pos,.slice r.a r.dos.length r.c,.int .i64 r.pos] 84 (0,0)))).2.1 g0 hlt
  rw[xf dS.act hd] at gs
  have key:∀w,w=u+d.p.act→∃m2:Nat,m2<m∧(0≤IntKind.wrap .i64 (x+1)∧IntKind.wrap .i64 (x+1)≤r.dos.length∧m2=(r.dos.length-IntKind.wrap .i64 (x+1)).toNat∧F1=F1∧0≤w∧w≤IntKind.wrap .i64 (x+1) ∧
    w+eC ((r.dos.drop (IntKind.wrap .i64 (x+1)).toNat).map fun d=>d.p.act)=r.p.fu):=by
   intro w hw
   have:=d.p.so
   rw[du (n:=x+1) (by omega)]
   refine⟨(r.dos.length-(x+1)).toNat,by omega,by omega,by omega,rfl,rfl,by omega,by omega, ?_⟩
   rw[show (x+1).toNat=x.toNat+1 by omega,←gs];omega
  have hk:d.p.kind=d.kind:=rfl
  have hw:IntKind.wrap .i64 (u+1)=u+1:=du (by omega)
  refine⟨⟨g0,hlt⟩,ad,had,_,_,_,_,_,_,_,_,_,_,_,_,_,_,_,_,_,_,_,_,_,_,_,_,_,_,_,_,_,_,_,_,_,_,_,_,_,_,_,_,_,_,_,_,hrd,fun b_d=>⟨fun h=>?_,fun h=>⟨fun h2=>?_,fun h2=>⟨fun h3=>?_,fun h3=>?_⟩⟩⟩⟩
  ·rw[hw];exact key _ (by unfold dS.act;rw[hk,if_pos (by simp at h;exact .inl h)])
  ·rw[hw];exact key _ (by unfold dS.act;rw[hk,if_pos (by simp at h2;exact .inr (.inl h2))])
  ·rw[hw];exact key _ (by unfold dS.act;rw[hk,if_pos (by simp at h3;exact .inr (.inr h3))])
  ·refine key _ ?_
   simp at h h2 h3
   unfold dS.act;rw[hk,if_neg (by omega),Int.add_zero]
 ·have hlt:=of_decide_eq_false hlt
  rw[List.drop_eq_nil_of_le (by omega)] at gs
  have gs:u+0=r.p.fu:=gs
  rw[←gs,Int.add_zero]
end Go.Lx
namespace Go.Vc
theorem cc.Fb{I:cc}{b:Nat}{o:Obj}(h:I b=none):cc.le I (I.put b o):=⟨fun c x hc=>by
 have hne:c≠b:=fun e=>by rw[e,h] at hc;cases hc
 show (if c=b then some o else I c)=some x
 rw[if_neg hne];exact hc,rfl,rfl⟩
theorem cc.HU{I I':cc}{b:Nat}{o:Obj}(hb:I b=none)(hl:cc.le (I.put b o) I'):cc.le I (I'.del b):=⟨fun x y hx=>by
 have hne:x≠b:=fun e=>by rw[e,hb] at hx;cases hx
 show (if x=b then none else I' x)=some y
 rw[if_neg hne]
 exact hl.at (by simp[cc.put,hne,hx]),hl.2.1,hl.2.2⟩
theorem cc.Fc(I:cc)(b:Nat):I.del b b=none:=if_pos rfl
theorem qo{α:Type}(v w:α)(B:List α):∀A:List α,cp A.length [v] (A++w::B)=A++v::B
 | []=>by cases B<;>simp[cp]
 | a::A=>by rw[List.length_cons,List.cons_append,cp,qo v w B A];rfl
theorem cg.off{P:Program}{f:FuncId}{args:Array Value}{I:cc}{F:b8}{Q:Ending→cc→b8→Prop}(h:cg P f args I F Q):cg P f args I F fun e I' G=>Q e I' G∧∀b o,(b,o)∈G→I' b=none :=
 h.keep fun e I' G w hl hs hq=>⟨I',G,cc.le_refl I',hs,hq,fun b o hm=>hs.off b o hm⟩
end Go.Vc
namespace Go.Lx
open Go.Vc
abbrev C2:Type:=Int×Int
def wh(c:C2):List Value:=[.int .i64 c.1,.int .i64 c.2]
def cq.cost(x:cq):C2:=(x.steps,x.fu)
def cu.fR(s:cu):List C2:=s.cd.map cq.cost
def GN:Value:=.int .i64 0
theorem HV(n:Nat):madeCells (Value.agg #[.int .i64 0,.int .i64 0]).cells n=(List.replicate n GN).toArray:=by
 show madeCells #[GN,GN] n=_
 refine Array.ext (by rw[size_madeCells];simp) fun i h1 h2=>?_
 have:i % 2=0∨i % 2=1:=by omega
 rcases this with h | h<;>simp[madeCells,h]
theorem gy(m x:Int)(r:List Int):gK m (x::r)=gK (max m x) r:=rfl
theorem ya:∀(l:List Int) (m:Int),m≤gK m l
 | [],m=>Int.le_refl m
 | x::r,m=>by have:=ya r (max m x);rw[gy];omega
theorem yb{B:Int}:∀(l:List Int) (m:Int),m≤B→(∀x∈l,x≤B)→gK m l≤B
 | [],m,h,_=>h
 | x::r,m,h,hl=>by rw[gy];exact yb r _ (by have:=hl x (.head _);omega) fun y hy=>hl y (.tail _ hy)
theorem rz(x:cj):x.p.steps=eC (x.rules.map fun r=>r.when.px.wt)+gK 0 (x.rules.map fun r=>r.p.body):=by
 show eC ((x.rules.map cr.p).map fun r=>r.when.wt)+gK 0 ((x.rules.map cr.p).map cM.body)=_
 rw[List.map_map,List.map_map];rfl
theorem tG(x:cj):x.p.fu=gK 0 (x.rules.map fun r=>r.p.fu):=by
 show gK 0 ((x.rules.map cr.p).map cM.fu)=_
 rw[List.map_map];rfl
theorem cq.Sound.when{x:cj}(h:x.p.Sound):∀r∈x.rules,0≤r.when.px.wt∧r.when.px.wt≤2097152:=fun r hr=>by
 have h1:=h.rules r.p (List.mem_map_of_mem hr)
 have:=Px.kA r.when.px h1.when
 have:r.when.px.size≤1048576:=h1.size
 omega
theorem cq.Sound.range{x:cj}(h:x.p.Sound):(0≤x.p.steps∧x.p.steps≤100000000)∧0≤x.p.fu∧x.p.fu≤8:=by
 have h1:=ie (l:=x.rules.map fun r=>r.when.px.wt) fun w hw=>by obtain⟨r,hr,rfl⟩:=List.mem_map.1 hw;exact (h.when r hr).1
 have h2:=pg (B:=2097152) (l:=x.rules.map fun r=>r.when.px.wt) fun w hw=>by obtain⟨r,hr,rfl⟩:=List.mem_map.1 hw;exact (h.when r hr).2
 have h3:=ya (x.rules.map fun r=>r.p.body) 0
 have h4:=yb (B:=67108864) (x.rules.map fun r=>r.p.body) 0 (by decide) fun w hw=>by obtain⟨r,hr,rfl⟩:=List.mem_map.1 hw;exact (h.rules r.p (List.mem_map_of_mem hr)).body.2
 have h5:=ya (x.rules.map fun r=>r.p.fu) 0
 have h6:=yb (B:=8) (x.rules.map fun r=>r.p.fu) 0 (by decide) fun w hw=>by
  obtain⟨r,hr,rfl⟩:=List.mem_map.1 hw
  have:=r.p.vw
  have:=(h.rules r.p (List.mem_map_of_mem hr)).len
  omega
 have hl:=h.len
 have hl:x.rules.length≤12:=by simpa[cj.p] using hl
 rw[List.length_map] at h2
 rw[rz,tG]
 omega
def lu(s:cB)(i:Nat):List Value:=(s.cd.take i).flatMap fun y=>wh y.p.cost
theorem lZ(s:cB){i:Nat}(h:i≤s.cd.length):(lu s i).length=i*2:=by
 unfold lu
 rw[gG (z:=2) (fun _=>rfl),List.length_take,Nat.min_eq_left h]
theorem BR(s:cB){i:Nat}{y:cj}(h:s.cd[i]? = some y):lu s (i+1)=lu s i++[.int .i64 y.p.steps,.int .i64 y.p.fu]:=by
 obtain⟨hk,hx⟩:=List.getElem?_eq_some_iff.1 h
 unfold lu
 rw[List.take_succ_eq_append_getElem hk,List.flatMap_append,hx]
 show _=_++_
 simp[wh,cq.cost]
def dJ(s:cB)(i:Nat)(st ac:Int):List Value:=lu s i ++ .int .i64 st :: .int .i64 ac::List.replicate ((s.cd.length-(i+1))*2) GN
def lD(s:cB)(i:Nat):List Value:=lu s i++List.replicate ((s.cd.length-i)*2) GN
theorem DN(s:cB){i:Nat}(h:i<s.cd.length):lD s i=dJ s i 0 0:=by
 unfold lD dJ
 rw[show (s.cd.length-i)*2=(s.cd.length-(i+1))*2+1+1 by omega,List.replicate_succ,List.replicate_succ];rfl
theorem rA(s:cB){i:Nat}{y:cj}(h:s.cd[i]? = some y):dJ s i y.p.steps y.p.fu=lD s (i+1):=by
 unfold lD dJ
 rw[BR s h,List.append_assoc];rfl
theorem BS(s:cB):lD s s.cd.length=s.p.fR.flatMap wh:=by
 unfold lD lu cu.fR
 rw[List.take_length,Nat.sub_self,Nat.zero_mul,List.replicate_zero,List.append_nil]
 show _=((s.cd.map cj.p).map cq.cost).flatMap wh
 rw[List.map_map,List.flatMap_map];rfl
theorem oy(s:cB){i:Nat}(h:i<s.cd.length)(st ac:Int):(dJ s i st ac).length=s.cd.length*2:=by
 unfold dJ
 rw[List.length_append,lZ s (by omega),List.length_cons,List.length_cons,List.length_replicate];omega
theorem pP(s:cB){i:Nat}(h:i<s.cd.length)(st ac v:Int):cp (i*2) [.int .i64 v] (dJ s i st ac)=dJ s i v ac:=by
 unfold dJ
 rw[←lZ s (by omega),qo]
theorem yc(s:cB){i:Nat}(h:i<s.cd.length)(st ac v:Int):cp (i*2+1) [.int .i64 v] (dJ s i st ac)=dJ s i st v:=by
 unfold dJ
 have e:∀w:Int,lu s i ++ .int .i64 st :: .int .i64 w::List.replicate ((s.cd.length-(i+1))*2) GN=(lu s i++[.int .i64 st]) ++ .int .i64 w::List.replicate ((s.cd.length-(i+1))*2) GN:=fun w=>by rw[List.append_assoc];rfl
 rw[e,e,show i*2+1=(lu s i++[Value.int .i64 st]).length by rw[List.length_append,lZ s (by omega)];rfl,qo]
theorem z8(s:cB){i:Nat}(h:i<s.cd.length)(st ac:Int):(dJ s i st ac)[i*2]? = some (.int .i64 st):=by
 unfold dJ
 have hd:=lZ s (i:=i) (by omega)
 rw[List.getElem?_append_right (by omega),show i*2-(lu s i).length=0 by omega];rfl
theorem z9(s:cB){i:Nat}(h:i<s.cd.length)(st ac:Int):(dJ s i st ac)[i*2+1]? = some (.int .i64 ac):=by
 unfold dJ
 have hd:=lZ s (i:=i) (by omega)
 rw[List.getElem?_append_right (by omega),show i*2+1-(lu s i).length=1 by omega];rfl
theorem vx(b n k:Nat):((⟨b,0,none⟩:Addr).add n).add k=⟨b,n+k,none⟩:=by rw[js];unfold Addr.add;split<;>simp_all
abbrev nw(s:cB)(bl i:Nat)(st ac:Int):Nat×Obj:=(bl,.cells (dJ s i st ac).toArray 57 (0,0))
theorem Fe{s:cB}{bl i:Nat}{st ac:Int}(hi:i<s.cd.length){I:cc}{G:b8}(h:I bl=some (nw s bl i st ac).2∨nw s bl i st ac∈G):Rd I G (⟨bl,i*2+0,none⟩:Addr) [.int .i64 st] :=
 ⟨rfl,_,_,_,h,fun j hj=>by
   have:j=0:=by simpa using hj
   subst this
   show (dJ s i st ac).toArray[i*2+0+0]? = _
   rw[List.getElem?_toArray];exact z8 s hi st ac⟩
theorem HW{s:cB}{bl i:Nat}{st ac:Int}(hi:i<s.cd.length){I:cc}{G:b8}(h:I bl=some (nw s bl i st ac).2∨nw s bl i st ac∈G):Rd I G (⟨bl,i*2+1,none⟩:Addr) [.int .i64 ac] :=
 ⟨rfl,_,_,_,h,fun j hj=>by
   have:j=0:=by simpa using hj
   subst this
   show (dJ s i st ac).toArray[i*2+1+0]? = _
   rw[List.getElem?_toArray];exact z9 s hi st ac⟩
theorem DO(f:cr→Int){l:List cr}{i:Nat}{x:cr}(h:l[i]? = some x):eC ((l.drop i).map f)=f x+eC ((l.drop (i+1)).map f):=by
 obtain⟨hk,hx⟩:=List.getElem?_eq_some_iff.1 h
 rw[List.drop_eq_getElem_cons hk,List.map_cons,eC,hx]
theorem xg(f:cr→Int){l:List cr}{i:Nat}{x:cr}(h:l[i]? = some x)(m:Int):gK m ((l.drop i).map f)=gK (max m (f x)) ((l.drop (i+1)).map f):=by
 obtain⟨hk,hx⟩:=List.getElem?_eq_some_iff.1 h
 rw[List.drop_eq_getElem_cons hk,List.map_cons,gy,hx]
theorem qq{s:cu}(h:s.types.e=0):s.check=0:=by
 unfold cu.types at h
 split at h
 ·rename_i hc;exact absurd h hc
 ·rename_i hc;exact Decidable.not_not.1 hc
def Gs(s:cB)(F:b8)(e:Ending)(I:cc)(G:b8):Prop :=
 (s.p.types.e≠0∧∃v,e=.returned (.tuple #[.slice none 0 0,v])∧zU s.p.types v I∧G=F) ∨
 (s.p.types.e=0∧∃bl,e=.returned (.tuple #[.slice (some ⟨bl,0,none⟩) s.cd.length s.cd.length,.nilIface])∧G.Perm ((bl,.cells (s.p.fR.flatMap wh).toArray 57 (0,0))::F))
set_option maxHeartbeats 4000000 in
theorem wi(s:cB)(hl:s.p.nH){I:cc}{F:b8}(hok:s.Ok I F)(hg:Gl I):cg P 19 #[s.v] I F (Gs s F):=by
 refine lp.vc
  (fun ps ra rn rc x m I0 F0 I' F'=>0≤x∧x≤s.cd.length∧m=(s.cd.length-x).toNat∧s.p.types.e=0∧∃bl,ra=some (⟨bl,0,none⟩:Addr)∧rn=s.cd.length∧rc=s.cd.length∧F'.Perm ((bl,.cells (lD s x.toNat).toArray 57 (0,0))::F))
  (fun ps ra rn rc x px most k m I0 F0 I' F'=>∃y,s.cd[x.toNat]? = some y∧0≤k∧k≤y.rules.length∧m=(y.rules.length-k).toNat∧∃(bl:Nat) (st ac:Int),ra=some (⟨bl,0,none⟩:Addr)∧F'.Perm (nw s bl x.toNat st ac::F) ∧
    0≤st∧st≤2097152*k∧(0≤most∧most≤67108864)∧(0≤ac∧ac≤8)∧st+eC ((y.rules.drop k.toNat).map fun r=>r.when.px.wt)+gK most ((y.rules.drop k.toNat).map fun r=>r.p.body)=y.p.steps∧gK ac ((y.rules.drop k.toNat).map fun r=>r.p.fu)=y.p.fu) ?_
 unfold lp.V
 intro b_s
 refine cg.iY (xZ s hl (hok.cons (x:=(b_s,Obj.cells #[.string s.name,.slice s.ra s.regs.length s.rc,.slice s.sa s.slots.length s.sc,.slice s.ta s.cd.length s.tc] 39 (0,0)))) hg) fun v I1 l1 hv=>⟨v,rfl,F,.refl _,_,gJ.neq hv (by kernel_rfl),fun hq=>?_,fun hq=>?_⟩
 ·exact .inl ⟨by simpa using hq,v,rfl,hv,rfl⟩
 have hq:s.p.types.e=0:=by simpa using hq
 have hs:=cu.sound (qq hq) hl
 have hn:s.cd.length≤12:=by have:=hs.len;simpa[cB.p] using this
 refine cE.mono (Db (e:=57) (z:=2) (by':=16) (zv:=.agg #[.int .i64 0,.int .i64 0]) (by kernel_rfl) (by kernel_rfl) (by omega) (Int.le_refl _) (by omega) (by omega)) fun v2 I2 G l2 ⟨bl,cs,hv2,hcl,hcs,hI,hG⟩=>?_
 rw[HV] at hcs
 subst hG
 have hcs:cs=lD s 0:=by
  have h:cs=List.replicate ((s.cd.length:Int).toNat*2) GN:=by have:=congrArg Array.toList hcs;simpa using this
  rw[h];unfold lD lu;simp
 subst hcs
 have htn:(s.cd.length:Int).toNat=s.cd.length:=by omega
 rw[htn] at hv2
 have l02:=cc.le_trans l1 l2
 refine⟨_,_,_,hv2,(bl,.cells (lD s 0).toArray 57 (0,0))::F,.swap ..,⟨_,by omega,by omega,rfl,hq,bl,rfl,rfl,rfl,.refl _⟩,fun x m I3 F3 l3 ⟨g0,g1,gm,_,bl',hbl,_,_,gF⟩=>⟨fun hlt=>?_,fun hlt=>?_⟩⟩
 ·obtain rfl:bl=bl':=by simpa using hbl
  have hlt:=of_decide_eq_true hlt
  have hxn:x.toNat<s.cd.length:=by omega
  have l03:=cc.le_trans l02 l3
  have hsub:∀y,y∈F→y∈F3:=fun y hy=>gF.mem_iff.2 (.tail _ hy)
  obtain⟨ad,y,had,hy,hrd,hym⟩:=dy.j3 ((hok.mono l03 hsub).cons (x:=(b_s,Obj.cells #[.string s.name,.slice s.ra s.regs.length s.rc,.slice s.sa s.slots.length s.sc,.slice s.ta s.cd.length s.tc] 39 (0,0)))).cd g0 hlt
  have hyo:=hok.state y hym
  have hys:=hs.cd y.p (List.mem_map_of_mem hym)
  have hyl:y.rules.length≤12:=by have:=hys.len;simpa[cj.p] using this
  have hyr:=hys.range
  rw[DN s hxn] at gF
  refine⟨⟨g0,hlt⟩,ad,had,_,_,_,_,_,hrd,fun b_x=>⟨fun h=>?_,fun h=>⟨⟨_,y,hy,by omega,by omega,rfl,bl,0,0,rfl,gF,by omega,by omega,by omega,by omega, ?_, ?_⟩,fun most k m4 I4 F4 l4 ⟨y',hy',k0,k1,km,bl',st,ac,hbl',kF,s0,s1,mo,a0,ks,ka⟩=>⟨fun hk=>?_,fun hk=>?_⟩⟩⟩⟩
  ·have h0:(y.rules.length:Int)=0:=by simpa using h
   have hr0:y.rules=[]:=List.length_eq_zero_iff.1 (by omega)
   refine⟨(s.cd.length-(x+1)).toNat,by omega, ?_⟩
   rw[du (n:=x+1) (by omega)]
   refine⟨by omega,by omega,rfl,hq,bl,rfl,rfl,rfl, ?_⟩
   have e1:y.p.steps=0:=by rw[rz,hr0];rfl
   have e2:y.p.fu=0:=by rw[tG,hr0];rfl
   have:=rA s hy
   rw[e1,e2] at this
   rw[show (x+1).toNat=x.toNat+1 by omega,←this];exact gF
  ·rw[rz];show 0+_+_=_;rw[Int.zero_add];rfl
  ·rw[tG];rfl
  ·obtain rfl:y=y':=by rw[hy] at hy';exact Option.some.inj hy'
   obtain rfl:bl=bl':=by simpa using hbl'
   have hk:=of_decide_eq_true hk
   have l04:=cc.le_trans l03 l4
   have sub4:∀z,z∈F→z∈F4:=fun z hz=>kF.mem_iff.2 (.tail _ hz)
   obtain⟨ad1,r,had1,hr,hrd1,hrm⟩:=dy.j3 (((hyo.mono l04 sub4).cons (x:=(b_x,Obj.cells #[.string y.name,.slice y.a y.rules.length y.c,.int .i64 y.pos] 65 (0,0)))).cons (x:=(b_s,Obj.cells #[.string s.name,.slice s.ra s.regs.length s.rc,.slice s.sa s.slots.length s.sc,.slice s.ta s.cd.length s.tc] 39 (0,0)))).1 k0 hk
   have hro:=hyo.2 r hrm
   have hrs:=hys.rules r.p (List.mem_map_of_mem hrm)
   have hrw:=hys.when r hrm
   have hbd:=hrs.body
   have hra:=r.p.vw
   have hrl:=hrs.len
   have hrl:r.dos.length≤8:=by simpa[cr.p] using hrl
   have hrp:r.p.dos.length=r.dos.length:=by simp[cr.p]
   refine⟨⟨k0,hk⟩,ad1,had1,_,_,_,_,_,_,_,_,_,_,_,_,_,_,hrd1,fun b_r b_sum=>?_⟩
   refine cg.perm (F:=(b_sum,.cells #[.int .i64 0] 3 (0,0))::(b_s,Obj.cells #[.string s.name,.slice s.ra s.regs.length s.rc,.slice s.sa s.slots.length s.sc,.slice s.ta s.cd.length s.tc] 39 (0,0))::(b_x,Obj.cells #[.string y.name,.slice y.a y.rules.length y.c,.int .i64 y.pos] 65 (0,0))::(b_r,Obj.cells #[.int .u8 r.when.kind,.int .u8 r.when.oper,.int .u8 r.when.cx,.int .i64 r.when.n,.int .u8 r.when.field,.string r.when.name,.slice r.when.a r.when.kids.length r.when.c,.int .i64 r.when.pos,.slice r.a r.dos.length r.c,.int .i64 r.pos] 84 (0,0))::F4) ((DM r (hro.mono l04 fun z hz=>.tail _ (.tail _ (.tail _ (sub4 z hz)))) hrs b_sum 0 (by omega) (by omega)).mono fun e I5 G5 l5 ⟨he,hG5⟩=>?_) (cW fun z=>by simp only[dp,c8,eu];omega)
   refine⟨he,0+r.p.body,F4,by rw[hG5];exact (cW fun z=>by simp only[dp,c8,eu];omega),fun b I6 l6 hb6=>?_⟩
   have hbody:(0:Int)+r.p.body=r.p.body:=Int.zero_add _
   rw[hbody] at hb6 hG5 ⊢
   refine (gx most r.p.body hb6).off.mono fun e I7 G7 l7 ⟨⟨he,hG7⟩,hoff⟩=>?_
   refine⟨_,he,F4,by rw[hG7],bl,(nw s bl x.toNat st ac).2,F,kF,⟨g0,hlt⟩,_,rfl,ac, ?_, ?_⟩
   ·rw[vx];exact HW hxn (.inl (cc.j4 _ _ _))
   have hn7:I7 bl=none:=hoff bl _ (by rw[hG7];exact .tail _ (.tail _ (.tail _ (.tail _ (kF.mem_iff.2 (.head _))))))
   have l07:=cc.le_trans l04 (cc.le_trans l5 (cc.le_trans l6 l7))
   have l7p:cc.le I7 (I7.put bl (nw s bl x.toNat st ac).2):=cc.Fb hn7
   refine cg.ret (z7 r (hro.mono (cc.le_trans l07 l7p) fun z hz=>.tail _ (.tail _ (.tail _ (.tail _ hz)))) (by omega)) fun I8 l8=>⟨_,rfl,F,.refl _,fun b1 I9 l9 hb1=>cg.ret (gx ac r.p.fu hb1) fun I10 l10=>⟨_,rfl,F,.refl _,⟨g0,hlt⟩,_,rfl,dJ s x.toNat st ac,57,F, ?_⟩⟩
   have l7d:cc.le I7 (I10.del bl):=cc.HU hn7 (cc.le_trans l8 (cc.le_trans l9 l10))
   rw[vx]
   refine⟨.refl _,rfl,by rw[oy s hxn];show x.toNat*2+1+1≤_;omega,bl,(nw s bl x.toNat st (max ac r.p.fu)).2,F, ?_,⟨g0,hlt⟩,_,rfl,st, ?_, ?_⟩
   ·show List.Perm ((bl,Obj.cells (cp (x.toNat*2+1) _ _).toArray _ _)::F) _
    rw[yc s hxn]
   ·rw[vx];exact Fe hxn (.inl (cc.j4 _ _ _))
   have l7q:cc.le I7 ((I10.del bl).put bl (nw s bl x.toNat st (max ac r.p.fu)).2):=cc.le_trans l7d (cc.Fb (cc.Fc _ _))
   have hsz:=hrs.size
   have hsz:r.when.px.size≤1048576:=hsz
   refine cg.ret (ov r.when (by omega) hrs.when _ _ (hro.1.mono (cc.le_trans l07 l7q) fun z hz=>.tail _ (.tail _ (.tail _ (.tail _ hz))))) fun I11 l11=>⟨_,rfl,F,.refl _,⟨g0,hlt⟩,_,rfl,dJ s x.toNat st (max ac r.p.fu),57,F, ?_⟩
   rw[vx]
   refine⟨.refl _,rfl,by rw[oy s hxn];show x.toNat*2+0+1≤_;omega,(y.rules.length-(k+1)).toNat,by omega, ?_⟩
   rw[du (n:=k+1) (by omega),du (n:=st+r.when.px.wt) (by omega)]
   refine⟨y,hy,by omega,by omega,rfl,bl,st+r.when.px.wt,max ac r.p.fu,rfl, ?_,by omega,by omega,by omega,by omega, ?_, ?_⟩
   ·show List.Perm ((bl,Obj.cells (cp (x.toNat*2) _ _).toArray _ _)::F) _
    rw[pP s hxn]
   ·rw[DO _ hr,xg _ hr] at ks
    rw[show (k+1).toNat=k.toNat+1 by omega,←ks];omega
   ·rw[xg _ hr] at ka
    rw[show (k+1).toNat=k.toNat+1 by omega,←ka]
  ·obtain rfl:y=y':=by rw[hy] at hy';exact Option.some.inj hy'
   obtain rfl:bl=bl':=by simpa using hbl'
   have hk:=of_decide_eq_false hk
   rw[List.drop_eq_nil_of_le (by omega)] at ks ka
   have ks:st+0+most=y.p.steps:=ks
   have ka:ac=y.p.fu:=ka
   refine⟨⟨g0,hlt⟩,_,rfl,st, ?_,⟨g0,hlt⟩,_,rfl,dJ s x.toNat st ac,57,F, ?_⟩
   ·rw[vx];exact Fe hxn (.inr (.tail _ (.tail _ (kF.mem_iff.2 (.head _)))))
   rw[vx]
   refine⟨kF,rfl,by rw[oy s hxn];show x.toNat*2+0+1≤_;omega,(s.cd.length-(x+1)).toNat,by omega, ?_⟩
   rw[du (n:=x+1) (by omega),du (n:=st+most) (by omega)]
   refine⟨by omega,by omega,rfl,hq,bl,rfl,rfl,rfl, ?_⟩
   show List.Perm ((bl,Obj.cells (cp (x.toNat*2) _ _).toArray _ _)::F) _
   rw[pP s hxn,ka,show st+most=y.p.steps by omega,rA s hy,show (x+1).toNat=x.toNat+1 by omega]
 ·obtain rfl:bl=bl':=by simpa using hbl
  have hlt:=of_decide_eq_false hlt
  rw[show x.toNat=s.cd.length by omega,BS] at gF
  exact .inr ⟨hq,bl,rfl,gF⟩
def cu.top(s:cu):C2:=(gK 0 (s.fR.map Prod.fst),gK 0 (s.fR.map Prod.snd))
def cu.cost(s:cu):C2×TF:=if s.types.e≠0 then ((0,0),s.types) else if 500<s.top.1 then ((0,0),⟨160,0,false⟩) else (s.top,sk)
def yd:ByteArray:=⟨#[83,116,114,97,116,101,103,121]⟩
def rB(s:cu)(I:cc)(w:Value):Prop:=if s.types.e≠0 then gJ I s.types w else if 500<s.top.1 then Al I yd 0 (oo 160) w else w=.nilIface
theorem DP{I:cc}(hg:Gl I){s:cu}{w:Value}(h:rB s I w)(F:b8):cg P 20 #[w] I F (eg s.cost.2.w F):=by
 unfold rB at h
 unfold cu.cost
 split at h
 ·rename_i he;rw[if_pos he];exact DJ hg (Gj s) h F
 ·rename_i he
  rw[if_neg he]
  split at h
  ·rename_i hm
   rw[if_pos hm]
   obtain⟨b,rfl,hb⟩:=id h
   exact qn hg hb (fun J hJ G t ty old=>GK (hg.mono hJ) (h.mono hJ)) F
  ·rename_i hm
   rw[if_neg hm,h];exact xd I F
theorem rB.mono{s:cu}{I J:cc}{w:Value}(h:rB s I w)(hl:cc.le I J):rB s J w:=by
 unfold rB at h ⊢
 split at h
 ·rename_i he;rw[if_pos he];exact h.mono hl
 ·rename_i he
  rw[if_neg he]
  split at h
  ·rename_i hm;rw[if_pos hm];exact h.mono hl
  ·rename_i hm;rw[if_neg hm];exact h
def Gt(s:cB)(F:b8)(e:Ending)(I:cc)(G:b8):Prop :=
 (s.p.types.e≠0∧∃v,e=.returned (.tuple #[.slice none 0 0,v])∧zU s.p.types v I∧G=F) ∨
 (s.p.types.e=0∧∃bl,e=.returned (.tuple #[.slice (some ⟨bl,0,none⟩) s.cd.length s.cd.length,.nilIface])∧Sl I 2 wh (some ⟨bl,0,none⟩) s.cd.length s.p.fR∧G=F)
theorem ph(s:cB):s.p.fR.length=s.cd.length:=by simp[cu.fR,cB.p]
theorem fS(s:cB)(hl:s.p.nH){I:cc}{F:b8}(hok:s.Ok I F)(hg:Gl I):cg P 19 #[s.v] I F (Gt s F) :=
 (wi s hl hok hg).keep fun e I' G w l1 hs hq=>by
   rcases hq with ⟨he,v,h1,h2,h3⟩ | ⟨he,bl,h1,h2⟩
   ·exact⟨I',G,cc.le_refl I',hs,.inl ⟨he,v,h1,h2,h3⟩⟩
   ·obtain⟨k1,k2⟩:=(hs.perm h2).kD
    refine⟨_,F,k1,k2,.inr ⟨he,bl,h1, ?_,rfl⟩⟩
    rw[←ph s]
    exact Sl.lN (f:=wh) (z:=2) (fun _=>rfl) (cc.j4 _ _ _) fun k hk=>by rw[List.getElem?_toArray]
theorem xh(f:C2→Int){l:List C2}{i:Nat}{x:C2}(h:l[i]? = some x)(m:Int):gK m ((l.drop i).map f)=gK (max m (f x)) ((l.drop (i+1)).map f):=by
 obtain⟨hk,hx⟩:=List.getElem?_eq_some_iff.1 h
 rw[List.drop_eq_getElem_cons hk,List.map_cons,gy,hx]
set_option maxHeartbeats 2000000 in
theorem nE(s:cB)(hl:s.p.nH){I:cc}{F:b8}(hok:s.Ok I F)(hg:Gl I):cg P 24 #[s.v] I F (kC (fun v J=>∃w,v=.tuple #[.agg #[.int .i64 s.p.cost.1.1,.int .i64 s.p.cost.1.2],w]∧rB s.p J w) F):=by
 refine cg.still (ji.vc (fun ps ra rn rc pc x c0 c1 m I0 F0 I' F'=>F'=F∧0≤x∧x≤s.cd.length∧m=(s.cd.length-x).toNat∧s.p.types.e=0∧gK c0 ((s.p.fR.drop x.toNat).map Prod.fst)=s.p.top.1∧gK c1 ((s.p.fR.drop x.toNat).map Prod.snd)=s.p.top.2) ?_)
 unfold ji.V
 intro b_s b
 refine (fS s hl (hok.mono (cc.le_refl I) fun y hy=>.tail _ (.tail _ hy)) hg).mono fun e I1 G l1 hq=>?_
 rcases hq with ⟨he,v,h1,hv,hG⟩ | ⟨he,bl,h1,hS,hG⟩
 ·subst hG
  refine⟨_,_,_,v,h1,F,.refl _,_,gJ.neq hv (by kernel_rfl),fun hq=>⟨_,[],rfl,.refl _,fun J hJ hx=>⟨v, ?_, ?_⟩⟩,fun hq=>absurd he (by simpa using hq)⟩
  ·unfold cu.cost;rw[if_pos he]
  ·unfold rB;rw[if_pos he];exact gJ.mono hv hJ
 ·subst hG
  have hs:=cu.sound (qq he) hl
  have hn:s.cd.length≤12:=by have:=hs.len;simpa[cB.p] using this
  have hcl:=ph s
  refine⟨_,_,_,_,h1,F,.refl _,false,rr (by kernel_rfl),fun h=>(by cases h),fun _ b_c=>⟨⟨_,rfl,by omega,by omega,rfl,he,rfl,rfl⟩,fun x c0 c1 m I2 F2 l2 ⟨gF,g0,g1,gm,_,gs,ga⟩=>⟨fun hlt=>?_,fun hlt=>⟨fun hc=>?_,fun hc=>?_⟩⟩⟩⟩
  ·subst gF
   have hlt:=of_decide_eq_true hlt
   obtain⟨ad,c,had,hc,hrd,hcm⟩:=dy.j3 ((hS.mono l2).yl ((b_s,Obj.cells #[.string s.name,.slice s.ra s.regs.length s.rc,.slice s.sa s.slots.length s.sc,.slice s.ta s.cd.length s.tc] 39 (0,0))::(b,.cells #[.int .i64 0,.int .i64 0] 57 (0,0))::(b_c,.cells #[.int .i64 c0,.int .i64 c1] 57 (0,0))::F2)) g0 hlt
   rw[xh _ hc] at gs ga
   have key:∀(J:cc),∃m2:Nat,m2<m∧(F2=F2∧0≤IntKind.wrap .i64 (x+1)∧IntKind.wrap .i64 (x+1)≤s.cd.length∧m2=(s.cd.length-IntKind.wrap .i64 (x+1)).toNat∧s.p.types.e=0∧gK (max c0 c.1) ((s.p.fR.drop (IntKind.wrap .i64 (x+1)).toNat).map Prod.fst)=s.p.top.1 ∧
     gK (max c1 c.2) ((s.p.fR.drop (IntKind.wrap .i64 (x+1)).toNat).map Prod.snd)=s.p.top.2):=fun J=>by
    rw[du (n:=x+1) (by omega)]
    refine⟨(s.cd.length-(x+1)).toNat,by omega,rfl,by omega,by omega,rfl,he, ?_, ?_⟩
    ·rw[show (x+1).toNat=x.toNat+1 by omega,←gs]
    ·rw[show (x+1).toNat=x.toNat+1 by omega,←ga]
   refine⟨⟨g0,hlt⟩,ad,had,_,_,hrd,fun b_x=>⟨fun b1 I3 l3 h1=>⟨?_,fun b3 I7 l7 h3=>?_⟩,fun b4 I10 l10 h4 b5 I11 l11 h5=>?_⟩⟩
   ·exact cg.ret (gx c0 c.1 h1) fun I4 l4=>⟨_,rfl,F2,.refl _,fun b2 I5 l5 h2=>cg.ret (gx c1 c.2 h2) fun I6 l6=>⟨_,rfl,F2,.refl _,key I6⟩⟩
   ·exact cg.ret (gx c0 c.1 (l7.at h1)) fun I4 l4=>⟨_,rfl,F2,.refl _,cg.ret (gx c1 c.2 (l4.at h3)) fun I6 l6=>⟨_,rfl,F2,.refl _,key I6⟩⟩
   ·exact cg.ret (gx c0 c.1 h5) fun I4 l4=>⟨_,rfl,F2,.refl _,cg.ret (gx c1 c.2 (l4.at (l11.at h4))) fun I6 l6=>⟨_,rfl,F2,.refl _,key I6⟩⟩
  ·intro b6
   have hlt:=of_decide_eq_false hlt
   have hc:=of_decide_eq_true hc
   rw[List.drop_eq_nil_of_le (by omega)] at gs
   have gs:c0=s.p.top.1:=gs
   refine⟨_,[_],rfl,by rw[gF];exact .refl _,fun J hJ hx=>⟨.iface 89 (.pointer (some ⟨b6,0,none⟩)), ?_, ?_⟩⟩
   ·unfold cu.cost;rw[if_neg (by simpa using he),if_pos (by omega)]
   ·unfold rB;rw[if_neg (by simpa using he),if_pos (by omega)]
    exact⟨b6,rfl,hx _ (.head _)⟩
  ·have hlt:=of_decide_eq_false hlt
   have hc:=of_decide_eq_false hc
   rw[List.drop_eq_nil_of_le (by omega)] at gs ga
   have gs:c0=s.p.top.1:=gs
   have ga:c1=s.p.top.2:=ga
   refine⟨_,[],rfl,by rw[gF];exact .refl _,fun J hJ hx=>⟨.nilIface, ?_, ?_⟩⟩
   ·unfold cu.cost;rw[if_neg (by simpa using he),if_neg (by omega),gs,ga]
   ·unfold rB;rw[if_neg (by simpa using he),if_neg (by omega)]
theorem vy:P.underlying 57=some (.struct (P.fieldsOf 57)):=by kernel_rfl
theorem vz:P.stoodInHeld 57=false:=by kernel_rfl
theorem vA:P.eqGuardType P.depth 57=false:=by kernel_rfl
theorem xi(a p b q:Int):p8 P #[.int .i64 a,.int .i64 p] #[.int .i64 b,.int .i64 q] (P.fieldsOf 57).toList=some (a==b&&(p==q&&true)):=by kernel_rfl
theorem Ff(a p b q:Int):(a==b&&(p==q&&true))=decide (((a,p):C2)=(b,q)):=by
 by_cases h1:a=b<;>by_cases h2:p=q<;>simp[h1,h2]
theorem vB(a p b q:Int){x y:Operand}:cP P .eql 57 x y (.agg #[.int .i64 a,.int .i64 p]) (.agg #[.int .i64 b,.int .i64 q]) (decide (((a,p):C2)=(b,q))):=by
 rw[←Ff];exact uD vy vz vA (xi ..)
theorem Aa(a p b q:Int){x y:Operand}:cP P .neq 57 x y (.agg #[.int .i64 a,.int .i64 p]) (.agg #[.int .i64 b,.int .i64 q]) (!decide (((a,p):C2)=(b,q))):=by
 rw[←Ff];exact AR vy vz vA (xi ..)
def GO:ByteArray:=(⟨#[100,111,110,101,32,63,32,98,105,100,32,58,32,98,105,100,32,43,32,49,112]⟩:ByteArray)
def GP:ByteArray:=(⟨#[115,116,114,97,116,101,103,121,32,115,32,123,32,114,101,103,32,110,32,105,110,116,32,61,32,48,59,32,115,108,111,116,32,111,59,32,115,116,97,116,101,32,97,32,123,32,119,104,101,110,32,104,97,115,32,98,105,100,32,100,111,32,115,117,98,109,105,116,32,98,117,121,32,111,102,32,50,113,32,97,116,32,98,105,100,32,43,32,49,112,32,108,105,109,105,116,44,32,104,97,108,116,59,32,119,104,101,110,32,110,111,119,32,62,32,53,116,32,100,111,32,115,101,116,32,110,32,61,32,110,32,43,32,49,44,32,99,97,110,99,101,108,32,111,44,32,99,97,110,99,101,108,32,111,59,32,125,32,115,116,97,116,101,32,98,32,123,125,32,125]⟩:ByteArray)
abbrev Fg:Px:=(mV GO).1
abbrev CH:cu:=(mT GP).1
theorem Fh:Fg.size≤1048576:=of_decide_eq_true (by kernel_rfl)
theorem HX:(if Fg.formed then Fg.wt else 0)=6:=by kernel_rfl
theorem DQ:CH.dN:=cu.rf (of_decide_eq_true (by kernel_rfl))
theorem DR:CH.types.e=0:=by kernel_rfl
theorem Fi:CH.cost=((9,2),sk):=by kernel_rfl
theorem DS:CH.fR=[(9,2),(0,0)]:=by kernel_rfl
theorem ye:Br.p.dN:=cu.rf (by decide)
theorem rC:Br.p.types.e≠0:=by
 have h:Br.p.types.e=120:=by kernel_rfl
 rw[h];decide
theorem DT{I:cc}{F:b8}:Br.Ok I F:=⟨dy.nil,fun r hr=>(by cases hr),dy.nil,dy.nil,fun x hx=>(by cases hx)⟩
theorem rB.eql{I:cc}{s:cu}{w:Value}(h:rB s I w){t:TypeId}(ht:nu P t=true){x:Operand}:cP P .eql t x (.const .nilIface) w .nilIface (s.cost.2.e==0):=by
 unfold rB at h
 unfold cu.cost
 split at h
 ·rename_i he
  rw[if_pos he]
  have h2:=h.2 he
  rw[show (s.types.e==0)=false by simpa using he]
  split at h2
  ·obtain⟨u,_,b,hw,_⟩:=h2;rw[hw];exact o7 ht
  ·obtain⟨b,hw,_⟩:=h2;rw[hw];exact o7 ht
 ·rename_i he
  rw[if_neg he]
  split at h
  ·rename_i hm
   rw[if_pos hm]
   obtain⟨b,hw,_⟩:=h
   rw[hw];exact o7 ht
  ·rename_i hm
   rw[if_neg hm,h];exact ru ht
set_option maxHeartbeats 1000000 in
theorem yf{I:cc}(hg:Gl I)(F:b8):cg P 9 #[] I F (eg (.bool true) F):=by
 refine lq.vc ?_
 unfold lq.V
 refine (Bt GO (by unfold c9;decide) I _).mono fun e I1 G l1 ⟨n,he,hn,okn,hG⟩=>?_
 refine⟨_,_,_,_,_,_,_,_,_,_,_,_,_,he,F,by rw[hG],fun b_n b__=>?_⟩
 refine (uX GP (by unfold c9;exact of_decide_eq_true (by kernel_rfl)) I1 _).mono fun e I2 G l2 ⟨s,he,hs,oks,hG⟩=>?_
 refine⟨_,_,_,_,_,_,_,_,_,_,_,_,_,he,F,by rw[hG],fun b_s b_1=>?_⟩
 have ls:s.p.dN:=hs▸DQ
 have lth:=ls.thin
 have hnz:n.px.size≤1048576:=by rw[hn];exact Fh
 have hnw:(if n.px.formed then n.px.wt else 0)=6:=by rw[hn];exact HX
 have hst:s.p.types.e=0:=by rw[hs];exact DR
 have hsc:s.p.cost=((9,2),sk):=by rw[hs];exact Fi
 have hsl:s.p.fR=[(9,2),(0,0)]:=by rw[hs];exact DS
 refine cg.ret (sZ n (by omega) I2 _ (okn.mono l2 Gk)) fun I3 l3=>⟨_,rfl,F,.refl _, ?_⟩
 refine cg.ret (sZ ik (by decide) I3 _ (dH.mono (cc.le_refl _) Gk)) fun I4 l4=>⟨_,rfl,F,.refl _, ?_⟩
 have l24:=cc.le_trans l3 l4
 have l04:=cc.le_trans l1 (cc.le_trans l2 l24)
 refine cg.iY (nE s lth (oks.mono l24 Gk) (hg.mono l04)) fun v5 I5 l5 ⟨w5,hv5,hw5⟩=>⟨_,_,w5,congrArg Ending.returned hv5,F,.refl _,fun b_c=>?_⟩
 have l25:=cc.le_trans l24 l5
 have l05:=cc.le_trans l04 l5
 refine (fS s lth (oks.mono l25 Gk) (hg.mono l05)).mono fun e I6 G l6 hq=>?_
 rcases hq with ⟨h,_⟩ | ⟨_,bl,he,hS,hG⟩
 ·exact absurd hst h
 refine⟨_,_,_,_,he,F,by rw[hG], ?_⟩
 have l06:=cc.le_trans l05 l6
 refine (fS Br ye.thin DT (hg.mono l06)).mono fun e I7 G7 l7 hq=>?_
 rcases hq with ⟨hz,v7,he,hv7,hG7⟩ | ⟨h,_⟩
 rotate_left
 ·exact absurd h rC
 refine⟨_,_,_,_,he,F,by rw[hG7], ?_⟩
 have h2:s.cd.length=2:=by rw[←ph s,hsl];rfl
 have hzw:(if ik.px.formed then ik.px.wt else 0)=0:=by decide
 rw[hnw,hzw]
 have hw5':w5=.nilIface:=by
  unfold rB at hw5
  rw[if_neg (by simpa using hst)] at hw5
  have htop:¬500<s.p.top.1:=by
   unfold cu.top;rw[hsl];decide
  rwa [if_neg htop] at hw5
 rw[hw5',hsc]
 refine⟨fun _=>⟨fun _=>⟨true,ru (by kernel_rfl),fun _=>⟨true,vB 9 2 9 2,fun _=>⟨true,ru (by kernel_rfl),fun _=>⟨fun _=>⟨⟨by decide,by rw[h2];decide⟩,⟨bl,0,none⟩,rfl,0,0, ?_,⟨true,vB 0 0 0 0,fun _=>⟨true, ?_,rfl,rfl⟩,fun h=>(by cases h)⟩⟩,fun h=>?_⟩,fun h=>(by cases h)⟩,fun h=>(by cases h)⟩,fun h=>(by cases h)⟩,fun h=>(by cases h)⟩,fun h=>(by cases h)⟩
 ·obtain⟨ad,c,had,hc,hrd,_⟩:=dy.j3 ((hS.mono l7).yl _) (i:=1) (by decide) (by rw[h2];decide)
  rw[hsl] at hc
  cases hc
  cases had
  exact hrd
 ·have:=gJ.neq hv7 (t:=44) (by kernel_rfl) (x:=.tmp 72)
  rwa [show (Br.p.types.e != 0)=true by simpa using rC] at this
 ·rw[h2] at h;cases h
theorem BT(s:cB)(hs:s.p.c9)(I:cc)(F:b8)(hok:s.Ok I F):cg P 17 #[s.v] I F fun e I' G=>∃r:Bool,e=.returned (.bool r)∧G=F∧(r=false→s.p.dN):=by
 refine pf.vc ?_
 unfold pf.V
 intro b_s
 refine (v9 s hs I _ hok.cons).mono fun e I1 G l1 ⟨r,he,hG,h0,h1,hl⟩=>?_
 subst hG
 exact⟨r,he,F,.refl _,_,rfl,rfl,fun h=>hl (by have:=of_decide_eq_false h;omega)⟩
theorem s8{s s':cu}(h1:∀nm,s'.eX nm=s.eX nm)(h2:∀nm,s'.iz (s.eX nm)=s.iz (s.eX nm)):∀y:Px,typed s' y=typed s y:=by
 have hL:∀l:List Px,(∀k∈l,typed s' k=typed s k)→ep s' l=ep s l:=fun l h=>by
  induction l with
  | nil=>rw[ep,ep]
  | cons x r ih =>
    rw[ep,ep,h x (.head _),ih fun k hk=>h k (.tail _ hk)]
 have hE:∀(y:Px) (l:List Int),eb s' y l=eb s y l:=fun y l=>by
  unfold eb iD
  rw[h1,h2]
 refine Px.ind fun x ih=>?_
 rw[q8,q8,hL _ ih,hE]
theorem rD{s s':cu}(h1:∀nm,s'.eX nm=s.eX nm)(ht:∀y,typed s' y=typed s y):∀(l:List dg) (i:Int),gZ s' l i=gZ s l i
 | [],i=>rfl
 | r::l,i=>by rw[gZ,gZ,h1,ht,rD h1 ht l]
theorem rE{s s':cu}(h1:∀nm,s'.slot nm=s.slot nm):∀(l:List cI) (i:Int),g9 s' l i=g9 s l i
 | [],i=>rfl
 | r::l,i=>by rw[g9,g9,h1,rE h1 l]
theorem rF{s s':cu}(h1:∀nm,s'.room nm=s.room nm):∀(l:List cq) (i:Int),ew s' l i=ew s l i
 | [],i=>rfl
 | r::l,i=>by rw[ew,ew,h1,rF h1 l]
theorem BU{a b:TF}(h:(dM a b).e=0):a.e=0∧b.e=0:=by
 unfold dM at h
 by_cases ha:a.e≠0
 ·rw[if_pos ha] at h;exact absurd h ha
 ·rw[if_neg ha] at h;exact⟨by simpa using ha,h⟩
theorem vC{a b:TF}(h:a.e=0):dM a b=b:=by unfold dM;rw[if_neg (by simpa using h)]
theorem Gu{s:cu}(h:s.types.e=0):s.check=0∧s.named.e=0:=by
 unfold cu.types at h
 by_cases hc:s.check≠0
 ·rw[if_pos hc] at h;exact absurd h hc
 ·rw[if_neg hc] at h;exact⟨by simpa using hc,(BU h).1⟩
theorem qt{α:Type}{f:α→Int}:∀{l:List α},(∀x∈l,f x=0)→cD f l=0
 | [],_=>rfl
 | x::r,h=>by rw[cD,h x (.head _),cw];exact qt fun y hy=>h y (.tail _ hy)
structure cu.Jx (s:cu):Prop where
 nm:cT (cY s.name) 120=0
 r1:s.regs.length≤12
 r2:cD dg.check s.regs=0
 s1:s.slots.length≤4
 s2:cD cI.check s.slots=0
 t0:0<s.cd.length
 t1:s.cd.length≤12
 t2:cD cq.check s.cd=0
theorem cu.Jy{s:cu}(h:s.check=0):s.Jx:=by
 unfold cu.check at h
 obtain⟨h1,h⟩:=cz h
 obtain⟨h2,h⟩:=cz h
 obtain⟨h3,h⟩:=cz h
 obtain⟨h4,h⟩:=cz h
 obtain⟨h5,h⟩:=cz h
 obtain⟨h6,h⟩:=cz h
 obtain⟨h7,h8⟩:=cz h
 exact⟨h1,of_decide_eq_true (jG (by decide) h2),h3,of_decide_eq_true (jG (by decide) h4),h5,of_decide_eq_true (jG (by decide) h6),of_decide_eq_true (jG (by decide) h7),h8⟩
theorem vD{b:Bool}{n:Int}(h:b=true):cT b n=0:=by unfold cT;rw[if_pos h]
def cq.less(x:cq)(j:Nat):cq:=⟨x.name,x.rules.eraseIdx j,x.pos⟩
def cu.put(s:cu)(k:Nat)(y:cq):cu:=⟨s.name,s.regs,s.slots,s.cd.set k y⟩
theorem pj{α:Type}{l:List α}{j:Nat}:∀{x:α},x∈l.eraseIdx j→x∈l:=fun h=>List.mem_of_mem_eraseIdx h
theorem tH{α:Type}{l:List α}{k:Nat}{y x:α}(h:x∈l.set k y):x∈l∨x=y:=List.mem_or_eq_of_mem_set h
theorem vG:∀{l:List Int} {j:Nat} {w:Int},l[j]? = some w→eC (l.eraseIdx j)+w=eC l
 | x::r,0,w,h=>by
   simp only[List.getElem?_cons_zero,Option.some.injEq] at h
   subst h
   rw[List.eraseIdx_cons_zero,eC,Int.add_comm]
 | x::r,j+1,w,h=>by
   rw[List.eraseIdx_cons_succ,eC,eC,Int.add_assoc,vG (l:=r) (by simpa using h)]
theorem xj:∀(l:List Int) {m n:Int},m≤n→gK m l≤gK n l
 | [],m,n,h=>h
 | x::r,m,n,h=>by rw[gy,gy];exact xj r (by omega)
theorem qu:∀(l:List Int) (j:Nat) (m:Int),gK m (l.eraseIdx j)≤gK m l
 | [],j,m=>Int.le_refl _
 | x::r,0,m=>by rw[List.eraseIdx_cons_zero,gy];exact xj r (by omega)
 | x::r,j+1,m=>by rw[List.eraseIdx_cons_succ,gy,gy];exact qu r j _
theorem ma{α β:Type}(f:α→β):∀(l:List α) (j:Nat),(l.eraseIdx j).map f=(l.map f).eraseIdx j
 | [],j=>rfl
 | x::r,0=>rfl
 | x::r,j+1=>by rw[List.eraseIdx_cons_succ,List.map_cons,List.map_cons,List.eraseIdx_cons_succ,ma f r j]
theorem DU{x:cq}(hs:x.Sound){j:Nat}(hj:j<x.rules.length):(x.less j).steps<x.steps∧(x.less j).fu≤x.fu:=by
 have hm:x.rules[j]∈x.rules:=List.getElem_mem hj
 have hw:=Px.kA x.rules[j].when (hs.rules _ hm).when
 have h1:=vG (l:=x.rules.map fun r=>r.when.wt) (j:=j) (w:=x.rules[j].when.wt) (by rw[List.getElem?_map,List.getElem?_eq_getElem hj];rfl)
 have h2:=qu (x.rules.map cM.body) j 0
 have h3:=qu (x.rules.map cM.fu) j 0
 unfold cq.steps cq.fu cq.less
 rw[ma,ma,ma]
 omega
theorem DV(s:cu)(k:Nat)(y:cq):(s.put k y).fR=s.fR.set k y.cost:=by
 unfold cu.put cu.fR
 rw[List.map_set]
section
variable {s:cu} {k:Nat} {x y:cq} (hx:s.cd[k]? = some x) (hn:y.name=x.name) (hp:y.pos=x.pos)
include hx hn in
theorem DW:(s.put k y).cd.map cq.name=s.cd.map cq.name:=by
 unfold cu.put
 rw[List.map_set,hn]
 obtain⟨hk,rfl⟩:=List.getElem?_eq_some_iff.1 hx
 refine List.ext_getElem (by simp) fun i h1 h2=>?_
 rw[List.getElem_set]
 split
 ·rename_i e;subst e;simp
 ·rfl
include hn hp in
theorem xk(s':cu):∀(l:List cq) (k:Nat) (i:Int),l[k]? = some x→ew s' (l.set k y) i=ew s' l i
 | [],k,i,h=>by simp at h
 | z::r,0,i,h=>by
   simp only[List.getElem?_cons_zero,Option.some.injEq] at h
   subst h
   rw[List.set_cons_zero,ew,ew,hn,hp]
 | z::r,k+1,i,h=>by
   rw[List.set_cons_succ,ew,ew,xk s' r k (i+1) (by simpa using h)]
end
theorem oz{α:Type}{f:α→TF}:∀{l:List α},(∀x∈l,(f x).e=0)→(cR f l).e=0
 | [],_=>rfl
 | x::r,h=>by rw[cR,if_neg (by simpa using h x (.head _))];exact oz fun y hy=>h y (.tail _ hy)
theorem iH{α:Type}{f:α→TF}:∀{l:List α},(cR f l).e=0→∀x∈l,(f x).e=0
 | x::r,h,y,hy=>by
   rw[cR] at h
   by_cases hx:(f x).e≠0
   ·rw[if_pos hx] at h;exact absurd h hx
   ·rw[if_neg hx] at h
    rcases List.mem_cons.1 hy with rfl | hy
    ·simpa using hx
    ·exact iH h y hy
theorem BV{s s':cu}(hr:s'.regs=s.regs)(hs:s'.slots=s.slots)(hn:s'.cd.map cq.name=s.cd.map cq.name)(r:cM):ez s' r=ez s r:=by
 have e1:∀nm,s'.eX nm=s.eX nm:=fun nm=>by unfold cu.eX;rw[hr]
 have e2:∀i,s'.iz i=s.iz i:=fun i=>by unfold cu.iz;rw[hr]
 have e3:∀nm,s'.slot nm=s.slot nm:=fun nm=>by unfold cu.slot;rw[hs]
 have e4:∀nm,s'.room nm=s.room nm:=fun nm=>by unfold cu.room;rw[hn]
 have ht:=s8 e1 fun nm=>e2 _
 have hm:∀x t,eJ s' x t=eJ s x t:=fun x t=>by unfold eJ typeOf;rw[ht]
 have hi:∀d,Fu s' d=Fu s d:=fun d=>by unfold Fu;rw[e1,e3,e4]
 have hd:∀d,zE s' d=zE s d:=fun d=>by unfold zE IB;rw[hi,hm,hm,hm,e2,hm]
 have hl:∀(l:List dS) (b:Bool),pE s' l b=pE s l b:=fun l=>by
  induction l with
  | nil=>intro b;rfl
  | cons d r ih=>intro b;rw[pE,pE,hd,ih]
 unfold ez
 rw[hm,hl]
theorem BW{s:cu}{k j:Nat}{y:cq}(hy:s.cd[k]? = some y)(h:s.types.e=0):(s.put k (y.less j)).types.e=0:=by
 obtain⟨hc,hnm⟩:=Gu h
 have hf:=cu.Jy hc
 have hym:y∈s.cd:=List.mem_of_getElem? hy
 have hck:(s.put k (y.less j)).check=0:=by
  unfold cu.check
  have h2:cD cq.check (s.put k (y.less j)).cd=0:=qt fun x hx=>by
   rcases tH hx with hx | rfl
   ·exact fP hf.t2 x hx
   ·have hyc:=fP hf.t2 y hym
    unfold cq.check at hyc ⊢
    obtain⟨h1,hyc⟩:=cz hyc
    obtain⟨h2,h3⟩:=cz hyc
    have h2:y.rules.length≤12:=of_decide_eq_true (jG (by decide) h2)
    have hlen:(y.less j).rules.length≤12:=by
     have:=List.length_eraseIdx_le y.rules j
     show (y.rules.eraseIdx j).length≤12
     omega
    rw[show cT (cY (y.less j).name) 120=0 from h1,cw,vD (decide_eq_true hlen),cw]
    exact qt fun r hr=>fP h3 r (pj hr)
  have e1:(s.put k (y.less j)).cd.length=s.cd.length:=List.length_set
  rw[show cT (cY (s.put k (y.less j)).name) 120=0 from hf.nm,cw,vD (decide_eq_true (show (s.put k (y.less j)).regs.length≤12 from hf.r1)),cw,show cD dg.check (s.put k (y.less j)).regs=0 from hf.r2,cw,
   vD (decide_eq_true (show (s.put k (y.less j)).slots.length≤4 from hf.s1)),cw,show cD cI.check (s.put k (y.less j)).slots=0 from hf.s2,cw,
   vD (decide_eq_true (by rw[e1];exact hf.t0)),cw,vD (decide_eq_true (by rw[e1];exact hf.t1)),cw,h2]
 have hnames:=DW (y:=y.less j) hy rfl
 have e1:∀nm,(s.put k (y.less j)).eX nm=s.eX nm:=fun nm=>rfl
 have e3:∀nm,(s.put k (y.less j)).slot nm=s.slot nm:=fun nm=>rfl
 have e4:∀nm,(s.put k (y.less j)).room nm=s.room nm:=fun nm=>by unfold cu.room;rw[hnames]
 have ht:=s8 (s:=s) (s':=s.put k (y.less j)) e1 fun nm=>rfl
 have hnm2:(s.put k (y.less j)).named=s.named:=by
  unfold cu.named
  rw[rD e1 ht,rE e3,rF e4]
  show dM (gZ s s.regs 0) (dM (g9 s s.slots 0) (ew s (s.cd.set k (y.less j)) 0))=_
  rw[xk (x:=y) (y:=y.less j) rfl rfl s s.cd k 0 hy]
 have hall:=h
 unfold cu.types at hall ⊢
 rw[if_neg (by simpa using hc),vC hnm] at hall
 rw[if_neg (by simpa using hck),hnm2,vC hnm]
 refine oz fun x hx=>?_
 have hr:∀r,ez (s.put k (y.less j)) r=ez s r:=BV rfl rfl hnames
 refine oz fun r hrm=>?_
 rw[hr]
 rcases tH hx with hx | rfl
 ·exact iH (iH hall x hx) r hrm
 ·exact iH (iH hall y hym) r (pj hrm)
theorem DX{s:cu}{k j:Nat}{y:cq}(hy:s.cd[k]? = some y)(h:s.nH):(s.put k (y.less j)).nH:=by
 have hym:y∈s.cd:=List.mem_of_getElem? hy
 refine⟨h.regs,h.eX,h.slots, ?_,fun x hx=>?_⟩
 ·show (s.cd.set k (y.less j)).length≤_
  rw[List.length_set];exact h.cd
 ·rcases tH hx with hx | rfl
  ·exact h.state x hx
  ·have hl:=h.state y hym
   refine⟨?_,fun r hr=>hl.2 r (pj hr)⟩
   have:=List.length_eraseIdx_le y.rules j
   have:=hl.1
   show (y.rules.eraseIdx j).length≤_
   omega
end Go.Lx
namespace Go.Vc
theorem Fj(a:Addr)(i j:Nat)(h:a.spot=none):(a.add i).add j=a.add (i+j):=by
 obtain⟨b,o,s⟩:=a
 simp only at h
 subst h
 by_cases hi:i=0<;>by_cases hj:j=0<;>simp[Addr.add,hi,hj,Nat.add_assoc]<;>omega
section
variable {α:Type} {I:cc} {G:b8} {z:Nat} {f:α→List Value} {a:Option Addr} {n:Nat} {l:List α}
theorem dy.take(h:dy I G z f a n l){k:Nat}(hk:k≤n):dy I G z f a k (l.take k):=by
 refine⟨by rw[List.length_take,←h.1];omega,fun hne=>?_⟩
 obtain⟨ad,ha,hr⟩:=h.2 (fun e=>hne (by rw[e,List.take_nil]))
 refine⟨ad,ha,fun i x hx=>hr i x ?_⟩
 rw[List.getElem?_take] at hx
 split at hx
 ·exact hx
 ·cases hx
theorem dy.drop(h:dy I G z f a n l){k:Nat}(hk:k≤n):dy I G z f (a.map fun x=>x.add (k*z)) (n-k) (l.drop k):=by
 refine⟨by rw[List.length_drop,←h.1],fun hne=>?_⟩
 have hl:l≠[]:=fun e=>hne (by rw[e,List.drop_nil])
 obtain⟨ad,ha,hr⟩:=h.2 hl
 refine⟨ad.add (k*z),by rw[ha];rfl,fun i x hx=>?_⟩
 rw[List.getElem?_drop] at hx
 have h1:=hr _ x hx
 have hsp:ad.spot=none:=by
  obtain⟨y,r,rfl⟩:=List.exists_cons_of_ne_nil hl
  have h0:=(hr 0 y rfl).1
  rw[Nat.zero_mul] at h0
  exact h0
 rw[Fj _ _ _ hsp,←Nat.add_mul]
 exact h1
theorem dy.whole(hz:∀x,(f x).length=z)(hp:0<z)(h:dy I G z f a n l)(hne:l≠[]){w:World}(hw:Sat I G w):∃ad,a=some ad∧Rd I G ad (l.flatMap f):=by
 obtain⟨ad,ha,hr⟩:=h.2 hne
 obtain⟨y,r,rfl⟩:=List.exists_cons_of_ne_nil hne
 obtain⟨h1,cells,e,fz,h2,h3⟩:=hr 0 y rfl
 rw[Nat.zero_mul] at h1 h2
 have ha0:ad.add 0=ad:=by unfold Addr.add;rfl
 rw[ha0] at h1 h2
 have hb:w.heap[ad.block]? = some (.cells cells e fz):=h2.elim (hw.imm _ _) (hw.own _ _)
 refine⟨ad,ha,h1,cells,e,fz,h2,fun j hj=>?_⟩
 have hi:j / z<(y::r).length:=by
  rw[gG hz] at hj
  exact Nat.div_lt_of_lt_mul (by rwa [Nat.mul_comm] at hj)
 have hx:(y::r)[j / z]? = some (y::r)[j / z]:=List.getElem?_eq_getElem hi
 obtain⟨k1,cells',e',fz',k2,k3⟩:=hr (j / z) _ hx
 have had:ad.add (j / z*z)=⟨ad.block,ad.off+j / z*z,none⟩:=by
  obtain⟨b,o,s⟩:=ad
  simp only at h1
  subst h1
  unfold Addr.add
  split
  ·rename_i h0;rw[h0];rfl
  ·rfl
 rw[had] at k2 k3
 have hb':w.heap[ad.block]? = some (.cells cells' e' fz'):=k2.elim (hw.imm _ _) (hw.own _ _)
 rw[hb] at hb'
 cases hb'
 have hm:=Nat.mod_lt j hp
 have h5:=k3 (j % z) (by rw[hz];exact hm)
 have h6:=jr f z hz _ _ _ (j % z) hx hm
 have hj2:j / z*z+j % z=j:=by rw[Nat.mul_comm];exact Nat.div_add_mod j z
 rw[hj2] at h6
 rw[h6,←h5]
 show cells[ad.off+j]? = cells[ad.off+j / z*z+j % z]?
 rw[Nat.add_assoc,hj2]
theorem Fk{P:Program}{t ty e:TypeId}{zv:Value}{by':Nat}(hz:∀x,(f x).length=z)(hp:0<z)(ht:P.underlying t=some (.slice e))(hi:(P.info? e).map (fun i=>(i.zero,i.size,i.bytes))=some (some zv,z,by'))(hzs:zv.cells.size=z)(hb:1≤by')
  {b:Option Addr} {m c c':Nat} {k:List α} {A F R:b8} (hA:Acc z f e b m c k A) (h1:∀x∈l,∀u∈f x,u.oneCell'=true) (hS:dy I R z f a n l) (hR:R.Perm (A++F)) (hfit:(k.length+l.length)*by'≤140737488355328) :
  cE P (Builtin.append_ #[t,t] ty #[.slice b m c,.slice a n c']) I R fun v I' G=>∃b' m' c'' A',v=.slice b' m' c''∧Acc z f e b' m' c'' (k++l) A'∧G.Perm (A'++F):=by
 by_cases hl:l=[]
 ·subst hl
  have hn:n=0:=hS.1
  subst hn
  intro w hw
  cases h:P.info? e with
  | none=>rw[h] at hi;cases hi
  | some i =>
    rw[h] at hi
    have hle:m≤c:=by
     obtain⟨hn,⟨_,hc,hk,_⟩ | ⟨_,_,_,_,_,hc,_⟩⟩:=hA
     ·subst hk hc;rw[hn];exact Nat.le_refl _
     ·exact hc
    have hsrc:Src P i.size t (.slice a 0 c') 0 [] w:=by
     cases a with
     | none=>exact Src.ofNil w ht c'
     | some ad=>exact Src.ofSlice w ht ad 0 c' [] (by simp) (fun j u hj=>by simp at hj) (fun u hu=>by cases hu)
    have hrun:=run_append_nothing (P:=P) w t t ty e i ht h b m c hle (.slice a 0 c') hsrc
    exact⟨_,_,I,R,hrun,cc.le_refl I,hw,b,m,c,A,rfl,by rw[List.append_nil];exact hA,hR⟩
 ·intro w hw
  obtain⟨ad,ha,hr⟩:=hS.whole hz hp hl hw
  subst ha
  have hr':Rd I (A++F) ad (l.flatMap f):=hr.sub (cc.le_refl I) fun x hx=>hR.mem_iff.1 hx
  exact (cE.perm (cE.mono (eF (ty:=ty) (sc:=c') hz ht hi hzs hb hA h1 hl hS.1 hr' hfit) fun v I' G _ ⟨b',m',c'',A',e1,e2,e3,_⟩=>⟨b',m',c'',A',e1,e2,by rw[e3]⟩) hR) w hw
end
end Go.Vc
namespace Go.Vc
open Go.ChangeShapes Go.WideShapes Go.ChangeAt Go.RowKit
theorem kJ.cell{w w':World}(h:kJ w w'){a:Addr}(ha:a.block<w.heap.size):w'.cell? a=w.cell? a:=by
 unfold World.cell?;rw[h.heap _ ha]
theorem kJ.same{w w':World}(h:kJ w w'){p:MemPlace}(hp:p.block<w.heap.size):w.sameAt w' p:=by
 cases p with
 | cell b off=>exact h.cell (a:=⟨b,off,none⟩) hp
 | map b=>exact h.heap b hp
theorem pQ{H:Type}{enc:TypeId×Value→H}{P:Program}{T:TypeId→Prop}{w w':World}(K:Kids P T)(hsz:∀{t e:TypeId},T t→P.underlying t=some (.slice e)→0<P.cellsOf e)(st:kJ w w'){sp':Nat→Bool} :
  ∀{ts:List TypeId} {vs:List Value} {ds:List (DataW H)} {ps:List MemPlace},(∀t∈ts,T t)→DataW.TrodAll enc P w 0 (fun _=>true) true ts vs ds ps→(∀p∈ps,sp' p.block=true)→DataW.TrodAll enc P w' 0 sp' true ts vs ds ps
 | [],[],[],ps,_,h,_=>h
 | t::ts,v::vs,d::ds,ps,ht,⟨p,q,⟨n,h1⟩,h2,e⟩,hs=>by
   subst e
   have hlt:∀x∈p,x.block<w.heap.size:=DataW.trod_lt n t v.cells.toList (d,p) h1
   refine⟨p,q,⟨n, ?_⟩,pQ K hsz st (fun t' ht'=>ht t' (List.mem_cons_of_mem _ ht')) h2 (fun x hx=>hs x (List.mem_append_right _ hx)),rfl⟩
   exact DataW.trod_stays K hsz (fun h=>by cases h) (ht t (List.mem_cons_self ..)) h1 (fun x hx=>st.same (hlt x hx)) (fun x hx=>hs x (List.mem_append_left _ hx))
 | [],_::_,_,_,_,h,_=>h.elim
 | [],[],_::_,_,_,h,_=>h.elim
 | _::_,[],_,_,_,h,_=>h.elim
 | _::_,_::_,[],_,_,h,_=>h.elim
theorem s9{α:Type}{p:Nat→α→Prop}:∀(n:Nat),(∀i,i<n→∃x,p i x)→∃l:List α,l.length=n∧∀(i:Nat) (x:α),l[i]? = some x→p i x
 | 0,_=>⟨[],rfl,fun i x h=>by simp at h⟩
 | n+1,h=>by
   obtain⟨l,hl,hp⟩:=s9 n fun i hi=>h i (by omega)
   obtain⟨x,hx⟩:=h n (by omega)
   refine⟨l++[x],by simp[hl],fun i y hy=>?_⟩
   rw[List.getElem?_append] at hy
   split at hy
   ·exact hp i y hy
   ·rename_i hi
    have:i-l.length=0:=by
     rcases Nat.eq_zero_or_pos (i-l.length) with h | h
     ·exact h
     ·rw[List.getElem?_eq_none (by simp;omega)] at hy;cases hy
    rw[this] at hy
    simp only[List.getElem?_cons_zero,Option.some.injEq] at hy
    subst hy
    have:i=n:=by omega
    rw[this];exact hx
theorem Rd.HY{W:World}{ad:Addr}{n:Nat}{cs:List Value}{base:Nat}(h:W.cells? base ad n=some cs)(hn:0<n)(G:b8):ad.spot=none→Rd (cc.all W) G ad cs:=by
 intro hsp
 obtain⟨_,hl,hc⟩:=World.cells?_some h
 have h0:W.cell? ad=cs[0]?:=by have:=hc 0 hn;rwa [show ad.add 0=ad from rfl] at this
 have hlen:cs.length=n:=hl
 unfold World.cell? at h0
 cases hb:W.heap[ad.block]? with
 | none=>rw[hb] at h0;simp only at h0;rw[List.getElem?_eq_getElem (by omega)] at h0;cases h0
 | some o =>
   cases o with
   | cells c e fz =>
     refine⟨hsp,c,e,fz,.inl hb,fun j hj=>?_⟩
     have h1:=hc j (by omega)
     have hadd:ad.add j=⟨ad.block,ad.off+j,none⟩:=by
      obtain⟨b,off,sp⟩:=ad
      simp only at hsp;subst hsp
      unfold Addr.add;split<;>simp_all
     rw[hadd] at h1
     unfold World.cell? at h1
     simp only[hb] at h1
     simpa using h1
   | _=>rw[hb] at h0;simp only at h0;rw[List.getElem?_eq_getElem (by omega)] at h0;cases h0
def cC{H α:Type}(en:TypeId×Value→H)(P:Program)(W:World)(sp:Nat→Bool)(hd:Bool)(n:Nat)(t:TypeId)(f:α→List Value)(R S:α→Prop):Prop :=
 ∀cs d ps,DataW.trod en P W 0 sp hd n t cs=some (d,ps)→∃x,cs=f x∧R x∧((∀m∈d.weights P t,m≤reachBytes)→S x)
def cS{H α:Type}(en:TypeId×Value→H)(P:Program)(W:World)(sp:Nat→Bool)(hd:Bool)(n:Nat)(z:Nat)(fs:List (TypeId×Nat))(o:Nat)(f:α→List Value)(R S:α→Prop):Prop :=
 ∀(cs:List Value) (xs:List (DataW H×List MemPlace)),(fs.mapM fun p=>DataW.trod en P W 0 sp hd n p.1 ((cs.drop p.2).take (P.cellsOf p.1)))=some xs→cs.length=z→∃x,cs.drop o=f x∧R x∧((∀m∈DataW.weightsEach P (fs.map Prod.fst) (xs.map Prod.fst),m≤reachBytes)→S x)
def tI(P:Program)(t:TypeId)(l:List (TypeId×Nat))(z:Nat):Bool:=match P.underlying t with
 | some (.struct fs)=>(fs.toList.map fun f=>(f.type,f.offset))==l&&P.cellsOf t==z
 | _=>false
theorem Ab{α β γ:Type}(h:α→β)(g:β→Option γ):∀l:List α,(l.map h).mapM g=l.mapM fun x=>g (h x)
 | []=>rfl
 | x::l=>by simp[List.mapM_cons,Ab h g l]
section
variable {H:Type} {en:TypeId×Value→H} {P:Program} {W:World} {sp:Nat→Bool} {hd:Bool} {n:Nat}
theorem cS.nil{z:Nat}:cS en P W sp hd n z [] z (fun _:Unit=>[]) (fun _=>True) (fun _=>True):=by
 intro cs xs h hl
 exact⟨(),List.drop_eq_nil_of_le (by omega),trivial,fun _=>trivial⟩
theorem cS.cons{α β:Type}{z o k:Nat}{t:TypeId}{fs:List (TypeId×Nat)}{f:α→List Value}{g:β→List Value}{R S:α→Prop}{R' S':β→Prop}(h:cC en P W sp hd n t f R S)(hc:P.cellsOf t=k)
  (hs:cS en P W sp hd n z fs (o+k) g R' S'):cS en P W sp hd n z ((t,o)::fs) o (fun x:α×β=>f x.1++g x.2) (fun x=>R x.1∧R' x.2) (fun x=>S x.1∧S' x.2):=by
 intro cs xs hm hl
 rw[List.mapM_cons] at hm
 cases h0:DataW.trod en P W 0 sp hd n t ((cs.drop o).take (P.cellsOf t)) with
 | none=>simp[h0] at hm
 | some x0 =>
   cases h1:(fs.mapM fun p=>DataW.trod en P W 0 sp hd n p.1 ((cs.drop p.2).take (P.cellsOf p.1))) with
   | none=>simp[h0,h1] at hm
   | some ys =>
     simp[h0,h1] at hm
     subst hm
     obtain⟨d0,p0⟩:=x0
     obtain⟨x,e1,r1,s1⟩:=h _ _ _ h0
     obtain⟨y,e2,r2,s2⟩:=hs _ _ h1 hl
     refine⟨(x,y), ?_,⟨r1,r2⟩,fun hw=>⟨s1 fun m hm=>hw m ?_,s2 fun m hm=>hw m ?_⟩⟩
     ·show cs.drop o=f x++g y
      rw[←e1,←e2,hc,←List.drop_drop,List.take_append_drop]
     ·simp only[List.map_cons,DataW.weightsEach,List.mem_append];exact .inl hm
     ·simp only[List.map_cons,DataW.weightsEach,List.mem_append];exact .inr hm
theorem cC.struct{α:Type}{z:Nat}{t:TypeId}{fs:List (TypeId×Nat)}{f:α→List Value}{R S:α→Prop}(ht:tI P t fs z=true)(h:cS en P W sp hd n z fs 0 f R S):cC en P W sp hd (n+1) t f R S:=by
 intro cs d ps hr
 unfold tI at ht
 split at ht
 ·rename_i gs hg
  simp only[Bool.and_eq_true,beq_iff_eq] at ht
  obtain⟨ht,hz⟩:=ht
  simp only[DataW.trod,hg] at hr
  split at hr
  ·rename_i hl
   rw[hz] at hl
   cases hm:gs.toList.mapM fun f=>DataW.trod en P W 0 sp hd n f.type ((cs.drop f.offset).take (P.cellsOf f.type)) with
   | none=>rw[hm] at hr;cases hr
   | some xs =>
     rw[hm] at hr
     simp only[Option.map_some,Option.some.injEq,Prod.mk.injEq] at hr
     have hm':(fs.mapM fun p=>DataW.trod en P W 0 sp hd n p.1 ((cs.drop p.2).take (P.cellsOf p.1)))=some xs:=by rw[←ht,Ab];exact hm
     obtain⟨x,e,r,s⟩:=h cs xs hm' hl
     refine⟨x,by simpa using e,r,fun hw=>s fun m hmm=>hw m ?_⟩
     rw[←hr.1]
     simp only[DataW.weights,hg]
     have:gs.toList.map (fun f=>f.type)=fs.map Prod.fst:=by rw[←ht,List.map_map];rfl
     rw[this];exact hmm
  ·cases hr
 ·cases ht
theorem cC.map{α β:Type}{t:TypeId}{f:α→List Value}{g:β→List Value}{R S:α→Prop}{R' S':β→Prop}(h:cC en P W sp hd n t f R S)(φ:α→β)(hf:∀x,R x→f x=g (φ x))(hr:∀x,R x→R' (φ x))(hs:∀x,R x→S x→S' (φ x)):cC en P W sp hd n t g R' S':=by
 intro cs d ps hd
 obtain⟨x,e,r,s⟩:=h cs d ps hd
 exact⟨φ x,e.trans (hf x r),hr x r,fun hw=>hs x r (s hw)⟩
theorem cC.int{k:IntKind}{t:TypeId}(ht:P.underlying t=some (.int k)):cC en P W sp hd n t (fun x:Int=>[.int k x]) (fun x=>(Lit.int k x).wf=true) (fun _=>True):=by
 intro cs d ps h
 obtain⟨x,e,_,hw⟩:=DataW.trod_int ht h
 exact⟨x,e,hw,fun _=>trivial⟩
theorem cC.str{t:TypeId}(ht:P.underlying t=some .string):cC en P W sp hd n t (fun x:ByteArray=>[.string x]) (fun x=>x.size≤maxLen) (fun x=>x.size≤reachBytes):=by
 intro cs d ps h
 obtain⟨s,e,hx,hl⟩:=DataW.trod_string ht h
 refine⟨s,e,hl,fun hw=>?_⟩
 simp only[Prod.mk.injEq] at hx
 have:=hw s.data.toList.length (by rw[hx.1];simp[DataW.weights])
 simpa using this
structure Fx (β:Type) where
 a:Option Addr
 n:Nat
 c:Nat
 l:List β
theorem cC.slice{β:Type}{z by':Nat}{t e:TypeId}{f:β→List Value}{R S:β→Prop}(ht:P.underlying t=some (.slice e))(hc:P.cellsOf e=z)(hz:0<z)(hb:P.bytesOf e=by')(hb1:1≤by')(hf:∀x,(f x).length=z)(h:cC en P W sp hd n e f R S) :
  cC en P W sp hd (n+1) t (fun s:Fx β=>[.slice s.a s.n s.c]) (fun s=>dy (cc.all W) [] z f s.a s.n s.l∧∀x∈s.l,R x) (fun s=>s.l.length≤reachBytes∧∀x∈s.l,S x):=by
 intro cs d ps hr
 rcases DataW.trod_slice ht hr with ⟨h1,h2⟩ | ⟨ad,len,cap,elems,rest,n',hn,hcs,hx,_,_,_,hlen,hel,_,_⟩
 ·exact⟨⟨none,0,0,[]⟩,h1,⟨⟨rfl,fun h=>absurd rfl h⟩,fun x hx=>by cases hx⟩,fun _=>⟨by simp,fun x hx=>by cases hx⟩⟩
 ·cases hn
  simp only[Prod.mk.injEq] at hx
  obtain⟨hdd,hps⟩:=hx
  clear hps
  subst hcs
  have hone:∀i,i<len→∃x,Rd (cc.all W) [] (ad.add (i*z)) (f x)∧R x∧((∀y∈elems,∀m∈y.1.weights P e,m≤reachBytes)→S x):=by
   intro i hi
   have hfy:=hel i hi
   obtain⟨y,hy⟩:∃y,elems[i]? = some y:=⟨_,List.getElem?_eq_getElem (by omega)⟩
   rw[hc,hy] at hfy
   cases hcs:W.cells? 0 (ad.add (i*z)) z with
   | none=>rw[hcs] at hfy;cases hfy
   | some cs =>
     rw[hcs] at hfy
     simp only[Option.bind_some] at hfy
     obtain⟨x,e1,r1,s1⟩:=h cs y.1 y.2 hfy
     subst e1
     have hspk:(ad.add (i*z)).spot=none:=by
      obtain⟨_,hl,hc'⟩:=World.cells?_some hcs
      have h0:=hc' 0 hz
      rw[show (ad.add (i*z)).add 0=ad.add (i*z) from rfl,List.getElem?_eq_getElem (by rw[hf];omega)] at h0
      cases hs:(ad.add (i*z)).spot with
      | none=>rfl
      | some q =>
        unfold World.cell? at h0
        split at h0<;>simp_all
     refine⟨x,Rd.HY hcs hz [] hspk,r1,fun hw=>s1 fun m hm=>hw y (List.mem_of_getElem? hy) m hm⟩
  obtain⟨l,hll,hlx⟩:=s9 len hone
  refine⟨⟨some ad,len,cap,l⟩,rfl,⟨⟨hll.symm,fun _=>⟨ad,rfl,fun i x hx=>(hlx i x hx).1⟩⟩,fun x hx=>?_⟩,fun hw=>⟨?_,fun x hx=>?_⟩⟩
  ·obtain⟨i,hi,rfl⟩:=List.mem_iff_getElem.1 hx
   exact (hlx i _ (List.getElem?_eq_getElem hi)).2.1
  ·have h1:=hw ((elems.length+rest.length)*by') (by rw[hdd];simp only[DataW.weights,ht,List.length_map,hb];exact List.mem_cons_self ..)
   have h2:elems.length+rest.length≤(elems.length+rest.length)*by':=Nat.le_mul_of_pos_right _ hb1
   show l.length≤reachBytes
   omega
  ·obtain⟨i,hi,rfl⟩:=List.mem_iff_getElem.1 hx
   refine (hlx i _ (List.getElem?_eq_getElem hi)).2.2 fun y hy m hm=>hw m ?_
   rw[hdd]
   simp only[DataW.weights,ht]
   refine List.mem_cons_of_mem _ (List.mem_append_left _ ?_)
   clear hx hlen hel hone hlx hdd hr hw hi hll
   induction elems with
   | nil=>cases hy
   | cons q qs ihq =>
     simp only[List.map_cons,DataW.weightsAll,List.mem_append]
     rcases List.mem_cons.1 hy with rfl | hy
     ·exact .inl hm
     ·exact .inr (ihq hy)
theorem cC.zero{α:Type}{t:TypeId}{f:α→List Value}{R S:α→Prop}:cC en P W sp hd 0 t f R S:=fun cs d ps h=>by cases h
end
end Go.Vc
namespace Go.Lx
open Go.Vc Go.ChangeShapes Go.WideShapes Go.ChangeAt Go.RowKit
def JT:List (TypeId×Nat):=[(22,0),(23,1),(24,2),(2,3),(25,4),(9,5),(26,6),(3,7)]
theorem HZ{x:Int}(h:(Lit.int .u8 x).wf=true):0≤x∧x≤255:=by
 simp[Lit.wf,IntKind.min,IntKind.max,IntKind.signed,IntKind.bits] at h;omega
theorem BX{x:Int}(h:(Lit.int .i64 x).wf=true) : -9223372036854775808≤x∧x≤9223372036854775807:=by
 simp[Lit.wf,IntKind.min,IntKind.max,IntKind.signed,IntKind.bits] at h;omega
theorem Wf.mk{t:Nd}(h:t.px.Fit)(hk:∀k∈t.kids,k.px.Wf):t.px.Wf:=by
 intro y hy
 rw[←zl] at hy
 obtain⟨x,hx,rfl⟩:=List.mem_map.1 hy
 rw[Nd.qM] at hx
 rcases List.mem_cons.1 hx with rfl | hx
 ·exact h
 ·have hL:∀l:List Nd,(∀k∈l,k.px.Wf)→x∈Nd.iu l→x.px.Fit:=by
   intro l
   induction l with
   | nil=>intro _ h;rw[Nd.iu] at h;cases h
   | cons z r ih =>
     intro hz h
     rw[Nd.iu] at h
     rcases List.mem_append.1 h with h | h
     ·exact Wf.nd (hz z (List.mem_cons_self ..)) x h
     ·exact ih (fun k hk=>hz k (List.mem_cons_of_mem _ hk)) h
  exact hL _ hk hx
theorem pk{H:Type}{en:TypeId×Value→H}{W:World}{sp:Nat→Bool}{hd:Bool}:∀n,cC en P W sp hd n 28 Nd.enc (fun t=>cH (cc.all W) [] t∧t.px.Wf) (fun t=>t.px.eB):=by
 intro n
 induction n using Nat.strongRecOn with
 | ind n ih =>
   cases n with
   | zero=>exact cC.zero
   | succ n =>
     have hsl:cC en P W sp hd n 26 (fun s:Fx Nd=>[.slice s.a s.n s.c]) (fun s=>dy (cc.all W) [] 8 Nd.enc s.a s.n s.l∧∀x∈s.l,cH (cc.all W) [] x∧x.px.Wf) (fun s=>s.l.length≤reachBytes∧∀x∈s.l,x.px.eB):=by
      cases n with
      | zero=>exact cC.zero
      | succ n=>exact cC.slice (z:=8) (by':=72) (by kernel_rfl) (by kernel_rfl) (by decide) (by kernel_rfl) (by decide) Nd.oH (ih n (by omega))
     refine (cC.struct (z:=8) (fs:=JT) (by kernel_rfl) ((cS.cons (k:=1) (cC.int (k:=.u8) (by kernel_rfl)) (by kernel_rfl)<|cS.cons (k:=1) (cC.int (k:=.u8) (by kernel_rfl)) (by kernel_rfl)<|cS.cons (k:=1) (cC.int (k:=.u8) (by kernel_rfl)) (by kernel_rfl) <|
      cS.cons (k:=1) (cC.int (k:=.i64) (by kernel_rfl)) (by kernel_rfl)<|cS.cons (k:=1) (cC.int (k:=.u8) (by kernel_rfl)) (by kernel_rfl)<|cS.cons (k:=1) (cC.str (by kernel_rfl)) (by kernel_rfl)<|cS.cons (k:=1) hsl (by kernel_rfl) <|
      cS.cons (k:=1) (cC.int (k:=.i64) (by kernel_rfl)) (by kernel_rfl) cS.nil))).map (fun x=>Nd.mk x.1 x.2.1 x.2.2.1 x.2.2.2.1 x.2.2.2.2.1 x.2.2.2.2.2.1 x.2.2.2.2.2.2.1.a x.2.2.2.2.2.2.1.c x.2.2.2.2.2.2.1.l x.2.2.2.2.2.2.2.1) ?_ ?_ ?_
     ·intro ⟨k,o,ty,m,f,s,⟨a,l,c,ks⟩,q,u⟩ ⟨_,_,_,_,_,_,⟨h7,_⟩,_⟩
      have hl:l=ks.length:=h7.1
      subst hl;rfl
     ·intro ⟨k,o,ty,m,f,s,⟨a,l,c,ks⟩,q,u⟩ ⟨h1,h2,h3,h4,h5,h6,⟨h7,h8⟩,h9,_⟩
      have hl:l=ks.length:=h7.1
      subst hl
      refine⟨.mk h7 fun x hx=>(h8 x hx).1,Wf.mk ?_ fun x hx=>(h8 x hx).2⟩
      unfold Px.Fit
      rw[Nd.cO,Nd.fD,Nd.ir,Nd.yY,Nd.jt,Nd.uG]
      exact⟨HZ h1,HZ h2,HZ h3,BX h4,HZ h5,BX h9⟩
     ·intro ⟨k,o,ty,m,f,s,⟨a,l,c,ks⟩,q,u⟩ _ ⟨_,_,_,_,_,g6,⟨g7,g8⟩,_⟩
      refine .mk (by rw[Nd.gL];exact g6) (by rw[Nd.jB];exact g7) fun x hx=>?_
      rw[Nd.dv] at hx
      obtain⟨y,hy,rfl⟩:=List.mem_map.1 hx
      exact g8 y hy
theorem H0{P:Program}{W:World}{r:Reach}{b0:Nat}{t:TypeId}{v:Value}{fs:List (TypeId×Nat)}{z:Nat}(hst:tI P t fs z=true)(hval:Value.okWide P W r b0 t v):v=.agg v.cells.toList.toArray:=by
 unfold tI at hst
 split at hst
 ·rename_i gs hg
  have h5:=okWide_struct hg hval
  obtain⟨cs,hv,hcs⟩:=h5
  clear hcs
  subst hv
  rfl
 ·cases hst
def Fl(x:Int):Prop:=-9223372036854775808≤x∧x≤9223372036854775807
def Jz(x:Int):Prop:=0≤x∧x≤255
def dS.Wf(d:dS):Prop:=(Jz d.kind∧Jz d.order∧Fl d.pos)∧d.side.Wf∧d.qty.Wf∧d.price.Wf∧d.value.Wf
def cM.Wf(r:cM):Prop:=Fl r.pos∧r.when.Wf∧∀d∈r.dos,d.Wf
def cq.Wf(x:cq):Prop:=Fl x.pos∧∀r∈x.rules,r.Wf
def dg.Wf(r:dg):Prop:=(Jz r.cx∧Fl r.pos)∧r.init.Wf
def cI.Wf(r:cI):Prop:=Fl r.pos
def cu.Wf(s:cu):Prop:=(∀r∈s.regs,r.Wf)∧(∀r∈s.slots,r.Wf)∧∀x∈s.cd,x.Wf
section
variable {H:Type} {en:TypeId×Value→H} {W:World} {sp:Nat→Bool} {hd:Bool}
def JA:List (TypeId×Nat):=[(9,0),(24,1),(28,2),(3,10)]
theorem DY(n:Nat):cC en P W sp hd (n+1) 77 cJ.enc (fun r=>r.Ok (cc.all W) []∧r.p.Wf) (fun r=>r.p.c9):=by
 refine (cC.struct (z:=11) (fs:=JA) (by kernel_rfl) (cS.cons (k:=1) (cC.str (by kernel_rfl)) (by kernel_rfl)<|cS.cons (k:=1) (cC.int (k:=.u8) (by kernel_rfl)) (by kernel_rfl) <|
  cS.cons (k:=8) (pk n) (by kernel_rfl)<|cS.cons (k:=1) (cC.int (k:=.i64) (by kernel_rfl)) (by kernel_rfl) cS.nil)).map (fun x=>cJ.mk x.1 x.2.1 x.2.2.1 x.2.2.2.1) ?_ ?_ ?_
 ·intro ⟨a,b,c,d,u⟩ _;rfl
 ·intro ⟨a,b,c,d,u⟩ ⟨h1,h2,h3,h4,_⟩
  exact⟨h3.1,⟨HZ h2,BX h4⟩,h3.2⟩
 ·intro ⟨a,b,c,d,u⟩ _ ⟨g1,g2,g3,g4,_⟩
  exact⟨g1,g3⟩
def Jc:List (TypeId×Nat):=[(9,0),(3,1)]
theorem BZ(n:Nat):cC en P W sp hd (n+1) 79 cI.enc (fun r=>r.Wf) (fun r=>r.c9):=by
 refine (cC.struct (z:=2) (fs:=Jc) (by kernel_rfl) (cS.cons (k:=1) (cC.str (by kernel_rfl)) (by kernel_rfl)<|cS.cons (k:=1) (cC.int (k:=.i64) (by kernel_rfl)) (by kernel_rfl) cS.nil)).map (fun x=>cI.mk x.1 x.2.1) ?_ ?_ ?_
 ·intro ⟨a,b,u⟩ _;rfl
 ·intro ⟨a,b,u⟩ ⟨h1,h2,_⟩;exact BX h2
 ·intro ⟨a,b,u⟩ _ ⟨g1,g2,_⟩;exact g1
def JU:List (TypeId×Nat):=[(96,0),(97,1),(9,2),(28,3),(28,11),(28,19),(28,27),(3,35)]
theorem Fm(n:Nat):cC en P W sp hd (n+1) 99 dG.enc (fun r=>r.Ok (cc.all W) []∧r.p.Wf) (fun r=>r.p.c9):=by
 refine (cC.struct (z:=36) (fs:=JU) (by kernel_rfl) (cS.cons (k:=1) (cC.int (k:=.u8) (by kernel_rfl)) (by kernel_rfl)<|cS.cons (k:=1) (cC.int (k:=.u8) (by kernel_rfl)) (by kernel_rfl)<|cS.cons (k:=1) (cC.str (by kernel_rfl)) (by kernel_rfl) <|
  cS.cons (k:=8) (pk n) (by kernel_rfl)<|cS.cons (k:=8) (pk n) (by kernel_rfl)<|cS.cons (k:=8) (pk n) (by kernel_rfl)<|cS.cons (k:=8) (pk n) (by kernel_rfl)<|cS.cons (k:=1) (cC.int (k:=.i64) (by kernel_rfl)) (by kernel_rfl) cS.nil)).map
   (fun x=>dG.mk x.1 x.2.1 x.2.2.1 x.2.2.2.1 x.2.2.2.2.1 x.2.2.2.2.2.1 x.2.2.2.2.2.2.1 x.2.2.2.2.2.2.2.1) ?_ ?_ ?_
 ·intro ⟨a,b,c,d,e,f,g,h,u⟩ _;rfl
 ·intro ⟨a,b,c,d,e,f,g,h,u⟩ ⟨h1,h2,h3,h4,h5,h6,h7,h8,_⟩
  exact⟨⟨h4.1,h5.1,h6.1,h7.1⟩,⟨HZ h1,HZ h2,BX h8⟩,h4.2,h5.2,h6.2,h7.2⟩
 ·intro ⟨a,b,c,d,e,f,g,h,u⟩ _ ⟨g1,g2,g3,g4,g5,g6,g7,g8,_⟩
  refine⟨g3,fun x hx=>?_⟩
  simp only[dS.nG,dG.p,List.mem_cons,List.not_mem_nil,or_false] at hx
  rcases hx with rfl | rfl | rfl | rfl
  ·exact g4
  ·exact g5
  ·exact g6
  ·exact g7
def Jd:List (TypeId×Nat):=[(28,0),(82,8),(3,9)]
theorem DZ:∀n,cC en P W sp hd n 82 (fun s:Fx dG=>[.slice s.a s.n s.c]) (fun s=>dy (cc.all W) [] 36 dG.enc s.a s.n s.l∧∀x∈s.l,x.Ok (cc.all W) []∧x.p.Wf) (fun s=>s.l.length≤reachBytes∧∀x∈s.l,x.p.c9)
 | 0=>cC.zero
 | 1=>cC.slice (e:=99) (z:=36) (by':=320) (by kernel_rfl) (by kernel_rfl) (by decide) (by kernel_rfl) (by decide) (fun _=>rfl) cC.zero
 | n+2=>cC.slice (e:=99) (z:=36) (by':=320) (by kernel_rfl) (by kernel_rfl) (by decide) (by kernel_rfl) (by decide) (fun _=>rfl) (Fm n)
theorem B0(n:Nat):cC en P W sp hd (n+1) 84 cr.enc (fun r=>r.Ok (cc.all W) []∧r.p.Wf) (fun r=>r.p.c9):=by
 refine (cC.struct (z:=10) (fs:=Jd) (by kernel_rfl) (cS.cons (k:=8) (pk n) (by kernel_rfl)<|cS.cons (k:=1) (DZ n) (by kernel_rfl)<|cS.cons (k:=1) (cC.int (k:=.i64) (by kernel_rfl)) (by kernel_rfl) cS.nil)).map
  (fun x=>cr.mk x.1 x.2.1.a x.2.1.c x.2.1.l x.2.2.1) ?_ ?_ ?_
 ·intro ⟨a,⟨sa,sn,sc,sl⟩,c,u⟩ ⟨_,⟨h2,_⟩,_⟩
  have e:sn=sl.length:=h2.1
  subst e;rfl
 ·intro ⟨a,⟨sa,sn,sc,sl⟩,c,u⟩ ⟨h1,⟨h2,h2'⟩,h3,_⟩
  have e:sn=sl.length:=h2.1
  subst e
  refine⟨⟨h1.1,h2,fun d hd=>(h2' d hd).1⟩,BX h3,h1.2,fun d hd=>?_⟩
  obtain⟨d',hd',rfl⟩:=List.mem_map.1 hd
  exact (h2' d' hd').2
 ·intro ⟨a,⟨sa,sn,sc,sl⟩,c,u⟩ _ ⟨g1,⟨g2,g2'⟩,_⟩
  refine⟨g1,by simp only[cr.p,List.length_map];exact g2,fun d hd=>?_⟩
  obtain⟨d',hd',rfl⟩:=List.mem_map.1 hd
  exact g2' d' hd'
def H5:List (TypeId×Nat):=[(9,0),(63,1),(3,2)]
theorem Ac:∀n,cC en P W sp hd n 63 (fun s:Fx cr=>[.slice s.a s.n s.c]) (fun s=>dy (cc.all W) [] 10 cr.enc s.a s.n s.l∧∀x∈s.l,x.Ok (cc.all W) []∧x.p.Wf) (fun s=>s.l.length≤reachBytes∧∀x∈s.l,x.p.c9)
 | 0=>cC.zero
 | 1=>cC.slice (e:=84) (z:=10) (by':=104) (by kernel_rfl) (by kernel_rfl) (by decide) (by kernel_rfl) (by decide) (fun _=>rfl) cC.zero
 | n+2=>cC.slice (e:=84) (z:=10) (by':=104) (by kernel_rfl) (by kernel_rfl) (by decide) (by kernel_rfl) (by decide) (fun _=>rfl) (B0 n)
def Je:List (TypeId×Nat):=[(9,0),(35,1),(36,2),(37,3)]
theorem B1:∀n,cC en P W sp hd n 35 (fun s:Fx cJ=>[.slice s.a s.n s.c]) (fun s=>dy (cc.all W) [] 11 cJ.enc s.a s.n s.l∧∀x∈s.l,x.Ok (cc.all W) []∧x.p.Wf) (fun s=>s.l.length≤reachBytes∧∀x∈s.l,x.p.c9)
 | 0=>cC.zero
 | 1=>cC.slice (e:=77) (z:=11) (by':=104) (by kernel_rfl) (by kernel_rfl) (by decide) (by kernel_rfl) (by decide) (fun _=>rfl) cC.zero
 | n+2=>cC.slice (e:=77) (z:=11) (by':=104) (by kernel_rfl) (by kernel_rfl) (by decide) (by kernel_rfl) (by decide) (fun _=>rfl) (DY n)
theorem Ad:∀n,cC en P W sp hd n 36 (fun s:Fx cI=>[.slice s.a s.n s.c]) (fun s=>dy (cc.all W) [] 2 cI.enc s.a s.n s.l∧∀x∈s.l,x.Wf) (fun s=>s.l.length≤reachBytes∧∀x∈s.l,x.c9)
 | 0=>cC.zero
 | 1=>cC.slice (e:=79) (z:=2) (by':=24) (by kernel_rfl) (by kernel_rfl) (by decide) (by kernel_rfl) (by decide) (fun _=>rfl) cC.zero
 | n+2=>cC.slice (e:=79) (z:=2) (by':=24) (by kernel_rfl) (by kernel_rfl) (by decide) (by kernel_rfl) (by decide) (fun _=>rfl) (BZ n)
end
end Go.Lx
namespace Go.Lx
open Go.Vc Go.ChangeShapes Go.WideShapes Go.ChangeAt Go.RowKit
def cj.H6(x:cj):Prop:=x.rules.length≤x.c
def cB.H6(s:cB):Prop:=∀x∈s.cd,x.H6
section
variable {H:Type} {en:TypeId×Value→H} {W:World} {sp:Nat→Bool} {hd:Bool}
theorem H7{β:Type}{n:Nat}{t e:TypeId}{R S:Fx β→Prop}(ht:P.underlying t=some (.slice e))(h:cC en P W sp hd n t (fun s:Fx β=>[.slice s.a s.n s.c]) R S):cC en P W sp hd n t (fun s:Fx β=>[.slice s.a s.n s.c]) (fun s=>R s∧s.n≤s.c) S:=by
 intro cs d ps hr
 obtain⟨x,hx,r,q⟩:=h cs d ps hr
 refine⟨x,hx,⟨r, ?_⟩,q⟩
 rcases DataW.trod_slice ht hr with ⟨h1,_⟩ | ⟨ad,len,cap,elems,rest,n',_,h1,_,_,hle,_⟩
 ·rw[h1] at hx
  simp only[List.cons.injEq,Value.slice.injEq,and_true] at hx
  omega
 ·rw[h1] at hx
  simp only[List.cons.injEq,Value.slice.injEq,and_true] at hx
  omega
theorem Ae(n:Nat):cC en P W sp hd (n+1) 65 cj.enc (fun r=>(r.Ok (cc.all W) []∧r.p.Wf)∧r.H6) (fun r=>r.p.c9):=by
 refine (cC.struct (z:=3) (fs:=H5) (by kernel_rfl) (cS.cons (k:=1) (cC.str (by kernel_rfl)) (by kernel_rfl)<|cS.cons (k:=1) (H7 (e:=84) (by kernel_rfl) (Ac n)) (by kernel_rfl)<|cS.cons (k:=1) (cC.int (k:=.i64) (by kernel_rfl)) (by kernel_rfl) cS.nil)).map
  (fun x=>cj.mk x.1 x.2.1.a x.2.1.c x.2.1.l x.2.2.1) ?_ ?_ ?_
 ·intro ⟨a,⟨sa,sn,sc,sl⟩,c,u⟩ ⟨_,⟨⟨h2,_⟩,_⟩,_⟩
  have e:sn=sl.length:=h2.1
  subst e;rfl
 ·intro ⟨a,⟨sa,sn,sc,sl⟩,c,u⟩ ⟨h1,⟨⟨h2,h2'⟩,hc⟩,h3,_⟩
  have e:sn=sl.length:=h2.1
  subst e
  refine⟨⟨⟨h2,fun d hd=>(h2' d hd).1⟩,BX h3,fun d hd=>?_⟩,hc⟩
  obtain⟨d',hd',rfl⟩:=List.mem_map.1 hd
  exact (h2' d' hd').2
 ·intro ⟨a,⟨sa,sn,sc,sl⟩,c,u⟩ _ ⟨g1,⟨g2,g2'⟩,_⟩
  refine⟨g1,by simp only[cj.p,List.length_map];exact g2,fun d hd=>?_⟩
  obtain⟨d',hd',rfl⟩:=List.mem_map.1 hd
  exact g2' d' hd'
theorem yg:∀n,cC en P W sp hd n 37 (fun s:Fx cj=>[.slice s.a s.n s.c]) (fun s=>dy (cc.all W) [] 3 cj.enc s.a s.n s.l∧∀x∈s.l,(x.Ok (cc.all W) []∧x.p.Wf)∧x.H6) (fun s=>s.l.length≤reachBytes∧∀x∈s.l,x.p.c9)
 | 0=>cC.zero
 | 1=>cC.slice (e:=65) (z:=3) (by':=48) (by kernel_rfl) (by kernel_rfl) (by decide) (by kernel_rfl) (by decide) (fun _=>rfl) cC.zero
 | n+2=>cC.slice (e:=65) (z:=3) (by':=48) (by kernel_rfl) (by kernel_rfl) (by decide) (by kernel_rfl) (by decide) (fun _=>rfl) (Ae n)
theorem B2(n:Nat):cC en P W sp hd (n+1) 39 cB.enc (fun r=>(r.Ok (cc.all W) []∧r.p.Wf)∧r.H6) (fun r=>r.p.c9):=by
 refine (cC.struct (z:=4) (fs:=Je) (by kernel_rfl) (cS.cons (k:=1) (cC.str (by kernel_rfl)) (by kernel_rfl)<|cS.cons (k:=1) (B1 n) (by kernel_rfl)<|cS.cons (k:=1) (Ad n) (by kernel_rfl)<|cS.cons (k:=1) (yg n) (by kernel_rfl) cS.nil)).map
  (fun x=>cB.mk x.1 x.2.1.a x.2.1.c x.2.1.l x.2.2.1.a x.2.2.1.c x.2.2.1.l x.2.2.2.1.a x.2.2.2.1.c x.2.2.2.1.l) ?_ ?_ ?_
 ·intro ⟨a,⟨ra,rn,rc,rl⟩,⟨sa,sn,sc,sl⟩,⟨ta,tn,tc,tl⟩,u⟩ ⟨_,⟨h2,_⟩,⟨h3,_⟩,⟨h4,_⟩,_⟩
  have e2:rn=rl.length:=h2.1
  have e3:sn=sl.length:=h3.1
  have e4:tn=tl.length:=h4.1
  subst e2 e3 e4;rfl
 ·intro ⟨a,⟨ra,rn,rc,rl⟩,⟨sa,sn,sc,sl⟩,⟨ta,tn,tc,tl⟩,u⟩ ⟨h1,⟨h2,h2'⟩,⟨h3,h3'⟩,⟨h4,h4'⟩,_⟩
  have e2:rn=rl.length:=h2.1
  have e3:sn=sl.length:=h3.1
  have e4:tn=tl.length:=h4.1
  subst e2 e3 e4
  refine⟨⟨⟨h2,fun d hd=>(h2' d hd).1,h3,h4,fun d hd=>(h4' d hd).1.1⟩,fun d hd=>?_,h3',fun d hd=>?_⟩,fun x hx=>(h4' x hx).2⟩
  ·obtain⟨d',hd',rfl⟩:=List.mem_map.1 hd
   exact (h2' d' hd').2
  ·obtain⟨d',hd',rfl⟩:=List.mem_map.1 hd
   exact (h4' d' hd').1.2
 ·intro ⟨a,⟨ra,rn,rc,rl⟩,⟨sa,sn,sc,sl⟩,⟨ta,tn,tc,tl⟩,u⟩ _ ⟨g1,⟨g2,g2'⟩,⟨g3,g3'⟩,⟨g4,g4'⟩,_⟩
  refine⟨g1,by simp only[cB.p,List.length_map];exact g2,fun d hd=>?_,g3,g3',by simp only[cB.p,List.length_map];exact g4,fun d hd=>?_⟩
  ·obtain⟨d',hd',rfl⟩:=List.mem_map.1 hd
   exact g2' d' hd'
  ·obtain⟨d',hd',rfl⟩:=List.mem_map.1 hd
   exact g4' d' hd'
end
theorem D0{H:Type}{en:TypeId×Value→H}{W:World}{base:Nat}{sp:Nat→Bool}{hd:Bool}{v:Value}{d:DataW H}{ps:List MemPlace}{r:Reach}(hval:Value.okWide P W r base 39 v)(h:DataW.Trod en P W 0 sp hd 39 v d ps) :
  ∃s:cB,v=s.v∧s.Ok (cc.all W) []∧(s.p.Wf∧s.H6)∧((∀m∈d.weights P 39,m≤reachBytes)→s.p.c9):=by
 have hv:=H0 (fs:=Je) (z:=4) (by kernel_rfl) hval
 obtain⟨fuel,hf⟩:=h
 cases fuel with
 | zero=>cases hf
 | succ n =>
   obtain⟨t,e,⟨⟨h1,h2⟩,hc⟩,h3⟩:=B2 n _ d ps hf
   exact⟨t,by rw[hv,e],h1,⟨h2,hc⟩,h3⟩
end Go.Lx
namespace Go.Vc
theorem yh{P:Program}{α:Type}{z:Nat}{f:α→List Value}(hz:∀x,(f x).length=z)(hz0:0<z){t ty e:TypeId}{zv:Value}{by':Nat}(ht:P.underlying t=some (.slice e))(hi:(P.info? e).map (fun i=>(i.zero,i.size,i.bytes))=some (some zv,z,by'))(hzs:zv.cells.size=z)(hb:1≤by')
  {xs:List α} {sa:Option Addr} {m sc:Nat} {I:cc} {F:b8} (hS:dy I F z f sa m xs) (hfit:xs.length*by'≤140737488355328) :
  cE P (Builtin.append_ #[t,t] ty #[.slice none 0 0,.slice sa m sc]) I F fun v I' G=>∃a' n' c' A',v=.slice a' n' c'∧Acc z f e a' n' c' xs A'∧G=A'++F:=by
 cases h:P.info? e with
 | none=>rw[h] at hi;cases hi
 | some i =>
   rw[h] at hi
   simp only[Option.map_some,Option.some.injEq,Prod.mk.injEq] at hi
   obtain⟨hzv,hsz,hby⟩:=hi
   intro w hw
   obtain⟨hn,hr⟩:=hS
   subst hn hsz hby
   by_cases hx:xs=[]
   ·subst hx
    refine⟨.slice none 0 0,w,I,F, ?_,cc.le_refl I,hw,none,0,0,[],rfl,Acc.nil,rfl⟩
    cases sa with
    | none=>simp[Builtin.append_,run_underlying ht,sizeOf,typeInfo,h,Builtin.lenOf,Builtin.firstCells]
    | some a =>
      have hf:=run_firstCells_some (P:=P) w i.size 0 a 0 sc [] (by simp) (by simp)
      simp[Builtin.append_,run_underlying ht,sizeOf,typeInfo,h,Builtin.lenOf,hf]
   ·obtain⟨ad,rfl,hrd⟩:=hr hx
    have hlen:(xs.flatMap f).length=xs.length*i.size:=gG hz xs
    have hxp:0<xs.length:=List.length_pos_iff.2 hx
    have hle:xs.length≤140737488355328:=Nat.le_trans (Nat.le_mul_of_pos_right _ hb) hfit
    have hnews:∀j u,(xs.flatMap f)[j]? = some u→w.cell? (ad.add j)=some u:=fun j u hj=>by
     have hjl:j<xs.length*i.size:=by
      rw[←hlen];exact (List.getElem?_eq_some_iff.1 hj).1
     have h1:j / i.size<xs.length:=Nat.div_lt_of_lt_mul (by rw[Nat.mul_comm];exact hjl)
     have h2:j % i.size<i.size:=Nat.mod_lt _ hz0
     have hxi:xs[j / i.size]? = some xs[j / i.size]:=List.getElem?_eq_getElem h1
     have hc:=(hrd _ _ hxi).cell hw (j % i.size) (by rw[hz];exact h2)
     have hg:=jr f i.size hz xs _ _ (j % i.size) hxi h2
     have hd:j / i.size*i.size+j % i.size=j:=Nat.div_add_mod' j i.size
     rw[hd,hj] at hg
     rw[Addr.add_add,hd,←hg] at hc
     exact hc
    have hrun:=run_append_nil (P:=P) w t ty e i zv ht h hzv ad xs.length sc _ hlen hnews hxp (by omega) (by omega)
    have hge:=grownCap_ge w xs.length 0 e
    have hsat:Sat I F w.drew:=hw.of_heap rfl ⟨rfl,rfl⟩
    refine⟨_,_,I,_,hrun,cc.le_refl I,hsat.alloc _,_,_,_,[_],rfl,⟨rfl,.inr ⟨_,_,rfl,rfl, ?_,hge, ?_⟩⟩,rfl⟩
    ·simp only[Array.size_append,List.size_toArray,size_zeroCells,hzs,hlen,←Nat.add_mul]
     congr 1;omega
    ·rw[Array.toList_append,←hlen];exact List.take_left
end Go.Vc
namespace Go.Lx
open Go.Vc
theorem vH:∀n:Nat,fq n (fun _=>([]:b8))=[]
 | 0=>by rw[A5]
 | n+1=>by rw[A6,vH n];rfl
theorem Af(d:dG)(hs:Small d.p.nG)(I:cc)(F:b8)(hd:d.Ok I F):cg P 83 #[d.v] I F fun e I' G=>∃(d':dG) (H:b8),e=.returned d'.v∧d'.p=d.p∧wY false d' H∧G.Perm (H++F):=by
 refine jX.vc ?_
 unfold jX.V
 intro b_d b
 simp only[Small,dS.nG,dG.p,List.mem_cons,List.not_mem_nil,or_false] at hs
 refine (j2 d.side (hs _ (.inl rfl)) I _ hd.1.cons.cons).mono fun e I1 G l1 ⟨t1,H1,he,p1,o1,hG⟩=>?_
 subst he
 refine⟨_,_,_,_,_,_,_,_,_,_,rfl,H1++F,hG.trans (cW fun z=>by simp only[dp,c8,eu];omega), ?_⟩
 have k1:d.Ok I1 (H1++F):=hd.mono l1 fun a ha=>List.mem_append_right _ ha
 refine (j2 d.qty (hs _ (.inr (.inl rfl))) I1 _ k1.2.1.cons.cons).mono fun e I2 G l2 ⟨t2,H2,he,p2,o2,hG⟩=>?_
 subst he
 refine⟨_,_,_,_,_,_,_,_,_,_,rfl,H2++(H1++F),hG.trans (cW fun z=>by simp only[dp,c8,eu];omega), ?_⟩
 have k2:d.Ok I2 (H2++(H1++F)):=k1.mono l2 fun a ha=>List.mem_append_right _ ha
 refine (j2 d.price (hs _ (.inr (.inr (.inl rfl)))) I2 _ k2.2.2.1.cons.cons).mono fun e I3 G l3 ⟨t3,H3,he,p3,o3,hG⟩=>?_
 subst he
 refine⟨_,_,_,_,_,_,_,_,_,_,rfl,H3++(H2++(H1++F)),hG.trans (cW fun z=>by simp only[dp,c8,eu];omega), ?_⟩
 have k3:d.Ok I3 (H3++(H2++(H1++F))):=k2.mono l3 fun a ha=>List.mem_append_right _ ha
 refine (j2 d.value (hs _ (.inr (.inr (.inr rfl)))) I3 _ k3.2.2.2.cons.cons).mono fun e I4 G l4 ⟨t4,H4,he,p4,o4,hG⟩=>?_
 subst he
 refine⟨_,_,_,_,_,_,_,_,_,_,rfl,H4++(H3++(H2++(H1++F))),hG.trans (cW fun z=>by simp only[dp,c8,eu];omega),⟨d.kind,d.order,d.name,t1,t2,t3,t4,d.pos⟩,H1++(H2++(H3++H4)),rfl, ?_,⟨H1,H2,H3,H4,rfl,o1,o2,o3,o4⟩,(cW fun z=>by simp only[dp,c8,eu];omega)⟩
 show dS.mk _ _ _ _ _ _ _ _=_
 rw[p1,p2,p3,p4];rfl
theorem vI(x:cj)(hs:x.p.dN)(I:cc)(F:b8)(hx:x.Ok I F):cg P 51 #[x.v] I F fun e I' G=>∃(x':cj) (H:b8),e=.returned x'.v∧x'.p=x.p∧lU false x' H∧G.Perm (H++F):=by
 have hl:=hs.1
 have hru:∀r∈x.rules,r.p.dN:=fun r hr=>hs.2 _ (List.mem_map_of_mem hr)
 have hdl:∀r∈x.rules,r.dos.length≤1048576:=fun r hr=>by have:=(hru r hr).2.1;simpa only[cr.p,List.length_map] using this
 simp only[cj.p,List.length_map] at hl
 refine gV.vc
  (fun a n c i m I0 F0 I' F'=>0≤i∧i≤x.rules.length∧m=(x.rules.length-i).toNat∧∃ks:List cr,ks.map cr.p=(x.rules.take i.toNat).map cr.p∧Part 10 cr.enc 84 (rj false) a n c ks F F')
  (fun i a n c k m I0 F0 I' F'=>∃r,x.rules[i.toNat]? = some r∧0≤k∧k≤r.dos.length∧m=(r.dos.length-k).toNat∧∃ds:List dG,ds.map dG.p=(r.dos.take k.toNat).map dG.p∧Part 36 dG.enc 99 (wY false) a n c ds F0 F') ?_
 unfold gV.V
 intro b_x b
 refine⟨⟨_,by omega,by omega,rfl,[],by simp,Part.nil⟩,fun a n c i m I1 F1 l1 ⟨g0,g1,gm,ks,gk,gP⟩=>⟨fun hlt=>?_,fun hlt=>?_⟩⟩
 ·have hlt:=of_decide_eq_true hlt
  have ok1:x.Ok I1 F1:=hx.mono l1 gP.mem
  obtain⟨ad,r,had,hr,hrd,hrm⟩:=dy.j3 (ok1.cons.cons (x:=(b_x,Obj.cells #[.string x.name,.slice x.a x.rules.length x.c,.int .i64 x.pos] 65 (0,0))) (s:=x)).1 g0 hlt
  have hkl:=rk gk (by omega)
  refine⟨⟨g0,hlt⟩,ad,had,_,_,_,_,_,_,_,_,_,_,_,_,_,_,hrd,fun b_r=>⟨⟨_,r,hr,by omega,by omega,rfl,[],by simp,Part.nil⟩,fun da dn dc k m3 I2 F2 l2 ⟨r',hr',k0,k1,km,ds,dk,dP⟩=>⟨fun hlt2=>?_,fun hlt2=>?_⟩⟩⟩
  ·obtain rfl:r=r':=by rw[hr] at hr';exact Option.some.inj hr'
   have hlt2:=of_decide_eq_true hlt2
   have ok2:r.Ok I2 F2:=(ok1.2 r hrm).mono l2 dP.mem
   obtain⟨ad1,d,had1,hd,hrd1,hdm⟩:=dy.j3 (ok2.cons.cons.cons (x:=(b_x,Obj.cells #[.string x.name,.slice x.a x.rules.length x.c,.int .i64 x.pos] 65 (0,0))) (s:=r)).2.1 k0 hlt2
   have hdlen:=rk dk (by omega)
   have hrl:=hdl r hrm
   refine⟨⟨k0,hlt2⟩,ad1,had1,_,_,_,_,_,_,_,_,_,_,_,_,_,_,_,_,_,_,_,_,_,_,_,_,_,_,_,_,_,_,_,_,_,_,_,_,_,_,_,_,_,_,_,_,hrd1,(Af d ((hru r hrm).2.2 _ (List.mem_map_of_mem hdm)) I2 _ ((ok2.2.2 d hdm).cons.cons.cons)).mono fun e I3 G l3 ⟨d',Hd,he,pd,od,hG⟩=>?_⟩
   subst he
   refine⟨_,_,_,_,_,_,_,_,_,_,_,_,_,_,_,_,_,_,_,_,_,_,_,_,_,_,_,_,_,_,_,_,_,_,_,_,_,_,_,_,_,_,_,_,rfl,Hd++F2,hG.trans (cW fun z=>by simp only[dp,c8,eu];omega),fun b1 I4 l4 hb1=>?_⟩
   refine cE.mono (o0 (f:=dG.enc) (fun _=>rfl) (zv:=(⟨0,0,⟨#[]⟩,ik,ik,ik,ik,0⟩:dG).v) (by':=320) (by kernel_rfl) (by kernel_rfl) rfl (by decide) dP (x:=d') (fun u hu=>?_) (R0:=[(b_x,Obj.cells #[.string x.name,.slice x.a x.rules.length x.c,.int .i64 x.pos] 65 (0,0)),(b,Obj.cells #[.string ⟨#[]⟩,.slice none 0 0,.int .i64 0] 65 (0,0)),(b_r,Obj.cells #[.int .u8 r.when.kind,.int .u8 r.when.oper,.int .u8 r.when.cx,.int .i64 r.when.n,.int .u8 r.when.field,.string r.when.name,.slice r.when.a r.when.kids.length r.when.c,.int .i64 r.when.pos,.slice r.a r.dos.length r.c,.int .i64 r.pos] 84 (0,0))]) rfl hb1 od (.refl _) (by omega)) fun v I5 G2 l5 ⟨a',n',c',hv,F3,hG2,hP2⟩=>?_
   ·simp only[dG.enc,List.mem_cons,List.not_mem_nil,or_false] at hu
    rcases hu with rfl | rfl | rfl | rfl | rfl | rfl | rfl | rfl | rfl | rfl | rfl | rfl | rfl | rfl | rfl | rfl | rfl | rfl | rfl | rfl | rfl | rfl | rfl | rfl | rfl | rfl | rfl | rfl | rfl | rfl | rfl | rfl | rfl | rfl | rfl | rfl<;>rfl
   ·refine⟨a',n',c',hv,F3,hG2,(r.dos.length-(k+1)).toNat,by omega,r,hr, ?_⟩
    rw[du (n:=k+1) (by omega)]
    refine⟨by omega,by omega,rfl,ds++[d'], ?_,hP2⟩
    rw[show (k+1).toNat=k.toNat+1 by omega,iW hd,List.map_append,dk,List.map_singleton,pd]
  ·obtain rfl:r=r':=by rw[hr] at hr';exact Option.some.inj hr'
   have hlt2:=of_decide_eq_false hlt2
   have ok2:r.Ok I2 F2:=(ok1.2 r hrm).mono l2 dP.mem
   refine (j2 r.when (hru r hrm).1 I2 _ ok2.1.cons.cons.cons).mono fun e I6 G l6 ⟨w,Hw,he,pw,ow,hG⟩=>?_
   subst he
   refine⟨_,_,_,_,_,_,_,_,_,_,rfl,Hw++F2,hG.trans (cW fun z=>by simp only[dp,c8,eu];omega),fun b2 I7 l7 hb2=>?_⟩
   have hdn:=dP.len
   subst hdn
   obtain⟨Hd,hO,hp⟩:=dP.own
   refine cE.mono (o0 (f:=cr.enc) (fun _=>rfl) (zv:=(⟨ik,none,0,[],0⟩:cr).v) (by':=104) (by kernel_rfl) (by kernel_rfl) rfl (by decide) gP (x:=⟨w,da,dc,ds,r.pos⟩) (fun u hu=>?_) (R0:=[(b_x,Obj.cells #[.string x.name,.slice x.a x.rules.length x.c,.int .i64 x.pos] 65 (0,0)),(b,Obj.cells #[.string ⟨#[]⟩,.slice none 0 0,.int .i64 0] 65 (0,0)),(b_r,Obj.cells #[.int .u8 r.when.kind,.int .u8 r.when.oper,.int .u8 r.when.cx,.int .i64 r.when.n,.int .u8 r.when.field,.string r.when.name,.slice r.when.a r.when.kids.length r.when.c,.int .i64 r.when.pos,.slice r.a r.dos.length r.c,.int .i64 r.pos] 84 (0,0))]) rfl hb2 (Hx:=Hw++Hd) ⟨Hw,Hd,rfl,ow,hO⟩ ?_ (by omega)) fun v I8 G2 l8 ⟨a',n',c',hv,F3,hG2,hP2⟩=>?_
   ·simp only[cr.enc,List.mem_cons,List.not_mem_nil,or_false] at hu
    rcases hu with rfl | rfl | rfl | rfl | rfl | rfl | rfl | rfl | rfl | rfl<;>rfl
   ·exact (cW fun z=>by have q0:=oF hp z;simp only[dp,c8,eu] at q0 ⊢;omega)
   ·refine⟨a',n',c',hv,F3,hG2,(x.rules.length-(i+1)).toNat,by omega, ?_⟩
    rw[du (n:=i+1) (by omega)]
    refine⟨by omega,by omega,rfl,_, ?_,hP2⟩
    rw[show (i+1).toNat=i.toNat+1 by omega,iW hr,List.map_append,gk,List.map_singleton]
    congr 2
    show cM.mk w.px (ds.map dG.p) r.pos=⟨r.when.px,r.dos.map dG.p,r.pos⟩
    rw[pw,dk,List.take_of_length_le (by omega)]
 ·have hlt:=of_decide_eq_false hlt
  have hn:=gP.len
  subst hn
  obtain⟨H,hO,hp⟩:=gP.own
  refine⟨⟨x.name,a,c,ks,x.pos⟩,H,rfl, ?_,hO,hp⟩
  show cq.mk x.name (ks.map cr.p) x.pos=⟨x.name,x.rules.map cr.p,x.pos⟩
  rw[gk,List.take_of_length_le (by omega)]
theorem yi(s:cB)(hs:s.p.dN)(I:cc)(F:b8)(hx:s.Ok I F):cg P 27 #[s.v] I F fun e I' G=>∃(s':cB) (H:b8),e=.returned s'.v∧s'.p=s.p∧Bw false s' H∧G.Perm (H++F):=by
 have lr:=hs.regs
 have ls:=hs.slots
 have lt:=hs.cd
 simp only[cB.p,List.length_map] at lr ls lt
 have hnm:∀r∈s.regs,r.init.px.size≤1048576:=fun r hr=>hs.eX _ (List.mem_map_of_mem hr)
 have hst:∀x∈s.cd,x.p.dN:=fun x hx=>hs.state _ (List.mem_map_of_mem hx)
 refine fm.vc
  (fun i nm a n c a2 n2 c2 a3 n3 c3 m I' F'=>nm=s.name∧(a2=none∧n2=0∧c2=0)∧(a3=none∧n3=0∧c3=0)∧0≤i∧i≤s.regs.length∧m=(s.regs.length-i).toNat∧cc.le I I'∧∃rs:List cJ,rs.map cJ.p=(s.regs.take i.toNat).map cJ.p∧Part 11 cJ.enc 77 (sm false) a n c rs F F')
  (fun i nm a n c a2 n2 c2 a3 n3 c3 m I' F'=>nm=s.name∧0≤i∧i≤s.cd.length∧m=(s.cd.length-i).toNat∧cc.le I I'∧∃(rs:List cJ) (H1:b8) (H2:b8) (ts:List cj),rs.map cJ.p=s.regs.map cJ.p∧n=rs.length∧u6 false 11 cJ.enc 77 (sm false) a n c rs H1 ∧
    n2=s.slots.length∧u6 false 2 cI.enc 79 Ct a2 n2 c2 s.slots H2∧ts.map cj.p=(s.cd.take i.toNat).map cj.p∧Part 3 cj.enc 65 (lU false) a3 n3 c3 ts (H1++(H2++F)) F') ?_
 unfold fm.V
 intro b_s b b_x
 refine⟨⟨_,rfl,⟨rfl,rfl,rfl⟩,⟨rfl,rfl,rfl⟩,by omega,by omega,rfl,cc.le_refl I,[],by simp,Part.nil⟩,fun i nm a n c a2 n2 c2 a3 n3 c3 m I1 F1 _ ⟨hnm1,⟨e1,e2,e3⟩,⟨e4,e5,e6⟩,g0,g1,gm,l1,rs,gk,gP⟩=>⟨fun hlt=>?_,fun hlt=>?_⟩⟩
 ·subst e1 e2 e3 e4 e5 e6 hnm1
  have hlt:=of_decide_eq_true hlt
  have ok1:s.Ok I1 F1:=hx.mono l1 gP.mem
  obtain⟨ad,r,had,hr,hrd,hrm⟩:=dy.j3 (ok1.cons.cons.cons (x:=(b_s,Obj.cells #[.string s.name,.slice s.ra s.regs.length s.rc,.slice s.sa s.slots.length s.sc,.slice s.ta s.cd.length s.tc] 39 (0,0))) (s:=s)).regs g0 hlt
  have hkl:=rk gk (by omega)
  refine⟨⟨g0,hlt⟩,ad,had,_,_,_,_,_,_,_,_,_,_,_,_,_,hrd,fun b_r=>(j2 r.init (hnm r hrm) I1 _ ((ok1.eX r hrm).mono (cc.le_refl _) fun a ha=>.tail _ (.tail _ (.tail _ (.tail _ ha))))).mono fun e I2 G l2 ⟨w,Hw,he,pw,ow,hG⟩=>?_⟩
  subst he
  refine⟨_,_,_,_,_,_,_,_,_,_,rfl,Hw++F1,hG.trans (cW fun z=>by simp only[dp,c8,eu];omega),fun b1 I3 l3 hb1=>?_⟩
  refine cE.mono (o0 (f:=cJ.enc) (fun _=>rfl) (zv:=(⟨⟨#[]⟩,0,ik,0⟩:cJ).v) (by':=104) (by kernel_rfl) (by kernel_rfl) rfl (by decide) gP (x:=⟨r.name,r.cx,w,r.pos⟩) (fun u hu=>?_) (R0:=[(b_s,Obj.cells #[.string s.name,.slice s.ra s.regs.length s.rc,.slice s.sa s.slots.length s.sc,.slice s.ta s.cd.length s.tc] 39 (0,0)),(b,_),(b_x,_),(b_r,_)]) rfl hb1 (Hx:=Hw) ow (.refl _) (by omega)) fun v I4 G2 l4 ⟨a',n',c',hv,F3,hG2,hP2⟩=>?_
  ·simp only[cJ.enc,List.mem_cons,List.not_mem_nil,or_false] at hu
   rcases hu with rfl | rfl | rfl | rfl | rfl | rfl | rfl | rfl | rfl | rfl | rfl<;>rfl
  ·refine⟨a',n',c',hv,F3,hG2,(s.regs.length-(i+1)).toNat,by omega,rfl,⟨rfl,rfl,rfl⟩,⟨rfl,rfl,rfl⟩, ?_⟩
   rw[du (n:=i+1) (by omega)]
   refine⟨by omega,by omega,rfl,cc.le_trans l1 (cc.le_trans l2 (cc.le_trans l3 l4)),_, ?_,hP2⟩
   rw[show (i+1).toNat=i.toNat+1 by omega,iW hr,List.map_append,gk,List.map_singleton]
   congr 2
   show dg.mk r.name r.cx w.px r.pos=⟨r.name,r.cx,r.init.px,r.pos⟩
   rw[pw]
 ·subst e1 e2 e3 e4 e5 e6 hnm1
  have hlt:=of_decide_eq_false hlt
  obtain⟨H1,hO1,hp1⟩:=gP.own
  have ok1:s.Ok I1 F1:=hx.mono l1 gP.mem
  refine cE.mono (yh (f:=cI.enc) (z:=2) (e:=79) (fun _=>rfl) (by decide) (zv:=(⟨⟨#[]⟩,0⟩:cI).v) (by':=24) (by kernel_rfl) (by kernel_rfl) rfl (by decide) (ok1.cons.cons.cons (x:=(b_s,Obj.cells #[.string s.name,.slice s.ra s.regs.length s.rc,.slice s.sa s.slots.length s.sc,.slice s.ta s.cd.length s.tc] 39 (0,0))) (s:=s)).slots (by omega)) fun v I5 G2 l5 ⟨a',n',c',A',hv,hA,hG2⟩=>?_
  have hn2:=hA.1
  refine⟨a',n',c',hv,A'++F1,by rw[hG2];exact (cW fun z=>by simp only[dp,c8,eu];omega),⟨_,rfl,by omega,by omega,rfl,cc.le_trans l1 l5,rs,H1,A'++fq n' (fun _=>[]),[],by rw[gk,List.take_of_length_le (by omega)],gP.len,hO1,hn2,⟨A',fun _=>[],rfl,hA,fun h=>(by cases h),fun i k h=>rfl⟩,by simp,[],fun _=>[],Acc.nil,fun i k h=>by simp at h, ?_⟩,fun i nm a n c a2 n2 c2 a3 n3 c3 m I8 F6 _ ⟨hnm1,g0,g1,gm,l8,rs,H1,H2,ts,gr,hn,hO1,hn2,hO2,gk,gP⟩=>⟨fun hlt=>?_,fun hlt=>?_⟩⟩
  ·rw[show fq n' (fun _=>([]:b8))=[] from vH n',List.append_nil]
   show List.Perm _ (H1++(A'++F))
   exact (cW fun z=>by have q0:=oF hp1 z;simp only[dp,c8,eu] at q0 ⊢;omega)
  ·subst hnm1
   have hlt:=of_decide_eq_true hlt
   have ok1:s.Ok I8 F6:=hx.mono l8 fun a ha=>gP.mem a (List.mem_append_right _ (List.mem_append_right _ ha))
   obtain⟨ad,x,had,hx',hrd,hxm⟩:=dy.j3 (ok1.cons.cons.cons (x:=(b_s,Obj.cells #[.string s.name,.slice s.ra s.regs.length s.rc,.slice s.sa s.slots.length s.sc,.slice s.ta s.cd.length s.tc] 39 (0,0))) (s:=s)).cd g0 hlt
   have hkl:=rk gk (by omega)
   refine⟨⟨g0,hlt⟩,ad,had,_,_,_,_,_,hrd,(vI x (hst x hxm) I8 _ (((ok1.state x hxm).cons).cons.cons)).mono fun e I9 G l9 ⟨x',Hx,he,px,ox,hG⟩=>?_⟩
   subst he
   refine⟨_,_,_,_,_,rfl,Hx++F6,hG.trans (cW fun z=>by simp only[dp,c8,eu];omega),fun b3 I10 l10 hb3=>?_⟩
   refine cE.mono (o0 (f:=cj.enc) (fun _=>rfl) (zv:=(⟨⟨#[]⟩,none,0,[],0⟩:cj).v) (by':=48) (by kernel_rfl) (by kernel_rfl) rfl (by decide) gP (x:=x') (fun u hu=>?_) (R0:=[(b_s,Obj.cells #[.string s.name,.slice s.ra s.regs.length s.rc,.slice s.sa s.slots.length s.sc,.slice s.ta s.cd.length s.tc] 39 (0,0)),(b,_),(b_x,_)]) rfl hb3 (Hx:=Hx) ox (.refl _) (by omega)) fun v I11 G2 l11 ⟨a',n',c',hv,F3,hG2,hP2⟩=>?_
   ·simp only[cj.enc,List.mem_cons,List.not_mem_nil,or_false] at hu
    rcases hu with rfl | rfl | rfl<;>rfl
   ·refine⟨a',n',c',hv,F3,hG2,(s.cd.length-(i+1)).toNat,by omega,rfl, ?_⟩
    rw[du (n:=i+1) (by omega)]
    refine⟨by omega,by omega,rfl,cc.le_trans l8 (cc.le_trans l9 (cc.le_trans l10 l11)),rs,H1,H2,_,gr,hn,hO1,hn2,hO2, ?_,hP2⟩
    rw[show (i+1).toNat=i.toNat+1 by omega,iW hx',List.map_append,gk,List.map_singleton,px]
  ·subst hnm1
   have hlt:=of_decide_eq_false hlt
   have hn3:=gP.len
   subst hn hn2 hn3
   obtain⟨H3,hO3,hp3⟩:=gP.own
   refine⟨⟨s.name,a,c,rs,a2,c2,s.slots,a3,c3,ts⟩,H1++(H2++H3),rfl, ?_,⟨H1,H2,H3,rfl,hO1,hO2,hO3⟩,(cW fun z=>by have q0:=oF hp3 z;simp only[dp,c8,eu] at q0 ⊢;omega)⟩
   show cu.mk s.name (rs.map cJ.p) s.slots (ts.map cj.p)=⟨s.name,s.regs.map cJ.p,s.slots,s.cd.map cj.p⟩
   rw[gr,gk,List.take_of_length_le (by omega)]
end Go.Lx
namespace Go.Lx
open Go.Vc Go.Proofs.Tryz
def wj:List (Nat×List Sh):=[(3,[.one (.int .i64)]),(4,[.one .bool]),(39,[.agg [.str,.slc,.slc,.slc]]),(45,[.one .slc,.one .any]),(48,[.one (.int .i64),.one (.int .i64)]),(51,[.agg [(.int .i64),(.int .i64),.bool]]),(57,[.agg [(.int .i64),(.int .i64)]]),(58,[.agg [(.int .i64),(.int .i64)],.one .any]),(63,[.one .slc])]
def iI.V(ka:Nat→Int→Int→Nat×Obj)(kb:Nat→Int→Int→Bool→Nat×Obj)(kc:Nat→Bs→OA→Nat→Nat→OA→Nat→Nat→OA→Nat→Nat→Nat×Obj)(f:Nat→Nat×Obj)(vi:Int→Value)(vs:Bs→Value)(vl:OA→Nat→Nat→Value)(vt:Bool→Value)(wr:Int→Int)(ax:Bs)(al:OA)(am an:Nat)(ao:OA)(ap aq:Nat)(ai:OA)(c ar:Nat)(b:Int)(I:cc)(F:b8)(Q:cf)(Inv34:Int→Int→Int→Nat→cc→b8→Prop)(Inv49:Bool→cc→b8→Prop)(Inv95:Bool→Int→Nat→cc→b8→Prop):Prop:=∀g:Nat,cF P 9 #[] I ((f g)::·) F vt fun r I1 F1=>cF P 17 #[.agg #[vs ax,vl al am an,vl ao ap aq,vl ai c ar]] I1 ((f g)::·) F1 vt fun r1 I2 F2=>(It (!r) (Q (.returned (vt r)) I2 F2) (It r1 (Q (.returned (vt r)) I2 F2) (Dt (b<0) (Q (.returned (vt r)) I2 F2) (de P 26 #[.agg #[vs ax,vl al am an,vl ao ap aq,vl ai c ar]] I2 ((f g)::·) F2 fun e3 I3 G3=>∃(k o:Int) (p:Bool),e3=.returned (.agg #[vi k,vi o,vt p])∧G3 fun F3=>∀ab:Nat,de P 19 #[.agg #[vs ax,vl al am an,vl ao ap aq,vl ai c ar]] I3 ((f g)::(kb ab k o p)::·) F3 fun e4 I4 G4=>∃(ak:OA) (ac a1:Nat) (az:Value),e4=.returned (.tuple #[vl ak ac a1,az])∧G4 fun F4=>(It (k != 0) (∃q:Bool,cP P .neq 44 (.tmp 47) (.const (Value.nilIface)) az Value.nilIface q∧(It q (Q (.returned (vt ((ac:Int)==0))) I4 F4) (Q (.returned (vt false)) I4 F4))) (de P 24 #[.agg #[vs ax,vl al am an,vl ao ap aq,vl ai c ar]] I4 ((f g)::(kb ab k o p)::·) F4 fun e5 I5 G5=>∃(h j:Int) (aA:Value),e5=.returned (.tuple #[.agg #[vi h,vi j],aA])∧G5 fun F5=>∀ae:Nat,∀e:Nat,(∃m:Nat,Inv34 0 0 0 m I5 F5)∧∀(i a d:Int) (m1:Nat) (I6:cc) (F6:b8),cc.le I5 I6→Inv34 i a d m1 I6 F6→(Dt (i<(ac:Int)) ((0≤i∧i<(ac:Int))∧∃ad:Addr,ak=some ad∧∃(m2:Int),Rd I6 ((f g)::(kb ab k o p)::(ka ae h j)::(ka e a d)::F6) ((ad.add (Int.toNat i*2)).add 0) [vi m2]∧((0≤i∧i<(ac:Int))∧∃aT:Addr,ak=some aT∧∃(m3:Int),Rd I6 ((f g)::(kb ab k o p)::(ka ae h j)::(ka e (if m2>a then m2 else a) d)::F6) ((aT.add (Int.toNat i*2)).add 1) [vi m3]∧(∃m4:Nat,m4<m1∧Inv34 (wr (i+1)) (if m2>a then m2 else a) (if m3>d then m3 else d) m4 I6 F6))) (de P 20 #[aA] I6 ((f g)::(kb ab k o p)::(ka ae h j)::(ka e a d)::·) F6 fun e6 I7 G6=>∃(r0 a2:Int),e6=.returned (.tuple #[vi r0,vi a2])∧G6 fun F7=>(∃q1:Bool,cP P .neq 44 (.tmp 89) (.const (Value.nilIface)) az Value.nilIface q1∧(It q1 (Q (.returned (vt false)) I7 F7) (It ((ac:Int)!=(c:Int)) (Q (.returned (vt false)) I7 F7) (It (!((decide (a>500))==(r0==160))) (Q (.returned (vt false)) I7 F7) (∃q2:Bool,cP P .eql 44 (.tmp 108) (.const (Value.nilIface)) aA Value.nilIface q2∧(It q2 (∃q3:Bool,cP P .neq 57 (.tmp 111) (.tmp 112) (.agg #[vi h,vi j]) (.agg #[vi a,vi d]) q3∧(It q3 (Q (.returned (vt false)) I7 F7) (Inv49 false I7 F7))) (Inv49 false I7 F7)))))))∧∀(x:Bool) (I8:cc) (F8:b8),cc.le I7 I8→Inv49 x I8 F8→(((c:Int)≠0)∧((0≤(Int.tmod b (c:Int))∧(Int.tmod b (c:Int))<(c:Int))∧∃aU:Addr,ai=some aU∧∃(ay:OA) (ag av:Nat),Rd I8 ((f g)::(kb ab k o p)::(ka ae h j)::(ka e a d)::F8) ((aU.add (Int.toNat (Int.tmod b (c:Int))*3)).add 1) [vl ay ag av]∧(It ((ag:Int)==0) ((0≤(Int.tmod b (c:Int))∧(Int.tmod b (c:Int))<(ac:Int))∧∃aV:Addr,ak=some aV∧∃(aL aM:Int),Rd I8 ((f g)::(kb ab k o p)::(ka ae h j)::(ka e a d)::F8) (aV.add (Int.toNat (Int.tmod b (c:Int))*2)) [vi aL,vi aM]∧∃q4:Bool,cP P .eql 57 (.tmp 133) (.tmp 134) (.agg #[vi aL,vi aM]) (.agg #[vi 0,vi 0]) q4∧Q (.returned (vt q4)) I8 F8) (de P 27 #[.agg #[vs ax,vl al am an,vl ao ap aq,vl ai c ar]] I8 ((f g)::(kb ab k o p)::(ka ae h j)::(ka e a d)::·) F8 fun e7 I9 G7=>∃(af:Bs) (s:OA) (t u:Nat) (w:OA) (y z:Nat) (l:OA) (n aa:Nat),e7=.returned (.agg #[vs af,vl s t u,vl w y z,vl l n aa])∧G7 fun F9=>∀ah:Nat,(((ag:Int)≠0)∧((0≤(0:Int)∧(0:Int)≤(Int.tmod b (ag:Int))∧(Int.tmod b (ag:Int))≤(av:Int))∧cE P (Builtin.append_ #[63,63] 63 #[vl none 0 0,vl (if av=Int.toNat ((0:Int)) then ay else Option.map (fun x=>x.add (Int.toNat ((0:Int))*10)) ay) (Int.toNat ((Int.tmod b (ag:Int)))-Int.toNat ((0:Int))) (av-Int.toNat ((0:Int)))]) I9 ((f g)::(kb ab k o p)::(ka ae h j)::(ka e a d)::(kc ah af s t u w y z l n aa)::F9) fun v I10 G8=>∃(aN:OA) (aO aP:Nat),v=vl aN aO aP∧∃F10:b8,List.Perm G8 ((f g)::(kb ab k o p)::(ka ae h j)::(ka e a d)::(kc ah af s t u w y z l n aa)::F10)∧((0≤(wr ((Int.tmod b (ag:Int))+1))∧(wr ((Int.tmod b (ag:Int))+1))≤(ag:Int)∧(ag:Int)≤(av:Int))∧cE P (Builtin.append_ #[63,63] 63 #[vl aN aO aP,vl (if av=Int.toNat ((wr ((Int.tmod b (ag:Int))+1))) then ay else Option.map (fun x=>x.add (Int.toNat ((wr ((Int.tmod b (ag:Int))+1)))*10)) ay) (Int.toNat ((ag:Int))-Int.toNat ((wr ((Int.tmod b (ag:Int))+1)))) (av-Int.toNat ((wr ((Int.tmod b (ag:Int))+1))))]) I10 ((f g)::(kb ab k o p)::(ka ae h j)::(ka e a d)::(kc ah af s t u w y z l n aa)::F10) fun v1 I11 G9=>∃(aB:OA) (aC aD:Nat),v1=vl aB aC aD∧∃F11:b8,List.Perm G9 ((f g)::(kb ab k o p)::(ka ae h j)::(ka e a d)::(kc ah af s t u w y z l n aa)::F11)∧((0≤(Int.tmod b (c:Int))∧(Int.tmod b (c:Int))<(n:Int))∧∃aw:Addr,l=some aw∧∃(cs:List Value) (el:Nat) (F12:b8),List.Perm F11 ((((aw.add (Int.toNat (Int.tmod b (c:Int))*3)).add 1).block,Obj.cells cs.toArray el (0,0))::F12)∧((aw.add (Int.toNat (Int.tmod b (c:Int))*3)).add 1).spot=none∧((aw.add (Int.toNat (Int.tmod b (c:Int))*3)).add 1).off+1≤cs.length∧cg P 19 #[.agg #[vs af,vl s t u,vl w y z,vl l n aa]] I11 ((f g)::(kb ab k o p)::(ka ae h j)::(ka e a d)::(kc ah af s t u w y z l n aa)::((((aw.add (Int.toNat (Int.tmod b (c:Int))*3)).add 1).block,Obj.cells (cp ((aw.add (Int.toNat (Int.tmod b (c:Int))*3)).add 1).off [vl aB aC aD] cs).toArray el (0,0))::F12)) fun e8 I12 G10=>∃(au:OA) (aj aK:Nat) (aQ:Value),e8=.returned (.tuple #[vl au aj aK,aQ])∧∃F13:b8,List.Perm G10 ((f g)::(kb ab k o p)::(ka ae h j)::(ka e a d)::(kc ah af s t u w y z l n aa)::F13)∧∃q5:Bool,cP P .neq 44 (.tmp 164) (.const (Value.nilIface)) aQ Value.nilIface q5∧(It q5 (Q (.returned (vt false)) I12 F13) (It ((aj:Int)!=(ac:Int)) (Q (.returned (vt false)) I12 F13) ((∃m5:Nat,Inv95 x 0 m5 I12 F13)∧∀(x1:Bool) (i1:Int) (m6:Nat) (I13:cc) (F14:b8),cc.le I12 I13→Inv95 x1 i1 m6 I13 F14→(Dt (i1<(ac:Int)) (It (i1 != (Int.tmod b (c:Int))) ((0≤i1∧i1<(aj:Int))∧∃aW:Addr,au=some aW∧∃(aE aF:Int),Rd I13 ((f g)::(kb ab k o p)::(ka ae h j)::(ka e a d)::(kc ah af s t u w y z l n aa)::F14) (aW.add (Int.toNat i1*2)) [vi aE,vi aF]∧((0≤i1∧i1<(ac:Int))∧∃aX:Addr,ak=some aX∧∃(aG aH:Int),Rd I13 ((f g)::(kb ab k o p)::(ka ae h j)::(ka e a d)::(kc ah af s t u w y z l n aa)::F14) (aX.add (Int.toNat i1*2)) [vi aG,vi aH]∧∃q6:Bool,cP P .neq 57 (.tmp 186) (.tmp 190) (.agg #[vi aE,vi aF]) (.agg #[vi aG,vi aH]) q6∧(It q6 (Q (.returned (vt false)) I13 F14) (∃m7:Nat,m7<m6∧Inv95 x1 (wr (i1+1)) m7 I13 F14)))) (∃m8:Nat,m8<m6∧Inv95 x1 (wr (i1+1)) m8 I13 F14)) ((0≤(Int.tmod b (c:Int))∧(Int.tmod b (c:Int))<(aj:Int))∧∃aY:Addr,au=some aY∧∃(m9:Int),Rd I13 ((f g)::(kb ab k o p)::(ka ae h j)::(ka e a d)::(kc ah af s t u w y z l n aa)::F14) ((aY.add (Int.toNat (Int.tmod b (c:Int))*2)).add 0) [vi m9]∧((0≤(Int.tmod b (c:Int))∧(Int.tmod b (c:Int))<(ac:Int))∧∃aZ:Addr,ak=some aZ∧∃(aI:Int),Rd I13 ((f g)::(kb ab k o p)::(ka ae h j)::(ka e a d)::(kc ah af s t u w y z l n aa)::F14) ((aZ.add (Int.toNat (Int.tmod b (c:Int))*2)).add 0) [vi aI]∧(Dt (m9<aI) ((0≤(Int.tmod b (c:Int))∧(Int.tmod b (c:Int))<(aj:Int))∧∃a0:Addr,au=some a0∧∃(aR:Int),Rd I13 ((f g)::(kb ab k o p)::(ka ae h j)::(ka e a d)::(kc ah af s t u w y z l n aa)::F14) ((a0.add (Int.toNat (Int.tmod b (c:Int))*2)).add 1) [vi aR]∧((0≤(Int.tmod b (c:Int))∧(Int.tmod b (c:Int))<(ac:Int))∧∃aJ:Addr,ak=some aJ∧∃(aS:Int),Rd I13 ((f g)::(kb ab k o p)::(ka ae h j)::(ka e a d)::(kc ah af s t u w y z l n aa)::F14) ((aJ.add (Int.toNat (Int.tmod b (c:Int))*2)).add 1) [vi aS]∧Q (.returned (vt (decide (aR≤aS)))) I13 F14)) (Q (.returned (vt false)) I13 F14))))))))))))))))))))))))
theorem iI.vc{v:Bs}{k:OA}{l n:Nat}{o:OA}{p q:Nat}{r:OA}{s t:Nat}{u:Int}{I:cc}{F:b8}{Q:cf}(Inv34:Int→Int→Int→Nat→cc→b8→Prop)(Inv49:Bool→cc→b8→Prop)(Inv95:Bool→Int→Nat→cc→b8→Prop)(h:iI.V (fun W a b=>(W,Obj.cells #[.int .i64 a,.int .i64 b] 57 (0,0))) (fun W a b c=>(W,Obj.cells #[.int .i64 a,.int .i64 b,.bool c] 51 (0,0))) (fun W a b c d e f g h i j=>(W,Obj.cells #[.string a,.slice b c d,.slice e f g,.slice h i j] 39 (0,0))) (fun b=>(b,Obj.cells #[.string v,.slice k l n,.slice o p q,.slice r s t] 39 (0,0))) (.int .i64) .string .slice .bool (IntKind.wrap .i64) v k l n o p q r s t u I F Q Inv34 Inv49 Inv95):cg P 8 #[.agg #[.string v,.slice k l n,.slice o p q,.slice r s t],.int .i64 u] I F Q :=
 tw (A:=(cQ [3001,3003,3007,7002,8001,12003,17001,17008,17016,17020,17024,21002,30001,30007,33003,35002,35012,37010] [] [9,17,19,20,24,26,27] wj [(34,⟨[(13,(.int .i64))],[(3,[(.int .i64),(.int .i64)])],fun _ _ _ vs m I F=>match vs with | [.int _ y0,.int _ y1,.int _ y2]=>Inv34 y0 y1 y2 m I F | _=>False,[],[]⟩),(49,⟨[(4,.bool)],[],fun _ _ _ vs m I F=>match vs with | [.bool y0]=>Inv49 y0 I F | _=>False,[],[]⟩),(95,⟨[(4,.bool),(23,(.int .i64))],[],fun _ _ _ vs m I F=>match vs with | [.bool y0,.int _ y1]=>Inv95 y0 y1 m I F | _=>False,[],[]⟩)] [] [] [] [] [(14,[0,2,3,4,5,1,6,7,8,9]),(15,[0,2,3,4,5,1,6,7,8,9])] [])) [9,17,19,20,24,26,27] func8 h
end Go.Lx
