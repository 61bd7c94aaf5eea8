import Derived.Test.YtcbilbkafjnenaaGreatDoorTypesTwiceB5
set_option linter.unusedVariables false
set_option linter.unusedSimpArgs false
set_option linter.unusedSectionVars false
set_option maxRecDepth 100000
namespace Go.Lx
open Go.Vc
theorem has_ix(nm:ByteArray):∀(l:List ByteArray) (i:Nat) (j:Int),l[i]? = some nm→(ixF nm l j<j+i↔hasS (l.take i) nm=true)∧0≤ixF nm l j-j
 | [],i,j,h=>by simp at h
 | x::l,0,j,h=>by
   simp only[List.getElem?_cons_zero,Option.some.injEq] at h
   subst h
   rw[ixF,if_pos (by simp)]
   refine⟨⟨fun h=>by omega,fun h=>by simp[hasS] at h⟩,by omega⟩
 | x::l,i+1,j,h=>by
   rw[ixF]
   have ih:=has_ix nm l i (j+1) (by simpa using h)
   by_cases hx:(x.toList==nm.toList)=true
   ·rw[if_pos hx]
    have:=bytes_eq.1 hx
    subst this
    refine⟨⟨fun _=>by simp[hasS],fun _=>by omega⟩,by omega⟩
   ·rw[if_neg hx]
    have hne:¬x=nm:=fun e=>hx (bytes_eq.2 e)
    refine⟨?_,by omega⟩
    rw[List.take_succ_cons]
    have e:hasS (x::l.take i) nm=hasS (l.take i) nm:=by
     unfold hasS;rw[List.any_cons,decide_eq_false hne,Bool.false_or]
    rw[e,←ih.1]
    constructor<;>intro h<;>omega
theorem ix_none(nm:ByteArray):∀(l:List ByteArray) (j:Int),0≤j→(ixF nm l j<0↔hasS l nm=false)
 | [],j,h=>by rw[ixF];simp[hasS]
 | x::l,j,h=>by
   rw[ixF]
   by_cases hx:(x.toList==nm.toList)=true
   ·rw[if_pos hx]
    have:=bytes_eq.1 hx
    subst this
    refine⟨fun h=>by omega,fun h=>by simp[hasS] at h⟩
   ·rw[if_neg hx,ix_none nm l (j+1) (by omega)]
    have hne:¬x=nm:=fun e=>hx (bytes_eq.2 e)
    unfold hasS;rw[List.any_cons,decide_eq_false hne,Bool.false_or]
def Cnt(l:List ByteArray)(k:Nat)(o:Obj):Prop:=∃es ck g,o=.map es ck∧MapG Value.string (Value.int .i64) g es ck∧Met l k g
theorem Cnt.nil:Cnt [] 0 (.map #[] 0):=⟨_,_,_,rfl,MapG.nil 0,Met.nil⟩
def cntN(l:List ByteArray)(i:Nat)(nm:ByteArray)(c:Int):Prop:=1≤c∧c≤i+1∧(1<c↔hasS (l.take i) nm=true)
theorem Met.step{l:List ByteArray}{i:Nat}{g:ByteArray→Option Int}{nm:ByteArray}(h:Met (l.take i) i g)(hl:l[i]? = some nm) :
  Met (l.take (i+1)) (i+1) (putG g nm ((g nm).getD 0+1))∧cntN l i nm ((g nm).getD 0+1):=by
 have htk:l.take (i+1)=l.take i++[nm]:=by rw[List.take_add_one,hl];rfl
 by_cases hs:hasS (l.take i) nm=true
 ·obtain⟨m,h1,h2,h3⟩:=(h nm).1 hs
  rw[h1]
  refine⟨?_, ?_, ?_, ?_⟩
  ·intro s
   have:=(h.more hs h2 h3) s
   rw[htk]
   have e:hasS (l.take i++[nm]) s=hasS (l.take i) s:=by
    unfold hasS at hs ⊢;rw[List.any_append]
    by_cases hsn:nm=s
    ·subst hsn;rw[hs];rfl
    ·simp[hsn]
   rw[e];exact this
  ·show 1≤m+1;omega
  ·show m+1≤i+1;omega
  ·exact⟨fun _=>hs,fun _=>by show 1<m+1;omega⟩
 ·have hs:hasS (l.take i) nm=false:=by simpa using hs
  have h1:=(h nm).2 hs
  rw[h1]
  refine⟨?_, ?_, ?_, ?_⟩
  ·rw[htk];exact h.new
  ·show (1:Int)≤0+1;omega
  ·show (0:Int)+1≤i+1;omega
  ·rw[hs];exact⟨fun h=>by simp at h,fun h=>by cases h⟩
section
variable {I:Imm} {l:List ByteArray} {i:Nat} {nm:ByteArray} {o:Obj} {m:Nat} {G R:Heap}
theorem cnt_get(hc:Cnt (l.take i) i o)(hl:l[i]? = some nm)(hi:i≤1048576)(hm:(m,o)∈G):TriE P (Instr.lookup 124 (.map (some m)) (.string nm) false) I G fun v I' G'=>∃r:Int,v=.int .i64 r∧I'=I∧G'=G ∧
  (∀G2,G.Perm ((m,o)::G2)→TriU P (Instr.mapUpdate 124 (.map (some m)) (.string nm) (.int .i64 (IntKind.wrap .i64 (r+1)))) I G fun I' G'=>I'=I∧∃o',Cnt (l.take (i+1)) (i+1) o'∧G'=(m,o')::G2 ∧
   ∀G3,(m,o')∈G3→TriE P (Instr.lookup 124 (.map (some m)) (.string nm) false) I G3 fun v I' G'=>∃c:Int,v=.int .i64 c∧I'=I∧G'=G3∧cntN l i nm c):=by
 obtain⟨es,ck,g,rfl,hg,hmet⟩:=hc
 obtain⟨h1,h2⟩:=hmet.step hl
 refine TriE.mono (lookup_one mapS strD str_key str_inj zeroS hg (.inr hm) nm) fun v I1 G1 hl1 ⟨hv,hI,hG⟩=>⟨(g nm).getD 0, ?_,hI,hG,fun G2 hp=>?_⟩
 ·rw[hv];cases g nm<;>rfl
 ·have hw:IntKind.wrap .i64 ((g nm).getD 0+1)=(g nm).getD 0+1:=w64 (by unfold cntN at h2;omega)
  rw[hw]
  refine TriU.perm (TriU.mono (update_spec mapS strD str_key str_inj hg nm ((g nm).getD 0+1) (F:=G2)) fun I2 G3 hl2 ⟨hI2,es',ck',hG3,hg'⟩=>⟨hI2,_,⟨es',ck',_,rfl,hg',h1⟩,hG3,fun G4 hm4=>?_⟩) hp
  refine TriE.mono (lookup_one mapS strD str_key str_inj zeroS hg' (.inr hm4) nm) fun v3 I3 G5 hl3 ⟨hv3,hI3,hG5⟩=>⟨(g nm).getD 0+1, ?_,hI3,hG5,h2⟩
  rw[hv3];unfold putG;rw[if_pos rfl];rfl
end
section
variable (s:StgN) (hl:s.p.Light) {I:Imm} {F:Heap} (hok:s.Ok I F)
def slotL(s:StgN):List ByteArray:=s.slots.map SlotP.name
def roomL(s:StgN):List ByteArray:=s.states.map StateN.name
def regL(s:StgN):List ByteArray:=s.regs.map RegN.name
def DecQ(s:StgN)(m1 m2:Nat)(F:Heap)(e:Ending)(I:Imm)(G:Heap):Prop:=∃v,e=.returned v∧ChkE I s.p.named v∧∃o1 o2,G=(m1,o1)::(m2,o2)::F∧(s.p.named.e=0→Cnt (slotL s) s.slots.length o1∧Cnt (roomL s) s.states.length o2)
theorem regL_ix(nm:ByteArray):s.p.reg nm=ixF nm (regL s) 0:=by
 unfold StgP.reg regL
 show ixF nm ((s.regs.map RegN.p).map RegP.name) 0=_
 rw[List.map_map];rfl
theorem roomL_ix(nm:ByteArray):s.p.room nm=ixF nm (roomL s) 0:=by
 unfold StgP.room roomL
 show ixF nm ((s.states.map StateN.p).map StateP.name) 0=_
 rw[List.map_map];rfl
end
end Go.Lx
namespace Go.Lx
open Go.Vc
theorem Scp.rd{I:Imm}{c m1 m2:Nat}{s:StgP}(h:Scp I c s m1 m2)(G:Heap):Rd I G ((⟨c,0,none⟩:Addr).add 1) [.map (some m1)]∧Rd I G ((⟨c,0,none⟩:Addr).add 2) [.map (some m2)]:=by
 obtain⟨m0,es,ck,hc,_,_⟩:=h
 rw[addr0,addr0]
 exact⟨Rd.of_imm hc _ 1 fun j hj=>by
  have:j=0:=by simpa using hj
  subst this;rfl,Rd.of_imm hc _ 2 fun j hj=>by
  have:j=0:=by simpa using hj
  subst this;rfl⟩
theorem thenT_n{n p:Int}{b:Bool}(h:n≠0)(x:TF):thenT ⟨n,p,b⟩ x=⟨n,p,b⟩:=thenT_e _ h x
section
variable {s:StgN} (hl:s.p.Thin) {I:Imm} {F:Heap} (hok:s.Ok I F)
include hl hok
theorem declared_spec(hg:Gl I)(hf:∀r∈s.regs,r.init.px.formed=true){c m1 m2:Nat}(hS:Scp I c s.p m1 m2) :
  Tri P 34 #[.pointer (some ⟨c,0,none⟩),s.v] I ((m1,.map #[] 0)::(m2,.map #[] 0)::F) (DecQ s m1 m2 F):=by
 have lr:=hl.regs
 have ls:=hl.slots
 have lt:=hl.states
 simp only[StgN.p,List.length_map] at lr ls lt
 refine Tri.keep (Q:=fun e I' G=>∃v o1 o2 H,e=.returned v∧ChkE I' s.p.named v∧G.Perm ((m1,o1)::(m2,o2)::(H++F))∧(s.p.named.e=0→Cnt (slotL s) s.slots.length o1∧Cnt (roomL s) s.states.length o2)) ?_
  fun e I' G w hl hs ⟨v,o1,o2,H,he,hv,hp,hk⟩=>⟨I',_,Imm.le_refl _,(hs.perm hp).sub (((List.sublist_append_right H F).cons_cons _).cons_cons _),v,he,hv,o1,o2,rfl,hk⟩
 refine types_scope_declared.vc
  (fun r x i m I0 F0 I' F'=>0≤i∧i≤s.regs.length∧m=(s.regs.length-i).toNat∧s.p.named=thenT (namedR s.p (s.p.regs.drop i.toNat) i) (thenT (namedS s.p s.slots 0) (namedT s.p s.p.states 0)) ∧
    ∃r0 o,r=some r0∧Cnt ((regL s).take i.toNat) i.toNat o∧F'.Perm ((r0,o)::(m1,.map #[] 0)::(m2,.map #[] 0)::F))
  (fun x i m I0 F0 I' F'=>0≤i∧i≤s.slots.length∧m=(s.slots.length-i).toNat∧s.p.named=thenT (namedS s.p (s.slots.drop i.toNat) i) (namedT s.p s.p.states 0) ∧
    ∃H o,Cnt ((slotL s).take i.toNat) i.toNat o∧F'.Perm ((m1,o)::(m2,.map #[] 0)::(H++F)))
  (fun x i m I0 F0 I' F'=>0≤i∧i≤s.states.length∧m=(s.states.length-i).toNat∧s.p.named=namedT s.p (s.p.states.drop i.toNat) i ∧
    ∃H o1 o,Cnt (slotL s) s.slots.length o1∧Cnt ((roomL s).take i.toNat) i.toNat o∧F'.Perm ((m1,o1)::(m2,o)::(H++F))) ?_
 unfold types_scope_declared.V
 intro b_s
 refine TriE.mono makeMap_spec fun v I1 G h1 ⟨r,hv,hI,hG⟩=>?_
 subst hI hG
 refine⟨some r,hv,(r,.map #[] 0)::(m1,.map #[] 0)::(m2,.map #[] 0)::F,.swap .., ?_⟩
 refine⟨⟨_,by omega,by omega,rfl,rfl,r,_,rfl,Cnt.nil,.refl _⟩,fun x i m I2 F2 l2 ⟨g0,g1,gm,ge,r',o,hr,hcn,hp⟩=>?_⟩
 obtain rfl:r=r':=by simpa using hr
 refine⟨fun hlt=>?_,fun hlt=>⟨⟨_,by omega,by omega,rfl, ?_,[_],_,Cnt.nil,hp.trans pm2.symm⟩,fun x2 i2 m4 I9 F9 l9 ⟨k0,k1,km,ke,H,o2,kcn,kp⟩=>⟨fun hlt2=>?_,fun hlt2=>⟨⟨_,by omega,by omega,rfl, ?_,H,o2,.map #[] 0, ?_,Cnt.nil,kp⟩,
  fun x4 i3 m9 I14 F14 l14 ⟨q0,q1,qm,qe,H',o1,o3,qs,qcn,qp⟩=>⟨fun hlt3=>?_,fun hlt3=>?_⟩⟩⟩⟩⟩
 ·have hlt:=of_decide_eq_true hlt
  have hok2:∀{J:Imm} (G:Heap),Imm.le I1 J→(∀y,y∈F→y∈G)→s.Ok J G:=fun G hJ h=>hok.mono hJ h
  have hsub2:∀y,y∈F→y∈F2:=fun y hy=>hp.mem_iff.2 (.tail _ (.tail _ (.tail _ hy)))
  obtain⟨ad,g,had,hg1,hrd,hgm⟩:=SlG.atm (hok2 ((b_s,Obj.cells #[.string s.name,.slice s.ra s.regs.length s.rc,.slice s.sa s.slots.length s.sc,.slice s.ta s.states.length s.tc] 26 (0,0))::F2) l2 fun y hy=>.tail _ (hsub2 y hy)).regs g0 hlt
  have hgl:(regL s)[i.toNat]? = some g.name:=by unfold regL;rw[List.getElem?_map,hg1];rfl
  have hgp:s.p.regs[i.toNat]? = some g.p:=by
   show (s.regs.map RegN.p)[i.toNat]? = _
   rw[List.getElem?_map,hg1];rfl
  have hdr:s.p.regs.drop i.toNat=g.p::s.p.regs.drop (i.toNat+1):=by
   obtain⟨h1,h2⟩:=List.getElem?_eq_some_iff.1 hgp
   rw[List.drop_eq_getElem_cons h1,h2]
  rw[hdr,namedR] at ge
  refine⟨⟨g0,hlt⟩,ad,had,_,_,_,_,_,_,_,_,_,_,_,_,_,hrd,fun b_r=>?_⟩
  have hm0:∀(x y:Nat×Obj),(r,o)∈x::y::F2:=fun x y=>.tail _ (.tail _ (hp.mem_iff.2 (.head _)))
  refine TriE.mono (cnt_get hcn hgl (by omega) (hm0 _ _)) fun v1 I3 G hl3 ⟨r1,hv1,hI,hG,hu⟩=>⟨r1,hv1,F2,by rw[hG], ?_⟩
  subst hI hG
  refine TriU.mono (hu _ (((hp.cons _).cons _).trans pm2)) fun I4 G hl4 ⟨hI,o',hcn',hG,hlk⟩=>?_
  subst hI hG
  refine⟨(r,o')::(m1,.map #[] 0)::(m2,.map #[] 0)::F,pm2.symm, ?_⟩
  refine TriE.mono (hlk _ (.tail _ (.tail _ (.head _)))) fun v2 I5 G hl5 ⟨r2,hv2,hI,hG,n1,n2,n3⟩=>?_
  subst hI hG
  have hix:=(has_ix g.name (regL s) i.toNat 0 hgl).1
  rw[←regL_ix,Int.zero_add,Int.toNat_of_nonneg g0] at hix
  have hgI:Gl I5:=hg.mono l2
  refine⟨r2,hv2,(r,o')::(m1,.map #[] 0)::(m2,.map #[] 0)::F,.refl _,fun h2=>?_,fun h2=>?_⟩
  ·have h2:=of_decide_eq_true h2
   rw[if_pos (show s.p.reg g.p.name<i from hix.2 (n3.1 h2)),thenT_n (n:=150) (by decide)] at ge
   refine Tri.retV (refused_no hgI g.pos 150 (by decide) _) fun v I6 l6 hv=>⟨v,rfl,_,.refl _,v,_,_,[_],rfl, ?_,pm2.symm,fun h=>?_⟩
   ·rw[ge];exact hv
   ·rw[ge] at h;exact absurd h (show (150:Int)≠0 by decide)
  ·have h2:=of_decide_eq_false h2
   rw[if_neg (show ¬s.p.reg g.p.name<i from fun h=>h2 (n3.2 (hix.1 h)))] at ge
   refine Tri.retV (of_spec g.init (hf g hgm) I5 _ (hS.mono l2) (NdOk.mono (hok.reg _ hgm) l2 fun y hy=>.tail _ (.tail _ (.tail _ (.tail _ (.tail _ hy)))))) fun v I7 l7 ⟨w,hv,hw⟩=>⟨_,_,congrArg Ending.returned hv,_,.refl _,fun ht=>?_,fun ht=>?_⟩
   ·have ht:(typed s.p g.init.px).1≠g.typ:=by simpa using ht
    rw[if_pos (show (typed s.p g.p.init).1≠g.p.typ from ht),thenT_n (n:=152) (by decide)] at ge
    refine Tri.retV (refused_no (hgI.mono l7) g.pos 152 (by decide) _) fun v I8 l8 hv=>⟨v,rfl,_,.refl _,v,_,_,[_],rfl, ?_,pm2.symm,fun h=>?_⟩
    ·rw[ge];exact hv
    ·rw[ge] at h;exact absurd h (show (152:Int)≠0 by decide)
   ·have ht:(typed s.p g.init.px).1=g.typ:=by simpa using ht
    rw[if_neg (show ¬(typed s.p g.p.init).1≠g.p.typ from fun h=>h ht)] at ge
    refine⟨(s.regs.length-(i+1)).toNat,by omega, ?_⟩
    rw[w64 (n:=i+1) (by omega)]
    refine⟨by omega,by omega,rfl, ?_,r,o',rfl, ?_,.refl _⟩
    ·rw[ge,show (i+1).toNat=i.toNat+1 by omega]
    ·rw[show (i+1).toNat=i.toNat+1 by omega];exact hcn'
 ·have hlt:=of_decide_eq_false hlt
  rw[ge,List.drop_eq_nil_of_le (by show (s.regs.map RegN.p).length≤_;rw[List.length_map];omega)];rfl
 ·have hlt2:=of_decide_eq_true hlt2
  have l29:=Imm.le_trans l2 l9
  have hsub2:∀y,y∈F→y∈F9:=fun y hy=>kp.mem_iff.2 (.tail _ (.tail _ (List.mem_append_right _ hy)))
  obtain⟨ad,g,had,hg1,hrd,hgm⟩:=SlG.atm (hok.mono (H:=(b_s,Obj.cells #[.string s.name,.slice s.ra s.regs.length s.rc,.slice s.sa s.slots.length s.sc,.slice s.ta s.states.length s.tc] 26 (0,0))::F9) l29 fun y hy=>.tail _ (hsub2 y hy)).slots k0 hlt2
  have hgl:(slotL s)[i2.toNat]? = some g.name:=by unfold slotL;rw[List.getElem?_map,hg1];rfl
  have hdr:s.slots.drop i2.toNat=g::s.slots.drop (i2.toNat+1):=by
   obtain⟨h1,h2⟩:=List.getElem?_eq_some_iff.1 hg1
   rw[List.drop_eq_getElem_cons h1,h2]
  rw[hdr,namedS] at ke
  refine⟨⟨k0,hlt2⟩,ad,had,_,_,hrd,fun b_x=>?_⟩
  have hSJ:=hS.mono l29
  refine⟨_,rfl,some m1,(hSJ.rd _).1, ?_⟩
  have hm0:∀(x y:Nat×Obj),(m1,o2)∈x::y::F9:=fun x y=>.tail _ (.tail _ (kp.mem_iff.2 (.head _)))
  refine TriE.mono (cnt_get kcn hgl (by omega) (hm0 _ _)) fun v1 I3 G hl3 ⟨r1,hv1,hI,hG,hu⟩=>⟨r1,hv1,F9,by rw[hG], ?_⟩
  subst hI hG
  refine TriU.mono (hu _ (((kp.cons _).cons _).trans pm2)) fun I4 G hl4 ⟨hI,o',hcn',hG,hlk⟩=>?_
  subst hI hG
  refine⟨(m1,o')::(m2,.map #[] 0)::(H++F),pm2.symm,_,rfl,some m1,(hSJ.rd _).1, ?_⟩
  refine TriE.mono (hlk _ (.tail _ (.tail _ (.head _)))) fun v2 I5 G hl5 ⟨r2,hv2,hI,hG,n1,n2,n3⟩=>?_
  subst hI hG
  have hix:=(has_ix g.name (slotL s) i2.toNat 0 hgl).1
  rw[show ixF g.name (slotL s) 0=s.p.slot g.name from rfl,Int.zero_add,Int.toNat_of_nonneg k0] at hix
  refine⟨r2,hv2,(m1,o')::(m2,.map #[] 0)::(H++F),.refl _,fun h2=>?_,fun h2=>⟨(s.slots.length-(i2+1)).toNat,by omega, ?_⟩⟩
  ·have h2:=of_decide_eq_true h2
   rw[if_pos (hix.2 (n3.1 h2)),thenT_n (n:=150) (by decide)] at ke
   refine Tri.retV (refused_no (hg.mono l29) g.pos 150 (by decide) _) fun v I6 l6 hv=>⟨v,rfl,_,.refl _,v,_,_,H,rfl, ?_,.refl _,fun h=>?_⟩
   ·rw[ke];exact hv
   ·rw[ke] at h;exact absurd h (show (150:Int)≠0 by decide)
  ·have h2:=of_decide_eq_false h2
   rw[if_neg (fun h=>h2 (n3.2 (hix.1 h)))] at ke
   rw[w64 (n:=i2+1) (by omega)]
   refine⟨by omega,by omega,rfl, ?_,H,o', ?_,.refl _⟩
   ·rw[ke,show (i2+1).toNat=i2.toNat+1 by omega]
   ·rw[show (i2+1).toNat=i2.toNat+1 by omega];exact hcn'
 ·have hlt2:=of_decide_eq_false hlt2
  rw[ke,List.drop_eq_nil_of_le (by omega)];rfl
 ·have hlt2:=of_decide_eq_false hlt2
  rw[List.take_of_length_le (by unfold slotL;rw[List.length_map];omega),show i2.toNat=s.slots.length by omega] at kcn
  exact kcn
 ·have hlt3:=of_decide_eq_true hlt3
  have l29:=Imm.le_trans l2 (Imm.le_trans l9 l14)
  have hsub2:∀y,y∈F→y∈F14:=fun y hy=>qp.mem_iff.2 (.tail _ (.tail _ (List.mem_append_right _ hy)))
  obtain⟨ad,g,had,hg1,hrd,hgm⟩:=SlG.atm (hok.mono (H:=(b_s,Obj.cells #[.string s.name,.slice s.ra s.regs.length s.rc,.slice s.sa s.slots.length s.sc,.slice s.ta s.states.length s.tc] 26 (0,0))::F14) l29 fun y hy=>.tail _ (hsub2 y hy)).states q0 hlt3
  have hgl:(roomL s)[i3.toNat]? = some g.name:=by unfold roomL;rw[List.getElem?_map,hg1];rfl
  have hgp:s.p.states[i3.toNat]? = some g.p:=by
   show (s.states.map StateN.p)[i3.toNat]? = _
   rw[List.getElem?_map,hg1];rfl
  have hdr:s.p.states.drop i3.toNat=g.p::s.p.states.drop (i3.toNat+1):=by
   obtain⟨h1,h2⟩:=List.getElem?_eq_some_iff.1 hgp
   rw[List.drop_eq_getElem_cons h1,h2]
  rw[hdr,namedT] at qe
  refine⟨⟨q0,hlt3⟩,ad,had,_,_,_,_,_,hrd,fun b_x=>?_⟩
  have hSJ:=hS.mono l29
  refine⟨_,rfl,some m2,(hSJ.rd _).2, ?_⟩
  have hm0:∀(x y:Nat×Obj),(m2,o3)∈x::y::F14:=fun x y=>.tail _ (.tail _ (qp.mem_iff.2 (.tail _ (.head _))))
  refine TriE.mono (cnt_get qcn hgl (by omega) (hm0 _ _)) fun v1 I3 G hl3 ⟨r1,hv1,hI,hG,hu⟩=>⟨r1,hv1,F14,by rw[hG], ?_⟩
  subst hI hG
  refine TriU.mono (hu _ (((qp.cons _).cons _).trans pm3)) fun I4 G hl4 ⟨hI,o',hcn',hG,hlk⟩=>?_
  subst hI hG
  refine⟨(m1,o1)::(m2,o')::(H'++F),pm3.symm,_,rfl,some m2,(hSJ.rd _).2, ?_⟩
  refine TriE.mono (hlk _ (.tail _ (.tail _ (.tail _ (.head _))))) fun v2 I5 G hl5 ⟨r2,hv2,hI,hG,n1,n2,n3⟩=>?_
  subst hI hG
  have hix:=(has_ix g.name (roomL s) i3.toNat 0 hgl).1
  rw[←roomL_ix,Int.zero_add,Int.toNat_of_nonneg q0] at hix
  refine⟨r2,hv2,(m1,o1)::(m2,o')::(H'++F),.refl _,fun h2=>?_,fun h2=>⟨(s.states.length-(i3+1)).toNat,by omega, ?_⟩⟩
  ·have h2:=of_decide_eq_true h2
   rw[if_pos (show s.p.room g.p.name<i3 from hix.2 (n3.1 h2))] at qe
   refine Tri.retV (refused_no (hg.mono l29) g.pos 150 (by decide) _) fun v I6 l6 hv=>⟨v,rfl,_,.refl _,v,_,_,H',rfl, ?_,.refl _,fun h=>?_⟩
   ·rw[qe];exact hv
   ·rw[qe] at h;exact absurd h (show (150:Int)≠0 by decide)
  ·have h2:=of_decide_eq_false h2
   rw[if_neg (show ¬s.p.room g.p.name<i3 from fun h=>h2 (n3.2 (hix.1 h)))] at qe
   rw[w64 (n:=i3+1) (by omega)]
   refine⟨by omega,by omega,rfl, ?_,H',o1,o',qs, ?_,.refl _⟩
   ·rw[qe,show (i3+1).toNat=i3.toNat+1 by omega]
   ·rw[show (i3+1).toNat=i3.toNat+1 by omega];exact hcn'
 ·have hlt3:=of_decide_eq_false hlt3
  rw[List.drop_eq_nil_of_le (by show (s.states.map StateN.p).length≤_;rw[List.length_map];omega)] at qe
  rw[List.take_of_length_le (by unfold roomL;rw[List.length_map];omega),show i3.toNat=s.states.length by omega] at qcn
  refine⟨_,o1,o3,H',rfl, ?_,qp,fun _=>⟨qs,qcn⟩⟩
  rw[qe];exact ChkE.ok
end
end Go.Lx
namespace Go.Lx
open Go.Vc
def FltE(f:TF)(v:Value)(J:Imm):Prop:=ChkE J f v
mutual
theorem typed_of(s:StgP):∀x:Px,(typed s x).2.e≠0→(typed s x).2.of=true
 | .mk k o t n f nm l q,h=>by
   rw[typed] at h ⊢
   split
   ·rename_i h1;exact typedL_of s l h1
   ·rename_i h1
    rw[if_neg h1] at h
    unfold nodeE at h ⊢
    split
    ·rfl
    ·rename_i h2
     rw[if_neg h2] at h
     split
     ·rename_i h3;rw[if_pos h3] at h;exact absurd rfl h
     ·rfl
theorem typedL_of(s:StgP):∀l:List Px,(typedL s l).2.e≠0→(typedL s l).2.of=true
 | [],h=>by rw[typedL] at h;exact absurd rfl h
 | x::r,h=>by
   rw[typedL] at h ⊢
   split
   ·rename_i h1;exact typed_of s x h1
   ·rename_i h1;rw[if_neg h1] at h;exact typedL_of s r h
end
theorem typeOf_ok{s:StgP}{x:Px}(h:x.checkE=0):typeOf s x=typed s x:=by
 unfold typeOf
 rw[if_neg (fun h'=>h' h)]
theorem pmust_spec{s:StgN}{c m1 m2:Nat}(t:Nd)(hc:t.px.checkE=0)(want:Int){I:Imm}{F:Heap}(hg:Gl I)(hS:Scp I c s.p m1 m2)(ht:NdOk I F t) :
  Tri P 65 #[.pointer (some ⟨c,0,none⟩),t.v,.int .u8 want] I F (RetV (FltE (mustT s.p t.px want)) F):=by
 refine types_scope_must.vc ?_
 unfold types_scope_must.V
 unfold mustT
 have hf:=checkE_formed hc
 rw[typeOf_ok hc]
 intro b_n
 refine Tri.retV (of_spec t hf I _ hS (ht.mono (Imm.le_refl I) fun y hy=>.tail _ hy)) fun v I1 l1 ⟨w,hv,hw⟩=>⟨_,_,congrArg Ending.returned hv,F,.refl _,_,hw.neq (by kernel_rfl),fun hq=>?_,fun hq=>?_⟩
 ·have he:(typed s.p t.px).2.e≠0:=by simpa using hq
  have hof:=typed_of s.p t.px he
  rw[if_pos he]
  have e:(⟨(typed s.p t.px).2.e,(typed s.p t.px).2.pos,true⟩:TF)=(typed s.p t.px).2:=by rw[←hof]
  refine Tri.retV (refused_of (hg.mono l1) 0 (typed s.p t.px).2.pos (typed s.p t.px).2.e he (hw.2 he) _) fun v2 I2 l2 hv2=>⟨v2,rfl,F,.refl _,v2,rfl, ?_,rfl⟩
  rw[e] at hv2;exact hv2
 ·have he:(typed s.p t.px).2.e=0:=by simpa using hq
  rw[if_neg (fun h=>h he)]
  refine⟨fun hn=>?_,fun hn=>?_⟩
  ·have hn:(typed s.p t.px).1≠want:=by simpa using hn
   rw[if_pos hn,Nd.px_pos]
   exact Tri.retV (refused_no (hg.mono l1) t.pos 152 (by decide) _) fun v2 I2 l2 hv2=>⟨v2,rfl,F,.refl _,v2,rfl,hv2,rfl⟩
  ·have hn:(typed s.p t.px).1=want:=by simpa using hn
   rw[if_neg (fun h=>h hn)]
   exact⟨_,rfl,ChkE.ok,rfl⟩
theorem firstT_hit{α:Type}{f:α→TF}:∀{l:List α} {i:Nat} {x:α},(∀y∈l.take i,(f y).e=0)→l[i]? = some x→(f x).e≠0→firstT f l=f x
 | y::r,0,x,_,hx,he=>by
   simp only[List.getElem?_cons_zero,Option.some.injEq] at hx
   subst hx;rw[firstT,if_pos he]
 | y::r,i+1,x,h,hx,he=>by
   rw[List.take_succ_cons] at h
   rw[firstT,if_neg (by simpa using h y (.head _))]
   exact firstT_hit (fun k hk=>h k (.tail _ hk)) (by simpa using hx) he
theorem firstT_all{α:Type}{f:α→TF}:∀{l:List α},(∀y∈l,(f y).e=0)→firstT f l=zTF
 | [],_=>rfl
 | y::r,h=>by rw[firstT,if_neg (by simpa using h y (.head _))];exact firstT_all fun k hk=>h k (.tail _ hk)
theorem firstT_map{α β:Type}{f:β→TF}{g:α→β}:∀l:List α,firstT f (l.map g)=firstT (fun x=>f (g x)) l
 | []=>rfl
 | x::r=>by rw[List.map_cons,firstT,firstT,firstT_map r]
def ptE(p:Nd×Int):List Value:=[.int .u8 p.1.kind,.int .u8 p.1.oper,.int .u8 p.1.typ,.int .i64 p.1.n,.int .u8 p.1.field,.string p.1.name,.slice p.1.a p.1.kids.length p.1.c,.int .i64 p.1.pos,.int .u8 p.2]
theorem ptE_one(p:Nd×Int):∀u∈ptE p,u.oneCell'=true:=by
 intro u hu
 simp only[ptE,List.mem_cons,List.not_mem_nil,or_false] at hu
 rcases hu with h | h | h | h | h | h | h | h | h<;>(subst h;rfl)
theorem pt_app{a:Option Addr}{n c b1 m:Nat}{l:List (Nd×Int)}{A F R:Heap}{I:Imm}(hA:Acc 9 ptE 178 a n c l A)(hl:l.length≤100)(xs:List (Nd×Int))(hx:xs≠[])(hx2:xs.length≤2)(hm:m=xs.length)
  (hb:I b1=some (.cells (xs.flatMap ptE).toArray 178 (0,0))) (hF:F.Perm (A++R)) :
  TriE P (Builtin.append_ #[176,176] 176 #[.slice a n c,.slice (some ⟨b1,0,none⟩) m m]) I F fun v I' G=>∃a' n' c' A',v=.slice a' n' c'∧Acc 9 ptE 178 a' n' c' (l++xs) A'∧G.Perm (A'++R):=by
 refine TriE.perm (TriE.mono (append_spec' (f:=ptE) (z:=9) (zv:=.agg (ptE (zNd,0)).toArray) (fun _=>rfl) (by':=80) (by kernel_rfl) (by kernel_rfl) rfl (by decide) hA (xs:=xs) (fun y _=>ptE_one y) hx hm ?_ ?_ (F:=R)) fun v I' G _ ⟨a',n',c',A',h1,h2,h3,_⟩=>⟨a',n',c',A',h1,h2,by rw[h3]⟩) hF
 ·exact⟨rfl,_,_,_,.inl hb,fun j hj=>by simp⟩
 ·have:(l.length+xs.length)*80≤102*80:=Nat.mul_le_mul (by omega) (Nat.le_refl _)
  omega
def dparts(d:DoN)(v:Int):List (Nd×Int) :=
 if d.kind=1 then [(d.side,6),(d.qty,2)]++(if d.order≠2 then [(d.price,3)] else []) else if d.kind=2 then [(d.qty,2),(d.price,3)] else if d.kind=4 then [(d.value,v)] else []
theorem dparts_len(d:DoN)(v:Int):(dparts d v).length≤3:=by
 unfold dparts
 split
 ·split<;>simp
 ·split
  ·simp
  ·split<;>simp
theorem doL_parts(s:StgP)(d:DoN):doL s d.p=(dparts d (s.regT (doI s d.p))).map fun p=>mustT s p.1.px p.2:=by
 unfold doL dparts
 show (if d.kind=1 then _ else _)++((if d.kind=1∨d.kind=2 then _ else _)++((if d.kind=1∧d.order≠2∨d.kind=2 then _ else _)++(if d.kind=4 then _ else _)))=_
 by_cases h1:d.kind=1
 ·rw[if_pos h1,if_pos (.inl h1),if_neg (show ¬d.kind=4 by omega),if_pos h1]
  by_cases ho:d.order≠2
  ·rw[if_pos (.inl ⟨h1,ho⟩),if_pos ho];rfl
  ·rw[if_neg (by omega),if_neg ho];rfl
 ·rw[if_neg h1,if_neg h1]
  by_cases h2:d.kind=2
  ·rw[if_pos (.inr h2),if_pos (.inr h2),if_neg (by omega),if_pos h2];rfl
  ·rw[if_neg (by omega),if_neg (by omega),if_neg h2]
   by_cases h4:d.kind=4
   ·rw[if_pos h4,if_pos h4];rfl
   ·rw[if_neg h4,if_neg h4];rfl
def ScA(I:Imm)(c:Nat)(s:StgN):Prop:=∃m1 m2 o1 o2,Scp I c s.p m1 m2∧I m1=some o1∧Cnt (slotL s) s.slots.length o1∧I m2=some o2∧Cnt (roomL s) s.states.length o2
theorem ScA.mono{I J:Imm}{c:Nat}{s:StgN}(h:ScA I c s)(hl:Imm.le I J):ScA J c s:=let ⟨m1,m2,o1,o2,h1,h2,h3,h4,h5⟩:=h;⟨m1,m2,o1,o2,h1.mono hl,hl.at h2,h3,hl.at h4,h5⟩
theorem cnt_has{l:List ByteArray}{k:Nat}{o:Obj}{m:Nat}{I:Imm}{G:Heap}(hc:Cnt l k o)(hm:I m=some o)(nm:ByteArray):TriE P (Instr.lookup 124 (.map (some m)) (.string nm) false) I G fun v I' G'=>∃r:Int,v=.int .i64 r∧I'=I∧G'=G∧decide (r>0)=hasS l nm:=by
 obtain⟨es,ck,g,rfl,hg,hmet⟩:=hc
 refine TriE.mono (lookup_one mapS strD str_key str_inj zeroS hg (.inl hm) nm) fun v I1 G1 hl1 ⟨hv,hI,hG⟩=>⟨(g nm).getD 0, ?_,hI,hG, ?_⟩
 ·rw[hv];cases g nm<;>rfl
 ·cases hs:hasS l nm with
  | true=>obtain⟨x,h1,h2,_⟩:=(hmet nm).1 hs;rw[h1];exact decide_eq_true (by show x>0;omega)
  | false=>rw[(hmet nm).2 hs];rfl
end Go.Lx
namespace Go.Lx
open Go.Vc
def DoN.Fit(d:DoN):Prop:=∀v,∀p∈dparts d v,p.1.px.checkE=0
theorem check_parts{d:DoN}(h:d.p.check=0):d.Fit:=by
 unfold DoP.check at h
 obtain⟨_,h⟩:=thenE_z h
 obtain⟨_,h⟩:=thenE_z h
 obtain⟨_,h⟩:=thenE_z h
 obtain⟨h1,h⟩:=thenE_z h
 obtain⟨h2,h⟩:=thenE_z h
 obtain⟨h3,h4⟩:=thenE_z h
 have e1:d.p.kind=d.kind:=rfl
 have e2:d.p.order=d.order:=rfl
 rw[e1] at h1 h2 h3 h4
 rw[e2] at h3
 have part:∀{b:Bool} {x:Px},partE b x=0→b=true→x.checkE=0:=fun {b} {x} h hb=>by unfold partE at h;rw[if_pos hb] at h;exact h
 intro v p hp
 unfold dparts at hp
 split at hp
 ·rename_i k1
  rcases List.mem_append.1 hp with hp | hp
  ·simp only[List.mem_cons,List.not_mem_nil,or_false] at hp
   rcases hp with rfl | rfl
   ·exact part h1 (decide_eq_true k1)
   ·exact part h2 (decide_eq_true (.inl k1))
  ·split at hp
   ·rename_i ho
    rw[List.mem_singleton] at hp;subst hp
    exact part h3 (decide_eq_true (.inl ⟨k1,ho⟩))
   ·simp at hp
 ·split at hp
  ·rename_i k2
   simp only[List.mem_cons,List.not_mem_nil,or_false] at hp
   rcases hp with rfl | rfl
   ·exact part h2 (decide_eq_true (.inr k2))
   ·exact part h3 (decide_eq_true (.inr k2))
  ·split at hp
   ·rename_i k4
    rw[List.mem_singleton] at hp;subst hp
    exact part h4 (decide_eq_true k4)
   ·simp at hp
theorem dparts_ok{d:DoN}{I:Imm}{G:Heap}(h:d.Ok I G){v:Int}:∀p∈dparts d v,NdOk I G p.1:=by
 obtain⟨o1,o2,o3,o4⟩:=h
 intro p hp
 unfold dparts at hp
 split at hp
 ·rcases List.mem_append.1 hp with hp | hp
  ·simp only[List.mem_cons,List.not_mem_nil,or_false] at hp
   rcases hp with rfl | rfl<;>assumption
  ·split at hp
   ·rw[List.mem_singleton] at hp;subst hp;assumption
   ·simp at hp
 ·split at hp
  ·simp only[List.mem_cons,List.not_mem_nil,or_false] at hp
   rcases hp with rfl | rfl<;>assumption
  ·split at hp
   ·rw[List.mem_singleton] at hp;subst hp;assumption
   ·simp at hp
theorem two_enc{I:Imm}{b:Nat}{p q:Nd×Int}(h:I b=some (.cells (ptE p++ptE q).toArray 178 (0,0))):I b=some (.cells ([p,q].flatMap ptE).toArray 178 (0,0)):=by
 rw[h];simp
section
variable {s:StgN} {I:Imm} {F:Heap} {c:Nat}
theorem slot_has(nm:ByteArray):hasS (slotL s) nm = !decide (s.p.slot nm<0):=by
 have h:=ix_none nm (slotL s) 0 (Int.le_refl 0)
 have e:s.p.slot nm=ixF nm (slotL s) 0:=rfl
 rw[e]
 cases hb:hasS (slotL s) nm with
 | true=>rw[hb] at h;simp at h;simp[h]
 | false=>rw[hb] at h;simp at h;simp[h]
theorem room_has(nm:ByteArray):hasS (roomL s) nm = !decide (s.p.room nm<0):=by
 have h:=ix_none nm (roomL s) 0 (Int.le_refl 0)
 rw[roomL_ix]
 cases hb:hasS (roomL s) nm with
 | true=>rw[hb] at h;simp at h;simp[h]
 | false=>rw[hb] at h;simp at h;simp[h]
set_option maxHeartbeats 1000000 in
theorem pdo_spec(hg:Gl I)(hA:ScA I c s)(d:DoN)(hdo:d.Ok I F)(hfit:d.Fit):Tri P 66 #[.pointer (some ⟨c,0,none⟩),d.v] I F (RetV (FltE (doT s.p d.p)) F):=by
 refine Tri.still ?_
 obtain⟨i0,hi0⟩:∃i0,i0=doI s.p d.p:=⟨_,rfl⟩
 have hI:doI s.p d.p=if d.kind=1 then (if d.name.toList=[] then 0 else s.p.slot d.name) else if d.kind=2∨d.kind=3 then s.p.slot d.name else if d.kind=4 then s.p.reg d.name else if d.kind=5 then s.p.room d.name else 0:=rfl
 obtain⟨ps,hps⟩:∃ps,ps=dparts d (s.p.regT i0):=⟨_,rfl⟩
 have hpl:ps.length≤3:=by rw[hps];exact dparts_len _ _
 have hpd:dparts d (s.p.regT i0)=if d.kind=1 then [(d.side,6),(d.qty,2)]++(if d.order≠2 then [(d.price,3)] else []) else if d.kind=2 then [(d.qty,2),(d.price,3)] else if d.kind=4 then [(d.value,s.p.regT i0)] else []:=rfl
 have hdT:doT s.p d.p=if i0<0 then ⟨151,d.pos,false⟩ else firstT (fun p:Nd×Int=>mustT s.p p.1.px p.2) ps:=by
  unfold doT
  rw[doL_parts,←hi0,←hps,firstT_map];rfl
 refine types_scope_do.vc
  (fun v is a n k I0 F0 I' F'=>is = !decide (i0<0)∧∃A,F'.Perm (A++F)∧(is=true→Acc 9 ptE 178 a n k ps A))
  (fun a n k I0 F0 I' F'=>∃A,F'.Perm (A++F)∧Acc 9 ptE 178 a n k ps A)
  (fun a n k x i m I0 F0 I' F'=>0≤i∧i≤n∧m=(n-i).toNat∧¬i0<0∧∃A,F'.Perm (A++F)∧Acc 9 ptE 178 a n k ps A∧∀p∈ps.take i.toNat,(mustT s.p p.1.px p.2).e=0) ?_
 unfold types_scope_do.V
 intro b_d
 have hsc:∀{J:Imm},Imm.le I J→ScA J c s:=fun h=>hA.mono h
 refine⟨⟨fun h1=>?_,fun h1=>⟨fun h2=>?_,fun h2=>⟨fun h3=>?_,fun h3=>⟨fun h4=>?_,fun h4=>⟨fun h5=>?_,fun h5=>?_⟩⟩⟩⟩⟩,fun v is a n k I15 F11 l15 ⟨his,A,hF11,hAcc⟩=>⟨fun hq=>?_,fun hq=>?_⟩⟩
 ·have h1:d.kind=1:=by simpa using h1
  rw[if_pos h1] at hI hpd
  intro b I1 l1 hb
  have happ:=pt_app (R:=(b_d,Obj.cells #[.int .u8 d.kind,.int .u8 d.order,.string d.name,.int .u8 d.side.kind,.int .u8 d.side.oper,.int .u8 d.side.typ,.int .i64 d.side.n,.int .u8 d.side.field,.string d.side.name,.slice d.side.a d.side.kids.length d.side.c,.int .i64 d.side.pos,.int .u8 d.qty.kind,.int .u8 d.qty.oper,.int .u8 d.qty.typ,.int .i64 d.qty.n,.int .u8 d.qty.field,.string d.qty.name,.slice d.qty.a d.qty.kids.length d.qty.c,.int .i64 d.qty.pos,.int .u8 d.price.kind,.int .u8 d.price.oper,.int .u8 d.price.typ,.int .i64 d.price.n,.int .u8 d.price.field,.string d.price.name,.slice d.price.a d.price.kids.length d.price.c,.int .i64 d.price.pos,.int .u8 d.value.kind,.int .u8 d.value.oper,.int .u8 d.value.typ,.int .i64 d.value.n,.int .u8 d.value.field,.string d.value.name,.slice d.value.a d.value.kids.length d.value.c,.int .i64 d.value.pos,.int .i64 d.pos] 95 (0,0))::F) (A:=[]) (m:=2) Acc.nil (by simp) [(d.side,6),(d.qty,2)] (by simp) (by simp) rfl (two_enc hb) (.refl _)
  refine TriE.mono happ fun v I2 G l2 ⟨a',n',c',A',hv,hA',hG⟩=>⟨a',n',c',hv,A'++F,hG.trans List.perm_middle,⟨fun ho=>?_,fun ho=>?_⟩,fun pa pn pc I5 F3 l5 ⟨A3,hF3,hA3⟩=>⟨fun hn=>?_,fun hn=>?_⟩⟩
  ·have ho:d.order≠2:=by simpa using ho
   rw[if_pos ho] at hpd
   intro b1 I3 l3 hb1
   have happ:=pt_app (R:=(b_d,Obj.cells #[.int .u8 d.kind,.int .u8 d.order,.string d.name,.int .u8 d.side.kind,.int .u8 d.side.oper,.int .u8 d.side.typ,.int .i64 d.side.n,.int .u8 d.side.field,.string d.side.name,.slice d.side.a d.side.kids.length d.side.c,.int .i64 d.side.pos,.int .u8 d.qty.kind,.int .u8 d.qty.oper,.int .u8 d.qty.typ,.int .i64 d.qty.n,.int .u8 d.qty.field,.string d.qty.name,.slice d.qty.a d.qty.kids.length d.qty.c,.int .i64 d.qty.pos,.int .u8 d.price.kind,.int .u8 d.price.oper,.int .u8 d.price.typ,.int .i64 d.price.n,.int .u8 d.price.field,.string d.price.name,.slice d.price.a d.price.kids.length d.price.c,.int .i64 d.price.pos,.int .u8 d.value.kind,.int .u8 d.value.oper,.int .u8 d.value.typ,.int .i64 d.value.n,.int .u8 d.value.field,.string d.value.name,.slice d.value.a d.value.kids.length d.value.c,.int .i64 d.value.pos,.int .i64 d.pos] 95 (0,0))::F) (A:=A') hA' (by simp) [(d.price,3)] (by simp) (by simp) rfl hb1 List.perm_middle.symm
   refine TriE.mono happ fun v I4 G l4 ⟨a2,n2,c2,A2,hv,hA2,hG⟩=>⟨a2,n2,c2,hv,A2++F,hG.trans List.perm_middle,A2,.refl _, ?_⟩
   rw[hps,hpd];exact hA2
  ·have ho:d.order=2:=by simpa using ho
   rw[if_neg (by simpa using ho)] at hpd
   refine⟨A',.refl _, ?_⟩
   rw[hps,hpd];exact hA'
  ·have hn:d.name.toList=[]:=by simpa using hn
   rw[if_pos hn] at hI
   exact⟨by rw[hi0,hI];rfl,A3,hF3,fun _=>hA3⟩
  ·have hn:¬d.name.toList=[]:=by simpa using hn
   rw[if_neg hn] at hI
   obtain⟨m1,m2,o1,o2,hS,hm1,hc1,hm2,hc2⟩:=hsc (Imm.le_trans l1 (Imm.le_trans l2 l5))
   refine⟨_,rfl,some m1,(hS.rd _).1,(cnt_has hc1 hm1 d.name).mono fun v I6 G l6 ⟨r,hv,hI6,hG,hr⟩=>⟨r,hv,F3,by rw[hG], ?_,A3,hF3,fun _=>hA3⟩⟩
   rw[hr,slot_has,hi0,hI]
 ·have h1:d.kind≠1:=by simpa using h1
  have h2:d.kind=2:=by simpa using h2
  rw[if_neg h1,if_pos (.inl h2)] at hI
  rw[if_neg h1,if_pos h2] at hpd
  intro b I1 l1 hb
  have happ:=pt_app (R:=(b_d,Obj.cells #[.int .u8 d.kind,.int .u8 d.order,.string d.name,.int .u8 d.side.kind,.int .u8 d.side.oper,.int .u8 d.side.typ,.int .i64 d.side.n,.int .u8 d.side.field,.string d.side.name,.slice d.side.a d.side.kids.length d.side.c,.int .i64 d.side.pos,.int .u8 d.qty.kind,.int .u8 d.qty.oper,.int .u8 d.qty.typ,.int .i64 d.qty.n,.int .u8 d.qty.field,.string d.qty.name,.slice d.qty.a d.qty.kids.length d.qty.c,.int .i64 d.qty.pos,.int .u8 d.price.kind,.int .u8 d.price.oper,.int .u8 d.price.typ,.int .i64 d.price.n,.int .u8 d.price.field,.string d.price.name,.slice d.price.a d.price.kids.length d.price.c,.int .i64 d.price.pos,.int .u8 d.value.kind,.int .u8 d.value.oper,.int .u8 d.value.typ,.int .i64 d.value.n,.int .u8 d.value.field,.string d.value.name,.slice d.value.a d.value.kids.length d.value.c,.int .i64 d.value.pos,.int .i64 d.pos] 95 (0,0))::F) (A:=[]) (m:=2) Acc.nil (by simp) [(d.qty,2),(d.price,3)] (by simp) (by simp) rfl (two_enc hb) (.refl _)
  refine TriE.mono happ fun v I2 G l2 ⟨a',n',c',A',hv,hA',hG⟩=>⟨a',n',c',hv,A'++F,hG.trans List.perm_middle, ?_⟩
  obtain⟨m1,m2,o1,o2,hS,hm1,hc1,hm2,hc2⟩:=hsc (Imm.le_trans l1 l2)
  refine⟨_,rfl,some m1,(hS.rd _).1,(cnt_has hc1 hm1 d.name).mono fun v I6 G l6 ⟨r,hv,hI6,hG,hr⟩=>⟨r,hv,A'++F,by rw[hG], ?_,A',.refl _,fun _=>?_⟩⟩
  ·rw[hr,slot_has,hi0,hI]
  ·rw[hps,hpd];exact hA'
 ·have h1:d.kind≠1:=by simpa using h1
  have h2:d.kind≠2:=by simpa using h2
  have h3:d.kind=3:=by simpa using h3
  rw[if_neg h1,if_pos (.inr h3)] at hI
  rw[if_neg h1,if_neg h2,if_neg (by omega)] at hpd
  obtain⟨m1,m2,o1,o2,hS,hm1,hc1,hm2,hc2⟩:=hA
  refine⟨_,rfl,some m1,(hS.rd _).1,(cnt_has hc1 hm1 d.name).mono fun v I6 G l6 ⟨r,hv,hI6,hG,hr⟩=>⟨r,hv,F,by rw[hG], ?_,[],.refl _,fun _=>?_⟩⟩
  ·rw[hr,slot_has,hi0,hI]
  ·rw[hps,hpd];exact Acc.nil
 ·have h1:d.kind≠1:=by simpa using h1
  have h2:d.kind≠2:=by simpa using h2
  have h3:d.kind≠3:=by simpa using h3
  have h4:d.kind=4:=by simpa using h4
  rw[if_neg h1,if_neg (by omega),if_pos h4] at hI
  rw[if_neg h1,if_neg h2,if_pos h4] at hpd
  obtain⟨m1,m2,o1,o2,⟨m0,es,ck,hc,hm,hgm⟩,hm1,hc1,hm2,hc2⟩:=hA
  refine⟨_,rfl,some m0,Rd.of_imm hc _ 0 fun j hj=>?_, ?_⟩
  ·have:j=0:=by simpa using hj
   subst this;rfl
  refine TriE.mono (lookup_ok mapR strD str_key str_inj zeroR hgm (.inl hm) d.name) fun v I3 G l3 ⟨hv,hI3,hG⟩=>?_
  subst hI3 hG
  rw[firstG_reg] at hv
  by_cases hr:s.p.reg d.name<0
  ·rw[if_pos hr] at hv
   refine⟨0,false,hv,F,.refl _,fun b I4 l4 hb=>?_⟩
   have happ:=pt_app (R:=(b_d,Obj.cells #[.int .u8 d.kind,.int .u8 d.order,.string d.name,.int .u8 d.side.kind,.int .u8 d.side.oper,.int .u8 d.side.typ,.int .i64 d.side.n,.int .u8 d.side.field,.string d.side.name,.slice d.side.a d.side.kids.length d.side.c,.int .i64 d.side.pos,.int .u8 d.qty.kind,.int .u8 d.qty.oper,.int .u8 d.qty.typ,.int .i64 d.qty.n,.int .u8 d.qty.field,.string d.qty.name,.slice d.qty.a d.qty.kids.length d.qty.c,.int .i64 d.qty.pos,.int .u8 d.price.kind,.int .u8 d.price.oper,.int .u8 d.price.typ,.int .i64 d.price.n,.int .u8 d.price.field,.string d.price.name,.slice d.price.a d.price.kids.length d.price.c,.int .i64 d.price.pos,.int .u8 d.value.kind,.int .u8 d.value.oper,.int .u8 d.value.typ,.int .i64 d.value.n,.int .u8 d.value.field,.string d.value.name,.slice d.value.a d.value.kids.length d.value.c,.int .i64 d.value.pos,.int .i64 d.pos] 95 (0,0))::F) (A:=[]) Acc.nil (by simp) [(d.value,0)] (by simp) (by simp) rfl hb (.refl _)
   refine TriE.mono happ fun v I2 G l2 ⟨a',n',c',A',hv,hA',hG⟩=>⟨a',n',c',hv,A'++F,hG.trans List.perm_middle, ?_,A',.refl _,fun h=>(by cases h)⟩
   rw[hi0,hI,decide_eq_true hr];rfl
  ·rw[if_neg hr] at hv
   refine⟨s.p.regT (s.p.reg d.name),true,hv,F,.refl _,fun b I4 l4 hb=>?_⟩
   have happ:=pt_app (R:=(b_d,Obj.cells #[.int .u8 d.kind,.int .u8 d.order,.string d.name,.int .u8 d.side.kind,.int .u8 d.side.oper,.int .u8 d.side.typ,.int .i64 d.side.n,.int .u8 d.side.field,.string d.side.name,.slice d.side.a d.side.kids.length d.side.c,.int .i64 d.side.pos,.int .u8 d.qty.kind,.int .u8 d.qty.oper,.int .u8 d.qty.typ,.int .i64 d.qty.n,.int .u8 d.qty.field,.string d.qty.name,.slice d.qty.a d.qty.kids.length d.qty.c,.int .i64 d.qty.pos,.int .u8 d.price.kind,.int .u8 d.price.oper,.int .u8 d.price.typ,.int .i64 d.price.n,.int .u8 d.price.field,.string d.price.name,.slice d.price.a d.price.kids.length d.price.c,.int .i64 d.price.pos,.int .u8 d.value.kind,.int .u8 d.value.oper,.int .u8 d.value.typ,.int .i64 d.value.n,.int .u8 d.value.field,.string d.value.name,.slice d.value.a d.value.kids.length d.value.c,.int .i64 d.value.pos,.int .i64 d.pos] 95 (0,0))::F) (A:=[]) Acc.nil (by simp) [(d.value,s.p.regT (s.p.reg d.name))] (by simp) (by simp) rfl hb (.refl _)
   refine TriE.mono happ fun v I2 G l2 ⟨a',n',c',A',hv,hA',hG⟩=>⟨a',n',c',hv,A'++F,hG.trans List.perm_middle, ?_,A',.refl _,fun _=>?_⟩
   ·rw[hi0,hI,decide_eq_false hr];rfl
   ·rw[hps,hpd,hi0,hI];exact hA'
 ·have h1:d.kind≠1:=by simpa using h1
  have h2:d.kind≠2:=by simpa using h2
  have h3:d.kind≠3:=by simpa using h3
  have h4:d.kind≠4:=by simpa using h4
  have h5:d.kind=5:=by simpa using h5
  rw[if_neg h1,if_neg (by omega),if_neg h4,if_pos h5] at hI
  rw[if_neg h1,if_neg h2,if_neg h4] at hpd
  obtain⟨m1,m2,o1,o2,hS,hm1,hc1,hm2,hc2⟩:=hA
  refine⟨_,rfl,some m2,(hS.rd _).2,(cnt_has hc2 hm2 d.name).mono fun v I6 G l6 ⟨r,hv,hI6,hG,hr⟩=>⟨r,hv,F,by rw[hG], ?_,[],.refl _,fun _=>?_⟩⟩
  ·rw[hr,room_has,hi0,hI]
  ·rw[hps,hpd];exact Acc.nil
 ·have h1:d.kind≠1:=by simpa using h1
  have h2:d.kind≠2:=by simpa using h2
  have h3:d.kind≠3:=by simpa using h3
  have h4:d.kind≠4:=by simpa using h4
  have h5:d.kind≠5:=by simpa using h5
  rw[if_neg h1,if_neg (by omega),if_neg h4,if_neg h5] at hI
  rw[if_neg h1,if_neg h2,if_neg h4] at hpd
  refine⟨by rw[hi0,hI];rfl,[],.refl _,fun _=>?_⟩
  rw[hps,hpd];exact Acc.nil
 ·have hneg:i0<0:=by rw[his] at hq;simpa using hq
  rw[if_pos hneg] at hdT
  refine Tri.retV (refused_no (hg.mono l15) d.pos 151 (by decide) _) fun v2 I2 l2 hv2=>⟨v2,rfl,F11,.refl _,v2,A,rfl,hF11,fun J hJ hx=>?_⟩
  rw[hdT];exact ChkE.mono hv2 hJ
 ·have hq:is=true:=by simpa using hq
  have hneg:¬i0<0:=by rw[his] at hq;simpa using hq
  rw[if_neg hneg] at hdT
  have hAcc:=hAcc hq
  have hn:=hAcc.1
  refine⟨⟨_,by omega,by omega,rfl,hneg,A,hF11,hAcc,fun p hp=>by simp at hp⟩,fun x i m I17 F13 l17 ⟨g0,g1,gm,_,A2,hF13,hA2,hall⟩=>⟨fun hlt=>?_,fun hlt=>?_⟩⟩
  ·have hlt:=of_decide_eq_true hlt
   have l:=Imm.le_trans l15 l17
   have hS2:=hA2.slg (z:=9) (f:=ptE) (fun _=>rfl) I17 (G:=(b_d,Obj.cells #[.int .u8 d.kind,.int .u8 d.order,.string d.name,.int .u8 d.side.kind,.int .u8 d.side.oper,.int .u8 d.side.typ,.int .i64 d.side.n,.int .u8 d.side.field,.string d.side.name,.slice d.side.a d.side.kids.length d.side.c,.int .i64 d.side.pos,.int .u8 d.qty.kind,.int .u8 d.qty.oper,.int .u8 d.qty.typ,.int .i64 d.qty.n,.int .u8 d.qty.field,.string d.qty.name,.slice d.qty.a d.qty.kids.length d.qty.c,.int .i64 d.qty.pos,.int .u8 d.price.kind,.int .u8 d.price.oper,.int .u8 d.price.typ,.int .i64 d.price.n,.int .u8 d.price.field,.string d.price.name,.slice d.price.a d.price.kids.length d.price.c,.int .i64 d.price.pos,.int .u8 d.value.kind,.int .u8 d.value.oper,.int .u8 d.value.typ,.int .i64 d.value.n,.int .u8 d.value.field,.string d.value.name,.slice d.value.a d.value.kids.length d.value.c,.int .i64 d.value.pos,.int .i64 d.pos] 95 (0,0))::F13) fun y hy=>.tail _ (hF13.mem_iff.2 (List.mem_append_left _ hy))
   obtain⟨ad,p,had,hp,hrd,hpm⟩:=SlG.atm hS2 g0 hlt
   refine⟨⟨g0,hlt⟩,ad,had,_,_,_,_,_,_,_,_,_,_,_,hrd,fun b_p=>?_⟩
   have hpm':p∈dparts d (s.p.regT i0):=hps▸hpm
   obtain⟨m1,m2,o1,o2,hS,hm1,hc1,hm2,hc2⟩:=hsc l
   refine Tri.retV (pmust_spec p.1 (hfit _ p hpm') p.2 (hg.mono l) hS ((dparts_ok hdo p hpm').mono l fun y hy=>.tail _ (.tail _ (hF13.mem_iff.2 (List.mem_append_right _ hy))))) fun v2 I2 l2 hv2=>⟨v2,rfl,F13,.refl _,_,ChkE.neq hv2 (by kernel_rfl),fun he=>?_,fun he=>⟨(n-(i+1)).toNat,by omega, ?_⟩⟩
   ·have he:(mustT s.p p.1.px p.2).e≠0:=by simpa using he
    refine⟨v2,A2,rfl,hF13,fun J hJ hx=>?_⟩
    rw[hdT,firstT_hit (f:=fun p:Nd×Int=>mustT s.p p.1.px p.2) hall hp he]
    exact ChkE.mono hv2 hJ
   ·have he:(mustT s.p p.1.px p.2).e=0:=by simpa using he
    rw[w64 (n:=i+1) (by omega)]
    refine⟨by omega,by omega,rfl,hneg,A2,hF13,hA2, ?_⟩
    rw[show (i+1).toNat=i.toNat+1 by omega]
    exact take_all hp hall he
  ·have hlt:=of_decide_eq_false hlt
   refine⟨_,A2,rfl,hF13,fun J hJ hx=>?_⟩
   rw[List.take_of_length_le (by omega)] at hall
   rw[hdT,firstT_all hall]
   exact ChkE.ok
end
end Go.Lx
namespace Go.Lx
open Go.Vc
def RuleN.Fit(r:RuleN):Prop:=r.when.px.checkE=0∧∀d∈r.dos,d.Fit∧d.kind≤6
theorem check_rule{r:RuleN}(h:r.p.check=0):r.Fit:=by
 unfold RuleP.check at h
 obtain⟨h1,h⟩:=thenE_z h
 obtain⟨_,h⟩:=thenE_z h
 obtain⟨_,h⟩:=thenE_z h
 refine⟨h1,fun d hd=>?_⟩
 have hd:=firstE_z h d.p (List.mem_map_of_mem hd)
 refine⟨check_parts hd, ?_⟩
 unfold DoP.check at hd
 have h1:=errB_z (by decide) (thenE_z hd).1
 have:=of_decide_eq_true h1
 exact this.2
theorem check_rules{s:StgN}(h:s.p.check=0):∀x∈s.states,∀r∈x.rules,r.Fit:=by
 unfold StgP.check at h
 obtain⟨_,h⟩:=thenE_z h
 obtain⟨_,h⟩:=thenE_z h
 obtain⟨_,h⟩:=thenE_z h
 obtain⟨_,h⟩:=thenE_z h
 obtain⟨_,h⟩:=thenE_z h
 obtain⟨_,h⟩:=thenE_z h
 obtain⟨_,h⟩:=thenE_z h
 intro x hx r hr
 have h1:=firstE_z h x.p (List.mem_map_of_mem hx)
 unfold StateP.check at h1
 obtain⟨_,h1⟩:=thenE_z h1
 obtain⟨_,h1⟩:=thenE_z h1
 exact check_rule (firstE_z h1 r.p (List.mem_map_of_mem hr))
def lastB(l:List DoN)(i:Int):Bool:=decide (0<i)&&(match l[i.toNat-1]? with
 | some d=>decide (d.kind=5∨d.kind=6)
 | none=>false)
section
variable {s:StgN} {I:Imm} {F:Heap} {c:Nat}
set_option maxHeartbeats 1000000 in
theorem prule_spec(hg:Gl I)(hA:ScA I c s)(r:RuleN)(hro:r.Ok I F)(hfit:r.Fit)(hlen:r.dos.length≤1048576):Tri P 35 #[.pointer (some ⟨c,0,none⟩),r.v] I F (RetV (FltE (ruleT s.p r.p)) F):=by
 obtain⟨hw,hds⟩:=hfit
 have hrt:ruleT s.p r.p=thenT (mustT s.p r.when.px 5) (dosT s.p (r.dos.map DoN.p) false):=rfl
 refine types_scope_rule.vc (fun x i m I' F'=>F'=F∧0≤i∧i≤r.dos.length∧m=(r.dos.length-i).toNat∧ruleT s.p r.p=dosT s.p ((r.dos.drop i.toNat).map DoN.p) (lastB r.dos i)) ?_
 unfold types_scope_rule.V
 intro b_r
 have hS:∃m1 m2,Scp I c s.p m1 m2:=let ⟨m1,m2,_,_,h,_⟩:=hA;⟨m1,m2,h⟩
 obtain⟨m1,m2,hS⟩:=hS
 refine Tri.retV (pmust_spec r.when hw 5 hg hS (hro.1.mono (Imm.le_refl I) fun y hy=>.tail _ hy)) fun v I1 l1 hv=>⟨v,rfl,F,.refl _,_,ChkE.neq hv (by kernel_rfl),fun he=>?_,fun he=>?_⟩
 ·have he:(mustT s.p r.when.px 5).e≠0:=by simpa using he
  rw[hrt,thenT_e _ he]
  exact⟨v,rfl,hv,rfl⟩
 have he:(mustT s.p r.when.px 5).e=0:=by simpa using he
 rw[thenT_z _ he] at hrt
 refine⟨⟨_,rfl,by omega,by omega,rfl,hrt⟩,fun x i m I2 F2 l2 ⟨gF,g0,g1,gm,ge⟩=>⟨fun hlt=>?_,fun hlt=>?_⟩⟩
 ·subst gF
  have hlt:=of_decide_eq_true hlt
  have l:=Imm.le_trans l1 l2
  have hr2:∀x:Nat×Obj,RuleN.Ok I2 (x::F2) r:=fun x=>hro.mono l fun y hy=>.tail _ hy
  obtain⟨ad,d,had,hd,hrd,hdm⟩:=SlG.atm (hr2 (b_r,Obj.cells #[.int .u8 r.when.kind,.int .u8 r.when.oper,.int .u8 r.when.typ,.int .i64 r.when.n,.int .u8 r.when.field,.string r.when.name,.slice r.when.a r.when.kids.length r.when.c,.int .i64 r.when.pos,.slice r.a r.dos.length r.c,.int .i64 r.pos] 87 (0,0))).2.1 g0 hlt
  obtain⟨hk,hdk⟩:=List.getElem?_eq_some_iff.1 hd
  obtain⟨hdf,hd6⟩:=hds d hdm
  rw[List.drop_eq_getElem_cons hk,hdk,List.map_cons,dosT] at ge
  have step:∀b_d:Nat,lastB r.dos i=false→Tri P 66 #[.pointer (some ⟨c,0,none⟩),d.v] I2 ((b_r,Obj.cells #[.int .u8 r.when.kind,.int .u8 r.when.oper,.int .u8 r.when.typ,.int .i64 r.when.n,.int .u8 r.when.field,.string r.when.name,.slice r.when.a r.when.kids.length r.when.c,.int .i64 r.when.pos,.slice r.a r.dos.length r.c,.int .i64 r.pos] 87 (0,0))::(b_d,Obj.cells #[.int .u8 d.kind,.int .u8 d.order,.string d.name,.int .u8 d.side.kind,.int .u8 d.side.oper,.int .u8 d.side.typ,.int .i64 d.side.n,.int .u8 d.side.field,.string d.side.name,.slice d.side.a d.side.kids.length d.side.c,.int .i64 d.side.pos,.int .u8 d.qty.kind,.int .u8 d.qty.oper,.int .u8 d.qty.typ,.int .i64 d.qty.n,.int .u8 d.qty.field,.string d.qty.name,.slice d.qty.a d.qty.kids.length d.qty.c,.int .i64 d.qty.pos,.int .u8 d.price.kind,.int .u8 d.price.oper,.int .u8 d.price.typ,.int .i64 d.price.n,.int .u8 d.price.field,.string d.price.name,.slice d.price.a d.price.kids.length d.price.c,.int .i64 d.price.pos,.int .u8 d.value.kind,.int .u8 d.value.oper,.int .u8 d.value.typ,.int .i64 d.value.n,.int .u8 d.value.field,.string d.value.name,.slice d.value.a d.value.kids.length d.value.c,.int .i64 d.value.pos,.int .i64 d.pos] 95 (0,0))::F2) (RetV (FltE (doT s.p d.p)) ((b_r,Obj.cells #[.int .u8 r.when.kind,.int .u8 r.when.oper,.int .u8 r.when.typ,.int .i64 r.when.n,.int .u8 r.when.field,.string r.when.name,.slice r.when.a r.when.kids.length r.when.c,.int .i64 r.when.pos,.slice r.a r.dos.length r.c,.int .i64 r.pos] 87 (0,0))::(b_d,Obj.cells #[.int .u8 d.kind,.int .u8 d.order,.string d.name,.int .u8 d.side.kind,.int .u8 d.side.oper,.int .u8 d.side.typ,.int .i64 d.side.n,.int .u8 d.side.field,.string d.side.name,.slice d.side.a d.side.kids.length d.side.c,.int .i64 d.side.pos,.int .u8 d.qty.kind,.int .u8 d.qty.oper,.int .u8 d.qty.typ,.int .i64 d.qty.n,.int .u8 d.qty.field,.string d.qty.name,.slice d.qty.a d.qty.kids.length d.qty.c,.int .i64 d.qty.pos,.int .u8 d.price.kind,.int .u8 d.price.oper,.int .u8 d.price.typ,.int .i64 d.price.n,.int .u8 d.price.field,.string d.price.name,.slice d.price.a d.price.kids.length d.price.c,.int .i64 d.price.pos,.int .u8 d.value.kind,.int .u8 d.value.oper,.int .u8 d.value.typ,.int .i64 d.value.n,.int .u8 d.value.field,.string d.value.name,.slice d.value.a d.value.kids.length d.value.c,.int .i64 d.value.pos,.int .i64 d.pos] 95 (0,0))::F2)):=fun b_d _ =>
   pdo_spec (hg.mono l) (hA.mono l) d ((hro.2.2 d hdm).mono l fun y hy=>.tail _ (.tail _ hy)) hdf
  have next:lastB r.dos i=false→(doT s.p d.p).e=0→ruleT s.p r.p=dosT s.p ((r.dos.drop (i+1).toNat).map DoN.p) (lastB r.dos (i+1)):=fun hb h0=>by
   rw[ge,hb,if_neg (by simp),if_neg (by simpa using h0),show (i+1).toNat=i.toNat+1 by omega]
   have:lastB r.dos (i+1)=decide (d.p.kind=5∨d.p.kind=6):=by
    unfold lastB
    rw[show (i+1).toNat-1=i.toNat by omega,hd,decide_eq_true (show 0<i+1 by omega)]
    rfl
   rw[this]
  refine⟨⟨g0,hlt⟩,ad,had,_,_,_,_,_,_,_,_,_,_,_,_,_,_,_,_,_,_,_,_,_,_,_,_,_,_,_,_,_,_,_,_,_,_,_,_,_,_,_,_,_,_,_,_,hrd,fun b_d=>⟨fun hp=>?_,fun hp=>?_⟩⟩
  ·have hp:=of_decide_eq_true hp
   have hw1:IntKind.wrap .i64 (i-1)=i-1:=w64 (by omega)
   rw[hw1]
   obtain⟨ad1,d1,had1,hd1,hrd1,hdm1⟩:=SlG.atm ((hr2 (b_d,Obj.cells #[.int .u8 d.kind,.int .u8 d.order,.string d.name,.int .u8 d.side.kind,.int .u8 d.side.oper,.int .u8 d.side.typ,.int .i64 d.side.n,.int .u8 d.side.field,.string d.side.name,.slice d.side.a d.side.kids.length d.side.c,.int .i64 d.side.pos,.int .u8 d.qty.kind,.int .u8 d.qty.oper,.int .u8 d.qty.typ,.int .i64 d.qty.n,.int .u8 d.qty.field,.string d.qty.name,.slice d.qty.a d.qty.kids.length d.qty.c,.int .i64 d.qty.pos,.int .u8 d.price.kind,.int .u8 d.price.oper,.int .u8 d.price.typ,.int .i64 d.price.n,.int .u8 d.price.field,.string d.price.name,.slice d.price.a d.price.kids.length d.price.c,.int .i64 d.price.pos,.int .u8 d.value.kind,.int .u8 d.value.oper,.int .u8 d.value.typ,.int .i64 d.value.n,.int .u8 d.value.field,.string d.value.name,.slice d.value.a d.value.kids.length d.value.c,.int .i64 d.value.pos,.int .i64 d.pos] 95 (0,0))).cons (x:=(b_r,Obj.cells #[.int .u8 r.when.kind,.int .u8 r.when.oper,.int .u8 r.when.typ,.int .i64 r.when.n,.int .u8 r.when.field,.string r.when.name,.slice r.when.a r.when.kids.length r.when.c,.int .i64 r.when.pos,.slice r.a r.dos.length r.c,.int .i64 r.pos] 87 (0,0)))).2.1 (i:=i-1) (by omega) (by omega)
   have hlb:lastB r.dos i=decide (d1.kind=5∨d1.kind=6):=by
    unfold lastB
    rw[show i.toNat-1=(i-1).toNat by omega,hd1,decide_eq_true hp]
    rfl
   have h16:=(hds d1 hdm1).2
   refine⟨⟨by omega,by omega⟩,ad1,had1,d1.kind,hrd1.field (o:=0) rfl,fun h5=>?_,fun h5=>?_⟩
   ·have h5:=of_decide_eq_true h5
    have hb:lastB r.dos i=true:=by rw[hlb];exact decide_eq_true (by omega)
    rw[hb,if_pos rfl] at ge
    exact Tri.retV (refused_no (hg.mono l) d.pos 153 (by decide) _) fun v2 I3 l3 hv2=>⟨v2,rfl,F2,.refl _,v2,rfl,by rw[ge];exact hv2,rfl⟩
   ·have h5:=of_decide_eq_false h5
    have hb:lastB r.dos i=false:=by rw[hlb];exact decide_eq_false (by omega)
    refine Tri.retV (step b_d hb) fun v2 I3 l3 hv2=>⟨v2,rfl,F2,.refl _,_,ChkE.neq hv2 (by kernel_rfl),fun hq=>?_,fun hq=>⟨(r.dos.length-(i+1)).toNat,by omega, ?_⟩⟩
    ·have hq:(doT s.p d.p).e≠0:=by simpa using hq
     rw[ge,hb,if_neg (by simp),if_pos hq]
     exact⟨v2,rfl,hv2,rfl⟩
    ·have hq:(doT s.p d.p).e=0:=by simpa using hq
     rw[w64 (n:=i+1) (by omega)]
     exact⟨rfl,by omega,by omega,rfl,next hb hq⟩
  ·have hp:=of_decide_eq_false hp
   have hb:lastB r.dos i=false:=by unfold lastB;rw[decide_eq_false (by omega)];rfl
   refine Tri.retV (step b_d hb) fun v2 I3 l3 hv2=>⟨v2,rfl,F2,.refl _,_,ChkE.neq hv2 (by kernel_rfl),fun hq=>?_,fun hq=>⟨(r.dos.length-(i+1)).toNat,by omega, ?_⟩⟩
   ·have hq:(doT s.p d.p).e≠0:=by simpa using hq
    rw[ge,hb,if_neg (by simp),if_pos hq]
    exact⟨v2,rfl,hv2,rfl⟩
   ·have hq:(doT s.p d.p).e=0:=by simpa using hq
    rw[w64 (n:=i+1) (by omega)]
    exact⟨rfl,by omega,by omega,rfl,next hb hq⟩
 ·subst gF
  have hlt:=of_decide_eq_false hlt
  rw[List.drop_eq_nil_of_le (by omega),List.map_nil,dosT] at ge
  rw[ge];exact⟨_,rfl,ChkE.ok,rfl⟩
theorem declared2_spec(hl:s.p.Thin)(hok:s.Ok I F)(hg:Gl I)(hf:∀r∈s.regs,r.init.px.formed=true){m1 m2:Nat}(hS:Scp I c s.p m1 m2) :
  Tri P 34 #[.pointer (some ⟨c,0,none⟩),s.v] I ((m1,.map #[] 0)::(m2,.map #[] 0)::F) (RetV (fun v J=>FltE s.p.named v J∧(s.p.named.e=0→ScA J c s)) F) :=
 Tri.keep (declared_spec hl hok hg hf hS) fun e I' G w l hs ⟨v,he,hv,o1,o2,hG,hk⟩=>by
  subst hG
  obtain⟨J,g1,g2,g3⟩:=Sat.still [(m1,o1),(m2,o2)] hs
  exact⟨J,F,g1,g3,v,he,⟨hv.mono g1,fun h0=>⟨m1,m2,o1,o2,hS.mono (Imm.le_trans l g1),g2 _ (.head _),(hk h0).1,g2 _ (.tail _ (.head _)),(hk h0).2⟩⟩,rfl⟩
end
end Go.Lx
namespace Go.Lx
open Go.Vc
set_option maxHeartbeats 1000000 in
theorem pCheck_specT(s:StgN)(hl:s.p.Thin){I:Imm}{F:Heap}(hok:s.Ok I F)(hg:Gl I):Tri P 13 #[s.v] I F (RetV (FltE s.p.types) F):=by
 have lr:=hl.regs
 have lt:=hl.states
 simp only[StgN.p,List.length_map] at lr lt
 have hdef:s.p.types=if s.p.check≠0 then ⟨s.p.check,0,false⟩ else thenT s.p.named (firstT (fun x=>firstT (ruleT s.p) x.rules) (s.states.map StateN.p)):=rfl
 refine types_Check.vc
  (fun cA x i m I0 F0 I' F'=>F'=F∧0≤i∧i≤s.states.length∧m=(s.states.length-i).toNat∧(∃c,cA=some (⟨c,0,none⟩:Addr)∧ScA I' c s)∧(∀x∈s.states,∀r∈x.rules,r.Fit)∧s.p.types=firstT (fun x=>firstT (ruleT s.p) x.rules) ((s.states.drop i.toNat).map StateN.p))
  (fun cA i x k m I0 F0 I' F'=>F'=F∧∃y,s.states[i.toNat]? = some y∧0≤k∧k≤y.rules.length∧m=(y.rules.length-k).toNat∧(∃c,cA=some (⟨c,0,none⟩:Addr)∧ScA I' c s)∧(∀x∈s.states,∀r∈x.rules,r.Fit) ∧
    s.p.types=thenT (firstT (ruleT s.p) ((y.rules.drop k.toNat).map RuleN.p)) (firstT (fun x=>firstT (ruleT s.p) x.rules) ((s.states.drop (i.toNat+1)).map StateN.p))) ?_
 unfold types_Check.V
 intro b_s
 have ok1:∀{J:Imm} {x:Nat×Obj},Imm.le I J→s.Ok J (x::F):=fun hJ=>hok.mono hJ fun y hy=>.tail _ hy
 refine Tri.ret (Check_spec s hl.small hl.lens I _ (ok1 (Imm.le_refl I))) fun I1 l1=>⟨_,rfl,F,.refl _,fun hc=>?_,fun hc=>?_⟩
 ·have hc:s.p.check≠0:=by simpa using hc
  rw[hdef,if_pos hc]
  exact Tri.retV (refused_no (hg.mono l1) 0 s.p.check hc _) fun v I2 l2 hv=>⟨v,rfl,F,.refl _,v,rfl,hv,rfl⟩
 have hc:s.p.check=0:=by simpa using hc
 rw[if_neg (by simpa using hc)] at hdef
 have hfit:=check_rules hc
 have hfm:∀r∈s.regs,r.init.px.formed=true:=fun r hr=>check_regs hc r.p (List.mem_map_of_mem hr)
 refine (registers_spec s lr I1 _ (ok1 l1)).mono fun e I2 G l2 ⟨c,m1,m2,he,hS,hG⟩=>?_
 subst hG
 have l12:=Imm.le_trans l1 l2
 refine⟨_,he,(m1,.map #[] 0)::(m2,.map #[] 0)::F,pm2, ?_⟩
 have hdec:=declared2_spec (F:=(b_s,Obj.cells #[.string s.name,.slice s.ra s.regs.length s.rc,.slice s.sa s.slots.length s.sc,.slice s.ta s.states.length s.tc] 26 (0,0))::F) hl (ok1 l12) (hg.mono l12) hfm hS
 refine (hdec.perm pm2.symm).mono fun e I3 G l3 ⟨v,he,⟨hv,hk⟩,hG⟩=>⟨v,he,F,by rw[hG],_,ChkE.neq hv (by kernel_rfl),fun hq=>?_,fun hq=>?_⟩
 ·have hq:s.p.named.e≠0:=by simpa using hq
  rw[hdef,thenT_e _ hq]
  exact⟨v,rfl,hv,rfl⟩
 have hq:s.p.named.e=0:=by simpa using hq
 rw[thenT_z _ hq] at hdef
 have l123:=Imm.le_trans l12 l3
 refine⟨⟨_,rfl,by omega,by omega,rfl,⟨c,rfl,hk hq⟩,hfit,hdef⟩,fun x i m I4 F4 l4 ⟨gF,g0,g1,gm,⟨c',hc',hA⟩,_,ge⟩=>⟨fun hlt=>?_,fun hlt=>?_⟩⟩
 ·subst gF
  obtain rfl:c=c':=by simpa using hc'
  have hlt:=of_decide_eq_true hlt
  have l:=Imm.le_trans l123 l4
  obtain⟨ad,y,had,hy,hrd,hym⟩:=SlG.atm (ok1 (x:=(b_s,Obj.cells #[.string s.name,.slice s.ra s.regs.length s.rc,.slice s.sa s.slots.length s.sc,.slice s.ta s.states.length s.tc] 26 (0,0))) l).states g0 hlt
  obtain⟨hk2,hyk⟩:=List.getElem?_eq_some_iff.1 hy
  rw[List.drop_eq_getElem_cons hk2,hyk,List.map_cons] at ge
  have hly:=(hl.state y.p (List.mem_map_of_mem hym)).1
  have hlr:=(hl.state y.p (List.mem_map_of_mem hym)).2
  simp only[StateN.p,List.length_map] at hly
  refine⟨⟨g0,hlt⟩,ad,had,_,_,_,_,_,hrd,fun b_x=>⟨⟨_,rfl,y,hy,by omega,by omega,rfl,⟨c,rfl,hA⟩,hfit, ?_⟩,fun x2 k m3 I5 F5 l5 ⟨hF,y',hy',h0,h1,hm,⟨c2,hc2,hA2⟩,_,he2⟩=>⟨fun hlt2=>?_,fun hlt2=>⟨(s.states.length-(i+1)).toNat,by omega, ?_⟩⟩⟩⟩
  ·rw[ge];unfold thenT;rw[firstT];rfl
  ·subst hF
   obtain rfl:y=y':=by rw[hy] at hy';exact Option.some.inj hy'
   obtain rfl:c=c2:=by simpa using hc2
   have hlt2:=of_decide_eq_true hlt2
   have l5':=Imm.le_trans l l5
   have hyo:y.Ok I5 ((b_s,Obj.cells #[.string s.name,.slice s.ra s.regs.length s.rc,.slice s.sa s.slots.length s.sc,.slice s.ta s.states.length s.tc] 26 (0,0))::(b_x,Obj.cells #[.string y.name,.slice y.a y.rules.length y.c,.int .i64 y.pos] 74 (0,0))::F5):=(hok.state y hym).mono l5' fun z hz=>.tail _ (.tail _ hz)
   obtain⟨ad1,r,had1,hr,hrd1,hrm⟩:=SlG.atm hyo.1 h0 hlt2
   obtain⟨hk3,hrk⟩:=List.getElem?_eq_some_iff.1 hr
   rw[List.drop_eq_getElem_cons hk3,hrk,List.map_cons,firstT] at he2
   have hdl:=(hlr r.p (List.mem_map_of_mem hrm)).2.1
   simp only[RuleN.p,List.length_map] at hdl
   refine⟨⟨h0,hlt2⟩,ad1,had1,_,_,_,_,_,_,_,_,_,_,_,_,_,_,hrd1,fun b_r=>?_⟩
   refine Tri.retV (prule_spec (hg.mono l5') hA2 r ((hyo.2 r hrm).mono (Imm.le_refl _) fun z hz=>by
    rcases List.mem_cons.1 hz with rfl | hz
    ·exact .head _
    ·rcases List.mem_cons.1 hz with rfl | hz
     ·exact .tail _ (.head _)
     ·exact .tail _ (.tail _ (.tail _ hz))) (hfit y hym r hrm) hdl) fun v2 I6 l6 hv2=>⟨v2,rfl,F5,.refl _,_,ChkE.neq hv2 (by kernel_rfl),fun hq=>?_,fun hq=>⟨(y.rules.length-(k+1)).toNat,by omega, ?_⟩⟩
   ·have hq:(ruleT s.p r.p).e≠0:=by simpa using hq
    rw[he2,if_pos hq,thenT_e _ hq]
    exact⟨v2,rfl,hv2,rfl⟩
   ·have hq:(ruleT s.p r.p).e=0:=by simpa using hq
    rw[if_neg (by simpa using hq)] at he2
    rw[w64 (n:=k+1) (by omega)]
    refine⟨rfl,y,hy,by omega,by omega,rfl,⟨c,rfl,hA2.mono l6⟩,hfit, ?_⟩
    rw[he2,show (k+1).toNat=k.toNat+1 by omega]
  ·subst hF
   obtain rfl:y=y':=by rw[hy] at hy';exact Option.some.inj hy'
   obtain rfl:c=c2:=by simpa using hc2
   have hlt2:=of_decide_eq_false hlt2
   rw[List.drop_eq_nil_of_le (by omega),List.map_nil,firstT,thenT_z _ rfl] at he2
   rw[w64 (n:=i+1) (by omega)]
   refine⟨rfl,by omega,by omega,rfl,⟨c,rfl,hA2⟩,hfit, ?_⟩
   rw[he2,show (i+1).toNat=i.toNat+1 by omega]
 ·subst gF
  have hlt:=of_decide_eq_false hlt
  rw[List.drop_eq_nil_of_le (by omega),List.map_nil,firstT] at ge
  rw[ge];exact⟨_,rfl,ChkE.ok,rfl⟩
theorem pCheck_spec(s:StgN)(hl:s.p.Light){I:Imm}{F:Heap}(hok:s.Ok I F)(hg:Gl I):Tri P 13 #[s.v] I F (RetV (FltE s.p.types) F):=pCheck_specT s hl.thin hok hg
end Go.Lx
namespace Go.Lx
open Go.Vc Go.Proofs.Tryz
def shT_y2:List (Nat×List Sh):=[(3,[.one (.int .i64)]),(4,[.one .bool]),(40,[.one (.int .i64)]),(59,[.one .ptr])]
def parse_Wrong.V(vi:Int→Value)(vp:OA→Value)(b:Value)(I:Imm)(F:Heap)(Q:PostQ)  : Prop:=∃q:Bool,BinRun P .eql 38 (.tmp 7) (.const (Value.nilIface)) b Value.nilIface q∧(It q (Q (.returned (.tuple #[vi 0,vi 0])) I F) (∀a:Nat,∃(cs:List Value) (el:Nat) (F1:Heap),List.Perm ((a,Obj.cells #[vi 0] 40 (0,0))::F) (((⟨a,0,none⟩:Addr).block,Obj.cells cs.toArray el (0,0))::F1)∧(⟨a,0,none⟩:Addr).spot=none∧(⟨a,0,none⟩:Addr).off+1≤cs.length∧∀c:Nat,Tri P 22 (#[b,Value.iface 61 (vp (some (⟨c,0,none⟩:Addr)))]) I (((c,Obj.cells #[vp none] 59 (0,0))::(((⟨a,0,none⟩:Addr).block,Obj.cells (splice (⟨a,0,none⟩:Addr).off [vi (-1)] cs).toArray el (0,0))::F1))) fun e1 I1 G1=>∃(r:Bool),e1=.returned (.bool r)∧∃F2:Heap,List.Perm G1 F2∧(It r (∃(m:OA),Rd I1 F2 (⟨c,0,none⟩:Addr) [vp m]∧∃ad:Addr,m=some ad∧∃(m1:Int),Rd I1 F2 (ad.add 1) [vi m1]∧Tc1 P 22 (#[b,Value.iface 89 (vp (some (⟨a,0,none⟩:Addr)))]) I1 (·) F2 .bool fun r1 I2 F3=>∃(m2:Int),Rd I2 F3 (⟨a,0,none⟩:Addr) [vi m2]∧Q (.returned (.tuple #[vi m2,vi m1])) I2 F3) (Tc1 P 22 (#[b,Value.iface 89 (vp (some (⟨a,0,none⟩:Addr)))]) I1 (·) F2 .bool fun r2 I3 F4=>∃(m3:Int),Rd I3 F4 (⟨a,0,none⟩:Addr) [vi m3]∧Q (.returned (.tuple #[vi m3,vi 0])) I3 F4))))
theorem parse_Wrong.vc{a:Value}{I:Imm}{F:Heap}{Q:PostQ}  (h:parse_Wrong.V (.int .i64) .pointer a I F Q):Tri P 14 #[a] I F Q :=
 tw (A:=(annL [1001,5002] [] [22] shT_y2 [] [] [3000,4000] [] [] [] [])) [22] func14 h
end Go.Lx
namespace Go.Lx
open Go.Vc
theorem rd_own{I:Imm}{G:Heap}{b ty:Nat}{v:Value}(h:(b,Obj.cells #[v] ty (0,0))∈G):Rd I G (⟨b,0,none⟩:Addr) [v]:=Rd.of_own h 0 fun j hj=>by
 have:j=0:=by simpa using hj
 subst this;rfl
theorem wrong_nil(I:Imm)(F:Heap):Tri P 14 #[.nilIface] I F (Ret (.tuple #[.int .i64 0,.int .i64 0]) F):=by
 refine parse_Wrong.vc ?_
 unfold parse_Wrong.V
 exact⟨true,nil_nil' (by kernel_rfl),fun _=>⟨rfl,rfl⟩,fun h=>(by cases h)⟩
theorem wrong_core{I:Imm}(hg:Gl I){b:Nat}{call:ByteArray}{pos n:Int}{u:Value}(hb:I b=some (.cells #[.string call,.int .i64 pos,u] 63 (0,0)))
  (hE:∀J,Imm.le I J→∀(G:Heap) (t ty:Nat) (old:Value),Tri P 22 #[.iface 59 (.pointer (some ⟨b,0,none⟩)),.iface 89 (.pointer (some ⟨t,0,none⟩))] J ((t,.cells #[old] ty (0,0))::G) (AsQ true ((t,.cells #[.int .i64 n] ty (0,0))::G))) (F:Heap) :
  Tri P 14 #[.iface 59 (.pointer (some ⟨b,0,none⟩))] I F (Ret (.tuple #[.int .i64 n,.int .i64 pos]) F):=by
 refine Tri.clean ?_
 refine parse_Wrong.vc ?_
 unfold parse_Wrong.V
 refine⟨false,some_nil' (by kernel_rfl),fun h=>(by cases h),fun _ b_e=>⟨[.int .i64 0],_,F,.refl _,rfl,by simp,fun b_f=>?_⟩⟩
 refine (As_hitF hg b).mono fun e I1 G l1 ⟨he,hG⟩=>?_
 subst hG
 refine⟨true,he,_,.refl _,fun _=>⟨some ⟨b,0,none⟩,rd_own (.head _),⟨b,0,none⟩,rfl,pos, ?_, ?_⟩,fun h=>(by cases h)⟩
 ·rw[addr0]
  exact Rd.of_imm (l1.at hb) _ 1 fun j hj=>by
   have:j=0:=by simpa using hj
   subst this;rfl
 ·refine Tri.perm ((hE I1 l1 ((b_f,.cells #[.pointer (some ⟨b,0,none⟩)] 59 (0,0))::F) b_e 40 (.int .i64 (-1))).mono fun e I2 G l2 ⟨he,hG⟩=>?_) (.swap ..)
  subst hG
  exact⟨true,he,_,.refl _,n,rd_own (.head _),rfl,[_,_],.refl _⟩
def TF.w(f:TF):Value:=.tuple #[.int .i64 f.e,.int .i64 f.pos]
theorem Wrong_chk{I:Imm}(hg:Gl I){f:TF}(hz:f.Z){v:Value}(h:ChkE I f v)(F:Heap):Tri P 14 #[v] I F (Ret f.w F):=by
 by_cases he:f.e=0
 ·rw[h.1 he,hz he];exact wrong_nil I F
 ·have h2:=h.2 he
  split at h2
  ·obtain⟨u,hu,hv⟩:=h2
   obtain⟨b,rfl,hb⟩:=id hv
   exact wrong_core hg hb (fun J hJ G t ty old=>As_E2 (hg.mono hJ) (hv.mono hJ) (hu.mono hJ)) F
  ·obtain⟨b,rfl,hb⟩:=id h2
   exact wrong_core hg hb (fun J hJ G t ty old=>As_E1 (hg.mono hJ) (h2.mono hJ)) F
theorem Wrong_of{I:Imm}(hg:Gl I){f:TF}(hz:f.Z){v:Value}(h:OfE I f v)(F:Heap):Tri P 14 #[v] I F (Ret f.w F):=by
 by_cases he:f.e=0
 ·rw[h.1 he,hz he];exact wrong_nil I F
 ·have h2:=h.2 he
  obtain⟨b,rfl,hb⟩:=id h2
  exact wrong_core hg hb (fun J hJ G t ty old=>As_E1 (hg.mono hJ) (h2.mono hJ)) F
theorem types_Z(s:StgP):s.types.Z:=by
 unfold StgP.types
 split
 ·rename_i h;exact err_Z h
 ·refine thenT_Z (named_Z s) ?_
  have fz:∀{α:Type} (f:α→TF) (l:List α),(∀x,(f x).Z)→(firstT f l).Z:=fun f l h=>by
   induction l with
   | nil=>exact zTF_Z
   | cons x r ih =>
     rw[firstT];split
     ·exact h x
     ·exact ih
  exact fz _ _ fun x=>fz _ _ fun r=>ruleT_Z s r
theorem typed_Z(s:StgP)(x:Px):(typed s x).2.Z:=by
 have hn:∀(y:Px) (l:List Int),(nodeE s y l).2.Z:=fun y l=>by
  unfold nodeE
  split
  ·exact err_Z (by decide)
  ·split
   ·exact zTF_Z
   ·exact err_Z (by decide)
 rw[typed_eq]
 split
 ·rename_i h;exact fun h'=>absurd h' h
 ·exact hn _ _
theorem typeOf_Z(s:StgP)(x:Px):(typeOf s x).2.Z:=by
 unfold typeOf
 split
 ·rename_i h;exact err_Z h
 ·exact typed_Z s x
end Go.Lx
namespace Go.Lx
open Go.Vc Go.Proofs.Tryz
def shT_y3:List (Nat×List Sh):=[(3,[.one (.int .i64)]),(4,[.one .bool]),(22,[.one .slc]),(23,[.one .slc]),(24,[.one .slc]),(33,[.one .slc]),(35,[.agg [(.int .u8),(.int .u8),(.int .u8),(.int .i64),(.int .u8),.str,.slc,(.int .i64)]]),(38,[.one .any]),(41,[.one (.int .i64),.one (.int .i64)]),(50,[.agg [.str,.slc,.slc,.slc],.agg [(.int .i64),(.int .i64),.bool]]),(54,[.one (.int .u8),.one .any]),(68,[.agg [.str,(.int .u8),(.int .u8),(.int .u8),(.int .u8),(.int .i64),(.int .u8),.str,.slc,(.int .i64),(.int .i64)]]),(72,[.one .slc]),(74,[.agg [.str,.slc,(.int .i64)]]),(76,[.agg [(.int .u8),(.int .u8),(.int .u8),(.int .i64),(.int .u8),.str,.slc,(.int .i64)],.agg [(.int .i64),(.int .i64),.bool]]),(85,[.one .slc]),(87,[.agg [(.int .u8),(.int .u8),(.int .u8),(.int .i64),(.int .u8),.str,.slc,(.int .i64),.slc,(.int .i64)]]),(95,[.agg [(.int .u8),(.int .u8),.str,(.int .u8),(.int .u8),(.int .u8),(.int .i64),(.int .u8),.str,.slc,(.int .i64),(.int .u8),(.int .u8),(.int .u8),(.int .i64),(.int .u8),.str,.slc,(.int .i64),(.int .u8),(.int .u8),(.int .u8),(.int .i64),(.int .u8),.str,.slc,(.int .i64),(.int .u8),(.int .u8),(.int .u8),(.int .i64),(.int .u8),.str,.slc,(.int .i64),(.int .i64)]])]
def law15_awake.V(ka:Nat→Int→Int→Bool→Nat×Obj)(kb:Nat→Bs→OA→Nat→Nat→OA→Nat→Nat→OA→Nat→Nat→Nat×Obj)(nV:Int→Int→Int→Int→Int→Bs→OA→Nat→Nat→Int→Value)(nO:Int→Int→Int→Int→Int→Bs→OA→Nat→Nat→Int→Obj)(vi:Int→Value)(vs:Bs→Value)(vl:OA→Nat→Nat→Value)(vt:Bool→Value)(I:Imm)(F:Heap)(Q:PostQ)  : Prop:=Tcn P 17 (#[vs (⟨#[115,116,114,97,116,101,103,121,32,115,32,123,32,114,101,103,32,110,32,105,110,116,32,61,32,49,59,32,114,101,103,32,100,111,110,101,32,98,111,111,108,32,61,32,116,114,117,101,59,32,115,116,97,116,101,32,97,32,123,32,119,104,101,110,32,100,111,110,101,32,100,111,32,103,111,116,111,32,97,59,32,125,32,125]⟩:Bs)]) I (·) F fun e1 I1 G1=>∃(ab:Bs) (a:OA) (b c:Nat) (d:OA) (e f:Nat) (g:OA) (h i:Nat) (ag ah:Int) (ai:Bool),e1=.returned (.tuple #[.agg #[vs ab,vl a b c,vl d e f,vl g h i],.agg #[vi ag,vi ah,vt ai]])∧G1 fun F1=>∀aG:Nat,∀aH:Nat,Tcn P 17 (#[vs (⟨#[115,116,114,97,116,101,103,121,32,115,32,123,32,115,116,97,116,101,32,97,32,123,32,119,104,101,110,32,116,114,117,101,32,100,111,32,103,111,116,111,32,98,59,32,125,32,125]⟩:Bs)]) I1 ((kb aG ab a b c d e f g h i)::(ka aH ag ah ai)::·) F1 fun e2 I2 G2=>∃(aa:Bs) (j:OA) (k l:Nat) (m:OA) (n o:Nat) (p:OA) (s t:Nat) (ac ad:Int) (ae:Bool),e2=.returned (.tuple #[.agg #[vs aa,vl j k l,vl m n o,vl p s t],.agg #[vi ac,vi ad,vt ae]])∧G2 fun F2=>∀aJ:Nat,∀aE:Nat,Tcn P 27 (#[vs (⟨#[98,105,100,32,47,32,110]⟩:Bs)]) I2 ((kb aG ab a b c d e f g h i)::(ka aH ag ah ai)::(kb aJ aa j k l m n o p s t)::(ka aE ac ad ae)::·) F2 fun e3 I3 G3=>∃(af ay az aA aB:Int) (aC:Bs) (x:OA) (y z:Nat) (aD aj ak:Int) (al:Bool),e3=.returned (.tuple #[nV af ay az aA aB aC x y z aD,.agg #[vi aj,vi ak,vt al]])∧G3 fun F3=>∀aK:Nat,∀aF:Nat,Tcn P 27 (#[vs (⟨#[98,105,100,32,43,32,49]⟩:Bs)]) I3 ((kb aG ab a b c d e f g h i)::(ka aH ag ah ai)::(kb aJ aa j k l m n o p s t)::(ka aE ac ad ae)::(aK,nO af ay az aA aB aC x y z aD)::(ka aF aj ak al)::·) F3 fun e4 I4 G4=>∃(am an ao ap aq:Int) (ar:Bs) (u:OA) (v w:Nat) (au av aw:Int) (ax:Bool),e4=.returned (.tuple #[nV am an ao ap aq ar u v w au,.agg #[vi av,vi aw,vt ax]])∧G4 fun F4=>∀aL:Nat,∀aI:Nat,Tcn P 13 #[.agg #[vs ab,vl a b c,vl d e f,vl g h i]] I4 ((kb aG ab a b c d e f g h i)::(ka aH ag ah ai)::(kb aJ aa j k l m n o p s t)::(ka aE ac ad ae)::(aK,nO af ay az aA aB aC x y z aD)::(ka aF aj ak al)::(aL,nO am an ao ap aq ar u v w au)::(ka aI av aw ax)::·) F4 fun e5 I5 G5=>∃(r:Value),e5=.returned r∧G5 fun F5=>Tcn P 13 #[.agg #[vs aa,vl j k l,vl m n o,vl p s t]] I5 ((kb aG ab a b c d e f g h i)::(ka aH ag ah ai)::(kb aJ aa j k l m n o p s t)::(ka aE ac ad ae)::(aK,nO af ay az aA aB aC x y z aD)::(ka aF aj ak al)::(aL,nO am an ao ap aq ar u v w au)::(ka aI av aw ax)::·) F5 fun e6 I6 G6=>∃(r1:Value),e6=.returned r1∧G6 fun F6=>Tcn P 14 #[r1] I6 ((kb aG ab a b c d e f g h i)::(ka aH ag ah ai)::(kb aJ aa j k l m n o p s t)::(ka aE ac ad ae)::(aK,nO af ay az aA aB aC x y z aD)::(ka aF aj ak al)::(aL,nO am an ao ap aq ar u v w au)::(ka aI av aw ax)::·) F6 fun e7 I7 G7=>∃(r0 aM:Int),e7=.returned (.tuple #[vi r0,vi aM])∧G7 fun F7=>Tcn P 19 #[.agg #[vs ab,vl a b c,vl d e f,vl g h i],nV af ay az aA aB aC x y z aD] I7 ((kb aG ab a b c d e f g h i)::(ka aH ag ah ai)::(kb aJ aa j k l m n o p s t)::(ka aE ac ad ae)::(aK,nO af ay az aA aB aC x y z aD)::(ka aF aj ak al)::(aL,nO am an ao ap aq ar u v w au)::(ka aI av aw ax)::·) F7 fun e8 I8 G8=>∃(aN:Int) (aP:Value),e8=.returned (.tuple #[.int .u8 aN,aP])∧G8 fun F8=>Tcn P 19 #[.agg #[vs ab,vl a b c,vl d e f,vl g h i],nV am an ao ap aq ar u v w au] I8 ((kb aG ab a b c d e f g h i)::(ka aH ag ah ai)::(kb aJ aa j k l m n o p s t)::(ka aE ac ad ae)::(aK,nO af ay az aA aB aC x y z aD)::(ka aF aj ak al)::(aL,nO am an ao ap aq ar u v w au)::(ka aI av aw ax)::·) F8 fun e9 I9 G9=>∃(aS:Int) (aQ:Value),e9=.returned (.tuple #[.int .u8 aS,aQ])∧G9 fun F9=>Tcn P 14 #[aQ] I9 ((kb aG ab a b c d e f g h i)::(ka aH ag ah ai)::(kb aJ aa j k l m n o p s t)::(ka aE ac ad ae)::(aK,nO af ay az aA aB aC x y z aD)::(ka aF aj ak al)::(aL,nO am an ao ap aq ar u v w au)::(ka aI av aw ax)::·) F9 fun aT I10 G10=>∃(aO aR:Int),aT=.returned (.tuple #[vi aO,vi aR])∧G10 fun F10=>∃q:Bool,BinRun P .eql 38 (.tmp 59) (.const (Value.nilIface)) r Value.nilIface q∧(It q (It (r0==151) (It (aM==36) (∃q1:Bool,BinRun P .eql 38 (.tmp 70) (.const (Value.nilIface)) aP Value.nilIface q1∧(It q1 (It (aN==3) (It (aO==152) (Q (.returned (vt (aR==4))) I10 F10) (Q (.returned (vt false)) I10 F10)) (Q (.returned (vt false)) I10 F10)) (Q (.returned (vt false)) I10 F10))) (Q (.returned (vt false)) I10 F10)) (Q (.returned (vt false)) I10 F10)) (Q (.returned (vt false)) I10 F10))
theorem law15_awake.vc  {I:Imm}{F:Heap}{Q:PostQ}  (h:law15_awake.V (fun W a b c=>(W,Obj.cells #[.int .i64 a,.int .i64 b,.bool c] 49 (0,0))) (fun W a b c d e f g h i j=>(W,Obj.cells #[.string a,.slice b c d,.slice e f g,.slice h i j] 26 (0,0))) (fun k o t n f s a l c q=>.agg #[.int .u8 k,.int .u8 o,.int .u8 t,.int .i64 n,.int .u8 f,.string s,.slice a l c,.int .i64 q]) (fun k o t n f s a l c q=>.cells #[.int .u8 k,.int .u8 o,.int .u8 t,.int .i64 n,.int .u8 f,.string s,.slice a l c,.int .i64 q] 35 (0,0)) (.int .i64) .string .slice .bool I F Q):Tri P 10 #[] I F Q :=
 tw (A:=(an [10001,10004,10008,10012,10016,10020] [13,14,17,19,27] shT_y3)) [13,14,17,19,27] func10 h
def law15_far.V(a b:Nat→Nat×Obj)(vb vi:Int→Value)(vl:OA→Nat→Nat→Value)(q:Bs)(e:OA)(f g:Nat)(h:OA)(i j:Nat)(k:OA)(l m:Nat)(s t u v w:Int)(x:Bs)(n:OA)(o p:Nat)(y:Int)(I:Imm)(F:Heap)(Q:PostQ)  : Prop:=∀c:Nat,∀d:Nat,Tc1 P 28 #[.agg #[.string q,vl e f g,vl h i j,vl k l m]] I ((b c)::(a d)::·) F vi fun r I1 F1=>(Dt (r>1048576) (Q (.returned (.bool true)) I1 F1) (Tc1 P 29 #[.agg #[vb s,vb t,vb u,vi v,vb w,.string x,vl n o p,vi y],vi r,vi 0] I1 ((b c)::(a d)::·) F1 vi fun r1 I2 F2=>Q (.returned (.bool (decide (r1>1048576)))) I2 F2))
theorem law15_far.vc{o:Bs}{a:OA}{c d:Nat}{e:OA}{f g:Nat}{i:OA}{j k:Nat}{p q r s t:Int}{u:Bs}{l:OA}{m n:Nat}{v:Int}{I:Imm}{F:Heap}{Q:PostQ}  (h:law15_far.V (fun b=>(b,Obj.cells #[.int .u8 p,.int .u8 q,.int .u8 r,.int .i64 s,.int .u8 t,.string u,.slice l m n,.int .i64 v] 35 (0,0))) (fun b=>(b,Obj.cells #[.string o,.slice a c d,.slice e f g,.slice i j k] 26 (0,0))) (.int .u8) (.int .i64) .slice o a c d e f g i j k p q r s t u l m n v I F Q):Tri P 11 #[.agg #[.string o,.slice a c d,.slice e f g,.slice i j k],.agg #[.int .u8 p,.int .u8 q,.int .u8 r,.int .i64 s,.int .u8 t,.string u,.slice l m n,.int .i64 v]] I F Q :=
 tw (A:=(an [2001] [28,29] shT_y3)) [28,29] func11 h
def law15_types3.V(a b c d:Nat→Nat×Obj)(nV:Int→Int→Int→Int→Int→Bs→OA→Nat→Nat→Int→Value)(vb:Int→Value)(vl:OA→Nat→Nat→Value)(u:Bs)(i:OA)(j k:Nat)(l:OA)(m n:Nat)(o:OA)(p r:Nat)(ag ah ai aj ak:Int)(al:Bs)(v:OA)(w x:Nat)(am an ao ap aq ar:Int)(au:Bs)(y:OA)(z aa:Nat)(av aw ax ay az aA:Int)(aB:Bs)(ab:OA)(ac ad:Nat)(aC:Int)(I:Imm)(F:Heap)(Q:PostQ)  : Prop:=∀e:Nat,∀f:Nat,∀g:Nat,∀h:Nat,Tcn P 19 #[.agg #[.string u,vl i j k,vl l m n,vl o p r],nV ag ah ai aj ak al v w x am] I ((d e)::(c f)::(a g)::(b h)::·) F fun e1 I1 G1=>∃(r0:Int) (r1:Value),e1=.returned (.tuple #[vb r0,r1])∧G1 fun F1=>Tcn P 19 #[.agg #[.string u,vl i j k,vl l m n,vl o p r],nV an ao ap aq ar au y z aa av] I1 ((d e)::(c f)::(a g)::(b h)::·) F1 fun e2 I2 G2=>∃(s:Int) (ae:Value),e2=.returned (.tuple #[vb s,ae])∧G2 fun F2=>Tcn P 19 #[.agg #[.string u,vl i j k,vl l m n,vl o p r],nV aw ax ay az aA aB ab ac ad aC] I2 ((d e)::(c f)::(a g)::(b h)::·) F2 fun e3 I3 G3=>∃(t:Int) (af:Value),e3=.returned (.tuple #[vb t,af])∧G3 fun F3=>∃q:Bool,BinRun P .eql 38 (.tmp 39) (.const (Value.nilIface)) r1 Value.nilIface q∧(It q (∃q1:Bool,BinRun P .eql 38 (.tmp 42) (.const (Value.nilIface)) ae Value.nilIface q1∧(It q1 (∃q2:Bool,BinRun P .eql 38 (.tmp 46) (.const (Value.nilIface)) af Value.nilIface q2∧Q (.returned (.tuple #[vb r0,vb s,vb t,.bool q2])) I3 F3) (Q (.returned (.tuple #[vb r0,vb s,vb t,.bool false])) I3 F3))) (Q (.returned (.tuple #[vb r0,vb s,vb t,.bool false])) I3 F3))
theorem law15_types3.vc{ae:Bs}{d:OA}{e g:Nat}{i:OA}{j m:Nat}{p:OA}{r u:Nat}{af ag ah ai aj:Int}{ak:Bs}{v:OA}{w x:Nat}{al am ao ap aq ar:Int}{au:Bs}{y:OA}{z aa:Nat}{av aw ax ay az aA:Int}{aB:Bs}{ab:OA}{ac ad:Nat}{aC:Int}{I:Imm}{F:Heap}{Q:PostQ}  (h:law15_types3.V (fun b=>(b,Obj.cells #[.int .u8 am,.int .u8 ao,.int .u8 ap,.int .i64 aq,.int .u8 ar,.string au,.slice y z aa,.int .i64 av] 35 (0,0))) (fun b=>(b,Obj.cells #[.int .u8 aw,.int .u8 ax,.int .u8 ay,.int .i64 az,.int .u8 aA,.string aB,.slice ab ac ad,.int .i64 aC] 35 (0,0))) (fun b=>(b,Obj.cells #[.int .u8 af,.int .u8 ag,.int .u8 ah,.int .i64 ai,.int .u8 aj,.string ak,.slice v w x,.int .i64 al] 35 (0,0))) (fun b=>(b,Obj.cells #[.string ae,.slice d e g,.slice i j m,.slice p r u] 26 (0,0))) (fun k o t n f s a l c q=>.agg #[.int .u8 k,.int .u8 o,.int .u8 t,.int .i64 n,.int .u8 f,.string s,.slice a l c,.int .i64 q]) (.int .u8) .slice ae d e g i j m p r u af ag ah ai aj ak v w x al am ao ap aq ar au y z aa av aw ax ay az aA aB ab ac ad aC I F Q):Tri P 23 #[.agg #[.string ae,.slice d e g,.slice i j m,.slice p r u],.agg #[.int .u8 af,.int .u8 ag,.int .u8 ah,.int .i64 ai,.int .u8 aj,.string ak,.slice v w x,.int .i64 al],.agg #[.int .u8 am,.int .u8 ao,.int .u8 ap,.int .i64 aq,.int .u8 ar,.string au,.slice y z aa,.int .i64 av],.agg #[.int .u8 aw,.int .u8 ax,.int .u8 ay,.int .i64 az,.int .u8 aA,.string aB,.slice ab ac ad,.int .i64 aC]] I F Q :=
 tw (A:=(an [4004,4007] [19] shT_y3)) [19] func23 h
def law15_turned.V(nV:Int→Int→Int→Int→Int→Bs→OA→Nat→Nat→Int→Value)(nO:Int→Int→Int→Int→Int→Bs→OA→Nat→Nat→Int→Obj)(vb:Int→Value)(vl:OA→Nat→Nat→Value)(r aa ab ac ae:Int)(n:Bs)(o:OA)(p q:Nat)(af:Int)(I:Imm)(F:Heap)(Q:PostQ)(Inv2:Int→Int→Int→Int→Int→Bs→OA→Nat→Nat→Int→Imm→Heap→Prop)(Inv14:OA→Nat→Nat→Int→Nat→Imm→Heap→Prop):Prop:=∀s:Nat,∀b:Nat,((((r==2)=true→((decide ((n.size:Int)<15)=true→(((((⟨#[122]⟩:Bs).size+n.size:Nat):Int)≤IntKind.i64.max)∧Inv2 r aa ab ac ae ((⟨#[122]⟩:Bs)++n) o p q af I F))∧(decide ((n.size:Int)<15)=false→Inv2 r aa ab ac ae n o p q af I F)))∧((r==2)=false→Inv2 r aa ab ac ae n o p q af I F)))∧∀(e f g h j:Int) (k:Bs) (c:OA) (a d:Nat) (l:Int) (I1:Imm) (F1:Heap),Imm.le I I1→Inv2 e f g h j k c a d l I1 F1→(∃m:Nat,Inv14 none 0 0 0 m I1 F1)∧∀(ag:OA) (ah ai:Nat) (i:Int) (m1:Nat) (I2:Imm) (F2:Heap),Imm.le I1 I2→Inv14 ag ah ai i m1 I2 F2→((decide (i<(a:Int))=true→((0≤i∧i<(a:Int))∧∃ad:Addr,c=some ad∧∃(aj ak al am an:Int) (ao:Bs) (t:OA) (u w:Nat) (ap:Int),Rd I2 ((s,nO e f g h j k c a d l)::(b,nO 0 0 0 0 0 (⟨#[]⟩:Bs) none 0 0 0)::F2) (ad.add (Int.toNat i*8)) [vb aj,vb ak,vb al,.int .i64 am,vb an,.string ao,vl t u w,.int .i64 ap]∧Tri P 25 #[nV aj ak al am an ao t u w ap] I2 ((s,nO e f g h j k c a d l)::(b,nO 0 0 0 0 0 (⟨#[]⟩:Bs) none 0 0 0)::F2) fun e1 I3 G1=>∃(aq ar au av aw:Int) (ax:Bs) (x:OA) (y z:Nat) (ay:Int),e1=.returned (nV aq ar au av aw ax x y z ay)∧∃F3:Heap,List.Perm G1 ((s,nO e f g h j k c a d l)::(b,nO 0 0 0 0 0 (⟨#[]⟩:Bs) none 0 0 0)::F3)∧∀(b1:Nat) (I4:Imm),Imm.le I3 I4→I4 b1=some (nO aq ar au av aw ax x y z ay)→TriE P (Builtin.append_ #[33,33] 33 #[vl ag ah ai,vl (some ⟨b1,0,none⟩) 1 1]) I4 ((s,nO e f g h j k c a d l)::(b,nO 0 0 0 0 0 (⟨#[]⟩:Bs) none 0 0 0)::F3) fun v I5 G2=>∃(az:OA) (aA aB:Nat),v=vl az aA aB∧∃F4:Heap,List.Perm G2 ((s,nO e f g h j k c a d l)::(b,nO 0 0 0 0 0 (⟨#[]⟩:Bs) none 0 0 0)::F4)∧(∃m2:Nat,m2<m1∧Inv14 az aA aB (IntKind.wrap .i64 (i+1)) m2 I5 F4)))∧(decide (i<(a:Int))=false→Q (.returned (nV e f g h j k ag ah ai l)) I2 F2))
theorem law15_turned.vc{g i j p r:Int}{u:Bs}{b:OA}{d e:Nat}{v:Int}{I:Imm}{F:Heap}{Q:PostQ}(Inv2:Int→Int→Int→Int→Int→Bs→OA→Nat→Nat→Int→Imm→Heap→Prop)(Inv14:OA→Nat→Nat→Int→Nat→Imm→Heap→Prop)(h:law15_turned.V (fun k o t n f s a l c q=>.agg #[.int .u8 k,.int .u8 o,.int .u8 t,.int .i64 n,.int .u8 f,.string s,.slice a l c,.int .i64 q]) (fun k o t n f s a l c q=>.cells #[.int .u8 k,.int .u8 o,.int .u8 t,.int .i64 n,.int .u8 f,.string s,.slice a l c,.int .i64 q] 35 (0,0)) (.int .u8) .slice g i j p r u b d e v I F Q Inv2 Inv14):Tri P 25 #[.agg #[.int .u8 g,.int .u8 i,.int .u8 j,.int .i64 p,.int .u8 r,.string u,.slice b d e,.int .i64 v]] I F Q :=
 tw (A:=(annL [1002,1007,5004] [] [25] shT_y3 [(2,⟨[],[(0,[(.int .u8),(.int .u8),(.int .u8),(.int .i64),(.int .u8),.str,.slc,(.int .i64)])],fun _ _ _ vs m I F=>match vs with | [.int _ y0,.int _ y1,.int _ y2,.int _ y3,.int _ y4,.string y5,.slice y6 y7 y8,.int _ y9]=>Inv2 y0 y1 y2 y3 y4 y5 y6 y7 y8 y9 I F | _=>False,[],[]⟩),(14,⟨[(3,.slc),(4,(.int .i64))],[],fun _ _ _ vs m I F=>match vs with | [.slice y0 y1 y2,.int _ y3]=>Inv14 y0 y1 y2 y3 m I F | _=>False,[],[]⟩)] [7007] [] [] [] [] [])) [25] func25 h
def law15_longer.V(b c:Nat→Nat×Obj)(vb vi:Int→Value)(vs:Bs→Value)(vl:OA→Nat→Nat→Value)(vt:Bool→Value)(v ai aj ak al:Int)(w:Bs)(j:OA)(a ah:Nat)(am:Int)(ag:Bs)(k:OA)(l n:Nat)(o:OA)(p q:Nat)(s:OA)(t u:Nat)(I:Imm)(F:Heap)(Q:PostQ)(Inv16:Bool→Int→Nat→Imm→Heap→Prop):Prop:=∀d:Nat,∀e:Nat,(((v==2)=true→Tri P 55 #[vs w] I ((b d)::(c e)::F) fun e1 I1 G1=>∃(r:Bool),e1=.returned (vt r)∧∃F1:Heap,List.Perm G1 ((b d)::(c e)::F1)∧((r=true→Q (.returned (vt true)) I1 F1)∧(r=false→Q (.returned (vt (decide ((w.size:Int)≥15)))) I1 F1)))∧((v==2)=false→(∃m:Nat,Inv16 false 0 m I F)∧∀(x:Bool) (i:Int) (m1:Nat) (I2:Imm) (F2:Heap),Imm.le I I2→Inv16 x i m1 I2 F2→((decide (i<(a:Int))=true→((0≤i∧i<(a:Int))∧∃ad:Addr,j=some ad∧∃(y z aa ab ac:Int) (ae:Bs) (f:OA) (g h:Nat) (af:Int),Rd I2 ((b d)::(c e)::F2) (ad.add (Int.toNat i*8)) [vb y,vb z,vb aa,vi ab,vb ac,vs ae,vl f g h,vi af]∧∃(r1:Bool),(Tri P 26 #[.agg #[vb y,vb z,vb aa,vi ab,vb ac,vs ae,vl f g h,vi af],.agg #[vs ag,vl k l n,vl o p q,vl s t u]] I2 ((b d)::(c e)::F2) fun e2 I3 G2=>e2=.returned (vt r1)∧List.Perm G2 ((b d)::(c e)::F2))∧((r1=true→Q (.returned (vt true)) I2 F2)∧(r1=false→(∃m2:Nat,m2<m1∧Inv16 x (IntKind.wrap .i64 (i+1)) m2 I2 F2)))))∧(decide (i<(a:Int))=false→Q (.returned (vt false)) I2 F2))))
theorem law15_longer.vc{p q r s t:Int}{u:Bs}{a:OA}{c d:Nat}{v:Int}{w:Bs}{e:OA}{f g:Nat}{i:OA}{j k:Nat}{l:OA}{n o:Nat}{I:Imm}{F:Heap}{Q:PostQ}(Inv16:Bool→Int→Nat→Imm→Heap→Prop)(h:law15_longer.V (fun b=>(b,Obj.cells #[.int .u8 p,.int .u8 q,.int .u8 r,.int .i64 s,.int .u8 t,.string u,.slice a c d,.int .i64 v] 35 (0,0))) (fun b=>(b,Obj.cells #[.string w,.slice e f g,.slice i j k,.slice l n o] 26 (0,0))) (.int .u8) (.int .i64) .string .slice .bool p q r s t u a c d v w e f g i j k l n o I F Q Inv16):Tri P 26 #[.agg #[.int .u8 p,.int .u8 q,.int .u8 r,.int .i64 s,.int .u8 t,.string u,.slice a c d,.int .i64 v],.agg #[.string w,.slice e f g,.slice i j k,.slice l n o]] I F Q :=
 tw (A:=(annL [1002,3000,5004,8000] [] [26,55] shT_y3 [(16,⟨[(4,.bool),(6,(.int .i64))],[],fun _ _ _ vs m I F=>match vs with | [.bool y0,.int _ y1]=>Inv16 y0 y1 m I F | _=>False,[],[]⟩)] [] [] [] [] [] [])) [26,55] func26 h
def ref00_CopyStrategy.V(y:Nat→Nat×Obj)(nV:Int→Int→Int→Int→Int→Bs→OA→Nat→Nat→Int→Value)(vb vi:Int→Value)(vs:Bs→Value)(vl:OA→Nat→Nat→Value)(a3:Bs)(aU:OA)(al a4:Nat)(aV:OA)(aW aX:Nat)(aY:OA)(am a5:Nat)(I:Imm)(F:Heap)(Q:PostQ)(Inv8:Int→Bs→OA→Nat→Nat→OA→Nat→Nat→OA→Nat→Nat→Nat→Imm→Heap→Prop)(Inv29:Int→Bs→OA→Nat→Nat→OA→Nat→Nat→OA→Nat→Nat→Nat→Imm→Heap→Prop):Prop:=∀z:Nat,∀b:Nat,∀aa:Nat,(∃m:Nat,Inv8 0 a3 none 0 0 none 0 0 none 0 0 m I F)∧∀(i:Int) (w:Bs) (a:OA) (c d:Nat) (e:OA) (f g:Nat) (h:OA) (j k m1:Nat) (I1:Imm) (F1:Heap),Imm.le I I1→Inv8 i w a c d e f g h j k m1 I1 F1→((decide (i<(al:Int))=true→((0≤i∧i<(al:Int))∧∃ad:Addr,aU=some ad∧∃(aj:Bs) (ak an ao ap aq ar:Int) (au:Bs) (ac:OA) (ae af:Nat) (av ab:Int),Rd I1 ((y z)::(b,Obj.cells #[vs (⟨#[]⟩:Bs),vl none 0 0,vl none 0 0,vl none 0 0] 26 (0,0))::(aa,Obj.cells #[vs w,vl a c d,vl e f g,vl h j k] 26 (0,0))::F1) (ad.add (Int.toNat i*11)) [vs aj,vb ak,vb an,vb ao,vb ap,vi aq,vb ar,vs au,vl ac ae af,vi av,vi ab]∧∀aJ:Nat,Tri P 53 #[nV an ao ap aq ar au ac ae af av] I1 ((y z)::(b,Obj.cells #[vs (⟨#[]⟩:Bs),vl none 0 0,vl none 0 0,vl none 0 0] 26 (0,0))::(aa,Obj.cells #[vs w,vl a c d,vl e f g,vl h j k] 26 (0,0))::(aJ,Obj.cells #[vs aj,vb ak,vb an,vb ao,vb ap,vi aq,vb ar,vs au,vl ac ae af,vi av,vi ab] 68 (0,0))::F1) fun e1 I2 G1=>∃(aw ax ay az aA:Int) (aB:Bs) (ag:OA) (ah ai:Nat) (aC:Int),e1=.returned (nV aw ax ay az aA aB ag ah ai aC)∧∃F2:Heap,List.Perm G1 ((y z)::(b,Obj.cells #[vs (⟨#[]⟩:Bs),vl none 0 0,vl none 0 0,vl none 0 0] 26 (0,0))::(aa,Obj.cells #[vs w,vl a c d,vl e f g,vl h j k] 26 (0,0))::(aJ,Obj.cells #[vs aj,vb ak,vb an,vb ao,vb ap,vi aq,vb ar,vs au,vl ac ae af,vi av,vi ab] 68 (0,0))::F2)∧∀(b1:Nat) (I3:Imm),Imm.le I2 I3→I3 b1=some (Obj.cells #[vs aj,vb ak,vb aw,vb ax,vb ay,vi az,vb aA,vs aB,vl ag ah ai,vi aC,vi ab] 68 (0,0))→TriE P (Builtin.append_ #[22,22] 22 #[vl a c d,vl (some ⟨b1,0,none⟩) 1 1]) I3 ((y z)::(b,Obj.cells #[vs (⟨#[]⟩:Bs),vl none 0 0,vl none 0 0,vl none 0 0] 26 (0,0))::(aa,Obj.cells #[vs w,vl a c d,vl e f g,vl h j k] 26 (0,0))::(aJ,Obj.cells #[vs aj,vb ak,vb aw,vb ax,vb ay,vi az,vb aA,vs aB,vl ag ah ai,vi aC,vi ab] 68 (0,0))::F2) fun v I4 G2=>∃(aZ:OA) (a0 a1:Nat),v=vl aZ a0 a1∧∃F3:Heap,List.Perm G2 ((y z)::(b,Obj.cells #[vs (⟨#[]⟩:Bs),vl none 0 0,vl none 0 0,vl none 0 0] 26 (0,0))::(aa,Obj.cells #[vs w,vl a c d,vl e f g,vl h j k] 26 (0,0))::(aJ,Obj.cells #[vs aj,vb ak,vb aw,vb ax,vb ay,vi az,vb aA,vs aB,vl ag ah ai,vi aC,vi ab] 68 (0,0))::F3)∧(∃m2:Nat,m2<m1∧Inv8 (IntKind.wrap .i64 (i+1)) w aZ a0 a1 e f g h j k m2 I4 F3)))∧(decide (i<(al:Int))=false→TriE P (Builtin.append_ #[23,23] 23 #[vl e f g,vl aV aW aX]) I1 ((y z)::(b,Obj.cells #[vs (⟨#[]⟩:Bs),vl none 0 0,vl none 0 0,vl none 0 0] 26 (0,0))::(aa,Obj.cells #[vs w,vl a c d,vl e f g,vl h j k] 26 (0,0))::F1) fun v1 I5 G3=>∃(aK:OA) (aL aM:Nat),v1=vl aK aL aM∧∃F4:Heap,List.Perm G3 ((y z)::(b,Obj.cells #[vs (⟨#[]⟩:Bs),vl none 0 0,vl none 0 0,vl none 0 0] 26 (0,0))::(aa,Obj.cells #[vs w,vl a c d,vl e f g,vl h j k] 26 (0,0))::F4)∧(∃m3:Nat,Inv29 0 w a c d aK aL aM h j k m3 I5 F4)∧∀(i1:Int) (x:Bs) (l:OA) (n o:Nat) (p:OA) (q r:Nat) (s:OA) (t u m4:Nat) (I6:Imm) (F5:Heap),Imm.le I5 I6→Inv29 i1 x l n o p q r s t u m4 I6 F5→((decide (i1<(am:Int))=true→((0≤i1∧i1<(am:Int))∧∃a2:Addr,aY=some a2∧∃(aN:Bs) (aD:OA) (aE aF:Nat) (aO:Int),Rd I6 ((y z)::(b,Obj.cells #[vs (⟨#[]⟩:Bs),vl none 0 0,vl none 0 0,vl none 0 0] 26 (0,0))::(aa,Obj.cells #[vs x,vl l n o,vl p q r,vl s t u] 26 (0,0))::F5) (a2.add (Int.toNat i1*3)) [vs aN,vl aD aE aF,vi aO]∧Tri P 54 #[.agg #[vs aN,vl aD aE aF,vi aO]] I6 ((y z)::(b,Obj.cells #[vs (⟨#[]⟩:Bs),vl none 0 0,vl none 0 0,vl none 0 0] 26 (0,0))::(aa,Obj.cells #[vs x,vl l n o,vl p q r,vl s t u] 26 (0,0))::F5) fun e2 I7 G4=>∃(aP:Bs) (aG:OA) (aH aI:Nat) (aQ:Int),e2=.returned (.agg #[vs aP,vl aG aH aI,vi aQ])∧∃F6:Heap,List.Perm G4 ((y z)::(b,Obj.cells #[vs (⟨#[]⟩:Bs),vl none 0 0,vl none 0 0,vl none 0 0] 26 (0,0))::(aa,Obj.cells #[vs x,vl l n o,vl p q r,vl s t u] 26 (0,0))::F6)∧∀(b2:Nat) (I8:Imm),Imm.le I7 I8→I8 b2=some (Obj.cells #[vs aP,vl aG aH aI,vi aQ] 74 (0,0))→TriE P (Builtin.append_ #[24,24] 24 #[vl s t u,vl (some ⟨b2,0,none⟩) 1 1]) I8 ((y z)::(b,Obj.cells #[vs (⟨#[]⟩:Bs),vl none 0 0,vl none 0 0,vl none 0 0] 26 (0,0))::(aa,Obj.cells #[vs x,vl l n o,vl p q r,vl s t u] 26 (0,0))::F6) fun v2 I9 G5=>∃(aR:OA) (aS aT:Nat),v2=vl aR aS aT∧∃F7:Heap,List.Perm G5 ((y z)::(b,Obj.cells #[vs (⟨#[]⟩:Bs),vl none 0 0,vl none 0 0,vl none 0 0] 26 (0,0))::(aa,Obj.cells #[vs x,vl l n o,vl p q r,vl s t u] 26 (0,0))::F7)∧(∃m5:Nat,m5<m4∧Inv29 (IntKind.wrap .i64 (i1+1)) x l n o p q r aR aS aT m5 I9 F7)))∧(decide (i1<(am:Int))=false→Q (.returned (.agg #[vs x,vl l n o,vl p q r,vl s t u])) I6 F5))))
theorem ref00_CopyStrategy.vc{w:Bs}{d:OA}{e g:Nat}{i:OA}{j p:Nat}{r:OA}{u v:Nat}{I:Imm}{F:Heap}{Q:PostQ}(Inv8:Int→Bs→OA→Nat→Nat→OA→Nat→Nat→OA→Nat→Nat→Nat→Imm→Heap→Prop)(Inv29:Int→Bs→OA→Nat→Nat→OA→Nat→Nat→OA→Nat→Nat→Nat→Imm→Heap→Prop)(h:ref00_CopyStrategy.V (fun b=>(b,Obj.cells #[.string w,.slice d e g,.slice i j p,.slice r u v] 26 (0,0))) (fun k o t n f s a l c q=>.agg #[.int .u8 k,.int .u8 o,.int .u8 t,.int .i64 n,.int .u8 f,.string s,.slice a l c,.int .i64 q]) (.int .u8) (.int .i64) .string .slice w d e g i j p r u v I F Q Inv8 Inv29):Tri P 24 #[.agg #[.string w,.slice d e g,.slice i j p,.slice r u v]] I F Q :=
 tw (A:=(annL [3004,10004] [] [53,54] shT_y3 [(8,⟨[(4,(.int .i64))],[(2,[.str,.slc,.slc,.slc])],fun _ _ _ vs m I F=>match vs with | [.int _ y0,.string y1,.slice y2 y3 y4,.slice y5 y6 y7,.slice y8 y9 y10]=>Inv8 y0 y1 y2 y3 y4 y5 y6 y7 y8 y9 y10 m I F | _=>False,[],[]⟩),(29,⟨[(6,(.int .i64))],[(2,[.str,.slc,.slc,.slc])],fun _ _ _ vs m I F=>match vs with | [.int _ y0,.string y1,.slice y2 y3 y4,.slice y5 y6 y7,.slice y8 y9 y10]=>Inv29 y0 y1 y2 y3 y4 y5 y6 y7 y8 y9 y10 m I F | _=>False,[],[]⟩)] [7003,12008] [] [] [] [(12,[0,2,4,1,3,5,6,7,8,9,10,11])] [] [] [(12,[1],11)])) [53,54] func24 h
def ref00_copyState.V(s:Nat→Nat×Obj)(nV:Int→Int→Int→Int→Int→Bs→OA→Nat→Nat→Int→Value)(vb vi:Int→Value)(vs:Bs→Value)(vl:OA→Nat→Nat→Value)(bZ:Bs)(bJ:OA)(w b3:Nat)(b0:Int)(I:Imm)(F:Heap)(Q:PostQ)(Inv8:OA→Nat→Nat→Int→Nat→Imm→Heap→Imm→Heap→Prop)(Inv25:Int→OA→Nat→Nat→Int→Nat→Imm→Heap→Imm→Heap→Prop):Prop:=∀t:Nat,∀b:Nat,(∃m:Nat,Inv8 none 0 0 0 m I F I F)∧∀(aH:OA) (aI aJ:Nat) (i:Int) (m1:Nat) (I1:Imm) (F1:Heap),Imm.le I I1→Inv8 aH aI aJ i m1 I F I1 F1→((decide (i<(w:Int))=true→((0≤i∧i<(w:Int))∧∃ad:Addr,bJ=some ad∧∃(h j l n o:Int) (p:Bs) (c:OA) (d e:Nat) (q:Int) (f:OA) (a g:Nat) (r:Int),Rd I1 ((s t)::(b,Obj.cells #[vs (⟨#[]⟩:Bs),vl none 0 0,vi 0] 74 (0,0))::F1) (ad.add (Int.toNat i*10)) [vb h,vb j,vb l,vi n,vb o,vs p,vl c d e,vi q,vl f a g,vi r]∧∀u:Nat,(∃m2:Nat,Inv25 i none 0 0 0 m2 I1 F1 I1 F1)∧∀(x:OA) (y z:Nat) (k:Int) (m3:Nat) (I2:Imm) (F2:Heap),Imm.le I1 I2→Inv25 i x y z k m3 I1 F1 I2 F2→((decide (k<(a:Int))=true→((0≤k∧k<(a:Int))∧∃bY:Addr,f=some bY∧∃(aK aL:Int) (aM:Bs) (aN aO aP bK aQ:Int) (bL:Bs) (av:OA) (aw ax:Nat) (aR ay aS aT aU aV:Int) (aW:Bs) (aa:OA) (ab ac:Nat) (aX aY aZ az a0 a1:Int) (a2:Bs) (ae:OA) (af ag:Nat) (a3 a4 a5 a6 a7 aA:Int) (a8:Bs) (ah:OA) (ai aj:Nat) (a9 ba:Int),Rd I2 ((s t)::(b,Obj.cells #[vs (⟨#[]⟩:Bs),vl none 0 0,vi 0] 74 (0,0))::(u,Obj.cells #[vb h,vb j,vb l,vi n,vb o,vs p,vl c d e,vi q,vl f a g,vi r] 87 (0,0))::F2) (bY.add (Int.toNat k*36)) [vb aK,vb aL,vs aM,vb aN,vb aO,vb aP,vi bK,vb aQ,vs bL,vl av aw ax,vi aR,vb ay,vb aS,vb aT,vi aU,vb aV,vs aW,vl aa ab ac,vi aX,vb aY,vb aZ,vb az,vi a0,vb a1,vs a2,vl ae af ag,vi a3,vb a4,vb a5,vb a6,vi a7,vb aA,vs a8,vl ah ai aj,vi a9,vi ba]∧Tri P 97 #[.agg #[vb aK,vb aL,vs aM,vb aN,vb aO,vb aP,vi bK,vb aQ,vs bL,vl av aw ax,vi aR,vb ay,vb aS,vb aT,vi aU,vb aV,vs aW,vl aa ab ac,vi aX,vb aY,vb aZ,vb az,vi a0,vb a1,vs a2,vl ae af ag,vi a3,vb a4,vb a5,vb a6,vi a7,vb aA,vs a8,vl ah ai aj,vi a9,vi ba]] I2 ((s t)::(b,Obj.cells #[vs (⟨#[]⟩:Bs),vl none 0 0,vi 0] 74 (0,0))::(u,Obj.cells #[vb h,vb j,vb l,vi n,vb o,vs p,vl c d e,vi q,vl f a g,vi r] 87 (0,0))::F2) fun e1 I3 G1=>∃(bM bN:Int) (bO:Bs) (bP bQ bR bS bT:Int) (bU:Bs) (aB:OA) (aC aD:Nat) (bb bc bd be bf bg:Int) (bh:Bs) (ak:OA) (al am:Nat) (bi bj bk bl bm bn:Int) (bo:Bs) (an:OA) (ao ap:Nat) (bp bq br bs bt bu:Int) (bv:Bs) (aq:OA) (ar au:Nat) (bw bx:Int),e1=.returned (.agg #[vb bM,vb bN,vs bO,vb bP,vb bQ,vb bR,vi bS,vb bT,vs bU,vl aB aC aD,vi bb,vb bc,vb bd,vb be,vi bf,vb bg,vs bh,vl ak al am,vi bi,vb bj,vb bk,vb bl,vi bm,vb bn,vs bo,vl an ao ap,vi bp,vb bq,vb br,vb bs,vi bt,vb bu,vs bv,vl aq ar au,vi bw,vi bx])∧∃F3:Heap,List.Perm G1 ((s t)::(b,Obj.cells #[vs (⟨#[]⟩:Bs),vl none 0 0,vi 0] 74 (0,0))::(u,Obj.cells #[vb h,vb j,vb l,vi n,vb o,vs p,vl c d e,vi q,vl f a g,vi r] 87 (0,0))::F3)∧∀(b1:Nat) (I4:Imm),Imm.le I3 I4→I4 b1=some (Obj.cells #[vb bM,vb bN,vs bO,vb bP,vb bQ,vb bR,vi bS,vb bT,vs bU,vl aB aC aD,vi bb,vb bc,vb bd,vb be,vi bf,vb bg,vs bh,vl ak al am,vi bi,vb bj,vb bk,vb bl,vi bm,vb bn,vs bo,vl an ao ap,vi bp,vb bq,vb br,vb bs,vi bt,vb bu,vs bv,vl aq ar au,vi bw,vi bx] 95 (0,0))→TriE P (Builtin.append_ #[85,85] 85 #[vl x y z,vl (some ⟨b1,0,none⟩) 1 1]) I4 ((s t)::(b,Obj.cells #[vs (⟨#[]⟩:Bs),vl none 0 0,vi 0] 74 (0,0))::(u,Obj.cells #[vb h,vb j,vb l,vi n,vb o,vs p,vl c d e,vi q,vl f a g,vi r] 87 (0,0))::F3) fun v I5 G2=>∃(bV:OA) (bW bX:Nat),v=vl bV bW bX∧∃F4:Heap,List.Perm G2 ((s t)::(b,Obj.cells #[vs (⟨#[]⟩:Bs),vl none 0 0,vi 0] 74 (0,0))::(u,Obj.cells #[vb h,vb j,vb l,vi n,vb o,vs p,vl c d e,vi q,vl f a g,vi r] 87 (0,0))::F4)∧(∃m4:Nat,m4<m3∧Inv25 i bV bW bX (IntKind.wrap .i64 (k+1)) m4 I1 F1 I5 F4)))∧(decide (k<(a:Int))=false→Tri P 53 #[nV h j l n o p c d e q] I2 ((s t)::(b,Obj.cells #[vs (⟨#[]⟩:Bs),vl none 0 0,vi 0] 74 (0,0))::(u,Obj.cells #[vb h,vb j,vb l,vi n,vb o,vs p,vl c d e,vi q,vl f a g,vi r] 87 (0,0))::F2) fun e2 I6 G3=>∃(bz bA bB bC bD:Int) (bE:Bs) (aE:OA) (aF aG:Nat) (bF:Int),e2=.returned (nV bz bA bB bC bD bE aE aF aG bF)∧∃F5:Heap,List.Perm G3 ((s t)::(b,Obj.cells #[vs (⟨#[]⟩:Bs),vl none 0 0,vi 0] 74 (0,0))::(u,Obj.cells #[vb h,vb j,vb l,vi n,vb o,vs p,vl c d e,vi q,vl f a g,vi r] 87 (0,0))::F5)∧∀(b2:Nat) (I7:Imm),Imm.le I6 I7→I7 b2=some (Obj.cells #[vb bz,vb bA,vb bB,vi bC,vb bD,vs bE,vl aE aF aG,vi bF,vl x y z,vi r] 87 (0,0))→TriE P (Builtin.append_ #[72,72] 72 #[vl aH aI aJ,vl (some ⟨b2,0,none⟩) 1 1]) I7 ((s t)::(b,Obj.cells #[vs (⟨#[]⟩:Bs),vl none 0 0,vi 0] 74 (0,0))::(u,Obj.cells #[vb h,vb j,vb l,vi n,vb o,vs p,vl c d e,vi q,vl f a g,vi r] 87 (0,0))::F5) fun v1 I8 G4=>∃(bG:OA) (bH bI:Nat),v1=vl bG bH bI∧∃F6:Heap,List.Perm G4 ((s t)::(b,Obj.cells #[vs (⟨#[]⟩:Bs),vl none 0 0,vi 0] 74 (0,0))::(u,Obj.cells #[vb h,vb j,vb l,vi n,vb o,vs p,vl c d e,vi q,vl f a g,vi r] 87 (0,0))::F6)∧(∃m5:Nat,m5<m1∧Inv8 bG bH bI (IntKind.wrap .i64 (i+1)) m5 I F I8 F6)))))∧(decide (i<(w:Int))=false→Q (.returned (.agg #[vs bZ,vl aH aI aJ,vi b0])) I1 F1))
theorem ref00_copyState.vc{i:Bs}{d:OA}{e g:Nat}{j:Int}{I:Imm}{F:Heap}{Q:PostQ}(Inv8:OA→Nat→Nat→Int→Nat→Imm→Heap→Imm→Heap→Prop)(Inv25:Int→OA→Nat→Nat→Int→Nat→Imm→Heap→Imm→Heap→Prop)(h:ref00_copyState.V (fun b=>(b,Obj.cells #[.string i,.slice d e g,.int .i64 j] 74 (0,0))) (fun k o t n f s a l c q=>.agg #[.int .u8 k,.int .u8 o,.int .u8 t,.int .i64 n,.int .u8 f,.string s,.slice a l c,.int .i64 q]) (.int .u8) (.int .i64) .string .slice i d e g j I F Q Inv8 Inv25):Tri P 54 #[.agg #[.string i,.slice d e g,.int .i64 j]] I F Q :=
 tw (A:=(annL [3004,8004] [] [53,97] shT_y3 [(8,⟨[(3,.slc),(4,(.int .i64))],[],fun fs I0 F0 vs m I F=>match fs,vs with | [],[.slice y0 y1 y2,.int _ y3]=>Inv8 y0 y1 y2 y3 m I0 F0 I F | _,_=>False,[],[]⟩),(25,⟨[(6,.slc),(7,(.int .i64))],[],fun fs I0 F0 vs m I F=>match fs,vs with | [.int _ y0],[.slice y1 y2 y3,.int _ y4]=>Inv25 y0 y1 y2 y3 y4 m I0 F0 I F | _,_=>False,[4],[]⟩)] [10007,11008] [] [] [] [(11,[0,1,4,5,6,2,3,7,8,9,10])] [] [] [(11,[6],11)])) [53,97] func54 h
def ref00_copyDo.V(nV:Int→Int→Int→Int→Int→Bs→OA→Nat→Nat→Int→Value)(vb vi:Int→Value)(vs:Bs→Value)(vl:OA→Nat→Nat→Value)(af ag:Int)(ah:Bs)(aX aY aZ a0 a1:Int)(a2:Bs)(aJ:OA)(aK aL:Nat)(aW aC aD aE aF aG:Int)(aH:Bs)(v:OA)(w x:Nat)(aI y z aa ab ac:Int)(ad:Bs)(e:OA)(f g:Nat)(ae n o p q r:Int)(s:Bs)(a:OA)(c d:Nat)(t u:Int)(I:Imm)(F:Heap)(Q:PostQ)  : Prop:=∀aB:Nat,∀b:Nat,Tri P 53 #[nV aX aY aZ a0 a1 a2 aJ aK aL aW] I ((aB,Obj.cells #[vb af,vb ag,vs ah,vb aX,vb aY,vb aZ,vi a0,vb a1,vs a2,vl aJ aK aL,vi aW,vb aC,vb aD,vb aE,vi aF,vb aG,vs aH,vl v w x,vi aI,vb y,vb z,vb aa,vi ab,vb ac,vs ad,vl e f g,vi ae,vb n,vb o,vb p,vi q,vb r,vs s,vl a c d,vi t,vi u] 95 (0,0))::(b,Obj.cells #[vb 0,vb 0,vs (⟨#[]⟩:Bs),vb 0,vb 0,vb 0,vi 0,vb 0,vs (⟨#[]⟩:Bs),vl none 0 0,vi 0,vb 0,vb 0,vb 0,vi 0,vb 0,vs (⟨#[]⟩:Bs),vl none 0 0,vi 0,vb 0,vb 0,vb 0,vi 0,vb 0,vs (⟨#[]⟩:Bs),vl none 0 0,vi 0,vb 0,vb 0,vb 0,vi 0,vb 0,vs (⟨#[]⟩:Bs),vl none 0 0,vi 0,vi 0] 95 (0,0))::F) fun e1 I1 G1=>∃(au av aw ax ay:Int) (az:Bs) (h:OA) (i j:Nat) (aA:Int),e1=.returned (nV au av aw ax ay az h i j aA)∧∃F1:Heap,List.Perm G1 ((aB,Obj.cells #[vb af,vb ag,vs ah,vb aX,vb aY,vb aZ,vi a0,vb a1,vs a2,vl aJ aK aL,vi aW,vb aC,vb aD,vb aE,vi aF,vb aG,vs aH,vl v w x,vi aI,vb y,vb z,vb aa,vi ab,vb ac,vs ad,vl e f g,vi ae,vb n,vb o,vb p,vi q,vb r,vs s,vl a c d,vi t,vi u] 95 (0,0))::(b,Obj.cells #[vb 0,vb 0,vs (⟨#[]⟩:Bs),vb 0,vb 0,vb 0,vi 0,vb 0,vs (⟨#[]⟩:Bs),vl none 0 0,vi 0,vb 0,vb 0,vb 0,vi 0,vb 0,vs (⟨#[]⟩:Bs),vl none 0 0,vi 0,vb 0,vb 0,vb 0,vi 0,vb 0,vs (⟨#[]⟩:Bs),vl none 0 0,vi 0,vb 0,vb 0,vb 0,vi 0,vb 0,vs (⟨#[]⟩:Bs),vl none 0 0,vi 0,vi 0] 95 (0,0))::F1)∧Tri P 53 #[nV aC aD aE aF aG aH v w x aI] I1 ((aB,Obj.cells #[vb af,vb ag,vs ah,vb au,vb av,vb aw,vi ax,vb ay,vs az,vl h i j,vi aA,vb aC,vb aD,vb aE,vi aF,vb aG,vs aH,vl v w x,vi aI,vb y,vb z,vb aa,vi ab,vb ac,vs ad,vl e f g,vi ae,vb n,vb o,vb p,vi q,vb r,vs s,vl a c d,vi t,vi u] 95 (0,0))::(b,Obj.cells #[vb 0,vb 0,vs (⟨#[]⟩:Bs),vb 0,vb 0,vb 0,vi 0,vb 0,vs (⟨#[]⟩:Bs),vl none 0 0,vi 0,vb 0,vb 0,vb 0,vi 0,vb 0,vs (⟨#[]⟩:Bs),vl none 0 0,vi 0,vb 0,vb 0,vb 0,vi 0,vb 0,vs (⟨#[]⟩:Bs),vl none 0 0,vi 0,vb 0,vb 0,vb 0,vi 0,vb 0,vs (⟨#[]⟩:Bs),vl none 0 0,vi 0,vi 0] 95 (0,0))::F1) fun e2 I2 G2=>∃(al am an ao ap:Int) (aq:Bs) (k:OA) (l m:Nat) (ar:Int),e2=.returned (nV al am an ao ap aq k l m ar)∧∃F2:Heap,List.Perm G2 ((aB,Obj.cells #[vb af,vb ag,vs ah,vb au,vb av,vb aw,vi ax,vb ay,vs az,vl h i j,vi aA,vb aC,vb aD,vb aE,vi aF,vb aG,vs aH,vl v w x,vi aI,vb y,vb z,vb aa,vi ab,vb ac,vs ad,vl e f g,vi ae,vb n,vb o,vb p,vi q,vb r,vs s,vl a c d,vi t,vi u] 95 (0,0))::(b,Obj.cells #[vb 0,vb 0,vs (⟨#[]⟩:Bs),vb 0,vb 0,vb 0,vi 0,vb 0,vs (⟨#[]⟩:Bs),vl none 0 0,vi 0,vb 0,vb 0,vb 0,vi 0,vb 0,vs (⟨#[]⟩:Bs),vl none 0 0,vi 0,vb 0,vb 0,vb 0,vi 0,vb 0,vs (⟨#[]⟩:Bs),vl none 0 0,vi 0,vb 0,vb 0,vb 0,vi 0,vb 0,vs (⟨#[]⟩:Bs),vl none 0 0,vi 0,vi 0] 95 (0,0))::F2)∧Tri P 53 #[nV y z aa ab ac ad e f g ae] I2 ((aB,Obj.cells #[vb af,vb ag,vs ah,vb au,vb av,vb aw,vi ax,vb ay,vs az,vl h i j,vi aA,vb al,vb am,vb an,vi ao,vb ap,vs aq,vl k l m,vi ar,vb y,vb z,vb aa,vi ab,vb ac,vs ad,vl e f g,vi ae,vb n,vb o,vb p,vi q,vb r,vs s,vl a c d,vi t,vi u] 95 (0,0))::(b,Obj.cells #[vb 0,vb 0,vs (⟨#[]⟩:Bs),vb 0,vb 0,vb 0,vi 0,vb 0,vs (⟨#[]⟩:Bs),vl none 0 0,vi 0,vb 0,vb 0,vb 0,vi 0,vb 0,vs (⟨#[]⟩:Bs),vl none 0 0,vi 0,vb 0,vb 0,vb 0,vi 0,vb 0,vs (⟨#[]⟩:Bs),vl none 0 0,vi 0,vb 0,vb 0,vb 0,vi 0,vb 0,vs (⟨#[]⟩:Bs),vl none 0 0,vi 0,vi 0] 95 (0,0))::F2) fun e3 I3 G3=>∃(aM aN aO aP aQ:Int) (aR:Bs) (ai:OA) (aj ak:Nat) (aS:Int),e3=.returned (nV aM aN aO aP aQ aR ai aj ak aS)∧∃F3:Heap,List.Perm G3 ((aB,Obj.cells #[vb af,vb ag,vs ah,vb au,vb av,vb aw,vi ax,vb ay,vs az,vl h i j,vi aA,vb al,vb am,vb an,vi ao,vb ap,vs aq,vl k l m,vi ar,vb y,vb z,vb aa,vi ab,vb ac,vs ad,vl e f g,vi ae,vb n,vb o,vb p,vi q,vb r,vs s,vl a c d,vi t,vi u] 95 (0,0))::(b,Obj.cells #[vb 0,vb 0,vs (⟨#[]⟩:Bs),vb 0,vb 0,vb 0,vi 0,vb 0,vs (⟨#[]⟩:Bs),vl none 0 0,vi 0,vb 0,vb 0,vb 0,vi 0,vb 0,vs (⟨#[]⟩:Bs),vl none 0 0,vi 0,vb 0,vb 0,vb 0,vi 0,vb 0,vs (⟨#[]⟩:Bs),vl none 0 0,vi 0,vb 0,vb 0,vb 0,vi 0,vb 0,vs (⟨#[]⟩:Bs),vl none 0 0,vi 0,vi 0] 95 (0,0))::F3)∧Tri P 53 #[nV n o p q r s a c d t] I3 ((aB,Obj.cells #[vb af,vb ag,vs ah,vb au,vb av,vb aw,vi ax,vb ay,vs az,vl h i j,vi aA,vb al,vb am,vb an,vi ao,vb ap,vs aq,vl k l m,vi ar,vb aM,vb aN,vb aO,vi aP,vb aQ,vs aR,vl ai aj ak,vi aS,vb n,vb o,vb p,vi q,vb r,vs s,vl a c d,vi t,vi u] 95 (0,0))::(b,Obj.cells #[vb 0,vb 0,vs (⟨#[]⟩:Bs),vb 0,vb 0,vb 0,vi 0,vb 0,vs (⟨#[]⟩:Bs),vl none 0 0,vi 0,vb 0,vb 0,vb 0,vi 0,vb 0,vs (⟨#[]⟩:Bs),vl none 0 0,vi 0,vb 0,vb 0,vb 0,vi 0,vb 0,vs (⟨#[]⟩:Bs),vl none 0 0,vi 0,vb 0,vb 0,vb 0,vi 0,vb 0,vs (⟨#[]⟩:Bs),vl none 0 0,vi 0,vi 0] 95 (0,0))::F3) fun e4 I4 G4=>∃(a3 a4 a5 a6 a7:Int) (a8:Bs) (aT:OA) (aU aV:Nat) (a9:Int),e4=.returned (nV a3 a4 a5 a6 a7 a8 aT aU aV a9)∧∃F4:Heap,List.Perm G4 ((aB,Obj.cells #[vb af,vb ag,vs ah,vb au,vb av,vb aw,vi ax,vb ay,vs az,vl h i j,vi aA,vb al,vb am,vb an,vi ao,vb ap,vs aq,vl k l m,vi ar,vb aM,vb aN,vb aO,vi aP,vb aQ,vs aR,vl ai aj ak,vi aS,vb n,vb o,vb p,vi q,vb r,vs s,vl a c d,vi t,vi u] 95 (0,0))::(b,Obj.cells #[vb 0,vb 0,vs (⟨#[]⟩:Bs),vb 0,vb 0,vb 0,vi 0,vb 0,vs (⟨#[]⟩:Bs),vl none 0 0,vi 0,vb 0,vb 0,vb 0,vi 0,vb 0,vs (⟨#[]⟩:Bs),vl none 0 0,vi 0,vb 0,vb 0,vb 0,vi 0,vb 0,vs (⟨#[]⟩:Bs),vl none 0 0,vi 0,vb 0,vb 0,vb 0,vi 0,vb 0,vs (⟨#[]⟩:Bs),vl none 0 0,vi 0,vi 0] 95 (0,0))::F4)∧Q (.returned (.agg #[vb af,vb ag,vs ah,vb au,vb av,vb aw,vi ax,vb ay,vs az,vl h i j,vi aA,vb al,vb am,vb an,vi ao,vb ap,vs aq,vl k l m,vi ar,vb aM,vb aN,vb aO,vi aP,vb aQ,vs aR,vl ai aj ak,vi aS,vb a3,vb a4,vb a5,vi a6,vb a7,vs a8,vl aT aU aV,vi a9,vi u])) I4 (F4)
theorem ref00_copyDo.vc{ax ay:Int}{az:Bs}{aA aB aC aD aE:Int}{aF:Bs}{u:OA}{v w:Nat}{x y z aa ab ac:Int}{ad:Bs}{b:OA}{d e:Nat}{ae af ag ah ai aj:Int}{ak:Bs}{g:OA}{i j:Nat}{al am ao ap aq ar:Int}{au:Bs}{m:OA}{p r:Nat}{av aw:Int}{I:Imm}{F:Heap}{Q:PostQ}  (h:ref00_copyDo.V (fun k o t n f s a l c q=>.agg #[.int .u8 k,.int .u8 o,.int .u8 t,.int .i64 n,.int .u8 f,.string s,.slice a l c,.int .i64 q]) (.int .u8) (.int .i64) .string .slice ax ay az aA aB aC aD aE aF u v w x y z aa ab ac ad b d e ae af ag ah ai aj ak g i j al am ao ap aq ar au m p r av aw I F Q):Tri P 97 #[.agg #[.int .u8 ax,.int .u8 ay,.string az,.int .u8 aA,.int .u8 aB,.int .u8 aC,.int .i64 aD,.int .u8 aE,.string aF,.slice u v w,.int .i64 x,.int .u8 y,.int .u8 z,.int .u8 aa,.int .i64 ab,.int .u8 ac,.string ad,.slice b d e,.int .i64 ae,.int .u8 af,.int .u8 ag,.int .u8 ah,.int .i64 ai,.int .u8 aj,.string ak,.slice g i j,.int .i64 al,.int .u8 am,.int .u8 ao,.int .u8 ap,.int .i64 aq,.int .u8 ar,.string au,.slice m p r,.int .i64 av,.int .i64 aw]] I F Q :=
 tw (A:=(an [] [53] shT_y3)) [53] func97 h
def ref15_Word.V(vt:Bool→Value)(s:Bs)(I:Imm)(F:Heap)(Q:PostQ)  : Prop:=Tri P 67 #[.string s] I F fun e1 I1 G1=>∃(r:Bool),e1=.returned (vt r)∧∃F1:Heap,List.Perm G1 F1∧(((((⟨#[122]⟩:Bs).size+s.size:Nat):Int)≤IntKind.i64.max)∧Tri P 67 (#[.string ((⟨#[122]⟩:Bs)++s)]) I1 F1 fun e2 I2 G2=>∃(r1:Bool),e2=.returned (vt r1)∧∃F2:Heap,List.Perm G2 F2∧(((!r)=true→Q (.returned (vt true)) I2 F2)∧((!r)=false→Q (.returned (vt (!r1))) I2 F2)))
theorem ref15_Word.vc{s:Bs}{I:Imm}{F:Heap}{Q:PostQ}  (h:ref15_Word.V .bool s I F Q):Tri P 55 #[.string s] I F Q :=
 tw (A:=(an [3001] [67] shT_y3)) [67] func55 h
end Go.Lx
namespace Go.Lx
open Go.Vc
abbrev awS:StgP:=(parseS exS).1
abbrev awT:StgP:=(parseS exT).1
theorem aw_s:awS.types=zTF:=by kernel_rfl
theorem aw_t:awT.types=⟨151,36,false⟩:=by kernel_rfl
theorem aw_n:typeOf awS (parseE exN).1=(3,zTF):=by kernel_rfl
theorem aw_m:(typeOf awS (parseE exM).1).2=⟨152,4,true⟩:=by kernel_rfl
theorem aw_ls:awS.Light:=StgP.light (of_decide_eq_true (by kernel_rfl))
theorem aw_lt:awT.Light:=StgP.light (of_decide_eq_true (by kernel_rfl))
theorem aw_zn:(parseE exN).1.size≤1048576:=of_decide_eq_true (by kernel_rfl)
theorem aw_zm:(parseE exM).1.size≤1048576:=of_decide_eq_true (by kernel_rfl)
theorem sub0{F:Heap}:∀x,x∈([]:Heap)→x∈F:=fun x hx=>absurd hx (by simp)
theorem awake15_spec{I:Imm}(hg:Gl I)(F:Heap):Tri P 10 #[] I F (Ret (.bool true) F):=by
 refine law15_awake.vc ?_
 unfold law15_awake.V
 refine (rStrategy_spec exS (by unfold Short;decide) I _).mono fun e I1 G l1 ⟨s,he,hs,oks,hG⟩=>?_
 refine⟨_,_,_,_,_,_,_,_,_,_,_,_,_,he,F,by rw[hG],fun b_s b_=>?_⟩
 refine (rStrategy_spec exT (by unfold Short;decide) I1 _).mono fun e I2 G l2 ⟨t,he,ht,okt,hG⟩=>?_
 refine⟨_,_,_,_,_,_,_,_,_,_,_,_,_,he,F,by rw[hG],fun b_t b_1=>?_⟩
 refine (rExpr_spec exN (by unfold Short;decide) I2 _).mono fun e I3 G l3 ⟨n,he,hn,okn,hG⟩=>?_
 refine⟨_,_,_,_,_,_,_,_,_,_,_,_,_,he,F,by rw[hG],fun b_n b_2=>?_⟩
 refine (rExpr_spec exM (by unfold Short;decide) I3 _).mono fun e I4 G l4 ⟨m,he,hm,okm,hG⟩=>?_
 refine⟨_,_,_,_,_,_,_,_,_,_,_,_,_,he,F,by rw[hG],fun b_m b_3=>?_⟩
 have ls:s.p.Light:=hs▸aw_ls
 have lt:t.p.Light:=ht▸aw_lt
 have lr:=ls.regs
 simp only[StgN.p,List.length_map] at lr
 have l24:=Imm.le_trans l2 (Imm.le_trans l3 l4)
 have l34:=Imm.le_trans l3 l4
 have hg4:=hg.mono (Imm.le_trans l1 l24)
 refine Tri.retV (pCheck_spec s ls (oks.mono l24 sub0) hg4) fun v5 I5 l5 hv5=>⟨v5,rfl,F,.refl _, ?_⟩
 refine Tri.retV (pCheck_spec t lt (okt.mono (Imm.le_trans l34 l5) sub0) (hg4.mono l5)) fun v6 I6 l6 hv6=>⟨v6,rfl,F,.refl _, ?_⟩
 have l56:=Imm.le_trans l5 l6
 refine Tri.ret (Wrong_chk (hg4.mono l56) (types_Z t.p) hv6 _) fun I7 l7=>⟨_,_,rfl,F,.refl _, ?_⟩
 have l57:=Imm.le_trans l56 l7
 refine Tri.retV (pOf_spec s lr n (by rw[hn];exact aw_zn) I7 _ (oks.mono (Imm.le_trans l24 l57) sub0) (okn.mono (Imm.le_trans l4 l57) sub0)) fun v8 I8 l8 ⟨w8,hv8,hw8⟩=>⟨_,_,congrArg Ending.returned hv8,F,.refl _, ?_⟩
 have l58:=Imm.le_trans l57 l8
 refine Tri.retV (pOf_spec s lr m (by rw[hm];exact aw_zm) I8 _ (oks.mono (Imm.le_trans l24 l58) sub0) (okm.mono l58 sub0)) fun v9 I9 l9 ⟨w9,hv9,hw9⟩=>⟨_,_,congrArg Ending.returned hv9,F,.refl _, ?_⟩
 refine Tri.ret (Wrong_of (hg4.mono (Imm.le_trans l58 l9)) (typeOf_Z s.p m.px) hw9 _) fun I10 l10=>⟨_,_,rfl,F,.refl _, ?_⟩
 have e5:v5=.nilIface:=hv5.1 (by rw[hs];show awS.types.e=0;rw[aw_s];rfl)
 have e8:w8=.nilIface:=hw8.1 (by rw[hs,hn];show (typeOf awS (parseE exN).1).2.e=0;rw[aw_n];rfl)
 have et:t.p.types=⟨151,36,false⟩:=by rw[ht];exact aw_t
 have em:(typeOf s.p m.px).2=⟨152,4,true⟩:=by rw[hs,hm];exact aw_m
 have en:(typeOf s.p n.px).1=3:=by rw[hs,hn];show (typeOf awS (parseE exN).1).1=3;rw[aw_n]
 rw[e5,e8,et,em,en]
 refine⟨true,nil_nil' (by kernel_rfl),fun _=>⟨fun _=>⟨fun _=>⟨true,nil_nil' (by kernel_rfl),fun _=>⟨fun _=>⟨fun _=>⟨rfl,rfl⟩,fun h=>(by cases h)⟩,fun h=>(by cases h)⟩,fun h=>(by cases h)⟩,fun h=>(by cases h)⟩,fun h=>(by cases h)⟩,fun h=>(by cases h)⟩
theorem far15_spec(s:StgN)(t:Nd)(hs:s.p.Short)(ht:t.px.ShortP)(I:Imm)(F:Heap)(hok:s.Ok I F)(hto:NdOk I F t):Tri P 11 #[s.v,t.v] I F fun e I' G=>∃r:Bool,e=.returned (.bool r)∧G=F∧(r=false→s.p.Light∧t.px.size≤1048576):=by
 refine law15_far.vc ?_
 unfold law15_far.V
 intro b_s b_n
 refine (weighStg_spec s hs I _ hok.cons.cons).mono fun e I1 G l1 ⟨r,he,hG,h0,h1,hl⟩=>?_
 subst hG
 refine⟨r,he,F,.refl _,fun hr=>⟨true,rfl,rfl,fun h=>(by cases h)⟩,fun hr=>?_⟩
 have hr:=of_decide_eq_false hr
 refine Tri.ret (weigh_spec t ht r 0 I1 _ (hto.mono l1 fun y hy=>.tail _ (.tail _ hy)) h0 (by omega) (by decide) (by decide)) fun I2 l2=>⟨_,rfl,F,.refl _,_,rfl,rfl,fun h=>⟨hl (by omega), ?_⟩⟩
 have h:=of_decide_eq_false h
 have:=Px.weigh_size t.px r 0 (by omega)
 omega
end Go.Lx
namespace Go.Vc
theorem append_whole{P:Program}{α:Type}{z:Nat}{f:α→List Value}(hz:∀x,(f x).length=z)(hz0:0<z){t ty e:TypeId}{zv:Value}{by':Nat}(ht:P.underlying t=some (.slice e))(hi:(P.info? e).map (fun i=>(i.zero,i.size,i.bytes))=some (some zv,z,by'))(hzs:zv.cells.size=z)(hb:1≤by')
  {xs:List α} {sa:Option Addr} {m sc:Nat} {I:Imm} {F:Heap} (hS:SlG I F z f sa m xs) (hfit:xs.length*by'≤140737488355328) :
  TriE P (Builtin.append_ #[t,t] ty #[.slice none 0 0,.slice sa m sc]) I F fun v I' G=>∃a' n' c' A',v=.slice a' n' c'∧Acc z f e a' n' c' xs A'∧G=A'++F:=by
 cases h:P.info? e with
 | none=>rw[h] at hi;cases hi
 | some i =>
   rw[h] at hi
   simp only[Option.map_some,Option.some.injEq,Prod.mk.injEq] at hi
   obtain⟨hzv,hsz,hby⟩:=hi
   intro w hw
   obtain⟨hn,hr⟩:=hS
   subst hn hsz hby
   by_cases hx:xs=[]
   ·subst hx
    refine⟨.slice none 0 0,w,I,F, ?_,Imm.le_refl I,hw,none,0,0,[],rfl,Acc.nil,rfl⟩
    cases sa with
    | none=>simp[Builtin.append_,run_underlying ht,sizeOf,typeInfo,h,Builtin.lenOf,Builtin.firstCells]
    | some a =>
      have hf:=run_firstCells_some (P:=P) w i.size 0 a 0 sc [] (by simp) (by simp)
      simp[Builtin.append_,run_underlying ht,sizeOf,typeInfo,h,Builtin.lenOf,hf]
   ·obtain⟨ad,rfl,hrd⟩:=hr hx
    have hlen:(xs.flatMap f).length=xs.length*i.size:=flat_len hz xs
    have hxp:0<xs.length:=List.length_pos_iff.2 hx
    have hle:xs.length≤140737488355328:=Nat.le_trans (Nat.le_mul_of_pos_right _ hb) hfit
    have hnews:∀j u,(xs.flatMap f)[j]? = some u→w.cell? (ad.add j)=some u:=fun j u hj=>by
     have hjl:j<xs.length*i.size:=by
      rw[←hlen];exact (List.getElem?_eq_some_iff.1 hj).1
     have h1:j / i.size<xs.length:=Nat.div_lt_of_lt_mul (by rw[Nat.mul_comm];exact hjl)
     have h2:j % i.size<i.size:=Nat.mod_lt _ hz0
     have hxi:xs[j / i.size]? = some xs[j / i.size]:=List.getElem?_eq_getElem h1
     have hc:=(hrd _ _ hxi).cell hw (j % i.size) (by rw[hz];exact h2)
     have hg:=flat_get f i.size hz xs _ _ (j % i.size) hxi h2
     have hd:j / i.size*i.size+j % i.size=j:=Nat.div_add_mod' j i.size
     rw[hd,hj] at hg
     rw[Addr.add_add,hd,←hg] at hc
     exact hc
    have hrun:=run_append_nil (P:=P) w t ty e i zv ht h hzv ad xs.length sc _ hlen hnews hxp (by omega) (by omega)
    have hge:=grownCap_ge w xs.length 0 e
    have hsat:Sat I F w.drew:=hw.of_heap rfl ⟨rfl,rfl⟩
    refine⟨_,_,I,_,hrun,Imm.le_refl I,hsat.alloc _,_,_,_,[_],rfl,⟨rfl,.inr ⟨_,_,rfl,rfl, ?_,hge, ?_⟩⟩,rfl⟩
    ·simp only[Array.size_append,List.size_toArray,size_zeroCells,hzs,hlen,←Nat.add_mul]
     congr 1;omega
    ·rw[Array.toList_append,←hlen];exact List.take_left
end Go.Vc
namespace Go.Lx
open Go.Vc
theorem flatH_nils:∀n:Nat,flatH n (fun _=>([]:Heap))=[]
 | 0=>by rw[flatH_zero]
 | n+1=>by rw[flatH_succ,flatH_nils n];rfl
theorem copyDo_spec(d:DoN)(hs:Small d.p.nds)(I:Imm)(F:Heap)(hd:d.Ok I F):Tri P 97 #[d.v] I F fun e I' G=>∃(d':DoN) (H:Heap),e=.returned d'.v∧d'.p=d.p∧DoOwn false d' H∧G.Perm (H++F):=by
 refine ref00_copyDo.vc ?_
 unfold ref00_copyDo.V
 intro b_d b
 simp only[Small,DoP.nds,DoN.p,List.mem_cons,List.not_mem_nil,or_false] at hs
 refine (copy_spec d.side (hs _ (.inl rfl)) I _ hd.1.cons.cons).mono fun e I1 G l1 ⟨t1,H1,he,p1,o1,hG⟩=>?_
 subst he
 refine⟨_,_,_,_,_,_,_,_,_,_,rfl,H1++F,hG.trans (perm_of fun z=>by simp only[cn_app,cn_cons,cn_nil];omega), ?_⟩
 have k1:d.Ok I1 (H1++F):=hd.mono l1 fun a ha=>List.mem_append_right _ ha
 refine (copy_spec d.qty (hs _ (.inr (.inl rfl))) I1 _ k1.2.1.cons.cons).mono fun e I2 G l2 ⟨t2,H2,he,p2,o2,hG⟩=>?_
 subst he
 refine⟨_,_,_,_,_,_,_,_,_,_,rfl,H2++(H1++F),hG.trans (perm_of fun z=>by simp only[cn_app,cn_cons,cn_nil];omega), ?_⟩
 have k2:d.Ok I2 (H2++(H1++F)):=k1.mono l2 fun a ha=>List.mem_append_right _ ha
 refine (copy_spec d.price (hs _ (.inr (.inr (.inl rfl)))) I2 _ k2.2.2.1.cons.cons).mono fun e I3 G l3 ⟨t3,H3,he,p3,o3,hG⟩=>?_
 subst he
 refine⟨_,_,_,_,_,_,_,_,_,_,rfl,H3++(H2++(H1++F)),hG.trans (perm_of fun z=>by simp only[cn_app,cn_cons,cn_nil];omega), ?_⟩
 have k3:d.Ok I3 (H3++(H2++(H1++F))):=k2.mono l3 fun a ha=>List.mem_append_right _ ha
 refine (copy_spec d.value (hs _ (.inr (.inr (.inr rfl)))) I3 _ k3.2.2.2.cons.cons).mono fun e I4 G l4 ⟨t4,H4,he,p4,o4,hG⟩=>?_
 subst he
 refine⟨_,_,_,_,_,_,_,_,_,_,rfl,H4++(H3++(H2++(H1++F))),hG.trans (perm_of fun z=>by simp only[cn_app,cn_cons,cn_nil];omega),⟨d.kind,d.order,d.name,t1,t2,t3,t4,d.pos⟩,H1++(H2++(H3++H4)),rfl, ?_,⟨H1,H2,H3,H4,rfl,o1,o2,o3,o4⟩,(perm_of fun z=>by simp only[cn_app,cn_cons,cn_nil];omega)⟩
 show DoP.mk _ _ _ _ _ _ _ _=_
 rw[p1,p2,p3,p4];rfl
theorem copyState_spec(x:StateN)(hs:x.p.Light)(I:Imm)(F:Heap)(hx:x.Ok I F):Tri P 54 #[x.v] I F fun e I' G=>∃(x':StateN) (H:Heap),e=.returned x'.v∧x'.p=x.p∧StateOwn false x' H∧G.Perm (H++F):=by
 have hl:=hs.1
 have hru:∀r∈x.rules,r.p.Light:=fun r hr=>hs.2 _ (List.mem_map_of_mem hr)
 have hdl:∀r∈x.rules,r.dos.length≤1048576:=fun r hr=>by have:=(hru r hr).2.1;simpa only[RuleN.p,List.length_map] using this
 simp only[StateN.p,List.length_map] at hl
 refine ref00_copyState.vc
  (fun a n c i m I0 F0 I' F'=>0≤i∧i≤x.rules.length∧m=(x.rules.length-i).toNat∧∃ks:List RuleN,ks.map RuleN.p=(x.rules.take i.toNat).map RuleN.p∧Part 10 RuleN.enc 87 (RuleOwn false) a n c ks F F')
  (fun i a n c k m I0 F0 I' F'=>∃r,x.rules[i.toNat]? = some r∧0≤k∧k≤r.dos.length∧m=(r.dos.length-k).toNat∧∃ds:List DoN,ds.map DoN.p=(r.dos.take k.toNat).map DoN.p∧Part 36 DoN.enc 95 (DoOwn false) a n c ds F0 F') ?_
 unfold ref00_copyState.V
 intro b_x b
 refine⟨⟨_,by omega,by omega,rfl,[],by simp,Part.nil⟩,fun a n c i m I1 F1 l1 ⟨g0,g1,gm,ks,gk,gP⟩=>⟨fun hlt=>?_,fun hlt=>?_⟩⟩
 ·have hlt:=of_decide_eq_true hlt
  have ok1:x.Ok I1 F1:=hx.mono l1 gP.mem
  obtain⟨ad,r,had,hr,hrd,hrm⟩:=SlG.atm (ok1.cons.cons (x:=(b_x,Obj.cells #[.string x.name,.slice x.a x.rules.length x.c,.int .i64 x.pos] 74 (0,0))) (s:=x)).1 g0 hlt
  have hkl:=map_len0 gk (by omega)
  refine⟨⟨g0,hlt⟩,ad,had,_,_,_,_,_,_,_,_,_,_,_,_,_,_,hrd,fun b_r=>⟨⟨_,r,hr,by omega,by omega,rfl,[],by simp,Part.nil⟩,fun da dn dc k m3 I2 F2 l2 ⟨r',hr',k0,k1,km,ds,dk,dP⟩=>⟨fun hlt2=>?_,fun hlt2=>?_⟩⟩⟩
  ·obtain rfl:r=r':=by rw[hr] at hr';exact Option.some.inj hr'
   have hlt2:=of_decide_eq_true hlt2
   have ok2:r.Ok I2 F2:=(ok1.2 r hrm).mono l2 dP.mem
   obtain⟨ad1,d,had1,hd,hrd1,hdm⟩:=SlG.atm (ok2.cons.cons.cons (x:=(b_x,Obj.cells #[.string x.name,.slice x.a x.rules.length x.c,.int .i64 x.pos] 74 (0,0))) (s:=r)).2.1 k0 hlt2
   have hdlen:=map_len0 dk (by omega)
   have hrl:=hdl r hrm
   refine⟨⟨k0,hlt2⟩,ad1,had1,_,_,_,_,_,_,_,_,_,_,_,_,_,_,_,_,_,_,_,_,_,_,_,_,_,_,_,_,_,_,_,_,_,_,_,_,_,_,_,_,_,_,_,_,hrd1,(copyDo_spec d ((hru r hrm).2.2 _ (List.mem_map_of_mem hdm)) I2 _ ((ok2.2.2 d hdm).cons.cons.cons)).mono fun e I3 G l3 ⟨d',Hd,he,pd,od,hG⟩=>?_⟩
   subst he
   refine⟨_,_,_,_,_,_,_,_,_,_,_,_,_,_,_,_,_,_,_,_,_,_,_,_,_,_,_,_,_,_,_,_,_,_,_,_,_,_,_,_,_,_,_,_,rfl,Hd++F2,hG.trans (perm_of fun z=>by simp only[cn_app,cn_cons,cn_nil];omega),fun b1 I4 l4 hb1=>?_⟩
   refine TriE.mono (push_spec (f:=DoN.enc) (fun _=>rfl) (zv:=(⟨0,0,⟨#[]⟩,zNd,zNd,zNd,zNd,0⟩:DoN).v) (by':=320) (by kernel_rfl) (by kernel_rfl) rfl (by decide) dP (x:=d') (fun u hu=>?_) (R0:=[(b_x,Obj.cells #[.string x.name,.slice x.a x.rules.length x.c,.int .i64 x.pos] 74 (0,0)),(b,Obj.cells #[.string ⟨#[]⟩,.slice none 0 0,.int .i64 0] 74 (0,0)),(b_r,Obj.cells #[.int .u8 r.when.kind,.int .u8 r.when.oper,.int .u8 r.when.typ,.int .i64 r.when.n,.int .u8 r.when.field,.string r.when.name,.slice r.when.a r.when.kids.length r.when.c,.int .i64 r.when.pos,.slice r.a r.dos.length r.c,.int .i64 r.pos] 87 (0,0))]) rfl hb1 od (.refl _) (by omega)) fun v I5 G2 l5 ⟨a',n',c',hv,F3,hG2,hP2⟩=>?_
   ·simp only[DoN.enc,List.mem_cons,List.not_mem_nil,or_false] at hu
    rcases hu with rfl | rfl | rfl | rfl | rfl | rfl | rfl | rfl | rfl | rfl | rfl | rfl | rfl | rfl | rfl | rfl | rfl | rfl | rfl | rfl | rfl | rfl | rfl | rfl | rfl | rfl | rfl | rfl | rfl | rfl | rfl | rfl | rfl | rfl | rfl | rfl<;>rfl
   ·refine⟨a',n',c',hv,F3,hG2,(r.dos.length-(k+1)).toNat,by omega,r,hr, ?_⟩
    rw[w64 (n:=k+1) (by omega)]
    refine⟨by omega,by omega,rfl,ds++[d'], ?_,hP2⟩
    rw[show (k+1).toNat=k.toNat+1 by omega,map_snoc0 hd,List.map_append,dk,List.map_singleton,pd]
  ·obtain rfl:r=r':=by rw[hr] at hr';exact Option.some.inj hr'
   have hlt2:=of_decide_eq_false hlt2
   have ok2:r.Ok I2 F2:=(ok1.2 r hrm).mono l2 dP.mem
   refine (copy_spec r.when (hru r hrm).1 I2 _ ok2.1.cons.cons.cons).mono fun e I6 G l6 ⟨w,Hw,he,pw,ow,hG⟩=>?_
   subst he
   refine⟨_,_,_,_,_,_,_,_,_,_,rfl,Hw++F2,hG.trans (perm_of fun z=>by simp only[cn_app,cn_cons,cn_nil];omega),fun b2 I7 l7 hb2=>?_⟩
   have hdn:=dP.len
   subst hdn
   obtain⟨Hd,hO,hp⟩:=dP.own
   refine TriE.mono (push_spec (f:=RuleN.enc) (fun _=>rfl) (zv:=(⟨zNd,none,0,[],0⟩:RuleN).v) (by':=104) (by kernel_rfl) (by kernel_rfl) rfl (by decide) gP (x:=⟨w,da,dc,ds,r.pos⟩) (fun u hu=>?_) (R0:=[(b_x,Obj.cells #[.string x.name,.slice x.a x.rules.length x.c,.int .i64 x.pos] 74 (0,0)),(b,Obj.cells #[.string ⟨#[]⟩,.slice none 0 0,.int .i64 0] 74 (0,0)),(b_r,Obj.cells #[.int .u8 r.when.kind,.int .u8 r.when.oper,.int .u8 r.when.typ,.int .i64 r.when.n,.int .u8 r.when.field,.string r.when.name,.slice r.when.a r.when.kids.length r.when.c,.int .i64 r.when.pos,.slice r.a r.dos.length r.c,.int .i64 r.pos] 87 (0,0))]) rfl hb2 (Hx:=Hw++Hd) ⟨Hw,Hd,rfl,ow,hO⟩ ?_ (by omega)) fun v I8 G2 l8 ⟨a',n',c',hv,F3,hG2,hP2⟩=>?_
   ·simp only[RuleN.enc,List.mem_cons,List.not_mem_nil,or_false] at hu
    rcases hu with rfl | rfl | rfl | rfl | rfl | rfl | rfl | rfl | rfl | rfl<;>rfl
   ·exact (perm_of fun z=>by have q0:=cn_perm hp z;simp only[cn_app,cn_cons,cn_nil] at q0 ⊢;omega)
   ·refine⟨a',n',c',hv,F3,hG2,(x.rules.length-(i+1)).toNat,by omega, ?_⟩
    rw[w64 (n:=i+1) (by omega)]
    refine⟨by omega,by omega,rfl,_, ?_,hP2⟩
    rw[show (i+1).toNat=i.toNat+1 by omega,map_snoc0 hr,List.map_append,gk,List.map_singleton]
    congr 2
    show RuleP.mk w.px (ds.map DoN.p) r.pos=⟨r.when.px,r.dos.map DoN.p,r.pos⟩
    rw[pw,dk,List.take_of_length_le (by omega)]
 ·have hlt:=of_decide_eq_false hlt
  have hn:=gP.len
  subst hn
  obtain⟨H,hO,hp⟩:=gP.own
  refine⟨⟨x.name,a,c,ks,x.pos⟩,H,rfl, ?_,hO,hp⟩
  show StateP.mk x.name (ks.map RuleN.p) x.pos=⟨x.name,x.rules.map RuleN.p,x.pos⟩
  rw[gk,List.take_of_length_le (by omega)]
theorem copyStg_spec(s:StgN)(hs:s.p.Light)(I:Imm)(F:Heap)(hx:s.Ok I F):Tri P 24 #[s.v] I F fun e I' G=>∃(s':StgN) (H:Heap),e=.returned s'.v∧s'.p=s.p∧StgOwn false s' H∧G.Perm (H++F):=by
 have lr:=hs.regs
 have ls:=hs.slots
 have lt:=hs.states
 simp only[StgN.p,List.length_map] at lr ls lt
 have hnm:∀r∈s.regs,r.init.px.size≤1048576:=fun r hr=>hs.reg _ (List.mem_map_of_mem hr)
 have hst:∀x∈s.states,x.p.Light:=fun x hx=>hs.state _ (List.mem_map_of_mem hx)
 refine ref00_CopyStrategy.vc
  (fun i nm a n c a2 n2 c2 a3 n3 c3 m I' F'=>nm=s.name∧(a2=none∧n2=0∧c2=0)∧(a3=none∧n3=0∧c3=0)∧0≤i∧i≤s.regs.length∧m=(s.regs.length-i).toNat∧Imm.le I I'∧∃rs:List RegN,rs.map RegN.p=(s.regs.take i.toNat).map RegN.p∧Part 11 RegN.enc 68 (RegOwn false) a n c rs F F')
  (fun i nm a n c a2 n2 c2 a3 n3 c3 m I' F'=>nm=s.name∧0≤i∧i≤s.states.length∧m=(s.states.length-i).toNat∧Imm.le I I'∧∃(rs:List RegN) (H1:Heap) (H2:Heap) (ts:List StateN),rs.map RegN.p=s.regs.map RegN.p∧n=rs.length∧OwnL false 11 RegN.enc 68 (RegOwn false) a n c rs H1 ∧
    n2=s.slots.length∧OwnL false 2 SlotP.enc 71 SlotOwn a2 n2 c2 s.slots H2∧ts.map StateN.p=(s.states.take i.toNat).map StateN.p∧Part 3 StateN.enc 74 (StateOwn false) a3 n3 c3 ts (H1++(H2++F)) F') ?_
 unfold ref00_CopyStrategy.V
 intro b_s b b_x
 refine⟨⟨_,rfl,⟨rfl,rfl,rfl⟩,⟨rfl,rfl,rfl⟩,by omega,by omega,rfl,Imm.le_refl I,[],by simp,Part.nil⟩,fun i nm a n c a2 n2 c2 a3 n3 c3 m I1 F1 _ ⟨hnm1,⟨e1,e2,e3⟩,⟨e4,e5,e6⟩,g0,g1,gm,l1,rs,gk,gP⟩=>⟨fun hlt=>?_,fun hlt=>?_⟩⟩
 ·subst e1 e2 e3 e4 e5 e6 hnm1
  have hlt:=of_decide_eq_true hlt
  have ok1:s.Ok I1 F1:=hx.mono l1 gP.mem
  obtain⟨ad,r,had,hr,hrd,hrm⟩:=SlG.atm (ok1.cons.cons.cons (x:=(b_s,Obj.cells #[.string s.name,.slice s.ra s.regs.length s.rc,.slice s.sa s.slots.length s.sc,.slice s.ta s.states.length s.tc] 26 (0,0))) (s:=s)).regs g0 hlt
  have hkl:=map_len0 gk (by omega)
  refine⟨⟨g0,hlt⟩,ad,had,_,_,_,_,_,_,_,_,_,_,_,_,_,hrd,fun b_r=>(copy_spec r.init (hnm r hrm) I1 _ ((ok1.reg r hrm).mono (Imm.le_refl _) fun a ha=>.tail _ (.tail _ (.tail _ (.tail _ ha))))).mono fun e I2 G l2 ⟨w,Hw,he,pw,ow,hG⟩=>?_⟩
  subst he
  refine⟨_,_,_,_,_,_,_,_,_,_,rfl,Hw++F1,hG.trans (perm_of fun z=>by simp only[cn_app,cn_cons,cn_nil];omega),fun b1 I3 l3 hb1=>?_⟩
  refine TriE.mono (push_spec (f:=RegN.enc) (fun _=>rfl) (zv:=(⟨⟨#[]⟩,0,zNd,0⟩:RegN).v) (by':=104) (by kernel_rfl) (by kernel_rfl) rfl (by decide) gP (x:=⟨r.name,r.typ,w,r.pos⟩) (fun u hu=>?_) (R0:=[(b_s,Obj.cells #[.string s.name,.slice s.ra s.regs.length s.rc,.slice s.sa s.slots.length s.sc,.slice s.ta s.states.length s.tc] 26 (0,0)),(b,_),(b_x,_),(b_r,_)]) rfl hb1 (Hx:=Hw) ow (.refl _) (by omega)) fun v I4 G2 l4 ⟨a',n',c',hv,F3,hG2,hP2⟩=>?_
  ·simp only[RegN.enc,List.mem_cons,List.not_mem_nil,or_false] at hu
   rcases hu with rfl | rfl | rfl | rfl | rfl | rfl | rfl | rfl | rfl | rfl | rfl<;>rfl
  ·refine⟨a',n',c',hv,F3,hG2,(s.regs.length-(i+1)).toNat,by omega,rfl,⟨rfl,rfl,rfl⟩,⟨rfl,rfl,rfl⟩, ?_⟩
   rw[w64 (n:=i+1) (by omega)]
   refine⟨by omega,by omega,rfl,Imm.le_trans l1 (Imm.le_trans l2 (Imm.le_trans l3 l4)),_, ?_,hP2⟩
   rw[show (i+1).toNat=i.toNat+1 by omega,map_snoc0 hr,List.map_append,gk,List.map_singleton]
   congr 2
   show RegP.mk r.name r.typ w.px r.pos=⟨r.name,r.typ,r.init.px,r.pos⟩
   rw[pw]
 ·subst e1 e2 e3 e4 e5 e6 hnm1
  have hlt:=of_decide_eq_false hlt
  obtain⟨H1,hO1,hp1⟩:=gP.own
  have ok1:s.Ok I1 F1:=hx.mono l1 gP.mem
  refine TriE.mono (append_whole (f:=SlotP.enc) (z:=2) (e:=71) (fun _=>rfl) (by decide) (zv:=(⟨⟨#[]⟩,0⟩:SlotP).v) (by':=24) (by kernel_rfl) (by kernel_rfl) rfl (by decide) (ok1.cons.cons.cons (x:=(b_s,Obj.cells #[.string s.name,.slice s.ra s.regs.length s.rc,.slice s.sa s.slots.length s.sc,.slice s.ta s.states.length s.tc] 26 (0,0))) (s:=s)).slots (by omega)) fun v I5 G2 l5 ⟨a',n',c',A',hv,hA,hG2⟩=>?_
  have hn2:=hA.1
  refine⟨a',n',c',hv,A'++F1,by rw[hG2];exact (perm_of fun z=>by simp only[cn_app,cn_cons,cn_nil];omega),⟨_,rfl,by omega,by omega,rfl,Imm.le_trans l1 l5,rs,H1,A'++flatH n' (fun _=>[]),[],by rw[gk,List.take_of_length_le (by omega)],gP.len,hO1,hn2,⟨A',fun _=>[],rfl,hA,fun h=>(by cases h),fun i k h=>rfl⟩,by simp,[],fun _=>[],Acc.nil,fun i k h=>by simp at h, ?_⟩,fun i nm a n c a2 n2 c2 a3 n3 c3 m I8 F6 _ ⟨hnm1,g0,g1,gm,l8,rs,H1,H2,ts,gr,hn,hO1,hn2,hO2,gk,gP⟩=>⟨fun hlt=>?_,fun hlt=>?_⟩⟩
  ·rw[show flatH n' (fun _=>([]:Heap))=[] from flatH_nils n',List.append_nil]
   show List.Perm _ (H1++(A'++F))
   exact (perm_of fun z=>by have q0:=cn_perm hp1 z;simp only[cn_app,cn_cons,cn_nil] at q0 ⊢;omega)
  ·subst hnm1
   have hlt:=of_decide_eq_true hlt
   have ok1:s.Ok I8 F6:=hx.mono l8 fun a ha=>gP.mem a (List.mem_append_right _ (List.mem_append_right _ ha))
   obtain⟨ad,x,had,hx',hrd,hxm⟩:=SlG.atm (ok1.cons.cons.cons (x:=(b_s,Obj.cells #[.string s.name,.slice s.ra s.regs.length s.rc,.slice s.sa s.slots.length s.sc,.slice s.ta s.states.length s.tc] 26 (0,0))) (s:=s)).states g0 hlt
   have hkl:=map_len0 gk (by omega)
   refine⟨⟨g0,hlt⟩,ad,had,_,_,_,_,_,hrd,(copyState_spec x (hst x hxm) I8 _ (((ok1.state x hxm).cons).cons.cons)).mono fun e I9 G l9 ⟨x',Hx,he,px,ox,hG⟩=>?_⟩
   subst he
   refine⟨_,_,_,_,_,rfl,Hx++F6,hG.trans (perm_of fun z=>by simp only[cn_app,cn_cons,cn_nil];omega),fun b3 I10 l10 hb3=>?_⟩
   refine TriE.mono (push_spec (f:=StateN.enc) (fun _=>rfl) (zv:=(⟨⟨#[]⟩,none,0,[],0⟩:StateN).v) (by':=48) (by kernel_rfl) (by kernel_rfl) rfl (by decide) gP (x:=x') (fun u hu=>?_) (R0:=[(b_s,Obj.cells #[.string s.name,.slice s.ra s.regs.length s.rc,.slice s.sa s.slots.length s.sc,.slice s.ta s.states.length s.tc] 26 (0,0)),(b,_),(b_x,_)]) rfl hb3 (Hx:=Hx) ox (.refl _) (by omega)) fun v I11 G2 l11 ⟨a',n',c',hv,F3,hG2,hP2⟩=>?_
   ·simp only[StateN.enc,List.mem_cons,List.not_mem_nil,or_false] at hu
    rcases hu with rfl | rfl | rfl<;>rfl
   ·refine⟨a',n',c',hv,F3,hG2,(s.states.length-(i+1)).toNat,by omega,rfl, ?_⟩
    rw[w64 (n:=i+1) (by omega)]
    refine⟨by omega,by omega,rfl,Imm.le_trans l8 (Imm.le_trans l9 (Imm.le_trans l10 l11)),rs,H1,H2,_,gr,hn,hO1,hn2,hO2, ?_,hP2⟩
    rw[show (i+1).toNat=i.toNat+1 by omega,map_snoc0 hx',List.map_append,gk,List.map_singleton,px]
  ·subst hnm1
   have hlt:=of_decide_eq_false hlt
   have hn3:=gP.len
   subst hn hn2 hn3
   obtain⟨H3,hO3,hp3⟩:=gP.own
   refine⟨⟨s.name,a,c,rs,a2,c2,s.slots,a3,c3,ts⟩,H1++(H2++H3),rfl, ?_,⟨H1,H2,H3,rfl,hO1,hO2,hO3⟩,(perm_of fun z=>by have q0:=cn_perm hp3 z;simp only[cn_app,cn_cons,cn_nil] at q0 ⊢;omega)⟩
   show StgP.mk s.name (rs.map RegN.p) s.slots (ts.map StateN.p)=⟨s.name,s.regs.map RegN.p,s.slots,s.states.map StateN.p⟩
   rw[gr,gk,List.take_of_length_le (by omega)]
end Go.Lx
namespace Go.Lx
open Go.Vc
theorem Flr.rd{I:Imm}{b:Nat}{call:ByteArray}{pos:Int}{err:Value}(h:I b=some (.cells #[.string call,.int .i64 pos,err] 63 (0,0))){J:Imm}(hl:Imm.le I J)(G:Heap) :
  Rd J G ((⟨b,0,none⟩:Addr).add 0) [.string call]∧Rd J G ((⟨b,0,none⟩:Addr).add 1) [.int .i64 pos]∧Rd J G ((⟨b,0,none⟩:Addr).add 2) [err]:=by
 rw[addr0,addr0,addr0]
 refine⟨Rd.of_imm (hl.at h) _ 0 fun j hj=>?_,Rd.of_imm (hl.at h) _ 1 fun j hj=>?_,Rd.of_imm (hl.at h) _ 2 fun j hj=>?_⟩ <;>
 ·have:j=0:=by simpa using hj
  subst this;rfl
end Go.Lx
namespace Go.Lx
open Go.Vc
theorem ixF_in{nm:ByteArray}:∀{l:List ByteArray} (i:Int),(∃y∈l,(y.toList==nm.toList)=true)→i≤ixF nm l i∧ixF nm l i<i+l.length
 | [],i,h=>by obtain⟨y,hy,_⟩:=h;cases hy
 | x::r,i,h=>by
   rw[ixF]
   by_cases hx:(x.toList==nm.toList)=true
   ·rw[if_pos hx,List.length_cons];omega
   ·rw[if_neg hx,List.length_cons]
    obtain⟨y,hy,he⟩:=h
    rcases List.mem_cons.1 hy with rfl | hy
    ·exact absurd he hx
    ·have:=ixF_in (i+1) ⟨y,hy,he⟩;omega
theorem ixF_app{nm:ByteArray}(m:List ByteArray):∀{l:List ByteArray} (i:Int),(∃y∈l,(y.toList==nm.toList)=true)→ixF nm (l++m) i=ixF nm l i
 | [],i,h=>by obtain⟨y,hy,_⟩:=h;cases hy
 | x::r,i,h=>by
   rw[List.cons_append,ixF,ixF]
   by_cases hx:(x.toList==nm.toList)=true
   ·rw[if_pos hx,if_pos hx]
   ·rw[if_neg hx,if_neg hx]
    obtain⟨y,hy,he⟩:=h
    rcases List.mem_cons.1 hy with rfl | hy
    ·exact absurd he hx
    ·exact ixF_app m (i+1) ⟨y,hy,he⟩
theorem ixF_out{nm:ByteArray}:∀{l:List ByteArray} (i:Int),(¬ ∃y∈l,(y.toList==nm.toList)=true)→ixF nm l i = -1
 | [],i,h=>rfl
 | x::r,i,h=>by
   rw[ixF,if_neg (fun hx=>h ⟨x,.head _,hx⟩)]
   exact ixF_out (i+1) fun ⟨y,hy,he⟩=>h ⟨y,.tail _ hy,he⟩
theorem ixF_again{nm n:ByteArray}{l:List ByteArray}(hn:n∈l):ixF nm (l++[n]) 0=ixF nm l 0:=by
 by_cases h:∃y∈l,(y.toList==nm.toList)=true
 ·exact ixF_app [n] 0 h
 ·rw[ixF_out 0 h,ixF_out 0]
  rintro ⟨y,hy,he⟩
  rcases List.mem_append.1 hy with hy | hy
  ·exact h ⟨y,hy,he⟩
  ·rw[List.mem_singleton] at hy;subst hy;exact h ⟨y,hn,he⟩
theorem ixF_range{nm:ByteArray}{l:List ByteArray}(h0:l≠[]):(ixF nm l 0).toNat<l.length:=by
 have hp:=List.length_pos_iff.2 h0
 by_cases h:∃y∈l,(y.toList==nm.toList)=true
 ·have:=ixF_in 0 h;omega
 ·rw[ixF_out 0 h];exact hp
theorem ixF_mem{nm:ByteArray}{l:List ByteArray}(h:nm∈l):ixF nm l 0<l.length:=by
 have:=ixF_in (nm:=nm) (l:=l) 0 ⟨nm,h,by simp⟩;omega
theorem typed_congr{s s':StgP}(h1:∀nm,s'.reg nm=s.reg nm)(h2:∀nm,s'.regT (s.reg nm)=s.regT (s.reg nm)):∀y:Px,typed s' y=typed s y:=by
 have hL:∀l:List Px,(∀k∈l,typed s' k=typed s k)→typedL s' l=typedL s l:=fun l h=>by
  induction l with
  | nil=>rw[typedL,typedL]
  | cons x r ih =>
    rw[typedL,typedL,h x (.head _),ih fun k hk=>h k (.tail _ hk)]
 have hE:∀(y:Px) (l:List Int),nodeE s' y l=nodeE s y l:=fun y l=>by
  unfold nodeE nodeT
  rw[h1,h2]
 refine Px.ind fun x ih=>?_
 rw[typed_eq,typed_eq,hL _ ih,hE]
theorem namedR_app{s:StgP}:∀{l:List RegP} {i:Int} (m:List RegP),(namedR s l i).e=0→namedR s (l++m) i=namedR s m (i+l.length)
 | [],i,m,h=>by simp
 | r::l,i,m,h=>by
   rw[namedR] at h
   rw[List.cons_append,namedR]
   by_cases h1:s.reg r.name<i
   ·rw[if_pos h1] at h;cases h
   ·rw[if_neg h1] at h ⊢
    by_cases h2:(typed s r.init).1≠r.typ
    ·rw[if_pos h2] at h;cases h
    ·rw[if_neg h2] at h ⊢
     rw[namedR_app m h,List.length_cons];congr 1;omega
theorem namedS_app{s:StgP}:∀{l:List SlotP} {i:Int} (m:List SlotP),(namedS s l i).e=0→namedS s (l++m) i=namedS s m (i+l.length)
 | [],i,m,h=>by simp
 | r::l,i,m,h=>by
   rw[namedS] at h
   rw[List.cons_append,namedS]
   by_cases h1:s.slot r.name<i
   ·rw[if_pos h1] at h;cases h
   ·rw[if_neg h1] at h ⊢
    rw[namedS_app m h,List.length_cons];congr 1;omega
theorem namedT_app{s:StgP}:∀{l:List StateP} {i:Int} (m:List StateP),(namedT s l i).e=0→namedT s (l++m) i=namedT s m (i+l.length)
 | [],i,m,h=>by simp
 | r::l,i,m,h=>by
   rw[namedT] at h
   rw[List.cons_append,namedT]
   by_cases h1:s.room r.name<i
   ·rw[if_pos h1] at h;cases h
   ·rw[if_neg h1] at h ⊢
    rw[namedT_app m h,List.length_cons];congr 1;omega
theorem namedR_congr{s s':StgP}(h1:∀nm,s'.reg nm=s.reg nm)(ht:∀y,typed s' y=typed s y):∀(l:List RegP) (i:Int),namedR s' l i=namedR s l i
 | [],i=>rfl
 | r::l,i=>by rw[namedR,namedR,h1,ht,namedR_congr h1 ht l]
theorem namedS_congr{s s':StgP}(h1:∀nm,s'.slot nm=s.slot nm):∀(l:List SlotP) (i:Int),namedS s' l i=namedS s l i
 | [],i=>rfl
 | r::l,i=>by rw[namedS,namedS,h1,namedS_congr h1 l]
theorem namedT_congr{s s':StgP}(h1:∀nm,s'.room nm=s.room nm):∀(l:List StateP) (i:Int),namedT s' l i=namedT s l i
 | [],i=>rfl
 | r::l,i=>by rw[namedT,namedT,h1,namedT_congr h1 l]
theorem thenT_both{a b:TF}(h:(thenT a b).e=0):a.e=0∧b.e=0:=by
 unfold thenT at h
 by_cases ha:a.e≠0
 ·rw[if_pos ha] at h;exact absurd h ha
 ·rw[if_neg ha] at h;exact⟨by simpa using ha,h⟩
theorem thenT_next{a b:TF}(h:a.e=0):thenT a b=b:=by unfold thenT;rw[if_neg (by simpa using h)]
theorem types_0{s:StgP}(h:s.types.e=0):s.check=0∧s.named.e=0:=by
 unfold StgP.types at h
 by_cases hc:s.check≠0
 ·rw[if_pos hc] at h;exact absurd h hc
 ·rw[if_neg hc] at h;exact⟨by simpa using hc,(thenT_both h).1⟩
theorem types_named{s:StgP}(h:s.check=0)(hn:s.named.e=150):s.types.e=150:=by
 unfold StgP.types
 rw[if_neg (by simpa using h),thenT_e _ (by rw[hn];decide),hn]
theorem types_check{s:StgP}(h:s.check=121):s.types.e=121:=by
 unfold StgP.types
 rw[if_pos (by rw[h];decide),h]
theorem firstE_app{α:Type}{f:α→Int}:∀{l:List α},(∀x∈l,f x=0)→firstE f l=0
 | [],_=>rfl
 | x::r,h=>by rw[firstE,h x (.head _),thenE_zero];exact firstE_app fun y hy=>h y (.tail _ hy)
structure StgP.Fine (s:StgP):Prop where
 nm:errB (nameB s.name) 120=0
 r1:s.regs.length≤12
 r2:firstE RegP.check s.regs=0
 s1:s.slots.length≤4
 s2:firstE SlotP.check s.slots=0
 t0:0<s.states.length
 t1:s.states.length≤12
 t2:firstE StateP.check s.states=0
theorem StgP.fine{s:StgP}(h:s.check=0):s.Fine:=by
 unfold StgP.check at h
 obtain⟨h1,h⟩:=thenE_z h
 obtain⟨h2,h⟩:=thenE_z h
 obtain⟨h3,h⟩:=thenE_z h
 obtain⟨h4,h⟩:=thenE_z h
 obtain⟨h5,h⟩:=thenE_z h
 obtain⟨h6,h⟩:=thenE_z h
 obtain⟨h7,h8⟩:=thenE_z h
 exact⟨h1,of_decide_eq_true (errB_z (by decide) h2),h3,of_decide_eq_true (errB_z (by decide) h4),h5,of_decide_eq_true (errB_z (by decide) h6),of_decide_eq_true (errB_z (by decide) h7),h8⟩
theorem errB_t{b:Bool}{n:Int}(h:b=true):errB b n=0:=by unfold errB;rw[if_pos h]
theorem errB_f{b:Bool}{n:Int}(h:b=false):errB b n=n:=by unfold errB;rw[if_neg (by rw[h];exact Bool.false_ne_true)]
def TwiceP(s x:StgP):Prop:=(∃r∈s.regs,x=⟨s.name,s.regs++[r],s.slots,s.states⟩)∨(∃r∈s.slots,x=⟨s.name,s.regs,s.slots++[r],s.states⟩)∨∃r∈s.states,x=⟨s.name,s.regs,s.slots,s.states++[r]⟩
theorem snoc_all{α:Type}{P:α→Prop}{l:List α}{r:α}(h:∀x∈l,P x)(hr:r∈l):∀x∈l++[r],P x:=fun x hx=>by
 rcases List.mem_append.1 hx with hx | hx
 ·exact h x hx
 ·rw[List.mem_singleton] at hx;subst hx;exact h x hr
theorem twice_types{s x:StgP}(h:s.types.e=0)(hx:TwiceP s x):x.types.e=150∨x.types.e=121:=by
 obtain⟨hc,hn⟩:=types_0 h
 have hf:=StgP.fine hc
 unfold StgP.named at hn
 obtain⟨n1,hn⟩:=thenT_both hn
 obtain⟨n2,n3⟩:=thenT_both hn
 rcases hx with ⟨r,hr,rfl⟩ | ⟨r,hr,rfl⟩ | ⟨r,hr,rfl⟩
 ·by_cases hl:s.regs.length+1≤12
  ·have hck:(⟨s.name,s.regs++[r],s.slots,s.states⟩:StgP).check=0:=by
    unfold StgP.check
    simp only[hf.nm,hf.s2,hf.t2,thenE_zero,List.length_append,List.length_singleton,errB_t (decide_eq_true hl),firstE_app (snoc_all (firstE_z hf.r2) hr),errB_t (decide_eq_true hf.s1),errB_t (decide_eq_true hf.t0),errB_t (decide_eq_true hf.t1)]
   refine .inl (types_named hck ?_)
   have h1:∀nm,(⟨s.name,s.regs++[r],s.slots,s.states⟩:StgP).reg nm=s.reg nm:=fun nm=>by
    unfold StgP.reg
    show ixF nm ((s.regs++[r]).map RegP.name) 0=_
    rw[List.map_append];exact ixF_again (List.mem_map_of_mem hr)
   have h2:∀nm,(⟨s.name,s.regs++[r],s.slots,s.states⟩:StgP).regT (s.reg nm)=s.regT (s.reg nm):=fun nm=>by
    unfold StgP.regT
    show (((s.regs++[r])[(s.reg nm).toNat]?).map RegP.typ).getD 0=_
    have hlt:(s.reg nm).toNat<s.regs.length:=by
     have:=ixF_range (nm:=nm) (l:=s.regs.map RegP.name) (List.ne_nil_of_mem (List.mem_map_of_mem hr))
     rwa [List.length_map] at this
    rw[List.getElem?_append_left hlt]
   have ht:=typed_congr h1 h2
   unfold StgP.named
   have e1:namedR (⟨s.name,s.regs++[r],s.slots,s.states⟩:StgP) (s.regs++[r]) 0=⟨150,r.pos,false⟩:=by
    rw[namedR_congr h1 ht,namedR_app [r] n1,namedR,if_pos]
    have:=ixF_mem (nm:=r.name) (List.mem_map_of_mem hr)
    rw[List.length_map] at this
    show ixF r.name (s.regs.map RegP.name) 0<0+(s.regs.length:Int)
    omega
   show (thenT (namedR _ (s.regs++[r]) 0) _).e=150
   rw[e1,thenT_e _ (show (150:Int)≠0 by decide)]
  ·refine .inr (types_check ?_)
   unfold StgP.check
   simp only[hf.nm,thenE_zero,List.length_append,List.length_singleton,errB_f (decide_eq_false hl)]
   exact thenE_ne (by decide) _
 ·by_cases hl:s.slots.length+1≤4
  ·have hck:(⟨s.name,s.regs,s.slots++[r],s.states⟩:StgP).check=0:=by
    unfold StgP.check
    simp only[hf.nm,hf.r2,hf.t2,thenE_zero,List.length_append,List.length_singleton,errB_t (decide_eq_true hl),firstE_app (snoc_all (firstE_z hf.s2) hr),errB_t (decide_eq_true hf.r1),errB_t (decide_eq_true hf.t0),errB_t (decide_eq_true hf.t1)]
   refine .inl (types_named hck ?_)
   have ht:∀y,typed (⟨s.name,s.regs,s.slots++[r],s.states⟩:StgP) y=typed s y:=typed_congr (fun nm=>rfl) fun nm=>rfl
   have h1:∀nm,(⟨s.name,s.regs,s.slots++[r],s.states⟩:StgP).slot nm=s.slot nm:=fun nm=>by
    unfold StgP.slot
    show ixF nm ((s.slots++[r]).map SlotP.name) 0=_
    rw[List.map_append];exact ixF_again (List.mem_map_of_mem hr)
   unfold StgP.named
   have e1:namedS (⟨s.name,s.regs,s.slots++[r],s.states⟩:StgP) (s.slots++[r]) 0=⟨150,r.pos,false⟩:=by
    rw[namedS_congr h1,namedS_app [r] n2,namedS,if_pos]
    have:=ixF_mem (nm:=r.name) (List.mem_map_of_mem hr)
    rw[List.length_map] at this
    show ixF r.name (s.slots.map SlotP.name) 0<0+(s.slots.length:Int)
    omega
   show (thenT (namedR _ s.regs 0) (thenT (namedS _ (s.slots++[r]) 0) _)).e=150
   rw[thenT_next (by rw[namedR_congr (s:=s) (s':=⟨s.name,s.regs,s.slots++[r],s.states⟩) (fun nm=>rfl) ht];exact n1),e1,thenT_e _ (show (150:Int)≠0 by decide)]
  ·refine .inr (types_check ?_)
   unfold StgP.check
   simp only[hf.nm,hf.r2,thenE_zero,List.length_append,List.length_singleton,errB_t (decide_eq_true hf.r1),errB_f (decide_eq_false hl)]
   exact thenE_ne (by decide) _
 ·by_cases hl:s.states.length+1≤12
  ·have hck:(⟨s.name,s.regs,s.slots,s.states++[r]⟩:StgP).check=0:=by
    unfold StgP.check
    simp only[hf.nm,hf.r2,hf.s2,thenE_zero,List.length_append,List.length_singleton,errB_t (decide_eq_true hl),firstE_app (snoc_all (firstE_z hf.t2) hr),errB_t (decide_eq_true hf.r1),errB_t (decide_eq_true hf.s1),errB_t (decide_eq_true (Nat.succ_pos s.states.length))]
   refine .inl (types_named hck ?_)
   have ht:∀y,typed (⟨s.name,s.regs,s.slots,s.states++[r]⟩:StgP) y=typed s y:=typed_congr (fun nm=>rfl) fun nm=>rfl
   have h1:∀nm,(⟨s.name,s.regs,s.slots,s.states++[r]⟩:StgP).room nm=s.room nm:=fun nm=>by
    unfold StgP.room
    show ixF nm ((s.states++[r]).map StateP.name) 0=_
    rw[List.map_append];exact ixF_again (List.mem_map_of_mem hr)
   unfold StgP.named
   have e1:namedT (⟨s.name,s.regs,s.slots,s.states++[r]⟩:StgP) (s.states++[r]) 0=⟨150,r.pos,false⟩:=by
    rw[namedT_congr h1,namedT_app [r] n3,namedT,if_pos]
    have:=ixF_mem (nm:=r.name) (List.mem_map_of_mem hr)
    rw[List.length_map] at this
    show ixF r.name (s.states.map StateP.name) 0<0+(s.states.length:Int)
    omega
   show (thenT (namedR _ s.regs 0) (thenT (namedS _ s.slots 0) (namedT _ (s.states++[r]) 0))).e=150
   rw[thenT_next (by rw[namedR_congr (s:=s) (s':=⟨s.name,s.regs,s.slots,s.states++[r]⟩) (fun nm=>rfl) ht];exact n1),thenT_next (by rw[namedS_congr (s:=s) (s':=⟨s.name,s.regs,s.slots,s.states++[r]⟩) (fun nm=>rfl)];exact n2),e1]
  ·refine .inr (types_check ?_)
   unfold StgP.check
   simp only[hf.nm,hf.r2,hf.s2,thenE_zero,List.length_append,List.length_singleton,errB_t (decide_eq_true hf.r1),errB_t (decide_eq_true hf.s1),errB_t (decide_eq_true (Nat.succ_pos s.states.length)),errB_f (decide_eq_false hl)]
   exact thenE_ne (by decide) _
theorem twice_thin{s x:StgP}(hl:s.Light)(h:s.check=0)(hx:TwiceP s x):x.Thin:=by
 have hf:=StgP.fine h
 have h1:=hf.r1
 have h2:=hf.s1
 have h3:=hf.t1
 rcases hx with ⟨r,hr,rfl⟩ | ⟨r,hr,rfl⟩ | ⟨r,hr,rfl⟩
 ·exact⟨by simp only[List.length_append,List.length_singleton];omega,snoc_all hl.reg hr,hl.slots,hl.states,hl.state⟩
 ·exact⟨hl.regs,hl.reg,by simp only[List.length_append,List.length_singleton];omega,hl.states,hl.state⟩
 ·exact⟨hl.regs,hl.reg,hl.slots,by simp only[List.length_append,List.length_singleton];omega,snoc_all hl.state hr⟩
end Go.Lx
namespace Go.Lx
open Go.Vc Go.Proofs.Tryz
def shT_lTypesChecks:List (Nat×List Sh):=[(4,[.one .bool]),(26,[.agg [.str,.slc,.slc,.slc]]),(38,[.one .any]),(41,[.one (.int .i64),.one (.int .i64)]),(44,[.agg [(.int .i64),(.int .i64),.bool]])]
def law15_TypesChecks.V(ka:Nat→Bs→OA→Nat→Nat→OA→Nat→Nat→OA→Nat→Nat→Nat×Obj)(j:Nat→Nat×Obj)(vb vi:Int→Value)(vs:Bs→Value)(vl:OA→Nat→Nat→Value)(vt:Bool→Value)(ab:Bs)(n:OA)(o p:Nat)(s:OA)(t u:Nat)(v:OA)(w x:Nat)(I:Imm)(F:Heap)(Q:PostQ)  : Prop:=∀k:Nat,Tc1 P 10 #[] I ((j k)::·) F vt fun r I1 F1=>Tc1 P 11 (#[.agg #[vs ab,vl n o p,vl s t u,vl v w x],.agg #[vb 0,vb 0,vb 0,vi 0,vb 0,vs (⟨#[]⟩:Bs),vl none 0 0,vi 0]]) I1 ((j k)::·) F1 vt fun r1 I2 F2=>(It (!r) (Q (.returned (vt r)) I2 F2) (It r1 (Q (.returned (vt r)) I2 F2) (Tcn P 12 #[.agg #[vs ab,vl n o p,vl s t u,vl v w x]] I2 ((j k)::·) F2 fun e3 I3 G3=>∃(l:Bs) (a:OA) (b c:Nat) (d:OA) (e f:Nat) (g:OA) (h i:Nat),e3=.returned (.agg #[vs l,vl a b c,vl d e f,vl g h i])∧G3 fun F3=>∀m:Nat,Tcn P 13 #[.agg #[vs l,vl a b c,vl d e f,vl g h i]] I3 ((j k)::(ka m l a b c d e f g h i)::·) F3 fun e4 I4 G4=>∃(r2:Value),e4=.returned r2∧G4 fun F4=>Tcn P 13 #[.agg #[vs l,vl a b c,vl d e f,vl g h i]] I4 ((j k)::(ka m l a b c d e f g h i)::·) F4 fun e5 I5 G5=>∃(r3:Value),e5=.returned r3∧G5 fun F5=>Tcn P 14 #[r2] I5 ((j k)::(ka m l a b c d e f g h i)::·) F5 fun e6 I6 G6=>∃(r0 z:Int),e6=.returned (.tuple #[vi r0,vi z])∧G6 fun F6=>Tcn P 14 #[r3] I6 ((j k)::(ka m l a b c d e f g h i)::·) F6 fun e7 I7 G7=>∃(ac ad:Int),e7=.returned (.tuple #[vi ac,vi ad])∧G7 fun F7=>Tcn P 15 #[.agg #[vs ab,vl n o p,vl s t u,vl v w x]] I7 ((j k)::(ka m l a b c d e f g h i)::·) F7 fun e8 I8 G8=>∃(y aa:Int) (ae:Bool),e8=.returned (.agg #[vi y,vi aa,vt ae])∧G8 fun F8=>∀af:Nat,Tc1 P 16 #[.agg #[vs l,vl a b c,vl d e f,vl g h i],.agg #[vs ab,vl n o p,vl s t u,vl v w x]] I8 ((j k)::(ka m l a b c d e f g h i)::(af,Obj.cells #[vi y,vi aa,vt ae] 44 (0,0))::·) F8 vt fun r4 I9 F9=>(It (r0==y) (It (z==aa) (It (ac==r0) (It (ad==z) (∃q:Bool,BinRun P .eql 38 (.tmp 66) (.const (Value.nilIface)) r2 Value.nilIface q∧(It (q==(r0==0)) (Q (.returned (vt r4)) I9 F9) (Q (.returned (vt false)) I9 F9))) (Q (.returned (vt false)) I9 F9)) (Q (.returned (vt false)) I9 F9)) (Q (.returned (vt false)) I9 F9)) (Q (.returned (vt false)) I9 F9)))))
theorem law15_TypesChecks.vc{t:Bs}{k:OA}{l m:Nat}{n:OA}{o p:Nat}{q:OA}{r s:Nat}{I:Imm}{F:Heap}{Q:PostQ}  (h:law15_TypesChecks.V (fun W a b c d e f g h i j=>(W,Obj.cells #[.string a,.slice b c d,.slice e f g,.slice h i j] 26 (0,0))) (fun b=>(b,Obj.cells #[.string t,.slice k l m,.slice n o p,.slice q r s] 26 (0,0))) (.int .u8) (.int .i64) .string .slice .bool t k l m n o p q r s I F Q):Tri P 3 #[.agg #[.string t,.slice k l m,.slice n o p,.slice q r s]] I F Q :=
 tw (A:=(an [3001,3003,12003,12008,12013,12018,12025] [10,11,12,13,14,15,16] shT_lTypesChecks)) [10,11,12,13,14,15,16] func3 h
end Go.Lx
namespace Go.Lx
open Go.Vc
theorem ChkE.eql{I:Imm}{f:TF}{w:Value}(h:ChkE I f w){t:TypeId}(ht:ifaceT P t=true){x:Operand}:BinRun P .eql t x (.const .nilIface) w .nilIface (f.e==0):=by
 by_cases he:f.e=0
 ·rw[h.1 he,he];exact nil_nil' ht
 ·have h2:=h.2 he
  rw[show (f.e==0)=false by simpa using he]
  split at h2
  ·obtain⟨u,_,b,hw,_⟩:=h2;rw[hw];exact some_nil' ht
  ·obtain⟨b,hw,_⟩:=h2;rw[hw];exact some_nil' ht
theorem OfE.eql{I:Imm}{f:TF}{w:Value}(h:OfE I f w){t:TypeId}(ht:ifaceT P t=true){x:Operand}:BinRun P .eql t x (.const .nilIface) w .nilIface (f.e==0):=by
 by_cases he:f.e=0
 ·rw[h.1 he,he];exact nil_nil' ht
 ·obtain⟨b,hw,_⟩:=h.2 he
  rw[hw,show (f.e==0)=false by simpa using he];exact some_nil' ht
theorem zNd_short:zNd.px.ShortP:=by
 rw[zNd_px];exact .mk (by decide) (by decide) fun k hk=>by cases hk
end Go.Lx
namespace Go.Lx
open Go.Vc Go.Proofs.Tryz
def shT_lTypesTwice:List (Nat×List Sh):=[(4,[.one .bool]),(22,[.one .slc]),(23,[.one .slc]),(24,[.one .slc]),(26,[.agg [.str,.slc,.slc,.slc]]),(38,[.one .any]),(41,[.one (.int .i64),.one (.int .i64)]),(68,[.agg [.str,(.int .u8),(.int .u8),(.int .u8),(.int .u8),(.int .i64),(.int .u8),.str,.slc,(.int .i64),(.int .i64)]]),(71,[.agg [.str,(.int .i64)]]),(74,[.agg [.str,.slc,(.int .i64)]])]
def law15_TypesTwice.V(m:Nat→Nat×Obj)(vb vi:Int→Value)(vs:Bs→Value)(vl:OA→Nat→Nat→Value)(vt:Bool→Value)(aE:Bs)(aj:OA)(t ak:Nat)(ah:OA)(p al:Nat)(af:OA)(k am:Nat)(l ai:Int)(I:Imm)(F:Heap)(Q:PostQ)(Inv26:Bs→OA→Nat→Nat→OA→Nat→Nat→OA→Nat→Nat→Imm→Heap→Prop):Prop:=∀o:Nat,Tri P 10 #[] I ((m o)::F) fun e1 I1 G1=>∃(r:Bool),e1=.returned (vt r)∧∃F1:Heap,List.Perm G1 ((m o)::F1)∧Tri P 11 (#[.agg #[vs aE,vl aj t ak,vl ah p al,vl af k am],.agg #[vb 0,vb 0,vb 0,vi 0,vb 0,vs (⟨#[]⟩:Bs),vl none 0 0,vi 0]]) I1 ((m o)::F1) fun e2 I2 G2=>∃(r1:Bool),e2=.returned (vt r1)∧∃F2:Heap,List.Perm G2 ((m o)::F2)∧(((!r)=true→Q (.returned (vt r)) I2 F2)∧((!r)=false→((r1=true→Q (.returned (vt r)) I2 F2)∧(r1=false→((decide (l<0)=true→Q (.returned (vt r)) I2 F2)∧(decide (l<0)=false→Tri P 13 #[.agg #[vs aE,vl aj t ak,vl ah p al,vl af k am]] I2 ((m o)::F2) fun e3 I3 G3=>∃(r2:Value),e3=.returned r2∧∃F3:Heap,List.Perm G3 ((m o)::F3)∧∃q:Bool,BinRun P .neq 38 (.tmp 29) (.const (Value.nilIface)) r2 Value.nilIface q∧((q=true→Q (.returned (vt true)) I3 F3)∧(q=false→Tri P 24 #[.agg #[vs aE,vl aj t ak,vl ah p al,vl af k am]] I3 ((m o)::F3) fun e4 I4 G4=>∃(n:Bs) (a:OA) (c d:Nat) (e:OA) (f g:Nat) (h:OA) (i j:Nat),e4=.returned (.agg #[vs n,vl a c d,vl e f g,vl h i j])∧∃F4:Heap,List.Perm G4 ((m o)::F4)∧∀s:Nat,(((((Int.tmod ai 3)==0)=true→((decide ((t:Int)>0)=true→(((t:Int)≠0)∧((0≤(Int.tmod l (t:Int))∧(Int.tmod l (t:Int))<(t:Int))∧∃ad:Addr,aj=some ad∧∃(ba:Bs) (bb bc bd be bf bg:Int) (bh:Bs) (ay:OA) (az aA:Nat) (bi aF:Int),Rd I4 ((m o)::(s,Obj.cells #[vs n,vl a c d,vl e f g,vl h i j] 26 (0,0))::F4) (ad.add (Int.toNat (Int.tmod l (t:Int))*11)) [vs ba,vb bb,vb bc,vb bd,vb be,vi bf,vb bg,vs bh,vl ay az aA,vi bi,vi aF]∧∀(b:Nat) (I5:Imm),Imm.le I4 I5→I5 b=some (Obj.cells #[vs ba,vb bb,vb bc,vb bd,vb be,vi bf,vb bg,vs bh,vl ay az aA,vi bi,vi aF] 68 (0,0))→TriE P (Builtin.append_ #[22,22] 22 #[vl a c d,vl (some ⟨b,0,none⟩) 1 1]) I5 ((m o)::(s,Obj.cells #[vs n,vl a c d,vl e f g,vl h i j] 26 (0,0))::F4) fun v I6 G5=>∃(bj:OA) (bk bl:Nat),v=vl bj bk bl∧∃F5:Heap,List.Perm G5 ((m o)::(s,Obj.cells #[vs n,vl a c d,vl e f g,vl h i j] 26 (0,0))::F5)∧Inv26 n bj bk bl e f g h i j I6 F5)))∧(decide ((t:Int)>0)=false→((((Int.tmod ai 3)==1)=true→((decide ((p:Int)>0)=true→(((p:Int)≠0)∧((0≤(Int.tmod l (p:Int))∧(Int.tmod l (p:Int))<(p:Int))∧∃bm:Addr,ah=some bm∧∃(aG:Bs) (aH:Int),Rd I4 ((m o)::(s,Obj.cells #[vs n,vl a c d,vl e f g,vl h i j] 26 (0,0))::F4) (bm.add (Int.toNat (Int.tmod l (p:Int))*2)) [vs aG,vi aH]∧∀(b1:Nat) (I7:Imm),Imm.le I4 I7→I7 b1=some (Obj.cells #[vs aG,vi aH] 71 (0,0))→TriE P (Builtin.append_ #[23,23] 23 #[vl e f g,vl (some ⟨b1,0,none⟩) 1 1]) I7 ((m o)::(s,Obj.cells #[vs n,vl a c d,vl e f g,vl h i j] 26 (0,0))::F4) fun v1 I8 G6=>∃(aI:OA) (aJ aK:Nat),v1=vl aI aJ aK∧∃F6:Heap,List.Perm G6 ((m o)::(s,Obj.cells #[vs n,vl a c d,vl e f g,vl h i j] 26 (0,0))::F6)∧Inv26 n a c d aI aJ aK h i j I8 F6)))∧(decide ((p:Int)>0)=false→((decide ((k:Int)>0)=true→(((k:Int)≠0)∧((0≤(Int.tmod l (k:Int))∧(Int.tmod l (k:Int))<(k:Int))∧∃bn:Addr,af=some bn∧∃(aL:Bs) (aB:OA) (aC aD:Nat) (aM:Int),Rd I4 ((m o)::(s,Obj.cells #[vs n,vl a c d,vl e f g,vl h i j] 26 (0,0))::F4) (bn.add (Int.toNat (Int.tmod l (k:Int))*3)) [vs aL,vl aB aC aD,vi aM]∧∀(b2:Nat) (I9:Imm),Imm.le I4 I9→I9 b2=some (Obj.cells #[vs aL,vl aB aC aD,vi aM] 74 (0,0))→TriE P (Builtin.append_ #[24,24] 24 #[vl h i j,vl (some ⟨b2,0,none⟩) 1 1]) I9 ((m o)::(s,Obj.cells #[vs n,vl a c d,vl e f g,vl h i j] 26 (0,0))::F4) fun v2 I10 G7=>∃(aN:OA) (aO aP:Nat),v2=vl aN aO aP∧∃F7:Heap,List.Perm G7 ((m o)::(s,Obj.cells #[vs n,vl a c d,vl e f g,vl h i j] 26 (0,0))::F7)∧Inv26 n a c d e f g aN aO aP I10 F7)))∧(decide ((k:Int)>0)=false→Inv26 n a c d e f g h i j I4 F4)))))∧(((Int.tmod ai 3)==1)=false→((decide ((k:Int)>0)=true→(((k:Int)≠0)∧((0≤(Int.tmod l (k:Int))∧(Int.tmod l (k:Int))<(k:Int))∧∃bo:Addr,af=some bo∧∃(aQ:Bs) (an:OA) (ao ap:Nat) (aR:Int),Rd I4 ((m o)::(s,Obj.cells #[vs n,vl a c d,vl e f g,vl h i j] 26 (0,0))::F4) (bo.add (Int.toNat (Int.tmod l (k:Int))*3)) [vs aQ,vl an ao ap,vi aR]∧∀(b3:Nat) (I11:Imm),Imm.le I4 I11→I11 b3=some (Obj.cells #[vs aQ,vl an ao ap,vi aR] 74 (0,0))→TriE P (Builtin.append_ #[24,24] 24 #[vl h i j,vl (some ⟨b3,0,none⟩) 1 1]) I11 ((m o)::(s,Obj.cells #[vs n,vl a c d,vl e f g,vl h i j] 26 (0,0))::F4) fun v3 I12 G8=>∃(aS:OA) (aT aU:Nat),v3=vl aS aT aU∧∃F8:Heap,List.Perm G8 ((m o)::(s,Obj.cells #[vs n,vl a c d,vl e f g,vl h i j] 26 (0,0))::F8)∧Inv26 n a c d e f g aS aT aU I12 F8)))∧(decide ((k:Int)>0)=false→Inv26 n a c d e f g h i j I4 F4)))))))∧(((Int.tmod ai 3)==0)=false→((((Int.tmod ai 3)==1)=true→((decide ((p:Int)>0)=true→(((p:Int)≠0)∧((0≤(Int.tmod l (p:Int))∧(Int.tmod l (p:Int))<(p:Int))∧∃bp:Addr,ah=some bp∧∃(aV:Bs) (aW:Int),Rd I4 ((m o)::(s,Obj.cells #[vs n,vl a c d,vl e f g,vl h i j] 26 (0,0))::F4) (bp.add (Int.toNat (Int.tmod l (p:Int))*2)) [vs aV,vi aW]∧∀(b4:Nat) (I13:Imm),Imm.le I4 I13→I13 b4=some (Obj.cells #[vs aV,vi aW] 71 (0,0))→TriE P (Builtin.append_ #[23,23] 23 #[vl e f g,vl (some ⟨b4,0,none⟩) 1 1]) I13 ((m o)::(s,Obj.cells #[vs n,vl a c d,vl e f g,vl h i j] 26 (0,0))::F4) fun v4 I14 G9=>∃(aX:OA) (aY aZ:Nat),v4=vl aX aY aZ∧∃F9:Heap,List.Perm G9 ((m o)::(s,Obj.cells #[vs n,vl a c d,vl e f g,vl h i j] 26 (0,0))::F9)∧Inv26 n a c d aX aY aZ h i j I14 F9)))∧(decide ((p:Int)>0)=false→((decide ((k:Int)>0)=true→(((k:Int)≠0)∧((0≤(Int.tmod l (k:Int))∧(Int.tmod l (k:Int))<(k:Int))∧∃bq:Addr,af=some bq∧∃(a0:Bs) (aq:OA) (ar au:Nat) (a1:Int),Rd I4 ((m o)::(s,Obj.cells #[vs n,vl a c d,vl e f g,vl h i j] 26 (0,0))::F4) (bq.add (Int.toNat (Int.tmod l (k:Int))*3)) [vs a0,vl aq ar au,vi a1]∧∀(b5:Nat) (I15:Imm),Imm.le I4 I15→I15 b5=some (Obj.cells #[vs a0,vl aq ar au,vi a1] 74 (0,0))→TriE P (Builtin.append_ #[24,24] 24 #[vl h i j,vl (some ⟨b5,0,none⟩) 1 1]) I15 ((m o)::(s,Obj.cells #[vs n,vl a c d,vl e f g,vl h i j] 26 (0,0))::F4) fun v5 I16 G10=>∃(a2:OA) (a3 a4:Nat),v5=vl a2 a3 a4∧∃F10:Heap,List.Perm G10 ((m o)::(s,Obj.cells #[vs n,vl a c d,vl e f g,vl h i j] 26 (0,0))::F10)∧Inv26 n a c d e f g a2 a3 a4 I16 F10)))∧(decide ((k:Int)>0)=false→Inv26 n a c d e f g h i j I4 F4)))))∧(((Int.tmod ai 3)==1)=false→((decide ((k:Int)>0)=true→(((k:Int)≠0)∧((0≤(Int.tmod l (k:Int))∧(Int.tmod l (k:Int))<(k:Int))∧∃br:Addr,af=some br∧∃(a5:Bs) (av:OA) (aw ax:Nat) (a6:Int),Rd I4 ((m o)::(s,Obj.cells #[vs n,vl a c d,vl e f g,vl h i j] 26 (0,0))::F4) (br.add (Int.toNat (Int.tmod l (k:Int))*3)) [vs a5,vl av aw ax,vi a6]∧∀(b6:Nat) (I17:Imm),Imm.le I4 I17→I17 b6=some (Obj.cells #[vs a5,vl av aw ax,vi a6] 74 (0,0))→TriE P (Builtin.append_ #[24,24] 24 #[vl h i j,vl (some ⟨b6,0,none⟩) 1 1]) I17 ((m o)::(s,Obj.cells #[vs n,vl a c d,vl e f g,vl h i j] 26 (0,0))::F4) fun v6 I18 G11=>∃(a7:OA) (a8 a9:Nat),v6=vl a7 a8 a9∧∃F11:Heap,List.Perm G11 ((m o)::(s,Obj.cells #[vs n,vl a c d,vl e f g,vl h i j] 26 (0,0))::F11)∧Inv26 n a c d e f g a7 a8 a9 I18 F11)))∧(decide ((k:Int)>0)=false→Inv26 n a c d e f g h i j I4 F4)))))))∧∀(ag:Bs) (u:OA) (w x:Nat) (y:OA) (z aa:Nat) (ab:OA) (ac ae:Nat) (I19:Imm) (F12:Heap),Imm.le I4 I19→Inv26 ag u w x y z aa ab ac ae I19 F12→Tri P 13 #[.agg #[vs ag,vl u w x,vl y z aa,vl ab ac ae]] I19 ((m o)::(s,Obj.cells #[vs ag,vl u w x,vl y z aa,vl ab ac ae] 26 (0,0))::F12) fun e5 I20 G12=>∃(r3:Value),e5=.returned r3∧∃F13:Heap,List.Perm G12 ((m o)::(s,Obj.cells #[vs ag,vl u w x,vl y z aa,vl ab ac ae] 26 (0,0))::F13)∧Tri P 14 #[r3] I20 ((m o)::(s,Obj.cells #[vs ag,vl u w x,vl y z aa,vl ab ac ae] 26 (0,0))::F13) fun e6 I21 G13=>∃(r0 bs:Int),e6=.returned (.tuple #[vi r0,vi bs])∧∃F14:Heap,List.Perm G13 ((m o)::(s,Obj.cells #[vs ag,vl u w x,vl y z aa,vl ab ac ae] 26 (0,0))::F14)∧(((r0==150)=true→Q (.returned (vt true)) I21 F14)∧((r0==150)=false→Q (.returned (vt (r0==121))) I21 F14))))))))))
theorem law15_TypesTwice.vc{n:Bs}{a:OA}{c d:Nat}{e:OA}{f g:Nat}{i:OA}{j k:Nat}{l o:Int}{I:Imm}{F:Heap}{Q:PostQ}(Inv26:Bs→OA→Nat→Nat→OA→Nat→Nat→OA→Nat→Nat→Imm→Heap→Prop)(h:law15_TypesTwice.V (fun b=>(b,Obj.cells #[.string n,.slice a c d,.slice e f g,.slice i j k] 26 (0,0))) (.int .u8) (.int .i64) .string .slice .bool n a c d e f g i j k l o I F Q Inv26):Tri P 9 #[.agg #[.string n,.slice a c d,.slice e f g,.slice i j k],.int .i64 l,.int .i64 o] I F Q :=
 tw (A:=(annL [3001,3003,3007,6001,9002,9007,11002,11007,13003,16001] [] [10,11,13,14,24] shT_lTypesTwice [(26,⟨[],[(1,[.str,.slc,.slc,.slc])],fun _ _ _ vs m I F=>match vs with | [.string y0,.slice y1 y2 y3,.slice y4 y5 y6,.slice y7 y8 y9]=>Inv26 y0 y1 y2 y3 y4 y5 y6 y7 y8 y9 I F | _=>False,[],[]⟩)] [10011,12011,14011] [] [] [] [(10,[0,2,4,5,6,7,8,1,3,9,10,11,12,13,14]),(12,[0,2,4,5,6,7,8,1,3,9,10,11,12,13,14]),(14,[0,2,4,5,6,7,8,1,3,9,10,11,12,13,14])] [] [] [(10,[6],14),(12,[6],14),(14,[6],14)])) [10,11,13,14,24] func9 h
end Go.Lx
namespace Go.Lx
open Go.Vc
theorem own_push{P:Program}{α:Type}{z:Nat}{f:α→List Value}(hz:∀x,(f x).length=z){t ty e:TypeId}{zv:Value}{by':Nat}(ht:P.underlying t=some (.slice e))(hi:(P.info? e).map (fun i=>(i.zero,i.size,i.bytes))=some (some zv,z,by'))(hzs:zv.cells.size=z)(hb:1≤by')
  {a:Option Addr} {n c:Nat} {l:List α} {O:α→Heap→Prop} {H R0 R F2:Heap} (h:OwnL false z f e O a n c l H) {x:α} (h1:∀u∈f x,u.oneCell'=true) {b:Nat} {I:Imm} (hbm:I b=some (.cells (f x).toArray e (0,0)))
  (hF2:F2.Perm (R0++(H++R))) (hfit:(l.length+1)*by'≤140737488355328) :
  TriE P (Builtin.append_ #[t,t] ty #[.slice a n c,.slice (some ⟨b,0,none⟩) 1 1]) I F2 fun v I' G=>∃a' n' c',v=.slice a' n' c'∧∃F3,G.Perm (R0++F3)∧SlG I' F3 z f a' n' (l++[x])∧(∀y,y∈R→y∈F3)∧∀k∈l,∃H',O k H'∧∀y,y∈H'→y∈F3:=by
 obtain⟨A,hs,rfl,hA, -,hO⟩:=h
 refine TriE.perm (TriE.mono (append_spec' hz ht hi hzs hb hA (xs:=[x]) (fun y hy=>by rw[List.mem_singleton] at hy;rw[hy];exact h1) (by simp) rfl ?_ (by simpa using hfit) (F:=R0++(flatH n hs++R))) fun v I2 G hI2 ⟨a',n',c',A',hv,hA',hG',_⟩=>?_) ?_
 ·refine⟨rfl,_,_,_,.inl hbm,fun j hj=>?_⟩
  simp
 ·subst hG'
  refine⟨a',n',c',hv,A'++(flatH n hs++R),perm_of fun z=>by simp only[cn_app];omega,hA'.slg hz I2 fun y hy=>List.mem_append_left _ hy,fun y hy=>List.mem_append_right _ (List.mem_append_right _ hy),fun k hk=>?_⟩
  obtain⟨i,hi,rfl⟩:=List.mem_iff_getElem.1 hk
  have hn:=hA.1
  exact⟨_,hO i _ (List.getElem?_eq_getElem hi),fun y hy=>List.mem_append_right _ (List.mem_append_left _ (flatH_mem (by omega) hy))⟩
 ·exact hF2.trans (perm_of fun z=>by simp only[cn_app];omega)
section
variable (s x:StgN)
theorem p_parts{s x:StgN}(px:x.p=s.p):x.name=s.name∧x.regs.map RegN.p=s.regs.map RegN.p∧x.slots=s.slots∧x.states.map StateN.p=s.states.map StateN.p :=
 ⟨congrArg StgP.name px,congrArg StgP.regs px,congrArg StgP.slots px,congrArg StgP.states px⟩
theorem tw_reg(r:RegN)(hrm:r∈s.regs)(px:x.p=s.p){I:Imm}{F H1 H2 H3:Heap}(hs:s.Ok I F)(o1:OwnL false 11 RegN.enc 68 (RegOwn false) x.ra x.regs.length x.rc x.regs H1)(o2:OwnL false 2 SlotP.enc 71 SlotOwn x.sa x.slots.length x.sc x.slots H2)
  (o3:OwnL false 3 StateN.enc 74 (StateOwn false) x.ta x.states.length x.tc x.states H3) {a:Option Addr} {c:Nat} (hS:SlG I F 11 RegN.enc a (x.regs++[r]).length (x.regs++[r])) (hR:∀y,y∈H2++H3→y∈F) (hk:∀k∈x.regs,∃H',RegOwn false k H'∧∀y,y∈H'→y∈F) :
  (⟨x.name,a,c,x.regs++[r],x.sa,x.sc,x.slots,x.ta,x.tc,x.states⟩:StgN).Ok I F∧TwiceP s.p (⟨x.name,a,c,x.regs++[r],x.sa,x.sc,x.slots,x.ta,x.tc,x.states⟩:StgN).p:=by
 obtain⟨e1,e2,e3,e4⟩:=p_parts px
 obtain⟨b1, -⟩:=o2.ok (I:=I) (G:=F) (K:=fun d=>True) (fun _=>rfl) (fun y hy=>hR y (List.mem_append_left _ hy)) fun x H' hO hs=>trivial
 obtain⟨c1,c2⟩:=o3.ok (I:=I) (G:=F) (K:=fun d=>d.Ok I F) (fun _=>rfl) (fun y hy=>hR y (List.mem_append_right _ hy)) fun x H' hO hs=>StateOwn.ok hO hs
 refine⟨⟨hS,fun k hkm=>?_,b1,c1,c2⟩,.inl ⟨r.p,List.mem_map_of_mem hrm, ?_⟩⟩
 ·rcases List.mem_append.1 hkm with hkm | hkm
  ·obtain⟨H',hO,hm⟩:=hk k hkm;exact RegOwn.ok hO hm
  ·rw[List.mem_singleton] at hkm;subst hkm;exact hs.reg _ hrm
 ·show StgP.mk x.name ((x.regs++[r]).map RegN.p) x.slots (x.states.map StateN.p)=⟨s.name,s.regs.map RegN.p++[r.p],s.slots,s.states.map StateN.p⟩
  rw[List.map_append,e1,e2,e3,e4];rfl
theorem tw_slot(r:SlotP)(hrm:r∈s.slots)(px:x.p=s.p){I:Imm}{F H1 H2 H3:Heap}(hs:s.Ok I F)(o1:OwnL false 11 RegN.enc 68 (RegOwn false) x.ra x.regs.length x.rc x.regs H1)(o2:OwnL false 2 SlotP.enc 71 SlotOwn x.sa x.slots.length x.sc x.slots H2)
  (o3:OwnL false 3 StateN.enc 74 (StateOwn false) x.ta x.states.length x.tc x.states H3) {a:Option Addr} {c:Nat} (hS:SlG I F 2 SlotP.enc a (x.slots++[r]).length (x.slots++[r])) (hR:∀y,y∈H1++H3→y∈F) (hk:∀k∈x.slots,∃H',SlotOwn k H'∧∀y,y∈H'→y∈F) :
  (⟨x.name,x.ra,x.rc,x.regs,a,c,x.slots++[r],x.ta,x.tc,x.states⟩:StgN).Ok I F∧TwiceP s.p (⟨x.name,x.ra,x.rc,x.regs,a,c,x.slots++[r],x.ta,x.tc,x.states⟩:StgN).p:=by
 obtain⟨e1,e2,e3,e4⟩:=p_parts px
 obtain⟨a1,a2⟩:=o1.ok (I:=I) (G:=F) (K:=fun d=>d.Ok I F) (fun _=>rfl) (fun y hy=>hR y (List.mem_append_left _ hy)) fun x H' hO hs=>RegOwn.ok hO hs
 obtain⟨c1,c2⟩:=o3.ok (I:=I) (G:=F) (K:=fun d=>d.Ok I F) (fun _=>rfl) (fun y hy=>hR y (List.mem_append_right _ hy)) fun x H' hO hs=>StateOwn.ok hO hs
 refine⟨⟨a1,a2,hS,c1,c2⟩,.inr (.inl ⟨r,hrm, ?_⟩)⟩
 show StgP.mk x.name (x.regs.map RegN.p) (x.slots++[r]) (x.states.map StateN.p)=⟨s.name,s.regs.map RegN.p,s.slots++[r],s.states.map StateN.p⟩
 rw[e1,e2,e3,e4]
theorem tw_state(r:StateN)(hrm:r∈s.states)(px:x.p=s.p){I:Imm}{F H1 H2 H3:Heap}(hs:s.Ok I F)(o1:OwnL false 11 RegN.enc 68 (RegOwn false) x.ra x.regs.length x.rc x.regs H1)(o2:OwnL false 2 SlotP.enc 71 SlotOwn x.sa x.slots.length x.sc x.slots H2)
  (o3:OwnL false 3 StateN.enc 74 (StateOwn false) x.ta x.states.length x.tc x.states H3) {a:Option Addr} {c:Nat} (hS:SlG I F 3 StateN.enc a (x.states++[r]).length (x.states++[r])) (hR:∀y,y∈H1++H2→y∈F) (hk:∀k∈x.states,∃H',StateOwn false k H'∧∀y,y∈H'→y∈F) :
  (⟨x.name,x.ra,x.rc,x.regs,x.sa,x.sc,x.slots,a,c,x.states++[r]⟩:StgN).Ok I F∧TwiceP s.p (⟨x.name,x.ra,x.rc,x.regs,x.sa,x.sc,x.slots,a,c,x.states++[r]⟩:StgN).p:=by
 obtain⟨e1,e2,e3,e4⟩:=p_parts px
 obtain⟨a1,a2⟩:=o1.ok (I:=I) (G:=F) (K:=fun d=>d.Ok I F) (fun _=>rfl) (fun y hy=>hR y (List.mem_append_left _ hy)) fun x H' hO hs=>RegOwn.ok hO hs
 obtain⟨b1, -⟩:=o2.ok (I:=I) (G:=F) (K:=fun d=>True) (fun _=>rfl) (fun y hy=>hR y (List.mem_append_right _ hy)) fun x H' hO hs=>trivial
 refine⟨⟨a1,a2,b1,hS,fun k hkm=>?_⟩,.inr (.inr ⟨r.p,List.mem_map_of_mem hrm, ?_⟩)⟩
 ·rcases List.mem_append.1 hkm with hkm | hkm
  ·obtain⟨H',hO,hm⟩:=hk k hkm;exact StateOwn.ok hO hm
  ·rw[List.mem_singleton] at hkm;subst hkm;exact hs.state _ hrm
 ·show StgP.mk x.name (x.regs.map RegN.p) x.slots ((x.states++[r]).map StateN.p)=⟨s.name,s.regs.map RegN.p,s.slots,s.states.map StateN.p++[r.p]⟩
  rw[List.map_append,e1,e2,e3,e4];rfl
end
theorem TypesTwice_spec(s:StgN)(which what:Int)(hss:s.p.Short)(I:Imm)(hg:Gl I)(F:Heap)(hs:s.Ok I F):Tri P 9 #[s.v,.int .i64 which,.int .i64 what] I F fun e I' G=>e=.returned (.bool true):=by
 refine law15_TypesTwice.vc (fun nm a n c a2 n2 c2 a3 n3 c3 I' F'=>∃u:StgN,Value.agg #[.string nm,.slice a n c,.slice a2 n2 c2,.slice a3 n3 c3]=u.v∧u.Ok I' F'∧TwiceP s.p u.p) ?_
 unfold law15_TypesTwice.V
 intro b_s
 have oks:∀{J:Imm} {G:Heap},Imm.le I J→(∀a,a∈F→a∈G)→s.Ok J G:=fun hl h=>hs.mono hl h
 refine Tri.ret (awake15_spec hg _) fun I1 l1=>⟨_,rfl,F,.refl _, ?_⟩
 refine (far15_spec s zNd hss zNd_short I1 _ (oks l1 fun a ha=>by simp only[List.mem_cons,List.mem_append];simp only[ha,true_or,or_true]) (zNd_ok.mono (Imm.le_refl _) sub0)).mono fun e I2 G h2 ⟨r1,he,hG,f1⟩=>?_
 subst hG
 refine⟨_,he,F,.refl _, ?_⟩
 have l2:=Imm.le_trans l1 h2
 refine⟨fun h=>(by cases h),fun _=>⟨fun _=>rfl,fun e1=>⟨fun _=>rfl,fun hw=>?_⟩⟩⟩
 have ls:=(f1 e1).1
 have hw:0≤which:=by have:=of_decide_eq_false hw;omega
 refine Tri.retV (pCheck_spec s ls (oks l2 fun a ha=>by simp only[List.mem_cons,List.mem_append];simp only[ha,true_or,or_true]) (hg.mono l2)) fun v3 I3 h3 hv3=>⟨v3,rfl,F,.refl _,_,ChkE.neq hv3 (by kernel_rfl),fun _=>rfl,fun hq=>?_⟩
 have l3:=Imm.le_trans l2 h3
 have ht:s.p.types.e=0:=by simpa using hq
 have hc:=(types_0 ht).1
 have hfine:=StgP.fine hc
 refine (copyStg_spec s ls I3 _ (oks l3 fun a ha=>by simp only[List.mem_cons,List.mem_append];simp only[ha,true_or,or_true])).mono fun e I4 G h4 ⟨x,H,he,px,hO,hG⟩=>?_
 have l4:=Imm.le_trans l3 h4
 refine⟨_,_,_,_,_,_,_,_,_,_,he,H++F,hG.trans (perm_of fun z=>by simp only[cn_app,cn_cons,cn_nil];omega),fun b_x=>?_⟩
 have oks4:s.Ok I4 (H++F):=oks l4 fun a ha=>by simp only[List.mem_cons,List.mem_append];simp only[ha,true_or,or_true]
 obtain⟨H1,H2,H3,rfl,o1,o2,o3⟩:=hO
 obtain⟨e1,e2,e3,e4⟩:=p_parts px
 have n1:x.regs.length=s.regs.length:=by have:=congrArg List.length e2;simpa using this
 have n2:x.slots.length=s.slots.length:=by rw[e3]
 have n3:x.states.length=s.states.length:=by have:=congrArg List.length e4;simpa using this
 have m1:s.regs.length≤12:=by have:=hfine.r1;simpa[StgN.p] using this
 have m2:s.slots.length≤4:=hfine.s1
 have m3:s.states.length≤12:=by have:=hfine.t1;simpa[StgN.p] using this
 have m0:0<s.states.length:=by have:=hfine.t0;simpa[StgN.p] using this
 have htm:∀n:Nat,(n:Int)>0→0≤Int.tmod which n∧Int.tmod which n<n∧(n:Int)≠0:=fun n hn=>⟨Int.tmod_nonneg _ hw,Int.tmod_lt_of_pos _ hn,by omega⟩
 refine⟨⟨fun w0=>⟨fun hn=>?_,fun hn=>⟨fun w1=>⟨fun hk=>?_,fun hk=>⟨fun hj=>?_,fun hj=>?_⟩⟩,fun w1=>⟨fun hj=>?_,fun hj=>?_⟩⟩⟩,fun w0=>⟨fun w1=>⟨fun hk=>?_,fun hk=>⟨fun hj=>?_,fun hj=>?_⟩⟩,fun w1=>⟨fun hj=>?_,fun hj=>?_⟩⟩⟩,fun nm a n c a2 n2' c2 a3 n3' c3 I5 F5 l5 ⟨u,hu,hok,htw⟩=>?_⟩
 ·obtain⟨g0,g1,g2⟩:=htm s.regs.length (of_decide_eq_true hn)
  obtain⟨ad,r,had,hr,hrd,hrm⟩:=SlG.atm (oks4.cons.cons (x:=(b_s,Obj.cells #[.string s.name,.slice s.ra s.regs.length s.rc,.slice s.sa s.slots.length s.sc,.slice s.ta s.states.length s.tc] 26 (0,0))) (s:=s)).regs g0 g1
  refine⟨g2,⟨g0,g1⟩,ad,had,_,_,_,_,_,_,_,_,_,_,_,_,_,hrd,fun b I5 l5 hb=>?_⟩
  refine TriE.mono (own_push (f:=RegN.enc) (z:=11) (e:=68) (fun _=>rfl) (zv:=(⟨⟨#[]⟩,0,zNd,0⟩:RegN).v) (by':=104) (by kernel_rfl) (by kernel_rfl) rfl (by decide) o1 (x:=r) (fun u hu=>?_) hb (R0:=[(b_s,Obj.cells #[.string s.name,.slice s.ra s.regs.length s.rc,.slice s.sa s.slots.length s.sc,.slice s.ta s.states.length s.tc] 26 (0,0)),(b_x,Obj.cells #[.string x.name,.slice x.ra x.regs.length x.rc,.slice x.sa x.slots.length x.sc,.slice x.ta x.states.length x.tc] 26 (0,0))]) (R:=(H2++H3)++F) (perm_of fun z=>by simp only[cn_app,cn_cons,cn_nil];omega) (by omega)) fun v I6 G5 l6 ⟨a',n',c',hv,F5,hG5,hS,hRm,hk⟩=>?_
  ·simp only[RegN.enc,List.mem_cons,List.not_mem_nil,or_false] at hu
   rcases hu with rfl | rfl | rfl | rfl | rfl | rfl | rfl | rfl | rfl | rfl | rfl<;>rfl
  ·have l56:=Imm.le_trans l5 l6
   have hn':=hS.1
   subst hn'
   exact⟨a',_,c',hv,F5,hG5,⟨x.name,a',c',x.regs++[r],x.sa,x.sc,x.slots,x.ta,x.tc,x.states⟩,rfl,tw_reg s x r hrm px (hs.mono (Imm.le_trans l4 l56) fun a ha=>hRm a (List.mem_append_right _ ha)) o1 o2 o3 hS (fun y hy=>hRm y (List.mem_append_left _ hy)) hk⟩
 ·obtain⟨g0,g1,g2⟩:=htm s.slots.length (of_decide_eq_true hk)
  obtain⟨ad,r,had,hr,hrd,hrm⟩:=SlG.atm (oks4.cons.cons (x:=(b_s,Obj.cells #[.string s.name,.slice s.ra s.regs.length s.rc,.slice s.sa s.slots.length s.sc,.slice s.ta s.states.length s.tc] 26 (0,0))) (s:=s)).slots g0 g1
  refine⟨g2,⟨g0,g1⟩,ad,had,_,_,hrd,fun b I5 l5 hb=>?_⟩
  refine TriE.mono (own_push (f:=SlotP.enc) (z:=2) (e:=71) (fun _=>rfl) (zv:=(⟨⟨#[]⟩,0⟩:SlotP).v) (by':=24) (by kernel_rfl) (by kernel_rfl) rfl (by decide) o2 (x:=r) (fun u hu=>?_) hb (R0:=[(b_s,Obj.cells #[.string s.name,.slice s.ra s.regs.length s.rc,.slice s.sa s.slots.length s.sc,.slice s.ta s.states.length s.tc] 26 (0,0)),(b_x,Obj.cells #[.string x.name,.slice x.ra x.regs.length x.rc,.slice x.sa x.slots.length x.sc,.slice x.ta x.states.length x.tc] 26 (0,0))]) (R:=(H1++H3)++F) (perm_of fun z=>by simp only[cn_app,cn_cons,cn_nil];omega) (by omega)) fun v I6 G5 l6 ⟨a',n',c',hv,F5,hG5,hS,hRm,hk⟩=>?_
  ·simp only[SlotP.enc,List.mem_cons,List.not_mem_nil,or_false] at hu
   rcases hu with rfl | rfl<;>rfl
  ·have l56:=Imm.le_trans l5 l6
   have hn':=hS.1
   subst hn'
   exact⟨a',_,c',hv,F5,hG5,⟨x.name,x.ra,x.rc,x.regs,a',c',x.slots++[r],x.ta,x.tc,x.states⟩,rfl,tw_slot s x r hrm px (hs.mono (Imm.le_trans l4 l56) fun a ha=>hRm a (List.mem_append_right _ ha)) o1 o2 o3 hS (fun y hy=>hRm y (List.mem_append_left _ hy)) hk⟩
 ·obtain⟨g0,g1,g2⟩:=htm s.states.length (of_decide_eq_true hj)
  obtain⟨ad,r,had,hr,hrd,hrm⟩:=SlG.atm (oks4.cons.cons (x:=(b_s,Obj.cells #[.string s.name,.slice s.ra s.regs.length s.rc,.slice s.sa s.slots.length s.sc,.slice s.ta s.states.length s.tc] 26 (0,0))) (s:=s)).states g0 g1
  refine⟨g2,⟨g0,g1⟩,ad,had,_,_,_,_,_,hrd,fun b I5 l5 hb=>?_⟩
  refine TriE.mono (own_push (f:=StateN.enc) (z:=3) (e:=74) (fun _=>rfl) (zv:=(⟨⟨#[]⟩,none,0,[],0⟩:StateN).v) (by':=48) (by kernel_rfl) (by kernel_rfl) rfl (by decide) o3 (x:=r) (fun u hu=>?_) hb (R0:=[(b_s,Obj.cells #[.string s.name,.slice s.ra s.regs.length s.rc,.slice s.sa s.slots.length s.sc,.slice s.ta s.states.length s.tc] 26 (0,0)),(b_x,Obj.cells #[.string x.name,.slice x.ra x.regs.length x.rc,.slice x.sa x.slots.length x.sc,.slice x.ta x.states.length x.tc] 26 (0,0))]) (R:=(H1++H2)++F) (perm_of fun z=>by simp only[cn_app,cn_cons,cn_nil];omega) (by omega)) fun v I6 G5 l6 ⟨a',n',c',hv,F5,hG5,hS,hRm,hk⟩=>?_
  ·simp only[StateN.enc,List.mem_cons,List.not_mem_nil,or_false] at hu
   rcases hu with rfl | rfl | rfl<;>rfl
  ·have l56:=Imm.le_trans l5 l6
   have hn':=hS.1
   subst hn'
   exact⟨a',_,c',hv,F5,hG5,⟨x.name,x.ra,x.rc,x.regs,x.sa,x.sc,x.slots,a',c',x.states++[r]⟩,rfl,tw_state s x r hrm px (hs.mono (Imm.le_trans l4 l56) fun a ha=>hRm a (List.mem_append_right _ ha)) o1 o2 o3 hS (fun y hy=>hRm y (List.mem_append_left _ hy)) hk⟩
 ·exact absurd (of_decide_eq_false hj) (by omega)
 ·obtain⟨g0,g1,g2⟩:=htm s.states.length (of_decide_eq_true hj)
  obtain⟨ad,r,had,hr,hrd,hrm⟩:=SlG.atm (oks4.cons.cons (x:=(b_s,Obj.cells #[.string s.name,.slice s.ra s.regs.length s.rc,.slice s.sa s.slots.length s.sc,.slice s.ta s.states.length s.tc] 26 (0,0))) (s:=s)).states g0 g1
  refine⟨g2,⟨g0,g1⟩,ad,had,_,_,_,_,_,hrd,fun b I5 l5 hb=>?_⟩
  refine TriE.mono (own_push (f:=StateN.enc) (z:=3) (e:=74) (fun _=>rfl) (zv:=(⟨⟨#[]⟩,none,0,[],0⟩:StateN).v) (by':=48) (by kernel_rfl) (by kernel_rfl) rfl (by decide) o3 (x:=r) (fun u hu=>?_) hb (R0:=[(b_s,Obj.cells #[.string s.name,.slice s.ra s.regs.length s.rc,.slice s.sa s.slots.length s.sc,.slice s.ta s.states.length s.tc] 26 (0,0)),(b_x,Obj.cells #[.string x.name,.slice x.ra x.regs.length x.rc,.slice x.sa x.slots.length x.sc,.slice x.ta x.states.length x.tc] 26 (0,0))]) (R:=(H1++H2)++F) (perm_of fun z=>by simp only[cn_app,cn_cons,cn_nil];omega) (by omega)) fun v I6 G5 l6 ⟨a',n',c',hv,F5,hG5,hS,hRm,hk⟩=>?_
  ·simp only[StateN.enc,List.mem_cons,List.not_mem_nil,or_false] at hu
   rcases hu with rfl | rfl | rfl<;>rfl
  ·have l56:=Imm.le_trans l5 l6
   have hn':=hS.1
   subst hn'
   exact⟨a',_,c',hv,F5,hG5,⟨x.name,x.ra,x.rc,x.regs,x.sa,x.sc,x.slots,a',c',x.states++[r]⟩,rfl,tw_state s x r hrm px (hs.mono (Imm.le_trans l4 l56) fun a ha=>hRm a (List.mem_append_right _ ha)) o1 o2 o3 hS (fun y hy=>hRm y (List.mem_append_left _ hy)) hk⟩
 ·exact absurd (of_decide_eq_false hj) (by omega)
 ·obtain⟨g0,g1,g2⟩:=htm s.slots.length (of_decide_eq_true hk)
  obtain⟨ad,r,had,hr,hrd,hrm⟩:=SlG.atm (oks4.cons.cons (x:=(b_s,Obj.cells #[.string s.name,.slice s.ra s.regs.length s.rc,.slice s.sa s.slots.length s.sc,.slice s.ta s.states.length s.tc] 26 (0,0))) (s:=s)).slots g0 g1
  refine⟨g2,⟨g0,g1⟩,ad,had,_,_,hrd,fun b I5 l5 hb=>?_⟩
  refine TriE.mono (own_push (f:=SlotP.enc) (z:=2) (e:=71) (fun _=>rfl) (zv:=(⟨⟨#[]⟩,0⟩:SlotP).v) (by':=24) (by kernel_rfl) (by kernel_rfl) rfl (by decide) o2 (x:=r) (fun u hu=>?_) hb (R0:=[(b_s,Obj.cells #[.string s.name,.slice s.ra s.regs.length s.rc,.slice s.sa s.slots.length s.sc,.slice s.ta s.states.length s.tc] 26 (0,0)),(b_x,Obj.cells #[.string x.name,.slice x.ra x.regs.length x.rc,.slice x.sa x.slots.length x.sc,.slice x.ta x.states.length x.tc] 26 (0,0))]) (R:=(H1++H3)++F) (perm_of fun z=>by simp only[cn_app,cn_cons,cn_nil];omega) (by omega)) fun v I6 G5 l6 ⟨a',n',c',hv,F5,hG5,hS,hRm,hk⟩=>?_
  ·simp only[SlotP.enc,List.mem_cons,List.not_mem_nil,or_false] at hu
   rcases hu with rfl | rfl<;>rfl
  ·have l56:=Imm.le_trans l5 l6
   have hn':=hS.1
   subst hn'
   exact⟨a',_,c',hv,F5,hG5,⟨x.name,x.ra,x.rc,x.regs,a',c',x.slots++[r],x.ta,x.tc,x.states⟩,rfl,tw_slot s x r hrm px (hs.mono (Imm.le_trans l4 l56) fun a ha=>hRm a (List.mem_append_right _ ha)) o1 o2 o3 hS (fun y hy=>hRm y (List.mem_append_left _ hy)) hk⟩
 ·obtain⟨g0,g1,g2⟩:=htm s.states.length (of_decide_eq_true hj)
  obtain⟨ad,r,had,hr,hrd,hrm⟩:=SlG.atm (oks4.cons.cons (x:=(b_s,Obj.cells #[.string s.name,.slice s.ra s.regs.length s.rc,.slice s.sa s.slots.length s.sc,.slice s.ta s.states.length s.tc] 26 (0,0))) (s:=s)).states g0 g1
  refine⟨g2,⟨g0,g1⟩,ad,had,_,_,_,_,_,hrd,fun b I5 l5 hb=>?_⟩
  refine TriE.mono (own_push (f:=StateN.enc) (z:=3) (e:=74) (fun _=>rfl) (zv:=(⟨⟨#[]⟩,none,0,[],0⟩:StateN).v) (by':=48) (by kernel_rfl) (by kernel_rfl) rfl (by decide) o3 (x:=r) (fun u hu=>?_) hb (R0:=[(b_s,Obj.cells #[.string s.name,.slice s.ra s.regs.length s.rc,.slice s.sa s.slots.length s.sc,.slice s.ta s.states.length s.tc] 26 (0,0)),(b_x,Obj.cells #[.string x.name,.slice x.ra x.regs.length x.rc,.slice x.sa x.slots.length x.sc,.slice x.ta x.states.length x.tc] 26 (0,0))]) (R:=(H1++H2)++F) (perm_of fun z=>by simp only[cn_app,cn_cons,cn_nil];omega) (by omega)) fun v I6 G5 l6 ⟨a',n',c',hv,F5,hG5,hS,hRm,hk⟩=>?_
  ·simp only[StateN.enc,List.mem_cons,List.not_mem_nil,or_false] at hu
   rcases hu with rfl | rfl | rfl<;>rfl
  ·have l56:=Imm.le_trans l5 l6
   have hn':=hS.1
   subst hn'
   exact⟨a',_,c',hv,F5,hG5,⟨x.name,x.ra,x.rc,x.regs,x.sa,x.sc,x.slots,a',c',x.states++[r]⟩,rfl,tw_state s x r hrm px (hs.mono (Imm.le_trans l4 l56) fun a ha=>hRm a (List.mem_append_right _ ha)) o1 o2 o3 hS (fun y hy=>hRm y (List.mem_append_left _ hy)) hk⟩
 ·exact absurd (of_decide_eq_false hj) (by omega)
 ·obtain⟨g0,g1,g2⟩:=htm s.states.length (of_decide_eq_true hj)
  obtain⟨ad,r,had,hr,hrd,hrm⟩:=SlG.atm (oks4.cons.cons (x:=(b_s,Obj.cells #[.string s.name,.slice s.ra s.regs.length s.rc,.slice s.sa s.slots.length s.sc,.slice s.ta s.states.length s.tc] 26 (0,0))) (s:=s)).states g0 g1
  refine⟨g2,⟨g0,g1⟩,ad,had,_,_,_,_,_,hrd,fun b I5 l5 hb=>?_⟩
  refine TriE.mono (own_push (f:=StateN.enc) (z:=3) (e:=74) (fun _=>rfl) (zv:=(⟨⟨#[]⟩,none,0,[],0⟩:StateN).v) (by':=48) (by kernel_rfl) (by kernel_rfl) rfl (by decide) o3 (x:=r) (fun u hu=>?_) hb (R0:=[(b_s,Obj.cells #[.string s.name,.slice s.ra s.regs.length s.rc,.slice s.sa s.slots.length s.sc,.slice s.ta s.states.length s.tc] 26 (0,0)),(b_x,Obj.cells #[.string x.name,.slice x.ra x.regs.length x.rc,.slice x.sa x.slots.length x.sc,.slice x.ta x.states.length x.tc] 26 (0,0))]) (R:=(H1++H2)++F) (perm_of fun z=>by simp only[cn_app,cn_cons,cn_nil];omega) (by omega)) fun v I6 G5 l6 ⟨a',n',c',hv,F5,hG5,hS,hRm,hk⟩=>?_
  ·simp only[StateN.enc,List.mem_cons,List.not_mem_nil,or_false] at hu
   rcases hu with rfl | rfl | rfl<;>rfl
  ·have l56:=Imm.le_trans l5 l6
   have hn':=hS.1
   subst hn'
   exact⟨a',_,c',hv,F5,hG5,⟨x.name,x.ra,x.rc,x.regs,x.sa,x.sc,x.slots,a',c',x.states++[r]⟩,rfl,tw_state s x r hrm px (hs.mono (Imm.le_trans l4 l56) fun a ha=>hRm a (List.mem_append_right _ ha)) o1 o2 o3 hS (fun y hy=>hRm y (List.mem_append_left _ hy)) hk⟩
 ·exact absurd (of_decide_eq_false hj) (by omega)
 ·have hT:=pCheck_specT u (twice_thin ls hc htw) (F:=((b_s,Obj.cells #[.string s.name,.slice s.ra s.regs.length s.rc,.slice s.sa s.slots.length s.sc,.slice s.ta s.states.length s.tc] 26 (0,0)))::(b_x,Obj.cells #[.string nm,.slice a n c,.slice a2 n2' c2,.slice a3 n3' c3] 26 (0,0))::F5) (hok.mono (Imm.le_refl I5) fun a ha=>by simp only[List.mem_cons,List.mem_append];simp only[ha,true_or,or_true]) (hg.mono (Imm.le_trans l4 l5))
  rw[←hu] at hT
  refine Tri.retV hT fun v6 I6 h6 hv6=>⟨v6,rfl,F5,.refl _, ?_⟩
  refine Tri.ret (Wrong_chk (hg.mono (Imm.le_trans l4 (Imm.le_trans l5 h6))) (types_Z u.p) hv6 _) fun I7 h7=>⟨_,_,rfl,F5,.refl _,fun h=>rfl,fun h=>?_⟩
  rcases twice_types ht htw with h1 | h1
  ·rw[h1] at h;cases h
  ·rw[h1];rfl
end Go.Lx
namespace Go.Vc
open Go.ChangeShapes Go.WideShapes Go.ChangeAt Go.RowKit
theorem Stays.cell{w w':World}(h:Stays w w'){a:Addr}(ha:a.block<w.heap.size):w'.cell? a=w.cell? a:=by
 unfold World.cell?;rw[h.heap _ ha]
theorem Stays.same{w w':World}(h:Stays w w'){p:MemPlace}(hp:p.block<w.heap.size):w.sameAt w' p:=by
 cases p with
 | cell b off=>exact h.cell (a:=⟨b,off,none⟩) hp
 | map b=>exact h.heap b hp
theorem trodAll_stays{H:Type}{enc:TypeId×Value→H}{P:Program}{T:TypeId→Prop}{w w':World}(K:Kids P T)(hsz:∀{t e:TypeId},T t→P.underlying t=some (.slice e)→0<P.cellsOf e)(st:Stays w w'){sp':Nat→Bool} :
  ∀{ts:List TypeId} {vs:List Value} {ds:List (DataW H)} {ps:List MemPlace},(∀t∈ts,T t)→DataW.TrodAll enc P w 0 (fun _=>true) true ts vs ds ps→(∀p∈ps,sp' p.block=true)→DataW.TrodAll enc P w' 0 sp' true ts vs ds ps
 | [],[],[],ps,_,h,_=>h
 | t::ts,v::vs,d::ds,ps,ht,⟨p,q,⟨n,h1⟩,h2,e⟩,hs=>by
   subst e
   have hlt:∀x∈p,x.block<w.heap.size:=DataW.trod_lt n t v.cells.toList (d,p) h1
   refine⟨p,q,⟨n, ?_⟩,trodAll_stays K hsz st (fun t' ht'=>ht t' (List.mem_cons_of_mem _ ht')) h2 (fun x hx=>hs x (List.mem_append_right _ hx)),rfl⟩
   exact DataW.trod_stays K hsz (fun h=>by cases h) (ht t (List.mem_cons_self ..)) h1 (fun x hx=>st.same (hlt x hx)) (fun x hx=>hs x (List.mem_append_left _ hx))
 | [],_::_,_,_,_,h,_=>h.elim
 | [],[],_::_,_,_,h,_=>h.elim
 | _::_,[],_,_,_,h,_=>h.elim
 | _::_,_::_,[],_,_,h,_=>h.elim
theorem Rd.of_cell{W:World}{ad:Addr}{v:Value}(h:W.cell? ad=some v)(G:Heap):Rd (Imm.all W) G ad [v]:=by
 unfold World.cell? at h
 cases hb:W.heap[ad.block]? with
 | none=>rw[hb] at h;cases h
 | some o =>
   rw[hb] at h
   cases o with
   | cells c e fz =>
     simp only at h
     cases hs:ad.spot with
     | some x=>rw[hs] at h;simp at h
     | none =>
       rw[hs] at h
       refine⟨hs,c,e,fz,.inl hb,fun j hj=>?_⟩
       have:j=0:=by simpa using hj
       subst this
       simpa using h
   | _=>cases h
end Go.Vc
namespace Go.Vc
open Go.ChangeShapes Go.WideShapes Go.ChangeAt Go.RowKit
theorem list_choice{α:Type}{p:Nat→α→Prop}:∀(n:Nat),(∀i,i<n→∃x,p i x)→∃l:List α,l.length=n∧∀(i:Nat) (x:α),l[i]? = some x→p i x
 | 0,_=>⟨[],rfl,fun i x h=>by simp at h⟩
 | n+1,h=>by
   obtain⟨l,hl,hp⟩:=list_choice n fun i hi=>h i (by omega)
   obtain⟨x,hx⟩:=h n (by omega)
   refine⟨l++[x],by simp[hl],fun i y hy=>?_⟩
   rw[List.getElem?_append] at hy
   split at hy
   ·exact hp i y hy
   ·rename_i hi
    have:i-l.length=0:=by
     rcases Nat.eq_zero_or_pos (i-l.length) with h | h
     ·exact h
     ·rw[List.getElem?_eq_none (by simp;omega)] at hy;cases hy
    rw[this] at hy
    simp only[List.getElem?_cons_zero,Option.some.injEq] at hy
    subst hy
    have:i=n:=by omega
    rw[this];exact hx
theorem Rd.of_row{W:World}{ad:Addr}{n:Nat}{cs:List Value}{base:Nat}(h:W.cells? base ad n=some cs)(hn:0<n)(G:Heap):ad.spot=none→Rd (Imm.all W) G ad cs:=by
 intro hsp
 obtain⟨_,hl,hc⟩:=World.cells?_some h
 have h0:W.cell? ad=cs[0]?:=by have:=hc 0 hn;rwa [show ad.add 0=ad from rfl] at this
 have hlen:cs.length=n:=hl
 unfold World.cell? at h0
 cases hb:W.heap[ad.block]? with
 | none=>rw[hb] at h0;simp only at h0;rw[List.getElem?_eq_getElem (by omega)] at h0;cases h0
 | some o =>
   cases o with
   | cells c e fz =>
     refine⟨hsp,c,e,fz,.inl hb,fun j hj=>?_⟩
     have h1:=hc j (by omega)
     have hadd:ad.add j=⟨ad.block,ad.off+j,none⟩:=by
      obtain⟨b,off,sp⟩:=ad
      simp only at hsp;subst hsp
      unfold Addr.add;split<;>simp_all
     rw[hadd] at h1
     unfold World.cell? at h1
     simp only[hb] at h1
     simpa using h1
   | _=>rw[hb] at h0;simp only at h0;rw[List.getElem?_eq_getElem (by omega)] at h0;cases h0
end Go.Vc
namespace Go.Vc
open Go.ChangeShapes Go.WideShapes Go.ChangeAt Go.RowKit
def Opens{H α:Type}(en:TypeId×Value→H)(P:Program)(W:World)(sp:Nat→Bool)(hd:Bool)(n:Nat)(t:TypeId)(f:α→List Value)(R S:α→Prop):Prop :=
 ∀cs d ps,DataW.trod en P W 0 sp hd n t cs=some (d,ps)→∃x,cs=f x∧R x∧((∀m∈d.weights P t,m≤reachBytes)→S x)
def OpensF{H α:Type}(en:TypeId×Value→H)(P:Program)(W:World)(sp:Nat→Bool)(hd:Bool)(n:Nat)(z:Nat)(fs:List (TypeId×Nat))(o:Nat)(f:α→List Value)(R S:α→Prop):Prop :=
 ∀(cs:List Value) (xs:List (DataW H×List MemPlace)),(fs.mapM fun p=>DataW.trod en P W 0 sp hd n p.1 ((cs.drop p.2).take (P.cellsOf p.1)))=some xs→cs.length=z→∃x,cs.drop o=f x∧R x∧((∀m∈DataW.weightsEach P (fs.map Prod.fst) (xs.map Prod.fst),m≤reachBytes)→S x)
def structB(P:Program)(t:TypeId)(l:List (TypeId×Nat))(z:Nat):Bool:=match P.underlying t with
 | some (.struct fs)=>(fs.toList.map fun f=>(f.type,f.offset))==l&&P.cellsOf t==z
 | _=>false
theorem mapM_via{α β γ:Type}(h:α→β)(g:β→Option γ):∀l:List α,(l.map h).mapM g=l.mapM fun x=>g (h x)
 | []=>rfl
 | x::l=>by simp[List.mapM_cons,mapM_via h g l]
section
variable {H:Type} {en:TypeId×Value→H} {P:Program} {W:World} {sp:Nat→Bool} {hd:Bool} {n:Nat}
theorem OpensF.nil{z:Nat}:OpensF en P W sp hd n z [] z (fun _:Unit=>[]) (fun _=>True) (fun _=>True):=by
 intro cs xs h hl
 exact⟨(),List.drop_eq_nil_of_le (by omega),trivial,fun _=>trivial⟩
theorem OpensF.cons{α β:Type}{z o k:Nat}{t:TypeId}{fs:List (TypeId×Nat)}{f:α→List Value}{g:β→List Value}{R S:α→Prop}{R' S':β→Prop}(h:Opens en P W sp hd n t f R S)(hc:P.cellsOf t=k)
  (hs:OpensF en P W sp hd n z fs (o+k) g R' S'):OpensF en P W sp hd n z ((t,o)::fs) o (fun x:α×β=>f x.1++g x.2) (fun x=>R x.1∧R' x.2) (fun x=>S x.1∧S' x.2):=by
 intro cs xs hm hl
 rw[List.mapM_cons] at hm
 cases h0:DataW.trod en P W 0 sp hd n t ((cs.drop o).take (P.cellsOf t)) with
 | none=>simp[h0] at hm
 | some x0 =>
   cases h1:(fs.mapM fun p=>DataW.trod en P W 0 sp hd n p.1 ((cs.drop p.2).take (P.cellsOf p.1))) with
   | none=>simp[h0,h1] at hm
   | some ys =>
     simp[h0,h1] at hm
     subst hm
     obtain⟨d0,p0⟩:=x0
     obtain⟨x,e1,r1,s1⟩:=h _ _ _ h0
     obtain⟨y,e2,r2,s2⟩:=hs _ _ h1 hl
     refine⟨(x,y), ?_,⟨r1,r2⟩,fun hw=>⟨s1 fun m hm=>hw m ?_,s2 fun m hm=>hw m ?_⟩⟩
     ·show cs.drop o=f x++g y
      rw[←e1,←e2,hc,←List.drop_drop,List.take_append_drop]
     ·simp only[List.map_cons,DataW.weightsEach,List.mem_append];exact .inl hm
     ·simp only[List.map_cons,DataW.weightsEach,List.mem_append];exact .inr hm
theorem Opens.struct{α:Type}{z:Nat}{t:TypeId}{fs:List (TypeId×Nat)}{f:α→List Value}{R S:α→Prop}(ht:structB P t fs z=true)(h:OpensF en P W sp hd n z fs 0 f R S):Opens en P W sp hd (n+1) t f R S:=by
 intro cs d ps hr
 unfold structB at ht
 split at ht
 ·rename_i gs hg
  simp only[Bool.and_eq_true,beq_iff_eq] at ht
  obtain⟨ht,hz⟩:=ht
  simp only[DataW.trod,hg] at hr
  split at hr
  ·rename_i hl
   rw[hz] at hl
   cases hm:gs.toList.mapM fun f=>DataW.trod en P W 0 sp hd n f.type ((cs.drop f.offset).take (P.cellsOf f.type)) with
   | none=>rw[hm] at hr;cases hr
   | some xs =>
     rw[hm] at hr
     simp only[Option.map_some,Option.some.injEq,Prod.mk.injEq] at hr
     have hm':(fs.mapM fun p=>DataW.trod en P W 0 sp hd n p.1 ((cs.drop p.2).take (P.cellsOf p.1)))=some xs:=by rw[←ht,mapM_via];exact hm
     obtain⟨x,e,r,s⟩:=h cs xs hm' hl
     refine⟨x,by simpa using e,r,fun hw=>s fun m hmm=>hw m ?_⟩
     rw[←hr.1]
     simp only[DataW.weights,hg]
     have:gs.toList.map (fun f=>f.type)=fs.map Prod.fst:=by rw[←ht,List.map_map];rfl
     rw[this];exact hmm
  ·cases hr
 ·cases ht
theorem Opens.map{α β:Type}{t:TypeId}{f:α→List Value}{g:β→List Value}{R S:α→Prop}{R' S':β→Prop}(h:Opens en P W sp hd n t f R S)(φ:α→β)(hf:∀x,R x→f x=g (φ x))(hr:∀x,R x→R' (φ x))(hs:∀x,R x→S x→S' (φ x)):Opens en P W sp hd n t g R' S':=by
 intro cs d ps hd
 obtain⟨x,e,r,s⟩:=h cs d ps hd
 exact⟨φ x,e.trans (hf x r),hr x r,fun hw=>hs x r (s hw)⟩
theorem Opens.int{k:IntKind}{t:TypeId}(ht:P.underlying t=some (.int k)):Opens en P W sp hd n t (fun x:Int=>[.int k x]) (fun x=>(Lit.int k x).wf=true) (fun _=>True):=by
 intro cs d ps h
 obtain⟨x,e,_,hw⟩:=DataW.trod_int ht h
 exact⟨x,e,hw,fun _=>trivial⟩
theorem Opens.str{t:TypeId}(ht:P.underlying t=some .string):Opens en P W sp hd n t (fun x:ByteArray=>[.string x]) (fun x=>x.size≤maxLen) (fun x=>x.size≤reachBytes):=by
 intro cs d ps h
 obtain⟨s,e,hx,hl⟩:=DataW.trod_string ht h
 refine⟨s,e,hl,fun hw=>?_⟩
 simp only[Prod.mk.injEq] at hx
 have:=hw s.data.toList.length (by rw[hx.1];simp[DataW.weights])
 simpa using this
structure SlV (β:Type) where
 a:Option Addr
 n:Nat
 c:Nat
 l:List β
theorem Opens.slice{β:Type}{z by':Nat}{t e:TypeId}{f:β→List Value}{R S:β→Prop}(ht:P.underlying t=some (.slice e))(hc:P.cellsOf e=z)(hz:0<z)(hb:P.bytesOf e=by')(hb1:1≤by')(hf:∀x,(f x).length=z)(h:Opens en P W sp hd n e f R S) :
  Opens en P W sp hd (n+1) t (fun s:SlV β=>[.slice s.a s.n s.c]) (fun s=>SlG (Imm.all W) [] z f s.a s.n s.l∧∀x∈s.l,R x) (fun s=>s.l.length≤reachBytes∧∀x∈s.l,S x):=by
 intro cs d ps hr
 rcases DataW.trod_slice ht hr with ⟨h1,h2⟩ | ⟨ad,len,cap,elems,rest,n',hn,hcs,hx,_,_,_,hlen,hel,_,_⟩
 ·exact⟨⟨none,0,0,[]⟩,h1,⟨⟨rfl,fun h=>absurd rfl h⟩,fun x hx=>by cases hx⟩,fun _=>⟨by simp,fun x hx=>by cases hx⟩⟩
 ·cases hn
  simp only[Prod.mk.injEq] at hx
  obtain⟨hdd,hps⟩:=hx
  clear hps
  subst hcs
  have hone:∀i,i<len→∃x,Rd (Imm.all W) [] (ad.add (i*z)) (f x)∧R x∧((∀y∈elems,∀m∈y.1.weights P e,m≤reachBytes)→S x):=by
   intro i hi
   have hfy:=hel i hi
   obtain⟨y,hy⟩:∃y,elems[i]? = some y:=⟨_,List.getElem?_eq_getElem (by omega)⟩
   rw[hc,hy] at hfy
   cases hcs:W.cells? 0 (ad.add (i*z)) z with
   | none=>rw[hcs] at hfy;cases hfy
   | some cs =>
     rw[hcs] at hfy
     simp only[Option.bind_some] at hfy
     obtain⟨x,e1,r1,s1⟩:=h cs y.1 y.2 hfy
     subst e1
     have hspk:(ad.add (i*z)).spot=none:=by
      obtain⟨_,hl,hc'⟩:=World.cells?_some hcs
      have h0:=hc' 0 hz
      rw[show (ad.add (i*z)).add 0=ad.add (i*z) from rfl,List.getElem?_eq_getElem (by rw[hf];omega)] at h0
      cases hs:(ad.add (i*z)).spot with
      | none=>rfl
      | some q =>
        unfold World.cell? at h0
        split at h0<;>simp_all
     refine⟨x,Rd.of_row hcs hz [] hspk,r1,fun hw=>s1 fun m hm=>hw y (List.mem_of_getElem? hy) m hm⟩
  obtain⟨l,hll,hlx⟩:=list_choice len hone
  refine⟨⟨some ad,len,cap,l⟩,rfl,⟨⟨hll.symm,fun _=>⟨ad,rfl,fun i x hx=>(hlx i x hx).1⟩⟩,fun x hx=>?_⟩,fun hw=>⟨?_,fun x hx=>?_⟩⟩
  ·obtain⟨i,hi,rfl⟩:=List.mem_iff_getElem.1 hx
   exact (hlx i _ (List.getElem?_eq_getElem hi)).2.1
  ·have h1:=hw ((elems.length+rest.length)*by') (by rw[hdd];simp only[DataW.weights,ht,List.length_map,hb];exact List.mem_cons_self ..)
   have h2:elems.length+rest.length≤(elems.length+rest.length)*by':=Nat.le_mul_of_pos_right _ hb1
   show l.length≤reachBytes
   omega
  ·obtain⟨i,hi,rfl⟩:=List.mem_iff_getElem.1 hx
   refine (hlx i _ (List.getElem?_eq_getElem hi)).2.2 fun y hy m hm=>hw m ?_
   rw[hdd]
   simp only[DataW.weights,ht]
   refine List.mem_cons_of_mem _ (List.mem_append_left _ ?_)
   clear hx hlen hel hone hlx hdd hr hw hi hll
   induction elems with
   | nil=>cases hy
   | cons q qs ihq =>
     simp only[List.map_cons,DataW.weightsAll,List.mem_append]
     rcases List.mem_cons.1 hy with rfl | hy
     ·exact .inl hm
     ·exact .inr (ihq hy)
theorem Opens.zero{α:Type}{t:TypeId}{f:α→List Value}{R S:α→Prop}:Opens en P W sp hd 0 t f R S:=fun cs d ps h=>by cases h
end
end Go.Vc
namespace Go.Lx
open Go.Vc Go.ChangeShapes Go.WideShapes Go.ChangeAt Go.RowKit
def ndF:List (TypeId×Nat):=[(29,0),(30,1),(31,2),(2,3),(32,4),(9,5),(33,6),(3,7)]
theorem wf8{x:Int}(h:(Lit.int .u8 x).wf=true):0≤x∧x≤255:=by
 simp[Lit.wf,IntKind.min,IntKind.max,IntKind.signed,IntKind.bits] at h;omega
theorem wf64{x:Int}(h:(Lit.int .i64 x).wf=true) : -9223372036854775808≤x∧x≤9223372036854775807:=by
 simp[Lit.wf,IntKind.min,IntKind.max,IntKind.signed,IntKind.bits] at h;omega
theorem Wf.mk{t:Nd}(h:t.px.Fit)(hk:∀k∈t.kids,k.px.Wf):t.px.Wf:=by
 intro y hy
 rw[←nodes_px] at hy
 obtain⟨x,hx,rfl⟩:=List.mem_map.1 hy
 rw[Nd.nodes_eq] at hx
 rcases List.mem_cons.1 hx with rfl | hx
 ·exact h
 ·have hL:∀l:List Nd,(∀k∈l,k.px.Wf)→x∈Nd.nodesL l→x.px.Fit:=by
   intro l
   induction l with
   | nil=>intro _ h;rw[Nd.nodesL] at h;cases h
   | cons z r ih =>
     intro hz h
     rw[Nd.nodesL] at h
     rcases List.mem_append.1 h with h | h
     ·exact Wf.nd (hz z (List.mem_cons_self ..)) x h
     ·exact ih (fun k hk=>hz k (List.mem_cons_of_mem _ hk)) h
  exact hL _ hk hx
theorem open_nd{H:Type}{en:TypeId×Value→H}{W:World}{sp:Nat→Bool}{hd:Bool}:∀n,Opens en P W sp hd n 35 Nd.enc (fun t=>NdOk (Imm.all W) [] t∧t.px.Wf) (fun t=>t.px.ShortP):=by
 intro n
 induction n using Nat.strongRecOn with
 | ind n ih =>
   cases n with
   | zero=>exact Opens.zero
   | succ n =>
     have hsl:Opens en P W sp hd n 33 (fun s:SlV Nd=>[.slice s.a s.n s.c]) (fun s=>SlG (Imm.all W) [] 8 Nd.enc s.a s.n s.l∧∀x∈s.l,NdOk (Imm.all W) [] x∧x.px.Wf) (fun s=>s.l.length≤reachBytes∧∀x∈s.l,x.px.ShortP):=by
      cases n with
      | zero=>exact Opens.zero
      | succ n=>exact Opens.slice (z:=8) (by':=72) (by kernel_rfl) (by kernel_rfl) (by decide) (by kernel_rfl) (by decide) Nd.enc_len (ih n (by omega))
     refine (Opens.struct (z:=8) (fs:=ndF) (by kernel_rfl) ((OpensF.cons (k:=1) (Opens.int (k:=.u8) (by kernel_rfl)) (by kernel_rfl)<|OpensF.cons (k:=1) (Opens.int (k:=.u8) (by kernel_rfl)) (by kernel_rfl)<|OpensF.cons (k:=1) (Opens.int (k:=.u8) (by kernel_rfl)) (by kernel_rfl) <|
      OpensF.cons (k:=1) (Opens.int (k:=.i64) (by kernel_rfl)) (by kernel_rfl)<|OpensF.cons (k:=1) (Opens.int (k:=.u8) (by kernel_rfl)) (by kernel_rfl)<|OpensF.cons (k:=1) (Opens.str (by kernel_rfl)) (by kernel_rfl)<|OpensF.cons (k:=1) hsl (by kernel_rfl) <|
      OpensF.cons (k:=1) (Opens.int (k:=.i64) (by kernel_rfl)) (by kernel_rfl) OpensF.nil))).map (fun x=>Nd.mk x.1 x.2.1 x.2.2.1 x.2.2.2.1 x.2.2.2.2.1 x.2.2.2.2.2.1 x.2.2.2.2.2.2.1.a x.2.2.2.2.2.2.1.c x.2.2.2.2.2.2.1.l x.2.2.2.2.2.2.2.1) ?_ ?_ ?_
     ·intro ⟨k,o,ty,m,f,s,⟨a,l,c,ks⟩,q,u⟩ ⟨_,_,_,_,_,_,⟨h7,_⟩,_⟩
      have hl:l=ks.length:=h7.1
      subst hl;rfl
     ·intro ⟨k,o,ty,m,f,s,⟨a,l,c,ks⟩,q,u⟩ ⟨h1,h2,h3,h4,h5,h6,⟨h7,h8⟩,h9,_⟩
      have hl:l=ks.length:=h7.1
      subst hl
      refine⟨.mk h7 fun x hx=>(h8 x hx).1,Wf.mk ?_ fun x hx=>(h8 x hx).2⟩
      unfold Px.Fit
      rw[Nd.px_kind,Nd.px_oper,Nd.px_typ,Nd.px_n,Nd.px_field,Nd.px_pos]
      exact⟨wf8 h1,wf8 h2,wf8 h3,wf64 h4,wf8 h5,wf64 h9⟩
     ·intro ⟨k,o,ty,m,f,s,⟨a,l,c,ks⟩,q,u⟩ _ ⟨_,_,_,_,_,g6,⟨g7,g8⟩,_⟩
      refine .mk (by rw[Nd.px_name];exact g6) (by rw[Nd.px_len];exact g7) fun x hx=>?_
      rw[Nd.px_kids] at hx
      obtain⟨y,hy,rfl⟩:=List.mem_map.1 hx
      exact g8 y hy
theorem agg_of{P:Program}{W:World}{r:Reach}{b0:Nat}{t:TypeId}{v:Value}{fs:List (TypeId×Nat)}{z:Nat}(hst:structB P t fs z=true)(hval:Value.okWide P W r b0 t v):v=.agg v.cells.toList.toArray:=by
 unfold structB at hst
 split at hst
 ·rename_i gs hg
  have h5:=okWide_struct hg hval
  obtain⟨cs,hv,hcs⟩:=h5
  clear hcs
  subst hv
  rfl
 ·cases hst
end Go.Lx
namespace Go.Lx
open Go.Vc Go.ChangeShapes Go.WideShapes Go.ChangeAt Go.RowKit
def i64B(x:Int):Prop:=-9223372036854775808≤x∧x≤9223372036854775807
def u8B(x:Int):Prop:=0≤x∧x≤255
def DoP.Wf(d:DoP):Prop:=(u8B d.kind∧u8B d.order∧i64B d.pos)∧d.side.Wf∧d.qty.Wf∧d.price.Wf∧d.value.Wf
def RuleP.Wf(r:RuleP):Prop:=i64B r.pos∧r.when.Wf∧∀d∈r.dos,d.Wf
def StateP.Wf(x:StateP):Prop:=i64B x.pos∧∀r∈x.rules,r.Wf
def RegP.Wf(r:RegP):Prop:=(u8B r.typ∧i64B r.pos)∧r.init.Wf
def SlotP.Wf(r:SlotP):Prop:=i64B r.pos
def StgP.Wf(s:StgP):Prop:=(∀r∈s.regs,r.Wf)∧(∀r∈s.slots,r.Wf)∧∀x∈s.states,x.Wf
section
variable {H:Type} {en:TypeId×Value→H} {W:World} {sp:Nat→Bool} {hd:Bool}
def regF:List (TypeId×Nat):=[(9,0),(31,1),(35,2),(3,10)]
theorem open_regS(n:Nat):Opens en P W sp hd (n+1) 68 RegN.enc (fun r=>r.Ok (Imm.all W) []∧r.p.Wf) (fun r=>r.p.Short):=by
 refine (Opens.struct (z:=11) (fs:=regF) (by kernel_rfl) (OpensF.cons (k:=1) (Opens.str (by kernel_rfl)) (by kernel_rfl)<|OpensF.cons (k:=1) (Opens.int (k:=.u8) (by kernel_rfl)) (by kernel_rfl) <|
  OpensF.cons (k:=8) (open_nd n) (by kernel_rfl)<|OpensF.cons (k:=1) (Opens.int (k:=.i64) (by kernel_rfl)) (by kernel_rfl) OpensF.nil)).map (fun x=>RegN.mk x.1 x.2.1 x.2.2.1 x.2.2.2.1) ?_ ?_ ?_
 ·intro ⟨a,b,c,d,u⟩ _;rfl
 ·intro ⟨a,b,c,d,u⟩ ⟨h1,h2,h3,h4,_⟩
  exact⟨h3.1,⟨wf8 h2,wf64 h4⟩,h3.2⟩
 ·intro ⟨a,b,c,d,u⟩ _ ⟨g1,g2,g3,g4,_⟩
  exact⟨g1,g3⟩
def slotF:List (TypeId×Nat):=[(9,0),(3,1)]
theorem open_slotS(n:Nat):Opens en P W sp hd (n+1) 71 SlotP.enc (fun r=>r.Wf) (fun r=>r.Short):=by
 refine (Opens.struct (z:=2) (fs:=slotF) (by kernel_rfl) (OpensF.cons (k:=1) (Opens.str (by kernel_rfl)) (by kernel_rfl)<|OpensF.cons (k:=1) (Opens.int (k:=.i64) (by kernel_rfl)) (by kernel_rfl) OpensF.nil)).map (fun x=>SlotP.mk x.1 x.2.1) ?_ ?_ ?_
 ·intro ⟨a,b,u⟩ _;rfl
 ·intro ⟨a,b,u⟩ ⟨h1,h2,_⟩;exact wf64 h2
 ·intro ⟨a,b,u⟩ _ ⟨g1,g2,_⟩;exact g1
def doF:List (TypeId×Nat):=[(92,0),(93,1),(9,2),(35,3),(35,11),(35,19),(35,27),(3,35)]
theorem open_doS(n:Nat):Opens en P W sp hd (n+1) 95 DoN.enc (fun r=>r.Ok (Imm.all W) []∧r.p.Wf) (fun r=>r.p.Short):=by
 refine (Opens.struct (z:=36) (fs:=doF) (by kernel_rfl) (OpensF.cons (k:=1) (Opens.int (k:=.u8) (by kernel_rfl)) (by kernel_rfl)<|OpensF.cons (k:=1) (Opens.int (k:=.u8) (by kernel_rfl)) (by kernel_rfl)<|OpensF.cons (k:=1) (Opens.str (by kernel_rfl)) (by kernel_rfl) <|
  OpensF.cons (k:=8) (open_nd n) (by kernel_rfl)<|OpensF.cons (k:=8) (open_nd n) (by kernel_rfl)<|OpensF.cons (k:=8) (open_nd n) (by kernel_rfl)<|OpensF.cons (k:=8) (open_nd n) (by kernel_rfl)<|OpensF.cons (k:=1) (Opens.int (k:=.i64) (by kernel_rfl)) (by kernel_rfl) OpensF.nil)).map
   (fun x=>DoN.mk x.1 x.2.1 x.2.2.1 x.2.2.2.1 x.2.2.2.2.1 x.2.2.2.2.2.1 x.2.2.2.2.2.2.1 x.2.2.2.2.2.2.2.1) ?_ ?_ ?_
 ·intro ⟨a,b,c,d,e,f,g,h,u⟩ _;rfl
 ·intro ⟨a,b,c,d,e,f,g,h,u⟩ ⟨h1,h2,h3,h4,h5,h6,h7,h8,_⟩
  exact⟨⟨h4.1,h5.1,h6.1,h7.1⟩,⟨wf8 h1,wf8 h2,wf64 h8⟩,h4.2,h5.2,h6.2,h7.2⟩
 ·intro ⟨a,b,c,d,e,f,g,h,u⟩ _ ⟨g1,g2,g3,g4,g5,g6,g7,g8,_⟩
  refine⟨g3,fun x hx=>?_⟩
  simp only[DoP.nds,DoN.p,List.mem_cons,List.not_mem_nil,or_false] at hx
  rcases hx with rfl | rfl | rfl | rfl
  ·exact g4
  ·exact g5
  ·exact g6
  ·exact g7
def ruleF:List (TypeId×Nat):=[(35,0),(85,8),(3,9)]
theorem open_dosS:∀n,Opens en P W sp hd n 85 (fun s:SlV DoN=>[.slice s.a s.n s.c]) (fun s=>SlG (Imm.all W) [] 36 DoN.enc s.a s.n s.l∧∀x∈s.l,x.Ok (Imm.all W) []∧x.p.Wf) (fun s=>s.l.length≤reachBytes∧∀x∈s.l,x.p.Short)
 | 0=>Opens.zero
 | 1=>Opens.slice (e:=95) (z:=36) (by':=320) (by kernel_rfl) (by kernel_rfl) (by decide) (by kernel_rfl) (by decide) (fun _=>rfl) Opens.zero
 | n+2=>Opens.slice (e:=95) (z:=36) (by':=320) (by kernel_rfl) (by kernel_rfl) (by decide) (by kernel_rfl) (by decide) (fun _=>rfl) (open_doS n)
theorem open_ruleS(n:Nat):Opens en P W sp hd (n+1) 87 RuleN.enc (fun r=>r.Ok (Imm.all W) []∧r.p.Wf) (fun r=>r.p.Short):=by
 refine (Opens.struct (z:=10) (fs:=ruleF) (by kernel_rfl) (OpensF.cons (k:=8) (open_nd n) (by kernel_rfl)<|OpensF.cons (k:=1) (open_dosS n) (by kernel_rfl)<|OpensF.cons (k:=1) (Opens.int (k:=.i64) (by kernel_rfl)) (by kernel_rfl) OpensF.nil)).map
  (fun x=>RuleN.mk x.1 x.2.1.a x.2.1.c x.2.1.l x.2.2.1) ?_ ?_ ?_
 ·intro ⟨a,⟨sa,sn,sc,sl⟩,c,u⟩ ⟨_,⟨h2,_⟩,_⟩
  have e:sn=sl.length:=h2.1
  subst e;rfl
 ·intro ⟨a,⟨sa,sn,sc,sl⟩,c,u⟩ ⟨h1,⟨h2,h2'⟩,h3,_⟩
  have e:sn=sl.length:=h2.1
  subst e
  refine⟨⟨h1.1,h2,fun d hd=>(h2' d hd).1⟩,wf64 h3,h1.2,fun d hd=>?_⟩
  obtain⟨d',hd',rfl⟩:=List.mem_map.1 hd
  exact (h2' d' hd').2
 ·intro ⟨a,⟨sa,sn,sc,sl⟩,c,u⟩ _ ⟨g1,⟨g2,g2'⟩,_⟩
  refine⟨g1,by simp only[RuleN.p,List.length_map];exact g2,fun d hd=>?_⟩
  obtain⟨d',hd',rfl⟩:=List.mem_map.1 hd
  exact g2' d' hd'
def stateF:List (TypeId×Nat):=[(9,0),(72,1),(3,2)]
theorem open_rulesS:∀n,Opens en P W sp hd n 72 (fun s:SlV RuleN=>[.slice s.a s.n s.c]) (fun s=>SlG (Imm.all W) [] 10 RuleN.enc s.a s.n s.l∧∀x∈s.l,x.Ok (Imm.all W) []∧x.p.Wf) (fun s=>s.l.length≤reachBytes∧∀x∈s.l,x.p.Short)
 | 0=>Opens.zero
 | 1=>Opens.slice (e:=87) (z:=10) (by':=104) (by kernel_rfl) (by kernel_rfl) (by decide) (by kernel_rfl) (by decide) (fun _=>rfl) Opens.zero
 | n+2=>Opens.slice (e:=87) (z:=10) (by':=104) (by kernel_rfl) (by kernel_rfl) (by decide) (by kernel_rfl) (by decide) (fun _=>rfl) (open_ruleS n)
theorem open_stateS(n:Nat):Opens en P W sp hd (n+1) 74 StateN.enc (fun r=>r.Ok (Imm.all W) []∧r.p.Wf) (fun r=>r.p.Short):=by
 refine (Opens.struct (z:=3) (fs:=stateF) (by kernel_rfl) (OpensF.cons (k:=1) (Opens.str (by kernel_rfl)) (by kernel_rfl)<|OpensF.cons (k:=1) (open_rulesS n) (by kernel_rfl)<|OpensF.cons (k:=1) (Opens.int (k:=.i64) (by kernel_rfl)) (by kernel_rfl) OpensF.nil)).map
  (fun x=>StateN.mk x.1 x.2.1.a x.2.1.c x.2.1.l x.2.2.1) ?_ ?_ ?_
 ·intro ⟨a,⟨sa,sn,sc,sl⟩,c,u⟩ ⟨_,⟨h2,_⟩,_⟩
  have e:sn=sl.length:=h2.1
  subst e;rfl
 ·intro ⟨a,⟨sa,sn,sc,sl⟩,c,u⟩ ⟨h1,⟨h2,h2'⟩,h3,_⟩
  have e:sn=sl.length:=h2.1
  subst e
  refine⟨⟨h2,fun d hd=>(h2' d hd).1⟩,wf64 h3,fun d hd=>?_⟩
  obtain⟨d',hd',rfl⟩:=List.mem_map.1 hd
  exact (h2' d' hd').2
 ·intro ⟨a,⟨sa,sn,sc,sl⟩,c,u⟩ _ ⟨g1,⟨g2,g2'⟩,_⟩
  refine⟨g1,by simp only[StateN.p,List.length_map];exact g2,fun d hd=>?_⟩
  obtain⟨d',hd',rfl⟩:=List.mem_map.1 hd
  exact g2' d' hd'
def stgF:List (TypeId×Nat):=[(9,0),(22,1),(23,2),(24,3)]
theorem open_regsS:∀n,Opens en P W sp hd n 22 (fun s:SlV RegN=>[.slice s.a s.n s.c]) (fun s=>SlG (Imm.all W) [] 11 RegN.enc s.a s.n s.l∧∀x∈s.l,x.Ok (Imm.all W) []∧x.p.Wf) (fun s=>s.l.length≤reachBytes∧∀x∈s.l,x.p.Short)
 | 0=>Opens.zero
 | 1=>Opens.slice (e:=68) (z:=11) (by':=104) (by kernel_rfl) (by kernel_rfl) (by decide) (by kernel_rfl) (by decide) (fun _=>rfl) Opens.zero
 | n+2=>Opens.slice (e:=68) (z:=11) (by':=104) (by kernel_rfl) (by kernel_rfl) (by decide) (by kernel_rfl) (by decide) (fun _=>rfl) (open_regS n)
theorem open_slotsS:∀n,Opens en P W sp hd n 23 (fun s:SlV SlotP=>[.slice s.a s.n s.c]) (fun s=>SlG (Imm.all W) [] 2 SlotP.enc s.a s.n s.l∧∀x∈s.l,x.Wf) (fun s=>s.l.length≤reachBytes∧∀x∈s.l,x.Short)
 | 0=>Opens.zero
 | 1=>Opens.slice (e:=71) (z:=2) (by':=24) (by kernel_rfl) (by kernel_rfl) (by decide) (by kernel_rfl) (by decide) (fun _=>rfl) Opens.zero
 | n+2=>Opens.slice (e:=71) (z:=2) (by':=24) (by kernel_rfl) (by kernel_rfl) (by decide) (by kernel_rfl) (by decide) (fun _=>rfl) (open_slotS n)
theorem open_statesS:∀n,Opens en P W sp hd n 24 (fun s:SlV StateN=>[.slice s.a s.n s.c]) (fun s=>SlG (Imm.all W) [] 3 StateN.enc s.a s.n s.l∧∀x∈s.l,x.Ok (Imm.all W) []∧x.p.Wf) (fun s=>s.l.length≤reachBytes∧∀x∈s.l,x.p.Short)
 | 0=>Opens.zero
 | 1=>Opens.slice (e:=74) (z:=3) (by':=48) (by kernel_rfl) (by kernel_rfl) (by decide) (by kernel_rfl) (by decide) (fun _=>rfl) Opens.zero
 | n+2=>Opens.slice (e:=74) (z:=3) (by':=48) (by kernel_rfl) (by kernel_rfl) (by decide) (by kernel_rfl) (by decide) (fun _=>rfl) (open_stateS n)
theorem open_stgS(n:Nat):Opens en P W sp hd (n+1) 26 StgN.enc (fun r=>r.Ok (Imm.all W) []∧r.p.Wf) (fun r=>r.p.Short):=by
 refine (Opens.struct (z:=4) (fs:=stgF) (by kernel_rfl) (OpensF.cons (k:=1) (Opens.str (by kernel_rfl)) (by kernel_rfl)<|OpensF.cons (k:=1) (open_regsS n) (by kernel_rfl)<|OpensF.cons (k:=1) (open_slotsS n) (by kernel_rfl)<|OpensF.cons (k:=1) (open_statesS n) (by kernel_rfl) OpensF.nil)).map
  (fun x=>StgN.mk x.1 x.2.1.a x.2.1.c x.2.1.l x.2.2.1.a x.2.2.1.c x.2.2.1.l x.2.2.2.1.a x.2.2.2.1.c x.2.2.2.1.l) ?_ ?_ ?_
 ·intro ⟨a,⟨ra,rn,rc,rl⟩,⟨sa,sn,sc,sl⟩,⟨ta,tn,tc,tl⟩,u⟩ ⟨_,⟨h2,_⟩,⟨h3,_⟩,⟨h4,_⟩,_⟩
  have e2:rn=rl.length:=h2.1
  have e3:sn=sl.length:=h3.1
  have e4:tn=tl.length:=h4.1
  subst e2 e3 e4;rfl
 ·intro ⟨a,⟨ra,rn,rc,rl⟩,⟨sa,sn,sc,sl⟩,⟨ta,tn,tc,tl⟩,u⟩ ⟨h1,⟨h2,h2'⟩,⟨h3,h3'⟩,⟨h4,h4'⟩,_⟩
  have e2:rn=rl.length:=h2.1
  have e3:sn=sl.length:=h3.1
  have e4:tn=tl.length:=h4.1
  subst e2 e3 e4
  refine⟨⟨h2,fun d hd=>(h2' d hd).1,h3,h4,fun d hd=>(h4' d hd).1⟩,fun d hd=>?_,h3',fun d hd=>?_⟩
  ·obtain⟨d',hd',rfl⟩:=List.mem_map.1 hd
   exact (h2' d' hd').2
  ·obtain⟨d',hd',rfl⟩:=List.mem_map.1 hd
   exact (h4' d' hd').2
 ·intro ⟨a,⟨ra,rn,rc,rl⟩,⟨sa,sn,sc,sl⟩,⟨ta,tn,tc,tl⟩,u⟩ _ ⟨g1,⟨g2,g2'⟩,⟨g3,g3'⟩,⟨g4,g4'⟩,_⟩
  refine⟨g1,by simp only[StgN.p,List.length_map];exact g2,fun d hd=>?_,g3,g3',by simp only[StgN.p,List.length_map];exact g4,fun d hd=>?_⟩
  ·obtain⟨d',hd',rfl⟩:=List.mem_map.1 hd
   exact g2' d' hd'
  ·obtain⟨d',hd',rfl⟩:=List.mem_map.1 hd
   exact g4' d' hd'
end
theorem open_stg{H:Type}{en:TypeId×Value→H}{W:World}{base:Nat}{sp:Nat→Bool}{hd:Bool}{v:Value}{d:DataW H}{ps:List MemPlace}{r:Reach}(hval:Value.okWide P W r base 26 v)(h:DataW.Trod en P W 0 sp hd 26 v d ps) :
  ∃s:StgN,v=s.v∧s.Ok (Imm.all W) []∧s.p.Wf∧((∀m∈d.weights P 26,m≤reachBytes)→s.p.Short):=by
 have hv:=agg_of (fs:=stgF) (z:=4) (by kernel_rfl) hval
 obtain⟨fuel,hf⟩:=h
 cases fuel with
 | zero=>cases hf
 | succ n =>
   obtain⟨t,e,⟨h1,h2⟩,h3⟩:=open_stgS n _ d ps hf
   exact⟨t,by rw[hv,e],h1,h2,h3⟩
end Go.Lx
