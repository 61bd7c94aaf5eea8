import Derived.Test.YtmbkaikdndflbaaGreatDoorCostSizesB1
set_option linter.unusedVariables false
set_option linter.unusedSimpArgs false
set_option linter.unusedSectionVars false
set_option maxRecDepth 100000
namespace Go.Vc
def ox(o:Oper):Bool:=match o.op with
 | .move _ | .assign _ | .pick .. | .fieldAddr .. | .indexAddr .. | .extract .. | .field .. | .nilCheck _ | .binOp .. | .unOp .. | .makeFunc .. | .index .. | .slice .. | .makeInterface .. | .build .. => true
 | .call c=>match c.callee with
   | .builtin .len=>true
   | .builtin .cap=>true
   | _=>false
 | _=>false
def Es:List (Nat×List Nat)→Nat→Option (List Nat)
 | [],_=>none
 | (r,l)::t,n=>cond (r==n) (some l) (Es t n)
def Et:List (Nat×Nat×Nat×List Nat×List Nat)→Nat→Option (Nat×Nat×List Nat×List Nat)
 | [],_=>none
 | (r,x)::t,n=>cond (r==n) (some x) (Et t n)
def Eu:List (Nat×List Nat×Ot)→Nat→Option (List Nat×Ot)
 | [],_=>none
 | (r,x)::t,n=>cond (r==n) (some x) (Eu t n)
def Ev:List (Nat×List Nat×Nat)→Nat→Option (List Nat×Nat)
 | [],_=>none
 | (r,x)::t,n=>cond (r==n) (some x) (Ev t n)
def Ew:List (Nat×Nat)→Nat→Option Nat
 | [],_=>none
 | (r,l)::t,n=>cond (r==n) (some l) (Ew t n)
def b8.no(I:b8):b8:=⟨fun _=>none,I.os,I.out⟩
theorem uL(I:b8)(w:World):Reads I.no [] w:=by
 intro ad cs h j hj
 obtain⟨_,cells,t,fz,h1 | h1,_⟩:=h
 ·cases h1
 ·cases h1
def fj(P:Program)(A:mw)(rid:Nat)(ops:Array Oper):List Nat→S→b8→bZ→(S→b8→bZ→Prop)→Prop
 | [],σ,I,F,K=>K σ I F
 | i::r,σ,I,F,K=>match ops[i]? with
   | none=>False
   | some o=>match want ops σ o with
     | some true=>cond (ox o)
        (j4 P A.shp o σ I.no [] (List.range σ.own.length) fun av=>mW A rid i o.dst av σ fun σ'=>fj P A rid ops r σ' I F K)
        (Dz P A rid i o σ I F (fun σ' I' F'=>fj P A rid ops r σ' I' F' K) (fun _ _ _ _=>False))
     | some false=>fj P A rid ops r (σ.put o.dst (some (.a (.v undef)))) I F K
     | none=>False
def iF(P:Program)(A:mw)(rid:Nat)(ops:Array Oper)(os:List Nat)(I0:b8)(n0:Nat):List Nat→S→b8→bZ→(S→b8→bZ→Prop)→Prop
 | [],σ,I,F,K=>K σ I F
 | i::r,σ,I,F,K=>match ops[i]? with
   | none=>False
   | some o=>match want ops σ o with
     | some true=>cond (os.contains i)
        (j4 P A.shp o σ I0 [] ((List.range σ.own.length).drop n0) fun av=>mW A rid i o.dst av σ fun σ'=>iF P A rid ops os I0 n0 r σ' I F K)
        (cond (ox o)
          (j4 P A.shp o σ I.no [] (List.range σ.own.length) fun av=>mW A rid i o.dst av σ fun σ'=>iF P A rid ops os I0 n0 r σ' I F K)
          (Dz P A rid i o σ I F (fun σ' I' F'=>iF P A rid ops os I0 n0 r σ' I' F' K) (fun _ _ _ _=>False)))
     | some false=>iF P A rid ops os I0 n0 r (σ.put o.dst (some (.a (.v undef)))) I F K
     | none=>False
def qI(P:Program)(A:mw)(rid:Nat)(ops:Array Oper)(os:List Nat)(I0:b8)(n0:Nat)(N:List Nat→S→b8→bZ→Prop):Ot→S→b8→bZ→Prop
 | .fin pre post,σ,I,F=>iF P A rid ops os I0 n0 pre σ I F (N post)
 | .fork pre i j x y,σ,I,F=>iF P A rid ops os I0 n0 pre σ I F fun σ' I' F' =>
    iF P A rid ops os I0 n0 [i] σ' I' F' (fun s J G=>qI P A rid ops os I0 n0 N x s J G)∧iF P A rid ops os I0 n0 [j] σ' I' F' (fun s J G=>qI P A rid ops os I0 n0 N y s J G)
section
variable {P:Program} {A:mw} {rid:Nat} {ops:Array Oper}
theorem dm{ro:Option Nat}(hP:∀f,A.good f=true→cV P f){K:S→b8→bZ→Prop}{Q:Exit→Act→World→Prop}(hops:∀(i:Nat) (o:Oper),ops[i]? = some o→eB o.op=true) :
  ∀(l:List Nat) (σ:S) (I:b8) (F:bZ) (a:Act) (w:World),fj P A rid ops l σ I F K→Rel σ I F a w →
   (∀σ' I' F' a' w',Rel σ' I' F' a' w'→b8.le I I'→K σ' I' F'→cM (di ops.toList) σ a σ' a'→Q .normal a' w') →
   pN P ro ops ox Q l a w
 | [],σ,I,F,a,w,h,hr,hN=>hN σ I F a w hr (b8.le_refl I) h (cM.refl _ _ _)
 | i::r,σ,I,F,a,w,h,hr,hN=>by
   simp only[fj] at h
   split at h
   ·exact h.elim
   ·rename_i o ho
    have hd:∀t,o.dst=some t→t∈di ops.toList:=fun t ht=>by
     have hm:o∈ops.toList:=by have:=Array.mem_of_getElem? ho;simpa using this
     exact List.mem_filterMap.2 ⟨o,hm,ht⟩
    refine⟨o,ho, ?_⟩
    split at h
    ·rename_i hw
     rw[if_pos (dW hw hr.t)]
     cases hp:ox o with
     | true =>
       rw[if_pos rfl]
       rw[hp,cond_true] at h
       obtain⟨av,hk,hy⟩:=iD h
       obtain⟨av',hg,hwf',hk⟩:=jM hk
       have hwf:=hy.wf σ.own hr.wft hr.wfo
       refine⟨av.g,fun w'=>hy.run a w' hr.t hr.wft (fun j b hb hh=>?_) (uL I w'), ?_⟩
       ·have:j<σ.own.length:=(List.getElem?_eq_some_iff.1 hb).1
        have hc:(List.range σ.own.length).contains j=true:=by simpa using this
        rw[hc] at hh;cases hh
       ·have hr':Rel (σ.put o.dst (some av')) I F (a.put o.dst av.g) w:=hr.put o.dst hg (hwf' hwf)
        have hkp:cM (di ops.toList) σ a (σ.put o.dst (some av')) (a.put o.dst av.g):=cM.put (cE.put _ _ _) _ _ _ hd
        exact dm hP hops r _ I F _ w hk hr' fun σ2 I2 F2 a2 w2 g1 g2 g3 g4=>hN σ2 I2 F2 a2 w2 g1 g2 g3 (hkp.trans g4)
     | false =>
       rw[if_neg (by simp)]
       rw[hp,cond_false] at h
       have hh:=oD (Q:=Q) hP h hr fun ch w' σ' I' F' h1 h2 h3 h4=>h3.elim
       refine pV (.inr (qC (hops i o ho))) ?_
       unfold BC at hh ⊢
       revert hh
       generalize (execOp a.eval o).run P w=res
       intro hh
       have step:∀a' w',gx o σ I a (fun σ' I' F'=>fj P A rid ops r σ' I' F' K) a' w'→pN P ro ops ox Q r a' w':=by
        intro a' w' ⟨σ',I',F',h1,h2,h3,h4,v,h5⟩
        have hk:cM (di ops.toList) σ a σ' a':=cM.CN h4 _ _ _ hd h5
        exact dm hP hops r σ' I' F' _ w' h3 h1
         (fun σ2 I2 F2 a2 w2 g1 g2 g3 g4=>hN σ2 I2 F2 a2 w2 g1 (b8.le_trans h2 g2) g3 (hk.trans g4))
       cases res with
       | ok n w' =>
         cases n<;>simp only[Oper.uponIn] at hh ⊢<;>first | exact step _ _ hh | exact hh.elim | skip
         ·refine⟨hh.1,hh.2.mono fun e w'' hq=>?_⟩
          cases e with
          | returned v=>exact step _ _ hq
          | panicked ch=>exact hq
          | outgrown=>exact hq
         ·refine⟨hh.1,hh.2.mono fun e w'' hq=>?_⟩
          cases e with
          | returned v=>exact step _ _ hq
          | panicked ch=>exact hq
          | outgrown=>exact hq
         ·exact⟨hh.1,hh.2.mono fun v w'' hq=>step _ _ hq⟩
       | halt x w'=>cases x<;>simp only[Oper.uponIn] at hh ⊢<;>first | exact hh | exact hh.elim
    ·rename_i hw
     rw[if_neg (by rw[dW hw hr.t];simp)]
     have hk:cM (di ops.toList) σ a (σ.put o.dst (some (.a (.v undef)))) (a.put o.dst undef):=cM.put (cE.put _ _ _) _ _ _ hd
     exact dm hP hops r _ I F _ w h (hr.put o.dst (av:=.a (.v undef)) rfl trivial)
      (fun σ2 I2 F2 a2 w2 g1 g2 g3 g4=>hN σ2 I2 F2 a2 w2 g1 g2 g3 (hk.trans g4))
    ·exact h.elim
theorem wQ{ro:Option Nat}(hP:∀f,A.good f=true→cV P f){id:Nat}{l:List Nat}{σ:S}{I:b8}{F:bZ}{K:S→b8→bZ→Prop}{a:Act}{w:World}(hm:P.follows .mixedOrders=true)
  (hB:DB ops ox l=true) (h:fj P A rid ops l σ I F K) (hr:Rel σ I F a w) {Q:Exit→Act→World→Prop}
  (hQ:∀σ' I' F' a' w',Rel σ' I' F' a' w'→b8.le I I'→K σ' I' F'→cM (di ops.toList) σ a σ' a'→Q .normal a' w'):(Code.region id ops true).wpIn (Fw ro) 0 P Q a w:=by
 have hops:∀(i:Nat) (o:Oper),ops[i]? = some o→eB o.op=true:=fun i o ho=>by
  have hm:o∈ops.toList:=by have:=Array.mem_of_getElem? ho;simpa using this
  simp only[DB,Bool.and_eq_true] at hB
  have:=List.all_eq_true.1 hB.2 o hm
  simp only[Bool.and_eq_true] at this
  exact this.1
 have hr':Rel σ I F a { w with drawn:=w.drawn+1 }:=hr.s.rel (hr.sat.of_heap rfl ⟨rfl,rfl⟩)
 have hg:=dm (ro:=ro) (Q:=fun e a' w'=>e=.normal∧Q .normal a' w') hP hops l σ I F a _ h hr' fun σ' I' F' a' w' h1 h2 h3 h4=>⟨rfl,hQ σ' I' F' a' w' h1 h2 h3 h4⟩
 have:=Ao (fun c a w h=>by cases h.1) hB hg
 exact wpIn_mono (wpIn_region_any hm this) fun e a' w' hq=>by obtain⟨rfl,hq⟩:=hq;exact hq
theorem uM{ro:Option Nat}(hP:∀f,A.good f=true→cV P f){id:Nat}{l:List Nat}{p q:Nat}{lA lB:List Nat}{σ:S}{I:b8}{F:bZ}{K:S→b8→bZ→Prop}{a:Act}{w:World}(hm:P.follows .mixedOrders=true)
  (hB:Ap ops ox l p q lA lB=true) (h:fj P A rid ops l σ I F fun σ' I' F'=>fj P A rid ops (p::lA) σ' I' F' K∧fj P A rid ops (q::lB) σ' I' F' K) (hr:Rel σ I F a w) {Q:Exit→Act→World→Prop}
  (hQ:∀σ' I' F' a' w',Rel σ' I' F' a' w'→b8.le I I'→K σ' I' F'→cM (di ops.toList) σ a σ' a'→Q .normal a' w'):(Code.region id ops true).wpIn (Fw ro) 0 P Q a w:=by
 have hops:∀(i:Nat) (o:Oper),ops[i]? = some o→eB o.op=true:=fun i o ho=>by
  have hm:o∈ops.toList:=by have:=Array.mem_of_getElem? ho;simpa using this
  simp only[Ap,Bool.and_eq_true] at hB
  have:=List.all_eq_true.1 hB.2 o hm
  simp only[Bool.and_eq_true] at this
  exact this.1
 have hr':Rel σ I F a { w with drawn:=w.drawn+1 }:=hr.s.rel (hr.sat.of_heap rfl ⟨rfl,rfl⟩)
 have hg:=dm (ro:=ro) (Q:=Qx (CP P ro ops ox (fun a w=>Q .normal a w) p q lA lB)) hP hops l σ I F a _ h hr' fun σ' I' F' a' w' h1 h2 h3 h4 =>
  ⟨dm (ro:=ro) (Q:=Qx fun a w=>Q .normal a w) hP hops (p::lA) σ' I' F' a' w' h3.1 h1 fun σ2 I2 F2 a2 w2 g1 g2 g3 g4=>hQ σ2 I2 F2 a2 w2 g1 (b8.le_trans h2 g2) g3 (h4.trans g4),
    dm (ro:=ro) (Q:=Qx fun a w=>Q .normal a w) hP hops (q::lB) σ' I' F' a' w' h3.2 h1 fun σ2 I2 F2 a2 w2 g1 g2 g3 g4=>hQ σ2 I2 F2 a2 w2 g1 (b8.le_trans h2 g2) g3 (h4.trans g4)⟩
 exact wpIn_mono (wpIn_region_any hm (yT hB hg)) fun e a' w' hq=>by
  cases e with
  | normal=>exact hq
  | _=>exact hq.elim
def sk(own0:List cS)(I0:b8)(w:World):Prop:=(∀(j:Nat) (b:cS),own0[j]? = some b→w.heap[b.num]? = some b.obj)∧∀(b:Nat) (o:Obj),I0 b=some o→w.heap[b]? = some o
def sm(own0:List cS)(σ:S):Prop:=∀(j:Nat) (b:cS),own0[j]? = some b→∃b':cS,σ.own[j]? = some b'∧b'.num=b.num∧b'.elem=b.elem∧b'.cells=b.cells∧b'.ro=true
theorem sm.keep{own0:List cS}{σ σ':S}(h:sm own0 σ)(k:cE σ σ'):sm own0 σ':=fun j b hb=>by
 obtain⟨b',h1,h2,h3,h4,h5⟩:=h j b hb
 obtain⟨b2,g1,g2,g3,g4⟩:=k j b' h1
 obtain⟨g5,g6⟩:=g4 h5
 exact⟨b2,g1,g2.trans h2,g3.trans h3,g6.trans h4,g5⟩
theorem sm.obj{own0:List cS}{σ:S}(h:sm own0 σ){j:Nat}{b b':cS}(hb:own0[j]? = some b)(hb':σ.own[j]? = some b'):b'.num=b.num∧b'.obj=b.obj:=by
 obtain⟨b2,h1,h2,h3,h4,h5⟩:=h j b hb
 rw[hb'] at h1
 obtain rfl:=Option.some.inj h1
 exact⟨h2,by unfold cS.obj;rw[h3,h4]⟩
theorem sm.inv{own0:List cS}{σ:S}{I0 I:b8}{F:bZ}{a:Act}{w:World}(h:sm own0 σ)(hr:Rel σ I F a w)(hl:b8.le I0 I):sk own0 I0 w:=⟨fun j b hb=>by
 obtain⟨b',h1,_⟩:=h j b hb
 obtain⟨e1,e2⟩:=h.obj hb h1
 rw[←e1,←e2]
 exact hr.sat.own _ _ (List.mem_append_left _ (List.mem_map.2 ⟨b',List.mem_of_getElem? h1,rfl⟩)),fun b o ho=>hr.sat.imm _ _ (hl.at ho)⟩
theorem yV{own0:List cS}{I0:b8}{w:World}(h:sk own0 I0 w):Reads I0 [] w:=by
 intro ad cs ⟨hsp,cells,e,fz,ho,hc⟩ j hj
 have hb:w.heap[ad.block]? = some (.cells cells e fz):=ho.elim (h.2 _ _) fun h=>by cases h
 unfold World.cell? Addr.add
 by_cases h0:j=0
 ·subst h0;simp[hb,hsp];have:=hc 0 hj;simpa using this
 ·simp[h0,hb];exact hc j hj
theorem dn{ro:Option Nat}(hP:∀f,A.good f=true→cV P f){os:List Nat}{own0:List cS}{I0:b8}{K:S→b8→bZ→Prop}{R:Act→World→Prop}(hops:∀(i:Nat) (o:Oper),ops[i]? = some o→eB o.op=true) :
  ∀(l:List Nat) (σ:S) (I:b8) (F:bZ) (a:Act) (w:World),iF P A rid ops os I0 own0.length l σ I F K→Rel σ I F a w→sm own0 σ→b8.le I0 I →
   (∀σ' I' F' a' w',Rel σ' I' F' a' w'→b8.le I I'→K σ' I' F'→cM (di ops.toList) σ a σ' a'→R a' w') →
   tD P ro ops ox R (sk own0 I0) os l a w
 | [],σ,I,F,a,w,h,hr,hH,hl,hN=>hN σ I F a w hr (b8.le_refl I) h (cM.refl _ _ _)
 | i::r,σ,I,F,a,w,h,hr,hH,hl,hN=>by
   simp only[iF] at h
   split at h
   ·exact h.elim
   ·rename_i o ho
    have hd:∀t,o.dst=some t→t∈di ops.toList:=fun t ht=>List.mem_filterMap.2 ⟨o,by have:=Array.mem_of_getElem? ho;simpa using this,ht⟩
    show ed P ro ops ox R (sk own0 I0) os i (tD P ro ops ox R (sk own0 I0) os r) a w
    unfold ed
    by_cases hio:i∈os
    ·rw[if_pos hio]
     refine⟨o,ho, ?_⟩
     split at h
     ·rename_i hw
      rw[show os.contains i=true by simpa using hio,cond_true] at h
      obtain⟨av,hk,hy⟩:=iD h
      obtain⟨av',hg,hwf',hk⟩:=jM hk
      have hwf:=hy.wf σ.own hr.wft hr.wfo
      refine⟨av.g,⟨fun _ w' hI=>hy.run a w' hr.t hr.wft (fun j b hb hh=>?_) (yV hI),fun hn=>absurd (dW hw hr.t) hn⟩, ?_⟩
      ·have hj:j<σ.own.length:=(List.getElem?_eq_some_iff.1 hb).1
       have hj0:j<own0.length:=by
        rcases Nat.lt_or_ge j own0.length with h | h
        ·exact h
        ·have:((List.range σ.own.length).drop own0.length).contains j=true:=by
          simp only[List.contains_iff_mem]
          refine List.mem_iff_getElem?.2 ⟨j-own0.length, ?_⟩
          rw[List.getElem?_drop,show own0.length+(j-own0.length)=j by omega]
          simp[hj]
         rw[this] at hh;cases hh
       obtain⟨e1,e2⟩:=hH.obj (List.getElem?_eq_getElem hj0) hb
       rw[e1,e2]
       exact hI.1 j _ (List.getElem?_eq_getElem hj0)
      ·have hr':Rel (σ.put o.dst (some av')) I F (a.put o.dst av.g) w:=hr.put o.dst hg (hwf' hwf)
       have hkp:cM (di ops.toList) σ a (σ.put o.dst (some av')) (a.put o.dst av.g):=cM.put (cE.put _ _ _) _ _ _ hd
       exact dn hP hops r _ I F _ w hk hr' (hH.keep hkp.own) hl fun σ2 I2 F2 a2 w2 g1 g2 g3 g4=>hN σ2 I2 F2 a2 w2 g1 g2 g3 (hkp.trans g4)
     ·rename_i hw
      have hk:cM (di ops.toList) σ a (σ.put o.dst (some (.a (.v undef)))) (a.put o.dst undef):=cM.put (cE.put _ _ _) _ _ _ hd
      refine⟨undef,⟨fun hn=>by (rw[dW hw hr.t] at hn;cases hn),fun _=>rfl⟩, ?_⟩
      exact dn hP hops r _ I F _ w h (hr.put o.dst (av:=.a (.v undef)) rfl trivial) (hH.keep hk.own) hl
       (fun σ2 I2 F2 a2 w2 g1 g2 g3 g4=>hN σ2 I2 F2 a2 w2 g1 g2 g3 (hk.trans g4))
     ·exact h.elim
    ·rw[if_neg hio]
     refine⟨o,ho, ?_⟩
     split at h
     ·rename_i hw
      rw[if_pos (dW hw hr.t)]
      rw[show os.contains i=false by simpa using hio,cond_false] at h
      cases hp:ox o with
      | true =>
        rw[if_pos rfl]
        rw[hp,cond_true] at h
        obtain⟨av,hk,hy⟩:=iD h
        obtain⟨av',hg,hwf',hk⟩:=jM hk
        have hwf:=hy.wf σ.own hr.wft hr.wfo
        refine⟨av.g,fun w'=>hy.run a w' hr.t hr.wft (fun j b hb hh=>?_) (uL I w'), ?_⟩
        ·have:j<σ.own.length:=(List.getElem?_eq_some_iff.1 hb).1
         have hc:(List.range σ.own.length).contains j=true:=by simpa using this
         rw[hc] at hh;cases hh
        ·have hr':Rel (σ.put o.dst (some av')) I F (a.put o.dst av.g) w:=hr.put o.dst hg (hwf' hwf)
         have hkp:cM (di ops.toList) σ a (σ.put o.dst (some av')) (a.put o.dst av.g):=cM.put (cE.put _ _ _) _ _ _ hd
         have hH':=hH.keep hkp.own
         exact⟨hH'.inv hr' hl,dn hP hops r _ I F _ w hk hr' hH' hl fun σ2 I2 F2 a2 w2 g1 g2 g3 g4=>hN σ2 I2 F2 a2 w2 g1 g2 g3 (hkp.trans g4)⟩
      | false =>
        rw[if_neg (by simp)]
        rw[hp,cond_false] at h
        have hh:=oD (Q:=Qx R) hP h hr fun ch w' σ' I' F' h1 h2 h3 h4=>h3.elim
        refine pV (.inr (qC (hops i o ho))) ?_
        unfold BC at hh ⊢
        revert hh
        generalize (execOp a.eval o).run P w=res
        intro hh
        have step:∀a' w',gx o σ I a (fun σ' I' F'=>iF P A rid ops os I0 own0.length r σ' I' F' K) a' w'→sk own0 I0 w'∧tD P ro ops ox R (sk own0 I0) os r a' w':=by
         intro a' w' ⟨σ',I',F',h1,h2,h3,h4,v,h5⟩
         have hk:cM (di ops.toList) σ a σ' a':=cM.CN h4 _ _ _ hd h5
         exact⟨(hH.keep h4).inv h1 (b8.le_trans hl h2),dn hP hops r σ' I' F' _ w' h3 h1 (hH.keep h4) (b8.le_trans hl h2)
          (fun σ2 I2 F2 a2 w2 g1 g2 g3 g4=>hN σ2 I2 F2 a2 w2 g1 (b8.le_trans h2 g2) g3 (hk.trans g4))⟩
        cases res with
        | ok n w' =>
          cases n<;>simp only[Oper.uponIn] at hh ⊢<;>first | exact step _ _ hh | exact hh.elim | skip
          ·refine⟨hh.1,hh.2.mono fun e w'' hq=>?_⟩
           cases e with
           | returned v=>exact step _ _ hq
           | panicked ch=>exact hq
           | outgrown=>exact hq
          ·refine⟨hh.1,hh.2.mono fun e w'' hq=>?_⟩
           cases e with
           | returned v=>exact step _ _ hq
           | panicked ch=>exact hq
           | outgrown=>exact hq
          ·exact⟨hh.1,hh.2.mono fun v w'' hq=>step _ _ hq⟩
        | halt x w'=>cases x<;>simp only[Oper.uponIn] at hh ⊢<;>first | exact hh | exact hh.elim
     ·rename_i hw
      rw[if_neg (by rw[dW hw hr.t];simp)]
      have hk:cM (di ops.toList) σ a (σ.put o.dst (some (.a (.v undef)))) (a.put o.dst undef):=cM.put (cE.put _ _ _) _ _ _ hd
      have hr':=hr.put o.dst (av:=.a (.v undef)) rfl trivial
      exact⟨(hH.keep hk.own).inv hr' hl,dn hP hops r _ I F _ w h hr' (hH.keep hk.own) hl             (fun σ2 I2 F2 a2 w2 g1 g2 g3 g4=>hN σ2 I2 F2 a2 w2 g1 g2 g3 (hk.trans g4))⟩
     ·exact h.elim
theorem uN{ro:Option Nat}(hP:∀f,A.good f=true→cV P f){id m n:Nat}{hid:List Nat}{σ:S}{I:b8}{F:bZ}{K:S→b8→bZ→Prop}{Kp:List PanicEntry→S→b8→bZ→Prop}{a:Act}{w:World}(hm:P.follows .mixedOrders=true)
  (hT:nM ops m=true) (hS:ops.toList.all (fun o=>eB o.op)=true) (hB:pe (ops.extract 0 m)=true)
  (h:wD P A rid (ops.extract 0 m) n hid (ops.extract 0 m).toList 0 σ I F fun σ' F'=>tx P A rid ops (ops.toList.drop m) m σ' I F' K Kp) (hr:Rel σ I F a w) {Q:Exit→Act→World→Prop}
  (hQ:∀σ' I' F' a' w',Rel σ' I' F' a' w'→b8.le I I'→K σ' I' F'→cM (di ops.toList) σ a σ' a'→Q .normal a' w')
  (hX:∀ch σ' I' F' a' w',Rel σ' I' F' a' w'→b8.le I I'→Kp ch σ' I' F'→cM (di ops.toList) σ a σ' a'→Q (.panic ch) a' w'):(Code.region id ops true).wpIn (Fw ro) 0 P Q a w:=by
 have hr':Rel σ I F a { w with drawn:=w.drawn+1 }:=hr.s.rel (hr.sat.of_heap rfl ⟨rfl,rfl⟩)
 have hmm:m≤ops.size:=by
  simp only[nM,Bool.and_eq_true,decide_eq_true_eq] at hT
  exact hT.1
 have hsz:(ops.extract 0 m).size=m:=by simp;omega
 have hnd:(ops.toList.drop m).all (fun o=>qA o.op)=true:=List.all_eq_true.2 fun o ho=>by
  have:=List.all_eq_true.1 hS o (List.mem_of_mem_drop ho)
  revert this;cases o.op<;>simp[eB,qA]
 have hsub:∀t∈di (ops.extract 0 m).toList,t∈di ops.toList:=fun t ht=>by
  unfold di at ht ⊢
  obtain⟨o,ho,he⟩:=List.mem_filterMap.1 ht
  refine List.mem_filterMap.2 ⟨o, ?_,he⟩
  rw[Array.toList_extract] at ho
  exact List.mem_of_mem_drop (List.mem_of_mem_take ho)
 have hsub2:∀t∈di (ops.toList.drop m),t∈di ops.toList:=fun t ht=>by
  unfold di at ht ⊢
  obtain⟨o,ho,he⟩:=List.mem_filterMap.1 ht
  exact List.mem_filterMap.2 ⟨o,List.mem_of_mem_drop ho,he⟩
 have hlen:(ops.toList.drop m).length=ops.size-m:=by simp
 have heq:=wpOpsIn_eq_wpListIn (F:=Fw ro) (n:=0) (P:=P) (ops:=ops) (Q:=Q) (ops.toList.drop m) m (fun j=>by rw[List.getElem?_drop];simp)
 rw[hlen] at heq
 have hd:=qB (ro:=ro) (Q:=fun e a' w'=>e=.normal∧wpOpsIn (Fw ro) 0 P ops Q (List.range' m (ops.size-m)) a' w') hP hB h hr' fun σ' F' a' w' h1 h2 h3 =>
  ⟨rfl,by
    rw[heq]
    exact iE hP (ops.toList.drop m) m σ' I F' a' w' (.inr hnd) h2 h1 (fun σ2 I2 F2 a2 w2 g1 g2 g3 g4=>hQ σ2 I2 F2 a2 w2 g1 g2 g3 ((h3.mono hsub).trans (g4.mono hsub2)))
     (fun ch σ2 I2 F2 a2 w2 g1 g2 g3 g4=>hX ch σ2 I2 F2 a2 w2 g1 g2 g3 ((h3.mono hsub).trans (g4.mono hsub2)))⟩
 rw[hsz] at hd
 exact wpIn_region_any hm (yP hT (fun e a w hne h=>absurd h.1 hne) (fun a w h=>h.2) hd)
theorem jd{ro:Option Nat}(hP:∀f,A.good f=true→cV P f){os:List Nat}{own0:List cS}{I0:b8}{N:List Nat→S→b8→bZ→Prop}{R:Act→World→Prop}(hops:∀(i:Nat) (o:Oper),ops[i]? = some o→eB o.op=true) :
  ∀(t:Ot) (σ:S) (I:b8) (F:bZ) (a:Act) (w:World),qI P A rid ops os I0 own0.length N t σ I F→Rel σ I F a w→sm own0 σ→b8.le I0 I →
   (∀post σ' I' F' a' w',Rel σ' I' F' a' w'→b8.le I I'→N post σ' I' F'→cM (di ops.toList) σ a σ' a'→pN P ro ops ox (Qx R) post a' w') →
   Ct P ro ops ox R (sk own0 I0) os t a w
 | .fin pre post,σ,I,F,a,w,h,hr,hH,hl,hN=>dn hP hops pre σ I F a w h hr hH hl fun σ' I' F' a' w' g1 g2 g3 g4=>hN post σ' I' F' a' w' g1 g2 g3 g4
 | .fork pre i j x y,σ,I,F,a,w,h,hr,hH,hl,hN =>
   dn hP hops pre σ I F a w h hr hH hl fun σ' I' F' a' w' g1 g2 g3 g4 =>
    ⟨ic (R:=Ct P ro ops ox R (sk own0 I0) os x) (dn hP hops [i] σ' I' F' a' w' g3.1 g1 (hH.keep g4.own) (b8.le_trans hl g2) fun σ2 I2 F2 a2 w2 k1 k2 k3 k4 =>
      jd hP hops x σ2 I2 F2 a2 w2 k3 k1 ((hH.keep g4.own).keep k4.own) (b8.le_trans hl (b8.le_trans g2 k2)) fun post σ3 I3 F3 a3 w3 m1 m2 m3 m4=>hN post σ3 I3 F3 a3 w3 m1 (b8.le_trans g2 (b8.le_trans k2 m2)) m3 ((g4.trans k4).trans m4)),
     ic (R:=Ct P ro ops ox R (sk own0 I0) os y) (dn hP hops [j] σ' I' F' a' w' g3.2 g1 (hH.keep g4.own) (b8.le_trans hl g2) fun σ2 I2 F2 a2 w2 k1 k2 k3 k4 =>
      jd hP hops y σ2 I2 F2 a2 w2 k3 k1 ((hH.keep g4.own).keep k4.own) (b8.le_trans hl (b8.le_trans g2 k2)) fun post σ3 I3 F3 a3 w3 m1 m2 m3 m4=>hN post σ3 I3 F3 a3 w3 m1 (b8.le_trans g2 (b8.le_trans k2 m2)) m3 ((g4.trans k4).trans m4))⟩
end
end Go.Vc
namespace Go.Vc
theorem ld:∀{l:List Lf} {vs:List Value},dk l vs=true→vs.length=l.length
 | [],[],_=>rfl
 | l::r,v::vs,h=>by simp only[dk,Bool.and_eq_true] at h;simp[ld h.2]
 | [],_::_,h=>by simp[dk] at h
 | _::_,[],h=>by simp[dk] at h
theorem iG:∀{l m:List Lf} {vs us:List Value},dk l vs=true→dk m us=true→dk (l++m) (vs++us)=true
 | [],_,[],_,_,h=>h
 | l::r,_,v::vs,_,h,k=>by
   simp only[dk,Bool.and_eq_true,List.cons_append] at h ⊢
   exact⟨h.1,iG h.2 k⟩
 | [],_,_::_,_,h,_=>by simp[dk] at h
 | _::_,_,[],_,h,_=>by simp[dk] at h
theorem jC(σ:S):∀tms:List (Nat×Lf),(jB σ tms).length=tms.length
 | []=>rfl
 | (t,l)::r=>by simp[jB,jC σ r]
theorem qJ{σ:S}:∀{tms:List (Nat×Lf)} {k t:Nat} {v:Value},wL σ tms=true→(tms.map Prod.fst)[k]? = some t→(jB σ tms)[k]? = some v →
  ∃av,σ.tm[t]? = some (some av)∧av.g=v
 | [],k,t,v,_,h,_=>by simp at h
 | (s,l)::r,0,t,v,hok,h,hv=>by
   simp only[List.map_cons,List.getElem?_cons_zero,Option.some.injEq] at h
   subst h
   simp only[wL,Bool.and_eq_true] at hok
   simp only[jB,List.getElem?_cons_zero,Option.some.injEq] at hv
   obtain⟨h1,_⟩:=hok
   split at h1
   ·rename_i av ha;rw[ha] at hv;exact⟨av,ha,hv⟩
   ·cases h1
 | (s,l)::r,k+1,t,v,hok,h,hv=>by
   simp only[wL,Bool.and_eq_true] at hok
   simp only[jB,List.getElem?_cons_succ] at hv
   exact qJ hok.2 (by simpa using h) hv
theorem sN{σ:S}:∀{tms:List (Nat×Lf)},wL σ tms=true→dk (tms.map Prod.snd) (jB σ tms)=true
 | [],_=>rfl
 | (s,l)::r,h=>by
   simp only[wL,Bool.and_eq_true] at h
   simp only[List.map_cons,jB,dk,Bool.and_eq_true]
   refine⟨?_,sN h.2⟩
   obtain⟨h1,_⟩:=h
   split at h1
   ·exact h1
   ·cases h1
theorem sO{own:List cS}:∀{bks:List (Nat×List Lf)},mZ own bks=true→dk (bks.flatMap Prod.snd) (mY own bks)=true
 | [],_=>rfl
 | (s,l)::r,h=>by
   simp only[mZ,Bool.and_eq_true] at h
   simp only[List.flatMap_cons,mY]
   refine iG ?_ (sO h.2)
   obtain⟨h1,_⟩:=h
   split at h1
   ·simp only[Bool.and_eq_true] at h1;exact h1.2
   ·cases h1
theorem qK{σ:S}{c:Cut}(h:σ.Cs c=true):dk c.D8 (σ.jO c)=true:=by
 simp only[S.Cs,Bool.and_eq_true] at h
 exact iG (sN h.1) (sO h.2)
theorem uO{own:List cS}:∀{bks:List (Nat×List Lf)} {i:Nat} {b:cS} {cs:List Value},mZ own bks=true→own[i]? = some b →
  nK bks (mY own bks) i=some cs→cs=b.cells.map AV.g
 | [],i,b,cs,_,_,h=>by simp[nK] at h
 | (j,ls)::r,i,b,cs,hok,hi,h=>by
   simp only[mZ,Bool.and_eq_true] at hok
   obtain⟨h1,h2⟩:=hok
   split at h1
   ·rename_i b' hb'
    simp only[Bool.and_eq_true] at h1
    have hl:=ld h1.2
    simp only[nK,mY,hb'] at h
    cases hji:(j==i) with
    | true =>
      rw[hji] at h
      simp only[cond_true,Option.some.injEq] at h
      have:j=i:=by simpa using hji
      subst this
      rw[hi] at hb';cases hb'
      rw[←h,←hl];simp
    | false =>
      rw[hji] at h
      simp only[cond_false] at h
      rw[←hl,List.drop_left] at h
      exact uO h2 hi h
   ·cases h1
theorem qL:∀{bks:List (Nat×List Lf)} {vs us:List Value} {i:Nat},(nK bks vs i).isSome=(nK bks us i).isSome
 | [],_,_,_=>rfl
 | (j,ls)::r,vs,us,i=>by
   simp only[nK]
   cases (j==i) with
   | true=>rfl
   | false=>exact qL
theorem tF{own:List cS}:∀{bks:List (Nat×List Lf)} {vs:List Value} {i:Nat} {b:cS},mZ own bks=true→own[i]? = some b→(nK bks vs i).isSome=true→b.ro=false
 | [],_,_,_,_,_,h=>by simp[nK] at h
 | (j,ls)::r,vs,i,b,hok,hi,h=>by
   simp only[mZ,Bool.and_eq_true] at hok
   obtain⟨h1,h2⟩:=hok
   simp only[nK] at h
   cases hji:(j==i) with
   | true =>
     have:j=i:=by simpa using hji
     subst this
     rw[hi] at h1
     simp only[Bool.and_eq_true,Bool.not_eq_true'] at h1
     exact h1.1
   | false=>rw[hji] at h;exact tF h2 hi h
theorem Aq(c:Cut)(l:List Nat)(vs:List Value)(σ:S):gy σ.own (σ.lay c l vs).own:=fun i b hb=>by
 refine⟨_,by show (du _ _ 0 σ.own)[i]? = _;rw[eg,hb];rfl, ?_⟩
 split<;>rfl
theorem Ar{c:Cut}{l:List Nat}{vs:List Value}{σ:S}(hok:mZ σ.own c.bks=true):cE σ (σ.lay c l vs):=fun i b hb=>by
 refine⟨_,by show (du _ _ 0 σ.own)[i]? = _;rw[eg,hb];rfl, ?_⟩
 cases hs:nK c.bks (vs.drop c.tms.length) (0+i) with
 | none=>exact⟨rfl,rfl,fun _=>⟨rfl,rfl⟩⟩
 | some cs =>
   refine⟨rfl,rfl,fun hr=>?_⟩
   have:=tF (vs:=vs.drop c.tms.length) hok hb (by rw[Nat.zero_add] at hs;rw[hs];rfl)
   rw[this] at hr;cases hr
theorem Rel.lay{σ0 σ:S}{I0 I:b8}{F0 F:bZ}{a0 a:Act}{w0 w:World}(c:Cut)(l:List Nat)(hr0:Rel σ0 I0 F0 a0 w0)(hr:Rel σ I F a w)
  (hown:∀(i:Nat) (b:cS),σ0.own[i]? = some b→∃b':cS,σ.own[i]? = some b'∧b'.num=b.num∧b'.elem=b.elem ∧
    (nK c.bks ((σ.jO c).drop c.tms.length) i=none→b'.cells=b.cells))
  (htm:∀t,t∉l→a.tmps[t]? = a0.tmps[t]?) (hsz:a.tmps.size=a0.tmps.size) (hok:σ.Cs c=true) (hdf:σ.df=σ0.df):Rel (σ0.lay c l (σ.jO c)) I F a w:=by
 have hok':=hok
 simp only[S.Cs,Bool.and_eq_true] at hok'
 have hdrop:(σ.jO c).drop c.tms.length=mY σ.own c.bks:=by
  unfold S.jO;rw[←jC σ c.tms,List.drop_left]
 have htake:(σ.jO c).take c.tms.length=jB σ c.tms:=by
  unfold S.jO;rw[←jC σ c.tms,List.take_left]
 have hsame:=Aq c l (σ.jO c) σ0
 refine⟨?_, ?_,hr.defers.trans (by rw[hdf];rfl), ?_, ?_, ?_⟩
 ·simp only[S.lay,mJ,mH];rw[hr0.size,hsz]
 ·intro t av ht
  rcases j8 _ _ _ t av ht with ⟨k,v,h1,h2,rfl⟩ | h
  ·rw[htake] at h2
   obtain⟨av',h3,h4⟩:=qJ hok'.1 h1 h2
   have:=hr.tm t av' h3
   rw[this,h4];rfl
  ·obtain⟨h1,h2⟩:=nb _ _ _ _ h
   rw[htm t h1];exact hr0.tm t av h2
 ·intro t av ht
  rcases j8 _ _ _ t av ht with ⟨k,v,h1,h2,rfl⟩ | h
  ·trivial
  ·obtain⟨h1,h2⟩:=nb _ _ _ _ h
   exact AV.dA hsame (hr0.wft t av h2)
 ·intro i b hb cell hc
  have hb':(du c.bks ((σ.jO c).drop c.tms.length) 0 σ0.own)[i]? = some b:=hb
  rw[eg] at hb'
  cases h0:σ0.own[i]? with
  | none=>rw[h0] at hb';simp at hb'
  | some b0 =>
    rw[h0] at hb'
    simp only[Option.map_some,Option.some.injEq] at hb'
    subst hb'
    split at hc
    ·obtain⟨v,_,rfl⟩:=List.mem_map.1 hc;trivial
    ·exact AV.dA hsame (hr0.wfo i b0 h0 cell hc)
 ·have heq:cy (σ0.lay c l (σ.jO c)).own=(cy σ.own).take σ0.own.length:=by
   apply List.ext_getElem?
   intro i
   simp only[cy,List.getElem?_map,List.getElem?_take,S.lay,eg,Nat.zero_add]
   cases h0:σ0.own[i]? with
   | none =>
     have:¬i<σ0.own.length:=fun h=>by simp[h] at h0
     simp[this]
   | some b0 =>
     have hlt:i<σ0.own.length:=by
      rcases Nat.lt_or_ge i σ0.own.length with h | h
      ·exact h
      ·simp[List.getElem?_eq_none h] at h0
     obtain⟨b',h1,h2,h3,h4⟩:=hown i b0 h0
     simp only[if_pos hlt,h1,Option.map_some]
     cases hs:nK c.bks ((σ.jO c).drop c.tms.length) i with
     | none =>
       have h5:=h4 hs
       simp[cS.obj,h2,h3,h5]
     | some cs =>
       have h5:=uO hok'.2 h1 (by rw[hdrop] at hs;exact hs)
       simp[cS.obj,h2,h3,h5,AV.g,At.g,Function.comp_def]
  rw[heq]
  exact hr.sat.sub ((List.take_sublist _ _).append (List.Sublist.refl F))
theorem qM(own0:List cS):∀(i:Nat) (own:List cS),cy (ym own0 i own)=cy own
 | _,[]=>rfl
 | i,b::r=>by
   simp only[ym,cy,List.map_cons]
   have:=qM own0 (i+1) r
   unfold cy at this
   rw[this]
   congr 1
   split<;>rfl
theorem uP(own0:List cS)(own:List cS):gy own (ym own0 0 own):=fun i b hb=>by
 refine⟨_,by rw[lR,hb];rfl, ?_⟩
 split<;>rfl
theorem Rel.unlock{σ σ0:S}{I:b8}{F:bZ}{a:Act}{w:World}(h:Rel σ I F a w):Rel (σ.unlock σ0) I F a w:=by
 refine h.heap (uP _ _) ?_ (by rw[qM];exact h.sat)
 intro i b hb c hc
 rw[lR] at hb
 cases h0:σ.own[i]? with
 | none=>rw[h0] at hb;simp at hb
 | some b0 =>
   rw[h0] at hb
   simp only[Option.map_some,Option.some.injEq] at hb
   have:b.cells=b0.cells:=by rw[←hb];split<;>rfl
   rw[this] at hc
   exact AV.dA (uP _ _) (h.wfo i b0 h0 c hc)
theorem ph{σ0 σ:S}{c:Cut}{l:List Nat}{vs:List Value}(hok:mZ σ0.own c.bks=true)(hk:cE (σ0.lay c l vs) σ):cE σ0 (σ.unlock σ0):=fun i b hb=>by
 obtain⟨b1,h1,e1,e2,h2⟩:=Ar (l:=l) (vs:=vs) hok i b hb
 obtain⟨b2,h3,e3,e4,h4⟩:=hk i b1 h1
 refine⟨{ b2 with ro:=b.ro }, ?_,e3.trans e1,e4.trans e2,fun hr=>?_⟩
 ·show (ym σ0.own 0 σ.own)[i]? = _
  rw[lR,h3,Nat.zero_add,hb];rfl
 ·obtain⟨h5,h6⟩:=h2 hr
  exact⟨hr,(h4 h5).2.trans h6⟩
def eG(bks:List (Nat×List Lf)):Nat→List cS→List cS
 | _,[]=>[]
 | i,b::r=>(match nK bks [] i with
   | some _=>b
   | none=>{ b with ro:=true })::eG bks (i+1) r
def S.lock(σ:S)(c:Cut):S:={ σ with own:=eG c.bks 0 σ.own }
theorem je(bks:List (Nat×List Lf)):∀(i:Nat) (own:List cS) (j:Nat),(eG bks i own)[j]? = (own[j]?).map fun b =>
  match nK bks [] (i+j) with
  | some _=>b
  | none=>{ b with ro:=true }
 | i,[],j=>by simp[eG]
 | i,b::r,0=>by simp only[eG,List.getElem?_cons_zero,Option.map_some,Nat.add_zero]
 | i,b::r,j+1=>by
   simp only[eG,List.getElem?_cons_succ]
   rw[je bks (i+1) r j,show i+1+j=i+(j+1) by omega]
theorem sP(bks:List (Nat×List Lf)):∀(i:Nat) (own:List cS),cy (eG bks i own)=cy own
 | _,[]=>rfl
 | i,b::r=>by
   simp only[eG,cy,List.map_cons]
   have:=sP bks (i+1) r
   unfold cy at this
   rw[this]
   congr 1
   split<;>rfl
theorem pY{σ:S}{c:Cut}{i:Nat}{b:cS}(hb:σ.own[i]? = some b):∃b',(σ.lock c).own[i]? = some b'∧b'.num=b.num∧b'.elem=b.elem∧b'.cells=b.cells ∧
  (b.ro=true→b'.ro=true)∧(nK c.bks [] i=none→b'.ro=true):=by
 refine⟨_,by show (eG _ 0 σ.own)[i]? = _;rw[je,hb];rfl, ?_⟩
 rw[Nat.zero_add]
 cases nK c.bks [] i with
 | none=>exact⟨rfl,rfl,rfl,fun _=>rfl,fun _=>rfl⟩
 | some cs=>exact⟨rfl,rfl,rfl,fun h=>h,fun h=>by cases h⟩
theorem Rel.lock{σ:S}{I:b8}{F:bZ}{a:Act}{w:World}(h:Rel σ I F a w)(c:Cut):Rel (σ.lock c) I F a w:=by
 have hs:gy σ.own (σ.lock c).own:=fun i b hb=>by
  obtain⟨b',h1,h2,_⟩:=pY (c:=c) hb
  exact⟨b',h1,h2⟩
 refine h.heap hs ?_ (by show Sat I (cy (eG _ 0 _)++F) w;rw[sP];exact h.sat)
 intro i b hb cell hc
 cases h0:σ.own[i]? with
 | none =>
   have h1:(eG c.bks 0 σ.own)[i]? = some b:=hb
   rw[je,h0] at h1;simp at h1
 | some b0 =>
   obtain⟨b',h1,_,_,h2,_⟩:=pY (c:=c) h0
   have:b'=b:=Option.some.inj (h1.symm.trans hb)
   subst this
   rw[h2] at hc
   exact AV.dA hs (h.wfo i b0 h0 cell hc)
theorem gN{σ0 σ:S}{c:Cut}(hk:cE (σ0.lock c) σ):cE σ0 (σ.unlock σ0):=fun i b hb=>by
 obtain⟨b1,h1,e1,e2,h2,h3,_⟩:=pY (c:=c) hb
 obtain⟨b2,h4,e3,e4,h5⟩:=hk i b1 h1
 refine⟨{ b2 with ro:=b.ro }, ?_,e3.trans e1,e4.trans e2,fun hr=>⟨hr,(h5 (h3 hr)).2.trans h2⟩⟩
 show (ym σ0.own 0 σ.own)[i]? = _
 rw[lR,h4,Nat.zero_add,hb];rfl
def S.dB(σ:S):S:=σ.lock ⟨[],[],fun _ _ _ _ _ _ _=>True,[],[]⟩
theorem dG(σ:S):sm σ.dB.own σ.dB:=fun j b hb=>by
 refine⟨b,hb,rfl,rfl,rfl, ?_⟩
 have hb':(eG [] 0 σ.own)[j]? = some b:=hb
 rw[je] at hb'
 cases h0:σ.own[j]? with
 | none=>rw[h0] at hb';simp at hb'
 | some b0 =>
   rw[h0] at hb'
   simp only[Option.map_some,nK,Option.some.injEq] at hb'
   rw[←hb']
theorem jf(σ:S):σ.dB.own.length=σ.own.length:=by
 have h:∀(i:Nat) (own:List cS),(eG [] i own).length=own.length:=by
  intro i own
  induction own generalizing i with
  | nil=>rfl
  | cons b r ih=>simp[eG,ih]
 exact h 0 σ.own
theorem uQ{P:Program}{A:mw}{rid:Nat}{ops:Array Oper}{ro:Option Nat}(hP:∀f,A.good f=true→cV P f){id:Nat}{os pre post:List Nat}{σ:S}{I:b8}{F:bZ}{K:S→b8→bZ→Prop}{a:Act}{w:World}(hm:P.follows .mixedOrders=true)
  (hB:CR ops ox os pre post=true) (h:iF P A rid ops os I σ.own.length pre σ.dB I F fun σ' I' F'=>fj P A rid ops post (σ'.unlock σ) I' F' K) (hr:Rel σ I F a w) {Q:Exit→Act→World→Prop}
  (hQ:∀σ' I' F' a' w',Rel σ' I' F' a' w'→b8.le I I'→K σ' I' F'→cM (di ops.toList) σ a σ' a'→Q .normal a' w'):(Code.region id ops true).wpIn (Fw ro) 0 P Q a w:=by
 have hops:∀(i:Nat) (o:Oper),ops[i]? = some o→eB o.op=true:=fun i o ho=>by
  have hm:o∈ops.toList:=by have:=Array.mem_of_getElem? ho;simpa using this
  simp only[CR,Bool.and_eq_true] at hB
  have:=List.all_eq_true.1 hB.2 o hm
  simp only[Bool.and_eq_true] at this
  exact this.1
 have hr1:Rel σ I F a { w with drawn:=w.drawn+1 }:=hr.s.rel (hr.sat.of_heap rfl ⟨rfl,rfl⟩)
 have hr':Rel σ.dB I F a { w with drawn:=w.drawn+1 }:=hr1.lock _
 rw[←jf] at h
 have hg:=dn (ro:=ro) (R:=pN P ro ops ox (Qx fun a w=>Q .normal a w) post) hP hops pre σ.dB I F a _ h hr' (dG σ) (b8.le_refl I) fun σ' I' F' a' w' h1 h2 h3 h4 =>
  dm (ro:=ro) (Q:=Qx fun a w=>Q .normal a w) hP hops post (σ'.unlock σ) I' F' a' w' h3 h1.unlock fun σ2 I2 F2 a2 w2 g1 g2 g3 g4 =>
   hQ σ2 I2 F2 a2 w2 g1 (b8.le_trans h2 g2) g3 ((⟨gN h4.own,h4.tm,h4.size⟩:cM (di ops.toList) σ a (σ'.unlock σ) a').trans g4)
 exact wpIn_mono (wpIn_region_any hm (sL hB ((dG σ).inv hr' (b8.le_refl I)) hg)) fun e a' w' hq=>by
  cases e with
  | normal=>exact hq
  | _=>exact hq.elim
def b8.del(I:b8)(b:Nat):b8:=⟨fun x=>if x=b then none else I x,I.os,I.out⟩
theorem Sat.wR{I I':b8}{F:bZ}{w:World}{b:Nat}{o:Obj}(hb:I b=none)(hl:b8.le (I.put b o) I')(h:Sat I' F w):b8.le I (I'.del b)∧Sat (I'.del b) ((b,o)::F) w:=by
 have ho:I' b=some o:=hl.at (by simp[b8.put])
 refine⟨⟨fun x y hx=>?_,hl.2.1,hl.2.2⟩,fun x y hx=>?_,fun x y hx=>?_,fun x y hx=>?_, ?_,h.env⟩
 ·have hne:x≠b:=fun e=>by rw[e,hb] at hx;cases hx
  show (if x=b then none else I' x)=some y
  rw[if_neg hne]
  exact hl.at (by simp[b8.put,hne,hx])
 ·have hx:(if x=b then none else I' x)=some y:=hx
  split at hx
  ·cases hx
  ·exact h.imm _ _ hx
 ·rcases List.mem_cons.1 hx with e | hx
  ·cases e;exact h.imm _ _ ho
  ·exact h.own _ _ hx
 ·show (if x=b then none else I' x)=none
  split
  ·rfl
  ·rename_i hne
   rcases List.mem_cons.1 hx with e | hx
   ·cases e;exact absurd rfl hne
   ·exact h.off _ _ hx
 ·rw[List.map_cons,List.nodup_cons]
  refine⟨fun hm=>?_,h.nd⟩
  obtain⟨⟨x,y⟩,hx,rfl⟩:=List.mem_map.1 hm
  have:=h.off _ _ hx
  rw[this] at ho;cases ho
theorem uR{P:Program}{A:mw}{rid:Nat}{ops:Array Oper}{ro:Option Nat}(hP:∀f,A.good f=true→cV P f){id:Nat}{os pre post:List Nat}{σ:S}{I:b8}{F F1:bZ}{b:Nat}{o:Obj}{K:S→b8→bZ→Prop}{a:Act}{w:World}(hm:P.follows .mixedOrders=true)
  (hB:CR ops ox os pre post=true) (hp:F.Perm ((b,o)::F1)) (h:iF P A rid ops os (I.put b o) σ.own.length pre σ.dB (I.put b o) F1 fun σ' I' F'=>fj P A rid ops post (σ'.unlock σ) (I'.del b) ((b,o)::F') K) (hr:Rel σ I F a w) {Q:Exit→Act→World→Prop}
  (hQ:∀σ' I' F' a' w',Rel σ' I' F' a' w'→b8.le I I'→K σ' I' F'→cM (di ops.toList) σ a σ' a'→Q .normal a' w'):(Code.region id ops true).wpIn (Fw ro) 0 P Q a w:=by
 have hops:∀(i:Nat) (o:Oper),ops[i]? = some o→eB o.op=true:=fun i o ho=>by
  have hm:o∈ops.toList:=by have:=Array.mem_of_getElem? ho;simpa using this
  simp only[CR,Bool.and_eq_true] at hB
  have:=List.all_eq_true.1 hB.2 o hm
  simp only[Bool.and_eq_true] at this
  exact this.1
 have hsat:Sat I ((b,o)::(cy σ.own++F1)) w:=hr.sat.perm ((hp.append_left _).trans List.perm_middle)
 have hIb:I b=none:=hsat.off _ _ (.head _)
 have hr1:Rel σ (I.put b o) F1 a { w with drawn:=w.drawn+1 }:=hr.s.rel (hsat.jc.2.of_heap rfl ⟨rfl,rfl⟩)
 have hr':Rel σ.dB (I.put b o) F1 a { w with drawn:=w.drawn+1 }:=hr1.lock _
 rw[←jf] at h
 have hg:=dn (ro:=ro) (R:=pN P ro ops ox (Qx fun a w=>Q .normal a w) post) hP hops pre σ.dB (I.put b o) F1 a _ h hr' (dG σ) (b8.le_refl _) fun σ' I' F' a' w' h1 h2 h3 h4=>by
  have hu:=h1.unlock (σ0:=σ)
  obtain⟨d1,d2⟩:=Sat.wR hIb h2 hu.sat
  have hu':Rel (σ'.unlock σ) (I'.del b) ((b,o)::F') a' w':=hu.s.rel (d2.perm List.perm_middle.symm)
  exact dm (ro:=ro) (Q:=Qx fun a w=>Q .normal a w) hP hops post (σ'.unlock σ) (I'.del b) ((b,o)::F') a' w' h3 hu' fun σ2 I2 F2 a2 w2 g1 g2 g3 g4 =>
   hQ σ2 I2 F2 a2 w2 g1 (b8.le_trans d1 g2) g3 ((⟨gN h4.own,h4.tm,h4.size⟩:cM (di ops.toList) σ a (σ'.unlock σ) a').trans g4)
 exact wpIn_mono (wpIn_region_any hm (sL hB ((dG σ).inv hr' (b8.le_refl _)) hg)) fun e a' w' hq=>by
  cases e with
  | normal=>exact hq
  | _=>exact hq.elim
theorem yr{b:Bool}{p q:Prop}(h:cond b p q):p∨q:=by
 cases b
 ·exact .inr h
 ·exact .inl h
theorem yt{ops:Array Oper}{os:List Nat}{t:Ot}(hB:CT ops ox os t=true):∀(i:Nat) (o:Oper),ops[i]? = some o→eB o.op=true:=fun i o ho=>by
 have hm:o∈ops.toList:=by have:=Array.mem_of_getElem? ho;simpa using this
 simp only[CT,Bool.and_eq_true] at hB
 have:=List.all_eq_true.1 hB.2 o hm
 simp only[Bool.and_eq_true] at this
 exact this.1
theorem uS{P:Program}{A:mw}{rid:Nat}{ops:Array Oper}{ro:Option Nat}(hP:∀f,A.good f=true→cV P f){id:Nat}{os:List Nat}{t:Ot}{σ:S}{I:b8}{F:bZ}{K:S→b8→bZ→Prop}{a:Act}{w:World}(hm:P.follows .mixedOrders=true)
  (hB:CT ops ox os t=true) (h:qI P A rid ops os I σ.own.length (fun post σ' I' F'=>fj P A rid ops post (σ'.unlock σ) I' F' K) t σ.dB I F) (hr:Rel σ I F a w) {Q:Exit→Act→World→Prop}
  (hQ:∀σ' I' F' a' w',Rel σ' I' F' a' w'→b8.le I I'→K σ' I' F'→cM (di ops.toList) σ a σ' a'→Q .normal a' w'):(Code.region id ops true).wpIn (Fw ro) 0 P Q a w:=by
 have hops:=yt hB
 have hr1:Rel σ I F a { w with drawn:=w.drawn+1 }:=hr.s.rel (hr.sat.of_heap rfl ⟨rfl,rfl⟩)
 have hr':Rel σ.dB I F a { w with drawn:=w.drawn+1 }:=hr1.lock _
 rw[←jf] at h
 have hg:=jd (ro:=ro) (R:=fun a w=>Q .normal a w) hP hops t σ.dB I F a _ h hr' (dG σ) (b8.le_refl I) fun post σ' I' F' a' w' h1 h2 h3 h4 =>
  dm (ro:=ro) (Q:=Qx fun a w=>Q .normal a w) hP hops post (σ'.unlock σ) I' F' a' w' h3 h1.unlock fun σ2 I2 F2 a2 w2 g1 g2 g3 g4 =>
   hQ σ2 I2 F2 a2 w2 g1 (b8.le_trans h2 g2) g3 ((⟨gN h4.own,h4.tm,h4.size⟩:cM (di ops.toList) σ a (σ'.unlock σ) a').trans g4)
 exact wpIn_mono (wpIn_region_any hm (sM hB ((dG σ).inv hr' (b8.le_refl I)) hg)) fun e a' w' hq=>by
  cases e with
  | normal=>exact hq
  | _=>exact hq.elim
theorem tG{P:Program}{A:mw}{rid:Nat}{ops:Array Oper}{ro:Option Nat}(hP:∀f,A.good f=true→cV P f){id:Nat}{os:List Nat}{t:Ot}{σ:S}{I:b8}{F F1:bZ}{b:Nat}{o:Obj}{K:S→b8→bZ→Prop}{a:Act}{w:World}(hm:P.follows .mixedOrders=true)
  (hB:CT ops ox os t=true) (hp:F.Perm ((b,o)::F1)) (h:qI P A rid ops os (I.put b o) σ.own.length (fun post σ' I' F'=>fj P A rid ops post (σ'.unlock σ) (I'.del b) ((b,o)::F') K) t σ.dB (I.put b o) F1) (hr:Rel σ I F a w) {Q:Exit→Act→World→Prop}
  (hQ:∀σ' I' F' a' w',Rel σ' I' F' a' w'→b8.le I I'→K σ' I' F'→cM (di ops.toList) σ a σ' a'→Q .normal a' w'):(Code.region id ops true).wpIn (Fw ro) 0 P Q a w:=by
 have hops:=yt hB
 have hsat:Sat I ((b,o)::(cy σ.own++F1)) w:=hr.sat.perm ((hp.append_left _).trans List.perm_middle)
 have hIb:I b=none:=hsat.off _ _ (.head _)
 have hr1:Rel σ (I.put b o) F1 a { w with drawn:=w.drawn+1 }:=hr.s.rel (hsat.jc.2.of_heap rfl ⟨rfl,rfl⟩)
 have hr':Rel σ.dB (I.put b o) F1 a { w with drawn:=w.drawn+1 }:=hr1.lock _
 rw[←jf] at h
 have hg:=jd (ro:=ro) (R:=fun a w=>Q .normal a w) hP hops t σ.dB (I.put b o) F1 a _ h hr' (dG σ) (b8.le_refl _) fun post σ' I' F' a' w' h1 h2 h3 h4=>by
  have hu:=h1.unlock (σ0:=σ)
  obtain⟨d1,d2⟩:=Sat.wR hIb h2 hu.sat
  have hu':Rel (σ'.unlock σ) (I'.del b) ((b,o)::F') a' w':=hu.s.rel (d2.perm List.perm_middle.symm)
  exact dm (ro:=ro) (Q:=Qx fun a w=>Q .normal a w) hP hops post (σ'.unlock σ) (I'.del b) ((b,o)::F') a' w' h3 hu' fun σ2 I2 F2 a2 w2 g1 g2 g3 g4 =>
   hQ σ2 I2 F2 a2 w2 g1 (b8.le_trans d1 g2) g3 ((⟨gN h4.own,h4.tm,h4.size⟩:cM (di ops.toList) σ a (σ'.unlock σ) a').trans g4)
 exact wpIn_mono (wpIn_region_any hm (sM hB ((dG σ).inv hr' (b8.le_refl _)) hg)) fun e a' w' hq=>by
  cases e with
  | normal=>exact hq
  | _=>exact hq.elim
abbrev Kt:=Exit→S→b8→bZ→Prop
def DC(N:S→b8→bZ→Prop)(K:Kt):Kt
 | .normal,σ,I,F=>N σ I F
 | e,σ,I,F=>K e σ I F
def Au(id:Nat)(K:Kt):Kt
 | .exit id',σ,I,F=>cond (id'==id) (K .normal σ I F) (K (.exit id') σ I F)
 | e,σ,I,F=>K e σ I F
def DD(K:Kt):Kt
 | .goto _,_,_,_=>False
 | e,σ,I,F=>K e σ I F
def Ex(σ0:S)(N:S→b8→bZ→Prop)(K:Kt):Kt
 | .normal,σ,I,F=>N σ I F
 | e,σ,I,F=>K e (σ.unlock σ0) I F
def S.fix(σ:S)(c:Cut):List Value:=c.fx.map fun t=>σ.cv (.tmp t)
def BN(σ σ':S)(X:Prop):Prop:=cond (σ.df.isEmpty&&σ'.df.isEmpty) X (σ'.df=σ.df∧X)
theorem uT{σ σ':S}{X:Prop}(h:BN σ σ' X):σ'.df=σ.df∧X:=by
 unfold BN at h
 cases hc:(σ.df.isEmpty&&σ'.df.isEmpty) with
 | true =>
   rw[hc] at h
   simp only[Bool.and_eq_true,List.isEmpty_iff] at hc
   exact⟨by rw[hc.1,hc.2],h⟩
 | false=>rw[hc] at h;exact h
def CU:List (Option Nat)→Option Nat→Bool
 | [],_=>false
 | none::r,none=>true
 | some a::r,some b=>a==b||CU r (some b)
 | _::r,x=>CU r x
def dd:List (Option Nat)→List (Option Nat)
 | []=>[]
 | x::r=>cond (CU (dd r) x) (dd r) (x::dd r)
def jmp:List Nat→Code→List (Option Nat)
 | bs,.exit id=>cond (bs.contains id) [] [some id]
 | _,.ret=>[none]
 | bs,.seq a b=>jmp bs a++jmp bs b
 | bs,.cond _ a b=>jmp bs a++jmp bs b
 | bs,.block id c=>jmp (id::bs) c
 | bs,.loop c=>jmp bs c
 | bs,.scope c=>jmp bs c
 | bs,.rangeFunc _ _ _ y=>jmp bs y
 | _,_=>[]
def Ee:List (Option Nat)→(Option Nat→Prop)→Prop
 | [],_=>False
 | x::r,f=>f x∨Ee r f
def wS:Option Nat→Exit
 | none=>.ret
 | some id=>.exit id
def qN:Option Nat→Code
 | none=>.ret
 | some id=>.exit id
theorem yu:∀{l:List (Option Nat)} {f:Option Nat→Prop},Ee l f→∃j,f j
 | [],_,h=>h.elim
 | x::r,f,h=>by
   rcases h with h | h
   ·exact⟨x,h⟩
   ·exact yu h
def Cu:Sh→(Value→Prop)→Prop
 | .one l,Q=>uy l Q
 | .agg ls,Q=>qd ls fun vs=>Q (.agg vs.toArray)
def wT:List Sh→(List Value→Prop)→Prop
 | [],Q=>Q []
 | s::r,Q=>Cu s fun v=>wT r fun vs=>Q (v::vs)
def Cut.Ef(c:Cut):List Lf:=c.bks.flatMap Prod.snd
def Eg(N:S→b8→bZ→Prop):Kt
 | .normal,σ,I,F=>N σ I F
 | _,_,_,_=>False
def CV(L Lb:bZ)(Lx:Option Nat→bZ)(n0:Nat)(Q:Ending→b8→bZ→Prop):Kt
 | .normal,σ,I,F=>∃F3:bZ,F.Perm (Lb++F3)∧Q (.returned (.bool true)) I (cy (σ.own.take n0)++(L++F3))
 | .ret,σ,I,F=>∃F3:bZ,F.Perm (Lb++F3)∧Q (.returned (.bool false)) I (cy (σ.own.take n0)++(Lx none++F3))
 | .exit id,σ,I,F=>∃F3:bZ,F.Perm (Lb++F3)∧Q (.returned (.bool false)) I (cy (σ.own.take n0)++(Lx (some id)++F3))
 | _,_,_,_=>False
def S.round(σ:S)(ct:Cut)(ps:Array Nat)(args vs:List Value):S:={ tm:=fC ps.toList args σ.tm,own:=du ct.bks vs 0 σ.own,df:=[] }
def S.after(σ:S)(ct:Cut)(vs:List Value)(D:Nat)(rd:Option bZ):S :=
 { tm:=σ.tm,own:=ym σ.own 0 (du ct.bks vs 0 σ.own),df:=match rd with
  | none=>.mark D::σ.df
  | some _=>σ.df }
def uU(rd:Option bZ)(D:Nat)(F:bZ):bZ:=match rd with
 | none=>(D,.deferred (some []))::F
 | some _=>F
def DE(rd:Option bZ)(F:bZ)(X:Prop):Prop:=match rd with
 | none=>X
 | some R=>(∃F3:bZ,F.Perm (R++F3))∧X
def Eh(rd:Option bZ)(ops:Array Oper):Bool:=match rd with
 | none=>true
 | some _=>ops.toList.all fun o=>qA o.op
def W(P:Program)(A:mw):Option bZ→Code→Nat→Kt→S→b8→bZ→Prop
 | _,.skip,_,K,σ,I,F=>K .normal σ I F
 | _,.label _,_,K,σ,I,F=>K .normal σ I F
 | _,.exit id,_,K,σ,I,F=>K (.exit id) σ I F
 | _,.goto l,_,K,σ,I,F=>K (.goto l) σ I F
 | _,.ret,_,K,σ,I,F=>K .ret σ I F
 | rd,.region rid ops false,_,K,σ,I,F=>cond (Eh rd ops) (tx P A rid ops ops.toList 0 σ I F (K .normal) (fun ch=>K (.panic ch))) False
 | _,.region rid ops true,_,K,σ,I,F=>match A.ot rid with
   | some (os,t)=>cond (P.follows .mixedOrders&&CT ops ox os t)
      (cond (os.contains 1000)
        (∃(b:Nat) (o:Obj) (F1:bZ),F.Perm ((b,o)::F1)∧qI P A rid ops os (I.put b o) σ.own.length (fun post σ' I' F'=>fj P A rid ops post (σ'.unlock σ) (I'.del b) ((b,o)::F') (K .normal)) t σ.dB (I.put b o) F1)
        (qI P A rid ops os I σ.own.length (fun post σ' I' F'=>fj P A rid ops post (σ'.unlock σ) I' F' (K .normal)) t σ.dB I F)) False
   | none=>match A.sq rid with
      | some l=>match A.s2 rid with
        | none=>match A.ol rid with
          | none=>cond (P.follows .mixedOrders&&DB ops ox l) (fj P A rid ops l σ I F (K .normal)) False
          | some (os,m)=>cond (P.follows .mixedOrders&&CR ops ox os (l.take m) (l.drop m))
            (cond (os.contains 1000)
              (∃(b:Nat) (o:Obj) (F1:bZ),F.Perm ((b,o)::F1)∧iF P A rid ops os (I.put b o) σ.own.length (l.take m) σ.dB (I.put b o) F1 fun σ' I' F'=>fj P A rid ops (l.drop m) (σ'.unlock σ) (I'.del b) ((b,o)::F') (K .normal))
              (iF P A rid ops os I σ.own.length (l.take m) σ.dB I F fun σ' I' F'=>fj P A rid ops (l.drop m) (σ'.unlock σ) I' F' (K .normal))) False
        | some (p,q,lA,lB)=>cond (P.follows .mixedOrders&&Ap ops ox l p q lA lB)
          (fj P A rid ops l σ I F fun σ' I' F'=>fj P A rid ops (p::lA) σ' I' F' (K .normal)∧fj P A rid ops (q::lB) σ' I' F' (K .normal)) False
      | none=>match A.tl rid with
        | some m=>cond (P.follows .mixedOrders&&(nM ops m&&(ops.toList.all (fun o=>eB o.op)&&pe (ops.extract 0 m))))
          (wD P A rid (ops.extract 0 m) (match A.ds rid with | none=>m | some (n,_)=>n) (match A.ds rid with | none=>[] | some (_,hid)=>hid) (ops.extract 0 m).toList 0 σ I F fun σ' F' =>
            tx P A rid ops (ops.toList.drop m) m σ' I F' (K .normal) (fun ch=>K (.panic ch))) False
        | none=>cond (P.follows .mixedOrders&&pe ops)
          (match A.ds rid with
            | none=>wD P A rid ops ops.size [] ops.toList 0 σ I F fun σ' F'=>K .normal σ' I F'
            | some (n,hid)=>wD P A rid ops n hid ops.toList 0 σ I F fun σ' F'=>K .normal σ' I F') False
 | rd,.cond c x y,n,K,σ,I,F=>match σ.ev c with
   | some (.a (.v (.bool b)))=>(match b with
     | true=>W P A rd x (n+1) K σ I F
     | false=>W P A rd y (n+1+sz x) K σ I F)
   | _=>False
 | rd,.block id c,n,K,σ,I,F=>W P A rd c (n+1) (Au id K) σ I F
 | rd,.seq x y,n,K,σ,I,F=>match A.cut n with
   | none=>W P A rd x (n+1) (DC (W P A rd y (n+1+sz x) K) K) σ I F
   | some ct=>cond (mZ σ.own ct.bks)
     (W P A rd x (n+1) (Ex σ (fun σ' I' F'=>cond (σ'.Cs ct) (BN σ σ' (ct.Inv (σ.fix ct) I F (σ'.jO ct) 0 I' F')) False) K) (σ.lock ct) I F ∧
       qd ct.D8 fun vs=>∀(I':b8) (F':bZ),b8.le I I'→ct.Inv (σ.fix ct) I F vs 0 I' F'→W P A rd y (n+1+sz x) K ((σ.lay ct (jZ x) vs).unlock σ) I' F') False
 | rd,.loop c,n,K,σ,I,F=>match A.cut n with
   | none=>False
   | some ct=>cond (σ.Cs ct)
     ((∃m,ct.Inv (σ.fix ct) I F (σ.jO ct) m I F) ∧
       qd ct.D8 fun vs=>∀(m:Nat) (I':b8) (F':bZ),b8.le I I'→ct.Inv (σ.fix ct) I F vs m I' F' →
        W P A rd c (n+1) (Ex σ (fun σ' I' F'=>cond (σ'.Cs ct) (BN σ σ' (∃m',m'<m∧ct.Inv (σ.fix ct) I F (σ'.jO ct) m' I' F')) False) K) (σ.lay ct (jZ c) vs) I' F') False
 | rd,.scope c,n,K,σ,I,F=>W P A rd c (n+1) (DD K) σ I F
 | rd,.rangeFunc g ps x y,n,K,σ,I,F=>match A.cut n,σ.ev g with
   | some ct,some gv=>cond (mZ σ.own ct.bks&&ct.ps.length==ps.size)
     (DE rd F (∀(Y:Fn) (L Lb:bZ) (Lx:Option Nat→bZ) (D:Nat),
       (wT ct.ps fun args=>qd ct.Ef fun vs=>∀(I':b8) (F':bZ) (Q:Ending→b8→bZ→Prop),b8.le I I' →
         W P A (some L) x (n+1) (Eg fun σ1 I1 F1=>∃F2:bZ,F1.Perm (L++F2) ∧
          W P A (some Lb) y (n+1+sz x) (CV L Lb Lx σ.own.length Q) σ1 I1 (Lb++F2)) (σ.round ct ps args vs) I' (L++F') →
         oA P (.func Y #[] #[]) args I' (cy (du ct.bks vs 0 σ.own)++(L++F')) Q) →
       Eb P gv.g [.func Y #[] #[]] I (cy σ.own++(L++F)) fun e I' G=>∃r,e=.returned r ∧
        ((wA ct.Ef fun vs=>∃F':bZ,G.Perm (cy (du ct.bks vs 0 σ.own)++(L++F'))∧K .normal (σ.after ct vs D rd) I' (uU rd D F')) ∨
          Ee (dd (jmp [] y)) fun j=>wA ct.Ef fun vs=>∃F':bZ,G.Perm (cy (du ct.bks vs 0 σ.own)++(Lx j++F'))∧K (wS j) (σ.after ct vs D rd) I' (uU rd D F')))) False
   | _,_=>False
 | _,_,_,_,_,_,_=>False
def qO(l:List Nat)(σ:S)(a:Act)(I:b8)(K:Kt)(e:Exit)(a':Act)(w':World):Prop :=
 ∃σ' I' F',Rel σ' I' F' a' w'∧b8.le I I'∧K e σ' I' F'∧cM l σ a σ' a'
theorem yW{F:Fence}{n:Nat}{P:Program}{Q:Exit→Act→World→Prop}{c:Code}{a:Act}{w:World}(J:Nat→Act→World→Prop)(h0:∃m,J m a w)
  (round:∀m a w,J m a w→c.wpIn F n P (Exit.then (fun a' w'=>∃m',m'<m∧J m' a' w') Q) a w):(Code.loop c).wpIn F n P Q a w:=by
 intro b k cs hro hb hr
 have key:∀j a w,J j a w→∃e a' w',Q e a' w'∧ArrivesIn (Machine.fenced P F) P (lone (b.atR a (.code c :: .inLoop c::k)) cs w) b k cs e a' w':=by
  intro j
  induction j using Nat.strongRecOn with
  | _ j ih =>
    intro a w hJ
    obtain⟨e,a₁,w₁,hq,harr⟩:=round j a w hJ b (.inLoop c::k) cs hro hb hr
    cases e with
    | normal =>
      obtain⟨m',hlt,hJ'⟩:=hq
      obtain⟨e₂,a₂,w₂,hq₂,harr₂⟩:=ih m' hlt a₁ w₁ hJ'
      exact⟨e₂,a₂,w₂,hq₂,.of_steps (StepsIn.trans harr (.one (fenced_calm hb hr rfl) stepR_inLoop)) harr₂⟩
    | exit id=>exact⟨_,a₁,w₁,hq,.pass (x:=.inLoop c) rfl (fun _ _=>.inl (by simp)) harr⟩
    | goto l=>exact⟨_,a₁,w₁,hq,.pass (x:=.inLoop c) rfl (fun _ _=>.inl (by simp)) harr⟩
    | ret=>exact⟨_,a₁,w₁,hq,.pass (x:=.inLoop c) rfl (fun _ _=>.inl (by simp)) harr⟩
    | panic ch=>exact⟨_,a₁,w₁,hq,.pass (x:=.inLoop c) rfl (fun _ _=>.inl (by simp)) harr⟩
    | outgrown=>exact⟨_,a₁,w₁,hq,.pass (x:=.inLoop c) rfl (fun _ _=>.inl (by simp)) harr⟩
 obtain⟨m,hm⟩:=h0
 obtain⟨e,a',w',hq,harr⟩:=key m a w hm
 exact⟨e,a',w',hq,.of_steps (.one (fenced_calm hb hr rfl) stepR_loop) harr⟩
theorem fL{P:Program}{b:Frame}{a:Act}{k:List Item}{cs:List Frame}{w:World}{c:Code}:step P (lone (b.atR a (.code (.scope c)::k)) cs w)=.next (lone (b.atR a (.code c :: .inScope c::k)) cs w) :=
 step_lone_go (by simp[stepG,stepG.exec,Frame.atR])
theorem sn{P:Program}{b:Frame}{a:Act}{k:List Item}{cs:List Frame}{w:World}{c:Code}:step P (lone (b.atR a (.inScope c::k)) cs w)=.next (lone (b.atR a k) cs w) :=
 step_lone_go (by simp[stepG,stepG.exec,Frame.atR])
theorem my{F:Fence}{n:Nat}{P:Program}{Q:Exit→Act→World→Prop}{c:Code}{a:Act}{w:World}(h:c.wpIn F n P (Exit.noGoto Q) a w):(Code.scope c).wpIn F n P Q a w:=by
 intro b k cs hro hb hr
 have h0:(lone (b.atR a (.code (.scope c)::k)) cs w).fenced P F:=fenced_calm hb hr rfl
 obtain⟨e,a₁,w₁,hq,harr⟩:=h b (.inScope c::k) cs hro hb hr
 cases e with
 | normal=>exact⟨.normal,a₁,w₁,hq,.head h0 fL (StepsIn.trans harr (.one (fenced_calm hb hr rfl) sn))⟩
 | exit id =>
   have hx:exitTo id (.inScope c::k)=exitTo id k:=by simp[exitTo]
   exact⟨.exit id,a₁,w₁,hq,fun k' hk=>.head h0 fL (harr.1 k' (by rw[hx];exact hk)),
    fun hr' hk=>let ⟨k₁,h1,h2⟩:=harr.2 hr' (by rw[hx];exact hk);⟨k₁,h1,.head h0 fL h2⟩⟩
 | goto l=>exact hq.elim
 | ret=>exact⟨_,a₁,w₁,hq,.of_steps (.one h0 fL) harr⟩
 | panic ch=>exact⟨_,a₁,w₁,hq,.of_steps (.one h0 fL) harr⟩
 | outgrown=>exact⟨_,a₁,w₁,hq,.of_steps (.one h0 fL) harr⟩
theorem pj{l:Lf}{Q:Value→Prop}(h:∀v,Q v):uy l Q:=by cases l<;>intro<;>first | exact h _ | (intros;exact h _)
theorem lg:∀{l:List Lf} {Q:List Value→Prop},(∀vs,vs.length=l.length→Q vs)→qd l Q
 | [],Q,h=>h [] rfl
 | l::r,Q,h=>pj fun v=>lg fun vs hv=>h (v::vs) (by simp[hv])
theorem uV{s:Sh}{Q:Value→Prop}(h:∀v,Q v):Cu s Q:=by
 cases s with
 | one l=>exact pj h
 | agg ls=>exact lg fun vs _=>h _
theorem nR:∀{l:List Sh} {Q:List Value→Prop},(∀vs,vs.length=l.length→Q vs)→wT l Q
 | [],Q,h=>h [] rfl
 | l::r,Q,h=>uV fun v=>nR fun vs hv=>h (v::vs) (by simp[hv])
def Ctx(ro:Option Nat):Option bZ→Prop
 | none=>ro=none
 | some R=>∃l r,ro=some l∧(l,Obj.loop r)∈R
def wu(rd:Option bZ)(D:Nat):bZ:=match rd with
 | none=>[(D,.deferred (some []))]
 | some _=>[]
def DF(rd:Option bZ)(D:Nat):List Deferred:=match rd with
 | none=>[(Df.mark D).d]
 | some _=>[]
theorem Av(rd:Option bZ)(D:Nat)(F:bZ):uU rd D F=wu rd D++F:=by cases rd<;>rfl
section
variable {P:Program} {A:mw}
theorem uW{w:World}{l₀:Nat}{r₀:Loop}(h:w.heap[l₀]? = some (.loop r₀))(fn:FuncId)(tmps:Array Value)(ps:Array Tmp)(assign body:Code) :
  (Instr.enterLoop fn tmps ps assign body (some l₀)).run P w =
    .ok (w.heap.size,[]) (w.alloc (.loop { state:=.ready,pending:=none,fn,tmps,params:=ps,assign,body,defers:=r₀.defers })):=by
 unfold Instr.enterLoop
 simp only[Sem.run_bind,run_getLoop h,run_newObj_alloc,Result.andThen,Sem.run_pure]
theorem Aw{rd:Option bZ}{F:bZ}{X:Prop}(h:DE rd F X):(∀R,rd=some R→∃F3:bZ,F.Perm (R++F3))∧X:=by
 cases rd with
 | none=>exact⟨fun R e=>(by cases e),h⟩
 | some R=>exact⟨fun R' e=>(by cases e;exact h.1),h.2⟩
theorem yX{rd:Option bZ}{ro:Option Nat}{I:b8}{G:bZ}{w:World}(hctx:Ctx ro rd)(hrd:∀R,rd=some R→∃F3:bZ,G.Perm (R++F3))(hs:Sat I G w)
  (fn:FuncId) (tmps:Array Value) (ps:Array Tmp) (x y:Code) :
  ∃(l D d:Nat) (w1:World),(Instr.enterLoop fn tmps ps x y ro).run P w=.ok (l,DF rd D) w1 ∧
   Sat I ((l,Obj.loop { state:=.ready,pending:=none,fn,tmps,params:=ps,assign:=x,body:=y,defers:=d })::(wu rd D++G)) w1:=by
 cases rd with
 | none =>
   obtain rfl:ro=none:=hctx
   have h1:=hs.alloc (.deferred (some []))
   have h2:=h1.alloc (.loop { state:=.ready,pending:=none,fn,tmps,params:=ps,assign:=x,body:=y,defers:=w.heap.size })
   refine⟨w.heap.size+1,w.heap.size,w.heap.size,_,run_enterLoop_outer fn tmps ps x y, ?_⟩
   have:({ w with heap:=w.heap.push (Obj.deferred (some [])) }:World).heap.size=w.heap.size+1:=by simp
   rw[this] at h2
   exact h2
 | some R =>
   obtain⟨l0,r0,rfl,hm⟩:=hctx
   obtain⟨F3,hp⟩:=hrd R rfl
   have hin:w.heap[l0]? = some (.loop r0):=hs.own _ _ (hp.mem_iff.2 (List.mem_append_left _ hm))
   exact⟨w.heap.size,0,r0.defers,_,uW hin fn tmps ps x y,hs.alloc _⟩
theorem Sat.pZ{I:b8}{b:Nat}{o:Obj}{G:bZ}{w:World}(h:Sat I ((b,o)::G) w):w.heap[b]? = some o:=h.own _ _ (List.mem_cons_self ..)
theorem Sat.nS{I:b8}{b:Nat}{o o':Obj}{G:bZ}{w:World}(h:Sat I ((b,o)::G) w):Sat I ((b,o')::G) (w.putObj b o'):=h.set rfl ⟨rfl,rfl⟩
theorem uX:∀(ts:List Nat) (vs:List Value) (tm:List (Option AV)) (tmps:Array Value),tm.length=tmps.size→(∀(t:Nat) (av:AV),tm[t]? = some (some av)→tmps[t]? = some av.g) →
  (fC ts vs tm).length=((ts.zip vs).foldl (fun (a:Array Value) (x:Nat×Value)=>a.setIfInBounds x.1 x.2) tmps).size ∧
  ∀(t:Nat) (av:AV),(fC ts vs tm)[t]? = some (some av)→((ts.zip vs).foldl (fun (a:Array Value) (x:Nat×Value)=>a.setIfInBounds x.1 x.2) tmps)[t]? = some av.g
 | [],vs,tm,tmps,hl,h=>by simp only[fC,List.zip_nil_left,List.foldl_nil];exact⟨hl,h⟩
 | s::ts,[],tm,tmps,hl,h=>by simp only[fC,List.zip_nil_right,List.foldl_nil];exact⟨hl,h⟩
 | s::ts,v::vs,tm,tmps,hl,h=>by
   simp only[fC,List.zip_cons_cons,List.foldl_cons]
   refine uX ts vs _ _ (by simp[hl]) fun t av ht=>?_
   rw[List.getElem?_set] at ht
   rw[Array.getElem?_setIfInBounds]
   by_cases hst:s=t
   ·subst hst
    simp only[if_true] at ht ⊢
    split at ht
    ·rename_i hlt;cases ht;rw[hl] at hlt;simp[hlt,AV.g,At.g]
    ·cases ht
   ·simp only[if_neg hst] at ht ⊢;exact h t av ht
theorem pk(bks:List (Nat×List Lf))(vs:List Value)(own:List cS):gy own (du bks vs 0 own):=fun i b hb=>by
 refine⟨match nK bks vs (0+i) with
  | some cs=>{ b with cells:=cs.map fun v=>.a (.v v) }
  | none=>{ b with ro:=true },by rw[eg,hb];rfl, ?_⟩
 split<;>rfl
theorem yY{bks:List (Nat×List Lf)}{vs:List Value}{own:List cS}(h:∀(i:Nat) (b:cS),own[i]? = some b→∀c∈b.cells,AV.wf own c) :
  ∀(i:Nat) (b:cS),(du bks vs 0 own)[i]? = some b→∀c∈b.cells,AV.wf (du bks vs 0 own) c:=by
 intro i b hb c hc
 rw[eg] at hb
 cases ho:own[i]? with
 | none=>rw[ho] at hb;cases hb
 | some b0 =>
   rw[ho] at hb
   simp only[Option.map_some,Option.some.injEq] at hb
   subst hb
   split at hc
   ·simp only[List.mem_map] at hc
    obtain⟨v,_,rfl⟩:=hc
    trivial
   ·exact AV.dA (pk _ _ _) (h i b0 ho c hc)
theorem Rel.round{σ:S}{I I':b8}{F F':bZ}{a:Act}{w w':World}(hr:Rel σ I F a w)(ct:Cut)(ps:Array Nat)(args vs:List Value)
  (hs:Sat I' (cy (du ct.bks vs 0 σ.own)++F') w') :
  Rel (σ.round ct ps args vs) I' F' { tmps:=(ps.toList.zip args).foldl (fun (a:Array Value) (x:Nat×Value)=>a.setIfInBounds x.1 x.2) a.tmps,defers:=[] } w':=by
 obtain⟨h1,h2⟩:=uX ps.toList args σ.tm a.tmps hr.size hr.tm
 refine⟨h1,h2,rfl,fun t av ht=>?_,yY hr.wfo,hs⟩
 rcases j8 _ _ _ _ _ ht with ⟨k,v,_,_,rfl⟩ | ht
 ·trivial
 ·exact AV.dA (pk _ _ _) (hr.wft t av ht)
theorem sQ{σ:S}{ct:Cut}{vs:List Value}{i:Nat}:(ym σ.own 0 (du ct.bks vs 0 σ.own))[i]? = (σ.own[i]?).map fun b =>
  match nK ct.bks vs i with
  | some cs=>{ b with cells:=cs.map fun v=>.a (.v v) }
  | none=>b:=by
 rw[lR,eg]
 cases hb:σ.own[i]? with
 | none=>rfl
 | some b =>
   simp only[Option.map_some,Nat.zero_add,hb]
   cases nK ct.bks vs i<;>rfl
theorem qP{σ:S}{ct:Cut}{vs:List Value}{D:Nat}{rd:Option bZ}(hok:mZ σ.own ct.bks=true):cE σ (σ.after ct vs D rd):=by
 intro i b hb
 have e:(σ.after ct vs D rd).own[i]? = _:=sQ
 rw[hb] at e
 cases hs:nK ct.bks vs i with
 | none=>rw[hs] at e;exact⟨b,e,rfl,rfl,fun h=>⟨h,rfl⟩⟩
 | some cs =>
   rw[hs] at e
   have hro:=tF (vs:=vs) hok hb (by rw[hs];rfl)
   exact⟨_,e,rfl,rfl,fun h=>by rw[hro] at h;cases h⟩
theorem Rel.after{σ:S}{I I':b8}{F F':bZ}{a:Act}{w w':World}(hr:Rel σ I F a w){ct:Cut}{vs:List Value}{D:Nat}{rd:Option bZ}(hok:mZ σ.own ct.bks=true)
  (hs:Sat I' (cy (du ct.bks vs 0 σ.own)++F') w'):Rel (σ.after ct vs D rd) I' F' { a with defers:=DF rd D++a.defers } w':=by
 have hk:gy σ.own (σ.after ct vs D rd).own:=(qP hok).same
 refine⟨hr.size,hr.tm, ?_,fun t av ht=>AV.dA hk (hr.wft t av ht), ?_, ?_⟩
 ·show DF rd D++a.defers=_
  rw[hr.defers];cases rd<;>rfl
 ·intro i b hb c hc
  have e:(σ.after ct vs D rd).own[i]? = _:=sQ
  rw[hb] at e
  cases ho:σ.own[i]? with
  | none=>rw[ho] at e;cases e
  | some b0 =>
    rw[ho] at e
    simp only[Option.map_some,Option.some.injEq] at e
    subst e
    split at hc
    ·simp only[List.mem_map] at hc
     obtain⟨v,_,rfl⟩:=hc
     trivial
    ·exact AV.dA hk (hr.wfo i b0 ho c hc)
 ·show Sat I' (cy (ym σ.own 0 (du ct.bks vs 0 σ.own))++F') w'
  rw[qM];exact hs
theorem yZ(own:List cS)(n:Nat):(cy (own.take n)).Sublist (cy own):=(List.take_sublist n own).map _
theorem eR{A B C:bZ}:(A++(B++C)).Perm (B++(A++C)):=List.perm_append_comm_assoc A B C
theorem za{F:Fence}{n:Nat}{Q:Exit→Act→World→Prop}{a:Act}{w:World}(j:Option Nat)(h:Q (wS j) a w):(qN j).wpIn F n P Q a w:=by
 cases j with
 | none=>exact wpIn_ret h
 | some id=>exact wpIn_exit h
theorem uY{x y:Code}(ih1:∀(n:Nat) (K:Kt) (rd:Option bZ) (ro:Option Nat) (σ:S) (I:b8) (F:bZ) (a:Act) (w:World),Ctx ro rd→W P A rd x n K σ I F→Rel σ I F a w→x.wpIn (Fw ro) 0 P (qO (jZ x) σ a I K) a w)
  (ih2:∀(n:Nat) (K:Kt) (rd:Option bZ) (ro:Option Nat) (σ:S) (I:b8) (F:bZ) (a:Act) (w:World),Ctx ro rd→W P A rd y n K σ I F→Rel σ I F a w→y.wpIn (Fw ro) 0 P (qO (jZ y) σ a I K) a w)
  {g:Operand} {ps:Array Tmp} {n:Nat} {K:Kt} {rd:Option bZ} {ro:Option Nat} {σ:S} {I:b8} {F:bZ} {a:Act} {w:World} (hctx:Ctx ro rd)
  (h:W P A rd (.rangeFunc g ps x y) n K σ I F) (hr:Rel σ I F a w):(Code.rangeFunc g ps x y).wpIn (Fw ro) 0 P (qO (jZ (.rangeFunc g ps x y)) σ a I K) a w:=by
 simp only[W] at h
 split at h
 case h_2=>exact h.elim
 rename_i ct gv hcut hg
 obtain⟨hb,h⟩:=cq h
 simp only[Bool.and_eq_true,beq_iff_eq] at hb
 obtain⟨hok,hlen⟩:=hb
 obtain⟨hrd,h⟩:=Aw h
 refine wpIn_rangeFunc fun fn hfn=>?_
 obtain⟨l,D,d,w1,hrun,hsat⟩:=yX (P:=P) (rd:=rd) (ro:=ro) hctx (G:=cy σ.own++F) (fun R hR=>by
  obtain⟨F3,hp⟩:=hrd R hR
  exact⟨cy σ.own++F3,(List.Perm.append_left _ hp).trans eR⟩) hr.sat fn a.tmps ps x y
 generalize hrec:({ state:=.ready,pending:=none,fn,tmps:=a.tmps,params:=ps,assign:=x,body:=y,defers:=d }:Loop)=rec at hsat
 have r1:rec.fn=fn:=by rw[←hrec]
 have r2:rec.tmps=a.tmps:=by rw[←hrec]
 have r3:rec.params=ps:=by rw[←hrec]
 have r4:rec.assign=x:=by rw[←hrec]
 have r5:rec.body=y:=by rw[←hrec]
 have r6:rec.state=.ready:=by rw[←hrec]
 have r7:rec.pending=none:=by rw[←hrec]
 have rback:({ rec with state:=.ready,pending:=none }:Loop)=rec:=by rw[←hrec]
 let L:bZ:=(l,.loop rec)::wu rd D
 let Lb:bZ:=(l,.loop { rec with state:=.busy })::wu rd D
 let Lx:Option Nat→bZ:=fun j=>(l,.loop { rec with state:=.done,pending:=some (qN j) })::wu rd D
 have hsat':Sat I (cy σ.own++(L++F)) w1:=by
  refine hsat.perm ?_
  show (([(l,Obj.loop rec)]++wu rd D)++(cy σ.own++F)).Perm _
  exact eR
 have hTr:=h (.yield l) L Lb Lx D (nR fun args hargs=>lg fun vs hvs I' F' Q hle hW=>by
  intro w2 hs2
  refine .inr ⟨l,rfl, ?_⟩
  have hl2:w2.heap[l]? = some (.loop rec):=hs2.own _ _ (List.mem_append_right _ (List.mem_append_left _ (List.mem_cons_self ..)))
  have hy:=run_yield (P:=P) (args:=args.toArray) hl2 (by rw[r3];simp[hargs,hlen])
  rw[r1,r2,r3,r4,r5] at hy
  have hz:((ps.zip args.toArray).foldl (fun (tmps:Array Value) (x:Nat×Value)=>tmps.setIfInBounds x.1 x.2) a.tmps)=(ps.toList.zip args).foldl (fun (a:Array Value) (x:Nat×Value)=>a.setIfInBounds x.1 x.2) a.tmps:=by
   rw[←Array.foldl_toList,Array.toList_zip]
  refine⟨_,_,_,_,_,hy,roundIn_of_wpIn (F:=Fence.wide) trivial ?_⟩
  rw[show ((ps.zip args.toArray).foldl (fun (tmps:Array Value) (x:Nat×Value)=>match x with | (t,a)=>tmps.setIfInBounds t a) a.tmps)=(ps.toList.zip args).foldl (fun (a:Array Value) (x:Nat×Value)=>a.setIfInBounds x.1 x.2) a.tmps from hz]
  have hrel:=hr.round ct ps args vs hs2
  refine wpIn_mono (ih1 _ _ (some L) (some l) _ I' _ _ w2 ⟨l,rec,rfl,List.mem_cons_self ..⟩ hW hrel) ?_
  intro e a1 w3 ⟨σ1,I1,F1,g1,g2,g3,g4⟩
  cases e with
  | normal =>
    obtain⟨F2,hp2,hW2⟩:=g3
    have hs3:Sat I1 ((l,.loop rec)::(wu rd D++(cy σ1.own++F2))) w3:=g1.sat.perm ((List.Perm.append_left _ hp2).trans (eR (A:=cy σ1.own) (B:=(l,.loop rec)::wu rd D)))
    refine⟨_,run_beginRound hs3.pZ r6, ?_⟩
    have hs4:=hs3.nS (o':=.loop { rec with state:=.busy })
    have hrel2:Rel σ1 I1 (Lb++F2) a1 (w3.putObj l (.loop { rec with state:=.busy })) :=
     ⟨g1.size,g1.tm,g1.defers,g1.wft,g1.wfo,hs4.perm (eR (A:=(l,.loop { rec with state:=.busy })::wu rd D) (B:=cy σ1.own))⟩
    refine wpIn_mono (ih2 _ _ (some Lb) (some l) _ I1 _ _ _ ⟨l,_,rfl,List.mem_cons_self ..⟩ hW2 hrel2) ?_
    intro e a5 w5 ⟨σ5,I5,F5,k1,k2,k3,k4⟩
    have fin:∀(L':bZ) (o':Obj) (b:Bool),L'=(l,o')::wu rd D→(∃F3:bZ,F5.Perm (Lb++F3)∧Q (.returned (.bool b)) I5 (cy (σ5.own.take σ.own.length)++(L'++F3))) →
     w5.heap[l]? = some (.loop { rec with state:=.busy })∧qn I' Q (.returned (.bool b)) (w5.putObj l o'):=by
     intro L' o' b hL' ⟨F3,hp3,hq⟩
     subst hL'
     have hs5:Sat I5 ((l,.loop { rec with state:=.busy })::(wu rd D++(cy σ5.own++F3))) w5 :=
      k1.sat.perm ((List.Perm.append_left _ hp3).trans (eR (A:=cy σ5.own) (B:=(l,.loop { rec with state:=.busy })::wu rd D)))
     refine⟨hs5.pZ,I5,_,b8.le_trans g2 k2, ?_,hq⟩
     have hs6:=hs5.nS (o':=o')
     exact (hs6.perm (eR (A:=(l,o')::wu rd D) (B:=cy σ5.own))).sub (List.Sublist.append (yZ _ _) (List.Sublist.refl _))
    cases e with
    | normal =>
      obtain⟨f1,f2⟩:=fin L (.loop rec) true rfl k3
      refine⟨_,_,run_endRound none f1, ?_⟩
      have:({ ({ rec with state:=.busy }:Loop) with state:=if (none:Option Code).isNone then .ready else .done,pending:=none }:Loop)=rec:=rback
      rw[this];exact f2
    | ret =>
      obtain⟨f1,f2⟩:=fin (Lx none) (.loop { rec with state:=.done,pending:=some .ret }) false rfl k3
      exact⟨_,_,run_endRound (some .ret) f1,f2⟩
    | exit id =>
      obtain⟨f1,f2⟩:=fin (Lx (some id)) (.loop { rec with state:=.done,pending:=some (.exit id) }) false rfl k3
      exact⟨_,_,run_endRound (some (.exit id)) f1,f2⟩
    | goto l=>exact k3.elim
    | panic ch=>exact k3.elim
    | outgrown=>exact k3.elim
  | exit id=>exact g3.elim
  | goto l=>exact g3.elim
  | ret=>exact g3.elim
  | panic ch=>exact g3.elim
  | outgrown=>exact g3.elim)
 obtain⟨f,first,cap,hgv,hent,hcall⟩:=hTr w1 hsat'
 have hev:=S.j2 hr hg
 refine⟨l,DF rd D,w1,{ target:=.fn (.func f) cap,args:=first++#[.func (.yield l) #[] #[]] },w1,f,first++#[.func (.yield l) #[] #[]]++cap,w1,hrun, ?_,fun _ _=>trivial, ?_,fun hd=>by simp[Fw,Fence.wide] at hd, ?_⟩
 ·show (Deferred.ofValue (a.eval g) _).run P w1=_
  rw[hev,hgv];simp[Deferred.ofValue,Act.eval]
 ·simp only[invoke];exact hent _ _
 ·refine ((callsIn_wide (n:=0)).2 hcall).mono fun e w3 ⟨I3,G,hle,hs3,r,he,hpost⟩=>?_
  subst he
  have fin:∀(o':Obj) (r':Loop) (jj:Option Code) (L':bZ) (vs:List Value) (F':bZ) (e':Exit),L'=(l,.loop r')::wu rd D→r'.pending=jj→r'.state ≠ .busy→G.Perm (cy (du ct.bks vs 0 σ.own)++(L'++F'))→K e' (σ.after ct vs D rd) I3 (uU rd D F') →
    ∃w4,(Instr.endLoop l).run P w3=.ok jj w4∧qO (jZ (.rangeFunc g ps x y)) σ a I K e' { a with defers:=DF rd D++a.defers } w4:=by
   intro o' r' jj L' vs F' e' hL' hj hbusy hp hk
   subst hL';subst hj
   have hs4:Sat I3 ((l,.loop r')::(wu rd D++(cy (du ct.bks vs 0 σ.own)++F'))) w3:=hs3.perm (hp.trans (eR (A:=cy (du ct.bks vs 0 σ.own)) (B:=(l,.loop r')::wu rd D)))
   refine⟨_,run_endLoop hs4.pZ hbusy,σ.after ct vs D rd,I3,uU rd D F', ?_,hle,hk,qP hok,fun _ _=>rfl,rfl⟩
   refine hr.after hok ?_
   rw[Av]
   exact ((hs4.nS (o':=.loop { r' with state:=.exhausted })).sub (List.sublist_cons_self _ _)).perm eR
  rcases hpost with hpost | hpost
  ·obtain⟨vs,F',hp,hk⟩:=jK hpost |>.imp fun _ h=>h.2
   obtain⟨w4,h1,h2⟩:=fin (.loop rec) rec none L vs F' .normal rfl r7 (by rw[r6];decide) hp hk
   exact⟨none,w4,h1,h2⟩
  ·obtain⟨j,hpost⟩:=yu hpost
   obtain⟨vs,F',hp,hk⟩:=jK hpost |>.imp fun _ h=>h.2
   obtain⟨w4,h1,h2⟩:=fin (.loop rec) { rec with state:=.done,pending:=some (qN j) } (some (qN j)) (Lx j) vs F' (wS j) rfl rfl (fun h=>by cases h) hp hk
   exact⟨some (qN j),w4,h1,za j h2⟩
end
end Go.Vc
namespace Go.Vc
section sound
variable {P:Program} {A:mw}
theorem qO.mono{l l':List Nat}{σ:S}{a:Act}{I:b8}{K K':Kt}{e:Exit}{a':Act}{w':World}(h:qO l σ a I K e a' w')(hl:∀t∈l,t∈l')
  (hk:∀σ I F,K e σ I F→K' e σ I F):qO l' σ a I K' e a' w' :=
 let ⟨σ',I',F',h1,h2,h3,h4⟩:=h
 ⟨σ',I',F',h1,h2,hk _ _ _ h3,h4.mono hl⟩
theorem qO.trans{l m n:List Nat}{σ σ':S}{a a':Act}{I I':b8}{K:Kt}{e:Exit}{a'':Act}{w'':World}(hk:cM l σ a σ' a')(hI:b8.le I I')
  (h:qO m σ' a' I' K e a'' w'') (hl:∀t∈l,t∈n) (hm:∀t∈m,t∈n):qO n σ a I K e a'' w'' :=
 let ⟨σ2,I2,F2,h1,h2,h3,h4⟩:=h
 ⟨σ2,I2,F2,h1,b8.le_trans hI h2,h3,(hk.mono hl).trans (h4.mono hm)⟩
theorem yv(hP:∀f,A.good f=true→cV P f):∀(c:Code) (n:Nat) (K:Kt) (rd:Option bZ) (ro:Option Nat) (σ:S) (I:b8) (F:bZ) (a:Act) (w:World),Ctx ro rd →
  W P A rd c n K σ I F→Rel σ I F a w→c.wpIn (Fw ro) 0 P (qO (jZ c) σ a I K) a w:=by
 intro c
 induction c with
 | skip=>intro n K rd ro σ I F a w hc h hr;exact wpIn_skip ⟨σ,I,F,hr,b8.le_refl I,h,cM.refl _ _ _⟩
 | label l=>intro n K rd ro σ I F a w hc h hr;exact wpIn_label ⟨σ,I,F,hr,b8.le_refl I,h,cM.refl _ _ _⟩
 | exit id=>intro n K rd ro σ I F a w hc h hr;exact wpIn_exit ⟨σ,I,F,hr,b8.le_refl I,h,cM.refl _ _ _⟩
 | goto l=>intro n K rd ro σ I F a w hc h hr;exact wpIn_goto ⟨σ,I,F,hr,b8.le_refl I,h,cM.refl _ _ _⟩
 | ret=>intro n K rd ro σ I F a w hc h hr;exact wpIn_ret ⟨σ,I,F,hr,b8.le_refl I,h,cM.refl _ _ _⟩
 | refuse why=>intro n K rd ro σ I F a w hc h hr;exact h.elim
 | scope c ih =>
   intro n K rd ro σ I F a w hc h hr
   refine my (wpIn_mono (ih _ _ rd ro σ I F a w hc h hr) ?_)
   intro e a' w' ⟨σ',I',F',h1,h2,h3,h4⟩
   cases e with
   | goto l=>exact h3.elim
   | _=>exact⟨σ',I',F',h1,h2,h3,h4⟩
 | rangeFunc f ps x y ih1 ih2=>intro n K rd ro σ I F a w hc h hr;exact uY ih1 ih2 hc h hr
 | region rid ops draw =>
   intro n K rd ro σ I F a w hc h hr
   cases draw with
   | false =>
     obtain⟨hnd,h⟩:=cq h
     have hnd':ro=none∨ops.toList.all (fun o=>qA o.op)=true:=by
      cases rd with
      | none=>exact .inl hc
      | some R=>exact .inr hnd
     refine wpIn_region_list (iE hP ops.toList 0 σ I F a w hnd' h hr ?_ ?_)
     ·exact fun σ' I' F' a' w' h1 h2 h3 h4=>⟨σ',I',F',h1,h2,h3,h4⟩
     ·exact fun ch σ' I' F' a' w' h1 h2 h3 h4=>⟨σ',I',F',h1,h2,h3,h4⟩
   | true =>
     simp only[W] at h
     split at h
     ·rename_i os t hot
      obtain⟨hb,h⟩:=cq h
      simp only[Bool.and_eq_true] at hb
      rcases yr h with ⟨b,o,F1,hp,h⟩ | h
      ·exact tG hP hb.1 hb.2 hp h hr fun σ' I' F' a' w' h1 h2 h3 h4=>⟨σ',I',F',h1,h2,h3,h4⟩
      ·exact uS hP hb.1 hb.2 h hr fun σ' I' F' a' w' h1 h2 h3 h4=>⟨σ',I',F',h1,h2,h3,h4⟩
     split at h
     ·split at h
      ·split at h
       ·obtain⟨hb,h⟩:=cq h
        simp only[Bool.and_eq_true] at hb
        exact wQ hP hb.1 hb.2 h hr fun σ' I' F' a' w' h1 h2 h3 h4=>⟨σ',I',F',h1,h2,h3,h4⟩
       ·obtain⟨hb,h⟩:=cq h
        simp only[Bool.and_eq_true] at hb
        rcases yr h with ⟨b,o,F1,hp,h⟩ | h
        ·exact uR hP hb.1 hb.2 hp h hr fun σ' I' F' a' w' h1 h2 h3 h4=>⟨σ',I',F',h1,h2,h3,h4⟩
        ·exact uQ hP hb.1 hb.2 h hr fun σ' I' F' a' w' h1 h2 h3 h4=>⟨σ',I',F',h1,h2,h3,h4⟩
      ·obtain⟨hb,h⟩:=cq h
       simp only[Bool.and_eq_true] at hb
       exact uM hP hb.1 hb.2 h hr fun σ' I' F' a' w' h1 h2 h3 h4=>⟨σ',I',F',h1,h2,h3,h4⟩
     split at h
     ·obtain⟨hb,h⟩:=cq h
      simp only[Bool.and_eq_true] at hb
      exact uN hP hb.1 hb.2.1 hb.2.2.1 hb.2.2.2 h hr (fun σ' I' F' a' w' h1 h2 h3 h4=>⟨σ',I',F',h1,h2,h3,h4⟩) fun ch σ' I' F' a' w' h1 h2 h3 h4=>⟨σ',I',F',h1,h2,h3,h4⟩
     obtain⟨hb,h⟩:=cq h
     simp only[Bool.and_eq_true] at hb
     have hd:jZ (.region rid ops true)=di ops.toList:=rfl
     split at h<;>exact uH hP hb.1 hb.2 h hr fun σ' F' a' w' h1 h2 h3=>⟨σ',I,F',h1,b8.le_refl I,h2,h3⟩
 | cond c x y ih1 ih2 =>
   intro n K rd ro σ I F a w hc h hr
   simp only[W] at h
   split at h
   ·rename_i b hcc
    have hev:=S.j2 hr hcc
    simp only[AV.g,At.g] at hev
    refine wpIn_cond hev ?_
    cases b with
    | true=>exact wpIn_mono (ih1 _ K rd ro σ I F a w hc h hr) fun e a' w' hp=>hp.mono (fun t ht=>List.mem_append_left _ ht) fun _ _ _ h=>h
    | false=>exact wpIn_mono (ih2 _ K rd ro σ I F a w hc h hr) fun e a' w' hp=>hp.mono (fun t ht=>List.mem_append_right _ ht) fun _ _ _ h=>h
   ·exact h.elim
 | block id c ih =>
   intro n K rd ro σ I F a w hc h hr
   refine wpIn_block (wpIn_mono (ih _ _ rd ro σ I F a w hc h hr) ?_)
   intro e a' w' ⟨σ',I',F',h1,h2,h3,h4⟩
   cases e with
   | exit id' =>
     simp only[Au] at h3
     simp only[Exit.inBlock]
     by_cases hid:id'=id
     ·subst hid
      simp only[beq_self_eq_true,cond_true] at h3
      rw[if_pos rfl];exact⟨σ',I',F',h1,h2,h3,h4⟩
     ·have:(id'==id)=false:=by simpa using hid
      rw[this] at h3
      rw[if_neg hid];exact⟨σ',I',F',h1,h2,h3,h4⟩
   | _=>exact⟨σ',I',F',h1,h2,h3,h4⟩
 | seq x y ih1 ih2 =>
   intro n K rd ro σ I F a w hc h hr
   have hx:∀t∈jZ x,t∈jZ (.seq x y):=fun t ht=>List.mem_append_left _ ht
   have hy:∀t∈jZ y,t∈jZ (.seq x y):=fun t ht=>List.mem_append_right _ ht
   simp only[W] at h
   split at h
   ·refine wpIn_seq (wpIn_mono (ih1 _ _ rd ro σ I F a w hc h hr) ?_)
    intro e a' w' ⟨σ',I',F',h1,h2,h3,h4⟩
    cases e with
    | normal=>exact wpIn_mono (ih2 _ K rd ro σ' I' F' a' w' hc h3 h1) fun e a2 w2 hp=>hp.trans h4 h2 hx hy
    | _=>exact⟨σ',I',F',h1,h2,h3,h4.mono hx⟩
   ·rename_i ct hcut
    obtain⟨hok,h1,h2⟩:=cq h
    refine wpIn_seq (wpIn_mono (ih1 _ _ rd ro _ I F a w hc h1 (hr.lock ct)) ?_)
    intro e a' w' ⟨σ',I',F',g1,g2,g3,g4⟩
    have hother:cE σ (σ'.unlock σ):=gN g4.own
    cases e with
    | normal =>
      obtain⟨hokv,hInv⟩:=cq g3
      obtain⟨hdf,hInv⟩:=uT hInv
      have hrel:Rel (σ.lay ct (jZ x) (σ'.jO ct)) I' F' a' w':=by
       refine Rel.lay ct (jZ x) hr g1 ?_ (fun t ht=>g4.tm t ht) g4.size hokv hdf
       intro i b hb
       obtain⟨b1,e1,e2,e3,e4,e5,e6⟩:=pY (c:=ct) hb
       obtain⟨b2,f1,f2,f3,f4⟩:=g4.own i b1 e1
       refine⟨b2,f1,f2.trans e2,f3.trans e3,fun hs=>?_⟩
       have:nK ct.bks [] i=none:=by
        have:=qL (bks:=ct.bks) (vs:=(σ'.jO ct).drop ct.tms.length) (us:=[]) (i:=i)
        rw[hs] at this
        cases h0:nK ct.bks [] i with
        | none=>rfl
        | some cs=>rw[h0] at this;cases this
       exact (f4 (e6 this)).2.trans e4
      have h5:=qf h2 (qK hokv) I' F' g2 hInv
      have hkeep:cM (jZ x) σ a ((σ.lay ct (jZ x) (σ'.jO ct)).unlock σ) a':=by
       refine⟨?_,g4.tm,g4.size⟩
       exact ph hok (cE.refl _)
      exact wpIn_mono (ih2 _ K rd ro _ I' F' a' w' hc h5 hrel.unlock) fun e a2 w2 hp=>hp.trans hkeep g2 hx hy
    | _=>exact⟨_,I',F',g1.unlock,g2,g3,(⟨hother,g4.tm,g4.size⟩:cM (jZ x) σ a _ a').mono hx⟩
 | loop c ih =>
   intro n K rd ro σ I F a w hc h hr
   simp only[W] at h
   split at h
   ·exact h.elim
   ·rename_i ct hcut
    obtain⟨hokv,⟨m0,h0⟩,h⟩:=cq h
    have hok:mZ σ.own ct.bks=true:=by simp only[S.Cs,Bool.and_eq_true] at hokv;exact hokv.2
    refine yW (fun m a1 w1=>∃vs I1 F1,Rel (σ.lay ct (jZ c) vs) I1 F1 a1 w1∧b8.le I I1∧ct.Inv (σ.fix ct) I F vs m I1 F1∧dk ct.D8 vs=true ∧
     (∀t,t∉jZ c→a1.tmps[t]? = a.tmps[t]?)∧a1.tmps.size=a.tmps.size) ⟨m0,σ.jO ct,I,F, ?_,b8.le_refl I,h0,qK hokv,fun _ _=>rfl,rfl⟩ ?_
    ·exact Rel.lay ct (jZ c) hr hr (fun i b hb=>⟨b,hb,rfl,rfl,fun _=>rfl⟩) (fun _ _=>rfl) rfl hokv rfl
    ·intro m a1 w1 ⟨vs,I1,F1,r1,r2,r3,r4,r5,r6⟩
     have hb:=qf h r4 m I1 F1 r2 r3
     refine wpIn_mono (ih _ _ rd ro _ I1 F1 a1 w1 hc hb r1) ?_
     intro e a' w' ⟨σ',I',F',g1,g2,g3,g4⟩
     have hkeep:cM (jZ c) σ a (σ'.unlock σ) a':=⟨ph hok g4.own,fun t ht=>(g4.tm t ht).trans (r5 t ht),g4.size.trans r6⟩
     cases e with
     | normal =>
       obtain⟨hokv',hInv⟩:=cq g3
       obtain⟨hdf,m',hlt,hInv⟩:=uT hInv
       refine⟨m',hlt,σ'.jO ct,I',F', ?_,b8.le_trans r2 g2,hInv,qK hokv',hkeep.tm,hkeep.size⟩
       refine Rel.lay ct (jZ c) hr g1 ?_ hkeep.tm hkeep.size hokv' hdf
       intro i b hb
       have e0:(σ.lay ct (jZ c) vs).own[i]? = some (match nK ct.bks (vs.drop ct.tms.length) (0+i) with
        | some cs=>{ b with cells:=cs.map fun v=>.a (.v v) }
        | none=>{ b with ro:=true }):=by show (du _ _ 0 σ.own)[i]? = _;rw[eg,hb];rfl
       obtain⟨b2,f1,f2,f3,f4⟩:=g4.own i _ e0
       refine⟨b2,f1, ?_, ?_,fun hs=>?_⟩
       ·rw[f2];split<;>rfl
       ·rw[f3];split<;>rfl
       ·have hs':nK ct.bks (vs.drop ct.tms.length) (0+i)=none:=by
         rw[Nat.zero_add]
         have:=qL (bks:=ct.bks) (vs:=(σ'.jO ct).drop ct.tms.length) (us:=vs.drop ct.tms.length) (i:=i)
         rw[hs] at this
         cases h0:nK ct.bks (vs.drop ct.tms.length) i with
         | none=>rfl
         | some cs=>rw[h0] at this;cases this
        rw[hs'] at f4
        exact (f4 rfl).2
     | _=>exact⟨_,I',F',g1.unlock,b8.le_trans r2 g2,g3,hkeep⟩
def tH(P:Program)(σ:S):ResultVar→Option Value
 | .tmp t=>match σ.tm[t]? with
   | some (some av)=>some av.g
   | _=>none
 | .cell x t=>match σ.tm[x]? with
   | some (some (.a (.p i _ off))) =>
     match σ.own[i]?,nD P t with
     | some cg,some false=>(cg.cells[off]?).map AV.g
     | some cg,some true=>match sF P t with
       | some n=>cond (((cg.cells.drop off).take n).length==n) (some (.agg (((cg.cells.drop off).take n).map AV.g).toArray)) none
       | none=>none
     | _,_=>none
   | _=>none
def ng(P:Program)(σ:S):List ResultVar→Option (List Value)
 | []=>some []
 | r::rs=>match tH P σ r,ng P σ rs with
   | some v,some vs=>some (v::vs)
   | _,_=>none
def wU:List Value→Value
 | [v]=>v
 | vs=>.tuple vs.toArray
def qQ(a:Act):ResultVar→Sem Value
 | .tmp t=>pure (a.tmps.getD t undef)
 | .cell x t=>do loadVar t (←asAddr (a.tmps.getD x undef))
theorem wV{σ:S}{I:b8}{F:bZ}{a:Act}{w:World}(hr:Rel σ I F a w){r:ResultVar}{v:Value}(h:tH P σ r=some v) :
  (qQ a r).run P w=.ok v w:=by
 cases r with
 | tmp t =>
   simp only[tH] at h
   split at h
   ·rename_i av ht
    have:=hr.tm t av ht
    cases h
    simp[qQ,this]
   ·cases h
 | cell x t =>
   simp only[tH] at h
   split at h
   ·rename_i i b off hx
    have hv:=hr.tm x _ hx
    have hwf:=hr.wft x _ hx
    simp only[AV.g,At.g] at hv
    have hl:k9 P t σ.own i off fun y=>y.g=v:=by
     unfold k9
     split at h
     ·rename_i cg hb ha
      simp only[hb,ha]
      cases hc:cg.cells[off]? with
      | none=>rw[hc] at h;cases h
      | some av=>rw[hc] at h;simp only[Option.map_some,Option.some.injEq] at h;exact h
     ·rename_i cg hb ha
      simp only[hb,ha]
      split at h
      ·rename_i n hn
       simp only[hn]
       cases hlen:(((cg.cells.drop off).take n).length==n) with
       | false=>rw[hlen] at h;cases h
       | true=>rw[hlen] at h;simp only[cond_true,Option.some.injEq] at h;exact h
      ·cases h
     ·cases h
    obtain⟨av,hg,_,hload⟩:=nG hl
    have:=hload b hwf w fun cg hb=>hr.sat.get hb
    rw[hg] at this
    simp[qQ,hv,asAddr,Sem.run_bind,this]
   ·cases h
theorem qR{σ:S}{I:b8}{F:bZ}{a:Act}{w:World}(hr:Rel σ I F a w):∀{rs:List ResultVar} {vs:List Value},ng P σ rs=some vs →
  (rs.mapM (qQ a)).run P w=.ok vs w
 | [],vs,h=>by simp only[ng,Option.some.injEq] at h;subst h;rfl
 | r::rs,vs,h=>by
   simp only[ng] at h
   split at h
   ·rename_i v us h1 h2
    cases h
    simp[Sem.run_bind,wV hr h1,qR hr h2]
   ·cases h
theorem po{fn:Func}{σ:S}{I:b8}{F:bZ}{a:Act}{w:World}(hr:Rel σ I F a w){vs:List Value}(h:ng P σ fn.results.toList=some vs) :
  (results fn a.tmps).run P w=.ok (wU vs) w:=by
 have h1:=qR hr h
 have h2:results fn a.tmps=(do
   let vs ←fn.results.mapM (qQ a)
   pure (if h:vs.size=1 then vs[0] else .tuple vs)):=rfl
 rw[h2,Array.mapM_eq_mapM_toList]
 simp only[Sem.run_bind,Sem.run_map,h1,Result.andThen_ok,Sem.run_pure]
 congr 1
 match vs with
 | []=>rfl
 | [v]=>rfl
 | _::_::_=>rfl
def pick(own:List cS):List Nat→List cS
 | []=>[]
 | i::r=>match own[i]? with
   | some b=>b::pick own r
   | none=>pick own r
def wW:Option (List PanicEntry)→FrameMode
 | none=>.returning
 | some ch=>.panicking ch
def so(P:Program)(f:FuncId)(args:List Value)(u:FrameMode)(I:b8)(F:bZ)(Q:Ending→FrameMode→b8→bZ→Prop):Prop :=
 ∀w,Sat I F w→CallsDIn Fence.wide 0 P f args.toArray u w fun e u' w'=>∃I' F',b8.le I I'∧Sat I' F' w'∧Q e u' I' F'
def uZ(P:Program)(A:mw)(rs:List ResultVar)(keep:List Nat)(Q:Ending→b8→bZ→Prop):List Df→Option (List PanicEntry)→S→b8→bZ→Prop
 | [],none,σ,I,F=>match ng P σ rs with
   | some vs=>Q (.returned (wU vs)) I (cy (pick σ.own keep)++F)
   | none=>False
 | [],some ch,σ,I,F=>Q (.panicked ch) I (cy (pick σ.own keep)++F)
 | .mark D::r,u,σ,I,F=>∃F3:bZ,F.Perm ((D,.deferred (some []))::F3)∧uZ P A rs keep Q r u σ I F3
 | .fn f first cap args::r,u,σ,I,F=>cond (A.good f)
   (so P f (first.map At.g++args++cap.map At.g) (wW u) I (cy σ.own++F) fun e u' I' G=>∃v,e=.returned v ∧
     nH A.shp (Ec σ.own 2 (first.flatMap At.idx++cap.flatMap At.idx)) 0 σ.own fun own'=>∃F',G.Perm (cy own'++F') ∧
      ((settle u'=.returning∧uZ P A rs keep Q r none { σ with own:=own' } I' F')∨(∃ch,settle u'=.panicking ch∧uZ P A rs keep Q r (some ch) { σ with own:=own' } I' F'))) False
def yw(P:Program)(A:mw)(rs:List ResultVar)(keep:List Nat)(Q:Ending→b8→bZ→Prop):Kt
 | .normal,σ,I,F=>uZ P A rs keep Q σ.df none σ I F
 | .ret,σ,I,F=>uZ P A rs keep Q σ.df none σ I F
 | .panic ch,σ,I,F=>uZ P A rs keep Q σ.df (some ch) σ I F
 | _,_,_,_=>False
def BE:Nat→List Nat→Bool
 | _,[]=>true
 | n,i::r=>decide (n≤i)&&BE (i+1) r
theorem qS:∀(keep:List Nat) (n:Nat) (own:List cS),BE n keep=true→(pick own keep).Sublist (own.drop n)
 | [],n,own,_=>by simp[pick]
 | i::r,n,own,h=>by
   simp only[BE,Bool.and_eq_true,decide_eq_true_eq] at h
   have ih:=qS r (i+1) own h.2
   simp only[pick]
   have hd:(own.drop (i+1)).Sublist (own.drop n):=by
    have:own.drop (i+1)=(own.drop n).drop (i+1-n):=by rw[List.drop_drop];congr 1;omega
    rw[this];exact List.drop_sublist _ _
   cases hb:own[i]? with
   | none=>exact ih.trans hd
   | some b =>
     have hlt:i<own.length:=by
      rcases Nat.lt_or_ge i own.length with h' | h'
      ·exact h'
      ·simp[List.getElem?_eq_none h'] at hb
     have hc:own.drop i=b::own.drop (i+1):=by
      rw[List.drop_eq_getElem_cons hlt]
      rw[List.getElem?_eq_getElem hlt] at hb
      rw[Option.some.inj hb]
     have hd':(own.drop i).Sublist (own.drop n):=by
      have:own.drop i=(own.drop n).drop (i-n):=by rw[List.drop_drop];congr 1;omega
      rw[this];exact List.drop_sublist _ _
     exact ((List.Sublist.cons_cons b ih).trans (by rw[hc];exact List.Sublist.refl _)).trans hd'
def jg(args:List AV)(n:Nat):List (Option AV):=args.map some++List.replicate (n-args.length) none
theorem zc{shp:Nat→List Sh}{σ:S}{I I':b8}{F F' G:bZ}{E:List Nat}{a:Act}{w w':World}(hr:Rel σ I F a w){own':List cS}(hsat:Sat I' G w')
  (h:own'.length=σ.own.length∧∀(j:Nat) (b:cS),σ.own[j]? = some b→∃b':cS,own'[j]? = some b'∧b'.num=b.num∧b'.elem=b.elem∧b'.ro=b.ro ∧
    ((∃vs:List Value,b'.cells=vs.map fun v=>.a (.v v))∨b'.cells=b.cells)∧(b.ro=true→b'.cells=b.cells)) (hp:G.Perm (cy own'++F')):Rel { σ with own:=own' } I' F' a w':=by
 obtain⟨hl,hk⟩:=h
 have hkeep:cE σ { σ with own:=own' }:=fun j b hb=>by
  obtain⟨b',h1,h2,h3,h4,_,h6⟩:=hk j b hb
  exact⟨b',h1,h2,h3,fun hro=>⟨by rw[h4];exact hro,h6 hro⟩⟩
 refine hr.heap hkeep.same ?_ (hsat.perm hp)
 intro j b' hj c hc
 have hlt:j<σ.own.length:=by
  rcases Nat.lt_or_ge j own'.length with h' | h'
  ·omega
  ·simp[List.getElem?_eq_none h'] at hj
 obtain⟨b,hb⟩:∃b,σ.own[j]? = some b:=⟨σ.own[j],by simp[hlt]⟩
 obtain⟨b'',h1,_,_,_,h5,_⟩:=hk j b hb
 rw[hj] at h1;cases h1
 rcases h5 with ⟨vs,e⟩ | e
 ·rw[e] at hc;obtain⟨v,_,e⟩:=List.mem_map.1 hc;subst e;trivial
 ·rw[e] at hc;exact AV.dA hkeep.same (hr.wfo j b hb c hc)
theorem kg(hP:∀f,A.good f=true→cV P f){fn:Func}{keep:List Nat}(hk:BE 0 keep=true){Q:Ending→b8→bZ→Prop}{I0:b8}:∀(df:List Df) (u:Option (List PanicEntry)) (σ:S) (I:b8) (F:bZ) (a:Act) (w:World),
  uZ P A fn.results.toList keep Q df u σ I F→Rel σ I F a w→b8.le I0 I→LeavesInM Fence.wide 0 P fn a.tmps (qn I0 Q) (df.map Df.d) (wW u) w:=by
 have hsub:∀{σ:S} {I:b8} {F:bZ} {a:Act} {w:World},Rel σ I F a w→Sat I (cy (pick σ.own keep)++F) w:=fun {σ I F a w} h1=>by
  have h5:=qS keep 0 σ.own hk
  rw[List.drop_zero] at h5
  exact h1.sat.sub ((h5.map _).append (List.Sublist.refl F))
 intro df
 induction df with
 | nil =>
   intro u σ I F a w h hr hle
   cases u with
   | none =>
     simp only[uZ] at h
     split at h
     ·rename_i vs hvs
      exact⟨_,po hr hvs,I,_,hle,hsub hr,h⟩
     ·exact h.elim
   | some ch=>exact⟨I,_,hle,hsub hr,h⟩
 | cons d df ih =>
   intro u σ I F a w h hr hle
   have hrun:wW u ≠ .run:=by cases u<;>exact fun h=>by cases h
   cases d with
   | mark D =>
     obtain⟨F3,hp,h⟩:=h
     have hs:Sat I ((D,.deferred (some []))::(cy σ.own++F3)) w:=(hr.sat.perm (List.Perm.append_left _ hp)).perm List.perm_middle
     refine⟨hrun,.inl ⟨D,_,rfl,run_takeDeferred hs.pZ,ih u σ I F3 a _ h ?_ hle⟩⟩
     exact hr.heap (gy.refl _) hr.wfo ((hs.nS (o':=.deferred none)).sub (List.sublist_cons_self _ _))
   | fn f first cap args =>
     obtain⟨hg,h⟩:=cq h
     refine⟨hrun,.inr ⟨fun h=>by simp[Fence.wide] at h,.func f,(cap.map At.g).toArray,f,(first.map At.g).toArray++args.toArray++(cap.map At.g).toArray,rfl, ?_,fun _ _=>trivial, ?_⟩⟩
     ·simp only[Df.d,invoke];exact hP f hg _ w
     ·have hc:=h w hr.sat
      have ha:(first.map At.g++args++cap.map At.g).toArray=(first.map At.g).toArray++args.toArray++(cap.map At.g).toArray:=by simp
      rw[ha] at hc
      refine hc.mono fun e u' w' ⟨I',G,hle',hs',v,he,hq⟩=>?_
      subst he
      obtain⟨own',⟨F',hp,hor⟩,hown⟩:=jN hq
      have hrel:=zc (shp:=A.shp) (E:=[]) hr hs' hown hp
      rcases hor with ⟨hm,hk2⟩ | ⟨ch,hm,hk2⟩
      ·have:=ih none _ I' F' a w' hk2 hrel (b8.le_trans hle hle')
       show LeavesInM Fence.wide 0 P fn a.tmps (qn I0 Q) (df.map Df.d) (settle u') w'
       rw[hm];exact this
      ·have:=ih (some ch) _ I' F' a w' hk2 hrel (b8.le_trans hle hle')
       show LeavesInM Fence.wide 0 P fn a.tmps (qn I0 Q) (df.map Df.d) (settle u') w'
       rw[hm];exact this
theorem Ax(hP:∀f,A.good f=true→cV P f){f:FuncId}{fn:Func}{c:Code}(hf:P.funcs[f]? = some fn)(hb:fn.body=some c){args:List AV}{own:List cS}
  {I:b8} {F:bZ} {keep:List Nat} {Q:Ending→b8→bZ→Prop} (hk:BE 0 keep=true) (hwa:∀x∈args,AV.wf own x) (hwo:∀b∈own,∀x∈b.cells,AV.wf own x)
  (h:W P A none c 0 (yw P A fn.results.toList keep Q) ⟨jg args fn.ntmps,own,[]⟩ I F) {vs:Array Value} (hv:vs=(args.map AV.g).toArray):cd P f vs I (cy own++F) Q:=by
 subst hv
 intro w hw
 refine callsIn_wide.1 (callsIn_of_wp_marks (n:=0) hf hb trivial ?_)
 have hrel:Rel ⟨jg args fn.ntmps,own,[]⟩ I F { tmps:=(args.map AV.g).toArray++Array.replicate (fn.ntmps-(args.map AV.g).toArray.size) undef,defers:=[] } w:=by
  refine⟨by simp[jg], ?_,rfl, ?_, ?_,hw⟩
  ·intro t av ht
   simp only[jg,List.getElem?_append] at ht
   split at ht
   ·rename_i hlt
    simp only[List.getElem?_map] at ht
    cases ha:args[t]? with
    | none=>rw[ha] at ht;simp at ht
    | some x =>
      rw[ha] at ht
      simp only[Option.map_some,Option.some.injEq] at ht
      subst ht
      simp at hlt
      rw[Array.getElem?_append_left (by simpa using hlt)]
      simp[ha]
   ·rw[List.getElem?_replicate] at ht;split at ht<;>cases ht
  ·intro t av ht
   simp only[jg,List.getElem?_append] at ht
   split at ht
   ·simp only[List.getElem?_map] at ht
    cases ha:args[t]? with
    | none=>rw[ha] at ht;simp at ht
    | some x =>
      rw[ha] at ht
      simp only[Option.map_some,Option.some.injEq] at ht
      subst ht
      exact hwa _ (List.mem_of_getElem? ha)
   ·rw[List.getElem?_replicate] at ht;split at ht<;>cases ht
  ·exact fun i b hb' x hx=>hwo b (List.mem_of_getElem? hb') x hx
 refine wpIn_mono (yv hP c 0 _ none none _ I F _ w rfl h hrel) ?_
 intro e a' w' ⟨σ',I',F',h1,h2,h3,h4⟩
 cases e with
 | normal =>
   have:=kg hP hk σ'.df none σ' I' F' a' w' h3 h1 h2
   rw[←h1.defers] at this;exact this
 | ret =>
   have:=kg hP hk σ'.df none σ' I' F' a' w' h3 h1 h2
   rw[←h1.defers] at this;exact this
 | panic ch =>
   have:=kg hP hk σ'.df (some ch) σ' I' F' a' w' h3 h1 h2
   rw[←h1.defers] at this;exact this
 | exit id=>exact h3.elim
 | goto l=>exact h3.elim
 | outgrown=>exact h3.elim
end sound
def qT(P:Program)(f:Nat):Bool :=
 match P.funcs[f]? with
 | some fn=>!(fn.name == "runtime.NumGoroutine")&&fn.body.isSome
 | none=>false
theorem qU{P:Program}{f:Nat}(h:qT P f=true):cV P f:=by
 intro args w
 unfold qT at h
 split at h
 ·rename_i fn hf
  simp only[Bool.and_eq_true,Bool.not_eq_true'] at h
  have h1:¬fn.name = "runtime.NumGoroutine" := by simpa using h.1
  have h2:¬fn.body=none:=fun e=>by rw[e] at h;simp at h
  simp[callFunc,program,Sem.run_bind,Sem.run,hf,h1,h2]
 ·cases h
def lk(l:List (Nat×List Sh))(t:Nat):List Sh :=
 match l with
 | []=>[]
 | (s,x)::r=>cond (s==t) x (lk r t)
def nT:List Nat→Nat→Bool
 | [],_=>false
 | x::r,n=>x==n||nT r n
def Ey(l:List (Nat×Cut))(n:Nat):Option Cut :=
 match l with
 | []=>none
 | (m,c)::r=>cond (m==n) (some c) (Ey r n)
def Ez(l:List (Nat×Nat×List Nat))(n:Nat):Option (Nat×List Nat) :=
 match l with
 | []=>none
 | (m,k,h)::r=>cond (m==n) (some (k,h)) (Ez r n)
theorem u5{P:Program}(l:List Nat)(h:l.all (qT P)=true):∀f,nT l f=true→cV P f:=by
 intro f hf
 have:f∈l:=by
  clear h
  induction l with
  | nil=>simp[nT] at hf
  | cons x r ih =>
    simp only[nT,Bool.or_eq_true,beq_iff_eq] at hf
    rcases hf with hf | hf
    ·exact hf▸List.mem_cons_self ..
    ·exact List.mem_cons_of_mem _ (ih hf)
 exact qU (List.all_eq_true.1 h f this)
abbrev cc:=Ending→b8→bZ→Prop
def cO(sp pn gd:List Nat)(sh:List (Nat×List Sh))(ct:List (Nat×Cut))(pr rl:List Nat)(ds:List (Nat×Nat×List Nat))(fv:List Nat)(sq:List (Nat×List Nat))(tl:List (Nat×Nat))(s2:List (Nat×Nat×Nat×List Nat×List Nat):=[])(ol:List (Nat×List Nat×Nat):=[])(ot:List (Nat×List Nat×Ot):=[]):mw :=
 { sp:=fun r i=>nT sp (r*1000+i),pn:=nT pn,good:=nT gd,shp:=lk sh,cut:=Ey ct,pr:=fun r i=>nT pr (r*1000+i),ds:=Ez ds,rl:=fun r i=>nT rl (r*1000+i),fv:=fun r i=>nT fv (r*1000+i),sq:=Es sq,tl:=Ew tl,s2:=Et s2,ol:=Ev ol,ot:=Eu ot }
theorem u6{P:Program}{A:mw}{f:FuncId}{fn:Func}{args:List AV}{own:List cS}{I:b8}{F:bZ}{keep:List Nat}{Q:cc}{V:Prop}(gd:List Nat)(hf:P.funcs[f]? = some fn)(h:V)
  (e:W P A none (fn.body.getD .skip) 0 (yw P A fn.results.toList keep Q) ⟨jg args fn.ntmps,own,[]⟩ I F=V) (hg:A.good=nT gd) (hG:gd.all (qT P)=true) (hb:fn.body=some (fn.body.getD .skip)) (hk:BE 0 keep=true)
  (hwa:∀x∈args,AV.wf own x) (hwo:∀b∈own,∀x∈b.cells,AV.wf own x) {vs:Array Value} (hv:vs=(args.map AV.g).toArray):cd P f vs I (cy own++F) Q :=
 Ax (fun f hf'=>u5 gd hG f (by rw[←hg];exact hf')) hf hb hk hwa hwo (by rw[e];exact h) hv
theorem tv{P:Program}{A:mw}{f:FuncId}{fn:Func}{args:List AV}{own:List cS}{I:b8}{F:bZ}{keep:List Nat}{Q:cc}{V:Prop}(gd:List Nat)(hf:P.funcs[f]? = some fn)(h:V)
  (e:W P A none (fn.body.getD .skip) 0 (yw P A fn.results.toList keep Q) ⟨jg args fn.ntmps,own,[]⟩ I F=V:=by kernel_rfl) (hg:A.good=nT gd:=by kernel_rfl) (hG:gd.all (qT P)=true:=by kernel_rfl) (hb:fn.body=some (fn.body.getD .skip):=by kernel_rfl) (hk:BE 0 keep=true:=by kernel_rfl)
  (hwa:∀x∈args,AV.wf own x:=by simp[AV.wf,At.wf]) (hwo:∀b∈own,∀x∈b.cells,AV.wf own x:=by simp[AV.wf,At.wf]) {vs:Array Value} (hv:vs=(args.map AV.g).toArray:=by rfl):cd P f vs I (cy own++F) Q :=
 u6 gd hf h e hg hG hb hk hwa hwo hv
abbrev Bs:=ByteArray
abbrev OA:=Option Addr
abbrev nB:ByteArray:=⟨#[]⟩
abbrev It(c:Bool)(A B:Prop):Prop:=(c=true→A)∧(c=false→B)
abbrev Dt(p:Prop)[Decidable p](A B:Prop):Prop:=(decide p=true→A)∧(decide p=false→B)
abbrev cJ{α:Type}(P:Program)(f:FuncId)(x:Array Value)(I:b8)(h:bZ→bZ)(F:bZ)(v:α→Value)(k:α→b8→bZ→Prop):Prop:=cd P f x I (h F) fun e I' G=>∃r:α,e=.returned (v r)∧∃F':bZ,List.Perm G (h F')∧k r I' F'
abbrev de(P:Program)(f:FuncId)(x:Array Value)(I:b8)(h:bZ→bZ)(F:bZ)(R:Ending→b8→((bZ→Prop)→Prop)→Prop):Prop:=cd P f x I (h F) fun e I' G=>R e I' fun k=>∃F':bZ,List.Perm G (h F')∧k F'
abbrev an(g:List Nat)(c:List Nat)(s:List (Nat×List Sh)):mw:=cO g [] c s [] [] [] [] [] [] []
theorem tw{P:Program}{A:mw}{f:FuncId}{fn:Func}{vs:List Value}{I:b8}{F:bZ}{Q:cc}{V:Prop}(gd:List Nat)(hf:P.funcs[f]? = some fn)(h:V)
  (e:W P A none (fn.body.getD .skip) 0 (yw P A fn.results.toList [] Q) ⟨jg (vs.map fun v=>.a (.v v)) fn.ntmps,[],[]⟩ I F=V:=by kernel_rfl) (hg:A.good=nT gd:=by kernel_rfl) (hG:gd.all (qT P)=true:=by kernel_rfl) (hb:fn.body=some (fn.body.getD .skip):=by kernel_rfl)
  : cd P f vs.toArray I F Q :=
 u6 (args:=vs.map fun v=>.a (.v v)) (own:=[]) (keep:=[]) gd hf h e hg hG hb rfl (by intro x hx;obtain⟨v,_,rfl⟩:=List.mem_map.1 hx;simp[AV.wf,At.wf]) (by simp) (by rw[List.map_map];congr 1;exact (List.map_id _).symm)
end Go.Vc
namespace Go.Vc
open Go.ChangeShapes Go.WideShapes Go.ChangeAt Go.RowKit
def b8.all(w:World):b8:=⟨fun b=>w.heap[b]?,w.os,w.output⟩
theorem Sat.all(w:World):Sat (b8.all w) [] w:=⟨fun _ _ h=>h,fun _ _ h=>by simp at h,fun _ _ h=>by simp at h,List.nodup_nil,rfl,rfl⟩
structure jh (w w':World):Prop where
 heap:∀i,i<w.heap.size→w'.heap[i]? = w.heap[i]?
 os:w'.os=w.os
 out:w'.output=w.output
theorem jh.of{w w':World}{I:b8}{F:bZ}(hl:b8.le (b8.all w) I)(hs:Sat I F w'):jh w w':=by
 refine⟨fun i hi=>?_,hs.env.1.trans hl.2.1,hs.env.2.trans hl.2.2⟩
 obtain⟨o,ho⟩:∃o,w.heap[i]? = some o:=⟨_,Array.getElem?_eq_getElem hi⟩
 rw[ho]
 exact hs.imm _ _ (hl.1 i o ho)
theorem jh.kept{w w':World}(h:jh w w')(may:MemPlace→Prop):w.keptBut w' may:=by
 refine⟨h.os,h.out,fun i hi=>?_⟩
 rw[h.heap i hi]
 cases w.heap[i]? with
 | none=>rfl
 | some o=>cases o with
   | cells c t fr=>exact⟨rfl,rfl,rfl,fun _ _=>rfl⟩
   | map es clock=>exact .inr ⟨rfl,rfl⟩
   | _=>rfl
theorem jh.frozen{w w':World}(h:jh w w'){a:Addr}(ha:a.block<w.heap.size):w'.frozen? a=w.frozen? a:=by
 unfold World.frozen?;rw[h.heap _ ha]
theorem wX{H:Type}{enc:TypeId×Value→H}{P:Program}{f:Func}{s:ChangeSpec}{apart fresh handsOn again:Bool}{W W':World}{args:Array Value}{v:Value}{ds gs:List (DataW H)}{before pa pv:List MemPlace}
  (hW:DataW.Whole enc P f.params.toList s.vars apart W args.toList ds gs before)
  (hres:∀(b:Nat) (sp:Nat→Bool) (hd:Bool),DataW.TrodAll enc P W' b sp hd f.resultTypes.toList (v.resultList f.resultTypes.size) (s.fn H (ds++gs)).results [])
  (hargs:∀sp:Nat→Bool,(∀p∈before,sp p.block=true)→DataW.TrodAll enc P W' 0 sp true f.params.toList args.toList (s.fn H (ds++gs)).args pa)
  (hvars:∀sp:Nat→Bool,(∀p∈before,sp p.block=true)→DataW.TrodVars enc P W' sp s.vars (s.fn H (ds++gs)).vars pv)
  (hps:before=pa++pv) (hk:jh W W')
  (hok:∀(j:Nat) (t:TypeId) (r:Value),f.resultTypes[j]? = some t→(v.resultList f.resultTypes.size)[j]? = some r→Value.okWide P W' .any 0 t r) :
  s.post enc P f apart fresh handsOn again W args v W':=by
 have hold:∀p∈before,(fun b=>decide (b<W.heap.size)) p.block=true:=fun p hp=>by simpa using hW.lt p hp
 have hlt:∀p∈before,p.block<W.heap.size:=fun p hp=>hW.lt p hp
 refine⟨ds,gs,before,[],pa,pv,hW,hres _ _ _,hargs _ hold,hvars _ hold,World.keptBut_mono (fun p hp=>⟨hp, ?_⟩) (hk.kept (·∈before)),fun _=>?_⟩
 ·rw[hps,List.mem_append] at hp
  exact Or.inr hp
 ·obtain⟨_,_,_,_,_,hz,hn⟩:=hW
  refine⟨hok,_,_,([]++pa)++pv,⟨[]++pa,pv,trodAll_append (hargs _ (fun _ _=>rfl)) (hres _ _ _),hvars _ (fun _ _=>rfl),rfl, ?_, ?_⟩, ?_⟩
  ·intro b off hp
   have hp':MemPlace.cell b off∈before:=by rw[hps];simpa using hp
   rw[hk.frozen (hlt _ hp')]
   exact hz b off hp'
  ·intro ha
   have:=hn ha
   rw[hps] at this
   simpa using this
  ·intro p hp _
   rw[hps]
   simpa using hp
end Go.Vc
namespace Go.Vc
theorem qV{α β:Type}(f:α→List β)(z:Nat)(hz:∀x,(f x).length=z):∀(l:List α) (i:Nat) (x:α) (j:Nat),l[i]? = some x→j<z→(l.flatMap f)[i*z+j]? = (f x)[j]?
 | [],i,x,j,h,_=>by simp at h
 | y::l,0,x,j,h,hj=>by
   simp at h;subst h
   rw[List.flatMap_cons,List.getElem?_append_left (by rw[hz];omega)];simp
 | y::l,i+1,x,j,h,hj=>by
   rw[List.flatMap_cons,List.getElem?_append_right (by rw[hz,Nat.succ_mul];omega),hz,show (i+1)*z+j-z=i*z+j by rw[Nat.succ_mul];omega]
   exact qV f z hz l i x j (by simpa using h) hj
def Sl{α:Type}(I:b8)(z:Nat)(f:α→List Value)(a:Option Addr)(n:Nat)(l:List α):Prop :=
 n=l.length∧(l≠[]→∃ad,a=some ad∧∀(i:Nat) (x:α),l[i]? = some x→∀G,Rd I G (ad.add (i*z)) (f x))
theorem Rd.le{I J:b8}{G:bZ}{ad:Addr}{cs:List Value}(h:Rd I G ad cs)(hl:∀b o,(I b=some o∨(b,o)∈G)→J b=some o∨(b,o)∈G):Rd J G ad cs:=by
 obtain⟨h1,cells,e,fz,h2,h3⟩:=h
 exact⟨h1,cells,e,fz,hl _ _ h2,h3⟩
theorem Rd.mono{I J:b8}{G:bZ}{ad:Addr}{cs:List Value}(h:Rd I G ad cs)(hl:b8.le I J):Rd J G ad cs :=
 h.le fun b o hb=>hb.imp (fun h=>hl.at h) id
theorem Sl.mono{α:Type}{I J:b8}{z:Nat}{f:α→List Value}{a:Option Addr}{n:Nat}{l:List α}(h:Sl I z f a n l)(hl:b8.le I J):Sl J z f a n l :=
 ⟨h.1,fun hne=>let ⟨ad,ha,hr⟩:=h.2 hne;⟨ad,ha,fun i x hx G=>(hr i x hx G).mono hl⟩⟩
theorem Sl.jQ{α:Type}{I:b8}{z:Nat}{f:α→List Value}(hz:∀x,(f x).length=z){b e:Nat}{fz:Nat×Nat}{l:List α}{cells:Array Value}(h:I b=some (.cells cells e fz))
  (hc:∀k,k<(l.flatMap f).length→cells[k]? = (l.flatMap f)[k]?):Sl I z f (some ⟨b,0,none⟩) l.length l:=by
 refine⟨rfl,fun hne=>⟨_,rfl,fun i x hx G=>?_⟩⟩
 have hadd:(⟨b,0,none⟩:Addr).add (i*z)=⟨b,i*z,none⟩:=by unfold Addr.add;split<;>simp_all
 rw[hadd]
 refine⟨rfl,cells,e,fz,.inl h,fun j hj=>?_⟩
 rw[hz] at hj
 have h1:=qV f z hz l i x j hx hj
 have h2:(l.flatMap f)[i*z+j]? ≠ none:=by
  rw[h1];rw[List.getElem?_eq_getElem (by rw[hz];exact hj)];simp
 have hlt:i*z+j<(l.flatMap f).length:=by
  rcases Nat.lt_or_ge (i*z+j) (l.flatMap f).length with h | h
  ·exact h
  ·exact absurd (List.getElem?_eq_none h) h2
 show cells[i*z+j]? = _
 rw[hc _ hlt,h1]
theorem Sl.jR{α:Type}{I:b8}{z:Nat}{f:α→List Value}(hz:∀x,(f x).length=z){b e:Nat}{fz:Nat×Nat}{l:List α}{cells:Array Value}(h:I b=some (.cells cells e fz))
  (hc:cells.toList=l.flatMap f):Sl I z f (some ⟨b,0,none⟩) l.length l :=
 Sl.jQ hz h fun k _=>by rw[←hc];simp
theorem Sl.at{α:Type}{I:b8}{z:Nat}{f:α→List Value}{a:Option Addr}{n:Nat}{l:List α}(h:Sl I z f a n l){i:Int}(h0:0≤i)(h1:i<n) :
  ∃ad x,a=some ad∧l[i.toNat]? = some x∧∀G,Rd I G (ad.add (Int.toNat i*z)) (f x):=by
 have hlt:i.toNat<l.length:=by have:=h.1;omega
 obtain⟨ad,ha,hr⟩:=h.2 (by intro e;rw[e] at hlt;simp at hlt)
 exact⟨ad,l[i.toNat],ha,by simp[hlt],fun G=>hr _ _ (by simp[hlt]) G⟩
def Acc{α:Type}(z:Nat)(f:α→List Value)(e:Nat)(a:Option Addr)(n c:Nat)(l:List α)(A:bZ):Prop :=
 n=l.length∧((a=none∧c=0∧l=[]∧A=[]) ∨
  ∃b cells,a=some ⟨b,0,none⟩∧A=[(b,Obj.cells cells e (0,0))]∧cells.size=c*z∧n≤c∧cells.toList.take (n*z)=l.flatMap f)
theorem Acc.nil{α:Type}{z:Nat}{f:α→List Value}{e:Nat}:Acc z f e none 0 0 ([]:List α) []:=⟨rfl,.inl ⟨rfl,rfl,rfl,rfl⟩⟩
theorem wY(w:World)(g:Nat)(old cs:Array Value)(t:TypeId)(fr:Nat×Nat)(hg:w.heap[g]? = some (.cells old t fr)):(w.setRow g cs).heap=w.heap.setIfInBounds g (.cells cs t fr):=by
 apply Array.ext_getElem?
 intro j
 rw[Array.getElem?_setIfInBounds]
 by_cases h:g=j
 ·subst h
  have hlt:g<w.heap.size:=(Array.getElem?_eq_some_iff.1 hg).1
  rw[if_pos rfl,if_pos hlt];exact setRow_heap w g old cs t fr hg
 ·rw[if_neg h];exact setRow_other w g j cs (Ne.symm h)
theorem iH{α β:Type}{f:α→List β}{z:Nat}(hz:∀x,(f x).length=z):∀l:List α,(l.flatMap f).length=l.length*z
 | []=>by simp
 | x::l=>by rw[List.flatMap_cons,List.length_append,hz,iH hz l,List.length_cons,Nat.succ_mul,Nat.add_comm]
theorem u7{P:Program}{α:Type}{z:Nat}{f:α→List Value}(hz:∀x,(f x).length=z)(t ty e:TypeId)(i:TypeInfo)(zv:Value)(ht:P.underlying t=some (.slice e))(hi:P.info? e=some i)(hzv:i.zero=some zv)(hsz:i.size=z)(hzs:zv.cells.size=z)(hb:1≤i.bytes)
  {a:Option Addr} {n c:Nat} {l:List α} {A:bZ} (hA:Acc z f e a n c l A) {xs:List α} (h1:∀x∈xs,∀u∈f x,u.oneCell'=true) (hx:xs≠[]) {sa:Addr} {m sc:Nat} (hm:m=xs.length) {I:b8} {F:bZ}
  (hr:Rd I (A++F) sa (xs.flatMap f)) (hfit:(l.length+xs.length)*i.bytes≤140737488355328) :
  cG P (Builtin.append_ #[t,t] ty #[.slice a n c,.slice (some sa) m sc]) I (A++F) fun v I' G=>∃a' n' c' A',v=.slice a' n' c'∧Acc z f e a' n' c' (l++xs) A'∧G=A'++F∧(a'=a∨Sl I' z f a n l):=by
 intro w hw
 subst hsz
 have hlen:(xs.flatMap f).length=m*i.size:=by rw[iH hz,hm]
 have hnews:∀j u,(xs.flatMap f)[j]? = some u→w.cell? (sa.add j)=some u:=fun j u hj=>by
  rw[hr.cell hw j (by
   rcases Nat.lt_or_ge j (xs.flatMap f).length with h | h
   ·exact h
   ·rw[List.getElem?_eq_none h] at hj;cases hj),hj]
 have h1':∀u∈xs.flatMap f,u.oneCell'=true:=fun u hu=>by
  obtain⟨x,hxm,hu⟩:=List.mem_flatMap.1 hu
  exact h1 x hxm u hu
 have hxp:0<xs.length:=List.length_pos_iff.2 hx
 have hle:l.length+xs.length≤140737488355328:=Nat.le_trans (Nat.le_mul_of_pos_right _ hb) hfit
 obtain⟨hn,⟨ha,hc,hl,hA⟩ | ⟨b,cells,ha,hA,hcs,hnc,htk⟩⟩:=hA
 ·subst ha hc hl hA
  simp only[List.length_nil,Nat.zero_add,List.nil_append] at hfit hn hle ⊢
  subst hn
  have hrun:=run_append_nil (P:=P) w t ty e i zv ht hi hzv sa m sc _ hlen hnews (by omega) (by omega) (by rw[hm];omega)
  have hge:=grownCap_ge w m 0 e
  have hsat:Sat I F w.drew:=hw.of_heap rfl ⟨rfl,rfl⟩
  refine⟨_,_,I,_,hrun,b8.le_refl I,hsat.alloc _,_,_,_,[_],rfl,⟨hm,.inr ⟨_,_,rfl,rfl, ?_,hge, ?_⟩⟩,rfl, ?_⟩
  ·simp only[Array.size_append,List.size_toArray,size_zeroCells,hzs,hlen,←Nat.add_mul]
   congr 1;omega
  ·rw[Array.toList_append,←hlen];exact List.take_left
  ·exact .inr ⟨rfl,fun h=>absurd rfl h⟩
 ·subst ha hA
  have hflat:(l.flatMap f).length=n*i.size:=by rw[iH hz,hn]
  have hg:w.heap[b]? = some (.cells cells e (0,0)):=hw.own _ _ (List.mem_cons_self ..)
  by_cases hroom:n+m≤c
  ·have hfit2:n*i.size+(xs.flatMap f).length≤cells.size:=by rw[hlen,hcs,←Nat.add_mul];exact Nat.mul_le_mul_right _ hroom
   have hrun:=run_append_room (P:=P) w t ty e i ht hi b n c cells hg sa m sc _ hlen hnews h1' hroom hfit2
   refine⟨_,_,I,_,hrun,b8.le_refl I,hw.set (wY w b cells _ e (0,0) hg) ⟨rfl,rfl⟩,_,_,_,[_],rfl,⟨by rw[List.length_append];omega,.inr ⟨_,_,rfl,rfl, ?_,hroom, ?_⟩⟩,rfl,.inl rfl⟩
   ·simp only[List.size_toArray,List.length_append,List.length_take,List.length_drop,Array.length_toList]
    omega
   ·rw[htk,List.flatMap_append,Nat.add_mul,←hflat,←hlen,←List.length_append]
    exact List.take_left
  ·have hcell:∀j u,(l.flatMap f)[j]? = some u→w.cell? ((⟨b,0,none⟩:Addr).add j)=some u:=fun j u hj=>by
    have hadd:(⟨b,0,none⟩:Addr).add j=⟨b,j,none⟩:=by unfold Addr.add;split<;>simp_all
    rw[hadd,cell_of_row w b j cells e (0,0) hg]
    rw[←htk,List.getElem?_take] at hj
    split at hj
    ·simpa using hj
    ·cases hj
   have hrun:=run_append_grow (P:=P) w t ty e i zv ht hi hzv ⟨b,0,none⟩ n c _ hflat hcell sa m sc _ hlen hnews (by omega) (by omega) (growslice_fits (by omega) (by rw[hn,hm];exact hfit))
   have hge:=grownCap_ge w (n+m) c e
   obtain⟨hle',hprom⟩:=(hw.of_heap rfl ⟨rfl,rfl⟩:Sat I ((b,Obj.cells cells e (0,0))::F) w.drew).jc
   refine⟨_,_,_,_,hrun,hle',hprom.alloc _,_,_,_,[_],rfl,⟨by rw[List.length_append];omega,.inr ⟨_,_,rfl,rfl, ?_,hge, ?_⟩⟩,rfl,.inr ?_⟩
   ·simp only[Array.size_append,List.size_toArray,size_zeroCells,hzs,hflat,hlen,←Nat.add_mul]
    congr 1;omega
   ·simp only[Array.toList_append]
    rw[List.flatMap_append,Nat.add_mul,←hflat,←hlen,←List.length_append]
    exact List.take_left
   ·rw[hn]
    refine Sl.jQ hz (b8.iA _ _ _) fun k hk=>?_
    rw[←htk,List.getElem?_take,if_pos]
    ·simp
    ·rw[iH hz,←hn] at hk;exact hk
theorem ie{P:Program}{α:Type}{z:Nat}{f:α→List Value}(hz:∀x,(f x).length=z){t ty e:TypeId}{zv:Value}{by':Nat}(ht:P.underlying t=some (.slice e))(hi:(P.info? e).map (fun i=>(i.zero,i.size,i.bytes))=some (some zv,z,by'))(hzs:zv.cells.size=z)(hb:1≤by')
  {a:Option Addr} {n c:Nat} {l:List α} {A:bZ} (hA:Acc z f e a n c l A) {xs:List α} (h1:∀x∈xs,∀u∈f x,u.oneCell'=true) (hx:xs≠[]) {sa:Addr} {m sc:Nat} (hm:m=xs.length) {I:b8} {F:bZ}
  (hr:Rd I (A++F) sa (xs.flatMap f)) (hfit:(l.length+xs.length)*by'≤140737488355328) :
  cG P (Builtin.append_ #[t,t] ty #[.slice a n c,.slice (some sa) m sc]) I (A++F) fun v I' G=>∃a' n' c' A',v=.slice a' n' c'∧Acc z f e a' n' c' (l++xs) A'∧G=A'++F∧(a'=a∨Sl I' z f a n l):=by
 cases h:P.info? e with
 | none=>rw[h] at hi;cases hi
 | some i =>
   rw[h] at hi
   simp only[Option.map_some,Option.some.injEq,Prod.mk.injEq] at hi
   exact u7 hz t ty e i zv ht h hi.1 hi.2.1 hzs (by omega) hA h1 hx hm hr (by rw[hi.2.2];exact hfit)
theorem cG.perm{P:Program}{s:Sem Value}{I:b8}{F G:bZ}{Q:Value→b8→bZ→Prop}(h:cG P s I F Q)(p:G.Perm F):cG P s I G Q:=fun w hw=>h w (hw.perm p)
theorem cd.perm{P:Program}{f:FuncId}{args:Array Value}{I:b8}{F G:bZ}{Q:Ending→b8→bZ→Prop}(h:cd P f args I F Q)(p:G.Perm F):cd P f args I G Q:=fun w hw=>h w (hw.perm p)
theorem cd.keep{P:Program}{f:FuncId}{args:Array Value}{I:b8}{F:bZ}{Q Q':Ending→b8→bZ→Prop}(h:cd P f args I F Q)
  (k:∀e I' G w,b8.le I I'→Sat I' G w→Q e I' G→∃J G',b8.le I' J∧Sat J G' w∧Q' e J G'):cd P f args I F Q' :=
 fun w hw=>(h w hw).mono fun e w' ⟨I',G,hl,hs,hq⟩=>let ⟨J,G',hl',hs',hq'⟩:=k e I' G w' hl hs hq;⟨J,G',b8.le_trans hl hl',hs',hq'⟩
theorem Acc.keep{α:Type}{z:Nat}{f:α→List Value}(hz:∀x,(f x).length=z){e:Nat}{a:Option Addr}{n c:Nat}{l:List α}{A F:bZ}(h:Acc z f e a n c l A){I:b8}{w:World}(hw:Sat I (A++F) w) :
  ∃J,b8.le I J∧Sat J F w∧Sl J z f a n l:=by
 obtain⟨hn,⟨ha,hc,hl,hA⟩ | ⟨b,cells,ha,hA,hcs,hnc,htk⟩⟩:=h
 ·subst ha hc hl hA hn
  exact⟨I,b8.le_refl I,hw,rfl,fun h=>absurd rfl h⟩
 ·subst ha hA
  obtain⟨h1,h2⟩:=hw.jc
  refine⟨_,h1,h2, ?_⟩
  rw[hn]
  refine Sl.jQ hz (b8.iA _ _ _) fun k hk=>?_
  rw[←htk,List.getElem?_take,if_pos]
  ·simp
  ·rw[iH hz,←hn] at hk;exact hk
def wZ:Value→Value→Option Bool
 | .int k a,.int k' b=>bif k==k' then some (a==b) else none
 | .string a,.string b=>some (a.toList==b.toList)
 | .bool a,.bool b=>some (a==b)
 | _,_=>none
def oH(P:Program)(t:TypeId):Value→Bool
 | .int _ _=>match P.underlying t with | some (.int _)=>true | _=>false
 | .string _=>match P.underlying t with | some .string=>true | _=>false
 | .bool _=>match P.underlying t with | some .bool=>true | _=>false
 | _=>false
theorem w6{P:Program}{t:TypeId}{u v:Value}{b:Bool}(h:wZ u v=some b)(ht:oH P t u=true)(d:Nat)(w:World):(Op.equalIn (d+1) t u v).run P w=.ok b w:=by
 unfold wZ at h
 split at h
 ·rename_i k a k' b'
  cases hk:k==k' with
  | false=>rw[hk] at h;cases h
  | true =>
    have:k=k':=by cases k<;>cases k'<;>first | rfl | cases hk
    subst this
    rw[hk] at h
    cases h
    simp only[oH] at ht
    split at ht
    ·rename_i hu;exact run_equalIn_int w d t k _ a b' hu
    ·exact absurd ht (by decide)
 ·cases h
  simp only[oH] at ht
  split at ht
  ·rename_i hu;exact run_equalIn_string w d t _ _ hu
  ·exact absurd ht (by decide)
 ·cases h
  simp only[oH] at ht
  split at ht
  ·rename_i hu;exact run_equalIn_bool' w d t _ _ hu
  ·exact absurd ht (by decide)
 ·cases h
def oI(P:Program)(xs ys:Array Value):List Field→Option Bool
 | []=>some true
 | f::fs=>bif !(f.name == "_")&&(match nD P f.type with | some false=>true | _=>false) then
    (match xs[f.offset]?,ys[f.offset]? with
      | some u,some v=>bif oH P f.type u then (match wZ u v,oI P xs ys fs with | some b,some c=>some (b&&c) | _,_=>none) else none
      | _,_=>none) else none
theorem u9{P:Program}{t:TypeId}{cs:Array Value}{o:Nat}{v:Value}(h:nD P t=some false)(hv:cs[o]? = some v)(w:World):(part t cs o).run P w=.ok v w:=by
 simp[part,Sem.run_bind,oz h,hv]
theorem qW{P:Program}{xs ys:Array Value}(d:Nat):∀{fs:List Field} {b:Bool},oI P xs ys fs=some b→∀w,(Op.eqFields (d+1) xs ys fs).run P w=.ok b w
 | [],b,h,w=>by cases h;rfl
 | f::fs,b,h,w=>by
   unfold oI at h
   cases hc:(!(f.name == "_")&&(match nD P f.type with | some false=>true | _=>false)) with
   | false=>rw[hc] at h;cases h
   | true =>
     rw[hc] at h
     simp only[cond_true] at h
     rw[Bool.and_eq_true] at hc
     have hname:f.name ≠ "_" := by simpa using hc.1
     have hagg:nD P f.type=some false:=by
      have:=hc.2
      split at this
      ·assumption
      ·cases this
     split at h
     ·rename_i u v hu hv
      cases hl:oH P f.type u with
      | false=>rw[hl] at h;cases h
      | true =>
        rw[hl] at h
        simp only[cond_true] at h
        split at h
        ·rename_i b' c hb hcc
         cases h
         simp only[Op.eqFields,hname,ne_eq,not_false_eq_true,if_true,Sem.run_bind,u9 hagg hu,u9 hagg hv,Result.andThen_ok,w6 hb hl]
         cases b'
         ·simp
         ·simp only[Bool.not_true,Bool.false_eq_true,if_false,Bool.true_and]
          exact qW d hcc w
        ·cases h
     ·cases h
theorem qX{P:Program}{t:TypeId}{x y:Operand}{xs ys:Array Value}{b:Bool}(ht:P.underlying t=some (.struct (P.fieldsOf t)))(hp:P.stoodInHeld t=false)(hm:P.eqGuardType P.depth t=false)
  (h:oI P xs ys (P.fieldsOf t).toList=some b):cP P .eql t x y (.agg xs) (.agg ys) b:=by
 intro w
 simp only[Sem.run_bind,run_eqGuard_agg (P:=P) w .eql t x y xs ys hm,Result.andThen_ok,run_eql_struct]
 rw[show (10000:Nat)=9998+1+1 from rfl,run_equalIn_struct w (9998+1) t xs ys ht hp,qW 9998 h];rfl
def fV{α:Type}(I:b8)(G:bZ)(z:Nat)(f:α→List Value)(a:Option Addr)(n:Nat)(l:List α):Prop :=
 n=l.length∧(l≠[]→∃ad,a=some ad∧∀(i:Nat) (x:α),l[i]? = some x→Rd I G (ad.add (i*z)) (f x))
theorem Rd.sub{I J:b8}{G H:bZ}{ad:Addr}{cs:List Value}(h:Rd I G ad cs)(hl:b8.le I J)(hs:∀x,x∈G→x∈H):Rd J H ad cs:=by
 obtain⟨h1,cells,e,fz,h2,h3⟩:=h
 exact⟨h1,cells,e,fz,h2.imp (fun h=>hl.at h) (hs _),h3⟩
theorem Sl.zd{α:Type}{I:b8}{z:Nat}{f:α→List Value}{a:Option Addr}{n:Nat}{l:List α}(h:Sl I z f a n l)(G:bZ):fV I G z f a n l :=
 ⟨h.1,fun hne=>let ⟨ad,ha,hr⟩:=h.2 hne;⟨ad,ha,fun i x hx=>hr i x hx G⟩⟩
theorem fV.mono{α:Type}{I J:b8}{G H:bZ}{z:Nat}{f:α→List Value}{a:Option Addr}{n:Nat}{l:List α}(h:fV I G z f a n l)(hl:b8.le I J)(hs:∀x,x∈G→x∈H):fV J H z f a n l :=
 ⟨h.1,fun hne=>let ⟨ad,ha,hr⟩:=h.2 hne;⟨ad,ha,fun i x hx=>(hr i x hx).sub hl hs⟩⟩
theorem fV.at{α:Type}{I:b8}{G:bZ}{z:Nat}{f:α→List Value}{a:Option Addr}{n:Nat}{l:List α}(h:fV I G z f a n l){i:Int}(h0:0≤i)(h1:i<n) :
  ∃ad x,a=some ad∧l[i.toNat]? = some x∧Rd I G (ad.add (Int.toNat i*z)) (f x):=by
 have hlt:i.toNat<l.length:=by have:=h.1;omega
 obtain⟨ad,ha,hr⟩:=h.2 (by intro e;rw[e] at hlt;simp at hlt)
 exact⟨ad,l[i.toNat],ha,by simp[hlt],hr _ _ (by simp[hlt])⟩
theorem fV.CW{α:Type}{I:b8}{G:bZ}{z:Nat}{f:α→List Value}(hz:∀x,(f x).length=z){b e:Nat}{fz:Nat×Nat}{l:List α}{cells:Array Value}(h:(b,Obj.cells cells e fz)∈G)
  (hc:∀k,k<(l.flatMap f).length→cells[k]? = (l.flatMap f)[k]?):fV I G z f (some ⟨b,0,none⟩) l.length l:=by
 refine⟨rfl,fun hne=>⟨_,rfl,fun i x hx=>?_⟩⟩
 have hadd:(⟨b,0,none⟩:Addr).add (i*z)=⟨b,i*z,none⟩:=by unfold Addr.add;split<;>simp_all
 rw[hadd]
 refine⟨rfl,cells,e,fz,.inr h,fun j hj=>?_⟩
 rw[hz] at hj
 have h1:=qV f z hz l i x j hx hj
 have h2:(l.flatMap f)[i*z+j]? ≠ none:=by
  rw[h1];rw[List.getElem?_eq_getElem (by rw[hz];exact hj)];simp
 have hlt:i*z+j<(l.flatMap f).length:=by
  rcases Nat.lt_or_ge (i*z+j) (l.flatMap f).length with h | h
  ·exact h
  ·exact absurd (List.getElem?_eq_none h) h2
 show cells[i*z+j]? = _
 rw[hc _ hlt,h1]
theorem Acc.zd{α:Type}{z:Nat}{f:α→List Value}(hz:∀x,(f x).length=z){e:Nat}{a:Option Addr}{n c:Nat}{l:List α}{A:bZ}(h:Acc z f e a n c l A)(I:b8){G:bZ}(hs:∀x,x∈A→x∈G):fV I G z f a n l:=by
 obtain⟨hn,⟨ha,hc,hl,hA⟩ | ⟨b,cells,ha,hA,hcs,hnc,htk⟩⟩:=h
 ·subst hl hn;exact⟨rfl,fun h=>absurd rfl h⟩
 ·subst ha hA
  rw[hn]
  refine fV.CW hz (hs _ (List.mem_cons_self ..)) fun k hk=>?_
  rw[←htk,List.getElem?_take,if_pos]
  ·simp
  ·rw[iH hz,←hn] at hk;exact hk
theorem Rd.field{I:b8}{G:bZ}{ad:Addr}{cs:List Value}(h:Rd I G ad cs){o:Nat}{v:Value}(hv:cs[o]? = some v):Rd I G (ad.add o) [v]:=by
 obtain⟨h1,cells,e,fz,h2,h3⟩:=h
 have hadd:ad.add o=⟨ad.block,ad.off+o,none⟩:=by
  obtain⟨b,off,sp⟩:=ad
  simp only at h1;subst h1
  unfold Addr.add;split<;>simp_all
 rw[hadd]
 refine⟨rfl,cells,e,fz,h2,fun j hj=>?_⟩
 have:j=0:=by simpa using hj
 subst this
 have hlt:o<cs.length:=by
  rcases Nat.lt_or_ge o cs.length with h | h
  ·exact h
  ·rw[List.getElem?_eq_none h] at hv;cases hv
 show cells[ad.off+o+0]? = _
 rw[Nat.add_zero,h3 o hlt,hv];rfl
abbrev Ck(z:Nat):={ x:List Value // x.length=z }
def cv{z:Nat}(x:Ck z):List Value:=x.val
theorem iI(b i:Nat):(⟨b,0,none⟩:Addr).add i=⟨b,i,none⟩:=by unfold Addr.add;split<;>simp_all
section
open Classical
noncomputable def cn(a:Nat×Obj)(l:bZ):Nat:=l.countP fun x=>decide (x=a)
noncomputable def on(a x:Nat×Obj):Nat:=if x=a then 1 else 0
theorem qY(a:Nat×Obj)(l m:bZ):cn a (l++m)=cn a l+cn a m:=List.countP_append
theorem nU(a x:Nat×Obj)(l:bZ):cn a (x::l)=on a x+cn a l:=by
 unfold cn on;rw[List.countP_cons];simp only[decide_eq_true_eq];omega
theorem tI(a:Nat×Obj):cn a []=0:=rfl
noncomputable def BO:DecidableEq (Nat×Obj):=fun x y=>propDecidable (x=y)
theorem nW{l m:bZ}(h:∀a,cn a l=cn a m):l.Perm m:=by
 refine (@List.perm_iff_count (Nat×Obj) (@instBEqOfDecidableEq _ BO) (@instLawfulBEq _ BO) l m).2 fun a=>?_
 have h1:∀l:bZ,@List.count _ (@instBEqOfDecidableEq _ BO) a l=cn a l:=fun l=>by
  unfold List.count cn
  congr 1
  funext x
  show @decide (x=a) (BO x a)=decide (x=a)
  congr
 rw[h1,h1];exact h a
end
theorem Rd.tJ{I:b8}{b t:Nat}{fz:Nat×Nat}{cells:Array Value}(h:I b=some (.cells cells t fz))(G:bZ)(o:Nat){cs:List Value}(hc:∀j,j<cs.length→cells[o+j]? = cs[j]?):Rd I G (⟨b,o,none⟩:Addr) cs:=⟨rfl,cells,t,fz,.inl h,hc⟩
theorem Rd.tK{I:b8}{b t:Nat}{fz:Nat×Nat}{cells:Array Value}{G:bZ}(h:(b,Obj.cells cells t fz)∈G)(o:Nat){cs:List Value}(hc:∀j,j<cs.length→cells[o+j]? = cs[j]?):Rd I G (⟨b,o,none⟩:Addr) cs:=⟨rfl,cells,t,fz,.inr h,hc⟩
end Go.Vc
namespace Go.Lx
open Go.Vc
def fk(c:Int):Bool:=decide (97≤c)&&decide (c≤122)
def da(c:Int):Bool:=decide (48≤c)&&decide (c≤57)
def cZ(c:Int):Bool:=fk c||da c||(c==95)
def ze(p:Int→Bool)(s:ByteArray):Nat→Int→Int
 | 0,i=>i
 | n+1,i=>if p (bt s i) then ze p s n (i+1) else i
def dX(p:Int→Bool)(s:ByteArray)(i:Int):Int:=ze p s (s.size-i).toNat i
theorem lV{p:Int→Bool}{s:ByteArray}{i:Int}(h:(s.size:Int)≤i):dX p s i=i:=by
 unfold dX;rw[show ((s.size:Int)-i).toNat=0 by omega];rfl
theorem dN{p:Int→Bool}{s:ByteArray}{i:Int}(h:i<(s.size:Int)):dX p s i=if p (bt s i) then dX p s (i+1) else i:=by
 unfold dX
 obtain⟨n,hn⟩:∃n,((s.size:Int)-i).toNat=n+1:=⟨((s.size:Int)-i).toNat-1,by omega⟩
 rw[hn,show ((s.size:Int)-(i+1)).toNat=n by omega];rfl
theorem yx(p:Int→Bool)(s:ByteArray):∀(n:Nat) (i:Int),i≤ze p s n i∧ze p s n i≤i+n
 | 0,i=>by simp[ze]
 | n+1,i=>by
   have:=yx p s n (i+1)
   unfold ze;split<;>omega
theorem lh{p:Int→Bool}{s:ByteArray}{i:Int}(h:i≤(s.size:Int)):i≤dX p s i∧dX p s i≤s.size:=by
 have:=yx p s (s.size-i).toNat i
 unfold dX;omega
def blank(c:Int):Bool:=c==32||c==9||c==10||c==13
def tL(c:Int)(r:Bool):Bool:=if c=35 then true else if c=10 then false else r
def sR(s:ByteArray):Nat→Bool→Int→Int
 | 0,_,i=>i
 | n+1,r,i=>if !(tL (bt s i) r) && !blank (bt s i) then i else sR s n (tL (bt s i) r) (i+1)
def nX(s:ByteArray)(r:Bool)(i:Int):Int:=sR s (s.size-i).toNat r i
def gX(s:ByteArray)(i:Int):Int:=nX s false i
theorem zf{s:ByteArray}{r:Bool}{i:Int}(h:(s.size:Int)≤i):nX s r i=i:=by
 unfold nX;rw[show ((s.size:Int)-i).toNat=0 by omega];rfl
theorem w7{s:ByteArray}{r:Bool}{i:Int}(h:i<(s.size:Int)):nX s r i =
  if !(tL (bt s i) r) && !blank (bt s i) then i else nX s (tL (bt s i) r) (i+1):=by
 unfold nX
 obtain⟨n,hn⟩:∃n,((s.size:Int)-i).toNat=n+1:=⟨((s.size:Int)-i).toNat-1,by omega⟩
 rw[hn,show ((s.size:Int)-(i+1)).toNat=n by omega];rfl
theorem va(s:ByteArray):∀(n:Nat) (r:Bool) (i:Int),i≤sR s n r i∧sR s n r i≤i+n
 | 0,r,i=>by simp[sR]
 | n+1,r,i=>by
   unfold sR
   have:=va s n (tL (bt s i) r) (i+1)
   split<;>omega
theorem oJ{s:ByteArray}{i:Int}(h:i≤(s.size:Int)):i≤gX s i∧gX s i≤s.size:=by
 have:=va s (s.size-i).toNat false i
 unfold gX nX;omega
structure Tok where
 kind:Int
 text:ByteArray
 cp:Int
 n:Int
 pos:Int
inductive TR where
 | ok (t:Tok)
 | bad (e p:Int)
def vd(p:Int):Tok:=⟨0,⟨#[]⟩,0,0,p⟩
def cut(s:ByteArray)(i j:Int):ByteArray:=s.extract i.toNat j.toNat
def db:List ByteArray:=[⟨#[97,98,115]⟩,⟨#[97,109,101,110,100]⟩,⟨#[97,115]⟩,⟨#[97,115,107]⟩,⟨#[97,116]⟩,⟨#[98,105,100]⟩,⟨#[98,111,111,108]⟩,⟨#[98,117,121]⟩,⟨#[99,97,110,99,101,108]⟩,⟨#[100,111]⟩,
 ⟨#[102,97,108,115,101]⟩,⟨#[102,111,107]⟩,⟨#[103,111,116,111]⟩,⟨#[104,97,108,116]⟩,⟨#[104,97,115]⟩,⟨#[105,110,116]⟩,⟨#[105,111,99]⟩,⟨#[108,97,115,116]⟩,⟨#[108,105,109,105,116]⟩,⟨#[109,97,114,107,101,116]⟩,
 ⟨#[109,97,120]⟩,⟨#[109,105,110]⟩,⟨#[110,111,119]⟩,⟨#[111,102]⟩,⟨#[111,112,101,110]⟩,⟨#[112,111,115,116]⟩,⟨#[112,114,105,99,101]⟩,⟨#[113,116,121]⟩,⟨#[114,101,103]⟩,⟨#[115,101,108,108]⟩,⟨#[115,101,116]⟩,
 ⟨#[115,105,100,101]⟩,⟨#[115,108,111,116]⟩,⟨#[115,116,97,116,101]⟩,⟨#[115,116,114,97,116,101,103,121]⟩,⟨#[115,117,98,109,105,116]⟩,⟨#[116,105,109,101]⟩,⟨#[116,111]⟩,⟨#[116,114,117,101]⟩,⟨#[118,111,108,117,109,101]⟩,⟨#[119,104,101,110]⟩]
def lj(t:ByteArray):Bool:=db.any fun w=>w.toList==t.toList
def c5(t:ByteArray):Bool :=
 !(t.toList==[])&&decide ((t.size:Int)≤16)&&fk (bt t 0) && !lj t&&decide (dX cZ t 0=t.size)
def pq(s:ByteArray)(i:Int):TR :=
 let e:=dX cZ s i
 if e-i>16 then .bad 112 i else .ok ⟨if lj (cut s i e) then 1 else 2,cut s i e,0,0,i⟩
def Ay(s:ByteArray):Nat→Int→Int→Int
 | 0,_,v=>v
 | n+1,i,v=>if da (bt s i) then Ay s n (i+1) (10*v+(bt s i-48)) else v
def fW(s:ByteArray)(i v:Int):Int:=Ay s (s.size-i).toNat i v
theorem zg{s:ByteArray}{i v:Int}(h:(s.size:Int)≤i):fW s i v=v:=by
 unfold fW;rw[show ((s.size:Int)-i).toNat=0 by omega];rfl
theorem qZ{s:ByteArray}{i v:Int}(h:i<(s.size:Int)):fW s i v=if da (bt s i) then fW s (i+1) (10*v+(bt s i-48)) else v:=by
 unfold fW
 obtain⟨n,hn⟩:∃n,((s.size:Int)-i).toNat=n+1:=⟨((s.size:Int)-i).toNat-1,by omega⟩
 rw[hn,show ((s.size:Int)-(i+1)).toNat=n by omega];rfl
theorem yy(s:ByteArray):∀(n:Nat) (i v:Int),0≤v→v≤Ay s n i v
 | 0,i,v,_=>by simp[Ay]
 | n+1,i,v,hv=>by
   unfold Ay
   split
   ·rename_i hd
    simp only[da,Bool.and_eq_true,decide_eq_true_eq] at hd
    have:=yy s n (i+1) (10*v+(bt s i-48)) (by omega)
    omega
   ·exact Int.le_refl _
theorem ve{s:ByteArray}{i v:Int}(h:0≤v):v≤fW s i v:=yy s _ i v h
def iJ(c:Int):Int:=if c=116 then 4 else if c=112 then 3 else if c=113 then 2 else 1
def cH(s:ByteArray)(i:Int):Int:=if i<s.size then bt s i else 0
def oK(s:ByteArray)(i:Int):TR :=
 let e:=dX da s i
 let t:=iJ (cH s e)
 let e2:=if t=1 then e else e+1
 if fW s i 0>9223372036854775807∨(e-i>1∧bt s i=48)∨(e2<s.size∧(cZ (bt s e2)=true∨(65≤bt s e2∧bt s e2≤90))) then .bad 113 i
 else .ok ⟨3,cut s i e2,t,fW s i 0,i⟩
def single(c:Int):Bool:=[123,125,40,41,44,59,63,58,43,45,42,47,37].contains c
def iK(s:ByteArray)(i:Int):Int :=
 let c:=bt s i
 let d:=cH s (i+1)
 if single c then 1 else if c=38∨c=124 then (if d=c then 2 else 0) else if c=61∨c=33∨c=60∨c=62 then (if d=61 then 2 else 1) else 0
def pw(s:ByteArray)(i:Int):TR:=if iK s i=0 then .bad 111 i else .ok ⟨4,cut s i (i+iK s i),0,0,i⟩
def pO(s:ByteArray)(f:Int):TR :=
 let i:=gX s f
 if i=s.size then .ok (vd i)
 else if da (bt s i) then oK s i else if fk (bt s i) then pq s i else pw s i
def Tok.v(t:Tok):Value:=.agg #[.int .u8 t.kind,.string t.text,.int .u8 t.cp,.int .i64 t.n,.int .i64 t.pos]
theorem eh{n:Int}(h : -9223372036854775808≤n∧n≤9223372036854775807):IntKind.wrap .i64 n=n:=by
 simp only[IntKind.wrap,IntKind.bits,IntKind.signed];simp;split<;>omega
theorem w8{n:Int}(h:0≤n∧n≤255):IntKind.wrap .u8 n=n:=by
 simp only[IntKind.wrap,IntKind.bits,IntKind.signed];simp;omega
inductive Px where
 | mk (kind oper cp n field:Int) (name:ByteArray) (kids:List Px) (pos:Int)
namespace Px
def kind:Px→Int | .mk k _ _ _ _ _ _ _=>k
def oper:Px→Int | .mk _ o _ _ _ _ _ _=>o
def cp:Px→Int | .mk _ _ t _ _ _ _ _=>t
def n:Px→Int | .mk _ _ _ n _ _ _ _=>n
def field:Px→Int | .mk _ _ _ _ f _ _ _=>f
def name:Px→ByteArray | .mk _ _ _ _ _ s _ _=>s
def kids:Px→List Px | .mk _ _ _ _ _ _ l _=>l
def pos:Px→Int | .mk _ _ _ _ _ _ _ p=>p
theorem ind{p:Px→Prop}(h:∀x:Px,(∀k∈x.kids,p k)→p x):∀x:Px,p x
 | .mk k o t n f s l q=>h _ fun y hy=>ind h y
termination_by x=>SizeOf.sizeOf x
decreasing_by
 have:=List.sizeOf_lt_of_mem (show y∈l from hy)
 simp;omega
end Px
inductive Nd where
 | mk (kind oper cp n field:Int) (name:ByteArray) (a:Option Addr) (c:Nat) (kids:List Nd) (pos:Int)
namespace Nd
def kind:Nd→Int | .mk k _ _ _ _ _ _ _ _ _=>k
def oper:Nd→Int | .mk _ o _ _ _ _ _ _ _ _=>o
def cp:Nd→Int | .mk _ _ t _ _ _ _ _ _ _=>t
def n:Nd→Int | .mk _ _ _ n _ _ _ _ _ _=>n
def field:Nd→Int | .mk _ _ _ _ f _ _ _ _ _=>f
def name:Nd→ByteArray | .mk _ _ _ _ _ s _ _ _ _=>s
def a:Nd→Option Addr | .mk _ _ _ _ _ _ a _ _ _=>a
def c:Nd→Nat | .mk _ _ _ _ _ _ _ c _ _=>c
def kids:Nd→List Nd | .mk _ _ _ _ _ _ _ _ l _=>l
def pos:Nd→Int | .mk _ _ _ _ _ _ _ _ _ p=>p
theorem ind{p:Nd→Prop}(h:∀x:Nd,(∀k∈x.kids,p k)→p x):∀x:Nd,p x
 | .mk k o t n f s a c l q=>h _ fun y hy=>ind h y
termination_by x=>SizeOf.sizeOf x
decreasing_by
 have:=List.sizeOf_lt_of_mem (show y∈l from hy)
 simp;omega
mutual
def px:Nd→Px
 | .mk k o t n f s _ _ l q=>.mk k o t n f s (w9 l) q
def w9:List Nd→List Px
 | []=>[]
 | k::r=>px k::w9 r
end
theorem tM:∀l:List Nd,w9 l=l.map px
 | []=>rfl
 | k::r=>by rw[w9,tM r];rfl
theorem dH(t:Nd):t.px.kids=t.kids.map px:=by cases t;rw[px,←tM];rfl
theorem cQ(t:Nd):t.px.kind=t.kind:=by cases t;rw[px];rfl
theorem ig(t:Nd):t.px.oper=t.oper:=by cases t;rw[px];rfl
theorem jD(t:Nd):t.px.cp=t.cp:=by cases t;rw[px];rfl
theorem zh(t:Nd):t.px.n=t.n:=by cases t;rw[px];rfl
theorem jS(t:Nd):t.px.field=t.field:=by cases t;rw[px];rfl
theorem gE(t:Nd):t.px.name=t.name:=by cases t;rw[px];rfl
theorem tN(t:Nd):t.px.pos=t.pos:=by cases t;rw[px];rfl
theorem gY(t:Nd):t.px.kids.length=t.kids.length:=by rw[dH,List.length_map]
abbrev enc(t:Nd):List Value:=[.int .u8 t.kind,.int .u8 t.oper,.int .u8 t.cp,.int .i64 t.n,.int .u8 t.field,.string t.name,.slice t.a t.kids.length t.c,.int .i64 t.pos]
abbrev v(t:Nd):Value:=.agg #[.int .u8 t.kind,.int .u8 t.oper,.int .u8 t.cp,.int .i64 t.n,.int .u8 t.field,.string t.name,.slice t.a t.kids.length t.c,.int .i64 t.pos]
theorem p5(t:Nd):t.enc.length=8:=rfl
theorem BP(t:Nd):∀u∈t.enc,u.oneCell'=true:=by
 intro u hu
 simp only[enc,List.mem_cons,List.not_mem_nil,or_false] at hu
 rcases hu with h | h | h | h | h | h | h | h<;>(subst h;rfl)
end Nd
inductive cB (I:b8) (G:bZ):Nd→Prop
 | mk {t:Nd}:fV I G 8 Nd.enc t.a t.kids.length t.kids→(∀k∈t.kids,cB I G k)→cB I G t
theorem cB.sl{I:b8}{G:bZ}{t:Nd}(h:cB I G t):fV I G 8 Nd.enc t.a t.kids.length t.kids:=by cases h;assumption
theorem cB.D9{I:b8}{G:bZ}{t:Nd}(h:cB I G t):∀k∈t.kids,cB I G k:=by cases h;assumption
theorem cB.mono{I J:b8}{G H:bZ}{t:Nd}(h:cB I G t)(hl:b8.le I J)(hs:∀x,x∈G→x∈H):cB J H t:=by
 induction h with
 | mk h1 h2 ih=>exact .mk (h1.mono hl hs) ih
def Az(I:b8)(G:bZ)(a:Option Addr)(n:Nat)(l:List Nd):Prop:=fV I G 8 Nd.enc a n l∧∀k∈l,cB I G k
theorem cB.kids{I:b8}{G:bZ}{t:Nd}(h:cB I G t):Az I G t.a t.kids.length t.kids:=⟨h.sl,h.D9⟩
theorem Az.at{I:b8}{G:bZ}{a:Option Addr}{n:Nat}{l:List Nd}(h:Az I G a n l){i:Int}(h0:0≤i)(h1:i<n) :
  ∃ad x,a=some ad∧l[i.toNat]? = some x∧Rd I G (ad.add (Int.toNat i*8)) x.enc∧cB I G x∧x∈l:=by
 obtain⟨ad,x,h2,h3,h4⟩:=h.1.at h0 h1
 exact⟨ad,x,h2,h3,h4,h.2 x (List.mem_of_getElem? h3),List.mem_of_getElem? h3⟩
namespace Px
def arity(x:Px):Nat:=if x.kind=5∨x.kind=9 then 1 else if x.kind=6 then 2 else if x.kind=7 then 3 else if x.kind=8 then (if x.oper=3 then 1 else 2) else 0
def zi(x:Px):Bool:=if x.cp=6 then decide (x.n=1∨x.n=2) else if x.cp=5 then decide (x.n=0∨x.n=1) else if 1≤x.cp∧x.cp≤4 then decide (0≤x.n) else false
def vf(x:Px):Bool :=
 if x.kind=1 then zi x else if x.kind=2 then c5 x.name else if x.kind=3 then decide (1≤x.field∧x.field≤6) else if x.kind=4 then decide (1≤x.field∧x.field≤3)
 else if x.kind=5 then decide (x.oper=1∨x.oper=2) else if x.kind=6 then decide (6≤x.oper∧x.oper≤18) else if x.kind=7 then true
 else if x.kind=8 then decide (3≤x.oper∧x.oper≤5) else if x.kind=9 then decide (1≤x.cp∧x.cp≤4) else false
def AA(x:Px):Bool :=
 (x.oper==0||x.kind==5||x.kind==6||x.kind==8)&&(x.cp==0||x.kind==1||x.kind==9)&&(x.n==0||x.kind==1)&&(x.field==0||x.kind==3||x.kind==4)&&(x.name.toList==[]||x.kind==2)
def fT(x:Px):Bool:=vf x&&AA x&&decide (x.kids.length=arity x)
mutual
def formed:Px→Bool
 | .mk k o t n f s l q=>fT (.mk k o t n f s l q)&&fq l
def fq:List Px→Bool
 | []=>true
 | x::r=>formed x&&fq r
end
theorem dY(x:Px):x.formed=(fT x&&fq x.kids):=by cases x;rw[formed];rfl
def level(x:Px):Int :=
 if x.kind=7 then 1 else if x.kind=5 then 7 else if x.kind=6 then (if x.oper=18 then 2 else if x.oper=17 then 3 else if 11≤x.oper then 4 else if 8≤x.oper then 6 else 5) else 8
def asks(x:Px)(i:Int):Int :=
 if x.kind=7 then (if i=0 then 2 else 1) else if x.kind=5 then 7 else if x.kind=6 then (if level x=4 then 5 else level x+i) else 1
def xb(x k:Px)(i:Int):Int:=(if level k<asks x i then 1 else 0)+(if x.kind=6 then 0 else if x.kind=7 then (if 0<i then 1 else 0) else 1)
mutual
def depth:Px→Int
 | .mk k o t n f s l q=>iL (.mk k o t n f s l q) 0 l 0
def iL(x:Px)(i:Int):List Px→Int→Int
 | [],most=>most
 | y::r,most=>iL x (i+1) r (max most (depth y+xb x y i))
end
theorem vg(x:Px):x.depth=iL x 0 x.kids 0:=by cases x;rw[depth];rfl
mutual
def size:Px→Int
 | .mk _ _ _ _ _ _ l _=>1+dQ l
def dQ:List Px→Int
 | []=>0
 | x::r=>size x+dQ r
end
theorem size_eq(x:Px):x.size=1+dQ x.kids:=by cases x;rw[size];rfl
mutual
def bare:Px→Px
 | .mk k o t n f s l _=>.mk k o t n f s (yz l) 0
def yz:List Px→List Px
 | []=>[]
 | x::r=>bare x::yz r
end
theorem zj:∀l:List Px,yz l=l.map bare
 | []=>rfl
 | x::r=>by rw[yz,zj r];rfl
def BQ(x y:Px):Bool:=x.kind==y.kind&&(x.oper==y.oper&&(x.cp==y.cp&&(x.n==y.n&&(x.field==y.field&&(x.name.toList==y.name.toList&&true)))))
mutual
def kU:Px→Int→Int→Int
 | .mk _ _ _ _ _ s l _,n,d=>if 60000<d then 1048577 else fD l (n+1+s.size) (d+1)
def fD:List Px→Int→Int→Int
 | [],n,_=>n
 | x::r,n,d=>if n≤1048576 then fD r (kU x n d) d else n
end
theorem q8(x:Px)(n d:Int):x.kU n d=if 60000<d then 1048577 else fD x.kids (n+1+x.name.size) (d+1):=by cases x;rw[kU];rfl
mutual
def nodes:Px→List Px
 | .mk k o t n f s l q=>.mk k o t n f s l q::fX l
def fX:List Px→List Px
 | []=>[]
 | x::r=>nodes x++fX r
end
theorem nY(x:Px):x.nodes=x::fX x.kids:=by cases x;rw[nodes];rfl
theorem size_pos:∀x:Px,1≤x.size:=by
 have hL:∀l:List Px,(∀x∈l,1≤size x)→0≤dQ l:=by
  intro l
  induction l with
  | nil=>intro _;exact Int.le_refl _
  | cons x r ih =>
    intro h
    have:=h x (List.mem_cons_self ..)
    have:=ih fun y hy=>h y (List.mem_cons_of_mem _ hy)
    rw[dQ];omega
 refine ind fun x h=>?_
 rw[size_eq]
 have:=hL x.kids h
 omega
theorem eU:∀l:List Px,0≤dQ l
 | []=>Int.le_refl _
 | x::r=>by have:=size_pos x;have:=eU r;rw[dQ];omega
theorem sS{x:Px}:∀{l:List Px},x∈l→x.size≤dQ l
 | [],h=>by cases h
 | y::r,h=>by
   rw[dQ]
   have:=size_pos y
   have:=eU r
   rcases List.mem_cons.1 h with rfl | h
   ·omega
   ·have:=sS h;omega
theorem sT:∀l:List Px,(l.length:Int)≤dQ l
 | []=>Int.le_refl _
 | x::r=>by have:=size_pos x;have:=sT r;rw[dQ,List.length_cons];omega
theorem zk(d:Int):∀(l:List Px),(∀x∈l,∀n d,kU x n d≤1048576→n+size x≤kU x n d)→∀n,fD l n d≤1048576→n+dQ l≤fD l n d:=by
 intro l
 induction l with
 | nil=>intro _ n h;rw[fD] at h ⊢;rw[dQ];omega
 | cons x r ih =>
   intro hx n h
   rw[fD] at h ⊢
   rw[dQ]
   have hr:=ih fun y hy=>hx y (List.mem_cons_of_mem _ hy)
   split at h
   ·rename_i hn
    rw[if_pos hn]
    have h1:=hr _ h
    have h2:=eU r
    have h3:=hx x (List.mem_cons_self ..) n d (by omega)
    omega
   ·omega
theorem xd:∀(x:Px) (n d:Int),kU x n d≤1048576→n+size x≤kU x n d:=by
 refine ind fun x hk n d h=>?_
 rw[q8] at h ⊢
 rw[size_eq]
 split at h
 ·omega
 ·rename_i hd
  rw[if_neg hd]
  have:=zk (d+1) x.kids hk _ h
  omega
theorem zl:∀(x:Px) (n d:Int),0≤n→0≤kU x n d:=by
 have hL:∀(d:Int) (l:List Px),(∀x∈l,∀n d,0≤n→0≤kU x n d)→∀n,0≤n→0≤fD l n d:=by
  intro d l
  induction l with
  | nil=>intro _ n h;rw[fD];exact h
  | cons x r ih =>
    intro hx n h
    rw[fD]
    split
    ·exact ih (fun y hy=>hx y (List.mem_cons_of_mem _ hy)) _ (hx x (List.mem_cons_self ..) n d h)
    ·exact h
 refine ind fun x hk n d h=>?_
 rw[q8]
 split
 ·omega
 ·exact hL _ _ hk _ (by omega)
inductive fE:Px→Prop
 | mk {x:Px}:x.name.size≤140737488351232→x.kids.length≤140737488351232→(∀k∈x.kids,fE k)→fE x
theorem fE.name{x:Px}(h:fE x):x.name.size≤140737488351232:=by cases h;assumption
theorem fE.len{x:Px}(h:fE x):x.kids.length≤140737488351232:=by cases h;assumption
theorem fE.D9{x:Px}(h:fE x):∀k∈x.kids,fE k:=by cases h;assumption
end Px
end Go.Lx
namespace Go.Lx
open Go.Vc Go.Proofs.Tryz
noncomputable abbrev P:Program:=Go.Proofs.Tryz.prog
def fm:List (Nat×List Sh):=[(4,[.one .bool]),(9,[.one .str]),(194,[.one .slc]),(223,[.one (.int .i64),.one .bool])]
def oL.V(c:Int)(I:b8)(F:bZ)(Q:cc)  : Prop:=(Dt (48≤c) (Q (.returned (.bool (decide (c≤57)))) I F) (Q (.returned (.bool false)) I F))
theorem oL.vc{c:Int}{I:b8}{F:bZ}{Q:cc}  (h:oL.V c I F Q):cd P 161 #[.int .u8 c] I F Q :=
 tw (A:=(an [1001] [] fm)) [] func161 h
def oM.V(c:Int)(I:b8)(F:bZ)(Q:cc)  : Prop:=(Dt (97≤c) (Q (.returned (.bool (decide (c≤122)))) I F) (Q (.returned (.bool false)) I F))
theorem oM.vc{c:Int}{I:b8}{F:bZ}{Q:cc}  (h:oM.V c I F Q):cd P 147 #[.int .u8 c] I F Q :=
 tw (A:=(an [1001] [] fm)) [] func147 h
def lW.V(vt:Bool→Value)(c:Int)(I:b8)(F:bZ)(Q:cc)  : Prop:=cJ P 147 #[.int .u8 c] I (·) F vt fun r I1 F1=>(It r (Q (.returned (vt true)) I1 F1) (cJ P 161 #[.int .u8 c] I1 (·) F1 vt fun r1 I2 F2=>(It r1 (Q (.returned (vt true)) I2 F2) (Q (.returned (vt (c==95))) I2 F2))))
theorem lW.vc{c:Int}{I:b8}{F:bZ}{Q:cc}  (h:lW.V .bool c I F Q):cd P 149 #[.int .u8 c] I F Q :=
 tw (A:=(an [1001,1004] [147,161] fm)) [147,161] func149 h
def oN.V(vs:Bs→Value)(I:b8)(F:bZ)(Q:cc)  : Prop:=∀(b:Nat) (I1:b8),b8.le I I1→I1 b=some (Obj.cells #[vs (⟨#[97,98,115]⟩:Bs),vs (⟨#[97,109,101,110,100]⟩:Bs),vs (⟨#[97,115]⟩:Bs),vs (⟨#[97,115,107]⟩:Bs),vs (⟨#[97,116]⟩:Bs),vs (⟨#[98,105,100]⟩:Bs),vs (⟨#[98,111,111,108]⟩:Bs),vs (⟨#[98,117,121]⟩:Bs),vs (⟨#[99,97,110,99,101,108]⟩:Bs),vs (⟨#[100,111]⟩:Bs),vs (⟨#[102,97,108,115,101]⟩:Bs),vs (⟨#[102,111,107]⟩:Bs),vs (⟨#[103,111,116,111]⟩:Bs),vs (⟨#[104,97,108,116]⟩:Bs),vs (⟨#[104,97,115]⟩:Bs),vs (⟨#[105,110,116]⟩:Bs),vs (⟨#[105,111,99]⟩:Bs),vs (⟨#[108,97,115,116]⟩:Bs),vs (⟨#[108,105,109,105,116]⟩:Bs),vs (⟨#[109,97,114,107,101,116]⟩:Bs),vs (⟨#[109,97,120]⟩:Bs),vs (⟨#[109,105,110]⟩:Bs),vs (⟨#[110,111,119]⟩:Bs),vs (⟨#[111,102]⟩:Bs),vs (⟨#[111,112,101,110]⟩:Bs),vs (⟨#[112,111,115,116]⟩:Bs),vs (⟨#[112,114,105,99,101]⟩:Bs),vs (⟨#[113,116,121]⟩:Bs),vs (⟨#[114,101,103]⟩:Bs),vs (⟨#[115,101,108,108]⟩:Bs),vs (⟨#[115,101,116]⟩:Bs),vs (⟨#[115,105,100,101]⟩:Bs),vs (⟨#[115,108,111,116]⟩:Bs),vs (⟨#[115,116,97,116,101]⟩:Bs),vs (⟨#[115,116,114,97,116,101,103,121]⟩:Bs),vs (⟨#[115,117,98,109,105,116]⟩:Bs),vs (⟨#[116,105,109,101]⟩:Bs),vs (⟨#[116,111]⟩:Bs),vs (⟨#[116,114,117,101]⟩:Bs),vs (⟨#[118,111,108,117,109,101]⟩:Bs),vs (⟨#[119,104,101,110]⟩:Bs)] 9 (0,0))→Q (.returned (.slice (some ⟨b,0,none⟩) 41 41)) I1 (F)
theorem oN.vc  {I:b8}{F:bZ}{Q:cc}  (h:oN.V .string I F Q):cd P 160 #[] I F Q :=
 tw (A:=(cO [] [] [] fm [] [1000] [] [] [] [] [])) [] func160 h
def lY.V(x:Bs)(I:b8)(F:bZ)(Q:cc)  : Prop:=Q (.returned (.bool (!(x.toList==x.toList)))) I (F)
theorem lY.vc{x:Bs}{I:b8}{F:bZ}{Q:cc}  (h:lY.V x I F Q):cd P 171 #[.string x] I F Q :=
 tw (A:=(an [] [] fm)) [] func171 h
def nZ.V(vt:Bool→Value)(x y:Bs)(I:b8)(F:bZ)(Q:cc)  : Prop:=cJ P 171 #[.string x] I (·) F vt fun r I1 F1=>(It r (cJ P 171 #[.string y] I1 (·) F1 vt fun r1 I2 F2=>(It (!r1) (Q (.returned (vt true)) I2 F2) (Q (.returned (vt (Op.bytesLess x.toList y.toList))) I2 F2))) (Q (.returned (vt (Op.bytesLess x.toList y.toList))) I1 F1))
theorem nZ.vc{x y:Bs}{I:b8}{F:bZ}{Q:cc}  (h:nZ.V .bool x y I F Q):cd P 166 #[.string x,.string y] I F Q :=
 tw (A:=(an [1001,1005] [171] fm)) [171] func166 h
def ij.V(x:Bs)(I:b8)(F:bZ)(Q:cc)  : Prop:=Q (.returned (.bool (!(x.toList==x.toList)))) I (F)
theorem ij.vc{x:Bs}{I:b8}{F:bZ}{Q:cc}  (h:ij.V x I F Q):cd P 167 #[.string x] I F Q :=
 tw (A:=(an [] [] fm)) [] func167 h
def dT.V(vi:Int→Value)(vs:Bs→Value)(vt:Bool→Value)(wr:Int→Int)(c:OA)(b f:Nat)(a:Bs)(I:b8)(F:bZ)(Q:cc)(Inv8:Int→Int→Nat→b8→bZ→Prop):Prop:=(∃m:Nat,Inv8 0 (b:Int) m I F)∧∀(i j:Int) (m1:Nat) (I1:b8) (F1:bZ),b8.le I I1→Inv8 i j m1 I1 F1→(Dt (i<j) ((0≤(wr (Int.fdiv (IntKind.wrap .u64 (wr (i+j))) (2 ^ 1)))∧(wr (Int.fdiv (IntKind.wrap .u64 (wr (i+j))) (2 ^ 1)))<(b:Int))∧∃ad:Addr,c=some ad∧∃(m2:Bs),Rd I1 F1 (ad.add (Int.toNat (wr (Int.fdiv (IntKind.wrap .u64 (wr (i+j))) (2 ^ 1)))*1)) [vs m2]∧cJ P 166 #[vs m2,vs a] I1 (·) F1 vt fun r I2 F2=>(It r (∃m3:Nat,m3<m1∧Inv8 (wr ((wr (Int.fdiv (IntKind.wrap .u64 (wr (i+j))) (2 ^ 1)))+1)) j m3 I2 F2) (∃m4:Nat,m4<m1∧Inv8 i (wr (Int.fdiv (IntKind.wrap .u64 (wr (i+j))) (2 ^ 1))) m4 I2 F2))) (Dt (i<(b:Int)) ((0≤i∧i<(b:Int))∧∃d:Addr,c=some d∧∃(m5:Bs),Rd I1 F1 (d.add (Int.toNat i*1)) [vs m5]∧(It (m5.toList==a.toList) (Q (.returned (.tuple #[vi i,vt true])) I1 F1) ((0≤i∧i<(b:Int))∧∃e:Addr,c=some e∧∃(m6:Bs),Rd I1 F1 (e.add (Int.toNat i*1)) [vs m6]∧cJ P 167 #[vs m6] I1 (·) F1 vt fun r1 I3 F3=>(It r1 (cJ P 167 #[vs a] I3 (·) F3 vt fun r2 I4 F4=>Q (.returned (.tuple #[vi i,vt r2])) I4 F4) (Q (.returned (.tuple #[vi i,vt false])) I3 F3))))) (Q (.returned (.tuple #[vi i,vt false])) I1 F1)))
theorem dT.vc{b:OA}{c d:Nat}{a:Bs}{I:b8}{F:bZ}{Q:cc}(Inv8:Int→Int→Nat→b8→bZ→Prop)(h:dT.V (.int .i64) .string .bool (IntKind.wrap .i64) b c d a I F Q Inv8):cd P 159 #[.slice b c d,.string a] I F Q :=
 tw (A:=(cO [3002,5005,8003,8010,8016] [] [166,167] fm [(8,⟨[(7,(.int .i64)),(8,(.int .i64))],[],fun _ _ _ vs m I F=>match vs with | [.int _ y0,.int _ y1]=>Inv8 y0 y1 m I F | _=>False,[],[]⟩)] [] [] [] [] [] [])) [166,167] func159 h
def oc.V(s:Bs)(I:b8)(F:bZ)(Q:cc)  : Prop:=de P 160 #[] I (·) F fun e1 I1 G1=>∃(a:OA) (b c:Nat),e1=.returned (.slice a b c)∧G1 fun F1=>de P 159 #[.slice a b c,.string s] I1 (·) F1 fun e2 I2 G2=>∃(r0:Int) (r1:Bool),e2=.returned (.tuple #[.int .i64 r0,.bool r1])∧G2 fun F2=>Q (.returned (.bool r1)) I2 (F2)
theorem oc.vc{s:Bs}{I:b8}{F:bZ}{Q:cc}  (h:oc.V s I F Q):cd P 148 #[.string s] I F Q :=
 tw (A:=(an [] [159,160] fm)) [159,160] func148 h
def od.V(vt:Bool→Value)(s:Bs)(I:b8)(F:bZ)(Q:cc)(Inv14:Bool→Int→Nat→b8→bZ→Prop):Prop:=(It (s.toList==(⟨#[]⟩:Bs).toList) (Q (.returned (vt false)) I F) (Dt ((s.size:Int)>16) (Q (.returned (vt false)) I F) ((0≤(0:Int)∧(0:Int)<(s.size:Int))∧cJ P 147 (#[.int .u8 (bt s 0)]) I (·) F vt fun r I1 F1=>(It (!r) (Q (.returned (vt false)) I1 F1) (cJ P 148 #[.string s] I1 (·) F1 vt fun r1 I2 F2=>(It r1 (Q (.returned (vt false)) I2 F2) ((∃m:Nat,Inv14 false 0 m I2 F2)∧∀(x:Bool) (x1:Int) (m1:Nat) (I3:b8) (F3:bZ),b8.le I2 I3→Inv14 x x1 m1 I3 F3→(Dt (x1<(s.size:Int)) ((0≤x1∧x1<(s.size:Int))∧cJ P 149 (#[.int .u8 (bt s x1)]) I3 (·) F3 vt fun r2 I4 F4=>(It (!r2) (Q (.returned (vt false)) I4 F4) (∃m2:Nat,m2<m1∧Inv14 x (IntKind.wrap .i64 (x1+1)) m2 I4 F4))) (Q (.returned (vt true)) I3 F3)))))))))
theorem od.vc{s:Bs}{I:b8}{F:bZ}{Q:cc}(Inv14:Bool→Int→Nat→b8→bZ→Prop)(h:od.V .bool s I F Q Inv14):cd P 126 #[.string s] I F Q :=
 tw (A:=(cO [1001,1005,1011,1015,4000,6004] [] [147,148,149] fm [(14,⟨[(2,.bool),(23,(.int .i64))],[],fun _ _ _ vs m I F=>match vs with | [.bool y0,.int _ y1]=>Inv14 y0 y1 m I F | _=>False,[],[]⟩)] [] [] [] [] [] [])) [147,148,149] func126 h
def kh.V(c:Int)(I:b8)(F:bZ)(Q:cc)  : Prop:=(Dt (c≥97) (Q (.returned (.bool (decide (c≤122)))) I F) (Q (.returned (.bool false)) I F))
theorem kh.vc{c:Int}{I:b8}{F:bZ}{Q:cc}  (h:kh.V c I F Q):cd P 101 #[.int .u8 c] I F Q :=
 tw (A:=(an [1001] [] fm)) [] func101 h
def ll.V(c:Int)(I:b8)(F:bZ)(Q:cc)  : Prop:=(Dt (c≥48) (Q (.returned (.bool (decide (c≤57)))) I F) (Q (.returned (.bool false)) I F))
theorem ll.vc{c:Int}{I:b8}{F:bZ}{Q:cc}  (h:ll.V c I F Q):cd P 131 #[.int .u8 c] I F Q :=
 tw (A:=(an [1001] [] fm)) [] func131 h
def ki.V(vt:Bool→Value)(c:Int)(I:b8)(F:bZ)(Q:cc)  : Prop:=cJ P 101 #[.int .u8 c] I (·) F vt fun r I1 F1=>(It r (Q (.returned (vt true)) I1 F1) (cJ P 131 #[.int .u8 c] I1 (·) F1 vt fun r1 I2 F2=>(It r1 (Q (.returned (vt true)) I2 F2) (Q (.returned (vt (c==95))) I2 F2))))
theorem ki.vc{c:Int}{I:b8}{F:bZ}{Q:cc}  (h:ki.V .bool c I F Q):cd P 102 #[.int .u8 c] I F Q :=
 tw (A:=(an [1001,1004] [101,131] fm)) [101,131] func102 h
def ln.V(vs:Bs→Value)(I:b8)(F:bZ)(Q:cc)  : Prop:=∀(b:Nat) (I1:b8),b8.le I I1→I1 b=some (Obj.cells #[vs (⟨#[97,98,115]⟩:Bs),vs (⟨#[97,109,101,110,100]⟩:Bs),vs (⟨#[97,115]⟩:Bs),vs (⟨#[97,115,107]⟩:Bs),vs (⟨#[97,116]⟩:Bs),vs (⟨#[98,105,100]⟩:Bs),vs (⟨#[98,111,111,108]⟩:Bs),vs (⟨#[98,117,121]⟩:Bs),vs (⟨#[99,97,110,99,101,108]⟩:Bs),vs (⟨#[100,111]⟩:Bs),vs (⟨#[102,97,108,115,101]⟩:Bs),vs (⟨#[102,111,107]⟩:Bs),vs (⟨#[103,111,116,111]⟩:Bs),vs (⟨#[104,97,108,116]⟩:Bs),vs (⟨#[104,97,115]⟩:Bs),vs (⟨#[105,110,116]⟩:Bs),vs (⟨#[105,111,99]⟩:Bs),vs (⟨#[108,97,115,116]⟩:Bs),vs (⟨#[108,105,109,105,116]⟩:Bs),vs (⟨#[109,97,114,107,101,116]⟩:Bs),vs (⟨#[109,97,120]⟩:Bs),vs (⟨#[109,105,110]⟩:Bs),vs (⟨#[110,111,119]⟩:Bs),vs (⟨#[111,102]⟩:Bs),vs (⟨#[111,112,101,110]⟩:Bs),vs (⟨#[112,111,115,116]⟩:Bs),vs (⟨#[112,114,105,99,101]⟩:Bs),vs (⟨#[113,116,121]⟩:Bs),vs (⟨#[114,101,103]⟩:Bs),vs (⟨#[115,101,108,108]⟩:Bs),vs (⟨#[115,101,116]⟩:Bs),vs (⟨#[115,105,100,101]⟩:Bs),vs (⟨#[115,108,111,116]⟩:Bs),vs (⟨#[115,116,97,116,101]⟩:Bs),vs (⟨#[115,116,114,97,116,101,103,121]⟩:Bs),vs (⟨#[115,117,98,109,105,116]⟩:Bs),vs (⟨#[116,105,109,101]⟩:Bs),vs (⟨#[116,111]⟩:Bs),vs (⟨#[116,114,117,101]⟩:Bs),vs (⟨#[118,111,108,117,109,101]⟩:Bs),vs (⟨#[119,104,101,110]⟩:Bs)] 9 (0,0))→Q (.returned (.slice (some ⟨b,0,none⟩) 41 41)) I1 (F)
theorem ln.vc  {I:b8}{F:bZ}{Q:cc}  (h:ln.V .string I F Q):cd P 130 #[] I F Q :=
 tw (A:=(cO [] [] [] fm [] [1000] [] [] [] [] [])) [] func130 h
def kj.V(s:Bs)(I:b8)(F:bZ)(Q:cc)(Inv8:Bool→Int→Nat→b8→bZ→Prop):Prop:=de P 130 #[] I (·) F fun e1 I1 G1=>∃(b:OA) (a c:Nat),e1=.returned (.slice b a c)∧G1 fun F1=>(∃m:Nat,Inv8 false 0 m I1 F1)∧∀(x:Bool) (i:Int) (m1:Nat) (I2:b8) (F2:bZ),b8.le I1 I2→Inv8 x i m1 I2 F2→(Dt (i<(a:Int)) ((0≤i∧i<(a:Int))∧∃ad:Addr,b=some ad∧∃(m2:Bs),Rd I2 F2 (ad.add (Int.toNat i*1)) [.string m2]∧(It (m2.toList==s.toList) (Q (.returned (.bool true)) I2 F2) (∃m3:Nat,m3<m1∧Inv8 x (IntKind.wrap .i64 (i+1)) m3 I2 F2))) (Q (.returned (.bool false)) I2 F2))
theorem kj.vc{s:Bs}{I:b8}{F:bZ}{Q:cc}(Inv8:Bool→Int→Nat→b8→bZ→Prop)(h:kj.V s I F Q Inv8):cd P 100 #[.string s] I F Q :=
 tw (A:=(cO [3003,5005] [] [130] fm [(8,⟨[(2,.bool),(4,(.int .i64))],[],fun _ _ _ vs m I F=>match vs with | [.bool y0,.int _ y1]=>Inv8 y0 y1 m I F | _=>False,[],[]⟩)] [] [] [] [] [] [])) [130] func100 h
def kk.V(vt:Bool→Value)(s:Bs)(I:b8)(F:bZ)(Q:cc)(Inv16:Bool→Int→Nat→b8→bZ→Prop):Prop:=cJ P 100 #[.string s] I (·) F vt fun r I1 F1=>(It r (Q (.returned (vt false)) I1 F1) (Dt ((s.size:Int)<1) (Q (.returned (vt false)) I1 F1) (Dt ((s.size:Int)>16) (Q (.returned (vt false)) I1 F1) ((0≤(0:Int)∧(0:Int)<(s.size:Int))∧cJ P 101 (#[.int .u8 (bt s 0)]) I1 (·) F1 vt fun r1 I2 F2=>(It (!r1) (Q (.returned (vt false)) I2 F2) ((∃m:Nat,Inv16 false 0 m I2 F2)∧∀(x:Bool) (i:Int) (m1:Nat) (I3:b8) (F3:bZ),b8.le I2 I3→Inv16 x i m1 I3 F3→(Dt (i<(s.size:Int)) ((0≤i∧i<(s.size:Int))∧cJ P 102 (#[.int .u8 (bt s i)]) I3 (·) F3 vt fun r2 I4 F4=>(It (!r2) (Q (.returned (vt false)) I4 F4) (∃m2:Nat,m2<m1∧Inv16 x (IntKind.wrap .i64 (i+1)) m2 I4 F4))) (Q (.returned (vt true)) I3 F3))))))))
theorem kk.vc{s:Bs}{I:b8}{F:bZ}{Q:cc}(Inv16:Bool→Int→Nat→b8→bZ→Prop)(h:kk.V .bool s I F Q Inv16):cd P 61 #[.string s] I F Q :=
 tw (A:=(cO [2000,2004,2009,2015,5003,7004] [] [100,101,102] fm [(16,⟨[(2,.bool),(4,(.int .i64))],[],fun _ _ _ vs m I F=>match vs with | [.bool y0,.int _ y1]=>Inv16 y0 y1 m I F | _=>False,[],[]⟩)] [] [] [] [] [] [])) [100,101,102] func61 h
end Go.Lx
namespace Go.Lx
open Go.Vc
def gq(v:Value)(F:bZ)(e:Ending)(I:b8)(G:bZ):Prop:=e=.returned v∧G=F
theorem cd.ret{Pr:Program}{f:FuncId}{args:Array Value}{I:b8}{F:bZ}{v:Value}{Q:Ending→b8→bZ→Prop}(h:cd Pr f args I F (gq v F))
  (k:∀I',b8.le I I'→Q (.returned v) I' F):cd Pr f args I F Q :=
 h.mono fun e I' G hl ⟨he,hG⟩=>by subst he;subst hG;exact k I' hl
theorem xe(c:Int)(I:b8)(F:bZ):cd P 161 #[.int .u8 c] I F (gq (.bool (da c)) F):=by
 refine oL.vc ⟨fun h=>⟨?_,rfl⟩,fun h=>⟨?_,rfl⟩⟩<;>simp[da,h]
theorem rb(c:Int)(I:b8)(F:bZ):cd P 147 #[.int .u8 c] I F (gq (.bool (fk c)) F):=by
 refine oM.vc ⟨fun h=>⟨?_,rfl⟩,fun h=>⟨?_,rfl⟩⟩<;>simp[fk,h]
theorem xf(c:Int)(I:b8)(F:bZ):cd P 149 #[.int .u8 c] I F (gq (.bool (cZ c)) F):=by
 refine lW.vc ?_
 unfold lW.V
 refine cd.ret (rb c I F) fun I1 h1=>⟨_,rfl,F,.refl _,fun hs=>⟨?_,rfl⟩,fun hs=>?_⟩
 ·simp[cZ,hs]
 ·refine cd.ret (xe c I1 F) fun I2 h2=>⟨_,rfl,F,.refl _,fun hd=>⟨?_,rfl⟩,fun hd=>⟨?_,rfl⟩⟩
  ·simp[cZ,hd]
  ·simp[cZ,hs,hd]
def hU(s:ByteArray):Prop:=s.size≤140737488351232
def re(x:ByteArray):List Value:=[.string x]
theorem xg(I:b8)(F:bZ):cd P 160 #[] I F fun e I' G=>∃b:Nat,e=.returned (.slice (some ⟨b,0,none⟩) 41 41)∧Sl I' 1 re (some ⟨b,0,none⟩) 41 db∧G=F:=by
 refine oN.vc fun b I1 hI hb=>⟨b,rfl, ?_,rfl⟩
 exact Sl.jR (f:=re) (z:=1) (l:=db) (fun _=>rfl) hb (by kernel_rfl)
theorem xh(x:ByteArray)(I:b8)(F:bZ):cd P 171 #[.string x] I F (gq (.bool false) F):=by
 refine lY.vc ?_
 unfold lY.V
 exact⟨by simp,rfl⟩
theorem vh(x:ByteArray)(I:b8)(F:bZ):cd P 167 #[.string x] I F (gq (.bool false) F):=by
 refine ij.vc ?_
 unfold ij.V
 exact⟨by simp,rfl⟩
theorem zm(x y:ByteArray)(I:b8)(F:bZ):cd P 166 #[.string x,.string y] I F (gq (.bool (Op.bytesLess x.toList y.toList)) F):=by
 refine nZ.vc ?_
 unfold nZ.V
 exact cd.ret (xh x I F) fun I1 h1=>⟨_,rfl,F,.refl _,fun h=>by (cases h),fun _=>⟨rfl,rfl⟩⟩
theorem nh:∀{a b c:List UInt8},Op.bytesLess a b=true→Op.bytesLess b c=true→Op.bytesLess a c=true
 | a,b,[],_,h=>by cases b<;>simp[Op.bytesLess] at h
 | [],b,z::c,_,_=>rfl
 | x::a,[],z::c,h,_=>by simp[Op.bytesLess] at h
 | x::a,y::b,z::c,h1,h2=>by
   simp only[Op.bytesLess,Bool.or_eq_true,Bool.and_eq_true,decide_eq_true_eq,beq_iff_eq] at h1 h2 ⊢
   rcases h1 with h1 | ⟨rfl,h1⟩
   ·rcases h2 with h2 | ⟨rfl,h2⟩
    ·exact .inl (UInt8.lt_trans h1 h2)
    ·exact .inl h1
   ·rcases h2 with h2 | ⟨rfl,h2⟩
    ·exact .inl h2
    ·exact .inr ⟨rfl,nh h1 h2⟩
def mM(x y:ByteArray):Bool:=Op.bytesLess x.toList y.toList
theorem tP:∀i j:Fin 41,i<j→mM (db[i]'(by simp[db])) (db[j]'(by simp[db]))=true:=by decide +kernel
theorem xi:∀i:Fin 41,mM (db[i]'(by simp[db])) (db[i]'(by simp[db]))=false:=by decide +kernel
theorem rf{i j:Nat}{x y:ByteArray}(h:i<j)(hx:db[i]? = some x)(hy:db[j]? = some y):mM x y=true:=by
 have hj:j<41:=by
  rcases Nat.lt_or_ge j db.length with h | h
  ·exact h
  ·simp[List.getElem?_eq_none h] at hy
 have:=tP ⟨i,by omega⟩ ⟨j,hj⟩ h
 rw[List.getElem?_eq_getElem (by show i<41;omega)] at hx
 rw[List.getElem?_eq_getElem (by show j<41;omega)] at hy
 cases hx;cases hy;exact this
theorem zn{i:Nat}{x:ByteArray}(hx:db[i]? = some x):mM x x=false:=by
 have hj:i<41:=by
  rcases Nat.lt_or_ge i db.length with h | h
  ·exact h
  ·simp[List.getElem?_eq_none h] at hx
 have:=xi ⟨i,hj⟩
 rw[List.getElem?_eq_getElem (by show i<41;omega)] at hx
 cases hx;exact this
theorem BR{n:Int}(h:0≤n∧n≤18446744073709551615):IntKind.wrap .u64 n=n:=by
 simp only[IntKind.wrap,IntKind.bits,IntKind.signed];simp;omega
theorem CX{i j:Int}(h0:0≤i)(h:i<j)(hj:j≤41):IntKind.wrap .i64 (Int.fdiv (IntKind.wrap .u64 (IntKind.wrap .i64 (i+j))) (2 ^ 1))=(i+j) / 2:=by
 rw[eh (n:=i+j) (by omega),BR (n:=i+j) (by omega),Int.fdiv_eq_ediv_of_nonneg _ (by decide)]
 rw[show ((2:Int) ^ 1)=2 by rfl,eh (by omega)]
theorem vj{a:Option Addr}{c:Nat}{t:ByteArray}{I:b8}(hS:Sl I 1 re a 41 db)(F:bZ) :
  cd P 159 #[.slice a 41 c,.string t] I F fun e I' G=>∃i:Int,e=.returned (.tuple #[.int .i64 i,.bool (lj t)])∧G=F:=by
 refine dT.vc (fun i j m I' F'=>0≤i∧i≤j∧j≤41∧m=(j-i).toNat∧(∀(k:Nat) (x:ByteArray),db[k]? = some x→(k:Int)<i→mM x t=true) ∧
  (∀(k:Nat) (x:ByteArray),db[k]? = some x→j≤k→mM x t=false)∧F'=F) ?_
 unfold dT.V
 refine⟨⟨_,by omega,by decide,by decide,rfl,fun k x _ h=>by omega,fun k x hx h=>?_,rfl⟩,fun i j m I1 F1 hI ⟨g0,g1,g2,gm,gl,gr,gF⟩=>⟨fun hlt=>?_,fun hlt=>?_⟩⟩
 ·have:db.length=41:=rfl
  simp[List.getElem?_eq_none (l:=db) (i:=k) (by omega)] at hx
 ·have hlt:i<j:=by simpa using hlt
  subst gF
  have hS1:=hS.mono hI
  have hmid:=CX g0 hlt g2
  generalize IntKind.wrap .i64 (Int.fdiv (IntKind.wrap .u64 (IntKind.wrap .i64 (i+j))) (2 ^ 1))=h at hmid ⊢
  obtain⟨ad,x,ha,hx,hrd⟩:=hS1.at (i:=h) (by omega) (by omega)
  refine⟨⟨by omega,by show h<41;omega⟩,ad,ha,x,hrd F1, ?_⟩
  refine cd.ret (zm x t I1 F1) fun I2 h2=>⟨_,rfl,F1,.refl _,fun hc=>?_,fun hc=>?_⟩
  ·rw[eh (by omega)]
   refine⟨(j-(h+1)).toNat,by omega,by omega,by omega,g2,rfl,fun k y hy hk=>?_,gr,rfl⟩
   by_cases hkh:k=h.toNat
   ·subst hkh;rw[hx] at hy;cases hy;exact hc
   ·exact nh (rf (by omega) hy hx) hc
  ·refine⟨(h-i).toNat,by omega,g0,by omega,by omega,rfl,gl,fun k y hy hk=>?_,rfl⟩
   by_cases hkh:k=h.toNat
   ·subst hkh;rw[hx] at hy;cases hy;exact hc
   ·cases hlk:mM y t with
    | false=>rfl
    | true=>have:=nh (rf (i:=h.toNat) (by omega) hx hy) hlk;rw[hc] at this;cases this
 ·have hlt:¬i<j:=by simpa using hlt
  have hij:i=j:=by omega
  subst hij
  subst gF
  have hS1:=hS.mono hI
  have no:(∀(k:Nat) (x:ByteArray),db[k]? = some x→(k:Int)=i→(x.toList==t.toList)=false)→lj t=false:=by
   intro hi
   unfold lj
   rw[List.any_eq_false]
   intro x hx
   obtain⟨k,hk⟩:=List.mem_iff_getElem?.1 hx
   intro he
   have he':x.toList=t.toList:=by simpa using he
   have hirr:=zn hk
   unfold mM at hirr
   rcases Int.lt_or_le (k:Int) i with h | h
   ·have:=gl k x hk h
    unfold mM at this
    rw[←he',hirr] at this;cases this
   ·rcases Int.lt_or_eq_of_le h with h' | h'
    ·obtain⟨ad,y,ha,hy,hrd⟩:=hS1.at (i:=i) g0 (by
      have:k<41:=by
       rcases Nat.lt_or_ge k db.length with h | h
       ·exact h
       ·simp[List.getElem?_eq_none h] at hk
      show i<41
      omega)
     have h1:=rf (i:=i.toNat) (j:=k) (by omega) hy hk
     have h2:=gr i.toNat y hy (by omega)
     unfold mM at h1 h2
     rw[he',h2] at h1;cases h1
    ·rw[hi k x hk h'.symm] at he;cases he
  refine⟨fun hlt=>?_,fun hlt=>?_⟩
  ·have hlt:i<41:=by simpa using hlt
   obtain⟨ad,x,ha,hx,hrd⟩:=hS1.at (i:=i) g0 (by exact hlt)
   refine⟨⟨g0,hlt⟩,ad,ha,x,hrd F1,fun he=>?_,fun he=>?_⟩
   ·refine⟨i, ?_,rfl⟩
    have:lj t=true:=by
     unfold lj
     exact List.any_eq_true.2 ⟨x,List.mem_of_getElem? hx,he⟩
    rw[this]
   ·have hno:=no fun k y hk hki=>by
     have:k=i.toNat:=by omega
     subst this
     rw[hx] at hk;cases hk;exact he
    refine⟨⟨g0,hlt⟩,ad,ha,x,hrd F1, ?_⟩
    refine cd.ret (vh x I1 F1) fun I2 h2=>⟨_,rfl,F1,.refl _,fun h=>by (cases h),fun _=>⟨i, ?_,rfl⟩⟩
    rw[hno]
  ·have hlt:¬i<41:=by simpa using hlt
   refine⟨i, ?_,rfl⟩
   rw[no fun k y hk hki=>by
    have:db.length=41:=rfl
    simp[List.getElem?_eq_none (l:=db) (i:=k) (by omega)] at hk]
theorem zo(t:ByteArray)(I:b8)(F:bZ):cd P 148 #[.string t] I F (gq (.bool (lj t)) F):=by
 refine oc.vc ?_
 unfold oc.V
 refine (xg I F).mono fun e I1 G hI ⟨b,he,hS,hG⟩=>?_
 subst hG
 refine⟨_,_,_,he,_,.refl _, ?_⟩
 refine (vj hS G).mono fun e I2 G2 hI2 ⟨i,he,hG⟩=>?_
 subst hG
 exact⟨_,_,he,_,.refl _,rfl,rfl⟩
theorem kl(c:Int)(I:b8)(F:bZ):cd P 101 #[.int .u8 c] I F (gq (.bool (fk c)) F):=by
 refine kh.vc ⟨fun h=>⟨?_,rfl⟩,fun h=>⟨?_,rfl⟩⟩<;>simp_all [fk]<;>omega
theorem lp(c:Int)(I:b8)(F:bZ):cd P 131 #[.int .u8 c] I F (gq (.bool (da c)) F):=by
 refine ll.vc ⟨fun h=>⟨?_,rfl⟩,fun h=>⟨?_,rfl⟩⟩<;>simp_all [da]<;>omega
theorem ni(c:Int)(I:b8)(F:bZ):cd P 102 #[.int .u8 c] I F (gq (.bool (cZ c)) F):=by
 refine ki.vc ?_
 unfold ki.V
 refine cd.ret (kl c I F) fun I1 h1=>⟨_,rfl,F,.refl _,fun hs=>⟨?_,rfl⟩,fun hs=>?_⟩
 ·simp[cZ,hs]
 ·refine cd.ret (lp c I1 F) fun I2 h2=>⟨_,rfl,F,.refl _,fun hd=>⟨?_,rfl⟩,fun hd=>⟨?_,rfl⟩⟩
  ·simp[cZ,hd]
  ·simp[cZ,hs,hd]
theorem vk(I:b8)(F:bZ):cd P 130 #[] I F fun e I' G=>∃b:Nat,e=.returned (.slice (some ⟨b,0,none⟩) 41 41)∧Sl I' 1 re (some ⟨b,0,none⟩) 41 db∧G=F:=by
 refine ln.vc fun b I1 hI hb=>⟨b,rfl, ?_,rfl⟩
 exact Sl.jR (f:=re) (z:=1) (l:=db) (fun _=>rfl) hb (by kernel_rfl)
theorem AB{α:Type}{l:List α}{p:α→Bool}{k:Nat}{x:α}(h:l[k]? = some x):(l.drop k).any p=(p x||(l.drop (k+1)).any p):=by
 obtain⟨hk,rfl⟩:=List.getElem?_eq_some_iff.1 h
 rw[List.drop_eq_getElem_cons hk,List.any_cons]
theorem zp{α:Type}{l:List α}{p:α→Bool}{k:Nat}{x:α}(h:l[k]? = some x):(l.drop k).find? p=if p x then some x else (l.drop (k+1)).find? p:=by
 obtain⟨hk,rfl⟩:=List.getElem?_eq_some_iff.1 h
 rw[List.drop_eq_getElem_cons hk,List.find?_cons]
 split<;>simp_all
theorem nj(t:ByteArray)(I:b8)(F:bZ):cd P 100 #[.string t] I F (gq (.bool (lj t)) F):=by
 refine kj.vc (fun x i m I' F'=>0≤i∧i≤41∧m=(41-i).toNat∧lj t=(db.drop i.toNat).any (fun w=>w.toList==t.toList)∧F'=F) ?_
 unfold kj.V
 refine (vk I F).mono fun e I1 G hI ⟨b,he,hS,hG⟩=>?_
 subst hG
 refine⟨_,_,_,he,_,.refl _,⟨_,by omega,by omega,rfl,rfl,rfl⟩,fun x i m I2 F2 hI2 ⟨g0,g1,gm,gw,gF⟩=>⟨fun hlt=>?_,fun hlt=>?_⟩⟩
 ·have hlt:i<41:=of_decide_eq_true hlt
  obtain⟨ad,w,ha,hw,hrd⟩:=(hS.mono hI2).at (i:=i) g0 hlt
  subst gF
  rw[AB hw] at gw
  refine⟨⟨g0,hlt⟩,ad,ha,w,hrd _,fun h=>⟨?_,rfl⟩,fun h=>⟨(41-(i+1)).toNat,by omega, ?_⟩⟩
  ·rw[gw,h];rfl
  ·rw[eh (by omega)]
   refine⟨by omega,by omega,rfl, ?_,rfl⟩
   rw[gw,h,show (i+1).toNat=i.toNat+1 by omega];rfl
 ·have hlt:¬i<41:=of_decide_eq_false hlt
  refine⟨?_,gF⟩
  rw[gw,List.drop_eq_nil_of_le (by show 41≤_;omega)];rfl
theorem dv:(⟨#[]⟩:ByteArray).toList=[]:=by rw[Lib.toList_data]
theorem vm{t:ByteArray}(h1:(t.toList==(⟨#[]⟩:ByteArray).toList)=false)(h2:¬(t.size:Int)>16)(h3:fk (bt t 0)=true)(h4:lj t=false):c5 t=decide (dX cZ t 0=t.size):=by
 unfold c5
 rw[dv] at h1
 rw[h3,h4,h1,decide_eq_true (by omega:(t.size:Int)≤16)];simp
theorem sU{t:ByteArray}(I:b8)(F:bZ):cd P 126 #[.string t] I F (gq (.bool (c5 t)) F):=by
 refine od.vc (fun x i m I' F'=>0≤i∧i≤t.size∧m=(t.size-i).toNat∧dX cZ t i=dX cZ t 0∧F'=F) ?_
 unfold od.V
 refine⟨fun h=>⟨?_,rfl⟩,fun h=>⟨fun h2=>⟨?_,rfl⟩,fun h2=>?_⟩⟩
 ·rw[show c5 t=false by unfold c5;rw[dv] at h;rw[h];rfl]
 ·rw[show c5 t=false by unfold c5;rw[decide_eq_false (by have:=of_decide_eq_true h2;omega:¬(t.size:Int)≤16)];simp]
 have h2:=of_decide_eq_false h2
 have hne:0<t.size:=by
  rcases Nat.eq_zero_or_pos t.size with h0 | h0
  ·have:t=⟨#[]⟩:=ByteArray.size_eq_zero_iff.1 h0
   rw[this,dv] at h;exact absurd h (by decide)
  ·exact h0
 refine⟨⟨by omega,by omega⟩, ?_⟩
 refine cd.ret (rb (bt t 0) I _) fun I1 hI1=>⟨_,rfl,F,.refl _,fun h3=>⟨?_,rfl⟩,fun h3=>?_⟩
 ·rw[show c5 t=false by unfold c5;rw[show fk (bt t 0)=false by simpa using h3];simp]
 have h3:fk (bt t 0)=true:=by simpa using h3
 refine cd.ret (zo t I1 _) fun I2 hI2=>⟨_,rfl,F,.refl _,fun h4=>⟨?_,rfl⟩,fun h4=>?_⟩
 ·rw[show c5 t=false by unfold c5;rw[h4];simp]
 rw[vm h h2 h3 h4]
 refine⟨⟨_,by omega,by omega,rfl,rfl,rfl⟩,fun x i m I3 F3 hI3 ⟨g0,g1,gm,gr,gF⟩=>⟨fun hl=>⟨⟨g0,of_decide_eq_true hl⟩, ?_⟩,fun hl=>?_⟩⟩
 ·have hl:=of_decide_eq_true hl
  subst gF
  refine cd.ret (xf (bt t i) I3 _) fun I4 hI4=>⟨_,rfl,F3,.refl _,fun hc=>⟨?_,rfl⟩,fun hc=>?_⟩
  ·have hc:cZ (bt t i)=false:=by simpa using hc
   rw[dN hl,if_neg (by rw[hc];exact Bool.false_ne_true)] at gr
   rw[decide_eq_false (by omega)]
  ·have hc:cZ (bt t i)=true:=by simpa using hc
   rw[dN hl,if_pos hc] at gr
   rw[eh (by omega)]
   exact⟨(t.size-(i+1)).toNat,by omega,by omega,by omega,rfl,gr,rfl⟩
 ·have hl:=of_decide_eq_false hl
  refine⟨?_,gF⟩
  rw[lV (by omega)] at gr
  rw[decide_eq_true (by omega)]
theorem xj{t:ByteArray}(I:b8)(F:bZ):cd P 61 #[.string t] I F (gq (.bool (c5 t)) F):=by
 refine kk.vc (fun x i m I' F'=>0≤i∧i≤t.size∧m=(t.size-i).toNat∧dX cZ t i=dX cZ t 0∧F'=F) ?_
 unfold kk.V
 refine cd.ret (nj t I _) fun I1 hI1=>⟨_,rfl,F,.refl _,fun h4=>⟨?_,rfl⟩,fun h4=>⟨fun h1=>⟨?_,rfl⟩,fun h1=>⟨fun h2=>⟨?_,rfl⟩,fun h2=>?_⟩⟩⟩
 ·rw[show c5 t=false by unfold c5;rw[h4];simp]
 ·have h1:=of_decide_eq_true h1
  have:t=⟨#[]⟩:=ByteArray.size_eq_zero_iff.1 (by omega)
  rw[this,show c5 ⟨#[]⟩=false by unfold c5;rw[dv];rfl]
 ·rw[show c5 t=false by unfold c5;rw[decide_eq_false (by have:=of_decide_eq_true h2;omega:¬(t.size:Int)≤16)];simp]
 have h1:=of_decide_eq_false h1
 have h2:=of_decide_eq_false h2
 have h0:(t.toList==(⟨#[]⟩:ByteArray).toList)=false:=by
  rw[dv]
  have:t.toList≠[]:=fun e=>by
   have:t.toList.length=0:=by rw[e];rfl
   rw[Lib.toList_data] at this
   have h3:t.size=0:=by simpa using this
   omega
  simpa using this
 refine⟨⟨by omega,by omega⟩, ?_⟩
 refine cd.ret (kl (bt t 0) I1 _) fun I2 hI2=>⟨_,rfl,F,.refl _,fun h3=>⟨?_,rfl⟩,fun h3=>?_⟩
 ·rw[show c5 t=false by unfold c5;rw[show fk (bt t 0)=false by simpa using h3];simp]
 have h3:fk (bt t 0)=true:=by simpa using h3
 rw[vm h0 h2 h3 h4]
 refine⟨⟨_,by omega,by omega,rfl,rfl,rfl⟩,fun x i m I3 F3 hI3 ⟨g0,g1,gm,gr,gF⟩=>⟨fun hl=>⟨⟨g0,of_decide_eq_true hl⟩, ?_⟩,fun hl=>?_⟩⟩
 ·have hl:=of_decide_eq_true hl
  subst gF
  refine cd.ret (ni (bt t i) I3 _) fun I4 hI4=>⟨_,rfl,F3,.refl _,fun hc=>⟨?_,rfl⟩,fun hc=>?_⟩
  ·have hc:cZ (bt t i)=false:=by simpa using hc
   rw[dN hl,if_neg (by rw[hc];exact Bool.false_ne_true)] at gr
   rw[decide_eq_false (by omega)]
  ·have hc:cZ (bt t i)=true:=by simpa using hc
   rw[dN hl,if_pos hc] at gr
   rw[eh (by omega)]
   exact⟨(t.size-(i+1)).toNat,by omega,by omega,by omega,rfl,gr,rfl⟩
 ·have hl:=of_decide_eq_false hl
  refine⟨?_,gF⟩
  rw[lV (by omega)] at gr
  rw[decide_eq_true (by omega)]
def DG(n:Nat)(hs:Nat→bZ):bZ:=(List.range n).flatMap hs
end Go.Lx
namespace Go.Vc
end Go.Vc
namespace Go.Lx
open Go.Vc
end Go.Lx
namespace Go.Lx
open Go.Vc Go.Proofs.Tryz
def CY:List (Nat×List Sh):=[(3,[.one (.int .i64)]),(4,[.one .bool]),(26,[.one .slc]),(28,[.agg [(.int .u8),(.int .u8),(.int .u8),(.int .i64),(.int .u8),.str,.slc,(.int .i64)]])]
def ft.V(f:Nat→Nat×Obj)(vb vi:Int→Value)(wr:Int→Int)(v w x y z:Int)(t:Bs)(h:OA)(a u:Nat)(aa n b:Int)(I:b8)(F:bZ)(Q:cc)(Inv16:Int→Int→Nat→b8→bZ→Prop):Prop:=∀g:Nat,(Dt (b>60000) (Q (.returned (vi 1048577)) I F) ((∃m:Nat,Inv16 (wr ((wr (n+1))+(t.size:Int))) 0 m I F)∧∀(n1 i:Int) (m1:Nat) (I1:b8) (F1:bZ),b8.le I I1→Inv16 n1 i m1 I1 F1→(Dt (i<(a:Int)) (Dt (n1≤1048576) ((0≤i∧i<(a:Int))∧∃ad:Addr,h=some ad∧∃(j k l o p:Int) (q:Bs) (c:OA) (d e:Nat) (s:Int),Rd I1 ((f g)::F1) (ad.add (Int.toNat i*8)) [vb j,vb k,vb l,vi o,vb p,.string q,.slice c d e,vi s]∧cJ P 30 (#[.agg #[vb j,vb k,vb l,vi o,vb p,.string q,.slice c d e,vi s],vi n1,vi (wr (b+1))]) I1 ((f g)::·) F1 vi fun r I2 F2=>(∃m2:Nat,m2<m1∧Inv16 r (wr (i+1)) m2 I2 F2)) (Q (.returned (vi n1)) I1 F1)) (Q (.returned (vi n1)) I1 F1))))
theorem ft.vc{e f g i j:Int}{k:Bs}{a:OA}{c d:Nat}{l n o:Int}{I:b8}{F:bZ}{Q:cc}(Inv16:Int→Int→Nat→b8→bZ→Prop)(h:ft.V (fun b=>(b,Obj.cells #[.int .u8 e,.int .u8 f,.int .u8 g,.int .i64 i,.int .u8 j,.string k,.slice a c d,.int .i64 l] 28 (0,0))) (.int .u8) (.int .i64) (IntKind.wrap .i64) e f g i j k a c d l n o I F Q Inv16):cd P 30 #[.agg #[.int .u8 e,.int .u8 f,.int .u8 g,.int .i64 i,.int .u8 j,.string k,.slice a c d,.int .i64 l],.int .i64 n,.int .i64 o] I F Q :=
 tw (A:=(cO [2001,5004,5007] [] [30] CY [(16,⟨[(1,(.int .i64)),(7,(.int .i64))],[],fun _ _ _ vs m I F=>match vs with | [.int _ y0,.int _ y1]=>Inv16 y0 y1 m I F | _=>False,[],[]⟩)] [] [] [] [] [] [])) [30] func30 h
end Go.Lx
namespace Go.Lx
open Go.Vc
theorem cB.cons{I:b8}{F:bZ}{t:Nd}(h:cB I F t){x:Nat×Obj}:cB I (x::F) t:=h.mono (b8.le_refl I) fun _ h=>List.mem_cons_of_mem _ h
theorem iM{l:List Nd}{i:Nat}{x:Nd}(h:l[i]? = some x):(l.drop i).map Nd.px=x.px::(l.drop (i+1)).map Nd.px:=by
 obtain⟨hk,rfl⟩:=List.getElem?_eq_some_iff.1 h
 rw[List.drop_eq_getElem_cons hk,List.map_cons]
theorem lq{l:List Nd}{i:Nat}(h:l.length≤i):(l.drop i).map Nd.px=[]:=by rw[List.drop_eq_nil_of_le h];rfl
theorem xk:∀(t:Nd),t.px.fE→∀(n d:Int) (I:b8) (F:bZ),cB I F t→0≤n→n≤1000000000000000000→0≤d→d≤60001 →
  cd P 30 #[t.v,.int .i64 n,.int .i64 d] I F (gq (.int .i64 (t.px.kU n d)) F):=by
 refine Nd.ind fun t ih hs n d I F hok hn0 hn1 hd0 hd1=>?_
 have hnm:=hs.name
 have hln:=hs.len
 rw[Nd.gE] at hnm
 rw[Nd.gY] at hln
 refine ft.vc (fun n1 i m I' F'=>0≤i∧i≤t.kids.length∧m=(t.kids.length-i).toNat∧0≤n1∧Px.fD (t.kids.map Nd.px) (n+1+t.name.size) (d+1)=Px.fD ((t.kids.drop i.toNat).map Nd.px) n1 (d+1)∧F'=F) ?_
 unfold ft.V
 intro b_x
 rw[Px.q8,Nd.gE,Nd.dH]
 have hw:IntKind.wrap .i64 (IntKind.wrap .i64 (n+1)+(t.name.size:Int))=n+1+t.name.size:=by rw[eh (n:=n+1) (by omega),eh (by omega)]
 refine⟨fun h=>⟨?_,rfl⟩,fun h=>⟨⟨_,by omega,by omega,rfl, ?_, ?_,rfl⟩,fun n1 i m I1 F1 hI ⟨g0,g1,gm,gn,gw,gF⟩=>?_⟩⟩
 ·rw[if_pos (of_decide_eq_true h)]
 ·rw[hw];omega
 ·rw[hw];rfl
 have hd:¬60000<d:=of_decide_eq_false h
 rw[if_neg hd]
 subst gF
 refine⟨fun hlt=>⟨fun hle=>?_,fun hle=>⟨?_,rfl⟩⟩,fun hlt=>⟨?_,rfl⟩⟩
 ·have hlt:=of_decide_eq_true hlt
  have hle:=of_decide_eq_true hle
  obtain⟨ad,x,had,hx,hrd,hxo,hxm⟩:=((hok.mono hI fun _ h=>h).cons (x:=(b_x,.cells t.enc.toArray 28 (0,0)))).kids.at g0 hlt
  refine⟨⟨g0,hlt⟩,ad,had,_,_,_,_,_,_,_,_,_,_,hrd, ?_⟩
  rw[eh (n:=d+1) (by omega)]
  refine cd.ret (ih x hxm (hs.D9 x.px (by rw[Nd.dH];exact List.mem_map_of_mem hxm)) n1 (d+1) I1 _ hxo gn (by omega) (by omega) (by omega)) fun I2 hI2=>⟨_,rfl,F1,.refl _,(t.kids.length-(i+1)).toNat,by omega, ?_⟩
  rw[eh (n:=i+1) (by omega)]
  refine⟨by omega,by omega,rfl, ?_, ?_,rfl⟩
  ·exact Px.zl _ _ _ gn
  ·rw[gw,iM hx,Px.fD,if_pos hle,show (i+1).toNat=i.toNat+1 by omega]
 ·have hlt:=of_decide_eq_true hlt
  have hle:=of_decide_eq_false hle
  obtain⟨ad,x,had,hx,hrd,hxo,hxm⟩:=hok.kids.at g0 hlt
  rw[gw,iM hx,Px.fD,if_neg hle]
 ·have hlt:=of_decide_eq_false hlt
  rw[gw,lq (by omega),Px.fD]
theorem _root_.Go.Vc.cd.AD{v:Value}{F:bZ}{Pr:Program}{f:FuncId}{args:Array Value}{I:b8}(h:cd Pr f args I F (gq v F)):cd Pr f args I F fun e I' G=>e=.returned v∧G.Perm F :=
 h.mono fun e I' G _ ⟨h1,h2⟩=>⟨h1,by rw[h2]⟩
theorem jT{t x:Nd}(h:x∈t.kids){n:Int}(hs:t.px.size≤n):x.px.size≤n:=by
 have h1:=Px.sS (List.mem_map_of_mem (f:=Nd.px) h)
 rw[Px.size_eq,Nd.dH] at hs
 omega
theorem lu{t:Nd}{n:Int}(hs:t.px.size≤n):(t.kids.length:Int)<n:=by
 have h1:=Px.sT (t.kids.map Nd.px)
 rw[Px.size_eq,Nd.dH] at hs
 rw[List.length_map] at h1
 omega
def gZ:Nd:=.mk 0 0 0 0 0 ⟨#[]⟩ none 0 [] 0
end Go.Lx
namespace Go.Lx
open Go.Vc Go.Proofs.Tryz
def oO:List (Nat×List Sh):=[(3,[.one (.int .i64)]),(4,[.one .bool]),(28,[.agg [(.int .u8),(.int .u8),(.int .u8),(.int .i64),(.int .u8),.str,.slc,(.int .i64)]])]
def kn.V(vt:Bool→Value)(i a b c d:Int)(e:Bs)(f:OA)(g h:Nat)(j:Int)(I:b8)(F:bZ)(Q:cc)  : Prop:=∀k:Nat,(It (a==0) (It (b==0) (It (c==0) (It (d==0) (Q (.returned (vt (e.toList==(⟨#[]⟩:Bs).toList))) I F) (Q (.returned (vt false)) I F)) (Q (.returned (vt false)) I F)) (Q (.returned (vt false)) I F)) (Q (.returned (vt false)) I F))
theorem kn.vc{d e f g i:Int}{j:Bs}{a:OA}{b c:Nat}{k:Int}{I:b8}{F:bZ}{Q:cc}  (h:kn.V .bool d e f g i j a b c k I F Q):cd P 62 #[.agg #[.int .u8 d,.int .u8 e,.int .u8 f,.int .i64 g,.int .u8 i,.string j,.slice a b c,.int .i64 k]] I F Q :=
 tw (A:=(an [1002,1006,1011,1016] [] oO)) [] func62 h
def gG.V(nO:Int→Int→Int→Int→Int→Bs→OA→Nat→Nat→Int→Obj)(vb:Int→Value)(vt:Bool→Value)(f g a b h:Int)(i:Bs)(d:OA)(c e:Nat)(j:Int)(I:b8)(F:bZ)(Q:cc)(Inv4:Bool→b8→bZ→Prop):Prop:=∀k:Nat,((It (a==1) (Inv4 (decide (b≥0)) I F) (It (a==2) (Inv4 (decide (b≥0)) I F) (It (a==3) (Inv4 (decide (b≥0)) I F) (It (a==4) (Inv4 (decide (b≥0)) I F) (It (a==5) (It (b==0) (Inv4 true I F) (Inv4 (b==1) I F)) (It (a==6) (It (b==1) (Inv4 true I F) (Inv4 (b==2) I F)) (Inv4 false I F))))))))∧∀(ok:Bool) (I1:b8) (F1:bZ),b8.le I I1→Inv4 ok I1 F1→(It ok (cJ P 62 #[.agg #[vb f,vb g,vb 0,.int .i64 0,vb h,.string i,.slice d c e,.int .i64 j]] I1 ((k,nO f g 0 0 h i d c e j)::·) F1 vt fun r I2 F2=>(It r (Q (.returned (vt ((c:Int)==0))) I2 F2) (Q (.returned (vt false)) I2 F2))) (Q (.returned (vt false)) I1 F1))
theorem gG.vc{g i j p r:Int}{u:Bs}{b:OA}{d e:Nat}{v:Int}{I:b8}{F:bZ}{Q:cc}(Inv4:Bool→b8→bZ→Prop)(h:gG.V (fun k o t n f s a l c q=>.cells #[.int .u8 k,.int .u8 o,.int .u8 t,.int .i64 n,.int .u8 f,.string s,.slice a l c,.int .i64 q] 28 (0,0)) (.int .u8) .bool g i j p r u b d e v I F Q Inv4):cd P 60 #[.agg #[.int .u8 g,.int .u8 i,.int .u8 j,.int .i64 p,.int .u8 r,.string u,.slice b d e,.int .i64 v]] I F Q :=
 tw (A:=(cO [3000,4000,5000,6000,8000,9002,10000,11002,14000,14003] [] [62] oO [(4,⟨[(3,.bool)],[],fun _ _ _ vs m I F=>match vs with | [.bool y0]=>Inv4 y0 I F | _=>False,[],[]⟩)] [] [] [] [] [] [])) [62] func60 h
def lZ.V(w:Nat→Nat×Obj)(nV:Int→Int→Int→Int→Int→Bs→OA→Nat→Nat→Int→Value)(nO:Int→Int→Int→Int→Int→Bs→OA→Nat→Nat→Int→Obj)(vt:Bool→Value)(a e g h f:Int)(i:Bs)(b:OA)(c d:Nat)(j:Int)(I:b8)(F:bZ)(Q:cc)(Inv6:Bool→Int→Bool→Int→Int→Int→Int→Int→Bs→OA→Nat→Nat→Int→b8→bZ→Prop):Prop:=∀v:Nat,((It (a==1) (cJ P 60 #[nV a e g h f i b c d j] I ((w v)::·) F vt fun r I1 F1=>Q (.returned (vt r)) I1 F1) (It (a==2) (cJ P 61 #[.string i] I ((w v)::·) F vt fun r1 I2 F2=>Inv6 false 0 r1 a e g h f (⟨#[]⟩:Bs) b c d j I2 F2) (It (a==3) (Dt (f≥1) (Inv6 false 0 (decide (f≤6)) a e g h 0 i b c d j I F) (Inv6 false 0 false a e g h 0 i b c d j I F)) (It (a==4) (Dt (f≥1) (Inv6 false 0 (decide (f≤3)) a e g h 0 i b c d j I F) (Inv6 false 0 false a e g h 0 i b c d j I F)) (It (a==5) (It (e==1) (Inv6 false 1 true a 0 g h f i b c d j I F) (Inv6 false 1 (e==2) a 0 g h f i b c d j I F)) (It (a==6) (Dt (e≥6) (Inv6 false 2 (decide (e≤18)) a 0 g h f i b c d j I F) (Inv6 false 2 false a 0 g h f i b c d j I F)) (It (a==7) (Inv6 false 3 true a e g h f i b c d j I F) (It (a==8) (Dt (e≥3) (It (e==3) (Inv6 false 1 (decide (e≤5)) a 0 g h f i b c d j I F) (Inv6 false 2 (decide (e≤5)) a 0 g h f i b c d j I F)) (It (e==3) (Inv6 false 1 false a 0 g h f i b c d j I F) (Inv6 false 2 false a 0 g h f i b c d j I F))) (It (a==9) (Dt (g≥1) (Inv6 false 1 (decide (g≤4)) a e 0 h f i b c d j I F) (Inv6 false 1 false a e 0 h f i b c d j I F)) (Inv6 false 0 false a e g h f i b c d j I F)))))))))))∧∀(x:Bool) (y:Int) (ok:Bool) (n o p q s:Int) (t:Bs) (l:OA) (k m:Nat) (u:Int) (I3:b8) (F3:bZ),b8.le I I3→Inv6 x y ok n o p q s t l k m u I3 F3→(It ok (cJ P 62 #[nV n o p q s t l k m u] I3 ((v,nO n o p q s t l k m u)::·) F3 vt fun r2 I4 F4=>(It r2 (Q (.returned (vt ((k:Int)==y))) I4 F4) (Q (.returned (vt false)) I4 F4))) (Q (.returned (vt false)) I3 F3))
theorem lZ.vc{i j p r u:Int}{v:Bs}{d:OA}{e g:Nat}{w:Int}{I:b8}{F:bZ}{Q:cc}(Inv6:Bool→Int→Bool→Int→Int→Int→Int→Int→Bs→OA→Nat→Nat→Int→b8→bZ→Prop)(h:lZ.V (fun b=>(b,Obj.cells #[.int .u8 i,.int .u8 j,.int .u8 p,.int .i64 r,.int .u8 u,.string v,.slice d e g,.int .i64 w] 28 (0,0))) (fun k o t n f s a l c q=>.agg #[.int .u8 k,.int .u8 o,.int .u8 t,.int .i64 n,.int .u8 f,.string s,.slice a l c,.int .i64 q]) (fun k o t n f s a l c q=>.cells #[.int .u8 k,.int .u8 o,.int .u8 t,.int .i64 n,.int .u8 f,.string s,.slice a l c,.int .i64 q] 28 (0,0)) .bool i j p r u v d e g w I F Q Inv6):cd P 36 #[.agg #[.int .u8 i,.int .u8 j,.int .u8 p,.int .i64 r,.int .u8 u,.string v,.slice d e g,.int .i64 w]] I F Q :=
 tw (A:=(cO [4000,6000,9000,10002,12000,13002,15000,16002,19000,20002,23000,26000,27002,29002,32000,33002,36000,36003] [] [60,61,62] oO [(6,⟨[(2,.bool),(3,(.int .i64)),(4,.bool)],[(0,[(.int .u8),(.int .u8),(.int .u8),(.int .i64),(.int .u8),.str,.slc,(.int .i64)])],fun _ _ _ vs m I F=>match vs with | [.bool y0,.int _ y1,.bool y2,.int _ y3,.int _ y4,.int _ y5,.int _ y6,.int _ y7,.string y8,.slice y9 y10 y11,.int _ y12]=>Inv6 y0 y1 y2 y3 y4 y5 y6 y7 y8 y9 y10 y11 y12 I F | _=>False,[],[]⟩)] [] [] [] [] [] [])) [60,61,62] func36 h
def ik.V(b:Nat→Nat×Obj)(nV:Int→Int→Int→Int→Int→Bs→OA→Nat→Nat→Int→Value)(vb:Int→Value)(vt:Bool→Value)(s t u v w:Int)(x:Bs)(d:OA)(a h:Nat)(y:Int)(I:b8)(F:bZ)(Q:cc)(Inv8:Bool→Int→Nat→b8→bZ→Prop):Prop:=∀c:Nat,cJ P 36 #[nV s t u v w x d a h y] I ((b c)::·) F vt fun r I1 F1=>(∃m:Nat,Inv8 r 0 m I1 F1)∧∀(ok:Bool) (i:Int) (m1:Nat) (I2:b8) (F2:bZ),b8.le I1 I2→Inv8 ok i m1 I2 F2→(Dt (i<(a:Int)) (It ok ((0≤i∧i<(a:Int))∧∃ad:Addr,d=some ad∧∃(j k l n o:Int) (p:Bs) (e:OA) (f g:Nat) (q:Int),Rd I2 ((b c)::F2) (ad.add (Int.toNat i*8)) [vb j,vb k,vb l,.int .i64 n,vb o,.string p,.slice e f g,.int .i64 q]∧cJ P 15 #[nV j k l n o p e f g q] I2 ((b c)::·) F2 vt fun r1 I3 F3=>(∃m2:Nat,m2<m1∧Inv8 r1 (IntKind.wrap .i64 (i+1)) m2 I3 F3)) (Q (.returned (vt ok)) I2 F2)) (Q (.returned (vt ok)) I2 F2))
theorem ik.vc{i j p r u:Int}{v:Bs}{d:OA}{e g:Nat}{w:Int}{I:b8}{F:bZ}{Q:cc}(Inv8:Bool→Int→Nat→b8→bZ→Prop)(h:ik.V (fun b=>(b,Obj.cells #[.int .u8 i,.int .u8 j,.int .u8 p,.int .i64 r,.int .u8 u,.string v,.slice d e g,.int .i64 w] 28 (0,0))) (fun k o t n f s a l c q=>.agg #[.int .u8 k,.int .u8 o,.int .u8 t,.int .i64 n,.int .u8 f,.string s,.slice a l c,.int .i64 q]) (.int .u8) .bool i j p r u v d e g w I F Q Inv8):cd P 15 #[.agg #[.int .u8 i,.int .u8 j,.int .u8 p,.int .i64 r,.int .u8 u,.string v,.slice d e g,.int .i64 w]] I F Q :=
 tw (A:=(cO [3004,3006] [] [15,36] oO [(8,⟨[(3,.bool),(4,(.int .i64))],[],fun _ _ _ vs m I F=>match vs with | [.bool y0,.int _ y1]=>Inv8 y0 y1 m I F | _=>False,[],[]⟩)] [] [] [] [] [] [])) [15,36] func15 h
def pA.V(d:Nat→Nat×Obj)(nV:Int→Int→Int→Int→Int→Bs→OA→Nat→Nat→Int→Value)(vb vi:Int→Value)(wr:Int→Int)(b al am an ao:Int)(ap:Bs)(f:OA)(c k:Nat)(aq:Int)(I:b8)(F:bZ)(Q:cc)(Inv8:Int→Int→Nat→b8→bZ→Prop):Prop:=∀e:Nat,(∃m:Nat,Inv8 0 0 m I F)∧∀(a i:Int) (m1:Nat) (I1:b8) (F1:bZ),b8.le I I1→Inv8 a i m1 I1 F1→(Dt (i<(c:Int)) ((0≤i∧i<(c:Int))∧∃ad:Addr,f=some ad∧∃(l n o p q:Int) (s:Bs) (g:OA) (h j:Nat) (t:Int),Rd I1 ((d e)::F1) (ad.add (Int.toNat i*8)) [vb l,vb n,vb o,vi p,vb q,.string s,.slice g h j,vi t]∧cJ P 152 #[nV l n o p q s g h j t] I1 ((d e)::·) F1 vi fun r I2 F2=>cJ P 163 #[nV b al am an ao ap f c k aq,vi i] I2 ((d e)::·) F2 .bool fun r1 I3 F3=>(It r1 (It (b==5) (Dt ((wr ((wr (r+1))+1))>a) (∃m2:Nat,m2<m1∧Inv8 (wr ((wr (r+1))+1)) (wr (i+1)) m2 I3 F3) (∃m3:Nat,m3<m1∧Inv8 a (wr (i+1)) m3 I3 F3)) (It (b==8) (Dt ((wr ((wr (r+1))+1))>a) (∃m4:Nat,m4<m1∧Inv8 (wr ((wr (r+1))+1)) (wr (i+1)) m4 I3 F3) (∃m5:Nat,m5<m1∧Inv8 a (wr (i+1)) m5 I3 F3)) (It (b==9) (Dt ((wr ((wr (r+1))+1))>a) (∃m6:Nat,m6<m1∧Inv8 (wr ((wr (r+1))+1)) (wr (i+1)) m6 I3 F3) (∃m7:Nat,m7<m1∧Inv8 a (wr (i+1)) m7 I3 F3)) (It (b==7) (Dt (i>0) (Dt ((wr ((wr (r+1))+1))>a) (∃m8:Nat,m8<m1∧Inv8 (wr ((wr (r+1))+1)) (wr (i+1)) m8 I3 F3) (∃m9:Nat,m9<m1∧Inv8 a (wr (i+1)) m9 I3 F3)) (Dt ((wr (r+1))>a) (∃u:Nat,u<m1∧Inv8 (wr (r+1)) (wr (i+1)) u I3 F3) (∃v:Nat,v<m1∧Inv8 a (wr (i+1)) v I3 F3))) (Dt ((wr (r+1))>a) (∃w:Nat,w<m1∧Inv8 (wr (r+1)) (wr (i+1)) w I3 F3) (∃x:Nat,x<m1∧Inv8 a (wr (i+1)) x I3 F3)))))) (It (b==5) (Dt ((wr (r+1))>a) (∃y:Nat,y<m1∧Inv8 (wr (r+1)) (wr (i+1)) y I3 F3) (∃z:Nat,z<m1∧Inv8 a (wr (i+1)) z I3 F3)) (It (b==8) (Dt ((wr (r+1))>a) (∃aa:Nat,aa<m1∧Inv8 (wr (r+1)) (wr (i+1)) aa I3 F3) (∃ab:Nat,ab<m1∧Inv8 a (wr (i+1)) ab I3 F3)) (It (b==9) (Dt ((wr (r+1))>a) (∃ac:Nat,ac<m1∧Inv8 (wr (r+1)) (wr (i+1)) ac I3 F3) (∃ae:Nat,ae<m1∧Inv8 a (wr (i+1)) ae I3 F3)) (It (b==7) (Dt (i>0) (Dt ((wr (r+1))>a) (∃af:Nat,af<m1∧Inv8 (wr (r+1)) (wr (i+1)) af I3 F3) (∃ag:Nat,ag<m1∧Inv8 a (wr (i+1)) ag I3 F3)) (Dt (r>a) (∃ah:Nat,ah<m1∧Inv8 r (wr (i+1)) ah I3 F3) (∃ai:Nat,ai<m1∧Inv8 a (wr (i+1)) ai I3 F3))) (Dt (r>a) (∃aj:Nat,aj<m1∧Inv8 r (wr (i+1)) aj I3 F3) (∃ak:Nat,ak<m1∧Inv8 a (wr (i+1)) ak I3 F3)))))))) (Q (.returned (vi a)) I1 F1))
theorem pA.vc{i j p r u:Int}{v:Bs}{d:OA}{e g:Nat}{w:Int}{I:b8}{F:bZ}{Q:cc}(Inv8:Int→Int→Nat→b8→bZ→Prop)(h:pA.V (fun b=>(b,Obj.cells #[.int .u8 i,.int .u8 j,.int .u8 p,.int .i64 r,.int .u8 u,.string v,.slice d e g,.int .i64 w] 28 (0,0))) (fun k o t n f s a l c q=>.agg #[.int .u8 k,.int .u8 o,.int .u8 t,.int .i64 n,.int .u8 f,.string s,.slice a l c,.int .i64 q]) (.int .u8) (.int .i64) (IntKind.wrap .i64) i j p r u v d e g w I F Q Inv8):cd P 152 #[.agg #[.int .u8 i,.int .u8 j,.int .u8 p,.int .i64 r,.int .u8 u,.string v,.slice d e g,.int .i64 w]] I F Q :=
 tw (A:=(cO [3004,7000,9002,9006,9011,9016,9019,11002] [] [152,163] oO [(8,⟨[(3,(.int .i64)),(4,(.int .i64))],[],fun _ _ _ vs m I F=>match vs with | [.int _ y0,.int _ y1]=>Inv8 y0 y1 m I F | _=>False,[],[]⟩)] [] [] [] [] [] [])) [152,163] func152 h
def ko.V(f:Nat→Nat×Obj)(vb vi:Int→Value)(t u v w x:Int)(y:Bs)(h:OA)(a s:Nat)(z:Int)(I:b8)(F:bZ)(Q:cc)(Inv8:Int→Int→Nat→b8→bZ→Prop):Prop:=∀g:Nat,(∃m:Nat,Inv8 1 0 m I F)∧∀(b i:Int) (m1:Nat) (I1:b8) (F1:bZ),b8.le I I1→Inv8 b i m1 I1 F1→(Dt (i<(a:Int)) ((0≤i∧i<(a:Int))∧∃ad:Addr,h=some ad∧∃(j k l n o:Int) (p:Bs) (c:OA) (d e:Nat) (q:Int),Rd I1 ((f g)::F1) (ad.add (Int.toNat i*8)) [vb j,vb k,vb l,vi n,vb o,.string p,.slice c d e,vi q]∧cJ P 16 #[.agg #[vb j,vb k,vb l,vi n,vb o,.string p,.slice c d e,vi q]] I1 ((f g)::·) F1 vi fun r I2 F2=>(∃m2:Nat,m2<m1∧Inv8 (IntKind.wrap .i64 (b+r)) (IntKind.wrap .i64 (i+1)) m2 I2 F2)) (Q (.returned (vi b)) I1 F1))
theorem ko.vc{e f g i j:Int}{k:Bs}{a:OA}{c d:Nat}{l:Int}{I:b8}{F:bZ}{Q:cc}(Inv8:Int→Int→Nat→b8→bZ→Prop)(h:ko.V (fun b=>(b,Obj.cells #[.int .u8 e,.int .u8 f,.int .u8 g,.int .i64 i,.int .u8 j,.string k,.slice a c d,.int .i64 l] 28 (0,0))) (.int .u8) (.int .i64) e f g i j k a c d l I F Q Inv8):cd P 16 #[.agg #[.int .u8 e,.int .u8 f,.int .u8 g,.int .i64 i,.int .u8 j,.string k,.slice a c d,.int .i64 l]] I F Q :=
 tw (A:=(cO [3004] [] [16] oO [(8,⟨[(3,(.int .i64)),(4,(.int .i64))],[],fun _ _ _ vs m I F=>match vs with | [.int _ y0,.int _ y1]=>Inv8 y0 y1 m I F | _=>False,[],[]⟩)] [] [] [] [] [] [])) [16] func16 h
end Go.Lx
namespace Go.Lx
open Go.Vc
def zB(o ty n f:Int)(s:ByteArray):Bool:=o==0&&(ty==0&&(n==0&&(f==0&&(s.toList==(⟨#[]⟩:ByteArray).toList))))
theorem sV(k o ty n f:Int)(s:ByteArray)(a:Option Addr)(l c:Nat)(q:Int)(I:b8)(F:bZ) :
  cd P 62 #[.agg #[.int .u8 k,.int .u8 o,.int .u8 ty,.int .i64 n,.int .u8 f,.string s,.slice a l c,.int .i64 q]] I F (gq (.bool (zB o ty n f s)) F):=by
 refine kn.vc ?_
 unfold kn.V
 intro b_n
 unfold zB
 refine⟨fun h=>⟨fun h1=>⟨fun h2=>⟨fun h3=>⟨?_,rfl⟩,fun h3=>⟨?_,rfl⟩⟩,fun h2=>⟨?_,rfl⟩⟩,fun h1=>⟨?_,rfl⟩⟩,fun h=>⟨?_,rfl⟩⟩<;>simp[*]
theorem tQ(t:Nd)(I:b8)(F:bZ):cd P 60 #[t.v] I F (gq (.bool (t.px.zi&&(zB t.oper 0 0 t.field t.name&&decide (t.kids.length=0)))) F):=by
 refine gG.vc (fun ok I' F'=>ok=t.px.zi∧F'=F) ?_
 unfold gG.V
 intro b_n
 unfold Px.zi
 rw[Nd.jD,Nd.zh]
 refine⟨⟨fun h=>⟨?_,rfl⟩,fun h1=>⟨fun h=>⟨?_,rfl⟩,fun h2=>⟨fun h=>⟨?_,rfl⟩,fun h3=>⟨fun h=>⟨?_,rfl⟩,fun h4=>⟨fun h=>⟨fun h'=>⟨?_,rfl⟩,fun h'=>⟨?_,rfl⟩⟩,fun h5=>⟨fun h=>⟨fun h'=>⟨?_,rfl⟩,fun h'=>⟨?_,rfl⟩⟩,fun h6=>⟨?_,rfl⟩⟩⟩⟩⟩⟩⟩,fun ok I1 F1 hI ⟨g1,gF⟩=>?_⟩
 ·have h:t.cp=1:=by simpa using h
  simp[h]
 ·have h:t.cp=2:=by simpa using h
  simp[h]
 ·have h:t.cp=3:=by simpa using h
  simp[h]
 ·have h:t.cp=4:=by simpa using h
  simp[h]
 ·have h:t.cp=5:=by simpa using h
  have h':t.n=0:=by simpa using h'
  simp[h,h']
 ·have h:t.cp=5:=by simpa using h
  have h':t.n≠0:=by simpa using h'
  rw[if_neg (by omega),if_pos h,Bool.eq_iff_iff];simp[h']
 ·have h:t.cp=6:=by simpa using h
  have h':t.n=1:=by simpa using h'
  simp[h,h']
 ·have h:t.cp=6:=by simpa using h
  have h':t.n≠1:=by simpa using h'
  rw[if_pos h,Bool.eq_iff_iff];simp[h']
 ·have e1:t.cp≠1:=by simpa using h1
  have e2:t.cp≠2:=by simpa using h2
  have e3:t.cp≠3:=by simpa using h3
  have e4:t.cp≠4:=by simpa using h4
  have e5:t.cp≠5:=by simpa using h5
  have e6:t.cp≠6:=by simpa using h6
  rw[if_neg e6,if_neg e5,if_neg (by omega)]
 ·subst gF
  rw[←g1]
  refine⟨fun h=>cd.ret (sV t.kind t.oper 0 0 t.field t.name t.a t.kids.length t.c t.pos I1 _) fun I2 h2=>⟨_,rfl,F1,.refl _,fun h'=>⟨?_,rfl⟩,fun h'=>⟨?_,rfl⟩⟩,fun h=>⟨?_,rfl⟩⟩
  ·rw[h,h'];congr 2;rw[Bool.eq_iff_iff];simp
  ·rw[h'];simp
  ·rw[h];simp
theorem AE(t:Nd)(I:b8)(F:bZ):cd P 36 #[t.v] I F (gq (.bool t.px.fT) F):=by
 refine lZ.vc (fun x kids ok k o ty n f s a l c q I' F'=>(ok&&(zB o ty n f s&&decide (l=kids.toNat)))=t.px.fT∧0≤kids∧F'=F) ?_
 unfold lZ.V
 intro b_n
 unfold Px.fT Px.vf Px.AA Px.arity
 simp only[Nd.cQ,Nd.ig,Nd.jD,Nd.zh,Nd.jS,Nd.gE,Nd.gY]
 refine⟨⟨fun h=>?_,fun h1=>⟨fun h=>?_,fun h2=>⟨fun h=>⟨fun h'=>⟨?_,by decide,by trivial⟩,fun h'=>⟨?_,by decide,by trivial⟩⟩,fun h3=>⟨fun h=>⟨fun h'=>⟨?_,by decide,by trivial⟩,fun h'=>⟨?_,by decide,by trivial⟩⟩,fun h4=>⟨fun h=>⟨fun h'=>⟨?_,by decide,by trivial⟩,fun h'=>⟨?_,by decide,by trivial⟩⟩,
  fun h5=>⟨fun h=>⟨fun h'=>⟨?_,by decide,by trivial⟩,fun h'=>⟨?_,by decide,by trivial⟩⟩,fun h6=>⟨fun h=>⟨?_,by decide,by trivial⟩,fun h7=>⟨fun h=>⟨fun h'=>⟨fun h''=>⟨?_,by decide,by trivial⟩,fun h''=>⟨?_,by decide,by trivial⟩⟩,fun h'=>⟨fun h''=>⟨?_,by decide,by trivial⟩,fun h''=>⟨?_,by decide,by trivial⟩⟩⟩,fun h8=>⟨fun h=>⟨fun h'=>⟨?_,by decide,by trivial⟩,fun h'=>⟨?_,by decide,by trivial⟩⟩,fun h9=>⟨?_,by decide,by trivial⟩⟩⟩⟩⟩⟩⟩⟩⟩⟩,fun x kids ok k o ty n f s a l c q I3 F3 hI ⟨g1,gk,gF⟩=>?_⟩
 ·refine cd.ret (tQ t I _) fun I2 h2=>⟨_,rfl,F,.refl _, ?_,by trivial⟩
  have hk:t.kind=1:=by simpa using h
  simp[hk,zB,dv,Bool.and_assoc]
 ·refine cd.ret (xj I _) fun I2 h2=>⟨_,rfl,F,.refl _, ?_,by decide,by trivial⟩
  have hk:t.kind=2:=by simpa using h
  simp[hk,zB,dv,Bool.and_assoc]
 all_goals first
  | (subst gF
     rw[←g1]
     refine⟨fun h=>cd.ret (sV k o ty n f s a l c q I3 _) fun I2 h2=>⟨_,rfl,F3,.refl _,fun h'=>⟨?_,by trivial⟩,fun h'=>⟨?_,by trivial⟩⟩,fun h=>⟨?_,by trivial⟩⟩
     ·rw[h,h'];congr 2;rw[Bool.eq_iff_iff];simp;omega
     ·rw[h'];simp
     ·rw[h];simp)
  | (simp only[beq_iff_eq] at h
     try simp only[decide_eq_true_eq,decide_eq_false_iff_not,beq_iff_eq,beq_eq_false_iff_ne] at h'
     try simp only[decide_eq_true_eq,decide_eq_false_iff_not,beq_iff_eq,beq_eq_false_iff_ne] at h''
     simp[*,zB,dv,Bool.and_assoc]
     done)
  | skip
 ·have h:t.kind=5:=by simpa using h
  have h':t.oper≠1:=by simpa using h'
  have:decide (t.oper=1∨t.oper=2)=(t.oper==2):=by rw[Bool.eq_iff_iff];simp[h']
  simp[h,this,zB,dv,Bool.and_assoc]
 ·exfalso
  have h':=of_decide_eq_false h'
  have h'':t.oper=3:=by simpa using h''
  omega
 ·have e1:t.kind≠1:=by simpa using h1
  have e2:t.kind≠2:=by simpa using h2
  have e3:t.kind≠3:=by simpa using h3
  have e4:t.kind≠4:=by simpa using h4
  have e5:t.kind≠5:=by simpa using h5
  have e6:t.kind≠6:=by simpa using h6
  have e7:t.kind≠7:=by simpa using h7
  have e8:t.kind≠8:=by simpa using h8
  have e9:t.kind≠9:=by simpa using h9
  simp[e1,e2,e3,e4,e5,e6,e7,e8,e9]
theorem vn:∀(t:Nd),t.px.size≤1048576→∀(I:b8) (F:bZ),cB I F t→cd P 15 #[t.v] I F (gq (.bool t.px.formed) F):=by
 refine Nd.ind fun t ih hs I F ht=>?_
 have hln:=lu hs
 refine ik.vc (fun ok i m I' F'=>0≤i∧i≤t.kids.length∧m=(t.kids.length-i).toNat∧t.px.formed=(ok&&Px.fq ((t.kids.drop i.toNat).map Nd.px))∧F'=F) ?_
 unfold ik.V
 intro b_n
 refine cd.ret (AE t I _) fun I1 hI1=>⟨_,rfl,F,.refl _,⟨_,by omega,by omega,rfl, ?_,rfl⟩,fun ok i m I2 F2 hI ⟨g0,g1,gm,gf,gF⟩=>⟨fun hlt=>⟨fun hok=>?_,fun hok=>⟨?_,gF⟩⟩,fun hlt=>⟨?_,gF⟩⟩⟩
 ·rw[Px.dY,Nd.dH];rfl
 ·have hlt:=of_decide_eq_true hlt
  subst gF
  obtain⟨ad,x,had,hx,hrd,hxo,hxm⟩:=((ht.mono (b8.le_trans hI1 hI) fun _ h=>h).cons (x:=(b_n,.cells t.enc.toArray 28 (0,0)))).kids.at g0 hlt
  refine⟨⟨g0,hlt⟩,ad,had,_,_,_,_,_,_,_,_,_,_,hrd,cd.ret (ih x hxm (jT hxm hs) I2 _ hxo) fun I3 hI3=>⟨_,rfl,F2,.refl _,(t.kids.length-(i+1)).toNat,by omega, ?_⟩⟩
  rw[eh (n:=i+1) (by omega)]
  refine⟨by omega,by omega,rfl, ?_,rfl⟩
  rw[gf,hok,iM hx,Px.fq,show (i+1).toNat=i.toNat+1 by omega];rfl
 ·rw[gf,hok];rfl
 ·have hlt:=of_decide_eq_false hlt
  rw[gf,lq (by omega),Px.fq,Bool.and_true]
theorem xl:∀(t:Nd),t.px.size≤1048576→∀(I:b8) (F:bZ),cB I F t→cd P 16 #[t.v] I F (gq (.int .i64 t.px.size) F):=by
 refine Nd.ind fun t ih hs I F ht=>?_
 have hln:=lu hs
 refine ko.vc (fun many i m I' F'=>0≤i∧i≤t.kids.length∧m=(t.kids.length-i).toNat∧0≤many∧t.px.size=many+Px.dQ ((t.kids.drop i.toNat).map Nd.px)∧F'=F) ?_
 unfold ko.V
 intro b_n
 refine⟨⟨_,by omega,by omega,rfl,by omega, ?_,rfl⟩,fun many i m I1 F1 hI ⟨g0,g1,gm,g2,gf,gF⟩=>⟨fun hlt=>?_,fun hlt=>⟨?_,gF⟩⟩⟩
 ·rw[Px.size_eq,Nd.dH];rfl
 ·have hlt:=of_decide_eq_true hlt
  subst gF
  obtain⟨ad,x,had,hx,hrd,hxo,hxm⟩:=((ht.mono hI fun _ h=>h).cons (x:=(b_n,.cells t.enc.toArray 28 (0,0)))).kids.at g0 hlt
  refine⟨⟨g0,hlt⟩,ad,had,_,_,_,_,_,_,_,_,_,_,hrd,cd.ret (ih x hxm (jT hxm hs) I1 _ hxo) fun I3 hI3=>⟨_,rfl,F1,.refl _,(t.kids.length-(i+1)).toNat,by omega, ?_⟩⟩
  have h1:=Px.size_pos x.px
  have h2:=Px.eU ((t.kids.drop (i.toNat+1)).map Nd.px)
  rw[iM hx,Px.dQ] at gf
  rw[eh (n:=i+1) (by omega),eh (n:=many+_) (by omega)]
  refine⟨by omega,by omega,rfl,by omega, ?_,rfl⟩
  rw[gf,show (i+1).toNat=i.toNat+1 by omega];omega
 ·have hlt:=of_decide_eq_false hlt
  rw[gf,lq (by omega),Px.dQ,Int.add_zero]
theorem Px.kq{x:Px}(h:x.formed=true):∀k∈x.kids,k.formed=true:=by
 have hL:∀l:List Px,Px.fq l=true→∀k∈l,k.formed=true:=by
  intro l
  induction l with
  | nil=>intro _ k hk;cases hk
  | cons y r ih =>
    intro h k hk
    rw[Px.fq,Bool.and_eq_true] at h
    rcases List.mem_cons.1 hk with rfl | hk
    ·exact h.1
    ·exact ih h.2 k hk
 rw[Px.dY,Bool.and_eq_true] at h
 exact hL _ h.2
theorem Px.vo{x:Px}(h:x.formed=true)(hk:x.kids≠[]):5≤x.kind∧x.kind≤9:=by
 rw[Px.dY,Bool.and_eq_true] at h
 have h1:=h.1
 unfold Px.fT at h1
 simp only[Bool.and_eq_true,decide_eq_true_eq] at h1
 have h2:=h1.2
 have h3:0<x.kids.length:=List.length_pos_iff.2 hk
 unfold Px.arity at h2
 (repeat' split at h2)<;>omega
theorem rh(x k:Px)(i:Int):0≤x.xb k i∧x.xb k i≤2:=by
 unfold Px.xb;(repeat' split)<;>omega
theorem vq:∀x:Px,0≤x.depth∧x.depth≤2*x.size:=by
 have hL:∀(t:Px) (l:List Px),(∀x∈l,0≤Px.depth x∧Px.depth x≤2*Px.size x)→∀(i most:Int),0≤most→0≤Px.iL t i l most∧Px.iL t i l most≤max most (2*Px.dQ l+2):=by
  intro t l
  induction l with
  | nil=>intro _ i most h;rw[Px.iL,Px.dQ];omega
  | cons x r ih =>
    intro hx i most h
    have h1:=hx x (List.mem_cons_self ..)
    have h2:=rh t x i
    have h3:=ih (fun y hy=>hx y (List.mem_cons_of_mem _ hy)) (i+1) (max most (Px.depth x+t.xb x i)) (by omega)
    have h4:=Px.eU r
    have h5:=Px.size_pos x
    rw[Px.iL,Px.dQ]
    omega
 refine Px.ind fun x h=>?_
 have:=hL x x.kids h 0 0 (by omega)
 have h4:=Px.eU x.kids
 rw[Px.vg,Px.size_eq]
 omega
def Px.dp(x:Px):Int:=if x.formed then (if 24<x.depth then 122 else 0) else 120
end Go.Lx
namespace Go.Lx
open Go.Vc Go.Proofs.Tryz
def iN:List (Nat×List Sh):=[(0,[]),(3,[.one (.int .i64)]),(4,[.one .bool]),(28,[.agg [(.int .u8),(.int .u8),(.int .u8),(.int .i64),(.int .u8),.str,.slc,(.int .i64)]]),(47,[.one (.int .i64)]),(199,[.agg [(.int .u8),(.int .u8),(.int .u8),(.int .i64),(.int .u8),.str]])]
def ma.V(is:Bool)(e1:Int)(I:b8)(F:bZ)(Q:cc)  : Prop:=(It (!is) (Q (.panicked ([{ v:=Value.iface 155 (.agg #[.int .i64 e1]),recovered:=false }])) I F) (Q (.returned (.tuple #[])) I F))
theorem ma.vc{is:Bool}{e1:Int}{I:b8}{F:bZ}{Q:cc}  (h:ma.V is e1 I F Q):cd P 98 #[.bool is,.int .i64 e1] I F Q :=
 tw (A:=(an [1] [] iN)) [] func98 h
def kr.V(vb:Int→Value)(a c d e f:Int)(g:Bs)(h:OA)(i j:Nat)(k:Int)(I:b8)(F:bZ)(Q:cc)  : Prop:=∀l:Nat,∀b:Nat,Q (.returned (.agg #[vb a,vb c,vb d,.int .i64 e,vb f,.string g])) I (F)
theorem kr.vc{d e f g i:Int}{j:Bs}{a:OA}{b c:Nat}{k:Int}{I:b8}{F:bZ}{Q:cc}  (h:kr.V (.int .u8) d e f g i j a b c k I F Q):cd P 127 #[.agg #[.int .u8 d,.int .u8 e,.int .u8 f,.int .i64 g,.int .u8 i,.string j,.slice a b c,.int .i64 k]] I F Q :=
 tw (A:=(an [] [] iN)) [] func127 h
def il.V(vt:Bool→Value)(wr:Int→Int)(f g a b h:Int)(i:Bs)(c:OA)(d e:Nat)(j:Int)(I:b8)(F:bZ)(Q:cc)  : Prop:=∀k:Nat,(It (a==6) (It (b==(wr (0+1))) (Q (.returned (vt true)) I F) (Q (.returned (vt (b==(wr ((wr (0+1))+1))))) I F)) (It (a==5) (It (b==0) (Q (.returned (vt true)) I F) (Q (.returned (vt (b==(wr (0+1))))) I F)) (It (a==1) (Q (.returned (vt (decide (b≥0)))) I F) (It (a==2) (Q (.returned (vt (decide (b≥0)))) I F) (It (a==3) (Q (.returned (vt (decide (b≥0)))) I F) (It (a==4) (Q (.returned (vt (decide (b≥0)))) I F) (Q (.returned (vt false)) I F)))))))
theorem il.vc{d e f g i:Int}{j:Bs}{a:OA}{b c:Nat}{k:Int}{I:b8}{F:bZ}{Q:cc}  (h:il.V .bool (IntKind.wrap .i64) d e f g i j a b c k I F Q):cd P 125 #[.agg #[.int .u8 d,.int .u8 e,.int .u8 f,.int .i64 g,.int .u8 i,.string j,.slice a b c,.int .i64 k]] I F Q :=
 tw (A:=(an [3000,4000,5000,6000,7000,8000,10003] [] iN)) [] func125 h
def mb.V(ka:Nat→Int→Int→Int→Int→Int→Bs→Nat×Obj)(i:Nat→Nat×Obj)(nV:Int→Int→Int→Int→Int→Bs→OA→Nat→Nat→Int→Value)(nO:Int→Int→Int→Int→Int→Bs→OA→Nat→Nat→Int→Obj)(nL:Int→Int→Int→Int→Int→Bs→OA→Nat→Nat→Int→List Value)(vb vi:Int→Value)(vs:Bs→Value)(vt:Bool→Value)(h k w au n:Int)(ar:Bs)(y:OA)(l aE:Nat)(aH:Int)(I:b8)(F:bZ)(Q:cc)(Inv4:Int→Bool→Int→Int→Int→Int→Int→Bs→b8→bZ→Prop)(Inv70:Int→Nat→b8→bZ→Prop):Prop:=∀j:Nat,∀g:Nat,((It (h==1) (cJ P 125 #[nV h k w au n ar y l aE aH] I ((i j)::(ka g h 0 w au 0 (⟨#[]⟩:Bs))::·) F vt fun r I1 F1=>Inv4 0 r h 0 w au 0 (⟨#[]⟩:Bs) I1 F1) (It (h==2) (cJ P 126 #[vs ar] I ((i j)::(ka g h 0 0 0 0 ar)::·) F vt fun r1 I2 F2=>Inv4 0 r1 h 0 0 0 0 ar I2 F2) (It (h==3) (Dt (n≥1) (Dt (n≤3) (Inv4 0 true h 0 0 0 n (⟨#[]⟩:Bs) I F) (It (h==3) (Inv4 0 (decide (n≤6)) h 0 0 0 n (⟨#[]⟩:Bs) I F) (Inv4 0 false h 0 0 0 n (⟨#[]⟩:Bs) I F))) (Inv4 0 false h 0 0 0 n (⟨#[]⟩:Bs) I F)) (It (h==4) (Dt (n≥1) (Dt (n≤3) (Inv4 0 true h 0 0 0 n (⟨#[]⟩:Bs) I F) (It (h==3) (Inv4 0 (decide (n≤6)) h 0 0 0 n (⟨#[]⟩:Bs) I F) (Inv4 0 false h 0 0 0 n (⟨#[]⟩:Bs) I F))) (Inv4 0 false h 0 0 0 n (⟨#[]⟩:Bs) I F)) (It (h==5) (It (k==1) (Inv4 1 true h k 0 0 0 (⟨#[]⟩:Bs) I F) (Inv4 1 (k==2) h k 0 0 0 (⟨#[]⟩:Bs) I F)) (It (h==6) (Dt (6≤k) (Inv4 2 (decide (k≤18)) h k 0 0 0 (⟨#[]⟩:Bs) I F) (Inv4 2 false h k 0 0 0 (⟨#[]⟩:Bs) I F)) (It (h==7) (Inv4 3 true h 0 0 0 0 (⟨#[]⟩:Bs) I F) (It (h==8) (It (k==3) (Dt (3≤k) (Inv4 1 (decide (k≤5)) h k 0 0 0 (⟨#[]⟩:Bs) I F) (Inv4 1 false h k 0 0 0 (⟨#[]⟩:Bs) I F)) (Dt (3≤k) (Inv4 2 (decide (k≤5)) h k 0 0 0 (⟨#[]⟩:Bs) I F) (Inv4 2 false h k 0 0 0 (⟨#[]⟩:Bs) I F))) (It (h==9) (Dt (1≤w) (Inv4 1 (decide (w≤4)) h 0 w 0 0 (⟨#[]⟩:Bs) I F) (Inv4 1 false h 0 w 0 0 (⟨#[]⟩:Bs) I F)) (Inv4 0 false h 0 0 0 0 (⟨#[]⟩:Bs) I F)))))))))))∧∀(aF:Int) (is:Bool) (a b c d e:Int) (f:Bs) (I3:b8) (F3:bZ),b8.le I I3→Inv4 aF is a b c d e f I3 F3→(It is (∃(aI aJ aK aL aM:Int) (aN:Bs),(cd P 127 #[nV h k w au n ar y l aE aH] I3 ((i j)::(ka g a b c d e f)::F3) fun e3 I4 G3=>e3=.returned (.agg #[vb aI,vb aJ,vb aK,vi aL,vb aM,vs aN])∧List.Perm G3 ((i j)::(ka g a b c d e f)::F3))∧∃q:Bool,cP P .eql 199 (.tmp 113) (.tmp 115) (.agg #[vb a,vb b,vb c,vi d,vb e,vs f]) (.agg #[vb aI,vb aJ,vb aK,vi aL,vb aM,vs aN]) q∧(It q (cd P 98 (#[vt ((l:Int)==aF),vi 120]) I3 ((i j)::(ka g a b c d e f)::F3) fun e4 I5 G4=>((e4=.returned (.tuple #[])∧∃F4:bZ,List.Perm G4 ((i j)::(ka g a b c d e f)::F4)∧(∃m:Nat,Inv70 0 m I5 F4)∧∀(x:Int) (m1:Nat) (I6:b8) (F5:bZ),b8.le I5 I6→Inv70 x m1 I6 F5→(Dt (x<(l:Int)) ((0≤x∧x<(l:Int))∧∃ad:Addr,y=some ad∧∃(av aw ax ay az:Int) (aA:Bs) (z:OA) (aa ab:Nat) (aB:Int),Rd I6 ((i j)::(ka g a b c d e f)::F5) (ad.add (Int.toNat x*8)) (nL av aw ax ay az aA z aa ab aB)∧∀aG:Nat,cd P 97 #[nV av aw ax ay az aA z aa ab aB] I6 ((i j)::(ka g a b c d e f)::(aG,nO av aw ax ay az aA z aa ab aB)::F5) fun e5 I7 G5=>((e5=.returned (.tuple #[])∧∃F6:bZ,List.Perm G5 ((i j)::(ka g a b c d e f)::(aG,nO av aw ax ay az aA z aa ab aB)::F6)∧(∃m2:Nat,m2<m1∧Inv70 (IntKind.wrap .i64 (x+1)) m2 I7 F6))∨(∃ch:List PanicEntry,e5=.panicked ch∧∃F7:bZ,List.Perm G5 ((i j)::(ka g a b c d e f)::(aG,nO av aw ax ay az aA z aa ab aB)::F7)∧Q (.panicked ch) I7 F7))) (Q (.returned (.tuple #[])) I6 F5)))∨(∃aO:List PanicEntry,e4=.panicked aO∧∃F8:bZ,List.Perm G4 ((i j)::(ka g a b c d e f)::F8)∧Q (.panicked aO) I5 F8))) (cd P 98 #[vt false,vi 120] I3 ((i j)::(ka g a b c d e f)::F3) fun e6 I8 G6=>((e6=.returned (.tuple #[])∧∃F9:bZ,List.Perm G6 ((i j)::(ka g a b c d e f)::F9)∧(∃m3:Nat,Inv70 0 m3 I8 F9)∧∀(x1:Int) (m4:Nat) (I9:b8) (F10:bZ),b8.le I8 I9→Inv70 x1 m4 I9 F10→(Dt (x1<(l:Int)) ((0≤x1∧x1<(l:Int))∧∃aP:Addr,y=some aP∧∃(ac ae af ag ah:Int) (ai:Bs) (o:OA) (p s:Nat) (aj:Int),Rd I9 ((i j)::(ka g a b c d e f)::F10) (aP.add (Int.toNat x1*8)) (nL ac ae af ag ah ai o p s aj)∧∀aC:Nat,cd P 97 #[nV ac ae af ag ah ai o p s aj] I9 ((i j)::(ka g a b c d e f)::(aC,nO ac ae af ag ah ai o p s aj)::F10) fun e7 I10 G7=>((e7=.returned (.tuple #[])∧∃F11:bZ,List.Perm G7 ((i j)::(ka g a b c d e f)::(aC,nO ac ae af ag ah ai o p s aj)::F11)∧(∃m5:Nat,m5<m4∧Inv70 (IntKind.wrap .i64 (x1+1)) m5 I10 F11))∨(∃aQ:List PanicEntry,e7=.panicked aQ∧∃F12:bZ,List.Perm G7 ((i j)::(ka g a b c d e f)::(aC,nO ac ae af ag ah ai o p s aj)::F12)∧Q (.panicked aQ) I10 F12))) (Q (.returned (.tuple #[])) I9 F10)))∨(∃aR:List PanicEntry,e6=.panicked aR∧∃F13:bZ,List.Perm G6 ((i j)::(ka g a b c d e f)::F13)∧Q (.panicked aR) I8 F13))))) (cd P 98 #[vt false,vi 120] I3 ((i j)::(ka g a b c d e f)::F3) fun e8 I11 G8=>((e8=.returned (.tuple #[])∧∃F14:bZ,List.Perm G8 ((i j)::(ka g a b c d e f)::F14)∧(∃m6:Nat,Inv70 0 m6 I11 F14)∧∀(x2:Int) (m7:Nat) (I12:b8) (F15:bZ),b8.le I11 I12→Inv70 x2 m7 I12 F15→(Dt (x2<(l:Int)) ((0≤x2∧x2<(l:Int))∧∃aS:Addr,y=some aS∧∃(ak al am an ao:Int) (ap:Bs) (t:OA) (u v:Nat) (aq:Int),Rd I12 ((i j)::(ka g a b c d e f)::F15) (aS.add (Int.toNat x2*8)) (nL ak al am an ao ap t u v aq)∧∀aD:Nat,cd P 97 #[nV ak al am an ao ap t u v aq] I12 ((i j)::(ka g a b c d e f)::(aD,nO ak al am an ao ap t u v aq)::F15) fun e9 I13 G9=>((e9=.returned (.tuple #[])∧∃F16:bZ,List.Perm G9 ((i j)::(ka g a b c d e f)::(aD,nO ak al am an ao ap t u v aq)::F16)∧(∃m8:Nat,m8<m7∧Inv70 (IntKind.wrap .i64 (x2+1)) m8 I13 F16))∨(∃aT:List PanicEntry,e9=.panicked aT∧∃F17:bZ,List.Perm G9 ((i j)::(ka g a b c d e f)::(aD,nO ak al am an ao ap t u v aq)::F17)∧Q (.panicked aT) I13 F17))) (Q (.returned (.tuple #[])) I12 F15)))∨(∃aU:List PanicEntry,e8=.panicked aU∧∃F18:bZ,List.Perm G8 ((i j)::(ka g a b c d e f)::F18)∧Q (.panicked aU) I11 F18))))
theorem mb.vc{p r u v w:Int}{x:Bs}{g:OA}{i j:Nat}{y:Int}{I:b8}{F:bZ}{Q:cc}(Inv4:Int→Bool→Int→Int→Int→Int→Int→Bs→b8→bZ→Prop)(Inv70:Int→Nat→b8→bZ→Prop)(h:mb.V (fun W a b c d e f=>(W,Obj.cells #[.int .u8 a,.int .u8 b,.int .u8 c,.int .i64 d,.int .u8 e,.string f] 199 (0,0))) (fun b=>(b,Obj.cells #[.int .u8 p,.int .u8 r,.int .u8 u,.int .i64 v,.int .u8 w,.string x,.slice g i j,.int .i64 y] 28 (0,0))) (fun k o t n f s a l c q=>.agg #[.int .u8 k,.int .u8 o,.int .u8 t,.int .i64 n,.int .u8 f,.string s,.slice a l c,.int .i64 q]) (fun k o t n f s a l c q=>.cells #[.int .u8 k,.int .u8 o,.int .u8 t,.int .i64 n,.int .u8 f,.string s,.slice a l c,.int .i64 q] 28 (0,0)) (fun k o t n f s a l c q=>[.int .u8 k,.int .u8 o,.int .u8 t,.int .i64 n,.int .u8 f,.string s,.slice a l c,.int .i64 q]) (.int .u8) (.int .i64) .string .bool p r u v w x g i j y I F Q Inv4 Inv70):cd P 97 #[.agg #[.int .u8 p,.int .u8 r,.int .u8 u,.int .i64 v,.int .u8 w,.string x,.slice g i j,.int .i64 y]] I F Q :=
 tw (A:=(cO [4000,7000,10000,11000,13002,13006,13010,14000,16002,17000,19002,20000,22000,24002,26002,27000,29002,30000,30005,32000] [97,98] [97,98,125,126,127] iN [(4,⟨[(3,(.int .i64)),(4,.bool)],[(1,[(.int .u8),(.int .u8),(.int .u8),(.int .i64),(.int .u8),.str])],fun _ _ _ vs m I F=>match vs with | [.int _ y0,.bool y1,.int _ y2,.int _ y3,.int _ y4,.int _ y5,.int _ y6,.string y7]=>Inv4 y0 y1 y2 y3 y4 y5 y6 y7 I F | _=>False,[],[]⟩),(70,⟨[(129,(.int .i64))],[],fun _ _ _ vs m I F=>match vs with | [.int _ y0]=>Inv70 y0 m I F | _=>False,[],[]⟩)] [] [] [(5,5,[1])] [] [] [(5,6),(30,14)])) [97,98,125,126,127] func97 h
def mc.V(a:Nat→Nat×Obj)(nV:Int→Int→Int→Int→Int→Bs→OA→Nat→Nat→Int→Value)(f g h i j:Int)(k:Bs)(c:OA)(d e:Nat)(l:Int)(I:b8)(F:bZ)(Q:cc)  : Prop:=∀b:Nat,cd P 97 #[nV f g h i j k c d e l] I ((a b)::F) fun e1 I1 G1=>((e1=.returned (.tuple #[])∧∃F1:bZ,List.Perm G1 ((a b)::F1)∧cJ P 99 #[nV f g h i j k c d e l] I1 ((a b)::·) F1 (.int .i64) fun r I2 F2=>cd P 98 (#[.bool (decide (r≤24)),.int .i64 122]) I2 ((a b)::F2) fun e3 I3 G3=>((e3=.returned (.tuple #[])∧∃F3:bZ,List.Perm G3 ((a b)::F3)∧Q (.returned (.tuple #[])) I3 F3)∨(∃ch:List PanicEntry,e3=.panicked ch∧∃F4:bZ,List.Perm G3 ((a b)::F4)∧Q (.panicked ch) I3 F4)))∨(∃m:List PanicEntry,e1=.panicked m∧∃F5:bZ,List.Perm G1 ((a b)::F5)∧Q (.panicked m) I1 F5))
theorem mc.vc{i j m p r:Int}{u:Bs}{d:OA}{e g:Nat}{v:Int}{I:b8}{F:bZ}{Q:cc}  (h:mc.V (fun b=>(b,Obj.cells #[.int .u8 i,.int .u8 j,.int .u8 m,.int .i64 p,.int .u8 r,.string u,.slice d e g,.int .i64 v] 28 (0,0))) (fun k o t n f s a l c q=>.agg #[.int .u8 k,.int .u8 o,.int .u8 t,.int .i64 n,.int .u8 f,.string s,.slice a l c,.int .i64 q]) i j m p r u d e g v I F Q):cd P 59 #[.agg #[.int .u8 i,.int .u8 j,.int .u8 m,.int .i64 p,.int .u8 r,.string u,.slice d e g,.int .i64 v]] I F Q :=
 tw (A:=(cO [] [97,98] [97,98,99] iN [] [] [] [] [] [] [])) [97,98,99] func59 h
def fY.V(nO:Int→Int→Int→Int→Int→Bs→OA→Nat→Nat→Int→Obj)(o p q s t:Int)(u:Bs)(e:OA)(f g:Nat)(v:Int)(I:b8)(F:bZ)(Q:cc)  : Prop:=∀d:Nat,cd P 57 (#[.func (.func 58) #[] #[.pointer (some ⟨d,0,none⟩)]]) I ((d,nO o p q s t u e f g v)::F) fun e1 I1 G1=>∃(r:Int),e1=.returned (.int .i64 r)∧∃(h i j k l:Int) (m:Bs) (a:OA) (b c:Nat) (n:Int),∃F1:bZ,List.Perm G1 ((d,nO h i j k l m a b c n)::F1)∧Q (.returned (.int .i64 r)) I1 (F1)
theorem fY.vc{g i j m p:Int}{r:Bs}{b:OA}{d e:Nat}{u:Int}{I:b8}{F:bZ}{Q:cc}  (h:fY.V (fun k o t n f s a l c q=>.cells #[.int .u8 k,.int .u8 o,.int .u8 t,.int .i64 n,.int .u8 f,.string s,.slice a l c,.int .i64 q] 28 (0,0)) g i j m p r b d e u I F Q):cd P 31 #[.agg #[.int .u8 g,.int .u8 i,.int .u8 j,.int .i64 m,.int .u8 p,.string r,.slice b d e,.int .i64 u]] I F Q :=
 tw (A:=(an [] [57] iN)) [57] func31 h
def eV.V(vb vi:Int→Value)(c:Addr)(I:b8)(F:bZ)(Q:cc)  : Prop:=∃(e f g h i:Int) (j:Bs) (a:OA) (b d:Nat) (k:Int),Rd I F c [vb e,vb f,vb g,vi h,vb i,.string j,.slice a b d,vi k]∧cd P 59 #[.agg #[vb e,vb f,vb g,vi h,vb i,.string j,.slice a b d,vi k]] I F fun e1 I1 G1=>((e1=.returned (.tuple #[])∧∃F1:bZ,List.Perm G1 F1∧Q (.returned (.tuple #[])) I1 F1)∨(∃ch:List PanicEntry,e1=.panicked ch∧∃F2:bZ,List.Perm G1 F2∧Q (.panicked ch) I1 F2))
theorem eV.vc{c:Addr}{I:b8}{F:bZ}{Q:cc}  (h:eV.V (.int .u8) (.int .i64) c I F Q):cd P 58 #[.pointer (some c)] I F Q :=
 tw (A:=(cO [] [59] [59] iN [] [] [] [] [] [] [])) [59] func58 h
def kv.V(vi:Int→Value)(b a f g h:Int)(i:Bs)(c:OA)(d e:Nat)(j:Int)(I:b8)(F:bZ)(Q:cc)  : Prop:=∀k:Nat,(It (b==7) (Q (.returned (vi 1)) I F) (It (b==5) (Q (.returned (vi 7)) I F) (It (b==6) (It (a==18) (Q (.returned (vi 2)) I F) (It (a==17) (Q (.returned (vi 3)) I F) (Dt (a≥11) (Q (.returned (vi 4)) I F) (Dt (a≥8) (Q (.returned (vi 6)) I F) (Q (.returned (vi 5)) I F))))) (Q (.returned (vi 8)) I F))))
theorem kv.vc{d e f g i:Int}{j:Bs}{a:OA}{b c:Nat}{k:Int}{I:b8}{F:bZ}{Q:cc}  (h:kv.V (.int .i64) d e f g i j a b c k I F Q):cd P 128 #[.agg #[.int .u8 d,.int .u8 e,.int .u8 f,.int .i64 g,.int .u8 i,.string j,.slice a b c,.int .i64 k]] I F Q :=
 tw (A:=(an [2000,4000,6000,8001,10001,12001,14001] [] iN)) [] func128 h
def kx.V(nO:Int→Int→Int→Int→Int→Bs→OA→Nat→Nat→Int→Obj)(vb vi:Int→Value)(e f g h i:Int)(j:Bs)(a:OA)(b c:Nat)(k d:Int)(I:b8)(F:bZ)(Q:cc)  : Prop:=∀l:Nat,cJ P 128 #[.agg #[vb e,vb f,vb g,vi h,vb i,.string j,.slice a b c,vi k]] I ((l,nO e f g h i j a b c k)::·) F vi fun r I1 F1=>(It (r==1) (It (d==0) (Q (.returned (vi 2)) I1 F1) (It (r==4) (Q (.returned (vi 5)) I1 F1) (It (r==7) (Q (.returned (vi 7)) I1 F1) (It (r==1) (Q (.returned (vi 1)) I1 F1) (It (r==8) (Q (.returned (vi 1)) I1 F1) (Q (.returned (vi (IntKind.wrap .i64 (r+d)))) I1 F1)))))) (It (r==4) (Q (.returned (vi 5)) I1 F1) (It (r==7) (Q (.returned (vi 7)) I1 F1) (It (r==1) (Q (.returned (vi 1)) I1 F1) (It (r==8) (Q (.returned (vi 1)) I1 F1) (Q (.returned (vi (IntKind.wrap .i64 (r+d)))) I1 F1))))))
theorem kx.vc{g i j m p:Int}{r:Bs}{b:OA}{d e:Nat}{u v:Int}{I:b8}{F:bZ}{Q:cc}  (h:kx.V (fun k o t n f s a l c q=>.cells #[.int .u8 k,.int .u8 o,.int .u8 t,.int .i64 n,.int .u8 f,.string s,.slice a l c,.int .i64 q] 28 (0,0)) (.int .u8) (.int .i64) g i j m p r b d e u v I F Q):cd P 129 #[.agg #[.int .u8 g,.int .u8 i,.int .u8 j,.int .i64 m,.int .u8 p,.string r,.slice b d e,.int .i64 u],.int .i64 v] I F Q :=
 tw (A:=(an [3001,3004,5001,7001,9001,9004] [128] iN)) [128] func129 h
def ky.V(o:Nat→Nat×Obj)(nV:Int→Int→Int→Int→Int→Bs→OA→Nat→Nat→Int→Value)(nO:Int→Int→Int→Int→Int→Bs→OA→Nat→Nat→Int→Obj)(vb vi:Int→Value)(wr:Int→Int)(e u v w y:Int)(z:Bs)(s:OA)(n t:Nat)(aa:Int)(I:b8)(F:bZ)(Q:cc)(Inv8:Int→Int→Nat→b8→bZ→Prop):Prop:=∀p:Nat,(∃m:Nat,Inv8 0 0 m I F)∧∀(a x:Int) (m1:Nat) (I1:b8) (F1:bZ),b8.le I I1→Inv8 a x m1 I1 F1→(Dt (x<(n:Int)) ((0≤x∧x<(n:Int))∧∃ad:Addr,s=some ad∧∃(f g h i j:Int) (k:Bs) (b:OA) (c d:Nat) (l:Int),Rd I1 ((o p)::F1) (ad.add (Int.toNat x*8)) [vb f,vb g,vb h,vi i,vb j,.string k,.slice b c d,vi l]∧∀q:Nat,cJ P 99 #[nV f g h i j k b c d l] I1 ((o p)::(q,nO f g h i j k b c d l)::·) F1 vi fun r I2 F2=>∃(r1:Int),(cd P 128 #[nV f g h i j k b c d l] I2 ((o p)::(q,nO f g h i j k b c d l)::F2) fun e2 I3 G2=>e2=.returned (vi r1)∧List.Perm G2 ((o p)::(q,nO f g h i j k b c d l)::F2))∧∃(r2:Int),(cd P 129 #[nV e u v w y z s n t aa,vi x] I2 ((o p)::(q,nO f g h i j k b c d l)::F2) fun e3 I4 G3=>e3=.returned (vi r2)∧List.Perm G3 ((o p)::(q,nO f g h i j k b c d l)::F2))∧(Dt (r1<r2) (It (e==6) (∃m2:Nat,m2<m1∧Inv8 (if (wr (r+1))>a then wr (r+1) else a) (wr (x+1)) m2 I2 F2) (It (e==7) (∃m3:Nat,m3<m1∧Inv8 (if (wr ((wr (r+1))+(if 1<x then 1 else x)))>a then wr ((wr (r+1))+(if 1<x then 1 else x)) else a) (wr (x+1)) m3 I2 F2) (∃m4:Nat,m4<m1∧Inv8 (if (wr ((wr (r+1))+1))>a then wr ((wr (r+1))+1) else a) (wr (x+1)) m4 I2 F2))) (It (e==6) (∃m5:Nat,m5<m1∧Inv8 (if r>a then r else a) (wr (x+1)) m5 I2 F2) (It (e==7) (∃m6:Nat,m6<m1∧Inv8 (if (wr (r+(if 1<x then 1 else x)))>a then wr (r+(if 1<x then 1 else x)) else a) (wr (x+1)) m6 I2 F2) (∃m7:Nat,m7<m1∧Inv8 (if (wr (r+1))>a then wr (r+1) else a) (wr (x+1)) m7 I2 F2))))) (Q (.returned (vi a)) I1 F1))
theorem ky.vc{i j p r u:Int}{v:Bs}{d:OA}{e g:Nat}{w:Int}{I:b8}{F:bZ}{Q:cc}(Inv8:Int→Int→Nat→b8→bZ→Prop)(h:ky.V (fun b=>(b,Obj.cells #[.int .u8 i,.int .u8 j,.int .u8 p,.int .i64 r,.int .u8 u,.string v,.slice d e g,.int .i64 w] 28 (0,0))) (fun k o t n f s a l c q=>.agg #[.int .u8 k,.int .u8 o,.int .u8 t,.int .i64 n,.int .u8 f,.string s,.slice a l c,.int .i64 q]) (fun k o t n f s a l c q=>.cells #[.int .u8 k,.int .u8 o,.int .u8 t,.int .i64 n,.int .u8 f,.string s,.slice a l c,.int .i64 q] 28 (0,0)) (.int .u8) (.int .i64) (IntKind.wrap .i64) i j p r u v d e g w I F Q Inv8):cd P 99 #[.agg #[.int .u8 i,.int .u8 j,.int .u8 p,.int .i64 r,.int .u8 u,.string v,.slice d e g,.int .i64 w]] I F Q :=
 tw (A:=(cO [3000,6005,10000,11000] [] [99,128,129] iN [(8,⟨[(3,(.int .i64)),(10,(.int .i64))],[],fun _ _ _ vs m I F=>match vs with | [.int _ y0,.int _ y1]=>Inv8 y0 y1 m I F | _=>False,[],[]⟩)] [] [] [] [] [] [])) [99,128,129] func99 h
def ji.V(b:Nat→Nat×Obj)(vi:Int→Value)(i:Fn)(e f:Array Value)(I:b8)(F:bZ)(Q:cc)  : Prop:=∀a:Nat,oA P (.func i e f) [] I ((b a)::F) fun e1 I1 G1=>((e1=.returned (.tuple #[])∧∃F1:bZ,List.Perm G1 ((b a)::F1)∧so P 96 [.pointer (some ⟨a,0,none⟩)] .returning I1 ((b a)::F1) fun e2 u I2 G2=>∃v:Value,e2=.returned v∧∃(d:Int),∃F2:bZ,List.Perm G2 ((a,Obj.cells #[vi d] 47 (0,0))::F2)∧((settle u=.returning∧Q (.returned (vi d)) I2 F2)∨(∃ch:List PanicEntry,settle u=.panicking ch∧Q (.panicked ch) I2 F2)))∨(∃g:List PanicEntry,e1=.panicked g∧∃F3:bZ,List.Perm G1 ((b a)::F3)∧so P 96 [.pointer (some ⟨a,0,none⟩)] (.panicking g) I1 ((b a)::F3) fun e3 u1 I3 G3=>∃v1:Value,e3=.returned v1∧∃(c:Int),∃F4:bZ,List.Perm G3 ((a,Obj.cells #[vi c] 47 (0,0))::F4)∧((settle u1=.returning∧Q (.returned (vi c)) I3 F4)∨(∃h:List PanicEntry,settle u1=.panicking h∧Q (.panicked h) I3 F4))))
theorem ji.vc{d:Fn}{a c:Array Value}{I:b8}{F:bZ}{Q:cc}  (h:ji.V (fun b=>(b,Obj.cells #[.int .i64 0] 47 (0,0))) (.int .i64) d a c I F Q):cd P 57 #[.func d a c] I F Q :=
 tw (A:=(cO [] [0] [96] iN [] [] [] [] [2001] [] [])) [96] func57 h
end Go.Lx
namespace Go.Lx
open Go.Vc
def kz(e:Int):List PanicEntry:=[{ v:=.iface 155 (.agg #[.int .i64 e]),recovered:=false }]
def pP(b:Bool)(err:Int)(F:bZ)(e:Ending)(I:b8)(G:bZ):Prop:=e=(if b then .returned (.tuple #[]) else .panicked (kz err))∧G=F
theorem jU(b:Bool)(err:Int)(I:b8)(F:bZ):cd P 98 #[.bool b,.int .i64 err] I F (pP b err F):=by
 refine ma.vc ?_
 unfold ma.V
 refine⟨fun h=>⟨?_,rfl⟩,fun h=>⟨?_,rfl⟩⟩
 ·rw[if_neg (by simpa using h)];rfl
 ·rw[if_pos (by simpa using h)]
theorem ri(t:Nd)(I:b8)(F:bZ):cd P 127 #[t.v] I F (gq (.agg #[.int .u8 t.kind,.int .u8 t.oper,.int .u8 t.cp,.int .i64 t.n,.int .u8 t.field,.string t.name]) F):=by
 refine kr.vc ?_
 unfold kr.V
 exact fun b_n b=>⟨rfl,rfl⟩
theorem sr(t:Nd)(I:b8)(F:bZ):cd P 125 #[t.v] I F (gq (.bool t.px.zi) F):=by
 refine il.vc ?_
 unfold il.V
 intro b_n
 unfold Px.zi
 rw[Nd.jD,Nd.zh]
 have w1:IntKind.wrap .i64 (0+1)=1:=by decide
 have w2:IntKind.wrap .i64 (1+1)=2:=by decide
 rw[w1,w2]
 refine⟨fun h=>⟨fun h'=>⟨?_,rfl⟩,fun h'=>⟨?_,rfl⟩⟩,fun h1=>⟨fun h=>⟨fun h'=>⟨?_,rfl⟩,fun h'=>⟨?_,rfl⟩⟩,fun h2=>⟨fun h=>⟨?_,rfl⟩,fun h3=>⟨fun h=>⟨?_,rfl⟩,fun h4=>⟨fun h=>⟨?_,rfl⟩,fun h5=>⟨fun h=>⟨?_,rfl⟩,fun h6=>⟨?_,rfl⟩⟩⟩⟩⟩⟩⟩
 ·have h:t.cp=6:=by simpa using h
  have h':t.n=1:=by simpa using h'
  simp[h,h']
 ·have h:t.cp=6:=by simpa using h
  have h':t.n≠1:=by simpa using h'
  congr 2;rw[if_pos h,Bool.eq_iff_iff];simp[h']
 ·have h:t.cp=5:=by simpa using h
  have h':t.n=0:=by simpa using h'
  simp[h,h']
 ·have h:t.cp=5:=by simpa using h
  have h':t.n≠0:=by simpa using h'
  congr 2;rw[if_neg (by omega),if_pos h,Bool.eq_iff_iff];simp[h']
 ·have h:t.cp=1:=by simpa using h
  simp[h]
 ·have h:t.cp=2:=by simpa using h
  simp[h]
 ·have h:t.cp=3:=by simpa using h
  simp[h]
 ·have h:t.cp=4:=by simpa using h
  simp[h]
 ·have e6:t.cp≠6:=by simpa using h1
  have e5:t.cp≠5:=by simpa using h2
  have e1:t.cp≠1:=by simpa using h3
  have e2:t.cp≠2:=by simpa using h4
  have e3:t.cp≠3:=by simpa using h5
  have e4:t.cp≠4:=by simpa using h6
  rw[if_neg e6,if_neg e5,if_neg (by omega)]
theorem pB(t:Nd)(I:b8)(F:bZ):cd P 128 #[t.v] I F (gq (.int .i64 t.px.level) F):=by
 refine kv.vc ?_
 unfold kv.V
 intro b_n
 unfold Px.level
 rw[Nd.cQ,Nd.ig]
 refine⟨fun h=>⟨?_,rfl⟩,fun h1=>⟨fun h=>⟨?_,rfl⟩,fun h2=>⟨fun h=>⟨fun h'=>⟨?_,rfl⟩,fun h3=>⟨fun h'=>⟨?_,rfl⟩,fun h4=>⟨fun h'=>⟨?_,rfl⟩,fun h5=>⟨fun h'=>⟨?_,rfl⟩,fun h6=>⟨?_,rfl⟩⟩⟩⟩⟩,fun h=>⟨?_,rfl⟩⟩⟩⟩
 all_goals (try simp only[decide_eq_true_eq,decide_eq_false_iff_not,beq_iff_eq,beq_eq_false_iff_ne] at *)
 all_goals (congr 2;(repeat' split)<;>first | rfl | omega)
theorem xm:P.underlying 199=some (.struct (P.fieldsOf 199)):=by kernel_rfl
theorem xo:P.stoodInHeld 199=false:=by kernel_rfl
theorem xp:P.eqGuardType P.depth 199=false:=by kernel_rfl
def Dw(k o ty n f:Int)(s:ByteArray)(k' o' ty' n' f':Int)(s':ByteArray):Bool:=k==k'&&(o==o'&&(ty==ty'&&(n==n'&&(f==f'&&(s.toList==s'.toList&&true)))))
theorem zq(k o ty n f:Int)(s:ByteArray)(k' o' ty' n' f':Int)(s':ByteArray) :
  oI P #[.int .u8 k,.int .u8 o,.int .u8 ty,.int .i64 n,.int .u8 f,.string s] #[.int .u8 k',.int .u8 o',.int .u8 ty',.int .i64 n',.int .u8 f',.string s'] (P.fieldsOf 199).toList=some (Dw k o ty n f s k' o' ty' n' f' s'):=by kernel_rfl
theorem vr(k o ty n f:Int)(s:ByteArray)(k' o' ty' n' f':Int)(s':ByteArray){x y:Operand} :
  cP P .eql 199 x y (.agg #[.int .u8 k,.int .u8 o,.int .u8 ty,.int .i64 n,.int .u8 f,.string s]) (.agg #[.int .u8 k',.int .u8 o',.int .u8 ty',.int .i64 n',.int .u8 f',.string s']) (Dw k o ty n f s k' o' ty' n' f' s') :=
 qX xm xo xp (zq ..)
theorem pP.use{Pr:Program}{f:FuncId}{args:Array Value}{I:b8}{F:bZ}{b:Bool}{err:Int}{Q:Ending→b8→bZ→Prop}(h:cd Pr f args I F (pP b err F))
  (k1:b=true→∀I',b8.le I I'→Q (.returned (.tuple #[])) I' F) (k2:b=false→∀I',b8.le I I'→Q (.panicked (kz err)) I' F):cd Pr f args I F Q :=
 h.mono fun e I' G hl ⟨he,hG⟩=>by
  subst hG
  cases hb:b with
  | true=>rw[hb] at he;subst he;exact k1 hb I' hl
  | false=>rw[hb] at he;subst he;exact k2 hb I' hl
def sW(t:Nd)(kids:Int)(is:Bool)(k o ty n f:Int)(s:ByteArray):Bool:=is&&(Dw k o ty n f s t.kind t.oper t.cp t.n t.field t.name&&decide (t.kids.length=kids.toNat))
theorem rj:∀(t:Nd),t.px.size≤4194304→∀(I:b8) (F:bZ),cB I F t→cd P 97 #[t.v] I F (pP t.px.formed 120 F):=by
 refine Nd.ind fun t ih hs I F ht=>?_
 have hln:=lu hs
 refine mb.vc (fun kids is k o ty n f s I' F'=>sW t kids is k o ty n f s=t.px.fT∧0≤kids∧F'=F)
  (fun i m I' F'=>0≤i∧i≤t.kids.length∧m=(t.kids.length-i).toNat∧t.px.formed=Px.fq ((t.kids.drop i.toNat).map Nd.px)∧F'=F) ?_
 unfold mb.V
 intro b_n b_want
 refine⟨?_,fun kids is k o ty n f s I3 F3 hI3 ⟨hw,hk0,hF⟩=>?_⟩
 ·unfold sW Dw Px.fT Px.vf Px.AA Px.arity
  simp only[Nd.cQ,Nd.ig,Nd.jD,Nd.zh,Nd.jS,Nd.gE,Nd.gY]
  have zb:∀x:Int,(0==x)=(x==0):=fun x=>by rw[Bool.eq_iff_iff];simp only[beq_iff_eq];omega
  have sb:∀s:ByteArray,((⟨#[]⟩:ByteArray).toList==s.toList)=(s.toList==[]):=fun s=>by rw[dv,Bool.eq_iff_iff];simp only[beq_iff_eq];exact eq_comm
  refine⟨fun h=>cd.ret (sr t I _) fun I1 hI1=>⟨_,rfl,F,.refl _, ?_,Int.le_refl 0,rfl⟩,fun h1=>⟨fun h=>cd.ret (sU (t:=t.name) I _) fun I1 hI1=>⟨_,rfl,F,.refl _, ?_,Int.le_refl 0,rfl⟩,
   fun h2=>⟨fun h=>⟨fun h'=>⟨fun h''=>⟨?_,by decide,by trivial⟩,fun h''=>⟨fun h3'=>⟨?_,by decide,by trivial⟩,fun h3'=>⟨?_,by decide,by trivial⟩⟩⟩,fun h'=>⟨?_,by decide,by trivial⟩⟩,
   fun h3=>⟨fun h=>⟨fun h'=>⟨fun h''=>⟨?_,by decide,by trivial⟩,fun h''=>⟨fun h3'=>⟨?_,by decide,by trivial⟩,fun h3'=>⟨?_,by decide,by trivial⟩⟩⟩,fun h'=>⟨?_,by decide,by trivial⟩⟩,
   fun h4=>⟨fun h=>⟨fun h'=>⟨?_,by decide,by trivial⟩,fun h'=>⟨?_,by decide,by trivial⟩⟩,
   fun h5=>⟨fun h=>⟨fun h'=>⟨?_,by decide,by trivial⟩,fun h'=>⟨?_,by decide,by trivial⟩⟩,
   fun h6=>⟨fun h=>⟨?_,by decide,by trivial⟩,
   fun h7=>⟨fun h=>⟨fun h'=>⟨fun h''=>⟨?_,by decide,by trivial⟩,fun h''=>⟨?_,by decide,by trivial⟩⟩,fun h'=>⟨fun h''=>⟨?_,by decide,by trivial⟩,fun h''=>⟨?_,by decide,by trivial⟩⟩⟩,
   fun h8=>⟨fun h=>⟨fun h'=>⟨?_,by decide,by trivial⟩,fun h'=>⟨?_,by decide,by trivial⟩⟩,
   fun h9=>⟨?_,by decide,by trivial⟩⟩⟩⟩⟩⟩⟩⟩⟩⟩
  all_goals first
   | (simp only[beq_iff_eq] at h
      try simp only[decide_eq_true_eq,decide_eq_false_iff_not,beq_iff_eq,beq_eq_false_iff_ne] at h'
      try simp only[decide_eq_true_eq,decide_eq_false_iff_not,beq_iff_eq,beq_eq_false_iff_ne] at h''
      try simp only[decide_eq_true_eq,decide_eq_false_iff_not,beq_iff_eq,beq_eq_false_iff_ne] at h3'
      simp[*,Bool.and_assoc]
      done)
   | (exfalso
      simp only[decide_eq_true_eq,decide_eq_false_iff_not,beq_iff_eq,beq_eq_false_iff_ne] at *
      omega)
   | skip
  ·have h:t.kind=3:=by simpa using h
   have h':=of_decide_eq_true h'
   have h'':=of_decide_eq_true h''
   have:decide (1≤t.field∧t.field≤6)=true:=decide_eq_true (by omega)
   simp[h,this,zb,sb,Bool.and_assoc]
  ·have h:t.kind=5:=by simpa using h
   have h':t.oper≠1:=by simpa using h'
   have:decide (t.oper=1∨t.oper=2)=(t.oper==2):=by rw[Bool.eq_iff_iff];simp[h']
   simp[h,this,zb,sb,Bool.and_assoc]
  ·have e1:t.kind≠1:=by simpa using h1
   have e2:t.kind≠2:=by simpa using h2
   have e3:t.kind≠3:=by simpa using h3
   have e4:t.kind≠4:=by simpa using h4
   have e5:t.kind≠5:=by simpa using h5
   have e6:t.kind≠6:=by simpa using h6
   have e7:t.kind≠7:=by simpa using h7
   have e8:t.kind≠8:=by simpa using h8
   have e9:t.kind≠9:=by simpa using h9
   simp[e1,e2,e3,e4,e5,e6,e7,e8,e9]
 ·subst hF
  refine⟨fun his=>⟨_,_,_,_,_,_,(ri t I3 _).AD,_,vr k o ty n f s t.kind t.oper t.cp t.n t.field t.name,fun hq=>pP.use (jU _ 120 I3 _) (fun hb I5 hI5=>.inl ⟨rfl,F3,.refl _, ?_⟩) (fun hb I5 hI5=>.inr ⟨_,rfl,F3,.refl _, ?_,rfl⟩),
   fun hq=>pP.use (jU _ 120 I3 _) (fun hb I5 hI5=>by cases hb) (fun hb I5 hI5=>.inr ⟨_,rfl,F3,.refl _, ?_,rfl⟩)⟩,
   fun his=>pP.use (jU _ 120 I3 _) (fun hb I5 hI5=>by cases hb) (fun hb I5 hI5=>.inr ⟨_,rfl,F3,.refl _, ?_,rfl⟩)⟩
  ·have hone:t.px.fT=true:=by
    rw[←hw,sW,his,hq,Bool.true_and,Bool.true_and,decide_eq_true_iff]
    have:(t.kids.length:Int)=kids:=by simpa using hb
    omega
   refine⟨⟨_,by omega,by omega,rfl,by rw[Px.dY,hone,Nd.dH];rfl,rfl⟩,fun x m I6 F5 hI6 ⟨g0,g1,gm,gf,gF⟩=>⟨fun hlt=>?_,fun hlt=>⟨?_,gF⟩⟩⟩
   ·have hlt:=of_decide_eq_true hlt
    subst gF
    have ht1:cB I6 ((b_n,.cells t.enc.toArray 28 (0,0))::(b_want,.cells #[.int .u8 k,.int .u8 o,.int .u8 ty,.int .i64 n,.int .u8 f,.string s] 199 (0,0))::F5) t:=(ht.mono (b8.le_trans hI3 (b8.le_trans hI5 hI6)) fun _ h=>h).cons.cons
    obtain⟨ad,y,had,hy,hrd,hyo,hym⟩:=ht1.kids.at g0 hlt
    refine⟨⟨g0,hlt⟩,ad,had,_,_,_,_,_,_,_,_,_,_,hrd,fun b_k=>pP.use (ih y hym (jT hym hs) I6 _ (hyo.mono (b8.le_refl _) fun z hz=>by
      rcases List.mem_cons.1 hz with hz | hz
      ·exact hz▸List.mem_cons_self ..
      ·rcases List.mem_cons.1 hz with hz | hz
       ·exact List.mem_cons_of_mem _ (hz▸List.mem_cons_self ..)
       ·exact List.mem_cons_of_mem _ (List.mem_cons_of_mem _ (List.mem_cons_of_mem _ hz))))
     (fun hb2 I7 hI7=>.inl ⟨rfl,F5,.refl _,(t.kids.length-(x+1)).toNat,by omega, ?_⟩) (fun hb2 I7 hI7=>.inr ⟨_,rfl,F5,.refl _, ?_,rfl⟩)⟩
    ·rw[eh (n:=x+1) (by omega)]
     refine⟨by omega,by omega,rfl, ?_,rfl⟩
     rw[gf,iM hy,Px.fq,hb2,show (x+1).toNat=x.toNat+1 by omega];rfl
    ·rw[gf,iM hy,Px.fq,hb2];rfl
   ·have hlt:=of_decide_eq_false hlt
    rw[gf,lq (by omega),Px.fq];rfl
  ·have hone:t.px.fT=false:=by
    rw[←hw,sW,decide_eq_false (fun e=>by
     have:(t.kids.length:Int)=kids:=by omega
     rw[this] at hb;simp at hb)];simp
   rw[Px.dY,hone];rfl
  ·have hone:t.px.fT=false:=by rw[←hw,sW,hq];simp
   rw[Px.dY,hone];rfl
  ·have hone:t.px.fT=false:=by rw[←hw,sW,his];rfl
   rw[Px.dY,hone];rfl
theorem zr(t:Nd)(hs:t.px.size≤1048576)(I:b8)(F:bZ)(ht:cB I F t):cd P 97 #[t.v] I F (pP t.px.formed 120 F):=rj t (by omega) I F ht
theorem vu(x:Px):(x.kind=7∧x.level=1)∨(x.kind=5∧x.level=7)∨(x.kind=6∧2≤x.level∧x.level≤6)∨(x.kind≠5∧x.kind≠6∧x.kind≠7∧x.level=8):=by
 unfold Px.level;(repeat' split)<;>omega
theorem xq(t:Nd)(i:Int)(h0:0≤i)(h1:i≤4194304)(I:b8)(F:bZ):cd P 129 #[t.v,.int .i64 i] I F (gq (.int .i64 (t.px.asks i)) F):=by
 refine kx.vc ?_
 unfold kx.V
 intro b_n
 have hc:=vu t.px
 refine cd.ret (pB t I _) fun I1 hI1=>⟨_,rfl,F,.refl _, ?_⟩
 unfold Px.asks
 rw[Nd.cQ] at hc ⊢
 refine⟨fun h=>⟨fun h'=>⟨?_,rfl⟩,fun h'=>⟨fun h2=>⟨?_,rfl⟩,fun h2=>⟨fun h3=>⟨?_,rfl⟩,fun h3=>⟨fun h4=>⟨?_,rfl⟩,fun h4=>⟨fun h5=>⟨?_,rfl⟩,fun h5=>⟨?_,rfl⟩⟩⟩⟩⟩⟩,
  fun h=>⟨fun h2=>⟨?_,rfl⟩,fun h2=>⟨fun h3=>⟨?_,rfl⟩,fun h3=>⟨fun h4=>⟨?_,rfl⟩,fun h4=>⟨fun h5=>⟨?_,rfl⟩,fun h5=>⟨?_,rfl⟩⟩⟩⟩⟩⟩
 all_goals (try simp only[decide_eq_true_eq,decide_eq_false_iff_not,beq_iff_eq,beq_eq_false_iff_ne] at *)
 all_goals (congr 2;(repeat' split)<;>first | rfl | omega | (rw[eh (by omega)]))
theorem oe:∀(t:Nd),t.px.size≤4194304→t.px.formed=true→∀(I:b8) (F:bZ),cB I F t→cd P 99 #[t.v] I F (gq (.int .i64 t.px.depth) F):=by
 refine Nd.ind fun t ih hs hf I F ht=>?_
 have hln:=lu hs
 refine ky.vc (fun most i m I' F'=>0≤i∧i≤t.kids.length∧m=(t.kids.length-i).toNat∧0≤most∧most≤16777216∧t.px.depth=Px.iL t.px i ((t.kids.drop i.toNat).map Nd.px) most∧F'=F) ?_
 unfold ky.V
 intro b_n
 refine⟨⟨_,by omega,by omega,rfl,by omega,by omega, ?_,rfl⟩,fun most i m I1 F1 hI ⟨g0,g1,gm,g2,g3,gf,gF⟩=>⟨fun hlt=>?_,fun hlt=>⟨?_,gF⟩⟩⟩
 ·rw[Px.vg,Nd.dH];rfl
 ·have hlt:=of_decide_eq_true hlt
  subst gF
  have ht1:cB I1 ((b_n,.cells t.enc.toArray 28 (0,0))::F1) t:=(ht.mono hI fun _ h=>h).cons
  obtain⟨ad,x,had,hx,hrd,hxo,hxm⟩:=ht1.kids.at g0 hlt
  have hxp:x.px∈t.px.kids:=by rw[Nd.dH];exact List.mem_map_of_mem hxm
  have hkd:=Px.vo hf (fun e=>by rw[e] at hxp;cases hxp)
  rw[Nd.cQ] at hkd
  have hdr:=vq x.px
  have hsz:=jT hxm hs
  have hxo2:∀b_k:Nat,cB I1 ((b_n,.cells t.enc.toArray 28 (0,0))::(b_k,.cells x.enc.toArray 28 (0,0))::F1) x:=fun b_k=>hxo.mono (b8.le_refl _) fun z hz=>by
   rcases List.mem_cons.1 hz with hz | hz
   ·exact hz▸List.mem_cons_self ..
   ·exact List.mem_cons_of_mem _ (List.mem_cons_of_mem _ hz)
  refine⟨⟨g0,hlt⟩,ad,had,_,_,_,_,_,_,_,_,_,_,hrd,fun b_k=>cd.ret (ih x hxm hsz (Px.kq hf _ hxp) I1 _ (hxo2 b_k)) fun I2 hI2=>⟨_,rfl,F1,.refl _,
   _,(pB x I2 _).AD,_,(xq t i g0 (by omega) I2 _).AD, ?_⟩⟩
  have key:∀D:Int,D=x.px.depth+t.px.xb x.px i →
    (∃m2:Nat,m2<m∧(0≤IntKind.wrap .i64 (i+1)∧IntKind.wrap .i64 (i+1)≤t.kids.length∧m2=(t.kids.length-IntKind.wrap .i64 (i+1)).toNat∧0≤(if D>most then D else most)∧(if D>most then D else most)≤16777216 ∧
     t.px.depth=Px.iL t.px (IntKind.wrap .i64 (i+1)) ((t.kids.drop (IntKind.wrap .i64 (i+1)).toNat).map Nd.px) (if D>most then D else most)∧F1=F1)):=by
   intro D hD
   have har:=rh t.px x.px i
   rw[eh (n:=i+1) (by omega)]
   rw[iM hx,Px.iL,←hD] at gf
   have hmx:(if D>most then D else most)=max most D:=by split<;>omega
   rw[hmx]
   refine⟨(t.kids.length-(i+1)).toNat,by omega,by omega,by omega,rfl,by omega,by omega, ?_,rfl⟩
   rw[gf,show (i+1).toNat=i.toNat+1 by omega]
  have e1:IntKind.wrap .i64 (x.px.depth+1)=x.px.depth+1:=eh (by omega)
  have e2:IntKind.wrap .i64 (x.px.depth+1+1)=x.px.depth+1+1:=eh (by omega)
  have em:(if 1<i then 1 else i)=if 0<i then (1:Int) else 0:=by (repeat' split)<;>omega
  have e3:IntKind.wrap .i64 (x.px.depth+(if 1<i then 1 else i))=x.px.depth+(if 1<i then 1 else i):=eh (by (repeat' split)<;>omega)
  have e4:IntKind.wrap .i64 (x.px.depth+1+(if 1<i then 1 else i))=x.px.depth+1+(if 1<i then 1 else i):=eh (by (repeat' split)<;>omega)
  rw[e1,e2,e3,e4]
  unfold Px.xb at key
  rw[Nd.cQ] at key
  refine⟨fun hb=>⟨fun h=>key _ ?_,fun h1=>⟨fun h=>key _ ?_,fun h2=>key _ ?_⟩⟩,fun hb=>⟨fun h=>key _ ?_,fun h1=>⟨fun h=>key _ ?_,fun h2=>key _ ?_⟩⟩⟩
  all_goals clear key gf
  all_goals (simp only[decide_eq_true_eq,decide_eq_false_iff_not,beq_iff_eq,beq_eq_false_iff_ne] at *)
  all_goals ((repeat' split)<;>omega)
 ·have hlt:=of_decide_eq_false hlt
  rw[gf,lq (by omega),Px.iL]
theorem rk(t:Nd)(hs:t.px.size≤4194304)(I:b8)(F:bZ)(ht:cB I F t):cd P 59 #[t.v] I F fun e I' G=>e=(if t.px.dp=0 then .returned (.tuple #[]) else .panicked (kz t.px.dp))∧G=F:=by
 refine mc.vc ?_
 unfold mc.V
 intro b_n
 unfold Px.dp
 refine pP.use (rj t hs I _ ht.cons) (fun hb I1 hI1=>.inl ⟨rfl,F,.refl _,cd.ret (oe t hs hb I1 _ (ht.mono hI1 fun _ h=>h).cons) fun I2 hI2=>⟨_,rfl,F,.refl _,
  pP.use (jU _ 122 I2 _) (fun h2 I3 hI3=>.inl ⟨rfl,F,.refl _, ?_,rfl⟩) (fun h2 I3 hI3=>.inr ⟨_,rfl,F,.refl _, ?_,rfl⟩)⟩⟩) (fun hb I1 hI1=>.inr ⟨_,rfl,F,.refl _, ?_,rfl⟩)
 ·have h2:=of_decide_eq_true h2
  rw[if_pos hb,show (if 24<t.px.depth then (122:Int) else 0)=0 from if_neg (by omega)];rfl
 ·have h2:=of_decide_eq_false h2
  rw[if_pos hb,show (if 24<t.px.depth then (122:Int) else 0)=122 from if_pos (by omega)];rfl
 ·rw[hb];rfl
theorem Cv(t:Nd)(hs:t.px.size≤1048576)(hf:t.px.formed=true)(I:b8)(F:bZ)(ht:cB I F t):cd P 99 #[t.v] I F (gq (.int .i64 t.px.depth) F):=oe t (by omega) hf I F ht
theorem sX(t:Nd)(hs:t.px.size≤1048576)(I:b8)(F:bZ)(ht:cB I F t):cd P 59 #[t.v] I F fun e I' G=>e=(if t.px.dp=0 then .returned (.tuple #[]) else .panicked (kz t.px.dp))∧G=F:=rk t (by omega) I F ht
theorem vv{t:Nd}(hs:t.px.size≤4194304){I:b8}{F:bZ}(ht:cB I F t){c:Addr}(hc:Rd I F c t.enc) :
  cd P 58 #[.pointer (some c)] I F fun e I' G=>e=(if t.px.dp=0 then .returned (.tuple #[]) else .panicked (kz t.px.dp))∧G=F:=by
 refine eV.vc ?_
 unfold eV.V
 refine⟨_,_,_,_,_,_,_,_,_,_,hc,(rk t hs I F ht).mono fun e I1 G hl ⟨he,hG⟩=>?_⟩
 subst hG
 by_cases h:t.px.dp=0
 ·rw[if_pos h] at he
  exact .inl ⟨he,G,.refl _,by rw[if_pos h],rfl⟩
 ·rw[if_neg h] at he
  exact .inr ⟨_,he,G,.refl _,by rw[if_neg h],rfl⟩
mutual
def Nd.nodes:Nd→List Nd
 | .mk k o t n f s a c l q=>.mk k o t n f s a c l q::Nd.fX l
def Nd.fX:List Nd→List Nd
 | []=>[]
 | x::r=>Nd.nodes x++Nd.fX r
end
theorem Nd.nY(t:Nd):t.nodes=t::Nd.fX t.kids:=by cases t;rw[Nd.nodes];rfl
theorem vw:∀t:Nd,t.nodes.map Nd.px=t.px.nodes:=by
 have hL:∀l:List Nd,(∀x∈l,(Nd.nodes x).map Nd.px=x.px.nodes)→(Nd.fX l).map Nd.px=Px.fX (l.map Nd.px):=by
  intro l
  induction l with
  | nil=>intro _;rfl
  | cons x r ih =>
    intro h
    rw[Nd.fX,List.map_append,List.map_cons,Px.fX,h x (List.mem_cons_self ..),ih fun y hy=>h y (List.mem_cons_of_mem _ hy)]
 refine Nd.ind fun t h=>?_
 rw[Nd.nY,Px.nY,List.map_cons,hL t.kids h,Nd.dH]
instance decBA:DecidableEq ByteArray:=fun a b=>decidable_of_iff (a.data=b.data) ⟨fun h=>by cases a;cases b;simp_all,fun h=>by rw[h]⟩
def fZ(l:List ByteArray)(s:ByteArray):Bool:=l.any fun y=>decide (y=s)
def Px.Fit(x:Px):Prop:=(0≤x.kind∧x.kind≤255)∧(0≤x.oper∧x.oper≤255)∧(0≤x.cp∧x.cp≤255)∧(-9223372036854775808≤x.n∧x.n≤9223372036854775807)∧(0≤x.field∧x.field≤255)∧(-9223372036854775808≤x.pos∧x.pos≤9223372036854775807)
def Px.Wf(x:Px):Prop:=∀y∈x.nodes,y.Fit
theorem Wf.nd{t:Nd}(h:t.px.Wf):∀x∈t.nodes,x.px.Fit:=fun x hx=>h _ (by rw[←vw];exact List.mem_map_of_mem hx)
end Go.Lx
namespace Go.Vc
theorem zt{P:Program}{t e:TypeId}{z by':Nat}{zv:Value}(ht:P.underlying t=some (.slice e))(hi:(P.info? e).map (fun i=>(i.zero,i.size,i.bytes))=some (some zv,z,by')){l c:Int}(h0:0≤l)(hlc:l≤c)(hb:(by':Int)*c≤281474976710656)(hc:c≤9223372036854775807){I:b8}{F:bZ} :
  cG P (Instr.makeSlice t (.int .i64 l) (.int .i64 c)) I F fun v I' G=>∃(b:Nat) (cs:List Value),v=.slice (some ⟨b,0,none⟩) l.toNat c.toNat∧cs.length=c.toNat*z∧cs.toArray=madeCells zv.cells (c.toNat*z)∧I'=I∧G=(b,Obj.cells cs.toArray e (0,0))::F:=by
 intro w hw
 cases h:P.info? e with
 | none=>rw[h] at hi;cases hi
 | some i =>
   rw[h] at hi
   simp only[Option.map_some,Option.some.injEq,Prod.mk.injEq] at hi
   have hr:=run_make (P:=P) w t e i zv ht h hi.1 .i64 .i64 l c h0 hlc (by rw[hi.2.2];exact hb) hc
   rw[hi.2.1] at hr
   refine⟨_,_,I,_,hr,b8.le_refl I,hw.alloc _,w.heap.size,(madeCells zv.cells (c.toNat*z)).toList,rfl, ?_,by simp,rfl,by simp⟩
   simp[size_madeCells]
end Go.Vc
namespace Go.Lx
open Go.Vc
end Go.Lx
namespace Go.Vc
def mN:FrameMode→Value→FrameMode→Prop
 | .returning,v,u=>v=.nilIface∧u=.returning
 | .panicking ({ v:=x,recovered:=false,goexit:=false }::older),v,u=>v=x∧u=.panicking ({ v:=x,recovered:=true }::older)
 | _,_,_=>False
theorem zu:mN .returning .nilIface .returning:=⟨rfl,rfl⟩
theorem zw(v:Value):mN (.panicking [{ v:=v,recovered:=false }]) v (.panicking [{ v:=v,recovered:=true }]):=⟨rfl,rfl⟩
def CZ(o:Oper):Bool:=match o.op,o.guard with
 | .call { callee:=.builtin .recover,args:=_,argTypes:=_ },none=>true
 | _,_=>false
theorem mN.at{c:Frame}{cs:List Frame}{u u1:FrameMode}{v:Value}(hu:c.mode=u)(h:mN u v u1) :
  recoverD (c::cs)=some (v,{ c with mode:=u1 }::cs)∨(recoverD (c::cs)=none∧v=.nilIface∧{ c with mode:=u1 }::cs=c::cs):=by
 subst hu
 unfold mN at h
 split at h
 ·rename_i hm
  obtain⟨h1,h2⟩:=h
  refine .inr ⟨by simp[recoverD,hm],h1, ?_⟩
  subst h2
  rw[←hm]
 ·rename_i hm
  obtain⟨h1,h2⟩:=h
  subst h1 h2
  exact .inl (by simp[recoverD,hm])
 ·exact h.elim
theorem zx{P:Program}{id:Nat}{ops:Array Oper}{o:Oper}{r:List Oper}{Q:Exit→Act→List Frame→World→Prop}{a:Act}{cs cs':List Frame}{w:World}{v:Value}(hl:ops.toList=o::r)(ho:CZ o=true)
  (hrec:recoverD cs=some (v,cs')∨(recoverD cs=none∧v=.nilIface∧cs'=cs)) (h:wpListIn Fence.wide 0 P ops (fun e a' w'=>Q e a' cs' w') r (a.put o.dst v) w) :
  (Code.region id ops false).wpSIn Fence.wide 0 P Q a cs w:=by
 intro b k hb hr hF hroom
 have hsz:ops.size=r.length+1:=by rw[←Array.length_toList,hl];rfl
 have h0:ops[0]? = some o:=by rw[←Array.getElem?_toList,hl];rfl
 have hrest:∀j,r[j]? = ops[1+j]?:=fun j=>by rw[←Array.getElem?_toList,hl,Nat.add_comm];rfl
 rw[←wpOpsIn_eq_wpListIn r 1 hrest] at h
 have hex:∀ci,o.op=.call ci→True:=fun _ _=>trivial
 have hop:∃ci,o.op=.call ci∧ci.callee=.builtin .recover∧o.guard=none:=by
  unfold CZ at ho
  split at ho
  ·rename_i h1 h2;exact⟨_,h1,rfl,h2⟩
  ·cases ho
 obtain⟨ci,hci,hcal,hgd⟩:=hop
 have hw:Region.wanted o (yielded ops a.tmps)=true:=by unfold Region.wanted;rw[hgd]
 have hrun:(execOp a.eval o).run P w=.ok .recover w:=by
  obtain⟨cal,args,tys⟩:=ci
  simp only at hcal
  subst hcal
  simp only[execOp,hci]
  rfl
 have hlen:cs'.length=cs.length:=by
  rcases hrec with hrec | ⟨_,_,rfl⟩
  ·exact recoverD_length hrec
  ·rfl
 obtain⟨e,a',w',q,harr⟩:=wp_opsIn _ _ _ h b k cs' (hr.trans rfl) hF (hlen▸hroom)
 refine⟨e,a',cs',w',hlen,q,.of_steps (.one (fenced_calm hF hroom rfl) stepR_region) ?_⟩
 rw[List.range_eq_range',hsz,List.range'_succ]
 have hg:=stepGR_op (P:=P) (b:=b) (k:=k) (cs:=cs) (w:=w) (rest:=List.range' (0+1) r.length) h0 hw
 rw[hr,Oper.semAt_none] at hg
 have hfin:∀v,(b.atR a (.inRegion ops (0::List.range' (0+1) r.length)::k)).finish v=b.atR (a.put o.dst v) (.inRegion ops (List.range' (0+1) r.length)::k):=by
  intro v;rw[Frame.finish_atR,h0];rfl
 have hk:(b.atR a (.inRegion ops (0::List.range' (0+1) r.length)::k)).kind=.deferred:=hb
 have htr:=tryRecover_deferred hk cs
 refine .of_steps (.one (fenced_oper hF hroom h0 fun f _=>trivial) (step_lone_go ?_)) harr
 rw[hg,←hfin]
 simp only[Frame.atR,hr] at htr ⊢
 rcases hrec with hrec | ⟨hrec,rfl,rfl⟩
 ·simp[stepG.apply,hrun,htr,hrec]
 ·simp[stepG.apply,hrun,htr,hrec]
def vx(P:Program)(rs:List ResultVar)(keep:List Nat)(Q:Ending→b8→bZ→Prop)(u:Option (List PanicEntry))(σ:S)(I:b8)(F:bZ):Prop:=match σ.df with
 | []=>match u with
   | none=>(match ng P σ rs with
     | some vs=>Q (.returned (wU vs)) I (cy (pick σ.own keep)++F)
     | none=>False)
   | some ch=>Q (.panicked ch) I (cy (pick σ.own keep)++F)
 | _=>False
def xr(P:Program)(rs:List ResultVar)(keep:List Nat)(Q:Ending→b8→bZ→Prop):Kt
 | .normal,σ,I,F=>vx P rs keep Q none σ I F
 | .ret,σ,I,F=>vx P rs keep Q none σ I F
 | .panic ch,σ,I,F=>vx P rs keep Q (some ch) σ I F
 | _,_,_,_=>False
def C0(P:Program)(A:mw)(v:Value)(rs:List ResultVar)(keep:List Nat)(Q:Ending→b8→bZ→Prop)(σ:S)(I:b8)(F:bZ):Code→Prop
 | .seq (.region id ops false) rest=>match ops.toList with
   | o::r=>cond (CZ o) (tx P A id ops r 1 (σ.put o.dst (some (.a (.v v)))) I F (W P A none rest 2 (xr P rs keep Q)) (fun ch=>xr P rs keep Q (.panic ch))) False
   | []=>False
 | _=>False
section
variable {P:Program} {A:mw}
theorem DH{fn:Func}{keep:List Nat}(hk:BE 0 keep=true){Q:Ending→b8→bZ→Prop}{c0:Frame}{cs:List Frame}{u1:FrameMode}{R:Ending→FrameMode→World→Prop}{I0:b8}
  (hR:∀e I' F' w',b8.le I0 I'→Sat I' F' w'→Q e I' F'→R e u1 w') {e:Exit} {σ:S} {I:b8} {F:bZ} {a:Act} {w:World} (hr:Rel σ I F a w) (hl:b8.le I0 I)
  (h:xr P fn.results.toList keep Q e σ I F):bodyPostS P fn c0 cs R e a ({ c0 with mode:=u1 }::cs) w:=by
 have hsub:Sat I (cy (pick σ.own keep)++F) w:=by
  have h5:=qS keep 0 σ.own hk
  rw[List.drop_zero] at h5
  exact hr.sat.sub ((h5.map _).append (List.Sublist.refl F))
 have key:∀u,vx P fn.results.toList keep Q u σ I F→a.defers=[]∧match u with
   | none=>∃v,(results fn a.tmps).run P w=.ok v w∧Q (.returned v) I (cy (pick σ.own keep)++F)
   | some ch=>Q (.panicked ch) I (cy (pick σ.own keep)++F):=by
  intro u h
  unfold vx at h
  split at h
  ·rename_i hd
   refine⟨by rw[hr.defers,hd];rfl, ?_⟩
   cases u with
   | none =>
     simp only at h ⊢
     split at h
     ·rename_i vs hvs;exact⟨_,po hr hvs,h⟩
     ·exact h.elim
   | some ch=>exact h
  ·exact h.elim
 cases e with
 | normal=>obtain⟨h1,v,h2,h3⟩:=key none h;exact⟨h1,u1,rfl,v,h2,hR _ _ _ _ hl hsub h3⟩
 | ret=>obtain⟨h1,v,h2,h3⟩:=key none h;exact⟨h1,u1,rfl,v,h2,hR _ _ _ _ hl hsub h3⟩
 | panic ch=>obtain⟨h1,h2⟩:=key (some ch) h;exact⟨h1,u1,rfl,hR _ _ _ _ hl hsub h2⟩
 | exit id=>exact h.elim
 | goto l=>exact h.elim
 | outgrown=>exact h.elim
theorem zy(hP:∀f,A.good f=true→cV P f){f:FuncId}{fn:Func}{c:Code}(hf:P.funcs[f]? = some fn)(hb:fn.body=some c){args:List AV}{own:List cS}
  {I:b8} {F:bZ} {keep:List Nat} {Q:Ending→b8→bZ→Prop} (hk:BE 0 keep=true) (hwa:∀x∈args,AV.wf own x) (hwo:∀b∈own,∀x∈b.cells,AV.wf own x) {u u1:FrameMode} {v:Value} (hrec:mN u v u1)
  (h:C0 P A v fn.results.toList keep Q ⟨jg args fn.ntmps,own,[]⟩ I F c) {vs:List Value} (hv:vs=args.map AV.g):so P f vs u I (cy own++F) fun e u' I' G=>u'=u1∧Q e I' G:=by
 subst hv
 intro w hw
 unfold C0 at h
 split at h
 ·rename_i id ops rest
  split at h
  ·rename_i o r hl
   obtain⟨ho,h⟩:=cq h
   refine callsDIn_of_wpSIn hf hb trivial fun c0 cs hu=>?_
   refine wpSIn_seq (zx hl ho (mN.at hu hrec) ?_)
   have hrel:Rel ⟨jg args fn.ntmps,own,[]⟩ I F { tmps:=(args.map AV.g).toArray++Array.replicate (fn.ntmps-(args.map AV.g).toArray.size) undef,defers:=[] } w:=by
    refine⟨by simp[jg], ?_,rfl, ?_, ?_,hw⟩
    ·intro t av ht
     simp only[jg,List.getElem?_append] at ht
     split at ht
     ·rename_i hlt
      simp only[List.getElem?_map] at ht
      cases ha:args[t]? with
      | none=>rw[ha] at ht;simp at ht
      | some x =>
        rw[ha] at ht
        simp only[Option.map_some,Option.some.injEq] at ht
        subst ht
        simp at hlt
        rw[Array.getElem?_append_left (by simpa using hlt)]
        simp[ha]
     ·rw[List.getElem?_replicate] at ht;split at ht<;>cases ht
    ·intro t av ht
     simp only[jg,List.getElem?_append] at ht
     split at ht
     ·simp only[List.getElem?_map] at ht
      cases ha:args[t]? with
      | none=>rw[ha] at ht;simp at ht
      | some x =>
        rw[ha] at ht
        simp only[Option.map_some,Option.some.injEq] at ht
        subst ht
        exact hwa _ (List.mem_of_getElem? ha)
     ·rw[List.getElem?_replicate] at ht;split at ht<;>cases ht
    ·exact fun i b hb' x hx=>hwo b (List.mem_of_getElem? hb') x hx
   have hrel2:=hrel.put o.dst (av:=.a (.v v)) (v:=v) rfl trivial
   refine iE (ro:=none) hP r 1 _ I F _ w (.inl rfl) h hrel2 ?_ ?_
   ·intro σ' I' F' a' w' h1 h2 h3 _
    refine wpSIn_of_wpIn rfl (wpIn_mono (yv hP rest 2 _ none none σ' I' F' a' w' rfl h3 h1) ?_)
    intro e a2 w2 ⟨σ2,I2,F2,g1,g2,g3,_⟩
    exact DH (fn:=fn) hk (fun e I3 F3 w3 hl3 hs3 hq3=>⟨I3,F3,hl3,hs3,rfl,hq3⟩) g1 (b8.le_trans h2 g2) g3
   ·intro ch σ' I' F' a' w' h1 h2 h3 _
    show bodyPostS P fn c0 cs (fun e u' w'=>∃I' F',I.le I'∧Sat I' F' w'∧u'=u1∧Q e I' F') (.panic ch) a' _ w'
    exact DH (fn:=fn) hk (e:=.panic ch) (fun e I3 F3 w3 hl3 hs3 hq3=>⟨I3,F3,hl3,hs3,rfl,hq3⟩) h1 h2 h3
  ·exact h.elim
 ·exact h.elim
theorem sY{f:FuncId}{fn:Func}{args:List AV}{own:List cS}{I:b8}{F:bZ}{keep:List Nat}{Q:cc}{V:Prop}{u u1:FrameMode}{v:Value}(gd:List Nat)(hf:P.funcs[f]? = some fn)(hrec:mN u v u1)(h:V)
  (e:C0 P A v fn.results.toList keep Q ⟨jg args fn.ntmps,own,[]⟩ I F (fn.body.getD .skip)=V) (hg:A.good=nT gd) (hG:gd.all (qT P)=true) (hb:fn.body=some (fn.body.getD .skip)) (hk:BE 0 keep=true)
  (hwa:∀x∈args,AV.wf own x) (hwo:∀b∈own,∀x∈b.cells,AV.wf own x) {vs:List Value} (hv:vs=args.map AV.g):so P f vs u I (cy own++F) fun e u' I' G=>u'=u1∧Q e I' G :=
 zy (fun f hf'=>u5 gd hG f (by rw[←hg];exact hf')) hf hb hk hwa hwo hrec (by rw[←e] at h;exact h) hv
end
end Go.Vc
namespace Go.Lx
open Go.Vc Go.Proofs.Tryz
def AF:List (Nat×List Sh):=[]
def fF.V(a:Nat)(c:Int)(I:b8)(F:bZ)(Q:cc)  : Prop:=∀b:Nat,Q (.returned (.tuple #[])) I ((a,Obj.cells #[.int .i64 c] 47 (0,0))::F)
theorem fF.vc{b:Nat}{c:Int}{u u1:FrameMode}(d:mN u (Value.nilIface) u1){I:b8}{F:bZ}{Q:cc}  (h:fF.V b c I F Q):so P 96 [.pointer (some ⟨b,0,none⟩)] u I ((b,Obj.cells #[.int .i64 c] 47 (0,0))::F) (fun e u' I' G=>u'=u1∧Q e I' G) :=
 sY (A:=(an [] [] AF)) (args:=[.a (.p 0 b 0)]) (own:=[⟨b,47,false,[.a (.v (.int .i64 c))]⟩]) (keep:=[0]) [] func96 d h (by kernel_rfl) (by kernel_rfl) (by kernel_rfl) (by kernel_rfl) (by kernel_rfl) (by simp[AV.wf,At.wf]) (by simp[AV.wf,At.wf]) rfl
def fG.V(a:Nat)(c b:Int)(I:b8)(F:bZ)(Q:cc)  : Prop:=∀d:Nat,Q (.returned (.tuple #[])) I ((a,Obj.cells #[.int .i64 b] 47 (0,0))::F)
theorem fG.vc{b:Nat}{c d:Int}{u u1:FrameMode}(f:mN u (Value.iface 155 (.agg #[.int .i64 d])) u1){I:b8}{F:bZ}{Q:cc}  (h:fG.V b c d I F Q):so P 96 [.pointer (some ⟨b,0,none⟩)] u I ((b,Obj.cells #[.int .i64 c] 47 (0,0))::F) (fun e u' I' G=>u'=u1∧Q e I' G) :=
 sY (A:=(an [] [] AF)) (args:=[.a (.p 0 b 0)]) (own:=[⟨b,47,false,[.a (.v (.int .i64 c))]⟩]) (keep:=[0]) [] func96 f h (by kernel_rfl) (by kernel_rfl) (by kernel_rfl) (by kernel_rfl) (by kernel_rfl) (by simp[AV.wf,At.wf]) (by simp[AV.wf,At.wf]) rfl
end Go.Lx
namespace Go.Vc
theorem oA.fn{P:Program}{f:FuncId}{fr cap:Array Value}{args:List Value}{I:b8}{F:bZ}{Q:Ending→b8→bZ→Prop}(he:cV P f){vs:Array Value}(hv:fr++args.toArray++cap=vs)(h:cd P f vs I F Q):oA P (.func (.func f) fr cap) args I F Q :=
 fun w hw=>.inl ⟨f,fr,cap,rfl,he,by rw[hv];exact h w hw⟩
theorem so.mono{P:Program}{f:FuncId}{args:List Value}{u:FrameMode}{I:b8}{F:bZ}{Q Q':Ending→FrameMode→b8→bZ→Prop}(h:so P f args u I F Q)(k:∀e u' I' G,b8.le I I'→Q e u' I' G→Q' e u' I' G):so P f args u I F Q' :=
 fun w hw=>(h w hw).mono fun e u' w' ⟨I',F',h1,h2,h3⟩=>⟨I',F',h1,h2,k _ _ _ _ h1 h3⟩
end Go.Vc
namespace Go.Lx
open Go.Vc
abbrev og(n:Int):Ending:=if n=0 then .returned (.tuple #[]) else .panicked (kz n)
theorem pC{look:Fn}{lf lc:Array Value}{n:Int}{I:b8}{F:bZ}(h:∀b:Nat,oA P (.func look lf lc) [] I ((b,.cells #[.int .i64 0] 47 (0,0))::F) fun e I' G=>e=og n∧G=(b,.cells #[.int .i64 0] 47 (0,0))::F) :
  cd P 57 #[.func look lf lc] I F (gq (.int .i64 n) F):=by
 refine ji.vc ?_
 unfold ji.V
 intro b_e
 refine (h b_e).mono fun e I1 G hI1 ⟨he,hG⟩=>?_
 subst hG
 by_cases hn:n=0
 ·subst hn
  refine .inl ⟨he,F,.refl _,(fF.vc zu (Q:=fun e I' G=>e=.returned (.tuple #[])∧G=(b_e,.cells #[.int .i64 0] 47 (0,0))::F) fun b_x=>⟨rfl,rfl⟩).mono fun e u I2 G _ ⟨hu,he,hG⟩=>?_⟩
  subst hu
  exact⟨_,he,0,F,by rw[hG],.inl ⟨rfl,rfl,rfl⟩⟩
 ·rw[og,if_neg hn] at he
  refine .inr ⟨_,he,F,.refl _,(fG.vc (zw _) (Q:=fun e I' G=>e=.returned (.tuple #[])∧G=(b_e,.cells #[.int .i64 n] 47 (0,0))::F) fun b_x=>⟨rfl,rfl⟩).mono fun e u I2 G _ ⟨hu,he,hG⟩=>?_⟩
  subst hu
  exact⟨_,he,n,F,by rw[hG],.inl ⟨rfl,rfl,rfl⟩⟩
theorem xt:cV P 58:=u5 [58] (by kernel_rfl) _ (by decide)
theorem DI{b:Nat}{t:Nd}{I:b8}{G:bZ}(h:(b,Obj.cells #[.int .u8 t.kind,.int .u8 t.oper,.int .u8 t.cp,.int .i64 t.n,.int .u8 t.field,.string t.name,.slice t.a t.kids.length t.c,.int .i64 t.pos] 28 (0,0))∈G):Rd I G (⟨b,0,none⟩:Addr) t.enc:=Rd.tK h 0 fun j hj=>by simp
theorem pQ(t:Nd)(hs:t.px.size≤4194304)(I:b8)(F:bZ)(ht:cB I F t):cd P 31 #[t.v] I F (gq (.int .i64 t.px.dp) F):=by
 refine fY.vc ?_
 unfold fY.V
 intro b_n
 refine (pC (n:=t.px.dp) fun b=>oA.fn xt (by simp) (vv hs (ht.cons.cons) (DI (List.mem_cons_of_mem _ (List.mem_cons_self ..))))).mono fun e I1 G hI1 ⟨he,hG⟩=>?_
 subst hG
 exact⟨_,he,_,_,_,_,_,_,_,_,_,_,F,.refl _,rfl,rfl⟩
end Go.Lx
