import Derived.Test.YtmbkaikdndflbaaGreatDoorCostStatesB1
set_option linter.unusedVariables false
set_option linter.unusedSimpArgs false
set_option linter.unusedSectionVars false
set_option maxRecDepth 100000
namespace Go.Vc
def sJ(o:Oper):Bool:=match o.op with
 | .move _ | .assign _ | .pick .. | .fieldAddr .. | .indexAddr .. | .extract .. | .field .. | .nilCheck _ | .binOp .. | .unOp .. | .makeFunc .. | .index .. | .slice .. | .makeInterface .. | .build .. => true
 | .call c=>match c.callee with
   | .builtin .len=>true
   | .builtin .cap=>true
   | _=>false
 | _=>false
def JZ:List (Nat×List Nat)→Nat→Option (List Nat)
 | [],_=>none
 | (r,l)::t,n=>cond (r==n) (some l) (JZ t n)
def J0:List (Nat×Nat×Nat×List Nat×List Nat)→Nat→Option (Nat×Nat×List Nat×List Nat)
 | [],_=>none
 | (r,x)::t,n=>cond (r==n) (some x) (J0 t n)
def J1:List (Nat×List Nat×Ot)→Nat→Option (List Nat×Ot)
 | [],_=>none
 | (r,x)::t,n=>cond (r==n) (some x) (J1 t n)
def J3:List (Nat×List Nat×Nat)→Nat→Option (List Nat×Nat)
 | [],_=>none
 | (r,x)::t,n=>cond (r==n) (some x) (J3 t n)
def J4:List (Nat×Nat)→Nat→Option Nat
 | [],_=>none
 | (r,l)::t,n=>cond (r==n) (some l) (J4 t n)
def cc.no(I:cc):cc:=⟨fun _=>none,I.os,I.out⟩
theorem zx(I:cc)(w:World):Reads I.no [] w:=by
 intro ad cs h j hj
 obtain⟨_,cells,t,fz,h1 | h1,_⟩:=h
 ·cases h1
 ·cases h1
def gH(P:Program)(A:qj)(rid:Nat)(ops:Array Oper):List Nat→S→cc→b8→(S→cc→b8→Prop)→Prop
 | [],σ,I,F,K=>K σ I F
 | i::r,σ,I,F,K=>match ops[i]? with
   | none=>False
   | some o=>match want ops σ o with
     | some true=>cond (sJ o)
        (mZ P A.shp o σ I.no [] (List.range σ.own.length) fun av=>qN A rid i o.dst av σ fun σ'=>gH P A rid ops r σ' I F K)
        (II P A rid i o σ I F (fun σ' I' F'=>gH P A rid ops r σ' I' F' K) (fun _ _ _ _=>False))
     | some false=>gH P A rid ops r (σ.put o.dst (some (.a (.v undef)))) I F K
     | none=>False
def kR(P:Program)(A:qj)(rid:Nat)(ops:Array Oper)(os:List Nat)(I0:cc)(n0:Nat):List Nat→S→cc→b8→(S→cc→b8→Prop)→Prop
 | [],σ,I,F,K=>K σ I F
 | i::r,σ,I,F,K=>match ops[i]? with
   | none=>False
   | some o=>match want ops σ o with
     | some true=>cond (os.contains i)
        (mZ P A.shp o σ I0 [] ((List.range σ.own.length).drop n0) fun av=>qN A rid i o.dst av σ fun σ'=>kR P A rid ops os I0 n0 r σ' I F K)
        (cond (sJ o)
          (mZ P A.shp o σ I.no [] (List.range σ.own.length) fun av=>qN A rid i o.dst av σ fun σ'=>kR P A rid ops os I0 n0 r σ' I F K)
          (II P A rid i o σ I F (fun σ' I' F'=>kR P A rid ops os I0 n0 r σ' I' F' K) (fun _ _ _ _=>False)))
     | some false=>kR P A rid ops os I0 n0 r (σ.put o.dst (some (.a (.v undef)))) I F K
     | none=>False
def vj(P:Program)(A:qj)(rid:Nat)(ops:Array Oper)(os:List Nat)(I0:cc)(n0:Nat)(N:List Nat→S→cc→b8→Prop):Ot→S→cc→b8→Prop
 | .fin pre post,σ,I,F=>kR P A rid ops os I0 n0 pre σ I F (N post)
 | .fork pre i j x y,σ,I,F=>kR P A rid ops os I0 n0 pre σ I F fun σ' I' F' =>
    kR P A rid ops os I0 n0 [i] σ' I' F' (fun s J G=>vj P A rid ops os I0 n0 N x s J G)∧kR P A rid ops os I0 n0 [j] σ' I' F' (fun s J G=>vj P A rid ops os I0 n0 N y s J G)
section
variable {P:Program} {A:qj} {rid:Nat} {ops:Array Oper}
theorem dT{ro:Option Nat}(hP:∀f,A.good f=true→dz P f){K:S→cc→b8→Prop}{Q:Exit→Act→World→Prop}(hops:∀(i:Nat) (o:Oper),ops[i]? = some o→ft o.op=true) :
  ∀(l:List Nat) (σ:S) (I:cc) (F:b8) (a:Act) (w:World),gH P A rid ops l σ I F K→Rel σ I F a w →
   (∀σ' I' F' a' w',Rel σ' I' F' a' w'→cc.le I I'→K σ' I' F'→de (dN ops.toList) σ a σ' a'→Q .normal a' w') →
   ug P ro ops sJ Q l a w
 | [],σ,I,F,a,w,h,hr,hN=>hN σ I F a w hr (cc.le_refl I) h (de.refl _ _ _)
 | i::r,σ,I,F,a,w,h,hr,hN=>by
   simp only[gH] at h
   split at h
   ·exact h.elim
   ·rename_i o ho
    have hd:∀t,o.dst=some t→t∈dN ops.toList:=fun t ht=>by
     have hm:o∈ops.toList:=by have:=Array.mem_of_getElem? ho;simpa using this
     exact List.mem_filterMap.2 ⟨o,hm,ht⟩
    refine⟨o,ho, ?_⟩
    split at h
    ·rename_i hw
     rw[if_pos (eW hw hr.t)]
     cases hp:sJ o with
     | true =>
       rw[if_pos rfl]
       rw[hp,cond_true] at h
       obtain⟨av,hk,hy⟩:=kN h
       obtain⟨av',hg,hwf',hk⟩:=my hk
       have hwf:=hy.wf σ.own hr.wft hr.wfo
       refine⟨av.g,fun w'=>hy.run a w' hr.t hr.wft (fun j b hb hh=>?_) (zx I w'), ?_⟩
       ·have:j<σ.own.length:=(List.getElem?_eq_some_iff.1 hb).1
        have hc:(List.range σ.own.length).contains j=true:=by simpa using this
        rw[hc] at hh;cases hh
       ·have hr':Rel (σ.put o.dst (some av')) I F (a.put o.dst av.g) w:=hr.put o.dst hg (hwf' hwf)
        have hkp:de (dN ops.toList) σ a (σ.put o.dst (some av')) (a.put o.dst av.g):=de.put (cR.put _ _ _) _ _ _ hd
        exact dT hP hops r _ I F _ w hk hr' fun σ2 I2 F2 a2 w2 g1 g2 g3 g4=>hN σ2 I2 F2 a2 w2 g1 g2 g3 (hkp.trans g4)
     | false =>
       rw[if_neg (by simp)]
       rw[hp,cond_false] at h
       have hh:=sQ (Q:=Q) hP h hr fun ch w' σ' I' F' h1 h2 h3 h4=>h3.elim
       refine uv (.inr (va (hops i o ho))) ?_
       unfold FZ at hh ⊢
       revert hh
       generalize (execOp a.eval o).run P w=res
       intro hh
       have step:∀a' w',iV o σ I a (fun σ' I' F'=>gH P A rid ops r σ' I' F' K) a' w'→ug P ro ops sJ Q r a' w':=by
        intro a' w' ⟨σ',I',F',h1,h2,h3,h4,v,h5⟩
        have hk:de (dN ops.toList) σ a σ' a':=de.HB h4 _ _ _ hd h5
        exact dT hP hops r σ' I' F' _ w' h3 h1
         (fun σ2 I2 F2 a2 w2 g1 g2 g3 g4=>hN σ2 I2 F2 a2 w2 g1 (cc.le_trans h2 g2) g3 (hk.trans g4))
       cases res with
       | ok n w' =>
         cases n<;>simp only[Oper.uponIn] at hh ⊢<;>first | exact step _ _ hh | exact hh.elim | skip
         ·refine⟨hh.1,hh.2.mono fun e w'' hq=>?_⟩
          cases e with
          | returned v=>exact step _ _ hq
          | panicked ch=>exact hq
          | outgrown=>exact hq
         ·refine⟨hh.1,hh.2.mono fun e w'' hq=>?_⟩
          cases e with
          | returned v=>exact step _ _ hq
          | panicked ch=>exact hq
          | outgrown=>exact hq
         ·exact⟨hh.1,hh.2.mono fun v w'' hq=>step _ _ hq⟩
       | halt x w'=>cases x<;>simp only[Oper.uponIn] at hh ⊢<;>first | exact hh | exact hh.elim
    ·rename_i hw
     rw[if_neg (by rw[eW hw hr.t];simp)]
     have hk:de (dN ops.toList) σ a (σ.put o.dst (some (.a (.v undef)))) (a.put o.dst undef):=de.put (cR.put _ _ _) _ _ _ hd
     exact dT hP hops r _ I F _ w h (hr.put o.dst (av:=.a (.v undef)) rfl trivial)
      (fun σ2 I2 F2 a2 w2 g1 g2 g3 g4=>hN σ2 I2 F2 a2 w2 g1 g2 g3 (hk.trans g4))
    ·exact h.elim
theorem Bp{ro:Option Nat}(hP:∀f,A.good f=true→dz P f){id:Nat}{l:List Nat}{σ:S}{I:cc}{F:b8}{K:S→cc→b8→Prop}{a:Act}{w:World}(hm:P.follows .mixedOrders=true)
  (hB:IK ops sJ l=true) (h:gH P A rid ops l σ I F K) (hr:Rel σ I F a w) {Q:Exit→Act→World→Prop}
  (hQ:∀σ' I' F' a' w',Rel σ' I' F' a' w'→cc.le I I'→K σ' I' F'→de (dN ops.toList) σ a σ' a'→Q .normal a' w'):(Code.region id ops true).wpIn (Fw ro) 0 P Q a w:=by
 have hops:∀(i:Nat) (o:Oper),ops[i]? = some o→ft o.op=true:=fun i o ho=>by
  have hm:o∈ops.toList:=by have:=Array.mem_of_getElem? ho;simpa using this
  simp only[IK,Bool.and_eq_true] at hB
  have:=List.all_eq_true.1 hB.2 o hm
  simp only[Bool.and_eq_true] at this
  exact this.1
 have hr':Rel σ I F a { w with drawn:=w.drawn+1 }:=hr.s.rel (hr.sat.of_heap rfl ⟨rfl,rfl⟩)
 have hg:=dT (ro:=ro) (Q:=fun e a' w'=>e=.normal∧Q .normal a' w') hP hops l σ I F a _ h hr' fun σ' I' F' a' w' h1 h2 h3 h4=>⟨rfl,hQ σ' I' F' a' w' h1 h2 h3 h4⟩
 have:=EM (fun c a w h=>by cases h.1) hB hg
 exact wpIn_mono (wpIn_region_any hm this) fun e a' w' hq=>by obtain⟨rfl,hq⟩:=hq;exact hq
theorem zy{ro:Option Nat}(hP:∀f,A.good f=true→dz P f){id:Nat}{l:List Nat}{p q:Nat}{lA lB:List Nat}{σ:S}{I:cc}{F:b8}{K:S→cc→b8→Prop}{a:Act}{w:World}(hm:P.follows .mixedOrders=true)
  (hB:EN ops sJ l p q lA lB=true) (h:gH P A rid ops l σ I F fun σ' I' F'=>gH P A rid ops (p::lA) σ' I' F' K∧gH P A rid ops (q::lB) σ' I' F' K) (hr:Rel σ I F a w) {Q:Exit→Act→World→Prop}
  (hQ:∀σ' I' F' a' w',Rel σ' I' F' a' w'→cc.le I I'→K σ' I' F'→de (dN ops.toList) σ a σ' a'→Q .normal a' w'):(Code.region id ops true).wpIn (Fw ro) 0 P Q a w:=by
 have hops:∀(i:Nat) (o:Oper),ops[i]? = some o→ft o.op=true:=fun i o ho=>by
  have hm:o∈ops.toList:=by have:=Array.mem_of_getElem? ho;simpa using this
  simp only[EN,Bool.and_eq_true] at hB
  have:=List.all_eq_true.1 hB.2 o hm
  simp only[Bool.and_eq_true] at this
  exact this.1
 have hr':Rel σ I F a { w with drawn:=w.drawn+1 }:=hr.s.rel (hr.sat.of_heap rfl ⟨rfl,rfl⟩)
 have hg:=dT (ro:=ro) (Q:=Qx (HD P ro ops sJ (fun a w=>Q .normal a w) p q lA lB)) hP hops l σ I F a _ h hr' fun σ' I' F' a' w' h1 h2 h3 h4 =>
  ⟨dT (ro:=ro) (Q:=Qx fun a w=>Q .normal a w) hP hops (p::lA) σ' I' F' a' w' h3.1 h1 fun σ2 I2 F2 a2 w2 g1 g2 g3 g4=>hQ σ2 I2 F2 a2 w2 g1 (cc.le_trans h2 g2) g3 (h4.trans g4),
    dT (ro:=ro) (Q:=Qx fun a w=>Q .normal a w) hP hops (q::lB) σ' I' F' a' w' h3.2 h1 fun σ2 I2 F2 a2 w2 g1 g2 g3 g4=>hQ σ2 I2 F2 a2 w2 g1 (cc.le_trans h2 g2) g3 (h4.trans g4)⟩
 exact wpIn_mono (wpIn_region_any hm (Dw hB hg)) fun e a' w' hq=>by
  cases e with
  | normal=>exact hq
  | _=>exact hq.elim
def wZ(own0:List dr)(I0:cc)(w:World):Prop:=(∀(j:Nat) (b:dr),own0[j]? = some b→w.heap[b.num]? = some b.obj)∧∀(b:Nat) (o:Obj),I0 b=some o→w.heap[b]? = some o
def w6(own0:List dr)(σ:S):Prop:=∀(j:Nat) (b:dr),own0[j]? = some b→∃b':dr,σ.own[j]? = some b'∧b'.num=b.num∧b'.elem=b.elem∧b'.cells=b.cells∧b'.ro=true
theorem w6.keep{own0:List dr}{σ σ':S}(h:w6 own0 σ)(k:cR σ σ'):w6 own0 σ':=fun j b hb=>by
 obtain⟨b',h1,h2,h3,h4,h5⟩:=h j b hb
 obtain⟨b2,g1,g2,g3,g4⟩:=k j b' h1
 obtain⟨g5,g6⟩:=g4 h5
 exact⟨b2,g1,g2.trans h2,g3.trans h3,g6.trans h4,g5⟩
theorem w6.obj{own0:List dr}{σ:S}(h:w6 own0 σ){j:Nat}{b b':dr}(hb:own0[j]? = some b)(hb':σ.own[j]? = some b'):b'.num=b.num∧b'.obj=b.obj:=by
 obtain⟨b2,h1,h2,h3,h4,h5⟩:=h j b hb
 rw[hb'] at h1
 obtain rfl:=Option.some.inj h1
 exact⟨h2,by unfold dr.obj;rw[h3,h4]⟩
theorem w6.inv{own0:List dr}{σ:S}{I0 I:cc}{F:b8}{a:Act}{w:World}(h:w6 own0 σ)(hr:Rel σ I F a w)(hl:cc.le I0 I):wZ own0 I0 w:=⟨fun j b hb=>by
 obtain⟨b',h1,_⟩:=h j b hb
 obtain⟨e1,e2⟩:=h.obj hb h1
 rw[←e1,←e2]
 exact hr.sat.own _ _ (List.mem_append_left _ (List.mem_map.2 ⟨b',List.mem_of_getElem? h1,rfl⟩)),fun b o ho=>hr.sat.imm _ _ (hl.at ho)⟩
theorem Dy{own0:List dr}{I0:cc}{w:World}(h:wZ own0 I0 w):Reads I0 [] w:=by
 intro ad cs ⟨hsp,cells,e,fz,ho,hc⟩ j hj
 have hb:w.heap[ad.block]? = some (.cells cells e fz):=ho.elim (h.2 _ _) fun h=>by cases h
 unfold World.cell? Addr.add
 by_cases h0:j=0
 ·subst h0;simp[hb,hsp];have:=hc 0 hj;simpa using this
 ·simp[h0,hb];exact hc j hj
theorem dU{ro:Option Nat}(hP:∀f,A.good f=true→dz P f){os:List Nat}{own0:List dr}{I0:cc}{K:S→cc→b8→Prop}{R:Act→World→Prop}(hops:∀(i:Nat) (o:Oper),ops[i]? = some o→ft o.op=true) :
  ∀(l:List Nat) (σ:S) (I:cc) (F:b8) (a:Act) (w:World),kR P A rid ops os I0 own0.length l σ I F K→Rel σ I F a w→w6 own0 σ→cc.le I0 I →
   (∀σ' I' F' a' w',Rel σ' I' F' a' w'→cc.le I I'→K σ' I' F'→de (dN ops.toList) σ a σ' a'→R a' w') →
   ym P ro ops sJ R (wZ own0 I0) os l a w
 | [],σ,I,F,a,w,h,hr,hH,hl,hN=>hN σ I F a w hr (cc.le_refl I) h (de.refl _ _ _)
 | i::r,σ,I,F,a,w,h,hr,hH,hl,hN=>by
   simp only[kR] at h
   split at h
   ·exact h.elim
   ·rename_i o ho
    have hd:∀t,o.dst=some t→t∈dN ops.toList:=fun t ht=>List.mem_filterMap.2 ⟨o,by have:=Array.mem_of_getElem? ho;simpa using this,ht⟩
    show eY P ro ops sJ R (wZ own0 I0) os i (ym P ro ops sJ R (wZ own0 I0) os r) a w
    unfold eY
    by_cases hio:i∈os
    ·rw[if_pos hio]
     refine⟨o,ho, ?_⟩
     split at h
     ·rename_i hw
      rw[show os.contains i=true by simpa using hio,cond_true] at h
      obtain⟨av,hk,hy⟩:=kN h
      obtain⟨av',hg,hwf',hk⟩:=my hk
      have hwf:=hy.wf σ.own hr.wft hr.wfo
      refine⟨av.g,⟨fun _ w' hI=>hy.run a w' hr.t hr.wft (fun j b hb hh=>?_) (Dy hI),fun hn=>absurd (eW hw hr.t) hn⟩, ?_⟩
      ·have hj:j<σ.own.length:=(List.getElem?_eq_some_iff.1 hb).1
       have hj0:j<own0.length:=by
        rcases Nat.lt_or_ge j own0.length with h | h
        ·exact h
        ·have:((List.range σ.own.length).drop own0.length).contains j=true:=by
          simp only[List.contains_iff_mem]
          refine List.mem_iff_getElem?.2 ⟨j-own0.length, ?_⟩
          rw[List.getElem?_drop,show own0.length+(j-own0.length)=j by omega]
          simp[hj]
         rw[this] at hh;cases hh
       obtain⟨e1,e2⟩:=hH.obj (List.getElem?_eq_getElem hj0) hb
       rw[e1,e2]
       exact hI.1 j _ (List.getElem?_eq_getElem hj0)
      ·have hr':Rel (σ.put o.dst (some av')) I F (a.put o.dst av.g) w:=hr.put o.dst hg (hwf' hwf)
       have hkp:de (dN ops.toList) σ a (σ.put o.dst (some av')) (a.put o.dst av.g):=de.put (cR.put _ _ _) _ _ _ hd
       exact dU hP hops r _ I F _ w hk hr' (hH.keep hkp.own) hl fun σ2 I2 F2 a2 w2 g1 g2 g3 g4=>hN σ2 I2 F2 a2 w2 g1 g2 g3 (hkp.trans g4)
     ·rename_i hw
      have hk:de (dN ops.toList) σ a (σ.put o.dst (some (.a (.v undef)))) (a.put o.dst undef):=de.put (cR.put _ _ _) _ _ _ hd
      refine⟨undef,⟨fun hn=>by (rw[eW hw hr.t] at hn;cases hn),fun _=>rfl⟩, ?_⟩
      exact dU hP hops r _ I F _ w h (hr.put o.dst (av:=.a (.v undef)) rfl trivial) (hH.keep hk.own) hl
       (fun σ2 I2 F2 a2 w2 g1 g2 g3 g4=>hN σ2 I2 F2 a2 w2 g1 g2 g3 (hk.trans g4))
     ·exact h.elim
    ·rw[if_neg hio]
     refine⟨o,ho, ?_⟩
     split at h
     ·rename_i hw
      rw[if_pos (eW hw hr.t)]
      rw[show os.contains i=false by simpa using hio,cond_false] at h
      cases hp:sJ o with
      | true =>
        rw[if_pos rfl]
        rw[hp,cond_true] at h
        obtain⟨av,hk,hy⟩:=kN h
        obtain⟨av',hg,hwf',hk⟩:=my hk
        have hwf:=hy.wf σ.own hr.wft hr.wfo
        refine⟨av.g,fun w'=>hy.run a w' hr.t hr.wft (fun j b hb hh=>?_) (zx I w'), ?_⟩
        ·have:j<σ.own.length:=(List.getElem?_eq_some_iff.1 hb).1
         have hc:(List.range σ.own.length).contains j=true:=by simpa using this
         rw[hc] at hh;cases hh
        ·have hr':Rel (σ.put o.dst (some av')) I F (a.put o.dst av.g) w:=hr.put o.dst hg (hwf' hwf)
         have hkp:de (dN ops.toList) σ a (σ.put o.dst (some av')) (a.put o.dst av.g):=de.put (cR.put _ _ _) _ _ _ hd
         have hH':=hH.keep hkp.own
         exact⟨hH'.inv hr' hl,dU hP hops r _ I F _ w hk hr' hH' hl fun σ2 I2 F2 a2 w2 g1 g2 g3 g4=>hN σ2 I2 F2 a2 w2 g1 g2 g3 (hkp.trans g4)⟩
      | false =>
        rw[if_neg (by simp)]
        rw[hp,cond_false] at h
        have hh:=sQ (Q:=Qx R) hP h hr fun ch w' σ' I' F' h1 h2 h3 h4=>h3.elim
        refine uv (.inr (va (hops i o ho))) ?_
        unfold FZ at hh ⊢
        revert hh
        generalize (execOp a.eval o).run P w=res
        intro hh
        have step:∀a' w',iV o σ I a (fun σ' I' F'=>kR P A rid ops os I0 own0.length r σ' I' F' K) a' w'→wZ own0 I0 w'∧ym P ro ops sJ R (wZ own0 I0) os r a' w':=by
         intro a' w' ⟨σ',I',F',h1,h2,h3,h4,v,h5⟩
         have hk:de (dN ops.toList) σ a σ' a':=de.HB h4 _ _ _ hd h5
         exact⟨(hH.keep h4).inv h1 (cc.le_trans hl h2),dU hP hops r σ' I' F' _ w' h3 h1 (hH.keep h4) (cc.le_trans hl h2)
          (fun σ2 I2 F2 a2 w2 g1 g2 g3 g4=>hN σ2 I2 F2 a2 w2 g1 (cc.le_trans h2 g2) g3 (hk.trans g4))⟩
        cases res with
        | ok n w' =>
          cases n<;>simp only[Oper.uponIn] at hh ⊢<;>first | exact step _ _ hh | exact hh.elim | skip
          ·refine⟨hh.1,hh.2.mono fun e w'' hq=>?_⟩
           cases e with
           | returned v=>exact step _ _ hq
           | panicked ch=>exact hq
           | outgrown=>exact hq
          ·refine⟨hh.1,hh.2.mono fun e w'' hq=>?_⟩
           cases e with
           | returned v=>exact step _ _ hq
           | panicked ch=>exact hq
           | outgrown=>exact hq
          ·exact⟨hh.1,hh.2.mono fun v w'' hq=>step _ _ hq⟩
        | halt x w'=>cases x<;>simp only[Oper.uponIn] at hh ⊢<;>first | exact hh | exact hh.elim
     ·rename_i hw
      rw[if_neg (by rw[eW hw hr.t];simp)]
      have hk:de (dN ops.toList) σ a (σ.put o.dst (some (.a (.v undef)))) (a.put o.dst undef):=de.put (cR.put _ _ _) _ _ _ hd
      have hr':=hr.put o.dst (av:=.a (.v undef)) rfl trivial
      exact⟨(hH.keep hk.own).inv hr' hl,dU hP hops r _ I F _ w h hr' (hH.keep hk.own) hl             (fun σ2 I2 F2 a2 w2 g1 g2 g3 g4=>hN σ2 I2 F2 a2 w2 g1 g2 g3 (hk.trans g4))⟩
     ·exact h.elim
theorem zz{ro:Option Nat}(hP:∀f,A.good f=true→dz P f){id m n:Nat}{hid:List Nat}{σ:S}{I:cc}{F:b8}{K:S→cc→b8→Prop}{Kp:List PanicEntry→S→cc→b8→Prop}{a:Act}{w:World}(hm:P.follows .mixedOrders=true)
  (hT:rH ops m=true) (hS:ops.toList.all (fun o=>ft o.op)=true) (hB:tz (ops.extract 0 m)=true)
  (h:wD P A rid (ops.extract 0 m) n hid (ops.extract 0 m).toList 0 σ I F fun σ' F'=>yh P A rid ops (ops.toList.drop m) m σ' I F' K Kp) (hr:Rel σ I F a w) {Q:Exit→Act→World→Prop}
  (hQ:∀σ' I' F' a' w',Rel σ' I' F' a' w'→cc.le I I'→K σ' I' F'→de (dN ops.toList) σ a σ' a'→Q .normal a' w')
  (hX:∀ch σ' I' F' a' w',Rel σ' I' F' a' w'→cc.le I I'→Kp ch σ' I' F'→de (dN ops.toList) σ a σ' a'→Q (.panic ch) a' w'):(Code.region id ops true).wpIn (Fw ro) 0 P Q a w:=by
 have hr':Rel σ I F a { w with drawn:=w.drawn+1 }:=hr.s.rel (hr.sat.of_heap rfl ⟨rfl,rfl⟩)
 have hmm:m≤ops.size:=by
  simp only[rH,Bool.and_eq_true,decide_eq_true_eq] at hT
  exact hT.1
 have hsz:(ops.extract 0 m).size=m:=by simp;omega
 have hnd:(ops.toList.drop m).all (fun o=>u7 o.op)=true:=List.all_eq_true.2 fun o ho=>by
  have:=List.all_eq_true.1 hS o (List.mem_of_mem_drop ho)
  revert this;cases o.op<;>simp[ft,u7]
 have hsub:∀t∈dN (ops.extract 0 m).toList,t∈dN ops.toList:=fun t ht=>by
  unfold dN at ht ⊢
  obtain⟨o,ho,he⟩:=List.mem_filterMap.1 ht
  refine List.mem_filterMap.2 ⟨o, ?_,he⟩
  rw[Array.toList_extract] at ho
  exact List.mem_of_mem_drop (List.mem_of_mem_take ho)
 have hsub2:∀t∈dN (ops.toList.drop m),t∈dN ops.toList:=fun t ht=>by
  unfold dN at ht ⊢
  obtain⟨o,ho,he⟩:=List.mem_filterMap.1 ht
  exact List.mem_filterMap.2 ⟨o,List.mem_of_mem_drop ho,he⟩
 have hlen:(ops.toList.drop m).length=ops.size-m:=by simp
 have heq:=wpOpsIn_eq_wpListIn (F:=Fw ro) (n:=0) (P:=P) (ops:=ops) (Q:=Q) (ops.toList.drop m) m (fun j=>by rw[List.getElem?_drop];simp)
 rw[hlen] at heq
 have hd:=u9 (ro:=ro) (Q:=fun e a' w'=>e=.normal∧wpOpsIn (Fw ro) 0 P ops Q (List.range' m (ops.size-m)) a' w') hP hB h hr' fun σ' F' a' w' h1 h2 h3 =>
  ⟨rfl,by
    rw[heq]
    exact kQ hP (ops.toList.drop m) m σ' I F' a' w' (.inr hnd) h2 h1 (fun σ2 I2 F2 a2 w2 g1 g2 g3 g4=>hQ σ2 I2 F2 a2 w2 g1 g2 g3 ((h3.mono hsub).trans (g4.mono hsub2)))
     (fun ch σ2 I2 F2 a2 w2 g1 g2 g3 g4=>hX ch σ2 I2 F2 a2 w2 g1 g2 g3 ((h3.mono hsub).trans (g4.mono hsub2)))⟩
 rw[hsz] at hd
 exact wpIn_region_any hm (Dr hT (fun e a w hne h=>absurd h.1 hne) (fun a w h=>h.2) hd)
theorem lq{ro:Option Nat}(hP:∀f,A.good f=true→dz P f){os:List Nat}{own0:List dr}{I0:cc}{N:List Nat→S→cc→b8→Prop}{R:Act→World→Prop}(hops:∀(i:Nat) (o:Oper),ops[i]? = some o→ft o.op=true) :
  ∀(t:Ot) (σ:S) (I:cc) (F:b8) (a:Act) (w:World),vj P A rid ops os I0 own0.length N t σ I F→Rel σ I F a w→w6 own0 σ→cc.le I0 I →
   (∀post σ' I' F' a' w',Rel σ' I' F' a' w'→cc.le I I'→N post σ' I' F'→de (dN ops.toList) σ a σ' a'→ug P ro ops sJ (Qx R) post a' w') →
   Ha P ro ops sJ R (wZ own0 I0) os t a w
 | .fin pre post,σ,I,F,a,w,h,hr,hH,hl,hN=>dU hP hops pre σ I F a w h hr hH hl fun σ' I' F' a' w' g1 g2 g3 g4=>hN post σ' I' F' a' w' g1 g2 g3 g4
 | .fork pre i j x y,σ,I,F,a,w,h,hr,hH,hl,hN =>
   dU hP hops pre σ I F a w h hr hH hl fun σ' I' F' a' w' g1 g2 g3 g4 =>
    ⟨j6 (R:=Ha P ro ops sJ R (wZ own0 I0) os x) (dU hP hops [i] σ' I' F' a' w' g3.1 g1 (hH.keep g4.own) (cc.le_trans hl g2) fun σ2 I2 F2 a2 w2 k1 k2 k3 k4 =>
      lq hP hops x σ2 I2 F2 a2 w2 k3 k1 ((hH.keep g4.own).keep k4.own) (cc.le_trans hl (cc.le_trans g2 k2)) fun post σ3 I3 F3 a3 w3 m1 m2 m3 m4=>hN post σ3 I3 F3 a3 w3 m1 (cc.le_trans g2 (cc.le_trans k2 m2)) m3 ((g4.trans k4).trans m4)),
     j6 (R:=Ha P ro ops sJ R (wZ own0 I0) os y) (dU hP hops [j] σ' I' F' a' w' g3.2 g1 (hH.keep g4.own) (cc.le_trans hl g2) fun σ2 I2 F2 a2 w2 k1 k2 k3 k4 =>
      lq hP hops y σ2 I2 F2 a2 w2 k3 k1 ((hH.keep g4.own).keep k4.own) (cc.le_trans hl (cc.le_trans g2 k2)) fun post σ3 I3 F3 a3 w3 m1 m2 m3 m4=>hN post σ3 I3 F3 a3 w3 m1 (cc.le_trans g2 (cc.le_trans k2 m2)) m3 ((g4.trans k4).trans m4))⟩
end
end Go.Vc
namespace Go.Vc
theorem oP:∀{l:List Lf} {vs:List Value},dR l vs=true→vs.length=l.length
 | [],[],_=>rfl
 | l::r,v::vs,h=>by simp only[dR,Bool.and_eq_true] at h;simp[oP h.2]
 | [],_::_,h=>by simp[dR] at h
 | _::_,[],h=>by simp[dR] at h
theorem kS:∀{l m:List Lf} {vs us:List Value},dR l vs=true→dR m us=true→dR (l++m) (vs++us)=true
 | [],_,[],_,_,h=>h
 | l::r,_,v::vs,_,h,k=>by
   simp only[dR,Bool.and_eq_true,List.cons_append] at h ⊢
   exact⟨h.1,kS h.2 k⟩
 | [],_,_::_,_,h,_=>by simp[dR] at h
 | _::_,_,[],_,h,_=>by simp[dR] at h
theorem mi(σ:S):∀tms:List (Nat×Lf),(mh σ tms).length=tms.length
 | []=>rfl
 | (t,l)::r=>by simp[mh,mi σ r]
theorem vk{σ:S}:∀{tms:List (Nat×Lf)} {k t:Nat} {v:Value},Bk σ tms=true→(tms.map Prod.fst)[k]? = some t→(mh σ tms)[k]? = some v →
  ∃av,σ.tm[t]? = some (some av)∧av.g=v
 | [],k,t,v,_,h,_=>by simp at h
 | (s,l)::r,0,t,v,hok,h,hv=>by
   simp only[List.map_cons,List.getElem?_cons_zero,Option.some.injEq] at h
   subst h
   simp only[Bk,Bool.and_eq_true] at hok
   simp only[mh,List.getElem?_cons_zero,Option.some.injEq] at hv
   obtain⟨h1,_⟩:=hok
   split at h1
   ·rename_i av ha;rw[ha] at hv;exact⟨av,ha,hv⟩
   ·cases h1
 | (s,l)::r,k+1,t,v,hok,h,hv=>by
   simp only[Bk,Bool.and_eq_true] at hok
   simp only[mh,List.getElem?_cons_succ] at hv
   exact vk hok.2 (by simpa using h) hv
theorem xA{σ:S}:∀{tms:List (Nat×Lf)},Bk σ tms=true→dR (tms.map Prod.snd) (mh σ tms)=true
 | [],_=>rfl
 | (s,l)::r,h=>by
   simp only[Bk,Bool.and_eq_true] at h
   simp only[List.map_cons,mh,dR,Bool.and_eq_true]
   refine⟨?_,xA h.2⟩
   obtain⟨h1,_⟩:=h
   split at h1
   ·exact h1
   ·cases h1
theorem xB{own:List dr}:∀{bks:List (Nat×List Lf)},qQ own bks=true→dR (bks.flatMap Prod.snd) (qP own bks)=true
 | [],_=>rfl
 | (s,l)::r,h=>by
   simp only[qQ,Bool.and_eq_true] at h
   simp only[List.flatMap_cons,qP]
   refine kS ?_ (xB h.2)
   obtain⟨h1,_⟩:=h
   split at h1
   ·simp only[Bool.and_eq_true] at h1;exact h1.2
   ·cases h1
theorem vm{σ:S}{c:Cut}(h:σ.G0 c=true):dR c.JF (σ.mB c)=true:=by
 simp only[S.G0,Bool.and_eq_true] at h
 exact kS (xA h.1) (xB h.2)
theorem zA{own:List dr}:∀{bks:List (Nat×List Lf)} {i:Nat} {b:dr} {cs:List Value},qQ own bks=true→own[i]? = some b →
  rG bks (qP own bks) i=some cs→cs=b.cells.map AV.g
 | [],i,b,cs,_,_,h=>by simp[rG] at h
 | (j,ls)::r,i,b,cs,hok,hi,h=>by
   simp only[qQ,Bool.and_eq_true] at hok
   obtain⟨h1,h2⟩:=hok
   split at h1
   ·rename_i b' hb'
    simp only[Bool.and_eq_true] at h1
    have hl:=oP h1.2
    simp only[rG,qP,hb'] at h
    cases hji:(j==i) with
    | true =>
      rw[hji] at h
      simp only[cond_true,Option.some.injEq] at h
      have:j=i:=by simpa using hji
      subst this
      rw[hi] at hb';cases hb'
      rw[←h,←hl];simp
    | false =>
      rw[hji] at h
      simp only[cond_false] at h
      rw[←hl,List.drop_left] at h
      exact zA h2 hi h
   ·cases h1
theorem vn:∀{bks:List (Nat×List Lf)} {vs us:List Value} {i:Nat},(rG bks vs i).isSome=(rG bks us i).isSome
 | [],_,_,_=>rfl
 | (j,ls)::r,vs,us,i=>by
   simp only[rG]
   cases (j==i) with
   | true=>rfl
   | false=>exact vn
theorem yo{own:List dr}:∀{bks:List (Nat×List Lf)} {vs:List Value} {i:Nat} {b:dr},qQ own bks=true→own[i]? = some b→(rG bks vs i).isSome=true→b.ro=false
 | [],_,_,_,_,_,h=>by simp[rG] at h
 | (j,ls)::r,vs,i,b,hok,hi,h=>by
   simp only[qQ,Bool.and_eq_true] at hok
   obtain⟨h1,h2⟩:=hok
   simp only[rG] at h
   cases hji:(j==i) with
   | true =>
     have:j=i:=by simpa using hji
     subst this
     rw[hi] at h1
     simp only[Bool.and_eq_true,Bool.not_eq_true'] at h1
     exact h1.1
   | false=>rw[hji] at h;exact yo h2 hi h
theorem EO(c:Cut)(l:List Nat)(vs:List Value)(σ:S):iZ σ.own (σ.lay c l vs).own:=fun i b hb=>by
 refine⟨_,by show (dZ _ _ 0 σ.own)[i]? = _;rw[fe,hb];rfl, ?_⟩
 split<;>rfl
theorem EP{c:Cut}{l:List Nat}{vs:List Value}{σ:S}(hok:qQ σ.own c.bks=true):cR σ (σ.lay c l vs):=fun i b hb=>by
 refine⟨_,by show (dZ _ _ 0 σ.own)[i]? = _;rw[fe,hb];rfl, ?_⟩
 cases hs:rG c.bks (vs.drop c.tms.length) (0+i) with
 | none=>exact⟨rfl,rfl,fun _=>⟨rfl,rfl⟩⟩
 | some cs =>
   refine⟨rfl,rfl,fun hr=>?_⟩
   have:=yo (vs:=vs.drop c.tms.length) hok hb (by rw[Nat.zero_add] at hs;rw[hs];rfl)
   rw[this] at hr;cases hr
theorem Rel.lay{σ0 σ:S}{I0 I:cc}{F0 F:b8}{a0 a:Act}{w0 w:World}(c:Cut)(l:List Nat)(hr0:Rel σ0 I0 F0 a0 w0)(hr:Rel σ I F a w)
  (hown:∀(i:Nat) (b:dr),σ0.own[i]? = some b→∃b':dr,σ.own[i]? = some b'∧b'.num=b.num∧b'.elem=b.elem ∧
    (rG c.bks ((σ.mB c).drop c.tms.length) i=none→b'.cells=b.cells))
  (htm:∀t,t∉l→a.tmps[t]? = a0.tmps[t]?) (hsz:a.tmps.size=a0.tmps.size) (hok:σ.G0 c=true) (hdf:σ.df=σ0.df):Rel (σ0.lay c l (σ.mB c)) I F a w:=by
 have hok':=hok
 simp only[S.G0,Bool.and_eq_true] at hok'
 have hdrop:(σ.mB c).drop c.tms.length=qP σ.own c.bks:=by
  unfold S.mB;rw[←mi σ c.tms,List.drop_left]
 have htake:(σ.mB c).take c.tms.length=mh σ c.tms:=by
  unfold S.mB;rw[←mi σ c.tms,List.take_left]
 have hsame:=EO c l (σ.mB c) σ0
 refine⟨?_, ?_,hr.defers.trans (by rw[hdf];rfl), ?_, ?_, ?_⟩
 ·simp only[S.lay,qy,qx];rw[hr0.size,hsz]
 ·intro t av ht
  rcases nh _ _ _ t av ht with ⟨k,v,h1,h2,rfl⟩ | h
  ·rw[htake] at h2
   obtain⟨av',h3,h4⟩:=vk hok'.1 h1 h2
   have:=hr.tm t av' h3
   rw[this,h4];rfl
  ·obtain⟨h1,h2⟩:=qR _ _ _ _ h
   rw[htm t h1];exact hr0.tm t av h2
 ·intro t av ht
  rcases nh _ _ _ t av ht with ⟨k,v,h1,h2,rfl⟩ | h
  ·trivial
  ·obtain⟨h1,h2⟩:=qR _ _ _ _ h
   exact AV.ee hsame (hr0.wft t av h2)
 ·intro i b hb cell hc
  have hb':(dZ c.bks ((σ.mB c).drop c.tms.length) 0 σ0.own)[i]? = some b:=hb
  rw[fe] at hb'
  cases h0:σ0.own[i]? with
  | none=>rw[h0] at hb';simp at hb'
  | some b0 =>
    rw[h0] at hb'
    simp only[Option.map_some,Option.some.injEq] at hb'
    subst hb'
    split at hc
    ·obtain⟨v,_,rfl⟩:=List.mem_map.1 hc;trivial
    ·exact AV.ee hsame (hr0.wfo i b0 h0 cell hc)
 ·have heq:cL (σ0.lay c l (σ.mB c)).own=(cL σ.own).take σ0.own.length:=by
   apply List.ext_getElem?
   intro i
   simp only[cL,List.getElem?_map,List.getElem?_take,S.lay,fe,Nat.zero_add]
   cases h0:σ0.own[i]? with
   | none =>
     have:¬i<σ0.own.length:=fun h=>by simp[h] at h0
     simp[this]
   | some b0 =>
     have hlt:i<σ0.own.length:=by
      rcases Nat.lt_or_ge i σ0.own.length with h | h
      ·exact h
      ·simp[List.getElem?_eq_none h] at h0
     obtain⟨b',h1,h2,h3,h4⟩:=hown i b0 h0
     simp only[if_pos hlt,h1,Option.map_some]
     cases hs:rG c.bks ((σ.mB c).drop c.tms.length) i with
     | none =>
       have h5:=h4 hs
       simp[dr.obj,h2,h3,h5]
     | some cs =>
       have h5:=zA hok'.2 h1 (by rw[hdrop] at hs;exact hs)
       simp[dr.obj,h2,h3,h5,AV.g,At.g,Function.comp_def]
  rw[heq]
  exact hr.sat.sub ((List.take_sublist _ _).append (List.Sublist.refl F))
theorem vo(own0:List dr):∀(i:Nat) (own:List dr),cL (CJ own0 i own)=cL own
 | _,[]=>rfl
 | i,b::r=>by
   simp only[CJ,cL,List.map_cons]
   have:=vo own0 (i+1) r
   unfold cL at this
   rw[this]
   congr 1
   split<;>rfl
theorem zC(own0:List dr)(own:List dr):iZ own (CJ own0 0 own):=fun i b hb=>by
 refine⟨_,by rw[pA,hb];rfl, ?_⟩
 split<;>rfl
theorem Rel.unlock{σ σ0:S}{I:cc}{F:b8}{a:Act}{w:World}(h:Rel σ I F a w):Rel (σ.unlock σ0) I F a w:=by
 refine h.heap (zC _ _) ?_ (by rw[vo];exact h.sat)
 intro i b hb c hc
 rw[pA] at hb
 cases h0:σ.own[i]? with
 | none=>rw[h0] at hb;simp at hb
 | some b0 =>
   rw[h0] at hb
   simp only[Option.map_some,Option.some.injEq] at hb
   have:b.cells=b0.cells:=by rw[←hb];split<;>rfl
   rw[this] at hc
   exact AV.ee (zC _ _) (h.wfo i b0 h0 c hc)
theorem tC{σ0 σ:S}{c:Cut}{l:List Nat}{vs:List Value}(hok:qQ σ0.own c.bks=true)(hk:cR (σ0.lay c l vs) σ):cR σ0 (σ.unlock σ0):=fun i b hb=>by
 obtain⟨b1,h1,e1,e2,h2⟩:=EP (l:=l) (vs:=vs) hok i b hb
 obtain⟨b2,h3,e3,e4,h4⟩:=hk i b1 h1
 refine⟨{ b2 with ro:=b.ro }, ?_,e3.trans e1,e4.trans e2,fun hr=>?_⟩
 ·show (CJ σ0.own 0 σ.own)[i]? = _
  rw[pA,h3,Nat.zero_add,hb];rfl
 ·obtain⟨h5,h6⟩:=h2 hr
  exact⟨hr,(h4 h5).2.trans h6⟩
def fE(bks:List (Nat×List Lf)):Nat→List dr→List dr
 | _,[]=>[]
 | i,b::r=>(match rG bks [] i with
   | some _=>b
   | none=>{ b with ro:=true })::fE bks (i+1) r
def S.lock(σ:S)(c:Cut):S:={ σ with own:=fE c.bks 0 σ.own }
theorem lu(bks:List (Nat×List Lf)):∀(i:Nat) (own:List dr) (j:Nat),(fE bks i own)[j]? = (own[j]?).map fun b =>
  match rG bks [] (i+j) with
  | some _=>b
  | none=>{ b with ro:=true }
 | i,[],j=>by simp[fE]
 | i,b::r,0=>by simp only[fE,List.getElem?_cons_zero,Option.map_some,Nat.add_zero]
 | i,b::r,j+1=>by
   simp only[fE,List.getElem?_cons_succ]
   rw[lu bks (i+1) r j,show i+1+j=i+(j+1) by omega]
theorem xC(bks:List (Nat×List Lf)):∀(i:Nat) (own:List dr),cL (fE bks i own)=cL own
 | _,[]=>rfl
 | i,b::r=>by
   simp only[fE,cL,List.map_cons]
   have:=xC bks (i+1) r
   unfold cL at this
   rw[this]
   congr 1
   split<;>rfl
theorem uy{σ:S}{c:Cut}{i:Nat}{b:dr}(hb:σ.own[i]? = some b):∃b',(σ.lock c).own[i]? = some b'∧b'.num=b.num∧b'.elem=b.elem∧b'.cells=b.cells ∧
  (b.ro=true→b'.ro=true)∧(rG c.bks [] i=none→b'.ro=true):=by
 refine⟨_,by show (fE _ 0 σ.own)[i]? = _;rw[lu,hb];rfl, ?_⟩
 rw[Nat.zero_add]
 cases rG c.bks [] i with
 | none=>exact⟨rfl,rfl,rfl,fun _=>rfl,fun _=>rfl⟩
 | some cs=>exact⟨rfl,rfl,rfl,fun h=>h,fun h=>by cases h⟩
theorem Rel.lock{σ:S}{I:cc}{F:b8}{a:Act}{w:World}(h:Rel σ I F a w)(c:Cut):Rel (σ.lock c) I F a w:=by
 have hs:iZ σ.own (σ.lock c).own:=fun i b hb=>by
  obtain⟨b',h1,h2,_⟩:=uy (c:=c) hb
  exact⟨b',h1,h2⟩
 refine h.heap hs ?_ (by show Sat I (cL (fE _ 0 _)++F) w;rw[xC];exact h.sat)
 intro i b hb cell hc
 cases h0:σ.own[i]? with
 | none =>
   have h1:(fE c.bks 0 σ.own)[i]? = some b:=hb
   rw[lu,h0] at h1;simp at h1
 | some b0 =>
   obtain⟨b',h1,_,_,h2,_⟩:=uy (c:=c) h0
   have:b'=b:=Option.some.inj (h1.symm.trans hb)
   subst this
   rw[h2] at hc
   exact AV.ee hs (h.wfo i b0 h0 cell hc)
theorem jH{σ0 σ:S}{c:Cut}(hk:cR (σ0.lock c) σ):cR σ0 (σ.unlock σ0):=fun i b hb=>by
 obtain⟨b1,h1,e1,e2,h2,h3,_⟩:=uy (c:=c) hb
 obtain⟨b2,h4,e3,e4,h5⟩:=hk i b1 h1
 refine⟨{ b2 with ro:=b.ro }, ?_,e3.trans e1,e4.trans e2,fun hr=>⟨hr,(h5 (h3 hr)).2.trans h2⟩⟩
 show (CJ σ0.own 0 σ.own)[i]? = _
 rw[pA,h4,Nat.zero_add,hb];rfl
def S.eg(σ:S):S:=σ.lock ⟨[],[],fun _ _ _ _ _ _ _=>True,[],[]⟩
theorem eC(σ:S):w6 σ.eg.own σ.eg:=fun j b hb=>by
 refine⟨b,hb,rfl,rfl,rfl, ?_⟩
 have hb':(fE [] 0 σ.own)[j]? = some b:=hb
 rw[lu] at hb'
 cases h0:σ.own[j]? with
 | none=>rw[h0] at hb';simp at hb'
 | some b0 =>
   rw[h0] at hb'
   simp only[Option.map_some,rG,Option.some.injEq] at hb'
   rw[←hb']
theorem ly(σ:S):σ.eg.own.length=σ.own.length:=by
 have h:∀(i:Nat) (own:List dr),(fE [] i own).length=own.length:=by
  intro i own
  induction own generalizing i with
  | nil=>rfl
  | cons b r ih=>simp[fE,ih]
 exact h 0 σ.own
theorem zD{P:Program}{A:qj}{rid:Nat}{ops:Array Oper}{ro:Option Nat}(hP:∀f,A.good f=true→dz P f){id:Nat}{os pre post:List Nat}{σ:S}{I:cc}{F:b8}{K:S→cc→b8→Prop}{a:Act}{w:World}(hm:P.follows .mixedOrders=true)
  (hB:HF ops sJ os pre post=true) (h:kR P A rid ops os I σ.own.length pre σ.eg I F fun σ' I' F'=>gH P A rid ops post (σ'.unlock σ) I' F' K) (hr:Rel σ I F a w) {Q:Exit→Act→World→Prop}
  (hQ:∀σ' I' F' a' w',Rel σ' I' F' a' w'→cc.le I I'→K σ' I' F'→de (dN ops.toList) σ a σ' a'→Q .normal a' w'):(Code.region id ops true).wpIn (Fw ro) 0 P Q a w:=by
 have hops:∀(i:Nat) (o:Oper),ops[i]? = some o→ft o.op=true:=fun i o ho=>by
  have hm:o∈ops.toList:=by have:=Array.mem_of_getElem? ho;simpa using this
  simp only[HF,Bool.and_eq_true] at hB
  have:=List.all_eq_true.1 hB.2 o hm
  simp only[Bool.and_eq_true] at this
  exact this.1
 have hr1:Rel σ I F a { w with drawn:=w.drawn+1 }:=hr.s.rel (hr.sat.of_heap rfl ⟨rfl,rfl⟩)
 have hr':Rel σ.eg I F a { w with drawn:=w.drawn+1 }:=hr1.lock _
 rw[←ly] at h
 have hg:=dU (ro:=ro) (R:=ug P ro ops sJ (Qx fun a w=>Q .normal a w) post) hP hops pre σ.eg I F a _ h hr' (eC σ) (cc.le_refl I) fun σ' I' F' a' w' h1 h2 h3 h4 =>
  dT (ro:=ro) (Q:=Qx fun a w=>Q .normal a w) hP hops post (σ'.unlock σ) I' F' a' w' h3 h1.unlock fun σ2 I2 F2 a2 w2 g1 g2 g3 g4 =>
   hQ σ2 I2 F2 a2 w2 g1 (cc.le_trans h2 g2) g3 ((⟨jH h4.own,h4.tm,h4.size⟩:de (dN ops.toList) σ a (σ'.unlock σ) a').trans g4)
 exact wpIn_mono (wpIn_region_any hm (xy hB ((eC σ).inv hr' (cc.le_refl I)) hg)) fun e a' w' hq=>by
  cases e with
  | normal=>exact hq
  | _=>exact hq.elim
def cc.del(I:cc)(b:Nat):cc:=⟨fun x=>if x=b then none else I x,I.os,I.out⟩
theorem Sat.Bq{I I':cc}{F:b8}{w:World}{b:Nat}{o:Obj}(hb:I b=none)(hl:cc.le (I.put b o) I')(h:Sat I' F w):cc.le I (I'.del b)∧Sat (I'.del b) ((b,o)::F) w:=by
 have ho:I' b=some o:=hl.at (by simp[cc.put])
 refine⟨⟨fun x y hx=>?_,hl.2.1,hl.2.2⟩,fun x y hx=>?_,fun x y hx=>?_,fun x y hx=>?_, ?_,h.env⟩
 ·have hne:x≠b:=fun e=>by rw[e,hb] at hx;cases hx
  show (if x=b then none else I' x)=some y
  rw[if_neg hne]
  exact hl.at (by simp[cc.put,hne,hx])
 ·have hx:(if x=b then none else I' x)=some y:=hx
  split at hx
  ·cases hx
  ·exact h.imm _ _ hx
 ·rcases List.mem_cons.1 hx with e | hx
  ·cases e;exact h.imm _ _ ho
  ·exact h.own _ _ hx
 ·show (if x=b then none else I' x)=none
  split
  ·rfl
  ·rename_i hne
   rcases List.mem_cons.1 hx with e | hx
   ·cases e;exact absurd rfl hne
   ·exact h.off _ _ hx
 ·rw[List.map_cons,List.nodup_cons]
  refine⟨fun hm=>?_,h.nd⟩
  obtain⟨⟨x,y⟩,hx,rfl⟩:=List.mem_map.1 hm
  have:=h.off _ _ hx
  rw[this] at ho;cases ho
theorem zE{P:Program}{A:qj}{rid:Nat}{ops:Array Oper}{ro:Option Nat}(hP:∀f,A.good f=true→dz P f){id:Nat}{os pre post:List Nat}{σ:S}{I:cc}{F F1:b8}{b:Nat}{o:Obj}{K:S→cc→b8→Prop}{a:Act}{w:World}(hm:P.follows .mixedOrders=true)
  (hB:HF ops sJ os pre post=true) (hp:F.Perm ((b,o)::F1)) (h:kR P A rid ops os (I.put b o) σ.own.length pre σ.eg (I.put b o) F1 fun σ' I' F'=>gH P A rid ops post (σ'.unlock σ) (I'.del b) ((b,o)::F') K) (hr:Rel σ I F a w) {Q:Exit→Act→World→Prop}
  (hQ:∀σ' I' F' a' w',Rel σ' I' F' a' w'→cc.le I I'→K σ' I' F'→de (dN ops.toList) σ a σ' a'→Q .normal a' w'):(Code.region id ops true).wpIn (Fw ro) 0 P Q a w:=by
 have hops:∀(i:Nat) (o:Oper),ops[i]? = some o→ft o.op=true:=fun i o ho=>by
  have hm:o∈ops.toList:=by have:=Array.mem_of_getElem? ho;simpa using this
  simp only[HF,Bool.and_eq_true] at hB
  have:=List.all_eq_true.1 hB.2 o hm
  simp only[Bool.and_eq_true] at this
  exact this.1
 have hsat:Sat I ((b,o)::(cL σ.own++F1)) w:=hr.sat.perm ((hp.append_left _).trans List.perm_middle)
 have hIb:I b=none:=hsat.off _ _ (.head _)
 have hr1:Rel σ (I.put b o) F1 a { w with drawn:=w.drawn+1 }:=hr.s.rel (hsat.lp.2.of_heap rfl ⟨rfl,rfl⟩)
 have hr':Rel σ.eg (I.put b o) F1 a { w with drawn:=w.drawn+1 }:=hr1.lock _
 rw[←ly] at h
 have hg:=dU (ro:=ro) (R:=ug P ro ops sJ (Qx fun a w=>Q .normal a w) post) hP hops pre σ.eg (I.put b o) F1 a _ h hr' (eC σ) (cc.le_refl _) fun σ' I' F' a' w' h1 h2 h3 h4=>by
  have hu:=h1.unlock (σ0:=σ)
  obtain⟨d1,d2⟩:=Sat.Bq hIb h2 hu.sat
  have hu':Rel (σ'.unlock σ) (I'.del b) ((b,o)::F') a' w':=hu.s.rel (d2.perm List.perm_middle.symm)
  exact dT (ro:=ro) (Q:=Qx fun a w=>Q .normal a w) hP hops post (σ'.unlock σ) (I'.del b) ((b,o)::F') a' w' h3 hu' fun σ2 I2 F2 a2 w2 g1 g2 g3 g4 =>
   hQ σ2 I2 F2 a2 w2 g1 (cc.le_trans d1 g2) g3 ((⟨jH h4.own,h4.tm,h4.size⟩:de (dN ops.toList) σ a (σ'.unlock σ) a').trans g4)
 exact wpIn_mono (wpIn_region_any hm (xy hB ((eC σ).inv hr' (cc.le_refl _)) hg)) fun e a' w' hq=>by
  cases e with
  | normal=>exact hq
  | _=>exact hq.elim
theorem CO{b:Bool}{p q:Prop}(h:cond b p q):p∨q:=by
 cases b
 ·exact .inr h
 ·exact .inl h
theorem CP{ops:Array Oper}{os:List Nat}{t:Ot}(hB:HH ops sJ os t=true):∀(i:Nat) (o:Oper),ops[i]? = some o→ft o.op=true:=fun i o ho=>by
 have hm:o∈ops.toList:=by have:=Array.mem_of_getElem? ho;simpa using this
 simp only[HH,Bool.and_eq_true] at hB
 have:=List.all_eq_true.1 hB.2 o hm
 simp only[Bool.and_eq_true] at this
 exact this.1
theorem zG{P:Program}{A:qj}{rid:Nat}{ops:Array Oper}{ro:Option Nat}(hP:∀f,A.good f=true→dz P f){id:Nat}{os:List Nat}{t:Ot}{σ:S}{I:cc}{F:b8}{K:S→cc→b8→Prop}{a:Act}{w:World}(hm:P.follows .mixedOrders=true)
  (hB:HH ops sJ os t=true) (h:vj P A rid ops os I σ.own.length (fun post σ' I' F'=>gH P A rid ops post (σ'.unlock σ) I' F' K) t σ.eg I F) (hr:Rel σ I F a w) {Q:Exit→Act→World→Prop}
  (hQ:∀σ' I' F' a' w',Rel σ' I' F' a' w'→cc.le I I'→K σ' I' F'→de (dN ops.toList) σ a σ' a'→Q .normal a' w'):(Code.region id ops true).wpIn (Fw ro) 0 P Q a w:=by
 have hops:=CP hB
 have hr1:Rel σ I F a { w with drawn:=w.drawn+1 }:=hr.s.rel (hr.sat.of_heap rfl ⟨rfl,rfl⟩)
 have hr':Rel σ.eg I F a { w with drawn:=w.drawn+1 }:=hr1.lock _
 rw[←ly] at h
 have hg:=lq (ro:=ro) (R:=fun a w=>Q .normal a w) hP hops t σ.eg I F a _ h hr' (eC σ) (cc.le_refl I) fun post σ' I' F' a' w' h1 h2 h3 h4 =>
  dT (ro:=ro) (Q:=Qx fun a w=>Q .normal a w) hP hops post (σ'.unlock σ) I' F' a' w' h3 h1.unlock fun σ2 I2 F2 a2 w2 g1 g2 g3 g4 =>
   hQ σ2 I2 F2 a2 w2 g1 (cc.le_trans h2 g2) g3 ((⟨jH h4.own,h4.tm,h4.size⟩:de (dN ops.toList) σ a (σ'.unlock σ) a').trans g4)
 exact wpIn_mono (wpIn_region_any hm (xz hB ((eC σ).inv hr' (cc.le_refl I)) hg)) fun e a' w' hq=>by
  cases e with
  | normal=>exact hq
  | _=>exact hq.elim
theorem yp{P:Program}{A:qj}{rid:Nat}{ops:Array Oper}{ro:Option Nat}(hP:∀f,A.good f=true→dz P f){id:Nat}{os:List Nat}{t:Ot}{σ:S}{I:cc}{F F1:b8}{b:Nat}{o:Obj}{K:S→cc→b8→Prop}{a:Act}{w:World}(hm:P.follows .mixedOrders=true)
  (hB:HH ops sJ os t=true) (hp:F.Perm ((b,o)::F1)) (h:vj P A rid ops os (I.put b o) σ.own.length (fun post σ' I' F'=>gH P A rid ops post (σ'.unlock σ) (I'.del b) ((b,o)::F') K) t σ.eg (I.put b o) F1) (hr:Rel σ I F a w) {Q:Exit→Act→World→Prop}
  (hQ:∀σ' I' F' a' w',Rel σ' I' F' a' w'→cc.le I I'→K σ' I' F'→de (dN ops.toList) σ a σ' a'→Q .normal a' w'):(Code.region id ops true).wpIn (Fw ro) 0 P Q a w:=by
 have hops:=CP hB
 have hsat:Sat I ((b,o)::(cL σ.own++F1)) w:=hr.sat.perm ((hp.append_left _).trans List.perm_middle)
 have hIb:I b=none:=hsat.off _ _ (.head _)
 have hr1:Rel σ (I.put b o) F1 a { w with drawn:=w.drawn+1 }:=hr.s.rel (hsat.lp.2.of_heap rfl ⟨rfl,rfl⟩)
 have hr':Rel σ.eg (I.put b o) F1 a { w with drawn:=w.drawn+1 }:=hr1.lock _
 rw[←ly] at h
 have hg:=lq (ro:=ro) (R:=fun a w=>Q .normal a w) hP hops t σ.eg (I.put b o) F1 a _ h hr' (eC σ) (cc.le_refl _) fun post σ' I' F' a' w' h1 h2 h3 h4=>by
  have hu:=h1.unlock (σ0:=σ)
  obtain⟨d1,d2⟩:=Sat.Bq hIb h2 hu.sat
  have hu':Rel (σ'.unlock σ) (I'.del b) ((b,o)::F') a' w':=hu.s.rel (d2.perm List.perm_middle.symm)
  exact dT (ro:=ro) (Q:=Qx fun a w=>Q .normal a w) hP hops post (σ'.unlock σ) (I'.del b) ((b,o)::F') a' w' h3 hu' fun σ2 I2 F2 a2 w2 g1 g2 g3 g4 =>
   hQ σ2 I2 F2 a2 w2 g1 (cc.le_trans d1 g2) g3 ((⟨jH h4.own,h4.tm,h4.size⟩:de (dN ops.toList) σ a (σ'.unlock σ) a').trans g4)
 exact wpIn_mono (wpIn_region_any hm (xz hB ((eC σ).inv hr' (cc.le_refl _)) hg)) fun e a' w' hq=>by
  cases e with
  | normal=>exact hq
  | _=>exact hq.elim
abbrev Kt:=Exit→S→cc→b8→Prop
def IL(N:S→cc→b8→Prop)(K:Kt):Kt
 | .normal,σ,I,F=>N σ I F
 | e,σ,I,F=>K e σ I F
def ER(id:Nat)(K:Kt):Kt
 | .exit id',σ,I,F=>cond (id'==id) (K .normal σ I F) (K (.exit id') σ I F)
 | e,σ,I,F=>K e σ I F
def IM(K:Kt):Kt
 | .goto _,_,_,_=>False
 | e,σ,I,F=>K e σ I F
def J5(σ0:S)(N:S→cc→b8→Prop)(K:Kt):Kt
 | .normal,σ,I,F=>N σ I F
 | e,σ,I,F=>K e (σ.unlock σ0) I F
def S.fix(σ:S)(c:Cut):List Value:=c.fx.map fun t=>σ.cv (.tmp t)
def Gm(σ σ':S)(X:Prop):Prop:=cond (σ.df.isEmpty&&σ'.df.isEmpty) X (σ'.df=σ.df∧X)
theorem zH{σ σ':S}{X:Prop}(h:Gm σ σ' X):σ'.df=σ.df∧X:=by
 unfold Gm at h
 cases hc:(σ.df.isEmpty&&σ'.df.isEmpty) with
 | true =>
   rw[hc] at h
   simp only[Bool.and_eq_true,List.isEmpty_iff] at hc
   exact⟨by rw[hc.1,hc.2],h⟩
 | false=>rw[hc] at h;exact h
def HI:List (Option Nat)→Option Nat→Bool
 | [],_=>false
 | none::r,none=>true
 | some a::r,some b=>a==b||HI r (some b)
 | _::r,x=>HI r x
def dd:List (Option Nat)→List (Option Nat)
 | []=>[]
 | x::r=>cond (HI (dd r) x) (dd r) (x::dd r)
def jmp:List Nat→Code→List (Option Nat)
 | bs,.exit id=>cond (bs.contains id) [] [some id]
 | _,.ret=>[none]
 | bs,.seq a b=>jmp bs a++jmp bs b
 | bs,.cond _ a b=>jmp bs a++jmp bs b
 | bs,.block id c=>jmp (id::bs) c
 | bs,.loop c=>jmp bs c
 | bs,.scope c=>jmp bs c
 | bs,.rangeFunc _ _ _ y=>jmp bs y
 | _,_=>[]
def JM:List (Option Nat)→(Option Nat→Prop)→Prop
 | [],_=>False
 | x::r,f=>f x∨JM r f
def Br:Option Nat→Exit
 | none=>.ret
 | some id=>.exit id
def vq:Option Nat→Code
 | none=>.ret
 | some id=>.exit id
theorem CQ:∀{l:List (Option Nat)} {f:Option Nat→Prop},JM l f→∃j,f j
 | [],_,h=>h.elim
 | x::r,f,h=>by
   rcases h with h | h
   ·exact⟨x,h⟩
   ·exact CQ h
def Hb:Sh→(Value→Prop)→Prop
 | .one l,Q=>zi l Q
 | .agg ls,Q=>uL ls fun vs=>Q (.agg vs.toArray)
def Bt:List Sh→(List Value→Prop)→Prop
 | [],Q=>Q []
 | s::r,Q=>Hb s fun v=>Bt r fun vs=>Q (v::vs)
def Cut.JN(c:Cut):List Lf:=c.bks.flatMap Prod.snd
def JO(N:S→cc→b8→Prop):Kt
 | .normal,σ,I,F=>N σ I F
 | _,_,_,_=>False
def HJ(L Lb:b8)(Lx:Option Nat→b8)(n0:Nat)(Q:Ending→cc→b8→Prop):Kt
 | .normal,σ,I,F=>∃F3:b8,F.Perm (Lb++F3)∧Q (.returned (.bool true)) I (cL (σ.own.take n0)++(L++F3))
 | .ret,σ,I,F=>∃F3:b8,F.Perm (Lb++F3)∧Q (.returned (.bool false)) I (cL (σ.own.take n0)++(Lx none++F3))
 | .exit id,σ,I,F=>∃F3:b8,F.Perm (Lb++F3)∧Q (.returned (.bool false)) I (cL (σ.own.take n0)++(Lx (some id)++F3))
 | _,_,_,_=>False
def S.round(σ:S)(ct:Cut)(ps:Array Nat)(args vs:List Value):S:={ tm:=ia ps.toList args σ.tm,own:=dZ ct.bks vs 0 σ.own,df:=[] }
def S.after(σ:S)(ct:Cut)(vs:List Value)(D:Nat)(rd:Option b8):S :=
 { tm:=σ.tm,own:=CJ σ.own 0 (dZ ct.bks vs 0 σ.own),df:=match rd with
  | none=>.mark D::σ.df
  | some _=>σ.df }
def zI(rd:Option b8)(D:Nat)(F:b8):b8:=match rd with
 | none=>(D,.deferred (some []))::F
 | some _=>F
def IP(rd:Option b8)(F:b8)(X:Prop):Prop:=match rd with
 | none=>X
 | some R=>(∃F3:b8,F.Perm (R++F3))∧X
def JP(rd:Option b8)(ops:Array Oper):Bool:=match rd with
 | none=>true
 | some _=>ops.toList.all fun o=>u7 o.op
def W(P:Program)(A:qj):Option b8→Code→Nat→Kt→S→cc→b8→Prop
 | _,.skip,_,K,σ,I,F=>K .normal σ I F
 | _,.label _,_,K,σ,I,F=>K .normal σ I F
 | _,.exit id,_,K,σ,I,F=>K (.exit id) σ I F
 | _,.goto l,_,K,σ,I,F=>K (.goto l) σ I F
 | _,.ret,_,K,σ,I,F=>K .ret σ I F
 | rd,.region rid ops false,_,K,σ,I,F=>cond (JP rd ops) (yh P A rid ops ops.toList 0 σ I F (K .normal) (fun ch=>K (.panic ch))) False
 | _,.region rid ops true,_,K,σ,I,F=>match A.ot rid with
   | some (os,t)=>cond (P.follows .mixedOrders&&HH ops sJ os t)
      (cond (os.contains 1000)
        (∃(b:Nat) (o:Obj) (F1:b8),F.Perm ((b,o)::F1)∧vj P A rid ops os (I.put b o) σ.own.length (fun post σ' I' F'=>gH P A rid ops post (σ'.unlock σ) (I'.del b) ((b,o)::F') (K .normal)) t σ.eg (I.put b o) F1)
        (vj P A rid ops os I σ.own.length (fun post σ' I' F'=>gH P A rid ops post (σ'.unlock σ) I' F' (K .normal)) t σ.eg I F)) False
   | none=>match A.sq rid with
      | some l=>match A.s2 rid with
        | none=>match A.ol rid with
          | none=>cond (P.follows .mixedOrders&&IK ops sJ l) (gH P A rid ops l σ I F (K .normal)) False
          | some (os,m)=>cond (P.follows .mixedOrders&&HF ops sJ os (l.take m) (l.drop m))
            (cond (os.contains 1000)
              (∃(b:Nat) (o:Obj) (F1:b8),F.Perm ((b,o)::F1)∧kR P A rid ops os (I.put b o) σ.own.length (l.take m) σ.eg (I.put b o) F1 fun σ' I' F'=>gH P A rid ops (l.drop m) (σ'.unlock σ) (I'.del b) ((b,o)::F') (K .normal))
              (kR P A rid ops os I σ.own.length (l.take m) σ.eg I F fun σ' I' F'=>gH P A rid ops (l.drop m) (σ'.unlock σ) I' F' (K .normal))) False
        | some (p,q,lA,lB)=>cond (P.follows .mixedOrders&&EN ops sJ l p q lA lB)
          (gH P A rid ops l σ I F fun σ' I' F'=>gH P A rid ops (p::lA) σ' I' F' (K .normal)∧gH P A rid ops (q::lB) σ' I' F' (K .normal)) False
      | none=>match A.tl rid with
        | some m=>cond (P.follows .mixedOrders&&(rH ops m&&(ops.toList.all (fun o=>ft o.op)&&tz (ops.extract 0 m))))
          (wD P A rid (ops.extract 0 m) (match A.ds rid with | none=>m | some (n,_)=>n) (match A.ds rid with | none=>[] | some (_,hid)=>hid) (ops.extract 0 m).toList 0 σ I F fun σ' F' =>
            yh P A rid ops (ops.toList.drop m) m σ' I F' (K .normal) (fun ch=>K (.panic ch))) False
        | none=>cond (P.follows .mixedOrders&&tz ops)
          (match A.ds rid with
            | none=>wD P A rid ops ops.size [] ops.toList 0 σ I F fun σ' F'=>K .normal σ' I F'
            | some (n,hid)=>wD P A rid ops n hid ops.toList 0 σ I F fun σ' F'=>K .normal σ' I F') False
 | rd,.cond c x y,n,K,σ,I,F=>match σ.ev c with
   | some (.a (.v (.bool b)))=>(match b with
     | true=>W P A rd x (n+1) K σ I F
     | false=>W P A rd y (n+1+sz x) K σ I F)
   | _=>False
 | rd,.block id c,n,K,σ,I,F=>W P A rd c (n+1) (ER id K) σ I F
 | rd,.seq x y,n,K,σ,I,F=>match A.cut n with
   | none=>W P A rd x (n+1) (IL (W P A rd y (n+1+sz x) K) K) σ I F
   | some ct=>cond (qQ σ.own ct.bks)
     (W P A rd x (n+1) (J5 σ (fun σ' I' F'=>cond (σ'.G0 ct) (Gm σ σ' (ct.Inv (σ.fix ct) I F (σ'.mB ct) 0 I' F')) False) K) (σ.lock ct) I F ∧
       uL ct.JF fun vs=>∀(I':cc) (F':b8),cc.le I I'→ct.Inv (σ.fix ct) I F vs 0 I' F'→W P A rd y (n+1+sz x) K ((σ.lay ct (mW x) vs).unlock σ) I' F') False
 | rd,.loop c,n,K,σ,I,F=>match A.cut n with
   | none=>False
   | some ct=>cond (σ.G0 ct)
     ((∃m,ct.Inv (σ.fix ct) I F (σ.mB ct) m I F) ∧
       uL ct.JF fun vs=>∀(m:Nat) (I':cc) (F':b8),cc.le I I'→ct.Inv (σ.fix ct) I F vs m I' F' →
        W P A rd c (n+1) (J5 σ (fun σ' I' F'=>cond (σ'.G0 ct) (Gm σ σ' (∃m',m'<m∧ct.Inv (σ.fix ct) I F (σ'.mB ct) m' I' F')) False) K) (σ.lay ct (mW c) vs) I' F') False
 | rd,.scope c,n,K,σ,I,F=>W P A rd c (n+1) (IM K) σ I F
 | rd,.rangeFunc g ps x y,n,K,σ,I,F=>match A.cut n,σ.ev g with
   | some ct,some gv=>cond (qQ σ.own ct.bks&&ct.ps.length==ps.size)
     (IP rd F (∀(Y:Fn) (L Lb:b8) (Lx:Option Nat→b8) (D:Nat),
       (Bt ct.ps fun args=>uL ct.JN fun vs=>∀(I':cc) (F':b8) (Q:Ending→cc→b8→Prop),cc.le I I' →
         W P A (some L) x (n+1) (JO fun σ1 I1 F1=>∃F2:b8,F1.Perm (L++F2) ∧
          W P A (some Lb) y (n+1+sz x) (HJ L Lb Lx σ.own.length Q) σ1 I1 (Lb++F2)) (σ.round ct ps args vs) I' (L++F') →
         sN P (.func Y #[] #[]) args I' (cL (dZ ct.bks vs 0 σ.own)++(L++F')) Q) →
       JJ P gv.g [.func Y #[] #[]] I (cL σ.own++(L++F)) fun e I' G=>∃r,e=.returned r ∧
        ((Ba ct.JN fun vs=>∃F':b8,G.Perm (cL (dZ ct.bks vs 0 σ.own)++(L++F'))∧K .normal (σ.after ct vs D rd) I' (zI rd D F')) ∨
          JM (dd (jmp [] y)) fun j=>Ba ct.JN fun vs=>∃F':b8,G.Perm (cL (dZ ct.bks vs 0 σ.own)++(Lx j++F'))∧K (Br j) (σ.after ct vs D rd) I' (zI rd D F')))) False
   | _,_=>False
 | _,_,_,_,_,_,_=>False
def vr(l:List Nat)(σ:S)(a:Act)(I:cc)(K:Kt)(e:Exit)(a':Act)(w':World):Prop :=
 ∃σ' I' F',Rel σ' I' F' a' w'∧cc.le I I'∧K e σ' I' F'∧de l σ a σ' a'
theorem Dz{F:Fence}{n:Nat}{P:Program}{Q:Exit→Act→World→Prop}{c:Code}{a:Act}{w:World}(J:Nat→Act→World→Prop)(h0:∃m,J m a w)
  (round:∀m a w,J m a w→c.wpIn F n P (Exit.then (fun a' w'=>∃m',m'<m∧J m' a' w') Q) a w):(Code.loop c).wpIn F n P Q a w:=by
 intro b k cs hro hb hr
 have key:∀j a w,J j a w→∃e a' w',Q e a' w'∧ArrivesIn (Machine.fenced P F) P (lone (b.atR a (.code c :: .inLoop c::k)) cs w) b k cs e a' w':=by
  intro j
  induction j using Nat.strongRecOn with
  | _ j ih =>
    intro a w hJ
    obtain⟨e,a₁,w₁,hq,harr⟩:=round j a w hJ b (.inLoop c::k) cs hro hb hr
    cases e with
    | normal =>
      obtain⟨m',hlt,hJ'⟩:=hq
      obtain⟨e₂,a₂,w₂,hq₂,harr₂⟩:=ih m' hlt a₁ w₁ hJ'
      exact⟨e₂,a₂,w₂,hq₂,.of_steps (StepsIn.trans harr (.one (fenced_calm hb hr rfl) stepR_inLoop)) harr₂⟩
    | exit id=>exact⟨_,a₁,w₁,hq,.pass (x:=.inLoop c) rfl (fun _ _=>.inl (by simp)) harr⟩
    | goto l=>exact⟨_,a₁,w₁,hq,.pass (x:=.inLoop c) rfl (fun _ _=>.inl (by simp)) harr⟩
    | ret=>exact⟨_,a₁,w₁,hq,.pass (x:=.inLoop c) rfl (fun _ _=>.inl (by simp)) harr⟩
    | panic ch=>exact⟨_,a₁,w₁,hq,.pass (x:=.inLoop c) rfl (fun _ _=>.inl (by simp)) harr⟩
    | outgrown=>exact⟨_,a₁,w₁,hq,.pass (x:=.inLoop c) rfl (fun _ _=>.inl (by simp)) harr⟩
 obtain⟨m,hm⟩:=h0
 obtain⟨e,a',w',hq,harr⟩:=key m a w hm
 exact⟨e,a',w',hq,.of_steps (.one (fenced_calm hb hr rfl) stepR_loop) harr⟩
theorem iq{P:Program}{b:Frame}{a:Act}{k:List Item}{cs:List Frame}{w:World}{c:Code}:step P (lone (b.atR a (.code (.scope c)::k)) cs w)=.next (lone (b.atR a (.code c :: .inScope c::k)) cs w) :=
 step_lone_go (by simp[stepG,stepG.exec,Frame.atR])
theorem w7{P:Program}{b:Frame}{a:Act}{k:List Item}{cs:List Frame}{w:World}{c:Code}:step P (lone (b.atR a (.inScope c::k)) cs w)=.next (lone (b.atR a k) cs w) :=
 step_lone_go (by simp[stepG,stepG.exec,Frame.atR])
theorem qk{F:Fence}{n:Nat}{P:Program}{Q:Exit→Act→World→Prop}{c:Code}{a:Act}{w:World}(h:c.wpIn F n P (Exit.noGoto Q) a w):(Code.scope c).wpIn F n P Q a w:=by
 intro b k cs hro hb hr
 have h0:(lone (b.atR a (.code (.scope c)::k)) cs w).fenced P F:=fenced_calm hb hr rfl
 obtain⟨e,a₁,w₁,hq,harr⟩:=h b (.inScope c::k) cs hro hb hr
 cases e with
 | normal=>exact⟨.normal,a₁,w₁,hq,.head h0 iq (StepsIn.trans harr (.one (fenced_calm hb hr rfl) w7))⟩
 | exit id =>
   have hx:exitTo id (.inScope c::k)=exitTo id k:=by simp[exitTo]
   exact⟨.exit id,a₁,w₁,hq,fun k' hk=>.head h0 iq (harr.1 k' (by rw[hx];exact hk)),
    fun hr' hk=>let ⟨k₁,h1,h2⟩:=harr.2 hr' (by rw[hx];exact hk);⟨k₁,h1,.head h0 iq h2⟩⟩
 | goto l=>exact hq.elim
 | ret=>exact⟨_,a₁,w₁,hq,.of_steps (.one h0 iq) harr⟩
 | panic ch=>exact⟨_,a₁,w₁,hq,.of_steps (.one h0 iq) harr⟩
 | outgrown=>exact⟨_,a₁,w₁,hq,.of_steps (.one h0 iq) harr⟩
theorem tD{l:Lf}{Q:Value→Prop}(h:∀v,Q v):zi l Q:=by cases l<;>intro<;>first | exact h _ | (intros;exact h _)
theorem oQ:∀{l:List Lf} {Q:List Value→Prop},(∀vs,vs.length=l.length→Q vs)→uL l Q
 | [],Q,h=>h [] rfl
 | l::r,Q,h=>tD fun v=>oQ fun vs hv=>h (v::vs) (by simp[hv])
theorem zJ{s:Sh}{Q:Value→Prop}(h:∀v,Q v):Hb s Q:=by
 cases s with
 | one l=>exact tD h
 | agg ls=>exact oQ fun vs _=>h _
theorem rL:∀{l:List Sh} {Q:List Value→Prop},(∀vs,vs.length=l.length→Q vs)→Bt l Q
 | [],Q,h=>h [] rfl
 | l::r,Q,h=>zJ fun v=>rL fun vs hv=>h (v::vs) (by simp[hv])
def Ctx(ro:Option Nat):Option b8→Prop
 | none=>ro=none
 | some R=>∃l r,ro=some l∧(l,Obj.loop r)∈R
def A6(rd:Option b8)(D:Nat):b8:=match rd with
 | none=>[(D,.deferred (some []))]
 | some _=>[]
def IQ(rd:Option b8)(D:Nat):List Deferred:=match rd with
 | none=>[(Df.mark D).d]
 | some _=>[]
theorem ES(rd:Option b8)(D:Nat)(F:b8):zI rd D F=A6 rd D++F:=by cases rd<;>rfl
section
variable {P:Program} {A:qj}
theorem zK{w:World}{l₀:Nat}{r₀:Loop}(h:w.heap[l₀]? = some (.loop r₀))(fn:FuncId)(tmps:Array Value)(ps:Array Tmp)(assign body:Code) :
  (Instr.enterLoop fn tmps ps assign body (some l₀)).run P w =
    .ok (w.heap.size,[]) (w.alloc (.loop { state:=.ready,pending:=none,fn,tmps,params:=ps,assign,body,defers:=r₀.defers })):=by
 unfold Instr.enterLoop
 simp only[Sem.run_bind,run_getLoop h,run_newObj_alloc,Result.andThen,Sem.run_pure]
theorem ET{rd:Option b8}{F:b8}{X:Prop}(h:IP rd F X):(∀R,rd=some R→∃F3:b8,F.Perm (R++F3))∧X:=by
 cases rd with
 | none=>exact⟨fun R e=>(by cases e),h⟩
 | some R=>exact⟨fun R' e=>(by cases e;exact h.1),h.2⟩
theorem DA{rd:Option b8}{ro:Option Nat}{I:cc}{G:b8}{w:World}(hctx:Ctx ro rd)(hrd:∀R,rd=some R→∃F3:b8,G.Perm (R++F3))(hs:Sat I G w)
  (fn:FuncId) (tmps:Array Value) (ps:Array Tmp) (x y:Code) :
  ∃(l D d:Nat) (w1:World),(Instr.enterLoop fn tmps ps x y ro).run P w=.ok (l,IQ rd D) w1 ∧
   Sat I ((l,Obj.loop { state:=.ready,pending:=none,fn,tmps,params:=ps,assign:=x,body:=y,defers:=d })::(A6 rd D++G)) w1:=by
 cases rd with
 | none =>
   obtain rfl:ro=none:=hctx
   have h1:=hs.alloc (.deferred (some []))
   have h2:=h1.alloc (.loop { state:=.ready,pending:=none,fn,tmps,params:=ps,assign:=x,body:=y,defers:=w.heap.size })
   refine⟨w.heap.size+1,w.heap.size,w.heap.size,_,run_enterLoop_outer fn tmps ps x y, ?_⟩
   have:({ w with heap:=w.heap.push (Obj.deferred (some [])) }:World).heap.size=w.heap.size+1:=by simp
   rw[this] at h2
   exact h2
 | some R =>
   obtain⟨l0,r0,rfl,hm⟩:=hctx
   obtain⟨F3,hp⟩:=hrd R rfl
   have hin:w.heap[l0]? = some (.loop r0):=hs.own _ _ (hp.mem_iff.2 (List.mem_append_left _ hm))
   exact⟨w.heap.size,0,r0.defers,_,zK hin fn tmps ps x y,hs.alloc _⟩
theorem Sat.uz{I:cc}{b:Nat}{o:Obj}{G:b8}{w:World}(h:Sat I ((b,o)::G) w):w.heap[b]? = some o:=h.own _ _ (List.mem_cons_self ..)
theorem Sat.rM{I:cc}{b:Nat}{o o':Obj}{G:b8}{w:World}(h:Sat I ((b,o)::G) w):Sat I ((b,o')::G) (w.putObj b o'):=h.set rfl ⟨rfl,rfl⟩
theorem zL:∀(ts:List Nat) (vs:List Value) (tm:List (Option AV)) (tmps:Array Value),tm.length=tmps.size→(∀(t:Nat) (av:AV),tm[t]? = some (some av)→tmps[t]? = some av.g) →
  (ia ts vs tm).length=((ts.zip vs).foldl (fun (a:Array Value) (x:Nat×Value)=>a.setIfInBounds x.1 x.2) tmps).size ∧
  ∀(t:Nat) (av:AV),(ia ts vs tm)[t]? = some (some av)→((ts.zip vs).foldl (fun (a:Array Value) (x:Nat×Value)=>a.setIfInBounds x.1 x.2) tmps)[t]? = some av.g
 | [],vs,tm,tmps,hl,h=>by simp only[ia,List.zip_nil_left,List.foldl_nil];exact⟨hl,h⟩
 | s::ts,[],tm,tmps,hl,h=>by simp only[ia,List.zip_nil_right,List.foldl_nil];exact⟨hl,h⟩
 | s::ts,v::vs,tm,tmps,hl,h=>by
   simp only[ia,List.zip_cons_cons,List.foldl_cons]
   refine zL ts vs _ _ (by simp[hl]) fun t av ht=>?_
   rw[List.getElem?_set] at ht
   rw[Array.getElem?_setIfInBounds]
   by_cases hst:s=t
   ·subst hst
    simp only[if_true] at ht ⊢
    split at ht
    ·rename_i hlt;cases ht;rw[hl] at hlt;simp[hlt,AV.g,At.g]
    ·cases ht
   ·simp only[if_neg hst] at ht ⊢;exact h t av ht
theorem tE(bks:List (Nat×List Lf))(vs:List Value)(own:List dr):iZ own (dZ bks vs 0 own):=fun i b hb=>by
 refine⟨match rG bks vs (0+i) with
  | some cs=>{ b with cells:=cs.map fun v=>.a (.v v) }
  | none=>{ b with ro:=true },by rw[fe,hb];rfl, ?_⟩
 split<;>rfl
theorem DB{bks:List (Nat×List Lf)}{vs:List Value}{own:List dr}(h:∀(i:Nat) (b:dr),own[i]? = some b→∀c∈b.cells,AV.wf own c) :
  ∀(i:Nat) (b:dr),(dZ bks vs 0 own)[i]? = some b→∀c∈b.cells,AV.wf (dZ bks vs 0 own) c:=by
 intro i b hb c hc
 rw[fe] at hb
 cases ho:own[i]? with
 | none=>rw[ho] at hb;cases hb
 | some b0 =>
   rw[ho] at hb
   simp only[Option.map_some,Option.some.injEq] at hb
   subst hb
   split at hc
   ·simp only[List.mem_map] at hc
    obtain⟨v,_,rfl⟩:=hc
    trivial
   ·exact AV.ee (tE _ _ _) (h i b0 ho c hc)
theorem Rel.round{σ:S}{I I':cc}{F F':b8}{a:Act}{w w':World}(hr:Rel σ I F a w)(ct:Cut)(ps:Array Nat)(args vs:List Value)
  (hs:Sat I' (cL (dZ ct.bks vs 0 σ.own)++F') w') :
  Rel (σ.round ct ps args vs) I' F' { tmps:=(ps.toList.zip args).foldl (fun (a:Array Value) (x:Nat×Value)=>a.setIfInBounds x.1 x.2) a.tmps,defers:=[] } w':=by
 obtain⟨h1,h2⟩:=zL ps.toList args σ.tm a.tmps hr.size hr.tm
 refine⟨h1,h2,rfl,fun t av ht=>?_,DB hr.wfo,hs⟩
 rcases nh _ _ _ _ _ ht with ⟨k,v,_,_,rfl⟩ | ht
 ·trivial
 ·exact AV.ee (tE _ _ _) (hr.wft t av ht)
theorem xD{σ:S}{ct:Cut}{vs:List Value}{i:Nat}:(CJ σ.own 0 (dZ ct.bks vs 0 σ.own))[i]? = (σ.own[i]?).map fun b =>
  match rG ct.bks vs i with
  | some cs=>{ b with cells:=cs.map fun v=>.a (.v v) }
  | none=>b:=by
 rw[pA,fe]
 cases hb:σ.own[i]? with
 | none=>rfl
 | some b =>
   simp only[Option.map_some,Nat.zero_add,hb]
   cases rG ct.bks vs i<;>rfl
theorem vu{σ:S}{ct:Cut}{vs:List Value}{D:Nat}{rd:Option b8}(hok:qQ σ.own ct.bks=true):cR σ (σ.after ct vs D rd):=by
 intro i b hb
 have e:(σ.after ct vs D rd).own[i]? = _:=xD
 rw[hb] at e
 cases hs:rG ct.bks vs i with
 | none=>rw[hs] at e;exact⟨b,e,rfl,rfl,fun h=>⟨h,rfl⟩⟩
 | some cs =>
   rw[hs] at e
   have hro:=yo (vs:=vs) hok hb (by rw[hs];rfl)
   exact⟨_,e,rfl,rfl,fun h=>by rw[hro] at h;cases h⟩
theorem Rel.after{σ:S}{I I':cc}{F F':b8}{a:Act}{w w':World}(hr:Rel σ I F a w){ct:Cut}{vs:List Value}{D:Nat}{rd:Option b8}(hok:qQ σ.own ct.bks=true)
  (hs:Sat I' (cL (dZ ct.bks vs 0 σ.own)++F') w'):Rel (σ.after ct vs D rd) I' F' { a with defers:=IQ rd D++a.defers } w':=by
 have hk:iZ σ.own (σ.after ct vs D rd).own:=(vu hok).same
 refine⟨hr.size,hr.tm, ?_,fun t av ht=>AV.ee hk (hr.wft t av ht), ?_, ?_⟩
 ·show IQ rd D++a.defers=_
  rw[hr.defers];cases rd<;>rfl
 ·intro i b hb c hc
  have e:(σ.after ct vs D rd).own[i]? = _:=xD
  rw[hb] at e
  cases ho:σ.own[i]? with
  | none=>rw[ho] at e;cases e
  | some b0 =>
    rw[ho] at e
    simp only[Option.map_some,Option.some.injEq] at e
    subst e
    split at hc
    ·simp only[List.mem_map] at hc
     obtain⟨v,_,rfl⟩:=hc
     trivial
    ·exact AV.ee hk (hr.wfo i b0 ho c hc)
 ·show Sat I' (cL (CJ σ.own 0 (dZ ct.bks vs 0 σ.own))++F') w'
  rw[vo];exact hs
theorem DC(own:List dr)(n:Nat):(cL (own.take n)).Sublist (cL own):=(List.take_sublist n own).map _
theorem fR{A B C:b8}:(A++(B++C)).Perm (B++(A++C)):=List.perm_append_comm_assoc A B C
theorem DD{F:Fence}{n:Nat}{Q:Exit→Act→World→Prop}{a:Act}{w:World}(j:Option Nat)(h:Q (Br j) a w):(vq j).wpIn F n P Q a w:=by
 cases j with
 | none=>exact wpIn_ret h
 | some id=>exact wpIn_exit h
theorem zM{x y:Code}(ih1:∀(n:Nat) (K:Kt) (rd:Option b8) (ro:Option Nat) (σ:S) (I:cc) (F:b8) (a:Act) (w:World),Ctx ro rd→W P A rd x n K σ I F→Rel σ I F a w→x.wpIn (Fw ro) 0 P (vr (mW x) σ a I K) a w)
  (ih2:∀(n:Nat) (K:Kt) (rd:Option b8) (ro:Option Nat) (σ:S) (I:cc) (F:b8) (a:Act) (w:World),Ctx ro rd→W P A rd y n K σ I F→Rel σ I F a w→y.wpIn (Fw ro) 0 P (vr (mW y) σ a I K) a w)
  {g:Operand} {ps:Array Tmp} {n:Nat} {K:Kt} {rd:Option b8} {ro:Option Nat} {σ:S} {I:cc} {F:b8} {a:Act} {w:World} (hctx:Ctx ro rd)
  (h:W P A rd (.rangeFunc g ps x y) n K σ I F) (hr:Rel σ I F a w):(Code.rangeFunc g ps x y).wpIn (Fw ro) 0 P (vr (mW (.rangeFunc g ps x y)) σ a I K) a w:=by
 simp only[W] at h
 split at h
 case h_2=>exact h.elim
 rename_i ct gv hcut hg
 obtain⟨hb,h⟩:=cE h
 simp only[Bool.and_eq_true,beq_iff_eq] at hb
 obtain⟨hok,hlen⟩:=hb
 obtain⟨hrd,h⟩:=ET h
 refine wpIn_rangeFunc fun fn hfn=>?_
 obtain⟨l,D,d,w1,hrun,hsat⟩:=DA (P:=P) (rd:=rd) (ro:=ro) hctx (G:=cL σ.own++F) (fun R hR=>by
  obtain⟨F3,hp⟩:=hrd R hR
  exact⟨cL σ.own++F3,(List.Perm.append_left _ hp).trans fR⟩) hr.sat fn a.tmps ps x y
 generalize hrec:({ state:=.ready,pending:=none,fn,tmps:=a.tmps,params:=ps,assign:=x,body:=y,defers:=d }:Loop)=rec at hsat
 have r1:rec.fn=fn:=by rw[←hrec]
 have r2:rec.tmps=a.tmps:=by rw[←hrec]
 have r3:rec.params=ps:=by rw[←hrec]
 have r4:rec.assign=x:=by rw[←hrec]
 have r5:rec.body=y:=by rw[←hrec]
 have r6:rec.state=.ready:=by rw[←hrec]
 have r7:rec.pending=none:=by rw[←hrec]
 have rback:({ rec with state:=.ready,pending:=none }:Loop)=rec:=by rw[←hrec]
 let L:b8:=(l,.loop rec)::A6 rd D
 let Lb:b8:=(l,.loop { rec with state:=.busy })::A6 rd D
 let Lx:Option Nat→b8:=fun j=>(l,.loop { rec with state:=.done,pending:=some (vq j) })::A6 rd D
 have hsat':Sat I (cL σ.own++(L++F)) w1:=by
  refine hsat.perm ?_
  show (([(l,Obj.loop rec)]++A6 rd D)++(cL σ.own++F)).Perm _
  exact fR
 have hTr:=h (.yield l) L Lb Lx D (rL fun args hargs=>oQ fun vs hvs I' F' Q hle hW=>by
  intro w2 hs2
  refine .inr ⟨l,rfl, ?_⟩
  have hl2:w2.heap[l]? = some (.loop rec):=hs2.own _ _ (List.mem_append_right _ (List.mem_append_left _ (List.mem_cons_self ..)))
  have hy:=run_yield (P:=P) (args:=args.toArray) hl2 (by rw[r3];simp[hargs,hlen])
  rw[r1,r2,r3,r4,r5] at hy
  have hz:((ps.zip args.toArray).foldl (fun (tmps:Array Value) (x:Nat×Value)=>tmps.setIfInBounds x.1 x.2) a.tmps)=(ps.toList.zip args).foldl (fun (a:Array Value) (x:Nat×Value)=>a.setIfInBounds x.1 x.2) a.tmps:=by
   rw[←Array.foldl_toList,Array.toList_zip]
  refine⟨_,_,_,_,_,hy,roundIn_of_wpIn (F:=Fence.wide) trivial ?_⟩
  rw[show ((ps.zip args.toArray).foldl (fun (tmps:Array Value) (x:Nat×Value)=>match x with | (t,a)=>tmps.setIfInBounds t a) a.tmps)=(ps.toList.zip args).foldl (fun (a:Array Value) (x:Nat×Value)=>a.setIfInBounds x.1 x.2) a.tmps from hz]
  have hrel:=hr.round ct ps args vs hs2
  refine wpIn_mono (ih1 _ _ (some L) (some l) _ I' _ _ w2 ⟨l,rec,rfl,List.mem_cons_self ..⟩ hW hrel) ?_
  intro e a1 w3 ⟨σ1,I1,F1,g1,g2,g3,g4⟩
  cases e with
  | normal =>
    obtain⟨F2,hp2,hW2⟩:=g3
    have hs3:Sat I1 ((l,.loop rec)::(A6 rd D++(cL σ1.own++F2))) w3:=g1.sat.perm ((List.Perm.append_left _ hp2).trans (fR (A:=cL σ1.own) (B:=(l,.loop rec)::A6 rd D)))
    refine⟨_,run_beginRound hs3.uz r6, ?_⟩
    have hs4:=hs3.rM (o':=.loop { rec with state:=.busy })
    have hrel2:Rel σ1 I1 (Lb++F2) a1 (w3.putObj l (.loop { rec with state:=.busy })) :=
     ⟨g1.size,g1.tm,g1.defers,g1.wft,g1.wfo,hs4.perm (fR (A:=(l,.loop { rec with state:=.busy })::A6 rd D) (B:=cL σ1.own))⟩
    refine wpIn_mono (ih2 _ _ (some Lb) (some l) _ I1 _ _ _ ⟨l,_,rfl,List.mem_cons_self ..⟩ hW2 hrel2) ?_
    intro e a5 w5 ⟨σ5,I5,F5,k1,k2,k3,k4⟩
    have fin:∀(L':b8) (o':Obj) (b:Bool),L'=(l,o')::A6 rd D→(∃F3:b8,F5.Perm (Lb++F3)∧Q (.returned (.bool b)) I5 (cL (σ5.own.take σ.own.length)++(L'++F3))) →
     w5.heap[l]? = some (.loop { rec with state:=.busy })∧uR I' Q (.returned (.bool b)) (w5.putObj l o'):=by
     intro L' o' b hL' ⟨F3,hp3,hq⟩
     subst hL'
     have hs5:Sat I5 ((l,.loop { rec with state:=.busy })::(A6 rd D++(cL σ5.own++F3))) w5 :=
      k1.sat.perm ((List.Perm.append_left _ hp3).trans (fR (A:=cL σ5.own) (B:=(l,.loop { rec with state:=.busy })::A6 rd D)))
     refine⟨hs5.uz,I5,_,cc.le_trans g2 k2, ?_,hq⟩
     have hs6:=hs5.rM (o':=o')
     exact (hs6.perm (fR (A:=(l,o')::A6 rd D) (B:=cL σ5.own))).sub (List.Sublist.append (DC _ _) (List.Sublist.refl _))
    cases e with
    | normal =>
      obtain⟨f1,f2⟩:=fin L (.loop rec) true rfl k3
      refine⟨_,_,run_endRound none f1, ?_⟩
      have:({ ({ rec with state:=.busy }:Loop) with state:=if (none:Option Code).isNone then .ready else .done,pending:=none }:Loop)=rec:=rback
      rw[this];exact f2
    | ret =>
      obtain⟨f1,f2⟩:=fin (Lx none) (.loop { rec with state:=.done,pending:=some .ret }) false rfl k3
      exact⟨_,_,run_endRound (some .ret) f1,f2⟩
    | exit id =>
      obtain⟨f1,f2⟩:=fin (Lx (some id)) (.loop { rec with state:=.done,pending:=some (.exit id) }) false rfl k3
      exact⟨_,_,run_endRound (some (.exit id)) f1,f2⟩
    | goto l=>exact k3.elim
    | panic ch=>exact k3.elim
    | outgrown=>exact k3.elim
  | exit id=>exact g3.elim
  | goto l=>exact g3.elim
  | ret=>exact g3.elim
  | panic ch=>exact g3.elim
  | outgrown=>exact g3.elim)
 obtain⟨f,first,cap,hgv,hent,hcall⟩:=hTr w1 hsat'
 have hev:=S.mX hr hg
 refine⟨l,IQ rd D,w1,{ target:=.fn (.func f) cap,args:=first++#[.func (.yield l) #[] #[]] },w1,f,first++#[.func (.yield l) #[] #[]]++cap,w1,hrun, ?_,fun _ _=>trivial, ?_,fun hd=>by simp[Fw,Fence.wide] at hd, ?_⟩
 ·show (Deferred.ofValue (a.eval g) _).run P w1=_
  rw[hev,hgv];simp[Deferred.ofValue,Act.eval]
 ·simp only[invoke];exact hent _ _
 ·refine ((callsIn_wide (n:=0)).2 hcall).mono fun e w3 ⟨I3,G,hle,hs3,r,he,hpost⟩=>?_
  subst he
  have fin:∀(o':Obj) (r':Loop) (jj:Option Code) (L':b8) (vs:List Value) (F':b8) (e':Exit),L'=(l,.loop r')::A6 rd D→r'.pending=jj→r'.state ≠ .busy→G.Perm (cL (dZ ct.bks vs 0 σ.own)++(L'++F'))→K e' (σ.after ct vs D rd) I3 (zI rd D F') →
    ∃w4,(Instr.endLoop l).run P w3=.ok jj w4∧vr (mW (.rangeFunc g ps x y)) σ a I K e' { a with defers:=IQ rd D++a.defers } w4:=by
   intro o' r' jj L' vs F' e' hL' hj hbusy hp hk
   subst hL';subst hj
   have hs4:Sat I3 ((l,.loop r')::(A6 rd D++(cL (dZ ct.bks vs 0 σ.own)++F'))) w3:=hs3.perm (hp.trans (fR (A:=cL (dZ ct.bks vs 0 σ.own)) (B:=(l,.loop r')::A6 rd D)))
   refine⟨_,run_endLoop hs4.uz hbusy,σ.after ct vs D rd,I3,zI rd D F', ?_,hle,hk,vu hok,fun _ _=>rfl,rfl⟩
   refine hr.after hok ?_
   rw[ES]
   exact ((hs4.rM (o':=.loop { r' with state:=.exhausted })).sub (List.sublist_cons_self _ _)).perm fR
  rcases hpost with hpost | hpost
  ·obtain⟨vs,F',hp,hk⟩:=mv hpost |>.imp fun _ h=>h.2
   obtain⟨w4,h1,h2⟩:=fin (.loop rec) rec none L vs F' .normal rfl r7 (by rw[r6];decide) hp hk
   exact⟨none,w4,h1,h2⟩
  ·obtain⟨j,hpost⟩:=CQ hpost
   obtain⟨vs,F',hp,hk⟩:=mv hpost |>.imp fun _ h=>h.2
   obtain⟨w4,h1,h2⟩:=fin (.loop rec) { rec with state:=.done,pending:=some (vq j) } (some (vq j)) (Lx j) vs F' (Br j) rfl rfl (fun h=>by cases h) hp hk
   exact⟨some (vq j),w4,h1,DD j h2⟩
end
end Go.Vc
namespace Go.Vc
section sound
variable {P:Program} {A:qj}
theorem vr.mono{l l':List Nat}{σ:S}{a:Act}{I:cc}{K K':Kt}{e:Exit}{a':Act}{w':World}(h:vr l σ a I K e a' w')(hl:∀t∈l,t∈l')
  (hk:∀σ I F,K e σ I F→K' e σ I F):vr l' σ a I K' e a' w' :=
 let ⟨σ',I',F',h1,h2,h3,h4⟩:=h
 ⟨σ',I',F',h1,h2,hk _ _ _ h3,h4.mono hl⟩
theorem vr.trans{l m n:List Nat}{σ σ':S}{a a':Act}{I I':cc}{K:Kt}{e:Exit}{a'':Act}{w'':World}(hk:de l σ a σ' a')(hI:cc.le I I')
  (h:vr m σ' a' I' K e a'' w'') (hl:∀t∈l,t∈n) (hm:∀t∈m,t∈n):vr n σ a I K e a'' w'' :=
 let ⟨σ2,I2,F2,h1,h2,h3,h4⟩:=h
 ⟨σ2,I2,F2,h1,cc.le_trans hI h2,h3,(hk.mono hl).trans (h4.mono hm)⟩
theorem CR(hP:∀f,A.good f=true→dz P f):∀(c:Code) (n:Nat) (K:Kt) (rd:Option b8) (ro:Option Nat) (σ:S) (I:cc) (F:b8) (a:Act) (w:World),Ctx ro rd →
  W P A rd c n K σ I F→Rel σ I F a w→c.wpIn (Fw ro) 0 P (vr (mW c) σ a I K) a w:=by
 intro c
 induction c with
 | skip=>intro n K rd ro σ I F a w hc h hr;exact wpIn_skip ⟨σ,I,F,hr,cc.le_refl I,h,de.refl _ _ _⟩
 | label l=>intro n K rd ro σ I F a w hc h hr;exact wpIn_label ⟨σ,I,F,hr,cc.le_refl I,h,de.refl _ _ _⟩
 | exit id=>intro n K rd ro σ I F a w hc h hr;exact wpIn_exit ⟨σ,I,F,hr,cc.le_refl I,h,de.refl _ _ _⟩
 | goto l=>intro n K rd ro σ I F a w hc h hr;exact wpIn_goto ⟨σ,I,F,hr,cc.le_refl I,h,de.refl _ _ _⟩
 | ret=>intro n K rd ro σ I F a w hc h hr;exact wpIn_ret ⟨σ,I,F,hr,cc.le_refl I,h,de.refl _ _ _⟩
 | refuse why=>intro n K rd ro σ I F a w hc h hr;exact h.elim
 | scope c ih =>
   intro n K rd ro σ I F a w hc h hr
   refine qk (wpIn_mono (ih _ _ rd ro σ I F a w hc h hr) ?_)
   intro e a' w' ⟨σ',I',F',h1,h2,h3,h4⟩
   cases e with
   | goto l=>exact h3.elim
   | _=>exact⟨σ',I',F',h1,h2,h3,h4⟩
 | rangeFunc f ps x y ih1 ih2=>intro n K rd ro σ I F a w hc h hr;exact zM ih1 ih2 hc h hr
 | region rid ops draw =>
   intro n K rd ro σ I F a w hc h hr
   cases draw with
   | false =>
     obtain⟨hnd,h⟩:=cE h
     have hnd':ro=none∨ops.toList.all (fun o=>u7 o.op)=true:=by
      cases rd with
      | none=>exact .inl hc
      | some R=>exact .inr hnd
     refine wpIn_region_list (kQ hP ops.toList 0 σ I F a w hnd' h hr ?_ ?_)
     ·exact fun σ' I' F' a' w' h1 h2 h3 h4=>⟨σ',I',F',h1,h2,h3,h4⟩
     ·exact fun ch σ' I' F' a' w' h1 h2 h3 h4=>⟨σ',I',F',h1,h2,h3,h4⟩
   | true =>
     simp only[W] at h
     split at h
     ·rename_i os t hot
      obtain⟨hb,h⟩:=cE h
      simp only[Bool.and_eq_true] at hb
      rcases CO h with ⟨b,o,F1,hp,h⟩ | h
      ·exact yp hP hb.1 hb.2 hp h hr fun σ' I' F' a' w' h1 h2 h3 h4=>⟨σ',I',F',h1,h2,h3,h4⟩
      ·exact zG hP hb.1 hb.2 h hr fun σ' I' F' a' w' h1 h2 h3 h4=>⟨σ',I',F',h1,h2,h3,h4⟩
     split at h
     ·split at h
      ·split at h
       ·obtain⟨hb,h⟩:=cE h
        simp only[Bool.and_eq_true] at hb
        exact Bp hP hb.1 hb.2 h hr fun σ' I' F' a' w' h1 h2 h3 h4=>⟨σ',I',F',h1,h2,h3,h4⟩
       ·obtain⟨hb,h⟩:=cE h
        simp only[Bool.and_eq_true] at hb
        rcases CO h with ⟨b,o,F1,hp,h⟩ | h
        ·exact zE hP hb.1 hb.2 hp h hr fun σ' I' F' a' w' h1 h2 h3 h4=>⟨σ',I',F',h1,h2,h3,h4⟩
        ·exact zD hP hb.1 hb.2 h hr fun σ' I' F' a' w' h1 h2 h3 h4=>⟨σ',I',F',h1,h2,h3,h4⟩
      ·obtain⟨hb,h⟩:=cE h
       simp only[Bool.and_eq_true] at hb
       exact zy hP hb.1 hb.2 h hr fun σ' I' F' a' w' h1 h2 h3 h4=>⟨σ',I',F',h1,h2,h3,h4⟩
     split at h
     ·obtain⟨hb,h⟩:=cE h
      simp only[Bool.and_eq_true] at hb
      exact zz hP hb.1 hb.2.1 hb.2.2.1 hb.2.2.2 h hr (fun σ' I' F' a' w' h1 h2 h3 h4=>⟨σ',I',F',h1,h2,h3,h4⟩) fun ch σ' I' F' a' w' h1 h2 h3 h4=>⟨σ',I',F',h1,h2,h3,h4⟩
     obtain⟨hb,h⟩:=cE h
     simp only[Bool.and_eq_true] at hb
     have hd:mW (.region rid ops true)=dN ops.toList:=rfl
     split at h<;>exact zr hP hb.1 hb.2 h hr fun σ' F' a' w' h1 h2 h3=>⟨σ',I,F',h1,cc.le_refl I,h2,h3⟩
 | cond c x y ih1 ih2 =>
   intro n K rd ro σ I F a w hc h hr
   simp only[W] at h
   split at h
   ·rename_i b hcc
    have hev:=S.mX hr hcc
    simp only[AV.g,At.g] at hev
    refine wpIn_cond hev ?_
    cases b with
    | true=>exact wpIn_mono (ih1 _ K rd ro σ I F a w hc h hr) fun e a' w' hp=>hp.mono (fun t ht=>List.mem_append_left _ ht) fun _ _ _ h=>h
    | false=>exact wpIn_mono (ih2 _ K rd ro σ I F a w hc h hr) fun e a' w' hp=>hp.mono (fun t ht=>List.mem_append_right _ ht) fun _ _ _ h=>h
   ·exact h.elim
 | block id c ih =>
   intro n K rd ro σ I F a w hc h hr
   refine wpIn_block (wpIn_mono (ih _ _ rd ro σ I F a w hc h hr) ?_)
   intro e a' w' ⟨σ',I',F',h1,h2,h3,h4⟩
   cases e with
   | exit id' =>
     simp only[ER] at h3
     simp only[Exit.inBlock]
     by_cases hid:id'=id
     ·subst hid
      simp only[beq_self_eq_true,cond_true] at h3
      rw[if_pos rfl];exact⟨σ',I',F',h1,h2,h3,h4⟩
     ·have:(id'==id)=false:=by simpa using hid
      rw[this] at h3
      rw[if_neg hid];exact⟨σ',I',F',h1,h2,h3,h4⟩
   | _=>exact⟨σ',I',F',h1,h2,h3,h4⟩
 | seq x y ih1 ih2 =>
   intro n K rd ro σ I F a w hc h hr
   have hx:∀t∈mW x,t∈mW (.seq x y):=fun t ht=>List.mem_append_left _ ht
   have hy:∀t∈mW y,t∈mW (.seq x y):=fun t ht=>List.mem_append_right _ ht
   simp only[W] at h
   split at h
   ·refine wpIn_seq (wpIn_mono (ih1 _ _ rd ro σ I F a w hc h hr) ?_)
    intro e a' w' ⟨σ',I',F',h1,h2,h3,h4⟩
    cases e with
    | normal=>exact wpIn_mono (ih2 _ K rd ro σ' I' F' a' w' hc h3 h1) fun e a2 w2 hp=>hp.trans h4 h2 hx hy
    | _=>exact⟨σ',I',F',h1,h2,h3,h4.mono hx⟩
   ·rename_i ct hcut
    obtain⟨hok,h1,h2⟩:=cE h
    refine wpIn_seq (wpIn_mono (ih1 _ _ rd ro _ I F a w hc h1 (hr.lock ct)) ?_)
    intro e a' w' ⟨σ',I',F',g1,g2,g3,g4⟩
    have hother:cR σ (σ'.unlock σ):=jH g4.own
    cases e with
    | normal =>
      obtain⟨hokv,hInv⟩:=cE g3
      obtain⟨hdf,hInv⟩:=zH hInv
      have hrel:Rel (σ.lay ct (mW x) (σ'.mB ct)) I' F' a' w':=by
       refine Rel.lay ct (mW x) hr g1 ?_ (fun t ht=>g4.tm t ht) g4.size hokv hdf
       intro i b hb
       obtain⟨b1,e1,e2,e3,e4,e5,e6⟩:=uy (c:=ct) hb
       obtain⟨b2,f1,f2,f3,f4⟩:=g4.own i b1 e1
       refine⟨b2,f1,f2.trans e2,f3.trans e3,fun hs=>?_⟩
       have:rG ct.bks [] i=none:=by
        have:=vn (bks:=ct.bks) (vs:=(σ'.mB ct).drop ct.tms.length) (us:=[]) (i:=i)
        rw[hs] at this
        cases h0:rG ct.bks [] i with
        | none=>rfl
        | some cs=>rw[h0] at this;cases this
       exact (f4 (e6 this)).2.trans e4
      have h5:=uM h2 (vm hokv) I' F' g2 hInv
      have hkeep:de (mW x) σ a ((σ.lay ct (mW x) (σ'.mB ct)).unlock σ) a':=by
       refine⟨?_,g4.tm,g4.size⟩
       exact tC hok (cR.refl _)
      exact wpIn_mono (ih2 _ K rd ro _ I' F' a' w' hc h5 hrel.unlock) fun e a2 w2 hp=>hp.trans hkeep g2 hx hy
    | _=>exact⟨_,I',F',g1.unlock,g2,g3,(⟨hother,g4.tm,g4.size⟩:de (mW x) σ a _ a').mono hx⟩
 | loop c ih =>
   intro n K rd ro σ I F a w hc h hr
   simp only[W] at h
   split at h
   ·exact h.elim
   ·rename_i ct hcut
    obtain⟨hokv,⟨m0,h0⟩,h⟩:=cE h
    have hok:qQ σ.own ct.bks=true:=by simp only[S.G0,Bool.and_eq_true] at hokv;exact hokv.2
    refine Dz (fun m a1 w1=>∃vs I1 F1,Rel (σ.lay ct (mW c) vs) I1 F1 a1 w1∧cc.le I I1∧ct.Inv (σ.fix ct) I F vs m I1 F1∧dR ct.JF vs=true ∧
     (∀t,t∉mW c→a1.tmps[t]? = a.tmps[t]?)∧a1.tmps.size=a.tmps.size) ⟨m0,σ.mB ct,I,F, ?_,cc.le_refl I,h0,vm hokv,fun _ _=>rfl,rfl⟩ ?_
    ·exact Rel.lay ct (mW c) hr hr (fun i b hb=>⟨b,hb,rfl,rfl,fun _=>rfl⟩) (fun _ _=>rfl) rfl hokv rfl
    ·intro m a1 w1 ⟨vs,I1,F1,r1,r2,r3,r4,r5,r6⟩
     have hb:=uM h r4 m I1 F1 r2 r3
     refine wpIn_mono (ih _ _ rd ro _ I1 F1 a1 w1 hc hb r1) ?_
     intro e a' w' ⟨σ',I',F',g1,g2,g3,g4⟩
     have hkeep:de (mW c) σ a (σ'.unlock σ) a':=⟨tC hok g4.own,fun t ht=>(g4.tm t ht).trans (r5 t ht),g4.size.trans r6⟩
     cases e with
     | normal =>
       obtain⟨hokv',hInv⟩:=cE g3
       obtain⟨hdf,m',hlt,hInv⟩:=zH hInv
       refine⟨m',hlt,σ'.mB ct,I',F', ?_,cc.le_trans r2 g2,hInv,vm hokv',hkeep.tm,hkeep.size⟩
       refine Rel.lay ct (mW c) hr g1 ?_ hkeep.tm hkeep.size hokv' hdf
       intro i b hb
       have e0:(σ.lay ct (mW c) vs).own[i]? = some (match rG ct.bks (vs.drop ct.tms.length) (0+i) with
        | some cs=>{ b with cells:=cs.map fun v=>.a (.v v) }
        | none=>{ b with ro:=true }):=by show (dZ _ _ 0 σ.own)[i]? = _;rw[fe,hb];rfl
       obtain⟨b2,f1,f2,f3,f4⟩:=g4.own i _ e0
       refine⟨b2,f1, ?_, ?_,fun hs=>?_⟩
       ·rw[f2];split<;>rfl
       ·rw[f3];split<;>rfl
       ·have hs':rG ct.bks (vs.drop ct.tms.length) (0+i)=none:=by
         rw[Nat.zero_add]
         have:=vn (bks:=ct.bks) (vs:=(σ'.mB ct).drop ct.tms.length) (us:=vs.drop ct.tms.length) (i:=i)
         rw[hs] at this
         cases h0:rG ct.bks (vs.drop ct.tms.length) i with
         | none=>rfl
         | some cs=>rw[h0] at this;cases this
        rw[hs'] at f4
        exact (f4 rfl).2
     | _=>exact⟨_,I',F',g1.unlock,cc.le_trans r2 g2,g3,hkeep⟩
def yq(P:Program)(σ:S):ResultVar→Option Value
 | .tmp t=>match σ.tm[t]? with
   | some (some av)=>some av.g
   | _=>none
 | .cell x t=>match σ.tm[x]? with
   | some (some (.a (.p i _ off))) =>
     match σ.own[i]?,rA P t with
     | some cr,some false=>(cr.cells[off]?).map AV.g
     | some cr,some true=>match xr P t with
       | some n=>cond (((cr.cells.drop off).take n).length==n) (some (.agg (((cr.cells.drop off).take n).map AV.g).toArray)) none
       | none=>none
     | _,_=>none
   | _=>none
def qT(P:Program)(σ:S):List ResultVar→Option (List Value)
 | []=>some []
 | r::rs=>match yq P σ r,qT P σ rs with
   | some v,some vs=>some (v::vs)
   | _,_=>none
def Bu:List Value→Value
 | [v]=>v
 | vs=>.tuple vs.toArray
def vv(a:Act):ResultVar→Sem Value
 | .tmp t=>pure (a.tmps.getD t undef)
 | .cell x t=>do loadVar t (←asAddr (a.tmps.getD x undef))
theorem Bv{σ:S}{I:cc}{F:b8}{a:Act}{w:World}(hr:Rel σ I F a w){r:ResultVar}{v:Value}(h:yq P σ r=some v) :
  (vv a r).run P w=.ok v w:=by
 cases r with
 | tmp t =>
   simp only[yq] at h
   split at h
   ·rename_i av ht
    have:=hr.tm t av ht
    cases h
    simp[vv,this]
   ·cases h
 | cell x t =>
   simp only[yq] at h
   split at h
   ·rename_i i b off hx
    have hv:=hr.tm x _ hx
    have hwf:=hr.wft x _ hx
    simp only[AV.g,At.g] at hv
    have hl:oM P t σ.own i off fun y=>y.g=v:=by
     unfold oM
     split at h
     ·rename_i cr hb ha
      simp only[hb,ha]
      cases hc:cr.cells[off]? with
      | none=>rw[hc] at h;cases h
      | some av=>rw[hc] at h;simp only[Option.map_some,Option.some.injEq] at h;exact h
     ·rename_i cr hb ha
      simp only[hb,ha]
      split at h
      ·rename_i n hn
       simp only[hn]
       cases hlen:(((cr.cells.drop off).take n).length==n) with
       | false=>rw[hlen] at h;cases h
       | true=>rw[hlen] at h;simp only[cond_true,Option.some.injEq] at h;exact h
      ·cases h
     ·cases h
    obtain⟨av,hg,_,hload⟩:=rC hl
    have:=hload b hwf w fun cr hb=>hr.sat.get hb
    rw[hg] at this
    simp[vv,hv,asAddr,Sem.run_bind,this]
   ·cases h
theorem vw{σ:S}{I:cc}{F:b8}{a:Act}{w:World}(hr:Rel σ I F a w):∀{rs:List ResultVar} {vs:List Value},qT P σ rs=some vs →
  (rs.mapM (vv a)).run P w=.ok vs w
 | [],vs,h=>by simp only[qT,Option.some.injEq] at h;subst h;rfl
 | r::rs,vs,h=>by
   simp only[qT] at h
   split at h
   ·rename_i v us h1 h2
    cases h
    simp[Sem.run_bind,Bv hr h1,vw hr h2]
   ·cases h
theorem tF{fn:Func}{σ:S}{I:cc}{F:b8}{a:Act}{w:World}(hr:Rel σ I F a w){vs:List Value}(h:qT P σ fn.results.toList=some vs) :
  (results fn a.tmps).run P w=.ok (Bu vs) w:=by
 have h1:=vw hr h
 have h2:results fn a.tmps=(do
   let vs ←fn.results.mapM (vv a)
   pure (if h:vs.size=1 then vs[0] else .tuple vs)):=rfl
 rw[h2,Array.mapM_eq_mapM_toList]
 simp only[Sem.run_bind,Sem.run_map,h1,Result.andThen_ok,Sem.run_pure]
 congr 1
 match vs with
 | []=>rfl
 | [v]=>rfl
 | _::_::_=>rfl
def pick(own:List dr):List Nat→List dr
 | []=>[]
 | i::r=>match own[i]? with
   | some b=>b::pick own r
   | none=>pick own r
def Bw:Option (List PanicEntry)→FrameMode
 | none=>.returning
 | some ch=>.panicking ch
def w9(P:Program)(f:FuncId)(args:List Value)(u:FrameMode)(I:cc)(F:b8)(Q:Ending→FrameMode→cc→b8→Prop):Prop :=
 ∀w,Sat I F w→CallsDIn Fence.wide 0 P f args.toArray u w fun e u' w'=>∃I' F',cc.le I I'∧Sat I' F' w'∧Q e u' I' F'
def zN(P:Program)(A:qj)(rs:List ResultVar)(keep:List Nat)(Q:Ending→cc→b8→Prop):List Df→Option (List PanicEntry)→S→cc→b8→Prop
 | [],none,σ,I,F=>match qT P σ rs with
   | some vs=>Q (.returned (Bu vs)) I (cL (pick σ.own keep)++F)
   | none=>False
 | [],some ch,σ,I,F=>Q (.panicked ch) I (cL (pick σ.own keep)++F)
 | .mark D::r,u,σ,I,F=>∃F3:b8,F.Perm ((D,.deferred (some []))::F3)∧zN P A rs keep Q r u σ I F3
 | .fn f first cap args::r,u,σ,I,F=>cond (A.good f)
   (w9 P f (first.map At.g++args++cap.map At.g) (Bw u) I (cL σ.own++F) fun e u' I' G=>∃v,e=.returned v ∧
     rD A.shp (JK σ.own 2 (first.flatMap At.idx++cap.flatMap At.idx)) 0 σ.own fun own'=>∃F',G.Perm (cL own'++F') ∧
      ((settle u'=.returning∧zN P A rs keep Q r none { σ with own:=own' } I' F')∨(∃ch,settle u'=.panicking ch∧zN P A rs keep Q r (some ch) { σ with own:=own' } I' F'))) False
def CS(P:Program)(A:qj)(rs:List ResultVar)(keep:List Nat)(Q:Ending→cc→b8→Prop):Kt
 | .normal,σ,I,F=>zN P A rs keep Q σ.df none σ I F
 | .ret,σ,I,F=>zN P A rs keep Q σ.df none σ I F
 | .panic ch,σ,I,F=>zN P A rs keep Q σ.df (some ch) σ I F
 | _,_,_,_=>False
def Gb:Nat→List Nat→Bool
 | _,[]=>true
 | n,i::r=>decide (n≤i)&&Gb (i+1) r
theorem vx:∀(keep:List Nat) (n:Nat) (own:List dr),Gb n keep=true→(pick own keep).Sublist (own.drop n)
 | [],n,own,_=>by simp[pick]
 | i::r,n,own,h=>by
   simp only[Gb,Bool.and_eq_true,decide_eq_true_eq] at h
   have ih:=vx r (i+1) own h.2
   simp only[pick]
   have hd:(own.drop (i+1)).Sublist (own.drop n):=by
    have:own.drop (i+1)=(own.drop n).drop (i+1-n):=by rw[List.drop_drop];congr 1;omega
    rw[this];exact List.drop_sublist _ _
   cases hb:own[i]? with
   | none=>exact ih.trans hd
   | some b =>
     have hlt:i<own.length:=by
      rcases Nat.lt_or_ge i own.length with h' | h'
      ·exact h'
      ·simp[List.getElem?_eq_none h'] at hb
     have hc:own.drop i=b::own.drop (i+1):=by
      rw[List.drop_eq_getElem_cons hlt]
      rw[List.getElem?_eq_getElem hlt] at hb
      rw[Option.some.inj hb]
     have hd':(own.drop i).Sublist (own.drop n):=by
      have:own.drop i=(own.drop n).drop (i-n):=by rw[List.drop_drop];congr 1;omega
      rw[this];exact List.drop_sublist _ _
     exact ((List.Sublist.cons_cons b ih).trans (by rw[hc];exact List.Sublist.refl _)).trans hd'
def lz(args:List AV)(n:Nat):List (Option AV):=args.map some++List.replicate (n-args.length) none
theorem DE{shp:Nat→List Sh}{σ:S}{I I':cc}{F F' G:b8}{E:List Nat}{a:Act}{w w':World}(hr:Rel σ I F a w){own':List dr}(hsat:Sat I' G w')
  (h:own'.length=σ.own.length∧∀(j:Nat) (b:dr),σ.own[j]? = some b→∃b':dr,own'[j]? = some b'∧b'.num=b.num∧b'.elem=b.elem∧b'.ro=b.ro ∧
    ((∃vs:List Value,b'.cells=vs.map fun v=>.a (.v v))∨b'.cells=b.cells)∧(b.ro=true→b'.cells=b.cells)) (hp:G.Perm (cL own'++F')):Rel { σ with own:=own' } I' F' a w':=by
 obtain⟨hl,hk⟩:=h
 have hkeep:cR σ { σ with own:=own' }:=fun j b hb=>by
  obtain⟨b',h1,h2,h3,h4,_,h6⟩:=hk j b hb
  exact⟨b',h1,h2,h3,fun hro=>⟨by rw[h4];exact hro,h6 hro⟩⟩
 refine hr.heap hkeep.same ?_ (hsat.perm hp)
 intro j b' hj c hc
 have hlt:j<σ.own.length:=by
  rcases Nat.lt_or_ge j own'.length with h' | h'
  ·omega
  ·simp[List.getElem?_eq_none h'] at hj
 obtain⟨b,hb⟩:∃b,σ.own[j]? = some b:=⟨σ.own[j],by simp[hlt]⟩
 obtain⟨b'',h1,_,_,_,h5,_⟩:=hk j b hb
 rw[hj] at h1;cases h1
 rcases h5 with ⟨vs,e⟩ | e
 ·rw[e] at hc;obtain⟨v,_,e⟩:=List.mem_map.1 hc;subst e;trivial
 ·rw[e] at hc;exact AV.ee hkeep.same (hr.wfo j b hb c hc)
theorem np(hP:∀f,A.good f=true→dz P f){fn:Func}{keep:List Nat}(hk:Gb 0 keep=true){Q:Ending→cc→b8→Prop}{I0:cc}:∀(df:List Df) (u:Option (List PanicEntry)) (σ:S) (I:cc) (F:b8) (a:Act) (w:World),
  zN P A fn.results.toList keep Q df u σ I F→Rel σ I F a w→cc.le I0 I→LeavesInM Fence.wide 0 P fn a.tmps (uR I0 Q) (df.map Df.d) (Bw u) w:=by
 have hsub:∀{σ:S} {I:cc} {F:b8} {a:Act} {w:World},Rel σ I F a w→Sat I (cL (pick σ.own keep)++F) w:=fun {σ I F a w} h1=>by
  have h5:=vx keep 0 σ.own hk
  rw[List.drop_zero] at h5
  exact h1.sat.sub ((h5.map _).append (List.Sublist.refl F))
 intro df
 induction df with
 | nil =>
   intro u σ I F a w h hr hle
   cases u with
   | none =>
     simp only[zN] at h
     split at h
     ·rename_i vs hvs
      exact⟨_,tF hr hvs,I,_,hle,hsub hr,h⟩
     ·exact h.elim
   | some ch=>exact⟨I,_,hle,hsub hr,h⟩
 | cons d df ih =>
   intro u σ I F a w h hr hle
   have hrun:Bw u ≠ .run:=by cases u<;>exact fun h=>by cases h
   cases d with
   | mark D =>
     obtain⟨F3,hp,h⟩:=h
     have hs:Sat I ((D,.deferred (some []))::(cL σ.own++F3)) w:=(hr.sat.perm (List.Perm.append_left _ hp)).perm List.perm_middle
     refine⟨hrun,.inl ⟨D,_,rfl,run_takeDeferred hs.uz,ih u σ I F3 a _ h ?_ hle⟩⟩
     exact hr.heap (iZ.refl _) hr.wfo ((hs.rM (o':=.deferred none)).sub (List.sublist_cons_self _ _))
   | fn f first cap args =>
     obtain⟨hg,h⟩:=cE h
     refine⟨hrun,.inr ⟨fun h=>by simp[Fence.wide] at h,.func f,(cap.map At.g).toArray,f,(first.map At.g).toArray++args.toArray++(cap.map At.g).toArray,rfl, ?_,fun _ _=>trivial, ?_⟩⟩
     ·simp only[Df.d,invoke];exact hP f hg _ w
     ·have hc:=h w hr.sat
      have ha:(first.map At.g++args++cap.map At.g).toArray=(first.map At.g).toArray++args.toArray++(cap.map At.g).toArray:=by simp
      rw[ha] at hc
      refine hc.mono fun e u' w' ⟨I',G,hle',hs',v,he,hq⟩=>?_
      subst he
      obtain⟨own',⟨F',hp,hor⟩,hown⟩:=mz hq
      have hrel:=DE (shp:=A.shp) (E:=[]) hr hs' hown hp
      rcases hor with ⟨hm,hk2⟩ | ⟨ch,hm,hk2⟩
      ·have:=ih none _ I' F' a w' hk2 hrel (cc.le_trans hle hle')
       show LeavesInM Fence.wide 0 P fn a.tmps (uR I0 Q) (df.map Df.d) (settle u') w'
       rw[hm];exact this
      ·have:=ih (some ch) _ I' F' a w' hk2 hrel (cc.le_trans hle hle')
       show LeavesInM Fence.wide 0 P fn a.tmps (uR I0 Q) (df.map Df.d) (settle u') w'
       rw[hm];exact this
theorem EU(hP:∀f,A.good f=true→dz P f){f:FuncId}{fn:Func}{c:Code}(hf:P.funcs[f]? = some fn)(hb:fn.body=some c){args:List AV}{own:List dr}
  {I:cc} {F:b8} {keep:List Nat} {Q:Ending→cc→b8→Prop} (hk:Gb 0 keep=true) (hwa:∀x∈args,AV.wf own x) (hwo:∀b∈own,∀x∈b.cells,AV.wf own x)
  (h:W P A none c 0 (CS P A fn.results.toList keep Q) ⟨lz args fn.ntmps,own,[]⟩ I F) {vs:Array Value} (hv:vs=(args.map AV.g).toArray):cf P f vs I (cL own++F) Q:=by
 subst hv
 intro w hw
 refine callsIn_wide.1 (callsIn_of_wp_marks (n:=0) hf hb trivial ?_)
 have hrel:Rel ⟨lz args fn.ntmps,own,[]⟩ I F { tmps:=(args.map AV.g).toArray++Array.replicate (fn.ntmps-(args.map AV.g).toArray.size) undef,defers:=[] } w:=by
  refine⟨by simp[lz], ?_,rfl, ?_, ?_,hw⟩
  ·intro t av ht
   simp only[lz,List.getElem?_append] at ht
   split at ht
   ·rename_i hlt
    simp only[List.getElem?_map] at ht
    cases ha:args[t]? with
    | none=>rw[ha] at ht;simp at ht
    | some x =>
      rw[ha] at ht
      simp only[Option.map_some,Option.some.injEq] at ht
      subst ht
      simp at hlt
      rw[Array.getElem?_append_left (by simpa using hlt)]
      simp[ha]
   ·rw[List.getElem?_replicate] at ht;split at ht<;>cases ht
  ·intro t av ht
   simp only[lz,List.getElem?_append] at ht
   split at ht
   ·simp only[List.getElem?_map] at ht
    cases ha:args[t]? with
    | none=>rw[ha] at ht;simp at ht
    | some x =>
      rw[ha] at ht
      simp only[Option.map_some,Option.some.injEq] at ht
      subst ht
      exact hwa _ (List.mem_of_getElem? ha)
   ·rw[List.getElem?_replicate] at ht;split at ht<;>cases ht
  ·exact fun i b hb' x hx=>hwo b (List.mem_of_getElem? hb') x hx
 refine wpIn_mono (CR hP c 0 _ none none _ I F _ w rfl h hrel) ?_
 intro e a' w' ⟨σ',I',F',h1,h2,h3,h4⟩
 cases e with
 | normal =>
   have:=np hP hk σ'.df none σ' I' F' a' w' h3 h1 h2
   rw[←h1.defers] at this;exact this
 | ret =>
   have:=np hP hk σ'.df none σ' I' F' a' w' h3 h1 h2
   rw[←h1.defers] at this;exact this
 | panic ch =>
   have:=np hP hk σ'.df (some ch) σ' I' F' a' w' h3 h1 h2
   rw[←h1.defers] at this;exact this
 | exit id=>exact h3.elim
 | goto l=>exact h3.elim
 | outgrown=>exact h3.elim
end sound
def vy(P:Program)(f:Nat):Bool :=
 match P.funcs[f]? with
 | some fn=>!(fn.name == "runtime.NumGoroutine")&&fn.body.isSome
 | none=>false
theorem vz{P:Program}{f:Nat}(h:vy P f=true):dz P f:=by
 intro args w
 unfold vy at h
 split at h
 ·rename_i fn hf
  simp only[Bool.and_eq_true,Bool.not_eq_true'] at h
  have h1:¬fn.name = "runtime.NumGoroutine" := by simpa using h.1
  have h2:¬fn.body=none:=fun e=>by rw[e] at h;simp at h
  simp[callFunc,program,Sem.run_bind,Sem.run,hf,h1,h2]
 ·cases h
def lk(l:List (Nat×List Sh))(t:Nat):List Sh :=
 match l with
 | []=>[]
 | (s,x)::r=>cond (s==t) x (lk r t)
def rN:List Nat→Nat→Bool
 | [],_=>false
 | x::r,n=>x==n||rN r n
def J6(l:List (Nat×Cut))(n:Nat):Option Cut :=
 match l with
 | []=>none
 | (m,c)::r=>cond (m==n) (some c) (J6 r n)
def J7(l:List (Nat×Nat×List Nat))(n:Nat):Option (Nat×List Nat) :=
 match l with
 | []=>none
 | (m,k,h)::r=>cond (m==n) (some (k,h)) (J7 r n)
theorem zO{P:Program}(l:List Nat)(h:l.all (vy P)=true):∀f,rN l f=true→dz P f:=by
 intro f hf
 have:f∈l:=by
  clear h
  induction l with
  | nil=>simp[rN] at hf
  | cons x r ih =>
    simp only[rN,Bool.or_eq_true,beq_iff_eq] at hf
    rcases hf with hf | hf
    ·exact hf▸List.mem_cons_self ..
    ·exact List.mem_cons_of_mem _ (ih hf)
 exact vz (List.all_eq_true.1 h f this)
abbrev cd:=Ending→cc→b8→Prop
def cK(sp pn gd:List Nat)(sh:List (Nat×List Sh))(ct:List (Nat×Cut))(pr rl:List Nat)(ds:List (Nat×Nat×List Nat))(fv:List Nat)(sq:List (Nat×List Nat))(tl:List (Nat×Nat))(s2:List (Nat×Nat×Nat×List Nat×List Nat):=[])(ol:List (Nat×List Nat×Nat):=[])(ot:List (Nat×List Nat×Ot):=[]):qj :=
 { sp:=fun r i=>rN sp (r*1000+i),pn:=rN pn,good:=rN gd,shp:=lk sh,cut:=J6 ct,pr:=fun r i=>rN pr (r*1000+i),ds:=J7 ds,rl:=fun r i=>rN rl (r*1000+i),fv:=fun r i=>rN fv (r*1000+i),sq:=JZ sq,tl:=J4 tl,s2:=J0 s2,ol:=J3 ol,ot:=J1 ot }
theorem zP{P:Program}{A:qj}{f:FuncId}{fn:Func}{args:List AV}{own:List dr}{I:cc}{F:b8}{keep:List Nat}{Q:cd}{V:Prop}(gd:List Nat)(hf:P.funcs[f]? = some fn)(h:V)
  (e:W P A none (fn.body.getD .skip) 0 (CS P A fn.results.toList keep Q) ⟨lz args fn.ntmps,own,[]⟩ I F=V) (hg:A.good=rN gd) (hG:gd.all (vy P)=true) (hb:fn.body=some (fn.body.getD .skip)) (hk:Gb 0 keep=true)
  (hwa:∀x∈args,AV.wf own x) (hwo:∀b∈own,∀x∈b.cells,AV.wf own x) {vs:Array Value} (hv:vs=(args.map AV.g).toArray):cf P f vs I (cL own++F) Q :=
 EU (fun f hf'=>zO gd hG f (by rw[←hg];exact hf')) hf hb hk hwa hwo (by rw[e];exact h) hv
theorem tv{P:Program}{A:qj}{f:FuncId}{fn:Func}{args:List AV}{own:List dr}{I:cc}{F:b8}{keep:List Nat}{Q:cd}{V:Prop}(gd:List Nat)(hf:P.funcs[f]? = some fn)(h:V)
  (e:W P A none (fn.body.getD .skip) 0 (CS P A fn.results.toList keep Q) ⟨lz args fn.ntmps,own,[]⟩ I F=V:=by kernel_rfl) (hg:A.good=rN gd:=by kernel_rfl) (hG:gd.all (vy P)=true:=by kernel_rfl) (hb:fn.body=some (fn.body.getD .skip):=by kernel_rfl) (hk:Gb 0 keep=true:=by kernel_rfl)
  (hwa:∀x∈args,AV.wf own x:=by simp[AV.wf,At.wf]) (hwo:∀b∈own,∀x∈b.cells,AV.wf own x:=by simp[AV.wf,At.wf]) {vs:Array Value} (hv:vs=(args.map AV.g).toArray:=by rfl):cf P f vs I (cL own++F) Q :=
 zP gd hf h e hg hG hb hk hwa hwo hv
abbrev Bs:=ByteArray
abbrev OA:=Option Addr
abbrev nB:ByteArray:=⟨#[]⟩
abbrev It(c:Bool)(A B:Prop):Prop:=(c=true→A)∧(c=false→B)
abbrev Dt(p:Prop)[Decidable p](A B:Prop):Prop:=(decide p=true→A)∧(decide p=false→B)
abbrev cy{α:Type}(P:Program)(f:FuncId)(x:Array Value)(I:cc)(h:b8→b8)(F:b8)(v:α→Value)(k:α→cc→b8→Prop):Prop:=cf P f x I (h F) fun e I' G=>∃r:α,e=.returned (v r)∧∃F':b8,List.Perm G (h F')∧k r I' F'
abbrev dg(P:Program)(f:FuncId)(x:Array Value)(I:cc)(h:b8→b8)(F:b8)(R:Ending→cc→((b8→Prop)→Prop)→Prop):Prop:=cf P f x I (h F) fun e I' G=>R e I' fun k=>∃F':b8,List.Perm G (h F')∧k F'
abbrev an(g:List Nat)(c:List Nat)(s:List (Nat×List Sh)):qj:=cK g [] c s [] [] [] [] [] [] []
theorem tw{P:Program}{A:qj}{f:FuncId}{fn:Func}{vs:List Value}{I:cc}{F:b8}{Q:cd}{V:Prop}(gd:List Nat)(hf:P.funcs[f]? = some fn)(h:V)
  (e:W P A none (fn.body.getD .skip) 0 (CS P A fn.results.toList [] Q) ⟨lz (vs.map fun v=>.a (.v v)) fn.ntmps,[],[]⟩ I F=V:=by kernel_rfl) (hg:A.good=rN gd:=by kernel_rfl) (hG:gd.all (vy P)=true:=by kernel_rfl) (hb:fn.body=some (fn.body.getD .skip):=by kernel_rfl)
  : cf P f vs.toArray I F Q :=
 zP (args:=vs.map fun v=>.a (.v v)) (own:=[]) (keep:=[]) gd hf h e hg hG hb rfl (by intro x hx;obtain⟨v,_,rfl⟩:=List.mem_map.1 hx;simp[AV.wf,At.wf]) (by simp) (by rw[List.map_map];congr 1;exact (List.map_id _).symm)
end Go.Vc
namespace Go.Vc
open Go.ChangeShapes Go.WideShapes Go.ChangeAt Go.RowKit
def cc.all(w:World):cc:=⟨fun b=>w.heap[b]?,w.os,w.output⟩
theorem Sat.all(w:World):Sat (cc.all w) [] w:=⟨fun _ _ h=>h,fun _ _ h=>by simp at h,fun _ _ h=>by simp at h,List.nodup_nil,rfl,rfl⟩
structure lC (w w':World):Prop where
 heap:∀i,i<w.heap.size→w'.heap[i]? = w.heap[i]?
 os:w'.os=w.os
 out:w'.output=w.output
theorem lC.of{w w':World}{I:cc}{F:b8}(hl:cc.le (cc.all w) I)(hs:Sat I F w'):lC w w':=by
 refine⟨fun i hi=>?_,hs.env.1.trans hl.2.1,hs.env.2.trans hl.2.2⟩
 obtain⟨o,ho⟩:∃o,w.heap[i]? = some o:=⟨_,Array.getElem?_eq_getElem hi⟩
 rw[ho]
 exact hs.imm _ _ (hl.1 i o ho)
theorem lC.kept{w w':World}(h:lC w w')(may:MemPlace→Prop):w.keptBut w' may:=by
 refine⟨h.os,h.out,fun i hi=>?_⟩
 rw[h.heap i hi]
 cases w.heap[i]? with
 | none=>rfl
 | some o=>cases o with
   | cells c t fr=>exact⟨rfl,rfl,rfl,fun _ _=>rfl⟩
   | map es clock=>exact .inr ⟨rfl,rfl⟩
   | _=>rfl
theorem lC.frozen{w w':World}(h:lC w w'){a:Addr}(ha:a.block<w.heap.size):w'.frozen? a=w.frozen? a:=by
 unfold World.frozen?;rw[h.heap _ ha]
theorem Bx{H:Type}{enc:TypeId×Value→H}{P:Program}{f:Func}{s:ChangeSpec}{apart fresh handsOn again:Bool}{W W':World}{args:Array Value}{v:Value}{ds gs:List (DataW H)}{before pa pv:List MemPlace}
  (hW:DataW.Whole enc P f.params.toList s.vars apart W args.toList ds gs before)
  (hres:∀(b:Nat) (sp:Nat→Bool) (hd:Bool),DataW.TrodAll enc P W' b sp hd f.resultTypes.toList (v.resultList f.resultTypes.size) (s.fn H (ds++gs)).results [])
  (hargs:∀sp:Nat→Bool,(∀p∈before,sp p.block=true)→DataW.TrodAll enc P W' 0 sp true f.params.toList args.toList (s.fn H (ds++gs)).args pa)
  (hvars:∀sp:Nat→Bool,(∀p∈before,sp p.block=true)→DataW.TrodVars enc P W' sp s.vars (s.fn H (ds++gs)).vars pv)
  (hps:before=pa++pv) (hk:lC W W')
  (hok:∀(j:Nat) (t:TypeId) (r:Value),f.resultTypes[j]? = some t→(v.resultList f.resultTypes.size)[j]? = some r→Value.okWide P W' .any 0 t r) :
  s.post enc P f apart fresh handsOn again W args v W':=by
 have hold:∀p∈before,(fun b=>decide (b<W.heap.size)) p.block=true:=fun p hp=>by simpa using hW.lt p hp
 have hlt:∀p∈before,p.block<W.heap.size:=fun p hp=>hW.lt p hp
 refine⟨ds,gs,before,[],pa,pv,hW,hres _ _ _,hargs _ hold,hvars _ hold,World.keptBut_mono (fun p hp=>⟨hp, ?_⟩) (hk.kept (·∈before)),fun _=>?_⟩
 ·rw[hps,List.mem_append] at hp
  exact Or.inr hp
 ·obtain⟨_,_,_,_,_,hz,hn⟩:=hW
  refine⟨hok,_,_,([]++pa)++pv,⟨[]++pa,pv,trodAll_append (hargs _ (fun _ _=>rfl)) (hres _ _ _),hvars _ (fun _ _=>rfl),rfl, ?_, ?_⟩, ?_⟩
  ·intro b off hp
   have hp':MemPlace.cell b off∈before:=by rw[hps];simpa using hp
   rw[hk.frozen (hlt _ hp')]
   exact hz b off hp'
  ·intro ha
   have:=hn ha
   rw[hps] at this
   simpa using this
  ·intro p hp _
   rw[hps]
   simpa using hp
end Go.Vc
namespace Go.Vc
theorem vA{α β:Type}(f:α→List β)(z:Nat)(hz:∀x,(f x).length=z):∀(l:List α) (i:Nat) (x:α) (j:Nat),l[i]? = some x→j<z→(l.flatMap f)[i*z+j]? = (f x)[j]?
 | [],i,x,j,h,_=>by simp at h
 | y::l,0,x,j,h,hj=>by
   simp at h;subst h
   rw[List.flatMap_cons,List.getElem?_append_left (by rw[hz];omega)];simp
 | y::l,i+1,x,j,h,hj=>by
   rw[List.flatMap_cons,List.getElem?_append_right (by rw[hz,Nat.succ_mul];omega),hz,show (i+1)*z+j-z=i*z+j by rw[Nat.succ_mul];omega]
   exact vA f z hz l i x j (by simpa using h) hj
def Sl{α:Type}(I:cc)(z:Nat)(f:α→List Value)(a:Option Addr)(n:Nat)(l:List α):Prop :=
 n=l.length∧(l≠[]→∃ad,a=some ad∧∀(i:Nat) (x:α),l[i]? = some x→∀G,Rd I G (ad.add (i*z)) (f x))
theorem Rd.le{I J:cc}{G:b8}{ad:Addr}{cs:List Value}(h:Rd I G ad cs)(hl:∀b o,(I b=some o∨(b,o)∈G)→J b=some o∨(b,o)∈G):Rd J G ad cs:=by
 obtain⟨h1,cells,e,fz,h2,h3⟩:=h
 exact⟨h1,cells,e,fz,hl _ _ h2,h3⟩
theorem Rd.mono{I J:cc}{G:b8}{ad:Addr}{cs:List Value}(h:Rd I G ad cs)(hl:cc.le I J):Rd J G ad cs :=
 h.le fun b o hb=>hb.imp (fun h=>hl.at h) id
theorem Sl.mono{α:Type}{I J:cc}{z:Nat}{f:α→List Value}{a:Option Addr}{n:Nat}{l:List α}(h:Sl I z f a n l)(hl:cc.le I J):Sl J z f a n l :=
 ⟨h.1,fun hne=>let ⟨ad,ha,hr⟩:=h.2 hne;⟨ad,ha,fun i x hx G=>(hr i x hx G).mono hl⟩⟩
theorem Sl.mD{α:Type}{I:cc}{z:Nat}{f:α→List Value}(hz:∀x,(f x).length=z){b e:Nat}{fz:Nat×Nat}{l:List α}{cells:Array Value}(h:I b=some (.cells cells e fz))
  (hc:∀k,k<(l.flatMap f).length→cells[k]? = (l.flatMap f)[k]?):Sl I z f (some ⟨b,0,none⟩) l.length l:=by
 refine⟨rfl,fun hne=>⟨_,rfl,fun i x hx G=>?_⟩⟩
 have hadd:(⟨b,0,none⟩:Addr).add (i*z)=⟨b,i*z,none⟩:=by unfold Addr.add;split<;>simp_all
 rw[hadd]
 refine⟨rfl,cells,e,fz,.inl h,fun j hj=>?_⟩
 rw[hz] at hj
 have h1:=vA f z hz l i x j hx hj
 have h2:(l.flatMap f)[i*z+j]? ≠ none:=by
  rw[h1];rw[List.getElem?_eq_getElem (by rw[hz];exact hj)];simp
 have hlt:i*z+j<(l.flatMap f).length:=by
  rcases Nat.lt_or_ge (i*z+j) (l.flatMap f).length with h | h
  ·exact h
  ·exact absurd (List.getElem?_eq_none h) h2
 show cells[i*z+j]? = _
 rw[hc _ hlt,h1]
theorem Sl.kU{α:Type}{I:cc}{z:Nat}{f:α→List Value}(hz:∀x,(f x).length=z){b e:Nat}{fz:Nat×Nat}{l:List α}{cells:Array Value}(h:I b=some (.cells cells e fz))
  (hc:cells.toList=l.flatMap f):Sl I z f (some ⟨b,0,none⟩) l.length l :=
 Sl.mD hz h fun k _=>by rw[←hc];simp
theorem Sl.at{α:Type}{I:cc}{z:Nat}{f:α→List Value}{a:Option Addr}{n:Nat}{l:List α}(h:Sl I z f a n l){i:Int}(h0:0≤i)(h1:i<n) :
  ∃ad x,a=some ad∧l[i.toNat]? = some x∧∀G,Rd I G (ad.add (Int.toNat i*z)) (f x):=by
 have hlt:i.toNat<l.length:=by have:=h.1;omega
 obtain⟨ad,ha,hr⟩:=h.2 (by intro e;rw[e] at hlt;simp at hlt)
 exact⟨ad,l[i.toNat],ha,by simp[hlt],fun G=>hr _ _ (by simp[hlt]) G⟩
def Acc{α:Type}(z:Nat)(f:α→List Value)(e:Nat)(a:Option Addr)(n c:Nat)(l:List α)(A:b8):Prop :=
 n=l.length∧((a=none∧c=0∧l=[]∧A=[]) ∨
  ∃b cells,a=some ⟨b,0,none⟩∧A=[(b,Obj.cells cells e (0,0))]∧cells.size=c*z∧n≤c∧cells.toList.take (n*z)=l.flatMap f)
theorem Acc.nil{α:Type}{z:Nat}{f:α→List Value}{e:Nat}:Acc z f e none 0 0 ([]:List α) []:=⟨rfl,.inl ⟨rfl,rfl,rfl,rfl⟩⟩
theorem Bz(w:World)(g:Nat)(old cs:Array Value)(t:TypeId)(fr:Nat×Nat)(hg:w.heap[g]? = some (.cells old t fr)):(w.setRow g cs).heap=w.heap.setIfInBounds g (.cells cs t fr):=by
 apply Array.ext_getElem?
 intro j
 rw[Array.getElem?_setIfInBounds]
 by_cases h:g=j
 ·subst h
  have hlt:g<w.heap.size:=(Array.getElem?_eq_some_iff.1 hg).1
  rw[if_pos rfl,if_pos hlt];exact setRow_heap w g old cs t fr hg
 ·rw[if_neg h];exact setRow_other w g j cs (Ne.symm h)
theorem jI{α β:Type}{f:α→List β}{z:Nat}(hz:∀x,(f x).length=z):∀l:List α,(l.flatMap f).length=l.length*z
 | []=>by simp
 | x::l=>by rw[List.flatMap_cons,List.length_append,hz,jI hz l,List.length_cons,Nat.succ_mul,Nat.add_comm]
theorem zQ{P:Program}{α:Type}{z:Nat}{f:α→List Value}(hz:∀x,(f x).length=z)(t ty e:TypeId)(i:TypeInfo)(zv:Value)(ht:P.underlying t=some (.slice e))(hi:P.info? e=some i)(hzv:i.zero=some zv)(hsz:i.size=z)(hzs:zv.cells.size=z)(hb:1≤i.bytes)
  {a:Option Addr} {n c:Nat} {l:List α} {A:b8} (hA:Acc z f e a n c l A) {xs:List α} (h1:∀x∈xs,∀u∈f x,u.oneCell'=true) (hx:xs≠[]) {sa:Addr} {m sc:Nat} (hm:m=xs.length) {I:cc} {F:b8}
  (hr:Rd I (A++F) sa (xs.flatMap f)) (hfit:(l.length+xs.length)*i.bytes≤140737488355328) :
  cF P (Builtin.append_ #[t,t] ty #[.slice a n c,.slice (some sa) m sc]) I (A++F) fun v I' G=>∃a' n' c' A',v=.slice a' n' c'∧Acc z f e a' n' c' (l++xs) A'∧G=A'++F∧(a'=a∨Sl I' z f a n l):=by
 intro w hw
 subst hsz
 have hlen:(xs.flatMap f).length=m*i.size:=by rw[jI hz,hm]
 have hnews:∀j u,(xs.flatMap f)[j]? = some u→w.cell? (sa.add j)=some u:=fun j u hj=>by
  rw[hr.cell hw j (by
   rcases Nat.lt_or_ge j (xs.flatMap f).length with h | h
   ·exact h
   ·rw[List.getElem?_eq_none h] at hj;cases hj),hj]
 have h1':∀u∈xs.flatMap f,u.oneCell'=true:=fun u hu=>by
  obtain⟨x,hxm,hu⟩:=List.mem_flatMap.1 hu
  exact h1 x hxm u hu
 have hxp:0<xs.length:=List.length_pos_iff.2 hx
 have hle:l.length+xs.length≤140737488355328:=Nat.le_trans (Nat.le_mul_of_pos_right _ hb) hfit
 obtain⟨hn,⟨ha,hc,hl,hA⟩ | ⟨b,cells,ha,hA,hcs,hnc,htk⟩⟩:=hA
 ·subst ha hc hl hA
  simp only[List.length_nil,Nat.zero_add,List.nil_append] at hfit hn hle ⊢
  subst hn
  have hrun:=run_append_nil (P:=P) w t ty e i zv ht hi hzv sa m sc _ hlen hnews (by omega) (by omega) (by rw[hm];omega)
  have hge:=grownCap_ge w m 0 e
  have hsat:Sat I F w.drew:=hw.of_heap rfl ⟨rfl,rfl⟩
  refine⟨_,_,I,_,hrun,cc.le_refl I,hsat.alloc _,_,_,_,[_],rfl,⟨hm,.inr ⟨_,_,rfl,rfl, ?_,hge, ?_⟩⟩,rfl, ?_⟩
  ·simp only[Array.size_append,List.size_toArray,size_zeroCells,hzs,hlen,←Nat.add_mul]
   congr 1;omega
  ·rw[Array.toList_append,←hlen];exact List.take_left
  ·exact .inr ⟨rfl,fun h=>absurd rfl h⟩
 ·subst ha hA
  have hflat:(l.flatMap f).length=n*i.size:=by rw[jI hz,hn]
  have hg:w.heap[b]? = some (.cells cells e (0,0)):=hw.own _ _ (List.mem_cons_self ..)
  by_cases hroom:n+m≤c
  ·have hfit2:n*i.size+(xs.flatMap f).length≤cells.size:=by rw[hlen,hcs,←Nat.add_mul];exact Nat.mul_le_mul_right _ hroom
   have hrun:=run_append_room (P:=P) w t ty e i ht hi b n c cells hg sa m sc _ hlen hnews h1' hroom hfit2
   refine⟨_,_,I,_,hrun,cc.le_refl I,hw.set (Bz w b cells _ e (0,0) hg) ⟨rfl,rfl⟩,_,_,_,[_],rfl,⟨by rw[List.length_append];omega,.inr ⟨_,_,rfl,rfl, ?_,hroom, ?_⟩⟩,rfl,.inl rfl⟩
   ·simp only[List.size_toArray,List.length_append,List.length_take,List.length_drop,Array.length_toList]
    omega
   ·rw[htk,List.flatMap_append,Nat.add_mul,←hflat,←hlen,←List.length_append]
    exact List.take_left
  ·have hcell:∀j u,(l.flatMap f)[j]? = some u→w.cell? ((⟨b,0,none⟩:Addr).add j)=some u:=fun j u hj=>by
    have hadd:(⟨b,0,none⟩:Addr).add j=⟨b,j,none⟩:=by unfold Addr.add;split<;>simp_all
    rw[hadd,cell_of_row w b j cells e (0,0) hg]
    rw[←htk,List.getElem?_take] at hj
    split at hj
    ·simpa using hj
    ·cases hj
   have hrun:=run_append_grow (P:=P) w t ty e i zv ht hi hzv ⟨b,0,none⟩ n c _ hflat hcell sa m sc _ hlen hnews (by omega) (by omega) (growslice_fits (by omega) (by rw[hn,hm];exact hfit))
   have hge:=grownCap_ge w (n+m) c e
   obtain⟨hle',hprom⟩:=(hw.of_heap rfl ⟨rfl,rfl⟩:Sat I ((b,Obj.cells cells e (0,0))::F) w.drew).lp
   refine⟨_,_,_,_,hrun,hle',hprom.alloc _,_,_,_,[_],rfl,⟨by rw[List.length_append];omega,.inr ⟨_,_,rfl,rfl, ?_,hge, ?_⟩⟩,rfl,.inr ?_⟩
   ·simp only[Array.size_append,List.size_toArray,size_zeroCells,hzs,hflat,hlen,←Nat.add_mul]
    congr 1;omega
   ·simp only[Array.toList_append]
    rw[List.flatMap_append,Nat.add_mul,←hflat,←hlen,←List.length_append]
    exact List.take_left
   ·rw[hn]
    refine Sl.mD hz (cc.kJ _ _ _) fun k hk=>?_
    rw[←htk,List.getElem?_take,if_pos]
    ·simp
    ·rw[jI hz,←hn] at hk;exact hk
theorem iD{P:Program}{α:Type}{z:Nat}{f:α→List Value}(hz:∀x,(f x).length=z){t ty e:TypeId}{zv:Value}{by':Nat}(ht:P.underlying t=some (.slice e))(hi:(P.info? e).map (fun i=>(i.zero,i.size,i.bytes))=some (some zv,z,by'))(hzs:zv.cells.size=z)(hb:1≤by')
  {a:Option Addr} {n c:Nat} {l:List α} {A:b8} (hA:Acc z f e a n c l A) {xs:List α} (h1:∀x∈xs,∀u∈f x,u.oneCell'=true) (hx:xs≠[]) {sa:Addr} {m sc:Nat} (hm:m=xs.length) {I:cc} {F:b8}
  (hr:Rd I (A++F) sa (xs.flatMap f)) (hfit:(l.length+xs.length)*by'≤140737488355328) :
  cF P (Builtin.append_ #[t,t] ty #[.slice a n c,.slice (some sa) m sc]) I (A++F) fun v I' G=>∃a' n' c' A',v=.slice a' n' c'∧Acc z f e a' n' c' (l++xs) A'∧G=A'++F∧(a'=a∨Sl I' z f a n l):=by
 cases h:P.info? e with
 | none=>rw[h] at hi;cases hi
 | some i =>
   rw[h] at hi
   simp only[Option.map_some,Option.some.injEq,Prod.mk.injEq] at hi
   exact zQ hz t ty e i zv ht h hi.1 hi.2.1 hzs (by omega) hA h1 hx hm hr (by rw[hi.2.2];exact hfit)
theorem cF.perm{P:Program}{s:Sem Value}{I:cc}{F G:b8}{Q:Value→cc→b8→Prop}(h:cF P s I F Q)(p:G.Perm F):cF P s I G Q:=fun w hw=>h w (hw.perm p)
theorem cf.perm{P:Program}{f:FuncId}{args:Array Value}{I:cc}{F G:b8}{Q:Ending→cc→b8→Prop}(h:cf P f args I F Q)(p:G.Perm F):cf P f args I G Q:=fun w hw=>h w (hw.perm p)
theorem cf.keep{P:Program}{f:FuncId}{args:Array Value}{I:cc}{F:b8}{Q Q':Ending→cc→b8→Prop}(h:cf P f args I F Q)
  (k:∀e I' G w,cc.le I I'→Sat I' G w→Q e I' G→∃J G',cc.le I' J∧Sat J G' w∧Q' e J G'):cf P f args I F Q' :=
 fun w hw=>(h w hw).mono fun e w' ⟨I',G,hl,hs,hq⟩=>let ⟨J,G',hl',hs',hq'⟩:=k e I' G w' hl hs hq;⟨J,G',cc.le_trans hl hl',hs',hq'⟩
theorem Acc.keep{α:Type}{z:Nat}{f:α→List Value}(hz:∀x,(f x).length=z){e:Nat}{a:Option Addr}{n c:Nat}{l:List α}{A F:b8}(h:Acc z f e a n c l A){I:cc}{w:World}(hw:Sat I (A++F) w) :
  ∃J,cc.le I J∧Sat J F w∧Sl J z f a n l:=by
 obtain⟨hn,⟨ha,hc,hl,hA⟩ | ⟨b,cells,ha,hA,hcs,hnc,htk⟩⟩:=h
 ·subst ha hc hl hA hn
  exact⟨I,cc.le_refl I,hw,rfl,fun h=>absurd rfl h⟩
 ·subst ha hA
  obtain⟨h1,h2⟩:=hw.lp
  refine⟨_,h1,h2, ?_⟩
  rw[hn]
  refine Sl.mD hz (cc.kJ _ _ _) fun k hk=>?_
  rw[←htk,List.getElem?_take,if_pos]
  ·simp
  ·rw[jI hz,←hn] at hk;exact hk
def BA:Value→Value→Option Bool
 | .int k a,.int k' b=>bif k==k' then some (a==b) else none
 | .string a,.string b=>some (a.toList==b.toList)
 | .bool a,.bool b=>some (a==b)
 | _,_=>none
def sU(P:Program)(t:TypeId):Value→Bool
 | .int _ _=>match P.underlying t with | some (.int _)=>true | _=>false
 | .string _=>match P.underlying t with | some .string=>true | _=>false
 | .bool _=>match P.underlying t with | some .bool=>true | _=>false
 | _=>false
theorem BB{P:Program}{t:TypeId}{u v:Value}{b:Bool}(h:BA u v=some b)(ht:sU P t u=true)(d:Nat)(w:World):(Op.equalIn (d+1) t u v).run P w=.ok b w:=by
 unfold BA at h
 split at h
 ·rename_i k a k' b'
  cases hk:k==k' with
  | false=>rw[hk] at h;cases h
  | true =>
    have:k=k':=by cases k<;>cases k'<;>first | rfl | cases hk
    subst this
    rw[hk] at h
    cases h
    simp only[sU] at ht
    split at ht
    ·rename_i hu;exact run_equalIn_int w d t k _ a b' hu
    ·exact absurd ht (by decide)
 ·cases h
  simp only[sU] at ht
  split at ht
  ·rename_i hu;exact run_equalIn_string w d t _ _ hu
  ·exact absurd ht (by decide)
 ·cases h
  simp only[sU] at ht
  split at ht
  ·rename_i hu;exact run_equalIn_bool' w d t _ _ hu
  ·exact absurd ht (by decide)
 ·cases h
def oR(P:Program)(xs ys:Array Value):List Field→Option Bool
 | []=>some true
 | f::fs=>bif !(f.name == "_")&&(match rA P f.type with | some false=>true | _=>false) then
    (match xs[f.offset]?,ys[f.offset]? with
      | some u,some v=>bif sU P f.type u then (match BA u v,oR P xs ys fs with | some b,some c=>some (b&&c) | _,_=>none) else none
      | _,_=>none) else none
theorem zR{P:Program}{t:TypeId}{cs:Array Value}{o:Nat}{v:Value}(h:rA P t=some false)(hv:cs[o]? = some v)(w:World):(part t cs o).run P w=.ok v w:=by
 simp[part,Sem.run_bind,sM h,hv]
theorem qU{P:Program}{xs ys:Array Value}(d:Nat):∀{fs:List Field} {b:Bool},oR P xs ys fs=some b→∀w,(Op.eqFields (d+1) xs ys fs).run P w=.ok b w
 | [],b,h,w=>by cases h;rfl
 | f::fs,b,h,w=>by
   unfold oR at h
   cases hc:(!(f.name == "_")&&(match rA P f.type with | some false=>true | _=>false)) with
   | false=>rw[hc] at h;cases h
   | true =>
     rw[hc] at h
     simp only[cond_true] at h
     rw[Bool.and_eq_true] at hc
     have hname:f.name ≠ "_" := by simpa using hc.1
     have hagg:rA P f.type=some false:=by
      have:=hc.2
      split at this
      ·assumption
      ·cases this
     split at h
     ·rename_i u v hu hv
      cases hl:sU P f.type u with
      | false=>rw[hl] at h;cases h
      | true =>
        rw[hl] at h
        simp only[cond_true] at h
        split at h
        ·rename_i b' c hb hcc
         cases h
         simp only[Op.eqFields,hname,ne_eq,not_false_eq_true,if_true,Sem.run_bind,zR hagg hu,zR hagg hv,Result.andThen_ok,BB hb hl]
         cases b'
         ·simp
         ·simp only[Bool.not_true,Bool.false_eq_true,if_false,Bool.true_and]
          exact qU d hcc w
        ·cases h
     ·cases h
theorem vB{P:Program}{t:TypeId}{x y:Operand}{xs ys:Array Value}{b:Bool}(ht:P.underlying t=some (.struct (P.fieldsOf t)))(hp:P.stoodInHeld t=false)(hm:P.eqGuardType P.depth t=false)
  (h:oR P xs ys (P.fieldsOf t).toList=some b):cU P .eql t x y (.agg xs) (.agg ys) b:=by
 intro w
 simp only[Sem.run_bind,run_eqGuard_agg (P:=P) w .eql t x y xs ys hm,Result.andThen_ok,run_eql_struct]
 rw[show (10000:Nat)=9998+1+1 from rfl,run_equalIn_struct w (9998+1) t xs ys ht hp,qU 9998 h];rfl
theorem vC{P:Program}{t:TypeId}{x y:Operand}{xs ys:Array Value}{b:Bool}(ht:P.underlying t=some (.struct (P.fieldsOf t)))(hp:P.stoodInHeld t=false)(hm:P.eqGuardType P.depth t=false)
  (h:oR P xs ys (P.fieldsOf t).toList=some b):cU P .neq t x y (.agg xs) (.agg ys) (!b):=by
 intro w
 simp only[Sem.run_bind,run_eqGuard_agg (P:=P) w .neq t x y xs ys hm,Result.andThen_ok,run_neq_struct]
 rw[show (10000:Nat)=9998+1+1 from rfl,run_equalIn_struct w (9998+1) t xs ys ht hp,qU 9998 h];rfl
def dq{α:Type}(I:cc)(G:b8)(z:Nat)(f:α→List Value)(a:Option Addr)(n:Nat)(l:List α):Prop :=
 n=l.length∧(l≠[]→∃ad,a=some ad∧∀(i:Nat) (x:α),l[i]? = some x→Rd I G (ad.add (i*z)) (f x))
theorem Rd.sub{I J:cc}{G H:b8}{ad:Addr}{cs:List Value}(h:Rd I G ad cs)(hl:cc.le I J)(hs:∀x,x∈G→x∈H):Rd J H ad cs:=by
 obtain⟨h1,cells,e,fz,h2,h3⟩:=h
 exact⟨h1,cells,e,fz,h2.imp (fun h=>hl.at h) (hs _),h3⟩
theorem Sl.yr{α:Type}{I:cc}{z:Nat}{f:α→List Value}{a:Option Addr}{n:Nat}{l:List α}(h:Sl I z f a n l)(G:b8):dq I G z f a n l :=
 ⟨h.1,fun hne=>let ⟨ad,ha,hr⟩:=h.2 hne;⟨ad,ha,fun i x hx=>hr i x hx G⟩⟩
theorem dq.mono{α:Type}{I J:cc}{G H:b8}{z:Nat}{f:α→List Value}{a:Option Addr}{n:Nat}{l:List α}(h:dq I G z f a n l)(hl:cc.le I J)(hs:∀x,x∈G→x∈H):dq J H z f a n l :=
 ⟨h.1,fun hne=>let ⟨ad,ha,hr⟩:=h.2 hne;⟨ad,ha,fun i x hx=>(hr i x hx).sub hl hs⟩⟩
theorem dq.at{α:Type}{I:cc}{G:b8}{z:Nat}{f:α→List Value}{a:Option Addr}{n:Nat}{l:List α}(h:dq I G z f a n l){i:Int}(h0:0≤i)(h1:i<n) :
  ∃ad x,a=some ad∧l[i.toNat]? = some x∧Rd I G (ad.add (Int.toNat i*z)) (f x):=by
 have hlt:i.toNat<l.length:=by have:=h.1;omega
 obtain⟨ad,ha,hr⟩:=h.2 (by intro e;rw[e] at hlt;simp at hlt)
 exact⟨ad,l[i.toNat],ha,by simp[hlt],hr _ _ (by simp[hlt])⟩
theorem dq.EV{α:Type}{I:cc}{G:b8}{z:Nat}{f:α→List Value}(hz:∀x,(f x).length=z){b e:Nat}{fz:Nat×Nat}{l:List α}{cells:Array Value}(h:(b,Obj.cells cells e fz)∈G)
  (hc:∀k,k<(l.flatMap f).length→cells[k]? = (l.flatMap f)[k]?):dq I G z f (some ⟨b,0,none⟩) l.length l:=by
 refine⟨rfl,fun hne=>⟨_,rfl,fun i x hx=>?_⟩⟩
 have hadd:(⟨b,0,none⟩:Addr).add (i*z)=⟨b,i*z,none⟩:=by unfold Addr.add;split<;>simp_all
 rw[hadd]
 refine⟨rfl,cells,e,fz,.inr h,fun j hj=>?_⟩
 rw[hz] at hj
 have h1:=vA f z hz l i x j hx hj
 have h2:(l.flatMap f)[i*z+j]? ≠ none:=by
  rw[h1];rw[List.getElem?_eq_getElem (by rw[hz];exact hj)];simp
 have hlt:i*z+j<(l.flatMap f).length:=by
  rcases Nat.lt_or_ge (i*z+j) (l.flatMap f).length with h | h
  ·exact h
  ·exact absurd (List.getElem?_eq_none h) h2
 show cells[i*z+j]? = _
 rw[hc _ hlt,h1]
theorem Acc.yr{α:Type}{z:Nat}{f:α→List Value}(hz:∀x,(f x).length=z){e:Nat}{a:Option Addr}{n c:Nat}{l:List α}{A:b8}(h:Acc z f e a n c l A)(I:cc){G:b8}(hs:∀x,x∈A→x∈G):dq I G z f a n l:=by
 obtain⟨hn,⟨ha,hc,hl,hA⟩ | ⟨b,cells,ha,hA,hcs,hnc,htk⟩⟩:=h
 ·subst hl hn;exact⟨rfl,fun h=>absurd rfl h⟩
 ·subst ha hA
  rw[hn]
  refine dq.EV hz (hs _ (List.mem_cons_self ..)) fun k hk=>?_
  rw[←htk,List.getElem?_take,if_pos]
  ·simp
  ·rw[jI hz,←hn] at hk;exact hk
theorem Rd.field{I:cc}{G:b8}{ad:Addr}{cs:List Value}(h:Rd I G ad cs){o:Nat}{v:Value}(hv:cs[o]? = some v):Rd I G (ad.add o) [v]:=by
 obtain⟨h1,cells,e,fz,h2,h3⟩:=h
 have hadd:ad.add o=⟨ad.block,ad.off+o,none⟩:=by
  obtain⟨b,off,sp⟩:=ad
  simp only at h1;subst h1
  unfold Addr.add;split<;>simp_all
 rw[hadd]
 refine⟨rfl,cells,e,fz,h2,fun j hj=>?_⟩
 have:j=0:=by simpa using hj
 subst this
 have hlt:o<cs.length:=by
  rcases Nat.lt_or_ge o cs.length with h | h
  ·exact h
  ·rw[List.getElem?_eq_none h] at hv;cases hv
 show cells[ad.off+o+0]? = _
 rw[Nat.add_zero,h3 o hlt,hv];rfl
abbrev Ck(z:Nat):={ x:List Value // x.length=z }
def cv{z:Nat}(x:Ck z):List Value:=x.val
theorem qV{α:Type}(n:Nat)(v:α)(cs:List α)(h:n<cs.length):cj n [v] cs=cs.set n v:=by rw[qL n v [] cs h,qK]
theorem add_add(b i j:Nat):((⟨b,0,none⟩:Addr).add i).add j=⟨b,i+j,none⟩:=by
 unfold Addr.add;simp only;repeat' split
 all_goals simp_all
theorem eD(b i:Nat):(⟨b,0,none⟩:Addr).add i=⟨b,i,none⟩:=by unfold Addr.add;split<;>simp_all
section
open Classical
noncomputable def cn(a:Nat×Obj)(l:b8):Nat:=l.countP fun x=>decide (x=a)
noncomputable def on(a x:Nat×Obj):Nat:=if x=a then 1 else 0
theorem di(a:Nat×Obj)(l m:b8):cn a (l++m)=cn a l+cn a m:=List.countP_append
theorem cS(a x:Nat×Obj)(l:b8):cn a (x::l)=on a x+cn a l:=by
 unfold cn on;rw[List.countP_cons];simp only[decide_eq_true_eq];omega
theorem dp(a:Nat×Obj):cn a []=0:=rfl
theorem j7{l m:b8}(h:l.Perm m)(a:Nat×Obj):cn a l=cn a m:=h.countP_eq _
noncomputable def Gn:DecidableEq (Nat×Obj):=fun x y=>propDecidable (x=y)
theorem cT{l m:b8}(h:∀a,cn a l=cn a m):l.Perm m:=by
 refine (@List.perm_iff_count (Nat×Obj) (@instBEqOfDecidableEq _ Gn) (@instLawfulBEq _ Gn) l m).2 fun a=>?_
 have h1:∀l:b8,@List.count _ (@instBEqOfDecidableEq _ Gn) a l=cn a l:=fun l=>by
  unfold List.count cn
  congr 1
  funext x
  show @decide (x=a) (Gn x a)=decide (x=a)
  congr
 rw[h1,h1];exact h a
end
theorem Rd.sV{I:cc}{b t:Nat}{fz:Nat×Nat}{cells:Array Value}(h:I b=some (.cells cells t fz))(G:b8)(o:Nat){cs:List Value}(hc:∀j,j<cs.length→cells[o+j]? = cs[j]?):Rd I G (⟨b,o,none⟩:Addr) cs:=⟨rfl,cells,t,fz,.inl h,hc⟩
theorem Rd.qW{I:cc}{b t:Nat}{fz:Nat×Nat}{cells:Array Value}{G:b8}(h:(b,Obj.cells cells t fz)∈G)(o:Nat){cs:List Value}(hc:∀j,j<cs.length→cells[o+j]? = cs[j]?):Rd I G (⟨b,o,none⟩:Addr) cs:=⟨rfl,cells,t,fz,.inr h,hc⟩
end Go.Vc
namespace Go.Lx
open Go.Vc
def gI(c:Int):Bool:=decide (97≤c)&&decide (c≤122)
def dI(c:Int):Bool:=decide (48≤c)&&decide (c≤57)
def dE(c:Int):Bool:=gI c||dI c||(c==95)
def DF(p:Int→Bool)(s:ByteArray):Nat→Int→Int
 | 0,i=>i
 | n+1,i=>if p (bt s i) then DF p s n (i+1) else i
def eX(p:Int→Bool)(s:ByteArray)(i:Int):Int:=DF p s (s.size-i).toNat i
theorem pE{p:Int→Bool}{s:ByteArray}{i:Int}(h:(s.size:Int)≤i):eX p s i=i:=by
 unfold eX;rw[show ((s.size:Int)-i).toNat=0 by omega];rfl
theorem eL{p:Int→Bool}{s:ByteArray}{i:Int}(h:i<(s.size:Int)):eX p s i=if p (bt s i) then eX p s (i+1) else i:=by
 unfold eX
 obtain⟨n,hn⟩:∃n,((s.size:Int)-i).toNat=n+1:=⟨((s.size:Int)-i).toNat-1,by omega⟩
 rw[hn,show ((s.size:Int)-(i+1)).toNat=n by omega];rfl
theorem CT(p:Int→Bool)(s:ByteArray):∀(n:Nat) (i:Int),i≤DF p s n i∧DF p s n i≤i+n
 | 0,i=>by simp[DF]
 | n+1,i=>by
   have:=CT p s n (i+1)
   unfold DF;split<;>omega
theorem oS{p:Int→Bool}{s:ByteArray}{i:Int}(h:i≤(s.size:Int)):i≤eX p s i∧eX p s i≤s.size:=by
 have:=CT p s (s.size-i).toNat i
 unfold eX;omega
def blank(c:Int):Bool:=c==32||c==9||c==10||c==13
def yt(c:Int)(r:Bool):Bool:=if c=35 then true else if c=10 then false else r
def xE(s:ByteArray):Nat→Bool→Int→Int
 | 0,_,i=>i
 | n+1,r,i=>if !(yt (bt s i) r) && !blank (bt s i) then i else xE s n (yt (bt s i) r) (i+1)
def rO(s:ByteArray)(r:Bool)(i:Int):Int:=xE s (s.size-i).toNat r i
def jU(s:ByteArray)(i:Int):Int:=rO s false i
theorem DG{s:ByteArray}{r:Bool}{i:Int}(h:(s.size:Int)≤i):rO s r i=i:=by
 unfold rO;rw[show ((s.size:Int)-i).toNat=0 by omega];rfl
theorem BC{s:ByteArray}{r:Bool}{i:Int}(h:i<(s.size:Int)):rO s r i =
  if !(yt (bt s i) r) && !blank (bt s i) then i else rO s (yt (bt s i) r) (i+1):=by
 unfold rO
 obtain⟨n,hn⟩:∃n,((s.size:Int)-i).toNat=n+1:=⟨((s.size:Int)-i).toNat-1,by omega⟩
 rw[hn,show ((s.size:Int)-(i+1)).toNat=n by omega];rfl
theorem zS(s:ByteArray):∀(n:Nat) (r:Bool) (i:Int),i≤xE s n r i∧xE s n r i≤i+n
 | 0,r,i=>by simp[xE]
 | n+1,r,i=>by
   unfold xE
   have:=zS s n (yt (bt s i) r) (i+1)
   split<;>omega
theorem sW{s:ByteArray}{i:Int}(h:i≤(s.size:Int)):i≤jU s i∧jU s i≤s.size:=by
 have:=zS s (s.size-i).toNat false i
 unfold jU rO;omega
structure Tok where
 kind:Int
 text:ByteArray
 cO:Int
 n:Int
 pos:Int
inductive TR where
 | ok (t:Tok)
 | bad (e p:Int)
def zT(p:Int):Tok:=⟨0,⟨#[]⟩,0,0,p⟩
def cut(s:ByteArray)(i j:Int):ByteArray:=s.extract i.toNat j.toNat
def dJ:List ByteArray:=[⟨#[97,98,115]⟩,⟨#[97,109,101,110,100]⟩,⟨#[97,115]⟩,⟨#[97,115,107]⟩,⟨#[97,116]⟩,⟨#[98,105,100]⟩,⟨#[98,111,111,108]⟩,⟨#[98,117,121]⟩,⟨#[99,97,110,99,101,108]⟩,⟨#[100,111]⟩,
 ⟨#[102,97,108,115,101]⟩,⟨#[102,111,107]⟩,⟨#[103,111,116,111]⟩,⟨#[104,97,108,116]⟩,⟨#[104,97,115]⟩,⟨#[105,110,116]⟩,⟨#[105,111,99]⟩,⟨#[108,97,115,116]⟩,⟨#[108,105,109,105,116]⟩,⟨#[109,97,114,107,101,116]⟩,
 ⟨#[109,97,120]⟩,⟨#[109,105,110]⟩,⟨#[110,111,119]⟩,⟨#[111,102]⟩,⟨#[111,112,101,110]⟩,⟨#[112,111,115,116]⟩,⟨#[112,114,105,99,101]⟩,⟨#[113,116,121]⟩,⟨#[114,101,103]⟩,⟨#[115,101,108,108]⟩,⟨#[115,101,116]⟩,
 ⟨#[115,105,100,101]⟩,⟨#[115,108,111,116]⟩,⟨#[115,116,97,116,101]⟩,⟨#[115,116,114,97,116,101,103,121]⟩,⟨#[115,117,98,109,105,116]⟩,⟨#[116,105,109,101]⟩,⟨#[116,111]⟩,⟨#[116,114,117,101]⟩,⟨#[118,111,108,117,109,101]⟩,⟨#[119,104,101,110]⟩]
def oT(t:ByteArray):Bool:=dJ.any fun w=>w.toList==t.toList
def c9(t:ByteArray):Bool :=
 !(t.toList==[])&&decide ((t.size:Int)≤16)&&gI (bt t 0) && !oT t&&decide (eX dE t 0=t.size)
def tG(s:ByteArray)(i:Int):TR :=
 let e:=eX dE s i
 if e-i>16 then .bad 112 i else .ok ⟨if oT (cut s i e) then 1 else 2,cut s i e,0,0,i⟩
def EW(s:ByteArray):Nat→Int→Int→Int
 | 0,_,v=>v
 | n+1,i,v=>if dI (bt s i) then EW s n (i+1) (10*v+(bt s i-48)) else v
def iE(s:ByteArray)(i v:Int):Int:=EW s (s.size-i).toNat i v
theorem DH{s:ByteArray}{i v:Int}(h:(s.size:Int)≤i):iE s i v=v:=by
 unfold iE;rw[show ((s.size:Int)-i).toNat=0 by omega];rfl
theorem vD{s:ByteArray}{i v:Int}(h:i<(s.size:Int)):iE s i v=if dI (bt s i) then iE s (i+1) (10*v+(bt s i-48)) else v:=by
 unfold iE
 obtain⟨n,hn⟩:∃n,((s.size:Int)-i).toNat=n+1:=⟨((s.size:Int)-i).toNat-1,by omega⟩
 rw[hn,show ((s.size:Int)-(i+1)).toNat=n by omega];rfl
theorem CU(s:ByteArray):∀(n:Nat) (i v:Int),0≤v→v≤EW s n i v
 | 0,i,v,_=>by simp[EW]
 | n+1,i,v,hv=>by
   unfold EW
   split
   ·rename_i hd
    simp only[dI,Bool.and_eq_true,decide_eq_true_eq] at hd
    have:=CU s n (i+1) (10*v+(bt s i-48)) (by omega)
    omega
   ·exact Int.le_refl _
theorem zU{s:ByteArray}{i v:Int}(h:0≤v):v≤iE s i v:=CU s _ i v h
def kV(c:Int):Int:=if c=116 then 4 else if c=112 then 3 else if c=113 then 2 else 1
def cZ(s:ByteArray)(i:Int):Int:=if i<s.size then bt s i else 0
def sX(s:ByteArray)(i:Int):TR :=
 let e:=eX dI s i
 let t:=kV (cZ s e)
 let e2:=if t=1 then e else e+1
 if iE s i 0>9223372036854775807∨(e-i>1∧bt s i=48)∨(e2<s.size∧(dE (bt s e2)=true∨(65≤bt s e2∧bt s e2≤90))) then .bad 113 i
 else .ok ⟨3,cut s i e2,t,iE s i 0,i⟩
def single(c:Int):Bool:=[123,125,40,41,44,59,63,58,43,45,42,47,37].contains c
def kW(s:ByteArray)(i:Int):Int :=
 let c:=bt s i
 let d:=cZ s (i+1)
 if single c then 1 else if c=38∨c=124 then (if d=c then 2 else 0) else if c=61∨c=33∨c=60∨c=62 then (if d=61 then 2 else 1) else 0
def tH(s:ByteArray)(i:Int):TR:=if kW s i=0 then .bad 111 i else .ok ⟨4,cut s i (i+kW s i),0,0,i⟩
def uh(s:ByteArray)(f:Int):TR :=
 let i:=jU s f
 if i=s.size then .ok (zT i)
 else if dI (bt s i) then sX s i else if gI (bt s i) then tG s i else tH s i
def Tok.v(t:Tok):Value:=.agg #[.int .u8 t.kind,.string t.text,.int .u8 t.cO,.int .i64 t.n,.int .i64 t.pos]
theorem cY{n:Int}(h : -9223372036854775808≤n∧n≤9223372036854775807):IntKind.wrap .i64 n=n:=by
 simp only[IntKind.wrap,IntKind.bits,IntKind.signed];simp;split<;>omega
theorem w8{n:Int}(h:0≤n∧n≤255):IntKind.wrap .u8 n=n:=by
 simp only[IntKind.wrap,IntKind.bits,IntKind.signed];simp;omega
inductive Px where
 | mk (kind oper cO n field:Int) (name:ByteArray) (kids:List Px) (pos:Int)
namespace Px
def kind:Px→Int | .mk k _ _ _ _ _ _ _=>k
def oper:Px→Int | .mk _ o _ _ _ _ _ _=>o
def cO:Px→Int | .mk _ _ t _ _ _ _ _=>t
def n:Px→Int | .mk _ _ _ n _ _ _ _=>n
def field:Px→Int | .mk _ _ _ _ f _ _ _=>f
def name:Px→ByteArray | .mk _ _ _ _ _ s _ _=>s
def kids:Px→List Px | .mk _ _ _ _ _ _ l _=>l
def pos:Px→Int | .mk _ _ _ _ _ _ _ p=>p
theorem eta(x:Px):x=.mk x.kind x.oper x.cO x.n x.field x.name x.kids x.pos:=by cases x;rfl
theorem ind{p:Px→Prop}(h:∀x:Px,(∀k∈x.kids,p k)→p x):∀x:Px,p x
 | .mk k o t n f s l q=>h _ fun y hy=>ind h y
termination_by x=>SizeOf.sizeOf x
decreasing_by
 have:=List.sizeOf_lt_of_mem (show y∈l from hy)
 simp;omega
end Px
inductive Nd where
 | mk (kind oper cO n field:Int) (name:ByteArray) (a:Option Addr) (c:Nat) (kids:List Nd) (pos:Int)
namespace Nd
def kind:Nd→Int | .mk k _ _ _ _ _ _ _ _ _=>k
def oper:Nd→Int | .mk _ o _ _ _ _ _ _ _ _=>o
def cO:Nd→Int | .mk _ _ t _ _ _ _ _ _ _=>t
def n:Nd→Int | .mk _ _ _ n _ _ _ _ _ _=>n
def field:Nd→Int | .mk _ _ _ _ f _ _ _ _ _=>f
def name:Nd→ByteArray | .mk _ _ _ _ _ s _ _ _ _=>s
def a:Nd→Option Addr | .mk _ _ _ _ _ _ a _ _ _=>a
def c:Nd→Nat | .mk _ _ _ _ _ _ _ c _ _=>c
def kids:Nd→List Nd | .mk _ _ _ _ _ _ _ _ l _=>l
def pos:Nd→Int | .mk _ _ _ _ _ _ _ _ _ p=>p
theorem ind{p:Nd→Prop}(h:∀x:Nd,(∀k∈x.kids,p k)→p x):∀x:Nd,p x
 | .mk k o t n f s a c l q=>h _ fun y hy=>ind h y
termination_by x=>SizeOf.sizeOf x
decreasing_by
 have:=List.sizeOf_lt_of_mem (show y∈l from hy)
 simp;omega
mutual
def px:Nd→Px
 | .mk k o t n f s _ _ l q=>.mk k o t n f s (BD l) q
def BD:List Nd→List Px
 | []=>[]
 | k::r=>px k::BD r
end
theorem uA:∀l:List Nd,BD l=l.map px
 | []=>rfl
 | k::r=>by rw[BD,uA r];rfl
theorem db(t:Nd):t.px.kids=t.kids.map px:=by cases t;rw[px,←uA];rfl
theorem cG(t:Nd):t.px.kind=t.kind:=by cases t;rw[px];rfl
theorem eP(t:Nd):t.px.oper=t.oper:=by cases t;rw[px];rfl
theorem gJ(t:Nd):t.px.cO=t.cO:=by cases t;rw[px];rfl
theorem xb(t:Nd):t.px.n=t.n:=by cases t;rw[px];rfl
theorem gQ(t:Nd):t.px.field=t.field:=by cases t;rw[px];rfl
theorem fF(t:Nd):t.px.name=t.name:=by cases t;rw[px];rfl
theorem qX(t:Nd):t.px.pos=t.pos:=by cases t;rw[px];rfl
theorem ja(t:Nd):t.px.kids.length=t.kids.length:=by rw[db,List.length_map]
abbrev enc(t:Nd):List Value:=[.int .u8 t.kind,.int .u8 t.oper,.int .u8 t.cO,.int .i64 t.n,.int .u8 t.field,.string t.name,.slice t.a t.kids.length t.c,.int .i64 t.pos]
abbrev v(t:Nd):Value:=.agg #[.int .u8 t.kind,.int .u8 t.oper,.int .u8 t.cO,.int .i64 t.n,.int .u8 t.field,.string t.name,.slice t.a t.kids.length t.c,.int .i64 t.pos]
theorem nq(t:Nd):t.enc.length=8:=rfl
theorem Gp(t:Nd):∀u∈t.enc,u.oneCell'=true:=by
 intro u hu
 simp only[enc,List.mem_cons,List.not_mem_nil,or_false] at hu
 rcases hu with h | h | h | h | h | h | h | h<;>(subst h;rfl)
end Nd
inductive cC (I:cc) (G:b8):Nd→Prop
 | mk {t:Nd}:dq I G 8 Nd.enc t.a t.kids.length t.kids→(∀k∈t.kids,cC I G k)→cC I G t
theorem cC.sl{I:cc}{G:b8}{t:Nd}(h:cC I G t):dq I G 8 Nd.enc t.a t.kids.length t.kids:=by cases h;assumption
theorem cC.IU{I:cc}{G:b8}{t:Nd}(h:cC I G t):∀k∈t.kids,cC I G k:=by cases h;assumption
theorem cC.mono{I J:cc}{G H:b8}{t:Nd}(h:cC I G t)(hl:cc.le I J)(hs:∀x,x∈G→x∈H):cC J H t:=by
 induction h with
 | mk h1 h2 ih=>exact .mk (h1.mono hl hs) ih
def EX(I:cc)(G:b8)(a:Option Addr)(n:Nat)(l:List Nd):Prop:=dq I G 8 Nd.enc a n l∧∀k∈l,cC I G k
theorem cC.kids{I:cc}{G:b8}{t:Nd}(h:cC I G t):EX I G t.a t.kids.length t.kids:=⟨h.sl,h.IU⟩
theorem EX.at{I:cc}{G:b8}{a:Option Addr}{n:Nat}{l:List Nd}(h:EX I G a n l){i:Int}(h0:0≤i)(h1:i<n) :
  ∃ad x,a=some ad∧l[i.toNat]? = some x∧Rd I G (ad.add (Int.toNat i*8)) x.enc∧cC I G x∧x∈l:=by
 obtain⟨ad,x,h2,h3,h4⟩:=h.1.at h0 h1
 exact⟨ad,x,h2,h3,h4,h.2 x (List.mem_of_getElem? h3),List.mem_of_getElem? h3⟩
namespace Px
def arity(x:Px):Nat:=if x.kind=5∨x.kind=9 then 1 else if x.kind=6 then 2 else if x.kind=7 then 3 else if x.kind=8 then (if x.oper=3 then 1 else 2) else 0
def DI(x:Px):Bool:=if x.cO=6 then decide (x.n=1∨x.n=2) else if x.cO=5 then decide (x.n=0∨x.n=1) else if 1≤x.cO∧x.cO≤4 then decide (0≤x.n) else false
def zV(x:Px):Bool :=
 if x.kind=1 then DI x else if x.kind=2 then c9 x.name else if x.kind=3 then decide (1≤x.field∧x.field≤6) else if x.kind=4 then decide (1≤x.field∧x.field≤3)
 else if x.kind=5 then decide (x.oper=1∨x.oper=2) else if x.kind=6 then decide (6≤x.oper∧x.oper≤18) else if x.kind=7 then true
 else if x.kind=8 then decide (3≤x.oper∧x.oper≤5) else if x.kind=9 then decide (1≤x.cO∧x.cO≤4) else false
def EY(x:Px):Bool :=
 (x.oper==0||x.kind==5||x.kind==6||x.kind==8)&&(x.cO==0||x.kind==1||x.kind==9)&&(x.n==0||x.kind==1)&&(x.field==0||x.kind==3||x.kind==4)&&(x.name.toList==[]||x.kind==2)
def gO(x:Px):Bool:=zV x&&EY x&&decide (x.kids.length=arity x)
mutual
def formed:Px→Bool
 | .mk k o t n f s l q=>gO (.mk k o t n f s l q)&&gU l
def gU:List Px→Bool
 | []=>true
 | x::r=>formed x&&gU r
end
theorem er(x:Px):x.formed=(gO x&&gU x.kids):=by cases x;rw[formed];rfl
def level(x:Px):Int :=
 if x.kind=7 then 1 else if x.kind=5 then 7 else if x.kind=6 then (if x.oper=18 then 2 else if x.oper=17 then 3 else if 11≤x.oper then 4 else if 8≤x.oper then 6 else 5) else 8
def asks(x:Px)(i:Int):Int :=
 if x.kind=7 then (if i=0 then 2 else 1) else if x.kind=5 then 7 else if x.kind=6 then (if level x=4 then 5 else level x+i) else 1
def yu(x k:Px)(i:Int):Int:=(if level k<asks x i then 1 else 0)+(if x.kind=6 then 0 else if x.kind=7 then (if 0<i then 1 else 0) else 1)
mutual
def depth:Px→Int
 | .mk k o t n f s l q=>gK (.mk k o t n f s l q) 0 l 0
def gK(x:Px)(i:Int):List Px→Int→Int
 | [],most=>most
 | y::r,most=>gK x (i+1) r (max most (depth y+yu x y i))
end
theorem vG(x:Px):x.depth=gK x 0 x.kids 0:=by cases x;rw[depth];rfl
mutual
def size:Px→Int
 | .mk _ _ _ _ _ _ l _=>1+fu l
def fu:List Px→Int
 | []=>0
 | x::r=>size x+fu r
end
theorem size_eq(x:Px):x.size=1+fu x.kids:=by cases x;rw[size];rfl
mutual
def bare:Px→Px
 | .mk k o t n f s l _=>.mk k o t n f s (CV l) 0
def CV:List Px→List Px
 | []=>[]
 | x::r=>bare x::CV r
end
theorem DJ:∀l:List Px,CV l=l.map bare
 | []=>rfl
 | x::r=>by rw[CV,DJ r];rfl
def rP(x y:Px):Bool:=x.kind==y.kind&&(x.oper==y.oper&&(x.cO==y.cO&&(x.n==y.n&&(x.field==y.field&&(x.name.toList==y.name.toList&&true)))))
mutual
def iW:Px→Int→Int→Int
 | .mk _ _ _ _ _ s l _,n,d=>if 60000<d then 1048577 else fB l (n+1+s.size) (d+1)
def fB:List Px→Int→Int→Int
 | [],n,_=>n
 | x::r,n,d=>if n≤1048576 then fB r (iW x n d) d else n
end
theorem rQ(x:Px)(n d:Int):x.iW n d=if 60000<d then 1048577 else fB x.kids (n+1+x.name.size) (d+1):=by cases x;rw[iW];rfl
mutual
def nodes:Px→List Px
 | .mk k o t n f s l q=>.mk k o t n f s l q::iF l
def iF:List Px→List Px
 | []=>[]
 | x::r=>nodes x++iF r
end
theorem rR(x:Px):x.nodes=x::iF x.kids:=by cases x;rw[nodes];rfl
theorem size_pos:∀x:Px,1≤x.size:=by
 have hL:∀l:List Px,(∀x∈l,1≤size x)→0≤fu l:=by
  intro l
  induction l with
  | nil=>intro _;exact Int.le_refl _
  | cons x r ih =>
    intro h
    have:=h x (List.mem_cons_self ..)
    have:=ih fun y hy=>h y (List.mem_cons_of_mem _ hy)
    rw[fu];omega
 refine ind fun x h=>?_
 rw[size_eq]
 have:=hL x.kids h
 omega
theorem iG:∀l:List Px,0≤fu l
 | []=>Int.le_refl _
 | x::r=>by have:=size_pos x;have:=iG r;rw[fu];omega
theorem xF{x:Px}:∀{l:List Px},x∈l→x.size≤fu l
 | [],h=>by cases h
 | y::r,h=>by
   rw[fu]
   have:=size_pos y
   have:=iG r
   rcases List.mem_cons.1 h with rfl | h
   ·omega
   ·have:=xF h;omega
theorem xG:∀l:List Px,(l.length:Int)≤fu l
 | []=>Int.le_refl _
 | x::r=>by have:=size_pos x;have:=xG r;rw[fu,List.length_cons];omega
theorem DK(d:Int):∀(l:List Px),(∀x∈l,∀n d,iW x n d≤1048576→n+size x≤iW x n d)→∀n,fB l n d≤1048576→n+fu l≤fB l n d:=by
 intro l
 induction l with
 | nil=>intro _ n h;rw[fB] at h ⊢;rw[fu];omega
 | cons x r ih =>
   intro hx n h
   rw[fB] at h ⊢
   rw[fu]
   have hr:=ih fun y hy=>hx y (List.mem_cons_of_mem _ hy)
   split at h
   ·rename_i hn
    rw[if_pos hn]
    have h1:=hr _ h
    have h2:=iG r
    have h3:=hx x (List.mem_cons_self ..) n d (by omega)
    omega
   ·omega
theorem jd:∀(x:Px) (n d:Int),iW x n d≤1048576→n+size x≤iW x n d:=by
 refine ind fun x hk n d h=>?_
 rw[rQ] at h ⊢
 rw[size_eq]
 split at h
 ·omega
 ·rename_i hd
  rw[if_neg hd]
  have:=DK (d+1) x.kids hk _ h
  omega
theorem jf:∀(x:Px) (n d:Int),0≤n→0≤iW x n d:=by
 have hL:∀(d:Int) (l:List Px),(∀x∈l,∀n d,0≤n→0≤iW x n d)→∀n,0≤n→0≤fB l n d:=by
  intro d l
  induction l with
  | nil=>intro _ n h;rw[fB];exact h
  | cons x r ih =>
    intro hx n h
    rw[fB]
    split
    ·exact ih (fun y hy=>hx y (List.mem_cons_of_mem _ hy)) _ (hx x (List.mem_cons_self ..) n d h)
    ·exact h
 refine ind fun x hk n d h=>?_
 rw[rQ]
 split
 ·omega
 ·exact hL _ _ hk _ (by omega)
inductive ew:Px→Prop
 | mk {x:Px}:x.name.size≤140737488351232→x.kids.length≤140737488351232→(∀k∈x.kids,ew k)→ew x
theorem ew.name{x:Px}(h:ew x):x.name.size≤140737488351232:=by cases h;assumption
theorem ew.len{x:Px}(h:ew x):x.kids.length≤140737488351232:=by cases h;assumption
theorem ew.IU{x:Px}(h:ew x):∀k∈x.kids,ew k:=by cases h;assumption
end Px
abbrev rS(b:Nat)(x:Nd):Nat×Obj:=(b,Obj.cells #[.int .u8 x.kind,.int .u8 x.oper,.int .u8 x.cO,.int .i64 x.n,.int .u8 x.field,.string x.name,.slice x.a x.kids.length x.c,.int .i64 x.pos] 28 (0,0))
end Go.Lx
namespace Go.Lx
open Go.Vc Go.Proofs.Tryz
noncomputable abbrev P:Program:=Go.Proofs.Tryz.prog
def gL:List (Nat×List Sh):=[(4,[.one .bool]),(9,[.one .str]),(194,[.one .slc]),(223,[.one (.int .i64),.one .bool])]
def sY.V(c:Int)(I:cc)(F:b8)(Q:cd)  : Prop:=((decide (48≤c)=true→Q (.returned (.bool (decide (c≤57)))) I F)∧(decide (48≤c)=false→Q (.returned (.bool false)) I F))
theorem sY.vc{c:Int}{I:cc}{F:b8}{Q:cd}  (h:sY.V c I F Q):cf P 161 #[.int .u8 c] I F Q :=
 tw (A:=(an [1001] [] gL)) [] func161 h
def sZ.V(c:Int)(I:cc)(F:b8)(Q:cd)  : Prop:=((decide (97≤c)=true→Q (.returned (.bool (decide (c≤122)))) I F)∧(decide (97≤c)=false→Q (.returned (.bool false)) I F))
theorem sZ.vc{c:Int}{I:cc}{F:b8}{Q:cd}  (h:sZ.V c I F Q):cf P 147 #[.int .u8 c] I F Q :=
 tw (A:=(an [1001] [] gL)) [] func147 h
def pF.V(vt:Bool→Value)(c:Int)(I:cc)(F:b8)(Q:cd)  : Prop:=cf P 147 #[.int .u8 c] I F fun e1 I1 G1=>∃(r:Bool),e1=.returned (vt r)∧∃F1:b8,List.Perm G1 F1∧((r=true→Q (.returned (vt true)) I1 F1)∧(r=false→cf P 161 #[.int .u8 c] I1 F1 fun e2 I2 G2=>∃(r1:Bool),e2=.returned (vt r1)∧∃F2:b8,List.Perm G2 F2∧((r1=true→Q (.returned (vt true)) I2 F2)∧(r1=false→Q (.returned (vt (c==95))) I2 F2))))
theorem pF.vc{c:Int}{I:cc}{F:b8}{Q:cd}  (h:pF.V .bool c I F Q):cf P 149 #[.int .u8 c] I F Q :=
 tw (A:=(an [1001,1004] [147,161] gL)) [147,161] func149 h
def s8.V(vs:Bs→Value)(I:cc)(F:b8)(Q:cd)  : Prop:=∀(b:Nat) (I1:cc),cc.le I I1→I1 b=some (Obj.cells #[vs (⟨#[97,98,115]⟩:Bs),vs (⟨#[97,109,101,110,100]⟩:Bs),vs (⟨#[97,115]⟩:Bs),vs (⟨#[97,115,107]⟩:Bs),vs (⟨#[97,116]⟩:Bs),vs (⟨#[98,105,100]⟩:Bs),vs (⟨#[98,111,111,108]⟩:Bs),vs (⟨#[98,117,121]⟩:Bs),vs (⟨#[99,97,110,99,101,108]⟩:Bs),vs (⟨#[100,111]⟩:Bs),vs (⟨#[102,97,108,115,101]⟩:Bs),vs (⟨#[102,111,107]⟩:Bs),vs (⟨#[103,111,116,111]⟩:Bs),vs (⟨#[104,97,108,116]⟩:Bs),vs (⟨#[104,97,115]⟩:Bs),vs (⟨#[105,110,116]⟩:Bs),vs (⟨#[105,111,99]⟩:Bs),vs (⟨#[108,97,115,116]⟩:Bs),vs (⟨#[108,105,109,105,116]⟩:Bs),vs (⟨#[109,97,114,107,101,116]⟩:Bs),vs (⟨#[109,97,120]⟩:Bs),vs (⟨#[109,105,110]⟩:Bs),vs (⟨#[110,111,119]⟩:Bs),vs (⟨#[111,102]⟩:Bs),vs (⟨#[111,112,101,110]⟩:Bs),vs (⟨#[112,111,115,116]⟩:Bs),vs (⟨#[112,114,105,99,101]⟩:Bs),vs (⟨#[113,116,121]⟩:Bs),vs (⟨#[114,101,103]⟩:Bs),vs (⟨#[115,101,108,108]⟩:Bs),vs (⟨#[115,101,116]⟩:Bs),vs (⟨#[115,105,100,101]⟩:Bs),vs (⟨#[115,108,111,116]⟩:Bs),vs (⟨#[115,116,97,116,101]⟩:Bs),vs (⟨#[115,116,114,97,116,101,103,121]⟩:Bs),vs (⟨#[115,117,98,109,105,116]⟩:Bs),vs (⟨#[116,105,109,101]⟩:Bs),vs (⟨#[116,111]⟩:Bs),vs (⟨#[116,114,117,101]⟩:Bs),vs (⟨#[118,111,108,117,109,101]⟩:Bs),vs (⟨#[119,104,101,110]⟩:Bs)] 9 (0,0))→Q (.returned (.slice (some ⟨b,0,none⟩) 41 41)) I1 (F)
theorem s8.vc  {I:cc}{F:b8}{Q:cd}  (h:s8.V .string I F Q):cf P 160 #[] I F Q :=
 tw (A:=(cK [] [] [] gL [] [1000] [] [] [] [] [])) [] func160 h
def pG.V(x:Bs)(I:cc)(F:b8)(Q:cd)  : Prop:=Q (.returned (.bool (!(x.toList==x.toList)))) I (F)
theorem pG.vc{x:Bs}{I:cc}{F:b8}{Q:cd}  (h:pG.V x I F Q):cf P 171 #[.string x] I F Q :=
 tw (A:=(an [] [] gL)) [] func171 h
def rT.V(vt:Bool→Value)(x y:Bs)(I:cc)(F:b8)(Q:cd)  : Prop:=cy P 171 #[.string x] I (·) F vt fun r I1 F1=>(It r (cy P 171 #[.string y] I1 (·) F1 vt fun r1 I2 F2=>(It (!r1) (Q (.returned (vt true)) I2 F2) (Q (.returned (vt (Op.bytesLess x.toList y.toList))) I2 F2))) (Q (.returned (vt (Op.bytesLess x.toList y.toList))) I1 F1))
theorem rT.vc{x y:Bs}{I:cc}{F:b8}{Q:cd}  (h:rT.V .bool x y I F Q):cf P 166 #[.string x,.string y] I F Q :=
 tw (A:=(an [1001,1005] [171] gL)) [171] func166 h
def j8.V(x:Bs)(I:cc)(F:b8)(Q:cd)  : Prop:=Q (.returned (.bool (!(x.toList==x.toList)))) I (F)
theorem j8.vc{x:Bs}{I:cc}{F:b8}{Q:cd}  (h:j8.V x I F Q):cf P 167 #[.string x] I F Q :=
 tw (A:=(an [] [] gL)) [] func167 h
def eQ.V(vi:Int→Value)(vs:Bs→Value)(vt:Bool→Value)(wr:Int→Int)(c:OA)(b f:Nat)(a:Bs)(I:cc)(F:b8)(Q:cd)(Inv8:Int→Int→Nat→cc→b8→Prop):Prop:=(∃m:Nat,Inv8 0 (b:Int) m I F)∧∀(i j:Int) (m1:Nat) (I1:cc) (F1:b8),cc.le I I1→Inv8 i j m1 I1 F1→(Dt (i<j) ((0≤(wr (Int.fdiv (IntKind.wrap .u64 (wr (i+j))) (2 ^ 1)))∧(wr (Int.fdiv (IntKind.wrap .u64 (wr (i+j))) (2 ^ 1)))<(b:Int))∧∃ad:Addr,c=some ad∧∃(m2:Bs),Rd I1 F1 (ad.add (Int.toNat (wr (Int.fdiv (IntKind.wrap .u64 (wr (i+j))) (2 ^ 1)))*1)) [vs m2]∧cy P 166 #[vs m2,vs a] I1 (·) F1 vt fun r I2 F2=>(It r (∃m3:Nat,m3<m1∧Inv8 (wr ((wr (Int.fdiv (IntKind.wrap .u64 (wr (i+j))) (2 ^ 1)))+1)) j m3 I2 F2) (∃m4:Nat,m4<m1∧Inv8 i (wr (Int.fdiv (IntKind.wrap .u64 (wr (i+j))) (2 ^ 1))) m4 I2 F2))) (Dt (i<(b:Int)) ((0≤i∧i<(b:Int))∧∃d:Addr,c=some d∧∃(m5:Bs),Rd I1 F1 (d.add (Int.toNat i*1)) [vs m5]∧(It (m5.toList==a.toList) (Q (.returned (.tuple #[vi i,vt true])) I1 F1) ((0≤i∧i<(b:Int))∧∃e:Addr,c=some e∧∃(m6:Bs),Rd I1 F1 (e.add (Int.toNat i*1)) [vs m6]∧cy P 167 #[vs m6] I1 (·) F1 vt fun r1 I3 F3=>(It r1 (cy P 167 #[vs a] I3 (·) F3 vt fun r2 I4 F4=>Q (.returned (.tuple #[vi i,vt r2])) I4 F4) (Q (.returned (.tuple #[vi i,vt false])) I3 F3))))) (Q (.returned (.tuple #[vi i,vt false])) I1 F1)))
theorem eQ.vc{b:OA}{c d:Nat}{a:Bs}{I:cc}{F:b8}{Q:cd}(Inv8:Int→Int→Nat→cc→b8→Prop)(h:eQ.V (.int .i64) .string .bool (IntKind.wrap .i64) b c d a I F Q Inv8):cf P 159 #[.slice b c d,.string a] I F Q :=
 tw (A:=(cK [3002,5005,8003,8010,8016] [] [166,167] gL [(8,⟨[(7,(.int .i64)),(8,(.int .i64))],[],fun _ _ _ vs m I F=>match vs with | [.int _ y0,.int _ y1]=>Inv8 y0 y1 m I F | _=>False,[],[]⟩)] [] [] [] [] [] [])) [166,167] func159 h
def rU.V(s:Bs)(I:cc)(F:b8)(Q:cd)  : Prop:=cf P 160 #[] I F fun e1 I1 G1=>∃(a:OA) (b c:Nat),e1=.returned (.slice a b c)∧∃F1:b8,List.Perm G1 F1∧cf P 159 #[.slice a b c,.string s] I1 F1 fun e2 I2 G2=>∃(r0:Int) (r1:Bool),e2=.returned (.tuple #[.int .i64 r0,.bool r1])∧∃F2:b8,List.Perm G2 F2∧Q (.returned (.bool r1)) I2 (F2)
theorem rU.vc{s:Bs}{I:cc}{F:b8}{Q:cd}  (h:rU.V s I F Q):cf P 148 #[.string s] I F Q :=
 tw (A:=(an [] [159,160] gL)) [159,160] func148 h
def rV.V(vt:Bool→Value)(s:Bs)(I:cc)(F:b8)(Q:cd)(Inv14:Bool→Int→Nat→cc→b8→Prop):Prop:=(((s.toList==(⟨#[]⟩:Bs).toList)=true→Q (.returned (vt false)) I F)∧((s.toList==(⟨#[]⟩:Bs).toList)=false→((decide ((s.size:Int)>16)=true→Q (.returned (vt false)) I F)∧(decide ((s.size:Int)>16)=false→((0≤(0:Int)∧(0:Int)<(s.size:Int))∧cf P 147 (#[.int .u8 (bt s 0)]) I F fun e1 I1 G1=>∃(r:Bool),e1=.returned (vt r)∧∃F1:b8,List.Perm G1 F1∧(((!r)=true→Q (.returned (vt false)) I1 F1)∧((!r)=false→cf P 148 #[.string s] I1 F1 fun e2 I2 G2=>∃(r1:Bool),e2=.returned (vt r1)∧∃F2:b8,List.Perm G2 F2∧((r1=true→Q (.returned (vt false)) I2 F2)∧(r1=false→(∃m:Nat,Inv14 false 0 m I2 F2)∧∀(x:Bool) (x1:Int) (m1:Nat) (I3:cc) (F3:b8),cc.le I2 I3→Inv14 x x1 m1 I3 F3→((decide (x1<(s.size:Int))=true→((0≤x1∧x1<(s.size:Int))∧cf P 149 (#[.int .u8 (bt s x1)]) I3 F3 fun e3 I4 G3=>∃(r2:Bool),e3=.returned (vt r2)∧∃F4:b8,List.Perm G3 F4∧(((!r2)=true→Q (.returned (vt false)) I4 F4)∧((!r2)=false→(∃m2:Nat,m2<m1∧Inv14 x (IntKind.wrap .i64 (x1+1)) m2 I4 F4)))))∧(decide (x1<(s.size:Int))=false→Q (.returned (vt true)) I3 F3)))))))))))
theorem rV.vc{s:Bs}{I:cc}{F:b8}{Q:cd}(Inv14:Bool→Int→Nat→cc→b8→Prop)(h:rV.V .bool s I F Q Inv14):cf P 126 #[.string s] I F Q :=
 tw (A:=(cK [1001,1005,1011,1015,4000,6004] [] [147,148,149] gL [(14,⟨[(2,.bool),(23,(.int .i64))],[],fun _ _ _ vs m I F=>match vs with | [.bool y0,.int _ y1]=>Inv14 y0 y1 m I F | _=>False,[],[]⟩)] [] [] [] [] [] [])) [147,148,149] func126 h
def nr.V(c:Int)(I:cc)(F:b8)(Q:cd)  : Prop:=(Dt (c≥97) (Q (.returned (.bool (decide (c≤122)))) I F) (Q (.returned (.bool false)) I F))
theorem nr.vc{c:Int}{I:cc}{F:b8}{Q:cd}  (h:nr.V c I F Q):cf P 101 #[.int .u8 c] I F Q :=
 tw (A:=(an [1001] [] gL)) [] func101 h
def oU.V(c:Int)(I:cc)(F:b8)(Q:cd)  : Prop:=(Dt (c≥48) (Q (.returned (.bool (decide (c≤57)))) I F) (Q (.returned (.bool false)) I F))
theorem oU.vc{c:Int}{I:cc}{F:b8}{Q:cd}  (h:oU.V c I F Q):cf P 131 #[.int .u8 c] I F Q :=
 tw (A:=(an [1001] [] gL)) [] func131 h
def ns.V(vt:Bool→Value)(c:Int)(I:cc)(F:b8)(Q:cd)  : Prop:=cy P 101 #[.int .u8 c] I (·) F vt fun r I1 F1=>(It r (Q (.returned (vt true)) I1 F1) (cy P 131 #[.int .u8 c] I1 (·) F1 vt fun r1 I2 F2=>(It r1 (Q (.returned (vt true)) I2 F2) (Q (.returned (vt (c==95))) I2 F2))))
theorem ns.vc{c:Int}{I:cc}{F:b8}{Q:cd}  (h:ns.V .bool c I F Q):cf P 102 #[.int .u8 c] I F Q :=
 tw (A:=(an [1001,1004] [101,131] gL)) [101,131] func102 h
def oV.V(vs:Bs→Value)(I:cc)(F:b8)(Q:cd)  : Prop:=∀(b:Nat) (I1:cc),cc.le I I1→I1 b=some (Obj.cells #[vs (⟨#[97,98,115]⟩:Bs),vs (⟨#[97,109,101,110,100]⟩:Bs),vs (⟨#[97,115]⟩:Bs),vs (⟨#[97,115,107]⟩:Bs),vs (⟨#[97,116]⟩:Bs),vs (⟨#[98,105,100]⟩:Bs),vs (⟨#[98,111,111,108]⟩:Bs),vs (⟨#[98,117,121]⟩:Bs),vs (⟨#[99,97,110,99,101,108]⟩:Bs),vs (⟨#[100,111]⟩:Bs),vs (⟨#[102,97,108,115,101]⟩:Bs),vs (⟨#[102,111,107]⟩:Bs),vs (⟨#[103,111,116,111]⟩:Bs),vs (⟨#[104,97,108,116]⟩:Bs),vs (⟨#[104,97,115]⟩:Bs),vs (⟨#[105,110,116]⟩:Bs),vs (⟨#[105,111,99]⟩:Bs),vs (⟨#[108,97,115,116]⟩:Bs),vs (⟨#[108,105,109,105,116]⟩:Bs),vs (⟨#[109,97,114,107,101,116]⟩:Bs),vs (⟨#[109,97,120]⟩:Bs),vs (⟨#[109,105,110]⟩:Bs),vs (⟨#[110,111,119]⟩:Bs),vs (⟨#[111,102]⟩:Bs),vs (⟨#[111,112,101,110]⟩:Bs),vs (⟨#[112,111,115,116]⟩:Bs),vs (⟨#[112,114,105,99,101]⟩:Bs),vs (⟨#[113,116,121]⟩:Bs),vs (⟨#[114,101,103]⟩:Bs),vs (⟨#[115,101,108,108]⟩:Bs),vs (⟨#[115,101,116]⟩:Bs),vs (⟨#[115,105,100,101]⟩:Bs),vs (⟨#[115,108,111,116]⟩:Bs),vs (⟨#[115,116,97,116,101]⟩:Bs),vs (⟨#[115,116,114,97,116,101,103,121]⟩:Bs),vs (⟨#[115,117,98,109,105,116]⟩:Bs),vs (⟨#[116,105,109,101]⟩:Bs),vs (⟨#[116,111]⟩:Bs),vs (⟨#[116,114,117,101]⟩:Bs),vs (⟨#[118,111,108,117,109,101]⟩:Bs),vs (⟨#[119,104,101,110]⟩:Bs)] 9 (0,0))→Q (.returned (.slice (some ⟨b,0,none⟩) 41 41)) I1 (F)
theorem oV.vc  {I:cc}{F:b8}{Q:cd}  (h:oV.V .string I F Q):cf P 130 #[] I F Q :=
 tw (A:=(cK [] [] [] gL [] [1000] [] [] [] [] [])) [] func130 h
def nt.V(s:Bs)(I:cc)(F:b8)(Q:cd)(Inv8:Bool→Int→Nat→cc→b8→Prop):Prop:=dg P 130 #[] I (·) F fun e1 I1 G1=>∃(b:OA) (a c:Nat),e1=.returned (.slice b a c)∧G1 fun F1=>(∃m:Nat,Inv8 false 0 m I1 F1)∧∀(x:Bool) (i:Int) (m1:Nat) (I2:cc) (F2:b8),cc.le I1 I2→Inv8 x i m1 I2 F2→(Dt (i<(a:Int)) ((0≤i∧i<(a:Int))∧∃ad:Addr,b=some ad∧∃(m2:Bs),Rd I2 F2 (ad.add (Int.toNat i*1)) [.string m2]∧(It (m2.toList==s.toList) (Q (.returned (.bool true)) I2 F2) (∃m3:Nat,m3<m1∧Inv8 x (IntKind.wrap .i64 (i+1)) m3 I2 F2))) (Q (.returned (.bool false)) I2 F2))
theorem nt.vc{s:Bs}{I:cc}{F:b8}{Q:cd}(Inv8:Bool→Int→Nat→cc→b8→Prop)(h:nt.V s I F Q Inv8):cf P 100 #[.string s] I F Q :=
 tw (A:=(cK [3003,5005] [] [130] gL [(8,⟨[(2,.bool),(4,(.int .i64))],[],fun _ _ _ vs m I F=>match vs with | [.bool y0,.int _ y1]=>Inv8 y0 y1 m I F | _=>False,[],[]⟩)] [] [] [] [] [] [])) [130] func100 h
def nu.V(vt:Bool→Value)(s:Bs)(I:cc)(F:b8)(Q:cd)(Inv16:Bool→Int→Nat→cc→b8→Prop):Prop:=cy P 100 #[.string s] I (·) F vt fun r I1 F1=>(It r (Q (.returned (vt false)) I1 F1) (Dt ((s.size:Int)<1) (Q (.returned (vt false)) I1 F1) (Dt ((s.size:Int)>16) (Q (.returned (vt false)) I1 F1) ((0≤(0:Int)∧(0:Int)<(s.size:Int))∧cy P 101 (#[.int .u8 (bt s 0)]) I1 (·) F1 vt fun r1 I2 F2=>(It (!r1) (Q (.returned (vt false)) I2 F2) ((∃m:Nat,Inv16 false 0 m I2 F2)∧∀(x:Bool) (i:Int) (m1:Nat) (I3:cc) (F3:b8),cc.le I2 I3→Inv16 x i m1 I3 F3→(Dt (i<(s.size:Int)) ((0≤i∧i<(s.size:Int))∧cy P 102 (#[.int .u8 (bt s i)]) I3 (·) F3 vt fun r2 I4 F4=>(It (!r2) (Q (.returned (vt false)) I4 F4) (∃m2:Nat,m2<m1∧Inv16 x (IntKind.wrap .i64 (i+1)) m2 I4 F4))) (Q (.returned (vt true)) I3 F3))))))))
theorem nu.vc{s:Bs}{I:cc}{F:b8}{Q:cd}(Inv16:Bool→Int→Nat→cc→b8→Prop)(h:nu.V .bool s I F Q Inv16):cf P 61 #[.string s] I F Q :=
 tw (A:=(cK [2000,2004,2009,2015,5003,7004] [] [100,101,102] gL [(16,⟨[(2,.bool),(4,(.int .i64))],[],fun _ _ _ vs m I F=>match vs with | [.bool y0,.int _ y1]=>Inv16 y0 y1 m I F | _=>False,[],[]⟩)] [] [] [] [] [] [])) [100,101,102] func61 h
end Go.Lx
namespace Go.Lx
open Go.Vc
def dS(v:Value)(F:b8)(e:Ending)(I:cc)(G:b8):Prop:=e=.returned v∧G=F
theorem cf.ret{Pr:Program}{f:FuncId}{args:Array Value}{I:cc}{F:b8}{v:Value}{Q:Ending→cc→b8→Prop}(h:cf Pr f args I F (dS v F))
  (k:∀I',cc.le I I'→Q (.returned v) I' F):cf Pr f args I F Q :=
 h.mono fun e I' G hl ⟨he,hG⟩=>by subst he;subst hG;exact k I' hl
theorem BE(c:Int)(I:cc)(F:b8):cf P 161 #[.int .u8 c] I F (dS (.bool (dI c)) F):=by
 refine sY.vc ⟨fun h=>⟨?_,rfl⟩,fun h=>⟨?_,rfl⟩⟩<;>simp[dI,h]
theorem vH(c:Int)(I:cc)(F:b8):cf P 147 #[.int .u8 c] I F (dS (.bool (gI c)) F):=by
 refine sZ.vc ⟨fun h=>⟨?_,rfl⟩,fun h=>⟨?_,rfl⟩⟩<;>simp[gI,h]
theorem BF(c:Int)(I:cc)(F:b8):cf P 149 #[.int .u8 c] I F (dS (.bool (dE c)) F):=by
 refine pF.vc ?_
 unfold pF.V
 refine cf.ret (vH c I F) fun I1 h1=>⟨_,rfl,F,.refl _,fun hs=>⟨?_,rfl⟩,fun hs=>?_⟩
 ·simp[dE,hs]
 ·refine cf.ret (BE c I1 F) fun I2 h2=>⟨_,rfl,F,.refl _,fun hd=>⟨?_,rfl⟩,fun hd=>⟨?_,rfl⟩⟩
  ·simp[dE,hd]
  ·simp[dE,hs,hd]
def cW(s:ByteArray):Prop:=s.size≤140737488351232
def vI(x:ByteArray):List Value:=[.string x]
theorem BG(I:cc)(F:b8):cf P 160 #[] I F fun e I' G=>∃b:Nat,e=.returned (.slice (some ⟨b,0,none⟩) 41 41)∧Sl I' 1 vI (some ⟨b,0,none⟩) 41 dJ∧G=F:=by
 refine s8.vc fun b I1 hI hb=>⟨b,rfl, ?_,rfl⟩
 exact Sl.kU (f:=vI) (z:=1) (l:=dJ) (fun _=>rfl) hb (by kernel_rfl)
theorem BH(x:ByteArray)(I:cc)(F:b8):cf P 171 #[.string x] I F (dS (.bool false) F):=by
 refine pG.vc ?_
 unfold pG.V
 exact⟨by simp,rfl⟩
theorem zW(x:ByteArray)(I:cc)(F:b8):cf P 167 #[.string x] I F (dS (.bool false) F):=by
 refine j8.vc ?_
 unfold j8.V
 exact⟨by simp,rfl⟩
theorem DL(x y:ByteArray)(I:cc)(F:b8):cf P 166 #[.string x,.string y] I F (dS (.bool (Op.bytesLess x.toList y.toList)) F):=by
 refine rT.vc ?_
 unfold rT.V
 exact cf.ret (BH x I F) fun I1 h1=>⟨_,rfl,F,.refl _,fun h=>by (cases h),fun _=>⟨rfl,rfl⟩⟩
theorem qY:∀{a b c:List UInt8},Op.bytesLess a b=true→Op.bytesLess b c=true→Op.bytesLess a c=true
 | a,b,[],_,h=>by cases b<;>simp[Op.bytesLess] at h
 | [],b,z::c,_,_=>rfl
 | x::a,[],z::c,h,_=>by simp[Op.bytesLess] at h
 | x::a,y::b,z::c,h1,h2=>by
   simp only[Op.bytesLess,Bool.or_eq_true,Bool.and_eq_true,decide_eq_true_eq,beq_iff_eq] at h1 h2 ⊢
   rcases h1 with h1 | ⟨rfl,h1⟩
   ·rcases h2 with h2 | ⟨rfl,h2⟩
    ·exact .inl (UInt8.lt_trans h1 h2)
    ·exact .inl h1
   ·rcases h2 with h2 | ⟨rfl,h2⟩
    ·exact .inl h2
    ·exact .inr ⟨rfl,qY h1 h2⟩
def qA(x y:ByteArray):Bool:=Op.bytesLess x.toList y.toList
theorem yv:∀i j:Fin 41,i<j→qA (dJ[i]'(by simp[dJ])) (dJ[j]'(by simp[dJ]))=true:=by decide +kernel
theorem BI:∀i:Fin 41,qA (dJ[i]'(by simp[dJ])) (dJ[i]'(by simp[dJ]))=false:=by decide +kernel
theorem vJ{i j:Nat}{x y:ByteArray}(h:i<j)(hx:dJ[i]? = some x)(hy:dJ[j]? = some y):qA x y=true:=by
 have hj:j<41:=by
  rcases Nat.lt_or_ge j dJ.length with h | h
  ·exact h
  ·simp[List.getElem?_eq_none h] at hy
 have:=yv ⟨i,by omega⟩ ⟨j,hj⟩ h
 rw[List.getElem?_eq_getElem (by show i<41;omega)] at hx
 rw[List.getElem?_eq_getElem (by show j<41;omega)] at hy
 cases hx;cases hy;exact this
theorem DM{i:Nat}{x:ByteArray}(hx:dJ[i]? = some x):qA x x=false:=by
 have hj:i<41:=by
  rcases Nat.lt_or_ge i dJ.length with h | h
  ·exact h
  ·simp[List.getElem?_eq_none h] at hx
 have:=BI ⟨i,hj⟩
 rw[List.getElem?_eq_getElem (by show i<41;omega)] at hx
 cases hx;exact this
theorem Gq{n:Int}(h:0≤n∧n≤18446744073709551615):IntKind.wrap .u64 n=n:=by
 simp only[IntKind.wrap,IntKind.bits,IntKind.signed];simp;omega
theorem HK{i j:Int}(h0:0≤i)(h:i<j)(hj:j≤41):IntKind.wrap .i64 (Int.fdiv (IntKind.wrap .u64 (IntKind.wrap .i64 (i+j))) (2 ^ 1))=(i+j) / 2:=by
 rw[cY (n:=i+j) (by omega),Gq (n:=i+j) (by omega),Int.fdiv_eq_ediv_of_nonneg _ (by decide)]
 rw[show ((2:Int) ^ 1)=2 by rfl,cY (by omega)]
theorem zX{a:Option Addr}{c:Nat}{t:ByteArray}{I:cc}(hS:Sl I 1 vI a 41 dJ)(F:b8) :
  cf P 159 #[.slice a 41 c,.string t] I F fun e I' G=>∃i:Int,e=.returned (.tuple #[.int .i64 i,.bool (oT t)])∧G=F:=by
 refine eQ.vc (fun i j m I' F'=>0≤i∧i≤j∧j≤41∧m=(j-i).toNat∧(∀(k:Nat) (x:ByteArray),dJ[k]? = some x→(k:Int)<i→qA x t=true) ∧
  (∀(k:Nat) (x:ByteArray),dJ[k]? = some x→j≤k→qA x t=false)∧F'=F) ?_
 unfold eQ.V
 refine⟨⟨_,by omega,by decide,by decide,rfl,fun k x _ h=>by omega,fun k x hx h=>?_,rfl⟩,fun i j m I1 F1 hI ⟨g0,g1,g2,gm,gl,gr,gF⟩=>⟨fun hlt=>?_,fun hlt=>?_⟩⟩
 ·have:dJ.length=41:=rfl
  simp[List.getElem?_eq_none (l:=dJ) (i:=k) (by omega)] at hx
 ·have hlt:i<j:=by simpa using hlt
  subst gF
  have hS1:=hS.mono hI
  have hmid:=HK g0 hlt g2
  generalize IntKind.wrap .i64 (Int.fdiv (IntKind.wrap .u64 (IntKind.wrap .i64 (i+j))) (2 ^ 1))=h at hmid ⊢
  obtain⟨ad,x,ha,hx,hrd⟩:=hS1.at (i:=h) (by omega) (by omega)
  refine⟨⟨by omega,by show h<41;omega⟩,ad,ha,x,hrd F1, ?_⟩
  refine cf.ret (DL x t I1 F1) fun I2 h2=>⟨_,rfl,F1,.refl _,fun hc=>?_,fun hc=>?_⟩
  ·rw[cY (by omega)]
   refine⟨(j-(h+1)).toNat,by omega,by omega,by omega,g2,rfl,fun k y hy hk=>?_,gr,rfl⟩
   by_cases hkh:k=h.toNat
   ·subst hkh;rw[hx] at hy;cases hy;exact hc
   ·exact qY (vJ (by omega) hy hx) hc
  ·refine⟨(h-i).toNat,by omega,g0,by omega,by omega,rfl,gl,fun k y hy hk=>?_,rfl⟩
   by_cases hkh:k=h.toNat
   ·subst hkh;rw[hx] at hy;cases hy;exact hc
   ·cases hlk:qA y t with
    | false=>rfl
    | true=>have:=qY (vJ (i:=h.toNat) (by omega) hx hy) hlk;rw[hc] at this;cases this
 ·have hlt:¬i<j:=by simpa using hlt
  have hij:i=j:=by omega
  subst hij
  subst gF
  have hS1:=hS.mono hI
  have no:(∀(k:Nat) (x:ByteArray),dJ[k]? = some x→(k:Int)=i→(x.toList==t.toList)=false)→oT t=false:=by
   intro hi
   unfold oT
   rw[List.any_eq_false]
   intro x hx
   obtain⟨k,hk⟩:=List.mem_iff_getElem?.1 hx
   intro he
   have he':x.toList=t.toList:=by simpa using he
   have hirr:=DM hk
   unfold qA at hirr
   rcases Int.lt_or_le (k:Int) i with h | h
   ·have:=gl k x hk h
    unfold qA at this
    rw[←he',hirr] at this;cases this
   ·rcases Int.lt_or_eq_of_le h with h' | h'
    ·obtain⟨ad,y,ha,hy,hrd⟩:=hS1.at (i:=i) g0 (by
      have:k<41:=by
       rcases Nat.lt_or_ge k dJ.length with h | h
       ·exact h
       ·simp[List.getElem?_eq_none h] at hk
      show i<41
      omega)
     have h1:=vJ (i:=i.toNat) (j:=k) (by omega) hy hk
     have h2:=gr i.toNat y hy (by omega)
     unfold qA at h1 h2
     rw[he',h2] at h1;cases h1
    ·rw[hi k x hk h'.symm] at he;cases he
  refine⟨fun hlt=>?_,fun hlt=>?_⟩
  ·have hlt:i<41:=by simpa using hlt
   obtain⟨ad,x,ha,hx,hrd⟩:=hS1.at (i:=i) g0 (by exact hlt)
   refine⟨⟨g0,hlt⟩,ad,ha,x,hrd F1,fun he=>?_,fun he=>?_⟩
   ·refine⟨i, ?_,rfl⟩
    have:oT t=true:=by
     unfold oT
     exact List.any_eq_true.2 ⟨x,List.mem_of_getElem? hx,he⟩
    rw[this]
   ·have hno:=no fun k y hk hki=>by
     have:k=i.toNat:=by omega
     subst this
     rw[hx] at hk;cases hk;exact he
    refine⟨⟨g0,hlt⟩,ad,ha,x,hrd F1, ?_⟩
    refine cf.ret (zW x I1 F1) fun I2 h2=>⟨_,rfl,F1,.refl _,fun h=>by (cases h),fun _=>⟨i, ?_,rfl⟩⟩
    rw[hno]
  ·have hlt:¬i<41:=by simpa using hlt
   refine⟨i, ?_,rfl⟩
   rw[no fun k y hk hki=>by
    have:dJ.length=41:=rfl
    simp[List.getElem?_eq_none (l:=dJ) (i:=k) (by omega)] at hk]
theorem DN(t:ByteArray)(I:cc)(F:b8):cf P 148 #[.string t] I F (dS (.bool (oT t)) F):=by
 refine rU.vc ?_
 unfold rU.V
 refine (BG I F).mono fun e I1 G hI ⟨b,he,hS,hG⟩=>?_
 subst hG
 refine⟨_,_,_,he,_,.refl _, ?_⟩
 refine (zX hS G).mono fun e I2 G2 hI2 ⟨i,he,hG⟩=>?_
 subst hG
 exact⟨_,_,he,_,.refl _,rfl,rfl⟩
theorem nv(c:Int)(I:cc)(F:b8):cf P 101 #[.int .u8 c] I F (dS (.bool (gI c)) F):=by
 refine nr.vc ⟨fun h=>⟨?_,rfl⟩,fun h=>⟨?_,rfl⟩⟩<;>simp_all [gI]<;>omega
theorem oW(c:Int)(I:cc)(F:b8):cf P 131 #[.int .u8 c] I F (dS (.bool (dI c)) F):=by
 refine oU.vc ⟨fun h=>⟨?_,rfl⟩,fun h=>⟨?_,rfl⟩⟩<;>simp_all [dI]<;>omega
theorem qZ(c:Int)(I:cc)(F:b8):cf P 102 #[.int .u8 c] I F (dS (.bool (dE c)) F):=by
 refine ns.vc ?_
 unfold ns.V
 refine cf.ret (nv c I F) fun I1 h1=>⟨_,rfl,F,.refl _,fun hs=>⟨?_,rfl⟩,fun hs=>?_⟩
 ·simp[dE,hs]
 ·refine cf.ret (oW c I1 F) fun I2 h2=>⟨_,rfl,F,.refl _,fun hd=>⟨?_,rfl⟩,fun hd=>⟨?_,rfl⟩⟩
  ·simp[dE,hd]
  ·simp[dE,hs,hd]
theorem zY(I:cc)(F:b8):cf P 130 #[] I F fun e I' G=>∃b:Nat,e=.returned (.slice (some ⟨b,0,none⟩) 41 41)∧Sl I' 1 vI (some ⟨b,0,none⟩) 41 dJ∧G=F:=by
 refine oV.vc fun b I1 hI hb=>⟨b,rfl, ?_,rfl⟩
 exact Sl.kU (f:=vI) (z:=1) (l:=dJ) (fun _=>rfl) hb (by kernel_rfl)
theorem EZ{α:Type}{l:List α}{p:α→Bool}{k:Nat}{x:α}(h:l[k]? = some x):(l.drop k).any p=(p x||(l.drop (k+1)).any p):=by
 obtain⟨hk,rfl⟩:=List.getElem?_eq_some_iff.1 h
 rw[List.drop_eq_getElem_cons hk,List.any_cons]
theorem DO{α:Type}{l:List α}{p:α→Bool}{k:Nat}{x:α}(h:l[k]? = some x):(l.drop k).find? p=if p x then some x else (l.drop (k+1)).find? p:=by
 obtain⟨hk,rfl⟩:=List.getElem?_eq_some_iff.1 h
 rw[List.drop_eq_getElem_cons hk,List.find?_cons]
 split<;>simp_all
theorem q8(t:ByteArray)(I:cc)(F:b8):cf P 100 #[.string t] I F (dS (.bool (oT t)) F):=by
 refine nt.vc (fun x i m I' F'=>0≤i∧i≤41∧m=(41-i).toNat∧oT t=(dJ.drop i.toNat).any (fun w=>w.toList==t.toList)∧F'=F) ?_
 unfold nt.V
 refine (zY I F).mono fun e I1 G hI ⟨b,he,hS,hG⟩=>?_
 subst hG
 refine⟨_,_,_,he,_,.refl _,⟨_,by omega,by omega,rfl,rfl,rfl⟩,fun x i m I2 F2 hI2 ⟨g0,g1,gm,gw,gF⟩=>⟨fun hlt=>?_,fun hlt=>?_⟩⟩
 ·have hlt:i<41:=of_decide_eq_true hlt
  obtain⟨ad,w,ha,hw,hrd⟩:=(hS.mono hI2).at (i:=i) g0 hlt
  subst gF
  rw[EZ hw] at gw
  refine⟨⟨g0,hlt⟩,ad,ha,w,hrd _,fun h=>⟨?_,rfl⟩,fun h=>⟨(41-(i+1)).toNat,by omega, ?_⟩⟩
  ·rw[gw,h];rfl
  ·rw[cY (by omega)]
   refine⟨by omega,by omega,rfl, ?_,rfl⟩
   rw[gw,h,show (i+1).toNat=i.toNat+1 by omega];rfl
 ·have hlt:¬i<41:=of_decide_eq_false hlt
  refine⟨?_,gF⟩
  rw[gw,List.drop_eq_nil_of_le (by show 41≤_;omega)];rfl
theorem dF:(⟨#[]⟩:ByteArray).toList=[]:=by rw[Lib.toList_data]
theorem zZ{t:ByteArray}(h1:(t.toList==(⟨#[]⟩:ByteArray).toList)=false)(h2:¬(t.size:Int)>16)(h3:gI (bt t 0)=true)(h4:oT t=false):c9 t=decide (eX dE t 0=t.size):=by
 unfold c9
 rw[dF] at h1
 rw[h3,h4,h1,decide_eq_true (by omega:(t.size:Int)≤16)];simp
theorem xH{t:ByteArray}(I:cc)(F:b8):cf P 126 #[.string t] I F (dS (.bool (c9 t)) F):=by
 refine rV.vc (fun x i m I' F'=>0≤i∧i≤t.size∧m=(t.size-i).toNat∧eX dE t i=eX dE t 0∧F'=F) ?_
 unfold rV.V
 refine⟨fun h=>⟨?_,rfl⟩,fun h=>⟨fun h2=>⟨?_,rfl⟩,fun h2=>?_⟩⟩
 ·rw[show c9 t=false by unfold c9;rw[dF] at h;rw[h];rfl]
 ·rw[show c9 t=false by unfold c9;rw[decide_eq_false (by have:=of_decide_eq_true h2;omega:¬(t.size:Int)≤16)];simp]
 have h2:=of_decide_eq_false h2
 have hne:0<t.size:=by
  rcases Nat.eq_zero_or_pos t.size with h0 | h0
  ·have:t=⟨#[]⟩:=ByteArray.size_eq_zero_iff.1 h0
   rw[this,dF] at h;exact absurd h (by decide)
  ·exact h0
 refine⟨⟨by omega,by omega⟩, ?_⟩
 refine cf.ret (vH (bt t 0) I _) fun I1 hI1=>⟨_,rfl,F,.refl _,fun h3=>⟨?_,rfl⟩,fun h3=>?_⟩
 ·rw[show c9 t=false by unfold c9;rw[show gI (bt t 0)=false by simpa using h3];simp]
 have h3:gI (bt t 0)=true:=by simpa using h3
 refine cf.ret (DN t I1 _) fun I2 hI2=>⟨_,rfl,F,.refl _,fun h4=>⟨?_,rfl⟩,fun h4=>?_⟩
 ·rw[show c9 t=false by unfold c9;rw[h4];simp]
 rw[zZ h h2 h3 h4]
 refine⟨⟨_,by omega,by omega,rfl,rfl,rfl⟩,fun x i m I3 F3 hI3 ⟨g0,g1,gm,gr,gF⟩=>⟨fun hl=>⟨⟨g0,of_decide_eq_true hl⟩, ?_⟩,fun hl=>?_⟩⟩
 ·have hl:=of_decide_eq_true hl
  subst gF
  refine cf.ret (BF (bt t i) I3 _) fun I4 hI4=>⟨_,rfl,F3,.refl _,fun hc=>⟨?_,rfl⟩,fun hc=>?_⟩
  ·have hc:dE (bt t i)=false:=by simpa using hc
   rw[eL hl,if_neg (by rw[hc];exact Bool.false_ne_true)] at gr
   rw[decide_eq_false (by omega)]
  ·have hc:dE (bt t i)=true:=by simpa using hc
   rw[eL hl,if_pos hc] at gr
   rw[cY (by omega)]
   exact⟨(t.size-(i+1)).toNat,by omega,by omega,by omega,rfl,gr,rfl⟩
 ·have hl:=of_decide_eq_false hl
  refine⟨?_,gF⟩
  rw[pE (by omega)] at gr
  rw[decide_eq_true (by omega)]
theorem jg{t:ByteArray}(I:cc)(F:b8):cf P 61 #[.string t] I F (dS (.bool (c9 t)) F):=by
 refine nu.vc (fun x i m I' F'=>0≤i∧i≤t.size∧m=(t.size-i).toNat∧eX dE t i=eX dE t 0∧F'=F) ?_
 unfold nu.V
 refine cf.ret (q8 t I _) fun I1 hI1=>⟨_,rfl,F,.refl _,fun h4=>⟨?_,rfl⟩,fun h4=>⟨fun h1=>⟨?_,rfl⟩,fun h1=>⟨fun h2=>⟨?_,rfl⟩,fun h2=>?_⟩⟩⟩
 ·rw[show c9 t=false by unfold c9;rw[h4];simp]
 ·have h1:=of_decide_eq_true h1
  have:t=⟨#[]⟩:=ByteArray.size_eq_zero_iff.1 (by omega)
  rw[this,show c9 ⟨#[]⟩=false by unfold c9;rw[dF];rfl]
 ·rw[show c9 t=false by unfold c9;rw[decide_eq_false (by have:=of_decide_eq_true h2;omega:¬(t.size:Int)≤16)];simp]
 have h1:=of_decide_eq_false h1
 have h2:=of_decide_eq_false h2
 have h0:(t.toList==(⟨#[]⟩:ByteArray).toList)=false:=by
  rw[dF]
  have:t.toList≠[]:=fun e=>by
   have:t.toList.length=0:=by rw[e];rfl
   rw[Lib.toList_data] at this
   have h3:t.size=0:=by simpa using this
   omega
  simpa using this
 refine⟨⟨by omega,by omega⟩, ?_⟩
 refine cf.ret (nv (bt t 0) I1 _) fun I2 hI2=>⟨_,rfl,F,.refl _,fun h3=>⟨?_,rfl⟩,fun h3=>?_⟩
 ·rw[show c9 t=false by unfold c9;rw[show gI (bt t 0)=false by simpa using h3];simp]
 have h3:gI (bt t 0)=true:=by simpa using h3
 rw[zZ h0 h2 h3 h4]
 refine⟨⟨_,by omega,by omega,rfl,rfl,rfl⟩,fun x i m I3 F3 hI3 ⟨g0,g1,gm,gr,gF⟩=>⟨fun hl=>⟨⟨g0,of_decide_eq_true hl⟩, ?_⟩,fun hl=>?_⟩⟩
 ·have hl:=of_decide_eq_true hl
  subst gF
  refine cf.ret (qZ (bt t i) I3 _) fun I4 hI4=>⟨_,rfl,F3,.refl _,fun hc=>⟨?_,rfl⟩,fun hc=>?_⟩
  ·have hc:dE (bt t i)=false:=by simpa using hc
   rw[eL hl,if_neg (by rw[hc];exact Bool.false_ne_true)] at gr
   rw[decide_eq_false (by omega)]
  ·have hc:dE (bt t i)=true:=by simpa using hc
   rw[eL hl,if_pos hc] at gr
   rw[cY (by omega)]
   exact⟨(t.size-(i+1)).toNat,by omega,by omega,by omega,rfl,gr,rfl⟩
 ·have hl:=of_decide_eq_false hl
  refine⟨?_,gF⟩
  rw[pE (by omega)] at gr
  rw[decide_eq_true (by omega)]
def ir(n:Nat)(hs:Nat→b8):b8:=(List.range n).flatMap hs
theorem nw(n:Nat)(hs:Nat→b8):ir (n+1) hs=ir n hs++hs n:=by
 unfold ir;rw[List.range_succ,List.flatMap_append];simp
theorem tI{n:Nat}{hs hs':Nat→b8}(h:∀i,i<n→hs i=hs' i):ir n hs=ir n hs':=by
 induction n with
 | zero=>rfl
 | succ n ih=>rw[nw,nw,ih fun i hi=>h i (by omega),h n (by omega)]
theorem pH{n:Nat}{hs:Nat→b8}{i:Nat}(hi:i<n){x:Nat×Obj}(hx:x∈hs i):x∈ir n hs:=List.mem_flatMap.2 ⟨i,List.mem_range.2 hi,hx⟩
def E0(n:Nat)(a:Option Addr)(c:Nat)(A:b8):Prop :=
 ∃b cells e,a=some ⟨b,0,none⟩∧A=[(b,Obj.cells cells e (0,0))]∧c=n+2∧cells[n*8+7]? = some (.int .i64 (-771))∧cells[(n+1)*8+7]? = some (.int .i64 (-772))
inductive oI (E:Nat) (R:Bool):Nd→b8→Prop
 | mk {t:Nd} {A:b8} {hs:Nat→b8}:Acc 8 Nd.enc E t.a t.kids.length t.c t.kids A→(R=true→E0 t.kids.length t.a t.c A)→(∀(i:Nat) (k:Nd),t.kids[i]? = some k→oI E R k (hs i)) →
    oI E R t (A++ir t.kids.length hs)
theorem oI.ok{E:Nat}{R:Bool}{t:Nd}{H:b8}(h:oI E R t H):∀{I:cc} {G:b8},(∀x,x∈H→x∈G)→cC I G t:=by
 induction h with
 | @mk t A hs hA hR hk ih =>
   intro I G hG
   refine .mk (hA.yr Nd.nq I fun x hx=>hG x (List.mem_append_left _ hx)) fun k hkm=>?_
   obtain⟨i,hi,rfl⟩:=List.mem_iff_getElem.1 hkm
   exact ih i _ (List.getElem?_eq_getElem hi) fun x hx=>hG x (List.mem_append_right _ (pH hi hx))
end Go.Lx
namespace Go.Vc
end Go.Vc
namespace Go.Lx
open Go.Vc
end Go.Lx
namespace Go.Lx
open Go.Vc Go.Proofs.Tryz
def vK:List (Nat×List Sh):=[(3,[.one (.int .i64)]),(4,[.one .bool]),(26,[.one .slc]),(28,[.agg [(.int .u8),(.int .u8),(.int .u8),(.int .i64),(.int .u8),.str,.slc,(.int .i64)]])]
def gV.V(f:Nat→Nat×Obj)(vb vi:Int→Value)(wr:Int→Int)(v w x y z:Int)(t:Bs)(h:OA)(a u:Nat)(aa n b:Int)(I:cc)(F:b8)(Q:cd)(Inv16:Int→Int→Nat→cc→b8→Prop):Prop:=∀g:Nat,(Dt (b>60000) (Q (.returned (vi 1048577)) I F) ((∃m:Nat,Inv16 (wr ((wr (n+1))+(t.size:Int))) 0 m I F)∧∀(n1 i:Int) (m1:Nat) (I1:cc) (F1:b8),cc.le I I1→Inv16 n1 i m1 I1 F1→(Dt (i<(a:Int)) (Dt (n1≤1048576) ((0≤i∧i<(a:Int))∧∃ad:Addr,h=some ad∧∃(j k l o p:Int) (q:Bs) (c:OA) (d e:Nat) (s:Int),Rd I1 ((f g)::F1) (ad.add (Int.toNat i*8)) [vb j,vb k,vb l,vi o,vb p,.string q,.slice c d e,vi s]∧cy P 30 (#[.agg #[vb j,vb k,vb l,vi o,vb p,.string q,.slice c d e,vi s],vi n1,vi (wr (b+1))]) I1 ((f g)::·) F1 vi fun r I2 F2=>(∃m2:Nat,m2<m1∧Inv16 r (wr (i+1)) m2 I2 F2)) (Q (.returned (vi n1)) I1 F1)) (Q (.returned (vi n1)) I1 F1))))
theorem gV.vc{e f g i j:Int}{k:Bs}{a:OA}{c d:Nat}{l n o:Int}{I:cc}{F:b8}{Q:cd}(Inv16:Int→Int→Nat→cc→b8→Prop)(h:gV.V (fun b=>(b,Obj.cells #[.int .u8 e,.int .u8 f,.int .u8 g,.int .i64 i,.int .u8 j,.string k,.slice a c d,.int .i64 l] 28 (0,0))) (.int .u8) (.int .i64) (IntKind.wrap .i64) e f g i j k a c d l n o I F Q Inv16):cf P 30 #[.agg #[.int .u8 e,.int .u8 f,.int .u8 g,.int .i64 i,.int .u8 j,.string k,.slice a c d,.int .i64 l],.int .i64 n,.int .i64 o] I F Q :=
 tw (A:=(cK [2001,5004,5007] [] [30] vK [(16,⟨[(1,(.int .i64)),(7,(.int .i64))],[],fun _ _ _ vs m I F=>match vs with | [.int _ y0,.int _ y1]=>Inv16 y0 y1 m I F | _=>False,[],[]⟩)] [] [] [] [] [] [])) [30] func30 h
def iH.V(f g:Nat→Nat×Obj)(nV:Int→Int→Int→Int→Int→Bs→OA→Nat→Nat→Int→Value)(nL:Int→Int→Int→Int→Int→Bs→OA→Nat→Nat→Int→List Value)(vt:Bool→Value)(z aa ab ac ae:Int)(af:Bs)(w:OA)(a ay:Nat)(ag ah ai aj ak al:Int)(am:Bs)(y:OA)(b az:Nat)(an:Int)(I:cc)(F:b8)(Q:cd)(Inv14:Bool→Int→Nat→cc→b8→Prop):Prop:=∀l:Nat,∀n:Nat,(It (ag != an) (Q (.returned (vt false)) I F) (It (z != ah) (Q (.returned (vt false)) I F) (It (aa != ai) (Q (.returned (vt false)) I F) (It (ab != aj) (Q (.returned (vt false)) I F) (It (ac != ak) (Q (.returned (vt false)) I F) (It (ae != al) (Q (.returned (vt false)) I F) (It (!(af.toList==am.toList)) (Q (.returned (vt false)) I F) (It ((a:Int)!=(b:Int)) (Q (.returned (vt false)) I F) ((∃m:Nat,Inv14 false 0 m I F)∧∀(x:Bool) (i:Int) (m1:Nat) (I1:cc) (F1:b8),cc.le I I1→Inv14 x i m1 I1 F1→(Dt (i<(a:Int)) ((0≤i∧i<(a:Int))∧∃ad:Addr,w=some ad∧∃(ao ap aq ar au:Int) (av:Bs) (h:OA) (j k:Nat) (aw:Int),Rd I1 ((g l)::(f n)::F1) (ad.add (Int.toNat i*8)) (nL ao ap aq ar au av h j k aw)∧((0≤i∧i<(b:Int))∧∃ax:Addr,y=some ax∧∃(o p q s t:Int) (u:Bs) (c:OA) (d e:Nat) (v:Int),Rd I1 ((g l)::(f n)::F1) (ax.add (Int.toNat i*8)) (nL o p q s t u c d e v)∧∃(r:Bool),(cf P 33 #[nV ao ap aq ar au av h j k aw,nV o p q s t u c d e v] I1 ((g l)::(f n)::F1) fun e1 I2 G1=>e1=.returned (vt r)∧List.Perm G1 ((g l)::(f n)::F1))∧(It (!r) (Q (.returned (vt false)) I1 F1) (∃m2:Nat,m2<m1∧Inv14 x (IntKind.wrap .i64 (i+1)) m2 I1 F1)))) (Q (.returned (vt true)) I1 F1)))))))))))
theorem iH.vc{r u v w x:Int}{y:Bs}{d:OA}{e g:Nat}{z aa ab ac ad ae:Int}{af:Bs}{i:OA}{j p:Nat}{ag:Int}{I:cc}{F:b8}{Q:cd}(Inv14:Bool→Int→Nat→cc→b8→Prop)(h:iH.V (fun b=>(b,Obj.cells #[.int .u8 aa,.int .u8 ab,.int .u8 ac,.int .i64 ad,.int .u8 ae,.string af,.slice i j p,.int .i64 ag] 28 (0,0))) (fun b=>(b,Obj.cells #[.int .u8 r,.int .u8 u,.int .u8 v,.int .i64 w,.int .u8 x,.string y,.slice d e g,.int .i64 z] 28 (0,0))) (fun k o t n f s a l c q=>.agg #[.int .u8 k,.int .u8 o,.int .u8 t,.int .i64 n,.int .u8 f,.string s,.slice a l c,.int .i64 q]) (fun k o t n f s a l c q=>[.int .u8 k,.int .u8 o,.int .u8 t,.int .i64 n,.int .u8 f,.string s,.slice a l c,.int .i64 q]) .bool r u v w x y d e g z aa ab ac ad ae af i j p ag I F Q Inv14):cf P 33 #[.agg #[.int .u8 r,.int .u8 u,.int .u8 v,.int .i64 w,.int .u8 x,.string y,.slice d e g,.int .i64 z],.agg #[.int .u8 aa,.int .u8 ab,.int .u8 ac,.int .i64 ad,.int .u8 ae,.string af,.slice i j p,.int .i64 ag]] I F Q :=
 tw (A:=(cK [1004,1010,1017,1024,1031,1038,1045,1054,4004,7001] [] [33] vK [(14,⟨[(4,.bool),(5,(.int .i64))],[],fun _ _ _ vs m I F=>match vs with | [.bool y0,.int _ y1]=>Inv14 y0 y1 m I F | _=>False,[],[]⟩)] [] [] [] [] [] [])) [33] func33 h
def oX.V(c:Nat→Nat×Obj)(nV:Int→Int→Int→Int→Int→Bs→OA→Nat→Nat→Int→Value)(nO:Int→Int→Int→Int→Int→Bs→OA→Nat→Nat→Int→Obj)(vb:Int→Value)(vl:OA→Nat→Nat→Value)(aj ak al am an:Int)(ao:Bs)(p:OA)(a aq:Nat)(ap:Int)(I:cc)(F:b8)(Q:cd)(Inv8:OA→Nat→Nat→Int→Nat→cc→b8→Prop):Prop:=∀d:Nat,∀b:Nat,(∃m:Nat,Inv8 none 0 0 0 m I F)∧∀(l:OA) (n o:Nat) (i:Int) (m1:Nat) (I1:cc) (F1:b8),cc.le I I1→Inv8 l n o i m1 I1 F1→((decide (i<(a:Int))=true→((0≤i∧i<(a:Int))∧∃ad:Addr,p=some ad∧∃(q r s t u:Int) (w:Bs) (e:OA) (f g:Nat) (x:Int),Rd I1 ((c d)::(b,nO 0 0 0 0 0 (⟨#[]⟩:Bs) none 0 0 0)::F1) (ad.add (Int.toNat i*8)) [vb q,vb r,vb s,.int .i64 t,vb u,.string w,vl e f g,.int .i64 x]∧cf P 50 #[nV q r s t u w e f g x] I1 ((c d)::(b,nO 0 0 0 0 0 (⟨#[]⟩:Bs) none 0 0 0)::F1) fun e1 I2 G1=>∃(y z aa ab ac:Int) (ae:Bs) (h:OA) (j k:Nat) (af:Int),e1=.returned (nV y z aa ab ac ae h j k af)∧∃F2:b8,List.Perm G1 ((c d)::(b,nO 0 0 0 0 0 (⟨#[]⟩:Bs) none 0 0 0)::F2)∧∀(b1:Nat) (I3:cc),cc.le I2 I3→I3 b1=some (nO y z aa ab ac ae h j k af)→cF P (Builtin.append_ #[26,26] 26 #[vl l n o,vl (some ⟨b1,0,none⟩) 1 1]) I3 ((c d)::(b,nO 0 0 0 0 0 (⟨#[]⟩:Bs) none 0 0 0)::F2) fun v I4 G2=>∃(ag:OA) (ah ai:Nat),v=vl ag ah ai∧∃F3:b8,List.Perm G2 ((c d)::(b,nO 0 0 0 0 0 (⟨#[]⟩:Bs) none 0 0 0)::F3)∧(∃m2:Nat,m2<m1∧Inv8 ag ah ai (IntKind.wrap .i64 (i+1)) m2 I4 F3)))∧(decide (i<(a:Int))=false→Q (.returned (nV aj ak al am an ao l n o ap)) I1 F1))
theorem oX.vc{i j p r u:Int}{v:Bs}{d:OA}{e g:Nat}{w:Int}{I:cc}{F:b8}{Q:cd}(Inv8:OA→Nat→Nat→Int→Nat→cc→b8→Prop)(h:oX.V (fun b=>(b,Obj.cells #[.int .u8 i,.int .u8 j,.int .u8 p,.int .i64 r,.int .u8 u,.string v,.slice d e g,.int .i64 w] 28 (0,0))) (fun k o t n f s a l c q=>.agg #[.int .u8 k,.int .u8 o,.int .u8 t,.int .i64 n,.int .u8 f,.string s,.slice a l c,.int .i64 q]) (fun k o t n f s a l c q=>.cells #[.int .u8 k,.int .u8 o,.int .u8 t,.int .i64 n,.int .u8 f,.string s,.slice a l c,.int .i64 q] 28 (0,0)) (.int .u8) .slice i j p r u v d e g w I F Q Inv8):cf P 50 #[.agg #[.int .u8 i,.int .u8 j,.int .u8 p,.int .i64 r,.int .u8 u,.string v,.slice d e g,.int .i64 w]] I F Q :=
 tw (A:=(cK [3004] [] [50] vK [(8,⟨[(3,.slc),(4,(.int .i64))],[],fun _ _ _ vs m I F=>match vs with | [.slice y0 y1 y2,.int _ y3]=>Inv8 y0 y1 y2 y3 m I F | _=>False,[],[]⟩)] [5007] [] [] [] [] [])) [50] func50 h
def iI.V(k:Nat→Nat×Obj)(nV:Int→Int→Int→Int→Int→Bs→OA→Nat→Nat→Int→Value)(nO:Int→Int→Int→Int→Int→Bs→OA→Nat→Nat→Int→Obj)(nL:Int→Int→Int→Int→Int→Bs→OA→Nat→Nat→Int→List Value)(vb vi:Int→Value)(wr:Int→Int)(ao ap aq ar au:Int)(av:Bs)(u:OA)(a ax:Nat)(aw:Int)(I:cc)(F:b8)(Q:cd)(Inv8:OA→OA→Nat→Nat→Int→Nat→cc→b8→cc→b8→Prop):Prop:=∀d:Nat,∀b:Nat,cF P (Instr.makeSlice 26 (vi (wr ((a:Int)+2))) (vi (wr ((a:Int)+2)))) I ((k d)::(b,nO 0 0 0 0 0 (⟨#[]⟩:Bs) none 0 0 0)::F) fun v I1 G1=>∃(c:OA) (e f:Nat),v=.slice c e f∧∃F1:b8,List.Perm G1 ((k d)::(b,nO 0 0 0 0 0 (⟨#[]⟩:Bs) none 0 0 0)::F1)∧(∃m:Nat,Inv8 (some ⟨d,0,none⟩) c e f 0 m I1 F1 I1 F1)∧∀(i:Int) (m1:Nat) (I2:cc) (F2:b8),cc.le I1 I2→Inv8 (some ⟨d,0,none⟩) c e f i m1 I1 F1 I2 F2→(Dt (i<(a:Int)) ((0≤i∧i<(a:Int))∧∃ad:Addr,u=some ad∧∃(w y z aa ab:Int) (ac:Bs) (l:OA) (n o:Nat) (ae:Int),Rd I2 ((k d)::(b,nO 0 0 0 0 0 (⟨#[]⟩:Bs) none 0 0 0)::F2) (ad.add (Int.toNat i*8)) (nL w y z aa ab ac l n o ae)∧dg P 11 #[nV w y z aa ab ac l n o ae] I2 ((k d)::(b,nO 0 0 0 0 0 (⟨#[]⟩:Bs) none 0 0 0)::·) F2 fun e1 I3 G2=>∃(af ag ah ai aj:Int) (ak:Bs) (p:OA) (q r:Nat) (al:Int),e1=.returned (nV af ag ah ai aj ak p q r al)∧G2 fun F3=>((0≤i∧i<(e:Int))∧∃g:Addr,c=some g∧∃(cs:List Value) (el:Nat) (F4:b8),List.Perm F3 (((g.add (Int.toNat i*8)).block,Obj.cells cs.toArray el (0,0))::F4)∧(g.add (Int.toNat i*8)).spot=none∧(g.add (Int.toNat i*8)).off+8≤cs.length∧(∃m2:Nat,m2<m1∧Inv8 (some ⟨d,0,none⟩) c e f (wr (i+1)) m2 I1 F1 I3 (((g.add (Int.toNat i*8)).block,Obj.cells (cj (g.add (Int.toNat i*8)).off (nL af ag ah ai aj ak p q r al) cs).toArray el (0,0))::F4)))) ((0≤(a:Int)∧(a:Int)<(e:Int))∧∃h:Addr,c=some h∧∃(s:List Value) (am:Nat) (F5:b8),List.Perm F2 ((((h.add (Int.toNat ((a:Int))*8)).add 7).block,Obj.cells s.toArray am (0,0))::F5)∧((h.add (Int.toNat ((a:Int))*8)).add 7).spot=none∧((h.add (Int.toNat ((a:Int))*8)).add 7).off+1≤s.length∧((0≤(wr ((a:Int)+1))∧(wr ((a:Int)+1))<(e:Int))∧∃j:Addr,c=some j∧∃(t:List Value) (an:Nat) (F6:b8),List.Perm ((((h.add (Int.toNat ((a:Int))*8)).add 7).block,Obj.cells (cj ((h.add (Int.toNat ((a:Int))*8)).add 7).off [vi (-771)] s).toArray am (0,0))::F5) ((((j.add (Int.toNat (wr ((a:Int)+1))*8)).add 7).block,Obj.cells t.toArray an (0,0))::F6)∧((j.add (Int.toNat (wr ((a:Int)+1))*8)).add 7).spot=none∧((j.add (Int.toNat (wr ((a:Int)+1))*8)).add 7).off+1≤t.length∧((0≤(0:Int)∧(0:Int)≤(a:Int)∧(a:Int)≤(f:Int))∧Q (.returned (.agg #[vb ao,vb ap,vb aq,vi ar,vb au,.string av,.slice (if f=Int.toNat ((0:Int)) then c else Option.map (fun x=>x.add (Int.toNat ((0:Int))*8)) c) (Int.toNat ((a:Int))-Int.toNat ((0:Int))) (f-Int.toNat ((0:Int))),vi aw])) I2 (((((j.add (Int.toNat (wr ((a:Int)+1))*8)).add 7).block,Obj.cells (cj ((j.add (Int.toNat (wr ((a:Int)+1))*8)).add 7).off [vi (-772)] t).toArray an (0,0))::F6))))))
theorem iI.vc{i j p r u:Int}{v:Bs}{d:OA}{e g:Nat}{w:Int}{I:cc}{F:b8}{Q:cd}(Inv8:OA→OA→Nat→Nat→Int→Nat→cc→b8→cc→b8→Prop)(h:iI.V (fun b=>(b,Obj.cells #[.int .u8 i,.int .u8 j,.int .u8 p,.int .i64 r,.int .u8 u,.string v,.slice d e g,.int .i64 w] 28 (0,0))) (fun k o t n f s a l c q=>.agg #[.int .u8 k,.int .u8 o,.int .u8 t,.int .i64 n,.int .u8 f,.string s,.slice a l c,.int .i64 q]) (fun k o t n f s a l c q=>.cells #[.int .u8 k,.int .u8 o,.int .u8 t,.int .i64 n,.int .u8 f,.string s,.slice a l c,.int .i64 q] 28 (0,0)) (fun k o t n f s a l c q=>[.int .u8 k,.int .u8 o,.int .u8 t,.int .i64 n,.int .u8 f,.string s,.slice a l c,.int .i64 q]) (.int .u8) (.int .i64) (IntKind.wrap .i64) i j p r u v d e g w I F Q Inv8):cf P 11 #[.agg #[.int .u8 i,.int .u8 j,.int .u8 p,.int .i64 r,.int .u8 u,.string v,.slice d e g,.int .i64 w]] I F Q :=
 tw (A:=(cK [3004] [] [11] vK [(8,⟨[(4,(.int .i64))],[],fun fs I0 F0 vs m I F=>match fs,vs with | [.pointer y0,.slice y1 y2 y3],[.int _ y4]=>Inv8 y0 y1 y2 y3 y4 m I0 F0 I F | _,_=>False,[1,3],[]⟩)] [] [] [] [] [] [])) [11] func11 h
def iJ.V(d:Nat→Nat×Obj)(vb vi:Int→Value)(vt:Bool→Value)(wr:Int→Int)(u v w y z:Int)(aa:Bs)(b:OA)(a c:Nat)(ab:Int)(I:cc)(F:b8)(Q:cd)(Inv18:Bool→Int→Nat→cc→b8→Prop):Prop:=∀e:Nat,((0≤(0:Int)∧(0:Int)≤(wr ((a:Int)+2))∧(wr ((a:Int)+2))≤(c:Int))∧((0≤(a:Int)∧(a:Int)<((Int.toNat ((wr ((a:Int)+2)))-Int.toNat ((0:Int))):Int))∧∃ad:Addr,(if c=Int.toNat ((0:Int)) then b else Option.map (fun x=>x.add (Int.toNat ((0:Int))*8)) b)=some ad∧∃(m:Int),Rd I ((d e)::F) ((ad.add (Int.toNat ((a:Int))*8)).add 7) [vi m]∧(It (m != (-771)) (Q (.returned (vt false)) I F) ((0≤(wr ((a:Int)+1))∧(wr ((a:Int)+1))<((Int.toNat ((wr ((a:Int)+2)))-Int.toNat ((0:Int))):Int))∧∃s:Addr,(if c=Int.toNat ((0:Int)) then b else Option.map (fun x=>x.add (Int.toNat ((0:Int))*8)) b)=some s∧∃(m1:Int),Rd I ((d e)::F) ((s.add (Int.toNat (wr ((a:Int)+1))*8)).add 7) [vi m1]∧(It (m1 != (-772)) (Q (.returned (vt false)) I F) ((∃m2:Nat,Inv18 false 0 m2 I F)∧∀(x:Bool) (i:Int) (m3:Nat) (I1:cc) (F1:b8),cc.le I I1→Inv18 x i m3 I1 F1→(Dt (i<(a:Int)) ((0≤i∧i<(a:Int))∧∃t:Addr,b=some t∧∃(j k l n o:Int) (p:Bs) (f:OA) (g h:Nat) (q:Int),Rd I1 ((d e)::F1) (t.add (Int.toNat i*8)) [vb j,vb k,vb l,vi n,vb o,.string p,.slice f g h,vi q]∧cy P 34 #[.agg #[vb j,vb k,vb l,vi n,vb o,.string p,.slice f g h,vi q]] I1 ((d e)::·) F1 vt fun r I2 F2=>(It (!r) (Q (.returned (vt false)) I2 F2) (∃m4:Nat,m4<m3∧Inv18 x (wr (i+1)) m4 I2 F2))) (Q (.returned (vt true)) I1 F1))))))))
theorem iJ.vc{e f g i j:Int}{k:Bs}{a:OA}{c d:Nat}{l:Int}{I:cc}{F:b8}{Q:cd}(Inv18:Bool→Int→Nat→cc→b8→Prop)(h:iJ.V (fun b=>(b,Obj.cells #[.int .u8 e,.int .u8 f,.int .u8 g,.int .i64 i,.int .u8 j,.string k,.slice a c d,.int .i64 l] 28 (0,0))) (.int .u8) (.int .i64) .bool (IntKind.wrap .i64) e f g i j k a c d l I F Q Inv18):cf P 34 #[.agg #[.int .u8 e,.int .u8 f,.int .u8 g,.int .i64 i,.int .u8 j,.string k,.slice a c d,.int .i64 l]] I F Q :=
 tw (A:=(cK [3005,3013,6002,9001] [] [34] vK [(18,⟨[(2,.bool),(5,(.int .i64))],[],fun _ _ _ vs m I F=>match vs with | [.bool y0,.int _ y1]=>Inv18 y0 y1 m I F | _=>False,[],[]⟩)] [] [] [] [] [] [])) [34] func34 h
end Go.Lx
namespace Go.Lx
open Go.Vc
theorem cC.cons{I:cc}{F:b8}{t:Nd}(h:cC I F t){x:Nat×Obj}:cC I (x::F) t:=h.mono (cc.le_refl I) fun _ h=>List.mem_cons_of_mem _ h
theorem fS{l:List Nd}{i:Nat}{x:Nd}(h:l[i]? = some x):(l.drop i).map Nd.px=x.px::(l.drop (i+1)).map Nd.px:=by
 obtain⟨hk,rfl⟩:=List.getElem?_eq_some_iff.1 h
 rw[List.drop_eq_getElem_cons hk,List.map_cons]
theorem mF{l:List Nd}{i:Nat}(h:l.length≤i):(l.drop i).map Nd.px=[]:=by rw[List.drop_eq_nil_of_le h];rfl
theorem jh:∀(t:Nd),t.px.ew→∀(n d:Int) (I:cc) (F:b8),cC I F t→0≤n→n≤1000000000000000000→0≤d→d≤60001 →
  cf P 30 #[t.v,.int .i64 n,.int .i64 d] I F (dS (.int .i64 (t.px.iW n d)) F):=by
 refine Nd.ind fun t ih hs n d I F hok hn0 hn1 hd0 hd1=>?_
 have hnm:=hs.name
 have hln:=hs.len
 rw[Nd.fF] at hnm
 rw[Nd.ja] at hln
 refine gV.vc (fun n1 i m I' F'=>0≤i∧i≤t.kids.length∧m=(t.kids.length-i).toNat∧0≤n1∧Px.fB (t.kids.map Nd.px) (n+1+t.name.size) (d+1)=Px.fB ((t.kids.drop i.toNat).map Nd.px) n1 (d+1)∧F'=F) ?_
 unfold gV.V
 intro b_x
 rw[Px.rQ,Nd.fF,Nd.db]
 have hw:IntKind.wrap .i64 (IntKind.wrap .i64 (n+1)+(t.name.size:Int))=n+1+t.name.size:=by rw[cY (n:=n+1) (by omega),cY (by omega)]
 refine⟨fun h=>⟨?_,rfl⟩,fun h=>⟨⟨_,by omega,by omega,rfl, ?_, ?_,rfl⟩,fun n1 i m I1 F1 hI ⟨g0,g1,gm,gn,gw,gF⟩=>?_⟩⟩
 ·rw[if_pos (of_decide_eq_true h)]
 ·rw[hw];omega
 ·rw[hw];rfl
 have hd:¬60000<d:=of_decide_eq_false h
 rw[if_neg hd]
 subst gF
 refine⟨fun hlt=>⟨fun hle=>?_,fun hle=>⟨?_,rfl⟩⟩,fun hlt=>⟨?_,rfl⟩⟩
 ·have hlt:=of_decide_eq_true hlt
  have hle:=of_decide_eq_true hle
  obtain⟨ad,x,had,hx,hrd,hxo,hxm⟩:=((hok.mono hI fun _ h=>h).cons (x:=(b_x,.cells t.enc.toArray 28 (0,0)))).kids.at g0 hlt
  refine⟨⟨g0,hlt⟩,ad,had,_,_,_,_,_,_,_,_,_,_,hrd, ?_⟩
  rw[cY (n:=d+1) (by omega)]
  refine cf.ret (ih x hxm (hs.IU x.px (by rw[Nd.db];exact List.mem_map_of_mem hxm)) n1 (d+1) I1 _ hxo gn (by omega) (by omega) (by omega)) fun I2 hI2=>⟨_,rfl,F1,.refl _,(t.kids.length-(i+1)).toNat,by omega, ?_⟩
  rw[cY (n:=i+1) (by omega)]
  refine⟨by omega,by omega,rfl, ?_, ?_,rfl⟩
  ·exact Px.jf _ _ _ gn
  ·rw[gw,fS hx,Px.fB,if_pos hle,show (i+1).toNat=i.toNat+1 by omega]
 ·have hlt:=of_decide_eq_true hlt
  have hle:=of_decide_eq_false hle
  obtain⟨ad,x,had,hx,hrd,hxo,hxm⟩:=hok.kids.at g0 hlt
  rw[gw,fS hx,Px.fB,if_neg hle]
 ·have hlt:=of_decide_eq_false hlt
  rw[gw,mF (by omega),Px.fB]
theorem _root_.Go.Vc.cf.xI{v:Value}{F:b8}{Pr:Program}{f:FuncId}{args:Array Value}{I:cc}(h:cf Pr f args I F (dS v F)):cf Pr f args I F fun e I' G=>e=.returned v∧G.Perm F :=
 h.mono fun e I' G _ ⟨h1,h2⟩=>⟨h1,by rw[h2]⟩
theorem fT{t x:Nd}(h:x∈t.kids){n:Int}(hs:t.px.size≤n):x.px.size≤n:=by
 have h1:=Px.xF (List.mem_map_of_mem (f:=Nd.px) h)
 rw[Px.size_eq,Nd.db] at hs
 omega
theorem iK{t:Nd}{n:Int}(hs:t.px.size≤n):(t.kids.length:Int)<n:=by
 have h1:=Px.xG (t.kids.map Nd.px)
 rw[Px.size_eq,Nd.db] at hs
 rw[List.length_map] at h1
 omega
def iU:Nd:=.mk 0 0 0 0 0 ⟨#[]⟩ none 0 [] 0
def Made(E:Nat)(R:Bool)(x:Px)(F:b8)(e:Ending)(I:cc)(G:b8):Prop:=∃(t':Nd) (H:b8),e=.returned t'.v∧t'.px=x∧oI E R t' H∧G.Perm (H++F)
theorem xd{f:Px→Px}{l:List Nd}{i:Nat}{x:Nd}(h:l[i]? = some x):((l.take (i+1)).map Nd.px).map f=((l.take i).map Nd.px).map f++[f x.px]:=by
 obtain⟨hk,rfl⟩:=List.getElem?_eq_some_iff.1 h
 rw[List.take_succ_eq_append_getElem hk,List.map_append,List.map_append];rfl
end Go.Lx
namespace Go.Lx
open Go.Vc Go.Proofs.Tryz
def ny:List (Nat×List Sh):=[(3,[.one (.int .i64)]),(4,[.one .bool]),(28,[.agg [(.int .u8),(.int .u8),(.int .u8),(.int .i64),(.int .u8),.str,.slc,(.int .i64)]])]
def nz.V(vt:Bool→Value)(i a b c d:Int)(e:Bs)(f:OA)(g h:Nat)(j:Int)(I:cc)(F:b8)(Q:cd)  : Prop:=∀k:Nat,(It (a==0) (It (b==0) (It (c==0) (It (d==0) (Q (.returned (vt (e.toList==(⟨#[]⟩:Bs).toList))) I F) (Q (.returned (vt false)) I F)) (Q (.returned (vt false)) I F)) (Q (.returned (vt false)) I F)) (Q (.returned (vt false)) I F))
theorem nz.vc{d e f g i:Int}{j:Bs}{a:OA}{b c:Nat}{k:Int}{I:cc}{F:b8}{Q:cd}  (h:nz.V .bool d e f g i j a b c k I F Q):cf P 62 #[.agg #[.int .u8 d,.int .u8 e,.int .u8 f,.int .i64 g,.int .u8 i,.string j,.slice a b c,.int .i64 k]] I F Q :=
 tw (A:=(an [1002,1006,1011,1016] [] ny)) [] func62 h
def jy.V(nO:Int→Int→Int→Int→Int→Bs→OA→Nat→Nat→Int→Obj)(vb:Int→Value)(vt:Bool→Value)(f g a b h:Int)(i:Bs)(d:OA)(c e:Nat)(j:Int)(I:cc)(F:b8)(Q:cd)(Inv4:Bool→cc→b8→Prop):Prop:=∀k:Nat,((It (a==1) (Inv4 (decide (b≥0)) I F) (It (a==2) (Inv4 (decide (b≥0)) I F) (It (a==3) (Inv4 (decide (b≥0)) I F) (It (a==4) (Inv4 (decide (b≥0)) I F) (It (a==5) (It (b==0) (Inv4 true I F) (Inv4 (b==1) I F)) (It (a==6) (It (b==1) (Inv4 true I F) (Inv4 (b==2) I F)) (Inv4 false I F))))))))∧∀(ok:Bool) (I1:cc) (F1:b8),cc.le I I1→Inv4 ok I1 F1→(It ok (cy P 62 #[.agg #[vb f,vb g,vb 0,.int .i64 0,vb h,.string i,.slice d c e,.int .i64 j]] I1 ((k,nO f g 0 0 h i d c e j)::·) F1 vt fun r I2 F2=>(It r (Q (.returned (vt ((c:Int)==0))) I2 F2) (Q (.returned (vt false)) I2 F2))) (Q (.returned (vt false)) I1 F1))
theorem jy.vc{g i j p r:Int}{u:Bs}{b:OA}{d e:Nat}{v:Int}{I:cc}{F:b8}{Q:cd}(Inv4:Bool→cc→b8→Prop)(h:jy.V (fun k o t n f s a l c q=>.cells #[.int .u8 k,.int .u8 o,.int .u8 t,.int .i64 n,.int .u8 f,.string s,.slice a l c,.int .i64 q] 28 (0,0)) (.int .u8) .bool g i j p r u b d e v I F Q Inv4):cf P 60 #[.agg #[.int .u8 g,.int .u8 i,.int .u8 j,.int .i64 p,.int .u8 r,.string u,.slice b d e,.int .i64 v]] I F Q :=
 tw (A:=(cK [3000,4000,5000,6000,8000,9002,10000,11002,14000,14003] [] [62] ny [(4,⟨[(3,.bool)],[],fun _ _ _ vs m I F=>match vs with | [.bool y0]=>Inv4 y0 I F | _=>False,[],[]⟩)] [] [] [] [] [] [])) [62] func60 h
def pI.V(w:Nat→Nat×Obj)(nV:Int→Int→Int→Int→Int→Bs→OA→Nat→Nat→Int→Value)(nO:Int→Int→Int→Int→Int→Bs→OA→Nat→Nat→Int→Obj)(vt:Bool→Value)(a e g h f:Int)(i:Bs)(b:OA)(c d:Nat)(j:Int)(I:cc)(F:b8)(Q:cd)(Inv6:Bool→Int→Bool→Int→Int→Int→Int→Int→Bs→OA→Nat→Nat→Int→cc→b8→Prop):Prop:=∀v:Nat,((It (a==1) (cy P 60 #[nV a e g h f i b c d j] I ((w v)::·) F vt fun r I1 F1=>Q (.returned (vt r)) I1 F1) (It (a==2) (cy P 61 #[.string i] I ((w v)::·) F vt fun r1 I2 F2=>Inv6 false 0 r1 a e g h f (⟨#[]⟩:Bs) b c d j I2 F2) (It (a==3) (Dt (f≥1) (Inv6 false 0 (decide (f≤6)) a e g h 0 i b c d j I F) (Inv6 false 0 false a e g h 0 i b c d j I F)) (It (a==4) (Dt (f≥1) (Inv6 false 0 (decide (f≤3)) a e g h 0 i b c d j I F) (Inv6 false 0 false a e g h 0 i b c d j I F)) (It (a==5) (It (e==1) (Inv6 false 1 true a 0 g h f i b c d j I F) (Inv6 false 1 (e==2) a 0 g h f i b c d j I F)) (It (a==6) (Dt (e≥6) (Inv6 false 2 (decide (e≤18)) a 0 g h f i b c d j I F) (Inv6 false 2 false a 0 g h f i b c d j I F)) (It (a==7) (Inv6 false 3 true a e g h f i b c d j I F) (It (a==8) (Dt (e≥3) (It (e==3) (Inv6 false 1 (decide (e≤5)) a 0 g h f i b c d j I F) (Inv6 false 2 (decide (e≤5)) a 0 g h f i b c d j I F)) (It (e==3) (Inv6 false 1 false a 0 g h f i b c d j I F) (Inv6 false 2 false a 0 g h f i b c d j I F))) (It (a==9) (Dt (g≥1) (Inv6 false 1 (decide (g≤4)) a e 0 h f i b c d j I F) (Inv6 false 1 false a e 0 h f i b c d j I F)) (Inv6 false 0 false a e g h f i b c d j I F)))))))))))∧∀(x:Bool) (y:Int) (ok:Bool) (n o p q s:Int) (t:Bs) (l:OA) (k m:Nat) (u:Int) (I3:cc) (F3:b8),cc.le I I3→Inv6 x y ok n o p q s t l k m u I3 F3→(It ok (cy P 62 #[nV n o p q s t l k m u] I3 ((v,nO n o p q s t l k m u)::·) F3 vt fun r2 I4 F4=>(It r2 (Q (.returned (vt ((k:Int)==y))) I4 F4) (Q (.returned (vt false)) I4 F4))) (Q (.returned (vt false)) I3 F3))
theorem pI.vc{i j p r u:Int}{v:Bs}{d:OA}{e g:Nat}{w:Int}{I:cc}{F:b8}{Q:cd}(Inv6:Bool→Int→Bool→Int→Int→Int→Int→Int→Bs→OA→Nat→Nat→Int→cc→b8→Prop)(h:pI.V (fun b=>(b,Obj.cells #[.int .u8 i,.int .u8 j,.int .u8 p,.int .i64 r,.int .u8 u,.string v,.slice d e g,.int .i64 w] 28 (0,0))) (fun k o t n f s a l c q=>.agg #[.int .u8 k,.int .u8 o,.int .u8 t,.int .i64 n,.int .u8 f,.string s,.slice a l c,.int .i64 q]) (fun k o t n f s a l c q=>.cells #[.int .u8 k,.int .u8 o,.int .u8 t,.int .i64 n,.int .u8 f,.string s,.slice a l c,.int .i64 q] 28 (0,0)) .bool i j p r u v d e g w I F Q Inv6):cf P 36 #[.agg #[.int .u8 i,.int .u8 j,.int .u8 p,.int .i64 r,.int .u8 u,.string v,.slice d e g,.int .i64 w]] I F Q :=
 tw (A:=(cK [4000,6000,9000,10002,12000,13002,15000,16002,19000,20002,23000,26000,27002,29002,32000,33002,36000,36003] [] [60,61,62] ny [(6,⟨[(2,.bool),(3,(.int .i64)),(4,.bool)],[(0,[(.int .u8),(.int .u8),(.int .u8),(.int .i64),(.int .u8),.str,.slc,(.int .i64)])],fun _ _ _ vs m I F=>match vs with | [.bool y0,.int _ y1,.bool y2,.int _ y3,.int _ y4,.int _ y5,.int _ y6,.int _ y7,.string y8,.slice y9 y10 y11,.int _ y12]=>Inv6 y0 y1 y2 y3 y4 y5 y6 y7 y8 y9 y10 y11 y12 I F | _=>False,[],[]⟩)] [] [] [] [] [] [])) [60,61,62] func36 h
def j9.V(b:Nat→Nat×Obj)(nV:Int→Int→Int→Int→Int→Bs→OA→Nat→Nat→Int→Value)(vb:Int→Value)(vt:Bool→Value)(s t u v w:Int)(x:Bs)(d:OA)(a h:Nat)(y:Int)(I:cc)(F:b8)(Q:cd)(Inv8:Bool→Int→Nat→cc→b8→Prop):Prop:=∀c:Nat,cy P 36 #[nV s t u v w x d a h y] I ((b c)::·) F vt fun r I1 F1=>(∃m:Nat,Inv8 r 0 m I1 F1)∧∀(ok:Bool) (i:Int) (m1:Nat) (I2:cc) (F2:b8),cc.le I1 I2→Inv8 ok i m1 I2 F2→(Dt (i<(a:Int)) (It ok ((0≤i∧i<(a:Int))∧∃ad:Addr,d=some ad∧∃(j k l n o:Int) (p:Bs) (e:OA) (f g:Nat) (q:Int),Rd I2 ((b c)::F2) (ad.add (Int.toNat i*8)) [vb j,vb k,vb l,.int .i64 n,vb o,.string p,.slice e f g,.int .i64 q]∧cy P 15 #[nV j k l n o p e f g q] I2 ((b c)::·) F2 vt fun r1 I3 F3=>(∃m2:Nat,m2<m1∧Inv8 r1 (IntKind.wrap .i64 (i+1)) m2 I3 F3)) (Q (.returned (vt ok)) I2 F2)) (Q (.returned (vt ok)) I2 F2))
theorem j9.vc{i j p r u:Int}{v:Bs}{d:OA}{e g:Nat}{w:Int}{I:cc}{F:b8}{Q:cd}(Inv8:Bool→Int→Nat→cc→b8→Prop)(h:j9.V (fun b=>(b,Obj.cells #[.int .u8 i,.int .u8 j,.int .u8 p,.int .i64 r,.int .u8 u,.string v,.slice d e g,.int .i64 w] 28 (0,0))) (fun k o t n f s a l c q=>.agg #[.int .u8 k,.int .u8 o,.int .u8 t,.int .i64 n,.int .u8 f,.string s,.slice a l c,.int .i64 q]) (.int .u8) .bool i j p r u v d e g w I F Q Inv8):cf P 15 #[.agg #[.int .u8 i,.int .u8 j,.int .u8 p,.int .i64 r,.int .u8 u,.string v,.slice d e g,.int .i64 w]] I F Q :=
 tw (A:=(cK [3004,3006] [] [15,36] ny [(8,⟨[(3,.bool),(4,(.int .i64))],[],fun _ _ _ vs m I F=>match vs with | [.bool y0,.int _ y1]=>Inv8 y0 y1 m I F | _=>False,[],[]⟩)] [] [] [] [] [] [])) [15,36] func15 h
def lD.V(vi:Int→Value)(b a f g h:Int)(i:Bs)(c:OA)(d e:Nat)(j:Int)(I:cc)(F:b8)(Q:cd)  : Prop:=∀k:Nat,(It (b==7) (Q (.returned (vi 1)) I F) (It (b==5) (Q (.returned (vi 7)) I F) (It (b==6) (It (a==18) (Q (.returned (vi 2)) I F) (It (a==17) (Q (.returned (vi 3)) I F) (Dt (a≥11) (Q (.returned (vi 4)) I F) (Dt (a≤7) (Q (.returned (vi 5)) I F) (Q (.returned (vi 6)) I F))))) (Q (.returned (vi 8)) I F))))
theorem lD.vc{d e f g i:Int}{j:Bs}{a:OA}{b c:Nat}{k:Int}{I:cc}{F:b8}{Q:cd}  (h:lD.V (.int .i64) d e f g i j a b c k I F Q):cf P 168 #[.agg #[.int .u8 d,.int .u8 e,.int .u8 f,.int .i64 g,.int .u8 i,.string j,.slice a b c,.int .i64 k]] I F Q :=
 tw (A:=(an [2000,4000,6000,7002,9002,11002,13002] [] ny)) [] func168 h
def nC.V(nO:Int→Int→Int→Int→Int→Bs→OA→Nat→Nat→Int→Obj)(vb vi:Int→Value)(a e f g h:Int)(j:Bs)(b:OA)(c d:Nat)(k i:Int)(I:cc)(F:b8)(Q:cd)  : Prop:=∀l:Nat,cy P 168 #[.agg #[vb a,vb e,vb f,vi g,vb h,.string j,.slice b c d,vi k]] I ((l,nO a e f g h j b c d k)::·) F vi fun r I1 F1=>(It (a==7) (It (i==0) (Q (.returned (vi 2)) I1 F1) (Q (.returned (vi 1)) I1 F1)) (It (a==5) (Q (.returned (vi 7)) I1 F1) (It (a==6) (It (r==4) (Q (.returned (vi 5)) I1 F1) (Q (.returned (vi (IntKind.wrap .i64 (r+i)))) I1 F1)) (Q (.returned (vi 1)) I1 F1))))
theorem nC.vc{g j m p r:Int}{u:Bs}{b:OA}{d e:Nat}{v i:Int}{I:cc}{F:b8}{Q:cd}  (h:nC.V (fun k o t n f s a l c q=>.cells #[.int .u8 k,.int .u8 o,.int .u8 t,.int .i64 n,.int .u8 f,.string s,.slice a l c,.int .i64 q] 28 (0,0)) (.int .u8) (.int .i64) g j m p r u b d e v i I F Q):cf P 169 #[.agg #[.int .u8 g,.int .u8 j,.int .u8 m,.int .i64 p,.int .u8 r,.string u,.slice b d e,.int .i64 v],.int .i64 i] I F Q :=
 tw (A:=(an [3000,4001,7000,9000,10001] [168] ny)) [168] func169 h
def gW.V(a:Nat→Nat×Obj)(nV:Int→Int→Int→Int→Int→Bs→OA→Nat→Nat→Int→Value)(vb vi:Int→Value)(q s t u v:Int)(w:Bs)(c:OA)(d h:Nat)(x i:Int)(I:cc)(F:b8)(Q:cd)  : Prop:=∀b:Nat,((0≤i∧i<(d:Int))∧∃ad:Addr,c=some ad∧∃(j k l m n:Int) (o:Bs) (e:OA) (f g:Nat) (p:Int),Rd I ((a b)::F) (ad.add (Int.toNat i*8)) [vb j,vb k,vb l,vi m,vb n,.string o,.slice e f g,vi p]∧∃(r:Int),(cf P 168 #[nV j k l m n o e f g p] I ((a b)::F) fun e1 I1 G1=>e1=.returned (vi r)∧List.Perm G1 ((a b)::F))∧∃(r1:Int),(cf P 169 #[nV q s t u v w c d h x,vi i] I ((a b)::F) fun e2 I2 G2=>e2=.returned (vi r1)∧List.Perm G2 ((a b)::F))∧Q (.returned (.bool (decide (r<r1)))) I F)
theorem gW.vc{j m p r u:Int}{v:Bs}{d:OA}{e g:Nat}{w i:Int}{I:cc}{F:b8}{Q:cd}  (h:gW.V (fun b=>(b,Obj.cells #[.int .u8 j,.int .u8 m,.int .u8 p,.int .i64 r,.int .u8 u,.string v,.slice d e g,.int .i64 w] 28 (0,0))) (fun k o t n f s a l c q=>.agg #[.int .u8 k,.int .u8 o,.int .u8 t,.int .i64 n,.int .u8 f,.string s,.slice a l c,.int .i64 q]) (.int .u8) (.int .i64) j m p r u v d e g w i I F Q):cf P 163 #[.agg #[.int .u8 j,.int .u8 m,.int .u8 p,.int .i64 r,.int .u8 u,.string v,.slice d e g,.int .i64 w],.int .i64 i] I F Q :=
 tw (A:=(an [] [168,169] ny)) [168,169] func163 h
def lE.V(d:Nat→Nat×Obj)(nV:Int→Int→Int→Int→Int→Bs→OA→Nat→Nat→Int→Value)(vb vi:Int→Value)(wr:Int→Int)(b al am an ao:Int)(ap:Bs)(f:OA)(c k:Nat)(aq:Int)(I:cc)(F:b8)(Q:cd)(Inv8:Int→Int→Nat→cc→b8→Prop):Prop:=∀e:Nat,(∃m:Nat,Inv8 0 0 m I F)∧∀(a i:Int) (m1:Nat) (I1:cc) (F1:b8),cc.le I I1→Inv8 a i m1 I1 F1→(Dt (i<(c:Int)) ((0≤i∧i<(c:Int))∧∃ad:Addr,f=some ad∧∃(l n o p q:Int) (s:Bs) (g:OA) (h j:Nat) (t:Int),Rd I1 ((d e)::F1) (ad.add (Int.toNat i*8)) [vb l,vb n,vb o,vi p,vb q,.string s,.slice g h j,vi t]∧cy P 152 #[nV l n o p q s g h j t] I1 ((d e)::·) F1 vi fun r I2 F2=>cy P 163 #[nV b al am an ao ap f c k aq,vi i] I2 ((d e)::·) F2 .bool fun r1 I3 F3=>(It r1 (It (b==5) (Dt ((wr ((wr (r+1))+1))>a) (∃m2:Nat,m2<m1∧Inv8 (wr ((wr (r+1))+1)) (wr (i+1)) m2 I3 F3) (∃m3:Nat,m3<m1∧Inv8 a (wr (i+1)) m3 I3 F3)) (It (b==8) (Dt ((wr ((wr (r+1))+1))>a) (∃m4:Nat,m4<m1∧Inv8 (wr ((wr (r+1))+1)) (wr (i+1)) m4 I3 F3) (∃m5:Nat,m5<m1∧Inv8 a (wr (i+1)) m5 I3 F3)) (It (b==9) (Dt ((wr ((wr (r+1))+1))>a) (∃m6:Nat,m6<m1∧Inv8 (wr ((wr (r+1))+1)) (wr (i+1)) m6 I3 F3) (∃m7:Nat,m7<m1∧Inv8 a (wr (i+1)) m7 I3 F3)) (It (b==7) (Dt (i>0) (Dt ((wr ((wr (r+1))+1))>a) (∃m8:Nat,m8<m1∧Inv8 (wr ((wr (r+1))+1)) (wr (i+1)) m8 I3 F3) (∃m9:Nat,m9<m1∧Inv8 a (wr (i+1)) m9 I3 F3)) (Dt ((wr (r+1))>a) (∃u:Nat,u<m1∧Inv8 (wr (r+1)) (wr (i+1)) u I3 F3) (∃v:Nat,v<m1∧Inv8 a (wr (i+1)) v I3 F3))) (Dt ((wr (r+1))>a) (∃w:Nat,w<m1∧Inv8 (wr (r+1)) (wr (i+1)) w I3 F3) (∃x:Nat,x<m1∧Inv8 a (wr (i+1)) x I3 F3)))))) (It (b==5) (Dt ((wr (r+1))>a) (∃y:Nat,y<m1∧Inv8 (wr (r+1)) (wr (i+1)) y I3 F3) (∃z:Nat,z<m1∧Inv8 a (wr (i+1)) z I3 F3)) (It (b==8) (Dt ((wr (r+1))>a) (∃aa:Nat,aa<m1∧Inv8 (wr (r+1)) (wr (i+1)) aa I3 F3) (∃ab:Nat,ab<m1∧Inv8 a (wr (i+1)) ab I3 F3)) (It (b==9) (Dt ((wr (r+1))>a) (∃ac:Nat,ac<m1∧Inv8 (wr (r+1)) (wr (i+1)) ac I3 F3) (∃ae:Nat,ae<m1∧Inv8 a (wr (i+1)) ae I3 F3)) (It (b==7) (Dt (i>0) (Dt ((wr (r+1))>a) (∃af:Nat,af<m1∧Inv8 (wr (r+1)) (wr (i+1)) af I3 F3) (∃ag:Nat,ag<m1∧Inv8 a (wr (i+1)) ag I3 F3)) (Dt (r>a) (∃ah:Nat,ah<m1∧Inv8 r (wr (i+1)) ah I3 F3) (∃ai:Nat,ai<m1∧Inv8 a (wr (i+1)) ai I3 F3))) (Dt (r>a) (∃aj:Nat,aj<m1∧Inv8 r (wr (i+1)) aj I3 F3) (∃ak:Nat,ak<m1∧Inv8 a (wr (i+1)) ak I3 F3)))))))) (Q (.returned (vi a)) I1 F1))
theorem lE.vc{i j p r u:Int}{v:Bs}{d:OA}{e g:Nat}{w:Int}{I:cc}{F:b8}{Q:cd}(Inv8:Int→Int→Nat→cc→b8→Prop)(h:lE.V (fun b=>(b,Obj.cells #[.int .u8 i,.int .u8 j,.int .u8 p,.int .i64 r,.int .u8 u,.string v,.slice d e g,.int .i64 w] 28 (0,0))) (fun k o t n f s a l c q=>.agg #[.int .u8 k,.int .u8 o,.int .u8 t,.int .i64 n,.int .u8 f,.string s,.slice a l c,.int .i64 q]) (.int .u8) (.int .i64) (IntKind.wrap .i64) i j p r u v d e g w I F Q Inv8):cf P 152 #[.agg #[.int .u8 i,.int .u8 j,.int .u8 p,.int .i64 r,.int .u8 u,.string v,.slice d e g,.int .i64 w]] I F Q :=
 tw (A:=(cK [3004,7000,9002,9006,9011,9016,9019,11002] [] [152,163] ny [(8,⟨[(3,(.int .i64)),(4,(.int .i64))],[],fun _ _ _ vs m I F=>match vs with | [.int _ y0,.int _ y1]=>Inv8 y0 y1 m I F | _=>False,[],[]⟩)] [] [] [] [] [] [])) [152,163] func152 h
def gX.V(a:Nat→Nat×Obj)(nV:Int→Int→Int→Int→Int→Bs→OA→Nat→Nat→Int→Value)(vi:Int→Value)(f g h i j:Int)(k:Bs)(b:OA)(c d:Nat)(l:Int)(I:cc)(F:b8)(Q:cd)  : Prop:=∀e:Nat,cy P 15 #[nV f g h i j k b c d l] I ((a e)::·) F .bool fun r I1 F1=>(It (!r) (Q (.returned (vi 120)) I1 F1) (cy P 152 #[nV f g h i j k b c d l] I1 ((a e)::·) F1 vi fun r1 I2 F2=>(Dt (r1>24) (Q (.returned (vi 122)) I2 F2) (Q (.returned (vi 0)) I2 F2))))
theorem gX.vc{i j m p r:Int}{u:Bs}{d:OA}{e g:Nat}{v:Int}{I:cc}{F:b8}{Q:cd}  (h:gX.V (fun b=>(b,Obj.cells #[.int .u8 i,.int .u8 j,.int .u8 m,.int .i64 p,.int .u8 r,.string u,.slice d e g,.int .i64 v] 28 (0,0))) (fun k o t n f s a l c q=>.agg #[.int .u8 k,.int .u8 o,.int .u8 t,.int .i64 n,.int .u8 f,.string s,.slice a l c,.int .i64 q]) (.int .i64) i j m p r u d e g v I F Q):cf P 137 #[.agg #[.int .u8 i,.int .u8 j,.int .u8 m,.int .i64 p,.int .u8 r,.string u,.slice d e g,.int .i64 v]] I F Q :=
 tw (A:=(an [2001,4002] [15,152] ny)) [15,152] func137 h
end Go.Lx
namespace Go.Lx
open Go.Vc
def zB(o ty n f:Int)(s:ByteArray):Bool:=o==0&&(ty==0&&(n==0&&(f==0&&(s.toList==(⟨#[]⟩:ByteArray).toList))))
theorem s9(k o ty n f:Int)(s:ByteArray)(a:Option Addr)(l c:Nat)(q:Int)(I:cc)(F:b8) :
  cf P 62 #[.agg #[.int .u8 k,.int .u8 o,.int .u8 ty,.int .i64 n,.int .u8 f,.string s,.slice a l c,.int .i64 q]] I F (dS (.bool (zB o ty n f s)) F):=by
 refine nz.vc ?_
 unfold nz.V
 intro b_n
 unfold zB
 refine⟨fun h=>⟨fun h1=>⟨fun h2=>⟨fun h3=>⟨?_,rfl⟩,fun h3=>⟨?_,rfl⟩⟩,fun h2=>⟨?_,rfl⟩⟩,fun h1=>⟨?_,rfl⟩⟩,fun h=>⟨?_,rfl⟩⟩<;>simp[*]
theorem yw(t:Nd)(I:cc)(F:b8):cf P 60 #[t.v] I F (dS (.bool (t.px.DI&&(zB t.oper 0 0 t.field t.name&&decide (t.kids.length=0)))) F):=by
 refine jy.vc (fun ok I' F'=>ok=t.px.DI∧F'=F) ?_
 unfold jy.V
 intro b_n
 unfold Px.DI
 rw[Nd.gJ,Nd.xb]
 refine⟨⟨fun h=>⟨?_,rfl⟩,fun h1=>⟨fun h=>⟨?_,rfl⟩,fun h2=>⟨fun h=>⟨?_,rfl⟩,fun h3=>⟨fun h=>⟨?_,rfl⟩,fun h4=>⟨fun h=>⟨fun h'=>⟨?_,rfl⟩,fun h'=>⟨?_,rfl⟩⟩,fun h5=>⟨fun h=>⟨fun h'=>⟨?_,rfl⟩,fun h'=>⟨?_,rfl⟩⟩,fun h6=>⟨?_,rfl⟩⟩⟩⟩⟩⟩⟩,fun ok I1 F1 hI ⟨g1,gF⟩=>?_⟩
 ·have h:t.cO=1:=by simpa using h
  simp[h]
 ·have h:t.cO=2:=by simpa using h
  simp[h]
 ·have h:t.cO=3:=by simpa using h
  simp[h]
 ·have h:t.cO=4:=by simpa using h
  simp[h]
 ·have h:t.cO=5:=by simpa using h
  have h':t.n=0:=by simpa using h'
  simp[h,h']
 ·have h:t.cO=5:=by simpa using h
  have h':t.n≠0:=by simpa using h'
  rw[if_neg (by omega),if_pos h,Bool.eq_iff_iff];simp[h']
 ·have h:t.cO=6:=by simpa using h
  have h':t.n=1:=by simpa using h'
  simp[h,h']
 ·have h:t.cO=6:=by simpa using h
  have h':t.n≠1:=by simpa using h'
  rw[if_pos h,Bool.eq_iff_iff];simp[h']
 ·have e1:t.cO≠1:=by simpa using h1
  have e2:t.cO≠2:=by simpa using h2
  have e3:t.cO≠3:=by simpa using h3
  have e4:t.cO≠4:=by simpa using h4
  have e5:t.cO≠5:=by simpa using h5
  have e6:t.cO≠6:=by simpa using h6
  rw[if_neg e6,if_neg e5,if_neg (by omega)]
 ·subst gF
  rw[←g1]
  refine⟨fun h=>cf.ret (s9 t.kind t.oper 0 0 t.field t.name t.a t.kids.length t.c t.pos I1 _) fun I2 h2=>⟨_,rfl,F1,.refl _,fun h'=>⟨?_,rfl⟩,fun h'=>⟨?_,rfl⟩⟩,fun h=>⟨?_,rfl⟩⟩
  ·rw[h,h'];congr 2;rw[Bool.eq_iff_iff];simp
  ·rw[h'];simp
  ·rw[h];simp
theorem E1(t:Nd)(I:cc)(F:b8):cf P 36 #[t.v] I F (dS (.bool t.px.gO) F):=by
 refine pI.vc (fun x kids ok k o ty n f s a l c q I' F'=>(ok&&(zB o ty n f s&&decide (l=kids.toNat)))=t.px.gO∧0≤kids∧F'=F) ?_
 unfold pI.V
 intro b_n
 unfold Px.gO Px.zV Px.EY Px.arity
 simp only[Nd.cG,Nd.eP,Nd.gJ,Nd.xb,Nd.gQ,Nd.fF,Nd.ja]
 refine⟨⟨fun h=>?_,fun h1=>⟨fun h=>?_,fun h2=>⟨fun h=>⟨fun h'=>⟨?_,by decide,by trivial⟩,fun h'=>⟨?_,by decide,by trivial⟩⟩,fun h3=>⟨fun h=>⟨fun h'=>⟨?_,by decide,by trivial⟩,fun h'=>⟨?_,by decide,by trivial⟩⟩,fun h4=>⟨fun h=>⟨fun h'=>⟨?_,by decide,by trivial⟩,fun h'=>⟨?_,by decide,by trivial⟩⟩,
  fun h5=>⟨fun h=>⟨fun h'=>⟨?_,by decide,by trivial⟩,fun h'=>⟨?_,by decide,by trivial⟩⟩,fun h6=>⟨fun h=>⟨?_,by decide,by trivial⟩,fun h7=>⟨fun h=>⟨fun h'=>⟨fun h''=>⟨?_,by decide,by trivial⟩,fun h''=>⟨?_,by decide,by trivial⟩⟩,fun h'=>⟨fun h''=>⟨?_,by decide,by trivial⟩,fun h''=>⟨?_,by decide,by trivial⟩⟩⟩,fun h8=>⟨fun h=>⟨fun h'=>⟨?_,by decide,by trivial⟩,fun h'=>⟨?_,by decide,by trivial⟩⟩,fun h9=>⟨?_,by decide,by trivial⟩⟩⟩⟩⟩⟩⟩⟩⟩⟩,fun x kids ok k o ty n f s a l c q I3 F3 hI ⟨g1,gk,gF⟩=>?_⟩
 ·refine cf.ret (yw t I _) fun I2 h2=>⟨_,rfl,F,.refl _, ?_,by trivial⟩
  have hk:t.kind=1:=by simpa using h
  simp[hk,zB,dF,Bool.and_assoc]
 ·refine cf.ret (jg I _) fun I2 h2=>⟨_,rfl,F,.refl _, ?_,by decide,by trivial⟩
  have hk:t.kind=2:=by simpa using h
  simp[hk,zB,dF,Bool.and_assoc]
 all_goals first
  | (subst gF
     rw[←g1]
     refine⟨fun h=>cf.ret (s9 k o ty n f s a l c q I3 _) fun I2 h2=>⟨_,rfl,F3,.refl _,fun h'=>⟨?_,by trivial⟩,fun h'=>⟨?_,by trivial⟩⟩,fun h=>⟨?_,by trivial⟩⟩
     ·rw[h,h'];congr 2;rw[Bool.eq_iff_iff];simp;omega
     ·rw[h'];simp
     ·rw[h];simp)
  | (simp only[beq_iff_eq] at h
     try simp only[decide_eq_true_eq,decide_eq_false_iff_not,beq_iff_eq,beq_eq_false_iff_ne] at h'
     try simp only[decide_eq_true_eq,decide_eq_false_iff_not,beq_iff_eq,beq_eq_false_iff_ne] at h''
     simp[*,zB,dF,Bool.and_assoc]
     done)
  | skip
 ·have h:t.kind=5:=by simpa using h
  have h':t.oper≠1:=by simpa using h'
  have:decide (t.oper=1∨t.oper=2)=(t.oper==2):=by rw[Bool.eq_iff_iff];simp[h']
  simp[h,this,zB,dF,Bool.and_assoc]
 ·exfalso
  have h':=of_decide_eq_false h'
  have h'':t.oper=3:=by simpa using h''
  omega
 ·have e1:t.kind≠1:=by simpa using h1
  have e2:t.kind≠2:=by simpa using h2
  have e3:t.kind≠3:=by simpa using h3
  have e4:t.kind≠4:=by simpa using h4
  have e5:t.kind≠5:=by simpa using h5
  have e6:t.kind≠6:=by simpa using h6
  have e7:t.kind≠7:=by simpa using h7
  have e8:t.kind≠8:=by simpa using h8
  have e9:t.kind≠9:=by simpa using h9
  simp[e1,e2,e3,e4,e5,e6,e7,e8,e9]
theorem jJ:∀(t:Nd),t.px.size≤1048576→∀(I:cc) (F:b8),cC I F t→cf P 15 #[t.v] I F (dS (.bool t.px.formed) F):=by
 refine Nd.ind fun t ih hs I F ht=>?_
 have hln:=iK hs
 refine j9.vc (fun ok i m I' F'=>0≤i∧i≤t.kids.length∧m=(t.kids.length-i).toNat∧t.px.formed=(ok&&Px.gU ((t.kids.drop i.toNat).map Nd.px))∧F'=F) ?_
 unfold j9.V
 intro b_n
 refine cf.ret (E1 t I _) fun I1 hI1=>⟨_,rfl,F,.refl _,⟨_,by omega,by omega,rfl, ?_,rfl⟩,fun ok i m I2 F2 hI ⟨g0,g1,gm,gf,gF⟩=>⟨fun hlt=>⟨fun hok=>?_,fun hok=>⟨?_,gF⟩⟩,fun hlt=>⟨?_,gF⟩⟩⟩
 ·rw[Px.er,Nd.db];rfl
 ·have hlt:=of_decide_eq_true hlt
  subst gF
  obtain⟨ad,x,had,hx,hrd,hxo,hxm⟩:=((ht.mono (cc.le_trans hI1 hI) fun _ h=>h).cons (x:=(b_n,.cells t.enc.toArray 28 (0,0)))).kids.at g0 hlt
  refine⟨⟨g0,hlt⟩,ad,had,_,_,_,_,_,_,_,_,_,_,hrd,cf.ret (ih x hxm (fT hxm hs) I2 _ hxo) fun I3 hI3=>⟨_,rfl,F2,.refl _,(t.kids.length-(i+1)).toNat,by omega, ?_⟩⟩
  rw[cY (n:=i+1) (by omega)]
  refine⟨by omega,by omega,rfl, ?_,rfl⟩
  rw[gf,hok,fS hx,Px.gU,show (i+1).toNat=i.toNat+1 by omega];rfl
 ·rw[gf,hok];rfl
 ·have hlt:=of_decide_eq_false hlt
  rw[gf,mF (by omega),Px.gU,Bool.and_true]
theorem tJ(t:Nd)(I:cc)(F:b8):cf P 168 #[t.v] I F (dS (.int .i64 t.px.level) F):=by
 refine lD.vc ?_
 unfold lD.V
 intro b_n
 unfold Px.level
 rw[Nd.cG,Nd.eP]
 refine⟨fun h=>⟨?_,rfl⟩,fun h1=>⟨fun h=>⟨?_,rfl⟩,fun h2=>⟨fun h=>⟨fun h'=>⟨?_,rfl⟩,fun h3=>⟨fun h'=>⟨?_,rfl⟩,fun h4=>⟨fun h'=>⟨?_,rfl⟩,fun h5=>⟨fun h'=>⟨?_,rfl⟩,fun h6=>⟨?_,rfl⟩⟩⟩⟩⟩,fun h=>⟨?_,rfl⟩⟩⟩⟩
 all_goals (try simp only[decide_eq_true_eq,decide_eq_false_iff_not,beq_iff_eq,beq_eq_false_iff_ne] at *)
 all_goals (congr 2;(repeat' split)<;>first | rfl | omega)
theorem z0(x:Px):1≤x.level∧x.level≤8:=by
 unfold Px.level;(repeat' split)<;>omega
theorem DP(t:Nd)(i:Int)(h0:0≤i)(h1:i≤1048576)(I:cc)(F:b8):cf P 169 #[t.v,.int .i64 i] I F (dS (.int .i64 (t.px.asks i)) F):=by
 refine nC.vc ?_
 unfold nC.V
 intro b_n
 have hr:=z0 t.px
 refine cf.ret (tJ t I _) fun I1 hI1=>⟨_,rfl,F,.refl _, ?_⟩
 unfold Px.asks
 rw[Nd.cG]
 refine⟨fun h=>⟨fun h'=>⟨?_,rfl⟩,fun h'=>⟨?_,rfl⟩⟩,fun h1=>⟨fun h=>⟨?_,rfl⟩,fun h2=>⟨fun h=>⟨fun h'=>⟨?_,rfl⟩,fun h'=>⟨?_,rfl⟩⟩,fun h=>⟨?_,rfl⟩⟩⟩⟩
 all_goals (try simp only[decide_eq_true_eq,decide_eq_false_iff_not,beq_iff_eq,beq_eq_false_iff_ne] at *)
 all_goals (congr 2;(repeat' split)<;>first | rfl | omega | (rw[cY (by omega)]))
theorem vL(t x:Nd){i:Int}(h0:0≤i)(h1:i<t.kids.length)(h2:t.kids[i.toNat]? = some x)(h3:(t.kids.length:Int)≤1048576)(I:cc)(F:b8)(ht:cC I F t) :
  cf P 163 #[t.v,.int .i64 i] I F (dS (.bool (decide (x.px.level<t.px.asks i))) F):=by
 refine gW.vc ?_
 unfold gW.V
 intro b_n
 obtain⟨ad,y,had,hy,hrd,hyo,hym⟩:=(ht.cons (x:=(b_n,.cells t.enc.toArray 28 (0,0)))).kids.at h0 h1
 obtain rfl:x=y:=by rw[h2] at hy;exact Option.some.inj hy
 exact⟨⟨h0,h1⟩,ad,had,_,_,_,_,_,_,_,_,_,_,hrd,_,(tJ x I _).xI,_,(DP t i h0 (by omega) I _).xI,rfl,rfl⟩
theorem Px.ib{x:Px}(h:x.formed=true):∀k∈x.kids,k.formed=true:=by
 have hL:∀l:List Px,Px.gU l=true→∀k∈l,k.formed=true:=by
  intro l
  induction l with
  | nil=>intro _ k hk;cases hk
  | cons y r ih =>
    intro h k hk
    rw[Px.gU,Bool.and_eq_true] at h
    rcases List.mem_cons.1 hk with rfl | hk
    ·exact h.1
    ·exact ih h.2 k hk
 rw[Px.er,Bool.and_eq_true] at h
 exact hL _ h.2
theorem Px.tK{x:Px}(h:x.formed=true)(hk:x.kids≠[]):5≤x.kind∧x.kind≤9:=by
 rw[Px.er,Bool.and_eq_true] at h
 have h1:=h.1
 unfold Px.gO at h1
 simp only[Bool.and_eq_true,decide_eq_true_eq] at h1
 have h2:=h1.2
 have h3:0<x.kids.length:=List.length_pos_iff.2 hk
 unfold Px.arity at h2
 (repeat' split at h2)<;>omega
theorem rb(x k:Px)(i:Int):0≤x.yu k i∧x.yu k i≤2:=by
 unfold Px.yu;(repeat' split)<;>omega
theorem tL:∀x:Px,0≤x.depth∧x.depth≤2*x.size:=by
 have hL:∀(t:Px) (l:List Px),(∀x∈l,0≤Px.depth x∧Px.depth x≤2*Px.size x)→∀(i most:Int),0≤most→0≤Px.gK t i l most∧Px.gK t i l most≤max most (2*Px.fu l+2):=by
  intro t l
  induction l with
  | nil=>intro _ i most h;rw[Px.gK,Px.fu];omega
  | cons x r ih =>
    intro hx i most h
    have h1:=hx x (List.mem_cons_self ..)
    have h2:=rb t x i
    have h3:=ih (fun y hy=>hx y (List.mem_cons_of_mem _ hy)) (i+1) (max most (Px.depth x+t.yu x i)) (by omega)
    have h4:=Px.iG r
    have h5:=Px.size_pos x
    rw[Px.gK,Px.fu]
    omega
 refine Px.ind fun x h=>?_
 have:=hL x x.kids h 0 0 (by omega)
 have h4:=Px.iG x.kids
 rw[Px.vG,Px.size_eq]
 omega
theorem z5:∀(t:Nd),t.px.size≤1048576→t.px.formed=true→∀(I:cc) (F:b8),cC I F t→cf P 152 #[t.v] I F (dS (.int .i64 t.px.depth) F):=by
 refine Nd.ind fun t ih hs hf I F ht=>?_
 have hln:=iK hs
 refine lE.vc (fun most i m I' F'=>0≤i∧i≤t.kids.length∧m=(t.kids.length-i).toNat∧0≤most∧most≤4194304∧t.px.depth=Px.gK t.px i ((t.kids.drop i.toNat).map Nd.px) most∧F'=F) ?_
 unfold lE.V
 intro b_n
 refine⟨⟨_,by omega,by omega,rfl,by omega,by omega, ?_,rfl⟩,fun most i m I1 F1 hI ⟨g0,g1,gm,g2,g3,gf,gF⟩=>⟨fun hlt=>?_,fun hlt=>⟨?_,gF⟩⟩⟩
 ·rw[Px.vG,Nd.db];rfl
 ·have hlt:=of_decide_eq_true hlt
  subst gF
  have ht1:cC I1 ((b_n,.cells t.enc.toArray 28 (0,0))::F1) t:=(ht.mono hI fun _ h=>h).cons
  obtain⟨ad,x,had,hx,hrd,hxo,hxm⟩:=ht1.kids.at g0 hlt
  have hxp:x.px∈t.px.kids:=by rw[Nd.db];exact List.mem_map_of_mem hxm
  have hkd:=Px.tK hf (fun e=>by rw[e] at hxp;cases hxp)
  rw[Nd.cG] at hkd
  have hdr:=tL x.px
  have hsz:=fT hxm hs
  refine⟨⟨g0,hlt⟩,ad,had,_,_,_,_,_,_,_,_,_,_,hrd,cf.ret (ih x hxm hsz (Px.ib hf _ hxp) I1 _ hxo) fun I2 hI2=>⟨_,rfl,F1,.refl _,
   cf.ret (vL t x g0 hlt hx (by omega) I2 _ (ht1.mono hI2 fun _ h=>h)) fun I3 hI3=>⟨_,rfl,F1,.refl _, ?_⟩⟩⟩
  have key:∀D:Int,D=x.px.depth+t.px.yu x.px i →
    (decide (D>most)=true→∃m2:Nat,m2<m∧(0≤IntKind.wrap .i64 (i+1)∧IntKind.wrap .i64 (i+1)≤t.kids.length∧m2=(t.kids.length-IntKind.wrap .i64 (i+1)).toNat∧0≤D∧D≤4194304 ∧
      t.px.depth=Px.gK t.px (IntKind.wrap .i64 (i+1)) ((t.kids.drop (IntKind.wrap .i64 (i+1)).toNat).map Nd.px) D∧F1=F1)) ∧
    (decide (D>most)=false→∃m2:Nat,m2<m∧(0≤IntKind.wrap .i64 (i+1)∧IntKind.wrap .i64 (i+1)≤t.kids.length∧m2=(t.kids.length-IntKind.wrap .i64 (i+1)).toNat∧0≤most∧most≤4194304 ∧
      t.px.depth=Px.gK t.px (IntKind.wrap .i64 (i+1)) ((t.kids.drop (IntKind.wrap .i64 (i+1)).toNat).map Nd.px) most∧F1=F1)):=by
   intro D hD
   have har:=rb t.px x.px i
   rw[cY (n:=i+1) (by omega)]
   rw[fS hx,Px.gK,←hD] at gf
   refine⟨fun h=>⟨(t.kids.length-(i+1)).toNat,by omega,by omega,by omega,rfl,by omega,by omega, ?_,rfl⟩,fun h=>⟨(t.kids.length-(i+1)).toNat,by omega,by omega,by omega,rfl,by omega,by omega, ?_,rfl⟩⟩
   ·have h:=of_decide_eq_true h
    rw[gf,show max most D=D by omega,show (i+1).toNat=i.toNat+1 by omega]
   ·have h:=of_decide_eq_false h
    rw[gf,show max most D=most by omega,show (i+1).toNat=i.toNat+1 by omega]
  have e1:IntKind.wrap .i64 (x.px.depth+1)=x.px.depth+1:=cY (by omega)
  have e2:IntKind.wrap .i64 (x.px.depth+1+1)=x.px.depth+1+1:=cY (by omega)
  rw[e1,e2]
  unfold Px.yu at key
  rw[Nd.cG] at key
  refine⟨fun hb=>⟨fun h=>key _ ?_,fun h1=>⟨fun h=>key _ ?_,fun h2=>⟨fun h=>key _ ?_,fun h3=>⟨fun h=>⟨fun hi=>key _ ?_,fun hi=>key _ ?_⟩,fun h4=>key _ ?_⟩⟩⟩⟩,
   fun hb=>⟨fun h=>key _ ?_,fun h1=>⟨fun h=>key _ ?_,fun h2=>⟨fun h=>key _ ?_,fun h3=>⟨fun h=>⟨fun hi=>key _ ?_,fun hi=>key _ ?_⟩,fun h4=>key _ ?_⟩⟩⟩⟩⟩
  all_goals clear key gf
  all_goals (simp only[decide_eq_true_eq,decide_eq_false_iff_not,beq_iff_eq,beq_eq_false_iff_ne] at *)
  all_goals ((repeat' split)<;>omega)
 ·have hlt:=of_decide_eq_false hlt
  rw[gf,mF (by omega),Px.gK]
def Px.dj(x:Px):Int:=if x.formed then (if 24<x.depth then 122 else 0) else 120
theorem jV(t:Nd)(hs:t.px.size≤1048576)(I:cc)(F:b8)(ht:cC I F t):cf P 137 #[t.v] I F (dS (.int .i64 t.px.dj) F):=by
 refine gX.vc ?_
 unfold gX.V
 intro b_n
 unfold Px.dj
 refine cf.ret (jJ t hs I _ ht.cons) fun I1 hI1=>⟨_,rfl,F,.refl _,fun h=>⟨?_,rfl⟩,fun h=>cf.ret (z5 t hs (by simpa using h) I1 _ (ht.mono hI1 fun _ h=>h).cons) fun I2 hI2=>⟨_,rfl,F,.refl _,fun h'=>⟨?_,rfl⟩,fun h'=>⟨?_,rfl⟩⟩⟩
 ·rw[if_neg (by simpa using h)]
 ·rw[if_pos (by simpa using h),if_pos (of_decide_eq_true h')]
 ·rw[if_pos (by simpa using h),if_neg (of_decide_eq_false h')]
end Go.Lx
namespace Go.Lx
open Go.Vc Go.Proofs.Tryz
def kX:List (Nat×List Sh):=[(0,[]),(3,[.one (.int .i64)]),(4,[.one .bool]),(28,[.agg [(.int .u8),(.int .u8),(.int .u8),(.int .i64),(.int .u8),.str,.slc,(.int .i64)]]),(47,[.one (.int .i64)]),(199,[.agg [(.int .u8),(.int .u8),(.int .u8),(.int .i64),(.int .u8),.str]])]
def pJ.V(is:Bool)(e1:Int)(I:cc)(F:b8)(Q:cd)  : Prop:=(It (!is) (Q (.panicked ([{ v:=Value.iface 155 (.agg #[.int .i64 e1]),recovered:=false }])) I F) (Q (.returned (.tuple #[])) I F))
theorem pJ.vc{is:Bool}{e1:Int}{I:cc}{F:b8}{Q:cd}  (h:pJ.V is e1 I F Q):cf P 98 #[.bool is,.int .i64 e1] I F Q :=
 tw (A:=(an [1] [] kX)) [] func98 h
def nD.V(vb:Int→Value)(a c d e f:Int)(g:Bs)(h:OA)(i j:Nat)(k:Int)(I:cc)(F:b8)(Q:cd)  : Prop:=∀l:Nat,∀b:Nat,Q (.returned (.agg #[vb a,vb c,vb d,.int .i64 e,vb f,.string g])) I (F)
theorem nD.vc{d e f g i:Int}{j:Bs}{a:OA}{b c:Nat}{k:Int}{I:cc}{F:b8}{Q:cd}  (h:nD.V (.int .u8) d e f g i j a b c k I F Q):cf P 127 #[.agg #[.int .u8 d,.int .u8 e,.int .u8 f,.int .i64 g,.int .u8 i,.string j,.slice a b c,.int .i64 k]] I F Q :=
 tw (A:=(an [] [] kX)) [] func127 h
def kd.V(vt:Bool→Value)(wr:Int→Int)(f g a b h:Int)(i:Bs)(c:OA)(d e:Nat)(j:Int)(I:cc)(F:b8)(Q:cd)  : Prop:=∀k:Nat,(It (a==6) (It (b==(wr (0+1))) (Q (.returned (vt true)) I F) (Q (.returned (vt (b==(wr ((wr (0+1))+1))))) I F)) (It (a==5) (It (b==0) (Q (.returned (vt true)) I F) (Q (.returned (vt (b==(wr (0+1))))) I F)) (It (a==1) (Q (.returned (vt (decide (b≥0)))) I F) (It (a==2) (Q (.returned (vt (decide (b≥0)))) I F) (It (a==3) (Q (.returned (vt (decide (b≥0)))) I F) (It (a==4) (Q (.returned (vt (decide (b≥0)))) I F) (Q (.returned (vt false)) I F)))))))
theorem kd.vc{d e f g i:Int}{j:Bs}{a:OA}{b c:Nat}{k:Int}{I:cc}{F:b8}{Q:cd}  (h:kd.V .bool (IntKind.wrap .i64) d e f g i j a b c k I F Q):cf P 125 #[.agg #[.int .u8 d,.int .u8 e,.int .u8 f,.int .i64 g,.int .u8 i,.string j,.slice a b c,.int .i64 k]] I F Q :=
 tw (A:=(an [3000,4000,5000,6000,7000,8000,10003] [] kX)) [] func125 h
def pK.V(ka:Nat→Int→Int→Int→Int→Int→Bs→Nat×Obj)(i:Nat→Nat×Obj)(nV:Int→Int→Int→Int→Int→Bs→OA→Nat→Nat→Int→Value)(nO:Int→Int→Int→Int→Int→Bs→OA→Nat→Nat→Int→Obj)(nL:Int→Int→Int→Int→Int→Bs→OA→Nat→Nat→Int→List Value)(vb vi:Int→Value)(vs:Bs→Value)(vt:Bool→Value)(h k w au n:Int)(ar:Bs)(y:OA)(l aE:Nat)(aH:Int)(I:cc)(F:b8)(Q:cd)(Inv4:Int→Bool→Int→Int→Int→Int→Int→Bs→cc→b8→Prop)(Inv70:Int→Nat→cc→b8→Prop):Prop:=∀j:Nat,∀g:Nat,((It (h==1) (cy P 125 #[nV h k w au n ar y l aE aH] I ((i j)::(ka g h 0 w au 0 (⟨#[]⟩:Bs))::·) F vt fun r I1 F1=>Inv4 0 r h 0 w au 0 (⟨#[]⟩:Bs) I1 F1) (It (h==2) (cy P 126 #[vs ar] I ((i j)::(ka g h 0 0 0 0 ar)::·) F vt fun r1 I2 F2=>Inv4 0 r1 h 0 0 0 0 ar I2 F2) (It (h==3) (Dt (n≥1) (Dt (n≤3) (Inv4 0 true h 0 0 0 n (⟨#[]⟩:Bs) I F) (It (h==3) (Inv4 0 (decide (n≤6)) h 0 0 0 n (⟨#[]⟩:Bs) I F) (Inv4 0 false h 0 0 0 n (⟨#[]⟩:Bs) I F))) (Inv4 0 false h 0 0 0 n (⟨#[]⟩:Bs) I F)) (It (h==4) (Dt (n≥1) (Dt (n≤3) (Inv4 0 true h 0 0 0 n (⟨#[]⟩:Bs) I F) (It (h==3) (Inv4 0 (decide (n≤6)) h 0 0 0 n (⟨#[]⟩:Bs) I F) (Inv4 0 false h 0 0 0 n (⟨#[]⟩:Bs) I F))) (Inv4 0 false h 0 0 0 n (⟨#[]⟩:Bs) I F)) (It (h==5) (It (k==1) (Inv4 1 true h k 0 0 0 (⟨#[]⟩:Bs) I F) (Inv4 1 (k==2) h k 0 0 0 (⟨#[]⟩:Bs) I F)) (It (h==6) (Dt (6≤k) (Inv4 2 (decide (k≤18)) h k 0 0 0 (⟨#[]⟩:Bs) I F) (Inv4 2 false h k 0 0 0 (⟨#[]⟩:Bs) I F)) (It (h==7) (Inv4 3 true h 0 0 0 0 (⟨#[]⟩:Bs) I F) (It (h==8) (It (k==3) (Dt (3≤k) (Inv4 1 (decide (k≤5)) h k 0 0 0 (⟨#[]⟩:Bs) I F) (Inv4 1 false h k 0 0 0 (⟨#[]⟩:Bs) I F)) (Dt (3≤k) (Inv4 2 (decide (k≤5)) h k 0 0 0 (⟨#[]⟩:Bs) I F) (Inv4 2 false h k 0 0 0 (⟨#[]⟩:Bs) I F))) (It (h==9) (Dt (1≤w) (Inv4 1 (decide (w≤4)) h 0 w 0 0 (⟨#[]⟩:Bs) I F) (Inv4 1 false h 0 w 0 0 (⟨#[]⟩:Bs) I F)) (Inv4 0 false h 0 0 0 0 (⟨#[]⟩:Bs) I F)))))))))))∧∀(aF:Int) (is:Bool) (a b c d e:Int) (f:Bs) (I3:cc) (F3:b8),cc.le I I3→Inv4 aF is a b c d e f I3 F3→(It is (∃(aI aJ aK aL aM:Int) (aN:Bs),(cf P 127 #[nV h k w au n ar y l aE aH] I3 ((i j)::(ka g a b c d e f)::F3) fun e3 I4 G3=>e3=.returned (.agg #[vb aI,vb aJ,vb aK,vi aL,vb aM,vs aN])∧List.Perm G3 ((i j)::(ka g a b c d e f)::F3))∧∃q:Bool,cU P .eql 199 (.tmp 113) (.tmp 115) (.agg #[vb a,vb b,vb c,vi d,vb e,vs f]) (.agg #[vb aI,vb aJ,vb aK,vi aL,vb aM,vs aN]) q∧(It q (cf P 98 (#[vt ((l:Int)==aF),vi 120]) I3 ((i j)::(ka g a b c d e f)::F3) fun e4 I5 G4=>((e4=.returned (.tuple #[])∧∃F4:b8,List.Perm G4 ((i j)::(ka g a b c d e f)::F4)∧(∃m:Nat,Inv70 0 m I5 F4)∧∀(x:Int) (m1:Nat) (I6:cc) (F5:b8),cc.le I5 I6→Inv70 x m1 I6 F5→(Dt (x<(l:Int)) ((0≤x∧x<(l:Int))∧∃ad:Addr,y=some ad∧∃(av aw ax ay az:Int) (aA:Bs) (z:OA) (aa ab:Nat) (aB:Int),Rd I6 ((i j)::(ka g a b c d e f)::F5) (ad.add (Int.toNat x*8)) (nL av aw ax ay az aA z aa ab aB)∧∀aG:Nat,cf P 97 #[nV av aw ax ay az aA z aa ab aB] I6 ((i j)::(ka g a b c d e f)::(aG,nO av aw ax ay az aA z aa ab aB)::F5) fun e5 I7 G5=>((e5=.returned (.tuple #[])∧∃F6:b8,List.Perm G5 ((i j)::(ka g a b c d e f)::(aG,nO av aw ax ay az aA z aa ab aB)::F6)∧(∃m2:Nat,m2<m1∧Inv70 (IntKind.wrap .i64 (x+1)) m2 I7 F6))∨(∃ch:List PanicEntry,e5=.panicked ch∧∃F7:b8,List.Perm G5 ((i j)::(ka g a b c d e f)::(aG,nO av aw ax ay az aA z aa ab aB)::F7)∧Q (.panicked ch) I7 F7))) (Q (.returned (.tuple #[])) I6 F5)))∨(∃aO:List PanicEntry,e4=.panicked aO∧∃F8:b8,List.Perm G4 ((i j)::(ka g a b c d e f)::F8)∧Q (.panicked aO) I5 F8))) (cf P 98 #[vt false,vi 120] I3 ((i j)::(ka g a b c d e f)::F3) fun e6 I8 G6=>((e6=.returned (.tuple #[])∧∃F9:b8,List.Perm G6 ((i j)::(ka g a b c d e f)::F9)∧(∃m3:Nat,Inv70 0 m3 I8 F9)∧∀(x1:Int) (m4:Nat) (I9:cc) (F10:b8),cc.le I8 I9→Inv70 x1 m4 I9 F10→(Dt (x1<(l:Int)) ((0≤x1∧x1<(l:Int))∧∃aP:Addr,y=some aP∧∃(ac ae af ag ah:Int) (ai:Bs) (o:OA) (p s:Nat) (aj:Int),Rd I9 ((i j)::(ka g a b c d e f)::F10) (aP.add (Int.toNat x1*8)) (nL ac ae af ag ah ai o p s aj)∧∀aC:Nat,cf P 97 #[nV ac ae af ag ah ai o p s aj] I9 ((i j)::(ka g a b c d e f)::(aC,nO ac ae af ag ah ai o p s aj)::F10) fun e7 I10 G7=>((e7=.returned (.tuple #[])∧∃F11:b8,List.Perm G7 ((i j)::(ka g a b c d e f)::(aC,nO ac ae af ag ah ai o p s aj)::F11)∧(∃m5:Nat,m5<m4∧Inv70 (IntKind.wrap .i64 (x1+1)) m5 I10 F11))∨(∃aQ:List PanicEntry,e7=.panicked aQ∧∃F12:b8,List.Perm G7 ((i j)::(ka g a b c d e f)::(aC,nO ac ae af ag ah ai o p s aj)::F12)∧Q (.panicked aQ) I10 F12))) (Q (.returned (.tuple #[])) I9 F10)))∨(∃aR:List PanicEntry,e6=.panicked aR∧∃F13:b8,List.Perm G6 ((i j)::(ka g a b c d e f)::F13)∧Q (.panicked aR) I8 F13))))) (cf P 98 #[vt false,vi 120] I3 ((i j)::(ka g a b c d e f)::F3) fun e8 I11 G8=>((e8=.returned (.tuple #[])∧∃F14:b8,List.Perm G8 ((i j)::(ka g a b c d e f)::F14)∧(∃m6:Nat,Inv70 0 m6 I11 F14)∧∀(x2:Int) (m7:Nat) (I12:cc) (F15:b8),cc.le I11 I12→Inv70 x2 m7 I12 F15→(Dt (x2<(l:Int)) ((0≤x2∧x2<(l:Int))∧∃aS:Addr,y=some aS∧∃(ak al am an ao:Int) (ap:Bs) (t:OA) (u v:Nat) (aq:Int),Rd I12 ((i j)::(ka g a b c d e f)::F15) (aS.add (Int.toNat x2*8)) (nL ak al am an ao ap t u v aq)∧∀aD:Nat,cf P 97 #[nV ak al am an ao ap t u v aq] I12 ((i j)::(ka g a b c d e f)::(aD,nO ak al am an ao ap t u v aq)::F15) fun e9 I13 G9=>((e9=.returned (.tuple #[])∧∃F16:b8,List.Perm G9 ((i j)::(ka g a b c d e f)::(aD,nO ak al am an ao ap t u v aq)::F16)∧(∃m8:Nat,m8<m7∧Inv70 (IntKind.wrap .i64 (x2+1)) m8 I13 F16))∨(∃aT:List PanicEntry,e9=.panicked aT∧∃F17:b8,List.Perm G9 ((i j)::(ka g a b c d e f)::(aD,nO ak al am an ao ap t u v aq)::F17)∧Q (.panicked aT) I13 F17))) (Q (.returned (.tuple #[])) I12 F15)))∨(∃aU:List PanicEntry,e8=.panicked aU∧∃F18:b8,List.Perm G8 ((i j)::(ka g a b c d e f)::F18)∧Q (.panicked aU) I11 F18))))
theorem pK.vc{p r u v w:Int}{x:Bs}{g:OA}{i j:Nat}{y:Int}{I:cc}{F:b8}{Q:cd}(Inv4:Int→Bool→Int→Int→Int→Int→Int→Bs→cc→b8→Prop)(Inv70:Int→Nat→cc→b8→Prop)(h:pK.V (fun W a b c d e f=>(W,Obj.cells #[.int .u8 a,.int .u8 b,.int .u8 c,.int .i64 d,.int .u8 e,.string f] 199 (0,0))) (fun b=>(b,Obj.cells #[.int .u8 p,.int .u8 r,.int .u8 u,.int .i64 v,.int .u8 w,.string x,.slice g i j,.int .i64 y] 28 (0,0))) (fun k o t n f s a l c q=>.agg #[.int .u8 k,.int .u8 o,.int .u8 t,.int .i64 n,.int .u8 f,.string s,.slice a l c,.int .i64 q]) (fun k o t n f s a l c q=>.cells #[.int .u8 k,.int .u8 o,.int .u8 t,.int .i64 n,.int .u8 f,.string s,.slice a l c,.int .i64 q] 28 (0,0)) (fun k o t n f s a l c q=>[.int .u8 k,.int .u8 o,.int .u8 t,.int .i64 n,.int .u8 f,.string s,.slice a l c,.int .i64 q]) (.int .u8) (.int .i64) .string .bool p r u v w x g i j y I F Q Inv4 Inv70):cf P 97 #[.agg #[.int .u8 p,.int .u8 r,.int .u8 u,.int .i64 v,.int .u8 w,.string x,.slice g i j,.int .i64 y]] I F Q :=
 tw (A:=(cK [4000,7000,10000,11000,13002,13006,13010,14000,16002,17000,19002,20000,22000,24002,26002,27000,29002,30000,30005,32000] [97,98] [97,98,125,126,127] kX [(4,⟨[(3,(.int .i64)),(4,.bool)],[(1,[(.int .u8),(.int .u8),(.int .u8),(.int .i64),(.int .u8),.str])],fun _ _ _ vs m I F=>match vs with | [.int _ y0,.bool y1,.int _ y2,.int _ y3,.int _ y4,.int _ y5,.int _ y6,.string y7]=>Inv4 y0 y1 y2 y3 y4 y5 y6 y7 I F | _=>False,[],[]⟩),(70,⟨[(129,(.int .i64))],[],fun _ _ _ vs m I F=>match vs with | [.int _ y0]=>Inv70 y0 m I F | _=>False,[],[]⟩)] [] [] [(5,5,[1])] [] [] [(5,6),(30,14)])) [97,98,125,126,127] func97 h
def pL.V(a:Nat→Nat×Obj)(nV:Int→Int→Int→Int→Int→Bs→OA→Nat→Nat→Int→Value)(f g h i j:Int)(k:Bs)(c:OA)(d e:Nat)(l:Int)(I:cc)(F:b8)(Q:cd)  : Prop:=∀b:Nat,cf P 97 #[nV f g h i j k c d e l] I ((a b)::F) fun e1 I1 G1=>((e1=.returned (.tuple #[])∧∃F1:b8,List.Perm G1 ((a b)::F1)∧cy P 99 #[nV f g h i j k c d e l] I1 ((a b)::·) F1 (.int .i64) fun r I2 F2=>cf P 98 (#[.bool (decide (r≤24)),.int .i64 122]) I2 ((a b)::F2) fun e3 I3 G3=>((e3=.returned (.tuple #[])∧∃F3:b8,List.Perm G3 ((a b)::F3)∧Q (.returned (.tuple #[])) I3 F3)∨(∃ch:List PanicEntry,e3=.panicked ch∧∃F4:b8,List.Perm G3 ((a b)::F4)∧Q (.panicked ch) I3 F4)))∨(∃m:List PanicEntry,e1=.panicked m∧∃F5:b8,List.Perm G1 ((a b)::F5)∧Q (.panicked m) I1 F5))
theorem pL.vc{i j m p r:Int}{u:Bs}{d:OA}{e g:Nat}{v:Int}{I:cc}{F:b8}{Q:cd}  (h:pL.V (fun b=>(b,Obj.cells #[.int .u8 i,.int .u8 j,.int .u8 m,.int .i64 p,.int .u8 r,.string u,.slice d e g,.int .i64 v] 28 (0,0))) (fun k o t n f s a l c q=>.agg #[.int .u8 k,.int .u8 o,.int .u8 t,.int .i64 n,.int .u8 f,.string s,.slice a l c,.int .i64 q]) i j m p r u d e g v I F Q):cf P 59 #[.agg #[.int .u8 i,.int .u8 j,.int .u8 m,.int .i64 p,.int .u8 r,.string u,.slice d e g,.int .i64 v]] I F Q :=
 tw (A:=(cK [] [97,98] [97,98,99] kX [] [] [] [] [] [] [])) [97,98,99] func59 h
def iL.V(nO:Int→Int→Int→Int→Int→Bs→OA→Nat→Nat→Int→Obj)(o p q s t:Int)(u:Bs)(e:OA)(f g:Nat)(v:Int)(I:cc)(F:b8)(Q:cd)  : Prop:=∀d:Nat,cf P 57 (#[.func (.func 58) #[] #[.pointer (some ⟨d,0,none⟩)]]) I ((d,nO o p q s t u e f g v)::F) fun e1 I1 G1=>∃(r:Int),e1=.returned (.int .i64 r)∧∃(h i j k l:Int) (m:Bs) (a:OA) (b c:Nat) (n:Int),∃F1:b8,List.Perm G1 ((d,nO h i j k l m a b c n)::F1)∧Q (.returned (.int .i64 r)) I1 (F1)
theorem iL.vc{g i j m p:Int}{r:Bs}{b:OA}{d e:Nat}{u:Int}{I:cc}{F:b8}{Q:cd}  (h:iL.V (fun k o t n f s a l c q=>.cells #[.int .u8 k,.int .u8 o,.int .u8 t,.int .i64 n,.int .u8 f,.string s,.slice a l c,.int .i64 q] 28 (0,0)) g i j m p r b d e u I F Q):cf P 31 #[.agg #[.int .u8 g,.int .u8 i,.int .u8 j,.int .i64 m,.int .u8 p,.string r,.slice b d e,.int .i64 u]] I F Q :=
 tw (A:=(an [] [57] kX)) [57] func31 h
def fY.V(vb vi:Int→Value)(c:Addr)(I:cc)(F:b8)(Q:cd)  : Prop:=∃(e f g h i:Int) (j:Bs) (a:OA) (b d:Nat) (k:Int),Rd I F c [vb e,vb f,vb g,vi h,vb i,.string j,.slice a b d,vi k]∧cf P 59 #[.agg #[vb e,vb f,vb g,vi h,vb i,.string j,.slice a b d,vi k]] I F fun e1 I1 G1=>((e1=.returned (.tuple #[])∧∃F1:b8,List.Perm G1 F1∧Q (.returned (.tuple #[])) I1 F1)∨(∃ch:List PanicEntry,e1=.panicked ch∧∃F2:b8,List.Perm G1 F2∧Q (.panicked ch) I1 F2))
theorem fY.vc{c:Addr}{I:cc}{F:b8}{Q:cd}  (h:fY.V (.int .u8) (.int .i64) c I F Q):cf P 58 #[.pointer (some c)] I F Q :=
 tw (A:=(cK [] [59] [59] kX [] [] [] [] [] [] [])) [59] func58 h
def nE.V(vi:Int→Value)(b a f g h:Int)(i:Bs)(c:OA)(d e:Nat)(j:Int)(I:cc)(F:b8)(Q:cd)  : Prop:=∀k:Nat,(It (b==7) (Q (.returned (vi 1)) I F) (It (b==5) (Q (.returned (vi 7)) I F) (It (b==6) (It (a==18) (Q (.returned (vi 2)) I F) (It (a==17) (Q (.returned (vi 3)) I F) (Dt (a≥11) (Q (.returned (vi 4)) I F) (Dt (a≥8) (Q (.returned (vi 6)) I F) (Q (.returned (vi 5)) I F))))) (Q (.returned (vi 8)) I F))))
theorem nE.vc{d e f g i:Int}{j:Bs}{a:OA}{b c:Nat}{k:Int}{I:cc}{F:b8}{Q:cd}  (h:nE.V (.int .i64) d e f g i j a b c k I F Q):cf P 128 #[.agg #[.int .u8 d,.int .u8 e,.int .u8 f,.int .i64 g,.int .u8 i,.string j,.slice a b c,.int .i64 k]] I F Q :=
 tw (A:=(an [2000,4000,6000,8001,10001,12001,14001] [] kX)) [] func128 h
def nF.V(nO:Int→Int→Int→Int→Int→Bs→OA→Nat→Nat→Int→Obj)(vb vi:Int→Value)(e f g h i:Int)(j:Bs)(a:OA)(b c:Nat)(k d:Int)(I:cc)(F:b8)(Q:cd)  : Prop:=∀l:Nat,cy P 128 #[.agg #[vb e,vb f,vb g,vi h,vb i,.string j,.slice a b c,vi k]] I ((l,nO e f g h i j a b c k)::·) F vi fun r I1 F1=>(It (r==1) (It (d==0) (Q (.returned (vi 2)) I1 F1) (It (r==4) (Q (.returned (vi 5)) I1 F1) (It (r==7) (Q (.returned (vi 7)) I1 F1) (It (r==1) (Q (.returned (vi 1)) I1 F1) (It (r==8) (Q (.returned (vi 1)) I1 F1) (Q (.returned (vi (IntKind.wrap .i64 (r+d)))) I1 F1)))))) (It (r==4) (Q (.returned (vi 5)) I1 F1) (It (r==7) (Q (.returned (vi 7)) I1 F1) (It (r==1) (Q (.returned (vi 1)) I1 F1) (It (r==8) (Q (.returned (vi 1)) I1 F1) (Q (.returned (vi (IntKind.wrap .i64 (r+d)))) I1 F1))))))
theorem nF.vc{g i j m p:Int}{r:Bs}{b:OA}{d e:Nat}{u v:Int}{I:cc}{F:b8}{Q:cd}  (h:nF.V (fun k o t n f s a l c q=>.cells #[.int .u8 k,.int .u8 o,.int .u8 t,.int .i64 n,.int .u8 f,.string s,.slice a l c,.int .i64 q] 28 (0,0)) (.int .u8) (.int .i64) g i j m p r b d e u v I F Q):cf P 129 #[.agg #[.int .u8 g,.int .u8 i,.int .u8 j,.int .i64 m,.int .u8 p,.string r,.slice b d e,.int .i64 u],.int .i64 v] I F Q :=
 tw (A:=(an [3001,3004,5001,7001,9001,9004] [128] kX)) [128] func129 h
def nG.V(o:Nat→Nat×Obj)(nV:Int→Int→Int→Int→Int→Bs→OA→Nat→Nat→Int→Value)(nO:Int→Int→Int→Int→Int→Bs→OA→Nat→Nat→Int→Obj)(vb vi:Int→Value)(wr:Int→Int)(e u v w y:Int)(z:Bs)(s:OA)(n t:Nat)(aa:Int)(I:cc)(F:b8)(Q:cd)(Inv8:Int→Int→Nat→cc→b8→Prop):Prop:=∀p:Nat,(∃m:Nat,Inv8 0 0 m I F)∧∀(a x:Int) (m1:Nat) (I1:cc) (F1:b8),cc.le I I1→Inv8 a x m1 I1 F1→(Dt (x<(n:Int)) ((0≤x∧x<(n:Int))∧∃ad:Addr,s=some ad∧∃(f g h i j:Int) (k:Bs) (b:OA) (c d:Nat) (l:Int),Rd I1 ((o p)::F1) (ad.add (Int.toNat x*8)) [vb f,vb g,vb h,vi i,vb j,.string k,.slice b c d,vi l]∧∀q:Nat,cy P 99 #[nV f g h i j k b c d l] I1 ((o p)::(q,nO f g h i j k b c d l)::·) F1 vi fun r I2 F2=>∃(r1:Int),(cf P 128 #[nV f g h i j k b c d l] I2 ((o p)::(q,nO f g h i j k b c d l)::F2) fun e2 I3 G2=>e2=.returned (vi r1)∧List.Perm G2 ((o p)::(q,nO f g h i j k b c d l)::F2))∧∃(r2:Int),(cf P 129 #[nV e u v w y z s n t aa,vi x] I2 ((o p)::(q,nO f g h i j k b c d l)::F2) fun e3 I4 G3=>e3=.returned (vi r2)∧List.Perm G3 ((o p)::(q,nO f g h i j k b c d l)::F2))∧(Dt (r1<r2) (It (e==6) (∃m2:Nat,m2<m1∧Inv8 (if (wr (r+1))>a then wr (r+1) else a) (wr (x+1)) m2 I2 F2) (It (e==7) (∃m3:Nat,m3<m1∧Inv8 (if (wr ((wr (r+1))+(if 1<x then 1 else x)))>a then wr ((wr (r+1))+(if 1<x then 1 else x)) else a) (wr (x+1)) m3 I2 F2) (∃m4:Nat,m4<m1∧Inv8 (if (wr ((wr (r+1))+1))>a then wr ((wr (r+1))+1) else a) (wr (x+1)) m4 I2 F2))) (It (e==6) (∃m5:Nat,m5<m1∧Inv8 (if r>a then r else a) (wr (x+1)) m5 I2 F2) (It (e==7) (∃m6:Nat,m6<m1∧Inv8 (if (wr (r+(if 1<x then 1 else x)))>a then wr (r+(if 1<x then 1 else x)) else a) (wr (x+1)) m6 I2 F2) (∃m7:Nat,m7<m1∧Inv8 (if (wr (r+1))>a then wr (r+1) else a) (wr (x+1)) m7 I2 F2))))) (Q (.returned (vi a)) I1 F1))
theorem nG.vc{i j p r u:Int}{v:Bs}{d:OA}{e g:Nat}{w:Int}{I:cc}{F:b8}{Q:cd}(Inv8:Int→Int→Nat→cc→b8→Prop)(h:nG.V (fun b=>(b,Obj.cells #[.int .u8 i,.int .u8 j,.int .u8 p,.int .i64 r,.int .u8 u,.string v,.slice d e g,.int .i64 w] 28 (0,0))) (fun k o t n f s a l c q=>.agg #[.int .u8 k,.int .u8 o,.int .u8 t,.int .i64 n,.int .u8 f,.string s,.slice a l c,.int .i64 q]) (fun k o t n f s a l c q=>.cells #[.int .u8 k,.int .u8 o,.int .u8 t,.int .i64 n,.int .u8 f,.string s,.slice a l c,.int .i64 q] 28 (0,0)) (.int .u8) (.int .i64) (IntKind.wrap .i64) i j p r u v d e g w I F Q Inv8):cf P 99 #[.agg #[.int .u8 i,.int .u8 j,.int .u8 p,.int .i64 r,.int .u8 u,.string v,.slice d e g,.int .i64 w]] I F Q :=
 tw (A:=(cK [3000,6005,10000,11000] [] [99,128,129] kX [(8,⟨[(3,(.int .i64)),(10,(.int .i64))],[],fun _ _ _ vs m I F=>match vs with | [.int _ y0,.int _ y1]=>Inv8 y0 y1 m I F | _=>False,[],[]⟩)] [] [] [] [] [] [])) [99,128,129] func99 h
def lF.V(b:Nat→Nat×Obj)(vi:Int→Value)(i:Fn)(e f:Array Value)(I:cc)(F:b8)(Q:cd)  : Prop:=∀a:Nat,sN P (.func i e f) [] I ((b a)::F) fun e1 I1 G1=>((e1=.returned (.tuple #[])∧∃F1:b8,List.Perm G1 ((b a)::F1)∧w9 P 96 [.pointer (some ⟨a,0,none⟩)] .returning I1 ((b a)::F1) fun e2 u I2 G2=>∃v:Value,e2=.returned v∧∃(d:Int),∃F2:b8,List.Perm G2 ((a,Obj.cells #[vi d] 47 (0,0))::F2)∧((settle u=.returning∧Q (.returned (vi d)) I2 F2)∨(∃ch:List PanicEntry,settle u=.panicking ch∧Q (.panicked ch) I2 F2)))∨(∃g:List PanicEntry,e1=.panicked g∧∃F3:b8,List.Perm G1 ((b a)::F3)∧w9 P 96 [.pointer (some ⟨a,0,none⟩)] (.panicking g) I1 ((b a)::F3) fun e3 u1 I3 G3=>∃v1:Value,e3=.returned v1∧∃(c:Int),∃F4:b8,List.Perm G3 ((a,Obj.cells #[vi c] 47 (0,0))::F4)∧((settle u1=.returning∧Q (.returned (vi c)) I3 F4)∨(∃h:List PanicEntry,settle u1=.panicking h∧Q (.panicked h) I3 F4))))
theorem lF.vc{d:Fn}{a c:Array Value}{I:cc}{F:b8}{Q:cd}  (h:lF.V (fun b=>(b,Obj.cells #[.int .i64 0] 47 (0,0))) (.int .i64) d a c I F Q):cf P 57 #[.func d a c] I F Q :=
 tw (A:=(cK [] [0] [96] kX [] [] [] [] [2001] [] [])) [96] func57 h
end Go.Lx
namespace Go.Lx
open Go.Vc
def nH(e:Int):List PanicEntry:=[{ v:=.iface 155 (.agg #[.int .i64 e]),recovered:=false }]
def ui(b:Bool)(err:Int)(F:b8)(e:Ending)(I:cc)(G:b8):Prop:=e=(if b then .returned (.tuple #[]) else .panicked (nH err))∧G=F
theorem mG(b:Bool)(err:Int)(I:cc)(F:b8):cf P 98 #[.bool b,.int .i64 err] I F (ui b err F):=by
 refine pJ.vc ?_
 unfold pJ.V
 refine⟨fun h=>⟨?_,rfl⟩,fun h=>⟨?_,rfl⟩⟩
 ·rw[if_neg (by simpa using h)];rfl
 ·rw[if_pos (by simpa using h)]
theorem vM(t:Nd)(I:cc)(F:b8):cf P 127 #[t.v] I F (dS (.agg #[.int .u8 t.kind,.int .u8 t.oper,.int .u8 t.cO,.int .i64 t.n,.int .u8 t.field,.string t.name]) F):=by
 refine nD.vc ?_
 unfold nD.V
 exact fun b_n b=>⟨rfl,rfl⟩
theorem xe(t:Nd)(I:cc)(F:b8):cf P 125 #[t.v] I F (dS (.bool t.px.DI) F):=by
 refine kd.vc ?_
 unfold kd.V
 intro b_n
 unfold Px.DI
 rw[Nd.gJ,Nd.xb]
 have w1:IntKind.wrap .i64 (0+1)=1:=by decide
 have w2:IntKind.wrap .i64 (1+1)=2:=by decide
 rw[w1,w2]
 refine⟨fun h=>⟨fun h'=>⟨?_,rfl⟩,fun h'=>⟨?_,rfl⟩⟩,fun h1=>⟨fun h=>⟨fun h'=>⟨?_,rfl⟩,fun h'=>⟨?_,rfl⟩⟩,fun h2=>⟨fun h=>⟨?_,rfl⟩,fun h3=>⟨fun h=>⟨?_,rfl⟩,fun h4=>⟨fun h=>⟨?_,rfl⟩,fun h5=>⟨fun h=>⟨?_,rfl⟩,fun h6=>⟨?_,rfl⟩⟩⟩⟩⟩⟩⟩
 ·have h:t.cO=6:=by simpa using h
  have h':t.n=1:=by simpa using h'
  simp[h,h']
 ·have h:t.cO=6:=by simpa using h
  have h':t.n≠1:=by simpa using h'
  congr 2;rw[if_pos h,Bool.eq_iff_iff];simp[h']
 ·have h:t.cO=5:=by simpa using h
  have h':t.n=0:=by simpa using h'
  simp[h,h']
 ·have h:t.cO=5:=by simpa using h
  have h':t.n≠0:=by simpa using h'
  congr 2;rw[if_neg (by omega),if_pos h,Bool.eq_iff_iff];simp[h']
 ·have h:t.cO=1:=by simpa using h
  simp[h]
 ·have h:t.cO=2:=by simpa using h
  simp[h]
 ·have h:t.cO=3:=by simpa using h
  simp[h]
 ·have h:t.cO=4:=by simpa using h
  simp[h]
 ·have e6:t.cO≠6:=by simpa using h1
  have e5:t.cO≠5:=by simpa using h2
  have e1:t.cO≠1:=by simpa using h3
  have e2:t.cO≠2:=by simpa using h4
  have e3:t.cO≠3:=by simpa using h5
  have e4:t.cO≠4:=by simpa using h6
  rw[if_neg e6,if_neg e5,if_neg (by omega)]
theorem tM(t:Nd)(I:cc)(F:b8):cf P 128 #[t.v] I F (dS (.int .i64 t.px.level) F):=by
 refine nE.vc ?_
 unfold nE.V
 intro b_n
 unfold Px.level
 rw[Nd.cG,Nd.eP]
 refine⟨fun h=>⟨?_,rfl⟩,fun h1=>⟨fun h=>⟨?_,rfl⟩,fun h2=>⟨fun h=>⟨fun h'=>⟨?_,rfl⟩,fun h3=>⟨fun h'=>⟨?_,rfl⟩,fun h4=>⟨fun h'=>⟨?_,rfl⟩,fun h5=>⟨fun h'=>⟨?_,rfl⟩,fun h6=>⟨?_,rfl⟩⟩⟩⟩⟩,fun h=>⟨?_,rfl⟩⟩⟩⟩
 all_goals (try simp only[decide_eq_true_eq,decide_eq_false_iff_not,beq_iff_eq,beq_eq_false_iff_ne] at *)
 all_goals (congr 2;(repeat' split)<;>first | rfl | omega)
theorem BJ:P.underlying 199=some (.struct (P.fieldsOf 199)):=by kernel_rfl
theorem BK:P.stoodInHeld 199=false:=by kernel_rfl
theorem BL:P.eqGuardType P.depth 199=false:=by kernel_rfl
def IE(k o ty n f:Int)(s:ByteArray)(k' o' ty' n' f':Int)(s':ByteArray):Bool:=k==k'&&(o==o'&&(ty==ty'&&(n==n'&&(f==f'&&(s.toList==s'.toList&&true)))))
theorem DQ(k o ty n f:Int)(s:ByteArray)(k' o' ty' n' f':Int)(s':ByteArray) :
  oR P #[.int .u8 k,.int .u8 o,.int .u8 ty,.int .i64 n,.int .u8 f,.string s] #[.int .u8 k',.int .u8 o',.int .u8 ty',.int .i64 n',.int .u8 f',.string s'] (P.fieldsOf 199).toList=some (IE k o ty n f s k' o' ty' n' f' s'):=by kernel_rfl
theorem z6(k o ty n f:Int)(s:ByteArray)(k' o' ty' n' f':Int)(s':ByteArray){x y:Operand} :
  cU P .eql 199 x y (.agg #[.int .u8 k,.int .u8 o,.int .u8 ty,.int .i64 n,.int .u8 f,.string s]) (.agg #[.int .u8 k',.int .u8 o',.int .u8 ty',.int .i64 n',.int .u8 f',.string s']) (IE k o ty n f s k' o' ty' n' f' s') :=
 vB BJ BK BL (DQ ..)
theorem ui.use{Pr:Program}{f:FuncId}{args:Array Value}{I:cc}{F:b8}{b:Bool}{err:Int}{Q:Ending→cc→b8→Prop}(h:cf Pr f args I F (ui b err F))
  (k1:b=true→∀I',cc.le I I'→Q (.returned (.tuple #[])) I' F) (k2:b=false→∀I',cc.le I I'→Q (.panicked (nH err)) I' F):cf Pr f args I F Q :=
 h.mono fun e I' G hl ⟨he,hG⟩=>by
  subst hG
  cases hb:b with
  | true=>rw[hb] at he;subst he;exact k1 hb I' hl
  | false=>rw[hb] at he;subst he;exact k2 hb I' hl
def xJ(t:Nd)(kids:Int)(is:Bool)(k o ty n f:Int)(s:ByteArray):Bool:=is&&(IE k o ty n f s t.kind t.oper t.cO t.n t.field t.name&&decide (t.kids.length=kids.toNat))
theorem vN:∀(t:Nd),t.px.size≤4194304→∀(I:cc) (F:b8),cC I F t→cf P 97 #[t.v] I F (ui t.px.formed 120 F):=by
 refine Nd.ind fun t ih hs I F ht=>?_
 have hln:=iK hs
 refine pK.vc (fun kids is k o ty n f s I' F'=>xJ t kids is k o ty n f s=t.px.gO∧0≤kids∧F'=F)
  (fun i m I' F'=>0≤i∧i≤t.kids.length∧m=(t.kids.length-i).toNat∧t.px.formed=Px.gU ((t.kids.drop i.toNat).map Nd.px)∧F'=F) ?_
 unfold pK.V
 intro b_n b_want
 refine⟨?_,fun kids is k o ty n f s I3 F3 hI3 ⟨hw,hk0,hF⟩=>?_⟩
 ·unfold xJ IE Px.gO Px.zV Px.EY Px.arity
  simp only[Nd.cG,Nd.eP,Nd.gJ,Nd.xb,Nd.gQ,Nd.fF,Nd.ja]
  have zb:∀x:Int,(0==x)=(x==0):=fun x=>by rw[Bool.eq_iff_iff];simp only[beq_iff_eq];omega
  have sb:∀s:ByteArray,((⟨#[]⟩:ByteArray).toList==s.toList)=(s.toList==[]):=fun s=>by rw[dF,Bool.eq_iff_iff];simp only[beq_iff_eq];exact eq_comm
  refine⟨fun h=>cf.ret (xe t I _) fun I1 hI1=>⟨_,rfl,F,.refl _, ?_,Int.le_refl 0,rfl⟩,fun h1=>⟨fun h=>cf.ret (xH (t:=t.name) I _) fun I1 hI1=>⟨_,rfl,F,.refl _, ?_,Int.le_refl 0,rfl⟩,
   fun h2=>⟨fun h=>⟨fun h'=>⟨fun h''=>⟨?_,by decide,by trivial⟩,fun h''=>⟨fun h3'=>⟨?_,by decide,by trivial⟩,fun h3'=>⟨?_,by decide,by trivial⟩⟩⟩,fun h'=>⟨?_,by decide,by trivial⟩⟩,
   fun h3=>⟨fun h=>⟨fun h'=>⟨fun h''=>⟨?_,by decide,by trivial⟩,fun h''=>⟨fun h3'=>⟨?_,by decide,by trivial⟩,fun h3'=>⟨?_,by decide,by trivial⟩⟩⟩,fun h'=>⟨?_,by decide,by trivial⟩⟩,
   fun h4=>⟨fun h=>⟨fun h'=>⟨?_,by decide,by trivial⟩,fun h'=>⟨?_,by decide,by trivial⟩⟩,
   fun h5=>⟨fun h=>⟨fun h'=>⟨?_,by decide,by trivial⟩,fun h'=>⟨?_,by decide,by trivial⟩⟩,
   fun h6=>⟨fun h=>⟨?_,by decide,by trivial⟩,
   fun h7=>⟨fun h=>⟨fun h'=>⟨fun h''=>⟨?_,by decide,by trivial⟩,fun h''=>⟨?_,by decide,by trivial⟩⟩,fun h'=>⟨fun h''=>⟨?_,by decide,by trivial⟩,fun h''=>⟨?_,by decide,by trivial⟩⟩⟩,
   fun h8=>⟨fun h=>⟨fun h'=>⟨?_,by decide,by trivial⟩,fun h'=>⟨?_,by decide,by trivial⟩⟩,
   fun h9=>⟨?_,by decide,by trivial⟩⟩⟩⟩⟩⟩⟩⟩⟩⟩
  all_goals first
   | (simp only[beq_iff_eq] at h
      try simp only[decide_eq_true_eq,decide_eq_false_iff_not,beq_iff_eq,beq_eq_false_iff_ne] at h'
      try simp only[decide_eq_true_eq,decide_eq_false_iff_not,beq_iff_eq,beq_eq_false_iff_ne] at h''
      try simp only[decide_eq_true_eq,decide_eq_false_iff_not,beq_iff_eq,beq_eq_false_iff_ne] at h3'
      simp[*,Bool.and_assoc]
      done)
   | (exfalso
      simp only[decide_eq_true_eq,decide_eq_false_iff_not,beq_iff_eq,beq_eq_false_iff_ne] at *
      omega)
   | skip
  ·have h:t.kind=3:=by simpa using h
   have h':=of_decide_eq_true h'
   have h'':=of_decide_eq_true h''
   have:decide (1≤t.field∧t.field≤6)=true:=decide_eq_true (by omega)
   simp[h,this,zb,sb,Bool.and_assoc]
  ·have h:t.kind=5:=by simpa using h
   have h':t.oper≠1:=by simpa using h'
   have:decide (t.oper=1∨t.oper=2)=(t.oper==2):=by rw[Bool.eq_iff_iff];simp[h']
   simp[h,this,zb,sb,Bool.and_assoc]
  ·have e1:t.kind≠1:=by simpa using h1
   have e2:t.kind≠2:=by simpa using h2
   have e3:t.kind≠3:=by simpa using h3
   have e4:t.kind≠4:=by simpa using h4
   have e5:t.kind≠5:=by simpa using h5
   have e6:t.kind≠6:=by simpa using h6
   have e7:t.kind≠7:=by simpa using h7
   have e8:t.kind≠8:=by simpa using h8
   have e9:t.kind≠9:=by simpa using h9
   simp[e1,e2,e3,e4,e5,e6,e7,e8,e9]
 ·subst hF
  refine⟨fun his=>⟨_,_,_,_,_,_,(vM t I3 _).xI,_,z6 k o ty n f s t.kind t.oper t.cO t.n t.field t.name,fun hq=>ui.use (mG _ 120 I3 _) (fun hb I5 hI5=>.inl ⟨rfl,F3,.refl _, ?_⟩) (fun hb I5 hI5=>.inr ⟨_,rfl,F3,.refl _, ?_,rfl⟩),
   fun hq=>ui.use (mG _ 120 I3 _) (fun hb I5 hI5=>by cases hb) (fun hb I5 hI5=>.inr ⟨_,rfl,F3,.refl _, ?_,rfl⟩)⟩,
   fun his=>ui.use (mG _ 120 I3 _) (fun hb I5 hI5=>by cases hb) (fun hb I5 hI5=>.inr ⟨_,rfl,F3,.refl _, ?_,rfl⟩)⟩
  ·have hone:t.px.gO=true:=by
    rw[←hw,xJ,his,hq,Bool.true_and,Bool.true_and,decide_eq_true_iff]
    have:(t.kids.length:Int)=kids:=by simpa using hb
    omega
   refine⟨⟨_,by omega,by omega,rfl,by rw[Px.er,hone,Nd.db];rfl,rfl⟩,fun x m I6 F5 hI6 ⟨g0,g1,gm,gf,gF⟩=>⟨fun hlt=>?_,fun hlt=>⟨?_,gF⟩⟩⟩
   ·have hlt:=of_decide_eq_true hlt
    subst gF
    have ht1:cC I6 ((b_n,.cells t.enc.toArray 28 (0,0))::(b_want,.cells #[.int .u8 k,.int .u8 o,.int .u8 ty,.int .i64 n,.int .u8 f,.string s] 199 (0,0))::F5) t:=(ht.mono (cc.le_trans hI3 (cc.le_trans hI5 hI6)) fun _ h=>h).cons.cons
    obtain⟨ad,y,had,hy,hrd,hyo,hym⟩:=ht1.kids.at g0 hlt
    refine⟨⟨g0,hlt⟩,ad,had,_,_,_,_,_,_,_,_,_,_,hrd,fun b_k=>ui.use (ih y hym (fT hym hs) I6 _ (hyo.mono (cc.le_refl _) fun z hz=>by
      rcases List.mem_cons.1 hz with hz | hz
      ·exact hz▸List.mem_cons_self ..
      ·rcases List.mem_cons.1 hz with hz | hz
       ·exact List.mem_cons_of_mem _ (hz▸List.mem_cons_self ..)
       ·exact List.mem_cons_of_mem _ (List.mem_cons_of_mem _ (List.mem_cons_of_mem _ hz))))
     (fun hb2 I7 hI7=>.inl ⟨rfl,F5,.refl _,(t.kids.length-(x+1)).toNat,by omega, ?_⟩) (fun hb2 I7 hI7=>.inr ⟨_,rfl,F5,.refl _, ?_,rfl⟩)⟩
    ·rw[cY (n:=x+1) (by omega)]
     refine⟨by omega,by omega,rfl, ?_,rfl⟩
     rw[gf,fS hy,Px.gU,hb2,show (x+1).toNat=x.toNat+1 by omega];rfl
    ·rw[gf,fS hy,Px.gU,hb2];rfl
   ·have hlt:=of_decide_eq_false hlt
    rw[gf,mF (by omega),Px.gU];rfl
  ·have hone:t.px.gO=false:=by
    rw[←hw,xJ,decide_eq_false (fun e=>by
     have:(t.kids.length:Int)=kids:=by omega
     rw[this] at hb;simp at hb)];simp
   rw[Px.er,hone];rfl
  ·have hone:t.px.gO=false:=by rw[←hw,xJ,hq];simp
   rw[Px.er,hone];rfl
  ·have hone:t.px.gO=false:=by rw[←hw,xJ,his];rfl
   rw[Px.er,hone];rfl
theorem DR(t:Nd)(hs:t.px.size≤1048576)(I:cc)(F:b8)(ht:cC I F t):cf P 97 #[t.v] I F (ui t.px.formed 120 F):=vN t (by omega) I F ht
theorem z7(x:Px):(x.kind=7∧x.level=1)∨(x.kind=5∧x.level=7)∨(x.kind=6∧2≤x.level∧x.level≤6)∨(x.kind≠5∧x.kind≠6∧x.kind≠7∧x.level=8):=by
 unfold Px.level;(repeat' split)<;>omega
theorem BM(t:Nd)(i:Int)(h0:0≤i)(h1:i≤4194304)(I:cc)(F:b8):cf P 129 #[t.v,.int .i64 i] I F (dS (.int .i64 (t.px.asks i)) F):=by
 refine nF.vc ?_
 unfold nF.V
 intro b_n
 have hc:=z7 t.px
 refine cf.ret (tM t I _) fun I1 hI1=>⟨_,rfl,F,.refl _, ?_⟩
 unfold Px.asks
 rw[Nd.cG] at hc ⊢
 refine⟨fun h=>⟨fun h'=>⟨?_,rfl⟩,fun h'=>⟨fun h2=>⟨?_,rfl⟩,fun h2=>⟨fun h3=>⟨?_,rfl⟩,fun h3=>⟨fun h4=>⟨?_,rfl⟩,fun h4=>⟨fun h5=>⟨?_,rfl⟩,fun h5=>⟨?_,rfl⟩⟩⟩⟩⟩⟩,
  fun h=>⟨fun h2=>⟨?_,rfl⟩,fun h2=>⟨fun h3=>⟨?_,rfl⟩,fun h3=>⟨fun h4=>⟨?_,rfl⟩,fun h4=>⟨fun h5=>⟨?_,rfl⟩,fun h5=>⟨?_,rfl⟩⟩⟩⟩⟩⟩
 all_goals (try simp only[decide_eq_true_eq,decide_eq_false_iff_not,beq_iff_eq,beq_eq_false_iff_ne] at *)
 all_goals (congr 2;(repeat' split)<;>first | rfl | omega | (rw[cY (by omega)]))
theorem rW:∀(t:Nd),t.px.size≤4194304→t.px.formed=true→∀(I:cc) (F:b8),cC I F t→cf P 99 #[t.v] I F (dS (.int .i64 t.px.depth) F):=by
 refine Nd.ind fun t ih hs hf I F ht=>?_
 have hln:=iK hs
 refine nG.vc (fun most i m I' F'=>0≤i∧i≤t.kids.length∧m=(t.kids.length-i).toNat∧0≤most∧most≤16777216∧t.px.depth=Px.gK t.px i ((t.kids.drop i.toNat).map Nd.px) most∧F'=F) ?_
 unfold nG.V
 intro b_n
 refine⟨⟨_,by omega,by omega,rfl,by omega,by omega, ?_,rfl⟩,fun most i m I1 F1 hI ⟨g0,g1,gm,g2,g3,gf,gF⟩=>⟨fun hlt=>?_,fun hlt=>⟨?_,gF⟩⟩⟩
 ·rw[Px.vG,Nd.db];rfl
 ·have hlt:=of_decide_eq_true hlt
  subst gF
  have ht1:cC I1 ((b_n,.cells t.enc.toArray 28 (0,0))::F1) t:=(ht.mono hI fun _ h=>h).cons
  obtain⟨ad,x,had,hx,hrd,hxo,hxm⟩:=ht1.kids.at g0 hlt
  have hxp:x.px∈t.px.kids:=by rw[Nd.db];exact List.mem_map_of_mem hxm
  have hkd:=Px.tK hf (fun e=>by rw[e] at hxp;cases hxp)
  rw[Nd.cG] at hkd
  have hdr:=tL x.px
  have hsz:=fT hxm hs
  have hxo2:∀b_k:Nat,cC I1 ((b_n,.cells t.enc.toArray 28 (0,0))::(b_k,.cells x.enc.toArray 28 (0,0))::F1) x:=fun b_k=>hxo.mono (cc.le_refl _) fun z hz=>by
   rcases List.mem_cons.1 hz with hz | hz
   ·exact hz▸List.mem_cons_self ..
   ·exact List.mem_cons_of_mem _ (List.mem_cons_of_mem _ hz)
  refine⟨⟨g0,hlt⟩,ad,had,_,_,_,_,_,_,_,_,_,_,hrd,fun b_k=>cf.ret (ih x hxm hsz (Px.ib hf _ hxp) I1 _ (hxo2 b_k)) fun I2 hI2=>⟨_,rfl,F1,.refl _,
   _,(tM x I2 _).xI,_,(BM t i g0 (by omega) I2 _).xI, ?_⟩⟩
  have key:∀D:Int,D=x.px.depth+t.px.yu x.px i →
    (∃m2:Nat,m2<m∧(0≤IntKind.wrap .i64 (i+1)∧IntKind.wrap .i64 (i+1)≤t.kids.length∧m2=(t.kids.length-IntKind.wrap .i64 (i+1)).toNat∧0≤(if D>most then D else most)∧(if D>most then D else most)≤16777216 ∧
     t.px.depth=Px.gK t.px (IntKind.wrap .i64 (i+1)) ((t.kids.drop (IntKind.wrap .i64 (i+1)).toNat).map Nd.px) (if D>most then D else most)∧F1=F1)):=by
   intro D hD
   have har:=rb t.px x.px i
   rw[cY (n:=i+1) (by omega)]
   rw[fS hx,Px.gK,←hD] at gf
   have hmx:(if D>most then D else most)=max most D:=by split<;>omega
   rw[hmx]
   refine⟨(t.kids.length-(i+1)).toNat,by omega,by omega,by omega,rfl,by omega,by omega, ?_,rfl⟩
   rw[gf,show (i+1).toNat=i.toNat+1 by omega]
  have e1:IntKind.wrap .i64 (x.px.depth+1)=x.px.depth+1:=cY (by omega)
  have e2:IntKind.wrap .i64 (x.px.depth+1+1)=x.px.depth+1+1:=cY (by omega)
  have em:(if 1<i then 1 else i)=if 0<i then (1:Int) else 0:=by (repeat' split)<;>omega
  have e3:IntKind.wrap .i64 (x.px.depth+(if 1<i then 1 else i))=x.px.depth+(if 1<i then 1 else i):=cY (by (repeat' split)<;>omega)
  have e4:IntKind.wrap .i64 (x.px.depth+1+(if 1<i then 1 else i))=x.px.depth+1+(if 1<i then 1 else i):=cY (by (repeat' split)<;>omega)
  rw[e1,e2,e3,e4]
  unfold Px.yu at key
  rw[Nd.cG] at key
  refine⟨fun hb=>⟨fun h=>key _ ?_,fun h1=>⟨fun h=>key _ ?_,fun h2=>key _ ?_⟩⟩,fun hb=>⟨fun h=>key _ ?_,fun h1=>⟨fun h=>key _ ?_,fun h2=>key _ ?_⟩⟩⟩
  all_goals clear key gf
  all_goals (simp only[decide_eq_true_eq,decide_eq_false_iff_not,beq_iff_eq,beq_eq_false_iff_ne] at *)
  all_goals ((repeat' split)<;>omega)
 ·have hlt:=of_decide_eq_false hlt
  rw[gf,mF (by omega),Px.gK]
theorem vO(t:Nd)(hs:t.px.size≤4194304)(I:cc)(F:b8)(ht:cC I F t):cf P 59 #[t.v] I F fun e I' G=>e=(if t.px.dj=0 then .returned (.tuple #[]) else .panicked (nH t.px.dj))∧G=F:=by
 refine pL.vc ?_
 unfold pL.V
 intro b_n
 unfold Px.dj
 refine ui.use (vN t hs I _ ht.cons) (fun hb I1 hI1=>.inl ⟨rfl,F,.refl _,cf.ret (rW t hs hb I1 _ (ht.mono hI1 fun _ h=>h).cons) fun I2 hI2=>⟨_,rfl,F,.refl _,
  ui.use (mG _ 122 I2 _) (fun h2 I3 hI3=>.inl ⟨rfl,F,.refl _, ?_,rfl⟩) (fun h2 I3 hI3=>.inr ⟨_,rfl,F,.refl _, ?_,rfl⟩)⟩⟩) (fun hb I1 hI1=>.inr ⟨_,rfl,F,.refl _, ?_,rfl⟩)
 ·have h2:=of_decide_eq_true h2
  rw[if_pos hb,show (if 24<t.px.depth then (122:Int) else 0)=0 from if_neg (by omega)];rfl
 ·have h2:=of_decide_eq_false h2
  rw[if_pos hb,show (if 24<t.px.depth then (122:Int) else 0)=122 from if_pos (by omega)];rfl
 ·rw[hb];rfl
theorem Hc(t:Nd)(hs:t.px.size≤1048576)(hf:t.px.formed=true)(I:cc)(F:b8)(ht:cC I F t):cf P 99 #[t.v] I F (dS (.int .i64 t.px.depth) F):=rW t (by omega) hf I F ht
theorem xK(t:Nd)(hs:t.px.size≤1048576)(I:cc)(F:b8)(ht:cC I F t):cf P 59 #[t.v] I F fun e I' G=>e=(if t.px.dj=0 then .returned (.tuple #[]) else .panicked (nH t.px.dj))∧G=F:=vO t (by omega) I F ht
theorem z8{t:Nd}(hs:t.px.size≤4194304){I:cc}{F:b8}(ht:cC I F t){c:Addr}(hc:Rd I F c t.enc) :
  cf P 58 #[.pointer (some c)] I F fun e I' G=>e=(if t.px.dj=0 then .returned (.tuple #[]) else .panicked (nH t.px.dj))∧G=F:=by
 refine fY.vc ?_
 unfold fY.V
 refine⟨_,_,_,_,_,_,_,_,_,_,hc,(vO t hs I F ht).mono fun e I1 G hl ⟨he,hG⟩=>?_⟩
 subst hG
 by_cases h:t.px.dj=0
 ·rw[if_pos h] at he
  exact .inl ⟨he,G,.refl _,by rw[if_pos h],rfl⟩
 ·rw[if_neg h] at he
  exact .inr ⟨_,he,G,.refl _,by rw[if_neg h],rfl⟩
end Go.Lx
