import Derived.Test.YtmbkaikdndflbaaGreatDoorCostPartsB1
set_option linter.unusedVariables false
set_option linter.unusedSimpArgs false
set_option linter.unusedSectionVars false
set_option maxRecDepth 100000
namespace Go.Vc
def oH(o:Oper):Bool:=match o.op with
 | .move _ | .assign _ | .pick .. | .fieldAddr .. | .indexAddr .. | .extract .. | .field .. | .nilCheck _ | .binOp .. | .unOp .. | .makeFunc .. | .index .. | .slice .. | .makeInterface .. | .build .. => true
 | .call c=>match c.callee with
   | .builtin .len=>true
   | .builtin .cap=>true
   | _=>false
 | _=>false
def EH:List (Nat×List Nat)→Nat→Option (List Nat)
 | [],_=>none
 | (r,l)::t,n=>cond (r==n) (some l) (EH t n)
def EI:List (Nat×Nat×Nat×List Nat×List Nat)→Nat→Option (Nat×Nat×List Nat×List Nat)
 | [],_=>none
 | (r,x)::t,n=>cond (r==n) (some x) (EI t n)
def EJ:List (Nat×List Nat×Ot)→Nat→Option (List Nat×Ot)
 | [],_=>none
 | (r,x)::t,n=>cond (r==n) (some x) (EJ t n)
def EK:List (Nat×List Nat×Nat)→Nat→Option (List Nat×Nat)
 | [],_=>none
 | (r,x)::t,n=>cond (r==n) (some x) (EK t n)
def EL:List (Nat×Nat)→Nat→Option Nat
 | [],_=>none
 | (r,l)::t,n=>cond (r==n) (some l) (EL t n)
def cc.no(I:cc):cc:=⟨fun _=>none,I.os,I.out⟩
theorem uX(I:cc)(w:World):Reads I.no [] w:=by
 intro ad cs h j hj
 obtain⟨_,cells,t,fz,h1 | h1,_⟩:=h
 ·cases h1
 ·cases h1
def fw(P:Program)(A:mD)(rid:Nat)(ops:Array Oper):List Nat→S→cc→bZ→(S→cc→bZ→Prop)→Prop
 | [],σ,I,F,K=>K σ I F
 | i::r,σ,I,F,K=>match ops[i]? with
   | none=>False
   | some o=>match want ops σ o with
     | some true=>cond (oH o)
        (kf P A.shp o σ I.no [] (List.range σ.own.length) fun av=>nf A rid i o.dst av σ fun σ'=>fw P A rid ops r σ' I F K)
        (DN P A rid i o σ I F (fun σ' I' F'=>fw P A rid ops r σ' I' F' K) (fun _ _ _ _=>False))
     | some false=>fw P A rid ops r (σ.put o.dst (some (.a (.v undef)))) I F K
     | none=>False
def iN(P:Program)(A:mD)(rid:Nat)(ops:Array Oper)(os:List Nat)(I0:cc)(n0:Nat):List Nat→S→cc→bZ→(S→cc→bZ→Prop)→Prop
 | [],σ,I,F,K=>K σ I F
 | i::r,σ,I,F,K=>match ops[i]? with
   | none=>False
   | some o=>match want ops σ o with
     | some true=>cond (os.contains i)
        (kf P A.shp o σ I0 [] ((List.range σ.own.length).drop n0) fun av=>nf A rid i o.dst av σ fun σ'=>iN P A rid ops os I0 n0 r σ' I F K)
        (cond (oH o)
          (kf P A.shp o σ I.no [] (List.range σ.own.length) fun av=>nf A rid i o.dst av σ fun σ'=>iN P A rid ops os I0 n0 r σ' I F K)
          (DN P A rid i o σ I F (fun σ' I' F'=>iN P A rid ops os I0 n0 r σ' I' F' K) (fun _ _ _ _=>False)))
     | some false=>iN P A rid ops os I0 n0 r (σ.put o.dst (some (.a (.v undef)))) I F K
     | none=>False
def qR(P:Program)(A:mD)(rid:Nat)(ops:Array Oper)(os:List Nat)(I0:cc)(n0:Nat)(N:List Nat→S→cc→bZ→Prop):Ot→S→cc→bZ→Prop
 | .fin pre post,σ,I,F=>iN P A rid ops os I0 n0 pre σ I F (N post)
 | .fork pre i j x y,σ,I,F=>iN P A rid ops os I0 n0 pre σ I F fun σ' I' F' =>
    iN P A rid ops os I0 n0 [i] σ' I' F' (fun s J G=>qR P A rid ops os I0 n0 N x s J G)∧iN P A rid ops os I0 n0 [j] σ' I' F' (fun s J G=>qR P A rid ops os I0 n0 N y s J G)
section
variable {P:Program} {A:mD} {rid:Nat} {ops:Array Oper}
theorem dt{ro:Option Nat}(hP:∀f,A.good f=true→cY P f){K:S→cc→bZ→Prop}{Q:Exit→Act→World→Prop}(hops:∀(i:Nat) (o:Oper),ops[i]? = some o→eF o.op=true) :
  ∀(l:List Nat) (σ:S) (I:cc) (F:bZ) (a:Act) (w:World),fw P A rid ops l σ I F K→Rel σ I F a w →
   (∀σ' I' F' a' w',Rel σ' I' F' a' w'→cc.le I I'→K σ' I' F'→cO (dp ops.toList) σ a σ' a'→Q .normal a' w') →
   pX P ro ops oH Q l a w
 | [],σ,I,F,a,w,h,hr,hN=>hN σ I F a w hr (cc.le_refl I) h (cO.refl _ _ _)
 | i::r,σ,I,F,a,w,h,hr,hN=>by
   simp only[fw] at h
   split at h
   ·exact h.elim
   ·rename_i o ho
    have hd:∀t,o.dst=some t→t∈dp ops.toList:=fun t ht=>by
     have hm:o∈ops.toList:=by have:=Array.mem_of_getElem? ho;simpa using this
     exact List.mem_filterMap.2 ⟨o,hm,ht⟩
    refine⟨o,ho, ?_⟩
    split at h
    ·rename_i hw
     rw[if_pos (ed hw hr.t)]
     cases hp:oH o with
     | true =>
       rw[if_pos rfl]
       rw[hp,cond_true] at h
       obtain⟨av,hk,hy⟩:=iL h
       obtain⟨av',hg,hwf',hk⟩:=jU hk
       have hwf:=hy.wf σ.own hr.wft hr.wfo
       refine⟨av.g,fun w'=>hy.run a w' hr.t hr.wft (fun j b hb hh=>?_) (uX I w'), ?_⟩
       ·have:j<σ.own.length:=(List.getElem?_eq_some_iff.1 hb).1
        have hc:(List.range σ.own.length).contains j=true:=by simpa using this
        rw[hc] at hh;cases hh
       ·have hr':Rel (σ.put o.dst (some av')) I F (a.put o.dst av.g) w:=hr.put o.dst hg (hwf' hwf)
        have hkp:cO (dp ops.toList) σ a (σ.put o.dst (some av')) (a.put o.dst av.g):=cO.put (cG.put _ _ _) _ _ _ hd
        exact dt hP hops r _ I F _ w hk hr' fun σ2 I2 F2 a2 w2 g1 g2 g3 g4=>hN σ2 I2 F2 a2 w2 g1 g2 g3 (hkp.trans g4)
     | false =>
       rw[if_neg (by simp)]
       rw[hp,cond_false] at h
       have hh:=oN (Q:=Q) hP h hr fun ch w' σ' I' F' h1 h2 h3 h4=>h3.elim
       refine qa (.inr (qL (hops i o ho))) ?_
       unfold BP at hh ⊢
       revert hh
       generalize (execOp a.eval o).run P w=res
       intro hh
       have step:∀a' w',gG o σ I a (fun σ' I' F'=>fw P A rid ops r σ' I' F' K) a' w'→pX P ro ops oH Q r a' w':=by
        intro a' w' ⟨σ',I',F',h1,h2,h3,h4,v,h5⟩
        have hk:cO (dp ops.toList) σ a σ' a':=cO.C1 h4 _ _ _ hd h5
        exact dt hP hops r σ' I' F' _ w' h3 h1
         (fun σ2 I2 F2 a2 w2 g1 g2 g3 g4=>hN σ2 I2 F2 a2 w2 g1 (cc.le_trans h2 g2) g3 (hk.trans g4))
       cases res with
       | ok n w' =>
         cases n<;>simp only[Oper.uponIn] at hh ⊢<;>first | exact step _ _ hh | exact hh.elim | skip
         ·refine⟨hh.1,hh.2.mono fun e w'' hq=>?_⟩
          cases e with
          | returned v=>exact step _ _ hq
          | panicked ch=>exact hq
          | outgrown=>exact hq
         ·refine⟨hh.1,hh.2.mono fun e w'' hq=>?_⟩
          cases e with
          | returned v=>exact step _ _ hq
          | panicked ch=>exact hq
          | outgrown=>exact hq
         ·exact⟨hh.1,hh.2.mono fun v w'' hq=>step _ _ hq⟩
       | halt x w'=>cases x<;>simp only[Oper.uponIn] at hh ⊢<;>first | exact hh | exact hh.elim
    ·rename_i hw
     rw[if_neg (by rw[ed hw hr.t];simp)]
     have hk:cO (dp ops.toList) σ a (σ.put o.dst (some (.a (.v undef)))) (a.put o.dst undef):=cO.put (cG.put _ _ _) _ _ _ hd
     exact dt hP hops r _ I F _ w h (hr.put o.dst (av:=.a (.v undef)) rfl trivial)
      (fun σ2 I2 F2 a2 w2 g1 g2 g3 g4=>hN σ2 I2 F2 a2 w2 g1 g2 g3 (hk.trans g4))
    ·exact h.elim
theorem xb{ro:Option Nat}(hP:∀f,A.good f=true→cY P f){id:Nat}{l:List Nat}{σ:S}{I:cc}{F:bZ}{K:S→cc→bZ→Prop}{a:Act}{w:World}(hm:P.follows .mixedOrders=true)
  (hB:DP ops oH l=true) (h:fw P A rid ops l σ I F K) (hr:Rel σ I F a w) {Q:Exit→Act→World→Prop}
  (hQ:∀σ' I' F' a' w',Rel σ' I' F' a' w'→cc.le I I'→K σ' I' F'→cO (dp ops.toList) σ a σ' a'→Q .normal a' w'):(Code.region id ops true).wpIn (Fw ro) 0 P Q a w:=by
 have hops:∀(i:Nat) (o:Oper),ops[i]? = some o→eF o.op=true:=fun i o ho=>by
  have hm:o∈ops.toList:=by have:=Array.mem_of_getElem? ho;simpa using this
  simp only[DP,Bool.and_eq_true] at hB
  have:=List.all_eq_true.1 hB.2 o hm
  simp only[Bool.and_eq_true] at this
  exact this.1
 have hr':Rel σ I F a { w with drawn:=w.drawn+1 }:=hr.s.rel (hr.sat.of_heap rfl ⟨rfl,rfl⟩)
 have hg:=dt (ro:=ro) (Q:=fun e a' w'=>e=.normal∧Q .normal a' w') hP hops l σ I F a _ h hr' fun σ' I' F' a' w' h1 h2 h3 h4=>⟨rfl,hQ σ' I' F' a' w' h1 h2 h3 h4⟩
 have:=AF (fun c a w h=>by cases h.1) hB hg
 exact wpIn_mono (wpIn_region_any hm this) fun e a' w' hq=>by obtain⟨rfl,hq⟩:=hq;exact hq
theorem uY{ro:Option Nat}(hP:∀f,A.good f=true→cY P f){id:Nat}{l:List Nat}{p q:Nat}{lA lB:List Nat}{σ:S}{I:cc}{F:bZ}{K:S→cc→bZ→Prop}{a:Act}{w:World}(hm:P.follows .mixedOrders=true)
  (hB:AG ops oH l p q lA lB=true) (h:fw P A rid ops l σ I F fun σ' I' F'=>fw P A rid ops (p::lA) σ' I' F' K∧fw P A rid ops (q::lB) σ' I' F' K) (hr:Rel σ I F a w) {Q:Exit→Act→World→Prop}
  (hQ:∀σ' I' F' a' w',Rel σ' I' F' a' w'→cc.le I I'→K σ' I' F'→cO (dp ops.toList) σ a σ' a'→Q .normal a' w'):(Code.region id ops true).wpIn (Fw ro) 0 P Q a w:=by
 have hops:∀(i:Nat) (o:Oper),ops[i]? = some o→eF o.op=true:=fun i o ho=>by
  have hm:o∈ops.toList:=by have:=Array.mem_of_getElem? ho;simpa using this
  simp only[AG,Bool.and_eq_true] at hB
  have:=List.all_eq_true.1 hB.2 o hm
  simp only[Bool.and_eq_true] at this
  exact this.1
 have hr':Rel σ I F a { w with drawn:=w.drawn+1 }:=hr.s.rel (hr.sat.of_heap rfl ⟨rfl,rfl⟩)
 have hg:=dt (ro:=ro) (Q:=Qx (C4 P ro ops oH (fun a w=>Q .normal a w) p q lA lB)) hP hops l σ I F a _ h hr' fun σ' I' F' a' w' h1 h2 h3 h4 =>
  ⟨dt (ro:=ro) (Q:=Qx fun a w=>Q .normal a w) hP hops (p::lA) σ' I' F' a' w' h3.1 h1 fun σ2 I2 F2 a2 w2 g1 g2 g3 g4=>hQ σ2 I2 F2 a2 w2 g1 (cc.le_trans h2 g2) g3 (h4.trans g4),
    dt (ro:=ro) (Q:=Qx fun a w=>Q .normal a w) hP hops (q::lB) σ' I' F' a' w' h3.2 h1 fun σ2 I2 F2 a2 w2 g1 g2 g3 g4=>hQ σ2 I2 F2 a2 w2 g1 (cc.le_trans h2 g2) g3 (h4.trans g4)⟩
 exact wpIn_mono (wpIn_region_any hm (zh hB hg)) fun e a' w' hq=>by
  cases e with
  | normal=>exact hq
  | _=>exact hq.elim
def sy(own0:List cV)(I0:cc)(w:World):Prop:=(∀(j:Nat) (b:cV),own0[j]? = some b→w.heap[b.num]? = some b.obj)∧∀(b:Nat) (o:Obj),I0 b=some o→w.heap[b]? = some o
def sB(own0:List cV)(σ:S):Prop:=∀(j:Nat) (b:cV),own0[j]? = some b→∃b':cV,σ.own[j]? = some b'∧b'.num=b.num∧b'.elem=b.elem∧b'.cells=b.cells∧b'.ro=true
theorem sB.keep{own0:List cV}{σ σ':S}(h:sB own0 σ)(k:cG σ σ'):sB own0 σ':=fun j b hb=>by
 obtain⟨b',h1,h2,h3,h4,h5⟩:=h j b hb
 obtain⟨b2,g1,g2,g3,g4⟩:=k j b' h1
 obtain⟨g5,g6⟩:=g4 h5
 exact⟨b2,g1,g2.trans h2,g3.trans h3,g6.trans h4,g5⟩
theorem sB.obj{own0:List cV}{σ:S}(h:sB own0 σ){j:Nat}{b b':cV}(hb:own0[j]? = some b)(hb':σ.own[j]? = some b'):b'.num=b.num∧b'.obj=b.obj:=by
 obtain⟨b2,h1,h2,h3,h4,h5⟩:=h j b hb
 rw[hb'] at h1
 obtain rfl:=Option.some.inj h1
 exact⟨h2,by unfold cV.obj;rw[h3,h4]⟩
theorem sB.inv{own0:List cV}{σ:S}{I0 I:cc}{F:bZ}{a:Act}{w:World}(h:sB own0 σ)(hr:Rel σ I F a w)(hl:cc.le I0 I):sy own0 I0 w:=⟨fun j b hb=>by
 obtain⟨b',h1,_⟩:=h j b hb
 obtain⟨e1,e2⟩:=h.obj hb h1
 rw[←e1,←e2]
 exact hr.sat.own _ _ (List.mem_append_left _ (List.mem_map.2 ⟨b',List.mem_of_getElem? h1,rfl⟩)),fun b o ho=>hr.sat.imm _ _ (hl.at ho)⟩
theorem zj{own0:List cV}{I0:cc}{w:World}(h:sy own0 I0 w):Reads I0 [] w:=by
 intro ad cs ⟨hsp,cells,e,fz,ho,hc⟩ j hj
 have hb:w.heap[ad.block]? = some (.cells cells e fz):=ho.elim (h.2 _ _) fun h=>by cases h
 unfold World.cell? Addr.add
 by_cases h0:j=0
 ·subst h0;simp[hb,hsp];have:=hc 0 hj;simpa using this
 ·simp[h0,hb];exact hc j hj
theorem du{ro:Option Nat}(hP:∀f,A.good f=true→cY P f){os:List Nat}{own0:List cV}{I0:cc}{K:S→cc→bZ→Prop}{R:Act→World→Prop}(hops:∀(i:Nat) (o:Oper),ops[i]? = some o→eF o.op=true) :
  ∀(l:List Nat) (σ:S) (I:cc) (F:bZ) (a:Act) (w:World),iN P A rid ops os I0 own0.length l σ I F K→Rel σ I F a w→sB own0 σ→cc.le I0 I →
   (∀σ' I' F' a' w',Rel σ' I' F' a' w'→cc.le I I'→K σ' I' F'→cO (dp ops.toList) σ a σ' a'→R a' w') →
   tP P ro ops oH R (sy own0 I0) os l a w
 | [],σ,I,F,a,w,h,hr,hH,hl,hN=>hN σ I F a w hr (cc.le_refl I) h (cO.refl _ _ _)
 | i::r,σ,I,F,a,w,h,hr,hH,hl,hN=>by
   simp only[iN] at h
   split at h
   ·exact h.elim
   ·rename_i o ho
    have hd:∀t,o.dst=some t→t∈dp ops.toList:=fun t ht=>List.mem_filterMap.2 ⟨o,by have:=Array.mem_of_getElem? ho;simpa using this,ht⟩
    show eh P ro ops oH R (sy own0 I0) os i (tP P ro ops oH R (sy own0 I0) os r) a w
    unfold eh
    by_cases hio:i∈os
    ·rw[if_pos hio]
     refine⟨o,ho, ?_⟩
     split at h
     ·rename_i hw
      rw[show os.contains i=true by simpa using hio,cond_true] at h
      obtain⟨av,hk,hy⟩:=iL h
      obtain⟨av',hg,hwf',hk⟩:=jU hk
      have hwf:=hy.wf σ.own hr.wft hr.wfo
      refine⟨av.g,⟨fun _ w' hI=>hy.run a w' hr.t hr.wft (fun j b hb hh=>?_) (zj hI),fun hn=>absurd (ed hw hr.t) hn⟩, ?_⟩
      ·have hj:j<σ.own.length:=(List.getElem?_eq_some_iff.1 hb).1
       have hj0:j<own0.length:=by
        rcases Nat.lt_or_ge j own0.length with h | h
        ·exact h
        ·have:((List.range σ.own.length).drop own0.length).contains j=true:=by
          simp only[List.contains_iff_mem]
          refine List.mem_iff_getElem?.2 ⟨j-own0.length, ?_⟩
          rw[List.getElem?_drop,show own0.length+(j-own0.length)=j by omega]
          simp[hj]
         rw[this] at hh;cases hh
       obtain⟨e1,e2⟩:=hH.obj (List.getElem?_eq_getElem hj0) hb
       rw[e1,e2]
       exact hI.1 j _ (List.getElem?_eq_getElem hj0)
      ·have hr':Rel (σ.put o.dst (some av')) I F (a.put o.dst av.g) w:=hr.put o.dst hg (hwf' hwf)
       have hkp:cO (dp ops.toList) σ a (σ.put o.dst (some av')) (a.put o.dst av.g):=cO.put (cG.put _ _ _) _ _ _ hd
       exact du hP hops r _ I F _ w hk hr' (hH.keep hkp.own) hl fun σ2 I2 F2 a2 w2 g1 g2 g3 g4=>hN σ2 I2 F2 a2 w2 g1 g2 g3 (hkp.trans g4)
     ·rename_i hw
      have hk:cO (dp ops.toList) σ a (σ.put o.dst (some (.a (.v undef)))) (a.put o.dst undef):=cO.put (cG.put _ _ _) _ _ _ hd
      refine⟨undef,⟨fun hn=>by (rw[ed hw hr.t] at hn;cases hn),fun _=>rfl⟩, ?_⟩
      exact du hP hops r _ I F _ w h (hr.put o.dst (av:=.a (.v undef)) rfl trivial) (hH.keep hk.own) hl
       (fun σ2 I2 F2 a2 w2 g1 g2 g3 g4=>hN σ2 I2 F2 a2 w2 g1 g2 g3 (hk.trans g4))
     ·exact h.elim
    ·rw[if_neg hio]
     refine⟨o,ho, ?_⟩
     split at h
     ·rename_i hw
      rw[if_pos (ed hw hr.t)]
      rw[show os.contains i=false by simpa using hio,cond_false] at h
      cases hp:oH o with
      | true =>
        rw[if_pos rfl]
        rw[hp,cond_true] at h
        obtain⟨av,hk,hy⟩:=iL h
        obtain⟨av',hg,hwf',hk⟩:=jU hk
        have hwf:=hy.wf σ.own hr.wft hr.wfo
        refine⟨av.g,fun w'=>hy.run a w' hr.t hr.wft (fun j b hb hh=>?_) (uX I w'), ?_⟩
        ·have:j<σ.own.length:=(List.getElem?_eq_some_iff.1 hb).1
         have hc:(List.range σ.own.length).contains j=true:=by simpa using this
         rw[hc] at hh;cases hh
        ·have hr':Rel (σ.put o.dst (some av')) I F (a.put o.dst av.g) w:=hr.put o.dst hg (hwf' hwf)
         have hkp:cO (dp ops.toList) σ a (σ.put o.dst (some av')) (a.put o.dst av.g):=cO.put (cG.put _ _ _) _ _ _ hd
         have hH':=hH.keep hkp.own
         exact⟨hH'.inv hr' hl,du hP hops r _ I F _ w hk hr' hH' hl fun σ2 I2 F2 a2 w2 g1 g2 g3 g4=>hN σ2 I2 F2 a2 w2 g1 g2 g3 (hkp.trans g4)⟩
      | false =>
        rw[if_neg (by simp)]
        rw[hp,cond_false] at h
        have hh:=oN (Q:=Qx R) hP h hr fun ch w' σ' I' F' h1 h2 h3 h4=>h3.elim
        refine qa (.inr (qL (hops i o ho))) ?_
        unfold BP at hh ⊢
        revert hh
        generalize (execOp a.eval o).run P w=res
        intro hh
        have step:∀a' w',gG o σ I a (fun σ' I' F'=>iN P A rid ops os I0 own0.length r σ' I' F' K) a' w'→sy own0 I0 w'∧tP P ro ops oH R (sy own0 I0) os r a' w':=by
         intro a' w' ⟨σ',I',F',h1,h2,h3,h4,v,h5⟩
         have hk:cO (dp ops.toList) σ a σ' a':=cO.C1 h4 _ _ _ hd h5
         exact⟨(hH.keep h4).inv h1 (cc.le_trans hl h2),du hP hops r σ' I' F' _ w' h3 h1 (hH.keep h4) (cc.le_trans hl h2)
          (fun σ2 I2 F2 a2 w2 g1 g2 g3 g4=>hN σ2 I2 F2 a2 w2 g1 (cc.le_trans h2 g2) g3 (hk.trans g4))⟩
        cases res with
        | ok n w' =>
          cases n<;>simp only[Oper.uponIn] at hh ⊢<;>first | exact step _ _ hh | exact hh.elim | skip
          ·refine⟨hh.1,hh.2.mono fun e w'' hq=>?_⟩
           cases e with
           | returned v=>exact step _ _ hq
           | panicked ch=>exact hq
           | outgrown=>exact hq
          ·refine⟨hh.1,hh.2.mono fun e w'' hq=>?_⟩
           cases e with
           | returned v=>exact step _ _ hq
           | panicked ch=>exact hq
           | outgrown=>exact hq
          ·exact⟨hh.1,hh.2.mono fun v w'' hq=>step _ _ hq⟩
        | halt x w'=>cases x<;>simp only[Oper.uponIn] at hh ⊢<;>first | exact hh | exact hh.elim
     ·rename_i hw
      rw[if_neg (by rw[ed hw hr.t];simp)]
      have hk:cO (dp ops.toList) σ a (σ.put o.dst (some (.a (.v undef)))) (a.put o.dst undef):=cO.put (cG.put _ _ _) _ _ _ hd
      have hr':=hr.put o.dst (av:=.a (.v undef)) rfl trivial
      exact⟨(hH.keep hk.own).inv hr' hl,du hP hops r _ I F _ w h hr' (hH.keep hk.own) hl             (fun σ2 I2 F2 a2 w2 g1 g2 g3 g4=>hN σ2 I2 F2 a2 w2 g1 g2 g3 (hk.trans g4))⟩
     ·exact h.elim
theorem uZ{ro:Option Nat}(hP:∀f,A.good f=true→cY P f){id m n:Nat}{hid:List Nat}{σ:S}{I:cc}{F:bZ}{K:S→cc→bZ→Prop}{Kp:List PanicEntry→S→cc→bZ→Prop}{a:Act}{w:World}(hm:P.follows .mixedOrders=true)
  (hT:nS ops m=true) (hS:ops.toList.all (fun o=>eF o.op)=true) (hB:pC (ops.extract 0 m)=true)
  (h:wD P A rid (ops.extract 0 m) n hid (ops.extract 0 m).toList 0 σ I F fun σ' F'=>tJ P A rid ops (ops.toList.drop m) m σ' I F' K Kp) (hr:Rel σ I F a w) {Q:Exit→Act→World→Prop}
  (hQ:∀σ' I' F' a' w',Rel σ' I' F' a' w'→cc.le I I'→K σ' I' F'→cO (dp ops.toList) σ a σ' a'→Q .normal a' w')
  (hX:∀ch σ' I' F' a' w',Rel σ' I' F' a' w'→cc.le I I'→Kp ch σ' I' F'→cO (dp ops.toList) σ a σ' a'→Q (.panic ch) a' w'):(Code.region id ops true).wpIn (Fw ro) 0 P Q a w:=by
 have hr':Rel σ I F a { w with drawn:=w.drawn+1 }:=hr.s.rel (hr.sat.of_heap rfl ⟨rfl,rfl⟩)
 have hmm:m≤ops.size:=by
  simp only[nS,Bool.and_eq_true,decide_eq_true_eq] at hT
  exact hT.1
 have hsz:(ops.extract 0 m).size=m:=by simp;omega
 have hnd:(ops.toList.drop m).all (fun o=>qJ o.op)=true:=List.all_eq_true.2 fun o ho=>by
  have:=List.all_eq_true.1 hS o (List.mem_of_mem_drop ho)
  revert this;cases o.op<;>simp[eF,qJ]
 have hsub:∀t∈dp (ops.extract 0 m).toList,t∈dp ops.toList:=fun t ht=>by
  unfold dp at ht ⊢
  obtain⟨o,ho,he⟩:=List.mem_filterMap.1 ht
  refine List.mem_filterMap.2 ⟨o, ?_,he⟩
  rw[Array.toList_extract] at ho
  exact List.mem_of_mem_drop (List.mem_of_mem_take ho)
 have hsub2:∀t∈dp (ops.toList.drop m),t∈dp ops.toList:=fun t ht=>by
  unfold dp at ht ⊢
  obtain⟨o,ho,he⟩:=List.mem_filterMap.1 ht
  exact List.mem_filterMap.2 ⟨o,List.mem_of_mem_drop ho,he⟩
 have hlen:(ops.toList.drop m).length=ops.size-m:=by simp
 have heq:=wpOpsIn_eq_wpListIn (F:=Fw ro) (n:=0) (P:=P) (ops:=ops) (Q:=Q) (ops.toList.drop m) m (fun j=>by rw[List.getElem?_drop];simp)
 rw[hlen] at heq
 have hd:=qK (ro:=ro) (Q:=fun e a' w'=>e=.normal∧wpOpsIn (Fw ro) 0 P ops Q (List.range' m (ops.size-m)) a' w') hP hB h hr' fun σ' F' a' w' h1 h2 h3 =>
  ⟨rfl,by
    rw[heq]
    exact iM hP (ops.toList.drop m) m σ' I F' a' w' (.inr hnd) h2 h1 (fun σ2 I2 F2 a2 w2 g1 g2 g3 g4=>hQ σ2 I2 F2 a2 w2 g1 g2 g3 ((h3.mono hsub).trans (g4.mono hsub2)))
     (fun ch σ2 I2 F2 a2 w2 g1 g2 g3 g4=>hX ch σ2 I2 F2 a2 w2 g1 g2 g3 ((h3.mono hsub).trans (g4.mono hsub2)))⟩
 rw[hsz] at hd
 exact wpIn_region_any hm (zd hT (fun e a w hne h=>absurd h.1 hne) (fun a w h=>h.2) hd)
theorem jm{ro:Option Nat}(hP:∀f,A.good f=true→cY P f){os:List Nat}{own0:List cV}{I0:cc}{N:List Nat→S→cc→bZ→Prop}{R:Act→World→Prop}(hops:∀(i:Nat) (o:Oper),ops[i]? = some o→eF o.op=true) :
  ∀(t:Ot) (σ:S) (I:cc) (F:bZ) (a:Act) (w:World),qR P A rid ops os I0 own0.length N t σ I F→Rel σ I F a w→sB own0 σ→cc.le I0 I →
   (∀post σ' I' F' a' w',Rel σ' I' F' a' w'→cc.le I I'→N post σ' I' F'→cO (dp ops.toList) σ a σ' a'→pX P ro ops oH (Qx R) post a' w') →
   CI P ro ops oH R (sy own0 I0) os t a w
 | .fin pre post,σ,I,F,a,w,h,hr,hH,hl,hN=>du hP hops pre σ I F a w h hr hH hl fun σ' I' F' a' w' g1 g2 g3 g4=>hN post σ' I' F' a' w' g1 g2 g3 g4
 | .fork pre i j x y,σ,I,F,a,w,h,hr,hH,hl,hN =>
   du hP hops pre σ I F a w h hr hH hl fun σ' I' F' a' w' g1 g2 g3 g4 =>
    ⟨iu (R:=CI P ro ops oH R (sy own0 I0) os x) (du hP hops [i] σ' I' F' a' w' g3.1 g1 (hH.keep g4.own) (cc.le_trans hl g2) fun σ2 I2 F2 a2 w2 k1 k2 k3 k4 =>
      jm hP hops x σ2 I2 F2 a2 w2 k3 k1 ((hH.keep g4.own).keep k4.own) (cc.le_trans hl (cc.le_trans g2 k2)) fun post σ3 I3 F3 a3 w3 m1 m2 m3 m4=>hN post σ3 I3 F3 a3 w3 m1 (cc.le_trans g2 (cc.le_trans k2 m2)) m3 ((g4.trans k4).trans m4)),
     iu (R:=CI P ro ops oH R (sy own0 I0) os y) (du hP hops [j] σ' I' F' a' w' g3.2 g1 (hH.keep g4.own) (cc.le_trans hl g2) fun σ2 I2 F2 a2 w2 k1 k2 k3 k4 =>
      jm hP hops y σ2 I2 F2 a2 w2 k3 k1 ((hH.keep g4.own).keep k4.own) (cc.le_trans hl (cc.le_trans g2 k2)) fun post σ3 I3 F3 a3 w3 m1 m2 m3 m4=>hN post σ3 I3 F3 a3 w3 m1 (cc.le_trans g2 (cc.le_trans k2 m2)) m3 ((g4.trans k4).trans m4))⟩
end
end Go.Vc
namespace Go.Vc
theorem lp:∀{l:List Lf} {vs:List Value},dr l vs=true→vs.length=l.length
 | [],[],_=>rfl
 | l::r,v::vs,h=>by simp only[dr,Bool.and_eq_true] at h;simp[lp h.2]
 | [],_::_,h=>by simp[dr] at h
 | _::_,[],h=>by simp[dr] at h
theorem iO:∀{l m:List Lf} {vs us:List Value},dr l vs=true→dr m us=true→dr (l++m) (vs++us)=true
 | [],_,[],_,_,h=>h
 | l::r,_,v::vs,_,h,k=>by
   simp only[dr,Bool.and_eq_true,List.cons_append] at h ⊢
   exact⟨h.1,iO h.2 k⟩
 | [],_,_::_,_,h,_=>by simp[dr] at h
 | _::_,_,[],_,h,_=>by simp[dr] at h
theorem jK(σ:S):∀tms:List (Nat×Lf),(jJ σ tms).length=tms.length
 | []=>rfl
 | (t,l)::r=>by simp[jJ,jK σ r]
theorem qS{σ:S}:∀{tms:List (Nat×Lf)} {k t:Nat} {v:Value},wY σ tms=true→(tms.map Prod.fst)[k]? = some t→(jJ σ tms)[k]? = some v →
  ∃av,σ.tm[t]? = some (some av)∧av.g=v
 | [],k,t,v,_,h,_=>by simp at h
 | (s,l)::r,0,t,v,hok,h,hv=>by
   simp only[List.map_cons,List.getElem?_cons_zero,Option.some.injEq] at h
   subst h
   simp only[wY,Bool.and_eq_true] at hok
   simp only[jJ,List.getElem?_cons_zero,Option.some.injEq] at hv
   obtain⟨h1,_⟩:=hok
   split at h1
   ·rename_i av ha;rw[ha] at hv;exact⟨av,ha,hv⟩
   ·cases h1
 | (s,l)::r,k+1,t,v,hok,h,hv=>by
   simp only[wY,Bool.and_eq_true] at hok
   simp only[jJ,List.getElem?_cons_succ] at hv
   exact qS hok.2 (by simpa using h) hv
theorem sW{σ:S}:∀{tms:List (Nat×Lf)},wY σ tms=true→dr (tms.map Prod.snd) (jJ σ tms)=true
 | [],_=>rfl
 | (s,l)::r,h=>by
   simp only[wY,Bool.and_eq_true] at h
   simp only[List.map_cons,jJ,dr,Bool.and_eq_true]
   refine⟨?_,sW h.2⟩
   obtain⟨h1,_⟩:=h
   split at h1
   ·exact h1
   ·cases h1
theorem sX{own:List cV}:∀{bks:List (Nat×List Lf)},ni own bks=true→dr (bks.flatMap Prod.snd) (nh own bks)=true
 | [],_=>rfl
 | (s,l)::r,h=>by
   simp only[ni,Bool.and_eq_true] at h
   simp only[List.flatMap_cons,nh]
   refine iO ?_ (sX h.2)
   obtain⟨h1,_⟩:=h
   split at h1
   ·simp only[Bool.and_eq_true] at h1;exact h1.2
   ·cases h1
theorem qT{σ:S}{c:Cut}(h:σ.CH c=true):dr c.En (σ.jW c)=true:=by
 simp only[S.CH,Bool.and_eq_true] at h
 exact iO (sW h.1) (sX h.2)
theorem u5{own:List cV}:∀{bks:List (Nat×List Lf)} {i:Nat} {b:cV} {cs:List Value},ni own bks=true→own[i]? = some b →
  nR bks (nh own bks) i=some cs→cs=b.cells.map AV.g
 | [],i,b,cs,_,_,h=>by simp[nR] at h
 | (j,ls)::r,i,b,cs,hok,hi,h=>by
   simp only[ni,Bool.and_eq_true] at hok
   obtain⟨h1,h2⟩:=hok
   split at h1
   ·rename_i b' hb'
    simp only[Bool.and_eq_true] at h1
    have hl:=lp h1.2
    simp only[nR,nh,hb'] at h
    cases hji:(j==i) with
    | true =>
      rw[hji] at h
      simp only[cond_true,Option.some.injEq] at h
      have:j=i:=by simpa using hji
      subst this
      rw[hi] at hb';cases hb'
      rw[←h,←hl];simp
    | false =>
      rw[hji] at h
      simp only[cond_false] at h
      rw[←hl,List.drop_left] at h
      exact u5 h2 hi h
   ·cases h1
theorem qU:∀{bks:List (Nat×List Lf)} {vs us:List Value} {i:Nat},(nR bks vs i).isSome=(nR bks us i).isSome
 | [],_,_,_=>rfl
 | (j,ls)::r,vs,us,i=>by
   simp only[nR]
   cases (j==i) with
   | true=>rfl
   | false=>exact qU
theorem tR{own:List cV}:∀{bks:List (Nat×List Lf)} {vs:List Value} {i:Nat} {b:cV},ni own bks=true→own[i]? = some b→(nR bks vs i).isSome=true→b.ro=false
 | [],_,_,_,_,_,h=>by simp[nR] at h
 | (j,ls)::r,vs,i,b,hok,hi,h=>by
   simp only[ni,Bool.and_eq_true] at hok
   obtain⟨h1,h2⟩:=hok
   simp only[nR] at h
   cases hji:(j==i) with
   | true =>
     have:j=i:=by simpa using hji
     subst this
     rw[hi] at h1
     simp only[Bool.and_eq_true,Bool.not_eq_true'] at h1
     exact h1.1
   | false=>rw[hji] at h;exact tR h2 hi h
theorem AH(c:Cut)(l:List Nat)(vs:List Value)(σ:S):gH σ.own (σ.lay c l vs).own:=fun i b hb=>by
 refine⟨_,by show (dz _ _ 0 σ.own)[i]? = _;rw[er,hb];rfl, ?_⟩
 split<;>rfl
theorem AJ{c:Cut}{l:List Nat}{vs:List Value}{σ:S}(hok:ni σ.own c.bks=true):cG σ (σ.lay c l vs):=fun i b hb=>by
 refine⟨_,by show (dz _ _ 0 σ.own)[i]? = _;rw[er,hb];rfl, ?_⟩
 cases hs:nR c.bks (vs.drop c.tms.length) (0+i) with
 | none=>exact⟨rfl,rfl,fun _=>⟨rfl,rfl⟩⟩
 | some cs =>
   refine⟨rfl,rfl,fun hr=>?_⟩
   have:=tR (vs:=vs.drop c.tms.length) hok hb (by rw[Nat.zero_add] at hs;rw[hs];rfl)
   rw[this] at hr;cases hr
theorem Rel.lay{σ0 σ:S}{I0 I:cc}{F0 F:bZ}{a0 a:Act}{w0 w:World}(c:Cut)(l:List Nat)(hr0:Rel σ0 I0 F0 a0 w0)(hr:Rel σ I F a w)
  (hown:∀(i:Nat) (b:cV),σ0.own[i]? = some b→∃b':cV,σ.own[i]? = some b'∧b'.num=b.num∧b'.elem=b.elem ∧
    (nR c.bks ((σ.jW c).drop c.tms.length) i=none→b'.cells=b.cells))
  (htm:∀t,t∉l→a.tmps[t]? = a0.tmps[t]?) (hsz:a.tmps.size=a0.tmps.size) (hok:σ.CH c=true) (hdf:σ.df=σ0.df):Rel (σ0.lay c l (σ.jW c)) I F a w:=by
 have hok':=hok
 simp only[S.CH,Bool.and_eq_true] at hok'
 have hdrop:(σ.jW c).drop c.tms.length=nh σ.own c.bks:=by
  unfold S.jW;rw[←jK σ c.tms,List.drop_left]
 have htake:(σ.jW c).take c.tms.length=jJ σ c.tms:=by
  unfold S.jW;rw[←jK σ c.tms,List.take_left]
 have hsame:=AH c l (σ.jW c) σ0
 refine⟨?_, ?_,hr.defers.trans (by rw[hdf];rfl), ?_, ?_, ?_⟩
 ·simp only[S.lay,mP,mO];rw[hr0.size,hsz]
 ·intro t av ht
  rcases kj _ _ _ t av ht with ⟨k,v,h1,h2,rfl⟩ | h
  ·rw[htake] at h2
   obtain⟨av',h3,h4⟩:=qS hok'.1 h1 h2
   have:=hr.tm t av' h3
   rw[this,h4];rfl
  ·obtain⟨h1,h2⟩:=nj _ _ _ _ h
   rw[htm t h1];exact hr0.tm t av h2
 ·intro t av ht
  rcases kj _ _ _ t av ht with ⟨k,v,h1,h2,rfl⟩ | h
  ·trivial
  ·obtain⟨h1,h2⟩:=nj _ _ _ _ h
   exact AV.dE hsame (hr0.wft t av h2)
 ·intro i b hb cell hc
  have hb':(dz c.bks ((σ.jW c).drop c.tms.length) 0 σ0.own)[i]? = some b:=hb
  rw[er] at hb'
  cases h0:σ0.own[i]? with
  | none=>rw[h0] at hb';simp at hb'
  | some b0 =>
    rw[h0] at hb'
    simp only[Option.map_some,Option.some.injEq] at hb'
    subst hb'
    split at hc
    ·obtain⟨v,_,rfl⟩:=List.mem_map.1 hc;trivial
    ·exact AV.dE hsame (hr0.wfo i b0 h0 cell hc)
 ·have heq:cB (σ0.lay c l (σ.jW c)).own=(cB σ.own).take σ0.own.length:=by
   apply List.ext_getElem?
   intro i
   simp only[cB,List.getElem?_map,List.getElem?_take,S.lay,er,Nat.zero_add]
   cases h0:σ0.own[i]? with
   | none =>
     have:¬i<σ0.own.length:=fun h=>by simp[h] at h0
     simp[this]
   | some b0 =>
     have hlt:i<σ0.own.length:=by
      rcases Nat.lt_or_ge i σ0.own.length with h | h
      ·exact h
      ·simp[List.getElem?_eq_none h] at h0
     obtain⟨b',h1,h2,h3,h4⟩:=hown i b0 h0
     simp only[if_pos hlt,h1,Option.map_some]
     cases hs:nR c.bks ((σ.jW c).drop c.tms.length) i with
     | none =>
       have h5:=h4 hs
       simp[cV.obj,h2,h3,h5]
     | some cs =>
       have h5:=u5 hok'.2 h1 (by rw[hdrop] at hs;exact hs)
       simp[cV.obj,h2,h3,h5,AV.g,At.g,Function.comp_def]
  rw[heq]
  exact hr.sat.sub ((List.take_sublist _ _).append (List.Sublist.refl F))
theorem qV(own0:List cV):∀(i:Nat) (own:List cV),cB (yy own0 i own)=cB own
 | _,[]=>rfl
 | i,b::r=>by
   simp only[yy,cB,List.map_cons]
   have:=qV own0 (i+1) r
   unfold cB at this
   rw[this]
   congr 1
   split<;>rfl
theorem u6(own0:List cV)(own:List cV):gH own (yy own0 0 own):=fun i b hb=>by
 refine⟨_,by rw[lW,hb];rfl, ?_⟩
 split<;>rfl
theorem Rel.unlock{σ σ0:S}{I:cc}{F:bZ}{a:Act}{w:World}(h:Rel σ I F a w):Rel (σ.unlock σ0) I F a w:=by
 refine h.heap (u6 _ _) ?_ (by rw[qV];exact h.sat)
 intro i b hb c hc
 rw[lW] at hb
 cases h0:σ.own[i]? with
 | none=>rw[h0] at hb;simp at hb
 | some b0 =>
   rw[h0] at hb
   simp only[Option.map_some,Option.some.injEq] at hb
   have:b.cells=b0.cells:=by rw[←hb];split<;>rfl
   rw[this] at hc
   exact AV.dE (u6 _ _) (h.wfo i b0 h0 c hc)
theorem pF{σ0 σ:S}{c:Cut}{l:List Nat}{vs:List Value}(hok:ni σ0.own c.bks=true)(hk:cG (σ0.lay c l vs) σ):cG σ0 (σ.unlock σ0):=fun i b hb=>by
 obtain⟨b1,h1,e1,e2,h2⟩:=AJ (l:=l) (vs:=vs) hok i b hb
 obtain⟨b2,h3,e3,e4,h4⟩:=hk i b1 h1
 refine⟨{ b2 with ro:=b.ro }, ?_,e3.trans e1,e4.trans e2,fun hr=>?_⟩
 ·show (yy σ0.own 0 σ.own)[i]? = _
  rw[lW,h3,Nat.zero_add,hb];rfl
 ·obtain⟨h5,h6⟩:=h2 hr
  exact⟨hr,(h4 h5).2.trans h6⟩
def eK(bks:List (Nat×List Lf)):Nat→List cV→List cV
 | _,[]=>[]
 | i,b::r=>(match nR bks [] i with
   | some _=>b
   | none=>{ b with ro:=true })::eK bks (i+1) r
def S.lock(σ:S)(c:Cut):S:={ σ with own:=eK c.bks 0 σ.own }
theorem jn(bks:List (Nat×List Lf)):∀(i:Nat) (own:List cV) (j:Nat),(eK bks i own)[j]? = (own[j]?).map fun b =>
  match nR bks [] (i+j) with
  | some _=>b
  | none=>{ b with ro:=true }
 | i,[],j=>by simp[eK]
 | i,b::r,0=>by simp only[eK,List.getElem?_cons_zero,Option.map_some,Nat.add_zero]
 | i,b::r,j+1=>by
   simp only[eK,List.getElem?_cons_succ]
   rw[jn bks (i+1) r j,show i+1+j=i+(j+1) by omega]
theorem sY(bks:List (Nat×List Lf)):∀(i:Nat) (own:List cV),cB (eK bks i own)=cB own
 | _,[]=>rfl
 | i,b::r=>by
   simp only[eK,cB,List.map_cons]
   have:=sY bks (i+1) r
   unfold cB at this
   rw[this]
   congr 1
   split<;>rfl
theorem qd{σ:S}{c:Cut}{i:Nat}{b:cV}(hb:σ.own[i]? = some b):∃b',(σ.lock c).own[i]? = some b'∧b'.num=b.num∧b'.elem=b.elem∧b'.cells=b.cells ∧
  (b.ro=true→b'.ro=true)∧(nR c.bks [] i=none→b'.ro=true):=by
 refine⟨_,by show (eK _ 0 σ.own)[i]? = _;rw[jn,hb];rfl, ?_⟩
 rw[Nat.zero_add]
 cases nR c.bks [] i with
 | none=>exact⟨rfl,rfl,rfl,fun _=>rfl,fun _=>rfl⟩
 | some cs=>exact⟨rfl,rfl,rfl,fun h=>h,fun h=>by cases h⟩
theorem Rel.lock{σ:S}{I:cc}{F:bZ}{a:Act}{w:World}(h:Rel σ I F a w)(c:Cut):Rel (σ.lock c) I F a w:=by
 have hs:gH σ.own (σ.lock c).own:=fun i b hb=>by
  obtain⟨b',h1,h2,_⟩:=qd (c:=c) hb
  exact⟨b',h1,h2⟩
 refine h.heap hs ?_ (by show Sat I (cB (eK _ 0 _)++F) w;rw[sY];exact h.sat)
 intro i b hb cell hc
 cases h0:σ.own[i]? with
 | none =>
   have h1:(eK c.bks 0 σ.own)[i]? = some b:=hb
   rw[jn,h0] at h1;simp at h1
 | some b0 =>
   obtain⟨b',h1,_,_,h2,_⟩:=qd (c:=c) h0
   have:b'=b:=Option.some.inj (h1.symm.trans hb)
   subst this
   rw[h2] at hc
   exact AV.dE hs (h.wfo i b0 h0 cell hc)
theorem gV{σ0 σ:S}{c:Cut}(hk:cG (σ0.lock c) σ):cG σ0 (σ.unlock σ0):=fun i b hb=>by
 obtain⟨b1,h1,e1,e2,h2,h3,_⟩:=qd (c:=c) hb
 obtain⟨b2,h4,e3,e4,h5⟩:=hk i b1 h1
 refine⟨{ b2 with ro:=b.ro }, ?_,e3.trans e1,e4.trans e2,fun hr=>⟨hr,(h5 (h3 hr)).2.trans h2⟩⟩
 show (yy σ0.own 0 σ.own)[i]? = _
 rw[lW,h4,Nat.zero_add,hb];rfl
def S.dF(σ:S):S:=σ.lock ⟨[],[],fun _ _ _ _ _ _ _=>True,[],[]⟩
theorem dL(σ:S):sB σ.dF.own σ.dF:=fun j b hb=>by
 refine⟨b,hb,rfl,rfl,rfl, ?_⟩
 have hb':(eK [] 0 σ.own)[j]? = some b:=hb
 rw[jn] at hb'
 cases h0:σ.own[j]? with
 | none=>rw[h0] at hb';simp at hb'
 | some b0 =>
   rw[h0] at hb'
   simp only[Option.map_some,nR,Option.some.injEq] at hb'
   rw[←hb']
theorem jo(σ:S):σ.dF.own.length=σ.own.length:=by
 have h:∀(i:Nat) (own:List cV),(eK [] i own).length=own.length:=by
  intro i own
  induction own generalizing i with
  | nil=>rfl
  | cons b r ih=>simp[eK,ih]
 exact h 0 σ.own
theorem u7{P:Program}{A:mD}{rid:Nat}{ops:Array Oper}{ro:Option Nat}(hP:∀f,A.good f=true→cY P f){id:Nat}{os pre post:List Nat}{σ:S}{I:cc}{F:bZ}{K:S→cc→bZ→Prop}{a:Act}{w:World}(hm:P.follows .mixedOrders=true)
  (hB:C6 ops oH os pre post=true) (h:iN P A rid ops os I σ.own.length pre σ.dF I F fun σ' I' F'=>fw P A rid ops post (σ'.unlock σ) I' F' K) (hr:Rel σ I F a w) {Q:Exit→Act→World→Prop}
  (hQ:∀σ' I' F' a' w',Rel σ' I' F' a' w'→cc.le I I'→K σ' I' F'→cO (dp ops.toList) σ a σ' a'→Q .normal a' w'):(Code.region id ops true).wpIn (Fw ro) 0 P Q a w:=by
 have hops:∀(i:Nat) (o:Oper),ops[i]? = some o→eF o.op=true:=fun i o ho=>by
  have hm:o∈ops.toList:=by have:=Array.mem_of_getElem? ho;simpa using this
  simp only[C6,Bool.and_eq_true] at hB
  have:=List.all_eq_true.1 hB.2 o hm
  simp only[Bool.and_eq_true] at this
  exact this.1
 have hr1:Rel σ I F a { w with drawn:=w.drawn+1 }:=hr.s.rel (hr.sat.of_heap rfl ⟨rfl,rfl⟩)
 have hr':Rel σ.dF I F a { w with drawn:=w.drawn+1 }:=hr1.lock _
 rw[←jo] at h
 have hg:=du (ro:=ro) (R:=pX P ro ops oH (Qx fun a w=>Q .normal a w) post) hP hops pre σ.dF I F a _ h hr' (dL σ) (cc.le_refl I) fun σ' I' F' a' w' h1 h2 h3 h4 =>
  dt (ro:=ro) (Q:=Qx fun a w=>Q .normal a w) hP hops post (σ'.unlock σ) I' F' a' w' h3 h1.unlock fun σ2 I2 F2 a2 w2 g1 g2 g3 g4 =>
   hQ σ2 I2 F2 a2 w2 g1 (cc.le_trans h2 g2) g3 ((⟨gV h4.own,h4.tm,h4.size⟩:cO (dp ops.toList) σ a (σ'.unlock σ) a').trans g4)
 exact wpIn_mono (wpIn_region_any hm (sU hB ((dL σ).inv hr' (cc.le_refl I)) hg)) fun e a' w' hq=>by
  cases e with
  | normal=>exact hq
  | _=>exact hq.elim
def cc.del(I:cc)(b:Nat):cc:=⟨fun x=>if x=b then none else I x,I.os,I.out⟩
theorem Sat.xd{I I':cc}{F:bZ}{w:World}{b:Nat}{o:Obj}(hb:I b=none)(hl:cc.le (I.put b o) I')(h:Sat I' F w):cc.le I (I'.del b)∧Sat (I'.del b) ((b,o)::F) w:=by
 have ho:I' b=some o:=hl.at (by simp[cc.put])
 refine⟨⟨fun x y hx=>?_,hl.2.1,hl.2.2⟩,fun x y hx=>?_,fun x y hx=>?_,fun x y hx=>?_, ?_,h.env⟩
 ·have hne:x≠b:=fun e=>by rw[e,hb] at hx;cases hx
  show (if x=b then none else I' x)=some y
  rw[if_neg hne]
  exact hl.at (by simp[cc.put,hne,hx])
 ·have hx:(if x=b then none else I' x)=some y:=hx
  split at hx
  ·cases hx
  ·exact h.imm _ _ hx
 ·rcases List.mem_cons.1 hx with e | hx
  ·cases e;exact h.imm _ _ ho
  ·exact h.own _ _ hx
 ·show (if x=b then none else I' x)=none
  split
  ·rfl
  ·rename_i hne
   rcases List.mem_cons.1 hx with e | hx
   ·cases e;exact absurd rfl hne
   ·exact h.off _ _ hx
 ·rw[List.map_cons,List.nodup_cons]
  refine⟨fun hm=>?_,h.nd⟩
  obtain⟨⟨x,y⟩,hx,rfl⟩:=List.mem_map.1 hm
  have:=h.off _ _ hx
  rw[this] at ho;cases ho
theorem u9{P:Program}{A:mD}{rid:Nat}{ops:Array Oper}{ro:Option Nat}(hP:∀f,A.good f=true→cY P f){id:Nat}{os pre post:List Nat}{σ:S}{I:cc}{F F1:bZ}{b:Nat}{o:Obj}{K:S→cc→bZ→Prop}{a:Act}{w:World}(hm:P.follows .mixedOrders=true)
  (hB:C6 ops oH os pre post=true) (hp:F.Perm ((b,o)::F1)) (h:iN P A rid ops os (I.put b o) σ.own.length pre σ.dF (I.put b o) F1 fun σ' I' F'=>fw P A rid ops post (σ'.unlock σ) (I'.del b) ((b,o)::F') K) (hr:Rel σ I F a w) {Q:Exit→Act→World→Prop}
  (hQ:∀σ' I' F' a' w',Rel σ' I' F' a' w'→cc.le I I'→K σ' I' F'→cO (dp ops.toList) σ a σ' a'→Q .normal a' w'):(Code.region id ops true).wpIn (Fw ro) 0 P Q a w:=by
 have hops:∀(i:Nat) (o:Oper),ops[i]? = some o→eF o.op=true:=fun i o ho=>by
  have hm:o∈ops.toList:=by have:=Array.mem_of_getElem? ho;simpa using this
  simp only[C6,Bool.and_eq_true] at hB
  have:=List.all_eq_true.1 hB.2 o hm
  simp only[Bool.and_eq_true] at this
  exact this.1
 have hsat:Sat I ((b,o)::(cB σ.own++F1)) w:=hr.sat.perm ((hp.append_left _).trans List.perm_middle)
 have hIb:I b=none:=hsat.off _ _ (.head _)
 have hr1:Rel σ (I.put b o) F1 a { w with drawn:=w.drawn+1 }:=hr.s.rel (hsat.jl.2.of_heap rfl ⟨rfl,rfl⟩)
 have hr':Rel σ.dF (I.put b o) F1 a { w with drawn:=w.drawn+1 }:=hr1.lock _
 rw[←jo] at h
 have hg:=du (ro:=ro) (R:=pX P ro ops oH (Qx fun a w=>Q .normal a w) post) hP hops pre σ.dF (I.put b o) F1 a _ h hr' (dL σ) (cc.le_refl _) fun σ' I' F' a' w' h1 h2 h3 h4=>by
  have hu:=h1.unlock (σ0:=σ)
  obtain⟨d1,d2⟩:=Sat.xd hIb h2 hu.sat
  have hu':Rel (σ'.unlock σ) (I'.del b) ((b,o)::F') a' w':=hu.s.rel (d2.perm List.perm_middle.symm)
  exact dt (ro:=ro) (Q:=Qx fun a w=>Q .normal a w) hP hops post (σ'.unlock σ) (I'.del b) ((b,o)::F') a' w' h3 hu' fun σ2 I2 F2 a2 w2 g1 g2 g3 g4 =>
   hQ σ2 I2 F2 a2 w2 g1 (cc.le_trans d1 g2) g3 ((⟨gV h4.own,h4.tm,h4.size⟩:cO (dp ops.toList) σ a (σ'.unlock σ) a').trans g4)
 exact wpIn_mono (wpIn_region_any hm (sU hB ((dL σ).inv hr' (cc.le_refl _)) hg)) fun e a' w' hq=>by
  cases e with
  | normal=>exact hq
  | _=>exact hq.elim
theorem yD{b:Bool}{p q:Prop}(h:cond b p q):p∨q:=by
 cases b
 ·exact .inr h
 ·exact .inl h
theorem yE{ops:Array Oper}{os:List Nat}{t:Ot}(hB:C8 ops oH os t=true):∀(i:Nat) (o:Oper),ops[i]? = some o→eF o.op=true:=fun i o ho=>by
 have hm:o∈ops.toList:=by have:=Array.mem_of_getElem? ho;simpa using this
 simp only[C8,Bool.and_eq_true] at hB
 have:=List.all_eq_true.1 hB.2 o hm
 simp only[Bool.and_eq_true] at this
 exact this.1
theorem va{P:Program}{A:mD}{rid:Nat}{ops:Array Oper}{ro:Option Nat}(hP:∀f,A.good f=true→cY P f){id:Nat}{os:List Nat}{t:Ot}{σ:S}{I:cc}{F:bZ}{K:S→cc→bZ→Prop}{a:Act}{w:World}(hm:P.follows .mixedOrders=true)
  (hB:C8 ops oH os t=true) (h:qR P A rid ops os I σ.own.length (fun post σ' I' F'=>fw P A rid ops post (σ'.unlock σ) I' F' K) t σ.dF I F) (hr:Rel σ I F a w) {Q:Exit→Act→World→Prop}
  (hQ:∀σ' I' F' a' w',Rel σ' I' F' a' w'→cc.le I I'→K σ' I' F'→cO (dp ops.toList) σ a σ' a'→Q .normal a' w'):(Code.region id ops true).wpIn (Fw ro) 0 P Q a w:=by
 have hops:=yE hB
 have hr1:Rel σ I F a { w with drawn:=w.drawn+1 }:=hr.s.rel (hr.sat.of_heap rfl ⟨rfl,rfl⟩)
 have hr':Rel σ.dF I F a { w with drawn:=w.drawn+1 }:=hr1.lock _
 rw[←jo] at h
 have hg:=jm (ro:=ro) (R:=fun a w=>Q .normal a w) hP hops t σ.dF I F a _ h hr' (dL σ) (cc.le_refl I) fun post σ' I' F' a' w' h1 h2 h3 h4 =>
  dt (ro:=ro) (Q:=Qx fun a w=>Q .normal a w) hP hops post (σ'.unlock σ) I' F' a' w' h3 h1.unlock fun σ2 I2 F2 a2 w2 g1 g2 g3 g4 =>
   hQ σ2 I2 F2 a2 w2 g1 (cc.le_trans h2 g2) g3 ((⟨gV h4.own,h4.tm,h4.size⟩:cO (dp ops.toList) σ a (σ'.unlock σ) a').trans g4)
 exact wpIn_mono (wpIn_region_any hm (sV hB ((dL σ).inv hr' (cc.le_refl I)) hg)) fun e a' w' hq=>by
  cases e with
  | normal=>exact hq
  | _=>exact hq.elim
theorem tS{P:Program}{A:mD}{rid:Nat}{ops:Array Oper}{ro:Option Nat}(hP:∀f,A.good f=true→cY P f){id:Nat}{os:List Nat}{t:Ot}{σ:S}{I:cc}{F F1:bZ}{b:Nat}{o:Obj}{K:S→cc→bZ→Prop}{a:Act}{w:World}(hm:P.follows .mixedOrders=true)
  (hB:C8 ops oH os t=true) (hp:F.Perm ((b,o)::F1)) (h:qR P A rid ops os (I.put b o) σ.own.length (fun post σ' I' F'=>fw P A rid ops post (σ'.unlock σ) (I'.del b) ((b,o)::F') K) t σ.dF (I.put b o) F1) (hr:Rel σ I F a w) {Q:Exit→Act→World→Prop}
  (hQ:∀σ' I' F' a' w',Rel σ' I' F' a' w'→cc.le I I'→K σ' I' F'→cO (dp ops.toList) σ a σ' a'→Q .normal a' w'):(Code.region id ops true).wpIn (Fw ro) 0 P Q a w:=by
 have hops:=yE hB
 have hsat:Sat I ((b,o)::(cB σ.own++F1)) w:=hr.sat.perm ((hp.append_left _).trans List.perm_middle)
 have hIb:I b=none:=hsat.off _ _ (.head _)
 have hr1:Rel σ (I.put b o) F1 a { w with drawn:=w.drawn+1 }:=hr.s.rel (hsat.jl.2.of_heap rfl ⟨rfl,rfl⟩)
 have hr':Rel σ.dF (I.put b o) F1 a { w with drawn:=w.drawn+1 }:=hr1.lock _
 rw[←jo] at h
 have hg:=jm (ro:=ro) (R:=fun a w=>Q .normal a w) hP hops t σ.dF (I.put b o) F1 a _ h hr' (dL σ) (cc.le_refl _) fun post σ' I' F' a' w' h1 h2 h3 h4=>by
  have hu:=h1.unlock (σ0:=σ)
  obtain⟨d1,d2⟩:=Sat.xd hIb h2 hu.sat
  have hu':Rel (σ'.unlock σ) (I'.del b) ((b,o)::F') a' w':=hu.s.rel (d2.perm List.perm_middle.symm)
  exact dt (ro:=ro) (Q:=Qx fun a w=>Q .normal a w) hP hops post (σ'.unlock σ) (I'.del b) ((b,o)::F') a' w' h3 hu' fun σ2 I2 F2 a2 w2 g1 g2 g3 g4 =>
   hQ σ2 I2 F2 a2 w2 g1 (cc.le_trans d1 g2) g3 ((⟨gV h4.own,h4.tm,h4.size⟩:cO (dp ops.toList) σ a (σ'.unlock σ) a').trans g4)
 exact wpIn_mono (wpIn_region_any hm (sV hB ((dL σ).inv hr' (cc.le_refl _)) hg)) fun e a' w' hq=>by
  cases e with
  | normal=>exact hq
  | _=>exact hq.elim
abbrev Kt:=Exit→S→cc→bZ→Prop
def DQ(N:S→cc→bZ→Prop)(K:Kt):Kt
 | .normal,σ,I,F=>N σ I F
 | e,σ,I,F=>K e σ I F
def AK(id:Nat)(K:Kt):Kt
 | .exit id',σ,I,F=>cond (id'==id) (K .normal σ I F) (K (.exit id') σ I F)
 | e,σ,I,F=>K e σ I F
def DR(K:Kt):Kt
 | .goto _,_,_,_=>False
 | e,σ,I,F=>K e σ I F
def EM(σ0:S)(N:S→cc→bZ→Prop)(K:Kt):Kt
 | .normal,σ,I,F=>N σ I F
 | e,σ,I,F=>K e (σ.unlock σ0) I F
def S.fix(σ:S)(c:Cut):List Value:=c.fx.map fun t=>σ.cv (.tmp t)
def B1(σ σ':S)(X:Prop):Prop:=cond (σ.df.isEmpty&&σ'.df.isEmpty) X (σ'.df=σ.df∧X)
theorem vd{σ σ':S}{X:Prop}(h:B1 σ σ' X):σ'.df=σ.df∧X:=by
 unfold B1 at h
 cases hc:(σ.df.isEmpty&&σ'.df.isEmpty) with
 | true =>
   rw[hc] at h
   simp only[Bool.and_eq_true,List.isEmpty_iff] at hc
   exact⟨by rw[hc.1,hc.2],h⟩
 | false=>rw[hc] at h;exact h
def C9:List (Option Nat)→Option Nat→Bool
 | [],_=>false
 | none::r,none=>true
 | some a::r,some b=>a==b||C9 r (some b)
 | _::r,x=>C9 r x
def dd:List (Option Nat)→List (Option Nat)
 | []=>[]
 | x::r=>cond (C9 (dd r) x) (dd r) (x::dd r)
def jmp:List Nat→Code→List (Option Nat)
 | bs,.exit id=>cond (bs.contains id) [] [some id]
 | _,.ret=>[none]
 | bs,.seq a b=>jmp bs a++jmp bs b
 | bs,.cond _ a b=>jmp bs a++jmp bs b
 | bs,.block id c=>jmp (id::bs) c
 | bs,.loop c=>jmp bs c
 | bs,.scope c=>jmp bs c
 | bs,.rangeFunc _ _ _ y=>jmp bs y
 | _,_=>[]
def Eu:List (Option Nat)→(Option Nat→Prop)→Prop
 | [],_=>False
 | x::r,f=>f x∨Eu r f
def xe:Option Nat→Exit
 | none=>.ret
 | some id=>.exit id
def qW:Option Nat→Code
 | none=>.ret
 | some id=>.exit id
theorem yF:∀{l:List (Option Nat)} {f:Option Nat→Prop},Eu l f→∃j,f j
 | [],_,h=>h.elim
 | x::r,f,h=>by
   rcases h with h | h
   ·exact⟨x,h⟩
   ·exact yF h
def CJ:Sh→(Value→Prop)→Prop
 | .one l,Q=>uK l Q
 | .agg ls,Q=>qo ls fun vs=>Q (.agg vs.toArray)
def xf:List Sh→(List Value→Prop)→Prop
 | [],Q=>Q []
 | s::r,Q=>CJ s fun v=>xf r fun vs=>Q (v::vs)
def Cut.Ev(c:Cut):List Lf:=c.bks.flatMap Prod.snd
def Ew(N:S→cc→bZ→Prop):Kt
 | .normal,σ,I,F=>N σ I F
 | _,_,_,_=>False
def Da(L Lb:bZ)(Lx:Option Nat→bZ)(n0:Nat)(Q:Ending→cc→bZ→Prop):Kt
 | .normal,σ,I,F=>∃F3:bZ,F.Perm (Lb++F3)∧Q (.returned (.bool true)) I (cB (σ.own.take n0)++(L++F3))
 | .ret,σ,I,F=>∃F3:bZ,F.Perm (Lb++F3)∧Q (.returned (.bool false)) I (cB (σ.own.take n0)++(Lx none++F3))
 | .exit id,σ,I,F=>∃F3:bZ,F.Perm (Lb++F3)∧Q (.returned (.bool false)) I (cB (σ.own.take n0)++(Lx (some id)++F3))
 | _,_,_,_=>False
def S.round(σ:S)(ct:Cut)(ps:Array Nat)(args vs:List Value):S:={ tm:=fJ ps.toList args σ.tm,own:=dz ct.bks vs 0 σ.own,df:=[] }
def S.after(σ:S)(ct:Cut)(vs:List Value)(D:Nat)(rd:Option bZ):S :=
 { tm:=σ.tm,own:=yy σ.own 0 (dz ct.bks vs 0 σ.own),df:=match rd with
  | none=>.mark D::σ.df
  | some _=>σ.df }
def ve(rd:Option bZ)(D:Nat)(F:bZ):bZ:=match rd with
 | none=>(D,.deferred (some []))::F
 | some _=>F
def DS(rd:Option bZ)(F:bZ)(X:Prop):Prop:=match rd with
 | none=>X
 | some R=>(∃F3:bZ,F.Perm (R++F3))∧X
def Ex(rd:Option bZ)(ops:Array Oper):Bool:=match rd with
 | none=>true
 | some _=>ops.toList.all fun o=>qJ o.op
def W(P:Program)(A:mD):Option bZ→Code→Nat→Kt→S→cc→bZ→Prop
 | _,.skip,_,K,σ,I,F=>K .normal σ I F
 | _,.label _,_,K,σ,I,F=>K .normal σ I F
 | _,.exit id,_,K,σ,I,F=>K (.exit id) σ I F
 | _,.goto l,_,K,σ,I,F=>K (.goto l) σ I F
 | _,.ret,_,K,σ,I,F=>K .ret σ I F
 | rd,.region rid ops false,_,K,σ,I,F=>cond (Ex rd ops) (tJ P A rid ops ops.toList 0 σ I F (K .normal) (fun ch=>K (.panic ch))) False
 | _,.region rid ops true,_,K,σ,I,F=>match A.ot rid with
   | some (os,t)=>cond (P.follows .mixedOrders&&C8 ops oH os t)
      (cond (os.contains 1000)
        (∃(b:Nat) (o:Obj) (F1:bZ),F.Perm ((b,o)::F1)∧qR P A rid ops os (I.put b o) σ.own.length (fun post σ' I' F'=>fw P A rid ops post (σ'.unlock σ) (I'.del b) ((b,o)::F') (K .normal)) t σ.dF (I.put b o) F1)
        (qR P A rid ops os I σ.own.length (fun post σ' I' F'=>fw P A rid ops post (σ'.unlock σ) I' F' (K .normal)) t σ.dF I F)) False
   | none=>match A.sq rid with
      | some l=>match A.s2 rid with
        | none=>match A.ol rid with
          | none=>cond (P.follows .mixedOrders&&DP ops oH l) (fw P A rid ops l σ I F (K .normal)) False
          | some (os,m)=>cond (P.follows .mixedOrders&&C6 ops oH os (l.take m) (l.drop m))
            (cond (os.contains 1000)
              (∃(b:Nat) (o:Obj) (F1:bZ),F.Perm ((b,o)::F1)∧iN P A rid ops os (I.put b o) σ.own.length (l.take m) σ.dF (I.put b o) F1 fun σ' I' F'=>fw P A rid ops (l.drop m) (σ'.unlock σ) (I'.del b) ((b,o)::F') (K .normal))
              (iN P A rid ops os I σ.own.length (l.take m) σ.dF I F fun σ' I' F'=>fw P A rid ops (l.drop m) (σ'.unlock σ) I' F' (K .normal))) False
        | some (p,q,lA,lB)=>cond (P.follows .mixedOrders&&AG ops oH l p q lA lB)
          (fw P A rid ops l σ I F fun σ' I' F'=>fw P A rid ops (p::lA) σ' I' F' (K .normal)∧fw P A rid ops (q::lB) σ' I' F' (K .normal)) False
      | none=>match A.tl rid with
        | some m=>cond (P.follows .mixedOrders&&(nS ops m&&(ops.toList.all (fun o=>eF o.op)&&pC (ops.extract 0 m))))
          (wD P A rid (ops.extract 0 m) (match A.ds rid with | none=>m | some (n,_)=>n) (match A.ds rid with | none=>[] | some (_,hid)=>hid) (ops.extract 0 m).toList 0 σ I F fun σ' F' =>
            tJ P A rid ops (ops.toList.drop m) m σ' I F' (K .normal) (fun ch=>K (.panic ch))) False
        | none=>cond (P.follows .mixedOrders&&pC ops)
          (match A.ds rid with
            | none=>wD P A rid ops ops.size [] ops.toList 0 σ I F fun σ' F'=>K .normal σ' I F'
            | some (n,hid)=>wD P A rid ops n hid ops.toList 0 σ I F fun σ' F'=>K .normal σ' I F') False
 | rd,.cond c x y,n,K,σ,I,F=>match σ.ev c with
   | some (.a (.v (.bool b)))=>(match b with
     | true=>W P A rd x (n+1) K σ I F
     | false=>W P A rd y (n+1+sz x) K σ I F)
   | _=>False
 | rd,.block id c,n,K,σ,I,F=>W P A rd c (n+1) (AK id K) σ I F
 | rd,.seq x y,n,K,σ,I,F=>match A.cut n with
   | none=>W P A rd x (n+1) (DQ (W P A rd y (n+1+sz x) K) K) σ I F
   | some ct=>cond (ni σ.own ct.bks)
     (W P A rd x (n+1) (EM σ (fun σ' I' F'=>cond (σ'.CH ct) (B1 σ σ' (ct.Inv (σ.fix ct) I F (σ'.jW ct) 0 I' F')) False) K) (σ.lock ct) I F ∧
       qo ct.En fun vs=>∀(I':cc) (F':bZ),cc.le I I'→ct.Inv (σ.fix ct) I F vs 0 I' F'→W P A rd y (n+1+sz x) K ((σ.lay ct (j8 x) vs).unlock σ) I' F') False
 | rd,.loop c,n,K,σ,I,F=>match A.cut n with
   | none=>False
   | some ct=>cond (σ.CH ct)
     ((∃m,ct.Inv (σ.fix ct) I F (σ.jW ct) m I F) ∧
       qo ct.En fun vs=>∀(m:Nat) (I':cc) (F':bZ),cc.le I I'→ct.Inv (σ.fix ct) I F vs m I' F' →
        W P A rd c (n+1) (EM σ (fun σ' I' F'=>cond (σ'.CH ct) (B1 σ σ' (∃m',m'<m∧ct.Inv (σ.fix ct) I F (σ'.jW ct) m' I' F')) False) K) (σ.lay ct (j8 c) vs) I' F') False
 | rd,.scope c,n,K,σ,I,F=>W P A rd c (n+1) (DR K) σ I F
 | rd,.rangeFunc g ps x y,n,K,σ,I,F=>match A.cut n,σ.ev g with
   | some ct,some gv=>cond (ni σ.own ct.bks&&ct.ps.length==ps.size)
     (DS rd F (∀(Y:Fn) (L Lb:bZ) (Lx:Option Nat→bZ) (D:Nat),
       (xf ct.ps fun args=>qo ct.Ev fun vs=>∀(I':cc) (F':bZ) (Q:Ending→cc→bZ→Prop),cc.le I I' →
         W P A (some L) x (n+1) (Ew fun σ1 I1 F1=>∃F2:bZ,F1.Perm (L++F2) ∧
          W P A (some Lb) y (n+1+sz x) (Da L Lb Lx σ.own.length Q) σ1 I1 (Lb++F2)) (σ.round ct ps args vs) I' (L++F') →
         oK P (.func Y #[] #[]) args I' (cB (dz ct.bks vs 0 σ.own)++(L++F')) Q) →
       Er P gv.g [.func Y #[] #[]] I (cB σ.own++(L++F)) fun e I' G=>∃r,e=.returned r ∧
        ((wO ct.Ev fun vs=>∃F':bZ,G.Perm (cB (dz ct.bks vs 0 σ.own)++(L++F'))∧K .normal (σ.after ct vs D rd) I' (ve rd D F')) ∨
          Eu (dd (jmp [] y)) fun j=>wO ct.Ev fun vs=>∃F':bZ,G.Perm (cB (dz ct.bks vs 0 σ.own)++(Lx j++F'))∧K (xe j) (σ.after ct vs D rd) I' (ve rd D F')))) False
   | _,_=>False
 | _,_,_,_,_,_,_=>False
def qX(l:List Nat)(σ:S)(a:Act)(I:cc)(K:Kt)(e:Exit)(a':Act)(w':World):Prop :=
 ∃σ' I' F',Rel σ' I' F' a' w'∧cc.le I I'∧K e σ' I' F'∧cO l σ a σ' a'
theorem zk{F:Fence}{n:Nat}{P:Program}{Q:Exit→Act→World→Prop}{c:Code}{a:Act}{w:World}(J:Nat→Act→World→Prop)(h0:∃m,J m a w)
  (round:∀m a w,J m a w→c.wpIn F n P (Exit.then (fun a' w'=>∃m',m'<m∧J m' a' w') Q) a w):(Code.loop c).wpIn F n P Q a w:=by
 intro b k cs hro hb hr
 have key:∀j a w,J j a w→∃e a' w',Q e a' w'∧ArrivesIn (Machine.fenced P F) P (lone (b.atR a (.code c :: .inLoop c::k)) cs w) b k cs e a' w':=by
  intro j
  induction j using Nat.strongRecOn with
  | _ j ih =>
    intro a w hJ
    obtain⟨e,a₁,w₁,hq,harr⟩:=round j a w hJ b (.inLoop c::k) cs hro hb hr
    cases e with
    | normal =>
      obtain⟨m',hlt,hJ'⟩:=hq
      obtain⟨e₂,a₂,w₂,hq₂,harr₂⟩:=ih m' hlt a₁ w₁ hJ'
      exact⟨e₂,a₂,w₂,hq₂,.of_steps (StepsIn.trans harr (.one (fenced_calm hb hr rfl) stepR_inLoop)) harr₂⟩
    | exit id=>exact⟨_,a₁,w₁,hq,.pass (x:=.inLoop c) rfl (fun _ _=>.inl (by simp)) harr⟩
    | goto l=>exact⟨_,a₁,w₁,hq,.pass (x:=.inLoop c) rfl (fun _ _=>.inl (by simp)) harr⟩
    | ret=>exact⟨_,a₁,w₁,hq,.pass (x:=.inLoop c) rfl (fun _ _=>.inl (by simp)) harr⟩
    | panic ch=>exact⟨_,a₁,w₁,hq,.pass (x:=.inLoop c) rfl (fun _ _=>.inl (by simp)) harr⟩
    | outgrown=>exact⟨_,a₁,w₁,hq,.pass (x:=.inLoop c) rfl (fun _ _=>.inl (by simp)) harr⟩
 obtain⟨m,hm⟩:=h0
 obtain⟨e,a',w',hq,harr⟩:=key m a w hm
 exact⟨e,a',w',hq,.of_steps (.one (fenced_calm hb hr rfl) stepR_loop) harr⟩
theorem fR{P:Program}{b:Frame}{a:Act}{k:List Item}{cs:List Frame}{w:World}{c:Code}:step P (lone (b.atR a (.code (.scope c)::k)) cs w)=.next (lone (b.atR a (.code c :: .inScope c::k)) cs w) :=
 step_lone_go (by simp[stepG,stepG.exec,Frame.atR])
theorem sC{P:Program}{b:Frame}{a:Act}{k:List Item}{cs:List Frame}{w:World}{c:Code}:step P (lone (b.atR a (.inScope c::k)) cs w)=.next (lone (b.atR a k) cs w) :=
 step_lone_go (by simp[stepG,stepG.exec,Frame.atR])
theorem mF{F:Fence}{n:Nat}{P:Program}{Q:Exit→Act→World→Prop}{c:Code}{a:Act}{w:World}(h:c.wpIn F n P (Exit.noGoto Q) a w):(Code.scope c).wpIn F n P Q a w:=by
 intro b k cs hro hb hr
 have h0:(lone (b.atR a (.code (.scope c)::k)) cs w).fenced P F:=fenced_calm hb hr rfl
 obtain⟨e,a₁,w₁,hq,harr⟩:=h b (.inScope c::k) cs hro hb hr
 cases e with
 | normal=>exact⟨.normal,a₁,w₁,hq,.head h0 fR (StepsIn.trans harr (.one (fenced_calm hb hr rfl) sC))⟩
 | exit id =>
   have hx:exitTo id (.inScope c::k)=exitTo id k:=by simp[exitTo]
   exact⟨.exit id,a₁,w₁,hq,fun k' hk=>.head h0 fR (harr.1 k' (by rw[hx];exact hk)),
    fun hr' hk=>let ⟨k₁,h1,h2⟩:=harr.2 hr' (by rw[hx];exact hk);⟨k₁,h1,.head h0 fR h2⟩⟩
 | goto l=>exact hq.elim
 | ret=>exact⟨_,a₁,w₁,hq,.of_steps (.one h0 fR) harr⟩
 | panic ch=>exact⟨_,a₁,w₁,hq,.of_steps (.one h0 fR) harr⟩
 | outgrown=>exact⟨_,a₁,w₁,hq,.of_steps (.one h0 fR) harr⟩
theorem pG{l:Lf}{Q:Value→Prop}(h:∀v,Q v):uK l Q:=by cases l<;>intro<;>first | exact h _ | (intros;exact h _)
theorem lq:∀{l:List Lf} {Q:List Value→Prop},(∀vs,vs.length=l.length→Q vs)→qo l Q
 | [],Q,h=>h [] rfl
 | l::r,Q,h=>pG fun v=>lq fun vs hv=>h (v::vs) (by simp[hv])
theorem vf{s:Sh}{Q:Value→Prop}(h:∀v,Q v):CJ s Q:=by
 cases s with
 | one l=>exact pG h
 | agg ls=>exact lq fun vs _=>h _
theorem nX:∀{l:List Sh} {Q:List Value→Prop},(∀vs,vs.length=l.length→Q vs)→xf l Q
 | [],Q,h=>h [] rfl
 | l::r,Q,h=>vf fun v=>nX fun vs hv=>h (v::vs) (by simp[hv])
def Ctx(ro:Option Nat):Option bZ→Prop
 | none=>ro=none
 | some R=>∃l r,ro=some l∧(l,Obj.loop r)∈R
def wL(rd:Option bZ)(D:Nat):bZ:=match rd with
 | none=>[(D,.deferred (some []))]
 | some _=>[]
def DT(rd:Option bZ)(D:Nat):List Deferred:=match rd with
 | none=>[(Df.mark D).d]
 | some _=>[]
theorem AL(rd:Option bZ)(D:Nat)(F:bZ):ve rd D F=wL rd D++F:=by cases rd<;>rfl
section
variable {P:Program} {A:mD}
theorem vg{w:World}{l₀:Nat}{r₀:Loop}(h:w.heap[l₀]? = some (.loop r₀))(fn:FuncId)(tmps:Array Value)(ps:Array Tmp)(assign body:Code) :
  (Instr.enterLoop fn tmps ps assign body (some l₀)).run P w =
    .ok (w.heap.size,[]) (w.alloc (.loop { state:=.ready,pending:=none,fn,tmps,params:=ps,assign,body,defers:=r₀.defers })):=by
 unfold Instr.enterLoop
 simp only[Sem.run_bind,run_getLoop h,run_newObj_alloc,Result.andThen,Sem.run_pure]
theorem AM{rd:Option bZ}{F:bZ}{X:Prop}(h:DS rd F X):(∀R,rd=some R→∃F3:bZ,F.Perm (R++F3))∧X:=by
 cases rd with
 | none=>exact⟨fun R e=>(by cases e),h⟩
 | some R=>exact⟨fun R' e=>(by cases e;exact h.1),h.2⟩
theorem zl{rd:Option bZ}{ro:Option Nat}{I:cc}{G:bZ}{w:World}(hctx:Ctx ro rd)(hrd:∀R,rd=some R→∃F3:bZ,G.Perm (R++F3))(hs:Sat I G w)
  (fn:FuncId) (tmps:Array Value) (ps:Array Tmp) (x y:Code) :
  ∃(l D d:Nat) (w1:World),(Instr.enterLoop fn tmps ps x y ro).run P w=.ok (l,DT rd D) w1 ∧
   Sat I ((l,Obj.loop { state:=.ready,pending:=none,fn,tmps,params:=ps,assign:=x,body:=y,defers:=d })::(wL rd D++G)) w1:=by
 cases rd with
 | none =>
   obtain rfl:ro=none:=hctx
   have h1:=hs.alloc (.deferred (some []))
   have h2:=h1.alloc (.loop { state:=.ready,pending:=none,fn,tmps,params:=ps,assign:=x,body:=y,defers:=w.heap.size })
   refine⟨w.heap.size+1,w.heap.size,w.heap.size,_,run_enterLoop_outer fn tmps ps x y, ?_⟩
   have:({ w with heap:=w.heap.push (Obj.deferred (some [])) }:World).heap.size=w.heap.size+1:=by simp
   rw[this] at h2
   exact h2
 | some R =>
   obtain⟨l0,r0,rfl,hm⟩:=hctx
   obtain⟨F3,hp⟩:=hrd R rfl
   have hin:w.heap[l0]? = some (.loop r0):=hs.own _ _ (hp.mem_iff.2 (List.mem_append_left _ hm))
   exact⟨w.heap.size,0,r0.defers,_,vg hin fn tmps ps x y,hs.alloc _⟩
theorem Sat.qf{I:cc}{b:Nat}{o:Obj}{G:bZ}{w:World}(h:Sat I ((b,o)::G) w):w.heap[b]? = some o:=h.own _ _ (List.mem_cons_self ..)
theorem Sat.nY{I:cc}{b:Nat}{o o':Obj}{G:bZ}{w:World}(h:Sat I ((b,o)::G) w):Sat I ((b,o')::G) (w.putObj b o'):=h.set rfl ⟨rfl,rfl⟩
theorem vh:∀(ts:List Nat) (vs:List Value) (tm:List (Option AV)) (tmps:Array Value),tm.length=tmps.size→(∀(t:Nat) (av:AV),tm[t]? = some (some av)→tmps[t]? = some av.g) →
  (fJ ts vs tm).length=((ts.zip vs).foldl (fun (a:Array Value) (x:Nat×Value)=>a.setIfInBounds x.1 x.2) tmps).size ∧
  ∀(t:Nat) (av:AV),(fJ ts vs tm)[t]? = some (some av)→((ts.zip vs).foldl (fun (a:Array Value) (x:Nat×Value)=>a.setIfInBounds x.1 x.2) tmps)[t]? = some av.g
 | [],vs,tm,tmps,hl,h=>by simp only[fJ,List.zip_nil_left,List.foldl_nil];exact⟨hl,h⟩
 | s::ts,[],tm,tmps,hl,h=>by simp only[fJ,List.zip_nil_right,List.foldl_nil];exact⟨hl,h⟩
 | s::ts,v::vs,tm,tmps,hl,h=>by
   simp only[fJ,List.zip_cons_cons,List.foldl_cons]
   refine vh ts vs _ _ (by simp[hl]) fun t av ht=>?_
   rw[List.getElem?_set] at ht
   rw[Array.getElem?_setIfInBounds]
   by_cases hst:s=t
   ·subst hst
    simp only[if_true] at ht ⊢
    split at ht
    ·rename_i hlt;cases ht;rw[hl] at hlt;simp[hlt,AV.g,At.g]
    ·cases ht
   ·simp only[if_neg hst] at ht ⊢;exact h t av ht
theorem pH(bks:List (Nat×List Lf))(vs:List Value)(own:List cV):gH own (dz bks vs 0 own):=fun i b hb=>by
 refine⟨match nR bks vs (0+i) with
  | some cs=>{ b with cells:=cs.map fun v=>.a (.v v) }
  | none=>{ b with ro:=true },by rw[er,hb];rfl, ?_⟩
 split<;>rfl
theorem zm{bks:List (Nat×List Lf)}{vs:List Value}{own:List cV}(h:∀(i:Nat) (b:cV),own[i]? = some b→∀c∈b.cells,AV.wf own c) :
  ∀(i:Nat) (b:cV),(dz bks vs 0 own)[i]? = some b→∀c∈b.cells,AV.wf (dz bks vs 0 own) c:=by
 intro i b hb c hc
 rw[er] at hb
 cases ho:own[i]? with
 | none=>rw[ho] at hb;cases hb
 | some b0 =>
   rw[ho] at hb
   simp only[Option.map_some,Option.some.injEq] at hb
   subst hb
   split at hc
   ·simp only[List.mem_map] at hc
    obtain⟨v,_,rfl⟩:=hc
    trivial
   ·exact AV.dE (pH _ _ _) (h i b0 ho c hc)
theorem Rel.round{σ:S}{I I':cc}{F F':bZ}{a:Act}{w w':World}(hr:Rel σ I F a w)(ct:Cut)(ps:Array Nat)(args vs:List Value)
  (hs:Sat I' (cB (dz ct.bks vs 0 σ.own)++F') w') :
  Rel (σ.round ct ps args vs) I' F' { tmps:=(ps.toList.zip args).foldl (fun (a:Array Value) (x:Nat×Value)=>a.setIfInBounds x.1 x.2) a.tmps,defers:=[] } w':=by
 obtain⟨h1,h2⟩:=vh ps.toList args σ.tm a.tmps hr.size hr.tm
 refine⟨h1,h2,rfl,fun t av ht=>?_,zm hr.wfo,hs⟩
 rcases kj _ _ _ _ _ ht with ⟨k,v,_,_,rfl⟩ | ht
 ·trivial
 ·exact AV.dE (pH _ _ _) (hr.wft t av ht)
theorem sZ{σ:S}{ct:Cut}{vs:List Value}{i:Nat}:(yy σ.own 0 (dz ct.bks vs 0 σ.own))[i]? = (σ.own[i]?).map fun b =>
  match nR ct.bks vs i with
  | some cs=>{ b with cells:=cs.map fun v=>.a (.v v) }
  | none=>b:=by
 rw[lW,er]
 cases hb:σ.own[i]? with
 | none=>rfl
 | some b =>
   simp only[Option.map_some,Nat.zero_add,hb]
   cases nR ct.bks vs i<;>rfl
theorem qY{σ:S}{ct:Cut}{vs:List Value}{D:Nat}{rd:Option bZ}(hok:ni σ.own ct.bks=true):cG σ (σ.after ct vs D rd):=by
 intro i b hb
 have e:(σ.after ct vs D rd).own[i]? = _:=sZ
 rw[hb] at e
 cases hs:nR ct.bks vs i with
 | none=>rw[hs] at e;exact⟨b,e,rfl,rfl,fun h=>⟨h,rfl⟩⟩
 | some cs =>
   rw[hs] at e
   have hro:=tR (vs:=vs) hok hb (by rw[hs];rfl)
   exact⟨_,e,rfl,rfl,fun h=>by rw[hro] at h;cases h⟩
theorem Rel.after{σ:S}{I I':cc}{F F':bZ}{a:Act}{w w':World}(hr:Rel σ I F a w){ct:Cut}{vs:List Value}{D:Nat}{rd:Option bZ}(hok:ni σ.own ct.bks=true)
  (hs:Sat I' (cB (dz ct.bks vs 0 σ.own)++F') w'):Rel (σ.after ct vs D rd) I' F' { a with defers:=DT rd D++a.defers } w':=by
 have hk:gH σ.own (σ.after ct vs D rd).own:=(qY hok).same
 refine⟨hr.size,hr.tm, ?_,fun t av ht=>AV.dE hk (hr.wft t av ht), ?_, ?_⟩
 ·show DT rd D++a.defers=_
  rw[hr.defers];cases rd<;>rfl
 ·intro i b hb c hc
  have e:(σ.after ct vs D rd).own[i]? = _:=sZ
  rw[hb] at e
  cases ho:σ.own[i]? with
  | none=>rw[ho] at e;cases e
  | some b0 =>
    rw[ho] at e
    simp only[Option.map_some,Option.some.injEq] at e
    subst e
    split at hc
    ·simp only[List.mem_map] at hc
     obtain⟨v,_,rfl⟩:=hc
     trivial
    ·exact AV.dE hk (hr.wfo i b0 ho c hc)
 ·show Sat I' (cB (yy σ.own 0 (dz ct.bks vs 0 σ.own))++F') w'
  rw[qV];exact hs
theorem zn(own:List cV)(n:Nat):(cB (own.take n)).Sublist (cB own):=(List.take_sublist n own).map _
theorem eX{A B C:bZ}:(A++(B++C)).Perm (B++(A++C)):=List.perm_append_comm_assoc A B C
theorem zo{F:Fence}{n:Nat}{Q:Exit→Act→World→Prop}{a:Act}{w:World}(j:Option Nat)(h:Q (xe j) a w):(qW j).wpIn F n P Q a w:=by
 cases j with
 | none=>exact wpIn_ret h
 | some id=>exact wpIn_exit h
theorem vj{x y:Code}(ih1:∀(n:Nat) (K:Kt) (rd:Option bZ) (ro:Option Nat) (σ:S) (I:cc) (F:bZ) (a:Act) (w:World),Ctx ro rd→W P A rd x n K σ I F→Rel σ I F a w→x.wpIn (Fw ro) 0 P (qX (j8 x) σ a I K) a w)
  (ih2:∀(n:Nat) (K:Kt) (rd:Option bZ) (ro:Option Nat) (σ:S) (I:cc) (F:bZ) (a:Act) (w:World),Ctx ro rd→W P A rd y n K σ I F→Rel σ I F a w→y.wpIn (Fw ro) 0 P (qX (j8 y) σ a I K) a w)
  {g:Operand} {ps:Array Tmp} {n:Nat} {K:Kt} {rd:Option bZ} {ro:Option Nat} {σ:S} {I:cc} {F:bZ} {a:Act} {w:World} (hctx:Ctx ro rd)
  (h:W P A rd (.rangeFunc g ps x y) n K σ I F) (hr:Rel σ I F a w):(Code.rangeFunc g ps x y).wpIn (Fw ro) 0 P (qX (j8 (.rangeFunc g ps x y)) σ a I K) a w:=by
 simp only[W] at h
 split at h
 case h_2=>exact h.elim
 rename_i ct gv hcut hg
 obtain⟨hb,h⟩:=cr h
 simp only[Bool.and_eq_true,beq_iff_eq] at hb
 obtain⟨hok,hlen⟩:=hb
 obtain⟨hrd,h⟩:=AM h
 refine wpIn_rangeFunc fun fn hfn=>?_
 obtain⟨l,D,d,w1,hrun,hsat⟩:=zl (P:=P) (rd:=rd) (ro:=ro) hctx (G:=cB σ.own++F) (fun R hR=>by
  obtain⟨F3,hp⟩:=hrd R hR
  exact⟨cB σ.own++F3,(List.Perm.append_left _ hp).trans eX⟩) hr.sat fn a.tmps ps x y
 generalize hrec:({ state:=.ready,pending:=none,fn,tmps:=a.tmps,params:=ps,assign:=x,body:=y,defers:=d }:Loop)=rec at hsat
 have r1:rec.fn=fn:=by rw[←hrec]
 have r2:rec.tmps=a.tmps:=by rw[←hrec]
 have r3:rec.params=ps:=by rw[←hrec]
 have r4:rec.assign=x:=by rw[←hrec]
 have r5:rec.body=y:=by rw[←hrec]
 have r6:rec.state=.ready:=by rw[←hrec]
 have r7:rec.pending=none:=by rw[←hrec]
 have rback:({ rec with state:=.ready,pending:=none }:Loop)=rec:=by rw[←hrec]
 let L:bZ:=(l,.loop rec)::wL rd D
 let Lb:bZ:=(l,.loop { rec with state:=.busy })::wL rd D
 let Lx:Option Nat→bZ:=fun j=>(l,.loop { rec with state:=.done,pending:=some (qW j) })::wL rd D
 have hsat':Sat I (cB σ.own++(L++F)) w1:=by
  refine hsat.perm ?_
  show (([(l,Obj.loop rec)]++wL rd D)++(cB σ.own++F)).Perm _
  exact eX
 have hTr:=h (.yield l) L Lb Lx D (nX fun args hargs=>lq fun vs hvs I' F' Q hle hW=>by
  intro w2 hs2
  refine .inr ⟨l,rfl, ?_⟩
  have hl2:w2.heap[l]? = some (.loop rec):=hs2.own _ _ (List.mem_append_right _ (List.mem_append_left _ (List.mem_cons_self ..)))
  have hy:=run_yield (P:=P) (args:=args.toArray) hl2 (by rw[r3];simp[hargs,hlen])
  rw[r1,r2,r3,r4,r5] at hy
  have hz:((ps.zip args.toArray).foldl (fun (tmps:Array Value) (x:Nat×Value)=>tmps.setIfInBounds x.1 x.2) a.tmps)=(ps.toList.zip args).foldl (fun (a:Array Value) (x:Nat×Value)=>a.setIfInBounds x.1 x.2) a.tmps:=by
   rw[←Array.foldl_toList,Array.toList_zip]
  refine⟨_,_,_,_,_,hy,roundIn_of_wpIn (F:=Fence.wide) trivial ?_⟩
  rw[show ((ps.zip args.toArray).foldl (fun (tmps:Array Value) (x:Nat×Value)=>match x with | (t,a)=>tmps.setIfInBounds t a) a.tmps)=(ps.toList.zip args).foldl (fun (a:Array Value) (x:Nat×Value)=>a.setIfInBounds x.1 x.2) a.tmps from hz]
  have hrel:=hr.round ct ps args vs hs2
  refine wpIn_mono (ih1 _ _ (some L) (some l) _ I' _ _ w2 ⟨l,rec,rfl,List.mem_cons_self ..⟩ hW hrel) ?_
  intro e a1 w3 ⟨σ1,I1,F1,g1,g2,g3,g4⟩
  cases e with
  | normal =>
    obtain⟨F2,hp2,hW2⟩:=g3
    have hs3:Sat I1 ((l,.loop rec)::(wL rd D++(cB σ1.own++F2))) w3:=g1.sat.perm ((List.Perm.append_left _ hp2).trans (eX (A:=cB σ1.own) (B:=(l,.loop rec)::wL rd D)))
    refine⟨_,run_beginRound hs3.qf r6, ?_⟩
    have hs4:=hs3.nY (o':=.loop { rec with state:=.busy })
    have hrel2:Rel σ1 I1 (Lb++F2) a1 (w3.putObj l (.loop { rec with state:=.busy })) :=
     ⟨g1.size,g1.tm,g1.defers,g1.wft,g1.wfo,hs4.perm (eX (A:=(l,.loop { rec with state:=.busy })::wL rd D) (B:=cB σ1.own))⟩
    refine wpIn_mono (ih2 _ _ (some Lb) (some l) _ I1 _ _ _ ⟨l,_,rfl,List.mem_cons_self ..⟩ hW2 hrel2) ?_
    intro e a5 w5 ⟨σ5,I5,F5,k1,k2,k3,k4⟩
    have fin:∀(L':bZ) (o':Obj) (b:Bool),L'=(l,o')::wL rd D→(∃F3:bZ,F5.Perm (Lb++F3)∧Q (.returned (.bool b)) I5 (cB (σ5.own.take σ.own.length)++(L'++F3))) →
     w5.heap[l]? = some (.loop { rec with state:=.busy })∧qz I' Q (.returned (.bool b)) (w5.putObj l o'):=by
     intro L' o' b hL' ⟨F3,hp3,hq⟩
     subst hL'
     have hs5:Sat I5 ((l,.loop { rec with state:=.busy })::(wL rd D++(cB σ5.own++F3))) w5 :=
      k1.sat.perm ((List.Perm.append_left _ hp3).trans (eX (A:=cB σ5.own) (B:=(l,.loop { rec with state:=.busy })::wL rd D)))
     refine⟨hs5.qf,I5,_,cc.le_trans g2 k2, ?_,hq⟩
     have hs6:=hs5.nY (o':=o')
     exact (hs6.perm (eX (A:=(l,o')::wL rd D) (B:=cB σ5.own))).sub (List.Sublist.append (zn _ _) (List.Sublist.refl _))
    cases e with
    | normal =>
      obtain⟨f1,f2⟩:=fin L (.loop rec) true rfl k3
      refine⟨_,_,run_endRound none f1, ?_⟩
      have:({ ({ rec with state:=.busy }:Loop) with state:=if (none:Option Code).isNone then .ready else .done,pending:=none }:Loop)=rec:=rback
      rw[this];exact f2
    | ret =>
      obtain⟨f1,f2⟩:=fin (Lx none) (.loop { rec with state:=.done,pending:=some .ret }) false rfl k3
      exact⟨_,_,run_endRound (some .ret) f1,f2⟩
    | exit id =>
      obtain⟨f1,f2⟩:=fin (Lx (some id)) (.loop { rec with state:=.done,pending:=some (.exit id) }) false rfl k3
      exact⟨_,_,run_endRound (some (.exit id)) f1,f2⟩
    | goto l=>exact k3.elim
    | panic ch=>exact k3.elim
    | outgrown=>exact k3.elim
  | exit id=>exact g3.elim
  | goto l=>exact g3.elim
  | ret=>exact g3.elim
  | panic ch=>exact g3.elim
  | outgrown=>exact g3.elim)
 obtain⟨f,first,cap,hgv,hent,hcall⟩:=hTr w1 hsat'
 have hev:=S.j9 hr hg
 refine⟨l,DT rd D,w1,{ target:=.fn (.func f) cap,args:=first++#[.func (.yield l) #[] #[]] },w1,f,first++#[.func (.yield l) #[] #[]]++cap,w1,hrun, ?_,fun _ _=>trivial, ?_,fun hd=>by simp[Fw,Fence.wide] at hd, ?_⟩
 ·show (Deferred.ofValue (a.eval g) _).run P w1=_
  rw[hev,hgv];simp[Deferred.ofValue,Act.eval]
 ·simp only[invoke];exact hent _ _
 ·refine ((callsIn_wide (n:=0)).2 hcall).mono fun e w3 ⟨I3,G,hle,hs3,r,he,hpost⟩=>?_
  subst he
  have fin:∀(o':Obj) (r':Loop) (jj:Option Code) (L':bZ) (vs:List Value) (F':bZ) (e':Exit),L'=(l,.loop r')::wL rd D→r'.pending=jj→r'.state ≠ .busy→G.Perm (cB (dz ct.bks vs 0 σ.own)++(L'++F'))→K e' (σ.after ct vs D rd) I3 (ve rd D F') →
    ∃w4,(Instr.endLoop l).run P w3=.ok jj w4∧qX (j8 (.rangeFunc g ps x y)) σ a I K e' { a with defers:=DT rd D++a.defers } w4:=by
   intro o' r' jj L' vs F' e' hL' hj hbusy hp hk
   subst hL';subst hj
   have hs4:Sat I3 ((l,.loop r')::(wL rd D++(cB (dz ct.bks vs 0 σ.own)++F'))) w3:=hs3.perm (hp.trans (eX (A:=cB (dz ct.bks vs 0 σ.own)) (B:=(l,.loop r')::wL rd D)))
   refine⟨_,run_endLoop hs4.qf hbusy,σ.after ct vs D rd,I3,ve rd D F', ?_,hle,hk,qY hok,fun _ _=>rfl,rfl⟩
   refine hr.after hok ?_
   rw[AL]
   exact ((hs4.nY (o':=.loop { r' with state:=.exhausted })).sub (List.sublist_cons_self _ _)).perm eX
  rcases hpost with hpost | hpost
  ·obtain⟨vs,F',hp,hk⟩:=jS hpost |>.imp fun _ h=>h.2
   obtain⟨w4,h1,h2⟩:=fin (.loop rec) rec none L vs F' .normal rfl r7 (by rw[r6];decide) hp hk
   exact⟨none,w4,h1,h2⟩
  ·obtain⟨j,hpost⟩:=yF hpost
   obtain⟨vs,F',hp,hk⟩:=jS hpost |>.imp fun _ h=>h.2
   obtain⟨w4,h1,h2⟩:=fin (.loop rec) { rec with state:=.done,pending:=some (qW j) } (some (qW j)) (Lx j) vs F' (xe j) rfl rfl (fun h=>by cases h) hp hk
   exact⟨some (qW j),w4,h1,zo j h2⟩
end
end Go.Vc
namespace Go.Vc
section sound
variable {P:Program} {A:mD}
theorem qX.mono{l l':List Nat}{σ:S}{a:Act}{I:cc}{K K':Kt}{e:Exit}{a':Act}{w':World}(h:qX l σ a I K e a' w')(hl:∀t∈l,t∈l')
  (hk:∀σ I F,K e σ I F→K' e σ I F):qX l' σ a I K' e a' w' :=
 let ⟨σ',I',F',h1,h2,h3,h4⟩:=h
 ⟨σ',I',F',h1,h2,hk _ _ _ h3,h4.mono hl⟩
theorem qX.trans{l m n:List Nat}{σ σ':S}{a a':Act}{I I':cc}{K:Kt}{e:Exit}{a'':Act}{w'':World}(hk:cO l σ a σ' a')(hI:cc.le I I')
  (h:qX m σ' a' I' K e a'' w'') (hl:∀t∈l,t∈n) (hm:∀t∈m,t∈n):qX n σ a I K e a'' w'' :=
 let ⟨σ2,I2,F2,h1,h2,h3,h4⟩:=h
 ⟨σ2,I2,F2,h1,cc.le_trans hI h2,h3,(hk.mono hl).trans (h4.mono hm)⟩
theorem yG(hP:∀f,A.good f=true→cY P f):∀(c:Code) (n:Nat) (K:Kt) (rd:Option bZ) (ro:Option Nat) (σ:S) (I:cc) (F:bZ) (a:Act) (w:World),Ctx ro rd →
  W P A rd c n K σ I F→Rel σ I F a w→c.wpIn (Fw ro) 0 P (qX (j8 c) σ a I K) a w:=by
 intro c
 induction c with
 | skip=>intro n K rd ro σ I F a w hc h hr;exact wpIn_skip ⟨σ,I,F,hr,cc.le_refl I,h,cO.refl _ _ _⟩
 | label l=>intro n K rd ro σ I F a w hc h hr;exact wpIn_label ⟨σ,I,F,hr,cc.le_refl I,h,cO.refl _ _ _⟩
 | exit id=>intro n K rd ro σ I F a w hc h hr;exact wpIn_exit ⟨σ,I,F,hr,cc.le_refl I,h,cO.refl _ _ _⟩
 | goto l=>intro n K rd ro σ I F a w hc h hr;exact wpIn_goto ⟨σ,I,F,hr,cc.le_refl I,h,cO.refl _ _ _⟩
 | ret=>intro n K rd ro σ I F a w hc h hr;exact wpIn_ret ⟨σ,I,F,hr,cc.le_refl I,h,cO.refl _ _ _⟩
 | refuse why=>intro n K rd ro σ I F a w hc h hr;exact h.elim
 | scope c ih =>
   intro n K rd ro σ I F a w hc h hr
   refine mF (wpIn_mono (ih _ _ rd ro σ I F a w hc h hr) ?_)
   intro e a' w' ⟨σ',I',F',h1,h2,h3,h4⟩
   cases e with
   | goto l=>exact h3.elim
   | _=>exact⟨σ',I',F',h1,h2,h3,h4⟩
 | rangeFunc f ps x y ih1 ih2=>intro n K rd ro σ I F a w hc h hr;exact vj ih1 ih2 hc h hr
 | region rid ops draw =>
   intro n K rd ro σ I F a w hc h hr
   cases draw with
   | false =>
     obtain⟨hnd,h⟩:=cr h
     have hnd':ro=none∨ops.toList.all (fun o=>qJ o.op)=true:=by
      cases rd with
      | none=>exact .inl hc
      | some R=>exact .inr hnd
     refine wpIn_region_list (iM hP ops.toList 0 σ I F a w hnd' h hr ?_ ?_)
     ·exact fun σ' I' F' a' w' h1 h2 h3 h4=>⟨σ',I',F',h1,h2,h3,h4⟩
     ·exact fun ch σ' I' F' a' w' h1 h2 h3 h4=>⟨σ',I',F',h1,h2,h3,h4⟩
   | true =>
     simp only[W] at h
     split at h
     ·rename_i os t hot
      obtain⟨hb,h⟩:=cr h
      simp only[Bool.and_eq_true] at hb
      rcases yD h with ⟨b,o,F1,hp,h⟩ | h
      ·exact tS hP hb.1 hb.2 hp h hr fun σ' I' F' a' w' h1 h2 h3 h4=>⟨σ',I',F',h1,h2,h3,h4⟩
      ·exact va hP hb.1 hb.2 h hr fun σ' I' F' a' w' h1 h2 h3 h4=>⟨σ',I',F',h1,h2,h3,h4⟩
     split at h
     ·split at h
      ·split at h
       ·obtain⟨hb,h⟩:=cr h
        simp only[Bool.and_eq_true] at hb
        exact xb hP hb.1 hb.2 h hr fun σ' I' F' a' w' h1 h2 h3 h4=>⟨σ',I',F',h1,h2,h3,h4⟩
       ·obtain⟨hb,h⟩:=cr h
        simp only[Bool.and_eq_true] at hb
        rcases yD h with ⟨b,o,F1,hp,h⟩ | h
        ·exact u9 hP hb.1 hb.2 hp h hr fun σ' I' F' a' w' h1 h2 h3 h4=>⟨σ',I',F',h1,h2,h3,h4⟩
        ·exact u7 hP hb.1 hb.2 h hr fun σ' I' F' a' w' h1 h2 h3 h4=>⟨σ',I',F',h1,h2,h3,h4⟩
      ·obtain⟨hb,h⟩:=cr h
       simp only[Bool.and_eq_true] at hb
       exact uY hP hb.1 hb.2 h hr fun σ' I' F' a' w' h1 h2 h3 h4=>⟨σ',I',F',h1,h2,h3,h4⟩
     split at h
     ·obtain⟨hb,h⟩:=cr h
      simp only[Bool.and_eq_true] at hb
      exact uZ hP hb.1 hb.2.1 hb.2.2.1 hb.2.2.2 h hr (fun σ' I' F' a' w' h1 h2 h3 h4=>⟨σ',I',F',h1,h2,h3,h4⟩) fun ch σ' I' F' a' w' h1 h2 h3 h4=>⟨σ',I',F',h1,h2,h3,h4⟩
     obtain⟨hb,h⟩:=cr h
     simp only[Bool.and_eq_true] at hb
     have hd:j8 (.region rid ops true)=dp ops.toList:=rfl
     split at h<;>exact uT hP hb.1 hb.2 h hr fun σ' F' a' w' h1 h2 h3=>⟨σ',I,F',h1,cc.le_refl I,h2,h3⟩
 | cond c x y ih1 ih2 =>
   intro n K rd ro σ I F a w hc h hr
   simp only[W] at h
   split at h
   ·rename_i b hcc
    have hev:=S.j9 hr hcc
    simp only[AV.g,At.g] at hev
    refine wpIn_cond hev ?_
    cases b with
    | true=>exact wpIn_mono (ih1 _ K rd ro σ I F a w hc h hr) fun e a' w' hp=>hp.mono (fun t ht=>List.mem_append_left _ ht) fun _ _ _ h=>h
    | false=>exact wpIn_mono (ih2 _ K rd ro σ I F a w hc h hr) fun e a' w' hp=>hp.mono (fun t ht=>List.mem_append_right _ ht) fun _ _ _ h=>h
   ·exact h.elim
 | block id c ih =>
   intro n K rd ro σ I F a w hc h hr
   refine wpIn_block (wpIn_mono (ih _ _ rd ro σ I F a w hc h hr) ?_)
   intro e a' w' ⟨σ',I',F',h1,h2,h3,h4⟩
   cases e with
   | exit id' =>
     simp only[AK] at h3
     simp only[Exit.inBlock]
     by_cases hid:id'=id
     ·subst hid
      simp only[beq_self_eq_true,cond_true] at h3
      rw[if_pos rfl];exact⟨σ',I',F',h1,h2,h3,h4⟩
     ·have:(id'==id)=false:=by simpa using hid
      rw[this] at h3
      rw[if_neg hid];exact⟨σ',I',F',h1,h2,h3,h4⟩
   | _=>exact⟨σ',I',F',h1,h2,h3,h4⟩
 | seq x y ih1 ih2 =>
   intro n K rd ro σ I F a w hc h hr
   have hx:∀t∈j8 x,t∈j8 (.seq x y):=fun t ht=>List.mem_append_left _ ht
   have hy:∀t∈j8 y,t∈j8 (.seq x y):=fun t ht=>List.mem_append_right _ ht
   simp only[W] at h
   split at h
   ·refine wpIn_seq (wpIn_mono (ih1 _ _ rd ro σ I F a w hc h hr) ?_)
    intro e a' w' ⟨σ',I',F',h1,h2,h3,h4⟩
    cases e with
    | normal=>exact wpIn_mono (ih2 _ K rd ro σ' I' F' a' w' hc h3 h1) fun e a2 w2 hp=>hp.trans h4 h2 hx hy
    | _=>exact⟨σ',I',F',h1,h2,h3,h4.mono hx⟩
   ·rename_i ct hcut
    obtain⟨hok,h1,h2⟩:=cr h
    refine wpIn_seq (wpIn_mono (ih1 _ _ rd ro _ I F a w hc h1 (hr.lock ct)) ?_)
    intro e a' w' ⟨σ',I',F',g1,g2,g3,g4⟩
    have hother:cG σ (σ'.unlock σ):=gV g4.own
    cases e with
    | normal =>
      obtain⟨hokv,hInv⟩:=cr g3
      obtain⟨hdf,hInv⟩:=vd hInv
      have hrel:Rel (σ.lay ct (j8 x) (σ'.jW ct)) I' F' a' w':=by
       refine Rel.lay ct (j8 x) hr g1 ?_ (fun t ht=>g4.tm t ht) g4.size hokv hdf
       intro i b hb
       obtain⟨b1,e1,e2,e3,e4,e5,e6⟩:=qd (c:=ct) hb
       obtain⟨b2,f1,f2,f3,f4⟩:=g4.own i b1 e1
       refine⟨b2,f1,f2.trans e2,f3.trans e3,fun hs=>?_⟩
       have:nR ct.bks [] i=none:=by
        have:=qU (bks:=ct.bks) (vs:=(σ'.jW ct).drop ct.tms.length) (us:=[]) (i:=i)
        rw[hs] at this
        cases h0:nR ct.bks [] i with
        | none=>rfl
        | some cs=>rw[h0] at this;cases this
       exact (f4 (e6 this)).2.trans e4
      have h5:=qq h2 (qT hokv) I' F' g2 hInv
      have hkeep:cO (j8 x) σ a ((σ.lay ct (j8 x) (σ'.jW ct)).unlock σ) a':=by
       refine⟨?_,g4.tm,g4.size⟩
       exact pF hok (cG.refl _)
      exact wpIn_mono (ih2 _ K rd ro _ I' F' a' w' hc h5 hrel.unlock) fun e a2 w2 hp=>hp.trans hkeep g2 hx hy
    | _=>exact⟨_,I',F',g1.unlock,g2,g3,(⟨hother,g4.tm,g4.size⟩:cO (j8 x) σ a _ a').mono hx⟩
 | loop c ih =>
   intro n K rd ro σ I F a w hc h hr
   simp only[W] at h
   split at h
   ·exact h.elim
   ·rename_i ct hcut
    obtain⟨hokv,⟨m0,h0⟩,h⟩:=cr h
    have hok:ni σ.own ct.bks=true:=by simp only[S.CH,Bool.and_eq_true] at hokv;exact hokv.2
    refine zk (fun m a1 w1=>∃vs I1 F1,Rel (σ.lay ct (j8 c) vs) I1 F1 a1 w1∧cc.le I I1∧ct.Inv (σ.fix ct) I F vs m I1 F1∧dr ct.En vs=true ∧
     (∀t,t∉j8 c→a1.tmps[t]? = a.tmps[t]?)∧a1.tmps.size=a.tmps.size) ⟨m0,σ.jW ct,I,F, ?_,cc.le_refl I,h0,qT hokv,fun _ _=>rfl,rfl⟩ ?_
    ·exact Rel.lay ct (j8 c) hr hr (fun i b hb=>⟨b,hb,rfl,rfl,fun _=>rfl⟩) (fun _ _=>rfl) rfl hokv rfl
    ·intro m a1 w1 ⟨vs,I1,F1,r1,r2,r3,r4,r5,r6⟩
     have hb:=qq h r4 m I1 F1 r2 r3
     refine wpIn_mono (ih _ _ rd ro _ I1 F1 a1 w1 hc hb r1) ?_
     intro e a' w' ⟨σ',I',F',g1,g2,g3,g4⟩
     have hkeep:cO (j8 c) σ a (σ'.unlock σ) a':=⟨pF hok g4.own,fun t ht=>(g4.tm t ht).trans (r5 t ht),g4.size.trans r6⟩
     cases e with
     | normal =>
       obtain⟨hokv',hInv⟩:=cr g3
       obtain⟨hdf,m',hlt,hInv⟩:=vd hInv
       refine⟨m',hlt,σ'.jW ct,I',F', ?_,cc.le_trans r2 g2,hInv,qT hokv',hkeep.tm,hkeep.size⟩
       refine Rel.lay ct (j8 c) hr g1 ?_ hkeep.tm hkeep.size hokv' hdf
       intro i b hb
       have e0:(σ.lay ct (j8 c) vs).own[i]? = some (match nR ct.bks (vs.drop ct.tms.length) (0+i) with
        | some cs=>{ b with cells:=cs.map fun v=>.a (.v v) }
        | none=>{ b with ro:=true }):=by show (dz _ _ 0 σ.own)[i]? = _;rw[er,hb];rfl
       obtain⟨b2,f1,f2,f3,f4⟩:=g4.own i _ e0
       refine⟨b2,f1, ?_, ?_,fun hs=>?_⟩
       ·rw[f2];split<;>rfl
       ·rw[f3];split<;>rfl
       ·have hs':nR ct.bks (vs.drop ct.tms.length) (0+i)=none:=by
         rw[Nat.zero_add]
         have:=qU (bks:=ct.bks) (vs:=(σ'.jW ct).drop ct.tms.length) (us:=vs.drop ct.tms.length) (i:=i)
         rw[hs] at this
         cases h0:nR ct.bks (vs.drop ct.tms.length) i with
         | none=>rfl
         | some cs=>rw[h0] at this;cases this
        rw[hs'] at f4
        exact (f4 rfl).2
     | _=>exact⟨_,I',F',g1.unlock,cc.le_trans r2 g2,g3,hkeep⟩
def tT(P:Program)(σ:S):ResultVar→Option Value
 | .tmp t=>match σ.tm[t]? with
   | some (some av)=>some av.g
   | _=>none
 | .cell x t=>match σ.tm[x]? with
   | some (some (.a (.p i _ off))) =>
     match σ.own[i]?,nI P t with
     | some cj,some false=>(cj.cells[off]?).map AV.g
     | some cj,some true=>match sO P t with
       | some n=>cond (((cj.cells.drop off).take n).length==n) (some (.agg (((cj.cells.drop off).take n).map AV.g).toArray)) none
       | none=>none
     | _,_=>none
   | _=>none
def np(P:Program)(σ:S):List ResultVar→Option (List Value)
 | []=>some []
 | r::rs=>match tT P σ r,np P σ rs with
   | some v,some vs=>some (v::vs)
   | _,_=>none
def xg:List Value→Value
 | [v]=>v
 | vs=>.tuple vs.toArray
def qZ(a:Act):ResultVar→Sem Value
 | .tmp t=>pure (a.tmps.getD t undef)
 | .cell x t=>do loadVar t (←asAddr (a.tmps.getD x undef))
theorem xh{σ:S}{I:cc}{F:bZ}{a:Act}{w:World}(hr:Rel σ I F a w){r:ResultVar}{v:Value}(h:tT P σ r=some v) :
  (qZ a r).run P w=.ok v w:=by
 cases r with
 | tmp t =>
   simp only[tT] at h
   split at h
   ·rename_i av ht
    have:=hr.tm t av ht
    cases h
    simp[qZ,this]
   ·cases h
 | cell x t =>
   simp only[tT] at h
   split at h
   ·rename_i i b off hx
    have hv:=hr.tm x _ hx
    have hwf:=hr.wft x _ hx
    simp only[AV.g,At.g] at hv
    have hl:lj P t σ.own i off fun y=>y.g=v:=by
     unfold lj
     split at h
     ·rename_i cj hb ha
      simp only[hb,ha]
      cases hc:cj.cells[off]? with
      | none=>rw[hc] at h;cases h
      | some av=>rw[hc] at h;simp only[Option.map_some,Option.some.injEq] at h;exact h
     ·rename_i cj hb ha
      simp only[hb,ha]
      split at h
      ·rename_i n hn
       simp only[hn]
       cases hlen:(((cj.cells.drop off).take n).length==n) with
       | false=>rw[hlen] at h;cases h
       | true=>rw[hlen] at h;simp only[cond_true,Option.some.injEq] at h;exact h
      ·cases h
     ·cases h
    obtain⟨av,hg,_,hload⟩:=nM hl
    have:=hload b hwf w fun cj hb=>hr.sat.get hb
    rw[hg] at this
    simp[qZ,hv,asAddr,Sem.run_bind,this]
   ·cases h
theorem q8{σ:S}{I:cc}{F:bZ}{a:Act}{w:World}(hr:Rel σ I F a w):∀{rs:List ResultVar} {vs:List Value},np P σ rs=some vs →
  (rs.mapM (qZ a)).run P w=.ok vs w
 | [],vs,h=>by simp only[np,Option.some.injEq] at h;subst h;rfl
 | r::rs,vs,h=>by
   simp only[np] at h
   split at h
   ·rename_i v us h1 h2
    cases h
    simp[Sem.run_bind,xh hr h1,q8 hr h2]
   ·cases h
theorem pI{fn:Func}{σ:S}{I:cc}{F:bZ}{a:Act}{w:World}(hr:Rel σ I F a w){vs:List Value}(h:np P σ fn.results.toList=some vs) :
  (results fn a.tmps).run P w=.ok (xg vs) w:=by
 have h1:=q8 hr h
 have h2:results fn a.tmps=(do
   let vs ←fn.results.mapM (qZ a)
   pure (if h:vs.size=1 then vs[0] else .tuple vs)):=rfl
 rw[h2,Array.mapM_eq_mapM_toList]
 simp only[Sem.run_bind,Sem.run_map,h1,Result.andThen_ok,Sem.run_pure]
 congr 1
 match vs with
 | []=>rfl
 | [v]=>rfl
 | _::_::_=>rfl
def pick(own:List cV):List Nat→List cV
 | []=>[]
 | i::r=>match own[i]? with
   | some b=>b::pick own r
   | none=>pick own r
def xi:Option (List PanicEntry)→FrameMode
 | none=>.returning
 | some ch=>.panicking ch
def sD(P:Program)(f:FuncId)(args:List Value)(u:FrameMode)(I:cc)(F:bZ)(Q:Ending→FrameMode→cc→bZ→Prop):Prop :=
 ∀w,Sat I F w→CallsDIn Fence.wide 0 P f args.toArray u w fun e u' w'=>∃I' F',cc.le I I'∧Sat I' F' w'∧Q e u' I' F'
def vk(P:Program)(A:mD)(rs:List ResultVar)(keep:List Nat)(Q:Ending→cc→bZ→Prop):List Df→Option (List PanicEntry)→S→cc→bZ→Prop
 | [],none,σ,I,F=>match np P σ rs with
   | some vs=>Q (.returned (xg vs)) I (cB (pick σ.own keep)++F)
   | none=>False
 | [],some ch,σ,I,F=>Q (.panicked ch) I (cB (pick σ.own keep)++F)
 | .mark D::r,u,σ,I,F=>∃F3:bZ,F.Perm ((D,.deferred (some []))::F3)∧vk P A rs keep Q r u σ I F3
 | .fn f first cap args::r,u,σ,I,F=>cond (A.good f)
   (sD P f (first.map At.g++args++cap.map At.g) (xi u) I (cB σ.own++F) fun e u' I' G=>∃v,e=.returned v ∧
     nN A.shp (Es σ.own 2 (first.flatMap At.idx++cap.flatMap At.idx)) 0 σ.own fun own'=>∃F',G.Perm (cB own'++F') ∧
      ((settle u'=.returning∧vk P A rs keep Q r none { σ with own:=own' } I' F')∨(∃ch,settle u'=.panicking ch∧vk P A rs keep Q r (some ch) { σ with own:=own' } I' F'))) False
def yH(P:Program)(A:mD)(rs:List ResultVar)(keep:List Nat)(Q:Ending→cc→bZ→Prop):Kt
 | .normal,σ,I,F=>vk P A rs keep Q σ.df none σ I F
 | .ret,σ,I,F=>vk P A rs keep Q σ.df none σ I F
 | .panic ch,σ,I,F=>vk P A rs keep Q σ.df (some ch) σ I F
 | _,_,_,_=>False
def BR:Nat→List Nat→Bool
 | _,[]=>true
 | n,i::r=>decide (n≤i)&&BR (i+1) r
theorem rb:∀(keep:List Nat) (n:Nat) (own:List cV),BR n keep=true→(pick own keep).Sublist (own.drop n)
 | [],n,own,_=>by simp[pick]
 | i::r,n,own,h=>by
   simp only[BR,Bool.and_eq_true,decide_eq_true_eq] at h
   have ih:=rb r (i+1) own h.2
   simp only[pick]
   have hd:(own.drop (i+1)).Sublist (own.drop n):=by
    have:own.drop (i+1)=(own.drop n).drop (i+1-n):=by rw[List.drop_drop];congr 1;omega
    rw[this];exact List.drop_sublist _ _
   cases hb:own[i]? with
   | none=>exact ih.trans hd
   | some b =>
     have hlt:i<own.length:=by
      rcases Nat.lt_or_ge i own.length with h' | h'
      ·exact h'
      ·simp[List.getElem?_eq_none h'] at hb
     have hc:own.drop i=b::own.drop (i+1):=by
      rw[List.drop_eq_getElem_cons hlt]
      rw[List.getElem?_eq_getElem hlt] at hb
      rw[Option.some.inj hb]
     have hd':(own.drop i).Sublist (own.drop n):=by
      have:own.drop i=(own.drop n).drop (i-n):=by rw[List.drop_drop];congr 1;omega
      rw[this];exact List.drop_sublist _ _
     exact ((List.Sublist.cons_cons b ih).trans (by rw[hc];exact List.Sublist.refl _)).trans hd'
def jq(args:List AV)(n:Nat):List (Option AV):=args.map some++List.replicate (n-args.length) none
theorem zp{shp:Nat→List Sh}{σ:S}{I I':cc}{F F' G:bZ}{E:List Nat}{a:Act}{w w':World}(hr:Rel σ I F a w){own':List cV}(hsat:Sat I' G w')
  (h:own'.length=σ.own.length∧∀(j:Nat) (b:cV),σ.own[j]? = some b→∃b':cV,own'[j]? = some b'∧b'.num=b.num∧b'.elem=b.elem∧b'.ro=b.ro ∧
    ((∃vs:List Value,b'.cells=vs.map fun v=>.a (.v v))∨b'.cells=b.cells)∧(b.ro=true→b'.cells=b.cells)) (hp:G.Perm (cB own'++F')):Rel { σ with own:=own' } I' F' a w':=by
 obtain⟨hl,hk⟩:=h
 have hkeep:cG σ { σ with own:=own' }:=fun j b hb=>by
  obtain⟨b',h1,h2,h3,h4,_,h6⟩:=hk j b hb
  exact⟨b',h1,h2,h3,fun hro=>⟨by rw[h4];exact hro,h6 hro⟩⟩
 refine hr.heap hkeep.same ?_ (hsat.perm hp)
 intro j b' hj c hc
 have hlt:j<σ.own.length:=by
  rcases Nat.lt_or_ge j own'.length with h' | h'
  ·omega
  ·simp[List.getElem?_eq_none h'] at hj
 obtain⟨b,hb⟩:∃b,σ.own[j]? = some b:=⟨σ.own[j],by simp[hlt]⟩
 obtain⟨b'',h1,_,_,_,h5,_⟩:=hk j b hb
 rw[hj] at h1;cases h1
 rcases h5 with ⟨vs,e⟩ | e
 ·rw[e] at hc;obtain⟨v,_,e⟩:=List.mem_map.1 hc;subst e;trivial
 ·rw[e] at hc;exact AV.dE hkeep.same (hr.wfo j b hb c hc)
theorem ko(hP:∀f,A.good f=true→cY P f){fn:Func}{keep:List Nat}(hk:BR 0 keep=true){Q:Ending→cc→bZ→Prop}{I0:cc}:∀(df:List Df) (u:Option (List PanicEntry)) (σ:S) (I:cc) (F:bZ) (a:Act) (w:World),
  vk P A fn.results.toList keep Q df u σ I F→Rel σ I F a w→cc.le I0 I→LeavesInM Fence.wide 0 P fn a.tmps (qz I0 Q) (df.map Df.d) (xi u) w:=by
 have hsub:∀{σ:S} {I:cc} {F:bZ} {a:Act} {w:World},Rel σ I F a w→Sat I (cB (pick σ.own keep)++F) w:=fun {σ I F a w} h1=>by
  have h5:=rb keep 0 σ.own hk
  rw[List.drop_zero] at h5
  exact h1.sat.sub ((h5.map _).append (List.Sublist.refl F))
 intro df
 induction df with
 | nil =>
   intro u σ I F a w h hr hle
   cases u with
   | none =>
     simp only[vk] at h
     split at h
     ·rename_i vs hvs
      exact⟨_,pI hr hvs,I,_,hle,hsub hr,h⟩
     ·exact h.elim
   | some ch=>exact⟨I,_,hle,hsub hr,h⟩
 | cons d df ih =>
   intro u σ I F a w h hr hle
   have hrun:xi u ≠ .run:=by cases u<;>exact fun h=>by cases h
   cases d with
   | mark D =>
     obtain⟨F3,hp,h⟩:=h
     have hs:Sat I ((D,.deferred (some []))::(cB σ.own++F3)) w:=(hr.sat.perm (List.Perm.append_left _ hp)).perm List.perm_middle
     refine⟨hrun,.inl ⟨D,_,rfl,run_takeDeferred hs.qf,ih u σ I F3 a _ h ?_ hle⟩⟩
     exact hr.heap (gH.refl _) hr.wfo ((hs.nY (o':=.deferred none)).sub (List.sublist_cons_self _ _))
   | fn f first cap args =>
     obtain⟨hg,h⟩:=cr h
     refine⟨hrun,.inr ⟨fun h=>by simp[Fence.wide] at h,.func f,(cap.map At.g).toArray,f,(first.map At.g).toArray++args.toArray++(cap.map At.g).toArray,rfl, ?_,fun _ _=>trivial, ?_⟩⟩
     ·simp only[Df.d,invoke];exact hP f hg _ w
     ·have hc:=h w hr.sat
      have ha:(first.map At.g++args++cap.map At.g).toArray=(first.map At.g).toArray++args.toArray++(cap.map At.g).toArray:=by simp
      rw[ha] at hc
      refine hc.mono fun e u' w' ⟨I',G,hle',hs',v,he,hq⟩=>?_
      subst he
      obtain⟨own',⟨F',hp,hor⟩,hown⟩:=jV hq
      have hrel:=zp (shp:=A.shp) (E:=[]) hr hs' hown hp
      rcases hor with ⟨hm,hk2⟩ | ⟨ch,hm,hk2⟩
      ·have:=ih none _ I' F' a w' hk2 hrel (cc.le_trans hle hle')
       show LeavesInM Fence.wide 0 P fn a.tmps (qz I0 Q) (df.map Df.d) (settle u') w'
       rw[hm];exact this
      ·have:=ih (some ch) _ I' F' a w' hk2 hrel (cc.le_trans hle hle')
       show LeavesInM Fence.wide 0 P fn a.tmps (qz I0 Q) (df.map Df.d) (settle u') w'
       rw[hm];exact this
theorem AN(hP:∀f,A.good f=true→cY P f){f:FuncId}{fn:Func}{c:Code}(hf:P.funcs[f]? = some fn)(hb:fn.body=some c){args:List AV}{own:List cV}
  {I:cc} {F:bZ} {keep:List Nat} {Q:Ending→cc→bZ→Prop} (hk:BR 0 keep=true) (hwa:∀x∈args,AV.wf own x) (hwo:∀b∈own,∀x∈b.cells,AV.wf own x)
  (h:W P A none c 0 (yH P A fn.results.toList keep Q) ⟨jq args fn.ntmps,own,[]⟩ I F) {vs:Array Value} (hv:vs=(args.map AV.g).toArray):cf P f vs I (cB own++F) Q:=by
 subst hv
 intro w hw
 refine callsIn_wide.1 (callsIn_of_wp_marks (n:=0) hf hb trivial ?_)
 have hrel:Rel ⟨jq args fn.ntmps,own,[]⟩ I F { tmps:=(args.map AV.g).toArray++Array.replicate (fn.ntmps-(args.map AV.g).toArray.size) undef,defers:=[] } w:=by
  refine⟨by simp[jq], ?_,rfl, ?_, ?_,hw⟩
  ·intro t av ht
   simp only[jq,List.getElem?_append] at ht
   split at ht
   ·rename_i hlt
    simp only[List.getElem?_map] at ht
    cases ha:args[t]? with
    | none=>rw[ha] at ht;simp at ht
    | some x =>
      rw[ha] at ht
      simp only[Option.map_some,Option.some.injEq] at ht
      subst ht
      simp at hlt
      rw[Array.getElem?_append_left (by simpa using hlt)]
      simp[ha]
   ·rw[List.getElem?_replicate] at ht;split at ht<;>cases ht
  ·intro t av ht
   simp only[jq,List.getElem?_append] at ht
   split at ht
   ·simp only[List.getElem?_map] at ht
    cases ha:args[t]? with
    | none=>rw[ha] at ht;simp at ht
    | some x =>
      rw[ha] at ht
      simp only[Option.map_some,Option.some.injEq] at ht
      subst ht
      exact hwa _ (List.mem_of_getElem? ha)
   ·rw[List.getElem?_replicate] at ht;split at ht<;>cases ht
  ·exact fun i b hb' x hx=>hwo b (List.mem_of_getElem? hb') x hx
 refine wpIn_mono (yG hP c 0 _ none none _ I F _ w rfl h hrel) ?_
 intro e a' w' ⟨σ',I',F',h1,h2,h3,h4⟩
 cases e with
 | normal =>
   have:=ko hP hk σ'.df none σ' I' F' a' w' h3 h1 h2
   rw[←h1.defers] at this;exact this
 | ret =>
   have:=ko hP hk σ'.df none σ' I' F' a' w' h3 h1 h2
   rw[←h1.defers] at this;exact this
 | panic ch =>
   have:=ko hP hk σ'.df (some ch) σ' I' F' a' w' h3 h1 h2
   rw[←h1.defers] at this;exact this
 | exit id=>exact h3.elim
 | goto l=>exact h3.elim
 | outgrown=>exact h3.elim
end sound
def re(P:Program)(f:Nat):Bool :=
 match P.funcs[f]? with
 | some fn=>!(fn.name == "runtime.NumGoroutine")&&fn.body.isSome
 | none=>false
theorem rf{P:Program}{f:Nat}(h:re P f=true):cY P f:=by
 intro args w
 unfold re at h
 split at h
 ·rename_i fn hf
  simp only[Bool.and_eq_true,Bool.not_eq_true'] at h
  have h1:¬fn.name = "runtime.NumGoroutine" := by simpa using h.1
  have h2:¬fn.body=none:=fun e=>by rw[e] at h;simp at h
  simp[callFunc,program,Sem.run_bind,Sem.run,hf,h1,h2]
 ·cases h
def lk(l:List (Nat×List Sh))(t:Nat):List Sh :=
 match l with
 | []=>[]
 | (s,x)::r=>cond (s==t) x (lk r t)
def nZ:List Nat→Nat→Bool
 | [],_=>false
 | x::r,n=>x==n||nZ r n
def EN(l:List (Nat×Cut))(n:Nat):Option Cut :=
 match l with
 | []=>none
 | (m,c)::r=>cond (m==n) (some c) (EN r n)
def EO(l:List (Nat×Nat×List Nat))(n:Nat):Option (Nat×List Nat) :=
 match l with
 | []=>none
 | (m,k,h)::r=>cond (m==n) (some (k,h)) (EO r n)
theorem vm{P:Program}(l:List Nat)(h:l.all (re P)=true):∀f,nZ l f=true→cY P f:=by
 intro f hf
 have:f∈l:=by
  clear h
  induction l with
  | nil=>simp[nZ] at hf
  | cons x r ih =>
    simp only[nZ,Bool.or_eq_true,beq_iff_eq] at hf
    rcases hf with hf | hf
    ·exact hf▸List.mem_cons_self ..
    ·exact List.mem_cons_of_mem _ (ih hf)
 exact rf (List.all_eq_true.1 h f this)
abbrev cd:=Ending→cc→bZ→Prop
def cQ(sp pn gd:List Nat)(sh:List (Nat×List Sh))(ct:List (Nat×Cut))(pr rl:List Nat)(ds:List (Nat×Nat×List Nat))(fv:List Nat)(sq:List (Nat×List Nat))(tl:List (Nat×Nat))(s2:List (Nat×Nat×Nat×List Nat×List Nat):=[])(ol:List (Nat×List Nat×Nat):=[])(ot:List (Nat×List Nat×Ot):=[]):mD :=
 { sp:=fun r i=>nZ sp (r*1000+i),pn:=nZ pn,good:=nZ gd,shp:=lk sh,cut:=EN ct,pr:=fun r i=>nZ pr (r*1000+i),ds:=EO ds,rl:=fun r i=>nZ rl (r*1000+i),fv:=fun r i=>nZ fv (r*1000+i),sq:=EH sq,tl:=EL tl,s2:=EI s2,ol:=EK ol,ot:=EJ ot }
theorem vn{P:Program}{A:mD}{f:FuncId}{fn:Func}{args:List AV}{own:List cV}{I:cc}{F:bZ}{keep:List Nat}{Q:cd}{V:Prop}(gd:List Nat)(hf:P.funcs[f]? = some fn)(h:V)
  (e:W P A none (fn.body.getD .skip) 0 (yH P A fn.results.toList keep Q) ⟨jq args fn.ntmps,own,[]⟩ I F=V) (hg:A.good=nZ gd) (hG:gd.all (re P)=true) (hb:fn.body=some (fn.body.getD .skip)) (hk:BR 0 keep=true)
  (hwa:∀x∈args,AV.wf own x) (hwo:∀b∈own,∀x∈b.cells,AV.wf own x) {vs:Array Value} (hv:vs=(args.map AV.g).toArray):cf P f vs I (cB own++F) Q :=
 AN (fun f hf'=>vm gd hG f (by rw[←hg];exact hf')) hf hb hk hwa hwo (by rw[e];exact h) hv
theorem tv{P:Program}{A:mD}{f:FuncId}{fn:Func}{args:List AV}{own:List cV}{I:cc}{F:bZ}{keep:List Nat}{Q:cd}{V:Prop}(gd:List Nat)(hf:P.funcs[f]? = some fn)(h:V)
  (e:W P A none (fn.body.getD .skip) 0 (yH P A fn.results.toList keep Q) ⟨jq args fn.ntmps,own,[]⟩ I F=V:=by kernel_rfl) (hg:A.good=nZ gd:=by kernel_rfl) (hG:gd.all (re P)=true:=by kernel_rfl) (hb:fn.body=some (fn.body.getD .skip):=by kernel_rfl) (hk:BR 0 keep=true:=by kernel_rfl)
  (hwa:∀x∈args,AV.wf own x:=by simp[AV.wf,At.wf]) (hwo:∀b∈own,∀x∈b.cells,AV.wf own x:=by simp[AV.wf,At.wf]) {vs:Array Value} (hv:vs=(args.map AV.g).toArray:=by rfl):cf P f vs I (cB own++F) Q :=
 vn gd hf h e hg hG hb hk hwa hwo hv
abbrev Bs:=ByteArray
abbrev OA:=Option Addr
abbrev nB:ByteArray:=⟨#[]⟩
abbrev It(c:Bool)(A B:Prop):Prop:=(c=true→A)∧(c=false→B)
abbrev Dt(p:Prop)[Decidable p](A B:Prop):Prop:=(decide p=true→A)∧(decide p=false→B)
abbrev cE{α:Type}(P:Program)(f:FuncId)(x:Array Value)(I:cc)(h:bZ→bZ)(F:bZ)(v:α→Value)(k:α→cc→bZ→Prop):Prop:=cf P f x I (h F) fun e I' G=>∃r:α,e=.returned (v r)∧∃F':bZ,List.Perm G (h F')∧k r I' F'
abbrev dk(P:Program)(f:FuncId)(x:Array Value)(I:cc)(h:bZ→bZ)(F:bZ)(R:Ending→cc→((bZ→Prop)→Prop)→Prop):Prop:=cf P f x I (h F) fun e I' G=>R e I' fun k=>∃F':bZ,List.Perm G (h F')∧k F'
abbrev an(g:List Nat)(c:List Nat)(s:List (Nat×List Sh)):mD:=cQ g [] c s [] [] [] [] [] [] []
theorem tw{P:Program}{A:mD}{f:FuncId}{fn:Func}{vs:List Value}{I:cc}{F:bZ}{Q:cd}{V:Prop}(gd:List Nat)(hf:P.funcs[f]? = some fn)(h:V)
  (e:W P A none (fn.body.getD .skip) 0 (yH P A fn.results.toList [] Q) ⟨jq (vs.map fun v=>.a (.v v)) fn.ntmps,[],[]⟩ I F=V:=by kernel_rfl) (hg:A.good=nZ gd:=by kernel_rfl) (hG:gd.all (re P)=true:=by kernel_rfl) (hb:fn.body=some (fn.body.getD .skip):=by kernel_rfl)
  : cf P f vs.toArray I F Q :=
 vn (args:=vs.map fun v=>.a (.v v)) (own:=[]) (keep:=[]) gd hf h e hg hG hb rfl (by intro x hx;obtain⟨v,_,rfl⟩:=List.mem_map.1 hx;simp[AV.wf,At.wf]) (by simp) (by rw[List.map_map];congr 1;exact (List.map_id _).symm)
end Go.Vc
namespace Go.Vc
open Go.ChangeShapes Go.WideShapes Go.ChangeAt Go.RowKit
def cc.all(w:World):cc:=⟨fun b=>w.heap[b]?,w.os,w.output⟩
theorem Sat.all(w:World):Sat (cc.all w) [] w:=⟨fun _ _ h=>h,fun _ _ h=>by simp at h,fun _ _ h=>by simp at h,List.nodup_nil,rfl,rfl⟩
structure jr (w w':World):Prop where
 heap:∀i,i<w.heap.size→w'.heap[i]? = w.heap[i]?
 os:w'.os=w.os
 out:w'.output=w.output
theorem jr.of{w w':World}{I:cc}{F:bZ}(hl:cc.le (cc.all w) I)(hs:Sat I F w'):jr w w':=by
 refine⟨fun i hi=>?_,hs.env.1.trans hl.2.1,hs.env.2.trans hl.2.2⟩
 obtain⟨o,ho⟩:∃o,w.heap[i]? = some o:=⟨_,Array.getElem?_eq_getElem hi⟩
 rw[ho]
 exact hs.imm _ _ (hl.1 i o ho)
theorem jr.kept{w w':World}(h:jr w w')(may:MemPlace→Prop):w.keptBut w' may:=by
 refine⟨h.os,h.out,fun i hi=>?_⟩
 rw[h.heap i hi]
 cases w.heap[i]? with
 | none=>rfl
 | some o=>cases o with
   | cells c t fr=>exact⟨rfl,rfl,rfl,fun _ _=>rfl⟩
   | map es clock=>exact .inr ⟨rfl,rfl⟩
   | _=>rfl
theorem jr.frozen{w w':World}(h:jr w w'){a:Addr}(ha:a.block<w.heap.size):w'.frozen? a=w.frozen? a:=by
 unfold World.frozen?;rw[h.heap _ ha]
theorem xj{H:Type}{enc:TypeId×Value→H}{P:Program}{f:Func}{s:ChangeSpec}{apart fresh handsOn again:Bool}{W W':World}{args:Array Value}{v:Value}{ds gs:List (DataW H)}{before pa pv:List MemPlace}
  (hW:DataW.Whole enc P f.params.toList s.vars apart W args.toList ds gs before)
  (hres:∀(b:Nat) (sp:Nat→Bool) (hd:Bool),DataW.TrodAll enc P W' b sp hd f.resultTypes.toList (v.resultList f.resultTypes.size) (s.fn H (ds++gs)).results [])
  (hargs:∀sp:Nat→Bool,(∀p∈before,sp p.block=true)→DataW.TrodAll enc P W' 0 sp true f.params.toList args.toList (s.fn H (ds++gs)).args pa)
  (hvars:∀sp:Nat→Bool,(∀p∈before,sp p.block=true)→DataW.TrodVars enc P W' sp s.vars (s.fn H (ds++gs)).vars pv)
  (hps:before=pa++pv) (hk:jr W W')
  (hok:∀(j:Nat) (t:TypeId) (r:Value),f.resultTypes[j]? = some t→(v.resultList f.resultTypes.size)[j]? = some r→Value.okWide P W' .any 0 t r) :
  s.post enc P f apart fresh handsOn again W args v W':=by
 have hold:∀p∈before,(fun b=>decide (b<W.heap.size)) p.block=true:=fun p hp=>by simpa using hW.lt p hp
 have hlt:∀p∈before,p.block<W.heap.size:=fun p hp=>hW.lt p hp
 refine⟨ds,gs,before,[],pa,pv,hW,hres _ _ _,hargs _ hold,hvars _ hold,World.keptBut_mono (fun p hp=>⟨hp, ?_⟩) (hk.kept (·∈before)),fun _=>?_⟩
 ·rw[hps,List.mem_append] at hp
  exact Or.inr hp
 ·obtain⟨_,_,_,_,_,hz,hn⟩:=hW
  refine⟨hok,_,_,([]++pa)++pv,⟨[]++pa,pv,trodAll_append (hargs _ (fun _ _=>rfl)) (hres _ _ _),hvars _ (fun _ _=>rfl),rfl, ?_, ?_⟩, ?_⟩
  ·intro b off hp
   have hp':MemPlace.cell b off∈before:=by rw[hps];simpa using hp
   rw[hk.frozen (hlt _ hp')]
   exact hz b off hp'
  ·intro ha
   have:=hn ha
   rw[hps] at this
   simpa using this
  ·intro p hp _
   rw[hps]
   simpa using hp
end Go.Vc
namespace Go.Vc
theorem rh{α β:Type}(f:α→List β)(z:Nat)(hz:∀x,(f x).length=z):∀(l:List α) (i:Nat) (x:α) (j:Nat),l[i]? = some x→j<z→(l.flatMap f)[i*z+j]? = (f x)[j]?
 | [],i,x,j,h,_=>by simp at h
 | y::l,0,x,j,h,hj=>by
   simp at h;subst h
   rw[List.flatMap_cons,List.getElem?_append_left (by rw[hz];omega)];simp
 | y::l,i+1,x,j,h,hj=>by
   rw[List.flatMap_cons,List.getElem?_append_right (by rw[hz,Nat.succ_mul];omega),hz,show (i+1)*z+j-z=i*z+j by rw[Nat.succ_mul];omega]
   exact rh f z hz l i x j (by simpa using h) hj
def Sl{α:Type}(I:cc)(z:Nat)(f:α→List Value)(a:Option Addr)(n:Nat)(l:List α):Prop :=
 n=l.length∧(l≠[]→∃ad,a=some ad∧∀(i:Nat) (x:α),l[i]? = some x→∀G,Rd I G (ad.add (i*z)) (f x))
theorem Rd.le{I J:cc}{G:bZ}{ad:Addr}{cs:List Value}(h:Rd I G ad cs)(hl:∀b o,(I b=some o∨(b,o)∈G)→J b=some o∨(b,o)∈G):Rd J G ad cs:=by
 obtain⟨h1,cells,e,fz,h2,h3⟩:=h
 exact⟨h1,cells,e,fz,hl _ _ h2,h3⟩
theorem Rd.mono{I J:cc}{G:bZ}{ad:Addr}{cs:List Value}(h:Rd I G ad cs)(hl:cc.le I J):Rd J G ad cs :=
 h.le fun b o hb=>hb.imp (fun h=>hl.at h) id
theorem Sl.mono{α:Type}{I J:cc}{z:Nat}{f:α→List Value}{a:Option Addr}{n:Nat}{l:List α}(h:Sl I z f a n l)(hl:cc.le I J):Sl J z f a n l :=
 ⟨h.1,fun hne=>let ⟨ad,ha,hr⟩:=h.2 hne;⟨ad,ha,fun i x hx G=>(hr i x hx G).mono hl⟩⟩
theorem Sl.jY{α:Type}{I:cc}{z:Nat}{f:α→List Value}(hz:∀x,(f x).length=z){b e:Nat}{fz:Nat×Nat}{l:List α}{cells:Array Value}(h:I b=some (.cells cells e fz))
  (hc:∀k,k<(l.flatMap f).length→cells[k]? = (l.flatMap f)[k]?):Sl I z f (some ⟨b,0,none⟩) l.length l:=by
 refine⟨rfl,fun hne=>⟨_,rfl,fun i x hx G=>?_⟩⟩
 have hadd:(⟨b,0,none⟩:Addr).add (i*z)=⟨b,i*z,none⟩:=by unfold Addr.add;split<;>simp_all
 rw[hadd]
 refine⟨rfl,cells,e,fz,.inl h,fun j hj=>?_⟩
 rw[hz] at hj
 have h1:=rh f z hz l i x j hx hj
 have h2:(l.flatMap f)[i*z+j]? ≠ none:=by
  rw[h1];rw[List.getElem?_eq_getElem (by rw[hz];exact hj)];simp
 have hlt:i*z+j<(l.flatMap f).length:=by
  rcases Nat.lt_or_ge (i*z+j) (l.flatMap f).length with h | h
  ·exact h
  ·exact absurd (List.getElem?_eq_none h) h2
 show cells[i*z+j]? = _
 rw[hc _ hlt,h1]
theorem Sl.iP{α:Type}{I:cc}{z:Nat}{f:α→List Value}(hz:∀x,(f x).length=z){b e:Nat}{fz:Nat×Nat}{l:List α}{cells:Array Value}(h:I b=some (.cells cells e fz))
  (hc:cells.toList=l.flatMap f):Sl I z f (some ⟨b,0,none⟩) l.length l :=
 Sl.jY hz h fun k _=>by rw[←hc];simp
theorem Sl.at{α:Type}{I:cc}{z:Nat}{f:α→List Value}{a:Option Addr}{n:Nat}{l:List α}(h:Sl I z f a n l){i:Int}(h0:0≤i)(h1:i<n) :
  ∃ad x,a=some ad∧l[i.toNat]? = some x∧∀G,Rd I G (ad.add (Int.toNat i*z)) (f x):=by
 have hlt:i.toNat<l.length:=by have:=h.1;omega
 obtain⟨ad,ha,hr⟩:=h.2 (by intro e;rw[e] at hlt;simp at hlt)
 exact⟨ad,l[i.toNat],ha,by simp[hlt],fun G=>hr _ _ (by simp[hlt]) G⟩
def Acc{α:Type}(z:Nat)(f:α→List Value)(e:Nat)(a:Option Addr)(n c:Nat)(l:List α)(A:bZ):Prop :=
 n=l.length∧((a=none∧c=0∧l=[]∧A=[]) ∨
  ∃b cells,a=some ⟨b,0,none⟩∧A=[(b,Obj.cells cells e (0,0))]∧cells.size=c*z∧n≤c∧cells.toList.take (n*z)=l.flatMap f)
theorem Acc.nil{α:Type}{z:Nat}{f:α→List Value}{e:Nat}:Acc z f e none 0 0 ([]:List α) []:=⟨rfl,.inl ⟨rfl,rfl,rfl,rfl⟩⟩
theorem xk(w:World)(g:Nat)(old cs:Array Value)(t:TypeId)(fr:Nat×Nat)(hg:w.heap[g]? = some (.cells old t fr)):(w.setRow g cs).heap=w.heap.setIfInBounds g (.cells cs t fr):=by
 apply Array.ext_getElem?
 intro j
 rw[Array.getElem?_setIfInBounds]
 by_cases h:g=j
 ·subst h
  have hlt:g<w.heap.size:=(Array.getElem?_eq_some_iff.1 hg).1
  rw[if_pos rfl,if_pos hlt];exact setRow_heap w g old cs t fr hg
 ·rw[if_neg h];exact setRow_other w g j cs (Ne.symm h)
theorem iQ{α β:Type}{f:α→List β}{z:Nat}(hz:∀x,(f x).length=z):∀l:List α,(l.flatMap f).length=l.length*z
 | []=>by simp
 | x::l=>by rw[List.flatMap_cons,List.length_append,hz,iQ hz l,List.length_cons,Nat.succ_mul,Nat.add_comm]
theorem vo{P:Program}{α:Type}{z:Nat}{f:α→List Value}(hz:∀x,(f x).length=z)(t ty e:TypeId)(i:TypeInfo)(zv:Value)(ht:P.underlying t=some (.slice e))(hi:P.info? e=some i)(hzv:i.zero=some zv)(hsz:i.size=z)(hzs:zv.cells.size=z)(hb:1≤i.bytes)
  {a:Option Addr} {n c:Nat} {l:List α} {A:bZ} (hA:Acc z f e a n c l A) {xs:List α} (h1:∀x∈xs,∀u∈f x,u.oneCell'=true) (hx:xs≠[]) {sa:Addr} {m sc:Nat} (hm:m=xs.length) {I:cc} {F:bZ}
  (hr:Rd I (A++F) sa (xs.flatMap f)) (hfit:(l.length+xs.length)*i.bytes≤140737488355328) :
  cI P (Builtin.append_ #[t,t] ty #[.slice a n c,.slice (some sa) m sc]) I (A++F) fun v I' G=>∃a' n' c' A',v=.slice a' n' c'∧Acc z f e a' n' c' (l++xs) A'∧G=A'++F∧(a'=a∨Sl I' z f a n l):=by
 intro w hw
 subst hsz
 have hlen:(xs.flatMap f).length=m*i.size:=by rw[iQ hz,hm]
 have hnews:∀j u,(xs.flatMap f)[j]? = some u→w.cell? (sa.add j)=some u:=fun j u hj=>by
  rw[hr.cell hw j (by
   rcases Nat.lt_or_ge j (xs.flatMap f).length with h | h
   ·exact h
   ·rw[List.getElem?_eq_none h] at hj;cases hj),hj]
 have h1':∀u∈xs.flatMap f,u.oneCell'=true:=fun u hu=>by
  obtain⟨x,hxm,hu⟩:=List.mem_flatMap.1 hu
  exact h1 x hxm u hu
 have hxp:0<xs.length:=List.length_pos_iff.2 hx
 have hle:l.length+xs.length≤140737488355328:=Nat.le_trans (Nat.le_mul_of_pos_right _ hb) hfit
 obtain⟨hn,⟨ha,hc,hl,hA⟩ | ⟨b,cells,ha,hA,hcs,hnc,htk⟩⟩:=hA
 ·subst ha hc hl hA
  simp only[List.length_nil,Nat.zero_add,List.nil_append] at hfit hn hle ⊢
  subst hn
  have hrun:=run_append_nil (P:=P) w t ty e i zv ht hi hzv sa m sc _ hlen hnews (by omega) (by omega) (by rw[hm];omega)
  have hge:=grownCap_ge w m 0 e
  have hsat:Sat I F w.drew:=hw.of_heap rfl ⟨rfl,rfl⟩
  refine⟨_,_,I,_,hrun,cc.le_refl I,hsat.alloc _,_,_,_,[_],rfl,⟨hm,.inr ⟨_,_,rfl,rfl, ?_,hge, ?_⟩⟩,rfl, ?_⟩
  ·simp only[Array.size_append,List.size_toArray,size_zeroCells,hzs,hlen,←Nat.add_mul]
   congr 1;omega
  ·rw[Array.toList_append,←hlen];exact List.take_left
  ·exact .inr ⟨rfl,fun h=>absurd rfl h⟩
 ·subst ha hA
  have hflat:(l.flatMap f).length=n*i.size:=by rw[iQ hz,hn]
  have hg:w.heap[b]? = some (.cells cells e (0,0)):=hw.own _ _ (List.mem_cons_self ..)
  by_cases hroom:n+m≤c
  ·have hfit2:n*i.size+(xs.flatMap f).length≤cells.size:=by rw[hlen,hcs,←Nat.add_mul];exact Nat.mul_le_mul_right _ hroom
   have hrun:=run_append_room (P:=P) w t ty e i ht hi b n c cells hg sa m sc _ hlen hnews h1' hroom hfit2
   refine⟨_,_,I,_,hrun,cc.le_refl I,hw.set (xk w b cells _ e (0,0) hg) ⟨rfl,rfl⟩,_,_,_,[_],rfl,⟨by rw[List.length_append];omega,.inr ⟨_,_,rfl,rfl, ?_,hroom, ?_⟩⟩,rfl,.inl rfl⟩
   ·simp only[List.size_toArray,List.length_append,List.length_take,List.length_drop,Array.length_toList]
    omega
   ·rw[htk,List.flatMap_append,Nat.add_mul,←hflat,←hlen,←List.length_append]
    exact List.take_left
  ·have hcell:∀j u,(l.flatMap f)[j]? = some u→w.cell? ((⟨b,0,none⟩:Addr).add j)=some u:=fun j u hj=>by
    have hadd:(⟨b,0,none⟩:Addr).add j=⟨b,j,none⟩:=by unfold Addr.add;split<;>simp_all
    rw[hadd,cell_of_row w b j cells e (0,0) hg]
    rw[←htk,List.getElem?_take] at hj
    split at hj
    ·simpa using hj
    ·cases hj
   have hrun:=run_append_grow (P:=P) w t ty e i zv ht hi hzv ⟨b,0,none⟩ n c _ hflat hcell sa m sc _ hlen hnews (by omega) (by omega) (growslice_fits (by omega) (by rw[hn,hm];exact hfit))
   have hge:=grownCap_ge w (n+m) c e
   obtain⟨hle',hprom⟩:=(hw.of_heap rfl ⟨rfl,rfl⟩:Sat I ((b,Obj.cells cells e (0,0))::F) w.drew).jl
   refine⟨_,_,_,_,hrun,hle',hprom.alloc _,_,_,_,[_],rfl,⟨by rw[List.length_append];omega,.inr ⟨_,_,rfl,rfl, ?_,hge, ?_⟩⟩,rfl,.inr ?_⟩
   ·simp only[Array.size_append,List.size_toArray,size_zeroCells,hzs,hflat,hlen,←Nat.add_mul]
    congr 1;omega
   ·simp only[Array.toList_append]
    rw[List.flatMap_append,Nat.add_mul,←hflat,←hlen,←List.length_append]
    exact List.take_left
   ·rw[hn]
    refine Sl.jY hz (cc.iI _ _ _) fun k hk=>?_
    rw[←htk,List.getElem?_take,if_pos]
    ·simp
    ·rw[iQ hz,←hn] at hk;exact hk
theorem iv{P:Program}{α:Type}{z:Nat}{f:α→List Value}(hz:∀x,(f x).length=z){t ty e:TypeId}{zv:Value}{by':Nat}(ht:P.underlying t=some (.slice e))(hi:(P.info? e).map (fun i=>(i.zero,i.size,i.bytes))=some (some zv,z,by'))(hzs:zv.cells.size=z)(hb:1≤by')
  {a:Option Addr} {n c:Nat} {l:List α} {A:bZ} (hA:Acc z f e a n c l A) {xs:List α} (h1:∀x∈xs,∀u∈f x,u.oneCell'=true) (hx:xs≠[]) {sa:Addr} {m sc:Nat} (hm:m=xs.length) {I:cc} {F:bZ}
  (hr:Rd I (A++F) sa (xs.flatMap f)) (hfit:(l.length+xs.length)*by'≤140737488355328) :
  cI P (Builtin.append_ #[t,t] ty #[.slice a n c,.slice (some sa) m sc]) I (A++F) fun v I' G=>∃a' n' c' A',v=.slice a' n' c'∧Acc z f e a' n' c' (l++xs) A'∧G=A'++F∧(a'=a∨Sl I' z f a n l):=by
 cases h:P.info? e with
 | none=>rw[h] at hi;cases hi
 | some i =>
   rw[h] at hi
   simp only[Option.map_some,Option.some.injEq,Prod.mk.injEq] at hi
   exact vo hz t ty e i zv ht h hi.1 hi.2.1 hzs (by omega) hA h1 hx hm hr (by rw[hi.2.2];exact hfit)
theorem cI.perm{P:Program}{s:Sem Value}{I:cc}{F G:bZ}{Q:Value→cc→bZ→Prop}(h:cI P s I F Q)(p:G.Perm F):cI P s I G Q:=fun w hw=>h w (hw.perm p)
theorem cf.perm{P:Program}{f:FuncId}{args:Array Value}{I:cc}{F G:bZ}{Q:Ending→cc→bZ→Prop}(h:cf P f args I F Q)(p:G.Perm F):cf P f args I G Q:=fun w hw=>h w (hw.perm p)
theorem cf.keep{P:Program}{f:FuncId}{args:Array Value}{I:cc}{F:bZ}{Q Q':Ending→cc→bZ→Prop}(h:cf P f args I F Q)
  (k:∀e I' G w,cc.le I I'→Sat I' G w→Q e I' G→∃J G',cc.le I' J∧Sat J G' w∧Q' e J G'):cf P f args I F Q' :=
 fun w hw=>(h w hw).mono fun e w' ⟨I',G,hl,hs,hq⟩=>let ⟨J,G',hl',hs',hq'⟩:=k e I' G w' hl hs hq;⟨J,G',cc.le_trans hl hl',hs',hq'⟩
theorem Acc.keep{α:Type}{z:Nat}{f:α→List Value}(hz:∀x,(f x).length=z){e:Nat}{a:Option Addr}{n c:Nat}{l:List α}{A F:bZ}(h:Acc z f e a n c l A){I:cc}{w:World}(hw:Sat I (A++F) w) :
  ∃J,cc.le I J∧Sat J F w∧Sl J z f a n l:=by
 obtain⟨hn,⟨ha,hc,hl,hA⟩ | ⟨b,cells,ha,hA,hcs,hnc,htk⟩⟩:=h
 ·subst ha hc hl hA hn
  exact⟨I,cc.le_refl I,hw,rfl,fun h=>absurd rfl h⟩
 ·subst ha hA
  obtain⟨h1,h2⟩:=hw.jl
  refine⟨_,h1,h2, ?_⟩
  rw[hn]
  refine Sl.jY hz (cc.iI _ _ _) fun k hk=>?_
  rw[←htk,List.getElem?_take,if_pos]
  ·simp
  ·rw[iQ hz,←hn] at hk;exact hk
def xl:Value→Value→Option Bool
 | .int k a,.int k' b=>bif k==k' then some (a==b) else none
 | .string a,.string b=>some (a.toList==b.toList)
 | .bool a,.bool b=>some (a==b)
 | _,_=>none
def oR(P:Program)(t:TypeId):Value→Bool
 | .int _ _=>match P.underlying t with | some (.int _)=>true | _=>false
 | .string _=>match P.underlying t with | some .string=>true | _=>false
 | .bool _=>match P.underlying t with | some .bool=>true | _=>false
 | _=>false
theorem xm{P:Program}{t:TypeId}{u v:Value}{b:Bool}(h:xl u v=some b)(ht:oR P t u=true)(d:Nat)(w:World):(Op.equalIn (d+1) t u v).run P w=.ok b w:=by
 unfold xl at h
 split at h
 ·rename_i k a k' b'
  cases hk:k==k' with
  | false=>rw[hk] at h;cases h
  | true =>
    have:k=k':=by cases k<;>cases k'<;>first | rfl | cases hk
    subst this
    rw[hk] at h
    cases h
    simp only[oR] at ht
    split at ht
    ·rename_i hu;exact run_equalIn_int w d t k _ a b' hu
    ·exact absurd ht (by decide)
 ·cases h
  simp only[oR] at ht
  split at ht
  ·rename_i hu;exact run_equalIn_string w d t _ _ hu
  ·exact absurd ht (by decide)
 ·cases h
  simp only[oR] at ht
  split at ht
  ·rename_i hu;exact run_equalIn_bool' w d t _ _ hu
  ·exact absurd ht (by decide)
 ·cases h
def oS(P:Program)(xs ys:Array Value):List Field→Option Bool
 | []=>some true
 | f::fs=>bif !(f.name == "_")&&(match nI P f.type with | some false=>true | _=>false) then
    (match xs[f.offset]?,ys[f.offset]? with
      | some u,some v=>bif oR P f.type u then (match xl u v,oS P xs ys fs with | some b,some c=>some (b&&c) | _,_=>none) else none
      | _,_=>none) else none
theorem vq{P:Program}{t:TypeId}{cs:Array Value}{o:Nat}{v:Value}(h:nI P t=some false)(hv:cs[o]? = some v)(w:World):(part t cs o).run P w=.ok v w:=by
 simp[part,Sem.run_bind,oJ h,hv]
theorem ri{P:Program}{xs ys:Array Value}(d:Nat):∀{fs:List Field} {b:Bool},oS P xs ys fs=some b→∀w,(Op.eqFields (d+1) xs ys fs).run P w=.ok b w
 | [],b,h,w=>by cases h;rfl
 | f::fs,b,h,w=>by
   unfold oS at h
   cases hc:(!(f.name == "_")&&(match nI P f.type with | some false=>true | _=>false)) with
   | false=>rw[hc] at h;cases h
   | true =>
     rw[hc] at h
     simp only[cond_true] at h
     rw[Bool.and_eq_true] at hc
     have hname:f.name ≠ "_" := by simpa using hc.1
     have hagg:nI P f.type=some false:=by
      have:=hc.2
      split at this
      ·assumption
      ·cases this
     split at h
     ·rename_i u v hu hv
      cases hl:oR P f.type u with
      | false=>rw[hl] at h;cases h
      | true =>
        rw[hl] at h
        simp only[cond_true] at h
        split at h
        ·rename_i b' c hb hcc
         cases h
         simp only[Op.eqFields,hname,ne_eq,not_false_eq_true,if_true,Sem.run_bind,vq hagg hu,vq hagg hv,Result.andThen_ok,xm hb hl]
         cases b'
         ·simp
         ·simp only[Bool.not_true,Bool.false_eq_true,if_false,Bool.true_and]
          exact ri d hcc w
        ·cases h
     ·cases h
theorem rj{P:Program}{t:TypeId}{x y:Operand}{xs ys:Array Value}{b:Bool}(ht:P.underlying t=some (.struct (P.fieldsOf t)))(hp:P.stoodInHeld t=false)(hm:P.eqGuardType P.depth t=false)
  (h:oS P xs ys (P.fieldsOf t).toList=some b):cS P .eql t x y (.agg xs) (.agg ys) b:=by
 intro w
 simp only[Sem.run_bind,run_eqGuard_agg (P:=P) w .eql t x y xs ys hm,Result.andThen_ok,run_eql_struct]
 rw[show (10000:Nat)=9998+1+1 from rfl,run_equalIn_struct w (9998+1) t xs ys ht hp,ri 9998 h];rfl
def gg{α:Type}(I:cc)(G:bZ)(z:Nat)(f:α→List Value)(a:Option Addr)(n:Nat)(l:List α):Prop :=
 n=l.length∧(l≠[]→∃ad,a=some ad∧∀(i:Nat) (x:α),l[i]? = some x→Rd I G (ad.add (i*z)) (f x))
theorem Rd.sub{I J:cc}{G H:bZ}{ad:Addr}{cs:List Value}(h:Rd I G ad cs)(hl:cc.le I J)(hs:∀x,x∈G→x∈H):Rd J H ad cs:=by
 obtain⟨h1,cells,e,fz,h2,h3⟩:=h
 exact⟨h1,cells,e,fz,h2.imp (fun h=>hl.at h) (hs _),h3⟩
theorem Sl.yI{α:Type}{I:cc}{z:Nat}{f:α→List Value}{a:Option Addr}{n:Nat}{l:List α}(h:Sl I z f a n l)(G:bZ):gg I G z f a n l :=
 ⟨h.1,fun hne=>let ⟨ad,ha,hr⟩:=h.2 hne;⟨ad,ha,fun i x hx=>hr i x hx G⟩⟩
theorem gg.mono{α:Type}{I J:cc}{G H:bZ}{z:Nat}{f:α→List Value}{a:Option Addr}{n:Nat}{l:List α}(h:gg I G z f a n l)(hl:cc.le I J)(hs:∀x,x∈G→x∈H):gg J H z f a n l :=
 ⟨h.1,fun hne=>let ⟨ad,ha,hr⟩:=h.2 hne;⟨ad,ha,fun i x hx=>(hr i x hx).sub hl hs⟩⟩
theorem gg.at{α:Type}{I:cc}{G:bZ}{z:Nat}{f:α→List Value}{a:Option Addr}{n:Nat}{l:List α}(h:gg I G z f a n l){i:Int}(h0:0≤i)(h1:i<n) :
  ∃ad x,a=some ad∧l[i.toNat]? = some x∧Rd I G (ad.add (Int.toNat i*z)) (f x):=by
 have hlt:i.toNat<l.length:=by have:=h.1;omega
 obtain⟨ad,ha,hr⟩:=h.2 (by intro e;rw[e] at hlt;simp at hlt)
 exact⟨ad,l[i.toNat],ha,by simp[hlt],hr _ _ (by simp[hlt])⟩
theorem gg.Db{α:Type}{I:cc}{G:bZ}{z:Nat}{f:α→List Value}(hz:∀x,(f x).length=z){b e:Nat}{fz:Nat×Nat}{l:List α}{cells:Array Value}(h:(b,Obj.cells cells e fz)∈G)
  (hc:∀k,k<(l.flatMap f).length→cells[k]? = (l.flatMap f)[k]?):gg I G z f (some ⟨b,0,none⟩) l.length l:=by
 refine⟨rfl,fun hne=>⟨_,rfl,fun i x hx=>?_⟩⟩
 have hadd:(⟨b,0,none⟩:Addr).add (i*z)=⟨b,i*z,none⟩:=by unfold Addr.add;split<;>simp_all
 rw[hadd]
 refine⟨rfl,cells,e,fz,.inr h,fun j hj=>?_⟩
 rw[hz] at hj
 have h1:=rh f z hz l i x j hx hj
 have h2:(l.flatMap f)[i*z+j]? ≠ none:=by
  rw[h1];rw[List.getElem?_eq_getElem (by rw[hz];exact hj)];simp
 have hlt:i*z+j<(l.flatMap f).length:=by
  rcases Nat.lt_or_ge (i*z+j) (l.flatMap f).length with h | h
  ·exact h
  ·exact absurd (List.getElem?_eq_none h) h2
 show cells[i*z+j]? = _
 rw[hc _ hlt,h1]
theorem Acc.yI{α:Type}{z:Nat}{f:α→List Value}(hz:∀x,(f x).length=z){e:Nat}{a:Option Addr}{n c:Nat}{l:List α}{A:bZ}(h:Acc z f e a n c l A)(I:cc){G:bZ}(hs:∀x,x∈A→x∈G):gg I G z f a n l:=by
 obtain⟨hn,⟨ha,hc,hl,hA⟩ | ⟨b,cells,ha,hA,hcs,hnc,htk⟩⟩:=h
 ·subst hl hn;exact⟨rfl,fun h=>absurd rfl h⟩
 ·subst ha hA
  rw[hn]
  refine gg.Db hz (hs _ (List.mem_cons_self ..)) fun k hk=>?_
  rw[←htk,List.getElem?_take,if_pos]
  ·simp
  ·rw[iQ hz,←hn] at hk;exact hk
theorem Rd.field{I:cc}{G:bZ}{ad:Addr}{cs:List Value}(h:Rd I G ad cs){o:Nat}{v:Value}(hv:cs[o]? = some v):Rd I G (ad.add o) [v]:=by
 obtain⟨h1,cells,e,fz,h2,h3⟩:=h
 have hadd:ad.add o=⟨ad.block,ad.off+o,none⟩:=by
  obtain⟨b,off,sp⟩:=ad
  simp only at h1;subst h1
  unfold Addr.add;split<;>simp_all
 rw[hadd]
 refine⟨rfl,cells,e,fz,h2,fun j hj=>?_⟩
 have:j=0:=by simpa using hj
 subst this
 have hlt:o<cs.length:=by
  rcases Nat.lt_or_ge o cs.length with h | h
  ·exact h
  ·rw[List.getElem?_eq_none h] at hv;cases hv
 show cells[ad.off+o+0]? = _
 rw[Nat.add_zero,h3 o hlt,hv];rfl
abbrev Ck(z:Nat):={ x:List Value // x.length=z }
def cv{z:Nat}(x:Ck z):List Value:=x.val
theorem iR(b i:Nat):(⟨b,0,none⟩:Addr).add i=⟨b,i,none⟩:=by unfold Addr.add;split<;>simp_all
section
open Classical
noncomputable def cn(a:Nat×Obj)(l:bZ):Nat:=l.countP fun x=>decide (x=a)
noncomputable def on(a x:Nat×Obj):Nat:=if x=a then 1 else 0
theorem rk(a:Nat×Obj)(l m:bZ):cn a (l++m)=cn a l+cn a m:=List.countP_append
theorem oc(a x:Nat×Obj)(l:bZ):cn a (x::l)=on a x+cn a l:=by
 unfold cn on;rw[List.countP_cons];simp only[decide_eq_true_eq];omega
theorem tU(a:Nat×Obj):cn a []=0:=rfl
noncomputable def B2:DecidableEq (Nat×Obj):=fun x y=>propDecidable (x=y)
theorem od{l m:bZ}(h:∀a,cn a l=cn a m):l.Perm m:=by
 refine (@List.perm_iff_count (Nat×Obj) (@instBEqOfDecidableEq _ B2) (@instLawfulBEq _ B2) l m).2 fun a=>?_
 have h1:∀l:bZ,@List.count _ (@instBEqOfDecidableEq _ B2) a l=cn a l:=fun l=>by
  unfold List.count cn
  congr 1
  funext x
  show @decide (x=a) (B2 x a)=decide (x=a)
  congr
 rw[h1,h1];exact h a
end
theorem Rd.tV{I:cc}{b t:Nat}{fz:Nat×Nat}{cells:Array Value}(h:I b=some (.cells cells t fz))(G:bZ)(o:Nat){cs:List Value}(hc:∀j,j<cs.length→cells[o+j]? = cs[j]?):Rd I G (⟨b,o,none⟩:Addr) cs:=⟨rfl,cells,t,fz,.inl h,hc⟩
theorem Rd.tW{I:cc}{b t:Nat}{fz:Nat×Nat}{cells:Array Value}{G:bZ}(h:(b,Obj.cells cells t fz)∈G)(o:Nat){cs:List Value}(hc:∀j,j<cs.length→cells[o+j]? = cs[j]?):Rd I G (⟨b,o,none⟩:Addr) cs:=⟨rfl,cells,t,fz,.inr h,hc⟩
end Go.Vc
namespace Go.Lx
open Go.Vc
def fy(c:Int):Bool:=decide (97≤c)&&decide (c≤122)
def dh(c:Int):Bool:=decide (48≤c)&&decide (c≤57)
def c9(c:Int):Bool:=fy c||dh c||(c==95)
def zq(p:Int→Bool)(s:ByteArray):Nat→Int→Int
 | 0,i=>i
 | n+1,i=>if p (bt s i) then zq p s n (i+1) else i
def ee(p:Int→Bool)(s:ByteArray)(i:Int):Int:=zq p s (s.size-i).toNat i
theorem mb{p:Int→Bool}{s:ByteArray}{i:Int}(h:(s.size:Int)≤i):ee p s i=i:=by
 unfold ee;rw[show ((s.size:Int)-i).toNat=0 by omega];rfl
theorem dR{p:Int→Bool}{s:ByteArray}{i:Int}(h:i<(s.size:Int)):ee p s i=if p (bt s i) then ee p s (i+1) else i:=by
 unfold ee
 obtain⟨n,hn⟩:∃n,((s.size:Int)-i).toNat=n+1:=⟨((s.size:Int)-i).toNat-1,by omega⟩
 rw[hn,show ((s.size:Int)-(i+1)).toNat=n by omega];rfl
theorem yJ(p:Int→Bool)(s:ByteArray):∀(n:Nat) (i:Int),i≤zq p s n i∧zq p s n i≤i+n
 | 0,i=>by simp[zq]
 | n+1,i=>by
   have:=yJ p s n (i+1)
   unfold zq;split<;>omega
theorem lu{p:Int→Bool}{s:ByteArray}{i:Int}(h:i≤(s.size:Int)):i≤ee p s i∧ee p s i≤s.size:=by
 have:=yJ p s (s.size-i).toNat i
 unfold ee;omega
def blank(c:Int):Bool:=c==32||c==9||c==10||c==13
def tX(c:Int)(r:Bool):Bool:=if c=35 then true else if c=10 then false else r
def s8(s:ByteArray):Nat→Bool→Int→Int
 | 0,_,i=>i
 | n+1,r,i=>if !(tX (bt s i) r) && !blank (bt s i) then i else s8 s n (tX (bt s i) r) (i+1)
def oe(s:ByteArray)(r:Bool)(i:Int):Int:=s8 s (s.size-i).toNat r i
def hZ(s:ByteArray)(i:Int):Int:=oe s false i
theorem zr{s:ByteArray}{r:Bool}{i:Int}(h:(s.size:Int)≤i):oe s r i=i:=by
 unfold oe;rw[show ((s.size:Int)-i).toNat=0 by omega];rfl
theorem xo{s:ByteArray}{r:Bool}{i:Int}(h:i<(s.size:Int)):oe s r i =
  if !(tX (bt s i) r) && !blank (bt s i) then i else oe s (tX (bt s i) r) (i+1):=by
 unfold oe
 obtain⟨n,hn⟩:∃n,((s.size:Int)-i).toNat=n+1:=⟨((s.size:Int)-i).toNat-1,by omega⟩
 rw[hn,show ((s.size:Int)-(i+1)).toNat=n by omega];rfl
theorem vr(s:ByteArray):∀(n:Nat) (r:Bool) (i:Int),i≤s8 s n r i∧s8 s n r i≤i+n
 | 0,r,i=>by simp[s8]
 | n+1,r,i=>by
   unfold s8
   have:=vr s n (tX (bt s i) r) (i+1)
   split<;>omega
theorem oT{s:ByteArray}{i:Int}(h:i≤(s.size:Int)):i≤hZ s i∧hZ s i≤s.size:=by
 have:=vr s (s.size-i).toNat false i
 unfold hZ oe;omega
structure Tok where
 kind:Int
 text:ByteArray
 cq:Int
 n:Int
 pos:Int
inductive TR where
 | ok (t:Tok)
 | bad (e p:Int)
def vu(p:Int):Tok:=⟨0,⟨#[]⟩,0,0,p⟩
def cut(s:ByteArray)(i j:Int):ByteArray:=s.extract i.toNat j.toNat
def di:List ByteArray:=[⟨#[97,98,115]⟩,⟨#[97,109,101,110,100]⟩,⟨#[97,115]⟩,⟨#[97,115,107]⟩,⟨#[97,116]⟩,⟨#[98,105,100]⟩,⟨#[98,111,111,108]⟩,⟨#[98,117,121]⟩,⟨#[99,97,110,99,101,108]⟩,⟨#[100,111]⟩,
 ⟨#[102,97,108,115,101]⟩,⟨#[102,111,107]⟩,⟨#[103,111,116,111]⟩,⟨#[104,97,108,116]⟩,⟨#[104,97,115]⟩,⟨#[105,110,116]⟩,⟨#[105,111,99]⟩,⟨#[108,97,115,116]⟩,⟨#[108,105,109,105,116]⟩,⟨#[109,97,114,107,101,116]⟩,
 ⟨#[109,97,120]⟩,⟨#[109,105,110]⟩,⟨#[110,111,119]⟩,⟨#[111,102]⟩,⟨#[111,112,101,110]⟩,⟨#[112,111,115,116]⟩,⟨#[112,114,105,99,101]⟩,⟨#[113,116,121]⟩,⟨#[114,101,103]⟩,⟨#[115,101,108,108]⟩,⟨#[115,101,116]⟩,
 ⟨#[115,105,100,101]⟩,⟨#[115,108,111,116]⟩,⟨#[115,116,97,116,101]⟩,⟨#[115,116,114,97,116,101,103,121]⟩,⟨#[115,117,98,109,105,116]⟩,⟨#[116,105,109,101]⟩,⟨#[116,111]⟩,⟨#[116,114,117,101]⟩,⟨#[118,111,108,117,109,101]⟩,⟨#[119,104,101,110]⟩]
def lx(t:ByteArray):Bool:=di.any fun w=>w.toList==t.toList
def da(t:ByteArray):Bool :=
 !(t.toList==[])&&decide ((t.size:Int)≤16)&&fy (bt t 0) && !lx t&&decide (ee c9 t 0=t.size)
def pJ(s:ByteArray)(i:Int):TR :=
 let e:=ee c9 s i
 if e-i>16 then .bad 112 i else .ok ⟨if lx (cut s i e) then 1 else 2,cut s i e,0,0,i⟩
def AO(s:ByteArray):Nat→Int→Int→Int
 | 0,_,v=>v
 | n+1,i,v=>if dh (bt s i) then AO s n (i+1) (10*v+(bt s i-48)) else v
def gh(s:ByteArray)(i v:Int):Int:=AO s (s.size-i).toNat i v
theorem zt{s:ByteArray}{i v:Int}(h:(s.size:Int)≤i):gh s i v=v:=by
 unfold gh;rw[show ((s.size:Int)-i).toNat=0 by omega];rfl
theorem rm{s:ByteArray}{i v:Int}(h:i<(s.size:Int)):gh s i v=if dh (bt s i) then gh s (i+1) (10*v+(bt s i-48)) else v:=by
 unfold gh
 obtain⟨n,hn⟩:∃n,((s.size:Int)-i).toNat=n+1:=⟨((s.size:Int)-i).toNat-1,by omega⟩
 rw[hn,show ((s.size:Int)-(i+1)).toNat=n by omega];rfl
theorem yK(s:ByteArray):∀(n:Nat) (i v:Int),0≤v→v≤AO s n i v
 | 0,i,v,_=>by simp[AO]
 | n+1,i,v,hv=>by
   unfold AO
   split
   ·rename_i hd
    simp only[dh,Bool.and_eq_true,decide_eq_true_eq] at hd
    have:=yK s n (i+1) (10*v+(bt s i-48)) (by omega)
    omega
   ·exact Int.le_refl _
theorem vv{s:ByteArray}{i v:Int}(h:0≤v):v≤gh s i v:=yK s _ i v h
def iS(c:Int):Int:=if c=116 then 4 else if c=112 then 3 else if c=113 then 2 else 1
def cJ(s:ByteArray)(i:Int):Int:=if i<s.size then bt s i else 0
def oU(s:ByteArray)(i:Int):TR :=
 let e:=ee dh s i
 let t:=iS (cJ s e)
 let e2:=if t=1 then e else e+1
 if gh s i 0>9223372036854775807∨(e-i>1∧bt s i=48)∨(e2<s.size∧(c9 (bt s e2)=true∨(65≤bt s e2∧bt s e2≤90))) then .bad 113 i
 else .ok ⟨3,cut s i e2,t,gh s i 0,i⟩
def single(c:Int):Bool:=[123,125,40,41,44,59,63,58,43,45,42,47,37].contains c
def iU(s:ByteArray)(i:Int):Int :=
 let c:=bt s i
 let d:=cJ s (i+1)
 if single c then 1 else if c=38∨c=124 then (if d=c then 2 else 0) else if c=61∨c=33∨c=60∨c=62 then (if d=61 then 2 else 1) else 0
def pK(s:ByteArray)(i:Int):TR:=if iU s i=0 then .bad 111 i else .ok ⟨4,cut s i (i+iU s i),0,0,i⟩
def pY(s:ByteArray)(f:Int):TR :=
 let i:=hZ s f
 if i=s.size then .ok (vu i)
 else if dh (bt s i) then oU s i else if fy (bt s i) then pJ s i else pK s i
def Tok.v(t:Tok):Value:=.agg #[.int .u8 t.kind,.string t.text,.int .u8 t.cq,.int .i64 t.n,.int .i64 t.pos]
theorem dW{n:Int}(h : -9223372036854775808≤n∧n≤9223372036854775807):IntKind.wrap .i64 n=n:=by
 simp only[IntKind.wrap,IntKind.bits,IntKind.signed];simp;split<;>omega
theorem w8{n:Int}(h:0≤n∧n≤255):IntKind.wrap .u8 n=n:=by
 simp only[IntKind.wrap,IntKind.bits,IntKind.signed];simp;omega
inductive Px where
 | mk (kind oper cq n field:Int) (name:ByteArray) (kids:List Px) (pos:Int)
namespace Px
def kind:Px→Int | .mk k _ _ _ _ _ _ _=>k
def oper:Px→Int | .mk _ o _ _ _ _ _ _=>o
def cq:Px→Int | .mk _ _ t _ _ _ _ _=>t
def n:Px→Int | .mk _ _ _ n _ _ _ _=>n
def field:Px→Int | .mk _ _ _ _ f _ _ _=>f
def name:Px→ByteArray | .mk _ _ _ _ _ s _ _=>s
def kids:Px→List Px | .mk _ _ _ _ _ _ l _=>l
def pos:Px→Int | .mk _ _ _ _ _ _ _ p=>p
theorem ind{p:Px→Prop}(h:∀x:Px,(∀k∈x.kids,p k)→p x):∀x:Px,p x
 | .mk k o t n f s l q=>h _ fun y hy=>ind h y
termination_by x=>SizeOf.sizeOf x
decreasing_by
 have:=List.sizeOf_lt_of_mem (show y∈l from hy)
 simp;omega
end Px
inductive Nd where
 | mk (kind oper cq n field:Int) (name:ByteArray) (a:Option Addr) (c:Nat) (kids:List Nd) (pos:Int)
namespace Nd
def kind:Nd→Int | .mk k _ _ _ _ _ _ _ _ _=>k
def oper:Nd→Int | .mk _ o _ _ _ _ _ _ _ _=>o
def cq:Nd→Int | .mk _ _ t _ _ _ _ _ _ _=>t
def n:Nd→Int | .mk _ _ _ n _ _ _ _ _ _=>n
def field:Nd→Int | .mk _ _ _ _ f _ _ _ _ _=>f
def name:Nd→ByteArray | .mk _ _ _ _ _ s _ _ _ _=>s
def a:Nd→Option Addr | .mk _ _ _ _ _ _ a _ _ _=>a
def c:Nd→Nat | .mk _ _ _ _ _ _ _ c _ _=>c
def kids:Nd→List Nd | .mk _ _ _ _ _ _ _ _ l _=>l
def pos:Nd→Int | .mk _ _ _ _ _ _ _ _ _ p=>p
theorem ind{p:Nd→Prop}(h:∀x:Nd,(∀k∈x.kids,p k)→p x):∀x:Nd,p x
 | .mk k o t n f s a c l q=>h _ fun y hy=>ind h y
termination_by x=>SizeOf.sizeOf x
decreasing_by
 have:=List.sizeOf_lt_of_mem (show y∈l from hy)
 simp;omega
mutual
def px:Nd→Px
 | .mk k o t n f s _ _ l q=>.mk k o t n f s (vw l) q
def vw:List Nd→List Px
 | []=>[]
 | k::r=>px k::vw r
end
theorem tY:∀l:List Nd,vw l=l.map px
 | []=>rfl
 | k::r=>by rw[vw,tY r];rfl
theorem dX(t:Nd):t.px.kids=t.kids.map px:=by cases t;rw[px,←tY];rfl
theorem cT(t:Nd):t.px.kind=t.kind:=by cases t;rw[px];rfl
theorem iw(t:Nd):t.px.oper=t.oper:=by cases t;rw[px];rfl
theorem jL(t:Nd):t.px.cq=t.cq:=by cases t;rw[px];rfl
theorem zu(t:Nd):t.px.n=t.n:=by cases t;rw[px];rfl
theorem jZ(t:Nd):t.px.field=t.field:=by cases t;rw[px];rfl
theorem gN(t:Nd):t.px.name=t.name:=by cases t;rw[px];rfl
theorem tZ(t:Nd):t.px.pos=t.pos:=by cases t;rw[px];rfl
theorem ia(t:Nd):t.px.kids.length=t.kids.length:=by rw[dX,List.length_map]
abbrev enc(t:Nd):List Value:=[.int .u8 t.kind,.int .u8 t.oper,.int .u8 t.cq,.int .i64 t.n,.int .u8 t.field,.string t.name,.slice t.a t.kids.length t.c,.int .i64 t.pos]
abbrev v(t:Nd):Value:=.agg #[.int .u8 t.kind,.int .u8 t.oper,.int .u8 t.cq,.int .i64 t.n,.int .u8 t.field,.string t.name,.slice t.a t.kids.length t.c,.int .i64 t.pos]
theorem og(t:Nd):t.enc.length=8:=rfl
theorem B3(t:Nd):∀u∈t.enc,u.oneCell'=true:=by
 intro u hu
 simp only[enc,List.mem_cons,List.not_mem_nil,or_false] at hu
 rcases hu with h | h | h | h | h | h | h | h<;>(subst h;rfl)
end Nd
inductive cy (I:cc) (G:bZ):Nd→Prop
 | mk {t:Nd}:gg I G 8 Nd.enc t.a t.kids.length t.kids→(∀k∈t.kids,cy I G k)→cy I G t
theorem cy.sl{I:cc}{G:bZ}{t:Nd}(h:cy I G t):gg I G 8 Nd.enc t.a t.kids.length t.kids:=by cases h;assumption
theorem cy.Eo{I:cc}{G:bZ}{t:Nd}(h:cy I G t):∀k∈t.kids,cy I G k:=by cases h;assumption
theorem cy.mono{I J:cc}{G H:bZ}{t:Nd}(h:cy I G t)(hl:cc.le I J)(hs:∀x,x∈G→x∈H):cy J H t:=by
 induction h with
 | mk h1 h2 ih=>exact .mk (h1.mono hl hs) ih
def AP(I:cc)(G:bZ)(a:Option Addr)(n:Nat)(l:List Nd):Prop:=gg I G 8 Nd.enc a n l∧∀k∈l,cy I G k
theorem cy.kids{I:cc}{G:bZ}{t:Nd}(h:cy I G t):AP I G t.a t.kids.length t.kids:=⟨h.sl,h.Eo⟩
theorem AP.at{I:cc}{G:bZ}{a:Option Addr}{n:Nat}{l:List Nd}(h:AP I G a n l){i:Int}(h0:0≤i)(h1:i<n) :
  ∃ad x,a=some ad∧l[i.toNat]? = some x∧Rd I G (ad.add (Int.toNat i*8)) x.enc∧cy I G x∧x∈l:=by
 obtain⟨ad,x,h2,h3,h4⟩:=h.1.at h0 h1
 exact⟨ad,x,h2,h3,h4,h.2 x (List.mem_of_getElem? h3),List.mem_of_getElem? h3⟩
namespace Px
def arity(x:Px):Nat:=if x.kind=5∨x.kind=9 then 1 else if x.kind=6 then 2 else if x.kind=7 then 3 else if x.kind=8 then (if x.oper=3 then 1 else 2) else 0
def zw(x:Px):Bool:=if x.cq=6 then decide (x.n=1∨x.n=2) else if x.cq=5 then decide (x.n=0∨x.n=1) else if 1≤x.cq∧x.cq≤4 then decide (0≤x.n) else false
def oh(x:Px):Bool :=
 if x.kind=1 then zw x else if x.kind=2 then da x.name else if x.kind=3 then decide (1≤x.field∧x.field≤6) else if x.kind=4 then decide (1≤x.field∧x.field≤3)
 else if x.kind=5 then decide (x.oper=1∨x.oper=2) else if x.kind=6 then decide (6≤x.oper∧x.oper≤18) else if x.kind=7 then true
 else if x.kind=8 then decide (3≤x.oper∧x.oper≤5) else if x.kind=9 then decide (1≤x.cq∧x.cq≤4) else false
def oj(x:Px):Bool :=
 (x.oper==0||x.kind==5||x.kind==6||x.kind==8)&&(x.cq==0||x.kind==1||x.kind==9)&&(x.n==0||x.kind==1)&&(x.field==0||x.kind==3||x.kind==4)&&(x.name.toList==[]||x.kind==2)
def eW(x:Px):Bool:=oh x&&oj x&&decide (x.kids.length=arity x)
mutual
def formed:Px→Bool
 | .mk k o t n f s l q=>eW (.mk k o t n f s l q)&&eu l
def eu:List Px→Bool
 | []=>true
 | x::r=>formed x&&eu r
end
theorem dK(x:Px):x.formed=(eW x&&eu x.kids):=by cases x;rw[formed];rfl
def level(x:Px):Int :=
 if x.kind=7 then 1 else if x.kind=5 then 7 else if x.kind=6 then (if x.oper=18 then 2 else if x.oper=17 then 3 else if 11≤x.oper then 4 else if 8≤x.oper then 6 else 5) else 8
def asks(x:Px)(i:Int):Int :=
 if x.kind=7 then (if i=0 then 2 else 1) else if x.kind=5 then 7 else if x.kind=6 then (if level x=4 then 5 else level x+i) else 1
def xp(x k:Px)(i:Int):Int:=(if level k<asks x i then 1 else 0)+(if x.kind=6 then 0 else if x.kind=7 then (if 0<i then 1 else 0) else 1)
mutual
def depth:Px→Int
 | .mk k o t n f s l q=>iV (.mk k o t n f s l q) 0 l 0
def iV(x:Px)(i:Int):List Px→Int→Int
 | [],most=>most
 | y::r,most=>iV x (i+1) r (max most (depth y+xp x y i))
end
theorem vx(x:Px):x.depth=iV x 0 x.kids 0:=by cases x;rw[depth];rfl
mutual
def size:Px→Int
 | .mk _ _ _ _ _ _ l _=>1+cR l
def cR:List Px→Int
 | []=>0
 | x::r=>size x+cR r
end
theorem size_eq(x:Px):x.size=1+cR x.kids:=by cases x;rw[size];rfl
mutual
def bare:Px→Px
 | .mk k o t n f s l _=>.mk k o t n f s (yL l) 0
def yL:List Px→List Px
 | []=>[]
 | x::r=>bare x::yL r
end
theorem zx:∀l:List Px,yL l=l.map bare
 | []=>rfl
 | x::r=>by rw[yL,zx r];rfl
def B4(x y:Px):Bool:=x.kind==y.kind&&(x.oper==y.oper&&(x.cq==y.cq&&(x.n==y.n&&(x.field==y.field&&(x.name.toList==y.name.toList&&true)))))
mutual
def k9:Px→Int→Int→Int
 | .mk _ _ _ _ _ s l _,n,d=>if 60000<d then 1048577 else fK l (n+1+s.size) (d+1)
def fK:List Px→Int→Int→Int
 | [],n,_=>n
 | x::r,n,d=>if n≤1048576 then fK r (k9 x n d) d else n
end
theorem rp(x:Px)(n d:Int):x.k9 n d=if 60000<d then 1048577 else fK x.kids (n+1+x.name.size) (d+1):=by cases x;rw[k9];rfl
mutual
def nodes:Px→List Px
 | .mk k o t n f s l q=>.mk k o t n f s l q::gi l
def gi:List Px→List Px
 | []=>[]
 | x::r=>nodes x++gi r
end
theorem om(x:Px):x.nodes=x::gi x.kids:=by cases x;rw[nodes];rfl
theorem size_pos:∀x:Px,1≤x.size:=by
 have hL:∀l:List Px,(∀x∈l,1≤size x)→0≤cR l:=by
  intro l
  induction l with
  | nil=>intro _;exact Int.le_refl _
  | cons x r ih =>
    intro h
    have:=h x (List.mem_cons_self ..)
    have:=ih fun y hy=>h y (List.mem_cons_of_mem _ hy)
    rw[cR];omega
 refine ind fun x h=>?_
 rw[size_eq]
 have:=hL x.kids h
 omega
theorem gj:∀l:List Px,0≤cR l
 | []=>Int.le_refl _
 | x::r=>by have:=size_pos x;have:=gj r;rw[cR];omega
theorem s9{x:Px}:∀{l:List Px},x∈l→x.size≤cR l
 | [],h=>by cases h
 | y::r,h=>by
   rw[cR]
   have:=size_pos y
   have:=gj r
   rcases List.mem_cons.1 h with rfl | h
   ·omega
   ·have:=s9 h;omega
theorem tb:∀l:List Px,(l.length:Int)≤cR l
 | []=>Int.le_refl _
 | x::r=>by have:=size_pos x;have:=tb r;rw[cR,List.length_cons];omega
theorem zy(d:Int):∀(l:List Px),(∀x∈l,∀n d,k9 x n d≤1048576→n+size x≤k9 x n d)→∀n,fK l n d≤1048576→n+cR l≤fK l n d:=by
 intro l
 induction l with
 | nil=>intro _ n h;rw[fK] at h ⊢;rw[cR];omega
 | cons x r ih =>
   intro hx n h
   rw[fK] at h ⊢
   rw[cR]
   have hr:=ih fun y hy=>hx y (List.mem_cons_of_mem _ hy)
   split at h
   ·rename_i hn
    rw[if_pos hn]
    have h1:=hr _ h
    have h2:=gj r
    have h3:=hx x (List.mem_cons_self ..) n d (by omega)
    omega
   ·omega
theorem xq:∀(x:Px) (n d:Int),k9 x n d≤1048576→n+size x≤k9 x n d:=by
 refine ind fun x hk n d h=>?_
 rw[rp] at h ⊢
 rw[size_eq]
 split at h
 ·omega
 ·rename_i hd
  rw[if_neg hd]
  have:=zy (d+1) x.kids hk _ h
  omega
theorem zz:∀(x:Px) (n d:Int),0≤n→0≤k9 x n d:=by
 have hL:∀(d:Int) (l:List Px),(∀x∈l,∀n d,0≤n→0≤k9 x n d)→∀n,0≤n→0≤fK l n d:=by
  intro d l
  induction l with
  | nil=>intro _ n h;rw[fK];exact h
  | cons x r ih =>
    intro hx n h
    rw[fK]
    split
    ·exact ih (fun y hy=>hx y (List.mem_cons_of_mem _ hy)) _ (hx x (List.mem_cons_self ..) n d h)
    ·exact h
 refine ind fun x hk n d h=>?_
 rw[rp]
 split
 ·omega
 ·exact hL _ _ hk _ (by omega)
inductive eY:Px→Prop
 | mk {x:Px}:x.name.size≤140737488351232→x.kids.length≤140737488351232→(∀k∈x.kids,eY k)→eY x
theorem eY.name{x:Px}(h:eY x):x.name.size≤140737488351232:=by cases h;assumption
theorem eY.len{x:Px}(h:eY x):x.kids.length≤140737488351232:=by cases h;assumption
theorem eY.Eo{x:Px}(h:eY x):∀k∈x.kids,eY k:=by cases h;assumption
end Px
end Go.Lx
namespace Go.Lx
open Go.Vc Go.Proofs.Tryz
noncomputable abbrev P:Program:=Go.Proofs.Tryz.prog
def fA:List (Nat×List Sh):=[(4,[.one .bool]),(9,[.one .str]),(194,[.one .slc]),(223,[.one (.int .i64),.one .bool])]
def oV.V(c:Int)(I:cc)(F:bZ)(Q:cd)  : Prop:=(Dt (48≤c) (Q (.returned (.bool (decide (c≤57)))) I F) (Q (.returned (.bool false)) I F))
theorem oV.vc{c:Int}{I:cc}{F:bZ}{Q:cd}  (h:oV.V c I F Q):cf P 161 #[.int .u8 c] I F Q :=
 tw (A:=(an [1001] [] fA)) [] func161 h
def oW.V(c:Int)(I:cc)(F:bZ)(Q:cd)  : Prop:=(Dt (97≤c) (Q (.returned (.bool (decide (c≤122)))) I F) (Q (.returned (.bool false)) I F))
theorem oW.vc{c:Int}{I:cc}{F:bZ}{Q:cd}  (h:oW.V c I F Q):cf P 147 #[.int .u8 c] I F Q :=
 tw (A:=(an [1001] [] fA)) [] func147 h
def mc.V(vt:Bool→Value)(c:Int)(I:cc)(F:bZ)(Q:cd)  : Prop:=cE P 147 #[.int .u8 c] I (·) F vt fun r I1 F1=>(It r (Q (.returned (vt true)) I1 F1) (cE P 161 #[.int .u8 c] I1 (·) F1 vt fun r1 I2 F2=>(It r1 (Q (.returned (vt true)) I2 F2) (Q (.returned (vt (c==95))) I2 F2))))
theorem mc.vc{c:Int}{I:cc}{F:bZ}{Q:cd}  (h:mc.V .bool c I F Q):cf P 149 #[.int .u8 c] I F Q :=
 tw (A:=(an [1001,1004] [147,161] fA)) [147,161] func149 h
def oX.V(vs:Bs→Value)(I:cc)(F:bZ)(Q:cd)  : Prop:=∀(b:Nat) (I1:cc),cc.le I I1→I1 b=some (Obj.cells #[vs (⟨#[97,98,115]⟩:Bs),vs (⟨#[97,109,101,110,100]⟩:Bs),vs (⟨#[97,115]⟩:Bs),vs (⟨#[97,115,107]⟩:Bs),vs (⟨#[97,116]⟩:Bs),vs (⟨#[98,105,100]⟩:Bs),vs (⟨#[98,111,111,108]⟩:Bs),vs (⟨#[98,117,121]⟩:Bs),vs (⟨#[99,97,110,99,101,108]⟩:Bs),vs (⟨#[100,111]⟩:Bs),vs (⟨#[102,97,108,115,101]⟩:Bs),vs (⟨#[102,111,107]⟩:Bs),vs (⟨#[103,111,116,111]⟩:Bs),vs (⟨#[104,97,108,116]⟩:Bs),vs (⟨#[104,97,115]⟩:Bs),vs (⟨#[105,110,116]⟩:Bs),vs (⟨#[105,111,99]⟩:Bs),vs (⟨#[108,97,115,116]⟩:Bs),vs (⟨#[108,105,109,105,116]⟩:Bs),vs (⟨#[109,97,114,107,101,116]⟩:Bs),vs (⟨#[109,97,120]⟩:Bs),vs (⟨#[109,105,110]⟩:Bs),vs (⟨#[110,111,119]⟩:Bs),vs (⟨#[111,102]⟩:Bs),vs (⟨#[111,112,101,110]⟩:Bs),vs (⟨#[112,111,115,116]⟩:Bs),vs (⟨#[112,114,105,99,101]⟩:Bs),vs (⟨#[113,116,121]⟩:Bs),vs (⟨#[114,101,103]⟩:Bs),vs (⟨#[115,101,108,108]⟩:Bs),vs (⟨#[115,101,116]⟩:Bs),vs (⟨#[115,105,100,101]⟩:Bs),vs (⟨#[115,108,111,116]⟩:Bs),vs (⟨#[115,116,97,116,101]⟩:Bs),vs (⟨#[115,116,114,97,116,101,103,121]⟩:Bs),vs (⟨#[115,117,98,109,105,116]⟩:Bs),vs (⟨#[116,105,109,101]⟩:Bs),vs (⟨#[116,111]⟩:Bs),vs (⟨#[116,114,117,101]⟩:Bs),vs (⟨#[118,111,108,117,109,101]⟩:Bs),vs (⟨#[119,104,101,110]⟩:Bs)] 9 (0,0))→Q (.returned (.slice (some ⟨b,0,none⟩) 41 41)) I1 (F)
theorem oX.vc  {I:cc}{F:bZ}{Q:cd}  (h:oX.V .string I F Q):cf P 160 #[] I F Q :=
 tw (A:=(cQ [] [] [] fA [] [1000] [] [] [] [] [])) [] func160 h
def me.V(x:Bs)(I:cc)(F:bZ)(Q:cd)  : Prop:=Q (.returned (.bool (!(x.toList==x.toList)))) I (F)
theorem me.vc{x:Bs}{I:cc}{F:bZ}{Q:cd}  (h:me.V x I F Q):cf P 171 #[.string x] I F Q :=
 tw (A:=(an [] [] fA)) [] func171 h
def oo.V(vt:Bool→Value)(x y:Bs)(I:cc)(F:bZ)(Q:cd)  : Prop:=cE P 171 #[.string x] I (·) F vt fun r I1 F1=>(It r (cE P 171 #[.string y] I1 (·) F1 vt fun r1 I2 F2=>(It (!r1) (Q (.returned (vt true)) I2 F2) (Q (.returned (vt (Op.bytesLess x.toList y.toList))) I2 F2))) (Q (.returned (vt (Op.bytesLess x.toList y.toList))) I1 F1))
theorem oo.vc{x y:Bs}{I:cc}{F:bZ}{Q:cd}  (h:oo.V .bool x y I F Q):cf P 166 #[.string x,.string y] I F Q :=
 tw (A:=(an [1001,1005] [171] fA)) [171] func166 h
def ix.V(x:Bs)(I:cc)(F:bZ)(Q:cd)  : Prop:=Q (.returned (.bool (!(x.toList==x.toList)))) I (F)
theorem ix.vc{x:Bs}{I:cc}{F:bZ}{Q:cd}  (h:ix.V x I F Q):cf P 167 #[.string x] I F Q :=
 tw (A:=(an [] [] fA)) [] func167 h
def dY.V(vi:Int→Value)(vs:Bs→Value)(vt:Bool→Value)(wr:Int→Int)(c:OA)(b f:Nat)(a:Bs)(I:cc)(F:bZ)(Q:cd)(Inv8:Int→Int→Nat→cc→bZ→Prop):Prop:=(∃m:Nat,Inv8 0 (b:Int) m I F)∧∀(i j:Int) (m1:Nat) (I1:cc) (F1:bZ),cc.le I I1→Inv8 i j m1 I1 F1→(Dt (i<j) ((0≤(wr (Int.fdiv (IntKind.wrap .u64 (wr (i+j))) (2 ^ 1)))∧(wr (Int.fdiv (IntKind.wrap .u64 (wr (i+j))) (2 ^ 1)))<(b:Int))∧∃ad:Addr,c=some ad∧∃(m2:Bs),Rd I1 F1 (ad.add (Int.toNat (wr (Int.fdiv (IntKind.wrap .u64 (wr (i+j))) (2 ^ 1)))*1)) [vs m2]∧cE P 166 #[vs m2,vs a] I1 (·) F1 vt fun r I2 F2=>(It r (∃m3:Nat,m3<m1∧Inv8 (wr ((wr (Int.fdiv (IntKind.wrap .u64 (wr (i+j))) (2 ^ 1)))+1)) j m3 I2 F2) (∃m4:Nat,m4<m1∧Inv8 i (wr (Int.fdiv (IntKind.wrap .u64 (wr (i+j))) (2 ^ 1))) m4 I2 F2))) (Dt (i<(b:Int)) ((0≤i∧i<(b:Int))∧∃d:Addr,c=some d∧∃(m5:Bs),Rd I1 F1 (d.add (Int.toNat i*1)) [vs m5]∧(It (m5.toList==a.toList) (Q (.returned (.tuple #[vi i,vt true])) I1 F1) ((0≤i∧i<(b:Int))∧∃e:Addr,c=some e∧∃(m6:Bs),Rd I1 F1 (e.add (Int.toNat i*1)) [vs m6]∧cE P 167 #[vs m6] I1 (·) F1 vt fun r1 I3 F3=>(It r1 (cE P 167 #[vs a] I3 (·) F3 vt fun r2 I4 F4=>Q (.returned (.tuple #[vi i,vt r2])) I4 F4) (Q (.returned (.tuple #[vi i,vt false])) I3 F3))))) (Q (.returned (.tuple #[vi i,vt false])) I1 F1)))
theorem dY.vc{b:OA}{c d:Nat}{a:Bs}{I:cc}{F:bZ}{Q:cd}(Inv8:Int→Int→Nat→cc→bZ→Prop)(h:dY.V (.int .i64) .string .bool (IntKind.wrap .i64) b c d a I F Q Inv8):cf P 159 #[.slice b c d,.string a] I F Q :=
 tw (A:=(cQ [3002,5005,8003,8010,8016] [] [166,167] fA [(8,⟨[(7,(.int .i64)),(8,(.int .i64))],[],fun _ _ _ vs m I F=>match vs with | [.int _ y0,.int _ y1]=>Inv8 y0 y1 m I F | _=>False,[],[]⟩)] [] [] [] [] [] [])) [166,167] func159 h
def oq.V(s:Bs)(I:cc)(F:bZ)(Q:cd)  : Prop:=dk P 160 #[] I (·) F fun e1 I1 G1=>∃(a:OA) (b c:Nat),e1=.returned (.slice a b c)∧G1 fun F1=>dk P 159 #[.slice a b c,.string s] I1 (·) F1 fun e2 I2 G2=>∃(r0:Int) (r1:Bool),e2=.returned (.tuple #[.int .i64 r0,.bool r1])∧G2 fun F2=>Q (.returned (.bool r1)) I2 (F2)
theorem oq.vc{s:Bs}{I:cc}{F:bZ}{Q:cd}  (h:oq.V s I F Q):cf P 148 #[.string s] I F Q :=
 tw (A:=(an [] [159,160] fA)) [159,160] func148 h
def ou.V(vt:Bool→Value)(s:Bs)(I:cc)(F:bZ)(Q:cd)(Inv14:Bool→Int→Nat→cc→bZ→Prop):Prop:=(It (s.toList==(⟨#[]⟩:Bs).toList) (Q (.returned (vt false)) I F) (Dt ((s.size:Int)>16) (Q (.returned (vt false)) I F) ((0≤(0:Int)∧(0:Int)<(s.size:Int))∧cE P 147 (#[.int .u8 (bt s 0)]) I (·) F vt fun r I1 F1=>(It (!r) (Q (.returned (vt false)) I1 F1) (cE P 148 #[.string s] I1 (·) F1 vt fun r1 I2 F2=>(It r1 (Q (.returned (vt false)) I2 F2) ((∃m:Nat,Inv14 false 0 m I2 F2)∧∀(x:Bool) (x1:Int) (m1:Nat) (I3:cc) (F3:bZ),cc.le I2 I3→Inv14 x x1 m1 I3 F3→(Dt (x1<(s.size:Int)) ((0≤x1∧x1<(s.size:Int))∧cE P 149 (#[.int .u8 (bt s x1)]) I3 (·) F3 vt fun r2 I4 F4=>(It (!r2) (Q (.returned (vt false)) I4 F4) (∃m2:Nat,m2<m1∧Inv14 x (IntKind.wrap .i64 (x1+1)) m2 I4 F4))) (Q (.returned (vt true)) I3 F3)))))))))
theorem ou.vc{s:Bs}{I:cc}{F:bZ}{Q:cd}(Inv14:Bool→Int→Nat→cc→bZ→Prop)(h:ou.V .bool s I F Q Inv14):cf P 126 #[.string s] I F Q :=
 tw (A:=(cQ [1001,1005,1011,1015,4000,6004] [] [147,148,149] fA [(14,⟨[(2,.bool),(23,(.int .i64))],[],fun _ _ _ vs m I F=>match vs with | [.bool y0,.int _ y1]=>Inv14 y0 y1 m I F | _=>False,[],[]⟩)] [] [] [] [] [] [])) [147,148,149] func126 h
def kq.V(c:Int)(I:cc)(F:bZ)(Q:cd)  : Prop:=(Dt (c≥97) (Q (.returned (.bool (decide (c≤122)))) I F) (Q (.returned (.bool false)) I F))
theorem kq.vc{c:Int}{I:cc}{F:bZ}{Q:cd}  (h:kq.V c I F Q):cf P 101 #[.int .u8 c] I F Q :=
 tw (A:=(an [1001] [] fA)) [] func101 h
def ly.V(c:Int)(I:cc)(F:bZ)(Q:cd)  : Prop:=(Dt (c≥48) (Q (.returned (.bool (decide (c≤57)))) I F) (Q (.returned (.bool false)) I F))
theorem ly.vc{c:Int}{I:cc}{F:bZ}{Q:cd}  (h:ly.V c I F Q):cf P 131 #[.int .u8 c] I F Q :=
 tw (A:=(an [1001] [] fA)) [] func131 h
def kr.V(vt:Bool→Value)(c:Int)(I:cc)(F:bZ)(Q:cd)  : Prop:=cE P 101 #[.int .u8 c] I (·) F vt fun r I1 F1=>(It r (Q (.returned (vt true)) I1 F1) (cE P 131 #[.int .u8 c] I1 (·) F1 vt fun r1 I2 F2=>(It r1 (Q (.returned (vt true)) I2 F2) (Q (.returned (vt (c==95))) I2 F2))))
theorem kr.vc{c:Int}{I:cc}{F:bZ}{Q:cd}  (h:kr.V .bool c I F Q):cf P 102 #[.int .u8 c] I F Q :=
 tw (A:=(an [1001,1004] [101,131] fA)) [101,131] func102 h
def lz.V(vs:Bs→Value)(I:cc)(F:bZ)(Q:cd)  : Prop:=∀(b:Nat) (I1:cc),cc.le I I1→I1 b=some (Obj.cells #[vs (⟨#[97,98,115]⟩:Bs),vs (⟨#[97,109,101,110,100]⟩:Bs),vs (⟨#[97,115]⟩:Bs),vs (⟨#[97,115,107]⟩:Bs),vs (⟨#[97,116]⟩:Bs),vs (⟨#[98,105,100]⟩:Bs),vs (⟨#[98,111,111,108]⟩:Bs),vs (⟨#[98,117,121]⟩:Bs),vs (⟨#[99,97,110,99,101,108]⟩:Bs),vs (⟨#[100,111]⟩:Bs),vs (⟨#[102,97,108,115,101]⟩:Bs),vs (⟨#[102,111,107]⟩:Bs),vs (⟨#[103,111,116,111]⟩:Bs),vs (⟨#[104,97,108,116]⟩:Bs),vs (⟨#[104,97,115]⟩:Bs),vs (⟨#[105,110,116]⟩:Bs),vs (⟨#[105,111,99]⟩:Bs),vs (⟨#[108,97,115,116]⟩:Bs),vs (⟨#[108,105,109,105,116]⟩:Bs),vs (⟨#[109,97,114,107,101,116]⟩:Bs),vs (⟨#[109,97,120]⟩:Bs),vs (⟨#[109,105,110]⟩:Bs),vs (⟨#[110,111,119]⟩:Bs),vs (⟨#[111,102]⟩:Bs),vs (⟨#[111,112,101,110]⟩:Bs),vs (⟨#[112,111,115,116]⟩:Bs),vs (⟨#[112,114,105,99,101]⟩:Bs),vs (⟨#[113,116,121]⟩:Bs),vs (⟨#[114,101,103]⟩:Bs),vs (⟨#[115,101,108,108]⟩:Bs),vs (⟨#[115,101,116]⟩:Bs),vs (⟨#[115,105,100,101]⟩:Bs),vs (⟨#[115,108,111,116]⟩:Bs),vs (⟨#[115,116,97,116,101]⟩:Bs),vs (⟨#[115,116,114,97,116,101,103,121]⟩:Bs),vs (⟨#[115,117,98,109,105,116]⟩:Bs),vs (⟨#[116,105,109,101]⟩:Bs),vs (⟨#[116,111]⟩:Bs),vs (⟨#[116,114,117,101]⟩:Bs),vs (⟨#[118,111,108,117,109,101]⟩:Bs),vs (⟨#[119,104,101,110]⟩:Bs)] 9 (0,0))→Q (.returned (.slice (some ⟨b,0,none⟩) 41 41)) I1 (F)
theorem lz.vc  {I:cc}{F:bZ}{Q:cd}  (h:lz.V .string I F Q):cf P 130 #[] I F Q :=
 tw (A:=(cQ [] [] [] fA [] [1000] [] [] [] [] [])) [] func130 h
def kv.V(s:Bs)(I:cc)(F:bZ)(Q:cd)(Inv8:Bool→Int→Nat→cc→bZ→Prop):Prop:=dk P 130 #[] I (·) F fun e1 I1 G1=>∃(b:OA) (a c:Nat),e1=.returned (.slice b a c)∧G1 fun F1=>(∃m:Nat,Inv8 false 0 m I1 F1)∧∀(x:Bool) (i:Int) (m1:Nat) (I2:cc) (F2:bZ),cc.le I1 I2→Inv8 x i m1 I2 F2→(Dt (i<(a:Int)) ((0≤i∧i<(a:Int))∧∃ad:Addr,b=some ad∧∃(m2:Bs),Rd I2 F2 (ad.add (Int.toNat i*1)) [.string m2]∧(It (m2.toList==s.toList) (Q (.returned (.bool true)) I2 F2) (∃m3:Nat,m3<m1∧Inv8 x (IntKind.wrap .i64 (i+1)) m3 I2 F2))) (Q (.returned (.bool false)) I2 F2))
theorem kv.vc{s:Bs}{I:cc}{F:bZ}{Q:cd}(Inv8:Bool→Int→Nat→cc→bZ→Prop)(h:kv.V s I F Q Inv8):cf P 100 #[.string s] I F Q :=
 tw (A:=(cQ [3003,5005] [] [130] fA [(8,⟨[(2,.bool),(4,(.int .i64))],[],fun _ _ _ vs m I F=>match vs with | [.bool y0,.int _ y1]=>Inv8 y0 y1 m I F | _=>False,[],[]⟩)] [] [] [] [] [] [])) [130] func100 h
def kx.V(vt:Bool→Value)(s:Bs)(I:cc)(F:bZ)(Q:cd)(Inv16:Bool→Int→Nat→cc→bZ→Prop):Prop:=cE P 100 #[.string s] I (·) F vt fun r I1 F1=>(It r (Q (.returned (vt false)) I1 F1) (Dt ((s.size:Int)<1) (Q (.returned (vt false)) I1 F1) (Dt ((s.size:Int)>16) (Q (.returned (vt false)) I1 F1) ((0≤(0:Int)∧(0:Int)<(s.size:Int))∧cE P 101 (#[.int .u8 (bt s 0)]) I1 (·) F1 vt fun r1 I2 F2=>(It (!r1) (Q (.returned (vt false)) I2 F2) ((∃m:Nat,Inv16 false 0 m I2 F2)∧∀(x:Bool) (i:Int) (m1:Nat) (I3:cc) (F3:bZ),cc.le I2 I3→Inv16 x i m1 I3 F3→(Dt (i<(s.size:Int)) ((0≤i∧i<(s.size:Int))∧cE P 102 (#[.int .u8 (bt s i)]) I3 (·) F3 vt fun r2 I4 F4=>(It (!r2) (Q (.returned (vt false)) I4 F4) (∃m2:Nat,m2<m1∧Inv16 x (IntKind.wrap .i64 (i+1)) m2 I4 F4))) (Q (.returned (vt true)) I3 F3))))))))
theorem kx.vc{s:Bs}{I:cc}{F:bZ}{Q:cd}(Inv16:Bool→Int→Nat→cc→bZ→Prop)(h:kx.V .bool s I F Q Inv16):cf P 61 #[.string s] I F Q :=
 tw (A:=(cQ [2000,2004,2009,2015,5003,7004] [] [100,101,102] fA [(16,⟨[(2,.bool),(4,(.int .i64))],[],fun _ _ _ vs m I F=>match vs with | [.bool y0,.int _ y1]=>Inv16 y0 y1 m I F | _=>False,[],[]⟩)] [] [] [] [] [] [])) [100,101,102] func61 h
end Go.Lx
namespace Go.Lx
open Go.Vc
def gE(v:Value)(F:bZ)(e:Ending)(I:cc)(G:bZ):Prop:=e=.returned v∧G=F
theorem cf.ret{Pr:Program}{f:FuncId}{args:Array Value}{I:cc}{F:bZ}{v:Value}{Q:Ending→cc→bZ→Prop}(h:cf Pr f args I F (gE v F))
  (k:∀I',cc.le I I'→Q (.returned v) I' F):cf Pr f args I F Q :=
 h.mono fun e I' G hl ⟨he,hG⟩=>by subst he;subst hG;exact k I' hl
theorem xr(c:Int)(I:cc)(F:bZ):cf P 161 #[.int .u8 c] I F (gE (.bool (dh c)) F):=by
 refine oV.vc ⟨fun h=>⟨?_,rfl⟩,fun h=>⟨?_,rfl⟩⟩<;>simp[dh,h]
theorem rq(c:Int)(I:cc)(F:bZ):cf P 147 #[.int .u8 c] I F (gE (.bool (fy c)) F):=by
 refine oW.vc ⟨fun h=>⟨?_,rfl⟩,fun h=>⟨?_,rfl⟩⟩<;>simp[fy,h]
theorem xt(c:Int)(I:cc)(F:bZ):cf P 149 #[.int .u8 c] I F (gE (.bool (c9 c)) F):=by
 refine mc.vc ?_
 unfold mc.V
 refine cf.ret (rq c I F) fun I1 h1=>⟨_,rfl,F,.refl _,fun hs=>⟨?_,rfl⟩,fun hs=>?_⟩
 ·simp[c9,hs]
 ·refine cf.ret (xr c I1 F) fun I2 h2=>⟨_,rfl,F,.refl _,fun hd=>⟨?_,rfl⟩,fun hd=>⟨?_,rfl⟩⟩
  ·simp[c9,hd]
  ·simp[c9,hs,hd]
def ij(s:ByteArray):Prop:=s.size≤140737488351232
def rr(x:ByteArray):List Value:=[.string x]
theorem xu(I:cc)(F:bZ):cf P 160 #[] I F fun e I' G=>∃b:Nat,e=.returned (.slice (some ⟨b,0,none⟩) 41 41)∧Sl I' 1 rr (some ⟨b,0,none⟩) 41 di∧G=F:=by
 refine oX.vc fun b I1 hI hb=>⟨b,rfl, ?_,rfl⟩
 exact Sl.iP (f:=rr) (z:=1) (l:=di) (fun _=>rfl) hb (by kernel_rfl)
theorem xv(x:ByteArray)(I:cc)(F:bZ):cf P 171 #[.string x] I F (gE (.bool false) F):=by
 refine me.vc ?_
 unfold me.V
 exact⟨by simp,rfl⟩
theorem vy(x:ByteArray)(I:cc)(F:bZ):cf P 167 #[.string x] I F (gE (.bool false) F):=by
 refine ix.vc ?_
 unfold ix.V
 exact⟨by simp,rfl⟩
theorem zA(x y:ByteArray)(I:cc)(F:bZ):cf P 166 #[.string x,.string y] I F (gE (.bool (Op.bytesLess x.toList y.toList)) F):=by
 refine oo.vc ?_
 unfold oo.V
 exact cf.ret (xv x I F) fun I1 h1=>⟨_,rfl,F,.refl _,fun h=>by (cases h),fun _=>⟨rfl,rfl⟩⟩
theorem nq:∀{a b c:List UInt8},Op.bytesLess a b=true→Op.bytesLess b c=true→Op.bytesLess a c=true
 | a,b,[],_,h=>by cases b<;>simp[Op.bytesLess] at h
 | [],b,z::c,_,_=>rfl
 | x::a,[],z::c,h,_=>by simp[Op.bytesLess] at h
 | x::a,y::b,z::c,h1,h2=>by
   simp only[Op.bytesLess,Bool.or_eq_true,Bool.and_eq_true,decide_eq_true_eq,beq_iff_eq] at h1 h2 ⊢
   rcases h1 with h1 | ⟨rfl,h1⟩
   ·rcases h2 with h2 | ⟨rfl,h2⟩
    ·exact .inl (UInt8.lt_trans h1 h2)
    ·exact .inl h1
   ·rcases h2 with h2 | ⟨rfl,h2⟩
    ·exact .inl h2
    ·exact .inr ⟨rfl,nq h1 h2⟩
def mR(x y:ByteArray):Bool:=Op.bytesLess x.toList y.toList
theorem ua:∀i j:Fin 41,i<j→mR (di[i]'(by simp[di])) (di[j]'(by simp[di]))=true:=by decide +kernel
theorem xw:∀i:Fin 41,mR (di[i]'(by simp[di])) (di[i]'(by simp[di]))=false:=by decide +kernel
theorem ru{i j:Nat}{x y:ByteArray}(h:i<j)(hx:di[i]? = some x)(hy:di[j]? = some y):mR x y=true:=by
 have hj:j<41:=by
  rcases Nat.lt_or_ge j di.length with h | h
  ·exact h
  ·simp[List.getElem?_eq_none h] at hy
 have:=ua ⟨i,by omega⟩ ⟨j,hj⟩ h
 rw[List.getElem?_eq_getElem (by show i<41;omega)] at hx
 rw[List.getElem?_eq_getElem (by show j<41;omega)] at hy
 cases hx;cases hy;exact this
theorem zC{i:Nat}{x:ByteArray}(hx:di[i]? = some x):mR x x=false:=by
 have hj:i<41:=by
  rcases Nat.lt_or_ge i di.length with h | h
  ·exact h
  ·simp[List.getElem?_eq_none h] at hx
 have:=xw ⟨i,hj⟩
 rw[List.getElem?_eq_getElem (by show i<41;omega)] at hx
 cases hx;exact this
theorem B5{n:Int}(h:0≤n∧n≤18446744073709551615):IntKind.wrap .u64 n=n:=by
 simp only[IntKind.wrap,IntKind.bits,IntKind.signed];simp;omega
theorem Dc{i j:Int}(h0:0≤i)(h:i<j)(hj:j≤41):IntKind.wrap .i64 (Int.fdiv (IntKind.wrap .u64 (IntKind.wrap .i64 (i+j))) (2 ^ 1))=(i+j) / 2:=by
 rw[dW (n:=i+j) (by omega),B5 (n:=i+j) (by omega),Int.fdiv_eq_ediv_of_nonneg _ (by decide)]
 rw[show ((2:Int) ^ 1)=2 by rfl,dW (by omega)]
theorem vz{a:Option Addr}{c:Nat}{t:ByteArray}{I:cc}(hS:Sl I 1 rr a 41 di)(F:bZ) :
  cf P 159 #[.slice a 41 c,.string t] I F fun e I' G=>∃i:Int,e=.returned (.tuple #[.int .i64 i,.bool (lx t)])∧G=F:=by
 refine dY.vc (fun i j m I' F'=>0≤i∧i≤j∧j≤41∧m=(j-i).toNat∧(∀(k:Nat) (x:ByteArray),di[k]? = some x→(k:Int)<i→mR x t=true) ∧
  (∀(k:Nat) (x:ByteArray),di[k]? = some x→j≤k→mR x t=false)∧F'=F) ?_
 unfold dY.V
 refine⟨⟨_,by omega,by decide,by decide,rfl,fun k x _ h=>by omega,fun k x hx h=>?_,rfl⟩,fun i j m I1 F1 hI ⟨g0,g1,g2,gm,gl,gr,gF⟩=>⟨fun hlt=>?_,fun hlt=>?_⟩⟩
 ·have:di.length=41:=rfl
  simp[List.getElem?_eq_none (l:=di) (i:=k) (by omega)] at hx
 ·have hlt:i<j:=by simpa using hlt
  subst gF
  have hS1:=hS.mono hI
  have hmid:=Dc g0 hlt g2
  generalize IntKind.wrap .i64 (Int.fdiv (IntKind.wrap .u64 (IntKind.wrap .i64 (i+j))) (2 ^ 1))=h at hmid ⊢
  obtain⟨ad,x,ha,hx,hrd⟩:=hS1.at (i:=h) (by omega) (by omega)
  refine⟨⟨by omega,by show h<41;omega⟩,ad,ha,x,hrd F1, ?_⟩
  refine cf.ret (zA x t I1 F1) fun I2 h2=>⟨_,rfl,F1,.refl _,fun hc=>?_,fun hc=>?_⟩
  ·rw[dW (by omega)]
   refine⟨(j-(h+1)).toNat,by omega,by omega,by omega,g2,rfl,fun k y hy hk=>?_,gr,rfl⟩
   by_cases hkh:k=h.toNat
   ·subst hkh;rw[hx] at hy;cases hy;exact hc
   ·exact nq (ru (by omega) hy hx) hc
  ·refine⟨(h-i).toNat,by omega,g0,by omega,by omega,rfl,gl,fun k y hy hk=>?_,rfl⟩
   by_cases hkh:k=h.toNat
   ·subst hkh;rw[hx] at hy;cases hy;exact hc
   ·cases hlk:mR y t with
    | false=>rfl
    | true=>have:=nq (ru (i:=h.toNat) (by omega) hx hy) hlk;rw[hc] at this;cases this
 ·have hlt:¬i<j:=by simpa using hlt
  have hij:i=j:=by omega
  subst hij
  subst gF
  have hS1:=hS.mono hI
  have no:(∀(k:Nat) (x:ByteArray),di[k]? = some x→(k:Int)=i→(x.toList==t.toList)=false)→lx t=false:=by
   intro hi
   unfold lx
   rw[List.any_eq_false]
   intro x hx
   obtain⟨k,hk⟩:=List.mem_iff_getElem?.1 hx
   intro he
   have he':x.toList=t.toList:=by simpa using he
   have hirr:=zC hk
   unfold mR at hirr
   rcases Int.lt_or_le (k:Int) i with h | h
   ·have:=gl k x hk h
    unfold mR at this
    rw[←he',hirr] at this;cases this
   ·rcases Int.lt_or_eq_of_le h with h' | h'
    ·obtain⟨ad,y,ha,hy,hrd⟩:=hS1.at (i:=i) g0 (by
      have:k<41:=by
       rcases Nat.lt_or_ge k di.length with h | h
       ·exact h
       ·simp[List.getElem?_eq_none h] at hk
      show i<41
      omega)
     have h1:=ru (i:=i.toNat) (j:=k) (by omega) hy hk
     have h2:=gr i.toNat y hy (by omega)
     unfold mR at h1 h2
     rw[he',h2] at h1;cases h1
    ·rw[hi k x hk h'.symm] at he;cases he
  refine⟨fun hlt=>?_,fun hlt=>?_⟩
  ·have hlt:i<41:=by simpa using hlt
   obtain⟨ad,x,ha,hx,hrd⟩:=hS1.at (i:=i) g0 (by exact hlt)
   refine⟨⟨g0,hlt⟩,ad,ha,x,hrd F1,fun he=>?_,fun he=>?_⟩
   ·refine⟨i, ?_,rfl⟩
    have:lx t=true:=by
     unfold lx
     exact List.any_eq_true.2 ⟨x,List.mem_of_getElem? hx,he⟩
    rw[this]
   ·have hno:=no fun k y hk hki=>by
     have:k=i.toNat:=by omega
     subst this
     rw[hx] at hk;cases hk;exact he
    refine⟨⟨g0,hlt⟩,ad,ha,x,hrd F1, ?_⟩
    refine cf.ret (vy x I1 F1) fun I2 h2=>⟨_,rfl,F1,.refl _,fun h=>by (cases h),fun _=>⟨i, ?_,rfl⟩⟩
    rw[hno]
  ·have hlt:¬i<41:=by simpa using hlt
   refine⟨i, ?_,rfl⟩
   rw[no fun k y hk hki=>by
    have:di.length=41:=rfl
    simp[List.getElem?_eq_none (l:=di) (i:=k) (by omega)] at hk]
theorem zD(t:ByteArray)(I:cc)(F:bZ):cf P 148 #[.string t] I F (gE (.bool (lx t)) F):=by
 refine oq.vc ?_
 unfold oq.V
 refine (xu I F).mono fun e I1 G hI ⟨b,he,hS,hG⟩=>?_
 subst hG
 refine⟨_,_,_,he,_,.refl _, ?_⟩
 refine (vz hS G).mono fun e I2 G2 hI2 ⟨i,he,hG⟩=>?_
 subst hG
 exact⟨_,_,he,_,.refl _,rfl,rfl⟩
theorem ky(c:Int)(I:cc)(F:bZ):cf P 101 #[.int .u8 c] I F (gE (.bool (fy c)) F):=by
 refine kq.vc ⟨fun h=>⟨?_,rfl⟩,fun h=>⟨?_,rfl⟩⟩<;>simp_all [fy]<;>omega
theorem lC(c:Int)(I:cc)(F:bZ):cf P 131 #[.int .u8 c] I F (gE (.bool (dh c)) F):=by
 refine ly.vc ⟨fun h=>⟨?_,rfl⟩,fun h=>⟨?_,rfl⟩⟩<;>simp_all [dh]<;>omega
theorem nr(c:Int)(I:cc)(F:bZ):cf P 102 #[.int .u8 c] I F (gE (.bool (c9 c)) F):=by
 refine kr.vc ?_
 unfold kr.V
 refine cf.ret (ky c I F) fun I1 h1=>⟨_,rfl,F,.refl _,fun hs=>⟨?_,rfl⟩,fun hs=>?_⟩
 ·simp[c9,hs]
 ·refine cf.ret (lC c I1 F) fun I2 h2=>⟨_,rfl,F,.refl _,fun hd=>⟨?_,rfl⟩,fun hd=>⟨?_,rfl⟩⟩
  ·simp[c9,hd]
  ·simp[c9,hs,hd]
theorem vA(I:cc)(F:bZ):cf P 130 #[] I F fun e I' G=>∃b:Nat,e=.returned (.slice (some ⟨b,0,none⟩) 41 41)∧Sl I' 1 rr (some ⟨b,0,none⟩) 41 di∧G=F:=by
 refine lz.vc fun b I1 hI hb=>⟨b,rfl, ?_,rfl⟩
 exact Sl.iP (f:=rr) (z:=1) (l:=di) (fun _=>rfl) hb (by kernel_rfl)
theorem AQ{α:Type}{l:List α}{p:α→Bool}{k:Nat}{x:α}(h:l[k]? = some x):(l.drop k).any p=(p x||(l.drop (k+1)).any p):=by
 obtain⟨hk,rfl⟩:=List.getElem?_eq_some_iff.1 h
 rw[List.drop_eq_getElem_cons hk,List.any_cons]
theorem zE{α:Type}{l:List α}{p:α→Bool}{k:Nat}{x:α}(h:l[k]? = some x):(l.drop k).find? p=if p x then some x else (l.drop (k+1)).find? p:=by
 obtain⟨hk,rfl⟩:=List.getElem?_eq_some_iff.1 h
 rw[List.drop_eq_getElem_cons hk,List.find?_cons]
 split<;>simp_all
theorem ns(t:ByteArray)(I:cc)(F:bZ):cf P 100 #[.string t] I F (gE (.bool (lx t)) F):=by
 refine kv.vc (fun x i m I' F'=>0≤i∧i≤41∧m=(41-i).toNat∧lx t=(di.drop i.toNat).any (fun w=>w.toList==t.toList)∧F'=F) ?_
 unfold kv.V
 refine (vA I F).mono fun e I1 G hI ⟨b,he,hS,hG⟩=>?_
 subst hG
 refine⟨_,_,_,he,_,.refl _,⟨_,by omega,by omega,rfl,rfl,rfl⟩,fun x i m I2 F2 hI2 ⟨g0,g1,gm,gw,gF⟩=>⟨fun hlt=>?_,fun hlt=>?_⟩⟩
 ·have hlt:i<41:=of_decide_eq_true hlt
  obtain⟨ad,w,ha,hw,hrd⟩:=(hS.mono hI2).at (i:=i) g0 hlt
  subst gF
  rw[AQ hw] at gw
  refine⟨⟨g0,hlt⟩,ad,ha,w,hrd _,fun h=>⟨?_,rfl⟩,fun h=>⟨(41-(i+1)).toNat,by omega, ?_⟩⟩
  ·rw[gw,h];rfl
  ·rw[dW (by omega)]
   refine⟨by omega,by omega,rfl, ?_,rfl⟩
   rw[gw,h,show (i+1).toNat=i.toNat+1 by omega];rfl
 ·have hlt:¬i<41:=of_decide_eq_false hlt
  refine⟨?_,gF⟩
  rw[gw,List.drop_eq_nil_of_le (by show 41≤_;omega)];rfl
theorem cN:(⟨#[]⟩:ByteArray).toList=[]:=by rw[Lib.toList_data]
theorem vB{t:ByteArray}(h1:(t.toList==(⟨#[]⟩:ByteArray).toList)=false)(h2:¬(t.size:Int)>16)(h3:fy (bt t 0)=true)(h4:lx t=false):da t=decide (ee c9 t 0=t.size):=by
 unfold da
 rw[cN] at h1
 rw[h3,h4,h1,decide_eq_true (by omega:(t.size:Int)≤16)];simp
theorem td{t:ByteArray}(I:cc)(F:bZ):cf P 126 #[.string t] I F (gE (.bool (da t)) F):=by
 refine ou.vc (fun x i m I' F'=>0≤i∧i≤t.size∧m=(t.size-i).toNat∧ee c9 t i=ee c9 t 0∧F'=F) ?_
 unfold ou.V
 refine⟨fun h=>⟨?_,rfl⟩,fun h=>⟨fun h2=>⟨?_,rfl⟩,fun h2=>?_⟩⟩
 ·rw[show da t=false by unfold da;rw[cN] at h;rw[h];rfl]
 ·rw[show da t=false by unfold da;rw[decide_eq_false (by have:=of_decide_eq_true h2;omega:¬(t.size:Int)≤16)];simp]
 have h2:=of_decide_eq_false h2
 have hne:0<t.size:=by
  rcases Nat.eq_zero_or_pos t.size with h0 | h0
  ·have:t=⟨#[]⟩:=ByteArray.size_eq_zero_iff.1 h0
   rw[this,cN] at h;exact absurd h (by decide)
  ·exact h0
 refine⟨⟨by omega,by omega⟩, ?_⟩
 refine cf.ret (rq (bt t 0) I _) fun I1 hI1=>⟨_,rfl,F,.refl _,fun h3=>⟨?_,rfl⟩,fun h3=>?_⟩
 ·rw[show da t=false by unfold da;rw[show fy (bt t 0)=false by simpa using h3];simp]
 have h3:fy (bt t 0)=true:=by simpa using h3
 refine cf.ret (zD t I1 _) fun I2 hI2=>⟨_,rfl,F,.refl _,fun h4=>⟨?_,rfl⟩,fun h4=>?_⟩
 ·rw[show da t=false by unfold da;rw[h4];simp]
 rw[vB h h2 h3 h4]
 refine⟨⟨_,by omega,by omega,rfl,rfl,rfl⟩,fun x i m I3 F3 hI3 ⟨g0,g1,gm,gr,gF⟩=>⟨fun hl=>⟨⟨g0,of_decide_eq_true hl⟩, ?_⟩,fun hl=>?_⟩⟩
 ·have hl:=of_decide_eq_true hl
  subst gF
  refine cf.ret (xt (bt t i) I3 _) fun I4 hI4=>⟨_,rfl,F3,.refl _,fun hc=>⟨?_,rfl⟩,fun hc=>?_⟩
  ·have hc:c9 (bt t i)=false:=by simpa using hc
   rw[dR hl,if_neg (by rw[hc];exact Bool.false_ne_true)] at gr
   rw[decide_eq_false (by omega)]
  ·have hc:c9 (bt t i)=true:=by simpa using hc
   rw[dR hl,if_pos hc] at gr
   rw[dW (by omega)]
   exact⟨(t.size-(i+1)).toNat,by omega,by omega,by omega,rfl,gr,rfl⟩
 ·have hl:=of_decide_eq_false hl
  refine⟨?_,gF⟩
  rw[mb (by omega)] at gr
  rw[decide_eq_true (by omega)]
theorem xx{t:ByteArray}(I:cc)(F:bZ):cf P 61 #[.string t] I F (gE (.bool (da t)) F):=by
 refine kx.vc (fun x i m I' F'=>0≤i∧i≤t.size∧m=(t.size-i).toNat∧ee c9 t i=ee c9 t 0∧F'=F) ?_
 unfold kx.V
 refine cf.ret (ns t I _) fun I1 hI1=>⟨_,rfl,F,.refl _,fun h4=>⟨?_,rfl⟩,fun h4=>⟨fun h1=>⟨?_,rfl⟩,fun h1=>⟨fun h2=>⟨?_,rfl⟩,fun h2=>?_⟩⟩⟩
 ·rw[show da t=false by unfold da;rw[h4];simp]
 ·have h1:=of_decide_eq_true h1
  have:t=⟨#[]⟩:=ByteArray.size_eq_zero_iff.1 (by omega)
  rw[this,show da ⟨#[]⟩=false by unfold da;rw[cN];rfl]
 ·rw[show da t=false by unfold da;rw[decide_eq_false (by have:=of_decide_eq_true h2;omega:¬(t.size:Int)≤16)];simp]
 have h1:=of_decide_eq_false h1
 have h2:=of_decide_eq_false h2
 have h0:(t.toList==(⟨#[]⟩:ByteArray).toList)=false:=by
  rw[cN]
  have:t.toList≠[]:=fun e=>by
   have:t.toList.length=0:=by rw[e];rfl
   rw[Lib.toList_data] at this
   have h3:t.size=0:=by simpa using this
   omega
  simpa using this
 refine⟨⟨by omega,by omega⟩, ?_⟩
 refine cf.ret (ky (bt t 0) I1 _) fun I2 hI2=>⟨_,rfl,F,.refl _,fun h3=>⟨?_,rfl⟩,fun h3=>?_⟩
 ·rw[show da t=false by unfold da;rw[show fy (bt t 0)=false by simpa using h3];simp]
 have h3:fy (bt t 0)=true:=by simpa using h3
 rw[vB h0 h2 h3 h4]
 refine⟨⟨_,by omega,by omega,rfl,rfl,rfl⟩,fun x i m I3 F3 hI3 ⟨g0,g1,gm,gr,gF⟩=>⟨fun hl=>⟨⟨g0,of_decide_eq_true hl⟩, ?_⟩,fun hl=>?_⟩⟩
 ·have hl:=of_decide_eq_true hl
  subst gF
  refine cf.ret (nr (bt t i) I3 _) fun I4 hI4=>⟨_,rfl,F3,.refl _,fun hc=>⟨?_,rfl⟩,fun hc=>?_⟩
  ·have hc:c9 (bt t i)=false:=by simpa using hc
   rw[dR hl,if_neg (by rw[hc];exact Bool.false_ne_true)] at gr
   rw[decide_eq_false (by omega)]
  ·have hc:c9 (bt t i)=true:=by simpa using hc
   rw[dR hl,if_pos hc] at gr
   rw[dW (by omega)]
   exact⟨(t.size-(i+1)).toNat,by omega,by omega,by omega,rfl,gr,rfl⟩
 ·have hl:=of_decide_eq_false hl
  refine⟨?_,gF⟩
  rw[mb (by omega)] at gr
  rw[decide_eq_true (by omega)]
def DU(n:Nat)(hs:Nat→bZ):bZ:=(List.range n).flatMap hs
end Go.Lx
namespace Go.Vc
end Go.Vc
namespace Go.Lx
open Go.Vc
end Go.Lx
namespace Go.Lx
open Go.Vc Go.Proofs.Tryz
def Dd:List (Nat×List Sh):=[(3,[.one (.int .i64)]),(4,[.one .bool]),(26,[.one .slc]),(28,[.agg [(.int .u8),(.int .u8),(.int .u8),(.int .i64),(.int .u8),.str,.slc,(.int .i64)]])]
def fD.V(f:Nat→Nat×Obj)(vb vi:Int→Value)(wr:Int→Int)(v w x y z:Int)(t:Bs)(h:OA)(a u:Nat)(aa n b:Int)(I:cc)(F:bZ)(Q:cd)(Inv16:Int→Int→Nat→cc→bZ→Prop):Prop:=∀g:Nat,(Dt (b>60000) (Q (.returned (vi 1048577)) I F) ((∃m:Nat,Inv16 (wr ((wr (n+1))+(t.size:Int))) 0 m I F)∧∀(n1 i:Int) (m1:Nat) (I1:cc) (F1:bZ),cc.le I I1→Inv16 n1 i m1 I1 F1→(Dt (i<(a:Int)) (Dt (n1≤1048576) ((0≤i∧i<(a:Int))∧∃ad:Addr,h=some ad∧∃(j k l o p:Int) (q:Bs) (c:OA) (d e:Nat) (s:Int),Rd I1 ((f g)::F1) (ad.add (Int.toNat i*8)) [vb j,vb k,vb l,vi o,vb p,.string q,.slice c d e,vi s]∧cE P 30 (#[.agg #[vb j,vb k,vb l,vi o,vb p,.string q,.slice c d e,vi s],vi n1,vi (wr (b+1))]) I1 ((f g)::·) F1 vi fun r I2 F2=>(∃m2:Nat,m2<m1∧Inv16 r (wr (i+1)) m2 I2 F2)) (Q (.returned (vi n1)) I1 F1)) (Q (.returned (vi n1)) I1 F1))))
theorem fD.vc{e f g i j:Int}{k:Bs}{a:OA}{c d:Nat}{l n o:Int}{I:cc}{F:bZ}{Q:cd}(Inv16:Int→Int→Nat→cc→bZ→Prop)(h:fD.V (fun b=>(b,Obj.cells #[.int .u8 e,.int .u8 f,.int .u8 g,.int .i64 i,.int .u8 j,.string k,.slice a c d,.int .i64 l] 28 (0,0))) (.int .u8) (.int .i64) (IntKind.wrap .i64) e f g i j k a c d l n o I F Q Inv16):cf P 30 #[.agg #[.int .u8 e,.int .u8 f,.int .u8 g,.int .i64 i,.int .u8 j,.string k,.slice a c d,.int .i64 l],.int .i64 n,.int .i64 o] I F Q :=
 tw (A:=(cQ [2001,5004,5007] [] [30] Dd [(16,⟨[(1,(.int .i64)),(7,(.int .i64))],[],fun _ _ _ vs m I F=>match vs with | [.int _ y0,.int _ y1]=>Inv16 y0 y1 m I F | _=>False,[],[]⟩)] [] [] [] [] [] [])) [30] func30 h
end Go.Lx
namespace Go.Lx
open Go.Vc
theorem cy.cons{I:cc}{F:bZ}{t:Nd}(h:cy I F t){x:Nat×Obj}:cy I (x::F) t:=h.mono (cc.le_refl I) fun _ h=>List.mem_cons_of_mem _ h
theorem j2{l:List Nd}{i:Nat}{x:Nd}(h:l[i]? = some x):(l.drop i).map Nd.px=x.px::(l.drop (i+1)).map Nd.px:=by
 obtain⟨hk,rfl⟩:=List.getElem?_eq_some_iff.1 h
 rw[List.drop_eq_getElem_cons hk,List.map_cons]
theorem ov{l:List Nd}{i:Nat}(h:l.length≤i):(l.drop i).map Nd.px=[]:=by rw[List.drop_eq_nil_of_le h];rfl
theorem xy:∀(t:Nd),t.px.eY→∀(n d:Int) (I:cc) (F:bZ),cy I F t→0≤n→n≤1000000000000000000→0≤d→d≤60001 →
  cf P 30 #[t.v,.int .i64 n,.int .i64 d] I F (gE (.int .i64 (t.px.k9 n d)) F):=by
 refine Nd.ind fun t ih hs n d I F hok hn0 hn1 hd0 hd1=>?_
 have hnm:=hs.name
 have hln:=hs.len
 rw[Nd.gN] at hnm
 rw[Nd.ia] at hln
 refine fD.vc (fun n1 i m I' F'=>0≤i∧i≤t.kids.length∧m=(t.kids.length-i).toNat∧0≤n1∧Px.fK (t.kids.map Nd.px) (n+1+t.name.size) (d+1)=Px.fK ((t.kids.drop i.toNat).map Nd.px) n1 (d+1)∧F'=F) ?_
 unfold fD.V
 intro b_x
 rw[Px.rp,Nd.gN,Nd.dX]
 have hw:IntKind.wrap .i64 (IntKind.wrap .i64 (n+1)+(t.name.size:Int))=n+1+t.name.size:=by rw[dW (n:=n+1) (by omega),dW (by omega)]
 refine⟨fun h=>⟨?_,rfl⟩,fun h=>⟨⟨_,by omega,by omega,rfl, ?_, ?_,rfl⟩,fun n1 i m I1 F1 hI ⟨g0,g1,gm,gn,gw,gF⟩=>?_⟩⟩
 ·rw[if_pos (of_decide_eq_true h)]
 ·rw[hw];omega
 ·rw[hw];rfl
 have hd:¬60000<d:=of_decide_eq_false h
 rw[if_neg hd]
 subst gF
 refine⟨fun hlt=>⟨fun hle=>?_,fun hle=>⟨?_,rfl⟩⟩,fun hlt=>⟨?_,rfl⟩⟩
 ·have hlt:=of_decide_eq_true hlt
  have hle:=of_decide_eq_true hle
  obtain⟨ad,x,had,hx,hrd,hxo,hxm⟩:=((hok.mono hI fun _ h=>h).cons (x:=(b_x,.cells t.enc.toArray 28 (0,0)))).kids.at g0 hlt
  refine⟨⟨g0,hlt⟩,ad,had,_,_,_,_,_,_,_,_,_,_,hrd, ?_⟩
  rw[dW (n:=d+1) (by omega)]
  refine cf.ret (ih x hxm (hs.Eo x.px (by rw[Nd.dX];exact List.mem_map_of_mem hxm)) n1 (d+1) I1 _ hxo gn (by omega) (by omega) (by omega)) fun I2 hI2=>⟨_,rfl,F1,.refl _,(t.kids.length-(i+1)).toNat,by omega, ?_⟩
  rw[dW (n:=i+1) (by omega)]
  refine⟨by omega,by omega,rfl, ?_, ?_,rfl⟩
  ·exact Px.zz _ _ _ gn
  ·rw[gw,j2 hx,Px.fK,if_pos hle,show (i+1).toNat=i.toNat+1 by omega]
 ·have hlt:=of_decide_eq_true hlt
  have hle:=of_decide_eq_false hle
  obtain⟨ad,x,had,hx,hrd,hxo,hxm⟩:=hok.kids.at g0 hlt
  rw[gw,j2 hx,Px.fK,if_neg hle]
 ·have hlt:=of_decide_eq_false hlt
  rw[gw,ov (by omega),Px.fK]
theorem _root_.Go.Vc.cf.AR{v:Value}{F:bZ}{Pr:Program}{f:FuncId}{args:Array Value}{I:cc}(h:cf Pr f args I F (gE v F)):cf Pr f args I F fun e I' G=>e=.returned v∧G.Perm F :=
 h.mono fun e I' G _ ⟨h1,h2⟩=>⟨h1,by rw[h2]⟩
theorem lD{t x:Nd}(h:x∈t.kids){n:Int}(hs:t.px.size≤n):x.px.size≤n:=by
 have h1:=Px.s9 (List.mem_map_of_mem (f:=Nd.px) h)
 rw[Px.size_eq,Nd.dX] at hs
 omega
theorem ow{t:Nd}{n:Int}(hs:t.px.size≤n):(t.kids.length:Int)<n:=by
 have h1:=Px.tb (t.kids.map Nd.px)
 rw[Px.size_eq,Nd.dX] at hs
 rw[List.length_map] at h1
 omega
def ib:Nd:=.mk 0 0 0 0 0 ⟨#[]⟩ none 0 [] 0
end Go.Lx
namespace Go.Lx
open Go.Vc Go.Proofs.Tryz
def ub:List (Nat×List Sh):=[(3,[.one (.int .i64)]),(4,[.one .bool]),(28,[.agg [(.int .u8),(.int .u8),(.int .u8),(.int .i64),(.int .u8),.str,.slc,(.int .i64)]])]
def kz.V(vt:Bool→Value)(i a b c d:Int)(e:Bs)(f:OA)(g h:Nat)(j:Int)(I:cc)(F:bZ)(Q:cd)  : Prop:=∀k:Nat,(It (a==0) (It (b==0) (It (c==0) (It (d==0) (Q (.returned (vt (e.toList==(⟨#[]⟩:Bs).toList))) I F) (Q (.returned (vt false)) I F)) (Q (.returned (vt false)) I F)) (Q (.returned (vt false)) I F)) (Q (.returned (vt false)) I F))
theorem kz.vc{d e f g i:Int}{j:Bs}{a:OA}{b c:Nat}{k:Int}{I:cc}{F:bZ}{Q:cd}  (h:kz.V .bool d e f g i j a b c k I F Q):cf P 62 #[.agg #[.int .u8 d,.int .u8 e,.int .u8 f,.int .i64 g,.int .u8 i,.string j,.slice a b c,.int .i64 k]] I F Q :=
 tw (A:=(an [1002,1006,1011,1016] [] ub)) [] func62 h
def gO.V(nO:Int→Int→Int→Int→Int→Bs→OA→Nat→Nat→Int→Obj)(vb:Int→Value)(vt:Bool→Value)(f g a b h:Int)(i:Bs)(d:OA)(c e:Nat)(j:Int)(I:cc)(F:bZ)(Q:cd)(Inv4:Bool→cc→bZ→Prop):Prop:=∀k:Nat,((It (a==1) (Inv4 (decide (b≥0)) I F) (It (a==2) (Inv4 (decide (b≥0)) I F) (It (a==3) (Inv4 (decide (b≥0)) I F) (It (a==4) (Inv4 (decide (b≥0)) I F) (It (a==5) (It (b==0) (Inv4 true I F) (Inv4 (b==1) I F)) (It (a==6) (It (b==1) (Inv4 true I F) (Inv4 (b==2) I F)) (Inv4 false I F))))))))∧∀(ok:Bool) (I1:cc) (F1:bZ),cc.le I I1→Inv4 ok I1 F1→(It ok (cE P 62 #[.agg #[vb f,vb g,vb 0,.int .i64 0,vb h,.string i,.slice d c e,.int .i64 j]] I1 ((k,nO f g 0 0 h i d c e j)::·) F1 vt fun r I2 F2=>(It r (Q (.returned (vt ((c:Int)==0))) I2 F2) (Q (.returned (vt false)) I2 F2))) (Q (.returned (vt false)) I1 F1))
theorem gO.vc{g i j p r:Int}{u:Bs}{b:OA}{d e:Nat}{v:Int}{I:cc}{F:bZ}{Q:cd}(Inv4:Bool→cc→bZ→Prop)(h:gO.V (fun k o t n f s a l c q=>.cells #[.int .u8 k,.int .u8 o,.int .u8 t,.int .i64 n,.int .u8 f,.string s,.slice a l c,.int .i64 q] 28 (0,0)) (.int .u8) .bool g i j p r u b d e v I F Q Inv4):cf P 60 #[.agg #[.int .u8 g,.int .u8 i,.int .u8 j,.int .i64 p,.int .u8 r,.string u,.slice b d e,.int .i64 v]] I F Q :=
 tw (A:=(cQ [3000,4000,5000,6000,8000,9002,10000,11002,14000,14003] [] [62] ub [(4,⟨[(3,.bool)],[],fun _ _ _ vs m I F=>match vs with | [.bool y0]=>Inv4 y0 I F | _=>False,[],[]⟩)] [] [] [] [] [] [])) [62] func60 h
def mf.V(w:Nat→Nat×Obj)(nV:Int→Int→Int→Int→Int→Bs→OA→Nat→Nat→Int→Value)(nO:Int→Int→Int→Int→Int→Bs→OA→Nat→Nat→Int→Obj)(vt:Bool→Value)(a e g h f:Int)(i:Bs)(b:OA)(c d:Nat)(j:Int)(I:cc)(F:bZ)(Q:cd)(Inv6:Bool→Int→Bool→Int→Int→Int→Int→Int→Bs→OA→Nat→Nat→Int→cc→bZ→Prop):Prop:=∀v:Nat,((It (a==1) (cE P 60 #[nV a e g h f i b c d j] I ((w v)::·) F vt fun r I1 F1=>Q (.returned (vt r)) I1 F1) (It (a==2) (cE P 61 #[.string i] I ((w v)::·) F vt fun r1 I2 F2=>Inv6 false 0 r1 a e g h f (⟨#[]⟩:Bs) b c d j I2 F2) (It (a==3) (Dt (f≥1) (Inv6 false 0 (decide (f≤6)) a e g h 0 i b c d j I F) (Inv6 false 0 false a e g h 0 i b c d j I F)) (It (a==4) (Dt (f≥1) (Inv6 false 0 (decide (f≤3)) a e g h 0 i b c d j I F) (Inv6 false 0 false a e g h 0 i b c d j I F)) (It (a==5) (It (e==1) (Inv6 false 1 true a 0 g h f i b c d j I F) (Inv6 false 1 (e==2) a 0 g h f i b c d j I F)) (It (a==6) (Dt (e≥6) (Inv6 false 2 (decide (e≤18)) a 0 g h f i b c d j I F) (Inv6 false 2 false a 0 g h f i b c d j I F)) (It (a==7) (Inv6 false 3 true a e g h f i b c d j I F) (It (a==8) (Dt (e≥3) (It (e==3) (Inv6 false 1 (decide (e≤5)) a 0 g h f i b c d j I F) (Inv6 false 2 (decide (e≤5)) a 0 g h f i b c d j I F)) (It (e==3) (Inv6 false 1 false a 0 g h f i b c d j I F) (Inv6 false 2 false a 0 g h f i b c d j I F))) (It (a==9) (Dt (g≥1) (Inv6 false 1 (decide (g≤4)) a e 0 h f i b c d j I F) (Inv6 false 1 false a e 0 h f i b c d j I F)) (Inv6 false 0 false a e g h f i b c d j I F)))))))))))∧∀(x:Bool) (y:Int) (ok:Bool) (n o p q s:Int) (t:Bs) (l:OA) (k m:Nat) (u:Int) (I3:cc) (F3:bZ),cc.le I I3→Inv6 x y ok n o p q s t l k m u I3 F3→(It ok (cE P 62 #[nV n o p q s t l k m u] I3 ((v,nO n o p q s t l k m u)::·) F3 vt fun r2 I4 F4=>(It r2 (Q (.returned (vt ((k:Int)==y))) I4 F4) (Q (.returned (vt false)) I4 F4))) (Q (.returned (vt false)) I3 F3))
theorem mf.vc{i j p r u:Int}{v:Bs}{d:OA}{e g:Nat}{w:Int}{I:cc}{F:bZ}{Q:cd}(Inv6:Bool→Int→Bool→Int→Int→Int→Int→Int→Bs→OA→Nat→Nat→Int→cc→bZ→Prop)(h:mf.V (fun b=>(b,Obj.cells #[.int .u8 i,.int .u8 j,.int .u8 p,.int .i64 r,.int .u8 u,.string v,.slice d e g,.int .i64 w] 28 (0,0))) (fun k o t n f s a l c q=>.agg #[.int .u8 k,.int .u8 o,.int .u8 t,.int .i64 n,.int .u8 f,.string s,.slice a l c,.int .i64 q]) (fun k o t n f s a l c q=>.cells #[.int .u8 k,.int .u8 o,.int .u8 t,.int .i64 n,.int .u8 f,.string s,.slice a l c,.int .i64 q] 28 (0,0)) .bool i j p r u v d e g w I F Q Inv6):cf P 36 #[.agg #[.int .u8 i,.int .u8 j,.int .u8 p,.int .i64 r,.int .u8 u,.string v,.slice d e g,.int .i64 w]] I F Q :=
 tw (A:=(cQ [4000,6000,9000,10002,12000,13002,15000,16002,19000,20002,23000,26000,27002,29002,32000,33002,36000,36003] [] [60,61,62] ub [(6,⟨[(2,.bool),(3,(.int .i64)),(4,.bool)],[(0,[(.int .u8),(.int .u8),(.int .u8),(.int .i64),(.int .u8),.str,.slc,(.int .i64)])],fun _ _ _ vs m I F=>match vs with | [.bool y0,.int _ y1,.bool y2,.int _ y3,.int _ y4,.int _ y5,.int _ y6,.int _ y7,.string y8,.slice y9 y10 y11,.int _ y12]=>Inv6 y0 y1 y2 y3 y4 y5 y6 y7 y8 y9 y10 y11 y12 I F | _=>False,[],[]⟩)] [] [] [] [] [] [])) [60,61,62] func36 h
def iy.V(b:Nat→Nat×Obj)(nV:Int→Int→Int→Int→Int→Bs→OA→Nat→Nat→Int→Value)(vb:Int→Value)(vt:Bool→Value)(s t u v w:Int)(x:Bs)(d:OA)(a h:Nat)(y:Int)(I:cc)(F:bZ)(Q:cd)(Inv8:Bool→Int→Nat→cc→bZ→Prop):Prop:=∀c:Nat,cE P 36 #[nV s t u v w x d a h y] I ((b c)::·) F vt fun r I1 F1=>(∃m:Nat,Inv8 r 0 m I1 F1)∧∀(ok:Bool) (i:Int) (m1:Nat) (I2:cc) (F2:bZ),cc.le I1 I2→Inv8 ok i m1 I2 F2→(Dt (i<(a:Int)) (It ok ((0≤i∧i<(a:Int))∧∃ad:Addr,d=some ad∧∃(j k l n o:Int) (p:Bs) (e:OA) (f g:Nat) (q:Int),Rd I2 ((b c)::F2) (ad.add (Int.toNat i*8)) [vb j,vb k,vb l,.int .i64 n,vb o,.string p,.slice e f g,.int .i64 q]∧cE P 15 #[nV j k l n o p e f g q] I2 ((b c)::·) F2 vt fun r1 I3 F3=>(∃m2:Nat,m2<m1∧Inv8 r1 (IntKind.wrap .i64 (i+1)) m2 I3 F3)) (Q (.returned (vt ok)) I2 F2)) (Q (.returned (vt ok)) I2 F2))
theorem iy.vc{i j p r u:Int}{v:Bs}{d:OA}{e g:Nat}{w:Int}{I:cc}{F:bZ}{Q:cd}(Inv8:Bool→Int→Nat→cc→bZ→Prop)(h:iy.V (fun b=>(b,Obj.cells #[.int .u8 i,.int .u8 j,.int .u8 p,.int .i64 r,.int .u8 u,.string v,.slice d e g,.int .i64 w] 28 (0,0))) (fun k o t n f s a l c q=>.agg #[.int .u8 k,.int .u8 o,.int .u8 t,.int .i64 n,.int .u8 f,.string s,.slice a l c,.int .i64 q]) (.int .u8) .bool i j p r u v d e g w I F Q Inv8):cf P 15 #[.agg #[.int .u8 i,.int .u8 j,.int .u8 p,.int .i64 r,.int .u8 u,.string v,.slice d e g,.int .i64 w]] I F Q :=
 tw (A:=(cQ [3004,3006] [] [15,36] ub [(8,⟨[(3,.bool),(4,(.int .i64))],[],fun _ _ _ vs m I F=>match vs with | [.bool y0,.int _ y1]=>Inv8 y0 y1 m I F | _=>False,[],[]⟩)] [] [] [] [] [] [])) [15,36] func15 h
end Go.Lx
namespace Go.Lx
open Go.Vc
def zB(o ty n f:Int)(s:ByteArray):Bool:=o==0&&(ty==0&&(n==0&&(f==0&&(s.toList==(⟨#[]⟩:ByteArray).toList))))
theorem te(k o ty n f:Int)(s:ByteArray)(a:Option Addr)(l c:Nat)(q:Int)(I:cc)(F:bZ) :
  cf P 62 #[.agg #[.int .u8 k,.int .u8 o,.int .u8 ty,.int .i64 n,.int .u8 f,.string s,.slice a l c,.int .i64 q]] I F (gE (.bool (zB o ty n f s)) F):=by
 refine kz.vc ?_
 unfold kz.V
 intro b_n
 unfold zB
 refine⟨fun h=>⟨fun h1=>⟨fun h2=>⟨fun h3=>⟨?_,rfl⟩,fun h3=>⟨?_,rfl⟩⟩,fun h2=>⟨?_,rfl⟩⟩,fun h1=>⟨?_,rfl⟩⟩,fun h=>⟨?_,rfl⟩⟩<;>simp[*]
theorem uc(t:Nd)(I:cc)(F:bZ):cf P 60 #[t.v] I F (gE (.bool (t.px.zw&&(zB t.oper 0 0 t.field t.name&&decide (t.kids.length=0)))) F):=by
 refine gO.vc (fun ok I' F'=>ok=t.px.zw∧F'=F) ?_
 unfold gO.V
 intro b_n
 unfold Px.zw
 rw[Nd.jL,Nd.zu]
 refine⟨⟨fun h=>⟨?_,rfl⟩,fun h1=>⟨fun h=>⟨?_,rfl⟩,fun h2=>⟨fun h=>⟨?_,rfl⟩,fun h3=>⟨fun h=>⟨?_,rfl⟩,fun h4=>⟨fun h=>⟨fun h'=>⟨?_,rfl⟩,fun h'=>⟨?_,rfl⟩⟩,fun h5=>⟨fun h=>⟨fun h'=>⟨?_,rfl⟩,fun h'=>⟨?_,rfl⟩⟩,fun h6=>⟨?_,rfl⟩⟩⟩⟩⟩⟩⟩,fun ok I1 F1 hI ⟨g1,gF⟩=>?_⟩
 ·have h:t.cq=1:=by simpa using h
  simp[h]
 ·have h:t.cq=2:=by simpa using h
  simp[h]
 ·have h:t.cq=3:=by simpa using h
  simp[h]
 ·have h:t.cq=4:=by simpa using h
  simp[h]
 ·have h:t.cq=5:=by simpa using h
  have h':t.n=0:=by simpa using h'
  simp[h,h']
 ·have h:t.cq=5:=by simpa using h
  have h':t.n≠0:=by simpa using h'
  rw[if_neg (by omega),if_pos h,Bool.eq_iff_iff];simp[h']
 ·have h:t.cq=6:=by simpa using h
  have h':t.n=1:=by simpa using h'
  simp[h,h']
 ·have h:t.cq=6:=by simpa using h
  have h':t.n≠1:=by simpa using h'
  rw[if_pos h,Bool.eq_iff_iff];simp[h']
 ·have e1:t.cq≠1:=by simpa using h1
  have e2:t.cq≠2:=by simpa using h2
  have e3:t.cq≠3:=by simpa using h3
  have e4:t.cq≠4:=by simpa using h4
  have e5:t.cq≠5:=by simpa using h5
  have e6:t.cq≠6:=by simpa using h6
  rw[if_neg e6,if_neg e5,if_neg (by omega)]
 ·subst gF
  rw[←g1]
  refine⟨fun h=>cf.ret (te t.kind t.oper 0 0 t.field t.name t.a t.kids.length t.c t.pos I1 _) fun I2 h2=>⟨_,rfl,F1,.refl _,fun h'=>⟨?_,rfl⟩,fun h'=>⟨?_,rfl⟩⟩,fun h=>⟨?_,rfl⟩⟩
  ·rw[h,h'];congr 2;rw[Bool.eq_iff_iff];simp
  ·rw[h'];simp
  ·rw[h];simp
theorem AU(t:Nd)(I:cc)(F:bZ):cf P 36 #[t.v] I F (gE (.bool t.px.eW) F):=by
 refine mf.vc (fun x kids ok k o ty n f s a l c q I' F'=>(ok&&(zB o ty n f s&&decide (l=kids.toNat)))=t.px.eW∧0≤kids∧F'=F) ?_
 unfold mf.V
 intro b_n
 unfold Px.eW Px.oh Px.oj Px.arity
 simp only[Nd.cT,Nd.iw,Nd.jL,Nd.zu,Nd.jZ,Nd.gN,Nd.ia]
 refine⟨⟨fun h=>?_,fun h1=>⟨fun h=>?_,fun h2=>⟨fun h=>⟨fun h'=>⟨?_,by decide,by trivial⟩,fun h'=>⟨?_,by decide,by trivial⟩⟩,fun h3=>⟨fun h=>⟨fun h'=>⟨?_,by decide,by trivial⟩,fun h'=>⟨?_,by decide,by trivial⟩⟩,fun h4=>⟨fun h=>⟨fun h'=>⟨?_,by decide,by trivial⟩,fun h'=>⟨?_,by decide,by trivial⟩⟩,
  fun h5=>⟨fun h=>⟨fun h'=>⟨?_,by decide,by trivial⟩,fun h'=>⟨?_,by decide,by trivial⟩⟩,fun h6=>⟨fun h=>⟨?_,by decide,by trivial⟩,fun h7=>⟨fun h=>⟨fun h'=>⟨fun h''=>⟨?_,by decide,by trivial⟩,fun h''=>⟨?_,by decide,by trivial⟩⟩,fun h'=>⟨fun h''=>⟨?_,by decide,by trivial⟩,fun h''=>⟨?_,by decide,by trivial⟩⟩⟩,fun h8=>⟨fun h=>⟨fun h'=>⟨?_,by decide,by trivial⟩,fun h'=>⟨?_,by decide,by trivial⟩⟩,fun h9=>⟨?_,by decide,by trivial⟩⟩⟩⟩⟩⟩⟩⟩⟩⟩,fun x kids ok k o ty n f s a l c q I3 F3 hI ⟨g1,gk,gF⟩=>?_⟩
 ·refine cf.ret (uc t I _) fun I2 h2=>⟨_,rfl,F,.refl _, ?_,by trivial⟩
  have hk:t.kind=1:=by simpa using h
  simp[hk,zB,cN,Bool.and_assoc]
 ·refine cf.ret (xx I _) fun I2 h2=>⟨_,rfl,F,.refl _, ?_,by decide,by trivial⟩
  have hk:t.kind=2:=by simpa using h
  simp[hk,zB,cN,Bool.and_assoc]
 all_goals first
  | (subst gF
     rw[←g1]
     refine⟨fun h=>cf.ret (te k o ty n f s a l c q I3 _) fun I2 h2=>⟨_,rfl,F3,.refl _,fun h'=>⟨?_,by trivial⟩,fun h'=>⟨?_,by trivial⟩⟩,fun h=>⟨?_,by trivial⟩⟩
     ·rw[h,h'];congr 2;rw[Bool.eq_iff_iff];simp;omega
     ·rw[h'];simp
     ·rw[h];simp)
  | (simp only[beq_iff_eq] at h
     try simp only[decide_eq_true_eq,decide_eq_false_iff_not,beq_iff_eq,beq_eq_false_iff_ne] at h'
     try simp only[decide_eq_true_eq,decide_eq_false_iff_not,beq_iff_eq,beq_eq_false_iff_ne] at h''
     simp[*,zB,cN,Bool.and_assoc]
     done)
  | skip
 ·have h:t.kind=5:=by simpa using h
  have h':t.oper≠1:=by simpa using h'
  have:decide (t.oper=1∨t.oper=2)=(t.oper==2):=by rw[Bool.eq_iff_iff];simp[h']
  simp[h,this,zB,cN,Bool.and_assoc]
 ·exfalso
  have h':=of_decide_eq_false h'
  have h'':t.oper=3:=by simpa using h''
  omega
 ·have e1:t.kind≠1:=by simpa using h1
  have e2:t.kind≠2:=by simpa using h2
  have e3:t.kind≠3:=by simpa using h3
  have e4:t.kind≠4:=by simpa using h4
  have e5:t.kind≠5:=by simpa using h5
  have e6:t.kind≠6:=by simpa using h6
  have e7:t.kind≠7:=by simpa using h7
  have e8:t.kind≠8:=by simpa using h8
  have e9:t.kind≠9:=by simpa using h9
  simp[e1,e2,e3,e4,e5,e6,e7,e8,e9]
theorem lE:∀(t:Nd),t.px.size≤1048576→∀(I:cc) (F:bZ),cy I F t→cf P 15 #[t.v] I F (gE (.bool t.px.formed) F):=by
 refine Nd.ind fun t ih hs I F ht=>?_
 have hln:=ow hs
 refine iy.vc (fun ok i m I' F'=>0≤i∧i≤t.kids.length∧m=(t.kids.length-i).toNat∧t.px.formed=(ok&&Px.eu ((t.kids.drop i.toNat).map Nd.px))∧F'=F) ?_
 unfold iy.V
 intro b_n
 refine cf.ret (AU t I _) fun I1 hI1=>⟨_,rfl,F,.refl _,⟨_,by omega,by omega,rfl, ?_,rfl⟩,fun ok i m I2 F2 hI ⟨g0,g1,gm,gf,gF⟩=>⟨fun hlt=>⟨fun hok=>?_,fun hok=>⟨?_,gF⟩⟩,fun hlt=>⟨?_,gF⟩⟩⟩
 ·rw[Px.dK,Nd.dX];rfl
 ·have hlt:=of_decide_eq_true hlt
  subst gF
  obtain⟨ad,x,had,hx,hrd,hxo,hxm⟩:=((ht.mono (cc.le_trans hI1 hI) fun _ h=>h).cons (x:=(b_n,.cells t.enc.toArray 28 (0,0)))).kids.at g0 hlt
  refine⟨⟨g0,hlt⟩,ad,had,_,_,_,_,_,_,_,_,_,_,hrd,cf.ret (ih x hxm (lD hxm hs) I2 _ hxo) fun I3 hI3=>⟨_,rfl,F2,.refl _,(t.kids.length-(i+1)).toNat,by omega, ?_⟩⟩
  rw[dW (n:=i+1) (by omega)]
  refine⟨by omega,by omega,rfl, ?_,rfl⟩
  rw[gf,hok,j2 hx,Px.eu,show (i+1).toNat=i.toNat+1 by omega];rfl
 ·rw[gf,hok];rfl
 ·have hlt:=of_decide_eq_false hlt
  rw[gf,ov (by omega),Px.eu,Bool.and_true]
theorem Px.kA{x:Px}(h:x.formed=true):∀k∈x.kids,k.formed=true:=by
 have hL:∀l:List Px,Px.eu l=true→∀k∈l,k.formed=true:=by
  intro l
  induction l with
  | nil=>intro _ k hk;cases hk
  | cons y r ih =>
    intro h k hk
    rw[Px.eu,Bool.and_eq_true] at h
    rcases List.mem_cons.1 hk with rfl | hk
    ·exact h.1
    ·exact ih h.2 k hk
 rw[Px.dK,Bool.and_eq_true] at h
 exact hL _ h.2
theorem Px.vC{x:Px}(h:x.formed=true)(hk:x.kids≠[]):5≤x.kind∧x.kind≤9:=by
 rw[Px.dK,Bool.and_eq_true] at h
 have h1:=h.1
 unfold Px.eW at h1
 simp only[Bool.and_eq_true,decide_eq_true_eq] at h1
 have h2:=h1.2
 have h3:0<x.kids.length:=List.length_pos_iff.2 hk
 unfold Px.arity at h2
 (repeat' split at h2)<;>omega
theorem rv(x k:Px)(i:Int):0≤x.xp k i∧x.xp k i≤2:=by
 unfold Px.xp;(repeat' split)<;>omega
theorem vD:∀x:Px,0≤x.depth∧x.depth≤2*x.size:=by
 have hL:∀(t:Px) (l:List Px),(∀x∈l,0≤Px.depth x∧Px.depth x≤2*Px.size x)→∀(i most:Int),0≤most→0≤Px.iV t i l most∧Px.iV t i l most≤max most (2*Px.cR l+2):=by
  intro t l
  induction l with
  | nil=>intro _ i most h;rw[Px.iV,Px.cR];omega
  | cons x r ih =>
    intro hx i most h
    have h1:=hx x (List.mem_cons_self ..)
    have h2:=rv t x i
    have h3:=ih (fun y hy=>hx y (List.mem_cons_of_mem _ hy)) (i+1) (max most (Px.depth x+t.xp x i)) (by omega)
    have h4:=Px.gj r
    have h5:=Px.size_pos x
    rw[Px.iV,Px.cR]
    omega
 refine Px.ind fun x h=>?_
 have:=hL x x.kids h 0 0 (by omega)
 have h4:=Px.gj x.kids
 rw[Px.vx,Px.size_eq]
 omega
def Px.dv(x:Px):Int:=if x.formed then (if 24<x.depth then 122 else 0) else 120
end Go.Lx
namespace Go.Lx
open Go.Vc Go.Proofs.Tryz
def iW:List (Nat×List Sh):=[(0,[]),(3,[.one (.int .i64)]),(4,[.one .bool]),(28,[.agg [(.int .u8),(.int .u8),(.int .u8),(.int .i64),(.int .u8),.str,.slc,(.int .i64)]]),(47,[.one (.int .i64)]),(199,[.agg [(.int .u8),(.int .u8),(.int .u8),(.int .i64),(.int .u8),.str]])]
def mg.V(is:Bool)(e1:Int)(I:cc)(F:bZ)(Q:cd)  : Prop:=(It (!is) (Q (.panicked ([{ v:=Value.iface 155 (.agg #[.int .i64 e1]),recovered:=false }])) I F) (Q (.returned (.tuple #[])) I F))
theorem mg.vc{is:Bool}{e1:Int}{I:cc}{F:bZ}{Q:cd}  (h:mg.V is e1 I F Q):cf P 98 #[.bool is,.int .i64 e1] I F Q :=
 tw (A:=(an [1] [] iW)) [] func98 h
def kB.V(vb:Int→Value)(a c d e f:Int)(g:Bs)(h:OA)(i j:Nat)(k:Int)(I:cc)(F:bZ)(Q:cd)  : Prop:=∀l:Nat,∀b:Nat,Q (.returned (.agg #[vb a,vb c,vb d,.int .i64 e,vb f,.string g])) I (F)
theorem kB.vc{d e f g i:Int}{j:Bs}{a:OA}{b c:Nat}{k:Int}{I:cc}{F:bZ}{Q:cd}  (h:kB.V (.int .u8) d e f g i j a b c k I F Q):cf P 127 #[.agg #[.int .u8 d,.int .u8 e,.int .u8 f,.int .i64 g,.int .u8 i,.string j,.slice a b c,.int .i64 k]] I F Q :=
 tw (A:=(an [] [] iW)) [] func127 h
def iz.V(vt:Bool→Value)(wr:Int→Int)(f g a b h:Int)(i:Bs)(c:OA)(d e:Nat)(j:Int)(I:cc)(F:bZ)(Q:cd)  : Prop:=∀k:Nat,(It (a==6) (It (b==(wr (0+1))) (Q (.returned (vt true)) I F) (Q (.returned (vt (b==(wr ((wr (0+1))+1))))) I F)) (It (a==5) (It (b==0) (Q (.returned (vt true)) I F) (Q (.returned (vt (b==(wr (0+1))))) I F)) (It (a==1) (Q (.returned (vt (decide (b≥0)))) I F) (It (a==2) (Q (.returned (vt (decide (b≥0)))) I F) (It (a==3) (Q (.returned (vt (decide (b≥0)))) I F) (It (a==4) (Q (.returned (vt (decide (b≥0)))) I F) (Q (.returned (vt false)) I F)))))))
theorem iz.vc{d e f g i:Int}{j:Bs}{a:OA}{b c:Nat}{k:Int}{I:cc}{F:bZ}{Q:cd}  (h:iz.V .bool (IntKind.wrap .i64) d e f g i j a b c k I F Q):cf P 125 #[.agg #[.int .u8 d,.int .u8 e,.int .u8 f,.int .i64 g,.int .u8 i,.string j,.slice a b c,.int .i64 k]] I F Q :=
 tw (A:=(an [3000,4000,5000,6000,7000,8000,10003] [] iW)) [] func125 h
def mh.V(ka:Nat→Int→Int→Int→Int→Int→Bs→Nat×Obj)(i:Nat→Nat×Obj)(nV:Int→Int→Int→Int→Int→Bs→OA→Nat→Nat→Int→Value)(nO:Int→Int→Int→Int→Int→Bs→OA→Nat→Nat→Int→Obj)(nL:Int→Int→Int→Int→Int→Bs→OA→Nat→Nat→Int→List Value)(vb vi:Int→Value)(vs:Bs→Value)(vt:Bool→Value)(h k w au n:Int)(ar:Bs)(y:OA)(l aE:Nat)(aH:Int)(I:cc)(F:bZ)(Q:cd)(Inv4:Int→Bool→Int→Int→Int→Int→Int→Bs→cc→bZ→Prop)(Inv70:Int→Nat→cc→bZ→Prop):Prop:=∀j:Nat,∀g:Nat,((It (h==1) (cE P 125 #[nV h k w au n ar y l aE aH] I ((i j)::(ka g h 0 w au 0 (⟨#[]⟩:Bs))::·) F vt fun r I1 F1=>Inv4 0 r h 0 w au 0 (⟨#[]⟩:Bs) I1 F1) (It (h==2) (cE P 126 #[vs ar] I ((i j)::(ka g h 0 0 0 0 ar)::·) F vt fun r1 I2 F2=>Inv4 0 r1 h 0 0 0 0 ar I2 F2) (It (h==3) (Dt (n≥1) (Dt (n≤3) (Inv4 0 true h 0 0 0 n (⟨#[]⟩:Bs) I F) (It (h==3) (Inv4 0 (decide (n≤6)) h 0 0 0 n (⟨#[]⟩:Bs) I F) (Inv4 0 false h 0 0 0 n (⟨#[]⟩:Bs) I F))) (Inv4 0 false h 0 0 0 n (⟨#[]⟩:Bs) I F)) (It (h==4) (Dt (n≥1) (Dt (n≤3) (Inv4 0 true h 0 0 0 n (⟨#[]⟩:Bs) I F) (It (h==3) (Inv4 0 (decide (n≤6)) h 0 0 0 n (⟨#[]⟩:Bs) I F) (Inv4 0 false h 0 0 0 n (⟨#[]⟩:Bs) I F))) (Inv4 0 false h 0 0 0 n (⟨#[]⟩:Bs) I F)) (It (h==5) (It (k==1) (Inv4 1 true h k 0 0 0 (⟨#[]⟩:Bs) I F) (Inv4 1 (k==2) h k 0 0 0 (⟨#[]⟩:Bs) I F)) (It (h==6) (Dt (6≤k) (Inv4 2 (decide (k≤18)) h k 0 0 0 (⟨#[]⟩:Bs) I F) (Inv4 2 false h k 0 0 0 (⟨#[]⟩:Bs) I F)) (It (h==7) (Inv4 3 true h 0 0 0 0 (⟨#[]⟩:Bs) I F) (It (h==8) (It (k==3) (Dt (3≤k) (Inv4 1 (decide (k≤5)) h k 0 0 0 (⟨#[]⟩:Bs) I F) (Inv4 1 false h k 0 0 0 (⟨#[]⟩:Bs) I F)) (Dt (3≤k) (Inv4 2 (decide (k≤5)) h k 0 0 0 (⟨#[]⟩:Bs) I F) (Inv4 2 false h k 0 0 0 (⟨#[]⟩:Bs) I F))) (It (h==9) (Dt (1≤w) (Inv4 1 (decide (w≤4)) h 0 w 0 0 (⟨#[]⟩:Bs) I F) (Inv4 1 false h 0 w 0 0 (⟨#[]⟩:Bs) I F)) (Inv4 0 false h 0 0 0 0 (⟨#[]⟩:Bs) I F)))))))))))∧∀(aF:Int) (is:Bool) (a b c d e:Int) (f:Bs) (I3:cc) (F3:bZ),cc.le I I3→Inv4 aF is a b c d e f I3 F3→(It is (∃(aI aJ aK aL aM:Int) (aN:Bs),(cf P 127 #[nV h k w au n ar y l aE aH] I3 ((i j)::(ka g a b c d e f)::F3) fun e3 I4 G3=>e3=.returned (.agg #[vb aI,vb aJ,vb aK,vi aL,vb aM,vs aN])∧List.Perm G3 ((i j)::(ka g a b c d e f)::F3))∧∃q:Bool,cS P .eql 199 (.tmp 113) (.tmp 115) (.agg #[vb a,vb b,vb c,vi d,vb e,vs f]) (.agg #[vb aI,vb aJ,vb aK,vi aL,vb aM,vs aN]) q∧(It q (cf P 98 (#[vt ((l:Int)==aF),vi 120]) I3 ((i j)::(ka g a b c d e f)::F3) fun e4 I5 G4=>((e4=.returned (.tuple #[])∧∃F4:bZ,List.Perm G4 ((i j)::(ka g a b c d e f)::F4)∧(∃m:Nat,Inv70 0 m I5 F4)∧∀(x:Int) (m1:Nat) (I6:cc) (F5:bZ),cc.le I5 I6→Inv70 x m1 I6 F5→(Dt (x<(l:Int)) ((0≤x∧x<(l:Int))∧∃ad:Addr,y=some ad∧∃(av aw ax ay az:Int) (aA:Bs) (z:OA) (aa ab:Nat) (aB:Int),Rd I6 ((i j)::(ka g a b c d e f)::F5) (ad.add (Int.toNat x*8)) (nL av aw ax ay az aA z aa ab aB)∧∀aG:Nat,cf P 97 #[nV av aw ax ay az aA z aa ab aB] I6 ((i j)::(ka g a b c d e f)::(aG,nO av aw ax ay az aA z aa ab aB)::F5) fun e5 I7 G5=>((e5=.returned (.tuple #[])∧∃F6:bZ,List.Perm G5 ((i j)::(ka g a b c d e f)::(aG,nO av aw ax ay az aA z aa ab aB)::F6)∧(∃m2:Nat,m2<m1∧Inv70 (IntKind.wrap .i64 (x+1)) m2 I7 F6))∨(∃ch:List PanicEntry,e5=.panicked ch∧∃F7:bZ,List.Perm G5 ((i j)::(ka g a b c d e f)::(aG,nO av aw ax ay az aA z aa ab aB)::F7)∧Q (.panicked ch) I7 F7))) (Q (.returned (.tuple #[])) I6 F5)))∨(∃aO:List PanicEntry,e4=.panicked aO∧∃F8:bZ,List.Perm G4 ((i j)::(ka g a b c d e f)::F8)∧Q (.panicked aO) I5 F8))) (cf P 98 #[vt false,vi 120] I3 ((i j)::(ka g a b c d e f)::F3) fun e6 I8 G6=>((e6=.returned (.tuple #[])∧∃F9:bZ,List.Perm G6 ((i j)::(ka g a b c d e f)::F9)∧(∃m3:Nat,Inv70 0 m3 I8 F9)∧∀(x1:Int) (m4:Nat) (I9:cc) (F10:bZ),cc.le I8 I9→Inv70 x1 m4 I9 F10→(Dt (x1<(l:Int)) ((0≤x1∧x1<(l:Int))∧∃aP:Addr,y=some aP∧∃(ac ae af ag ah:Int) (ai:Bs) (o:OA) (p s:Nat) (aj:Int),Rd I9 ((i j)::(ka g a b c d e f)::F10) (aP.add (Int.toNat x1*8)) (nL ac ae af ag ah ai o p s aj)∧∀aC:Nat,cf P 97 #[nV ac ae af ag ah ai o p s aj] I9 ((i j)::(ka g a b c d e f)::(aC,nO ac ae af ag ah ai o p s aj)::F10) fun e7 I10 G7=>((e7=.returned (.tuple #[])∧∃F11:bZ,List.Perm G7 ((i j)::(ka g a b c d e f)::(aC,nO ac ae af ag ah ai o p s aj)::F11)∧(∃m5:Nat,m5<m4∧Inv70 (IntKind.wrap .i64 (x1+1)) m5 I10 F11))∨(∃aQ:List PanicEntry,e7=.panicked aQ∧∃F12:bZ,List.Perm G7 ((i j)::(ka g a b c d e f)::(aC,nO ac ae af ag ah ai o p s aj)::F12)∧Q (.panicked aQ) I10 F12))) (Q (.returned (.tuple #[])) I9 F10)))∨(∃aR:List PanicEntry,e6=.panicked aR∧∃F13:bZ,List.Perm G6 ((i j)::(ka g a b c d e f)::F13)∧Q (.panicked aR) I8 F13))))) (cf P 98 #[vt false,vi 120] I3 ((i j)::(ka g a b c d e f)::F3) fun e8 I11 G8=>((e8=.returned (.tuple #[])∧∃F14:bZ,List.Perm G8 ((i j)::(ka g a b c d e f)::F14)∧(∃m6:Nat,Inv70 0 m6 I11 F14)∧∀(x2:Int) (m7:Nat) (I12:cc) (F15:bZ),cc.le I11 I12→Inv70 x2 m7 I12 F15→(Dt (x2<(l:Int)) ((0≤x2∧x2<(l:Int))∧∃aS:Addr,y=some aS∧∃(ak al am an ao:Int) (ap:Bs) (t:OA) (u v:Nat) (aq:Int),Rd I12 ((i j)::(ka g a b c d e f)::F15) (aS.add (Int.toNat x2*8)) (nL ak al am an ao ap t u v aq)∧∀aD:Nat,cf P 97 #[nV ak al am an ao ap t u v aq] I12 ((i j)::(ka g a b c d e f)::(aD,nO ak al am an ao ap t u v aq)::F15) fun e9 I13 G9=>((e9=.returned (.tuple #[])∧∃F16:bZ,List.Perm G9 ((i j)::(ka g a b c d e f)::(aD,nO ak al am an ao ap t u v aq)::F16)∧(∃m8:Nat,m8<m7∧Inv70 (IntKind.wrap .i64 (x2+1)) m8 I13 F16))∨(∃aT:List PanicEntry,e9=.panicked aT∧∃F17:bZ,List.Perm G9 ((i j)::(ka g a b c d e f)::(aD,nO ak al am an ao ap t u v aq)::F17)∧Q (.panicked aT) I13 F17))) (Q (.returned (.tuple #[])) I12 F15)))∨(∃aU:List PanicEntry,e8=.panicked aU∧∃F18:bZ,List.Perm G8 ((i j)::(ka g a b c d e f)::F18)∧Q (.panicked aU) I11 F18))))
theorem mh.vc{p r u v w:Int}{x:Bs}{g:OA}{i j:Nat}{y:Int}{I:cc}{F:bZ}{Q:cd}(Inv4:Int→Bool→Int→Int→Int→Int→Int→Bs→cc→bZ→Prop)(Inv70:Int→Nat→cc→bZ→Prop)(h:mh.V (fun W a b c d e f=>(W,Obj.cells #[.int .u8 a,.int .u8 b,.int .u8 c,.int .i64 d,.int .u8 e,.string f] 199 (0,0))) (fun b=>(b,Obj.cells #[.int .u8 p,.int .u8 r,.int .u8 u,.int .i64 v,.int .u8 w,.string x,.slice g i j,.int .i64 y] 28 (0,0))) (fun k o t n f s a l c q=>.agg #[.int .u8 k,.int .u8 o,.int .u8 t,.int .i64 n,.int .u8 f,.string s,.slice a l c,.int .i64 q]) (fun k o t n f s a l c q=>.cells #[.int .u8 k,.int .u8 o,.int .u8 t,.int .i64 n,.int .u8 f,.string s,.slice a l c,.int .i64 q] 28 (0,0)) (fun k o t n f s a l c q=>[.int .u8 k,.int .u8 o,.int .u8 t,.int .i64 n,.int .u8 f,.string s,.slice a l c,.int .i64 q]) (.int .u8) (.int .i64) .string .bool p r u v w x g i j y I F Q Inv4 Inv70):cf P 97 #[.agg #[.int .u8 p,.int .u8 r,.int .u8 u,.int .i64 v,.int .u8 w,.string x,.slice g i j,.int .i64 y]] I F Q :=
 tw (A:=(cQ [4000,7000,10000,11000,13002,13006,13010,14000,16002,17000,19002,20000,22000,24002,26002,27000,29002,30000,30005,32000] [97,98] [97,98,125,126,127] iW [(4,⟨[(3,(.int .i64)),(4,.bool)],[(1,[(.int .u8),(.int .u8),(.int .u8),(.int .i64),(.int .u8),.str])],fun _ _ _ vs m I F=>match vs with | [.int _ y0,.bool y1,.int _ y2,.int _ y3,.int _ y4,.int _ y5,.int _ y6,.string y7]=>Inv4 y0 y1 y2 y3 y4 y5 y6 y7 I F | _=>False,[],[]⟩),(70,⟨[(129,(.int .i64))],[],fun _ _ _ vs m I F=>match vs with | [.int _ y0]=>Inv70 y0 m I F | _=>False,[],[]⟩)] [] [] [(5,5,[1])] [] [] [(5,6),(30,14)])) [97,98,125,126,127] func97 h
def mi.V(a:Nat→Nat×Obj)(nV:Int→Int→Int→Int→Int→Bs→OA→Nat→Nat→Int→Value)(f g h i j:Int)(k:Bs)(c:OA)(d e:Nat)(l:Int)(I:cc)(F:bZ)(Q:cd)  : Prop:=∀b:Nat,cf P 97 #[nV f g h i j k c d e l] I ((a b)::F) fun e1 I1 G1=>((e1=.returned (.tuple #[])∧∃F1:bZ,List.Perm G1 ((a b)::F1)∧cE P 99 #[nV f g h i j k c d e l] I1 ((a b)::·) F1 (.int .i64) fun r I2 F2=>cf P 98 (#[.bool (decide (r≤24)),.int .i64 122]) I2 ((a b)::F2) fun e3 I3 G3=>((e3=.returned (.tuple #[])∧∃F3:bZ,List.Perm G3 ((a b)::F3)∧Q (.returned (.tuple #[])) I3 F3)∨(∃ch:List PanicEntry,e3=.panicked ch∧∃F4:bZ,List.Perm G3 ((a b)::F4)∧Q (.panicked ch) I3 F4)))∨(∃m:List PanicEntry,e1=.panicked m∧∃F5:bZ,List.Perm G1 ((a b)::F5)∧Q (.panicked m) I1 F5))
theorem mi.vc{i j m p r:Int}{u:Bs}{d:OA}{e g:Nat}{v:Int}{I:cc}{F:bZ}{Q:cd}  (h:mi.V (fun b=>(b,Obj.cells #[.int .u8 i,.int .u8 j,.int .u8 m,.int .i64 p,.int .u8 r,.string u,.slice d e g,.int .i64 v] 28 (0,0))) (fun k o t n f s a l c q=>.agg #[.int .u8 k,.int .u8 o,.int .u8 t,.int .i64 n,.int .u8 f,.string s,.slice a l c,.int .i64 q]) i j m p r u d e g v I F Q):cf P 59 #[.agg #[.int .u8 i,.int .u8 j,.int .u8 m,.int .i64 p,.int .u8 r,.string u,.slice d e g,.int .i64 v]] I F Q :=
 tw (A:=(cQ [] [97,98] [97,98,99] iW [] [] [] [] [] [] [])) [97,98,99] func59 h
def gp.V(nO:Int→Int→Int→Int→Int→Bs→OA→Nat→Nat→Int→Obj)(o p q s t:Int)(u:Bs)(e:OA)(f g:Nat)(v:Int)(I:cc)(F:bZ)(Q:cd)  : Prop:=∀d:Nat,cf P 57 (#[.func (.func 58) #[] #[.pointer (some ⟨d,0,none⟩)]]) I ((d,nO o p q s t u e f g v)::F) fun e1 I1 G1=>∃(r:Int),e1=.returned (.int .i64 r)∧∃(h i j k l:Int) (m:Bs) (a:OA) (b c:Nat) (n:Int),∃F1:bZ,List.Perm G1 ((d,nO h i j k l m a b c n)::F1)∧Q (.returned (.int .i64 r)) I1 (F1)
theorem gp.vc{g i j m p:Int}{r:Bs}{b:OA}{d e:Nat}{u:Int}{I:cc}{F:bZ}{Q:cd}  (h:gp.V (fun k o t n f s a l c q=>.cells #[.int .u8 k,.int .u8 o,.int .u8 t,.int .i64 n,.int .u8 f,.string s,.slice a l c,.int .i64 q] 28 (0,0)) g i j m p r b d e u I F Q):cf P 31 #[.agg #[.int .u8 g,.int .u8 i,.int .u8 j,.int .i64 m,.int .u8 p,.string r,.slice b d e,.int .i64 u]] I F Q :=
 tw (A:=(an [] [57] iW)) [57] func31 h
def fe.V(vb vi:Int→Value)(c:Addr)(I:cc)(F:bZ)(Q:cd)  : Prop:=∃(e f g h i:Int) (j:Bs) (a:OA) (b d:Nat) (k:Int),Rd I F c [vb e,vb f,vb g,vi h,vb i,.string j,.slice a b d,vi k]∧cf P 59 #[.agg #[vb e,vb f,vb g,vi h,vb i,.string j,.slice a b d,vi k]] I F fun e1 I1 G1=>((e1=.returned (.tuple #[])∧∃F1:bZ,List.Perm G1 F1∧Q (.returned (.tuple #[])) I1 F1)∨(∃ch:List PanicEntry,e1=.panicked ch∧∃F2:bZ,List.Perm G1 F2∧Q (.panicked ch) I1 F2))
theorem fe.vc{c:Addr}{I:cc}{F:bZ}{Q:cd}  (h:fe.V (.int .u8) (.int .i64) c I F Q):cf P 58 #[.pointer (some c)] I F Q :=
 tw (A:=(cQ [] [59] [59] iW [] [] [] [] [] [] [])) [59] func58 h
def kC.V(vi:Int→Value)(b a f g h:Int)(i:Bs)(c:OA)(d e:Nat)(j:Int)(I:cc)(F:bZ)(Q:cd)  : Prop:=∀k:Nat,(It (b==7) (Q (.returned (vi 1)) I F) (It (b==5) (Q (.returned (vi 7)) I F) (It (b==6) (It (a==18) (Q (.returned (vi 2)) I F) (It (a==17) (Q (.returned (vi 3)) I F) (Dt (a≥11) (Q (.returned (vi 4)) I F) (Dt (a≥8) (Q (.returned (vi 6)) I F) (Q (.returned (vi 5)) I F))))) (Q (.returned (vi 8)) I F))))
theorem kC.vc{d e f g i:Int}{j:Bs}{a:OA}{b c:Nat}{k:Int}{I:cc}{F:bZ}{Q:cd}  (h:kC.V (.int .i64) d e f g i j a b c k I F Q):cf P 128 #[.agg #[.int .u8 d,.int .u8 e,.int .u8 f,.int .i64 g,.int .u8 i,.string j,.slice a b c,.int .i64 k]] I F Q :=
 tw (A:=(an [2000,4000,6000,8001,10001,12001,14001] [] iW)) [] func128 h
def kD.V(nO:Int→Int→Int→Int→Int→Bs→OA→Nat→Nat→Int→Obj)(vb vi:Int→Value)(e f g h i:Int)(j:Bs)(a:OA)(b c:Nat)(k d:Int)(I:cc)(F:bZ)(Q:cd)  : Prop:=∀l:Nat,cE P 128 #[.agg #[vb e,vb f,vb g,vi h,vb i,.string j,.slice a b c,vi k]] I ((l,nO e f g h i j a b c k)::·) F vi fun r I1 F1=>(It (r==1) (It (d==0) (Q (.returned (vi 2)) I1 F1) (It (r==4) (Q (.returned (vi 5)) I1 F1) (It (r==7) (Q (.returned (vi 7)) I1 F1) (It (r==1) (Q (.returned (vi 1)) I1 F1) (It (r==8) (Q (.returned (vi 1)) I1 F1) (Q (.returned (vi (IntKind.wrap .i64 (r+d)))) I1 F1)))))) (It (r==4) (Q (.returned (vi 5)) I1 F1) (It (r==7) (Q (.returned (vi 7)) I1 F1) (It (r==1) (Q (.returned (vi 1)) I1 F1) (It (r==8) (Q (.returned (vi 1)) I1 F1) (Q (.returned (vi (IntKind.wrap .i64 (r+d)))) I1 F1))))))
theorem kD.vc{g i j m p:Int}{r:Bs}{b:OA}{d e:Nat}{u v:Int}{I:cc}{F:bZ}{Q:cd}  (h:kD.V (fun k o t n f s a l c q=>.cells #[.int .u8 k,.int .u8 o,.int .u8 t,.int .i64 n,.int .u8 f,.string s,.slice a l c,.int .i64 q] 28 (0,0)) (.int .u8) (.int .i64) g i j m p r b d e u v I F Q):cf P 129 #[.agg #[.int .u8 g,.int .u8 i,.int .u8 j,.int .i64 m,.int .u8 p,.string r,.slice b d e,.int .i64 u],.int .i64 v] I F Q :=
 tw (A:=(an [3001,3004,5001,7001,9001,9004] [128] iW)) [128] func129 h
def kE.V(o:Nat→Nat×Obj)(nV:Int→Int→Int→Int→Int→Bs→OA→Nat→Nat→Int→Value)(nO:Int→Int→Int→Int→Int→Bs→OA→Nat→Nat→Int→Obj)(vb vi:Int→Value)(wr:Int→Int)(e u v w y:Int)(z:Bs)(s:OA)(n t:Nat)(aa:Int)(I:cc)(F:bZ)(Q:cd)(Inv8:Int→Int→Nat→cc→bZ→Prop):Prop:=∀p:Nat,(∃m:Nat,Inv8 0 0 m I F)∧∀(a x:Int) (m1:Nat) (I1:cc) (F1:bZ),cc.le I I1→Inv8 a x m1 I1 F1→(Dt (x<(n:Int)) ((0≤x∧x<(n:Int))∧∃ad:Addr,s=some ad∧∃(f g h i j:Int) (k:Bs) (b:OA) (c d:Nat) (l:Int),Rd I1 ((o p)::F1) (ad.add (Int.toNat x*8)) [vb f,vb g,vb h,vi i,vb j,.string k,.slice b c d,vi l]∧∀q:Nat,cE P 99 #[nV f g h i j k b c d l] I1 ((o p)::(q,nO f g h i j k b c d l)::·) F1 vi fun r I2 F2=>∃(r1:Int),(cf P 128 #[nV f g h i j k b c d l] I2 ((o p)::(q,nO f g h i j k b c d l)::F2) fun e2 I3 G2=>e2=.returned (vi r1)∧List.Perm G2 ((o p)::(q,nO f g h i j k b c d l)::F2))∧∃(r2:Int),(cf P 129 #[nV e u v w y z s n t aa,vi x] I2 ((o p)::(q,nO f g h i j k b c d l)::F2) fun e3 I4 G3=>e3=.returned (vi r2)∧List.Perm G3 ((o p)::(q,nO f g h i j k b c d l)::F2))∧(Dt (r1<r2) (It (e==6) (∃m2:Nat,m2<m1∧Inv8 (if (wr (r+1))>a then wr (r+1) else a) (wr (x+1)) m2 I2 F2) (It (e==7) (∃m3:Nat,m3<m1∧Inv8 (if (wr ((wr (r+1))+(if 1<x then 1 else x)))>a then wr ((wr (r+1))+(if 1<x then 1 else x)) else a) (wr (x+1)) m3 I2 F2) (∃m4:Nat,m4<m1∧Inv8 (if (wr ((wr (r+1))+1))>a then wr ((wr (r+1))+1) else a) (wr (x+1)) m4 I2 F2))) (It (e==6) (∃m5:Nat,m5<m1∧Inv8 (if r>a then r else a) (wr (x+1)) m5 I2 F2) (It (e==7) (∃m6:Nat,m6<m1∧Inv8 (if (wr (r+(if 1<x then 1 else x)))>a then wr (r+(if 1<x then 1 else x)) else a) (wr (x+1)) m6 I2 F2) (∃m7:Nat,m7<m1∧Inv8 (if (wr (r+1))>a then wr (r+1) else a) (wr (x+1)) m7 I2 F2))))) (Q (.returned (vi a)) I1 F1))
theorem kE.vc{i j p r u:Int}{v:Bs}{d:OA}{e g:Nat}{w:Int}{I:cc}{F:bZ}{Q:cd}(Inv8:Int→Int→Nat→cc→bZ→Prop)(h:kE.V (fun b=>(b,Obj.cells #[.int .u8 i,.int .u8 j,.int .u8 p,.int .i64 r,.int .u8 u,.string v,.slice d e g,.int .i64 w] 28 (0,0))) (fun k o t n f s a l c q=>.agg #[.int .u8 k,.int .u8 o,.int .u8 t,.int .i64 n,.int .u8 f,.string s,.slice a l c,.int .i64 q]) (fun k o t n f s a l c q=>.cells #[.int .u8 k,.int .u8 o,.int .u8 t,.int .i64 n,.int .u8 f,.string s,.slice a l c,.int .i64 q] 28 (0,0)) (.int .u8) (.int .i64) (IntKind.wrap .i64) i j p r u v d e g w I F Q Inv8):cf P 99 #[.agg #[.int .u8 i,.int .u8 j,.int .u8 p,.int .i64 r,.int .u8 u,.string v,.slice d e g,.int .i64 w]] I F Q :=
 tw (A:=(cQ [3000,6005,10000,11000] [] [99,128,129] iW [(8,⟨[(3,(.int .i64)),(10,(.int .i64))],[],fun _ _ _ vs m I F=>match vs with | [.int _ y0,.int _ y1]=>Inv8 y0 y1 m I F | _=>False,[],[]⟩)] [] [] [] [] [] [])) [99,128,129] func99 h
def js.V(b:Nat→Nat×Obj)(vi:Int→Value)(i:Fn)(e f:Array Value)(I:cc)(F:bZ)(Q:cd)  : Prop:=∀a:Nat,oK P (.func i e f) [] I ((b a)::F) fun e1 I1 G1=>((e1=.returned (.tuple #[])∧∃F1:bZ,List.Perm G1 ((b a)::F1)∧sD P 96 [.pointer (some ⟨a,0,none⟩)] .returning I1 ((b a)::F1) fun e2 u I2 G2=>∃v:Value,e2=.returned v∧∃(d:Int),∃F2:bZ,List.Perm G2 ((a,Obj.cells #[vi d] 47 (0,0))::F2)∧((settle u=.returning∧Q (.returned (vi d)) I2 F2)∨(∃ch:List PanicEntry,settle u=.panicking ch∧Q (.panicked ch) I2 F2)))∨(∃g:List PanicEntry,e1=.panicked g∧∃F3:bZ,List.Perm G1 ((b a)::F3)∧sD P 96 [.pointer (some ⟨a,0,none⟩)] (.panicking g) I1 ((b a)::F3) fun e3 u1 I3 G3=>∃v1:Value,e3=.returned v1∧∃(c:Int),∃F4:bZ,List.Perm G3 ((a,Obj.cells #[vi c] 47 (0,0))::F4)∧((settle u1=.returning∧Q (.returned (vi c)) I3 F4)∨(∃h:List PanicEntry,settle u1=.panicking h∧Q (.panicked h) I3 F4))))
theorem js.vc{d:Fn}{a c:Array Value}{I:cc}{F:bZ}{Q:cd}  (h:js.V (fun b=>(b,Obj.cells #[.int .i64 0] 47 (0,0))) (.int .i64) d a c I F Q):cf P 57 #[.func d a c] I F Q :=
 tw (A:=(cQ [] [0] [96] iW [] [] [] [] [2001] [] [])) [96] func57 h
end Go.Lx
namespace Go.Lx
open Go.Vc
def kG(e:Int):List PanicEntry:=[{ v:=.iface 155 (.agg #[.int .i64 e]),recovered:=false }]
def pZ(b:Bool)(err:Int)(F:bZ)(e:Ending)(I:cc)(G:bZ):Prop:=e=(if b then .returned (.tuple #[]) else .panicked (kG err))∧G=F
theorem j3(b:Bool)(err:Int)(I:cc)(F:bZ):cf P 98 #[.bool b,.int .i64 err] I F (pZ b err F):=by
 refine mg.vc ?_
 unfold mg.V
 refine⟨fun h=>⟨?_,rfl⟩,fun h=>⟨?_,rfl⟩⟩
 ·rw[if_neg (by simpa using h)];rfl
 ·rw[if_pos (by simpa using h)]
theorem ry(t:Nd)(I:cc)(F:bZ):cf P 127 #[t.v] I F (gE (.agg #[.int .u8 t.kind,.int .u8 t.oper,.int .u8 t.cq,.int .i64 t.n,.int .u8 t.field,.string t.name]) F):=by
 refine kB.vc ?_
 unfold kB.V
 exact fun b_n b=>⟨rfl,rfl⟩
theorem sE(t:Nd)(I:cc)(F:bZ):cf P 125 #[t.v] I F (gE (.bool t.px.zw) F):=by
 refine iz.vc ?_
 unfold iz.V
 intro b_n
 unfold Px.zw
 rw[Nd.jL,Nd.zu]
 have w1:IntKind.wrap .i64 (0+1)=1:=by decide
 have w2:IntKind.wrap .i64 (1+1)=2:=by decide
 rw[w1,w2]
 refine⟨fun h=>⟨fun h'=>⟨?_,rfl⟩,fun h'=>⟨?_,rfl⟩⟩,fun h1=>⟨fun h=>⟨fun h'=>⟨?_,rfl⟩,fun h'=>⟨?_,rfl⟩⟩,fun h2=>⟨fun h=>⟨?_,rfl⟩,fun h3=>⟨fun h=>⟨?_,rfl⟩,fun h4=>⟨fun h=>⟨?_,rfl⟩,fun h5=>⟨fun h=>⟨?_,rfl⟩,fun h6=>⟨?_,rfl⟩⟩⟩⟩⟩⟩⟩
 ·have h:t.cq=6:=by simpa using h
  have h':t.n=1:=by simpa using h'
  simp[h,h']
 ·have h:t.cq=6:=by simpa using h
  have h':t.n≠1:=by simpa using h'
  congr 2;rw[if_pos h,Bool.eq_iff_iff];simp[h']
 ·have h:t.cq=5:=by simpa using h
  have h':t.n=0:=by simpa using h'
  simp[h,h']
 ·have h:t.cq=5:=by simpa using h
  have h':t.n≠0:=by simpa using h'
  congr 2;rw[if_neg (by omega),if_pos h,Bool.eq_iff_iff];simp[h']
 ·have h:t.cq=1:=by simpa using h
  simp[h]
 ·have h:t.cq=2:=by simpa using h
  simp[h]
 ·have h:t.cq=3:=by simpa using h
  simp[h]
 ·have h:t.cq=4:=by simpa using h
  simp[h]
 ·have e6:t.cq≠6:=by simpa using h1
  have e5:t.cq≠5:=by simpa using h2
  have e1:t.cq≠1:=by simpa using h3
  have e2:t.cq≠2:=by simpa using h4
  have e3:t.cq≠3:=by simpa using h5
  have e4:t.cq≠4:=by simpa using h6
  rw[if_neg e6,if_neg e5,if_neg (by omega)]
theorem pL(t:Nd)(I:cc)(F:bZ):cf P 128 #[t.v] I F (gE (.int .i64 t.px.level) F):=by
 refine kC.vc ?_
 unfold kC.V
 intro b_n
 unfold Px.level
 rw[Nd.cT,Nd.iw]
 refine⟨fun h=>⟨?_,rfl⟩,fun h1=>⟨fun h=>⟨?_,rfl⟩,fun h2=>⟨fun h=>⟨fun h'=>⟨?_,rfl⟩,fun h3=>⟨fun h'=>⟨?_,rfl⟩,fun h4=>⟨fun h'=>⟨?_,rfl⟩,fun h5=>⟨fun h'=>⟨?_,rfl⟩,fun h6=>⟨?_,rfl⟩⟩⟩⟩⟩,fun h=>⟨?_,rfl⟩⟩⟩⟩
 all_goals (try simp only[decide_eq_true_eq,decide_eq_false_iff_not,beq_iff_eq,beq_eq_false_iff_ne] at *)
 all_goals (congr 2;(repeat' split)<;>first | rfl | omega)
theorem xz:P.underlying 199=some (.struct (P.fieldsOf 199)):=by kernel_rfl
theorem xA:P.stoodInHeld 199=false:=by kernel_rfl
theorem xB:P.eqGuardType P.depth 199=false:=by kernel_rfl
def DK(k o ty n f:Int)(s:ByteArray)(k' o' ty' n' f':Int)(s':ByteArray):Bool:=k==k'&&(o==o'&&(ty==ty'&&(n==n'&&(f==f'&&(s.toList==s'.toList&&true)))))
theorem zG(k o ty n f:Int)(s:ByteArray)(k' o' ty' n' f':Int)(s':ByteArray) :
  oS P #[.int .u8 k,.int .u8 o,.int .u8 ty,.int .i64 n,.int .u8 f,.string s] #[.int .u8 k',.int .u8 o',.int .u8 ty',.int .i64 n',.int .u8 f',.string s'] (P.fieldsOf 199).toList=some (DK k o ty n f s k' o' ty' n' f' s'):=by kernel_rfl
theorem vE(k o ty n f:Int)(s:ByteArray)(k' o' ty' n' f':Int)(s':ByteArray){x y:Operand} :
  cS P .eql 199 x y (.agg #[.int .u8 k,.int .u8 o,.int .u8 ty,.int .i64 n,.int .u8 f,.string s]) (.agg #[.int .u8 k',.int .u8 o',.int .u8 ty',.int .i64 n',.int .u8 f',.string s']) (DK k o ty n f s k' o' ty' n' f' s') :=
 rj xz xA xB (zG ..)
theorem pZ.use{Pr:Program}{f:FuncId}{args:Array Value}{I:cc}{F:bZ}{b:Bool}{err:Int}{Q:Ending→cc→bZ→Prop}(h:cf Pr f args I F (pZ b err F))
  (k1:b=true→∀I',cc.le I I'→Q (.returned (.tuple #[])) I' F) (k2:b=false→∀I',cc.le I I'→Q (.panicked (kG err)) I' F):cf Pr f args I F Q :=
 h.mono fun e I' G hl ⟨he,hG⟩=>by
  subst hG
  cases hb:b with
  | true=>rw[hb] at he;subst he;exact k1 hb I' hl
  | false=>rw[hb] at he;subst he;exact k2 hb I' hl
def tf(t:Nd)(kids:Int)(is:Bool)(k o ty n f:Int)(s:ByteArray):Bool:=is&&(DK k o ty n f s t.kind t.oper t.cq t.n t.field t.name&&decide (t.kids.length=kids.toNat))
theorem rz:∀(t:Nd),t.px.size≤4194304→∀(I:cc) (F:bZ),cy I F t→cf P 97 #[t.v] I F (pZ t.px.formed 120 F):=by
 refine Nd.ind fun t ih hs I F ht=>?_
 have hln:=ow hs
 refine mh.vc (fun kids is k o ty n f s I' F'=>tf t kids is k o ty n f s=t.px.eW∧0≤kids∧F'=F)
  (fun i m I' F'=>0≤i∧i≤t.kids.length∧m=(t.kids.length-i).toNat∧t.px.formed=Px.eu ((t.kids.drop i.toNat).map Nd.px)∧F'=F) ?_
 unfold mh.V
 intro b_n b_want
 refine⟨?_,fun kids is k o ty n f s I3 F3 hI3 ⟨hw,hk0,hF⟩=>?_⟩
 ·unfold tf DK Px.eW Px.oh Px.oj Px.arity
  simp only[Nd.cT,Nd.iw,Nd.jL,Nd.zu,Nd.jZ,Nd.gN,Nd.ia]
  have zb:∀x:Int,(0==x)=(x==0):=fun x=>by rw[Bool.eq_iff_iff];simp only[beq_iff_eq];omega
  have sb:∀s:ByteArray,((⟨#[]⟩:ByteArray).toList==s.toList)=(s.toList==[]):=fun s=>by rw[cN,Bool.eq_iff_iff];simp only[beq_iff_eq];exact eq_comm
  refine⟨fun h=>cf.ret (sE t I _) fun I1 hI1=>⟨_,rfl,F,.refl _, ?_,Int.le_refl 0,rfl⟩,fun h1=>⟨fun h=>cf.ret (td (t:=t.name) I _) fun I1 hI1=>⟨_,rfl,F,.refl _, ?_,Int.le_refl 0,rfl⟩,
   fun h2=>⟨fun h=>⟨fun h'=>⟨fun h''=>⟨?_,by decide,by trivial⟩,fun h''=>⟨fun h3'=>⟨?_,by decide,by trivial⟩,fun h3'=>⟨?_,by decide,by trivial⟩⟩⟩,fun h'=>⟨?_,by decide,by trivial⟩⟩,
   fun h3=>⟨fun h=>⟨fun h'=>⟨fun h''=>⟨?_,by decide,by trivial⟩,fun h''=>⟨fun h3'=>⟨?_,by decide,by trivial⟩,fun h3'=>⟨?_,by decide,by trivial⟩⟩⟩,fun h'=>⟨?_,by decide,by trivial⟩⟩,
   fun h4=>⟨fun h=>⟨fun h'=>⟨?_,by decide,by trivial⟩,fun h'=>⟨?_,by decide,by trivial⟩⟩,
   fun h5=>⟨fun h=>⟨fun h'=>⟨?_,by decide,by trivial⟩,fun h'=>⟨?_,by decide,by trivial⟩⟩,
   fun h6=>⟨fun h=>⟨?_,by decide,by trivial⟩,
   fun h7=>⟨fun h=>⟨fun h'=>⟨fun h''=>⟨?_,by decide,by trivial⟩,fun h''=>⟨?_,by decide,by trivial⟩⟩,fun h'=>⟨fun h''=>⟨?_,by decide,by trivial⟩,fun h''=>⟨?_,by decide,by trivial⟩⟩⟩,
   fun h8=>⟨fun h=>⟨fun h'=>⟨?_,by decide,by trivial⟩,fun h'=>⟨?_,by decide,by trivial⟩⟩,
   fun h9=>⟨?_,by decide,by trivial⟩⟩⟩⟩⟩⟩⟩⟩⟩⟩
  all_goals first
   | (simp only[beq_iff_eq] at h
      try simp only[decide_eq_true_eq,decide_eq_false_iff_not,beq_iff_eq,beq_eq_false_iff_ne] at h'
      try simp only[decide_eq_true_eq,decide_eq_false_iff_not,beq_iff_eq,beq_eq_false_iff_ne] at h''
      try simp only[decide_eq_true_eq,decide_eq_false_iff_not,beq_iff_eq,beq_eq_false_iff_ne] at h3'
      simp[*,Bool.and_assoc]
      done)
   | (exfalso
      simp only[decide_eq_true_eq,decide_eq_false_iff_not,beq_iff_eq,beq_eq_false_iff_ne] at *
      omega)
   | skip
  ·have h:t.kind=3:=by simpa using h
   have h':=of_decide_eq_true h'
   have h'':=of_decide_eq_true h''
   have:decide (1≤t.field∧t.field≤6)=true:=decide_eq_true (by omega)
   simp[h,this,zb,sb,Bool.and_assoc]
  ·have h:t.kind=5:=by simpa using h
   have h':t.oper≠1:=by simpa using h'
   have:decide (t.oper=1∨t.oper=2)=(t.oper==2):=by rw[Bool.eq_iff_iff];simp[h']
   simp[h,this,zb,sb,Bool.and_assoc]
  ·have e1:t.kind≠1:=by simpa using h1
   have e2:t.kind≠2:=by simpa using h2
   have e3:t.kind≠3:=by simpa using h3
   have e4:t.kind≠4:=by simpa using h4
   have e5:t.kind≠5:=by simpa using h5
   have e6:t.kind≠6:=by simpa using h6
   have e7:t.kind≠7:=by simpa using h7
   have e8:t.kind≠8:=by simpa using h8
   have e9:t.kind≠9:=by simpa using h9
   simp[e1,e2,e3,e4,e5,e6,e7,e8,e9]
 ·subst hF
  refine⟨fun his=>⟨_,_,_,_,_,_,(ry t I3 _).AR,_,vE k o ty n f s t.kind t.oper t.cq t.n t.field t.name,fun hq=>pZ.use (j3 _ 120 I3 _) (fun hb I5 hI5=>.inl ⟨rfl,F3,.refl _, ?_⟩) (fun hb I5 hI5=>.inr ⟨_,rfl,F3,.refl _, ?_,rfl⟩),
   fun hq=>pZ.use (j3 _ 120 I3 _) (fun hb I5 hI5=>by cases hb) (fun hb I5 hI5=>.inr ⟨_,rfl,F3,.refl _, ?_,rfl⟩)⟩,
   fun his=>pZ.use (j3 _ 120 I3 _) (fun hb I5 hI5=>by cases hb) (fun hb I5 hI5=>.inr ⟨_,rfl,F3,.refl _, ?_,rfl⟩)⟩
  ·have hone:t.px.eW=true:=by
    rw[←hw,tf,his,hq,Bool.true_and,Bool.true_and,decide_eq_true_iff]
    have:(t.kids.length:Int)=kids:=by simpa using hb
    omega
   refine⟨⟨_,by omega,by omega,rfl,by rw[Px.dK,hone,Nd.dX];rfl,rfl⟩,fun x m I6 F5 hI6 ⟨g0,g1,gm,gf,gF⟩=>⟨fun hlt=>?_,fun hlt=>⟨?_,gF⟩⟩⟩
   ·have hlt:=of_decide_eq_true hlt
    subst gF
    have ht1:cy I6 ((b_n,.cells t.enc.toArray 28 (0,0))::(b_want,.cells #[.int .u8 k,.int .u8 o,.int .u8 ty,.int .i64 n,.int .u8 f,.string s] 199 (0,0))::F5) t:=(ht.mono (cc.le_trans hI3 (cc.le_trans hI5 hI6)) fun _ h=>h).cons.cons
    obtain⟨ad,y,had,hy,hrd,hyo,hym⟩:=ht1.kids.at g0 hlt
    refine⟨⟨g0,hlt⟩,ad,had,_,_,_,_,_,_,_,_,_,_,hrd,fun b_k=>pZ.use (ih y hym (lD hym hs) I6 _ (hyo.mono (cc.le_refl _) fun z hz=>by
      rcases List.mem_cons.1 hz with hz | hz
      ·exact hz▸List.mem_cons_self ..
      ·rcases List.mem_cons.1 hz with hz | hz
       ·exact List.mem_cons_of_mem _ (hz▸List.mem_cons_self ..)
       ·exact List.mem_cons_of_mem _ (List.mem_cons_of_mem _ (List.mem_cons_of_mem _ hz))))
     (fun hb2 I7 hI7=>.inl ⟨rfl,F5,.refl _,(t.kids.length-(x+1)).toNat,by omega, ?_⟩) (fun hb2 I7 hI7=>.inr ⟨_,rfl,F5,.refl _, ?_,rfl⟩)⟩
    ·rw[dW (n:=x+1) (by omega)]
     refine⟨by omega,by omega,rfl, ?_,rfl⟩
     rw[gf,j2 hy,Px.eu,hb2,show (x+1).toNat=x.toNat+1 by omega];rfl
    ·rw[gf,j2 hy,Px.eu,hb2];rfl
   ·have hlt:=of_decide_eq_false hlt
    rw[gf,ov (by omega),Px.eu];rfl
  ·have hone:t.px.eW=false:=by
    rw[←hw,tf,decide_eq_false (fun e=>by
     have:(t.kids.length:Int)=kids:=by omega
     rw[this] at hb;simp at hb)];simp
   rw[Px.dK,hone];rfl
  ·have hone:t.px.eW=false:=by rw[←hw,tf,hq];simp
   rw[Px.dK,hone];rfl
  ·have hone:t.px.eW=false:=by rw[←hw,tf,his];rfl
   rw[Px.dK,hone];rfl
theorem zH(t:Nd)(hs:t.px.size≤1048576)(I:cc)(F:bZ)(ht:cy I F t):cf P 97 #[t.v] I F (pZ t.px.formed 120 F):=rz t (by omega) I F ht
theorem vG(x:Px):(x.kind=7∧x.level=1)∨(x.kind=5∧x.level=7)∨(x.kind=6∧2≤x.level∧x.level≤6)∨(x.kind≠5∧x.kind≠6∧x.kind≠7∧x.level=8):=by
 unfold Px.level;(repeat' split)<;>omega
theorem xC(t:Nd)(i:Int)(h0:0≤i)(h1:i≤4194304)(I:cc)(F:bZ):cf P 129 #[t.v,.int .i64 i] I F (gE (.int .i64 (t.px.asks i)) F):=by
 refine kD.vc ?_
 unfold kD.V
 intro b_n
 have hc:=vG t.px
 refine cf.ret (pL t I _) fun I1 hI1=>⟨_,rfl,F,.refl _, ?_⟩
 unfold Px.asks
 rw[Nd.cT] at hc ⊢
 refine⟨fun h=>⟨fun h'=>⟨?_,rfl⟩,fun h'=>⟨fun h2=>⟨?_,rfl⟩,fun h2=>⟨fun h3=>⟨?_,rfl⟩,fun h3=>⟨fun h4=>⟨?_,rfl⟩,fun h4=>⟨fun h5=>⟨?_,rfl⟩,fun h5=>⟨?_,rfl⟩⟩⟩⟩⟩⟩,
  fun h=>⟨fun h2=>⟨?_,rfl⟩,fun h2=>⟨fun h3=>⟨?_,rfl⟩,fun h3=>⟨fun h4=>⟨?_,rfl⟩,fun h4=>⟨fun h5=>⟨?_,rfl⟩,fun h5=>⟨?_,rfl⟩⟩⟩⟩⟩⟩
 all_goals (try simp only[decide_eq_true_eq,decide_eq_false_iff_not,beq_iff_eq,beq_eq_false_iff_ne] at *)
 all_goals (congr 2;(repeat' split)<;>first | rfl | omega | (rw[dW (by omega)]))
theorem ox:∀(t:Nd),t.px.size≤4194304→t.px.formed=true→∀(I:cc) (F:bZ),cy I F t→cf P 99 #[t.v] I F (gE (.int .i64 t.px.depth) F):=by
 refine Nd.ind fun t ih hs hf I F ht=>?_
 have hln:=ow hs
 refine kE.vc (fun most i m I' F'=>0≤i∧i≤t.kids.length∧m=(t.kids.length-i).toNat∧0≤most∧most≤16777216∧t.px.depth=Px.iV t.px i ((t.kids.drop i.toNat).map Nd.px) most∧F'=F) ?_
 unfold kE.V
 intro b_n
 refine⟨⟨_,by omega,by omega,rfl,by omega,by omega, ?_,rfl⟩,fun most i m I1 F1 hI ⟨g0,g1,gm,g2,g3,gf,gF⟩=>⟨fun hlt=>?_,fun hlt=>⟨?_,gF⟩⟩⟩
 ·rw[Px.vx,Nd.dX];rfl
 ·have hlt:=of_decide_eq_true hlt
  subst gF
  have ht1:cy I1 ((b_n,.cells t.enc.toArray 28 (0,0))::F1) t:=(ht.mono hI fun _ h=>h).cons
  obtain⟨ad,x,had,hx,hrd,hxo,hxm⟩:=ht1.kids.at g0 hlt
  have hxp:x.px∈t.px.kids:=by rw[Nd.dX];exact List.mem_map_of_mem hxm
  have hkd:=Px.vC hf (fun e=>by rw[e] at hxp;cases hxp)
  rw[Nd.cT] at hkd
  have hdr:=vD x.px
  have hsz:=lD hxm hs
  have hxo2:∀b_k:Nat,cy I1 ((b_n,.cells t.enc.toArray 28 (0,0))::(b_k,.cells x.enc.toArray 28 (0,0))::F1) x:=fun b_k=>hxo.mono (cc.le_refl _) fun z hz=>by
   rcases List.mem_cons.1 hz with hz | hz
   ·exact hz▸List.mem_cons_self ..
   ·exact List.mem_cons_of_mem _ (List.mem_cons_of_mem _ hz)
  refine⟨⟨g0,hlt⟩,ad,had,_,_,_,_,_,_,_,_,_,_,hrd,fun b_k=>cf.ret (ih x hxm hsz (Px.kA hf _ hxp) I1 _ (hxo2 b_k)) fun I2 hI2=>⟨_,rfl,F1,.refl _,
   _,(pL x I2 _).AR,_,(xC t i g0 (by omega) I2 _).AR, ?_⟩⟩
  have key:∀D:Int,D=x.px.depth+t.px.xp x.px i →
    (∃m2:Nat,m2<m∧(0≤IntKind.wrap .i64 (i+1)∧IntKind.wrap .i64 (i+1)≤t.kids.length∧m2=(t.kids.length-IntKind.wrap .i64 (i+1)).toNat∧0≤(if D>most then D else most)∧(if D>most then D else most)≤16777216 ∧
     t.px.depth=Px.iV t.px (IntKind.wrap .i64 (i+1)) ((t.kids.drop (IntKind.wrap .i64 (i+1)).toNat).map Nd.px) (if D>most then D else most)∧F1=F1)):=by
   intro D hD
   have har:=rv t.px x.px i
   rw[dW (n:=i+1) (by omega)]
   rw[j2 hx,Px.iV,←hD] at gf
   have hmx:(if D>most then D else most)=max most D:=by split<;>omega
   rw[hmx]
   refine⟨(t.kids.length-(i+1)).toNat,by omega,by omega,by omega,rfl,by omega,by omega, ?_,rfl⟩
   rw[gf,show (i+1).toNat=i.toNat+1 by omega]
  have e1:IntKind.wrap .i64 (x.px.depth+1)=x.px.depth+1:=dW (by omega)
  have e2:IntKind.wrap .i64 (x.px.depth+1+1)=x.px.depth+1+1:=dW (by omega)
  have em:(if 1<i then 1 else i)=if 0<i then (1:Int) else 0:=by (repeat' split)<;>omega
  have e3:IntKind.wrap .i64 (x.px.depth+(if 1<i then 1 else i))=x.px.depth+(if 1<i then 1 else i):=dW (by (repeat' split)<;>omega)
  have e4:IntKind.wrap .i64 (x.px.depth+1+(if 1<i then 1 else i))=x.px.depth+1+(if 1<i then 1 else i):=dW (by (repeat' split)<;>omega)
  rw[e1,e2,e3,e4]
  unfold Px.xp at key
  rw[Nd.cT] at key
  refine⟨fun hb=>⟨fun h=>key _ ?_,fun h1=>⟨fun h=>key _ ?_,fun h2=>key _ ?_⟩⟩,fun hb=>⟨fun h=>key _ ?_,fun h1=>⟨fun h=>key _ ?_,fun h2=>key _ ?_⟩⟩⟩
  all_goals clear key gf
  all_goals (simp only[decide_eq_true_eq,decide_eq_false_iff_not,beq_iff_eq,beq_eq_false_iff_ne] at *)
  all_goals ((repeat' split)<;>omega)
 ·have hlt:=of_decide_eq_false hlt
  rw[gf,ov (by omega),Px.iV]
theorem rA(t:Nd)(hs:t.px.size≤4194304)(I:cc)(F:bZ)(ht:cy I F t):cf P 59 #[t.v] I F fun e I' G=>e=(if t.px.dv=0 then .returned (.tuple #[]) else .panicked (kG t.px.dv))∧G=F:=by
 refine mi.vc ?_
 unfold mi.V
 intro b_n
 unfold Px.dv
 refine pZ.use (rz t hs I _ ht.cons) (fun hb I1 hI1=>.inl ⟨rfl,F,.refl _,cf.ret (ox t hs hb I1 _ (ht.mono hI1 fun _ h=>h).cons) fun I2 hI2=>⟨_,rfl,F,.refl _,
  pZ.use (j3 _ 122 I2 _) (fun h2 I3 hI3=>.inl ⟨rfl,F,.refl _, ?_,rfl⟩) (fun h2 I3 hI3=>.inr ⟨_,rfl,F,.refl _, ?_,rfl⟩)⟩⟩) (fun hb I1 hI1=>.inr ⟨_,rfl,F,.refl _, ?_,rfl⟩)
 ·have h2:=of_decide_eq_true h2
  rw[if_pos hb,show (if 24<t.px.depth then (122:Int) else 0)=0 from if_neg (by omega)];rfl
 ·have h2:=of_decide_eq_false h2
  rw[if_pos hb,show (if 24<t.px.depth then (122:Int) else 0)=122 from if_pos (by omega)];rfl
 ·rw[hb];rfl
theorem CK(t:Nd)(hs:t.px.size≤1048576)(hf:t.px.formed=true)(I:cc)(F:bZ)(ht:cy I F t):cf P 99 #[t.v] I F (gE (.int .i64 t.px.depth) F):=ox t (by omega) hf I F ht
theorem tg(t:Nd)(hs:t.px.size≤1048576)(I:cc)(F:bZ)(ht:cy I F t):cf P 59 #[t.v] I F fun e I' G=>e=(if t.px.dv=0 then .returned (.tuple #[]) else .panicked (kG t.px.dv))∧G=F:=rA t (by omega) I F ht
theorem vH{t:Nd}(hs:t.px.size≤4194304){I:cc}{F:bZ}(ht:cy I F t){c:Addr}(hc:Rd I F c t.enc) :
  cf P 58 #[.pointer (some c)] I F fun e I' G=>e=(if t.px.dv=0 then .returned (.tuple #[]) else .panicked (kG t.px.dv))∧G=F:=by
 refine fe.vc ?_
 unfold fe.V
 refine⟨_,_,_,_,_,_,_,_,_,_,hc,(rA t hs I F ht).mono fun e I1 G hl ⟨he,hG⟩=>?_⟩
 subst hG
 by_cases h:t.px.dv=0
 ·rw[if_pos h] at he
  exact .inl ⟨he,G,.refl _,by rw[if_pos h],rfl⟩
 ·rw[if_neg h] at he
  exact .inr ⟨_,he,G,.refl _,by rw[if_neg h],rfl⟩
mutual
def Nd.nodes:Nd→List Nd
 | .mk k o t n f s a c l q=>.mk k o t n f s a c l q::Nd.gi l
def Nd.gi:List Nd→List Nd
 | []=>[]
 | x::r=>Nd.nodes x++Nd.gi r
end
theorem Nd.om(t:Nd):t.nodes=t::Nd.gi t.kids:=by cases t;rw[Nd.nodes];rfl
theorem vI:∀t:Nd,t.nodes.map Nd.px=t.px.nodes:=by
 have hL:∀l:List Nd,(∀x∈l,(Nd.nodes x).map Nd.px=x.px.nodes)→(Nd.gi l).map Nd.px=Px.gi (l.map Nd.px):=by
  intro l
  induction l with
  | nil=>intro _;rfl
  | cons x r ih =>
    intro h
    rw[Nd.gi,List.map_append,List.map_cons,Px.gi,h x (List.mem_cons_self ..),ih fun y hy=>h y (List.mem_cons_of_mem _ hy)]
 refine Nd.ind fun t h=>?_
 rw[Nd.om,Px.om,List.map_cons,hL t.kids h,Nd.dX]
instance decBA:DecidableEq ByteArray:=fun a b=>decidable_of_iff (a.data=b.data) ⟨fun h=>by cases a;cases b;simp_all,fun h=>by rw[h]⟩
def gq(l:List ByteArray)(s:ByteArray):Bool:=l.any fun y=>decide (y=s)
def Px.Fit(x:Px):Prop:=(0≤x.kind∧x.kind≤255)∧(0≤x.oper∧x.oper≤255)∧(0≤x.cq∧x.cq≤255)∧(-9223372036854775808≤x.n∧x.n≤9223372036854775807)∧(0≤x.field∧x.field≤255)∧(-9223372036854775808≤x.pos∧x.pos≤9223372036854775807)
def Px.Wf(x:Px):Prop:=∀y∈x.nodes,y.Fit
theorem Wf.nd{t:Nd}(h:t.px.Wf):∀x∈t.nodes,x.px.Fit:=fun x hx=>h _ (by rw[←vI];exact List.mem_map_of_mem hx)
end Go.Lx
namespace Go.Vc
theorem zI{P:Program}{t e:TypeId}{z by':Nat}{zv:Value}(ht:P.underlying t=some (.slice e))(hi:(P.info? e).map (fun i=>(i.zero,i.size,i.bytes))=some (some zv,z,by')){l c:Int}(h0:0≤l)(hlc:l≤c)(hb:(by':Int)*c≤281474976710656)(hc:c≤9223372036854775807){I:cc}{F:bZ} :
  cI P (Instr.makeSlice t (.int .i64 l) (.int .i64 c)) I F fun v I' G=>∃(b:Nat) (cs:List Value),v=.slice (some ⟨b,0,none⟩) l.toNat c.toNat∧cs.length=c.toNat*z∧cs.toArray=madeCells zv.cells (c.toNat*z)∧I'=I∧G=(b,Obj.cells cs.toArray e (0,0))::F:=by
 intro w hw
 cases h:P.info? e with
 | none=>rw[h] at hi;cases hi
 | some i =>
   rw[h] at hi
   simp only[Option.map_some,Option.some.injEq,Prod.mk.injEq] at hi
   have hr:=run_make (P:=P) w t e i zv ht h hi.1 .i64 .i64 l c h0 hlc (by rw[hi.2.2];exact hb) hc
   rw[hi.2.1] at hr
   refine⟨_,_,I,_,hr,cc.le_refl I,hw.alloc _,w.heap.size,(madeCells zv.cells (c.toNat*z)).toList,rfl, ?_,by simp,rfl,by simp⟩
   simp[size_madeCells]
end Go.Vc
namespace Go.Lx
open Go.Vc
end Go.Lx
namespace Go.Vc
def mS:FrameMode→Value→FrameMode→Prop
 | .returning,v,u=>v=.nilIface∧u=.returning
 | .panicking ({ v:=x,recovered:=false,goexit:=false }::older),v,u=>v=x∧u=.panicking ({ v:=x,recovered:=true }::older)
 | _,_,_=>False
theorem zJ:mS .returning .nilIface .returning:=⟨rfl,rfl⟩
theorem zK(v:Value):mS (.panicking [{ v:=v,recovered:=false }]) v (.panicking [{ v:=v,recovered:=true }]):=⟨rfl,rfl⟩
def De(o:Oper):Bool:=match o.op,o.guard with
 | .call { callee:=.builtin .recover,args:=_,argTypes:=_ },none=>true
 | _,_=>false
theorem mS.at{c:Frame}{cs:List Frame}{u u1:FrameMode}{v:Value}(hu:c.mode=u)(h:mS u v u1) :
  recoverD (c::cs)=some (v,{ c with mode:=u1 }::cs)∨(recoverD (c::cs)=none∧v=.nilIface∧{ c with mode:=u1 }::cs=c::cs):=by
 subst hu
 unfold mS at h
 split at h
 ·rename_i hm
  obtain⟨h1,h2⟩:=h
  refine .inr ⟨by simp[recoverD,hm],h1, ?_⟩
  subst h2
  rw[←hm]
 ·rename_i hm
  obtain⟨h1,h2⟩:=h
  subst h1 h2
  exact .inl (by simp[recoverD,hm])
 ·exact h.elim
theorem zL{P:Program}{id:Nat}{ops:Array Oper}{o:Oper}{r:List Oper}{Q:Exit→Act→List Frame→World→Prop}{a:Act}{cs cs':List Frame}{w:World}{v:Value}(hl:ops.toList=o::r)(ho:De o=true)
  (hrec:recoverD cs=some (v,cs')∨(recoverD cs=none∧v=.nilIface∧cs'=cs)) (h:wpListIn Fence.wide 0 P ops (fun e a' w'=>Q e a' cs' w') r (a.put o.dst v) w) :
  (Code.region id ops false).wpSIn Fence.wide 0 P Q a cs w:=by
 intro b k hb hr hF hroom
 have hsz:ops.size=r.length+1:=by rw[←Array.length_toList,hl];rfl
 have h0:ops[0]? = some o:=by rw[←Array.getElem?_toList,hl];rfl
 have hrest:∀j,r[j]? = ops[1+j]?:=fun j=>by rw[←Array.getElem?_toList,hl,Nat.add_comm];rfl
 rw[←wpOpsIn_eq_wpListIn r 1 hrest] at h
 have hex:∀ci,o.op=.call ci→True:=fun _ _=>trivial
 have hop:∃ci,o.op=.call ci∧ci.callee=.builtin .recover∧o.guard=none:=by
  unfold De at ho
  split at ho
  ·rename_i h1 h2;exact⟨_,h1,rfl,h2⟩
  ·cases ho
 obtain⟨ci,hci,hcal,hgd⟩:=hop
 have hw:Region.wanted o (yielded ops a.tmps)=true:=by unfold Region.wanted;rw[hgd]
 have hrun:(execOp a.eval o).run P w=.ok .recover w:=by
  obtain⟨cal,args,tys⟩:=ci
  simp only at hcal
  subst hcal
  simp only[execOp,hci]
  rfl
 have hlen:cs'.length=cs.length:=by
  rcases hrec with hrec | ⟨_,_,rfl⟩
  ·exact recoverD_length hrec
  ·rfl
 obtain⟨e,a',w',q,harr⟩:=wp_opsIn _ _ _ h b k cs' (hr.trans rfl) hF (hlen▸hroom)
 refine⟨e,a',cs',w',hlen,q,.of_steps (.one (fenced_calm hF hroom rfl) stepR_region) ?_⟩
 rw[List.range_eq_range',hsz,List.range'_succ]
 have hg:=stepGR_op (P:=P) (b:=b) (k:=k) (cs:=cs) (w:=w) (rest:=List.range' (0+1) r.length) h0 hw
 rw[hr,Oper.semAt_none] at hg
 have hfin:∀v,(b.atR a (.inRegion ops (0::List.range' (0+1) r.length)::k)).finish v=b.atR (a.put o.dst v) (.inRegion ops (List.range' (0+1) r.length)::k):=by
  intro v;rw[Frame.finish_atR,h0];rfl
 have hk:(b.atR a (.inRegion ops (0::List.range' (0+1) r.length)::k)).kind=.deferred:=hb
 have htr:=tryRecover_deferred hk cs
 refine .of_steps (.one (fenced_oper hF hroom h0 fun f _=>trivial) (step_lone_go ?_)) harr
 rw[hg,←hfin]
 simp only[Frame.atR,hr] at htr ⊢
 rcases hrec with hrec | ⟨hrec,rfl,rfl⟩
 ·simp[stepG.apply,hrun,htr,hrec]
 ·simp[stepG.apply,hrun,htr,hrec]
def vJ(P:Program)(rs:List ResultVar)(keep:List Nat)(Q:Ending→cc→bZ→Prop)(u:Option (List PanicEntry))(σ:S)(I:cc)(F:bZ):Prop:=match σ.df with
 | []=>match u with
   | none=>(match np P σ rs with
     | some vs=>Q (.returned (xg vs)) I (cB (pick σ.own keep)++F)
     | none=>False)
   | some ch=>Q (.panicked ch) I (cB (pick σ.own keep)++F)
 | _=>False
def xD(P:Program)(rs:List ResultVar)(keep:List Nat)(Q:Ending→cc→bZ→Prop):Kt
 | .normal,σ,I,F=>vJ P rs keep Q none σ I F
 | .ret,σ,I,F=>vJ P rs keep Q none σ I F
 | .panic ch,σ,I,F=>vJ P rs keep Q (some ch) σ I F
 | _,_,_,_=>False
def Dg(P:Program)(A:mD)(v:Value)(rs:List ResultVar)(keep:List Nat)(Q:Ending→cc→bZ→Prop)(σ:S)(I:cc)(F:bZ):Code→Prop
 | .seq (.region id ops false) rest=>match ops.toList with
   | o::r=>cond (De o) (tJ P A id ops r 1 (σ.put o.dst (some (.a (.v v)))) I F (W P A none rest 2 (xD P rs keep Q)) (fun ch=>xD P rs keep Q (.panic ch))) False
   | []=>False
 | _=>False
section
variable {P:Program} {A:mD}
theorem DV{fn:Func}{keep:List Nat}(hk:BR 0 keep=true){Q:Ending→cc→bZ→Prop}{c0:Frame}{cs:List Frame}{u1:FrameMode}{R:Ending→FrameMode→World→Prop}{I0:cc}
  (hR:∀e I' F' w',cc.le I0 I'→Sat I' F' w'→Q e I' F'→R e u1 w') {e:Exit} {σ:S} {I:cc} {F:bZ} {a:Act} {w:World} (hr:Rel σ I F a w) (hl:cc.le I0 I)
  (h:xD P fn.results.toList keep Q e σ I F):bodyPostS P fn c0 cs R e a ({ c0 with mode:=u1 }::cs) w:=by
 have hsub:Sat I (cB (pick σ.own keep)++F) w:=by
  have h5:=rb keep 0 σ.own hk
  rw[List.drop_zero] at h5
  exact hr.sat.sub ((h5.map _).append (List.Sublist.refl F))
 have key:∀u,vJ P fn.results.toList keep Q u σ I F→a.defers=[]∧match u with
   | none=>∃v,(results fn a.tmps).run P w=.ok v w∧Q (.returned v) I (cB (pick σ.own keep)++F)
   | some ch=>Q (.panicked ch) I (cB (pick σ.own keep)++F):=by
  intro u h
  unfold vJ at h
  split at h
  ·rename_i hd
   refine⟨by rw[hr.defers,hd];rfl, ?_⟩
   cases u with
   | none =>
     simp only at h ⊢
     split at h
     ·rename_i vs hvs;exact⟨_,pI hr hvs,h⟩
     ·exact h.elim
   | some ch=>exact h
  ·exact h.elim
 cases e with
 | normal=>obtain⟨h1,v,h2,h3⟩:=key none h;exact⟨h1,u1,rfl,v,h2,hR _ _ _ _ hl hsub h3⟩
 | ret=>obtain⟨h1,v,h2,h3⟩:=key none h;exact⟨h1,u1,rfl,v,h2,hR _ _ _ _ hl hsub h3⟩
 | panic ch=>obtain⟨h1,h2⟩:=key (some ch) h;exact⟨h1,u1,rfl,hR _ _ _ _ hl hsub h2⟩
 | exit id=>exact h.elim
 | goto l=>exact h.elim
 | outgrown=>exact h.elim
theorem zM(hP:∀f,A.good f=true→cY P f){f:FuncId}{fn:Func}{c:Code}(hf:P.funcs[f]? = some fn)(hb:fn.body=some c){args:List AV}{own:List cV}
  {I:cc} {F:bZ} {keep:List Nat} {Q:Ending→cc→bZ→Prop} (hk:BR 0 keep=true) (hwa:∀x∈args,AV.wf own x) (hwo:∀b∈own,∀x∈b.cells,AV.wf own x) {u u1:FrameMode} {v:Value} (hrec:mS u v u1)
  (h:Dg P A v fn.results.toList keep Q ⟨jq args fn.ntmps,own,[]⟩ I F c) {vs:List Value} (hv:vs=args.map AV.g):sD P f vs u I (cB own++F) fun e u' I' G=>u'=u1∧Q e I' G:=by
 subst hv
 intro w hw
 unfold Dg at h
 split at h
 ·rename_i id ops rest
  split at h
  ·rename_i o r hl
   obtain⟨ho,h⟩:=cr h
   refine callsDIn_of_wpSIn hf hb trivial fun c0 cs hu=>?_
   refine wpSIn_seq (zL hl ho (mS.at hu hrec) ?_)
   have hrel:Rel ⟨jq args fn.ntmps,own,[]⟩ I F { tmps:=(args.map AV.g).toArray++Array.replicate (fn.ntmps-(args.map AV.g).toArray.size) undef,defers:=[] } w:=by
    refine⟨by simp[jq], ?_,rfl, ?_, ?_,hw⟩
    ·intro t av ht
     simp only[jq,List.getElem?_append] at ht
     split at ht
     ·rename_i hlt
      simp only[List.getElem?_map] at ht
      cases ha:args[t]? with
      | none=>rw[ha] at ht;simp at ht
      | some x =>
        rw[ha] at ht
        simp only[Option.map_some,Option.some.injEq] at ht
        subst ht
        simp at hlt
        rw[Array.getElem?_append_left (by simpa using hlt)]
        simp[ha]
     ·rw[List.getElem?_replicate] at ht;split at ht<;>cases ht
    ·intro t av ht
     simp only[jq,List.getElem?_append] at ht
     split at ht
     ·simp only[List.getElem?_map] at ht
      cases ha:args[t]? with
      | none=>rw[ha] at ht;simp at ht
      | some x =>
        rw[ha] at ht
        simp only[Option.map_some,Option.some.injEq] at ht
        subst ht
        exact hwa _ (List.mem_of_getElem? ha)
     ·rw[List.getElem?_replicate] at ht;split at ht<;>cases ht
    ·exact fun i b hb' x hx=>hwo b (List.mem_of_getElem? hb') x hx
   have hrel2:=hrel.put o.dst (av:=.a (.v v)) (v:=v) rfl trivial
   refine iM (ro:=none) hP r 1 _ I F _ w (.inl rfl) h hrel2 ?_ ?_
   ·intro σ' I' F' a' w' h1 h2 h3 _
    refine wpSIn_of_wpIn rfl (wpIn_mono (yG hP rest 2 _ none none σ' I' F' a' w' rfl h3 h1) ?_)
    intro e a2 w2 ⟨σ2,I2,F2,g1,g2,g3,_⟩
    exact DV (fn:=fn) hk (fun e I3 F3 w3 hl3 hs3 hq3=>⟨I3,F3,hl3,hs3,rfl,hq3⟩) g1 (cc.le_trans h2 g2) g3
   ·intro ch σ' I' F' a' w' h1 h2 h3 _
    show bodyPostS P fn c0 cs (fun e u' w'=>∃I' F',I.le I'∧Sat I' F' w'∧u'=u1∧Q e I' F') (.panic ch) a' _ w'
    exact DV (fn:=fn) hk (e:=.panic ch) (fun e I3 F3 w3 hl3 hs3 hq3=>⟨I3,F3,hl3,hs3,rfl,hq3⟩) h1 h2 h3
  ·exact h.elim
 ·exact h.elim
theorem th{f:FuncId}{fn:Func}{args:List AV}{own:List cV}{I:cc}{F:bZ}{keep:List Nat}{Q:cd}{V:Prop}{u u1:FrameMode}{v:Value}(gd:List Nat)(hf:P.funcs[f]? = some fn)(hrec:mS u v u1)(h:V)
  (e:Dg P A v fn.results.toList keep Q ⟨jq args fn.ntmps,own,[]⟩ I F (fn.body.getD .skip)=V) (hg:A.good=nZ gd) (hG:gd.all (re P)=true) (hb:fn.body=some (fn.body.getD .skip)) (hk:BR 0 keep=true)
  (hwa:∀x∈args,AV.wf own x) (hwo:∀b∈own,∀x∈b.cells,AV.wf own x) {vs:List Value} (hv:vs=args.map AV.g):sD P f vs u I (cB own++F) fun e u' I' G=>u'=u1∧Q e I' G :=
 zM (fun f hf'=>vm gd hG f (by rw[←hg];exact hf')) hf hb hk hwa hwo hrec (by rw[←e] at h;exact h) hv
end
end Go.Vc
namespace Go.Lx
open Go.Vc Go.Proofs.Tryz
def AW:List (Nat×List Sh):=[]
def fL.V(a:Nat)(c:Int)(I:cc)(F:bZ)(Q:cd)  : Prop:=∀b:Nat,Q (.returned (.tuple #[])) I ((a,Obj.cells #[.int .i64 c] 47 (0,0))::F)
theorem fL.vc{b:Nat}{c:Int}{u u1:FrameMode}(d:mS u (Value.nilIface) u1){I:cc}{F:bZ}{Q:cd}  (h:fL.V b c I F Q):sD P 96 [.pointer (some ⟨b,0,none⟩)] u I ((b,Obj.cells #[.int .i64 c] 47 (0,0))::F) (fun e u' I' G=>u'=u1∧Q e I' G) :=
 th (A:=(an [] [] AW)) (args:=[.a (.p 0 b 0)]) (own:=[⟨b,47,false,[.a (.v (.int .i64 c))]⟩]) (keep:=[0]) [] func96 d h (by kernel_rfl) (by kernel_rfl) (by kernel_rfl) (by kernel_rfl) (by kernel_rfl) (by simp[AV.wf,At.wf]) (by simp[AV.wf,At.wf]) rfl
def fM.V(a:Nat)(c b:Int)(I:cc)(F:bZ)(Q:cd)  : Prop:=∀d:Nat,Q (.returned (.tuple #[])) I ((a,Obj.cells #[.int .i64 b] 47 (0,0))::F)
theorem fM.vc{b:Nat}{c d:Int}{u u1:FrameMode}(f:mS u (Value.iface 155 (.agg #[.int .i64 d])) u1){I:cc}{F:bZ}{Q:cd}  (h:fM.V b c d I F Q):sD P 96 [.pointer (some ⟨b,0,none⟩)] u I ((b,Obj.cells #[.int .i64 c] 47 (0,0))::F) (fun e u' I' G=>u'=u1∧Q e I' G) :=
 th (A:=(an [] [] AW)) (args:=[.a (.p 0 b 0)]) (own:=[⟨b,47,false,[.a (.v (.int .i64 c))]⟩]) (keep:=[0]) [] func96 f h (by kernel_rfl) (by kernel_rfl) (by kernel_rfl) (by kernel_rfl) (by kernel_rfl) (by simp[AV.wf,At.wf]) (by simp[AV.wf,At.wf]) rfl
end Go.Lx
namespace Go.Vc
theorem oK.fn{P:Program}{f:FuncId}{fr cap:Array Value}{args:List Value}{I:cc}{F:bZ}{Q:Ending→cc→bZ→Prop}(he:cY P f){vs:Array Value}(hv:fr++args.toArray++cap=vs)(h:cf P f vs I F Q):oK P (.func (.func f) fr cap) args I F Q :=
 fun w hw=>.inl ⟨f,fr,cap,rfl,he,by rw[hv];exact h w hw⟩
theorem sD.mono{P:Program}{f:FuncId}{args:List Value}{u:FrameMode}{I:cc}{F:bZ}{Q Q':Ending→FrameMode→cc→bZ→Prop}(h:sD P f args u I F Q)(k:∀e u' I' G,cc.le I I'→Q e u' I' G→Q' e u' I' G):sD P f args u I F Q' :=
 fun w hw=>(h w hw).mono fun e u' w' ⟨I',F',h1,h2,h3⟩=>⟨I',F',h1,h2,k _ _ _ _ h1 h3⟩
end Go.Vc
namespace Go.Lx
open Go.Vc
abbrev oy(n:Int):Ending:=if n=0 then .returned (.tuple #[]) else .panicked (kG n)
theorem pM{look:Fn}{lf lc:Array Value}{n:Int}{I:cc}{F:bZ}(h:∀b:Nat,oK P (.func look lf lc) [] I ((b,.cells #[.int .i64 0] 47 (0,0))::F) fun e I' G=>e=oy n∧G=(b,.cells #[.int .i64 0] 47 (0,0))::F) :
  cf P 57 #[.func look lf lc] I F (gE (.int .i64 n) F):=by
 refine js.vc ?_
 unfold js.V
 intro b_e
 refine (h b_e).mono fun e I1 G hI1 ⟨he,hG⟩=>?_
 subst hG
 by_cases hn:n=0
 ·subst hn
  refine .inl ⟨he,F,.refl _,(fL.vc zJ (Q:=fun e I' G=>e=.returned (.tuple #[])∧G=(b_e,.cells #[.int .i64 0] 47 (0,0))::F) fun b_x=>⟨rfl,rfl⟩).mono fun e u I2 G _ ⟨hu,he,hG⟩=>?_⟩
  subst hu
  exact⟨_,he,0,F,by rw[hG],.inl ⟨rfl,rfl,rfl⟩⟩
 ·rw[oy,if_neg hn] at he
  refine .inr ⟨_,he,F,.refl _,(fM.vc (zK _) (Q:=fun e I' G=>e=.returned (.tuple #[])∧G=(b_e,.cells #[.int .i64 n] 47 (0,0))::F) fun b_x=>⟨rfl,rfl⟩).mono fun e u I2 G _ ⟨hu,he,hG⟩=>?_⟩
  subst hu
  exact⟨_,he,n,F,by rw[hG],.inl ⟨rfl,rfl,rfl⟩⟩
theorem xE:cY P 58:=vm [58] (by kernel_rfl) _ (by decide)
theorem DW{b:Nat}{t:Nd}{I:cc}{G:bZ}(h:(b,Obj.cells #[.int .u8 t.kind,.int .u8 t.oper,.int .u8 t.cq,.int .i64 t.n,.int .u8 t.field,.string t.name,.slice t.a t.kids.length t.c,.int .i64 t.pos] 28 (0,0))∈G):Rd I G (⟨b,0,none⟩:Addr) t.enc:=Rd.tW h 0 fun j hj=>by simp
theorem p5(t:Nd)(hs:t.px.size≤4194304)(I:cc)(F:bZ)(ht:cy I F t):cf P 31 #[t.v] I F (gE (.int .i64 t.px.dv) F):=by
 refine gp.vc ?_
 unfold gp.V
 intro b_n
 refine (pM (n:=t.px.dv) fun b=>oK.fn xE (by simp) (vH hs (ht.cons.cons) (DW (List.mem_cons_of_mem _ (List.mem_cons_self ..))))).mono fun e I1 G hI1 ⟨he,hG⟩=>?_
 subst hG
 exact⟨_,he,_,_,_,_,_,_,_,_,_,_,F,.refl _,rfl,rfl⟩
end Go.Lx
namespace Go.Vc
open Go.MapKept
def iX{κ β:Type}(key:κ→Value)(val:β→Value)(g:κ→Option β)(es:Array MapEntry)(clock:Nat):Prop :=
 Stamped es clock∧(∀x∈es.toList,∃k b,x.key=key k∧x.val=val b∧g k=some b)∧(∀k b,g k=some b→∃x∈es.toList,x.key=key k)
theorem iX.nil{κ β:Type}{key:κ→Value}{val:β→Value}(c:Nat):iX key val (fun _=>none) #[] c:=⟨stamped_empty c,by simp,fun k b h=>by cases h⟩
theorem iX.congr{κ β:Type}{key:κ→Value}{val:β→Value}{g g':κ→Option β}{es:Array MapEntry}{clock:Nat}(h:iX key val g es clock)(e:∀k,g k=g' k):iX key val g' es clock:=by
 rw[←funext e];exact h
theorem rB{α:Type}:∀{l:List α} {i j:Nat} {x:α},l.Nodup→i<j→l[i]? = some x→l[j]? = some x→False
 | [],_,_,_,_,_,h,_=>by simp at h
 | y::l,0,j+1,x,hn,_,h1,h2=>by
   simp only[List.getElem?_cons_zero,Option.some.injEq] at h1
   subst h1
   exact (List.nodup_cons.1 hn).1 (List.mem_of_getElem? (by simpa using h2))
 | y::l,i+1,j+1,x,hn,hl,h1,h2=>rB (l:=l) (x:=x) (i:=i) (j:=j) (List.nodup_cons.1 hn).2 (by omega) (by simpa using h1) (by simpa using h2)
def nt{κ β:Type}[DecidableEq κ](g:κ→Option β)(k:κ)(b:β):κ→Option β:=fun j=>if j=k then some b else g j
section
variable {P:Program} {κ β:Type} {d:TypeDesc} {key:κ→Value} {val:β→Value} {g:κ→Option β} {es:Array MapEntry} {clock:Nat} {t kt et:TypeId} {I:cc} {F:bZ} {r:Nat} {k:κ} {z:Value}
theorem iX.find(hk:∀k,IsKey d (key k))(hi:∀k k',key k=key k'→k=k')(h:iX key val g es clock)(k:κ) :
  (Instr.findNow d (key k) es.toList 0=some none∧(∀x∈es.toList,x.key≠key k)∧g k=none) ∨
  ∃j e b,Instr.findNow d (key k) es.toList 0=some (some (j,val b))∧es[j]? = some e∧e.key=key k∧e.val=val b∧g k=some b:=by
 obtain⟨hs,h1,h2⟩:=h
 have hks:∀x∈es.toList,IsKey d x.key:=fun x hx=>by obtain⟨k',b,e,_⟩:=h1 x hx;rw[e];exact hk k'
 rcases findNow_spec (hk k) es.toList 0 hks with ⟨g1,g2⟩ | ⟨j,e,g1,g2,g3⟩
 ·refine .inl ⟨g1,g2, ?_⟩
  cases hg:g k with
  | none=>rfl
  | some b=>obtain⟨x,hx,e⟩:=h2 k b hg;exact absurd e (g2 x hx)
 ·obtain⟨k',b,e1,e2,e3⟩:=h1 e (List.mem_of_getElem? g2)
  obtain rfl:k'=k:=hi _ _ (e1.symm.trans g3)
  refine .inr ⟨j,e,b, ?_,by simpa using g2,g3,e2,e3⟩
  rw[g1,e2,Nat.zero_add]
theorem vK{et:TypeId}{z:Value}(hz:(P.info? et).map (·.zero)=some (some z))(w:World):(zeroValue et).run P w=.ok z w:=by
 cases h:P.info? et with
 | none=>rw[h] at hz;cases hz
 | some i =>
   rw[h] at hz
   simp only[Option.map_some,Option.some.injEq] at hz
   simp[zeroValue,typeInfo,h,hz,Result.andThen]
theorem AX(hm:I r=some (.map es clock)∨(r,Obj.map es clock)∈F){w:World}(hw:Sat I F w):w.heap[r]? = some (.map es clock):=hm.elim (hw.imm _ _) (hw.own _ _)
theorem oY(ht:P.underlying t=some (.map kt et))(hd:P.underlying kt=some d)(hk:∀k,IsKey d (key k))(hi:∀k k',key k=key k'→k=k')(hz:(P.info? et).map (·.zero)=some (some z))
  (h:iX key val g es clock) (hm:I r=some (.map es clock)∨(r,Obj.map es clock)∈F) (k:κ) :
  cI P (Instr.lookup t (.map (some r)) (key k) true) I F fun v I' G=>v=.tuple #[(g k).elim z val,.bool (g k).isSome]∧I'=I∧G=F:=by
 intro w hw
 have hb:=AX hm hw
 rcases h.find hk hi k with ⟨h1,_,hg⟩ | ⟨j,e,b,h1,_,_,_,hg⟩
 ·refine⟨_,w,I,F, ?_,cc.le_refl I,hw,rfl,rfl,rfl⟩
  simp[Instr.lookup,run_underlying ht,MapKept.run_getObj_map hb,run_checkKey hd (hk k),run_findKey hd h1,vK hz,Result.andThen,hg]
 ·refine⟨_,w,I,F, ?_,cc.le_refl I,hw,rfl,rfl,rfl⟩
  simp[Instr.lookup,run_underlying ht,MapKept.run_getObj_map hb,run_checkKey hd (hk k),run_findKey hd h1,Result.andThen,hg]
theorem nu(ht:P.underlying t=some (.map kt et))(hd:P.underlying kt=some d)(hk:∀k,IsKey d (key k))(hi:∀k k',key k=key k'→k=k')(hz:(P.info? et).map (·.zero)=some (some z))
  (h:iX key val g es clock) (hm:I r=some (.map es clock)∨(r,Obj.map es clock)∈F) (k:κ) :
  cI P (Instr.lookup t (.map (some r)) (key k) false) I F fun v I' G=>v=(g k).elim z val∧I'=I∧G=F:=by
 intro w hw
 have hb:=AX hm hw
 rcases h.find hk hi k with ⟨h1,_,hg⟩ | ⟨j,e,b,h1,_,_,_,hg⟩
 ·refine⟨_,w,I,F, ?_,cc.le_refl I,hw,rfl,rfl,rfl⟩
  simp[Instr.lookup,run_underlying ht,MapKept.run_getObj_map hb,run_checkKey hd (hk k),run_findKey hd h1,vK hz,Result.andThen,hg]
 ·refine⟨_,w,I,F, ?_,cc.le_refl I,hw,rfl,rfl,rfl⟩
  simp[Instr.lookup,run_underlying ht,MapKept.run_getObj_map hb,run_checkKey hd (hk k),run_findKey hd h1,Result.andThen,hg]
theorem iA:cI P (Instr.makeMap t none) I F fun v I' G=>∃b,v=.map (some b)∧I'=I∧G=(b,Obj.map #[] 0)::F:=by
 intro w hw
 exact⟨_,_,I,_,rfl,cc.le_refl I,hw.alloc _,_,rfl,rfl,rfl⟩
variable [DecidableEq κ]
theorem iX.push(hi:∀k k',key k=key k'→k=k')(h:iX key val g es clock)(hno:∀x∈es.toList,x.key≠key k)(b:β):iX key val (nt g k b) (es.push { key:=key k,val:=val b,born:=clock }) (clock+1):=by
 obtain⟨hs,h1,h2⟩:=h
 refine⟨stamped_push hs hno,fun x hx=>?_,fun k' b' hg=>?_⟩
 ·simp only[Array.toList_push,List.mem_append,List.mem_singleton] at hx
  rcases hx with hx | rfl
  ·obtain⟨k',b',e1,e2,e3⟩:=h1 x hx
   refine⟨k',b',e1,e2, ?_⟩
   unfold nt;rw[if_neg]
   ·exact e3
   ·intro e;subst e;exact hno x hx e1
  ·exact⟨k,b,rfl,rfl,if_pos rfl⟩
 ·unfold nt at hg
  by_cases e:k'=k
  ·subst e;exact⟨_,by simp;exact .inr rfl,rfl⟩
  ·rw[if_neg e] at hg
   obtain⟨x,hx,e⟩:=h2 k' b' hg
   exact⟨x,by simp only[Array.toList_push,List.mem_append];exact .inl hx,e⟩
theorem iX.modify(hi:∀k k',key k=key k'→k=k')(h:iX key val g es clock){j:Nat}{e:MapEntry}(hj:es[j]? = some e)(he:e.key=key k)(b:β){f:MapEntry→MapEntry}(hf:∀x,(f x).born=x.born)
  (hfk:∀x,x.key=key k→(f x).key=key k) (hv:∀x,(f x).val=val b):iX key val (nt g k b) (es.modify j f) clock:=by
 obtain⟨hs,h1,h2⟩:=h
 have hkey:∀e',es[j]? = some e'→(f e').key=e'.key:=fun e' he'=>by rw[hj] at he';cases he';rw[hfk _ he,he]
 refine⟨stamped_modify hs _ _ (fun x _=>hf x) fun x _ hx=>hkey x hx,fun x hx=>?_,fun k' b' hg=>?_⟩
 ·obtain⟨i,hx'⟩:=List.mem_iff_getElem?.1 hx
  simp only[Array.getElem?_toList,Array.getElem?_modify] at hx'
  by_cases hij:j=i
  ·subst hij
   rw[if_pos rfl,hj] at hx'
   simp only[Option.map_some,Option.some.injEq] at hx'
   subst hx'
   exact⟨k,b,hfk _ he,hv _,if_pos rfl⟩
  ·rw[if_neg hij] at hx'
   obtain⟨k',b',e1,e2,e3⟩:=h1 x (List.mem_of_getElem? (by simpa using hx'))
   refine⟨k',b',e1,e2, ?_⟩
   unfold nt;rw[if_neg]
   ·exact e3
   ·intro ek;subst ek
    have hnd:=hs.2.2
    have:i<es.size:=(Array.getElem?_eq_some_iff.1 hx').1
    have:j<es.size:=(Array.getElem?_eq_some_iff.1 hj).1
    rcases Nat.lt_or_gt_of_ne hij with hlt | hlt
    ·exact rB hnd hlt (by simp[hj];exact he) (by simp[hx'];exact e1)
    ·exact rB hnd hlt (by simp[hx'];exact e1) (by simp[hj];exact he)
 ·have hk':key k'∈es.toList.map (·.key):=by
   by_cases e':k'=k
   ·subst e';exact List.mem_map.2 ⟨e,List.mem_of_getElem? (by simpa using hj),he⟩
   ·unfold nt at hg
    rw[if_neg e'] at hg
    obtain⟨x,hx,ex⟩:=h2 k' b' hg
    exact List.mem_map.2 ⟨x,hx,ex⟩
  rw[←modify_keys j f hkey] at hk'
  obtain⟨x,hx,ex⟩:=List.mem_map.1 hk'
  exact⟨x,hx,ex⟩
theorem pN(ht:P.underlying t=some (.map kt et))(hd:P.underlying kt=some d)(hk:∀k,IsKey d (key k))(hi:∀k k',key k=key k'→k=k')(h:iX key val g es clock)(k:κ)(b:β) :
  jR P (Instr.mapUpdate t (.map (some r)) (key k) (val b)) I ((r,Obj.map es clock)::F) fun I' G=>I'=I∧∃es' c',G=(r,Obj.map es' c')::F∧iX key val (nt g k b) es' c':=by
 intro w hw
 have hb:w.heap[r]? = some (.map es clock):=hw.own _ _ (List.mem_cons_self ..)
 rcases h.find hk hi k with ⟨h1,h2,hg⟩ | ⟨j,e,b',h1,h2,h3,h4,hg⟩
 ·refine⟨_,I,_, ?_,cc.le_refl I,hw.set (w':={ w with heap:=w.heap.setIfInBounds r (.map (es.push { key:=key k,val:=val b,born:=clock }) (clock+1)) }) rfl ⟨rfl,rfl⟩,rfl,_,_,rfl,h.push hi h2 b⟩
  simp[Instr.mapUpdate,run_underlying ht,MapKept.run_getObj_map hb,run_checkKey hd (hk k),run_findKey hd h1,run_setObj_map _ hb,Result.andThen]
 ·refine⟨_,I,_, ?_,cc.le_refl I,hw.set (w':={ w with heap:=w.heap.setIfInBounds r (.map (es.modify j fun e=>{ e with key:=key k,val:=val b }) clock) }) rfl ⟨rfl,rfl⟩,rfl,_,_,rfl,h.modify hi h2 h3 b (fun _=>rfl) (fun _ _=>rfl) (fun _=>rfl)⟩
  simp[Instr.mapUpdate,run_underlying ht,MapKept.run_getObj_map hb,run_checkKey hd (hk k),run_findKey hd h1,h2,h3,run_keyThatStays (hk k),run_setObj_map _ hb,Result.andThen]
end
end Go.Vc
namespace Go.Vc
theorem jR.perm{P:Program}{s:Sem Unit}{I:cc}{F G:bZ}{Q:cc→bZ→Prop}(h:jR P s I F Q)(p:G.Perm F):jR P s I G Q:=fun w hw=>h w (hw.perm p)
theorem jR.mono{P:Program}{s:Sem Unit}{I:cc}{F:bZ}{Q Q':cc→bZ→Prop}(h:jR P s I F Q)(k:∀I' F',cc.le I I'→Q I' F'→Q' I' F'):jR P s I F Q' :=
 fun w hw=>let ⟨w',I',F',hr,hl,hs,hq⟩:=h w hw;⟨w',I',F',hr,hl,hs,k _ _ hl hq⟩
theorem jt:∀s:ByteArray,MapKept.IsKey .string (Value.string s):=fun _=>trivial
theorem str_inj:∀s t:ByteArray,Value.string s=Value.string t→s=t:=fun _ _ h=>by cases h;rfl
end Go.Vc
namespace Go.Lx
open Go.Vc
def wM(l:List ByteArray)(k:Nat)(g:ByteArray→Option Int):Prop:=∀s,(gq l s=true→∃m,g s=some m∧1≤m∧m≤k)∧(gq l s=false→g s=none)
theorem wM.nil:wM [] 0 fun _=>none:=fun s=>⟨fun h=>by simp[gq] at h,fun _=>rfl⟩
theorem wM.mono{l:List ByteArray}{k:Nat}{g:ByteArray→Option Int}(h:wM l k g):wM l (k+1) g:=fun s=>⟨fun hs=>let ⟨m,h1,h2,h3⟩:=(h s).1 hs;⟨m,h1,h2,by omega⟩,(h s).2⟩
theorem wM.new{l:List ByteArray}{k:Nat}{g:ByteArray→Option Int}(h:wM l k g){s:ByteArray}:wM (l++[s]) (k+1) (nt g s 1):=fun t=>by
 have e:gq (l++[s]) t=(gq l t||decide (s=t)):=by unfold gq;rw[List.any_append];simp
 rw[e]
 unfold nt
 by_cases hts:t=s
 ·subst hts;rw[if_pos rfl];exact⟨fun _=>⟨1,rfl,by omega,by omega⟩,fun h=>by simp at h⟩
 ·rw[if_neg hts]
  have:decide (s=t)=false:=decide_eq_false fun e=>hts e.symm
  rw[this,Bool.or_false];exact h.mono t
theorem wM.more{l:List ByteArray}{k:Nat}{g:ByteArray→Option Int}(h:wM l k g){s:ByteArray}{m:Int}(hs:gq l s=true)(h1:1≤m)(h2:m≤k):wM l (k+1) (nt g s (m+1)):=fun t=>by
 unfold nt
 by_cases hts:t=s
 ·subst hts;rw[if_pos rfl];exact⟨fun _=>⟨_,rfl,by omega,by omega⟩,fun h=>by rw[hs] at h;cases h⟩
 ·rw[if_neg hts];exact h.mono t
end Go.Lx
