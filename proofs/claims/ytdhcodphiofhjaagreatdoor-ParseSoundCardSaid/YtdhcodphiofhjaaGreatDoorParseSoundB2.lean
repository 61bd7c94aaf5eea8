import Derived.Test.YtdhcodphiofhjaaGreatDoorParseSoundB1
set_option linter.unusedVariables false
set_option linter.unusedSimpArgs false
set_option linter.unusedSectionVars false
set_option maxRecDepth 100000
namespace Go.Vc
def pW(o:Oper):Bool:=match o.op with
 | .move _ | .assign _ | .pick .. | .fieldAddr .. | .indexAddr .. | .extract .. | .field .. | .nilCheck _ | .binOp .. | .unOp .. | .makeFunc .. | .index .. | .slice .. | .makeInterface .. | .build .. | .convert .. => true
 | .call c=>match c.callee with
   | .builtin .len=>true
   | .builtin .cap=>true
   | _=>false
 | _=>false
def FQ:List (Nat×List Nat)→Nat→Option (List Nat)
 | [],_=>none
 | (r,l)::t,n=>cond (r==n) (some l) (FQ t n)
def FR:List (Nat×Nat×Nat×List Nat×List Nat)→Nat→Option (Nat×Nat×List Nat×List Nat)
 | [],_=>none
 | (r,x)::t,n=>cond (r==n) (some x) (FR t n)
def FT:List (Nat×List Nat×Ot)→Nat→Option (List Nat×Ot)
 | [],_=>none
 | (r,x)::t,n=>cond (r==n) (some x) (FT t n)
def FU:List (Nat×List Nat×Nat)→Nat→Option (List Nat×Nat)
 | [],_=>none
 | (r,x)::t,n=>cond (r==n) (some x) (FU t n)
def FV:List (Nat×Nat)→Nat→Option Nat
 | [],_=>none
 | (r,l)::t,n=>cond (r==n) (some l) (FV t n)
def cS.no(I:cS):cS:=⟨fun _=>none,I.os,I.out⟩
theorem vP(I:cS)(w:World):Reads I.no [] w:=by
 intro ad cs h j hj
 obtain⟨_,cells,t,fz,h1 | h1,_⟩:=h
 ·cases h1
 ·cases h1
def uI(l:List Nat):Nat→List (Option AV)→List (Option AV)
 | _,[]=>[]
 | t,x::r=>cond (l.contains t) none x::uI l (t+1) r
def S.qy(σ:S)(ops:Array Oper):S:={ σ with tm:=uI (dA ops.toList) 0 σ.tm }
def Ca(o:Oper)(Kp:List PanicEntry→S→cS→cR→Prop):List PanicEntry→S→cS→cR→Prop:=fun ch σ I F=>cond (td o.op||xo o.op) False (Kp ch σ I F)
def gY(P:Program)(A:n9)(rid:Nat)(ops:Array Oper)(Kp:List PanicEntry→S→cS→cR→Prop):List Nat→S→cS→cR→(S→cS→cR→Prop)→Prop
 | [],σ,I,F,K=>K σ I F
 | i::r,σ,I,F,K=>match ops[i]? with
   | none=>False
   | some o=>match want ops σ o with
     | some true=>cond (pW o)
        (lP P A.shp o σ I.no [] (List.range σ.own.length) fun av=>oC A rid i o.dst av σ fun σ'=>gY P A rid ops Kp r σ' I F K)
        (Eh P A rid i o σ I F (fun σ' I' F'=>gY P A rid ops Kp r σ' I' F' K) (Ca o Kp))
     | some false=>gY P A rid ops Kp r (σ.put o.dst (some (.a (.v undef)))) I F K
     | none=>False
def kg(P:Program)(A:n9)(rid:Nat)(ops:Array Oper)(Kp:List PanicEntry→S→cS→cR→Prop)(os:List Nat)(I0:cS)(n0:Nat):List Nat→S→cS→cR→(S→cS→cR→Prop)→Prop
 | [],σ,I,F,K=>K σ I F
 | i::r,σ,I,F,K=>match ops[i]? with
   | none=>False
   | some o=>match want ops σ o with
     | some true=>cond (os.contains i)
        (lP P A.shp o σ I0 [] ((List.range σ.own.length).drop n0) fun av=>oC A rid i o.dst av σ fun σ'=>kg P A rid ops Kp os I0 n0 r σ' I F K)
        (cond (pW o)
          (lP P A.shp o σ I.no [] (List.range σ.own.length) fun av=>oC A rid i o.dst av σ fun σ'=>kg P A rid ops Kp os I0 n0 r σ' I F K)
          (Eh P A rid i o σ I F (fun σ' I' F'=>kg P A rid ops Kp os I0 n0 r σ' I' F' K) (Ca o Kp)))
     | some false=>kg P A rid ops Kp os I0 n0 r (σ.put o.dst (some (.a (.v undef)))) I F K
     | none=>False
def rR(P:Program)(A:n9)(rid:Nat)(ops:Array Oper)(Kp:List PanicEntry→S→cS→cR→Prop)(os:List Nat)(I0:cS)(n0:Nat)(N:List Nat→S→cS→cR→Prop):Ot→S→cS→cR→Prop
 | .fin pre post,σ,I,F=>kg P A rid ops Kp os I0 n0 pre σ I F (N post)
 | .fork pre i j x y,σ,I,F=>kg P A rid ops Kp os I0 n0 pre σ I F fun σ' I' F' =>
    kg P A rid ops Kp os I0 n0 [i] σ' I' F' (fun s J G=>rR P A rid ops Kp os I0 n0 N x s J G)∧kg P A rid ops Kp os I0 n0 [j] σ' I' F' (fun s J G=>rR P A rid ops Kp os I0 n0 N y s J G)
section
variable {P:Program} {A:n9} {rid:Nat} {ops:Array Oper}
theorem eH{ro:Option Nat}(hP:∀f,A.good f=true→dC P f){Kp:List PanicEntry→S→cS→cR→Prop}{K:S→cS→cR→Prop}{Q:Exit→Act→World→Prop}(hops:∀(i:Nat) (o:Oper),ops[i]? = some o→gx o.op=true) :
  ∀(l:List Nat) (σ:S) (I:cS) (F:cR) (a:Act) (w:World),gY P A rid ops Kp l σ I F K→Rel σ I F a w →
   (∀σ' I' F' a' w',Rel σ' I' F' a' w'→cS.le I I'→K σ' I' F'→du (dA ops.toList) σ a σ' a'→Q .normal a' w') →
   (∀ch σ' I' F' a' w',Rel σ' I' F' a' w'→cS.le I I'→Kp ch σ' I' F'→du (dA ops.toList) σ a σ' a'→Q (.panic ch) a' w') →
   qM P ro ops pW Q l a w
 | [],σ,I,F,a,w,h,hr,hN,hX=>hN σ I F a w hr (cS.le_refl I) h (du.refl _ _ _)
 | i::r,σ,I,F,a,w,h,hr,hN,hX=>by
   simp only[gY] at h
   split at h
   ·exact h.elim
   ·rename_i o ho
    have hd:∀t,o.dst=some t→t∈dA ops.toList:=fun t ht=>by
     have hm:o∈ops.toList:=by have:=Array.mem_of_getElem? ho;simpa using this
     exact List.mem_filterMap.2 ⟨o,hm,ht⟩
    refine⟨o,ho, ?_⟩
    split at h
    ·rename_i hw
     rw[if_pos (fP hw hr.t)]
     cases hp:pW o with
     | true =>
       rw[if_pos rfl]
       rw[hp,cond_true] at h
       obtain⟨av,hk,hy⟩:=kc h
       obtain⟨av',hg,hwf',hk⟩:=lp hk
       have hwf:=hy.wf σ.own hr.wft hr.wfo
       refine⟨av.g,fun w'=>hy.run a w' hr.t hr.wft (fun j b hb hh=>?_) (vP I w'), ?_⟩
       ·have:j<σ.own.length:=(List.getElem?_eq_some_iff.1 hb).1
        have hc:(List.range σ.own.length).contains j=true:=by simpa using this
        rw[hc] at hh;cases hh
       ·have hr':Rel (σ.put o.dst (some av')) I F (a.put o.dst av.g) w:=hr.put o.dst hg (hwf' hwf)
        have hkp:du (dA ops.toList) σ a (σ.put o.dst (some av')) (a.put o.dst av.g):=du.put (dv.put _ _ _) _ _ _ hd
        exact eH hP hops r _ I F _ w hk hr' (fun σ2 I2 F2 a2 w2 g1 g2 g3 g4=>hN σ2 I2 F2 a2 w2 g1 g2 g3 (hkp.trans g4)) fun ch σ2 I2 F2 a2 w2 g1 g2 g3 g4=>hX ch σ2 I2 F2 a2 w2 g1 g2 g3 (hkp.trans g4)
     | false =>
       rw[if_neg (by simp)]
       rw[hp,cond_false] at h
       have hh:=p5 (Q:=Qo o Q) hP h hr fun ch w' σ' I' F' h1 h2 h3 h4=>by
        unfold Ca at h3
        cases hb:(td o.op||xo o.op) with
        | true=>rw[hb] at h3;exact h3.elim
        | false=>rw[hb] at h3;exact⟨hb,hX ch σ' I' F' a w' h1 h2 h3 ⟨h4,fun _ _=>rfl,rfl⟩⟩
       refine qS (.inr (rL (hops i o ho))) ?_
       unfold BZ at hh ⊢
       revert hh
       generalize (execOp a.eval o).run P w=res
       intro hh
       have step:∀a' w',jk o σ I a (fun σ' I' F'=>gY P A rid ops Kp r σ' I' F' K) a' w'→qM P ro ops pW Q r a' w':=by
        intro a' w' ⟨σ',I',F',h1,h2,h3,h4,v,h5⟩
        have hk:du (dA ops.toList) σ a σ' a':=du.B6 h4 _ _ _ hd h5
        exact eH hP hops r σ' I' F' _ w' h3 h1
         (fun σ2 I2 F2 a2 w2 g1 g2 g3 g4=>hN σ2 I2 F2 a2 w2 g1 (cS.le_trans h2 g2) g3 (hk.trans g4))
         (fun ch σ2 I2 F2 a2 w2 g1 g2 g3 g4=>hX ch σ2 I2 F2 a2 w2 g1 (cS.le_trans h2 g2) g3 (hk.trans g4))
       cases res with
       | ok n w' =>
         cases n<;>simp only[Oper.uponIn] at hh ⊢<;>first | exact step _ _ hh | exact hh.elim | skip
         ·refine⟨hh.1,hh.2.mono fun e w'' hq=>?_⟩
          cases e with
          | returned v=>exact step _ _ hq
          | panicked ch=>exact hq
          | outgrown=>exact hq
         ·refine⟨hh.1,hh.2.mono fun e w'' hq=>?_⟩
          cases e with
          | returned v=>exact step _ _ hq
          | panicked ch=>exact hq
          | outgrown=>exact hq
         ·exact⟨hh.1,hh.2.mono fun v w'' hq=>step _ _ hq⟩
       | halt x w'=>cases x<;>simp only[Oper.uponIn] at hh ⊢<;>first | exact hh | exact hh.elim
    ·rename_i hw
     rw[if_neg (by rw[fP hw hr.t];simp)]
     have hk:du (dA ops.toList) σ a (σ.put o.dst (some (.a (.v undef)))) (a.put o.dst undef):=du.put (dv.put _ _ _) _ _ _ hd
     exact eH hP hops r _ I F _ w h (hr.put o.dst (av:=.a (.v undef)) rfl trivial)
      (fun σ2 I2 F2 a2 w2 g1 g2 g3 g4=>hN σ2 I2 F2 a2 w2 g1 g2 g3 (hk.trans g4))
      (fun ch σ2 I2 F2 a2 w2 g1 g2 g3 g4=>hX ch σ2 I2 F2 a2 w2 g1 g2 g3 (hk.trans g4))
    ·exact h.elim
def Ek(ops:Array Oper)(a a':Act):Prop:=a'.tmps.size=a.tmps.size∧∀t,t∉dA ops.toList→a'.tmps[t]? = a.tmps[t]?
theorem Ek.back{a a':Act}{t:Nat}{v:Value}(ht:t∈dA ops.toList)(h:Ek ops a (a'.put (some t) v)):Ek ops a a':=by
 have h1:dv (⟨[],[],[]⟩:S) ⟨[],[],[]⟩:=dv.refl _
 have hk:du (dA ops.toList) (⟨[],[],[]⟩:S) a' ⟨[],[],[]⟩ (a'.put (some t) v):=du.B6 h1 (some t) v _ (fun x hx=>by cases hx;exact ht) rfl
 exact⟨hk.size.symm.trans h.1,fun x hx=>(hk.tm x hx).symm.trans (h.2 x hx)⟩
def Pn.at(ops:Array Oper)(a:Act)(Q:Exit→Act→World→Prop):Pn ops :=
 ⟨fun c a' w'=>Ek ops a a'∧∀a'',Ek ops a a''→a''.defers=a'.defers→Q (.panic c) a'' w',fun c a' t v w ht h=>⟨h.1.back ht,fun a'' h1 h2=>h.2 a'' h1 (h2.trans rfl)⟩⟩
theorem rS(l:List Nat):∀(r:List (Option AV)) (t0 t:Nat) (av:AV),(uI l t0 r)[t]? = some (some av)→l.contains (t0+t)=false∧r[t]? = some (some av)
 | [],t0,t,av,h=>by simp[uI] at h
 | x::r,t0,0,av,h=>by
   simp only[uI,List.getElem?_cons_zero,Option.some.injEq] at h
   cases hc:l.contains t0 with
   | true=>rw[hc] at h;cases h
   | false=>rw[hc] at h;exact⟨by first | exact hc | rfl,by rw[List.getElem?_cons_zero];exact congrArg some h⟩
 | x::r,t0,t+1,av,h=>by
   simp only[uI,List.getElem?_cons_succ] at h
   have:=rS l r (t0+1) t av h
   rw[show t0+1+t=t0+(t+1) by omega] at this
   exact⟨this.1,by rw[List.getElem?_cons_succ];exact this.2⟩
theorem vQ(l:List Nat):∀(r:List (Option AV)) (t0:Nat),(uI l t0 r).length=r.length
 | [],_=>rfl
 | x::r,t0=>by simp[uI,vQ l r]
theorem Pn.ok{Kp:List PanicEntry→S→cS→cR→Prop}{Q:Exit→Act→World→Prop}{σ σ':S}{I I':cS}{F':cR}{a a':Act}{w':World}{ch:List PanicEntry}(hX:∀ch σ' I' F' a' w',Rel σ' I' F' a' w'→cS.le I I'→Kp ch σ' I' F'→du (dA ops.toList) σ a σ' a'→Q (.panic ch) a' w')
  (h1:Rel σ' I' F' a' w') (h2:cS.le I I') (h3:Kp ch (σ'.qy ops) I' F') (h4:du (dA ops.toList) σ a σ' a'):(Pn.at ops a Q).f ch a' w':=by
 refine⟨⟨h4.size,h4.tm⟩,fun a'' g1 g2=>hX ch (σ'.qy ops) I' F' a'' w' ⟨?_,fun t av ht=>?_, ?_,fun t av ht=>?_,h1.wfo,h1.sat⟩ h2 h3 ⟨h4.own,g1.2,g1.1⟩⟩
 ·show (uI _ 0 σ'.tm).length=_
  rw[vQ,h1.size,h4.size,g1.1]
 ·have:=rS _ _ _ _ _ ht
  rw[Nat.zero_add] at this
  have hn:t∉dA ops.toList:=fun hm=>by
   have hc:(dA ops.toList).contains t=true:=by simpa using hm
   rw[hc] at this;cases this.1
  rw[g1.2 t hn,←h4.tm t hn];exact h1.tm t av this.2
 ·rw[g2];exact h1.defers
 ·exact h1.wft t av (rS _ _ _ _ _ ht).2
theorem xI{ro:Option Nat}(hP:∀f,A.good f=true→dC P f){id:Nat}{l:List Nat}{σ:S}{I:cS}{F:cR}{K:S→cS→cR→Prop}{Kp:List PanicEntry→S→cS→cR→Prop}{a:Act}{w:World}(hm:P.follows .mixedOrders=true)
  (hB:Ej ops pW l=true) (h:gY P A rid ops (fun ch σ' I' F'=>Kp ch (σ'.qy ops) I' F') l σ I F K) (hr:Rel σ I F a w) {Q:Exit→Act→World→Prop}
  (hQ:∀σ' I' F' a' w',Rel σ' I' F' a' w'→cS.le I I'→K σ' I' F'→du (dA ops.toList) σ a σ' a'→Q .normal a' w')
  (hX:∀ch σ' I' F' a' w',Rel σ' I' F' a' w'→cS.le I I'→Kp ch σ' I' F'→du (dA ops.toList) σ a σ' a'→Q (.panic ch) a' w'):(Code.region id ops true).wpIn (Fw ro) 0 P Q a w:=by
 have hops:∀(i:Nat) (o:Oper),ops[i]? = some o→gx o.op=true:=fun i o ho=>by
  have hm:o∈ops.toList:=by have:=Array.mem_of_getElem? ho;simpa using this
  simp only[Ej,Bool.and_eq_true] at hB
  have:=List.all_eq_true.1 hB.2 o hm
  simp only[Bool.and_eq_true] at this
  exact this.1
 have hr':Rel σ I F a { w with drawn:=w.drawn+1 }:=hr.s.rel (hr.sat.of_heap rfl ⟨rfl,rfl⟩)
 have hg:=eH (ro:=ro) (Q:=Qx (Pn.at ops a Q) fun a w=>Q .normal a w) hP hops l σ I F a _ h hr' (fun σ' I' F' a' w' h1 h2 h3 h4=>hQ σ' I' F' a' w' h1 h2 h3 h4) fun ch σ' I' F' a' w' h1 h2 h3 h4=>Pn.ok hX h1 h2 h3 h4
 exact wpIn_mono (wpIn_region_any hm (AM (kG _ _) hB hg)) fun e a' w' hq=>by
  cases e with
  | normal=>exact hq
  | panic ch=>exact hq.2 a' hq.1 rfl
  | _=>exact hq.elim
theorem vR{ro:Option Nat}(hP:∀f,A.good f=true→dC P f){id:Nat}{l:List Nat}{p q:Nat}{lA lB:List Nat}{σ:S}{I:cS}{F:cR}{K:S→cS→cR→Prop}{Kp:List PanicEntry→S→cS→cR→Prop}{a:Act}{w:World}(hm:P.follows .mixedOrders=true)
  (hB:AN ops pW l p q lA lB=true) (h:gY P A rid ops (fun ch σ' I' F'=>Kp ch (σ'.qy ops) I' F') l σ I F fun σ' I' F'=>gY P A rid ops (fun ch σ' I' F'=>Kp ch (σ'.qy ops) I' F') (p::lA) σ' I' F' K∧gY P A rid ops (fun ch σ' I' F'=>Kp ch (σ'.qy ops) I' F') (q::lB) σ' I' F' K) (hr:Rel σ I F a w) {Q:Exit→Act→World→Prop}
  (hQ:∀σ' I' F' a' w',Rel σ' I' F' a' w'→cS.le I I'→K σ' I' F'→du (dA ops.toList) σ a σ' a'→Q .normal a' w')
  (hX:∀ch σ' I' F' a' w',Rel σ' I' F' a' w'→cS.le I I'→Kp ch σ' I' F'→du (dA ops.toList) σ a σ' a'→Q (.panic ch) a' w'):(Code.region id ops true).wpIn (Fw ro) 0 P Q a w:=by
 have hops:∀(i:Nat) (o:Oper),ops[i]? = some o→gx o.op=true:=fun i o ho=>by
  have hm:o∈ops.toList:=by have:=Array.mem_of_getElem? ho;simpa using this
  simp only[AN,Bool.and_eq_true] at hB
  have:=List.all_eq_true.1 hB.2 o hm
  simp only[Bool.and_eq_true] at this
  exact this.1
 have hr':Rel σ I F a { w with drawn:=w.drawn+1 }:=hr.s.rel (hr.sat.of_heap rfl ⟨rfl,rfl⟩)
 have hg:=eH (ro:=ro) (Q:=Qx (Pn.at ops a Q) (Di P ro ops pW (Pn.at ops a Q) (fun a w=>Q .normal a w) p q lA lB)) hP hops l σ I F a _ h hr' (fun σ' I' F' a' w' h1 h2 h3 h4 =>
  ⟨eH (ro:=ro) (Q:=Qx (Pn.at ops a Q) fun a w=>Q .normal a w) hP hops (p::lA) σ' I' F' a' w' h3.1 h1 (fun σ2 I2 F2 a2 w2 g1 g2 g3 g4=>hQ σ2 I2 F2 a2 w2 g1 (cS.le_trans h2 g2) g3 (h4.trans g4)) fun ch σ2 I2 F2 a2 w2 g1 g2 g3 g4=>Pn.ok hX g1 (cS.le_trans h2 g2) g3 (h4.trans g4),
    eH (ro:=ro) (Q:=Qx (Pn.at ops a Q) fun a w=>Q .normal a w) hP hops (q::lB) σ' I' F' a' w' h3.2 h1 (fun σ2 I2 F2 a2 w2 g1 g2 g3 g4=>hQ σ2 I2 F2 a2 w2 g1 (cS.le_trans h2 g2) g3 (h4.trans g4)) fun ch σ2 I2 F2 a2 w2 g1 g2 g3 g4=>Pn.ok hX g1 (cS.le_trans h2 g2) g3 (h4.trans g4)⟩)
  fun ch σ' I' F' a' w' h1 h2 h3 h4=>Pn.ok hX h1 h2 h3 h4
 exact wpIn_mono (wpIn_region_any hm (zx hB hg)) fun e a' w' hq=>by
  cases e with
  | normal=>exact hq
  | panic ch=>exact hq.2 a' hq.1 rfl
  | _=>exact hq.elim
def tj(own0:List dX)(I0:cS)(w:World):Prop:=(∀(j:Nat) (b:dX),own0[j]? = some b→w.heap[b.num]? = some b.obj)∧∀(b:Nat) (o:Obj),I0 b=some o→w.heap[b]? = some o
def tq(own0:List dX)(σ:S):Prop:=∀(j:Nat) (b:dX),own0[j]? = some b→∃b':dX,σ.own[j]? = some b'∧b'.num=b.num∧b'.elem=b.elem∧b'.cells=b.cells∧b'.ro=true
theorem tq.keep{own0:List dX}{σ σ':S}(h:tq own0 σ)(k:dv σ σ'):tq own0 σ':=fun j b hb=>by
 obtain⟨b',h1,h2,h3,h4,h5⟩:=h j b hb
 obtain⟨b2,g1,g2,g3,g4⟩:=k j b' h1
 obtain⟨g5,g6⟩:=g4 h5
 exact⟨b2,g1,g2.trans h2,g3.trans h3,g6.trans h4,g5⟩
theorem tq.obj{own0:List dX}{σ:S}(h:tq own0 σ){j:Nat}{b b':dX}(hb:own0[j]? = some b)(hb':σ.own[j]? = some b'):b'.num=b.num∧b'.obj=b.obj:=by
 obtain⟨b2,h1,h2,h3,h4,h5⟩:=h j b hb
 rw[hb'] at h1
 obtain rfl:=Option.some.inj h1
 exact⟨h2,by unfold dX.obj;rw[h3,h4]⟩
theorem tq.inv{own0:List dX}{σ:S}{I0 I:cS}{F:cR}{a:Act}{w:World}(h:tq own0 σ)(hr:Rel σ I F a w)(hl:cS.le I0 I):tj own0 I0 w:=⟨fun j b hb=>by
 obtain⟨b',h1,_⟩:=h j b hb
 obtain⟨e1,e2⟩:=h.obj hb h1
 rw[←e1,←e2]
 exact hr.sat.own _ _ (List.mem_append_left _ (List.mem_map.2 ⟨b',List.mem_of_getElem? h1,rfl⟩)),fun b o ho=>hr.sat.imm _ _ (hl.at ho)⟩
theorem zz{own0:List dX}{I0:cS}{w:World}(h:tj own0 I0 w):Reads I0 [] w:=by
 intro ad cs ⟨hsp,cells,e,fz,ho,hc⟩ j hj
 have hb:w.heap[ad.block]? = some (.cells cells e fz):=ho.elim (h.2 _ _) fun h=>by cases h
 unfold World.cell? Addr.add
 by_cases h0:j=0
 ·subst h0;simp[hb,hsp];have:=hc 0 hj;simpa using this
 ·simp[h0,hb];exact hc j hj
theorem eI{ro:Option Nat}(hP:∀f,A.good f=true→dC P f){os:List Nat}{own0:List dX}{I0:cS}{Kp:List PanicEntry→S→cS→cR→Prop}{K:S→cS→cR→Prop}{N:Pn ops}{R:Act→World→Prop}(hops:∀(i:Nat) (o:Oper),ops[i]? = some o→gx o.op=true) :
  ∀(l:List Nat) (σ:S) (I:cS) (F:cR) (a:Act) (w:World),kg P A rid ops Kp os I0 own0.length l σ I F K→Rel σ I F a w→tq own0 σ→cS.le I0 I →
   (∀σ' I' F' a' w',Rel σ' I' F' a' w'→cS.le I I'→K σ' I' F'→du (dA ops.toList) σ a σ' a'→R a' w') →
   (∀ch σ' I' F' a' w',Rel σ' I' F' a' w'→cS.le I I'→Kp ch σ' I' F'→du (dA ops.toList) σ a σ' a'→N.f ch a' w') →
   uG P ro ops pW N R (tj own0 I0) os l a w
 | [],σ,I,F,a,w,h,hr,hH,hl,hN,hX=>hN σ I F a w hr (cS.le_refl I) h (du.refl _ _ _)
 | i::r,σ,I,F,a,w,h,hr,hH,hl,hN,hX=>by
   simp only[kg] at h
   split at h
   ·exact h.elim
   ·rename_i o ho
    have hd:∀t,o.dst=some t→t∈dA ops.toList:=fun t ht=>List.mem_filterMap.2 ⟨o,by have:=Array.mem_of_getElem? ho;simpa using this,ht⟩
    show fS P ro ops pW N R (tj own0 I0) os i (uG P ro ops pW N R (tj own0 I0) os r) a w
    unfold fS
    by_cases hio:i∈os
    ·rw[if_pos hio]
     refine⟨o,ho, ?_⟩
     split at h
     ·rename_i hw
      rw[show os.contains i=true by simpa using hio,cond_true] at h
      obtain⟨av,hk,hy⟩:=kc h
      obtain⟨av',hg,hwf',hk⟩:=lp hk
      have hwf:=hy.wf σ.own hr.wft hr.wfo
      refine⟨av.g,⟨fun _ w' hI=>hy.run a w' hr.t hr.wft (fun j b hb hh=>?_) (zz hI),fun hn=>absurd (fP hw hr.t) hn⟩, ?_⟩
      ·have hj:j<σ.own.length:=(List.getElem?_eq_some_iff.1 hb).1
       have hj0:j<own0.length:=by
        rcases Nat.lt_or_ge j own0.length with h | h
        ·exact h
        ·have:((List.range σ.own.length).drop own0.length).contains j=true:=by
          simp only[List.contains_iff_mem]
          refine List.mem_iff_getElem?.2 ⟨j-own0.length, ?_⟩
          rw[List.getElem?_drop,show own0.length+(j-own0.length)=j by omega]
          simp[hj]
         rw[this] at hh;cases hh
       obtain⟨e1,e2⟩:=hH.obj (List.getElem?_eq_getElem hj0) hb
       rw[e1,e2]
       exact hI.1 j _ (List.getElem?_eq_getElem hj0)
      ·have hr':Rel (σ.put o.dst (some av')) I F (a.put o.dst av.g) w:=hr.put o.dst hg (hwf' hwf)
       have hkp:du (dA ops.toList) σ a (σ.put o.dst (some av')) (a.put o.dst av.g):=du.put (dv.put _ _ _) _ _ _ hd
       exact eI hP hops r _ I F _ w hk hr' (hH.keep hkp.own) hl (fun σ2 I2 F2 a2 w2 g1 g2 g3 g4=>hN σ2 I2 F2 a2 w2 g1 g2 g3 (hkp.trans g4)) fun ch σ2 I2 F2 a2 w2 g1 g2 g3 g4=>hX ch σ2 I2 F2 a2 w2 g1 g2 g3 (hkp.trans g4)
     ·rename_i hw
      have hk:du (dA ops.toList) σ a (σ.put o.dst (some (.a (.v undef)))) (a.put o.dst undef):=du.put (dv.put _ _ _) _ _ _ hd
      refine⟨undef,⟨fun hn=>by (rw[fP hw hr.t] at hn;cases hn),fun _=>rfl⟩, ?_⟩
      exact eI hP hops r _ I F _ w h (hr.put o.dst (av:=.a (.v undef)) rfl trivial) (hH.keep hk.own) hl
       (fun σ2 I2 F2 a2 w2 g1 g2 g3 g4=>hN σ2 I2 F2 a2 w2 g1 g2 g3 (hk.trans g4)) (fun ch σ2 I2 F2 a2 w2 g1 g2 g3 g4=>hX ch σ2 I2 F2 a2 w2 g1 g2 g3 (hk.trans g4))
     ·exact h.elim
    ·rw[if_neg hio]
     refine⟨o,ho, ?_⟩
     split at h
     ·rename_i hw
      rw[if_pos (fP hw hr.t)]
      rw[show os.contains i=false by simpa using hio,cond_false] at h
      cases hp:pW o with
      | true =>
        rw[if_pos rfl]
        rw[hp,cond_true] at h
        obtain⟨av,hk,hy⟩:=kc h
        obtain⟨av',hg,hwf',hk⟩:=lp hk
        have hwf:=hy.wf σ.own hr.wft hr.wfo
        refine⟨av.g,fun w'=>hy.run a w' hr.t hr.wft (fun j b hb hh=>?_) (vP I w'), ?_⟩
        ·have:j<σ.own.length:=(List.getElem?_eq_some_iff.1 hb).1
         have hc:(List.range σ.own.length).contains j=true:=by simpa using this
         rw[hc] at hh;cases hh
        ·have hr':Rel (σ.put o.dst (some av')) I F (a.put o.dst av.g) w:=hr.put o.dst hg (hwf' hwf)
         have hkp:du (dA ops.toList) σ a (σ.put o.dst (some av')) (a.put o.dst av.g):=du.put (dv.put _ _ _) _ _ _ hd
         have hH':=hH.keep hkp.own
         exact⟨hH'.inv hr' hl,eI hP hops r _ I F _ w hk hr' hH' hl (fun σ2 I2 F2 a2 w2 g1 g2 g3 g4=>hN σ2 I2 F2 a2 w2 g1 g2 g3 (hkp.trans g4)) fun ch σ2 I2 F2 a2 w2 g1 g2 g3 g4=>hX ch σ2 I2 F2 a2 w2 g1 g2 g3 (hkp.trans g4)⟩
      | false =>
        rw[if_neg (by simp)]
        rw[hp,cond_false] at h
        have hh:=p5 (Q:=Qo o (Qx N R)) hP h hr fun ch w' σ' I' F' h1 h2 h3 h4=>by
         unfold Ca at h3
         cases hb:(td o.op||xo o.op) with
         | true=>rw[hb] at h3;exact h3.elim
         | false=>rw[hb] at h3;exact⟨hb,hX ch σ' I' F' a w' h1 h2 h3 ⟨h4,fun _ _=>rfl,rfl⟩⟩
        refine qS (.inr (rL (hops i o ho))) ?_
        unfold BZ at hh ⊢
        revert hh
        generalize (execOp a.eval o).run P w=res
        intro hh
        have step:∀a' w',jk o σ I a (fun σ' I' F'=>kg P A rid ops Kp os I0 own0.length r σ' I' F' K) a' w'→tj own0 I0 w'∧uG P ro ops pW N R (tj own0 I0) os r a' w':=by
         intro a' w' ⟨σ',I',F',h1,h2,h3,h4,v,h5⟩
         have hk:du (dA ops.toList) σ a σ' a':=du.B6 h4 _ _ _ hd h5
         exact⟨(hH.keep h4).inv h1 (cS.le_trans hl h2),eI hP hops r σ' I' F' _ w' h3 h1 (hH.keep h4) (cS.le_trans hl h2)
          (fun σ2 I2 F2 a2 w2 g1 g2 g3 g4=>hN σ2 I2 F2 a2 w2 g1 (cS.le_trans h2 g2) g3 (hk.trans g4)) (fun ch σ2 I2 F2 a2 w2 g1 g2 g3 g4=>hX ch σ2 I2 F2 a2 w2 g1 (cS.le_trans h2 g2) g3 (hk.trans g4))⟩
        cases res with
        | ok n w' =>
          cases n<;>simp only[Oper.uponIn] at hh ⊢<;>first | exact step _ _ hh | exact hh.elim | skip
          ·refine⟨hh.1,hh.2.mono fun e w'' hq=>?_⟩
           cases e with
           | returned v=>exact step _ _ hq
           | panicked ch=>exact hq
           | outgrown=>exact hq
          ·refine⟨hh.1,hh.2.mono fun e w'' hq=>?_⟩
           cases e with
           | returned v=>exact step _ _ hq
           | panicked ch=>exact hq
           | outgrown=>exact hq
          ·exact⟨hh.1,hh.2.mono fun v w'' hq=>step _ _ hq⟩
        | halt x w'=>cases x<;>simp only[Oper.uponIn] at hh ⊢<;>first | exact hh | exact hh.elim
     ·rename_i hw
      rw[if_neg (by rw[fP hw hr.t];simp)]
      have hk:du (dA ops.toList) σ a (σ.put o.dst (some (.a (.v undef)))) (a.put o.dst undef):=du.put (dv.put _ _ _) _ _ _ hd
      have hr':=hr.put o.dst (av:=.a (.v undef)) rfl trivial
      exact⟨(hH.keep hk.own).inv hr' hl,eI hP hops r _ I F _ w h hr' (hH.keep hk.own) hl             (fun σ2 I2 F2 a2 w2 g1 g2 g3 g4=>hN σ2 I2 F2 a2 w2 g1 g2 g3 (hk.trans g4)) (fun ch σ2 I2 F2 a2 w2 g1 g2 g3 g4=>hX ch σ2 I2 F2 a2 w2 g1 g2 g3 (hk.trans g4))⟩
     ·exact h.elim
theorem vS{ro:Option Nat}(hP:∀f,A.good f=true→dC P f){id m n:Nat}{hid:List Nat}{σ:S}{I:cS}{F:cR}{K:S→cS→cR→Prop}{Kp:List PanicEntry→S→cS→cR→Prop}{a:Act}{w:World}(hm:P.follows .mixedOrders=true)
  (hT:pb ops m=true) (hS:ops.toList.all (fun o=>gx o.op)=true) (hB:qv (ops.extract 0 m)=true)
  (h:wD P A rid (ops.extract 0 m) n hid (ops.extract 0 m).toList 0 σ I F fun σ' F'=>uB P A rid ops (ops.toList.drop m) m σ' I F' K Kp) (hr:Rel σ I F a w) {Q:Exit→Act→World→Prop}
  (hQ:∀σ' I' F' a' w',Rel σ' I' F' a' w'→cS.le I I'→K σ' I' F'→du (dA ops.toList) σ a σ' a'→Q .normal a' w')
  (hX:∀ch σ' I' F' a' w',Rel σ' I' F' a' w'→cS.le I I'→Kp ch σ' I' F'→du (dA ops.toList) σ a σ' a'→Q (.panic ch) a' w'):(Code.region id ops true).wpIn (Fw ro) 0 P Q a w:=by
 have hr':Rel σ I F a { w with drawn:=w.drawn+1 }:=hr.s.rel (hr.sat.of_heap rfl ⟨rfl,rfl⟩)
 have hmm:m≤ops.size:=by
  simp only[pb,Bool.and_eq_true,decide_eq_true_eq] at hT
  exact hT.1
 have hsz:(ops.extract 0 m).size=m:=by simp;omega
 have hnd:(ops.toList.drop m).all (fun o=>rJ o.op)=true:=List.all_eq_true.2 fun o ho=>by
  have:=List.all_eq_true.1 hS o (List.mem_of_mem_drop ho)
  revert this;cases o.op<;>simp[gx,rJ]
 have hsub:∀t∈dA (ops.extract 0 m).toList,t∈dA ops.toList:=fun t ht=>by
  unfold dA at ht ⊢
  obtain⟨o,ho,he⟩:=List.mem_filterMap.1 ht
  refine List.mem_filterMap.2 ⟨o, ?_,he⟩
  rw[Array.toList_extract] at ho
  exact List.mem_of_mem_drop (List.mem_of_mem_take ho)
 have hsub2:∀t∈dA (ops.toList.drop m),t∈dA ops.toList:=fun t ht=>by
  unfold dA at ht ⊢
  obtain⟨o,ho,he⟩:=List.mem_filterMap.1 ht
  exact List.mem_filterMap.2 ⟨o,List.mem_of_mem_drop ho,he⟩
 have hlen:(ops.toList.drop m).length=ops.size-m:=by simp
 have heq:=wpOpsIn_eq_wpListIn (F:=Fw ro) (n:=0) (P:=P) (ops:=ops) (Q:=Q) (ops.toList.drop m) m (fun j=>by rw[List.getElem?_drop];simp)
 rw[hlen] at heq
 have hd:=rK (ro:=ro) (Q:=fun e a' w'=>e=.normal∧wpOpsIn (Fw ro) 0 P ops Q (List.range' m (ops.size-m)) a' w') hP hB h hr' fun σ' F' a' w' h1 h2 h3 =>
  ⟨rfl,by
    rw[heq]
    exact kf hP (ops.toList.drop m) m σ' I F' a' w' (.inr hnd) h2 h1 (fun σ2 I2 F2 a2 w2 g1 g2 g3 g4=>hQ σ2 I2 F2 a2 w2 g1 g2 g3 ((h3.mono hsub).trans (g4.mono hsub2)))
     (fun ch σ2 I2 F2 a2 w2 g1 g2 g3 g4=>hX ch σ2 I2 F2 a2 w2 g1 g2 g3 ((h3.mono hsub).trans (g4.mono hsub2)))⟩
 rw[hsz] at hd
 exact wpIn_region_any hm (zr hT (fun e a w hne h=>absurd h.1 hne) (fun a w h=>h.2) hd)
theorem kH{ro:Option Nat}(hP:∀f,A.good f=true→dC P f){os:List Nat}{own0:List dX}{I0:cS}{Kp:List PanicEntry→S→cS→cR→Prop}{M:List Nat→S→cS→cR→Prop}{N:Pn ops}{R:Act→World→Prop}(hops:∀(i:Nat) (o:Oper),ops[i]? = some o→gx o.op=true) :
  ∀(t:Ot) (σ:S) (I:cS) (F:cR) (a:Act) (w:World),rR P A rid ops Kp os I0 own0.length M t σ I F→Rel σ I F a w→tq own0 σ→cS.le I0 I →
   (∀post σ' I' F' a' w',Rel σ' I' F' a' w'→cS.le I I'→M post σ' I' F'→du (dA ops.toList) σ a σ' a'→qM P ro ops pW (Qx N R) post a' w') →
   (∀ch σ' I' F' a' w',Rel σ' I' F' a' w'→cS.le I I'→Kp ch σ' I' F'→du (dA ops.toList) σ a σ' a'→N.f ch a' w') →
   CS P ro ops pW N R (tj own0 I0) os t a w
 | .fin pre post,σ,I,F,a,w,h,hr,hH,hl,hN,hX=>eI hP hops pre σ I F a w h hr hH hl (fun σ' I' F' a' w' g1 g2 g3 g4=>hN post σ' I' F' a' w' g1 g2 g3 g4) hX
 | .fork pre i j x y,σ,I,F,a,w,h,hr,hH,hl,hN,hX =>
   eI hP hops pre σ I F a w h hr hH hl (fun σ' I' F' a' w' g1 g2 g3 g4 =>
    ⟨jP (R:=CS P ro ops pW N R (tj own0 I0) os x) (eI hP hops [i] σ' I' F' a' w' g3.1 g1 (hH.keep g4.own) (cS.le_trans hl g2) (fun σ2 I2 F2 a2 w2 k1 k2 k3 k4 =>
      kH hP hops x σ2 I2 F2 a2 w2 k3 k1 ((hH.keep g4.own).keep k4.own) (cS.le_trans hl (cS.le_trans g2 k2)) (fun post σ3 I3 F3 a3 w3 m1 m2 m3 m4=>hN post σ3 I3 F3 a3 w3 m1 (cS.le_trans g2 (cS.le_trans k2 m2)) m3 ((g4.trans k4).trans m4))
       fun ch σ3 I3 F3 a3 w3 m1 m2 m3 m4=>hX ch σ3 I3 F3 a3 w3 m1 (cS.le_trans g2 (cS.le_trans k2 m2)) m3 ((g4.trans k4).trans m4)) fun ch σ2 I2 F2 a2 w2 k1 k2 k3 k4=>hX ch σ2 I2 F2 a2 w2 k1 (cS.le_trans g2 k2) k3 (g4.trans k4)),
     jP (R:=CS P ro ops pW N R (tj own0 I0) os y) (eI hP hops [j] σ' I' F' a' w' g3.2 g1 (hH.keep g4.own) (cS.le_trans hl g2) (fun σ2 I2 F2 a2 w2 k1 k2 k3 k4 =>
      kH hP hops y σ2 I2 F2 a2 w2 k3 k1 ((hH.keep g4.own).keep k4.own) (cS.le_trans hl (cS.le_trans g2 k2)) (fun post σ3 I3 F3 a3 w3 m1 m2 m3 m4=>hN post σ3 I3 F3 a3 w3 m1 (cS.le_trans g2 (cS.le_trans k2 m2)) m3 ((g4.trans k4).trans m4))
       fun ch σ3 I3 F3 a3 w3 m1 m2 m3 m4=>hX ch σ3 I3 F3 a3 w3 m1 (cS.le_trans g2 (cS.le_trans k2 m2)) m3 ((g4.trans k4).trans m4)) fun ch σ2 I2 F2 a2 w2 k1 k2 k3 k4=>hX ch σ2 I2 F2 a2 w2 k1 (cS.le_trans g2 k2) k3 (g4.trans k4))⟩) hX
end
end Go.Vc
namespace Go.Vc
theorem mX:∀{l:List Lf} {vs:List Value},eF l vs=true→vs.length=l.length
 | [],[],_=>rfl
 | l::r,v::vs,h=>by simp only[eF,Bool.and_eq_true] at h;simp[mX h.2]
 | [],_::_,h=>by simp[eF] at h
 | _::_,[],h=>by simp[eF] at h
theorem kh:∀{l m:List Lf} {vs us:List Value},eF l vs=true→eF m us=true→eF (l++m) (vs++us)=true
 | [],_,[],_,_,h=>h
 | l::r,_,v::vs,_,h,k=>by
   simp only[eF,Bool.and_eq_true,List.cons_append] at h ⊢
   exact⟨h.1,kh h.2 k⟩
 | [],_,_::_,_,h,_=>by simp[eF] at h
 | _::_,_,[],_,h,_=>by simp[eF] at h
theorem la(σ:S):∀tms:List (Nat×Lf),(k9 σ tms).length=tms.length
 | []=>rfl
 | (t,l)::r=>by simp[k9,la σ r]
theorem rT{σ:S}:∀{tms:List (Nat×Lf)} {k t:Nat} {v:Value},xE σ tms=true→(tms.map Prod.fst)[k]? = some t→(k9 σ tms)[k]? = some v →
  ∃av,σ.tm[t]? = some (some av)∧av.g=v
 | [],k,t,v,_,h,_=>by simp at h
 | (s,l)::r,0,t,v,hok,h,hv=>by
   simp only[List.map_cons,List.getElem?_cons_zero,Option.some.injEq] at h
   subst h
   simp only[xE,Bool.and_eq_true] at hok
   simp only[k9,List.getElem?_cons_zero,Option.some.injEq] at hv
   obtain⟨h1,_⟩:=hok
   split at h1
   ·rename_i av ha;rw[ha] at hv;exact⟨av,ha,hv⟩
   ·cases h1
 | (s,l)::r,k+1,t,v,hok,h,hv=>by
   simp only[xE,Bool.and_eq_true] at hok
   simp only[k9,List.getElem?_cons_succ] at hv
   exact rT hok.2 (by simpa using h) hv
theorem tQ{σ:S}:∀{tms:List (Nat×Lf)},xE σ tms=true→eF (tms.map Prod.snd) (k9 σ tms)=true
 | [],_=>rfl
 | (s,l)::r,h=>by
   simp only[xE,Bool.and_eq_true] at h
   simp only[List.map_cons,k9,eF,Bool.and_eq_true]
   refine⟨?_,tQ h.2⟩
   obtain⟨h1,_⟩:=h
   split at h1
   ·exact h1
   ·cases h1
theorem tR{own:List dX}:∀{bks:List (Nat×List Lf)},oF own bks=true→eF (bks.flatMap Prod.snd) (oE own bks)=true
 | [],_=>rfl
 | (s,l)::r,h=>by
   simp only[oF,Bool.and_eq_true] at h
   simp only[List.flatMap_cons,oE]
   refine kh ?_ (tR h.2)
   obtain⟨h1,_⟩:=h
   split at h1
   ·simp only[Bool.and_eq_true] at h1;exact h1.2
   ·cases h1
theorem rU{σ:S}{c:Cut}(h:σ.CR c=true):eF c.Fa (σ.lu c)=true:=by
 simp only[S.CR,Bool.and_eq_true] at h
 exact kh (tQ h.1) (tR h.2)
theorem vT{own:List dX}:∀{bks:List (Nat×List Lf)} {i:Nat} {b:dX} {cs:List Value},oF own bks=true→own[i]? = some b →
  o9 bks (oE own bks) i=some cs→cs=b.cells.map AV.g
 | [],i,b,cs,_,_,h=>by simp[o9] at h
 | (j,ls)::r,i,b,cs,hok,hi,h=>by
   simp only[oF,Bool.and_eq_true] at hok
   obtain⟨h1,h2⟩:=hok
   split at h1
   ·rename_i b' hb'
    simp only[Bool.and_eq_true] at h1
    have hl:=mX h1.2
    simp only[o9,oE,hb'] at h
    cases hji:(j==i) with
    | true =>
      rw[hji] at h
      simp only[cond_true,Option.some.injEq] at h
      have:j=i:=by simpa using hji
      subst this
      rw[hi] at hb';cases hb'
      rw[←h,←hl];simp
    | false =>
      rw[hji] at h
      simp only[cond_false] at h
      rw[←hl,List.drop_left] at h
      exact vT h2 hi h
   ·cases h1
theorem rV:∀{bks:List (Nat×List Lf)} {vs us:List Value} {i:Nat},(o9 bks vs i).isSome=(o9 bks us i).isSome
 | [],_,_,_=>rfl
 | (j,ls)::r,vs,us,i=>by
   simp only[o9]
   cases (j==i) with
   | true=>rfl
   | false=>exact rV
theorem uJ{own:List dX}:∀{bks:List (Nat×List Lf)} {vs:List Value} {i:Nat} {b:dX},oF own bks=true→own[i]? = some b→(o9 bks vs i).isSome=true→b.ro=false
 | [],_,_,_,_,_,h=>by simp[o9] at h
 | (j,ls)::r,vs,i,b,hok,hi,h=>by
   simp only[oF,Bool.and_eq_true] at hok
   obtain⟨h1,h2⟩:=hok
   simp only[o9] at h
   cases hji:(j==i) with
   | true =>
     have:j=i:=by simpa using hji
     subst this
     rw[hi] at h1
     simp only[Bool.and_eq_true,Bool.not_eq_true'] at h1
     exact h1.1
   | false=>rw[hji] at h;exact uJ h2 hi h
theorem AO(c:Cut)(l:List Nat)(vs:List Value)(σ:S):jq σ.own (σ.lay c l vs).own:=fun i b hb=>by
 refine⟨_,by show (eV _ _ 0 σ.own)[i]? = _;rw[fW,hb];rfl, ?_⟩
 split<;>rfl
theorem AP{c:Cut}{l:List Nat}{vs:List Value}{σ:S}(hok:oF σ.own c.bks=true):dv σ (σ.lay c l vs):=fun i b hb=>by
 refine⟨_,by show (eV _ _ 0 σ.own)[i]? = _;rw[fW,hb];rfl, ?_⟩
 cases hs:o9 c.bks (vs.drop c.tms.length) (0+i) with
 | none=>exact⟨rfl,rfl,fun _=>⟨rfl,rfl⟩⟩
 | some cs =>
   refine⟨rfl,rfl,fun hr=>?_⟩
   have:=uJ (vs:=vs.drop c.tms.length) hok hb (by rw[Nat.zero_add] at hs;rw[hs];rfl)
   rw[this] at hr;cases hr
theorem Rel.lay{σ0 σ:S}{I0 I:cS}{F0 F:cR}{a0 a:Act}{w0 w:World}(c:Cut)(l:List Nat)(hr0:Rel σ0 I0 F0 a0 w0)(hr:Rel σ I F a w)
  (hown:∀(i:Nat) (b:dX),σ0.own[i]? = some b→∃b':dX,σ.own[i]? = some b'∧b'.num=b.num∧b'.elem=b.elem ∧
    (o9 c.bks ((σ.lu c).drop c.tms.length) i=none→b'.cells=b.cells))
  (htm:∀t,t∉l→a.tmps[t]? = a0.tmps[t]?) (hsz:a.tmps.size=a0.tmps.size) (hok:σ.CR c=true) (hdf:σ.df=σ0.df):Rel (σ0.lay c l (σ.lu c)) I F a w:=by
 have hok':=hok
 simp only[S.CR,Bool.and_eq_true] at hok'
 have hdrop:(σ.lu c).drop c.tms.length=oE σ.own c.bks:=by
  unfold S.lu;rw[←la σ c.tms,List.drop_left]
 have htake:(σ.lu c).take c.tms.length=k9 σ c.tms:=by
  unfold S.lu;rw[←la σ c.tms,List.take_left]
 have hsame:=AO c l (σ.lu c) σ0
 refine⟨?_, ?_,hr.defers.trans (by rw[hdf];rfl), ?_, ?_, ?_⟩
 ·simp only[S.lay,oj,oh];rw[hr0.size,hsz]
 ·intro t av ht
  rcases lU _ _ _ t av ht with ⟨k,v,h1,h2,rfl⟩ | h
  ·rw[htake] at h2
   obtain⟨av',h3,h4⟩:=rT hok'.1 h1 h2
   have:=hr.tm t av' h3
   rw[this,h4];rfl
  ·obtain⟨h1,h2⟩:=oG _ _ _ _ h
   rw[htm t h1];exact hr0.tm t av h2
 ·intro t av ht
  rcases lU _ _ _ t av ht with ⟨k,v,h1,h2,rfl⟩ | h
  ·trivial
  ·obtain⟨h1,h2⟩:=oG _ _ _ _ h
   exact AV.eZ hsame (hr0.wft t av h2)
 ·intro i b hb cell hc
  have hb':(eV c.bks ((σ.lu c).drop c.tms.length) 0 σ0.own)[i]? = some b:=hb
  rw[fW] at hb'
  cases h0:σ0.own[i]? with
  | none=>rw[h0] at hb';simp at hb'
  | some b0 =>
    rw[h0] at hb'
    simp only[Option.map_some,Option.some.injEq] at hb'
    subst hb'
    split at hc
    ·obtain⟨v,_,rfl⟩:=List.mem_map.1 hc;trivial
    ·exact AV.eZ hsame (hr0.wfo i b0 h0 cell hc)
 ·have heq:dp (σ0.lay c l (σ.lu c)).own=(dp σ.own).take σ0.own.length:=by
   apply List.ext_getElem?
   intro i
   simp only[dp,List.getElem?_map,List.getElem?_take,S.lay,fW,Nat.zero_add]
   cases h0:σ0.own[i]? with
   | none =>
     have:¬i<σ0.own.length:=fun h=>by simp[h] at h0
     simp[this]
   | some b0 =>
     have hlt:i<σ0.own.length:=by
      rcases Nat.lt_or_ge i σ0.own.length with h | h
      ·exact h
      ·simp[List.getElem?_eq_none h] at h0
     obtain⟨b',h1,h2,h3,h4⟩:=hown i b0 h0
     simp only[if_pos hlt,h1,Option.map_some]
     cases hs:o9 c.bks ((σ.lu c).drop c.tms.length) i with
     | none =>
       have h5:=h4 hs
       simp[dX.obj,h2,h3,h5]
     | some cs =>
       have h5:=vT hok'.2 h1 (by rw[hdrop] at hs;exact hs)
       simp[dX.obj,h2,h3,h5,AV.g,At.g,Function.comp_def]
  rw[heq]
  exact hr.sat.sub ((List.take_sublist _ _).append (List.Sublist.refl F))
theorem rW(own0:List dX):∀(i:Nat) (own:List dX),dp (yC own0 i own)=dp own
 | _,[]=>rfl
 | i,b::r=>by
   simp only[yC,dp,List.map_cons]
   have:=rW own0 (i+1) r
   unfold dp at this
   rw[this]
   congr 1
   split<;>rfl
theorem vU(own0:List dX)(own:List dX):jq own (yC own0 0 own):=fun i b hb=>by
 refine⟨_,by rw[nF,hb];rfl, ?_⟩
 split<;>rfl
theorem Rel.unlock{σ σ0:S}{I:cS}{F:cR}{a:Act}{w:World}(h:Rel σ I F a w):Rel (σ.unlock σ0) I F a w:=by
 refine h.heap (vU _ _) ?_ (by rw[rW];exact h.sat)
 intro i b hb c hc
 rw[nF] at hb
 cases h0:σ.own[i]? with
 | none=>rw[h0] at hb;simp at hb
 | some b0 =>
   rw[h0] at hb
   simp only[Option.map_some,Option.some.injEq] at hb
   have:b.cells=b0.cells:=by rw[←hb];split<;>rfl
   rw[this] at hc
   exact AV.eZ (vU _ _) (h.wfo i b0 h0 c hc)
theorem qz{σ0 σ:S}{c:Cut}{l:List Nat}{vs:List Value}(hok:oF σ0.own c.bks=true)(hk:dv (σ0.lay c l vs) σ):dv σ0 (σ.unlock σ0):=fun i b hb=>by
 obtain⟨b1,h1,e1,e2,h2⟩:=AP (l:=l) (vs:=vs) hok i b hb
 obtain⟨b2,h3,e3,e4,h4⟩:=hk i b1 h1
 refine⟨{ b2 with ro:=b.ro }, ?_,e3.trans e1,e4.trans e2,fun hr=>?_⟩
 ·show (yC σ0.own 0 σ.own)[i]? = _
  rw[nF,h3,Nat.zero_add,hb];rfl
 ·obtain⟨h5,h6⟩:=h2 hr
  exact⟨hr,(h4 h5).2.trans h6⟩
def gD(bks:List (Nat×List Lf)):Nat→List dX→List dX
 | _,[]=>[]
 | i,b::r=>(match o9 bks [] i with
   | some _=>b
   | none=>{ b with ro:=true })::gD bks (i+1) r
def S.lock(σ:S)(c:Cut):S:={ σ with own:=gD c.bks 0 σ.own }
theorem kI(bks:List (Nat×List Lf)):∀(i:Nat) (own:List dX) (j:Nat),(gD bks i own)[j]? = (own[j]?).map fun b =>
  match o9 bks [] (i+j) with
  | some _=>b
  | none=>{ b with ro:=true }
 | i,[],j=>by simp[gD]
 | i,b::r,0=>by simp only[gD,List.getElem?_cons_zero,Option.map_some,Nat.add_zero]
 | i,b::r,j+1=>by
   simp only[gD,List.getElem?_cons_succ]
   rw[kI bks (i+1) r j,show i+1+j=i+(j+1) by omega]
theorem tS(bks:List (Nat×List Lf)):∀(i:Nat) (own:List dX),dp (gD bks i own)=dp own
 | _,[]=>rfl
 | i,b::r=>by
   simp only[gD,dp,List.map_cons]
   have:=tS bks (i+1) r
   unfold dp at this
   rw[this]
   congr 1
   split<;>rfl
theorem qV{σ:S}{c:Cut}{i:Nat}{b:dX}(hb:σ.own[i]? = some b):∃b',(σ.lock c).own[i]? = some b'∧b'.num=b.num∧b'.elem=b.elem∧b'.cells=b.cells ∧
  (b.ro=true→b'.ro=true)∧(o9 c.bks [] i=none→b'.ro=true):=by
 refine⟨_,by show (gD _ 0 σ.own)[i]? = _;rw[kI,hb];rfl, ?_⟩
 rw[Nat.zero_add]
 cases o9 c.bks [] i with
 | none=>exact⟨rfl,rfl,rfl,fun _=>rfl,fun _=>rfl⟩
 | some cs=>exact⟨rfl,rfl,rfl,fun h=>h,fun h=>by cases h⟩
theorem Rel.lock{σ:S}{I:cS}{F:cR}{a:Act}{w:World}(h:Rel σ I F a w)(c:Cut):Rel (σ.lock c) I F a w:=by
 have hs:jq σ.own (σ.lock c).own:=fun i b hb=>by
  obtain⟨b',h1,h2,_⟩:=qV (c:=c) hb
  exact⟨b',h1,h2⟩
 refine h.heap hs ?_ (by show Sat I (dp (gD _ 0 _)++F) w;rw[tS];exact h.sat)
 intro i b hb cell hc
 cases h0:σ.own[i]? with
 | none =>
   have h1:(gD c.bks 0 σ.own)[i]? = some b:=hb
   rw[kI,h0] at h1;simp at h1
 | some b0 =>
   obtain⟨b',h1,_,_,h2,_⟩:=qV (c:=c) h0
   have:b'=b:=Option.some.inj (h1.symm.trans hb)
   subst this
   rw[h2] at hc
   exact AV.eZ hs (h.wfo i b0 h0 cell hc)
theorem ee{σ0 σ:S}{c:Cut}(hk:dv (σ0.lock c) σ):dv σ0 (σ.unlock σ0):=fun i b hb=>by
 obtain⟨b1,h1,e1,e2,h2,h3,_⟩:=qV (c:=c) hb
 obtain⟨b2,h4,e3,e4,h5⟩:=hk i b1 h1
 refine⟨{ b2 with ro:=b.ro }, ?_,e3.trans e1,e4.trans e2,fun hr=>⟨hr,(h5 (h3 hr)).2.trans h2⟩⟩
 show (yC σ0.own 0 σ.own)[i]? = _
 rw[nF,h4,Nat.zero_add,hb];rfl
def S.fa(σ:S):S:=σ.lock ⟨[],[],fun _ _ _ _ _ _ _=>True,[],[]⟩
theorem fw(σ:S):tq σ.fa.own σ.fa:=fun j b hb=>by
 refine⟨b,hb,rfl,rfl,rfl, ?_⟩
 have hb':(gD [] 0 σ.own)[j]? = some b:=hb
 rw[kI] at hb'
 cases h0:σ.own[j]? with
 | none=>rw[h0] at hb';simp at hb'
 | some b0 =>
   rw[h0] at hb'
   simp only[Option.map_some,o9,Option.some.injEq] at hb'
   rw[←hb']
theorem kJ(σ:S):σ.fa.own.length=σ.own.length:=by
 have h:∀(i:Nat) (own:List dX),(gD [] i own).length=own.length:=by
  intro i own
  induction own generalizing i with
  | nil=>rfl
  | cons b r ih=>simp[gD,ih]
 exact h 0 σ.own
theorem vV{P:Program}{A:n9}{rid:Nat}{ops:Array Oper}{ro:Option Nat}(hP:∀f,A.good f=true→dC P f){id:Nat}{os pre post:List Nat}{σ:S}{I:cS}{F:cR}{K:S→cS→cR→Prop}{Kp:List PanicEntry→S→cS→cR→Prop}{a:Act}{w:World}(hm:P.follows .mixedOrders=true)
  (hB:Dk ops pW os pre post=true) (h:kg P A rid ops (fun ch σ' I' F'=>Kp ch ((σ'.unlock σ).qy ops) I' F') os I σ.own.length pre σ.fa I F fun σ' I' F'=>gY P A rid ops (fun ch σ' I' F'=>Kp ch (σ'.qy ops) I' F') post (σ'.unlock σ) I' F' K) (hr:Rel σ I F a w) {Q:Exit→Act→World→Prop}
  (hQ:∀σ' I' F' a' w',Rel σ' I' F' a' w'→cS.le I I'→K σ' I' F'→du (dA ops.toList) σ a σ' a'→Q .normal a' w')
  (hX:∀ch σ' I' F' a' w',Rel σ' I' F' a' w'→cS.le I I'→Kp ch σ' I' F'→du (dA ops.toList) σ a σ' a'→Q (.panic ch) a' w'):(Code.region id ops true).wpIn (Fw ro) 0 P Q a w:=by
 have hops:∀(i:Nat) (o:Oper),ops[i]? = some o→gx o.op=true:=fun i o ho=>by
  have hm:o∈ops.toList:=by have:=Array.mem_of_getElem? ho;simpa using this
  simp only[Dk,Bool.and_eq_true] at hB
  have:=List.all_eq_true.1 hB.2 o hm
  simp only[Bool.and_eq_true] at this
  exact this.1
 have hr1:Rel σ I F a { w with drawn:=w.drawn+1 }:=hr.s.rel (hr.sat.of_heap rfl ⟨rfl,rfl⟩)
 have hr':Rel σ.fa I F a { w with drawn:=w.drawn+1 }:=hr1.lock _
 rw[←kJ] at h
 have hg:=eI (ro:=ro) (N:=Pn.at ops a Q) (R:=qM P ro ops pW (Qx (Pn.at ops a Q) fun a w=>Q .normal a w) post) hP hops pre σ.fa I F a _ h hr' (fw σ) (cS.le_refl I) (fun σ' I' F' a' w' h1 h2 h3 h4 =>
  eH (ro:=ro) (Q:=Qx (Pn.at ops a Q) fun a w=>Q .normal a w) hP hops post (σ'.unlock σ) I' F' a' w' h3 h1.unlock (fun σ2 I2 F2 a2 w2 g1 g2 g3 g4 =>
   hQ σ2 I2 F2 a2 w2 g1 (cS.le_trans h2 g2) g3 (((⟨ee h4.own,h4.tm,h4.size⟩:du (dA ops.toList) σ a (σ'.unlock σ) a')).trans g4)) fun ch σ2 I2 F2 a2 w2 g1 g2 g3 g4=>Pn.ok hX g1 (cS.le_trans h2 g2) g3 (((⟨ee h4.own,h4.tm,h4.size⟩:du (dA ops.toList) σ a (σ'.unlock σ) a')).trans g4))
  fun ch σ' I' F' a' w' h1 h2 h3 h4=>Pn.ok hX h1.unlock h2 h3 (⟨ee h4.own,h4.tm,h4.size⟩:du (dA ops.toList) σ a (σ'.unlock σ) a')
 exact wpIn_mono (wpIn_region_any hm (tN hB ((fw σ).inv hr' (cS.le_refl I)) hg)) fun e a' w' hq=>by
  cases e with
  | normal=>exact hq
  | panic ch=>exact hq.2 a' hq.1 rfl
  | _=>exact hq.elim
def cS.del(I:cS)(b:Nat):cS:=⟨fun x=>if x=b then none else I x,I.os,I.out⟩
theorem Sat.AQ{I I':cS}{F:cR}{w:World}{b:Nat}{o:Obj}(hb:I b=none)(hl:cS.le (I.put b o) I')(h:Sat I' F w):cS.le I (I'.del b)∧Sat (I'.del b) ((b,o)::F) w:=by
 have ho:I' b=some o:=hl.at (by simp[cS.put])
 refine⟨⟨fun x y hx=>?_,hl.2.1,hl.2.2⟩,fun x y hx=>?_,fun x y hx=>?_,fun x y hx=>?_, ?_,h.env⟩
 ·have hne:x≠b:=fun e=>by rw[e,hb] at hx;cases hx
  show (if x=b then none else I' x)=some y
  rw[if_neg hne]
  exact hl.at (by simp[cS.put,hne,hx])
 ·have hx:(if x=b then none else I' x)=some y:=hx
  split at hx
  ·cases hx
  ·exact h.imm _ _ hx
 ·rcases List.mem_cons.1 hx with e | hx
  ·cases e;exact h.imm _ _ ho
  ·exact h.own _ _ hx
 ·show (if x=b then none else I' x)=none
  split
  ·rfl
  ·rename_i hne
   rcases List.mem_cons.1 hx with e | hx
   ·cases e;exact absurd rfl hne
   ·exact h.off _ _ hx
 ·rw[List.map_cons,List.nodup_cons]
  refine⟨fun hm=>?_,h.nd⟩
  obtain⟨⟨x,y⟩,hx,rfl⟩:=List.mem_map.1 hm
  have:=h.off _ _ hx
  rw[this] at ho;cases ho
theorem vW{P:Program}{A:n9}{rid:Nat}{ops:Array Oper}{ro:Option Nat}(hP:∀f,A.good f=true→dC P f){id:Nat}{os pre post:List Nat}{σ:S}{I:cS}{F F1:cR}{b:Nat}{o:Obj}{K:S→cS→cR→Prop}{Kp:List PanicEntry→S→cS→cR→Prop}{a:Act}{w:World}(hm:P.follows .mixedOrders=true)
  (hB:Dk ops pW os pre post=true) (hp:F.Perm ((b,o)::F1)) (h:kg P A rid ops (fun ch σ' I' F'=>Kp ch ((σ'.unlock σ).qy ops) (I'.del b) ((b,o)::F')) os (I.put b o) σ.own.length pre σ.fa (I.put b o) F1 fun σ' I' F'=>gY P A rid ops (fun ch σ' I' F'=>Kp ch (σ'.qy ops) I' F') post (σ'.unlock σ) (I'.del b) ((b,o)::F') K) (hr:Rel σ I F a w) {Q:Exit→Act→World→Prop}
  (hQ:∀σ' I' F' a' w',Rel σ' I' F' a' w'→cS.le I I'→K σ' I' F'→du (dA ops.toList) σ a σ' a'→Q .normal a' w')
  (hX:∀ch σ' I' F' a' w',Rel σ' I' F' a' w'→cS.le I I'→Kp ch σ' I' F'→du (dA ops.toList) σ a σ' a'→Q (.panic ch) a' w'):(Code.region id ops true).wpIn (Fw ro) 0 P Q a w:=by
 have hops:∀(i:Nat) (o:Oper),ops[i]? = some o→gx o.op=true:=fun i o ho=>by
  have hm:o∈ops.toList:=by have:=Array.mem_of_getElem? ho;simpa using this
  simp only[Dk,Bool.and_eq_true] at hB
  have:=List.all_eq_true.1 hB.2 o hm
  simp only[Bool.and_eq_true] at this
  exact this.1
 have hsat:Sat I ((b,o)::(dp σ.own++F1)) w:=hr.sat.perm ((hp.append_left _).trans List.perm_middle)
 have hIb:I b=none:=hsat.off _ _ (.head _)
 have hr1:Rel σ (I.put b o) F1 a { w with drawn:=w.drawn+1 }:=hr.s.rel (hsat.kF.2.of_heap rfl ⟨rfl,rfl⟩)
 have hr':Rel σ.fa (I.put b o) F1 a { w with drawn:=w.drawn+1 }:=hr1.lock _
 rw[←kJ] at h
 have hdem:∀{σ':S} {I':cS} {F':cR} {a':Act} {w':World},Rel σ' I' F' a' w'→cS.le (I.put b o) I'→cS.le I (I'.del b)∧Rel (σ'.unlock σ) (I'.del b) ((b,o)::F') a' w':=fun h1 h2=>by
  have hu:=h1.unlock (σ0:=σ)
  obtain⟨d1,d2⟩:=Sat.AQ hIb h2 hu.sat
  exact⟨d1,hu.s.rel (d2.perm List.perm_middle.symm)⟩
 have hg:=eI (ro:=ro) (N:=Pn.at ops a Q) (R:=qM P ro ops pW (Qx (Pn.at ops a Q) fun a w=>Q .normal a w) post) hP hops pre σ.fa (I.put b o) F1 a _ h hr' (fw σ) (cS.le_refl _) (fun σ' I' F' a' w' h1 h2 h3 h4=>by
  obtain⟨d1,hu'⟩:=hdem h1 h2
  exact eH (ro:=ro) (Q:=Qx (Pn.at ops a Q) fun a w=>Q .normal a w) hP hops post (σ'.unlock σ) (I'.del b) ((b,o)::F') a' w' h3 hu' (fun σ2 I2 F2 a2 w2 g1 g2 g3 g4 =>
   hQ σ2 I2 F2 a2 w2 g1 (cS.le_trans d1 g2) g3 (((⟨ee h4.own,h4.tm,h4.size⟩:du (dA ops.toList) σ a (σ'.unlock σ) a')).trans g4)) fun ch σ2 I2 F2 a2 w2 g1 g2 g3 g4=>Pn.ok hX g1 (cS.le_trans d1 g2) g3 (((⟨ee h4.own,h4.tm,h4.size⟩:du (dA ops.toList) σ a (σ'.unlock σ) a')).trans g4))
  fun ch σ' I' F' a' w' h1 h2 h3 h4=>Pn.ok hX (hdem h1 h2).2 (hdem h1 h2).1 h3 (⟨ee h4.own,h4.tm,h4.size⟩:du (dA ops.toList) σ a (σ'.unlock σ) a')
 exact wpIn_mono (wpIn_region_any hm (tN hB ((fw σ).inv hr' (cS.le_refl _)) hg)) fun e a' w' hq=>by
  cases e with
  | normal=>exact hq
  | panic ch=>exact hq.2 a' hq.1 rfl
  | _=>exact hq.elim
theorem yH{b:Bool}{p q:Prop}(h:cond b p q):p∨q:=by
 cases b
 ·exact .inr h
 ·exact .inl h
theorem yI{ops:Array Oper}{os:List Nat}{t:Ot}(hB:Dm ops pW os t=true):∀(i:Nat) (o:Oper),ops[i]? = some o→gx o.op=true:=fun i o ho=>by
 have hm:o∈ops.toList:=by have:=Array.mem_of_getElem? ho;simpa using this
 simp only[Dm,Bool.and_eq_true] at hB
 have:=List.all_eq_true.1 hB.2 o hm
 simp only[Bool.and_eq_true] at this
 exact this.1
theorem vX{P:Program}{A:n9}{rid:Nat}{ops:Array Oper}{ro:Option Nat}(hP:∀f,A.good f=true→dC P f){id:Nat}{os:List Nat}{t:Ot}{σ:S}{I:cS}{F:cR}{K:S→cS→cR→Prop}{Kp:List PanicEntry→S→cS→cR→Prop}{a:Act}{w:World}(hm:P.follows .mixedOrders=true)
  (hB:Dm ops pW os t=true) (h:rR P A rid ops (fun ch σ' I' F'=>Kp ch ((σ'.unlock σ).qy ops) I' F') os I σ.own.length (fun post σ' I' F'=>gY P A rid ops (fun ch σ' I' F'=>Kp ch (σ'.qy ops) I' F') post (σ'.unlock σ) I' F' K) t σ.fa I F) (hr:Rel σ I F a w) {Q:Exit→Act→World→Prop}
  (hQ:∀σ' I' F' a' w',Rel σ' I' F' a' w'→cS.le I I'→K σ' I' F'→du (dA ops.toList) σ a σ' a'→Q .normal a' w')
  (hX:∀ch σ' I' F' a' w',Rel σ' I' F' a' w'→cS.le I I'→Kp ch σ' I' F'→du (dA ops.toList) σ a σ' a'→Q (.panic ch) a' w'):(Code.region id ops true).wpIn (Fw ro) 0 P Q a w:=by
 have hops:=yI hB
 have hr1:Rel σ I F a { w with drawn:=w.drawn+1 }:=hr.s.rel (hr.sat.of_heap rfl ⟨rfl,rfl⟩)
 have hr':Rel σ.fa I F a { w with drawn:=w.drawn+1 }:=hr1.lock _
 rw[←kJ] at h
 have hg:=kH (ro:=ro) (N:=Pn.at ops a Q) (R:=fun a w=>Q .normal a w) hP hops t σ.fa I F a _ h hr' (fw σ) (cS.le_refl I) (fun post σ' I' F' a' w' h1 h2 h3 h4 =>
  eH (ro:=ro) (Q:=Qx (Pn.at ops a Q) fun a w=>Q .normal a w) hP hops post (σ'.unlock σ) I' F' a' w' h3 h1.unlock (fun σ2 I2 F2 a2 w2 g1 g2 g3 g4 =>
   hQ σ2 I2 F2 a2 w2 g1 (cS.le_trans h2 g2) g3 (((⟨ee h4.own,h4.tm,h4.size⟩:du (dA ops.toList) σ a (σ'.unlock σ) a')).trans g4)) fun ch σ2 I2 F2 a2 w2 g1 g2 g3 g4=>Pn.ok hX g1 (cS.le_trans h2 g2) g3 (((⟨ee h4.own,h4.tm,h4.size⟩:du (dA ops.toList) σ a (σ'.unlock σ) a')).trans g4))
  fun ch σ' I' F' a' w' h1 h2 h3 h4=>Pn.ok hX h1.unlock h2 h3 (⟨ee h4.own,h4.tm,h4.size⟩:du (dA ops.toList) σ a (σ'.unlock σ) a')
 exact wpIn_mono (wpIn_region_any hm (tP hB ((fw σ).inv hr' (cS.le_refl I)) hg)) fun e a' w' hq=>by
  cases e with
  | normal=>exact hq
  | panic ch=>exact hq.2 a' hq.1 rfl
  | _=>exact hq.elim
theorem uK{P:Program}{A:n9}{rid:Nat}{ops:Array Oper}{ro:Option Nat}(hP:∀f,A.good f=true→dC P f){id:Nat}{os:List Nat}{t:Ot}{σ:S}{I:cS}{F F1:cR}{b:Nat}{o:Obj}{K:S→cS→cR→Prop}{Kp:List PanicEntry→S→cS→cR→Prop}{a:Act}{w:World}(hm:P.follows .mixedOrders=true)
  (hB:Dm ops pW os t=true) (hp:F.Perm ((b,o)::F1)) (h:rR P A rid ops (fun ch σ' I' F'=>Kp ch ((σ'.unlock σ).qy ops) (I'.del b) ((b,o)::F')) os (I.put b o) σ.own.length (fun post σ' I' F'=>gY P A rid ops (fun ch σ' I' F'=>Kp ch (σ'.qy ops) I' F') post (σ'.unlock σ) (I'.del b) ((b,o)::F') K) t σ.fa (I.put b o) F1) (hr:Rel σ I F a w) {Q:Exit→Act→World→Prop}
  (hQ:∀σ' I' F' a' w',Rel σ' I' F' a' w'→cS.le I I'→K σ' I' F'→du (dA ops.toList) σ a σ' a'→Q .normal a' w')
  (hX:∀ch σ' I' F' a' w',Rel σ' I' F' a' w'→cS.le I I'→Kp ch σ' I' F'→du (dA ops.toList) σ a σ' a'→Q (.panic ch) a' w'):(Code.region id ops true).wpIn (Fw ro) 0 P Q a w:=by
 have hops:=yI hB
 have hsat:Sat I ((b,o)::(dp σ.own++F1)) w:=hr.sat.perm ((hp.append_left _).trans List.perm_middle)
 have hIb:I b=none:=hsat.off _ _ (.head _)
 have hr1:Rel σ (I.put b o) F1 a { w with drawn:=w.drawn+1 }:=hr.s.rel (hsat.kF.2.of_heap rfl ⟨rfl,rfl⟩)
 have hr':Rel σ.fa (I.put b o) F1 a { w with drawn:=w.drawn+1 }:=hr1.lock _
 rw[←kJ] at h
 have hdem:∀{σ':S} {I':cS} {F':cR} {a':Act} {w':World},Rel σ' I' F' a' w'→cS.le (I.put b o) I'→cS.le I (I'.del b)∧Rel (σ'.unlock σ) (I'.del b) ((b,o)::F') a' w':=fun h1 h2=>by
  have hu:=h1.unlock (σ0:=σ)
  obtain⟨d1,d2⟩:=Sat.AQ hIb h2 hu.sat
  exact⟨d1,hu.s.rel (d2.perm List.perm_middle.symm)⟩
 have hg:=kH (ro:=ro) (N:=Pn.at ops a Q) (R:=fun a w=>Q .normal a w) hP hops t σ.fa (I.put b o) F1 a _ h hr' (fw σ) (cS.le_refl _) (fun post σ' I' F' a' w' h1 h2 h3 h4=>by
  obtain⟨d1,hu'⟩:=hdem h1 h2
  exact eH (ro:=ro) (Q:=Qx (Pn.at ops a Q) fun a w=>Q .normal a w) hP hops post (σ'.unlock σ) (I'.del b) ((b,o)::F') a' w' h3 hu' (fun σ2 I2 F2 a2 w2 g1 g2 g3 g4 =>
   hQ σ2 I2 F2 a2 w2 g1 (cS.le_trans d1 g2) g3 (((⟨ee h4.own,h4.tm,h4.size⟩:du (dA ops.toList) σ a (σ'.unlock σ) a')).trans g4)) fun ch σ2 I2 F2 a2 w2 g1 g2 g3 g4=>Pn.ok hX g1 (cS.le_trans d1 g2) g3 (((⟨ee h4.own,h4.tm,h4.size⟩:du (dA ops.toList) σ a (σ'.unlock σ) a')).trans g4))
  fun ch σ' I' F' a' w' h1 h2 h3 h4=>Pn.ok hX (hdem h1 h2).2 (hdem h1 h2).1 h3 (⟨ee h4.own,h4.tm,h4.size⟩:du (dA ops.toList) σ a (σ'.unlock σ) a')
 exact wpIn_mono (wpIn_region_any hm (tP hB ((fw σ).inv hr' (cS.le_refl _)) hg)) fun e a' w' hq=>by
  cases e with
  | normal=>exact hq
  | panic ch=>exact hq.2 a' hq.1 rfl
  | _=>exact hq.elim
abbrev Kt:=Exit→S→cS→cR→Prop
def El(N:S→cS→cR→Prop)(K:Kt):Kt
 | .normal,σ,I,F=>N σ I F
 | e,σ,I,F=>K e σ I F
def AR(id:Nat)(K:Kt):Kt
 | .exit id',σ,I,F=>cond (id'==id) (K .normal σ I F) (K (.exit id') σ I F)
 | e,σ,I,F=>K e σ I F
def Em(K:Kt):Kt
 | .goto _,_,_,_=>False
 | e,σ,I,F=>K e σ I F
def FW(σ0:S)(N:S→cS→cR→Prop)(K:Kt):Kt
 | .normal,σ,I,F=>N σ I F
 | e,σ,I,F=>K e (σ.unlock σ0) I F
def S.fix(σ:S)(c:Cut):List Value:=c.fx.map fun t=>σ.cv (.tmp t)
def Cb(σ σ':S)(X:Prop):Prop:=cond (σ.df.isEmpty&&σ'.df.isEmpty) X (σ'.df=σ.df∧X)
theorem vY{σ σ':S}{X:Prop}(h:Cb σ σ' X):σ'.df=σ.df∧X:=by
 unfold Cb at h
 cases hc:(σ.df.isEmpty&&σ'.df.isEmpty) with
 | true =>
   rw[hc] at h
   simp only[Bool.and_eq_true,List.isEmpty_iff] at hc
   exact⟨by rw[hc.1,hc.2],h⟩
 | false=>rw[hc] at h;exact h
def Dn:List (Option Nat)→Option Nat→Bool
 | [],_=>false
 | none::r,none=>true
 | some a::r,some b=>a==b||Dn r (some b)
 | _::r,x=>Dn r x
def dd:List (Option Nat)→List (Option Nat)
 | []=>[]
 | x::r=>cond (Dn (dd r) x) (dd r) (x::dd r)
def jmp:List Nat→Code→List (Option Nat)
 | bs,.exit id=>cond (bs.contains id) [] [some id]
 | _,.ret=>[none]
 | bs,.seq a b=>jmp bs a++jmp bs b
 | bs,.cond _ a b=>jmp bs a++jmp bs b
 | bs,.block id c=>jmp (id::bs) c
 | bs,.loop c=>jmp bs c
 | bs,.scope c=>jmp bs c
 | bs,.rangeFunc _ _ _ y=>jmp bs y
 | _,_=>[]
def Fi:List (Option Nat)→(Option Nat→Prop)→Prop
 | [],_=>False
 | x::r,f=>f x∨Fi r f
def xJ:Option Nat→Exit
 | none=>.ret
 | some id=>.exit id
def rX:Option Nat→Code
 | none=>.ret
 | some id=>.exit id
theorem yJ:∀{l:List (Option Nat)} {f:Option Nat→Prop},Fi l f→∃j,f j
 | [],_,h=>h.elim
 | x::r,f,h=>by
   rcases h with h | h
   ·exact⟨x,h⟩
   ·exact yJ h
def CT:Sh→(Value→Prop)→Prop
 | .one l,Q=>vA l Q
 | .agg ls,Q=>ri ls fun vs=>Q (.agg vs.toArray)
def xK:List Sh→(List Value→Prop)→Prop
 | [],Q=>Q []
 | s::r,Q=>CT s fun v=>xK r fun vs=>Q (v::vs)
def Cut.Fj(c:Cut):List Lf:=c.bks.flatMap Prod.snd
def Fk(N:S→cS→cR→Prop):Kt
 | .normal,σ,I,F=>N σ I F
 | _,_,_,_=>False
def Dp(L Lb:cR)(Lx:Option Nat→cR)(n0:Nat)(Q:Ending→cS→cR→Prop):Kt
 | .normal,σ,I,F=>∃F3:cR,F.Perm (Lb++F3)∧Q (.returned (.bool true)) I (dp (σ.own.take n0)++(L++F3))
 | .ret,σ,I,F=>∃F3:cR,F.Perm (Lb++F3)∧Q (.returned (.bool false)) I (dp (σ.own.take n0)++(Lx none++F3))
 | .exit id,σ,I,F=>∃F3:cR,F.Perm (Lb++F3)∧Q (.returned (.bool false)) I (dp (σ.own.take n0)++(Lx (some id)++F3))
 | _,_,_,_=>False
def S.round(σ:S)(ct:Cut)(ps:Array Nat)(args vs:List Value):S:={ tm:=iy ps.toList args σ.tm,own:=eV ct.bks vs 0 σ.own,df:=[] }
def S.after(σ:S)(ct:Cut)(vs:List Value)(D:Nat)(rd:Option cR):S :=
 { tm:=σ.tm,own:=yC σ.own 0 (eV ct.bks vs 0 σ.own),df:=match rd with
  | none=>.mark D::σ.df
  | some _=>σ.df }
def vZ(rd:Option cR)(D:Nat)(F:cR):cR:=match rd with
 | none=>(D,.deferred (some []))::F
 | some _=>F
def En(rd:Option cR)(F:cR)(X:Prop):Prop:=match rd with
 | none=>X
 | some R=>(∃F3:cR,F.Perm (R++F3))∧X
def Fl(rd:Option cR)(ops:Array Oper):Bool:=match rd with
 | none=>true
 | some _=>ops.toList.all fun o=>rJ o.op
def W(P:Program)(A:n9):Option cR→Code→Nat→Kt→S→cS→cR→Prop
 | _,.skip,_,K,σ,I,F=>K .normal σ I F
 | _,.label _,_,K,σ,I,F=>K .normal σ I F
 | _,.exit id,_,K,σ,I,F=>K (.exit id) σ I F
 | _,.goto l,_,K,σ,I,F=>K (.goto l) σ I F
 | _,.ret,_,K,σ,I,F=>K .ret σ I F
 | rd,.region rid ops false,_,K,σ,I,F=>cond (Fl rd ops) (uB P A rid ops ops.toList 0 σ I F (K .normal) (fun ch=>K (.panic ch))) False
 | _,.region rid ops true,_,K,σ,I,F=>match A.ot rid with
   | some (os,t)=>cond (P.follows .mixedOrders&&Dm ops pW os t)
      (cond (os.contains 1000)
        (∃(b:Nat) (o:Obj) (F1:cR),F.Perm ((b,o)::F1)∧rR P A rid ops (fun ch σ' I' F'=>K (.panic ch) ((σ'.unlock σ).qy ops) (I'.del b) ((b,o)::F')) os (I.put b o) σ.own.length (fun post σ' I' F'=>gY P A rid ops (fun ch σ' I' F'=>K (.panic ch) (σ'.qy ops) I' F') post (σ'.unlock σ) (I'.del b) ((b,o)::F') (K .normal)) t σ.fa (I.put b o) F1)
        (rR P A rid ops (fun ch σ' I' F'=>K (.panic ch) ((σ'.unlock σ).qy ops) I' F') os I σ.own.length (fun post σ' I' F'=>gY P A rid ops (fun ch σ' I' F'=>K (.panic ch) (σ'.qy ops) I' F') post (σ'.unlock σ) I' F' (K .normal)) t σ.fa I F)) False
   | none=>match A.sq rid with
      | some l=>match A.s2 rid with
        | none=>match A.ol rid with
          | none=>cond (P.follows .mixedOrders&&Ej ops pW l) (gY P A rid ops (fun ch σ' I' F'=>K (.panic ch) (σ'.qy ops) I' F') l σ I F (K .normal)) False
          | some (os,m)=>cond (P.follows .mixedOrders&&Dk ops pW os (l.take m) (l.drop m))
            (cond (os.contains 1000)
              (∃(b:Nat) (o:Obj) (F1:cR),F.Perm ((b,o)::F1)∧kg P A rid ops (fun ch σ' I' F'=>K (.panic ch) ((σ'.unlock σ).qy ops) (I'.del b) ((b,o)::F')) os (I.put b o) σ.own.length (l.take m) σ.fa (I.put b o) F1 fun σ' I' F'=>gY P A rid ops (fun ch σ' I' F'=>K (.panic ch) (σ'.qy ops) I' F') (l.drop m) (σ'.unlock σ) (I'.del b) ((b,o)::F') (K .normal))
              (kg P A rid ops (fun ch σ' I' F'=>K (.panic ch) ((σ'.unlock σ).qy ops) I' F') os I σ.own.length (l.take m) σ.fa I F fun σ' I' F'=>gY P A rid ops (fun ch σ' I' F'=>K (.panic ch) (σ'.qy ops) I' F') (l.drop m) (σ'.unlock σ) I' F' (K .normal))) False
        | some (p,q,lA,lB)=>cond (P.follows .mixedOrders&&AN ops pW l p q lA lB)
          (gY P A rid ops (fun ch σ' I' F'=>K (.panic ch) (σ'.qy ops) I' F') l σ I F fun σ' I' F'=>gY P A rid ops (fun ch σ' I' F'=>K (.panic ch) (σ'.qy ops) I' F') (p::lA) σ' I' F' (K .normal)∧gY P A rid ops (fun ch σ' I' F'=>K (.panic ch) (σ'.qy ops) I' F') (q::lB) σ' I' F' (K .normal)) False
      | none=>match A.tl rid with
        | some m=>cond (P.follows .mixedOrders&&(pb ops m&&(ops.toList.all (fun o=>gx o.op)&&qv (ops.extract 0 m))))
          (wD P A rid (ops.extract 0 m) (match A.ds rid with | none=>m | some (n,_)=>n) (match A.ds rid with | none=>[] | some (_,hid)=>hid) (ops.extract 0 m).toList 0 σ I F fun σ' F' =>
            uB P A rid ops (ops.toList.drop m) m σ' I F' (K .normal) (fun ch=>K (.panic ch))) False
        | none=>cond (P.follows .mixedOrders&&qv ops)
          (match A.ds rid with
            | none=>wD P A rid ops ops.size [] ops.toList 0 σ I F fun σ' F'=>K .normal σ' I F'
            | some (n,hid)=>wD P A rid ops n hid ops.toList 0 σ I F fun σ' F'=>K .normal σ' I F') False
 | rd,.cond c x y,n,K,σ,I,F=>match σ.ev c with
   | some (.a (.v (.bool b)))=>(match b with
     | true=>W P A rd x (n+1) K σ I F
     | false=>W P A rd y (n+1+sz x) K σ I F)
   | _=>False
 | rd,.block id c,n,K,σ,I,F=>W P A rd c (n+1) (AR id K) σ I F
 | rd,.seq x y,n,K,σ,I,F=>match A.cut n with
   | none=>W P A rd x (n+1) (El (W P A rd y (n+1+sz x) K) K) σ I F
   | some ct=>cond (oF σ.own ct.bks)
     (W P A rd x (n+1) (FW σ (fun σ' I' F'=>cond (σ'.CR ct) (Cb σ σ' (ct.Inv (σ.fix ct) I F (σ'.lu ct) 0 I' F')) False) K) (σ.lock ct) I F ∧
       ri ct.Fa fun vs=>∀(I':cS) (F':cR),cS.le I I'→ct.Inv (σ.fix ct) I F vs 0 I' F'→W P A rd y (n+1+sz x) K ((σ.lay ct (lM x) vs).unlock σ) I' F') False
 | rd,.loop c,n,K,σ,I,F=>match A.cut n with
   | none=>False
   | some ct=>cond (σ.CR ct)
     ((∃m,ct.Inv (σ.fix ct) I F (σ.lu ct) m I F) ∧
       ri ct.Fa fun vs=>∀(m:Nat) (I':cS) (F':cR),cS.le I I'→ct.Inv (σ.fix ct) I F vs m I' F' →
        W P A rd c (n+1) (FW σ (fun σ' I' F'=>cond (σ'.CR ct) (Cb σ σ' (∃m',m'<m∧ct.Inv (σ.fix ct) I F (σ'.lu ct) m' I' F')) False) K) (σ.lay ct (lM c) vs) I' F') False
 | rd,.scope c,n,K,σ,I,F=>W P A rd c (n+1) (Em K) σ I F
 | rd,.rangeFunc g ps x y,n,K,σ,I,F=>match A.cut n,σ.ev g with
   | some ct,some gv=>cond (oF σ.own ct.bks&&ct.ps.length==ps.size)
     (En rd F (∀(Y:Fn) (L Lb:cR) (Lx:Option Nat→cR) (D:Nat),
       (xK ct.ps fun args=>ri ct.Fj fun vs=>∀(I':cS) (F':cR) (Q:Ending→cS→cR→Prop),cS.le I I' →
         W P A (some L) x (n+1) (Fk fun σ1 I1 F1=>∃F2:cR,F1.Perm (L++F2) ∧
          W P A (some Lb) y (n+1+sz x) (Dp L Lb Lx σ.own.length Q) σ1 I1 (Lb++F2)) (σ.round ct ps args vs) I' (L++F') →
         iM P (.func Y #[] #[]) args I' (dp (eV ct.bks vs 0 σ.own)++(L++F')) Q) →
       B3 P gv.g [.func Y #[] #[]] I (dp σ.own++(L++F)) fun e I' G=>∃r,e=.returned r ∧
        ((xu ct.Fj fun vs=>∃F':cR,G.Perm (dp (eV ct.bks vs 0 σ.own)++(L++F'))∧K .normal (σ.after ct vs D rd) I' (vZ rd D F')) ∨
          Fi (dd (jmp [] y)) fun j=>xu ct.Fj fun vs=>∃F':cR,G.Perm (dp (eV ct.bks vs 0 σ.own)++(Lx j++F'))∧K (xJ j) (σ.after ct vs D rd) I' (vZ rd D F')))) False
   | _,_=>False
 | _,_,_,_,_,_,_=>False
def rY(l:List Nat)(σ:S)(a:Act)(I:cS)(K:Kt)(e:Exit)(a':Act)(w':World):Prop :=
 ∃σ' I' F',Rel σ' I' F' a' w'∧cS.le I I'∧K e σ' I' F'∧du l σ a σ' a'
theorem zA{F:Fence}{n:Nat}{P:Program}{Q:Exit→Act→World→Prop}{c:Code}{a:Act}{w:World}(J:Nat→Act→World→Prop)(h0:∃m,J m a w)
  (round:∀m a w,J m a w→c.wpIn F n P (Exit.then (fun a' w'=>∃m',m'<m∧J m' a' w') Q) a w):(Code.loop c).wpIn F n P Q a w:=by
 intro b k cs hro hb hr
 have key:∀j a w,J j a w→∃e a' w',Q e a' w'∧ArrivesIn (Machine.fenced P F) P (lone (b.atR a (.code c :: .inLoop c::k)) cs w) b k cs e a' w':=by
  intro j
  induction j using Nat.strongRecOn with
  | _ j ih =>
    intro a w hJ
    obtain⟨e,a₁,w₁,hq,harr⟩:=round j a w hJ b (.inLoop c::k) cs hro hb hr
    cases e with
    | normal =>
      obtain⟨m',hlt,hJ'⟩:=hq
      obtain⟨e₂,a₂,w₂,hq₂,harr₂⟩:=ih m' hlt a₁ w₁ hJ'
      exact⟨e₂,a₂,w₂,hq₂,.of_steps (StepsIn.trans harr (.one (fenced_calm hb hr rfl) stepR_inLoop)) harr₂⟩
    | exit id=>exact⟨_,a₁,w₁,hq,.pass (x:=.inLoop c) rfl (fun _ _=>.inl (by simp)) harr⟩
    | goto l=>exact⟨_,a₁,w₁,hq,.pass (x:=.inLoop c) rfl (fun _ _=>.inl (by simp)) harr⟩
    | ret=>exact⟨_,a₁,w₁,hq,.pass (x:=.inLoop c) rfl (fun _ _=>.inl (by simp)) harr⟩
    | panic ch=>exact⟨_,a₁,w₁,hq,.pass (x:=.inLoop c) rfl (fun _ _=>.inl (by simp)) harr⟩
    | outgrown=>exact⟨_,a₁,w₁,hq,.pass (x:=.inLoop c) rfl (fun _ _=>.inl (by simp)) harr⟩
 obtain⟨m,hm⟩:=h0
 obtain⟨e,a',w',hq,harr⟩:=key m a w hm
 exact⟨e,a',w',hq,.of_steps (.one (fenced_calm hb hr rfl) stepR_loop) harr⟩
theorem iG{P:Program}{b:Frame}{a:Act}{k:List Item}{cs:List Frame}{w:World}{c:Code}:step P (lone (b.atR a (.code (.scope c)::k)) cs w)=.next (lone (b.atR a (.code c :: .inScope c::k)) cs w) :=
 step_lone_go (by simp[stepG,stepG.exec,Frame.atR])
theorem tu{P:Program}{b:Frame}{a:Act}{k:List Item}{cs:List Frame}{w:World}{c:Code}:step P (lone (b.atR a (.inScope c::k)) cs w)=.next (lone (b.atR a k) cs w) :=
 step_lone_go (by simp[stepG,stepG.exec,Frame.atR])
theorem oc{F:Fence}{n:Nat}{P:Program}{Q:Exit→Act→World→Prop}{c:Code}{a:Act}{w:World}(h:c.wpIn F n P (Exit.noGoto Q) a w):(Code.scope c).wpIn F n P Q a w:=by
 intro b k cs hro hb hr
 have h0:(lone (b.atR a (.code (.scope c)::k)) cs w).fenced P F:=fenced_calm hb hr rfl
 obtain⟨e,a₁,w₁,hq,harr⟩:=h b (.inScope c::k) cs hro hb hr
 cases e with
 | normal=>exact⟨.normal,a₁,w₁,hq,.head h0 iG (StepsIn.trans harr (.one (fenced_calm hb hr rfl) tu))⟩
 | exit id =>
   have hx:exitTo id (.inScope c::k)=exitTo id k:=by simp[exitTo]
   exact⟨.exit id,a₁,w₁,hq,fun k' hk=>.head h0 iG (harr.1 k' (by rw[hx];exact hk)),
    fun hr' hk=>let ⟨k₁,h1,h2⟩:=harr.2 hr' (by rw[hx];exact hk);⟨k₁,h1,.head h0 iG h2⟩⟩
 | goto l=>exact hq.elim
 | ret=>exact⟨_,a₁,w₁,hq,.of_steps (.one h0 iG) harr⟩
 | panic ch=>exact⟨_,a₁,w₁,hq,.of_steps (.one h0 iG) harr⟩
 | outgrown=>exact⟨_,a₁,w₁,hq,.of_steps (.one h0 iG) harr⟩
theorem qA{l:Lf}{Q:Value→Prop}(h:∀v,Q v):vA l Q:=by cases l<;>intro<;>first | exact h _ | (intros;exact h _)
theorem mY:∀{l:List Lf} {Q:List Value→Prop},(∀vs,vs.length=l.length→Q vs)→ri l Q
 | [],Q,h=>h [] rfl
 | l::r,Q,h=>qA fun v=>mY fun vs hv=>h (v::vs) (by simp[hv])
theorem v5{s:Sh}{Q:Value→Prop}(h:∀v,Q v):CT s Q:=by
 cases s with
 | one l=>exact qA h
 | agg ls=>exact mY fun vs _=>h _
theorem pf:∀{l:List Sh} {Q:List Value→Prop},(∀vs,vs.length=l.length→Q vs)→xK l Q
 | [],Q,h=>h [] rfl
 | l::r,Q,h=>v5 fun v=>pf fun vs hv=>h (v::vs) (by simp[hv])
def Ctx(ro:Option Nat):Option cR→Prop
 | none=>ro=none
 | some R=>∃l r,ro=some l∧(l,Obj.loop r)∈R
def xp(rd:Option cR)(D:Nat):cR:=match rd with
 | none=>[(D,.deferred (some []))]
 | some _=>[]
def Eo(rd:Option cR)(D:Nat):List Deferred:=match rd with
 | none=>[(Df.mark D).d]
 | some _=>[]
theorem AU(rd:Option cR)(D:Nat)(F:cR):vZ rd D F=xp rd D++F:=by cases rd<;>rfl
section
variable {P:Program} {A:n9}
theorem v7{w:World}{l₀:Nat}{r₀:Loop}(h:w.heap[l₀]? = some (.loop r₀))(fn:FuncId)(tmps:Array Value)(ps:Array Tmp)(assign body:Code) :
  (Instr.enterLoop fn tmps ps assign body (some l₀)).run P w =
    .ok (w.heap.size,[]) (w.alloc (.loop { state:=.ready,pending:=none,fn,tmps,params:=ps,assign,body,defers:=r₀.defers })):=by
 unfold Instr.enterLoop
 simp only[Sem.run_bind,run_getLoop h,run_newObj_alloc,Result.andThen,Sem.run_pure]
theorem AW{rd:Option cR}{F:cR}{X:Prop}(h:En rd F X):(∀R,rd=some R→∃F3:cR,F.Perm (R++F3))∧X:=by
 cases rd with
 | none=>exact⟨fun R e=>(by cases e),h⟩
 | some R=>exact⟨fun R' e=>(by cases e;exact h.1),h.2⟩
theorem zC{rd:Option cR}{ro:Option Nat}{I:cS}{G:cR}{w:World}(hctx:Ctx ro rd)(hrd:∀R,rd=some R→∃F3:cR,G.Perm (R++F3))(hs:Sat I G w)
  (fn:FuncId) (tmps:Array Value) (ps:Array Tmp) (x y:Code) :
  ∃(l D d:Nat) (w1:World),(Instr.enterLoop fn tmps ps x y ro).run P w=.ok (l,Eo rd D) w1 ∧
   Sat I ((l,Obj.loop { state:=.ready,pending:=none,fn,tmps,params:=ps,assign:=x,body:=y,defers:=d })::(xp rd D++G)) w1:=by
 cases rd with
 | none =>
   obtain rfl:ro=none:=hctx
   have h1:=hs.alloc (.deferred (some []))
   have h2:=h1.alloc (.loop { state:=.ready,pending:=none,fn,tmps,params:=ps,assign:=x,body:=y,defers:=w.heap.size })
   refine⟨w.heap.size+1,w.heap.size,w.heap.size,_,run_enterLoop_outer fn tmps ps x y, ?_⟩
   have:({ w with heap:=w.heap.push (Obj.deferred (some [])) }:World).heap.size=w.heap.size+1:=by simp
   rw[this] at h2
   exact h2
 | some R =>
   obtain⟨l0,r0,rfl,hm⟩:=hctx
   obtain⟨F3,hp⟩:=hrd R rfl
   have hin:w.heap[l0]? = some (.loop r0):=hs.own _ _ (hp.mem_iff.2 (List.mem_append_left _ hm))
   exact⟨w.heap.size,0,r0.defers,_,v7 hin fn tmps ps x y,hs.alloc _⟩
theorem Sat.qW{I:cS}{b:Nat}{o:Obj}{G:cR}{w:World}(h:Sat I ((b,o)::G) w):w.heap[b]? = some o:=h.own _ _ (List.mem_cons_self ..)
theorem Sat.pg{I:cS}{b:Nat}{o o':Obj}{G:cR}{w:World}(h:Sat I ((b,o)::G) w):Sat I ((b,o')::G) (w.putObj b o'):=h.set rfl ⟨rfl,rfl⟩
theorem v8:∀(ts:List Nat) (vs:List Value) (tm:List (Option AV)) (tmps:Array Value),tm.length=tmps.size→(∀(t:Nat) (av:AV),tm[t]? = some (some av)→tmps[t]? = some av.g) →
  (iy ts vs tm).length=((ts.zip vs).foldl (fun (a:Array Value) (x:Nat×Value)=>a.setIfInBounds x.1 x.2) tmps).size ∧
  ∀(t:Nat) (av:AV),(iy ts vs tm)[t]? = some (some av)→((ts.zip vs).foldl (fun (a:Array Value) (x:Nat×Value)=>a.setIfInBounds x.1 x.2) tmps)[t]? = some av.g
 | [],vs,tm,tmps,hl,h=>by simp only[iy,List.zip_nil_left,List.foldl_nil];exact⟨hl,h⟩
 | s::ts,[],tm,tmps,hl,h=>by simp only[iy,List.zip_nil_right,List.foldl_nil];exact⟨hl,h⟩
 | s::ts,v::vs,tm,tmps,hl,h=>by
   simp only[iy,List.zip_cons_cons,List.foldl_cons]
   refine v8 ts vs _ _ (by simp[hl]) fun t av ht=>?_
   rw[List.getElem?_set] at ht
   rw[Array.getElem?_setIfInBounds]
   by_cases hst:s=t
   ·subst hst
    simp only[if_true] at ht ⊢
    split at ht
    ·rename_i hlt;cases ht;rw[hl] at hlt;simp[hlt,AV.g,At.g]
    ·cases ht
   ·simp only[if_neg hst] at ht ⊢;exact h t av ht
theorem qB(bks:List (Nat×List Lf))(vs:List Value)(own:List dX):jq own (eV bks vs 0 own):=fun i b hb=>by
 refine⟨match o9 bks vs (0+i) with
  | some cs=>{ b with cells:=cs.map fun v=>.a (.v v) }
  | none=>{ b with ro:=true },by rw[fW,hb];rfl, ?_⟩
 split<;>rfl
theorem zD{bks:List (Nat×List Lf)}{vs:List Value}{own:List dX}(h:∀(i:Nat) (b:dX),own[i]? = some b→∀c∈b.cells,AV.wf own c) :
  ∀(i:Nat) (b:dX),(eV bks vs 0 own)[i]? = some b→∀c∈b.cells,AV.wf (eV bks vs 0 own) c:=by
 intro i b hb c hc
 rw[fW] at hb
 cases ho:own[i]? with
 | none=>rw[ho] at hb;cases hb
 | some b0 =>
   rw[ho] at hb
   simp only[Option.map_some,Option.some.injEq] at hb
   subst hb
   split at hc
   ·simp only[List.mem_map] at hc
    obtain⟨v,_,rfl⟩:=hc
    trivial
   ·exact AV.eZ (qB _ _ _) (h i b0 ho c hc)
theorem Rel.round{σ:S}{I I':cS}{F F':cR}{a:Act}{w w':World}(hr:Rel σ I F a w)(ct:Cut)(ps:Array Nat)(args vs:List Value)
  (hs:Sat I' (dp (eV ct.bks vs 0 σ.own)++F') w') :
  Rel (σ.round ct ps args vs) I' F' { tmps:=(ps.toList.zip args).foldl (fun (a:Array Value) (x:Nat×Value)=>a.setIfInBounds x.1 x.2) a.tmps,defers:=[] } w':=by
 obtain⟨h1,h2⟩:=v8 ps.toList args σ.tm a.tmps hr.size hr.tm
 refine⟨h1,h2,rfl,fun t av ht=>?_,zD hr.wfo,hs⟩
 rcases lU _ _ _ _ _ ht with ⟨k,v,_,_,rfl⟩ | ht
 ·trivial
 ·exact AV.eZ (qB _ _ _) (hr.wft t av ht)
theorem tT{σ:S}{ct:Cut}{vs:List Value}{i:Nat}:(yC σ.own 0 (eV ct.bks vs 0 σ.own))[i]? = (σ.own[i]?).map fun b =>
  match o9 ct.bks vs i with
  | some cs=>{ b with cells:=cs.map fun v=>.a (.v v) }
  | none=>b:=by
 rw[nF,fW]
 cases hb:σ.own[i]? with
 | none=>rfl
 | some b =>
   simp only[Option.map_some,Nat.zero_add,hb]
   cases o9 ct.bks vs i<;>rfl
theorem rZ{σ:S}{ct:Cut}{vs:List Value}{D:Nat}{rd:Option cR}(hok:oF σ.own ct.bks=true):dv σ (σ.after ct vs D rd):=by
 intro i b hb
 have e:(σ.after ct vs D rd).own[i]? = _:=tT
 rw[hb] at e
 cases hs:o9 ct.bks vs i with
 | none=>rw[hs] at e;exact⟨b,e,rfl,rfl,fun h=>⟨h,rfl⟩⟩
 | some cs =>
   rw[hs] at e
   have hro:=uJ (vs:=vs) hok hb (by rw[hs];rfl)
   exact⟨_,e,rfl,rfl,fun h=>by rw[hro] at h;cases h⟩
theorem Rel.after{σ:S}{I I':cS}{F F':cR}{a:Act}{w w':World}(hr:Rel σ I F a w){ct:Cut}{vs:List Value}{D:Nat}{rd:Option cR}(hok:oF σ.own ct.bks=true)
  (hs:Sat I' (dp (eV ct.bks vs 0 σ.own)++F') w'):Rel (σ.after ct vs D rd) I' F' { a with defers:=Eo rd D++a.defers } w':=by
 have hk:jq σ.own (σ.after ct vs D rd).own:=(rZ hok).same
 refine⟨hr.size,hr.tm, ?_,fun t av ht=>AV.eZ hk (hr.wft t av ht), ?_, ?_⟩
 ·show Eo rd D++a.defers=_
  rw[hr.defers];cases rd<;>rfl
 ·intro i b hb c hc
  have e:(σ.after ct vs D rd).own[i]? = _:=tT
  rw[hb] at e
  cases ho:σ.own[i]? with
  | none=>rw[ho] at e;cases e
  | some b0 =>
    rw[ho] at e
    simp only[Option.map_some,Option.some.injEq] at e
    subst e
    split at hc
    ·simp only[List.mem_map] at hc
     obtain⟨v,_,rfl⟩:=hc
     trivial
    ·exact AV.eZ hk (hr.wfo i b0 ho c hc)
 ·show Sat I' (dp (yC σ.own 0 (eV ct.bks vs 0 σ.own))++F') w'
  rw[rW];exact hs
theorem zE(own:List dX)(n:Nat):(dp (own.take n)).Sublist (dp own):=(List.take_sublist n own).map _
theorem gL{A B C:cR}:(A++(B++C)).Perm (B++(A++C)):=List.perm_append_comm_assoc A B C
theorem zG{F:Fence}{n:Nat}{Q:Exit→Act→World→Prop}{a:Act}{w:World}(j:Option Nat)(h:Q (xJ j) a w):(rX j).wpIn F n P Q a w:=by
 cases j with
 | none=>exact wpIn_ret h
 | some id=>exact wpIn_exit h
theorem v9{x y:Code}(ih1:∀(n:Nat) (K:Kt) (rd:Option cR) (ro:Option Nat) (σ:S) (I:cS) (F:cR) (a:Act) (w:World),Ctx ro rd→W P A rd x n K σ I F→Rel σ I F a w→x.wpIn (Fw ro) 0 P (rY (lM x) σ a I K) a w)
  (ih2:∀(n:Nat) (K:Kt) (rd:Option cR) (ro:Option Nat) (σ:S) (I:cS) (F:cR) (a:Act) (w:World),Ctx ro rd→W P A rd y n K σ I F→Rel σ I F a w→y.wpIn (Fw ro) 0 P (rY (lM y) σ a I K) a w)
  {g:Operand} {ps:Array Tmp} {n:Nat} {K:Kt} {rd:Option cR} {ro:Option Nat} {σ:S} {I:cS} {F:cR} {a:Act} {w:World} (hctx:Ctx ro rd)
  (h:W P A rd (.rangeFunc g ps x y) n K σ I F) (hr:Rel σ I F a w):(Code.rangeFunc g ps x y).wpIn (Fw ro) 0 P (rY (lM (.rangeFunc g ps x y)) σ a I K) a w:=by
 simp only[W] at h
 split at h
 case h_2=>exact h.elim
 rename_i ct gv hcut hg
 obtain⟨hb,h⟩:=dj h
 simp only[Bool.and_eq_true,beq_iff_eq] at hb
 obtain⟨hok,hlen⟩:=hb
 obtain⟨hrd,h⟩:=AW h
 refine wpIn_rangeFunc fun fn hfn=>?_
 obtain⟨l,D,d,w1,hrun,hsat⟩:=zC (P:=P) (rd:=rd) (ro:=ro) hctx (G:=dp σ.own++F) (fun R hR=>by
  obtain⟨F3,hp⟩:=hrd R hR
  exact⟨dp σ.own++F3,(List.Perm.append_left _ hp).trans gL⟩) hr.sat fn a.tmps ps x y
 generalize hrec:({ state:=.ready,pending:=none,fn,tmps:=a.tmps,params:=ps,assign:=x,body:=y,defers:=d }:Loop)=rec at hsat
 have r1:rec.fn=fn:=by rw[←hrec]
 have r2:rec.tmps=a.tmps:=by rw[←hrec]
 have r3:rec.params=ps:=by rw[←hrec]
 have r4:rec.assign=x:=by rw[←hrec]
 have r5:rec.body=y:=by rw[←hrec]
 have r6:rec.state=.ready:=by rw[←hrec]
 have r7:rec.pending=none:=by rw[←hrec]
 have rback:({ rec with state:=.ready,pending:=none }:Loop)=rec:=by rw[←hrec]
 let L:cR:=(l,.loop rec)::xp rd D
 let Lb:cR:=(l,.loop { rec with state:=.busy })::xp rd D
 let Lx:Option Nat→cR:=fun j=>(l,.loop { rec with state:=.done,pending:=some (rX j) })::xp rd D
 have hsat':Sat I (dp σ.own++(L++F)) w1:=by
  refine hsat.perm ?_
  show (([(l,Obj.loop rec)]++xp rd D)++(dp σ.own++F)).Perm _
  exact gL
 have hTr:=h (.yield l) L Lb Lx D (pf fun args hargs=>mY fun vs hvs I' F' Q hle hW=>by
  intro w2 hs2
  refine .inr ⟨l,rfl, ?_⟩
  have hl2:w2.heap[l]? = some (.loop rec):=hs2.own _ _ (List.mem_append_right _ (List.mem_append_left _ (List.mem_cons_self ..)))
  have hy:=run_yield (P:=P) (args:=args.toArray) hl2 (by rw[r3];simp[hargs,hlen])
  rw[r1,r2,r3,r4,r5] at hy
  have hz:((ps.zip args.toArray).foldl (fun (tmps:Array Value) (x:Nat×Value)=>tmps.setIfInBounds x.1 x.2) a.tmps)=(ps.toList.zip args).foldl (fun (a:Array Value) (x:Nat×Value)=>a.setIfInBounds x.1 x.2) a.tmps:=by
   rw[←Array.foldl_toList,Array.toList_zip]
  refine⟨_,_,_,_,_,hy,roundIn_of_wpIn (F:=Fence.wide) trivial ?_⟩
  rw[show ((ps.zip args.toArray).foldl (fun (tmps:Array Value) (x:Nat×Value)=>match x with | (t,a)=>tmps.setIfInBounds t a) a.tmps)=(ps.toList.zip args).foldl (fun (a:Array Value) (x:Nat×Value)=>a.setIfInBounds x.1 x.2) a.tmps from hz]
  have hrel:=hr.round ct ps args vs hs2
  refine wpIn_mono (ih1 _ _ (some L) (some l) _ I' _ _ w2 ⟨l,rec,rfl,List.mem_cons_self ..⟩ hW hrel) ?_
  intro e a1 w3 ⟨σ1,I1,F1,g1,g2,g3,g4⟩
  cases e with
  | normal =>
    obtain⟨F2,hp2,hW2⟩:=g3
    have hs3:Sat I1 ((l,.loop rec)::(xp rd D++(dp σ1.own++F2))) w3:=g1.sat.perm ((List.Perm.append_left _ hp2).trans (gL (A:=dp σ1.own) (B:=(l,.loop rec)::xp rd D)))
    refine⟨_,run_beginRound hs3.qW r6, ?_⟩
    have hs4:=hs3.pg (o':=.loop { rec with state:=.busy })
    have hrel2:Rel σ1 I1 (Lb++F2) a1 (w3.putObj l (.loop { rec with state:=.busy })) :=
     ⟨g1.size,g1.tm,g1.defers,g1.wft,g1.wfo,hs4.perm (gL (A:=(l,.loop { rec with state:=.busy })::xp rd D) (B:=dp σ1.own))⟩
    refine wpIn_mono (ih2 _ _ (some Lb) (some l) _ I1 _ _ _ ⟨l,_,rfl,List.mem_cons_self ..⟩ hW2 hrel2) ?_
    intro e a5 w5 ⟨σ5,I5,F5,k1,k2,k3,k4⟩
    have fin:∀(L':cR) (o':Obj) (b:Bool),L'=(l,o')::xp rd D→(∃F3:cR,F5.Perm (Lb++F3)∧Q (.returned (.bool b)) I5 (dp (σ5.own.take σ.own.length)++(L'++F3))) →
     w5.heap[l]? = some (.loop { rec with state:=.busy })∧rz I' Q (.returned (.bool b)) (w5.putObj l o'):=by
     intro L' o' b hL' ⟨F3,hp3,hq⟩
     subst hL'
     have hs5:Sat I5 ((l,.loop { rec with state:=.busy })::(xp rd D++(dp σ5.own++F3))) w5 :=
      k1.sat.perm ((List.Perm.append_left _ hp3).trans (gL (A:=dp σ5.own) (B:=(l,.loop { rec with state:=.busy })::xp rd D)))
     refine⟨hs5.qW,I5,_,cS.le_trans g2 k2, ?_,hq⟩
     have hs6:=hs5.pg (o':=o')
     exact (hs6.perm (gL (A:=(l,o')::xp rd D) (B:=dp σ5.own))).sub (List.Sublist.append (zE _ _) (List.Sublist.refl _))
    cases e with
    | normal =>
      obtain⟨f1,f2⟩:=fin L (.loop rec) true rfl k3
      refine⟨_,_,run_endRound none f1, ?_⟩
      have:({ ({ rec with state:=.busy }:Loop) with state:=if (none:Option Code).isNone then .ready else .done,pending:=none }:Loop)=rec:=rback
      rw[this];exact f2
    | ret =>
      obtain⟨f1,f2⟩:=fin (Lx none) (.loop { rec with state:=.done,pending:=some .ret }) false rfl k3
      exact⟨_,_,run_endRound (some .ret) f1,f2⟩
    | exit id =>
      obtain⟨f1,f2⟩:=fin (Lx (some id)) (.loop { rec with state:=.done,pending:=some (.exit id) }) false rfl k3
      exact⟨_,_,run_endRound (some (.exit id)) f1,f2⟩
    | goto l=>exact k3.elim
    | panic ch=>exact k3.elim
    | outgrown=>exact k3.elim
  | exit id=>exact g3.elim
  | goto l=>exact g3.elim
  | ret=>exact g3.elim
  | panic ch=>exact g3.elim
  | outgrown=>exact g3.elim)
 obtain⟨f,first,cap,hgv,hent,hcall⟩:=hTr w1 hsat'
 have hev:=S.lN hr hg
 refine⟨l,Eo rd D,w1,{ target:=.fn (.func f) cap,args:=first++#[.func (.yield l) #[] #[]] },w1,f,first++#[.func (.yield l) #[] #[]]++cap,w1,hrun, ?_,fun _ _=>trivial, ?_,fun hd=>by simp[Fw,Fence.wide] at hd, ?_⟩
 ·show (Deferred.ofValue (a.eval g) _).run P w1=_
  rw[hev,hgv];simp[Deferred.ofValue,Act.eval]
 ·simp only[invoke];exact hent _ _
 ·refine ((callsIn_wide (n:=0)).2 hcall).mono fun e w3 ⟨I3,G,hle,hs3,r,he,hpost⟩=>?_
  subst he
  have fin:∀(o':Obj) (r':Loop) (jj:Option Code) (L':cR) (vs:List Value) (F':cR) (e':Exit),L'=(l,.loop r')::xp rd D→r'.pending=jj→r'.state ≠ .busy→G.Perm (dp (eV ct.bks vs 0 σ.own)++(L'++F'))→K e' (σ.after ct vs D rd) I3 (vZ rd D F') →
    ∃w4,(Instr.endLoop l).run P w3=.ok jj w4∧rY (lM (.rangeFunc g ps x y)) σ a I K e' { a with defers:=Eo rd D++a.defers } w4:=by
   intro o' r' jj L' vs F' e' hL' hj hbusy hp hk
   subst hL';subst hj
   have hs4:Sat I3 ((l,.loop r')::(xp rd D++(dp (eV ct.bks vs 0 σ.own)++F'))) w3:=hs3.perm (hp.trans (gL (A:=dp (eV ct.bks vs 0 σ.own)) (B:=(l,.loop r')::xp rd D)))
   refine⟨_,run_endLoop hs4.qW hbusy,σ.after ct vs D rd,I3,vZ rd D F', ?_,hle,hk,rZ hok,fun _ _=>rfl,rfl⟩
   refine hr.after hok ?_
   rw[AU]
   exact ((hs4.pg (o':=.loop { r' with state:=.exhausted })).sub (List.sublist_cons_self _ _)).perm gL
  rcases hpost with hpost | hpost
  ·obtain⟨vs,F',hp,hk⟩:=ll hpost |>.imp fun _ h=>h.2
   obtain⟨w4,h1,h2⟩:=fin (.loop rec) rec none L vs F' .normal rfl r7 (by rw[r6];decide) hp hk
   exact⟨none,w4,h1,h2⟩
  ·obtain⟨j,hpost⟩:=yJ hpost
   obtain⟨vs,F',hp,hk⟩:=ll hpost |>.imp fun _ h=>h.2
   obtain⟨w4,h1,h2⟩:=fin (.loop rec) { rec with state:=.done,pending:=some (rX j) } (some (rX j)) (Lx j) vs F' (xJ j) rfl rfl (fun h=>by cases h) hp hk
   exact⟨some (rX j),w4,h1,zG j h2⟩
end
end Go.Vc
namespace Go.Vc
section sound
variable {P:Program} {A:n9}
theorem rY.mono{l l':List Nat}{σ:S}{a:Act}{I:cS}{K K':Kt}{e:Exit}{a':Act}{w':World}(h:rY l σ a I K e a' w')(hl:∀t∈l,t∈l')
  (hk:∀σ I F,K e σ I F→K' e σ I F):rY l' σ a I K' e a' w' :=
 let ⟨σ',I',F',h1,h2,h3,h4⟩:=h
 ⟨σ',I',F',h1,h2,hk _ _ _ h3,h4.mono hl⟩
theorem rY.trans{l m n:List Nat}{σ σ':S}{a a':Act}{I I':cS}{K:Kt}{e:Exit}{a'':Act}{w'':World}(hk:du l σ a σ' a')(hI:cS.le I I')
  (h:rY m σ' a' I' K e a'' w'') (hl:∀t∈l,t∈n) (hm:∀t∈m,t∈n):rY n σ a I K e a'' w'' :=
 let ⟨σ2,I2,F2,h1,h2,h3,h4⟩:=h
 ⟨σ2,I2,F2,h1,cS.le_trans hI h2,h3,(hk.mono hl).trans (h4.mono hm)⟩
theorem yK(hP:∀f,A.good f=true→dC P f):∀(c:Code) (n:Nat) (K:Kt) (rd:Option cR) (ro:Option Nat) (σ:S) (I:cS) (F:cR) (a:Act) (w:World),Ctx ro rd →
  W P A rd c n K σ I F→Rel σ I F a w→c.wpIn (Fw ro) 0 P (rY (lM c) σ a I K) a w:=by
 intro c
 induction c with
 | skip=>intro n K rd ro σ I F a w hc h hr;exact wpIn_skip ⟨σ,I,F,hr,cS.le_refl I,h,du.refl _ _ _⟩
 | label l=>intro n K rd ro σ I F a w hc h hr;exact wpIn_label ⟨σ,I,F,hr,cS.le_refl I,h,du.refl _ _ _⟩
 | exit id=>intro n K rd ro σ I F a w hc h hr;exact wpIn_exit ⟨σ,I,F,hr,cS.le_refl I,h,du.refl _ _ _⟩
 | goto l=>intro n K rd ro σ I F a w hc h hr;exact wpIn_goto ⟨σ,I,F,hr,cS.le_refl I,h,du.refl _ _ _⟩
 | ret=>intro n K rd ro σ I F a w hc h hr;exact wpIn_ret ⟨σ,I,F,hr,cS.le_refl I,h,du.refl _ _ _⟩
 | refuse why=>intro n K rd ro σ I F a w hc h hr;exact h.elim
 | scope c ih =>
   intro n K rd ro σ I F a w hc h hr
   refine oc (wpIn_mono (ih _ _ rd ro σ I F a w hc h hr) ?_)
   intro e a' w' ⟨σ',I',F',h1,h2,h3,h4⟩
   cases e with
   | goto l=>exact h3.elim
   | _=>exact⟨σ',I',F',h1,h2,h3,h4⟩
 | rangeFunc f ps x y ih1 ih2=>intro n K rd ro σ I F a w hc h hr;exact v9 ih1 ih2 hc h hr
 | region rid ops draw =>
   intro n K rd ro σ I F a w hc h hr
   cases draw with
   | false =>
     obtain⟨hnd,h⟩:=dj h
     have hnd':ro=none∨ops.toList.all (fun o=>rJ o.op)=true:=by
      cases rd with
      | none=>exact .inl hc
      | some R=>exact .inr hnd
     refine wpIn_region_list (kf hP ops.toList 0 σ I F a w hnd' h hr ?_ ?_)
     ·exact fun σ' I' F' a' w' h1 h2 h3 h4=>⟨σ',I',F',h1,h2,h3,h4⟩
     ·exact fun ch σ' I' F' a' w' h1 h2 h3 h4=>⟨σ',I',F',h1,h2,h3,h4⟩
   | true =>
     simp only[W] at h
     split at h
     ·rename_i os t hot
      obtain⟨hb,h⟩:=dj h
      simp only[Bool.and_eq_true] at hb
      rcases yH h with ⟨b,o,F1,hp,h⟩ | h
      ·exact uK hP hb.1 hb.2 hp h hr (fun σ' I' F' a' w' h1 h2 h3 h4=>⟨σ',I',F',h1,h2,h3,h4⟩) fun ch σ' I' F' a' w' h1 h2 h3 h4=>⟨σ',I',F',h1,h2,h3,h4⟩
      ·exact vX hP hb.1 hb.2 h hr (fun σ' I' F' a' w' h1 h2 h3 h4=>⟨σ',I',F',h1,h2,h3,h4⟩) fun ch σ' I' F' a' w' h1 h2 h3 h4=>⟨σ',I',F',h1,h2,h3,h4⟩
     split at h
     ·split at h
      ·split at h
       ·obtain⟨hb,h⟩:=dj h
        simp only[Bool.and_eq_true] at hb
        exact xI hP hb.1 hb.2 h hr (fun σ' I' F' a' w' h1 h2 h3 h4=>⟨σ',I',F',h1,h2,h3,h4⟩) fun ch σ' I' F' a' w' h1 h2 h3 h4=>⟨σ',I',F',h1,h2,h3,h4⟩
       ·obtain⟨hb,h⟩:=dj h
        simp only[Bool.and_eq_true] at hb
        rcases yH h with ⟨b,o,F1,hp,h⟩ | h
        ·exact vW hP hb.1 hb.2 hp h hr (fun σ' I' F' a' w' h1 h2 h3 h4=>⟨σ',I',F',h1,h2,h3,h4⟩) fun ch σ' I' F' a' w' h1 h2 h3 h4=>⟨σ',I',F',h1,h2,h3,h4⟩
        ·exact vV hP hb.1 hb.2 h hr (fun σ' I' F' a' w' h1 h2 h3 h4=>⟨σ',I',F',h1,h2,h3,h4⟩) fun ch σ' I' F' a' w' h1 h2 h3 h4=>⟨σ',I',F',h1,h2,h3,h4⟩
      ·obtain⟨hb,h⟩:=dj h
       simp only[Bool.and_eq_true] at hb
       exact vR hP hb.1 hb.2 h hr (fun σ' I' F' a' w' h1 h2 h3 h4=>⟨σ',I',F',h1,h2,h3,h4⟩) fun ch σ' I' F' a' w' h1 h2 h3 h4=>⟨σ',I',F',h1,h2,h3,h4⟩
     split at h
     ·obtain⟨hb,h⟩:=dj h
      simp only[Bool.and_eq_true] at hb
      exact vS hP hb.1 hb.2.1 hb.2.2.1 hb.2.2.2 h hr (fun σ' I' F' a' w' h1 h2 h3 h4=>⟨σ',I',F',h1,h2,h3,h4⟩) fun ch σ' I' F' a' w' h1 h2 h3 h4=>⟨σ',I',F',h1,h2,h3,h4⟩
     obtain⟨hb,h⟩:=dj h
     simp only[Bool.and_eq_true] at hb
     have hd:lM (.region rid ops true)=dA ops.toList:=rfl
     split at h<;>exact vL hP hb.1 hb.2 h hr fun σ' F' a' w' h1 h2 h3=>⟨σ',I,F',h1,cS.le_refl I,h2,h3⟩
 | cond c x y ih1 ih2 =>
   intro n K rd ro σ I F a w hc h hr
   simp only[W] at h
   split at h
   ·rename_i b hcc
    have hev:=S.lN hr hcc
    simp only[AV.g,At.g] at hev
    refine wpIn_cond hev ?_
    cases b with
    | true=>exact wpIn_mono (ih1 _ K rd ro σ I F a w hc h hr) fun e a' w' hp=>hp.mono (fun t ht=>List.mem_append_left _ ht) fun _ _ _ h=>h
    | false=>exact wpIn_mono (ih2 _ K rd ro σ I F a w hc h hr) fun e a' w' hp=>hp.mono (fun t ht=>List.mem_append_right _ ht) fun _ _ _ h=>h
   ·exact h.elim
 | block id c ih =>
   intro n K rd ro σ I F a w hc h hr
   refine wpIn_block (wpIn_mono (ih _ _ rd ro σ I F a w hc h hr) ?_)
   intro e a' w' ⟨σ',I',F',h1,h2,h3,h4⟩
   cases e with
   | exit id' =>
     simp only[AR] at h3
     simp only[Exit.inBlock]
     by_cases hid:id'=id
     ·subst hid
      simp only[beq_self_eq_true,cond_true] at h3
      rw[if_pos rfl];exact⟨σ',I',F',h1,h2,h3,h4⟩
     ·have:(id'==id)=false:=by simpa using hid
      rw[this] at h3
      rw[if_neg hid];exact⟨σ',I',F',h1,h2,h3,h4⟩
   | _=>exact⟨σ',I',F',h1,h2,h3,h4⟩
 | seq x y ih1 ih2 =>
   intro n K rd ro σ I F a w hc h hr
   have hx:∀t∈lM x,t∈lM (.seq x y):=fun t ht=>List.mem_append_left _ ht
   have hy:∀t∈lM y,t∈lM (.seq x y):=fun t ht=>List.mem_append_right _ ht
   simp only[W] at h
   split at h
   ·refine wpIn_seq (wpIn_mono (ih1 _ _ rd ro σ I F a w hc h hr) ?_)
    intro e a' w' ⟨σ',I',F',h1,h2,h3,h4⟩
    cases e with
    | normal=>exact wpIn_mono (ih2 _ K rd ro σ' I' F' a' w' hc h3 h1) fun e a2 w2 hp=>hp.trans h4 h2 hx hy
    | _=>exact⟨σ',I',F',h1,h2,h3,h4.mono hx⟩
   ·rename_i ct hcut
    obtain⟨hok,h1,h2⟩:=dj h
    refine wpIn_seq (wpIn_mono (ih1 _ _ rd ro _ I F a w hc h1 (hr.lock ct)) ?_)
    intro e a' w' ⟨σ',I',F',g1,g2,g3,g4⟩
    have hother:dv σ (σ'.unlock σ):=ee g4.own
    cases e with
    | normal =>
      obtain⟨hokv,hInv⟩:=dj g3
      obtain⟨hdf,hInv⟩:=vY hInv
      have hrel:Rel (σ.lay ct (lM x) (σ'.lu ct)) I' F' a' w':=by
       refine Rel.lay ct (lM x) hr g1 ?_ (fun t ht=>g4.tm t ht) g4.size hokv hdf
       intro i b hb
       obtain⟨b1,e1,e2,e3,e4,e5,e6⟩:=qV (c:=ct) hb
       obtain⟨b2,f1,f2,f3,f4⟩:=g4.own i b1 e1
       refine⟨b2,f1,f2.trans e2,f3.trans e3,fun hs=>?_⟩
       have:o9 ct.bks [] i=none:=by
        have:=rV (bks:=ct.bks) (vs:=(σ'.lu ct).drop ct.tms.length) (us:=[]) (i:=i)
        rw[hs] at this
        cases h0:o9 ct.bks [] i with
        | none=>rfl
        | some cs=>rw[h0] at this;cases this
       exact (f4 (e6 this)).2.trans e4
      have h5:=rj h2 (rU hokv) I' F' g2 hInv
      have hkeep:du (lM x) σ a ((σ.lay ct (lM x) (σ'.lu ct)).unlock σ) a':=by
       refine⟨?_,g4.tm,g4.size⟩
       exact qz hok (dv.refl _)
      exact wpIn_mono (ih2 _ K rd ro _ I' F' a' w' hc h5 hrel.unlock) fun e a2 w2 hp=>hp.trans hkeep g2 hx hy
    | _=>exact⟨_,I',F',g1.unlock,g2,g3,(⟨hother,g4.tm,g4.size⟩:du (lM x) σ a _ a').mono hx⟩
 | loop c ih =>
   intro n K rd ro σ I F a w hc h hr
   simp only[W] at h
   split at h
   ·exact h.elim
   ·rename_i ct hcut
    obtain⟨hokv,⟨m0,h0⟩,h⟩:=dj h
    have hok:oF σ.own ct.bks=true:=by simp only[S.CR,Bool.and_eq_true] at hokv;exact hokv.2
    refine zA (fun m a1 w1=>∃vs I1 F1,Rel (σ.lay ct (lM c) vs) I1 F1 a1 w1∧cS.le I I1∧ct.Inv (σ.fix ct) I F vs m I1 F1∧eF ct.Fa vs=true ∧
     (∀t,t∉lM c→a1.tmps[t]? = a.tmps[t]?)∧a1.tmps.size=a.tmps.size) ⟨m0,σ.lu ct,I,F, ?_,cS.le_refl I,h0,rU hokv,fun _ _=>rfl,rfl⟩ ?_
    ·exact Rel.lay ct (lM c) hr hr (fun i b hb=>⟨b,hb,rfl,rfl,fun _=>rfl⟩) (fun _ _=>rfl) rfl hokv rfl
    ·intro m a1 w1 ⟨vs,I1,F1,r1,r2,r3,r4,r5,r6⟩
     have hb:=rj h r4 m I1 F1 r2 r3
     refine wpIn_mono (ih _ _ rd ro _ I1 F1 a1 w1 hc hb r1) ?_
     intro e a' w' ⟨σ',I',F',g1,g2,g3,g4⟩
     have hkeep:du (lM c) σ a (σ'.unlock σ) a':=⟨qz hok g4.own,fun t ht=>(g4.tm t ht).trans (r5 t ht),g4.size.trans r6⟩
     cases e with
     | normal =>
       obtain⟨hokv',hInv⟩:=dj g3
       obtain⟨hdf,m',hlt,hInv⟩:=vY hInv
       refine⟨m',hlt,σ'.lu ct,I',F', ?_,cS.le_trans r2 g2,hInv,rU hokv',hkeep.tm,hkeep.size⟩
       refine Rel.lay ct (lM c) hr g1 ?_ hkeep.tm hkeep.size hokv' hdf
       intro i b hb
       have e0:(σ.lay ct (lM c) vs).own[i]? = some (match o9 ct.bks (vs.drop ct.tms.length) (0+i) with
        | some cs=>{ b with cells:=cs.map fun v=>.a (.v v) }
        | none=>{ b with ro:=true }):=by show (eV _ _ 0 σ.own)[i]? = _;rw[fW,hb];rfl
       obtain⟨b2,f1,f2,f3,f4⟩:=g4.own i _ e0
       refine⟨b2,f1, ?_, ?_,fun hs=>?_⟩
       ·rw[f2];split<;>rfl
       ·rw[f3];split<;>rfl
       ·have hs':o9 ct.bks (vs.drop ct.tms.length) (0+i)=none:=by
         rw[Nat.zero_add]
         have:=rV (bks:=ct.bks) (vs:=(σ'.lu ct).drop ct.tms.length) (us:=vs.drop ct.tms.length) (i:=i)
         rw[hs] at this
         cases h0:o9 ct.bks (vs.drop ct.tms.length) i with
         | none=>rfl
         | some cs=>rw[h0] at this;cases this
        rw[hs'] at f4
        exact (f4 rfl).2
     | _=>exact⟨_,I',F',g1.unlock,cS.le_trans r2 g2,g3,hkeep⟩
def uL(P:Program)(σ:S):ResultVar→Option Value
 | .tmp t=>match σ.tm[t]? with
   | some (some av)=>some av.g
   | _=>none
 | .cell x t=>match σ.tm[x]? with
   | some (some (.a (.p i _ off))) =>
     match σ.own[i]?,s8 P t with
     | some fo,some false=>(fo.cells[off]?).map AV.g
     | some fo,some true=>match tG P t with
       | some n=>cond (((fo.cells.drop off).take n).length==n) (some (.agg (((fo.cells.drop off).take n).map AV.g).toArray)) none
       | none=>none
     | _,_=>none
   | _=>none
def oI(P:Program)(σ:S):List ResultVar→Option (List Value)
 | []=>some []
 | r::rs=>match uL P σ r,oI P σ rs with
   | some v,some vs=>some (v::vs)
   | _,_=>none
def xL:List Value→Value
 | [v]=>v
 | vs=>.tuple vs.toArray
def sb(a:Act):ResultVar→Sem Value
 | .tmp t=>pure (a.tmps.getD t undef)
 | .cell x t=>do loadVar t (←asAddr (a.tmps.getD x undef))
theorem xM{σ:S}{I:cS}{F:cR}{a:Act}{w:World}(hr:Rel σ I F a w){r:ResultVar}{v:Value}(h:uL P σ r=some v) :
  (sb a r).run P w=.ok v w:=by
 cases r with
 | tmp t =>
   simp only[uL] at h
   split at h
   ·rename_i av ht
    have:=hr.tm t av ht
    cases h
    simp[sb,this]
   ·cases h
 | cell x t =>
   simp only[uL] at h
   split at h
   ·rename_i i b off hx
    have hv:=hr.tm x _ hx
    have hwf:=hr.wft x _ hx
    simp only[AV.g,At.g] at hv
    have hl:mV P t σ.own i off fun y=>y.g=v:=by
     unfold mV
     split at h
     ·rename_i fo hb ha
      simp only[hb,ha]
      cases hc:fo.cells[off]? with
      | none=>rw[hc] at h;cases h
      | some av=>rw[hc] at h;simp only[Option.map_some,Option.some.injEq] at h;exact h
     ·rename_i fo hb ha
      simp only[hb,ha]
      split at h
      ·rename_i n hn
       simp only[hn]
       cases hlen:(((fo.cells.drop off).take n).length==n) with
       | false=>rw[hlen] at h;cases h
       | true=>rw[hlen] at h;simp only[cond_true,Option.some.injEq] at h;exact h
      ·cases h
     ·cases h
    obtain⟨av,hg,_,hload⟩:=o5 hl
    have:=hload b hwf w fun fo hb=>hr.sat.get hb
    rw[hg] at this
    simp[sb,hv,asAddr,Sem.run_bind,this]
   ·cases h
theorem sd{σ:S}{I:cS}{F:cR}{a:Act}{w:World}(hr:Rel σ I F a w):∀{rs:List ResultVar} {vs:List Value},oI P σ rs=some vs →
  (rs.mapM (sb a)).run P w=.ok vs w
 | [],vs,h=>by simp only[oI,Option.some.injEq] at h;subst h;rfl
 | r::rs,vs,h=>by
   simp only[oI] at h
   split at h
   ·rename_i v us h1 h2
    cases h
    simp[Sem.run_bind,xM hr h1,sd hr h2]
   ·cases h
theorem qC{fn:Func}{σ:S}{I:cS}{F:cR}{a:Act}{w:World}(hr:Rel σ I F a w){vs:List Value}(h:oI P σ fn.results.toList=some vs) :
  (results fn a.tmps).run P w=.ok (xL vs) w:=by
 have h1:=sd hr h
 have h2:results fn a.tmps=(do
   let vs ←fn.results.mapM (sb a)
   pure (if h:vs.size=1 then vs[0] else .tuple vs)):=rfl
 rw[h2,Array.mapM_eq_mapM_toList]
 simp only[Sem.run_bind,Sem.run_map,h1,Result.andThen_ok,Sem.run_pure]
 congr 1
 match vs with
 | []=>rfl
 | [v]=>rfl
 | _::_::_=>rfl
def pick(own:List dX):List Nat→List dX
 | []=>[]
 | i::r=>match own[i]? with
   | some b=>b::pick own r
   | none=>pick own r
def xN:Option (List PanicEntry)→FrameMode
 | none=>.returning
 | some ch=>.panicking ch
def ie(P:Program)(f:FuncId)(args:List Value)(u:FrameMode)(I:cS)(F:cR)(Q:Ending→FrameMode→cS→cR→Prop):Prop :=
 ∀w,Sat I F w→CallsDIn Fence.wide 0 P f args.toArray u w fun e u' w'=>∃I' F',cS.le I I'∧Sat I' F' w'∧Q e u' I' F'
def wb(P:Program)(A:n9)(rs:List ResultVar)(keep:List Nat)(Q:Ending→cS→cR→Prop):List Df→Option (List PanicEntry)→S→cS→cR→Prop
 | [],none,σ,I,F=>match oI P σ rs with
   | some vs=>Q (.returned (xL vs)) I (dp (pick σ.own keep)++F)
   | none=>False
 | [],some ch,σ,I,F=>Q (.panicked ch) I (dp (pick σ.own keep)++F)
 | .mark D::r,u,σ,I,F=>∃F3:cR,F.Perm ((D,.deferred (some []))::F3)∧wb P A rs keep Q r u σ I F3
 | .fn f first cap args::r,u,σ,I,F=>cond (A.good f)
   (ie P f (first.map At.g++args++cap.map At.g) (xN u) I (dp σ.own++F) fun e u' I' G=>∃v,e=.returned v ∧
     o6 A.shp (Fg σ.own 2 (first.flatMap At.idx++cap.flatMap At.idx)) 0 σ.own fun own'=>∃F',G.Perm (dp own'++F') ∧
      ((settle u'=.returning∧wb P A rs keep Q r none { σ with own:=own' } I' F')∨(∃ch,settle u'=.panicking ch∧wb P A rs keep Q r (some ch) { σ with own:=own' } I' F'))) False
def yL(P:Program)(A:n9)(rs:List ResultVar)(keep:List Nat)(Q:Ending→cS→cR→Prop):Kt
 | .normal,σ,I,F=>wb P A rs keep Q σ.df none σ I F
 | .ret,σ,I,F=>wb P A rs keep Q σ.df none σ I F
 | .panic ch,σ,I,F=>wb P A rs keep Q σ.df (some ch) σ I F
 | _,_,_,_=>False
def B0:Nat→List Nat→Bool
 | _,[]=>true
 | n,i::r=>decide (n≤i)&&B0 (i+1) r
theorem se:∀(keep:List Nat) (n:Nat) (own:List dX),B0 n keep=true→(pick own keep).Sublist (own.drop n)
 | [],n,own,_=>by simp[pick]
 | i::r,n,own,h=>by
   simp only[B0,Bool.and_eq_true,decide_eq_true_eq] at h
   have ih:=se r (i+1) own h.2
   simp only[pick]
   have hd:(own.drop (i+1)).Sublist (own.drop n):=by
    have:own.drop (i+1)=(own.drop n).drop (i+1-n):=by rw[List.drop_drop];congr 1;omega
    rw[this];exact List.drop_sublist _ _
   cases hb:own[i]? with
   | none=>exact ih.trans hd
   | some b =>
     have hlt:i<own.length:=by
      rcases Nat.lt_or_ge i own.length with h' | h'
      ·exact h'
      ·simp[List.getElem?_eq_none h'] at hb
     have hc:own.drop i=b::own.drop (i+1):=by
      rw[List.drop_eq_getElem_cons hlt]
      rw[List.getElem?_eq_getElem hlt] at hb
      rw[Option.some.inj hb]
     have hd':(own.drop i).Sublist (own.drop n):=by
      have:own.drop i=(own.drop n).drop (i-n):=by rw[List.drop_drop];congr 1;omega
      rw[this];exact List.drop_sublist _ _
     exact ((List.Sublist.cons_cons b ih).trans (by rw[hc];exact List.Sublist.refl _)).trans hd'
def kK(args:List AV)(n:Nat):List (Option AV):=args.map some++List.replicate (n-args.length) none
theorem zH{shp:Nat→List Sh}{σ:S}{I I':cS}{F F' G:cR}{E:List Nat}{a:Act}{w w':World}(hr:Rel σ I F a w){own':List dX}(hsat:Sat I' G w')
  (h:own'.length=σ.own.length∧∀(j:Nat) (b:dX),σ.own[j]? = some b→∃b':dX,own'[j]? = some b'∧b'.num=b.num∧b'.elem=b.elem∧b'.ro=b.ro ∧
    ((∃vs:List Value,b'.cells=vs.map fun v=>.a (.v v))∨b'.cells=b.cells)∧(b.ro=true→b'.cells=b.cells)) (hp:G.Perm (dp own'++F')):Rel { σ with own:=own' } I' F' a w':=by
 obtain⟨hl,hk⟩:=h
 have hkeep:dv σ { σ with own:=own' }:=fun j b hb=>by
  obtain⟨b',h1,h2,h3,h4,_,h6⟩:=hk j b hb
  exact⟨b',h1,h2,h3,fun hro=>⟨by rw[h4];exact hro,h6 hro⟩⟩
 refine hr.heap hkeep.same ?_ (hsat.perm hp)
 intro j b' hj c hc
 have hlt:j<σ.own.length:=by
  rcases Nat.lt_or_ge j own'.length with h' | h'
  ·omega
  ·simp[List.getElem?_eq_none h'] at hj
 obtain⟨b,hb⟩:∃b,σ.own[j]? = some b:=⟨σ.own[j],by simp[hlt]⟩
 obtain⟨b'',h1,_,_,_,h5,_⟩:=hk j b hb
 rw[hj] at h1;cases h1
 rcases h5 with ⟨vs,e⟩ | e
 ·rw[e] at hc;obtain⟨v,_,e⟩:=List.mem_map.1 hc;subst e;trivial
 ·rw[e] at hc;exact AV.eZ hkeep.same (hr.wfo j b hb c hc)
theorem lZ(hP:∀f,A.good f=true→dC P f){fn:Func}{keep:List Nat}(hk:B0 0 keep=true){Q:Ending→cS→cR→Prop}{I0:cS}:∀(df:List Df) (u:Option (List PanicEntry)) (σ:S) (I:cS) (F:cR) (a:Act) (w:World),
  wb P A fn.results.toList keep Q df u σ I F→Rel σ I F a w→cS.le I0 I→LeavesInM Fence.wide 0 P fn a.tmps (rz I0 Q) (df.map Df.d) (xN u) w:=by
 have hsub:∀{σ:S} {I:cS} {F:cR} {a:Act} {w:World},Rel σ I F a w→Sat I (dp (pick σ.own keep)++F) w:=fun {σ I F a w} h1=>by
  have h5:=se keep 0 σ.own hk
  rw[List.drop_zero] at h5
  exact h1.sat.sub ((h5.map _).append (List.Sublist.refl F))
 intro df
 induction df with
 | nil =>
   intro u σ I F a w h hr hle
   cases u with
   | none =>
     simp only[wb] at h
     split at h
     ·rename_i vs hvs
      exact⟨_,qC hr hvs,I,_,hle,hsub hr,h⟩
     ·exact h.elim
   | some ch=>exact⟨I,_,hle,hsub hr,h⟩
 | cons d df ih =>
   intro u σ I F a w h hr hle
   have hrun:xN u ≠ .run:=by cases u<;>exact fun h=>by cases h
   cases d with
   | mark D =>
     obtain⟨F3,hp,h⟩:=h
     have hs:Sat I ((D,.deferred (some []))::(dp σ.own++F3)) w:=(hr.sat.perm (List.Perm.append_left _ hp)).perm List.perm_middle
     refine⟨hrun,.inl ⟨D,_,rfl,run_takeDeferred hs.qW,ih u σ I F3 a _ h ?_ hle⟩⟩
     exact hr.heap (jq.refl _) hr.wfo ((hs.pg (o':=.deferred none)).sub (List.sublist_cons_self _ _))
   | fn f first cap args =>
     obtain⟨hg,h⟩:=dj h
     refine⟨hrun,.inr ⟨fun h=>by simp[Fence.wide] at h,.func f,(cap.map At.g).toArray,f,(first.map At.g).toArray++args.toArray++(cap.map At.g).toArray,rfl, ?_,fun _ _=>trivial, ?_⟩⟩
     ·simp only[Df.d,invoke];exact hP f hg _ w
     ·have hc:=h w hr.sat
      have ha:(first.map At.g++args++cap.map At.g).toArray=(first.map At.g).toArray++args.toArray++(cap.map At.g).toArray:=by simp
      rw[ha] at hc
      refine hc.mono fun e u' w' ⟨I',G,hle',hs',v,he,hq⟩=>?_
      subst he
      obtain⟨own',⟨F',hp,hor⟩,hown⟩:=lq hq
      have hrel:=zH (shp:=A.shp) (E:=[]) hr hs' hown hp
      rcases hor with ⟨hm,hk2⟩ | ⟨ch,hm,hk2⟩
      ·have:=ih none _ I' F' a w' hk2 hrel (cS.le_trans hle hle')
       show LeavesInM Fence.wide 0 P fn a.tmps (rz I0 Q) (df.map Df.d) (settle u') w'
       rw[hm];exact this
      ·have:=ih (some ch) _ I' F' a w' hk2 hrel (cS.le_trans hle hle')
       show LeavesInM Fence.wide 0 P fn a.tmps (rz I0 Q) (df.map Df.d) (settle u') w'
       rw[hm];exact this
theorem AX(hP:∀f,A.good f=true→dC P f){f:FuncId}{fn:Func}{c:Code}(hf:P.funcs[f]? = some fn)(hb:fn.body=some c){args:List AV}{own:List dX}
  {I:cS} {F:cR} {keep:List Nat} {Q:Ending→cS→cR→Prop} (hk:B0 0 keep=true) (hwa:∀x∈args,AV.wf own x) (hwo:∀b∈own,∀x∈b.cells,AV.wf own x)
  (h:W P A none c 0 (yL P A fn.results.toList keep Q) ⟨kK args fn.ntmps,own,[]⟩ I F) {vs:Array Value} (hv:vs=(args.map AV.g).toArray):cV P f vs I (dp own++F) Q:=by
 subst hv
 intro w hw
 refine callsIn_wide.1 (callsIn_of_wp_marks (n:=0) hf hb trivial ?_)
 have hrel:Rel ⟨kK args fn.ntmps,own,[]⟩ I F { tmps:=(args.map AV.g).toArray++Array.replicate (fn.ntmps-(args.map AV.g).toArray.size) undef,defers:=[] } w:=by
  refine⟨by simp[kK], ?_,rfl, ?_, ?_,hw⟩
  ·intro t av ht
   simp only[kK,List.getElem?_append] at ht
   split at ht
   ·rename_i hlt
    simp only[List.getElem?_map] at ht
    cases ha:args[t]? with
    | none=>rw[ha] at ht;simp at ht
    | some x =>
      rw[ha] at ht
      simp only[Option.map_some,Option.some.injEq] at ht
      subst ht
      simp at hlt
      rw[Array.getElem?_append_left (by simpa using hlt)]
      simp[ha]
   ·rw[List.getElem?_replicate] at ht;split at ht<;>cases ht
  ·intro t av ht
   simp only[kK,List.getElem?_append] at ht
   split at ht
   ·simp only[List.getElem?_map] at ht
    cases ha:args[t]? with
    | none=>rw[ha] at ht;simp at ht
    | some x =>
      rw[ha] at ht
      simp only[Option.map_some,Option.some.injEq] at ht
      subst ht
      exact hwa _ (List.mem_of_getElem? ha)
   ·rw[List.getElem?_replicate] at ht;split at ht<;>cases ht
  ·exact fun i b hb' x hx=>hwo b (List.mem_of_getElem? hb') x hx
 refine wpIn_mono (yK hP c 0 _ none none _ I F _ w rfl h hrel) ?_
 intro e a' w' ⟨σ',I',F',h1,h2,h3,h4⟩
 cases e with
 | normal =>
   have:=lZ hP hk σ'.df none σ' I' F' a' w' h3 h1 h2
   rw[←h1.defers] at this;exact this
 | ret =>
   have:=lZ hP hk σ'.df none σ' I' F' a' w' h3 h1 h2
   rw[←h1.defers] at this;exact this
 | panic ch =>
   have:=lZ hP hk σ'.df (some ch) σ' I' F' a' w' h3 h1 h2
   rw[←h1.defers] at this;exact this
 | exit id=>exact h3.elim
 | goto l=>exact h3.elim
 | outgrown=>exact h3.elim
end sound
def sf(P:Program)(f:Nat):Bool :=
 match P.funcs[f]? with
 | some fn=>!(fn.name == "runtime.NumGoroutine")&&fn.body.isSome
 | none=>false
theorem iO{P:Program}{f:Nat}(h:sf P f=true):dC P f:=by
 intro args w
 unfold sf at h
 split at h
 ·rename_i fn hf
  simp only[Bool.and_eq_true,Bool.not_eq_true'] at h
  have h1:¬fn.name = "runtime.NumGoroutine" := by simpa using h.1
  have h2:¬fn.body=none:=fun e=>by rw[e] at h;simp at h
  simp[callFunc,program,Sem.run_bind,Sem.run,hf,h1,h2]
 ·cases h
def lk(l:List (Nat×List Sh))(t:Nat):List Sh :=
 match l with
 | []=>[]
 | (s,x)::r=>cond (s==t) x (lk r t)
def ph:List Nat→Nat→Bool
 | [],_=>false
 | x::r,n=>x==n||ph r n
def FX(l:List (Nat×Cut))(n:Nat):Option Cut :=
 match l with
 | []=>none
 | (m,c)::r=>cond (m==n) (some c) (FX r n)
def FY(l:List (Nat×Nat×List Nat))(n:Nat):Option (Nat×List Nat) :=
 match l with
 | []=>none
 | (m,k,h)::r=>cond (m==n) (some (k,h)) (FY r n)
theorem qD{P:Program}(l:List Nat)(h:l.all (sf P)=true):∀f,ph l f=true→dC P f:=by
 intro f hf
 have:f∈l:=by
  clear h
  induction l with
  | nil=>simp[ph] at hf
  | cons x r ih =>
    simp only[ph,Bool.or_eq_true,beq_iff_eq] at hf
    rcases hf with hf | hf
    ·exact hf▸List.mem_cons_self ..
    ·exact List.mem_cons_of_mem _ (ih hf)
 exact iO (List.all_eq_true.1 h f this)
abbrev cU:=Ending→cS→cR→Prop
def eM(sp pn gd:List Nat)(sh:List (Nat×List Sh))(ct:List (Nat×Cut))(pr rl:List Nat)(ds:List (Nat×Nat×List Nat))(fv:List Nat)(sq:List (Nat×List Nat))(tl:List (Nat×Nat))(s2:List (Nat×Nat×Nat×List Nat×List Nat):=[])(ol:List (Nat×List Nat×Nat):=[])(ot:List (Nat×List Nat×Ot):=[]):n9 :=
 { sp:=fun r i=>ph sp (r*1000+i),pn:=ph pn,good:=ph gd,shp:=lk sh,cut:=FX ct,pr:=fun r i=>ph pr (r*1000+i),ds:=FY ds,rl:=fun r i=>ph rl (r*1000+i),fv:=fun r i=>ph fv (r*1000+i),sq:=FQ sq,tl:=FV tl,s2:=FR s2,ol:=FU ol,ot:=FT ot }
theorem wc{P:Program}{A:n9}{f:FuncId}{fn:Func}{args:List AV}{own:List dX}{I:cS}{F:cR}{keep:List Nat}{Q:cU}{V:Prop}(gd:List Nat)(hf:P.funcs[f]? = some fn)(h:V)
  (e:W P A none (fn.body.getD .skip) 0 (yL P A fn.results.toList keep Q) ⟨kK args fn.ntmps,own,[]⟩ I F=V) (hg:A.good=ph gd) (hG:gd.all (sf P)=true) (hb:fn.body=some (fn.body.getD .skip)) (hk:B0 0 keep=true)
  (hwa:∀x∈args,AV.wf own x) (hwo:∀b∈own,∀x∈b.cells,AV.wf own x) {vs:Array Value} (hv:vs=(args.map AV.g).toArray):cV P f vs I (dp own++F) Q :=
 AX (fun f hf'=>qD gd hG f (by rw[←hg];exact hf')) hf hb hk hwa hwo (by rw[e];exact h) hv
theorem tv{P:Program}{A:n9}{f:FuncId}{fn:Func}{args:List AV}{own:List dX}{I:cS}{F:cR}{keep:List Nat}{Q:cU}{V:Prop}(gd:List Nat)(hf:P.funcs[f]? = some fn)(h:V)
  (e:W P A none (fn.body.getD .skip) 0 (yL P A fn.results.toList keep Q) ⟨kK args fn.ntmps,own,[]⟩ I F=V:=by kernel_rfl) (hg:A.good=ph gd:=by kernel_rfl) (hG:gd.all (sf P)=true:=by kernel_rfl) (hb:fn.body=some (fn.body.getD .skip):=by kernel_rfl) (hk:B0 0 keep=true:=by kernel_rfl)
  (hwa:∀x∈args,AV.wf own x:=by simp[AV.wf,At.wf]) (hwo:∀b∈own,∀x∈b.cells,AV.wf own x:=by simp[AV.wf,At.wf]) {vs:Array Value} (hv:vs=(args.map AV.g).toArray:=by rfl):cV P f vs I (dp own++F) Q :=
 wc gd hf h e hg hG hb hk hwa hwo hv
abbrev Bs:=ByteArray
abbrev OA:=Option Addr
abbrev nB:ByteArray:=⟨#[]⟩
abbrev It(c:Bool)(A B:Prop):Prop:=(c=true→A)∧(c=false→B)
abbrev Dt(p:Prop)[Decidable p](A B:Prop):Prop:=(decide p=true→A)∧(decide p=false→B)
abbrev fp{α:Type}(P:Program)(f:FuncId)(x:Array Value)(I:cS)(h:cR→cR)(F:cR)(v:α→Value)(k:α→cS→cR→Prop):Prop:=cV P f x I (h F) fun e I' G=>∃r:α,e=.returned (v r)∧∃F':cR,List.Perm G (h F')∧k r I' F'
abbrev sg(P:Program)(f:FuncId)(x:Array Value)(I:cS)(h:cR→cR)(F:cR)(R:Ending→cS→((cR→Prop)→Prop)→Prop):Prop:=cV P f x I (h F) fun e I' G=>R e I' fun k=>∃F':cR,List.Perm G (h F')∧k F'
abbrev an(g:List Nat)(c:List Nat)(s:List (Nat×List Sh)):n9:=eM g [] c s [] [] [] [] [] [] []
theorem tw{P:Program}{A:n9}{f:FuncId}{fn:Func}{vs:List Value}{I:cS}{F:cR}{Q:cU}{V:Prop}(gd:List Nat)(hf:P.funcs[f]? = some fn)(h:V)
  (e:W P A none (fn.body.getD .skip) 0 (yL P A fn.results.toList [] Q) ⟨kK (vs.map fun v=>.a (.v v)) fn.ntmps,[],[]⟩ I F=V:=by kernel_rfl) (hg:A.good=ph gd:=by kernel_rfl) (hG:gd.all (sf P)=true:=by kernel_rfl) (hb:fn.body=some (fn.body.getD .skip):=by kernel_rfl)
  : cV P f vs.toArray I F Q :=
 wc (args:=vs.map fun v=>.a (.v v)) (own:=[]) (keep:=[]) gd hf h e hg hG hb rfl (by intro x hx;obtain⟨v,_,rfl⟩:=List.mem_map.1 hx;simp[AV.wf,At.wf]) (by simp) (by rw[List.map_map];congr 1;exact (List.map_id _).symm)
end Go.Vc
namespace Go.Vc
theorem sk{α β:Type}(f:α→List β)(z:Nat)(hz:∀x,(f x).length=z):∀(l:List α) (i:Nat) (x:α) (j:Nat),l[i]? = some x→j<z→(l.flatMap f)[i*z+j]? = (f x)[j]?
 | [],i,x,j,h,_=>by simp at h
 | y::l,0,x,j,h,hj=>by
   simp at h;subst h
   rw[List.flatMap_cons,List.getElem?_append_left (by rw[hz];omega)];simp
 | y::l,i+1,x,j,h,hj=>by
   rw[List.flatMap_cons,List.getElem?_append_right (by rw[hz,Nat.succ_mul];omega),hz,show (i+1)*z+j-z=i*z+j by rw[Nat.succ_mul];omega]
   exact sk f z hz l i x j (by simpa using h) hj
def Sl{α:Type}(I:cS)(z:Nat)(f:α→List Value)(a:Option Addr)(n:Nat)(l:List α):Prop :=
 n=l.length∧(l≠[]→∃ad,a=some ad∧∀(i:Nat) (x:α),l[i]? = some x→∀G,Rd I G (ad.add (i*z)) (f x))
theorem Rd.le{I J:cS}{G:cR}{ad:Addr}{cs:List Value}(h:Rd I G ad cs)(hl:∀b o,(I b=some o∨(b,o)∈G)→J b=some o∨(b,o)∈G):Rd J G ad cs:=by
 obtain⟨h1,cells,e,fz,h2,h3⟩:=h
 exact⟨h1,cells,e,fz,hl _ _ h2,h3⟩
theorem Rd.mono{I J:cS}{G:cR}{ad:Addr}{cs:List Value}(h:Rd I G ad cs)(hl:cS.le I J):Rd J G ad cs :=
 h.le fun b o hb=>hb.imp (fun h=>hl.at h) id
theorem Sl.mono{α:Type}{I J:cS}{z:Nat}{f:α→List Value}{a:Option Addr}{n:Nat}{l:List α}(h:Sl I z f a n l)(hl:cS.le I J):Sl J z f a n l :=
 ⟨h.1,fun hne=>let ⟨ad,ha,hr⟩:=h.2 hne;⟨ad,ha,fun i x hx G=>(hr i x hx G).mono hl⟩⟩
theorem Sl.pj{α:Type}{I:cS}{z:Nat}{f:α→List Value}(hz:∀x,(f x).length=z){b e:Nat}{fz:Nat×Nat}{l:List α}{cells:Array Value}(h:I b=some (.cells cells e fz))
  (hc:∀k,k<(l.flatMap f).length→cells[k]? = (l.flatMap f)[k]?):Sl I z f (some ⟨b,0,none⟩) l.length l:=by
 refine⟨rfl,fun hne=>⟨_,rfl,fun i x hx G=>?_⟩⟩
 have hadd:(⟨b,0,none⟩:Addr).add (i*z)=⟨b,i*z,none⟩:=by unfold Addr.add;split<;>simp_all
 rw[hadd]
 refine⟨rfl,cells,e,fz,.inl h,fun j hj=>?_⟩
 rw[hz] at hj
 have h1:=sk f z hz l i x j hx hj
 have h2:(l.flatMap f)[i*z+j]? ≠ none:=by
  rw[h1];rw[List.getElem?_eq_getElem (by rw[hz];exact hj)];simp
 have hlt:i*z+j<(l.flatMap f).length:=by
  rcases Nat.lt_or_ge (i*z+j) (l.flatMap f).length with h | h
  ·exact h
  ·exact absurd (List.getElem?_eq_none h) h2
 show cells[i*z+j]? = _
 rw[hc _ hlt,h1]
theorem Sl.ki{α:Type}{I:cS}{z:Nat}{f:α→List Value}(hz:∀x,(f x).length=z){b e:Nat}{fz:Nat×Nat}{l:List α}{cells:Array Value}(h:I b=some (.cells cells e fz))
  (hc:cells.toList=l.flatMap f):Sl I z f (some ⟨b,0,none⟩) l.length l :=
 Sl.pj hz h fun k _=>by rw[←hc];simp
theorem Sl.at{α:Type}{I:cS}{z:Nat}{f:α→List Value}{a:Option Addr}{n:Nat}{l:List α}(h:Sl I z f a n l){i:Int}(h0:0≤i)(h1:i<n) :
  ∃ad x,a=some ad∧l[i.toNat]? = some x∧∀G,Rd I G (ad.add (Int.toNat i*z)) (f x):=by
 have hlt:i.toNat<l.length:=by have:=h.1;omega
 obtain⟨ad,ha,hr⟩:=h.2 (by intro e;rw[e] at hlt;simp at hlt)
 exact⟨ad,l[i.toNat],ha,by simp[hlt],fun G=>hr _ _ (by simp[hlt]) G⟩
theorem Sl.len{α:Type}{I:cS}{z:Nat}{f:α→List Value}{a:Option Addr}{n:Nat}{l:List α}(h:Sl I z f a n l):n=l.length:=h.1
def Acc{α:Type}(z:Nat)(f:α→List Value)(e:Nat)(a:Option Addr)(n c:Nat)(l:List α)(A:cR):Prop :=
 n=l.length∧((a=none∧c=0∧l=[]∧A=[]) ∨
  ∃b cells,a=some ⟨b,0,none⟩∧A=[(b,Obj.cells cells e (0,0))]∧cells.size=c*z∧n≤c∧cells.toList.take (n*z)=l.flatMap f)
theorem Acc.nil{α:Type}{z:Nat}{f:α→List Value}{e:Nat}:Acc z f e none 0 0 ([]:List α) []:=⟨rfl,.inl ⟨rfl,rfl,rfl,rfl⟩⟩
theorem xO(w:World)(g:Nat)(old cs:Array Value)(t:TypeId)(fr:Nat×Nat)(hg:w.heap[g]? = some (.cells old t fr)):(w.setRow g cs).heap=w.heap.setIfInBounds g (.cells cs t fr):=by
 apply Array.ext_getElem?
 intro j
 rw[Array.getElem?_setIfInBounds]
 by_cases h:g=j
 ·subst h
  have hlt:g<w.heap.size:=(Array.getElem?_eq_some_iff.1 hg).1
  rw[if_pos rfl,if_pos hlt];exact setRow_heap w g old cs t fr hg
 ·rw[if_neg h];exact setRow_other w g j cs (Ne.symm h)
theorem ly{α β:Type}{f:α→List β}{z:Nat}(hz:∀x,(f x).length=z):∀l:List α,(l.flatMap f).length=l.length*z
 | []=>by simp
 | x::l=>by rw[List.flatMap_cons,List.length_append,hz,ly hz l,List.length_cons,Nat.succ_mul,Nat.add_comm]
theorem we{P:Program}{α:Type}{z:Nat}{f:α→List Value}(hz:∀x,(f x).length=z)(t ty e:TypeId)(i:TypeInfo)(zv:Value)(ht:P.underlying t=some (.slice e))(hi:P.info? e=some i)(hzv:i.zero=some zv)(hsz:i.size=z)(hzs:zv.cells.size=z)(hb:1≤i.bytes)
  {a:Option Addr} {n c:Nat} {l:List α} {A:cR} (hA:Acc z f e a n c l A) {xs:List α} (h1:∀x∈xs,∀u∈f x,u.oneCell'=true) (hx:xs≠[]) {sa:Addr} {m sc:Nat} (hm:m=xs.length) {I:cS} {F:cR}
  (hr:Rd I (A++F) sa (xs.flatMap f)) (hfit:(l.length+xs.length)*i.bytes≤140737488355328) :
  fh P (Builtin.append_ #[t,t] ty #[.slice a n c,.slice (some sa) m sc]) I (A++F) fun v I' G=>∃a' n' c' A',v=.slice a' n' c'∧Acc z f e a' n' c' (l++xs) A'∧G=A'++F∧(a'=a∨Sl I' z f a n l):=by
 intro w hw
 subst hsz
 have hlen:(xs.flatMap f).length=m*i.size:=by rw[ly hz,hm]
 have hnews:∀j u,(xs.flatMap f)[j]? = some u→w.cell? (sa.add j)=some u:=fun j u hj=>by
  rw[hr.cell hw j (by
   rcases Nat.lt_or_ge j (xs.flatMap f).length with h | h
   ·exact h
   ·rw[List.getElem?_eq_none h] at hj;cases hj),hj]
 have h1':∀u∈xs.flatMap f,u.oneCell'=true:=fun u hu=>by
  obtain⟨x,hxm,hu⟩:=List.mem_flatMap.1 hu
  exact h1 x hxm u hu
 have hxp:0<xs.length:=List.length_pos_iff.2 hx
 have hle:l.length+xs.length≤140737488355328:=Nat.le_trans (Nat.le_mul_of_pos_right _ hb) hfit
 obtain⟨hn,⟨ha,hc,hl,hA⟩ | ⟨b,cells,ha,hA,hcs,hnc,htk⟩⟩:=hA
 ·subst ha hc hl hA
  simp only[List.length_nil,Nat.zero_add,List.nil_append] at hfit hn hle ⊢
  subst hn
  have hrun:=run_append_nil (P:=P) w t ty e i zv ht hi hzv sa m sc _ hlen hnews (by omega) (by omega) (by rw[hm];omega)
  have hge:=grownCap_ge w m 0 e
  have hsat:Sat I F w.drew:=hw.of_heap rfl ⟨rfl,rfl⟩
  refine⟨_,_,I,_,hrun,cS.le_refl I,hsat.alloc _,_,_,_,[_],rfl,⟨hm,.inr ⟨_,_,rfl,rfl, ?_,hge, ?_⟩⟩,rfl, ?_⟩
  ·simp only[Array.size_append,List.size_toArray,size_zeroCells,hzs,hlen,←Nat.add_mul]
   congr 1;omega
  ·rw[Array.toList_append,←hlen];exact List.take_left
  ·exact .inr ⟨rfl,fun h=>absurd rfl h⟩
 ·subst ha hA
  have hflat:(l.flatMap f).length=n*i.size:=by rw[ly hz,hn]
  have hg:w.heap[b]? = some (.cells cells e (0,0)):=hw.own _ _ (List.mem_cons_self ..)
  by_cases hroom:n+m≤c
  ·have hfit2:n*i.size+(xs.flatMap f).length≤cells.size:=by rw[hlen,hcs,←Nat.add_mul];exact Nat.mul_le_mul_right _ hroom
   have hrun:=run_append_room (P:=P) w t ty e i ht hi b n c cells hg sa m sc _ hlen hnews h1' hroom hfit2
   refine⟨_,_,I,_,hrun,cS.le_refl I,hw.set (xO w b cells _ e (0,0) hg) ⟨rfl,rfl⟩,_,_,_,[_],rfl,⟨by rw[List.length_append];omega,.inr ⟨_,_,rfl,rfl, ?_,hroom, ?_⟩⟩,rfl,.inl rfl⟩
   ·simp only[List.size_toArray,List.length_append,List.length_take,List.length_drop,Array.length_toList]
    omega
   ·rw[htk,List.flatMap_append,Nat.add_mul,←hflat,←hlen,←List.length_append]
    exact List.take_left
  ·have hcell:∀j u,(l.flatMap f)[j]? = some u→w.cell? ((⟨b,0,none⟩:Addr).add j)=some u:=fun j u hj=>by
    have hadd:(⟨b,0,none⟩:Addr).add j=⟨b,j,none⟩:=by unfold Addr.add;split<;>simp_all
    rw[hadd,cell_of_row w b j cells e (0,0) hg]
    rw[←htk,List.getElem?_take] at hj
    split at hj
    ·simpa using hj
    ·cases hj
   have hrun:=run_append_grow (P:=P) w t ty e i zv ht hi hzv ⟨b,0,none⟩ n c _ hflat hcell sa m sc _ hlen hnews (by omega) (by omega) (growslice_fits (by omega) (by rw[hn,hm];exact hfit))
   have hge:=grownCap_ge w (n+m) c e
   obtain⟨hle',hprom⟩:=(hw.of_heap rfl ⟨rfl,rfl⟩:Sat I ((b,Obj.cells cells e (0,0))::F) w.drew).kF
   refine⟨_,_,_,_,hrun,hle',hprom.alloc _,_,_,_,[_],rfl,⟨by rw[List.length_append];omega,.inr ⟨_,_,rfl,rfl, ?_,hge, ?_⟩⟩,rfl,.inr ?_⟩
   ·simp only[Array.size_append,List.size_toArray,size_zeroCells,hzs,hflat,hlen,←Nat.add_mul]
    congr 1;omega
   ·simp only[Array.toList_append]
    rw[List.flatMap_append,Nat.add_mul,←hflat,←hlen,←List.length_append]
    exact List.take_left
   ·rw[hn]
    refine Sl.pj hz (cS.o0 _ _ _) fun k hk=>?_
    rw[←htk,List.getElem?_take,if_pos]
    ·simp
    ·rw[ly hz,←hn] at hk;exact hk
theorem pk{P:Program}{α:Type}{z:Nat}{f:α→List Value}(hz:∀x,(f x).length=z){t ty e:TypeId}{zv:Value}{by':Nat}(ht:P.underlying t=some (.slice e))(hi:(P.info? e).map (fun i=>(i.zero,i.size,i.bytes))=some (some zv,z,by'))(hzs:zv.cells.size=z)(hb:1≤by')
  {a:Option Addr} {n c:Nat} {l:List α} {A:cR} (hA:Acc z f e a n c l A) {xs:List α} (h1:∀x∈xs,∀u∈f x,u.oneCell'=true) (hx:xs≠[]) {sa:Addr} {m sc:Nat} (hm:m=xs.length) {I:cS} {F:cR}
  (hr:Rd I (A++F) sa (xs.flatMap f)) (hfit:(l.length+xs.length)*by'≤140737488355328) :
  fh P (Builtin.append_ #[t,t] ty #[.slice a n c,.slice (some sa) m sc]) I (A++F) fun v I' G=>∃a' n' c' A',v=.slice a' n' c'∧Acc z f e a' n' c' (l++xs) A'∧G=A'++F∧(a'=a∨Sl I' z f a n l):=by
 cases h:P.info? e with
 | none=>rw[h] at hi;cases hi
 | some i =>
   rw[h] at hi
   simp only[Option.map_some,Option.some.injEq,Prod.mk.injEq] at hi
   exact we hz t ty e i zv ht h hi.1 hi.2.1 hzs (by omega) hA h1 hx hm hr (by rw[hi.2.2];exact hfit)
theorem fh.perm{P:Program}{s:Sem Value}{I:cS}{F G:cR}{Q:Value→cS→cR→Prop}(h:fh P s I F Q)(p:G.Perm F):fh P s I G Q:=fun w hw=>h w (hw.perm p)
theorem cV.perm{P:Program}{f:FuncId}{args:Array Value}{I:cS}{F G:cR}{Q:Ending→cS→cR→Prop}(h:cV P f args I F Q)(p:G.Perm F):cV P f args I G Q:=fun w hw=>h w (hw.perm p)
theorem cV.keep{P:Program}{f:FuncId}{args:Array Value}{I:cS}{F:cR}{Q Q':Ending→cS→cR→Prop}(h:cV P f args I F Q)
  (k:∀e I' G w,cS.le I I'→Sat I' G w→Q e I' G→∃J G',cS.le I' J∧Sat J G' w∧Q' e J G'):cV P f args I F Q' :=
 fun w hw=>(h w hw).mono fun e w' ⟨I',G,hl,hs,hq⟩=>let ⟨J,G',hl',hs',hq'⟩:=k e I' G w' hl hs hq;⟨J,G',cS.le_trans hl hl',hs',hq'⟩
theorem Acc.keep{α:Type}{z:Nat}{f:α→List Value}(hz:∀x,(f x).length=z){e:Nat}{a:Option Addr}{n c:Nat}{l:List α}{A F:cR}(h:Acc z f e a n c l A){I:cS}{w:World}(hw:Sat I (A++F) w) :
  ∃J,cS.le I J∧Sat J F w∧Sl J z f a n l:=by
 obtain⟨hn,⟨ha,hc,hl,hA⟩ | ⟨b,cells,ha,hA,hcs,hnc,htk⟩⟩:=h
 ·subst ha hc hl hA hn
  exact⟨I,cS.le_refl I,hw,rfl,fun h=>absurd rfl h⟩
 ·subst ha hA
  obtain⟨h1,h2⟩:=hw.kF
  refine⟨_,h1,h2, ?_⟩
  rw[hn]
  refine Sl.pj hz (cS.o0 _ _ _) fun k hk=>?_
  rw[←htk,List.getElem?_take,if_pos]
  ·simp
  ·rw[ly hz,←hn] at hk;exact hk
def pY{α:Type}(I:cS)(G:cR)(z:Nat)(f:α→List Value)(a:Option Addr)(n:Nat)(l:List α):Prop :=
 n=l.length∧(l≠[]→∃ad,a=some ad∧∀(i:Nat) (x:α),l[i]? = some x→Rd I G (ad.add (i*z)) (f x))
theorem Rd.sub{I J:cS}{G H:cR}{ad:Addr}{cs:List Value}(h:Rd I G ad cs)(hl:cS.le I J)(hs:∀x,x∈G→x∈H):Rd J H ad cs:=by
 obtain⟨h1,cells,e,fz,h2,h3⟩:=h
 exact⟨h1,cells,e,fz,h2.imp (fun h=>hl.at h) (hs _),h3⟩
theorem pY.mono{α:Type}{I J:cS}{G H:cR}{z:Nat}{f:α→List Value}{a:Option Addr}{n:Nat}{l:List α}(h:pY I G z f a n l)(hl:cS.le I J)(hs:∀x,x∈G→x∈H):pY J H z f a n l :=
 ⟨h.1,fun hne=>let ⟨ad,ha,hr⟩:=h.2 hne;⟨ad,ha,fun i x hx=>(hr i x hx).sub hl hs⟩⟩
theorem pY.at{α:Type}{I:cS}{G:cR}{z:Nat}{f:α→List Value}{a:Option Addr}{n:Nat}{l:List α}(h:pY I G z f a n l){i:Int}(h0:0≤i)(h1:i<n) :
  ∃ad x,a=some ad∧l[i.toNat]? = some x∧Rd I G (ad.add (Int.toNat i*z)) (f x):=by
 have hlt:i.toNat<l.length:=by have:=h.1;omega
 obtain⟨ad,ha,hr⟩:=h.2 (by intro e;rw[e] at hlt;simp at hlt)
 exact⟨ad,l[i.toNat],ha,by simp[hlt],hr _ _ (by simp[hlt])⟩
theorem pY.Dq{α:Type}{I:cS}{G:cR}{z:Nat}{f:α→List Value}(hz:∀x,(f x).length=z){b e:Nat}{fz:Nat×Nat}{l:List α}{cells:Array Value}(h:(b,Obj.cells cells e fz)∈G)
  (hc:∀k,k<(l.flatMap f).length→cells[k]? = (l.flatMap f)[k]?):pY I G z f (some ⟨b,0,none⟩) l.length l:=by
 refine⟨rfl,fun hne=>⟨_,rfl,fun i x hx=>?_⟩⟩
 have hadd:(⟨b,0,none⟩:Addr).add (i*z)=⟨b,i*z,none⟩:=by unfold Addr.add;split<;>simp_all
 rw[hadd]
 refine⟨rfl,cells,e,fz,.inr h,fun j hj=>?_⟩
 rw[hz] at hj
 have h1:=sk f z hz l i x j hx hj
 have h2:(l.flatMap f)[i*z+j]? ≠ none:=by
  rw[h1];rw[List.getElem?_eq_getElem (by rw[hz];exact hj)];simp
 have hlt:i*z+j<(l.flatMap f).length:=by
  rcases Nat.lt_or_ge (i*z+j) (l.flatMap f).length with h | h
  ·exact h
  ·exact absurd (List.getElem?_eq_none h) h2
 show cells[i*z+j]? = _
 rw[hc _ hlt,h1]
theorem Acc.FZ{α:Type}{z:Nat}{f:α→List Value}(hz:∀x,(f x).length=z){e:Nat}{a:Option Addr}{n c:Nat}{l:List α}{A:cR}(h:Acc z f e a n c l A)(I:cS){G:cR}(hs:∀x,x∈A→x∈G):pY I G z f a n l:=by
 obtain⟨hn,⟨ha,hc,hl,hA⟩ | ⟨b,cells,ha,hA,hcs,hnc,htk⟩⟩:=h
 ·subst hl hn;exact⟨rfl,fun h=>absurd rfl h⟩
 ·subst ha hA
  rw[hn]
  refine pY.Dq hz (hs _ (List.mem_cons_self ..)) fun k hk=>?_
  rw[←htk,List.getElem?_take,if_pos]
  ·simp
  ·rw[ly hz,←hn] at hk;exact hk
theorem Rd.field{I:cS}{G:cR}{ad:Addr}{cs:List Value}(h:Rd I G ad cs){o:Nat}{v:Value}(hv:cs[o]? = some v):Rd I G (ad.add o) [v]:=by
 obtain⟨h1,cells,e,fz,h2,h3⟩:=h
 have hadd:ad.add o=⟨ad.block,ad.off+o,none⟩:=by
  obtain⟨b,off,sp⟩:=ad
  simp only at h1;subst h1
  unfold Addr.add;split<;>simp_all
 rw[hadd]
 refine⟨rfl,cells,e,fz,h2,fun j hj=>?_⟩
 have:j=0:=by simpa using hj
 subst this
 have hlt:o<cs.length:=by
  rcases Nat.lt_or_ge o cs.length with h | h
  ·exact h
  ·rw[List.getElem?_eq_none h] at hv;cases hv
 show cells[ad.off+o+0]? = _
 rw[Nat.add_zero,h3 o hlt,hv];rfl
abbrev Ck(z:Nat):={ x:List Value // x.length=z }
def cv{z:Nat}(x:Ck z):List Value:=x.val
theorem Rd.dQ{I:cS}{G:cR}{ad:Addr}{cs:List Value}(h:Rd I G ad cs){p q:Nat}{v:Value}(hv:cs[p+q]? = some v):Rd I G ((ad.add p).add q) [v]:=by
 have h1:=h.field hv
 have hsp:=h.1
 have:(ad.add p).add q=ad.add (p+q):=by
  obtain⟨b,off,sp⟩:=ad
  simp only at hsp;subst hsp
  unfold Addr.add;simp only;repeat' split
  all_goals simp_all<;>omega
 rw[this];exact h1
theorem fy(b i:Nat):(⟨b,0,none⟩:Addr).add i=⟨b,i,none⟩:=by unfold Addr.add;split<;>simp_all
structure Row where
 a:Option Addr
 n:Nat
 c:Nat
def Row.enc(r:Row):List Value:=[.slice r.a r.n r.c]
def mN(z e:Nat):List Row→List (List (Ck z))→cR→Prop
 | [],[],H=>H=[]
 | r::rs,l::ls,H=>∃A H',H=A++H'∧Acc z cv e r.a r.n r.c l A∧mN z e rs ls H'
 | _,_,_=>False
theorem mN.len{z e:Nat}:∀{rs:List Row} {ls:List (List (Ck z))} {H:cR},mN z e rs ls H→rs.length=ls.length
 | [],[],_,_=>rfl
 | r::rs,l::ls,H,⟨_,_,_,_,h⟩=>by simp[h.len]
 | [],_::_,_,h=>h.elim
 | _::_,[],_,h=>h.elim
def CU{z:Nat}(o:Nat)(mk:Int→Int→Value)(i:Int)(l:List (Ck z)):Prop:=∀(q:Nat) (x:Ck z),l[q]? = some x→x.val[o]? = some (mk i q)
def Dr{z:Nat}(o m:Nat)(mk bh:Int→Int→Value)(I:cS)(i:Int)(r x:Row):Prop :=
 ∃(l t:List (Ck z)),Sl I z cv r.a r.n l∧CU o mk i l∧Sl I z cv x.a x.n (l++t)∧t.length=m∧CU o bh i t
theorem Dr.mono{z o m:Nat}{mk bh:Int→Int→Value}{I J:cS}{i:Int}{r x:Row}(h:Dr (z:=z) o m mk bh I i r x)(hl:cS.le I J):Dr (z:=z) o m mk bh J i r x :=
 let ⟨l,t,h1,h2,h3,h4,h5⟩:=h;⟨l,t,h1.mono hl,h2,h3.mono hl,h4,h5⟩
section
open Classical
noncomputable def cn(a:Nat×Obj)(l:cR):Nat:=l.countP fun x=>decide (x=a)
noncomputable def on(a x:Nat×Obj):Nat:=if x=a then 1 else 0
theorem c6(a:Nat×Obj)(l m:cR):cn a (l++m)=cn a l+cn a m:=List.countP_append
theorem cZ(a x:Nat×Obj)(l:cR):cn a (x::l)=on a x+cn a l:=by
 unfold cn on;rw[List.countP_cons];simp only[decide_eq_true_eq];omega
theorem c8(a:Nat×Obj):cn a []=0:=rfl
theorem po{l m:cR}(h:l.Perm m)(a:Nat×Obj):cn a l=cn a m:=h.countP_eq _
noncomputable def Cc:DecidableEq (Nat×Obj):=fun x y=>propDecidable (x=y)
theorem cY{l m:cR}(h:∀a,cn a l=cn a m):l.Perm m:=by
 refine (@List.perm_iff_count (Nat×Obj) (@instBEqOfDecidableEq _ Cc) (@instLawfulBEq _ Cc) l m).2 fun a=>?_
 have h1:∀l:cR,@List.count _ (@instBEqOfDecidableEq _ Cc) a l=cn a l:=fun l=>by
  unfold List.count cn
  congr 1
  funext x
  show @decide (x=a) (Cc x a)=decide (x=a)
  congr
 rw[h1,h1];exact h a
end
theorem Rd.xP{I:cS}{b t:Nat}{fz:Nat×Nat}{cells:Array Value}(h:I b=some (.cells cells t fz))(G:cR)(o:Nat){cs:List Value}(hc:∀j,j<cs.length→cells[o+j]? = cs[j]?):Rd I G (⟨b,o,none⟩:Addr) cs:=⟨rfl,cells,t,fz,.inl h,hc⟩
theorem Rd.AY{I:cS}{b t:Nat}{fz:Nat×Nat}{cells:Array Value}{G:cR}(h:(b,Obj.cells cells t fz)∈G)(o:Nat){cs:List Value}(hc:∀j,j<cs.length→cells[o+j]? = cs[j]?):Rd I G (⟨b,o,none⟩:Addr) cs:=⟨rfl,cells,t,fz,.inr h,hc⟩
def Left(Q:Ending→cS→cR→Prop)(e:Ending)(I:cS)(G:cR):Prop:=∃A G',G.Perm (A++G')∧Q e I G'
theorem Left.of{Q:Ending→cS→cR→Prop}{e:Ending}{I:cS}{G:cR}(h:Q e I G):Left Q e I G:=⟨[],G,.refl _,h⟩
end Go.Vc
namespace Go.Lx
open Go.Vc
def fj(c:Int):Bool:=decide (97≤c)&&decide (c≤122)
def db(c:Int):Bool:=decide (48≤c)&&decide (c≤57)
def c9(c:Int):Bool:=fj c||db c||(c==95)
def qa(c:Int):Bool:=c != 10
def zI(p:Int→Bool)(s:ByteArray):Nat→Int→Int
 | 0,i=>i
 | n+1,i=>if p (bt s i) then zI p s n (i+1) else i
def dh(p:Int→Bool)(s:ByteArray)(i:Int):Int:=zI p s (s.size-i).toNat i
theorem jr{p:Int→Bool}{s:ByteArray}{i:Int}(h:(s.size:Int)≤i):dh p s i=i:=by
 unfold dh;rw[show ((s.size:Int)-i).toNat=0 by omega];rfl
theorem dw{p:Int→Bool}{s:ByteArray}{i:Int}(h:i<(s.size:Int)):dh p s i=if p (bt s i) then dh p s (i+1) else i:=by
 unfold dh
 obtain⟨n,hn⟩:∃n,((s.size:Int)-i).toNat=n+1:=⟨((s.size:Int)-i).toNat-1,by omega⟩
 rw[hn,show ((s.size:Int)-(i+1)).toNat=n by omega];rfl
theorem yM(p:Int→Bool)(s:ByteArray):∀(n:Nat) (i:Int),i≤zI p s n i∧zI p s n i≤i+n
 | 0,i=>by simp[zI]
 | n+1,i=>by
   have:=yM p s n (i+1)
   unfold zI;split<;>omega
theorem dU{p:Int→Bool}{s:ByteArray}{i:Int}(h:i≤(s.size:Int)):i≤dh p s i∧dh p s i≤s.size:=by
 have:=yM p s (s.size-i).toNat i
 unfold dh;omega
theorem fe{p:Int→Bool}{s:ByteArray}{i:Int}(h:i≤(s.size:Int))(hl:dh p s i<s.size):p (bt s (dh p s i))=false:=by
 obtain⟨n,hn⟩:∃n:Nat,n=(s.size-i).toNat:=⟨_,rfl⟩
 induction n generalizing i with
 | zero=>rw[jr (by omega)] at hl;omega
 | succ n ih =>
   rw[dw (by omega)] at hl ⊢
   split at hl
   ·rename_i hp;rw[if_pos hp];exact ih (by omega) hl (by omega)
   ·rename_i hp;rw[if_neg hp];simpa using hp
def blank(c:Int):Bool:=c==32||c==9||c==10||c==13
def mZ(c:Int)(r:Bool):Bool:=if c=35 then true else if c=10 then false else r
def tU(s:ByteArray):Nat→Bool→Int→Int
 | 0,_,i=>i
 | n+1,r,i=>if !(mZ (bt s i) r) && !blank (bt s i) then i else tU s n (mZ (bt s i) r) (i+1)
def fT(s:ByteArray)(r:Bool)(i:Int):Int:=tU s (s.size-i).toNat r i
def da(s:ByteArray)(i:Int):Int:=fT s false i
theorem gz{s:ByteArray}{r:Bool}{i:Int}(h:(s.size:Int)≤i):fT s r i=i:=by
 unfold fT;rw[show ((s.size:Int)-i).toNat=0 by omega];rfl
theorem eb{s:ByteArray}{r:Bool}{i:Int}(h:i<(s.size:Int)):fT s r i =
  if !(mZ (bt s i) r) && !blank (bt s i) then i else fT s (mZ (bt s i) r) (i+1):=by
 unfold fT
 obtain⟨n,hn⟩:∃n,((s.size:Int)-i).toNat=n+1:=⟨((s.size:Int)-i).toNat-1,by omega⟩
 rw[hn,show ((s.size:Int)-(i+1)).toNat=n by omega];rfl
theorem sm(s:ByteArray):∀(n:Nat) (r:Bool) (i:Int),i≤tU s n r i∧tU s n r i≤i+n
 | 0,r,i=>by simp[tU]
 | n+1,r,i=>by
   unfold tU
   have:=sm s n (mZ (bt s i) r) (i+1)
   split<;>omega
theorem eO{s:ByteArray}{i:Int}(h:i≤(s.size:Int)):i≤da s i∧da s i≤s.size:=by
 have:=sm s (s.size-i).toNat false i
 unfold da fT;omega
theorem uM{s:ByteArray}{i:Int}(h:i<(s.size:Int))(hb:blank (bt s i)=true):da s i=da s (i+1):=by
 have h35:bt s i≠35:=by intro e;rw[e] at hb;simp[blank] at hb
 unfold da;rw[eb h];simp[mZ,h35,hb]
theorem ma{s:ByteArray}{i:Int}(h:i<(s.size:Int))(hb:blank (bt s i)=false)(h35:bt s i≠35):da s i=i:=by
 have h10:bt s i≠10:=by intro e;rw[e] at hb;simp[blank] at hb
 unfold da;rw[eb h];simp[mZ,h35,h10,hb]
theorem uN{s:ByteArray}{i:Int}(h:i≤(s.size:Int)):fT s true i=da s (dh qa s i):=by
 obtain⟨n,hn⟩:∃n:Nat,n=(s.size-i).toNat:=⟨_,rfl⟩
 induction n generalizing i with
 | zero=>rw[jr (by omega),gz (by omega)];unfold da;rw[gz (by omega)]
 | succ n ih =>
   rw[dw (by omega)]
   by_cases h10:bt s i=10
   ·have hp:qa (bt s i)=false:=by simp[qa,h10]
    rw[hp]
    simp only[Bool.false_eq_true,if_false]
    unfold da
    rw[eb (r:=true) (by omega),eb (r:=false) (by omega)]
    simp[mZ,h10]
   ·have hp:qa (bt s i)=true:=by simp[qa,h10]
    rw[hp]
    simp only[if_true]
    rw[←ih (by omega) (by omega),eb (r:=true) (by omega)]
    have:mZ (bt s i) true=true:=by unfold mZ;split<;>simp_all
    simp[this]
theorem tx{s:ByteArray}{i:Int}(h:i<(s.size:Int))(hb:bt s i=35):da s i=da s (dh qa s i):=by
 rw[dw h,show qa (bt s i)=true by simp[qa,hb],if_pos rfl,←uN (by omega)]
 unfold da;rw[eb h];simp[mZ,hb]
theorem pq{s:ByteArray}{i:Int}(h:i≤(s.size:Int))(hl:da s i<s.size):blank (bt s (da s i))=false∧bt s (da s i)≠35:=by
 have key:∀(n:Nat) (r:Bool) (i:Int),i≤(s.size:Int)→(s.size-i).toNat=n→fT s r i<s.size→blank (bt s (fT s r i))=false∧bt s (fT s r i)≠35:=by
  intro n
  induction n with
  | zero=>intro r i h hn hl;rw[gz (by omega)] at hl;omega
  | succ n ih =>
    intro r i h hn hl
    rw[eb (by omega)] at hl ⊢
    split at hl
    ·rename_i hc
     rw[if_pos hc]
     simp only[Bool.and_eq_true,Bool.not_eq_true'] at hc
     refine⟨hc.2,fun e=>?_⟩
     rw[e] at hc;simp[mZ] at hc
    ·rename_i hc
     rw[if_neg hc]
     exact ih _ _ (by omega) (by omega) hl
 exact key _ false i h rfl hl
structure Tok where
 kind:Int
 text:ByteArray
 dJ:Int
 n:Int
 pos:Int
inductive TR where
 | ok (t:Tok)
 | bad (e p:Int)
def iL(p:Int):Tok:=⟨0,⟨#[]⟩,0,0,p⟩
def cut(s:ByteArray)(i j:Int):ByteArray:=s.extract i.toNat j.toNat
def eC:List ByteArray:=[⟨#[97,98,115]⟩,⟨#[97,109,101,110,100]⟩,⟨#[97,115]⟩,⟨#[97,115,107]⟩,⟨#[97,116]⟩,⟨#[98,105,100]⟩,⟨#[98,111,111,108]⟩,⟨#[98,117,121]⟩,⟨#[99,97,110,99,101,108]⟩,⟨#[100,111]⟩,
 ⟨#[102,97,108,115,101]⟩,⟨#[102,111,107]⟩,⟨#[103,111,116,111]⟩,⟨#[104,97,108,116]⟩,⟨#[104,97,115]⟩,⟨#[105,110,116]⟩,⟨#[105,111,99]⟩,⟨#[108,97,115,116]⟩,⟨#[108,105,109,105,116]⟩,⟨#[109,97,114,107,101,116]⟩,
 ⟨#[109,97,120]⟩,⟨#[109,105,110]⟩,⟨#[110,111,119]⟩,⟨#[111,102]⟩,⟨#[111,112,101,110]⟩,⟨#[112,111,115,116]⟩,⟨#[112,114,105,99,101]⟩,⟨#[113,116,121]⟩,⟨#[114,101,103]⟩,⟨#[115,101,108,108]⟩,⟨#[115,101,116]⟩,
 ⟨#[115,105,100,101]⟩,⟨#[115,108,111,116]⟩,⟨#[115,116,97,116,101]⟩,⟨#[115,116,114,97,116,101,103,121]⟩,⟨#[115,117,98,109,105,116]⟩,⟨#[116,105,109,101]⟩,⟨#[116,111]⟩,⟨#[116,114,117,101]⟩,⟨#[118,111,108,117,109,101]⟩,⟨#[119,104,101,110]⟩]
def kL(t:ByteArray):Bool:=eC.any fun w=>w.toList==t.toList
def dK(t:ByteArray):Bool :=
 !(t.toList==[])&&decide ((t.size:Int)≤16)&&fj (bt t 0) && !kL t&&decide (dh c9 t 0=t.size)
def iP(s:ByteArray)(i:Int):TR :=
 let e:=dh c9 s i
 if e-i>16 then .bad 112 i else .ok ⟨if kL (cut s i e) then 1 else 2,cut s i e,0,0,i⟩
def AZ(s:ByteArray):Nat→Int→Int→Int
 | 0,_,v=>v
 | n+1,i,v=>if db (bt s i) then AZ s n (i+1) (10*v+(bt s i-48)) else v
def dS(s:ByteArray)(i v:Int):Int:=AZ s (s.size-i).toNat i v
theorem nJ{s:ByteArray}{i v:Int}(h:(s.size:Int)≤i):dS s i v=v:=by
 unfold dS;rw[show ((s.size:Int)-i).toNat=0 by omega];rfl
theorem gM{s:ByteArray}{i v:Int}(h:i<(s.size:Int)):dS s i v=if db (bt s i) then dS s (i+1) (10*v+(bt s i-48)) else v:=by
 unfold dS
 obtain⟨n,hn⟩:∃n,((s.size:Int)-i).toNat=n+1:=⟨((s.size:Int)-i).toNat-1,by omega⟩
 rw[hn,show ((s.size:Int)-(i+1)).toNat=n by omega];rfl
theorem uO(s:ByteArray):∀(n:Nat) (i v:Int),0≤v→v≤AZ s n i v
 | 0,i,v,_=>by simp[AZ]
 | n+1,i,v,hv=>by
   unfold AZ
   split
   ·rename_i hd
    simp only[db,Bool.and_eq_true,decide_eq_true_eq] at hd
    have:=uO s n (i+1) (10*v+(bt s i-48)) (by omega)
    omega
   ·exact Int.le_refl _
theorem sn{s:ByteArray}{i v:Int}(h:0≤v):v≤dS s i v:=uO s _ i v h
def dE(c:Int):Int:=if c=116 then 4 else if c=112 then 3 else if c=113 then 2 else 1
def cW(s:ByteArray)(i:Int):Int:=if i<s.size then bt s i else 0
def js(s:ByteArray)(i:Int):TR :=
 let e:=dh db s i
 let t:=dE (cW s e)
 let e2:=if t=1 then e else e+1
 if dS s i 0>9223372036854775807∨(e-i>1∧bt s i=48)∨(e2<s.size∧(c9 (bt s e2)=true∨(65≤bt s e2∧bt s e2≤90))) then .bad 113 i
 else .ok ⟨3,cut s i e2,t,dS s i 0,i⟩
def single(c:Int):Bool:=[123,125,40,41,44,59,63,58,43,45,42,47,37].contains c
def dP(s:ByteArray)(i:Int):Int :=
 let c:=bt s i
 let d:=cW s (i+1)
 if single c then 1 else if c=38∨c=124 then (if d=c then 2 else 0) else if c=61∨c=33∨c=60∨c=62 then (if d=61 then 2 else 1) else 0
def iQ(s:ByteArray)(i:Int):TR:=if dP s i=0 then .bad 111 i else .ok ⟨4,cut s i (i+dP s i),0,0,i⟩
def eJ(s:ByteArray)(f:Int):TR :=
 let i:=da s f
 if i=s.size then .ok (iL i)
 else if db (bt s i) then js s i else if fj (bt s i) then iP s i else iQ s i
def Tok.v(t:Tok):Value:=.agg #[.int .u8 t.kind,.string t.text,.int .u8 t.dJ,.int .i64 t.n,.int .i64 t.pos]
theorem gN{n:Int}(h : -9223372036854775808≤n∧n≤9223372036854775807):IntKind.wrap .i64 n=n:=by
 simp only[IntKind.wrap,IntKind.bits,IntKind.signed];simp;split<;>omega
theorem w8{n:Int}(h:0≤n∧n≤255):IntKind.wrap .u8 n=n:=by
 simp only[IntKind.wrap,IntKind.bits,IntKind.signed];simp;omega
inductive Px where
 | mk (kind oper dJ n field:Int) (name:ByteArray) (kids:List Px) (pos:Int)
namespace Px
def kind:Px→Int | .mk k _ _ _ _ _ _ _=>k
def oper:Px→Int | .mk _ o _ _ _ _ _ _=>o
def dJ:Px→Int | .mk _ _ t _ _ _ _ _=>t
def n:Px→Int | .mk _ _ _ n _ _ _ _=>n
def field:Px→Int | .mk _ _ _ _ f _ _ _=>f
def name:Px→ByteArray | .mk _ _ _ _ _ s _ _=>s
def kids:Px→List Px | .mk _ _ _ _ _ _ l _=>l
def pos:Px→Int | .mk _ _ _ _ _ _ _ p=>p
theorem ind{p:Px→Prop}(h:∀x:Px,(∀k∈x.kids,p k)→p x):∀x:Px,p x
 | .mk k o t n f s l q=>h _ fun y hy=>ind h y
termination_by x=>SizeOf.sizeOf x
decreasing_by
 have:=List.sizeOf_lt_of_mem (show y∈l from hy)
 simp;omega
end Px
inductive Nd where
 | mk (kind oper dJ n field:Int) (name:ByteArray) (a:Option Addr) (c:Nat) (kids:List Nd) (pos:Int)
namespace Nd
def kind:Nd→Int | .mk k _ _ _ _ _ _ _ _ _=>k
def oper:Nd→Int | .mk _ o _ _ _ _ _ _ _ _=>o
def dJ:Nd→Int | .mk _ _ t _ _ _ _ _ _ _=>t
def n:Nd→Int | .mk _ _ _ n _ _ _ _ _ _=>n
def field:Nd→Int | .mk _ _ _ _ f _ _ _ _ _=>f
def name:Nd→ByteArray | .mk _ _ _ _ _ s _ _ _ _=>s
def a:Nd→Option Addr | .mk _ _ _ _ _ _ a _ _ _=>a
def c:Nd→Nat | .mk _ _ _ _ _ _ _ c _ _=>c
def kids:Nd→List Nd | .mk _ _ _ _ _ _ _ _ l _=>l
def pos:Nd→Int | .mk _ _ _ _ _ _ _ _ _ p=>p
theorem ind{p:Nd→Prop}(h:∀x:Nd,(∀k∈x.kids,p k)→p x):∀x:Nd,p x
 | .mk k o t n f s a c l q=>h _ fun y hy=>ind h y
termination_by x=>SizeOf.sizeOf x
decreasing_by
 have:=List.sizeOf_lt_of_mem (show y∈l from hy)
 simp;omega
mutual
def px:Nd→Px
 | .mk k o t n f s _ _ l q=>.mk k o t n f s (wg l) q
def wg:List Nd→List Px
 | []=>[]
 | k::r=>px k::wg r
end
theorem uP:∀l:List Nd,wg l=l.map px
 | []=>rfl
 | k::r=>by rw[wg,uP r];rfl
theorem im(t:Nd):t.px.kids=t.kids.map px:=by cases t;rw[px,←uP];rfl
theorem jB(t:Nd):t.px.kind=t.kind:=by cases t;rw[px];rfl
theorem pt(t:Nd):t.px.oper=t.oper:=by cases t;rw[px];rfl
theorem uQ(t:Nd):t.px.dJ=t.dJ:=by cases t;rw[px];rfl
theorem Ds(t:Nd):t.px.n=t.n:=by cases t;rw[px];rfl
theorem wh(t:Nd):t.px.field=t.field:=by cases t;rw[px];rfl
theorem yN(t:Nd):t.px.name=t.name:=by cases t;rw[px];rfl
theorem A0(t:Nd):t.px.pos=t.pos:=by cases t;rw[px];rfl
theorem Du(t:Nd):t.px.kids.length=t.kids.length:=by rw[im,List.length_map]
abbrev enc(t:Nd):List Value:=[.int .u8 t.kind,.int .u8 t.oper,.int .u8 t.dJ,.int .i64 t.n,.int .u8 t.field,.string t.name,.slice t.a t.kids.length t.c,.int .i64 t.pos]
abbrev v(t:Nd):Value:=.agg #[.int .u8 t.kind,.int .u8 t.oper,.int .u8 t.dJ,.int .i64 t.n,.int .u8 t.field,.string t.name,.slice t.a t.kids.length t.c,.int .i64 t.pos]
theorem yO(t:Nd):t.enc.length=8:=rfl
theorem Cd(t:Nd):∀u∈t.enc,u.oneCell'=true:=by
 intro u hu
 simp only[enc,List.mem_cons,List.not_mem_nil,or_false] at hu
 rcases hu with h | h | h | h | h | h | h | h<;>(subst h;rfl)
end Nd
inductive fR (I:cS) (G:cR):Nd→Prop
 | mk {t:Nd}:pY I G 8 Nd.enc t.a t.kids.length t.kids→(∀k∈t.kids,fR I G k)→fR I G t
theorem fR.sl{I:cS}{G:cR}{t:Nd}(h:fR I G t):pY I G 8 Nd.enc t.a t.kids.length t.kids:=by cases h;assumption
theorem fR.Ed{I:cS}{G:cR}{t:Nd}(h:fR I G t):∀k∈t.kids,fR I G k:=by cases h;assumption
theorem fR.mono{I J:cS}{G H:cR}{t:Nd}(h:fR I G t)(hl:cS.le I J)(hs:∀x,x∈G→x∈H):fR J H t:=by
 induction h with
 | mk h1 h2 ih=>exact .mk (h1.mono hl hs) ih
def tV(I:cS)(G:cR)(a:Option Addr)(n:Nat)(l:List Nd):Prop:=pY I G 8 Nd.enc a n l∧∀k∈l,fR I G k
theorem fR.kids{I:cS}{G:cR}{t:Nd}(h:fR I G t):tV I G t.a t.kids.length t.kids:=⟨h.sl,h.Ed⟩
theorem tV.mono{I J:cS}{G H:cR}{a:Option Addr}{n:Nat}{l:List Nd}(h:tV I G a n l)(hl:cS.le I J)(hs:∀x,x∈G→x∈H):tV J H a n l:=⟨h.1.mono hl hs,fun k hk=>(h.2 k hk).mono hl hs⟩
theorem tV.at{I:cS}{G:cR}{a:Option Addr}{n:Nat}{l:List Nd}(h:tV I G a n l){i:Int}(h0:0≤i)(h1:i<n) :
  ∃ad x,a=some ad∧l[i.toNat]? = some x∧Rd I G (ad.add (Int.toNat i*8)) x.enc∧fR I G x∧x∈l:=by
 obtain⟨ad,x,h2,h3,h4⟩:=h.1.at h0 h1
 exact⟨ad,x,h2,h3,h4,h.2 x (List.mem_of_getElem? h3),List.mem_of_getElem? h3⟩
namespace Px
def arity(x:Px):Nat:=if x.kind=5∨x.kind=9 then 1 else if x.kind=6 then 2 else if x.kind=7 then 3 else if x.kind=8 then (if x.oper=3 then 1 else 2) else 0
def A1(x:Px):Bool:=if x.dJ=6 then decide (x.n=1∨x.n=2) else if x.dJ=5 then decide (x.n=0∨x.n=1) else if 1≤x.dJ∧x.dJ≤4 then decide (0≤x.n) else false
def wi(x:Px):Bool :=
 if x.kind=1 then A1 x else if x.kind=2 then dK x.name else if x.kind=3 then decide (1≤x.field∧x.field≤6) else if x.kind=4 then decide (1≤x.field∧x.field≤3)
 else if x.kind=5 then decide (x.oper=1∨x.oper=2) else if x.kind=6 then decide (6≤x.oper∧x.oper≤18) else if x.kind=7 then true
 else if x.kind=8 then decide (3≤x.oper∧x.oper≤5) else if x.kind=9 then decide (1≤x.dJ∧x.dJ≤4) else false
def qE(x:Px):Bool :=
 (x.oper==0||x.kind==5||x.kind==6||x.kind==8)&&(x.dJ==0||x.kind==1||x.kind==9)&&(x.n==0||x.kind==1)&&(x.field==0||x.kind==3||x.kind==4)&&(x.name.toList==[]||x.kind==2)
def iK(x:Px):Bool:=wi x&&qE x&&decide (x.kids.length=arity x)
mutual
def formed:Px→Bool
 | .mk k o t n f s l q=>iK (.mk k o t n f s l q)&&iq l
def iq:List Px→Bool
 | []=>true
 | x::r=>formed x&&iq r
end
theorem gT(x:Px):x.formed=(iK x&&iq x.kids):=by cases x;rw[formed];rfl
def level(x:Px):Int :=
 if x.kind=7 then 1 else if x.kind=5 then 7 else if x.kind=6 then (if x.oper=18 then 2 else if x.oper=17 then 3 else if 11≤x.oper then 4 else if 8≤x.oper then 6 else 5) else 8
def asks(x:Px)(i:Int):Int :=
 if x.kind=7 then (if i=0 then 2 else 1) else if x.kind=5 then 7 else if x.kind=6 then (if level x=4 then 5 else level x+i) else 1
def oJ(x k:Px)(i:Int):Int:=(if level k<asks x i then 1 else 0)+(if x.kind=6 then 0 else if x.kind=7 then (if 0<i then 1 else 0) else 1)
mutual
def depth:Px→Int
 | .mk k o t n f s l q=>fX (.mk k o t n f s l q) 0 l 0
def fX(x:Px)(i:Int):List Px→Int→Int
 | [],most=>most
 | y::r,most=>fX x (i+1) r (max most (depth y+oJ x y i))
end
theorem kj(x:Px):x.depth=fX x 0 x.kids 0:=by cases x;rw[depth];rfl
mutual
def size:Px→Int
 | .mk _ _ _ _ _ _ l _=>1+fI l
def fI:List Px→Int
 | []=>0
 | x::r=>size x+fI r
end
theorem size_eq(x:Px):x.size=1+fI x.kids:=by cases x;rw[size];rfl
mutual
def bare:Px→Px
 | .mk k o t n f s l _=>.mk k o t n f s (yP l) 0
def yP:List Px→List Px
 | []=>[]
 | x::r=>bare x::yP r
end
theorem tW:∀l:List Px,yP l=l.map bare
 | []=>rfl
 | x::r=>by rw[yP,tW r];rfl
theorem yQ(x:Px):x.bare=.mk x.kind x.oper x.dJ x.n x.field x.name (x.kids.map bare) 0:=by cases x;rw[bare,tW];rfl
def Ce(x y:Px):Bool:=x.kind==y.kind&&(x.oper==y.oper&&(x.dJ==y.dJ&&(x.n==y.n&&(x.field==y.field&&(x.name.toList==y.name.toList&&true)))))
mutual
def nodes:Px→List Px
 | .mk k o t n f s l q=>.mk k o t n f s l q::iR l
def iR:List Px→List Px
 | []=>[]
 | x::r=>nodes x++iR r
end
theorem pw(x:Px):x.nodes=x::iR x.kids:=by cases x;rw[nodes];rfl
theorem size_pos:∀x:Px,1≤x.size:=by
 have hL:∀l:List Px,(∀x∈l,1≤size x)→0≤fI l:=by
  intro l
  induction l with
  | nil=>intro _;exact Int.le_refl _
  | cons x r ih =>
    intro h
    have:=h x (List.mem_cons_self ..)
    have:=ih fun y hy=>h y (List.mem_cons_of_mem _ hy)
    rw[fI];omega
 refine ind fun x h=>?_
 rw[size_eq]
 have:=hL x.kids h
 omega
theorem jQ:∀l:List Px,0≤fI l
 | []=>Int.le_refl _
 | x::r=>by have:=size_pos x;have:=jQ r;rw[fI];omega
theorem tX{x:Px}:∀{l:List Px},x∈l→x.size≤fI l
 | [],h=>by cases h
 | y::r,h=>by
   rw[fI]
   have:=size_pos y
   have:=jQ r
   rcases List.mem_cons.1 h with rfl | h
   ·omega
   ·have:=tX h;omega
theorem tY:∀l:List Px,(l.length:Int)≤fI l
 | []=>Int.le_refl _
 | x::r=>by have:=size_pos x;have:=tY r;rw[fI,List.length_cons];omega
inductive mb:Px→Prop
 | mk {x:Px}:x.name.size≤140737488351232→x.kids.length≤140737488351232→(∀k∈x.kids,mb k)→mb x
theorem mb.name{x:Px}(h:mb x):x.name.size≤140737488351232:=by cases h;assumption
theorem mb.len{x:Px}(h:mb x):x.kids.length≤140737488351232:=by cases h;assumption
theorem mb.Ed{x:Px}(h:mb x):∀k∈x.kids,mb k:=by cases h;assumption
end Px
end Go.Lx
namespace Go.Lx
open Go.Vc Go.Proofs.Tryz
noncomputable abbrev P:Program:=Go.Proofs.Tryz.prog
def iz:List (Nat×List Sh):=[(4,[.one .bool]),(9,[.one .str]),(38,[.one .slc]),(236,[.one (.int .i64),.one .bool])]
def qb.V(c:Int)(I:cS)(F:cR)(Q:cU)  : Prop:=((decide (48≤c)=true→Q (.returned (.bool (decide (c≤57)))) I F)∧(decide (48≤c)=false→Q (.returned (.bool false)) I F))
theorem qb.vc{c:Int}{I:cS}{F:cR}{Q:cU}  (h:qb.V c I F Q):cV P 135 #[.int .u8 c] I F Q :=
 tw (A:=(an [1001] [] iz)) [] func135 h
def qc.V(c:Int)(I:cS)(F:cR)(Q:cU)  : Prop:=((decide (97≤c)=true→Q (.returned (.bool (decide (c≤122)))) I F)∧(decide (97≤c)=false→Q (.returned (.bool false)) I F))
theorem qc.vc{c:Int}{I:cS}{F:cR}{Q:cU}  (h:qc.V c I F Q):cV P 137 #[.int .u8 c] I F Q :=
 tw (A:=(an [1001] [] iz)) [] func137 h
def nK.V(vt:Bool→Value)(c:Int)(I:cS)(F:cR)(Q:cU)  : Prop:=cV P 137 #[.int .u8 c] I F fun e1 I1 G1=>∃(r:Bool),e1=.returned (vt r)∧∃F1:cR,List.Perm G1 F1∧((r=true→Q (.returned (vt true)) I1 F1)∧(r=false→cV P 135 #[.int .u8 c] I1 F1 fun e2 I2 G2=>∃(r1:Bool),e2=.returned (vt r1)∧∃F2:cR,List.Perm G2 F2∧((r1=true→Q (.returned (vt true)) I2 F2)∧(r1=false→Q (.returned (vt (c==95))) I2 F2))))
theorem nK.vc{c:Int}{I:cS}{F:cR}{Q:cU}  (h:nK.V .bool c I F Q):cV P 139 #[.int .u8 c] I F Q :=
 tw (A:=(an [1001,1004] [135,137] iz)) [135,137] func139 h
def qd.V(vs:Bs→Value)(I:cS)(F:cR)(Q:cU)  : Prop:=∀(b:Nat) (I1:cS),cS.le I I1→I1 b=some (Obj.cells #[vs (⟨#[97,98,115]⟩:Bs),vs (⟨#[97,109,101,110,100]⟩:Bs),vs (⟨#[97,115]⟩:Bs),vs (⟨#[97,115,107]⟩:Bs),vs (⟨#[97,116]⟩:Bs),vs (⟨#[98,105,100]⟩:Bs),vs (⟨#[98,111,111,108]⟩:Bs),vs (⟨#[98,117,121]⟩:Bs),vs (⟨#[99,97,110,99,101,108]⟩:Bs),vs (⟨#[100,111]⟩:Bs),vs (⟨#[102,97,108,115,101]⟩:Bs),vs (⟨#[102,111,107]⟩:Bs),vs (⟨#[103,111,116,111]⟩:Bs),vs (⟨#[104,97,108,116]⟩:Bs),vs (⟨#[104,97,115]⟩:Bs),vs (⟨#[105,110,116]⟩:Bs),vs (⟨#[105,111,99]⟩:Bs),vs (⟨#[108,97,115,116]⟩:Bs),vs (⟨#[108,105,109,105,116]⟩:Bs),vs (⟨#[109,97,114,107,101,116]⟩:Bs),vs (⟨#[109,97,120]⟩:Bs),vs (⟨#[109,105,110]⟩:Bs),vs (⟨#[110,111,119]⟩:Bs),vs (⟨#[111,102]⟩:Bs),vs (⟨#[111,112,101,110]⟩:Bs),vs (⟨#[112,111,115,116]⟩:Bs),vs (⟨#[112,114,105,99,101]⟩:Bs),vs (⟨#[113,116,121]⟩:Bs),vs (⟨#[114,101,103]⟩:Bs),vs (⟨#[115,101,108,108]⟩:Bs),vs (⟨#[115,101,116]⟩:Bs),vs (⟨#[115,105,100,101]⟩:Bs),vs (⟨#[115,108,111,116]⟩:Bs),vs (⟨#[115,116,97,116,101]⟩:Bs),vs (⟨#[115,116,114,97,116,101,103,121]⟩:Bs),vs (⟨#[115,117,98,109,105,116]⟩:Bs),vs (⟨#[116,105,109,101]⟩:Bs),vs (⟨#[116,111]⟩:Bs),vs (⟨#[116,114,117,101]⟩:Bs),vs (⟨#[118,111,108,117,109,101]⟩:Bs),vs (⟨#[119,104,101,110]⟩:Bs)] 9 (0,0))→Q (.returned (.slice (some ⟨b,0,none⟩) 41 41)) I1 (F)
theorem qd.vc  {I:cS}{F:cR}{Q:cU}  (h:qd.V .string I F Q):cV P 151 #[] I F Q :=
 tw (A:=(eM [] [] [] iz [] [1000] [] [] [] [] [])) [] func151 h
def nL.V(x:Bs)(I:cS)(F:cR)(Q:cU)  : Prop:=Q (.returned (.bool (!(x.toList==x.toList)))) I (F)
theorem nL.vc{x:Bs}{I:cS}{F:cR}{Q:cU}  (h:nL.V x I F Q):cV P 158 #[.string x] I F Q :=
 tw (A:=(an [] [] iz)) [] func158 h
def py.V(vt:Bool→Value)(x y:Bs)(I:cS)(F:cR)(Q:cU)  : Prop:=fp P 158 #[.string x] I (·) F vt fun r I1 F1=>(It r (fp P 158 #[.string y] I1 (·) F1 vt fun r1 I2 F2=>(It (!r1) (Q (.returned (vt true)) I2 F2) (Q (.returned (vt (Op.bytesLess x.toList y.toList))) I2 F2))) (Q (.returned (vt (Op.bytesLess x.toList y.toList))) I1 F1))
theorem py.vc{x y:Bs}{I:cS}{F:cR}{Q:cU}  (h:py.V .bool x y I F Q):cV P 155 #[.string x,.string y] I F Q :=
 tw (A:=(an [1001,1005] [158] iz)) [158] func155 h
def jR.V(x:Bs)(I:cS)(F:cR)(Q:cU)  : Prop:=Q (.returned (.bool (!(x.toList==x.toList)))) I (F)
theorem jR.vc{x:Bs}{I:cS}{F:cR}{Q:cU}  (h:jR.V x I F Q):cV P 156 #[.string x] I F Q :=
 tw (A:=(an [] [] iz)) [] func156 h
def fL.V(vi:Int→Value)(vs:Bs→Value)(vt:Bool→Value)(wr:Int→Int)(c:OA)(b f:Nat)(a:Bs)(I:cS)(F:cR)(Q:cU)(Inv8:Int→Int→Nat→cS→cR→Prop):Prop:=(∃m:Nat,Inv8 0 (b:Int) m I F)∧∀(i j:Int) (m1:Nat) (I1:cS) (F1:cR),cS.le I I1→Inv8 i j m1 I1 F1→(Dt (i<j) ((0≤(wr (Int.fdiv (IntKind.wrap .u64 (wr (i+j))) (2 ^ 1)))∧(wr (Int.fdiv (IntKind.wrap .u64 (wr (i+j))) (2 ^ 1)))<(b:Int))∧∃ad:Addr,c=some ad∧∃(m2:Bs),Rd I1 F1 (ad.add (Int.toNat (wr (Int.fdiv (IntKind.wrap .u64 (wr (i+j))) (2 ^ 1)))*1)) [vs m2]∧fp P 155 #[vs m2,vs a] I1 (·) F1 vt fun r I2 F2=>(It r (∃m3:Nat,m3<m1∧Inv8 (wr ((wr (Int.fdiv (IntKind.wrap .u64 (wr (i+j))) (2 ^ 1)))+1)) j m3 I2 F2) (∃m4:Nat,m4<m1∧Inv8 i (wr (Int.fdiv (IntKind.wrap .u64 (wr (i+j))) (2 ^ 1))) m4 I2 F2))) (Dt (i<(b:Int)) ((0≤i∧i<(b:Int))∧∃d:Addr,c=some d∧∃(m5:Bs),Rd I1 F1 (d.add (Int.toNat i*1)) [vs m5]∧(It (m5.toList==a.toList) (Q (.returned (.tuple #[vi i,vt true])) I1 F1) ((0≤i∧i<(b:Int))∧∃e:Addr,c=some e∧∃(m6:Bs),Rd I1 F1 (e.add (Int.toNat i*1)) [vs m6]∧fp P 156 #[vs m6] I1 (·) F1 vt fun r1 I3 F3=>(It r1 (fp P 156 #[vs a] I3 (·) F3 vt fun r2 I4 F4=>Q (.returned (.tuple #[vi i,vt r2])) I4 F4) (Q (.returned (.tuple #[vi i,vt false])) I3 F3))))) (Q (.returned (.tuple #[vi i,vt false])) I1 F1)))
theorem fL.vc{b:OA}{c d:Nat}{a:Bs}{I:cS}{F:cR}{Q:cU}(Inv8:Int→Int→Nat→cS→cR→Prop)(h:fL.V (.int .i64) .string .bool (IntKind.wrap .i64) b c d a I F Q Inv8):cV P 150 #[.slice b c d,.string a] I F Q :=
 tw (A:=(eM [3002,5005,8003,8010,8016] [] [155,156] iz [(8,⟨[(7,(.int .i64)),(8,(.int .i64))],[],fun _ _ _ vs m I F=>match vs with | [.int _ y0,.int _ y1]=>Inv8 y0 y1 m I F | _=>False,[],[]⟩)] [] [] [] [] [] [])) [155,156] func150 h
def pz.V(s:Bs)(I:cS)(F:cR)(Q:cU)  : Prop:=cV P 151 #[] I F fun e1 I1 G1=>∃(a:OA) (b c:Nat),e1=.returned (.slice a b c)∧∃F1:cR,List.Perm G1 F1∧cV P 150 #[.slice a b c,.string s] I1 F1 fun e2 I2 G2=>∃(r0:Int) (r1:Bool),e2=.returned (.tuple #[.int .i64 r0,.bool r1])∧∃F2:cR,List.Perm G2 F2∧Q (.returned (.bool r1)) I2 (F2)
theorem pz.vc{s:Bs}{I:cS}{F:cR}{Q:cU}  (h:pz.V s I F Q):cV P 140 #[.string s] I F Q :=
 tw (A:=(an [] [150,151] iz)) [150,151] func140 h
def mc.V(c:Int)(I:cS)(F:cR)(Q:cU)  : Prop:=(Dt (c≥97) (Q (.returned (.bool (decide (c≤122)))) I F) (Q (.returned (.bool false)) I F))
theorem mc.vc{c:Int}{I:cS}{F:cR}{Q:cU}  (h:mc.V c I F Q):cV P 54 #[.int .u8 c] I F Q :=
 tw (A:=(an [1001] [] iz)) [] func54 h
def na.V(c:Int)(I:cS)(F:cR)(Q:cU)  : Prop:=(Dt (c≥48) (Q (.returned (.bool (decide (c≤57)))) I F) (Q (.returned (.bool false)) I F))
theorem na.vc{c:Int}{I:cS}{F:cR}{Q:cU}  (h:na.V c I F Q):cV P 56 #[.int .u8 c] I F Q :=
 tw (A:=(an [1001] [] iz)) [] func56 h
def me.V(vt:Bool→Value)(c:Int)(I:cS)(F:cR)(Q:cU)  : Prop:=fp P 54 #[.int .u8 c] I (·) F vt fun r I1 F1=>(It r (Q (.returned (vt true)) I1 F1) (fp P 56 #[.int .u8 c] I1 (·) F1 vt fun r1 I2 F2=>(It r1 (Q (.returned (vt true)) I2 F2) (Q (.returned (vt (c==95))) I2 F2))))
theorem me.vc{c:Int}{I:cS}{F:cR}{Q:cU}  (h:me.V .bool c I F Q):cV P 97 #[.int .u8 c] I F Q :=
 tw (A:=(an [1001,1004] [54,56] iz)) [54,56] func97 h
def nb.V(vs:Bs→Value)(I:cS)(F:cR)(Q:cU)  : Prop:=∀(b:Nat) (I1:cS),cS.le I I1→I1 b=some (Obj.cells #[vs (⟨#[97,98,115]⟩:Bs),vs (⟨#[97,109,101,110,100]⟩:Bs),vs (⟨#[97,115]⟩:Bs),vs (⟨#[97,115,107]⟩:Bs),vs (⟨#[97,116]⟩:Bs),vs (⟨#[98,105,100]⟩:Bs),vs (⟨#[98,111,111,108]⟩:Bs),vs (⟨#[98,117,121]⟩:Bs),vs (⟨#[99,97,110,99,101,108]⟩:Bs),vs (⟨#[100,111]⟩:Bs),vs (⟨#[102,97,108,115,101]⟩:Bs),vs (⟨#[102,111,107]⟩:Bs),vs (⟨#[103,111,116,111]⟩:Bs),vs (⟨#[104,97,108,116]⟩:Bs),vs (⟨#[104,97,115]⟩:Bs),vs (⟨#[105,110,116]⟩:Bs),vs (⟨#[105,111,99]⟩:Bs),vs (⟨#[108,97,115,116]⟩:Bs),vs (⟨#[108,105,109,105,116]⟩:Bs),vs (⟨#[109,97,114,107,101,116]⟩:Bs),vs (⟨#[109,97,120]⟩:Bs),vs (⟨#[109,105,110]⟩:Bs),vs (⟨#[110,111,119]⟩:Bs),vs (⟨#[111,102]⟩:Bs),vs (⟨#[111,112,101,110]⟩:Bs),vs (⟨#[112,111,115,116]⟩:Bs),vs (⟨#[112,114,105,99,101]⟩:Bs),vs (⟨#[113,116,121]⟩:Bs),vs (⟨#[114,101,103]⟩:Bs),vs (⟨#[115,101,108,108]⟩:Bs),vs (⟨#[115,101,116]⟩:Bs),vs (⟨#[115,105,100,101]⟩:Bs),vs (⟨#[115,108,111,116]⟩:Bs),vs (⟨#[115,116,97,116,101]⟩:Bs),vs (⟨#[115,116,114,97,116,101,103,121]⟩:Bs),vs (⟨#[115,117,98,109,105,116]⟩:Bs),vs (⟨#[116,105,109,101]⟩:Bs),vs (⟨#[116,111]⟩:Bs),vs (⟨#[116,114,117,101]⟩:Bs),vs (⟨#[118,111,108,117,109,101]⟩:Bs),vs (⟨#[119,104,101,110]⟩:Bs)] 9 (0,0))→Q (.returned (.slice (some ⟨b,0,none⟩) 41 41)) I1 (F)
theorem nb.vc  {I:cS}{F:cR}{Q:cU}  (h:nb.V .string I F Q):cV P 118 #[] I F Q :=
 tw (A:=(eM [] [] [] iz [] [1000] [] [] [] [] [])) [] func118 h
def mf.V(s:Bs)(I:cS)(F:cR)(Q:cU)(Inv8:Bool→Int→Nat→cS→cR→Prop):Prop:=sg P 118 #[] I (·) F fun e1 I1 G1=>∃(b:OA) (a c:Nat),e1=.returned (.slice b a c)∧G1 fun F1=>(∃m:Nat,Inv8 false 0 m I1 F1)∧∀(x:Bool) (i:Int) (m1:Nat) (I2:cS) (F2:cR),cS.le I1 I2→Inv8 x i m1 I2 F2→(Dt (i<(a:Int)) ((0≤i∧i<(a:Int))∧∃ad:Addr,b=some ad∧∃(m2:Bs),Rd I2 F2 (ad.add (Int.toNat i*1)) [.string m2]∧(It (m2.toList==s.toList) (Q (.returned (.bool true)) I2 F2) (∃m3:Nat,m3<m1∧Inv8 x (IntKind.wrap .i64 (i+1)) m3 I2 F2))) (Q (.returned (.bool false)) I2 F2))
theorem mf.vc{s:Bs}{I:cS}{F:cR}{Q:cU}(Inv8:Bool→Int→Nat→cS→cR→Prop)(h:mf.V s I F Q Inv8):cV P 96 #[.string s] I F Q :=
 tw (A:=(eM [3003,5005] [] [118] iz [(8,⟨[(2,.bool),(4,(.int .i64))],[],fun _ _ _ vs m I F=>match vs with | [.bool y0,.int _ y1]=>Inv8 y0 y1 m I F | _=>False,[],[]⟩)] [] [] [] [] [] [])) [118] func96 h
def mg.V(vt:Bool→Value)(s:Bs)(I:cS)(F:cR)(Q:cU)(Inv16:Bool→Int→Nat→cS→cR→Prop):Prop:=fp P 96 #[.string s] I (·) F vt fun r I1 F1=>(It r (Q (.returned (vt false)) I1 F1) (Dt ((s.size:Int)<1) (Q (.returned (vt false)) I1 F1) (Dt ((s.size:Int)>16) (Q (.returned (vt false)) I1 F1) ((0≤(0:Int)∧(0:Int)<(s.size:Int))∧fp P 54 (#[.int .u8 (bt s 0)]) I1 (·) F1 vt fun r1 I2 F2=>(It (!r1) (Q (.returned (vt false)) I2 F2) ((∃m:Nat,Inv16 false 0 m I2 F2)∧∀(x:Bool) (i:Int) (m1:Nat) (I3:cS) (F3:cR),cS.le I2 I3→Inv16 x i m1 I3 F3→(Dt (i<(s.size:Int)) ((0≤i∧i<(s.size:Int))∧fp P 97 (#[.int .u8 (bt s i)]) I3 (·) F3 vt fun r2 I4 F4=>(It (!r2) (Q (.returned (vt false)) I4 F4) (∃m2:Nat,m2<m1∧Inv16 x (IntKind.wrap .i64 (i+1)) m2 I4 F4))) (Q (.returned (vt true)) I3 F3))))))))
theorem mg.vc{s:Bs}{I:cS}{F:cR}{Q:cU}(Inv16:Bool→Int→Nat→cS→cR→Prop)(h:mg.V .bool s I F Q Inv16):cV P 50 #[.string s] I F Q :=
 tw (A:=(eM [2000,2004,2009,2015,5003,7004] [] [54,96,97] iz [(16,⟨[(2,.bool),(4,(.int .i64))],[],fun _ _ _ vs m I F=>match vs with | [.bool y0,.int _ y1]=>Inv16 y0 y1 m I F | _=>False,[],[]⟩)] [] [] [] [] [] [])) [54,96,97] func50 h
end Go.Lx
namespace Go.Lx
open Go.Vc
def jg(v:Value)(F:cR)(e:Ending)(I:cS)(G:cR):Prop:=e=.returned v∧G=F
theorem cV.ret{Pr:Program}{f:FuncId}{args:Array Value}{I:cS}{F:cR}{v:Value}{Q:Ending→cS→cR→Prop}(h:cV Pr f args I F (jg v F))
  (k:∀I',cS.le I I'→Q (.returned v) I' F):cV Pr f args I F Q :=
 h.mono fun e I' G hl ⟨he,hG⟩=>by subst he;subst hG;exact k I' hl
theorem oK(c:Int)(I:cS)(F:cR):cV P 135 #[.int .u8 c] I F (jg (.bool (db c)) F):=by
 refine qb.vc ⟨fun h=>⟨?_,rfl⟩,fun h=>⟨?_,rfl⟩⟩<;>simp[db,h]
theorem so(c:Int)(I:cS)(F:cR):cV P 137 #[.int .u8 c] I F (jg (.bool (fj c)) F):=by
 refine qc.vc ⟨fun h=>⟨?_,rfl⟩,fun h=>⟨?_,rfl⟩⟩<;>simp[fj,h]
theorem su(c:Int)(I:cS)(F:cR):cV P 139 #[.int .u8 c] I F (jg (.bool (c9 c)) F):=by
 refine nK.vc ?_
 unfold nK.V
 refine cV.ret (so c I F) fun I1 h1=>⟨_,rfl,F,.refl _,fun hs=>⟨?_,rfl⟩,fun hs=>?_⟩
 ·simp[c9,hs]
 ·refine cV.ret (oK c I1 F) fun I2 h2=>⟨_,rfl,F,.refl _,fun hd=>⟨?_,rfl⟩,fun hd=>⟨?_,rfl⟩⟩
  ·simp[c9,hd]
  ·simp[c9,hs,hd]
def dV(s:ByteArray):Prop:=s.size≤140737488351232
def lb(x:ByteArray):List Value:=[.string x]
theorem xQ(I:cS)(F:cR):cV P 151 #[] I F fun e I' G=>∃b:Nat,e=.returned (.slice (some ⟨b,0,none⟩) 41 41)∧Sl I' 1 lb (some ⟨b,0,none⟩) 41 eC∧G=F:=by
 refine qd.vc fun b I1 hI hb=>⟨b,rfl, ?_,rfl⟩
 exact Sl.ki (f:=lb) (z:=1) (l:=eC) (fun _=>rfl) hb (by kernel_rfl)
theorem xR(x:ByteArray)(I:cS)(F:cR):cV P 158 #[.string x] I F (jg (.bool false) F):=by
 refine nL.vc ?_
 unfold nL.V
 exact⟨by simp,rfl⟩
theorem wj(x:ByteArray)(I:cS)(F:cR):cV P 156 #[.string x] I F (jg (.bool false) F):=by
 refine jR.vc ?_
 unfold jR.V
 exact⟨by simp,rfl⟩
theorem zJ(x y:ByteArray)(I:cS)(F:cR):cV P 155 #[.string x,.string y] I F (jg (.bool (Op.bytesLess x.toList y.toList)) F):=by
 refine py.vc ?_
 unfold py.V
 exact cV.ret (xR x I F) fun I1 h1=>⟨_,rfl,F,.refl _,fun h=>by (cases h),fun _=>⟨rfl,rfl⟩⟩
theorem oL:∀{a b c:List UInt8},Op.bytesLess a b=true→Op.bytesLess b c=true→Op.bytesLess a c=true
 | a,b,[],_,h=>by cases b<;>simp[Op.bytesLess] at h
 | [],b,z::c,_,_=>rfl
 | x::a,[],z::c,h,_=>by simp[Op.bytesLess] at h
 | x::a,y::b,z::c,h1,h2=>by
   simp only[Op.bytesLess,Bool.or_eq_true,Bool.and_eq_true,decide_eq_true_eq,beq_iff_eq] at h1 h2 ⊢
   rcases h1 with h1 | ⟨rfl,h1⟩
   ·rcases h2 with h2 | ⟨rfl,h2⟩
    ·exact .inl (UInt8.lt_trans h1 h2)
    ·exact .inl h1
   ·rcases h2 with h2 | ⟨rfl,h2⟩
    ·exact .inl h2
    ·exact .inr ⟨rfl,oL h1 h2⟩
def oo(x y:ByteArray):Bool:=Op.bytesLess x.toList y.toList
theorem uR:∀i j:Fin 41,i<j→oo (eC[i]'(by simp[eC])) (eC[j]'(by simp[eC]))=true:=by decide +kernel
theorem xS:∀i:Fin 41,oo (eC[i]'(by simp[eC])) (eC[i]'(by simp[eC]))=false:=by decide +kernel
theorem sv{i j:Nat}{x y:ByteArray}(h:i<j)(hx:eC[i]? = some x)(hy:eC[j]? = some y):oo x y=true:=by
 have hj:j<41:=by
  rcases Nat.lt_or_ge j eC.length with h | h
  ·exact h
  ·simp[List.getElem?_eq_none h] at hy
 have:=uR ⟨i,by omega⟩ ⟨j,hj⟩ h
 rw[List.getElem?_eq_getElem (by show i<41;omega)] at hx
 rw[List.getElem?_eq_getElem (by show j<41;omega)] at hy
 cases hx;cases hy;exact this
theorem zL{i:Nat}{x:ByteArray}(hx:eC[i]? = some x):oo x x=false:=by
 have hj:i<41:=by
  rcases Nat.lt_or_ge i eC.length with h | h
  ·exact h
  ·simp[List.getElem?_eq_none h] at hx
 have:=xS ⟨i,hj⟩
 rw[List.getElem?_eq_getElem (by show i<41;omega)] at hx
 cases hx;exact this
theorem Cf{n:Int}(h:0≤n∧n≤18446744073709551615):IntKind.wrap .u64 n=n:=by
 simp only[IntKind.wrap,IntKind.bits,IntKind.signed];simp;omega
theorem Dv{i j:Int}(h0:0≤i)(h:i<j)(hj:j≤41):IntKind.wrap .i64 (Int.fdiv (IntKind.wrap .u64 (IntKind.wrap .i64 (i+j))) (2 ^ 1))=(i+j) / 2:=by
 rw[gN (n:=i+j) (by omega),Cf (n:=i+j) (by omega),Int.fdiv_eq_ediv_of_nonneg _ (by decide)]
 rw[show ((2:Int) ^ 1)=2 by rfl,gN (by omega)]
theorem wm{a:Option Addr}{c:Nat}{t:ByteArray}{I:cS}(hS:Sl I 1 lb a 41 eC)(F:cR) :
  cV P 150 #[.slice a 41 c,.string t] I F fun e I' G=>∃i:Int,e=.returned (.tuple #[.int .i64 i,.bool (kL t)])∧G=F:=by
 refine fL.vc (fun i j m I' F'=>0≤i∧i≤j∧j≤41∧m=(j-i).toNat∧(∀(k:Nat) (x:ByteArray),eC[k]? = some x→(k:Int)<i→oo x t=true) ∧
  (∀(k:Nat) (x:ByteArray),eC[k]? = some x→j≤k→oo x t=false)∧F'=F) ?_
 unfold fL.V
 refine⟨⟨_,by omega,by decide,by decide,rfl,fun k x _ h=>by omega,fun k x hx h=>?_,rfl⟩,fun i j m I1 F1 hI ⟨g0,g1,g2,gm,gl,gr,gF⟩=>⟨fun hlt=>?_,fun hlt=>?_⟩⟩
 ·have:eC.length=41:=rfl
  simp[List.getElem?_eq_none (l:=eC) (i:=k) (by omega)] at hx
 ·have hlt:i<j:=by simpa using hlt
  subst gF
  have hS1:=hS.mono hI
  have hmid:=Dv g0 hlt g2
  generalize IntKind.wrap .i64 (Int.fdiv (IntKind.wrap .u64 (IntKind.wrap .i64 (i+j))) (2 ^ 1))=h at hmid ⊢
  obtain⟨ad,x,ha,hx,hrd⟩:=hS1.at (i:=h) (by omega) (by omega)
  refine⟨⟨by omega,by show h<41;omega⟩,ad,ha,x,hrd F1, ?_⟩
  refine cV.ret (zJ x t I1 F1) fun I2 h2=>⟨_,rfl,F1,.refl _,fun hc=>?_,fun hc=>?_⟩
  ·rw[gN (by omega)]
   refine⟨(j-(h+1)).toNat,by omega,by omega,by omega,g2,rfl,fun k y hy hk=>?_,gr,rfl⟩
   by_cases hkh:k=h.toNat
   ·subst hkh;rw[hx] at hy;cases hy;exact hc
   ·exact oL (sv (by omega) hy hx) hc
  ·refine⟨(h-i).toNat,by omega,g0,by omega,by omega,rfl,gl,fun k y hy hk=>?_,rfl⟩
   by_cases hkh:k=h.toNat
   ·subst hkh;rw[hx] at hy;cases hy;exact hc
   ·cases hlk:oo y t with
    | false=>rfl
    | true=>have:=oL (sv (i:=h.toNat) (by omega) hx hy) hlk;rw[hc] at this;cases this
 ·have hlt:¬i<j:=by simpa using hlt
  have hij:i=j:=by omega
  subst hij
  subst gF
  have hS1:=hS.mono hI
  have no:(∀(k:Nat) (x:ByteArray),eC[k]? = some x→(k:Int)=i→(x.toList==t.toList)=false)→kL t=false:=by
   intro hi
   unfold kL
   rw[List.any_eq_false]
   intro x hx
   obtain⟨k,hk⟩:=List.mem_iff_getElem?.1 hx
   intro he
   have he':x.toList=t.toList:=by simpa using he
   have hirr:=zL hk
   unfold oo at hirr
   rcases Int.lt_or_le (k:Int) i with h | h
   ·have:=gl k x hk h
    unfold oo at this
    rw[←he',hirr] at this;cases this
   ·rcases Int.lt_or_eq_of_le h with h' | h'
    ·obtain⟨ad,y,ha,hy,hrd⟩:=hS1.at (i:=i) g0 (by
      have:k<41:=by
       rcases Nat.lt_or_ge k eC.length with h | h
       ·exact h
       ·simp[List.getElem?_eq_none h] at hk
      show i<41
      omega)
     have h1:=sv (i:=i.toNat) (j:=k) (by omega) hy hk
     have h2:=gr i.toNat y hy (by omega)
     unfold oo at h1 h2
     rw[he',h2] at h1;cases h1
    ·rw[hi k x hk h'.symm] at he;cases he
  refine⟨fun hlt=>?_,fun hlt=>?_⟩
  ·have hlt:i<41:=by simpa using hlt
   obtain⟨ad,x,ha,hx,hrd⟩:=hS1.at (i:=i) g0 (by exact hlt)
   refine⟨⟨g0,hlt⟩,ad,ha,x,hrd F1,fun he=>?_,fun he=>?_⟩
   ·refine⟨i, ?_,rfl⟩
    have:kL t=true:=by
     unfold kL
     exact List.any_eq_true.2 ⟨x,List.mem_of_getElem? hx,he⟩
    rw[this]
   ·have hno:=no fun k y hk hki=>by
     have:k=i.toNat:=by omega
     subst this
     rw[hx] at hk;cases hk;exact he
    refine⟨⟨g0,hlt⟩,ad,ha,x,hrd F1, ?_⟩
    refine cV.ret (wj x I1 F1) fun I2 h2=>⟨_,rfl,F1,.refl _,fun h=>by (cases h),fun _=>⟨i, ?_,rfl⟩⟩
    rw[hno]
  ·have hlt:¬i<41:=by simpa using hlt
   refine⟨i, ?_,rfl⟩
   rw[no fun k y hk hki=>by
    have:eC.length=41:=rfl
    simp[List.getElem?_eq_none (l:=eC) (i:=k) (by omega)] at hk]
theorem zM(t:ByteArray)(I:cS)(F:cR):cV P 140 #[.string t] I F (jg (.bool (kL t)) F):=by
 refine pz.vc ?_
 unfold pz.V
 refine (xQ I F).mono fun e I1 G hI ⟨b,he,hS,hG⟩=>?_
 subst hG
 refine⟨_,_,_,he,_,.refl _, ?_⟩
 refine (wm hS G).mono fun e I2 G2 hI2 ⟨i,he,hG⟩=>?_
 subst hG
 exact⟨_,_,he,_,.refl _,rfl,rfl⟩
theorem mh(c:Int)(I:cS)(F:cR):cV P 54 #[.int .u8 c] I F (jg (.bool (fj c)) F):=by
 refine mc.vc ⟨fun h=>⟨?_,rfl⟩,fun h=>⟨?_,rfl⟩⟩<;>simp_all [fj]<;>omega
theorem nc(c:Int)(I:cS)(F:cR):cV P 56 #[.int .u8 c] I F (jg (.bool (db c)) F):=by
 refine na.vc ⟨fun h=>⟨?_,rfl⟩,fun h=>⟨?_,rfl⟩⟩<;>simp_all [db]<;>omega
theorem oM(c:Int)(I:cS)(F:cR):cV P 97 #[.int .u8 c] I F (jg (.bool (c9 c)) F):=by
 refine me.vc ?_
 unfold me.V
 refine cV.ret (mh c I F) fun I1 h1=>⟨_,rfl,F,.refl _,fun hs=>⟨?_,rfl⟩,fun hs=>?_⟩
 ·simp[c9,hs]
 ·refine cV.ret (nc c I1 F) fun I2 h2=>⟨_,rfl,F,.refl _,fun hd=>⟨?_,rfl⟩,fun hd=>⟨?_,rfl⟩⟩
  ·simp[c9,hd]
  ·simp[c9,hs,hd]
theorem wo(I:cS)(F:cR):cV P 118 #[] I F fun e I' G=>∃b:Nat,e=.returned (.slice (some ⟨b,0,none⟩) 41 41)∧Sl I' 1 lb (some ⟨b,0,none⟩) 41 eC∧G=F:=by
 refine nb.vc fun b I1 hI hb=>⟨b,rfl, ?_,rfl⟩
 exact Sl.ki (f:=lb) (z:=1) (l:=eC) (fun _=>rfl) hb (by kernel_rfl)
theorem A2{α:Type}{l:List α}{p:α→Bool}{k:Nat}{x:α}(h:l[k]? = some x):(l.drop k).any p=(p x||(l.drop (k+1)).any p):=by
 obtain⟨hk,rfl⟩:=List.getElem?_eq_some_iff.1 h
 rw[List.drop_eq_getElem_cons hk,List.any_cons]
theorem zN{α:Type}{l:List α}{p:α→Bool}{k:Nat}{x:α}(h:l[k]? = some x):(l.drop k).find? p=if p x then some x else (l.drop (k+1)).find? p:=by
 obtain⟨hk,rfl⟩:=List.getElem?_eq_some_iff.1 h
 rw[List.drop_eq_getElem_cons hk,List.find?_cons]
 split<;>simp_all
theorem oN(t:ByteArray)(I:cS)(F:cR):cV P 96 #[.string t] I F (jg (.bool (kL t)) F):=by
 refine mf.vc (fun x i m I' F'=>0≤i∧i≤41∧m=(41-i).toNat∧kL t=(eC.drop i.toNat).any (fun w=>w.toList==t.toList)∧F'=F) ?_
 unfold mf.V
 refine (wo I F).mono fun e I1 G hI ⟨b,he,hS,hG⟩=>?_
 subst hG
 refine⟨_,_,_,he,_,.refl _,⟨_,by omega,by omega,rfl,rfl,rfl⟩,fun x i m I2 F2 hI2 ⟨g0,g1,gm,gw,gF⟩=>⟨fun hlt=>?_,fun hlt=>?_⟩⟩
 ·have hlt:i<41:=of_decide_eq_true hlt
  obtain⟨ad,w,ha,hw,hrd⟩:=(hS.mono hI2).at (i:=i) g0 hlt
  subst gF
  rw[A2 hw] at gw
  refine⟨⟨g0,hlt⟩,ad,ha,w,hrd _,fun h=>⟨?_,rfl⟩,fun h=>⟨(41-(i+1)).toNat,by omega, ?_⟩⟩
  ·rw[gw,h];rfl
  ·rw[gN (by omega)]
   refine⟨by omega,by omega,rfl, ?_,rfl⟩
   rw[gw,h,show (i+1).toNat=i.toNat+1 by omega];rfl
 ·have hlt:¬i<41:=of_decide_eq_false hlt
  refine⟨?_,gF⟩
  rw[gw,List.drop_eq_nil_of_le (by show 41≤_;omega)];rfl
theorem eE:(⟨#[]⟩:ByteArray).toList=[]:=by rw[Lib.toList_data]
theorem A3{t:ByteArray}(h1:(t.toList==(⟨#[]⟩:ByteArray).toList)=false)(h2:¬(t.size:Int)>16)(h3:fj (bt t 0)=true)(h4:kL t=false):dK t=decide (dh c9 t 0=t.size):=by
 unfold dK
 rw[eE] at h1
 rw[h3,h4,h1,decide_eq_true (by omega:(t.size:Int)≤16)];simp
theorem jt{t:ByteArray}(I:cS)(F:cR):cV P 50 #[.string t] I F (jg (.bool (dK t)) F):=by
 refine mg.vc (fun x i m I' F'=>0≤i∧i≤t.size∧m=(t.size-i).toNat∧dh c9 t i=dh c9 t 0∧F'=F) ?_
 unfold mg.V
 refine cV.ret (oN t I _) fun I1 hI1=>⟨_,rfl,F,.refl _,fun h4=>⟨?_,rfl⟩,fun h4=>⟨fun h1=>⟨?_,rfl⟩,fun h1=>⟨fun h2=>⟨?_,rfl⟩,fun h2=>?_⟩⟩⟩
 ·rw[show dK t=false by unfold dK;rw[h4];simp]
 ·have h1:=of_decide_eq_true h1
  have:t=⟨#[]⟩:=ByteArray.size_eq_zero_iff.1 (by omega)
  rw[this,show dK ⟨#[]⟩=false by unfold dK;rw[eE];rfl]
 ·rw[show dK t=false by unfold dK;rw[decide_eq_false (by have:=of_decide_eq_true h2;omega:¬(t.size:Int)≤16)];simp]
 have h1:=of_decide_eq_false h1
 have h2:=of_decide_eq_false h2
 have h0:(t.toList==(⟨#[]⟩:ByteArray).toList)=false:=by
  rw[eE]
  have:t.toList≠[]:=fun e=>by
   have:t.toList.length=0:=by rw[e];rfl
   rw[Lib.toList_data] at this
   have h3:t.size=0:=by simpa using this
   omega
  simpa using this
 refine⟨⟨by omega,by omega⟩, ?_⟩
 refine cV.ret (mh (bt t 0) I1 _) fun I2 hI2=>⟨_,rfl,F,.refl _,fun h3=>⟨?_,rfl⟩,fun h3=>?_⟩
 ·rw[show dK t=false by unfold dK;rw[show fj (bt t 0)=false by simpa using h3];simp]
 have h3:fj (bt t 0)=true:=by simpa using h3
 rw[A3 h0 h2 h3 h4]
 refine⟨⟨_,by omega,by omega,rfl,rfl,rfl⟩,fun x i m I3 F3 hI3 ⟨g0,g1,gm,gr,gF⟩=>⟨fun hl=>⟨⟨g0,of_decide_eq_true hl⟩, ?_⟩,fun hl=>?_⟩⟩
 ·have hl:=of_decide_eq_true hl
  subst gF
  refine cV.ret (oM (bt t i) I3 _) fun I4 hI4=>⟨_,rfl,F3,.refl _,fun hc=>⟨?_,rfl⟩,fun hc=>?_⟩
  ·have hc:c9 (bt t i)=false:=by simpa using hc
   rw[dw hl,if_neg (by rw[hc];exact Bool.false_ne_true)] at gr
   rw[decide_eq_false (by omega)]
  ·have hc:c9 (bt t i)=true:=by simpa using hc
   rw[dw hl,if_pos hc] at gr
   rw[gN (by omega)]
   exact⟨(t.size-(i+1)).toNat,by omega,by omega,by omega,rfl,gr,rfl⟩
 ·have hl:=of_decide_eq_false hl
  refine⟨?_,gF⟩
  rw[jr (by omega)] at gr
  rw[decide_eq_true (by omega)]
def Bd{z:Nat}(ls:List (List (Ck z))):Prop:=∀(j:Nat) (l:List (Ck z)),ls[j]? = some l→l.length≤1000000000
def dT(n:Nat)(hs:Nat→cR):cR:=(List.range n).flatMap hs
theorem xU(n:Nat)(hs:Nat→cR):dT (n+1) hs=hs 0++dT n fun i=>hs (i+1):=by
 unfold dT;rw[List.range_succ_eq_map,List.flatMap_cons,List.flatMap_map]
theorem oO(n:Nat)(hs:Nat→cR):dT (n+1) hs=dT n hs++hs n:=by
 unfold dT;rw[List.range_succ,List.flatMap_append];simp
theorem wq{n:Nat}{hs hs':Nat→cR}(h:∀i,i<n→hs i=hs' i):dT n hs=dT n hs':=by
 induction n with
 | zero=>rfl
 | succ n ih=>rw[oO,oO,ih fun i hi=>h i (by omega),h n (by omega)]
theorem tZ{n:Nat}{hs:Nat→cR}{i:Nat}(hi:i<n){x:Nat×Obj}(hx:x∈hs i):x∈dT n hs:=List.mem_flatMap.2 ⟨i,List.mem_range.2 hi,hx⟩
def Dw(n:Nat)(a:Option Addr)(c:Nat)(A:cR):Prop :=
 ∃b cells e,a=some ⟨b,0,none⟩∧A=[(b,Obj.cells cells e (0,0))]∧c=n+2∧cells[n*8+7]? = some (.int .i64 (-771))∧cells[(n+1)*8+7]? = some (.int .i64 (-772))
inductive eG (E:Nat) (R:Bool):Nd→cR→Prop
 | mk {t:Nd} {A:cR} {hs:Nat→cR}:Acc 8 Nd.enc E t.a t.kids.length t.c t.kids A→(R=true→Dw t.kids.length t.a t.c A)→(∀(i:Nat) (k:Nd),t.kids[i]? = some k→eG E R k (hs i)) →
    eG E R t (A++dT t.kids.length hs)
theorem eG.ok{E:Nat}{R:Bool}{t:Nd}{H:cR}(h:eG E R t H):∀{I:cS} {G:cR},(∀x,x∈H→x∈G)→fR I G t:=by
 induction h with
 | @mk t A hs hA hR hk ih =>
   intro I G hG
   refine .mk (hA.FZ Nd.yO I fun x hx=>hG x (List.mem_append_left _ hx)) fun k hkm=>?_
   obtain⟨i,hi,rfl⟩:=List.mem_iff_getElem.1 hkm
   exact ih i _ (List.getElem?_eq_getElem hi) fun x hx=>hG x (List.mem_append_right _ (tZ hi hx))
mutual
def Nd.rows:Nd→List Row
 | .mk _ _ _ _ _ _ a c l _=>⟨a,l.length,c⟩::Nd.ua l
def Nd.ua:List Nd→List Row
 | []=>[]
 | x::r=>Nd.rows x++Nd.ua r
end
theorem Nd.yR(t:Nd):t.rows=⟨t.a,t.kids.length,t.c⟩::Nd.ua t.kids:=by cases t;rw[Nd.rows];rfl
def Cg(t:Nd):Ck 8:=⟨t.enc,rfl⟩
mutual
def Nd.lists:Nd→List (List (Ck 8))
 | .mk _ _ _ _ _ _ _ _ l _=>l.map Cg::Nd.uS l
def Nd.uS:List Nd→List (List (Ck 8))
 | []=>[]
 | x::r=>Nd.lists x++Nd.uS r
end
theorem Nd.A4(t:Nd):t.lists=t.kids.map Cg::Nd.uS t.kids:=by cases t;rw[Nd.lists];rfl
theorem ub:∀l:List Nd,(l.map Cg).flatMap cv=l.flatMap Nd.enc
 | []=>rfl
 | y::l=>by rw[List.map_cons,List.flatMap_cons,List.flatMap_cons,ub l];rfl
theorem _root_.Go.Vc.Acc.nd{a:Option Addr}{n c e:Nat}{l:List Nd}{A:cR}(h:Acc 8 Nd.enc e a n c l A):Acc 8 cv e a n c (l.map Cg) A:=by
 obtain⟨hn,⟨h1,h2,h3,h4⟩ | ⟨b,cells,h1,h2,h3,h4,h5⟩⟩:=h
 ·exact⟨by rw[List.length_map];exact hn,.inl ⟨h1,h2,by rw[h3];rfl,h4⟩⟩
 ·exact⟨by rw[List.length_map];exact hn,.inr ⟨b,cells,h1,h2,h3,h4,by rw[h5,ub]⟩⟩
end Go.Lx
namespace Go.Vc
theorem mN.app{z e:Nat}:∀{rs rs':List Row} {ls ls':List (List (Ck z))} {H H':cR},mN z e rs ls H→mN z e rs' ls' H'→mN z e (rs++rs') (ls++ls') (H++H')
 | [],rs',[],ls',H,H',h,h'=>by
   have:H=[]:=h
   subst this;exact h'
 | r0::rs,rs',l0::ls,ls',H,H',⟨B,H'',hH,hB,hR⟩,h'=>by
   subst hH
   exact⟨B,H''++H',by rw[List.append_assoc],hB,mN.app hR h'⟩
 | [],_,_::_,_,_,_,h,_=>h.elim
 | _::_,_,[],_,_,_,h,_=>h.elim
end Go.Vc
namespace Go.Lx
open Go.Vc
theorem wu{E:Nat}:∀(l:List Nd) (hs:Nat→cR),(∀(i:Nat) (k:Nd),l[i]? = some k→∃H',mN 8 E k.rows k.lists H'∧H'.Perm (hs i)) →
  ∃H',mN 8 E (Nd.ua l) (Nd.uS l) H'∧H'.Perm (dT l.length hs)
 | [],hs,_=>⟨[],rfl,.refl _⟩
 | x::r,hs,h=>by
   obtain⟨A,h1,h2⟩:=h 0 x rfl
   obtain⟨B,h3,h4⟩:=wu r (fun i=>hs (i+1)) fun i k hk=>h (i+1) k (by simpa using hk)
   refine⟨A++B,h1.app h3, ?_⟩
   rw[List.length_cons,xU]
   exact h2.append h4
theorem eG.rows{E:Nat}{R:Bool}{t:Nd}{H:cR}(h:eG E R t H):∃H',mN 8 E t.rows t.lists H'∧H'.Perm H:=by
 induction h with
 | @mk t A hs hA hR hk ih =>
   obtain⟨B,h1,h2⟩:=wu t.kids hs ih
   refine⟨A++B, ?_,List.Perm.append_left A h2⟩
   rw[Nd.yR,Nd.A4]
   exact⟨A,B,rfl,hA.nd,h1⟩
theorem A5:∀t:Nd,(t.rows.length:Int)=t.px.size:=by
 have hL:∀l:List Nd,(∀x∈l,((Nd.rows x).length:Int)=x.px.size)→((Nd.ua l).length:Int)=Px.fI (l.map Nd.px):=by
  intro l
  induction l with
  | nil=>intro _;rfl
  | cons x r ih =>
    intro h
    have h1:=h x (List.mem_cons_self ..)
    have h2:=ih fun y hy=>h y (List.mem_cons_of_mem _ hy)
    rw[Nd.ua,List.map_cons,Px.fI,List.length_append];omega
 refine Nd.ind fun x h=>?_
 rw[Nd.yR,Px.size_eq,List.length_cons,Nd.im]
 have:=hL x.kids h
 omega
theorem fR.cons{I:cS}{F:cR}{t:Nd}(h:fR I F t){x:Nat×Obj}:fR I (x::F) t:=h.mono (cS.le_refl I) fun _ h=>List.mem_cons_of_mem _ h
theorem wv{l:List Nd}{i:Nat}{x:Nd}(h:l[i]? = some x):(l.drop i).map Nd.px=x.px::(l.drop (i+1)).map Nd.px:=by
 obtain⟨hk,rfl⟩:=List.getElem?_eq_some_iff.1 h
 rw[List.drop_eq_getElem_cons hk,List.map_cons]
theorem wz{l:List Nd}{i:Nat}(h:l.length≤i):(l.drop i).map Nd.px=[]:=by rw[List.drop_eq_nil_of_le h];rfl
theorem _root_.Go.Vc.cV.CV{v:Value}{F:cR}{Pr:Program}{f:FuncId}{args:Array Value}{I:cS}(h:cV Pr f args I F (jg v F)):cV Pr f args I F fun e I' G=>e=.returned v∧G.Perm F :=
 h.mono fun e I' G _ ⟨h1,h2⟩=>⟨h1,by rw[h2]⟩
theorem wA{t x:Nd}(h:x∈t.kids){n:Int}(hs:t.px.size≤n):x.px.size≤n:=by
 have h1:=Px.tX (List.mem_map_of_mem (f:=Nd.px) h)
 rw[Px.size_eq,Nd.im] at hs
 omega
theorem wB{t:Nd}{n:Int}(hs:t.px.size≤n):(t.kids.length:Int)<n:=by
 have h1:=Px.tY (t.kids.map Nd.px)
 rw[Px.size_eq,Nd.im] at hs
 rw[List.length_map] at h1
 omega
def mT:Nd:=.mk 0 0 0 0 0 ⟨#[]⟩ none 0 [] 0
end Go.Lx
namespace Go.Lx
open Go.Vc Go.Proofs.Tryz
def mi:List (Nat×List Sh):=[(3,[.one (.int .i64)]),(4,[.one .bool]),(64,[.agg [(.int .u8),(.int .u8),(.int .u8),(.int .i64),(.int .u8),.str,.slc,(.int .i64)]])]
def mj.V(vt:Bool→Value)(i a b c d:Int)(e:Bs)(f:OA)(g h:Nat)(j:Int)(I:cS)(F:cR)(Q:cU)  : Prop:=∀k:Nat,(It (a==0) (It (b==0) (It (c==0) (It (d==0) (Q (.returned (vt (e.toList==(⟨#[]⟩:Bs).toList))) I F) (Q (.returned (vt false)) I F)) (Q (.returned (vt false)) I F)) (Q (.returned (vt false)) I F)) (Q (.returned (vt false)) I F))
theorem mj.vc{d e f g i:Int}{j:Bs}{a:OA}{b c:Nat}{k:Int}{I:cS}{F:cR}{Q:cU}  (h:mj.V .bool d e f g i j a b c k I F Q):cV P 146 #[.agg #[.int .u8 d,.int .u8 e,.int .u8 f,.int .i64 g,.int .u8 i,.string j,.slice a b c,.int .i64 k]] I F Q :=
 tw (A:=(an [1002,1006,1011,1016] [] mi)) [] func146 h
def jC.V(nO:Int→Int→Int→Int→Int→Bs→OA→Nat→Nat→Int→Obj)(vb:Int→Value)(vt:Bool→Value)(f g a b h:Int)(i:Bs)(d:OA)(c e:Nat)(j:Int)(I:cS)(F:cR)(Q:cU)(Inv4:Bool→cS→cR→Prop):Prop:=∀k:Nat,((It (a==1) (Inv4 (decide (b≥0)) I F) (It (a==2) (Inv4 (decide (b≥0)) I F) (It (a==3) (Inv4 (decide (b≥0)) I F) (It (a==4) (Inv4 (decide (b≥0)) I F) (It (a==5) (It (b==0) (Inv4 true I F) (Inv4 (b==1) I F)) (It (a==6) (It (b==1) (Inv4 true I F) (Inv4 (b==2) I F)) (Inv4 false I F))))))))∧∀(ok:Bool) (I1:cS) (F1:cR),cS.le I I1→Inv4 ok I1 F1→(It ok (fp P 146 #[.agg #[vb f,vb g,vb 0,.int .i64 0,vb h,.string i,.slice d c e,.int .i64 j]] I1 ((k,nO f g 0 0 h i d c e j)::·) F1 vt fun r I2 F2=>(It r (Q (.returned (vt ((c:Int)==0))) I2 F2) (Q (.returned (vt false)) I2 F2))) (Q (.returned (vt false)) I1 F1))
theorem jC.vc{g i j p r:Int}{u:Bs}{b:OA}{d e:Nat}{v:Int}{I:cS}{F:cR}{Q:cU}(Inv4:Bool→cS→cR→Prop)(h:jC.V (fun k o t n f s a l c q=>.cells #[.int .u8 k,.int .u8 o,.int .u8 t,.int .i64 n,.int .u8 f,.string s,.slice a l c,.int .i64 q] 64 (0,0)) (.int .u8) .bool g i j p r u b d e v I F Q Inv4):cV P 145 #[.agg #[.int .u8 g,.int .u8 i,.int .u8 j,.int .i64 p,.int .u8 r,.string u,.slice b d e,.int .i64 v]] I F Q :=
 tw (A:=(eM [3000,4000,5000,6000,8000,9002,10000,11002,14000,14003] [] [146] mi [(4,⟨[(3,.bool)],[],fun _ _ _ vs m I F=>match vs with | [.bool y0]=>Inv4 y0 I F | _=>False,[],[]⟩)] [] [] [] [] [] [])) [146] func145 h
def nM.V(w:Nat→Nat×Obj)(nV:Int→Int→Int→Int→Int→Bs→OA→Nat→Nat→Int→Value)(nO:Int→Int→Int→Int→Int→Bs→OA→Nat→Nat→Int→Obj)(vt:Bool→Value)(a e g h f:Int)(i:Bs)(b:OA)(c d:Nat)(j:Int)(I:cS)(F:cR)(Q:cU)(Inv6:Bool→Int→Bool→Int→Int→Int→Int→Int→Bs→OA→Nat→Nat→Int→cS→cR→Prop):Prop:=∀v:Nat,((It (a==1) (fp P 145 #[nV a e g h f i b c d j] I ((w v)::·) F vt fun r I1 F1=>Q (.returned (vt r)) I1 F1) (It (a==2) (fp P 50 #[.string i] I ((w v)::·) F vt fun r1 I2 F2=>Inv6 false 0 r1 a e g h f (⟨#[]⟩:Bs) b c d j I2 F2) (It (a==3) (Dt (f≥1) (Inv6 false 0 (decide (f≤6)) a e g h 0 i b c d j I F) (Inv6 false 0 false a e g h 0 i b c d j I F)) (It (a==4) (Dt (f≥1) (Inv6 false 0 (decide (f≤3)) a e g h 0 i b c d j I F) (Inv6 false 0 false a e g h 0 i b c d j I F)) (It (a==5) (It (e==1) (Inv6 false 1 true a 0 g h f i b c d j I F) (Inv6 false 1 (e==2) a 0 g h f i b c d j I F)) (It (a==6) (Dt (e≥6) (Inv6 false 2 (decide (e≤18)) a 0 g h f i b c d j I F) (Inv6 false 2 false a 0 g h f i b c d j I F)) (It (a==7) (Inv6 false 3 true a e g h f i b c d j I F) (It (a==8) (Dt (e≥3) (It (e==3) (Inv6 false 1 (decide (e≤5)) a 0 g h f i b c d j I F) (Inv6 false 2 (decide (e≤5)) a 0 g h f i b c d j I F)) (It (e==3) (Inv6 false 1 false a 0 g h f i b c d j I F) (Inv6 false 2 false a 0 g h f i b c d j I F))) (It (a==9) (Dt (g≥1) (Inv6 false 1 (decide (g≤4)) a e 0 h f i b c d j I F) (Inv6 false 1 false a e 0 h f i b c d j I F)) (Inv6 false 0 false a e g h f i b c d j I F)))))))))))∧∀(x:Bool) (y:Int) (ok:Bool) (n o p q s:Int) (t:Bs) (l:OA) (k m:Nat) (u:Int) (I3:cS) (F3:cR),cS.le I I3→Inv6 x y ok n o p q s t l k m u I3 F3→(It ok (fp P 146 #[nV n o p q s t l k m u] I3 ((v,nO n o p q s t l k m u)::·) F3 vt fun r2 I4 F4=>(It r2 (Q (.returned (vt ((k:Int)==y))) I4 F4) (Q (.returned (vt false)) I4 F4))) (Q (.returned (vt false)) I3 F3))
theorem nM.vc{i j p r u:Int}{v:Bs}{d:OA}{e g:Nat}{w:Int}{I:cS}{F:cR}{Q:cU}(Inv6:Bool→Int→Bool→Int→Int→Int→Int→Int→Bs→OA→Nat→Nat→Int→cS→cR→Prop)(h:nM.V (fun b=>(b,Obj.cells #[.int .u8 i,.int .u8 j,.int .u8 p,.int .i64 r,.int .u8 u,.string v,.slice d e g,.int .i64 w] 64 (0,0))) (fun k o t n f s a l c q=>.agg #[.int .u8 k,.int .u8 o,.int .u8 t,.int .i64 n,.int .u8 f,.string s,.slice a l c,.int .i64 q]) (fun k o t n f s a l c q=>.cells #[.int .u8 k,.int .u8 o,.int .u8 t,.int .i64 n,.int .u8 f,.string s,.slice a l c,.int .i64 q] 64 (0,0)) .bool i j p r u v d e g w I F Q Inv6):cV P 130 #[.agg #[.int .u8 i,.int .u8 j,.int .u8 p,.int .i64 r,.int .u8 u,.string v,.slice d e g,.int .i64 w]] I F Q :=
 tw (A:=(eM [4000,6000,9000,10002,12000,13002,15000,16002,19000,20002,23000,26000,27002,29002,32000,33002,36000,36003] [] [50,145,146] mi [(6,⟨[(2,.bool),(3,(.int .i64)),(4,.bool)],[(0,[(.int .u8),(.int .u8),(.int .u8),(.int .i64),(.int .u8),.str,.slc,(.int .i64)])],fun _ _ _ vs m I F=>match vs with | [.bool y0,.int _ y1,.bool y2,.int _ y3,.int _ y4,.int _ y5,.int _ y6,.int _ y7,.string y8,.slice y9 y10 y11,.int _ y12]=>Inv6 y0 y1 y2 y3 y4 y5 y6 y7 y8 y9 y10 y11 y12 I F | _=>False,[],[]⟩)] [] [] [] [] [] [])) [50,145,146] func130 h
def jS.V(b:Nat→Nat×Obj)(nV:Int→Int→Int→Int→Int→Bs→OA→Nat→Nat→Int→Value)(vb:Int→Value)(vt:Bool→Value)(s t u v w:Int)(x:Bs)(d:OA)(a h:Nat)(y:Int)(I:cS)(F:cR)(Q:cU)(Inv8:Bool→Int→Nat→cS→cR→Prop):Prop:=∀c:Nat,fp P 130 #[nV s t u v w x d a h y] I ((b c)::·) F vt fun r I1 F1=>(∃m:Nat,Inv8 r 0 m I1 F1)∧∀(ok:Bool) (i:Int) (m1:Nat) (I2:cS) (F2:cR),cS.le I1 I2→Inv8 ok i m1 I2 F2→(Dt (i<(a:Int)) (It ok ((0≤i∧i<(a:Int))∧∃ad:Addr,d=some ad∧∃(j k l n o:Int) (p:Bs) (e:OA) (f g:Nat) (q:Int),Rd I2 ((b c)::F2) (ad.add (Int.toNat i*8)) [vb j,vb k,vb l,.int .i64 n,vb o,.string p,.slice e f g,.int .i64 q]∧fp P 119 #[nV j k l n o p e f g q] I2 ((b c)::·) F2 vt fun r1 I3 F3=>(∃m2:Nat,m2<m1∧Inv8 r1 (IntKind.wrap .i64 (i+1)) m2 I3 F3)) (Q (.returned (vt ok)) I2 F2)) (Q (.returned (vt ok)) I2 F2))
theorem jS.vc{i j p r u:Int}{v:Bs}{d:OA}{e g:Nat}{w:Int}{I:cS}{F:cR}{Q:cU}(Inv8:Bool→Int→Nat→cS→cR→Prop)(h:jS.V (fun b=>(b,Obj.cells #[.int .u8 i,.int .u8 j,.int .u8 p,.int .i64 r,.int .u8 u,.string v,.slice d e g,.int .i64 w] 64 (0,0))) (fun k o t n f s a l c q=>.agg #[.int .u8 k,.int .u8 o,.int .u8 t,.int .i64 n,.int .u8 f,.string s,.slice a l c,.int .i64 q]) (.int .u8) .bool i j p r u v d e g w I F Q Inv8):cV P 119 #[.agg #[.int .u8 i,.int .u8 j,.int .u8 p,.int .i64 r,.int .u8 u,.string v,.slice d e g,.int .i64 w]] I F Q :=
 tw (A:=(eM [3004,3006] [] [119,130] mi [(8,⟨[(3,.bool),(4,(.int .i64))],[],fun _ _ _ vs m I F=>match vs with | [.bool y0,.int _ y1]=>Inv8 y0 y1 m I F | _=>False,[],[]⟩)] [] [] [] [] [] [])) [119,130] func119 h
def kM.V(vi:Int→Value)(b a f g h:Int)(i:Bs)(c:OA)(d e:Nat)(j:Int)(I:cS)(F:cR)(Q:cU)  : Prop:=∀k:Nat,(It (b==7) (Q (.returned (vi 1)) I F) (It (b==5) (Q (.returned (vi 7)) I F) (It (b==6) (It (a==18) (Q (.returned (vi 2)) I F) (It (a==17) (Q (.returned (vi 3)) I F) (Dt (a≥11) (Q (.returned (vi 4)) I F) (Dt (a≤7) (Q (.returned (vi 5)) I F) (Q (.returned (vi 6)) I F))))) (Q (.returned (vi 8)) I F))))
theorem kM.vc{d e f g i:Int}{j:Bs}{a:OA}{b c:Nat}{k:Int}{I:cS}{F:cR}{Q:cU}  (h:kM.V (.int .i64) d e f g i j a b c k I F Q):cV P 153 #[.agg #[.int .u8 d,.int .u8 e,.int .u8 f,.int .i64 g,.int .u8 i,.string j,.slice a b c,.int .i64 k]] I F Q :=
 tw (A:=(an [2000,4000,6000,7002,9002,11002,13002] [] mi)) [] func153 h
def ml.V(nO:Int→Int→Int→Int→Int→Bs→OA→Nat→Nat→Int→Obj)(vb vi:Int→Value)(a e f g h:Int)(j:Bs)(b:OA)(c d:Nat)(k i:Int)(I:cS)(F:cR)(Q:cU)  : Prop:=∀l:Nat,fp P 153 #[.agg #[vb a,vb e,vb f,vi g,vb h,.string j,.slice b c d,vi k]] I ((l,nO a e f g h j b c d k)::·) F vi fun r I1 F1=>(It (a==7) (It (i==0) (Q (.returned (vi 2)) I1 F1) (Q (.returned (vi 1)) I1 F1)) (It (a==5) (Q (.returned (vi 7)) I1 F1) (It (a==6) (It (r==4) (Q (.returned (vi 5)) I1 F1) (Q (.returned (vi (IntKind.wrap .i64 (r+i)))) I1 F1)) (Q (.returned (vi 1)) I1 F1))))
theorem ml.vc{g j m p r:Int}{u:Bs}{b:OA}{d e:Nat}{v i:Int}{I:cS}{F:cR}{Q:cU}  (h:ml.V (fun k o t n f s a l c q=>.cells #[.int .u8 k,.int .u8 o,.int .u8 t,.int .i64 n,.int .u8 f,.string s,.slice a l c,.int .i64 q] 64 (0,0)) (.int .u8) (.int .i64) g j m p r u b d e v i I F Q):cV P 154 #[.agg #[.int .u8 g,.int .u8 j,.int .u8 m,.int .i64 p,.int .u8 r,.string u,.slice b d e,.int .i64 v],.int .i64 i] I F Q :=
 tw (A:=(an [3000,4001,7000,9000,10001] [153] mi)) [153] func154 h
def ir.V(a:Nat→Nat×Obj)(nV:Int→Int→Int→Int→Int→Bs→OA→Nat→Nat→Int→Value)(vb vi:Int→Value)(q s t u v:Int)(w:Bs)(c:OA)(d h:Nat)(x i:Int)(I:cS)(F:cR)(Q:cU)  : Prop:=∀b:Nat,((0≤i∧i<(d:Int))∧∃ad:Addr,c=some ad∧∃(j k l m n:Int) (o:Bs) (e:OA) (f g:Nat) (p:Int),Rd I ((a b)::F) (ad.add (Int.toNat i*8)) [vb j,vb k,vb l,vi m,vb n,.string o,.slice e f g,vi p]∧∃(r:Int),(cV P 153 #[nV j k l m n o e f g p] I ((a b)::F) fun e1 I1 G1=>e1=.returned (vi r)∧List.Perm G1 ((a b)::F))∧∃(r1:Int),(cV P 154 #[nV q s t u v w c d h x,vi i] I ((a b)::F) fun e2 I2 G2=>e2=.returned (vi r1)∧List.Perm G2 ((a b)::F))∧Q (.returned (.bool (decide (r<r1)))) I F)
theorem ir.vc{j m p r u:Int}{v:Bs}{d:OA}{e g:Nat}{w i:Int}{I:cS}{F:cR}{Q:cU}  (h:ir.V (fun b=>(b,Obj.cells #[.int .u8 j,.int .u8 m,.int .u8 p,.int .i64 r,.int .u8 u,.string v,.slice d e g,.int .i64 w] 64 (0,0))) (fun k o t n f s a l c q=>.agg #[.int .u8 k,.int .u8 o,.int .u8 t,.int .i64 n,.int .u8 f,.string s,.slice a l c,.int .i64 q]) (.int .u8) (.int .i64) j m p r u v d e g w i I F Q):cV P 147 #[.agg #[.int .u8 j,.int .u8 m,.int .u8 p,.int .i64 r,.int .u8 u,.string v,.slice d e g,.int .i64 w],.int .i64 i] I F Q :=
 tw (A:=(an [] [153,154] mi)) [153,154] func147 h
def kN.V(d:Nat→Nat×Obj)(nV:Int→Int→Int→Int→Int→Bs→OA→Nat→Nat→Int→Value)(vb vi:Int→Value)(wr:Int→Int)(b al am an ao:Int)(ap:Bs)(f:OA)(c k:Nat)(aq:Int)(I:cS)(F:cR)(Q:cU)(Inv8:Int→Int→Nat→cS→cR→Prop):Prop:=∀e:Nat,(∃m:Nat,Inv8 0 0 m I F)∧∀(a i:Int) (m1:Nat) (I1:cS) (F1:cR),cS.le I I1→Inv8 a i m1 I1 F1→(Dt (i<(c:Int)) ((0≤i∧i<(c:Int))∧∃ad:Addr,f=some ad∧∃(l n o p q:Int) (s:Bs) (g:OA) (h j:Nat) (t:Int),Rd I1 ((d e)::F1) (ad.add (Int.toNat i*8)) [vb l,vb n,vb o,vi p,vb q,.string s,.slice g h j,vi t]∧fp P 131 #[nV l n o p q s g h j t] I1 ((d e)::·) F1 vi fun r I2 F2=>fp P 147 #[nV b al am an ao ap f c k aq,vi i] I2 ((d e)::·) F2 .bool fun r1 I3 F3=>(It r1 (It (b==5) (Dt ((wr ((wr (r+1))+1))>a) (∃m2:Nat,m2<m1∧Inv8 (wr ((wr (r+1))+1)) (wr (i+1)) m2 I3 F3) (∃m3:Nat,m3<m1∧Inv8 a (wr (i+1)) m3 I3 F3)) (It (b==8) (Dt ((wr ((wr (r+1))+1))>a) (∃m4:Nat,m4<m1∧Inv8 (wr ((wr (r+1))+1)) (wr (i+1)) m4 I3 F3) (∃m5:Nat,m5<m1∧Inv8 a (wr (i+1)) m5 I3 F3)) (It (b==9) (Dt ((wr ((wr (r+1))+1))>a) (∃m6:Nat,m6<m1∧Inv8 (wr ((wr (r+1))+1)) (wr (i+1)) m6 I3 F3) (∃m7:Nat,m7<m1∧Inv8 a (wr (i+1)) m7 I3 F3)) (It (b==7) (Dt (i>0) (Dt ((wr ((wr (r+1))+1))>a) (∃m8:Nat,m8<m1∧Inv8 (wr ((wr (r+1))+1)) (wr (i+1)) m8 I3 F3) (∃m9:Nat,m9<m1∧Inv8 a (wr (i+1)) m9 I3 F3)) (Dt ((wr (r+1))>a) (∃u:Nat,u<m1∧Inv8 (wr (r+1)) (wr (i+1)) u I3 F3) (∃v:Nat,v<m1∧Inv8 a (wr (i+1)) v I3 F3))) (Dt ((wr (r+1))>a) (∃w:Nat,w<m1∧Inv8 (wr (r+1)) (wr (i+1)) w I3 F3) (∃x:Nat,x<m1∧Inv8 a (wr (i+1)) x I3 F3)))))) (It (b==5) (Dt ((wr (r+1))>a) (∃y:Nat,y<m1∧Inv8 (wr (r+1)) (wr (i+1)) y I3 F3) (∃z:Nat,z<m1∧Inv8 a (wr (i+1)) z I3 F3)) (It (b==8) (Dt ((wr (r+1))>a) (∃aa:Nat,aa<m1∧Inv8 (wr (r+1)) (wr (i+1)) aa I3 F3) (∃ab:Nat,ab<m1∧Inv8 a (wr (i+1)) ab I3 F3)) (It (b==9) (Dt ((wr (r+1))>a) (∃ac:Nat,ac<m1∧Inv8 (wr (r+1)) (wr (i+1)) ac I3 F3) (∃ae:Nat,ae<m1∧Inv8 a (wr (i+1)) ae I3 F3)) (It (b==7) (Dt (i>0) (Dt ((wr (r+1))>a) (∃af:Nat,af<m1∧Inv8 (wr (r+1)) (wr (i+1)) af I3 F3) (∃ag:Nat,ag<m1∧Inv8 a (wr (i+1)) ag I3 F3)) (Dt (r>a) (∃ah:Nat,ah<m1∧Inv8 r (wr (i+1)) ah I3 F3) (∃ai:Nat,ai<m1∧Inv8 a (wr (i+1)) ai I3 F3))) (Dt (r>a) (∃aj:Nat,aj<m1∧Inv8 r (wr (i+1)) aj I3 F3) (∃ak:Nat,ak<m1∧Inv8 a (wr (i+1)) ak I3 F3)))))))) (Q (.returned (vi a)) I1 F1))
theorem kN.vc{i j p r u:Int}{v:Bs}{d:OA}{e g:Nat}{w:Int}{I:cS}{F:cR}{Q:cU}(Inv8:Int→Int→Nat→cS→cR→Prop)(h:kN.V (fun b=>(b,Obj.cells #[.int .u8 i,.int .u8 j,.int .u8 p,.int .i64 r,.int .u8 u,.string v,.slice d e g,.int .i64 w] 64 (0,0))) (fun k o t n f s a l c q=>.agg #[.int .u8 k,.int .u8 o,.int .u8 t,.int .i64 n,.int .u8 f,.string s,.slice a l c,.int .i64 q]) (.int .u8) (.int .i64) (IntKind.wrap .i64) i j p r u v d e g w I F Q Inv8):cV P 131 #[.agg #[.int .u8 i,.int .u8 j,.int .u8 p,.int .i64 r,.int .u8 u,.string v,.slice d e g,.int .i64 w]] I F Q :=
 tw (A:=(eM [3004,7000,9002,9006,9011,9016,9019,11002] [] [131,147] mi [(8,⟨[(3,(.int .i64)),(4,(.int .i64))],[],fun _ _ _ vs m I F=>match vs with | [.int _ y0,.int _ y1]=>Inv8 y0 y1 m I F | _=>False,[],[]⟩)] [] [] [] [] [] [])) [131,147] func131 h
def iu.V(a:Nat→Nat×Obj)(nV:Int→Int→Int→Int→Int→Bs→OA→Nat→Nat→Int→Value)(vi:Int→Value)(f g h i j:Int)(k:Bs)(b:OA)(c d:Nat)(l:Int)(I:cS)(F:cR)(Q:cU)  : Prop:=∀e:Nat,fp P 119 #[nV f g h i j k b c d l] I ((a e)::·) F .bool fun r I1 F1=>(It (!r) (Q (.returned (vi 120)) I1 F1) (fp P 131 #[nV f g h i j k b c d l] I1 ((a e)::·) F1 vi fun r1 I2 F2=>(Dt (r1>24) (Q (.returned (vi 122)) I2 F2) (Q (.returned (vi 0)) I2 F2))))
theorem iu.vc{i j m p r:Int}{u:Bs}{d:OA}{e g:Nat}{v:Int}{I:cS}{F:cR}{Q:cU}  (h:iu.V (fun b=>(b,Obj.cells #[.int .u8 i,.int .u8 j,.int .u8 m,.int .i64 p,.int .u8 r,.string u,.slice d e g,.int .i64 v] 64 (0,0))) (fun k o t n f s a l c q=>.agg #[.int .u8 k,.int .u8 o,.int .u8 t,.int .i64 n,.int .u8 f,.string s,.slice a l c,.int .i64 q]) (.int .i64) i j m p r u d e g v I F Q):cV P 120 #[.agg #[.int .u8 i,.int .u8 j,.int .u8 m,.int .i64 p,.int .u8 r,.string u,.slice d e g,.int .i64 v]] I F Q :=
 tw (A:=(an [2001,4002] [119,131] mi)) [119,131] func120 h
end Go.Lx
namespace Go.Lx
open Go.Vc
def zB(o ty n f:Int)(s:ByteArray):Bool:=o==0&&(ty==0&&(n==0&&(f==0&&(s.toList==(⟨#[]⟩:ByteArray).toList))))
theorem qe(k o ty n f:Int)(s:ByteArray)(a:Option Addr)(l c:Nat)(q:Int)(I:cS)(F:cR) :
  cV P 146 #[.agg #[.int .u8 k,.int .u8 o,.int .u8 ty,.int .i64 n,.int .u8 f,.string s,.slice a l c,.int .i64 q]] I F (jg (.bool (zB o ty n f s)) F):=by
 refine mj.vc ?_
 unfold mj.V
 intro b_n
 unfold zB
 refine⟨fun h=>⟨fun h1=>⟨fun h2=>⟨fun h3=>⟨?_,rfl⟩,fun h3=>⟨?_,rfl⟩⟩,fun h2=>⟨?_,rfl⟩⟩,fun h1=>⟨?_,rfl⟩⟩,fun h=>⟨?_,rfl⟩⟩<;>simp[*]
theorem uT(t:Nd)(I:cS)(F:cR):cV P 145 #[t.v] I F (jg (.bool (t.px.A1&&(zB t.oper 0 0 t.field t.name&&decide (t.kids.length=0)))) F):=by
 refine jC.vc (fun ok I' F'=>ok=t.px.A1∧F'=F) ?_
 unfold jC.V
 intro b_n
 unfold Px.A1
 rw[Nd.uQ,Nd.Ds]
 refine⟨⟨fun h=>⟨?_,rfl⟩,fun h1=>⟨fun h=>⟨?_,rfl⟩,fun h2=>⟨fun h=>⟨?_,rfl⟩,fun h3=>⟨fun h=>⟨?_,rfl⟩,fun h4=>⟨fun h=>⟨fun h'=>⟨?_,rfl⟩,fun h'=>⟨?_,rfl⟩⟩,fun h5=>⟨fun h=>⟨fun h'=>⟨?_,rfl⟩,fun h'=>⟨?_,rfl⟩⟩,fun h6=>⟨?_,rfl⟩⟩⟩⟩⟩⟩⟩,fun ok I1 F1 hI ⟨g1,gF⟩=>?_⟩
 ·have h:t.dJ=1:=by simpa using h
  simp[h]
 ·have h:t.dJ=2:=by simpa using h
  simp[h]
 ·have h:t.dJ=3:=by simpa using h
  simp[h]
 ·have h:t.dJ=4:=by simpa using h
  simp[h]
 ·have h:t.dJ=5:=by simpa using h
  have h':t.n=0:=by simpa using h'
  simp[h,h']
 ·have h:t.dJ=5:=by simpa using h
  have h':t.n≠0:=by simpa using h'
  rw[if_neg (by omega),if_pos h,Bool.eq_iff_iff];simp[h']
 ·have h:t.dJ=6:=by simpa using h
  have h':t.n=1:=by simpa using h'
  simp[h,h']
 ·have h:t.dJ=6:=by simpa using h
  have h':t.n≠1:=by simpa using h'
  rw[if_pos h,Bool.eq_iff_iff];simp[h']
 ·have e1:t.dJ≠1:=by simpa using h1
  have e2:t.dJ≠2:=by simpa using h2
  have e3:t.dJ≠3:=by simpa using h3
  have e4:t.dJ≠4:=by simpa using h4
  have e5:t.dJ≠5:=by simpa using h5
  have e6:t.dJ≠6:=by simpa using h6
  rw[if_neg e6,if_neg e5,if_neg (by omega)]
 ·subst gF
  rw[←g1]
  refine⟨fun h=>cV.ret (qe t.kind t.oper 0 0 t.field t.name t.a t.kids.length t.c t.pos I1 _) fun I2 h2=>⟨_,rfl,F1,.refl _,fun h'=>⟨?_,rfl⟩,fun h'=>⟨?_,rfl⟩⟩,fun h=>⟨?_,rfl⟩⟩
  ·rw[h,h'];congr 2;rw[Bool.eq_iff_iff];simp
  ·rw[h'];simp
  ·rw[h];simp
theorem A6(t:Nd)(I:cS)(F:cR):cV P 130 #[t.v] I F (jg (.bool t.px.iK) F):=by
 refine nM.vc (fun x kids ok k o ty n f s a l c q I' F'=>(ok&&(zB o ty n f s&&decide (l=kids.toNat)))=t.px.iK∧0≤kids∧F'=F) ?_
 unfold nM.V
 intro b_n
 unfold Px.iK Px.wi Px.qE Px.arity
 simp only[Nd.jB,Nd.pt,Nd.uQ,Nd.Ds,Nd.wh,Nd.yN,Nd.Du]
 refine⟨⟨fun h=>?_,fun h1=>⟨fun h=>?_,fun h2=>⟨fun h=>⟨fun h'=>⟨?_,by decide,by trivial⟩,fun h'=>⟨?_,by decide,by trivial⟩⟩,fun h3=>⟨fun h=>⟨fun h'=>⟨?_,by decide,by trivial⟩,fun h'=>⟨?_,by decide,by trivial⟩⟩,fun h4=>⟨fun h=>⟨fun h'=>⟨?_,by decide,by trivial⟩,fun h'=>⟨?_,by decide,by trivial⟩⟩,
  fun h5=>⟨fun h=>⟨fun h'=>⟨?_,by decide,by trivial⟩,fun h'=>⟨?_,by decide,by trivial⟩⟩,fun h6=>⟨fun h=>⟨?_,by decide,by trivial⟩,fun h7=>⟨fun h=>⟨fun h'=>⟨fun h''=>⟨?_,by decide,by trivial⟩,fun h''=>⟨?_,by decide,by trivial⟩⟩,fun h'=>⟨fun h''=>⟨?_,by decide,by trivial⟩,fun h''=>⟨?_,by decide,by trivial⟩⟩⟩,fun h8=>⟨fun h=>⟨fun h'=>⟨?_,by decide,by trivial⟩,fun h'=>⟨?_,by decide,by trivial⟩⟩,fun h9=>⟨?_,by decide,by trivial⟩⟩⟩⟩⟩⟩⟩⟩⟩⟩,fun x kids ok k o ty n f s a l c q I3 F3 hI ⟨g1,gk,gF⟩=>?_⟩
 ·refine cV.ret (uT t I _) fun I2 h2=>⟨_,rfl,F,.refl _, ?_,by trivial⟩
  have hk:t.kind=1:=by simpa using h
  simp[hk,zB,eE,Bool.and_assoc]
 ·refine cV.ret (jt I _) fun I2 h2=>⟨_,rfl,F,.refl _, ?_,by decide,by trivial⟩
  have hk:t.kind=2:=by simpa using h
  simp[hk,zB,eE,Bool.and_assoc]
 all_goals first
  | (subst gF
     rw[←g1]
     refine⟨fun h=>cV.ret (qe k o ty n f s a l c q I3 _) fun I2 h2=>⟨_,rfl,F3,.refl _,fun h'=>⟨?_,by trivial⟩,fun h'=>⟨?_,by trivial⟩⟩,fun h=>⟨?_,by trivial⟩⟩
     ·rw[h,h'];congr 2;rw[Bool.eq_iff_iff];simp;omega
     ·rw[h'];simp
     ·rw[h];simp)
  | (simp only[beq_iff_eq] at h
     try simp only[decide_eq_true_eq,decide_eq_false_iff_not,beq_iff_eq,beq_eq_false_iff_ne] at h'
     try simp only[decide_eq_true_eq,decide_eq_false_iff_not,beq_iff_eq,beq_eq_false_iff_ne] at h''
     simp[*,zB,eE,Bool.and_assoc]
     done)
  | skip
 ·have h:t.kind=5:=by simpa using h
  have h':t.oper≠1:=by simpa using h'
  have:decide (t.oper=1∨t.oper=2)=(t.oper==2):=by rw[Bool.eq_iff_iff];simp[h']
  simp[h,this,zB,eE,Bool.and_assoc]
 ·exfalso
  have h':=of_decide_eq_false h'
  have h'':t.oper=3:=by simpa using h''
  omega
 ·have e1:t.kind≠1:=by simpa using h1
  have e2:t.kind≠2:=by simpa using h2
  have e3:t.kind≠3:=by simpa using h3
  have e4:t.kind≠4:=by simpa using h4
  have e5:t.kind≠5:=by simpa using h5
  have e6:t.kind≠6:=by simpa using h6
  have e7:t.kind≠7:=by simpa using h7
  have e8:t.kind≠8:=by simpa using h8
  have e9:t.kind≠9:=by simpa using h9
  simp[e1,e2,e3,e4,e5,e6,e7,e8,e9]
theorem jH:∀(t:Nd),t.px.size≤1048576→∀(I:cS) (F:cR),fR I F t→cV P 119 #[t.v] I F (jg (.bool t.px.formed) F):=by
 refine Nd.ind fun t ih hs I F ht=>?_
 have hln:=wB hs
 refine jS.vc (fun ok i m I' F'=>0≤i∧i≤t.kids.length∧m=(t.kids.length-i).toNat∧t.px.formed=(ok&&Px.iq ((t.kids.drop i.toNat).map Nd.px))∧F'=F) ?_
 unfold jS.V
 intro b_n
 refine cV.ret (A6 t I _) fun I1 hI1=>⟨_,rfl,F,.refl _,⟨_,by omega,by omega,rfl, ?_,rfl⟩,fun ok i m I2 F2 hI ⟨g0,g1,gm,gf,gF⟩=>⟨fun hlt=>⟨fun hok=>?_,fun hok=>⟨?_,gF⟩⟩,fun hlt=>⟨?_,gF⟩⟩⟩
 ·rw[Px.gT,Nd.im];rfl
 ·have hlt:=of_decide_eq_true hlt
  subst gF
  obtain⟨ad,x,had,hx,hrd,hxo,hxm⟩:=((ht.mono (cS.le_trans hI1 hI) fun _ h=>h).cons (x:=(b_n,.cells t.enc.toArray 64 (0,0)))).kids.at g0 hlt
  refine⟨⟨g0,hlt⟩,ad,had,_,_,_,_,_,_,_,_,_,_,hrd,cV.ret (ih x hxm (wA hxm hs) I2 _ hxo) fun I3 hI3=>⟨_,rfl,F2,.refl _,(t.kids.length-(i+1)).toNat,by omega, ?_⟩⟩
  rw[gN (n:=i+1) (by omega)]
  refine⟨by omega,by omega,rfl, ?_,rfl⟩
  rw[gf,hok,wv hx,Px.iq,show (i+1).toNat=i.toNat+1 by omega];rfl
 ·rw[gf,hok];rfl
 ·have hlt:=of_decide_eq_false hlt
  rw[gf,wz (by omega),Px.iq,Bool.and_true]
theorem qF(t:Nd)(I:cS)(F:cR):cV P 153 #[t.v] I F (jg (.int .i64 t.px.level) F):=by
 refine kM.vc ?_
 unfold kM.V
 intro b_n
 unfold Px.level
 rw[Nd.jB,Nd.pt]
 refine⟨fun h=>⟨?_,rfl⟩,fun h1=>⟨fun h=>⟨?_,rfl⟩,fun h2=>⟨fun h=>⟨fun h'=>⟨?_,rfl⟩,fun h3=>⟨fun h'=>⟨?_,rfl⟩,fun h4=>⟨fun h'=>⟨?_,rfl⟩,fun h5=>⟨fun h'=>⟨?_,rfl⟩,fun h6=>⟨?_,rfl⟩⟩⟩⟩⟩,fun h=>⟨?_,rfl⟩⟩⟩⟩
 all_goals (try simp only[decide_eq_true_eq,decide_eq_false_iff_not,beq_iff_eq,beq_eq_false_iff_ne] at *)
 all_goals (congr 2;(repeat' split)<;>first | rfl | omega)
theorem wC(x:Px):1≤x.level∧x.level≤8:=by
 unfold Px.level;(repeat' split)<;>omega
theorem zO(t:Nd)(i:Int)(h0:0≤i)(h1:i≤1048576)(I:cS)(F:cR):cV P 154 #[t.v,.int .i64 i] I F (jg (.int .i64 (t.px.asks i)) F):=by
 refine ml.vc ?_
 unfold ml.V
 intro b_n
 have hr:=wC t.px
 refine cV.ret (qF t I _) fun I1 hI1=>⟨_,rfl,F,.refl _, ?_⟩
 unfold Px.asks
 rw[Nd.jB]
 refine⟨fun h=>⟨fun h'=>⟨?_,rfl⟩,fun h'=>⟨?_,rfl⟩⟩,fun h1=>⟨fun h=>⟨?_,rfl⟩,fun h2=>⟨fun h=>⟨fun h'=>⟨?_,rfl⟩,fun h'=>⟨?_,rfl⟩⟩,fun h=>⟨?_,rfl⟩⟩⟩⟩
 all_goals (try simp only[decide_eq_true_eq,decide_eq_false_iff_not,beq_iff_eq,beq_eq_false_iff_ne] at *)
 all_goals (congr 2;(repeat' split)<;>first | rfl | omega | (rw[gN (by omega)]))
theorem sw(t x:Nd){i:Int}(h0:0≤i)(h1:i<t.kids.length)(h2:t.kids[i.toNat]? = some x)(h3:(t.kids.length:Int)≤1048576)(I:cS)(F:cR)(ht:fR I F t) :
  cV P 147 #[t.v,.int .i64 i] I F (jg (.bool (decide (x.px.level<t.px.asks i))) F):=by
 refine ir.vc ?_
 unfold ir.V
 intro b_n
 obtain⟨ad,y,had,hy,hrd,hyo,hym⟩:=(ht.cons (x:=(b_n,.cells t.enc.toArray 64 (0,0)))).kids.at h0 h1
 obtain rfl:x=y:=by rw[h2] at hy;exact Option.some.inj hy
 exact⟨⟨h0,h1⟩,ad,had,_,_,_,_,_,_,_,_,_,_,hrd,_,(qF x I _).CV,_,(zO t i h0 (by omega) I _).CV,rfl,rfl⟩
theorem Px.xV{x:Px}(h:x.formed=true):∀k∈x.kids,k.formed=true:=by
 have hL:∀l:List Px,Px.iq l=true→∀k∈l,k.formed=true:=by
  intro l
  induction l with
  | nil=>intro _ k hk;cases hk
  | cons y r ih =>
    intro h k hk
    rw[Px.iq,Bool.and_eq_true] at h
    rcases List.mem_cons.1 hk with rfl | hk
    ·exact h.1
    ·exact ih h.2 k hk
 rw[Px.gT,Bool.and_eq_true] at h
 exact hL _ h.2
theorem Px.wE{x:Px}(h:x.formed=true)(hk:x.kids≠[]):5≤x.kind∧x.kind≤9:=by
 rw[Px.gT,Bool.and_eq_true] at h
 have h1:=h.1
 unfold Px.iK at h1
 simp only[Bool.and_eq_true,decide_eq_true_eq] at h1
 have h2:=h1.2
 have h3:0<x.kids.length:=List.length_pos_iff.2 hk
 unfold Px.arity at h2
 (repeat' split at h2)<;>omega
theorem sx(x k:Px)(i:Int):0≤x.oJ k i∧x.oJ k i≤2:=by
 unfold Px.oJ;(repeat' split)<;>omega
theorem wF:∀x:Px,0≤x.depth∧x.depth≤2*x.size:=by
 have hL:∀(t:Px) (l:List Px),(∀x∈l,0≤Px.depth x∧Px.depth x≤2*Px.size x)→∀(i most:Int),0≤most→0≤Px.fX t i l most∧Px.fX t i l most≤max most (2*Px.fI l+2):=by
  intro t l
  induction l with
  | nil=>intro _ i most h;rw[Px.fX,Px.fI];omega
  | cons x r ih =>
    intro hx i most h
    have h1:=hx x (List.mem_cons_self ..)
    have h2:=sx t x i
    have h3:=ih (fun y hy=>hx y (List.mem_cons_of_mem _ hy)) (i+1) (max most (Px.depth x+t.oJ x i)) (by omega)
    have h4:=Px.jQ r
    have h5:=Px.size_pos x
    rw[Px.fX,Px.fI]
    omega
 refine Px.ind fun x h=>?_
 have:=hL x x.kids h 0 0 (by omega)
 have h4:=Px.jQ x.kids
 rw[Px.kj,Px.size_eq]
 omega
theorem wG:∀(t:Nd),t.px.size≤1048576→t.px.formed=true→∀(I:cS) (F:cR),fR I F t→cV P 131 #[t.v] I F (jg (.int .i64 t.px.depth) F):=by
 refine Nd.ind fun t ih hs hf I F ht=>?_
 have hln:=wB hs
 refine kN.vc (fun most i m I' F'=>0≤i∧i≤t.kids.length∧m=(t.kids.length-i).toNat∧0≤most∧most≤4194304∧t.px.depth=Px.fX t.px i ((t.kids.drop i.toNat).map Nd.px) most∧F'=F) ?_
 unfold kN.V
 intro b_n
 refine⟨⟨_,by omega,by omega,rfl,by omega,by omega, ?_,rfl⟩,fun most i m I1 F1 hI ⟨g0,g1,gm,g2,g3,gf,gF⟩=>⟨fun hlt=>?_,fun hlt=>⟨?_,gF⟩⟩⟩
 ·rw[Px.kj,Nd.im];rfl
 ·have hlt:=of_decide_eq_true hlt
  subst gF
  have ht1:fR I1 ((b_n,.cells t.enc.toArray 64 (0,0))::F1) t:=(ht.mono hI fun _ h=>h).cons
  obtain⟨ad,x,had,hx,hrd,hxo,hxm⟩:=ht1.kids.at g0 hlt
  have hxp:x.px∈t.px.kids:=by rw[Nd.im];exact List.mem_map_of_mem hxm
  have hkd:=Px.wE hf (fun e=>by rw[e] at hxp;cases hxp)
  rw[Nd.jB] at hkd
  have hdr:=wF x.px
  have hsz:=wA hxm hs
  refine⟨⟨g0,hlt⟩,ad,had,_,_,_,_,_,_,_,_,_,_,hrd,cV.ret (ih x hxm hsz (Px.xV hf _ hxp) I1 _ hxo) fun I2 hI2=>⟨_,rfl,F1,.refl _,
   cV.ret (sw t x g0 hlt hx (by omega) I2 _ (ht1.mono hI2 fun _ h=>h)) fun I3 hI3=>⟨_,rfl,F1,.refl _, ?_⟩⟩⟩
  have key:∀D:Int,D=x.px.depth+t.px.oJ x.px i →
    (decide (D>most)=true→∃m2:Nat,m2<m∧(0≤IntKind.wrap .i64 (i+1)∧IntKind.wrap .i64 (i+1)≤t.kids.length∧m2=(t.kids.length-IntKind.wrap .i64 (i+1)).toNat∧0≤D∧D≤4194304 ∧
      t.px.depth=Px.fX t.px (IntKind.wrap .i64 (i+1)) ((t.kids.drop (IntKind.wrap .i64 (i+1)).toNat).map Nd.px) D∧F1=F1)) ∧
    (decide (D>most)=false→∃m2:Nat,m2<m∧(0≤IntKind.wrap .i64 (i+1)∧IntKind.wrap .i64 (i+1)≤t.kids.length∧m2=(t.kids.length-IntKind.wrap .i64 (i+1)).toNat∧0≤most∧most≤4194304 ∧
      t.px.depth=Px.fX t.px (IntKind.wrap .i64 (i+1)) ((t.kids.drop (IntKind.wrap .i64 (i+1)).toNat).map Nd.px) most∧F1=F1)):=by
   intro D hD
   have har:=sx t.px x.px i
   rw[gN (n:=i+1) (by omega)]
   rw[wv hx,Px.fX,←hD] at gf
   refine⟨fun h=>⟨(t.kids.length-(i+1)).toNat,by omega,by omega,by omega,rfl,by omega,by omega, ?_,rfl⟩,fun h=>⟨(t.kids.length-(i+1)).toNat,by omega,by omega,by omega,rfl,by omega,by omega, ?_,rfl⟩⟩
   ·have h:=of_decide_eq_true h
    rw[gf,show max most D=D by omega,show (i+1).toNat=i.toNat+1 by omega]
   ·have h:=of_decide_eq_false h
    rw[gf,show max most D=most by omega,show (i+1).toNat=i.toNat+1 by omega]
  have e1:IntKind.wrap .i64 (x.px.depth+1)=x.px.depth+1:=gN (by omega)
  have e2:IntKind.wrap .i64 (x.px.depth+1+1)=x.px.depth+1+1:=gN (by omega)
  rw[e1,e2]
  unfold Px.oJ at key
  rw[Nd.jB] at key
  refine⟨fun hb=>⟨fun h=>key _ ?_,fun h1=>⟨fun h=>key _ ?_,fun h2=>⟨fun h=>key _ ?_,fun h3=>⟨fun h=>⟨fun hi=>key _ ?_,fun hi=>key _ ?_⟩,fun h4=>key _ ?_⟩⟩⟩⟩,
   fun hb=>⟨fun h=>key _ ?_,fun h1=>⟨fun h=>key _ ?_,fun h2=>⟨fun h=>key _ ?_,fun h3=>⟨fun h=>⟨fun hi=>key _ ?_,fun hi=>key _ ?_⟩,fun h4=>key _ ?_⟩⟩⟩⟩⟩
  all_goals clear key gf
  all_goals (simp only[decide_eq_true_eq,decide_eq_false_iff_not,beq_iff_eq,beq_eq_false_iff_ne] at *)
  all_goals ((repeat' split)<;>omega)
 ·have hlt:=of_decide_eq_false hlt
  rw[gf,wz (by omega),Px.fX]
def Px.fk(x:Px):Int:=if x.formed then (if 24<x.depth then 122 else 0) else 120
theorem mO(t:Nd)(hs:t.px.size≤1048576)(I:cS)(F:cR)(ht:fR I F t):cV P 120 #[t.v] I F (jg (.int .i64 t.px.fk) F):=by
 refine iu.vc ?_
 unfold iu.V
 intro b_n
 unfold Px.fk
 refine cV.ret (jH t hs I _ ht.cons) fun I1 hI1=>⟨_,rfl,F,.refl _,fun h=>⟨?_,rfl⟩,fun h=>cV.ret (wG t hs (by simpa using h) I1 _ (ht.mono hI1 fun _ h=>h).cons) fun I2 hI2=>⟨_,rfl,F,.refl _,fun h'=>⟨?_,rfl⟩,fun h'=>⟨?_,rfl⟩⟩⟩
 ·rw[if_neg (by simpa using h)]
 ·rw[if_pos (by simpa using h),if_pos (of_decide_eq_true h')]
 ·rw[if_pos (by simpa using h),if_neg (of_decide_eq_false h')]
theorem _root_.Go.Vc.iM.of{P:Program}{f:FuncId}{args:List Value}{I:cS}{F:cR}{Q:Ending→cS→cR→Prop}(he:dC P f)(h:cV P f args.toArray I F Q):iM P (.func (.func f) #[] #[]) args I F Q :=
 fun w hw=>.inl ⟨f,#[],#[],rfl,he,by rw[show (#[]:Array Value)++args.toArray++#[]=args.toArray by simp];exact h w hw⟩
def _root_.Go.Vc.Row.v(r:Row):Value:=.slice r.a r.n r.c
mutual
def Nd.nodes:Nd→List Nd
 | .mk k o t n f s a c l q=>.mk k o t n f s a c l q::Nd.iR l
def Nd.iR:List Nd→List Nd
 | []=>[]
 | x::r=>Nd.nodes x++Nd.iR r
end
theorem Nd.pw(t:Nd):t.nodes=t::Nd.iR t.kids:=by cases t;rw[Nd.nodes];rfl
theorem A7:∀t:Nd,t.nodes.map Nd.px=t.px.nodes:=by
 have hL:∀l:List Nd,(∀x∈l,(Nd.nodes x).map Nd.px=x.px.nodes)→(Nd.iR l).map Nd.px=Px.iR (l.map Nd.px):=by
  intro l
  induction l with
  | nil=>intro _;rfl
  | cons x r ih =>
    intro h
    rw[Nd.iR,List.map_append,List.map_cons,Px.iR,h x (List.mem_cons_self ..),ih fun y hy=>h y (List.mem_cons_of_mem _ hy)]
 refine Nd.ind fun t h=>?_
 rw[Nd.pw,Px.pw,List.map_cons,hL t.kids h,Nd.im]
theorem fR.nodes{I:cS}{G:cR}:∀{t:Nd},fR I G t→∀x∈t.nodes,fR I G x:=by
 refine @(Nd.ind fun t ih h x hx=>?_)
 rw[Nd.pw] at hx
 rcases List.mem_cons.1 hx with rfl | hx
 ·exact h
 ·have hL:∀l:List Nd,(∀k∈l,∀x∈k.nodes,fR I G x)→∀x∈Nd.iR l,fR I G x:=by
   intro l
   induction l with
   | nil=>intro _ x h;rw[Nd.iR] at h;cases h
   | cons y r ihl =>
     intro hk x h
     rw[Nd.iR] at h
     rcases List.mem_append.1 h with h | h
     ·exact hk y (List.mem_cons_self ..) x h
     ·exact ihl (fun k hk'=>hk k (List.mem_cons_of_mem _ hk')) x h
  exact hL _ (fun k hk=>ih k hk (h.Ed k hk)) x hx
def Ep(l:List ByteArray)(s:ByteArray):Bool:=l.any fun y=>decide (y=s)
def Px.Fit(x:Px):Prop:=(0≤x.kind∧x.kind≤255)∧(0≤x.oper∧x.oper≤255)∧(0≤x.dJ∧x.dJ≤255)∧(-9223372036854775808≤x.n∧x.n≤9223372036854775807)∧(0≤x.field∧x.field≤255)∧(-9223372036854775808≤x.pos∧x.pos≤9223372036854775807)
def Px.Wf(x:Px):Prop:=∀y∈x.nodes,y.Fit
theorem Wf.nd{t:Nd}(h:t.px.Wf):∀x∈t.nodes,x.px.Fit:=fun x hx=>h _ (by rw[←A7];exact List.mem_map_of_mem hx)
end Go.Lx
namespace Go.Vc
end Go.Vc
namespace Go.Lx
open Go.Vc
end Go.Lx
namespace Go.Vc
def mP:FrameMode→Value→FrameMode→Prop
 | .returning,v,u=>v=.nilIface∧u=.returning
 | .panicking ({ v:=x,recovered:=false,goexit:=false }::older),v,u=>v=x∧u=.panicking ({ v:=x,recovered:=true }::older)
 | _,_,_=>False
theorem uc:mP .returning .nilIface .returning:=⟨rfl,rfl⟩
theorem ud(v:Value):mP (.panicking [{ v:=v,recovered:=false }]) v (.panicking [{ v:=v,recovered:=true }]):=⟨rfl,rfl⟩
def Dx(o:Oper):Bool:=match o.op,o.guard with
 | .call { callee:=.builtin .recover,args:=_,argTypes:=_ },none=>true
 | _,_=>false
theorem mP.at{c:Frame}{cs:List Frame}{u u1:FrameMode}{v:Value}(hu:c.mode=u)(h:mP u v u1) :
  recoverD (c::cs)=some (v,{ c with mode:=u1 }::cs)∨(recoverD (c::cs)=none∧v=.nilIface∧{ c with mode:=u1 }::cs=c::cs):=by
 subst hu
 unfold mP at h
 split at h
 ·rename_i hm
  obtain⟨h1,h2⟩:=h
  refine .inr ⟨by simp[recoverD,hm],h1, ?_⟩
  subst h2
  rw[←hm]
 ·rename_i hm
  obtain⟨h1,h2⟩:=h
  subst h1 h2
  exact .inl (by simp[recoverD,hm])
 ·exact h.elim
theorem zP{P:Program}{id:Nat}{ops:Array Oper}{o:Oper}{r:List Oper}{Q:Exit→Act→List Frame→World→Prop}{a:Act}{cs cs':List Frame}{w:World}{v:Value}(hl:ops.toList=o::r)(ho:Dx o=true)
  (hrec:recoverD cs=some (v,cs')∨(recoverD cs=none∧v=.nilIface∧cs'=cs)) (h:wpListIn Fence.wide 0 P ops (fun e a' w'=>Q e a' cs' w') r (a.put o.dst v) w) :
  (Code.region id ops false).wpSIn Fence.wide 0 P Q a cs w:=by
 intro b k hb hr hF hroom
 have hsz:ops.size=r.length+1:=by rw[←Array.length_toList,hl];rfl
 have h0:ops[0]? = some o:=by rw[←Array.getElem?_toList,hl];rfl
 have hrest:∀j,r[j]? = ops[1+j]?:=fun j=>by rw[←Array.getElem?_toList,hl,Nat.add_comm];rfl
 rw[←wpOpsIn_eq_wpListIn r 1 hrest] at h
 have hex:∀ci,o.op=.call ci→True:=fun _ _=>trivial
 have hop:∃ci,o.op=.call ci∧ci.callee=.builtin .recover∧o.guard=none:=by
  unfold Dx at ho
  split at ho
  ·rename_i h1 h2;exact⟨_,h1,rfl,h2⟩
  ·cases ho
 obtain⟨ci,hci,hcal,hgd⟩:=hop
 have hw:Region.wanted o (yielded ops a.tmps)=true:=by unfold Region.wanted;rw[hgd]
 have hrun:(execOp a.eval o).run P w=.ok .recover w:=by
  obtain⟨cal,args,tys⟩:=ci
  simp only at hcal
  subst hcal
  simp only[execOp,hci]
  rfl
 have hlen:cs'.length=cs.length:=by
  rcases hrec with hrec | ⟨_,_,rfl⟩
  ·exact recoverD_length hrec
  ·rfl
 obtain⟨e,a',w',q,harr⟩:=wp_opsIn _ _ _ h b k cs' (hr.trans rfl) hF (hlen▸hroom)
 refine⟨e,a',cs',w',hlen,q,.of_steps (.one (fenced_calm hF hroom rfl) stepR_region) ?_⟩
 rw[List.range_eq_range',hsz,List.range'_succ]
 have hg:=stepGR_op (P:=P) (b:=b) (k:=k) (cs:=cs) (w:=w) (rest:=List.range' (0+1) r.length) h0 hw
 rw[hr,Oper.semAt_none] at hg
 have hfin:∀v,(b.atR a (.inRegion ops (0::List.range' (0+1) r.length)::k)).finish v=b.atR (a.put o.dst v) (.inRegion ops (List.range' (0+1) r.length)::k):=by
  intro v;rw[Frame.finish_atR,h0];rfl
 have hk:(b.atR a (.inRegion ops (0::List.range' (0+1) r.length)::k)).kind=.deferred:=hb
 have htr:=tryRecover_deferred hk cs
 refine .of_steps (.one (fenced_oper hF hroom h0 fun f _=>trivial) (step_lone_go ?_)) harr
 rw[hg,←hfin]
 simp only[Frame.atR,hr] at htr ⊢
 rcases hrec with hrec | ⟨hrec,rfl,rfl⟩
 ·simp[stepG.apply,hrun,htr,hrec]
 ·simp[stepG.apply,hrun,htr,hrec]
def wH(P:Program)(rs:List ResultVar)(keep:List Nat)(Q:Ending→cS→cR→Prop)(u:Option (List PanicEntry))(σ:S)(I:cS)(F:cR):Prop:=match σ.df with
 | []=>match u with
   | none=>(match oI P σ rs with
     | some vs=>Q (.returned (xL vs)) I (dp (pick σ.own keep)++F)
     | none=>False)
   | some ch=>Q (.panicked ch) I (dp (pick σ.own keep)++F)
 | _=>False
def xW(P:Program)(rs:List ResultVar)(keep:List Nat)(Q:Ending→cS→cR→Prop):Kt
 | .normal,σ,I,F=>wH P rs keep Q none σ I F
 | .ret,σ,I,F=>wH P rs keep Q none σ I F
 | .panic ch,σ,I,F=>wH P rs keep Q (some ch) σ I F
 | _,_,_,_=>False
def Dy(P:Program)(A:n9)(v:Value)(rs:List ResultVar)(keep:List Nat)(Q:Ending→cS→cR→Prop)(σ:S)(I:cS)(F:cR):Code→Prop
 | .seq (.region id ops false) rest=>match ops.toList with
   | o::r=>cond (Dx o) (uB P A id ops r 1 (σ.put o.dst (some (.a (.v v)))) I F (W P A none rest 2 (xW P rs keep Q)) (fun ch=>xW P rs keep Q (.panic ch))) False
   | []=>False
 | _=>False
section
variable {P:Program} {A:n9}
theorem Er{fn:Func}{keep:List Nat}(hk:B0 0 keep=true){Q:Ending→cS→cR→Prop}{c0:Frame}{cs:List Frame}{u1:FrameMode}{R:Ending→FrameMode→World→Prop}{I0:cS}
  (hR:∀e I' F' w',cS.le I0 I'→Sat I' F' w'→Q e I' F'→R e u1 w') {e:Exit} {σ:S} {I:cS} {F:cR} {a:Act} {w:World} (hr:Rel σ I F a w) (hl:cS.le I0 I)
  (h:xW P fn.results.toList keep Q e σ I F):bodyPostS P fn c0 cs R e a ({ c0 with mode:=u1 }::cs) w:=by
 have hsub:Sat I (dp (pick σ.own keep)++F) w:=by
  have h5:=se keep 0 σ.own hk
  rw[List.drop_zero] at h5
  exact hr.sat.sub ((h5.map _).append (List.Sublist.refl F))
 have key:∀u,wH P fn.results.toList keep Q u σ I F→a.defers=[]∧match u with
   | none=>∃v,(results fn a.tmps).run P w=.ok v w∧Q (.returned v) I (dp (pick σ.own keep)++F)
   | some ch=>Q (.panicked ch) I (dp (pick σ.own keep)++F):=by
  intro u h
  unfold wH at h
  split at h
  ·rename_i hd
   refine⟨by rw[hr.defers,hd];rfl, ?_⟩
   cases u with
   | none =>
     simp only at h ⊢
     split at h
     ·rename_i vs hvs;exact⟨_,qC hr hvs,h⟩
     ·exact h.elim
   | some ch=>exact h
  ·exact h.elim
 cases e with
 | normal=>obtain⟨h1,v,h2,h3⟩:=key none h;exact⟨h1,u1,rfl,v,h2,hR _ _ _ _ hl hsub h3⟩
 | ret=>obtain⟨h1,v,h2,h3⟩:=key none h;exact⟨h1,u1,rfl,v,h2,hR _ _ _ _ hl hsub h3⟩
 | panic ch=>obtain⟨h1,h2⟩:=key (some ch) h;exact⟨h1,u1,rfl,hR _ _ _ _ hl hsub h2⟩
 | exit id=>exact h.elim
 | goto l=>exact h.elim
 | outgrown=>exact h.elim
theorem zQ(hP:∀f,A.good f=true→dC P f){f:FuncId}{fn:Func}{c:Code}(hf:P.funcs[f]? = some fn)(hb:fn.body=some c){args:List AV}{own:List dX}
  {I:cS} {F:cR} {keep:List Nat} {Q:Ending→cS→cR→Prop} (hk:B0 0 keep=true) (hwa:∀x∈args,AV.wf own x) (hwo:∀b∈own,∀x∈b.cells,AV.wf own x) {u u1:FrameMode} {v:Value} (hrec:mP u v u1)
  (h:Dy P A v fn.results.toList keep Q ⟨kK args fn.ntmps,own,[]⟩ I F c) {vs:List Value} (hv:vs=args.map AV.g):ie P f vs u I (dp own++F) fun e u' I' G=>u'=u1∧Q e I' G:=by
 subst hv
 intro w hw
 unfold Dy at h
 split at h
 ·rename_i id ops rest
  split at h
  ·rename_i o r hl
   obtain⟨ho,h⟩:=dj h
   refine callsDIn_of_wpSIn hf hb trivial fun c0 cs hu=>?_
   refine wpSIn_seq (zP hl ho (mP.at hu hrec) ?_)
   have hrel:Rel ⟨kK args fn.ntmps,own,[]⟩ I F { tmps:=(args.map AV.g).toArray++Array.replicate (fn.ntmps-(args.map AV.g).toArray.size) undef,defers:=[] } w:=by
    refine⟨by simp[kK], ?_,rfl, ?_, ?_,hw⟩
    ·intro t av ht
     simp only[kK,List.getElem?_append] at ht
     split at ht
     ·rename_i hlt
      simp only[List.getElem?_map] at ht
      cases ha:args[t]? with
      | none=>rw[ha] at ht;simp at ht
      | some x =>
        rw[ha] at ht
        simp only[Option.map_some,Option.some.injEq] at ht
        subst ht
        simp at hlt
        rw[Array.getElem?_append_left (by simpa using hlt)]
        simp[ha]
     ·rw[List.getElem?_replicate] at ht;split at ht<;>cases ht
    ·intro t av ht
     simp only[kK,List.getElem?_append] at ht
     split at ht
     ·simp only[List.getElem?_map] at ht
      cases ha:args[t]? with
      | none=>rw[ha] at ht;simp at ht
      | some x =>
        rw[ha] at ht
        simp only[Option.map_some,Option.some.injEq] at ht
        subst ht
        exact hwa _ (List.mem_of_getElem? ha)
     ·rw[List.getElem?_replicate] at ht;split at ht<;>cases ht
    ·exact fun i b hb' x hx=>hwo b (List.mem_of_getElem? hb') x hx
   have hrel2:=hrel.put o.dst (av:=.a (.v v)) (v:=v) rfl trivial
   refine kf (ro:=none) hP r 1 _ I F _ w (.inl rfl) h hrel2 ?_ ?_
   ·intro σ' I' F' a' w' h1 h2 h3 _
    refine wpSIn_of_wpIn rfl (wpIn_mono (yK hP rest 2 _ none none σ' I' F' a' w' rfl h3 h1) ?_)
    intro e a2 w2 ⟨σ2,I2,F2,g1,g2,g3,_⟩
    exact Er (fn:=fn) hk (fun e I3 F3 w3 hl3 hs3 hq3=>⟨I3,F3,hl3,hs3,rfl,hq3⟩) g1 (cS.le_trans h2 g2) g3
   ·intro ch σ' I' F' a' w' h1 h2 h3 _
    show bodyPostS P fn c0 cs (fun e u' w'=>∃I' F',I.le I'∧Sat I' F' w'∧u'=u1∧Q e I' F') (.panic ch) a' _ w'
    exact Er (fn:=fn) hk (e:=.panic ch) (fun e I3 F3 w3 hl3 hs3 hq3=>⟨I3,F3,hl3,hs3,rfl,hq3⟩) h1 h2 h3
  ·exact h.elim
 ·exact h.elim
theorem nN{f:FuncId}{fn:Func}{args:List AV}{own:List dX}{I:cS}{F:cR}{keep:List Nat}{Q:cU}{V:Prop}{u u1:FrameMode}{v:Value}(gd:List Nat)(hf:P.funcs[f]? = some fn)(hrec:mP u v u1)(h:V)
  (e:Dy P A v fn.results.toList keep Q ⟨kK args fn.ntmps,own,[]⟩ I F (fn.body.getD .skip)=V) (hg:A.good=ph gd) (hG:gd.all (sf P)=true) (hb:fn.body=some (fn.body.getD .skip)) (hk:B0 0 keep=true)
  (hwa:∀x∈args,AV.wf own x) (hwo:∀b∈own,∀x∈b.cells,AV.wf own x) {vs:List Value} (hv:vs=args.map AV.g):ie P f vs u I (dp own++F) fun e u' I' G=>u'=u1∧Q e I' G :=
 zQ (fun f hf'=>qD gd hG f (by rw[←hg];exact hf')) hf hb hk hwa hwo hrec (by rw[←e] at h;exact h) hv
end
end Go.Vc
namespace Go.Lx
open Go.Vc
end Go.Lx
namespace Go.Vc
theorem ie.mono{P:Program}{f:FuncId}{args:List Value}{u:FrameMode}{I:cS}{F:cR}{Q Q':Ending→FrameMode→cS→cR→Prop}(h:ie P f args u I F Q)(k:∀e u' I' G,cS.le I I'→Q e u' I' G→Q' e u' I' G):ie P f args u I F Q' :=
 fun w hw=>(h w hw).mono fun e u' w' ⟨I',F',h1,h2,h3⟩=>⟨I',F',h1,h2,k _ _ _ _ h1 h3⟩
end Go.Vc
namespace Go.Lx
open Go.Vc
end Go.Lx
namespace Go.Vc
open Go.MapKept
section
variable {P:Program} {κ β:Type} {d:TypeDesc} {key:κ→Value} {val:β→Value} {g:κ→Option β} {es:Array MapEntry} {clock:Nat} {t kt et:TypeId} {I:cS} {F:cR} {r:Nat} {k:κ} {z:Value}
variable [DecidableEq κ]
end
end Go.Vc
namespace Go.Vc
theorem B1.mono{P:Program}{s:Sem Unit}{I:cS}{F:cR}{Q Q':cS→cR→Prop}(h:B1 P s I F Q)(k:∀I' F',cS.le I I'→Q I' F'→Q' I' F'):B1 P s I F Q' :=
 fun w hw=>let ⟨w',I',F',hr,hl,hs,hq⟩:=h w hw;⟨w',I',F',hr,hl,hs,k _ _ hl hq⟩
end Go.Vc
namespace Go.Lx
open Go.Vc
def Fm(l:List ByteArray)(k:Nat)(g:ByteArray→Option Int):Prop:=∀s,(Ep l s=true→∃m,g s=some m∧1≤m∧m≤k)∧(Ep l s=false→g s=none)
theorem Fm.mono{l:List ByteArray}{k:Nat}{g:ByteArray→Option Int}(h:Fm l k g):Fm l (k+1) g:=fun s=>⟨fun hs=>let ⟨m,h1,h2,h3⟩:=(h s).1 hs;⟨m,h1,h2,by omega⟩,(h s).2⟩
structure eg where
 name:ByteArray
 dJ:Int
 init:Px
 pos:Int
structure dm where
 name:ByteArray
 pos:Int
structure fA where
 kind:Int
 order:Int
 name:ByteArray
 side:Px
 qty:Px
 price:Px
 value:Px
 pos:Int
structure ej where
 when:Px
 dos:List fA
 pos:Int
structure dt where
 name:ByteArray
 rules:List ej
 pos:Int
structure fm where
 name:ByteArray
 regs:List eg
 slots:List dm
 states:List dt
structure eW where
 name:ByteArray
 dJ:Int
 init:Nd
 pos:Int
structure gZ where
 kind:Int
 order:Int
 name:ByteArray
 side:Nd
 qty:Nd
 price:Nd
 value:Nd
 pos:Int
structure dy where
 when:Nd
 a:Option Addr
 c:Nat
 dos:List gZ
 pos:Int
structure di where
 name:ByteArray
 a:Option Addr
 c:Nat
 rules:List dy
 pos:Int
structure gy where
 name:ByteArray
 ra:Option Addr
 rc:Nat
 regs:List eW
 sa:Option Addr
 sc:Nat
 slots:List dm
 ta:Option Addr
 tc:Nat
 states:List di
def eW.p(r:eW):eg:=⟨r.name,r.dJ,r.init.px,r.pos⟩
def gZ.p(d:gZ):fA:=⟨d.kind,d.order,d.name,d.side.px,d.qty.px,d.price.px,d.value.px,d.pos⟩
def dy.p(r:dy):ej:=⟨r.when.px,r.dos.map gZ.p,r.pos⟩
def di.p(s:di):dt:=⟨s.name,s.rules.map dy.p,s.pos⟩
def gy.p(s:gy):fm:=⟨s.name,s.regs.map eW.p,s.slots,s.states.map di.p⟩
abbrev eW.enc(r:eW):List Value:=[.string r.name,.int .u8 r.dJ,.int .u8 r.init.kind,.int .u8 r.init.oper,.int .u8 r.init.dJ,.int .i64 r.init.n,.int .u8 r.init.field,.string r.init.name,.slice r.init.a r.init.kids.length r.init.c,.int .i64 r.init.pos,.int .i64 r.pos]
abbrev dm.enc(r:dm):List Value:=[.string r.name,.int .i64 r.pos]
abbrev gZ.enc(d:gZ):List Value:=[.int .u8 d.kind,.int .u8 d.order,.string d.name,.int .u8 d.side.kind,.int .u8 d.side.oper,.int .u8 d.side.dJ,.int .i64 d.side.n,.int .u8 d.side.field,.string d.side.name,.slice d.side.a d.side.kids.length d.side.c,.int .i64 d.side.pos,.int .u8 d.qty.kind,.int .u8 d.qty.oper,.int .u8 d.qty.dJ,.int .i64 d.qty.n,.int .u8 d.qty.field,.string d.qty.name,.slice d.qty.a d.qty.kids.length d.qty.c,.int .i64 d.qty.pos,.int .u8 d.price.kind,.int .u8 d.price.oper,.int .u8 d.price.dJ,.int .i64 d.price.n,.int .u8 d.price.field,.string d.price.name,.slice d.price.a d.price.kids.length d.price.c,.int .i64 d.price.pos,.int .u8 d.value.kind,.int .u8 d.value.oper,.int .u8 d.value.dJ,.int .i64 d.value.n,.int .u8 d.value.field,.string d.value.name,.slice d.value.a d.value.kids.length d.value.c,.int .i64 d.value.pos,.int .i64 d.pos]
abbrev dy.enc(r:dy):List Value:=[.int .u8 r.when.kind,.int .u8 r.when.oper,.int .u8 r.when.dJ,.int .i64 r.when.n,.int .u8 r.when.field,.string r.when.name,.slice r.when.a r.when.kids.length r.when.c,.int .i64 r.when.pos,.slice r.a r.dos.length r.c,.int .i64 r.pos]
abbrev di.enc(s:di):List Value:=[.string s.name,.slice s.a s.rules.length s.c,.int .i64 s.pos]
abbrev eW.v(r:eW):Value:=.agg #[.string r.name,.int .u8 r.dJ,.int .u8 r.init.kind,.int .u8 r.init.oper,.int .u8 r.init.dJ,.int .i64 r.init.n,.int .u8 r.init.field,.string r.init.name,.slice r.init.a r.init.kids.length r.init.c,.int .i64 r.init.pos,.int .i64 r.pos]
abbrev dm.v(r:dm):Value:=.agg #[.string r.name,.int .i64 r.pos]
abbrev gZ.v(d:gZ):Value:=.agg #[.int .u8 d.kind,.int .u8 d.order,.string d.name,.int .u8 d.side.kind,.int .u8 d.side.oper,.int .u8 d.side.dJ,.int .i64 d.side.n,.int .u8 d.side.field,.string d.side.name,.slice d.side.a d.side.kids.length d.side.c,.int .i64 d.side.pos,.int .u8 d.qty.kind,.int .u8 d.qty.oper,.int .u8 d.qty.dJ,.int .i64 d.qty.n,.int .u8 d.qty.field,.string d.qty.name,.slice d.qty.a d.qty.kids.length d.qty.c,.int .i64 d.qty.pos,.int .u8 d.price.kind,.int .u8 d.price.oper,.int .u8 d.price.dJ,.int .i64 d.price.n,.int .u8 d.price.field,.string d.price.name,.slice d.price.a d.price.kids.length d.price.c,.int .i64 d.price.pos,.int .u8 d.value.kind,.int .u8 d.value.oper,.int .u8 d.value.dJ,.int .i64 d.value.n,.int .u8 d.value.field,.string d.value.name,.slice d.value.a d.value.kids.length d.value.c,.int .i64 d.value.pos,.int .i64 d.pos]
abbrev dy.v(r:dy):Value:=.agg #[.int .u8 r.when.kind,.int .u8 r.when.oper,.int .u8 r.when.dJ,.int .i64 r.when.n,.int .u8 r.when.field,.string r.when.name,.slice r.when.a r.when.kids.length r.when.c,.int .i64 r.when.pos,.slice r.a r.dos.length r.c,.int .i64 r.pos]
abbrev di.v(s:di):Value:=.agg #[.string s.name,.slice s.a s.rules.length s.c,.int .i64 s.pos]
abbrev gy.enc(s:gy):List Value:=[.string s.name,.slice s.ra s.regs.length s.rc,.slice s.sa s.slots.length s.sc,.slice s.ta s.states.length s.tc]
abbrev gy.v(s:gy):Value:=.agg #[.string s.name,.slice s.ra s.regs.length s.rc,.slice s.sa s.slots.length s.sc,.slice s.ta s.states.length s.tc]
def eW.Ok(I:cS)(G:cR)(r:eW):Prop:=fR I G r.init
def gZ.Ok(I:cS)(G:cR)(d:gZ):Prop:=fR I G d.side∧fR I G d.qty∧fR I G d.price∧fR I G d.value
def dy.Ok(I:cS)(G:cR)(r:dy):Prop:=fR I G r.when∧pY I G 36 gZ.enc r.a r.dos.length r.dos∧∀d∈r.dos,d.Ok I G
def di.Ok(I:cS)(G:cR)(s:di):Prop:=pY I G 10 dy.enc s.a s.rules.length s.rules∧∀r∈s.rules,r.Ok I G
structure gy.Ok (I:cS) (G:cR) (s:gy):Prop where
 regs:pY I G 11 eW.enc s.ra s.regs.length s.regs
 kR:∀r∈s.regs,r.Ok I G
 slots:pY I G 2 dm.enc s.sa s.slots.length s.slots
 states:pY I G 3 di.enc s.ta s.states.length s.states
 state:∀x∈s.states,x.Ok I G
section
variable {I J:cS} {G H:cR}
theorem eW.Ok.mono{r:eW}(h:r.Ok I G)(hl:cS.le I J)(hs:∀x,x∈G→x∈H):r.Ok J H:=fR.mono h hl hs
theorem gZ.Ok.mono{d:gZ}(h:d.Ok I G)(hl:cS.le I J)(hs:∀x,x∈G→x∈H):d.Ok J H:=⟨h.1.mono hl hs,h.2.1.mono hl hs,h.2.2.1.mono hl hs,h.2.2.2.mono hl hs⟩
theorem dy.Ok.mono{r:dy}(h:r.Ok I G)(hl:cS.le I J)(hs:∀x,x∈G→x∈H):r.Ok J H:=⟨h.1.mono hl hs,h.2.1.mono hl hs,fun d hd=>(h.2.2 d hd).mono hl hs⟩
theorem di.Ok.mono{s:di}(h:s.Ok I G)(hl:cS.le I J)(hs:∀x,x∈G→x∈H):s.Ok J H:=⟨h.1.mono hl hs,fun r hr=>(h.2 r hr).mono hl hs⟩
theorem gy.Ok.mono{s:gy}(h:s.Ok I G)(hl:cS.le I J)(hs:∀x,x∈G→x∈H):s.Ok J H :=
 ⟨h.regs.mono hl hs,fun r hr=>(h.kR r hr).mono hl hs,h.slots.mono hl hs,h.states.mono hl hs,fun r hr=>(h.state r hr).mono hl hs⟩
theorem gy.Ok.cons{s:gy}(h:s.Ok I G){x:Nat×Obj}:s.Ok I (x::G):=h.mono (cS.le_refl I) fun _ h=>List.mem_cons_of_mem _ h
theorem dy.Ok.cons{s:dy}(h:s.Ok I G){x:Nat×Obj}:s.Ok I (x::G):=h.mono (cS.le_refl I) fun _ h=>List.mem_cons_of_mem _ h
theorem di.Ok.cons{s:di}(h:s.Ok I G){x:Nat×Obj}:s.Ok I (x::G):=h.mono (cS.le_refl I) fun _ h=>List.mem_cons_of_mem _ h
theorem gZ.Ok.cons{s:gZ}(h:s.Ok I G){x:Nat×Obj}:s.Ok I (x::G):=h.mono (cS.le_refl I) fun _ h=>List.mem_cons_of_mem _ h
end
def fA.Fb(d:fA):List Px:=[d.side,d.qty,d.price,d.value]
def fJ(b:Bool)(n:Int):Int:=if b then 0 else n
def dg(a b:Int):Int:=if a=0 then b else a
def Px.wI(x:Px):Bool:=x.kind==0&&(x.oper==0&&(x.dJ==0&&(x.n==0&&(x.field==0&&(x.name.toList==[])))))&&decide (x.kids.length=0)
def fg(is:Bool)(x:Px):Int:=if is then x.fk else fJ x.wI 120
def Px.nf(x:Px):Bool:=if x.kind=5∧x.oper=1 then (match x.kids with | k::_=>decide (k.kind=1∧k.dJ≤4) | []=>false) else decide (x.kind=1)
def eg.check(r:eg):Int:=fJ (dK r.name&&(decide (1≤r.dJ∧r.dJ≤6)&&(r.init.formed&&r.init.nf))) 120
def fA.pA(d:fA):Bool:=decide (1≤d.kind∧d.kind≤6)
def fA.oP(d:fA):Bool:=decide (d.kind=1∧1≤d.order∧d.order≤5∨d.kind≠1∧d.order=0)
def fA.dK(d:fA):Bool:=if d.kind=6 then d.name.toList==[] else if d.kind≠1∨d.name.toList≠[] then Lx.dK d.name else true
def fA.check(d:fA):Int:=dg (fJ d.pA 120) (dg (fJ d.oP 120) (dg (fJ d.dK 120) (dg (fg (decide (d.kind=1)) d.side) (dg (fg (decide (d.kind=1∨d.kind=2)) d.qty)
 (dg (fg (decide (d.kind=1∧d.order≠2∨d.kind=2)) d.price) (fg (decide (d.kind=4)) d.value))))))
def dL{α:Type}(f:α→Int):List α→Int
 | []=>0
 | x::r=>dg (f x) (dL f r)
def ej.check(r:ej):Int:=dg r.when.fk (dg (fJ (decide (0<r.dos.length)) 120) (dg (fJ (decide (r.dos.length≤8)) 121) (dL fA.check r.dos)))
def dt.check(s:dt):Int:=dg (fJ (dK s.name) 120) (dg (fJ (decide (s.rules.length≤12)) 121) (dL ej.check s.rules))
def dm.check(s:dm):Int:=fJ (dK s.name) 120
def fm.check(s:fm):Int:=dg (fJ (dK s.name) 120) (dg (fJ (decide (s.regs.length≤12)) 121) (dg (dL eg.check s.regs) (dg (fJ (decide (s.slots.length≤4)) 121) (dg (dL dm.check s.slots)
 (dg (fJ (decide (0<s.states.length)) 120) (dg (fJ (decide (s.states.length≤12)) 121) (dL dt.check s.states)))))))
theorem qG{α:Type}(f:α→Int){l:List α}{i:Nat}{x:α}(h:l[i]? = some x):dL f (l.drop i)=dg (f x) (dL f (l.drop (i+1))):=by
 obtain⟨hk,rfl⟩:=List.getElem?_eq_some_iff.1 h
 rw[List.drop_eq_getElem_cons hk,dL]
theorem kl(b:Int):dg 0 b=b:=rfl
theorem ng{a:Int}(h:a≠0)(b:Int):dg a b=a:=if_neg h
end Go.Lx
namespace Go.Lx
open Go.Vc
end Go.Lx
namespace Go.Lx
open Go.Vc Go.Proofs.Tryz
def nh:List (Nat×List Sh):=[(3,[.one (.int .i64)]),(4,[.one .bool]),(5,[.one (.int .u8)]),(79,[.one .slc]),(80,[.one .slc]),(134,[.agg [(.int .u8),.str,(.int .u8),(.int .i64),(.int .i64)],.one (.int .i64)])]
def oQ.V(c:Int)(I:cS)(F:cR)(Q:cU)  : Prop:=Q (.returned (.bool (c != 10))) I (F)
theorem oQ.vc{c:Int}{I:cS}{F:cR}{Q:cU}  (h:oQ.V c I F Q):cV P 149 #[.int .u8 c] I F Q :=
 tw (A:=(an [] [] nh)) [] func149 h
def qX.V(s:Bs)(d:Int)(on:Nat)(b c:Array Value)(I:cS)(F:cR)(Q:cU)(Inv4:Int→Nat→cS→cR→Prop):Prop:=(∃m:Nat,Inv4 d m I F)∧∀(a:Int) (m1:Nat) (I1:cS) (F1:cR),cS.le I I1→Inv4 a m1 I1 F1→((decide (a<(s.size:Int))=true→((0≤a∧a<(s.size:Int))∧dC P on∧cV P on (b++#[.int .u8 (bt s a)]++c) I1 F1 fun e1 I2 G1=>∃(r:Bool),e1=.returned (.bool r)∧∃F2:cR,List.Perm G1 F2∧((r=true→(∃m2:Nat,m2<m1∧Inv4 (IntKind.wrap .i64 (a+1)) m2 I2 F2))∧(r=false→Q (.returned (.int .i64 a)) I2 F2))))∧(decide (a<(s.size:Int))=false→Q (.returned (.int .i64 a)) I1 F1))
theorem qX.vc{s:Bs}{c:Int}{on:Nat}{a b:Array Value}{I:cS}{F:cR}{Q:cU}(Inv4:Int→Nat→cS→cR→Prop)(h:qX.V s c on a b I F Q Inv4):cV P 138 #[.string s,.int .i64 c,.func (.func on) a b] I F Q :=
 tw (A:=(eM [1003,1009] [] [] nh [(4,⟨[(1,(.int .i64))],[],fun _ _ _ vs m I F=>match vs with | [.int _ y0]=>Inv4 y0 m I F | _=>False,[],[]⟩)] [] [] [] [] [] [])) [] func138 h
def pB.V(vi:Int→Value)(wr:Int→Int)(s:Bs)(b:Int)(I:cS)(F:cR)(Q:cU)(Inv7:Int→Nat→cS→cR→Prop):Prop:=(∃m:Nat,Inv7 b m I F)∧∀(a:Int) (m1:Nat) (I1:cS) (F1:cR),cS.le I I1→Inv7 a m1 I1 F1→((decide (a<(s.size:Int))=true→((0≤a∧a<(s.size:Int))∧((((bt s a)==32)=true→(∃m2:Nat,m2<m1∧Inv7 (wr (a+1)) m2 I1 F1))∧(((bt s a)==32)=false→((((bt s a)==9)=true→(∃m3:Nat,m3<m1∧Inv7 (wr (a+1)) m3 I1 F1))∧(((bt s a)==9)=false→((((bt s a)==10)=true→(∃m4:Nat,m4<m1∧Inv7 (wr (a+1)) m4 I1 F1))∧(((bt s a)==10)=false→((((bt s a)==13)=true→(∃m5:Nat,m5<m1∧Inv7 (wr (a+1)) m5 I1 F1))∧(((bt s a)==13)=false→((((bt s a)==35)=true→cV P 138 (#[.string s,vi a,.func (.func 149) #[] #[]]) I1 F1 fun e1 I2 G1=>∃(r:Int),e1=.returned (vi r)∧∃F2:cR,List.Perm G1 F2∧(∃m6:Nat,m6<m1∧Inv7 r m6 I2 F2))∧(((bt s a)==35)=false→Q (.returned (vi a)) I1 F1))))))))))))∧(decide (a<(s.size:Int))=false→Q (.returned (vi a)) I1 F1))
theorem pB.vc{s:Bs}{a:Int}{I:cS}{F:cR}{Q:cU}(Inv7:Int→Nat→cS→cR→Prop)(h:pB.V (.int .i64) (IntKind.wrap .i64) s a I F Q Inv7):cV P 134 #[.string s,.int .i64 a] I F Q :=
 tw (A:=(eM [1003,3000,4000,5000,6000,8000] [] [138] nh [(7,⟨[(1,(.int .i64))],[],fun _ _ _ vs m I F=>match vs with | [.int _ y0]=>Inv7 y0 m I F | _=>False,[],[]⟩)] [] [] [] [] [] [])) [138] func134 h
def mm.V(vb vi:Int→Value)(vs:Bs→Value)(wr:Int→Int)(s:Bs)(c:Int)(I:cS)(F:cR)(Q:cU)(Inv10:Int→Int→Int→Bs→Int→Int→Int→Int→Bs→Int→Int→Int→Nat→cS→cR→Prop)(Inv33:Int→Int→Bs→Int→Int→Int→cS→cR→Prop)(Inv43:Int→cS→cR→Prop)(Inv51:Int→Int→Int→Bs→Int→Int→Int→cS→cR→Prop):Prop:=∀b:Nat,cV P 138 (#[vs s,vi c,.func (.func 135) #[] #[]]) I ((b,Obj.cells #[vb 0,vs (⟨#[]⟩:Bs),vb 0,vi 0,vi 0] 76 (0,0))::F) fun e1 I1 G1=>∃(r:Int),e1=.returned (vi r)∧∃F1:cR,List.Perm G1 ((b,Obj.cells #[vb 0,vs (⟨#[]⟩:Bs),vb 0,vi 0,vi 0] 76 (0,0))::F1)∧∀y:Nat,((0≤c∧c≤r∧r≤(s.size:Int))∧fh P (Go.convert 9 79 (vs (s.extract (Int.toNat c) (Int.toNat r)))) I1 ((b,Obj.cells #[vb 0,vs (⟨#[]⟩:Bs),vb 0,vi 0,vi 0] 76 (0,0))::(y,Obj.cells #[vb 3,vs (⟨#[]⟩:Bs),vb 1,vi 0,vi c] 76 (0,0))::F1) fun v I2 G2=>∃(ag:OA) (af ai:Nat),v=.slice ag af ai∧∃F2:cR,List.Perm G2 ((b,Obj.cells #[vb 0,vs (⟨#[]⟩:Bs),vb 0,vi 0,vi 0] 76 (0,0))::(y,Obj.cells #[vb 3,vs (⟨#[]⟩:Bs),vb 1,vi 0,vi c] 76 (0,0))::F2)∧(∃m:Nat,Inv10 0 0 0 (⟨#[]⟩:Bs) 0 0 0 3 (⟨#[]⟩:Bs) 1 0 c m I2 F2)∧∀(x x1 p:Int) (q:Bs) (t u w i:Int) (j:Bs) (n d k:Int) (m1:Nat) (I3:cS) (F3:cR),cS.le I2 I3→Inv10 x x1 p q t u w i j n d k m1 I3 F3→((decide (x1<(af:Int))=true→((0≤x1∧x1<(af:Int))∧∃ad:Addr,ag=some ad∧∃(m2:Int),Rd I3 ((b,Obj.cells #[vb p,vs q,vb t,vi u,vi w] 76 (0,0))::(y,Obj.cells #[vb i,vs j,vb n,vi d,vi k] 76 (0,0))::F3) (ad.add (Int.toNat x1*1)) [vb m2]∧((decide (d>(wr (Int.tdiv (wr (9223372036854775807-(wr (IntKind.wrap .u8 (m2-48))))) 10)))=true→Q (.returned (.tuple #[.agg #[vb 0,vs (⟨#[]⟩:Bs),vb 0,vi 0,vi 0],vi 113])) I3 F3)∧(decide (d>(wr (Int.tdiv (wr (9223372036854775807-(wr (IntKind.wrap .u8 (m2-48))))) 10)))=false→(∃m3:Nat,m3<m1∧Inv10 x (wr (x1+1)) p q t u w i j n (wr ((wr (10*d))+(wr (IntKind.wrap .u8 (m2-48))))) k m3 I3 F3)))))∧(decide (x1<(af:Int))=false→(((decide ((wr (r-c))>1)=true→((0≤c∧c<(s.size:Int))∧((((bt s c)==48)=true→Q (.returned (.tuple #[.agg #[vb 0,vs (⟨#[]⟩:Bs),vb 0,vi 0,vi 0],vi 113])) I3 F3)∧(((bt s c)==48)=false→Inv33 x p q t u w I3 F3))))∧(decide ((wr (r-c))>1)=false→Inv33 x p q t u w I3 F3)))∧∀(x2 z:Int) (aa:Bs) (ab ac ae:Int) (I4:cS) (F4:cR),cS.le I3 I4→Inv33 x2 z aa ab ac ae I4 F4→(((decide (r<(s.size:Int))=true→((0≤r∧r<(s.size:Int))∧Inv43 (bt s r) I4 F4))∧(decide (r<(s.size:Int))=false→Inv43 0 I4 F4)))∧∀(l:Int) (I5:cS) (F5:cR),cS.le I4 I5→Inv43 l I5 F5→((((l==116)=true→Inv51 (wr (r+1)) (wr ((wr ((wr ((-1)+1))+1))+1)) i j (IntKind.wrap .u8 (2+(IntKind.wrap .u8 (wr ((wr ((wr ((-1)+1))+1))+1))))) d k I5 F5)∧((l==116)=false→(((l==112)=true→Inv51 (wr (r+1)) (wr ((wr ((-1)+1))+1)) i j (IntKind.wrap .u8 (2+(IntKind.wrap .u8 (wr ((wr ((-1)+1))+1))))) d k I5 F5)∧((l==112)=false→(((l==113)=true→Inv51 (wr (r+1)) (wr ((-1)+1)) i j (IntKind.wrap .u8 (2+(IntKind.wrap .u8 (wr ((-1)+1))))) d k I5 F5)∧((l==113)=false→Inv51 r (-1) i j n d k I5 F5)))))))∧∀(a ah e:Int) (o:Bs) (f g h:Int) (I6:cS) (F6:cR),cS.le I5 I6→Inv51 a ah e o f g h I6 F6→((decide (a<(s.size:Int))=true→((0≤a∧a<(s.size:Int))∧cV P 139 (#[vb (bt s a)]) I6 ((b,Obj.cells #[vb z,vs aa,vb ab,vi ac,vi ae] 76 (0,0))::(y,Obj.cells #[vb e,vs o,vb f,vi g,vi h] 76 (0,0))::F6) fun e2 I7 G3=>∃(r1:Bool),e2=.returned (.bool r1)∧∃F7:cR,List.Perm G3 ((b,Obj.cells #[vb z,vs aa,vb ab,vi ac,vi ae] 76 (0,0))::(y,Obj.cells #[vb e,vs o,vb f,vi g,vi h] 76 (0,0))::F7)∧((r1=true→Q (.returned (.tuple #[.agg #[vb 0,vs (⟨#[]⟩:Bs),vb 0,vi 0,vi 0],vi 113])) I7 F7)∧(r1=false→((0≤a∧a<(s.size:Int))∧((decide (65≤(bt s a))=true→((0≤a∧a<(s.size:Int))∧((decide ((bt s a)≤90)=true→Q (.returned (.tuple #[.agg #[vb 0,vs (⟨#[]⟩:Bs),vb 0,vi 0,vi 0],vi 113])) I7 F7)∧(decide ((bt s a)≤90)=false→((0≤c∧c≤a∧a≤(s.size:Int))∧Q (.returned (.tuple #[.agg #[vb e,vs (s.extract (Int.toNat c) (Int.toNat a)),vb f,vi g,vi h],vi 0])) I7 F7)))))∧(decide (65≤(bt s a))=false→((0≤c∧c≤a∧a≤(s.size:Int))∧Q (.returned (.tuple #[.agg #[vb e,vs (s.extract (Int.toNat c) (Int.toNat a)),vb f,vi g,vi h],vi 0])) I7 F7))))))))∧(decide (a<(s.size:Int))=false→((0≤c∧c≤a∧a≤(s.size:Int))∧Q (.returned (.tuple #[.agg #[vb e,vs (s.extract (Int.toNat c) (Int.toNat a)),vb f,vi g,vi h],vi 0])) I6 F6))))))
theorem mm.vc{s:Bs}{a:Int}{I:cS}{F:cR}{Q:cU}(Inv10:Int→Int→Int→Bs→Int→Int→Int→Int→Bs→Int→Int→Int→Nat→cS→cR→Prop)(Inv33:Int→Int→Bs→Int→Int→Int→cS→cR→Prop)(Inv43:Int→cS→cR→Prop)(Inv51:Int→Int→Int→Bs→Int→Int→Int→cS→cR→Prop)(h:mm.V (.int .u8) (.int .i64) .string (IntKind.wrap .i64) s a I F Q Inv10 Inv33 Inv43 Inv51):cV P 136 #[.string s,.int .i64 a] I F Q :=
 tw (A:=(eM [4000,7005,11003,11008,14003,18000,19000,20000,26003,26008,26013,26018] [] [138,139] nh [(10,⟨[(5,(.int .i64)),(24,(.int .i64))],[(0,[(.int .u8),.str,(.int .u8),(.int .i64),(.int .i64)]),(1,[(.int .u8),.str,(.int .u8),(.int .i64),(.int .i64)])],fun _ _ _ vs m I F=>match vs with | [.int _ y0,.int _ y1,.int _ y2,.string y3,.int _ y4,.int _ y5,.int _ y6,.int _ y7,.string y8,.int _ y9,.int _ y10,.int _ y11]=>Inv10 y0 y1 y2 y3 y4 y5 y6 y7 y8 y9 y10 y11 m I F | _=>False,[],[]⟩),(33,⟨[(5,(.int .i64))],[(0,[(.int .u8),.str,(.int .u8),(.int .i64),(.int .i64)])],fun _ _ _ vs m I F=>match vs with | [.int _ y0,.int _ y1,.string y2,.int _ y3,.int _ y4,.int _ y5]=>Inv33 y0 y1 y2 y3 y4 y5 I F | _=>False,[],[]⟩),(43,⟨[(11,(.int .u8))],[],fun _ _ _ vs m I F=>match vs with | [.int _ y0]=>Inv43 y0 I F | _=>False,[],[]⟩),(51,⟨[(6,(.int .i64)),(12,(.int .i64))],[(1,[(.int .u8),.str,(.int .u8),(.int .i64),(.int .i64)])],fun _ _ _ vs m I F=>match vs with | [.int _ y0,.int _ y1,.int _ y2,.string y3,.int _ y4,.int _ y5,.int _ y6]=>Inv51 y0 y1 y2 y3 y4 y5 y6 I F | _=>False,[],[]⟩)] [] [] [] [] [] [])) [138,139] func136 h
def pC.V(vi:Int→Value)(wr:Int→Int)(s:Bs)(a:Int)(I:cS)(F:cR)(Q:cU)  : Prop:=((decide ((wr (a+1))<(s.size:Int))=true→((0≤(wr (a+1))∧(wr (a+1))<(s.size:Int))∧((0≤a∧a<(s.size:Int))∧((((bt s a)==123)=true→Q (.returned (vi 1)) I F)∧(((bt s a)==123)=false→((((bt s a)==125)=true→Q (.returned (vi 1)) I F)∧(((bt s a)==125)=false→((((bt s a)==40)=true→Q (.returned (vi 1)) I F)∧(((bt s a)==40)=false→((((bt s a)==41)=true→Q (.returned (vi 1)) I F)∧(((bt s a)==41)=false→((((bt s a)==44)=true→Q (.returned (vi 1)) I F)∧(((bt s a)==44)=false→((((bt s a)==59)=true→Q (.returned (vi 1)) I F)∧(((bt s a)==59)=false→((((bt s a)==63)=true→Q (.returned (vi 1)) I F)∧(((bt s a)==63)=false→((((bt s a)==58)=true→Q (.returned (vi 1)) I F)∧(((bt s a)==58)=false→((((bt s a)==43)=true→Q (.returned (vi 1)) I F)∧(((bt s a)==43)=false→((((bt s a)==45)=true→Q (.returned (vi 1)) I F)∧(((bt s a)==45)=false→((((bt s a)==42)=true→Q (.returned (vi 1)) I F)∧(((bt s a)==42)=false→((((bt s a)==47)=true→Q (.returned (vi 1)) I F)∧(((bt s a)==47)=false→((((bt s a)==37)=true→Q (.returned (vi 1)) I F)∧(((bt s a)==37)=false→((((bt s a)==38)=true→((((bt s (wr (a+1)))==(bt s a))=true→Q (.returned (vi 2)) I F)∧(((bt s (wr (a+1)))==(bt s a))=false→Q (.returned (vi 0)) I F)))∧(((bt s a)==38)=false→((((bt s a)==124)=true→((((bt s (wr (a+1)))==(bt s a))=true→Q (.returned (vi 2)) I F)∧(((bt s (wr (a+1)))==(bt s a))=false→Q (.returned (vi 0)) I F)))∧(((bt s a)==124)=false→((((bt s a)==61)=true→((((bt s (wr (a+1)))==61)=true→Q (.returned (vi 2)) I F)∧(((bt s (wr (a+1)))==61)=false→Q (.returned (vi 1)) I F)))∧(((bt s a)==61)=false→((((bt s a)==33)=true→((((bt s (wr (a+1)))==61)=true→Q (.returned (vi 2)) I F)∧(((bt s (wr (a+1)))==61)=false→Q (.returned (vi 1)) I F)))∧(((bt s a)==33)=false→((((bt s a)==60)=true→((((bt s (wr (a+1)))==61)=true→Q (.returned (vi 2)) I F)∧(((bt s (wr (a+1)))==61)=false→Q (.returned (vi 1)) I F)))∧(((bt s a)==60)=false→((((bt s a)==62)=true→((((bt s (wr (a+1)))==61)=true→Q (.returned (vi 2)) I F)∧(((bt s (wr (a+1)))==61)=false→Q (.returned (vi 1)) I F)))∧(((bt s a)==62)=false→Q (.returned (vi 0)) I F)))))))))))))))))))))))))))))))))))))))))∧(decide ((wr (a+1))<(s.size:Int))=false→((0≤a∧a<(s.size:Int))∧((((bt s a)==123)=true→Q (.returned (vi 1)) I F)∧(((bt s a)==123)=false→((((bt s a)==125)=true→Q (.returned (vi 1)) I F)∧(((bt s a)==125)=false→((((bt s a)==40)=true→Q (.returned (vi 1)) I F)∧(((bt s a)==40)=false→((((bt s a)==41)=true→Q (.returned (vi 1)) I F)∧(((bt s a)==41)=false→((((bt s a)==44)=true→Q (.returned (vi 1)) I F)∧(((bt s a)==44)=false→((((bt s a)==59)=true→Q (.returned (vi 1)) I F)∧(((bt s a)==59)=false→((((bt s a)==63)=true→Q (.returned (vi 1)) I F)∧(((bt s a)==63)=false→((((bt s a)==58)=true→Q (.returned (vi 1)) I F)∧(((bt s a)==58)=false→((((bt s a)==43)=true→Q (.returned (vi 1)) I F)∧(((bt s a)==43)=false→((((bt s a)==45)=true→Q (.returned (vi 1)) I F)∧(((bt s a)==45)=false→((((bt s a)==42)=true→Q (.returned (vi 1)) I F)∧(((bt s a)==42)=false→((((bt s a)==47)=true→Q (.returned (vi 1)) I F)∧(((bt s a)==47)=false→((((bt s a)==37)=true→Q (.returned (vi 1)) I F)∧(((bt s a)==37)=false→((((bt s a)==38)=true→(((0==(bt s a))=true→Q (.returned (vi 2)) I F)∧((0==(bt s a))=false→Q (.returned (vi 0)) I F)))∧(((bt s a)==38)=false→((((bt s a)==124)=true→(((0==(bt s a))=true→Q (.returned (vi 2)) I F)∧((0==(bt s a))=false→Q (.returned (vi 0)) I F)))∧(((bt s a)==124)=false→((((bt s a)==61)=true→((false=true→Q (.returned (vi 2)) I F)∧(false=false→Q (.returned (vi 1)) I F)))∧(((bt s a)==61)=false→((((bt s a)==33)=true→((false=true→Q (.returned (vi 2)) I F)∧(false=false→Q (.returned (vi 1)) I F)))∧(((bt s a)==33)=false→((((bt s a)==60)=true→((false=true→Q (.returned (vi 2)) I F)∧(false=false→Q (.returned (vi 1)) I F)))∧(((bt s a)==60)=false→((((bt s a)==62)=true→((false=true→Q (.returned (vi 2)) I F)∧(false=false→Q (.returned (vi 1)) I F)))∧(((bt s a)==62)=false→Q (.returned (vi 0)) I F)))))))))))))))))))))))))))))))))))))))))
theorem pC.vc{s:Bs}{a:Int}{I:cS}{F:cR}{Q:cU}  (h:pC.V (.int .i64) (IntKind.wrap .i64) s a I F Q):cV P 141 #[.string s,.int .i64 a] I F Q :=
 tw (A:=(an [2004,6000,7000,8000,9000,10000,11000,12000,13000,14000,15000,16000,17000,18000,20000,21000,22002,24000,25000,26000,27000,28001] [] nh)) [] func141 h
def nP.V(vb vi:Int→Value)(vs:Bs→Value)(wr:Int→Int)(s:Bs)(i:Int)(I:cS)(F:cR)(Q:cU)  : Prop:=∀b:Nat,cV P 134 #[vs s,vi i] I ((b,Obj.cells #[vb 0,vs (⟨#[]⟩:Bs),vb 0,vi 0,vi 0] 76 (0,0))::F) fun e1 I1 G1=>∃(r:Int),e1=.returned (vi r)∧∃F1:cR,List.Perm G1 ((b,Obj.cells #[vb 0,vs (⟨#[]⟩:Bs),vb 0,vi 0,vi 0] 76 (0,0))::F1)∧(((r==(s.size:Int))=true→Q (.returned (.tuple #[.agg #[vb 0,vs (⟨#[]⟩:Bs),vb 0,vi 0,vi r],vi 0])) I1 F1)∧((r==(s.size:Int))=false→((0≤r∧r<(s.size:Int))∧cV P 135 (#[vb (bt s r)]) I1 ((b,Obj.cells #[vb 0,vs (⟨#[]⟩:Bs),vb 0,vi 0,vi 0] 76 (0,0))::F1) fun e2 I2 G2=>∃(r1:Bool),e2=.returned (.bool r1)∧∃F2:cR,List.Perm G2 ((b,Obj.cells #[vb 0,vs (⟨#[]⟩:Bs),vb 0,vi 0,vi 0] 76 (0,0))::F2)∧((r1=true→cV P 136 #[vs s,vi r] I2 ((b,Obj.cells #[vb 0,vs (⟨#[]⟩:Bs),vb 0,vi 0,vi 0] 76 (0,0))::F2) fun e3 I3 G3=>∃(a:Int) (c:Bs) (d e h g:Int),e3=.returned (.tuple #[.agg #[vb a,vs c,vb d,vi e,vi h],vi g])∧∃F3:cR,List.Perm G3 ((b,Obj.cells #[vb 0,vs (⟨#[]⟩:Bs),vb 0,vi 0,vi 0] 76 (0,0))::F3)∧∀j:Nat,Q (.returned (.tuple #[.agg #[vb a,vs c,vb d,vi e,vi r],vi g])) I3 F3)∧(r1=false→cV P 137 (#[vb (bt s r)]) I2 ((b,Obj.cells #[vb 0,vs (⟨#[]⟩:Bs),vb 0,vi 0,vi 0] 76 (0,0))::F2) fun e4 I4 G4=>∃(r2:Bool),e4=.returned (.bool r2)∧∃F4:cR,List.Perm G4 ((b,Obj.cells #[vb 0,vs (⟨#[]⟩:Bs),vb 0,vi 0,vi 0] 76 (0,0))::F4)∧((r2=true→cV P 138 (#[vs s,vi r,.func (.func 139) #[] #[]]) I4 ((b,Obj.cells #[vb 0,vs (⟨#[]⟩:Bs),vb 0,vi 0,vi 0] 76 (0,0))::F4) fun e5 I5 G5=>∃(r3:Int),e5=.returned (vi r3)∧∃F5:cR,List.Perm G5 ((b,Obj.cells #[vb 0,vs (⟨#[]⟩:Bs),vb 0,vi 0,vi 0] 76 (0,0))::F5)∧((decide ((wr (r3-r))>16)=true→Q (.returned (.tuple #[.agg #[vb 0,vs (⟨#[]⟩:Bs),vb 0,vi 0,vi r],vi 112])) I5 F5)∧(decide ((wr (r3-r))>16)=false→((0≤r∧r≤r3∧r3≤(s.size:Int))∧∀f:Nat,cV P 140 (#[vs (s.extract (Int.toNat r) (Int.toNat r3))]) I5 ((b,Obj.cells #[vb 0,vs (⟨#[]⟩:Bs),vb 0,vi 0,vi 0] 76 (0,0))::(f,Obj.cells #[vb 2,vs (s.extract (Int.toNat r) (Int.toNat r3)),vb 0,vi 0,vi r] 76 (0,0))::F5) fun e6 I6 G6=>∃(r4:Bool),e6=.returned (.bool r4)∧∃F6:cR,List.Perm G6 ((b,Obj.cells #[vb 0,vs (⟨#[]⟩:Bs),vb 0,vi 0,vi 0] 76 (0,0))::(f,Obj.cells #[vb 2,vs (s.extract (Int.toNat r) (Int.toNat r3)),vb 0,vi 0,vi r] 76 (0,0))::F6)∧((r4=true→Q (.returned (.tuple #[.agg #[vb 1,vs (s.extract (Int.toNat r) (Int.toNat r3)),vb 0,vi 0,vi r],vi 0])) I6 F6)∧(r4=false→Q (.returned (.tuple #[.agg #[vb 2,vs (s.extract (Int.toNat r) (Int.toNat r3)),vb 0,vi 0,vi r],vi 0])) I6 F6))))))∧(r2=false→cV P 141 #[vs s,vi r] I4 ((b,Obj.cells #[vb 0,vs (⟨#[]⟩:Bs),vb 0,vi 0,vi 0] 76 (0,0))::F4) fun e7 I7 G7=>∃(r5:Int),e7=.returned (vi r5)∧∃F7:cR,List.Perm G7 ((b,Obj.cells #[vb 0,vs (⟨#[]⟩:Bs),vb 0,vi 0,vi 0] 76 (0,0))::F7)∧(((r5==0)=true→Q (.returned (.tuple #[.agg #[vb 0,vs (⟨#[]⟩:Bs),vb 0,vi 0,vi r],vi 111])) I7 F7)∧((r5==0)=false→((0≤r∧r≤(wr (r+r5))∧(wr (r+r5))≤(s.size:Int))∧Q (.returned (.tuple #[.agg #[vb 4,vs (s.extract (Int.toNat r) (Int.toNat ((wr (r+r5))))),vb 0,vi 0,vi r],vi 0])) I7 F7))))))))))
theorem nP.vc{s:Bs}{a:Int}{I:cS}{F:cR}{Q:cU}  (h:nP.V (.int .u8) (.int .i64) .string (IntKind.wrap .i64) s a I F Q):cV P 123 #[.string s,.int .i64 a] I F Q :=
 tw (A:=(an [2003,5001,9001,11003,14002,18001] [134,135,136,137,138,140,141] nh)) [134,135,136,137,138,140,141] func123 h
def mn.V(vb vi:Int→Value)(vs:Bs→Value)(vl:OA→Nat→Nat→Value)(s:Bs)(I:cS)(F:cR)(Q:cU)(Inv15:OA→Nat→Nat→Int→Int→OA→Nat→Nat→Int→Nat→cS→cR→Prop):Prop:=((decide ((s.size:Int)>4096)=true→Q (.returned (.tuple #[vl none 0 0,vi 110,vi 0])) I F)∧(decide ((s.size:Int)>4096)=false→(∃m:Nat,Inv15 none 0 0 0 0 none 0 0 0 m I F)∧∀(j:OA) (k l:Nat) (x x1:Int) (n:OA) (o p:Nat) (q:Int) (m1:Nat) (I1:cS) (F1:cR),cS.le I I1→Inv15 j k l x x1 n o p q m1 I1 F1→cV P 123 #[vs s,vi q] I1 F1 fun e1 I2 G1=>∃(a:Int) (d:Bs) (e f c r1:Int),e1=.returned (.tuple #[.agg #[vb a,vs d,vb e,vi f,vi c],vi r1])∧∃F2:cR,List.Perm G1 F2∧∀r:Nat,(((r1 != 0)=true→Q (.returned (.tuple #[vl none 0 0,vi r1,vi c])) I2 F2)∧((r1 != 0)=false→∀(b:Nat) (I3:cS),cS.le I2 I3→I3 b=some (Obj.cells #[vb a,vs d,vb e,vi f,vi c] 76 (0,0))→fh P (Builtin.append_ #[80,80] 80 #[vl n o p,vl (some ⟨b,0,none⟩) 1 1]) I3 ((r,Obj.cells #[vb a,vs d,vb e,vi f,vi c] 76 (0,0))::F2) fun v I4 G2=>∃(g:OA) (h i:Nat),v=vl g h i∧∃F3:cR,List.Perm G2 ((r,Obj.cells #[vb a,vs d,vb e,vi f,vi c] 76 (0,0))::F3)∧(((a==0)=true→Q (.returned (.tuple #[vl g h i,vi 0,vi 0])) I4 F3)∧((a==0)=false→(∃m2:Nat,m2<m1∧Inv15 j k l x x1 g h i (IntKind.wrap .i64 (c+(d.size:Int))) m2 I4 F3)))))))
theorem mn.vc{s:Bs}{I:cS}{F:cR}{Q:cU}(Inv15:OA→Nat→Nat→Int→Int→OA→Nat→Nat→Int→Nat→cS→cR→Prop)(h:mn.V (.int .u8) (.int .i64) .string .slice s I F Q Inv15):cV P 124 #[.string s] I F Q :=
 tw (A:=(eM [1002,6001,9002] [] [123] nh [(15,⟨[(2,.slc),(3,(.int .i64)),(4,(.int .i64)),(5,.slc),(6,(.int .i64))],[],fun _ _ _ vs m I F=>match vs with | [.slice y0 y1 y2,.int _ y3,.int _ y4,.slice y5 y6 y7,.int _ y8]=>Inv15 y0 y1 y2 y3 y4 y5 y6 y7 y8 m I F | _=>False,[],[]⟩)] [8002] [] [] [] [] [])) [123] func124 h
def pD.V(vb vi:Int→Value)(vs:Bs→Value)(s:Bs)(a:Int)(I:cS)(F:cR)(Q:cU)  : Prop:=∀b:Nat,((decide ((s.size:Int)>4096)=true→Q (.returned (.tuple #[.agg #[vb 0,vs (⟨#[]⟩:Bs),vb 0,vi 0,vi 0],vi 0,vi 110])) I F)∧(decide ((s.size:Int)>4096)=false→((decide (a<0)=true→Q (.returned (.tuple #[.agg #[vb 0,vs (⟨#[]⟩:Bs),vb 0,vi 0,vi 0],vi 0,vi 1])) I F)∧(decide (a<0)=false→((decide (a>(s.size:Int))=true→Q (.returned (.tuple #[.agg #[vb 0,vs (⟨#[]⟩:Bs),vb 0,vi 0,vi 0],vi 0,vi 1])) I F)∧(decide (a>(s.size:Int))=false→cV P 123 #[vs s,vi a] I ((b,Obj.cells #[vb 0,vs (⟨#[]⟩:Bs),vb 0,vi 0,vi 0] 76 (0,0))::F) fun e1 I1 G1=>∃(e:Int) (c:Bs) (f g d r1:Int),e1=.returned (.tuple #[.agg #[vb e,vs c,vb f,vi g,vi d],vi r1])∧∃F1:cR,List.Perm G1 ((b,Obj.cells #[vb 0,vs (⟨#[]⟩:Bs),vb 0,vi 0,vi 0] 76 (0,0))::F1)∧∀h:Nat,(((r1 != 0)=true→Q (.returned (.tuple #[.agg #[vb 0,vs (⟨#[]⟩:Bs),vb 0,vi 0,vi 0],vi 0,vi r1])) I1 F1)∧((r1 != 0)=false→Q (.returned (.tuple #[.agg #[vb e,vs c,vb f,vi g,vi d],vi (IntKind.wrap .i64 (d+(c.size:Int))),vi 0])) I1 F1))))))))
theorem pD.vc{s:Bs}{a:Int}{I:cS}{F:cR}{Q:cU}  (h:pD.V (.int .u8) (.int .i64) .string s a I F Q):cV P 102 #[.string s,.int .i64 a] I F Q :=
 tw (A:=(eM [1002,3001,3006,6001] [] [123] nh [] [] [] [(8,7,[0])] [] [] [])) [123] func102 h
end Go.Lx
namespace Go.Lx
open Go.Vc
theorem zR(c:Int)(I:cS)(F:cR):cV P 149 #[.int .u8 c] I F (jg (.bool (qa c)) F) :=
 oQ.vc ⟨rfl,rfl⟩
theorem sy{s:ByteArray}(hs:dV s){i:Int}(h0:0≤i)(h1:i≤s.size){p:Int→Bool}{on:Nat}(hp:∀c I F,cV P on #[.int .u8 c] I F (jg (.bool (p c)) F))(hen:dC P on)(I:cS)(F:cR) :
  cV P 138 #[.string s,.int .i64 i,.func (.func on) #[] #[]] I F (jg (.int .i64 (dh p s i)) F):=by
 unfold dV at hs
 refine qX.vc (fun j m I' F'=>0≤j∧j≤s.size∧m=(s.size-j).toNat∧dh p s j=dh p s i∧F'=F) ?_
 unfold qX.V
 refine⟨⟨_,h0,h1,rfl,rfl,rfl⟩,fun j m I1 F1 hI ⟨g0,g1,gm,gr,gF⟩=>⟨fun hlt=>?_,fun hlt=>?_⟩⟩
 ·have hlt:j<(s.size:Int):=by simpa using hlt
  refine⟨⟨g0,hlt⟩,hen, ?_⟩
  subst gF
  have:=hp (bt s j) I1 F1
  refine cV.ret (by simpa using this) fun I2 h2=>⟨_,rfl,F1,.refl _,fun hc=>?_,fun hc=>⟨?_,rfl⟩⟩
  ·refine⟨m-1,by omega, ?_⟩
   rw[gN (by omega)]
   rw[dw hlt,if_pos hc] at gr
   exact⟨by omega,by omega,by omega,gr,rfl⟩
  ·rw[dw hlt,if_neg (by simpa using hc)] at gr
   rw[gr]
 ·have hlt:¬j<(s.size:Int):=by simpa using hlt
  refine⟨?_,gF⟩
  rw[jr (by omega)] at gr
  rw[gr]
theorem A8:dC P 135:=iO (by kernel_rfl)
theorem A9:dC P 139:=iO (by kernel_rfl)
theorem Ba:dC P 149:=iO (by kernel_rfl)
end Go.Lx
