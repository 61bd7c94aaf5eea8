import Derived.Test.YtdhcodphiofhjaaGreatDoorParseStrategiesB1
set_option linter.unusedVariables false
set_option linter.unusedSimpArgs false
set_option linter.unusedSectionVars false
set_option maxRecDepth 100000
namespace Go.Vc
def qA(o:Oper):Bool:=match o.op with
 | .move _ | .assign _ | .pick .. | .fieldAddr .. | .indexAddr .. | .extract .. | .field .. | .nilCheck _ | .binOp .. | .unOp .. | .makeFunc .. | .index .. | .slice .. | .makeInterface .. | .build .. | .convert .. => true
 | .call c=>match c.callee with
   | .builtin .len=>true
   | .builtin .cap=>true
   | _=>false
 | _=>false
def HO:List (Nat×List Nat)→Nat→Option (List Nat)
 | [],_=>none
 | (r,l)::t,n=>cond (r==n) (some l) (HO t n)
def HP:List (Nat×Nat×Nat×List Nat×List Nat)→Nat→Option (Nat×Nat×List Nat×List Nat)
 | [],_=>none
 | (r,x)::t,n=>cond (r==n) (some x) (HP t n)
def HQ:List (Nat×List Nat×Ot)→Nat→Option (List Nat×Ot)
 | [],_=>none
 | (r,x)::t,n=>cond (r==n) (some x) (HQ t n)
def HR:List (Nat×List Nat×Nat)→Nat→Option (List Nat×Nat)
 | [],_=>none
 | (r,x)::t,n=>cond (r==n) (some x) (HR t n)
def HS:List (Nat×Nat)→Nat→Option Nat
 | [],_=>none
 | (r,l)::t,n=>cond (r==n) (some l) (HS t n)
def cS.no(I:cS):cS:=⟨fun _=>none,I.os,I.out⟩
theorem xu(I:cS)(w:World):Reads I.no [] w:=by
 intro ad cs h j hj
 obtain⟨_,cells,t,fz,h1 | h1,_⟩:=h
 ·cases h1
 ·cases h1
def vZ(l:List Nat):Nat→List (Option AV)→List (Option AV)
 | _,[]=>[]
 | t,x::r=>cond (l.contains t) none x::vZ l (t+1) r
def S.ry(σ:S)(ops:Array Oper):S:={ σ with tm:=vZ (dz ops.toList) 0 σ.tm }
def Dx(o:Oper)(Kp:List PanicEntry→S→cS→cR→Prop):List PanicEntry→S→cS→cR→Prop:=fun ch σ I F=>cond (uC o.op||yH o.op) False (Kp ch σ I F)
def iF(P:Program)(A:oK)(rid:Nat)(ops:Array Oper)(Kp:List PanicEntry→S→cS→cR→Prop):List Nat→S→cS→cR→(S→cS→cR→Prop)→Prop
 | [],σ,I,F,K=>K σ I F
 | i::r,σ,I,F,K=>match ops[i]? with
   | none=>False
   | some o=>match want ops σ o with
     | some true=>cond (qA o)
        (mG P A.shp o σ I.no [] (List.range σ.own.length) fun av=>pb A rid i o.dst av σ fun σ'=>iF P A rid ops Kp r σ' I F K)
        (FR P A rid i o σ I F (fun σ' I' F'=>iF P A rid ops Kp r σ' I' F' K) (Dx o Kp))
     | some false=>iF P A rid ops Kp r (σ.put o.dst (some (.a (.v undef)))) I F K
     | none=>False
def kV(P:Program)(A:oK)(rid:Nat)(ops:Array Oper)(Kp:List PanicEntry→S→cS→cR→Prop)(os:List Nat)(I0:cS)(n0:Nat):List Nat→S→cS→cR→(S→cS→cR→Prop)→Prop
 | [],σ,I,F,K=>K σ I F
 | i::r,σ,I,F,K=>match ops[i]? with
   | none=>False
   | some o=>match want ops σ o with
     | some true=>cond (os.contains i)
        (mG P A.shp o σ I0 [] ((List.range σ.own.length).drop n0) fun av=>pb A rid i o.dst av σ fun σ'=>kV P A rid ops Kp os I0 n0 r σ' I F K)
        (cond (qA o)
          (mG P A.shp o σ I.no [] (List.range σ.own.length) fun av=>pb A rid i o.dst av σ fun σ'=>kV P A rid ops Kp os I0 n0 r σ' I F K)
          (FR P A rid i o σ I F (fun σ' I' F'=>kV P A rid ops Kp os I0 n0 r σ' I' F' K) (Dx o Kp)))
     | some false=>kV P A rid ops Kp os I0 n0 r (σ.put o.dst (some (.a (.v undef)))) I F K
     | none=>False
def sR(P:Program)(A:oK)(rid:Nat)(ops:Array Oper)(Kp:List PanicEntry→S→cS→cR→Prop)(os:List Nat)(I0:cS)(n0:Nat)(N:List Nat→S→cS→cR→Prop):Ot→S→cS→cR→Prop
 | .fin pre post,σ,I,F=>kV P A rid ops Kp os I0 n0 pre σ I F (N post)
 | .fork pre i j x y,σ,I,F=>kV P A rid ops Kp os I0 n0 pre σ I F fun σ' I' F' =>
    kV P A rid ops Kp os I0 n0 [i] σ' I' F' (fun s J G=>sR P A rid ops Kp os I0 n0 N x s J G)∧kV P A rid ops Kp os I0 n0 [j] σ' I' F' (fun s J G=>sR P A rid ops Kp os I0 n0 N y s J G)
section
variable {P:Program} {A:oK} {rid:Nat} {ops:Array Oper}
theorem eH{ro:Option Nat}(hP:∀f,A.good f=true→dA P f){Kp:List PanicEntry→S→cS→cR→Prop}{K:S→cS→cR→Prop}{Q:Exit→Act→World→Prop}(hops:∀(i:Nat) (o:Oper),ops[i]? = some o→gH o.op=true) :
  ∀(l:List Nat) (σ:S) (I:cS) (F:cR) (a:Act) (w:World),iF P A rid ops Kp l σ I F K→Rel σ I F a w →
   (∀σ' I' F' a' w',Rel σ' I' F' a' w'→cS.le I I'→K σ' I' F'→du (dz ops.toList) σ a σ' a'→Q .normal a' w') →
   (∀ch σ' I' F' a' w',Rel σ' I' F' a' w'→cS.le I I'→Kp ch σ' I' F'→du (dz ops.toList) σ a σ' a'→Q (.panic ch) a' w') →
   rL P ro ops qA Q l a w
 | [],σ,I,F,a,w,h,hr,hN,hX=>hN σ I F a w hr (cS.le_refl I) h (du.refl _ _ _)
 | i::r,σ,I,F,a,w,h,hr,hN,hX=>by
   simp only[iF] at h
   split at h
   ·exact h.elim
   ·rename_i o ho
    have hd:∀t,o.dst=some t→t∈dz ops.toList:=fun t ht=>by
     have hm:o∈ops.toList:=by have:=Array.mem_of_getElem? ho;simpa using this
     exact List.mem_filterMap.2 ⟨o,hm,ht⟩
    refine⟨o,ho, ?_⟩
    split at h
    ·rename_i hw
     rw[if_pos (fR hw hr.t)]
     cases hp:qA o with
     | true =>
       rw[if_pos rfl]
       rw[hp,cond_true] at h
       obtain⟨av,hk,hy⟩:=kS h
       obtain⟨av',hg,hwf',hk⟩:=mh hk
       have hwf:=hy.wf σ.own hr.wft hr.wfo
       refine⟨av.g,fun w'=>hy.run a w' hr.t hr.wft (fun j b hb hh=>?_) (xu I w'), ?_⟩
       ·have:j<σ.own.length:=(List.getElem?_eq_some_iff.1 hb).1
        have hc:(List.range σ.own.length).contains j=true:=by simpa using this
        rw[hc] at hh;cases hh
       ·have hr':Rel (σ.put o.dst (some av')) I F (a.put o.dst av.g) w:=hr.put o.dst hg (hwf' hwf)
        have hkp:du (dz ops.toList) σ a (σ.put o.dst (some av')) (a.put o.dst av.g):=du.put (dv.put _ _ _) _ _ _ hd
        exact eH hP hops r _ I F _ w hk hr' (fun σ2 I2 F2 a2 w2 g1 g2 g3 g4=>hN σ2 I2 F2 a2 w2 g1 g2 g3 (hkp.trans g4)) fun ch σ2 I2 F2 a2 w2 g1 g2 g3 g4=>hX ch σ2 I2 F2 a2 w2 g1 g2 g3 (hkp.trans g4)
     | false =>
       rw[if_neg (by simp)]
       rw[hp,cond_false] at h
       have hh:=qG (Q:=Qo o Q) hP h hr fun ch w' σ' I' F' h1 h2 h3 h4=>by
        unfold Dx at h3
        cases hb:(uC o.op||yH o.op) with
        | true=>rw[hb] at h3;exact h3.elim
        | false=>rw[hb] at h3;exact⟨hb,hX ch σ' I' F' a w' h1 h2 h3 ⟨h4,fun _ _=>rfl,rfl⟩⟩
       refine rQ (.inr (sL (hops i o ho))) ?_
       unfold Dk at hh ⊢
       revert hh
       generalize (execOp a.eval o).run P w=res
       intro hh
       have step:∀a' w',jK o σ I a (fun σ' I' F'=>iF P A rid ops Kp r σ' I' F' K) a' w'→rL P ro ops qA Q r a' w':=by
        intro a' w' ⟨σ',I',F',h1,h2,h3,h4,v,h5⟩
        have hk:du (dz ops.toList) σ a σ' a':=du.Ds h4 _ _ _ hd h5
        exact eH hP hops r σ' I' F' _ w' h3 h1
         (fun σ2 I2 F2 a2 w2 g1 g2 g3 g4=>hN σ2 I2 F2 a2 w2 g1 (cS.le_trans h2 g2) g3 (hk.trans g4))
         (fun ch σ2 I2 F2 a2 w2 g1 g2 g3 g4=>hX ch σ2 I2 F2 a2 w2 g1 (cS.le_trans h2 g2) g3 (hk.trans g4))
       cases res with
       | ok n w' =>
         cases n<;>simp only[Oper.uponIn] at hh ⊢<;>first | exact step _ _ hh | exact hh.elim | skip
         ·refine⟨hh.1,hh.2.mono fun e w'' hq=>?_⟩
          cases e with
          | returned v=>exact step _ _ hq
          | panicked ch=>exact hq
          | outgrown=>exact hq
         ·refine⟨hh.1,hh.2.mono fun e w'' hq=>?_⟩
          cases e with
          | returned v=>exact step _ _ hq
          | panicked ch=>exact hq
          | outgrown=>exact hq
         ·exact⟨hh.1,hh.2.mono fun v w'' hq=>step _ _ hq⟩
       | halt x w'=>cases x<;>simp only[Oper.uponIn] at hh ⊢<;>first | exact hh | exact hh.elim
    ·rename_i hw
     rw[if_neg (by rw[fR hw hr.t];simp)]
     have hk:du (dz ops.toList) σ a (σ.put o.dst (some (.a (.v undef)))) (a.put o.dst undef):=du.put (dv.put _ _ _) _ _ _ hd
     exact eH hP hops r _ I F _ w h (hr.put o.dst (av:=.a (.v undef)) rfl trivial)
      (fun σ2 I2 F2 a2 w2 g1 g2 g3 g4=>hN σ2 I2 F2 a2 w2 g1 g2 g3 (hk.trans g4))
      (fun ch σ2 I2 F2 a2 w2 g1 g2 g3 g4=>hX ch σ2 I2 F2 a2 w2 g1 g2 g3 (hk.trans g4))
    ·exact h.elim
def FV(ops:Array Oper)(a a':Act):Prop:=a'.tmps.size=a.tmps.size∧∀t,t∉dz ops.toList→a'.tmps[t]? = a.tmps[t]?
theorem FV.back{a a':Act}{t:Nat}{v:Value}(ht:t∈dz ops.toList)(h:FV ops a (a'.put (some t) v)):FV ops a a':=by
 have h1:dv (⟨[],[],[]⟩:S) ⟨[],[],[]⟩:=dv.refl _
 have hk:du (dz ops.toList) (⟨[],[],[]⟩:S) a' ⟨[],[],[]⟩ (a'.put (some t) v):=du.Ds h1 (some t) v _ (fun x hx=>by cases hx;exact ht) rfl
 exact⟨hk.size.symm.trans h.1,fun x hx=>(hk.tm x hx).symm.trans (h.2 x hx)⟩
def Pn.at(ops:Array Oper)(a:Act)(Q:Exit→Act→World→Prop):Pn ops :=
 ⟨fun c a' w'=>FV ops a a'∧∀a'',FV ops a a''→a''.defers=a'.defers→Q (.panic c) a'' w',fun c a' t v w ht h=>⟨h.1.back ht,fun a'' h1 h2=>h.2 a'' h1 (h2.trans rfl)⟩⟩
theorem sS(l:List Nat):∀(r:List (Option AV)) (t0 t:Nat) (av:AV),(vZ l t0 r)[t]? = some (some av)→l.contains (t0+t)=false∧r[t]? = some (some av)
 | [],t0,t,av,h=>by simp[vZ] at h
 | x::r,t0,0,av,h=>by
   simp only[vZ,List.getElem?_cons_zero,Option.some.injEq] at h
   cases hc:l.contains t0 with
   | true=>rw[hc] at h;cases h
   | false=>rw[hc] at h;exact⟨by first | exact hc | rfl,by rw[List.getElem?_cons_zero];exact congrArg some h⟩
 | x::r,t0,t+1,av,h=>by
   simp only[vZ,List.getElem?_cons_succ] at h
   have:=sS l r (t0+1) t av h
   rw[show t0+1+t=t0+(t+1) by omega] at this
   exact⟨this.1,by rw[List.getElem?_cons_succ];exact this.2⟩
theorem xv(l:List Nat):∀(r:List (Option AV)) (t0:Nat),(vZ l t0 r).length=r.length
 | [],_=>rfl
 | x::r,t0=>by simp[vZ,xv l r]
theorem Pn.ok{Kp:List PanicEntry→S→cS→cR→Prop}{Q:Exit→Act→World→Prop}{σ σ':S}{I I':cS}{F':cR}{a a':Act}{w':World}{ch:List PanicEntry}(hX:∀ch σ' I' F' a' w',Rel σ' I' F' a' w'→cS.le I I'→Kp ch σ' I' F'→du (dz ops.toList) σ a σ' a'→Q (.panic ch) a' w')
  (h1:Rel σ' I' F' a' w') (h2:cS.le I I') (h3:Kp ch (σ'.ry ops) I' F') (h4:du (dz ops.toList) σ a σ' a'):(Pn.at ops a Q).f ch a' w':=by
 refine⟨⟨h4.size,h4.tm⟩,fun a'' g1 g2=>hX ch (σ'.ry ops) I' F' a'' w' ⟨?_,fun t av ht=>?_, ?_,fun t av ht=>?_,h1.wfo,h1.sat⟩ h2 h3 ⟨h4.own,g1.2,g1.1⟩⟩
 ·show (vZ _ 0 σ'.tm).length=_
  rw[xv,h1.size,h4.size,g1.1]
 ·have:=sS _ _ _ _ _ ht
  rw[Nat.zero_add] at this
  have hn:t∉dz ops.toList:=fun hm=>by
   have hc:(dz ops.toList).contains t=true:=by simpa using hm
   rw[hc] at this;cases this.1
  rw[g1.2 t hn,←h4.tm t hn];exact h1.tm t av this.2
 ·rw[g2];exact h1.defers
 ·exact h1.wft t av (sS _ _ _ _ _ ht).2
theorem yZ{ro:Option Nat}(hP:∀f,A.good f=true→dA P f){id:Nat}{l:List Nat}{σ:S}{I:cS}{F:cR}{K:S→cS→cR→Prop}{Kp:List PanicEntry→S→cS→cR→Prop}{a:Act}{w:World}(hm:P.follows .mixedOrders=true)
  (hB:FU ops qA l=true) (h:iF P A rid ops (fun ch σ' I' F'=>Kp ch (σ'.ry ops) I' F') l σ I F K) (hr:Rel σ I F a w) {Q:Exit→Act→World→Prop}
  (hQ:∀σ' I' F' a' w',Rel σ' I' F' a' w'→cS.le I I'→K σ' I' F'→du (dz ops.toList) σ a σ' a'→Q .normal a' w')
  (hX:∀ch σ' I' F' a' w',Rel σ' I' F' a' w'→cS.le I I'→Kp ch σ' I' F'→du (dz ops.toList) σ a σ' a'→Q (.panic ch) a' w'):(Code.region id ops true).wpIn (Fw ro) 0 P Q a w:=by
 have hops:∀(i:Nat) (o:Oper),ops[i]? = some o→gH o.op=true:=fun i o ho=>by
  have hm:o∈ops.toList:=by have:=Array.mem_of_getElem? ho;simpa using this
  simp only[FU,Bool.and_eq_true] at hB
  have:=List.all_eq_true.1 hB.2 o hm
  simp only[Bool.and_eq_true] at this
  exact this.1
 have hr':Rel σ I F a { w with drawn:=w.drawn+1 }:=hr.s.rel (hr.sat.of_heap rfl ⟨rfl,rfl⟩)
 have hg:=eH (ro:=ro) (Q:=Qx (Pn.at ops a Q) fun a w=>Q .normal a w) hP hops l σ I F a _ h hr' (fun σ' I' F' a' w' h1 h2 h3 h4=>hQ σ' I' F' a' w' h1 h2 h3 h4) fun ch σ' I' F' a' w' h1 h2 h3 h4=>Pn.ok hX h1 h2 h3 h4
 exact wpIn_mono (wpIn_region_any hm (Cg (lj _ _) hB hg)) fun e a' w' hq=>by
  cases e with
  | normal=>exact hq
  | panic ch=>exact hq.2 a' hq.1 rfl
  | _=>exact hq.elim
theorem xw{ro:Option Nat}(hP:∀f,A.good f=true→dA P f){id:Nat}{l:List Nat}{p q:Nat}{lA lB:List Nat}{σ:S}{I:cS}{F:cR}{K:S→cS→cR→Prop}{Kp:List PanicEntry→S→cS→cR→Prop}{a:Act}{w:World}(hm:P.follows .mixedOrders=true)
  (hB:Ch ops qA l p q lA lB=true) (h:iF P A rid ops (fun ch σ' I' F'=>Kp ch (σ'.ry ops) I' F') l σ I F fun σ' I' F'=>iF P A rid ops (fun ch σ' I' F'=>Kp ch (σ'.ry ops) I' F') (p::lA) σ' I' F' K∧iF P A rid ops (fun ch σ' I' F'=>Kp ch (σ'.ry ops) I' F') (q::lB) σ' I' F' K) (hr:Rel σ I F a w) {Q:Exit→Act→World→Prop}
  (hQ:∀σ' I' F' a' w',Rel σ' I' F' a' w'→cS.le I I'→K σ' I' F'→du (dz ops.toList) σ a σ' a'→Q .normal a' w')
  (hX:∀ch σ' I' F' a' w',Rel σ' I' F' a' w'→cS.le I I'→Kp ch σ' I' F'→du (dz ops.toList) σ a σ' a'→Q (.panic ch) a' w'):(Code.region id ops true).wpIn (Fw ro) 0 P Q a w:=by
 have hops:∀(i:Nat) (o:Oper),ops[i]? = some o→gH o.op=true:=fun i o ho=>by
  have hm:o∈ops.toList:=by have:=Array.mem_of_getElem? ho;simpa using this
  simp only[Ch,Bool.and_eq_true] at hB
  have:=List.all_eq_true.1 hB.2 o hm
  simp only[Bool.and_eq_true] at this
  exact this.1
 have hr':Rel σ I F a { w with drawn:=w.drawn+1 }:=hr.s.rel (hr.sat.of_heap rfl ⟨rfl,rfl⟩)
 have hg:=eH (ro:=ro) (Q:=Qx (Pn.at ops a Q) (EO P ro ops qA (Pn.at ops a Q) (fun a w=>Q .normal a w) p q lA lB)) hP hops l σ I F a _ h hr' (fun σ' I' F' a' w' h1 h2 h3 h4 =>
  ⟨eH (ro:=ro) (Q:=Qx (Pn.at ops a Q) fun a w=>Q .normal a w) hP hops (p::lA) σ' I' F' a' w' h3.1 h1 (fun σ2 I2 F2 a2 w2 g1 g2 g3 g4=>hQ σ2 I2 F2 a2 w2 g1 (cS.le_trans h2 g2) g3 (h4.trans g4)) fun ch σ2 I2 F2 a2 w2 g1 g2 g3 g4=>Pn.ok hX g1 (cS.le_trans h2 g2) g3 (h4.trans g4),
    eH (ro:=ro) (Q:=Qx (Pn.at ops a Q) fun a w=>Q .normal a w) hP hops (q::lB) σ' I' F' a' w' h3.2 h1 (fun σ2 I2 F2 a2 w2 g1 g2 g3 g4=>hQ σ2 I2 F2 a2 w2 g1 (cS.le_trans h2 g2) g3 (h4.trans g4)) fun ch σ2 I2 F2 a2 w2 g1 g2 g3 g4=>Pn.ok hX g1 (cS.le_trans h2 g2) g3 (h4.trans g4)⟩)
  fun ch σ' I' F' a' w' h1 h2 h3 h4=>Pn.ok hX h1 h2 h3 h4
 exact wpIn_mono (wpIn_region_any hm (A8 hB hg)) fun e a' w' hq=>by
  cases e with
  | normal=>exact hq
  | panic ch=>exact hq.2 a' hq.1 rfl
  | _=>exact hq.elim
def uH(own0:List dQ)(I0:cS)(w:World):Prop:=(∀(j:Nat) (b:dQ),own0[j]? = some b→w.heap[b.num]? = some b.obj)∧∀(b:Nat) (o:Obj),I0 b=some o→w.heap[b]? = some o
def uI(own0:List dQ)(σ:S):Prop:=∀(j:Nat) (b:dQ),own0[j]? = some b→∃b':dQ,σ.own[j]? = some b'∧b'.num=b.num∧b'.elem=b.elem∧b'.cells=b.cells∧b'.ro=true
theorem uI.keep{own0:List dQ}{σ σ':S}(h:uI own0 σ)(k:dv σ σ'):uI own0 σ':=fun j b hb=>by
 obtain⟨b',h1,h2,h3,h4,h5⟩:=h j b hb
 obtain⟨b2,g1,g2,g3,g4⟩:=k j b' h1
 obtain⟨g5,g6⟩:=g4 h5
 exact⟨b2,g1,g2.trans h2,g3.trans h3,g6.trans h4,g5⟩
theorem uI.obj{own0:List dQ}{σ:S}(h:uI own0 σ){j:Nat}{b b':dQ}(hb:own0[j]? = some b)(hb':σ.own[j]? = some b'):b'.num=b.num∧b'.obj=b.obj:=by
 obtain⟨b2,h1,h2,h3,h4,h5⟩:=h j b hb
 rw[hb'] at h1
 obtain rfl:=Option.some.inj h1
 exact⟨h2,by unfold dQ.obj;rw[h3,h4]⟩
theorem uI.inv{own0:List dQ}{σ:S}{I0 I:cS}{F:cR}{a:Act}{w:World}(h:uI own0 σ)(hr:Rel σ I F a w)(hl:cS.le I0 I):uH own0 I0 w:=⟨fun j b hb=>by
 obtain⟨b',h1,_⟩:=h j b hb
 obtain⟨e1,e2⟩:=h.obj hb h1
 rw[←e1,←e2]
 exact hr.sat.own _ _ (List.mem_append_left _ (List.mem_map.2 ⟨b',List.mem_of_getElem? h1,rfl⟩)),fun b o ho=>hr.sat.imm _ _ (hl.at ho)⟩
theorem Bb{own0:List dQ}{I0:cS}{w:World}(h:uH own0 I0 w):Reads I0 [] w:=by
 intro ad cs ⟨hsp,cells,e,fz,ho,hc⟩ j hj
 have hb:w.heap[ad.block]? = some (.cells cells e fz):=ho.elim (h.2 _ _) fun h=>by cases h
 unfold World.cell? Addr.add
 by_cases h0:j=0
 ·subst h0;simp[hb,hsp];have:=hc 0 hj;simpa using this
 ·simp[h0,hb];exact hc j hj
theorem eI{ro:Option Nat}(hP:∀f,A.good f=true→dA P f){os:List Nat}{own0:List dQ}{I0:cS}{Kp:List PanicEntry→S→cS→cR→Prop}{K:S→cS→cR→Prop}{N:Pn ops}{R:Act→World→Prop}(hops:∀(i:Nat) (o:Oper),ops[i]? = some o→gH o.op=true) :
  ∀(l:List Nat) (σ:S) (I:cS) (F:cR) (a:Act) (w:World),kV P A rid ops Kp os I0 own0.length l σ I F K→Rel σ I F a w→uI own0 σ→cS.le I0 I →
   (∀σ' I' F' a' w',Rel σ' I' F' a' w'→cS.le I I'→K σ' I' F'→du (dz ops.toList) σ a σ' a'→R a' w') →
   (∀ch σ' I' F' a' w',Rel σ' I' F' a' w'→cS.le I I'→Kp ch σ' I' F'→du (dz ops.toList) σ a σ' a'→N.f ch a' w') →
   vX P ro ops qA N R (uH own0 I0) os l a w
 | [],σ,I,F,a,w,h,hr,hH,hl,hN,hX=>hN σ I F a w hr (cS.le_refl I) h (du.refl _ _ _)
 | i::r,σ,I,F,a,w,h,hr,hH,hl,hN,hX=>by
   simp only[kV] at h
   split at h
   ·exact h.elim
   ·rename_i o ho
    have hd:∀t,o.dst=some t→t∈dz ops.toList:=fun t ht=>List.mem_filterMap.2 ⟨o,by have:=Array.mem_of_getElem? ho;simpa using this,ht⟩
    show fV P ro ops qA N R (uH own0 I0) os i (vX P ro ops qA N R (uH own0 I0) os r) a w
    unfold fV
    by_cases hio:i∈os
    ·rw[if_pos hio]
     refine⟨o,ho, ?_⟩
     split at h
     ·rename_i hw
      rw[show os.contains i=true by simpa using hio,cond_true] at h
      obtain⟨av,hk,hy⟩:=kS h
      obtain⟨av',hg,hwf',hk⟩:=mh hk
      have hwf:=hy.wf σ.own hr.wft hr.wfo
      refine⟨av.g,⟨fun _ w' hI=>hy.run a w' hr.t hr.wft (fun j b hb hh=>?_) (Bb hI),fun hn=>absurd (fR hw hr.t) hn⟩, ?_⟩
      ·have hj:j<σ.own.length:=(List.getElem?_eq_some_iff.1 hb).1
       have hj0:j<own0.length:=by
        rcases Nat.lt_or_ge j own0.length with h | h
        ·exact h
        ·have:((List.range σ.own.length).drop own0.length).contains j=true:=by
          simp only[List.contains_iff_mem]
          refine List.mem_iff_getElem?.2 ⟨j-own0.length, ?_⟩
          rw[List.getElem?_drop,show own0.length+(j-own0.length)=j by omega]
          simp[hj]
         rw[this] at hh;cases hh
       obtain⟨e1,e2⟩:=hH.obj (List.getElem?_eq_getElem hj0) hb
       rw[e1,e2]
       exact hI.1 j _ (List.getElem?_eq_getElem hj0)
      ·have hr':Rel (σ.put o.dst (some av')) I F (a.put o.dst av.g) w:=hr.put o.dst hg (hwf' hwf)
       have hkp:du (dz ops.toList) σ a (σ.put o.dst (some av')) (a.put o.dst av.g):=du.put (dv.put _ _ _) _ _ _ hd
       exact eI hP hops r _ I F _ w hk hr' (hH.keep hkp.own) hl (fun σ2 I2 F2 a2 w2 g1 g2 g3 g4=>hN σ2 I2 F2 a2 w2 g1 g2 g3 (hkp.trans g4)) fun ch σ2 I2 F2 a2 w2 g1 g2 g3 g4=>hX ch σ2 I2 F2 a2 w2 g1 g2 g3 (hkp.trans g4)
     ·rename_i hw
      have hk:du (dz ops.toList) σ a (σ.put o.dst (some (.a (.v undef)))) (a.put o.dst undef):=du.put (dv.put _ _ _) _ _ _ hd
      refine⟨undef,⟨fun hn=>by (rw[fR hw hr.t] at hn;cases hn),fun _=>rfl⟩, ?_⟩
      exact eI hP hops r _ I F _ w h (hr.put o.dst (av:=.a (.v undef)) rfl trivial) (hH.keep hk.own) hl
       (fun σ2 I2 F2 a2 w2 g1 g2 g3 g4=>hN σ2 I2 F2 a2 w2 g1 g2 g3 (hk.trans g4)) (fun ch σ2 I2 F2 a2 w2 g1 g2 g3 g4=>hX ch σ2 I2 F2 a2 w2 g1 g2 g3 (hk.trans g4))
     ·exact h.elim
    ·rw[if_neg hio]
     refine⟨o,ho, ?_⟩
     split at h
     ·rename_i hw
      rw[if_pos (fR hw hr.t)]
      rw[show os.contains i=false by simpa using hio,cond_false] at h
      cases hp:qA o with
      | true =>
        rw[if_pos rfl]
        rw[hp,cond_true] at h
        obtain⟨av,hk,hy⟩:=kS h
        obtain⟨av',hg,hwf',hk⟩:=mh hk
        have hwf:=hy.wf σ.own hr.wft hr.wfo
        refine⟨av.g,fun w'=>hy.run a w' hr.t hr.wft (fun j b hb hh=>?_) (xu I w'), ?_⟩
        ·have:j<σ.own.length:=(List.getElem?_eq_some_iff.1 hb).1
         have hc:(List.range σ.own.length).contains j=true:=by simpa using this
         rw[hc] at hh;cases hh
        ·have hr':Rel (σ.put o.dst (some av')) I F (a.put o.dst av.g) w:=hr.put o.dst hg (hwf' hwf)
         have hkp:du (dz ops.toList) σ a (σ.put o.dst (some av')) (a.put o.dst av.g):=du.put (dv.put _ _ _) _ _ _ hd
         have hH':=hH.keep hkp.own
         exact⟨hH'.inv hr' hl,eI hP hops r _ I F _ w hk hr' hH' hl (fun σ2 I2 F2 a2 w2 g1 g2 g3 g4=>hN σ2 I2 F2 a2 w2 g1 g2 g3 (hkp.trans g4)) fun ch σ2 I2 F2 a2 w2 g1 g2 g3 g4=>hX ch σ2 I2 F2 a2 w2 g1 g2 g3 (hkp.trans g4)⟩
      | false =>
        rw[if_neg (by simp)]
        rw[hp,cond_false] at h
        have hh:=qG (Q:=Qo o (Qx N R)) hP h hr fun ch w' σ' I' F' h1 h2 h3 h4=>by
         unfold Dx at h3
         cases hb:(uC o.op||yH o.op) with
         | true=>rw[hb] at h3;exact h3.elim
         | false=>rw[hb] at h3;exact⟨hb,hX ch σ' I' F' a w' h1 h2 h3 ⟨h4,fun _ _=>rfl,rfl⟩⟩
        refine rQ (.inr (sL (hops i o ho))) ?_
        unfold Dk at hh ⊢
        revert hh
        generalize (execOp a.eval o).run P w=res
        intro hh
        have step:∀a' w',jK o σ I a (fun σ' I' F'=>kV P A rid ops Kp os I0 own0.length r σ' I' F' K) a' w'→uH own0 I0 w'∧vX P ro ops qA N R (uH own0 I0) os r a' w':=by
         intro a' w' ⟨σ',I',F',h1,h2,h3,h4,v,h5⟩
         have hk:du (dz ops.toList) σ a σ' a':=du.Ds h4 _ _ _ hd h5
         exact⟨(hH.keep h4).inv h1 (cS.le_trans hl h2),eI hP hops r σ' I' F' _ w' h3 h1 (hH.keep h4) (cS.le_trans hl h2)
          (fun σ2 I2 F2 a2 w2 g1 g2 g3 g4=>hN σ2 I2 F2 a2 w2 g1 (cS.le_trans h2 g2) g3 (hk.trans g4)) (fun ch σ2 I2 F2 a2 w2 g1 g2 g3 g4=>hX ch σ2 I2 F2 a2 w2 g1 (cS.le_trans h2 g2) g3 (hk.trans g4))⟩
        cases res with
        | ok n w' =>
          cases n<;>simp only[Oper.uponIn] at hh ⊢<;>first | exact step _ _ hh | exact hh.elim | skip
          ·refine⟨hh.1,hh.2.mono fun e w'' hq=>?_⟩
           cases e with
           | returned v=>exact step _ _ hq
           | panicked ch=>exact hq
           | outgrown=>exact hq
          ·refine⟨hh.1,hh.2.mono fun e w'' hq=>?_⟩
           cases e with
           | returned v=>exact step _ _ hq
           | panicked ch=>exact hq
           | outgrown=>exact hq
          ·exact⟨hh.1,hh.2.mono fun v w'' hq=>step _ _ hq⟩
        | halt x w'=>cases x<;>simp only[Oper.uponIn] at hh ⊢<;>first | exact hh | exact hh.elim
     ·rename_i hw
      rw[if_neg (by rw[fR hw hr.t];simp)]
      have hk:du (dz ops.toList) σ a (σ.put o.dst (some (.a (.v undef)))) (a.put o.dst undef):=du.put (dv.put _ _ _) _ _ _ hd
      have hr':=hr.put o.dst (av:=.a (.v undef)) rfl trivial
      exact⟨(hH.keep hk.own).inv hr' hl,eI hP hops r _ I F _ w h hr' (hH.keep hk.own) hl             (fun σ2 I2 F2 a2 w2 g1 g2 g3 g4=>hN σ2 I2 F2 a2 w2 g1 g2 g3 (hk.trans g4)) (fun ch σ2 I2 F2 a2 w2 g1 g2 g3 g4=>hX ch σ2 I2 F2 a2 w2 g1 g2 g3 (hk.trans g4))⟩
     ·exact h.elim
theorem xx{ro:Option Nat}(hP:∀f,A.good f=true→dA P f){id m n:Nat}{hid:List Nat}{σ:S}{I:cS}{F:cR}{K:S→cS→cR→Prop}{Kp:List PanicEntry→S→cS→cR→Prop}{a:Act}{w:World}(hm:P.follows .mixedOrders=true)
  (hT:pY ops m=true) (hS:ops.toList.all (fun o=>gH o.op)=true) (hB:rq (ops.extract 0 m)=true)
  (h:wD P A rid (ops.extract 0 m) n hid (ops.extract 0 m).toList 0 σ I F fun σ' F'=>vS P A rid ops (ops.toList.drop m) m σ' I F' K Kp) (hr:Rel σ I F a w) {Q:Exit→Act→World→Prop}
  (hQ:∀σ' I' F' a' w',Rel σ' I' F' a' w'→cS.le I I'→K σ' I' F'→du (dz ops.toList) σ a σ' a'→Q .normal a' w')
  (hX:∀ch σ' I' F' a' w',Rel σ' I' F' a' w'→cS.le I I'→Kp ch σ' I' F'→du (dz ops.toList) σ a σ' a'→Q (.panic ch) a' w'):(Code.region id ops true).wpIn (Fw ro) 0 P Q a w:=by
 have hr':Rel σ I F a { w with drawn:=w.drawn+1 }:=hr.s.rel (hr.sat.of_heap rfl ⟨rfl,rfl⟩)
 have hmm:m≤ops.size:=by
  simp only[pY,Bool.and_eq_true,decide_eq_true_eq] at hT
  exact hT.1
 have hsz:(ops.extract 0 m).size=m:=by simp;omega
 have hnd:(ops.toList.drop m).all (fun o=>sJ o.op)=true:=List.all_eq_true.2 fun o ho=>by
  have:=List.all_eq_true.1 hS o (List.mem_of_mem_drop ho)
  revert this;cases o.op<;>simp[gH,sJ]
 have hsub:∀t∈dz (ops.extract 0 m).toList,t∈dz ops.toList:=fun t ht=>by
  unfold dz at ht ⊢
  obtain⟨o,ho,he⟩:=List.mem_filterMap.1 ht
  refine List.mem_filterMap.2 ⟨o, ?_,he⟩
  rw[Array.toList_extract] at ho
  exact List.mem_of_mem_drop (List.mem_of_mem_take ho)
 have hsub2:∀t∈dz (ops.toList.drop m),t∈dz ops.toList:=fun t ht=>by
  unfold dz at ht ⊢
  obtain⟨o,ho,he⟩:=List.mem_filterMap.1 ht
  exact List.mem_filterMap.2 ⟨o,List.mem_of_mem_drop ho,he⟩
 have hlen:(ops.toList.drop m).length=ops.size-m:=by simp
 have heq:=wpOpsIn_eq_wpListIn (F:=Fw ro) (n:=0) (P:=P) (ops:=ops) (Q:=Q) (ops.toList.drop m) m (fun j=>by rw[List.getElem?_drop];simp)
 rw[hlen] at heq
 have hd:=sK (ro:=ro) (Q:=fun e a' w'=>e=.normal∧wpOpsIn (Fw ro) 0 P ops Q (List.range' m (ops.size-m)) a' w') hP hB h hr' fun σ' F' a' w' h1 h2 h3 =>
  ⟨rfl,by
    rw[heq]
    exact kU hP (ops.toList.drop m) m σ' I F' a' w' (.inr hnd) h2 h1 (fun σ2 I2 F2 a2 w2 g1 g2 g3 g4=>hQ σ2 I2 F2 a2 w2 g1 g2 g3 ((h3.mono hsub).trans (g4.mono hsub2)))
     (fun ch σ2 I2 F2 a2 w2 g1 g2 g3 g4=>hX ch σ2 I2 F2 a2 w2 g1 g2 g3 ((h3.mono hsub).trans (g4.mono hsub2)))⟩
 rw[hsz] at hd
 exact wpIn_region_any hm (A3 hT (fun e a w hne h=>absurd h.1 hne) (fun a w h=>h.2) hd)
theorem ll{ro:Option Nat}(hP:∀f,A.good f=true→dA P f){os:List Nat}{own0:List dQ}{I0:cS}{Kp:List PanicEntry→S→cS→cR→Prop}{M:List Nat→S→cS→cR→Prop}{N:Pn ops}{R:Act→World→Prop}(hops:∀(i:Nat) (o:Oper),ops[i]? = some o→gH o.op=true) :
  ∀(t:Ot) (σ:S) (I:cS) (F:cR) (a:Act) (w:World),sR P A rid ops Kp os I0 own0.length M t σ I F→Rel σ I F a w→uI own0 σ→cS.le I0 I →
   (∀post σ' I' F' a' w',Rel σ' I' F' a' w'→cS.le I I'→M post σ' I' F'→du (dz ops.toList) σ a σ' a'→rL P ro ops qA (Qx N R) post a' w') →
   (∀ch σ' I' F' a' w',Rel σ' I' F' a' w'→cS.le I I'→Kp ch σ' I' F'→du (dz ops.toList) σ a σ' a'→N.f ch a' w') →
   El P ro ops qA N R (uH own0 I0) os t a w
 | .fin pre post,σ,I,F,a,w,h,hr,hH,hl,hN,hX=>eI hP hops pre σ I F a w h hr hH hl (fun σ' I' F' a' w' g1 g2 g3 g4=>hN post σ' I' F' a' w' g1 g2 g3 g4) hX
 | .fork pre i j x y,σ,I,F,a,w,h,hr,hH,hl,hN,hX =>
   eI hP hops pre σ I F a w h hr hH hl (fun σ' I' F' a' w' g1 g2 g3 g4 =>
    ⟨kp (R:=El P ro ops qA N R (uH own0 I0) os x) (eI hP hops [i] σ' I' F' a' w' g3.1 g1 (hH.keep g4.own) (cS.le_trans hl g2) (fun σ2 I2 F2 a2 w2 k1 k2 k3 k4 =>
      ll hP hops x σ2 I2 F2 a2 w2 k3 k1 ((hH.keep g4.own).keep k4.own) (cS.le_trans hl (cS.le_trans g2 k2)) (fun post σ3 I3 F3 a3 w3 m1 m2 m3 m4=>hN post σ3 I3 F3 a3 w3 m1 (cS.le_trans g2 (cS.le_trans k2 m2)) m3 ((g4.trans k4).trans m4))
       fun ch σ3 I3 F3 a3 w3 m1 m2 m3 m4=>hX ch σ3 I3 F3 a3 w3 m1 (cS.le_trans g2 (cS.le_trans k2 m2)) m3 ((g4.trans k4).trans m4)) fun ch σ2 I2 F2 a2 w2 k1 k2 k3 k4=>hX ch σ2 I2 F2 a2 w2 k1 (cS.le_trans g2 k2) k3 (g4.trans k4)),
     kp (R:=El P ro ops qA N R (uH own0 I0) os y) (eI hP hops [j] σ' I' F' a' w' g3.2 g1 (hH.keep g4.own) (cS.le_trans hl g2) (fun σ2 I2 F2 a2 w2 k1 k2 k3 k4 =>
      ll hP hops y σ2 I2 F2 a2 w2 k3 k1 ((hH.keep g4.own).keep k4.own) (cS.le_trans hl (cS.le_trans g2 k2)) (fun post σ3 I3 F3 a3 w3 m1 m2 m3 m4=>hN post σ3 I3 F3 a3 w3 m1 (cS.le_trans g2 (cS.le_trans k2 m2)) m3 ((g4.trans k4).trans m4))
       fun ch σ3 I3 F3 a3 w3 m1 m2 m3 m4=>hX ch σ3 I3 F3 a3 w3 m1 (cS.le_trans g2 (cS.le_trans k2 m2)) m3 ((g4.trans k4).trans m4)) fun ch σ2 I2 F2 a2 w2 k1 k2 k3 k4=>hX ch σ2 I2 F2 a2 w2 k1 (cS.le_trans g2 k2) k3 (g4.trans k4))⟩) hX
end
end Go.Vc
namespace Go.Vc
theorem nE:∀{l:List Lf} {vs:List Value},eF l vs=true→vs.length=l.length
 | [],[],_=>rfl
 | l::r,v::vs,h=>by simp only[eF,Bool.and_eq_true] at h;simp[nE h.2]
 | [],_::_,h=>by simp[eF] at h
 | _::_,[],h=>by simp[eF] at h
theorem kW:∀{l m:List Lf} {vs us:List Value},eF l vs=true→eF m us=true→eF (l++m) (vs++us)=true
 | [],_,[],_,_,h=>h
 | l::r,_,v::vs,_,h,k=>by
   simp only[eF,Bool.and_eq_true,List.cons_append] at h ⊢
   exact⟨h.1,kW h.2 k⟩
 | [],_,_::_,_,h,_=>by simp[eF] at h
 | _::_,_,[],_,h,_=>by simp[eF] at h
theorem lQ(σ:S):∀tms:List (Nat×Lf),(lP σ tms).length=tms.length
 | []=>rfl
 | (t,l)::r=>by simp[lP,lQ σ r]
theorem sT{σ:S}:∀{tms:List (Nat×Lf)} {k t:Nat} {v:Value},yV σ tms=true→(tms.map Prod.fst)[k]? = some t→(lP σ tms)[k]? = some v →
  ∃av,σ.tm[t]? = some (some av)∧av.g=v
 | [],k,t,v,_,h,_=>by simp at h
 | (s,l)::r,0,t,v,hok,h,hv=>by
   simp only[List.map_cons,List.getElem?_cons_zero,Option.some.injEq] at h
   subst h
   simp only[yV,Bool.and_eq_true] at hok
   simp only[lP,List.getElem?_cons_zero,Option.some.injEq] at hv
   obtain⟨h1,_⟩:=hok
   split at h1
   ·rename_i av ha;rw[ha] at hv;exact⟨av,ha,hv⟩
   ·cases h1
 | (s,l)::r,k+1,t,v,hok,h,hv=>by
   simp only[yV,Bool.and_eq_true] at hok
   simp only[lP,List.getElem?_cons_succ] at hv
   exact sT hok.2 (by simpa using h) hv
theorem vg{σ:S}:∀{tms:List (Nat×Lf)},yV σ tms=true→eF (tms.map Prod.snd) (lP σ tms)=true
 | [],_=>rfl
 | (s,l)::r,h=>by
   simp only[yV,Bool.and_eq_true] at h
   simp only[List.map_cons,lP,eF,Bool.and_eq_true]
   refine⟨?_,vg h.2⟩
   obtain⟨h1,_⟩:=h
   split at h1
   ·exact h1
   ·cases h1
theorem vh{own:List dQ}:∀{bks:List (Nat×List Lf)},pf own bks=true→eF (bks.flatMap Prod.snd) (pe own bks)=true
 | [],_=>rfl
 | (s,l)::r,h=>by
   simp only[pf,Bool.and_eq_true] at h
   simp only[List.flatMap_cons,pe]
   refine kW ?_ (vh h.2)
   obtain⟨h1,_⟩:=h
   split at h1
   ·simp only[Bool.and_eq_true] at h1;exact h1.2
   ·cases h1
theorem sU{σ:S}{c:Cut}(h:σ.Ek c=true):eF c.GX (σ.mj c)=true:=by
 simp only[S.Ek,Bool.and_eq_true] at h
 exact kW (vg h.1) (vh h.2)
theorem xy{own:List dQ}:∀{bks:List (Nat×List Lf)} {i:Nat} {b:dQ} {cs:List Value},pf own bks=true→own[i]? = some b →
  pW bks (pe own bks) i=some cs→cs=b.cells.map AV.g
 | [],i,b,cs,_,_,h=>by simp[pW] at h
 | (j,ls)::r,i,b,cs,hok,hi,h=>by
   simp only[pf,Bool.and_eq_true] at hok
   obtain⟨h1,h2⟩:=hok
   split at h1
   ·rename_i b' hb'
    simp only[Bool.and_eq_true] at h1
    have hl:=nE h1.2
    simp only[pW,pe,hb'] at h
    cases hji:(j==i) with
    | true =>
      rw[hji] at h
      simp only[cond_true,Option.some.injEq] at h
      have:j=i:=by simpa using hji
      subst this
      rw[hi] at hb';cases hb'
      rw[←h,←hl];simp
    | false =>
      rw[hji] at h
      simp only[cond_false] at h
      rw[←hl,List.drop_left] at h
      exact xy h2 hi h
   ·cases h1
theorem sV:∀{bks:List (Nat×List Lf)} {vs us:List Value} {i:Nat},(pW bks vs i).isSome=(pW bks us i).isSome
 | [],_,_,_=>rfl
 | (j,ls)::r,vs,us,i=>by
   simp only[pW]
   cases (j==i) with
   | true=>rfl
   | false=>exact sV
theorem v5{own:List dQ}:∀{bks:List (Nat×List Lf)} {vs:List Value} {i:Nat} {b:dQ},pf own bks=true→own[i]? = some b→(pW bks vs i).isSome=true→b.ro=false
 | [],_,_,_,_,_,h=>by simp[pW] at h
 | (j,ls)::r,vs,i,b,hok,hi,h=>by
   simp only[pf,Bool.and_eq_true] at hok
   obtain⟨h1,h2⟩:=hok
   simp only[pW] at h
   cases hji:(j==i) with
   | true =>
     have:j=i:=by simpa using hji
     subst this
     rw[hi] at h1
     simp only[Bool.and_eq_true,Bool.not_eq_true'] at h1
     exact h1.1
   | false=>rw[hji] at h;exact v5 h2 hi h
theorem Ci(c:Cut)(l:List Nat)(vs:List Value)(σ:S):jP σ.own (σ.lay c l vs).own:=fun i b hb=>by
 refine⟨_,by show (eV _ _ 0 σ.own)[i]? = _;rw[gb,hb];rfl, ?_⟩
 split<;>rfl
theorem Cj{c:Cut}{l:List Nat}{vs:List Value}{σ:S}(hok:pf σ.own c.bks=true):dv σ (σ.lay c l vs):=fun i b hb=>by
 refine⟨_,by show (eV _ _ 0 σ.own)[i]? = _;rw[gb,hb];rfl, ?_⟩
 cases hs:pW c.bks (vs.drop c.tms.length) (0+i) with
 | none=>exact⟨rfl,rfl,fun _=>⟨rfl,rfl⟩⟩
 | some cs =>
   refine⟨rfl,rfl,fun hr=>?_⟩
   have:=v5 (vs:=vs.drop c.tms.length) hok hb (by rw[Nat.zero_add] at hs;rw[hs];rfl)
   rw[this] at hr;cases hr
theorem Rel.lay{σ0 σ:S}{I0 I:cS}{F0 F:cR}{a0 a:Act}{w0 w:World}(c:Cut)(l:List Nat)(hr0:Rel σ0 I0 F0 a0 w0)(hr:Rel σ I F a w)
  (hown:∀(i:Nat) (b:dQ),σ0.own[i]? = some b→∃b':dQ,σ.own[i]? = some b'∧b'.num=b.num∧b'.elem=b.elem ∧
    (pW c.bks ((σ.mj c).drop c.tms.length) i=none→b'.cells=b.cells))
  (htm:∀t,t∉l→a.tmps[t]? = a0.tmps[t]?) (hsz:a.tmps.size=a0.tmps.size) (hok:σ.Ek c=true) (hdf:σ.df=σ0.df):Rel (σ0.lay c l (σ.mj c)) I F a w:=by
 have hok':=hok
 simp only[S.Ek,Bool.and_eq_true] at hok'
 have hdrop:(σ.mj c).drop c.tms.length=pe σ.own c.bks:=by
  unfold S.mj;rw[←lQ σ c.tms,List.drop_left]
 have htake:(σ.mj c).take c.tms.length=lP σ c.tms:=by
  unfold S.mj;rw[←lQ σ c.tms,List.take_left]
 have hsame:=Ci c l (σ.mj c) σ0
 refine⟨?_, ?_,hr.defers.trans (by rw[hdf];rfl), ?_, ?_, ?_⟩
 ·simp only[S.lay,oX,oW];rw[hr0.size,hsz]
 ·intro t av ht
  rcases mM _ _ _ t av ht with ⟨k,v,h1,h2,rfl⟩ | h
  ·rw[htake] at h2
   obtain⟨av',h3,h4⟩:=sT hok'.1 h1 h2
   have:=hr.tm t av' h3
   rw[this,h4];rfl
  ·obtain⟨h1,h2⟩:=pg _ _ _ _ h
   rw[htm t h1];exact hr0.tm t av h2
 ·intro t av ht
  rcases mM _ _ _ t av ht with ⟨k,v,h1,h2,rfl⟩ | h
  ·trivial
  ·obtain⟨h1,h2⟩:=pg _ _ _ _ h
   exact AV.fa hsame (hr0.wft t av h2)
 ·intro i b hb cell hc
  have hb':(eV c.bks ((σ.mj c).drop c.tms.length) 0 σ0.own)[i]? = some b:=hb
  rw[gb] at hb'
  cases h0:σ0.own[i]? with
  | none=>rw[h0] at hb';simp at hb'
  | some b0 =>
    rw[h0] at hb'
    simp only[Option.map_some,Option.some.injEq] at hb'
    subst hb'
    split at hc
    ·obtain⟨v,_,rfl⟩:=List.mem_map.1 hc;trivial
    ·exact AV.fa hsame (hr0.wfo i b0 h0 cell hc)
 ·have heq:dm (σ0.lay c l (σ.mj c)).own=(dm σ.own).take σ0.own.length:=by
   apply List.ext_getElem?
   intro i
   simp only[dm,List.getElem?_map,List.getElem?_take,S.lay,gb,Nat.zero_add]
   cases h0:σ0.own[i]? with
   | none =>
     have:¬i<σ0.own.length:=fun h=>by simp[h] at h0
     simp[this]
   | some b0 =>
     have hlt:i<σ0.own.length:=by
      rcases Nat.lt_or_ge i σ0.own.length with h | h
      ·exact h
      ·simp[List.getElem?_eq_none h] at h0
     obtain⟨b',h1,h2,h3,h4⟩:=hown i b0 h0
     simp only[if_pos hlt,h1,Option.map_some]
     cases hs:pW c.bks ((σ.mj c).drop c.tms.length) i with
     | none =>
       have h5:=h4 hs
       simp[dQ.obj,h2,h3,h5]
     | some cs =>
       have h5:=xy hok'.2 h1 (by rw[hdrop] at hs;exact hs)
       simp[dQ.obj,h2,h3,h5,AV.g,At.g,Function.comp_def]
  rw[heq]
  exact hr.sat.sub ((List.take_sublist _ _).append (List.Sublist.refl F))
theorem sW(own0:List dQ):∀(i:Nat) (own:List dQ),dm (Ac own0 i own)=dm own
 | _,[]=>rfl
 | i,b::r=>by
   simp only[Ac,dm,List.map_cons]
   have:=sW own0 (i+1) r
   unfold dm at this
   rw[this]
   congr 1
   split<;>rfl
theorem xz(own0:List dQ)(own:List dQ):jP own (Ac own0 0 own):=fun i b hb=>by
 refine⟨_,by rw[oj,hb];rfl, ?_⟩
 split<;>rfl
theorem Rel.unlock{σ σ0:S}{I:cS}{F:cR}{a:Act}{w:World}(h:Rel σ I F a w):Rel (σ.unlock σ0) I F a w:=by
 refine h.heap (xz _ _) ?_ (by rw[sW];exact h.sat)
 intro i b hb c hc
 rw[oj] at hb
 cases h0:σ.own[i]? with
 | none=>rw[h0] at hb;simp at hb
 | some b0 =>
   rw[h0] at hb
   simp only[Option.map_some,Option.some.injEq] at hb
   have:b.cells=b0.cells:=by rw[←hb];split<;>rfl
   rw[this] at hc
   exact AV.fa (xz _ _) (h.wfo i b0 h0 c hc)
theorem rz{σ0 σ:S}{c:Cut}{l:List Nat}{vs:List Value}(hok:pf σ0.own c.bks=true)(hk:dv (σ0.lay c l vs) σ):dv σ0 (σ.unlock σ0):=fun i b hb=>by
 obtain⟨b1,h1,e1,e2,h2⟩:=Cj (l:=l) (vs:=vs) hok i b hb
 obtain⟨b2,h3,e3,e4,h4⟩:=hk i b1 h1
 refine⟨{ b2 with ro:=b.ro }, ?_,e3.trans e1,e4.trans e2,fun hr=>?_⟩
 ·show (Ac σ0.own 0 σ.own)[i]? = _
  rw[oj,h3,Nat.zero_add,hb];rfl
 ·obtain⟨h5,h6⟩:=h2 hr
  exact⟨hr,(h4 h5).2.trans h6⟩
def gM(bks:List (Nat×List Lf)):Nat→List dQ→List dQ
 | _,[]=>[]
 | i,b::r=>(match pW bks [] i with
   | some _=>b
   | none=>{ b with ro:=true })::gM bks (i+1) r
def S.lock(σ:S)(c:Cut):S:={ σ with own:=gM c.bks 0 σ.own }
theorem lp(bks:List (Nat×List Lf)):∀(i:Nat) (own:List dQ) (j:Nat),(gM bks i own)[j]? = (own[j]?).map fun b =>
  match pW bks [] (i+j) with
  | some _=>b
  | none=>{ b with ro:=true }
 | i,[],j=>by simp[gM]
 | i,b::r,0=>by simp only[gM,List.getElem?_cons_zero,Option.map_some,Nat.add_zero]
 | i,b::r,j+1=>by
   simp only[gM,List.getElem?_cons_succ]
   rw[lp bks (i+1) r j,show i+1+j=i+(j+1) by omega]
theorem vj(bks:List (Nat×List Lf)):∀(i:Nat) (own:List dQ),dm (gM bks i own)=dm own
 | _,[]=>rfl
 | i,b::r=>by
   simp only[gM,dm,List.map_cons]
   have:=vj bks (i+1) r
   unfold dm at this
   rw[this]
   congr 1
   split<;>rfl
theorem rT{σ:S}{c:Cut}{i:Nat}{b:dQ}(hb:σ.own[i]? = some b):∃b',(σ.lock c).own[i]? = some b'∧b'.num=b.num∧b'.elem=b.elem∧b'.cells=b.cells ∧
  (b.ro=true→b'.ro=true)∧(pW c.bks [] i=none→b'.ro=true):=by
 refine⟨_,by show (gM _ 0 σ.own)[i]? = _;rw[lp,hb];rfl, ?_⟩
 rw[Nat.zero_add]
 cases pW c.bks [] i with
 | none=>exact⟨rfl,rfl,rfl,fun _=>rfl,fun _=>rfl⟩
 | some cs=>exact⟨rfl,rfl,rfl,fun h=>h,fun h=>by cases h⟩
theorem Rel.lock{σ:S}{I:cS}{F:cR}{a:Act}{w:World}(h:Rel σ I F a w)(c:Cut):Rel (σ.lock c) I F a w:=by
 have hs:jP σ.own (σ.lock c).own:=fun i b hb=>by
  obtain⟨b',h1,h2,_⟩:=rT (c:=c) hb
  exact⟨b',h1,h2⟩
 refine h.heap hs ?_ (by show Sat I (dm (gM _ 0 _)++F) w;rw[vj];exact h.sat)
 intro i b hb cell hc
 cases h0:σ.own[i]? with
 | none =>
   have h1:(gM c.bks 0 σ.own)[i]? = some b:=hb
   rw[lp,h0] at h1;simp at h1
 | some b0 =>
   obtain⟨b',h1,_,_,h2,_⟩:=rT (c:=c) h0
   have:b'=b:=Option.some.inj (h1.symm.trans hb)
   subst this
   rw[h2] at hc
   exact AV.fa hs (h.wfo i b0 h0 cell hc)
theorem dT{σ0 σ:S}{c:Cut}(hk:dv (σ0.lock c) σ):dv σ0 (σ.unlock σ0):=fun i b hb=>by
 obtain⟨b1,h1,e1,e2,h2,h3,_⟩:=rT (c:=c) hb
 obtain⟨b2,h4,e3,e4,h5⟩:=hk i b1 h1
 refine⟨{ b2 with ro:=b.ro }, ?_,e3.trans e1,e4.trans e2,fun hr=>⟨hr,(h5 (h3 hr)).2.trans h2⟩⟩
 show (Ac σ0.own 0 σ.own)[i]? = _
 rw[oj,h4,Nat.zero_add,hb];rfl
def S.fc(σ:S):S:=σ.lock ⟨[],[],fun _ _ _ _ _ _ _=>True,[],[]⟩
theorem fu(σ:S):uI σ.fc.own σ.fc:=fun j b hb=>by
 refine⟨b,hb,rfl,rfl,rfl, ?_⟩
 have hb':(gM [] 0 σ.own)[j]? = some b:=hb
 rw[lp] at hb'
 cases h0:σ.own[j]? with
 | none=>rw[h0] at hb';simp at hb'
 | some b0 =>
   rw[h0] at hb'
   simp only[Option.map_some,pW,Option.some.injEq] at hb'
   rw[←hb']
theorem lq(σ:S):σ.fc.own.length=σ.own.length:=by
 have h:∀(i:Nat) (own:List dQ),(gM [] i own).length=own.length:=by
  intro i own
  induction own generalizing i with
  | nil=>rfl
  | cons b r ih=>simp[gM,ih]
 exact h 0 σ.own
theorem xA{P:Program}{A:oK}{rid:Nat}{ops:Array Oper}{ro:Option Nat}(hP:∀f,A.good f=true→dA P f){id:Nat}{os pre post:List Nat}{σ:S}{I:cS}{F:cR}{K:S→cS→cR→Prop}{Kp:List PanicEntry→S→cS→cR→Prop}{a:Act}{w:World}(hm:P.follows .mixedOrders=true)
  (hB:ER ops qA os pre post=true) (h:kV P A rid ops (fun ch σ' I' F'=>Kp ch ((σ'.unlock σ).ry ops) I' F') os I σ.own.length pre σ.fc I F fun σ' I' F'=>iF P A rid ops (fun ch σ' I' F'=>Kp ch (σ'.ry ops) I' F') post (σ'.unlock σ) I' F' K) (hr:Rel σ I F a w) {Q:Exit→Act→World→Prop}
  (hQ:∀σ' I' F' a' w',Rel σ' I' F' a' w'→cS.le I I'→K σ' I' F'→du (dz ops.toList) σ a σ' a'→Q .normal a' w')
  (hX:∀ch σ' I' F' a' w',Rel σ' I' F' a' w'→cS.le I I'→Kp ch σ' I' F'→du (dz ops.toList) σ a σ' a'→Q (.panic ch) a' w'):(Code.region id ops true).wpIn (Fw ro) 0 P Q a w:=by
 have hops:∀(i:Nat) (o:Oper),ops[i]? = some o→gH o.op=true:=fun i o ho=>by
  have hm:o∈ops.toList:=by have:=Array.mem_of_getElem? ho;simpa using this
  simp only[ER,Bool.and_eq_true] at hB
  have:=List.all_eq_true.1 hB.2 o hm
  simp only[Bool.and_eq_true] at this
  exact this.1
 have hr1:Rel σ I F a { w with drawn:=w.drawn+1 }:=hr.s.rel (hr.sat.of_heap rfl ⟨rfl,rfl⟩)
 have hr':Rel σ.fc I F a { w with drawn:=w.drawn+1 }:=hr1.lock _
 rw[←lq] at h
 have hg:=eI (ro:=ro) (N:=Pn.at ops a Q) (R:=rL P ro ops qA (Qx (Pn.at ops a Q) fun a w=>Q .normal a w) post) hP hops pre σ.fc I F a _ h hr' (fu σ) (cS.le_refl I) (fun σ' I' F' a' w' h1 h2 h3 h4 =>
  eH (ro:=ro) (Q:=Qx (Pn.at ops a Q) fun a w=>Q .normal a w) hP hops post (σ'.unlock σ) I' F' a' w' h3 h1.unlock (fun σ2 I2 F2 a2 w2 g1 g2 g3 g4 =>
   hQ σ2 I2 F2 a2 w2 g1 (cS.le_trans h2 g2) g3 (((⟨dT h4.own,h4.tm,h4.size⟩:du (dz ops.toList) σ a (σ'.unlock σ) a')).trans g4)) fun ch σ2 I2 F2 a2 w2 g1 g2 g3 g4=>Pn.ok hX g1 (cS.le_trans h2 g2) g3 (((⟨dT h4.own,h4.tm,h4.size⟩:du (dz ops.toList) σ a (σ'.unlock σ) a')).trans g4))
  fun ch σ' I' F' a' w' h1 h2 h3 h4=>Pn.ok hX h1.unlock h2 h3 (⟨dT h4.own,h4.tm,h4.size⟩:du (dz ops.toList) σ a (σ'.unlock σ) a')
 exact wpIn_mono (wpIn_region_any hm (ve hB ((fu σ).inv hr' (cS.le_refl I)) hg)) fun e a' w' hq=>by
  cases e with
  | normal=>exact hq
  | panic ch=>exact hq.2 a' hq.1 rfl
  | _=>exact hq.elim
def cS.del(I:cS)(b:Nat):cS:=⟨fun x=>if x=b then none else I x,I.os,I.out⟩
theorem Sat.Cl{I I':cS}{F:cR}{w:World}{b:Nat}{o:Obj}(hb:I b=none)(hl:cS.le (I.put b o) I')(h:Sat I' F w):cS.le I (I'.del b)∧Sat (I'.del b) ((b,o)::F) w:=by
 have ho:I' b=some o:=hl.at (by simp[cS.put])
 refine⟨⟨fun x y hx=>?_,hl.2.1,hl.2.2⟩,fun x y hx=>?_,fun x y hx=>?_,fun x y hx=>?_, ?_,h.env⟩
 ·have hne:x≠b:=fun e=>by rw[e,hb] at hx;cases hx
  show (if x=b then none else I' x)=some y
  rw[if_neg hne]
  exact hl.at (by simp[cS.put,hne,hx])
 ·have hx:(if x=b then none else I' x)=some y:=hx
  split at hx
  ·cases hx
  ·exact h.imm _ _ hx
 ·rcases List.mem_cons.1 hx with e | hx
  ·cases e;exact h.imm _ _ ho
  ·exact h.own _ _ hx
 ·show (if x=b then none else I' x)=none
  split
  ·rfl
  ·rename_i hne
   rcases List.mem_cons.1 hx with e | hx
   ·cases e;exact absurd rfl hne
   ·exact h.off _ _ hx
 ·rw[List.map_cons,List.nodup_cons]
  refine⟨fun hm=>?_,h.nd⟩
  obtain⟨⟨x,y⟩,hx,rfl⟩:=List.mem_map.1 hm
  have:=h.off _ _ hx
  rw[this] at ho;cases ho
theorem xB{P:Program}{A:oK}{rid:Nat}{ops:Array Oper}{ro:Option Nat}(hP:∀f,A.good f=true→dA P f){id:Nat}{os pre post:List Nat}{σ:S}{I:cS}{F F1:cR}{b:Nat}{o:Obj}{K:S→cS→cR→Prop}{Kp:List PanicEntry→S→cS→cR→Prop}{a:Act}{w:World}(hm:P.follows .mixedOrders=true)
  (hB:ER ops qA os pre post=true) (hp:F.Perm ((b,o)::F1)) (h:kV P A rid ops (fun ch σ' I' F'=>Kp ch ((σ'.unlock σ).ry ops) (I'.del b) ((b,o)::F')) os (I.put b o) σ.own.length pre σ.fc (I.put b o) F1 fun σ' I' F'=>iF P A rid ops (fun ch σ' I' F'=>Kp ch (σ'.ry ops) I' F') post (σ'.unlock σ) (I'.del b) ((b,o)::F') K) (hr:Rel σ I F a w) {Q:Exit→Act→World→Prop}
  (hQ:∀σ' I' F' a' w',Rel σ' I' F' a' w'→cS.le I I'→K σ' I' F'→du (dz ops.toList) σ a σ' a'→Q .normal a' w')
  (hX:∀ch σ' I' F' a' w',Rel σ' I' F' a' w'→cS.le I I'→Kp ch σ' I' F'→du (dz ops.toList) σ a σ' a'→Q (.panic ch) a' w'):(Code.region id ops true).wpIn (Fw ro) 0 P Q a w:=by
 have hops:∀(i:Nat) (o:Oper),ops[i]? = some o→gH o.op=true:=fun i o ho=>by
  have hm:o∈ops.toList:=by have:=Array.mem_of_getElem? ho;simpa using this
  simp only[ER,Bool.and_eq_true] at hB
  have:=List.all_eq_true.1 hB.2 o hm
  simp only[Bool.and_eq_true] at this
  exact this.1
 have hsat:Sat I ((b,o)::(dm σ.own++F1)) w:=hr.sat.perm ((hp.append_left _).trans List.perm_middle)
 have hIb:I b=none:=hsat.off _ _ (.head _)
 have hr1:Rel σ (I.put b o) F1 a { w with drawn:=w.drawn+1 }:=hr.s.rel (hsat.lh.2.of_heap rfl ⟨rfl,rfl⟩)
 have hr':Rel σ.fc (I.put b o) F1 a { w with drawn:=w.drawn+1 }:=hr1.lock _
 rw[←lq] at h
 have hdem:∀{σ':S} {I':cS} {F':cR} {a':Act} {w':World},Rel σ' I' F' a' w'→cS.le (I.put b o) I'→cS.le I (I'.del b)∧Rel (σ'.unlock σ) (I'.del b) ((b,o)::F') a' w':=fun h1 h2=>by
  have hu:=h1.unlock (σ0:=σ)
  obtain⟨d1,d2⟩:=Sat.Cl hIb h2 hu.sat
  exact⟨d1,hu.s.rel (d2.perm List.perm_middle.symm)⟩
 have hg:=eI (ro:=ro) (N:=Pn.at ops a Q) (R:=rL P ro ops qA (Qx (Pn.at ops a Q) fun a w=>Q .normal a w) post) hP hops pre σ.fc (I.put b o) F1 a _ h hr' (fu σ) (cS.le_refl _) (fun σ' I' F' a' w' h1 h2 h3 h4=>by
  obtain⟨d1,hu'⟩:=hdem h1 h2
  exact eH (ro:=ro) (Q:=Qx (Pn.at ops a Q) fun a w=>Q .normal a w) hP hops post (σ'.unlock σ) (I'.del b) ((b,o)::F') a' w' h3 hu' (fun σ2 I2 F2 a2 w2 g1 g2 g3 g4 =>
   hQ σ2 I2 F2 a2 w2 g1 (cS.le_trans d1 g2) g3 (((⟨dT h4.own,h4.tm,h4.size⟩:du (dz ops.toList) σ a (σ'.unlock σ) a')).trans g4)) fun ch σ2 I2 F2 a2 w2 g1 g2 g3 g4=>Pn.ok hX g1 (cS.le_trans d1 g2) g3 (((⟨dT h4.own,h4.tm,h4.size⟩:du (dz ops.toList) σ a (σ'.unlock σ) a')).trans g4))
  fun ch σ' I' F' a' w' h1 h2 h3 h4=>Pn.ok hX (hdem h1 h2).2 (hdem h1 h2).1 h3 (⟨dT h4.own,h4.tm,h4.size⟩:du (dz ops.toList) σ a (σ'.unlock σ) a')
 exact wpIn_mono (wpIn_region_any hm (ve hB ((fu σ).inv hr' (cS.le_refl _)) hg)) fun e a' w' hq=>by
  cases e with
  | normal=>exact hq
  | panic ch=>exact hq.2 a' hq.1 rfl
  | _=>exact hq.elim
theorem Ah{b:Bool}{p q:Prop}(h:cond b p q):p∨q:=by
 cases b
 ·exact .inr h
 ·exact .inl h
theorem Ai{ops:Array Oper}{os:List Nat}{t:Ot}(hB:ET ops qA os t=true):∀(i:Nat) (o:Oper),ops[i]? = some o→gH o.op=true:=fun i o ho=>by
 have hm:o∈ops.toList:=by have:=Array.mem_of_getElem? ho;simpa using this
 simp only[ET,Bool.and_eq_true] at hB
 have:=List.all_eq_true.1 hB.2 o hm
 simp only[Bool.and_eq_true] at this
 exact this.1
theorem xC{P:Program}{A:oK}{rid:Nat}{ops:Array Oper}{ro:Option Nat}(hP:∀f,A.good f=true→dA P f){id:Nat}{os:List Nat}{t:Ot}{σ:S}{I:cS}{F:cR}{K:S→cS→cR→Prop}{Kp:List PanicEntry→S→cS→cR→Prop}{a:Act}{w:World}(hm:P.follows .mixedOrders=true)
  (hB:ET ops qA os t=true) (h:sR P A rid ops (fun ch σ' I' F'=>Kp ch ((σ'.unlock σ).ry ops) I' F') os I σ.own.length (fun post σ' I' F'=>iF P A rid ops (fun ch σ' I' F'=>Kp ch (σ'.ry ops) I' F') post (σ'.unlock σ) I' F' K) t σ.fc I F) (hr:Rel σ I F a w) {Q:Exit→Act→World→Prop}
  (hQ:∀σ' I' F' a' w',Rel σ' I' F' a' w'→cS.le I I'→K σ' I' F'→du (dz ops.toList) σ a σ' a'→Q .normal a' w')
  (hX:∀ch σ' I' F' a' w',Rel σ' I' F' a' w'→cS.le I I'→Kp ch σ' I' F'→du (dz ops.toList) σ a σ' a'→Q (.panic ch) a' w'):(Code.region id ops true).wpIn (Fw ro) 0 P Q a w:=by
 have hops:=Ai hB
 have hr1:Rel σ I F a { w with drawn:=w.drawn+1 }:=hr.s.rel (hr.sat.of_heap rfl ⟨rfl,rfl⟩)
 have hr':Rel σ.fc I F a { w with drawn:=w.drawn+1 }:=hr1.lock _
 rw[←lq] at h
 have hg:=ll (ro:=ro) (N:=Pn.at ops a Q) (R:=fun a w=>Q .normal a w) hP hops t σ.fc I F a _ h hr' (fu σ) (cS.le_refl I) (fun post σ' I' F' a' w' h1 h2 h3 h4 =>
  eH (ro:=ro) (Q:=Qx (Pn.at ops a Q) fun a w=>Q .normal a w) hP hops post (σ'.unlock σ) I' F' a' w' h3 h1.unlock (fun σ2 I2 F2 a2 w2 g1 g2 g3 g4 =>
   hQ σ2 I2 F2 a2 w2 g1 (cS.le_trans h2 g2) g3 (((⟨dT h4.own,h4.tm,h4.size⟩:du (dz ops.toList) σ a (σ'.unlock σ) a')).trans g4)) fun ch σ2 I2 F2 a2 w2 g1 g2 g3 g4=>Pn.ok hX g1 (cS.le_trans h2 g2) g3 (((⟨dT h4.own,h4.tm,h4.size⟩:du (dz ops.toList) σ a (σ'.unlock σ) a')).trans g4))
  fun ch σ' I' F' a' w' h1 h2 h3 h4=>Pn.ok hX h1.unlock h2 h3 (⟨dT h4.own,h4.tm,h4.size⟩:du (dz ops.toList) σ a (σ'.unlock σ) a')
 exact wpIn_mono (wpIn_region_any hm (vf hB ((fu σ).inv hr' (cS.le_refl I)) hg)) fun e a' w' hq=>by
  cases e with
  | normal=>exact hq
  | panic ch=>exact hq.2 a' hq.1 rfl
  | _=>exact hq.elim
theorem v7{P:Program}{A:oK}{rid:Nat}{ops:Array Oper}{ro:Option Nat}(hP:∀f,A.good f=true→dA P f){id:Nat}{os:List Nat}{t:Ot}{σ:S}{I:cS}{F F1:cR}{b:Nat}{o:Obj}{K:S→cS→cR→Prop}{Kp:List PanicEntry→S→cS→cR→Prop}{a:Act}{w:World}(hm:P.follows .mixedOrders=true)
  (hB:ET ops qA os t=true) (hp:F.Perm ((b,o)::F1)) (h:sR P A rid ops (fun ch σ' I' F'=>Kp ch ((σ'.unlock σ).ry ops) (I'.del b) ((b,o)::F')) os (I.put b o) σ.own.length (fun post σ' I' F'=>iF P A rid ops (fun ch σ' I' F'=>Kp ch (σ'.ry ops) I' F') post (σ'.unlock σ) (I'.del b) ((b,o)::F') K) t σ.fc (I.put b o) F1) (hr:Rel σ I F a w) {Q:Exit→Act→World→Prop}
  (hQ:∀σ' I' F' a' w',Rel σ' I' F' a' w'→cS.le I I'→K σ' I' F'→du (dz ops.toList) σ a σ' a'→Q .normal a' w')
  (hX:∀ch σ' I' F' a' w',Rel σ' I' F' a' w'→cS.le I I'→Kp ch σ' I' F'→du (dz ops.toList) σ a σ' a'→Q (.panic ch) a' w'):(Code.region id ops true).wpIn (Fw ro) 0 P Q a w:=by
 have hops:=Ai hB
 have hsat:Sat I ((b,o)::(dm σ.own++F1)) w:=hr.sat.perm ((hp.append_left _).trans List.perm_middle)
 have hIb:I b=none:=hsat.off _ _ (.head _)
 have hr1:Rel σ (I.put b o) F1 a { w with drawn:=w.drawn+1 }:=hr.s.rel (hsat.lh.2.of_heap rfl ⟨rfl,rfl⟩)
 have hr':Rel σ.fc (I.put b o) F1 a { w with drawn:=w.drawn+1 }:=hr1.lock _
 rw[←lq] at h
 have hdem:∀{σ':S} {I':cS} {F':cR} {a':Act} {w':World},Rel σ' I' F' a' w'→cS.le (I.put b o) I'→cS.le I (I'.del b)∧Rel (σ'.unlock σ) (I'.del b) ((b,o)::F') a' w':=fun h1 h2=>by
  have hu:=h1.unlock (σ0:=σ)
  obtain⟨d1,d2⟩:=Sat.Cl hIb h2 hu.sat
  exact⟨d1,hu.s.rel (d2.perm List.perm_middle.symm)⟩
 have hg:=ll (ro:=ro) (N:=Pn.at ops a Q) (R:=fun a w=>Q .normal a w) hP hops t σ.fc (I.put b o) F1 a _ h hr' (fu σ) (cS.le_refl _) (fun post σ' I' F' a' w' h1 h2 h3 h4=>by
  obtain⟨d1,hu'⟩:=hdem h1 h2
  exact eH (ro:=ro) (Q:=Qx (Pn.at ops a Q) fun a w=>Q .normal a w) hP hops post (σ'.unlock σ) (I'.del b) ((b,o)::F') a' w' h3 hu' (fun σ2 I2 F2 a2 w2 g1 g2 g3 g4 =>
   hQ σ2 I2 F2 a2 w2 g1 (cS.le_trans d1 g2) g3 (((⟨dT h4.own,h4.tm,h4.size⟩:du (dz ops.toList) σ a (σ'.unlock σ) a')).trans g4)) fun ch σ2 I2 F2 a2 w2 g1 g2 g3 g4=>Pn.ok hX g1 (cS.le_trans d1 g2) g3 (((⟨dT h4.own,h4.tm,h4.size⟩:du (dz ops.toList) σ a (σ'.unlock σ) a')).trans g4))
  fun ch σ' I' F' a' w' h1 h2 h3 h4=>Pn.ok hX (hdem h1 h2).2 (hdem h1 h2).1 h3 (⟨dT h4.own,h4.tm,h4.size⟩:du (dz ops.toList) σ a (σ'.unlock σ) a')
 exact wpIn_mono (wpIn_region_any hm (vf hB ((fu σ).inv hr' (cS.le_refl _)) hg)) fun e a' w' hq=>by
  cases e with
  | normal=>exact hq
  | panic ch=>exact hq.2 a' hq.1 rfl
  | _=>exact hq.elim
abbrev Kt:=Exit→S→cS→cR→Prop
def FW(N:S→cS→cR→Prop)(K:Kt):Kt
 | .normal,σ,I,F=>N σ I F
 | e,σ,I,F=>K e σ I F
def Cm(id:Nat)(K:Kt):Kt
 | .exit id',σ,I,F=>cond (id'==id) (K .normal σ I F) (K (.exit id') σ I F)
 | e,σ,I,F=>K e σ I F
def FX(K:Kt):Kt
 | .goto _,_,_,_=>False
 | e,σ,I,F=>K e σ I F
def HT(σ0:S)(N:S→cS→cR→Prop)(K:Kt):Kt
 | .normal,σ,I,F=>N σ I F
 | e,σ,I,F=>K e (σ.unlock σ0) I F
def S.fix(σ:S)(c:Cut):List Value:=c.fx.map fun t=>σ.cv (.tmp t)
def Dy(σ σ':S)(X:Prop):Prop:=cond (σ.df.isEmpty&&σ'.df.isEmpty) X (σ'.df=σ.df∧X)
theorem xD{σ σ':S}{X:Prop}(h:Dy σ σ' X):σ'.df=σ.df∧X:=by
 unfold Dy at h
 cases hc:(σ.df.isEmpty&&σ'.df.isEmpty) with
 | true =>
   rw[hc] at h
   simp only[Bool.and_eq_true,List.isEmpty_iff] at hc
   exact⟨by rw[hc.1,hc.2],h⟩
 | false=>rw[hc] at h;exact h
def EU:List (Option Nat)→Option Nat→Bool
 | [],_=>false
 | none::r,none=>true
 | some a::r,some b=>a==b||EU r (some b)
 | _::r,x=>EU r x
def dd:List (Option Nat)→List (Option Nat)
 | []=>[]
 | x::r=>cond (EU (dd r) x) (dd r) (x::dd r)
def jmp:List Nat→Code→List (Option Nat)
 | bs,.exit id=>cond (bs.contains id) [] [some id]
 | _,.ret=>[none]
 | bs,.seq a b=>jmp bs a++jmp bs b
 | bs,.cond _ a b=>jmp bs a++jmp bs b
 | bs,.block id c=>jmp (id::bs) c
 | bs,.loop c=>jmp bs c
 | bs,.scope c=>jmp bs c
 | bs,.rangeFunc _ _ _ y=>jmp bs y
 | _,_=>[]
def He:List (Option Nat)→(Option Nat→Prop)→Prop
 | [],_=>False
 | x::r,f=>f x∨He r f
def za:Option Nat→Exit
 | none=>.ret
 | some id=>.exit id
def sX:Option Nat→Code
 | none=>.ret
 | some id=>.exit id
theorem Aj:∀{l:List (Option Nat)} {f:Option Nat→Prop},He l f→∃j,f j
 | [],_,h=>h.elim
 | x::r,f,h=>by
   rcases h with h | h
   ·exact⟨x,h⟩
   ·exact Aj h
def Em:Sh→(Value→Prop)→Prop
 | .one l,Q=>xe l Q
 | .agg ls,Q=>so ls fun vs=>Q (.agg vs.toArray)
def zb:List Sh→(List Value→Prop)→Prop
 | [],Q=>Q []
 | s::r,Q=>Em s fun v=>zb r fun vs=>Q (v::vs)
def Cut.Hf(c:Cut):List Lf:=c.bks.flatMap Prod.snd
def Hg(N:S→cS→cR→Prop):Kt
 | .normal,σ,I,F=>N σ I F
 | _,_,_,_=>False
def EV(L Lb:cR)(Lx:Option Nat→cR)(n0:Nat)(Q:Ending→cS→cR→Prop):Kt
 | .normal,σ,I,F=>∃F3:cR,F.Perm (Lb++F3)∧Q (.returned (.bool true)) I (dm (σ.own.take n0)++(L++F3))
 | .ret,σ,I,F=>∃F3:cR,F.Perm (Lb++F3)∧Q (.returned (.bool false)) I (dm (σ.own.take n0)++(Lx none++F3))
 | .exit id,σ,I,F=>∃F3:cR,F.Perm (Lb++F3)∧Q (.returned (.bool false)) I (dm (σ.own.take n0)++(Lx (some id)++F3))
 | _,_,_,_=>False
def S.round(σ:S)(ct:Cut)(ps:Array Nat)(args vs:List Value):S:={ tm:=jd ps.toList args σ.tm,own:=eV ct.bks vs 0 σ.own,df:=[] }
def S.after(σ:S)(ct:Cut)(vs:List Value)(D:Nat)(rd:Option cR):S :=
 { tm:=σ.tm,own:=Ac σ.own 0 (eV ct.bks vs 0 σ.own),df:=match rd with
  | none=>.mark D::σ.df
  | some _=>σ.df }
def xE(rd:Option cR)(D:Nat)(F:cR):cR:=match rd with
 | none=>(D,.deferred (some []))::F
 | some _=>F
def FY(rd:Option cR)(F:cR)(X:Prop):Prop:=match rd with
 | none=>X
 | some R=>(∃F3:cR,F.Perm (R++F3))∧X
def Hh(rd:Option cR)(ops:Array Oper):Bool:=match rd with
 | none=>true
 | some _=>ops.toList.all fun o=>sJ o.op
def W(P:Program)(A:oK):Option cR→Code→Nat→Kt→S→cS→cR→Prop
 | _,.skip,_,K,σ,I,F=>K .normal σ I F
 | _,.label _,_,K,σ,I,F=>K .normal σ I F
 | _,.exit id,_,K,σ,I,F=>K (.exit id) σ I F
 | _,.goto l,_,K,σ,I,F=>K (.goto l) σ I F
 | _,.ret,_,K,σ,I,F=>K .ret σ I F
 | rd,.region rid ops false,_,K,σ,I,F=>cond (Hh rd ops) (vS P A rid ops ops.toList 0 σ I F (K .normal) (fun ch=>K (.panic ch))) False
 | _,.region rid ops true,_,K,σ,I,F=>match A.ot rid with
   | some (os,t)=>cond (P.follows .mixedOrders&&ET ops qA os t)
      (cond (os.contains 1000)
        (∃(b:Nat) (o:Obj) (F1:cR),F.Perm ((b,o)::F1)∧sR P A rid ops (fun ch σ' I' F'=>K (.panic ch) ((σ'.unlock σ).ry ops) (I'.del b) ((b,o)::F')) os (I.put b o) σ.own.length (fun post σ' I' F'=>iF P A rid ops (fun ch σ' I' F'=>K (.panic ch) (σ'.ry ops) I' F') post (σ'.unlock σ) (I'.del b) ((b,o)::F') (K .normal)) t σ.fc (I.put b o) F1)
        (sR P A rid ops (fun ch σ' I' F'=>K (.panic ch) ((σ'.unlock σ).ry ops) I' F') os I σ.own.length (fun post σ' I' F'=>iF P A rid ops (fun ch σ' I' F'=>K (.panic ch) (σ'.ry ops) I' F') post (σ'.unlock σ) I' F' (K .normal)) t σ.fc I F)) False
   | none=>match A.sq rid with
      | some l=>match A.s2 rid with
        | none=>match A.ol rid with
          | none=>cond (P.follows .mixedOrders&&FU ops qA l) (iF P A rid ops (fun ch σ' I' F'=>K (.panic ch) (σ'.ry ops) I' F') l σ I F (K .normal)) False
          | some (os,m)=>cond (P.follows .mixedOrders&&ER ops qA os (l.take m) (l.drop m))
            (cond (os.contains 1000)
              (∃(b:Nat) (o:Obj) (F1:cR),F.Perm ((b,o)::F1)∧kV P A rid ops (fun ch σ' I' F'=>K (.panic ch) ((σ'.unlock σ).ry ops) (I'.del b) ((b,o)::F')) os (I.put b o) σ.own.length (l.take m) σ.fc (I.put b o) F1 fun σ' I' F'=>iF P A rid ops (fun ch σ' I' F'=>K (.panic ch) (σ'.ry ops) I' F') (l.drop m) (σ'.unlock σ) (I'.del b) ((b,o)::F') (K .normal))
              (kV P A rid ops (fun ch σ' I' F'=>K (.panic ch) ((σ'.unlock σ).ry ops) I' F') os I σ.own.length (l.take m) σ.fc I F fun σ' I' F'=>iF P A rid ops (fun ch σ' I' F'=>K (.panic ch) (σ'.ry ops) I' F') (l.drop m) (σ'.unlock σ) I' F' (K .normal))) False
        | some (p,q,lA,lB)=>cond (P.follows .mixedOrders&&Ch ops qA l p q lA lB)
          (iF P A rid ops (fun ch σ' I' F'=>K (.panic ch) (σ'.ry ops) I' F') l σ I F fun σ' I' F'=>iF P A rid ops (fun ch σ' I' F'=>K (.panic ch) (σ'.ry ops) I' F') (p::lA) σ' I' F' (K .normal)∧iF P A rid ops (fun ch σ' I' F'=>K (.panic ch) (σ'.ry ops) I' F') (q::lB) σ' I' F' (K .normal)) False
      | none=>match A.tl rid with
        | some m=>cond (P.follows .mixedOrders&&(pY ops m&&(ops.toList.all (fun o=>gH o.op)&&rq (ops.extract 0 m))))
          (wD P A rid (ops.extract 0 m) (match A.ds rid with | none=>m | some (n,_)=>n) (match A.ds rid with | none=>[] | some (_,hid)=>hid) (ops.extract 0 m).toList 0 σ I F fun σ' F' =>
            vS P A rid ops (ops.toList.drop m) m σ' I F' (K .normal) (fun ch=>K (.panic ch))) False
        | none=>cond (P.follows .mixedOrders&&rq ops)
          (match A.ds rid with
            | none=>wD P A rid ops ops.size [] ops.toList 0 σ I F fun σ' F'=>K .normal σ' I F'
            | some (n,hid)=>wD P A rid ops n hid ops.toList 0 σ I F fun σ' F'=>K .normal σ' I F') False
 | rd,.cond c x y,n,K,σ,I,F=>match σ.ev c with
   | some (.a (.v (.bool b)))=>(match b with
     | true=>W P A rd x (n+1) K σ I F
     | false=>W P A rd y (n+1+sz x) K σ I F)
   | _=>False
 | rd,.block id c,n,K,σ,I,F=>W P A rd c (n+1) (Cm id K) σ I F
 | rd,.seq x y,n,K,σ,I,F=>match A.cut n with
   | none=>W P A rd x (n+1) (FW (W P A rd y (n+1+sz x) K) K) σ I F
   | some ct=>cond (pf σ.own ct.bks)
     (W P A rd x (n+1) (HT σ (fun σ' I' F'=>cond (σ'.Ek ct) (Dy σ σ' (ct.Inv (σ.fix ct) I F (σ'.mj ct) 0 I' F')) False) K) (σ.lock ct) I F ∧
       so ct.GX fun vs=>∀(I':cS) (F':cR),cS.le I I'→ct.Inv (σ.fix ct) I F vs 0 I' F'→W P A rd y (n+1+sz x) K ((σ.lay ct (mC x) vs).unlock σ) I' F') False
 | rd,.loop c,n,K,σ,I,F=>match A.cut n with
   | none=>False
   | some ct=>cond (σ.Ek ct)
     ((∃m,ct.Inv (σ.fix ct) I F (σ.mj ct) m I F) ∧
       so ct.GX fun vs=>∀(m:Nat) (I':cS) (F':cR),cS.le I I'→ct.Inv (σ.fix ct) I F vs m I' F' →
        W P A rd c (n+1) (HT σ (fun σ' I' F'=>cond (σ'.Ek ct) (Dy σ σ' (∃m',m'<m∧ct.Inv (σ.fix ct) I F (σ'.mj ct) m' I' F')) False) K) (σ.lay ct (mC c) vs) I' F') False
 | rd,.scope c,n,K,σ,I,F=>W P A rd c (n+1) (FX K) σ I F
 | rd,.rangeFunc g ps x y,n,K,σ,I,F=>match A.cut n,σ.ev g with
   | some ct,some gv=>cond (pf σ.own ct.bks&&ct.ps.length==ps.size)
     (FY rd F (∀(Y:Fn) (L Lb:cR) (Lx:Option Nat→cR) (D:Nat),
       (zb ct.ps fun args=>so ct.Hf fun vs=>∀(I':cS) (F':cR) (Q:Ending→cS→cR→Prop),cS.le I I' →
         W P A (some L) x (n+1) (Hg fun σ1 I1 F1=>∃F2:cR,F1.Perm (L++F2) ∧
          W P A (some Lb) y (n+1+sz x) (EV L Lb Lx σ.own.length Q) σ1 I1 (Lb++F2)) (σ.round ct ps args vs) I' (L++F') →
         jQ P (.func Y #[] #[]) args I' (dm (eV ct.bks vs 0 σ.own)++(L++F')) Q) →
       Hb P gv.g [.func Y #[] #[]] I (dm σ.own++(L++F)) fun e I' G=>∃r,e=.returned r ∧
        ((yL ct.Hf fun vs=>∃F':cR,G.Perm (dm (eV ct.bks vs 0 σ.own)++(L++F'))∧K .normal (σ.after ct vs D rd) I' (xE rd D F')) ∨
          He (dd (jmp [] y)) fun j=>yL ct.Hf fun vs=>∃F':cR,G.Perm (dm (eV ct.bks vs 0 σ.own)++(Lx j++F'))∧K (za j) (σ.after ct vs D rd) I' (xE rd D F')))) False
   | _,_=>False
 | _,_,_,_,_,_,_=>False
def sY(l:List Nat)(σ:S)(a:Act)(I:cS)(K:Kt)(e:Exit)(a':Act)(w':World):Prop :=
 ∃σ' I' F',Rel σ' I' F' a' w'∧cS.le I I'∧K e σ' I' F'∧du l σ a σ' a'
theorem Bc{F:Fence}{n:Nat}{P:Program}{Q:Exit→Act→World→Prop}{c:Code}{a:Act}{w:World}(J:Nat→Act→World→Prop)(h0:∃m,J m a w)
  (round:∀m a w,J m a w→c.wpIn F n P (Exit.then (fun a' w'=>∃m',m'<m∧J m' a' w') Q) a w):(Code.loop c).wpIn F n P Q a w:=by
 intro b k cs hro hb hr
 have key:∀j a w,J j a w→∃e a' w',Q e a' w'∧ArrivesIn (Machine.fenced P F) P (lone (b.atR a (.code c :: .inLoop c::k)) cs w) b k cs e a' w':=by
  intro j
  induction j using Nat.strongRecOn with
  | _ j ih =>
    intro a w hJ
    obtain⟨e,a₁,w₁,hq,harr⟩:=round j a w hJ b (.inLoop c::k) cs hro hb hr
    cases e with
    | normal =>
      obtain⟨m',hlt,hJ'⟩:=hq
      obtain⟨e₂,a₂,w₂,hq₂,harr₂⟩:=ih m' hlt a₁ w₁ hJ'
      exact⟨e₂,a₂,w₂,hq₂,.of_steps (StepsIn.trans harr (.one (fenced_calm hb hr rfl) stepR_inLoop)) harr₂⟩
    | exit id=>exact⟨_,a₁,w₁,hq,.pass (x:=.inLoop c) rfl (fun _ _=>.inl (by simp)) harr⟩
    | goto l=>exact⟨_,a₁,w₁,hq,.pass (x:=.inLoop c) rfl (fun _ _=>.inl (by simp)) harr⟩
    | ret=>exact⟨_,a₁,w₁,hq,.pass (x:=.inLoop c) rfl (fun _ _=>.inl (by simp)) harr⟩
    | panic ch=>exact⟨_,a₁,w₁,hq,.pass (x:=.inLoop c) rfl (fun _ _=>.inl (by simp)) harr⟩
    | outgrown=>exact⟨_,a₁,w₁,hq,.pass (x:=.inLoop c) rfl (fun _ _=>.inl (by simp)) harr⟩
 obtain⟨m,hm⟩:=h0
 obtain⟨e,a',w',hq,harr⟩:=key m a w hm
 exact⟨e,a',w',hq,.of_steps (.one (fenced_calm hb hr rfl) stepR_loop) harr⟩
theorem jn{P:Program}{b:Frame}{a:Act}{k:List Item}{cs:List Frame}{w:World}{c:Code}:step P (lone (b.atR a (.code (.scope c)::k)) cs w)=.next (lone (b.atR a (.code c :: .inScope c::k)) cs w) :=
 step_lone_go (by simp[stepG,stepG.exec,Frame.atR])
theorem uJ{P:Program}{b:Frame}{a:Act}{k:List Item}{cs:List Frame}{w:World}{c:Code}:step P (lone (b.atR a (.inScope c::k)) cs w)=.next (lone (b.atR a k) cs w) :=
 step_lone_go (by simp[stepG,stepG.exec,Frame.atR])
theorem oL{F:Fence}{n:Nat}{P:Program}{Q:Exit→Act→World→Prop}{c:Code}{a:Act}{w:World}(h:c.wpIn F n P (Exit.noGoto Q) a w):(Code.scope c).wpIn F n P Q a w:=by
 intro b k cs hro hb hr
 have h0:(lone (b.atR a (.code (.scope c)::k)) cs w).fenced P F:=fenced_calm hb hr rfl
 obtain⟨e,a₁,w₁,hq,harr⟩:=h b (.inScope c::k) cs hro hb hr
 cases e with
 | normal=>exact⟨.normal,a₁,w₁,hq,.head h0 jn (StepsIn.trans harr (.one (fenced_calm hb hr rfl) uJ))⟩
 | exit id =>
   have hx:exitTo id (.inScope c::k)=exitTo id k:=by simp[exitTo]
   exact⟨.exit id,a₁,w₁,hq,fun k' hk=>.head h0 jn (harr.1 k' (by rw[hx];exact hk)),
    fun hr' hk=>let ⟨k₁,h1,h2⟩:=harr.2 hr' (by rw[hx];exact hk);⟨k₁,h1,.head h0 jn h2⟩⟩
 | goto l=>exact hq.elim
 | ret=>exact⟨_,a₁,w₁,hq,.of_steps (.one h0 jn) harr⟩
 | panic ch=>exact⟨_,a₁,w₁,hq,.of_steps (.one h0 jn) harr⟩
 | outgrown=>exact⟨_,a₁,w₁,hq,.of_steps (.one h0 jn) harr⟩
theorem rA{l:Lf}{Q:Value→Prop}(h:∀v,Q v):xe l Q:=by cases l<;>intro<;>first | exact h _ | (intros;exact h _)
theorem nF:∀{l:List Lf} {Q:List Value→Prop},(∀vs,vs.length=l.length→Q vs)→so l Q
 | [],Q,h=>h [] rfl
 | l::r,Q,h=>rA fun v=>nF fun vs hv=>h (v::vs) (by simp[hv])
theorem xF{s:Sh}{Q:Value→Prop}(h:∀v,Q v):Em s Q:=by
 cases s with
 | one l=>exact rA h
 | agg ls=>exact nF fun vs _=>h _
theorem p5:∀{l:List Sh} {Q:List Value→Prop},(∀vs,vs.length=l.length→Q vs)→zb l Q
 | [],Q,h=>h [] rfl
 | l::r,Q,h=>xF fun v=>p5 fun vs hv=>h (v::vs) (by simp[hv])
def Ctx(ro:Option Nat):Option cR→Prop
 | none=>ro=none
 | some R=>∃l r,ro=some l∧(l,Obj.loop r)∈R
def yI(rd:Option cR)(D:Nat):cR:=match rd with
 | none=>[(D,.deferred (some []))]
 | some _=>[]
def FZ(rd:Option cR)(D:Nat):List Deferred:=match rd with
 | none=>[(Df.mark D).d]
 | some _=>[]
theorem Cn(rd:Option cR)(D:Nat)(F:cR):xE rd D F=yI rd D++F:=by cases rd<;>rfl
section
variable {P:Program} {A:oK}
theorem xG{w:World}{l₀:Nat}{r₀:Loop}(h:w.heap[l₀]? = some (.loop r₀))(fn:FuncId)(tmps:Array Value)(ps:Array Tmp)(assign body:Code) :
  (Instr.enterLoop fn tmps ps assign body (some l₀)).run P w =
    .ok (w.heap.size,[]) (w.alloc (.loop { state:=.ready,pending:=none,fn,tmps,params:=ps,assign,body,defers:=r₀.defers })):=by
 unfold Instr.enterLoop
 simp only[Sem.run_bind,run_getLoop h,run_newObj_alloc,Result.andThen,Sem.run_pure]
theorem Co{rd:Option cR}{F:cR}{X:Prop}(h:FY rd F X):(∀R,rd=some R→∃F3:cR,F.Perm (R++F3))∧X:=by
 cases rd with
 | none=>exact⟨fun R e=>(by cases e),h⟩
 | some R=>exact⟨fun R' e=>(by cases e;exact h.1),h.2⟩
theorem Be{rd:Option cR}{ro:Option Nat}{I:cS}{G:cR}{w:World}(hctx:Ctx ro rd)(hrd:∀R,rd=some R→∃F3:cR,G.Perm (R++F3))(hs:Sat I G w)
  (fn:FuncId) (tmps:Array Value) (ps:Array Tmp) (x y:Code) :
  ∃(l D d:Nat) (w1:World),(Instr.enterLoop fn tmps ps x y ro).run P w=.ok (l,FZ rd D) w1 ∧
   Sat I ((l,Obj.loop { state:=.ready,pending:=none,fn,tmps,params:=ps,assign:=x,body:=y,defers:=d })::(yI rd D++G)) w1:=by
 cases rd with
 | none =>
   obtain rfl:ro=none:=hctx
   have h1:=hs.alloc (.deferred (some []))
   have h2:=h1.alloc (.loop { state:=.ready,pending:=none,fn,tmps,params:=ps,assign:=x,body:=y,defers:=w.heap.size })
   refine⟨w.heap.size+1,w.heap.size,w.heap.size,_,run_enterLoop_outer fn tmps ps x y, ?_⟩
   have:({ w with heap:=w.heap.push (Obj.deferred (some [])) }:World).heap.size=w.heap.size+1:=by simp
   rw[this] at h2
   exact h2
 | some R =>
   obtain⟨l0,r0,rfl,hm⟩:=hctx
   obtain⟨F3,hp⟩:=hrd R rfl
   have hin:w.heap[l0]? = some (.loop r0):=hs.own _ _ (hp.mem_iff.2 (List.mem_append_left _ hm))
   exact⟨w.heap.size,0,r0.defers,_,xG hin fn tmps ps x y,hs.alloc _⟩
theorem Sat.rU{I:cS}{b:Nat}{o:Obj}{G:cR}{w:World}(h:Sat I ((b,o)::G) w):w.heap[b]? = some o:=h.own _ _ (List.mem_cons_self ..)
theorem Sat.p6{I:cS}{b:Nat}{o o':Obj}{G:cR}{w:World}(h:Sat I ((b,o)::G) w):Sat I ((b,o')::G) (w.putObj b o'):=h.set rfl ⟨rfl,rfl⟩
theorem xH:∀(ts:List Nat) (vs:List Value) (tm:List (Option AV)) (tmps:Array Value),tm.length=tmps.size→(∀(t:Nat) (av:AV),tm[t]? = some (some av)→tmps[t]? = some av.g) →
  (jd ts vs tm).length=((ts.zip vs).foldl (fun (a:Array Value) (x:Nat×Value)=>a.setIfInBounds x.1 x.2) tmps).size ∧
  ∀(t:Nat) (av:AV),(jd ts vs tm)[t]? = some (some av)→((ts.zip vs).foldl (fun (a:Array Value) (x:Nat×Value)=>a.setIfInBounds x.1 x.2) tmps)[t]? = some av.g
 | [],vs,tm,tmps,hl,h=>by simp only[jd,List.zip_nil_left,List.foldl_nil];exact⟨hl,h⟩
 | s::ts,[],tm,tmps,hl,h=>by simp only[jd,List.zip_nil_right,List.foldl_nil];exact⟨hl,h⟩
 | s::ts,v::vs,tm,tmps,hl,h=>by
   simp only[jd,List.zip_cons_cons,List.foldl_cons]
   refine xH ts vs _ _ (by simp[hl]) fun t av ht=>?_
   rw[List.getElem?_set] at ht
   rw[Array.getElem?_setIfInBounds]
   by_cases hst:s=t
   ·subst hst
    simp only[if_true] at ht ⊢
    split at ht
    ·rename_i hlt;cases ht;rw[hl] at hlt;simp[hlt,AV.g,At.g]
    ·cases ht
   ·simp only[if_neg hst] at ht ⊢;exact h t av ht
theorem rB(bks:List (Nat×List Lf))(vs:List Value)(own:List dQ):jP own (eV bks vs 0 own):=fun i b hb=>by
 refine⟨match pW bks vs (0+i) with
  | some cs=>{ b with cells:=cs.map fun v=>.a (.v v) }
  | none=>{ b with ro:=true },by rw[gb,hb];rfl, ?_⟩
 split<;>rfl
theorem Bf{bks:List (Nat×List Lf)}{vs:List Value}{own:List dQ}(h:∀(i:Nat) (b:dQ),own[i]? = some b→∀c∈b.cells,AV.wf own c) :
  ∀(i:Nat) (b:dQ),(eV bks vs 0 own)[i]? = some b→∀c∈b.cells,AV.wf (eV bks vs 0 own) c:=by
 intro i b hb c hc
 rw[gb] at hb
 cases ho:own[i]? with
 | none=>rw[ho] at hb;cases hb
 | some b0 =>
   rw[ho] at hb
   simp only[Option.map_some,Option.some.injEq] at hb
   subst hb
   split at hc
   ·simp only[List.mem_map] at hc
    obtain⟨v,_,rfl⟩:=hc
    trivial
   ·exact AV.fa (rB _ _ _) (h i b0 ho c hc)
theorem Rel.round{σ:S}{I I':cS}{F F':cR}{a:Act}{w w':World}(hr:Rel σ I F a w)(ct:Cut)(ps:Array Nat)(args vs:List Value)
  (hs:Sat I' (dm (eV ct.bks vs 0 σ.own)++F') w') :
  Rel (σ.round ct ps args vs) I' F' { tmps:=(ps.toList.zip args).foldl (fun (a:Array Value) (x:Nat×Value)=>a.setIfInBounds x.1 x.2) a.tmps,defers:=[] } w':=by
 obtain⟨h1,h2⟩:=xH ps.toList args σ.tm a.tmps hr.size hr.tm
 refine⟨h1,h2,rfl,fun t av ht=>?_,Bf hr.wfo,hs⟩
 rcases mM _ _ _ _ _ ht with ⟨k,v,_,_,rfl⟩ | ht
 ·trivial
 ·exact AV.fa (rB _ _ _) (hr.wft t av ht)
theorem vk{σ:S}{ct:Cut}{vs:List Value}{i:Nat}:(Ac σ.own 0 (eV ct.bks vs 0 σ.own))[i]? = (σ.own[i]?).map fun b =>
  match pW ct.bks vs i with
  | some cs=>{ b with cells:=cs.map fun v=>.a (.v v) }
  | none=>b:=by
 rw[oj,gb]
 cases hb:σ.own[i]? with
 | none=>rfl
 | some b =>
   simp only[Option.map_some,Nat.zero_add,hb]
   cases pW ct.bks vs i<;>rfl
theorem sZ{σ:S}{ct:Cut}{vs:List Value}{D:Nat}{rd:Option cR}(hok:pf σ.own ct.bks=true):dv σ (σ.after ct vs D rd):=by
 intro i b hb
 have e:(σ.after ct vs D rd).own[i]? = _:=vk
 rw[hb] at e
 cases hs:pW ct.bks vs i with
 | none=>rw[hs] at e;exact⟨b,e,rfl,rfl,fun h=>⟨h,rfl⟩⟩
 | some cs =>
   rw[hs] at e
   have hro:=v5 (vs:=vs) hok hb (by rw[hs];rfl)
   exact⟨_,e,rfl,rfl,fun h=>by rw[hro] at h;cases h⟩
theorem Rel.after{σ:S}{I I':cS}{F F':cR}{a:Act}{w w':World}(hr:Rel σ I F a w){ct:Cut}{vs:List Value}{D:Nat}{rd:Option cR}(hok:pf σ.own ct.bks=true)
  (hs:Sat I' (dm (eV ct.bks vs 0 σ.own)++F') w'):Rel (σ.after ct vs D rd) I' F' { a with defers:=FZ rd D++a.defers } w':=by
 have hk:jP σ.own (σ.after ct vs D rd).own:=(sZ hok).same
 refine⟨hr.size,hr.tm, ?_,fun t av ht=>AV.fa hk (hr.wft t av ht), ?_, ?_⟩
 ·show FZ rd D++a.defers=_
  rw[hr.defers];cases rd<;>rfl
 ·intro i b hb c hc
  have e:(σ.after ct vs D rd).own[i]? = _:=vk
  rw[hb] at e
  cases ho:σ.own[i]? with
  | none=>rw[ho] at e;cases e
  | some b0 =>
    rw[ho] at e
    simp only[Option.map_some,Option.some.injEq] at e
    subst e
    split at hc
    ·simp only[List.mem_map] at hc
     obtain⟨v,_,rfl⟩:=hc
     trivial
    ·exact AV.fa hk (hr.wfo i b0 ho c hc)
 ·show Sat I' (dm (Ac σ.own 0 (eV ct.bks vs 0 σ.own))++F') w'
  rw[sW];exact hs
theorem Bg(own:List dQ)(n:Nat):(dm (own.take n)).Sublist (dm own):=(List.take_sublist n own).map _
theorem ic{A B C:cR}:(A++(B++C)).Perm (B++(A++C)):=List.perm_append_comm_assoc A B C
theorem Bh{F:Fence}{n:Nat}{Q:Exit→Act→World→Prop}{a:Act}{w:World}(j:Option Nat)(h:Q (za j) a w):(sX j).wpIn F n P Q a w:=by
 cases j with
 | none=>exact wpIn_ret h
 | some id=>exact wpIn_exit h
theorem xI{x y:Code}(ih1:∀(n:Nat) (K:Kt) (rd:Option cR) (ro:Option Nat) (σ:S) (I:cS) (F:cR) (a:Act) (w:World),Ctx ro rd→W P A rd x n K σ I F→Rel σ I F a w→x.wpIn (Fw ro) 0 P (sY (mC x) σ a I K) a w)
  (ih2:∀(n:Nat) (K:Kt) (rd:Option cR) (ro:Option Nat) (σ:S) (I:cS) (F:cR) (a:Act) (w:World),Ctx ro rd→W P A rd y n K σ I F→Rel σ I F a w→y.wpIn (Fw ro) 0 P (sY (mC y) σ a I K) a w)
  {g:Operand} {ps:Array Tmp} {n:Nat} {K:Kt} {rd:Option cR} {ro:Option Nat} {σ:S} {I:cS} {F:cR} {a:Act} {w:World} (hctx:Ctx ro rd)
  (h:W P A rd (.rangeFunc g ps x y) n K σ I F) (hr:Rel σ I F a w):(Code.rangeFunc g ps x y).wpIn (Fw ro) 0 P (sY (mC (.rangeFunc g ps x y)) σ a I K) a w:=by
 simp only[W] at h
 split at h
 case h_2=>exact h.elim
 rename_i ct gv hcut hg
 obtain⟨hb,h⟩:=dh h
 simp only[Bool.and_eq_true,beq_iff_eq] at hb
 obtain⟨hok,hlen⟩:=hb
 obtain⟨hrd,h⟩:=Co h
 refine wpIn_rangeFunc fun fn hfn=>?_
 obtain⟨l,D,d,w1,hrun,hsat⟩:=Be (P:=P) (rd:=rd) (ro:=ro) hctx (G:=dm σ.own++F) (fun R hR=>by
  obtain⟨F3,hp⟩:=hrd R hR
  exact⟨dm σ.own++F3,(List.Perm.append_left _ hp).trans ic⟩) hr.sat fn a.tmps ps x y
 generalize hrec:({ state:=.ready,pending:=none,fn,tmps:=a.tmps,params:=ps,assign:=x,body:=y,defers:=d }:Loop)=rec at hsat
 have r1:rec.fn=fn:=by rw[←hrec]
 have r2:rec.tmps=a.tmps:=by rw[←hrec]
 have r3:rec.params=ps:=by rw[←hrec]
 have r4:rec.assign=x:=by rw[←hrec]
 have r5:rec.body=y:=by rw[←hrec]
 have r6:rec.state=.ready:=by rw[←hrec]
 have r7:rec.pending=none:=by rw[←hrec]
 have rback:({ rec with state:=.ready,pending:=none }:Loop)=rec:=by rw[←hrec]
 let L:cR:=(l,.loop rec)::yI rd D
 let Lb:cR:=(l,.loop { rec with state:=.busy })::yI rd D
 let Lx:Option Nat→cR:=fun j=>(l,.loop { rec with state:=.done,pending:=some (sX j) })::yI rd D
 have hsat':Sat I (dm σ.own++(L++F)) w1:=by
  refine hsat.perm ?_
  show (([(l,Obj.loop rec)]++yI rd D)++(dm σ.own++F)).Perm _
  exact ic
 have hTr:=h (.yield l) L Lb Lx D (p5 fun args hargs=>nF fun vs hvs I' F' Q hle hW=>by
  intro w2 hs2
  refine .inr ⟨l,rfl, ?_⟩
  have hl2:w2.heap[l]? = some (.loop rec):=hs2.own _ _ (List.mem_append_right _ (List.mem_append_left _ (List.mem_cons_self ..)))
  have hy:=run_yield (P:=P) (args:=args.toArray) hl2 (by rw[r3];simp[hargs,hlen])
  rw[r1,r2,r3,r4,r5] at hy
  have hz:((ps.zip args.toArray).foldl (fun (tmps:Array Value) (x:Nat×Value)=>tmps.setIfInBounds x.1 x.2) a.tmps)=(ps.toList.zip args).foldl (fun (a:Array Value) (x:Nat×Value)=>a.setIfInBounds x.1 x.2) a.tmps:=by
   rw[←Array.foldl_toList,Array.toList_zip]
  refine⟨_,_,_,_,_,hy,roundIn_of_wpIn (F:=Fence.wide) trivial ?_⟩
  rw[show ((ps.zip args.toArray).foldl (fun (tmps:Array Value) (x:Nat×Value)=>match x with | (t,a)=>tmps.setIfInBounds t a) a.tmps)=(ps.toList.zip args).foldl (fun (a:Array Value) (x:Nat×Value)=>a.setIfInBounds x.1 x.2) a.tmps from hz]
  have hrel:=hr.round ct ps args vs hs2
  refine wpIn_mono (ih1 _ _ (some L) (some l) _ I' _ _ w2 ⟨l,rec,rfl,List.mem_cons_self ..⟩ hW hrel) ?_
  intro e a1 w3 ⟨σ1,I1,F1,g1,g2,g3,g4⟩
  cases e with
  | normal =>
    obtain⟨F2,hp2,hW2⟩:=g3
    have hs3:Sat I1 ((l,.loop rec)::(yI rd D++(dm σ1.own++F2))) w3:=g1.sat.perm ((List.Perm.append_left _ hp2).trans (ic (A:=dm σ1.own) (B:=(l,.loop rec)::yI rd D)))
    refine⟨_,run_beginRound hs3.rU r6, ?_⟩
    have hs4:=hs3.p6 (o':=.loop { rec with state:=.busy })
    have hrel2:Rel σ1 I1 (Lb++F2) a1 (w3.putObj l (.loop { rec with state:=.busy })) :=
     ⟨g1.size,g1.tm,g1.defers,g1.wft,g1.wfo,hs4.perm (ic (A:=(l,.loop { rec with state:=.busy })::yI rd D) (B:=dm σ1.own))⟩
    refine wpIn_mono (ih2 _ _ (some Lb) (some l) _ I1 _ _ _ ⟨l,_,rfl,List.mem_cons_self ..⟩ hW2 hrel2) ?_
    intro e a5 w5 ⟨σ5,I5,F5,k1,k2,k3,k4⟩
    have fin:∀(L':cR) (o':Obj) (b:Bool),L'=(l,o')::yI rd D→(∃F3:cR,F5.Perm (Lb++F3)∧Q (.returned (.bool b)) I5 (dm (σ5.own.take σ.own.length)++(L'++F3))) →
     w5.heap[l]? = some (.loop { rec with state:=.busy })∧sy I' Q (.returned (.bool b)) (w5.putObj l o'):=by
     intro L' o' b hL' ⟨F3,hp3,hq⟩
     subst hL'
     have hs5:Sat I5 ((l,.loop { rec with state:=.busy })::(yI rd D++(dm σ5.own++F3))) w5 :=
      k1.sat.perm ((List.Perm.append_left _ hp3).trans (ic (A:=dm σ5.own) (B:=(l,.loop { rec with state:=.busy })::yI rd D)))
     refine⟨hs5.rU,I5,_,cS.le_trans g2 k2, ?_,hq⟩
     have hs6:=hs5.p6 (o':=o')
     exact (hs6.perm (ic (A:=(l,o')::yI rd D) (B:=dm σ5.own))).sub (List.Sublist.append (Bg _ _) (List.Sublist.refl _))
    cases e with
    | normal =>
      obtain⟨f1,f2⟩:=fin L (.loop rec) true rfl k3
      refine⟨_,_,run_endRound none f1, ?_⟩
      have:({ ({ rec with state:=.busy }:Loop) with state:=if (none:Option Code).isNone then .ready else .done,pending:=none }:Loop)=rec:=rback
      rw[this];exact f2
    | ret =>
      obtain⟨f1,f2⟩:=fin (Lx none) (.loop { rec with state:=.done,pending:=some .ret }) false rfl k3
      exact⟨_,_,run_endRound (some .ret) f1,f2⟩
    | exit id =>
      obtain⟨f1,f2⟩:=fin (Lx (some id)) (.loop { rec with state:=.done,pending:=some (.exit id) }) false rfl k3
      exact⟨_,_,run_endRound (some (.exit id)) f1,f2⟩
    | goto l=>exact k3.elim
    | panic ch=>exact k3.elim
    | outgrown=>exact k3.elim
  | exit id=>exact g3.elim
  | goto l=>exact g3.elim
  | ret=>exact g3.elim
  | panic ch=>exact g3.elim
  | outgrown=>exact g3.elim)
 obtain⟨f,first,cap,hgv,hent,hcall⟩:=hTr w1 hsat'
 have hev:=S.mD hr hg
 refine⟨l,FZ rd D,w1,{ target:=.fn (.func f) cap,args:=first++#[.func (.yield l) #[] #[]] },w1,f,first++#[.func (.yield l) #[] #[]]++cap,w1,hrun, ?_,fun _ _=>trivial, ?_,fun hd=>by simp[Fw,Fence.wide] at hd, ?_⟩
 ·show (Deferred.ofValue (a.eval g) _).run P w1=_
  rw[hev,hgv];simp[Deferred.ofValue,Act.eval]
 ·simp only[invoke];exact hent _ _
 ·refine ((callsIn_wide (n:=0)).2 hcall).mono fun e w3 ⟨I3,G,hle,hs3,r,he,hpost⟩=>?_
  subst he
  have fin:∀(o':Obj) (r':Loop) (jj:Option Code) (L':cR) (vs:List Value) (F':cR) (e':Exit),L'=(l,.loop r')::yI rd D→r'.pending=jj→r'.state ≠ .busy→G.Perm (dm (eV ct.bks vs 0 σ.own)++(L'++F'))→K e' (σ.after ct vs D rd) I3 (xE rd D F') →
    ∃w4,(Instr.endLoop l).run P w3=.ok jj w4∧sY (mC (.rangeFunc g ps x y)) σ a I K e' { a with defers:=FZ rd D++a.defers } w4:=by
   intro o' r' jj L' vs F' e' hL' hj hbusy hp hk
   subst hL';subst hj
   have hs4:Sat I3 ((l,.loop r')::(yI rd D++(dm (eV ct.bks vs 0 σ.own)++F'))) w3:=hs3.perm (hp.trans (ic (A:=dm (eV ct.bks vs 0 σ.own)) (B:=(l,.loop r')::yI rd D)))
   refine⟨_,run_endLoop hs4.rU hbusy,σ.after ct vs D rd,I3,xE rd D F', ?_,hle,hk,sZ hok,fun _ _=>rfl,rfl⟩
   refine hr.after hok ?_
   rw[Cn]
   exact ((hs4.p6 (o':=.loop { r' with state:=.exhausted })).sub (List.sublist_cons_self _ _)).perm ic
  rcases hpost with hpost | hpost
  ·obtain⟨vs,F',hp,hk⟩:=mf hpost |>.imp fun _ h=>h.2
   obtain⟨w4,h1,h2⟩:=fin (.loop rec) rec none L vs F' .normal rfl r7 (by rw[r6];decide) hp hk
   exact⟨none,w4,h1,h2⟩
  ·obtain⟨j,hpost⟩:=Aj hpost
   obtain⟨vs,F',hp,hk⟩:=mf hpost |>.imp fun _ h=>h.2
   obtain⟨w4,h1,h2⟩:=fin (.loop rec) { rec with state:=.done,pending:=some (sX j) } (some (sX j)) (Lx j) vs F' (za j) rfl rfl (fun h=>by cases h) hp hk
   exact⟨some (sX j),w4,h1,Bh j h2⟩
end
end Go.Vc
namespace Go.Vc
section sound
variable {P:Program} {A:oK}
theorem sY.mono{l l':List Nat}{σ:S}{a:Act}{I:cS}{K K':Kt}{e:Exit}{a':Act}{w':World}(h:sY l σ a I K e a' w')(hl:∀t∈l,t∈l')
  (hk:∀σ I F,K e σ I F→K' e σ I F):sY l' σ a I K' e a' w' :=
 let ⟨σ',I',F',h1,h2,h3,h4⟩:=h
 ⟨σ',I',F',h1,h2,hk _ _ _ h3,h4.mono hl⟩
theorem sY.trans{l m n:List Nat}{σ σ':S}{a a':Act}{I I':cS}{K:Kt}{e:Exit}{a'':Act}{w'':World}(hk:du l σ a σ' a')(hI:cS.le I I')
  (h:sY m σ' a' I' K e a'' w'') (hl:∀t∈l,t∈n) (hm:∀t∈m,t∈n):sY n σ a I K e a'' w'' :=
 let ⟨σ2,I2,F2,h1,h2,h3,h4⟩:=h
 ⟨σ2,I2,F2,h1,cS.le_trans hI h2,h3,(hk.mono hl).trans (h4.mono hm)⟩
theorem Ak(hP:∀f,A.good f=true→dA P f):∀(c:Code) (n:Nat) (K:Kt) (rd:Option cR) (ro:Option Nat) (σ:S) (I:cS) (F:cR) (a:Act) (w:World),Ctx ro rd →
  W P A rd c n K σ I F→Rel σ I F a w→c.wpIn (Fw ro) 0 P (sY (mC c) σ a I K) a w:=by
 intro c
 induction c with
 | skip=>intro n K rd ro σ I F a w hc h hr;exact wpIn_skip ⟨σ,I,F,hr,cS.le_refl I,h,du.refl _ _ _⟩
 | label l=>intro n K rd ro σ I F a w hc h hr;exact wpIn_label ⟨σ,I,F,hr,cS.le_refl I,h,du.refl _ _ _⟩
 | exit id=>intro n K rd ro σ I F a w hc h hr;exact wpIn_exit ⟨σ,I,F,hr,cS.le_refl I,h,du.refl _ _ _⟩
 | goto l=>intro n K rd ro σ I F a w hc h hr;exact wpIn_goto ⟨σ,I,F,hr,cS.le_refl I,h,du.refl _ _ _⟩
 | ret=>intro n K rd ro σ I F a w hc h hr;exact wpIn_ret ⟨σ,I,F,hr,cS.le_refl I,h,du.refl _ _ _⟩
 | refuse why=>intro n K rd ro σ I F a w hc h hr;exact h.elim
 | scope c ih =>
   intro n K rd ro σ I F a w hc h hr
   refine oL (wpIn_mono (ih _ _ rd ro σ I F a w hc h hr) ?_)
   intro e a' w' ⟨σ',I',F',h1,h2,h3,h4⟩
   cases e with
   | goto l=>exact h3.elim
   | _=>exact⟨σ',I',F',h1,h2,h3,h4⟩
 | rangeFunc f ps x y ih1 ih2=>intro n K rd ro σ I F a w hc h hr;exact xI ih1 ih2 hc h hr
 | region rid ops draw =>
   intro n K rd ro σ I F a w hc h hr
   cases draw with
   | false =>
     obtain⟨hnd,h⟩:=dh h
     have hnd':ro=none∨ops.toList.all (fun o=>sJ o.op)=true:=by
      cases rd with
      | none=>exact .inl hc
      | some R=>exact .inr hnd
     refine wpIn_region_list (kU hP ops.toList 0 σ I F a w hnd' h hr ?_ ?_)
     ·exact fun σ' I' F' a' w' h1 h2 h3 h4=>⟨σ',I',F',h1,h2,h3,h4⟩
     ·exact fun ch σ' I' F' a' w' h1 h2 h3 h4=>⟨σ',I',F',h1,h2,h3,h4⟩
   | true =>
     simp only[W] at h
     split at h
     ·rename_i os t hot
      obtain⟨hb,h⟩:=dh h
      simp only[Bool.and_eq_true] at hb
      rcases Ah h with ⟨b,o,F1,hp,h⟩ | h
      ·exact v7 hP hb.1 hb.2 hp h hr (fun σ' I' F' a' w' h1 h2 h3 h4=>⟨σ',I',F',h1,h2,h3,h4⟩) fun ch σ' I' F' a' w' h1 h2 h3 h4=>⟨σ',I',F',h1,h2,h3,h4⟩
      ·exact xC hP hb.1 hb.2 h hr (fun σ' I' F' a' w' h1 h2 h3 h4=>⟨σ',I',F',h1,h2,h3,h4⟩) fun ch σ' I' F' a' w' h1 h2 h3 h4=>⟨σ',I',F',h1,h2,h3,h4⟩
     split at h
     ·split at h
      ·split at h
       ·obtain⟨hb,h⟩:=dh h
        simp only[Bool.and_eq_true] at hb
        exact yZ hP hb.1 hb.2 h hr (fun σ' I' F' a' w' h1 h2 h3 h4=>⟨σ',I',F',h1,h2,h3,h4⟩) fun ch σ' I' F' a' w' h1 h2 h3 h4=>⟨σ',I',F',h1,h2,h3,h4⟩
       ·obtain⟨hb,h⟩:=dh h
        simp only[Bool.and_eq_true] at hb
        rcases Ah h with ⟨b,o,F1,hp,h⟩ | h
        ·exact xB hP hb.1 hb.2 hp h hr (fun σ' I' F' a' w' h1 h2 h3 h4=>⟨σ',I',F',h1,h2,h3,h4⟩) fun ch σ' I' F' a' w' h1 h2 h3 h4=>⟨σ',I',F',h1,h2,h3,h4⟩
        ·exact xA hP hb.1 hb.2 h hr (fun σ' I' F' a' w' h1 h2 h3 h4=>⟨σ',I',F',h1,h2,h3,h4⟩) fun ch σ' I' F' a' w' h1 h2 h3 h4=>⟨σ',I',F',h1,h2,h3,h4⟩
      ·obtain⟨hb,h⟩:=dh h
       simp only[Bool.and_eq_true] at hb
       exact xw hP hb.1 hb.2 h hr (fun σ' I' F' a' w' h1 h2 h3 h4=>⟨σ',I',F',h1,h2,h3,h4⟩) fun ch σ' I' F' a' w' h1 h2 h3 h4=>⟨σ',I',F',h1,h2,h3,h4⟩
     split at h
     ·obtain⟨hb,h⟩:=dh h
      simp only[Bool.and_eq_true] at hb
      exact xx hP hb.1 hb.2.1 hb.2.2.1 hb.2.2.2 h hr (fun σ' I' F' a' w' h1 h2 h3 h4=>⟨σ',I',F',h1,h2,h3,h4⟩) fun ch σ' I' F' a' w' h1 h2 h3 h4=>⟨σ',I',F',h1,h2,h3,h4⟩
     obtain⟨hb,h⟩:=dh h
     simp only[Bool.and_eq_true] at hb
     have hd:mC (.region rid ops true)=dz ops.toList:=rfl
     split at h<;>exact xo hP hb.1 hb.2 h hr fun σ' F' a' w' h1 h2 h3=>⟨σ',I,F',h1,cS.le_refl I,h2,h3⟩
 | cond c x y ih1 ih2 =>
   intro n K rd ro σ I F a w hc h hr
   simp only[W] at h
   split at h
   ·rename_i b hcc
    have hev:=S.mD hr hcc
    simp only[AV.g,At.g] at hev
    refine wpIn_cond hev ?_
    cases b with
    | true=>exact wpIn_mono (ih1 _ K rd ro σ I F a w hc h hr) fun e a' w' hp=>hp.mono (fun t ht=>List.mem_append_left _ ht) fun _ _ _ h=>h
    | false=>exact wpIn_mono (ih2 _ K rd ro σ I F a w hc h hr) fun e a' w' hp=>hp.mono (fun t ht=>List.mem_append_right _ ht) fun _ _ _ h=>h
   ·exact h.elim
 | block id c ih =>
   intro n K rd ro σ I F a w hc h hr
   refine wpIn_block (wpIn_mono (ih _ _ rd ro σ I F a w hc h hr) ?_)
   intro e a' w' ⟨σ',I',F',h1,h2,h3,h4⟩
   cases e with
   | exit id' =>
     simp only[Cm] at h3
     simp only[Exit.inBlock]
     by_cases hid:id'=id
     ·subst hid
      simp only[beq_self_eq_true,cond_true] at h3
      rw[if_pos rfl];exact⟨σ',I',F',h1,h2,h3,h4⟩
     ·have:(id'==id)=false:=by simpa using hid
      rw[this] at h3
      rw[if_neg hid];exact⟨σ',I',F',h1,h2,h3,h4⟩
   | _=>exact⟨σ',I',F',h1,h2,h3,h4⟩
 | seq x y ih1 ih2 =>
   intro n K rd ro σ I F a w hc h hr
   have hx:∀t∈mC x,t∈mC (.seq x y):=fun t ht=>List.mem_append_left _ ht
   have hy:∀t∈mC y,t∈mC (.seq x y):=fun t ht=>List.mem_append_right _ ht
   simp only[W] at h
   split at h
   ·refine wpIn_seq (wpIn_mono (ih1 _ _ rd ro σ I F a w hc h hr) ?_)
    intro e a' w' ⟨σ',I',F',h1,h2,h3,h4⟩
    cases e with
    | normal=>exact wpIn_mono (ih2 _ K rd ro σ' I' F' a' w' hc h3 h1) fun e a2 w2 hp=>hp.trans h4 h2 hx hy
    | _=>exact⟨σ',I',F',h1,h2,h3,h4.mono hx⟩
   ·rename_i ct hcut
    obtain⟨hok,h1,h2⟩:=dh h
    refine wpIn_seq (wpIn_mono (ih1 _ _ rd ro _ I F a w hc h1 (hr.lock ct)) ?_)
    intro e a' w' ⟨σ',I',F',g1,g2,g3,g4⟩
    have hother:dv σ (σ'.unlock σ):=dT g4.own
    cases e with
    | normal =>
      obtain⟨hokv,hInv⟩:=dh g3
      obtain⟨hdf,hInv⟩:=xD hInv
      have hrel:Rel (σ.lay ct (mC x) (σ'.mj ct)) I' F' a' w':=by
       refine Rel.lay ct (mC x) hr g1 ?_ (fun t ht=>g4.tm t ht) g4.size hokv hdf
       intro i b hb
       obtain⟨b1,e1,e2,e3,e4,e5,e6⟩:=rT (c:=ct) hb
       obtain⟨b2,f1,f2,f3,f4⟩:=g4.own i b1 e1
       refine⟨b2,f1,f2.trans e2,f3.trans e3,fun hs=>?_⟩
       have:pW ct.bks [] i=none:=by
        have:=sV (bks:=ct.bks) (vs:=(σ'.mj ct).drop ct.tms.length) (us:=[]) (i:=i)
        rw[hs] at this
        cases h0:pW ct.bks [] i with
        | none=>rfl
        | some cs=>rw[h0] at this;cases this
       exact (f4 (e6 this)).2.trans e4
      have h5:=sr h2 (sU hokv) I' F' g2 hInv
      have hkeep:du (mC x) σ a ((σ.lay ct (mC x) (σ'.mj ct)).unlock σ) a':=by
       refine⟨?_,g4.tm,g4.size⟩
       exact rz hok (dv.refl _)
      exact wpIn_mono (ih2 _ K rd ro _ I' F' a' w' hc h5 hrel.unlock) fun e a2 w2 hp=>hp.trans hkeep g2 hx hy
    | _=>exact⟨_,I',F',g1.unlock,g2,g3,(⟨hother,g4.tm,g4.size⟩:du (mC x) σ a _ a').mono hx⟩
 | loop c ih =>
   intro n K rd ro σ I F a w hc h hr
   simp only[W] at h
   split at h
   ·exact h.elim
   ·rename_i ct hcut
    obtain⟨hokv,⟨m0,h0⟩,h⟩:=dh h
    have hok:pf σ.own ct.bks=true:=by simp only[S.Ek,Bool.and_eq_true] at hokv;exact hokv.2
    refine Bc (fun m a1 w1=>∃vs I1 F1,Rel (σ.lay ct (mC c) vs) I1 F1 a1 w1∧cS.le I I1∧ct.Inv (σ.fix ct) I F vs m I1 F1∧eF ct.GX vs=true ∧
     (∀t,t∉mC c→a1.tmps[t]? = a.tmps[t]?)∧a1.tmps.size=a.tmps.size) ⟨m0,σ.mj ct,I,F, ?_,cS.le_refl I,h0,sU hokv,fun _ _=>rfl,rfl⟩ ?_
    ·exact Rel.lay ct (mC c) hr hr (fun i b hb=>⟨b,hb,rfl,rfl,fun _=>rfl⟩) (fun _ _=>rfl) rfl hokv rfl
    ·intro m a1 w1 ⟨vs,I1,F1,r1,r2,r3,r4,r5,r6⟩
     have hb:=sr h r4 m I1 F1 r2 r3
     refine wpIn_mono (ih _ _ rd ro _ I1 F1 a1 w1 hc hb r1) ?_
     intro e a' w' ⟨σ',I',F',g1,g2,g3,g4⟩
     have hkeep:du (mC c) σ a (σ'.unlock σ) a':=⟨rz hok g4.own,fun t ht=>(g4.tm t ht).trans (r5 t ht),g4.size.trans r6⟩
     cases e with
     | normal =>
       obtain⟨hokv',hInv⟩:=dh g3
       obtain⟨hdf,m',hlt,hInv⟩:=xD hInv
       refine⟨m',hlt,σ'.mj ct,I',F', ?_,cS.le_trans r2 g2,hInv,sU hokv',hkeep.tm,hkeep.size⟩
       refine Rel.lay ct (mC c) hr g1 ?_ hkeep.tm hkeep.size hokv' hdf
       intro i b hb
       have e0:(σ.lay ct (mC c) vs).own[i]? = some (match pW ct.bks (vs.drop ct.tms.length) (0+i) with
        | some cs=>{ b with cells:=cs.map fun v=>.a (.v v) }
        | none=>{ b with ro:=true }):=by show (eV _ _ 0 σ.own)[i]? = _;rw[gb,hb];rfl
       obtain⟨b2,f1,f2,f3,f4⟩:=g4.own i _ e0
       refine⟨b2,f1, ?_, ?_,fun hs=>?_⟩
       ·rw[f2];split<;>rfl
       ·rw[f3];split<;>rfl
       ·have hs':pW ct.bks (vs.drop ct.tms.length) (0+i)=none:=by
         rw[Nat.zero_add]
         have:=sV (bks:=ct.bks) (vs:=(σ'.mj ct).drop ct.tms.length) (us:=vs.drop ct.tms.length) (i:=i)
         rw[hs] at this
         cases h0:pW ct.bks (vs.drop ct.tms.length) i with
         | none=>rfl
         | some cs=>rw[h0] at this;cases this
        rw[hs'] at f4
        exact (f4 rfl).2
     | _=>exact⟨_,I',F',g1.unlock,cS.le_trans r2 g2,g3,hkeep⟩
def v8(P:Program)(σ:S):ResultVar→Option Value
 | .tmp t=>match σ.tm[t]? with
   | some (some av)=>some av.g
   | _=>none
 | .cell x t=>match σ.tm[x]? with
   | some (some (.a (.p i _ off))) =>
     match σ.own[i]?,pQ P t with
     | some db,some false=>(db.cells[off]?).map AV.g
     | some db,some true=>match uZ P t with
       | some n=>cond (((db.cells.drop off).take n).length==n) (some (.agg (((db.cells.drop off).take n).map AV.g).toArray)) none
       | none=>none
     | _,_=>none
   | _=>none
def pj(P:Program)(σ:S):List ResultVar→Option (List Value)
 | []=>some []
 | r::rs=>match v8 P σ r,pj P σ rs with
   | some v,some vs=>some (v::vs)
   | _,_=>none
def zc:List Value→Value
 | [v]=>v
 | vs=>.tuple vs.toArray
def s8(a:Act):ResultVar→Sem Value
 | .tmp t=>pure (a.tmps.getD t undef)
 | .cell x t=>do loadVar t (←asAddr (a.tmps.getD x undef))
theorem zd{σ:S}{I:cS}{F:cR}{a:Act}{w:World}(hr:Rel σ I F a w){r:ResultVar}{v:Value}(h:v8 P σ r=some v) :
  (s8 a r).run P w=.ok v w:=by
 cases r with
 | tmp t =>
   simp only[v8] at h
   split at h
   ·rename_i av ht
    have:=hr.tm t av ht
    cases h
    simp[s8,this]
   ·cases h
 | cell x t =>
   simp only[v8] at h
   split at h
   ·rename_i i b off hx
    have hv:=hr.tm x _ hx
    have hwf:=hr.wft x _ hx
    simp only[AV.g,At.g] at hv
    have hl:nC P t σ.own i off fun y=>y.g=v:=by
     unfold nC
     split at h
     ·rename_i db hb ha
      simp only[hb,ha]
      cases hc:db.cells[off]? with
      | none=>rw[hc] at h;cases h
      | some av=>rw[hc] at h;simp only[Option.map_some,Option.some.injEq] at h;exact h
     ·rename_i db hb ha
      simp only[hb,ha]
      split at h
      ·rename_i n hn
       simp only[hn]
       cases hlen:(((db.cells.drop off).take n).length==n) with
       | false=>rw[hlen] at h;cases h
       | true=>rw[hlen] at h;simp only[cond_true,Option.some.injEq] at h;exact h
      ·cases h
     ·cases h
    obtain⟨av,hg,_,hload⟩:=pS hl
    have:=hload b hwf w fun db hb=>hr.sat.get hb
    rw[hg] at this
    simp[s8,hv,asAddr,Sem.run_bind,this]
   ·cases h
theorem s9{σ:S}{I:cS}{F:cR}{a:Act}{w:World}(hr:Rel σ I F a w):∀{rs:List ResultVar} {vs:List Value},pj P σ rs=some vs →
  (rs.mapM (s8 a)).run P w=.ok vs w
 | [],vs,h=>by simp only[pj,Option.some.injEq] at h;subst h;rfl
 | r::rs,vs,h=>by
   simp only[pj] at h
   split at h
   ·rename_i v us h1 h2
    cases h
    simp[Sem.run_bind,zd hr h1,s9 hr h2]
   ·cases h
theorem rC{fn:Func}{σ:S}{I:cS}{F:cR}{a:Act}{w:World}(hr:Rel σ I F a w){vs:List Value}(h:pj P σ fn.results.toList=some vs) :
  (results fn a.tmps).run P w=.ok (zc vs) w:=by
 have h1:=s9 hr h
 have h2:results fn a.tmps=(do
   let vs ←fn.results.mapM (s8 a)
   pure (if h:vs.size=1 then vs[0] else .tuple vs)):=rfl
 rw[h2,Array.mapM_eq_mapM_toList]
 simp only[Sem.run_bind,Sem.run_map,h1,Result.andThen_ok,Sem.run_pure]
 congr 1
 match vs with
 | []=>rfl
 | [v]=>rfl
 | _::_::_=>rfl
def pick(own:List dQ):List Nat→List dQ
 | []=>[]
 | i::r=>match own[i]? with
   | some b=>b::pick own r
   | none=>pick own r
def ze:Option (List PanicEntry)→FrameMode
 | none=>.returning
 | some ch=>.panicking ch
def iL(P:Program)(f:FuncId)(args:List Value)(u:FrameMode)(I:cS)(F:cR)(Q:Ending→FrameMode→cS→cR→Prop):Prop :=
 ∀w,Sat I F w→CallsDIn Fence.wide 0 P f args.toArray u w fun e u' w'=>∃I' F',cS.le I I'∧Sat I' F' w'∧Q e u' I' F'
def xJ(P:Program)(A:oK)(rs:List ResultVar)(keep:List Nat)(Q:Ending→cS→cR→Prop):List Df→Option (List PanicEntry)→S→cS→cR→Prop
 | [],none,σ,I,F=>match pj P σ rs with
   | some vs=>Q (.returned (zc vs)) I (dm (pick σ.own keep)++F)
   | none=>False
 | [],some ch,σ,I,F=>Q (.panicked ch) I (dm (pick σ.own keep)++F)
 | .mark D::r,u,σ,I,F=>∃F3:cR,F.Perm ((D,.deferred (some []))::F3)∧xJ P A rs keep Q r u σ I F3
 | .fn f first cap args::r,u,σ,I,F=>cond (A.good f)
   (iL P f (first.map At.g++args++cap.map At.g) (ze u) I (dm σ.own++F) fun e u' I' G=>∃v,e=.returned v ∧
     pT A.shp (Hc σ.own 2 (first.flatMap At.idx++cap.flatMap At.idx)) 0 σ.own fun own'=>∃F',G.Perm (dm own'++F') ∧
      ((settle u'=.returning∧xJ P A rs keep Q r none { σ with own:=own' } I' F')∨(∃ch,settle u'=.panicking ch∧xJ P A rs keep Q r (some ch) { σ with own:=own' } I' F'))) False
def Am(P:Program)(A:oK)(rs:List ResultVar)(keep:List Nat)(Q:Ending→cS→cR→Prop):Kt
 | .normal,σ,I,F=>xJ P A rs keep Q σ.df none σ I F
 | .ret,σ,I,F=>xJ P A rs keep Q σ.df none σ I F
 | .panic ch,σ,I,F=>xJ P A rs keep Q σ.df (some ch) σ I F
 | _,_,_,_=>False
def Dl:Nat→List Nat→Bool
 | _,[]=>true
 | n,i::r=>decide (n≤i)&&Dl (i+1) r
theorem tb:∀(keep:List Nat) (n:Nat) (own:List dQ),Dl n keep=true→(pick own keep).Sublist (own.drop n)
 | [],n,own,_=>by simp[pick]
 | i::r,n,own,h=>by
   simp only[Dl,Bool.and_eq_true,decide_eq_true_eq] at h
   have ih:=tb r (i+1) own h.2
   simp only[pick]
   have hd:(own.drop (i+1)).Sublist (own.drop n):=by
    have:own.drop (i+1)=(own.drop n).drop (i+1-n):=by rw[List.drop_drop];congr 1;omega
    rw[this];exact List.drop_sublist _ _
   cases hb:own[i]? with
   | none=>exact ih.trans hd
   | some b =>
     have hlt:i<own.length:=by
      rcases Nat.lt_or_ge i own.length with h' | h'
      ·exact h'
      ·simp[List.getElem?_eq_none h'] at hb
     have hc:own.drop i=b::own.drop (i+1):=by
      rw[List.drop_eq_getElem_cons hlt]
      rw[List.getElem?_eq_getElem hlt] at hb
      rw[Option.some.inj hb]
     have hd':(own.drop i).Sublist (own.drop n):=by
      have:own.drop i=(own.drop n).drop (i-n):=by rw[List.drop_drop];congr 1;omega
      rw[this];exact List.drop_sublist _ _
     exact ((List.Sublist.cons_cons b ih).trans (by rw[hc];exact List.Sublist.refl _)).trans hd'
def lu(args:List AV)(n:Nat):List (Option AV):=args.map some++List.replicate (n-args.length) none
theorem Bi{shp:Nat→List Sh}{σ:S}{I I':cS}{F F' G:cR}{E:List Nat}{a:Act}{w w':World}(hr:Rel σ I F a w){own':List dQ}(hsat:Sat I' G w')
  (h:own'.length=σ.own.length∧∀(j:Nat) (b:dQ),σ.own[j]? = some b→∃b':dQ,own'[j]? = some b'∧b'.num=b.num∧b'.elem=b.elem∧b'.ro=b.ro ∧
    ((∃vs:List Value,b'.cells=vs.map fun v=>.a (.v v))∨b'.cells=b.cells)∧(b.ro=true→b'.cells=b.cells)) (hp:G.Perm (dm own'++F')):Rel { σ with own:=own' } I' F' a w':=by
 obtain⟨hl,hk⟩:=h
 have hkeep:dv σ { σ with own:=own' }:=fun j b hb=>by
  obtain⟨b',h1,h2,h3,h4,_,h6⟩:=hk j b hb
  exact⟨b',h1,h2,h3,fun hro=>⟨by rw[h4];exact hro,h6 hro⟩⟩
 refine hr.heap hkeep.same ?_ (hsat.perm hp)
 intro j b' hj c hc
 have hlt:j<σ.own.length:=by
  rcases Nat.lt_or_ge j own'.length with h' | h'
  ·omega
  ·simp[List.getElem?_eq_none h'] at hj
 obtain⟨b,hb⟩:∃b,σ.own[j]? = some b:=⟨σ.own[j],by simp[hlt]⟩
 obtain⟨b'',h1,_,_,_,h5,_⟩:=hk j b hb
 rw[hj] at h1;cases h1
 rcases h5 with ⟨vs,e⟩ | e
 ·rw[e] at hc;obtain⟨v,_,e⟩:=List.mem_map.1 hc;subst e;trivial
 ·rw[e] at hc;exact AV.fa hkeep.same (hr.wfo j b hb c hc)
theorem mQ(hP:∀f,A.good f=true→dA P f){fn:Func}{keep:List Nat}(hk:Dl 0 keep=true){Q:Ending→cS→cR→Prop}{I0:cS}:∀(df:List Df) (u:Option (List PanicEntry)) (σ:S) (I:cS) (F:cR) (a:Act) (w:World),
  xJ P A fn.results.toList keep Q df u σ I F→Rel σ I F a w→cS.le I0 I→LeavesInM Fence.wide 0 P fn a.tmps (sy I0 Q) (df.map Df.d) (ze u) w:=by
 have hsub:∀{σ:S} {I:cS} {F:cR} {a:Act} {w:World},Rel σ I F a w→Sat I (dm (pick σ.own keep)++F) w:=fun {σ I F a w} h1=>by
  have h5:=tb keep 0 σ.own hk
  rw[List.drop_zero] at h5
  exact h1.sat.sub ((h5.map _).append (List.Sublist.refl F))
 intro df
 induction df with
 | nil =>
   intro u σ I F a w h hr hle
   cases u with
   | none =>
     simp only[xJ] at h
     split at h
     ·rename_i vs hvs
      exact⟨_,rC hr hvs,I,_,hle,hsub hr,h⟩
     ·exact h.elim
   | some ch=>exact⟨I,_,hle,hsub hr,h⟩
 | cons d df ih =>
   intro u σ I F a w h hr hle
   have hrun:ze u ≠ .run:=by cases u<;>exact fun h=>by cases h
   cases d with
   | mark D =>
     obtain⟨F3,hp,h⟩:=h
     have hs:Sat I ((D,.deferred (some []))::(dm σ.own++F3)) w:=(hr.sat.perm (List.Perm.append_left _ hp)).perm List.perm_middle
     refine⟨hrun,.inl ⟨D,_,rfl,run_takeDeferred hs.rU,ih u σ I F3 a _ h ?_ hle⟩⟩
     exact hr.heap (jP.refl _) hr.wfo ((hs.p6 (o':=.deferred none)).sub (List.sublist_cons_self _ _))
   | fn f first cap args =>
     obtain⟨hg,h⟩:=dh h
     refine⟨hrun,.inr ⟨fun h=>by simp[Fence.wide] at h,.func f,(cap.map At.g).toArray,f,(first.map At.g).toArray++args.toArray++(cap.map At.g).toArray,rfl, ?_,fun _ _=>trivial, ?_⟩⟩
     ·simp only[Df.d,invoke];exact hP f hg _ w
     ·have hc:=h w hr.sat
      have ha:(first.map At.g++args++cap.map At.g).toArray=(first.map At.g).toArray++args.toArray++(cap.map At.g).toArray:=by simp
      rw[ha] at hc
      refine hc.mono fun e u' w' ⟨I',G,hle',hs',v,he,hq⟩=>?_
      subst he
      obtain⟨own',⟨F',hp,hor⟩,hown⟩:=mi hq
      have hrel:=Bi (shp:=A.shp) (E:=[]) hr hs' hown hp
      rcases hor with ⟨hm,hk2⟩ | ⟨ch,hm,hk2⟩
      ·have:=ih none _ I' F' a w' hk2 hrel (cS.le_trans hle hle')
       show LeavesInM Fence.wide 0 P fn a.tmps (sy I0 Q) (df.map Df.d) (settle u') w'
       rw[hm];exact this
      ·have:=ih (some ch) _ I' F' a w' hk2 hrel (cS.le_trans hle hle')
       show LeavesInM Fence.wide 0 P fn a.tmps (sy I0 Q) (df.map Df.d) (settle u') w'
       rw[hm];exact this
theorem Cp(hP:∀f,A.good f=true→dA P f){f:FuncId}{fn:Func}{c:Code}(hf:P.funcs[f]? = some fn)(hb:fn.body=some c){args:List AV}{own:List dQ}
  {I:cS} {F:cR} {keep:List Nat} {Q:Ending→cS→cR→Prop} (hk:Dl 0 keep=true) (hwa:∀x∈args,AV.wf own x) (hwo:∀b∈own,∀x∈b.cells,AV.wf own x)
  (h:W P A none c 0 (Am P A fn.results.toList keep Q) ⟨lu args fn.ntmps,own,[]⟩ I F) {vs:Array Value} (hv:vs=(args.map AV.g).toArray):cU P f vs I (dm own++F) Q:=by
 subst hv
 intro w hw
 refine callsIn_wide.1 (callsIn_of_wp_marks (n:=0) hf hb trivial ?_)
 have hrel:Rel ⟨lu args fn.ntmps,own,[]⟩ I F { tmps:=(args.map AV.g).toArray++Array.replicate (fn.ntmps-(args.map AV.g).toArray.size) undef,defers:=[] } w:=by
  refine⟨by simp[lu], ?_,rfl, ?_, ?_,hw⟩
  ·intro t av ht
   simp only[lu,List.getElem?_append] at ht
   split at ht
   ·rename_i hlt
    simp only[List.getElem?_map] at ht
    cases ha:args[t]? with
    | none=>rw[ha] at ht;simp at ht
    | some x =>
      rw[ha] at ht
      simp only[Option.map_some,Option.some.injEq] at ht
      subst ht
      simp at hlt
      rw[Array.getElem?_append_left (by simpa using hlt)]
      simp[ha]
   ·rw[List.getElem?_replicate] at ht;split at ht<;>cases ht
  ·intro t av ht
   simp only[lu,List.getElem?_append] at ht
   split at ht
   ·simp only[List.getElem?_map] at ht
    cases ha:args[t]? with
    | none=>rw[ha] at ht;simp at ht
    | some x =>
      rw[ha] at ht
      simp only[Option.map_some,Option.some.injEq] at ht
      subst ht
      exact hwa _ (List.mem_of_getElem? ha)
   ·rw[List.getElem?_replicate] at ht;split at ht<;>cases ht
  ·exact fun i b hb' x hx=>hwo b (List.mem_of_getElem? hb') x hx
 refine wpIn_mono (Ak hP c 0 _ none none _ I F _ w rfl h hrel) ?_
 intro e a' w' ⟨σ',I',F',h1,h2,h3,h4⟩
 cases e with
 | normal =>
   have:=mQ hP hk σ'.df none σ' I' F' a' w' h3 h1 h2
   rw[←h1.defers] at this;exact this
 | ret =>
   have:=mQ hP hk σ'.df none σ' I' F' a' w' h3 h1 h2
   rw[←h1.defers] at this;exact this
 | panic ch =>
   have:=mQ hP hk σ'.df (some ch) σ' I' F' a' w' h3 h1 h2
   rw[←h1.defers] at this;exact this
 | exit id=>exact h3.elim
 | goto l=>exact h3.elim
 | outgrown=>exact h3.elim
end sound
def td(P:Program)(f:Nat):Bool :=
 match P.funcs[f]? with
 | some fn=>!(fn.name == "runtime.NumGoroutine")&&fn.body.isSome
 | none=>false
theorem jz{P:Program}{f:Nat}(h:td P f=true):dA P f:=by
 intro args w
 unfold td at h
 split at h
 ·rename_i fn hf
  simp only[Bool.and_eq_true,Bool.not_eq_true'] at h
  have h1:¬fn.name = "runtime.NumGoroutine" := by simpa using h.1
  have h2:¬fn.body=none:=fun e=>by rw[e] at h;simp at h
  simp[callFunc,program,Sem.run_bind,Sem.run,hf,h1,h2]
 ·cases h
def lk(l:List (Nat×List Sh))(t:Nat):List Sh :=
 match l with
 | []=>[]
 | (s,x)::r=>cond (s==t) x (lk r t)
def p7:List Nat→Nat→Bool
 | [],_=>false
 | x::r,n=>x==n||p7 r n
def HU(l:List (Nat×Cut))(n:Nat):Option Cut :=
 match l with
 | []=>none
 | (m,c)::r=>cond (m==n) (some c) (HU r n)
def HV(l:List (Nat×Nat×List Nat))(n:Nat):Option (Nat×List Nat) :=
 match l with
 | []=>none
 | (m,k,h)::r=>cond (m==n) (some (k,h)) (HV r n)
theorem rD{P:Program}(l:List Nat)(h:l.all (td P)=true):∀f,p7 l f=true→dA P f:=by
 intro f hf
 have:f∈l:=by
  clear h
  induction l with
  | nil=>simp[p7] at hf
  | cons x r ih =>
    simp only[p7,Bool.or_eq_true,beq_iff_eq] at hf
    rcases hf with hf | hf
    ·exact hf▸List.mem_cons_self ..
    ·exact List.mem_cons_of_mem _ (ih hf)
 exact jz (List.all_eq_true.1 h f this)
abbrev cT:=Ending→cS→cR→Prop
def dy(sp pn gd:List Nat)(sh:List (Nat×List Sh))(ct:List (Nat×Cut))(pr rl:List Nat)(ds:List (Nat×Nat×List Nat))(fv:List Nat)(sq:List (Nat×List Nat))(tl:List (Nat×Nat))(s2:List (Nat×Nat×Nat×List Nat×List Nat):=[])(ol:List (Nat×List Nat×Nat):=[])(ot:List (Nat×List Nat×Ot):=[]):oK :=
 { sp:=fun r i=>p7 sp (r*1000+i),pn:=p7 pn,good:=p7 gd,shp:=lk sh,cut:=HU ct,pr:=fun r i=>p7 pr (r*1000+i),ds:=HV ds,rl:=fun r i=>p7 rl (r*1000+i),fv:=fun r i=>p7 fv (r*1000+i),sq:=HO sq,tl:=HS tl,s2:=HP s2,ol:=HR ol,ot:=HQ ot }
theorem xK{P:Program}{A:oK}{f:FuncId}{fn:Func}{args:List AV}{own:List dQ}{I:cS}{F:cR}{keep:List Nat}{Q:cT}{V:Prop}(gd:List Nat)(hf:P.funcs[f]? = some fn)(h:V)
  (e:W P A none (fn.body.getD .skip) 0 (Am P A fn.results.toList keep Q) ⟨lu args fn.ntmps,own,[]⟩ I F=V) (hg:A.good=p7 gd) (hG:gd.all (td P)=true) (hb:fn.body=some (fn.body.getD .skip)) (hk:Dl 0 keep=true)
  (hwa:∀x∈args,AV.wf own x) (hwo:∀b∈own,∀x∈b.cells,AV.wf own x) {vs:Array Value} (hv:vs=(args.map AV.g).toArray):cU P f vs I (dm own++F) Q :=
 Cp (fun f hf'=>rD gd hG f (by rw[←hg];exact hf')) hf hb hk hwa hwo (by rw[e];exact h) hv
theorem tv{P:Program}{A:oK}{f:FuncId}{fn:Func}{args:List AV}{own:List dQ}{I:cS}{F:cR}{keep:List Nat}{Q:cT}{V:Prop}(gd:List Nat)(hf:P.funcs[f]? = some fn)(h:V)
  (e:W P A none (fn.body.getD .skip) 0 (Am P A fn.results.toList keep Q) ⟨lu args fn.ntmps,own,[]⟩ I F=V:=by kernel_rfl) (hg:A.good=p7 gd:=by kernel_rfl) (hG:gd.all (td P)=true:=by kernel_rfl) (hb:fn.body=some (fn.body.getD .skip):=by kernel_rfl) (hk:Dl 0 keep=true:=by kernel_rfl)
  (hwa:∀x∈args,AV.wf own x:=by simp[AV.wf,At.wf]) (hwo:∀b∈own,∀x∈b.cells,AV.wf own x:=by simp[AV.wf,At.wf]) {vs:Array Value} (hv:vs=(args.map AV.g).toArray:=by rfl):cU P f vs I (dm own++F) Q :=
 xK gd hf h e hg hG hb hk hwa hwo hv
abbrev Bs:=ByteArray
abbrev OA:=Option Addr
abbrev nB:ByteArray:=⟨#[]⟩
abbrev It(c:Bool)(A B:Prop):Prop:=(c=true→A)∧(c=false→B)
abbrev Dt(p:Prop)[Decidable p](A B:Prop):Prop:=(decide p=true→A)∧(decide p=false→B)
abbrev dt{α:Type}(P:Program)(f:FuncId)(x:Array Value)(I:cS)(h:cR→cR)(F:cR)(v:α→Value)(k:α→cS→cR→Prop):Prop:=cU P f x I (h F) fun e I' G=>∃r:α,e=.returned (v r)∧∃F':cR,List.Perm G (h F')∧k r I' F'
abbrev eg(P:Program)(f:FuncId)(x:Array Value)(I:cS)(h:cR→cR)(F:cR)(R:Ending→cS→((cR→Prop)→Prop)→Prop):Prop:=cU P f x I (h F) fun e I' G=>R e I' fun k=>∃F':cR,List.Perm G (h F')∧k F'
abbrev an(g:List Nat)(c:List Nat)(s:List (Nat×List Sh)):oK:=dy g [] c s [] [] [] [] [] [] []
theorem tw{P:Program}{A:oK}{f:FuncId}{fn:Func}{vs:List Value}{I:cS}{F:cR}{Q:cT}{V:Prop}(gd:List Nat)(hf:P.funcs[f]? = some fn)(h:V)
  (e:W P A none (fn.body.getD .skip) 0 (Am P A fn.results.toList [] Q) ⟨lu (vs.map fun v=>.a (.v v)) fn.ntmps,[],[]⟩ I F=V:=by kernel_rfl) (hg:A.good=p7 gd:=by kernel_rfl) (hG:gd.all (td P)=true:=by kernel_rfl) (hb:fn.body=some (fn.body.getD .skip):=by kernel_rfl)
  : cU P f vs.toArray I F Q :=
 xK (args:=vs.map fun v=>.a (.v v)) (own:=[]) (keep:=[]) gd hf h e hg hG hb rfl (by intro x hx;obtain⟨v,_,rfl⟩:=List.mem_map.1 hx;simp[AV.wf,At.wf]) (by simp) (by rw[List.map_map];congr 1;exact (List.map_id _).symm)
end Go.Vc
namespace Go.Vc
theorem te{α β:Type}(f:α→List β)(z:Nat)(hz:∀x,(f x).length=z):∀(l:List α) (i:Nat) (x:α) (j:Nat),l[i]? = some x→j<z→(l.flatMap f)[i*z+j]? = (f x)[j]?
 | [],i,x,j,h,_=>by simp at h
 | y::l,0,x,j,h,hj=>by
   simp at h;subst h
   rw[List.flatMap_cons,List.getElem?_append_left (by rw[hz];omega)];simp
 | y::l,i+1,x,j,h,hj=>by
   rw[List.flatMap_cons,List.getElem?_append_right (by rw[hz,Nat.succ_mul];omega),hz,show (i+1)*z+j-z=i*z+j by rw[Nat.succ_mul];omega]
   exact te f z hz l i x j (by simpa using h) hj
def Sl{α:Type}(I:cS)(z:Nat)(f:α→List Value)(a:Option Addr)(n:Nat)(l:List α):Prop :=
 n=l.length∧(l≠[]→∃ad,a=some ad∧∀(i:Nat) (x:α),l[i]? = some x→∀G,Rd I G (ad.add (i*z)) (f x))
theorem Rd.le{I J:cS}{G:cR}{ad:Addr}{cs:List Value}(h:Rd I G ad cs)(hl:∀b o,(I b=some o∨(b,o)∈G)→J b=some o∨(b,o)∈G):Rd J G ad cs:=by
 obtain⟨h1,cells,e,fz,h2,h3⟩:=h
 exact⟨h1,cells,e,fz,hl _ _ h2,h3⟩
theorem Rd.mono{I J:cS}{G:cR}{ad:Addr}{cs:List Value}(h:Rd I G ad cs)(hl:cS.le I J):Rd J G ad cs :=
 h.le fun b o hb=>hb.imp (fun h=>hl.at h) id
theorem Sl.mono{α:Type}{I J:cS}{z:Nat}{f:α→List Value}{a:Option Addr}{n:Nat}{l:List α}(h:Sl I z f a n l)(hl:cS.le I J):Sl J z f a n l :=
 ⟨h.1,fun hne=>let ⟨ad,ha,hr⟩:=h.2 hne;⟨ad,ha,fun i x hx G=>(hr i x hx G).mono hl⟩⟩
theorem Sl.p8{α:Type}{I:cS}{z:Nat}{f:α→List Value}(hz:∀x,(f x).length=z){b e:Nat}{fz:Nat×Nat}{l:List α}{cells:Array Value}(h:I b=some (.cells cells e fz))
  (hc:∀k,k<(l.flatMap f).length→cells[k]? = (l.flatMap f)[k]?):Sl I z f (some ⟨b,0,none⟩) l.length l:=by
 refine⟨rfl,fun hne=>⟨_,rfl,fun i x hx G=>?_⟩⟩
 have hadd:(⟨b,0,none⟩:Addr).add (i*z)=⟨b,i*z,none⟩:=by unfold Addr.add;split<;>simp_all
 rw[hadd]
 refine⟨rfl,cells,e,fz,.inl h,fun j hj=>?_⟩
 rw[hz] at hj
 have h1:=te f z hz l i x j hx hj
 have h2:(l.flatMap f)[i*z+j]? ≠ none:=by
  rw[h1];rw[List.getElem?_eq_getElem (by rw[hz];exact hj)];simp
 have hlt:i*z+j<(l.flatMap f).length:=by
  rcases Nat.lt_or_ge (i*z+j) (l.flatMap f).length with h | h
  ·exact h
  ·exact absurd (List.getElem?_eq_none h) h2
 show cells[i*z+j]? = _
 rw[hc _ hlt,h1]
theorem Sl.ie{α:Type}{I:cS}{z:Nat}{f:α→List Value}(hz:∀x,(f x).length=z){b e:Nat}{fz:Nat×Nat}{l:List α}{cells:Array Value}(h:I b=some (.cells cells e fz))
  (hc:cells.toList=l.flatMap f):Sl I z f (some ⟨b,0,none⟩) l.length l :=
 Sl.p8 hz h fun k _=>by rw[←hc];simp
theorem Sl.at{α:Type}{I:cS}{z:Nat}{f:α→List Value}{a:Option Addr}{n:Nat}{l:List α}(h:Sl I z f a n l){i:Int}(h0:0≤i)(h1:i<n) :
  ∃ad x,a=some ad∧l[i.toNat]? = some x∧∀G,Rd I G (ad.add (Int.toNat i*z)) (f x):=by
 have hlt:i.toNat<l.length:=by have:=h.1;omega
 obtain⟨ad,ha,hr⟩:=h.2 (by intro e;rw[e] at hlt;simp at hlt)
 exact⟨ad,l[i.toNat],ha,by simp[hlt],fun G=>hr _ _ (by simp[hlt]) G⟩
def Acc{α:Type}(z:Nat)(f:α→List Value)(e:Nat)(a:Option Addr)(n c:Nat)(l:List α)(A:cR):Prop :=
 n=l.length∧((a=none∧c=0∧l=[]∧A=[]) ∨
  ∃b cells,a=some ⟨b,0,none⟩∧A=[(b,Obj.cells cells e (0,0))]∧cells.size=c*z∧n≤c∧cells.toList.take (n*z)=l.flatMap f)
theorem Acc.nil{α:Type}{z:Nat}{f:α→List Value}{e:Nat}:Acc z f e none 0 0 ([]:List α) []:=⟨rfl,.inl ⟨rfl,rfl,rfl,rfl⟩⟩
theorem zf(w:World)(g:Nat)(old cs:Array Value)(t:TypeId)(fr:Nat×Nat)(hg:w.heap[g]? = some (.cells old t fr)):(w.setRow g cs).heap=w.heap.setIfInBounds g (.cells cs t fr):=by
 apply Array.ext_getElem?
 intro j
 rw[Array.getElem?_setIfInBounds]
 by_cases h:g=j
 ·subst h
  have hlt:g<w.heap.size:=(Array.getElem?_eq_some_iff.1 hg).1
  rw[if_pos rfl,if_pos hlt];exact setRow_heap w g old cs t fr hg
 ·rw[if_neg h];exact setRow_other w g j cs (Ne.symm h)
theorem mm{α β:Type}{f:α→List β}{z:Nat}(hz:∀x,(f x).length=z):∀l:List α,(l.flatMap f).length=l.length*z
 | []=>by simp
 | x::l=>by rw[List.flatMap_cons,List.length_append,hz,mm hz l,List.length_cons,Nat.succ_mul,Nat.add_comm]
theorem xL{P:Program}{α:Type}{z:Nat}{f:α→List Value}(hz:∀x,(f x).length=z)(t ty e:TypeId)(i:TypeInfo)(zv:Value)(ht:P.underlying t=some (.slice e))(hi:P.info? e=some i)(hzv:i.zero=some zv)(hsz:i.size=z)(hzs:zv.cells.size=z)(hb:1≤i.bytes)
  {a:Option Addr} {n c:Nat} {l:List α} {A:cR} (hA:Acc z f e a n c l A) {xs:List α} (h1:∀x∈xs,∀u∈f x,u.oneCell'=true) (hx:xs≠[]) {sa:Addr} {m sc:Nat} (hm:m=xs.length) {I:cS} {F:cR}
  (hr:Rd I (A++F) sa (xs.flatMap f)) (hfit:(l.length+xs.length)*i.bytes≤140737488355328) :
  dk P (Builtin.append_ #[t,t] ty #[.slice a n c,.slice (some sa) m sc]) I (A++F) fun v I' G=>∃a' n' c' A',v=.slice a' n' c'∧Acc z f e a' n' c' (l++xs) A'∧G=A'++F∧(a'=a∨Sl I' z f a n l):=by
 intro w hw
 subst hsz
 have hlen:(xs.flatMap f).length=m*i.size:=by rw[mm hz,hm]
 have hnews:∀j u,(xs.flatMap f)[j]? = some u→w.cell? (sa.add j)=some u:=fun j u hj=>by
  rw[hr.cell hw j (by
   rcases Nat.lt_or_ge j (xs.flatMap f).length with h | h
   ·exact h
   ·rw[List.getElem?_eq_none h] at hj;cases hj),hj]
 have h1':∀u∈xs.flatMap f,u.oneCell'=true:=fun u hu=>by
  obtain⟨x,hxm,hu⟩:=List.mem_flatMap.1 hu
  exact h1 x hxm u hu
 have hxp:0<xs.length:=List.length_pos_iff.2 hx
 have hle:l.length+xs.length≤140737488355328:=Nat.le_trans (Nat.le_mul_of_pos_right _ hb) hfit
 obtain⟨hn,⟨ha,hc,hl,hA⟩ | ⟨b,cells,ha,hA,hcs,hnc,htk⟩⟩:=hA
 ·subst ha hc hl hA
  simp only[List.length_nil,Nat.zero_add,List.nil_append] at hfit hn hle ⊢
  subst hn
  have hrun:=run_append_nil (P:=P) w t ty e i zv ht hi hzv sa m sc _ hlen hnews (by omega) (by omega) (by rw[hm];omega)
  have hge:=grownCap_ge w m 0 e
  have hsat:Sat I F w.drew:=hw.of_heap rfl ⟨rfl,rfl⟩
  refine⟨_,_,I,_,hrun,cS.le_refl I,hsat.alloc _,_,_,_,[_],rfl,⟨hm,.inr ⟨_,_,rfl,rfl, ?_,hge, ?_⟩⟩,rfl, ?_⟩
  ·simp only[Array.size_append,List.size_toArray,size_zeroCells,hzs,hlen,←Nat.add_mul]
   congr 1;omega
  ·rw[Array.toList_append,←hlen];exact List.take_left
  ·exact .inr ⟨rfl,fun h=>absurd rfl h⟩
 ·subst ha hA
  have hflat:(l.flatMap f).length=n*i.size:=by rw[mm hz,hn]
  have hg:w.heap[b]? = some (.cells cells e (0,0)):=hw.own _ _ (List.mem_cons_self ..)
  by_cases hroom:n+m≤c
  ·have hfit2:n*i.size+(xs.flatMap f).length≤cells.size:=by rw[hlen,hcs,←Nat.add_mul];exact Nat.mul_le_mul_right _ hroom
   have hrun:=run_append_room (P:=P) w t ty e i ht hi b n c cells hg sa m sc _ hlen hnews h1' hroom hfit2
   refine⟨_,_,I,_,hrun,cS.le_refl I,hw.set (zf w b cells _ e (0,0) hg) ⟨rfl,rfl⟩,_,_,_,[_],rfl,⟨by rw[List.length_append];omega,.inr ⟨_,_,rfl,rfl, ?_,hroom, ?_⟩⟩,rfl,.inl rfl⟩
   ·simp only[List.size_toArray,List.length_append,List.length_take,List.length_drop,Array.length_toList]
    omega
   ·rw[htk,List.flatMap_append,Nat.add_mul,←hflat,←hlen,←List.length_append]
    exact List.take_left
  ·have hcell:∀j u,(l.flatMap f)[j]? = some u→w.cell? ((⟨b,0,none⟩:Addr).add j)=some u:=fun j u hj=>by
    have hadd:(⟨b,0,none⟩:Addr).add j=⟨b,j,none⟩:=by unfold Addr.add;split<;>simp_all
    rw[hadd,cell_of_row w b j cells e (0,0) hg]
    rw[←htk,List.getElem?_take] at hj
    split at hj
    ·simpa using hj
    ·cases hj
   have hrun:=run_append_grow (P:=P) w t ty e i zv ht hi hzv ⟨b,0,none⟩ n c _ hflat hcell sa m sc _ hlen hnews (by omega) (by omega) (growslice_fits (by omega) (by rw[hn,hm];exact hfit))
   have hge:=grownCap_ge w (n+m) c e
   obtain⟨hle',hprom⟩:=(hw.of_heap rfl ⟨rfl,rfl⟩:Sat I ((b,Obj.cells cells e (0,0))::F) w.drew).lh
   refine⟨_,_,_,_,hrun,hle',hprom.alloc _,_,_,_,[_],rfl,⟨by rw[List.length_append];omega,.inr ⟨_,_,rfl,rfl, ?_,hge, ?_⟩⟩,rfl,.inr ?_⟩
   ·simp only[Array.size_append,List.size_toArray,size_zeroCells,hzs,hflat,hlen,←Nat.add_mul]
    congr 1;omega
   ·simp only[Array.toList_append]
    rw[List.flatMap_append,Nat.add_mul,←hflat,←hlen,←List.length_append]
    exact List.take_left
   ·rw[hn]
    refine Sl.p8 hz (cS.pO _ _ _) fun k hk=>?_
    rw[←htk,List.getElem?_take,if_pos]
    ·simp
    ·rw[mm hz,←hn] at hk;exact hk
theorem eG{P:Program}{α:Type}{z:Nat}{f:α→List Value}(hz:∀x,(f x).length=z){t ty e:TypeId}{zv:Value}{by':Nat}(ht:P.underlying t=some (.slice e))(hi:(P.info? e).map (fun i=>(i.zero,i.size,i.bytes))=some (some zv,z,by'))(hzs:zv.cells.size=z)(hb:1≤by')
  {a:Option Addr} {n c:Nat} {l:List α} {A:cR} (hA:Acc z f e a n c l A) {xs:List α} (h1:∀x∈xs,∀u∈f x,u.oneCell'=true) (hx:xs≠[]) {sa:Addr} {m sc:Nat} (hm:m=xs.length) {I:cS} {F:cR}
  (hr:Rd I (A++F) sa (xs.flatMap f)) (hfit:(l.length+xs.length)*by'≤140737488355328) :
  dk P (Builtin.append_ #[t,t] ty #[.slice a n c,.slice (some sa) m sc]) I (A++F) fun v I' G=>∃a' n' c' A',v=.slice a' n' c'∧Acc z f e a' n' c' (l++xs) A'∧G=A'++F∧(a'=a∨Sl I' z f a n l):=by
 cases h:P.info? e with
 | none=>rw[h] at hi;cases hi
 | some i =>
   rw[h] at hi
   simp only[Option.map_some,Option.some.injEq,Prod.mk.injEq] at hi
   exact xL hz t ty e i zv ht h hi.1 hi.2.1 hzs (by omega) hA h1 hx hm hr (by rw[hi.2.2];exact hfit)
theorem dk.perm{P:Program}{s:Sem Value}{I:cS}{F G:cR}{Q:Value→cS→cR→Prop}(h:dk P s I F Q)(p:G.Perm F):dk P s I G Q:=fun w hw=>h w (hw.perm p)
theorem cU.perm{P:Program}{f:FuncId}{args:Array Value}{I:cS}{F G:cR}{Q:Ending→cS→cR→Prop}(h:cU P f args I F Q)(p:G.Perm F):cU P f args I G Q:=fun w hw=>h w (hw.perm p)
theorem cU.keep{P:Program}{f:FuncId}{args:Array Value}{I:cS}{F:cR}{Q Q':Ending→cS→cR→Prop}(h:cU P f args I F Q)
  (k:∀e I' G w,cS.le I I'→Sat I' G w→Q e I' G→∃J G',cS.le I' J∧Sat J G' w∧Q' e J G'):cU P f args I F Q' :=
 fun w hw=>(h w hw).mono fun e w' ⟨I',G,hl,hs,hq⟩=>let ⟨J,G',hl',hs',hq'⟩:=k e I' G w' hl hs hq;⟨J,G',cS.le_trans hl hl',hs',hq'⟩
theorem Acc.keep{α:Type}{z:Nat}{f:α→List Value}(hz:∀x,(f x).length=z){e:Nat}{a:Option Addr}{n c:Nat}{l:List α}{A F:cR}(h:Acc z f e a n c l A){I:cS}{w:World}(hw:Sat I (A++F) w) :
  ∃J,cS.le I J∧Sat J F w∧Sl J z f a n l:=by
 obtain⟨hn,⟨ha,hc,hl,hA⟩ | ⟨b,cells,ha,hA,hcs,hnc,htk⟩⟩:=h
 ·subst ha hc hl hA hn
  exact⟨I,cS.le_refl I,hw,rfl,fun h=>absurd rfl h⟩
 ·subst ha hA
  obtain⟨h1,h2⟩:=hw.lh
  refine⟨_,h1,h2, ?_⟩
  rw[hn]
  refine Sl.p8 hz (cS.pO _ _ _) fun k hk=>?_
  rw[←htk,List.getElem?_take,if_pos]
  ·simp
  ·rw[mm hz,←hn] at hk;exact hk
def zg:Value→Value→Option Bool
 | .int k a,.int k' b=>bif k==k' then some (a==b) else none
 | .string a,.string b=>some (a.toList==b.toList)
 | .bool a,.bool b=>some (a==b)
 | _,_=>none
def qL(P:Program)(t:TypeId):Value→Bool
 | .int _ _=>match P.underlying t with | some (.int _)=>true | _=>false
 | .string _=>match P.underlying t with | some .string=>true | _=>false
 | .bool _=>match P.underlying t with | some .bool=>true | _=>false
 | _=>false
theorem zh{P:Program}{t:TypeId}{u v:Value}{b:Bool}(h:zg u v=some b)(ht:qL P t u=true)(d:Nat)(w:World):(Op.equalIn (d+1) t u v).run P w=.ok b w:=by
 unfold zg at h
 split at h
 ·rename_i k a k' b'
  cases hk:k==k' with
  | false=>rw[hk] at h;cases h
  | true =>
    have:k=k':=by cases k<;>cases k'<;>first | rfl | cases hk
    subst this
    rw[hk] at h
    cases h
    simp only[qL] at ht
    split at ht
    ·rename_i hu;exact run_equalIn_int w d t k _ a b' hu
    ·exact absurd ht (by decide)
 ·cases h
  simp only[qL] at ht
  split at ht
  ·rename_i hu;exact run_equalIn_string w d t _ _ hu
  ·exact absurd ht (by decide)
 ·cases h
  simp only[qL] at ht
  split at ht
  ·rename_i hu;exact run_equalIn_bool' w d t _ _ hu
  ·exact absurd ht (by decide)
 ·cases h
def tf(P:Program)(xs ys:Array Value):List Field→Option Bool
 | []=>some true
 | f::fs=>bif !(f.name == "_")&&(match pQ P f.type with | some false=>true | _=>false) then
    (match xs[f.offset]?,ys[f.offset]? with
      | some u,some v=>bif qL P f.type u then (match zg u v,tf P xs ys fs with | some b,some c=>some (b&&c) | _,_=>none) else none
      | _,_=>none) else none
theorem xM{P:Program}{t:TypeId}{cs:Array Value}{o:Nat}{v:Value}(h:pQ P t=some false)(hv:cs[o]? = some v)(w:World):(part t cs o).run P w=.ok v w:=by
 simp[part,Sem.run_bind,qD h,hv]
theorem tg{P:Program}{xs ys:Array Value}(d:Nat):∀{fs:List Field} {b:Bool},tf P xs ys fs=some b→∀w,(Op.eqFields (d+1) xs ys fs).run P w=.ok b w
 | [],b,h,w=>by cases h;rfl
 | f::fs,b,h,w=>by
   unfold tf at h
   cases hc:(!(f.name == "_")&&(match pQ P f.type with | some false=>true | _=>false)) with
   | false=>rw[hc] at h;cases h
   | true =>
     rw[hc] at h
     simp only[cond_true] at h
     rw[Bool.and_eq_true] at hc
     have hname:f.name ≠ "_" := by simpa using hc.1
     have hagg:pQ P f.type=some false:=by
      have:=hc.2
      split at this
      ·assumption
      ·cases this
     split at h
     ·rename_i u v hu hv
      cases hl:qL P f.type u with
      | false=>rw[hl] at h;cases h
      | true =>
        rw[hl] at h
        simp only[cond_true] at h
        split at h
        ·rename_i b' c hb hcc
         cases h
         simp only[Op.eqFields,hname,ne_eq,not_false_eq_true,if_true,Sem.run_bind,xM hagg hu,xM hagg hv,Result.andThen_ok,zh hb hl]
         cases b'
         ·simp
         ·simp only[Bool.not_true,Bool.false_eq_true,if_false,Bool.true_and]
          exact tg d hcc w
        ·cases h
     ·cases h
theorem zi{P:Program}{t:TypeId}{x y:Operand}{xs ys:Array Value}{b:Bool}(ht:P.underlying t=some (.struct (P.fieldsOf t)))(hp:P.stoodInHeld t=false)(hm:P.eqGuardType P.depth t=false)
  (h:tf P xs ys (P.fieldsOf t).toList=some b):eA P .neq t x y (.agg xs) (.agg ys) (!b):=by
 intro w
 simp only[Sem.run_bind,run_eqGuard_agg (P:=P) w .neq t x y xs ys hm,Result.andThen_ok,run_neq_struct]
 rw[show (10000:Nat)=9998+1+1 from rfl,run_equalIn_struct w (9998+1) t xs ys ht hp,tg 9998 h];rfl
def kq{α:Type}(I:cS)(G:cR)(z:Nat)(f:α→List Value)(a:Option Addr)(n:Nat)(l:List α):Prop :=
 n=l.length∧(l≠[]→∃ad,a=some ad∧∀(i:Nat) (x:α),l[i]? = some x→Rd I G (ad.add (i*z)) (f x))
theorem Rd.sub{I J:cS}{G H:cR}{ad:Addr}{cs:List Value}(h:Rd I G ad cs)(hl:cS.le I J)(hs:∀x,x∈G→x∈H):Rd J H ad cs:=by
 obtain⟨h1,cells,e,fz,h2,h3⟩:=h
 exact⟨h1,cells,e,fz,h2.imp (fun h=>hl.at h) (hs _),h3⟩
theorem Sl.B0{α:Type}{I:cS}{z:Nat}{f:α→List Value}{a:Option Addr}{n:Nat}{l:List α}(h:Sl I z f a n l)(G:cR):kq I G z f a n l :=
 ⟨h.1,fun hne=>let ⟨ad,ha,hr⟩:=h.2 hne;⟨ad,ha,fun i x hx=>hr i x hx G⟩⟩
theorem kq.mono{α:Type}{I J:cS}{G H:cR}{z:Nat}{f:α→List Value}{a:Option Addr}{n:Nat}{l:List α}(h:kq I G z f a n l)(hl:cS.le I J)(hs:∀x,x∈G→x∈H):kq J H z f a n l :=
 ⟨h.1,fun hne=>let ⟨ad,ha,hr⟩:=h.2 hne;⟨ad,ha,fun i x hx=>(hr i x hx).sub hl hs⟩⟩
theorem kq.at{α:Type}{I:cS}{G:cR}{z:Nat}{f:α→List Value}{a:Option Addr}{n:Nat}{l:List α}(h:kq I G z f a n l){i:Int}(h0:0≤i)(h1:i<n) :
  ∃ad x,a=some ad∧l[i.toNat]? = some x∧Rd I G (ad.add (Int.toNat i*z)) (f x):=by
 have hlt:i.toNat<l.length:=by have:=h.1;omega
 obtain⟨ad,ha,hr⟩:=h.2 (by intro e;rw[e] at hlt;simp at hlt)
 exact⟨ad,l[i.toNat],ha,by simp[hlt],hr _ _ (by simp[hlt])⟩
theorem kq.EW{α:Type}{I:cS}{G:cR}{z:Nat}{f:α→List Value}(hz:∀x,(f x).length=z){b e:Nat}{fz:Nat×Nat}{l:List α}{cells:Array Value}(h:(b,Obj.cells cells e fz)∈G)
  (hc:∀k,k<(l.flatMap f).length→cells[k]? = (l.flatMap f)[k]?):kq I G z f (some ⟨b,0,none⟩) l.length l:=by
 refine⟨rfl,fun hne=>⟨_,rfl,fun i x hx=>?_⟩⟩
 have hadd:(⟨b,0,none⟩:Addr).add (i*z)=⟨b,i*z,none⟩:=by unfold Addr.add;split<;>simp_all
 rw[hadd]
 refine⟨rfl,cells,e,fz,.inr h,fun j hj=>?_⟩
 rw[hz] at hj
 have h1:=te f z hz l i x j hx hj
 have h2:(l.flatMap f)[i*z+j]? ≠ none:=by
  rw[h1];rw[List.getElem?_eq_getElem (by rw[hz];exact hj)];simp
 have hlt:i*z+j<(l.flatMap f).length:=by
  rcases Nat.lt_or_ge (i*z+j) (l.flatMap f).length with h | h
  ·exact h
  ·exact absurd (List.getElem?_eq_none h) h2
 show cells[i*z+j]? = _
 rw[hc _ hlt,h1]
theorem Acc.B0{α:Type}{z:Nat}{f:α→List Value}(hz:∀x,(f x).length=z){e:Nat}{a:Option Addr}{n c:Nat}{l:List α}{A:cR}(h:Acc z f e a n c l A)(I:cS){G:cR}(hs:∀x,x∈A→x∈G):kq I G z f a n l:=by
 obtain⟨hn,⟨ha,hc,hl,hA⟩ | ⟨b,cells,ha,hA,hcs,hnc,htk⟩⟩:=h
 ·subst hl hn;exact⟨rfl,fun h=>absurd rfl h⟩
 ·subst ha hA
  rw[hn]
  refine kq.EW hz (hs _ (List.mem_cons_self ..)) fun k hk=>?_
  rw[←htk,List.getElem?_take,if_pos]
  ·simp
  ·rw[mm hz,←hn] at hk;exact hk
theorem Rd.field{I:cS}{G:cR}{ad:Addr}{cs:List Value}(h:Rd I G ad cs){o:Nat}{v:Value}(hv:cs[o]? = some v):Rd I G (ad.add o) [v]:=by
 obtain⟨h1,cells,e,fz,h2,h3⟩:=h
 have hadd:ad.add o=⟨ad.block,ad.off+o,none⟩:=by
  obtain⟨b,off,sp⟩:=ad
  simp only at h1;subst h1
  unfold Addr.add;split<;>simp_all
 rw[hadd]
 refine⟨rfl,cells,e,fz,h2,fun j hj=>?_⟩
 have:j=0:=by simpa using hj
 subst this
 have hlt:o<cs.length:=by
  rcases Nat.lt_or_ge o cs.length with h | h
  ·exact h
  ·rw[List.getElem?_eq_none h] at hv;cases hv
 show cells[ad.off+o+0]? = _
 rw[Nat.add_zero,h3 o hlt,hv];rfl
abbrev Ck(z:Nat):={ x:List Value // x.length=z }
def cv{z:Nat}(x:Ck z):List Value:=x.val
theorem pk{z:Nat}(x:Ck z):(cv x).length=z:=x.property
def Bj{z:Nat}(o:Nat)(v:Value)(x:Ck z):Ck z:=⟨x.val.set o v,by rw[List.length_set];exact x.property⟩
theorem xN{z o:Nat}(ho:o<z)(v:Value):∀(l:List (Ck z)) (k:Nat),k<l.length→(l.modify k (Bj o v)).flatMap cv=(l.flatMap cv).set (k*z+o) v
 | [],k,h=>by simp at h
 | x::l,0,_=>by
   rw[List.modify_zero_cons,List.flatMap_cons,List.flatMap_cons,Nat.zero_mul,Nat.zero_add,List.set_append_left _ _ (by rw[pk];exact ho)];rfl
 | x::l,k+1,h=>by
   rw[List.modify_succ_cons,List.flatMap_cons,List.flatMap_cons,xN ho v l k (by simpa using h),List.set_append_right _ _ (by rw[pk,Nat.succ_mul];omega),pk]
   congr 2
   rw[Nat.succ_mul];omega
theorem th{α:Type}(n:Nat)(v:α)(cs:List α)(h:n<cs.length):cY n [v] cs=cs.set n v:=by rw[o8 n v [] cs h,o7]
theorem add_add(b i j:Nat):((⟨b,0,none⟩:Addr).add i).add j=⟨b,i+j,none⟩:=by
 unfold Addr.add;simp only;repeat' split
 all_goals simp_all
theorem p9(b i j k:Nat):(((⟨b,0,none⟩:Addr).add i).add j).add k=⟨b,i+(j+k),none⟩:=by
 rw[add_add]
 unfold Addr.add;split<;>simp_all<;>omega
theorem Rd.dE{I:cS}{G:cR}{ad:Addr}{cs:List Value}(h:Rd I G ad cs){p q:Nat}{v:Value}(hv:cs[p+q]? = some v):Rd I G ((ad.add p).add q) [v]:=by
 have h1:=h.field hv
 have hsp:=h.1
 have:(ad.add p).add q=ad.add (p+q):=by
  obtain⟨b,off,sp⟩:=ad
  simp only at hsp;subst hsp
  unfold Addr.add;simp only;repeat' split
  all_goals simp_all<;>omega
 rw[this];exact h1
theorem dg(b i:Nat):(⟨b,0,none⟩:Addr).add i=⟨b,i,none⟩:=by unfold Addr.add;split<;>simp_all
theorem Acc.put{z e n c k o:Nat}{a:Option Addr}{l:List (Ck z)}{A:cR}(h:Acc z cv e a n c l A)(hk:k<n)(ho:o<z)(v:Value) :
  ∃b cs,a=some ⟨b,0,none⟩∧A=[(b,Obj.cells cs.toArray e (0,0))]∧k*z+o+1≤cs.length ∧
   Acc z cv e a n c (l.modify k (Bj o v)) [(b,Obj.cells (cY (k*z+o) [v] cs).toArray e (0,0))]:=by
 obtain⟨hn,⟨ha,hc,hl,hA⟩ | ⟨b,cells,ha,hA,hcs,hnc,htk⟩⟩:=h
 ·subst hl;rw[hn] at hk;simp at hk
 ·have hlt:k*z+o+1≤n*z:=by
   have:(k+1)*z≤n*z:=Nat.mul_le_mul_right z hk
   rw[Nat.succ_mul] at this;omega
  have hle:n*z≤cells.size:=by rw[hcs];exact Nat.mul_le_mul_right z hnc
  refine⟨b,cells.toList,ha,by simpa using hA,by simp;omega,by rw[List.length_modify];exact hn,.inr ⟨b,_,ha,rfl, ?_,hnc, ?_⟩⟩
  ·rw[th _ _ _ (by simp;omega)];simpa using hcs
  ·rw[th _ _ _ (by simp;omega),xN ho v l k (by omega),←htk]
   rw[List.take_set]
structure Row where
 a:Option Addr
 n:Nat
 c:Nat
def Row.enc(r:Row):List Value:=[.slice r.a r.n r.c]
def dX(z e:Nat):List Row→List (List (Ck z))→cR→Prop
 | [],[],H=>H=[]
 | r::rs,l::ls,H=>∃A H',H=A++H'∧Acc z cv e r.a r.n r.c l A∧dX z e rs ls H'
 | _,_,_=>False
theorem dX.len{z e:Nat}:∀{rs:List Row} {ls:List (List (Ck z))} {H:cR},dX z e rs ls H→rs.length=ls.length
 | [],[],_,_=>rfl
 | r::rs,l::ls,H,⟨_,_,_,_,h⟩=>by simp[h.len]
 | [],_::_,_,h=>h.elim
 | _::_,[],_,h=>h.elim
theorem dX.focus{z e:Nat}:∀{rs:List Row} {ls:List (List (Ck z))} {H:cR} {i:Nat} {r:Row},dX z e rs ls H→rs[i]? = some r →
  ∃l A R,ls[i]? = some l∧Acc z cv e r.a r.n r.c l A∧H.Perm (A++R)∧∀l' A',Acc z cv e r.a r.n r.c l' A'→∃H',dX z e rs (ls.set i l') H'∧H'.Perm (A'++R)
 | [],_,_,i,r,h,hi=>by simp at hi
 | r0::rs,l0::ls,H,0,r,⟨A,H',hH,hA,hR⟩,hi=>by
   obtain rfl:r0=r:=by simpa using hi
   subst hH
   exact⟨l0,A,H',rfl,hA,.refl _,fun l' A' h=>⟨A'++H',⟨A',H',rfl,h,hR⟩,.refl _⟩⟩
 | r0::rs,l0::ls,H,i+1,r,⟨A,H',hH,hA,hR⟩,hi=>by
   obtain⟨l,B,R,h1,h2,h3,h4⟩:=hR.focus (i:=i) (by simpa using hi)
   subst hH
   refine⟨l,B,A++R,by simpa using h1,h2, ?_,fun l' A' h=>?_⟩
   ·refine (List.Perm.append_left A h3).trans ?_
    rw[←List.append_assoc,←List.append_assoc]
    exact List.Perm.append_right R List.perm_append_comm
   ·obtain⟨H'',g1,g2⟩:=h4 l' A' h
    refine⟨A++H'',⟨A,H'',rfl,hA,g1⟩, ?_⟩
    refine (List.Perm.append_left A g2).trans ?_
    rw[←List.append_assoc,←List.append_assoc]
    exact List.Perm.append_right R List.perm_append_comm
 | _::_,[],_,_,_,h,_=>h.elim
theorem dX.drop{z e:Nat}:∀{rs:List Row} {ls:List (List (Ck z))} {H:cR} {i:Nat} {r:Row},dX z e (rs.drop i) (ls.drop i) H→rs[i]? = some r →
  ∃l A H',ls[i]? = some l∧H=A++H'∧Acc z cv e r.a r.n r.c l A∧dX z e (rs.drop (i+1)) (ls.drop (i+1)) H':=by
 intro rs ls H i r h hi
 obtain⟨hlt,rfl⟩:=List.getElem?_eq_some_iff.1 hi
 rw[List.drop_eq_getElem_cons hlt] at h
 cases hd:ls.drop i with
 | nil=>rw[hd] at h;exact h.elim
 | cons l ls' =>
   rw[hd] at h
   obtain⟨A,H',h1,h2,h3⟩:=h
   have hlen:i<ls.length:=by
    rcases Nat.lt_or_ge i ls.length with h | h
    ·exact h
    ·rw[List.drop_eq_nil_of_le h] at hd;cases hd
   rw[List.drop_eq_getElem_cons hlen] at hd
   obtain⟨e1,e2⟩:=List.cons.inj hd
   refine⟨l,A,H',by rw[←e1];simp[hlen],h1,h2,by rw[e2];exact h3⟩
theorem dk.pre{P:Program}{s:Sem Value}{I:cS}{F:cR}{Q:Value→cS→cR→Prop}(h:∀w,Sat I F w→∃J G,cS.le I J∧Sat J G w∧dk P s J G Q):dk P s I F Q:=fun w hw =>
 let ⟨J,G,hl,hs,ht⟩:=h w hw
 let ⟨v,w',I',F',h1,h2,h3,h4⟩:=ht w hs
 ⟨v,w',I',F',h1,cS.le_trans hl h2,h3,h4⟩
theorem Sl.prefix{α:Type}{I:cS}{z:Nat}{f:α→List Value}{a:Option Addr}{n:Nat}{l t:List α}(h:Sl I z f a n (l++t)):Sl I z f a l.length l:=by
 refine⟨rfl,fun hne=>?_⟩
 obtain⟨ad,ha,hr⟩:=h.2 (by intro e;exact hne (List.append_eq_nil_iff.1 e).1)
 refine⟨ad,ha,fun i x hx=>hr i x ?_⟩
 rw[List.getElem?_append_left]
 ·exact hx
 ·exact (List.getElem?_eq_some_iff.1 hx).1
def Cq{z:Nat}(o:Nat)(mk:Int→Int→Value)(i m:Int)(l:List (Ck z)):Prop:=∀(q:Nat) (x:Ck z),l[q]? = some x→(q:Int)<m→x.val[o]? = some (mk i q)
def iM{z:Nat}(o:Nat)(mk:Int→Int→Value)(i:Int)(l:List (Ck z)):Prop:=∀(q:Nat) (x:Ck z),l[q]? = some x→x.val[o]? = some (mk i q)
theorem Cq.step{z o:Nat}(ho:o<z){mk:Int→Int→Value}{i k:Int}{l:List (Ck z)}(h:Cq o mk i k l)(h0:0≤k):Cq o mk i (k+1) (l.modify k.toNat (Bj o (mk i k))):=by
 intro q x hx hq
 rw[List.getElem?_modify] at hx
 by_cases hqk:k.toNat=q
 ·cases hl:l[q]? with
  | none=>rw[hl] at hx;cases hx
  | some y =>
    rw[hl] at hx
    obtain rfl:Bj o (mk i k) y=x:=by simpa[hqk] using hx
    have:k=(q:Int):=by omega
    rw[←this]
    show (y.val.set o (mk i k))[o]? = _
    rw[List.getElem?_set_self (by rw[y.property];exact ho)]
 ·exact h q x (by simpa[hqk] using hx) (by omega)
theorem iM.snoc{z o:Nat}{mk:Int→Int→Value}{i:Int}{l:List (Ck z)}(h:iM o mk i l){y:Ck z}(hy:y.val[o]? = some (mk i l.length)):iM o mk i (l++[y]):=by
 intro q x hx
 rw[List.getElem?_append] at hx
 split at hx
 ·exact h q x hx
 ·rename_i hq
  have hq1:q-l.length=0:=by
   rcases Nat.eq_zero_or_pos (q-l.length) with h | h
   ·exact h
   ·rw[List.getElem?_eq_none (by simp;omega)] at hx;cases hx
  rw[hq1] at hx
  obtain rfl:y=x:=by simpa using hx
  have:q=l.length:=by omega
  subst this;exact hy
def qM{z:Nat}(o m:Nat)(mk bh:Int→Int→Value)(I:cS)(i:Int)(r x:Row):Prop :=
 ∃(l t:List (Ck z)),Sl I z cv r.a r.n l∧iM o mk i l∧Sl I z cv x.a x.n (l++t)∧t.length=m∧iM o bh i t
theorem qM.mono{z o m:Nat}{mk bh:Int→Int→Value}{I J:cS}{i:Int}{r x:Row}(h:qM (z:=z) o m mk bh I i r x)(hl:cS.le I J):qM (z:=z) o m mk bh J i r x :=
 let ⟨l,t,h1,h2,h3,h4,h5⟩:=h;⟨l,t,h1.mono hl,h2,h3.mono hl,h4,h5⟩
def rV(F:cR)(e:Ending)(I:cS)(G:cR):Prop:=e=.returned (.bool true)∧∃A,G.Perm (A++F)
theorem rV.keep{P:Program}{f:FuncId}{args:Array Value}{I:cS}{F0 F:cR}(h:cU P f args I F0 (rV F)):cU P f args I F0 fun e I' G=>e=.returned (.bool true)∧G=F :=
 h.keep fun e I' G w hl hs ⟨he,A,hp⟩=>⟨I',F,cS.le_refl _,(hs.perm hp).drop,he,rfl⟩
section
open Classical
noncomputable def cn(a:Nat×Obj)(l:cR):Nat:=l.countP fun x=>decide (x=a)
noncomputable def on(a x:Nat×Obj):Nat:=if x=a then 1 else 0
theorem cX(a:Nat×Obj)(l m:cR):cn a (l++m)=cn a l+cn a m:=List.countP_append
theorem cW(a x:Nat×Obj)(l:cR):cn a (x::l)=on a x+cn a l:=by
 unfold cn on;rw[List.countP_cons];simp only[decide_eq_true_eq];omega
theorem c7(a:Nat×Obj):cn a []=0:=rfl
theorem gg{l m:cR}(h:l.Perm m)(a:Nat×Obj):cn a l=cn a m:=h.countP_eq _
noncomputable def Dz:DecidableEq (Nat×Obj):=fun x y=>propDecidable (x=y)
theorem cV{l m:cR}(h:∀a,cn a l=cn a m):l.Perm m:=by
 refine (@List.perm_iff_count (Nat×Obj) (@instBEqOfDecidableEq _ Dz) (@instLawfulBEq _ Dz) l m).2 fun a=>?_
 have h1:∀l:cR,@List.count _ (@instBEqOfDecidableEq _ Dz) a l=cn a l:=fun l=>by
  unfold List.count cn
  congr 1
  funext x
  show @decide (x=a) (Dz x a)=decide (x=a)
  congr
 rw[h1,h1];exact h a
end
theorem Rd.Cr{I:cS}{b t:Nat}{fz:Nat×Nat}{cells:Array Value}(h:I b=some (.cells cells t fz))(G:cR)(o:Nat){cs:List Value}(hc:∀j,j<cs.length→cells[o+j]? = cs[j]?):Rd I G (⟨b,o,none⟩:Addr) cs:=⟨rfl,cells,t,fz,.inl h,hc⟩
theorem Rd.Cs{I:cS}{b t:Nat}{fz:Nat×Nat}{cells:Array Value}{G:cR}(h:(b,Obj.cells cells t fz)∈G)(o:Nat){cs:List Value}(hc:∀j,j<cs.length→cells[o+j]? = cs[j]?):Rd I G (⟨b,o,none⟩:Addr) cs:=⟨rfl,cells,t,fz,.inr h,hc⟩
end Go.Vc
namespace Go.Lx
open Go.Vc
def ig(c:Int):Bool:=decide (97≤c)&&decide (c≤122)
def dr(c:Int):Bool:=decide (48≤c)&&decide (c≤57)
def dM(c:Int):Bool:=ig c||dr c||(c==95)
def qN(c:Int):Bool:=c != 10
def Bl(p:Int→Bool)(s:ByteArray):Nat→Int→Int
 | 0,i=>i
 | n+1,i=>if p (bt s i) then Bl p s n (i+1) else i
def dG(p:Int→Bool)(s:ByteArray)(i:Int):Int:=Bl p s (s.size-i).toNat i
theorem kK{p:Int→Bool}{s:ByteArray}{i:Int}(h:(s.size:Int)≤i):dG p s i=i:=by
 unfold dG;rw[show ((s.size:Int)-i).toNat=0 by omega];rfl
theorem dJ{p:Int→Bool}{s:ByteArray}{i:Int}(h:i<(s.size:Int)):dG p s i=if p (bt s i) then dG p s (i+1) else i:=by
 unfold dG
 obtain⟨n,hn⟩:∃n,((s.size:Int)-i).toNat=n+1:=⟨((s.size:Int)-i).toNat-1,by omega⟩
 rw[hn,show ((s.size:Int)-(i+1)).toNat=n by omega];rfl
theorem An(p:Int→Bool)(s:ByteArray):∀(n:Nat) (i:Int),i≤Bl p s n i∧Bl p s n i≤i+n
 | 0,i=>by simp[Bl]
 | n+1,i=>by
   have:=An p s n (i+1)
   unfold Bl;split<;>omega
theorem fw{p:Int→Bool}{s:ByteArray}{i:Int}(h:i≤(s.size:Int)):i≤dG p s i∧dG p s i≤s.size:=by
 have:=An p s (s.size-i).toNat i
 unfold dG;omega
theorem lx{p:Int→Bool}{s:ByteArray}{i:Int}(h:i≤(s.size:Int))(hl:dG p s i<s.size):p (bt s (dG p s i))=false:=by
 obtain⟨n,hn⟩:∃n:Nat,n=(s.size-i).toNat:=⟨_,rfl⟩
 induction n generalizing i with
 | zero=>rw[kK (by omega)] at hl;omega
 | succ n ih =>
   rw[dJ (by omega)] at hl ⊢
   split at hl
   ·rename_i hp;rw[if_pos hp];exact ih (by omega) hl (by omega)
   ·rename_i hp;rw[if_neg hp];simpa using hp
def blank(c:Int):Bool:=c==32||c==9||c==10||c==13
def oM(c:Int)(r:Bool):Bool:=if c=35 then true else if c=10 then false else r
def vm(s:ByteArray):Nat→Bool→Int→Int
 | 0,_,i=>i
 | n+1,r,i=>if !(oM (bt s i) r) && !blank (bt s i) then i else vm s n (oM (bt s i) r) (i+1)
def j8(s:ByteArray)(r:Bool)(i:Int):Int:=vm s (s.size-i).toNat r i
def dx(s:ByteArray)(i:Int):Int:=j8 s false i
theorem jR{s:ByteArray}{r:Bool}{i:Int}(h:(s.size:Int)≤i):j8 s r i=i:=by
 unfold j8;rw[show ((s.size:Int)-i).toNat=0 by omega];rfl
theorem eW{s:ByteArray}{r:Bool}{i:Int}(h:i<(s.size:Int)):j8 s r i =
  if !(oM (bt s i) r) && !blank (bt s i) then i else j8 s (oM (bt s i) r) (i+1):=by
 unfold j8
 obtain⟨n,hn⟩:∃n,((s.size:Int)-i).toNat=n+1:=⟨((s.size:Int)-i).toNat-1,by omega⟩
 rw[hn,show ((s.size:Int)-(i+1)).toNat=n by omega];rfl
theorem xO(s:ByteArray):∀(n:Nat) (r:Bool) (i:Int),i≤vm s n r i∧vm s n r i≤i+n
 | 0,r,i=>by simp[vm]
 | n+1,r,i=>by
   unfold vm
   have:=xO s n (oM (bt s i) r) (i+1)
   split<;>omega
theorem jo{s:ByteArray}{i:Int}(h:i≤(s.size:Int)):i≤dx s i∧dx s i≤s.size:=by
 have:=xO s (s.size-i).toNat false i
 unfold dx j8;omega
theorem v9{s:ByteArray}{i:Int}(h:i<(s.size:Int))(hb:blank (bt s i)=true):dx s i=dx s (i+1):=by
 have h35:bt s i≠35:=by intro e;rw[e] at hb;simp[blank] at hb
 unfold dx;rw[eW h];simp[oM,h35,hb]
theorem wc{s:ByteArray}{i:Int}(h:i<(s.size:Int))(hb:blank (bt s i)=false)(h35:bt s i≠35):dx s i=i:=by
 have h10:bt s i≠10:=by intro e;rw[e] at hb;simp[blank] at hb
 unfold dx;rw[eW h];simp[oM,h35,h10,hb]
theorem we{s:ByteArray}{i:Int}(h:i≤(s.size:Int)):j8 s true i=dx s (dG qN s i):=by
 obtain⟨n,hn⟩:∃n:Nat,n=(s.size-i).toNat:=⟨_,rfl⟩
 induction n generalizing i with
 | zero=>rw[kK (by omega),jR (by omega)];unfold dx;rw[jR (by omega)]
 | succ n ih =>
   rw[dJ (by omega)]
   by_cases h10:bt s i=10
   ·have hp:qN (bt s i)=false:=by simp[qN,h10]
    rw[hp]
    simp only[Bool.false_eq_true,if_false]
    unfold dx
    rw[eW (r:=true) (by omega),eW (r:=false) (by omega)]
    simp[oM,h10]
   ·have hp:qN (bt s i)=true:=by simp[qN,h10]
    rw[hp]
    simp only[if_true]
    rw[←ih (by omega) (by omega),eW (r:=true) (by omega)]
    have:oM (bt s i) true=true:=by unfold oM;split<;>simp_all
    simp[this]
theorem uK{s:ByteArray}{i:Int}(h:i<(s.size:Int))(hb:bt s i=35):dx s i=dx s (dG qN s i):=by
 rw[dJ h,show qN (bt s i)=true by simp[qN,hb],if_pos rfl,←we (by omega)]
 unfold dx;rw[eW h];simp[oM,hb]
structure Tok where
 kind:Int
 text:ByteArray
 dU:Int
 n:Int
 pos:Int
inductive TR where
 | ok (t:Tok)
 | bad (e p:Int)
def kr(p:Int):Tok:=⟨0,⟨#[]⟩,0,0,p⟩
def cut(s:ByteArray)(i j:Int):ByteArray:=s.extract i.toNat j.toNat
def ej:List ByteArray:=[⟨#[97,98,115]⟩,⟨#[97,109,101,110,100]⟩,⟨#[97,115]⟩,⟨#[97,115,107]⟩,⟨#[97,116]⟩,⟨#[98,105,100]⟩,⟨#[98,111,111,108]⟩,⟨#[98,117,121]⟩,⟨#[99,97,110,99,101,108]⟩,⟨#[100,111]⟩,
 ⟨#[102,97,108,115,101]⟩,⟨#[102,111,107]⟩,⟨#[103,111,116,111]⟩,⟨#[104,97,108,116]⟩,⟨#[104,97,115]⟩,⟨#[105,110,116]⟩,⟨#[105,111,99]⟩,⟨#[108,97,115,116]⟩,⟨#[108,105,109,105,116]⟩,⟨#[109,97,114,107,101,116]⟩,
 ⟨#[109,97,120]⟩,⟨#[109,105,110]⟩,⟨#[110,111,119]⟩,⟨#[111,102]⟩,⟨#[111,112,101,110]⟩,⟨#[112,111,115,116]⟩,⟨#[112,114,105,99,101]⟩,⟨#[113,116,121]⟩,⟨#[114,101,103]⟩,⟨#[115,101,108,108]⟩,⟨#[115,101,116]⟩,
 ⟨#[115,105,100,101]⟩,⟨#[115,108,111,116]⟩,⟨#[115,116,97,116,101]⟩,⟨#[115,116,114,97,116,101,103,121]⟩,⟨#[115,117,98,109,105,116]⟩,⟨#[116,105,109,101]⟩,⟨#[116,111]⟩,⟨#[116,114,117,101]⟩,⟨#[118,111,108,117,109,101]⟩,⟨#[119,104,101,110]⟩]
def oZ(t:ByteArray):Bool:=ej.any fun w=>w.toList==t.toList
def Ga(t:ByteArray):Bool :=
 !(t.toList==[])&&decide ((t.size:Int)≤16)&&ig (bt t 0) && !oZ t&&decide (dG dM t 0=t.size)
def ly(s:ByteArray)(i:Int):TR :=
 let e:=dG dM s i
 if e-i>16 then .bad 112 i else .ok ⟨if oZ (cut s i e) then 1 else 2,cut s i e,0,0,i⟩
def Ct(s:ByteArray):Nat→Int→Int→Int
 | 0,_,v=>v
 | n+1,i,v=>if dr (bt s i) then Ct s n (i+1) (10*v+(bt s i-48)) else v
def eC(s:ByteArray)(i v:Int):Int:=Ct s (s.size-i).toNat i v
theorem ou{s:ByteArray}{i v:Int}(h:(s.size:Int)≤i):eC s i v=v:=by
 unfold eC;rw[show ((s.size:Int)-i).toNat=0 by omega];rfl
theorem ij{s:ByteArray}{i v:Int}(h:i<(s.size:Int)):eC s i v=if dr (bt s i) then eC s (i+1) (10*v+(bt s i-48)) else v:=by
 unfold eC
 obtain⟨n,hn⟩:∃n,((s.size:Int)-i).toNat=n+1:=⟨((s.size:Int)-i).toNat-1,by omega⟩
 rw[hn,show ((s.size:Int)-(i+1)).toNat=n by omega];rfl
theorem Ao(s:ByteArray):∀(n:Nat) (i v:Int),0≤v→v≤Ct s n i v
 | 0,i,v,_=>by simp[Ct]
 | n+1,i,v,hv=>by
   unfold Ct
   split
   ·rename_i hd
    simp only[dr,Bool.and_eq_true,decide_eq_true_eq] at hd
    have:=Ao s n (i+1) (10*v+(bt s i-48)) (by omega)
    omega
   ·exact Int.le_refl _
theorem tj{s:ByteArray}{i v:Int}(h:0≤v):v≤eC s i v:=Ao s _ i v h
def eD(c:Int):Int:=if c=116 then 4 else if c=112 then 3 else if c=113 then 2 else 1
def c9(s:ByteArray)(i:Int):Int:=if i<s.size then bt s i else 0
def kg(s:ByteArray)(i:Int):TR :=
 let e:=dG dr s i
 let t:=eD (c9 s e)
 let e2:=if t=1 then e else e+1
 if eC s i 0>9223372036854775807∨(e-i>1∧bt s i=48)∨(e2<s.size∧(dM (bt s e2)=true∨(65≤bt s e2∧bt s e2≤90))) then .bad 113 i
 else .ok ⟨3,cut s i e2,t,eC s i 0,i⟩
def single(c:Int):Bool:=[123,125,40,41,44,59,63,58,43,45,42,47,37].contains c
def fS(s:ByteArray)(i:Int):Int :=
 let c:=bt s i
 let d:=c9 s (i+1)
 if single c then 1 else if c=38∨c=124 then (if d=c then 2 else 0) else if c=61∨c=33∨c=60∨c=62 then (if d=61 then 2 else 1) else 0
def lz(s:ByteArray)(i:Int):TR:=if fS s i=0 then .bad 111 i else .ok ⟨4,cut s i (i+fS s i),0,0,i⟩
def iG(s:ByteArray)(f:Int):TR :=
 let i:=dx s f
 if i=s.size then .ok (kr i)
 else if dr (bt s i) then kg s i else if ig (bt s i) then ly s i else lz s i
def Tok.v(t:Tok):Value:=.agg #[.int .u8 t.kind,.string t.text,.int .u8 t.dU,.int .i64 t.n,.int .i64 t.pos]
theorem ew{n:Int}(h : -9223372036854775808≤n∧n≤9223372036854775807):IntKind.wrap .i64 n=n:=by
 simp only[IntKind.wrap,IntKind.bits,IntKind.signed];simp;split<;>omega
theorem w8{n:Int}(h:0≤n∧n≤255):IntKind.wrap .u8 n=n:=by
 simp only[IntKind.wrap,IntKind.bits,IntKind.signed];simp;omega
inductive Px where
 | mk (kind oper dU n field:Int) (name:ByteArray) (kids:List Px) (pos:Int)
namespace Px
def kind:Px→Int | .mk k _ _ _ _ _ _ _=>k
def oper:Px→Int | .mk _ o _ _ _ _ _ _=>o
def dU:Px→Int | .mk _ _ t _ _ _ _ _=>t
def n:Px→Int | .mk _ _ _ n _ _ _ _=>n
def field:Px→Int | .mk _ _ _ _ f _ _ _=>f
def name:Px→ByteArray | .mk _ _ _ _ _ s _ _=>s
def kids:Px→List Px | .mk _ _ _ _ _ _ l _=>l
def pos:Px→Int | .mk _ _ _ _ _ _ _ p=>p
theorem ind{p:Px→Prop}(h:∀x:Px,(∀k∈x.kids,p k)→p x):∀x:Px,p x
 | .mk k o t n f s l q=>h _ fun y hy=>ind h y
termination_by x=>SizeOf.sizeOf x
decreasing_by
 have:=List.sizeOf_lt_of_mem (show y∈l from hy)
 simp;omega
end Px
inductive Nd where
 | mk (kind oper dU n field:Int) (name:ByteArray) (a:Option Addr) (c:Nat) (kids:List Nd) (pos:Int)
namespace Nd
def kind:Nd→Int | .mk k _ _ _ _ _ _ _ _ _=>k
def oper:Nd→Int | .mk _ o _ _ _ _ _ _ _ _=>o
def dU:Nd→Int | .mk _ _ t _ _ _ _ _ _ _=>t
def n:Nd→Int | .mk _ _ _ n _ _ _ _ _ _=>n
def field:Nd→Int | .mk _ _ _ _ f _ _ _ _ _=>f
def name:Nd→ByteArray | .mk _ _ _ _ _ s _ _ _ _=>s
def a:Nd→Option Addr | .mk _ _ _ _ _ _ a _ _ _=>a
def c:Nd→Nat | .mk _ _ _ _ _ _ _ c _ _=>c
def kids:Nd→List Nd | .mk _ _ _ _ _ _ _ _ l _=>l
def pos:Nd→Int | .mk _ _ _ _ _ _ _ _ _ p=>p
theorem ind{p:Nd→Prop}(h:∀x:Nd,(∀k∈x.kids,p k)→p x):∀x:Nd,p x
 | .mk k o t n f s a c l q=>h _ fun y hy=>ind h y
termination_by x=>SizeOf.sizeOf x
decreasing_by
 have:=List.sizeOf_lt_of_mem (show y∈l from hy)
 simp;omega
mutual
def px:Nd→Px
 | .mk k o t n f s _ _ l q=>.mk k o t n f s (qO l) q
def qO:List Nd→List Px
 | []=>[]
 | k::r=>px k::qO r
end
theorem rW:∀l:List Nd,qO l=l.map px
 | []=>rfl
 | k::r=>by rw[qO,rW r];rfl
theorem jZ(t:Nd):t.px.kids=t.kids.map px:=by cases t;rw[px,←rW];rfl
theorem Ap(t:Nd):t.px.kind=t.kind:=by cases t;rw[px];rfl
theorem wg(t:Nd):t.px.oper=t.oper:=by cases t;rw[px];rfl
theorem Cu(t:Nd):t.px.dU=t.dU:=by cases t;rw[px];rfl
theorem Gb(t:Nd):t.px.n=t.n:=by cases t;rw[px];rfl
theorem xP(t:Nd):t.px.field=t.field:=by cases t;rw[px];rfl
theorem Aq(t:Nd):t.px.name=t.name:=by cases t;rw[px];rfl
theorem wh(t:Nd):t.px.pos=t.pos:=by cases t;rw[px];rfl
theorem EX(t:Nd):t.px.kids.length=t.kids.length:=by rw[jZ,List.length_map]
abbrev enc(t:Nd):List Value:=[.int .u8 t.kind,.int .u8 t.oper,.int .u8 t.dU,.int .i64 t.n,.int .u8 t.field,.string t.name,.slice t.a t.kids.length t.c,.int .i64 t.pos]
abbrev v(t:Nd):Value:=.agg #[.int .u8 t.kind,.int .u8 t.oper,.int .u8 t.dU,.int .i64 t.n,.int .u8 t.field,.string t.name,.slice t.a t.kids.length t.c,.int .i64 t.pos]
theorem qa(t:Nd):t.enc.length=8:=rfl
theorem Ar(t:Nd):∀u∈t.enc,u.oneCell'=true:=by
 intro u hu
 simp only[enc,List.mem_cons,List.not_mem_nil,or_false] at hu
 rcases hu with h | h | h | h | h | h | h | h<;>(subst h;rfl)
end Nd
inductive dO (I:cS) (G:cR):Nd→Prop
 | mk {t:Nd}:kq I G 8 Nd.enc t.a t.kids.length t.kids→(∀k∈t.kids,dO I G k)→dO I G t
theorem dO.sl{I:cS}{G:cR}{t:Nd}(h:dO I G t):kq I G 8 Nd.enc t.a t.kids.length t.kids:=by cases h;assumption
theorem dO.DA{I:cS}{G:cR}{t:Nd}(h:dO I G t):∀k∈t.kids,dO I G k:=by cases h;assumption
theorem dO.mono{I J:cS}{G H:cR}{t:Nd}(h:dO I G t)(hl:cS.le I J)(hs:∀x,x∈G→x∈H):dO J H t:=by
 induction h with
 | mk h1 h2 ih=>exact .mk (h1.mono hl hs) ih
def Cv(I:cS)(G:cR)(a:Option Addr)(n:Nat)(l:List Nd):Prop:=kq I G 8 Nd.enc a n l∧∀k∈l,dO I G k
theorem dO.kids{I:cS}{G:cR}{t:Nd}(h:dO I G t):Cv I G t.a t.kids.length t.kids:=⟨h.sl,h.DA⟩
theorem Cv.at{I:cS}{G:cR}{a:Option Addr}{n:Nat}{l:List Nd}(h:Cv I G a n l){i:Int}(h0:0≤i)(h1:i<n) :
  ∃ad x,a=some ad∧l[i.toNat]? = some x∧Rd I G (ad.add (Int.toNat i*8)) x.enc∧dO I G x∧x∈l:=by
 obtain⟨ad,x,h2,h3,h4⟩:=h.1.at h0 h1
 exact⟨ad,x,h2,h3,h4,h.2 x (List.mem_of_getElem? h3),List.mem_of_getElem? h3⟩
namespace Px
def arity(x:Px):Nat:=if x.kind=5∨x.kind=9 then 1 else if x.kind=6 then 2 else if x.kind=7 then 3 else if x.kind=8 then (if x.oper=3 then 1 else 2) else 0
def Hi(x:Px):Bool:=if x.dU=6 then decide (x.n=1∨x.n=2) else if x.dU=5 then decide (x.n=0∨x.n=1) else if 1≤x.dU∧x.dU≤4 then decide (0≤x.n) else false
def Hj(x:Px):Bool :=
 if x.kind=1 then Hi x else if x.kind=2 then Ga x.name else if x.kind=3 then decide (1≤x.field∧x.field≤6) else if x.kind=4 then decide (1≤x.field∧x.field≤3)
 else if x.kind=5 then decide (x.oper=1∨x.oper=2) else if x.kind=6 then decide (6≤x.oper∧x.oper≤18) else if x.kind=7 then true
 else if x.kind=8 then decide (3≤x.oper∧x.oper≤5) else if x.kind=9 then decide (1≤x.dU∧x.dU≤4) else false
def Gc(x:Px):Bool :=
 (x.oper==0||x.kind==5||x.kind==6||x.kind==8)&&(x.dU==0||x.kind==1||x.kind==9)&&(x.n==0||x.kind==1)&&(x.field==0||x.kind==3||x.kind==4)&&(x.name.toList==[]||x.kind==2)
def rK(x:Px):Bool:=Hj x&&Gc x&&decide (x.kids.length=arity x)
mutual
def formed:Px→Bool
 | .mk k o t n f s l q=>rK (.mk k o t n f s l q)&&Au l
def Au:List Px→Bool
 | []=>true
 | x::r=>formed x&&Au r
end
mutual
def size:Px→Int
 | .mk _ _ _ _ _ _ l _=>1+eh l
def eh:List Px→Int
 | []=>0
 | x::r=>size x+eh r
end
theorem size_eq(x:Px):x.size=1+eh x.kids:=by cases x;rw[size];rfl
mutual
def bare:Px→Px
 | .mk k o t n f s l _=>.mk k o t n f s (Av l) 0
def Av:List Px→List Px
 | []=>[]
 | x::r=>bare x::Av r
end
theorem Bm:∀l:List Px,Av l=l.map bare
 | []=>rfl
 | x::r=>by rw[Av,Bm r];rfl
def qb(x y:Px):Bool:=x.kind==y.kind&&(x.oper==y.oper&&(x.dU==y.dU&&(x.n==y.n&&(x.field==y.field&&(x.name.toList==y.name.toList&&true)))))
theorem size_pos:∀x:Px,1≤x.size:=by
 have hL:∀l:List Px,(∀x∈l,1≤size x)→0≤eh l:=by
  intro l
  induction l with
  | nil=>intro _;exact Int.le_refl _
  | cons x r ih =>
    intro h
    have:=h x (List.mem_cons_self ..)
    have:=ih fun y hy=>h y (List.mem_cons_of_mem _ hy)
    rw[eh];omega
 refine ind fun x h=>?_
 rw[size_eq]
 have:=hL x.kids h
 omega
theorem ku:∀l:List Px,0≤eh l
 | []=>Int.le_refl _
 | x::r=>by have:=size_pos x;have:=ku r;rw[eh];omega
theorem vn{x:Px}:∀{l:List Px},x∈l→x.size≤eh l
 | [],h=>by cases h
 | y::r,h=>by
   rw[eh]
   have:=size_pos y
   have:=ku r
   rcases List.mem_cons.1 h with rfl | h
   ·omega
   ·have:=vn h;omega
theorem qP:∀l:List Px,(l.length:Int)≤eh l
 | []=>Int.le_refl _
 | x::r=>by have:=size_pos x;have:=qP r;rw[eh,List.length_cons];omega
inductive iH:Px→Prop
 | mk {x:Px}:x.name.size≤140737488351232→x.kids.length≤140737488351232→(∀k∈x.kids,iH k)→iH x
theorem iH.name{x:Px}(h:iH x):x.name.size≤140737488351232:=by cases h;assumption
theorem iH.len{x:Px}(h:iH x):x.kids.length≤140737488351232:=by cases h;assumption
theorem iH.DA{x:Px}(h:iH x):∀k∈x.kids,iH k:=by cases h;assumption
end Px
end Go.Lx
namespace Go.Lx
open Go.Vc Go.Proofs.Tryz
noncomputable abbrev P:Program:=Go.Proofs.Tryz.prog
def jA:List (Nat×List Sh):=[(4,[.one .bool]),(9,[.one .str]),(38,[.one .slc]),(236,[.one (.int .i64),.one .bool])]
def qQ.V(c:Int)(I:cS)(F:cR)(Q:cT)  : Prop:=((decide (48≤c)=true→Q (.returned (.bool (decide (c≤57)))) I F)∧(decide (48≤c)=false→Q (.returned (.bool false)) I F))
theorem qQ.vc{c:Int}{I:cS}{F:cR}{Q:cT}  (h:qQ.V c I F Q):cU P 135 #[.int .u8 c] I F Q :=
 tw (A:=(an [1001] [] jA)) [] func135 h
def qR.V(c:Int)(I:cS)(F:cR)(Q:cT)  : Prop:=((decide (97≤c)=true→Q (.returned (.bool (decide (c≤122)))) I F)∧(decide (97≤c)=false→Q (.returned (.bool false)) I F))
theorem qR.vc{c:Int}{I:cS}{F:cR}{Q:cT}  (h:qR.V c I F Q):cU P 137 #[.int .u8 c] I F Q :=
 tw (A:=(an [1001] [] jA)) [] func137 h
def ov.V(vt:Bool→Value)(c:Int)(I:cS)(F:cR)(Q:cT)  : Prop:=cU P 137 #[.int .u8 c] I F fun e1 I1 G1=>∃(r:Bool),e1=.returned (vt r)∧∃F1:cR,List.Perm G1 F1∧((r=true→Q (.returned (vt true)) I1 F1)∧(r=false→cU P 135 #[.int .u8 c] I1 F1 fun e2 I2 G2=>∃(r1:Bool),e2=.returned (vt r1)∧∃F2:cR,List.Perm G2 F2∧((r1=true→Q (.returned (vt true)) I2 F2)∧(r1=false→Q (.returned (vt (c==95))) I2 F2))))
theorem ov.vc{c:Int}{I:cS}{F:cR}{Q:cT}  (h:ov.V .bool c I F Q):cU P 139 #[.int .u8 c] I F Q :=
 tw (A:=(an [1001,1004] [135,137] jA)) [135,137] func139 h
def qS.V(vs:Bs→Value)(I:cS)(F:cR)(Q:cT)  : Prop:=∀(b:Nat) (I1:cS),cS.le I I1→I1 b=some (Obj.cells #[vs (⟨#[97,98,115]⟩:Bs),vs (⟨#[97,109,101,110,100]⟩:Bs),vs (⟨#[97,115]⟩:Bs),vs (⟨#[97,115,107]⟩:Bs),vs (⟨#[97,116]⟩:Bs),vs (⟨#[98,105,100]⟩:Bs),vs (⟨#[98,111,111,108]⟩:Bs),vs (⟨#[98,117,121]⟩:Bs),vs (⟨#[99,97,110,99,101,108]⟩:Bs),vs (⟨#[100,111]⟩:Bs),vs (⟨#[102,97,108,115,101]⟩:Bs),vs (⟨#[102,111,107]⟩:Bs),vs (⟨#[103,111,116,111]⟩:Bs),vs (⟨#[104,97,108,116]⟩:Bs),vs (⟨#[104,97,115]⟩:Bs),vs (⟨#[105,110,116]⟩:Bs),vs (⟨#[105,111,99]⟩:Bs),vs (⟨#[108,97,115,116]⟩:Bs),vs (⟨#[108,105,109,105,116]⟩:Bs),vs (⟨#[109,97,114,107,101,116]⟩:Bs),vs (⟨#[109,97,120]⟩:Bs),vs (⟨#[109,105,110]⟩:Bs),vs (⟨#[110,111,119]⟩:Bs),vs (⟨#[111,102]⟩:Bs),vs (⟨#[111,112,101,110]⟩:Bs),vs (⟨#[112,111,115,116]⟩:Bs),vs (⟨#[112,114,105,99,101]⟩:Bs),vs (⟨#[113,116,121]⟩:Bs),vs (⟨#[114,101,103]⟩:Bs),vs (⟨#[115,101,108,108]⟩:Bs),vs (⟨#[115,101,116]⟩:Bs),vs (⟨#[115,105,100,101]⟩:Bs),vs (⟨#[115,108,111,116]⟩:Bs),vs (⟨#[115,116,97,116,101]⟩:Bs),vs (⟨#[115,116,114,97,116,101,103,121]⟩:Bs),vs (⟨#[115,117,98,109,105,116]⟩:Bs),vs (⟨#[116,105,109,101]⟩:Bs),vs (⟨#[116,111]⟩:Bs),vs (⟨#[116,114,117,101]⟩:Bs),vs (⟨#[118,111,108,117,109,101]⟩:Bs),vs (⟨#[119,104,101,110]⟩:Bs)] 9 (0,0))→Q (.returned (.slice (some ⟨b,0,none⟩) 41 41)) I1 (F)
theorem qS.vc  {I:cS}{F:cR}{Q:cT}  (h:qS.V .string I F Q):cU P 151 #[] I F Q :=
 tw (A:=(dy [] [] [] jA [] [1000] [] [] [] [] [])) [] func151 h
def ow.V(x:Bs)(I:cS)(F:cR)(Q:cT)  : Prop:=Q (.returned (.bool (!(x.toList==x.toList)))) I (F)
theorem ow.vc{x:Bs}{I:cS}{F:cR}{Q:cT}  (h:ow.V x I F Q):cU P 158 #[.string x] I F Q :=
 tw (A:=(an [] [] jA)) [] func158 h
def qc.V(vt:Bool→Value)(x y:Bs)(I:cS)(F:cR)(Q:cT)  : Prop:=dt P 158 #[.string x] I (·) F vt fun r I1 F1=>(It r (dt P 158 #[.string y] I1 (·) F1 vt fun r1 I2 F2=>(It (!r1) (Q (.returned (vt true)) I2 F2) (Q (.returned (vt (Op.bytesLess x.toList y.toList))) I2 F2))) (Q (.returned (vt (Op.bytesLess x.toList y.toList))) I1 F1))
theorem qc.vc{x y:Bs}{I:cS}{F:cR}{Q:cT}  (h:qc.V .bool x y I F Q):cU P 155 #[.string x,.string y] I F Q :=
 tw (A:=(an [1001,1005] [158] jA)) [158] func155 h
def kv.V(x:Bs)(I:cS)(F:cR)(Q:cT)  : Prop:=Q (.returned (.bool (!(x.toList==x.toList)))) I (F)
theorem kv.vc{x:Bs}{I:cS}{F:cR}{Q:cT}  (h:kv.V x I F Q):cU P 156 #[.string x] I F Q :=
 tw (A:=(an [] [] jA)) [] func156 h
def fL.V(vi:Int→Value)(vs:Bs→Value)(vt:Bool→Value)(wr:Int→Int)(c:OA)(b f:Nat)(a:Bs)(I:cS)(F:cR)(Q:cT)(Inv8:Int→Int→Nat→cS→cR→Prop):Prop:=(∃m:Nat,Inv8 0 (b:Int) m I F)∧∀(i j:Int) (m1:Nat) (I1:cS) (F1:cR),cS.le I I1→Inv8 i j m1 I1 F1→(Dt (i<j) ((0≤(wr (Int.fdiv (IntKind.wrap .u64 (wr (i+j))) (2 ^ 1)))∧(wr (Int.fdiv (IntKind.wrap .u64 (wr (i+j))) (2 ^ 1)))<(b:Int))∧∃ad:Addr,c=some ad∧∃(m2:Bs),Rd I1 F1 (ad.add (Int.toNat (wr (Int.fdiv (IntKind.wrap .u64 (wr (i+j))) (2 ^ 1)))*1)) [vs m2]∧dt P 155 #[vs m2,vs a] I1 (·) F1 vt fun r I2 F2=>(It r (∃m3:Nat,m3<m1∧Inv8 (wr ((wr (Int.fdiv (IntKind.wrap .u64 (wr (i+j))) (2 ^ 1)))+1)) j m3 I2 F2) (∃m4:Nat,m4<m1∧Inv8 i (wr (Int.fdiv (IntKind.wrap .u64 (wr (i+j))) (2 ^ 1))) m4 I2 F2))) (Dt (i<(b:Int)) ((0≤i∧i<(b:Int))∧∃d:Addr,c=some d∧∃(m5:Bs),Rd I1 F1 (d.add (Int.toNat i*1)) [vs m5]∧(It (m5.toList==a.toList) (Q (.returned (.tuple #[vi i,vt true])) I1 F1) ((0≤i∧i<(b:Int))∧∃e:Addr,c=some e∧∃(m6:Bs),Rd I1 F1 (e.add (Int.toNat i*1)) [vs m6]∧dt P 156 #[vs m6] I1 (·) F1 vt fun r1 I3 F3=>(It r1 (dt P 156 #[vs a] I3 (·) F3 vt fun r2 I4 F4=>Q (.returned (.tuple #[vi i,vt r2])) I4 F4) (Q (.returned (.tuple #[vi i,vt false])) I3 F3))))) (Q (.returned (.tuple #[vi i,vt false])) I1 F1)))
theorem fL.vc{b:OA}{c d:Nat}{a:Bs}{I:cS}{F:cR}{Q:cT}(Inv8:Int→Int→Nat→cS→cR→Prop)(h:fL.V (.int .i64) .string .bool (IntKind.wrap .i64) b c d a I F Q Inv8):cU P 150 #[.slice b c d,.string a] I F Q :=
 tw (A:=(dy [3002,5005,8003,8010,8016] [] [155,156] jA [(8,⟨[(7,(.int .i64)),(8,(.int .i64))],[],fun _ _ _ vs m I F=>match vs with | [.int _ y0,.int _ y1]=>Inv8 y0 y1 m I F | _=>False,[],[]⟩)] [] [] [] [] [] [])) [155,156] func150 h
def qd.V(s:Bs)(I:cS)(F:cR)(Q:cT)  : Prop:=cU P 151 #[] I F fun e1 I1 G1=>∃(a:OA) (b c:Nat),e1=.returned (.slice a b c)∧∃F1:cR,List.Perm G1 F1∧cU P 150 #[.slice a b c,.string s] I1 F1 fun e2 I2 G2=>∃(r0:Int) (r1:Bool),e2=.returned (.tuple #[.int .i64 r0,.bool r1])∧∃F2:cR,List.Perm G2 F2∧Q (.returned (.bool r1)) I2 (F2)
theorem qd.vc{s:Bs}{I:cS}{F:cR}{Q:cT}  (h:qd.V s I F Q):cU P 140 #[.string s] I F Q :=
 tw (A:=(an [] [150,151] jA)) [150,151] func140 h
def mR.V(c:Int)(I:cS)(F:cR)(Q:cT)  : Prop:=(Dt (c≥97) (Q (.returned (.bool (decide (c≤122)))) I F) (Q (.returned (.bool false)) I F))
theorem mR.vc{c:Int}{I:cS}{F:cR}{Q:cT}  (h:mR.V c I F Q):cU P 54 #[.int .u8 c] I F Q :=
 tw (A:=(an [1001] [] jA)) [] func54 h
def nG.V(c:Int)(I:cS)(F:cR)(Q:cT)  : Prop:=(Dt (c≥48) (Q (.returned (.bool (decide (c≤57)))) I F) (Q (.returned (.bool false)) I F))
theorem nG.vc{c:Int}{I:cS}{F:cR}{Q:cT}  (h:nG.V c I F Q):cU P 56 #[.int .u8 c] I F Q :=
 tw (A:=(an [1001] [] jA)) [] func56 h
def mS.V(vt:Bool→Value)(c:Int)(I:cS)(F:cR)(Q:cT)  : Prop:=dt P 54 #[.int .u8 c] I (·) F vt fun r I1 F1=>(It r (Q (.returned (vt true)) I1 F1) (dt P 56 #[.int .u8 c] I1 (·) F1 vt fun r1 I2 F2=>(It r1 (Q (.returned (vt true)) I2 F2) (Q (.returned (vt (c==95))) I2 F2))))
theorem mS.vc{c:Int}{I:cS}{F:cR}{Q:cT}  (h:mS.V .bool c I F Q):cU P 97 #[.int .u8 c] I F Q :=
 tw (A:=(an [1001,1004] [54,56] jA)) [54,56] func97 h
def nH.V(vs:Bs→Value)(I:cS)(F:cR)(Q:cT)  : Prop:=∀(b:Nat) (I1:cS),cS.le I I1→I1 b=some (Obj.cells #[vs (⟨#[97,98,115]⟩:Bs),vs (⟨#[97,109,101,110,100]⟩:Bs),vs (⟨#[97,115]⟩:Bs),vs (⟨#[97,115,107]⟩:Bs),vs (⟨#[97,116]⟩:Bs),vs (⟨#[98,105,100]⟩:Bs),vs (⟨#[98,111,111,108]⟩:Bs),vs (⟨#[98,117,121]⟩:Bs),vs (⟨#[99,97,110,99,101,108]⟩:Bs),vs (⟨#[100,111]⟩:Bs),vs (⟨#[102,97,108,115,101]⟩:Bs),vs (⟨#[102,111,107]⟩:Bs),vs (⟨#[103,111,116,111]⟩:Bs),vs (⟨#[104,97,108,116]⟩:Bs),vs (⟨#[104,97,115]⟩:Bs),vs (⟨#[105,110,116]⟩:Bs),vs (⟨#[105,111,99]⟩:Bs),vs (⟨#[108,97,115,116]⟩:Bs),vs (⟨#[108,105,109,105,116]⟩:Bs),vs (⟨#[109,97,114,107,101,116]⟩:Bs),vs (⟨#[109,97,120]⟩:Bs),vs (⟨#[109,105,110]⟩:Bs),vs (⟨#[110,111,119]⟩:Bs),vs (⟨#[111,102]⟩:Bs),vs (⟨#[111,112,101,110]⟩:Bs),vs (⟨#[112,111,115,116]⟩:Bs),vs (⟨#[112,114,105,99,101]⟩:Bs),vs (⟨#[113,116,121]⟩:Bs),vs (⟨#[114,101,103]⟩:Bs),vs (⟨#[115,101,108,108]⟩:Bs),vs (⟨#[115,101,116]⟩:Bs),vs (⟨#[115,105,100,101]⟩:Bs),vs (⟨#[115,108,111,116]⟩:Bs),vs (⟨#[115,116,97,116,101]⟩:Bs),vs (⟨#[115,116,114,97,116,101,103,121]⟩:Bs),vs (⟨#[115,117,98,109,105,116]⟩:Bs),vs (⟨#[116,105,109,101]⟩:Bs),vs (⟨#[116,111]⟩:Bs),vs (⟨#[116,114,117,101]⟩:Bs),vs (⟨#[118,111,108,117,109,101]⟩:Bs),vs (⟨#[119,104,101,110]⟩:Bs)] 9 (0,0))→Q (.returned (.slice (some ⟨b,0,none⟩) 41 41)) I1 (F)
theorem nH.vc  {I:cS}{F:cR}{Q:cT}  (h:nH.V .string I F Q):cU P 118 #[] I F Q :=
 tw (A:=(dy [] [] [] jA [] [1000] [] [] [] [] [])) [] func118 h
def mT.V(s:Bs)(I:cS)(F:cR)(Q:cT)(Inv8:Bool→Int→Nat→cS→cR→Prop):Prop:=eg P 118 #[] I (·) F fun e1 I1 G1=>∃(b:OA) (a c:Nat),e1=.returned (.slice b a c)∧G1 fun F1=>(∃m:Nat,Inv8 false 0 m I1 F1)∧∀(x:Bool) (i:Int) (m1:Nat) (I2:cS) (F2:cR),cS.le I1 I2→Inv8 x i m1 I2 F2→(Dt (i<(a:Int)) ((0≤i∧i<(a:Int))∧∃ad:Addr,b=some ad∧∃(m2:Bs),Rd I2 F2 (ad.add (Int.toNat i*1)) [.string m2]∧(It (m2.toList==s.toList) (Q (.returned (.bool true)) I2 F2) (∃m3:Nat,m3<m1∧Inv8 x (IntKind.wrap .i64 (i+1)) m3 I2 F2))) (Q (.returned (.bool false)) I2 F2))
theorem mT.vc{s:Bs}{I:cS}{F:cR}{Q:cT}(Inv8:Bool→Int→Nat→cS→cR→Prop)(h:mT.V s I F Q Inv8):cU P 96 #[.string s] I F Q :=
 tw (A:=(dy [3003,5005] [] [118] jA [(8,⟨[(2,.bool),(4,(.int .i64))],[],fun _ _ _ vs m I F=>match vs with | [.bool y0,.int _ y1]=>Inv8 y0 y1 m I F | _=>False,[],[]⟩)] [] [] [] [] [] [])) [118] func96 h
def EY.V(vt:Bool→Value)(s:Bs)(I:cS)(F:cR)(Q:cT)(Inv16:Bool→Int→Nat→cS→cR→Prop):Prop:=dt P 96 #[.string s] I (·) F vt fun r I1 F1=>(It r (Q (.returned (vt false)) I1 F1) (Dt ((s.size:Int)<1) (Q (.returned (vt false)) I1 F1) (Dt ((s.size:Int)>16) (Q (.returned (vt false)) I1 F1) ((0≤(0:Int)∧(0:Int)<(s.size:Int))∧dt P 54 (#[.int .u8 (bt s 0)]) I1 (·) F1 vt fun r1 I2 F2=>(It (!r1) (Q (.returned (vt false)) I2 F2) ((∃m:Nat,Inv16 false 0 m I2 F2)∧∀(x:Bool) (i:Int) (m1:Nat) (I3:cS) (F3:cR),cS.le I2 I3→Inv16 x i m1 I3 F3→(Dt (i<(s.size:Int)) ((0≤i∧i<(s.size:Int))∧dt P 97 (#[.int .u8 (bt s i)]) I3 (·) F3 vt fun r2 I4 F4=>(It (!r2) (Q (.returned (vt false)) I4 F4) (∃m2:Nat,m2<m1∧Inv16 x (IntKind.wrap .i64 (i+1)) m2 I4 F4))) (Q (.returned (vt true)) I3 F3))))))))
end Go.Lx
namespace Go.Lx
open Go.Vc
def kL(v:Value)(F:cR)(e:Ending)(I:cS)(G:cR):Prop:=e=.returned v∧G=F
theorem cU.ret{Pr:Program}{f:FuncId}{args:Array Value}{I:cS}{F:cR}{v:Value}{Q:Ending→cS→cR→Prop}(h:cU Pr f args I F (kL v F))
  (k:∀I',cS.le I I'→Q (.returned v) I' F):cU Pr f args I F Q :=
 h.mono fun e I' G hl ⟨he,hG⟩=>by subst he;subst hG;exact k I' hl
theorem po(c:Int)(I:cS)(F:cR):cU P 135 #[.int .u8 c] I F (kL (.bool (dr c)) F):=by
 refine qQ.vc ⟨fun h=>⟨?_,rfl⟩,fun h=>⟨?_,rfl⟩⟩<;>simp[dr,h]
theorem tq(c:Int)(I:cS)(F:cR):cU P 137 #[.int .u8 c] I F (kL (.bool (ig c)) F):=by
 refine qR.vc ⟨fun h=>⟨?_,rfl⟩,fun h=>⟨?_,rfl⟩⟩<;>simp[ig,h]
theorem tr(c:Int)(I:cS)(F:cR):cU P 139 #[.int .u8 c] I F (kL (.bool (dM c)) F):=by
 refine ov.vc ?_
 unfold ov.V
 refine cU.ret (tq c I F) fun I1 h1=>⟨_,rfl,F,.refl _,fun hs=>⟨?_,rfl⟩,fun hs=>?_⟩
 ·simp[dM,hs]
 ·refine cU.ret (po c I1 F) fun I2 h2=>⟨_,rfl,F,.refl _,fun hd=>⟨?_,rfl⟩,fun hd=>⟨?_,rfl⟩⟩
  ·simp[dM,hd]
  ·simp[dM,hs,hd]
def dj(s:ByteArray):Prop:=s.size≤140737488351232
def jS(x:ByteArray):List Value:=[.string x]
theorem zj(I:cS)(F:cR):cU P 151 #[] I F fun e I' G=>∃b:Nat,e=.returned (.slice (some ⟨b,0,none⟩) 41 41)∧Sl I' 1 jS (some ⟨b,0,none⟩) 41 ej∧G=F:=by
 refine qS.vc fun b I1 hI hb=>⟨b,rfl, ?_,rfl⟩
 exact Sl.ie (f:=jS) (z:=1) (l:=ej) (fun _=>rfl) hb (by kernel_rfl)
theorem zk(x:ByteArray)(I:cS)(F:cR):cU P 158 #[.string x] I F (kL (.bool false) F):=by
 refine ow.vc ?_
 unfold ow.V
 exact⟨by simp,rfl⟩
theorem xQ(x:ByteArray)(I:cS)(F:cR):cU P 156 #[.string x] I F (kL (.bool false) F):=by
 refine kv.vc ?_
 unfold kv.V
 exact⟨by simp,rfl⟩
theorem Bn(x y:ByteArray)(I:cS)(F:cR):cU P 155 #[.string x,.string y] I F (kL (.bool (Op.bytesLess x.toList y.toList)) F):=by
 refine qc.vc ?_
 unfold qc.V
 exact cU.ret (zk x I F) fun I1 h1=>⟨_,rfl,F,.refl _,fun h=>by (cases h),fun _=>⟨rfl,rfl⟩⟩
theorem pq:∀{a b c:List UInt8},Op.bytesLess a b=true→Op.bytesLess b c=true→Op.bytesLess a c=true
 | a,b,[],_,h=>by cases b<;>simp[Op.bytesLess] at h
 | [],b,z::c,_,_=>rfl
 | x::a,[],z::c,h,_=>by simp[Op.bytesLess] at h
 | x::a,y::b,z::c,h1,h2=>by
   simp only[Op.bytesLess,Bool.or_eq_true,Bool.and_eq_true,decide_eq_true_eq,beq_iff_eq] at h1 h2 ⊢
   rcases h1 with h1 | ⟨rfl,h1⟩
   ·rcases h2 with h2 | ⟨rfl,h2⟩
    ·exact .inl (UInt8.lt_trans h1 h2)
    ·exact .inl h1
   ·rcases h2 with h2 | ⟨rfl,h2⟩
    ·exact .inl h2
    ·exact .inr ⟨rfl,pq h1 h2⟩
def o0(x y:ByteArray):Bool:=Op.bytesLess x.toList y.toList
theorem wi:∀i j:Fin 41,i<j→o0 (ej[i]'(by simp[ej])) (ej[j]'(by simp[ej]))=true:=by decide +kernel
theorem zl:∀i:Fin 41,o0 (ej[i]'(by simp[ej])) (ej[i]'(by simp[ej]))=false:=by decide +kernel
theorem tu{i j:Nat}{x y:ByteArray}(h:i<j)(hx:ej[i]? = some x)(hy:ej[j]? = some y):o0 x y=true:=by
 have hj:j<41:=by
  rcases Nat.lt_or_ge j ej.length with h | h
  ·exact h
  ·simp[List.getElem?_eq_none h] at hy
 have:=wi ⟨i,by omega⟩ ⟨j,hj⟩ h
 rw[List.getElem?_eq_getElem (by show i<41;omega)] at hx
 rw[List.getElem?_eq_getElem (by show j<41;omega)] at hy
 cases hx;cases hy;exact this
theorem Bo{i:Nat}{x:ByteArray}(hx:ej[i]? = some x):o0 x x=false:=by
 have hj:i<41:=by
  rcases Nat.lt_or_ge i ej.length with h | h
  ·exact h
  ·simp[List.getElem?_eq_none h] at hx
 have:=zl ⟨i,hj⟩
 rw[List.getElem?_eq_getElem (by show i<41;omega)] at hx
 cases hx;exact this
theorem DB{n:Int}(h:0≤n∧n≤18446744073709551615):IntKind.wrap .u64 n=n:=by
 simp only[IntKind.wrap,IntKind.bits,IntKind.signed];simp;omega
theorem EZ{i j:Int}(h0:0≤i)(h:i<j)(hj:j≤41):IntKind.wrap .i64 (Int.fdiv (IntKind.wrap .u64 (IntKind.wrap .i64 (i+j))) (2 ^ 1))=(i+j) / 2:=by
 rw[ew (n:=i+j) (by omega),DB (n:=i+j) (by omega),Int.fdiv_eq_ediv_of_nonneg _ (by decide)]
 rw[show ((2:Int) ^ 1)=2 by rfl,ew (by omega)]
theorem xR{a:Option Addr}{c:Nat}{t:ByteArray}{I:cS}(hS:Sl I 1 jS a 41 ej)(F:cR) :
  cU P 150 #[.slice a 41 c,.string t] I F fun e I' G=>∃i:Int,e=.returned (.tuple #[.int .i64 i,.bool (oZ t)])∧G=F:=by
 refine fL.vc (fun i j m I' F'=>0≤i∧i≤j∧j≤41∧m=(j-i).toNat∧(∀(k:Nat) (x:ByteArray),ej[k]? = some x→(k:Int)<i→o0 x t=true) ∧
  (∀(k:Nat) (x:ByteArray),ej[k]? = some x→j≤k→o0 x t=false)∧F'=F) ?_
 unfold fL.V
 refine⟨⟨_,by omega,by decide,by decide,rfl,fun k x _ h=>by omega,fun k x hx h=>?_,rfl⟩,fun i j m I1 F1 hI ⟨g0,g1,g2,gm,gl,gr,gF⟩=>⟨fun hlt=>?_,fun hlt=>?_⟩⟩
 ·have:ej.length=41:=rfl
  simp[List.getElem?_eq_none (l:=ej) (i:=k) (by omega)] at hx
 ·have hlt:i<j:=by simpa using hlt
  subst gF
  have hS1:=hS.mono hI
  have hmid:=EZ g0 hlt g2
  generalize IntKind.wrap .i64 (Int.fdiv (IntKind.wrap .u64 (IntKind.wrap .i64 (i+j))) (2 ^ 1))=h at hmid ⊢
  obtain⟨ad,x,ha,hx,hrd⟩:=hS1.at (i:=h) (by omega) (by omega)
  refine⟨⟨by omega,by show h<41;omega⟩,ad,ha,x,hrd F1, ?_⟩
  refine cU.ret (Bn x t I1 F1) fun I2 h2=>⟨_,rfl,F1,.refl _,fun hc=>?_,fun hc=>?_⟩
  ·rw[ew (by omega)]
   refine⟨(j-(h+1)).toNat,by omega,by omega,by omega,g2,rfl,fun k y hy hk=>?_,gr,rfl⟩
   by_cases hkh:k=h.toNat
   ·subst hkh;rw[hx] at hy;cases hy;exact hc
   ·exact pq (tu (by omega) hy hx) hc
  ·refine⟨(h-i).toNat,by omega,g0,by omega,by omega,rfl,gl,fun k y hy hk=>?_,rfl⟩
   by_cases hkh:k=h.toNat
   ·subst hkh;rw[hx] at hy;cases hy;exact hc
   ·cases hlk:o0 y t with
    | false=>rfl
    | true=>have:=pq (tu (i:=h.toNat) (by omega) hx hy) hlk;rw[hc] at this;cases this
 ·have hlt:¬i<j:=by simpa using hlt
  have hij:i=j:=by omega
  subst hij
  subst gF
  have hS1:=hS.mono hI
  have no:(∀(k:Nat) (x:ByteArray),ej[k]? = some x→(k:Int)=i→(x.toList==t.toList)=false)→oZ t=false:=by
   intro hi
   unfold oZ
   rw[List.any_eq_false]
   intro x hx
   obtain⟨k,hk⟩:=List.mem_iff_getElem?.1 hx
   intro he
   have he':x.toList=t.toList:=by simpa using he
   have hirr:=Bo hk
   unfold o0 at hirr
   rcases Int.lt_or_le (k:Int) i with h | h
   ·have:=gl k x hk h
    unfold o0 at this
    rw[←he',hirr] at this;cases this
   ·rcases Int.lt_or_eq_of_le h with h' | h'
    ·obtain⟨ad,y,ha,hy,hrd⟩:=hS1.at (i:=i) g0 (by
      have:k<41:=by
       rcases Nat.lt_or_ge k ej.length with h | h
       ·exact h
       ·simp[List.getElem?_eq_none h] at hk
      show i<41
      omega)
     have h1:=tu (i:=i.toNat) (j:=k) (by omega) hy hk
     have h2:=gr i.toNat y hy (by omega)
     unfold o0 at h1 h2
     rw[he',h2] at h1;cases h1
    ·rw[hi k x hk h'.symm] at he;cases he
  refine⟨fun hlt=>?_,fun hlt=>?_⟩
  ·have hlt:i<41:=by simpa using hlt
   obtain⟨ad,x,ha,hx,hrd⟩:=hS1.at (i:=i) g0 (by exact hlt)
   refine⟨⟨g0,hlt⟩,ad,ha,x,hrd F1,fun he=>?_,fun he=>?_⟩
   ·refine⟨i, ?_,rfl⟩
    have:oZ t=true:=by
     unfold oZ
     exact List.any_eq_true.2 ⟨x,List.mem_of_getElem? hx,he⟩
    rw[this]
   ·have hno:=no fun k y hk hki=>by
     have:k=i.toNat:=by omega
     subst this
     rw[hx] at hk;cases hk;exact he
    refine⟨⟨g0,hlt⟩,ad,ha,x,hrd F1, ?_⟩
    refine cU.ret (xQ x I1 F1) fun I2 h2=>⟨_,rfl,F1,.refl _,fun h=>by (cases h),fun _=>⟨i, ?_,rfl⟩⟩
    rw[hno]
  ·have hlt:¬i<41:=by simpa using hlt
   refine⟨i, ?_,rfl⟩
   rw[no fun k y hk hki=>by
    have:ej.length=41:=rfl
    simp[List.getElem?_eq_none (l:=ej) (i:=k) (by omega)] at hk]
theorem Bp(t:ByteArray)(I:cS)(F:cR):cU P 140 #[.string t] I F (kL (.bool (oZ t)) F):=by
 refine qd.vc ?_
 unfold qd.V
 refine (zj I F).mono fun e I1 G hI ⟨b,he,hS,hG⟩=>?_
 subst hG
 refine⟨_,_,_,he,_,.refl _, ?_⟩
 refine (xR hS G).mono fun e I2 G2 hI2 ⟨i,he,hG⟩=>?_
 subst hG
 exact⟨_,_,he,_,.refl _,rfl,rfl⟩
theorem qe(c:Int)(I:cS)(F:cR):cU P 54 #[.int .u8 c] I F (kL (.bool (ig c)) F):=by
 refine mR.vc ⟨fun h=>⟨?_,rfl⟩,fun h=>⟨?_,rfl⟩⟩<;>simp_all [ig]<;>omega
theorem nI(c:Int)(I:cS)(F:cR):cU P 56 #[.int .u8 c] I F (kL (.bool (dr c)) F):=by
 refine nG.vc ⟨fun h=>⟨?_,rfl⟩,fun h=>⟨?_,rfl⟩⟩<;>simp_all [dr]<;>omega
theorem tx(c:Int)(I:cS)(F:cR):cU P 97 #[.int .u8 c] I F (kL (.bool (dM c)) F):=by
 refine mS.vc ?_
 unfold mS.V
 refine cU.ret (qe c I F) fun I1 h1=>⟨_,rfl,F,.refl _,fun hs=>⟨?_,rfl⟩,fun hs=>?_⟩
 ·simp[dM,hs]
 ·refine cU.ret (nI c I1 F) fun I2 h2=>⟨_,rfl,F,.refl _,fun hd=>⟨?_,rfl⟩,fun hd=>⟨?_,rfl⟩⟩
  ·simp[dM,hd]
  ·simp[dM,hs,hd]
theorem xS(I:cS)(F:cR):cU P 118 #[] I F fun e I' G=>∃b:Nat,e=.returned (.slice (some ⟨b,0,none⟩) 41 41)∧Sl I' 1 jS (some ⟨b,0,none⟩) 41 ej∧G=F:=by
 refine nH.vc fun b I1 hI hb=>⟨b,rfl, ?_,rfl⟩
 exact Sl.ie (f:=jS) (z:=1) (l:=ej) (fun _=>rfl) hb (by kernel_rfl)
theorem Cw{α:Type}{l:List α}{p:α→Bool}{k:Nat}{x:α}(h:l[k]? = some x):(l.drop k).any p=(p x||(l.drop (k+1)).any p):=by
 obtain⟨hk,rfl⟩:=List.getElem?_eq_some_iff.1 h
 rw[List.drop_eq_getElem_cons hk,List.any_cons]
theorem Bq{α:Type}{l:List α}{p:α→Bool}{k:Nat}{x:α}(h:l[k]? = some x):(l.drop k).find? p=if p x then some x else (l.drop (k+1)).find? p:=by
 obtain⟨hk,rfl⟩:=List.getElem?_eq_some_iff.1 h
 rw[List.drop_eq_getElem_cons hk,List.find?_cons]
 split<;>simp_all
theorem tz(t:ByteArray)(I:cS)(F:cR):cU P 96 #[.string t] I F (kL (.bool (oZ t)) F):=by
 refine mT.vc (fun x i m I' F'=>0≤i∧i≤41∧m=(41-i).toNat∧oZ t=(ej.drop i.toNat).any (fun w=>w.toList==t.toList)∧F'=F) ?_
 unfold mT.V
 refine (xS I F).mono fun e I1 G hI ⟨b,he,hS,hG⟩=>?_
 subst hG
 refine⟨_,_,_,he,_,.refl _,⟨_,by omega,by omega,rfl,rfl,rfl⟩,fun x i m I2 F2 hI2 ⟨g0,g1,gm,gw,gF⟩=>⟨fun hlt=>?_,fun hlt=>?_⟩⟩
 ·have hlt:i<41:=of_decide_eq_true hlt
  obtain⟨ad,w,ha,hw,hrd⟩:=(hS.mono hI2).at (i:=i) g0 hlt
  subst gF
  rw[Cw hw] at gw
  refine⟨⟨g0,hlt⟩,ad,ha,w,hrd _,fun h=>⟨?_,rfl⟩,fun h=>⟨(41-(i+1)).toNat,by omega, ?_⟩⟩
  ·rw[gw,h];rfl
  ·rw[ew (by omega)]
   refine⟨by omega,by omega,rfl, ?_,rfl⟩
   rw[gw,h,show (i+1).toNat=i.toNat+1 by omega];rfl
 ·have hlt:¬i<41:=of_decide_eq_false hlt
  refine⟨?_,gF⟩
  rw[gw,List.drop_eq_nil_of_le (by show 41≤_;omega)];rfl
end Go.Lx
namespace Go.Lx
open Go.Vc Go.Proofs.Tryz
def Cx:List (Nat×List Sh):=[]
def pw.V(i k:Int)(I:cS)(F:cR)(Q:cT)  : Prop:=Q (.returned (.int .i64 (IntKind.wrap .i64 ((IntKind.wrap .i64 (i*20000))+k)))) I (F)
theorem pw.vc{i k:Int}{I:cS}{F:cR}{Q:cT}  (h:pw.V i k I F Q):cU P 87 #[.int .i64 i,.int .i64 k] I F Q :=
 tw (A:=(an [] [] Cx)) [] func87 h
def mV.V(i k:Int)(I:cS)(F:cR)(Q:cT)  : Prop:=Q (.returned (.int .i64 (IntKind.wrap .i64 ((IntKind.wrap .i64 ((-1)-(IntKind.wrap .i64 (i*20))))-k)))) I (F)
theorem mV.vc{i k:Int}{I:cS}{F:cR}{Q:cT}  (h:mV.V i k I F Q):cU P 88 #[.int .i64 i,.int .i64 k] I F Q :=
 tw (A:=(an [] [] Cx)) [] func88 h
end Go.Lx
namespace Go.Lx
open Go.Vc
def lC(i k:Int):Int:=IntKind.wrap .i64 (IntKind.wrap .i64 (i*20000)+k)
def lD(i k:Int):Int:=IntKind.wrap .i64 (IntKind.wrap .i64 (-1-IntKind.wrap .i64 (i*20))-k)
theorem ox(i k:Int)(I:cS)(F:cR):cU P 87 #[.int .i64 i,.int .i64 k] I F (kL (.int .i64 (lC i k)) F):=pw.vc ⟨rfl,rfl⟩
theorem lE(i k:Int)(I:cS)(F:cR):cU P 88 #[.int .i64 i,.int .i64 k] I F (kL (.int .i64 (lD i k)) F):=mV.vc ⟨rfl,rfl⟩
def qB(i k:Int):Value:=.int .i64 (lC i k)
def zm(i k:Int):Value:=.int .i64 (lD i k)
def Bd{z:Nat}(ls:List (List (Ck z))):Prop:=∀(j:Nat) (l:List (Ck z)),ls[j]? = some l→l.length≤1000000000
theorem Bd.set{z:Nat}{ls:List (List (Ck z))}(h:Bd ls){i k:Nat}{l:List (Ck z)}(hl:ls[i]? = some l)(g:Ck z→Ck z):Bd (ls.set i (l.modify k g)):=by
 intro j l' hj
 rw[List.getElem?_set] at hj
 split at hj
 ·split at hj
  ·obtain rfl:l.modify k g=l':=by simpa using hj
   rw[List.length_modify];exact h i l hl
  ·cases hj
 ·exact h j l' hj
theorem vo{z o:Nat}{mk:Int→Int→Value}{ls:List (List (Ck z))}{i:Int}(h:∀(j:Nat) (l:List (Ck z)),(j:Int)<i→ls[j]? = some l→iM o mk j l)(l':List (Ck z))(h0:0≤i) :
  ∀(j:Nat) (l:List (Ck z)),(j:Int)<i→(ls.set i.toNat l')[j]? = some l→iM o mk j l:=by
 intro j l hj hl
 rw[List.getElem?_set_ne (by omega)] at hl
 exact h j l hj hl
theorem qf:∀(r:Row),∀u∈r.enc,u.oneCell'=true:=by
 intro r u hu
 simp only[Row.enc,List.mem_singleton] at hu
 subst hu;rfl
def dH(n:Nat)(hs:Nat→cR):cR:=(List.range n).flatMap hs
theorem tA(n:Nat)(hs:Nat→cR):dH (n+1) hs=hs 0++dH n fun i=>hs (i+1):=by
 unfold dH;rw[List.range_succ_eq_map,List.flatMap_cons,List.flatMap_map]
theorem pA(n:Nat)(hs:Nat→cR):dH (n+1) hs=dH n hs++hs n:=by
 unfold dH;rw[List.range_succ,List.flatMap_append];simp
theorem xU{n:Nat}{hs hs':Nat→cR}(h:∀i,i<n→hs i=hs' i):dH n hs=dH n hs':=by
 induction n with
 | zero=>rfl
 | succ n ih=>rw[pA,pA,ih fun i hi=>h i (by omega),h n (by omega)]
theorem vq{n:Nat}{hs:Nat→cR}{i:Nat}(hi:i<n){x:Nat×Obj}(hx:x∈hs i):x∈dH n hs:=List.mem_flatMap.2 ⟨i,List.mem_range.2 hi,hx⟩
def E0(n:Nat)(a:Option Addr)(c:Nat)(A:cR):Prop :=
 ∃b cells e,a=some ⟨b,0,none⟩∧A=[(b,Obj.cells cells e (0,0))]∧c=n+2∧cells[n*8+7]? = some (.int .i64 (-771))∧cells[(n+1)*8+7]? = some (.int .i64 (-772))
inductive eo (E:Nat) (R:Bool):Nd→cR→Prop
 | mk {t:Nd} {A:cR} {hs:Nat→cR}:Acc 8 Nd.enc E t.a t.kids.length t.c t.kids A→(R=true→E0 t.kids.length t.a t.c A)→(∀(i:Nat) (k:Nd),t.kids[i]? = some k→eo E R k (hs i)) →
    eo E R t (A++dH t.kids.length hs)
theorem eo.ok{E:Nat}{R:Bool}{t:Nd}{H:cR}(h:eo E R t H):∀{I:cS} {G:cR},(∀x,x∈H→x∈G)→dO I G t:=by
 induction h with
 | @mk t A hs hA hR hk ih =>
   intro I G hG
   refine .mk (hA.B0 Nd.qa I fun x hx=>hG x (List.mem_append_left _ hx)) fun k hkm=>?_
   obtain⟨i,hi,rfl⟩:=List.mem_iff_getElem.1 hkm
   exact ih i _ (List.getElem?_eq_getElem hi) fun x hx=>hG x (List.mem_append_right _ (vq hi hx))
mutual
def Nd.rows:Nd→List Row
 | .mk _ _ _ _ _ _ a c l _=>⟨a,l.length,c⟩::Nd.jq l
def Nd.jq:List Nd→List Row
 | []=>[]
 | x::r=>Nd.rows x++Nd.jq r
end
theorem Nd.wj(t:Nd):t.rows=⟨t.a,t.kids.length,t.c⟩::Nd.jq t.kids:=by cases t;rw[Nd.rows];rfl
def DC(t:Nd):Ck 8:=⟨t.enc,rfl⟩
mutual
def Nd.lists:Nd→List (List (Ck 8))
 | .mk _ _ _ _ _ _ _ _ l _=>l.map DC::Nd.pB l
def Nd.pB:List Nd→List (List (Ck 8))
 | []=>[]
 | x::r=>Nd.lists x++Nd.pB r
end
theorem Nd.xV(t:Nd):t.lists=t.kids.map DC::Nd.pB t.kids:=by cases t;rw[Nd.lists];rfl
theorem vr:∀l:List Nd,(l.map DC).flatMap cv=l.flatMap Nd.enc
 | []=>rfl
 | y::l=>by rw[List.map_cons,List.flatMap_cons,List.flatMap_cons,vr l];rfl
theorem _root_.Go.Vc.Acc.nd{a:Option Addr}{n c e:Nat}{l:List Nd}{A:cR}(h:Acc 8 Nd.enc e a n c l A):Acc 8 cv e a n c (l.map DC) A:=by
 obtain⟨hn,⟨h1,h2,h3,h4⟩ | ⟨b,cells,h1,h2,h3,h4,h5⟩⟩:=h
 ·exact⟨by rw[List.length_map];exact hn,.inl ⟨h1,h2,by rw[h3];rfl,h4⟩⟩
 ·exact⟨by rw[List.length_map];exact hn,.inr ⟨b,cells,h1,h2,h3,h4,by rw[h5,vr]⟩⟩
end Go.Lx
namespace Go.Vc
theorem dX.app{z e:Nat}:∀{rs rs':List Row} {ls ls':List (List (Ck z))} {H H':cR},dX z e rs ls H→dX z e rs' ls' H'→dX z e (rs++rs') (ls++ls') (H++H')
 | [],rs',[],ls',H,H',h,h'=>by
   have:H=[]:=h
   subst this;exact h'
 | r0::rs,rs',l0::ls,ls',H,H',⟨B,H'',hH,hB,hR⟩,h'=>by
   subst hH
   exact⟨B,H''++H',by rw[List.append_assoc],hB,dX.app hR h'⟩
 | [],_,_::_,_,_,_,h,_=>h.elim
 | _::_,_,[],_,_,_,h,_=>h.elim
end Go.Vc
namespace Go.Lx
open Go.Vc
theorem xW{E:Nat}:∀(l:List Nd) (hs:Nat→cR),(∀(i:Nat) (k:Nd),l[i]? = some k→∃H',dX 8 E k.rows k.lists H'∧H'.Perm (hs i)) →
  ∃H',dX 8 E (Nd.jq l) (Nd.pB l) H'∧H'.Perm (dH l.length hs)
 | [],hs,_=>⟨[],rfl,.refl _⟩
 | x::r,hs,h=>by
   obtain⟨A,h1,h2⟩:=h 0 x rfl
   obtain⟨B,h3,h4⟩:=xW r (fun i=>hs (i+1)) fun i k hk=>h (i+1) k (by simpa using hk)
   refine⟨A++B,h1.app h3, ?_⟩
   rw[List.length_cons,tA]
   exact h2.append h4
theorem eo.rows{E:Nat}{R:Bool}{t:Nd}{H:cR}(h:eo E R t H):∃H',dX 8 E t.rows t.lists H'∧H'.Perm H:=by
 induction h with
 | @mk t A hs hA hR hk ih =>
   obtain⟨B,h1,h2⟩:=xW t.kids hs ih
   refine⟨A++B, ?_,List.Perm.append_left A h2⟩
   rw[Nd.wj,Nd.xV]
   exact⟨A,B,rfl,hA.nd,h1⟩
theorem tB:∀t:Nd,(t.rows.length:Int)=t.px.size:=by
 have hL:∀l:List Nd,(∀x∈l,((Nd.rows x).length:Int)=x.px.size)→((Nd.jq l).length:Int)=Px.eh (l.map Nd.px):=by
  intro l
  induction l with
  | nil=>intro _;rfl
  | cons x r ih =>
    intro h
    have h1:=h x (List.mem_cons_self ..)
    have h2:=ih fun y hy=>h y (List.mem_cons_of_mem _ hy)
    rw[Nd.jq,List.map_cons,Px.eh,List.length_append];omega
 refine Nd.ind fun x h=>?_
 rw[Nd.wj,Px.size_eq,List.length_cons,Nd.jZ]
 have:=hL x.kids h
 omega
theorem Cy:∀t:Nd,t.px.size≤1048576→Bd t.lists:=by
 have hL:∀l:List Nd,(∀x∈l,x.px.size≤1048576→Bd x.lists)→Px.eh (l.map Nd.px)≤1048576→Bd (Nd.pB l):=by
  intro l
  induction l with
  | nil=>intro _ _ j x h;simp[Nd.pB] at h
  | cons x r ih =>
    intro h hs
    rw[List.map_cons,Px.eh] at hs
    have h0:=Px.size_pos x.px
    have h1:=Px.ku (r.map Nd.px)
    have h2:=h x (List.mem_cons_self ..) (by omega)
    have h3:=ih (fun y hy=>h y (List.mem_cons_of_mem _ hy)) (by omega)
    rw[Nd.pB]
    intro j y hy
    rw[List.getElem?_append] at hy
    split at hy
    ·exact h2 j y hy
    ·exact h3 _ y hy
 refine Nd.ind fun x h hs=>?_
 rw[Px.size_eq,Nd.jZ] at hs
 have hk:=hL x.kids h (by omega)
 rw[Nd.xV]
 intro j y hy
 cases j with
 | zero =>
   simp only[List.getElem?_cons_zero,Option.some.injEq] at hy
   subst hy
   have:=Px.qP (x.kids.map Nd.px)
   rw[List.length_map] at this ⊢
   omega
 | succ j=>exact hk j y (by simpa using hy)
end Go.Lx
namespace Go.Lx
open Go.Vc Go.Proofs.Tryz
def Cz:List (Nat×List Sh):=[(0,[]),(4,[.one .bool]),(25,[.one .slc]),(62,[.one .slc]),(64,[.agg [(.int .u8),(.int .u8),(.int .u8),(.int .i64),(.int .u8),.str,.slc,(.int .i64)]])]
def jB.V(f g:Nat→Nat×Obj)(nV:Int→Int→Int→Int→Int→Bs→OA→Nat→Nat→Int→Value)(nL:Int→Int→Int→Int→Int→Bs→OA→Nat→Nat→Int→List Value)(vt:Bool→Value)(z aa ab ac ae:Int)(af:Bs)(w:OA)(a ay:Nat)(ag ah ai aj ak al:Int)(am:Bs)(y:OA)(b az:Nat)(an:Int)(I:cS)(F:cR)(Q:cT)(Inv14:Bool→Int→Nat→cS→cR→Prop):Prop:=∀l:Nat,∀n:Nat,(It (ag != an) (Q (.returned (vt false)) I F) (It (z != ah) (Q (.returned (vt false)) I F) (It (aa != ai) (Q (.returned (vt false)) I F) (It (ab != aj) (Q (.returned (vt false)) I F) (It (ac != ak) (Q (.returned (vt false)) I F) (It (ae != al) (Q (.returned (vt false)) I F) (It (!(af.toList==am.toList)) (Q (.returned (vt false)) I F) (It ((a:Int)!=(b:Int)) (Q (.returned (vt false)) I F) ((∃m:Nat,Inv14 false 0 m I F)∧∀(x:Bool) (i:Int) (m1:Nat) (I1:cS) (F1:cR),cS.le I I1→Inv14 x i m1 I1 F1→(Dt (i<(a:Int)) ((0≤i∧i<(a:Int))∧∃ad:Addr,w=some ad∧∃(ao ap aq ar au:Int) (av:Bs) (h:OA) (j k:Nat) (aw:Int),Rd I1 ((g l)::(f n)::F1) (ad.add (Int.toNat i*8)) (nL ao ap aq ar au av h j k aw)∧((0≤i∧i<(b:Int))∧∃ax:Addr,y=some ax∧∃(o p q s t:Int) (u:Bs) (c:OA) (d e:Nat) (v:Int),Rd I1 ((g l)::(f n)::F1) (ax.add (Int.toNat i*8)) (nL o p q s t u c d e v)∧∃(r:Bool),(cU P 18 #[nV ao ap aq ar au av h j k aw,nV o p q s t u c d e v] I1 ((g l)::(f n)::F1) fun e1 I2 G1=>e1=.returned (vt r)∧List.Perm G1 ((g l)::(f n)::F1))∧(It (!r) (Q (.returned (vt false)) I1 F1) (∃m2:Nat,m2<m1∧Inv14 x (IntKind.wrap .i64 (i+1)) m2 I1 F1)))) (Q (.returned (vt true)) I1 F1)))))))))))
theorem jB.vc{r u v w x:Int}{y:Bs}{d:OA}{e g:Nat}{z aa ab ac ad ae:Int}{af:Bs}{i:OA}{j p:Nat}{ag:Int}{I:cS}{F:cR}{Q:cT}(Inv14:Bool→Int→Nat→cS→cR→Prop)(h:jB.V (fun b=>(b,Obj.cells #[.int .u8 aa,.int .u8 ab,.int .u8 ac,.int .i64 ad,.int .u8 ae,.string af,.slice i j p,.int .i64 ag] 64 (0,0))) (fun b=>(b,Obj.cells #[.int .u8 r,.int .u8 u,.int .u8 v,.int .i64 w,.int .u8 x,.string y,.slice d e g,.int .i64 z] 64 (0,0))) (fun k o t n f s a l c q=>.agg #[.int .u8 k,.int .u8 o,.int .u8 t,.int .i64 n,.int .u8 f,.string s,.slice a l c,.int .i64 q]) (fun k o t n f s a l c q=>[.int .u8 k,.int .u8 o,.int .u8 t,.int .i64 n,.int .u8 f,.string s,.slice a l c,.int .i64 q]) .bool r u v w x y d e g z aa ab ac ad ae af i j p ag I F Q Inv14):cU P 18 #[.agg #[.int .u8 r,.int .u8 u,.int .u8 v,.int .i64 w,.int .u8 x,.string y,.slice d e g,.int .i64 z],.agg #[.int .u8 aa,.int .u8 ab,.int .u8 ac,.int .i64 ad,.int .u8 ae,.string af,.slice i j p,.int .i64 ag]] I F Q :=
 tw (A:=(dy [1004,1010,1017,1024,1031,1038,1045,1054,4004,7001] [] [18] Cz [(14,⟨[(4,.bool),(5,(.int .i64))],[],fun _ _ _ vs m I F=>match vs with | [.bool y0,.int _ y1]=>Inv14 y0 y1 m I F | _=>False,[],[]⟩)] [] [] [] [] [] [])) [18] func18 h
def CA.V(c:Nat→Nat×Obj)(nV:Int→Int→Int→Int→Int→Bs→OA→Nat→Nat→Int→Value)(nO:Int→Int→Int→Int→Int→Bs→OA→Nat→Nat→Int→Obj)(vb:Int→Value)(vl:OA→Nat→Nat→Value)(aj ak al am an:Int)(ao:Bs)(p:OA)(a ap:Nat)(aq:Int)(I:cS)(F:cR)(Q:cT)(Inv10:OA→Nat→Nat→Int→Nat→cS→cR→Prop):Prop:=∀d:Nat,∀b:Nat,(∃m:Nat,Inv10 none 0 0 0 m I F)∧∀(l:OA) (n o:Nat) (i:Int) (m1:Nat) (I1:cS) (F1:cR),cS.le I I1→Inv10 l n o i m1 I1 F1→(Dt (i<(a:Int)) ((0≤i∧i<(a:Int))∧∃ad:Addr,p=some ad∧∃(q r s t u:Int) (w:Bs) (e:OA) (f g:Nat) (x:Int),Rd I1 ((c d)::(b,nO 0 0 0 0 0 (⟨#[]⟩:Bs) none 0 0 0)::F1) (ad.add (Int.toNat i*8)) [vb q,vb r,vb s,.int .i64 t,vb u,.string w,vl e f g,.int .i64 x]∧eg P 100 #[nV q r s t u w e f g x] I1 ((c d)::(b,nO 0 0 0 0 0 (⟨#[]⟩:Bs) none 0 0 0)::·) F1 fun e1 I2 G1=>∃(y z aa ab ac:Int) (ae:Bs) (h:OA) (j k:Nat) (af:Int),e1=.returned (nV y z aa ab ac ae h j k af)∧G1 fun F2=>∀(b1:Nat) (I3:cS),cS.le I2 I3→I3 b1=some (nO y z aa ab ac ae h j k af)→dk P (Builtin.append_ #[62,62] 62 #[vl l n o,vl (some ⟨b1,0,none⟩) 1 1]) I3 ((c d)::(b,nO 0 0 0 0 0 (⟨#[]⟩:Bs) none 0 0 0)::F2) fun v I4 G2=>∃(ag:OA) (ah ai:Nat),v=vl ag ah ai∧∃F3:cR,List.Perm G2 ((c d)::(b,nO 0 0 0 0 0 (⟨#[]⟩:Bs) none 0 0 0)::F3)∧(∃m2:Nat,m2<m1∧Inv10 ag ah ai (IntKind.wrap .i64 (i+1)) m2 I4 F3)) (Q (.returned (nV aj ak al am an ao l n o 0)) I1 F1))
def iq.V(c:Nat→Nat×Obj)(vb vi:Int→Value)(vl:OA→Nat→Nat→Value)(b:OA)(ab ac ae af ag:Int)(ah:Bs)(f:OA)(a k:Nat)(ai:Int)(I:cS)(F:cR)(Q:cT)(Inv7:Int→Nat→cS→cR→Prop):Prop:=∀d:Nat,∃ad:Addr,b=some ad∧∃(l:OA) (n o:Nat),Rd I ((c d)::F) (ad.add 1) [vl l n o]∧∀(b1:Nat) (I1:cS),cS.le I I1→I1 b1=some (Obj.cells #[vl f a k] 62 (0,0))→dk P (Builtin.append_ #[25,25] 25 #[vl l n o,vl (some ⟨b1,0,none⟩) 1 1]) I1 ((c d)::F) fun v I2 G1=>∃(p:OA) (q r:Nat),v=vl p q r∧∃F1:cR,List.Perm G1 ((c d)::F1)∧∃e:Addr,b=some e∧∃(cs:List Value) (el:Nat) (F2:cR),List.Perm F1 (((e.add 1).block,Obj.cells cs.toArray el (0,0))::F2)∧(e.add 1).spot=none∧(e.add 1).off+1≤cs.length∧(∃m:Nat,Inv7 0 m I2 (((e.add 1).block,Obj.cells (cY (e.add 1).off [vl p q r] cs).toArray el (0,0))::F2))∧∀(i:Int) (m1:Nat) (I3:cS) (F3:cR),cS.le I2 I3→Inv7 i m1 I3 F3→(Dt (i<(a:Int)) ((0≤i∧i<(a:Int))∧∃aa:Addr,f=some aa∧∃(s t u w x:Int) (y:Bs) (g:OA) (h j:Nat) (z:Int),Rd I3 ((c d)::F3) (aa.add (Int.toNat i*8)) [vb s,vb t,vb u,vi w,vb x,.string y,vl g h j,vi z]∧eg P 19 #[.pointer b,.agg #[vb s,vb t,vb u,vi w,vb x,.string y,vl g h j,vi z]] I3 ((c d)::·) F3 fun e1 I4 G2=>e1=.returned (.tuple #[])∧G2 fun F4=>(∃m2:Nat,m2<m1∧Inv7 (IntKind.wrap .i64 (i+1)) m2 I4 F4)) (Q (.returned (.tuple #[])) I3 F3))
theorem iq.vc{b:OA}{e f g i j:Int}{k:Bs}{a:OA}{c d:Nat}{l:Int}{I:cS}{F:cR}{Q:cT}(Inv7:Int→Nat→cS→cR→Prop)(h:iq.V (fun b=>(b,Obj.cells #[.int .u8 e,.int .u8 f,.int .u8 g,.int .i64 i,.int .u8 j,.string k,.slice a c d,.int .i64 l] 64 (0,0))) (.int .u8) (.int .i64) .slice b e f g i j k a c d l I F Q Inv7):cU P 19 #[.pointer b,.agg #[.int .u8 e,.int .u8 f,.int .u8 g,.int .i64 i,.int .u8 j,.string k,.slice a c d,.int .i64 l]] I F Q :=
 tw (A:=(dy [3004] [] [19] Cz [(7,⟨[(4,(.int .i64))],[],fun _ _ _ vs m I F=>match vs with | [.int _ y0]=>Inv7 y0 m I F | _=>False,[],[]⟩)] [1007] [] [] [] [(1,[0,1,2,3,5,4,6,7,8,9,10,11])] [])) [19] func19 h
end Go.Lx
namespace Go.Lx
open Go.Vc
theorem dO.cons{I:cS}{F:cR}{t:Nd}(h:dO I F t){x:Nat×Obj}:dO I (x::F) t:=h.mono (cS.le_refl I) fun _ h=>List.mem_cons_of_mem _ h
theorem qg{l:List Nd}{i:Nat}{x:Nd}(h:l[i]? = some x):(l.drop i).map Nd.px=x.px::(l.drop (i+1)).map Nd.px:=by
 obtain⟨hk,rfl⟩:=List.getElem?_eq_some_iff.1 h
 rw[List.drop_eq_getElem_cons hk,List.map_cons]
theorem CB{l:List Nd}{i:Nat}(h:l.length≤i):(l.drop i).map Nd.px=[]:=by rw[List.drop_eq_nil_of_le h];rfl
theorem _root_.Go.Vc.cU.Gd{v:Value}{F:cR}{Pr:Program}{f:FuncId}{args:Array Value}{I:cS}(h:cU Pr f args I F (kL v F)):cU Pr f args I F fun e I' G=>e=.returned v∧G.Perm F :=
 h.mono fun e I' G _ ⟨h1,h2⟩=>⟨h1,by rw[h2]⟩
theorem CC{t x:Nd}(h:x∈t.kids){n:Int}(hs:t.px.size≤n):x.px.size≤n:=by
 have h1:=Px.vn (List.mem_map_of_mem (f:=Nd.px) h)
 rw[Px.size_eq,Nd.jZ] at hs
 omega
theorem CD{t:Nd}{n:Int}(hs:t.px.size≤n):(t.kids.length:Int)<n:=by
 have h1:=Px.qP (t.kids.map Nd.px)
 rw[Px.size_eq,Nd.jZ] at hs
 rw[List.length_map] at h1
 omega
def fW:Nd:=.mk 0 0 0 0 0 ⟨#[]⟩ none 0 [] 0
def E1.V(vt:Bool→Value)(i a b c d:Int)(e:Bs)(f:OA)(g h:Nat)(j:Int)(I:cS)(F:cR)(Q:cT)  : Prop:=∀k:Nat,(It (a==0) (It (b==0) (It (c==0) (It (d==0) (Q (.returned (vt (e.toList==(⟨#[]⟩:Bs).toList))) I F) (Q (.returned (vt false)) I F)) (Q (.returned (vt false)) I F)) (Q (.returned (vt false)) I F)) (Q (.returned (vt false)) I F))
def Dm.V(nO:Int→Int→Int→Int→Int→Bs→OA→Nat→Nat→Int→Obj)(vb:Int→Value)(vt:Bool→Value)(f g a b h:Int)(i:Bs)(d:OA)(c e:Nat)(j:Int)(I:cS)(F:cR)(Q:cT)(Inv4:Bool→cS→cR→Prop):Prop:=∀k:Nat,((It (a==1) (Inv4 (decide (b≥0)) I F) (It (a==2) (Inv4 (decide (b≥0)) I F) (It (a==3) (Inv4 (decide (b≥0)) I F) (It (a==4) (Inv4 (decide (b≥0)) I F) (It (a==5) (It (b==0) (Inv4 true I F) (Inv4 (b==1) I F)) (It (a==6) (It (b==1) (Inv4 true I F) (Inv4 (b==2) I F)) (Inv4 false I F))))))))∧∀(ok:Bool) (I1:cS) (F1:cR),cS.le I I1→Inv4 ok I1 F1→(It ok (dt P 146 #[.agg #[vb f,vb g,vb 0,.int .i64 0,vb h,.string i,.slice d c e,.int .i64 j]] I1 ((k,nO f g 0 0 h i d c e j)::·) F1 vt fun r I2 F2=>(It r (Q (.returned (vt ((c:Int)==0))) I2 F2) (Q (.returned (vt false)) I2 F2))) (Q (.returned (vt false)) I1 F1))
def FL.V(w:Nat→Nat×Obj)(nV:Int→Int→Int→Int→Int→Bs→OA→Nat→Nat→Int→Value)(nO:Int→Int→Int→Int→Int→Bs→OA→Nat→Nat→Int→Obj)(vt:Bool→Value)(a e g h f:Int)(i:Bs)(b:OA)(c d:Nat)(j:Int)(I:cS)(F:cR)(Q:cT)(Inv6:Bool→Int→Bool→Int→Int→Int→Int→Int→Bs→OA→Nat→Nat→Int→cS→cR→Prop):Prop:=∀v:Nat,((It (a==1) (dt P 145 #[nV a e g h f i b c d j] I ((w v)::·) F vt fun r I1 F1=>Q (.returned (vt r)) I1 F1) (It (a==2) (dt P 50 #[.string i] I ((w v)::·) F vt fun r1 I2 F2=>Inv6 false 0 r1 a e g h f (⟨#[]⟩:Bs) b c d j I2 F2) (It (a==3) (Dt (f≥1) (Inv6 false 0 (decide (f≤6)) a e g h 0 i b c d j I F) (Inv6 false 0 false a e g h 0 i b c d j I F)) (It (a==4) (Dt (f≥1) (Inv6 false 0 (decide (f≤3)) a e g h 0 i b c d j I F) (Inv6 false 0 false a e g h 0 i b c d j I F)) (It (a==5) (It (e==1) (Inv6 false 1 true a 0 g h f i b c d j I F) (Inv6 false 1 (e==2) a 0 g h f i b c d j I F)) (It (a==6) (Dt (e≥6) (Inv6 false 2 (decide (e≤18)) a 0 g h f i b c d j I F) (Inv6 false 2 false a 0 g h f i b c d j I F)) (It (a==7) (Inv6 false 3 true a e g h f i b c d j I F) (It (a==8) (Dt (e≥3) (It (e==3) (Inv6 false 1 (decide (e≤5)) a 0 g h f i b c d j I F) (Inv6 false 2 (decide (e≤5)) a 0 g h f i b c d j I F)) (It (e==3) (Inv6 false 1 false a 0 g h f i b c d j I F) (Inv6 false 2 false a 0 g h f i b c d j I F))) (It (a==9) (Dt (g≥1) (Inv6 false 1 (decide (g≤4)) a e 0 h f i b c d j I F) (Inv6 false 1 false a e 0 h f i b c d j I F)) (Inv6 false 0 false a e g h f i b c d j I F)))))))))))∧∀(x:Bool) (y:Int) (ok:Bool) (n o p q s:Int) (t:Bs) (l:OA) (k m:Nat) (u:Int) (I3:cS) (F3:cR),cS.le I I3→Inv6 x y ok n o p q s t l k m u I3 F3→(It ok (dt P 146 #[nV n o p q s t l k m u] I3 ((v,nO n o p q s t l k m u)::·) F3 vt fun r2 I4 F4=>(It r2 (Q (.returned (vt ((k:Int)==y))) I4 F4) (Q (.returned (vt false)) I4 F4))) (Q (.returned (vt false)) I3 F3))
def DD.V(b:Nat→Nat×Obj)(nV:Int→Int→Int→Int→Int→Bs→OA→Nat→Nat→Int→Value)(vb:Int→Value)(vt:Bool→Value)(s t u v w:Int)(x:Bs)(d:OA)(a h:Nat)(y:Int)(I:cS)(F:cR)(Q:cT)(Inv8:Bool→Int→Nat→cS→cR→Prop):Prop:=∀c:Nat,dt P 130 #[nV s t u v w x d a h y] I ((b c)::·) F vt fun r I1 F1=>(∃m:Nat,Inv8 r 0 m I1 F1)∧∀(ok:Bool) (i:Int) (m1:Nat) (I2:cS) (F2:cR),cS.le I1 I2→Inv8 ok i m1 I2 F2→(Dt (i<(a:Int)) (It ok ((0≤i∧i<(a:Int))∧∃ad:Addr,d=some ad∧∃(j k l n o:Int) (p:Bs) (e:OA) (f g:Nat) (q:Int),Rd I2 ((b c)::F2) (ad.add (Int.toNat i*8)) [vb j,vb k,vb l,.int .i64 n,vb o,.string p,.slice e f g,.int .i64 q]∧dt P 119 #[nV j k l n o p e f g q] I2 ((b c)::·) F2 vt fun r1 I3 F3=>(∃m2:Nat,m2<m1∧Inv8 r1 (IntKind.wrap .i64 (i+1)) m2 I3 F3)) (Q (.returned (vt ok)) I2 F2)) (Q (.returned (vt ok)) I2 F2))
def En.V(vi:Int→Value)(b a f g h:Int)(i:Bs)(c:OA)(d e:Nat)(j:Int)(I:cS)(F:cR)(Q:cT)  : Prop:=∀k:Nat,(It (b==7) (Q (.returned (vi 1)) I F) (It (b==5) (Q (.returned (vi 7)) I F) (It (b==6) (It (a==18) (Q (.returned (vi 2)) I F) (It (a==17) (Q (.returned (vi 3)) I F) (Dt (a≥11) (Q (.returned (vi 4)) I F) (Dt (a≤7) (Q (.returned (vi 5)) I F) (Q (.returned (vi 6)) I F))))) (Q (.returned (vi 8)) I F))))
def E2.V(nO:Int→Int→Int→Int→Int→Bs→OA→Nat→Nat→Int→Obj)(vb vi:Int→Value)(a e f g h:Int)(j:Bs)(b:OA)(c d:Nat)(k i:Int)(I:cS)(F:cR)(Q:cT)  : Prop:=∀l:Nat,dt P 153 #[.agg #[vb a,vb e,vb f,vi g,vb h,.string j,.slice b c d,vi k]] I ((l,nO a e f g h j b c d k)::·) F vi fun r I1 F1=>(It (a==7) (It (i==0) (Q (.returned (vi 2)) I1 F1) (Q (.returned (vi 1)) I1 F1)) (It (a==5) (Q (.returned (vi 7)) I1 F1) (It (a==6) (It (r==4) (Q (.returned (vi 5)) I1 F1) (Q (.returned (vi (IntKind.wrap .i64 (r+i)))) I1 F1)) (Q (.returned (vi 1)) I1 F1))))
def B1.V(a:Nat→Nat×Obj)(nV:Int→Int→Int→Int→Int→Bs→OA→Nat→Nat→Int→Value)(vb vi:Int→Value)(q s t u v:Int)(w:Bs)(c:OA)(d h:Nat)(x i:Int)(I:cS)(F:cR)(Q:cT)  : Prop:=∀b:Nat,((0≤i∧i<(d:Int))∧∃ad:Addr,c=some ad∧∃(j k l m n:Int) (o:Bs) (e:OA) (f g:Nat) (p:Int),Rd I ((a b)::F) (ad.add (Int.toNat i*8)) [vb j,vb k,vb l,vi m,vb n,.string o,.slice e f g,vi p]∧∃(r:Int),(cU P 153 #[nV j k l m n o e f g p] I ((a b)::F) fun e1 I1 G1=>e1=.returned (vi r)∧List.Perm G1 ((a b)::F))∧∃(r1:Int),(cU P 154 #[nV q s t u v w c d h x,vi i] I ((a b)::F) fun e2 I2 G2=>e2=.returned (vi r1)∧List.Perm G2 ((a b)::F))∧Q (.returned (.bool (decide (r<r1)))) I F)
def Eo.V(d:Nat→Nat×Obj)(nV:Int→Int→Int→Int→Int→Bs→OA→Nat→Nat→Int→Value)(vb vi:Int→Value)(wr:Int→Int)(b al am an ao:Int)(ap:Bs)(f:OA)(c k:Nat)(aq:Int)(I:cS)(F:cR)(Q:cT)(Inv8:Int→Int→Nat→cS→cR→Prop):Prop:=∀e:Nat,(∃m:Nat,Inv8 0 0 m I F)∧∀(a i:Int) (m1:Nat) (I1:cS) (F1:cR),cS.le I I1→Inv8 a i m1 I1 F1→(Dt (i<(c:Int)) ((0≤i∧i<(c:Int))∧∃ad:Addr,f=some ad∧∃(l n o p q:Int) (s:Bs) (g:OA) (h j:Nat) (t:Int),Rd I1 ((d e)::F1) (ad.add (Int.toNat i*8)) [vb l,vb n,vb o,vi p,vb q,.string s,.slice g h j,vi t]∧dt P 131 #[nV l n o p q s g h j t] I1 ((d e)::·) F1 vi fun r I2 F2=>dt P 147 #[nV b al am an ao ap f c k aq,vi i] I2 ((d e)::·) F2 .bool fun r1 I3 F3=>(It r1 (It (b==5) (Dt ((wr ((wr (r+1))+1))>a) (∃m2:Nat,m2<m1∧Inv8 (wr ((wr (r+1))+1)) (wr (i+1)) m2 I3 F3) (∃m3:Nat,m3<m1∧Inv8 a (wr (i+1)) m3 I3 F3)) (It (b==8) (Dt ((wr ((wr (r+1))+1))>a) (∃m4:Nat,m4<m1∧Inv8 (wr ((wr (r+1))+1)) (wr (i+1)) m4 I3 F3) (∃m5:Nat,m5<m1∧Inv8 a (wr (i+1)) m5 I3 F3)) (It (b==9) (Dt ((wr ((wr (r+1))+1))>a) (∃m6:Nat,m6<m1∧Inv8 (wr ((wr (r+1))+1)) (wr (i+1)) m6 I3 F3) (∃m7:Nat,m7<m1∧Inv8 a (wr (i+1)) m7 I3 F3)) (It (b==7) (Dt (i>0) (Dt ((wr ((wr (r+1))+1))>a) (∃m8:Nat,m8<m1∧Inv8 (wr ((wr (r+1))+1)) (wr (i+1)) m8 I3 F3) (∃m9:Nat,m9<m1∧Inv8 a (wr (i+1)) m9 I3 F3)) (Dt ((wr (r+1))>a) (∃u:Nat,u<m1∧Inv8 (wr (r+1)) (wr (i+1)) u I3 F3) (∃v:Nat,v<m1∧Inv8 a (wr (i+1)) v I3 F3))) (Dt ((wr (r+1))>a) (∃w:Nat,w<m1∧Inv8 (wr (r+1)) (wr (i+1)) w I3 F3) (∃x:Nat,x<m1∧Inv8 a (wr (i+1)) x I3 F3)))))) (It (b==5) (Dt ((wr (r+1))>a) (∃y:Nat,y<m1∧Inv8 (wr (r+1)) (wr (i+1)) y I3 F3) (∃z:Nat,z<m1∧Inv8 a (wr (i+1)) z I3 F3)) (It (b==8) (Dt ((wr (r+1))>a) (∃aa:Nat,aa<m1∧Inv8 (wr (r+1)) (wr (i+1)) aa I3 F3) (∃ab:Nat,ab<m1∧Inv8 a (wr (i+1)) ab I3 F3)) (It (b==9) (Dt ((wr (r+1))>a) (∃ac:Nat,ac<m1∧Inv8 (wr (r+1)) (wr (i+1)) ac I3 F3) (∃ae:Nat,ae<m1∧Inv8 a (wr (i+1)) ae I3 F3)) (It (b==7) (Dt (i>0) (Dt ((wr (r+1))>a) (∃af:Nat,af<m1∧Inv8 (wr (r+1)) (wr (i+1)) af I3 F3) (∃ag:Nat,ag<m1∧Inv8 a (wr (i+1)) ag I3 F3)) (Dt (r>a) (∃ah:Nat,ah<m1∧Inv8 r (wr (i+1)) ah I3 F3) (∃ai:Nat,ai<m1∧Inv8 a (wr (i+1)) ai I3 F3))) (Dt (r>a) (∃aj:Nat,aj<m1∧Inv8 r (wr (i+1)) aj I3 F3) (∃ak:Nat,ak<m1∧Inv8 a (wr (i+1)) ak I3 F3)))))))) (Q (.returned (vi a)) I1 F1))
def B2.V(a:Nat→Nat×Obj)(nV:Int→Int→Int→Int→Int→Bs→OA→Nat→Nat→Int→Value)(vi:Int→Value)(f g h i j:Int)(k:Bs)(b:OA)(c d:Nat)(l:Int)(I:cS)(F:cR)(Q:cT)  : Prop:=∀e:Nat,dt P 119 #[nV f g h i j k b c d l] I ((a e)::·) F .bool fun r I1 F1=>(It (!r) (Q (.returned (vi 120)) I1 F1) (dt P 131 #[nV f g h i j k b c d l] I1 ((a e)::·) F1 vi fun r1 I2 F2=>(Dt (r1>24) (Q (.returned (vi 122)) I2 F2) (Q (.returned (vi 0)) I2 F2))))
end Go.Lx
namespace Go.Lx
open Go.Vc Go.Proofs.Tryz
def lR:List (Nat×List Sh):=[(3,[.one (.int .i64)]),(24,[.one .slc]),(25,[.one .slc]),(26,[.one .slc]),(27,[.one .slc]),(28,[.one .slc]),(29,[.one .slc]),(30,[.one .slc]),(31,[.one .slc]),(32,[.one .slc]),(33,[.one .slc]),(39,[.one .slc]),(40,[.one .slc]),(41,[.one .slc]),(62,[.one .slc]),(80,[.one .slc]),(86,[.one .slc]),(108,[.one .slc]),(171,[.one .slc]),(175,[.one .slc]),(180,[.one .slc])]
def qT.V0(vi:Int→Value)(vl:Option Addr→Nat→Nat→Value)(vt:Bool→Value)(wr:Int→Int)(z o E S S1:Nat)(nw:Int→List Value)(l_a:Option Addr)(l_n l_c:Nat)(I:cS)(F:cR)(Q:cT)(Inv8:Int→Nat→cS→cR→cS→cR→Prop)(Inv20:Int→Int→Nat→cS→cR→cS→cR→Prop)(Inv36:Option Addr→Nat→Nat→Int→Nat→cS→cR→cS→cR→Prop)(Inv51:Option Addr→Nat→Nat→Int→Option Addr→Nat→Nat→Int→Nat→cS→cR→cS→cR→Prop)(Inv68:Option Addr→Nat→Nat→Bool→Int→Nat→cS→cR→cS→cR→Prop)(Inv83:Option Addr→Nat→Nat→Int→Int→Bool→Int→Nat→cS→cR→cS→cR→Prop)(Inv103:Option Addr→Nat→Nat→Int→Int→Bool→Int→Nat→cS→cR→cS→cR→Prop):Prop:=(∃m:Nat,Inv8 0 m I F I F)∧∀(i:Int) (m1:Nat) (I1:cS) (F1:cR),cS.le I I1→Inv8 i m1 I F I1 F1→((decide (i<((l_n:Nat):Int))=true→(∃m2:Nat,Inv20 i 0 m2 I1 F1 I1 F1)∧∀(k:Int) (m3:Nat) (I2:cS) (F2:cR),cS.le I1 I2→Inv20 i k m3 I1 F1 I2 F2→((0≤i∧i<(l_n:Int))∧∃ad:Addr,l_a=some ad∧∃(m_a:Option Addr) (m_n m_c:Nat),Rd I2 (F2) (ad.add (Int.toNat (i)*1)) [vl m_a m_n m_c]∧((decide (k<((m_n:Nat):Int))=true→((0≤i∧i<(l_n:Int))∧∃ad1:Addr,l_a=some ad1∧∃(m_a1:Option Addr) (m_n1 m_c1:Nat),Rd I2 (F2) (ad1.add (Int.toNat (i)*1)) [vl m_a1 m_n1 m_c1]∧∃(r:Int),(cU P 87 (#[vi i,vi k]) I2 (F2) fun e1 I3 G1=>e1=.returned (vi r)∧List.Perm G1 (F2))∧((0≤k∧k<(m_n1:Int))∧∃ad2:Addr,m_a1=some ad2∧∃(cs:List Value) (el:Nat) (F3:cR),List.Perm F2 ((((ad2.add (Int.toNat (k)*z)).add o).block,Obj.cells cs.toArray el (0,0))::F3)∧((ad2.add (Int.toNat (k)*z)).add o).spot=none∧((ad2.add (Int.toNat (k)*z)).add o).off+1≤cs.length∧(∃m4:Nat,m4<m3∧Inv20 i (wr (k+1)) m4 I1 F1 I2 ((((ad2.add (Int.toNat (k)*z)).add o).block,Obj.cells (cY ((ad2.add (Int.toNat (k)*z)).add o).off [vi r] cs).toArray el (0,0))::F3)))))∧(decide (k<((m_n:Nat):Int))=false→(∃m5:Nat,m5<m1∧Inv8 (wr (i+1)) m5 I F I2 F2)))))∧(decide (i<((l_n:Nat):Int))=false→(∃m6:Nat,Inv36 none 0 0 0 m6 I1 F1 I1 F1)∧∀(long_a:Option Addr) (long_n long_c:Nat) (i1:Int) (m7:Nat) (I4:cS) (F4:cR),cS.le I1 I4→Inv36 long_a long_n long_c i1 m7 I1 F1 I4 F4→((decide (i1<((l_n:Nat):Int))=true→((0≤i1∧i1<(l_n:Int))∧∃ad3:Addr,l_a=some ad3∧∃(m_a2:Option Addr) (m_n2 m_c2:Nat),Rd I4 (F4) (ad3.add (Int.toNat (i1)*1)) [vl m_a2 m_n2 m_c2]∧(∃m8:Nat,Inv51 long_a long_n long_c i1 m_a2 m_n2 m_c2 0 m8 I4 F4 I4 F4)∧∀(x_a:Option Addr) (x_n x_c:Nat) (k1:Int) (m9:Nat) (I5:cS) (F5:cR),cS.le I4 I5→Inv51 long_a long_n long_c i1 x_a x_n x_c k1 m9 I4 F4 I5 F5→((decide (k1<8)=true→cU P 88 (#[vi i1,vi k1]) I5 (F5) fun e2 I6 G2=>∃(r1:Int),e2=.returned (vi r1)∧∃F6:cR,List.Perm G2 (F6)∧∀(b:Nat) (I7:cS),cS.le I6 I7→I7 b=some (Obj.cells (nw r1).toArray E (0,0))→dk P (Builtin.append_ #[S,S] S #[vl x_a x_n x_c,vl (some ⟨b,0,none⟩) 1 1]) I7 (F6) fun v I8 G3=>∃(r_a:Option Addr) (r_n r_c:Nat),v=vl r_a r_n r_c∧∃F7:cR,List.Perm G3 (F7)∧(∃m10:Nat,m10<m9∧Inv51 long_a long_n long_c i1 r_a r_n r_c (wr (k1+1)) m10 I4 F4 I8 F7))∧(decide (k1<8)=false→∀(b1:Nat) (I9:cS),cS.le I5 I9→I9 b1=some (Obj.cells #[vl x_a x_n x_c] S (0,0))→dk P (Builtin.append_ #[S1,S1] S1 #[vl long_a long_n long_c,vl (some ⟨b1,0,none⟩) 1 1]) I9 (F5) fun v1 I10 G4=>∃(r_a1:Option Addr) (r_n1 r_c1:Nat),v1=vl r_a1 r_n1 r_c1∧∃F8:cR,List.Perm G4 (F8)∧(∃m11:Nat,m11<m7∧Inv36 r_a1 r_n1 r_c1 (wr (i1+1)) m11 I1 F1 I10 F8)))))∧(decide (i1<((l_n:Nat):Int))=false→(∃m12:Nat,Inv68 long_a long_n long_c false 0 m12 I4 F4 I4 F4)∧∀(x:Bool) (i2:Int) (m13:Nat) (I11:cS) (F9:cR),cS.le I4 I11→Inv68 long_a long_n long_c x i2 m13 I4 F4 I11 F9→((decide (i2<((l_n:Nat):Int))=true→((0≤i2∧i2<(l_n:Int))∧∃ad4:Addr,l_a=some ad4∧∃(m_a3:Option Addr) (m_n3 m_c3:Nat),Rd I11 (F9) (ad4.add (Int.toNat (i2)*1)) [vl m_a3 m_n3 m_c3]∧(∃m14:Nat,Inv83 long_a long_n long_c i2 ((m_n3:Nat):Int) x 0 m14 I11 F9 I11 F9)∧∀(x1:Bool) (k2:Int) (m15:Nat) (I12:cS) (F10:cR),cS.le I11 I12→Inv83 long_a long_n long_c i2 ((m_n3:Nat):Int) x1 k2 m15 I11 F9 I12 F10→((decide (k2<((m_n3:Nat):Int))=true→((0≤i2∧i2<(l_n:Int))∧∃ad5:Addr,l_a=some ad5∧∃(m_a4:Option Addr) (m_n4 m_c4:Nat),Rd I12 (F10) (ad5.add (Int.toNat (i2)*1)) [vl m_a4 m_n4 m_c4]∧((0≤k2∧k2<(m_n4:Int))∧∃ad6:Addr,m_a4=some ad6∧∃(m16:Int),Rd I12 (F10) ((ad6.add (Int.toNat (k2)*z)).add o) [vi m16]∧∃(r2:Int),(cU P 87 (#[vi i2,vi k2]) I12 (F10) fun e3 I13 G5=>e3=.returned (vi r2)∧List.Perm G5 (F10))∧(((m16 != r2)=true→Q (.returned (vt false)) I12 (F10))∧((m16 != r2)=false→((0≤i2∧i2<(long_n:Int))∧∃ad7:Addr,long_a=some ad7∧∃(m_a5:Option Addr) (m_n5 m_c5:Nat),Rd I12 (F10) (ad7.add (Int.toNat (i2)*1)) [vl m_a5 m_n5 m_c5]∧((0≤k2∧k2<(m_n5:Int))∧∃ad8:Addr,m_a5=some ad8∧∃(m17:Int),Rd I12 (F10) ((ad8.add (Int.toNat (k2)*z)).add o) [vi m17]∧∃(r3:Int),(cU P 87 (#[vi i2,vi k2]) I12 (F10) fun e4 I14 G6=>e4=.returned (vi r3)∧List.Perm G6 (F10))∧(((m17 != r3)=true→Q (.returned (vt false)) I12 (F10))∧((m17 != r3)=false→(∃m18:Nat,m18<m15∧Inv83 long_a long_n long_c i2 ((m_n3:Nat):Int) x1 (wr (k2+1)) m18 I11 F9 I12 F10))))))))))∧(decide (k2<((m_n3:Nat):Int))=false→(∃m19:Nat,Inv103 long_a long_n long_c i2 ((m_n3:Nat):Int) x1 0 m19 I12 F10 I12 F10)∧∀(x2:Bool) (k3:Int) (m20:Nat) (I15:cS) (F11:cR),cS.le I12 I15→Inv103 long_a long_n long_c i2 ((m_n3:Nat):Int) x2 k3 m20 I12 F10 I15 F11→((decide (k3<8)=true→((0≤i2∧i2<(long_n:Int))∧∃ad9:Addr,long_a=some ad9∧∃(m_a6:Option Addr) (m_n6 m_c6:Nat),Rd I15 (F11) (ad9.add (Int.toNat (i2)*1)) [vl m_a6 m_n6 m_c6]∧((0≤(wr (((m_n3:Nat):Int)+k3))∧(wr (((m_n3:Nat):Int)+k3))<(m_n6:Int))∧∃ad10:Addr,m_a6=some ad10∧∃(m21:Int),Rd I15 (F11) ((ad10.add (Int.toNat (wr (((m_n3:Nat):Int)+k3))*z)).add o) [vi m21]∧∃(r4:Int),(cU P 88 (#[vi i2,vi k3]) I15 (F11) fun e5 I16 G7=>e5=.returned (vi r4)∧List.Perm G7 (F11))∧(((m21 != r4)=true→Q (.returned (vt false)) I15 (F11))∧((m21 != r4)=false→(∃m22:Nat,m22<m20∧Inv103 long_a long_n long_c i2 ((m_n3:Nat):Int) x2 (wr (k3+1)) m22 I12 F10 I15 F11))))))∧(decide (k3<8)=false→(∃m23:Nat,m23<m13∧Inv68 long_a long_n long_c x2 (wr (i2+1)) m23 I4 F4 I15 F11)))))))∧(decide (i2<((l_n:Nat):Int))=false→Q (.returned (vt true)) I11 (F9)))))))
def qT.V(z o E S S1:Nat)(nw:Int→List Value)(a:OA)(b c:Nat)(I:cS)(F:cR)(Q:cT)(Inv8:Int→Nat→cS→cR→cS→cR→Prop)(Inv20:Int→Int→Nat→cS→cR→cS→cR→Prop)(Inv36:OA→Nat→Nat→Int→Nat→cS→cR→cS→cR→Prop)(Inv51:OA→Nat→Nat→Int→OA→Nat→Nat→Int→Nat→cS→cR→cS→cR→Prop)(Inv68:OA→Nat→Nat→Bool→Int→Nat→cS→cR→cS→cR→Prop)(Inv83:OA→Nat→Nat→Int→Int→Bool→Int→Nat→cS→cR→cS→cR→Prop)(Inv103:OA→Nat→Nat→Int→Int→Bool→Int→Nat→cS→cR→cS→cR→Prop):Prop:=qT.V0 (.int .i64) .slice .bool (IntKind.wrap .i64) z o E S S1 nw a b c I F Q Inv8 Inv20 Inv36 Inv51 Inv68 Inv83 Inv103
theorem rM.vc{a:OA}{b c:Nat}{I:cS}{F:cR}{Q:cT}(Inv8:Int→Nat→cS→cR→cS→cR→Prop)(Inv20:Int→Int→Nat→cS→cR→cS→cR→Prop)(Inv36:OA→Nat→Nat→Int→Nat→cS→cR→cS→cR→Prop)(Inv51:OA→Nat→Nat→Int→OA→Nat→Nat→Int→Nat→cS→cR→cS→cR→Prop)(Inv68:OA→Nat→Nat→Bool→Int→Nat→cS→cR→cS→cR→Prop)(Inv83:OA→Nat→Nat→Int→Int→Bool→Int→Nat→cS→cR→cS→cR→Prop)(Inv103:OA→Nat→Nat→Int→Int→Bool→Int→Nat→cS→cR→cS→cR→Prop)(h:qT.V 5 4 76 80 24 (fun r=>[.int .u8 0,.string (⟨#[]⟩:Bs),.int .u8 0,.int .i64 0,.int .i64 r]) a b c I F Q Inv8 Inv20 Inv36 Inv51 Inv68 Inv83 Inv103):cU P 33 #[.slice a b c] I F Q :=
 tw (A:=(dy [3003,6006,10003,14001,19003,23002,25011,25024,28001,30013] [] [87,88] lR [(8,⟨[(4,(.int .i64))],[],fun fs I0 F0 vs m I F=>match fs,vs with | [],[.int _ y0]=>Inv8 y0 m I0 F0 I F | _,_=>False,[],[]⟩),(20,⟨[(5,(.int .i64))],[],fun fs I0 F0 vs m I F=>match fs,vs with | [.int _ y0],[.int _ y1]=>Inv20 y0 y1 m I0 F0 I F | _,_=>False,[4],[]⟩),(36,⟨[(3,.slc),(6,(.int .i64))],[],fun fs I0 F0 vs m I F=>match fs,vs with | [],[.slice y0 y1 y2,.int _ y3]=>Inv36 y0 y1 y2 y3 m I0 F0 I F | _,_=>False,[],[]⟩),(51,⟨[(7,.slc),(8,(.int .i64))],[],fun fs I0 F0 vs m I F=>match fs,vs with | [.slice y0 y1 y2,.int _ y3],[.slice y4 y5 y6,.int _ y7]=>Inv51 y0 y1 y2 y3 y4 y5 y6 y7 m I0 F0 I F | _,_=>False,[3,6],[]⟩),(68,⟨[(2,.bool),(9,(.int .i64))],[],fun fs I0 F0 vs m I F=>match fs,vs with | [.slice y0 y1 y2],[.bool y3,.int _ y4]=>Inv68 y0 y1 y2 y3 y4 m I0 F0 I F | _,_=>False,[3],[]⟩),(83,⟨[(2,.bool),(11,(.int .i64))],[],fun fs I0 F0 vs m I F=>match fs,vs with | [.slice y0 y1 y2,.int _ y3,.int _ y4],[.bool y5,.int _ y6]=>Inv83 y0 y1 y2 y3 y4 y5 y6 m I0 F0 I F | _,_=>False,[3,9,10],[]⟩),(103,⟨[(2,.bool),(12,(.int .i64))],[],fun fs I0 F0 vs m I F=>match fs,vs with | [.slice y0 y1 y2,.int _ y3,.int _ y4],[.bool y5,.int _ y6]=>Inv103 y0 y1 y2 y3 y4 y5 y6 m I0 F0 I F | _,_=>False,[3,9,10],[]⟩)] [16005,17002] [] [(8,10,[])] [] [] [])) [87,88] func33 h
theorem tC.vc{a:OA}{b c:Nat}{I:cS}{F:cR}{Q:cT}(Inv8:Int→Nat→cS→cR→cS→cR→Prop)(Inv20:Int→Int→Nat→cS→cR→cS→cR→Prop)(Inv36:OA→Nat→Nat→Int→Nat→cS→cR→cS→cR→Prop)(Inv51:OA→Nat→Nat→Int→OA→Nat→Nat→Int→Nat→cS→cR→cS→cR→Prop)(Inv68:OA→Nat→Nat→Bool→Int→Nat→cS→cR→cS→cR→Prop)(Inv83:OA→Nat→Nat→Int→Int→Bool→Int→Nat→cS→cR→cS→cR→Prop)(Inv103:OA→Nat→Nat→Int→Int→Bool→Int→Nat→cS→cR→cS→cR→Prop)(h:qT.V 8 7 64 62 25 (fun r=>[.int .u8 0,.int .u8 0,.int .u8 0,.int .i64 0,.int .u8 0,.string (⟨#[]⟩:Bs),.slice none 0 0,.int .i64 r]) a b c I F Q Inv8 Inv20 Inv36 Inv51 Inv68 Inv83 Inv103):cU P 34 #[.slice a b c] I F Q :=
 tw (A:=(dy [3003,6006,10003,14001,19003,23002,25011,25024,28001,30013] [] [87,88] lR [(8,⟨[(4,(.int .i64))],[],fun fs I0 F0 vs m I F=>match fs,vs with | [],[.int _ y0]=>Inv8 y0 m I0 F0 I F | _,_=>False,[],[]⟩),(20,⟨[(5,(.int .i64))],[],fun fs I0 F0 vs m I F=>match fs,vs with | [.int _ y0],[.int _ y1]=>Inv20 y0 y1 m I0 F0 I F | _,_=>False,[4],[]⟩),(36,⟨[(3,.slc),(6,(.int .i64))],[],fun fs I0 F0 vs m I F=>match fs,vs with | [],[.slice y0 y1 y2,.int _ y3]=>Inv36 y0 y1 y2 y3 m I0 F0 I F | _,_=>False,[],[]⟩),(51,⟨[(7,.slc),(8,(.int .i64))],[],fun fs I0 F0 vs m I F=>match fs,vs with | [.slice y0 y1 y2,.int _ y3],[.slice y4 y5 y6,.int _ y7]=>Inv51 y0 y1 y2 y3 y4 y5 y6 y7 m I0 F0 I F | _,_=>False,[3,6],[]⟩),(68,⟨[(2,.bool),(9,(.int .i64))],[],fun fs I0 F0 vs m I F=>match fs,vs with | [.slice y0 y1 y2],[.bool y3,.int _ y4]=>Inv68 y0 y1 y2 y3 y4 m I0 F0 I F | _,_=>False,[3],[]⟩),(83,⟨[(2,.bool),(11,(.int .i64))],[],fun fs I0 F0 vs m I F=>match fs,vs with | [.slice y0 y1 y2,.int _ y3,.int _ y4],[.bool y5,.int _ y6]=>Inv83 y0 y1 y2 y3 y4 y5 y6 m I0 F0 I F | _,_=>False,[3,9,10],[]⟩),(103,⟨[(2,.bool),(12,(.int .i64))],[],fun fs I0 F0 vs m I F=>match fs,vs with | [.slice y0 y1 y2,.int _ y3,.int _ y4],[.bool y5,.int _ y6]=>Inv103 y0 y1 y2 y3 y4 y5 y6 m I0 F0 I F | _,_=>False,[3,9,10],[]⟩)] [16005,17002] [] [(8,10,[])] [] [] [])) [87,88] func34 h
theorem uL.vc{a:OA}{b c:Nat}{I:cS}{F:cR}{Q:cT}(Inv8:Int→Nat→cS→cR→cS→cR→Prop)(Inv20:Int→Int→Nat→cS→cR→cS→cR→Prop)(Inv36:OA→Nat→Nat→Int→Nat→cS→cR→cS→cR→Prop)(Inv51:OA→Nat→Nat→Int→OA→Nat→Nat→Int→Nat→cS→cR→cS→cR→Prop)(Inv68:OA→Nat→Nat→Bool→Int→Nat→cS→cR→cS→cR→Prop)(Inv83:OA→Nat→Nat→Int→Int→Bool→Int→Nat→cS→cR→cS→cR→Prop)(Inv103:OA→Nat→Nat→Int→Int→Bool→Int→Nat→cS→cR→cS→cR→Prop)(h:qT.V 11 10 104 39 26 (fun r=>[.string (⟨#[]⟩:Bs),.int .u8 0,.int .u8 0,.int .u8 0,.int .u8 0,.int .i64 0,.int .u8 0,.string (⟨#[]⟩:Bs),.slice none 0 0,.int .i64 0,.int .i64 r]) a b c I F Q Inv8 Inv20 Inv36 Inv51 Inv68 Inv83 Inv103):cU P 35 #[.slice a b c] I F Q :=
 tw (A:=(dy [3003,6006,10003,14001,19003,23002,25011,25024,28001,30013] [] [87,88] lR [(8,⟨[(4,(.int .i64))],[],fun fs I0 F0 vs m I F=>match fs,vs with | [],[.int _ y0]=>Inv8 y0 m I0 F0 I F | _,_=>False,[],[]⟩),(20,⟨[(5,(.int .i64))],[],fun fs I0 F0 vs m I F=>match fs,vs with | [.int _ y0],[.int _ y1]=>Inv20 y0 y1 m I0 F0 I F | _,_=>False,[4],[]⟩),(36,⟨[(3,.slc),(6,(.int .i64))],[],fun fs I0 F0 vs m I F=>match fs,vs with | [],[.slice y0 y1 y2,.int _ y3]=>Inv36 y0 y1 y2 y3 m I0 F0 I F | _,_=>False,[],[]⟩),(51,⟨[(7,.slc),(8,(.int .i64))],[],fun fs I0 F0 vs m I F=>match fs,vs with | [.slice y0 y1 y2,.int _ y3],[.slice y4 y5 y6,.int _ y7]=>Inv51 y0 y1 y2 y3 y4 y5 y6 y7 m I0 F0 I F | _,_=>False,[3,6],[]⟩),(68,⟨[(2,.bool),(9,(.int .i64))],[],fun fs I0 F0 vs m I F=>match fs,vs with | [.slice y0 y1 y2],[.bool y3,.int _ y4]=>Inv68 y0 y1 y2 y3 y4 m I0 F0 I F | _,_=>False,[3],[]⟩),(83,⟨[(2,.bool),(11,(.int .i64))],[],fun fs I0 F0 vs m I F=>match fs,vs with | [.slice y0 y1 y2,.int _ y3,.int _ y4],[.bool y5,.int _ y6]=>Inv83 y0 y1 y2 y3 y4 y5 y6 m I0 F0 I F | _,_=>False,[3,9,10],[]⟩),(103,⟨[(2,.bool),(12,(.int .i64))],[],fun fs I0 F0 vs m I F=>match fs,vs with | [.slice y0 y1 y2,.int _ y3,.int _ y4],[.bool y5,.int _ y6]=>Inv103 y0 y1 y2 y3 y4 y5 y6 m I0 F0 I F | _,_=>False,[3,9,10],[]⟩)] [16005,17002] [] [(8,10,[])] [] [] [])) [87,88] func35 h
theorem tD.vc{a:OA}{b c:Nat}{I:cS}{F:cR}{Q:cT}(Inv8:Int→Nat→cS→cR→cS→cR→Prop)(Inv20:Int→Int→Nat→cS→cR→cS→cR→Prop)(Inv36:OA→Nat→Nat→Int→Nat→cS→cR→cS→cR→Prop)(Inv51:OA→Nat→Nat→Int→OA→Nat→Nat→Int→Nat→cS→cR→cS→cR→Prop)(Inv68:OA→Nat→Nat→Bool→Int→Nat→cS→cR→cS→cR→Prop)(Inv83:OA→Nat→Nat→Int→Int→Bool→Int→Nat→cS→cR→cS→cR→Prop)(Inv103:OA→Nat→Nat→Int→Int→Bool→Int→Nat→cS→cR→cS→cR→Prop)(h:qT.V 2 1 106 40 27 (fun r=>[.string (⟨#[]⟩:Bs),.int .i64 r]) a b c I F Q Inv8 Inv20 Inv36 Inv51 Inv68 Inv83 Inv103):cU P 36 #[.slice a b c] I F Q :=
 tw (A:=(dy [3003,6006,10003,14001,19003,23002,25011,25024,28001,30013] [] [87,88] lR [(8,⟨[(4,(.int .i64))],[],fun fs I0 F0 vs m I F=>match fs,vs with | [],[.int _ y0]=>Inv8 y0 m I0 F0 I F | _,_=>False,[],[]⟩),(20,⟨[(5,(.int .i64))],[],fun fs I0 F0 vs m I F=>match fs,vs with | [.int _ y0],[.int _ y1]=>Inv20 y0 y1 m I0 F0 I F | _,_=>False,[4],[]⟩),(36,⟨[(3,.slc),(6,(.int .i64))],[],fun fs I0 F0 vs m I F=>match fs,vs with | [],[.slice y0 y1 y2,.int _ y3]=>Inv36 y0 y1 y2 y3 m I0 F0 I F | _,_=>False,[],[]⟩),(51,⟨[(7,.slc),(8,(.int .i64))],[],fun fs I0 F0 vs m I F=>match fs,vs with | [.slice y0 y1 y2,.int _ y3],[.slice y4 y5 y6,.int _ y7]=>Inv51 y0 y1 y2 y3 y4 y5 y6 y7 m I0 F0 I F | _,_=>False,[3,6],[]⟩),(68,⟨[(2,.bool),(9,(.int .i64))],[],fun fs I0 F0 vs m I F=>match fs,vs with | [.slice y0 y1 y2],[.bool y3,.int _ y4]=>Inv68 y0 y1 y2 y3 y4 m I0 F0 I F | _,_=>False,[3],[]⟩),(83,⟨[(2,.bool),(11,(.int .i64))],[],fun fs I0 F0 vs m I F=>match fs,vs with | [.slice y0 y1 y2,.int _ y3,.int _ y4],[.bool y5,.int _ y6]=>Inv83 y0 y1 y2 y3 y4 y5 y6 m I0 F0 I F | _,_=>False,[3,9,10],[]⟩),(103,⟨[(2,.bool),(12,(.int .i64))],[],fun fs I0 F0 vs m I F=>match fs,vs with | [.slice y0 y1 y2,.int _ y3,.int _ y4],[.bool y5,.int _ y6]=>Inv103 y0 y1 y2 y3 y4 y5 y6 m I0 F0 I F | _,_=>False,[3,9,10],[]⟩)] [16005,17002] [] [(8,10,[])] [] [] [])) [87,88] func36 h
theorem wm.vc{a:OA}{b c:Nat}{I:cS}{F:cR}{Q:cT}(Inv8:Int→Nat→cS→cR→cS→cR→Prop)(Inv20:Int→Int→Nat→cS→cR→cS→cR→Prop)(Inv36:OA→Nat→Nat→Int→Nat→cS→cR→cS→cR→Prop)(Inv51:OA→Nat→Nat→Int→OA→Nat→Nat→Int→Nat→cS→cR→cS→cR→Prop)(Inv68:OA→Nat→Nat→Bool→Int→Nat→cS→cR→cS→cR→Prop)(Inv83:OA→Nat→Nat→Int→Int→Bool→Int→Nat→cS→cR→cS→cR→Prop)(Inv103:OA→Nat→Nat→Int→Int→Bool→Int→Nat→cS→cR→cS→cR→Prop)(h:qT.V 36 35 114 108 30 (fun r=>[.int .u8 0,.int .u8 0,.string (⟨#[]⟩:Bs),.int .u8 0,.int .u8 0,.int .u8 0,.int .i64 0,.int .u8 0,.string (⟨#[]⟩:Bs),.slice none 0 0,.int .i64 0,.int .u8 0,.int .u8 0,.int .u8 0,.int .i64 0,.int .u8 0,.string (⟨#[]⟩:Bs),.slice none 0 0,.int .i64 0,.int .u8 0,.int .u8 0,.int .u8 0,.int .i64 0,.int .u8 0,.string (⟨#[]⟩:Bs),.slice none 0 0,.int .i64 0,.int .u8 0,.int .u8 0,.int .u8 0,.int .i64 0,.int .u8 0,.string (⟨#[]⟩:Bs),.slice none 0 0,.int .i64 0,.int .i64 r]) a b c I F Q Inv8 Inv20 Inv36 Inv51 Inv68 Inv83 Inv103):cU P 37 #[.slice a b c] I F Q :=
 tw (A:=(dy [3003,6006,10003,14001,19003,23002,25011,25024,28001,30013] [] [87,88] lR [(8,⟨[(4,(.int .i64))],[],fun fs I0 F0 vs m I F=>match fs,vs with | [],[.int _ y0]=>Inv8 y0 m I0 F0 I F | _,_=>False,[],[]⟩),(20,⟨[(5,(.int .i64))],[],fun fs I0 F0 vs m I F=>match fs,vs with | [.int _ y0],[.int _ y1]=>Inv20 y0 y1 m I0 F0 I F | _,_=>False,[4],[]⟩),(36,⟨[(3,.slc),(6,(.int .i64))],[],fun fs I0 F0 vs m I F=>match fs,vs with | [],[.slice y0 y1 y2,.int _ y3]=>Inv36 y0 y1 y2 y3 m I0 F0 I F | _,_=>False,[],[]⟩),(51,⟨[(7,.slc),(8,(.int .i64))],[],fun fs I0 F0 vs m I F=>match fs,vs with | [.slice y0 y1 y2,.int _ y3],[.slice y4 y5 y6,.int _ y7]=>Inv51 y0 y1 y2 y3 y4 y5 y6 y7 m I0 F0 I F | _,_=>False,[3,6],[]⟩),(68,⟨[(2,.bool),(9,(.int .i64))],[],fun fs I0 F0 vs m I F=>match fs,vs with | [.slice y0 y1 y2],[.bool y3,.int _ y4]=>Inv68 y0 y1 y2 y3 y4 m I0 F0 I F | _,_=>False,[3],[]⟩),(83,⟨[(2,.bool),(11,(.int .i64))],[],fun fs I0 F0 vs m I F=>match fs,vs with | [.slice y0 y1 y2,.int _ y3,.int _ y4],[.bool y5,.int _ y6]=>Inv83 y0 y1 y2 y3 y4 y5 y6 m I0 F0 I F | _,_=>False,[3,9,10],[]⟩),(103,⟨[(2,.bool),(12,(.int .i64))],[],fun fs I0 F0 vs m I F=>match fs,vs with | [.slice y0 y1 y2,.int _ y3,.int _ y4],[.bool y5,.int _ y6]=>Inv103 y0 y1 y2 y3 y4 y5 y6 m I0 F0 I F | _,_=>False,[3,9,10],[]⟩)] [16005,17002] [] [(8,10,[])] [] [] [])) [87,88] func37 h
theorem tE.vc{a:OA}{b c:Nat}{I:cS}{F:cR}{Q:cT}(Inv8:Int→Nat→cS→cR→cS→cR→Prop)(Inv20:Int→Int→Nat→cS→cR→cS→cR→Prop)(Inv36:OA→Nat→Nat→Int→Nat→cS→cR→cS→cR→Prop)(Inv51:OA→Nat→Nat→Int→OA→Nat→Nat→Int→Nat→cS→cR→cS→cR→Prop)(Inv68:OA→Nat→Nat→Bool→Int→Nat→cS→cR→cS→cR→Prop)(Inv83:OA→Nat→Nat→Int→Int→Bool→Int→Nat→cS→cR→cS→cR→Prop)(Inv103:OA→Nat→Nat→Int→Int→Bool→Int→Nat→cS→cR→cS→cR→Prop)(h:qT.V 10 9 110 86 29 (fun r=>[.int .u8 0,.int .u8 0,.int .u8 0,.int .i64 0,.int .u8 0,.string (⟨#[]⟩:Bs),.slice none 0 0,.int .i64 0,.slice none 0 0,.int .i64 r]) a b c I F Q Inv8 Inv20 Inv36 Inv51 Inv68 Inv83 Inv103):cU P 38 #[.slice a b c] I F Q :=
 tw (A:=(dy [3003,6006,10003,14001,19003,23002,25011,25024,28001,30013] [] [87,88] lR [(8,⟨[(4,(.int .i64))],[],fun fs I0 F0 vs m I F=>match fs,vs with | [],[.int _ y0]=>Inv8 y0 m I0 F0 I F | _,_=>False,[],[]⟩),(20,⟨[(5,(.int .i64))],[],fun fs I0 F0 vs m I F=>match fs,vs with | [.int _ y0],[.int _ y1]=>Inv20 y0 y1 m I0 F0 I F | _,_=>False,[4],[]⟩),(36,⟨[(3,.slc),(6,(.int .i64))],[],fun fs I0 F0 vs m I F=>match fs,vs with | [],[.slice y0 y1 y2,.int _ y3]=>Inv36 y0 y1 y2 y3 m I0 F0 I F | _,_=>False,[],[]⟩),(51,⟨[(7,.slc),(8,(.int .i64))],[],fun fs I0 F0 vs m I F=>match fs,vs with | [.slice y0 y1 y2,.int _ y3],[.slice y4 y5 y6,.int _ y7]=>Inv51 y0 y1 y2 y3 y4 y5 y6 y7 m I0 F0 I F | _,_=>False,[3,6],[]⟩),(68,⟨[(2,.bool),(9,(.int .i64))],[],fun fs I0 F0 vs m I F=>match fs,vs with | [.slice y0 y1 y2],[.bool y3,.int _ y4]=>Inv68 y0 y1 y2 y3 y4 m I0 F0 I F | _,_=>False,[3],[]⟩),(83,⟨[(2,.bool),(11,(.int .i64))],[],fun fs I0 F0 vs m I F=>match fs,vs with | [.slice y0 y1 y2,.int _ y3,.int _ y4],[.bool y5,.int _ y6]=>Inv83 y0 y1 y2 y3 y4 y5 y6 m I0 F0 I F | _,_=>False,[3,9,10],[]⟩),(103,⟨[(2,.bool),(12,(.int .i64))],[],fun fs I0 F0 vs m I F=>match fs,vs with | [.slice y0 y1 y2,.int _ y3,.int _ y4],[.bool y5,.int _ y6]=>Inv103 y0 y1 y2 y3 y4 y5 y6 m I0 F0 I F | _,_=>False,[3,9,10],[]⟩)] [16005,17002] [] [(8,10,[])] [] [] [])) [87,88] func38 h
theorem rN.vc{a:OA}{b c:Nat}{I:cS}{F:cR}{Q:cT}(Inv8:Int→Nat→cS→cR→cS→cR→Prop)(Inv20:Int→Int→Nat→cS→cR→cS→cR→Prop)(Inv36:OA→Nat→Nat→Int→Nat→cS→cR→cS→cR→Prop)(Inv51:OA→Nat→Nat→Int→OA→Nat→Nat→Int→Nat→cS→cR→cS→cR→Prop)(Inv68:OA→Nat→Nat→Bool→Int→Nat→cS→cR→cS→cR→Prop)(Inv83:OA→Nat→Nat→Int→Int→Bool→Int→Nat→cS→cR→cS→cR→Prop)(Inv103:OA→Nat→Nat→Int→Int→Bool→Int→Nat→cS→cR→cS→cR→Prop)(h:qT.V 3 2 88 41 28 (fun r=>[.string (⟨#[]⟩:Bs),.slice none 0 0,.int .i64 r]) a b c I F Q Inv8 Inv20 Inv36 Inv51 Inv68 Inv83 Inv103):cU P 39 #[.slice a b c] I F Q :=
 tw (A:=(dy [3003,6006,10003,14001,19003,23002,25011,25024,28001,30013] [] [87,88] lR [(8,⟨[(4,(.int .i64))],[],fun fs I0 F0 vs m I F=>match fs,vs with | [],[.int _ y0]=>Inv8 y0 m I0 F0 I F | _,_=>False,[],[]⟩),(20,⟨[(5,(.int .i64))],[],fun fs I0 F0 vs m I F=>match fs,vs with | [.int _ y0],[.int _ y1]=>Inv20 y0 y1 m I0 F0 I F | _,_=>False,[4],[]⟩),(36,⟨[(3,.slc),(6,(.int .i64))],[],fun fs I0 F0 vs m I F=>match fs,vs with | [],[.slice y0 y1 y2,.int _ y3]=>Inv36 y0 y1 y2 y3 m I0 F0 I F | _,_=>False,[],[]⟩),(51,⟨[(7,.slc),(8,(.int .i64))],[],fun fs I0 F0 vs m I F=>match fs,vs with | [.slice y0 y1 y2,.int _ y3],[.slice y4 y5 y6,.int _ y7]=>Inv51 y0 y1 y2 y3 y4 y5 y6 y7 m I0 F0 I F | _,_=>False,[3,6],[]⟩),(68,⟨[(2,.bool),(9,(.int .i64))],[],fun fs I0 F0 vs m I F=>match fs,vs with | [.slice y0 y1 y2],[.bool y3,.int _ y4]=>Inv68 y0 y1 y2 y3 y4 m I0 F0 I F | _,_=>False,[3],[]⟩),(83,⟨[(2,.bool),(11,(.int .i64))],[],fun fs I0 F0 vs m I F=>match fs,vs with | [.slice y0 y1 y2,.int _ y3,.int _ y4],[.bool y5,.int _ y6]=>Inv83 y0 y1 y2 y3 y4 y5 y6 m I0 F0 I F | _,_=>False,[3,9,10],[]⟩),(103,⟨[(2,.bool),(12,(.int .i64))],[],fun fs I0 F0 vs m I F=>match fs,vs with | [.slice y0 y1 y2,.int _ y3,.int _ y4],[.bool y5,.int _ y6]=>Inv103 y0 y1 y2 y3 y4 y5 y6 m I0 F0 I F | _,_=>False,[3,9,10],[]⟩)] [16005,17002] [] [(8,10,[])] [] [] [])) [87,88] func39 h
theorem rO.vc{a:OA}{b c:Nat}{I:cS}{F:cR}{Q:cT}(Inv8:Int→Nat→cS→cR→cS→cR→Prop)(Inv20:Int→Int→Nat→cS→cR→cS→cR→Prop)(Inv36:OA→Nat→Nat→Int→Nat→cS→cR→cS→cR→Prop)(Inv51:OA→Nat→Nat→Int→OA→Nat→Nat→Int→Nat→cS→cR→cS→cR→Prop)(Inv68:OA→Nat→Nat→Bool→Int→Nat→cS→cR→cS→cR→Prop)(Inv83:OA→Nat→Nat→Int→Int→Bool→Int→Nat→cS→cR→cS→cR→Prop)(Inv103:OA→Nat→Nat→Int→Int→Bool→Int→Nat→cS→cR→cS→cR→Prop)(h:qT.V 2 1 174 171 31 (fun r=>[.int .u8 0,.int .i64 r]) a b c I F Q Inv8 Inv20 Inv36 Inv51 Inv68 Inv83 Inv103):cU P 40 #[.slice a b c] I F Q :=
 tw (A:=(dy [3003,6006,10003,14001,19003,23002,25011,25024,28001,30013] [] [87,88] lR [(8,⟨[(4,(.int .i64))],[],fun fs I0 F0 vs m I F=>match fs,vs with | [],[.int _ y0]=>Inv8 y0 m I0 F0 I F | _,_=>False,[],[]⟩),(20,⟨[(5,(.int .i64))],[],fun fs I0 F0 vs m I F=>match fs,vs with | [.int _ y0],[.int _ y1]=>Inv20 y0 y1 m I0 F0 I F | _,_=>False,[4],[]⟩),(36,⟨[(3,.slc),(6,(.int .i64))],[],fun fs I0 F0 vs m I F=>match fs,vs with | [],[.slice y0 y1 y2,.int _ y3]=>Inv36 y0 y1 y2 y3 m I0 F0 I F | _,_=>False,[],[]⟩),(51,⟨[(7,.slc),(8,(.int .i64))],[],fun fs I0 F0 vs m I F=>match fs,vs with | [.slice y0 y1 y2,.int _ y3],[.slice y4 y5 y6,.int _ y7]=>Inv51 y0 y1 y2 y3 y4 y5 y6 y7 m I0 F0 I F | _,_=>False,[3,6],[]⟩),(68,⟨[(2,.bool),(9,(.int .i64))],[],fun fs I0 F0 vs m I F=>match fs,vs with | [.slice y0 y1 y2],[.bool y3,.int _ y4]=>Inv68 y0 y1 y2 y3 y4 m I0 F0 I F | _,_=>False,[3],[]⟩),(83,⟨[(2,.bool),(11,(.int .i64))],[],fun fs I0 F0 vs m I F=>match fs,vs with | [.slice y0 y1 y2,.int _ y3,.int _ y4],[.bool y5,.int _ y6]=>Inv83 y0 y1 y2 y3 y4 y5 y6 m I0 F0 I F | _,_=>False,[3,9,10],[]⟩),(103,⟨[(2,.bool),(12,(.int .i64))],[],fun fs I0 F0 vs m I F=>match fs,vs with | [.slice y0 y1 y2,.int _ y3,.int _ y4],[.bool y5,.int _ y6]=>Inv103 y0 y1 y2 y3 y4 y5 y6 m I0 F0 I F | _,_=>False,[3,9,10],[]⟩)] [16005,17002] [] [(8,10,[])] [] [] [])) [87,88] func40 h
theorem uM.vc{a:OA}{b c:Nat}{I:cS}{F:cR}{Q:cT}(Inv8:Int→Nat→cS→cR→cS→cR→Prop)(Inv20:Int→Int→Nat→cS→cR→cS→cR→Prop)(Inv36:OA→Nat→Nat→Int→Nat→cS→cR→cS→cR→Prop)(Inv51:OA→Nat→Nat→Int→OA→Nat→Nat→Int→Nat→cS→cR→cS→cR→Prop)(Inv68:OA→Nat→Nat→Bool→Int→Nat→cS→cR→cS→cR→Prop)(Inv83:OA→Nat→Nat→Int→Int→Bool→Int→Nat→cS→cR→cS→cR→Prop)(Inv103:OA→Nat→Nat→Int→Int→Bool→Int→Nat→cS→cR→cS→cR→Prop)(h:qT.V 11 2 179 175 33 (fun r=>[.int .u8 0,.int .u8 0,.int .i64 r,.int .i64 0,.int .i64 0,.int .i64 0,.int .i64 0,.int .i64 0,.int .i64 0,.int .i64 0,.int .i64 0]) a b c I F Q Inv8 Inv20 Inv36 Inv51 Inv68 Inv83 Inv103):cU P 41 #[.slice a b c] I F Q :=
 tw (A:=(dy [3003,6006,10003,14001,19003,23002,25011,25024,28001,30013] [] [87,88] lR [(8,⟨[(4,(.int .i64))],[],fun fs I0 F0 vs m I F=>match fs,vs with | [],[.int _ y0]=>Inv8 y0 m I0 F0 I F | _,_=>False,[],[]⟩),(20,⟨[(5,(.int .i64))],[],fun fs I0 F0 vs m I F=>match fs,vs with | [.int _ y0],[.int _ y1]=>Inv20 y0 y1 m I0 F0 I F | _,_=>False,[4],[]⟩),(36,⟨[(3,.slc),(6,(.int .i64))],[],fun fs I0 F0 vs m I F=>match fs,vs with | [],[.slice y0 y1 y2,.int _ y3]=>Inv36 y0 y1 y2 y3 m I0 F0 I F | _,_=>False,[],[]⟩),(51,⟨[(7,.slc),(8,(.int .i64))],[],fun fs I0 F0 vs m I F=>match fs,vs with | [.slice y0 y1 y2,.int _ y3],[.slice y4 y5 y6,.int _ y7]=>Inv51 y0 y1 y2 y3 y4 y5 y6 y7 m I0 F0 I F | _,_=>False,[3,6],[]⟩),(68,⟨[(2,.bool),(9,(.int .i64))],[],fun fs I0 F0 vs m I F=>match fs,vs with | [.slice y0 y1 y2],[.bool y3,.int _ y4]=>Inv68 y0 y1 y2 y3 y4 m I0 F0 I F | _,_=>False,[3],[]⟩),(83,⟨[(2,.bool),(11,(.int .i64))],[],fun fs I0 F0 vs m I F=>match fs,vs with | [.slice y0 y1 y2,.int _ y3,.int _ y4],[.bool y5,.int _ y6]=>Inv83 y0 y1 y2 y3 y4 y5 y6 m I0 F0 I F | _,_=>False,[3,9,10],[]⟩),(103,⟨[(2,.bool),(12,(.int .i64))],[],fun fs I0 F0 vs m I F=>match fs,vs with | [.slice y0 y1 y2,.int _ y3,.int _ y4],[.bool y5,.int _ y6]=>Inv103 y0 y1 y2 y3 y4 y5 y6 m I0 F0 I F | _,_=>False,[3,9,10],[]⟩)] [16005,17002] [] [(8,10,[])] [] [] [])) [87,88] func41 h
def iS.V(vi:Int→Value)(vl:OA→Nat→Nat→Value)(vt:Bool→Value)(wr:Int→Int)(h:OA)(f aR:Nat)(I:cS)(F:cR)(Q:cT)(Inv8:Int→Nat→cS→cR→cS→cR→Prop)(Inv20:Int→Int→Nat→cS→cR→cS→cR→Prop)(Inv36:OA→Nat→Nat→Int→Nat→cS→cR→cS→cR→Prop)(Inv51:OA→Nat→Nat→Int→OA→Nat→Nat→Int→Nat→cS→cR→cS→cR→Prop)(Inv68:OA→Nat→Nat→Bool→Int→Nat→cS→cR→cS→cR→Prop)(Inv83:OA→Nat→Nat→Int→Int→Bool→Int→Nat→cS→cR→cS→cR→Prop)(Inv103:OA→Nat→Nat→Int→Int→Bool→Int→Nat→cS→cR→cS→cR→Prop):Prop:=(∃m:Nat,Inv8 0 m I F I F)∧∀(i:Int) (m1:Nat) (I1:cS) (F1:cR),cS.le I I1→Inv8 i m1 I F I1 F1→(Dt (i<(f:Int)) ((∃m2:Nat,Inv20 i 0 m2 I1 F1 I1 F1)∧∀(k:Int) (m3:Nat) (I2:cS) (F2:cR),cS.le I1 I2→Inv20 i k m3 I1 F1 I2 F2→((0≤i∧i<(f:Int))∧∃ad:Addr,h=some ad∧∃(aM:OA) (j aN:Nat),Rd I2 F2 (ad.add (Int.toNat i*1)) [vl aM j aN]∧(Dt (k<(j:Int)) ((0≤i∧i<(f:Int))∧∃ar:Addr,h=some ar∧∃(l:OA) (n aG:Nat),Rd I2 F2 (ar.add (Int.toNat i*1)) [vl l n aG]∧∃(r:Int),(cU P 87 #[vi i,vi k] I2 F2 fun e1 I3 G1=>e1=.returned (vi r)∧List.Perm G1 F2)∧((0≤k∧k<(n:Int))∧∃g:Addr,l=some g∧∃(cs:List Value) (el:Nat) (F3:cR),List.Perm F2 (((((g.add (Int.toNat k*5)).add 0).add 0).block,Obj.cells cs.toArray el (0,0))::F3)∧(((g.add (Int.toNat k*5)).add 0).add 0).spot=none∧(((g.add (Int.toNat k*5)).add 0).add 0).off+1≤cs.length∧(∃m4:Nat,m4<m3∧Inv20 i (wr (k+1)) m4 I1 F1 I2 (((((g.add (Int.toNat k*5)).add 0).add 0).block,Obj.cells (cY (((g.add (Int.toNat k*5)).add 0).add 0).off [vi r] cs).toArray el (0,0))::F3)))) (∃m5:Nat,m5<m1∧Inv8 (wr (i+1)) m5 I F I2 F2)))) ((∃m6:Nat,Inv36 none 0 0 0 m6 I1 F1 I1 F1)∧∀(a:OA) (c d:Nat) (i1:Int) (m7:Nat) (I4:cS) (F4:cR),cS.le I1 I4→Inv36 a c d i1 m7 I1 F1 I4 F4→(Dt (i1<(f:Int)) ((0≤i1∧i1<(f:Int))∧∃au:Addr,h=some au∧∃(o:OA) (p q:Nat),Rd I4 F4 (au.add (Int.toNat i1*1)) [vl o p q]∧(∃m8:Nat,Inv51 a c d i1 o p q 0 m8 I4 F4 I4 F4)∧∀(s:OA) (t u:Nat) (k1:Int) (m9:Nat) (I5:cS) (F5:cR),cS.le I4 I5→Inv51 a c d i1 s t u k1 m9 I4 F4 I5 F5→(Dt (k1<8) (dt P 88 #[vi i1,vi k1] I5 (·) F5 vi fun r1 I6 F6=>∀(b:Nat) (I7:cS),cS.le I6 I7→I7 b=some (Obj.cells #[vi r1,vi 0,.int .u16 0,.int .u16 0,vl none 0 0] 184 (0,0))→dk P (Builtin.append_ #[180,180] 180 #[vl s t u,vl (some ⟨b,0,none⟩) 1 1]) I7 F6 fun v I8 G3=>∃(al:OA) (am an:Nat),v=vl al am an∧∃F7:cR,List.Perm G3 F7∧(∃av:Nat,av<m9∧Inv51 a c d i1 al am an (wr (k1+1)) av I4 F4 I8 F7)) (∀(b1:Nat) (I9:cS),cS.le I5 I9→I9 b1=some (Obj.cells #[vl s t u] 180 (0,0))→dk P (Builtin.append_ #[32,32] 32 #[vl a c d,vl (some ⟨b1,0,none⟩) 1 1]) I9 F5 fun v1 I10 G4=>∃(w:OA) (y z:Nat),v1=vl w y z∧∃F8:cR,List.Perm G4 F8∧(∃aw:Nat,aw<m7∧Inv36 w y z (wr (i1+1)) aw I1 F1 I10 F8)))) ((∃aO:Nat,Inv68 a c d false 0 aO I4 F4 I4 F4)∧∀(x:Bool) (i2:Int) (ao:Nat) (I11:cS) (F9:cR),cS.le I4 I11→Inv68 a c d x i2 ao I4 F4 I11 F9→(Dt (i2<(f:Int)) ((0≤i2∧i2<(f:Int))∧∃ax:Addr,h=some ax∧∃(aH:OA) (e aI:Nat),Rd I11 F9 (ax.add (Int.toNat i2*1)) [vl aH e aI]∧(∃aP:Nat,Inv83 a c d i2 (e:Int) x 0 aP I11 F9 I11 F9)∧∀(x1:Bool) (k2:Int) (ap:Nat) (I12:cS) (F10:cR),cS.le I11 I12→Inv83 a c d i2 (e:Int) x1 k2 ap I11 F9 I12 F10→(Dt (k2<(e:Int)) ((0≤i2∧i2<(f:Int))∧∃ay:Addr,h=some ay∧∃(aa:OA) (ab aJ:Nat),Rd I12 F10 (ay.add (Int.toNat i2*1)) [vl aa ab aJ]∧((0≤k2∧k2<(ab:Int))∧∃az:Addr,aa=some az∧∃(ac:Int),Rd I12 F10 (((az.add (Int.toNat k2*5)).add 0).add 0) [vi ac]∧∃(r2:Int),(cU P 87 #[vi i2,vi k2] I12 F10 fun e3 I13 G5=>e3=.returned (vi r2)∧List.Perm G5 F10)∧(It (ac != r2) (Q (.returned (vt false)) I12 F10) ((0≤i2∧i2<(c:Int))∧∃aA:Addr,a=some aA∧∃(ae:OA) (af aK:Nat),Rd I12 F10 (aA.add (Int.toNat i2*1)) [vl ae af aK]∧((0≤k2∧k2<(af:Int))∧∃aB:Addr,ae=some aB∧∃(ag:Int),Rd I12 F10 (((aB.add (Int.toNat k2*5)).add 0).add 0) [vi ag]∧∃(r3:Int),(cU P 87 #[vi i2,vi k2] I12 F10 fun e4 I14 G6=>e4=.returned (vi r3)∧List.Perm G6 F10)∧(It (ag != r3) (Q (.returned (vt false)) I12 F10) (∃aC:Nat,aC<ap∧Inv83 a c d i2 (e:Int) x1 (wr (k2+1)) aC I11 F9 I12 F10))))))) ((∃aQ:Nat,Inv103 a c d i2 (e:Int) x1 0 aQ I12 F10 I12 F10)∧∀(x2:Bool) (k3:Int) (aq:Nat) (I15:cS) (F11:cR),cS.le I12 I15→Inv103 a c d i2 (e:Int) x2 k3 aq I12 F10 I15 F11→(Dt (k3<8) ((0≤i2∧i2<(c:Int))∧∃aD:Addr,a=some aD∧∃(ah:OA) (ai aL:Nat),Rd I15 F11 (aD.add (Int.toNat i2*1)) [vl ah ai aL]∧((0≤(wr ((e:Int)+k3))∧(wr ((e:Int)+k3))<(ai:Int))∧∃ak:Addr,ah=some ak∧∃(aj:Int),Rd I15 F11 (((ak.add (Int.toNat (wr ((e:Int)+k3))*5)).add 0).add 0) [vi aj]∧∃(r4:Int),(cU P 88 #[vi i2,vi k3] I15 F11 fun e5 I16 G7=>e5=.returned (vi r4)∧List.Perm G7 F11)∧(It (aj != r4) (Q (.returned (vt false)) I15 F11) (∃aE:Nat,aE<aq∧Inv103 a c d i2 (e:Int) x2 (wr (k3+1)) aE I12 F10 I15 F11)))) (∃aF:Nat,aF<ao∧Inv68 a c d x2 (wr (i2+1)) aF I4 F4 I15 F11))))) (Q (.returned (vt true)) I11 F9))))))
theorem iS.vc{a:OA}{b c:Nat}{I:cS}{F:cR}{Q:cT}(Inv8:Int→Nat→cS→cR→cS→cR→Prop)(Inv20:Int→Int→Nat→cS→cR→cS→cR→Prop)(Inv36:OA→Nat→Nat→Int→Nat→cS→cR→cS→cR→Prop)(Inv51:OA→Nat→Nat→Int→OA→Nat→Nat→Int→Nat→cS→cR→cS→cR→Prop)(Inv68:OA→Nat→Nat→Bool→Int→Nat→cS→cR→cS→cR→Prop)(Inv83:OA→Nat→Nat→Int→Int→Bool→Int→Nat→cS→cR→cS→cR→Prop)(Inv103:OA→Nat→Nat→Int→Int→Bool→Int→Nat→cS→cR→cS→cR→Prop)(h:iS.V (.int .i64) .slice .bool (IntKind.wrap .i64) a b c I F Q Inv8 Inv20 Inv36 Inv51 Inv68 Inv83 Inv103):cU P 42 #[.slice a b c] I F Q :=
 tw (A:=(dy [3003,6006,10003,14001,19003,23002,25012,25026,28001,30014] [] [87,88] lR [(8,⟨[(4,(.int .i64))],[],fun fs I0 F0 vs m I F=>match fs,vs with | [],[.int _ y0]=>Inv8 y0 m I0 F0 I F | _,_=>False,[],[]⟩),(20,⟨[(5,(.int .i64))],[],fun fs I0 F0 vs m I F=>match fs,vs with | [.int _ y0],[.int _ y1]=>Inv20 y0 y1 m I0 F0 I F | _,_=>False,[4],[]⟩),(36,⟨[(3,.slc),(6,(.int .i64))],[],fun fs I0 F0 vs m I F=>match fs,vs with | [],[.slice y0 y1 y2,.int _ y3]=>Inv36 y0 y1 y2 y3 m I0 F0 I F | _,_=>False,[],[]⟩),(51,⟨[(7,.slc),(8,(.int .i64))],[],fun fs I0 F0 vs m I F=>match fs,vs with | [.slice y0 y1 y2,.int _ y3],[.slice y4 y5 y6,.int _ y7]=>Inv51 y0 y1 y2 y3 y4 y5 y6 y7 m I0 F0 I F | _,_=>False,[3,6],[]⟩),(68,⟨[(2,.bool),(9,(.int .i64))],[],fun fs I0 F0 vs m I F=>match fs,vs with | [.slice y0 y1 y2],[.bool y3,.int _ y4]=>Inv68 y0 y1 y2 y3 y4 m I0 F0 I F | _,_=>False,[3],[]⟩),(83,⟨[(2,.bool),(11,(.int .i64))],[],fun fs I0 F0 vs m I F=>match fs,vs with | [.slice y0 y1 y2,.int _ y3,.int _ y4],[.bool y5,.int _ y6]=>Inv83 y0 y1 y2 y3 y4 y5 y6 m I0 F0 I F | _,_=>False,[3,9,10],[]⟩),(103,⟨[(2,.bool),(12,(.int .i64))],[],fun fs I0 F0 vs m I F=>match fs,vs with | [.slice y0 y1 y2,.int _ y3,.int _ y4],[.bool y5,.int _ y6]=>Inv103 y0 y1 y2 y3 y4 y5 y6 m I0 F0 I F | _,_=>False,[3,9,10],[]⟩)] [16006,17002] [] [(8,11,[])] [] [] [])) [87,88] func42 h
end Go.Lx
namespace Go.Lx
open Go.Vc
theorem ir{z o E S S1 B f:Nat}{zv:Value}{nw:Int→List Value}(hvc:∀{la:Option Addr} {ln lc:Nat} {I:cS} {F:cR} {Q:cT} (Inv8:Int→Nat→cS→cR→cS→cR→Prop) (Inv20:Int→Int→Nat→cS→cR→cS→cR→Prop) (Inv36:Option Addr→Nat→Nat→Int→Nat→cS→cR→cS→cR→Prop) (Inv51:Option Addr→Nat→Nat→Int→Option Addr→Nat→Nat→Int→Nat→cS→cR→cS→cR→Prop) (Inv68:Option Addr→Nat→Nat→Bool→Int→Nat→cS→cR→cS→cR→Prop) (Inv83:Option Addr→Nat→Nat→Int→Int→Bool→Int→Nat→cS→cR→cS→cR→Prop) (Inv103:Option Addr→Nat→Nat→Int→Int→Bool→Int→Nat→cS→cR→cS→cR→Prop),qT.V z o E S S1 nw la ln lc I F Q Inv8 Inv20 Inv36 Inv51 Inv68 Inv83 Inv103→cU P f #[.slice la ln lc] I F Q)
  (ho:o<z) (hnl:∀v,(nw v).length=z) (hno:∀v,(nw v)[o]? = some (.int .i64 v)) (hn1:∀v,∀u∈nw v,u.oneCell'=true) (h1:P.underlying S=some (.slice E)) (h2:(P.info? E).map (fun i=>(i.zero,i.size,i.bytes))=some (some zv,z,B)) (hzs:zv.cells.size=z) (hB:1≤B) (hB2:B≤1000)
  (h3:P.underlying S1=some (.slice S)) (h4:(P.info? S).map (fun i=>(i.zero,i.size,i.bytes))=some (some (.slice none 0 0),1,24))
  {rs:List Row} {ls:List (List (Ck z))} {H F:cR} {la:Option Addr} {ln lc:Nat} {I:cS} (hS:Sl I 1 Row.enc la ln rs) (hH:dX z E rs ls H) (hb:Bd ls) (hrs:rs.length≤1000000000) :
  cU P f #[.slice la ln lc] I (H++F) fun e I' G=>e=.returned (.bool true)∧G=F:=by
 refine rV.keep ?_
 have hln:=hS.1
 refine hvc
  (fun i m I0 F0 I' F'=>0≤i∧i≤ln∧m=(ln-i).toNat∧∃ls H,dX z E rs ls H∧F'.Perm (H++F)∧Bd ls∧∀(j:Nat) l,(j:Int)<i→ls[j]? = some l→iM o qB j l)
  (fun i k m I0 F0 I' F'=>0≤i∧0≤k∧∃r,rs[i.toNat]? = some r∧k≤r.n∧m=(r.n-k).toNat∧∃ls H,dX z E rs ls H∧F'.Perm (H++F)∧Bd ls∧(∀(j:Nat) l,(j:Int)<i→ls[j]? = some l→iM o qB j l) ∧
    ∀l,ls[i.toNat]? = some l→Cq o qB i k l)
  (fun a n c i m I0 F0 I' F'=>0≤i∧i≤ln∧m=(ln-i).toNat∧∃ls H xs Al,dX z E (rs.drop i.toNat) (ls.drop i.toNat) H∧Acc 1 Row.enc S a n c xs Al∧F'.Perm (Al++(H++F))∧(xs.length:Int)=i∧Bd ls ∧
    (∀(j:Nat) l,ls[j]? = some l→iM o qB j l)∧∀(j:Nat) r x,(j:Int)<i→rs[j]? = some r→xs[j]? = some x→qM (z:=z) o 8 qB zm I' j r x)
  (fun a n c i xa xn xc k m I0 F0 I' F'=>0≤i∧i<ln∧0≤k∧k≤8∧m=(8-k).toNat∧∃(ls:List (List (Ck z))) (H:cR) (xs:List Row) (Al:cR) (r:Row) (l t:List (Ck z)) (A:cR),rs[i.toNat]? = some r∧dX z E (rs.drop (i.toNat+1)) (ls.drop (i.toNat+1)) H∧Acc 1 Row.enc S a n c xs Al ∧
    Acc z cv E xa xn xc (l++t) A∧F'.Perm (A++(Al++(H++F)))∧(xs.length:Int)=i∧Bd ls∧(∀(j:Nat) l,ls[j]? = some l→iM o qB j l)∧iM o qB i l∧(t.length:Int)=k∧iM o zm i t∧r.n=l.length∧l.length≤1000000000 ∧
    (xa=r.a∨Sl I' z cv r.a r.n l)∧∀(j:Nat) r x,(j:Int)<i→rs[j]? = some r→xs[j]? = some x→qM (z:=z) o 8 qB zm I' j r x)
  (fun a n c x i m I0 F0 I' F'=>0≤i∧i≤ln∧m=(ln-i).toNat∧(∃A,F'.Perm (A++F))∧∃xs,kq I' F' 1 Row.enc a n xs∧xs.length=ln∧∀(j:Nat) r x,rs[j]? = some r→xs[j]? = some x→qM (z:=z) o 8 qB zm I' j r x)
  (fun a n c i nn x k m I0 F0 I' F'=>0≤i∧i<ln∧0≤k∧(∃r,rs[i.toNat]? = some r∧nn=r.n∧r.n≤1000000000∧k≤r.n∧m=(r.n-k).toNat)∧(∃A,F'.Perm (A++F))∧∃xs,kq I' F' 1 Row.enc a n xs∧xs.length=ln∧∀(j:Nat) r x,rs[j]? = some r→xs[j]? = some x→qM (z:=z) o 8 qB zm I' j r x)
  (fun a n c i nn x k m I0 F0 I' F'=>0≤i∧i<ln∧0≤k∧k≤8∧m=(8-k).toNat∧(∃r,rs[i.toNat]? = some r∧nn=r.n∧r.n≤1000000000)∧(∃A,F'.Perm (A++F))∧∃xs,kq I' F' 1 Row.enc a n xs∧xs.length=ln∧∀(j:Nat) r x,rs[j]? = some r→xs[j]? = some x→qM (z:=z) o 8 qB zm I' j r x) ?_
 unfold qT.V
 refine⟨⟨_,by omega,by omega,rfl,ls,H,hH,.refl _,hb,fun j l hj=>by omega⟩, ?_⟩
 intro i m1 I1 F1 hI1 ⟨i0,i1,im,ls1,H1,hH1,hp1,hb1,hm1⟩
 have hS1:=hS.mono hI1
 refine⟨fun hlt=>?_,fun hlt=>?_⟩
 ·-- the marks of row i
  have hlt:=of_decide_eq_true hlt
  obtain⟨ad,r,had,hr,hrd⟩:=hS1.at (i:=i) i0 (by omega)
  refine⟨⟨_,i0,by omega,r,hr,by omega,rfl,ls1,H1,hH1,hp1,hb1,hm1,fun l _ q x _ hq=>by omega⟩, ?_⟩
  intro k m3 I2 F2 hI2 ⟨_,k0,r',hr',k1,km,ls2,H2,hH2,hp2,hb2,hm2,hmk⟩
  obtain rfl:r=r':=by rw[hr] at hr';exact Option.some.inj hr'
  have hrd2:=fun G=>(hrd G).mono hI2
  refine⟨⟨i0,by omega⟩,ad,had,_,_,_,hrd2 _,fun hk=>?_,fun hk=>?_⟩
  ·have hk:=of_decide_eq_true hk
   refine⟨⟨i0,by omega⟩,ad,had,_,_,_,hrd2 _,lC i k,(ox i k I2 _).mono fun e I' G _ ⟨h1,h2⟩=>⟨h1,by rw[h2]⟩,⟨k0,by omega⟩, ?_⟩
   obtain⟨l,A,R,hl,hA,hpA,hset⟩:=hH2.focus hr
   obtain⟨b,cs,ha,hAe,hlen,hA'⟩:=hA.put (k:=k.toNat) (o:=o) (by omega) ho (qB i k)
   obtain⟨H3,hH3,hp3⟩:=hset _ _ hA'
   subst hAe
   refine⟨⟨b,0,none⟩,ha,cs,E,R++F, ?_, ?_, ?_,m3-1,by omega, ?_⟩
   ·rw[add_add];exact hp2.trans (List.Perm.append_right F hpA)
   ·rw[add_add]
   ·rw[add_add];exact hlen
   ·rw[add_add,ew (by have:=hb2 _ _ hl;have:=hA.1;omega)]
    refine⟨i0,by omega,r,hr,by omega,by omega,_,H3,hH3, ?_,hb2.set hl _,vo hm2 _ i0,fun l' hl'=>?_⟩
    ·exact (List.Perm.append_right F hp3).symm
    ·have hlt2:i.toNat<ls2.length:=(List.getElem?_eq_some_iff.1 hl).1
     rw[List.getElem?_set_self hlt2] at hl'
     obtain rfl:l.modify k.toNat (Bj o (qB i k))=l':=Option.some.inj hl'
     exact (hmk l hl).step ho k0
  ·have hk:=of_decide_eq_false hk
   rw[ew (by omega)]
   refine⟨_, ?_,by omega,by omega,rfl,ls2,H2,hH2,hp2,hb2,fun j l hj hl=>?_⟩
   ·omega
   ·rcases Int.lt_or_eq_of_le (Int.lt_add_one_iff.1 hj) with h | h
    ·exact hm2 j l h hl
    ·have hji:j=i.toNat:=by omega
     subst hji
     have hmk':=hmk l hl
     obtain⟨l',A,R,hl',hA,_⟩:=hH2.focus hr
     obtain rfl:l'=l:=by rw[hl'] at hl;exact Option.some.inj hl
     intro q x hx
     have hq:=(List.getElem?_eq_some_iff.1 hx).1
     rw[h]
     exact hmk' q x hx (by have:=hA.1;omega)
 ·-- the rows grow
  have hlt:=of_decide_eq_false hlt
  have hall:∀(j:Nat) l,ls1[j]? = some l→iM o qB j l:=fun j l hl=>hm1 j l (by have:=hH1.len;have:=(List.getElem?_eq_some_iff.1 hl).1;omega) hl
  refine⟨⟨_,by omega,by omega,rfl,ls1,H1,[],[],hH1,Acc.nil,hp1,rfl,hb1,hall,fun j r x hj=>by omega⟩, ?_⟩
  intro a n c i m7 I4 F4 hI4 ⟨i0,i1,im,ls4,H4,xs,Al,hH4,hAl,hp4,hxl,hb4,hm4,hd4⟩
  have hS4:=hS1.mono hI4
  refine⟨fun hlt=>?_,fun hlt=>?_⟩
  ·have hlt:=of_decide_eq_true hlt
   obtain⟨ad,r,had,hr,hrd⟩:=hS4.at (i:=i) i0 (by omega)
   obtain⟨l,A,H5,hl,hHe,hA,hH5⟩:=hH4.drop hr
   subst hHe
   refine⟨⟨i0,by omega⟩,ad,had,_,_,_,hrd _,⟨_,i0,by omega,by omega,by omega,rfl,ls4,H5,xs,Al,r,l,[],A,hr,hH5,hAl,by rw[List.append_nil];exact hA, ?_,hxl,hb4,hm4,by have:=hm4 _ _ hl;rwa [Int.toNat_of_nonneg i0] at this,rfl,fun q x hx=>by simp at hx,hA.1,hb4 _ _ hl,.inl rfl,hd4⟩, ?_⟩
   ·refine hp4.trans ?_
    rw[List.append_assoc A H5 F,←List.append_assoc Al A,←List.append_assoc A Al]
    exact List.Perm.append_right _ List.perm_append_comm
   intro xa xn xc k m9 I5 F5 hI5 ⟨_,_,k0,k1,km,ls5,H5',xs5,Al5,r5,l5,t5,A5,hr5,hH5',hAl5,hA5,hp5,hxl5,hb5,hm5,hml5,ht5,hmt5,hrn5,hl5,hor5,hd5⟩
   obtain rfl:r=r5:=by rw[hr] at hr5;exact Option.some.inj hr5
   refine⟨fun hk=>?_,fun hk=>?_⟩
   ·have hk:=of_decide_eq_true hk
    refine cU.ret (lE i k I5 _) fun I6 hI6=>⟨_,rfl,F5,.refl _, ?_⟩
    intro b I7 hI7 hb7
    let y:Ck z:=⟨nw (lD i k),hnl _⟩
    refine dk.perm (dk.mono (eG (f:=cv) (z:=z) (zv:=zv) pk (by':=B) h1 h2 hzs hB hA5 (xs:=[y]) ?_ (by simp) rfl ?_ ?_ (F:=Al5++(H5'++F)))
     fun v I8 G3 hI8 ⟨a',n',c',A',hv,hA',hG,hor⟩=>?_) hp5
    ·intro x hx u hu
     rw[List.mem_singleton] at hx;subst hx
     exact hn1 _ u hu
    ·exact⟨rfl,_,_,_,.inl hb7,fun j hj=>by simp[y,cv]⟩
    ·rw[List.length_append,List.length_singleton]
     exact Nat.le_trans (Nat.mul_le_mul (show l5.length+t5.length+1≤1000000009 by omega) hB2) (by decide)
    subst hG
    have hle8:cS.le I5 I8:=cS.le_trans hI6 (cS.le_trans hI7 hI8)
    refine⟨_,_,_,hv,_,.refl _,m9-1,by omega,i0,by omega,by rw[ew (by omega)];omega,by rw[ew (by omega)];omega,by rw[ew (by omega)];omega,
     ls5,H5',xs5,Al5,r,l5,t5++[y],A',hr,hH5',hAl5,by rw[←List.append_assoc];exact hA',.refl _,hxl5,hb5,hm5,hml5, ?_, ?_,hrn5,hl5, ?_,fun j r x hj hr hx=>(hd5 j r x hj hr hx).mono hle8⟩
    ·rw[ew (by omega),List.length_append,List.length_singleton];omega
    ·refine hmt5.snoc ?_
     show (nw (lD i k))[o]? = _
     rw[hno,ht5];rfl
    ·rcases hor5 with h | h
     ·rcases hor with h' | h'
      ·exact .inl (h'.trans h)
      ·right
       rw[←h,hrn5]
       exact Sl.prefix h'
     ·exact .inr (h.mono hle8)
   ·have hk:=of_decide_eq_false hk
    intro b1 I9 hI9 hb9
    refine dk.pre fun w hw=>?_
    obtain⟨J,hJ,hsJ,hSx⟩:=hA5.keep pk (hw.perm hp5)
    have hle9:cS.le I5 J:=cS.le_trans hI9 hJ
    refine⟨J,_,hJ,hsJ, ?_⟩
    refine dk.mono (eG (f:=Row.enc) (z:=1) (zv:=.slice none 0 0) (fun _=>rfl) (by':=24) h3 h4 rfl (by decide) hAl5 (xs:=[⟨xa,xn,xc⟩]) (fun x _=>qf x) (by simp) rfl ?_ ?_ (F:=H5'++F))
     fun v I10 G4 hI10 ⟨a',n',c',A',hv,hA',hG,hor⟩=>?_
    ·exact⟨rfl,_,_,_,.inl (hJ.at hb9),fun j hj=>by simp[Row.enc]⟩
    ·simp only[List.length_cons,List.length_nil];omega
    subst hG
    have hle10:cS.le I5 I10:=cS.le_trans hle9 hI10
    refine⟨_,_,_,hv,_,.refl _,m7-1,by omega,by rw[ew (by omega)];omega,by rw[ew (by omega)];omega,by rw[ew (by omega)];omega,ls5,H5',xs5++[⟨xa,xn,xc⟩],A', ?_,hA',.refl _, ?_,hb5,hm5, ?_⟩
    ·rw[ew (by omega),show (i+1).toNat=i.toNat+1 by omega];exact hH5'
    ·rw[ew (by omega),List.length_append,List.length_singleton];omega
    ·intro j r' x' hj hr' hx'
     rw[ew (by omega)] at hj
     rcases Int.lt_or_eq_of_le (Int.lt_add_one_iff.1 hj) with h | h
     ·rw[List.getElem?_append_left (by omega)] at hx'
      exact (hd5 j r' x' h hr' hx').mono hle10
     ·have hji:j=i.toNat:=by omega
      subst hji
      obtain rfl:r=r':=by rw[hr] at hr';exact Option.some.inj hr'
      have hx2:x'=⟨xa,xn,xc⟩:=by
       have:i.toNat=xs5.length:=by omega
       rw[this,List.getElem?_append_right (Nat.le_refl _),Nat.sub_self] at hx'
       simpa using hx'.symm
      subst hx2
      rw[h]
      refine⟨l5,t5, ?_,hml5,hSx.mono hI10,by omega,hmt5⟩
      rcases hor5 with h' | h'
      ·rw[←h',hrn5];exact (Sl.prefix hSx).mono hI10
      ·exact h'.mono hle10
  ·-- the look at all of them
   have hlt:=of_decide_eq_false hlt
   have hxs:xs.length=ln:=by omega
   refine⟨⟨_,by omega,by omega,rfl,⟨Al++H4,by rw[List.append_assoc];exact hp4⟩,xs,(Acc.B0 (z:=1) (f:=Row.enc) (fun _=>rfl) hAl I4 (G:=F4) fun x hx=>hp4.mem_iff.2 (List.mem_append_left _ hx)),hxs,
    fun j r x hr hx=>hd4 j r x (by have:=(List.getElem?_eq_some_iff.1 hx).1;omega) hr hx⟩, ?_⟩
   intro x i m13 I11 F9 hI11 ⟨i0,i1,im,⟨A9,hp9⟩,xs,hsl,hxs,hd⟩
   have hS11:=hS4.mono hI11
   refine⟨fun hlt=>?_,fun hlt=>⟨rfl,A9,hp9⟩⟩
   have hlt:=of_decide_eq_true hlt
   obtain⟨ad,r,had,hr,hrd⟩:=hS11.at (i:=i) i0 (by omega)
   obtain⟨adx,xr,hadx,hxr,hrdx⟩:=hsl.at (i:=i) i0 (by have:=hsl.1;omega)
   have hrn:r.n≤1000000000:=by
    obtain⟨l,A,R,hl,hA,_⟩:=hH.focus hr
    have:=hb _ _ hl
    have:=hA.1
    omega
   refine⟨⟨i0,by omega⟩,ad,had,_,_,_,hrd _,⟨_,i0,by omega,by omega,⟨r,hr,rfl,hrn,by omega,rfl⟩,⟨A9,hp9⟩,xs,hsl,hxs,hd⟩, ?_⟩
   intro x1 k m15 I12 F10 hI12 ⟨_,_,k0,⟨r',hr',hnn,_,k1,km⟩,⟨A10,hp10⟩,xs2,hsl2,hxs2,hd2⟩
   obtain rfl:r=r':=by rw[hr] at hr';exact Option.some.inj hr'
   obtain⟨adx2,xr2,hadx2,hxr2,hrdx2⟩:=hsl2.at (i:=i) i0 (by have:=hsl2.1;omega)
   obtain⟨l,t,hSl,hml,hSx,htl,hmt⟩:=hd2 _ _ _ hr hxr2
   have hrl:=hSl.1
   have hxl:=hSx.1
   rw[List.length_append] at hxl
   have hrd2:=fun G=>(hrd G).mono hI12
   have hii:((i.toNat:Nat):Int)=i:=Int.toNat_of_nonneg i0
   rw[hii] at hml hmt
   refine⟨fun hk=>?_,fun hk=>?_⟩
   ·have hk:=of_decide_eq_true hk
    obtain⟨ad6,y,ha6,hy,hrd6⟩:=hSl.at (i:=k) k0 (by omega)
    have hyv:=hml _ _ hy
    have hkk:((k.toNat:Nat):Int)=k:=Int.toNat_of_nonneg k0
    rw[hkk] at hyv
    obtain⟨ad8,y',ha8,hy',hrd8⟩:=hSx.at (i:=k) k0 (by omega)
    obtain rfl:y=y':=by
     rw[List.getElem?_append_left (by omega),hy] at hy';exact Option.some.inj hy'
    have hsp:∀X:cR,cU P 87 #[.int .i64 i,.int .i64 k] I12 X fun e I' G=>e=.returned (.int .i64 (lC i k))∧G.Perm X:=fun X=>(ox i k I12 X).mono fun e I' G _ ⟨h1,h2⟩=>⟨h1,by rw[h2]⟩
    refine⟨⟨i0,by omega⟩,ad,had,_,_,_,hrd2 _,⟨k0,by omega⟩,ad6,ha6,lC i k,(hrd6 _).field hyv,lC i k,hsp _,fun h=>by simp at h,fun _=>⟨⟨i0,by have:=hsl2.1;omega⟩,adx2,hadx2,_,_,_,hrdx2,⟨k0,by omega⟩,ad8,ha8,lC i k,(hrd8 _).field hyv,lC i k,hsp _,fun h=>by simp at h,fun _=>?_⟩⟩
    rw[ew (by omega)]
    exact⟨_,by omega,i0,by omega,by omega,⟨r,hr,hnn,hrn,by omega,rfl⟩,⟨A10,hp10⟩,xs2,hsl2,hxs2,hd2⟩
   ·have hk:=of_decide_eq_false hk
    refine⟨⟨_,i0,by omega,by omega,by omega,rfl,⟨r,hr,rfl,hrn⟩,⟨A10,hp10⟩,xs2,hsl2,hxs2,hd2⟩, ?_⟩
    intro x2 k3 m20 I15 F11 hI15 ⟨_,_,k0',k1',km',⟨r',hr',hnn',_⟩,⟨A11,hp11⟩,xs3,hsl3,hxs3,hd3⟩
    refine⟨fun hk=>?_,fun hk=>?_⟩
    ·have hk:=of_decide_eq_true hk
     obtain⟨adx3,xr3,hadx3,hxr3,hrdx3⟩:=hsl3.at (i:=i) i0 (by have:=hsl3.1;omega)
     obtain⟨l3,t3,hSl3,hml3,hSx3,htl3,hmt3⟩:=hd3 _ _ _ hr hxr3
     have hrl3:=hSl3.1
     have hxl3:=hSx3.1
     rw[List.length_append] at hxl3
     rw[hii] at hmt3
     rw[ew (by omega)]
     obtain⟨ad10,y,ha10,hy,hrd10⟩:=hSx3.at (i:=((r.n:Nat):Int)+k3) (by omega) (by omega)
     rw[List.getElem?_append_right (by omega),show (((r.n:Nat):Int)+k3).toNat-l3.length=k3.toNat by omega] at hy
     have hyv:=hmt3 _ _ hy
     have hkk:((k3.toNat:Nat):Int)=k3:=Int.toNat_of_nonneg k0'
     rw[hkk] at hyv
     refine⟨⟨i0,by have:=hsl3.1;omega⟩,adx3,hadx3,_,_,_,hrdx3,⟨by omega,by omega⟩,ad10,ha10,lD i k3,(hrd10 _).field hyv,lD i k3,(lE i k3 I15 _).mono fun e I' G _ ⟨h1,h2⟩=>⟨h1,by rw[h2]⟩,fun h=>by simp at h,fun _=>?_⟩
     rw[ew (by omega)]
     exact⟨_,by omega,i0,by omega,by omega,by omega,rfl,⟨r,hr,rfl,hrn⟩,⟨A11,hp11⟩,xs3,hsl3,hxs3,hd3⟩
    ·rw[ew (by omega)]
     exact⟨_,by omega,by omega,by omega,rfl,⟨A11,hp11⟩,xs3,hsl3,hxs3,hd3⟩
end Go.Lx
