import Derived.Test.YtdhcodphiofhjaaGreatDoorParseSpacedB1
set_option linter.unusedVariables false
set_option linter.unusedSimpArgs false
set_option linter.unusedSectionVars false
set_option maxRecDepth 100000
namespace Go.Vc
def qk(o:Oper):Bool:=match o.op with
 | .move _ | .assign _ | .pick .. | .fieldAddr .. | .indexAddr .. | .extract .. | .field .. | .nilCheck _ | .binOp .. | .unOp .. | .makeFunc .. | .index .. | .slice .. | .makeInterface .. | .build .. | .convert .. => true
 | .call c=>match c.callee with
   | .builtin .len=>true
   | .builtin .cap=>true
   | _=>false
 | _=>false
def GL:List (Nat×List Nat)→Nat→Option (List Nat)
 | [],_=>none
 | (r,l)::t,n=>cond (r==n) (some l) (GL t n)
def GM:List (Nat×Nat×Nat×List Nat×List Nat)→Nat→Option (Nat×Nat×List Nat×List Nat)
 | [],_=>none
 | (r,x)::t,n=>cond (r==n) (some x) (GM t n)
def GN:List (Nat×List Nat×Ot)→Nat→Option (List Nat×Ot)
 | [],_=>none
 | (r,x)::t,n=>cond (r==n) (some x) (GN t n)
def GO:List (Nat×List Nat×Nat)→Nat→Option (List Nat×Nat)
 | [],_=>none
 | (r,x)::t,n=>cond (r==n) (some x) (GO t n)
def GP:List (Nat×Nat)→Nat→Option Nat
 | [],_=>none
 | (r,l)::t,n=>cond (r==n) (some l) (GP t n)
def cS.no(I:cS):cS:=⟨fun _=>none,I.os,I.out⟩
theorem wX(I:cS)(w:World):Reads I.no [] w:=by
 intro ad cs h j hj
 obtain⟨_,cells,t,fz,h1 | h1,_⟩:=h
 ·cases h1
 ·cases h1
def vB(l:List Nat):Nat→List (Option AV)→List (Option AV)
 | _,[]=>[]
 | t,x::r=>cond (l.contains t) none x::vB l (t+1) r
def S.qW(σ:S)(ops:Array Oper):S:={ σ with tm:=vB (dE ops.toList) 0 σ.tm }
def CM(o:Oper)(Kp:List PanicEntry→S→cS→cR→Prop):List PanicEntry→S→cS→cR→Prop:=fun ch σ I F=>cond (uh o.op||x5 o.op) False (Kp ch σ I F)
def ie(P:Program)(A:oq)(rid:Nat)(ops:Array Oper)(Kp:List PanicEntry→S→cS→cR→Prop):List Nat→S→cS→cR→(S→cS→cR→Prop)→Prop
 | [],σ,I,F,K=>K σ I F
 | i::r,σ,I,F,K=>match ops[i]? with
   | none=>False
   | some o=>match want ops σ o with
     | some true=>cond (qk o)
        (mh P A.shp o σ I.no [] (List.range σ.own.length) fun av=>oO A rid i o.dst av σ fun σ'=>ie P A rid ops Kp r σ' I F K)
        (EV P A rid i o σ I F (fun σ' I' F'=>ie P A rid ops Kp r σ' I' F' K) (CM o Kp))
     | some false=>ie P A rid ops Kp r (σ.put o.dst (some (.a (.v undef)))) I F K
     | none=>False
def kE(P:Program)(A:oq)(rid:Nat)(ops:Array Oper)(Kp:List PanicEntry→S→cS→cR→Prop)(os:List Nat)(I0:cS)(n0:Nat):List Nat→S→cS→cR→(S→cS→cR→Prop)→Prop
 | [],σ,I,F,K=>K σ I F
 | i::r,σ,I,F,K=>match ops[i]? with
   | none=>False
   | some o=>match want ops σ o with
     | some true=>cond (os.contains i)
        (mh P A.shp o σ I0 [] ((List.range σ.own.length).drop n0) fun av=>oO A rid i o.dst av σ fun σ'=>kE P A rid ops Kp os I0 n0 r σ' I F K)
        (cond (qk o)
          (mh P A.shp o σ I.no [] (List.range σ.own.length) fun av=>oO A rid i o.dst av σ fun σ'=>kE P A rid ops Kp os I0 n0 r σ' I F K)
          (EV P A rid i o σ I F (fun σ' I' F'=>kE P A rid ops Kp os I0 n0 r σ' I' F' K) (CM o Kp)))
     | some false=>kE P A rid ops Kp os I0 n0 r (σ.put o.dst (some (.a (.v undef)))) I F K
     | none=>False
def sK(P:Program)(A:oq)(rid:Nat)(ops:Array Oper)(Kp:List PanicEntry→S→cS→cR→Prop)(os:List Nat)(I0:cS)(n0:Nat)(N:List Nat→S→cS→cR→Prop):Ot→S→cS→cR→Prop
 | .fin pre post,σ,I,F=>kE P A rid ops Kp os I0 n0 pre σ I F (N post)
 | .fork pre i j x y,σ,I,F=>kE P A rid ops Kp os I0 n0 pre σ I F fun σ' I' F' =>
    kE P A rid ops Kp os I0 n0 [i] σ' I' F' (fun s J G=>sK P A rid ops Kp os I0 n0 N x s J G)∧kE P A rid ops Kp os I0 n0 [j] σ' I' F' (fun s J G=>sK P A rid ops Kp os I0 n0 N y s J G)
section
variable {P:Program} {A:oq} {rid:Nat} {ops:Array Oper}
theorem eN{ro:Option Nat}(hP:∀f,A.good f=true→dG P f){Kp:List PanicEntry→S→cS→cR→Prop}{K:S→cS→cR→Prop}{Q:Exit→Act→World→Prop}(hops:∀(i:Nat) (o:Oper),ops[i]? = some o→gB o.op=true) :
  ∀(l:List Nat) (σ:S) (I:cS) (F:cR) (a:Act) (w:World),ie P A rid ops Kp l σ I F K→Rel σ I F a w →
   (∀σ' I' F' a' w',Rel σ' I' F' a' w'→cS.le I I'→K σ' I' F'→dw (dE ops.toList) σ a σ' a'→Q .normal a' w') →
   (∀ch σ' I' F' a' w',Rel σ' I' F' a' w'→cS.le I I'→Kp ch σ' I' F'→dw (dE ops.toList) σ a σ' a'→Q (.panic ch) a' w') →
   rA P ro ops qk Q l a w
 | [],σ,I,F,a,w,h,hr,hN,hX=>hN σ I F a w hr (cS.le_refl I) h (dw.refl _ _ _)
 | i::r,σ,I,F,a,w,h,hr,hN,hX=>by
   simp only[ie] at h
   split at h
   ·exact h.elim
   ·rename_i o ho
    have hd:∀t,o.dst=some t→t∈dE ops.toList:=fun t ht=>by
     have hm:o∈ops.toList:=by have:=Array.mem_of_getElem? ho;simpa using this
     exact List.mem_filterMap.2 ⟨o,hm,ht⟩
    refine⟨o,ho, ?_⟩
    split at h
    ·rename_i hw
     rw[if_pos (fM hw hr.t)]
     cases hp:qk o with
     | true =>
       rw[if_pos rfl]
       rw[hp,cond_true] at h
       obtain⟨av,hk,hy⟩:=kC h
       obtain⟨av',hg,hwf',hk⟩:=lK hk
       have hwf:=hy.wf σ.own hr.wft hr.wfo
       refine⟨av.g,fun w'=>hy.run a w' hr.t hr.wft (fun j b hb hh=>?_) (wX I w'), ?_⟩
       ·have:j<σ.own.length:=(List.getElem?_eq_some_iff.1 hb).1
        have hc:(List.range σ.own.length).contains j=true:=by simpa using this
        rw[hc] at hh;cases hh
       ·have hr':Rel (σ.put o.dst (some av')) I F (a.put o.dst av.g) w:=hr.put o.dst hg (hwf' hwf)
        have hkp:dw (dE ops.toList) σ a (σ.put o.dst (some av')) (a.put o.dst av.g):=dw.put (dy.put _ _ _) _ _ _ hd
        exact eN hP hops r _ I F _ w hk hr' (fun σ2 I2 F2 a2 w2 g1 g2 g3 g4=>hN σ2 I2 F2 a2 w2 g1 g2 g3 (hkp.trans g4)) fun ch σ2 I2 F2 a2 w2 g1 g2 g3 g4=>hX ch σ2 I2 F2 a2 w2 g1 g2 g3 (hkp.trans g4)
     | false =>
       rw[if_neg (by simp)]
       rw[hp,cond_false] at h
       have hh:=qp (Q:=Qo o Q) hP h hr fun ch w' σ' I' F' h1 h2 h3 h4=>by
        unfold CM at h3
        cases hb:(uh o.op||x5 o.op) with
        | true=>rw[hb] at h3;exact h3.elim
        | false=>rw[hb] at h3;exact⟨hb,hX ch σ' I' F' a w' h1 h2 h3 ⟨h4,fun _ _=>rfl,rfl⟩⟩
       refine rJ (.inr (sE (hops i o ho))) ?_
       unfold CB at hh ⊢
       revert hh
       generalize (execOp a.eval o).run P w=res
       intro hh
       have step:∀a' w',jq o σ I a (fun σ' I' F'=>ie P A rid ops Kp r σ' I' F' K) a' w'→rA P ro ops qk Q r a' w':=by
        intro a' w' ⟨σ',I',F',h1,h2,h3,h4,v,h5⟩
        have hk:dw (dE ops.toList) σ a σ' a':=dw.CI h4 _ _ _ hd h5
        exact eN hP hops r σ' I' F' _ w' h3 h1
         (fun σ2 I2 F2 a2 w2 g1 g2 g3 g4=>hN σ2 I2 F2 a2 w2 g1 (cS.le_trans h2 g2) g3 (hk.trans g4))
         (fun ch σ2 I2 F2 a2 w2 g1 g2 g3 g4=>hX ch σ2 I2 F2 a2 w2 g1 (cS.le_trans h2 g2) g3 (hk.trans g4))
       cases res with
       | ok n w' =>
         cases n<;>simp only[Oper.uponIn] at hh ⊢<;>first | exact step _ _ hh | exact hh.elim | skip
         ·refine⟨hh.1,hh.2.mono fun e w'' hq=>?_⟩
          cases e with
          | returned v=>exact step _ _ hq
          | panicked ch=>exact hq
          | outgrown=>exact hq
         ·refine⟨hh.1,hh.2.mono fun e w'' hq=>?_⟩
          cases e with
          | returned v=>exact step _ _ hq
          | panicked ch=>exact hq
          | outgrown=>exact hq
         ·exact⟨hh.1,hh.2.mono fun v w'' hq=>step _ _ hq⟩
       | halt x w'=>cases x<;>simp only[Oper.uponIn] at hh ⊢<;>first | exact hh | exact hh.elim
    ·rename_i hw
     rw[if_neg (by rw[fM hw hr.t];simp)]
     have hk:dw (dE ops.toList) σ a (σ.put o.dst (some (.a (.v undef)))) (a.put o.dst undef):=dw.put (dy.put _ _ _) _ _ _ hd
     exact eN hP hops r _ I F _ w h (hr.put o.dst (av:=.a (.v undef)) rfl trivial)
      (fun σ2 I2 F2 a2 w2 g1 g2 g3 g4=>hN σ2 I2 F2 a2 w2 g1 g2 g3 (hk.trans g4))
      (fun ch σ2 I2 F2 a2 w2 g1 g2 g3 g4=>hX ch σ2 I2 F2 a2 w2 g1 g2 g3 (hk.trans g4))
    ·exact h.elim
def EY(ops:Array Oper)(a a':Act):Prop:=a'.tmps.size=a.tmps.size∧∀t,t∉dE ops.toList→a'.tmps[t]? = a.tmps[t]?
theorem EY.back{a a':Act}{t:Nat}{v:Value}(ht:t∈dE ops.toList)(h:EY ops a (a'.put (some t) v)):EY ops a a':=by
 have h1:dy (⟨[],[],[]⟩:S) ⟨[],[],[]⟩:=dy.refl _
 have hk:dw (dE ops.toList) (⟨[],[],[]⟩:S) a' ⟨[],[],[]⟩ (a'.put (some t) v):=dw.CI h1 (some t) v _ (fun x hx=>by cases hx;exact ht) rfl
 exact⟨hk.size.symm.trans h.1,fun x hx=>(hk.tm x hx).symm.trans (h.2 x hx)⟩
def Pn.at(ops:Array Oper)(a:Act)(Q:Exit→Act→World→Prop):Pn ops :=
 ⟨fun c a' w'=>EY ops a a'∧∀a'',EY ops a a''→a''.defers=a'.defers→Q (.panic c) a'' w',fun c a' t v w ht h=>⟨h.1.back ht,fun a'' h1 h2=>h.2 a'' h1 (h2.trans rfl)⟩⟩
theorem sL(l:List Nat):∀(r:List (Option AV)) (t0 t:Nat) (av:AV),(vB l t0 r)[t]? = some (some av)→l.contains (t0+t)=false∧r[t]? = some (some av)
 | [],t0,t,av,h=>by simp[vB] at h
 | x::r,t0,0,av,h=>by
   simp only[vB,List.getElem?_cons_zero,Option.some.injEq] at h
   cases hc:l.contains t0 with
   | true=>rw[hc] at h;cases h
   | false=>rw[hc] at h;exact⟨by first | exact hc | rfl,by rw[List.getElem?_cons_zero];exact congrArg some h⟩
 | x::r,t0,t+1,av,h=>by
   simp only[vB,List.getElem?_cons_succ] at h
   have:=sL l r (t0+1) t av h
   rw[show t0+1+t=t0+(t+1) by omega] at this
   exact⟨this.1,by rw[List.getElem?_cons_succ];exact this.2⟩
theorem wY(l:List Nat):∀(r:List (Option AV)) (t0:Nat),(vB l t0 r).length=r.length
 | [],_=>rfl
 | x::r,t0=>by simp[vB,wY l r]
theorem Pn.ok{Kp:List PanicEntry→S→cS→cR→Prop}{Q:Exit→Act→World→Prop}{σ σ':S}{I I':cS}{F':cR}{a a':Act}{w':World}{ch:List PanicEntry}(hX:∀ch σ' I' F' a' w',Rel σ' I' F' a' w'→cS.le I I'→Kp ch σ' I' F'→dw (dE ops.toList) σ a σ' a'→Q (.panic ch) a' w')
  (h1:Rel σ' I' F' a' w') (h2:cS.le I I') (h3:Kp ch (σ'.qW ops) I' F') (h4:dw (dE ops.toList) σ a σ' a'):(Pn.at ops a Q).f ch a' w':=by
 refine⟨⟨h4.size,h4.tm⟩,fun a'' g1 g2=>hX ch (σ'.qW ops) I' F' a'' w' ⟨?_,fun t av ht=>?_, ?_,fun t av ht=>?_,h1.wfo,h1.sat⟩ h2 h3 ⟨h4.own,g1.2,g1.1⟩⟩
 ·show (vB _ 0 σ'.tm).length=_
  rw[wY,h1.size,h4.size,g1.1]
 ·have:=sL _ _ _ _ _ ht
  rw[Nat.zero_add] at this
  have hn:t∉dE ops.toList:=fun hm=>by
   have hc:(dE ops.toList).contains t=true:=by simpa using hm
   rw[hc] at this;cases this.1
  rw[g1.2 t hn,←h4.tm t hn];exact h1.tm t av this.2
 ·rw[g2];exact h1.defers
 ·exact h1.wft t av (sL _ _ _ _ _ ht).2
theorem yo{ro:Option Nat}(hP:∀f,A.good f=true→dG P f){id:Nat}{l:List Nat}{σ:S}{I:cS}{F:cR}{K:S→cS→cR→Prop}{Kp:List PanicEntry→S→cS→cR→Prop}{a:Act}{w:World}(hm:P.follows .mixedOrders=true)
  (hB:EX ops qk l=true) (h:ie P A rid ops (fun ch σ' I' F'=>Kp ch (σ'.qW ops) I' F') l σ I F K) (hr:Rel σ I F a w) {Q:Exit→Act→World→Prop}
  (hQ:∀σ' I' F' a' w',Rel σ' I' F' a' w'→cS.le I I'→K σ' I' F'→dw (dE ops.toList) σ a σ' a'→Q .normal a' w')
  (hX:∀ch σ' I' F' a' w',Rel σ' I' F' a' w'→cS.le I I'→Kp ch σ' I' F'→dw (dE ops.toList) σ a σ' a'→Q (.panic ch) a' w'):(Code.region id ops true).wpIn (Fw ro) 0 P Q a w:=by
 have hops:∀(i:Nat) (o:Oper),ops[i]? = some o→gB o.op=true:=fun i o ho=>by
  have hm:o∈ops.toList:=by have:=Array.mem_of_getElem? ho;simpa using this
  simp only[EX,Bool.and_eq_true] at hB
  have:=List.all_eq_true.1 hB.2 o hm
  simp only[Bool.and_eq_true] at this
  exact this.1
 have hr':Rel σ I F a { w with drawn:=w.drawn+1 }:=hr.s.rel (hr.sat.of_heap rfl ⟨rfl,rfl⟩)
 have hg:=eN (ro:=ro) (Q:=Qx (Pn.at ops a Q) fun a w=>Q .normal a w) hP hops l σ I F a _ h hr' (fun σ' I' F' a' w' h1 h2 h3 h4=>hQ σ' I' F' a' w' h1 h2 h3 h4) fun ch σ' I' F' a' w' h1 h2 h3 h4=>Pn.ok hX h1 h2 h3 h4
 exact wpIn_mono (wpIn_region_any hm (Bo (kS _ _) hB hg)) fun e a' w' hq=>by
  cases e with
  | normal=>exact hq
  | panic ch=>exact hq.2 a' hq.1 rfl
  | _=>exact hq.elim
theorem wZ{ro:Option Nat}(hP:∀f,A.good f=true→dG P f){id:Nat}{l:List Nat}{p q:Nat}{lA lB:List Nat}{σ:S}{I:cS}{F:cR}{K:S→cS→cR→Prop}{Kp:List PanicEntry→S→cS→cR→Prop}{a:Act}{w:World}(hm:P.follows .mixedOrders=true)
  (hB:Bp ops qk l p q lA lB=true) (h:ie P A rid ops (fun ch σ' I' F'=>Kp ch (σ'.qW ops) I' F') l σ I F fun σ' I' F'=>ie P A rid ops (fun ch σ' I' F'=>Kp ch (σ'.qW ops) I' F') (p::lA) σ' I' F' K∧ie P A rid ops (fun ch σ' I' F'=>Kp ch (σ'.qW ops) I' F') (q::lB) σ' I' F' K) (hr:Rel σ I F a w) {Q:Exit→Act→World→Prop}
  (hQ:∀σ' I' F' a' w',Rel σ' I' F' a' w'→cS.le I I'→K σ' I' F'→dw (dE ops.toList) σ a σ' a'→Q .normal a' w')
  (hX:∀ch σ' I' F' a' w',Rel σ' I' F' a' w'→cS.le I I'→Kp ch σ' I' F'→dw (dE ops.toList) σ a σ' a'→Q (.panic ch) a' w'):(Code.region id ops true).wpIn (Fw ro) 0 P Q a w:=by
 have hops:∀(i:Nat) (o:Oper),ops[i]? = some o→gB o.op=true:=fun i o ho=>by
  have hm:o∈ops.toList:=by have:=Array.mem_of_getElem? ho;simpa using this
  simp only[Bp,Bool.and_eq_true] at hB
  have:=List.all_eq_true.1 hB.2 o hm
  simp only[Bool.and_eq_true] at this
  exact this.1
 have hr':Rel σ I F a { w with drawn:=w.drawn+1 }:=hr.s.rel (hr.sat.of_heap rfl ⟨rfl,rfl⟩)
 have hg:=eN (ro:=ro) (Q:=Qx (Pn.at ops a Q) (DZ P ro ops qk (Pn.at ops a Q) (fun a w=>Q .normal a w) p q lA lB)) hP hops l σ I F a _ h hr' (fun σ' I' F' a' w' h1 h2 h3 h4 =>
  ⟨eN (ro:=ro) (Q:=Qx (Pn.at ops a Q) fun a w=>Q .normal a w) hP hops (p::lA) σ' I' F' a' w' h3.1 h1 (fun σ2 I2 F2 a2 w2 g1 g2 g3 g4=>hQ σ2 I2 F2 a2 w2 g1 (cS.le_trans h2 g2) g3 (h4.trans g4)) fun ch σ2 I2 F2 a2 w2 g1 g2 g3 g4=>Pn.ok hX g1 (cS.le_trans h2 g2) g3 (h4.trans g4),
    eN (ro:=ro) (Q:=Qx (Pn.at ops a Q) fun a w=>Q .normal a w) hP hops (q::lB) σ' I' F' a' w' h3.2 h1 (fun σ2 I2 F2 a2 w2 g1 g2 g3 g4=>hQ σ2 I2 F2 a2 w2 g1 (cS.le_trans h2 g2) g3 (h4.trans g4)) fun ch σ2 I2 F2 a2 w2 g1 g2 g3 g4=>Pn.ok hX g1 (cS.le_trans h2 g2) g3 (h4.trans g4)⟩)
  fun ch σ' I' F' a' w' h1 h2 h3 h4=>Pn.ok hX h1 h2 h3 h4
 exact wpIn_mono (wpIn_region_any hm (Ac hB hg)) fun e a' w' hq=>by
  cases e with
  | normal=>exact hq
  | panic ch=>exact hq.2 a' hq.1 rfl
  | _=>exact hq.elim
def uo(own0:List dX)(I0:cS)(w:World):Prop:=(∀(j:Nat) (b:dX),own0[j]? = some b→w.heap[b.num]? = some b.obj)∧∀(b:Nat) (o:Obj),I0 b=some o→w.heap[b]? = some o
def uq(own0:List dX)(σ:S):Prop:=∀(j:Nat) (b:dX),own0[j]? = some b→∃b':dX,σ.own[j]? = some b'∧b'.num=b.num∧b'.elem=b.elem∧b'.cells=b.cells∧b'.ro=true
theorem uq.keep{own0:List dX}{σ σ':S}(h:uq own0 σ)(k:dy σ σ'):uq own0 σ':=fun j b hb=>by
 obtain⟨b',h1,h2,h3,h4,h5⟩:=h j b hb
 obtain⟨b2,g1,g2,g3,g4⟩:=k j b' h1
 obtain⟨g5,g6⟩:=g4 h5
 exact⟨b2,g1,g2.trans h2,g3.trans h3,g6.trans h4,g5⟩
theorem uq.obj{own0:List dX}{σ:S}(h:uq own0 σ){j:Nat}{b b':dX}(hb:own0[j]? = some b)(hb':σ.own[j]? = some b'):b'.num=b.num∧b'.obj=b.obj:=by
 obtain⟨b2,h1,h2,h3,h4,h5⟩:=h j b hb
 rw[hb'] at h1
 obtain rfl:=Option.some.inj h1
 exact⟨h2,by unfold dX.obj;rw[h3,h4]⟩
theorem uq.inv{own0:List dX}{σ:S}{I0 I:cS}{F:cR}{a:Act}{w:World}(h:uq own0 σ)(hr:Rel σ I F a w)(hl:cS.le I0 I):uo own0 I0 w:=⟨fun j b hb=>by
 obtain⟨b',h1,_⟩:=h j b hb
 obtain⟨e1,e2⟩:=h.obj hb h1
 rw[←e1,←e2]
 exact hr.sat.own _ _ (List.mem_append_left _ (List.mem_map.2 ⟨b',List.mem_of_getElem? h1,rfl⟩)),fun b o ho=>hr.sat.imm _ _ (hl.at ho)⟩
theorem Ae{own0:List dX}{I0:cS}{w:World}(h:uo own0 I0 w):Reads I0 [] w:=by
 intro ad cs ⟨hsp,cells,e,fz,ho,hc⟩ j hj
 have hb:w.heap[ad.block]? = some (.cells cells e fz):=ho.elim (h.2 _ _) fun h=>by cases h
 unfold World.cell? Addr.add
 by_cases h0:j=0
 ·subst h0;simp[hb,hsp];have:=hc 0 hj;simpa using this
 ·simp[h0,hb];exact hc j hj
theorem eO{ro:Option Nat}(hP:∀f,A.good f=true→dG P f){os:List Nat}{own0:List dX}{I0:cS}{Kp:List PanicEntry→S→cS→cR→Prop}{K:S→cS→cR→Prop}{N:Pn ops}{R:Act→World→Prop}(hops:∀(i:Nat) (o:Oper),ops[i]? = some o→gB o.op=true) :
  ∀(l:List Nat) (σ:S) (I:cS) (F:cR) (a:Act) (w:World),kE P A rid ops Kp os I0 own0.length l σ I F K→Rel σ I F a w→uq own0 σ→cS.le I0 I →
   (∀σ' I' F' a' w',Rel σ' I' F' a' w'→cS.le I I'→K σ' I' F'→dw (dE ops.toList) σ a σ' a'→R a' w') →
   (∀ch σ' I' F' a' w',Rel σ' I' F' a' w'→cS.le I I'→Kp ch σ' I' F'→dw (dE ops.toList) σ a σ' a'→N.f ch a' w') →
   vz P ro ops qk N R (uo own0 I0) os l a w
 | [],σ,I,F,a,w,h,hr,hH,hl,hN,hX=>hN σ I F a w hr (cS.le_refl I) h (dw.refl _ _ _)
 | i::r,σ,I,F,a,w,h,hr,hH,hl,hN,hX=>by
   simp only[kE] at h
   split at h
   ·exact h.elim
   ·rename_i o ho
    have hd:∀t,o.dst=some t→t∈dE ops.toList:=fun t ht=>List.mem_filterMap.2 ⟨o,by have:=Array.mem_of_getElem? ho;simpa using this,ht⟩
    show fT P ro ops qk N R (uo own0 I0) os i (vz P ro ops qk N R (uo own0 I0) os r) a w
    unfold fT
    by_cases hio:i∈os
    ·rw[if_pos hio]
     refine⟨o,ho, ?_⟩
     split at h
     ·rename_i hw
      rw[show os.contains i=true by simpa using hio,cond_true] at h
      obtain⟨av,hk,hy⟩:=kC h
      obtain⟨av',hg,hwf',hk⟩:=lK hk
      have hwf:=hy.wf σ.own hr.wft hr.wfo
      refine⟨av.g,⟨fun _ w' hI=>hy.run a w' hr.t hr.wft (fun j b hb hh=>?_) (Ae hI),fun hn=>absurd (fM hw hr.t) hn⟩, ?_⟩
      ·have hj:j<σ.own.length:=(List.getElem?_eq_some_iff.1 hb).1
       have hj0:j<own0.length:=by
        rcases Nat.lt_or_ge j own0.length with h | h
        ·exact h
        ·have:((List.range σ.own.length).drop own0.length).contains j=true:=by
          simp only[List.contains_iff_mem]
          refine List.mem_iff_getElem?.2 ⟨j-own0.length, ?_⟩
          rw[List.getElem?_drop,show own0.length+(j-own0.length)=j by omega]
          simp[hj]
         rw[this] at hh;cases hh
       obtain⟨e1,e2⟩:=hH.obj (List.getElem?_eq_getElem hj0) hb
       rw[e1,e2]
       exact hI.1 j _ (List.getElem?_eq_getElem hj0)
      ·have hr':Rel (σ.put o.dst (some av')) I F (a.put o.dst av.g) w:=hr.put o.dst hg (hwf' hwf)
       have hkp:dw (dE ops.toList) σ a (σ.put o.dst (some av')) (a.put o.dst av.g):=dw.put (dy.put _ _ _) _ _ _ hd
       exact eO hP hops r _ I F _ w hk hr' (hH.keep hkp.own) hl (fun σ2 I2 F2 a2 w2 g1 g2 g3 g4=>hN σ2 I2 F2 a2 w2 g1 g2 g3 (hkp.trans g4)) fun ch σ2 I2 F2 a2 w2 g1 g2 g3 g4=>hX ch σ2 I2 F2 a2 w2 g1 g2 g3 (hkp.trans g4)
     ·rename_i hw
      have hk:dw (dE ops.toList) σ a (σ.put o.dst (some (.a (.v undef)))) (a.put o.dst undef):=dw.put (dy.put _ _ _) _ _ _ hd
      refine⟨undef,⟨fun hn=>by (rw[fM hw hr.t] at hn;cases hn),fun _=>rfl⟩, ?_⟩
      exact eO hP hops r _ I F _ w h (hr.put o.dst (av:=.a (.v undef)) rfl trivial) (hH.keep hk.own) hl
       (fun σ2 I2 F2 a2 w2 g1 g2 g3 g4=>hN σ2 I2 F2 a2 w2 g1 g2 g3 (hk.trans g4)) (fun ch σ2 I2 F2 a2 w2 g1 g2 g3 g4=>hX ch σ2 I2 F2 a2 w2 g1 g2 g3 (hk.trans g4))
     ·exact h.elim
    ·rw[if_neg hio]
     refine⟨o,ho, ?_⟩
     split at h
     ·rename_i hw
      rw[if_pos (fM hw hr.t)]
      rw[show os.contains i=false by simpa using hio,cond_false] at h
      cases hp:qk o with
      | true =>
        rw[if_pos rfl]
        rw[hp,cond_true] at h
        obtain⟨av,hk,hy⟩:=kC h
        obtain⟨av',hg,hwf',hk⟩:=lK hk
        have hwf:=hy.wf σ.own hr.wft hr.wfo
        refine⟨av.g,fun w'=>hy.run a w' hr.t hr.wft (fun j b hb hh=>?_) (wX I w'), ?_⟩
        ·have:j<σ.own.length:=(List.getElem?_eq_some_iff.1 hb).1
         have hc:(List.range σ.own.length).contains j=true:=by simpa using this
         rw[hc] at hh;cases hh
        ·have hr':Rel (σ.put o.dst (some av')) I F (a.put o.dst av.g) w:=hr.put o.dst hg (hwf' hwf)
         have hkp:dw (dE ops.toList) σ a (σ.put o.dst (some av')) (a.put o.dst av.g):=dw.put (dy.put _ _ _) _ _ _ hd
         have hH':=hH.keep hkp.own
         exact⟨hH'.inv hr' hl,eO hP hops r _ I F _ w hk hr' hH' hl (fun σ2 I2 F2 a2 w2 g1 g2 g3 g4=>hN σ2 I2 F2 a2 w2 g1 g2 g3 (hkp.trans g4)) fun ch σ2 I2 F2 a2 w2 g1 g2 g3 g4=>hX ch σ2 I2 F2 a2 w2 g1 g2 g3 (hkp.trans g4)⟩
      | false =>
        rw[if_neg (by simp)]
        rw[hp,cond_false] at h
        have hh:=qp (Q:=Qo o (Qx N R)) hP h hr fun ch w' σ' I' F' h1 h2 h3 h4=>by
         unfold CM at h3
         cases hb:(uh o.op||x5 o.op) with
         | true=>rw[hb] at h3;exact h3.elim
         | false=>rw[hb] at h3;exact⟨hb,hX ch σ' I' F' a w' h1 h2 h3 ⟨h4,fun _ _=>rfl,rfl⟩⟩
        refine rJ (.inr (sE (hops i o ho))) ?_
        unfold CB at hh ⊢
        revert hh
        generalize (execOp a.eval o).run P w=res
        intro hh
        have step:∀a' w',jq o σ I a (fun σ' I' F'=>kE P A rid ops Kp os I0 own0.length r σ' I' F' K) a' w'→uo own0 I0 w'∧vz P ro ops qk N R (uo own0 I0) os r a' w':=by
         intro a' w' ⟨σ',I',F',h1,h2,h3,h4,v,h5⟩
         have hk:dw (dE ops.toList) σ a σ' a':=dw.CI h4 _ _ _ hd h5
         exact⟨(hH.keep h4).inv h1 (cS.le_trans hl h2),eO hP hops r σ' I' F' _ w' h3 h1 (hH.keep h4) (cS.le_trans hl h2)
          (fun σ2 I2 F2 a2 w2 g1 g2 g3 g4=>hN σ2 I2 F2 a2 w2 g1 (cS.le_trans h2 g2) g3 (hk.trans g4)) (fun ch σ2 I2 F2 a2 w2 g1 g2 g3 g4=>hX ch σ2 I2 F2 a2 w2 g1 (cS.le_trans h2 g2) g3 (hk.trans g4))⟩
        cases res with
        | ok n w' =>
          cases n<;>simp only[Oper.uponIn] at hh ⊢<;>first | exact step _ _ hh | exact hh.elim | skip
          ·refine⟨hh.1,hh.2.mono fun e w'' hq=>?_⟩
           cases e with
           | returned v=>exact step _ _ hq
           | panicked ch=>exact hq
           | outgrown=>exact hq
          ·refine⟨hh.1,hh.2.mono fun e w'' hq=>?_⟩
           cases e with
           | returned v=>exact step _ _ hq
           | panicked ch=>exact hq
           | outgrown=>exact hq
          ·exact⟨hh.1,hh.2.mono fun v w'' hq=>step _ _ hq⟩
        | halt x w'=>cases x<;>simp only[Oper.uponIn] at hh ⊢<;>first | exact hh | exact hh.elim
     ·rename_i hw
      rw[if_neg (by rw[fM hw hr.t];simp)]
      have hk:dw (dE ops.toList) σ a (σ.put o.dst (some (.a (.v undef)))) (a.put o.dst undef):=dw.put (dy.put _ _ _) _ _ _ hd
      have hr':=hr.put o.dst (av:=.a (.v undef)) rfl trivial
      exact⟨(hH.keep hk.own).inv hr' hl,eO hP hops r _ I F _ w h hr' (hH.keep hk.own) hl             (fun σ2 I2 F2 a2 w2 g1 g2 g3 g4=>hN σ2 I2 F2 a2 w2 g1 g2 g3 (hk.trans g4)) (fun ch σ2 I2 F2 a2 w2 g1 g2 g3 g4=>hX ch σ2 I2 F2 a2 w2 g1 g2 g3 (hk.trans g4))⟩
     ·exact h.elim
theorem w6{ro:Option Nat}(hP:∀f,A.good f=true→dG P f){id m n:Nat}{hid:List Nat}{σ:S}{I:cS}{F:cR}{K:S→cS→cR→Prop}{Kp:List PanicEntry→S→cS→cR→Prop}{a:Act}{w:World}(hm:P.follows .mixedOrders=true)
  (hT:pE ops m=true) (hS:ops.toList.all (fun o=>gB o.op)=true) (hB:qT (ops.extract 0 m)=true)
  (h:wD P A rid (ops.extract 0 m) n hid (ops.extract 0 m).toList 0 σ I F fun σ' F'=>vu P A rid ops (ops.toList.drop m) m σ' I F' K Kp) (hr:Rel σ I F a w) {Q:Exit→Act→World→Prop}
  (hQ:∀σ' I' F' a' w',Rel σ' I' F' a' w'→cS.le I I'→K σ' I' F'→dw (dE ops.toList) σ a σ' a'→Q .normal a' w')
  (hX:∀ch σ' I' F' a' w',Rel σ' I' F' a' w'→cS.le I I'→Kp ch σ' I' F'→dw (dE ops.toList) σ a σ' a'→Q (.panic ch) a' w'):(Code.region id ops true).wpIn (Fw ro) 0 P Q a w:=by
 have hr':Rel σ I F a { w with drawn:=w.drawn+1 }:=hr.s.rel (hr.sat.of_heap rfl ⟨rfl,rfl⟩)
 have hmm:m≤ops.size:=by
  simp only[pE,Bool.and_eq_true,decide_eq_true_eq] at hT
  exact hT.1
 have hsz:(ops.extract 0 m).size=m:=by simp;omega
 have hnd:(ops.toList.drop m).all (fun o=>sC o.op)=true:=List.all_eq_true.2 fun o ho=>by
  have:=List.all_eq_true.1 hS o (List.mem_of_mem_drop ho)
  revert this;cases o.op<;>simp[gB,sC]
 have hsub:∀t∈dE (ops.extract 0 m).toList,t∈dE ops.toList:=fun t ht=>by
  unfold dE at ht ⊢
  obtain⟨o,ho,he⟩:=List.mem_filterMap.1 ht
  refine List.mem_filterMap.2 ⟨o, ?_,he⟩
  rw[Array.toList_extract] at ho
  exact List.mem_of_mem_drop (List.mem_of_mem_take ho)
 have hsub2:∀t∈dE (ops.toList.drop m),t∈dE ops.toList:=fun t ht=>by
  unfold dE at ht ⊢
  obtain⟨o,ho,he⟩:=List.mem_filterMap.1 ht
  exact List.mem_filterMap.2 ⟨o,List.mem_of_mem_drop ho,he⟩
 have hlen:(ops.toList.drop m).length=ops.size-m:=by simp
 have heq:=wpOpsIn_eq_wpListIn (F:=Fw ro) (n:=0) (P:=P) (ops:=ops) (Q:=Q) (ops.toList.drop m) m (fun j=>by rw[List.getElem?_drop];simp)
 rw[hlen] at heq
 have hd:=sD (ro:=ro) (Q:=fun e a' w'=>e=.normal∧wpOpsIn (Fw ro) 0 P ops Q (List.range' m (ops.size-m)) a' w') hP hB h hr' fun σ' F' a' w' h1 h2 h3 =>
  ⟨rfl,by
    rw[heq]
    exact kD hP (ops.toList.drop m) m σ' I F' a' w' (.inr hnd) h2 h1 (fun σ2 I2 F2 a2 w2 g1 g2 g3 g4=>hQ σ2 I2 F2 a2 w2 g1 g2 g3 ((h3.mono hsub).trans (g4.mono hsub2)))
     (fun ch σ2 I2 F2 a2 w2 g1 g2 g3 g4=>hX ch σ2 I2 F2 a2 w2 g1 g2 g3 ((h3.mono hsub).trans (g4.mono hsub2)))⟩
 rw[hsz] at hd
 exact wpIn_region_any hm (z8 hT (fun e a w hne h=>absurd h.1 hne) (fun a w h=>h.2) hd)
theorem kU{ro:Option Nat}(hP:∀f,A.good f=true→dG P f){os:List Nat}{own0:List dX}{I0:cS}{Kp:List PanicEntry→S→cS→cR→Prop}{M:List Nat→S→cS→cR→Prop}{N:Pn ops}{R:Act→World→Prop}(hops:∀(i:Nat) (o:Oper),ops[i]? = some o→gB o.op=true) :
  ∀(t:Ot) (σ:S) (I:cS) (F:cR) (a:Act) (w:World),sK P A rid ops Kp os I0 own0.length M t σ I F→Rel σ I F a w→uq own0 σ→cS.le I0 I →
   (∀post σ' I' F' a' w',Rel σ' I' F' a' w'→cS.le I I'→M post σ' I' F'→dw (dE ops.toList) σ a σ' a'→rA P ro ops qk (Qx N R) post a' w') →
   (∀ch σ' I' F' a' w',Rel σ' I' F' a' w'→cS.le I I'→Kp ch σ' I' F'→dw (dE ops.toList) σ a σ' a'→N.f ch a' w') →
   Dy P ro ops qk N R (uo own0 I0) os t a w
 | .fin pre post,σ,I,F,a,w,h,hr,hH,hl,hN,hX=>eO hP hops pre σ I F a w h hr hH hl (fun σ' I' F' a' w' g1 g2 g3 g4=>hN post σ' I' F' a' w' g1 g2 g3 g4) hX
 | .fork pre i j x y,σ,I,F,a,w,h,hr,hH,hl,hN,hX =>
   eO hP hops pre σ I F a w h hr hH hl (fun σ' I' F' a' w' g1 g2 g3 g4 =>
    ⟨jV (R:=Dy P ro ops qk N R (uo own0 I0) os x) (eO hP hops [i] σ' I' F' a' w' g3.1 g1 (hH.keep g4.own) (cS.le_trans hl g2) (fun σ2 I2 F2 a2 w2 k1 k2 k3 k4 =>
      kU hP hops x σ2 I2 F2 a2 w2 k3 k1 ((hH.keep g4.own).keep k4.own) (cS.le_trans hl (cS.le_trans g2 k2)) (fun post σ3 I3 F3 a3 w3 m1 m2 m3 m4=>hN post σ3 I3 F3 a3 w3 m1 (cS.le_trans g2 (cS.le_trans k2 m2)) m3 ((g4.trans k4).trans m4))
       fun ch σ3 I3 F3 a3 w3 m1 m2 m3 m4=>hX ch σ3 I3 F3 a3 w3 m1 (cS.le_trans g2 (cS.le_trans k2 m2)) m3 ((g4.trans k4).trans m4)) fun ch σ2 I2 F2 a2 w2 k1 k2 k3 k4=>hX ch σ2 I2 F2 a2 w2 k1 (cS.le_trans g2 k2) k3 (g4.trans k4)),
     jV (R:=Dy P ro ops qk N R (uo own0 I0) os y) (eO hP hops [j] σ' I' F' a' w' g3.2 g1 (hH.keep g4.own) (cS.le_trans hl g2) (fun σ2 I2 F2 a2 w2 k1 k2 k3 k4 =>
      kU hP hops y σ2 I2 F2 a2 w2 k3 k1 ((hH.keep g4.own).keep k4.own) (cS.le_trans hl (cS.le_trans g2 k2)) (fun post σ3 I3 F3 a3 w3 m1 m2 m3 m4=>hN post σ3 I3 F3 a3 w3 m1 (cS.le_trans g2 (cS.le_trans k2 m2)) m3 ((g4.trans k4).trans m4))
       fun ch σ3 I3 F3 a3 w3 m1 m2 m3 m4=>hX ch σ3 I3 F3 a3 w3 m1 (cS.le_trans g2 (cS.le_trans k2 m2)) m3 ((g4.trans k4).trans m4)) fun ch σ2 I2 F2 a2 w2 k1 k2 k3 k4=>hX ch σ2 I2 F2 a2 w2 k1 (cS.le_trans g2 k2) k3 (g4.trans k4))⟩) hX
end
end Go.Vc
namespace Go.Vc
theorem ng:∀{l:List Lf} {vs:List Value},eM l vs=true→vs.length=l.length
 | [],[],_=>rfl
 | l::r,v::vs,h=>by simp only[eM,Bool.and_eq_true] at h;simp[ng h.2]
 | [],_::_,h=>by simp[eM] at h
 | _::_,[],h=>by simp[eM] at h
theorem kG:∀{l m:List Lf} {vs us:List Value},eM l vs=true→eM m us=true→eM (l++m) (vs++us)=true
 | [],_,[],_,_,h=>h
 | l::r,_,v::vs,_,h,k=>by
   simp only[eM,Bool.and_eq_true,List.cons_append] at h ⊢
   exact⟨h.1,kG h.2 k⟩
 | [],_,_::_,_,h,_=>by simp[eM] at h
 | _::_,_,[],_,h,_=>by simp[eM] at h
theorem lq(σ:S):∀tms:List (Nat×Lf),(lp σ tms).length=tms.length
 | []=>rfl
 | (t,l)::r=>by simp[lp,lq σ r]
theorem sM{σ:S}:∀{tms:List (Nat×Lf)} {k t:Nat} {v:Value},yk σ tms=true→(tms.map Prod.fst)[k]? = some t→(lp σ tms)[k]? = some v →
  ∃av,σ.tm[t]? = some (some av)∧av.g=v
 | [],k,t,v,_,h,_=>by simp at h
 | (s,l)::r,0,t,v,hok,h,hv=>by
   simp only[List.map_cons,List.getElem?_cons_zero,Option.some.injEq] at h
   subst h
   simp only[yk,Bool.and_eq_true] at hok
   simp only[lp,List.getElem?_cons_zero,Option.some.injEq] at hv
   obtain⟨h1,_⟩:=hok
   split at h1
   ·rename_i av ha;rw[ha] at hv;exact⟨av,ha,hv⟩
   ·cases h1
 | (s,l)::r,k+1,t,v,hok,h,hv=>by
   simp only[yk,Bool.and_eq_true] at hok
   simp only[lp,List.getElem?_cons_succ] at hv
   exact sM hok.2 (by simpa using h) hv
theorem uL{σ:S}:∀{tms:List (Nat×Lf)},yk σ tms=true→eM (tms.map Prod.snd) (lp σ tms)=true
 | [],_=>rfl
 | (s,l)::r,h=>by
   simp only[yk,Bool.and_eq_true] at h
   simp only[List.map_cons,lp,eM,Bool.and_eq_true]
   refine⟨?_,uL h.2⟩
   obtain⟨h1,_⟩:=h
   split at h1
   ·exact h1
   ·cases h1
theorem uM{own:List dX}:∀{bks:List (Nat×List Lf)},oR own bks=true→eM (bks.flatMap Prod.snd) (oQ own bks)=true
 | [],_=>rfl
 | (s,l)::r,h=>by
   simp only[oR,Bool.and_eq_true] at h
   simp only[List.flatMap_cons,oQ]
   refine kG ?_ (uM h.2)
   obtain⟨h1,_⟩:=h
   split at h1
   ·simp only[Bool.and_eq_true] at h1;exact h1.2
   ·cases h1
theorem sN{σ:S}{c:Cut}(h:σ.Dx c=true):eM c.FW (σ.lM c)=true:=by
 simp only[S.Dx,Bool.and_eq_true] at h
 exact kG (uL h.1) (uM h.2)
theorem w7{own:List dX}:∀{bks:List (Nat×List Lf)} {i:Nat} {b:dX} {cs:List Value},oR own bks=true→own[i]? = some b →
  pD bks (oQ own bks) i=some cs→cs=b.cells.map AV.g
 | [],i,b,cs,_,_,h=>by simp[pD] at h
 | (j,ls)::r,i,b,cs,hok,hi,h=>by
   simp only[oR,Bool.and_eq_true] at hok
   obtain⟨h1,h2⟩:=hok
   split at h1
   ·rename_i b' hb'
    simp only[Bool.and_eq_true] at h1
    have hl:=ng h1.2
    simp only[pD,oQ,hb'] at h
    cases hji:(j==i) with
    | true =>
      rw[hji] at h
      simp only[cond_true,Option.some.injEq] at h
      have:j=i:=by simpa using hji
      subst this
      rw[hi] at hb';cases hb'
      rw[←h,←hl];simp
    | false =>
      rw[hji] at h
      simp only[cond_false] at h
      rw[←hl,List.drop_left] at h
      exact w7 h2 hi h
   ·cases h1
theorem sO:∀{bks:List (Nat×List Lf)} {vs us:List Value} {i:Nat},(pD bks vs i).isSome=(pD bks us i).isSome
 | [],_,_,_=>rfl
 | (j,ls)::r,vs,us,i=>by
   simp only[pD]
   cases (j==i) with
   | true=>rfl
   | false=>exact sO
theorem vC{own:List dX}:∀{bks:List (Nat×List Lf)} {vs:List Value} {i:Nat} {b:dX},oR own bks=true→own[i]? = some b→(pD bks vs i).isSome=true→b.ro=false
 | [],_,_,_,_,_,h=>by simp[pD] at h
 | (j,ls)::r,vs,i,b,hok,hi,h=>by
   simp only[oR,Bool.and_eq_true] at hok
   obtain⟨h1,h2⟩:=hok
   simp only[pD] at h
   cases hji:(j==i) with
   | true =>
     have:j=i:=by simpa using hji
     subst this
     rw[hi] at h1
     simp only[Bool.and_eq_true,Bool.not_eq_true'] at h1
     exact h1.1
   | false=>rw[hji] at h;exact vC h2 hi h
theorem Bq(c:Cut)(l:List Nat)(vs:List Value)(σ:S):jt σ.own (σ.lay c l vs).own:=fun i b hb=>by
 refine⟨_,by show (eZ _ _ 0 σ.own)[i]? = _;rw[fW,hb];rfl, ?_⟩
 split<;>rfl
theorem Br{c:Cut}{l:List Nat}{vs:List Value}{σ:S}(hok:oR σ.own c.bks=true):dy σ (σ.lay c l vs):=fun i b hb=>by
 refine⟨_,by show (eZ _ _ 0 σ.own)[i]? = _;rw[fW,hb];rfl, ?_⟩
 cases hs:pD c.bks (vs.drop c.tms.length) (0+i) with
 | none=>exact⟨rfl,rfl,fun _=>⟨rfl,rfl⟩⟩
 | some cs =>
   refine⟨rfl,rfl,fun hr=>?_⟩
   have:=vC (vs:=vs.drop c.tms.length) hok hb (by rw[Nat.zero_add] at hs;rw[hs];rfl)
   rw[this] at hr;cases hr
theorem Rel.lay{σ0 σ:S}{I0 I:cS}{F0 F:cR}{a0 a:Act}{w0 w:World}(c:Cut)(l:List Nat)(hr0:Rel σ0 I0 F0 a0 w0)(hr:Rel σ I F a w)
  (hown:∀(i:Nat) (b:dX),σ0.own[i]? = some b→∃b':dX,σ.own[i]? = some b'∧b'.num=b.num∧b'.elem=b.elem ∧
    (pD c.bks ((σ.lM c).drop c.tms.length) i=none→b'.cells=b.cells))
  (htm:∀t,t∉l→a.tmps[t]? = a0.tmps[t]?) (hsz:a.tmps.size=a0.tmps.size) (hok:σ.Dx c=true) (hdf:σ.df=σ0.df):Rel (σ0.lay c l (σ.lM c)) I F a w:=by
 have hok':=hok
 simp only[S.Dx,Bool.and_eq_true] at hok'
 have hdrop:(σ.lM c).drop c.tms.length=oQ σ.own c.bks:=by
  unfold S.lM;rw[←lq σ c.tms,List.drop_left]
 have htake:(σ.lM c).take c.tms.length=lp σ c.tms:=by
  unfold S.lM;rw[←lq σ c.tms,List.take_left]
 have hsame:=Bq c l (σ.lM c) σ0
 refine⟨?_, ?_,hr.defers.trans (by rw[hdf];rfl), ?_, ?_, ?_⟩
 ·simp only[S.lay,oC,oB];rw[hr0.size,hsz]
 ·intro t av ht
  rcases mm _ _ _ t av ht with ⟨k,v,h1,h2,rfl⟩ | h
  ·rw[htake] at h2
   obtain⟨av',h3,h4⟩:=sM hok'.1 h1 h2
   have:=hr.tm t av' h3
   rw[this,h4];rfl
  ·obtain⟨h1,h2⟩:=oS _ _ _ _ h
   rw[htm t h1];exact hr0.tm t av h2
 ·intro t av ht
  rcases mm _ _ _ t av ht with ⟨k,v,h1,h2,rfl⟩ | h
  ·trivial
  ·obtain⟨h1,h2⟩:=oS _ _ _ _ h
   exact AV.fg hsame (hr0.wft t av h2)
 ·intro i b hb cell hc
  have hb':(eZ c.bks ((σ.lM c).drop c.tms.length) 0 σ0.own)[i]? = some b:=hb
  rw[fW] at hb'
  cases h0:σ0.own[i]? with
  | none=>rw[h0] at hb';simp at hb'
  | some b0 =>
    rw[h0] at hb'
    simp only[Option.map_some,Option.some.injEq] at hb'
    subst hb'
    split at hc
    ·obtain⟨v,_,rfl⟩:=List.mem_map.1 hc;trivial
    ·exact AV.fg hsame (hr0.wfo i b0 h0 cell hc)
 ·have heq:du (σ0.lay c l (σ.lM c)).own=(du σ.own).take σ0.own.length:=by
   apply List.ext_getElem?
   intro i
   simp only[du,List.getElem?_map,List.getElem?_take,S.lay,fW,Nat.zero_add]
   cases h0:σ0.own[i]? with
   | none =>
     have:¬i<σ0.own.length:=fun h=>by simp[h] at h0
     simp[this]
   | some b0 =>
     have hlt:i<σ0.own.length:=by
      rcases Nat.lt_or_ge i σ0.own.length with h | h
      ·exact h
      ·simp[List.getElem?_eq_none h] at h0
     obtain⟨b',h1,h2,h3,h4⟩:=hown i b0 h0
     simp only[if_pos hlt,h1,Option.map_some]
     cases hs:pD c.bks ((σ.lM c).drop c.tms.length) i with
     | none =>
       have h5:=h4 hs
       simp[dX.obj,h2,h3,h5]
     | some cs =>
       have h5:=w7 hok'.2 h1 (by rw[hdrop] at hs;exact hs)
       simp[dX.obj,h2,h3,h5,AV.g,At.g,Function.comp_def]
  rw[heq]
  exact hr.sat.sub ((List.take_sublist _ _).append (List.Sublist.refl F))
theorem sP(own0:List dX):∀(i:Nat) (own:List dX),du (zo own0 i own)=du own
 | _,[]=>rfl
 | i,b::r=>by
   simp only[zo,du,List.map_cons]
   have:=sP own0 (i+1) r
   unfold du at this
   rw[this]
   congr 1
   split<;>rfl
theorem w9(own0:List dX)(own:List dX):jt own (zo own0 0 own):=fun i b hb=>by
 refine⟨_,by rw[nM,hb];rfl, ?_⟩
 split<;>rfl
theorem Rel.unlock{σ σ0:S}{I:cS}{F:cR}{a:Act}{w:World}(h:Rel σ I F a w):Rel (σ.unlock σ0) I F a w:=by
 refine h.heap (w9 _ _) ?_ (by rw[sP];exact h.sat)
 intro i b hb c hc
 rw[nM] at hb
 cases h0:σ.own[i]? with
 | none=>rw[h0] at hb;simp at hb
 | some b0 =>
   rw[h0] at hb
   simp only[Option.map_some,Option.some.injEq] at hb
   have:b.cells=b0.cells:=by rw[←hb];split<;>rfl
   rw[this] at hc
   exact AV.fg (w9 _ _) (h.wfo i b0 h0 c hc)
theorem qX{σ0 σ:S}{c:Cut}{l:List Nat}{vs:List Value}(hok:oR σ0.own c.bks=true)(hk:dy (σ0.lay c l vs) σ):dy σ0 (σ.unlock σ0):=fun i b hb=>by
 obtain⟨b1,h1,e1,e2,h2⟩:=Br (l:=l) (vs:=vs) hok i b hb
 obtain⟨b2,h3,e3,e4,h4⟩:=hk i b1 h1
 refine⟨{ b2 with ro:=b.ro }, ?_,e3.trans e1,e4.trans e2,fun hr=>?_⟩
 ·show (zo σ0.own 0 σ.own)[i]? = _
  rw[nM,h3,Nat.zero_add,hb];rfl
 ·obtain⟨h5,h6⟩:=h2 hr
  exact⟨hr,(h4 h5).2.trans h6⟩
def gK(bks:List (Nat×List Lf)):Nat→List dX→List dX
 | _,[]=>[]
 | i,b::r=>(match pD bks [] i with
   | some _=>b
   | none=>{ b with ro:=true })::gK bks (i+1) r
def S.lock(σ:S)(c:Cut):S:={ σ with own:=gK c.bks 0 σ.own }
theorem kV(bks:List (Nat×List Lf)):∀(i:Nat) (own:List dX) (j:Nat),(gK bks i own)[j]? = (own[j]?).map fun b =>
  match pD bks [] (i+j) with
  | some _=>b
  | none=>{ b with ro:=true }
 | i,[],j=>by simp[gK]
 | i,b::r,0=>by simp only[gK,List.getElem?_cons_zero,Option.map_some,Nat.add_zero]
 | i,b::r,j+1=>by
   simp only[gK,List.getElem?_cons_succ]
   rw[kV bks (i+1) r j,show i+1+j=i+(j+1) by omega]
theorem uN(bks:List (Nat×List Lf)):∀(i:Nat) (own:List dX),du (gK bks i own)=du own
 | _,[]=>rfl
 | i,b::r=>by
   simp only[gK,du,List.map_cons]
   have:=uN bks (i+1) r
   unfold du at this
   rw[this]
   congr 1
   split<;>rfl
theorem rM{σ:S}{c:Cut}{i:Nat}{b:dX}(hb:σ.own[i]? = some b):∃b',(σ.lock c).own[i]? = some b'∧b'.num=b.num∧b'.elem=b.elem∧b'.cells=b.cells ∧
  (b.ro=true→b'.ro=true)∧(pD c.bks [] i=none→b'.ro=true):=by
 refine⟨_,by show (gK _ 0 σ.own)[i]? = _;rw[kV,hb];rfl, ?_⟩
 rw[Nat.zero_add]
 cases pD c.bks [] i with
 | none=>exact⟨rfl,rfl,rfl,fun _=>rfl,fun _=>rfl⟩
 | some cs=>exact⟨rfl,rfl,rfl,fun h=>h,fun h=>by cases h⟩
theorem Rel.lock{σ:S}{I:cS}{F:cR}{a:Act}{w:World}(h:Rel σ I F a w)(c:Cut):Rel (σ.lock c) I F a w:=by
 have hs:jt σ.own (σ.lock c).own:=fun i b hb=>by
  obtain⟨b',h1,h2,_⟩:=rM (c:=c) hb
  exact⟨b',h1,h2⟩
 refine h.heap hs ?_ (by show Sat I (du (gK _ 0 _)++F) w;rw[uN];exact h.sat)
 intro i b hb cell hc
 cases h0:σ.own[i]? with
 | none =>
   have h1:(gK c.bks 0 σ.own)[i]? = some b:=hb
   rw[kV,h0] at h1;simp at h1
 | some b0 =>
   obtain⟨b',h1,_,_,h2,_⟩:=rM (c:=c) h0
   have:b'=b:=Option.some.inj (h1.symm.trans hb)
   subst this
   rw[h2] at hc
   exact AV.fg hs (h.wfo i b0 h0 cell hc)
theorem ee{σ0 σ:S}{c:Cut}(hk:dy (σ0.lock c) σ):dy σ0 (σ.unlock σ0):=fun i b hb=>by
 obtain⟨b1,h1,e1,e2,h2,h3,_⟩:=rM (c:=c) hb
 obtain⟨b2,h4,e3,e4,h5⟩:=hk i b1 h1
 refine⟨{ b2 with ro:=b.ro }, ?_,e3.trans e1,e4.trans e2,fun hr=>⟨hr,(h5 (h3 hr)).2.trans h2⟩⟩
 show (zo σ0.own 0 σ.own)[i]? = _
 rw[nM,h4,Nat.zero_add,hb];rfl
def S.fh(σ:S):S:=σ.lock ⟨[],[],fun _ _ _ _ _ _ _=>True,[],[]⟩
theorem fy(σ:S):uq σ.fh.own σ.fh:=fun j b hb=>by
 refine⟨b,hb,rfl,rfl,rfl, ?_⟩
 have hb':(gK [] 0 σ.own)[j]? = some b:=hb
 rw[kV] at hb'
 cases h0:σ.own[j]? with
 | none=>rw[h0] at hb';simp at hb'
 | some b0 =>
   rw[h0] at hb'
   simp only[Option.map_some,pD,Option.some.injEq] at hb'
   rw[←hb']
theorem kW(σ:S):σ.fh.own.length=σ.own.length:=by
 have h:∀(i:Nat) (own:List dX),(gK [] i own).length=own.length:=by
  intro i own
  induction own generalizing i with
  | nil=>rfl
  | cons b r ih=>simp[gK,ih]
 exact h 0 σ.own
theorem xa{P:Program}{A:oq}{rid:Nat}{ops:Array Oper}{ro:Option Nat}(hP:∀f,A.good f=true→dG P f){id:Nat}{os pre post:List Nat}{σ:S}{I:cS}{F:cR}{K:S→cS→cR→Prop}{Kp:List PanicEntry→S→cS→cR→Prop}{a:Act}{w:World}(hm:P.follows .mixedOrders=true)
  (hB:D1 ops qk os pre post=true) (h:kE P A rid ops (fun ch σ' I' F'=>Kp ch ((σ'.unlock σ).qW ops) I' F') os I σ.own.length pre σ.fh I F fun σ' I' F'=>ie P A rid ops (fun ch σ' I' F'=>Kp ch (σ'.qW ops) I' F') post (σ'.unlock σ) I' F' K) (hr:Rel σ I F a w) {Q:Exit→Act→World→Prop}
  (hQ:∀σ' I' F' a' w',Rel σ' I' F' a' w'→cS.le I I'→K σ' I' F'→dw (dE ops.toList) σ a σ' a'→Q .normal a' w')
  (hX:∀ch σ' I' F' a' w',Rel σ' I' F' a' w'→cS.le I I'→Kp ch σ' I' F'→dw (dE ops.toList) σ a σ' a'→Q (.panic ch) a' w'):(Code.region id ops true).wpIn (Fw ro) 0 P Q a w:=by
 have hops:∀(i:Nat) (o:Oper),ops[i]? = some o→gB o.op=true:=fun i o ho=>by
  have hm:o∈ops.toList:=by have:=Array.mem_of_getElem? ho;simpa using this
  simp only[D1,Bool.and_eq_true] at hB
  have:=List.all_eq_true.1 hB.2 o hm
  simp only[Bool.and_eq_true] at this
  exact this.1
 have hr1:Rel σ I F a { w with drawn:=w.drawn+1 }:=hr.s.rel (hr.sat.of_heap rfl ⟨rfl,rfl⟩)
 have hr':Rel σ.fh I F a { w with drawn:=w.drawn+1 }:=hr1.lock _
 rw[←kW] at h
 have hg:=eO (ro:=ro) (N:=Pn.at ops a Q) (R:=rA P ro ops qk (Qx (Pn.at ops a Q) fun a w=>Q .normal a w) post) hP hops pre σ.fh I F a _ h hr' (fy σ) (cS.le_refl I) (fun σ' I' F' a' w' h1 h2 h3 h4 =>
  eN (ro:=ro) (Q:=Qx (Pn.at ops a Q) fun a w=>Q .normal a w) hP hops post (σ'.unlock σ) I' F' a' w' h3 h1.unlock (fun σ2 I2 F2 a2 w2 g1 g2 g3 g4 =>
   hQ σ2 I2 F2 a2 w2 g1 (cS.le_trans h2 g2) g3 (((⟨ee h4.own,h4.tm,h4.size⟩:dw (dE ops.toList) σ a (σ'.unlock σ) a')).trans g4)) fun ch σ2 I2 F2 a2 w2 g1 g2 g3 g4=>Pn.ok hX g1 (cS.le_trans h2 g2) g3 (((⟨ee h4.own,h4.tm,h4.size⟩:dw (dE ops.toList) σ a (σ'.unlock σ) a')).trans g4))
  fun ch σ' I' F' a' w' h1 h2 h3 h4=>Pn.ok hX h1.unlock h2 h3 (⟨ee h4.own,h4.tm,h4.size⟩:dw (dE ops.toList) σ a (σ'.unlock σ) a')
 exact wpIn_mono (wpIn_region_any hm (uJ hB ((fy σ).inv hr' (cS.le_refl I)) hg)) fun e a' w' hq=>by
  cases e with
  | normal=>exact hq
  | panic ch=>exact hq.2 a' hq.1 rfl
  | _=>exact hq.elim
def cS.del(I:cS)(b:Nat):cS:=⟨fun x=>if x=b then none else I x,I.os,I.out⟩
theorem Sat.Bt{I I':cS}{F:cR}{w:World}{b:Nat}{o:Obj}(hb:I b=none)(hl:cS.le (I.put b o) I')(h:Sat I' F w):cS.le I (I'.del b)∧Sat (I'.del b) ((b,o)::F) w:=by
 have ho:I' b=some o:=hl.at (by simp[cS.put])
 refine⟨⟨fun x y hx=>?_,hl.2.1,hl.2.2⟩,fun x y hx=>?_,fun x y hx=>?_,fun x y hx=>?_, ?_,h.env⟩
 ·have hne:x≠b:=fun e=>by rw[e,hb] at hx;cases hx
  show (if x=b then none else I' x)=some y
  rw[if_neg hne]
  exact hl.at (by simp[cS.put,hne,hx])
 ·have hx:(if x=b then none else I' x)=some y:=hx
  split at hx
  ·cases hx
  ·exact h.imm _ _ hx
 ·rcases List.mem_cons.1 hx with e | hx
  ·cases e;exact h.imm _ _ ho
  ·exact h.own _ _ hx
 ·show (if x=b then none else I' x)=none
  split
  ·rfl
  ·rename_i hne
   rcases List.mem_cons.1 hx with e | hx
   ·cases e;exact absurd rfl hne
   ·exact h.off _ _ hx
 ·rw[List.map_cons,List.nodup_cons]
  refine⟨fun hm=>?_,h.nd⟩
  obtain⟨⟨x,y⟩,hx,rfl⟩:=List.mem_map.1 hm
  have:=h.off _ _ hx
  rw[this] at ho;cases ho
theorem xb{P:Program}{A:oq}{rid:Nat}{ops:Array Oper}{ro:Option Nat}(hP:∀f,A.good f=true→dG P f){id:Nat}{os pre post:List Nat}{σ:S}{I:cS}{F F1:cR}{b:Nat}{o:Obj}{K:S→cS→cR→Prop}{Kp:List PanicEntry→S→cS→cR→Prop}{a:Act}{w:World}(hm:P.follows .mixedOrders=true)
  (hB:D1 ops qk os pre post=true) (hp:F.Perm ((b,o)::F1)) (h:kE P A rid ops (fun ch σ' I' F'=>Kp ch ((σ'.unlock σ).qW ops) (I'.del b) ((b,o)::F')) os (I.put b o) σ.own.length pre σ.fh (I.put b o) F1 fun σ' I' F'=>ie P A rid ops (fun ch σ' I' F'=>Kp ch (σ'.qW ops) I' F') post (σ'.unlock σ) (I'.del b) ((b,o)::F') K) (hr:Rel σ I F a w) {Q:Exit→Act→World→Prop}
  (hQ:∀σ' I' F' a' w',Rel σ' I' F' a' w'→cS.le I I'→K σ' I' F'→dw (dE ops.toList) σ a σ' a'→Q .normal a' w')
  (hX:∀ch σ' I' F' a' w',Rel σ' I' F' a' w'→cS.le I I'→Kp ch σ' I' F'→dw (dE ops.toList) σ a σ' a'→Q (.panic ch) a' w'):(Code.region id ops true).wpIn (Fw ro) 0 P Q a w:=by
 have hops:∀(i:Nat) (o:Oper),ops[i]? = some o→gB o.op=true:=fun i o ho=>by
  have hm:o∈ops.toList:=by have:=Array.mem_of_getElem? ho;simpa using this
  simp only[D1,Bool.and_eq_true] at hB
  have:=List.all_eq_true.1 hB.2 o hm
  simp only[Bool.and_eq_true] at this
  exact this.1
 have hsat:Sat I ((b,o)::(du σ.own++F1)) w:=hr.sat.perm ((hp.append_left _).trans List.perm_middle)
 have hIb:I b=none:=hsat.off _ _ (.head _)
 have hr1:Rel σ (I.put b o) F1 a { w with drawn:=w.drawn+1 }:=hr.s.rel (hsat.kR.2.of_heap rfl ⟨rfl,rfl⟩)
 have hr':Rel σ.fh (I.put b o) F1 a { w with drawn:=w.drawn+1 }:=hr1.lock _
 rw[←kW] at h
 have hdem:∀{σ':S} {I':cS} {F':cR} {a':Act} {w':World},Rel σ' I' F' a' w'→cS.le (I.put b o) I'→cS.le I (I'.del b)∧Rel (σ'.unlock σ) (I'.del b) ((b,o)::F') a' w':=fun h1 h2=>by
  have hu:=h1.unlock (σ0:=σ)
  obtain⟨d1,d2⟩:=Sat.Bt hIb h2 hu.sat
  exact⟨d1,hu.s.rel (d2.perm List.perm_middle.symm)⟩
 have hg:=eO (ro:=ro) (N:=Pn.at ops a Q) (R:=rA P ro ops qk (Qx (Pn.at ops a Q) fun a w=>Q .normal a w) post) hP hops pre σ.fh (I.put b o) F1 a _ h hr' (fy σ) (cS.le_refl _) (fun σ' I' F' a' w' h1 h2 h3 h4=>by
  obtain⟨d1,hu'⟩:=hdem h1 h2
  exact eN (ro:=ro) (Q:=Qx (Pn.at ops a Q) fun a w=>Q .normal a w) hP hops post (σ'.unlock σ) (I'.del b) ((b,o)::F') a' w' h3 hu' (fun σ2 I2 F2 a2 w2 g1 g2 g3 g4 =>
   hQ σ2 I2 F2 a2 w2 g1 (cS.le_trans d1 g2) g3 (((⟨ee h4.own,h4.tm,h4.size⟩:dw (dE ops.toList) σ a (σ'.unlock σ) a')).trans g4)) fun ch σ2 I2 F2 a2 w2 g1 g2 g3 g4=>Pn.ok hX g1 (cS.le_trans d1 g2) g3 (((⟨ee h4.own,h4.tm,h4.size⟩:dw (dE ops.toList) σ a (σ'.unlock σ) a')).trans g4))
  fun ch σ' I' F' a' w' h1 h2 h3 h4=>Pn.ok hX (hdem h1 h2).2 (hdem h1 h2).1 h3 (⟨ee h4.own,h4.tm,h4.size⟩:dw (dE ops.toList) σ a (σ'.unlock σ) a')
 exact wpIn_mono (wpIn_region_any hm (uJ hB ((fy σ).inv hr' (cS.le_refl _)) hg)) fun e a' w' hq=>by
  cases e with
  | normal=>exact hq
  | panic ch=>exact hq.2 a' hq.1 rfl
  | _=>exact hq.elim
theorem zu{b:Bool}{p q:Prop}(h:cond b p q):p∨q:=by
 cases b
 ·exact .inr h
 ·exact .inl h
theorem zw{ops:Array Oper}{os:List Nat}{t:Ot}(hB:D3 ops qk os t=true):∀(i:Nat) (o:Oper),ops[i]? = some o→gB o.op=true:=fun i o ho=>by
 have hm:o∈ops.toList:=by have:=Array.mem_of_getElem? ho;simpa using this
 simp only[D3,Bool.and_eq_true] at hB
 have:=List.all_eq_true.1 hB.2 o hm
 simp only[Bool.and_eq_true] at this
 exact this.1
theorem xc{P:Program}{A:oq}{rid:Nat}{ops:Array Oper}{ro:Option Nat}(hP:∀f,A.good f=true→dG P f){id:Nat}{os:List Nat}{t:Ot}{σ:S}{I:cS}{F:cR}{K:S→cS→cR→Prop}{Kp:List PanicEntry→S→cS→cR→Prop}{a:Act}{w:World}(hm:P.follows .mixedOrders=true)
  (hB:D3 ops qk os t=true) (h:sK P A rid ops (fun ch σ' I' F'=>Kp ch ((σ'.unlock σ).qW ops) I' F') os I σ.own.length (fun post σ' I' F'=>ie P A rid ops (fun ch σ' I' F'=>Kp ch (σ'.qW ops) I' F') post (σ'.unlock σ) I' F' K) t σ.fh I F) (hr:Rel σ I F a w) {Q:Exit→Act→World→Prop}
  (hQ:∀σ' I' F' a' w',Rel σ' I' F' a' w'→cS.le I I'→K σ' I' F'→dw (dE ops.toList) σ a σ' a'→Q .normal a' w')
  (hX:∀ch σ' I' F' a' w',Rel σ' I' F' a' w'→cS.le I I'→Kp ch σ' I' F'→dw (dE ops.toList) σ a σ' a'→Q (.panic ch) a' w'):(Code.region id ops true).wpIn (Fw ro) 0 P Q a w:=by
 have hops:=zw hB
 have hr1:Rel σ I F a { w with drawn:=w.drawn+1 }:=hr.s.rel (hr.sat.of_heap rfl ⟨rfl,rfl⟩)
 have hr':Rel σ.fh I F a { w with drawn:=w.drawn+1 }:=hr1.lock _
 rw[←kW] at h
 have hg:=kU (ro:=ro) (N:=Pn.at ops a Q) (R:=fun a w=>Q .normal a w) hP hops t σ.fh I F a _ h hr' (fy σ) (cS.le_refl I) (fun post σ' I' F' a' w' h1 h2 h3 h4 =>
  eN (ro:=ro) (Q:=Qx (Pn.at ops a Q) fun a w=>Q .normal a w) hP hops post (σ'.unlock σ) I' F' a' w' h3 h1.unlock (fun σ2 I2 F2 a2 w2 g1 g2 g3 g4 =>
   hQ σ2 I2 F2 a2 w2 g1 (cS.le_trans h2 g2) g3 (((⟨ee h4.own,h4.tm,h4.size⟩:dw (dE ops.toList) σ a (σ'.unlock σ) a')).trans g4)) fun ch σ2 I2 F2 a2 w2 g1 g2 g3 g4=>Pn.ok hX g1 (cS.le_trans h2 g2) g3 (((⟨ee h4.own,h4.tm,h4.size⟩:dw (dE ops.toList) σ a (σ'.unlock σ) a')).trans g4))
  fun ch σ' I' F' a' w' h1 h2 h3 h4=>Pn.ok hX h1.unlock h2 h3 (⟨ee h4.own,h4.tm,h4.size⟩:dw (dE ops.toList) σ a (σ'.unlock σ) a')
 exact wpIn_mono (wpIn_region_any hm (uK hB ((fy σ).inv hr' (cS.le_refl I)) hg)) fun e a' w' hq=>by
  cases e with
  | normal=>exact hq
  | panic ch=>exact hq.2 a' hq.1 rfl
  | _=>exact hq.elim
theorem vD{P:Program}{A:oq}{rid:Nat}{ops:Array Oper}{ro:Option Nat}(hP:∀f,A.good f=true→dG P f){id:Nat}{os:List Nat}{t:Ot}{σ:S}{I:cS}{F F1:cR}{b:Nat}{o:Obj}{K:S→cS→cR→Prop}{Kp:List PanicEntry→S→cS→cR→Prop}{a:Act}{w:World}(hm:P.follows .mixedOrders=true)
  (hB:D3 ops qk os t=true) (hp:F.Perm ((b,o)::F1)) (h:sK P A rid ops (fun ch σ' I' F'=>Kp ch ((σ'.unlock σ).qW ops) (I'.del b) ((b,o)::F')) os (I.put b o) σ.own.length (fun post σ' I' F'=>ie P A rid ops (fun ch σ' I' F'=>Kp ch (σ'.qW ops) I' F') post (σ'.unlock σ) (I'.del b) ((b,o)::F') K) t σ.fh (I.put b o) F1) (hr:Rel σ I F a w) {Q:Exit→Act→World→Prop}
  (hQ:∀σ' I' F' a' w',Rel σ' I' F' a' w'→cS.le I I'→K σ' I' F'→dw (dE ops.toList) σ a σ' a'→Q .normal a' w')
  (hX:∀ch σ' I' F' a' w',Rel σ' I' F' a' w'→cS.le I I'→Kp ch σ' I' F'→dw (dE ops.toList) σ a σ' a'→Q (.panic ch) a' w'):(Code.region id ops true).wpIn (Fw ro) 0 P Q a w:=by
 have hops:=zw hB
 have hsat:Sat I ((b,o)::(du σ.own++F1)) w:=hr.sat.perm ((hp.append_left _).trans List.perm_middle)
 have hIb:I b=none:=hsat.off _ _ (.head _)
 have hr1:Rel σ (I.put b o) F1 a { w with drawn:=w.drawn+1 }:=hr.s.rel (hsat.kR.2.of_heap rfl ⟨rfl,rfl⟩)
 have hr':Rel σ.fh (I.put b o) F1 a { w with drawn:=w.drawn+1 }:=hr1.lock _
 rw[←kW] at h
 have hdem:∀{σ':S} {I':cS} {F':cR} {a':Act} {w':World},Rel σ' I' F' a' w'→cS.le (I.put b o) I'→cS.le I (I'.del b)∧Rel (σ'.unlock σ) (I'.del b) ((b,o)::F') a' w':=fun h1 h2=>by
  have hu:=h1.unlock (σ0:=σ)
  obtain⟨d1,d2⟩:=Sat.Bt hIb h2 hu.sat
  exact⟨d1,hu.s.rel (d2.perm List.perm_middle.symm)⟩
 have hg:=kU (ro:=ro) (N:=Pn.at ops a Q) (R:=fun a w=>Q .normal a w) hP hops t σ.fh (I.put b o) F1 a _ h hr' (fy σ) (cS.le_refl _) (fun post σ' I' F' a' w' h1 h2 h3 h4=>by
  obtain⟨d1,hu'⟩:=hdem h1 h2
  exact eN (ro:=ro) (Q:=Qx (Pn.at ops a Q) fun a w=>Q .normal a w) hP hops post (σ'.unlock σ) (I'.del b) ((b,o)::F') a' w' h3 hu' (fun σ2 I2 F2 a2 w2 g1 g2 g3 g4 =>
   hQ σ2 I2 F2 a2 w2 g1 (cS.le_trans d1 g2) g3 (((⟨ee h4.own,h4.tm,h4.size⟩:dw (dE ops.toList) σ a (σ'.unlock σ) a')).trans g4)) fun ch σ2 I2 F2 a2 w2 g1 g2 g3 g4=>Pn.ok hX g1 (cS.le_trans d1 g2) g3 (((⟨ee h4.own,h4.tm,h4.size⟩:dw (dE ops.toList) σ a (σ'.unlock σ) a')).trans g4))
  fun ch σ' I' F' a' w' h1 h2 h3 h4=>Pn.ok hX (hdem h1 h2).2 (hdem h1 h2).1 h3 (⟨ee h4.own,h4.tm,h4.size⟩:dw (dE ops.toList) σ a (σ'.unlock σ) a')
 exact wpIn_mono (wpIn_region_any hm (uK hB ((fy σ).inv hr' (cS.le_refl _)) hg)) fun e a' w' hq=>by
  cases e with
  | normal=>exact hq
  | panic ch=>exact hq.2 a' hq.1 rfl
  | _=>exact hq.elim
abbrev Kt:=Exit→S→cS→cR→Prop
def EZ(N:S→cS→cR→Prop)(K:Kt):Kt
 | .normal,σ,I,F=>N σ I F
 | e,σ,I,F=>K e σ I F
def Bu(id:Nat)(K:Kt):Kt
 | .exit id',σ,I,F=>cond (id'==id) (K .normal σ I F) (K (.exit id') σ I F)
 | e,σ,I,F=>K e σ I F
def E0(K:Kt):Kt
 | .goto _,_,_,_=>False
 | e,σ,I,F=>K e σ I F
def GQ(σ0:S)(N:S→cS→cR→Prop)(K:Kt):Kt
 | .normal,σ,I,F=>N σ I F
 | e,σ,I,F=>K e (σ.unlock σ0) I F
def S.fix(σ:S)(c:Cut):List Value:=c.fx.map fun t=>σ.cv (.tmp t)
def CN(σ σ':S)(X:Prop):Prop:=cond (σ.df.isEmpty&&σ'.df.isEmpty) X (σ'.df=σ.df∧X)
theorem xd{σ σ':S}{X:Prop}(h:CN σ σ' X):σ'.df=σ.df∧X:=by
 unfold CN at h
 cases hc:(σ.df.isEmpty&&σ'.df.isEmpty) with
 | true =>
   rw[hc] at h
   simp only[Bool.and_eq_true,List.isEmpty_iff] at hc
   exact⟨by rw[hc.1,hc.2],h⟩
 | false=>rw[hc] at h;exact h
def D4:List (Option Nat)→Option Nat→Bool
 | [],_=>false
 | none::r,none=>true
 | some a::r,some b=>a==b||D4 r (some b)
 | _::r,x=>D4 r x
def dd:List (Option Nat)→List (Option Nat)
 | []=>[]
 | x::r=>cond (D4 (dd r) x) (dd r) (x::dd r)
def jmp:List Nat→Code→List (Option Nat)
 | bs,.exit id=>cond (bs.contains id) [] [some id]
 | _,.ret=>[none]
 | bs,.seq a b=>jmp bs a++jmp bs b
 | bs,.cond _ a b=>jmp bs a++jmp bs b
 | bs,.block id c=>jmp (id::bs) c
 | bs,.loop c=>jmp bs c
 | bs,.scope c=>jmp bs c
 | bs,.rangeFunc _ _ _ y=>jmp bs y
 | _,_=>[]
def Gc:List (Option Nat)→(Option Nat→Prop)→Prop
 | [],_=>False
 | x::r,f=>f x∨Gc r f
def yp:Option Nat→Exit
 | none=>.ret
 | some id=>.exit id
def sQ:Option Nat→Code
 | none=>.ret
 | some id=>.exit id
theorem zx:∀{l:List (Option Nat)} {f:Option Nat→Prop},Gc l f→∃j,f j
 | [],_,h=>h.elim
 | x::r,f,h=>by
   rcases h with h | h
   ·exact⟨x,h⟩
   ·exact zx h
def Dz:Sh→(Value→Prop)→Prop
 | .one l,Q=>wK l Q
 | .agg ls,Q=>rY ls fun vs=>Q (.agg vs.toArray)
def yq:List Sh→(List Value→Prop)→Prop
 | [],Q=>Q []
 | s::r,Q=>Dz s fun v=>yq r fun vs=>Q (v::vs)
def Cut.Ge(c:Cut):List Lf:=c.bks.flatMap Prod.snd
def Gf(N:S→cS→cR→Prop):Kt
 | .normal,σ,I,F=>N σ I F
 | _,_,_,_=>False
def D5(L Lb:cR)(Lx:Option Nat→cR)(n0:Nat)(Q:Ending→cS→cR→Prop):Kt
 | .normal,σ,I,F=>∃F3:cR,F.Perm (Lb++F3)∧Q (.returned (.bool true)) I (du (σ.own.take n0)++(L++F3))
 | .ret,σ,I,F=>∃F3:cR,F.Perm (Lb++F3)∧Q (.returned (.bool false)) I (du (σ.own.take n0)++(Lx none++F3))
 | .exit id,σ,I,F=>∃F3:cR,F.Perm (Lb++F3)∧Q (.returned (.bool false)) I (du (σ.own.take n0)++(Lx (some id)++F3))
 | _,_,_,_=>False
def S.round(σ:S)(ct:Cut)(ps:Array Nat)(args vs:List Value):S:={ tm:=iE ps.toList args σ.tm,own:=eZ ct.bks vs 0 σ.own,df:=[] }
def S.after(σ:S)(ct:Cut)(vs:List Value)(D:Nat)(rd:Option cR):S :=
 { tm:=σ.tm,own:=zo σ.own 0 (eZ ct.bks vs 0 σ.own),df:=match rd with
  | none=>.mark D::σ.df
  | some _=>σ.df }
def xe(rd:Option cR)(D:Nat)(F:cR):cR:=match rd with
 | none=>(D,.deferred (some []))::F
 | some _=>F
def E1(rd:Option cR)(F:cR)(X:Prop):Prop:=match rd with
 | none=>X
 | some R=>(∃F3:cR,F.Perm (R++F3))∧X
def Gg(rd:Option cR)(ops:Array Oper):Bool:=match rd with
 | none=>true
 | some _=>ops.toList.all fun o=>sC o.op
def W(P:Program)(A:oq):Option cR→Code→Nat→Kt→S→cS→cR→Prop
 | _,.skip,_,K,σ,I,F=>K .normal σ I F
 | _,.label _,_,K,σ,I,F=>K .normal σ I F
 | _,.exit id,_,K,σ,I,F=>K (.exit id) σ I F
 | _,.goto l,_,K,σ,I,F=>K (.goto l) σ I F
 | _,.ret,_,K,σ,I,F=>K .ret σ I F
 | rd,.region rid ops false,_,K,σ,I,F=>cond (Gg rd ops) (vu P A rid ops ops.toList 0 σ I F (K .normal) (fun ch=>K (.panic ch))) False
 | _,.region rid ops true,_,K,σ,I,F=>match A.ot rid with
   | some (os,t)=>cond (P.follows .mixedOrders&&D3 ops qk os t)
      (cond (os.contains 1000)
        (∃(b:Nat) (o:Obj) (F1:cR),F.Perm ((b,o)::F1)∧sK P A rid ops (fun ch σ' I' F'=>K (.panic ch) ((σ'.unlock σ).qW ops) (I'.del b) ((b,o)::F')) os (I.put b o) σ.own.length (fun post σ' I' F'=>ie P A rid ops (fun ch σ' I' F'=>K (.panic ch) (σ'.qW ops) I' F') post (σ'.unlock σ) (I'.del b) ((b,o)::F') (K .normal)) t σ.fh (I.put b o) F1)
        (sK P A rid ops (fun ch σ' I' F'=>K (.panic ch) ((σ'.unlock σ).qW ops) I' F') os I σ.own.length (fun post σ' I' F'=>ie P A rid ops (fun ch σ' I' F'=>K (.panic ch) (σ'.qW ops) I' F') post (σ'.unlock σ) I' F' (K .normal)) t σ.fh I F)) False
   | none=>match A.sq rid with
      | some l=>match A.s2 rid with
        | none=>match A.ol rid with
          | none=>cond (P.follows .mixedOrders&&EX ops qk l) (ie P A rid ops (fun ch σ' I' F'=>K (.panic ch) (σ'.qW ops) I' F') l σ I F (K .normal)) False
          | some (os,m)=>cond (P.follows .mixedOrders&&D1 ops qk os (l.take m) (l.drop m))
            (cond (os.contains 1000)
              (∃(b:Nat) (o:Obj) (F1:cR),F.Perm ((b,o)::F1)∧kE P A rid ops (fun ch σ' I' F'=>K (.panic ch) ((σ'.unlock σ).qW ops) (I'.del b) ((b,o)::F')) os (I.put b o) σ.own.length (l.take m) σ.fh (I.put b o) F1 fun σ' I' F'=>ie P A rid ops (fun ch σ' I' F'=>K (.panic ch) (σ'.qW ops) I' F') (l.drop m) (σ'.unlock σ) (I'.del b) ((b,o)::F') (K .normal))
              (kE P A rid ops (fun ch σ' I' F'=>K (.panic ch) ((σ'.unlock σ).qW ops) I' F') os I σ.own.length (l.take m) σ.fh I F fun σ' I' F'=>ie P A rid ops (fun ch σ' I' F'=>K (.panic ch) (σ'.qW ops) I' F') (l.drop m) (σ'.unlock σ) I' F' (K .normal))) False
        | some (p,q,lA,lB)=>cond (P.follows .mixedOrders&&Bp ops qk l p q lA lB)
          (ie P A rid ops (fun ch σ' I' F'=>K (.panic ch) (σ'.qW ops) I' F') l σ I F fun σ' I' F'=>ie P A rid ops (fun ch σ' I' F'=>K (.panic ch) (σ'.qW ops) I' F') (p::lA) σ' I' F' (K .normal)∧ie P A rid ops (fun ch σ' I' F'=>K (.panic ch) (σ'.qW ops) I' F') (q::lB) σ' I' F' (K .normal)) False
      | none=>match A.tl rid with
        | some m=>cond (P.follows .mixedOrders&&(pE ops m&&(ops.toList.all (fun o=>gB o.op)&&qT (ops.extract 0 m))))
          (wD P A rid (ops.extract 0 m) (match A.ds rid with | none=>m | some (n,_)=>n) (match A.ds rid with | none=>[] | some (_,hid)=>hid) (ops.extract 0 m).toList 0 σ I F fun σ' F' =>
            vu P A rid ops (ops.toList.drop m) m σ' I F' (K .normal) (fun ch=>K (.panic ch))) False
        | none=>cond (P.follows .mixedOrders&&qT ops)
          (match A.ds rid with
            | none=>wD P A rid ops ops.size [] ops.toList 0 σ I F fun σ' F'=>K .normal σ' I F'
            | some (n,hid)=>wD P A rid ops n hid ops.toList 0 σ I F fun σ' F'=>K .normal σ' I F') False
 | rd,.cond c x y,n,K,σ,I,F=>match σ.ev c with
   | some (.a (.v (.bool b)))=>(match b with
     | true=>W P A rd x (n+1) K σ I F
     | false=>W P A rd y (n+1+sz x) K σ I F)
   | _=>False
 | rd,.block id c,n,K,σ,I,F=>W P A rd c (n+1) (Bu id K) σ I F
 | rd,.seq x y,n,K,σ,I,F=>match A.cut n with
   | none=>W P A rd x (n+1) (EZ (W P A rd y (n+1+sz x) K) K) σ I F
   | some ct=>cond (oR σ.own ct.bks)
     (W P A rd x (n+1) (GQ σ (fun σ' I' F'=>cond (σ'.Dx ct) (CN σ σ' (ct.Inv (σ.fix ct) I F (σ'.lM ct) 0 I' F')) False) K) (σ.lock ct) I F ∧
       rY ct.FW fun vs=>∀(I':cS) (F':cR),cS.le I I'→ct.Inv (σ.fix ct) I F vs 0 I' F'→W P A rd y (n+1+sz x) K ((σ.lay ct (me x) vs).unlock σ) I' F') False
 | rd,.loop c,n,K,σ,I,F=>match A.cut n with
   | none=>False
   | some ct=>cond (σ.Dx ct)
     ((∃m,ct.Inv (σ.fix ct) I F (σ.lM ct) m I F) ∧
       rY ct.FW fun vs=>∀(m:Nat) (I':cS) (F':cR),cS.le I I'→ct.Inv (σ.fix ct) I F vs m I' F' →
        W P A rd c (n+1) (GQ σ (fun σ' I' F'=>cond (σ'.Dx ct) (CN σ σ' (∃m',m'<m∧ct.Inv (σ.fix ct) I F (σ'.lM ct) m' I' F')) False) K) (σ.lay ct (me c) vs) I' F') False
 | rd,.scope c,n,K,σ,I,F=>W P A rd c (n+1) (E0 K) σ I F
 | rd,.rangeFunc g ps x y,n,K,σ,I,F=>match A.cut n,σ.ev g with
   | some ct,some gv=>cond (oR σ.own ct.bks&&ct.ps.length==ps.size)
     (E1 rd F (∀(Y:Fn) (L Lb:cR) (Lx:Option Nat→cR) (D:Nat),
       (yq ct.ps fun args=>rY ct.Ge fun vs=>∀(I':cS) (F':cR) (Q:Ending→cS→cR→Prop),cS.le I I' →
         W P A (some L) x (n+1) (Gf fun σ1 I1 F1=>∃F2:cR,F1.Perm (L++F2) ∧
          W P A (some Lb) y (n+1+sz x) (D5 L Lb Lx σ.own.length Q) σ1 I1 (Lb++F2)) (σ.round ct ps args vs) I' (L++F') →
         iS P (.func Y #[] #[]) args I' (du (eZ ct.bks vs 0 σ.own)++(L++F')) Q) →
       CF P gv.g [.func Y #[] #[]] I (du σ.own++(L++F)) fun e I' G=>∃r,e=.returned r ∧
        ((ya ct.Ge fun vs=>∃F':cR,G.Perm (du (eZ ct.bks vs 0 σ.own)++(L++F'))∧K .normal (σ.after ct vs D rd) I' (xe rd D F')) ∨
          Gc (dd (jmp [] y)) fun j=>ya ct.Ge fun vs=>∃F':cR,G.Perm (du (eZ ct.bks vs 0 σ.own)++(Lx j++F'))∧K (yp j) (σ.after ct vs D rd) I' (xe rd D F')))) False
   | _,_=>False
 | _,_,_,_,_,_,_=>False
def sR(l:List Nat)(σ:S)(a:Act)(I:cS)(K:Kt)(e:Exit)(a':Act)(w':World):Prop :=
 ∃σ' I' F',Rel σ' I' F' a' w'∧cS.le I I'∧K e σ' I' F'∧dw l σ a σ' a'
theorem Af{F:Fence}{n:Nat}{P:Program}{Q:Exit→Act→World→Prop}{c:Code}{a:Act}{w:World}(J:Nat→Act→World→Prop)(h0:∃m,J m a w)
  (round:∀m a w,J m a w→c.wpIn F n P (Exit.then (fun a' w'=>∃m',m'<m∧J m' a' w') Q) a w):(Code.loop c).wpIn F n P Q a w:=by
 intro b k cs hro hb hr
 have key:∀j a w,J j a w→∃e a' w',Q e a' w'∧ArrivesIn (Machine.fenced P F) P (lone (b.atR a (.code c :: .inLoop c::k)) cs w) b k cs e a' w':=by
  intro j
  induction j using Nat.strongRecOn with
  | _ j ih =>
    intro a w hJ
    obtain⟨e,a₁,w₁,hq,harr⟩:=round j a w hJ b (.inLoop c::k) cs hro hb hr
    cases e with
    | normal =>
      obtain⟨m',hlt,hJ'⟩:=hq
      obtain⟨e₂,a₂,w₂,hq₂,harr₂⟩:=ih m' hlt a₁ w₁ hJ'
      exact⟨e₂,a₂,w₂,hq₂,.of_steps (StepsIn.trans harr (.one (fenced_calm hb hr rfl) stepR_inLoop)) harr₂⟩
    | exit id=>exact⟨_,a₁,w₁,hq,.pass (x:=.inLoop c) rfl (fun _ _=>.inl (by simp)) harr⟩
    | goto l=>exact⟨_,a₁,w₁,hq,.pass (x:=.inLoop c) rfl (fun _ _=>.inl (by simp)) harr⟩
    | ret=>exact⟨_,a₁,w₁,hq,.pass (x:=.inLoop c) rfl (fun _ _=>.inl (by simp)) harr⟩
    | panic ch=>exact⟨_,a₁,w₁,hq,.pass (x:=.inLoop c) rfl (fun _ _=>.inl (by simp)) harr⟩
    | outgrown=>exact⟨_,a₁,w₁,hq,.pass (x:=.inLoop c) rfl (fun _ _=>.inl (by simp)) harr⟩
 obtain⟨m,hm⟩:=h0
 obtain⟨e,a',w',hq,harr⟩:=key m a w hm
 exact⟨e,a',w',hq,.of_steps (.one (fenced_calm hb hr rfl) stepR_loop) harr⟩
theorem iN{P:Program}{b:Frame}{a:Act}{k:List Item}{cs:List Frame}{w:World}{c:Code}:step P (lone (b.atR a (.code (.scope c)::k)) cs w)=.next (lone (b.atR a (.code c :: .inScope c::k)) cs w) :=
 step_lone_go (by simp[stepG,stepG.exec,Frame.atR])
theorem uu{P:Program}{b:Frame}{a:Act}{k:List Item}{cs:List Frame}{w:World}{c:Code}:step P (lone (b.atR a (.inScope c::k)) cs w)=.next (lone (b.atR a k) cs w) :=
 step_lone_go (by simp[stepG,stepG.exec,Frame.atR])
theorem ou{F:Fence}{n:Nat}{P:Program}{Q:Exit→Act→World→Prop}{c:Code}{a:Act}{w:World}(h:c.wpIn F n P (Exit.noGoto Q) a w):(Code.scope c).wpIn F n P Q a w:=by
 intro b k cs hro hb hr
 have h0:(lone (b.atR a (.code (.scope c)::k)) cs w).fenced P F:=fenced_calm hb hr rfl
 obtain⟨e,a₁,w₁,hq,harr⟩:=h b (.inScope c::k) cs hro hb hr
 cases e with
 | normal=>exact⟨.normal,a₁,w₁,hq,.head h0 iN (StepsIn.trans harr (.one (fenced_calm hb hr rfl) uu))⟩
 | exit id =>
   have hx:exitTo id (.inScope c::k)=exitTo id k:=by simp[exitTo]
   exact⟨.exit id,a₁,w₁,hq,fun k' hk=>.head h0 iN (harr.1 k' (by rw[hx];exact hk)),
    fun hr' hk=>let ⟨k₁,h1,h2⟩:=harr.2 hr' (by rw[hx];exact hk);⟨k₁,h1,.head h0 iN h2⟩⟩
 | goto l=>exact hq.elim
 | ret=>exact⟨_,a₁,w₁,hq,.of_steps (.one h0 iN) harr⟩
 | panic ch=>exact⟨_,a₁,w₁,hq,.of_steps (.one h0 iN) harr⟩
 | outgrown=>exact⟨_,a₁,w₁,hq,.of_steps (.one h0 iN) harr⟩
theorem qY{l:Lf}{Q:Value→Prop}(h:∀v,Q v):wK l Q:=by cases l<;>intro<;>first | exact h _ | (intros;exact h _)
theorem nh:∀{l:List Lf} {Q:List Value→Prop},(∀vs,vs.length=l.length→Q vs)→rY l Q
 | [],Q,h=>h [] rfl
 | l::r,Q,h=>qY fun v=>nh fun vs hv=>h (v::vs) (by simp[hv])
theorem xf{s:Sh}{Q:Value→Prop}(h:∀v,Q v):Dz s Q:=by
 cases s with
 | one l=>exact qY h
 | agg ls=>exact nh fun vs _=>h _
theorem pI:∀{l:List Sh} {Q:List Value→Prop},(∀vs,vs.length=l.length→Q vs)→yq l Q
 | [],Q,h=>h [] rfl
 | l::r,Q,h=>xf fun v=>pI fun vs hv=>h (v::vs) (by simp[hv])
def Ctx(ro:Option Nat):Option cR→Prop
 | none=>ro=none
 | some R=>∃l r,ro=some l∧(l,Obj.loop r)∈R
def x6(rd:Option cR)(D:Nat):cR:=match rd with
 | none=>[(D,.deferred (some []))]
 | some _=>[]
def E2(rd:Option cR)(D:Nat):List Deferred:=match rd with
 | none=>[(Df.mark D).d]
 | some _=>[]
theorem Bv(rd:Option cR)(D:Nat)(F:cR):xe rd D F=x6 rd D++F:=by cases rd<;>rfl
section
variable {P:Program} {A:oq}
theorem xg{w:World}{l₀:Nat}{r₀:Loop}(h:w.heap[l₀]? = some (.loop r₀))(fn:FuncId)(tmps:Array Value)(ps:Array Tmp)(assign body:Code) :
  (Instr.enterLoop fn tmps ps assign body (some l₀)).run P w =
    .ok (w.heap.size,[]) (w.alloc (.loop { state:=.ready,pending:=none,fn,tmps,params:=ps,assign,body,defers:=r₀.defers })):=by
 unfold Instr.enterLoop
 simp only[Sem.run_bind,run_getLoop h,run_newObj_alloc,Result.andThen,Sem.run_pure]
theorem Bw{rd:Option cR}{F:cR}{X:Prop}(h:E1 rd F X):(∀R,rd=some R→∃F3:cR,F.Perm (R++F3))∧X:=by
 cases rd with
 | none=>exact⟨fun R e=>(by cases e),h⟩
 | some R=>exact⟨fun R' e=>(by cases e;exact h.1),h.2⟩
theorem Ag{rd:Option cR}{ro:Option Nat}{I:cS}{G:cR}{w:World}(hctx:Ctx ro rd)(hrd:∀R,rd=some R→∃F3:cR,G.Perm (R++F3))(hs:Sat I G w)
  (fn:FuncId) (tmps:Array Value) (ps:Array Tmp) (x y:Code) :
  ∃(l D d:Nat) (w1:World),(Instr.enterLoop fn tmps ps x y ro).run P w=.ok (l,E2 rd D) w1 ∧
   Sat I ((l,Obj.loop { state:=.ready,pending:=none,fn,tmps,params:=ps,assign:=x,body:=y,defers:=d })::(x6 rd D++G)) w1:=by
 cases rd with
 | none =>
   obtain rfl:ro=none:=hctx
   have h1:=hs.alloc (.deferred (some []))
   have h2:=h1.alloc (.loop { state:=.ready,pending:=none,fn,tmps,params:=ps,assign:=x,body:=y,defers:=w.heap.size })
   refine⟨w.heap.size+1,w.heap.size,w.heap.size,_,run_enterLoop_outer fn tmps ps x y, ?_⟩
   have:({ w with heap:=w.heap.push (Obj.deferred (some [])) }:World).heap.size=w.heap.size+1:=by simp
   rw[this] at h2
   exact h2
 | some R =>
   obtain⟨l0,r0,rfl,hm⟩:=hctx
   obtain⟨F3,hp⟩:=hrd R rfl
   have hin:w.heap[l0]? = some (.loop r0):=hs.own _ _ (hp.mem_iff.2 (List.mem_append_left _ hm))
   exact⟨w.heap.size,0,r0.defers,_,xg hin fn tmps ps x y,hs.alloc _⟩
theorem Sat.rN{I:cS}{b:Nat}{o:Obj}{G:cR}{w:World}(h:Sat I ((b,o)::G) w):w.heap[b]? = some o:=h.own _ _ (List.mem_cons_self ..)
theorem Sat.pJ{I:cS}{b:Nat}{o o':Obj}{G:cR}{w:World}(h:Sat I ((b,o)::G) w):Sat I ((b,o')::G) (w.putObj b o'):=h.set rfl ⟨rfl,rfl⟩
theorem xh:∀(ts:List Nat) (vs:List Value) (tm:List (Option AV)) (tmps:Array Value),tm.length=tmps.size→(∀(t:Nat) (av:AV),tm[t]? = some (some av)→tmps[t]? = some av.g) →
  (iE ts vs tm).length=((ts.zip vs).foldl (fun (a:Array Value) (x:Nat×Value)=>a.setIfInBounds x.1 x.2) tmps).size ∧
  ∀(t:Nat) (av:AV),(iE ts vs tm)[t]? = some (some av)→((ts.zip vs).foldl (fun (a:Array Value) (x:Nat×Value)=>a.setIfInBounds x.1 x.2) tmps)[t]? = some av.g
 | [],vs,tm,tmps,hl,h=>by simp only[iE,List.zip_nil_left,List.foldl_nil];exact⟨hl,h⟩
 | s::ts,[],tm,tmps,hl,h=>by simp only[iE,List.zip_nil_right,List.foldl_nil];exact⟨hl,h⟩
 | s::ts,v::vs,tm,tmps,hl,h=>by
   simp only[iE,List.zip_cons_cons,List.foldl_cons]
   refine xh ts vs _ _ (by simp[hl]) fun t av ht=>?_
   rw[List.getElem?_set] at ht
   rw[Array.getElem?_setIfInBounds]
   by_cases hst:s=t
   ·subst hst
    simp only[if_true] at ht ⊢
    split at ht
    ·rename_i hlt;cases ht;rw[hl] at hlt;simp[hlt,AV.g,At.g]
    ·cases ht
   ·simp only[if_neg hst] at ht ⊢;exact h t av ht
theorem qZ(bks:List (Nat×List Lf))(vs:List Value)(own:List dX):jt own (eZ bks vs 0 own):=fun i b hb=>by
 refine⟨match pD bks vs (0+i) with
  | some cs=>{ b with cells:=cs.map fun v=>.a (.v v) }
  | none=>{ b with ro:=true },by rw[fW,hb];rfl, ?_⟩
 split<;>rfl
theorem Ah{bks:List (Nat×List Lf)}{vs:List Value}{own:List dX}(h:∀(i:Nat) (b:dX),own[i]? = some b→∀c∈b.cells,AV.wf own c) :
  ∀(i:Nat) (b:dX),(eZ bks vs 0 own)[i]? = some b→∀c∈b.cells,AV.wf (eZ bks vs 0 own) c:=by
 intro i b hb c hc
 rw[fW] at hb
 cases ho:own[i]? with
 | none=>rw[ho] at hb;cases hb
 | some b0 =>
   rw[ho] at hb
   simp only[Option.map_some,Option.some.injEq] at hb
   subst hb
   split at hc
   ·simp only[List.mem_map] at hc
    obtain⟨v,_,rfl⟩:=hc
    trivial
   ·exact AV.fg (qZ _ _ _) (h i b0 ho c hc)
theorem Rel.round{σ:S}{I I':cS}{F F':cR}{a:Act}{w w':World}(hr:Rel σ I F a w)(ct:Cut)(ps:Array Nat)(args vs:List Value)
  (hs:Sat I' (du (eZ ct.bks vs 0 σ.own)++F') w') :
  Rel (σ.round ct ps args vs) I' F' { tmps:=(ps.toList.zip args).foldl (fun (a:Array Value) (x:Nat×Value)=>a.setIfInBounds x.1 x.2) a.tmps,defers:=[] } w':=by
 obtain⟨h1,h2⟩:=xh ps.toList args σ.tm a.tmps hr.size hr.tm
 refine⟨h1,h2,rfl,fun t av ht=>?_,Ah hr.wfo,hs⟩
 rcases mm _ _ _ _ _ ht with ⟨k,v,_,_,rfl⟩ | ht
 ·trivial
 ·exact AV.fg (qZ _ _ _) (hr.wft t av ht)
theorem uO{σ:S}{ct:Cut}{vs:List Value}{i:Nat}:(zo σ.own 0 (eZ ct.bks vs 0 σ.own))[i]? = (σ.own[i]?).map fun b =>
  match pD ct.bks vs i with
  | some cs=>{ b with cells:=cs.map fun v=>.a (.v v) }
  | none=>b:=by
 rw[nM,fW]
 cases hb:σ.own[i]? with
 | none=>rfl
 | some b =>
   simp only[Option.map_some,Nat.zero_add,hb]
   cases pD ct.bks vs i<;>rfl
theorem sS{σ:S}{ct:Cut}{vs:List Value}{D:Nat}{rd:Option cR}(hok:oR σ.own ct.bks=true):dy σ (σ.after ct vs D rd):=by
 intro i b hb
 have e:(σ.after ct vs D rd).own[i]? = _:=uO
 rw[hb] at e
 cases hs:pD ct.bks vs i with
 | none=>rw[hs] at e;exact⟨b,e,rfl,rfl,fun h=>⟨h,rfl⟩⟩
 | some cs =>
   rw[hs] at e
   have hro:=vC (vs:=vs) hok hb (by rw[hs];rfl)
   exact⟨_,e,rfl,rfl,fun h=>by rw[hro] at h;cases h⟩
theorem Rel.after{σ:S}{I I':cS}{F F':cR}{a:Act}{w w':World}(hr:Rel σ I F a w){ct:Cut}{vs:List Value}{D:Nat}{rd:Option cR}(hok:oR σ.own ct.bks=true)
  (hs:Sat I' (du (eZ ct.bks vs 0 σ.own)++F') w'):Rel (σ.after ct vs D rd) I' F' { a with defers:=E2 rd D++a.defers } w':=by
 have hk:jt σ.own (σ.after ct vs D rd).own:=(sS hok).same
 refine⟨hr.size,hr.tm, ?_,fun t av ht=>AV.fg hk (hr.wft t av ht), ?_, ?_⟩
 ·show E2 rd D++a.defers=_
  rw[hr.defers];cases rd<;>rfl
 ·intro i b hb c hc
  have e:(σ.after ct vs D rd).own[i]? = _:=uO
  rw[hb] at e
  cases ho:σ.own[i]? with
  | none=>rw[ho] at e;cases e
  | some b0 =>
    rw[ho] at e
    simp only[Option.map_some,Option.some.injEq] at e
    subst e
    split at hc
    ·simp only[List.mem_map] at hc
     obtain⟨v,_,rfl⟩:=hc
     trivial
    ·exact AV.fg hk (hr.wfo i b0 ho c hc)
 ·show Sat I' (du (zo σ.own 0 (eZ ct.bks vs 0 σ.own))++F') w'
  rw[sP];exact hs
theorem Ai(own:List dX)(n:Nat):(du (own.take n)).Sublist (du own):=(List.take_sublist n own).map _
theorem gV{A B C:cR}:(A++(B++C)).Perm (B++(A++C)):=List.perm_append_comm_assoc A B C
theorem Aj{F:Fence}{n:Nat}{Q:Exit→Act→World→Prop}{a:Act}{w:World}(j:Option Nat)(h:Q (yp j) a w):(sQ j).wpIn F n P Q a w:=by
 cases j with
 | none=>exact wpIn_ret h
 | some id=>exact wpIn_exit h
theorem xi{x y:Code}(ih1:∀(n:Nat) (K:Kt) (rd:Option cR) (ro:Option Nat) (σ:S) (I:cS) (F:cR) (a:Act) (w:World),Ctx ro rd→W P A rd x n K σ I F→Rel σ I F a w→x.wpIn (Fw ro) 0 P (sR (me x) σ a I K) a w)
  (ih2:∀(n:Nat) (K:Kt) (rd:Option cR) (ro:Option Nat) (σ:S) (I:cS) (F:cR) (a:Act) (w:World),Ctx ro rd→W P A rd y n K σ I F→Rel σ I F a w→y.wpIn (Fw ro) 0 P (sR (me y) σ a I K) a w)
  {g:Operand} {ps:Array Tmp} {n:Nat} {K:Kt} {rd:Option cR} {ro:Option Nat} {σ:S} {I:cS} {F:cR} {a:Act} {w:World} (hctx:Ctx ro rd)
  (h:W P A rd (.rangeFunc g ps x y) n K σ I F) (hr:Rel σ I F a w):(Code.rangeFunc g ps x y).wpIn (Fw ro) 0 P (sR (me (.rangeFunc g ps x y)) σ a I K) a w:=by
 simp only[W] at h
 split at h
 case h_2=>exact h.elim
 rename_i ct gv hcut hg
 obtain⟨hb,h⟩:=dp h
 simp only[Bool.and_eq_true,beq_iff_eq] at hb
 obtain⟨hok,hlen⟩:=hb
 obtain⟨hrd,h⟩:=Bw h
 refine wpIn_rangeFunc fun fn hfn=>?_
 obtain⟨l,D,d,w1,hrun,hsat⟩:=Ag (P:=P) (rd:=rd) (ro:=ro) hctx (G:=du σ.own++F) (fun R hR=>by
  obtain⟨F3,hp⟩:=hrd R hR
  exact⟨du σ.own++F3,(List.Perm.append_left _ hp).trans gV⟩) hr.sat fn a.tmps ps x y
 generalize hrec:({ state:=.ready,pending:=none,fn,tmps:=a.tmps,params:=ps,assign:=x,body:=y,defers:=d }:Loop)=rec at hsat
 have r1:rec.fn=fn:=by rw[←hrec]
 have r2:rec.tmps=a.tmps:=by rw[←hrec]
 have r3:rec.params=ps:=by rw[←hrec]
 have r4:rec.assign=x:=by rw[←hrec]
 have r5:rec.body=y:=by rw[←hrec]
 have r6:rec.state=.ready:=by rw[←hrec]
 have r7:rec.pending=none:=by rw[←hrec]
 have rback:({ rec with state:=.ready,pending:=none }:Loop)=rec:=by rw[←hrec]
 let L:cR:=(l,.loop rec)::x6 rd D
 let Lb:cR:=(l,.loop { rec with state:=.busy })::x6 rd D
 let Lx:Option Nat→cR:=fun j=>(l,.loop { rec with state:=.done,pending:=some (sQ j) })::x6 rd D
 have hsat':Sat I (du σ.own++(L++F)) w1:=by
  refine hsat.perm ?_
  show (([(l,Obj.loop rec)]++x6 rd D)++(du σ.own++F)).Perm _
  exact gV
 have hTr:=h (.yield l) L Lb Lx D (pI fun args hargs=>nh fun vs hvs I' F' Q hle hW=>by
  intro w2 hs2
  refine .inr ⟨l,rfl, ?_⟩
  have hl2:w2.heap[l]? = some (.loop rec):=hs2.own _ _ (List.mem_append_right _ (List.mem_append_left _ (List.mem_cons_self ..)))
  have hy:=run_yield (P:=P) (args:=args.toArray) hl2 (by rw[r3];simp[hargs,hlen])
  rw[r1,r2,r3,r4,r5] at hy
  have hz:((ps.zip args.toArray).foldl (fun (tmps:Array Value) (x:Nat×Value)=>tmps.setIfInBounds x.1 x.2) a.tmps)=(ps.toList.zip args).foldl (fun (a:Array Value) (x:Nat×Value)=>a.setIfInBounds x.1 x.2) a.tmps:=by
   rw[←Array.foldl_toList,Array.toList_zip]
  refine⟨_,_,_,_,_,hy,roundIn_of_wpIn (F:=Fence.wide) trivial ?_⟩
  rw[show ((ps.zip args.toArray).foldl (fun (tmps:Array Value) (x:Nat×Value)=>match x with | (t,a)=>tmps.setIfInBounds t a) a.tmps)=(ps.toList.zip args).foldl (fun (a:Array Value) (x:Nat×Value)=>a.setIfInBounds x.1 x.2) a.tmps from hz]
  have hrel:=hr.round ct ps args vs hs2
  refine wpIn_mono (ih1 _ _ (some L) (some l) _ I' _ _ w2 ⟨l,rec,rfl,List.mem_cons_self ..⟩ hW hrel) ?_
  intro e a1 w3 ⟨σ1,I1,F1,g1,g2,g3,g4⟩
  cases e with
  | normal =>
    obtain⟨F2,hp2,hW2⟩:=g3
    have hs3:Sat I1 ((l,.loop rec)::(x6 rd D++(du σ1.own++F2))) w3:=g1.sat.perm ((List.Perm.append_left _ hp2).trans (gV (A:=du σ1.own) (B:=(l,.loop rec)::x6 rd D)))
    refine⟨_,run_beginRound hs3.rN r6, ?_⟩
    have hs4:=hs3.pJ (o':=.loop { rec with state:=.busy })
    have hrel2:Rel σ1 I1 (Lb++F2) a1 (w3.putObj l (.loop { rec with state:=.busy })) :=
     ⟨g1.size,g1.tm,g1.defers,g1.wft,g1.wfo,hs4.perm (gV (A:=(l,.loop { rec with state:=.busy })::x6 rd D) (B:=du σ1.own))⟩
    refine wpIn_mono (ih2 _ _ (some Lb) (some l) _ I1 _ _ _ ⟨l,_,rfl,List.mem_cons_self ..⟩ hW2 hrel2) ?_
    intro e a5 w5 ⟨σ5,I5,F5,k1,k2,k3,k4⟩
    have fin:∀(L':cR) (o':Obj) (b:Bool),L'=(l,o')::x6 rd D→(∃F3:cR,F5.Perm (Lb++F3)∧Q (.returned (.bool b)) I5 (du (σ5.own.take σ.own.length)++(L'++F3))) →
     w5.heap[l]? = some (.loop { rec with state:=.busy })∧sm I' Q (.returned (.bool b)) (w5.putObj l o'):=by
     intro L' o' b hL' ⟨F3,hp3,hq⟩
     subst hL'
     have hs5:Sat I5 ((l,.loop { rec with state:=.busy })::(x6 rd D++(du σ5.own++F3))) w5 :=
      k1.sat.perm ((List.Perm.append_left _ hp3).trans (gV (A:=du σ5.own) (B:=(l,.loop { rec with state:=.busy })::x6 rd D)))
     refine⟨hs5.rN,I5,_,cS.le_trans g2 k2, ?_,hq⟩
     have hs6:=hs5.pJ (o':=o')
     exact (hs6.perm (gV (A:=(l,o')::x6 rd D) (B:=du σ5.own))).sub (List.Sublist.append (Ai _ _) (List.Sublist.refl _))
    cases e with
    | normal =>
      obtain⟨f1,f2⟩:=fin L (.loop rec) true rfl k3
      refine⟨_,_,run_endRound none f1, ?_⟩
      have:({ ({ rec with state:=.busy }:Loop) with state:=if (none:Option Code).isNone then .ready else .done,pending:=none }:Loop)=rec:=rback
      rw[this];exact f2
    | ret =>
      obtain⟨f1,f2⟩:=fin (Lx none) (.loop { rec with state:=.done,pending:=some .ret }) false rfl k3
      exact⟨_,_,run_endRound (some .ret) f1,f2⟩
    | exit id =>
      obtain⟨f1,f2⟩:=fin (Lx (some id)) (.loop { rec with state:=.done,pending:=some (.exit id) }) false rfl k3
      exact⟨_,_,run_endRound (some (.exit id)) f1,f2⟩
    | goto l=>exact k3.elim
    | panic ch=>exact k3.elim
    | outgrown=>exact k3.elim
  | exit id=>exact g3.elim
  | goto l=>exact g3.elim
  | ret=>exact g3.elim
  | panic ch=>exact g3.elim
  | outgrown=>exact g3.elim)
 obtain⟨f,first,cap,hgv,hent,hcall⟩:=hTr w1 hsat'
 have hev:=S.mf hr hg
 refine⟨l,E2 rd D,w1,{ target:=.fn (.func f) cap,args:=first++#[.func (.yield l) #[] #[]] },w1,f,first++#[.func (.yield l) #[] #[]]++cap,w1,hrun, ?_,fun _ _=>trivial, ?_,fun hd=>by simp[Fw,Fence.wide] at hd, ?_⟩
 ·show (Deferred.ofValue (a.eval g) _).run P w1=_
  rw[hev,hgv];simp[Deferred.ofValue,Act.eval]
 ·simp only[invoke];exact hent _ _
 ·refine ((callsIn_wide (n:=0)).2 hcall).mono fun e w3 ⟨I3,G,hle,hs3,r,he,hpost⟩=>?_
  subst he
  have fin:∀(o':Obj) (r':Loop) (jj:Option Code) (L':cR) (vs:List Value) (F':cR) (e':Exit),L'=(l,.loop r')::x6 rd D→r'.pending=jj→r'.state ≠ .busy→G.Perm (du (eZ ct.bks vs 0 σ.own)++(L'++F'))→K e' (σ.after ct vs D rd) I3 (xe rd D F') →
    ∃w4,(Instr.endLoop l).run P w3=.ok jj w4∧sR (me (.rangeFunc g ps x y)) σ a I K e' { a with defers:=E2 rd D++a.defers } w4:=by
   intro o' r' jj L' vs F' e' hL' hj hbusy hp hk
   subst hL';subst hj
   have hs4:Sat I3 ((l,.loop r')::(x6 rd D++(du (eZ ct.bks vs 0 σ.own)++F'))) w3:=hs3.perm (hp.trans (gV (A:=du (eZ ct.bks vs 0 σ.own)) (B:=(l,.loop r')::x6 rd D)))
   refine⟨_,run_endLoop hs4.rN hbusy,σ.after ct vs D rd,I3,xe rd D F', ?_,hle,hk,sS hok,fun _ _=>rfl,rfl⟩
   refine hr.after hok ?_
   rw[Bv]
   exact ((hs4.pJ (o':=.loop { r' with state:=.exhausted })).sub (List.sublist_cons_self _ _)).perm gV
  rcases hpost with hpost | hpost
  ·obtain⟨vs,F',hp,hk⟩:=lI hpost |>.imp fun _ h=>h.2
   obtain⟨w4,h1,h2⟩:=fin (.loop rec) rec none L vs F' .normal rfl r7 (by rw[r6];decide) hp hk
   exact⟨none,w4,h1,h2⟩
  ·obtain⟨j,hpost⟩:=zx hpost
   obtain⟨vs,F',hp,hk⟩:=lI hpost |>.imp fun _ h=>h.2
   obtain⟨w4,h1,h2⟩:=fin (.loop rec) { rec with state:=.done,pending:=some (sQ j) } (some (sQ j)) (Lx j) vs F' (yp j) rfl rfl (fun h=>by cases h) hp hk
   exact⟨some (sQ j),w4,h1,Aj j h2⟩
end
end Go.Vc
namespace Go.Vc
section sound
variable {P:Program} {A:oq}
theorem sR.mono{l l':List Nat}{σ:S}{a:Act}{I:cS}{K K':Kt}{e:Exit}{a':Act}{w':World}(h:sR l σ a I K e a' w')(hl:∀t∈l,t∈l')
  (hk:∀σ I F,K e σ I F→K' e σ I F):sR l' σ a I K' e a' w' :=
 let ⟨σ',I',F',h1,h2,h3,h4⟩:=h
 ⟨σ',I',F',h1,h2,hk _ _ _ h3,h4.mono hl⟩
theorem sR.trans{l m n:List Nat}{σ σ':S}{a a':Act}{I I':cS}{K:Kt}{e:Exit}{a'':Act}{w'':World}(hk:dw l σ a σ' a')(hI:cS.le I I')
  (h:sR m σ' a' I' K e a'' w'') (hl:∀t∈l,t∈n) (hm:∀t∈m,t∈n):sR n σ a I K e a'' w'' :=
 let ⟨σ2,I2,F2,h1,h2,h3,h4⟩:=h
 ⟨σ2,I2,F2,h1,cS.le_trans hI h2,h3,(hk.mono hl).trans (h4.mono hm)⟩
theorem zy(hP:∀f,A.good f=true→dG P f):∀(c:Code) (n:Nat) (K:Kt) (rd:Option cR) (ro:Option Nat) (σ:S) (I:cS) (F:cR) (a:Act) (w:World),Ctx ro rd →
  W P A rd c n K σ I F→Rel σ I F a w→c.wpIn (Fw ro) 0 P (sR (me c) σ a I K) a w:=by
 intro c
 induction c with
 | skip=>intro n K rd ro σ I F a w hc h hr;exact wpIn_skip ⟨σ,I,F,hr,cS.le_refl I,h,dw.refl _ _ _⟩
 | label l=>intro n K rd ro σ I F a w hc h hr;exact wpIn_label ⟨σ,I,F,hr,cS.le_refl I,h,dw.refl _ _ _⟩
 | exit id=>intro n K rd ro σ I F a w hc h hr;exact wpIn_exit ⟨σ,I,F,hr,cS.le_refl I,h,dw.refl _ _ _⟩
 | goto l=>intro n K rd ro σ I F a w hc h hr;exact wpIn_goto ⟨σ,I,F,hr,cS.le_refl I,h,dw.refl _ _ _⟩
 | ret=>intro n K rd ro σ I F a w hc h hr;exact wpIn_ret ⟨σ,I,F,hr,cS.le_refl I,h,dw.refl _ _ _⟩
 | refuse why=>intro n K rd ro σ I F a w hc h hr;exact h.elim
 | scope c ih =>
   intro n K rd ro σ I F a w hc h hr
   refine ou (wpIn_mono (ih _ _ rd ro σ I F a w hc h hr) ?_)
   intro e a' w' ⟨σ',I',F',h1,h2,h3,h4⟩
   cases e with
   | goto l=>exact h3.elim
   | _=>exact⟨σ',I',F',h1,h2,h3,h4⟩
 | rangeFunc f ps x y ih1 ih2=>intro n K rd ro σ I F a w hc h hr;exact xi ih1 ih2 hc h hr
 | region rid ops draw =>
   intro n K rd ro σ I F a w hc h hr
   cases draw with
   | false =>
     obtain⟨hnd,h⟩:=dp h
     have hnd':ro=none∨ops.toList.all (fun o=>sC o.op)=true:=by
      cases rd with
      | none=>exact .inl hc
      | some R=>exact .inr hnd
     refine wpIn_region_list (kD hP ops.toList 0 σ I F a w hnd' h hr ?_ ?_)
     ·exact fun σ' I' F' a' w' h1 h2 h3 h4=>⟨σ',I',F',h1,h2,h3,h4⟩
     ·exact fun ch σ' I' F' a' w' h1 h2 h3 h4=>⟨σ',I',F',h1,h2,h3,h4⟩
   | true =>
     simp only[W] at h
     split at h
     ·rename_i os t hot
      obtain⟨hb,h⟩:=dp h
      simp only[Bool.and_eq_true] at hb
      rcases zu h with ⟨b,o,F1,hp,h⟩ | h
      ·exact vD hP hb.1 hb.2 hp h hr (fun σ' I' F' a' w' h1 h2 h3 h4=>⟨σ',I',F',h1,h2,h3,h4⟩) fun ch σ' I' F' a' w' h1 h2 h3 h4=>⟨σ',I',F',h1,h2,h3,h4⟩
      ·exact xc hP hb.1 hb.2 h hr (fun σ' I' F' a' w' h1 h2 h3 h4=>⟨σ',I',F',h1,h2,h3,h4⟩) fun ch σ' I' F' a' w' h1 h2 h3 h4=>⟨σ',I',F',h1,h2,h3,h4⟩
     split at h
     ·split at h
      ·split at h
       ·obtain⟨hb,h⟩:=dp h
        simp only[Bool.and_eq_true] at hb
        exact yo hP hb.1 hb.2 h hr (fun σ' I' F' a' w' h1 h2 h3 h4=>⟨σ',I',F',h1,h2,h3,h4⟩) fun ch σ' I' F' a' w' h1 h2 h3 h4=>⟨σ',I',F',h1,h2,h3,h4⟩
       ·obtain⟨hb,h⟩:=dp h
        simp only[Bool.and_eq_true] at hb
        rcases zu h with ⟨b,o,F1,hp,h⟩ | h
        ·exact xb hP hb.1 hb.2 hp h hr (fun σ' I' F' a' w' h1 h2 h3 h4=>⟨σ',I',F',h1,h2,h3,h4⟩) fun ch σ' I' F' a' w' h1 h2 h3 h4=>⟨σ',I',F',h1,h2,h3,h4⟩
        ·exact xa hP hb.1 hb.2 h hr (fun σ' I' F' a' w' h1 h2 h3 h4=>⟨σ',I',F',h1,h2,h3,h4⟩) fun ch σ' I' F' a' w' h1 h2 h3 h4=>⟨σ',I',F',h1,h2,h3,h4⟩
      ·obtain⟨hb,h⟩:=dp h
       simp only[Bool.and_eq_true] at hb
       exact wZ hP hb.1 hb.2 h hr (fun σ' I' F' a' w' h1 h2 h3 h4=>⟨σ',I',F',h1,h2,h3,h4⟩) fun ch σ' I' F' a' w' h1 h2 h3 h4=>⟨σ',I',F',h1,h2,h3,h4⟩
     split at h
     ·obtain⟨hb,h⟩:=dp h
      simp only[Bool.and_eq_true] at hb
      exact w6 hP hb.1 hb.2.1 hb.2.2.1 hb.2.2.2 h hr (fun σ' I' F' a' w' h1 h2 h3 h4=>⟨σ',I',F',h1,h2,h3,h4⟩) fun ch σ' I' F' a' w' h1 h2 h3 h4=>⟨σ',I',F',h1,h2,h3,h4⟩
     obtain⟨hb,h⟩:=dp h
     simp only[Bool.and_eq_true] at hb
     have hd:me (.region rid ops true)=dE ops.toList:=rfl
     split at h<;>exact wT hP hb.1 hb.2 h hr fun σ' F' a' w' h1 h2 h3=>⟨σ',I,F',h1,cS.le_refl I,h2,h3⟩
 | cond c x y ih1 ih2 =>
   intro n K rd ro σ I F a w hc h hr
   simp only[W] at h
   split at h
   ·rename_i b hcc
    have hev:=S.mf hr hcc
    simp only[AV.g,At.g] at hev
    refine wpIn_cond hev ?_
    cases b with
    | true=>exact wpIn_mono (ih1 _ K rd ro σ I F a w hc h hr) fun e a' w' hp=>hp.mono (fun t ht=>List.mem_append_left _ ht) fun _ _ _ h=>h
    | false=>exact wpIn_mono (ih2 _ K rd ro σ I F a w hc h hr) fun e a' w' hp=>hp.mono (fun t ht=>List.mem_append_right _ ht) fun _ _ _ h=>h
   ·exact h.elim
 | block id c ih =>
   intro n K rd ro σ I F a w hc h hr
   refine wpIn_block (wpIn_mono (ih _ _ rd ro σ I F a w hc h hr) ?_)
   intro e a' w' ⟨σ',I',F',h1,h2,h3,h4⟩
   cases e with
   | exit id' =>
     simp only[Bu] at h3
     simp only[Exit.inBlock]
     by_cases hid:id'=id
     ·subst hid
      simp only[beq_self_eq_true,cond_true] at h3
      rw[if_pos rfl];exact⟨σ',I',F',h1,h2,h3,h4⟩
     ·have:(id'==id)=false:=by simpa using hid
      rw[this] at h3
      rw[if_neg hid];exact⟨σ',I',F',h1,h2,h3,h4⟩
   | _=>exact⟨σ',I',F',h1,h2,h3,h4⟩
 | seq x y ih1 ih2 =>
   intro n K rd ro σ I F a w hc h hr
   have hx:∀t∈me x,t∈me (.seq x y):=fun t ht=>List.mem_append_left _ ht
   have hy:∀t∈me y,t∈me (.seq x y):=fun t ht=>List.mem_append_right _ ht
   simp only[W] at h
   split at h
   ·refine wpIn_seq (wpIn_mono (ih1 _ _ rd ro σ I F a w hc h hr) ?_)
    intro e a' w' ⟨σ',I',F',h1,h2,h3,h4⟩
    cases e with
    | normal=>exact wpIn_mono (ih2 _ K rd ro σ' I' F' a' w' hc h3 h1) fun e a2 w2 hp=>hp.trans h4 h2 hx hy
    | _=>exact⟨σ',I',F',h1,h2,h3,h4.mono hx⟩
   ·rename_i ct hcut
    obtain⟨hok,h1,h2⟩:=dp h
    refine wpIn_seq (wpIn_mono (ih1 _ _ rd ro _ I F a w hc h1 (hr.lock ct)) ?_)
    intro e a' w' ⟨σ',I',F',g1,g2,g3,g4⟩
    have hother:dy σ (σ'.unlock σ):=ee g4.own
    cases e with
    | normal =>
      obtain⟨hokv,hInv⟩:=dp g3
      obtain⟨hdf,hInv⟩:=xd hInv
      have hrel:Rel (σ.lay ct (me x) (σ'.lM ct)) I' F' a' w':=by
       refine Rel.lay ct (me x) hr g1 ?_ (fun t ht=>g4.tm t ht) g4.size hokv hdf
       intro i b hb
       obtain⟨b1,e1,e2,e3,e4,e5,e6⟩:=rM (c:=ct) hb
       obtain⟨b2,f1,f2,f3,f4⟩:=g4.own i b1 e1
       refine⟨b2,f1,f2.trans e2,f3.trans e3,fun hs=>?_⟩
       have:pD ct.bks [] i=none:=by
        have:=sO (bks:=ct.bks) (vs:=(σ'.lM ct).drop ct.tms.length) (us:=[]) (i:=i)
        rw[hs] at this
        cases h0:pD ct.bks [] i with
        | none=>rfl
        | some cs=>rw[h0] at this;cases this
       exact (f4 (e6 this)).2.trans e4
      have h5:=rZ h2 (sN hokv) I' F' g2 hInv
      have hkeep:dw (me x) σ a ((σ.lay ct (me x) (σ'.lM ct)).unlock σ) a':=by
       refine⟨?_,g4.tm,g4.size⟩
       exact qX hok (dy.refl _)
      exact wpIn_mono (ih2 _ K rd ro _ I' F' a' w' hc h5 hrel.unlock) fun e a2 w2 hp=>hp.trans hkeep g2 hx hy
    | _=>exact⟨_,I',F',g1.unlock,g2,g3,(⟨hother,g4.tm,g4.size⟩:dw (me x) σ a _ a').mono hx⟩
 | loop c ih =>
   intro n K rd ro σ I F a w hc h hr
   simp only[W] at h
   split at h
   ·exact h.elim
   ·rename_i ct hcut
    obtain⟨hokv,⟨m0,h0⟩,h⟩:=dp h
    have hok:oR σ.own ct.bks=true:=by simp only[S.Dx,Bool.and_eq_true] at hokv;exact hokv.2
    refine Af (fun m a1 w1=>∃vs I1 F1,Rel (σ.lay ct (me c) vs) I1 F1 a1 w1∧cS.le I I1∧ct.Inv (σ.fix ct) I F vs m I1 F1∧eM ct.FW vs=true ∧
     (∀t,t∉me c→a1.tmps[t]? = a.tmps[t]?)∧a1.tmps.size=a.tmps.size) ⟨m0,σ.lM ct,I,F, ?_,cS.le_refl I,h0,sN hokv,fun _ _=>rfl,rfl⟩ ?_
    ·exact Rel.lay ct (me c) hr hr (fun i b hb=>⟨b,hb,rfl,rfl,fun _=>rfl⟩) (fun _ _=>rfl) rfl hokv rfl
    ·intro m a1 w1 ⟨vs,I1,F1,r1,r2,r3,r4,r5,r6⟩
     have hb:=rZ h r4 m I1 F1 r2 r3
     refine wpIn_mono (ih _ _ rd ro _ I1 F1 a1 w1 hc hb r1) ?_
     intro e a' w' ⟨σ',I',F',g1,g2,g3,g4⟩
     have hkeep:dw (me c) σ a (σ'.unlock σ) a':=⟨qX hok g4.own,fun t ht=>(g4.tm t ht).trans (r5 t ht),g4.size.trans r6⟩
     cases e with
     | normal =>
       obtain⟨hokv',hInv⟩:=dp g3
       obtain⟨hdf,m',hlt,hInv⟩:=xd hInv
       refine⟨m',hlt,σ'.lM ct,I',F', ?_,cS.le_trans r2 g2,hInv,sN hokv',hkeep.tm,hkeep.size⟩
       refine Rel.lay ct (me c) hr g1 ?_ hkeep.tm hkeep.size hokv' hdf
       intro i b hb
       have e0:(σ.lay ct (me c) vs).own[i]? = some (match pD ct.bks (vs.drop ct.tms.length) (0+i) with
        | some cs=>{ b with cells:=cs.map fun v=>.a (.v v) }
        | none=>{ b with ro:=true }):=by show (eZ _ _ 0 σ.own)[i]? = _;rw[fW,hb];rfl
       obtain⟨b2,f1,f2,f3,f4⟩:=g4.own i _ e0
       refine⟨b2,f1, ?_, ?_,fun hs=>?_⟩
       ·rw[f2];split<;>rfl
       ·rw[f3];split<;>rfl
       ·have hs':pD ct.bks (vs.drop ct.tms.length) (0+i)=none:=by
         rw[Nat.zero_add]
         have:=sO (bks:=ct.bks) (vs:=(σ'.lM ct).drop ct.tms.length) (us:=vs.drop ct.tms.length) (i:=i)
         rw[hs] at this
         cases h0:pD ct.bks (vs.drop ct.tms.length) i with
         | none=>rfl
         | some cs=>rw[h0] at this;cases this
        rw[hs'] at f4
        exact (f4 rfl).2
     | _=>exact⟨_,I',F',g1.unlock,cS.le_trans r2 g2,g3,hkeep⟩
def vG(P:Program)(σ:S):ResultVar→Option Value
 | .tmp t=>match σ.tm[t]? with
   | some (some av)=>some av.g
   | _=>none
 | .cell x t=>match σ.tm[x]? with
   | some (some (.a (.p i _ off))) =>
     match σ.own[i]?,pt P t with
     | some fp,some false=>(fp.cells[off]?).map AV.g
     | some fp,some true=>match uC P t with
       | some n=>cond (((fp.cells.drop off).take n).length==n) (some (.agg (((fp.cells.drop off).take n).map AV.g).toArray)) none
       | none=>none
     | _,_=>none
   | _=>none
def oU(P:Program)(σ:S):List ResultVar→Option (List Value)
 | []=>some []
 | r::rs=>match vG P σ r,oU P σ rs with
   | some v,some vs=>some (v::vs)
   | _,_=>none
def yr:List Value→Value
 | [v]=>v
 | vs=>.tuple vs.toArray
def sT(a:Act):ResultVar→Sem Value
 | .tmp t=>pure (a.tmps.getD t undef)
 | .cell x t=>do loadVar t (←asAddr (a.tmps.getD x undef))
theorem yt{σ:S}{I:cS}{F:cR}{a:Act}{w:World}(hr:Rel σ I F a w){r:ResultVar}{v:Value}(h:vG P σ r=some v) :
  (sT a r).run P w=.ok v w:=by
 cases r with
 | tmp t =>
   simp only[vG] at h
   split at h
   ·rename_i av ht
    have:=hr.tm t av ht
    cases h
    simp[sT,this]
   ·cases h
 | cell x t =>
   simp only[vG] at h
   split at h
   ·rename_i i b off hx
    have hv:=hr.tm x _ hx
    have hwf:=hr.wft x _ hx
    simp only[AV.g,At.g] at hv
    have hl:nc P t σ.own i off fun y=>y.g=v:=by
     unfold nc
     split at h
     ·rename_i fp hb ha
      simp only[hb,ha]
      cases hc:fp.cells[off]? with
      | none=>rw[hc] at h;cases h
      | some av=>rw[hc] at h;simp only[Option.map_some,Option.some.injEq] at h;exact h
     ·rename_i fp hb ha
      simp only[hb,ha]
      split at h
      ·rename_i n hn
       simp only[hn]
       cases hlen:(((fp.cells.drop off).take n).length==n) with
       | false=>rw[hlen] at h;cases h
       | true=>rw[hlen] at h;simp only[cond_true,Option.some.injEq] at h;exact h
      ·cases h
     ·cases h
    obtain⟨av,hg,_,hload⟩:=pz hl
    have:=hload b hwf w fun fp hb=>hr.sat.get hb
    rw[hg] at this
    simp[sT,hv,asAddr,Sem.run_bind,this]
   ·cases h
theorem sU{σ:S}{I:cS}{F:cR}{a:Act}{w:World}(hr:Rel σ I F a w):∀{rs:List ResultVar} {vs:List Value},oU P σ rs=some vs →
  (rs.mapM (sT a)).run P w=.ok vs w
 | [],vs,h=>by simp only[oU,Option.some.injEq] at h;subst h;rfl
 | r::rs,vs,h=>by
   simp only[oU] at h
   split at h
   ·rename_i v us h1 h2
    cases h
    simp[Sem.run_bind,yt hr h1,sU hr h2]
   ·cases h
theorem q8{fn:Func}{σ:S}{I:cS}{F:cR}{a:Act}{w:World}(hr:Rel σ I F a w){vs:List Value}(h:oU P σ fn.results.toList=some vs) :
  (results fn a.tmps).run P w=.ok (yr vs) w:=by
 have h1:=sU hr h
 have h2:results fn a.tmps=(do
   let vs ←fn.results.mapM (sT a)
   pure (if h:vs.size=1 then vs[0] else .tuple vs)):=rfl
 rw[h2,Array.mapM_eq_mapM_toList]
 simp only[Sem.run_bind,Sem.run_map,h1,Result.andThen_ok,Sem.run_pure]
 congr 1
 match vs with
 | []=>rfl
 | [v]=>rfl
 | _::_::_=>rfl
def pick(own:List dX):List Nat→List dX
 | []=>[]
 | i::r=>match own[i]? with
   | some b=>b::pick own r
   | none=>pick own r
def yu:Option (List PanicEntry)→FrameMode
 | none=>.returning
 | some ch=>.panicking ch
def iq(P:Program)(f:FuncId)(args:List Value)(u:FrameMode)(I:cS)(F:cR)(Q:Ending→FrameMode→cS→cR→Prop):Prop :=
 ∀w,Sat I F w→CallsDIn Fence.wide 0 P f args.toArray u w fun e u' w'=>∃I' F',cS.le I I'∧Sat I' F' w'∧Q e u' I' F'
def xj(P:Program)(A:oq)(rs:List ResultVar)(keep:List Nat)(Q:Ending→cS→cR→Prop):List Df→Option (List PanicEntry)→S→cS→cR→Prop
 | [],none,σ,I,F=>match oU P σ rs with
   | some vs=>Q (.returned (yr vs)) I (du (pick σ.own keep)++F)
   | none=>False
 | [],some ch,σ,I,F=>Q (.panicked ch) I (du (pick σ.own keep)++F)
 | .mark D::r,u,σ,I,F=>∃F3:cR,F.Perm ((D,.deferred (some []))::F3)∧xj P A rs keep Q r u σ I F3
 | .fn f first cap args::r,u,σ,I,F=>cond (A.good f)
   (iq P f (first.map At.g++args++cap.map At.g) (yu u) I (du σ.own++F) fun e u' I' G=>∃v,e=.returned v ∧
     pA A.shp (Ga σ.own 2 (first.flatMap At.idx++cap.flatMap At.idx)) 0 σ.own fun own'=>∃F',G.Perm (du own'++F') ∧
      ((settle u'=.returning∧xj P A rs keep Q r none { σ with own:=own' } I' F')∨(∃ch,settle u'=.panicking ch∧xj P A rs keep Q r (some ch) { σ with own:=own' } I' F'))) False
def zz(P:Program)(A:oq)(rs:List ResultVar)(keep:List Nat)(Q:Ending→cS→cR→Prop):Kt
 | .normal,σ,I,F=>xj P A rs keep Q σ.df none σ I F
 | .ret,σ,I,F=>xj P A rs keep Q σ.df none σ I F
 | .panic ch,σ,I,F=>xj P A rs keep Q σ.df (some ch) σ I F
 | _,_,_,_=>False
def CC:Nat→List Nat→Bool
 | _,[]=>true
 | n,i::r=>decide (n≤i)&&CC (i+1) r
theorem sV:∀(keep:List Nat) (n:Nat) (own:List dX),CC n keep=true→(pick own keep).Sublist (own.drop n)
 | [],n,own,_=>by simp[pick]
 | i::r,n,own,h=>by
   simp only[CC,Bool.and_eq_true,decide_eq_true_eq] at h
   have ih:=sV r (i+1) own h.2
   simp only[pick]
   have hd:(own.drop (i+1)).Sublist (own.drop n):=by
    have:own.drop (i+1)=(own.drop n).drop (i+1-n):=by rw[List.drop_drop];congr 1;omega
    rw[this];exact List.drop_sublist _ _
   cases hb:own[i]? with
   | none=>exact ih.trans hd
   | some b =>
     have hlt:i<own.length:=by
      rcases Nat.lt_or_ge i own.length with h' | h'
      ·exact h'
      ·simp[List.getElem?_eq_none h'] at hb
     have hc:own.drop i=b::own.drop (i+1):=by
      rw[List.drop_eq_getElem_cons hlt]
      rw[List.getElem?_eq_getElem hlt] at hb
      rw[Option.some.inj hb]
     have hd':(own.drop i).Sublist (own.drop n):=by
      have:own.drop i=(own.drop n).drop (i-n):=by rw[List.drop_drop];congr 1;omega
      rw[this];exact List.drop_sublist _ _
     exact ((List.Sublist.cons_cons b ih).trans (by rw[hc];exact List.Sublist.refl _)).trans hd'
def kX(args:List AV)(n:Nat):List (Option AV):=args.map some++List.replicate (n-args.length) none
theorem Ak{shp:Nat→List Sh}{σ:S}{I I':cS}{F F' G:cR}{E:List Nat}{a:Act}{w w':World}(hr:Rel σ I F a w){own':List dX}(hsat:Sat I' G w')
  (h:own'.length=σ.own.length∧∀(j:Nat) (b:dX),σ.own[j]? = some b→∃b':dX,own'[j]? = some b'∧b'.num=b.num∧b'.elem=b.elem∧b'.ro=b.ro ∧
    ((∃vs:List Value,b'.cells=vs.map fun v=>.a (.v v))∨b'.cells=b.cells)∧(b.ro=true→b'.cells=b.cells)) (hp:G.Perm (du own'++F')):Rel { σ with own:=own' } I' F' a w':=by
 obtain⟨hl,hk⟩:=h
 have hkeep:dy σ { σ with own:=own' }:=fun j b hb=>by
  obtain⟨b',h1,h2,h3,h4,_,h6⟩:=hk j b hb
  exact⟨b',h1,h2,h3,fun hro=>⟨by rw[h4];exact hro,h6 hro⟩⟩
 refine hr.heap hkeep.same ?_ (hsat.perm hp)
 intro j b' hj c hc
 have hlt:j<σ.own.length:=by
  rcases Nat.lt_or_ge j own'.length with h' | h'
  ·omega
  ·simp[List.getElem?_eq_none h'] at hj
 obtain⟨b,hb⟩:∃b,σ.own[j]? = some b:=⟨σ.own[j],by simp[hlt]⟩
 obtain⟨b'',h1,_,_,_,h5,_⟩:=hk j b hb
 rw[hj] at h1;cases h1
 rcases h5 with ⟨vs,e⟩ | e
 ·rw[e] at hc;obtain⟨v,_,e⟩:=List.mem_map.1 hc;subst e;trivial
 ·rw[e] at hc;exact AV.fg hkeep.same (hr.wfo j b hb c hc)
theorem mr(hP:∀f,A.good f=true→dG P f){fn:Func}{keep:List Nat}(hk:CC 0 keep=true){Q:Ending→cS→cR→Prop}{I0:cS}:∀(df:List Df) (u:Option (List PanicEntry)) (σ:S) (I:cS) (F:cR) (a:Act) (w:World),
  xj P A fn.results.toList keep Q df u σ I F→Rel σ I F a w→cS.le I0 I→LeavesInM Fence.wide 0 P fn a.tmps (sm I0 Q) (df.map Df.d) (yu u) w:=by
 have hsub:∀{σ:S} {I:cS} {F:cR} {a:Act} {w:World},Rel σ I F a w→Sat I (du (pick σ.own keep)++F) w:=fun {σ I F a w} h1=>by
  have h5:=sV keep 0 σ.own hk
  rw[List.drop_zero] at h5
  exact h1.sat.sub ((h5.map _).append (List.Sublist.refl F))
 intro df
 induction df with
 | nil =>
   intro u σ I F a w h hr hle
   cases u with
   | none =>
     simp only[xj] at h
     split at h
     ·rename_i vs hvs
      exact⟨_,q8 hr hvs,I,_,hle,hsub hr,h⟩
     ·exact h.elim
   | some ch=>exact⟨I,_,hle,hsub hr,h⟩
 | cons d df ih =>
   intro u σ I F a w h hr hle
   have hrun:yu u ≠ .run:=by cases u<;>exact fun h=>by cases h
   cases d with
   | mark D =>
     obtain⟨F3,hp,h⟩:=h
     have hs:Sat I ((D,.deferred (some []))::(du σ.own++F3)) w:=(hr.sat.perm (List.Perm.append_left _ hp)).perm List.perm_middle
     refine⟨hrun,.inl ⟨D,_,rfl,run_takeDeferred hs.rN,ih u σ I F3 a _ h ?_ hle⟩⟩
     exact hr.heap (jt.refl _) hr.wfo ((hs.pJ (o':=.deferred none)).sub (List.sublist_cons_self _ _))
   | fn f first cap args =>
     obtain⟨hg,h⟩:=dp h
     refine⟨hrun,.inr ⟨fun h=>by simp[Fence.wide] at h,.func f,(cap.map At.g).toArray,f,(first.map At.g).toArray++args.toArray++(cap.map At.g).toArray,rfl, ?_,fun _ _=>trivial, ?_⟩⟩
     ·simp only[Df.d,invoke];exact hP f hg _ w
     ·have hc:=h w hr.sat
      have ha:(first.map At.g++args++cap.map At.g).toArray=(first.map At.g).toArray++args.toArray++(cap.map At.g).toArray:=by simp
      rw[ha] at hc
      refine hc.mono fun e u' w' ⟨I',G,hle',hs',v,he,hq⟩=>?_
      subst he
      obtain⟨own',⟨F',hp,hor⟩,hown⟩:=lL hq
      have hrel:=Ak (shp:=A.shp) (E:=[]) hr hs' hown hp
      rcases hor with ⟨hm,hk2⟩ | ⟨ch,hm,hk2⟩
      ·have:=ih none _ I' F' a w' hk2 hrel (cS.le_trans hle hle')
       show LeavesInM Fence.wide 0 P fn a.tmps (sm I0 Q) (df.map Df.d) (settle u') w'
       rw[hm];exact this
      ·have:=ih (some ch) _ I' F' a w' hk2 hrel (cS.le_trans hle hle')
       show LeavesInM Fence.wide 0 P fn a.tmps (sm I0 Q) (df.map Df.d) (settle u') w'
       rw[hm];exact this
theorem Bx(hP:∀f,A.good f=true→dG P f){f:FuncId}{fn:Func}{c:Code}(hf:P.funcs[f]? = some fn)(hb:fn.body=some c){args:List AV}{own:List dX}
  {I:cS} {F:cR} {keep:List Nat} {Q:Ending→cS→cR→Prop} (hk:CC 0 keep=true) (hwa:∀x∈args,AV.wf own x) (hwo:∀b∈own,∀x∈b.cells,AV.wf own x)
  (h:W P A none c 0 (zz P A fn.results.toList keep Q) ⟨kX args fn.ntmps,own,[]⟩ I F) {vs:Array Value} (hv:vs=(args.map AV.g).toArray):cZ P f vs I (du own++F) Q:=by
 subst hv
 intro w hw
 refine callsIn_wide.1 (callsIn_of_wp_marks (n:=0) hf hb trivial ?_)
 have hrel:Rel ⟨kX args fn.ntmps,own,[]⟩ I F { tmps:=(args.map AV.g).toArray++Array.replicate (fn.ntmps-(args.map AV.g).toArray.size) undef,defers:=[] } w:=by
  refine⟨by simp[kX], ?_,rfl, ?_, ?_,hw⟩
  ·intro t av ht
   simp only[kX,List.getElem?_append] at ht
   split at ht
   ·rename_i hlt
    simp only[List.getElem?_map] at ht
    cases ha:args[t]? with
    | none=>rw[ha] at ht;simp at ht
    | some x =>
      rw[ha] at ht
      simp only[Option.map_some,Option.some.injEq] at ht
      subst ht
      simp at hlt
      rw[Array.getElem?_append_left (by simpa using hlt)]
      simp[ha]
   ·rw[List.getElem?_replicate] at ht;split at ht<;>cases ht
  ·intro t av ht
   simp only[kX,List.getElem?_append] at ht
   split at ht
   ·simp only[List.getElem?_map] at ht
    cases ha:args[t]? with
    | none=>rw[ha] at ht;simp at ht
    | some x =>
      rw[ha] at ht
      simp only[Option.map_some,Option.some.injEq] at ht
      subst ht
      exact hwa _ (List.mem_of_getElem? ha)
   ·rw[List.getElem?_replicate] at ht;split at ht<;>cases ht
  ·exact fun i b hb' x hx=>hwo b (List.mem_of_getElem? hb') x hx
 refine wpIn_mono (zy hP c 0 _ none none _ I F _ w rfl h hrel) ?_
 intro e a' w' ⟨σ',I',F',h1,h2,h3,h4⟩
 cases e with
 | normal =>
   have:=mr hP hk σ'.df none σ' I' F' a' w' h3 h1 h2
   rw[←h1.defers] at this;exact this
 | ret =>
   have:=mr hP hk σ'.df none σ' I' F' a' w' h3 h1 h2
   rw[←h1.defers] at this;exact this
 | panic ch =>
   have:=mr hP hk σ'.df (some ch) σ' I' F' a' w' h3 h1 h2
   rw[←h1.defers] at this;exact this
 | exit id=>exact h3.elim
 | goto l=>exact h3.elim
 | outgrown=>exact h3.elim
end sound
def sW(P:Program)(f:Nat):Bool :=
 match P.funcs[f]? with
 | some fn=>!(fn.name == "runtime.NumGoroutine")&&fn.body.isSome
 | none=>false
theorem iV{P:Program}{f:Nat}(h:sW P f=true):dG P f:=by
 intro args w
 unfold sW at h
 split at h
 ·rename_i fn hf
  simp only[Bool.and_eq_true,Bool.not_eq_true'] at h
  have h1:¬fn.name = "runtime.NumGoroutine" := by simpa using h.1
  have h2:¬fn.body=none:=fun e=>by rw[e] at h;simp at h
  simp[callFunc,program,Sem.run_bind,Sem.run,hf,h1,h2]
 ·cases h
def lk(l:List (Nat×List Sh))(t:Nat):List Sh :=
 match l with
 | []=>[]
 | (s,x)::r=>cond (s==t) x (lk r t)
def pK:List Nat→Nat→Bool
 | [],_=>false
 | x::r,n=>x==n||pK r n
def GR(l:List (Nat×Cut))(n:Nat):Option Cut :=
 match l with
 | []=>none
 | (m,c)::r=>cond (m==n) (some c) (GR r n)
def GS(l:List (Nat×Nat×List Nat))(n:Nat):Option (Nat×List Nat) :=
 match l with
 | []=>none
 | (m,k,h)::r=>cond (m==n) (some (k,h)) (GS r n)
theorem q9{P:Program}(l:List Nat)(h:l.all (sW P)=true):∀f,pK l f=true→dG P f:=by
 intro f hf
 have:f∈l:=by
  clear h
  induction l with
  | nil=>simp[pK] at hf
  | cons x r ih =>
    simp only[pK,Bool.or_eq_true,beq_iff_eq] at hf
    rcases hf with hf | hf
    ·exact hf▸List.mem_cons_self ..
    ·exact List.mem_cons_of_mem _ (ih hf)
 exact iV (List.all_eq_true.1 h f this)
abbrev cW:=Ending→cS→cR→Prop
def fa(sp pn gd:List Nat)(sh:List (Nat×List Sh))(ct:List (Nat×Cut))(pr rl:List Nat)(ds:List (Nat×Nat×List Nat))(fv:List Nat)(sq:List (Nat×List Nat))(tl:List (Nat×Nat))(s2:List (Nat×Nat×Nat×List Nat×List Nat):=[])(ol:List (Nat×List Nat×Nat):=[])(ot:List (Nat×List Nat×Ot):=[]):oq :=
 { sp:=fun r i=>pK sp (r*1000+i),pn:=pK pn,good:=pK gd,shp:=lk sh,cut:=GR ct,pr:=fun r i=>pK pr (r*1000+i),ds:=GS ds,rl:=fun r i=>pK rl (r*1000+i),fv:=fun r i=>pK fv (r*1000+i),sq:=GL sq,tl:=GP tl,s2:=GM s2,ol:=GO ol,ot:=GN ot }
theorem xk{P:Program}{A:oq}{f:FuncId}{fn:Func}{args:List AV}{own:List dX}{I:cS}{F:cR}{keep:List Nat}{Q:cW}{V:Prop}(gd:List Nat)(hf:P.funcs[f]? = some fn)(h:V)
  (e:W P A none (fn.body.getD .skip) 0 (zz P A fn.results.toList keep Q) ⟨kX args fn.ntmps,own,[]⟩ I F=V) (hg:A.good=pK gd) (hG:gd.all (sW P)=true) (hb:fn.body=some (fn.body.getD .skip)) (hk:CC 0 keep=true)
  (hwa:∀x∈args,AV.wf own x) (hwo:∀b∈own,∀x∈b.cells,AV.wf own x) {vs:Array Value} (hv:vs=(args.map AV.g).toArray):cZ P f vs I (du own++F) Q :=
 Bx (fun f hf'=>q9 gd hG f (by rw[←hg];exact hf')) hf hb hk hwa hwo (by rw[e];exact h) hv
theorem tv{P:Program}{A:oq}{f:FuncId}{fn:Func}{args:List AV}{own:List dX}{I:cS}{F:cR}{keep:List Nat}{Q:cW}{V:Prop}(gd:List Nat)(hf:P.funcs[f]? = some fn)(h:V)
  (e:W P A none (fn.body.getD .skip) 0 (zz P A fn.results.toList keep Q) ⟨kX args fn.ntmps,own,[]⟩ I F=V:=by kernel_rfl) (hg:A.good=pK gd:=by kernel_rfl) (hG:gd.all (sW P)=true:=by kernel_rfl) (hb:fn.body=some (fn.body.getD .skip):=by kernel_rfl) (hk:CC 0 keep=true:=by kernel_rfl)
  (hwa:∀x∈args,AV.wf own x:=by simp[AV.wf,At.wf]) (hwo:∀b∈own,∀x∈b.cells,AV.wf own x:=by simp[AV.wf,At.wf]) {vs:Array Value} (hv:vs=(args.map AV.g).toArray:=by rfl):cZ P f vs I (du own++F) Q :=
 xk gd hf h e hg hG hb hk hwa hwo hv
abbrev Bs:=ByteArray
abbrev OA:=Option Addr
abbrev nB:ByteArray:=⟨#[]⟩
abbrev It(c:Bool)(A B:Prop):Prop:=(c=true→A)∧(c=false→B)
abbrev Dt(p:Prop)[Decidable p](A B:Prop):Prop:=(decide p=true→A)∧(decide p=false→B)
abbrev jW{α:Type}(P:Program)(f:FuncId)(x:Array Value)(I:cS)(h:cR→cR)(F:cR)(v:α→Value)(k:α→cS→cR→Prop):Prop:=cZ P f x I (h F) fun e I' G=>∃r:α,e=.returned (v r)∧∃F':cR,List.Perm G (h F')∧k r I' F'
abbrev ni(P:Program)(f:FuncId)(x:Array Value)(I:cS)(h:cR→cR)(F:cR)(R:Ending→cS→((cR→Prop)→Prop)→Prop):Prop:=cZ P f x I (h F) fun e I' G=>R e I' fun k=>∃F':cR,List.Perm G (h F')∧k F'
abbrev an(g:List Nat)(c:List Nat)(s:List (Nat×List Sh)):oq:=fa g [] c s [] [] [] [] [] [] []
theorem tw{P:Program}{A:oq}{f:FuncId}{fn:Func}{vs:List Value}{I:cS}{F:cR}{Q:cW}{V:Prop}(gd:List Nat)(hf:P.funcs[f]? = some fn)(h:V)
  (e:W P A none (fn.body.getD .skip) 0 (zz P A fn.results.toList [] Q) ⟨kX (vs.map fun v=>.a (.v v)) fn.ntmps,[],[]⟩ I F=V:=by kernel_rfl) (hg:A.good=pK gd:=by kernel_rfl) (hG:gd.all (sW P)=true:=by kernel_rfl) (hb:fn.body=some (fn.body.getD .skip):=by kernel_rfl)
  : cZ P f vs.toArray I F Q :=
 xk (args:=vs.map fun v=>.a (.v v)) (own:=[]) (keep:=[]) gd hf h e hg hG hb rfl (by intro x hx;obtain⟨v,_,rfl⟩:=List.mem_map.1 hx;simp[AV.wf,At.wf]) (by simp) (by rw[List.map_map];congr 1;exact (List.map_id _).symm)
end Go.Vc
namespace Go.Vc
theorem sX{α β:Type}(f:α→List β)(z:Nat)(hz:∀x,(f x).length=z):∀(l:List α) (i:Nat) (x:α) (j:Nat),l[i]? = some x→j<z→(l.flatMap f)[i*z+j]? = (f x)[j]?
 | [],i,x,j,h,_=>by simp at h
 | y::l,0,x,j,h,hj=>by
   simp at h;subst h
   rw[List.flatMap_cons,List.getElem?_append_left (by rw[hz];omega)];simp
 | y::l,i+1,x,j,h,hj=>by
   rw[List.flatMap_cons,List.getElem?_append_right (by rw[hz,Nat.succ_mul];omega),hz,show (i+1)*z+j-z=i*z+j by rw[Nat.succ_mul];omega]
   exact sX f z hz l i x j (by simpa using h) hj
def Sl{α:Type}(I:cS)(z:Nat)(f:α→List Value)(a:Option Addr)(n:Nat)(l:List α):Prop :=
 n=l.length∧(l≠[]→∃ad,a=some ad∧∀(i:Nat) (x:α),l[i]? = some x→∀G,Rd I G (ad.add (i*z)) (f x))
theorem Rd.le{I J:cS}{G:cR}{ad:Addr}{cs:List Value}(h:Rd I G ad cs)(hl:∀b o,(I b=some o∨(b,o)∈G)→J b=some o∨(b,o)∈G):Rd J G ad cs:=by
 obtain⟨h1,cells,e,fz,h2,h3⟩:=h
 exact⟨h1,cells,e,fz,hl _ _ h2,h3⟩
theorem Rd.mono{I J:cS}{G:cR}{ad:Addr}{cs:List Value}(h:Rd I G ad cs)(hl:cS.le I J):Rd J G ad cs :=
 h.le fun b o hb=>hb.imp (fun h=>hl.at h) id
theorem Sl.mono{α:Type}{I J:cS}{z:Nat}{f:α→List Value}{a:Option Addr}{n:Nat}{l:List α}(h:Sl I z f a n l)(hl:cS.le I J):Sl J z f a n l :=
 ⟨h.1,fun hne=>let ⟨ad,ha,hr⟩:=h.2 hne;⟨ad,ha,fun i x hx G=>(hr i x hx G).mono hl⟩⟩
theorem Sl.pL{α:Type}{I:cS}{z:Nat}{f:α→List Value}(hz:∀x,(f x).length=z){b e:Nat}{fz:Nat×Nat}{l:List α}{cells:Array Value}(h:I b=some (.cells cells e fz))
  (hc:∀k,k<(l.flatMap f).length→cells[k]? = (l.flatMap f)[k]?):Sl I z f (some ⟨b,0,none⟩) l.length l:=by
 refine⟨rfl,fun hne=>⟨_,rfl,fun i x hx G=>?_⟩⟩
 have hadd:(⟨b,0,none⟩:Addr).add (i*z)=⟨b,i*z,none⟩:=by unfold Addr.add;split<;>simp_all
 rw[hadd]
 refine⟨rfl,cells,e,fz,.inl h,fun j hj=>?_⟩
 rw[hz] at hj
 have h1:=sX f z hz l i x j hx hj
 have h2:(l.flatMap f)[i*z+j]? ≠ none:=by
  rw[h1];rw[List.getElem?_eq_getElem (by rw[hz];exact hj)];simp
 have hlt:i*z+j<(l.flatMap f).length:=by
  rcases Nat.lt_or_ge (i*z+j) (l.flatMap f).length with h | h
  ·exact h
  ·exact absurd (List.getElem?_eq_none h) h2
 show cells[i*z+j]? = _
 rw[hc _ hlt,h1]
theorem Sl.jG{α:Type}{I:cS}{z:Nat}{f:α→List Value}(hz:∀x,(f x).length=z){b e:Nat}{fz:Nat×Nat}{l:List α}{cells:Array Value}(h:I b=some (.cells cells e fz))
  (hc:cells.toList=l.flatMap f):Sl I z f (some ⟨b,0,none⟩) l.length l :=
 Sl.pL hz h fun k _=>by rw[←hc];simp
theorem Sl.at{α:Type}{I:cS}{z:Nat}{f:α→List Value}{a:Option Addr}{n:Nat}{l:List α}(h:Sl I z f a n l){i:Int}(h0:0≤i)(h1:i<n) :
  ∃ad x,a=some ad∧l[i.toNat]? = some x∧∀G,Rd I G (ad.add (Int.toNat i*z)) (f x):=by
 have hlt:i.toNat<l.length:=by have:=h.1;omega
 obtain⟨ad,ha,hr⟩:=h.2 (by intro e;rw[e] at hlt;simp at hlt)
 exact⟨ad,l[i.toNat],ha,by simp[hlt],fun G=>hr _ _ (by simp[hlt]) G⟩
theorem Sl.len{α:Type}{I:cS}{z:Nat}{f:α→List Value}{a:Option Addr}{n:Nat}{l:List α}(h:Sl I z f a n l):n=l.length:=h.1
def Acc{α:Type}(z:Nat)(f:α→List Value)(e:Nat)(a:Option Addr)(n c:Nat)(l:List α)(A:cR):Prop :=
 n=l.length∧((a=none∧c=0∧l=[]∧A=[]) ∨
  ∃b cells,a=some ⟨b,0,none⟩∧A=[(b,Obj.cells cells e (0,0))]∧cells.size=c*z∧n≤c∧cells.toList.take (n*z)=l.flatMap f)
theorem Acc.nil{α:Type}{z:Nat}{f:α→List Value}{e:Nat}:Acc z f e none 0 0 ([]:List α) []:=⟨rfl,.inl ⟨rfl,rfl,rfl,rfl⟩⟩
theorem yv(w:World)(g:Nat)(old cs:Array Value)(t:TypeId)(fr:Nat×Nat)(hg:w.heap[g]? = some (.cells old t fr)):(w.setRow g cs).heap=w.heap.setIfInBounds g (.cells cs t fr):=by
 apply Array.ext_getElem?
 intro j
 rw[Array.getElem?_setIfInBounds]
 by_cases h:g=j
 ·subst h
  have hlt:g<w.heap.size:=(Array.getElem?_eq_some_iff.1 hg).1
  rw[if_pos rfl,if_pos hlt];exact setRow_heap w g old cs t fr hg
 ·rw[if_neg h];exact setRow_other w g j cs (Ne.symm h)
theorem lO{α β:Type}{f:α→List β}{z:Nat}(hz:∀x,(f x).length=z):∀l:List α,(l.flatMap f).length=l.length*z
 | []=>by simp
 | x::l=>by rw[List.flatMap_cons,List.length_append,hz,lO hz l,List.length_cons,Nat.succ_mul,Nat.add_comm]
theorem xm{P:Program}{α:Type}{z:Nat}{f:α→List Value}(hz:∀x,(f x).length=z)(t ty e:TypeId)(i:TypeInfo)(zv:Value)(ht:P.underlying t=some (.slice e))(hi:P.info? e=some i)(hzv:i.zero=some zv)(hsz:i.size=z)(hzs:zv.cells.size=z)(hb:1≤i.bytes)
  {a:Option Addr} {n c:Nat} {l:List α} {A:cR} (hA:Acc z f e a n c l A) {xs:List α} (h1:∀x∈xs,∀u∈f x,u.oneCell'=true) (hx:xs≠[]) {sa:Addr} {m sc:Nat} (hm:m=xs.length) {I:cS} {F:cR}
  (hr:Rd I (A++F) sa (xs.flatMap f)) (hfit:(l.length+xs.length)*i.bytes≤140737488355328) :
  dO P (Builtin.append_ #[t,t] ty #[.slice a n c,.slice (some sa) m sc]) I (A++F) fun v I' G=>∃a' n' c' A',v=.slice a' n' c'∧Acc z f e a' n' c' (l++xs) A'∧G=A'++F∧(a'=a∨Sl I' z f a n l):=by
 intro w hw
 subst hsz
 have hlen:(xs.flatMap f).length=m*i.size:=by rw[lO hz,hm]
 have hnews:∀j u,(xs.flatMap f)[j]? = some u→w.cell? (sa.add j)=some u:=fun j u hj=>by
  rw[hr.cell hw j (by
   rcases Nat.lt_or_ge j (xs.flatMap f).length with h | h
   ·exact h
   ·rw[List.getElem?_eq_none h] at hj;cases hj),hj]
 have h1':∀u∈xs.flatMap f,u.oneCell'=true:=fun u hu=>by
  obtain⟨x,hxm,hu⟩:=List.mem_flatMap.1 hu
  exact h1 x hxm u hu
 have hxp:0<xs.length:=List.length_pos_iff.2 hx
 have hle:l.length+xs.length≤140737488355328:=Nat.le_trans (Nat.le_mul_of_pos_right _ hb) hfit
 obtain⟨hn,⟨ha,hc,hl,hA⟩ | ⟨b,cells,ha,hA,hcs,hnc,htk⟩⟩:=hA
 ·subst ha hc hl hA
  simp only[List.length_nil,Nat.zero_add,List.nil_append] at hfit hn hle ⊢
  subst hn
  have hrun:=run_append_nil (P:=P) w t ty e i zv ht hi hzv sa m sc _ hlen hnews (by omega) (by omega) (by rw[hm];omega)
  have hge:=grownCap_ge w m 0 e
  have hsat:Sat I F w.drew:=hw.of_heap rfl ⟨rfl,rfl⟩
  refine⟨_,_,I,_,hrun,cS.le_refl I,hsat.alloc _,_,_,_,[_],rfl,⟨hm,.inr ⟨_,_,rfl,rfl, ?_,hge, ?_⟩⟩,rfl, ?_⟩
  ·simp only[Array.size_append,List.size_toArray,size_zeroCells,hzs,hlen,←Nat.add_mul]
   congr 1;omega
  ·rw[Array.toList_append,←hlen];exact List.take_left
  ·exact .inr ⟨rfl,fun h=>absurd rfl h⟩
 ·subst ha hA
  have hflat:(l.flatMap f).length=n*i.size:=by rw[lO hz,hn]
  have hg:w.heap[b]? = some (.cells cells e (0,0)):=hw.own _ _ (List.mem_cons_self ..)
  by_cases hroom:n+m≤c
  ·have hfit2:n*i.size+(xs.flatMap f).length≤cells.size:=by rw[hlen,hcs,←Nat.add_mul];exact Nat.mul_le_mul_right _ hroom
   have hrun:=run_append_room (P:=P) w t ty e i ht hi b n c cells hg sa m sc _ hlen hnews h1' hroom hfit2
   refine⟨_,_,I,_,hrun,cS.le_refl I,hw.set (yv w b cells _ e (0,0) hg) ⟨rfl,rfl⟩,_,_,_,[_],rfl,⟨by rw[List.length_append];omega,.inr ⟨_,_,rfl,rfl, ?_,hroom, ?_⟩⟩,rfl,.inl rfl⟩
   ·simp only[List.size_toArray,List.length_append,List.length_take,List.length_drop,Array.length_toList]
    omega
   ·rw[htk,List.flatMap_append,Nat.add_mul,←hflat,←hlen,←List.length_append]
    exact List.take_left
  ·have hcell:∀j u,(l.flatMap f)[j]? = some u→w.cell? ((⟨b,0,none⟩:Addr).add j)=some u:=fun j u hj=>by
    have hadd:(⟨b,0,none⟩:Addr).add j=⟨b,j,none⟩:=by unfold Addr.add;split<;>simp_all
    rw[hadd,cell_of_row w b j cells e (0,0) hg]
    rw[←htk,List.getElem?_take] at hj
    split at hj
    ·simpa using hj
    ·cases hj
   have hrun:=run_append_grow (P:=P) w t ty e i zv ht hi hzv ⟨b,0,none⟩ n c _ hflat hcell sa m sc _ hlen hnews (by omega) (by omega) (growslice_fits (by omega) (by rw[hn,hm];exact hfit))
   have hge:=grownCap_ge w (n+m) c e
   obtain⟨hle',hprom⟩:=(hw.of_heap rfl ⟨rfl,rfl⟩:Sat I ((b,Obj.cells cells e (0,0))::F) w.drew).kR
   refine⟨_,_,_,_,hrun,hle',hprom.alloc _,_,_,_,[_],rfl,⟨by rw[List.length_append];omega,.inr ⟨_,_,rfl,rfl, ?_,hge, ?_⟩⟩,rfl,.inr ?_⟩
   ·simp only[Array.size_append,List.size_toArray,size_zeroCells,hzs,hflat,hlen,←Nat.add_mul]
    congr 1;omega
   ·simp only[Array.toList_append]
    rw[List.flatMap_append,Nat.add_mul,←hflat,←hlen,←List.length_append]
    exact List.take_left
   ·rw[hn]
    refine Sl.pL hz (cS.po _ _ _) fun k hk=>?_
    rw[←htk,List.getElem?_take,if_pos]
    ·simp
    ·rw[lO hz,←hn] at hk;exact hk
theorem jX{P:Program}{α:Type}{z:Nat}{f:α→List Value}(hz:∀x,(f x).length=z){t ty e:TypeId}{zv:Value}{by':Nat}(ht:P.underlying t=some (.slice e))(hi:(P.info? e).map (fun i=>(i.zero,i.size,i.bytes))=some (some zv,z,by'))(hzs:zv.cells.size=z)(hb:1≤by')
  {a:Option Addr} {n c:Nat} {l:List α} {A:cR} (hA:Acc z f e a n c l A) {xs:List α} (h1:∀x∈xs,∀u∈f x,u.oneCell'=true) (hx:xs≠[]) {sa:Addr} {m sc:Nat} (hm:m=xs.length) {I:cS} {F:cR}
  (hr:Rd I (A++F) sa (xs.flatMap f)) (hfit:(l.length+xs.length)*by'≤140737488355328) :
  dO P (Builtin.append_ #[t,t] ty #[.slice a n c,.slice (some sa) m sc]) I (A++F) fun v I' G=>∃a' n' c' A',v=.slice a' n' c'∧Acc z f e a' n' c' (l++xs) A'∧G=A'++F∧(a'=a∨Sl I' z f a n l):=by
 cases h:P.info? e with
 | none=>rw[h] at hi;cases hi
 | some i =>
   rw[h] at hi
   simp only[Option.map_some,Option.some.injEq,Prod.mk.injEq] at hi
   exact xm hz t ty e i zv ht h hi.1 hi.2.1 hzs (by omega) hA h1 hx hm hr (by rw[hi.2.2];exact hfit)
theorem dO.perm{P:Program}{s:Sem Value}{I:cS}{F G:cR}{Q:Value→cS→cR→Prop}(h:dO P s I F Q)(p:G.Perm F):dO P s I G Q:=fun w hw=>h w (hw.perm p)
theorem cZ.perm{P:Program}{f:FuncId}{args:Array Value}{I:cS}{F G:cR}{Q:Ending→cS→cR→Prop}(h:cZ P f args I F Q)(p:G.Perm F):cZ P f args I G Q:=fun w hw=>h w (hw.perm p)
theorem cZ.keep{P:Program}{f:FuncId}{args:Array Value}{I:cS}{F:cR}{Q Q':Ending→cS→cR→Prop}(h:cZ P f args I F Q)
  (k:∀e I' G w,cS.le I I'→Sat I' G w→Q e I' G→∃J G',cS.le I' J∧Sat J G' w∧Q' e J G'):cZ P f args I F Q' :=
 fun w hw=>(h w hw).mono fun e w' ⟨I',G,hl,hs,hq⟩=>let ⟨J,G',hl',hs',hq'⟩:=k e I' G w' hl hs hq;⟨J,G',cS.le_trans hl hl',hs',hq'⟩
theorem Acc.keep{α:Type}{z:Nat}{f:α→List Value}(hz:∀x,(f x).length=z){e:Nat}{a:Option Addr}{n c:Nat}{l:List α}{A F:cR}(h:Acc z f e a n c l A){I:cS}{w:World}(hw:Sat I (A++F) w) :
  ∃J,cS.le I J∧Sat J F w∧Sl J z f a n l:=by
 obtain⟨hn,⟨ha,hc,hl,hA⟩ | ⟨b,cells,ha,hA,hcs,hnc,htk⟩⟩:=h
 ·subst ha hc hl hA hn
  exact⟨I,cS.le_refl I,hw,rfl,fun h=>absurd rfl h⟩
 ·subst ha hA
  obtain⟨h1,h2⟩:=hw.kR
  refine⟨_,h1,h2, ?_⟩
  rw[hn]
  refine Sl.pL hz (cS.po _ _ _) fun k hk=>?_
  rw[←htk,List.getElem?_take,if_pos]
  ·simp
  ·rw[lO hz,←hn] at hk;exact hk
def yw:Value→Value→Option Bool
 | .int k a,.int k' b=>bif k==k' then some (a==b) else none
 | .string a,.string b=>some (a.toList==b.toList)
 | .bool a,.bool b=>some (a==b)
 | _,_=>none
def qv(P:Program)(t:TypeId):Value→Bool
 | .int _ _=>match P.underlying t with | some (.int _)=>true | _=>false
 | .string _=>match P.underlying t with | some .string=>true | _=>false
 | .bool _=>match P.underlying t with | some .bool=>true | _=>false
 | _=>false
theorem yx{P:Program}{t:TypeId}{u v:Value}{b:Bool}(h:yw u v=some b)(ht:qv P t u=true)(d:Nat)(w:World):(Op.equalIn (d+1) t u v).run P w=.ok b w:=by
 unfold yw at h
 split at h
 ·rename_i k a k' b'
  cases hk:k==k' with
  | false=>rw[hk] at h;cases h
  | true =>
    have:k=k':=by cases k<;>cases k'<;>first | rfl | cases hk
    subst this
    rw[hk] at h
    cases h
    simp only[qv] at ht
    split at ht
    ·rename_i hu;exact run_equalIn_int w d t k _ a b' hu
    ·exact absurd ht (by decide)
 ·cases h
  simp only[qv] at ht
  split at ht
  ·rename_i hu;exact run_equalIn_string w d t _ _ hu
  ·exact absurd ht (by decide)
 ·cases h
  simp only[qv] at ht
  split at ht
  ·rename_i hu;exact run_equalIn_bool' w d t _ _ hu
  ·exact absurd ht (by decide)
 ·cases h
def sY(P:Program)(xs ys:Array Value):List Field→Option Bool
 | []=>some true
 | f::fs=>bif !(f.name == "_")&&(match pt P f.type with | some false=>true | _=>false) then
    (match xs[f.offset]?,ys[f.offset]? with
      | some u,some v=>bif qv P f.type u then (match yw u v,sY P xs ys fs with | some b,some c=>some (b&&c) | _,_=>none) else none
      | _,_=>none) else none
theorem xn{P:Program}{t:TypeId}{cs:Array Value}{o:Nat}{v:Value}(h:pt P t=some false)(hv:cs[o]? = some v)(w:World):(part t cs o).run P w=.ok v w:=by
 simp[part,Sem.run_bind,qm h,hv]
theorem sZ{P:Program}{xs ys:Array Value}(d:Nat):∀{fs:List Field} {b:Bool},sY P xs ys fs=some b→∀w,(Op.eqFields (d+1) xs ys fs).run P w=.ok b w
 | [],b,h,w=>by cases h;rfl
 | f::fs,b,h,w=>by
   unfold sY at h
   cases hc:(!(f.name == "_")&&(match pt P f.type with | some false=>true | _=>false)) with
   | false=>rw[hc] at h;cases h
   | true =>
     rw[hc] at h
     simp only[cond_true] at h
     rw[Bool.and_eq_true] at hc
     have hname:f.name ≠ "_" := by simpa using hc.1
     have hagg:pt P f.type=some false:=by
      have:=hc.2
      split at this
      ·assumption
      ·cases this
     split at h
     ·rename_i u v hu hv
      cases hl:qv P f.type u with
      | false=>rw[hl] at h;cases h
      | true =>
        rw[hl] at h
        simp only[cond_true] at h
        split at h
        ·rename_i b' c hb hcc
         cases h
         simp only[Op.eqFields,hname,ne_eq,not_false_eq_true,if_true,Sem.run_bind,xn hagg hu,xn hagg hv,Result.andThen_ok,yx hb hl]
         cases b'
         ·simp
         ·simp only[Bool.not_true,Bool.false_eq_true,if_false,Bool.true_and]
          exact sZ d hcc w
        ·cases h
     ·cases h
theorem yy{P:Program}{t:TypeId}{x y:Operand}{xs ys:Array Value}{b:Bool}(ht:P.underlying t=some (.struct (P.fieldsOf t)))(hp:P.stoodInHeld t=false)(hm:P.eqGuardType P.depth t=false)
  (h:sY P xs ys (P.fieldsOf t).toList=some b):eu P .neq t x y (.agg xs) (.agg ys) (!b):=by
 intro w
 simp only[Sem.run_bind,run_eqGuard_agg (P:=P) w .neq t x y xs ys hm,Result.andThen_ok,run_neq_struct]
 rw[show (10000:Nat)=9998+1+1 from rfl,run_equalIn_struct w (9998+1) t xs ys ht hp,sZ 9998 h];rfl
def mv{α:Type}(I:cS)(G:cR)(z:Nat)(f:α→List Value)(a:Option Addr)(n:Nat)(l:List α):Prop :=
 n=l.length∧(l≠[]→∃ad,a=some ad∧∀(i:Nat) (x:α),l[i]? = some x→Rd I G (ad.add (i*z)) (f x))
theorem Rd.sub{I J:cS}{G H:cR}{ad:Addr}{cs:List Value}(h:Rd I G ad cs)(hl:cS.le I J)(hs:∀x,x∈G→x∈H):Rd J H ad cs:=by
 obtain⟨h1,cells,e,fz,h2,h3⟩:=h
 exact⟨h1,cells,e,fz,h2.imp (fun h=>hl.at h) (hs _),h3⟩
theorem mv.mono{α:Type}{I J:cS}{G H:cR}{z:Nat}{f:α→List Value}{a:Option Addr}{n:Nat}{l:List α}(h:mv I G z f a n l)(hl:cS.le I J)(hs:∀x,x∈G→x∈H):mv J H z f a n l :=
 ⟨h.1,fun hne=>let ⟨ad,ha,hr⟩:=h.2 hne;⟨ad,ha,fun i x hx=>(hr i x hx).sub hl hs⟩⟩
theorem mv.at{α:Type}{I:cS}{G:cR}{z:Nat}{f:α→List Value}{a:Option Addr}{n:Nat}{l:List α}(h:mv I G z f a n l){i:Int}(h0:0≤i)(h1:i<n) :
  ∃ad x,a=some ad∧l[i.toNat]? = some x∧Rd I G (ad.add (Int.toNat i*z)) (f x):=by
 have hlt:i.toNat<l.length:=by have:=h.1;omega
 obtain⟨ad,ha,hr⟩:=h.2 (by intro e;rw[e] at hlt;simp at hlt)
 exact⟨ad,l[i.toNat],ha,by simp[hlt],hr _ _ (by simp[hlt])⟩
theorem mv.D6{α:Type}{I:cS}{G:cR}{z:Nat}{f:α→List Value}(hz:∀x,(f x).length=z){b e:Nat}{fz:Nat×Nat}{l:List α}{cells:Array Value}(h:(b,Obj.cells cells e fz)∈G)
  (hc:∀k,k<(l.flatMap f).length→cells[k]? = (l.flatMap f)[k]?):mv I G z f (some ⟨b,0,none⟩) l.length l:=by
 refine⟨rfl,fun hne=>⟨_,rfl,fun i x hx=>?_⟩⟩
 have hadd:(⟨b,0,none⟩:Addr).add (i*z)=⟨b,i*z,none⟩:=by unfold Addr.add;split<;>simp_all
 rw[hadd]
 refine⟨rfl,cells,e,fz,.inr h,fun j hj=>?_⟩
 rw[hz] at hj
 have h1:=sX f z hz l i x j hx hj
 have h2:(l.flatMap f)[i*z+j]? ≠ none:=by
  rw[h1];rw[List.getElem?_eq_getElem (by rw[hz];exact hj)];simp
 have hlt:i*z+j<(l.flatMap f).length:=by
  rcases Nat.lt_or_ge (i*z+j) (l.flatMap f).length with h | h
  ·exact h
  ·exact absurd (List.getElem?_eq_none h) h2
 show cells[i*z+j]? = _
 rw[hc _ hlt,h1]
theorem Acc.GU{α:Type}{z:Nat}{f:α→List Value}(hz:∀x,(f x).length=z){e:Nat}{a:Option Addr}{n c:Nat}{l:List α}{A:cR}(h:Acc z f e a n c l A)(I:cS){G:cR}(hs:∀x,x∈A→x∈G):mv I G z f a n l:=by
 obtain⟨hn,⟨ha,hc,hl,hA⟩ | ⟨b,cells,ha,hA,hcs,hnc,htk⟩⟩:=h
 ·subst hl hn;exact⟨rfl,fun h=>absurd rfl h⟩
 ·subst ha hA
  rw[hn]
  refine mv.D6 hz (hs _ (List.mem_cons_self ..)) fun k hk=>?_
  rw[←htk,List.getElem?_take,if_pos]
  ·simp
  ·rw[lO hz,←hn] at hk;exact hk
theorem Rd.field{I:cS}{G:cR}{ad:Addr}{cs:List Value}(h:Rd I G ad cs){o:Nat}{v:Value}(hv:cs[o]? = some v):Rd I G (ad.add o) [v]:=by
 obtain⟨h1,cells,e,fz,h2,h3⟩:=h
 have hadd:ad.add o=⟨ad.block,ad.off+o,none⟩:=by
  obtain⟨b,off,sp⟩:=ad
  simp only at h1;subst h1
  unfold Addr.add;split<;>simp_all
 rw[hadd]
 refine⟨rfl,cells,e,fz,h2,fun j hj=>?_⟩
 have:j=0:=by simpa using hj
 subst this
 have hlt:o<cs.length:=by
  rcases Nat.lt_or_ge o cs.length with h | h
  ·exact h
  ·rw[List.getElem?_eq_none h] at hv;cases hv
 show cells[ad.off+o+0]? = _
 rw[Nat.add_zero,h3 o hlt,hv];rfl
abbrev Ck(z:Nat):={ x:List Value // x.length=z }
def cv{z:Nat}(x:Ck z):List Value:=x.val
def E3{z:Nat}(o:Nat)(v:Value)(x:Ck z):Ck z:=⟨x.val.set o v,by rw[List.length_set];exact x.property⟩
theorem Rd.dR{I:cS}{G:cR}{ad:Addr}{cs:List Value}(h:Rd I G ad cs){p q:Nat}{v:Value}(hv:cs[p+q]? = some v):Rd I G ((ad.add p).add q) [v]:=by
 have h1:=h.field hv
 have hsp:=h.1
 have:(ad.add p).add q=ad.add (p+q):=by
  obtain⟨b,off,sp⟩:=ad
  simp only at hsp;subst hsp
  unfold Addr.add;simp only;repeat' split
  all_goals simp_all<;>omega
 rw[this];exact h1
theorem fm(b i:Nat):(⟨b,0,none⟩:Addr).add i=⟨b,i,none⟩:=by unfold Addr.add;split<;>simp_all
structure Row where
 a:Option Addr
 n:Nat
 c:Nat
def Row.enc(r:Row):List Value:=[.slice r.a r.n r.c]
def mW(z e:Nat):List Row→List (List (Ck z))→cR→Prop
 | [],[],H=>H=[]
 | r::rs,l::ls,H=>∃A H',H=A++H'∧Acc z cv e r.a r.n r.c l A∧mW z e rs ls H'
 | _,_,_=>False
theorem mW.len{z e:Nat}:∀{rs:List Row} {ls:List (List (Ck z))} {H:cR},mW z e rs ls H→rs.length=ls.length
 | [],[],_,_=>rfl
 | r::rs,l::ls,H,⟨_,_,_,_,h⟩=>by simp[h.len]
 | [],_::_,_,h=>h.elim
 | _::_,[],_,h=>h.elim
def D7{z:Nat}(o:Nat)(mk:Int→Int→Value)(i m:Int)(l:List (Ck z)):Prop:=∀(q:Nat) (x:Ck z),l[q]? = some x→(q:Int)<m→x.val[o]? = some (mk i q)
def DA{z:Nat}(o:Nat)(mk:Int→Int→Value)(i:Int)(l:List (Ck z)):Prop:=∀(q:Nat) (x:Ck z),l[q]? = some x→x.val[o]? = some (mk i q)
theorem D7.step{z o:Nat}(ho:o<z){mk:Int→Int→Value}{i k:Int}{l:List (Ck z)}(h:D7 o mk i k l)(h0:0≤k):D7 o mk i (k+1) (l.modify k.toNat (E3 o (mk i k))):=by
 intro q x hx hq
 rw[List.getElem?_modify] at hx
 by_cases hqk:k.toNat=q
 ·cases hl:l[q]? with
  | none=>rw[hl] at hx;cases hx
  | some y =>
    rw[hl] at hx
    obtain rfl:E3 o (mk i k) y=x:=by simpa[hqk] using hx
    have:k=(q:Int):=by omega
    rw[←this]
    show (y.val.set o (mk i k))[o]? = _
    rw[List.getElem?_set_self (by rw[y.property];exact ho)]
 ·exact h q x (by simpa[hqk] using hx) (by omega)
def D8{z:Nat}(o m:Nat)(mk bh:Int→Int→Value)(I:cS)(i:Int)(r x:Row):Prop :=
 ∃(l t:List (Ck z)),Sl I z cv r.a r.n l∧DA o mk i l∧Sl I z cv x.a x.n (l++t)∧t.length=m∧DA o bh i t
theorem D8.mono{z o m:Nat}{mk bh:Int→Int→Value}{I J:cS}{i:Int}{r x:Row}(h:D8 (z:=z) o m mk bh I i r x)(hl:cS.le I J):D8 (z:=z) o m mk bh J i r x :=
 let ⟨l,t,h1,h2,h3,h4,h5⟩:=h;⟨l,t,h1.mono hl,h2,h3.mono hl,h4,h5⟩
section
open Classical
noncomputable def cn(a:Nat×Obj)(l:cR):Nat:=l.countP fun x=>decide (x=a)
noncomputable def on(a x:Nat×Obj):Nat:=if x=a then 1 else 0
theorem cY(a:Nat×Obj)(l m:cR):cn a (l++m)=cn a l+cn a m:=List.countP_append
theorem cV(a x:Nat×Obj)(l:cR):cn a (x::l)=on a x+cn a l:=by
 unfold cn on;rw[List.countP_cons];simp only[decide_eq_true_eq];omega
theorem c6(a:Nat×Obj):cn a []=0:=rfl
theorem iW{l m:cR}(h:l.Perm m)(a:Nat×Obj):cn a l=cn a m:=h.countP_eq _
noncomputable def CO:DecidableEq (Nat×Obj):=fun x y=>propDecidable (x=y)
theorem cU{l m:cR}(h:∀a,cn a l=cn a m):l.Perm m:=by
 refine (@List.perm_iff_count (Nat×Obj) (@instBEqOfDecidableEq _ CO) (@instLawfulBEq _ CO) l m).2 fun a=>?_
 have h1:∀l:cR,@List.count _ (@instBEqOfDecidableEq _ CO) a l=cn a l:=fun l=>by
  unfold List.count cn
  congr 1
  funext x
  show @decide (x=a) (CO x a)=decide (x=a)
  congr
 rw[h1,h1];exact h a
end
theorem Rd.Bz{I:cS}{b t:Nat}{fz:Nat×Nat}{cells:Array Value}(h:I b=some (.cells cells t fz))(G:cR)(o:Nat){cs:List Value}(hc:∀j,j<cs.length→cells[o+j]? = cs[j]?):Rd I G (⟨b,o,none⟩:Addr) cs:=⟨rfl,cells,t,fz,.inl h,hc⟩
theorem Rd.yz{I:cS}{b t:Nat}{fz:Nat×Nat}{cells:Array Value}{G:cR}(h:(b,Obj.cells cells t fz)∈G)(o:Nat){cs:List Value}(hc:∀j,j<cs.length→cells[o+j]? = cs[j]?):Rd I G (⟨b,o,none⟩:Addr) cs:=⟨rfl,cells,t,fz,.inr h,hc⟩
def Left(Q:Ending→cS→cR→Prop)(e:Ending)(I:cS)(G:cR):Prop:=∃A G',G.Perm (A++G')∧Q e I G'
theorem Left.of{Q:Ending→cS→cR→Prop}{e:Ending}{I:cS}{G:cR}(h:Q e I G):Left Q e I G:=⟨[],G,.refl _,h⟩
theorem Left.one{Q:Ending→cS→cR→Prop}{e:Ending}{I:cS}{x:Nat×Obj}{G:cR}(h:Q e I G):Left Q e I (x::G):=⟨[x],G,.refl _,h⟩
end Go.Vc
namespace Go.Lx
open Go.Vc
def gE(c:Int):Bool:=decide (97≤c)&&decide (c≤122)
def dh(c:Int):Bool:=decide (48≤c)&&decide (c≤57)
def dx(c:Int):Bool:=gE c||dh c||(c==95)
def qw(c:Int):Bool:=c != 10
def Am(p:Int→Bool)(s:ByteArray):Nat→Int→Int
 | 0,i=>i
 | n+1,i=>if p (bt s i) then Am p s n (i+1) else i
def dA(p:Int→Bool)(s:ByteArray)(i:Int):Int:=Am p s (s.size-i).toNat i
theorem kj{p:Int→Bool}{s:ByteArray}{i:Int}(h:(s.size:Int)≤i):dA p s i=i:=by
 unfold dA;rw[show ((s.size:Int)-i).toNat=0 by omega];rfl
theorem dK{p:Int→Bool}{s:ByteArray}{i:Int}(h:i<(s.size:Int)):dA p s i=if p (bt s i) then dA p s (i+1) else i:=by
 unfold dA
 obtain⟨n,hn⟩:∃n,((s.size:Int)-i).toNat=n+1:=⟨((s.size:Int)-i).toNat-1,by omega⟩
 rw[hn,show ((s.size:Int)-(i+1)).toNat=n by omega];rfl
theorem zA(p:Int→Bool)(s:ByteArray):∀(n:Nat) (i:Int),i≤Am p s n i∧Am p s n i≤i+n
 | 0,i=>by simp[Am]
 | n+1,i=>by
   have:=zA p s n (i+1)
   unfold Am;split<;>omega
theorem eP{p:Int→Bool}{s:ByteArray}{i:Int}(h:i≤(s.size:Int)):i≤dA p s i∧dA p s i≤s.size:=by
 have:=zA p s (s.size-i).toNat i
 unfold dA;omega
theorem gW{p:Int→Bool}{s:ByteArray}{i:Int}(h:i≤(s.size:Int))(hl:dA p s i<s.size):p (bt s (dA p s i))=false:=by
 obtain⟨n,hn⟩:∃n:Nat,n=(s.size-i).toNat:=⟨_,rfl⟩
 induction n generalizing i with
 | zero=>rw[kj (by omega)] at hl;omega
 | succ n ih =>
   rw[dK (by omega)] at hl ⊢
   split at hl
   ·rename_i hp;rw[if_pos hp];exact ih (by omega) hl (by omega)
   ·rename_i hp;rw[if_neg hp];simpa using hp
def blank(c:Int):Bool:=c==32||c==9||c==10||c==13
def mw(c:Int)(r:Bool):Bool:=if c=35 then true else if c=10 then false else r
def uP(s:ByteArray):Nat→Bool→Int→Int
 | 0,_,i=>i
 | n+1,r,i=>if !(mw (bt s i) r) && !blank (bt s i) then i else uP s n (mw (bt s i) r) (i+1)
def ig(s:ByteArray)(r:Bool)(i:Int):Int:=uP s (s.size-i).toNat r i
def dg(s:ByteArray)(i:Int):Int:=ig s false i
theorem hY{s:ByteArray}{r:Bool}{i:Int}(h:(s.size:Int)≤i):ig s r i=i:=by
 unfold ig;rw[show ((s.size:Int)-i).toNat=0 by omega];rfl
theorem eA{s:ByteArray}{r:Bool}{i:Int}(h:i<(s.size:Int)):ig s r i =
  if !(mw (bt s i) r) && !blank (bt s i) then i else ig s (mw (bt s i) r) (i+1):=by
 unfold ig
 obtain⟨n,hn⟩:∃n,((s.size:Int)-i).toNat=n+1:=⟨((s.size:Int)-i).toNat-1,by omega⟩
 rw[hn,show ((s.size:Int)-(i+1)).toNat=n by omega];rfl
theorem xo(s:ByteArray):∀(n:Nat) (r:Bool) (i:Int),i≤uP s n r i∧uP s n r i≤i+n
 | 0,r,i=>by simp[uP]
 | n+1,r,i=>by
   unfold uP
   have:=xo s n (mw (bt s i) r) (i+1)
   split<;>omega
theorem fN{s:ByteArray}{i:Int}(h:i≤(s.size:Int)):i≤dg s i∧dg s i≤s.size:=by
 have:=xo s (s.size-i).toNat false i
 unfold dg ig;omega
theorem vH{s:ByteArray}{i:Int}(h:i<(s.size:Int))(hb:blank (bt s i)=true):dg s i=dg s (i+1):=by
 have h35:bt s i≠35:=by intro e;rw[e] at hb;simp[blank] at hb
 unfold dg;rw[eA h];simp[mw,h35,hb]
theorem my{s:ByteArray}{i:Int}(h:i<(s.size:Int))(hb:blank (bt s i)=false)(h35:bt s i≠35):dg s i=i:=by
 have h10:bt s i≠10:=by intro e;rw[e] at hb;simp[blank] at hb
 unfold dg;rw[eA h];simp[mw,h35,h10,hb]
theorem vI{s:ByteArray}{i:Int}(h:i≤(s.size:Int)):ig s true i=dg s (dA qw s i):=by
 obtain⟨n,hn⟩:∃n:Nat,n=(s.size-i).toNat:=⟨_,rfl⟩
 induction n generalizing i with
 | zero=>rw[kj (by omega),hY (by omega)];unfold dg;rw[hY (by omega)]
 | succ n ih =>
   rw[dK (by omega)]
   by_cases h10:bt s i=10
   ·have hp:qw (bt s i)=false:=by simp[qw,h10]
    rw[hp]
    simp only[Bool.false_eq_true,if_false]
    unfold dg
    rw[eA (r:=true) (by omega),eA (r:=false) (by omega)]
    simp[mw,h10]
   ·have hp:qw (bt s i)=true:=by simp[qw,h10]
    rw[hp]
    simp only[if_true]
    rw[←ih (by omega) (by omega),eA (r:=true) (by omega)]
    have:mw (bt s i) true=true:=by unfold mw;split<;>simp_all
    simp[this]
theorem uv{s:ByteArray}{i:Int}(h:i<(s.size:Int))(hb:bt s i=35):dg s i=dg s (dA qw s i):=by
 rw[dK h,show qw (bt s i)=true by simp[qw,hb],if_pos rfl,←vI (by omega)]
 unfold dg;rw[eA h];simp[mw,hb]
theorem pM{s:ByteArray}{i:Int}(h:i≤(s.size:Int))(hl:dg s i<s.size):blank (bt s (dg s i))=false∧bt s (dg s i)≠35:=by
 have key:∀(n:Nat) (r:Bool) (i:Int),i≤(s.size:Int)→(s.size-i).toNat=n→ig s r i<s.size→blank (bt s (ig s r i))=false∧bt s (ig s r i)≠35:=by
  intro n
  induction n with
  | zero=>intro r i h hn hl;rw[hY (by omega)] at hl;omega
  | succ n ih =>
    intro r i h hn hl
    rw[eA (by omega)] at hl ⊢
    split at hl
    ·rename_i hc
     rw[if_pos hc]
     simp only[Bool.and_eq_true,Bool.not_eq_true'] at hc
     refine⟨hc.2,fun e=>?_⟩
     rw[e] at hc;simp[mw] at hc
    ·rename_i hc
     rw[if_neg hc]
     exact ih _ _ (by omega) (by omega) hl
 exact key _ false i h rfl hl
structure Tok where
 kind:Int
 text:ByteArray
 dH:Int
 n:Int
 pos:Int
inductive TR where
 | ok (t:Tok)
 | bad (e p:Int)
def ir(p:Int):Tok:=⟨0,⟨#[]⟩,0,0,p⟩
def cut(s:ByteArray)(i j:Int):ByteArray:=s.extract i.toNat j.toNat
def eG:List ByteArray:=[⟨#[97,98,115]⟩,⟨#[97,109,101,110,100]⟩,⟨#[97,115]⟩,⟨#[97,115,107]⟩,⟨#[97,116]⟩,⟨#[98,105,100]⟩,⟨#[98,111,111,108]⟩,⟨#[98,117,121]⟩,⟨#[99,97,110,99,101,108]⟩,⟨#[100,111]⟩,
 ⟨#[102,97,108,115,101]⟩,⟨#[102,111,107]⟩,⟨#[103,111,116,111]⟩,⟨#[104,97,108,116]⟩,⟨#[104,97,115]⟩,⟨#[105,110,116]⟩,⟨#[105,111,99]⟩,⟨#[108,97,115,116]⟩,⟨#[108,105,109,105,116]⟩,⟨#[109,97,114,107,101,116]⟩,
 ⟨#[109,97,120]⟩,⟨#[109,105,110]⟩,⟨#[110,111,119]⟩,⟨#[111,102]⟩,⟨#[111,112,101,110]⟩,⟨#[112,111,115,116]⟩,⟨#[112,114,105,99,101]⟩,⟨#[113,116,121]⟩,⟨#[114,101,103]⟩,⟨#[115,101,108,108]⟩,⟨#[115,101,116]⟩,
 ⟨#[115,105,100,101]⟩,⟨#[115,108,111,116]⟩,⟨#[115,116,97,116,101]⟩,⟨#[115,116,114,97,116,101,103,121]⟩,⟨#[115,117,98,109,105,116]⟩,⟨#[116,105,109,101]⟩,⟨#[116,111]⟩,⟨#[116,114,117,101]⟩,⟨#[118,111,108,117,109,101]⟩,⟨#[119,104,101,110]⟩]
def oE(t:ByteArray):Bool:=eG.any fun w=>w.toList==t.toList
def iO(t:ByteArray):Bool :=
 !(t.toList==[])&&decide ((t.size:Int)≤16)&&gE (bt t 0) && !oE t&&decide (dA dx t 0=t.size)
def jQ(s:ByteArray)(i:Int):TR :=
 let e:=dA dx s i
 if e-i>16 then .bad 112 i else .ok ⟨if oE (cut s i e) then 1 else 2,cut s i e,0,0,i⟩
def BA(s:ByteArray):Nat→Int→Int→Int
 | 0,_,v=>v
 | n+1,i,v=>if dh (bt s i) then BA s n (i+1) (10*v+(bt s i-48)) else v
def dY(s:ByteArray)(i v:Int):Int:=BA s (s.size-i).toNat i v
theorem nR{s:ByteArray}{i v:Int}(h:(s.size:Int)≤i):dY s i v=v:=by
 unfold dY;rw[show ((s.size:Int)-i).toNat=0 by omega];rfl
theorem gX{s:ByteArray}{i v:Int}(h:i<(s.size:Int)):dY s i v=if dh (bt s i) then dY s (i+1) (10*v+(bt s i-48)) else v:=by
 unfold dY
 obtain⟨n,hn⟩:∃n,((s.size:Int)-i).toNat=n+1:=⟨((s.size:Int)-i).toNat-1,by omega⟩
 rw[hn,show ((s.size:Int)-(i+1)).toNat=n by omega];rfl
theorem zB(s:ByteArray):∀(n:Nat) (i v:Int),0≤v→v≤BA s n i v
 | 0,i,v,_=>by simp[BA]
 | n+1,i,v,hv=>by
   unfold BA
   split
   ·rename_i hd
    simp only[dh,Bool.and_eq_true,decide_eq_true_eq] at hd
    have:=zB s n (i+1) (10*v+(bt s i-48)) (by omega)
    omega
   ·exact Int.le_refl _
theorem s5{s:ByteArray}{i v:Int}(h:0≤v):v≤dY s i v:=zB s _ i v h
def dM(c:Int):Int:=if c=116 then 4 else if c=112 then 3 else if c=113 then 2 else 1
def cX(s:ByteArray)(i:Int):Int:=if i<s.size then bt s i else 0
def jH(s:ByteArray)(i:Int):TR :=
 let e:=dA dh s i
 let t:=dM (cX s e)
 let e2:=if t=1 then e else e+1
 if dY s i 0>9223372036854775807∨(e-i>1∧bt s i=48)∨(e2<s.size∧(dx (bt s e2)=true∨(65≤bt s e2∧bt s e2≤90))) then .bad 113 i
 else .ok ⟨3,cut s i e2,t,dY s i 0,i⟩
def single(c:Int):Bool:=[123,125,40,41,44,59,63,58,43,45,42,47,37].contains c
def eF(s:ByteArray)(i:Int):Int :=
 let c:=bt s i
 let d:=cX s (i+1)
 if single c then 1 else if c=38∨c=124 then (if d=c then 2 else 0) else if c=61∨c=33∨c=60∨c=62 then (if d=61 then 2 else 1) else 0
def jR(s:ByteArray)(i:Int):TR:=if eF s i=0 then .bad 111 i else .ok ⟨4,cut s i (i+eF s i),0,0,i⟩
def fj(s:ByteArray)(f:Int):TR :=
 let i:=dg s f
 if i=s.size then .ok (ir i)
 else if dh (bt s i) then jH s i else if gE (bt s i) then jQ s i else jR s i
def Tok.v(t:Tok):Value:=.agg #[.int .u8 t.kind,.string t.text,.int .u8 t.dH,.int .i64 t.n,.int .i64 t.pos]
theorem gU{n:Int}(h : -9223372036854775808≤n∧n≤9223372036854775807):IntKind.wrap .i64 n=n:=by
 simp only[IntKind.wrap,IntKind.bits,IntKind.signed];simp;split<;>omega
theorem w8{n:Int}(h:0≤n∧n≤255):IntKind.wrap .u8 n=n:=by
 simp only[IntKind.wrap,IntKind.bits,IntKind.signed];simp;omega
inductive Px where
 | mk (kind oper dH n field:Int) (name:ByteArray) (kids:List Px) (pos:Int)
namespace Px
def kind:Px→Int | .mk k _ _ _ _ _ _ _=>k
def oper:Px→Int | .mk _ o _ _ _ _ _ _=>o
def dH:Px→Int | .mk _ _ t _ _ _ _ _=>t
def n:Px→Int | .mk _ _ _ n _ _ _ _=>n
def field:Px→Int | .mk _ _ _ _ f _ _ _=>f
def name:Px→ByteArray | .mk _ _ _ _ _ s _ _=>s
def kids:Px→List Px | .mk _ _ _ _ _ _ l _=>l
def pos:Px→Int | .mk _ _ _ _ _ _ _ p=>p
theorem ind{p:Px→Prop}(h:∀x:Px,(∀k∈x.kids,p k)→p x):∀x:Px,p x
 | .mk k o t n f s l q=>h _ fun y hy=>ind h y
termination_by x=>SizeOf.sizeOf x
decreasing_by
 have:=List.sizeOf_lt_of_mem (show y∈l from hy)
 simp;omega
end Px
inductive Nd where
 | mk (kind oper dH n field:Int) (name:ByteArray) (a:Option Addr) (c:Nat) (kids:List Nd) (pos:Int)
namespace Nd
def kind:Nd→Int | .mk k _ _ _ _ _ _ _ _ _=>k
def oper:Nd→Int | .mk _ o _ _ _ _ _ _ _ _=>o
def dH:Nd→Int | .mk _ _ t _ _ _ _ _ _ _=>t
def n:Nd→Int | .mk _ _ _ n _ _ _ _ _ _=>n
def field:Nd→Int | .mk _ _ _ _ f _ _ _ _ _=>f
def name:Nd→ByteArray | .mk _ _ _ _ _ s _ _ _ _=>s
def a:Nd→Option Addr | .mk _ _ _ _ _ _ a _ _ _=>a
def c:Nd→Nat | .mk _ _ _ _ _ _ _ c _ _=>c
def kids:Nd→List Nd | .mk _ _ _ _ _ _ _ _ l _=>l
def pos:Nd→Int | .mk _ _ _ _ _ _ _ _ _ p=>p
theorem ind{p:Nd→Prop}(h:∀x:Nd,(∀k∈x.kids,p k)→p x):∀x:Nd,p x
 | .mk k o t n f s a c l q=>h _ fun y hy=>ind h y
termination_by x=>SizeOf.sizeOf x
decreasing_by
 have:=List.sizeOf_lt_of_mem (show y∈l from hy)
 simp;omega
mutual
def px:Nd→Px
 | .mk k o t n f s _ _ l q=>.mk k o t n f s (xp l) q
def xp:List Nd→List Px
 | []=>[]
 | k::r=>px k::xp r
end
theorem rO:∀l:List Nd,xp l=l.map px
 | []=>rfl
 | k::r=>by rw[xp,rO r];rfl
theorem jA(t:Nd):t.px.kids=t.kids.map px:=by cases t;rw[px,←rO];rfl
theorem vJ(t:Nd):t.px.kind=t.kind:=by cases t;rw[px];rfl
theorem rP(t:Nd):t.px.oper=t.oper:=by cases t;rw[px];rfl
theorem yA(t:Nd):t.px.dH=t.dH:=by cases t;rw[px];rfl
theorem D9(t:Nd):t.px.n=t.n:=by cases t;rw[px];rfl
theorem s6(t:Nd):t.px.field=t.field:=by cases t;rw[px];rfl
theorem vK(t:Nd):t.px.name=t.name:=by cases t;rw[px];rfl
theorem vL(t:Nd):t.px.pos=t.pos:=by cases t;rw[px];rfl
theorem Ea(t:Nd):t.px.kids.length=t.kids.length:=by rw[jA,List.length_map]
abbrev enc(t:Nd):List Value:=[.int .u8 t.kind,.int .u8 t.oper,.int .u8 t.dH,.int .i64 t.n,.int .u8 t.field,.string t.name,.slice t.a t.kids.length t.c,.int .i64 t.pos]
abbrev v(t:Nd):Value:=.agg #[.int .u8 t.kind,.int .u8 t.oper,.int .u8 t.dH,.int .i64 t.n,.int .u8 t.field,.string t.name,.slice t.a t.kids.length t.c,.int .i64 t.pos]
theorem vM(t:Nd):t.enc.length=8:=rfl
theorem zC(t:Nd):∀u∈t.enc,u.oneCell'=true:=by
 intro u hu
 simp only[enc,List.mem_cons,List.not_mem_nil,or_false] at hu
 rcases hu with h | h | h | h | h | h | h | h<;>(subst h;rfl)
end Nd
inductive fR (I:cS) (G:cR):Nd→Prop
 | mk {t:Nd}:mv I G 8 Nd.enc t.a t.kids.length t.kids→(∀k∈t.kids,fR I G k)→fR I G t
theorem fR.sl{I:cS}{G:cR}{t:Nd}(h:fR I G t):mv I G 8 Nd.enc t.a t.kids.length t.kids:=by cases h;assumption
theorem fR.CP{I:cS}{G:cR}{t:Nd}(h:fR I G t):∀k∈t.kids,fR I G k:=by cases h;assumption
theorem fR.mono{I J:cS}{G H:cR}{t:Nd}(h:fR I G t)(hl:cS.le I J)(hs:∀x,x∈G→x∈H):fR J H t:=by
 induction h with
 | mk h1 h2 ih=>exact .mk (h1.mono hl hs) ih
def uQ(I:cS)(G:cR)(a:Option Addr)(n:Nat)(l:List Nd):Prop:=mv I G 8 Nd.enc a n l∧∀k∈l,fR I G k
theorem fR.kids{I:cS}{G:cR}{t:Nd}(h:fR I G t):uQ I G t.a t.kids.length t.kids:=⟨h.sl,h.CP⟩
theorem uQ.mono{I J:cS}{G H:cR}{a:Option Addr}{n:Nat}{l:List Nd}(h:uQ I G a n l)(hl:cS.le I J)(hs:∀x,x∈G→x∈H):uQ J H a n l:=⟨h.1.mono hl hs,fun k hk=>(h.2 k hk).mono hl hs⟩
theorem uQ.at{I:cS}{G:cR}{a:Option Addr}{n:Nat}{l:List Nd}(h:uQ I G a n l){i:Int}(h0:0≤i)(h1:i<n) :
  ∃ad x,a=some ad∧l[i.toNat]? = some x∧Rd I G (ad.add (Int.toNat i*8)) x.enc∧fR I G x∧x∈l:=by
 obtain⟨ad,x,h2,h3,h4⟩:=h.1.at h0 h1
 exact⟨ad,x,h2,h3,h4,h.2 x (List.mem_of_getElem? h3),List.mem_of_getElem? h3⟩
namespace Px
def arity(x:Px):Nat:=if x.kind=5∨x.kind=9 then 1 else if x.kind=6 then 2 else if x.kind=7 then 3 else if x.kind=8 then (if x.oper=3 then 1 else 2) else 0
def E4(x:Px):Bool:=if x.dH=6 then decide (x.n=1∨x.n=2) else if x.dH=5 then decide (x.n=0∨x.n=1) else if 1≤x.dH∧x.dH≤4 then decide (0≤x.n) else false
def yB(x:Px):Bool :=
 if x.kind=1 then E4 x else if x.kind=2 then iO x.name else if x.kind=3 then decide (1≤x.field∧x.field≤6) else if x.kind=4 then decide (1≤x.field∧x.field≤3)
 else if x.kind=5 then decide (x.oper=1∨x.oper=2) else if x.kind=6 then decide (6≤x.oper∧x.oper≤18) else if x.kind=7 then true
 else if x.kind=8 then decide (3≤x.oper∧x.oper≤5) else if x.kind=9 then decide (1≤x.dH∧x.dH≤4) else false
def s7(x:Px):Bool :=
 (x.oper==0||x.kind==5||x.kind==6||x.kind==8)&&(x.dH==0||x.kind==1||x.kind==9)&&(x.n==0||x.kind==1)&&(x.field==0||x.kind==3||x.kind==4)&&(x.name.toList==[]||x.kind==2)
def jN(x:Px):Bool:=yB x&&s7 x&&decide (x.kids.length=arity x)
mutual
def formed:Px→Bool
 | .mk k o t n f s l q=>jN (.mk k o t n f s l q)&&mz l
def mz:List Px→Bool
 | []=>true
 | x::r=>formed x&&mz r
end
theorem lP(x:Px):x.formed=(jN x&&mz x.kids):=by cases x;rw[formed];rfl
def level(x:Px):Int :=
 if x.kind=7 then 1 else if x.kind=5 then 7 else if x.kind=6 then (if x.oper=18 then 2 else if x.oper=17 then 3 else if 11≤x.oper then 4 else if 8≤x.oper then 6 else 5) else 8
def asks(x:Px)(i:Int):Int :=
 if x.kind=7 then (if i=0 then 2 else 1) else if x.kind=5 then 7 else if x.kind=6 then (if level x=4 then 5 else level x+i) else 1
def vN(x k:Px)(i:Int):Int:=(if level k<asks x i then 1 else 0)+(if x.kind=6 then 0 else if x.kind=7 then (if 0<i then 1 else 0) else 1)
mutual
def depth:Px→Int
 | .mk k o t n f s l q=>lu (.mk k o t n f s l q) 0 l 0
def lu(x:Px)(i:Int):List Px→Int→Int
 | [],most=>most
 | y::r,most=>lu x (i+1) r (max most (depth y+vN x y i))
end
theorem nj(x:Px):x.depth=lu x 0 x.kids 0:=by cases x;rw[depth];rfl
mutual
def size:Px→Int
 | .mk _ _ _ _ _ _ l _=>1+fA l
def fA:List Px→Int
 | []=>0
 | x::r=>size x+fA r
end
theorem size_eq(x:Px):x.size=1+fA x.kids:=by cases x;rw[size];rfl
mutual
def bare:Px→Px
 | .mk k o t n f s l _=>.mk k o t n f s (zD l) 0
def zD:List Px→List Px
 | []=>[]
 | x::r=>bare x::zD r
end
theorem uR:∀l:List Px,zD l=l.map bare
 | []=>rfl
 | x::r=>by rw[zD,uR r];rfl
theorem nS(x:Px):x.bare=.mk x.kind x.oper x.dH x.n x.field x.name (x.kids.map bare) 0:=by cases x;rw[bare,uR];rfl
def jY(x y:Px):Bool:=x.kind==y.kind&&(x.oper==y.oper&&(x.dH==y.dH&&(x.n==y.n&&(x.field==y.field&&(x.name.toList==y.name.toList&&true)))))
mutual
def gT:Px→Px→Bool
 | .mk k o t n f s l q,y=>jY (.mk k o t n f s l q) y&&(decide (l.length=y.kids.length)&&s8 l y.kids)
def s8:List Px→List Px→Bool
 | [],_=>true
 | _::_,[]=>false
 | x::r,y::r'=>gT x y&&s8 r r'
end
theorem CQ(x y:Px):x.gT y=(jY x y&&(decide (x.kids.length=y.kids.length)&&s8 x.kids y.kids)):=by cases x;rw[gT];rfl
mutual
def nodes:Px→List Px
 | .mk k o t n f s l q=>.mk k o t n f s l q::iX l
def iX:List Px→List Px
 | []=>[]
 | x::r=>nodes x++iX r
end
theorem pN(x:Px):x.nodes=x::iX x.kids:=by cases x;rw[nodes];rfl
theorem size_pos:∀x:Px,1≤x.size:=by
 have hL:∀l:List Px,(∀x∈l,1≤size x)→0≤fA l:=by
  intro l
  induction l with
  | nil=>intro _;exact Int.le_refl _
  | cons x r ih =>
    intro h
    have:=h x (List.mem_cons_self ..)
    have:=ih fun y hy=>h y (List.mem_cons_of_mem _ hy)
    rw[fA];omega
 refine ind fun x h=>?_
 rw[size_eq]
 have:=hL x.kids h
 omega
theorem pO:∀l:List Px,0≤fA l
 | []=>Int.le_refl _
 | x::r=>by have:=size_pos x;have:=pO r;rw[fA];omega
theorem uS{x:Px}:∀{l:List Px},x∈l→x.size≤fA l
 | [],h=>by cases h
 | y::r,h=>by
   rw[fA]
   have:=size_pos y
   have:=pO r
   rcases List.mem_cons.1 h with rfl | h
   ·omega
   ·have:=uS h;omega
theorem uT:∀l:List Px,(l.length:Int)≤fA l
 | []=>Int.le_refl _
 | x::r=>by have:=size_pos x;have:=uT r;rw[fA,List.length_cons];omega
inductive fX:Px→Prop
 | mk {x:Px}:x.name.size≤140737488351232→x.kids.length≤140737488351232→(∀k∈x.kids,fX k)→fX x
theorem fX.name{x:Px}(h:fX x):x.name.size≤140737488351232:=by cases h;assumption
theorem fX.len{x:Px}(h:fX x):x.kids.length≤140737488351232:=by cases h;assumption
theorem fX.CP{x:Px}(h:fX x):∀k∈x.kids,fX k:=by cases h;assumption
end Px
end Go.Lx
namespace Go.Lx
open Go.Vc Go.Proofs.Tryz
noncomputable abbrev P:Program:=Go.Proofs.Tryz.prog
def iY:List (Nat×List Sh):=[(4,[.one .bool]),(9,[.one .str]),(38,[.one .slc]),(236,[.one (.int .i64),.one .bool])]
def qx.V(c:Int)(I:cS)(F:cR)(Q:cW)  : Prop:=((decide (48≤c)=true→Q (.returned (.bool (decide (c≤57)))) I F)∧(decide (48≤c)=false→Q (.returned (.bool false)) I F))
theorem qx.vc{c:Int}{I:cS}{F:cR}{Q:cW}  (h:qx.V c I F Q):cZ P 135 #[.int .u8 c] I F Q :=
 tw (A:=(an [1001] [] iY)) [] func135 h
def qy.V(c:Int)(I:cS)(F:cR)(Q:cW)  : Prop:=((decide (97≤c)=true→Q (.returned (.bool (decide (c≤122)))) I F)∧(decide (97≤c)=false→Q (.returned (.bool false)) I F))
theorem qy.vc{c:Int}{I:cS}{F:cR}{Q:cW}  (h:qy.V c I F Q):cZ P 137 #[.int .u8 c] I F Q :=
 tw (A:=(an [1001] [] iY)) [] func137 h
def nT.V(vt:Bool→Value)(c:Int)(I:cS)(F:cR)(Q:cW)  : Prop:=cZ P 137 #[.int .u8 c] I F fun e1 I1 G1=>∃(r:Bool),e1=.returned (vt r)∧∃F1:cR,List.Perm G1 F1∧((r=true→Q (.returned (vt true)) I1 F1)∧(r=false→cZ P 135 #[.int .u8 c] I1 F1 fun e2 I2 G2=>∃(r1:Bool),e2=.returned (vt r1)∧∃F2:cR,List.Perm G2 F2∧((r1=true→Q (.returned (vt true)) I2 F2)∧(r1=false→Q (.returned (vt (c==95))) I2 F2))))
theorem nT.vc{c:Int}{I:cS}{F:cR}{Q:cW}  (h:nT.V .bool c I F Q):cZ P 139 #[.int .u8 c] I F Q :=
 tw (A:=(an [1001,1004] [135,137] iY)) [135,137] func139 h
def qz.V(vs:Bs→Value)(I:cS)(F:cR)(Q:cW)  : Prop:=∀(b:Nat) (I1:cS),cS.le I I1→I1 b=some (Obj.cells #[vs (⟨#[97,98,115]⟩:Bs),vs (⟨#[97,109,101,110,100]⟩:Bs),vs (⟨#[97,115]⟩:Bs),vs (⟨#[97,115,107]⟩:Bs),vs (⟨#[97,116]⟩:Bs),vs (⟨#[98,105,100]⟩:Bs),vs (⟨#[98,111,111,108]⟩:Bs),vs (⟨#[98,117,121]⟩:Bs),vs (⟨#[99,97,110,99,101,108]⟩:Bs),vs (⟨#[100,111]⟩:Bs),vs (⟨#[102,97,108,115,101]⟩:Bs),vs (⟨#[102,111,107]⟩:Bs),vs (⟨#[103,111,116,111]⟩:Bs),vs (⟨#[104,97,108,116]⟩:Bs),vs (⟨#[104,97,115]⟩:Bs),vs (⟨#[105,110,116]⟩:Bs),vs (⟨#[105,111,99]⟩:Bs),vs (⟨#[108,97,115,116]⟩:Bs),vs (⟨#[108,105,109,105,116]⟩:Bs),vs (⟨#[109,97,114,107,101,116]⟩:Bs),vs (⟨#[109,97,120]⟩:Bs),vs (⟨#[109,105,110]⟩:Bs),vs (⟨#[110,111,119]⟩:Bs),vs (⟨#[111,102]⟩:Bs),vs (⟨#[111,112,101,110]⟩:Bs),vs (⟨#[112,111,115,116]⟩:Bs),vs (⟨#[112,114,105,99,101]⟩:Bs),vs (⟨#[113,116,121]⟩:Bs),vs (⟨#[114,101,103]⟩:Bs),vs (⟨#[115,101,108,108]⟩:Bs),vs (⟨#[115,101,116]⟩:Bs),vs (⟨#[115,105,100,101]⟩:Bs),vs (⟨#[115,108,111,116]⟩:Bs),vs (⟨#[115,116,97,116,101]⟩:Bs),vs (⟨#[115,116,114,97,116,101,103,121]⟩:Bs),vs (⟨#[115,117,98,109,105,116]⟩:Bs),vs (⟨#[116,105,109,101]⟩:Bs),vs (⟨#[116,111]⟩:Bs),vs (⟨#[116,114,117,101]⟩:Bs),vs (⟨#[118,111,108,117,109,101]⟩:Bs),vs (⟨#[119,104,101,110]⟩:Bs)] 9 (0,0))→Q (.returned (.slice (some ⟨b,0,none⟩) 41 41)) I1 (F)
theorem qz.vc  {I:cS}{F:cR}{Q:cW}  (h:qz.V .string I F Q):cZ P 151 #[] I F Q :=
 tw (A:=(fa [] [] [] iY [] [1000] [] [] [] [] [])) [] func151 h
def nU.V(x:Bs)(I:cS)(F:cR)(Q:cW)  : Prop:=Q (.returned (.bool (!(x.toList==x.toList)))) I (F)
theorem nU.vc{x:Bs}{I:cS}{F:cR}{Q:cW}  (h:nU.V x I F Q):cZ P 158 #[.string x] I F Q :=
 tw (A:=(an [] [] iY)) [] func158 h
def pP.V(vt:Bool→Value)(x y:Bs)(I:cS)(F:cR)(Q:cW)  : Prop:=jW P 158 #[.string x] I (·) F vt fun r I1 F1=>(It r (jW P 158 #[.string y] I1 (·) F1 vt fun r1 I2 F2=>(It (!r1) (Q (.returned (vt true)) I2 F2) (Q (.returned (vt (Op.bytesLess x.toList y.toList))) I2 F2))) (Q (.returned (vt (Op.bytesLess x.toList y.toList))) I1 F1))
theorem pP.vc{x y:Bs}{I:cS}{F:cR}{Q:cW}  (h:pP.V .bool x y I F Q):cZ P 155 #[.string x,.string y] I F Q :=
 tw (A:=(an [1001,1005] [158] iY)) [158] func155 h
def jZ.V(x:Bs)(I:cS)(F:cR)(Q:cW)  : Prop:=Q (.returned (.bool (!(x.toList==x.toList)))) I (F)
theorem jZ.vc{x:Bs}{I:cS}{F:cR}{Q:cW}  (h:jZ.V x I F Q):cZ P 156 #[.string x] I F Q :=
 tw (A:=(an [] [] iY)) [] func156 h
def fI.V(vi:Int→Value)(vs:Bs→Value)(vt:Bool→Value)(wr:Int→Int)(c:OA)(b f:Nat)(a:Bs)(I:cS)(F:cR)(Q:cW)(Inv8:Int→Int→Nat→cS→cR→Prop):Prop:=(∃m:Nat,Inv8 0 (b:Int) m I F)∧∀(i j:Int) (m1:Nat) (I1:cS) (F1:cR),cS.le I I1→Inv8 i j m1 I1 F1→(Dt (i<j) ((0≤(wr (Int.fdiv (IntKind.wrap .u64 (wr (i+j))) (2 ^ 1)))∧(wr (Int.fdiv (IntKind.wrap .u64 (wr (i+j))) (2 ^ 1)))<(b:Int))∧∃ad:Addr,c=some ad∧∃(m2:Bs),Rd I1 F1 (ad.add (Int.toNat (wr (Int.fdiv (IntKind.wrap .u64 (wr (i+j))) (2 ^ 1)))*1)) [vs m2]∧jW P 155 #[vs m2,vs a] I1 (·) F1 vt fun r I2 F2=>(It r (∃m3:Nat,m3<m1∧Inv8 (wr ((wr (Int.fdiv (IntKind.wrap .u64 (wr (i+j))) (2 ^ 1)))+1)) j m3 I2 F2) (∃m4:Nat,m4<m1∧Inv8 i (wr (Int.fdiv (IntKind.wrap .u64 (wr (i+j))) (2 ^ 1))) m4 I2 F2))) (Dt (i<(b:Int)) ((0≤i∧i<(b:Int))∧∃d:Addr,c=some d∧∃(m5:Bs),Rd I1 F1 (d.add (Int.toNat i*1)) [vs m5]∧(It (m5.toList==a.toList) (Q (.returned (.tuple #[vi i,vt true])) I1 F1) ((0≤i∧i<(b:Int))∧∃e:Addr,c=some e∧∃(m6:Bs),Rd I1 F1 (e.add (Int.toNat i*1)) [vs m6]∧jW P 156 #[vs m6] I1 (·) F1 vt fun r1 I3 F3=>(It r1 (jW P 156 #[vs a] I3 (·) F3 vt fun r2 I4 F4=>Q (.returned (.tuple #[vi i,vt r2])) I4 F4) (Q (.returned (.tuple #[vi i,vt false])) I3 F3))))) (Q (.returned (.tuple #[vi i,vt false])) I1 F1)))
theorem fI.vc{b:OA}{c d:Nat}{a:Bs}{I:cS}{F:cR}{Q:cW}(Inv8:Int→Int→Nat→cS→cR→Prop)(h:fI.V (.int .i64) .string .bool (IntKind.wrap .i64) b c d a I F Q Inv8):cZ P 150 #[.slice b c d,.string a] I F Q :=
 tw (A:=(fa [3002,5005,8003,8010,8016] [] [155,156] iY [(8,⟨[(7,(.int .i64)),(8,(.int .i64))],[],fun _ _ _ vs m I F=>match vs with | [.int _ y0,.int _ y1]=>Inv8 y0 y1 m I F | _=>False,[],[]⟩)] [] [] [] [] [] [])) [155,156] func150 h
def pQ.V(s:Bs)(I:cS)(F:cR)(Q:cW)  : Prop:=cZ P 151 #[] I F fun e1 I1 G1=>∃(a:OA) (b c:Nat),e1=.returned (.slice a b c)∧∃F1:cR,List.Perm G1 F1∧cZ P 150 #[.slice a b c,.string s] I1 F1 fun e2 I2 G2=>∃(r0:Int) (r1:Bool),e2=.returned (.tuple #[.int .i64 r0,.bool r1])∧∃F2:cR,List.Perm G2 F2∧Q (.returned (.bool r1)) I2 (F2)
theorem pQ.vc{s:Bs}{I:cS}{F:cR}{Q:cW}  (h:pQ.V s I F Q):cZ P 140 #[.string s] I F Q :=
 tw (A:=(an [] [150,151] iY)) [150,151] func140 h
def mB.V(c:Int)(I:cS)(F:cR)(Q:cW)  : Prop:=(Dt (c≥97) (Q (.returned (.bool (decide (c≤122)))) I F) (Q (.returned (.bool false)) I F))
theorem mB.vc{c:Int}{I:cS}{F:cR}{Q:cW}  (h:mB.V c I F Q):cZ P 54 #[.int .u8 c] I F Q :=
 tw (A:=(an [1001] [] iY)) [] func54 h
def nk.V(c:Int)(I:cS)(F:cR)(Q:cW)  : Prop:=(Dt (c≥48) (Q (.returned (.bool (decide (c≤57)))) I F) (Q (.returned (.bool false)) I F))
theorem nk.vc{c:Int}{I:cS}{F:cR}{Q:cW}  (h:nk.V c I F Q):cZ P 56 #[.int .u8 c] I F Q :=
 tw (A:=(an [1001] [] iY)) [] func56 h
def mC.V(vt:Bool→Value)(c:Int)(I:cS)(F:cR)(Q:cW)  : Prop:=jW P 54 #[.int .u8 c] I (·) F vt fun r I1 F1=>(It r (Q (.returned (vt true)) I1 F1) (jW P 56 #[.int .u8 c] I1 (·) F1 vt fun r1 I2 F2=>(It r1 (Q (.returned (vt true)) I2 F2) (Q (.returned (vt (c==95))) I2 F2))))
theorem mC.vc{c:Int}{I:cS}{F:cR}{Q:cW}  (h:mC.V .bool c I F Q):cZ P 97 #[.int .u8 c] I F Q :=
 tw (A:=(an [1001,1004] [54,56] iY)) [54,56] func97 h
def np.V(vs:Bs→Value)(I:cS)(F:cR)(Q:cW)  : Prop:=∀(b:Nat) (I1:cS),cS.le I I1→I1 b=some (Obj.cells #[vs (⟨#[97,98,115]⟩:Bs),vs (⟨#[97,109,101,110,100]⟩:Bs),vs (⟨#[97,115]⟩:Bs),vs (⟨#[97,115,107]⟩:Bs),vs (⟨#[97,116]⟩:Bs),vs (⟨#[98,105,100]⟩:Bs),vs (⟨#[98,111,111,108]⟩:Bs),vs (⟨#[98,117,121]⟩:Bs),vs (⟨#[99,97,110,99,101,108]⟩:Bs),vs (⟨#[100,111]⟩:Bs),vs (⟨#[102,97,108,115,101]⟩:Bs),vs (⟨#[102,111,107]⟩:Bs),vs (⟨#[103,111,116,111]⟩:Bs),vs (⟨#[104,97,108,116]⟩:Bs),vs (⟨#[104,97,115]⟩:Bs),vs (⟨#[105,110,116]⟩:Bs),vs (⟨#[105,111,99]⟩:Bs),vs (⟨#[108,97,115,116]⟩:Bs),vs (⟨#[108,105,109,105,116]⟩:Bs),vs (⟨#[109,97,114,107,101,116]⟩:Bs),vs (⟨#[109,97,120]⟩:Bs),vs (⟨#[109,105,110]⟩:Bs),vs (⟨#[110,111,119]⟩:Bs),vs (⟨#[111,102]⟩:Bs),vs (⟨#[111,112,101,110]⟩:Bs),vs (⟨#[112,111,115,116]⟩:Bs),vs (⟨#[112,114,105,99,101]⟩:Bs),vs (⟨#[113,116,121]⟩:Bs),vs (⟨#[114,101,103]⟩:Bs),vs (⟨#[115,101,108,108]⟩:Bs),vs (⟨#[115,101,116]⟩:Bs),vs (⟨#[115,105,100,101]⟩:Bs),vs (⟨#[115,108,111,116]⟩:Bs),vs (⟨#[115,116,97,116,101]⟩:Bs),vs (⟨#[115,116,114,97,116,101,103,121]⟩:Bs),vs (⟨#[115,117,98,109,105,116]⟩:Bs),vs (⟨#[116,105,109,101]⟩:Bs),vs (⟨#[116,111]⟩:Bs),vs (⟨#[116,114,117,101]⟩:Bs),vs (⟨#[118,111,108,117,109,101]⟩:Bs),vs (⟨#[119,104,101,110]⟩:Bs)] 9 (0,0))→Q (.returned (.slice (some ⟨b,0,none⟩) 41 41)) I1 (F)
theorem np.vc  {I:cS}{F:cR}{Q:cW}  (h:np.V .string I F Q):cZ P 118 #[] I F Q :=
 tw (A:=(fa [] [] [] iY [] [1000] [] [] [] [] [])) [] func118 h
def mD.V(s:Bs)(I:cS)(F:cR)(Q:cW)(Inv8:Bool→Int→Nat→cS→cR→Prop):Prop:=ni P 118 #[] I (·) F fun e1 I1 G1=>∃(b:OA) (a c:Nat),e1=.returned (.slice b a c)∧G1 fun F1=>(∃m:Nat,Inv8 false 0 m I1 F1)∧∀(x:Bool) (i:Int) (m1:Nat) (I2:cS) (F2:cR),cS.le I1 I2→Inv8 x i m1 I2 F2→(Dt (i<(a:Int)) ((0≤i∧i<(a:Int))∧∃ad:Addr,b=some ad∧∃(m2:Bs),Rd I2 F2 (ad.add (Int.toNat i*1)) [.string m2]∧(It (m2.toList==s.toList) (Q (.returned (.bool true)) I2 F2) (∃m3:Nat,m3<m1∧Inv8 x (IntKind.wrap .i64 (i+1)) m3 I2 F2))) (Q (.returned (.bool false)) I2 F2))
theorem mD.vc{s:Bs}{I:cS}{F:cR}{Q:cW}(Inv8:Bool→Int→Nat→cS→cR→Prop)(h:mD.V s I F Q Inv8):cZ P 96 #[.string s] I F Q :=
 tw (A:=(fa [3003,5005] [] [118] iY [(8,⟨[(2,.bool),(4,(.int .i64))],[],fun _ _ _ vs m I F=>match vs with | [.bool y0,.int _ y1]=>Inv8 y0 y1 m I F | _=>False,[],[]⟩)] [] [] [] [] [] [])) [118] func96 h
end Go.Lx
namespace Go.Lx
open Go.Vc
def lH(v:Value)(F:cR)(e:Ending)(I:cS)(G:cR):Prop:=e=.returned v∧G=F
theorem cZ.ret{Pr:Program}{f:FuncId}{args:Array Value}{I:cS}{F:cR}{v:Value}{Q:Ending→cS→cR→Prop}(h:cZ Pr f args I F (lH v F))
  (k:∀I',cS.le I I'→Q (.returned v) I' F):cZ Pr f args I F Q :=
 h.mono fun e I' G hl ⟨he,hG⟩=>by subst he;subst hG;exact k I' hl
theorem oV(c:Int)(I:cS)(F:cR):cZ P 135 #[.int .u8 c] I F (lH (.bool (dh c)) F):=by
 refine qx.vc ⟨fun h=>⟨?_,rfl⟩,fun h=>⟨?_,rfl⟩⟩<;>simp[dh,h]
theorem s9(c:Int)(I:cS)(F:cR):cZ P 137 #[.int .u8 c] I F (lH (.bool (gE c)) F):=by
 refine qy.vc ⟨fun h=>⟨?_,rfl⟩,fun h=>⟨?_,rfl⟩⟩<;>simp[gE,h]
theorem tb(c:Int)(I:cS)(F:cR):cZ P 139 #[.int .u8 c] I F (lH (.bool (dx c)) F):=by
 refine nT.vc ?_
 unfold nT.V
 refine cZ.ret (s9 c I F) fun I1 h1=>⟨_,rfl,F,.refl _,fun hs=>⟨?_,rfl⟩,fun hs=>?_⟩
 ·simp[dx,hs]
 ·refine cZ.ret (oV c I1 F) fun I2 h2=>⟨_,rfl,F,.refl _,fun hd=>⟨?_,rfl⟩,fun hd=>⟨?_,rfl⟩⟩
  ·simp[dx,hd]
  ·simp[dx,hs,hd]
def dj(s:ByteArray):Prop:=s.size≤140737488351232
def kH(x:ByteArray):List Value:=[.string x]
theorem yC(I:cS)(F:cR):cZ P 151 #[] I F fun e I' G=>∃b:Nat,e=.returned (.slice (some ⟨b,0,none⟩) 41 41)∧Sl I' 1 kH (some ⟨b,0,none⟩) 41 eG∧G=F:=by
 refine qz.vc fun b I1 hI hb=>⟨b,rfl, ?_,rfl⟩
 exact Sl.jG (f:=kH) (z:=1) (l:=eG) (fun _=>rfl) hb (by kernel_rfl)
theorem yD(x:ByteArray)(I:cS)(F:cR):cZ P 158 #[.string x] I F (lH (.bool false) F):=by
 refine nU.vc ?_
 unfold nU.V
 exact⟨by simp,rfl⟩
theorem xq(x:ByteArray)(I:cS)(F:cR):cZ P 156 #[.string x] I F (lH (.bool false) F):=by
 refine jZ.vc ?_
 unfold jZ.V
 exact⟨by simp,rfl⟩
theorem An(x y:ByteArray)(I:cS)(F:cR):cZ P 155 #[.string x,.string y] I F (lH (.bool (Op.bytesLess x.toList y.toList)) F):=by
 refine pP.vc ?_
 unfold pP.V
 exact cZ.ret (yD x I F) fun I1 h1=>⟨_,rfl,F,.refl _,fun h=>by (cases h),fun _=>⟨rfl,rfl⟩⟩
theorem oW:∀{a b c:List UInt8},Op.bytesLess a b=true→Op.bytesLess b c=true→Op.bytesLess a c=true
 | a,b,[],_,h=>by cases b<;>simp[Op.bytesLess] at h
 | [],b,z::c,_,_=>rfl
 | x::a,[],z::c,h,_=>by simp[Op.bytesLess] at h
 | x::a,y::b,z::c,h1,h2=>by
   simp only[Op.bytesLess,Bool.or_eq_true,Bool.and_eq_true,decide_eq_true_eq,beq_iff_eq] at h1 h2 ⊢
   rcases h1 with h1 | ⟨rfl,h1⟩
   ·rcases h2 with h2 | ⟨rfl,h2⟩
    ·exact .inl (UInt8.lt_trans h1 h2)
    ·exact .inl h1
   ·rcases h2 with h2 | ⟨rfl,h2⟩
    ·exact .inl h2
    ·exact .inr ⟨rfl,oW h1 h2⟩
def oF(x y:ByteArray):Bool:=Op.bytesLess x.toList y.toList
theorem vO:∀i j:Fin 41,i<j→oF (eG[i]'(by simp[eG])) (eG[j]'(by simp[eG]))=true:=by decide +kernel
theorem yE:∀i:Fin 41,oF (eG[i]'(by simp[eG])) (eG[i]'(by simp[eG]))=false:=by decide +kernel
theorem td{i j:Nat}{x y:ByteArray}(h:i<j)(hx:eG[i]? = some x)(hy:eG[j]? = some y):oF x y=true:=by
 have hj:j<41:=by
  rcases Nat.lt_or_ge j eG.length with h | h
  ·exact h
  ·simp[List.getElem?_eq_none h] at hy
 have:=vO ⟨i,by omega⟩ ⟨j,hj⟩ h
 rw[List.getElem?_eq_getElem (by show i<41;omega)] at hx
 rw[List.getElem?_eq_getElem (by show j<41;omega)] at hy
 cases hx;cases hy;exact this
theorem Ao{i:Nat}{x:ByteArray}(hx:eG[i]? = some x):oF x x=false:=by
 have hj:i<41:=by
  rcases Nat.lt_or_ge i eG.length with h | h
  ·exact h
  ·simp[List.getElem?_eq_none h] at hx
 have:=yE ⟨i,hj⟩
 rw[List.getElem?_eq_getElem (by show i<41;omega)] at hx
 cases hx;exact this
theorem CR{n:Int}(h:0≤n∧n≤18446744073709551615):IntKind.wrap .u64 n=n:=by
 simp only[IntKind.wrap,IntKind.bits,IntKind.signed];simp;omega
theorem Eb{i j:Int}(h0:0≤i)(h:i<j)(hj:j≤41):IntKind.wrap .i64 (Int.fdiv (IntKind.wrap .u64 (IntKind.wrap .i64 (i+j))) (2 ^ 1))=(i+j) / 2:=by
 rw[gU (n:=i+j) (by omega),CR (n:=i+j) (by omega),Int.fdiv_eq_ediv_of_nonneg _ (by decide)]
 rw[show ((2:Int) ^ 1)=2 by rfl,gU (by omega)]
theorem xt{a:Option Addr}{c:Nat}{t:ByteArray}{I:cS}(hS:Sl I 1 kH a 41 eG)(F:cR) :
  cZ P 150 #[.slice a 41 c,.string t] I F fun e I' G=>∃i:Int,e=.returned (.tuple #[.int .i64 i,.bool (oE t)])∧G=F:=by
 refine fI.vc (fun i j m I' F'=>0≤i∧i≤j∧j≤41∧m=(j-i).toNat∧(∀(k:Nat) (x:ByteArray),eG[k]? = some x→(k:Int)<i→oF x t=true) ∧
  (∀(k:Nat) (x:ByteArray),eG[k]? = some x→j≤k→oF x t=false)∧F'=F) ?_
 unfold fI.V
 refine⟨⟨_,by omega,by decide,by decide,rfl,fun k x _ h=>by omega,fun k x hx h=>?_,rfl⟩,fun i j m I1 F1 hI ⟨g0,g1,g2,gm,gl,gr,gF⟩=>⟨fun hlt=>?_,fun hlt=>?_⟩⟩
 ·have:eG.length=41:=rfl
  simp[List.getElem?_eq_none (l:=eG) (i:=k) (by omega)] at hx
 ·have hlt:i<j:=by simpa using hlt
  subst gF
  have hS1:=hS.mono hI
  have hmid:=Eb g0 hlt g2
  generalize IntKind.wrap .i64 (Int.fdiv (IntKind.wrap .u64 (IntKind.wrap .i64 (i+j))) (2 ^ 1))=h at hmid ⊢
  obtain⟨ad,x,ha,hx,hrd⟩:=hS1.at (i:=h) (by omega) (by omega)
  refine⟨⟨by omega,by show h<41;omega⟩,ad,ha,x,hrd F1, ?_⟩
  refine cZ.ret (An x t I1 F1) fun I2 h2=>⟨_,rfl,F1,.refl _,fun hc=>?_,fun hc=>?_⟩
  ·rw[gU (by omega)]
   refine⟨(j-(h+1)).toNat,by omega,by omega,by omega,g2,rfl,fun k y hy hk=>?_,gr,rfl⟩
   by_cases hkh:k=h.toNat
   ·subst hkh;rw[hx] at hy;cases hy;exact hc
   ·exact oW (td (by omega) hy hx) hc
  ·refine⟨(h-i).toNat,by omega,g0,by omega,by omega,rfl,gl,fun k y hy hk=>?_,rfl⟩
   by_cases hkh:k=h.toNat
   ·subst hkh;rw[hx] at hy;cases hy;exact hc
   ·cases hlk:oF y t with
    | false=>rfl
    | true=>have:=oW (td (i:=h.toNat) (by omega) hx hy) hlk;rw[hc] at this;cases this
 ·have hlt:¬i<j:=by simpa using hlt
  have hij:i=j:=by omega
  subst hij
  subst gF
  have hS1:=hS.mono hI
  have no:(∀(k:Nat) (x:ByteArray),eG[k]? = some x→(k:Int)=i→(x.toList==t.toList)=false)→oE t=false:=by
   intro hi
   unfold oE
   rw[List.any_eq_false]
   intro x hx
   obtain⟨k,hk⟩:=List.mem_iff_getElem?.1 hx
   intro he
   have he':x.toList=t.toList:=by simpa using he
   have hirr:=Ao hk
   unfold oF at hirr
   rcases Int.lt_or_le (k:Int) i with h | h
   ·have:=gl k x hk h
    unfold oF at this
    rw[←he',hirr] at this;cases this
   ·rcases Int.lt_or_eq_of_le h with h' | h'
    ·obtain⟨ad,y,ha,hy,hrd⟩:=hS1.at (i:=i) g0 (by
      have:k<41:=by
       rcases Nat.lt_or_ge k eG.length with h | h
       ·exact h
       ·simp[List.getElem?_eq_none h] at hk
      show i<41
      omega)
     have h1:=td (i:=i.toNat) (j:=k) (by omega) hy hk
     have h2:=gr i.toNat y hy (by omega)
     unfold oF at h1 h2
     rw[he',h2] at h1;cases h1
    ·rw[hi k x hk h'.symm] at he;cases he
  refine⟨fun hlt=>?_,fun hlt=>?_⟩
  ·have hlt:i<41:=by simpa using hlt
   obtain⟨ad,x,ha,hx,hrd⟩:=hS1.at (i:=i) g0 (by exact hlt)
   refine⟨⟨g0,hlt⟩,ad,ha,x,hrd F1,fun he=>?_,fun he=>?_⟩
   ·refine⟨i, ?_,rfl⟩
    have:oE t=true:=by
     unfold oE
     exact List.any_eq_true.2 ⟨x,List.mem_of_getElem? hx,he⟩
    rw[this]
   ·have hno:=no fun k y hk hki=>by
     have:k=i.toNat:=by omega
     subst this
     rw[hx] at hk;cases hk;exact he
    refine⟨⟨g0,hlt⟩,ad,ha,x,hrd F1, ?_⟩
    refine cZ.ret (xq x I1 F1) fun I2 h2=>⟨_,rfl,F1,.refl _,fun h=>by (cases h),fun _=>⟨i, ?_,rfl⟩⟩
    rw[hno]
  ·have hlt:¬i<41:=by simpa using hlt
   refine⟨i, ?_,rfl⟩
   rw[no fun k y hk hki=>by
    have:eG.length=41:=rfl
    simp[List.getElem?_eq_none (l:=eG) (i:=k) (by omega)] at hk]
theorem Ap(t:ByteArray)(I:cS)(F:cR):cZ P 140 #[.string t] I F (lH (.bool (oE t)) F):=by
 refine pQ.vc ?_
 unfold pQ.V
 refine (yC I F).mono fun e I1 G hI ⟨b,he,hS,hG⟩=>?_
 subst hG
 refine⟨_,_,_,he,_,.refl _, ?_⟩
 refine (xt hS G).mono fun e I2 G2 hI2 ⟨i,he,hG⟩=>?_
 subst hG
 exact⟨_,_,he,_,.refl _,rfl,rfl⟩
theorem pR(c:Int)(I:cS)(F:cR):cZ P 54 #[.int .u8 c] I F (lH (.bool (gE c)) F):=by
 refine mB.vc ⟨fun h=>⟨?_,rfl⟩,fun h=>⟨?_,rfl⟩⟩<;>simp_all [gE]<;>omega
theorem nq(c:Int)(I:cS)(F:cR):cZ P 56 #[.int .u8 c] I F (lH (.bool (dh c)) F):=by
 refine nk.vc ⟨fun h=>⟨?_,rfl⟩,fun h=>⟨?_,rfl⟩⟩<;>simp_all [dh]<;>omega
theorem te(c:Int)(I:cS)(F:cR):cZ P 97 #[.int .u8 c] I F (lH (.bool (dx c)) F):=by
 refine mC.vc ?_
 unfold mC.V
 refine cZ.ret (pR c I F) fun I1 h1=>⟨_,rfl,F,.refl _,fun hs=>⟨?_,rfl⟩,fun hs=>?_⟩
 ·simp[dx,hs]
 ·refine cZ.ret (nq c I1 F) fun I2 h2=>⟨_,rfl,F,.refl _,fun hd=>⟨?_,rfl⟩,fun hd=>⟨?_,rfl⟩⟩
  ·simp[dx,hd]
  ·simp[dx,hs,hd]
theorem xu(I:cS)(F:cR):cZ P 118 #[] I F fun e I' G=>∃b:Nat,e=.returned (.slice (some ⟨b,0,none⟩) 41 41)∧Sl I' 1 kH (some ⟨b,0,none⟩) 41 eG∧G=F:=by
 refine np.vc fun b I1 hI hb=>⟨b,rfl, ?_,rfl⟩
 exact Sl.jG (f:=kH) (z:=1) (l:=eG) (fun _=>rfl) hb (by kernel_rfl)
theorem BB{α:Type}{l:List α}{p:α→Bool}{k:Nat}{x:α}(h:l[k]? = some x):(l.drop k).any p=(p x||(l.drop (k+1)).any p):=by
 obtain⟨hk,rfl⟩:=List.getElem?_eq_some_iff.1 h
 rw[List.drop_eq_getElem_cons hk,List.any_cons]
theorem Aq{α:Type}{l:List α}{p:α→Bool}{k:Nat}{x:α}(h:l[k]? = some x):(l.drop k).find? p=if p x then some x else (l.drop (k+1)).find? p:=by
 obtain⟨hk,rfl⟩:=List.getElem?_eq_some_iff.1 h
 rw[List.drop_eq_getElem_cons hk,List.find?_cons]
 split<;>simp_all
theorem tf(t:ByteArray)(I:cS)(F:cR):cZ P 96 #[.string t] I F (lH (.bool (oE t)) F):=by
 refine mD.vc (fun x i m I' F'=>0≤i∧i≤41∧m=(41-i).toNat∧oE t=(eG.drop i.toNat).any (fun w=>w.toList==t.toList)∧F'=F) ?_
 unfold mD.V
 refine (xu I F).mono fun e I1 G hI ⟨b,he,hS,hG⟩=>?_
 subst hG
 refine⟨_,_,_,he,_,.refl _,⟨_,by omega,by omega,rfl,rfl,rfl⟩,fun x i m I2 F2 hI2 ⟨g0,g1,gm,gw,gF⟩=>⟨fun hlt=>?_,fun hlt=>?_⟩⟩
 ·have hlt:i<41:=of_decide_eq_true hlt
  obtain⟨ad,w,ha,hw,hrd⟩:=(hS.mono hI2).at (i:=i) g0 hlt
  subst gF
  rw[BB hw] at gw
  refine⟨⟨g0,hlt⟩,ad,ha,w,hrd _,fun h=>⟨?_,rfl⟩,fun h=>⟨(41-(i+1)).toNat,by omega, ?_⟩⟩
  ·rw[gw,h];rfl
  ·rw[gU (by omega)]
   refine⟨by omega,by omega,rfl, ?_,rfl⟩
   rw[gw,h,show (i+1).toNat=i.toNat+1 by omega];rfl
 ·have hlt:¬i<41:=of_decide_eq_false hlt
  refine⟨?_,gF⟩
  rw[gw,List.drop_eq_nil_of_le (by show 41≤_;omega)];rfl
theorem mF:(⟨#[]⟩:ByteArray).toList=[]:=by rw[Lib.toList_data]
def Bd{z:Nat}(ls:List (List (Ck z))):Prop:=∀(j:Nat) (l:List (Ck z)),ls[j]? = some l→l.length≤1000000000
theorem Bd.set{z:Nat}{ls:List (List (Ck z))}(h:Bd ls){i k:Nat}{l:List (Ck z)}(hl:ls[i]? = some l)(g:Ck z→Ck z):Bd (ls.set i (l.modify k g)):=by
 intro j l' hj
 rw[List.getElem?_set] at hj
 split at hj
 ·split at hj
  ·obtain rfl:l.modify k g=l':=by simpa using hj
   rw[List.length_modify];exact h i l hl
  ·cases hj
 ·exact h j l' hj
def dI(n:Nat)(hs:Nat→cR):cR:=(List.range n).flatMap hs
theorem tg(n:Nat)(hs:Nat→cR):dI (n+1) hs=hs 0++dI n fun i=>hs (i+1):=by
 unfold dI;rw[List.range_succ_eq_map,List.flatMap_cons,List.flatMap_map]
theorem mG(n:Nat)(hs:Nat→cR):dI (n+1) hs=dI n hs++hs n:=by
 unfold dI;rw[List.range_succ,List.flatMap_append];simp
theorem rb{n:Nat}{hs hs':Nat→cR}(h:∀i,i<n→hs i=hs' i):dI n hs=dI n hs':=by
 induction n with
 | zero=>rfl
 | succ n ih=>rw[mG,mG,ih fun i hi=>h i (by omega),h n (by omega)]
theorem uU{n:Nat}{hs:Nat→cR}{i:Nat}(hi:i<n){x:Nat×Obj}(hx:x∈hs i):x∈dI n hs:=List.mem_flatMap.2 ⟨i,List.mem_range.2 hi,hx⟩
def Ec(n:Nat)(a:Option Addr)(c:Nat)(A:cR):Prop :=
 ∃b cells e,a=some ⟨b,0,none⟩∧A=[(b,Obj.cells cells e (0,0))]∧c=n+2∧cells[n*8+7]? = some (.int .i64 (-771))∧cells[(n+1)*8+7]? = some (.int .i64 (-772))
inductive eH (E:Nat) (R:Bool):Nd→cR→Prop
 | mk {t:Nd} {A:cR} {hs:Nat→cR}:Acc 8 Nd.enc E t.a t.kids.length t.c t.kids A→(R=true→Ec t.kids.length t.a t.c A)→(∀(i:Nat) (k:Nd),t.kids[i]? = some k→eH E R k (hs i)) →
    eH E R t (A++dI t.kids.length hs)
theorem eH.ok{E:Nat}{R:Bool}{t:Nd}{H:cR}(h:eH E R t H):∀{I:cS} {G:cR},(∀x,x∈H→x∈G)→fR I G t:=by
 induction h with
 | @mk t A hs hA hR hk ih =>
   intro I G hG
   refine .mk (hA.GU Nd.vM I fun x hx=>hG x (List.mem_append_left _ hx)) fun k hkm=>?_
   obtain⟨i,hi,rfl⟩:=List.mem_iff_getElem.1 hkm
   exact ih i _ (List.getElem?_eq_getElem hi) fun x hx=>hG x (List.mem_append_right _ (uU hi hx))
mutual
def Nd.rows:Nd→List Row
 | .mk _ _ _ _ _ _ a c l _=>⟨a,l.length,c⟩::Nd.uV l
def Nd.uV:List Nd→List Row
 | []=>[]
 | x::r=>Nd.rows x++Nd.uV r
end
theorem Nd.zE(t:Nd):t.rows=⟨t.a,t.kids.length,t.c⟩::Nd.uV t.kids:=by cases t;rw[Nd.rows];rfl
def CS(t:Nd):Ck 8:=⟨t.enc,rfl⟩
mutual
def Nd.lists:Nd→List (List (Ck 8))
 | .mk _ _ _ _ _ _ _ _ l _=>l.map CS::Nd.vP l
def Nd.vP:List Nd→List (List (Ck 8))
 | []=>[]
 | x::r=>Nd.lists x++Nd.vP r
end
theorem Nd.BC(t:Nd):t.lists=t.kids.map CS::Nd.vP t.kids:=by cases t;rw[Nd.lists];rfl
theorem uW:∀l:List Nd,(l.map CS).flatMap cv=l.flatMap Nd.enc
 | []=>rfl
 | y::l=>by rw[List.map_cons,List.flatMap_cons,List.flatMap_cons,uW l];rfl
theorem _root_.Go.Vc.Acc.nd{a:Option Addr}{n c e:Nat}{l:List Nd}{A:cR}(h:Acc 8 Nd.enc e a n c l A):Acc 8 cv e a n c (l.map CS) A:=by
 obtain⟨hn,⟨h1,h2,h3,h4⟩ | ⟨b,cells,h1,h2,h3,h4,h5⟩⟩:=h
 ·exact⟨by rw[List.length_map];exact hn,.inl ⟨h1,h2,by rw[h3];rfl,h4⟩⟩
 ·exact⟨by rw[List.length_map];exact hn,.inr ⟨b,cells,h1,h2,h3,h4,by rw[h5,uW]⟩⟩
end Go.Lx
namespace Go.Vc
theorem mW.app{z e:Nat}:∀{rs rs':List Row} {ls ls':List (List (Ck z))} {H H':cR},mW z e rs ls H→mW z e rs' ls' H'→mW z e (rs++rs') (ls++ls') (H++H')
 | [],rs',[],ls',H,H',h,h'=>by
   have:H=[]:=h
   subst this;exact h'
 | r0::rs,rs',l0::ls,ls',H,H',⟨B,H'',hH,hB,hR⟩,h'=>by
   subst hH
   exact⟨B,H''++H',by rw[List.append_assoc],hB,mW.app hR h'⟩
 | [],_,_::_,_,_,_,h,_=>h.elim
 | _::_,_,[],_,_,_,h,_=>h.elim
end Go.Vc
namespace Go.Lx
open Go.Vc
theorem xv{E:Nat}:∀(l:List Nd) (hs:Nat→cR),(∀(i:Nat) (k:Nd),l[i]? = some k→∃H',mW 8 E k.rows k.lists H'∧H'.Perm (hs i)) →
  ∃H',mW 8 E (Nd.uV l) (Nd.vP l) H'∧H'.Perm (dI l.length hs)
 | [],hs,_=>⟨[],rfl,.refl _⟩
 | x::r,hs,h=>by
   obtain⟨A,h1,h2⟩:=h 0 x rfl
   obtain⟨B,h3,h4⟩:=xv r (fun i=>hs (i+1)) fun i k hk=>h (i+1) k (by simpa using hk)
   refine⟨A++B,h1.app h3, ?_⟩
   rw[List.length_cons,tg]
   exact h2.append h4
theorem eH.rows{E:Nat}{R:Bool}{t:Nd}{H:cR}(h:eH E R t H):∃H',mW 8 E t.rows t.lists H'∧H'.Perm H:=by
 induction h with
 | @mk t A hs hA hR hk ih =>
   obtain⟨B,h1,h2⟩:=xv t.kids hs ih
   refine⟨A++B, ?_,List.Perm.append_left A h2⟩
   rw[Nd.zE,Nd.BC]
   exact⟨A,B,rfl,hA.nd,h1⟩
theorem BD:∀t:Nd,(t.rows.length:Int)=t.px.size:=by
 have hL:∀l:List Nd,(∀x∈l,((Nd.rows x).length:Int)=x.px.size)→((Nd.uV l).length:Int)=Px.fA (l.map Nd.px):=by
  intro l
  induction l with
  | nil=>intro _;rfl
  | cons x r ih =>
    intro h
    have h1:=h x (List.mem_cons_self ..)
    have h2:=ih fun y hy=>h y (List.mem_cons_of_mem _ hy)
    rw[Nd.uV,List.map_cons,Px.fA,List.length_append];omega
 refine Nd.ind fun x h=>?_
 rw[Nd.zE,Px.size_eq,List.length_cons,Nd.jA]
 have:=hL x.kids h
 omega
end Go.Lx
namespace Go.Lx
open Go.Vc Go.Proofs.Tryz
def BE:List (Nat×List Sh):=[(0,[]),(4,[.one .bool]),(25,[.one .slc]),(62,[.one .slc]),(64,[.agg [(.int .u8),(.int .u8),(.int .u8),(.int .i64),(.int .u8),.str,.slc,(.int .i64)]])]
def iZ.V(f g:Nat→Nat×Obj)(nV:Int→Int→Int→Int→Int→Bs→OA→Nat→Nat→Int→Value)(nL:Int→Int→Int→Int→Int→Bs→OA→Nat→Nat→Int→List Value)(vt:Bool→Value)(z aa ab ac ae:Int)(af:Bs)(w:OA)(a ay:Nat)(ag ah ai aj ak al:Int)(am:Bs)(y:OA)(b az:Nat)(an:Int)(I:cS)(F:cR)(Q:cW)(Inv14:Bool→Int→Nat→cS→cR→Prop):Prop:=∀l:Nat,∀n:Nat,(It (ag != an) (Q (.returned (vt false)) I F) (It (z != ah) (Q (.returned (vt false)) I F) (It (aa != ai) (Q (.returned (vt false)) I F) (It (ab != aj) (Q (.returned (vt false)) I F) (It (ac != ak) (Q (.returned (vt false)) I F) (It (ae != al) (Q (.returned (vt false)) I F) (It (!(af.toList==am.toList)) (Q (.returned (vt false)) I F) (It ((a:Int)!=(b:Int)) (Q (.returned (vt false)) I F) ((∃m:Nat,Inv14 false 0 m I F)∧∀(x:Bool) (i:Int) (m1:Nat) (I1:cS) (F1:cR),cS.le I I1→Inv14 x i m1 I1 F1→(Dt (i<(a:Int)) ((0≤i∧i<(a:Int))∧∃ad:Addr,w=some ad∧∃(ao ap aq ar au:Int) (av:Bs) (h:OA) (j k:Nat) (aw:Int),Rd I1 ((g l)::(f n)::F1) (ad.add (Int.toNat i*8)) (nL ao ap aq ar au av h j k aw)∧((0≤i∧i<(b:Int))∧∃ax:Addr,y=some ax∧∃(o p q s t:Int) (u:Bs) (c:OA) (d e:Nat) (v:Int),Rd I1 ((g l)::(f n)::F1) (ax.add (Int.toNat i*8)) (nL o p q s t u c d e v)∧∃(r:Bool),(cZ P 18 #[nV ao ap aq ar au av h j k aw,nV o p q s t u c d e v] I1 ((g l)::(f n)::F1) fun e1 I2 G1=>e1=.returned (vt r)∧List.Perm G1 ((g l)::(f n)::F1))∧(It (!r) (Q (.returned (vt false)) I1 F1) (∃m2:Nat,m2<m1∧Inv14 x (IntKind.wrap .i64 (i+1)) m2 I1 F1)))) (Q (.returned (vt true)) I1 F1)))))))))))
theorem iZ.vc{r u v w x:Int}{y:Bs}{d:OA}{e g:Nat}{z aa ab ac ad ae:Int}{af:Bs}{i:OA}{j p:Nat}{ag:Int}{I:cS}{F:cR}{Q:cW}(Inv14:Bool→Int→Nat→cS→cR→Prop)(h:iZ.V (fun b=>(b,Obj.cells #[.int .u8 aa,.int .u8 ab,.int .u8 ac,.int .i64 ad,.int .u8 ae,.string af,.slice i j p,.int .i64 ag] 64 (0,0))) (fun b=>(b,Obj.cells #[.int .u8 r,.int .u8 u,.int .u8 v,.int .i64 w,.int .u8 x,.string y,.slice d e g,.int .i64 z] 64 (0,0))) (fun k o t n f s a l c q=>.agg #[.int .u8 k,.int .u8 o,.int .u8 t,.int .i64 n,.int .u8 f,.string s,.slice a l c,.int .i64 q]) (fun k o t n f s a l c q=>[.int .u8 k,.int .u8 o,.int .u8 t,.int .i64 n,.int .u8 f,.string s,.slice a l c,.int .i64 q]) .bool r u v w x y d e g z aa ab ac ad ae af i j p ag I F Q Inv14):cZ P 18 #[.agg #[.int .u8 r,.int .u8 u,.int .u8 v,.int .i64 w,.int .u8 x,.string y,.slice d e g,.int .i64 z],.agg #[.int .u8 aa,.int .u8 ab,.int .u8 ac,.int .i64 ad,.int .u8 ae,.string af,.slice i j p,.int .i64 ag]] I F Q :=
 tw (A:=(fa [1004,1010,1017,1024,1031,1038,1045,1054,4004,7001] [] [18] BE [(14,⟨[(4,.bool),(5,(.int .i64))],[],fun _ _ _ vs m I F=>match vs with | [.bool y0,.int _ y1]=>Inv14 y0 y1 m I F | _=>False,[],[]⟩)] [] [] [] [] [] [])) [18] func18 h
def ja.V(c:Nat→Nat×Obj)(nV:Int→Int→Int→Int→Int→Bs→OA→Nat→Nat→Int→Value)(nO:Int→Int→Int→Int→Int→Bs→OA→Nat→Nat→Int→Obj)(vb:Int→Value)(vl:OA→Nat→Nat→Value)(aj ak al am an:Int)(ao:Bs)(p:OA)(a ap:Nat)(aq:Int)(I:cS)(F:cR)(Q:cW)(Inv10:OA→Nat→Nat→Int→Nat→cS→cR→Prop):Prop:=∀d:Nat,∀b:Nat,(∃m:Nat,Inv10 none 0 0 0 m I F)∧∀(l:OA) (n o:Nat) (i:Int) (m1:Nat) (I1:cS) (F1:cR),cS.le I I1→Inv10 l n o i m1 I1 F1→(Dt (i<(a:Int)) ((0≤i∧i<(a:Int))∧∃ad:Addr,p=some ad∧∃(q r s t u:Int) (w:Bs) (e:OA) (f g:Nat) (x:Int),Rd I1 ((c d)::(b,nO 0 0 0 0 0 (⟨#[]⟩:Bs) none 0 0 0)::F1) (ad.add (Int.toNat i*8)) [vb q,vb r,vb s,.int .i64 t,vb u,.string w,vl e f g,.int .i64 x]∧ni P 100 #[nV q r s t u w e f g x] I1 ((c d)::(b,nO 0 0 0 0 0 (⟨#[]⟩:Bs) none 0 0 0)::·) F1 fun e1 I2 G1=>∃(y z aa ab ac:Int) (ae:Bs) (h:OA) (j k:Nat) (af:Int),e1=.returned (nV y z aa ab ac ae h j k af)∧G1 fun F2=>∀(b1:Nat) (I3:cS),cS.le I2 I3→I3 b1=some (nO y z aa ab ac ae h j k af)→dO P (Builtin.append_ #[62,62] 62 #[vl l n o,vl (some ⟨b1,0,none⟩) 1 1]) I3 ((c d)::(b,nO 0 0 0 0 0 (⟨#[]⟩:Bs) none 0 0 0)::F2) fun v I4 G2=>∃(ag:OA) (ah ai:Nat),v=vl ag ah ai∧∃F3:cR,List.Perm G2 ((c d)::(b,nO 0 0 0 0 0 (⟨#[]⟩:Bs) none 0 0 0)::F3)∧(∃m2:Nat,m2<m1∧Inv10 ag ah ai (IntKind.wrap .i64 (i+1)) m2 I4 F3)) (Q (.returned (nV aj ak al am an ao l n o 0)) I1 F1))
theorem ja.vc{i j p r u:Int}{v:Bs}{d:OA}{e g:Nat}{w:Int}{I:cS}{F:cR}{Q:cW}(Inv10:OA→Nat→Nat→Int→Nat→cS→cR→Prop)(h:ja.V (fun b=>(b,Obj.cells #[.int .u8 i,.int .u8 j,.int .u8 p,.int .i64 r,.int .u8 u,.string v,.slice d e g,.int .i64 0] 64 (0,0))) (fun k o t n f s a l c q=>.agg #[.int .u8 k,.int .u8 o,.int .u8 t,.int .i64 n,.int .u8 f,.string s,.slice a l c,.int .i64 q]) (fun k o t n f s a l c q=>.cells #[.int .u8 k,.int .u8 o,.int .u8 t,.int .i64 n,.int .u8 f,.string s,.slice a l c,.int .i64 q] 64 (0,0)) (.int .u8) .slice i j p r u v d e g w I F Q Inv10):cZ P 100 #[.agg #[.int .u8 i,.int .u8 j,.int .u8 p,.int .i64 r,.int .u8 u,.string v,.slice d e g,.int .i64 w]] I F Q :=
 tw (A:=(fa [4004] [] [100] BE [(10,⟨[(3,.slc),(4,(.int .i64))],[],fun _ _ _ vs m I F=>match vs with | [.slice y0 y1 y2,.int _ y3]=>Inv10 y0 y1 y2 y3 m I F | _=>False,[],[]⟩)] [6007] [] [] [] [] [])) [100] func100 h
end Go.Lx
namespace Go.Lx
open Go.Vc
theorem fR.cons{I:cS}{F:cR}{t:Nd}(h:fR I F t){x:Nat×Obj}:fR I (x::F) t:=h.mono (cS.le_refl I) fun _ h=>List.mem_cons_of_mem _ h
theorem pS{l:List Nd}{i:Nat}{x:Nd}(h:l[i]? = some x):(l.drop i).map Nd.px=x.px::(l.drop (i+1)).map Nd.px:=by
 obtain⟨hk,rfl⟩:=List.getElem?_eq_some_iff.1 h
 rw[List.drop_eq_getElem_cons hk,List.map_cons]
theorem BF{l:List Nd}{i:Nat}(h:l.length≤i):(l.drop i).map Nd.px=[]:=by rw[List.drop_eq_nil_of_le h];rfl
theorem _root_.Go.Vc.cZ.E5{v:Value}{F:cR}{Pr:Program}{f:FuncId}{args:Array Value}{I:cS}(h:cZ Pr f args I F (lH v F)):cZ Pr f args I F fun e I' G=>e=.returned v∧G.Perm F :=
 h.mono fun e I' G _ ⟨h1,h2⟩=>⟨h1,by rw[h2]⟩
theorem BG{t x:Nd}(h:x∈t.kids){n:Int}(hs:t.px.size≤n):x.px.size≤n:=by
 have h1:=Px.uS (List.mem_map_of_mem (f:=Nd.px) h)
 rw[Px.size_eq,Nd.jA] at hs
 omega
theorem BH{t:Nd}{n:Int}(hs:t.px.size≤n):(t.kids.length:Int)<n:=by
 have h1:=Px.uT (t.kids.map Nd.px)
 rw[Px.size_eq,Nd.jA] at hs
 rw[List.length_map] at h1
 omega
def kY:Nd:=.mk 0 0 0 0 0 ⟨#[]⟩ none 0 [] 0
def Made(E:Nat)(R:Bool)(x:Px)(F:cR)(e:Ending)(I:cS)(G:cR):Prop:=∃(t':Nd) (H:cR),e=.returned t'.v∧t'.px=x∧eH E R t' H∧G.Perm (H++F)
theorem uw{f:Px→Px}{l:List Nd}{i:Nat}{x:Nd}(h:l[i]? = some x):((l.take (i+1)).map Nd.px).map f=((l.take i).map Nd.px).map f++[f x.px]:=by
 obtain⟨hk,rfl⟩:=List.getElem?_eq_some_iff.1 h
 rw[List.take_succ_eq_append_getElem hk,List.map_append,List.map_append];rfl
theorem kl:∀(t:Nd),t.px.size≤1048576→∀(I:cS) (F:cR),fR I F t→cZ P 100 #[t.v] I F (Made 64 false t.px.bare F):=by
 refine Nd.ind fun t ih hs I F ht=>?_
 have hln:=BH hs
 refine ja.vc (fun a n c i m I' F'=>0≤i∧i≤t.kids.length∧m=(t.kids.length-i).toNat∧∃(ks:List Nd) (A:cR) (hs:Nat→cR),Acc 8 Nd.enc 64 a n c ks A ∧
  ks.map Nd.px=((t.kids.take i.toNat).map Nd.px).map Px.bare∧(∀(j:Nat) (k:Nd),ks[j]? = some k→eH 64 false k (hs j))∧F'.Perm (A++(dI ks.length hs++F))∧(ks.length:Int)=i) ?_
 unfold ja.V
 intro b_x b
 refine⟨⟨_,by omega,by omega,rfl,[],[],fun _=>[],Acc.nil,by simp,fun j k h=>by simp at h,.refl _,rfl⟩,fun a n c i m I1 F1 hI ⟨g0,g1,gm,ks,A,hh,hA,hp,hk,hF,hl⟩=>⟨fun hlt=>?_,fun hlt=>?_⟩⟩
 ·have hlt:=of_decide_eq_true hlt
  have ht1:fR I1 F1 t:=ht.mono hI fun x hx=>hF.mem_iff.2 (List.mem_append_right _ (List.mem_append_right _ hx))
  obtain⟨ad,x,had,hx,hrd,hxo,hxm⟩:=(ht1.cons.cons (x:=(b_x,.cells #[.int .u8 t.kind,.int .u8 t.oper,.int .u8 t.dH,.int .i64 t.n,.int .u8 t.field,.string t.name,.slice t.a t.kids.length t.c,.int .i64 0] 64 (0,0))) (t:=t)).kids.at g0 hlt
  refine⟨⟨g0,hlt⟩,ad,had,_,_,_,_,_,_,_,_,_,_,hrd,(ih x hxm (BG hxm hs) I1 _ hxo).mono fun e I2 G hI2 ⟨t',H,he,hpx,hO,hG⟩=>?_⟩
  subst he
  refine⟨_,_,_,_,_,_,_,_,_,_,rfl,H++F1,hG.trans (cU fun x=>by simp only[cY,cV];omega),fun b1 I3 hI3 hb1=>?_⟩
  refine dO.perm (dO.mono (jX (f:=Nd.enc) (z:=8) (zv:=kY.v) Nd.vM (by':=72) (by kernel_rfl) (by kernel_rfl) rfl (by decide) hA (xs:=[t']) (fun x _=>x.zC) (by simp) rfl ?_ ?_
   (F:=(b_x,.cells #[.int .u8 t.kind,.int .u8 t.oper,.int .u8 t.dH,.int .i64 t.n,.int .u8 t.field,.string t.name,.slice t.a t.kids.length t.c,.int .i64 0] 64 (0,0))::(b,.cells #[.int .u8 0,.int .u8 0,.int .u8 0,.int .i64 0,.int .u8 0,.string ⟨#[]⟩,.slice none 0 0,.int .i64 0] 64 (0,0))::(H++(dI ks.length hh++F)))) fun v I4 G hI4 ⟨a',n',c',A',hv,hA',hG',_⟩=>?_) ?_
  ·exact⟨rfl,_,_,_,.inl hb1,fun j hj=>by simp⟩
  ·simp only[List.length_cons,List.length_nil];omega
  ·subst hG'
   refine⟨_,_,_,hv,A'++(H++(dI ks.length hh++F)),cU fun x=>by simp only[cY,cV];omega,(t.kids.length-(i+1)).toNat,by omega, ?_⟩
   rw[gU (n:=i+1) (by omega)]
   refine⟨by omega,by omega,rfl,ks++[t'],A',fun j=>if j<ks.length then hh j else H,hA', ?_,fun j k hj=>?_, ?_,by rw[List.length_append];simp;omega⟩
   ·rw[show (i+1).toNat=i.toNat+1 by omega,uw hx,List.map_append,hp,List.map_singleton,hpx]
   ·show eH _ _ k (if j<ks.length then hh j else H)
    rw[List.getElem?_append] at hj
    split at hj
    ·rename_i hlt';rw[if_pos hlt'];exact hk j k hj
    ·rename_i hge
     have hj':=List.mem_of_getElem? hj
     rw[List.mem_singleton] at hj'
     rw[if_neg hge,hj'];exact hO
   ·rw[List.length_append,List.length_singleton,mG,if_neg (Nat.lt_irrefl _),rb (hs':=hh) fun j hj=>if_pos hj]
    exact cU fun x=>by simp only[cY,cV];omega
  ·exact cU fun x=>by have:=iW hF x;simp only[cY,cV] at this ⊢;omega
 ·have hlt:=of_decide_eq_false hlt
  have hn:=hA.1
  subst hn
  refine⟨.mk t.kind t.oper t.dH t.n t.field t.name a c ks 0,A++dI ks.length hh,rfl, ?_,.mk (t:=.mk t.kind t.oper t.dH t.n t.field t.name a c ks 0) hA (fun h=>by cases h) hk,by rw[List.append_assoc];exact hF⟩
  rw[Nd.px,Nd.rO,hp,Px.nS,Nd.jA,List.take_of_length_le (by omega),Nd.vJ,Nd.rP,Nd.yA,Nd.D9,Nd.s6,Nd.vK]
def Px.gY(x:Px):Int:=if x.formed then (if 24<x.depth then 122 else 0) else 120
theorem _root_.Go.Vc.iS.of{P:Program}{f:FuncId}{args:List Value}{I:cS}{F:cR}{Q:Ending→cS→cR→Prop}(he:dG P f)(h:cZ P f args.toArray I F Q):iS P (.func (.func f) #[] #[]) args I F Q :=
 fun w hw=>.inl ⟨f,#[],#[],rfl,he,by rw[show (#[]:Array Value)++args.toArray++#[]=args.toArray by simp];exact h w hw⟩
def _root_.Go.Vc.Row.v(r:Row):Value:=.slice r.a r.n r.c
def Ar(rw:Nat→Row):Array Value:=#[(rw 0).v,(rw 1).v,(rw 2).v,(rw 3).v,(rw 4).v,(rw 5).v,(rw 6).v,(rw 7).v,(rw 8).v,(rw 9).v,(rw 10).v,(rw 11).v]
mutual
def Nd.nodes:Nd→List Nd
 | .mk k o t n f s a c l q=>.mk k o t n f s a c l q::Nd.iX l
def Nd.iX:List Nd→List Nd
 | []=>[]
 | x::r=>Nd.nodes x++Nd.iX r
end
theorem Nd.pN(t:Nd):t.nodes=t::Nd.iX t.kids:=by cases t;rw[Nd.nodes];rfl
theorem BI:∀t:Nd,t.nodes.map Nd.px=t.px.nodes:=by
 have hL:∀l:List Nd,(∀x∈l,(Nd.nodes x).map Nd.px=x.px.nodes)→(Nd.iX l).map Nd.px=Px.iX (l.map Nd.px):=by
  intro l
  induction l with
  | nil=>intro _;rfl
  | cons x r ih =>
    intro h
    rw[Nd.iX,List.map_append,List.map_cons,Px.iX,h x (List.mem_cons_self ..),ih fun y hy=>h y (List.mem_cons_of_mem _ hy)]
 refine Nd.ind fun t h=>?_
 rw[Nd.pN,Px.pN,List.map_cons,hL t.kids h,Nd.jA]
theorem fR.nodes{I:cS}{G:cR}:∀{t:Nd},fR I G t→∀x∈t.nodes,fR I G x:=by
 refine @(Nd.ind fun t ih h x hx=>?_)
 rw[Nd.pN] at hx
 rcases List.mem_cons.1 hx with rfl | hx
 ·exact h
 ·have hL:∀l:List Nd,(∀k∈l,∀x∈k.nodes,fR I G x)→∀x∈Nd.iX l,fR I G x:=by
   intro l
   induction l with
   | nil=>intro _ x h;rw[Nd.iX] at h;cases h
   | cons y r ihl =>
     intro hk x h
     rw[Nd.iX] at h
     rcases List.mem_append.1 h with h | h
     ·exact hk y (List.mem_cons_self ..) x h
     ·exact ihl (fun k hk'=>hk k (List.mem_cons_of_mem _ hk')) x h
  exact hL _ (fun k hk=>ih k hk (h.CP k hk)) x hx
def rB(l:List ByteArray)(s:ByteArray):Bool:=l.any fun y=>decide (y=s)
def Px.Fit(x:Px):Prop:=(0≤x.kind∧x.kind≤255)∧(0≤x.oper∧x.oper≤255)∧(0≤x.dH∧x.dH≤255)∧(-9223372036854775808≤x.n∧x.n≤9223372036854775807)∧(0≤x.field∧x.field≤255)∧(-9223372036854775808≤x.pos∧x.pos≤9223372036854775807)
def Px.Wf(x:Px):Prop:=∀y∈x.nodes,y.Fit
theorem Wf.nd{t:Nd}(h:t.px.Wf):∀x∈t.nodes,x.px.Fit:=fun x hx=>h _ (by rw[←BI];exact List.mem_map_of_mem hx)
end Go.Lx
namespace Go.Vc
end Go.Vc
namespace Go.Lx
open Go.Vc
end Go.Lx
namespace Go.Vc
def mX:FrameMode→Value→FrameMode→Prop
 | .returning,v,u=>v=.nilIface∧u=.returning
 | .panicking ({ v:=x,recovered:=false,goexit:=false }::older),v,u=>v=x∧u=.panicking ({ v:=x,recovered:=true }::older)
 | _,_,_=>False
theorem uX:mX .returning .nilIface .returning:=⟨rfl,rfl⟩
theorem uY(v:Value):mX (.panicking [{ v:=v,recovered:=false }]) v (.panicking [{ v:=v,recovered:=true }]):=⟨rfl,rfl⟩
def Ed(o:Oper):Bool:=match o.op,o.guard with
 | .call { callee:=.builtin .recover,args:=_,argTypes:=_ },none=>true
 | _,_=>false
theorem mX.at{c:Frame}{cs:List Frame}{u u1:FrameMode}{v:Value}(hu:c.mode=u)(h:mX u v u1) :
  recoverD (c::cs)=some (v,{ c with mode:=u1 }::cs)∨(recoverD (c::cs)=none∧v=.nilIface∧{ c with mode:=u1 }::cs=c::cs):=by
 subst hu
 unfold mX at h
 split at h
 ·rename_i hm
  obtain⟨h1,h2⟩:=h
  refine .inr ⟨by simp[recoverD,hm],h1, ?_⟩
  subst h2
  rw[←hm]
 ·rename_i hm
  obtain⟨h1,h2⟩:=h
  subst h1 h2
  exact .inl (by simp[recoverD,hm])
 ·exact h.elim
theorem Au{P:Program}{id:Nat}{ops:Array Oper}{o:Oper}{r:List Oper}{Q:Exit→Act→List Frame→World→Prop}{a:Act}{cs cs':List Frame}{w:World}{v:Value}(hl:ops.toList=o::r)(ho:Ed o=true)
  (hrec:recoverD cs=some (v,cs')∨(recoverD cs=none∧v=.nilIface∧cs'=cs)) (h:wpListIn Fence.wide 0 P ops (fun e a' w'=>Q e a' cs' w') r (a.put o.dst v) w) :
  (Code.region id ops false).wpSIn Fence.wide 0 P Q a cs w:=by
 intro b k hb hr hF hroom
 have hsz:ops.size=r.length+1:=by rw[←Array.length_toList,hl];rfl
 have h0:ops[0]? = some o:=by rw[←Array.getElem?_toList,hl];rfl
 have hrest:∀j,r[j]? = ops[1+j]?:=fun j=>by rw[←Array.getElem?_toList,hl,Nat.add_comm];rfl
 rw[←wpOpsIn_eq_wpListIn r 1 hrest] at h
 have hex:∀ci,o.op=.call ci→True:=fun _ _=>trivial
 have hop:∃ci,o.op=.call ci∧ci.callee=.builtin .recover∧o.guard=none:=by
  unfold Ed at ho
  split at ho
  ·rename_i h1 h2;exact⟨_,h1,rfl,h2⟩
  ·cases ho
 obtain⟨ci,hci,hcal,hgd⟩:=hop
 have hw:Region.wanted o (yielded ops a.tmps)=true:=by unfold Region.wanted;rw[hgd]
 have hrun:(execOp a.eval o).run P w=.ok .recover w:=by
  obtain⟨cal,args,tys⟩:=ci
  simp only at hcal
  subst hcal
  simp only[execOp,hci]
  rfl
 have hlen:cs'.length=cs.length:=by
  rcases hrec with hrec | ⟨_,_,rfl⟩
  ·exact recoverD_length hrec
  ·rfl
 obtain⟨e,a',w',q,harr⟩:=wp_opsIn _ _ _ h b k cs' (hr.trans rfl) hF (hlen▸hroom)
 refine⟨e,a',cs',w',hlen,q,.of_steps (.one (fenced_calm hF hroom rfl) stepR_region) ?_⟩
 rw[List.range_eq_range',hsz,List.range'_succ]
 have hg:=stepGR_op (P:=P) (b:=b) (k:=k) (cs:=cs) (w:=w) (rest:=List.range' (0+1) r.length) h0 hw
 rw[hr,Oper.semAt_none] at hg
 have hfin:∀v,(b.atR a (.inRegion ops (0::List.range' (0+1) r.length)::k)).finish v=b.atR (a.put o.dst v) (.inRegion ops (List.range' (0+1) r.length)::k):=by
  intro v;rw[Frame.finish_atR,h0];rfl
 have hk:(b.atR a (.inRegion ops (0::List.range' (0+1) r.length)::k)).kind=.deferred:=hb
 have htr:=tryRecover_deferred hk cs
 refine .of_steps (.one (fenced_oper hF hroom h0 fun f _=>trivial) (step_lone_go ?_)) harr
 rw[hg,←hfin]
 simp only[Frame.atR,hr] at htr ⊢
 rcases hrec with hrec | ⟨hrec,rfl,rfl⟩
 ·simp[stepG.apply,hrun,htr,hrec]
 ·simp[stepG.apply,hrun,htr,hrec]
def xw(P:Program)(rs:List ResultVar)(keep:List Nat)(Q:Ending→cS→cR→Prop)(u:Option (List PanicEntry))(σ:S)(I:cS)(F:cR):Prop:=match σ.df with
 | []=>match u with
   | none=>(match oU P σ rs with
     | some vs=>Q (.returned (yr vs)) I (du (pick σ.own keep)++F)
     | none=>False)
   | some ch=>Q (.panicked ch) I (du (pick σ.own keep)++F)
 | _=>False
def yF(P:Program)(rs:List ResultVar)(keep:List Nat)(Q:Ending→cS→cR→Prop):Kt
 | .normal,σ,I,F=>xw P rs keep Q none σ I F
 | .ret,σ,I,F=>xw P rs keep Q none σ I F
 | .panic ch,σ,I,F=>xw P rs keep Q (some ch) σ I F
 | _,_,_,_=>False
def Ee(P:Program)(A:oq)(v:Value)(rs:List ResultVar)(keep:List Nat)(Q:Ending→cS→cR→Prop)(σ:S)(I:cS)(F:cR):Code→Prop
 | .seq (.region id ops false) rest=>match ops.toList with
   | o::r=>cond (Ed o) (vu P A id ops r 1 (σ.put o.dst (some (.a (.v v)))) I F (W P A none rest 2 (yF P rs keep Q)) (fun ch=>yF P rs keep Q (.panic ch))) False
   | []=>False
 | _=>False
section
variable {P:Program} {A:oq}
theorem E6{fn:Func}{keep:List Nat}(hk:CC 0 keep=true){Q:Ending→cS→cR→Prop}{c0:Frame}{cs:List Frame}{u1:FrameMode}{R:Ending→FrameMode→World→Prop}{I0:cS}
  (hR:∀e I' F' w',cS.le I0 I'→Sat I' F' w'→Q e I' F'→R e u1 w') {e:Exit} {σ:S} {I:cS} {F:cR} {a:Act} {w:World} (hr:Rel σ I F a w) (hl:cS.le I0 I)
  (h:yF P fn.results.toList keep Q e σ I F):bodyPostS P fn c0 cs R e a ({ c0 with mode:=u1 }::cs) w:=by
 have hsub:Sat I (du (pick σ.own keep)++F) w:=by
  have h5:=sV keep 0 σ.own hk
  rw[List.drop_zero] at h5
  exact hr.sat.sub ((h5.map _).append (List.Sublist.refl F))
 have key:∀u,xw P fn.results.toList keep Q u σ I F→a.defers=[]∧match u with
   | none=>∃v,(results fn a.tmps).run P w=.ok v w∧Q (.returned v) I (du (pick σ.own keep)++F)
   | some ch=>Q (.panicked ch) I (du (pick σ.own keep)++F):=by
  intro u h
  unfold xw at h
  split at h
  ·rename_i hd
   refine⟨by rw[hr.defers,hd];rfl, ?_⟩
   cases u with
   | none =>
     simp only at h ⊢
     split at h
     ·rename_i vs hvs;exact⟨_,q8 hr hvs,h⟩
     ·exact h.elim
   | some ch=>exact h
  ·exact h.elim
 cases e with
 | normal=>obtain⟨h1,v,h2,h3⟩:=key none h;exact⟨h1,u1,rfl,v,h2,hR _ _ _ _ hl hsub h3⟩
 | ret=>obtain⟨h1,v,h2,h3⟩:=key none h;exact⟨h1,u1,rfl,v,h2,hR _ _ _ _ hl hsub h3⟩
 | panic ch=>obtain⟨h1,h2⟩:=key (some ch) h;exact⟨h1,u1,rfl,hR _ _ _ _ hl hsub h2⟩
 | exit id=>exact h.elim
 | goto l=>exact h.elim
 | outgrown=>exact h.elim
theorem Av(hP:∀f,A.good f=true→dG P f){f:FuncId}{fn:Func}{c:Code}(hf:P.funcs[f]? = some fn)(hb:fn.body=some c){args:List AV}{own:List dX}
  {I:cS} {F:cR} {keep:List Nat} {Q:Ending→cS→cR→Prop} (hk:CC 0 keep=true) (hwa:∀x∈args,AV.wf own x) (hwo:∀b∈own,∀x∈b.cells,AV.wf own x) {u u1:FrameMode} {v:Value} (hrec:mX u v u1)
  (h:Ee P A v fn.results.toList keep Q ⟨kX args fn.ntmps,own,[]⟩ I F c) {vs:List Value} (hv:vs=args.map AV.g):iq P f vs u I (du own++F) fun e u' I' G=>u'=u1∧Q e I' G:=by
 subst hv
 intro w hw
 unfold Ee at h
 split at h
 ·rename_i id ops rest
  split at h
  ·rename_i o r hl
   obtain⟨ho,h⟩:=dp h
   refine callsDIn_of_wpSIn hf hb trivial fun c0 cs hu=>?_
   refine wpSIn_seq (Au hl ho (mX.at hu hrec) ?_)
   have hrel:Rel ⟨kX args fn.ntmps,own,[]⟩ I F { tmps:=(args.map AV.g).toArray++Array.replicate (fn.ntmps-(args.map AV.g).toArray.size) undef,defers:=[] } w:=by
    refine⟨by simp[kX], ?_,rfl, ?_, ?_,hw⟩
    ·intro t av ht
     simp only[kX,List.getElem?_append] at ht
     split at ht
     ·rename_i hlt
      simp only[List.getElem?_map] at ht
      cases ha:args[t]? with
      | none=>rw[ha] at ht;simp at ht
      | some x =>
        rw[ha] at ht
        simp only[Option.map_some,Option.some.injEq] at ht
        subst ht
        simp at hlt
        rw[Array.getElem?_append_left (by simpa using hlt)]
        simp[ha]
     ·rw[List.getElem?_replicate] at ht;split at ht<;>cases ht
    ·intro t av ht
     simp only[kX,List.getElem?_append] at ht
     split at ht
     ·simp only[List.getElem?_map] at ht
      cases ha:args[t]? with
      | none=>rw[ha] at ht;simp at ht
      | some x =>
        rw[ha] at ht
        simp only[Option.map_some,Option.some.injEq] at ht
        subst ht
        exact hwa _ (List.mem_of_getElem? ha)
     ·rw[List.getElem?_replicate] at ht;split at ht<;>cases ht
    ·exact fun i b hb' x hx=>hwo b (List.mem_of_getElem? hb') x hx
   have hrel2:=hrel.put o.dst (av:=.a (.v v)) (v:=v) rfl trivial
   refine kD (ro:=none) hP r 1 _ I F _ w (.inl rfl) h hrel2 ?_ ?_
   ·intro σ' I' F' a' w' h1 h2 h3 _
    refine wpSIn_of_wpIn rfl (wpIn_mono (zy hP rest 2 _ none none σ' I' F' a' w' rfl h3 h1) ?_)
    intro e a2 w2 ⟨σ2,I2,F2,g1,g2,g3,_⟩
    exact E6 (fn:=fn) hk (fun e I3 F3 w3 hl3 hs3 hq3=>⟨I3,F3,hl3,hs3,rfl,hq3⟩) g1 (cS.le_trans h2 g2) g3
   ·intro ch σ' I' F' a' w' h1 h2 h3 _
    show bodyPostS P fn c0 cs (fun e u' w'=>∃I' F',I.le I'∧Sat I' F' w'∧u'=u1∧Q e I' F') (.panic ch) a' _ w'
    exact E6 (fn:=fn) hk (e:=.panic ch) (fun e I3 F3 w3 hl3 hs3 hq3=>⟨I3,F3,hl3,hs3,rfl,hq3⟩) h1 h2 h3
  ·exact h.elim
 ·exact h.elim
theorem nW{f:FuncId}{fn:Func}{args:List AV}{own:List dX}{I:cS}{F:cR}{keep:List Nat}{Q:cW}{V:Prop}{u u1:FrameMode}{v:Value}(gd:List Nat)(hf:P.funcs[f]? = some fn)(hrec:mX u v u1)(h:V)
  (e:Ee P A v fn.results.toList keep Q ⟨kX args fn.ntmps,own,[]⟩ I F (fn.body.getD .skip)=V) (hg:A.good=pK gd) (hG:gd.all (sW P)=true) (hb:fn.body=some (fn.body.getD .skip)) (hk:CC 0 keep=true)
  (hwa:∀x∈args,AV.wf own x) (hwo:∀b∈own,∀x∈b.cells,AV.wf own x) {vs:List Value} (hv:vs=args.map AV.g):iq P f vs u I (du own++F) fun e u' I' G=>u'=u1∧Q e I' G :=
 Av (fun f hf'=>q9 gd hG f (by rw[←hg];exact hf')) hf hb hk hwa hwo hrec (by rw[←e] at h;exact h) hv
end
end Go.Vc
namespace Go.Lx
open Go.Vc
end Go.Lx
namespace Go.Vc
theorem iq.mono{P:Program}{f:FuncId}{args:List Value}{u:FrameMode}{I:cS}{F:cR}{Q Q':Ending→FrameMode→cS→cR→Prop}(h:iq P f args u I F Q)(k:∀e u' I' G,cS.le I I'→Q e u' I' G→Q' e u' I' G):iq P f args u I F Q' :=
 fun w hw=>(h w hw).mono fun e u' w' ⟨I',F',h1,h2,h3⟩=>⟨I',F',h1,h2,k _ _ _ _ h1 h3⟩
end Go.Vc
namespace Go.Lx
open Go.Vc
theorem Rd.one{b:Nat}{o:Obj}{I:cS}{G:cR}{cells:Array Value}{e:Nat}(h:I b=some (.cells cells e (0,0))∨(b,Obj.cells cells e (0,0))∈G)(i:Nat){v:Value}(hv:cells[i]? = some v):Rd I G (⟨b,i,none⟩:Addr) [v] :=
 ⟨rfl,cells,e,(0,0),h,fun j hj=>by
   have:j=0:=by simpa using hj
   subst this
   rw[Nat.add_zero,hv];rfl⟩
end Go.Lx
namespace Go.Vc
open Go.MapKept
def Ef{κ β:Type}(key:κ→Value)(val:β→Value)(g:κ→Option β)(es:Array MapEntry)(clock:Nat):Prop :=
 Stamped es clock∧(∀x∈es.toList,∃k b,x.key=key k∧x.val=val b∧g k=some b)∧(∀k b,g k=some b→∃x∈es.toList,x.key=key k)
theorem th{α:Type}:∀{l:List α} {i j:Nat} {x:α},l.Nodup→i<j→l[i]? = some x→l[j]? = some x→False
 | [],_,_,_,_,_,h,_=>by simp at h
 | y::l,0,j+1,x,hn,_,h1,h2=>by
   simp only[List.getElem?_cons_zero,Option.some.injEq] at h1
   subst h1
   exact (List.nodup_cons.1 hn).1 (List.mem_of_getElem? (by simpa using h2))
 | y::l,i+1,j+1,x,hn,hl,h1,h2=>th (l:=l) (x:=x) (i:=i) (j:=j) (List.nodup_cons.1 hn).2 (by omega) (by simpa using h1) (by simpa using h2)
def xx{κ β:Type}[DecidableEq κ](g:κ→Option β)(k:κ)(b:β):κ→Option β:=fun j=>if j=k then some b else g j
section
variable {P:Program} {κ β:Type} {d:TypeDesc} {key:κ→Value} {val:β→Value} {g:κ→Option β} {es:Array MapEntry} {clock:Nat} {t kt et:TypeId} {I:cS} {F:cR} {r:Nat} {k:κ} {z:Value}
variable [DecidableEq κ]
theorem Ef.modify(hi:∀k k',key k=key k'→k=k')(h:Ef key val g es clock){j:Nat}{e:MapEntry}(hj:es[j]? = some e)(he:e.key=key k)(b:β){f:MapEntry→MapEntry}(hf:∀x,(f x).born=x.born)
  (hfk:∀x,x.key=key k→(f x).key=key k) (hv:∀x,(f x).val=val b):Ef key val (xx g k b) (es.modify j f) clock:=by
 obtain⟨hs,h1,h2⟩:=h
 have hkey:∀e',es[j]? = some e'→(f e').key=e'.key:=fun e' he'=>by rw[hj] at he';cases he';rw[hfk _ he,he]
 refine⟨stamped_modify hs _ _ (fun x _=>hf x) fun x _ hx=>hkey x hx,fun x hx=>?_,fun k' b' hg=>?_⟩
 ·obtain⟨i,hx'⟩:=List.mem_iff_getElem?.1 hx
  simp only[Array.getElem?_toList,Array.getElem?_modify] at hx'
  by_cases hij:j=i
  ·subst hij
   rw[if_pos rfl,hj] at hx'
   simp only[Option.map_some,Option.some.injEq] at hx'
   subst hx'
   exact⟨k,b,hfk _ he,hv _,if_pos rfl⟩
  ·rw[if_neg hij] at hx'
   obtain⟨k',b',e1,e2,e3⟩:=h1 x (List.mem_of_getElem? (by simpa using hx'))
   refine⟨k',b',e1,e2, ?_⟩
   unfold xx;rw[if_neg]
   ·exact e3
   ·intro ek;subst ek
    have hnd:=hs.2.2
    have:i<es.size:=(Array.getElem?_eq_some_iff.1 hx').1
    have:j<es.size:=(Array.getElem?_eq_some_iff.1 hj).1
    rcases Nat.lt_or_gt_of_ne hij with hlt | hlt
    ·exact th hnd hlt (by simp[hj];exact he) (by simp[hx'];exact e1)
    ·exact th hnd hlt (by simp[hx'];exact e1) (by simp[hj];exact he)
 ·have hk':key k'∈es.toList.map (·.key):=by
   by_cases e':k'=k
   ·subst e';exact List.mem_map.2 ⟨e,List.mem_of_getElem? (by simpa using hj),he⟩
   ·unfold xx at hg
    rw[if_neg e'] at hg
    obtain⟨x,hx,ex⟩:=h2 k' b' hg
    exact List.mem_map.2 ⟨x,hx,ex⟩
  rw[←modify_keys j f hkey] at hk'
  obtain⟨x,hx,ex⟩:=List.mem_map.1 hk'
  exact⟨x,hx,ex⟩
end
end Go.Vc
namespace Go.Vc
theorem CD.mono{P:Program}{s:Sem Unit}{I:cS}{F:cR}{Q Q':cS→cR→Prop}(h:CD P s I F Q)(k:∀I' F',cS.le I I'→Q I' F'→Q' I' F'):CD P s I F Q' :=
 fun w hw=>let ⟨w',I',F',hr,hl,hs,hq⟩:=h w hw;⟨w',I',F',hr,hl,hs,k _ _ hl hq⟩
end Go.Vc
namespace Go.Lx
open Go.Vc
def A7(l:List ByteArray)(k:Nat)(g:ByteArray→Option Int):Prop:=∀s,(rB l s=true→∃m,g s=some m∧1≤m∧m≤k)∧(rB l s=false→g s=none)
theorem A7.mono{l:List ByteArray}{k:Nat}{g:ByteArray→Option Int}(h:A7 l k g):A7 l (k+1) g:=fun s=>⟨fun hs=>let ⟨m,h1,h2,h3⟩:=(h s).1 hs;⟨m,h1,h2,by omega⟩,(h s).2⟩
theorem A7.new{l:List ByteArray}{k:Nat}{g:ByteArray→Option Int}(h:A7 l k g){s:ByteArray}:A7 (l++[s]) (k+1) (xx g s 1):=fun t=>by
 have e:rB (l++[s]) t=(rB l t||decide (s=t)):=by unfold rB;rw[List.any_append];simp
 rw[e]
 unfold xx
 by_cases hts:t=s
 ·subst hts;rw[if_pos rfl];exact⟨fun _=>⟨1,rfl,by omega,by omega⟩,fun h=>by simp at h⟩
 ·rw[if_neg hts]
  have:decide (s=t)=false:=decide_eq_false fun e=>hts e.symm
  rw[this,Bool.or_false];exact h.mono t
theorem A7.more{l:List ByteArray}{k:Nat}{g:ByteArray→Option Int}(h:A7 l k g){s:ByteArray}{m:Int}(hs:rB l s=true)(h1:1≤m)(h2:m≤k):A7 l (k+1) (xx g s (m+1)):=fun t=>by
 unfold xx
 by_cases hts:t=s
 ·subst hts;rw[if_pos rfl];exact⟨fun _=>⟨_,rfl,by omega,by omega⟩,fun h=>by rw[hs] at h;cases h⟩
 ·rw[if_neg hts];exact h.mono t
structure dL where
 name:ByteArray
 dH:Int
 init:Px
 pos:Int
structure di where
 name:ByteArray
 pos:Int
structure eJ where
 kind:Int
 order:Int
 name:ByteArray
 side:Px
 qty:Px
 price:Px
 value:Px
 pos:Int
structure dz where
 when:Px
 dos:List eJ
 pos:Int
structure dm where
 name:ByteArray
 rules:List dz
 pos:Int
structure dU where
 name:ByteArray
 regs:List dL
 slots:List di
 states:List dm
structure dV where
 name:ByteArray
 dH:Int
 init:Nd
 pos:Int
structure gC where
 kind:Int
 order:Int
 name:ByteArray
 side:Nd
 qty:Nd
 price:Nd
 value:Nd
 pos:Int
structure dq where
 when:Nd
 a:Option Addr
 c:Nat
 dos:List gC
 pos:Int
structure c9 where
 name:ByteArray
 a:Option Addr
 c:Nat
 rules:List dq
 pos:Int
structure fG where
 name:ByteArray
 ra:Option Addr
 rc:Nat
 regs:List dV
 sa:Option Addr
 sc:Nat
 slots:List di
 ta:Option Addr
 tc:Nat
 states:List c9
def dV.p(r:dV):dL:=⟨r.name,r.dH,r.init.px,r.pos⟩
def gC.p(d:gC):eJ:=⟨d.kind,d.order,d.name,d.side.px,d.qty.px,d.price.px,d.value.px,d.pos⟩
def dq.p(r:dq):dz:=⟨r.when.px,r.dos.map gC.p,r.pos⟩
def c9.p(s:c9):dm:=⟨s.name,s.rules.map dq.p,s.pos⟩
def fG.p(s:fG):dU:=⟨s.name,s.regs.map dV.p,s.slots,s.states.map c9.p⟩
abbrev dV.enc(r:dV):List Value:=[.string r.name,.int .u8 r.dH,.int .u8 r.init.kind,.int .u8 r.init.oper,.int .u8 r.init.dH,.int .i64 r.init.n,.int .u8 r.init.field,.string r.init.name,.slice r.init.a r.init.kids.length r.init.c,.int .i64 r.init.pos,.int .i64 r.pos]
abbrev di.enc(r:di):List Value:=[.string r.name,.int .i64 r.pos]
abbrev gC.enc(d:gC):List Value:=[.int .u8 d.kind,.int .u8 d.order,.string d.name,.int .u8 d.side.kind,.int .u8 d.side.oper,.int .u8 d.side.dH,.int .i64 d.side.n,.int .u8 d.side.field,.string d.side.name,.slice d.side.a d.side.kids.length d.side.c,.int .i64 d.side.pos,.int .u8 d.qty.kind,.int .u8 d.qty.oper,.int .u8 d.qty.dH,.int .i64 d.qty.n,.int .u8 d.qty.field,.string d.qty.name,.slice d.qty.a d.qty.kids.length d.qty.c,.int .i64 d.qty.pos,.int .u8 d.price.kind,.int .u8 d.price.oper,.int .u8 d.price.dH,.int .i64 d.price.n,.int .u8 d.price.field,.string d.price.name,.slice d.price.a d.price.kids.length d.price.c,.int .i64 d.price.pos,.int .u8 d.value.kind,.int .u8 d.value.oper,.int .u8 d.value.dH,.int .i64 d.value.n,.int .u8 d.value.field,.string d.value.name,.slice d.value.a d.value.kids.length d.value.c,.int .i64 d.value.pos,.int .i64 d.pos]
abbrev dq.enc(r:dq):List Value:=[.int .u8 r.when.kind,.int .u8 r.when.oper,.int .u8 r.when.dH,.int .i64 r.when.n,.int .u8 r.when.field,.string r.when.name,.slice r.when.a r.when.kids.length r.when.c,.int .i64 r.when.pos,.slice r.a r.dos.length r.c,.int .i64 r.pos]
abbrev c9.enc(s:c9):List Value:=[.string s.name,.slice s.a s.rules.length s.c,.int .i64 s.pos]
abbrev dV.v(r:dV):Value:=.agg #[.string r.name,.int .u8 r.dH,.int .u8 r.init.kind,.int .u8 r.init.oper,.int .u8 r.init.dH,.int .i64 r.init.n,.int .u8 r.init.field,.string r.init.name,.slice r.init.a r.init.kids.length r.init.c,.int .i64 r.init.pos,.int .i64 r.pos]
abbrev di.v(r:di):Value:=.agg #[.string r.name,.int .i64 r.pos]
abbrev gC.v(d:gC):Value:=.agg #[.int .u8 d.kind,.int .u8 d.order,.string d.name,.int .u8 d.side.kind,.int .u8 d.side.oper,.int .u8 d.side.dH,.int .i64 d.side.n,.int .u8 d.side.field,.string d.side.name,.slice d.side.a d.side.kids.length d.side.c,.int .i64 d.side.pos,.int .u8 d.qty.kind,.int .u8 d.qty.oper,.int .u8 d.qty.dH,.int .i64 d.qty.n,.int .u8 d.qty.field,.string d.qty.name,.slice d.qty.a d.qty.kids.length d.qty.c,.int .i64 d.qty.pos,.int .u8 d.price.kind,.int .u8 d.price.oper,.int .u8 d.price.dH,.int .i64 d.price.n,.int .u8 d.price.field,.string d.price.name,.slice d.price.a d.price.kids.length d.price.c,.int .i64 d.price.pos,.int .u8 d.value.kind,.int .u8 d.value.oper,.int .u8 d.value.dH,.int .i64 d.value.n,.int .u8 d.value.field,.string d.value.name,.slice d.value.a d.value.kids.length d.value.c,.int .i64 d.value.pos,.int .i64 d.pos]
abbrev dq.v(r:dq):Value:=.agg #[.int .u8 r.when.kind,.int .u8 r.when.oper,.int .u8 r.when.dH,.int .i64 r.when.n,.int .u8 r.when.field,.string r.when.name,.slice r.when.a r.when.kids.length r.when.c,.int .i64 r.when.pos,.slice r.a r.dos.length r.c,.int .i64 r.pos]
abbrev c9.v(s:c9):Value:=.agg #[.string s.name,.slice s.a s.rules.length s.c,.int .i64 s.pos]
abbrev fG.enc(s:fG):List Value:=[.string s.name,.slice s.ra s.regs.length s.rc,.slice s.sa s.slots.length s.sc,.slice s.ta s.states.length s.tc]
abbrev fG.v(s:fG):Value:=.agg #[.string s.name,.slice s.ra s.regs.length s.rc,.slice s.sa s.slots.length s.sc,.slice s.ta s.states.length s.tc]
def dV.Ok(I:cS)(G:cR)(r:dV):Prop:=fR I G r.init
def gC.Ok(I:cS)(G:cR)(d:gC):Prop:=fR I G d.side∧fR I G d.qty∧fR I G d.price∧fR I G d.value
def dq.Ok(I:cS)(G:cR)(r:dq):Prop:=fR I G r.when∧mv I G 36 gC.enc r.a r.dos.length r.dos∧∀d∈r.dos,d.Ok I G
def c9.Ok(I:cS)(G:cR)(s:c9):Prop:=mv I G 10 dq.enc s.a s.rules.length s.rules∧∀r∈s.rules,r.Ok I G
structure fG.Ok (I:cS) (G:cR) (s:fG):Prop where
 regs:mv I G 11 dV.enc s.ra s.regs.length s.regs
 lx:∀r∈s.regs,r.Ok I G
 slots:mv I G 2 di.enc s.sa s.slots.length s.slots
 states:mv I G 3 c9.enc s.ta s.states.length s.states
 state:∀x∈s.states,x.Ok I G
section
variable {I J:cS} {G H:cR}
theorem dV.Ok.mono{r:dV}(h:r.Ok I G)(hl:cS.le I J)(hs:∀x,x∈G→x∈H):r.Ok J H:=fR.mono h hl hs
theorem gC.Ok.mono{d:gC}(h:d.Ok I G)(hl:cS.le I J)(hs:∀x,x∈G→x∈H):d.Ok J H:=⟨h.1.mono hl hs,h.2.1.mono hl hs,h.2.2.1.mono hl hs,h.2.2.2.mono hl hs⟩
theorem dq.Ok.mono{r:dq}(h:r.Ok I G)(hl:cS.le I J)(hs:∀x,x∈G→x∈H):r.Ok J H:=⟨h.1.mono hl hs,h.2.1.mono hl hs,fun d hd=>(h.2.2 d hd).mono hl hs⟩
theorem c9.Ok.mono{s:c9}(h:s.Ok I G)(hl:cS.le I J)(hs:∀x,x∈G→x∈H):s.Ok J H:=⟨h.1.mono hl hs,fun r hr=>(h.2 r hr).mono hl hs⟩
theorem fG.Ok.mono{s:fG}(h:s.Ok I G)(hl:cS.le I J)(hs:∀x,x∈G→x∈H):s.Ok J H :=
 ⟨h.regs.mono hl hs,fun r hr=>(h.lx r hr).mono hl hs,h.slots.mono hl hs,h.states.mono hl hs,fun r hr=>(h.state r hr).mono hl hs⟩
theorem fG.Ok.cons{s:fG}(h:s.Ok I G){x:Nat×Obj}:s.Ok I (x::G):=h.mono (cS.le_refl I) fun _ h=>List.mem_cons_of_mem _ h
theorem dq.Ok.cons{s:dq}(h:s.Ok I G){x:Nat×Obj}:s.Ok I (x::G):=h.mono (cS.le_refl I) fun _ h=>List.mem_cons_of_mem _ h
theorem c9.Ok.cons{s:c9}(h:s.Ok I G){x:Nat×Obj}:s.Ok I (x::G):=h.mono (cS.le_refl I) fun _ h=>List.mem_cons_of_mem _ h
theorem gC.Ok.cons{s:gC}(h:s.Ok I G){x:Nat×Obj}:s.Ok I (x::G):=h.mono (cS.le_refl I) fun _ h=>List.mem_cons_of_mem _ h
end
def eJ.DB(d:eJ):List Px:=[d.side,d.qty,d.price,d.value]
def ns(b:Bool)(n:Int):Int:=if b then 0 else n
def iu(a b:Int):Int:=if a=0 then b else a
def Px.DC(x:Px):Bool:=x.kind==0&&(x.oper==0&&(x.dH==0&&(x.n==0&&(x.field==0&&(x.name.toList==[])))))&&decide (x.kids.length=0)
def uZ(is:Bool)(x:Px):Int:=if is then x.gY else ns x.DC 120
def Px.Eg(x:Px):Bool:=if x.kind=5∧x.oper=1 then (match x.kids with | k::_=>decide (k.kind=1∧k.dH≤4) | []=>false) else decide (x.kind=1)
def dL.check(r:dL):Int:=ns (iO r.name&&(decide (1≤r.dH∧r.dH≤6)&&(r.init.formed&&r.init.Eg))) 120
def eJ.E7(d:eJ):Bool:=decide (1≤d.kind∧d.kind≤6)
def eJ.Eh(d:eJ):Bool:=decide (d.kind=1∧1≤d.order∧d.order≤5∨d.kind≠1∧d.order=0)
def eJ.iO(d:eJ):Bool:=if d.kind=6 then d.name.toList==[] else if d.kind≠1∨d.name.toList≠[] then Lx.iO d.name else true
def eJ.check(d:eJ):Int:=iu (ns d.E7 120) (iu (ns d.Eh 120) (iu (ns d.iO 120) (iu (uZ (decide (d.kind=1)) d.side) (iu (uZ (decide (d.kind=1∨d.kind=2)) d.qty)
 (iu (uZ (decide (d.kind=1∧d.order≠2∨d.kind=2)) d.price) (uZ (decide (d.kind=4)) d.value))))))
def nt{α:Type}(f:α→Int):List α→Int
 | []=>0
 | x::r=>iu (f x) (nt f r)
def dz.check(r:dz):Int:=iu r.when.gY (iu (ns (decide (0<r.dos.length)) 120) (iu (ns (decide (r.dos.length≤8)) 121) (nt eJ.check r.dos)))
def dm.check(s:dm):Int:=iu (ns (iO s.name) 120) (iu (ns (decide (s.rules.length≤12)) 121) (nt dz.check s.rules))
def di.check(s:di):Int:=ns (iO s.name) 120
def dU.check(s:dU):Int:=iu (ns (iO s.name) 120) (iu (ns (decide (s.regs.length≤12)) 121) (iu (nt dL.check s.regs) (iu (ns (decide (s.slots.length≤4)) 121) (iu (nt di.check s.slots)
 (iu (ns (decide (0<s.states.length)) 120) (iu (ns (decide (s.states.length≤12)) 121) (nt dm.check s.states)))))))
theorem yG(b:Int):iu 0 b=b:=rfl
end Go.Lx
namespace Go.Lx
open Go.Vc
end Go.Lx
namespace Go.Lx
open Go.Vc Go.Proofs.Tryz
def nu:List (Nat×List Sh):=[(3,[.one (.int .i64)]),(4,[.one .bool]),(5,[.one (.int .u8)]),(79,[.one .slc]),(80,[.one .slc]),(134,[.agg [(.int .u8),.str,(.int .u8),(.int .i64),(.int .i64)],.one (.int .i64)])]
def oX.V(c:Int)(I:cS)(F:cR)(Q:cW)  : Prop:=Q (.returned (.bool (c != 10))) I (F)
theorem oX.vc{c:Int}{I:cS}{F:cR}{Q:cW}  (h:oX.V c I F Q):cZ P 149 #[.int .u8 c] I F Q :=
 tw (A:=(an [] [] nu)) [] func149 h
def rQ.V(s:Bs)(d:Int)(on:Nat)(b c:Array Value)(I:cS)(F:cR)(Q:cW)(Inv4:Int→Nat→cS→cR→Prop):Prop:=(∃m:Nat,Inv4 d m I F)∧∀(a:Int) (m1:Nat) (I1:cS) (F1:cR),cS.le I I1→Inv4 a m1 I1 F1→((decide (a<(s.size:Int))=true→((0≤a∧a<(s.size:Int))∧dG P on∧cZ P on (b++#[.int .u8 (bt s a)]++c) I1 F1 fun e1 I2 G1=>∃(r:Bool),e1=.returned (.bool r)∧∃F2:cR,List.Perm G1 F2∧((r=true→(∃m2:Nat,m2<m1∧Inv4 (IntKind.wrap .i64 (a+1)) m2 I2 F2))∧(r=false→Q (.returned (.int .i64 a)) I2 F2))))∧(decide (a<(s.size:Int))=false→Q (.returned (.int .i64 a)) I1 F1))
theorem rQ.vc{s:Bs}{c:Int}{on:Nat}{a b:Array Value}{I:cS}{F:cR}{Q:cW}(Inv4:Int→Nat→cS→cR→Prop)(h:rQ.V s c on a b I F Q Inv4):cZ P 138 #[.string s,.int .i64 c,.func (.func on) a b] I F Q :=
 tw (A:=(fa [1003,1009] [] [] nu [(4,⟨[(1,(.int .i64))],[],fun _ _ _ vs m I F=>match vs with | [.int _ y0]=>Inv4 y0 m I F | _=>False,[],[]⟩)] [] [] [] [] [] [])) [] func138 h
def pT.V(vi:Int→Value)(wr:Int→Int)(s:Bs)(b:Int)(I:cS)(F:cR)(Q:cW)(Inv7:Int→Nat→cS→cR→Prop):Prop:=(∃m:Nat,Inv7 b m I F)∧∀(a:Int) (m1:Nat) (I1:cS) (F1:cR),cS.le I I1→Inv7 a m1 I1 F1→((decide (a<(s.size:Int))=true→((0≤a∧a<(s.size:Int))∧((((bt s a)==32)=true→(∃m2:Nat,m2<m1∧Inv7 (wr (a+1)) m2 I1 F1))∧(((bt s a)==32)=false→((((bt s a)==9)=true→(∃m3:Nat,m3<m1∧Inv7 (wr (a+1)) m3 I1 F1))∧(((bt s a)==9)=false→((((bt s a)==10)=true→(∃m4:Nat,m4<m1∧Inv7 (wr (a+1)) m4 I1 F1))∧(((bt s a)==10)=false→((((bt s a)==13)=true→(∃m5:Nat,m5<m1∧Inv7 (wr (a+1)) m5 I1 F1))∧(((bt s a)==13)=false→((((bt s a)==35)=true→cZ P 138 (#[.string s,vi a,.func (.func 149) #[] #[]]) I1 F1 fun e1 I2 G1=>∃(r:Int),e1=.returned (vi r)∧∃F2:cR,List.Perm G1 F2∧(∃m6:Nat,m6<m1∧Inv7 r m6 I2 F2))∧(((bt s a)==35)=false→Q (.returned (vi a)) I1 F1))))))))))))∧(decide (a<(s.size:Int))=false→Q (.returned (vi a)) I1 F1))
theorem pT.vc{s:Bs}{a:Int}{I:cS}{F:cR}{Q:cW}(Inv7:Int→Nat→cS→cR→Prop)(h:pT.V (.int .i64) (IntKind.wrap .i64) s a I F Q Inv7):cZ P 134 #[.string s,.int .i64 a] I F Q :=
 tw (A:=(fa [1003,3000,4000,5000,6000,8000] [] [138] nu [(7,⟨[(1,(.int .i64))],[],fun _ _ _ vs m I F=>match vs with | [.int _ y0]=>Inv7 y0 m I F | _=>False,[],[]⟩)] [] [] [] [] [] [])) [138] func134 h
def mH.V(vb vi:Int→Value)(vs:Bs→Value)(wr:Int→Int)(s:Bs)(c:Int)(I:cS)(F:cR)(Q:cW)(Inv10:Int→Int→Int→Bs→Int→Int→Int→Int→Bs→Int→Int→Int→Nat→cS→cR→Prop)(Inv33:Int→Int→Bs→Int→Int→Int→cS→cR→Prop)(Inv43:Int→cS→cR→Prop)(Inv51:Int→Int→Int→Bs→Int→Int→Int→cS→cR→Prop):Prop:=∀b:Nat,cZ P 138 (#[vs s,vi c,.func (.func 135) #[] #[]]) I ((b,Obj.cells #[vb 0,vs (⟨#[]⟩:Bs),vb 0,vi 0,vi 0] 76 (0,0))::F) fun e1 I1 G1=>∃(r:Int),e1=.returned (vi r)∧∃F1:cR,List.Perm G1 ((b,Obj.cells #[vb 0,vs (⟨#[]⟩:Bs),vb 0,vi 0,vi 0] 76 (0,0))::F1)∧∀y:Nat,((0≤c∧c≤r∧r≤(s.size:Int))∧dO P (Go.convert 9 79 (vs (s.extract (Int.toNat c) (Int.toNat r)))) I1 ((b,Obj.cells #[vb 0,vs (⟨#[]⟩:Bs),vb 0,vi 0,vi 0] 76 (0,0))::(y,Obj.cells #[vb 3,vs (⟨#[]⟩:Bs),vb 1,vi 0,vi c] 76 (0,0))::F1) fun v I2 G2=>∃(ag:OA) (af ai:Nat),v=.slice ag af ai∧∃F2:cR,List.Perm G2 ((b,Obj.cells #[vb 0,vs (⟨#[]⟩:Bs),vb 0,vi 0,vi 0] 76 (0,0))::(y,Obj.cells #[vb 3,vs (⟨#[]⟩:Bs),vb 1,vi 0,vi c] 76 (0,0))::F2)∧(∃m:Nat,Inv10 0 0 0 (⟨#[]⟩:Bs) 0 0 0 3 (⟨#[]⟩:Bs) 1 0 c m I2 F2)∧∀(x x1 p:Int) (q:Bs) (t u w i:Int) (j:Bs) (n d k:Int) (m1:Nat) (I3:cS) (F3:cR),cS.le I2 I3→Inv10 x x1 p q t u w i j n d k m1 I3 F3→((decide (x1<(af:Int))=true→((0≤x1∧x1<(af:Int))∧∃ad:Addr,ag=some ad∧∃(m2:Int),Rd I3 ((b,Obj.cells #[vb p,vs q,vb t,vi u,vi w] 76 (0,0))::(y,Obj.cells #[vb i,vs j,vb n,vi d,vi k] 76 (0,0))::F3) (ad.add (Int.toNat x1*1)) [vb m2]∧((decide (d>(wr (Int.tdiv (wr (9223372036854775807-(wr (IntKind.wrap .u8 (m2-48))))) 10)))=true→Q (.returned (.tuple #[.agg #[vb 0,vs (⟨#[]⟩:Bs),vb 0,vi 0,vi 0],vi 113])) I3 F3)∧(decide (d>(wr (Int.tdiv (wr (9223372036854775807-(wr (IntKind.wrap .u8 (m2-48))))) 10)))=false→(∃m3:Nat,m3<m1∧Inv10 x (wr (x1+1)) p q t u w i j n (wr ((wr (10*d))+(wr (IntKind.wrap .u8 (m2-48))))) k m3 I3 F3)))))∧(decide (x1<(af:Int))=false→(((decide ((wr (r-c))>1)=true→((0≤c∧c<(s.size:Int))∧((((bt s c)==48)=true→Q (.returned (.tuple #[.agg #[vb 0,vs (⟨#[]⟩:Bs),vb 0,vi 0,vi 0],vi 113])) I3 F3)∧(((bt s c)==48)=false→Inv33 x p q t u w I3 F3))))∧(decide ((wr (r-c))>1)=false→Inv33 x p q t u w I3 F3)))∧∀(x2 z:Int) (aa:Bs) (ab ac ae:Int) (I4:cS) (F4:cR),cS.le I3 I4→Inv33 x2 z aa ab ac ae I4 F4→(((decide (r<(s.size:Int))=true→((0≤r∧r<(s.size:Int))∧Inv43 (bt s r) I4 F4))∧(decide (r<(s.size:Int))=false→Inv43 0 I4 F4)))∧∀(l:Int) (I5:cS) (F5:cR),cS.le I4 I5→Inv43 l I5 F5→((((l==116)=true→Inv51 (wr (r+1)) (wr ((wr ((wr ((-1)+1))+1))+1)) i j (IntKind.wrap .u8 (2+(IntKind.wrap .u8 (wr ((wr ((wr ((-1)+1))+1))+1))))) d k I5 F5)∧((l==116)=false→(((l==112)=true→Inv51 (wr (r+1)) (wr ((wr ((-1)+1))+1)) i j (IntKind.wrap .u8 (2+(IntKind.wrap .u8 (wr ((wr ((-1)+1))+1))))) d k I5 F5)∧((l==112)=false→(((l==113)=true→Inv51 (wr (r+1)) (wr ((-1)+1)) i j (IntKind.wrap .u8 (2+(IntKind.wrap .u8 (wr ((-1)+1))))) d k I5 F5)∧((l==113)=false→Inv51 r (-1) i j n d k I5 F5)))))))∧∀(a ah e:Int) (o:Bs) (f g h:Int) (I6:cS) (F6:cR),cS.le I5 I6→Inv51 a ah e o f g h I6 F6→((decide (a<(s.size:Int))=true→((0≤a∧a<(s.size:Int))∧cZ P 139 (#[vb (bt s a)]) I6 ((b,Obj.cells #[vb z,vs aa,vb ab,vi ac,vi ae] 76 (0,0))::(y,Obj.cells #[vb e,vs o,vb f,vi g,vi h] 76 (0,0))::F6) fun e2 I7 G3=>∃(r1:Bool),e2=.returned (.bool r1)∧∃F7:cR,List.Perm G3 ((b,Obj.cells #[vb z,vs aa,vb ab,vi ac,vi ae] 76 (0,0))::(y,Obj.cells #[vb e,vs o,vb f,vi g,vi h] 76 (0,0))::F7)∧((r1=true→Q (.returned (.tuple #[.agg #[vb 0,vs (⟨#[]⟩:Bs),vb 0,vi 0,vi 0],vi 113])) I7 F7)∧(r1=false→((0≤a∧a<(s.size:Int))∧((decide (65≤(bt s a))=true→((0≤a∧a<(s.size:Int))∧((decide ((bt s a)≤90)=true→Q (.returned (.tuple #[.agg #[vb 0,vs (⟨#[]⟩:Bs),vb 0,vi 0,vi 0],vi 113])) I7 F7)∧(decide ((bt s a)≤90)=false→((0≤c∧c≤a∧a≤(s.size:Int))∧Q (.returned (.tuple #[.agg #[vb e,vs (s.extract (Int.toNat c) (Int.toNat a)),vb f,vi g,vi h],vi 0])) I7 F7)))))∧(decide (65≤(bt s a))=false→((0≤c∧c≤a∧a≤(s.size:Int))∧Q (.returned (.tuple #[.agg #[vb e,vs (s.extract (Int.toNat c) (Int.toNat a)),vb f,vi g,vi h],vi 0])) I7 F7))))))))∧(decide (a<(s.size:Int))=false→((0≤c∧c≤a∧a≤(s.size:Int))∧Q (.returned (.tuple #[.agg #[vb e,vs (s.extract (Int.toNat c) (Int.toNat a)),vb f,vi g,vi h],vi 0])) I6 F6))))))
theorem mH.vc{s:Bs}{a:Int}{I:cS}{F:cR}{Q:cW}(Inv10:Int→Int→Int→Bs→Int→Int→Int→Int→Bs→Int→Int→Int→Nat→cS→cR→Prop)(Inv33:Int→Int→Bs→Int→Int→Int→cS→cR→Prop)(Inv43:Int→cS→cR→Prop)(Inv51:Int→Int→Int→Bs→Int→Int→Int→cS→cR→Prop)(h:mH.V (.int .u8) (.int .i64) .string (IntKind.wrap .i64) s a I F Q Inv10 Inv33 Inv43 Inv51):cZ P 136 #[.string s,.int .i64 a] I F Q :=
 tw (A:=(fa [4000,7005,11003,11008,14003,18000,19000,20000,26003,26008,26013,26018] [] [138,139] nu [(10,⟨[(5,(.int .i64)),(24,(.int .i64))],[(0,[(.int .u8),.str,(.int .u8),(.int .i64),(.int .i64)]),(1,[(.int .u8),.str,(.int .u8),(.int .i64),(.int .i64)])],fun _ _ _ vs m I F=>match vs with | [.int _ y0,.int _ y1,.int _ y2,.string y3,.int _ y4,.int _ y5,.int _ y6,.int _ y7,.string y8,.int _ y9,.int _ y10,.int _ y11]=>Inv10 y0 y1 y2 y3 y4 y5 y6 y7 y8 y9 y10 y11 m I F | _=>False,[],[]⟩),(33,⟨[(5,(.int .i64))],[(0,[(.int .u8),.str,(.int .u8),(.int .i64),(.int .i64)])],fun _ _ _ vs m I F=>match vs with | [.int _ y0,.int _ y1,.string y2,.int _ y3,.int _ y4,.int _ y5]=>Inv33 y0 y1 y2 y3 y4 y5 I F | _=>False,[],[]⟩),(43,⟨[(11,(.int .u8))],[],fun _ _ _ vs m I F=>match vs with | [.int _ y0]=>Inv43 y0 I F | _=>False,[],[]⟩),(51,⟨[(6,(.int .i64)),(12,(.int .i64))],[(1,[(.int .u8),.str,(.int .u8),(.int .i64),(.int .i64)])],fun _ _ _ vs m I F=>match vs with | [.int _ y0,.int _ y1,.int _ y2,.string y3,.int _ y4,.int _ y5,.int _ y6]=>Inv51 y0 y1 y2 y3 y4 y5 y6 I F | _=>False,[],[]⟩)] [] [] [] [] [] [])) [138,139] func136 h
def pU.V(vi:Int→Value)(wr:Int→Int)(s:Bs)(a:Int)(I:cS)(F:cR)(Q:cW)  : Prop:=((decide ((wr (a+1))<(s.size:Int))=true→((0≤(wr (a+1))∧(wr (a+1))<(s.size:Int))∧((0≤a∧a<(s.size:Int))∧((((bt s a)==123)=true→Q (.returned (vi 1)) I F)∧(((bt s a)==123)=false→((((bt s a)==125)=true→Q (.returned (vi 1)) I F)∧(((bt s a)==125)=false→((((bt s a)==40)=true→Q (.returned (vi 1)) I F)∧(((bt s a)==40)=false→((((bt s a)==41)=true→Q (.returned (vi 1)) I F)∧(((bt s a)==41)=false→((((bt s a)==44)=true→Q (.returned (vi 1)) I F)∧(((bt s a)==44)=false→((((bt s a)==59)=true→Q (.returned (vi 1)) I F)∧(((bt s a)==59)=false→((((bt s a)==63)=true→Q (.returned (vi 1)) I F)∧(((bt s a)==63)=false→((((bt s a)==58)=true→Q (.returned (vi 1)) I F)∧(((bt s a)==58)=false→((((bt s a)==43)=true→Q (.returned (vi 1)) I F)∧(((bt s a)==43)=false→((((bt s a)==45)=true→Q (.returned (vi 1)) I F)∧(((bt s a)==45)=false→((((bt s a)==42)=true→Q (.returned (vi 1)) I F)∧(((bt s a)==42)=false→((((bt s a)==47)=true→Q (.returned (vi 1)) I F)∧(((bt s a)==47)=false→((((bt s a)==37)=true→Q (.returned (vi 1)) I F)∧(((bt s a)==37)=false→((((bt s a)==38)=true→((((bt s (wr (a+1)))==(bt s a))=true→Q (.returned (vi 2)) I F)∧(((bt s (wr (a+1)))==(bt s a))=false→Q (.returned (vi 0)) I F)))∧(((bt s a)==38)=false→((((bt s a)==124)=true→((((bt s (wr (a+1)))==(bt s a))=true→Q (.returned (vi 2)) I F)∧(((bt s (wr (a+1)))==(bt s a))=false→Q (.returned (vi 0)) I F)))∧(((bt s a)==124)=false→((((bt s a)==61)=true→((((bt s (wr (a+1)))==61)=true→Q (.returned (vi 2)) I F)∧(((bt s (wr (a+1)))==61)=false→Q (.returned (vi 1)) I F)))∧(((bt s a)==61)=false→((((bt s a)==33)=true→((((bt s (wr (a+1)))==61)=true→Q (.returned (vi 2)) I F)∧(((bt s (wr (a+1)))==61)=false→Q (.returned (vi 1)) I F)))∧(((bt s a)==33)=false→((((bt s a)==60)=true→((((bt s (wr (a+1)))==61)=true→Q (.returned (vi 2)) I F)∧(((bt s (wr (a+1)))==61)=false→Q (.returned (vi 1)) I F)))∧(((bt s a)==60)=false→((((bt s a)==62)=true→((((bt s (wr (a+1)))==61)=true→Q (.returned (vi 2)) I F)∧(((bt s (wr (a+1)))==61)=false→Q (.returned (vi 1)) I F)))∧(((bt s a)==62)=false→Q (.returned (vi 0)) I F)))))))))))))))))))))))))))))))))))))))))∧(decide ((wr (a+1))<(s.size:Int))=false→((0≤a∧a<(s.size:Int))∧((((bt s a)==123)=true→Q (.returned (vi 1)) I F)∧(((bt s a)==123)=false→((((bt s a)==125)=true→Q (.returned (vi 1)) I F)∧(((bt s a)==125)=false→((((bt s a)==40)=true→Q (.returned (vi 1)) I F)∧(((bt s a)==40)=false→((((bt s a)==41)=true→Q (.returned (vi 1)) I F)∧(((bt s a)==41)=false→((((bt s a)==44)=true→Q (.returned (vi 1)) I F)∧(((bt s a)==44)=false→((((bt s a)==59)=true→Q (.returned (vi 1)) I F)∧(((bt s a)==59)=false→((((bt s a)==63)=true→Q (.returned (vi 1)) I F)∧(((bt s a)==63)=false→((((bt s a)==58)=true→Q (.returned (vi 1)) I F)∧(((bt s a)==58)=false→((((bt s a)==43)=true→Q (.returned (vi 1)) I F)∧(((bt s a)==43)=false→((((bt s a)==45)=true→Q (.returned (vi 1)) I F)∧(((bt s a)==45)=false→((((bt s a)==42)=true→Q (.returned (vi 1)) I F)∧(((bt s a)==42)=false→((((bt s a)==47)=true→Q (.returned (vi 1)) I F)∧(((bt s a)==47)=false→((((bt s a)==37)=true→Q (.returned (vi 1)) I F)∧(((bt s a)==37)=false→((((bt s a)==38)=true→(((0==(bt s a))=true→Q (.returned (vi 2)) I F)∧((0==(bt s a))=false→Q (.returned (vi 0)) I F)))∧(((bt s a)==38)=false→((((bt s a)==124)=true→(((0==(bt s a))=true→Q (.returned (vi 2)) I F)∧((0==(bt s a))=false→Q (.returned (vi 0)) I F)))∧(((bt s a)==124)=false→((((bt s a)==61)=true→((false=true→Q (.returned (vi 2)) I F)∧(false=false→Q (.returned (vi 1)) I F)))∧(((bt s a)==61)=false→((((bt s a)==33)=true→((false=true→Q (.returned (vi 2)) I F)∧(false=false→Q (.returned (vi 1)) I F)))∧(((bt s a)==33)=false→((((bt s a)==60)=true→((false=true→Q (.returned (vi 2)) I F)∧(false=false→Q (.returned (vi 1)) I F)))∧(((bt s a)==60)=false→((((bt s a)==62)=true→((false=true→Q (.returned (vi 2)) I F)∧(false=false→Q (.returned (vi 1)) I F)))∧(((bt s a)==62)=false→Q (.returned (vi 0)) I F)))))))))))))))))))))))))))))))))))))))))
theorem pU.vc{s:Bs}{a:Int}{I:cS}{F:cR}{Q:cW}  (h:pU.V (.int .i64) (IntKind.wrap .i64) s a I F Q):cZ P 141 #[.string s,.int .i64 a] I F Q :=
 tw (A:=(an [2004,6000,7000,8000,9000,10000,11000,12000,13000,14000,15000,16000,17000,18000,20000,21000,22002,24000,25000,26000,27000,28001] [] nu)) [] func141 h
def nX.V(vb vi:Int→Value)(vs:Bs→Value)(wr:Int→Int)(s:Bs)(i:Int)(I:cS)(F:cR)(Q:cW)  : Prop:=∀b:Nat,cZ P 134 #[vs s,vi i] I ((b,Obj.cells #[vb 0,vs (⟨#[]⟩:Bs),vb 0,vi 0,vi 0] 76 (0,0))::F) fun e1 I1 G1=>∃(r:Int),e1=.returned (vi r)∧∃F1:cR,List.Perm G1 ((b,Obj.cells #[vb 0,vs (⟨#[]⟩:Bs),vb 0,vi 0,vi 0] 76 (0,0))::F1)∧(((r==(s.size:Int))=true→Q (.returned (.tuple #[.agg #[vb 0,vs (⟨#[]⟩:Bs),vb 0,vi 0,vi r],vi 0])) I1 F1)∧((r==(s.size:Int))=false→((0≤r∧r<(s.size:Int))∧cZ P 135 (#[vb (bt s r)]) I1 ((b,Obj.cells #[vb 0,vs (⟨#[]⟩:Bs),vb 0,vi 0,vi 0] 76 (0,0))::F1) fun e2 I2 G2=>∃(r1:Bool),e2=.returned (.bool r1)∧∃F2:cR,List.Perm G2 ((b,Obj.cells #[vb 0,vs (⟨#[]⟩:Bs),vb 0,vi 0,vi 0] 76 (0,0))::F2)∧((r1=true→cZ P 136 #[vs s,vi r] I2 ((b,Obj.cells #[vb 0,vs (⟨#[]⟩:Bs),vb 0,vi 0,vi 0] 76 (0,0))::F2) fun e3 I3 G3=>∃(a:Int) (c:Bs) (d e h g:Int),e3=.returned (.tuple #[.agg #[vb a,vs c,vb d,vi e,vi h],vi g])∧∃F3:cR,List.Perm G3 ((b,Obj.cells #[vb 0,vs (⟨#[]⟩:Bs),vb 0,vi 0,vi 0] 76 (0,0))::F3)∧∀j:Nat,Q (.returned (.tuple #[.agg #[vb a,vs c,vb d,vi e,vi r],vi g])) I3 F3)∧(r1=false→cZ P 137 (#[vb (bt s r)]) I2 ((b,Obj.cells #[vb 0,vs (⟨#[]⟩:Bs),vb 0,vi 0,vi 0] 76 (0,0))::F2) fun e4 I4 G4=>∃(r2:Bool),e4=.returned (.bool r2)∧∃F4:cR,List.Perm G4 ((b,Obj.cells #[vb 0,vs (⟨#[]⟩:Bs),vb 0,vi 0,vi 0] 76 (0,0))::F4)∧((r2=true→cZ P 138 (#[vs s,vi r,.func (.func 139) #[] #[]]) I4 ((b,Obj.cells #[vb 0,vs (⟨#[]⟩:Bs),vb 0,vi 0,vi 0] 76 (0,0))::F4) fun e5 I5 G5=>∃(r3:Int),e5=.returned (vi r3)∧∃F5:cR,List.Perm G5 ((b,Obj.cells #[vb 0,vs (⟨#[]⟩:Bs),vb 0,vi 0,vi 0] 76 (0,0))::F5)∧((decide ((wr (r3-r))>16)=true→Q (.returned (.tuple #[.agg #[vb 0,vs (⟨#[]⟩:Bs),vb 0,vi 0,vi r],vi 112])) I5 F5)∧(decide ((wr (r3-r))>16)=false→((0≤r∧r≤r3∧r3≤(s.size:Int))∧∀f:Nat,cZ P 140 (#[vs (s.extract (Int.toNat r) (Int.toNat r3))]) I5 ((b,Obj.cells #[vb 0,vs (⟨#[]⟩:Bs),vb 0,vi 0,vi 0] 76 (0,0))::(f,Obj.cells #[vb 2,vs (s.extract (Int.toNat r) (Int.toNat r3)),vb 0,vi 0,vi r] 76 (0,0))::F5) fun e6 I6 G6=>∃(r4:Bool),e6=.returned (.bool r4)∧∃F6:cR,List.Perm G6 ((b,Obj.cells #[vb 0,vs (⟨#[]⟩:Bs),vb 0,vi 0,vi 0] 76 (0,0))::(f,Obj.cells #[vb 2,vs (s.extract (Int.toNat r) (Int.toNat r3)),vb 0,vi 0,vi r] 76 (0,0))::F6)∧((r4=true→Q (.returned (.tuple #[.agg #[vb 1,vs (s.extract (Int.toNat r) (Int.toNat r3)),vb 0,vi 0,vi r],vi 0])) I6 F6)∧(r4=false→Q (.returned (.tuple #[.agg #[vb 2,vs (s.extract (Int.toNat r) (Int.toNat r3)),vb 0,vi 0,vi r],vi 0])) I6 F6))))))∧(r2=false→cZ P 141 #[vs s,vi r] I4 ((b,Obj.cells #[vb 0,vs (⟨#[]⟩:Bs),vb 0,vi 0,vi 0] 76 (0,0))::F4) fun e7 I7 G7=>∃(r5:Int),e7=.returned (vi r5)∧∃F7:cR,List.Perm G7 ((b,Obj.cells #[vb 0,vs (⟨#[]⟩:Bs),vb 0,vi 0,vi 0] 76 (0,0))::F7)∧(((r5==0)=true→Q (.returned (.tuple #[.agg #[vb 0,vs (⟨#[]⟩:Bs),vb 0,vi 0,vi r],vi 111])) I7 F7)∧((r5==0)=false→((0≤r∧r≤(wr (r+r5))∧(wr (r+r5))≤(s.size:Int))∧Q (.returned (.tuple #[.agg #[vb 4,vs (s.extract (Int.toNat r) (Int.toNat ((wr (r+r5))))),vb 0,vi 0,vi r],vi 0])) I7 F7))))))))))
theorem nX.vc{s:Bs}{a:Int}{I:cS}{F:cR}{Q:cW}  (h:nX.V (.int .u8) (.int .i64) .string (IntKind.wrap .i64) s a I F Q):cZ P 123 #[.string s,.int .i64 a] I F Q :=
 tw (A:=(an [2003,5001,9001,11003,14002,18001] [134,135,136,137,138,140,141] nu)) [134,135,136,137,138,140,141] func123 h
def mJ.V(vb vi:Int→Value)(vs:Bs→Value)(vl:OA→Nat→Nat→Value)(s:Bs)(I:cS)(F:cR)(Q:cW)(Inv15:OA→Nat→Nat→Int→Int→OA→Nat→Nat→Int→Nat→cS→cR→Prop):Prop:=((decide ((s.size:Int)>4096)=true→Q (.returned (.tuple #[vl none 0 0,vi 110,vi 0])) I F)∧(decide ((s.size:Int)>4096)=false→(∃m:Nat,Inv15 none 0 0 0 0 none 0 0 0 m I F)∧∀(j:OA) (k l:Nat) (x x1:Int) (n:OA) (o p:Nat) (q:Int) (m1:Nat) (I1:cS) (F1:cR),cS.le I I1→Inv15 j k l x x1 n o p q m1 I1 F1→cZ P 123 #[vs s,vi q] I1 F1 fun e1 I2 G1=>∃(a:Int) (d:Bs) (e f c r1:Int),e1=.returned (.tuple #[.agg #[vb a,vs d,vb e,vi f,vi c],vi r1])∧∃F2:cR,List.Perm G1 F2∧∀r:Nat,(((r1 != 0)=true→Q (.returned (.tuple #[vl none 0 0,vi r1,vi c])) I2 F2)∧((r1 != 0)=false→∀(b:Nat) (I3:cS),cS.le I2 I3→I3 b=some (Obj.cells #[vb a,vs d,vb e,vi f,vi c] 76 (0,0))→dO P (Builtin.append_ #[80,80] 80 #[vl n o p,vl (some ⟨b,0,none⟩) 1 1]) I3 ((r,Obj.cells #[vb a,vs d,vb e,vi f,vi c] 76 (0,0))::F2) fun v I4 G2=>∃(g:OA) (h i:Nat),v=vl g h i∧∃F3:cR,List.Perm G2 ((r,Obj.cells #[vb a,vs d,vb e,vi f,vi c] 76 (0,0))::F3)∧(((a==0)=true→Q (.returned (.tuple #[vl g h i,vi 0,vi 0])) I4 F3)∧((a==0)=false→(∃m2:Nat,m2<m1∧Inv15 j k l x x1 g h i (IntKind.wrap .i64 (c+(d.size:Int))) m2 I4 F3)))))))
theorem mJ.vc{s:Bs}{I:cS}{F:cR}{Q:cW}(Inv15:OA→Nat→Nat→Int→Int→OA→Nat→Nat→Int→Nat→cS→cR→Prop)(h:mJ.V (.int .u8) (.int .i64) .string .slice s I F Q Inv15):cZ P 124 #[.string s] I F Q :=
 tw (A:=(fa [1002,6001,9002] [] [123] nu [(15,⟨[(2,.slc),(3,(.int .i64)),(4,(.int .i64)),(5,.slc),(6,(.int .i64))],[],fun _ _ _ vs m I F=>match vs with | [.slice y0 y1 y2,.int _ y3,.int _ y4,.slice y5 y6 y7,.int _ y8]=>Inv15 y0 y1 y2 y3 y4 y5 y6 y7 y8 m I F | _=>False,[],[]⟩)] [8002] [] [] [] [] [])) [123] func124 h
def pV.V(vb vi:Int→Value)(vs:Bs→Value)(s:Bs)(a:Int)(I:cS)(F:cR)(Q:cW)  : Prop:=∀b:Nat,((decide ((s.size:Int)>4096)=true→Q (.returned (.tuple #[.agg #[vb 0,vs (⟨#[]⟩:Bs),vb 0,vi 0,vi 0],vi 0,vi 110])) I F)∧(decide ((s.size:Int)>4096)=false→((decide (a<0)=true→Q (.returned (.tuple #[.agg #[vb 0,vs (⟨#[]⟩:Bs),vb 0,vi 0,vi 0],vi 0,vi 1])) I F)∧(decide (a<0)=false→((decide (a>(s.size:Int))=true→Q (.returned (.tuple #[.agg #[vb 0,vs (⟨#[]⟩:Bs),vb 0,vi 0,vi 0],vi 0,vi 1])) I F)∧(decide (a>(s.size:Int))=false→cZ P 123 #[vs s,vi a] I ((b,Obj.cells #[vb 0,vs (⟨#[]⟩:Bs),vb 0,vi 0,vi 0] 76 (0,0))::F) fun e1 I1 G1=>∃(e:Int) (c:Bs) (f g d r1:Int),e1=.returned (.tuple #[.agg #[vb e,vs c,vb f,vi g,vi d],vi r1])∧∃F1:cR,List.Perm G1 ((b,Obj.cells #[vb 0,vs (⟨#[]⟩:Bs),vb 0,vi 0,vi 0] 76 (0,0))::F1)∧∀h:Nat,(((r1 != 0)=true→Q (.returned (.tuple #[.agg #[vb 0,vs (⟨#[]⟩:Bs),vb 0,vi 0,vi 0],vi 0,vi r1])) I1 F1)∧((r1 != 0)=false→Q (.returned (.tuple #[.agg #[vb e,vs c,vb f,vi g,vi d],vi (IntKind.wrap .i64 (d+(c.size:Int))),vi 0])) I1 F1))))))))
theorem pV.vc{s:Bs}{a:Int}{I:cS}{F:cR}{Q:cW}  (h:pV.V (.int .u8) (.int .i64) .string s a I F Q):cZ P 102 #[.string s,.int .i64 a] I F Q :=
 tw (A:=(fa [1002,3001,3006,6001] [] [123] nu [] [] [] [(8,7,[0])] [] [] [])) [123] func102 h
end Go.Lx
namespace Go.Lx
open Go.Vc
theorem Aw(c:Int)(I:cS)(F:cR):cZ P 149 #[.int .u8 c] I F (lH (.bool (qw c)) F) :=
 oX.vc ⟨rfl,rfl⟩
theorem tj{s:ByteArray}(hs:dj s){i:Int}(h0:0≤i)(h1:i≤s.size){p:Int→Bool}{on:Nat}(hp:∀c I F,cZ P on #[.int .u8 c] I F (lH (.bool (p c)) F))(hen:dG P on)(I:cS)(F:cR) :
  cZ P 138 #[.string s,.int .i64 i,.func (.func on) #[] #[]] I F (lH (.int .i64 (dA p s i)) F):=by
 unfold dj at hs
 refine rQ.vc (fun j m I' F'=>0≤j∧j≤s.size∧m=(s.size-j).toNat∧dA p s j=dA p s i∧F'=F) ?_
 unfold rQ.V
 refine⟨⟨_,h0,h1,rfl,rfl,rfl⟩,fun j m I1 F1 hI ⟨g0,g1,gm,gr,gF⟩=>⟨fun hlt=>?_,fun hlt=>?_⟩⟩
 ·have hlt:j<(s.size:Int):=by simpa using hlt
  refine⟨⟨g0,hlt⟩,hen, ?_⟩
  subst gF
  have:=hp (bt s j) I1 F1
  refine cZ.ret (by simpa using this) fun I2 h2=>⟨_,rfl,F1,.refl _,fun hc=>?_,fun hc=>⟨?_,rfl⟩⟩
  ·refine⟨m-1,by omega, ?_⟩
   rw[gU (by omega)]
   rw[dK hlt,if_pos hc] at gr
   exact⟨by omega,by omega,by omega,gr,rfl⟩
  ·rw[dK hlt,if_neg (by simpa using hc)] at gr
   rw[gr]
 ·have hlt:¬j<(s.size:Int):=by simpa using hlt
  refine⟨?_,gF⟩
  rw[kj (by omega)] at gr
  rw[gr]
theorem BJ:dG P 135:=iV (by kernel_rfl)
theorem BK:dG P 139:=iV (by kernel_rfl)
theorem BL:dG P 149:=iV (by kernel_rfl)
theorem yH{s:ByteArray}(hs:dj s){i:Int}(h0:0≤i)(h1:i≤s.size)(I:cS)(F:cR) :
  cZ P 134 #[.string s,.int .i64 i] I F (lH (.int .i64 (dg s i)) F):=by
 have hs':=hs
 unfold dj at hs'
 refine pT.vc (fun j m I' F'=>0≤j∧j≤s.size∧m=(s.size-j).toNat∧dg s j=dg s i∧F'=F) ?_
 unfold pT.V
 refine⟨⟨_,h0,h1,rfl,rfl,rfl⟩,fun j m I1 F1 hI ⟨g0,g1,gm,gr,gF⟩=>⟨fun hlt=>?_,fun hlt=>?_⟩⟩
 ·have hlt:j<(s.size:Int):=by simpa using hlt
  subst gF
  have fp:blank (bt s j)=true→∃m':Nat,m'<m∧0≤IntKind.wrap .i64 (j+1)∧IntKind.wrap .i64 (j+1)≤s.size∧m'=(s.size-IntKind.wrap .i64 (j+1)).toNat ∧
    dg s (IntKind.wrap .i64 (j+1))=dg s i∧F1=F1:=by
   intro hb
   rw[gU (by omega)]
   exact⟨_,by omega,by omega,by omega,rfl,by rw[←gr,vH hlt hb],rfl⟩
  refine⟨⟨g0,hlt⟩,fun h=>fp ?_,fun h32=>⟨fun h=>fp ?_,fun h9=>⟨fun h=>fp ?_,fun h10=>⟨fun h=>fp ?_,fun h13=>⟨fun h=>?_,fun h35=>?_⟩⟩⟩⟩⟩
  ·simp[blank,h]
  ·simp[blank,h]
  ·simp[blank,h]
  ·simp[blank,h]
  ·have h35:bt s j=35:=by simpa using h
   refine cZ.ret (tj hs g0 g1 Aw BL I1 F1) fun I2 h2=>⟨_,rfl,F1,.refl _, ?_⟩
   have hr:=dK (p:=qw) hlt
   rw[show qw (bt s j)=true by simp[qw,h35],if_pos rfl] at hr
   have:=eP (p:=qw) (s:=s) (i:=j+1) (by omega)
   exact⟨_,by omega,by omega,by omega,rfl,by rw[←gr,uv hlt h35],rfl⟩
  ·refine⟨?_,rfl⟩
   have:dg s j=j:=my hlt (by simp only[blank,h32,h9,h10,h13];rfl) (by simpa using h35)
   rw[this] at gr
   rw[gr]
 ·have hlt:¬j<(s.size:Int):=by simpa using hlt
  refine⟨?_,gF⟩
  have:dg s j=j:=hY (by omega)
  rw[this] at gr
  rw[gr]
theorem Ax{s:ByteArray}(hs:dj s){i:Int}(h0:0≤i)(h1:i<s.size)(I:cS)(F:cR):cZ P 141 #[.string s,.int .i64 i] I F (lH (.int .i64 (eF s i)) F):=by
 unfold dj at hs
 refine pU.vc ?_
 unfold pU.V
 rw[gU (by omega)]
 refine⟨fun hn=>⟨⟨by omega,by simpa using hn⟩,⟨h0,h1⟩, ?_⟩,fun hn=>⟨⟨h0,h1⟩, ?_⟩⟩
 ·have hd:cX s (i+1)=bt s (i+1):=by unfold cX;rw[if_pos (by simpa using hn)]
  have e:eF s i=if single (bt s i) then 1 else if bt s i=38∨bt s i=124 then (if bt s (i+1)=bt s i then 2 else 0) else
   if bt s i=61∨bt s i=33∨bt s i=60∨bt s i=62 then (if bt s (i+1)=61 then 2 else 1) else 0:=by unfold eF;rw[hd]
  rw[e]
  generalize bt s i=c
  generalize bt s (i+1)=d
  clear e hd hn
  repeat' (first | (with_reducible apply And.intro) | (with_reducible intro h))
  all_goals (refine⟨?_,rfl⟩;simp_all [single])
 ·have hd:cX s (i+1)=0:=by unfold cX;rw[if_neg (by simpa using hn)]
  have e:eF s i=if single (bt s i) then 1 else if bt s i=38∨bt s i=124 then (if 0=bt s i then 2 else 0) else
   if bt s i=61∨bt s i=33∨bt s i=60∨bt s i=62 then 1 else 0:=by unfold eF;rw[hd];simp
  rw[e]
  generalize bt s i=c
  clear e hd hn
  repeat' (first | (with_reducible apply And.intro) | (with_reducible intro h))
  all_goals (refine⟨?_,rfl⟩;simp_all [single])
theorem jI(s:ByteArray)(i:Int):0≤eF s i∧eF s i≤2:=by
 unfold eF;simp only;repeat' split
 all_goals decide
theorem nv{s:ByteArray}{i:Int}(h:i<(s.size:Int)):i+eF s i≤s.size:=by
 have hb:cX s (i+1)≠0→i+1<(s.size:Int):=fun hne=>by
  unfold cX at hne;split at hne
  ·assumption
  ·exact absurd rfl hne
 unfold eF;simp only
 split
 ·omega
 ·split
  ·rename_i hc;split
   ·rename_i hd;have:=hb (by omega);omega
   ·omega
  ·split
   ·split
    ·rename_i hd;have:=hb (by omega);omega
    ·omega
   ·omega
def BM(c:Int):List Value:=[.int .u8 c]
def bytesOf(s:ByteArray):List Int:=s.data.toList.map fun b=>(b.toNat:Int)
theorem re{s:ByteArray}{k:Nat}(h:k<s.size):(bytesOf s)[k]? = some (bt s k):=by
 have h':k<s.data.size:=h
 have h2:s[k]? = some s[k]:=by simp[h]
 have h3:s.data.toList[k]? = some s[k]:=by
  have:s.data.toList[k]? = some s.data[k]:=by simp[h']
  rw[this];rfl
 unfold bytesOf bt
 rw[List.getElem?_map,Int.toNat_natCast,h2,h3]
 rfl
theorem fO{s:ByteArray}{i j:Int}(h0:0≤i)(h1:i≤j)(h2:j≤s.size):((cut s i j).size:Int)=j-i:=by
 unfold cut;rw[ByteArray.size_extract];omega
theorem mL{s:ByteArray}{i j k:Int}(h0:0≤i)(hk:0≤k)(h1:i+k<j)(h2:j≤s.size):bt (cut s i j) k=bt s (i+k):=by
 have hsz:=fO (s:=s) (i:=i) (j:=j) h0 (by omega) h2
 unfold bt
 have e1:(cut s i j)[k.toNat]? = s[(i+k).toNat]?:=by
  have hk':k.toNat<(s.extract i.toNat j.toNat).size:=by unfold cut at hsz;omega
  have hi':(i+k).toNat<s.size:=by omega
  have a1:(s.extract i.toNat j.toNat)[k.toNat]? = some (s.extract i.toNat j.toNat)[k.toNat]:=by simp[hk']
  have a2:s[(i+k).toNat]? = some s[(i+k).toNat]:=by simp[hi']
  show (s.extract i.toNat j.toNat)[k.toNat]? = _
  rw[a1,a2,ByteArray.getElem_extract]
  congr 2
  omega
 rw[e1]
theorem Ay(t:ByteArray)(I:cS)(F:cR):dO P (Go.convert 9 79 (.string t)) I F fun v I' G =>
  ∃(b c:Nat),v=.slice (some ⟨b,0,none⟩) t.size c∧Sl I' 1 BM (some ⟨b,0,none⟩) t.size (bytesOf t)∧G=F:=by
 intro w hw
 have hrun:=Lib.run_convert_string_bytes (P:=P) w 9 79 5 t (u:=.string) (by kernel_rfl) (by kernel_rfl) (by kernel_rfl)
 have hheap:(Lib.bytesWorld w 5 t).heap=w.heap.push (.cells (Lib.bytesCells w 5 t) 5 ((Lib.bytesCells w 5 t).size,(Lib.bytesCells w 5 t).size+1)):=by
  apply Array.ext_getElem?
  intro j
  rw[Array.getElem?_push]
  rcases Nat.lt_trichotomy j w.heap.size with h | h | h
  ·rw[if_neg (by omega),Lib.bytesWorld_at_old w 5 t j h]
  ·subst h;rw[if_pos rfl,Lib.bytesWorld_at_new]
  ·rw[if_neg (by omega),Array.getElem?_eq_none (by rw[Lib.bytesWorld_size];omega),Array.getElem?_eq_none (by omega)]
 obtain⟨hle,hsat⟩:=((hw.alloc (.cells (Lib.bytesCells w 5 t) 5 ((Lib.bytesCells w 5 t).size,(Lib.bytesCells w 5 t).size+1))).kR)
 refine⟨_,_,_,F,hrun,hle,hsat.of_heap hheap ⟨rfl,rfl⟩,w.heap.size,_,rfl, ?_,rfl⟩
 have hl:t.size=(bytesOf t).length:=by unfold bytesOf;simp
 rw[hl]
 refine Sl.pL (z:=1) (f:=BM) (fun _=>rfl) (cS.po _ _ _) fun k hk=>?_
 have hfl:(bytesOf t).flatMap BM=(bytesOf t).map fun c=>Value.int .u8 c:=by
  induction bytesOf t with
  | nil=>rfl
  | cons x l ih=>simp[BM,ih]
 rw[hfl] at hk ⊢
 have hk':k<t.data.size:=by simpa[bytesOf] using hk
 have hk2:k<t.size:=hk'
 simp[Lib.bytesCells,Array.getElem?_append,hk',hk2,bytesOf,Function.comp_def]
theorem tdiv_le{a d:Int}(hd:0≤d)(ha:d≤9):IntKind.wrap .i64 (Int.tdiv (IntKind.wrap .i64 (9223372036854775807-d)) 10)=(9223372036854775807-d) / 10:=by
 rw[gU (n:=9223372036854775807-d) (by omega),Int.tdiv_eq_ediv_of_nonneg (by omega),gU (by omega)]
theorem BN{c:Int}(h:dh c=true):IntKind.wrap .i64 (IntKind.wrap .u8 (c-48))=c-48∧48≤c∧c≤57:=by
 simp only[dh,Bool.and_eq_true,decide_eq_true_eq] at h
 rw[w8 (by omega),gU (by omega)]
 exact⟨rfl,h⟩
theorem xy{p:Int→Bool}{s:ByteArray}{i k:Int}(h1:i≤k)(h2:k<dA p s i)(h3:i≤(s.size:Int)):p (bt s k)=true∧dA p s k=dA p s i:=by
 obtain⟨n,hn⟩:∃n:Nat,n=(k-i).toNat:=⟨_,rfl⟩
 have hle:=eP (p:=p) (s:=s) h3
 induction n generalizing i with
 | zero =>
   have:i=k:=by omega
   subst this
   rw[dK (by omega)] at h2
   split at h2
   ·rename_i hp;exact⟨hp,rfl⟩
   ·omega
 | succ n ih =>
   have hr:=dK (p:=p) (s:=s) (i:=i) (by omega)
   split at hr
   ·rw[hr] at h2 ⊢
    exact ih (by omega) h2 (by omega) (by omega) (eP (by omega))
   ·omega
end Go.Lx
