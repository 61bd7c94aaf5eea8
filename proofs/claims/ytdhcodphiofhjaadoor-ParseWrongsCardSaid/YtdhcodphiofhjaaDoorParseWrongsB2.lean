import Derived.Test.YtdhcodphiofhjaaDoorParseWrongsB1
set_option linter.unusedVariables false
set_option linter.unusedSimpArgs false
set_option linter.unusedSectionVars false
set_option maxRecDepth 100000
namespace Go.Vc
def lU(o:Oper):Bool:=match o.op with
 | .move _ | .assign _ | .pick .. | .fieldAddr .. | .indexAddr .. | .extract .. | .field .. | .nilCheck _ | .binOp .. | .unOp .. | .makeFunc .. | .index .. | .slice .. | .makeInterface .. | .build .. | .convert .. => true
 | .call c=>match c.callee with
   | .builtin .len=>true
   | .builtin .cap=>true
   | _=>false
 | _=>false
def zX:List (Nat×List Nat)→Nat→Option (List Nat)
 | [],_=>none
 | (r,l)::t,n=>cond (r==n) (some l) (zX t n)
def zY:List (Nat×Nat×Nat×List Nat×List Nat)→Nat→Option (Nat×Nat×List Nat×List Nat)
 | [],_=>none
 | (r,x)::t,n=>cond (r==n) (some x) (zY t n)
def zZ:List (Nat×List Nat×Ot)→Nat→Option (List Nat×Ot)
 | [],_=>none
 | (r,x)::t,n=>cond (r==n) (some x) (zZ t n)
def z0:List (Nat×List Nat×Nat)→Nat→Option (List Nat×Nat)
 | [],_=>none
 | (r,x)::t,n=>cond (r==n) (some x) (z0 t n)
def z1:List (Nat×Nat)→Nat→Option Nat
 | [],_=>none
 | (r,l)::t,n=>cond (r==n) (some l) (z1 t n)
def cS.no(I:cS):cS:=⟨fun _=>none,I.os,I.out⟩
theorem q0(I:cS)(w:World):Reads I.no [] w:=by
 intro ad cs h j hj
 obtain⟨_,cells,t,fz,h1 | h1,_⟩:=h
 ·cases h1
 ·cases h1
def qe(l:List Nat):Nat→List (Option AV)→List (Option AV)
 | _,[]=>[]
 | t,x::r=>cond (l.contains t) none x::qe l (t+1) r
def S.mM(σ:S)(ops:Array Oper):S:={ σ with tm:=qe (dh ops.toList) 0 σ.tm }
def wo(o:Oper)(Kp:List PanicEntry→S→cS→cR→Prop):List PanicEntry→S→cS→cR→Prop:=fun ch σ I F=>cond (o8 o.op||sf o.op) False (Kp ch σ I F)
def fy(P:Program)(A:kg)(rid:Nat)(ops:Array Oper)(Kp:List PanicEntry→S→cS→cR→Prop):List Nat→S→cS→cR→(S→cS→cR→Prop)→Prop
 | [],σ,I,F,K=>K σ I F
 | i::r,σ,I,F,K=>match ops[i]? with
   | none=>False
   | some o=>match want ops σ o with
     | some true=>cond (lU o)
        (jd P A.shp o σ I.no [] (List.range σ.own.length) fun av=>kD A rid i o.dst av σ fun σ'=>fy P A rid ops Kp r σ' I F K)
        (yp P A rid i o σ I F (fun σ' I' F'=>fy P A rid ops Kp r σ' I' F' K) (wo o Kp))
     | some false=>fy P A rid ops Kp r (σ.put o.dst (some (.a (.v undef)))) I F K
     | none=>False
def hY(P:Program)(A:kg)(rid:Nat)(ops:Array Oper)(Kp:List PanicEntry→S→cS→cR→Prop)(os:List Nat)(I0:cS)(n0:Nat):List Nat→S→cS→cR→(S→cS→cR→Prop)→Prop
 | [],σ,I,F,K=>K σ I F
 | i::r,σ,I,F,K=>match ops[i]? with
   | none=>False
   | some o=>match want ops σ o with
     | some true=>cond (os.contains i)
        (jd P A.shp o σ I0 [] ((List.range σ.own.length).drop n0) fun av=>kD A rid i o.dst av σ fun σ'=>hY P A rid ops Kp os I0 n0 r σ' I F K)
        (cond (lU o)
          (jd P A.shp o σ I.no [] (List.range σ.own.length) fun av=>kD A rid i o.dst av σ fun σ'=>hY P A rid ops Kp os I0 n0 r σ' I F K)
          (yp P A rid i o σ I F (fun σ' I' F'=>hY P A rid ops Kp os I0 n0 r σ' I' F' K) (wo o Kp)))
     | some false=>hY P A rid ops Kp os I0 n0 r (σ.put o.dst (some (.a (.v undef)))) I F K
     | none=>False
def od(P:Program)(A:kg)(rid:Nat)(ops:Array Oper)(Kp:List PanicEntry→S→cS→cR→Prop)(os:List Nat)(I0:cS)(n0:Nat)(N:List Nat→S→cS→cR→Prop):Ot→S→cS→cR→Prop
 | .fin pre post,σ,I,F=>hY P A rid ops Kp os I0 n0 pre σ I F (N post)
 | .fork pre i j x y,σ,I,F=>hY P A rid ops Kp os I0 n0 pre σ I F fun σ' I' F' =>
    hY P A rid ops Kp os I0 n0 [i] σ' I' F' (fun s J G=>od P A rid ops Kp os I0 n0 N x s J G)∧hY P A rid ops Kp os I0 n0 [j] σ' I' F' (fun s J G=>od P A rid ops Kp os I0 n0 N y s J G)
section
variable {P:Program} {A:kg} {rid:Nat} {ops:Array Oper}
theorem dG{ro:Option Nat}(hP:∀f,A.good f=true→di P f){Kp:List PanicEntry→S→cS→cR→Prop}{K:S→cS→cR→Prop}{Q:Exit→Act→World→Prop}(hops:∀(i:Nat) (o:Oper),ops[i]? = some o→eS o.op=true) :
  ∀(l:List Nat) (σ:S) (I:cS) (F:cR) (a:Act) (w:World),fy P A rid ops Kp l σ I F K→Rel σ I F a w →
   (∀σ' I' F' a' w',Rel σ' I' F' a' w'→cS.le I I'→K σ' I' F'→dc (dh ops.toList) σ a σ' a'→Q .normal a' w') →
   (∀ch σ' I' F' a' w',Rel σ' I' F' a' w'→cS.le I I'→Kp ch σ' I' F'→dc (dh ops.toList) σ a σ' a'→Q (.panic ch) a' w') →
   na P ro ops lU Q l a w
 | [],σ,I,F,a,w,h,hr,hN,hX=>hN σ I F a w hr (cS.le_refl I) h (dc.refl _ _ _)
 | i::r,σ,I,F,a,w,h,hr,hN,hX=>by
   simp only[fy] at h
   split at h
   ·exact h.elim
   ·rename_i o ho
    have hd:∀t,o.dst=some t→t∈dh ops.toList:=fun t ht=>by
     have hm:o∈ops.toList:=by have:=Array.mem_of_getElem? ho;simpa using this
     exact List.mem_filterMap.2 ⟨o,hm,ht⟩
    refine⟨o,ho, ?_⟩
    split at h
    ·rename_i hw
     rw[if_pos (eD hw hr.t)]
     cases hp:lU o with
     | true =>
       rw[if_pos rfl]
       rw[hp,cond_true] at h
       obtain⟨av,hk,hy⟩:=hM h
       obtain⟨av',hg,hwf',hk⟩:=iM hk
       have hwf:=hy.wf σ.own hr.wft hr.wfo
       refine⟨av.g,fun w'=>hy.run a w' hr.t hr.wft (fun j b hb hh=>?_) (q0 I w'), ?_⟩
       ·have:j<σ.own.length:=(List.getElem?_eq_some_iff.1 hb).1
        have hc:(List.range σ.own.length).contains j=true:=by simpa using this
        rw[hc] at hh;cases hh
       ·have hr':Rel (σ.put o.dst (some av')) I F (a.put o.dst av.g) w:=hr.put o.dst hg (hwf' hwf)
        have hkp:dc (dh ops.toList) σ a (σ.put o.dst (some av')) (a.put o.dst av.g):=dc.put (de.put _ _ _) _ _ _ hd
        exact dG hP hops r _ I F _ w hk hr' (fun σ2 I2 F2 a2 w2 g1 g2 g3 g4=>hN σ2 I2 F2 a2 w2 g1 g2 g3 (hkp.trans g4)) fun ch σ2 I2 F2 a2 w2 g1 g2 g3 g4=>hX ch σ2 I2 F2 a2 w2 g1 g2 g3 (hkp.trans g4)
     | false =>
       rw[if_neg (by simp)]
       rw[hp,cond_false] at h
       have hh:=lZ (Q:=Qo o Q) hP h hr fun ch w' σ' I' F' h1 h2 h3 h4=>by
        unfold wo at h3
        cases hb:(o8 o.op||sf o.op) with
        | true=>rw[hb] at h3;exact h3.elim
        | false=>rw[hb] at h3;exact⟨hb,hX ch σ' I' F' a w' h1 h2 h3 ⟨h4,fun _ _=>rfl,rfl⟩⟩
       refine ni (.inr (nX (hops i o ho))) ?_
       unfold v8 at hh ⊢
       revert hh
       generalize (execOp a.eval o).run P w=res
       intro hh
       have step:∀a' w',gb o σ I a (fun σ' I' F'=>fy P A rid ops Kp r σ' I' F' K) a' w'→na P ro ops lU Q r a' w':=by
        intro a' w' ⟨σ',I',F',h1,h2,h3,h4,v,h5⟩
        have hk:dc (dh ops.toList) σ a σ' a':=dc.wh h4 _ _ _ hd h5
        exact dG hP hops r σ' I' F' _ w' h3 h1
         (fun σ2 I2 F2 a2 w2 g1 g2 g3 g4=>hN σ2 I2 F2 a2 w2 g1 (cS.le_trans h2 g2) g3 (hk.trans g4))
         (fun ch σ2 I2 F2 a2 w2 g1 g2 g3 g4=>hX ch σ2 I2 F2 a2 w2 g1 (cS.le_trans h2 g2) g3 (hk.trans g4))
       cases res with
       | ok n w' =>
         cases n<;>simp only[Oper.uponIn] at hh ⊢<;>first | exact step _ _ hh | exact hh.elim | skip
         ·refine⟨hh.1,hh.2.mono fun e w'' hq=>?_⟩
          cases e with
          | returned v=>exact step _ _ hq
          | panicked ch=>exact hq
          | outgrown=>exact hq
         ·refine⟨hh.1,hh.2.mono fun e w'' hq=>?_⟩
          cases e with
          | returned v=>exact step _ _ hq
          | panicked ch=>exact hq
          | outgrown=>exact hq
         ·exact⟨hh.1,hh.2.mono fun v w'' hq=>step _ _ hq⟩
       | halt x w'=>cases x<;>simp only[Oper.uponIn] at hh ⊢<;>first | exact hh | exact hh.elim
    ·rename_i hw
     rw[if_neg (by rw[eD hw hr.t];simp)]
     have hk:dc (dh ops.toList) σ a (σ.put o.dst (some (.a (.v undef)))) (a.put o.dst undef):=dc.put (de.put _ _ _) _ _ _ hd
     exact dG hP hops r _ I F _ w h (hr.put o.dst (av:=.a (.v undef)) rfl trivial)
      (fun σ2 I2 F2 a2 w2 g1 g2 g3 g4=>hN σ2 I2 F2 a2 w2 g1 g2 g3 (hk.trans g4))
      (fun ch σ2 I2 F2 a2 w2 g1 g2 g3 g4=>hX ch σ2 I2 F2 a2 w2 g1 g2 g3 (hk.trans g4))
    ·exact h.elim
def yt(ops:Array Oper)(a a':Act):Prop:=a'.tmps.size=a.tmps.size∧∀t,t∉dh ops.toList→a'.tmps[t]? = a.tmps[t]?
theorem yt.back{a a':Act}{t:Nat}{v:Value}(ht:t∈dh ops.toList)(h:yt ops a (a'.put (some t) v)):yt ops a a':=by
 have h1:de (⟨[],[],[]⟩:S) ⟨[],[],[]⟩:=de.refl _
 have hk:dc (dh ops.toList) (⟨[],[],[]⟩:S) a' ⟨[],[],[]⟩ (a'.put (some t) v):=dc.wh h1 (some t) v _ (fun x hx=>by cases hx;exact ht) rfl
 exact⟨hk.size.symm.trans h.1,fun x hx=>(hk.tm x hx).symm.trans (h.2 x hx)⟩
def Pn.at(ops:Array Oper)(a:Act)(Q:Exit→Act→World→Prop):Pn ops :=
 ⟨fun c a' w'=>yt ops a a'∧∀a'',yt ops a a''→a''.defers=a'.defers→Q (.panic c) a'' w',fun c a' t v w ht h=>⟨h.1.back ht,fun a'' h1 h2=>h.2 a'' h1 (h2.trans rfl)⟩⟩
theorem oe(l:List Nat):∀(r:List (Option AV)) (t0 t:Nat) (av:AV),(qe l t0 r)[t]? = some (some av)→l.contains (t0+t)=false∧r[t]? = some (some av)
 | [],t0,t,av,h=>by simp[qe] at h
 | x::r,t0,0,av,h=>by
   simp only[qe,List.getElem?_cons_zero,Option.some.injEq] at h
   cases hc:l.contains t0 with
   | true=>rw[hc] at h;cases h
   | false=>rw[hc] at h;exact⟨by first | exact hc | rfl,by rw[List.getElem?_cons_zero];exact congrArg some h⟩
 | x::r,t0,t+1,av,h=>by
   simp only[qe,List.getElem?_cons_succ] at h
   have:=oe l r (t0+1) t av h
   rw[show t0+1+t=t0+(t+1) by omega] at this
   exact⟨this.1,by rw[List.getElem?_cons_succ];exact this.2⟩
theorem q8(l:List Nat):∀(r:List (Option AV)) (t0:Nat),(qe l t0 r).length=r.length
 | [],_=>rfl
 | x::r,t0=>by simp[qe,q8 l r]
theorem Pn.ok{Kp:List PanicEntry→S→cS→cR→Prop}{Q:Exit→Act→World→Prop}{σ σ':S}{I I':cS}{F':cR}{a a':Act}{w':World}{ch:List PanicEntry}(hX:∀ch σ' I' F' a' w',Rel σ' I' F' a' w'→cS.le I I'→Kp ch σ' I' F'→dc (dh ops.toList) σ a σ' a'→Q (.panic ch) a' w')
  (h1:Rel σ' I' F' a' w') (h2:cS.le I I') (h3:Kp ch (σ'.mM ops) I' F') (h4:dc (dh ops.toList) σ a σ' a'):(Pn.at ops a Q).f ch a' w':=by
 refine⟨⟨h4.size,h4.tm⟩,fun a'' g1 g2=>hX ch (σ'.mM ops) I' F' a'' w' ⟨?_,fun t av ht=>?_, ?_,fun t av ht=>?_,h1.wfo,h1.sat⟩ h2 h3 ⟨h4.own,g1.2,g1.1⟩⟩
 ·show (qe _ 0 σ'.tm).length=_
  rw[q8,h1.size,h4.size,g1.1]
 ·have:=oe _ _ _ _ _ ht
  rw[Nat.zero_add] at this
  have hn:t∉dh ops.toList:=fun hm=>by
   have hc:(dh ops.toList).contains t=true:=by simpa using hm
   rw[hc] at this;cases this.1
  rw[g1.2 t hn,←h4.tm t hn];exact h1.tm t av this.2
 ·rw[g2];exact h1.defers
 ·exact h1.wft t av (oe _ _ _ _ _ ht).2
theorem sH{ro:Option Nat}(hP:∀f,A.good f=true→di P f){id:Nat}{l:List Nat}{σ:S}{I:cS}{F:cR}{K:S→cS→cR→Prop}{Kp:List PanicEntry→S→cS→cR→Prop}{a:Act}{w:World}(hm:P.follows .mixedOrders=true)
  (hB:yr ops lU l=true) (h:fy P A rid ops (fun ch σ' I' F'=>Kp ch (σ'.mM ops) I' F') l σ I F K) (hr:Rel σ I F a w) {Q:Exit→Act→World→Prop}
  (hQ:∀σ' I' F' a' w',Rel σ' I' F' a' w'→cS.le I I'→K σ' I' F'→dc (dh ops.toList) σ a σ' a'→Q .normal a' w')
  (hX:∀ch σ' I' F' a' w',Rel σ' I' F' a' w'→cS.le I I'→Kp ch σ' I' F'→dc (dh ops.toList) σ a σ' a'→Q (.panic ch) a' w'):(Code.region id ops true).wpIn (Fw ro) 0 P Q a w:=by
 have hops:∀(i:Nat) (o:Oper),ops[i]? = some o→eS o.op=true:=fun i o ho=>by
  have hm:o∈ops.toList:=by have:=Array.mem_of_getElem? ho;simpa using this
  simp only[yr,Bool.and_eq_true] at hB
  have:=List.all_eq_true.1 hB.2 o hm
  simp only[Bool.and_eq_true] at this
  exact this.1
 have hr':Rel σ I F a { w with drawn:=w.drawn+1 }:=hr.s.rel (hr.sat.of_heap rfl ⟨rfl,rfl⟩)
 have hg:=dG (ro:=ro) (Q:=Qx (Pn.at ops a Q) fun a w=>Q .normal a w) hP hops l σ I F a _ h hr' (fun σ' I' F' a' w' h1 h2 h3 h4=>hQ σ' I' F' a' w' h1 h2 h3 h4) fun ch σ' I' F' a' w' h1 h2 h3 h4=>Pn.ok hX h1 h2 h3 h4
 exact wpIn_mono (wpIn_region_any hm (vg (il _ _) hB hg)) fun e a' w' hq=>by
  cases e with
  | normal=>exact hq
  | panic ch=>exact hq.2 a' hq.1 rfl
  | _=>exact hq.elim
theorem q9{ro:Option Nat}(hP:∀f,A.good f=true→di P f){id:Nat}{l:List Nat}{p q:Nat}{lA lB:List Nat}{σ:S}{I:cS}{F:cR}{K:S→cS→cR→Prop}{Kp:List PanicEntry→S→cS→cR→Prop}{a:Act}{w:World}(hm:P.follows .mixedOrders=true)
  (hB:vh ops lU l p q lA lB=true) (h:fy P A rid ops (fun ch σ' I' F'=>Kp ch (σ'.mM ops) I' F') l σ I F fun σ' I' F'=>fy P A rid ops (fun ch σ' I' F'=>Kp ch (σ'.mM ops) I' F') (p::lA) σ' I' F' K∧fy P A rid ops (fun ch σ' I' F'=>Kp ch (σ'.mM ops) I' F') (q::lB) σ' I' F' K) (hr:Rel σ I F a w) {Q:Exit→Act→World→Prop}
  (hQ:∀σ' I' F' a' w',Rel σ' I' F' a' w'→cS.le I I'→K σ' I' F'→dc (dh ops.toList) σ a σ' a'→Q .normal a' w')
  (hX:∀ch σ' I' F' a' w',Rel σ' I' F' a' w'→cS.le I I'→Kp ch σ' I' F'→dc (dh ops.toList) σ a σ' a'→Q (.panic ch) a' w'):(Code.region id ops true).wpIn (Fw ro) 0 P Q a w:=by
 have hops:∀(i:Nat) (o:Oper),ops[i]? = some o→eS o.op=true:=fun i o ho=>by
  have hm:o∈ops.toList:=by have:=Array.mem_of_getElem? ho;simpa using this
  simp only[vh,Bool.and_eq_true] at hB
  have:=List.all_eq_true.1 hB.2 o hm
  simp only[Bool.and_eq_true] at this
  exact this.1
 have hr':Rel σ I F a { w with drawn:=w.drawn+1 }:=hr.s.rel (hr.sat.of_heap rfl ⟨rfl,rfl⟩)
 have hg:=dG (ro:=ro) (Q:=Qx (Pn.at ops a Q) (xz P ro ops lU (Pn.at ops a Q) (fun a w=>Q .normal a w) p q lA lB)) hP hops l σ I F a _ h hr' (fun σ' I' F' a' w' h1 h2 h3 h4 =>
  ⟨dG (ro:=ro) (Q:=Qx (Pn.at ops a Q) fun a w=>Q .normal a w) hP hops (p::lA) σ' I' F' a' w' h3.1 h1 (fun σ2 I2 F2 a2 w2 g1 g2 g3 g4=>hQ σ2 I2 F2 a2 w2 g1 (cS.le_trans h2 g2) g3 (h4.trans g4)) fun ch σ2 I2 F2 a2 w2 g1 g2 g3 g4=>Pn.ok hX g1 (cS.le_trans h2 g2) g3 (h4.trans g4),
    dG (ro:=ro) (Q:=Qx (Pn.at ops a Q) fun a w=>Q .normal a w) hP hops (q::lB) σ' I' F' a' w' h3.2 h1 (fun σ2 I2 F2 a2 w2 g1 g2 g3 g4=>hQ σ2 I2 F2 a2 w2 g1 (cS.le_trans h2 g2) g3 (h4.trans g4)) fun ch σ2 I2 F2 a2 w2 g1 g2 g3 g4=>Pn.ok hX g1 (cS.le_trans h2 g2) g3 (h4.trans g4)⟩)
  fun ch σ' I' F' a' w' h1 h2 h3 h4=>Pn.ok hX h1 h2 h3 h4
 exact wpIn_mono (wpIn_region_any hm (ur hB hg)) fun e a' w' hq=>by
  cases e with
  | normal=>exact hq
  | panic ch=>exact hq.2 a' hq.1 rfl
  | _=>exact hq.elim
def pe(own0:List dr)(I0:cS)(w:World):Prop:=(∀(j:Nat) (b:dr),own0[j]? = some b→w.heap[b.num]? = some b.obj)∧∀(b:Nat) (o:Obj),I0 b=some o→w.heap[b]? = some o
def pf(own0:List dr)(σ:S):Prop:=∀(j:Nat) (b:dr),own0[j]? = some b→∃b':dr,σ.own[j]? = some b'∧b'.num=b.num∧b'.elem=b.elem∧b'.cells=b.cells∧b'.ro=true
theorem pf.keep{own0:List dr}{σ σ':S}(h:pf own0 σ)(k:de σ σ'):pf own0 σ':=fun j b hb=>by
 obtain⟨b',h1,h2,h3,h4,h5⟩:=h j b hb
 obtain⟨b2,g1,g2,g3,g4⟩:=k j b' h1
 obtain⟨g5,g6⟩:=g4 h5
 exact⟨b2,g1,g2.trans h2,g3.trans h3,g6.trans h4,g5⟩
theorem pf.obj{own0:List dr}{σ:S}(h:pf own0 σ){j:Nat}{b b':dr}(hb:own0[j]? = some b)(hb':σ.own[j]? = some b'):b'.num=b.num∧b'.obj=b.obj:=by
 obtain⟨b2,h1,h2,h3,h4,h5⟩:=h j b hb
 rw[hb'] at h1
 obtain rfl:=Option.some.inj h1
 exact⟨h2,by unfold dr.obj;rw[h3,h4]⟩
theorem pf.inv{own0:List dr}{σ:S}{I0 I:cS}{F:cR}{a:Act}{w:World}(h:pf own0 σ)(hr:Rel σ I F a w)(hl:cS.le I0 I):pe own0 I0 w:=⟨fun j b hb=>by
 obtain⟨b',h1,_⟩:=h j b hb
 obtain⟨e1,e2⟩:=h.obj hb h1
 rw[←e1,←e2]
 exact hr.sat.own _ _ (List.mem_append_left _ (List.mem_map.2 ⟨b',List.mem_of_getElem? h1,rfl⟩)),fun b o ho=>hr.sat.imm _ _ (hl.at ho)⟩
theorem uv{own0:List dr}{I0:cS}{w:World}(h:pe own0 I0 w):Reads I0 [] w:=by
 intro ad cs ⟨hsp,cells,e,fz,ho,hc⟩ j hj
 have hb:w.heap[ad.block]? = some (.cells cells e fz):=ho.elim (h.2 _ _) fun h=>by cases h
 unfold World.cell? Addr.add
 by_cases h0:j=0
 ·subst h0;simp[hb,hsp];have:=hc 0 hj;simpa using this
 ·simp[h0,hb];exact hc j hj
theorem dH{ro:Option Nat}(hP:∀f,A.good f=true→di P f){os:List Nat}{own0:List dr}{I0:cS}{Kp:List PanicEntry→S→cS→cR→Prop}{K:S→cS→cR→Prop}{N:Pn ops}{R:Act→World→Prop}(hops:∀(i:Nat) (o:Oper),ops[i]? = some o→eS o.op=true) :
  ∀(l:List Nat) (σ:S) (I:cS) (F:cR) (a:Act) (w:World),hY P A rid ops Kp os I0 own0.length l σ I F K→Rel σ I F a w→pf own0 σ→cS.le I0 I →
   (∀σ' I' F' a' w',Rel σ' I' F' a' w'→cS.le I I'→K σ' I' F'→dc (dh ops.toList) σ a σ' a'→R a' w') →
   (∀ch σ' I' F' a' w',Rel σ' I' F' a' w'→cS.le I I'→Kp ch σ' I' F'→dc (dh ops.toList) σ a σ' a'→N.f ch a' w') →
   qc P ro ops lU N R (pe own0 I0) os l a w
 | [],σ,I,F,a,w,h,hr,hH,hl,hN,hX=>hN σ I F a w hr (cS.le_refl I) h (dc.refl _ _ _)
 | i::r,σ,I,F,a,w,h,hr,hH,hl,hN,hX=>by
   simp only[hY] at h
   split at h
   ·exact h.elim
   ·rename_i o ho
    have hd:∀t,o.dst=some t→t∈dh ops.toList:=fun t ht=>List.mem_filterMap.2 ⟨o,by have:=Array.mem_of_getElem? ho;simpa using this,ht⟩
    show eF P ro ops lU N R (pe own0 I0) os i (qc P ro ops lU N R (pe own0 I0) os r) a w
    unfold eF
    by_cases hio:i∈os
    ·rw[if_pos hio]
     refine⟨o,ho, ?_⟩
     split at h
     ·rename_i hw
      rw[show os.contains i=true by simpa using hio,cond_true] at h
      obtain⟨av,hk,hy⟩:=hM h
      obtain⟨av',hg,hwf',hk⟩:=iM hk
      have hwf:=hy.wf σ.own hr.wft hr.wfo
      refine⟨av.g,⟨fun _ w' hI=>hy.run a w' hr.t hr.wft (fun j b hb hh=>?_) (uv hI),fun hn=>absurd (eD hw hr.t) hn⟩, ?_⟩
      ·have hj:j<σ.own.length:=(List.getElem?_eq_some_iff.1 hb).1
       have hj0:j<own0.length:=by
        rcases Nat.lt_or_ge j own0.length with h | h
        ·exact h
        ·have:((List.range σ.own.length).drop own0.length).contains j=true:=by
          simp only[List.contains_iff_mem]
          refine List.mem_iff_getElem?.2 ⟨j-own0.length, ?_⟩
          rw[List.getElem?_drop,show own0.length+(j-own0.length)=j by omega]
          simp[hj]
         rw[this] at hh;cases hh
       obtain⟨e1,e2⟩:=hH.obj (List.getElem?_eq_getElem hj0) hb
       rw[e1,e2]
       exact hI.1 j _ (List.getElem?_eq_getElem hj0)
      ·have hr':Rel (σ.put o.dst (some av')) I F (a.put o.dst av.g) w:=hr.put o.dst hg (hwf' hwf)
       have hkp:dc (dh ops.toList) σ a (σ.put o.dst (some av')) (a.put o.dst av.g):=dc.put (de.put _ _ _) _ _ _ hd
       exact dH hP hops r _ I F _ w hk hr' (hH.keep hkp.own) hl (fun σ2 I2 F2 a2 w2 g1 g2 g3 g4=>hN σ2 I2 F2 a2 w2 g1 g2 g3 (hkp.trans g4)) fun ch σ2 I2 F2 a2 w2 g1 g2 g3 g4=>hX ch σ2 I2 F2 a2 w2 g1 g2 g3 (hkp.trans g4)
     ·rename_i hw
      have hk:dc (dh ops.toList) σ a (σ.put o.dst (some (.a (.v undef)))) (a.put o.dst undef):=dc.put (de.put _ _ _) _ _ _ hd
      refine⟨undef,⟨fun hn=>by (rw[eD hw hr.t] at hn;cases hn),fun _=>rfl⟩, ?_⟩
      exact dH hP hops r _ I F _ w h (hr.put o.dst (av:=.a (.v undef)) rfl trivial) (hH.keep hk.own) hl
       (fun σ2 I2 F2 a2 w2 g1 g2 g3 g4=>hN σ2 I2 F2 a2 w2 g1 g2 g3 (hk.trans g4)) (fun ch σ2 I2 F2 a2 w2 g1 g2 g3 g4=>hX ch σ2 I2 F2 a2 w2 g1 g2 g3 (hk.trans g4))
     ·exact h.elim
    ·rw[if_neg hio]
     refine⟨o,ho, ?_⟩
     split at h
     ·rename_i hw
      rw[if_pos (eD hw hr.t)]
      rw[show os.contains i=false by simpa using hio,cond_false] at h
      cases hp:lU o with
      | true =>
        rw[if_pos rfl]
        rw[hp,cond_true] at h
        obtain⟨av,hk,hy⟩:=hM h
        obtain⟨av',hg,hwf',hk⟩:=iM hk
        have hwf:=hy.wf σ.own hr.wft hr.wfo
        refine⟨av.g,fun w'=>hy.run a w' hr.t hr.wft (fun j b hb hh=>?_) (q0 I w'), ?_⟩
        ·have:j<σ.own.length:=(List.getElem?_eq_some_iff.1 hb).1
         have hc:(List.range σ.own.length).contains j=true:=by simpa using this
         rw[hc] at hh;cases hh
        ·have hr':Rel (σ.put o.dst (some av')) I F (a.put o.dst av.g) w:=hr.put o.dst hg (hwf' hwf)
         have hkp:dc (dh ops.toList) σ a (σ.put o.dst (some av')) (a.put o.dst av.g):=dc.put (de.put _ _ _) _ _ _ hd
         have hH':=hH.keep hkp.own
         exact⟨hH'.inv hr' hl,dH hP hops r _ I F _ w hk hr' hH' hl (fun σ2 I2 F2 a2 w2 g1 g2 g3 g4=>hN σ2 I2 F2 a2 w2 g1 g2 g3 (hkp.trans g4)) fun ch σ2 I2 F2 a2 w2 g1 g2 g3 g4=>hX ch σ2 I2 F2 a2 w2 g1 g2 g3 (hkp.trans g4)⟩
      | false =>
        rw[if_neg (by simp)]
        rw[hp,cond_false] at h
        have hh:=lZ (Q:=Qo o (Qx N R)) hP h hr fun ch w' σ' I' F' h1 h2 h3 h4=>by
         unfold wo at h3
         cases hb:(o8 o.op||sf o.op) with
         | true=>rw[hb] at h3;exact h3.elim
         | false=>rw[hb] at h3;exact⟨hb,hX ch σ' I' F' a w' h1 h2 h3 ⟨h4,fun _ _=>rfl,rfl⟩⟩
        refine ni (.inr (nX (hops i o ho))) ?_
        unfold v8 at hh ⊢
        revert hh
        generalize (execOp a.eval o).run P w=res
        intro hh
        have step:∀a' w',gb o σ I a (fun σ' I' F'=>hY P A rid ops Kp os I0 own0.length r σ' I' F' K) a' w'→pe own0 I0 w'∧qc P ro ops lU N R (pe own0 I0) os r a' w':=by
         intro a' w' ⟨σ',I',F',h1,h2,h3,h4,v,h5⟩
         have hk:dc (dh ops.toList) σ a σ' a':=dc.wh h4 _ _ _ hd h5
         exact⟨(hH.keep h4).inv h1 (cS.le_trans hl h2),dH hP hops r σ' I' F' _ w' h3 h1 (hH.keep h4) (cS.le_trans hl h2)
          (fun σ2 I2 F2 a2 w2 g1 g2 g3 g4=>hN σ2 I2 F2 a2 w2 g1 (cS.le_trans h2 g2) g3 (hk.trans g4)) (fun ch σ2 I2 F2 a2 w2 g1 g2 g3 g4=>hX ch σ2 I2 F2 a2 w2 g1 (cS.le_trans h2 g2) g3 (hk.trans g4))⟩
        cases res with
        | ok n w' =>
          cases n<;>simp only[Oper.uponIn] at hh ⊢<;>first | exact step _ _ hh | exact hh.elim | skip
          ·refine⟨hh.1,hh.2.mono fun e w'' hq=>?_⟩
           cases e with
           | returned v=>exact step _ _ hq
           | panicked ch=>exact hq
           | outgrown=>exact hq
          ·refine⟨hh.1,hh.2.mono fun e w'' hq=>?_⟩
           cases e with
           | returned v=>exact step _ _ hq
           | panicked ch=>exact hq
           | outgrown=>exact hq
          ·exact⟨hh.1,hh.2.mono fun v w'' hq=>step _ _ hq⟩
        | halt x w'=>cases x<;>simp only[Oper.uponIn] at hh ⊢<;>first | exact hh | exact hh.elim
     ·rename_i hw
      rw[if_neg (by rw[eD hw hr.t];simp)]
      have hk:dc (dh ops.toList) σ a (σ.put o.dst (some (.a (.v undef)))) (a.put o.dst undef):=dc.put (de.put _ _ _) _ _ _ hd
      have hr':=hr.put o.dst (av:=.a (.v undef)) rfl trivial
      exact⟨(hH.keep hk.own).inv hr' hl,dH hP hops r _ I F _ w h hr' (hH.keep hk.own) hl             (fun σ2 I2 F2 a2 w2 g1 g2 g3 g4=>hN σ2 I2 F2 a2 w2 g1 g2 g3 (hk.trans g4)) (fun ch σ2 I2 F2 a2 w2 g1 g2 g3 g4=>hX ch σ2 I2 F2 a2 w2 g1 g2 g3 (hk.trans g4))⟩
     ·exact h.elim
theorem rb{ro:Option Nat}(hP:∀f,A.good f=true→di P f){id m n:Nat}{hid:List Nat}{σ:S}{I:cS}{F:cR}{K:S→cS→cR→Prop}{Kp:List PanicEntry→S→cS→cR→Prop}{a:Act}{w:World}(hm:P.follows .mixedOrders=true)
  (hT:ll ops m=true) (hS:ops.toList.all (fun o=>eS o.op)=true) (hB:mH (ops.extract 0 m)=true)
  (h:wD P A rid (ops.extract 0 m) n hid (ops.extract 0 m).toList 0 σ I F fun σ' F'=>p7 P A rid ops (ops.toList.drop m) m σ' I F' K Kp) (hr:Rel σ I F a w) {Q:Exit→Act→World→Prop}
  (hQ:∀σ' I' F' a' w',Rel σ' I' F' a' w'→cS.le I I'→K σ' I' F'→dc (dh ops.toList) σ a σ' a'→Q .normal a' w')
  (hX:∀ch σ' I' F' a' w',Rel σ' I' F' a' w'→cS.le I I'→Kp ch σ' I' F'→dc (dh ops.toList) σ a σ' a'→Q (.panic ch) a' w'):(Code.region id ops true).wpIn (Fw ro) 0 P Q a w:=by
 have hr':Rel σ I F a { w with drawn:=w.drawn+1 }:=hr.s.rel (hr.sat.of_heap rfl ⟨rfl,rfl⟩)
 have hmm:m≤ops.size:=by
  simp only[ll,Bool.and_eq_true,decide_eq_true_eq] at hT
  exact hT.1
 have hsz:(ops.extract 0 m).size=m:=by simp;omega
 have hnd:(ops.toList.drop m).all (fun o=>nU o.op)=true:=List.all_eq_true.2 fun o ho=>by
  have:=List.all_eq_true.1 hS o (List.mem_of_mem_drop ho)
  revert this;cases o.op<;>simp[eS,nU]
 have hsub:∀t∈dh (ops.extract 0 m).toList,t∈dh ops.toList:=fun t ht=>by
  unfold dh at ht ⊢
  obtain⟨o,ho,he⟩:=List.mem_filterMap.1 ht
  refine List.mem_filterMap.2 ⟨o, ?_,he⟩
  rw[Array.toList_extract] at ho
  exact List.mem_of_mem_drop (List.mem_of_mem_take ho)
 have hsub2:∀t∈dh (ops.toList.drop m),t∈dh ops.toList:=fun t ht=>by
  unfold dh at ht ⊢
  obtain⟨o,ho,he⟩:=List.mem_filterMap.1 ht
  exact List.mem_filterMap.2 ⟨o,List.mem_of_mem_drop ho,he⟩
 have hlen:(ops.toList.drop m).length=ops.size-m:=by simp
 have heq:=wpOpsIn_eq_wpListIn (F:=Fw ro) (n:=0) (P:=P) (ops:=ops) (Q:=Q) (ops.toList.drop m) m (fun j=>by rw[List.getElem?_drop];simp)
 rw[hlen] at heq
 have hd:=nW (ro:=ro) (Q:=fun e a' w'=>e=.normal∧wpOpsIn (Fw ro) 0 P ops Q (List.range' m (ops.size-m)) a' w') hP hB h hr' fun σ' F' a' w' h1 h2 h3 =>
  ⟨rfl,by
    rw[heq]
    exact hU hP (ops.toList.drop m) m σ' I F' a' w' (.inr hnd) h2 h1 (fun σ2 I2 F2 a2 w2 g1 g2 g3 g4=>hQ σ2 I2 F2 a2 w2 g1 g2 g3 ((h3.mono hsub).trans (g4.mono hsub2)))
     (fun ch σ2 I2 F2 a2 w2 g1 g2 g3 g4=>hX ch σ2 I2 F2 a2 w2 g1 g2 g3 ((h3.mono hsub).trans (g4.mono hsub2)))⟩
 rw[hsz] at hd
 exact wpIn_region_any hm (uk hT (fun e a w hne h=>absurd h.1 hne) (fun a w h=>h.2) hd)
theorem im{ro:Option Nat}(hP:∀f,A.good f=true→di P f){os:List Nat}{own0:List dr}{I0:cS}{Kp:List PanicEntry→S→cS→cR→Prop}{M:List Nat→S→cS→cR→Prop}{N:Pn ops}{R:Act→World→Prop}(hops:∀(i:Nat) (o:Oper),ops[i]? = some o→eS o.op=true) :
  ∀(t:Ot) (σ:S) (I:cS) (F:cR) (a:Act) (w:World),od P A rid ops Kp os I0 own0.length M t σ I F→Rel σ I F a w→pf own0 σ→cS.le I0 I →
   (∀post σ' I' F' a' w',Rel σ' I' F' a' w'→cS.le I I'→M post σ' I' F'→dc (dh ops.toList) σ a σ' a'→na P ro ops lU (Qx N R) post a' w') →
   (∀ch σ' I' F' a' w',Rel σ' I' F' a' w'→cS.le I I'→Kp ch σ' I' F'→dc (dh ops.toList) σ a σ' a'→N.f ch a' w') →
   xd P ro ops lU N R (pe own0 I0) os t a w
 | .fin pre post,σ,I,F,a,w,h,hr,hH,hl,hN,hX=>dH hP hops pre σ I F a w h hr hH hl (fun σ' I' F' a' w' g1 g2 g3 g4=>hN post σ' I' F' a' w' g1 g2 g3 g4) hX
 | .fork pre i j x y,σ,I,F,a,w,h,hr,hH,hl,hN,hX =>
   dH hP hops pre σ I F a w h hr hH hl (fun σ' I' F' a' w' g1 g2 g3 g4 =>
    ⟨gM (R:=xd P ro ops lU N R (pe own0 I0) os x) (dH hP hops [i] σ' I' F' a' w' g3.1 g1 (hH.keep g4.own) (cS.le_trans hl g2) (fun σ2 I2 F2 a2 w2 k1 k2 k3 k4 =>
      im hP hops x σ2 I2 F2 a2 w2 k3 k1 ((hH.keep g4.own).keep k4.own) (cS.le_trans hl (cS.le_trans g2 k2)) (fun post σ3 I3 F3 a3 w3 m1 m2 m3 m4=>hN post σ3 I3 F3 a3 w3 m1 (cS.le_trans g2 (cS.le_trans k2 m2)) m3 ((g4.trans k4).trans m4))
       fun ch σ3 I3 F3 a3 w3 m1 m2 m3 m4=>hX ch σ3 I3 F3 a3 w3 m1 (cS.le_trans g2 (cS.le_trans k2 m2)) m3 ((g4.trans k4).trans m4)) fun ch σ2 I2 F2 a2 w2 k1 k2 k3 k4=>hX ch σ2 I2 F2 a2 w2 k1 (cS.le_trans g2 k2) k3 (g4.trans k4)),
     gM (R:=xd P ro ops lU N R (pe own0 I0) os y) (dH hP hops [j] σ' I' F' a' w' g3.2 g1 (hH.keep g4.own) (cS.le_trans hl g2) (fun σ2 I2 F2 a2 w2 k1 k2 k3 k4 =>
      im hP hops y σ2 I2 F2 a2 w2 k3 k1 ((hH.keep g4.own).keep k4.own) (cS.le_trans hl (cS.le_trans g2 k2)) (fun post σ3 I3 F3 a3 w3 m1 m2 m3 m4=>hN post σ3 I3 F3 a3 w3 m1 (cS.le_trans g2 (cS.le_trans k2 m2)) m3 ((g4.trans k4).trans m4))
       fun ch σ3 I3 F3 a3 w3 m1 m2 m3 m4=>hX ch σ3 I3 F3 a3 w3 m1 (cS.le_trans g2 (cS.le_trans k2 m2)) m3 ((g4.trans k4).trans m4)) fun ch σ2 I2 F2 a2 w2 k1 k2 k3 k4=>hX ch σ2 I2 F2 a2 w2 k1 (cS.le_trans g2 k2) k3 (g4.trans k4))⟩) hX
end
end Go.Vc
namespace Go.Vc
theorem jK:∀{l:List Lf} {vs:List Value},dF l vs=true→vs.length=l.length
 | [],[],_=>rfl
 | l::r,v::vs,h=>by simp only[dF,Bool.and_eq_true] at h;simp[jK h.2]
 | [],_::_,h=>by simp[dF] at h
 | _::_,[],h=>by simp[dF] at h
theorem hZ:∀{l m:List Lf} {vs us:List Value},dF l vs=true→dF m us=true→dF (l++m) (vs++us)=true
 | [],_,[],_,_,h=>h
 | l::r,_,v::vs,_,h,k=>by
   simp only[dF,Bool.and_eq_true,List.cons_append] at h ⊢
   exact⟨h.1,hZ h.2 k⟩
 | [],_,_::_,_,h,_=>by simp[dF] at h
 | _::_,_,[],_,h,_=>by simp[dF] at h
theorem iF(σ:S):∀tms:List (Nat×Lf),(iE σ tms).length=tms.length
 | []=>rfl
 | (t,l)::r=>by simp[iE,iF σ r]
theorem og{σ:S}:∀{tms:List (Nat×Lf)} {k t:Nat} {v:Value},sD σ tms=true→(tms.map Prod.fst)[k]? = some t→(iE σ tms)[k]? = some v →
  ∃av,σ.tm[t]? = some (some av)∧av.g=v
 | [],k,t,v,_,h,_=>by simp at h
 | (s,l)::r,0,t,v,hok,h,hv=>by
   simp only[List.map_cons,List.getElem?_cons_zero,Option.some.injEq] at h
   subst h
   simp only[sD,Bool.and_eq_true] at hok
   simp only[iE,List.getElem?_cons_zero,Option.some.injEq] at hv
   obtain⟨h1,_⟩:=hok
   split at h1
   ·rename_i av ha;rw[ha] at hv;exact⟨av,ha,hv⟩
   ·cases h1
 | (s,l)::r,k+1,t,v,hok,h,hv=>by
   simp only[sD,Bool.and_eq_true] at hok
   simp only[iE,List.getElem?_cons_succ] at hv
   exact og hok.2 (by simpa using h) hv
theorem pF{σ:S}:∀{tms:List (Nat×Lf)},sD σ tms=true→dF (tms.map Prod.snd) (iE σ tms)=true
 | [],_=>rfl
 | (s,l)::r,h=>by
   simp only[sD,Bool.and_eq_true] at h
   simp only[List.map_cons,iE,dF,Bool.and_eq_true]
   refine⟨?_,pF h.2⟩
   obtain⟨h1,_⟩:=h
   split at h1
   ·exact h1
   ·cases h1
theorem pG{own:List dr}:∀{bks:List (Nat×List Lf)},kG own bks=true→dF (bks.flatMap Prod.snd) (kF own bks)=true
 | [],_=>rfl
 | (s,l)::r,h=>by
   simp only[kG,Bool.and_eq_true] at h
   simp only[List.flatMap_cons,kF]
   refine hZ ?_ (pG h.2)
   obtain⟨h1,_⟩:=h
   split at h1
   ·simp only[Bool.and_eq_true] at h1;exact h1.2
   ·cases h1
theorem oh{σ:S}{c:Cut}(h:σ.xc c=true):dF c.zm (σ.iO c)=true:=by
 simp only[S.xc,Bool.and_eq_true] at h
 exact hZ (pF h.1) (pG h.2)
theorem re{own:List dr}:∀{bks:List (Nat×List Lf)} {i:Nat} {b:dr} {cs:List Value},kG own bks=true→own[i]? = some b →
  lj bks (kF own bks) i=some cs→cs=b.cells.map AV.g
 | [],i,b,cs,_,_,h=>by simp[lj] at h
 | (j,ls)::r,i,b,cs,hok,hi,h=>by
   simp only[kG,Bool.and_eq_true] at hok
   obtain⟨h1,h2⟩:=hok
   split at h1
   ·rename_i b' hb'
    simp only[Bool.and_eq_true] at h1
    have hl:=jK h1.2
    simp only[lj,kF,hb'] at h
    cases hji:(j==i) with
    | true =>
      rw[hji] at h
      simp only[cond_true,Option.some.injEq] at h
      have:j=i:=by simpa using hji
      subst this
      rw[hi] at hb';cases hb'
      rw[←h,←hl];simp
    | false =>
      rw[hji] at h
      simp only[cond_false] at h
      rw[←hl,List.drop_left] at h
      exact re h2 hi h
   ·cases h1
theorem oj:∀{bks:List (Nat×List Lf)} {vs us:List Value} {i:Nat},(lj bks vs i).isSome=(lj bks us i).isSome
 | [],_,_,_=>rfl
 | (j,ls)::r,vs,us,i=>by
   simp only[lj]
   cases (j==i) with
   | true=>rfl
   | false=>exact oj
theorem qf{own:List dr}:∀{bks:List (Nat×List Lf)} {vs:List Value} {i:Nat} {b:dr},kG own bks=true→own[i]? = some b→(lj bks vs i).isSome=true→b.ro=false
 | [],_,_,_,_,_,h=>by simp[lj] at h
 | (j,ls)::r,vs,i,b,hok,hi,h=>by
   simp only[kG,Bool.and_eq_true] at hok
   obtain⟨h1,h2⟩:=hok
   simp only[lj] at h
   cases hji:(j==i) with
   | true =>
     have:j=i:=by simpa using hji
     subst this
     rw[hi] at h1
     simp only[Bool.and_eq_true,Bool.not_eq_true'] at h1
     exact h1.1
   | false=>rw[hji] at h;exact qf h2 hi h
theorem vj(c:Cut)(l:List Nat)(vs:List Value)(σ:S):gi σ.own (σ.lay c l vs).own:=fun i b hb=>by
 refine⟨_,by show (dN _ _ 0 σ.own)[i]? = _;rw[eK,hb];rfl, ?_⟩
 split<;>rfl
theorem vk{c:Cut}{l:List Nat}{vs:List Value}{σ:S}(hok:kG σ.own c.bks=true):de σ (σ.lay c l vs):=fun i b hb=>by
 refine⟨_,by show (dN _ _ 0 σ.own)[i]? = _;rw[eK,hb];rfl, ?_⟩
 cases hs:lj c.bks (vs.drop c.tms.length) (0+i) with
 | none=>exact⟨rfl,rfl,fun _=>⟨rfl,rfl⟩⟩
 | some cs =>
   refine⟨rfl,rfl,fun hr=>?_⟩
   have:=qf (vs:=vs.drop c.tms.length) hok hb (by rw[Nat.zero_add] at hs;rw[hs];rfl)
   rw[this] at hr;cases hr
theorem Rel.lay{σ0 σ:S}{I0 I:cS}{F0 F:cR}{a0 a:Act}{w0 w:World}(c:Cut)(l:List Nat)(hr0:Rel σ0 I0 F0 a0 w0)(hr:Rel σ I F a w)
  (hown:∀(i:Nat) (b:dr),σ0.own[i]? = some b→∃b':dr,σ.own[i]? = some b'∧b'.num=b.num∧b'.elem=b.elem ∧
    (lj c.bks ((σ.iO c).drop c.tms.length) i=none→b'.cells=b.cells))
  (htm:∀t,t∉l→a.tmps[t]? = a0.tmps[t]?) (hsz:a.tmps.size=a0.tmps.size) (hok:σ.xc c=true) (hdf:σ.df=σ0.df):Rel (σ0.lay c l (σ.iO c)) I F a w:=by
 have hok':=hok
 simp only[S.xc,Bool.and_eq_true] at hok'
 have hdrop:(σ.iO c).drop c.tms.length=kF σ.own c.bks:=by
  unfold S.iO;rw[←iF σ c.tms,List.drop_left]
 have htake:(σ.iO c).take c.tms.length=iE σ c.tms:=by
  unfold S.iO;rw[←iF σ c.tms,List.take_left]
 have hsame:=vj c l (σ.iO c) σ0
 refine⟨?_, ?_,hr.defers.trans (by rw[hdf];rfl), ?_, ?_, ?_⟩
 ·simp only[S.lay,kp,ko];rw[hr0.size,hsz]
 ·intro t av ht
  rcases jh _ _ _ t av ht with ⟨k,v,h1,h2,rfl⟩ | h
  ·rw[htake] at h2
   obtain⟨av',h3,h4⟩:=og hok'.1 h1 h2
   have:=hr.tm t av' h3
   rw[this,h4];rfl
  ·obtain⟨h1,h2⟩:=kH _ _ _ _ h
   rw[htm t h1];exact hr0.tm t av h2
 ·intro t av ht
  rcases jh _ _ _ t av ht with ⟨k,v,h1,h2,rfl⟩ | h
  ·trivial
  ·obtain⟨h1,h2⟩:=kH _ _ _ _ h
   exact AV.dS hsame (hr0.wft t av h2)
 ·intro i b hb cell hc
  have hb':(dN c.bks ((σ.iO c).drop c.tms.length) 0 σ0.own)[i]? = some b:=hb
  rw[eK] at hb'
  cases h0:σ0.own[i]? with
  | none=>rw[h0] at hb';simp at hb'
  | some b0 =>
    rw[h0] at hb'
    simp only[Option.map_some,Option.some.injEq] at hb'
    subst hb'
    split at hc
    ·obtain⟨v,_,rfl⟩:=List.mem_map.1 hc;trivial
    ·exact AV.dS hsame (hr0.wfo i b0 h0 cell hc)
 ·have heq:da (σ0.lay c l (σ.iO c)).own=(da σ.own).take σ0.own.length:=by
   apply List.ext_getElem?
   intro i
   simp only[da,List.getElem?_map,List.getElem?_take,S.lay,eK,Nat.zero_add]
   cases h0:σ0.own[i]? with
   | none =>
     have:¬i<σ0.own.length:=fun h=>by simp[h] at h0
     simp[this]
   | some b0 =>
     have hlt:i<σ0.own.length:=by
      rcases Nat.lt_or_ge i σ0.own.length with h | h
      ·exact h
      ·simp[List.getElem?_eq_none h] at h0
     obtain⟨b',h1,h2,h3,h4⟩:=hown i b0 h0
     simp only[if_pos hlt,h1,Option.map_some]
     cases hs:lj c.bks ((σ.iO c).drop c.tms.length) i with
     | none =>
       have h5:=h4 hs
       simp[dr.obj,h2,h3,h5]
     | some cs =>
       have h5:=re hok'.2 h1 (by rw[hdrop] at hs;exact hs)
       simp[dr.obj,h2,h3,h5,AV.g,At.g,Function.comp_def]
  rw[heq]
  exact hr.sat.sub ((List.take_sublist _ _).append (List.Sublist.refl F))
theorem om(own0:List dr):∀(i:Nat) (own:List dr),da (tF own0 i own)=da own
 | _,[]=>rfl
 | i,b::r=>by
   simp only[tF,da,List.map_cons]
   have:=om own0 (i+1) r
   unfold da at this
   rw[this]
   congr 1
   split<;>rfl
theorem rh(own0:List dr)(own:List dr):gi own (tF own0 0 own):=fun i b hb=>by
 refine⟨_,by rw[jX,hb];rfl, ?_⟩
 split<;>rfl
theorem Rel.unlock{σ σ0:S}{I:cS}{F:cR}{a:Act}{w:World}(h:Rel σ I F a w):Rel (σ.unlock σ0) I F a w:=by
 refine h.heap (rh _ _) ?_ (by rw[om];exact h.sat)
 intro i b hb c hc
 rw[jX] at hb
 cases h0:σ.own[i]? with
 | none=>rw[h0] at hb;simp at hb
 | some b0 =>
   rw[h0] at hb
   simp only[Option.map_some,Option.some.injEq] at hb
   have:b.cells=b0.cells:=by rw[←hb];split<;>rfl
   rw[this] at hc
   exact AV.dS (rh _ _) (h.wfo i b0 h0 c hc)
theorem mN{σ0 σ:S}{c:Cut}{l:List Nat}{vs:List Value}(hok:kG σ0.own c.bks=true)(hk:de (σ0.lay c l vs) σ):de σ0 (σ.unlock σ0):=fun i b hb=>by
 obtain⟨b1,h1,e1,e2,h2⟩:=vk (l:=l) (vs:=vs) hok i b hb
 obtain⟨b2,h3,e3,e4,h4⟩:=hk i b1 h1
 refine⟨{ b2 with ro:=b.ro }, ?_,e3.trans e1,e4.trans e2,fun hr=>?_⟩
 ·show (tF σ0.own 0 σ.own)[i]? = _
  rw[jX,h3,Nat.zero_add,hb];rfl
 ·obtain⟨h5,h6⟩:=h2 hr
  exact⟨hr,(h4 h5).2.trans h6⟩
def eY(bks:List (Nat×List Lf)):Nat→List dr→List dr
 | _,[]=>[]
 | i,b::r=>(match lj bks [] i with
   | some _=>b
   | none=>{ b with ro:=true })::eY bks (i+1) r
def S.lock(σ:S)(c:Cut):S:={ σ with own:=eY c.bks 0 σ.own }
theorem iq(bks:List (Nat×List Lf)):∀(i:Nat) (own:List dr) (j:Nat),(eY bks i own)[j]? = (own[j]?).map fun b =>
  match lj bks [] (i+j) with
  | some _=>b
  | none=>{ b with ro:=true }
 | i,[],j=>by simp[eY]
 | i,b::r,0=>by simp only[eY,List.getElem?_cons_zero,Option.map_some,Nat.add_zero]
 | i,b::r,j+1=>by
   simp only[eY,List.getElem?_cons_succ]
   rw[iq bks (i+1) r j,show i+1+j=i+(j+1) by omega]
theorem pH(bks:List (Nat×List Lf)):∀(i:Nat) (own:List dr),da (eY bks i own)=da own
 | _,[]=>rfl
 | i,b::r=>by
   simp only[eY,da,List.map_cons]
   have:=pH bks (i+1) r
   unfold da at this
   rw[this]
   congr 1
   split<;>rfl
theorem nn{σ:S}{c:Cut}{i:Nat}{b:dr}(hb:σ.own[i]? = some b):∃b',(σ.lock c).own[i]? = some b'∧b'.num=b.num∧b'.elem=b.elem∧b'.cells=b.cells ∧
  (b.ro=true→b'.ro=true)∧(lj c.bks [] i=none→b'.ro=true):=by
 refine⟨_,by show (eY _ 0 σ.own)[i]? = _;rw[iq,hb];rfl, ?_⟩
 rw[Nat.zero_add]
 cases lj c.bks [] i with
 | none=>exact⟨rfl,rfl,rfl,fun _=>rfl,fun _=>rfl⟩
 | some cs=>exact⟨rfl,rfl,rfl,fun h=>h,fun h=>by cases h⟩
theorem Rel.lock{σ:S}{I:cS}{F:cR}{a:Act}{w:World}(h:Rel σ I F a w)(c:Cut):Rel (σ.lock c) I F a w:=by
 have hs:gi σ.own (σ.lock c).own:=fun i b hb=>by
  obtain⟨b',h1,h2,_⟩:=nn (c:=c) hb
  exact⟨b',h1,h2⟩
 refine h.heap hs ?_ (by show Sat I (da (eY _ 0 _)++F) w;rw[pH];exact h.sat)
 intro i b hb cell hc
 cases h0:σ.own[i]? with
 | none =>
   have h1:(eY c.bks 0 σ.own)[i]? = some b:=hb
   rw[iq,h0] at h1;simp at h1
 | some b0 =>
   obtain⟨b',h1,_,_,h2,_⟩:=nn (c:=c) h0
   have:b'=b:=Option.some.inj (h1.symm.trans hb)
   subst this
   rw[h2] at hc
   exact AV.dS hs (h.wfo i b0 h0 cell hc)
theorem dv{σ0 σ:S}{c:Cut}(hk:de (σ0.lock c) σ):de σ0 (σ.unlock σ0):=fun i b hb=>by
 obtain⟨b1,h1,e1,e2,h2,h3,_⟩:=nn (c:=c) hb
 obtain⟨b2,h4,e3,e4,h5⟩:=hk i b1 h1
 refine⟨{ b2 with ro:=b.ro }, ?_,e3.trans e1,e4.trans e2,fun hr=>⟨hr,(h5 (h3 hr)).2.trans h2⟩⟩
 show (tF σ0.own 0 σ.own)[i]? = _
 rw[jX,h4,Nat.zero_add,hb];rfl
def S.dT(σ:S):S:=σ.lock ⟨[],[],fun _ _ _ _ _ _ _=>True,[],[]⟩
theorem ee(σ:S):pf σ.dT.own σ.dT:=fun j b hb=>by
 refine⟨b,hb,rfl,rfl,rfl, ?_⟩
 have hb':(eY [] 0 σ.own)[j]? = some b:=hb
 rw[iq] at hb'
 cases h0:σ.own[j]? with
 | none=>rw[h0] at hb';simp at hb'
 | some b0 =>
   rw[h0] at hb'
   simp only[Option.map_some,lj,Option.some.injEq] at hb'
   rw[←hb']
theorem ir(σ:S):σ.dT.own.length=σ.own.length:=by
 have h:∀(i:Nat) (own:List dr),(eY [] i own).length=own.length:=by
  intro i own
  induction own generalizing i with
  | nil=>rfl
  | cons b r ih=>simp[eY,ih]
 exact h 0 σ.own
theorem ri{P:Program}{A:kg}{rid:Nat}{ops:Array Oper}{ro:Option Nat}(hP:∀f,A.good f=true→di P f){id:Nat}{os pre post:List Nat}{σ:S}{I:cS}{F:cR}{K:S→cS→cR→Prop}{Kp:List PanicEntry→S→cS→cR→Prop}{a:Act}{w:World}(hm:P.follows .mixedOrders=true)
  (hB:xB ops lU os pre post=true) (h:hY P A rid ops (fun ch σ' I' F'=>Kp ch ((σ'.unlock σ).mM ops) I' F') os I σ.own.length pre σ.dT I F fun σ' I' F'=>fy P A rid ops (fun ch σ' I' F'=>Kp ch (σ'.mM ops) I' F') post (σ'.unlock σ) I' F' K) (hr:Rel σ I F a w) {Q:Exit→Act→World→Prop}
  (hQ:∀σ' I' F' a' w',Rel σ' I' F' a' w'→cS.le I I'→K σ' I' F'→dc (dh ops.toList) σ a σ' a'→Q .normal a' w')
  (hX:∀ch σ' I' F' a' w',Rel σ' I' F' a' w'→cS.le I I'→Kp ch σ' I' F'→dc (dh ops.toList) σ a σ' a'→Q (.panic ch) a' w'):(Code.region id ops true).wpIn (Fw ro) 0 P Q a w:=by
 have hops:∀(i:Nat) (o:Oper),ops[i]? = some o→eS o.op=true:=fun i o ho=>by
  have hm:o∈ops.toList:=by have:=Array.mem_of_getElem? ho;simpa using this
  simp only[xB,Bool.and_eq_true] at hB
  have:=List.all_eq_true.1 hB.2 o hm
  simp only[Bool.and_eq_true] at this
  exact this.1
 have hr1:Rel σ I F a { w with drawn:=w.drawn+1 }:=hr.s.rel (hr.sat.of_heap rfl ⟨rfl,rfl⟩)
 have hr':Rel σ.dT I F a { w with drawn:=w.drawn+1 }:=hr1.lock _
 rw[←ir] at h
 have hg:=dH (ro:=ro) (N:=Pn.at ops a Q) (R:=na P ro ops lU (Qx (Pn.at ops a Q) fun a w=>Q .normal a w) post) hP hops pre σ.dT I F a _ h hr' (ee σ) (cS.le_refl I) (fun σ' I' F' a' w' h1 h2 h3 h4 =>
  dG (ro:=ro) (Q:=Qx (Pn.at ops a Q) fun a w=>Q .normal a w) hP hops post (σ'.unlock σ) I' F' a' w' h3 h1.unlock (fun σ2 I2 F2 a2 w2 g1 g2 g3 g4 =>
   hQ σ2 I2 F2 a2 w2 g1 (cS.le_trans h2 g2) g3 (((⟨dv h4.own,h4.tm,h4.size⟩:dc (dh ops.toList) σ a (σ'.unlock σ) a')).trans g4)) fun ch σ2 I2 F2 a2 w2 g1 g2 g3 g4=>Pn.ok hX g1 (cS.le_trans h2 g2) g3 (((⟨dv h4.own,h4.tm,h4.size⟩:dc (dh ops.toList) σ a (σ'.unlock σ) a')).trans g4))
  fun ch σ' I' F' a' w' h1 h2 h3 h4=>Pn.ok hX h1.unlock h2 h3 (⟨dv h4.own,h4.tm,h4.size⟩:dc (dh ops.toList) σ a (σ'.unlock σ) a')
 exact wpIn_mono (wpIn_region_any hm (pD hB ((ee σ).inv hr' (cS.le_refl I)) hg)) fun e a' w' hq=>by
  cases e with
  | normal=>exact hq
  | panic ch=>exact hq.2 a' hq.1 rfl
  | _=>exact hq.elim
def cS.del(I:cS)(b:Nat):cS:=⟨fun x=>if x=b then none else I x,I.os,I.out⟩
theorem Sat.sI{I I':cS}{F:cR}{w:World}{b:Nat}{o:Obj}(hb:I b=none)(hl:cS.le (I.put b o) I')(h:Sat I' F w):cS.le I (I'.del b)∧Sat (I'.del b) ((b,o)::F) w:=by
 have ho:I' b=some o:=hl.at (by simp[cS.put])
 refine⟨⟨fun x y hx=>?_,hl.2.1,hl.2.2⟩,fun x y hx=>?_,fun x y hx=>?_,fun x y hx=>?_, ?_,h.env⟩
 ·have hne:x≠b:=fun e=>by rw[e,hb] at hx;cases hx
  show (if x=b then none else I' x)=some y
  rw[if_neg hne]
  exact hl.at (by simp[cS.put,hne,hx])
 ·have hx:(if x=b then none else I' x)=some y:=hx
  split at hx
  ·cases hx
  ·exact h.imm _ _ hx
 ·rcases List.mem_cons.1 hx with e | hx
  ·cases e;exact h.imm _ _ ho
  ·exact h.own _ _ hx
 ·show (if x=b then none else I' x)=none
  split
  ·rfl
  ·rename_i hne
   rcases List.mem_cons.1 hx with e | hx
   ·cases e;exact absurd rfl hne
   ·exact h.off _ _ hx
 ·rw[List.map_cons,List.nodup_cons]
  refine⟨fun hm=>?_,h.nd⟩
  obtain⟨⟨x,y⟩,hx,rfl⟩:=List.mem_map.1 hm
  have:=h.off _ _ hx
  rw[this] at ho;cases ho
theorem rj{P:Program}{A:kg}{rid:Nat}{ops:Array Oper}{ro:Option Nat}(hP:∀f,A.good f=true→di P f){id:Nat}{os pre post:List Nat}{σ:S}{I:cS}{F F1:cR}{b:Nat}{o:Obj}{K:S→cS→cR→Prop}{Kp:List PanicEntry→S→cS→cR→Prop}{a:Act}{w:World}(hm:P.follows .mixedOrders=true)
  (hB:xB ops lU os pre post=true) (hp:F.Perm ((b,o)::F1)) (h:hY P A rid ops (fun ch σ' I' F'=>Kp ch ((σ'.unlock σ).mM ops) (I'.del b) ((b,o)::F')) os (I.put b o) σ.own.length pre σ.dT (I.put b o) F1 fun σ' I' F'=>fy P A rid ops (fun ch σ' I' F'=>Kp ch (σ'.mM ops) I' F') post (σ'.unlock σ) (I'.del b) ((b,o)::F') K) (hr:Rel σ I F a w) {Q:Exit→Act→World→Prop}
  (hQ:∀σ' I' F' a' w',Rel σ' I' F' a' w'→cS.le I I'→K σ' I' F'→dc (dh ops.toList) σ a σ' a'→Q .normal a' w')
  (hX:∀ch σ' I' F' a' w',Rel σ' I' F' a' w'→cS.le I I'→Kp ch σ' I' F'→dc (dh ops.toList) σ a σ' a'→Q (.panic ch) a' w'):(Code.region id ops true).wpIn (Fw ro) 0 P Q a w:=by
 have hops:∀(i:Nat) (o:Oper),ops[i]? = some o→eS o.op=true:=fun i o ho=>by
  have hm:o∈ops.toList:=by have:=Array.mem_of_getElem? ho;simpa using this
  simp only[xB,Bool.and_eq_true] at hB
  have:=List.all_eq_true.1 hB.2 o hm
  simp only[Bool.and_eq_true] at this
  exact this.1
 have hsat:Sat I ((b,o)::(da σ.own++F1)) w:=hr.sat.perm ((hp.append_left _).trans List.perm_middle)
 have hIb:I b=none:=hsat.off _ _ (.head _)
 have hr1:Rel σ (I.put b o) F1 a { w with drawn:=w.drawn+1 }:=hr.s.rel (hsat.gK.2.of_heap rfl ⟨rfl,rfl⟩)
 have hr':Rel σ.dT (I.put b o) F1 a { w with drawn:=w.drawn+1 }:=hr1.lock _
 rw[←ir] at h
 have hdem:∀{σ':S} {I':cS} {F':cR} {a':Act} {w':World},Rel σ' I' F' a' w'→cS.le (I.put b o) I'→cS.le I (I'.del b)∧Rel (σ'.unlock σ) (I'.del b) ((b,o)::F') a' w':=fun h1 h2=>by
  have hu:=h1.unlock (σ0:=σ)
  obtain⟨d1,d2⟩:=Sat.sI hIb h2 hu.sat
  exact⟨d1,hu.s.rel (d2.perm List.perm_middle.symm)⟩
 have hg:=dH (ro:=ro) (N:=Pn.at ops a Q) (R:=na P ro ops lU (Qx (Pn.at ops a Q) fun a w=>Q .normal a w) post) hP hops pre σ.dT (I.put b o) F1 a _ h hr' (ee σ) (cS.le_refl _) (fun σ' I' F' a' w' h1 h2 h3 h4=>by
  obtain⟨d1,hu'⟩:=hdem h1 h2
  exact dG (ro:=ro) (Q:=Qx (Pn.at ops a Q) fun a w=>Q .normal a w) hP hops post (σ'.unlock σ) (I'.del b) ((b,o)::F') a' w' h3 hu' (fun σ2 I2 F2 a2 w2 g1 g2 g3 g4 =>
   hQ σ2 I2 F2 a2 w2 g1 (cS.le_trans d1 g2) g3 (((⟨dv h4.own,h4.tm,h4.size⟩:dc (dh ops.toList) σ a (σ'.unlock σ) a')).trans g4)) fun ch σ2 I2 F2 a2 w2 g1 g2 g3 g4=>Pn.ok hX g1 (cS.le_trans d1 g2) g3 (((⟨dv h4.own,h4.tm,h4.size⟩:dc (dh ops.toList) σ a (σ'.unlock σ) a')).trans g4))
  fun ch σ' I' F' a' w' h1 h2 h3 h4=>Pn.ok hX (hdem h1 h2).2 (hdem h1 h2).1 h3 (⟨dv h4.own,h4.tm,h4.size⟩:dc (dh ops.toList) σ a (σ'.unlock σ) a')
 exact wpIn_mono (wpIn_region_any hm (pD hB ((ee σ).inv hr' (cS.le_refl _)) hg)) fun e a' w' hq=>by
  cases e with
  | normal=>exact hq
  | panic ch=>exact hq.2 a' hq.1 rfl
  | _=>exact hq.elim
theorem tK{b:Bool}{p q:Prop}(h:cond b p q):p∨q:=by
 cases b
 ·exact .inr h
 ·exact .inl h
theorem tL{ops:Array Oper}{os:List Nat}{t:Ot}(hB:xD ops lU os t=true):∀(i:Nat) (o:Oper),ops[i]? = some o→eS o.op=true:=fun i o ho=>by
 have hm:o∈ops.toList:=by have:=Array.mem_of_getElem? ho;simpa using this
 simp only[xD,Bool.and_eq_true] at hB
 have:=List.all_eq_true.1 hB.2 o hm
 simp only[Bool.and_eq_true] at this
 exact this.1
theorem rm{P:Program}{A:kg}{rid:Nat}{ops:Array Oper}{ro:Option Nat}(hP:∀f,A.good f=true→di P f){id:Nat}{os:List Nat}{t:Ot}{σ:S}{I:cS}{F:cR}{K:S→cS→cR→Prop}{Kp:List PanicEntry→S→cS→cR→Prop}{a:Act}{w:World}(hm:P.follows .mixedOrders=true)
  (hB:xD ops lU os t=true) (h:od P A rid ops (fun ch σ' I' F'=>Kp ch ((σ'.unlock σ).mM ops) I' F') os I σ.own.length (fun post σ' I' F'=>fy P A rid ops (fun ch σ' I' F'=>Kp ch (σ'.mM ops) I' F') post (σ'.unlock σ) I' F' K) t σ.dT I F) (hr:Rel σ I F a w) {Q:Exit→Act→World→Prop}
  (hQ:∀σ' I' F' a' w',Rel σ' I' F' a' w'→cS.le I I'→K σ' I' F'→dc (dh ops.toList) σ a σ' a'→Q .normal a' w')
  (hX:∀ch σ' I' F' a' w',Rel σ' I' F' a' w'→cS.le I I'→Kp ch σ' I' F'→dc (dh ops.toList) σ a σ' a'→Q (.panic ch) a' w'):(Code.region id ops true).wpIn (Fw ro) 0 P Q a w:=by
 have hops:=tL hB
 have hr1:Rel σ I F a { w with drawn:=w.drawn+1 }:=hr.s.rel (hr.sat.of_heap rfl ⟨rfl,rfl⟩)
 have hr':Rel σ.dT I F a { w with drawn:=w.drawn+1 }:=hr1.lock _
 rw[←ir] at h
 have hg:=im (ro:=ro) (N:=Pn.at ops a Q) (R:=fun a w=>Q .normal a w) hP hops t σ.dT I F a _ h hr' (ee σ) (cS.le_refl I) (fun post σ' I' F' a' w' h1 h2 h3 h4 =>
  dG (ro:=ro) (Q:=Qx (Pn.at ops a Q) fun a w=>Q .normal a w) hP hops post (σ'.unlock σ) I' F' a' w' h3 h1.unlock (fun σ2 I2 F2 a2 w2 g1 g2 g3 g4 =>
   hQ σ2 I2 F2 a2 w2 g1 (cS.le_trans h2 g2) g3 (((⟨dv h4.own,h4.tm,h4.size⟩:dc (dh ops.toList) σ a (σ'.unlock σ) a')).trans g4)) fun ch σ2 I2 F2 a2 w2 g1 g2 g3 g4=>Pn.ok hX g1 (cS.le_trans h2 g2) g3 (((⟨dv h4.own,h4.tm,h4.size⟩:dc (dh ops.toList) σ a (σ'.unlock σ) a')).trans g4))
  fun ch σ' I' F' a' w' h1 h2 h3 h4=>Pn.ok hX h1.unlock h2 h3 (⟨dv h4.own,h4.tm,h4.size⟩:dc (dh ops.toList) σ a (σ'.unlock σ) a')
 exact wpIn_mono (wpIn_region_any hm (pE hB ((ee σ).inv hr' (cS.le_refl I)) hg)) fun e a' w' hq=>by
  cases e with
  | normal=>exact hq
  | panic ch=>exact hq.2 a' hq.1 rfl
  | _=>exact hq.elim
theorem qg{P:Program}{A:kg}{rid:Nat}{ops:Array Oper}{ro:Option Nat}(hP:∀f,A.good f=true→di P f){id:Nat}{os:List Nat}{t:Ot}{σ:S}{I:cS}{F F1:cR}{b:Nat}{o:Obj}{K:S→cS→cR→Prop}{Kp:List PanicEntry→S→cS→cR→Prop}{a:Act}{w:World}(hm:P.follows .mixedOrders=true)
  (hB:xD ops lU os t=true) (hp:F.Perm ((b,o)::F1)) (h:od P A rid ops (fun ch σ' I' F'=>Kp ch ((σ'.unlock σ).mM ops) (I'.del b) ((b,o)::F')) os (I.put b o) σ.own.length (fun post σ' I' F'=>fy P A rid ops (fun ch σ' I' F'=>Kp ch (σ'.mM ops) I' F') post (σ'.unlock σ) (I'.del b) ((b,o)::F') K) t σ.dT (I.put b o) F1) (hr:Rel σ I F a w) {Q:Exit→Act→World→Prop}
  (hQ:∀σ' I' F' a' w',Rel σ' I' F' a' w'→cS.le I I'→K σ' I' F'→dc (dh ops.toList) σ a σ' a'→Q .normal a' w')
  (hX:∀ch σ' I' F' a' w',Rel σ' I' F' a' w'→cS.le I I'→Kp ch σ' I' F'→dc (dh ops.toList) σ a σ' a'→Q (.panic ch) a' w'):(Code.region id ops true).wpIn (Fw ro) 0 P Q a w:=by
 have hops:=tL hB
 have hsat:Sat I ((b,o)::(da σ.own++F1)) w:=hr.sat.perm ((hp.append_left _).trans List.perm_middle)
 have hIb:I b=none:=hsat.off _ _ (.head _)
 have hr1:Rel σ (I.put b o) F1 a { w with drawn:=w.drawn+1 }:=hr.s.rel (hsat.gK.2.of_heap rfl ⟨rfl,rfl⟩)
 have hr':Rel σ.dT (I.put b o) F1 a { w with drawn:=w.drawn+1 }:=hr1.lock _
 rw[←ir] at h
 have hdem:∀{σ':S} {I':cS} {F':cR} {a':Act} {w':World},Rel σ' I' F' a' w'→cS.le (I.put b o) I'→cS.le I (I'.del b)∧Rel (σ'.unlock σ) (I'.del b) ((b,o)::F') a' w':=fun h1 h2=>by
  have hu:=h1.unlock (σ0:=σ)
  obtain⟨d1,d2⟩:=Sat.sI hIb h2 hu.sat
  exact⟨d1,hu.s.rel (d2.perm List.perm_middle.symm)⟩
 have hg:=im (ro:=ro) (N:=Pn.at ops a Q) (R:=fun a w=>Q .normal a w) hP hops t σ.dT (I.put b o) F1 a _ h hr' (ee σ) (cS.le_refl _) (fun post σ' I' F' a' w' h1 h2 h3 h4=>by
  obtain⟨d1,hu'⟩:=hdem h1 h2
  exact dG (ro:=ro) (Q:=Qx (Pn.at ops a Q) fun a w=>Q .normal a w) hP hops post (σ'.unlock σ) (I'.del b) ((b,o)::F') a' w' h3 hu' (fun σ2 I2 F2 a2 w2 g1 g2 g3 g4 =>
   hQ σ2 I2 F2 a2 w2 g1 (cS.le_trans d1 g2) g3 (((⟨dv h4.own,h4.tm,h4.size⟩:dc (dh ops.toList) σ a (σ'.unlock σ) a')).trans g4)) fun ch σ2 I2 F2 a2 w2 g1 g2 g3 g4=>Pn.ok hX g1 (cS.le_trans d1 g2) g3 (((⟨dv h4.own,h4.tm,h4.size⟩:dc (dh ops.toList) σ a (σ'.unlock σ) a')).trans g4))
  fun ch σ' I' F' a' w' h1 h2 h3 h4=>Pn.ok hX (hdem h1 h2).2 (hdem h1 h2).1 h3 (⟨dv h4.own,h4.tm,h4.size⟩:dc (dh ops.toList) σ a (σ'.unlock σ) a')
 exact wpIn_mono (wpIn_region_any hm (pE hB ((ee σ).inv hr' (cS.le_refl _)) hg)) fun e a' w' hq=>by
  cases e with
  | normal=>exact hq
  | panic ch=>exact hq.2 a' hq.1 rfl
  | _=>exact hq.elim
abbrev Kt:=Exit→S→cS→cR→Prop
def yu(N:S→cS→cR→Prop)(K:Kt):Kt
 | .normal,σ,I,F=>N σ I F
 | e,σ,I,F=>K e σ I F
def vm(id:Nat)(K:Kt):Kt
 | .exit id',σ,I,F=>cond (id'==id) (K .normal σ I F) (K (.exit id') σ I F)
 | e,σ,I,F=>K e σ I F
def yv(K:Kt):Kt
 | .goto _,_,_,_=>False
 | e,σ,I,F=>K e σ I F
def z2(σ0:S)(N:S→cS→cR→Prop)(K:Kt):Kt
 | .normal,σ,I,F=>N σ I F
 | e,σ,I,F=>K e (σ.unlock σ0) I F
def S.fix(σ:S)(c:Cut):List Value:=c.fx.map fun t=>σ.cv (.tmp t)
def wq(σ σ':S)(X:Prop):Prop:=cond (σ.df.isEmpty&&σ'.df.isEmpty) X (σ'.df=σ.df∧X)
theorem rp{σ σ':S}{X:Prop}(h:wq σ σ' X):σ'.df=σ.df∧X:=by
 unfold wq at h
 cases hc:(σ.df.isEmpty&&σ'.df.isEmpty) with
 | true =>
   rw[hc] at h
   simp only[Bool.and_eq_true,List.isEmpty_iff] at hc
   exact⟨by rw[hc.1,hc.2],h⟩
 | false=>rw[hc] at h;exact h
def xE:List (Option Nat)→Option Nat→Bool
 | [],_=>false
 | none::r,none=>true
 | some a::r,some b=>a==b||xE r (some b)
 | _::r,x=>xE r x
def dd:List (Option Nat)→List (Option Nat)
 | []=>[]
 | x::r=>cond (xE (dd r) x) (dd r) (x::dd r)
def jmp:List Nat→Code→List (Option Nat)
 | bs,.exit id=>cond (bs.contains id) [] [some id]
 | _,.ret=>[none]
 | bs,.seq a b=>jmp bs a++jmp bs b
 | bs,.cond _ a b=>jmp bs a++jmp bs b
 | bs,.block id c=>jmp (id::bs) c
 | bs,.loop c=>jmp bs c
 | bs,.scope c=>jmp bs c
 | bs,.rangeFunc _ _ _ y=>jmp bs y
 | _,_=>[]
def zu:List (Option Nat)→(Option Nat→Prop)→Prop
 | [],_=>False
 | x::r,f=>f x∨zu r f
def sJ:Option Nat→Exit
 | none=>.ret
 | some id=>.exit id
def oo:Option Nat→Code
 | none=>.ret
 | some id=>.exit id
theorem tM:∀{l:List (Option Nat)} {f:Option Nat→Prop},zu l f→∃j,f j
 | [],_,h=>h.elim
 | x::r,f,h=>by
   rcases h with h | h
   ·exact⟨x,h⟩
   ·exact tM h
def xe:Sh→(Value→Prop)→Prop
 | .one l,Q=>qN l Q
 | .agg ls,Q=>nA ls fun vs=>Q (.agg vs.toArray)
def sK:List Sh→(List Value→Prop)→Prop
 | [],Q=>Q []
 | s::r,Q=>xe s fun v=>sK r fun vs=>Q (v::vs)
def Cut.zw(c:Cut):List Lf:=c.bks.flatMap Prod.snd
def zx(N:S→cS→cR→Prop):Kt
 | .normal,σ,I,F=>N σ I F
 | _,_,_,_=>False
def xF(L Lb:cR)(Lx:Option Nat→cR)(n0:Nat)(Q:Ending→cS→cR→Prop):Kt
 | .normal,σ,I,F=>∃F3:cR,F.Perm (Lb++F3)∧Q (.returned (.bool true)) I (da (σ.own.take n0)++(L++F3))
 | .ret,σ,I,F=>∃F3:cR,F.Perm (Lb++F3)∧Q (.returned (.bool false)) I (da (σ.own.take n0)++(Lx none++F3))
 | .exit id,σ,I,F=>∃F3:cR,F.Perm (Lb++F3)∧Q (.returned (.bool false)) I (da (σ.own.take n0)++(Lx (some id)++F3))
 | _,_,_,_=>False
def S.round(σ:S)(ct:Cut)(ps:Array Nat)(args vs:List Value):S:={ tm:=fI ps.toList args σ.tm,own:=dN ct.bks vs 0 σ.own,df:=[] }
def S.after(σ:S)(ct:Cut)(vs:List Value)(D:Nat)(rd:Option cR):S :=
 { tm:=σ.tm,own:=tF σ.own 0 (dN ct.bks vs 0 σ.own),df:=match rd with
  | none=>.mark D::σ.df
  | some _=>σ.df }
def rq(rd:Option cR)(D:Nat)(F:cR):cR:=match rd with
 | none=>(D,.deferred (some []))::F
 | some _=>F
def yw(rd:Option cR)(F:cR)(X:Prop):Prop:=match rd with
 | none=>X
 | some R=>(∃F3:cR,F.Perm (R++F3))∧X
def zy(rd:Option cR)(ops:Array Oper):Bool:=match rd with
 | none=>true
 | some _=>ops.toList.all fun o=>nU o.op
def W(P:Program)(A:kg):Option cR→Code→Nat→Kt→S→cS→cR→Prop
 | _,.skip,_,K,σ,I,F=>K .normal σ I F
 | _,.label _,_,K,σ,I,F=>K .normal σ I F
 | _,.exit id,_,K,σ,I,F=>K (.exit id) σ I F
 | _,.goto l,_,K,σ,I,F=>K (.goto l) σ I F
 | _,.ret,_,K,σ,I,F=>K .ret σ I F
 | rd,.region rid ops false,_,K,σ,I,F=>cond (zy rd ops) (p7 P A rid ops ops.toList 0 σ I F (K .normal) (fun ch=>K (.panic ch))) False
 | _,.region rid ops true,_,K,σ,I,F=>match A.ot rid with
   | some (os,t)=>cond (P.follows .mixedOrders&&xD ops lU os t)
      (cond (os.contains 1000)
        (∃(b:Nat) (o:Obj) (F1:cR),F.Perm ((b,o)::F1)∧od P A rid ops (fun ch σ' I' F'=>K (.panic ch) ((σ'.unlock σ).mM ops) (I'.del b) ((b,o)::F')) os (I.put b o) σ.own.length (fun post σ' I' F'=>fy P A rid ops (fun ch σ' I' F'=>K (.panic ch) (σ'.mM ops) I' F') post (σ'.unlock σ) (I'.del b) ((b,o)::F') (K .normal)) t σ.dT (I.put b o) F1)
        (od P A rid ops (fun ch σ' I' F'=>K (.panic ch) ((σ'.unlock σ).mM ops) I' F') os I σ.own.length (fun post σ' I' F'=>fy P A rid ops (fun ch σ' I' F'=>K (.panic ch) (σ'.mM ops) I' F') post (σ'.unlock σ) I' F' (K .normal)) t σ.dT I F)) False
   | none=>match A.sq rid with
      | some l=>match A.s2 rid with
        | none=>match A.ol rid with
          | none=>cond (P.follows .mixedOrders&&yr ops lU l) (fy P A rid ops (fun ch σ' I' F'=>K (.panic ch) (σ'.mM ops) I' F') l σ I F (K .normal)) False
          | some (os,m)=>cond (P.follows .mixedOrders&&xB ops lU os (l.take m) (l.drop m))
            (cond (os.contains 1000)
              (∃(b:Nat) (o:Obj) (F1:cR),F.Perm ((b,o)::F1)∧hY P A rid ops (fun ch σ' I' F'=>K (.panic ch) ((σ'.unlock σ).mM ops) (I'.del b) ((b,o)::F')) os (I.put b o) σ.own.length (l.take m) σ.dT (I.put b o) F1 fun σ' I' F'=>fy P A rid ops (fun ch σ' I' F'=>K (.panic ch) (σ'.mM ops) I' F') (l.drop m) (σ'.unlock σ) (I'.del b) ((b,o)::F') (K .normal))
              (hY P A rid ops (fun ch σ' I' F'=>K (.panic ch) ((σ'.unlock σ).mM ops) I' F') os I σ.own.length (l.take m) σ.dT I F fun σ' I' F'=>fy P A rid ops (fun ch σ' I' F'=>K (.panic ch) (σ'.mM ops) I' F') (l.drop m) (σ'.unlock σ) I' F' (K .normal))) False
        | some (p,q,lA,lB)=>cond (P.follows .mixedOrders&&vh ops lU l p q lA lB)
          (fy P A rid ops (fun ch σ' I' F'=>K (.panic ch) (σ'.mM ops) I' F') l σ I F fun σ' I' F'=>fy P A rid ops (fun ch σ' I' F'=>K (.panic ch) (σ'.mM ops) I' F') (p::lA) σ' I' F' (K .normal)∧fy P A rid ops (fun ch σ' I' F'=>K (.panic ch) (σ'.mM ops) I' F') (q::lB) σ' I' F' (K .normal)) False
      | none=>match A.tl rid with
        | some m=>cond (P.follows .mixedOrders&&(ll ops m&&(ops.toList.all (fun o=>eS o.op)&&mH (ops.extract 0 m))))
          (wD P A rid (ops.extract 0 m) (match A.ds rid with | none=>m | some (n,_)=>n) (match A.ds rid with | none=>[] | some (_,hid)=>hid) (ops.extract 0 m).toList 0 σ I F fun σ' F' =>
            p7 P A rid ops (ops.toList.drop m) m σ' I F' (K .normal) (fun ch=>K (.panic ch))) False
        | none=>cond (P.follows .mixedOrders&&mH ops)
          (match A.ds rid with
            | none=>wD P A rid ops ops.size [] ops.toList 0 σ I F fun σ' F'=>K .normal σ' I F'
            | some (n,hid)=>wD P A rid ops n hid ops.toList 0 σ I F fun σ' F'=>K .normal σ' I F') False
 | rd,.cond c x y,n,K,σ,I,F=>match σ.ev c with
   | some (.a (.v (.bool b)))=>(match b with
     | true=>W P A rd x (n+1) K σ I F
     | false=>W P A rd y (n+1+sz x) K σ I F)
   | _=>False
 | rd,.block id c,n,K,σ,I,F=>W P A rd c (n+1) (vm id K) σ I F
 | rd,.seq x y,n,K,σ,I,F=>match A.cut n with
   | none=>W P A rd x (n+1) (yu (W P A rd y (n+1+sz x) K) K) σ I F
   | some ct=>cond (kG σ.own ct.bks)
     (W P A rd x (n+1) (z2 σ (fun σ' I' F'=>cond (σ'.xc ct) (wq σ σ' (ct.Inv (σ.fix ct) I F (σ'.iO ct) 0 I' F')) False) K) (σ.lock ct) I F ∧
       nA ct.zm fun vs=>∀(I':cS) (F':cR),cS.le I I'→ct.Inv (σ.fix ct) I F vs 0 I' F'→W P A rd y (n+1+sz x) K ((σ.lay ct (iZ x) vs).unlock σ) I' F') False
 | rd,.loop c,n,K,σ,I,F=>match A.cut n with
   | none=>False
   | some ct=>cond (σ.xc ct)
     ((∃m,ct.Inv (σ.fix ct) I F (σ.iO ct) m I F) ∧
       nA ct.zm fun vs=>∀(m:Nat) (I':cS) (F':cR),cS.le I I'→ct.Inv (σ.fix ct) I F vs m I' F' →
        W P A rd c (n+1) (z2 σ (fun σ' I' F'=>cond (σ'.xc ct) (wq σ σ' (∃m',m'<m∧ct.Inv (σ.fix ct) I F (σ'.iO ct) m' I' F')) False) K) (σ.lay ct (iZ c) vs) I' F') False
 | rd,.scope c,n,K,σ,I,F=>W P A rd c (n+1) (yv K) σ I F
 | rd,.rangeFunc g ps x y,n,K,σ,I,F=>match A.cut n,σ.ev g with
   | some ct,some gv=>cond (kG σ.own ct.bks&&ct.ps.length==ps.size)
     (yw rd F (∀(Y:Fn) (L Lb:cR) (Lx:Option Nat→cR) (D:Nat),
       (sK ct.ps fun args=>nA ct.zw fun vs=>∀(I':cS) (F':cR) (Q:Ending→cS→cR→Prop),cS.le I I' →
         W P A (some L) x (n+1) (zx fun σ1 I1 F1=>∃F2:cR,F1.Perm (L++F2) ∧
          W P A (some Lb) y (n+1+sz x) (xF L Lb Lx σ.own.length Q) σ1 I1 (Lb++F2)) (σ.round ct ps args vs) I' (L++F') →
         gj P (.func Y #[] #[]) args I' (da (dN ct.bks vs 0 σ.own)++(L++F')) Q) →
       zq P gv.g [.func Y #[] #[]] I (da σ.own++(L++F)) fun e I' G=>∃r,e=.returned r ∧
        ((so ct.zw fun vs=>∃F':cR,G.Perm (da (dN ct.bks vs 0 σ.own)++(L++F'))∧K .normal (σ.after ct vs D rd) I' (rq rd D F')) ∨
          zu (dd (jmp [] y)) fun j=>so ct.zw fun vs=>∃F':cR,G.Perm (da (dN ct.bks vs 0 σ.own)++(Lx j++F'))∧K (sJ j) (σ.after ct vs D rd) I' (rq rd D F')))) False
   | _,_=>False
 | _,_,_,_,_,_,_=>False
def oq(l:List Nat)(σ:S)(a:Act)(I:cS)(K:Kt)(e:Exit)(a':Act)(w':World):Prop :=
 ∃σ' I' F',Rel σ' I' F' a' w'∧cS.le I I'∧K e σ' I' F'∧dc l σ a σ' a'
theorem uw{F:Fence}{n:Nat}{P:Program}{Q:Exit→Act→World→Prop}{c:Code}{a:Act}{w:World}(J:Nat→Act→World→Prop)(h0:∃m,J m a w)
  (round:∀m a w,J m a w→c.wpIn F n P (Exit.then (fun a' w'=>∃m',m'<m∧J m' a' w') Q) a w):(Code.loop c).wpIn F n P Q a w:=by
 intro b k cs hro hb hr
 have key:∀j a w,J j a w→∃e a' w',Q e a' w'∧ArrivesIn (Machine.fenced P F) P (lone (b.atR a (.code c :: .inLoop c::k)) cs w) b k cs e a' w':=by
  intro j
  induction j using Nat.strongRecOn with
  | _ j ih =>
    intro a w hJ
    obtain⟨e,a₁,w₁,hq,harr⟩:=round j a w hJ b (.inLoop c::k) cs hro hb hr
    cases e with
    | normal =>
      obtain⟨m',hlt,hJ'⟩:=hq
      obtain⟨e₂,a₂,w₂,hq₂,harr₂⟩:=ih m' hlt a₁ w₁ hJ'
      exact⟨e₂,a₂,w₂,hq₂,.of_steps (StepsIn.trans harr (.one (fenced_calm hb hr rfl) stepR_inLoop)) harr₂⟩
    | exit id=>exact⟨_,a₁,w₁,hq,.pass (x:=.inLoop c) rfl (fun _ _=>.inl (by simp)) harr⟩
    | goto l=>exact⟨_,a₁,w₁,hq,.pass (x:=.inLoop c) rfl (fun _ _=>.inl (by simp)) harr⟩
    | ret=>exact⟨_,a₁,w₁,hq,.pass (x:=.inLoop c) rfl (fun _ _=>.inl (by simp)) harr⟩
    | panic ch=>exact⟨_,a₁,w₁,hq,.pass (x:=.inLoop c) rfl (fun _ _=>.inl (by simp)) harr⟩
    | outgrown=>exact⟨_,a₁,w₁,hq,.pass (x:=.inLoop c) rfl (fun _ _=>.inl (by simp)) harr⟩
 obtain⟨m,hm⟩:=h0
 obtain⟨e,a',w',hq,harr⟩:=key m a w hm
 exact⟨e,a',w',hq,.of_steps (.one (fenced_calm hb hr rfl) stepR_loop) harr⟩
theorem fR{P:Program}{b:Frame}{a:Act}{k:List Item}{cs:List Frame}{w:World}{c:Code}:step P (lone (b.atR a (.code (.scope c)::k)) cs w)=.next (lone (b.atR a (.code c :: .inScope c::k)) cs w) :=
 step_lone_go (by simp[stepG,stepG.exec,Frame.atR])
theorem pg{P:Program}{b:Frame}{a:Act}{k:List Item}{cs:List Frame}{w:World}{c:Code}:step P (lone (b.atR a (.inScope c::k)) cs w)=.next (lone (b.atR a k) cs w) :=
 step_lone_go (by simp[stepG,stepG.exec,Frame.atR])
theorem kh{F:Fence}{n:Nat}{P:Program}{Q:Exit→Act→World→Prop}{c:Code}{a:Act}{w:World}(h:c.wpIn F n P (Exit.noGoto Q) a w):(Code.scope c).wpIn F n P Q a w:=by
 intro b k cs hro hb hr
 have h0:(lone (b.atR a (.code (.scope c)::k)) cs w).fenced P F:=fenced_calm hb hr rfl
 obtain⟨e,a₁,w₁,hq,harr⟩:=h b (.inScope c::k) cs hro hb hr
 cases e with
 | normal=>exact⟨.normal,a₁,w₁,hq,.head h0 fR (StepsIn.trans harr (.one (fenced_calm hb hr rfl) pg))⟩
 | exit id =>
   have hx:exitTo id (.inScope c::k)=exitTo id k:=by simp[exitTo]
   exact⟨.exit id,a₁,w₁,hq,fun k' hk=>.head h0 fR (harr.1 k' (by rw[hx];exact hk)),
    fun hr' hk=>let ⟨k₁,h1,h2⟩:=harr.2 hr' (by rw[hx];exact hk);⟨k₁,h1,.head h0 fR h2⟩⟩
 | goto l=>exact hq.elim
 | ret=>exact⟨_,a₁,w₁,hq,.of_steps (.one h0 fR) harr⟩
 | panic ch=>exact⟨_,a₁,w₁,hq,.of_steps (.one h0 fR) harr⟩
 | outgrown=>exact⟨_,a₁,w₁,hq,.of_steps (.one h0 fR) harr⟩
theorem mO{l:Lf}{Q:Value→Prop}(h:∀v,Q v):qN l Q:=by cases l<;>intro<;>first | exact h _ | (intros;exact h _)
theorem jL:∀{l:List Lf} {Q:List Value→Prop},(∀vs,vs.length=l.length→Q vs)→nA l Q
 | [],Q,h=>h [] rfl
 | l::r,Q,h=>mO fun v=>jL fun vs hv=>h (v::vs) (by simp[hv])
theorem rr{s:Sh}{Q:Value→Prop}(h:∀v,Q v):xe s Q:=by
 cases s with
 | one l=>exact mO h
 | agg ls=>exact jL fun vs _=>h _
theorem lr:∀{l:List Sh} {Q:List Value→Prop},(∀vs,vs.length=l.length→Q vs)→sK l Q
 | [],Q,h=>h [] rfl
 | l::r,Q,h=>rr fun v=>lr fun vs hv=>h (v::vs) (by simp[hv])
def Ctx(ro:Option Nat):Option cR→Prop
 | none=>ro=none
 | some R=>∃l r,ro=some l∧(l,Obj.loop r)∈R
def sg(rd:Option cR)(D:Nat):cR:=match rd with
 | none=>[(D,.deferred (some []))]
 | some _=>[]
def yx(rd:Option cR)(D:Nat):List Deferred:=match rd with
 | none=>[(Df.mark D).d]
 | some _=>[]
theorem vn(rd:Option cR)(D:Nat)(F:cR):rq rd D F=sg rd D++F:=by cases rd<;>rfl
section
variable {P:Program} {A:kg}
theorem ru{w:World}{l₀:Nat}{r₀:Loop}(h:w.heap[l₀]? = some (.loop r₀))(fn:FuncId)(tmps:Array Value)(ps:Array Tmp)(assign body:Code) :
  (Instr.enterLoop fn tmps ps assign body (some l₀)).run P w =
    .ok (w.heap.size,[]) (w.alloc (.loop { state:=.ready,pending:=none,fn,tmps,params:=ps,assign,body,defers:=r₀.defers })):=by
 unfold Instr.enterLoop
 simp only[Sem.run_bind,run_getLoop h,run_newObj_alloc,Result.andThen,Sem.run_pure]
theorem vo{rd:Option cR}{F:cR}{X:Prop}(h:yw rd F X):(∀R,rd=some R→∃F3:cR,F.Perm (R++F3))∧X:=by
 cases rd with
 | none=>exact⟨fun R e=>(by cases e),h⟩
 | some R=>exact⟨fun R' e=>(by cases e;exact h.1),h.2⟩
theorem ux{rd:Option cR}{ro:Option Nat}{I:cS}{G:cR}{w:World}(hctx:Ctx ro rd)(hrd:∀R,rd=some R→∃F3:cR,G.Perm (R++F3))(hs:Sat I G w)
  (fn:FuncId) (tmps:Array Value) (ps:Array Tmp) (x y:Code) :
  ∃(l D d:Nat) (w1:World),(Instr.enterLoop fn tmps ps x y ro).run P w=.ok (l,yx rd D) w1 ∧
   Sat I ((l,Obj.loop { state:=.ready,pending:=none,fn,tmps,params:=ps,assign:=x,body:=y,defers:=d })::(sg rd D++G)) w1:=by
 cases rd with
 | none =>
   obtain rfl:ro=none:=hctx
   have h1:=hs.alloc (.deferred (some []))
   have h2:=h1.alloc (.loop { state:=.ready,pending:=none,fn,tmps,params:=ps,assign:=x,body:=y,defers:=w.heap.size })
   refine⟨w.heap.size+1,w.heap.size,w.heap.size,_,run_enterLoop_outer fn tmps ps x y, ?_⟩
   have:({ w with heap:=w.heap.push (Obj.deferred (some [])) }:World).heap.size=w.heap.size+1:=by simp
   rw[this] at h2
   exact h2
 | some R =>
   obtain⟨l0,r0,rfl,hm⟩:=hctx
   obtain⟨F3,hp⟩:=hrd R rfl
   have hin:w.heap[l0]? = some (.loop r0):=hs.own _ _ (hp.mem_iff.2 (List.mem_append_left _ hm))
   exact⟨w.heap.size,0,r0.defers,_,ru hin fn tmps ps x y,hs.alloc _⟩
theorem Sat.np{I:cS}{b:Nat}{o:Obj}{G:cR}{w:World}(h:Sat I ((b,o)::G) w):w.heap[b]? = some o:=h.own _ _ (List.mem_cons_self ..)
theorem Sat.lu{I:cS}{b:Nat}{o o':Obj}{G:cR}{w:World}(h:Sat I ((b,o)::G) w):Sat I ((b,o')::G) (w.putObj b o'):=h.set rfl ⟨rfl,rfl⟩
theorem rv:∀(ts:List Nat) (vs:List Value) (tm:List (Option AV)) (tmps:Array Value),tm.length=tmps.size→(∀(t:Nat) (av:AV),tm[t]? = some (some av)→tmps[t]? = some av.g) →
  (fI ts vs tm).length=((ts.zip vs).foldl (fun (a:Array Value) (x:Nat×Value)=>a.setIfInBounds x.1 x.2) tmps).size ∧
  ∀(t:Nat) (av:AV),(fI ts vs tm)[t]? = some (some av)→((ts.zip vs).foldl (fun (a:Array Value) (x:Nat×Value)=>a.setIfInBounds x.1 x.2) tmps)[t]? = some av.g
 | [],vs,tm,tmps,hl,h=>by simp only[fI,List.zip_nil_left,List.foldl_nil];exact⟨hl,h⟩
 | s::ts,[],tm,tmps,hl,h=>by simp only[fI,List.zip_nil_right,List.foldl_nil];exact⟨hl,h⟩
 | s::ts,v::vs,tm,tmps,hl,h=>by
   simp only[fI,List.zip_cons_cons,List.foldl_cons]
   refine rv ts vs _ _ (by simp[hl]) fun t av ht=>?_
   rw[List.getElem?_set] at ht
   rw[Array.getElem?_setIfInBounds]
   by_cases hst:s=t
   ·subst hst
    simp only[if_true] at ht ⊢
    split at ht
    ·rename_i hlt;cases ht;rw[hl] at hlt;simp[hlt,AV.g,At.g]
    ·cases ht
   ·simp only[if_neg hst] at ht ⊢;exact h t av ht
theorem mP(bks:List (Nat×List Lf))(vs:List Value)(own:List dr):gi own (dN bks vs 0 own):=fun i b hb=>by
 refine⟨match lj bks vs (0+i) with
  | some cs=>{ b with cells:=cs.map fun v=>.a (.v v) }
  | none=>{ b with ro:=true },by rw[eK,hb];rfl, ?_⟩
 split<;>rfl
theorem uy{bks:List (Nat×List Lf)}{vs:List Value}{own:List dr}(h:∀(i:Nat) (b:dr),own[i]? = some b→∀c∈b.cells,AV.wf own c) :
  ∀(i:Nat) (b:dr),(dN bks vs 0 own)[i]? = some b→∀c∈b.cells,AV.wf (dN bks vs 0 own) c:=by
 intro i b hb c hc
 rw[eK] at hb
 cases ho:own[i]? with
 | none=>rw[ho] at hb;cases hb
 | some b0 =>
   rw[ho] at hb
   simp only[Option.map_some,Option.some.injEq] at hb
   subst hb
   split at hc
   ·simp only[List.mem_map] at hc
    obtain⟨v,_,rfl⟩:=hc
    trivial
   ·exact AV.dS (mP _ _ _) (h i b0 ho c hc)
theorem Rel.round{σ:S}{I I':cS}{F F':cR}{a:Act}{w w':World}(hr:Rel σ I F a w)(ct:Cut)(ps:Array Nat)(args vs:List Value)
  (hs:Sat I' (da (dN ct.bks vs 0 σ.own)++F') w') :
  Rel (σ.round ct ps args vs) I' F' { tmps:=(ps.toList.zip args).foldl (fun (a:Array Value) (x:Nat×Value)=>a.setIfInBounds x.1 x.2) a.tmps,defers:=[] } w':=by
 obtain⟨h1,h2⟩:=rv ps.toList args σ.tm a.tmps hr.size hr.tm
 refine⟨h1,h2,rfl,fun t av ht=>?_,uy hr.wfo,hs⟩
 rcases jh _ _ _ _ _ ht with ⟨k,v,_,_,rfl⟩ | ht
 ·trivial
 ·exact AV.dS (mP _ _ _) (hr.wft t av ht)
theorem pI{σ:S}{ct:Cut}{vs:List Value}{i:Nat}:(tF σ.own 0 (dN ct.bks vs 0 σ.own))[i]? = (σ.own[i]?).map fun b =>
  match lj ct.bks vs i with
  | some cs=>{ b with cells:=cs.map fun v=>.a (.v v) }
  | none=>b:=by
 rw[jX,eK]
 cases hb:σ.own[i]? with
 | none=>rfl
 | some b =>
   simp only[Option.map_some,Nat.zero_add,hb]
   cases lj ct.bks vs i<;>rfl
theorem ou{σ:S}{ct:Cut}{vs:List Value}{D:Nat}{rd:Option cR}(hok:kG σ.own ct.bks=true):de σ (σ.after ct vs D rd):=by
 intro i b hb
 have e:(σ.after ct vs D rd).own[i]? = _:=pI
 rw[hb] at e
 cases hs:lj ct.bks vs i with
 | none=>rw[hs] at e;exact⟨b,e,rfl,rfl,fun h=>⟨h,rfl⟩⟩
 | some cs =>
   rw[hs] at e
   have hro:=qf (vs:=vs) hok hb (by rw[hs];rfl)
   exact⟨_,e,rfl,rfl,fun h=>by rw[hro] at h;cases h⟩
theorem Rel.after{σ:S}{I I':cS}{F F':cR}{a:Act}{w w':World}(hr:Rel σ I F a w){ct:Cut}{vs:List Value}{D:Nat}{rd:Option cR}(hok:kG σ.own ct.bks=true)
  (hs:Sat I' (da (dN ct.bks vs 0 σ.own)++F') w'):Rel (σ.after ct vs D rd) I' F' { a with defers:=yx rd D++a.defers } w':=by
 have hk:gi σ.own (σ.after ct vs D rd).own:=(ou hok).same
 refine⟨hr.size,hr.tm, ?_,fun t av ht=>AV.dS hk (hr.wft t av ht), ?_, ?_⟩
 ·show yx rd D++a.defers=_
  rw[hr.defers];cases rd<;>rfl
 ·intro i b hb c hc
  have e:(σ.after ct vs D rd).own[i]? = _:=pI
  rw[hb] at e
  cases ho:σ.own[i]? with
  | none=>rw[ho] at e;cases e
  | some b0 =>
    rw[ho] at e
    simp only[Option.map_some,Option.some.injEq] at e
    subst e
    split at hc
    ·simp only[List.mem_map] at hc
     obtain⟨v,_,rfl⟩:=hc
     trivial
    ·exact AV.dS hk (hr.wfo i b0 ho c hc)
 ·show Sat I' (da (tF σ.own 0 (dN ct.bks vs 0 σ.own))++F') w'
  rw[om];exact hs
theorem uz(own:List dr)(n:Nat):(da (own.take n)).Sublist (da own):=(List.take_sublist n own).map _
theorem fk{A B C:cR}:(A++(B++C)).Perm (B++(A++C)):=List.perm_append_comm_assoc A B C
theorem uA{F:Fence}{n:Nat}{Q:Exit→Act→World→Prop}{a:Act}{w:World}(j:Option Nat)(h:Q (sJ j) a w):(oo j).wpIn F n P Q a w:=by
 cases j with
 | none=>exact wpIn_ret h
 | some id=>exact wpIn_exit h
theorem ry{x y:Code}(ih1:∀(n:Nat) (K:Kt) (rd:Option cR) (ro:Option Nat) (σ:S) (I:cS) (F:cR) (a:Act) (w:World),Ctx ro rd→W P A rd x n K σ I F→Rel σ I F a w→x.wpIn (Fw ro) 0 P (oq (iZ x) σ a I K) a w)
  (ih2:∀(n:Nat) (K:Kt) (rd:Option cR) (ro:Option Nat) (σ:S) (I:cS) (F:cR) (a:Act) (w:World),Ctx ro rd→W P A rd y n K σ I F→Rel σ I F a w→y.wpIn (Fw ro) 0 P (oq (iZ y) σ a I K) a w)
  {g:Operand} {ps:Array Tmp} {n:Nat} {K:Kt} {rd:Option cR} {ro:Option Nat} {σ:S} {I:cS} {F:cR} {a:Act} {w:World} (hctx:Ctx ro rd)
  (h:W P A rd (.rangeFunc g ps x y) n K σ I F) (hr:Rel σ I F a w):(Code.rangeFunc g ps x y).wpIn (Fw ro) 0 P (oq (iZ (.rangeFunc g ps x y)) σ a I K) a w:=by
 simp only[W] at h
 split at h
 case h_2=>exact h.elim
 rename_i ct gv hcut hg
 obtain⟨hb,h⟩:=c6 h
 simp only[Bool.and_eq_true,beq_iff_eq] at hb
 obtain⟨hok,hlen⟩:=hb
 obtain⟨hrd,h⟩:=vo h
 refine wpIn_rangeFunc fun fn hfn=>?_
 obtain⟨l,D,d,w1,hrun,hsat⟩:=ux (P:=P) (rd:=rd) (ro:=ro) hctx (G:=da σ.own++F) (fun R hR=>by
  obtain⟨F3,hp⟩:=hrd R hR
  exact⟨da σ.own++F3,(List.Perm.append_left _ hp).trans fk⟩) hr.sat fn a.tmps ps x y
 generalize hrec:({ state:=.ready,pending:=none,fn,tmps:=a.tmps,params:=ps,assign:=x,body:=y,defers:=d }:Loop)=rec at hsat
 have r1:rec.fn=fn:=by rw[←hrec]
 have r2:rec.tmps=a.tmps:=by rw[←hrec]
 have r3:rec.params=ps:=by rw[←hrec]
 have r4:rec.assign=x:=by rw[←hrec]
 have r5:rec.body=y:=by rw[←hrec]
 have r6:rec.state=.ready:=by rw[←hrec]
 have r7:rec.pending=none:=by rw[←hrec]
 have rback:({ rec with state:=.ready,pending:=none }:Loop)=rec:=by rw[←hrec]
 let L:cR:=(l,.loop rec)::sg rd D
 let Lb:cR:=(l,.loop { rec with state:=.busy })::sg rd D
 let Lx:Option Nat→cR:=fun j=>(l,.loop { rec with state:=.done,pending:=some (oo j) })::sg rd D
 have hsat':Sat I (da σ.own++(L++F)) w1:=by
  refine hsat.perm ?_
  show (([(l,Obj.loop rec)]++sg rd D)++(da σ.own++F)).Perm _
  exact fk
 have hTr:=h (.yield l) L Lb Lx D (lr fun args hargs=>jL fun vs hvs I' F' Q hle hW=>by
  intro w2 hs2
  refine .inr ⟨l,rfl, ?_⟩
  have hl2:w2.heap[l]? = some (.loop rec):=hs2.own _ _ (List.mem_append_right _ (List.mem_append_left _ (List.mem_cons_self ..)))
  have hy:=run_yield (P:=P) (args:=args.toArray) hl2 (by rw[r3];simp[hargs,hlen])
  rw[r1,r2,r3,r4,r5] at hy
  have hz:((ps.zip args.toArray).foldl (fun (tmps:Array Value) (x:Nat×Value)=>tmps.setIfInBounds x.1 x.2) a.tmps)=(ps.toList.zip args).foldl (fun (a:Array Value) (x:Nat×Value)=>a.setIfInBounds x.1 x.2) a.tmps:=by
   rw[←Array.foldl_toList,Array.toList_zip]
  refine⟨_,_,_,_,_,hy,roundIn_of_wpIn (F:=Fence.wide) trivial ?_⟩
  rw[show ((ps.zip args.toArray).foldl (fun (tmps:Array Value) (x:Nat×Value)=>match x with | (t,a)=>tmps.setIfInBounds t a) a.tmps)=(ps.toList.zip args).foldl (fun (a:Array Value) (x:Nat×Value)=>a.setIfInBounds x.1 x.2) a.tmps from hz]
  have hrel:=hr.round ct ps args vs hs2
  refine wpIn_mono (ih1 _ _ (some L) (some l) _ I' _ _ w2 ⟨l,rec,rfl,List.mem_cons_self ..⟩ hW hrel) ?_
  intro e a1 w3 ⟨σ1,I1,F1,g1,g2,g3,g4⟩
  cases e with
  | normal =>
    obtain⟨F2,hp2,hW2⟩:=g3
    have hs3:Sat I1 ((l,.loop rec)::(sg rd D++(da σ1.own++F2))) w3:=g1.sat.perm ((List.Perm.append_left _ hp2).trans (fk (A:=da σ1.own) (B:=(l,.loop rec)::sg rd D)))
    refine⟨_,run_beginRound hs3.np r6, ?_⟩
    have hs4:=hs3.lu (o':=.loop { rec with state:=.busy })
    have hrel2:Rel σ1 I1 (Lb++F2) a1 (w3.putObj l (.loop { rec with state:=.busy })) :=
     ⟨g1.size,g1.tm,g1.defers,g1.wft,g1.wfo,hs4.perm (fk (A:=(l,.loop { rec with state:=.busy })::sg rd D) (B:=da σ1.own))⟩
    refine wpIn_mono (ih2 _ _ (some Lb) (some l) _ I1 _ _ _ ⟨l,_,rfl,List.mem_cons_self ..⟩ hW2 hrel2) ?_
    intro e a5 w5 ⟨σ5,I5,F5,k1,k2,k3,k4⟩
    have fin:∀(L':cR) (o':Obj) (b:Bool),L'=(l,o')::sg rd D→(∃F3:cR,F5.Perm (Lb++F3)∧Q (.returned (.bool b)) I5 (da (σ5.own.take σ.own.length)++(L'++F3))) →
     w5.heap[l]? = some (.loop { rec with state:=.busy })∧nJ I' Q (.returned (.bool b)) (w5.putObj l o'):=by
     intro L' o' b hL' ⟨F3,hp3,hq⟩
     subst hL'
     have hs5:Sat I5 ((l,.loop { rec with state:=.busy })::(sg rd D++(da σ5.own++F3))) w5 :=
      k1.sat.perm ((List.Perm.append_left _ hp3).trans (fk (A:=da σ5.own) (B:=(l,.loop { rec with state:=.busy })::sg rd D)))
     refine⟨hs5.np,I5,_,cS.le_trans g2 k2, ?_,hq⟩
     have hs6:=hs5.lu (o':=o')
     exact (hs6.perm (fk (A:=(l,o')::sg rd D) (B:=da σ5.own))).sub (List.Sublist.append (uz _ _) (List.Sublist.refl _))
    cases e with
    | normal =>
      obtain⟨f1,f2⟩:=fin L (.loop rec) true rfl k3
      refine⟨_,_,run_endRound none f1, ?_⟩
      have:({ ({ rec with state:=.busy }:Loop) with state:=if (none:Option Code).isNone then .ready else .done,pending:=none }:Loop)=rec:=rback
      rw[this];exact f2
    | ret =>
      obtain⟨f1,f2⟩:=fin (Lx none) (.loop { rec with state:=.done,pending:=some .ret }) false rfl k3
      exact⟨_,_,run_endRound (some .ret) f1,f2⟩
    | exit id =>
      obtain⟨f1,f2⟩:=fin (Lx (some id)) (.loop { rec with state:=.done,pending:=some (.exit id) }) false rfl k3
      exact⟨_,_,run_endRound (some (.exit id)) f1,f2⟩
    | goto l=>exact k3.elim
    | panic ch=>exact k3.elim
    | outgrown=>exact k3.elim
  | exit id=>exact g3.elim
  | goto l=>exact g3.elim
  | ret=>exact g3.elim
  | panic ch=>exact g3.elim
  | outgrown=>exact g3.elim)
 obtain⟨f,first,cap,hgv,hent,hcall⟩:=hTr w1 hsat'
 have hev:=S.ja hr hg
 refine⟨l,yx rd D,w1,{ target:=.fn (.func f) cap,args:=first++#[.func (.yield l) #[] #[]] },w1,f,first++#[.func (.yield l) #[] #[]]++cap,w1,hrun, ?_,fun _ _=>trivial, ?_,fun hd=>by simp[Fw,Fence.wide] at hd, ?_⟩
 ·show (Deferred.ofValue (a.eval g) _).run P w1=_
  rw[hev,hgv];simp[Deferred.ofValue,Act.eval]
 ·simp only[invoke];exact hent _ _
 ·refine ((callsIn_wide (n:=0)).2 hcall).mono fun e w3 ⟨I3,G,hle,hs3,r,he,hpost⟩=>?_
  subst he
  have fin:∀(o':Obj) (r':Loop) (jj:Option Code) (L':cR) (vs:List Value) (F':cR) (e':Exit),L'=(l,.loop r')::sg rd D→r'.pending=jj→r'.state ≠ .busy→G.Perm (da (dN ct.bks vs 0 σ.own)++(L'++F'))→K e' (σ.after ct vs D rd) I3 (rq rd D F') →
    ∃w4,(Instr.endLoop l).run P w3=.ok jj w4∧oq (iZ (.rangeFunc g ps x y)) σ a I K e' { a with defers:=yx rd D++a.defers } w4:=by
   intro o' r' jj L' vs F' e' hL' hj hbusy hp hk
   subst hL';subst hj
   have hs4:Sat I3 ((l,.loop r')::(sg rd D++(da (dN ct.bks vs 0 σ.own)++F'))) w3:=hs3.perm (hp.trans (fk (A:=da (dN ct.bks vs 0 σ.own)) (B:=(l,.loop r')::sg rd D)))
   refine⟨_,run_endLoop hs4.np hbusy,σ.after ct vs D rd,I3,rq rd D F', ?_,hle,hk,ou hok,fun _ _=>rfl,rfl⟩
   refine hr.after hok ?_
   rw[vn]
   exact ((hs4.lu (o':=.loop { r' with state:=.exhausted })).sub (List.sublist_cons_self _ _)).perm fk
  rcases hpost with hpost | hpost
  ·obtain⟨vs,F',hp,hk⟩:=iK hpost |>.imp fun _ h=>h.2
   obtain⟨w4,h1,h2⟩:=fin (.loop rec) rec none L vs F' .normal rfl r7 (by rw[r6];decide) hp hk
   exact⟨none,w4,h1,h2⟩
  ·obtain⟨j,hpost⟩:=tM hpost
   obtain⟨vs,F',hp,hk⟩:=iK hpost |>.imp fun _ h=>h.2
   obtain⟨w4,h1,h2⟩:=fin (.loop rec) { rec with state:=.done,pending:=some (oo j) } (some (oo j)) (Lx j) vs F' (sJ j) rfl rfl (fun h=>by cases h) hp hk
   exact⟨some (oo j),w4,h1,uA j h2⟩
end
end Go.Vc
namespace Go.Vc
section sound
variable {P:Program} {A:kg}
theorem oq.mono{l l':List Nat}{σ:S}{a:Act}{I:cS}{K K':Kt}{e:Exit}{a':Act}{w':World}(h:oq l σ a I K e a' w')(hl:∀t∈l,t∈l')
  (hk:∀σ I F,K e σ I F→K' e σ I F):oq l' σ a I K' e a' w' :=
 let ⟨σ',I',F',h1,h2,h3,h4⟩:=h
 ⟨σ',I',F',h1,h2,hk _ _ _ h3,h4.mono hl⟩
theorem oq.trans{l m n:List Nat}{σ σ':S}{a a':Act}{I I':cS}{K:Kt}{e:Exit}{a'':Act}{w'':World}(hk:dc l σ a σ' a')(hI:cS.le I I')
  (h:oq m σ' a' I' K e a'' w'') (hl:∀t∈l,t∈n) (hm:∀t∈m,t∈n):oq n σ a I K e a'' w'' :=
 let ⟨σ2,I2,F2,h1,h2,h3,h4⟩:=h
 ⟨σ2,I2,F2,h1,cS.le_trans hI h2,h3,(hk.mono hl).trans (h4.mono hm)⟩
theorem tN(hP:∀f,A.good f=true→di P f):∀(c:Code) (n:Nat) (K:Kt) (rd:Option cR) (ro:Option Nat) (σ:S) (I:cS) (F:cR) (a:Act) (w:World),Ctx ro rd →
  W P A rd c n K σ I F→Rel σ I F a w→c.wpIn (Fw ro) 0 P (oq (iZ c) σ a I K) a w:=by
 intro c
 induction c with
 | skip=>intro n K rd ro σ I F a w hc h hr;exact wpIn_skip ⟨σ,I,F,hr,cS.le_refl I,h,dc.refl _ _ _⟩
 | label l=>intro n K rd ro σ I F a w hc h hr;exact wpIn_label ⟨σ,I,F,hr,cS.le_refl I,h,dc.refl _ _ _⟩
 | exit id=>intro n K rd ro σ I F a w hc h hr;exact wpIn_exit ⟨σ,I,F,hr,cS.le_refl I,h,dc.refl _ _ _⟩
 | goto l=>intro n K rd ro σ I F a w hc h hr;exact wpIn_goto ⟨σ,I,F,hr,cS.le_refl I,h,dc.refl _ _ _⟩
 | ret=>intro n K rd ro σ I F a w hc h hr;exact wpIn_ret ⟨σ,I,F,hr,cS.le_refl I,h,dc.refl _ _ _⟩
 | refuse why=>intro n K rd ro σ I F a w hc h hr;exact h.elim
 | scope c ih =>
   intro n K rd ro σ I F a w hc h hr
   refine kh (wpIn_mono (ih _ _ rd ro σ I F a w hc h hr) ?_)
   intro e a' w' ⟨σ',I',F',h1,h2,h3,h4⟩
   cases e with
   | goto l=>exact h3.elim
   | _=>exact⟨σ',I',F',h1,h2,h3,h4⟩
 | rangeFunc f ps x y ih1 ih2=>intro n K rd ro σ I F a w hc h hr;exact ry ih1 ih2 hc h hr
 | region rid ops draw =>
   intro n K rd ro σ I F a w hc h hr
   cases draw with
   | false =>
     obtain⟨hnd,h⟩:=c6 h
     have hnd':ro=none∨ops.toList.all (fun o=>nU o.op)=true:=by
      cases rd with
      | none=>exact .inl hc
      | some R=>exact .inr hnd
     refine wpIn_region_list (hU hP ops.toList 0 σ I F a w hnd' h hr ?_ ?_)
     ·exact fun σ' I' F' a' w' h1 h2 h3 h4=>⟨σ',I',F',h1,h2,h3,h4⟩
     ·exact fun ch σ' I' F' a' w' h1 h2 h3 h4=>⟨σ',I',F',h1,h2,h3,h4⟩
   | true =>
     simp only[W] at h
     split at h
     ·rename_i os t hot
      obtain⟨hb,h⟩:=c6 h
      simp only[Bool.and_eq_true] at hb
      rcases tK h with ⟨b,o,F1,hp,h⟩ | h
      ·exact qg hP hb.1 hb.2 hp h hr (fun σ' I' F' a' w' h1 h2 h3 h4=>⟨σ',I',F',h1,h2,h3,h4⟩) fun ch σ' I' F' a' w' h1 h2 h3 h4=>⟨σ',I',F',h1,h2,h3,h4⟩
      ·exact rm hP hb.1 hb.2 h hr (fun σ' I' F' a' w' h1 h2 h3 h4=>⟨σ',I',F',h1,h2,h3,h4⟩) fun ch σ' I' F' a' w' h1 h2 h3 h4=>⟨σ',I',F',h1,h2,h3,h4⟩
     split at h
     ·split at h
      ·split at h
       ·obtain⟨hb,h⟩:=c6 h
        simp only[Bool.and_eq_true] at hb
        exact sH hP hb.1 hb.2 h hr (fun σ' I' F' a' w' h1 h2 h3 h4=>⟨σ',I',F',h1,h2,h3,h4⟩) fun ch σ' I' F' a' w' h1 h2 h3 h4=>⟨σ',I',F',h1,h2,h3,h4⟩
       ·obtain⟨hb,h⟩:=c6 h
        simp only[Bool.and_eq_true] at hb
        rcases tK h with ⟨b,o,F1,hp,h⟩ | h
        ·exact rj hP hb.1 hb.2 hp h hr (fun σ' I' F' a' w' h1 h2 h3 h4=>⟨σ',I',F',h1,h2,h3,h4⟩) fun ch σ' I' F' a' w' h1 h2 h3 h4=>⟨σ',I',F',h1,h2,h3,h4⟩
        ·exact ri hP hb.1 hb.2 h hr (fun σ' I' F' a' w' h1 h2 h3 h4=>⟨σ',I',F',h1,h2,h3,h4⟩) fun ch σ' I' F' a' w' h1 h2 h3 h4=>⟨σ',I',F',h1,h2,h3,h4⟩
      ·obtain⟨hb,h⟩:=c6 h
       simp only[Bool.and_eq_true] at hb
       exact q9 hP hb.1 hb.2 h hr (fun σ' I' F' a' w' h1 h2 h3 h4=>⟨σ',I',F',h1,h2,h3,h4⟩) fun ch σ' I' F' a' w' h1 h2 h3 h4=>⟨σ',I',F',h1,h2,h3,h4⟩
     split at h
     ·obtain⟨hb,h⟩:=c6 h
      simp only[Bool.and_eq_true] at hb
      exact rb hP hb.1 hb.2.1 hb.2.2.1 hb.2.2.2 h hr (fun σ' I' F' a' w' h1 h2 h3 h4=>⟨σ',I',F',h1,h2,h3,h4⟩) fun ch σ' I' F' a' w' h1 h2 h3 h4=>⟨σ',I',F',h1,h2,h3,h4⟩
     obtain⟨hb,h⟩:=c6 h
     simp only[Bool.and_eq_true] at hb
     have hd:iZ (.region rid ops true)=dh ops.toList:=rfl
     split at h<;>exact qW hP hb.1 hb.2 h hr fun σ' F' a' w' h1 h2 h3=>⟨σ',I,F',h1,cS.le_refl I,h2,h3⟩
 | cond c x y ih1 ih2 =>
   intro n K rd ro σ I F a w hc h hr
   simp only[W] at h
   split at h
   ·rename_i b hcc
    have hev:=S.ja hr hcc
    simp only[AV.g,At.g] at hev
    refine wpIn_cond hev ?_
    cases b with
    | true=>exact wpIn_mono (ih1 _ K rd ro σ I F a w hc h hr) fun e a' w' hp=>hp.mono (fun t ht=>List.mem_append_left _ ht) fun _ _ _ h=>h
    | false=>exact wpIn_mono (ih2 _ K rd ro σ I F a w hc h hr) fun e a' w' hp=>hp.mono (fun t ht=>List.mem_append_right _ ht) fun _ _ _ h=>h
   ·exact h.elim
 | block id c ih =>
   intro n K rd ro σ I F a w hc h hr
   refine wpIn_block (wpIn_mono (ih _ _ rd ro σ I F a w hc h hr) ?_)
   intro e a' w' ⟨σ',I',F',h1,h2,h3,h4⟩
   cases e with
   | exit id' =>
     simp only[vm] at h3
     simp only[Exit.inBlock]
     by_cases hid:id'=id
     ·subst hid
      simp only[beq_self_eq_true,cond_true] at h3
      rw[if_pos rfl];exact⟨σ',I',F',h1,h2,h3,h4⟩
     ·have:(id'==id)=false:=by simpa using hid
      rw[this] at h3
      rw[if_neg hid];exact⟨σ',I',F',h1,h2,h3,h4⟩
   | _=>exact⟨σ',I',F',h1,h2,h3,h4⟩
 | seq x y ih1 ih2 =>
   intro n K rd ro σ I F a w hc h hr
   have hx:∀t∈iZ x,t∈iZ (.seq x y):=fun t ht=>List.mem_append_left _ ht
   have hy:∀t∈iZ y,t∈iZ (.seq x y):=fun t ht=>List.mem_append_right _ ht
   simp only[W] at h
   split at h
   ·refine wpIn_seq (wpIn_mono (ih1 _ _ rd ro σ I F a w hc h hr) ?_)
    intro e a' w' ⟨σ',I',F',h1,h2,h3,h4⟩
    cases e with
    | normal=>exact wpIn_mono (ih2 _ K rd ro σ' I' F' a' w' hc h3 h1) fun e a2 w2 hp=>hp.trans h4 h2 hx hy
    | _=>exact⟨σ',I',F',h1,h2,h3,h4.mono hx⟩
   ·rename_i ct hcut
    obtain⟨hok,h1,h2⟩:=c6 h
    refine wpIn_seq (wpIn_mono (ih1 _ _ rd ro _ I F a w hc h1 (hr.lock ct)) ?_)
    intro e a' w' ⟨σ',I',F',g1,g2,g3,g4⟩
    have hother:de σ (σ'.unlock σ):=dv g4.own
    cases e with
    | normal =>
      obtain⟨hokv,hInv⟩:=c6 g3
      obtain⟨hdf,hInv⟩:=rp hInv
      have hrel:Rel (σ.lay ct (iZ x) (σ'.iO ct)) I' F' a' w':=by
       refine Rel.lay ct (iZ x) hr g1 ?_ (fun t ht=>g4.tm t ht) g4.size hokv hdf
       intro i b hb
       obtain⟨b1,e1,e2,e3,e4,e5,e6⟩:=nn (c:=ct) hb
       obtain⟨b2,f1,f2,f3,f4⟩:=g4.own i b1 e1
       refine⟨b2,f1,f2.trans e2,f3.trans e3,fun hs=>?_⟩
       have:lj ct.bks [] i=none:=by
        have:=oj (bks:=ct.bks) (vs:=(σ'.iO ct).drop ct.tms.length) (us:=[]) (i:=i)
        rw[hs] at this
        cases h0:lj ct.bks [] i with
        | none=>rfl
        | some cs=>rw[h0] at this;cases this
       exact (f4 (e6 this)).2.trans e4
      have h5:=nC h2 (oh hokv) I' F' g2 hInv
      have hkeep:dc (iZ x) σ a ((σ.lay ct (iZ x) (σ'.iO ct)).unlock σ) a':=by
       refine⟨?_,g4.tm,g4.size⟩
       exact mN hok (de.refl _)
      exact wpIn_mono (ih2 _ K rd ro _ I' F' a' w' hc h5 hrel.unlock) fun e a2 w2 hp=>hp.trans hkeep g2 hx hy
    | _=>exact⟨_,I',F',g1.unlock,g2,g3,(⟨hother,g4.tm,g4.size⟩:dc (iZ x) σ a _ a').mono hx⟩
 | loop c ih =>
   intro n K rd ro σ I F a w hc h hr
   simp only[W] at h
   split at h
   ·exact h.elim
   ·rename_i ct hcut
    obtain⟨hokv,⟨m0,h0⟩,h⟩:=c6 h
    have hok:kG σ.own ct.bks=true:=by simp only[S.xc,Bool.and_eq_true] at hokv;exact hokv.2
    refine uw (fun m a1 w1=>∃vs I1 F1,Rel (σ.lay ct (iZ c) vs) I1 F1 a1 w1∧cS.le I I1∧ct.Inv (σ.fix ct) I F vs m I1 F1∧dF ct.zm vs=true ∧
     (∀t,t∉iZ c→a1.tmps[t]? = a.tmps[t]?)∧a1.tmps.size=a.tmps.size) ⟨m0,σ.iO ct,I,F, ?_,cS.le_refl I,h0,oh hokv,fun _ _=>rfl,rfl⟩ ?_
    ·exact Rel.lay ct (iZ c) hr hr (fun i b hb=>⟨b,hb,rfl,rfl,fun _=>rfl⟩) (fun _ _=>rfl) rfl hokv rfl
    ·intro m a1 w1 ⟨vs,I1,F1,r1,r2,r3,r4,r5,r6⟩
     have hb:=nC h r4 m I1 F1 r2 r3
     refine wpIn_mono (ih _ _ rd ro _ I1 F1 a1 w1 hc hb r1) ?_
     intro e a' w' ⟨σ',I',F',g1,g2,g3,g4⟩
     have hkeep:dc (iZ c) σ a (σ'.unlock σ) a':=⟨mN hok g4.own,fun t ht=>(g4.tm t ht).trans (r5 t ht),g4.size.trans r6⟩
     cases e with
     | normal =>
       obtain⟨hokv',hInv⟩:=c6 g3
       obtain⟨hdf,m',hlt,hInv⟩:=rp hInv
       refine⟨m',hlt,σ'.iO ct,I',F', ?_,cS.le_trans r2 g2,hInv,oh hokv',hkeep.tm,hkeep.size⟩
       refine Rel.lay ct (iZ c) hr g1 ?_ hkeep.tm hkeep.size hokv' hdf
       intro i b hb
       have e0:(σ.lay ct (iZ c) vs).own[i]? = some (match lj ct.bks (vs.drop ct.tms.length) (0+i) with
        | some cs=>{ b with cells:=cs.map fun v=>.a (.v v) }
        | none=>{ b with ro:=true }):=by show (dN _ _ 0 σ.own)[i]? = _;rw[eK,hb];rfl
       obtain⟨b2,f1,f2,f3,f4⟩:=g4.own i _ e0
       refine⟨b2,f1, ?_, ?_,fun hs=>?_⟩
       ·rw[f2];split<;>rfl
       ·rw[f3];split<;>rfl
       ·have hs':lj ct.bks (vs.drop ct.tms.length) (0+i)=none:=by
         rw[Nat.zero_add]
         have:=oj (bks:=ct.bks) (vs:=(σ'.iO ct).drop ct.tms.length) (us:=vs.drop ct.tms.length) (i:=i)
         rw[hs] at this
         cases h0:lj ct.bks (vs.drop ct.tms.length) i with
         | none=>rfl
         | some cs=>rw[h0] at this;cases this
        rw[hs'] at f4
        exact (f4 rfl).2
     | _=>exact⟨_,I',F',g1.unlock,cS.le_trans r2 g2,g3,hkeep⟩
def qh(P:Program)(σ:S):ResultVar→Option Value
 | .tmp t=>match σ.tm[t]? with
   | some (some av)=>some av.g
   | _=>none
 | .cell x t=>match σ.tm[x]? with
   | some (some (.a (.p i _ off))) =>
     match σ.own[i]?,o4 P t with
     | some blk,some false=>(blk.cells[off]?).map AV.g
     | some blk,some true=>match pt P t with
       | some n=>cond (((blk.cells.drop off).take n).length==n) (some (.agg (((blk.cells.drop off).take n).map AV.g).toArray)) none
       | none=>none
     | _,_=>none
   | _=>none
def kJ(P:Program)(σ:S):List ResultVar→Option (List Value)
 | []=>some []
 | r::rs=>match qh P σ r,kJ P σ rs with
   | some v,some vs=>some (v::vs)
   | _,_=>none
def sL:List Value→Value
 | [v]=>v
 | vs=>.tuple vs.toArray
def ov(a:Act):ResultVar→Sem Value
 | .tmp t=>pure (a.tmps.getD t undef)
 | .cell x t=>do loadVar t (←asAddr (a.tmps.getD x undef))
theorem sM{σ:S}{I:cS}{F:cR}{a:Act}{w:World}(hr:Rel σ I F a w){r:ResultVar}{v:Value}(h:qh P σ r=some v) :
  (ov a r).run P w=.ok v w:=by
 cases r with
 | tmp t =>
   simp only[qh] at h
   split at h
   ·rename_i av ht
    have:=hr.tm t av ht
    cases h
    simp[ov,this]
   ·cases h
 | cell x t =>
   simp only[qh] at h
   split at h
   ·rename_i i b off hx
    have hv:=hr.tm x _ hx
    have hwf:=hr.wft x _ hx
    simp only[AV.g,At.g] at hv
    have hl:jI P t σ.own i off fun y=>y.g=v:=by
     unfold jI
     split at h
     ·rename_i blk hb ha
      simp only[hb,ha]
      cases hc:blk.cells[off]? with
      | none=>rw[hc] at h;cases h
      | some av=>rw[hc] at h;simp only[Option.map_some,Option.some.injEq] at h;exact h
     ·rename_i blk hb ha
      simp only[hb,ha]
      split at h
      ·rename_i n hn
       simp only[hn]
       cases hlen:(((blk.cells.drop off).take n).length==n) with
       | false=>rw[hlen] at h;cases h
       | true=>rw[hlen] at h;simp only[cond_true,Option.some.injEq] at h;exact h
      ·cases h
     ·cases h
    obtain⟨av,hg,_,hload⟩:=ld hl
    have:=hload b hwf w fun blk hb=>hr.sat.get hb
    rw[hg] at this
    simp[ov,hv,asAddr,Sem.run_bind,this]
   ·cases h
theorem ow{σ:S}{I:cS}{F:cR}{a:Act}{w:World}(hr:Rel σ I F a w):∀{rs:List ResultVar} {vs:List Value},kJ P σ rs=some vs →
  (rs.mapM (ov a)).run P w=.ok vs w
 | [],vs,h=>by simp only[kJ,Option.some.injEq] at h;subst h;rfl
 | r::rs,vs,h=>by
   simp only[kJ] at h
   split at h
   ·rename_i v us h1 h2
    cases h
    simp[Sem.run_bind,sM hr h1,ow hr h2]
   ·cases h
theorem mQ{fn:Func}{σ:S}{I:cS}{F:cR}{a:Act}{w:World}(hr:Rel σ I F a w){vs:List Value}(h:kJ P σ fn.results.toList=some vs) :
  (results fn a.tmps).run P w=.ok (sL vs) w:=by
 have h1:=ow hr h
 have h2:results fn a.tmps=(do
   let vs ←fn.results.mapM (ov a)
   pure (if h:vs.size=1 then vs[0] else .tuple vs)):=rfl
 rw[h2,Array.mapM_eq_mapM_toList]
 simp only[Sem.run_bind,Sem.run_map,h1,Result.andThen_ok,Sem.run_pure]
 congr 1
 match vs with
 | []=>rfl
 | [v]=>rfl
 | _::_::_=>rfl
def pick(own:List dr):List Nat→List dr
 | []=>[]
 | i::r=>match own[i]? with
   | some b=>b::pick own r
   | none=>pick own r
def sN:Option (List PanicEntry)→FrameMode
 | none=>.returning
 | some ch=>.panicking ch
def fB(P:Program)(f:FuncId)(args:List Value)(u:FrameMode)(I:cS)(F:cR)(Q:Ending→FrameMode→cS→cR→Prop):Prop :=
 ∀w,Sat I F w→CallsDIn Fence.wide 0 P f args.toArray u w fun e u' w'=>∃I' F',cS.le I I'∧Sat I' F' w'∧Q e u' I' F'
def rz(P:Program)(A:kg)(rs:List ResultVar)(keep:List Nat)(Q:Ending→cS→cR→Prop):List Df→Option (List PanicEntry)→S→cS→cR→Prop
 | [],none,σ,I,F=>match kJ P σ rs with
   | some vs=>Q (.returned (sL vs)) I (da (pick σ.own keep)++F)
   | none=>False
 | [],some ch,σ,I,F=>Q (.panicked ch) I (da (pick σ.own keep)++F)
 | .mark D::r,u,σ,I,F=>∃F3:cR,F.Perm ((D,.deferred (some []))::F3)∧rz P A rs keep Q r u σ I F3
 | .fn f first cap args::r,u,σ,I,F=>cond (A.good f)
   (fB P f (first.map At.g++args++cap.map At.g) (sN u) I (da σ.own++F) fun e u' I' G=>∃v,e=.returned v ∧
     lf A.shp (zr σ.own 2 (first.flatMap At.idx++cap.flatMap At.idx)) 0 σ.own fun own'=>∃F',G.Perm (da own'++F') ∧
      ((settle u'=.returning∧rz P A rs keep Q r none { σ with own:=own' } I' F')∨(∃ch,settle u'=.panicking ch∧rz P A rs keep Q r (some ch) { σ with own:=own' } I' F'))) False
def tP(P:Program)(A:kg)(rs:List ResultVar)(keep:List Nat)(Q:Ending→cS→cR→Prop):Kt
 | .normal,σ,I,F=>rz P A rs keep Q σ.df none σ I F
 | .ret,σ,I,F=>rz P A rs keep Q σ.df none σ I F
 | .panic ch,σ,I,F=>rz P A rs keep Q σ.df (some ch) σ I F
 | _,_,_,_=>False
def v9:Nat→List Nat→Bool
 | _,[]=>true
 | n,i::r=>decide (n≤i)&&v9 (i+1) r
theorem ox:∀(keep:List Nat) (n:Nat) (own:List dr),v9 n keep=true→(pick own keep).Sublist (own.drop n)
 | [],n,own,_=>by simp[pick]
 | i::r,n,own,h=>by
   simp only[v9,Bool.and_eq_true,decide_eq_true_eq] at h
   have ih:=ox r (i+1) own h.2
   simp only[pick]
   have hd:(own.drop (i+1)).Sublist (own.drop n):=by
    have:own.drop (i+1)=(own.drop n).drop (i+1-n):=by rw[List.drop_drop];congr 1;omega
    rw[this];exact List.drop_sublist _ _
   cases hb:own[i]? with
   | none=>exact ih.trans hd
   | some b =>
     have hlt:i<own.length:=by
      rcases Nat.lt_or_ge i own.length with h' | h'
      ·exact h'
      ·simp[List.getElem?_eq_none h'] at hb
     have hc:own.drop i=b::own.drop (i+1):=by
      rw[List.drop_eq_getElem_cons hlt]
      rw[List.getElem?_eq_getElem hlt] at hb
      rw[Option.some.inj hb]
     have hd':(own.drop i).Sublist (own.drop n):=by
      have:own.drop i=(own.drop n).drop (i-n):=by rw[List.drop_drop];congr 1;omega
      rw[this];exact List.drop_sublist _ _
     exact ((List.Sublist.cons_cons b ih).trans (by rw[hc];exact List.Sublist.refl _)).trans hd'
def iu(args:List AV)(n:Nat):List (Option AV):=args.map some++List.replicate (n-args.length) none
theorem uB{shp:Nat→List Sh}{σ:S}{I I':cS}{F F' G:cR}{E:List Nat}{a:Act}{w w':World}(hr:Rel σ I F a w){own':List dr}(hsat:Sat I' G w')
  (h:own'.length=σ.own.length∧∀(j:Nat) (b:dr),σ.own[j]? = some b→∃b':dr,own'[j]? = some b'∧b'.num=b.num∧b'.elem=b.elem∧b'.ro=b.ro ∧
    ((∃vs:List Value,b'.cells=vs.map fun v=>.a (.v v))∨b'.cells=b.cells)∧(b.ro=true→b'.cells=b.cells)) (hp:G.Perm (da own'++F')):Rel { σ with own:=own' } I' F' a w':=by
 obtain⟨hl,hk⟩:=h
 have hkeep:de σ { σ with own:=own' }:=fun j b hb=>by
  obtain⟨b',h1,h2,h3,h4,_,h6⟩:=hk j b hb
  exact⟨b',h1,h2,h3,fun hro=>⟨by rw[h4];exact hro,h6 hro⟩⟩
 refine hr.heap hkeep.same ?_ (hsat.perm hp)
 intro j b' hj c hc
 have hlt:j<σ.own.length:=by
  rcases Nat.lt_or_ge j own'.length with h' | h'
  ·omega
  ·simp[List.getElem?_eq_none h'] at hj
 obtain⟨b,hb⟩:∃b,σ.own[j]? = some b:=⟨σ.own[j],by simp[hlt]⟩
 obtain⟨b'',h1,_,_,_,h5,_⟩:=hk j b hb
 rw[hj] at h1;cases h1
 rcases h5 with ⟨vs,e⟩ | e
 ·rw[e] at hc;obtain⟨v,_,e⟩:=List.mem_map.1 hc;subst e;trivial
 ·rw[e] at hc;exact AV.dS hkeep.same (hr.wfo j b hb c hc)
theorem jm(hP:∀f,A.good f=true→di P f){fn:Func}{keep:List Nat}(hk:v9 0 keep=true){Q:Ending→cS→cR→Prop}{I0:cS}:∀(df:List Df) (u:Option (List PanicEntry)) (σ:S) (I:cS) (F:cR) (a:Act) (w:World),
  rz P A fn.results.toList keep Q df u σ I F→Rel σ I F a w→cS.le I0 I→LeavesInM Fence.wide 0 P fn a.tmps (nJ I0 Q) (df.map Df.d) (sN u) w:=by
 have hsub:∀{σ:S} {I:cS} {F:cR} {a:Act} {w:World},Rel σ I F a w→Sat I (da (pick σ.own keep)++F) w:=fun {σ I F a w} h1=>by
  have h5:=ox keep 0 σ.own hk
  rw[List.drop_zero] at h5
  exact h1.sat.sub ((h5.map _).append (List.Sublist.refl F))
 intro df
 induction df with
 | nil =>
   intro u σ I F a w h hr hle
   cases u with
   | none =>
     simp only[rz] at h
     split at h
     ·rename_i vs hvs
      exact⟨_,mQ hr hvs,I,_,hle,hsub hr,h⟩
     ·exact h.elim
   | some ch=>exact⟨I,_,hle,hsub hr,h⟩
 | cons d df ih =>
   intro u σ I F a w h hr hle
   have hrun:sN u ≠ .run:=by cases u<;>exact fun h=>by cases h
   cases d with
   | mark D =>
     obtain⟨F3,hp,h⟩:=h
     have hs:Sat I ((D,.deferred (some []))::(da σ.own++F3)) w:=(hr.sat.perm (List.Perm.append_left _ hp)).perm List.perm_middle
     refine⟨hrun,.inl ⟨D,_,rfl,run_takeDeferred hs.np,ih u σ I F3 a _ h ?_ hle⟩⟩
     exact hr.heap (gi.refl _) hr.wfo ((hs.lu (o':=.deferred none)).sub (List.sublist_cons_self _ _))
   | fn f first cap args =>
     obtain⟨hg,h⟩:=c6 h
     refine⟨hrun,.inr ⟨fun h=>by simp[Fence.wide] at h,.func f,(cap.map At.g).toArray,f,(first.map At.g).toArray++args.toArray++(cap.map At.g).toArray,rfl, ?_,fun _ _=>trivial, ?_⟩⟩
     ·simp only[Df.d,invoke];exact hP f hg _ w
     ·have hc:=h w hr.sat
      have ha:(first.map At.g++args++cap.map At.g).toArray=(first.map At.g).toArray++args.toArray++(cap.map At.g).toArray:=by simp
      rw[ha] at hc
      refine hc.mono fun e u' w' ⟨I',G,hle',hs',v,he,hq⟩=>?_
      subst he
      obtain⟨own',⟨F',hp,hor⟩,hown⟩:=iN hq
      have hrel:=uB (shp:=A.shp) (E:=[]) hr hs' hown hp
      rcases hor with ⟨hm,hk2⟩ | ⟨ch,hm,hk2⟩
      ·have:=ih none _ I' F' a w' hk2 hrel (cS.le_trans hle hle')
       show LeavesInM Fence.wide 0 P fn a.tmps (nJ I0 Q) (df.map Df.d) (settle u') w'
       rw[hm];exact this
      ·have:=ih (some ch) _ I' F' a w' hk2 hrel (cS.le_trans hle hle')
       show LeavesInM Fence.wide 0 P fn a.tmps (nJ I0 Q) (df.map Df.d) (settle u') w'
       rw[hm];exact this
theorem vq(hP:∀f,A.good f=true→di P f){f:FuncId}{fn:Func}{c:Code}(hf:P.funcs[f]? = some fn)(hb:fn.body=some c){args:List AV}{own:List dr}
  {I:cS} {F:cR} {keep:List Nat} {Q:Ending→cS→cR→Prop} (hk:v9 0 keep=true) (hwa:∀x∈args,AV.wf own x) (hwo:∀b∈own,∀x∈b.cells,AV.wf own x)
  (h:W P A none c 0 (tP P A fn.results.toList keep Q) ⟨iu args fn.ntmps,own,[]⟩ I F) {vs:Array Value} (hv:vs=(args.map AV.g).toArray):cV P f vs I (da own++F) Q:=by
 subst hv
 intro w hw
 refine callsIn_wide.1 (callsIn_of_wp_marks (n:=0) hf hb trivial ?_)
 have hrel:Rel ⟨iu args fn.ntmps,own,[]⟩ I F { tmps:=(args.map AV.g).toArray++Array.replicate (fn.ntmps-(args.map AV.g).toArray.size) undef,defers:=[] } w:=by
  refine⟨by simp[iu], ?_,rfl, ?_, ?_,hw⟩
  ·intro t av ht
   simp only[iu,List.getElem?_append] at ht
   split at ht
   ·rename_i hlt
    simp only[List.getElem?_map] at ht
    cases ha:args[t]? with
    | none=>rw[ha] at ht;simp at ht
    | some x =>
      rw[ha] at ht
      simp only[Option.map_some,Option.some.injEq] at ht
      subst ht
      simp at hlt
      rw[Array.getElem?_append_left (by simpa using hlt)]
      simp[ha]
   ·rw[List.getElem?_replicate] at ht;split at ht<;>cases ht
  ·intro t av ht
   simp only[iu,List.getElem?_append] at ht
   split at ht
   ·simp only[List.getElem?_map] at ht
    cases ha:args[t]? with
    | none=>rw[ha] at ht;simp at ht
    | some x =>
      rw[ha] at ht
      simp only[Option.map_some,Option.some.injEq] at ht
      subst ht
      exact hwa _ (List.mem_of_getElem? ha)
   ·rw[List.getElem?_replicate] at ht;split at ht<;>cases ht
  ·exact fun i b hb' x hx=>hwo b (List.mem_of_getElem? hb') x hx
 refine wpIn_mono (tN hP c 0 _ none none _ I F _ w rfl h hrel) ?_
 intro e a' w' ⟨σ',I',F',h1,h2,h3,h4⟩
 cases e with
 | normal =>
   have:=jm hP hk σ'.df none σ' I' F' a' w' h3 h1 h2
   rw[←h1.defers] at this;exact this
 | ret =>
   have:=jm hP hk σ'.df none σ' I' F' a' w' h3 h1 h2
   rw[←h1.defers] at this;exact this
 | panic ch =>
   have:=jm hP hk σ'.df (some ch) σ' I' F' a' w' h3 h1 h2
   rw[←h1.defers] at this;exact this
 | exit id=>exact h3.elim
 | goto l=>exact h3.elim
 | outgrown=>exact h3.elim
end sound
def oy(P:Program)(f:Nat):Bool :=
 match P.funcs[f]? with
 | some fn=>!(fn.name == "runtime.NumGoroutine")&&fn.body.isSome
 | none=>false
theorem fV{P:Program}{f:Nat}(h:oy P f=true):di P f:=by
 intro args w
 unfold oy at h
 split at h
 ·rename_i fn hf
  simp only[Bool.and_eq_true,Bool.not_eq_true'] at h
  have h1:¬fn.name = "runtime.NumGoroutine" := by simpa using h.1
  have h2:¬fn.body=none:=fun e=>by rw[e] at h;simp at h
  simp[callFunc,program,Sem.run_bind,Sem.run,hf,h1,h2]
 ·cases h
def lk(l:List (Nat×List Sh))(t:Nat):List Sh :=
 match l with
 | []=>[]
 | (s,x)::r=>cond (s==t) x (lk r t)
def lx:List Nat→Nat→Bool
 | [],_=>false
 | x::r,n=>x==n||lx r n
def z3(l:List (Nat×Cut))(n:Nat):Option Cut :=
 match l with
 | []=>none
 | (m,c)::r=>cond (m==n) (some c) (z3 r n)
def z4(l:List (Nat×Nat×List Nat))(n:Nat):Option (Nat×List Nat) :=
 match l with
 | []=>none
 | (m,k,h)::r=>cond (m==n) (some (k,h)) (z4 r n)
theorem mR{P:Program}(l:List Nat)(h:l.all (oy P)=true):∀f,lx l f=true→di P f:=by
 intro f hf
 have:f∈l:=by
  clear h
  induction l with
  | nil=>simp[lx] at hf
  | cons x r ih =>
    simp only[lx,Bool.or_eq_true,beq_iff_eq] at hf
    rcases hf with hf | hf
    ·exact hf▸List.mem_cons_self ..
    ·exact List.mem_cons_of_mem _ (ih hf)
 exact fV (List.all_eq_true.1 h f this)
abbrev cW:=Ending→cS→cR→Prop
def eU(sp pn gd:List Nat)(sh:List (Nat×List Sh))(ct:List (Nat×Cut))(pr rl:List Nat)(ds:List (Nat×Nat×List Nat))(fv:List Nat)(sq:List (Nat×List Nat))(tl:List (Nat×Nat))(s2:List (Nat×Nat×Nat×List Nat×List Nat):=[])(ol:List (Nat×List Nat×Nat):=[])(ot:List (Nat×List Nat×Ot):=[]):kg :=
 { sp:=fun r i=>lx sp (r*1000+i),pn:=lx pn,good:=lx gd,shp:=lk sh,cut:=z3 ct,pr:=fun r i=>lx pr (r*1000+i),ds:=z4 ds,rl:=fun r i=>lx rl (r*1000+i),fv:=fun r i=>lx fv (r*1000+i),sq:=zX sq,tl:=z1 tl,s2:=zY s2,ol:=z0 ol,ot:=zZ ot }
theorem rA{P:Program}{A:kg}{f:FuncId}{fn:Func}{args:List AV}{own:List dr}{I:cS}{F:cR}{keep:List Nat}{Q:cW}{V:Prop}(gd:List Nat)(hf:P.funcs[f]? = some fn)(h:V)
  (e:W P A none (fn.body.getD .skip) 0 (tP P A fn.results.toList keep Q) ⟨iu args fn.ntmps,own,[]⟩ I F=V) (hg:A.good=lx gd) (hG:gd.all (oy P)=true) (hb:fn.body=some (fn.body.getD .skip)) (hk:v9 0 keep=true)
  (hwa:∀x∈args,AV.wf own x) (hwo:∀b∈own,∀x∈b.cells,AV.wf own x) {vs:Array Value} (hv:vs=(args.map AV.g).toArray):cV P f vs I (da own++F) Q :=
 vq (fun f hf'=>mR gd hG f (by rw[←hg];exact hf')) hf hb hk hwa hwo (by rw[e];exact h) hv
theorem tv{P:Program}{A:kg}{f:FuncId}{fn:Func}{args:List AV}{own:List dr}{I:cS}{F:cR}{keep:List Nat}{Q:cW}{V:Prop}(gd:List Nat)(hf:P.funcs[f]? = some fn)(h:V)
  (e:W P A none (fn.body.getD .skip) 0 (tP P A fn.results.toList keep Q) ⟨iu args fn.ntmps,own,[]⟩ I F=V:=by kernel_rfl) (hg:A.good=lx gd:=by kernel_rfl) (hG:gd.all (oy P)=true:=by kernel_rfl) (hb:fn.body=some (fn.body.getD .skip):=by kernel_rfl) (hk:v9 0 keep=true:=by kernel_rfl)
  (hwa:∀x∈args,AV.wf own x:=by simp[AV.wf,At.wf]) (hwo:∀b∈own,∀x∈b.cells,AV.wf own x:=by simp[AV.wf,At.wf]) {vs:Array Value} (hv:vs=(args.map AV.g).toArray:=by rfl):cV P f vs I (da own++F) Q :=
 rA gd hf h e hg hG hb hk hwa hwo hv
abbrev Bs:=ByteArray
abbrev OA:=Option Addr
abbrev nB:ByteArray:=⟨#[]⟩
abbrev It(c:Bool)(A B:Prop):Prop:=(c=true→A)∧(c=false→B)
abbrev Dt(p:Prop)[Decidable p](A B:Prop):Prop:=(decide p=true→A)∧(decide p=false→B)
abbrev k6{α:Type}(P:Program)(f:FuncId)(x:Array Value)(I:cS)(h:cR→cR)(F:cR)(v:α→Value)(k:α→cS→cR→Prop):Prop:=cV P f x I (h F) fun e I' G=>∃r:α,e=.returned (v r)∧∃F':cR,List.Perm G (h F')∧k r I' F'
abbrev sk(P:Program)(f:FuncId)(x:Array Value)(I:cS)(h:cR→cR)(F:cR)(R:Ending→cS→((cR→Prop)→Prop)→Prop):Prop:=cV P f x I (h F) fun e I' G=>R e I' fun k=>∃F':cR,List.Perm G (h F')∧k F'
abbrev an(g:List Nat)(c:List Nat)(s:List (Nat×List Sh)):kg:=eU g [] c s [] [] [] [] [] [] []
theorem tw{P:Program}{A:kg}{f:FuncId}{fn:Func}{vs:List Value}{I:cS}{F:cR}{Q:cW}{V:Prop}(gd:List Nat)(hf:P.funcs[f]? = some fn)(h:V)
  (e:W P A none (fn.body.getD .skip) 0 (tP P A fn.results.toList [] Q) ⟨iu (vs.map fun v=>.a (.v v)) fn.ntmps,[],[]⟩ I F=V:=by kernel_rfl) (hg:A.good=lx gd:=by kernel_rfl) (hG:gd.all (oy P)=true:=by kernel_rfl) (hb:fn.body=some (fn.body.getD .skip):=by kernel_rfl)
  : cV P f vs.toArray I F Q :=
 rA (args:=vs.map fun v=>.a (.v v)) (own:=[]) (keep:=[]) gd hf h e hg hG hb rfl (by intro x hx;obtain⟨v,_,rfl⟩:=List.mem_map.1 hx;simp[AV.wf,At.wf]) (by simp) (by rw[List.map_map];congr 1;exact (List.map_id _).symm)
end Go.Vc
namespace Go.Vc
theorem oz{α β:Type}(f:α→List β)(z:Nat)(hz:∀x,(f x).length=z):∀(l:List α) (i:Nat) (x:α) (j:Nat),l[i]? = some x→j<z→(l.flatMap f)[i*z+j]? = (f x)[j]?
 | [],i,x,j,h,_=>by simp at h
 | y::l,0,x,j,h,hj=>by
   simp at h;subst h
   rw[List.flatMap_cons,List.getElem?_append_left (by rw[hz];omega)];simp
 | y::l,i+1,x,j,h,hj=>by
   rw[List.flatMap_cons,List.getElem?_append_right (by rw[hz,Nat.succ_mul];omega),hz,show (i+1)*z+j-z=i*z+j by rw[Nat.succ_mul];omega]
   exact oz f z hz l i x j (by simpa using h) hj
def Sl{α:Type}(I:cS)(z:Nat)(f:α→List Value)(a:Option Addr)(n:Nat)(l:List α):Prop :=
 n=l.length∧(l≠[]→∃ad,a=some ad∧∀(i:Nat) (x:α),l[i]? = some x→∀G,Rd I G (ad.add (i*z)) (f x))
theorem Rd.le{I J:cS}{G:cR}{ad:Addr}{cs:List Value}(h:Rd I G ad cs)(hl:∀b o,(I b=some o∨(b,o)∈G)→J b=some o∨(b,o)∈G):Rd J G ad cs:=by
 obtain⟨h1,cells,e,fz,h2,h3⟩:=h
 exact⟨h1,cells,e,fz,hl _ _ h2,h3⟩
theorem Rd.mono{I J:cS}{G:cR}{ad:Addr}{cs:List Value}(h:Rd I G ad cs)(hl:cS.le I J):Rd J G ad cs :=
 h.le fun b o hb=>hb.imp (fun h=>hl.at h) id
theorem Sl.mono{α:Type}{I J:cS}{z:Nat}{f:α→List Value}{a:Option Addr}{n:Nat}{l:List α}(h:Sl I z f a n l)(hl:cS.le I J):Sl J z f a n l :=
 ⟨h.1,fun hne=>let ⟨ad,ha,hr⟩:=h.2 hne;⟨ad,ha,fun i x hx G=>(hr i x hx G).mono hl⟩⟩
theorem Sl.ly{α:Type}{I:cS}{z:Nat}{f:α→List Value}(hz:∀x,(f x).length=z){b e:Nat}{fz:Nat×Nat}{l:List α}{cells:Array Value}(h:I b=some (.cells cells e fz))
  (hc:∀k,k<(l.flatMap f).length→cells[k]? = (l.flatMap f)[k]?):Sl I z f (some ⟨b,0,none⟩) l.length l:=by
 refine⟨rfl,fun hne=>⟨_,rfl,fun i x hx G=>?_⟩⟩
 have hadd:(⟨b,0,none⟩:Addr).add (i*z)=⟨b,i*z,none⟩:=by unfold Addr.add;split<;>simp_all
 rw[hadd]
 refine⟨rfl,cells,e,fz,.inl h,fun j hj=>?_⟩
 rw[hz] at hj
 have h1:=oz f z hz l i x j hx hj
 have h2:(l.flatMap f)[i*z+j]? ≠ none:=by
  rw[h1];rw[List.getElem?_eq_getElem (by rw[hz];exact hj)];simp
 have hlt:i*z+j<(l.flatMap f).length:=by
  rcases Nat.lt_or_ge (i*z+j) (l.flatMap f).length with h | h
  ·exact h
  ·exact absurd (List.getElem?_eq_none h) h2
 show cells[i*z+j]? = _
 rw[hc _ hlt,h1]
theorem Sl.jM{α:Type}{I:cS}{z:Nat}{f:α→List Value}(hz:∀x,(f x).length=z){b e:Nat}{fz:Nat×Nat}{l:List α}{cells:Array Value}(h:I b=some (.cells cells e fz))
  (hc:cells.toList=l.flatMap f):Sl I z f (some ⟨b,0,none⟩) l.length l :=
 Sl.ly hz h fun k _=>by rw[←hc];simp
theorem Sl.at{α:Type}{I:cS}{z:Nat}{f:α→List Value}{a:Option Addr}{n:Nat}{l:List α}(h:Sl I z f a n l){i:Int}(h0:0≤i)(h1:i<n) :
  ∃ad x,a=some ad∧l[i.toNat]? = some x∧∀G,Rd I G (ad.add (Int.toNat i*z)) (f x):=by
 have hlt:i.toNat<l.length:=by have:=h.1;omega
 obtain⟨ad,ha,hr⟩:=h.2 (by intro e;rw[e] at hlt;simp at hlt)
 exact⟨ad,l[i.toNat],ha,by simp[hlt],fun G=>hr _ _ (by simp[hlt]) G⟩
def Acc{α:Type}(z:Nat)(f:α→List Value)(e:Nat)(a:Option Addr)(n c:Nat)(l:List α)(A:cR):Prop :=
 n=l.length∧((a=none∧c=0∧l=[]∧A=[]) ∨
  ∃b cells,a=some ⟨b,0,none⟩∧A=[(b,Obj.cells cells e (0,0))]∧cells.size=c*z∧n≤c∧cells.toList.take (n*z)=l.flatMap f)
theorem Acc.nil{α:Type}{z:Nat}{f:α→List Value}{e:Nat}:Acc z f e none 0 0 ([]:List α) []:=⟨rfl,.inl ⟨rfl,rfl,rfl,rfl⟩⟩
theorem sO(w:World)(g:Nat)(old cs:Array Value)(t:TypeId)(fr:Nat×Nat)(hg:w.heap[g]? = some (.cells old t fr)):(w.setRow g cs).heap=w.heap.setIfInBounds g (.cells cs t fr):=by
 apply Array.ext_getElem?
 intro j
 rw[Array.getElem?_setIfInBounds]
 by_cases h:g=j
 ·subst h
  have hlt:g<w.heap.size:=(Array.getElem?_eq_some_iff.1 hg).1
  rw[if_pos rfl,if_pos hlt];exact setRow_heap w g old cs t fr hg
 ·rw[if_neg h];exact setRow_other w g j cs (Ne.symm h)
theorem iQ{α β:Type}{f:α→List β}{z:Nat}(hz:∀x,(f x).length=z):∀l:List α,(l.flatMap f).length=l.length*z
 | []=>by simp
 | x::l=>by rw[List.flatMap_cons,List.length_append,hz,iQ hz l,List.length_cons,Nat.succ_mul,Nat.add_comm]
theorem rB{P:Program}{α:Type}{z:Nat}{f:α→List Value}(hz:∀x,(f x).length=z)(t ty e:TypeId)(i:TypeInfo)(zv:Value)(ht:P.underlying t=some (.slice e))(hi:P.info? e=some i)(hzv:i.zero=some zv)(hsz:i.size=z)(hzs:zv.cells.size=z)(hb:1≤i.bytes)
  {a:Option Addr} {n c:Nat} {l:List α} {A:cR} (hA:Acc z f e a n c l A) {xs:List α} (h1:∀x∈xs,∀u∈f x,u.oneCell'=true) (hx:xs≠[]) {sa:Addr} {m sc:Nat} (hm:m=xs.length) {I:cS} {F:cR}
  (hr:Rd I (A++F) sa (xs.flatMap f)) (hfit:(l.length+xs.length)*i.bytes≤140737488355328) :
  dW P (Builtin.append_ #[t,t] ty #[.slice a n c,.slice (some sa) m sc]) I (A++F) fun v I' G=>∃a' n' c' A',v=.slice a' n' c'∧Acc z f e a' n' c' (l++xs) A'∧G=A'++F∧(a'=a∨Sl I' z f a n l):=by
 intro w hw
 subst hsz
 have hlen:(xs.flatMap f).length=m*i.size:=by rw[iQ hz,hm]
 have hnews:∀j u,(xs.flatMap f)[j]? = some u→w.cell? (sa.add j)=some u:=fun j u hj=>by
  rw[hr.cell hw j (by
   rcases Nat.lt_or_ge j (xs.flatMap f).length with h | h
   ·exact h
   ·rw[List.getElem?_eq_none h] at hj;cases hj),hj]
 have h1':∀u∈xs.flatMap f,u.oneCell'=true:=fun u hu=>by
  obtain⟨x,hxm,hu⟩:=List.mem_flatMap.1 hu
  exact h1 x hxm u hu
 have hxp:0<xs.length:=List.length_pos_iff.2 hx
 have hle:l.length+xs.length≤140737488355328:=Nat.le_trans (Nat.le_mul_of_pos_right _ hb) hfit
 obtain⟨hn,⟨ha,hc,hl,hA⟩ | ⟨b,cells,ha,hA,hcs,hnc,htk⟩⟩:=hA
 ·subst ha hc hl hA
  simp only[List.length_nil,Nat.zero_add,List.nil_append] at hfit hn hle ⊢
  subst hn
  have hrun:=run_append_nil (P:=P) w t ty e i zv ht hi hzv sa m sc _ hlen hnews (by omega) (by omega) (by rw[hm];omega)
  have hge:=grownCap_ge w m 0 e
  have hsat:Sat I F w.drew:=hw.of_heap rfl ⟨rfl,rfl⟩
  refine⟨_,_,I,_,hrun,cS.le_refl I,hsat.alloc _,_,_,_,[_],rfl,⟨hm,.inr ⟨_,_,rfl,rfl, ?_,hge, ?_⟩⟩,rfl, ?_⟩
  ·simp only[Array.size_append,List.size_toArray,size_zeroCells,hzs,hlen,←Nat.add_mul]
   congr 1;omega
  ·rw[Array.toList_append,←hlen];exact List.take_left
  ·exact .inr ⟨rfl,fun h=>absurd rfl h⟩
 ·subst ha hA
  have hflat:(l.flatMap f).length=n*i.size:=by rw[iQ hz,hn]
  have hg:w.heap[b]? = some (.cells cells e (0,0)):=hw.own _ _ (List.mem_cons_self ..)
  by_cases hroom:n+m≤c
  ·have hfit2:n*i.size+(xs.flatMap f).length≤cells.size:=by rw[hlen,hcs,←Nat.add_mul];exact Nat.mul_le_mul_right _ hroom
   have hrun:=run_append_room (P:=P) w t ty e i ht hi b n c cells hg sa m sc _ hlen hnews h1' hroom hfit2
   refine⟨_,_,I,_,hrun,cS.le_refl I,hw.set (sO w b cells _ e (0,0) hg) ⟨rfl,rfl⟩,_,_,_,[_],rfl,⟨by rw[List.length_append];omega,.inr ⟨_,_,rfl,rfl, ?_,hroom, ?_⟩⟩,rfl,.inl rfl⟩
   ·simp only[List.size_toArray,List.length_append,List.length_take,List.length_drop,Array.length_toList]
    omega
   ·rw[htk,List.flatMap_append,Nat.add_mul,←hflat,←hlen,←List.length_append]
    exact List.take_left
  ·have hcell:∀j u,(l.flatMap f)[j]? = some u→w.cell? ((⟨b,0,none⟩:Addr).add j)=some u:=fun j u hj=>by
    have hadd:(⟨b,0,none⟩:Addr).add j=⟨b,j,none⟩:=by unfold Addr.add;split<;>simp_all
    rw[hadd,cell_of_row w b j cells e (0,0) hg]
    rw[←htk,List.getElem?_take] at hj
    split at hj
    ·simpa using hj
    ·cases hj
   have hrun:=run_append_grow (P:=P) w t ty e i zv ht hi hzv ⟨b,0,none⟩ n c _ hflat hcell sa m sc _ hlen hnews (by omega) (by omega) (growslice_fits (by omega) (by rw[hn,hm];exact hfit))
   have hge:=grownCap_ge w (n+m) c e
   obtain⟨hle',hprom⟩:=(hw.of_heap rfl ⟨rfl,rfl⟩:Sat I ((b,Obj.cells cells e (0,0))::F) w.drew).gK
   refine⟨_,_,_,_,hrun,hle',hprom.alloc _,_,_,_,[_],rfl,⟨by rw[List.length_append];omega,.inr ⟨_,_,rfl,rfl, ?_,hge, ?_⟩⟩,rfl,.inr ?_⟩
   ·simp only[Array.size_append,List.size_toArray,size_zeroCells,hzs,hflat,hlen,←Nat.add_mul]
    congr 1;omega
   ·simp only[Array.toList_append]
    rw[List.flatMap_append,Nat.add_mul,←hflat,←hlen,←List.length_append]
    exact List.take_left
   ·rw[hn]
    refine Sl.ly hz (cS.jH _ _ _) fun k hk=>?_
    rw[←htk,List.getElem?_take,if_pos]
    ·simp
    ·rw[iQ hz,←hn] at hk;exact hk
theorem lz{P:Program}{α:Type}{z:Nat}{f:α→List Value}(hz:∀x,(f x).length=z){t ty e:TypeId}{zv:Value}{by':Nat}(ht:P.underlying t=some (.slice e))(hi:(P.info? e).map (fun i=>(i.zero,i.size,i.bytes))=some (some zv,z,by'))(hzs:zv.cells.size=z)(hb:1≤by')
  {a:Option Addr} {n c:Nat} {l:List α} {A:cR} (hA:Acc z f e a n c l A) {xs:List α} (h1:∀x∈xs,∀u∈f x,u.oneCell'=true) (hx:xs≠[]) {sa:Addr} {m sc:Nat} (hm:m=xs.length) {I:cS} {F:cR}
  (hr:Rd I (A++F) sa (xs.flatMap f)) (hfit:(l.length+xs.length)*by'≤140737488355328) :
  dW P (Builtin.append_ #[t,t] ty #[.slice a n c,.slice (some sa) m sc]) I (A++F) fun v I' G=>∃a' n' c' A',v=.slice a' n' c'∧Acc z f e a' n' c' (l++xs) A'∧G=A'++F∧(a'=a∨Sl I' z f a n l):=by
 cases h:P.info? e with
 | none=>rw[h] at hi;cases hi
 | some i =>
   rw[h] at hi
   simp only[Option.map_some,Option.some.injEq,Prod.mk.injEq] at hi
   exact rB hz t ty e i zv ht h hi.1 hi.2.1 hzs (by omega) hA h1 hx hm hr (by rw[hi.2.2];exact hfit)
theorem dW.perm{P:Program}{s:Sem Value}{I:cS}{F G:cR}{Q:Value→cS→cR→Prop}(h:dW P s I F Q)(p:G.Perm F):dW P s I G Q:=fun w hw=>h w (hw.perm p)
theorem cV.perm{P:Program}{f:FuncId}{args:Array Value}{I:cS}{F G:cR}{Q:Ending→cS→cR→Prop}(h:cV P f args I F Q)(p:G.Perm F):cV P f args I G Q:=fun w hw=>h w (hw.perm p)
theorem cV.keep{P:Program}{f:FuncId}{args:Array Value}{I:cS}{F:cR}{Q Q':Ending→cS→cR→Prop}(h:cV P f args I F Q)
  (k:∀e I' G w,cS.le I I'→Sat I' G w→Q e I' G→∃J G',cS.le I' J∧Sat J G' w∧Q' e J G'):cV P f args I F Q' :=
 fun w hw=>(h w hw).mono fun e w' ⟨I',G,hl,hs,hq⟩=>let ⟨J,G',hl',hs',hq'⟩:=k e I' G w' hl hs hq;⟨J,G',cS.le_trans hl hl',hs',hq'⟩
theorem Acc.keep{α:Type}{z:Nat}{f:α→List Value}(hz:∀x,(f x).length=z){e:Nat}{a:Option Addr}{n c:Nat}{l:List α}{A F:cR}(h:Acc z f e a n c l A){I:cS}{w:World}(hw:Sat I (A++F) w) :
  ∃J,cS.le I J∧Sat J F w∧Sl J z f a n l:=by
 obtain⟨hn,⟨ha,hc,hl,hA⟩ | ⟨b,cells,ha,hA,hcs,hnc,htk⟩⟩:=h
 ·subst ha hc hl hA hn
  exact⟨I,cS.le_refl I,hw,rfl,fun h=>absurd rfl h⟩
 ·subst ha hA
  obtain⟨h1,h2⟩:=hw.gK
  refine⟨_,h1,h2, ?_⟩
  rw[hn]
  refine Sl.ly hz (cS.jH _ _ _) fun k hk=>?_
  rw[←htk,List.getElem?_take,if_pos]
  ·simp
  ·rw[iQ hz,←hn] at hk;exact hk
def qM{α:Type}(I:cS)(G:cR)(z:Nat)(f:α→List Value)(a:Option Addr)(n:Nat)(l:List α):Prop :=
 n=l.length∧(l≠[]→∃ad,a=some ad∧∀(i:Nat) (x:α),l[i]? = some x→Rd I G (ad.add (i*z)) (f x))
theorem qM.at{α:Type}{I:cS}{G:cR}{z:Nat}{f:α→List Value}{a:Option Addr}{n:Nat}{l:List α}(h:qM I G z f a n l){i:Int}(h0:0≤i)(h1:i<n) :
  ∃ad x,a=some ad∧l[i.toNat]? = some x∧Rd I G (ad.add (Int.toNat i*z)) (f x):=by
 have hlt:i.toNat<l.length:=by have:=h.1;omega
 obtain⟨ad,ha,hr⟩:=h.2 (by intro e;rw[e] at hlt;simp at hlt)
 exact⟨ad,l[i.toNat],ha,by simp[hlt],hr _ _ (by simp[hlt])⟩
theorem qM.xG{α:Type}{I:cS}{G:cR}{z:Nat}{f:α→List Value}(hz:∀x,(f x).length=z){b e:Nat}{fz:Nat×Nat}{l:List α}{cells:Array Value}(h:(b,Obj.cells cells e fz)∈G)
  (hc:∀k,k<(l.flatMap f).length→cells[k]? = (l.flatMap f)[k]?):qM I G z f (some ⟨b,0,none⟩) l.length l:=by
 refine⟨rfl,fun hne=>⟨_,rfl,fun i x hx=>?_⟩⟩
 have hadd:(⟨b,0,none⟩:Addr).add (i*z)=⟨b,i*z,none⟩:=by unfold Addr.add;split<;>simp_all
 rw[hadd]
 refine⟨rfl,cells,e,fz,.inr h,fun j hj=>?_⟩
 rw[hz] at hj
 have h1:=oz f z hz l i x j hx hj
 have h2:(l.flatMap f)[i*z+j]? ≠ none:=by
  rw[h1];rw[List.getElem?_eq_getElem (by rw[hz];exact hj)];simp
 have hlt:i*z+j<(l.flatMap f).length:=by
  rcases Nat.lt_or_ge (i*z+j) (l.flatMap f).length with h | h
  ·exact h
  ·exact absurd (List.getElem?_eq_none h) h2
 show cells[i*z+j]? = _
 rw[hc _ hlt,h1]
theorem Acc.z5{α:Type}{z:Nat}{f:α→List Value}(hz:∀x,(f x).length=z){e:Nat}{a:Option Addr}{n c:Nat}{l:List α}{A:cR}(h:Acc z f e a n c l A)(I:cS){G:cR}(hs:∀x,x∈A→x∈G):qM I G z f a n l:=by
 obtain⟨hn,⟨ha,hc,hl,hA⟩ | ⟨b,cells,ha,hA,hcs,hnc,htk⟩⟩:=h
 ·subst hl hn;exact⟨rfl,fun h=>absurd rfl h⟩
 ·subst ha hA
  rw[hn]
  refine qM.xG hz (hs _ (List.mem_cons_self ..)) fun k hk=>?_
  rw[←htk,List.getElem?_take,if_pos]
  ·simp
  ·rw[iQ hz,←hn] at hk;exact hk
theorem Rd.field{I:cS}{G:cR}{ad:Addr}{cs:List Value}(h:Rd I G ad cs){o:Nat}{v:Value}(hv:cs[o]? = some v):Rd I G (ad.add o) [v]:=by
 obtain⟨h1,cells,e,fz,h2,h3⟩:=h
 have hadd:ad.add o=⟨ad.block,ad.off+o,none⟩:=by
  obtain⟨b,off,sp⟩:=ad
  simp only at h1;subst h1
  unfold Addr.add;split<;>simp_all
 rw[hadd]
 refine⟨rfl,cells,e,fz,h2,fun j hj=>?_⟩
 have:j=0:=by simpa using hj
 subst this
 have hlt:o<cs.length:=by
  rcases Nat.lt_or_ge o cs.length with h | h
  ·exact h
  ·rw[List.getElem?_eq_none h] at hv;cases hv
 show cells[ad.off+o+0]? = _
 rw[Nat.add_zero,h3 o hlt,hv];rfl
theorem Rd.dp{I:cS}{G:cR}{ad:Addr}{cs:List Value}(h:Rd I G ad cs){p q:Nat}{v:Value}(hv:cs[p+q]? = some v):Rd I G ((ad.add p).add q) [v]:=by
 have h1:=h.field hv
 have hsp:=h.1
 have:(ad.add p).add q=ad.add (p+q):=by
  obtain⟨b,off,sp⟩:=ad
  simp only at hsp;subst hsp
  unfold Addr.add;simp only;repeat' split
  all_goals simp_all<;>omega
 rw[this];exact h1
theorem eE(b i:Nat):(⟨b,0,none⟩:Addr).add i=⟨b,i,none⟩:=by unfold Addr.add;split<;>simp_all
section
open Classical
noncomputable def cn(a:Nat×Obj)(l:cR):Nat:=l.countP fun x=>decide (x=a)
noncomputable def on(a x:Nat×Obj):Nat:=if x=a then 1 else 0
theorem cX(a:Nat×Obj)(l m:cR):cn a (l++m)=cn a l+cn a m:=List.countP_append
theorem cU(a x:Nat×Obj)(l:cR):cn a (x::l)=on a x+cn a l:=by
 unfold cn on;rw[List.countP_cons];simp only[decide_eq_true_eq];omega
theorem cY(a:Nat×Obj):cn a []=0:=rfl
theorem qi{l m:cR}(h:l.Perm m)(a:Nat×Obj):cn a l=cn a m:=h.countP_eq _
noncomputable def wu:DecidableEq (Nat×Obj):=fun x y=>propDecidable (x=y)
theorem cT{l m:cR}(h:∀a,cn a l=cn a m):l.Perm m:=by
 refine (@List.perm_iff_count (Nat×Obj) (@instBEqOfDecidableEq _ wu) (@instLawfulBEq _ wu) l m).2 fun a=>?_
 have h1:∀l:cR,@List.count _ (@instBEqOfDecidableEq _ wu) a l=cn a l:=fun l=>by
  unfold List.count cn
  congr 1
  funext x
  show @decide (x=a) (wu x a)=decide (x=a)
  congr
 rw[h1,h1];exact h a
end
theorem Rd.sP{I:cS}{b t:Nat}{fz:Nat×Nat}{cells:Array Value}(h:I b=some (.cells cells t fz))(G:cR)(o:Nat){cs:List Value}(hc:∀j,j<cs.length→cells[o+j]? = cs[j]?):Rd I G (⟨b,o,none⟩:Addr) cs:=⟨rfl,cells,t,fz,.inl h,hc⟩
theorem Rd.vr{I:cS}{b t:Nat}{fz:Nat×Nat}{cells:Array Value}{G:cR}(h:(b,Obj.cells cells t fz)∈G)(o:Nat){cs:List Value}(hc:∀j,j<cs.length→cells[o+j]? = cs[j]?):Rd I G (⟨b,o,none⟩:Addr) cs:=⟨rfl,cells,t,fz,.inr h,hc⟩
end Go.Vc
namespace Go.Lx
open Go.Vc
def ia(c:Int):Bool:=decide (97≤c)&&decide (c≤122)
def dm(c:Int):Bool:=decide (48≤c)&&decide (c≤57)
def eu(c:Int):Bool:=ia c||dm c||(c==95)
def mf(c:Int):Bool:=c != 10
def uC(p:Int→Bool)(s:ByteArray):Nat→Int→Int
 | 0,i=>i
 | n+1,i=>if p (bt s i) then uC p s n (i+1) else i
def dx(p:Int→Bool)(s:ByteArray)(i:Int):Int:=uC p s (s.size-i).toNat i
theorem j2{p:Int→Bool}{s:ByteArray}{i:Int}(h:(s.size:Int)≤i):dx p s i=i:=by
 unfold dx;rw[show ((s.size:Int)-i).toNat=0 by omega];rfl
theorem dO{p:Int→Bool}{s:ByteArray}{i:Int}(h:i<(s.size:Int)):dx p s i=if p (bt s i) then dx p s (i+1) else i:=by
 unfold dx
 obtain⟨n,hn⟩:∃n,((s.size:Int)-i).toNat=n+1:=⟨((s.size:Int)-i).toNat-1,by omega⟩
 rw[hn,show ((s.size:Int)-(i+1)).toNat=n by omega];rfl
theorem tQ(p:Int→Bool)(s:ByteArray):∀(n:Nat) (i:Int),i≤uC p s n i∧uC p s n i≤i+n
 | 0,i=>by simp[uC]
 | n+1,i=>by
   have:=tQ p s n (i+1)
   unfold uC;split<;>omega
theorem fm{p:Int→Bool}{s:ByteArray}{i:Int}(h:i≤(s.size:Int)):i≤dx p s i∧dx p s i≤s.size:=by
 have:=tQ p s (s.size-i).toNat i
 unfold dx;omega
theorem iv{p:Int→Bool}{s:ByteArray}{i:Int}(h:i≤(s.size:Int))(hl:dx p s i<s.size):p (bt s (dx p s i))=false:=by
 obtain⟨n,hn⟩:∃n:Nat,n=(s.size-i).toNat:=⟨_,rfl⟩
 induction n generalizing i with
 | zero=>rw[j2 (by omega)] at hl;omega
 | succ n ih =>
   rw[dO (by omega)] at hl ⊢
   split at hl
   ·rename_i hp;rw[if_pos hp];exact ih (by omega) hl (by omega)
   ·rename_i hp;rw[if_neg hp];simpa using hp
def blank(c:Int):Bool:=c==32||c==9||c==10||c==13
def oA(c:Int)(r:Bool):Bool:=if c=35 then true else if c=10 then false else r
def pJ(s:ByteArray):Nat→Bool→Int→Int
 | 0,_,i=>i
 | n+1,r,i=>if !(oA (bt s i) r) && !blank (bt s i) then i else pJ s n (oA (bt s i) r) (i+1)
def kr(s:ByteArray)(r:Bool)(i:Int):Int:=pJ s (s.size-i).toNat r i
def dj(s:ByteArray)(i:Int):Int:=kr s false i
theorem iR{s:ByteArray}{r:Bool}{i:Int}(h:(s.size:Int)≤i):kr s r i=i:=by
 unfold kr;rw[show ((s.size:Int)-i).toNat=0 by omega];rfl
theorem fo{s:ByteArray}{r:Bool}{i:Int}(h:i<(s.size:Int)):kr s r i =
  if !(oA (bt s i) r) && !blank (bt s i) then i else kr s (oA (bt s i) r) (i+1):=by
 unfold kr
 obtain⟨n,hn⟩:∃n,((s.size:Int)-i).toNat=n+1:=⟨((s.size:Int)-i).toNat-1,by omega⟩
 rw[hn,show ((s.size:Int)-(i+1)).toNat=n by omega];rfl
theorem rC(s:ByteArray):∀(n:Nat) (r:Bool) (i:Int),i≤pJ s n r i∧pJ s n r i≤i+n
 | 0,r,i=>by simp[pJ]
 | n+1,r,i=>by
   unfold pJ
   have:=rC s n (oA (bt s i) r) (i+1)
   split<;>omega
theorem gn{s:ByteArray}{i:Int}(h:i≤(s.size:Int)):i≤dj s i∧dj s i≤s.size:=by
 have:=rC s (s.size-i).toNat false i
 unfold dj kr;omega
theorem qj{s:ByteArray}{i:Int}(h:i<(s.size:Int))(hb:blank (bt s i)=true):dj s i=dj s (i+1):=by
 have h35:bt s i≠35:=by intro e;rw[e] at hb;simp[blank] at hb
 unfold dj;rw[fo h];simp[oA,h35,hb]
theorem qk{s:ByteArray}{i:Int}(h:i<(s.size:Int))(hb:blank (bt s i)=false)(h35:bt s i≠35):dj s i=i:=by
 have h10:bt s i≠10:=by intro e;rw[e] at hb;simp[blank] at hb
 unfold dj;rw[fo h];simp[oA,h35,h10,hb]
theorem ql{s:ByteArray}{i:Int}(h:i≤(s.size:Int)):kr s true i=dj s (dx mf s i):=by
 obtain⟨n,hn⟩:∃n:Nat,n=(s.size-i).toNat:=⟨_,rfl⟩
 induction n generalizing i with
 | zero=>rw[j2 (by omega),iR (by omega)];unfold dj;rw[iR (by omega)]
 | succ n ih =>
   rw[dO (by omega)]
   by_cases h10:bt s i=10
   ·have hp:mf (bt s i)=false:=by simp[mf,h10]
    rw[hp]
    simp only[Bool.false_eq_true,if_false]
    unfold dj
    rw[fo (r:=true) (by omega),fo (r:=false) (by omega)]
    simp[oA,h10]
   ·have hp:mf (bt s i)=true:=by simp[mf,h10]
    rw[hp]
    simp only[if_true]
    rw[←ih (by omega) (by omega),fo (r:=true) (by omega)]
    have:oA (bt s i) true=true:=by unfold oA;split<;>simp_all
    simp[this]
theorem ph{s:ByteArray}{i:Int}(h:i<(s.size:Int))(hb:bt s i=35):dj s i=dj s (dx mf s i):=by
 rw[dO h,show mf (bt s i)=true by simp[mf,hb],if_pos rfl,←ql (by omega)]
 unfold dj;rw[fo h];simp[oA,hb]
structure Tok where
 kind:Int
 text:ByteArray
 gX:Int
 n:Int
 pos:Int
inductive TR where
 | ok (t:Tok)
 | bad (e p:Int)
def ik(p:Int):Tok:=⟨0,⟨#[]⟩,0,0,p⟩
def cut(s:ByteArray)(i j:Int):ByteArray:=s.extract i.toNat j.toNat
def dP:List ByteArray:=[⟨#[97,98,115]⟩,⟨#[97,109,101,110,100]⟩,⟨#[97,115]⟩,⟨#[97,115,107]⟩,⟨#[97,116]⟩,⟨#[98,105,100]⟩,⟨#[98,111,111,108]⟩,⟨#[98,117,121]⟩,⟨#[99,97,110,99,101,108]⟩,⟨#[100,111]⟩,
 ⟨#[102,97,108,115,101]⟩,⟨#[102,111,107]⟩,⟨#[103,111,116,111]⟩,⟨#[104,97,108,116]⟩,⟨#[104,97,115]⟩,⟨#[105,110,116]⟩,⟨#[105,111,99]⟩,⟨#[108,97,115,116]⟩,⟨#[108,105,109,105,116]⟩,⟨#[109,97,114,107,101,116]⟩,
 ⟨#[109,97,120]⟩,⟨#[109,105,110]⟩,⟨#[110,111,119]⟩,⟨#[111,102]⟩,⟨#[111,112,101,110]⟩,⟨#[112,111,115,116]⟩,⟨#[112,114,105,99,101]⟩,⟨#[113,116,121]⟩,⟨#[114,101,103]⟩,⟨#[115,101,108,108]⟩,⟨#[115,101,116]⟩,
 ⟨#[115,105,100,101]⟩,⟨#[115,108,111,116]⟩,⟨#[115,116,97,116,101]⟩,⟨#[115,116,114,97,116,101,103,121]⟩,⟨#[115,117,98,109,105,116]⟩,⟨#[116,105,109,101]⟩,⟨#[116,111]⟩,⟨#[116,114,117,101]⟩,⟨#[118,111,108,117,109,101]⟩,⟨#[119,104,101,110]⟩]
def oB(t:ByteArray):Bool:=dP.any fun w=>w.toList==t.toList
def mS(s:ByteArray)(i:Int):TR :=
 let e:=dx eu s i
 if e-i>16 then .bad 112 i else .ok ⟨if oB (cut s i e) then 1 else 2,cut s i e,0,0,i⟩
def vu(s:ByteArray):Nat→Int→Int→Int
 | 0,_,v=>v
 | n+1,i,v=>if dm (bt s i) then vu s n (i+1) (10*v+(bt s i-48)) else v
def eG(s:ByteArray)(i v:Int):Int:=vu s (s.size-i).toNat i v
theorem mg{s:ByteArray}{i v:Int}(h:(s.size:Int)≤i):eG s i v=v:=by
 unfold eG;rw[show ((s.size:Int)-i).toNat=0 by omega];rfl
theorem gq{s:ByteArray}{i v:Int}(h:i<(s.size:Int)):eG s i v=if dm (bt s i) then eG s (i+1) (10*v+(bt s i-48)) else v:=by
 unfold eG
 obtain⟨n,hn⟩:∃n,((s.size:Int)-i).toNat=n+1:=⟨((s.size:Int)-i).toNat-1,by omega⟩
 rw[hn,show ((s.size:Int)-(i+1)).toNat=n by omega];rfl
theorem tR(s:ByteArray):∀(n:Nat) (i v:Int),0≤v→v≤vu s n i v
 | 0,i,v,_=>by simp[vu]
 | n+1,i,v,hv=>by
   unfold vu
   split
   ·rename_i hd
    simp only[dm,Bool.and_eq_true,decide_eq_true_eq] at hd
    have:=tR s n (i+1) (10*v+(bt s i-48)) (by omega)
    omega
   ·exact Int.le_refl _
theorem vv{s:ByteArray}{i v:Int}(h:0≤v):v≤eG s i v:=tR s _ i v h
def eZ(c:Int):Int:=if c=116 then 4 else if c=112 then 3 else if c=113 then 2 else 1
def c8(s:ByteArray)(i:Int):Int:=if i<s.size then bt s i else 0
def jN(s:ByteArray)(i:Int):TR :=
 let e:=dx dm s i
 let t:=eZ (c8 s e)
 let e2:=if t=1 then e else e+1
 if eG s i 0>9223372036854775807∨(e-i>1∧bt s i=48)∨(e2<s.size∧(eu (bt s e2)=true∨(65≤bt s e2∧bt s e2≤90))) then .bad 113 i
 else .ok ⟨3,cut s i e2,t,eG s i 0,i⟩
def single(c:Int):Bool:=[123,125,40,41,44,59,63,58,43,45,42,47,37].contains c
def fW(s:ByteArray)(i:Int):Int :=
 let c:=bt s i
 let d:=c8 s (i+1)
 if single c then 1 else if c=38∨c=124 then (if d=c then 2 else 0) else if c=61∨c=33∨c=60∨c=62 then (if d=61 then 2 else 1) else 0
def mT(s:ByteArray)(i:Int):TR:=if fW s i=0 then .bad 111 i else .ok ⟨4,cut s i (i+fW s i),0,0,i⟩
def fT(s:ByteArray)(f:Int):TR :=
 let i:=dj s f
 if i=s.size then .ok (ik i)
 else if dm (bt s i) then jN s i else if ia (bt s i) then mS s i else mT s i
def Tok.v(t:Tok):Value:=.agg #[.int .u8 t.kind,.string t.text,.int .u8 t.gX,.int .i64 t.n,.int .i64 t.pos]
theorem iw{n:Int}(h : -9223372036854775808≤n∧n≤9223372036854775807):IntKind.wrap .i64 n=n:=by
 simp only[IntKind.wrap,IntKind.bits,IntKind.signed];simp;split<;>omega
theorem w8{n:Int}(h:0≤n∧n≤255):IntKind.wrap .u8 n=n:=by
 simp only[IntKind.wrap,IntKind.bits,IntKind.signed];simp;omega
inductive Px where
 | mk (kind oper gX n field:Int) (name:ByteArray) (kids:List Px) (pos:Int)
namespace Px
def kind:Px→Int | .mk k _ _ _ _ _ _ _=>k
def oper:Px→Int | .mk _ o _ _ _ _ _ _=>o
def gX:Px→Int | .mk _ _ t _ _ _ _ _=>t
def n:Px→Int | .mk _ _ _ n _ _ _ _=>n
def field:Px→Int | .mk _ _ _ _ f _ _ _=>f
def name:Px→ByteArray | .mk _ _ _ _ _ s _ _=>s
def kids:Px→List Px | .mk _ _ _ _ _ _ l _=>l
def pos:Px→Int | .mk _ _ _ _ _ _ _ p=>p
end Px
inductive Nd where
 | mk (kind oper gX n field:Int) (name:ByteArray) (a:Option Addr) (c:Nat) (kids:List Nd) (pos:Int)
namespace Nd
def kind:Nd→Int | .mk k _ _ _ _ _ _ _ _ _=>k
def oper:Nd→Int | .mk _ o _ _ _ _ _ _ _ _=>o
def gX:Nd→Int | .mk _ _ t _ _ _ _ _ _ _=>t
def n:Nd→Int | .mk _ _ _ n _ _ _ _ _ _=>n
def field:Nd→Int | .mk _ _ _ _ f _ _ _ _ _=>f
def name:Nd→ByteArray | .mk _ _ _ _ _ s _ _ _ _=>s
def a:Nd→Option Addr | .mk _ _ _ _ _ _ a _ _ _=>a
def c:Nd→Nat | .mk _ _ _ _ _ _ _ c _ _=>c
def kids:Nd→List Nd | .mk _ _ _ _ _ _ _ _ l _=>l
def pos:Nd→Int | .mk _ _ _ _ _ _ _ _ _ p=>p
mutual
def px:Nd→Px
 | .mk k o t n f s _ _ l q=>.mk k o t n f s (rD l) q
def rD:List Nd→List Px
 | []=>[]
 | k::r=>px k::rD r
end
theorem qm:∀l:List Nd,rD l=l.map px
 | []=>rfl
 | k::r=>by rw[rD,qm r];rfl
theorem wv(t:Nd):t.px.kids=t.kids.map px:=by cases t;rw[px,←qm];rfl
theorem wz(t:Nd):t.px.oper=t.oper:=by cases t;rw[px];rfl
theorem vw(t:Nd):t.px.pos=t.pos:=by cases t;rw[px];rfl
abbrev enc(t:Nd):List Value:=[.int .u8 t.kind,.int .u8 t.oper,.int .u8 t.gX,.int .i64 t.n,.int .u8 t.field,.string t.name,.slice t.a t.kids.length t.c,.int .i64 t.pos]
abbrev v(t:Nd):Value:=.agg #[.int .u8 t.kind,.int .u8 t.oper,.int .u8 t.gX,.int .i64 t.n,.int .u8 t.field,.string t.name,.slice t.a t.kids.length t.c,.int .i64 t.pos]
theorem tS(t:Nd):t.enc.length=8:=rfl
theorem wA(t:Nd):∀u∈t.enc,u.oneCell'=true:=by
 intro u hu
 simp only[enc,List.mem_cons,List.not_mem_nil,or_false] at hu
 rcases hu with h | h | h | h | h | h | h | h<;>(subst h;rfl)
end Nd
inductive jn (I:cS) (G:cR):Nd→Prop
 | mk {t:Nd}:qM I G 8 Nd.enc t.a t.kids.length t.kids→(∀k∈t.kids,jn I G k)→jn I G t
theorem jn.sl{I:cS}{G:cR}{t:Nd}(h:jn I G t):qM I G 8 Nd.enc t.a t.kids.length t.kids:=by cases h;assumption
theorem jn.zz{I:cS}{G:cR}{t:Nd}(h:jn I G t):∀k∈t.kids,jn I G k:=by cases h;assumption
def vx(I:cS)(G:cR)(a:Option Addr)(n:Nat)(l:List Nd):Prop:=qM I G 8 Nd.enc a n l∧∀k∈l,jn I G k
theorem jn.kids{I:cS}{G:cR}{t:Nd}(h:jn I G t):vx I G t.a t.kids.length t.kids:=⟨h.sl,h.zz⟩
theorem vx.at{I:cS}{G:cR}{a:Option Addr}{n:Nat}{l:List Nd}(h:vx I G a n l){i:Int}(h0:0≤i)(h1:i<n) :
  ∃ad x,a=some ad∧l[i.toNat]? = some x∧Rd I G (ad.add (Int.toNat i*8)) x.enc∧jn I G x∧x∈l:=by
 obtain⟨ad,x,h2,h3,h4⟩:=h.1.at h0 h1
 exact⟨ad,x,h2,h3,h4,h.2 x (List.mem_of_getElem? h3),List.mem_of_getElem? h3⟩
namespace Px
mutual
def size:Px→Int
 | .mk _ _ _ _ _ _ l _=>1+xf l
def xf:List Px→Int
 | []=>0
 | x::r=>size x+xf r
end
end Px
end Go.Lx
namespace Go.Lx
open Go.Vc Go.Proofs.Tryd
noncomputable abbrev P:Program:=Go.Proofs.Tryd.prog
def jo:List (Nat×List Sh):=[(4,[.one .bool]),(9,[.one .str]),(106,[.one .slc]),(147,[.one (.int .i64),.one .bool])]
def mh.V(c:Int)(I:cS)(F:cR)(Q:cW)  : Prop:=((decide (48≤c)=true→Q (.returned (.bool (decide (c≤57)))) I F)∧(decide (48≤c)=false→Q (.returned (.bool false)) I F))
theorem mh.vc{c:Int}{I:cS}{F:cR}{Q:cW}  (h:mh.V c I F Q):cV P 54 #[.int .u8 c] I F Q :=
 tw (A:=(an [1001] [] jo)) [] func54 h
def mi.V(c:Int)(I:cS)(F:cR)(Q:cW)  : Prop:=((decide (97≤c)=true→Q (.returned (.bool (decide (c≤122)))) I F)∧(decide (97≤c)=false→Q (.returned (.bool false)) I F))
theorem mi.vc{c:Int}{I:cS}{F:cR}{Q:cW}  (h:mi.V c I F Q):cV P 56 #[.int .u8 c] I F Q :=
 tw (A:=(an [1001] [] jo)) [] func56 h
def j3.V(vt:Bool→Value)(c:Int)(I:cS)(F:cR)(Q:cW)  : Prop:=cV P 56 #[.int .u8 c] I F fun e1 I1 G1=>∃(r:Bool),e1=.returned (vt r)∧∃F1:cR,List.Perm G1 F1∧((r=true→Q (.returned (vt true)) I1 F1)∧(r=false→cV P 54 #[.int .u8 c] I1 F1 fun e2 I2 G2=>∃(r1:Bool),e2=.returned (vt r1)∧∃F2:cR,List.Perm G2 F2∧((r1=true→Q (.returned (vt true)) I2 F2)∧(r1=false→Q (.returned (vt (c==95))) I2 F2))))
theorem j3.vc{c:Int}{I:cS}{F:cR}{Q:cW}  (h:j3.V .bool c I F Q):cV P 58 #[.int .u8 c] I F Q :=
 tw (A:=(an [1001,1004] [54,56] jo)) [54,56] func58 h
def mj.V(vs:Bs→Value)(I:cS)(F:cR)(Q:cW)  : Prop:=∀(b:Nat) (I1:cS),cS.le I I1→I1 b=some (Obj.cells #[vs (⟨#[97,98,115]⟩:Bs),vs (⟨#[97,109,101,110,100]⟩:Bs),vs (⟨#[97,115]⟩:Bs),vs (⟨#[97,115,107]⟩:Bs),vs (⟨#[97,116]⟩:Bs),vs (⟨#[98,105,100]⟩:Bs),vs (⟨#[98,111,111,108]⟩:Bs),vs (⟨#[98,117,121]⟩:Bs),vs (⟨#[99,97,110,99,101,108]⟩:Bs),vs (⟨#[100,111]⟩:Bs),vs (⟨#[102,97,108,115,101]⟩:Bs),vs (⟨#[102,111,107]⟩:Bs),vs (⟨#[103,111,116,111]⟩:Bs),vs (⟨#[104,97,108,116]⟩:Bs),vs (⟨#[104,97,115]⟩:Bs),vs (⟨#[105,110,116]⟩:Bs),vs (⟨#[105,111,99]⟩:Bs),vs (⟨#[108,97,115,116]⟩:Bs),vs (⟨#[108,105,109,105,116]⟩:Bs),vs (⟨#[109,97,114,107,101,116]⟩:Bs),vs (⟨#[109,97,120]⟩:Bs),vs (⟨#[109,105,110]⟩:Bs),vs (⟨#[110,111,119]⟩:Bs),vs (⟨#[111,102]⟩:Bs),vs (⟨#[111,112,101,110]⟩:Bs),vs (⟨#[112,111,115,116]⟩:Bs),vs (⟨#[112,114,105,99,101]⟩:Bs),vs (⟨#[113,116,121]⟩:Bs),vs (⟨#[114,101,103]⟩:Bs),vs (⟨#[115,101,108,108]⟩:Bs),vs (⟨#[115,101,116]⟩:Bs),vs (⟨#[115,105,100,101]⟩:Bs),vs (⟨#[115,108,111,116]⟩:Bs),vs (⟨#[115,116,97,116,101]⟩:Bs),vs (⟨#[115,116,114,97,116,101,103,121]⟩:Bs),vs (⟨#[115,117,98,109,105,116]⟩:Bs),vs (⟨#[116,105,109,101]⟩:Bs),vs (⟨#[116,111]⟩:Bs),vs (⟨#[116,114,117,101]⟩:Bs),vs (⟨#[118,111,108,117,109,101]⟩:Bs),vs (⟨#[119,104,101,110]⟩:Bs)] 9 (0,0))→Q (.returned (.slice (some ⟨b,0,none⟩) 41 41)) I1 (F)
theorem mj.vc  {I:cS}{F:cR}{Q:cW}  (h:mj.V .string I F Q):cV P 64 #[] I F Q :=
 tw (A:=(eU [] [] [] jo [] [1000] [] [] [] [] [])) [] func64 h
def j4.V(x:Bs)(I:cS)(F:cR)(Q:cW)  : Prop:=Q (.returned (.bool (!(x.toList==x.toList)))) I (F)
theorem j4.vc{x:Bs}{I:cS}{F:cR}{Q:cW}  (h:j4.V x I F Q):cV P 67 #[.string x] I F Q :=
 tw (A:=(an [] [] jo)) [] func67 h
def lC.V(vt:Bool→Value)(x y:Bs)(I:cS)(F:cR)(Q:cW)  : Prop:=k6 P 67 #[.string x] I (·) F vt fun r I1 F1=>(It r (k6 P 67 #[.string y] I1 (·) F1 vt fun r1 I2 F2=>(It (!r1) (Q (.returned (vt true)) I2 F2) (Q (.returned (vt (Op.bytesLess x.toList y.toList))) I2 F2))) (Q (.returned (vt (Op.bytesLess x.toList y.toList))) I1 F1))
theorem lC.vc{x y:Bs}{I:cS}{F:cR}{Q:cW}  (h:lC.V .bool x y I F Q):cV P 65 #[.string x,.string y] I F Q :=
 tw (A:=(an [1001,1005] [67] jo)) [67] func65 h
def gN.V(x:Bs)(I:cS)(F:cR)(Q:cW)  : Prop:=Q (.returned (.bool (!(x.toList==x.toList)))) I (F)
theorem gN.vc{x:Bs}{I:cS}{F:cR}{Q:cW}  (h:gN.V x I F Q):cV P 66 #[.string x] I F Q :=
 tw (A:=(an [] [] jo)) [] func66 h
def ew.V(vi:Int→Value)(vs:Bs→Value)(vt:Bool→Value)(wr:Int→Int)(c:OA)(b f:Nat)(a:Bs)(I:cS)(F:cR)(Q:cW)(Inv8:Int→Int→Nat→cS→cR→Prop):Prop:=(∃m:Nat,Inv8 0 (b:Int) m I F)∧∀(i j:Int) (m1:Nat) (I1:cS) (F1:cR),cS.le I I1→Inv8 i j m1 I1 F1→(Dt (i<j) ((0≤(wr (Int.fdiv (IntKind.wrap .u64 (wr (i+j))) (2 ^ 1)))∧(wr (Int.fdiv (IntKind.wrap .u64 (wr (i+j))) (2 ^ 1)))<(b:Int))∧∃ad:Addr,c=some ad∧∃(m2:Bs),Rd I1 F1 (ad.add (Int.toNat (wr (Int.fdiv (IntKind.wrap .u64 (wr (i+j))) (2 ^ 1)))*1)) [vs m2]∧k6 P 65 #[vs m2,vs a] I1 (·) F1 vt fun r I2 F2=>(It r (∃m3:Nat,m3<m1∧Inv8 (wr ((wr (Int.fdiv (IntKind.wrap .u64 (wr (i+j))) (2 ^ 1)))+1)) j m3 I2 F2) (∃m4:Nat,m4<m1∧Inv8 i (wr (Int.fdiv (IntKind.wrap .u64 (wr (i+j))) (2 ^ 1))) m4 I2 F2))) (Dt (i<(b:Int)) ((0≤i∧i<(b:Int))∧∃d:Addr,c=some d∧∃(m5:Bs),Rd I1 F1 (d.add (Int.toNat i*1)) [vs m5]∧(It (m5.toList==a.toList) (Q (.returned (.tuple #[vi i,vt true])) I1 F1) ((0≤i∧i<(b:Int))∧∃e:Addr,c=some e∧∃(m6:Bs),Rd I1 F1 (e.add (Int.toNat i*1)) [vs m6]∧k6 P 66 #[vs m6] I1 (·) F1 vt fun r1 I3 F3=>(It r1 (k6 P 66 #[vs a] I3 (·) F3 vt fun r2 I4 F4=>Q (.returned (.tuple #[vi i,vt r2])) I4 F4) (Q (.returned (.tuple #[vi i,vt false])) I3 F3))))) (Q (.returned (.tuple #[vi i,vt false])) I1 F1)))
theorem ew.vc{b:OA}{c d:Nat}{a:Bs}{I:cS}{F:cR}{Q:cW}(Inv8:Int→Int→Nat→cS→cR→Prop)(h:ew.V (.int .i64) .string .bool (IntKind.wrap .i64) b c d a I F Q Inv8):cV P 63 #[.slice b c d,.string a] I F Q :=
 tw (A:=(eU [3002,5005,8003,8010,8016] [] [65,66] jo [(8,⟨[(7,(.int .i64)),(8,(.int .i64))],[],fun _ _ _ vs m I F=>match vs with | [.int _ y0,.int _ y1]=>Inv8 y0 y1 m I F | _=>False,[],[]⟩)] [] [] [] [] [] [])) [65,66] func63 h
def lD.V(s:Bs)(I:cS)(F:cR)(Q:cW)  : Prop:=cV P 64 #[] I F fun e1 I1 G1=>∃(a:OA) (b c:Nat),e1=.returned (.slice a b c)∧∃F1:cR,List.Perm G1 F1∧cV P 63 #[.slice a b c,.string s] I1 F1 fun e2 I2 G2=>∃(r0:Int) (r1:Bool),e2=.returned (.tuple #[.int .i64 r0,.bool r1])∧∃F2:cR,List.Perm G2 F2∧Q (.returned (.bool r1)) I2 (F2)
theorem lD.vc{s:Bs}{I:cS}{F:cR}{Q:cW}  (h:lD.V s I F Q):cV P 59 #[.string s] I F Q :=
 tw (A:=(an [] [63,64] jo)) [63,64] func59 h
end Go.Lx
namespace Go.Lx
open Go.Vc
def k8(v:Value)(F:cR)(e:Ending)(I:cS)(G:cR):Prop:=e=.returned v∧G=F
theorem cV.ret{Pr:Program}{f:FuncId}{args:Array Value}{I:cS}{F:cR}{v:Value}{Q:Ending→cS→cR→Prop}(h:cV Pr f args I F (k8 v F))
  (k:∀I',cS.le I I'→Q (.returned v) I' F):cV Pr f args I F Q :=
 h.mono fun e I' G hl ⟨he,hG⟩=>by subst he;subst hG;exact k I' hl
theorem kK(c:Int)(I:cS)(F:cR):cV P 54 #[.int .u8 c] I F (k8 (.bool (dm c)) F):=by
 refine mh.vc ⟨fun h=>⟨?_,rfl⟩,fun h=>⟨?_,rfl⟩⟩<;>simp[dm,h]
theorem oC(c:Int)(I:cS)(F:cR):cV P 56 #[.int .u8 c] I F (k8 (.bool (ia c)) F):=by
 refine mi.vc ⟨fun h=>⟨?_,rfl⟩,fun h=>⟨?_,rfl⟩⟩<;>simp[ia,h]
theorem oD(c:Int)(I:cS)(F:cR):cV P 58 #[.int .u8 c] I F (k8 (.bool (eu c)) F):=by
 refine j3.vc ?_
 unfold j3.V
 refine cV.ret (oC c I F) fun I1 h1=>⟨_,rfl,F,.refl _,fun hs=>⟨?_,rfl⟩,fun hs=>?_⟩
 ·simp[eu,hs]
 ·refine cV.ret (kK c I1 F) fun I2 h2=>⟨_,rfl,F,.refl _,fun hd=>⟨?_,rfl⟩,fun hd=>⟨?_,rfl⟩⟩
  ·simp[eu,hd]
  ·simp[eu,hs,hd]
def ef(s:ByteArray):Prop:=s.size≤140737488351232
def jO(x:ByteArray):List Value:=[.string x]
theorem sQ(I:cS)(F:cR):cV P 64 #[] I F fun e I' G=>∃b:Nat,e=.returned (.slice (some ⟨b,0,none⟩) 41 41)∧Sl I' 1 jO (some ⟨b,0,none⟩) 41 dP∧G=F:=by
 refine mj.vc fun b I1 hI hb=>⟨b,rfl, ?_,rfl⟩
 exact Sl.jM (f:=jO) (z:=1) (l:=dP) (fun _=>rfl) hb (by kernel_rfl)
theorem sR(x:ByteArray)(I:cS)(F:cR):cV P 67 #[.string x] I F (k8 (.bool false) F):=by
 refine j4.vc ?_
 unfold j4.V
 exact⟨by simp,rfl⟩
theorem rE(x:ByteArray)(I:cS)(F:cR):cV P 66 #[.string x] I F (k8 (.bool false) F):=by
 refine gN.vc ?_
 unfold gN.V
 exact⟨by simp,rfl⟩
theorem uD(x y:ByteArray)(I:cS)(F:cR):cV P 65 #[.string x,.string y] I F (k8 (.bool (Op.bytesLess x.toList y.toList)) F):=by
 refine lC.vc ?_
 unfold lC.V
 exact cV.ret (sR x I F) fun I1 h1=>⟨_,rfl,F,.refl _,fun h=>by (cases h),fun _=>⟨rfl,rfl⟩⟩
theorem kL:∀{a b c:List UInt8},Op.bytesLess a b=true→Op.bytesLess b c=true→Op.bytesLess a c=true
 | a,b,[],_,h=>by cases b<;>simp[Op.bytesLess] at h
 | [],b,z::c,_,_=>rfl
 | x::a,[],z::c,h,_=>by simp[Op.bytesLess] at h
 | x::a,y::b,z::c,h1,h2=>by
   simp only[Op.bytesLess,Bool.or_eq_true,Bool.and_eq_true,decide_eq_true_eq,beq_iff_eq] at h1 h2 ⊢
   rcases h1 with h1 | ⟨rfl,h1⟩
   ·rcases h2 with h2 | ⟨rfl,h2⟩
    ·exact .inl (UInt8.lt_trans h1 h2)
    ·exact .inl h1
   ·rcases h2 with h2 | ⟨rfl,h2⟩
    ·exact .inl h2
    ·exact .inr ⟨rfl,kL h1 h2⟩
def ku(x y:ByteArray):Bool:=Op.bytesLess x.toList y.toList
theorem qn:∀i j:Fin 41,i<j→ku (dP[i]'(by simp[dP])) (dP[j]'(by simp[dP]))=true:=by decide +kernel
theorem sS:∀i:Fin 41,ku (dP[i]'(by simp[dP])) (dP[i]'(by simp[dP]))=false:=by decide +kernel
theorem oE{i j:Nat}{x y:ByteArray}(h:i<j)(hx:dP[i]? = some x)(hy:dP[j]? = some y):ku x y=true:=by
 have hj:j<41:=by
  rcases Nat.lt_or_ge j dP.length with h | h
  ·exact h
  ·simp[List.getElem?_eq_none h] at hy
 have:=qn ⟨i,by omega⟩ ⟨j,hj⟩ h
 rw[List.getElem?_eq_getElem (by show i<41;omega)] at hx
 rw[List.getElem?_eq_getElem (by show j<41;omega)] at hy
 cases hx;cases hy;exact this
theorem uE{i:Nat}{x:ByteArray}(hx:dP[i]? = some x):ku x x=false:=by
 have hj:i<41:=by
  rcases Nat.lt_or_ge i dP.length with h | h
  ·exact h
  ·simp[List.getElem?_eq_none h] at hx
 have:=sS ⟨i,hj⟩
 rw[List.getElem?_eq_getElem (by show i<41;omega)] at hx
 cases hx;exact this
theorem zA{n:Int}(h:0≤n∧n≤18446744073709551615):IntKind.wrap .u64 n=n:=by
 simp only[IntKind.wrap,IntKind.bits,IntKind.signed];simp;omega
theorem xH{i j:Int}(h0:0≤i)(h:i<j)(hj:j≤41):IntKind.wrap .i64 (Int.fdiv (IntKind.wrap .u64 (IntKind.wrap .i64 (i+j))) (2 ^ 1))=(i+j) / 2:=by
 rw[iw (n:=i+j) (by omega),zA (n:=i+j) (by omega),Int.fdiv_eq_ediv_of_nonneg _ (by decide)]
 rw[show ((2:Int) ^ 1)=2 by rfl,iw (by omega)]
theorem rF{a:Option Addr}{c:Nat}{t:ByteArray}{I:cS}(hS:Sl I 1 jO a 41 dP)(F:cR) :
  cV P 63 #[.slice a 41 c,.string t] I F fun e I' G=>∃i:Int,e=.returned (.tuple #[.int .i64 i,.bool (oB t)])∧G=F:=by
 refine ew.vc (fun i j m I' F'=>0≤i∧i≤j∧j≤41∧m=(j-i).toNat∧(∀(k:Nat) (x:ByteArray),dP[k]? = some x→(k:Int)<i→ku x t=true) ∧
  (∀(k:Nat) (x:ByteArray),dP[k]? = some x→j≤k→ku x t=false)∧F'=F) ?_
 unfold ew.V
 refine⟨⟨_,by omega,by decide,by decide,rfl,fun k x _ h=>by omega,fun k x hx h=>?_,rfl⟩,fun i j m I1 F1 hI ⟨g0,g1,g2,gm,gl,gr,gF⟩=>⟨fun hlt=>?_,fun hlt=>?_⟩⟩
 ·have:dP.length=41:=rfl
  simp[List.getElem?_eq_none (l:=dP) (i:=k) (by omega)] at hx
 ·have hlt:i<j:=by simpa using hlt
  subst gF
  have hS1:=hS.mono hI
  have hmid:=xH g0 hlt g2
  generalize IntKind.wrap .i64 (Int.fdiv (IntKind.wrap .u64 (IntKind.wrap .i64 (i+j))) (2 ^ 1))=h at hmid ⊢
  obtain⟨ad,x,ha,hx,hrd⟩:=hS1.at (i:=h) (by omega) (by omega)
  refine⟨⟨by omega,by show h<41;omega⟩,ad,ha,x,hrd F1, ?_⟩
  refine cV.ret (uD x t I1 F1) fun I2 h2=>⟨_,rfl,F1,.refl _,fun hc=>?_,fun hc=>?_⟩
  ·rw[iw (by omega)]
   refine⟨(j-(h+1)).toNat,by omega,by omega,by omega,g2,rfl,fun k y hy hk=>?_,gr,rfl⟩
   by_cases hkh:k=h.toNat
   ·subst hkh;rw[hx] at hy;cases hy;exact hc
   ·exact kL (oE (by omega) hy hx) hc
  ·refine⟨(h-i).toNat,by omega,g0,by omega,by omega,rfl,gl,fun k y hy hk=>?_,rfl⟩
   by_cases hkh:k=h.toNat
   ·subst hkh;rw[hx] at hy;cases hy;exact hc
   ·cases hlk:ku y t with
    | false=>rfl
    | true=>have:=kL (oE (i:=h.toNat) (by omega) hx hy) hlk;rw[hc] at this;cases this
 ·have hlt:¬i<j:=by simpa using hlt
  have hij:i=j:=by omega
  subst hij
  subst gF
  have hS1:=hS.mono hI
  have no:(∀(k:Nat) (x:ByteArray),dP[k]? = some x→(k:Int)=i→(x.toList==t.toList)=false)→oB t=false:=by
   intro hi
   unfold oB
   rw[List.any_eq_false]
   intro x hx
   obtain⟨k,hk⟩:=List.mem_iff_getElem?.1 hx
   intro he
   have he':x.toList=t.toList:=by simpa using he
   have hirr:=uE hk
   unfold ku at hirr
   rcases Int.lt_or_le (k:Int) i with h | h
   ·have:=gl k x hk h
    unfold ku at this
    rw[←he',hirr] at this;cases this
   ·rcases Int.lt_or_eq_of_le h with h' | h'
    ·obtain⟨ad,y,ha,hy,hrd⟩:=hS1.at (i:=i) g0 (by
      have:k<41:=by
       rcases Nat.lt_or_ge k dP.length with h | h
       ·exact h
       ·simp[List.getElem?_eq_none h] at hk
      show i<41
      omega)
     have h1:=oE (i:=i.toNat) (j:=k) (by omega) hy hk
     have h2:=gr i.toNat y hy (by omega)
     unfold ku at h1 h2
     rw[he',h2] at h1;cases h1
    ·rw[hi k x hk h'.symm] at he;cases he
  refine⟨fun hlt=>?_,fun hlt=>?_⟩
  ·have hlt:i<41:=by simpa using hlt
   obtain⟨ad,x,ha,hx,hrd⟩:=hS1.at (i:=i) g0 (by exact hlt)
   refine⟨⟨g0,hlt⟩,ad,ha,x,hrd F1,fun he=>?_,fun he=>?_⟩
   ·refine⟨i, ?_,rfl⟩
    have:oB t=true:=by
     unfold oB
     exact List.any_eq_true.2 ⟨x,List.mem_of_getElem? hx,he⟩
    rw[this]
   ·have hno:=no fun k y hk hki=>by
     have:k=i.toNat:=by omega
     subst this
     rw[hx] at hk;cases hk;exact he
    refine⟨⟨g0,hlt⟩,ad,ha,x,hrd F1, ?_⟩
    refine cV.ret (rE x I1 F1) fun I2 h2=>⟨_,rfl,F1,.refl _,fun h=>by (cases h),fun _=>⟨i, ?_,rfl⟩⟩
    rw[hno]
  ·have hlt:¬i<41:=by simpa using hlt
   refine⟨i, ?_,rfl⟩
   rw[no fun k y hk hki=>by
    have:dP.length=41:=rfl
    simp[List.getElem?_eq_none (l:=dP) (i:=k) (by omega)] at hk]
theorem uF(t:ByteArray)(I:cS)(F:cR):cV P 59 #[.string t] I F (k8 (.bool (oB t)) F):=by
 refine lD.vc ?_
 unfold lD.V
 refine (sQ I F).mono fun e I1 G hI ⟨b,he,hS,hG⟩=>?_
 subst hG
 refine⟨_,_,_,he,_,.refl _, ?_⟩
 refine (rF hS G).mono fun e I2 G2 hI2 ⟨i,he,hG⟩=>?_
 subst hG
 exact⟨_,_,he,_,.refl _,rfl,rfl⟩
def dy(n:Nat)(hs:Nat→cR):cR:=(List.range n).flatMap hs
theorem kM(n:Nat)(hs:Nat→cR):dy (n+1) hs=dy n hs++hs n:=by
 unfold dy;rw[List.range_succ,List.flatMap_append];simp
theorem rG{n:Nat}{hs hs':Nat→cR}(h:∀i,i<n→hs i=hs' i):dy n hs=dy n hs':=by
 induction n with
 | zero=>rfl
 | succ n ih=>rw[kM,kM,ih fun i hi=>h i (by omega),h n (by omega)]
theorem pK{n:Nat}{hs:Nat→cR}{i:Nat}(hi:i<n){x:Nat×Obj}(hx:x∈hs i):x∈dy n hs:=List.mem_flatMap.2 ⟨i,List.mem_range.2 hi,hx⟩
def xI(n:Nat)(a:Option Addr)(c:Nat)(A:cR):Prop :=
 ∃b cells e,a=some ⟨b,0,none⟩∧A=[(b,Obj.cells cells e (0,0))]∧c=n+2∧cells[n*8+7]? = some (.int .i64 (-771))∧cells[(n+1)*8+7]? = some (.int .i64 (-772))
inductive dI (E:Nat) (R:Bool):Nd→cR→Prop
 | mk {t:Nd} {A:cR} {hs:Nat→cR}:Acc 8 Nd.enc E t.a t.kids.length t.c t.kids A→(R=true→xI t.kids.length t.a t.c A)→(∀(i:Nat) (k:Nd),t.kids[i]? = some k→dI E R k (hs i)) →
    dI E R t (A++dy t.kids.length hs)
theorem dI.ok{E:Nat}{R:Bool}{t:Nd}{H:cR}(h:dI E R t H):∀{I:cS} {G:cR},(∀x,x∈H→x∈G)→jn I G t:=by
 induction h with
 | @mk t A hs hA hR hk ih =>
   intro I G hG
   refine .mk (hA.z5 Nd.tS I fun x hx=>hG x (List.mem_append_left _ hx)) fun k hkm=>?_
   obtain⟨i,hi,rfl⟩:=List.mem_iff_getElem.1 hkm
   exact ih i _ (List.getElem?_eq_getElem hi) fun x hx=>hG x (List.mem_append_right _ (pK hi hx))
end Go.Lx
namespace Go.Vc
end Go.Vc
namespace Go.Lx
open Go.Vc
def jG:Nd:=.mk 0 0 0 0 0 ⟨#[]⟩ none 0 [] 0
end Go.Lx
namespace Go.Vc
end Go.Vc
namespace Go.Lx
open Go.Vc
end Go.Lx
namespace Go.Vc
def jC:FrameMode→Value→FrameMode→Prop
 | .returning,v,u=>v=.nilIface∧u=.returning
 | .panicking ({ v:=x,recovered:=false,goexit:=false }::older),v,u=>v=x∧u=.panicking ({ v:=x,recovered:=true }::older)
 | _,_,_=>False
theorem pL:jC .returning .nilIface .returning:=⟨rfl,rfl⟩
theorem pM(v:Value):jC (.panicking [{ v:=v,recovered:=false }]) v (.panicking [{ v:=v,recovered:=true }]):=⟨rfl,rfl⟩
def xJ(o:Oper):Bool:=match o.op,o.guard with
 | .call { callee:=.builtin .recover,args:=_,argTypes:=_ },none=>true
 | _,_=>false
theorem jC.at{c:Frame}{cs:List Frame}{u u1:FrameMode}{v:Value}(hu:c.mode=u)(h:jC u v u1) :
  recoverD (c::cs)=some (v,{ c with mode:=u1 }::cs)∨(recoverD (c::cs)=none∧v=.nilIface∧{ c with mode:=u1 }::cs=c::cs):=by
 subst hu
 unfold jC at h
 split at h
 ·rename_i hm
  obtain⟨h1,h2⟩:=h
  refine .inr ⟨by simp[recoverD,hm],h1, ?_⟩
  subst h2
  rw[←hm]
 ·rename_i hm
  obtain⟨h1,h2⟩:=h
  subst h1 h2
  exact .inl (by simp[recoverD,hm])
 ·exact h.elim
theorem uG{P:Program}{id:Nat}{ops:Array Oper}{o:Oper}{r:List Oper}{Q:Exit→Act→List Frame→World→Prop}{a:Act}{cs cs':List Frame}{w:World}{v:Value}(hl:ops.toList=o::r)(ho:xJ o=true)
  (hrec:recoverD cs=some (v,cs')∨(recoverD cs=none∧v=.nilIface∧cs'=cs)) (h:wpListIn Fence.wide 0 P ops (fun e a' w'=>Q e a' cs' w') r (a.put o.dst v) w) :
  (Code.region id ops false).wpSIn Fence.wide 0 P Q a cs w:=by
 intro b k hb hr hF hroom
 have hsz:ops.size=r.length+1:=by rw[←Array.length_toList,hl];rfl
 have h0:ops[0]? = some o:=by rw[←Array.getElem?_toList,hl];rfl
 have hrest:∀j,r[j]? = ops[1+j]?:=fun j=>by rw[←Array.getElem?_toList,hl,Nat.add_comm];rfl
 rw[←wpOpsIn_eq_wpListIn r 1 hrest] at h
 have hex:∀ci,o.op=.call ci→True:=fun _ _=>trivial
 have hop:∃ci,o.op=.call ci∧ci.callee=.builtin .recover∧o.guard=none:=by
  unfold xJ at ho
  split at ho
  ·rename_i h1 h2;exact⟨_,h1,rfl,h2⟩
  ·cases ho
 obtain⟨ci,hci,hcal,hgd⟩:=hop
 have hw:Region.wanted o (yielded ops a.tmps)=true:=by unfold Region.wanted;rw[hgd]
 have hrun:(execOp a.eval o).run P w=.ok .recover w:=by
  obtain⟨cal,args,tys⟩:=ci
  simp only at hcal
  subst hcal
  simp only[execOp,hci]
  rfl
 have hlen:cs'.length=cs.length:=by
  rcases hrec with hrec | ⟨_,_,rfl⟩
  ·exact recoverD_length hrec
  ·rfl
 obtain⟨e,a',w',q,harr⟩:=wp_opsIn _ _ _ h b k cs' (hr.trans rfl) hF (hlen▸hroom)
 refine⟨e,a',cs',w',hlen,q,.of_steps (.one (fenced_calm hF hroom rfl) stepR_region) ?_⟩
 rw[List.range_eq_range',hsz,List.range'_succ]
 have hg:=stepGR_op (P:=P) (b:=b) (k:=k) (cs:=cs) (w:=w) (rest:=List.range' (0+1) r.length) h0 hw
 rw[hr,Oper.semAt_none] at hg
 have hfin:∀v,(b.atR a (.inRegion ops (0::List.range' (0+1) r.length)::k)).finish v=b.atR (a.put o.dst v) (.inRegion ops (List.range' (0+1) r.length)::k):=by
  intro v;rw[Frame.finish_atR,h0];rfl
 have hk:(b.atR a (.inRegion ops (0::List.range' (0+1) r.length)::k)).kind=.deferred:=hb
 have htr:=tryRecover_deferred hk cs
 refine .of_steps (.one (fenced_oper hF hroom h0 fun f _=>trivial) (step_lone_go ?_)) harr
 rw[hg,←hfin]
 simp only[Frame.atR,hr] at htr ⊢
 rcases hrec with hrec | ⟨hrec,rfl,rfl⟩
 ·simp[stepG.apply,hrun,htr,hrec]
 ·simp[stepG.apply,hrun,htr,hrec]
def rH(P:Program)(rs:List ResultVar)(keep:List Nat)(Q:Ending→cS→cR→Prop)(u:Option (List PanicEntry))(σ:S)(I:cS)(F:cR):Prop:=match σ.df with
 | []=>match u with
   | none=>(match kJ P σ rs with
     | some vs=>Q (.returned (sL vs)) I (da (pick σ.own keep)++F)
     | none=>False)
   | some ch=>Q (.panicked ch) I (da (pick σ.own keep)++F)
 | _=>False
def sT(P:Program)(rs:List ResultVar)(keep:List Nat)(Q:Ending→cS→cR→Prop):Kt
 | .normal,σ,I,F=>rH P rs keep Q none σ I F
 | .ret,σ,I,F=>rH P rs keep Q none σ I F
 | .panic ch,σ,I,F=>rH P rs keep Q (some ch) σ I F
 | _,_,_,_=>False
def xK(P:Program)(A:kg)(v:Value)(rs:List ResultVar)(keep:List Nat)(Q:Ending→cS→cR→Prop)(σ:S)(I:cS)(F:cR):Code→Prop
 | .seq (.region id ops false) rest=>match ops.toList with
   | o::r=>cond (xJ o) (p7 P A id ops r 1 (σ.put o.dst (some (.a (.v v)))) I F (W P A none rest 2 (sT P rs keep Q)) (fun ch=>sT P rs keep Q (.panic ch))) False
   | []=>False
 | _=>False
section
variable {P:Program} {A:kg}
theorem yy{fn:Func}{keep:List Nat}(hk:v9 0 keep=true){Q:Ending→cS→cR→Prop}{c0:Frame}{cs:List Frame}{u1:FrameMode}{R:Ending→FrameMode→World→Prop}{I0:cS}
  (hR:∀e I' F' w',cS.le I0 I'→Sat I' F' w'→Q e I' F'→R e u1 w') {e:Exit} {σ:S} {I:cS} {F:cR} {a:Act} {w:World} (hr:Rel σ I F a w) (hl:cS.le I0 I)
  (h:sT P fn.results.toList keep Q e σ I F):bodyPostS P fn c0 cs R e a ({ c0 with mode:=u1 }::cs) w:=by
 have hsub:Sat I (da (pick σ.own keep)++F) w:=by
  have h5:=ox keep 0 σ.own hk
  rw[List.drop_zero] at h5
  exact hr.sat.sub ((h5.map _).append (List.Sublist.refl F))
 have key:∀u,rH P fn.results.toList keep Q u σ I F→a.defers=[]∧match u with
   | none=>∃v,(results fn a.tmps).run P w=.ok v w∧Q (.returned v) I (da (pick σ.own keep)++F)
   | some ch=>Q (.panicked ch) I (da (pick σ.own keep)++F):=by
  intro u h
  unfold rH at h
  split at h
  ·rename_i hd
   refine⟨by rw[hr.defers,hd];rfl, ?_⟩
   cases u with
   | none =>
     simp only at h ⊢
     split at h
     ·rename_i vs hvs;exact⟨_,mQ hr hvs,h⟩
     ·exact h.elim
   | some ch=>exact h
  ·exact h.elim
 cases e with
 | normal=>obtain⟨h1,v,h2,h3⟩:=key none h;exact⟨h1,u1,rfl,v,h2,hR _ _ _ _ hl hsub h3⟩
 | ret=>obtain⟨h1,v,h2,h3⟩:=key none h;exact⟨h1,u1,rfl,v,h2,hR _ _ _ _ hl hsub h3⟩
 | panic ch=>obtain⟨h1,h2⟩:=key (some ch) h;exact⟨h1,u1,rfl,hR _ _ _ _ hl hsub h2⟩
 | exit id=>exact h.elim
 | goto l=>exact h.elim
 | outgrown=>exact h.elim
theorem uH(hP:∀f,A.good f=true→di P f){f:FuncId}{fn:Func}{c:Code}(hf:P.funcs[f]? = some fn)(hb:fn.body=some c){args:List AV}{own:List dr}
  {I:cS} {F:cR} {keep:List Nat} {Q:Ending→cS→cR→Prop} (hk:v9 0 keep=true) (hwa:∀x∈args,AV.wf own x) (hwo:∀b∈own,∀x∈b.cells,AV.wf own x) {u u1:FrameMode} {v:Value} (hrec:jC u v u1)
  (h:xK P A v fn.results.toList keep Q ⟨iu args fn.ntmps,own,[]⟩ I F c) {vs:List Value} (hv:vs=args.map AV.g):fB P f vs u I (da own++F) fun e u' I' G=>u'=u1∧Q e I' G:=by
 subst hv
 intro w hw
 unfold xK at h
 split at h
 ·rename_i id ops rest
  split at h
  ·rename_i o r hl
   obtain⟨ho,h⟩:=c6 h
   refine callsDIn_of_wpSIn hf hb trivial fun c0 cs hu=>?_
   refine wpSIn_seq (uG hl ho (jC.at hu hrec) ?_)
   have hrel:Rel ⟨iu args fn.ntmps,own,[]⟩ I F { tmps:=(args.map AV.g).toArray++Array.replicate (fn.ntmps-(args.map AV.g).toArray.size) undef,defers:=[] } w:=by
    refine⟨by simp[iu], ?_,rfl, ?_, ?_,hw⟩
    ·intro t av ht
     simp only[iu,List.getElem?_append] at ht
     split at ht
     ·rename_i hlt
      simp only[List.getElem?_map] at ht
      cases ha:args[t]? with
      | none=>rw[ha] at ht;simp at ht
      | some x =>
        rw[ha] at ht
        simp only[Option.map_some,Option.some.injEq] at ht
        subst ht
        simp at hlt
        rw[Array.getElem?_append_left (by simpa using hlt)]
        simp[ha]
     ·rw[List.getElem?_replicate] at ht;split at ht<;>cases ht
    ·intro t av ht
     simp only[iu,List.getElem?_append] at ht
     split at ht
     ·simp only[List.getElem?_map] at ht
      cases ha:args[t]? with
      | none=>rw[ha] at ht;simp at ht
      | some x =>
        rw[ha] at ht
        simp only[Option.map_some,Option.some.injEq] at ht
        subst ht
        exact hwa _ (List.mem_of_getElem? ha)
     ·rw[List.getElem?_replicate] at ht;split at ht<;>cases ht
    ·exact fun i b hb' x hx=>hwo b (List.mem_of_getElem? hb') x hx
   have hrel2:=hrel.put o.dst (av:=.a (.v v)) (v:=v) rfl trivial
   refine hU (ro:=none) hP r 1 _ I F _ w (.inl rfl) h hrel2 ?_ ?_
   ·intro σ' I' F' a' w' h1 h2 h3 _
    refine wpSIn_of_wpIn rfl (wpIn_mono (tN hP rest 2 _ none none σ' I' F' a' w' rfl h3 h1) ?_)
    intro e a2 w2 ⟨σ2,I2,F2,g1,g2,g3,_⟩
    exact yy (fn:=fn) hk (fun e I3 F3 w3 hl3 hs3 hq3=>⟨I3,F3,hl3,hs3,rfl,hq3⟩) g1 (cS.le_trans h2 g2) g3
   ·intro ch σ' I' F' a' w' h1 h2 h3 _
    show bodyPostS P fn c0 cs (fun e u' w'=>∃I' F',I.le I'∧Sat I' F' w'∧u'=u1∧Q e I' F') (.panic ch) a' _ w'
    exact yy (fn:=fn) hk (e:=.panic ch) (fun e I3 F3 w3 hl3 hs3 hq3=>⟨I3,F3,hl3,hs3,rfl,hq3⟩) h1 h2 h3
  ·exact h.elim
 ·exact h.elim
theorem j5{f:FuncId}{fn:Func}{args:List AV}{own:List dr}{I:cS}{F:cR}{keep:List Nat}{Q:cW}{V:Prop}{u u1:FrameMode}{v:Value}(gd:List Nat)(hf:P.funcs[f]? = some fn)(hrec:jC u v u1)(h:V)
  (e:xK P A v fn.results.toList keep Q ⟨iu args fn.ntmps,own,[]⟩ I F (fn.body.getD .skip)=V) (hg:A.good=lx gd) (hG:gd.all (oy P)=true) (hb:fn.body=some (fn.body.getD .skip)) (hk:v9 0 keep=true)
  (hwa:∀x∈args,AV.wf own x) (hwo:∀b∈own,∀x∈b.cells,AV.wf own x) {vs:List Value} (hv:vs=args.map AV.g):fB P f vs u I (da own++F) fun e u' I' G=>u'=u1∧Q e I' G :=
 uH (fun f hf'=>mR gd hG f (by rw[←hg];exact hf')) hf hb hk hwa hwo hrec (by rw[←e] at h;exact h) hv
end
end Go.Vc
namespace Go.Lx
open Go.Vc
end Go.Lx
namespace Go.Vc
theorem fB.mono{P:Program}{f:FuncId}{args:List Value}{u:FrameMode}{I:cS}{F:cR}{Q Q':Ending→FrameMode→cS→cR→Prop}(h:fB P f args u I F Q)(k:∀e u' I' G,cS.le I I'→Q e u' I' G→Q' e u' I' G):fB P f args u I F Q' :=
 fun w hw=>(h w hw).mono fun e u' w' ⟨I',F',h1,h2,h3⟩=>⟨I',F',h1,h2,k _ _ _ _ h1 h3⟩
end Go.Vc
namespace Go.Lx
open Go.Vc
end Go.Lx
namespace Go.Vc
open Go.MapKept
section
variable {P:Program} {κ β:Type} {d:TypeDesc} {key:κ→Value} {val:β→Value} {g:κ→Option β} {es:Array MapEntry} {clock:Nat} {t kt et:TypeId} {I:cS} {F:cR} {r:Nat} {k:κ} {z:Value}
variable [DecidableEq κ]
end
end Go.Vc
namespace Go.Vc
end Go.Vc
namespace Go.Lx
open Go.Vc
structure gB where
 name:ByteArray
 gX:Int
 init:Px
 pos:Int
structure dY where
 name:ByteArray
 pos:Int
structure k9 where
 kind:Int
 order:Int
 name:ByteArray
 side:Px
 qty:Px
 price:Px
 value:Px
 pos:Int
structure ix where
 when:Px
 dos:List k9
 pos:Int
structure fX where
 name:ByteArray
 rules:List ix
 pos:Int
structure gO where
 name:ByteArray
 regs:List gB
 slots:List dY
 states:List fX
structure fC where
 name:ByteArray
 gX:Int
 init:Nd
 pos:Int
structure iG where
 kind:Int
 order:Int
 name:ByteArray
 side:Nd
 qty:Nd
 price:Nd
 value:Nd
 pos:Int
structure dQ where
 when:Nd
 a:Option Addr
 c:Nat
 dos:List iG
 pos:Int
structure dn where
 name:ByteArray
 a:Option Addr
 c:Nat
 rules:List dQ
 pos:Int
structure gQ where
 name:ByteArray
 ra:Option Addr
 rc:Nat
 regs:List fC
 sa:Option Addr
 sc:Nat
 slots:List dY
 ta:Option Addr
 tc:Nat
 states:List dn
def fC.p(r:fC):gB:=⟨r.name,r.gX,r.init.px,r.pos⟩
def iG.p(d:iG):k9:=⟨d.kind,d.order,d.name,d.side.px,d.qty.px,d.price.px,d.value.px,d.pos⟩
def dQ.p(r:dQ):ix:=⟨r.when.px,r.dos.map iG.p,r.pos⟩
def dn.p(s:dn):fX:=⟨s.name,s.rules.map dQ.p,s.pos⟩
def gQ.p(s:gQ):gO:=⟨s.name,s.regs.map fC.p,s.slots,s.states.map dn.p⟩
abbrev fC.enc(r:fC):List Value:=[.string r.name,.int .u8 r.gX,.int .u8 r.init.kind,.int .u8 r.init.oper,.int .u8 r.init.gX,.int .i64 r.init.n,.int .u8 r.init.field,.string r.init.name,.slice r.init.a r.init.kids.length r.init.c,.int .i64 r.init.pos,.int .i64 r.pos]
abbrev dY.enc(r:dY):List Value:=[.string r.name,.int .i64 r.pos]
abbrev iG.enc(d:iG):List Value:=[.int .u8 d.kind,.int .u8 d.order,.string d.name,.int .u8 d.side.kind,.int .u8 d.side.oper,.int .u8 d.side.gX,.int .i64 d.side.n,.int .u8 d.side.field,.string d.side.name,.slice d.side.a d.side.kids.length d.side.c,.int .i64 d.side.pos,.int .u8 d.qty.kind,.int .u8 d.qty.oper,.int .u8 d.qty.gX,.int .i64 d.qty.n,.int .u8 d.qty.field,.string d.qty.name,.slice d.qty.a d.qty.kids.length d.qty.c,.int .i64 d.qty.pos,.int .u8 d.price.kind,.int .u8 d.price.oper,.int .u8 d.price.gX,.int .i64 d.price.n,.int .u8 d.price.field,.string d.price.name,.slice d.price.a d.price.kids.length d.price.c,.int .i64 d.price.pos,.int .u8 d.value.kind,.int .u8 d.value.oper,.int .u8 d.value.gX,.int .i64 d.value.n,.int .u8 d.value.field,.string d.value.name,.slice d.value.a d.value.kids.length d.value.c,.int .i64 d.value.pos,.int .i64 d.pos]
abbrev dQ.enc(r:dQ):List Value:=[.int .u8 r.when.kind,.int .u8 r.when.oper,.int .u8 r.when.gX,.int .i64 r.when.n,.int .u8 r.when.field,.string r.when.name,.slice r.when.a r.when.kids.length r.when.c,.int .i64 r.when.pos,.slice r.a r.dos.length r.c,.int .i64 r.pos]
abbrev dn.enc(s:dn):List Value:=[.string s.name,.slice s.a s.rules.length s.c,.int .i64 s.pos]
abbrev fC.v(r:fC):Value:=.agg #[.string r.name,.int .u8 r.gX,.int .u8 r.init.kind,.int .u8 r.init.oper,.int .u8 r.init.gX,.int .i64 r.init.n,.int .u8 r.init.field,.string r.init.name,.slice r.init.a r.init.kids.length r.init.c,.int .i64 r.init.pos,.int .i64 r.pos]
abbrev dY.v(r:dY):Value:=.agg #[.string r.name,.int .i64 r.pos]
abbrev iG.v(d:iG):Value:=.agg #[.int .u8 d.kind,.int .u8 d.order,.string d.name,.int .u8 d.side.kind,.int .u8 d.side.oper,.int .u8 d.side.gX,.int .i64 d.side.n,.int .u8 d.side.field,.string d.side.name,.slice d.side.a d.side.kids.length d.side.c,.int .i64 d.side.pos,.int .u8 d.qty.kind,.int .u8 d.qty.oper,.int .u8 d.qty.gX,.int .i64 d.qty.n,.int .u8 d.qty.field,.string d.qty.name,.slice d.qty.a d.qty.kids.length d.qty.c,.int .i64 d.qty.pos,.int .u8 d.price.kind,.int .u8 d.price.oper,.int .u8 d.price.gX,.int .i64 d.price.n,.int .u8 d.price.field,.string d.price.name,.slice d.price.a d.price.kids.length d.price.c,.int .i64 d.price.pos,.int .u8 d.value.kind,.int .u8 d.value.oper,.int .u8 d.value.gX,.int .i64 d.value.n,.int .u8 d.value.field,.string d.value.name,.slice d.value.a d.value.kids.length d.value.c,.int .i64 d.value.pos,.int .i64 d.pos]
abbrev dQ.v(r:dQ):Value:=.agg #[.int .u8 r.when.kind,.int .u8 r.when.oper,.int .u8 r.when.gX,.int .i64 r.when.n,.int .u8 r.when.field,.string r.when.name,.slice r.when.a r.when.kids.length r.when.c,.int .i64 r.when.pos,.slice r.a r.dos.length r.c,.int .i64 r.pos]
abbrev dn.v(s:dn):Value:=.agg #[.string s.name,.slice s.a s.rules.length s.c,.int .i64 s.pos]
abbrev gQ.enc(s:gQ):List Value:=[.string s.name,.slice s.ra s.regs.length s.rc,.slice s.sa s.slots.length s.sc,.slice s.ta s.states.length s.tc]
abbrev gQ.v(s:gQ):Value:=.agg #[.string s.name,.slice s.ra s.regs.length s.rc,.slice s.sa s.slots.length s.sc,.slice s.ta s.states.length s.tc]
def fC.Ok(I:cS)(G:cR)(r:fC):Prop:=jn I G r.init
def iG.Ok(I:cS)(G:cR)(d:iG):Prop:=jn I G d.side∧jn I G d.qty∧jn I G d.price∧jn I G d.value
def dQ.Ok(I:cS)(G:cR)(r:dQ):Prop:=jn I G r.when∧qM I G 36 iG.enc r.a r.dos.length r.dos∧∀d∈r.dos,d.Ok I G
def dn.Ok(I:cS)(G:cR)(s:dn):Prop:=qM I G 10 dQ.enc s.a s.rules.length s.rules∧∀r∈s.rules,r.Ok I G
structure gQ.Ok (I:cS) (G:cR) (s:gQ):Prop where
 regs:qM I G 11 fC.enc s.ra s.regs.length s.regs
 qq:∀r∈s.regs,r.Ok I G
 slots:qM I G 2 dY.enc s.sa s.slots.length s.slots
 states:qM I G 3 dn.enc s.ta s.states.length s.states
 state:∀x∈s.states,x.Ok I G
section
variable {I J:cS} {G H:cR}
end
def k9.yz(d:k9):List Px:=[d.side,d.qty,d.price,d.value]
def ix.yz(r:ix):List Px:=r.when::r.dos.flatMap k9.yz
def gO.yz(s:gO):List Px:=s.regs.map gB.init++s.states.flatMap fun x=>x.rules.flatMap ix.yz
end Go.Lx
namespace Go.Lx
open Go.Vc
end Go.Lx
namespace Go.Lx
open Go.Vc Go.Proofs.Tryd
def jP:List (Nat×List Sh):=[(3,[.one (.int .i64)]),(4,[.one .bool]),(5,[.one (.int .u8)]),(131,[.agg [(.int .u8),.str,(.int .u8),(.int .i64),(.int .i64)],.one (.int .i64)]),(133,[.one .slc]),(146,[.one .slc])]
def kN.V(c:Int)(I:cS)(F:cR)(Q:cW)  : Prop:=Q (.returned (.bool (c != 10))) I (F)
theorem kN.vc{c:Int}{I:cS}{F:cR}{Q:cW}  (h:kN.V c I F Q):cV P 62 #[.int .u8 c] I F Q :=
 tw (A:=(an [] [] jP)) [] func62 h
def nq.V(s:Bs)(d:Int)(on:Nat)(b c:Array Value)(I:cS)(F:cR)(Q:cW)(Inv4:Int→Nat→cS→cR→Prop):Prop:=(∃m:Nat,Inv4 d m I F)∧∀(a:Int) (m1:Nat) (I1:cS) (F1:cR),cS.le I I1→Inv4 a m1 I1 F1→((decide (a<(s.size:Int))=true→((0≤a∧a<(s.size:Int))∧di P on∧cV P on (b++#[.int .u8 (bt s a)]++c) I1 F1 fun e1 I2 G1=>∃(r:Bool),e1=.returned (.bool r)∧∃F2:cR,List.Perm G1 F2∧((r=true→(∃m2:Nat,m2<m1∧Inv4 (IntKind.wrap .i64 (a+1)) m2 I2 F2))∧(r=false→Q (.returned (.int .i64 a)) I2 F2))))∧(decide (a<(s.size:Int))=false→Q (.returned (.int .i64 a)) I1 F1))
theorem nq.vc{s:Bs}{c:Int}{on:Nat}{a b:Array Value}{I:cS}{F:cR}{Q:cW}(Inv4:Int→Nat→cS→cR→Prop)(h:nq.V s c on a b I F Q Inv4):cV P 57 #[.string s,.int .i64 c,.func (.func on) a b] I F Q :=
 tw (A:=(eU [1003,1009] [] [] jP [(4,⟨[(1,(.int .i64))],[],fun _ _ _ vs m I F=>match vs with | [.int _ y0]=>Inv4 y0 m I F | _=>False,[],[]⟩)] [] [] [] [] [] [])) [] func57 h
def lE.V(vi:Int→Value)(wr:Int→Int)(s:Bs)(b:Int)(I:cS)(F:cR)(Q:cW)(Inv7:Int→Nat→cS→cR→Prop):Prop:=(∃m:Nat,Inv7 b m I F)∧∀(a:Int) (m1:Nat) (I1:cS) (F1:cR),cS.le I I1→Inv7 a m1 I1 F1→((decide (a<(s.size:Int))=true→((0≤a∧a<(s.size:Int))∧((((bt s a)==32)=true→(∃m2:Nat,m2<m1∧Inv7 (wr (a+1)) m2 I1 F1))∧(((bt s a)==32)=false→((((bt s a)==9)=true→(∃m3:Nat,m3<m1∧Inv7 (wr (a+1)) m3 I1 F1))∧(((bt s a)==9)=false→((((bt s a)==10)=true→(∃m4:Nat,m4<m1∧Inv7 (wr (a+1)) m4 I1 F1))∧(((bt s a)==10)=false→((((bt s a)==13)=true→(∃m5:Nat,m5<m1∧Inv7 (wr (a+1)) m5 I1 F1))∧(((bt s a)==13)=false→((((bt s a)==35)=true→cV P 57 (#[.string s,vi a,.func (.func 62) #[] #[]]) I1 F1 fun e1 I2 G1=>∃(r:Int),e1=.returned (vi r)∧∃F2:cR,List.Perm G1 F2∧(∃m6:Nat,m6<m1∧Inv7 r m6 I2 F2))∧(((bt s a)==35)=false→Q (.returned (vi a)) I1 F1))))))))))))∧(decide (a<(s.size:Int))=false→Q (.returned (vi a)) I1 F1))
theorem lE.vc{s:Bs}{a:Int}{I:cS}{F:cR}{Q:cW}(Inv7:Int→Nat→cS→cR→Prop)(h:lE.V (.int .i64) (IntKind.wrap .i64) s a I F Q Inv7):cV P 53 #[.string s,.int .i64 a] I F Q :=
 tw (A:=(eU [1003,3000,4000,5000,6000,8000] [] [57] jP [(7,⟨[(1,(.int .i64))],[],fun _ _ _ vs m I F=>match vs with | [.int _ y0]=>Inv7 y0 m I F | _=>False,[],[]⟩)] [] [] [] [] [] [])) [57] func53 h
def jq.V(vb vi:Int→Value)(vs:Bs→Value)(wr:Int→Int)(s:Bs)(c:Int)(I:cS)(F:cR)(Q:cW)(Inv10:Int→Int→Int→Bs→Int→Int→Int→Int→Bs→Int→Int→Int→Nat→cS→cR→Prop)(Inv33:Int→Int→Bs→Int→Int→Int→cS→cR→Prop)(Inv43:Int→cS→cR→Prop)(Inv51:Int→Int→Int→Bs→Int→Int→Int→cS→cR→Prop):Prop:=∀b:Nat,cV P 57 (#[vs s,vi c,.func (.func 54) #[] #[]]) I ((b,Obj.cells #[vb 0,vs (⟨#[]⟩:Bs),vb 0,vi 0,vi 0] 70 (0,0))::F) fun e1 I1 G1=>∃(r:Int),e1=.returned (vi r)∧∃F1:cR,List.Perm G1 ((b,Obj.cells #[vb 0,vs (⟨#[]⟩:Bs),vb 0,vi 0,vi 0] 70 (0,0))::F1)∧∀y:Nat,((0≤c∧c≤r∧r≤(s.size:Int))∧dW P (Go.convert 9 146 (vs (s.extract (Int.toNat c) (Int.toNat r)))) I1 ((b,Obj.cells #[vb 0,vs (⟨#[]⟩:Bs),vb 0,vi 0,vi 0] 70 (0,0))::(y,Obj.cells #[vb 3,vs (⟨#[]⟩:Bs),vb 1,vi 0,vi c] 70 (0,0))::F1) fun v I2 G2=>∃(ag:OA) (af ai:Nat),v=.slice ag af ai∧∃F2:cR,List.Perm G2 ((b,Obj.cells #[vb 0,vs (⟨#[]⟩:Bs),vb 0,vi 0,vi 0] 70 (0,0))::(y,Obj.cells #[vb 3,vs (⟨#[]⟩:Bs),vb 1,vi 0,vi c] 70 (0,0))::F2)∧(∃m:Nat,Inv10 0 0 0 (⟨#[]⟩:Bs) 0 0 0 3 (⟨#[]⟩:Bs) 1 0 c m I2 F2)∧∀(x x1 p:Int) (q:Bs) (t u w i:Int) (j:Bs) (n d k:Int) (m1:Nat) (I3:cS) (F3:cR),cS.le I2 I3→Inv10 x x1 p q t u w i j n d k m1 I3 F3→((decide (x1<(af:Int))=true→((0≤x1∧x1<(af:Int))∧∃ad:Addr,ag=some ad∧∃(m2:Int),Rd I3 ((b,Obj.cells #[vb p,vs q,vb t,vi u,vi w] 70 (0,0))::(y,Obj.cells #[vb i,vs j,vb n,vi d,vi k] 70 (0,0))::F3) (ad.add (Int.toNat x1*1)) [vb m2]∧((decide (d>(wr (Int.tdiv (wr (9223372036854775807-(wr (IntKind.wrap .u8 (m2-48))))) 10)))=true→Q (.returned (.tuple #[.agg #[vb 0,vs (⟨#[]⟩:Bs),vb 0,vi 0,vi 0],vi 113])) I3 F3)∧(decide (d>(wr (Int.tdiv (wr (9223372036854775807-(wr (IntKind.wrap .u8 (m2-48))))) 10)))=false→(∃m3:Nat,m3<m1∧Inv10 x (wr (x1+1)) p q t u w i j n (wr ((wr (10*d))+(wr (IntKind.wrap .u8 (m2-48))))) k m3 I3 F3)))))∧(decide (x1<(af:Int))=false→(((decide ((wr (r-c))>1)=true→((0≤c∧c<(s.size:Int))∧((((bt s c)==48)=true→Q (.returned (.tuple #[.agg #[vb 0,vs (⟨#[]⟩:Bs),vb 0,vi 0,vi 0],vi 113])) I3 F3)∧(((bt s c)==48)=false→Inv33 x p q t u w I3 F3))))∧(decide ((wr (r-c))>1)=false→Inv33 x p q t u w I3 F3)))∧∀(x2 z:Int) (aa:Bs) (ab ac ae:Int) (I4:cS) (F4:cR),cS.le I3 I4→Inv33 x2 z aa ab ac ae I4 F4→(((decide (r<(s.size:Int))=true→((0≤r∧r<(s.size:Int))∧Inv43 (bt s r) I4 F4))∧(decide (r<(s.size:Int))=false→Inv43 0 I4 F4)))∧∀(l:Int) (I5:cS) (F5:cR),cS.le I4 I5→Inv43 l I5 F5→((((l==116)=true→Inv51 (wr (r+1)) (wr ((wr ((wr ((-1)+1))+1))+1)) i j (IntKind.wrap .u8 (2+(IntKind.wrap .u8 (wr ((wr ((wr ((-1)+1))+1))+1))))) d k I5 F5)∧((l==116)=false→(((l==112)=true→Inv51 (wr (r+1)) (wr ((wr ((-1)+1))+1)) i j (IntKind.wrap .u8 (2+(IntKind.wrap .u8 (wr ((wr ((-1)+1))+1))))) d k I5 F5)∧((l==112)=false→(((l==113)=true→Inv51 (wr (r+1)) (wr ((-1)+1)) i j (IntKind.wrap .u8 (2+(IntKind.wrap .u8 (wr ((-1)+1))))) d k I5 F5)∧((l==113)=false→Inv51 r (-1) i j n d k I5 F5)))))))∧∀(a ah e:Int) (o:Bs) (f g h:Int) (I6:cS) (F6:cR),cS.le I5 I6→Inv51 a ah e o f g h I6 F6→((decide (a<(s.size:Int))=true→((0≤a∧a<(s.size:Int))∧cV P 58 (#[vb (bt s a)]) I6 ((b,Obj.cells #[vb z,vs aa,vb ab,vi ac,vi ae] 70 (0,0))::(y,Obj.cells #[vb e,vs o,vb f,vi g,vi h] 70 (0,0))::F6) fun e2 I7 G3=>∃(r1:Bool),e2=.returned (.bool r1)∧∃F7:cR,List.Perm G3 ((b,Obj.cells #[vb z,vs aa,vb ab,vi ac,vi ae] 70 (0,0))::(y,Obj.cells #[vb e,vs o,vb f,vi g,vi h] 70 (0,0))::F7)∧((r1=true→Q (.returned (.tuple #[.agg #[vb 0,vs (⟨#[]⟩:Bs),vb 0,vi 0,vi 0],vi 113])) I7 F7)∧(r1=false→((0≤a∧a<(s.size:Int))∧((decide (65≤(bt s a))=true→((0≤a∧a<(s.size:Int))∧((decide ((bt s a)≤90)=true→Q (.returned (.tuple #[.agg #[vb 0,vs (⟨#[]⟩:Bs),vb 0,vi 0,vi 0],vi 113])) I7 F7)∧(decide ((bt s a)≤90)=false→((0≤c∧c≤a∧a≤(s.size:Int))∧Q (.returned (.tuple #[.agg #[vb e,vs (s.extract (Int.toNat c) (Int.toNat a)),vb f,vi g,vi h],vi 0])) I7 F7)))))∧(decide (65≤(bt s a))=false→((0≤c∧c≤a∧a≤(s.size:Int))∧Q (.returned (.tuple #[.agg #[vb e,vs (s.extract (Int.toNat c) (Int.toNat a)),vb f,vi g,vi h],vi 0])) I7 F7))))))))∧(decide (a<(s.size:Int))=false→((0≤c∧c≤a∧a≤(s.size:Int))∧Q (.returned (.tuple #[.agg #[vb e,vs (s.extract (Int.toNat c) (Int.toNat a)),vb f,vi g,vi h],vi 0])) I6 F6))))))
theorem jq.vc{s:Bs}{a:Int}{I:cS}{F:cR}{Q:cW}(Inv10:Int→Int→Int→Bs→Int→Int→Int→Int→Bs→Int→Int→Int→Nat→cS→cR→Prop)(Inv33:Int→Int→Bs→Int→Int→Int→cS→cR→Prop)(Inv43:Int→cS→cR→Prop)(Inv51:Int→Int→Int→Bs→Int→Int→Int→cS→cR→Prop)(h:jq.V (.int .u8) (.int .i64) .string (IntKind.wrap .i64) s a I F Q Inv10 Inv33 Inv43 Inv51):cV P 55 #[.string s,.int .i64 a] I F Q :=
 tw (A:=(eU [4000,7005,11003,11008,14003,18000,19000,20000,26003,26008,26013,26018] [] [57,58] jP [(10,⟨[(5,(.int .i64)),(24,(.int .i64))],[(0,[(.int .u8),.str,(.int .u8),(.int .i64),(.int .i64)]),(1,[(.int .u8),.str,(.int .u8),(.int .i64),(.int .i64)])],fun _ _ _ vs m I F=>match vs with | [.int _ y0,.int _ y1,.int _ y2,.string y3,.int _ y4,.int _ y5,.int _ y6,.int _ y7,.string y8,.int _ y9,.int _ y10,.int _ y11]=>Inv10 y0 y1 y2 y3 y4 y5 y6 y7 y8 y9 y10 y11 m I F | _=>False,[],[]⟩),(33,⟨[(5,(.int .i64))],[(0,[(.int .u8),.str,(.int .u8),(.int .i64),(.int .i64)])],fun _ _ _ vs m I F=>match vs with | [.int _ y0,.int _ y1,.string y2,.int _ y3,.int _ y4,.int _ y5]=>Inv33 y0 y1 y2 y3 y4 y5 I F | _=>False,[],[]⟩),(43,⟨[(11,(.int .u8))],[],fun _ _ _ vs m I F=>match vs with | [.int _ y0]=>Inv43 y0 I F | _=>False,[],[]⟩),(51,⟨[(6,(.int .i64)),(12,(.int .i64))],[(1,[(.int .u8),.str,(.int .u8),(.int .i64),(.int .i64)])],fun _ _ _ vs m I F=>match vs with | [.int _ y0,.int _ y1,.int _ y2,.string y3,.int _ y4,.int _ y5,.int _ y6]=>Inv51 y0 y1 y2 y3 y4 y5 y6 I F | _=>False,[],[]⟩)] [] [] [] [] [] [])) [57,58] func55 h
def lF.V(vi:Int→Value)(wr:Int→Int)(s:Bs)(a:Int)(I:cS)(F:cR)(Q:cW)  : Prop:=((decide ((wr (a+1))<(s.size:Int))=true→((0≤(wr (a+1))∧(wr (a+1))<(s.size:Int))∧((0≤a∧a<(s.size:Int))∧((((bt s a)==123)=true→Q (.returned (vi 1)) I F)∧(((bt s a)==123)=false→((((bt s a)==125)=true→Q (.returned (vi 1)) I F)∧(((bt s a)==125)=false→((((bt s a)==40)=true→Q (.returned (vi 1)) I F)∧(((bt s a)==40)=false→((((bt s a)==41)=true→Q (.returned (vi 1)) I F)∧(((bt s a)==41)=false→((((bt s a)==44)=true→Q (.returned (vi 1)) I F)∧(((bt s a)==44)=false→((((bt s a)==59)=true→Q (.returned (vi 1)) I F)∧(((bt s a)==59)=false→((((bt s a)==63)=true→Q (.returned (vi 1)) I F)∧(((bt s a)==63)=false→((((bt s a)==58)=true→Q (.returned (vi 1)) I F)∧(((bt s a)==58)=false→((((bt s a)==43)=true→Q (.returned (vi 1)) I F)∧(((bt s a)==43)=false→((((bt s a)==45)=true→Q (.returned (vi 1)) I F)∧(((bt s a)==45)=false→((((bt s a)==42)=true→Q (.returned (vi 1)) I F)∧(((bt s a)==42)=false→((((bt s a)==47)=true→Q (.returned (vi 1)) I F)∧(((bt s a)==47)=false→((((bt s a)==37)=true→Q (.returned (vi 1)) I F)∧(((bt s a)==37)=false→((((bt s a)==38)=true→((((bt s (wr (a+1)))==(bt s a))=true→Q (.returned (vi 2)) I F)∧(((bt s (wr (a+1)))==(bt s a))=false→Q (.returned (vi 0)) I F)))∧(((bt s a)==38)=false→((((bt s a)==124)=true→((((bt s (wr (a+1)))==(bt s a))=true→Q (.returned (vi 2)) I F)∧(((bt s (wr (a+1)))==(bt s a))=false→Q (.returned (vi 0)) I F)))∧(((bt s a)==124)=false→((((bt s a)==61)=true→((((bt s (wr (a+1)))==61)=true→Q (.returned (vi 2)) I F)∧(((bt s (wr (a+1)))==61)=false→Q (.returned (vi 1)) I F)))∧(((bt s a)==61)=false→((((bt s a)==33)=true→((((bt s (wr (a+1)))==61)=true→Q (.returned (vi 2)) I F)∧(((bt s (wr (a+1)))==61)=false→Q (.returned (vi 1)) I F)))∧(((bt s a)==33)=false→((((bt s a)==60)=true→((((bt s (wr (a+1)))==61)=true→Q (.returned (vi 2)) I F)∧(((bt s (wr (a+1)))==61)=false→Q (.returned (vi 1)) I F)))∧(((bt s a)==60)=false→((((bt s a)==62)=true→((((bt s (wr (a+1)))==61)=true→Q (.returned (vi 2)) I F)∧(((bt s (wr (a+1)))==61)=false→Q (.returned (vi 1)) I F)))∧(((bt s a)==62)=false→Q (.returned (vi 0)) I F)))))))))))))))))))))))))))))))))))))))))∧(decide ((wr (a+1))<(s.size:Int))=false→((0≤a∧a<(s.size:Int))∧((((bt s a)==123)=true→Q (.returned (vi 1)) I F)∧(((bt s a)==123)=false→((((bt s a)==125)=true→Q (.returned (vi 1)) I F)∧(((bt s a)==125)=false→((((bt s a)==40)=true→Q (.returned (vi 1)) I F)∧(((bt s a)==40)=false→((((bt s a)==41)=true→Q (.returned (vi 1)) I F)∧(((bt s a)==41)=false→((((bt s a)==44)=true→Q (.returned (vi 1)) I F)∧(((bt s a)==44)=false→((((bt s a)==59)=true→Q (.returned (vi 1)) I F)∧(((bt s a)==59)=false→((((bt s a)==63)=true→Q (.returned (vi 1)) I F)∧(((bt s a)==63)=false→((((bt s a)==58)=true→Q (.returned (vi 1)) I F)∧(((bt s a)==58)=false→((((bt s a)==43)=true→Q (.returned (vi 1)) I F)∧(((bt s a)==43)=false→((((bt s a)==45)=true→Q (.returned (vi 1)) I F)∧(((bt s a)==45)=false→((((bt s a)==42)=true→Q (.returned (vi 1)) I F)∧(((bt s a)==42)=false→((((bt s a)==47)=true→Q (.returned (vi 1)) I F)∧(((bt s a)==47)=false→((((bt s a)==37)=true→Q (.returned (vi 1)) I F)∧(((bt s a)==37)=false→((((bt s a)==38)=true→(((0==(bt s a))=true→Q (.returned (vi 2)) I F)∧((0==(bt s a))=false→Q (.returned (vi 0)) I F)))∧(((bt s a)==38)=false→((((bt s a)==124)=true→(((0==(bt s a))=true→Q (.returned (vi 2)) I F)∧((0==(bt s a))=false→Q (.returned (vi 0)) I F)))∧(((bt s a)==124)=false→((((bt s a)==61)=true→((false=true→Q (.returned (vi 2)) I F)∧(false=false→Q (.returned (vi 1)) I F)))∧(((bt s a)==61)=false→((((bt s a)==33)=true→((false=true→Q (.returned (vi 2)) I F)∧(false=false→Q (.returned (vi 1)) I F)))∧(((bt s a)==33)=false→((((bt s a)==60)=true→((false=true→Q (.returned (vi 2)) I F)∧(false=false→Q (.returned (vi 1)) I F)))∧(((bt s a)==60)=false→((((bt s a)==62)=true→((false=true→Q (.returned (vi 2)) I F)∧(false=false→Q (.returned (vi 1)) I F)))∧(((bt s a)==62)=false→Q (.returned (vi 0)) I F)))))))))))))))))))))))))))))))))))))))))
theorem lF.vc{s:Bs}{a:Int}{I:cS}{F:cR}{Q:cW}  (h:lF.V (.int .i64) (IntKind.wrap .i64) s a I F Q):cV P 60 #[.string s,.int .i64 a] I F Q :=
 tw (A:=(an [2004,6000,7000,8000,9000,10000,11000,12000,13000,14000,15000,16000,17000,18000,20000,21000,22002,24000,25000,26000,27000,28001] [] jP)) [] func60 h
def j6.V(vb vi:Int→Value)(vs:Bs→Value)(wr:Int→Int)(s:Bs)(i:Int)(I:cS)(F:cR)(Q:cW)  : Prop:=∀b:Nat,cV P 53 #[vs s,vi i] I ((b,Obj.cells #[vb 0,vs (⟨#[]⟩:Bs),vb 0,vi 0,vi 0] 70 (0,0))::F) fun e1 I1 G1=>∃(r:Int),e1=.returned (vi r)∧∃F1:cR,List.Perm G1 ((b,Obj.cells #[vb 0,vs (⟨#[]⟩:Bs),vb 0,vi 0,vi 0] 70 (0,0))::F1)∧(((r==(s.size:Int))=true→Q (.returned (.tuple #[.agg #[vb 0,vs (⟨#[]⟩:Bs),vb 0,vi 0,vi r],vi 0])) I1 F1)∧((r==(s.size:Int))=false→((0≤r∧r<(s.size:Int))∧cV P 54 (#[vb (bt s r)]) I1 ((b,Obj.cells #[vb 0,vs (⟨#[]⟩:Bs),vb 0,vi 0,vi 0] 70 (0,0))::F1) fun e2 I2 G2=>∃(r1:Bool),e2=.returned (.bool r1)∧∃F2:cR,List.Perm G2 ((b,Obj.cells #[vb 0,vs (⟨#[]⟩:Bs),vb 0,vi 0,vi 0] 70 (0,0))::F2)∧((r1=true→cV P 55 #[vs s,vi r] I2 ((b,Obj.cells #[vb 0,vs (⟨#[]⟩:Bs),vb 0,vi 0,vi 0] 70 (0,0))::F2) fun e3 I3 G3=>∃(a:Int) (c:Bs) (d e h g:Int),e3=.returned (.tuple #[.agg #[vb a,vs c,vb d,vi e,vi h],vi g])∧∃F3:cR,List.Perm G3 ((b,Obj.cells #[vb 0,vs (⟨#[]⟩:Bs),vb 0,vi 0,vi 0] 70 (0,0))::F3)∧∀j:Nat,Q (.returned (.tuple #[.agg #[vb a,vs c,vb d,vi e,vi r],vi g])) I3 F3)∧(r1=false→cV P 56 (#[vb (bt s r)]) I2 ((b,Obj.cells #[vb 0,vs (⟨#[]⟩:Bs),vb 0,vi 0,vi 0] 70 (0,0))::F2) fun e4 I4 G4=>∃(r2:Bool),e4=.returned (.bool r2)∧∃F4:cR,List.Perm G4 ((b,Obj.cells #[vb 0,vs (⟨#[]⟩:Bs),vb 0,vi 0,vi 0] 70 (0,0))::F4)∧((r2=true→cV P 57 (#[vs s,vi r,.func (.func 58) #[] #[]]) I4 ((b,Obj.cells #[vb 0,vs (⟨#[]⟩:Bs),vb 0,vi 0,vi 0] 70 (0,0))::F4) fun e5 I5 G5=>∃(r3:Int),e5=.returned (vi r3)∧∃F5:cR,List.Perm G5 ((b,Obj.cells #[vb 0,vs (⟨#[]⟩:Bs),vb 0,vi 0,vi 0] 70 (0,0))::F5)∧((decide ((wr (r3-r))>16)=true→Q (.returned (.tuple #[.agg #[vb 0,vs (⟨#[]⟩:Bs),vb 0,vi 0,vi r],vi 112])) I5 F5)∧(decide ((wr (r3-r))>16)=false→((0≤r∧r≤r3∧r3≤(s.size:Int))∧∀f:Nat,cV P 59 (#[vs (s.extract (Int.toNat r) (Int.toNat r3))]) I5 ((b,Obj.cells #[vb 0,vs (⟨#[]⟩:Bs),vb 0,vi 0,vi 0] 70 (0,0))::(f,Obj.cells #[vb 2,vs (s.extract (Int.toNat r) (Int.toNat r3)),vb 0,vi 0,vi r] 70 (0,0))::F5) fun e6 I6 G6=>∃(r4:Bool),e6=.returned (.bool r4)∧∃F6:cR,List.Perm G6 ((b,Obj.cells #[vb 0,vs (⟨#[]⟩:Bs),vb 0,vi 0,vi 0] 70 (0,0))::(f,Obj.cells #[vb 2,vs (s.extract (Int.toNat r) (Int.toNat r3)),vb 0,vi 0,vi r] 70 (0,0))::F6)∧((r4=true→Q (.returned (.tuple #[.agg #[vb 1,vs (s.extract (Int.toNat r) (Int.toNat r3)),vb 0,vi 0,vi r],vi 0])) I6 F6)∧(r4=false→Q (.returned (.tuple #[.agg #[vb 2,vs (s.extract (Int.toNat r) (Int.toNat r3)),vb 0,vi 0,vi r],vi 0])) I6 F6))))))∧(r2=false→cV P 60 #[vs s,vi r] I4 ((b,Obj.cells #[vb 0,vs (⟨#[]⟩:Bs),vb 0,vi 0,vi 0] 70 (0,0))::F4) fun e7 I7 G7=>∃(r5:Int),e7=.returned (vi r5)∧∃F7:cR,List.Perm G7 ((b,Obj.cells #[vb 0,vs (⟨#[]⟩:Bs),vb 0,vi 0,vi 0] 70 (0,0))::F7)∧(((r5==0)=true→Q (.returned (.tuple #[.agg #[vb 0,vs (⟨#[]⟩:Bs),vb 0,vi 0,vi r],vi 111])) I7 F7)∧((r5==0)=false→((0≤r∧r≤(wr (r+r5))∧(wr (r+r5))≤(s.size:Int))∧Q (.returned (.tuple #[.agg #[vb 4,vs (s.extract (Int.toNat r) (Int.toNat ((wr (r+r5))))),vb 0,vi 0,vi r],vi 0])) I7 F7))))))))))
theorem j6.vc{s:Bs}{a:Int}{I:cS}{F:cR}{Q:cW}  (h:j6.V (.int .u8) (.int .i64) .string (IntKind.wrap .i64) s a I F Q):cV P 48 #[.string s,.int .i64 a] I F Q :=
 tw (A:=(an [2003,5001,9001,11003,14002,18001] [53,54,55,56,57,59,60] jP)) [53,54,55,56,57,59,60] func48 h
def jr.V(vb vi:Int→Value)(vs:Bs→Value)(vl:OA→Nat→Nat→Value)(s:Bs)(I:cS)(F:cR)(Q:cW)(Inv15:OA→Nat→Nat→Int→Int→OA→Nat→Nat→Int→Nat→cS→cR→Prop):Prop:=((decide ((s.size:Int)>4096)=true→Q (.returned (.tuple #[vl none 0 0,vi 110,vi 0])) I F)∧(decide ((s.size:Int)>4096)=false→(∃m:Nat,Inv15 none 0 0 0 0 none 0 0 0 m I F)∧∀(j:OA) (k l:Nat) (x x1:Int) (n:OA) (o p:Nat) (q:Int) (m1:Nat) (I1:cS) (F1:cR),cS.le I I1→Inv15 j k l x x1 n o p q m1 I1 F1→cV P 48 #[vs s,vi q] I1 F1 fun e1 I2 G1=>∃(a:Int) (d:Bs) (e f c r1:Int),e1=.returned (.tuple #[.agg #[vb a,vs d,vb e,vi f,vi c],vi r1])∧∃F2:cR,List.Perm G1 F2∧∀r:Nat,(((r1 != 0)=true→Q (.returned (.tuple #[vl none 0 0,vi r1,vi c])) I2 F2)∧((r1 != 0)=false→∀(b:Nat) (I3:cS),cS.le I2 I3→I3 b=some (Obj.cells #[vb a,vs d,vb e,vi f,vi c] 70 (0,0))→dW P (Builtin.append_ #[133,133] 133 #[vl n o p,vl (some ⟨b,0,none⟩) 1 1]) I3 ((r,Obj.cells #[vb a,vs d,vb e,vi f,vi c] 70 (0,0))::F2) fun v I4 G2=>∃(g:OA) (h i:Nat),v=vl g h i∧∃F3:cR,List.Perm G2 ((r,Obj.cells #[vb a,vs d,vb e,vi f,vi c] 70 (0,0))::F3)∧(((a==0)=true→Q (.returned (.tuple #[vl g h i,vi 0,vi 0])) I4 F3)∧((a==0)=false→(∃m2:Nat,m2<m1∧Inv15 j k l x x1 g h i (IntKind.wrap .i64 (c+(d.size:Int))) m2 I4 F3)))))))
theorem jr.vc{s:Bs}{I:cS}{F:cR}{Q:cW}(Inv15:OA→Nat→Nat→Int→Int→OA→Nat→Nat→Int→Nat→cS→cR→Prop)(h:jr.V (.int .u8) (.int .i64) .string .slice s I F Q Inv15):cV P 49 #[.string s] I F Q :=
 tw (A:=(eU [1002,6001,9002] [] [48] jP [(15,⟨[(2,.slc),(3,(.int .i64)),(4,(.int .i64)),(5,.slc),(6,(.int .i64))],[],fun _ _ _ vs m I F=>match vs with | [.slice y0 y1 y2,.int _ y3,.int _ y4,.slice y5 y6 y7,.int _ y8]=>Inv15 y0 y1 y2 y3 y4 y5 y6 y7 y8 m I F | _=>False,[],[]⟩)] [8002] [] [] [] [] [])) [48] func49 h
def lG.V(vb vi:Int→Value)(vs:Bs→Value)(s:Bs)(a:Int)(I:cS)(F:cR)(Q:cW)  : Prop:=∀b:Nat,((decide ((s.size:Int)>4096)=true→Q (.returned (.tuple #[.agg #[vb 0,vs (⟨#[]⟩:Bs),vb 0,vi 0,vi 0],vi 0,vi 110])) I F)∧(decide ((s.size:Int)>4096)=false→((decide (a<0)=true→Q (.returned (.tuple #[.agg #[vb 0,vs (⟨#[]⟩:Bs),vb 0,vi 0,vi 0],vi 0,vi 1])) I F)∧(decide (a<0)=false→((decide (a>(s.size:Int))=true→Q (.returned (.tuple #[.agg #[vb 0,vs (⟨#[]⟩:Bs),vb 0,vi 0,vi 0],vi 0,vi 1])) I F)∧(decide (a>(s.size:Int))=false→cV P 48 #[vs s,vi a] I ((b,Obj.cells #[vb 0,vs (⟨#[]⟩:Bs),vb 0,vi 0,vi 0] 70 (0,0))::F) fun e1 I1 G1=>∃(e:Int) (c:Bs) (f g d r1:Int),e1=.returned (.tuple #[.agg #[vb e,vs c,vb f,vi g,vi d],vi r1])∧∃F1:cR,List.Perm G1 ((b,Obj.cells #[vb 0,vs (⟨#[]⟩:Bs),vb 0,vi 0,vi 0] 70 (0,0))::F1)∧∀h:Nat,(((r1 != 0)=true→Q (.returned (.tuple #[.agg #[vb 0,vs (⟨#[]⟩:Bs),vb 0,vi 0,vi 0],vi 0,vi r1])) I1 F1)∧((r1 != 0)=false→Q (.returned (.tuple #[.agg #[vb e,vs c,vb f,vi g,vi d],vi (IntKind.wrap .i64 (d+(c.size:Int))),vi 0])) I1 F1))))))))
theorem lG.vc{s:Bs}{a:Int}{I:cS}{F:cR}{Q:cW}  (h:lG.V (.int .u8) (.int .i64) .string s a I F Q):cV P 36 #[.string s,.int .i64 a] I F Q :=
 tw (A:=(eU [1002,3001,3006,6001] [] [48] jP [] [] [] [(8,7,[0])] [] [] [])) [48] func36 h
end Go.Lx
namespace Go.Lx
open Go.Vc
theorem uI(c:Int)(I:cS)(F:cR):cV P 62 #[.int .u8 c] I F (k8 (.bool (mf c)) F) :=
 kN.vc ⟨rfl,rfl⟩
theorem oF{s:ByteArray}(hs:ef s){i:Int}(h0:0≤i)(h1:i≤s.size){p:Int→Bool}{on:Nat}(hp:∀c I F,cV P on #[.int .u8 c] I F (k8 (.bool (p c)) F))(hen:di P on)(I:cS)(F:cR) :
  cV P 57 #[.string s,.int .i64 i,.func (.func on) #[] #[]] I F (k8 (.int .i64 (dx p s i)) F):=by
 unfold ef at hs
 refine nq.vc (fun j m I' F'=>0≤j∧j≤s.size∧m=(s.size-j).toNat∧dx p s j=dx p s i∧F'=F) ?_
 unfold nq.V
 refine⟨⟨_,h0,h1,rfl,rfl,rfl⟩,fun j m I1 F1 hI ⟨g0,g1,gm,gr,gF⟩=>⟨fun hlt=>?_,fun hlt=>?_⟩⟩
 ·have hlt:j<(s.size:Int):=by simpa using hlt
  refine⟨⟨g0,hlt⟩,hen, ?_⟩
  subst gF
  have:=hp (bt s j) I1 F1
  refine cV.ret (by simpa using this) fun I2 h2=>⟨_,rfl,F1,.refl _,fun hc=>?_,fun hc=>⟨?_,rfl⟩⟩
  ·refine⟨m-1,by omega, ?_⟩
   rw[iw (by omega)]
   rw[dO hlt,if_pos hc] at gr
   exact⟨by omega,by omega,by omega,gr,rfl⟩
  ·rw[dO hlt,if_neg (by simpa using hc)] at gr
   rw[gr]
 ·have hlt:¬j<(s.size:Int):=by simpa using hlt
  refine⟨?_,gF⟩
  rw[j2 (by omega)] at gr
  rw[gr]
theorem vy:di P 54:=fV (by kernel_rfl)
theorem vz:di P 58:=fV (by kernel_rfl)
theorem vA:di P 62:=fV (by kernel_rfl)
theorem sU{s:ByteArray}(hs:ef s){i:Int}(h0:0≤i)(h1:i≤s.size)(I:cS)(F:cR) :
  cV P 53 #[.string s,.int .i64 i] I F (k8 (.int .i64 (dj s i)) F):=by
 have hs':=hs
 unfold ef at hs'
 refine lE.vc (fun j m I' F'=>0≤j∧j≤s.size∧m=(s.size-j).toNat∧dj s j=dj s i∧F'=F) ?_
 unfold lE.V
 refine⟨⟨_,h0,h1,rfl,rfl,rfl⟩,fun j m I1 F1 hI ⟨g0,g1,gm,gr,gF⟩=>⟨fun hlt=>?_,fun hlt=>?_⟩⟩
 ·have hlt:j<(s.size:Int):=by simpa using hlt
  subst gF
  have blk:blank (bt s j)=true→∃m':Nat,m'<m∧0≤IntKind.wrap .i64 (j+1)∧IntKind.wrap .i64 (j+1)≤s.size∧m'=(s.size-IntKind.wrap .i64 (j+1)).toNat ∧
    dj s (IntKind.wrap .i64 (j+1))=dj s i∧F1=F1:=by
   intro hb
   rw[iw (by omega)]
   exact⟨_,by omega,by omega,by omega,rfl,by rw[←gr,qj hlt hb],rfl⟩
  refine⟨⟨g0,hlt⟩,fun h=>blk ?_,fun h32=>⟨fun h=>blk ?_,fun h9=>⟨fun h=>blk ?_,fun h10=>⟨fun h=>blk ?_,fun h13=>⟨fun h=>?_,fun h35=>?_⟩⟩⟩⟩⟩
  ·simp[blank,h]
  ·simp[blank,h]
  ·simp[blank,h]
  ·simp[blank,h]
  ·have h35:bt s j=35:=by simpa using h
   refine cV.ret (oF hs g0 g1 uI vA I1 F1) fun I2 h2=>⟨_,rfl,F1,.refl _, ?_⟩
   have hr:=dO (p:=mf) hlt
   rw[show mf (bt s j)=true by simp[mf,h35],if_pos rfl] at hr
   have:=fm (p:=mf) (s:=s) (i:=j+1) (by omega)
   exact⟨_,by omega,by omega,by omega,rfl,by rw[←gr,ph hlt h35],rfl⟩
  ·refine⟨?_,rfl⟩
   have:dj s j=j:=qk hlt (by simp only[blank,h32,h9,h10,h13];rfl) (by simpa using h35)
   rw[this] at gr
   rw[gr]
 ·have hlt:¬j<(s.size:Int):=by simpa using hlt
  refine⟨?_,gF⟩
  have:dj s j=j:=iR (by omega)
  rw[this] at gr
  rw[gr]
theorem uJ{s:ByteArray}(hs:ef s){i:Int}(h0:0≤i)(h1:i<s.size)(I:cS)(F:cR):cV P 60 #[.string s,.int .i64 i] I F (k8 (.int .i64 (fW s i)) F):=by
 unfold ef at hs
 refine lF.vc ?_
 unfold lF.V
 rw[iw (by omega)]
 refine⟨fun hn=>⟨⟨by omega,by simpa using hn⟩,⟨h0,h1⟩, ?_⟩,fun hn=>⟨⟨h0,h1⟩, ?_⟩⟩
 ·have hd:c8 s (i+1)=bt s (i+1):=by unfold c8;rw[if_pos (by simpa using hn)]
  have e:fW s i=if single (bt s i) then 1 else if bt s i=38∨bt s i=124 then (if bt s (i+1)=bt s i then 2 else 0) else
   if bt s i=61∨bt s i=33∨bt s i=60∨bt s i=62 then (if bt s (i+1)=61 then 2 else 1) else 0:=by unfold fW;rw[hd]
  rw[e]
  generalize bt s i=c
  generalize bt s (i+1)=d
  clear e hd hn
  repeat' (first | (with_reducible apply And.intro) | (with_reducible intro h))
  all_goals (refine⟨?_,rfl⟩;simp_all [single])
 ·have hd:c8 s (i+1)=0:=by unfold c8;rw[if_neg (by simpa using hn)]
  have e:fW s i=if single (bt s i) then 1 else if bt s i=38∨bt s i=124 then (if 0=bt s i then 2 else 0) else
   if bt s i=61∨bt s i=33∨bt s i=60∨bt s i=62 then 1 else 0:=by unfold fW;rw[hd];simp
  rw[e]
  generalize bt s i=c
  clear e hd hn
  repeat' (first | (with_reducible apply And.intro) | (with_reducible intro h))
  all_goals (refine⟨?_,rfl⟩;simp_all [single])
theorem iy(s:ByteArray)(i:Int):0≤fW s i∧fW s i≤2:=by
 unfold fW;simp only;repeat' split
 all_goals decide
theorem lH{s:ByteArray}{i:Int}(h:i<(s.size:Int)):i+fW s i≤s.size:=by
 have hb:c8 s (i+1)≠0→i+1<(s.size:Int):=fun hne=>by
  unfold c8 at hne;split at hne
  ·assumption
  ·exact absurd rfl hne
 unfold fW;simp only
 split
 ·omega
 ·split
  ·rename_i hc;split
   ·rename_i hd;have:=hb (by omega);omega
   ·omega
  ·split
   ·split
    ·rename_i hd;have:=hb (by omega);omega
    ·omega
   ·omega
def wB(c:Int):List Value:=[.int .u8 c]
def bytesOf(s:ByteArray):List Int:=s.data.toList.map fun b=>(b.toNat:Int)
theorem rI{s:ByteArray}{k:Nat}(h:k<s.size):(bytesOf s)[k]? = some (bt s k):=by
 have h':k<s.data.size:=h
 have h2:s[k]? = some s[k]:=by simp[h]
 have h3:s.data.toList[k]? = some s[k]:=by
  have:s.data.toList[k]? = some s.data[k]:=by simp[h']
  rw[this];rfl
 unfold bytesOf bt
 rw[List.getElem?_map,Int.toNat_natCast,h2,h3]
 rfl
theorem gC{s:ByteArray}{i j:Int}(h0:0≤i)(h1:i≤j)(h2:j≤s.size):((cut s i j).size:Int)=j-i:=by
 unfold cut;rw[ByteArray.size_extract];omega
theorem oG{s:ByteArray}{i j k:Int}(h0:0≤i)(hk:0≤k)(h1:i+k<j)(h2:j≤s.size):bt (cut s i j) k=bt s (i+k):=by
 have hsz:=gC (s:=s) (i:=i) (j:=j) h0 (by omega) h2
 unfold bt
 have e1:(cut s i j)[k.toNat]? = s[(i+k).toNat]?:=by
  have hk':k.toNat<(s.extract i.toNat j.toNat).size:=by unfold cut at hsz;omega
  have hi':(i+k).toNat<s.size:=by omega
  have a1:(s.extract i.toNat j.toNat)[k.toNat]? = some (s.extract i.toNat j.toNat)[k.toNat]:=by simp[hk']
  have a2:s[(i+k).toNat]? = some s[(i+k).toNat]:=by simp[hi']
  show (s.extract i.toNat j.toNat)[k.toNat]? = _
  rw[a1,a2,ByteArray.getElem_extract]
  congr 2
  omega
 rw[e1]
theorem uK(t:ByteArray)(I:cS)(F:cR):dW P (Go.convert 9 146 (.string t)) I F fun v I' G =>
  ∃(b c:Nat),v=.slice (some ⟨b,0,none⟩) t.size c∧Sl I' 1 wB (some ⟨b,0,none⟩) t.size (bytesOf t)∧G=F:=by
 intro w hw
 have hrun:=Lib.run_convert_string_bytes (P:=P) w 9 146 5 t (u:=.string) (by kernel_rfl) (by kernel_rfl) (by kernel_rfl)
 have hheap:(Lib.bytesWorld w 5 t).heap=w.heap.push (.cells (Lib.bytesCells w 5 t) 5 ((Lib.bytesCells w 5 t).size,(Lib.bytesCells w 5 t).size+1)):=by
  apply Array.ext_getElem?
  intro j
  rw[Array.getElem?_push]
  rcases Nat.lt_trichotomy j w.heap.size with h | h | h
  ·rw[if_neg (by omega),Lib.bytesWorld_at_old w 5 t j h]
  ·subst h;rw[if_pos rfl,Lib.bytesWorld_at_new]
  ·rw[if_neg (by omega),Array.getElem?_eq_none (by rw[Lib.bytesWorld_size];omega),Array.getElem?_eq_none (by omega)]
 obtain⟨hle,hsat⟩:=((hw.alloc (.cells (Lib.bytesCells w 5 t) 5 ((Lib.bytesCells w 5 t).size,(Lib.bytesCells w 5 t).size+1))).gK)
 refine⟨_,_,_,F,hrun,hle,hsat.of_heap hheap ⟨rfl,rfl⟩,w.heap.size,_,rfl, ?_,rfl⟩
 have hl:t.size=(bytesOf t).length:=by unfold bytesOf;simp
 rw[hl]
 refine Sl.ly (z:=1) (f:=wB) (fun _=>rfl) (cS.jH _ _ _) fun k hk=>?_
 have hfl:(bytesOf t).flatMap wB=(bytesOf t).map fun c=>Value.int .u8 c:=by
  induction bytesOf t with
  | nil=>rfl
  | cons x l ih=>simp[wB,ih]
 rw[hfl] at hk ⊢
 have hk':k<t.data.size:=by simpa[bytesOf] using hk
 have hk2:k<t.size:=hk'
 simp[Lib.bytesCells,Array.getElem?_append,hk',hk2,bytesOf,Function.comp_def]
theorem tdiv_le{a d:Int}(hd:0≤d)(ha:d≤9):IntKind.wrap .i64 (Int.tdiv (IntKind.wrap .i64 (9223372036854775807-d)) 10)=(9223372036854775807-d) / 10:=by
 rw[iw (n:=9223372036854775807-d) (by omega),Int.tdiv_eq_ediv_of_nonneg (by omega),iw (by omega)]
theorem vB{c:Int}(h:dm c=true):IntKind.wrap .i64 (IntKind.wrap .u8 (c-48))=c-48∧48≤c∧c≤57:=by
 simp only[dm,Bool.and_eq_true,decide_eq_true_eq] at h
 rw[w8 (by omega),iw (by omega)]
 exact⟨rfl,h⟩
theorem rJ{p:Int→Bool}{s:ByteArray}{i k:Int}(h1:i≤k)(h2:k<dx p s i)(h3:i≤(s.size:Int)):p (bt s k)=true∧dx p s k=dx p s i:=by
 obtain⟨n,hn⟩:∃n:Nat,n=(k-i).toNat:=⟨_,rfl⟩
 have hle:=fm (p:=p) (s:=s) h3
 induction n generalizing i with
 | zero =>
   have:i=k:=by omega
   subst this
   rw[dO (by omega)] at h2
   split at h2
   ·rename_i hp;exact⟨hp,rfl⟩
   ·omega
 | succ n ih =>
   have hr:=dO (p:=p) (s:=s) (i:=i) (by omega)
   split at hr
   ·rw[hr] at h2 ⊢
    exact ih (by omega) h2 (by omega) (by omega) (fm (by omega))
   ·omega
def TR.v2:TR→Value
 | .ok t=>.tuple #[t.v,.int .i64 0]
 | .bad e p=>.tuple #[(ik 0).v,.int .i64 e]
def TR.z9:TR→Value
 | .ok t=>.tuple #[t.v,.int .i64 0]
 | .bad e p=>.tuple #[(ik p).v,.int .i64 e]
theorem rK{s:ByteArray}(hs:ef s){i:Int}(h0:0≤i)(h1:i<s.size)(I:cS)(F:cR):cV P 55 #[.string s,.int .i64 i] I F (k8 (jN s i).v2 F):=by
 have hs':=hs
 unfold ef at hs'
 have hE:=fm (p:=dm) (s:=s) (i:=i) (by omega)
 have hstop:=iv (p:=dm) (s:=s) (i:=i) (by omega)
 have hcs:=gC (s:=s) h0 hE.1 hE.2
 generalize hEd:dx dm s i=E at hE hstop hcs
 have hEnd:∀n,eG s E n=n:=fun n=>by
  rcases Int.lt_or_le E s.size with h | h
  ·rw[gq h,hstop h];rfl
  ·exact mg h
 let e2:Int:=if eZ (c8 s E)=1 then E else E+1
 have hbad:(eG s i 0>9223372036854775807∨(E-i>1∧bt s i=48)∨(e2<s.size∧(eu (bt s e2)=true∨(65≤bt s e2∧bt s e2≤90)))) →
   (jN s i).v2=.tuple #[(ik 0).v,.int .i64 113]:=fun h=>by
  unfold jN;simp only[hEd];rw[if_pos h];rfl
 have hok:¬(eG s i 0>9223372036854775807∨(E-i>1∧bt s i=48)∨(e2<s.size∧(eu (bt s e2)=true∨(65≤bt s e2∧bt s e2≤90)))) →
   (jN s i).v2=.tuple #[(⟨3,cut s i e2,eZ (c8 s E),eG s i 0,i⟩:Tok).v,.int .i64 0]:=fun h=>by
  unfold jN;simp only[hEd];rw[if_neg h];rfl
 have he2r:e2≤s.size∧E≤e2∧e2≤E+1:=by
  show (if eZ (c8 s E)=1 then E else E+1)≤_∧_≤(if eZ (c8 s E)=1 then E else E+1)∧(if eZ (c8 s E)=1 then E else E+1)≤_
  split
  ·omega
  ·rename_i hne
   have:E<s.size:=by
    rcases Int.lt_or_le E s.size with h | h
    ·exact h
    ·rw[show c8 s E=0 by unfold c8;rw[if_neg (by omega)]] at hne
     exact absurd rfl hne
   omega
 refine jq.vc (fun x k b0 b1 b2 b3 b4 t0 t1 t2 t3 t4 m I' F'=>0≤k∧k≤E-i∧m=(E-i-k).toNat∧t0=3∧t2=1∧0≤t3∧t3≤9223372036854775807∧t4=i∧eG s (i+k) t3=eG s i 0∧F'=F)
  (fun x b0 b1 b2 b3 b4 I' F'=>¬(E-i>1∧bt s i=48)∧F'=F) (fun c I' F'=>c=c8 s E∧F'=F)
  (fun en st t0 t1 t2 t3 t4 I' F'=>en=e2∧t0=3∧t2=eZ (c8 s E)∧t3=eG s i 0∧t4=i∧F'=F) ?_
 unfold jq.V
 intro b
 refine cV.ret (oF hs h0 (by omega) kK vy I _) fun I1 hI1=>⟨_,rfl,F,.refl _, ?_⟩
 intro b_t
 rw[hEd]
 refine⟨⟨h0,hE⟩, ?_⟩
 refine (uK (cut s i E) I1 _).mono fun v I2 G2 hI2 ⟨bb,cc,hv,hSl,hG⟩=>?_
 subst hG
 refine⟨_,_,_,hv,F,.refl _,⟨_,by omega,by omega,rfl,rfl,rfl,by omega,by omega,rfl,by rw[Int.add_zero],rfl⟩, ?_⟩
 intro x k b0 b1 b2 b3 b4 t0 t1 t2 t3 t4 m I3 F3 hI3 ⟨g0,g1,gm,gt0,gt2,gn0,gn1,gt4,gv,gF⟩
 subst gt0 gt2 gF
 obtain rfl:i=t4:=gt4.symm
 refine⟨fun hk=>?_,fun hk=>?_⟩
 ·have hk:k<E-i:=by have:=of_decide_eq_true hk;omega
  refine⟨⟨g0,by omega⟩, ?_⟩
  obtain⟨ad,c,had,hc,hrd⟩:=(hSl.mono hI3).at (i:=k) g0 (by omega)
  have hbtc:c=bt s (i+k):=by
   rw[rI (by omega)] at hc
   have:=oG (s:=s) (i:=i) (j:=E) (k:=k) h0 g0 (by omega) hE.2
   rw[Int.toNat_of_nonneg g0] at hc
   rw[this] at hc
   exact (Option.some.inj hc).symm
  obtain⟨hd,_⟩:=rJ (p:=dm) (s:=s) (i:=i) (k:=i+k) (by omega) (by omega) (by omega)
  rw[←hbtc] at hd
  obtain⟨hw,hc0,hc1⟩:=vB hd
  have hvs:=gq (s:=s) (i:=i+k) (v:=t3) (by omega)
  rw[←hbtc,if_pos hd] at hvs
  refine⟨ad,had,c,hrd _, ?_⟩
  rw[hw,tdiv_le (a:=0) (by omega) (by omega)]
  refine⟨fun hgt=>⟨?_,rfl⟩,fun hgt=>?_⟩
  ·refine (congrArg Ending.returned (hbad (.inl ?_)).symm)
   have hgt:=of_decide_eq_true hgt
   have:=vv (s:=s) (i:=i+k+1) (v:=10*t3+(c-48)) (by omega)
   omega
  ·have hgt:=of_decide_eq_false hgt
   refine⟨_, ?_, ?_, ?_,rfl,rfl,rfl, ?_, ?_,rfl, ?_,rfl⟩
   ·rw[iw (by omega)];omega
   ·rw[iw (by omega)];omega
   ·rw[iw (by omega)];omega
   ·rw[iw (n:=10*t3) (by omega),iw (by omega)];omega
   ·rw[iw (n:=10*t3) (by omega),iw (by omega)];omega
   ·rw[iw (n:=10*t3) (by omega),iw (n:=k+1) (by omega),iw (n:=10*t3+(c-48)) (by omega),←gv,hvs]
    congr 1;omega
 ·have hk:¬k<E-i:=by have:=of_decide_eq_false hk;omega
  have hkE:i+k=E:=by omega
  rw[hkE,hEnd] at gv
  rw[iw (n:=E-i) (by omega)]
  refine⟨⟨fun hl=>⟨⟨h0,h1⟩,fun h48=>⟨?_,rfl⟩,fun h48=>⟨?_,rfl⟩⟩,fun hl=>⟨?_,rfl⟩⟩, ?_⟩
  ·exact congrArg Ending.returned (hbad (.inr (.inl ⟨of_decide_eq_true hl,by simpa using h48⟩))).symm
  ·intro hc;rw[hc.2] at h48;simp at h48
  ·intro hc;exact absurd hc.1 (of_decide_eq_false hl)
  intro x2 c0 c1 c2 c3 c4 I4 F4 hI4 ⟨hz,hF4⟩
  subst hF4
  refine⟨⟨fun hl=>⟨⟨by omega,of_decide_eq_true hl⟩, ?_,rfl⟩,fun hl=>⟨?_,rfl⟩⟩, ?_⟩
  ·unfold c8;rw[if_pos (of_decide_eq_true hl)]
  ·unfold c8;rw[if_neg (of_decide_eq_false hl)]
  intro more I5 F5 hI5 ⟨hmore,hF5⟩
  subst hF5
  refine⟨?_, ?_⟩
  ·rw[show IntKind.wrap .i64 (IntKind.wrap .i64 (IntKind.wrap .i64 (-1+1)+1)+1)=2 by decide,show IntKind.wrap .i64 (IntKind.wrap .i64 (-1+1)+1)=1 by decide,
    show IntKind.wrap .i64 (-1+1)=0 by decide,iw (n:=E+1) (by omega)]
   refine⟨fun h=>?_,fun h=>⟨fun h'=>?_,fun h'=>⟨fun h''=>?_,fun h''=>?_⟩⟩⟩
   ·have:more=116:=by simpa using h
    have ht:eZ (c8 s E)=4:=by rw[←hmore,this];rfl
    refine⟨?_,rfl,by rw[ht];decide,gv,rfl,rfl⟩
    show _=if eZ (c8 s E)=1 then E else E+1
    rw[ht];rfl
   ·have:more=112:=by simpa using h'
    have ht:eZ (c8 s E)=3:=by rw[←hmore,this];rfl
    refine⟨?_,rfl,by rw[ht];decide,gv,rfl,rfl⟩
    show _=if eZ (c8 s E)=1 then E else E+1
    rw[ht];rfl
   ·have:more=113:=by simpa using h''
    have ht:eZ (c8 s E)=2:=by rw[←hmore,this];rfl
    refine⟨?_,rfl,by rw[ht];decide,gv,rfl,rfl⟩
    show _=if eZ (c8 s E)=1 then E else E+1
    rw[ht];rfl
   ·have ht:eZ (c8 s E)=1:=by
     rw[←hmore];unfold eZ
     rw[if_neg (by simpa using h),if_neg (by simpa using h'),if_neg (by simpa using h'')]
    refine⟨?_,rfl,ht.symm,gv,rfl,rfl⟩
    show _=if eZ (c8 s E)=1 then E else E+1
    rw[ht];rfl
  intro en st u0 u1 u2 u3 u4 I6 F6 hI6 ⟨hen,hu0,hu2,hu3,hu4,hF6⟩
  subst hu0 hu2 hF6 hen
  obtain rfl:i=u4:=hu4.symm
  have nov:¬eG s i 0>9223372036854775807:=by omega
  have okk:¬(e2<s.size∧(eu (bt s e2)=true∨(65≤bt s e2∧bt s e2≤90))) →
    (0≤i∧i≤e2∧e2≤(s.size:Int))∧∀(J:cS),k8 (jN s i).v2 F6 (.returned (Value.tuple #[Value.agg #[Value.int .u8 3,Value.string (s.extract (Int.toNat (i)) (Int.toNat (e2))),Value.int .u8 (eZ (c8 s E)),Value.int .i64 u3,Value.int .i64 i],Value.int .i64 0])) J F6:=fun h=>by
   refine⟨by omega,fun J=>⟨?_,rfl⟩⟩
   rw[hok (fun h'=>h'.elim nov fun h'=>h'.elim hz h),hu3]
   rfl
  refine⟨fun hl=>⟨⟨by omega,of_decide_eq_true hl⟩, ?_⟩,fun hl=>?_⟩
  ·have hl:=of_decide_eq_true hl
   refine cV.ret (oD (bt s e2) I6 _) fun I7 hI7=>⟨_,rfl,F6,.refl _,fun hi=>⟨?_,rfl⟩,fun hi=>⟨⟨by omega,hl⟩,fun h65=>⟨⟨by omega,hl⟩,fun h90=>⟨?_,rfl⟩,fun h90=>?_⟩,fun h65=>?_⟩⟩
   ·exact congrArg Ending.returned (hbad (.inr (.inr ⟨hl,.inl hi⟩))).symm
   ·exact congrArg Ending.returned (hbad (.inr (.inr ⟨hl,.inr ⟨of_decide_eq_true h65,of_decide_eq_true h90⟩⟩))).symm
   ·obtain⟨a1,a2⟩:=okk (fun h=>h.2.elim (fun h=>by rw[hi] at h;cases h) fun h=>of_decide_eq_false h90 h.2)
    exact⟨a1,a2 _⟩
   ·obtain⟨a1,a2⟩:=okk (fun h=>h.2.elim (fun h=>by rw[hi] at h;cases h) fun h=>of_decide_eq_false h65 h.1)
    exact⟨a1,a2 _⟩
  ·obtain⟨a1,a2⟩:=okk (fun h=>of_decide_eq_false hl h.1)
   exact⟨a1,a2 _⟩
theorem xL{α:Type}{C:Prop}[d:Decidable C]{x y z:α}(h:z=if C then x else y):∃C':Prop,(C'∧z=x)∨(¬C'∧z=y) :=
 ⟨C,(Classical.em C).imp (fun c=>⟨c,by rw[h,if_pos c]⟩) fun c=>⟨c,by rw[h,if_neg c]⟩⟩
theorem tT(s:ByteArray)(i:Int):∃C:Prop,(C∧jN s i=.bad 113 i)∨(¬C∧jN s i =
  .ok ⟨3,cut s i (if eZ (c8 s (dx dm s i))=1 then dx dm s i else dx dm s i+1),eZ (c8 s (dx dm s i)),eG s i 0,i⟩):=by
 exact xL rfl
theorem sV(s:ByteArray)(i:Int):(∃t,jN s i=.ok t∧t.pos=i)∨jN s i=.bad 113 i:=by
 obtain⟨C,⟨_,h⟩ | ⟨_,h⟩⟩:=tT s i
 ·exact .inr h
 ·exact .inl ⟨_,h,rfl⟩
theorem oH{s:ByteArray}(hs:ef s){f:Int}(h0:0≤f)(h1:f≤s.size)(I:cS)(F:cR):cV P 48 #[.string s,.int .i64 f] I F (k8 (fT s f).z9 F):=by
 have hs':=hs
 unfold ef at hs'
 refine j6.vc ?_
 unfold j6.V
 intro b
 have ho:=gn (s:=s) h1
 refine cV.ret (sU hs h0 h1 I _) fun I1 hI1=>⟨_,rfl,F,.refl _, ?_⟩
 unfold fT
 simp only
 generalize dj s f=r at ho ⊢
 refine⟨fun h=>⟨?_,rfl⟩,fun h=>⟨?_, ?_⟩⟩
 ·rw[if_pos (by simpa using h)];rfl
 ·have:r≠s.size:=by simpa using h
  omega
 ·have hlt:r<s.size:=by have:r≠s.size:=by simpa using h
                        omega
  rw[if_neg (by omega)]
  refine cV.ret (kK (bt s r) I1 _) fun I2 hI2=>⟨_,rfl,F,.refl _,fun hd=>?_,fun hd=>?_⟩
  ·rw[if_pos hd]
   refine cV.ret (rK hs (by omega) hlt I2 _) fun I3 hI3=>?_
   rcases sV s r with ⟨t,ht,hp⟩ | ht
   ·rw[ht];exact⟨_,_,_,_,_,_,rfl,F,.refl _,fun b_t=>⟨by rw[←hp];rfl,rfl⟩⟩
   ·rw[ht];exact⟨_,_,_,_,_,_,rfl,F,.refl _,fun b_t=>⟨rfl,rfl⟩⟩
  ·rw[if_neg (by rw[hd];exact Bool.false_ne_true)]
   refine cV.ret (oC (bt s r) I2 _) fun I3 hI3=>⟨_,rfl,F,.refl _,fun hm=>?_,fun hm=>?_⟩
   ·rw[if_pos hm]
    have hn:=fm (p:=eu) (s:=s) (i:=r) (by omega)
    refine cV.ret (oF hs (by omega) (by omega) oD vz I3 _) fun I4 hI4=>⟨_,rfl,F,.refl _, ?_⟩
    unfold mS
    simp only
    generalize dx eu s r=e at hn ⊢
    rw[iw (by omega)]
    refine⟨fun h=>⟨?_,rfl⟩,fun h=>⟨⟨by omega,hn⟩,fun b_t=>?_⟩⟩
    ·rw[if_pos (of_decide_eq_true h)];rfl
    ·rw[if_neg (of_decide_eq_false h)]
     refine cV.ret (uF (cut s r e) I4 _) fun I5 hI5=>⟨_,rfl,F,.refl _,fun hw=>⟨?_,rfl⟩,fun hw=>⟨?_,rfl⟩⟩
     ·rw[if_pos hw];rfl
     ·rw[if_neg (by rw[hw];exact Bool.false_ne_true)];rfl
   ·rw[if_neg (by rw[hm];exact Bool.false_ne_true)]
    refine cV.ret (uJ hs (by omega) hlt I3 _) fun I4 hI4=>⟨_,rfl,F,.refl _, ?_⟩
    have hr:=iy s r
    have hl:=lH hlt
    unfold mT
    generalize fW s r=k at hr hl ⊢
    rw[iw (by omega)]
    refine⟨fun h=>⟨?_,rfl⟩,fun h=>⟨by omega, ?_,rfl⟩⟩
    ·rw[if_pos (by simpa using h)];rfl
    ·rw[if_neg (by simpa using h)];rfl
def pN(s:ByteArray)(f:Int):Value :=
 if (s.size:Int)>4096 then .tuple #[(ik 0).v,.int .i64 0,.int .i64 110]
 else if f<0∨f>s.size then .tuple #[(ik 0).v,.int .i64 0,.int .i64 1]
 else match fT s f with
  | .ok t=>.tuple #[t.v,.int .i64 (t.pos+t.text.size),.int .i64 0]
  | .bad e p=>.tuple #[(ik 0).v,.int .i64 0,.int .i64 e]
def pO(s:ByteArray)(i:Int)(t:Tok):Prop :=
 t.pos=i∧t.pos+t.text.size≤s.size∧t.text=cut s t.pos (t.pos+t.text.size)∧((t.kind=0∧i=s.size∧t=ik s.size)∨(0<t.kind∧t.kind≤4∧0<t.text.size))
theorem pO.mk'{s:ByteArray}{i e k y n:Int}(h0:0≤i)(h:i<e)(h1:e≤s.size)(hk:0<k∧k≤4):pO s i ⟨k,cut s i e,y,n,i⟩:=by
 have hc:=gC h0 (by omega:i≤e) h1
 refine⟨rfl, ?_, ?_,.inr ⟨hk.1,hk.2, ?_⟩⟩
 ·show i+((cut s i e).size:Int)≤_;omega
 ·show cut s i e=cut s i (i+(cut s i e).size);rw[hc];congr 1;omega
 ·show 0<(cut s i e).size;omega
theorem vC(s:ByteArray)(i:Int):cut s i i=⟨#[]⟩:=by
 unfold cut
 have:(s.extract i.toNat i.toNat).size=0:=by rw[ByteArray.size_extract];omega
 exact ByteArray.size_eq_zero_iff.1 this
theorem fJ{s:ByteArray}{f:Int}(h0:0≤f)(h1:f≤s.size) :
  (∃t,fT s f=.ok t∧pO s (dj s f) t)∨(∃e,fT s f=.bad e (dj s f)∧(e=111∨e=112∨e=113)):=by
 have ho:=gn (s:=s) h1
 unfold fT
 simp only
 generalize dj s f=i at ho ⊢
 by_cases hi:i=s.size
 ·rw[if_pos hi]
  refine .inl ⟨_,rfl,rfl, ?_, ?_,.inl ⟨rfl,hi,by rw[hi]⟩⟩
  ·show i+((0:Nat):Int)≤_;omega
  ·show (⟨#[]⟩:ByteArray)=cut s i (i+((0:Nat):Int))
   rw[show i+((0:Nat):Int)=i by omega,vC]
 ·have hlt:i<s.size:=by omega
  rw[if_neg hi]
  by_cases hd:dm (bt s i)=true
  ·rw[if_pos hd]
   obtain⟨C,⟨_,h⟩ | ⟨_,h⟩⟩:=tT s i
   ·exact .inr ⟨_,h,by simp⟩
   ·refine .inl ⟨_,h, ?_⟩
    have hr:=dO (p:=dm) hlt
    rw[if_pos hd] at hr
    have:=fm (p:=dm) (s:=s) (i:=i+1) (by omega)
    refine pO.mk' (by omega) ?_ ?_ (by decide)
    ·split<;>omega
    ·split
     ·omega
     ·rename_i hne
      have:dx dm s i<s.size:=by
       rcases Int.lt_or_le (dx dm s i) s.size with h | h
       ·exact h
       ·rw[show c8 s (dx dm s i)=0 by unfold c8;rw[if_neg (by omega)]] at hne
        exact absurd rfl hne
      omega
  ·rw[if_neg hd]
   by_cases hm:ia (bt s i)=true
   ·rw[if_pos hm]
    have hr:=dO (p:=eu) hlt
    rw[if_pos (by simp[eu,hm])] at hr
    have:=fm (p:=eu) (s:=s) (i:=i+1) (by omega)
    unfold mS
    simp only
    split
    ·exact .inr ⟨_,rfl,by simp⟩
    ·exact .inl ⟨_,rfl,pO.mk' (by omega) (by omega) (by omega) (by split<;>decide)⟩
   ·rw[if_neg hm]
    have hr:=iy s i
    have hl:=lH hlt
    unfold mT
    split
    ·exact .inr ⟨_,rfl,by simp⟩
    ·exact .inl ⟨_,rfl,pO.mk' (by omega) (by omega) (by omega) (by decide)⟩
theorem j7{s:ByteArray}(hs:ef s){f:Int}(I:cS)(F:cR):cV P 36 #[.string s,.int .i64 f] I F (k8 (pN s f) F):=by
 refine lG.vc ?_
 unfold lG.V
 intro b
 unfold pN
 refine⟨fun h=>⟨by rw[if_pos (of_decide_eq_true h)];rfl,rfl⟩,fun h=>?_⟩
 rw[if_neg (of_decide_eq_false h)]
 refine⟨fun h=>⟨by rw[if_pos (.inl (of_decide_eq_true h))];rfl,rfl⟩,fun h=>⟨fun h=>⟨by rw[if_pos (.inr (of_decide_eq_true h))];rfl,rfl⟩,fun h'=>?_⟩⟩
 have h:=of_decide_eq_false h
 have h':=of_decide_eq_false h'
 unfold ef at hs
 rw[if_neg (by omega)]
 refine cV.ret (oH hs (by omega) (by omega) I _) fun I1 hI1=>?_
 rcases fJ (s:=s) (f:=f) (by omega) (by omega) with ⟨t,ht,hp,hl,_⟩ | ⟨e,ht,he⟩
 ·rw[ht]
  refine⟨_,_,_,_,_,_,rfl,F,.refl _,fun b_t=>⟨fun h=>absurd h (by decide),fun _=>⟨?_,rfl⟩⟩⟩
  have:=gn (s:=s) (i:=f) (by omega)
  rw[iw (n:=t.pos+t.text.size) (by omega)];rfl
 ·rw[ht]
  refine⟨_,_,_,_,_,_,rfl,F,.refl _,fun b_t=>⟨fun h=>⟨rfl,rfl⟩,fun h=>?_⟩⟩
  rcases he with rfl | rfl | rfl<;>exact absurd h (by decide)
theorem yA{a b:ByteArray}(h:a.toList=b.toList):a=b:=by
 rw[Lib.toList_data,Lib.toList_data] at h
 have:a.data=b.data:=Array.toList_inj.1 h
 cases a;cases b;simp_all
theorem vD{a:ByteArray}{k:Nat}(h:k<a.size):bt a k=(a.data[k].toNat:Int):=by
 have h2:a[k]? = some a[k]:=by simp[h]
 unfold bt
 rw[Int.toNat_natCast,h2]
 rfl
theorem xM{a b:ByteArray}(hs:a.size=b.size)(h:∀k:Nat,k<a.size→bt a k=bt b k):a=b:=by
 have:a.data=b.data:=by
  refine Array.ext hs fun k h1 h2=>?_
  have:=h k h1
  rw[vD h1,vD h2] at this
  exact UInt8.toNat_inj.1 (by omega)
 cases a;cases b;simp_all
def iS(s:ByteArray):Nat→Int→List Tok×Option (Int×Int)
 | 0,_=>([],none)
 | n+1,f=>match fT s f with
   | .bad e p=>([],some (e,p))
   | .ok t=>if t.kind=0 then ([t],none) else (t::(iS s n (t.pos+t.text.size)).1,(iS s n (t.pos+t.text.size)).2)
def ml(s:ByteArray)(f:Int):List Tok×Option (Int×Int):=iS s (s.size-f+1).toNat f
theorem lI{s:ByteArray}{f:Int}(h0:0≤f)(h1:f≤s.size){t:Tok}(ht:fT s f=.ok t):t.pos+t.text.size≤s.size∧f≤t.pos∧(t.kind≠0→f+1≤t.pos+t.text.size):=by
 have ho:=gn (s:=s) h1
 rcases fJ h0 h1 with ⟨t',ht',hp,hl,_,hk⟩ | ⟨e,ht',_⟩
 ·rw[ht] at ht';cases ht'
  refine⟨hl,by omega,fun hne=>?_⟩
  rcases hk with ⟨h,_⟩ | ⟨_,_,h⟩
  ·exact absurd h hne
  ·omega
 ·rw[ht] at ht';cases ht'
theorem oI(s:ByteArray):∀(n n':Nat) (f:Int),0≤f→f≤s.size→(s.size-f+1).toNat≤n→(s.size-f+1).toNat≤n'→iS s n f=iS s n' f
 | 0,n',f,h0,h1,hn,hn'=>by omega
 | n+1,0,f,h0,h1,hn,hn'=>by omega
 | n+1,n'+1,f,h0,h1,hn,hn'=>by
   unfold iS
   cases ht:fT s f with
   | bad e p=>rfl
   | ok t =>
     have:=lI h0 h1 ht
     by_cases hk:t.kind=0
     ·simp[hk]
     ·have:=this.2.2 hk
      simp only[hk,if_false]
      rw[oI s n n' _ (by omega) (by omega) (by omega) (by omega)]
theorem pP{s:ByteArray}{f:Int}(h0:0≤f)(h1:f≤s.size):ml s f=match fT s f with
  | .bad e p=>([],some (e,p))
  | .ok t=>if t.kind=0 then ([t],none) else (t::(ml s (t.pos+t.text.size)).1,(ml s (t.pos+t.text.size)).2):=by
 unfold ml
 obtain⟨n,hn⟩:∃n,(s.size-f+1).toNat=n+1:=⟨(s.size-f+1).toNat-1,by omega⟩
 rw[hn]
 show (match fT s f with
  | .bad e p=>([],some (e,p))
  | .ok t=>if t.kind=0 then ([t],none) else (t::(iS s n (t.pos+t.text.size)).1,(iS s n (t.pos+t.text.size)).2))=_
 cases ht:fT s f with
 | bad e p=>rfl
 | ok t =>
   have:=lI h0 h1 ht
   by_cases hk:t.kind=0
   ·simp[hk]
   ·have:=this.2.2 hk
    simp only[hk,if_false]
    rw[oI s n _ _ (by omega) (by omega) (by omega) (Nat.le_refl _)]
def lJ(s:ByteArray):Except (Int×Int) (List Tok) :=
 if (s.size:Int)>4096 then .error (110,0) else match ml s 0 with
  | (l,none)=>.ok l
  | (_,some ep)=>.error ep
def Tok.enc(t:Tok):List Value:=[.int .u8 t.kind,.string t.text,.int .u8 t.gX,.int .i64 t.n,.int .i64 t.pos]
def tU(r:Except (Int×Int) (List Tok))(F:cR)(e:Ending)(I:cS)(G:cR):Prop :=
 G=F∧match r with
  | .ok l=>∃a n c,e=.returned (.tuple #[.slice a n c,.int .i64 0,.int .i64 0])∧Sl I 5 Tok.enc a n l
  | .error (e',p)=>e=.returned (.tuple #[.slice none 0 0,.int .i64 e',.int .i64 p])
def lK(r:Except (Int×Int) (List Tok))(F:cR)(e:Ending)(I:cS)(G:cR):Prop :=
 match r with
  | .ok l=>∃a n c A,e=.returned (.tuple #[.slice a n c,.int .i64 0,.int .i64 0])∧Acc 5 Tok.enc 70 a n c l A∧G=A++F
  | .error (e',p)=>∃A,e=.returned (.tuple #[.slice none 0 0,.int .i64 e',.int .i64 p])∧G=A++F
theorem lK.keep{f:Nat}{args:Array Value}{I:cS}{F:cR}{r:Except (Int×Int) (List Tok)}(h:cV P f args I F (lK r F)):cV P f args I F (tU r F):=by
 refine h.keep fun e I' G w hl hs hq=>?_
 unfold lK at hq
 split at hq
 ·obtain⟨a,n,c,A,he,hA,hG⟩:=hq
  subst hG
  obtain⟨J,h1,h2,h3⟩:=Acc.keep (z:=5) (f:=Tok.enc) (fun _=>rfl) hA hs
  exact⟨J,F,h1,h2,rfl,a,n,c,he,h3⟩
 ·obtain⟨A,he,hG⟩:=hq
  subst hG
  exact⟨I',F,cS.le_refl _,hs.drop,rfl,he⟩
theorem wC:∀(t:Tok),∀u∈t.enc,u.oneCell'=true:=by
 intro t u hu
 simp only[Tok.enc,List.mem_cons,List.not_mem_nil,or_false] at hu
 rcases hu with h | h | h | h | h<;>(subst h;rfl)
theorem sW{a:Option Addr}{n c:Nat}{l:List Tok}{A F:cR}(hA:Acc 5 Tok.enc 70 a n c l A)(hl:l.length≤1000000000)(t:Tok){b:Nat}{I:cS}(hb:I b=some (.cells t.enc.toArray 70 (0,0))) :
  dW P (Builtin.append_ #[133,133] 133 #[.slice a n c,.slice (some ⟨b,0,none⟩) 1 1]) I (A++F) fun v I' G=>∃a' n' c' A',v=.slice a' n' c'∧Acc 5 Tok.enc 70 a' n' c' (l++[t]) A'∧G=A'++F:=by
 refine (lz (f:=Tok.enc) (zv:=(ik 0).v) (fun _=>rfl) (by':=48) (by kernel_rfl) (by kernel_rfl) rfl (by decide) hA (xs:=[t]) (fun x _=>wC x) (by simp) rfl ?_ (by simp only[List.length_cons,List.length_nil];omega)).mono
  fun v I' G _ ⟨a',n',c',A',h1,h2,h3,_⟩=>⟨a',n',c',A',h1,h2,h3⟩
 exact⟨rfl,_,_,_,.inl hb,fun j hj=>by simp⟩
theorem sX{s:ByteArray}(hs:ef s)(I:cS)(F:cR):cV P 49 #[.string s] I F (lK (lJ s) F):=by
 refine jr.vc (fun x_a x_n x_c x x1 a n c f m I' F'=>0≤f∧f≤s.size∧m=(s.size-f).toNat∧∃l A,Acc 5 Tok.enc 70 a n c l A∧F'=A++F∧l.length≤f ∧
  ml s 0=(l++(ml s f).1,(ml s f).2)) ?_
 unfold jr.V
 unfold lJ
 refine⟨fun h=>?_,fun h=>?_⟩
 ·rw[if_pos (of_decide_eq_true h)]
  exact⟨[],rfl,rfl⟩
 have h:=of_decide_eq_false h
 rw[if_neg h]
 refine⟨⟨_,by omega,by omega,rfl,[],[],Acc.nil,rfl,by decide,rfl⟩, ?_⟩
 intro x_a x_n x_c x x1 a n c f m I1 F1 hI1 ⟨h0,h1,gm,l,A,hA,hF,hl,ht⟩
 subst hF
 rw[pP h0 h1] at ht
 refine cV.ret (oH hs h0 h1 I1 _) fun I2 hI2=>?_
 rcases fJ h0 h1 with ⟨t,htok,htat⟩ | ⟨e,htok,he⟩
 ·rw[htok] at ht ⊢
  have hnx:=lI h0 h1 htok
  refine⟨_,_,_,_,_,_,rfl,_,.refl _,fun b_t=>⟨fun h=>absurd h (by decide),fun _=>?_⟩⟩
  intro b I3 hI3 hb
  refine dW.perm ((sW hA (by omega) t hb (F:=(b_t,_)::F)).mono fun v I4 G2 hI4 ⟨a',n',c',A',hv,hA',hG⟩=>?_) List.perm_middle.symm
  subst hG
  refine⟨_,_,_,hv,A'++F,List.perm_middle,fun hk=>?_,fun hk=>?_⟩
  ·have hk:t.kind=0:=by simpa using hk
   simp only[hk,if_true] at ht
   rw[ht]
   exact⟨_,_,_,_,rfl,hA',rfl⟩
  ·have hk:t.kind≠0:=by simpa using hk
   have:=hnx.2.2 hk
   simp only[hk,if_false] at ht
   rw[iw (by omega)]
   refine⟨_, ?_,by omega,by omega,rfl,_,_,hA',rfl, ?_, ?_⟩
   ·omega
   ·rw[List.length_append,List.length_singleton];omega
   ·rw[ht,List.append_assoc];rfl
 ·rw[htok] at ht ⊢
  refine⟨_,_,_,_,_,_,rfl,_,.refl _,fun b_t=>⟨fun _=>?_,fun h=>?_⟩⟩
  ·rw[ht]
   exact⟨A,rfl,rfl⟩
  ·rcases he with rfl | rfl | rfl<;>exact absurd h (by decide)
theorem rL{s:ByteArray}(hs:ef s)(I:cS)(F:cR):cV P 49 #[.string s] I F (tU (lJ s) F):=lK.keep (sX hs I F)
structure PF where
 e:Int
 pos:Int
 tok:Bool
structure PS where
 next:Nat
 f:PF
structure PC where
 l:List Tok
 bad:Int
 pos:Int
def fs:Px:=.mk 0 0 0 0 0 ⟨#[]⟩ [] 0
def PS.over(s:PS):Bool:=s.f.e != 0
def PS.inc(s:PS):PS:=⟨s.next+1,s.f⟩
section
variable (c:PC)
def PC.tok(i:Nat):Tok:=(c.l[i]?).getD (ik 0)
def PC.now(s:PS):Tok:=if s.over||decide (c.l.length≤s.next) then ik 0 else c.tok s.next
def PC.c5(e:Int)(s:PS):PS:=if s.over then s else if c.l.length≤s.next then ⟨s.next,⟨c.bad,c.pos,true⟩⟩ else ⟨s.next,⟨e,(c.tok s.next).pos,false⟩⟩
def PC.eM(w:ByteArray)(s:PS):Bool:=(c.now s).text.toList==w.toList&&((c.now s).kind==1||(c.now s).kind==4)
def PC.gu(s:PS):List ByteArray→Int→Int
 | [],_=>-1
 | w::r,i=>if c.eM w s then i else PC.gu s r (i+1)
def PC.any(ws:List ByteArray)(s:PS):Int:=c.gu s ws 0
def PC.take(w:ByteArray)(s:PS):Int×PS:=if c.eM w s then ((c.now s).pos,s.inc) else (0,c.c5 130 s)
def PC.name(s:PS):ByteArray×PS:=if (c.now s).kind=2 then ((c.now s).text,s.inc) else (⟨#[]⟩,c.c5 130 s)
def PC.dg(d:Int)(s:PS):PS:=if 24<d+1 then c.c5 132 s else s
def rM(gX n pos:Int):Px:=.mk 1 0 gX n 0 ⟨#[]⟩ [] pos
def PC.literal(s:PS):(Px×Bool)×PS :=
 if (c.now s).kind=3 then ((rM (c.now s).gX (c.now s).n (c.now s).pos,true),s.inc)
 else if (c.now s).kind=1∧((c.now s).text.toList=(⟨#[116,114,117,101]⟩:ByteArray).toList∨(c.now s).text.toList=(⟨#[102,97,108,115,101]⟩:ByteArray).toList) then ((rM 5 (if (c.now s).text.toList=(⟨#[116,114,117,101]⟩:ByteArray).toList then 1 else 0) (c.now s).pos,true),s.inc)
 else if (c.now s).kind=1∧((c.now s).text.toList=(⟨#[98,117,121]⟩:ByteArray).toList∨(c.now s).text.toList=(⟨#[115,101,108,108]⟩:ByteArray).toList) then ((rM 6 (if (c.now s).text.toList=(⟨#[115,101,108,108]⟩:ByteArray).toList then 2 else 1) (c.now s).pos,true),s.inc)
 else ((fs,false),s)
structure Lv where
 ex:PS→Px×PS
 un:PS→Px×PS
def PC.eg(nx:Lv):Nat→Bool→PS→List Px×PS
 | 0,_,s=>([],s)
 | n+1,first,s =>
   let r:=nx.ex (if first then s else (c.take (⟨#[44]⟩:ByteArray) s).2)
   let q:=PC.eg nx n false r.2
   (r.1::q.1,q.2)
def PC.call(nx:Lv)(d:Int)(kind oper gX pos:Int)(many:Nat)(s:PS):Px×PS :=
 if (c.dg d s).over then (fs,c.dg d s)
 else
  let q:=c.eg nx many true (c.take (⟨#[40]⟩:ByteArray) (c.dg d s).inc).2
  (.mk kind oper gX 0 0 ⟨#[]⟩ q.1 pos,(c.take (⟨#[41]⟩:ByteArray) q.2).2)
def PC.rest(nx:Lv)(d:Int)(s:PS):Px×PS :=
 if c.eM (⟨#[104,97,115]⟩:ByteArray) s then
  if c.any [(⟨#[98,105,100]⟩:ByteArray),(⟨#[97,115,107]⟩:ByteArray),(⟨#[108,97,115,116]⟩:ByteArray)] s.inc<0 then (fs,c.c5 130 s.inc) else (.mk 4 0 0 0 (c.any [(⟨#[98,105,100]⟩:ByteArray),(⟨#[97,115,107]⟩:ByteArray),(⟨#[108,97,115,116]⟩:ByteArray)] s.inc+1) ⟨#[]⟩ [] (c.now s).pos,s.inc.inc)
 else if c.eM (⟨#[40]⟩:ByteArray) s then
  if (c.dg d s).over then (fs,c.dg d s)
  else
   let r:=nx.ex (c.dg d s).inc
   (r.1,(c.take (⟨#[41]⟩:ByteArray) r.2).2)
 else (fs,c.c5 130 s)
def iH:List ByteArray:=[(⟨#[98,105,100]⟩:ByteArray),(⟨#[97,115,107]⟩:ByteArray),(⟨#[108,97,115,116]⟩:ByteArray),(⟨#[118,111,108,117,109,101]⟩:ByteArray),(⟨#[110,111,119]⟩:ByteArray),(⟨#[111,112,101,110]⟩:ByteArray)]
def fS:List ByteArray:=[(⟨#[97,98,115]⟩:ByteArray),(⟨#[109,105,110]⟩:ByteArray),(⟨#[109,97,120]⟩:ByteArray)]
def iU:List ByteArray:=[(⟨#[105,110,116]⟩:ByteArray),(⟨#[113,116,121]⟩:ByteArray),(⟨#[112,114,105,99,101]⟩:ByteArray),(⟨#[116,105,109,101]⟩:ByteArray)]
def PC.one(nx:Lv)(d:Int)(s:PS):Px×PS :=
 if (c.literal s).1.2 then ((c.literal s).1.1,(c.literal s).2)
 else if (c.now s).kind=2 then (.mk 2 0 0 0 0 (c.now s).text [] (c.now s).pos,s.inc)
 else if 0≤c.any iH s then (.mk 3 0 0 0 (c.any iH s+1) ⟨#[]⟩ [] (c.now s).pos,s.inc)
 else if 0≤c.any fS s then c.call nx d 8 (3+c.any fS s) 0 (c.now s).pos (if c.any fS s=0 then 1 else 2) s
 else if 0≤c.any iU s then c.call nx d 9 0 (1+c.any iU s) (c.now s).pos 1 s
 else c.rest nx d s
def lL:List ByteArray:=[(⟨#[45]⟩:ByteArray),(⟨#[33]⟩:ByteArray)]
def PC.unary(nx:Lv)(d:Int)(s:PS):Px×PS :=
 if c.any lL s<0 then c.one nx d s
 else if (c.dg d s).over then (fs,c.dg d s)
 else
  let r:=nx.un (c.dg d s).inc
  (.mk 5 (1+c.any lL s) 0 0 0 ⟨#[]⟩ [r.1] (c.now (c.dg d s)).pos,r.2)
def vG(o pos:Int)(a b:Px):Px:=.mk 6 o 0 0 0 ⟨#[]⟩ [a,b] pos
def PC.gI(ws:List ByteArray)(o:Int)(sub:PS→Px×PS):Nat→Px→PS→Px×PS
 | 0,n,s=>(n,s)
 | m+1,n,s=>if c.any ws s<0 then (n,s) else
   let k:=sub s.inc
   PC.gI ws o sub m (vG (o+c.any ws s) (c.now s).pos n k.1) k.2
def PC.loop(ws:List ByteArray)(o:Int)(sub:PS→Px×PS)(s:PS):Px×PS:=c.gI ws o sub c.l.length (sub s).1 (sub s).2
def wE:List ByteArray:=[(⟨#[42]⟩:ByteArray),(⟨#[47]⟩:ByteArray),(⟨#[37]⟩:ByteArray)]
def xN:List ByteArray:=[(⟨#[43]⟩:ByteArray),(⟨#[45]⟩:ByteArray)]
def nb:List ByteArray:=[(⟨#[61,61]⟩:ByteArray),(⟨#[33,61]⟩:ByteArray),(⟨#[60]⟩:ByteArray),(⟨#[60,61]⟩:ByteArray),(⟨#[62]⟩:ByteArray),(⟨#[62,61]⟩:ByteArray)]
def xO:List ByteArray:=[(⟨#[38,38]⟩:ByteArray)]
def zB:List ByteArray:=[(⟨#[124,124]⟩:ByteArray)]
def PC.product(nx:Lv)(d:Int)(s:PS):Px×PS:=c.loop wE 8 (c.unary nx d) s
def PC.sum(nx:Lv)(d:Int)(s:PS):Px×PS:=c.loop xN 6 (c.product nx d) s
def PC.compare(nx:Lv)(d:Int)(s:PS):Px×PS :=
 let n:=c.sum nx d s
 if c.any nb n.2<0 then n else
  let k:=c.sum nx d n.2.inc
  (vG (11+c.any nb n.2) (c.now n.2).pos n.1 k.1,k.2)
def PC.and(nx:Lv)(d:Int)(s:PS):Px×PS:=c.loop xO 17 (c.compare nx d) s
def PC.or(nx:Lv)(d:Int)(s:PS):Px×PS:=c.loop zB 18 (c.and nx d) s
def PC.expr(nx:Lv)(d:Int)(s:PS):Px×PS :=
 let n:=c.or nx d s
 if c.eM (⟨#[63]⟩:ByteArray) n.2 then
  if (c.dg d n.2).over then (fs,c.dg d n.2)
  else
   let a:=nx.ex (c.dg d n.2).inc
   let b:=nx.ex (c.take (⟨#[58]⟩:ByteArray) a.2).2
   (.mk 7 0 0 0 0 ⟨#[]⟩ [n.1,a.1,b.1] (c.now (c.dg d n.2)).pos,b.2)
 else n
def PC.lv(nx:Lv)(d:Int):Lv:=⟨c.expr nx d,c.unary nx d⟩
def PC.lvl:Nat→Int→Lv
 | 0,d=>c.lv ⟨fun s=>(fs,s),fun s=>(fs,s)⟩ d
 | k+1,d=>c.lv (PC.lvl k (d+1)) d
def PC.fK(s:PS):Px×PS:=(c.lvl 24 0).ex s
def gf:List ByteArray:=[(⟨#[105,110,116]⟩:ByteArray),(⟨#[113,116,121]⟩:ByteArray),(⟨#[112,114,105,99,101]⟩:ByteArray),(⟨#[116,105,109,101]⟩:ByteArray),(⟨#[98,111,111,108]⟩:ByteArray),(⟨#[115,105,100,101]⟩:ByteArray)]
def PC.qo(nm:ByteArray)(t pos pos2:Int)(minus:Bool)(n:Px)(s:PS):gB×PS:=(⟨nm,t,if minus then .mk 5 1 0 0 0 ⟨#[]⟩ [n] pos2 else n,pos⟩,(c.take (⟨#[59]⟩:ByteArray) s).2)
def PC.mm(nm:ByteArray)(t pos pos2:Int)(minus:Bool)(s:PS):gB×PS :=
 if minus=true∧(c.now s).kind≠3 then (⟨nm,t,fs,pos⟩,c.c5 130 s) else c.qo nm t pos pos2 minus (c.literal s).1.1 (if (c.literal s).1.2 then (c.literal s).2 else c.c5 130 (c.literal s).2)
def PC.qp(nm:ByteArray)(t pos:Int)(s:PS):gB×PS:=c.mm nm t pos (c.now s).pos (c.eM (⟨#[45]⟩:ByteArray) s) (if c.eM (⟨#[45]⟩:ByteArray) s then s.inc else s)
def PC.rN(nm:ByteArray)(pos:Int)(s:PS):gB×PS:=if c.any gf s<0 then (⟨nm,0,fs,pos⟩,c.c5 130 s) else c.qp nm (1+c.any gf s) pos (c.take (⟨#[61]⟩:ByteArray) s.inc).2
def PC.qq(s:PS):gB×PS:=c.rN (c.name (c.take (⟨#[114,101,103]⟩:ByteArray) s).2).1 (c.take (⟨#[114,101,103]⟩:ByteArray) s).1 (c.name (c.take (⟨#[114,101,103]⟩:ByteArray) s).2).2
def eV:List ByteArray:=[(⟨#[108,105,109,105,116]⟩:ByteArray),(⟨#[105,111,99]⟩:ByteArray),(⟨#[102,111,107]⟩:ByteArray),(⟨#[112,111,115,116]⟩:ByteArray)]
def PC.kO(s:PS):ByteArray×PS:=if c.eM (⟨#[97,115]⟩:ByteArray) s then c.name s.inc else (⟨#[]⟩,s)
def PC.pj(x y:Px)(pos:Int)(z:Px)(o:Int)(s:PS):k9×PS:=(⟨1,o,(c.kO s).1,x,y,z,fs,pos⟩,(c.kO s).2)
def PC.rO(x y:Px)(pos:Int)(z:Px)(s:PS):k9×PS:=if c.any eV s<0 then (⟨1,2,⟨#[]⟩,x,y,z,fs,pos⟩,c.c5 130 s) else c.pj x y pos z (if c.any eV s=0 then 1 else 2+c.any eV s) s.inc
def sY:List ByteArray:=[(⟨#[109,97,114,107,101,116]⟩:ByteArray),(⟨#[97,116]⟩:ByteArray)]
def PC.qs(x y:Px)(pos:Int)(s:PS):k9×PS:=if c.any sY s<0 then (⟨1,0,⟨#[]⟩,x,y,fs,fs,pos⟩,c.c5 130 s)
 else if c.any sY s=1 then c.rO x y pos (c.fK s.inc).1 (c.fK s.inc).2 else c.pj x y pos fs 2 s.inc
def PC.rP(x:Px)(pos:Int)(s:PS):k9×PS:=c.qs x (c.fK (c.take (⟨#[111,102]⟩:ByteArray) s).2).1 pos (c.fK (c.take (⟨#[111,102]⟩:ByteArray) s).2).2
def PC.sZ(s:PS):k9×PS:=c.rP (c.fK (c.take (⟨#[115,117,98,109,105,116]⟩:ByteArray) s).2).1 (c.take (⟨#[115,117,98,109,105,116]⟩:ByteArray) s).1 (c.fK (c.take (⟨#[115,117,98,109,105,116]⟩:ByteArray) s).2).2
def rQ:List ByteArray:=[(⟨#[115,117,98,109,105,116]⟩:ByteArray),(⟨#[97,109,101,110,100]⟩:ByteArray),(⟨#[99,97,110,99,101,108]⟩:ByteArray),(⟨#[115,101,116]⟩:ByteArray),(⟨#[103,111,116,111]⟩:ByteArray),(⟨#[104,97,108,116]⟩:ByteArray)]
def z6:k9:=⟨0,0,⟨#[]⟩,fs,fs,fs,fs,0⟩
def PC.wF(nm:ByteArray)(pos:Int)(x:Px)(s:PS):k9×PS:=(⟨2,0,nm,fs,x,(c.fK (c.take (⟨#[97,116]⟩:ByteArray) s).2).1,fs,pos⟩,(c.fK (c.take (⟨#[97,116]⟩:ByteArray) s).2).2)
def PC.zn(nm:ByteArray)(pos:Int)(s:PS):k9×PS:=(⟨4,0,nm,fs,fs,fs,(c.fK (c.take (⟨#[61]⟩:ByteArray) s).2).1,pos⟩,(c.fK (c.take (⟨#[61]⟩:ByteArray) s).2).2)
def PC.wb(k:Int)(nm:ByteArray)(pos:Int)(s:PS):k9×PS:=if k=2 then c.wF nm pos (c.fK (c.take (⟨#[116,111]⟩:ByteArray) s).2).1 (c.fK (c.take (⟨#[116,111]⟩:ByteArray) s).2).2 else if k=4 then c.zn nm pos s else (⟨k,0,nm,fs,fs,fs,fs,pos⟩,s)
def PC.do(s:PS):k9×PS :=
 if c.any rQ s<0 then (z6,c.c5 130 s)
 else if c.any rQ s=0 then c.sZ s
 else if c.any rQ s=5 then c.wb 6 ⟨#[]⟩ (c.now s).pos s.inc
 else c.wb (1+c.any rQ s) (c.name s.inc).1 (c.now s).pos (c.name s.inc).2
def PC.many(n most:Nat)(s:PS):PS:=if most≤n then c.c5 131 s else s
def PC.ki:Nat→List k9→PS→List k9×PS
 | 0,l,s=>(l,s)
 | m+1,l,s =>
   if c.eM (⟨#[44]⟩:ByteArray) (c.do s).2 then
    if (c.many (l.length+1) 8 (c.do s).2).over then (l++[(c.do s).1],c.many (l.length+1) 8 (c.do s).2) else PC.ki m (l++[(c.do s).1]) (c.many (l.length+1) 8 (c.do s).2).inc
   else (l++[(c.do s).1],(c.do s).2)
def PC.jQ(w:Px)(pos:Int)(s:PS):ix×PS:=(⟨w,(c.ki 8 [] s).1,pos⟩,(c.take (⟨#[59]⟩:ByteArray) (c.ki 8 [] s).2).2)
def PC.js(s:PS):ix×PS:=c.jQ (c.fK (c.take (⟨#[119,104,101,110]⟩:ByteArray) s).2).1 (c.take (⟨#[119,104,101,110]⟩:ByteArray) s).1 (c.take (⟨#[100,111]⟩:ByteArray) (c.fK (c.take (⟨#[119,104,101,110]⟩:ByteArray) s).2).2).2
def PC.jD{α:Type}(w:ByteArray)(most:Nat)(one:PS→α×PS):Nat→List α→PS→List α×PS
 | 0,l,s=>(l,if c.eM w s then c.many l.length most s else s)
 | m+1,l,s=>if c.eM w s then
    if (c.many l.length most s).over then (l,c.many l.length most s) else PC.jD w most one m (l++[(one (c.many l.length most s)).1]) (one (c.many l.length most s)).2
   else (l,s)
def PC.list{α:Type}(w:ByteArray)(most:Nat)(one:PS→α×PS)(s:PS):List α×PS:=c.jD w most one most [] s
def PC.jR(nm:ByteArray)(pos:Int)(s:PS):fX×PS:=(⟨nm,(c.list (⟨#[119,104,101,110]⟩:ByteArray) 12 c.js s).1,pos⟩,(c.take (⟨#[125]⟩:ByteArray) (c.list (⟨#[119,104,101,110]⟩:ByteArray) 12 c.js s).2).2)
def PC.state(s:PS):fX×PS:=c.jR (c.name (c.take (⟨#[115,116,97,116,101]⟩:ByteArray) s).2).1 (c.take (⟨#[115,116,97,116,101]⟩:ByteArray) s).1 (c.take (⟨#[123]⟩:ByteArray) (c.name (c.take (⟨#[115,116,97,116,101]⟩:ByteArray) s).2).2).2
def PC.slot(s:PS):dY×PS:=(⟨(c.name (c.take (⟨#[115,108,111,116]⟩:ByteArray) s).2).1,(c.take (⟨#[115,108,111,116]⟩:ByteArray) s).1⟩,(c.take (⟨#[59]⟩:ByteArray) (c.name (c.take (⟨#[115,108,111,116]⟩:ByteArray) s).2).2).2)
def PC.end(s:PS):PS:=if s.over then s else if c.l.length≤s.next∨(c.tok s.next).kind≠0 then c.c5 130 s else s
def PC.xP(nm:ByteArray)(rs:List gB)(ss:List dY)(ts:List fX)(s:PS):gO×PS:=(⟨nm,rs,ss,ts⟩,c.end (c.take (⟨#[125]⟩:ByteArray) (if ts.length=0 then c.c5 130 s else s)).2)
def PC.xQ(nm:ByteArray)(rs:List gB)(ss:List dY)(s:PS):gO×PS:=c.xP nm rs ss (c.list (⟨#[115,116,97,116,101]⟩:ByteArray) 12 c.state s).1 (c.list (⟨#[115,116,97,116,101]⟩:ByteArray) 12 c.state s).2
def PC.xR(nm:ByteArray)(rs:List gB)(s:PS):gO×PS:=c.xQ nm rs (c.list (⟨#[115,108,111,116]⟩:ByteArray) 4 c.slot s).1 (c.list (⟨#[115,108,111,116]⟩:ByteArray) 4 c.slot s).2
def PC.xS(nm:ByteArray)(s:PS):gO×PS:=c.xR nm (c.list (⟨#[114,101,103]⟩:ByteArray) 12 c.qq s).1 (c.list (⟨#[114,101,103]⟩:ByteArray) 12 c.qq s).2
def PC.whole(s:PS):gO×PS:=c.xS (c.name (c.take (⟨#[115,116,114,97,116,101,103,121]⟩:ByteArray) s).2).1 (c.take (⟨#[123]⟩:ByteArray) (c.name (c.take (⟨#[115,116,114,97,116,101,103,121]⟩:ByteArray) s).2).2).2
end
def dz(t:ByteArray):PC:=if 4096<(t.size:Int) then ⟨[],0,0⟩ else ⟨(ml t 0).1,((ml t 0).2.map Prod.fst).getD 0,((ml t 0).2.map Prod.snd).getD 0⟩
def fj(t:ByteArray):PS:=⟨0,if 4096<(t.size:Int) then ⟨110,0,true⟩ else ⟨0,0,false⟩⟩
def zF:PF:=⟨0,0,false⟩
def kQ(t:ByteArray):gO×PF :=
 let r:=(dz t).whole (fj t)
 if r.2.over then (⟨⟨#[]⟩,[],[],[]⟩,r.2.f) else (r.1,zF)
def kR(t:ByteArray):Px×PF :=
 let n:=(dz t).fK (fj t)
 let s:=(dz t).end n.2
 if s.over then (fs,s.f) else (n.1,zF)
end Go.Lx
namespace Go.Lx
open Go.Vc
def PC.fin(c:PC)(s:PS):Option PF:=if s.over then some s.f else if c.l.length≤s.next then some ⟨c.bad,c.pos,true⟩ else none
def PC.dw(c:PC)(f:PF)(s:PS):Prop:=c.fin s=some f∧(s.over=false→c.bad≠0)
section
variable {c:PC} {f:PF} {s:PS}
theorem PC.dw.now(h:c.dw f s):c.now s=ik 0:=by
 unfold PC.now
 refine if_pos ?_
 have h1:=h.1
 unfold PC.fin at h1
 by_cases ho:s.over=true
 ·simp[ho]
 ·rw[if_neg ho] at h1
  split at h1
  ·rename_i hl;simp[hl]
  ·cases h1
theorem PC.dw.c5(h:c.dw f s)(e:Int):c.dw f (c.c5 e s):=by
 unfold PC.c5
 split
 ·exact h
 ·rename_i ho
  have h1:=h.1;have h2:=h.2 (by simpa using ho)
  unfold PC.fin at h1
  rw[if_neg ho] at h1
  split at h1
  ·rename_i hl
   rw[if_pos hl]
   have ho2:PS.over ⟨s.next,⟨c.bad,c.pos,true⟩⟩=true:=by simpa[PS.over] using h2
   exact⟨by unfold PC.fin;rw[if_pos ho2];exact h1,fun h=>by rw[ho2] at h;cases h⟩
  ·cases h1
theorem PC.dw.eM(h:c.dw f s)(w:ByteArray):c.eM w s=false:=by
 unfold PC.eM;rw[h.now];simp[ik]
theorem PC.dw.kind(h:c.dw f s):(c.now s).kind=0:=by rw[h.now];rfl
theorem PC.dw.any(h:c.dw f s)(ws:List ByteArray):c.any ws s = -1:=by
 have:∀(ws:List ByteArray) (i:Int),c.gu s ws i = -1:=by
  intro ws
  induction ws with
  | nil=>intro i;rw[PC.gu]
  | cons w r ih=>intro i;rw[PC.gu,h.eM,if_neg (by simp),ih]
 exact this ws 0
theorem PC.dw.take(h:c.dw f s)(w:ByteArray):c.dw f (c.take w s).2:=by
 unfold PC.take;rw[h.eM];exact h.c5 _
theorem PC.dw.name(h:c.dw f s):c.dw f (c.name s).2:=by
 unfold PC.name;rw[h.kind,if_neg (by decide)];exact h.c5 _
theorem PC.dw.literal(h:c.dw f s):c.literal s=((fs,false),s):=by
 unfold PC.literal;rw[h.kind,if_neg (by decide),if_neg (by simp),if_neg (by simp)]
end
def Kp(c:PC)(f:PF){α:Type}(g:PS→α×PS):Prop:=∀s,c.dw f s→c.dw f (g s).2
section
variable {c:PC} {f:PF}
theorem Kp.rest(nx:Lv)(d:Int):Kp c f (c.rest nx d):=fun s h=>by
 unfold PC.rest;rw[h.eM,h.eM];exact h.c5 _
theorem Kp.one(nx:Lv)(d:Int):Kp c f (c.one nx d):=fun s h=>by
 unfold PC.one;rw[h.literal,h.kind,h.any,h.any,h.any,if_neg (by simp),if_neg (by decide),if_neg (by decide),if_neg (by decide),if_neg (by decide)];exact Kp.rest nx d s h
theorem Kp.unary(nx:Lv)(d:Int):Kp c f (c.unary nx d):=fun s h=>by
 unfold PC.unary;rw[h.any,if_pos (by decide)];exact Kp.one nx d s h
theorem Kp.gI{ws:List ByteArray}{o:Int}{sub:PS→Px×PS}:∀(m:Nat) (n:Px),Kp c f (c.gI ws o sub m n)
 | 0,n=>fun s h=>h
 | m+1,n=>fun s h=>by rw[PC.gI,h.any,if_pos (by decide)];exact h
theorem Kp.loop{ws:List ByteArray}{o:Int}{sub:PS→Px×PS}(hs:Kp c f sub):Kp c f (c.loop ws o sub):=fun s h=>Kp.gI _ _ _ (hs s h)
theorem Kp.product(nx:Lv)(d:Int):Kp c f (c.product nx d):=Kp.loop (Kp.unary nx d)
theorem Kp.sum(nx:Lv)(d:Int):Kp c f (c.sum nx d):=Kp.loop (Kp.product nx d)
theorem Kp.compare(nx:Lv)(d:Int):Kp c f (c.compare nx d):=fun s h=>by
 have h1:=Kp.sum nx d s h
 unfold PC.compare
 show c.dw f (if c.any nb (c.sum nx d s).2<0 then c.sum nx d s else _:Px×PS).2
 rw[h1.any,if_pos (by decide)];exact h1
theorem Kp.and(nx:Lv)(d:Int):Kp c f (c.and nx d):=Kp.loop (Kp.compare nx d)
theorem Kp.or(nx:Lv)(d:Int):Kp c f (c.or nx d):=Kp.loop (Kp.and nx d)
theorem Kp.expr(nx:Lv)(d:Int):Kp c f (c.expr nx d):=fun s h=>by
 have h1:=Kp.or nx d s h
 unfold PC.expr
 show c.dw f (if c.eM _ (c.or nx d s).2 then _ else c.or nx d s:Px×PS).2
 rw[h1.eM];exact h1
theorem Kp.lvl:∀(k:Nat) (d:Int),Kp c f (c.lvl k d).ex∧Kp c f (c.lvl k d).un
 | 0,d=>⟨Kp.expr _ d,Kp.unary _ d⟩
 | k+1,d=>⟨Kp.expr _ d,Kp.unary _ d⟩
theorem Kp.fK:Kp c f c.fK:=(Kp.lvl 24 0).1
theorem Kp.kids{nx:Lv}(hx:Kp c f nx.ex):∀(n:Nat) (b:Bool),Kp c f (c.eg nx n b)
 | 0,b=>fun s h=>h
 | n+1,b=>fun s h=>by
   rw[PC.eg]
   refine Kp.kids hx n false _ (hx _ ?_)
   split
   ·exact h
   ·exact h.take _
theorem Kp.qo(nm:ByteArray)(t p p2:Int)(m:Bool)(n:Px):Kp c f (c.qo nm t p p2 m n):=fun s h=>h.take _
theorem Kp.mm(nm:ByteArray)(t p p2:Int)(m:Bool):Kp c f (c.mm nm t p p2 m):=fun s h=>by
 unfold PC.mm;split
 ·exact h.c5 _
 ·refine Kp.qo _ _ _ _ _ _ _ ?_
  rw[h.literal,if_neg (by simp)];exact h.c5 _
theorem Kp.qp(nm:ByteArray)(t p:Int):Kp c f (c.qp nm t p):=fun s h=>by
 unfold PC.qp;rw[h.eM,if_neg (by simp)];exact Kp.mm _ _ _ _ _ _ h
theorem Kp.rN(nm:ByteArray)(p:Int):Kp c f (c.rN nm p):=fun s h=>by
 unfold PC.rN;rw[h.any,if_pos (by decide)];exact h.c5 _
theorem Kp.kO:Kp c f c.kO:=fun s h=>by
 unfold PC.kO;rw[h.eM,if_neg (by simp)];exact h
theorem Kp.pj(x y:Px)(p:Int)(z:Px)(o:Int):Kp c f (c.pj x y p z o):=fun s h=>Kp.kO s h
theorem Kp.rO(x y:Px)(p:Int)(z:Px):Kp c f (c.rO x y p z):=fun s h=>by
 unfold PC.rO;rw[h.any,if_pos (by decide)];exact h.c5 _
theorem Kp.qs(x y:Px)(p:Int):Kp c f (c.qs x y p):=fun s h=>by
 unfold PC.qs;rw[h.any,if_pos (by decide)];exact h.c5 _
theorem Kp.rP(x:Px)(p:Int):Kp c f (c.rP x p):=fun s h=>Kp.qs _ _ _ _ (Kp.fK _ (h.take _))
theorem Kp.wF(nm:ByteArray)(p:Int)(x:Px):Kp c f (c.wF nm p x):=fun s h=>Kp.fK _ (h.take _)
theorem Kp.zn(nm:ByteArray)(p:Int):Kp c f (c.zn nm p):=fun s h=>Kp.fK _ (h.take _)
theorem Kp.wb(k:Int)(nm:ByteArray)(p:Int):Kp c f (c.wb k nm p):=fun s h=>by
 unfold PC.wb;split
 ·exact Kp.wF _ _ _ _ (Kp.fK _ (h.take _))
 ·split
  ·exact Kp.zn _ _ _ h
  ·exact h
theorem Kp.do:Kp c f c.do:=fun s h=>by
 unfold PC.do;rw[h.any,if_pos (by decide)];exact h.c5 _
theorem Kp.ki:∀(m:Nat) (l:List k9),Kp c f (c.ki m l)
 | 0,l=>fun s h=>h
 | m+1,l=>fun s h=>by
   have h1:=Kp.do s h
   rw[PC.ki,h1.eM,if_neg (by simp)];exact h1
theorem Kp.jQ(w:Px)(p:Int):Kp c f (c.jQ w p):=fun s h=>(Kp.ki 8 [] s h).take _
theorem Kp.jD{α:Type}(w:ByteArray)(most:Nat)(one:PS→α×PS):∀(m:Nat) (l:List α),Kp c f (c.jD w most one m l)
 | 0,l=>fun s h=>by rw[PC.jD,h.eM];exact h
 | m+1,l=>fun s h=>by rw[PC.jD,h.eM];exact h
theorem Kp.list{α:Type}(w:ByteArray)(most:Nat)(one:PS→α×PS):Kp c f (c.list w most one):=Kp.jD w most one most []
theorem Kp.jR(nm:ByteArray)(p:Int):Kp c f (c.jR nm p):=fun s h=>(Kp.list _ _ _ s h).take _
end
end Go.Lx
namespace Go.Lx
open Go.Vc
def tV(s:ByteArray)(i:Int):TR:=if dm (bt s i) then jN s i else if ia (bt s i) then mS s i else mT s i
theorem pQ(s:ByteArray)(f:Int):fT s f=if dj s f=s.size then .ok (ik (dj s f)) else tV s (dj s f):=rfl
theorem vH{p:Int→Bool}{s:ByteArray}{i E:Int}(h:i≤E)(hE:E≤s.size)(hall:∀k,i≤k→k<E→p (bt s k)=true)(hend:E<s.size→p (bt s E)=false):dx p s i=E:=by
 obtain⟨n,hn⟩:∃n:Nat,n=(E-i).toNat:=⟨_,rfl⟩
 induction n generalizing i with
 | zero =>
   have:i=E:=by omega
   subst this
   rcases Int.lt_or_le i s.size with h' | h'
   ·rw[dO h',hend h'];rfl
   ·exact j2 h'
 | succ n ih =>
   rw[dO (by omega),if_pos (hall i (Int.le_refl i) (by omega))]
   exact ih (by omega) (fun k h1 h2=>hall k (by omega) h2) (by omega)
theorem pR{p:Int→Bool}{s:ByteArray}{i k:Int}(h1:i≤k)(h2:k<dx p s i)(h3:i≤(s.size:Int)):p (bt s k)=true:=(rJ h1 h2 h3).1
theorem s5{s s':ByteArray}{i i' E:Int}(hE:i≤E)(hEs:E≤s.size)(hE':i'+(E-i)≤s'.size)(hag:∀k,0≤k→k<E-i→bt s' (i'+k)=bt s (i+k))(hd:∀k,i≤k→k<E→dm (bt s k)=true)
  (h1:E<s.size→dm (bt s E)=false) (h2:i'+(E-i)<s'.size→dm (bt s' (i'+(E-i)))=false) (v:Int):eG s' i' v=eG s i v:=by
 obtain⟨n,hn⟩:∃n:Nat,n=(E-i).toNat:=⟨_,rfl⟩
 induction n generalizing i i' v with
 | zero =>
   have hi:i=E:=by omega
   subst hi
   have e1:eG s i v=v:=by
    rcases Int.lt_or_le i s.size with h | h
    ·rw[gq h,h1 h];rfl
    ·exact mg h
   have e2:eG s' i' v=v:=by
    rcases Int.lt_or_le i' s'.size with h | h
    ·rw[gq h,show dm (bt s' i')=false by have:=h2 (by omega);rwa [show i'+(i-i)=i' by omega] at this];rfl
    ·exact mg h
   rw[e1,e2]
 | succ n ih =>
   have hb:bt s' i'=bt s i:=by have:=hag 0 (Int.le_refl 0) (by omega);rwa [Int.add_zero,Int.add_zero] at this
   rw[gq (s:=s) (by omega),gq (s:=s') (by omega),hb,hd i (Int.le_refl i) (by omega)]
   simp only[if_true]
   refine ih (i:=i+1) (i':=i'+1) (by omega) (by omega) (fun k g0 g1=>?_) (fun k g0 g1=>hd k (by omega) g1) (fun h=>?_) _ (by omega)
   ·have:=hag (k+1) (by omega) (by omega)
    rw[show i'+1+k=i'+(k+1) by omega,show i+1+k=i+(k+1) by omega];exact this
   ·have:=h2 (by omega)
    rwa [show i'+1+(E-(i+1))=i'+(E-i) by omega]
theorem vI{s s':ByteArray}{i i':Int}{n:Int}(h0:0≤i)(h0':0≤i')(hn:0≤n)(hle:i+n≤s.size)(hle':i'+n≤s'.size)(hag:∀k,0≤k→k<n→bt s' (i'+k)=bt s (i+k)):cut s' i' (i'+n)=cut s i (i+n):=by
 have h1:=gC h0 (by omega:i≤i+n) hle
 have h2:=gC h0' (by omega:i'≤i'+n) hle'
 refine xM (by omega) fun k hk=>?_
 rw[oG h0' (by omega) (by omega) hle',oG h0 (by omega) (by omega) hle]
 exact hag k (by omega) (by omega)
theorem wG{s:ByteArray}{i:Int}{t:Tok}(h:jN s i=.ok t) :
  ∃E e2,E=dx dm s i∧e2=(if eZ (c8 s E)=1 then E else E+1)∧¬(eG s i 0>9223372036854775807∨(E-i>1∧bt s i=48)∨(e2<s.size∧(eu (bt s e2)=true∨(65≤bt s e2∧bt s e2≤90)))) ∧
   t=⟨3,cut s i e2,eZ (c8 s E),eG s i 0,i⟩:=by
 refine⟨_,_,rfl,rfl, ?_, ?_⟩
 ·intro hc
  have:jN s i=.bad 113 i:=if_pos hc
  rw[this] at h;cases h
 ·have:∀C:Prop,[Decidable C]→∀x y:TR,(if C then x else y)=.ok t→x=.bad 113 i→y=.ok t:=fun C _ x y h hx=>by
   split at h
   ·rw[hx] at h;cases h
   ·exact h
  have:=this _ _ _ h rfl
  cases this;rfl
theorem oJ(s:ByteArray):∀(n:Nat) (f:Int),(iS s n f).1.length≤n
 | 0,f=>Nat.le_refl _
 | n+1,f=>by
   unfold iS
   cases fT s f with
   | bad e p=>simp
   | ok t =>
     simp only
     split
     ·simp
     ·simp only[List.length_cons];exact Nat.succ_le_succ (oJ s n _)
end Go.Lx
