import Derived.Tactics
import Derived.Deep.Quiet
import Derived.KernelRfl
import Derived.RangeFuncIn
import Derived.OrdersIn
import Derived.TacticsIn
import Derived.Scope
import Derived.RangeFuncRecord
import Derived.RangeFuncLeaves
import Derived.Laws.AppendOwn
import Derived.Laws.StructEq
import Derived.Test.YtdhcodphiofhjaaDoorProg
import Derived.Lib.Strings
import Derived.Laws.MakeOwn
import Derived.RecoverIn
import Derived.MapKept
import Derived.Lib.ConvBytes
import Derived.ProofKit
import Derived.ShutString
import Derived.WalkKit
import Derived.LaidEql
import Derived.Stop.Asserts
import Derived.RowKitTokens
import Derived.ChangeSlices
import Derived.ReadAgain
import Derived.ChangeStays
set_option linter.unusedVariables false
set_option linter.unusedSimpArgs false
set_option linter.unusedSectionVars false
set_option maxRecDepth 100000
namespace Go.Vc
structure cS where
 at':Nat→Option Obj
 os:Os
 out:Array (Nat×ByteArray)
instance:CoeFun cS fun _=>Nat→Option Obj:=⟨cS.at'⟩
abbrev cR:=List (Nat×Obj)
def cS.le(I J:cS):Prop:=(∀b o,I b=some o→J b=some o)∧J.os=I.os∧J.out=I.out
theorem cS.le_refl(I:cS):cS.le I I:=⟨fun _ _ h=>h,rfl,rfl⟩
theorem cS.le_trans{I J K:cS}(h:cS.le I J)(k:cS.le J K):cS.le I K:=⟨fun _ _ x=>k.1 _ _ (h.1 _ _ x),k.2.1.trans h.2.1,k.2.2.trans h.2.2⟩
theorem cS.le.at{I J:cS}(h:cS.le I J){b:Nat}{o:Obj}(hb:I b=some o):J b=some o:=h.1 b o hb
def pY(w' w:World):Prop:=w'.os=w.os∧w'.output=w.output
structure Sat (I:cS) (F:cR) (w:World):Prop where
 imm:∀b o,I b=some o→w.heap[b]? = some o
 own:∀b o,(b,o)∈F→w.heap[b]? = some o
 off:∀b o,(b,o)∈F→I b=none
 nd:(F.map Prod.fst).Nodup
 env:w.os=I.os∧w.output=I.out
theorem Sat.perm{I:cS}{F G:cR}{w:World}(h:Sat I F w)(p:F.Perm G):Sat I G w :=
 ⟨h.imm,fun b o hm=>h.own b o (p.mem_iff.2 hm),fun b o hm=>h.off b o (p.mem_iff.2 hm),(p.map Prod.fst).nodup_iff.1 h.nd,h.env⟩
theorem Sat.of_heap{I:cS}{F:cR}{w w':World}(h:Sat I F w)(e:w'.heap=w.heap)(e2:pY w' w):Sat I F w' :=
 ⟨by rw[e];exact h.imm,by rw[e];exact h.own,h.off,h.nd,e2.1.trans h.env.1,e2.2.trans h.env.2⟩
theorem Sat.sub{I:cS}{F G:cR}{w:World}(h:Sat I F w)(s:G.Sublist F):Sat I G w :=
 ⟨h.imm,fun b o hm=>h.own b o (s.subset hm),fun b o hm=>h.off b o (s.subset hm),(s.map Prod.fst).nodup h.nd,h.env⟩
theorem Sat.drop{I:cS}{A F:cR}{w:World}(h:Sat I (A++F) w):Sat I F w:=h.sub (List.sublist_append_right A F)
theorem Sat.fresh{I:cS}{F:cR}{w:World}(h:Sat I F w):I w.heap.size=none∧∀o,(w.heap.size,o)∉F:=by
 constructor
 ·cases e:I w.heap.size with
  | none=>rfl
  | some o=>have:=h.imm _ _ e;simp at this
 ·intro o hm;have:=h.own _ _ hm;simp at this
theorem Sat.alloc{I:cS}{F:cR}{w:World}(h:Sat I F w)(o:Obj) :
  Sat I ((w.heap.size,o)::F) { w with heap:=w.heap.push o }:=by
 have hf:=h.fresh
 refine⟨?_, ?_, ?_, ?_,h.env⟩
 ·intro b o' hb
  have:=h.imm b o' hb
  have hlt:b<w.heap.size:=by
   rcases Nat.lt_or_ge b w.heap.size with h | h
   ·exact h
   ·simp[Array.getElem?_eq_none h] at this
  simp only[Array.getElem?_push,this]
  split
  ·omega
  ·rfl
 ·intro b o' hb
  rcases List.mem_cons.1 hb with hb | hb
  ·cases hb;simp
  ·have:=h.own b o' hb
   have hlt:b<w.heap.size:=by
    rcases Nat.lt_or_ge b w.heap.size with h | h
    ·exact h
    ·simp[Array.getElem?_eq_none h] at this
   simp only[Array.getElem?_push,this]
   split
   ·omega
   ·rfl
 ·intro b o' hb
  rcases List.mem_cons.1 hb with hb | hb
  ·cases hb;exact hf.1
  ·exact h.off b o' hb
 ·rw[List.map_cons,List.nodup_cons]
  refine⟨?_,h.nd⟩
  intro hm
  obtain⟨⟨b,o'⟩,hm,e⟩:=List.mem_map.1 hm
  cases e
  exact hf.2 _ hm
theorem Sat.set{I:cS}{F:cR}{w:World}{b:Nat}{o o':Obj}(h:Sat I ((b,o)::F) w){w':World}(e:w'.heap=w.heap.setIfInBounds b o')(e2:pY w' w) :
  Sat I ((b,o')::F) w':=by
 have hb:=h.own b o (List.mem_cons_self ..)
 have hI:=h.off b o (List.mem_cons_self ..)
 have hn:=h.nd
 rw[List.map_cons,List.nodup_cons] at hn
 have hlt:b<w.heap.size:=by
  rcases Nat.lt_or_ge b w.heap.size with h | h
  ·exact h
  ·simp[Array.getElem?_eq_none h] at hb
 refine⟨?_, ?_, ?_, ?_,e2.1.trans h.env.1,e2.2.trans h.env.2⟩
 ·intro c x hc
  have hne:b≠c:=fun hh=>by subst hh;rw[hI] at hc;cases hc
  rw[e,Array.getElem?_setIfInBounds_ne hne];exact h.imm c x hc
 ·intro c x hc
  rcases List.mem_cons.1 hc with hc | hc
  ·cases hc;rw[e];simp[hlt]
  ·have hne:b≠c:=fun hh=>by subst hh;exact hn.1 (List.mem_map.2 ⟨_,hc,rfl⟩)
   rw[e,Array.getElem?_setIfInBounds_ne hne];exact h.own c x (List.mem_cons_of_mem _ hc)
 ·intro c x hc
  rcases List.mem_cons.1 hc with hc | hc
  ·cases hc;exact hI
  ·exact h.off c x (List.mem_cons_of_mem _ hc)
 ·rw[List.map_cons,List.nodup_cons];exact hn
def cS.put(I:cS)(b:Nat)(o:Obj):cS:=⟨fun c=>if c=b then some o else I c,I.os,I.out⟩
theorem cS.jH(I:cS)(b:Nat)(o:Obj):I.put b o b=some o:=by simp[cS.put]
theorem Sat.gK{I:cS}{F:cR}{w:World}{b:Nat}{o:Obj}(h:Sat I ((b,o)::F) w):cS.le I (I.put b o)∧Sat (I.put b o) F w:=by
 have hb:=h.own b o (List.mem_cons_self ..)
 have hI:=h.off b o (List.mem_cons_self ..)
 have hn:=h.nd
 rw[List.map_cons,List.nodup_cons] at hn
 refine⟨⟨?_,rfl,rfl⟩, ?_, ?_, ?_,hn.2,h.env⟩
 ·intro c x hc
  show (if c=b then some o else I c)=_;split
  ·rename_i e;subst e;rw[hI] at hc;cases hc
  ·exact hc
 ·intro c x hc
  have hc:(if c=b then some o else I c)=some x:=hc
  by_cases e:c=b
  ·subst e;rw[if_pos rfl] at hc;cases hc;exact hb
  ·rw[if_neg e] at hc;exact h.imm c x hc
 ·exact fun c x hc=>h.own c x (List.mem_cons_of_mem _ hc)
 ·intro c x hc
  show (if c=b then some o else I c)=_;split
  ·rename_i e;subst e;exact absurd (List.mem_map.2 ⟨_,hc,rfl⟩) hn.1
  ·exact h.off c x (List.mem_cons_of_mem _ hc)
theorem Sat.weaken{I J:cS}{F:cR}{w:World}(h:Sat J F w)(hl:cS.le I J):Sat I F w:=by
 refine⟨fun b o hb=>h.imm b o (hl.at hb),h.own,fun b o hm=>?_,h.nd,h.env.1.trans hl.2.1,h.env.2.trans hl.2.2⟩
 cases hI:I b with
 | none=>rfl
 | some x =>
   have:=h.off b o hm
   rw[hl.at hI] at this;cases this
def cV(P:Program)(f:FuncId)(args:Array Value)(I:cS)(F:cR)(Q:Ending→cS→cR→Prop):Prop :=
 ∀w,Sat I F w→Calls P f args w fun e w'=>∃I' F',cS.le I I'∧Sat I' F' w'∧Q e I' F'
theorem cV.mono{P:Program}{f:FuncId}{args:Array Value}{I:cS}{F:cR}{Q Q':Ending→cS→cR→Prop}
  (h:cV P f args I F Q) (k:∀e I' F',cS.le I I'→Q e I' F'→Q' e I' F'):cV P f args I F Q' :=
 fun w hw=>(h w hw).mono fun _ _ ⟨I',F',hl,hs,hq⟩=>⟨I',F',hl,hs,k _ _ _ hl hq⟩
def dW(P:Program)(s:Sem Value)(I:cS)(F:cR)(Q:Value→cS→cR→Prop):Prop :=
 ∀w,Sat I F w→∃v w' I' F',s.run P w=.ok v w'∧cS.le I I'∧Sat I' F' w'∧Q v I' F'
def zp(P:Program)(s:Sem Unit)(I:cS)(F:cR)(Q:cS→cR→Prop):Prop :=
 ∀w,Sat I F w→∃w' I' F',s.run P w=.ok () w'∧cS.le I I'∧Sat I' F' w'∧Q I' F'
theorem dW.mono{P:Program}{s:Sem Value}{I:cS}{F:cR}{Q Q':Value→cS→cR→Prop}
  (h:dW P s I F Q) (k:∀v I' F',cS.le I I'→Q v I' F'→Q' v I' F'):dW P s I F Q' :=
 fun w hw=>let ⟨v,w',I',F',hr,hl,hs,hq⟩:=h w hw;⟨v,w',I',F',hr,hl,hs,k _ _ _ hl hq⟩
inductive At where
 | v (x:Value)
 | p (i b off:Nat)
 | s (i b len cap:Nat)
inductive AV where
 | a (x:At)
 | f (fn:Nat) (first cap:List At)
def At.g:At→Value
 | .v x=>x
 | .p _ b off=>.pointer (some ⟨b,off,none⟩)
 | .s _ b len cap=>.slice (some ⟨b,0,none⟩) len cap
def AV.g:AV→Value
 | .a x=>x.g
 | .f fn first cap=>.func (.func fn) (first.map At.g).toArray (cap.map At.g).toArray
def AV.cells:AV→List AV
 | .a (.v x)=>x.cells.toList.map fun c=>.a (.v c)
 | x=>[x]
theorem AV.la(x:AV):x.cells.map AV.g=x.g.cells.toList:=by
 cases x with
 | a x=>cases x with
   | v x=>simp[AV.cells,AV.g,At.g,Function.comp_def]
   | p i b off=>simp[AV.cells,AV.g,At.g,Value.cells]
   | s i b len cap=>simp[AV.cells,AV.g,At.g,Value.cells]
 | f fn first cap=>simp[AV.cells,AV.g,Value.cells]
structure dr where
 num:Nat
 elem:Nat
 ro:Bool
 cells:List AV
def dr.obj(b:dr):Obj:=.cells (b.cells.map AV.g).toArray b.elem (0,0)
def da(own:List dr):cR:=own.map fun b=>(b.num,b.obj)
inductive Df where
 | mark (D:Nat)
 | fn (f:Nat) (first cap:List At) (args:List Value)
def Df.d:Df→Deferred
 | .mark D=>{ target:=.collected D,args:=#[] }
 | .fn f first cap args=>{ target:=.fn (.func f) (cap.map At.g).toArray,args:=(first.map At.g).toArray++args.toArray }
structure S where
 tm:List (Option AV)
 own:List dr
 df:List Df:=[]
def S.ev(σ:S):Operand→Option AV
 | .tmp t=>(σ.tm[t]?).join
 | .const v=>some (.a (.v v))
 | .global g=>some (.a (.v (.pointer (some ⟨g,0,none⟩))))
 | .func f=>some (.f f [] [])
def S.cv(σ:S)(x:Operand):Value :=
 match σ.ev x with
 | some av=>av.g
 | none=>undef
def S.dJ(σ:S):List Operand→Bool
 | []=>true
 | x::r=>(σ.ev x).isSome&&σ.dJ r
def S.put(σ:S)(dst:Option Nat)(av:Option AV):S :=
 match dst with
 | none=>σ
 | some d=>{ σ with tm:=σ.tm.set d av }
def At.wf(own:List dr):At→Prop
 | .v _=>True
 | .p i b _=>(own[i]?).map dr.num=some b
 | .s i b _ _=>(own[i]?).map dr.num=some b
def AV.wf(own:List dr):AV→Prop
 | .a x=>x.wf own
 | .f _ first cap=>(∀x∈first,x.wf own)∧∀x∈cap,x.wf own
structure Rel (σ:S) (I:cS) (F:cR) (a:Act) (w:World):Prop where
 size:σ.tm.length=a.tmps.size
 tm:∀(t:Nat) (av:AV),σ.tm[t]? = some (some av)→a.tmps[t]? = some av.g
 defers:a.defers=σ.df.map Df.d
 wft:∀(t:Nat) (av:AV),σ.tm[t]? = some (some av)→av.wf σ.own
 wfo:∀(i:Nat) (b:dr),σ.own[i]? = some b→∀c∈b.cells,AV.wf σ.own c
 sat:Sat I (da σ.own++F) w
structure mZ (σ:S) (a:Act):Prop where
 size:σ.tm.length=a.tmps.size
 tm:∀(t:Nat) (av:AV),σ.tm[t]? = some (some av)→a.tmps[t]? = some av.g
def xa(σ:S)(own:List dr):Prop:=∀(t:Nat) (av:AV),σ.tm[t]? = some (some av)→av.wf own
theorem Rel.t{σ:S}{I:cS}{F:cR}{a:Act}{w:World}(h:Rel σ I F a w):mZ σ a:=⟨h.size,h.tm⟩
def gi(own own':List dr):Prop:=∀(i:Nat) (b:dr),own[i]? = some b→∃b':dr,own'[i]? = some b'∧b'.num=b.num
theorem gi.refl(own:List dr):gi own own:=fun _ b h=>⟨b,h,rfl⟩
theorem At.dS{own own':List dr}(h:gi own own'){x:At}(hx:x.wf own):x.wf own':=by
 cases x with
 | v x=>trivial
 | p i b off =>
   simp only[At.wf,Option.map_eq_some_iff] at hx ⊢
   obtain⟨c,hc,e⟩:=hx
   obtain⟨c',hc',e'⟩:=h i c hc
   exact⟨c',hc',e'.trans e⟩
 | s i b n m =>
   simp only[At.wf,Option.map_eq_some_iff] at hx ⊢
   obtain⟨c,hc,e⟩:=hx
   obtain⟨c',hc',e'⟩:=h i c hc
   exact⟨c',hc',e'.trans e⟩
theorem AV.dS{own own':List dr}(h:gi own own'){x:AV}(hx:x.wf own):x.wf own':=by
 cases x with
 | a x=>exact At.dS h hx
 | f fn first cap=>exact⟨fun y hy=>At.dS h (hx.1 y hy),fun y hy=>At.dS h (hx.2 y hy)⟩
theorem gi.append(own:List dr)(b:dr):gi own (own++[b]):=fun i c h =>
 ⟨c,by rw[List.getElem?_append_left (by rcases Nat.lt_or_ge i own.length with h' | h';exact h';simp[List.getElem?_eq_none h'] at h)];exact h,rfl⟩
theorem gi.set(own:List dr)(i:Nat)(b b':dr)(h:own[i]? = some b)(e:b'.num=b.num):gi own (own.set i b'):=fun j c hj=>by
 rw[List.getElem?_set]
 by_cases hij:i=j
 ·subst hij
  rw[h] at hj;cases hj
  have hlt:i<own.length:=by
   rcases Nat.lt_or_ge i own.length with h' | h'
   ·exact h'
   ·simp[List.getElem?_eq_none h'] at h
  exact⟨b',by simp[hlt],e⟩
 ·simp only[if_neg hij];exact⟨c,hj,rfl⟩
theorem S.db{σ:S}{a:Act}(h:mZ σ a){x:Operand}{av:AV}(e:σ.ev x=some av):a.eval x=av.g:=by
 cases x with
 | tmp t =>
   simp only[S.ev] at e
   have:σ.tm[t]? = some (some av):=by
    cases h':σ.tm[t]? with
    | none=>rw[h'] at e;cases e
    | some y=>rw[h'] at e;simp only[Option.join] at e;rw[Option.bind_some] at e;simp only[id] at e;rw[e]
   have:=h.tm t av this
   simp[Act.eval,this]
 | const v=>simp only[S.ev,Option.some.injEq] at e;subst e;rfl
 | global g=>simp only[S.ev,Option.some.injEq] at e;subst e;rfl
 | func f=>simp only[S.ev,Option.some.injEq] at e;subst e;rfl
theorem S.gZ{σ:S}{own:List dr}(h:xa σ own){x:Operand}{av:AV}(e:σ.ev x=some av):av.wf own:=by
 cases x with
 | tmp t =>
   simp only[S.ev] at e
   have:σ.tm[t]? = some (some av):=by
    cases h':σ.tm[t]? with
    | none=>rw[h'] at e;cases e
    | some y=>rw[h'] at e;simp only[Option.join] at e;rw[Option.bind_some] at e;simp only[id] at e;rw[e]
   exact h t av this
 | const v=>simp only[S.ev,Option.some.injEq] at e;subst e;trivial
 | global g=>simp only[S.ev,Option.some.injEq] at e;subst e;trivial
 | func f=>simp only[S.ev,Option.some.injEq] at e;subst e;exact⟨by simp,by simp⟩
theorem S.ja{σ:S}{I:cS}{F:cR}{a:Act}{w:World}(h:Rel σ I F a w){x:Operand}{av:AV}(e:σ.ev x=some av):a.eval x=av.g:=S.db h.t e
theorem S.yn{σ:S}{I:cS}{F:cR}{a:Act}{w:World}(h:Rel σ I F a w){x:Operand}{av:AV}(e:σ.ev x=some av):av.wf σ.own:=S.gZ h.wft e
theorem S.fO{σ:S}{a:Act}(h:mZ σ a):∀{l:List Operand},σ.dJ l=true→∀x∈l,a.eval x=σ.cv x
 | [],_,x,hx=>by cases hx
 | y::l,hk,x,hx=>by
   simp only[S.dJ,Bool.and_eq_true] at hk
   rcases List.mem_cons.1 hx with rfl | hx
   ·obtain⟨av,hav⟩:=Option.isSome_iff_exists.1 hk.1
    simp only[S.cv,hav];exact S.db h hav
   ·exact S.fO h hk.2 x hx
theorem S.dt{σ:S}{I:cS}{F:cR}{a:Act}{w:World}(h:Rel σ I F a w){l:List Operand}(hk:σ.dJ l=true):∀x∈l,a.eval x=σ.cv x:=S.fO h.t hk
theorem Rel.put{σ:S}{I:cS}{F:cR}{a:Act}{w:World}(h:Rel σ I F a w)(dst:Option Nat){av:AV}{v:Value}(hg:av.g=v)(hw:av.wf σ.own) :
  Rel (σ.put dst (some av)) I F (a.put dst v) w:=by
 cases dst with
 | none=>exact h
 | some d =>
   refine⟨by simp[S.put,Act.put,h.size], ?_,h.defers, ?_,h.wfo,h.sat⟩
   ·intro t av' ht
    simp only[S.put,List.getElem?_set] at ht
    simp only[Act.put,Array.getElem?_setIfInBounds]
    by_cases hdt:d=t
    ·subst hdt
     simp only[if_true] at ht ⊢
     split at ht
     ·rename_i hlt;cases ht;rw[h.size] at hlt;simp[hlt,hg]
     ·cases ht
    ·simp only[if_neg hdt] at ht ⊢;exact h.tm t av' ht
   ·intro t av' ht
    simp only[S.put,List.getElem?_set] at ht ⊢
    by_cases hdt:d=t
    ·subst hdt
     simp only[if_true] at ht
     split at ht
     ·cases ht;exact hw
     ·cases ht
    ·simp only[if_neg hdt] at ht;exact h.wft t av' ht
theorem Rel.forget{σ:S}{I:cS}{F:cR}{a:Act}{w:World}(h:Rel σ I F a w)(dst:Option Nat)(v:Value) :
  Rel (σ.put dst none) I F (a.put dst v) w:=by
 cases dst with
 | none=>exact h
 | some d =>
   refine⟨by simp[S.put,Act.put,h.size], ?_,h.defers, ?_,h.wfo,h.sat⟩
   ·intro t av' ht
    simp only[S.put,List.getElem?_set] at ht
    simp only[Act.put,Array.getElem?_setIfInBounds]
    by_cases hdt:d=t
    ·subst hdt
     simp only[if_true] at ht
     split at ht<;>cases ht
    ·simp only[if_neg hdt] at ht ⊢;exact h.tm t av' ht
   ·intro t av' ht
    simp only[S.put,List.getElem?_set] at ht ⊢
    by_cases hdt:d=t
    ·subst hdt
     simp only[if_true] at ht
     split at ht<;>cases ht
    ·simp only[if_neg hdt] at ht;exact h.wft t av' ht
theorem Rel.heap{σ:S}{I I':cS}{F F':cR}{a:Act}{w w':World}(h:Rel σ I F a w){own':List dr}(hs:gi σ.own own')
  (ho:∀(i:Nat) (b:dr),own'[i]? = some b→∀c∈b.cells,AV.wf own' c) (hsat:Sat I' (da own'++F') w'):Rel { σ with own:=own' } I' F' a w' :=
 ⟨h.size,h.tm,h.defers,fun t av ht=>AV.dS hs (h.wft t av ht),ho,hsat⟩
def jc(P:Program){α:Type}:Sem α→Option α
 | .pure a=>some a
 | .program k=>jc P (k P)
 | .mark _ k=>jc P k
 | _=>none
theorem sn{P:Program}{α:Type}{s:Sem α}{x:α}(h:jc P s=some x)(w:World):s.run P w=.ok x w:=by
 induction s with
 | pure a=>simp only[jc,Option.some.injEq] at h;subst h;rfl
 | program k ih=>simp only[jc] at h;simp only[Sem.run];exact ih P h
 | mark m k ih=>simp only[jc] at h;simp only[Sem.run];exact ih h
 | _=>simp[jc] at h
theorem dX{ρ ρ':Operand→Value}{l:Array Operand}(h:∀x∈l.toList,ρ x=ρ' x):l.map ρ=l.map ρ' :=
 Array.map_congr_left fun x hx=>h x (by simpa using hx)
theorem eH{ρ ρ':Operand→Value}{l:Option Operand}(h:∀x∈l.toArray.toList,ρ x=ρ' x):l.map ρ=l.map ρ':=by
 cases l with
 | none=>rfl
 | some x=>simp[h x (by simp)]
theorem execOp_congr{ρ ρ':Operand→Value}(o:Oper)(hs:∀cs b,o.op ≠ .select cs b)(h:∀x∈o.op.operands.toList,ρ x=ρ' x):execOp ρ o=execOp ρ' o:=by
 have hc:∀c:Call,(∀x∈c.operands.toList,ρ x=ρ' x)→∀t,resolve ρ c t=resolve ρ' c t:=by
  intro c hc t
  have ha:c.args.map ρ=c.args.map ρ':=dX fun x hx=>hc x (by simp[Call.operands] at hx ⊢;exact .inr hx)
  unfold resolve
  rw[ha]
  cases hcal:c.callee with
  | value f=>simp[hc f (by simp[Call.operands,hcal])]
  | invoke r m=>simp[hc r (by simp[Call.operands,hcal])]
  | builtin b=>rfl
 unfold execOp
 cases hop:o.op with
 | select cs b=>exact absurd hop (hs cs b)
 | call c=>rw[hop] at h;simp only[hc c (by simpa[Op.operands] using h)]
 | go c=>rw[hop] at h;simp only[hc c (by simpa[Op.operands] using h)]
 | defer c=>rw[hop] at h;simp only[hc c (by simpa[Op.operands] using h)]
 | build t ps =>
   rw[hop] at h
   have:(ps.map fun (i,x)=>(i,ρ x))=ps.map fun (i,x)=>(i,ρ' x):=Array.map_congr_left fun x hx=>by
    show (x.1,ρ x.2)=(x.1,ρ' x.2)
    rw[h x.2 (by simp[Op.operands];exact⟨x.1,by simpa using hx⟩)]
   simp only[this]
 | buildSlice t n ps =>
   rw[hop] at h
   have:(ps.map fun (i,x)=>(i,ρ x))=ps.map fun (i,x)=>(i,ρ' x):=Array.map_congr_left fun x hx=>by
    show (x.1,ρ x.2)=(x.1,ρ' x.2)
    rw[h x.2 (by simp[Op.operands];exact⟨x.1,by simpa using hx⟩)]
   simp only[this]
 | makeFunc fn first cap =>
   rw[hop] at h
   have h1:first.map ρ=first.map ρ':=dX fun x hx=>h x (by simp[Op.operands] at hx ⊢;exact .inl hx)
   have h2:cap.map ρ=cap.map ρ':=dX fun x hx=>h x (by simp[Op.operands] at hx ⊢;exact .inr hx)
   simp only[h1,h2]
 | makeMap t r=>rw[hop] at h;simp only[eH (l:=r) (by simpa[Op.operands] using h)]
 | slice t x lo hi mx =>
   rw[hop] at h
   simp only[Op.operands] at h
   have h0:=h x (by simp)
   have h1:lo.map ρ=lo.map ρ':=eH fun x hx=>h x (by simp at hx ⊢;simp[hx])
   have h2:hi.map ρ=hi.map ρ':=eH fun x hx=>h x (by simp at hx ⊢;simp[hx])
   have h3:mx.map ρ=mx.map ρ':=eH fun x hx=>h x (by simp at hx ⊢;simp[hx])
   simp only[h0,h1,h2,h3]
 | binOp op t x y ty =>
   rw[hop] at h
   simp only[h x (by simp[Op.operands]),h y (by simp[Op.operands])]
 | _=>first | rfl | (rw[hop] at h;simp_all [Op.operands];done)
inductive Lf where
 | int (k:IntKind) | bool | str | ptr | slc | map | fn | any | ifc
def uW:Lf→(Value→Prop)→Prop
 | .int k,Q=>∃n:Int,Q (.int k n)
 | .bool,Q=>∃b:Bool,Q (.bool b)
 | .str,Q=>∃s:ByteArray,Q (.string s)
 | .ptr,Q=>∃a:Option Addr,Q (.pointer a)
 | .slc,Q=>∃(a:Option Addr) (n c:Nat),Q (.slice a n c)
 | .map,Q=>∃r:Option Nat,Q (.map r)
 | .fn,Q=>∃(f:Fn) (a b:Array Value),Q (.func f a b)
 | .any,Q=>∃v:Value,Q v
 | .ifc,Q=>∃(d:TypeId) (v:Value),Q (.iface d v)
def qN:Lf→(Value→Prop)→Prop
 | .int k,Q=>∀n:Int,Q (.int k n)
 | .bool,Q=>∀b:Bool,Q (.bool b)
 | .str,Q=>∀s:ByteArray,Q (.string s)
 | .ptr,Q=>∀a:Option Addr,Q (.pointer a)
 | .slc,Q=>∀(a:Option Addr) (n c:Nat),Q (.slice a n c)
 | .map,Q=>∀r:Option Nat,Q (.map r)
 | .fn,Q=>∀(f:Fn) (a b:Array Value),Q (.func f a b)
 | .any,Q=>∀v:Value,Q v
 | .ifc,Q=>∀(d:TypeId) (v:Value),Q (.iface d v)
def Lf.fits:Lf→Value→Bool
 | .int k,.int k' _=>k==k'
 | .bool,.bool _=>true
 | .str,.string _=>true
 | .ptr,.pointer _=>true
 | .slc,.slice _ _ _=>true
 | .map,.map _=>true
 | .fn,.func _ _ _=>true
 | .any,_=>true
 | .ifc,.iface _ _=>true
 | _,_=>false
theorem nz{l:Lf}{Q:Value→Prop}(h:uW l Q):∃v,Q v:=by
 cases l<;>simp only[uW] at h
 case slc=>obtain⟨a,n,c,h⟩:=h;exact⟨_,h⟩
 case fn=>obtain⟨a,n,c,h⟩:=h;exact⟨_,h⟩
 case ifc=>obtain⟨d,v,h⟩:=h;exact⟨_,h⟩
 all_goals (obtain⟨x,h⟩:=h;exact⟨_,h⟩)
theorem uX{l:Lf}{Q:Value→Prop}(h:qN l Q){v:Value}(hf:l.fits v=true):Q v:=by
 cases l<;>cases v<;>simp only[Lf.fits,Bool.false_eq_true,beq_iff_eq] at hf<;>simp only[qN] at h
 all_goals first | (subst hf;exact h _) | exact h _ | exact h _ _ | exact h _ _ _
def so:List Lf→(List Value→Prop)→Prop
 | [],Q=>Q []
 | l::r,Q=>uW l fun v=>so r fun vs=>Q (v::vs)
def nA:List Lf→(List Value→Prop)→Prop
 | [],Q=>Q []
 | l::r,Q=>qN l fun v=>nA r fun vs=>Q (v::vs)
def dF:List Lf→List Value→Bool
 | [],[]=>true
 | l::r,v::vs=>l.fits v&&dF r vs
 | _,_=>false
theorem iK:∀{l:List Lf} {Q:List Value→Prop},so l Q→∃vs,vs.length=l.length∧Q vs
 | [],_,h=>⟨[],rfl,h⟩
 | _::r,_,h=>by
   obtain⟨v,h⟩:=nz h
   obtain⟨vs,hl,h⟩:=iK h
   exact⟨v::vs,by simp[hl],h⟩
theorem nC:∀{l:List Lf} {Q:List Value→Prop} {vs:List Value},nA l Q→dF l vs=true→Q vs
 | [],_,[],h,_=>h
 | l::r,Q,v::vs,h,hf=>by
   simp only[dF,Bool.and_eq_true] at hf
   exact nC (Q:=fun vs=>Q (v::vs)) (uX h hf.1) hf.2
 | [],_,_::_,_,hf=>by simp[dF] at hf
 | _::_,_,[],_,hf=>by simp[dF] at hf
inductive Sh where
 | one (l:Lf)
 | agg (ls:List Lf)
def Sh.leaves:Sh→List Lf
 | .one l=>[l]
 | .agg ls=>ls
def xp:Sh→(Value→Prop)→Prop
 | .one l,Q=>uW l Q
 | .agg ls,Q=>so ls fun vs=>Q (.agg vs.toArray)
def tz:List Sh→(List Value→Prop)→Prop
 | [],Q=>Q []
 | s::r,Q=>xp s fun v=>tz r fun vs=>Q (v::vs)
def pk:List Sh→(Value→Prop)→Prop
 | [s],Q=>xp s Q
 | l,Q=>tz l fun vs=>Q (.tuple vs.toArray)
theorem qO{s:Sh}{Q:Value→Prop}(h:xp s Q):∃v,Q v:=by
 cases s with
 | one l=>exact nz h
 | agg ls=>obtain⟨vs,_,h⟩:=iK h;exact⟨_,h⟩
theorem po:∀{l:List Sh} {Q:List Value→Prop},tz l Q→∃vs,Q vs
 | [],_,h=>⟨[],h⟩
 | _::r,_,h=>by
   obtain⟨v,h⟩:=qO h
   obtain⟨vs,h⟩:=po h
   exact⟨v::vs,h⟩
theorem lV:∀{l:List Sh} {Q:Value→Prop},pk l Q→∃v,Q v
 | [],_,h=>⟨_,h⟩
 | [_],_,h=>qO h
 | a::b::c,Q,h=>by
   have h':tz (a::b::c) (fun vs=>Q (.tuple vs.toArray)):=h
   obtain⟨vs,h'⟩:=po h'
   exact⟨_,h'⟩
def Rd(I:cS)(G:cR)(ad:Addr)(cs:List Value):Prop :=
 ad.spot=none∧∃(cells:Array Value) (e:Nat) (fz:Nat×Nat),(I ad.block=some (.cells cells e fz)∨(ad.block,Obj.cells cells e fz)∈G) ∧
  ∀j,j<cs.length→cells[ad.off+j]? = cs[j]?
def Reads(I:cS)(G:cR)(w:World):Prop:=∀(ad:Addr) (cs:List Value),Rd I G ad cs→∀j,j<cs.length→w.cell? (ad.add j)=cs[j]?
theorem Rd.cell{I:cS}{G:cR}{ad:Addr}{cs:List Value}(h:Rd I G ad cs){w:World}(hs:Sat I G w)(j:Nat)(hj:j<cs.length):w.cell? (ad.add j)=cs[j]?:=by
 obtain⟨hsp,cells,e,fz,ho,hc⟩:=h
 have hb:w.heap[ad.block]? = some (.cells cells e fz):=ho.elim (hs.imm _ _) (hs.own _ _)
 unfold World.cell? Addr.add
 by_cases h0:j=0
 ·subst h0;simp[hb,hsp];have:=hc 0 hj;simpa using this
 ·simp[h0,hb];exact hc j hj
theorem Sat.reads{I:cS}{G:cR}{w:World}(h:Sat I G w):Reads I G w:=fun _ _ hr j hj=>hr.cell h j hj
theorem kj{P:Program}{w:World}{ad:Addr}:∀(n i:Nat) (cs:List Value) (acc:Array Value),cs.length=n→(∀j,j<n→w.cell? (ad.add (i+j))=cs[j]?) →
  (loadCellsFrom ad i n acc).run P w=.ok (acc++cs.toArray) w
 | 0,i,cs,acc,hl,_=>by
   have:cs=[]:=List.length_eq_zero_iff.1 hl
   subst this;simp[loadCellsFrom]
 | n+1,i,c::cs,acc,hl,h=>by
   have h0:=h 0 (by omega)
   simp only[loadCellsFrom,load,Sem.run_bind,Sem.run]
   simp only[Nat.add_zero,List.getElem?_cons_zero] at h0
   rw[h0]
   simp only[Result.andThen_ok]
   rw[kj n (i+1) cs (acc.push c) (by simpa using hl) (fun j hj=>by
    have:=h (j+1) (by omega)
    rw[show i+(j+1)=i+1+j by omega] at this
    simpa using this)]
   simp
 | n+1,i,[],acc,hl,h=>by simp at hl
def o4(P:Program)(t:TypeId):Option Bool :=
 match P.underlying t with
 | some (.struct _)=>some true
 | some (.array _ _)=>some true
 | some _=>some false
 | none=>none
theorem pq{P:Program}{t:TypeId}{b:Bool}(h:o4 P t=some b)(w:World):(isAgg t).run P w=.ok b w:=by
 unfold o4 at h
 cases hu:P.underlying t with
 | none=>rw[hu] at h;cases h
 | some d =>
   rw[hu] at h
   have:(underlying t).run P w=.ok d w:=by simp[underlying,program,Sem.run,hu,Sem.run_bind]
   simp only[isAgg,Sem.run_bind,this,Result.andThen_ok]
   cases d<;>simp_all
def pt(P:Program)(t:TypeId):Option Nat:=(P.info? t).map TypeInfo.size
theorem eI{P:Program}{t:TypeId}{n:Nat}(h:pt P t=some n)(w:World):(Go.sizeOf t).run P w=.ok n w:=by
 unfold pt at h
 cases hi:P.info? t with
 | none=>rw[hi] at h;cases h
 | some i =>
   rw[hi] at h;simp only[Option.map_some,Option.some.injEq] at h
   simp[Go.sizeOf,typeInfo,program,Sem.run,hi,Sem.run_bind,h]
theorem mD{P:Program}{t:TypeId}(h:o4 P t=some false){w:World}{ad:Addr}{v:Value}(hc:w.cell? ad=some v):(loadVar t ad).run P w=.ok v w:=by
 simp[loadVar,Sem.run_bind,pq h,load,Sem.run,hc]
theorem mF{P:Program}{t:TypeId}{n:Nat}(h:o4 P t=some true)(hn:pt P t=some n){w:World}{ad:Addr}{cs:List Value}(hl:cs.length=n)
  (hc:∀j,j<n→w.cell? (ad.add j)=cs[j]?):(loadVar t ad).run P w=.ok (.agg cs.toArray) w:=by
 have:=kj (P:=P) n 0 cs #[] hl (fun j hj=>by simpa using hc j hj)
 simp[loadVar,Sem.run_bind,pq h,eI hn,loadCells,this]
theorem Addr.add_zero(a:Addr):a.add 0=a:=rfl
def uY(P:Program)(sh:Sh)(t:TypeId)(ad:Addr)(I:cS)(G:cR)(K:Value→Prop):Prop :=
 match sh with
 | .one l=>cond (o4 P t==some false) (uW l fun v=>Rd I G ad [v]∧K v) False
 | .agg ls=>cond (o4 P t==some true&&pt P t==some ls.length) (so ls fun vs=>Rd I G ad vs∧K (.agg vs.toArray)) False
theorem ui{P:Program}{sh:Sh}{t:TypeId}{ad:Addr}{I:cS}{G:cR}{K:Value→Prop}(h:uY P sh t ad I G K) :
  ∃v,K v∧∀w,Reads I G w→(loadVar t ad).run P w=.ok v w:=by
 unfold uY at h
 cases sh with
 | one l =>
   simp only at h
   cases hb:(o4 P t==some false) with
   | false=>rw[hb] at h;exact h.elim
   | true =>
     rw[hb] at h
     obtain⟨v,hr,hk⟩:=nz h
     exact⟨v,hk,fun w hw=>mD (by simpa using hb) (by have:=hw _ _ hr 0 (by simp);simpa[Addr.add_zero] using this)⟩
 | agg ls =>
   simp only at h
   cases hb:(o4 P t==some true&&pt P t==some ls.length) with
   | false=>rw[hb] at h;exact h.elim
   | true =>
     rw[hb] at h
     obtain⟨vs,hl,hr,hk⟩:=iK h
     simp only[Bool.and_eq_true,beq_iff_eq] at hb
     exact⟨_,hk,fun w hw=>mF hb.1 hb.2 hl (fun j hj=>hw _ _ hr j (by omega))⟩
def bt(s:ByteArray)(n:Int):Int:=(((s[n.toNat]?).getD 0).toNat:Int)
def Out(P:Program)(o:Oper)(σ:S)(K:AV→Prop):Prop :=
 ∃av,K av∧(∀own,xa σ own→av.wf own)∧∀a w,mZ σ a→(execOp a.eval o).run P w=.ok (.value av.g) w
def pZ(P:Program)(o:Oper)(σ:S)(K:AV→Prop):Prop :=
 match o.op with
 | .select .. => False
 | _ =>
   cond (σ.dJ o.op.operands.toList)
    (match jc P (execOp σ.cv o) with
      | some (.value v)=>K (.a (.v v))
      | _=>False) False
theorem iL{P:Program}{o:Oper}{σ:S}{K:AV→Prop}(h:pZ P o σ K) :
  Out P o σ K:=by
 have hs:∀cs b,o.op ≠ .select cs b:=fun cs b e=>by unfold pZ at h;rw[e] at h;exact h
 have h':cond (σ.dJ o.op.operands.toList) (match jc P (execOp σ.cv o) with | some (.value v)=>K (.a (.v v)) | _=>False) False:=by
  unfold pZ at h
  cases hop:o.op<;>simp only[hop] at h ⊢<;>exact h
 cases hk:σ.dJ o.op.operands.toList with
 | false=>rw[hk] at h';exact h'.elim
 | true =>
   rw[hk] at h'
   simp only[cond_true] at h'
   split at h'
   ·rename_i v hp
    refine⟨_,h',fun _ _=>trivial,fun a w hr=>?_⟩
    rw[execOp_congr o hs (S.fO hr hk)]
    exact sn hp w
   ·exact h'.elim
theorem dq{P:Program}{t:TypeId}{d:TypeDesc}(h:P.underlying t=some d)(w:World):(underlying t).run P w=.ok d w:=by
 simp[underlying,program,Sem.run,h,Sem.run_bind]
def sr(P:Program)(o:Oper)(t:TypeId)(x i:Operand)(σ:S)(K:AV→Prop):Prop :=
 match P.underlying t with
 | some .string =>
   match σ.ev x,σ.ev i with
   | some (.a (.v (.string s))),some (.a (.v (.int _ n)))=>(0≤n∧n<s.size)∧K (.a (.v (.int .u8 (bt s n))))
   | _,_=>False
 | _=>pZ P o σ K
theorem su{P:Program}{o:Oper}{t:TypeId}{x i:Operand}(ho:o.op=.index t x i){σ:S}{K:AV→Prop}(h:sr P o t x i σ K) :
  Out P o σ K:=by
 unfold sr at h
 split at h
 ·rename_i hu
  split at h
  ·rename_i s k n hx hi
   obtain⟨⟨h0,h1⟩,hk⟩:=h
   refine⟨_,hk,fun _ _=>trivial,fun a w hr=>?_⟩
   have ex:=S.db hr hx
   have ei:=S.db hr hi
   have hn:n.toNat<s.size:=by omega
   simp only[AV.g,At.g] at ex ei
   simp only[execOp,ho,ex,ei,Instr.index,asIntOf,Sem.run_bind,dq hu,Result.andThen_ok,Sem.run_pure,if_pos h0,AV.g,At.g,bt]
   have:s[n.toNat]? = some s[n.toNat]:=by simp[hn]
   simp[this]
  ·exact h.elim
 ·exact iL h
def uU(σ:S)(d:Int):Option Operand→Option Int
 | none=>some d
 | some x=>match σ.ev x with
   | some (.a (.v (.int _ n)))=>some n
   | _=>none
def sv(P:Program)(o:Oper)(t:TypeId)(x:Operand)(lo hi:Option Operand)(σ:S)(K:AV→Prop):Prop :=
 match P.underlying t with
 | some .string =>
   match σ.ev x with
   | some (.a (.v (.string s))) =>
     match uU σ 0 lo,uU σ s.size hi with
     | some l,some h=>(0≤l∧l≤h∧h≤s.size)∧K (.a (.v (.string (s.extract l.toNat h.toNat))))
     | _,_=>False
   | _=>False
 | some (.slice e) =>
   match σ.ev x,pt P e with
   | some (.a (.v (.slice a n c))),some z =>
     match uU σ 0 lo,uU σ n hi with
     | some l,some h=>(0≤l∧l≤h∧h≤c) ∧
        K (.a (.v (.slice (if c=l.toNat then a else a.map (·.add (l.toNat*z))) (h.toNat-l.toNat) (c-l.toNat))))
     | _,_=>False
   | _,_=>False
 | _=>pZ P o σ K
theorem p4{P:Program}{σ:S}{a:Act}{w:World}(hr:mZ σ a){x:Operand}{d n:Int}(h:uU σ d (some x)=some n)(y:Nat)(c:BoundsCode)(hn:0≤n∧n≤y) :
  (Instr.sliceBound (a.eval x) y c).run P w=.ok n.toNat w:=by
 unfold uU at h
 split at h
 ·rename_i e;cases e
 ·rename_i x' e
  cases e
  split at h
  ·rename_i k m hx
   cases h
   have ex:=S.db hr hx
   simp only[AV.g,At.g] at ex
   simp[Instr.sliceBound,ex,asIntOf,hn]
  ·cases h
theorem jB{P:Program}{σ:S}{a:Act}{w:World}(hr:mZ σ a){lo hi:Option Operand}{l h:Int}{isS:Bool}{n c:Nat}
  (hl:uU σ 0 lo=some l) (hh:uU σ n hi=some h) (hb:0≤l∧l≤h∧h≤c) :
  (Instr.sliceBounds isS n c (lo.map a.eval) (hi.map a.eval) none).run P w=.ok (l.toNat,h.toNat,c) w:=by
 have hn0:∀k:Nat,(hh:uU σ k none=some h)→h.toNat=k:=fun k hh=>by simp only[uU,Option.some.injEq] at hh;omega
 have hl0:(hl:uU σ 0 none=some l)→l.toNat=0:=fun hl=>by simp only[uU,Option.some.injEq] at hl;omega
 cases hi with
 | none =>
   have:=hn0 n hh
   cases lo with
   | none=>have h2:=hl0 hl;simp[Instr.sliceBounds,h2,this]
   | some x =>
     have h1:=p4 (P:=P) (w:=w) hr hl h.toNat .sliceB (by omega)
     rw[this] at h1
     simp[Instr.sliceBounds,h1,this]
 | some y =>
   have h3:=p4 (P:=P) (w:=w) hr hh c (if isS=true then .sliceAcap else .sliceAlen) (by omega)
   cases lo with
   | none=>have h2:=hl0 hl;simp[Instr.sliceBounds,h2,h3]
   | some x =>
     have h1:=p4 (P:=P) (w:=w) hr hl h.toNat .sliceB (by omega)
     simp[Instr.sliceBounds,h1,h3]
theorem sw{P:Program}{o:Oper}{t:TypeId}{x:Operand}{lo hi:Option Operand}(ho:o.op=.slice t x lo hi none){σ:S}{K:AV→Prop}(h:sv P o t x lo hi σ K) :
  Out P o σ K:=by
 unfold sv at h
 split at h
 ·rename_i hu
  split at h
  ·rename_i s hx
   split at h
   ·rename_i l u hl hh
    obtain⟨hb,hk⟩:=h
    refine⟨_,hk,fun _ _=>trivial,fun a w hr=>?_⟩
    have ex:=S.db hr hx
    simp only[AV.g,At.g] at ex
    simp only[execOp,ho,ex,Instr.sliceAt,Instr.slice,Sem.run_bind,dq hu,Result.andThen_ok,Option.map_none,Option.isSome_none,Bool.false_eq_true,if_false,Sem.run_pure]
    rw[jB hr hl hh (by omega)]
    simp[AV.g,At.g]
   ·exact h.elim
  ·exact h.elim
 ·rename_i e hu
  split at h
  ·rename_i ad n c z hx hz
   split at h
   ·rename_i l u hl hh
    obtain⟨hb,hk⟩:=h
    refine⟨_,hk,fun _ _=>trivial,fun a w hr=>?_⟩
    have ex:=S.db hr hx
    simp only[AV.g,At.g] at ex
    simp only[execOp,ho,ex,Instr.sliceAt,Instr.slice,Sem.run_bind,dq hu,Result.andThen_ok,Option.map_none,Sem.run_pure]
    rw[jB hr hl hh (by omega)]
    simp[AV.g,At.g,eI hz]
   ·exact h.elim
  ·exact h.elim
 ·exact iL h
def ky(P:Program)(o:Oper)(t:TypeId)(x i:Operand)(σ:S)(K:AV→Prop):Prop :=
 match P.underlying t with
 | some (.slice e) =>
   match σ.ev x,σ.ev i,pt P e with
   | some (.a (.v (.slice oa len _))),some (.a (.v (.int _ n))),some z =>
     (0≤n∧n<len)∧∃ad,oa=some ad∧K (.a (.v (.pointer (some (ad.add (n.toNat*z))))))
   | some (.a (.s j b len _)),some (.a (.v (.int _ n))),some z=>(0≤n∧n<len)∧K (.a (.p j b (n.toNat*z)))
   | _,_,_=>False
 | some (.array len e) =>
   match σ.ev x,σ.ev i,pt P e with
   | some (.a (.v (.pointer (some ad)))),some (.a (.v (.int _ n))),some z=>(0≤n∧n<len)∧K (.a (.v (.pointer (some (ad.add (n.toNat*z))))))
   | _,_,_=>False
 | _=>pZ P o σ K
theorem nD{P:Program}{o:Oper}{t:TypeId}{x i:Operand}(ho:o.op=.indexAddr t x i){σ:S}{K:AV→Prop}(h:ky P o t x i σ K) :
  Out P o σ K:=by
 unfold ky at h
 split at h
 ·rename_i e hu
  split at h
  ·rename_i oa len c k n z hx hi hz
   obtain⟨hb,ad,rfl,hk⟩:=h
   refine⟨_,hk,fun _ _=>trivial,fun a w hr=>?_⟩
   have ex:=S.db hr hx
   have ei:=S.db hr hi
   simp only[AV.g,At.g] at ex ei
   simp[execOp,ho,ex,ei,Instr.indexAt,asIntOf,Sem.run_bind,dq hu,hb,eI hz,AV.g,At.g]
  ·rename_i j b len c k n z hx hi hz
   obtain⟨hb,hk⟩:=h
   refine⟨_,hk,fun own hw=>S.gZ (av:=.a (.s j b len c)) hw hx,fun a w hr=>?_⟩
   have ex:=S.db hr hx
   have ei:=S.db hr hi
   simp only[AV.g,At.g] at ex ei
   have:(⟨b,0,none⟩:Addr).add (n.toNat*z)=⟨b,n.toNat*z,none⟩:=by unfold Addr.add;split<;>simp_all
   simp[execOp,ho,ex,ei,Instr.indexAt,asIntOf,Sem.run_bind,dq hu,hb,eI hz,AV.g,At.g,this]
  ·exact h.elim
 ·rename_i len e hu
  split at h
  ·rename_i ad k n z hx hi hz
   obtain⟨hb,hk⟩:=h
   refine⟨_,hk,fun _ _=>trivial,fun a w hr=>?_⟩
   have ex:=S.db hr hx
   have ei:=S.db hr hi
   simp only[AV.g,At.g] at ex ei
   simp[execOp,ho,ex,ei,Instr.indexAt,Instr.sureAddr,asIntOf,Sem.run_bind,dq hu,hb,eI hz,AV.g,At.g]
  ·exact h.elim
 ·exact iL h
def nE(P:Program)(t:TypeId)(f:Nat):Option Nat :=
 match P.underlying t with
 | some (.struct fields) =>
   match fields[f]? with
   | some fd=>match pt P fd.type with
     | some 0=>none
     | some _=>some fd.offset
     | none=>none
   | none=>none
 | _=>none
def kz(P:Program)(t:TypeId)(x:Operand)(f:Nat)(σ:S)(K:AV→Prop):Prop :=
 match nE P t f with
 | some off =>
   match σ.ev x with
   | some (.a (.p i b k))=>K (.a (.p i b (k+off)))
   | some (.a (.v (.pointer (some ad))))=>K (.a (.v (.pointer (some (ad.add off)))))
   | _=>False
 | none=>False
theorem mG{P:Program}{t:TypeId}{f off:Nat}(h:nE P t f=some off)(ad:Addr)(w:World) :
  (Instr.fieldAt t (.pointer (some ad)) f).run P w=.ok (.pointer (some (ad.add off))) w:=by
 unfold nE at h
 split at h
 ·rename_i fields hu
  split at h
  ·rename_i fd hf
   split at h
   ·cases h
   ·rename_i z hz0 hz
    cases h
    simp[Instr.fieldAt,Sem.run_bind,dq hu,hf,Instr.sureAddr,fieldPlace,eI hz]
    exact fun e=>absurd e hz0
   ·cases h
  ·cases h
 ·cases h
theorem nF{P:Program}{o:Oper}{t:TypeId}{x:Operand}{f:Nat}(ho:o.op=.fieldAddr t x f){σ:S}{K:AV→Prop}(h:kz P t x f σ K) :
  Out P o σ K:=by
 unfold kz at h
 split at h
 ·rename_i off hf
  split at h
  ·rename_i i b k hx
   refine⟨_,h,fun own hw=>S.gZ (av:=.a (.p i b k)) hw hx,fun a w hr=>?_⟩
   have ex:=S.db hr hx
   simp only[AV.g,At.g] at ex
   have:(⟨b,k,none⟩:Addr).add off=⟨b,k+off,none⟩:=by unfold Addr.add;split<;>simp_all
   simp[execOp,ho,ex,Sem.run_bind,mG hf,AV.g,At.g,this]
  ·rename_i ad hx
   refine⟨_,h,fun _ _=>trivial,fun a w hr=>?_⟩
   have ex:=S.db hr hx
   simp only[AV.g,At.g] at ex
   simp[execOp,ho,ex,Sem.run_bind,mG hf,AV.g,At.g]
  ·exact h.elim
 ·exact h.elim
def c9{α:Type}:Nat→List α→List α→List α
 | _,_,[]=>[]
 | n+1,vs,c::cs=>c::c9 n vs cs
 | 0,[],c::cs=>c::cs
 | 0,v::vs,_::cs=>v::c9 0 vs cs
theorem kB{α β:Type}(f:α→β):∀(n:Nat) (vs cs:List α),(c9 n vs cs).map f=c9 n (vs.map f) (cs.map f)
 | _,_,[]=>by simp[c9]
 | n+1,vs,c::cs=>by simp[c9,kB f n vs cs]
 | 0,[],c::cs=>by simp[c9]
 | 0,v::vs,c::cs=>by simp[c9,kB f 0 vs cs]
theorem nG{α:Type}:∀(n:Nat) (cs:List α),c9 n [] cs=cs
 | _,[]=>by simp[c9]
 | n+1,c::cs=>by simp[c9,nG n cs]
 | 0,c::cs=>by simp[c9]
theorem nH{α:Type}:∀(n:Nat) (v:α) (vs cs:List α),n<cs.length→c9 n (v::vs) cs=c9 (n+1) vs (cs.set n v)
 | n,v,vs,[],h=>by simp at h
 | n+1,v,vs,c::cs,h=>by simp only[c9,List.set_cons_succ];rw[nH n v vs cs (by simpa using h)]
 | 0,v,vs,c::cs,h=>by simp[c9]
theorem kC{α:Type}{x:α}:∀(n:Nat) (vs cs:List α),x∈c9 n vs cs→x∈vs∨x∈cs
 | _,_,[],h=>by simp[c9] at h
 | n+1,vs,c::cs,h=>by
   simp only[c9,List.mem_cons] at h
   rcases h with h | h
   ·exact .inr (by simp[h])
   ·rcases kC n vs cs h with h | h
    ·exact .inl h
    ·exact .inr (by simp[h])
 | 0,[],c::cs,h=>by simp only[c9] at h;exact .inr h
 | 0,v::vs,c::cs,h=>by
   simp only[c9,List.mem_cons] at h
   rcases h with h | h
   ·exact .inl (by simp[h])
   ·rcases kC 0 vs cs h with h | h
    ·exact .inl (by simp[h])
    ·exact .inr (by simp[h])
theorem Sat.get{I:cS}{own:List dr}{F:cR}{w:World}(h:Sat I (da own++F) w){i:Nat}{b:dr}(hi:own[i]? = some b):w.heap[b.num]? = some b.obj :=
 h.own _ _ (List.mem_append_left _ (List.mem_map.2 ⟨b,List.mem_of_getElem? hi,rfl⟩))
theorem lb{w:World}{b:Nat}{cs:List Value}{e:Nat}(h:w.heap[b]? = some (.cells cs.toArray e (0,0)))(n:Nat)(v:Value) :
  (w.setCell ⟨b,n,none⟩ v).heap=w.heap.setIfInBounds b (.cells (cs.set n v).toArray e (0,0)):=by
 apply Array.ext_getElem?
 intro j
 simp only[World.setCell,Array.getElem?_modify,Array.getElem?_setIfInBounds]
 have hlt:b<w.heap.size:=by
  rcases Nat.lt_or_ge b w.heap.size with h' | h'
  ·exact h'
  ·simp[Array.getElem?_eq_none h'] at h
 by_cases hb:b=j
 ·subst hb
  obtain⟨_,hg⟩:=Array.getElem?_eq_some_iff.1 h
  simp[hlt,hg]
 ·simp[hb]
def o5:Value→Bool
 | .agg _=>false
 | .tuple _=>false
 | _=>true
theorem g8{P:Program}{b e:Nat}:∀(vs:List Value) (i off:Nat) (cs:List Value) (w:World),w.heap[b]? = some (.cells cs.toArray e (0,0)) →
  off+i+vs.length≤cs.length→(∀v∈vs,o5 v=true) →
  ∃w',(storeCells ⟨b,off,none⟩ vs i).run P w=.ok () w'∧w'.heap=w.heap.setIfInBounds b (.cells (c9 (off+i) vs cs).toArray e (0,0))∧pY w' w
 | [],i,off,cs,w,h,_,_=>by
   refine⟨w,rfl, ?_,rfl,rfl⟩
   rw[nG]
   apply Array.ext_getElem?
   intro j
   rw[Array.getElem?_setIfInBounds]
   by_cases hb:b=j
   ·subst hb
    have hlt:b<w.heap.size:=by
     rcases Nat.lt_or_ge b w.heap.size with h' | h'
     ·exact h'
     ·simp[Array.getElem?_eq_none h'] at h
    obtain⟨_,hg⟩:=Array.getElem?_eq_some_iff.1 h
    simp[hlt,hg]
   ·simp[hb]
 | v::vs,i,off,cs,w,h,hl,hv=>by
   have hone:=hv v (by simp)
   have ha:(⟨b,off,none⟩:Addr).add i=⟨b,off+i,none⟩:=by unfold Addr.add;split<;>simp_all
   have hoi:off+i<cs.length:=by simp at hl;omega
   have hc:w.cell? ⟨b,off+i,none⟩=some cs[off+i]:=by
    unfold World.cell?
    simp[h,hoi]
   have hf:w.frozen? ⟨b,off+i,none⟩=false:=by unfold World.frozen?;simp[h]
   have hst:∀k:Sem Unit,(Sem.store .plain ⟨b,off+i,none⟩ v k).run P w=k.run P (w.setCell ⟨b,off+i,none⟩ v):=by
    intro k
    cases v<;>simp only[o5,Bool.false_eq_true] at hone<;>simp[Sem.run,hc,hf]
   have hlen:off+i+1+vs.length≤cs.length:=by simp at hl;omega
   have hs:=lb h (off+i) v
   have hlt:b<w.heap.size:=by
    rcases Nat.lt_or_ge b w.heap.size with h' | h'
    ·exact h'
    ·simp[Array.getElem?_eq_none h'] at h
   obtain⟨w',hr,hh,he⟩:=g8 (P:=P) (b:=b) (e:=e) vs (i+1) off (cs.set (off+i) v) (w.setCell ⟨b,off+i,none⟩ v)
    (by rw[hs];simp[hlt]) (by simp;omega) (fun x hx=>hv x (by simp[hx]))
   refine⟨w', ?_, ?_,he.1,he.2⟩
   ·simp only[storeCells,ha,store]
    show ((Sem.store .plain ⟨b,off+i,none⟩ v (.pure ())) >>= fun _=>storeCells ⟨b,off,none⟩ vs (i+1)).run P w=_
    rw[Sem.run_bind,hst]
    simp only[Sem.run,Result.andThen_ok]
    exact hr
   ·rw[hh,hs,nH _ _ _ _ (by omega)]
    apply Array.ext_getElem?
    intro j
    simp only[Array.getElem?_setIfInBounds,Array.size_setIfInBounds]
    by_cases hb:b=j
    ·subst hb;simp[hlt,Nat.add_assoc]
    ·simp[hb]
def jI(P:Program)(t:TypeId)(own:List dr)(i off:Nat)(K:AV→Prop):Prop :=
 match own[i]? with
 | none=>False
 | some blk =>
   match o4 P t with
   | none=>False
   | some false =>
     match blk.cells[off]? with
     | some av=>K av
     | none=>False
   | some true =>
     match pt P t with
     | none=>False
     | some n=>cond (((blk.cells.drop off).take n).length==n) (K (.a (.v (.agg (((blk.cells.drop off).take n).map AV.g).toArray)))) False
theorem g9{w:World}{b:dr}(h:w.heap[b.num]? = some b.obj)(j:Nat):w.cell? ⟨b.num,j,none⟩=(b.cells[j]?).map AV.g:=by
 simp[World.cell?,h,dr.obj]
theorem ld{P:Program}{t:TypeId}{own:List dr}{i off:Nat}{K:AV→Prop}(h:jI P t own i off K) :
  ∃av,K av∧(∀own',(∀blk:dr,own[i]? = some blk→∀c∈blk.cells,AV.wf own' c)→av.wf own') ∧
   ∀(b:Nat),At.wf own (.p i b off)→∀w:World,(∀blk:dr,own[i]? = some blk→w.heap[blk.num]? = some blk.obj)→(loadVar t ⟨b,off,none⟩).run P w=.ok av.g w:=by
 unfold jI at h
 cases hi:own[i]? with
 | none=>rw[hi] at h;exact h.elim
 | some blk =>
   rw[hi] at h
   have hnum:∀b,At.wf own (.p i b off)→blk.num=b:=fun b hw=>by
    simp only[At.wf,hi,Option.map_some,Option.some.injEq] at hw;exact hw
   simp only at h
   split at h
   ·exact h.elim
   ·rename_i ha
    split at h
    ·rename_i av hc
     refine⟨av,h,fun own' hc'=>hc' blk rfl _ (List.mem_of_getElem? hc),fun b hw w hs=>?_⟩
     rw[←hnum b hw]
     exact mD ha (by rw[g9 (hs _ rfl),hc];rfl)
    ·exact h.elim
   ·rename_i ha
    split at h
    ·exact h.elim
    ·rename_i n hn
     cases hl:(((blk.cells.drop off).take n).length==n) with
     | false=>rw[hl] at h;exact h.elim
     | true =>
       rw[hl] at h
       refine⟨_,h,fun _ _=>trivial,fun b hw w hs=>?_⟩
       rw[←hnum b hw]
       refine mF ha hn (by simpa using hl) (fun j hj=>?_)
       have:(⟨blk.num,off,none⟩:Addr).add j=⟨blk.num,off+j,none⟩:=by unfold Addr.add;split<;>simp_all
       rw[this,g9 (hs _ rfl)]
       simp[List.getElem?_take,hj,List.getElem?_drop]
def S.wc(σ:S):List Operand→Option (List At)
 | []=>some []
 | x::r=>match σ.ev x,σ.wc r with
   | some (.a y),some l=>some (y::l)
   | _,_=>none
theorem S.nI{σ:S}{a:Act}(h:mZ σ a):∀{l:List Operand} {ys:List At},σ.wc l=some ys →
  l.map a.eval=ys.map At.g
 | [],ys,e=>by simp only[S.wc,Option.some.injEq] at e;subst e;simp
 | x::r,ys,e=>by
   simp only[S.wc] at e
   split at e
   ·rename_i y l hx hr
    cases e
    simp[S.db h hx,S.nI h hr,AV.g]
   ·cases e
theorem S.sx{σ:S}{own:List dr}(h:xa σ own):∀{l:List Operand} {ys:List At},σ.wc l=some ys→∀y∈ys,y.wf own
 | [],ys,e,y,hy=>by simp only[S.wc,Option.some.injEq] at e;subst e;cases hy
 | x::r,ys,e,z,hz=>by
   simp only[S.wc] at e
   split at e
   ·rename_i y l hx hr
    cases e
    rcases List.mem_cons.1 hz with rfl | hz
    ·exact S.gZ h hx
    ·exact S.sx h hr z hz
   ·cases e
def eJ(P:Program)(op:BinOp)(t:TypeId)(x y:Operand)(v u:Value)(r:Bool):Prop :=
 ∀w,(do eqGuard op t x y v u;binOp op t v u:Sem Value).run P w=.ok (.bool r) w
theorem pw{b:Bool}{X:Prop}(h:cond b X False):b=true∧X:=by
 cases b with
 | true=>exact⟨rfl,h⟩
 | false=>exact h.elim
def xq:BinOp→Bool
 | .eql=>true
 | .neq=>true
 | _=>false
def xr(P:Program)(o:Oper)(op:BinOp)(t:TypeId)(x y:Operand)(σ:S)(K:AV→Prop):Prop :=
 match op,y,σ.ev x,σ.ev y with
 | .add,_,some (.a (.v (.string s))),some (.a (.v (.string u)))=>((s.size+u.size:Nat):Int)≤IntKind.i64.max∧K (.a (.v (.string (s++u))))
 | .quo,.tmp _,some (.a (.v (.int k a))),some (.a (.v (.int k' b)))=>cond (k==k') (b≠0∧K (.a (.v (.int k (k.wrap (a.tdiv b)))))) False
 | .rem,.tmp _,some (.a (.v (.int k a))),some (.a (.v (.int k' b)))=>cond (k==k') (b≠0∧K (.a (.v (.int k (a.tmod b))))) False
 | .shl,.tmp _,some (.a (.v (.int k a))),some (.a (.v (.int _ b)))=>0≤b∧K (.a (.v (.int k (k.wrap (a*2 ^ (min b.toNat k.bits))))))
 | .shr,.tmp _,some (.a (.v (.int k a))),some (.a (.v (.int _ b)))=>0≤b∧K (.a (.v (.int k (a.fdiv (2 ^ (min b.toNat k.bits))))))
 | _,_,_,_ =>
 match xq op,P.underlying t with
 | true,some (.struct _)=>cond (σ.dJ [x,y]) (∃b:Bool,eJ P op t x y (σ.cv x) (σ.cv y) b∧K (.a (.v (.bool b)))) False
 | true,some (.array _ _)=>cond (σ.dJ [x,y]) (∃b:Bool,eJ P op t x y (σ.cv x) (σ.cv y) b∧K (.a (.v (.bool b)))) False
 | true,some (.interface _)=>cond (σ.dJ [x,y]) (∃b:Bool,eJ P op t x y (σ.cv x) (σ.cv y) b∧K (.a (.v (.bool b)))) False
 | true,some (.pointer _)=>cond (σ.dJ [x,y]) (∃b:Bool,eJ P op t x y (σ.cv x) (σ.cv y) b∧K (.a (.v (.bool b)))) False
 | true,some (.slice _)=>cond (σ.dJ [x,y]) (∃b:Bool,eJ P op t x y (σ.cv x) (σ.cv y) b∧K (.a (.v (.bool b)))) False
 | true,some (.map _ _)=>cond (σ.dJ [x,y]) (∃b:Bool,eJ P op t x y (σ.cv x) (σ.cv y) b∧K (.a (.v (.bool b)))) False
 | true,some (.func _ _ _)=>cond (σ.dJ [x,y]) (∃b:Bool,eJ P op t x y (σ.cv x) (σ.cv y) b∧K (.a (.v (.bool b)))) False
 | _,_=>pZ P o σ K
theorem uZ{P:Program}{o:Oper}{op:BinOp}{t ty:TypeId}{x y:Operand}(ho:o.op=.binOp op t x y ty){σ:S}{K:AV→Prop}(h:xr P o op t x y σ K) :
  Out P o σ K:=by
 have key:cond (σ.dJ [x,y]) (∃b:Bool,eJ P op t x y (σ.cv x) (σ.cv y) b∧K (.a (.v (.bool b)))) False →
   Out P o σ K:=by
  intro h
  cases hk:σ.dJ [x,y] with
  | false=>rw[hk] at h;exact h.elim
  | true =>
    rw[hk] at h
    obtain⟨b,hb,hK⟩:=h
    refine⟨_,hK,fun _ _=>trivial,fun a w hr=>?_⟩
    have e1:=S.fO hr hk x (by simp)
    have e2:=S.fO hr hk y (by simp)
    have:=hb w
    simp only[execOp,ho,e1,e2]
    rw[Sem.run_bind,this]
    rfl
 have int2:∀{av:AV} {k k':IntKind} {p q:Int} {v:Value},σ.ev x=some (.a (.v (.int k p)))→σ.ev y=some (.a (.v (.int k' q)))→K (.a (.v v)) →
   (∀w,(do eqGuard op t x y (.int k p) (.int k' q);binOp op t (.int k p) (.int k' q):Sem Value).run P w=.ok v w)→Out P o σ K:=by
  intro av k k' p q v hx hy hk hrun
  refine⟨_,hk,fun _ _=>trivial,fun a w hr=>?_⟩
  have e1:=S.db hr hx
  have e2:=S.db hr hy
  simp only[AV.g,At.g] at e1 e2
  simp only[execOp,ho,e1,e2]
  rw[Sem.run_bind,hrun w]
  rfl
 unfold xr at h
 split at h
 ·rename_i s u hx hy
  obtain⟨hle,hk⟩:=h
  refine⟨_,hk,fun _ _=>trivial,fun a w hr=>?_⟩
  have e1:=S.db hr hx
  have e2:=S.db hr hy
  simp only[AV.g,At.g] at e1 e2
  simp only[execOp,ho,e1,e2]
  have hm:IntKind.i64.max=9223372036854775807:=by decide
  rw[hm] at hle
  simp[eqGuard,binOp,Op.stringOp,AV.g,At.g]
  omega
 ·rename_i k p k' q hx hy
  obtain⟨hkk,hne,hk⟩:=pw h
  have:k=k':=by simpa using hkk
  subst this
  exact int2 (av:=.a (.v undef)) hx hy hk fun w=>by simp[eqGuard,binOp,Op.intDiv,hne]
 ·rename_i k p k' q hx hy
  obtain⟨hkk,hne,hk⟩:=pw h
  have:k=k':=by simpa using hkk
  subst this
  exact int2 (av:=.a (.v undef)) hx hy hk fun w=>by simp[eqGuard,binOp,Op.intDiv,hne]
 ·rename_i k p k' q hx hy
  obtain⟨hne,hk⟩:=h
  exact int2 (av:=.a (.v undef)) hx hy hk fun w=>by simp[eqGuard,binOp,Op.shift,show ¬q<0 by omega]
 ·rename_i k p k' q hx hy
  obtain⟨hne,hk⟩:=h
  exact int2 (av:=.a (.v undef)) hx hy hk fun w=>by simp[eqGuard,binOp,Op.shift,show ¬q<0 by omega]
 ·split at h<;>first | exact key h | exact iL h
def jd(P:Program)(shp:Nat→List Sh)(o:Oper)(σ:S)(I:cS)(G:cR)(hid:List Nat)(K:AV→Prop):Prop :=
 match o.op with
 | .move x=>match σ.ev x with
   | some av=>K av
   | none=>False
 | .assign x=>match σ.ev x with
   | some av=>K av
   | none=>False
 | .index t x i=>sr P o t x i σ K
 | .slice t x lo hi none=>sv P o t x lo hi σ K
 | .indexAddr t x i=>ky P o t x i σ K
 | .fieldAddr t x f=>kz P t x f σ K
 | .binOp op t x y _=>xr P o op t x y σ K
 | .nilCheck x=>match σ.ev x with
   | some (.a (.p i b off))=>K (.a (.p i b off))
   | some (.a (.v (.pointer oa)))=>∃ad,oa=some ad∧K (.a (.v (.pointer (some ad))))
   | some (.f fn first cap)=>K (.f fn first cap)
   | _=>pZ P o σ K
 | .load t x=>match σ.ev x with
   | some (.a (.p i _ off))=>cond (hid.contains i) False (jI P t σ.own i off K)
   | some (.a (.v (.pointer (some ad))))=>match shp t with
     | [sh]=>uY P sh t ad I G fun v=>K (.a (.v v))
     | _=>False
   | _=>False
 | .makeFunc (.func fn) first cap=>match σ.wc first.toList,σ.wc cap.toList with
   | some l,some r=>K (.f fn l r)
   | _,_=>False
 | _=>pZ P o σ K
def tA(P:Program)(shp:Nat→List Sh)(o:Oper)(σ:S)(I:cS)(F:cR)(K:AV→Prop):Prop :=
 jd P shp o σ I (da σ.own++F) [] K
structure tB (P:Program) (o:Oper) (σ:S) (I:cS) (G:cR) (hid:List Nat) (av:AV):Prop where
 wf:∀own,xa σ own→(∀(i:Nat) (b:dr),σ.own[i]? = some b→∀c∈b.cells,AV.wf own c)→av.wf own
 run:∀a w,mZ σ a→xa σ σ.own→(∀(i:Nat) (b:dr),σ.own[i]? = some b→hid.contains i=false→w.heap[b.num]? = some b.obj)→Reads I G w →
  (execOp a.eval o).run P w=.ok (.value av.g) w
theorem hM{P:Program}{shp:Nat→List Sh}{o:Oper}{σ:S}{I:cS}{G:cR}{hid:List Nat}{K:AV→Prop}(h:jd P shp o σ I G hid K) :
  ∃av,K av∧tB P o σ I G hid av:=by
 unfold jd at h
 have gen:Out P o σ K→∃av,K av∧tB P o σ I G hid av:=fun ⟨av,hk,hw,hy⟩=>⟨av,hk,fun own h _=>hw own h,fun a w hr _ _ _=>hy a w hr⟩
 split at h
 ·rename_i x ho
  split at h
  ·rename_i av hx
   exact⟨av,h,fun own hw _=>S.gZ hw hx,fun a w hr _ _ _=>by simp[execOp,ho,S.db hr hx]⟩
  ·exact h.elim
 ·rename_i x ho
  split at h
  ·rename_i av hx
   exact⟨av,h,fun own hw _=>S.gZ hw hx,fun a w hr _ _ _=>by simp[execOp,ho,S.db hr hx]⟩
  ·exact h.elim
 ·rename_i t x i ho;exact gen (su ho h)
 ·rename_i t x lo hi ho;exact gen (sw ho h)
 ·rename_i t x i ho;exact gen (nD ho h)
 ·rename_i t x f ho;exact gen (nF ho h)
 ·rename_i op t x y ty ho;exact gen (uZ ho h)
 ·rename_i x ho
  split at h
  ·rename_i i b off hx
   exact⟨_,h,fun own hw _=>S.gZ hw hx,fun a w hr _ _ _=>by simp[execOp,ho,S.db hr hx,AV.g,At.g]⟩
  ·rename_i oa hx
   obtain⟨ad,rfl,h⟩:=h
   exact⟨_,h,fun own hw _=>trivial,fun a w hr _ _ _=>by simp[execOp,ho,S.db hr hx,AV.g,At.g]⟩
  ·rename_i fn first cap hx
   exact⟨_,h,fun own hw _=>S.gZ hw hx,fun a w hr _ _ _=>by simp[execOp,ho,S.db hr hx,AV.g,At.g]⟩
  ·exact gen (iL h)
 ·rename_i t x ho
  split at h
  ·rename_i i b off hx
   cases hc:hid.contains i with
   | true=>rw[hc] at h;exact h.elim
   | false =>
     rw[hc] at h
     simp only[cond_false] at h
     obtain⟨av,hk,hw,hl⟩:=ld h
     refine⟨av,hk,fun own hwt hwo=>hw own fun blk hb=>hwo i blk hb,fun a w hr hwf ho' _=>?_⟩
     have:=hl b (S.gZ hwf hx) w fun blk hb=>ho' i blk hb hc
     simp[execOp,ho,S.db hr hx,AV.g,At.g,Instr.loadAt,Instr.sureAddr,this]
  ·rename_i ad hx
   split at h
   ·rename_i sh hsh
    obtain⟨v,hk,hl⟩:=ui h
    refine⟨_,hk,fun own hw _=>trivial,fun a w hr _ _ hrd=>?_⟩
    have:=hl w hrd
    simp[execOp,ho,S.db hr hx,AV.g,At.g,Instr.loadAt,Instr.sureAddr,this]
   ·exact h.elim
  ·exact h.elim
 ·rename_i fn first cap ho
  split at h
  ·rename_i l r hl hr'
   refine⟨_,h,fun own hw _=>⟨S.sx hw hl,S.sx hw hr'⟩,fun a w hr _ _ _=>?_⟩
   have e1:=S.nI hr hl
   have e2:=S.nI hr hr'
   have f1:first.map a.eval=(l.map At.g).toArray:=by rw[←e1];apply Array.ext';simp
   have f2:cap.map a.eval=(r.map At.g).toArray:=by rw[←e2];apply Array.ext';simp
   simp[execOp,ho,Instr.makeFunc,f1,f2,AV.g]
  ·exact h.elim
 ·exact gen (iL h)
structure Cut where
 tms:List (Nat×Lf)
 bks:List (Nat×List Lf)
 Inv:List Value→cS→cR→List Value→Nat→cS→cR→Prop
 fx:List Nat:=[]
 ps:List Sh:=[]
inductive Ot where
 | fin (pre post:List Nat)
 | fork (pre:List Nat) (i j:Nat) (x y:Ot)
def Ot.ops:Ot→List Nat
 | .fin pre post=>pre++post
 | .fork pre i _ x _=>pre++(i::x.ops)
structure kg where
 sp:Nat→Nat→Bool
 pn:Nat→Bool
 good:Nat→Bool
 shp:Nat→List Sh
 cut:Nat→Option Cut
 pr:Nat→Nat→Bool:=fun _ _=>false
 ds:Nat→Option (Nat×List Nat):=fun _=>none
 rl:Nat→Nat→Bool:=fun _ _=>false
 fv:Nat→Nat→Bool:=fun _ _=>false
 sq:Nat→Option (List Nat):=fun _=>none
 tl:Nat→Option Nat:=fun _=>none
 s2:Nat→Option (Nat×Nat×List Nat×List Nat):=fun _=>none
 ol:Nat→Option (List Nat×Nat):=fun _=>none
 ot:Nat→Option (List Nat×Ot):=fun _=>none
def di(P:Program)(f:FuncId):Prop:=∀args w,(callFunc f args).run P w=.ok (.enter f args) w
def nJ(I:cS)(Q:Ending→cS→cR→Prop)(e:Ending)(w:World):Prop:=∃I' F',cS.le I I'∧Sat I' F' w∧Q e I' F'
def zq(P:Program)(v:Value)(args:List Value)(I:cS)(F:cR)(Q:Ending→cS→cR→Prop):Prop :=
 ∀w,Sat I F w→∃fn first cap,v=.func (.func fn) first cap∧di P fn∧Calls P fn (first++args.toArray++cap) w (nJ I Q)
def xt(P:Program)(l:Nat)(args:List Value)(w:World)(R:Ending→World→Prop):Prop :=
 ∃f tmps iZ body w1,(Instr.yield l args.toArray).run P w=.ok (.round l f tmps iZ body) w1∧RoundIn Fence.wide 0 P l f tmps iZ body w1 R
def gj(P:Program)(v:Value)(args:List Value)(I:cS)(F:cR)(Q:Ending→cS→cR→Prop):Prop :=
 ∀w,Sat I F w→(∃fn first cap,v=.func (.func fn) first cap∧di P fn∧Calls P fn (first++args.toArray++cap) w (nJ I Q))∨∃l,v=.func (.yield l) #[] #[]∧xt P l args w (nJ I Q)
theorem nJ.mono{I J:cS}{Q Q':Ending→cS→cR→Prop}{e:Ending}{w:World}(h:nJ I Q e w)(hl:cS.le J I)(k:∀e I' F',cS.le I I'→Q e I' F'→Q' e I' F'):nJ J Q' e w :=
 let ⟨I',F',h1,h2,h3⟩:=h;⟨I',F',cS.le_trans hl h1,h2,k _ _ _ h1 h3⟩
theorem gj.mono{P:Program}{v:Value}{args:List Value}{I:cS}{F:cR}{Q Q':Ending→cS→cR→Prop}(h:gj P v args I F Q)(k:∀e I' F',cS.le I I'→Q e I' F'→Q' e I' F'):gj P v args I F Q':=fun w hw=>by
 rcases h w hw with ⟨fn,a,b,h1,h2,h3⟩ | ⟨l,h1,f,tmps,iZ,body,w1,h2,h3⟩
 ·exact .inl ⟨fn,a,b,h1,h2,h3.mono fun e w' he=>he.mono (cS.le_refl I) k⟩
 ·exact .inr ⟨l,h1,f,tmps,iZ,body,w1,h2,h3.mono fun e w' he=>he.mono (cS.le_refl I) k⟩
def S.push(σ:S)(b:dr)(dst:Option Nat):S :=
 ({ σ with own:=σ.own++[b] }:S).put dst (some (.a (.p σ.own.length b.num 0)))
def S.yo(σ:S)(b:dr)(len:Nat)(dst:Option Nat):S :=
 ({ σ with own:=σ.own++[b] }:S).put dst (some (.a (.s σ.own.length b.num len len)))
def kD(A:kg)(rid i:Nat)(dst:Option Nat)(av:AV)(σ:S)(K:S→Prop):Prop :=
 cond (A.sp rid i)
  (match av with
    | .a (.v (.bool t))=>(t=true→K (σ.put dst (some (.a (.v (.bool true))))))∧(t=false→K (σ.put dst (some (.a (.v (.bool false))))))
    | _=>False)
  (K (σ.put dst (some av)))
def At.idx:At→List Nat
 | .v _=>[]
 | .p i _ _=>[i]
 | .s i _ _ _=>[i]
def AV.idx:AV→List Nat
 | .a x=>x.idx
 | .f _ first cap=>first.flatMap At.idx++cap.flatMap At.idx
def zr(own:List dr):Nat→List Nat→List Nat
 | 0,l=>l
 | n+1,l=>zr own n (l++l.flatMap fun i=>match own[i]? with
   | some b=>b.cells.flatMap AV.idx
   | none=>[])
def S.xu(σ:S)(l:List Operand):List Nat:=zr σ.own 2 (l.flatMap fun x=>match σ.ev x with
 | some av=>av.idx
 | none=>[])
def dr.leaves(shp:Nat→List Sh)(b:dr):List Lf :=
 match shp b.elem with
 | [sh]=>(List.replicate (b.cells.length / sh.leaves.length) sh.leaves).flatten
 | _=>[]
def lf(shp:Nat→List Sh)(E:List Nat):Nat→List dr→(List dr→Prop)→Prop
 | _,[],Q=>Q []
 | i,b::r,Q=>cond (!b.ro&&E.contains i)
    (so (b.leaves shp) fun vs=>lf shp E (i+1) r fun own'=>Q ({ b with cells:=vs.map fun v=>.a (.v v) }::own'))
    (lf shp E (i+1) r fun own'=>Q (b::own'))
def xv(A:kg)(rid i:Nat)(o:Oper)(E:List Nat)(pan:Bool)(σ:S)(K:S→cS→cR→Prop)(Kp:List PanicEntry→S→cS→cR→Prop)
  (e:Ending) (I':cS) (G:cR):Prop :=
 cond pan
   ((pk (A.shp o.type) fun v=>e=.returned v∧lf A.shp E 0 σ.own fun own'=>∃F',G.Perm (da own'++F') ∧
      kD A rid i o.dst (.a (.v v)) { σ with own:=own' } fun σ'=>K σ' I' F') ∨
     ∃ch,e=.panicked ch∧lf A.shp E 0 σ.own fun own'=>∃F',G.Perm (da own'++F')∧Kp ch { σ with own:=own' } I' F')
   (pk (A.shp o.type) fun v=>e=.returned v∧lf A.shp E 0 σ.own fun own'=>∃F',G.Perm (da own'++F') ∧
     kD A rid i o.dst (.a (.v v)) { σ with own:=own' } fun σ'=>K σ' I' F')
def u5(P:Program)(A:kg)(rid i:Nat)(o:Oper)(fn:Nat)(args:Array Value)(E:List Nat)(pan:Bool)(σ:S)(I:cS)(F:cR)
  (K:S→cS→cR→Prop) (Kp:List PanicEntry→S→cS→cR→Prop):Prop :=
 cV P fn args I (da σ.own++F) fun e I' G=>xv A rid i o E pan σ K Kp e I' G
def u6(P:Program)(A:kg)(rid i:Nat)(o:Oper)(v:Value)(args:List Value)(E:List Nat)(σ:S)(I:cS)(F:cR)
  (K:S→cS→cR→Prop) (Kp:List PanicEntry→S→cS→cR→Prop):Prop :=
 gj P v args I (da σ.own++F) fun e I' G=>xv A rid i o E (A.pn 0) σ K Kp e I' G
def u7(P:Program)(o:Oper)(s:Sem Unit)(σ:S)(I:cS)(F:cR)(K:S→cS→cR→Prop):Prop :=
 zp P s I (da σ.own++F) fun I' G=>∃F',G.Perm (da σ.own++F')∧K (σ.put o.dst none) I' F'
def p5(P:Program)(A:kg)(rid i:Nat)(o:Oper)(s:Sem Value)(σ:S)(I:cS)(F:cR)(K:S→cS→cR→Prop):Prop :=
 dW P s I (da σ.own++F) fun v I' G=>pk (A.shp o.type) fun x=>v=x∧∃F',G.Perm (da σ.own++F') ∧
  kD A rid i o.dst (.a (.v x)) σ fun σ'=>K σ' I' F'
def sy(P:Program)(o:Oper)(t:TypeId)(len:Nat)(parts:Array (Nat×Operand))(σ:S)(pr rl:Bool)(I:cS)(F:cR)(K:S→cS→cR→Prop):Prop :=
 match P.underlying t with
 | some (.slice e) =>
   match pt P e,(P.info? e).bind TypeInfo.zero with
   | some z,some zv =>
     cond (σ.dJ o.op.operands.toList&&decide (len*z≤2 ^ 24))
      (match Instr.fill (fun i=>some (i*z,z)) ((Array.range (len*z)).map (zv.cells[· % zv.cells.size]!)) (parts.map fun (i,x)=>(i,σ.cv x)).toList with
        | some cells=>cond pr (∀(b:Nat) (I':cS),cS.le I I'→I' b=some (.cells cells e)→K (σ.put o.dst (some (.a (.v (.slice (some ⟨b,0,none⟩) len len))))) I' F)
           (cond rl (∀b:Nat,K (σ.put o.dst (some (.a (.v (.slice (some ⟨b,0,none⟩) len len))))) I ((b,.cells cells e (0,0))::F))
           (∀b:Nat,K (σ.yo ⟨b,e,false,cells.toList.map fun c=>.a (.v c)⟩ len o.dst) I F))
        | none=>False) False
   | _,_=>False
 | _=>False
def yp(P:Program)(A:kg)(rid i:Nat)(o:Oper)(σ:S)(I:cS)(F:cR)
  (K:S→cS→cR→Prop) (Kp:List PanicEntry→S→cS→cR→Prop):Prop :=
 match o.op with
 | .alloc t=>match (P.info? t).bind TypeInfo.zero with
   | some z=>cond (A.rl rid i) (∀b:Nat,K (σ.put o.dst (some (.a (.v (.pointer (some ⟨b,0,none⟩)))))) I ((b,.cells z.cells t (0,0))::F))
     (∀b:Nat,K (σ.push ⟨b,t,false,(AV.a (.v z)).cells⟩ o.dst) I F)
   | none=>False
 | .box t x=>match σ.ev x with
   | some av=>cond (A.rl rid i) (∀b:Nat,K (σ.put o.dst (some (.a (.v (.pointer (some ⟨b,0,none⟩)))))) I ((b,.cells (av.cells.map AV.g).toArray t (0,0))::F))
     (∀b:Nat,K (σ.push ⟨b,t,false,av.cells⟩ o.dst) I F)
   | none=>False
 | .buildSlice t len parts=>sy P o t len parts σ (A.pr rid i) (A.rl rid i) I F K
 | .store t x y=>match σ.ev x,σ.ev y with
   | some (.a (.p j _ off)),some av =>
     match σ.own[j]?,pt P t with
     | some blk,some n =>
       cond (!blk.ro&&av.cells.length==n&&decide (off+n≤blk.cells.length))
        (cond (av.cells.all fun c=>o5 c.g)
          (K (({ σ with own:=σ.own.set j { blk with cells:=c9 off av.cells blk.cells } }:S).put o.dst none) I F) False) False
     | _,_=>False
   | some (.a (.v (.pointer (some ad)))),some av =>
     cond (pt P t==some av.cells.length&&av.cells.all fun c=>o5 c.g)
      (∃(cs:List Value) (e:Nat) (F0:cR),F.Perm ((ad.block,Obj.cells cs.toArray e (0,0))::F0)∧ad.spot=none∧ad.off+av.cells.length≤cs.length ∧
       K (σ.put o.dst none) I ((ad.block,Obj.cells (c9 ad.off (av.cells.map AV.g) cs).toArray e (0,0))::F0)) False
   | _,_=>False
 | .panic x=>match σ.ev x with
   | some (.a (.v (.iface t v)))=>Kp [{ v:=.iface t v,recovered:=false }] σ I F
   | _=>False
 | .convert src dst x=>match P.underlying src,P.underlying dst with
   | some .string,some (.slice _)=>cond (σ.dJ [x]) (p5 P A rid i o (convert src dst (σ.cv x)) σ I F K) False
   | some (.slice _),some .string=>cond (σ.dJ [x]) (p5 P A rid i o (convert src dst (σ.cv x)) σ I F K) False
   | _,_=>tA P A.shp o σ I F fun av=>kD A rid i o.dst av σ fun σ'=>K σ' I F
 | .makeSlice t l c=>cond (σ.dJ [l,c]) (p5 P A rid i o (Instr.makeSlice t (σ.cv l) (σ.cv c)) σ I F K) False
 | .makeMap t none=>p5 P A rid i o (Instr.makeMap t none) σ I F K
 | .mapUpdate t m k x=>cond (σ.dJ [m,k,x]) (u7 P o (Instr.mapUpdate t (σ.cv m) (σ.cv k) (σ.cv x)) σ I F K) False
 | .mapEntry t m k=>cond (σ.dJ [m,k]) (p5 P A rid i o (Instr.mapEntry t (σ.cv m) (σ.cv k)) σ I F K) False
 | .entryStore t m s x=>cond (σ.dJ [m,s,x]) (u7 P o (Instr.entryStore t (σ.cv m) (σ.cv s) (σ.cv x)) σ I F K) False
 | .defer c=>match c.callee with
   | .value f=>match σ.ev f with
     | some (.f fn first cap)=>cond (σ.dJ c.args.toList) (K ({ σ with df:=.fn fn first cap (c.args.toList.map σ.cv)::σ.df }.put o.dst none) I F) False
     | _=>False
   | _=>False
 | .lookup t m k ok=>cond (σ.dJ [m,k]) (p5 P A rid i o (Instr.lookup t (σ.cv m) (σ.cv k) ok) σ I F K) False
 | .call c=>match c.callee with
   | .builtin .append=>cond (σ.dJ c.args.toList) (p5 P A rid i o (Builtin.append_ c.argTypes o.type (c.args.map σ.cv)) σ I F K) False
   | .builtin .copy=>cond (σ.dJ c.args.toList) (p5 P A rid i o (Builtin.copy_ c.argTypes o.type (c.args.map σ.cv)) σ I F K) False
   | .builtin _=>tA P A.shp o σ I F fun av=>kD A rid i o.dst av σ fun σ'=>K σ' I F
   | .invoke _ _=>False
   | .value f=>cond (σ.dJ c.args.toList)
     (cond (A.fv rid i) (cond (σ.dJ [f]) (u6 P A rid i o (σ.cv f) (c.args.map σ.cv).toList (σ.xu (f::c.args.toList)) σ I F K Kp) False) (match σ.ev f with
       | some (.f fn first cap)=>cond (A.good fn)
          (u5 P A rid i o fn ((first.map At.g).toArray++c.args.map σ.cv++(cap.map At.g).toArray) (σ.xu (f::c.args.toList)) (A.pn fn) σ I F K Kp) False
       | some (.a (.v (.func (.func fn) first cap)))=>di P fn ∧
          u5 P A rid i o fn (first++c.args.map σ.cv++cap) (σ.xu c.args.toList) false σ I F K Kp
       | _=>False)) False
 | _=>tA P A.shp o σ I F fun av=>kD A rid i o.dst av σ fun σ'=>K σ' I F
def de(σ σ':S):Prop:=∀(i:Nat) (b:dr),σ.own[i]? = some b→∃b':dr,σ'.own[i]? = some b'∧b'.num=b.num∧b'.elem=b.elem ∧
 (b.ro=true→b'.ro=true∧b'.cells=b.cells)
theorem de.refl(σ:S):de σ σ:=fun _ b h=>⟨b,h,rfl,rfl,fun h=>⟨h,rfl⟩⟩
theorem de.trans{a b c:S}(h:de a b)(k:de b c):de a c:=fun i x hx=>by
 obtain⟨y,hy,e1,e2,e3⟩:=h i x hx
 obtain⟨z,hz,f1,f2,f3⟩:=k i y hy
 refine⟨z,hz,f1.trans e1,f2.trans e2,fun hr=>?_⟩
 obtain⟨g1,g2⟩:=e3 hr
 obtain⟨g3,g4⟩:=f3 g1
 exact⟨g3,g4.trans g2⟩
theorem de.same{σ σ':S}(h:de σ σ'):gi σ.own σ'.own:=fun i b hb=>let ⟨b',h1,h2,_⟩:=h i b hb;⟨b',h1,h2⟩
theorem de.put(σ:S)(dst:Option Nat)(av:Option AV):de σ (σ.put dst av):=by cases dst<;>exact de.refl _
theorem de.append(σ:S)(b:dr):de σ { σ with own:=σ.own++[b] }:=fun i c h =>
 ⟨c,by show (σ.own++[b])[i]? = _;rw[List.getElem?_append_left (by rcases Nat.lt_or_ge i σ.own.length with h' | h';exact h';simp[List.getElem?_eq_none h'] at h)];exact h,rfl,rfl,fun h=>⟨h,rfl⟩⟩
theorem S.gL(σ:S)(dst:Option Nat)(av:Option AV):(σ.put dst av).own=σ.own:=by cases dst<;>rfl
theorem iM{A:kg}{rid i:Nat}{dst:Option Nat}{av:AV}{σ:S}{K:S→Prop}(h:kD A rid i dst av σ K) :
  ∃av',av'.g=av.g∧(av.wf σ.own→av'.wf σ.own)∧K (σ.put dst (some av')):=by
 unfold kD at h
 cases hs:A.sp rid i with
 | false=>rw[hs] at h;exact⟨av,rfl,id,h⟩
 | true =>
   rw[hs] at h
   simp only[cond_true] at h
   split at h
   ·rename_i t
    cases t with
    | true=>exact⟨_,rfl,fun _=>trivial,h.1 rfl⟩
    | false=>exact⟨_,rfl,fun _=>trivial,h.2 rfl⟩
   ·exact h.elim
theorem iN{shp:Nat→List Sh}{E:List Nat}:∀{i:Nat} {own:List dr} {Q:List dr→Prop},lf shp E i own Q →
  ∃own',Q own'∧own'.length=own.length∧∀(j:Nat) (b:dr),own[j]? = some b→∃b':dr,own'[j]? = some b'∧b'.num=b.num∧b'.elem=b.elem∧b'.ro=b.ro ∧
   ((∃vs:List Value,b'.cells=vs.map fun v=>.a (.v v))∨b'.cells=b.cells)∧(b.ro=true→b'.cells=b.cells)
 | _,[],_,h=>⟨[],h,rfl,fun j b hb=>by simp at hb⟩
 | i,b::r,Q,h=>by
   simp only[lf] at h
   cases hc:(!b.ro&&E.contains i) with
   | true =>
     rw[hc] at h
     obtain⟨vs,_,h⟩:=iK h
     obtain⟨own',hq,hl,hk⟩:=iN h
     refine⟨_,hq,by simp[hl],fun j c hj=>?_⟩
     cases j with
     | zero =>
       simp only[List.getElem?_cons_zero,Option.some.injEq] at hj;subst hj
       simp only[Bool.and_eq_true,Bool.not_eq_true'] at hc
       exact⟨_,rfl,rfl,rfl,rfl,.inl ⟨vs,rfl⟩,fun hr=>by rw[hc.1] at hr;cases hr⟩
     | succ j=>simpa using hk j c (by simpa using hj)
   | false =>
     rw[hc] at h
     obtain⟨own',hq,hl,hk⟩:=iN h
     refine⟨_,hq,by simp[hl],fun j c hj=>?_⟩
     cases j with
     | zero =>
       simp only[List.getElem?_cons_zero,Option.some.injEq] at hj;subst hj
       exact⟨b,rfl,rfl,rfl,rfl,.inr rfl,fun _=>rfl⟩
     | succ j=>simpa using hk j c (by simpa using hj)
def gb(o:Oper)(σ:S)(I:cS)(a:Act)(K:S→cS→cR→Prop)(a':Act)(w':World):Prop :=
 ∃σ' I' F',Rel σ' I' F' a' w'∧cS.le I I'∧K σ' I' F'∧de σ σ'∧∃v,a'.tmps=(a.put o.dst v).tmps
section sound
variable {P:Program} {A:kg} {rid i:Nat} {o:Oper} {σ:S} {I:cS} {F:cR} {K:S→cS→cR→Prop} {Kp:List PanicEntry→S→cS→cR→Prop}
 {a:Act} {w:World} {Q:Exit→Act→World→Prop}
theorem nK(hr:Rel σ I F a w){av:AV}(hw:av.wf σ.own)(h:kD A rid i o.dst av σ fun σ'=>K σ' I F):gb o σ I a K (a.put o.dst av.g) w:=by
 obtain⟨av',hg,hwf,hk⟩:=iM h
 exact⟨_,I,F,hr.put o.dst hg (hwf hw),cS.le_refl I,hk,de.put _ _ _,_,rfl⟩
theorem kE(h:tA P A.shp o σ I F fun av=>kD A rid i o.dst av σ fun σ'=>K σ' I F)(hr:Rel σ I F a w) :
  o.wp P a w (gb o σ I a K) Q:=by
 obtain⟨av,hk,hy⟩:=hM h
 have hrun:=hy.run a w hr.t hr.wft (fun i b hb _=>hr.sat.get hb) hr.sat.reads
 unfold Oper.wp
 rw[hrun,Oper.upon_value]
 exact nK hr (hy.wf σ.own hr.wft hr.wfo) hk
theorem u9(hr:Rel σ I F a w)(e:Nat)(cells:List AV)(hc:∀c∈cells,c.wf σ.own) :
  Rel { σ with own:=σ.own++[⟨w.heap.size,e,false,cells⟩] } I F a { w with heap:=w.heap.push (.cells (cells.map AV.g).toArray e) }:=by
 have hs:gi σ.own (σ.own++[⟨w.heap.size,e,false,cells⟩]):=gi.append _ _
 refine hr.heap hs ?_ ?_
 ·intro j b hj c hcm
  rcases Nat.lt_or_ge j σ.own.length with hlt | hge
  ·rw[List.getElem?_append_left hlt] at hj
   exact AV.dS hs (hr.wfo j b hj c hcm)
  ·rw[List.getElem?_append_right hge] at hj
   cases hj':j-σ.own.length with
   | zero=>rw[hj'] at hj;simp at hj;subst hj;exact AV.dS hs (hc c hcm)
   | succ k=>rw[hj'] at hj;simp at hj
 ·refine (hr.sat.alloc (.cells (cells.map AV.g).toArray e)).perm ?_
  simp only[da,List.map_append,List.map_cons,List.map_nil,List.append_assoc]
  exact (List.perm_middle).symm
theorem nL{t:TypeId}(v:Value)(w:World):(newVar t v).run P w=.ok ⟨w.heap.size,0,none⟩ { w with heap:=w.heap.push (.cells v.cells t) }:=by
 simp[newVar,newRow,newObj,Sem.run,Sem.run_bind]
theorem lW(hr:Rel σ I F a w)(e:Nat)(cells:List AV)(hc:∀c∈cells,c.wf σ.own)(vs:Array Value)(hv:vs=(cells.map AV.g).toArray){av:AV}{v:Value}(hav:av.g=v)
  (hwf:av.wf (σ.own++[⟨w.heap.size,e,false,cells⟩])) (hk:K (({ σ with own:=σ.own++[⟨w.heap.size,e,false,cells⟩] }:S).put o.dst (some av)) I F) :
  gb o σ I a K (a.put o.dst v) { w with heap:=w.heap.push (.cells vs e) }:=by
 subst hv
 exact⟨_,I,F,(u9 hr e cells hc).put o.dst hav hwf,cS.le_refl I,hk,(de.append _ _).trans (de.put _ _ _),_,rfl⟩
theorem nM(hr:Rel σ I F a w)(ob:Obj){v:Value}(hk:K (σ.put o.dst (some (.a (.v v)))) I ((w.heap.size,ob)::F)) :
  gb o σ I a K (a.put o.dst v) { w with heap:=w.heap.push ob }:=by
 have hrel:Rel σ I ((w.heap.size,ob)::F) a { w with heap:=w.heap.push ob }:=hr.heap (gi.refl _) hr.wfo ((hr.sat.alloc ob).perm List.perm_middle.symm)
 exact⟨_,I,_,hrel.put o.dst (av:=.a (.v v)) rfl trivial,cS.le_refl I,hk,de.put _ _ _,_,rfl⟩
theorem tC(own:List dr)(b:dr):At.wf (own++[b]) (.p own.length b.num 0):=by simp[At.wf]
theorem va(own:List dr)(b:dr)(n m:Nat):At.wf (own++[b]) (.s own.length b.num n m):=by simp[At.wf]
theorem kl{t:TypeId}{z:Value}(h:(P.info? t).bind TypeInfo.zero=some z)(w:World):(zeroValue t).run P w=.ok z w:=by
 cases hi:P.info? t with
 | none=>rw[hi] at h;cases h
 | some ti =>
   rw[hi] at h
   simp only[Option.bind_some] at h
   simp[zeroValue,typeInfo,program,Sem.run,hi,Sem.run_bind,h]
theorem nN{own:List dr}{av:AV}(h:av.wf own):∀c∈av.cells,c.wf own:=by
 intro c hc
 unfold AV.cells at hc
 split at hc
 ·obtain⟨x,_,e⟩:=List.mem_map.1 hc;subst e;trivial
 ·simp at hc;subst hc;exact h
def yq(o:Oper)(σ:S)(I:cS)(a:Act)(K:S→cS→cR→Prop)(Q:Exit→Act→World→Prop):Ending→World→Prop
 | .returned v,w''=>gb o σ I a K (a.put o.dst v) w''
 | .panicked chain,w''=>Q (.panic chain) a w''
 | .outgrown,_=>LetsOut Q
theorem lY{E:List Nat}{pan:Bool}(hr:Rel σ I F a w)
  (hQ:∀ch w' σ' I' F',Rel σ' I' F' a w'→cS.le I I'→Kp ch σ' I' F'→de σ σ'→Q (.panic ch) a w') {e:Ending} {w':World}
  (h:nJ I (xv A rid i o E pan σ K Kp) e w'):yq o σ I a K Q e w':=by
 obtain⟨I',G,hle,hsat,hq⟩:=h
 have keep:∀own',(own'.length=σ.own.length∧∀(j:Nat) (b:dr),σ.own[j]? = some b→∃b':dr,own'[j]? = some b'∧b'.num=b.num∧b'.elem=b.elem∧b'.ro=b.ro ∧
   ((∃vs:List Value,b'.cells=vs.map fun v=>.a (.v v))∨b'.cells=b.cells)∧(b.ro=true→b'.cells=b.cells))→∀F',G.Perm (da own'++F') →
   de σ { σ with own:=own' }∧Rel { σ with own:=own' } I' F' a w':=by
  intro own' ⟨hl,hk⟩ F' hp
  have hkeep:de σ { σ with own:=own' }:=fun j b hb=>by
   obtain⟨b',h1,h2,h3,h4,_,h6⟩:=hk j b hb
   exact⟨b',h1,h2,h3,fun hro=>⟨by rw[h4];exact hro,h6 hro⟩⟩
  refine⟨hkeep,hr.heap hkeep.same ?_ (hsat.perm hp)⟩
  intro j b' hj c hc
  have hlt:j<σ.own.length:=by
   rcases Nat.lt_or_ge j own'.length with h' | h'
   ·omega
   ·simp[List.getElem?_eq_none h'] at hj
  obtain⟨b,hb⟩:∃b,σ.own[j]? = some b:=⟨σ.own[j],by simp[hlt]⟩
  obtain⟨b'',h1,_,_,_,h5,_⟩:=hk j b hb
  rw[hj] at h1;cases h1
  rcases h5 with ⟨vs,e⟩ | e
  ·rw[e] at hc;obtain⟨v,_,e⟩:=List.mem_map.1 hc;subst e;trivial
  ·rw[e] at hc;exact AV.dS hkeep.same (hr.wfo j b hb c hc)
 have good:(pk (A.shp o.type) fun v=>e=.returned v∧lf A.shp E 0 σ.own fun own'=>∃F',G.Perm (da own'++F') ∧
     kD A rid i o.dst (.a (.v v)) { σ with own:=own' } fun σ'=>K σ' I' F') →
   ∃v,e=.returned v∧gb o σ I a K (a.put o.dst v) w':=by
  intro h
  obtain⟨v,he,h⟩:=lV h
  obtain⟨own',⟨F',hp,hf⟩,hown⟩:=iN h
  obtain⟨hk,hrel⟩:=keep own' hown F' hp
  obtain⟨σ',I2,F2,h1,h2,h3,h4,h5⟩:=nK (o:=o) hrel (av:=.a (.v v)) trivial hf
  exact⟨v,he,σ',I2,F2,h1,cS.le_trans hle h2,h3,hk.trans h4,h5⟩
 cases pan with
 | false =>
   obtain⟨v,rfl,hn⟩:=good hq
   exact hn
 | true =>
   rcases hq with hq | ⟨ch,rfl,h⟩
   ·obtain⟨v,rfl,hn⟩:=good hq
    exact hn
   ·obtain⟨own',⟨F',hp,hf⟩,hown⟩:=iN h
    obtain⟨hk,hrel⟩:=keep own' hown F' hp
    exact hQ ch w' _ I' F' hrel hle hf hk
theorem nP{fn:Nat}{args:Array Value}{E:List Nat}{pan:Bool}(h:u5 P A rid i o fn args E pan σ I F K Kp)(hr:Rel σ I F a w)
  (hQ:∀ch w' σ' I' F',Rel σ' I' F' a w'→cS.le I I'→Kp ch σ' I' F'→de σ σ'→Q (.panic ch) a w') :
  Calls P fn args w fun
   | .returned v,w''=>gb o σ I a K (a.put o.dst v) w''
   | .panicked chain,w''=>Q (.panic chain) a w''
   | .outgrown,_=>LetsOut Q :=
 (h w hr.sat).mono fun e w' he=>by
   have:=lY (Q:=Q) hr hQ he
   cases e<;>exact this
theorem fP{s:Sem Value}(h:p5 P A rid i o s σ I F K)(hr:Rel σ I F a w)(he:∀v w',s.run P w=.ok v w'→(execOp a.eval o).run P w=.ok (.value v) w') :
  o.wp P a w (gb o σ I a K) Q:=by
 obtain⟨v,w',I',G,hrun,hle,hsat,hq⟩:=h w hr.sat
 unfold Oper.wp
 rw[he v w' hrun,Oper.upon_value]
 obtain⟨x,rfl,F',hp,hf⟩:=lV hq
 have hrel:Rel σ I' F' a w':=hr.heap (gi.refl _) hr.wfo (hsat.perm hp)
 obtain⟨σ',I2,F2,h1,h2,h3,h4,h5⟩:=nK (o:=o) hrel (av:=.a (.v v)) trivial hf
 exact⟨σ',I2,F2,h1,cS.le_trans hle h2,h3,h4,h5⟩
end sound
end Go.Vc
namespace Go.Vc
section sound
variable {P:Program} {A:kg} {rid i:Nat} {o:Oper} {σ:S} {I:cS} {F:cR} {K:S→cS→cR→Prop} {Kp:List PanicEntry→S→cS→cR→Prop}
 {a:Act} {w:World} {Q:Exit→Act→World→Prop}
theorem c6{b:Bool}{X:Prop}(h:cond b X False):b=true∧X:=by
 cases b with
 | true=>exact⟨rfl,h⟩
 | false=>exact h.elim
theorem sA(hr:Rel σ I F a w){x:Operand}(h:σ.dJ [x]=true):a.eval x=σ.cv x:=S.dt hr h x (by simp)
theorem py{t:TypeId}{x y:Operand}(ho:o.op=.store t x y){j b off:Nat}{av:AV}{blk:dr}{n:Nat}(hx:σ.ev x=some (.a (.p j b off)))(hy:σ.ev y=some av)
  (hj:σ.own[j]? = some blk) (hn:pt P t=some n) (hc:(!blk.ro&&av.cells.length==n&&decide (off+n≤blk.cells.length))=true) (h1:(av.cells.all fun c=>o5 c.g)=true)
  (hr:mZ σ a) (hwf:xa σ σ.own) (hs:Sat I (da σ.own++F) w) :
  ∃w',(execOp a.eval o).run P w=.ok .skip w'∧Sat I (da (σ.own.set j { blk with cells:=c9 off av.cells blk.cells })++F) w':=by
 simp only[Bool.and_eq_true,Bool.not_eq_true',beq_iff_eq,decide_eq_true_eq] at hc
 obtain⟨⟨hro,hlen⟩,hoff⟩:=hc
 have ex:=S.db hr hx
 have ey:=S.db hr hy
 have wx:=S.gZ hwf hx
 simp only[AV.wf,At.wf,hj,Option.map_some,Option.some.injEq] at wx
 have hheap:=hs.get hj
 have hcs:=av.la
 rw[wx] at hheap
 obtain⟨w',hrun,hh,henv⟩:=g8 (P:=P) (b:=b) (e:=blk.elem) (av.cells.map AV.g) 0 off (blk.cells.map AV.g) w hheap (by simp;omega) (by
  intro v hv
  obtain⟨c,hc,rfl⟩:=List.mem_map.1 hv
  exact List.all_eq_true.1 h1 c hc)
 have hrun':(execOp a.eval o).run P w=.ok .skip w':=by
  have hsz:av.g.cells.size=n:=by
   have h2:=congrArg List.length hcs
   simp at h2
   omega
  have ex':a.eval x=.pointer (some ⟨b,off,none⟩):=ex
  simp only[execOp,ho,ex',ey,Instr.storeAt,Instr.sureAddr,storeVar,Sem.run_bind,Sem.run_pure,Result.andThen_ok,eI hn]
  rw[if_neg (by simpa using hsz)]
  have h3:av.g.cells.toList=av.cells.map AV.g:=hcs.symm
  simp only[h3,hrun,Result.andThen_ok]
 refine⟨w',hrun', ?_⟩
 have hlt:j<σ.own.length:=by
  rcases Nat.lt_or_ge j σ.own.length with h' | h'
  ·exact h'
  ·simp[List.getElem?_eq_none h'] at hj
 have hsplit:σ.own=σ.own.take j++blk::σ.own.drop (j+1):=by
  conv=>lhs;rw[←List.take_append_drop j σ.own]
  rw[List.drop_eq_getElem_cons hlt]
  have:σ.own[j]=blk:=by have:=hj;rw[List.getElem?_eq_getElem hlt] at this;exact Option.some.inj this
  rw[this]
 have hset:σ.own.set j { blk with cells:=c9 off av.cells blk.cells }=σ.own.take j++{ blk with cells:=c9 off av.cells blk.cells }::σ.own.drop (j+1):=by
  rw[List.set_eq_take_append_cons_drop,if_pos hlt]
 have hs0:Sat I ((blk.num,blk.obj)::(da (σ.own.take j)++(da (σ.own.drop (j+1))++F))) w:=by
  have h0:=hs
  rw[hsplit] at h0
  simp only[da,List.map_append,List.map_cons,List.append_assoc,List.cons_append] at h0 ⊢
  exact h0.perm List.perm_middle
 have hs1:=hs0.set (o':=.cells (c9 off (av.cells.map AV.g) (blk.cells.map AV.g)).toArray blk.elem (0,0)) (w':=w') (by rw[wx];simpa using hh) henv
 rw[hset]
 simp only[da,List.map_append,List.map_cons,List.append_assoc,List.cons_append]
 refine hs1.perm ?_
 simp only[da,dr.obj,kB]
 exact List.perm_middle.symm
theorem pz(hr:xa σ σ.own)(hwo:∀(i:Nat) (b:dr),σ.own[i]? = some b→∀c∈b.cells,AV.wf σ.own c){x y:Operand}{j:Nat}{av:AV}{blk:dr}{off:Nat}(hy:σ.ev y=some av)(hj:σ.own[j]? = some blk)(hro:blk.ro=false) :
  gi σ.own (σ.own.set j { blk with cells:=c9 off av.cells blk.cells }) ∧
  (∀(i:Nat) (b:dr),(σ.own.set j { blk with cells:=c9 off av.cells blk.cells })[i]? = some b→∀c∈b.cells,AV.wf (σ.own.set j { blk with cells:=c9 off av.cells blk.cells }) c) ∧
  de σ { σ with own:=σ.own.set j { blk with cells:=c9 off av.cells blk.cells } }:=by
 have wy:=S.gZ hr hy
 have hlt:j<σ.own.length:=by
  rcases Nat.lt_or_ge j σ.own.length with h' | h'
  ·exact h'
  ·simp[List.getElem?_eq_none h'] at hj
 have hsame:gi σ.own (σ.own.set j { blk with cells:=c9 off av.cells blk.cells }):=gi.set _ j blk _ hj rfl
 refine⟨hsame, ?_, ?_⟩
 ·intro k b' hk' c hcm
  refine AV.dS hsame ?_
  rw[List.getElem?_set] at hk'
  by_cases hjk:j=k
  ·subst hjk
   simp only[if_true,hlt,if_pos] at hk'
   cases hk'
   rcases kC _ _ _ hcm with hm | hm
   ·exact nN wy c hm
   ·exact hwo j blk hj c hm
  ·simp only[if_neg hjk] at hk';exact hwo k b' hk' c hcm
 ·intro k b' hb'
  show ∃b'',(σ.own.set j _)[k]? = some b''∧_
  rw[List.getElem?_set]
  by_cases hjk:j=k
  ·subst hjk
   rw[hj] at hb';cases hb'
   simp only[if_true,hlt,if_pos]
   exact⟨_,rfl,rfl,rfl,fun hr'=>by rw[hro] at hr';cases hr'⟩
  ·simp only[if_neg hjk];exact⟨b',hb',rfl,rfl,fun h=>⟨h,rfl⟩⟩
theorem qP{t:TypeId}{x y:Operand}(ho:o.op=.store t x y){j b off:Nat}{av:AV}{blk:dr}{n:Nat}(hx:σ.ev x=some (.a (.p j b off)))(hy:σ.ev y=some av)
  (hj:σ.own[j]? = some blk) (hn:pt P t=some n) (hc:(!blk.ro&&av.cells.length==n&&decide (off+n≤blk.cells.length))=true) (h1:(av.cells.all fun c=>o5 c.g)=true)
  (hk:K (({ σ with own:=σ.own.set j { blk with cells:=c9 off av.cells blk.cells } }:S).put o.dst none) I F) (hr:Rel σ I F a w) :
  o.wp P a w (gb o σ I a K) Q:=by
 obtain⟨w',hrun,hsat⟩:=py ho hx hy hj hn hc h1 hr.t hr.wft hr.sat
 have hro:blk.ro=false:=by simp only[Bool.and_eq_true,Bool.not_eq_true'] at hc;exact hc.1.1
 obtain⟨s1,s2,s3⟩:=pz (x:=x) (off:=off) hr.wft hr.wfo hy hj hro
 unfold Oper.wp
 rw[hrun,Oper.upon_skip]
 exact⟨_,I,F,(hr.heap s1 s2 hsat).forget o.dst undef,cS.le_refl I,hk,s3.trans (de.put _ _ _),_,rfl⟩
theorem tD{t:TypeId}{x y:Operand}(ho:o.op=.store t x y){b off:Nat}{av:AV}(hx:σ.ev x=some (.a (.v (.pointer (some ⟨b,off,none⟩)))))(hy:σ.ev y=some av)
  (hc:(pt P t==some av.cells.length&&av.cells.all fun c=>o5 c.g)=true) {cs:List Value} {e:Nat} {G:cR} (hoff:off+av.cells.length≤cs.length)
  (hr:mZ σ a) (hs0:Sat I ((b,Obj.cells cs.toArray e (0,0))::G) w) :
  ∃w',(execOp a.eval o).run P w=.ok .skip w'∧Sat I ((b,Obj.cells (c9 off (av.cells.map AV.g) cs).toArray e (0,0))::G) w':=by
 simp only[Bool.and_eq_true,beq_iff_eq] at hc
 obtain⟨hsz,h1⟩:=hc
 have ex:=S.db hr hx
 have ey:=S.db hr hy
 have hcs:=av.la
 have hheap:=hs0.own _ _ (List.mem_cons_self ..)
 obtain⟨w',hrun,hh,henv⟩:=g8 (P:=P) (b:=b) (e:=e) (av.cells.map AV.g) 0 off cs w hheap (by simp;omega) (by
  intro v hv
  obtain⟨c,hc,rfl⟩:=List.mem_map.1 hv
  exact List.all_eq_true.1 h1 c hc)
 have hrun':(execOp a.eval o).run P w=.ok .skip w':=by
  have hsz':av.g.cells.size=av.cells.length:=by
   have h2:=congrArg List.length hcs
   simp at h2
   omega
  have ex':a.eval x=.pointer (some ⟨b,off,none⟩):=ex
  simp only[execOp,ho,ex',ey,Instr.storeAt,Instr.sureAddr,storeVar,Sem.run_bind,Sem.run_pure,Result.andThen_ok,eI hsz]
  rw[if_neg (by simpa using hsz')]
  have h3:av.g.cells.toList=av.cells.map AV.g:=hcs.symm
  simp only[h3,hrun,Result.andThen_ok]
 exact⟨w',hrun',hs0.set (w':=w') (by simpa using hh) henv⟩
theorem uj{t:TypeId}{x y:Operand}(ho:o.op=.store t x y){ad:Addr}{av:AV}(hx:σ.ev x=some (.a (.v (.pointer (some ad)))))(hy:σ.ev y=some av)
  (hc:(pt P t==some av.cells.length&&av.cells.all fun c=>o5 c.g)=true)
  (h:∃(cs:List Value) (e:Nat) (F0:cR),F.Perm ((ad.block,Obj.cells cs.toArray e (0,0))::F0)∧ad.spot=none∧ad.off+av.cells.length≤cs.length ∧
     K (σ.put o.dst none) I ((ad.block,Obj.cells (c9 ad.off (av.cells.map AV.g) cs).toArray e (0,0))::F0)) (hr:Rel σ I F a w) :
  o.wp P a w (gb o σ I a K) Q:=by
 obtain⟨cs,e,F0,hp,hsp,hoff,hk⟩:=h
 obtain⟨b,off,sp⟩:=ad
 simp only at hsp hoff hk hp
 subst hsp
 obtain⟨w',hrun,hs1⟩:=tD ho hx hy hc hoff hr.t ((hr.sat.perm (List.Perm.append_left _ hp)).perm List.perm_middle)
 unfold Oper.wp
 rw[hrun,Oper.upon_skip]
 have hrel:Rel σ I ((b,Obj.cells (c9 off (av.cells.map AV.g) cs).toArray e (0,0))::F0) a w' :=
  hr.heap (gi.refl _) hr.wfo (hs1.perm List.perm_middle.symm)
 exact⟨_,I,_,hrel.forget o.dst undef,cS.le_refl I,hk,de.put _ _ _,_,rfl⟩
theorem qQ{t:TypeId}{len:Nat}{parts:Array (Nat×Operand)}(ho:o.op=.buildSlice t len parts){pr rl:Bool}(h:sy P o t len parts σ pr rl I F K)(hr:Rel σ I F a w) :
  o.wp P a w (gb o σ I a K) Q:=by
 unfold sy at h
 split at h
 ·rename_i e hu
  split at h
  ·rename_i z zv hz hzv
   obtain⟨hb,h⟩:=c6 h
   simp only[Bool.and_eq_true,decide_eq_true_eq] at hb
   split at h
   ·rename_i cells hfill
    have hcong:=execOp_congr o (by intro cs b hh;rw[ho] at hh;cases hh) (S.dt hr hb.1)
    have hrun:(execOp a.eval o).run P w=.ok (.value (.slice (some ⟨w.heap.size,0,none⟩) len len)) { w with heap:=w.heap.push (.cells cells e) }:=by
     rw[hcong]
     have hl:(Array.map (fun (x:Nat×Operand)=>match x with | (i,x)=>(i,σ.cv x)) parts).toList=parts.toList.map fun x=>(x.1,σ.cv x.2):=by simp
     rw[hl] at hfill
     simp only[execOp,ho,Instr.buildSlice,Sem.run_bind,dq hu,Result.andThen_ok,eI hz]
     rw[if_neg (by omega)]
     by_cases h0:len*z=0
     ·simp only[h0,if_true] at hfill ⊢
      have hr0:Array.range 0=(#[]:Array Nat):=rfl
      simp only[hr0,Array.map_empty] at hfill
      simp[Sem.run_bind,hr0,hfill,newRow,newObj,Sem.run]
     ·simp only[if_neg h0,Sem.run_bind,kl hzv,Result.andThen_ok,Sem.run_pure]
      simp[hfill,newRow,newObj,Sem.run,Sem.run_bind]
    unfold Oper.wp
    rw[hrun,Oper.upon_value]
    cases pr with
    | true =>
      simp only[cond_true] at h
      obtain⟨hle,hsat⟩:=(hr.sat.alloc (.cells cells e)).gK
      have hk:=h w.heap.size _ hle (cS.jH _ _ _)
      exact⟨_,_,F,(hr.heap (gi.refl _) hr.wfo hsat).put o.dst (av:=.a (.v (.slice (some ⟨w.heap.size,0,none⟩) len len))) rfl trivial,hle,hk,de.put _ _ _,_,rfl⟩
    | false =>
    cases rl with
    | true=>exact nM hr _ (h w.heap.size)
    | false =>
    have hk:=h w.heap.size
    exact lW hr e (cells.toList.map fun c=>.a (.v c)) (by intro c hc;obtain⟨x,_,rfl⟩:=List.mem_map.1 hc;trivial) cells (by simp[Function.comp_def,AV.g,At.g]) (av:=.a (.s σ.own.length w.heap.size len len)) rfl
     (va σ.own ⟨w.heap.size,e,false,_⟩ len len) hk
   ·exact h.elim
  ·exact h.elim
 ·exact h.elim
theorem gV(hr:Rel σ I F a w){l:Array Operand}(h:σ.dJ l.toList=true):l.map a.eval=l.map σ.cv :=
 dX (S.dt hr h)
def v8(P:Program)(o:Oper)(a:Act)(w:World)(next:Act→World→Prop)(Q:Exit→Act→World→Prop):Prop :=
 o.uponIn Fence.wide 0 P a next Q ((execOp a.eval o).run P w)
theorem tE{next:Act→World→Prop}{res:Result Next}(h:o.upon P a next Q res):o.uponIn Fence.wide 0 P a next Q res:=by
 have hw:(Fence.wide.depth.isSome=true→1≤0):=fun h=>by simp[Fence.wide] at h
 cases res with
 | halt x w'=>cases x<;>exact h
 | ok n w' =>
   cases n<;>first | exact h | exact h.elim | skip
   ·exact⟨hw,callsIn_wide.2 h⟩
   ·refine⟨hw,fun c cs _=>?_⟩
    obtain⟨v,w1,r,s⟩:=h c cs
    exact⟨v,w1,r,stepsIn_wide.2 s⟩
theorem eo{next:Act→World→Prop}(h:o.wp P a w next Q):v8 P o a w next Q:=tE h
theorem nQ{s:Sem Unit}(h:u7 P o s σ I F K)(hr:Rel σ I F a w)(he:∀w',s.run P w=.ok () w'→(execOp a.eval o).run P w=.ok .skip w') :
  v8 P o a w (gb o σ I a K) Q:=by
 obtain⟨w',I',G,hrun,hle,hsat,F',hp,hk⟩:=h w hr.sat
 unfold v8
 rw[he w' hrun,Oper.uponIn_skip]
 have hrel:Rel σ I' F' a w':=hr.heap (gi.refl _) hr.wfo (hsat.perm hp)
 exact⟨_,I',F',hrel.forget o.dst undef,hle,hk,de.put _ _ _,_,rfl⟩
theorem qR{c:Call}{f:Operand}{E:List Nat}(ho:o.op=.call c)(hc:c.callee=.value f)(hk:σ.dJ c.args.toList=true)(hkf:σ.dJ [f]=true)
  (h:u6 P A rid i o (σ.cv f) (c.args.map σ.cv).toList E σ I F K Kp) (hr:Rel σ I F a w)
  (hQ:∀ch w' σ' I' F',Rel σ' I' F' a w'→cS.le I I'→Kp ch σ' I' F'→de σ σ'→Q (.panic ch) a w') :
  v8 P o a w (gb o σ I a K) Q:=by
 have ha:=gV hr hk
 have hf:a.eval f=σ.cv f:=sA hr hkf
 have hw:(Fence.wide.depth.isSome=true→1≤0):=fun h=>by simp[Fence.wide] at h
 have conv:∀e w',yq o σ I a K Q e w'→(match e,w' with
   | .returned v,w''=>gb o σ I a K (a.put o.dst v) w''
   | .panicked chain,w''=>Q (.panic chain) a w''
   | .outgrown,_=>LetsOut Q):=fun e w' h=>by cases e<;>exact h
 have hl:((c.args.map σ.cv).toList).toArray=c.args.map σ.cv:=Array.toArray_toList ..
 rcases h w hr.sat with ⟨fn,first,cap,hv,hg,ht⟩ | ⟨l,hv,ht⟩
 ·rw[hl] at ht
  have hrun:(execOp a.eval o).run P w=.ok (.enter fn (first++c.args.map σ.cv++cap)) w:=by
   simp only[execOp,ho,resolve,hc,hf,hv,Deferred.ofValue,Sem.run_bind,Sem.run_pure,Result.andThen_ok,invoke,ha]
   exact hg _ w
  refine eo ?_
  unfold Oper.wp
  rw[hrun,Oper.upon_enter]
  refine Calls.mono ht fun e w' he=>?_
  exact conv e w' (lY (Q:=Q) hr hQ he)
 ·obtain⟨f',tmps,iZ,body,w1,hy,hround⟩:=ht
  rw[hl] at hy
  have hrun:(execOp a.eval o).run P w=.ok (.round l f' tmps iZ body) w1:=by
   simp only[execOp,ho,resolve,hc,hf,hv,Deferred.ofValue,Sem.run_bind,Sem.run_pure,Result.andThen_ok,invoke,ha,Array.empty_append,Array.append_empty]
   exact hy
  unfold v8
  rw[hrun,Oper.uponIn_round]
  refine⟨hw,hround.mono fun e w' he=>?_⟩
  exact conv e w' (lY (Q:=Q) hr hQ he)
theorem lZ(hP:∀f,A.good f=true→di P f)(h:yp P A rid i o σ I F K Kp)(hr:Rel σ I F a w)
  (hQ:∀ch w' σ' I' F',Rel σ' I' F' a w'→cS.le I I'→Kp ch σ' I' F'→de σ σ'→Q (.panic ch) a w') :
  v8 P o a w (gb o σ I a K) Q:=by
 unfold yp at h
 split at h
 ·-- alloc
  rename_i t ho
  split at h
  ·rename_i z hz
   have hrun:(execOp a.eval o).run P w=.ok (.value (.pointer (some ⟨w.heap.size,0,none⟩))) { w with heap:=w.heap.push (.cells z.cells t) }:=by
    simp[execOp,ho,Instr.alloc,Sem.run_bind,kl hz,nL]
   refine eo ?_
   unfold Oper.wp
   rw[hrun,Oper.upon_value]
   cases hrl:A.rl rid i with
   | true=>rw[hrl] at h;exact nM hr _ (h w.heap.size)
   | false =>
   rw[hrl] at h
   have hk:=h w.heap.size
   exact lW hr t (AV.a (.v z)).cells (nN (by trivial)) z.cells (by rw[AV.la];rfl) (av:=.a (.p σ.own.length w.heap.size 0)) rfl (tC _ _) hk
  ·exact h.elim
 ·-- box
  rename_i t x ho
  split at h
  ·rename_i av hx
   have hrun:(execOp a.eval o).run P w=.ok (.value (.pointer (some ⟨w.heap.size,0,none⟩))) { w with heap:=w.heap.push (.cells av.g.cells t) }:=by
    simp[execOp,ho,Instr.box,Sem.run_bind,S.ja hr hx,nL]
   refine eo ?_
   unfold Oper.wp
   rw[hrun,Oper.upon_value]
   cases hrl:A.rl rid i with
   | true =>
     rw[hrl] at h
     have hk:=h w.heap.size
     have hcl:(av.cells.map AV.g).toArray=av.g.cells:=by rw[AV.la]
     rw[hcl] at hk
     exact nM hr _ hk
   | false =>
   rw[hrl] at h
   have hk:=h w.heap.size
   exact lW hr t av.cells (nN (S.yn hr hx)) av.g.cells (by rw[AV.la]) (av:=.a (.p σ.own.length w.heap.size 0)) rfl (tC _ _) hk
  ·exact h.elim
 ·rename_i t len parts ho;exact eo (qQ ho h hr)
 ·-- store
  rename_i t x y ho
  split at h
  ·rename_i j b off av hx hy
   split at h
   ·rename_i blk n hj hn
    obtain⟨h1,h⟩:=c6 h
    obtain⟨h2,h⟩:=c6 h
    exact eo (qP ho hx hy hj hn h1 h2 h hr)
   ·exact h.elim
  ·rename_i ad av hx hy
   obtain⟨h1,h⟩:=c6 h
   exact eo (uj ho hx hy h1 h hr)
  ·exact h.elim
 ·-- panic
  rename_i x ho
  split at h
  ·rename_i t v hx
   have hrun:(execOp a.eval o).run P w=.halt (.panic (.iface t v)) w:=by
    simp[execOp,ho,S.ja hr hx,AV.g,At.g,Instr.panic,goPanic,Sem.run_bind]
   refine eo ?_
   unfold Oper.wp
   rw[hrun,Oper.upon_panic]
   exact hQ _ _ _ _ _ hr (cS.le_refl I) h (de.refl σ)
  ·exact h.elim
 ·-- convert
  rename_i src dst x ho
  split at h
  ·obtain⟨hk,h⟩:=c6 h
   exact eo (fP h hr fun v w' hv=>by simp[execOp,ho,Sem.run_bind,sA hr hk,hv])
  ·obtain⟨hk,h⟩:=c6 h
   exact eo (fP h hr fun v w' hv=>by simp[execOp,ho,Sem.run_bind,sA hr hk,hv])
  ·exact eo (kE h hr)
 ·-- makeSlice
  rename_i t l c ho
  obtain⟨hk,h⟩:=c6 h
  have e1:=S.dt hr hk l (by simp)
  have e2:=S.dt hr hk c (by simp)
  exact eo (fP h hr fun v w' hv=>by simp[execOp,ho,Sem.run_bind,e1,e2,hv])
 ·-- makeMap
  rename_i t ho
  exact eo (fP h hr fun v w' hv=>by simp[execOp,ho,Sem.run_bind,hv])
 ·-- mapUpdate
  rename_i t m k x ho
  obtain⟨hk,h⟩:=c6 h
  have e1:=S.dt hr hk m (by simp)
  have e2:=S.dt hr hk k (by simp)
  have e3:=S.dt hr hk x (by simp)
  exact nQ h hr fun w' hv=>by simp[execOp,ho,Sem.run_bind,e1,e2,e3,hv]
 ·-- mapEntry
  rename_i t m k ho
  obtain⟨hk,h⟩:=c6 h
  have e1:=S.dt hr hk m (by simp)
  have e2:=S.dt hr hk k (by simp)
  exact eo (fP h hr fun v w' hv=>by simp[execOp,ho,Sem.run_bind,e1,e2,hv])
 ·-- entryStore
  rename_i t m k x ho
  obtain⟨hk,h⟩:=c6 h
  have e1:=S.dt hr hk m (by simp)
  have e2:=S.dt hr hk k (by simp)
  have e3:=S.dt hr hk x (by simp)
  exact nQ h hr fun w' hv=>by simp[execOp,ho,Sem.run_bind,e1,e2,e3,hv]
 ·-- defer
  rename_i c ho
  split at h
  ·rename_i f hc
   split at h
   ·rename_i fn first cap hf
    obtain⟨hk,h⟩:=c6 h
    have hrun:(execOp a.eval o).run P w=.ok (.defer (Df.d (.fn fn first cap (c.args.toList.map σ.cv)))) w:=by
     have ha:=gV hr hk
     simp only[execOp,ho,resolve,hc,S.ja hr hf,AV.g,Deferred.ofValue,Sem.run_bind,Sem.run_pure,Result.andThen_ok,ha,Df.d]
     congr 3
     simp
    refine eo ?_
    unfold Oper.wp
    rw[hrun,Oper.upon_defer]
    have hr2:Rel { σ with df:=.fn fn first cap (c.args.toList.map σ.cv)::σ.df } I F { a with defers:=Df.d (.fn fn first cap (c.args.toList.map σ.cv))::a.defers } w :=
     ⟨hr.size,hr.tm,by simp[hr.defers],hr.wft,hr.wfo,hr.sat⟩
    exact⟨_,I,F,hr2.forget o.dst undef,cS.le_refl I,h,fun i b hb=>⟨b,by rw[S.gL];exact hb,rfl,rfl,fun hro=>⟨hro,rfl⟩⟩,undef,by cases o.dst<;>rfl⟩
   ·exact h.elim
  ·exact h.elim
 ·-- lookup
  rename_i t m k ok ho
  obtain⟨hk,h⟩:=c6 h
  have e1:=S.dt hr hk m (by simp)
  have e2:=S.dt hr hk k (by simp)
  exact eo (fP h hr fun v w' hv=>by simp[execOp,ho,Sem.run_bind,e1,e2,hv])
 ·-- call
  rename_i c ho
  split at h
  ·rename_i hb
   obtain⟨hk,h⟩:=c6 h
   exact eo (fP h hr fun v w' hv=>by simp[execOp,ho,resolve,hb,invoke,builtin,Sem.run_bind,gV hr hk,hv])
  ·rename_i hb
   obtain⟨hk,h⟩:=c6 h
   exact eo (fP h hr fun v w' hv=>by simp[execOp,ho,resolve,hb,invoke,builtin,Sem.run_bind,gV hr hk,hv])
  ·exact eo (kE h hr)
  ·exact h.elim
  ·rename_i f hc
   obtain⟨hk,h⟩:=c6 h
   cases hfv:A.fv rid i with
   | true =>
     rw[hfv] at h
     obtain⟨hkf,h⟩:=c6 h
     exact qR ho hc hk hkf h hr hQ
   | false =>
   rw[hfv] at h
   simp only[cond_false] at h
   split at h
   ·rename_i fn first cap hf
    obtain⟨hg,h⟩:=c6 h
    have hrun:(execOp a.eval o).run P w=.ok (.enter fn ((first.map At.g).toArray++c.args.map σ.cv++(cap.map At.g).toArray)) w:=by
     simp only[execOp,ho,resolve,hc,S.ja hr hf,AV.g,Deferred.ofValue,Sem.run_bind,Sem.run_pure,Result.andThen_ok,invoke,gV hr hk]
     exact hP fn hg _ w
    refine eo ?_
    unfold Oper.wp
    rw[hrun,Oper.upon_enter]
    exact nP h hr hQ
   ·rename_i fn first cap hf
    obtain⟨hg,h⟩:=h
    have hrun:(execOp a.eval o).run P w=.ok (.enter fn (first++c.args.map σ.cv++cap)) w:=by
     simp only[execOp,ho,resolve,hc,S.ja hr hf,AV.g,At.g,Deferred.ofValue,Sem.run_bind,Sem.run_pure,Result.andThen_ok,invoke,gV hr hk]
     exact hg _ w
    refine eo ?_
    unfold Oper.wp
    rw[hrun,Oper.upon_enter]
    exact nP h hr hQ
   ·exact h.elim
 ·exact eo (kE h hr)
end sound
end Go.Vc
namespace Go.Vc
def waits(ops:Array Oper)(i j:Nat):Bool :=
 match ops[i]? with
 | some o=>o.after.toList.any fun e=>Region.binds .any e&&e.on==j
 | none=>false
def dB(ops:Array Oper):Nat→Nat→Nat→Bool
 | 0,i,j=>waits ops i j
 | f+1,i,j=>waits ops i j||(match ops[i]? with
   | some o=>o.after.toList.any fun e=>Region.binds .any e&&(decide (j<e.on)&&dB ops f e.on j)
   | none=>false)
def wr(ops:Array Oper)(i j:Nat):Bool:=dB ops 3 i j
def tmpsOf:List Operand→List Nat
 | []=>[]
 | .tmp t::r=>t::tmpsOf r
 | _::r=>tmpsOf r
def looks(ops:Array Oper)(o:Oper):List Nat :=
 tmpsOf o.op.operands.toList++match o.guard with
  | some (j,_)=>((ops[j]?).bind Oper.dst).toList
  | none=>[]
def xb:Op→Bool
 | .select .. => false
 | _=>true
def gH(l:List Oper):List Nat:=l.filterMap Oper.dst
def je:List Nat→Bool
 | []=>true
 | x::r=>!r.contains x&&je r
def qS(ops:Array Oper)(i:Nat)(o:Oper):Nat→List Oper→Bool
 | _,[]=>true
 | j,p::r=>(match p.dst with
   | some t=>!((looks ops o).contains t)||j==i||cond (decide (j<i)) (waits ops i j) (waits ops j i)
   | none=>true)&&qS ops i o (j+1) r
def we(ops:Array Oper)(l:List Oper):Nat→List Oper→Bool
 | _,[]=>true
 | i,o::r=>xb o.op&&(o.after.toList.all fun e=>!(Region.binds .any e)||decide (e.on<i))&&qS ops i o 0 l&&we ops l (i+1) r
def mH(ops:Array Oper):Bool:=je (gH ops.toList)&&we ops ops.toList 0 ops.toList
theorem jf:∀{l:List Oper},je (gH l)=true→∀{i j:Nat} {o p:Oper} {t:Nat},l[i]? = some o→l[j]? = some p→o.dst=some t→p.dst=some t→i=j
 | [],_,i,j,o,p,t,hi,_,_,_=>by simp at hi
 | q::l,h,i,j,o,p,t,hi,hj,ho,hp=>by
   have hsub:∀{k:Nat} {r:Oper},l[k]? = some r→r.dst=some t→t∈gH l:=fun hk hr=>List.mem_filterMap.2 ⟨_,List.mem_of_getElem? hk,hr⟩
   have hl:je (gH l)=true:=by
    unfold gH at h ⊢;rw[List.filterMap_cons] at h;split at h
    ·exact h
    ·simp only[je,Bool.and_eq_true] at h;exact h.2
   have hq:q.dst=some t→t∉gH l:=fun e=>by
    unfold gH at h ⊢;rw[List.filterMap_cons,e] at h
    simp only[je,Bool.and_eq_true,Bool.not_eq_true'] at h
    intro hm;have:=h.1;simp at this;exact absurd hm (by simpa[gH] using this)
   cases i with
   | zero =>
     simp only[List.getElem?_cons_zero,Option.some.injEq] at hi;subst hi
     cases j with
     | zero=>rfl
     | succ j=>exact absurd (hsub (by simpa using hj) hp) (hq ho)
   | succ i =>
     cases j with
     | zero=>simp only[List.getElem?_cons_zero,Option.some.injEq] at hj;subst hj;exact absurd (hsub (by simpa using hi) ho) (hq hp)
     | succ j=>exact congrArg (·+1) (jf hl (i:=i) (j:=j) (by simpa using hi) (by simpa using hj) ho hp)
theorem pA{ops:Array Oper}{i:Nat}{o:Oper}:∀{l:List Oper} {k:Nat},qS ops i o k l=true→∀{j:Nat} {p:Oper} {t:Nat},l[j]? = some p→p.dst=some t→t∈looks ops o →
  k+j=i∨(k+j<i∧waits ops i (k+j)=true)∨(i<k+j∧waits ops (k+j) i=true)
 | [],k,_,j,p,t,hj,_,_=>by simp at hj
 | q::l,k,h,j,p,t,hj,hp,ht=>by
   simp only[qS,Bool.and_eq_true] at h
   cases j with
   | zero =>
     simp only[List.getElem?_cons_zero,Option.some.injEq] at hj;subst hj
     have h1:=h.1
     rw[hp] at h1
     simp only[Bool.or_eq_true,Bool.not_eq_true',List.contains_eq_mem,decide_eq_false_iff_not,beq_iff_eq] at h1
     rcases h1 with (h1 | h1) | h1
     ·exact absurd ht h1
     ·exact .inl (by omega)
     ·by_cases hlt:k<i
      ·have e:decide (k<i)=true:=decide_eq_true hlt
       rw[e] at h1;exact .inr (.inl ⟨by omega,h1⟩)
      ·have e:decide (k<i)=false:=decide_eq_false hlt
       rw[e] at h1
       by_cases he:k=i
       ·exact .inl (by omega)
       ·exact .inr (.inr ⟨by omega,h1⟩)
   | succ j =>
     have:=pA h.2 (j:=j) (by simpa using hj) hp ht
     rwa [show k+1+j=k+(j+1) by omega] at this
theorem lg{ops:Array Oper}{l:List Oper}:∀{m:List Oper} {k:Nat},we ops l k m=true→∀{i:Nat} {o:Oper},m[i]? = some o →
  xb o.op=true∧(∀e∈o.after,Region.binds .any e=true→e.on<k+i)∧qS ops (k+i) o 0 l=true
 | [],k,_,i,o,hi=>by simp at hi
 | q::m,k,h,i,o,hi=>by
   simp only[we,Bool.and_eq_true] at h
   cases i with
   | zero =>
     simp only[List.getElem?_cons_zero,Option.some.injEq] at hi;subst hi
     refine⟨h.1.1.1,fun e he hb=>?_,h.1.2⟩
     have:=List.all_eq_true.1 h.1.1.2 e (by simpa using he)
     simp only[hb,Bool.not_true,Bool.false_or,decide_eq_true_eq] at this
     omega
   | succ i =>
     have:=lg h.2 (i:=i) (by simpa using hi)
     rwa [show k+1+i=k+(i+1) by omega] at this
def iD(P:Program)(v:Value)(C:World→Prop):Result Next→Prop
 | .ok (.value u) w'=>u=v∧C w'
 | .ok .skip w'=>v=undef∧C w'
 | .ok (.enter f args) w'=>Calls P f args w' fun e w''=>e=.returned v∧C w''
 | _=>False
def dD(a:Act):List Oper→List Value→Nat→Act
 | o::l,v::vs,n+1=>dD (a.put o.dst v) l vs n
 | _,_,_=>a
theorem put_defers(a:Act)(d:Option Nat)(v:Value):(a.put d v).defers=a.defers:=by cases d<;>rfl
theorem nR(a:Act)(d:Option Nat)(v:Value):(a.put d v).tmps.size=a.tmps.size:=by cases d<;>simp[Act.put]
theorem nS:∀(l:List Oper) (vs:List Value) (n:Nat) (a:Act),(dD a l vs n).tmps.size=a.tmps.size∧(dD a l vs n).defers=a.defers
 | o::l,v::vs,n+1,a=>by
   have:=nS l vs n (a.put o.dst v)
   simp only[dD];exact⟨this.1.trans (nR _ _ _),this.2.trans (put_defers _ _ _)⟩
 | [],vs,n,a=>by simp[dD]
 | o::l,[],n,a=>by simp[dD]
 | o::l,v::vs,0,a=>by simp[dD]
theorem ma:∀(l:List Oper) (vs:List Value) (n:Nat) (a:Act) (t:Nat),vs.length=l.length→je (gH l)=true →
  (∀(j:Nat) (o:Oper),l[j]? = some o→o.dst=some t→(dD a l vs n).tmps[t]? = if j<n then (if t<a.tmps.size then vs[j]? else none) else a.tmps[t]?) ∧
  ((∀(j:Nat) (o:Oper),l[j]? = some o→o.dst≠some t)→(dD a l vs n).tmps[t]? = a.tmps[t]?)
 | [],vs,n,a,t,hl,_=>by
   have:dD a [] vs n=a:=by cases vs<;>cases n<;>rfl
   exact⟨fun j o hj=>by simp at hj,fun _=>by rw[this]⟩
 | o::l,[],n,a,t,hl,_=>by simp at hl
 | o::l,v::vs,0,a,t,hl,_=>⟨fun j p hj hp=>by simp[dD],fun _=>by simp[dD]⟩
 | o::l,v::vs,n+1,a,t,hl,hd=>by
   have hdl:je (gH l)=true:=by
    unfold gH at hd ⊢;rw[List.filterMap_cons] at hd;split at hd
    ·exact hd
    ·simp only[je,Bool.and_eq_true] at hd;exact hd.2
   obtain⟨h1,h2⟩:=ma l vs n (a.put o.dst v) t (by simpa using hl) hdl
   simp only[dD]
   constructor
   ·intro j p hj hp
    cases j with
    | zero =>
      simp only[List.getElem?_cons_zero,Option.some.injEq] at hj;subst hj
      have hnone:∀(k:Nat) (q:Oper),l[k]? = some q→q.dst≠some t:=fun k q hk hq=>by
       have:=jf hd (i:=0) (j:=k+1) (by simp) (by simpa using hk) hp hq
       omega
      rw[h2 hnone,hp]
      by_cases hs:t<a.tmps.size<;>simp[Act.put,Array.getElem?_setIfInBounds,hs]
    | succ j =>
      have:=h1 j p (by simpa using hj) hp
      rw[this]
      have hne:o.dst≠some t:=fun ho=>by
       have:=jf hd (i:=0) (j:=j+1) (by simp) hj ho hp
       omega
      have hput:(a.put o.dst v).tmps[t]? = a.tmps[t]?:=by
       cases ho:o.dst with
       | none=>rfl
       | some d =>
         have:d≠t:=fun e=>hne (by rw[ho,e])
         simp[Act.put,Array.getElem?_setIfInBounds,this]
      simp only[nR,hput,List.getElem?_cons_succ,Nat.add_lt_add_iff_right]
   ·intro hno
    rw[h2 fun k q hk=>hno (k+1) q (by simpa using hk)]
    cases ho:o.dst with
    | none=>rfl
    | some d =>
      have:d≠t:=fun e=>hno 0 o (by simp) (by rw[ho,e])
      simp[Act.put,Array.getElem?_setIfInBounds,this]
theorem sB{ops:Array Oper}{o:Oper}{a b:Act}(h:∀t∈looks ops o,a.tmps[t]? = b.tmps[t]?):(∀x∈o.op.operands.toList,a.eval x=b.eval x) ∧
  Region.wanted o (yielded ops a.tmps)=Region.wanted o (yielded ops b.tmps):=by
 constructor
 ·intro x hx
  cases x with
  | tmp t =>
    have hm:t∈tmpsOf o.op.operands.toList:=by
     generalize o.op.operands.toList=l at hx
     induction l with
     | nil=>cases hx
     | cons y r ih =>
       rcases List.mem_cons.1 hx with rfl | hx2
       ·simp[tmpsOf]
       ·have h3:=ih hx2
        cases y<;>simp only[tmpsOf]<;>first | exact List.mem_cons_of_mem _ h3 | exact h3
    have:=h t (List.mem_append_left _ hm)
    simp[Act.eval,this]
  | _=>rfl
 ·unfold Region.wanted
  cases hg:o.guard with
  | none=>rfl
  | some jb =>
    obtain⟨j,b'⟩:=jb
    simp only
    have:yielded ops a.tmps j=yielded ops b.tmps j:=by
     unfold yielded
     cases hd:(ops[j]?).bind Oper.dst with
     | none=>rfl
     | some d =>
       have:=h d (List.mem_append_right _ (by simp[hg,hd]))
       simp[this]
    rw[this]
def mb:List Bool→Nat
 | []=>0
 | true::r=>mb r
 | false::r=>mb r+1
theorem p6:∀(l:List Bool) (i:Nat),l[i]? = some false→mb (l.set i true)+1=mb l
 | [],i,h=>by simp at h
 | b::l,0,h=>by simp at h;subst h;simp[mb]
 | b::l,i+1,h=>by
   have:=p6 l i (by simpa using h)
   cases b<;>simp[mb]<;>omega
theorem nT:∀(l:List Bool),mb l=0→∀i,i<l.length→l[i]? = some true
 | [],_,i,h=>by simp at h
 | true::l,h,0,_=>rfl
 | true::l,h,i+1,hi=>by simpa using nT l h i (by simpa using hi)
 | false::l,h,i,_=>by simp[mb] at h
theorem km(n:Nat):mb (List.replicate n false)=n:=by
 induction n with
 | zero=>rfl
 | succ n ih=>simp[List.replicate_succ,mb,ih]
def Fw(ro:Option Nat):Fence:={ Fence.wide with round:=ro }
theorem wg{P:Program}{o:Oper}{a:Act}{next:Act→World→Prop}{Q:Exit→Act→World→Prop}{res:Result Next}(ro:Option Nat)(h:o.uponIn Fence.wide 0 P a next Q res):o.uponIn (Fw ro) 0 P a next Q res:=by
 cases res with
 | halt x w'=>cases x<;>exact h
 | ok n w'=>cases n<;>exact h
theorem ni{P:Program}{o:Oper}{a:Act}{w:World}{next:Act→World→Prop}{Q:Exit→Act→World→Prop}{ro:Option Nat}(ho:ro=none∨∀c,o.op ≠ .defer c)(h:v8 P o a w next Q):o.wpIn (Fw ro) 0 P a w next Q:=by
 refine⟨fun _ _=>trivial, ?_⟩
 have e:o.semAt (Fw ro).round a.eval=execOp a.eval o:=by
  rcases ho with rfl | ho
  ·rfl
  ·exact Oper.semAt_eq ro a.eval o ho
 rw[e]
 exact wg ro h
theorem o6{P:Program}{v:Value}{C:World→Prop}{ρ:Operand→Value}{o:Oper}{w:World}(h:iD P v C ((execOp ρ o).run P w)):∀c,o.op ≠ .defer c:=by
 intro c ho
 have e:execOp ρ o=(do pure (.defer (←resolve ρ c o.type)):Sem Next):=by simp only[execOp,ho]
 rw[e,Sem.run_bind] at h
 cases hr:(resolve ρ c o.type).run P w with
 | ok d w'=>rw[hr] at h;simp only[Result.andThen_ok,Sem.run_pure,iD] at h
 | halt x w'=>rw[hr] at h;exact h
theorem qT{P:Program}{ops:Array Oper}{n:Nat}{ro:Option Nat}{C:Bool→World→Prop}{Q:Exit→Act→World→Prop}{a:Act}{w:World}(hB:mH ops=true)
  (vs:List Value) (hvl:vs.length=ops.size)
  (hop:∀(i:Nat) (o:Oper) (v:Value),ops[i]? = some o→vs[i]? = some v →
    if Region.wanted o (yielded ops (dD a ops.toList vs i).tmps) then
     ∀b w,C b w→(b=true→i≠n∧wr ops n i=false)→(i=n→b=false)→(b=false→wr ops i n=false)→iD P v (C (b||i==n)) ((execOp (dD a ops.toList vs i).eval o).run P w)
    else v=undef∧i≠n)
  (hw:C false w) (hQ:∀w',C (decide (n<ops.size)) w'→Q .normal (dD a ops.toList vs ops.size) w'):wpAnyIn (Fw ro) 0 P .any ops Q ops.size (Array.replicate ops.size false) a w:=by
 simp only[mH,Bool.and_eq_true] at hB
 obtain⟨hnd,hall⟩:=hB
 have key:∀(fuel:Nat) (listed:Array Bool) (a':Act) (w':World),listed.size=ops.size→mb listed.toList=fuel →
   (∀(j:Nat) (o:Oper),ops[j]? = some o→listed[j]? = some true→∀e∈o.after,Region.binds .any e=true→listed[e.on]? = some true) →
   a'.tmps.size=a.tmps.size→a'.defers=a.defers →
   (∀(j:Nat) (o:Oper) (t:Nat),ops[j]? = some o→o.dst=some t→a'.tmps[t]? = if listed[j]? = some true then (if t<a.tmps.size then vs[j]? else none) else a.tmps[t]?) →
   (∀(t:Nat),(∀(j:Nat) (o:Oper),ops[j]? = some o→o.dst≠some t)→a'.tmps[t]? = a.tmps[t]?) →
   C (listed.getD n false) w'→wpAnyIn (Fw ro) 0 P .any ops Q fuel listed a' w':=by
  intro fuel
  induction fuel with
  | zero =>
    intro listed a' w' hsz hc hcl hs hd ht1 ht2 hCw
    have hon:∀i,i<ops.size→listed[i]? = some true:=fun i hi=>by
     have:=nT _ hc i (by simpa[hsz] using hi)
     simpa using this
    have hact:a'=dD a ops.toList vs ops.size:=by
     obtain⟨e1,e2⟩:=nS ops.toList vs ops.size a
     have:a'.tmps=(dD a ops.toList vs ops.size).tmps:=by
      apply Array.ext_getElem?
      intro t
      obtain⟨g1,g2⟩:=ma ops.toList vs ops.size a t (by simpa using hvl) hnd
      by_cases hex:∃(j:Nat) (o:Oper),ops[j]? = some o∧o.dst=some t
      ·obtain⟨j,o,hj,ho⟩:=hex
       have hlt:j<ops.size:=by
        rcases Nat.lt_or_ge j ops.size with h | h
        ·exact h
        ·simp[Array.getElem?_eq_none h] at hj
       rw[ht1 j o t hj ho,if_pos (hon j hlt),g1 j o (by simpa using hj) ho,if_pos hlt]
      ·have hno:∀(j:Nat) (o:Oper),ops[j]? = some o→o.dst≠some t:=fun j o hj ho=>hex ⟨j,o,hj,ho⟩
       rw[ht2 t hno,g2 fun j o hj=>hno j o (by simpa using hj)]
     have h2:a'.defers=(dD a ops.toList vs ops.size).defers:=hd.trans e2.symm
     cases a';simp only at this h2;subst this;subst h2;rfl
    refine⟨?_, ?_⟩
    ·cases hr:Region.ready .any ops listed with
     | nil=>rfl
     | cons i r =>
       have:i∈Region.ready .any ops listed:=by rw[hr];exact List.mem_cons_self ..
       obtain⟨h1,o,ho,_⟩:=mem_ready.1 this
       have hlt:i<ops.size:=by
        rcases Nat.lt_or_ge i ops.size with h | h
        ·exact h
        ·simp[Array.getElem?_eq_none h] at ho
       have:=hon i hlt
       simp[Array.getD_eq_getD_getElem?,this] at h1
    ·rw[hact]
     refine hQ w' ?_
     have:listed.getD n false=decide (n<ops.size):=by
      by_cases hn:n<ops.size
      ·simp[Array.getD_eq_getD_getElem?,hon n hn,hn]
      ·rw[Array.getD_eq_getD_getElem?,Array.getElem?_eq_none (by omega)];simp[hn]
     rw[←this];exact hCw
  | succ fuel ih =>
    intro listed a' w' hsz hc hcl hs hd ht1 ht2 hCw
    have hone:∃i,i∈Region.ready .any ops listed:=by
     have hex:∃i,i<ops.size∧listed[i]? = some false:=by
      refine Classical.byContradiction fun hno=>?_
      have:∀(l:List Bool),(∀i,i<l.length→l[i]? ≠ some false)→mb l=0:=by
       intro l
       induction l with
       | nil=>intro _;rfl
       | cons b l ih' =>
         intro h
         cases b with
         | true=>exact ih' fun i hi=>by simpa using h (i+1) (by simpa using hi)
         | false=>exact absurd rfl (h 0 (by simp))
      have h0:=this listed.toList fun i hi hf=>hno ⟨i,by simpa[hsz] using hi,by simpa using hf⟩
      omega
     have hmin:∀m i,i≤m→i<ops.size→listed[i]? = some false→∃k,k<ops.size∧listed[k]? = some false∧∀j,j<k→listed[j]? = some true:=by
      intro m
      induction m with
      | zero=>intro i h1 h2 h3;exact⟨i,h2,h3,fun j hj=>by omega⟩
      | succ m ihm =>
        intro i h1 h2 h3
        by_cases hall':∀j,j<i→listed[j]? = some true
        ·exact⟨i,h2,h3,hall'⟩
        ·obtain⟨j,hj⟩:=Classical.not_forall.1 hall'
         obtain⟨hji,hjn⟩:=Classical.not_imp.1 hj
         have hjs:j<listed.size:=by omega
         have:listed[j]? = some false:=by
          rw[Array.getElem?_eq_getElem hjs] at hjn ⊢
          cases hb:listed[j] with
          | true=>rw[hb] at hjn;exact absurd rfl hjn
          | false=>rfl
         exact ihm j (by omega) (by omega) this
     obtain⟨i,hi,hf⟩:=hex
     obtain⟨k,hk,hkf,hkall⟩:=hmin i i (Nat.le_refl _) hi hf
     refine⟨k,mem_ready.2 ⟨by simp[Array.getD_eq_getD_getElem?,hkf],ops[k],by simp[hk],fun e he hb=>?_⟩⟩
     have:=(lg hall (i:=k) (o:=ops[k]) (by simp[hk])).2.1 e he hb
     have:=hkall e.on (by omega)
     simp[Array.getD_eq_getD_getElem?,this]
    refine⟨fun h0=>(by obtain⟨i,hi⟩:=hone;rw[h0] at hi;cases hi),fun i hi=>?_⟩
    obtain⟨hun,o,ho,hall'⟩:=mem_ready.1 hi
    have hlt:i<ops.size:=by
     rcases Nat.lt_or_ge i ops.size with h | h
     ·exact h
     ·simp[Array.getElem?_eq_none h] at ho
    have hun':listed[i]? = some false:=by
     have hjs:i<listed.size:=by omega
     rw[Array.getElem?_eq_getElem hjs]
     simp[Array.getD_eq_getD_getElem?,hjs] at hun
     rw[hun]
    obtain⟨v,hv⟩:∃v,vs[i]? = some v:=⟨vs[i],by simp[hvl,hlt]⟩
    obtain⟨hsel,hback,hpair⟩:=lg hall (i:=i) (o:=o) (by simpa using ho)
    rw[Nat.zero_add] at hback hpair
    have hwait:∀j,waits ops i j=true→listed[j]? = some true:=fun j hj=>by
     unfold waits at hj
     rw[ho] at hj
     obtain⟨e,he,hb⟩:=List.any_eq_true.1 hj
     simp only[Bool.and_eq_true,beq_iff_eq] at hb
     have:=hall' e (by simpa using he) hb.1
     rw[hb.2] at this
     have hjs:j<listed.size:=by
      rcases Nat.lt_or_ge j listed.size with h | h
      ·exact h
      ·simp[Array.getD_eq_getD_getElem?,Array.getElem?_eq_none h] at this
     simp[Array.getD_eq_getD_getElem?,hjs] at this
     simp[hjs,this]
    have hwait':∀j p,ops[j]? = some p→waits ops j i=true→listed[j]? ≠ some true:=fun j p hp hj hon=>by
     unfold waits at hj
     rw[hp] at hj
     obtain⟨e,he,hb⟩:=List.any_eq_true.1 hj
     simp only[Bool.and_eq_true,beq_iff_eq] at hb
     have:=hcl j p hp hon e (by simpa using he) hb.1
     rw[hb.2,hun'] at this
     cases this
    have hedge:∀(f j k:Nat) (p:Oper),ops[j]? = some p→dB ops f j k=true→listed[j]? = some true→listed[k]? = some true:=by
     intro f
     induction f with
     | zero =>
       intro j k p hp hw hon
       unfold dB waits at hw
       rw[hp] at hw
       obtain⟨e,he,hb⟩:=List.any_eq_true.1 hw
       simp only[Bool.and_eq_true,beq_iff_eq] at hb
       have:=hcl j p hp hon e (by simpa using he) hb.1
       rwa [hb.2] at this
     | succ f ihf =>
       intro j k p hp hw hon
       unfold dB at hw
       rw[Bool.or_eq_true] at hw
       rcases hw with hw | hw
       ·unfold waits at hw
        rw[hp] at hw
        obtain⟨e,he,hb⟩:=List.any_eq_true.1 hw
        simp only[Bool.and_eq_true,beq_iff_eq] at hb
        have:=hcl j p hp hon e (by simpa using he) hb.1
        rwa [hb.2] at this
       ·rw[hp] at hw
        obtain⟨e,he,hb⟩:=List.any_eq_true.1 hw
        simp only[Bool.and_eq_true] at hb
        have hon':=hcl j p hp hon e (by simpa using he) hb.1
        have hes:e.on<ops.size:=by
         rcases Nat.lt_or_ge e.on ops.size with h | h
         ·exact h
         ·rw[Array.getElem?_eq_none (by omega)] at hon';cases hon'
        exact ihf e.on k ops[e.on] (by simp[hes]) hb.2.2 hon'
    have hwaitT:∀j,wr ops i j=true→listed[j]? = some true:=fun j hj=>by
     unfold wr dB at hj
     rw[Bool.or_eq_true] at hj
     rcases hj with hj | hj
     ·exact hwait j hj
     ·rw[ho] at hj
      obtain⟨e,he,hb⟩:=List.any_eq_true.1 hj
      simp only[Bool.and_eq_true] at hb
      have hon:listed[e.on]? = some true:=hwait e.on (by
       unfold waits;rw[ho]
       exact List.any_eq_true.2 ⟨e,he,by simp[hb.1]⟩)
      have hes:e.on<ops.size:=by
       rcases Nat.lt_or_ge e.on ops.size with h | h
       ·exact h
       ·rw[Array.getElem?_eq_none (by omega)] at hon;cases hon
      exact hedge 2 e.on j ops[e.on] (by simp[hes]) hb.2.2 hon
    have hwaitT':∀j p,ops[j]? = some p→wr ops j i=true→listed[j]? ≠ some true:=fun j p hp hj hon=>by
     have:=hedge 3 j i p hp hj hon
     rw[hun'] at this;cases this
    have hlook:∀t∈looks ops o,a'.tmps[t]? = (dD a ops.toList vs i).tmps[t]?:=by
     intro t htl
     obtain⟨g1,g2⟩:=ma ops.toList vs i a t (by simpa using hvl) hnd
     by_cases hex:∃(j:Nat) (p:Oper),ops[j]? = some p∧p.dst=some t
     ·obtain⟨j,p,hj,hp⟩:=hex
      rw[ht1 j p t hj hp,g1 j p (by simpa using hj) hp]
      rcases pA hpair (j:=j) (p:=p) (by simpa using hj) hp htl with h | h | h
      ·rw[Nat.zero_add] at h
       subst h
       rw[if_neg (by rw[hun'];simp),if_neg (by omega)]
      ·rw[Nat.zero_add] at h
       rw[if_pos (hwait j h.2),if_pos h.1]
      ·rw[Nat.zero_add] at h
       rw[if_neg (hwait' j p hj h.2),if_neg (by omega)]
     ·have hno:∀(j:Nat) (p:Oper),ops[j]? = some p→p.dst≠some t:=fun j p hj hp=>hex ⟨j,p,hj,hp⟩
      rw[ht2 t hno,g2 fun j p hj=>hno j p (by simpa using hj)]
    obtain⟨hev,hwant⟩:=sB hlook
    have hcong:execOp a'.eval o=execOp (dD a ops.toList vs i).eval o:=execOp_congr o (fun cs b e=>by rw[e] at hsel;cases hsel) hev
    have hstep:=hop i o v ho hv
    rw[←hwant,←hcong] at hstep
    have hnext:∀w'',C (listed.getD n false||i==n) w''→wpAnyIn (Fw ro) 0 P .any ops Q fuel (listed.setIfInBounds i true) (a'.put o.dst v) w'':=by
     intro w'' hC
     have hset:∀j,(listed.setIfInBounds i true)[j]? = if i=j then some true else listed[j]?:=fun j=>by
      rw[Array.getElem?_setIfInBounds]
      by_cases hij:i=j
      ·subst hij;simp[show i<listed.size by omega]
      ·simp[hij]
     refine ih _ _ _ (by simp[hsz]) ?_ ?_ ((nR _ _ _).trans hs) ((put_defers _ _ _).trans hd) ?_ ?_ ?_
     ·have:=p6 listed.toList i (by simpa using hun')
      simp only[Array.toList_setIfInBounds]
      omega
     ·intro j p hj hon e he hb
      rw[hset] at hon ⊢
      by_cases hij:i=j
      ·subst hij
       rw[ho] at hj;cases hj
       have:=hall' e he hb
       split
       ·rfl
       ·have hes:e.on<listed.size:=by
         rcases Nat.lt_or_ge e.on listed.size with h | h
         ·exact h
         ·simp[Array.getD_eq_getD_getElem?,Array.getElem?_eq_none h] at this
        simp[Array.getD_eq_getD_getElem?,hes] at this
        simp[hes,this]
      ·rw[if_neg hij] at hon
       split
       ·rfl
       ·exact hcl j p hj hon e he hb
     ·intro j p t hj hp
      rw[hset]
      by_cases hij:i=j
      ·subst hij
       rw[ho] at hj;cases hj
       rw[if_pos rfl,if_pos rfl,hp,hv]
       by_cases hts:t<a.tmps.size<;>simp[Act.put,Array.getElem?_setIfInBounds,hs,hts]
      ·rw[if_neg hij,←ht1 j p t hj hp]
       have hne:o.dst≠some t:=fun h=>hij (jf hnd (by simpa using ho) (by simpa using hj) h hp)
       cases hd':o.dst with
       | none=>rfl
       | some d =>
         have:d≠t:=fun e=>hne (by rw[hd',e])
         simp[Act.put,Array.getElem?_setIfInBounds,this]
     ·intro t hno
      rw[←ht2 t hno]
      have hne:=hno i o ho
      cases hd':o.dst with
      | none=>rfl
      | some d =>
        have:d≠t:=fun e=>hne (by rw[hd',e])
        simp[Act.put,Array.getElem?_setIfInBounds,this]
     ·have:(listed.setIfInBounds i true).getD n false=(listed.getD n false||i==n):=by
       simp only[Array.getD_eq_getD_getElem?,hset]
       by_cases hin:i=n
       ·subst hin;simp
       ·simp[hin]
      rw[this];exact hC
    unfold wpOpIn
    simp only[ho]
    split
    ·rename_i hw'
     rw[if_pos hw'] at hstep
     have hcom:=hstep _ w' hCw (fun hb=>by
      refine⟨fun e=>?_, ?_⟩
      ·subst e;simp[Array.getD_eq_getD_getElem?,hun'] at hb
      ·cases hwn:wr ops n i with
       | false=>rfl
       | true =>
         have hnl:n<listed.size:=by
          rcases Nat.lt_or_ge n listed.size with h | h
          ·exact h
          ·simp[Array.getD_eq_getD_getElem?,Array.getElem?_eq_none h] at hb
         have:ops[n]? = some ops[n]:=by simp[show n<ops.size by omega]
         have:=hwaitT' n _ this hwn
         simp[Array.getD_eq_getD_getElem?,hnl] at hb
         simp[hnl,hb] at this) (fun e=>by subst e;simp[Array.getD_eq_getD_getElem?,hun']) (fun hb=>by
       cases hwn:wr ops i n with
       | false=>rfl
       | true =>
         have:=hwaitT n hwn
         simp[Array.getD_eq_getD_getElem?,this] at hb)
     refine ni (.inr (o6 hcom)) (tE ?_)
     revert hcom
     generalize (execOp a'.eval o).run P w'=res
     intro hcom
     cases res with
     | ok nx w2 =>
       cases nx<;>simp only[iD] at hcom<;>simp only[Oper.upon]<;>first | exact hcom.elim | skip
       ·rw[hcom.1];exact hnext _ hcom.2
       ·have:=hnext _ hcom.2;rw[hcom.1] at this;exact this
       ·exact hcom.mono fun e w3 ⟨he,hC⟩=>by subst he;exact hnext _ hC
     | halt x w2=>simp only[iD] at hcom
    ·rename_i hw'
     rw[if_neg hw'] at hstep
     refine⟨fun _ _=>trivial, ?_⟩
     rw[←hstep.1]
     refine hnext w' ?_
     have:(i==n)=false:=by simpa using hstep.2
     rw[this,Bool.or_false];exact hCw
 refine key ops.size _ a _ (by simp) (by simp[km]) ?_ rfl rfl ?_ (fun _ _=>rfl) ?_
 ·intro j o hj hon;simp only[Array.getElem?_replicate] at hon;split at hon<;>simp at hon
 ·intro j o t hj ho
  rw[if_neg]
  simp only[Array.getElem?_replicate];split<;>simp
 ·have:(Array.replicate ops.size false).getD n false=false:=by
   simp only[Array.getD_eq_getD_getElem?,Array.getElem?_replicate];split<;>rfl
  rw[this];exact hw
def want(ops:Array Oper)(σ:S)(o:Oper):Option Bool :=
 match o.guard with
 | none=>some true
 | some (j,b) =>
   match (ops[j]?).bind Oper.dst with
   | some d=>match σ.tm[d]? with
     | some (some (.a (.v (.bool t))))=>some (t==b)
     | some (some (.a (.v (.tuple _))))=>some false
     | _=>none
   | none=>none
theorem eD{ops:Array Oper}{σ:S}{o:Oper}{b:Bool}(h:want ops σ o=some b){a:Act}(hr:mZ σ a) :
  Region.wanted o (yielded ops a.tmps)=b:=by
 unfold want at h
 unfold Region.wanted
 split at h
 ·rename_i hg;simp only[Option.some.injEq] at h;subst h;simp[hg]
 ·rename_i j b' hg
  split at h
  ·rename_i d hd
   split at h
   ·rename_i t ht
    simp only[Option.some.injEq] at h
    have:=hr.tm d _ ht
    simp only[AV.g,At.g] at this
    simp only[hg,yielded,hd,Option.bind_some,this]
    rw[←h];cases t<;>cases b'<;>rfl
   ·rename_i ts ht
    simp only[Option.some.injEq] at h
    have:=hr.tm d _ ht
    simp only[AV.g,At.g] at this
    simp only[hg,yielded,hd,Option.bind_some,this]
    rw[←h];cases b'<;>rfl
   ·cases h
  ·cases h
def p7(P:Program)(A:kg)(rid:Nat)(ops:Array Oper):List Oper→Nat→S→cS→cR →
  (S→cS→cR→Prop)→(List PanicEntry→S→cS→cR→Prop)→Prop
 | [],_,σ,I,F,K,_=>K σ I F
 | o::r,i,σ,I,F,K,Kp =>
   match want ops σ o with
   | some true=>yp P A rid i o σ I F (fun σ' I' F'=>p7 P A rid ops r (i+1) σ' I' F' K Kp) Kp
   | some false=>p7 P A rid ops r (i+1) (σ.put o.dst (some (.a (.v undef)))) I F K Kp
   | none=>False
def fr(ops:Array Oper)(n i:Nat):Bool:=decide (ops.size≤n)||wr ops n i
def fU(ops:Array Oper)(n:Nat):Bool:=(n+1==ops.size)&&(List.range ops.size).all fun k=>k==n||wr ops n k
def p8(P:Program)(ops:Array Oper)(n:Nat)(hid:List Nat)(o:Oper)(σ:S)(F:cR)(K:S→cR→Prop):Prop :=
 match o.op with
 | .store t x y=>match σ.ev x,σ.ev y with
   | some (.a (.p j _ off)),some av =>
     match σ.own[j]?,pt P t with
     | some blk,some z =>
       cond (hid.contains j&&(!blk.ro&&av.cells.length==z&&decide (off+z≤blk.cells.length)))
        (cond (av.cells.all fun c=>o5 c.g)
          (K (({ σ with own:=σ.own.set j { blk with cells:=c9 off av.cells blk.cells } }:S).put o.dst none) F) False) False
     | _,_=>False
   | some (.a (.v (.pointer (some ad)))),some av =>
     cond (fU ops n&&(pt P t==some av.cells.length&&av.cells.all fun c=>o5 c.g))
      (∃(cs:List Value) (e:Nat) (F0:cR),F.Perm ((ad.block,Obj.cells cs.toArray e (0,0))::F0)∧ad.spot=none∧ad.off+av.cells.length≤cs.length ∧
       K (σ.put o.dst none) ((ad.block,Obj.cells (c9 ad.off (av.cells.map AV.g) cs).toArray e (0,0))::F0)) False
   | _,_=>False
 | _=>False
def xw(P:Program)(A:kg)(ops:Array Oper)(n:Nat)(hid:List Nat)(i:Nat)(o:Oper)(σ:S)(I:cS)(F:cR)(K:AV→Prop):Prop :=
 match o.op with
 | .call c=>match c.callee with
   | .value f=>cond (σ.dJ c.args.toList)
     (match σ.ev f with
       | some (.f fn [] [])=>cond (A.good fn) (pk (A.shp o.type) fun v =>
          cond (fr ops n i) (cV P fn (c.args.map σ.cv) I (da σ.own++F) fun e I' G=>e=.returned v∧G.Perm (da σ.own++F)) (∀X:cR,cV P fn (c.args.map σ.cv) I X fun e I' G=>e=.returned v∧G.Perm X)∧K (.a (.v v))) False
       | _=>False) False
   | _=>jd P A.shp o σ I (cond (fr ops n i) (da σ.own++F) F) (cond (fr ops n i) [] hid) K
 | _=>jd P A.shp o σ I (cond (fr ops n i) (da σ.own++F) F) (cond (fr ops n i) [] hid) K
def wD(P:Program)(A:kg)(rid:Nat)(ops:Array Oper)(n:Nat)(hid:List Nat):List Oper→Nat→S→cS→cR→(S→cR→Prop)→Prop
 | [],_,σ,_,F,K=>K σ F
 | o::r,i,σ,I,F,K =>
   match want ops σ o with
   | some true=>cond (i==n) (p8 P ops n hid o σ F fun σ' F'=>wD P A rid ops n hid r (i+1) σ' I F' K)
      (xw P A ops n hid i o σ I F fun av=>kD A rid i o.dst av σ fun σ'=>wD P A rid ops n hid r (i+1) σ' I F K)
   | some false=>cond (i==n) False (wD P A rid ops n hid r (i+1) (σ.put o.dst (some (.a (.v undef)))) I F K)
   | none=>False
def dh(l:List Oper):List Nat:=l.filterMap Oper.dst
structure dc (l:List Nat) (σ:S) (a:Act) (σ':S) (a':Act):Prop where
 own:de σ σ'
 tm:∀t,t∉l→a'.tmps[t]? = a.tmps[t]?
 size:a'.tmps.size=a.tmps.size
theorem dc.refl(l:List Nat)(σ:S)(a:Act):dc l σ a σ a:=⟨de.refl _,fun _ _=>rfl,rfl⟩
theorem dc.trans{l:List Nat}{σ σ' σ'':S}{a a' a'':Act}(h:dc l σ a σ' a')(k:dc l σ' a' σ'' a''):dc l σ a σ'' a'' :=
 ⟨h.own.trans k.own,fun t ht=>(k.tm t ht).trans (h.tm t ht),k.size.trans h.size⟩
theorem dc.mono{l l':List Nat}{σ σ':S}{a a':Act}(h:dc l σ a σ' a')(hl:∀t∈l,t∈l'):dc l' σ a σ' a' :=
 ⟨h.own,fun t ht=>h.tm t fun hm=>ht (hl t hm),h.size⟩
theorem dc.wh{σ σ':S}{a a':Act}(h:de σ σ')(d:Option Nat)(v:Value)(l:List Nat)(hd:∀t,d=some t→t∈l)(e:a'.tmps=(a.put d v).tmps):dc l σ a σ' a':=by
 refine⟨h,fun t ht=>?_, ?_⟩
 ·rw[e]
  cases d with
  | none=>rfl
  | some d =>
    have:d≠t:=fun e=>ht (e▸hd d rfl)
    simp[Act.put,Array.getElem?_setIfInBounds,this]
 ·rw[e];cases d<;>simp[Act.put]
theorem dc.put{σ σ':S}{a:Act}(h:de σ σ')(d:Option Nat)(v:Value)(l:List Nat)(hd:∀t,d=some t→t∈l):dc l σ a σ' (a.put d v):=by
 refine⟨h,fun t ht=>?_, ?_⟩
 ·cases d with
  | none=>rfl
  | some d =>
    have:d≠t:=fun e=>ht (e▸hd d rfl)
    simp[Act.put,Array.getElem?_setIfInBounds,this]
 ·cases d<;>simp[Act.put]
section sound
variable {P:Program} {A:kg} {rid:Nat} {ops:Array Oper}
def nU:Op→Bool
 | .defer _=>false
 | _=>true
theorem hU{ro:Option Nat}(hP:∀f,A.good f=true→di P f){K:S→cS→cR→Prop}{Kp:List PanicEntry→S→cS→cR→Prop}{Q:Exit→Act→World→Prop} :
  ∀(l:List Oper) (i:Nat) (σ:S) (I:cS) (F:cR) (a:Act) (w:World),(ro=none∨l.all (fun o=>nU o.op)=true)→p7 P A rid ops l i σ I F K Kp→Rel σ I F a w →
   (∀σ' I' F' a' w',Rel σ' I' F' a' w'→cS.le I I'→K σ' I' F'→dc (dh l) σ a σ' a'→Q .normal a' w') →
   (∀ch σ' I' F' a' w',Rel σ' I' F' a' w'→cS.le I I'→Kp ch σ' I' F'→dc (dh l) σ a σ' a'→Q (.panic ch) a' w') →
   wpListIn (Fw ro) 0 P ops Q l a w
 | [],i,σ,I,F,a,w,_,h,hr,hN,_=>hN σ I F a w hr (cS.le_refl I) h (dc.refl _ _ _)
 | o::r,i,σ,I,F,a,w,hnd,h,hr,hN,hX=>by
   simp only[p7] at h
   have hnd1:ro=none∨∀c,o.op ≠ .defer c:=hnd.imp id fun h c e=>by
    simp only[List.all_cons,Bool.and_eq_true] at h
    rw[e] at h;simp[nU] at h
   have hnd2:ro=none∨r.all (fun o=>nU o.op)=true:=hnd.imp id fun h=>by
    simp only[List.all_cons,Bool.and_eq_true] at h
    exact h.2
   have hsub:∀t∈dh r,t∈dh (o::r):=fun t ht=>by
    unfold dh at *;rw[List.filterMap_cons];split
    ·exact ht
    ·exact List.mem_cons_of_mem _ ht
   have hd:∀t,o.dst=some t→t∈dh (o::r):=fun t ht=>by
    unfold dh;rw[List.filterMap_cons,ht];exact List.mem_cons_self ..
   split at h
   ·rename_i hw
    simp only[wpListIn,eD hw hr.t,if_true]
    have hh:=lZ (Q:=Q) hP h hr fun ch w' σ' I' F' h1 h2 h3 h4 =>
     hX ch σ' I' F' a w' h1 h2 h3 ⟨h4,fun _ _=>rfl,rfl⟩
    refine ni hnd1 ?_
    unfold v8 at hh ⊢
    revert hh
    generalize (execOp a.eval o).run P w=res
    intro hh
    have step:∀a' w',gb o σ I a (fun σ' I' F'=>p7 P A rid ops r (i+1) σ' I' F' K Kp) a' w'→wpListIn (Fw ro) 0 P ops Q r a' w':=by
     intro a' w' ⟨σ',I',F',h1,h2,h3,h4,v,h5⟩
     have hk:dc (dh (o::r)) σ a σ' a':=dc.wh h4 _ _ _ hd h5
     exact hU hP r (i+1) σ' I' F' _ w' hnd2 h3 h1
      (fun σ2 I2 F2 a2 w2 g1 g2 g3 g4=>hN σ2 I2 F2 a2 w2 g1 (cS.le_trans h2 g2) g3 (hk.trans (g4.mono hsub)))
      (fun ch σ2 I2 F2 a2 w2 g1 g2 g3 g4=>hX ch σ2 I2 F2 a2 w2 g1 (cS.le_trans h2 g2) g3 (hk.trans (g4.mono hsub)))
    cases res with
    | ok n w' =>
      cases n<;>simp only[Oper.uponIn] at hh ⊢<;>first | exact step _ _ hh | exact hh.elim | skip
      ·refine⟨hh.1,hh.2.mono fun e w'' hq=>?_⟩
       cases e with
       | returned v=>exact step _ _ hq
       | panicked ch=>exact hq
       | outgrown=>exact hq
      ·refine⟨hh.1,hh.2.mono fun e w'' hq=>?_⟩
       cases e with
       | returned v=>exact step _ _ hq
       | panicked ch=>exact hq
       | outgrown=>exact hq
      ·exact⟨hh.1,hh.2.mono fun v w'' hq=>step _ _ hq⟩
    | halt x w'=>cases x<;>simp only[Oper.uponIn] at hh ⊢<;>first | exact hh | exact hh.elim
   ·rename_i hw
    simp only[wpListIn,eD hw hr.t,Bool.false_eq_true,if_false]
    refine⟨fun _ _=>trivial, ?_⟩
    have hk:dc (dh (o::r)) σ a (σ.put o.dst (some (.a (.v undef)))) (a.put o.dst undef):=dc.put (de.put _ _ _) _ _ _ hd
    exact hU hP r (i+1) _ I F _ w hnd2 h (hr.put o.dst (av:=.a (.v undef)) rfl trivial)
     (fun σ2 I2 F2 a2 w2 g1 g2 g3 g4=>hN σ2 I2 F2 a2 w2 g1 g2 g3 (hk.trans (g4.mono hsub)))
     (fun ch σ2 I2 F2 a2 w2 g1 g2 g3 g4=>hX ch σ2 I2 F2 a2 w2 g1 g2 g3 (hk.trans (g4.mono hsub)))
   ·exact h.elim
structure jg (σ:S) (a:Act):Prop where
 t:mZ σ a
 defers:a.defers=σ.df.map Df.d
 wft:xa σ σ.own
 wfo:∀(i:Nat) (b:dr),σ.own[i]? = some b→∀c∈b.cells,AV.wf σ.own c
theorem Rel.s{σ:S}{I:cS}{F:cR}{a:Act}{w:World}(h:Rel σ I F a w):jg σ a:=⟨h.t,h.defers,h.wft,h.wfo⟩
theorem jg.rel{σ:S}{I:cS}{F:cR}{a:Act}{w:World}(h:jg σ a)(hs:Sat I (da σ.own++F) w):Rel σ I F a w :=
 ⟨h.t.size,h.t.tm,h.defers,h.wft,h.wfo,hs⟩
theorem jg.put{σ:S}{a:Act}(h:jg σ a)(d:Option Nat){av:AV}{v:Value}(hg:av.g=v)(hw:av.wf σ.own):jg (σ.put d (some av)) (a.put d v):=by
 cases d with
 | none=>exact h
 | some d =>
   refine⟨⟨by simp[S.put,Act.put,h.t.size], ?_⟩,h.defers, ?_,h.wfo⟩
   ·intro t av' ht
    simp only[S.put,List.getElem?_set] at ht
    simp only[Act.put,Array.getElem?_setIfInBounds]
    by_cases hdt:d=t
    ·subst hdt
     simp only[if_true] at ht ⊢
     split at ht
     ·rename_i hlt;cases ht;rw[h.t.size] at hlt;simp[hlt,hg]
     ·cases ht
    ·simp only[if_neg hdt] at ht ⊢;exact h.t.tm t av' ht
   ·intro t av' ht
    simp only[S.put,List.getElem?_set] at ht ⊢
    by_cases hdt:d=t
    ·subst hdt
     simp only[if_true] at ht
     split at ht
     ·cases ht;exact hw
     ·cases ht
    ·simp only[if_neg hdt] at ht;exact h.wft t av' ht
theorem jg.forget{σ:S}{a:Act}(h:jg σ a)(d:Option Nat)(v:Value):jg (σ.put d none) (a.put d v):=by
 cases d with
 | none=>exact h
 | some d =>
   refine⟨⟨by simp[S.put,Act.put,h.t.size], ?_⟩,h.defers, ?_,h.wfo⟩
   ·intro t av' ht
    simp only[S.put,List.getElem?_set] at ht
    simp only[Act.put,Array.getElem?_setIfInBounds]
    by_cases hdt:d=t
    ·subst hdt
     simp only[if_true] at ht
     split at ht<;>cases ht
    ·simp only[if_neg hdt] at ht ⊢;exact h.t.tm t av' ht
   ·intro t av' ht
    simp only[S.put,List.getElem?_set] at ht ⊢
    by_cases hdt:d=t
    ·subst hdt
     simp only[if_true] at ht
     split at ht<;>cases ht
    ·simp only[if_neg hdt] at ht;exact h.wft t av' ht
theorem jg.own{σ:S}{a:Act}(h:jg σ a){own':List dr}(hs:gi σ.own own')(ho:∀(i:Nat) (b:dr),own'[i]? = some b→∀c∈b.cells,AV.wf own' c) :
  jg { σ with own:=own' } a:=⟨⟨h.t.size,h.t.tm⟩,h.defers,fun t av ht=>AV.dS hs (h.wft t av ht),ho⟩
structure zt (P:Program) (ops:Array Oper) (n i:Nat) (hid:List Nat) (o:Oper) (own:List dr) (I:cS) (F:cR) (a:Act) (v:Value):Prop where
 here:∀w,Sat I (da own++F) w→iD P v (fun w'=>Sat I (da own++F) w') ((execOp a.eval o).run P w)
 else_:fr ops n i=false→∀(own':List dr) w,Sat I (da own'++F) w→(∀(j:Nat) (b:dr),own[j]? = some b→hid.contains j=false→own'[j]? = some b) →
  iD P v (fun w'=>Sat I (da own'++F) w') ((execOp a.eval o).run P w)
theorem qU(hP:∀f,A.good f=true→di P f){n i:Nat}{hid:List Nat}{o:Oper}{σ:S}{I:cS}{F:cR}{K:AV→Prop}(h:xw P A ops n hid i o σ I F K){a:Act}(hr:jg σ a) :
  ∃av:AV,K av∧av.wf σ.own∧zt P ops n i hid o σ.own I F a av.g:=by
 have pure_case:jd P A.shp o σ I (cond (fr ops n i) (da σ.own++F) F) (cond (fr ops n i) [] hid) K→∃av:AV,K av∧av.wf σ.own∧zt P ops n i hid o σ.own I F a av.g:=by
  intro h
  obtain⟨av,hk,hy⟩:=hM h
  refine⟨av,hk,hy.wf σ.own hr.wft hr.wfo,fun w hs=>?_,fun hf own' w hs hag=>?_⟩
  ·have hread:Reads I (cond (fr ops n i) (da σ.own++F) F) w:=by
    cases fr ops n i with
    | true=>exact hs.reads
    | false=>exact hs.drop.reads
   rw[hy.run a w hr.t hr.wft (fun j b hb _=>hs.get hb) hread]
   exact⟨rfl,hs⟩
  ·have hread:Reads I (cond (fr ops n i) (da σ.own++F) F) w:=by rw[hf];exact hs.drop.reads
   rw[hy.run a w hr.t hr.wft (fun j b hb hh=>hs.get (hag j b hb (by rw[hf] at hh;exact hh))) hread]
   exact⟨rfl,hs⟩
 unfold xw at h
 split at h
 ·rename_i c ho
  split at h
  ·rename_i f hc
   obtain⟨hk,h⟩:=c6 h
   split at h
   ·rename_i fn hf
    obtain⟨hg,h⟩:=c6 h
    obtain⟨v,htri,hK⟩:=lV h
    have hrun:∀w,(execOp a.eval o).run P w=.ok (.enter fn (c.args.map σ.cv)) w:=fun w=>by
     have ha:c.args.map a.eval=c.args.map σ.cv:=dX (S.fO hr.t hk)
     simp only[execOp,ho,resolve,hc,S.db hr.t hf,AV.g,Deferred.ofValue,Sem.run_bind,Sem.run_pure,Result.andThen_ok,invoke,ha,List.map_nil]
     simpa using hP fn hg (c.args.map σ.cv) w
    have hX:∀X,(cV P fn (c.args.map σ.cv) I X fun e I' G=>e=.returned v∧G.Perm X)→∀w,Sat I X w→iD P v (fun w'=>Sat I X w') ((execOp a.eval o).run P w):=fun X htri w hs=>by
     rw[hrun w]
     exact (htri w hs).mono fun e w' ⟨I',G,hle,hsat,he,hp⟩=>⟨he,(hsat.perm hp).weaken hle⟩
    cases hfr:fr ops n i with
    | true =>
      rw[hfr] at htri
      exact⟨_,hK,trivial,fun w hs=>hX _ htri w hs,fun h=>by rw[hfr] at h;cases h⟩
    | false =>
      rw[hfr] at htri
      exact⟨_,hK,trivial,fun w hs=>hX _ (htri _) w hs,fun _ own' w hs _=>hX _ (htri _) w hs⟩
   ·exact h.elim
  ·exact pure_case h
 ·exact pure_case h
theorem lh(hP:∀f,A.good f=true→di P f){n:Nat}{hid:List Nat}{I:cS}{K:S→cR→Prop} :
  ∀(l:List Oper) (i:Nat) (σ:S) (F:cR) (a:Act),(∀k,k<l.length→i+k≠n)→wD P A rid ops n hid l i σ I F K→jg σ a →
   ∃(vs:List Value) (σ':S),vs.length=l.length∧K σ' F∧jg σ' (dD a l vs l.length)∧σ'.own=σ.own∧dc (dh l) σ a σ' (dD a l vs l.length) ∧
    ∀(k:Nat) (o:Oper) (v:Value),l[k]? = some o→vs[k]? = some v →
     if Region.wanted o (yielded ops (dD a l vs k).tmps) then zt P ops n (i+k) hid o σ.own I F (dD a l vs k) v else v=undef
 | [],i,σ,F,a,_,h,hr=>⟨[],σ,rfl,h,hr,rfl,dc.refl _ _ _,fun k o v hk=>by simp at hk⟩
 | o::r,i,σ,F,a,hn,h,hr=>by
   have hin:(i==n)=false:=by have:=hn 0 (by simp);simpa using this
   have hnext:∀k,k<r.length→i+1+k≠n:=fun k hk=>by have:=hn (k+1) (by simpa using hk);omega
   have hsub:∀t∈dh r,t∈dh (o::r):=fun t ht=>by
    unfold dh at *;rw[List.filterMap_cons];split
    ·exact ht
    ·exact List.mem_cons_of_mem _ ht
   have hd:∀t,o.dst=some t→t∈dh (o::r):=fun t ht=>by
    unfold dh;rw[List.filterMap_cons,ht];exact List.mem_cons_self ..
   simp only[wD,hin,cond_false] at h
   split at h
   ·rename_i hw
    obtain⟨av,hf,hwf,hall⟩:=qU hP h hr
    obtain⟨av',hg,hwf',hk⟩:=iM hf
    obtain⟨vs,σ',h1,h2,h3,h4,h5,h6⟩:=lh hP r (i+1) _ F _ hnext hk (hr.put o.dst hg (hwf' hwf))
    rw[S.gL] at h4 h6
    refine⟨av.g::vs,σ',by simp[h1],h2,h3,h4,(dc.put (de.put _ _ _) _ _ _ hd).trans (h5.mono hsub),fun k p v hk hv=>?_⟩
    cases k with
    | zero =>
      simp only[List.getElem?_cons_zero,Option.some.injEq] at hk hv
      subst hk;subst hv
      simp only[dD,eD hw hr.t,if_true]
      exact hall
    | succ k =>
      have:=h6 k p v (by simpa using hk) (by simpa using hv)
      rwa [show i+1+k=i+(k+1) by omega] at this
   ·rename_i hw
    obtain⟨vs,σ',h1,h2,h3,h4,h5,h6⟩:=lh hP r (i+1) _ F _ hnext h (hr.put o.dst (av:=.a (.v undef)) rfl trivial)
    rw[S.gL] at h4 h6
    refine⟨undef::vs,σ',by simp[h1],h2,h3,h4,(dc.put (de.put _ _ _) _ _ _ hd).trans (h5.mono hsub),fun k p v hk hv=>?_⟩
    cases k with
    | zero =>
      simp only[List.getElem?_cons_zero,Option.some.injEq] at hk hv
      subst hk;subst hv
      simp only[dD,eD hw hr.t,Bool.false_eq_true,if_false]
    | succ k =>
      have:=h6 k p v (by simpa using hk) (by simpa using hv)
      rwa [show i+1+k=i+(k+1) by omega] at this
   ·exact h.elim
theorem qV{n:Nat}{hid:List Nat}{o:Oper}{σ:S}{I:cS}{F:cR}{K:S→cR→Prop}(h:p8 P ops n hid o σ F K){a:Act}(hr:jg σ a) :
  ∃(σ':S) (F':cR),K σ' F'∧jg σ' (a.put o.dst undef)∧de σ σ' ∧
   ((F'=F∧∀(j:Nat) (b:dr),σ.own[j]? = some b→hid.contains j=false→σ'.own[j]? = some b)∨fU ops n=true) ∧
   (fU ops n=false→∀(j:Nat) (b:dr),σ'.own[j]? = some b→hid.contains j=false→σ.own[j]? = some b) ∧
   ∀w,Sat I (da σ.own++F) w→iD P undef (fun w'=>Sat I (da σ'.own++F') w') ((execOp a.eval o).run P w):=by
 unfold p8 at h
 split at h
 ·rename_i t x y ho
  split at h
  ·rename_i j b off av hx hy
   split at h
   ·rename_i blk z hj hz
    obtain⟨h1,h⟩:=c6 h
    obtain⟨h2,h⟩:=c6 h
    rw[Bool.and_eq_true] at h1
    obtain⟨hh,h1⟩:=h1
    have hro:blk.ro=false:=by simp only[Bool.and_eq_true,Bool.not_eq_true'] at h1;exact h1.1.1
    obtain⟨s1,s2,s3⟩:=pz (x:=x) (off:=off) hr.wft hr.wfo hy hj hro
    have hne:∀k,hid.contains k=false→j≠k:=fun k hk e=>by subst e;rw[hh] at hk;cases hk
    refine⟨_,F,h,(hr.own s1 s2).forget o.dst undef,s3.trans (de.put _ _ _),.inl ⟨rfl,fun k b' hb hk=>?_⟩,fun _ k b' hb hk=>?_,fun w hs=>?_⟩
    ·rw[S.gL]
     show (σ.own.set j _)[k]? = _
     rw[List.getElem?_set_ne (hne k hk)];exact hb
    ·rw[S.gL] at hb
     have hb':(σ.own.set j { blk with cells:=c9 off av.cells blk.cells })[k]? = some b':=hb
     rw[List.getElem?_set_ne (hne k hk)] at hb';exact hb'
    ·obtain⟨w',hrun,hsat⟩:=py ho hx hy hj hz h1 h2 hr.t hr.wft hs
     rw[hrun]
     exact⟨rfl,by rw[S.gL];exact hsat⟩
   ·exact h.elim
  ·rename_i ad av hx hy
   obtain⟨h1,cs,e,F0,hp,hsp,hoff,hk⟩:=c6 h
   rw[Bool.and_eq_true] at h1
   obtain⟨b,off,sp⟩:=ad
   simp only at hsp hoff hk hp
   subst hsp
   refine⟨_,_,hk,hr.forget o.dst undef,de.put _ _ _,.inr h1.1,fun hw=>by rw[h1.1] at hw;(cases hw),fun w hs=>?_⟩
   obtain⟨w',hrun,hs1⟩:=tD ho hx hy h1.2 hoff hr.t ((hs.perm (List.Perm.append_left _ hp)).perm List.perm_middle)
   rw[hrun]
   exact⟨rfl,by rw[S.gL];exact hs1.perm List.perm_middle.symm⟩
  ·exact h.elim
 ·exact h.elim
theorem sC(hP:∀f,A.good f=true→di P f){n:Nat}{hid:List Nat}{I:cS}{K:S→cR→Prop}(hn:n<ops.size)(hback:∀k,wr ops n k=true→k<n) :
  ∀(l:List Oper) (i:Nat) (σ:S) (F:cR) (a:Act),i+l.length=ops.size→i≤n→wD P A rid ops n hid l i σ I F K→jg σ a →
   ∃(vs:List Value) (σ':S) (F':cR),vs.length=l.length∧K σ' F'∧jg σ' (dD a l vs l.length)∧dc (dh l) σ a σ' (dD a l vs l.length) ∧
    ((F'=F∧∀(j:Nat) (b:dr),σ.own[j]? = some b→hid.contains j=false→σ'.own[j]? = some b)∨fU ops n=true) ∧
    ∀(k:Nat) (o:Oper) (v:Value),l[k]? = some o→vs[k]? = some v →
     if Region.wanted o (yielded ops (dD a l vs k).tmps) then
      ∀b w,Sat I (da (cond b σ'.own σ.own)++cond b F' F) w→(b=true→i+k≠n∧wr ops n (i+k)=false)→(i+k=n→b=false)→(b=false→wr ops (i+k) n=false) →
       iD P v (fun w'=>Sat I (da (cond (b||i+k==n) σ'.own σ.own)++cond (b||i+k==n) F' F) w') ((execOp (dD a l vs k).eval o).run P w)
     else v=undef∧i+k≠n
 | [],i,σ,F,a,hl,hi,h,hr=>by simp at hl;omega
 | o::r,i,σ,F,a,hl,hi,h,hr=>by
   have hsub:∀t∈dh r,t∈dh (o::r):=fun t ht=>by
    unfold dh at *;rw[List.filterMap_cons];split
    ·exact ht
    ·exact List.mem_cons_of_mem _ ht
   have hd:∀t,o.dst=some t→t∈dh (o::r):=fun t ht=>by
    unfold dh;rw[List.filterMap_cons,ht];exact List.mem_cons_self ..
   by_cases hin:i=n
   ·subst hin
    simp only[wD,beq_self_eq_true,cond_true] at h
    split at h
    ·rename_i hw
     obtain⟨σ1,F1,hk,hr1,hko,hag,hag',hrun⟩:=qV h hr
     obtain⟨vs,σ',h1,h2,h3,h4,h5,h6⟩:=lh hP r (i+1) σ1 F1 _ (fun k _=>by omega) hk hr1
     have haw:fU ops i=true→r=[]:=fun haw=>by
      simp only[fU,Bool.and_eq_true,beq_iff_eq] at haw
      simp only[List.length_cons] at hl
      exact List.length_eq_zero_iff.1 (by omega)
     refine⟨undef::vs,σ',F1,by simp[h1],h2,h3,(dc.put hko _ _ _ hd).trans (h5.mono hsub),by rw[h4];exact hag,fun k p v hk' hv=>?_⟩
     cases k with
     | zero =>
       simp only[List.getElem?_cons_zero,Option.some.injEq] at hk' hv
       subst hk';subst hv
       simp only[dD,eD hw hr.t,if_true,Nat.add_zero]
       intro b w hs _ hb _
       have:=hb (by first | trivial | rfl)
       subst this
       simp only[Bool.false_or,beq_self_eq_true,cond_true,h4]
       exact hrun w hs
     | succ k =>
       have hk2:r[k]? = some p:=by simpa using hk'
       have:=h6 k p v hk2 (by simpa using hv)
       rw[show i+1+k=i+(k+1) by omega] at this
       have hne:(i+(k+1)==i)=false:=by simp
       rw[show dD a (o::r) (undef::vs) (k+1)=dD (a.put o.dst undef) r vs k from rfl]
       by_cases hwp:Region.wanted p (yielded ops (dD (a.put o.dst undef) r vs k).tmps)=true
       ·rw[if_pos hwp] at this ⊢
        intro b w hs h7 h8 h9
        simp only[hne,Bool.or_false]
        cases b with
        | true =>
          simp only[cond_true,h4] at hs ⊢
          exact this.here w hs
        | false =>
          simp only[cond_false] at hs ⊢
          have hnot:fU ops i=false:=by
           cases hh:fU ops i with
           | false=>rfl
           | true=>rw[haw hh] at hk2;simp at hk2
          have hF:F1=F:=by
           rcases hag with hag | hag
           ·exact hag.1
           ·rw[hnot] at hag;cases hag
          subst hF
          refine this.else_ ?_ σ.own w hs fun j b hb hh=>hag' hnot j b hb hh
          unfold fr
          have h10:decide (ops.size≤i)=false:=by simp;omega
          rw[h10,Bool.false_or]
          cases hww:wr ops i (i+(k+1)) with
          | false=>rfl
          | true=>have:=hback _ hww;omega
       ·rw[if_neg hwp] at this ⊢
        exact⟨this,by omega⟩
    ·exact h.elim
    ·exact h.elim
   ·have hinb:(i==n)=false:=by simpa using hin
    simp only[wD,hinb,cond_false] at h
    have hlt:i<n:=by omega
    split at h
    ·rename_i hw
     obtain⟨av,hf,hwf,hall⟩:=qU hP h hr
     obtain⟨av',hg,hwf',hk⟩:=iM hf
     obtain⟨vs,σ',F',h1,h2,h3,h5,hag,h6⟩:=sC hP hn hback r (i+1) _ F _ (by simp only[List.length_cons] at hl;omega) (by omega) hk (hr.put o.dst hg (hwf' hwf))
     rw[S.gL] at h6 hag
     refine⟨av.g::vs,σ',F',by simp[h1],h2,h3,(dc.put (de.put _ _ _) _ _ _ hd).trans (h5.mono hsub),hag,fun k p v hk' hv=>?_⟩
     cases k with
     | zero =>
       simp only[List.getElem?_cons_zero,Option.some.injEq] at hk' hv
       subst hk';subst hv
       simp only[dD,eD hw hr.t,if_true,Nat.add_zero,hinb,Bool.or_false]
       intro b w hs h7 _ _
       cases b with
       | false=>exact hall.here w hs
       | true =>
         obtain⟨_,hnw⟩:=h7 rfl
         have haw:fU ops n=false:=by
          cases hh:fU ops n with
          | false=>rfl
          | true =>
            simp only[fU,Bool.and_eq_true] at hh
            have:=List.all_eq_true.1 hh.2 i (by simp;omega)
            rw[hinb,hnw] at this;cases this
         rcases hag with ⟨hF,hag⟩ | hag
         ·subst hF
          simp only[cond_true] at hs ⊢
          refine hall.else_ ?_ σ'.own w hs hag
          unfold fr
          have h10:decide (ops.size≤n)=false:=by simp;omega
          rw[h10,hnw];rfl
         ·rw[haw] at hag;cases hag
     | succ k =>
       have:=h6 k p v (by simpa using hk') (by simpa using hv)
       rwa [show i+1+k=i+(k+1) by omega] at this
    ·rename_i hw
     obtain⟨vs,σ',F',h1,h2,h3,h5,hag,h6⟩:=sC hP hn hback r (i+1) _ F _ (by simp only[List.length_cons] at hl;omega) (by omega) h (hr.put o.dst (av:=.a (.v undef)) rfl trivial)
     rw[S.gL] at h6 hag
     refine⟨undef::vs,σ',F',by simp[h1],h2,h3,(dc.put (de.put _ _ _) _ _ _ hd).trans (h5.mono hsub),hag,fun k p v hk' hv=>?_⟩
     cases k with
     | zero =>
       simp only[List.getElem?_cons_zero,Option.some.injEq] at hk' hv
       subst hk';subst hv
       simp only[dD,eD hw hr.t,Bool.false_eq_true,if_false,Nat.add_zero]
       exact⟨trivial,by omega⟩
     | succ k =>
       have:=h6 k p v (by simpa using hk') (by simpa using hv)
       rwa [show i+1+k=i+(k+1) by omega] at this
    ·exact h.elim
theorem nW{ro:Option Nat}(hP:∀f,A.good f=true→di P f){n:Nat}{hid:List Nat}{σ:S}{I:cS}{F:cR}{K:S→cR→Prop}{a:Act}{w:World}
  (hB:mH ops=true) (h:wD P A rid ops n hid ops.toList 0 σ I F K) (hr:Rel σ I F a w) {Q:Exit→Act→World→Prop}
  (hQ:∀σ' F' a' w',Rel σ' I F' a' w'→K σ' F'→dc (dh ops.toList) σ a σ' a'→Q .normal a' w'):wpAnyIn (Fw ro) 0 P .any ops Q ops.size (Array.replicate ops.size false) a w:=by
 have hb1:∀i k,waits ops i k=true→k<i:=fun i k hk=>by
  simp only[mH,Bool.and_eq_true] at hB
  unfold waits at hk
  split at hk
  ·rename_i o ho
   obtain⟨e,he,hb⟩:=List.any_eq_true.1 hk
   simp only[Bool.and_eq_true,beq_iff_eq] at hb
   have:=(lg hB.2 (i:=i) (o:=o) (by simpa using ho)).2.1 e (by simpa using he) hb.1
   omega
  ·cases hk
 have hbT:∀f i k,dB ops f i k=true→k<i:=by
  intro f
  induction f with
  | zero=>exact fun i k h=>hb1 i k h
  | succ f ih =>
    intro i k h
    unfold dB at h
    rw[Bool.or_eq_true] at h
    rcases h with h | h
    ·exact hb1 i k h
    ·split at h
     ·rename_i o ho
      obtain⟨e,he,hb⟩:=List.any_eq_true.1 h
      simp only[Bool.and_eq_true] at hb
      have h1:=ih e.on k hb.2.2
      have h2:=hb1 i e.on (by unfold waits;rw[ho];exact List.any_eq_true.2 ⟨e,he,by simp[hb.1]⟩)
      omega
     ·cases h
 have hback:∀k,wr ops n k=true→k<n:=fun k hk=>hbT 3 n k hk
 by_cases hn:n<ops.size
 ·obtain⟨vs,σ',F',h1,h2,h3,h5,_,h6⟩:=sC hP hn hback ops.toList 0 σ F a (by simp) (by omega) h hr.s
  refine qT (n:=n) (C:=fun b w=>Sat I (da (cond b σ'.own σ.own)++cond b F' F) w) hB vs (by simpa using h1) ?_ hr.sat ?_
  ·intro i o v ho hv
   have:=h6 i o v (by simpa using ho) hv
   rwa [Nat.zero_add] at this
  ·intro w' hw'
   rw[decide_eq_true hn] at hw'
   have hlen:ops.toList.length=ops.size:=by simp
   rw[hlen] at h3 h5
   exact hQ σ' F' _ w' (h3.rel hw') h2 h5
 ·obtain⟨vs,σ',h1,h2,h3,h4,h5,h6⟩:=lh hP ops.toList 0 σ F a (fun k hk=>by simp at hk;omega) h hr.s
  refine qT (n:=n) (C:=fun _ w=>Sat I (da σ.own++F) w) hB vs (by simpa using h1) ?_ hr.sat ?_
  ·intro i o v ho hv
   have:=h6 i o v (by simpa using ho) hv
   have hlt:i<ops.size:=by
    rcases Nat.lt_or_ge i ops.size with h | h
    ·exact h
    ·simp[Array.getElem?_eq_none h] at ho
   by_cases hw:Region.wanted o (yielded ops (dD a ops.toList vs i).tmps)=true
   ·rw[if_pos hw] at this ⊢
    exact fun b w hs _ _ _=>this.here w hs
   ·rw[if_neg hw] at this ⊢
    exact⟨this,by omega⟩
  ·intro w' hw'
   have hlen:ops.toList.length=ops.size:=by simp
   rw[hlen] at h3 h5
   exact hQ σ' F _ w' (h3.rel (by rw[h4];exact hw')) h2 h5
theorem qW{ro:Option Nat}(hP:∀f,A.good f=true→di P f){id n:Nat}{hid:List Nat}{σ:S}{I:cS}{F:cR}{K:S→cR→Prop}{a:Act}{w:World}(hm:P.follows .mixedOrders=true)
  (hB:mH ops=true) (h:wD P A rid ops n hid ops.toList 0 σ I F K) (hr:Rel σ I F a w) {Q:Exit→Act→World→Prop}
  (hQ:∀σ' F' a' w',Rel σ' I F' a' w'→K σ' F'→dc (dh ops.toList) σ a σ' a'→Q .normal a' w'):(Code.region id ops true).wpIn (Fw ro) 0 P Q a w :=
 have hr':Rel σ I F a { w with drawn:=w.drawn+1 }:=hr.s.rel (hr.sat.of_heap rfl ⟨rfl,rfl⟩)
 wpIn_region_any hm (nW hP hB h hr' hQ)
end sound
def iZ:Code→List Nat
 | .region _ ops _=>dh ops.toList
 | .seq a b=>iZ a++iZ b
 | .cond _ a b=>iZ a++iZ b
 | .block _ c=>iZ c
 | .loop c=>iZ c
 | .scope c=>iZ c
 | .rangeFunc _ ps x y=>ps.toList++iZ x++iZ y
 | _=>[]
def sz:Code→Nat
 | .seq a b=>1+sz a+sz b
 | .cond _ a b=>1+sz a+sz b
 | .block _ c=>1+sz c
 | .loop c=>1+sz c
 | .scope c=>1+sz c
 | .rangeFunc _ _ x y=>1+sz x+sz y
 | _=>1
def forget:List Nat→List (Option AV)→List (Option AV)
 | [],tm=>tm
 | t::r,tm=>forget r (tm.set t none)
def fI:List Nat→List Value→List (Option AV)→List (Option AV)
 | t::ts,v::vs,tm=>fI ts vs (tm.set t (some (.a (.v v))))
 | _,_,tm=>tm
def lj:List (Nat×List Lf)→List Value→Nat→Option (List Value)
 | [],_,_=>none
 | (j,ls)::r,vs,i=>cond (j==i) (some (vs.take ls.length)) (lj r (vs.drop ls.length) i)
def dN(bks:List (Nat×List Lf))(vs:List Value):Nat→List dr→List dr
 | _,[]=>[]
 | i,b::r=>(match lj bks vs i with
   | some cs=>{ b with cells:=cs.map fun v=>.a (.v v) }
   | none=>{ b with ro:=true })::dN bks vs (i+1) r
def S.lay(c:Cut)(l:List Nat)(vs:List Value)(σ:S):S :=
 { σ with tm:=fI (c.tms.map Prod.fst) (vs.take c.tms.length) (forget l σ.tm),own:=dN c.bks (vs.drop c.tms.length) 0 σ.own }
def iE(σ:S):List (Nat×Lf)→List Value
 | []=>[]
 | (t,_)::r=>(match σ.tm[t]? with
   | some (some av)=>av.g
   | _=>undef)::iE σ r
def kF(own:List dr):List (Nat×List Lf)→List Value
 | []=>[]
 | (j,_)::r=>(match own[j]? with
   | some b=>b.cells.map AV.g
   | none=>[])++kF own r
def S.iO(σ:S)(c:Cut):List Value:=iE σ c.tms++kF σ.own c.bks
def sD(σ:S):List (Nat×Lf)→Bool
 | []=>true
 | (t,l)::r=>(match σ.tm[t]? with
   | some (some av)=>l.fits av.g
   | _=>false)&&sD σ r
def kG(own:List dr):List (Nat×List Lf)→Bool
 | []=>true
 | (j,ls)::r=>(match own[j]? with
   | some b=>!b.ro&&dF ls (b.cells.map AV.g)
   | none=>false)&&kG own r
def S.xc(σ:S)(c:Cut):Bool:=sD σ c.tms&&kG σ.own c.bks
def Cut.zm(c:Cut):List Lf:=c.tms.map Prod.snd++c.bks.flatMap Prod.snd
def tF(own0:List dr):Nat→List dr→List dr
 | _,[]=>[]
 | i,b::r=>(match own0[i]? with
   | some b0=>{ b with ro:=b0.ro }
   | none=>b)::tF own0 (i+1) r
def S.unlock(σ σ0:S):S:={ σ with own:=tF σ0.own 0 σ.own }
theorem kH:∀(l:List Nat) (tm:List (Option AV)) (t:Nat) (av:AV),(forget l tm)[t]? = some (some av)→t∉l∧tm[t]? = some (some av)
 | [],tm,t,av,h=>⟨by simp,h⟩
 | s::r,tm,t,av,h=>by
   obtain⟨h1,h2⟩:=kH r (tm.set s none) t av h
   rw[List.getElem?_set] at h2
   by_cases hst:s=t
   ·subst hst;simp only[if_true] at h2;split at h2<;>cases h2
   ·simp only[if_neg hst] at h2
    exact⟨by simp[h1,Ne.symm hst],h2⟩
theorem ko:∀(l:List Nat) (tm:List (Option AV)),(forget l tm).length=tm.length
 | [],tm=>rfl
 | s::r,tm=>by simp[forget,ko r]
theorem kp:∀(ts:List Nat) (vs:List Value) (tm:List (Option AV)),(fI ts vs tm).length=tm.length
 | [],vs,tm=>by simp[fI]
 | t::ts,[],tm=>by simp[fI]
 | t::ts,v::vs,tm=>by simp[fI,kp ts vs]
theorem jh:∀(ts:List Nat) (vs:List Value) (tm:List (Option AV)) (t:Nat) (av:AV),(fI ts vs tm)[t]? = some (some av) →
  (∃(k:Nat) (v:Value),ts[k]? = some t∧vs[k]? = some v∧av=.a (.v v))∨tm[t]? = some (some av)
 | [],vs,tm,t,av,h=>.inr (by simpa[fI] using h)
 | s::ts,[],tm,t,av,h=>.inr (by simpa[fI] using h)
 | s::ts,v::vs,tm,t,av,h=>by
   rcases jh ts vs (tm.set s (some (.a (.v v)))) t av h with ⟨k,u,h1,h2,h3⟩ | h
   ·exact .inl ⟨k+1,u,by simpa using h1,by simpa using h2,h3⟩
   ·rw[List.getElem?_set] at h
    by_cases hst:s=t
    ·subst hst;simp only[if_true] at h;split at h
     ·cases h;exact .inl ⟨0,v,by simp,by simp,rfl⟩
     ·cases h
    ·simp only[if_neg hst] at h;exact .inr h
theorem eK(bks:List (Nat×List Lf))(vs:List Value):∀(i:Nat) (own:List dr) (j:Nat),(dN bks vs i own)[j]? = (own[j]?).map fun b =>
  match lj bks vs (i+j) with
  | some cs=>{ b with cells:=cs.map fun v=>.a (.v v) }
  | none=>{ b with ro:=true }
 | i,[],j=>by simp[dN]
 | i,b::r,0=>by simp only[dN,List.getElem?_cons_zero,Option.map_some,Nat.add_zero]
 | i,b::r,j+1=>by
   simp only[dN,List.getElem?_cons_succ]
   rw[eK bks vs (i+1) r j,show i+1+j=i+(j+1) by omega]
theorem jX(own0:List dr):∀(i:Nat) (own:List dr) (j:Nat),(tF own0 i own)[j]? = (own[j]?).map fun b =>
  match own0[i+j]? with
  | some b0=>{ b with ro:=b0.ro }
  | none=>b
 | i,[],j=>by simp[tF]
 | i,b::r,0=>by simp only[tF,List.getElem?_cons_zero,Option.map_some,Nat.add_zero]
 | i,b::r,j+1=>by
   simp only[tF,List.getElem?_cons_succ]
   rw[jX own0 (i+1) r j,show i+1+j=i+(j+1) by omega]
end Go.Vc
namespace Go.Vc
def ll(ops:Array Oper)(m:Nat):Bool :=
 decide (m≤ops.size)&&(List.range ops.size).all fun i=>(match ops[i]? with
  | some o=>(o.after.toList.all fun e=>!(Region.binds .any e)||decide (e.on<i))&&(match o.guard with
    | some (j,_)=>decide (m≤i)||decide (j<m)
    | none=>true)
  | none=>true)&&(decide (i<m)||(List.range i).all fun j=>dB ops ops.size i j)
theorem o7{ops:Array Oper}{listed:Array Bool}(hcl:∀(j:Nat) (o:Oper),ops[j]? = some o→listed[j]? = some true→∀e∈o.after,Region.binds .any e=true→listed[e.on]? = some true) :
  ∀(f j k:Nat),dB ops f j k=true→listed[j]? = some true→listed[k]? = some true:=by
 intro f
 induction f with
 | zero =>
   intro j k hw hon
   unfold dB waits at hw
   split at hw
   ·rename_i p hp
    obtain⟨e,he,hb⟩:=List.any_eq_true.1 hw
    simp only[Bool.and_eq_true,beq_iff_eq] at hb
    have:=hcl j p hp hon e (by simpa using he) hb.1
    rwa [hb.2] at this
   ·cases hw
 | succ f ihf =>
   intro j k hw hon
   unfold dB at hw
   rw[Bool.or_eq_true] at hw
   rcases hw with hw | hw
   ·unfold waits at hw
    split at hw
    ·rename_i p hp
     obtain⟨e,he,hb⟩:=List.any_eq_true.1 hw
     simp only[Bool.and_eq_true,beq_iff_eq] at hb
     have:=hcl j p hp hon e (by simpa using he) hb.1
     rwa [hb.2] at this
    ·cases hw
   ·split at hw
    ·rename_i p hp
     obtain⟨e,he,hb⟩:=List.any_eq_true.1 hw
     simp only[Bool.and_eq_true] at hb
     exact ihf e.on k hb.2.2 (hcl j p hp hon e (by simpa using he) hb.1)
    ·cases hw
theorem ji{ops:Array Oper}{listed:Array Bool}(hcl:∀(j:Nat) (o:Oper),ops[j]? = some o→listed[j]? = some true→∀e∈o.after,Region.binds .any e=true→listed[e.on]? = some true)
  {i:Nat} (hi:i∈Region.ready .any ops listed) (f j:Nat) (hj:dB ops f i j=true):listed[j]? = some true:=by
 obtain⟨hun,o,ho,hall⟩:=mem_ready.1 hi
 have hon:∀e∈o.after,Region.binds .any e=true→listed[e.on]? = some true:=fun e he hb=>by
  have:=hall e he hb
  have hjs:e.on<listed.size:=by
   rcases Nat.lt_or_ge e.on listed.size with h | h
   ·exact h
   ·simp[Array.getD_eq_getD_getElem?,Array.getElem?_eq_none h] at this
  simp[Array.getD_eq_getD_getElem?,hjs] at this
  simp[hjs,this]
 cases f with
 | zero =>
   unfold dB waits at hj
   rw[ho] at hj
   obtain⟨e,he,hb⟩:=List.any_eq_true.1 hj
   simp only[Bool.and_eq_true,beq_iff_eq] at hb
   have:=hon e (by simpa using he) hb.1
   rwa [hb.2] at this
 | succ f =>
   unfold dB at hj
   rw[Bool.or_eq_true] at hj
   rcases hj with hj | hj
   ·unfold waits at hj
    rw[ho] at hj
    obtain⟨e,he,hb⟩:=List.any_eq_true.1 hj
    simp only[Bool.and_eq_true,beq_iff_eq] at hb
    have:=hon e (by simpa using he) hb.1
    rwa [hb.2] at this
   ·rw[ho] at hj
    obtain⟨e,he,hb⟩:=List.any_eq_true.1 hj
    simp only[Bool.and_eq_true] at hb
    exact o7 hcl f e.on j hb.2.2 (hon e (by simpa using he) hb.1)
theorem mJ{ops:Array Oper}{m:Nat}(hT:ll ops m=true){listed:Array Bool}(hsz:listed.size=ops.size){j:Nat}(hj:j<ops.size)(hun:listed[j]? = some false):∃i,i≤j∧i∈Region.ready .any ops listed:=by
 simp only[ll,Bool.and_eq_true] at hT
 induction j using Nat.strongRecOn with
 | ind j ih =>
   by_cases hall:∀i,i<j→listed[i]? = some true
   ·refine⟨j,Nat.le_refl _,mem_ready.2 ⟨by simp[Array.getD_eq_getD_getElem?,hun],ops[j],by simp[hj],fun e he hb=>?_⟩⟩
    have h1:=List.all_eq_true.1 hT.2 j (List.mem_range.2 hj)
    rw[show ops[j]? = some ops[j] by simp[hj]] at h1
    simp only[Bool.and_eq_true] at h1
    have:=List.all_eq_true.1 h1.1.1 e (by simpa using he)
    simp only[hb,Bool.not_true,Bool.false_or,decide_eq_true_eq] at this
    have:=hall e.on this
    simp[Array.getD_eq_getD_getElem?,this]
   ·obtain⟨i,hi⟩:=Classical.not_forall.1 hall
    obtain⟨hij,hin⟩:=Classical.not_imp.1 hi
    have his:i<listed.size:=by omega
    obtain⟨k,hk1,hk2⟩:=ih i hij (by omega) (by
     rw[Array.getElem?_eq_getElem his] at hin ⊢
     cases hb:listed[i] with
     | true=>rw[hb] at hin;exact absurd rfl hin
     | false=>rfl)
    exact⟨k,by omega,hk2⟩
theorem vd{P:Program}{ops:Array Oper}{m:Nat}{ro:Option Nat}{Q:Exit→Act→World→Prop}(hT:ll ops m=true) :
  ∀(r p:Nat) (listed:Array Bool) (a:Act) (w:World),m≤p→p+r=ops.size→listed.size=ops.size→(∀j,j<p→listed[j]? = some true)→(∀j,p≤j→j<ops.size→listed[j]? = some false) →
   wpOpsIn (Fw ro) 0 P ops Q (List.range' p r) a w→wpAnyIn (Fw ro) 0 P .any ops Q r listed a w:=by
 have hT':=hT
 simp only[ll,Bool.and_eq_true] at hT'
 intro r
 induction r with
 | zero =>
   intro p listed a w hmp hps hsz h1 h2 h
   refine⟨?_,h⟩
   cases hrd:Region.ready .any ops listed with
   | nil=>rfl
   | cons i r =>
     have:i∈Region.ready .any ops listed:=by rw[hrd];exact List.mem_cons_self ..
     obtain⟨g1,o,ho,_⟩:=mem_ready.1 this
     have hlt:i<ops.size:=(Array.getElem?_eq_some_iff.1 ho).1
     have:=h1 i (by omega)
     simp[Array.getD_eq_getD_getElem?,this] at g1
 | succ r ih =>
   intro p listed a w hmp hps hsz h1 h2 h
   have hp:p<ops.size:=by omega
   refine⟨fun h0=>?_,fun i hi=>?_⟩
   ·obtain⟨i,_,hi⟩:=mJ hT hsz hp (h2 p (Nat.le_refl _) hp)
    rw[h0] at hi;cases hi
   ·obtain⟨g1,o,ho,hall⟩:=mem_ready.1 hi
    have hlt:i<ops.size:=(Array.getElem?_eq_some_iff.1 ho).1
    have hip:i=p:=by
     rcases Nat.lt_trichotomy i p with hh | hh | hh
     ·have:=h1 i hh
      simp[Array.getD_eq_getD_getElem?,this] at g1
     ·exact hh
     ·have h3:=List.all_eq_true.1 hT'.2 i (List.mem_range.2 hlt)
      simp only[Bool.and_eq_true,Bool.or_eq_true] at h3
      rcases h3.2 with h4 | h4
      ·have:=of_decide_eq_true h4;omega
      ·have h5:=List.all_eq_true.1 h4 p (List.mem_range.2 hh)
       have h6:=ji (fun j o hj hon e he hb=>by
        have hjp:j<p:=by
         rcases Nat.lt_or_ge j p with hh | hh
         ·exact hh
         ·have:=h2 j hh (Array.getElem?_eq_some_iff.1 hj).1
          rw[this] at hon;cases hon
        have h7:=List.all_eq_true.1 hT'.2 j (List.mem_range.2 (Array.getElem?_eq_some_iff.1 hj).1)
        rw[hj] at h7
        simp only[Bool.and_eq_true] at h7
        have h8:=List.all_eq_true.1 h7.1.1 e (by simpa using he)
        simp only[hb,Bool.not_true,Bool.false_or,decide_eq_true_eq] at h8
        exact h1 e.on (by omega)) hi _ p h5
       have:=h2 p (Nat.le_refl _) hp
       rw[this] at h6;cases h6
    subst hip
    rw[List.range'_succ,wpOpsIn_cons] at h
    refine wpOpIn_mono (fun a' w' h'=>ih (i+1) _ a' w' (by omega) (by omega) (by simp[hsz]) (fun j hj=>?_) (fun j hj hjs=>?_) h') h
    ·rw[Array.getElem?_setIfInBounds]
     by_cases hij:i=j
     ·subst hij;simp[show i<listed.size by omega]
     ·simp only[hij,if_false];exact h1 j (by omega)
    ·rw[Array.getElem?_setIfInBounds]
     have:i≠j:=by omega
     simp only[this,if_false];exact h2 j (by omega) hjs
theorem uk{P:Program}{ops:Array Oper}{m:Nat}{ro:Option Nat}{Q Q':Exit→Act→World→Prop}(hT:ll ops m=true)(hQ:∀e a w,e ≠ .normal→Q' e a w→Q e a w)
  (hN:∀a w,Q' .normal a w→wpOpsIn (Fw ro) 0 P ops Q (List.range' m (ops.size-m)) a w) {a:Act} {w:World}
  (h:wpAnyIn (Fw ro) 0 P .any (ops.extract 0 m) Q' m (Array.replicate m false) a w):wpAnyIn (Fw ro) 0 P .any ops Q ops.size (Array.replicate ops.size false) a w:=by
 have hT':=hT
 simp only[ll,Bool.and_eq_true,decide_eq_true_eq] at hT'
 obtain⟨hm,hT2⟩:=hT'
 have hget:∀i,i<m→(ops.extract 0 m)[i]? = ops[i]?:=fun i hi=>by
  rw[Array.getElem?_extract];simp[hi];omega
 have hsize:(ops.extract 0 m).size=m:=by simp;omega
 have key:∀(fuel:Nat) (l1 l2:Array Bool) (a:Act) (w:World),l1.size=m→l2.size=ops.size→mb l1.toList=fuel→(∀j,j<m→l2[j]? = l1[j]?)→(∀j,m≤j→j<ops.size→l2[j]? = some false) →
   (∀(j:Nat) (o:Oper),ops[j]? = some o→l2[j]? = some true→∀e∈o.after,Region.binds .any e=true→l2[e.on]? = some true) →
   wpAnyIn (Fw ro) 0 P .any (ops.extract 0 m) Q' fuel l1 a w→wpAnyIn (Fw ro) 0 P .any ops Q (fuel+(ops.size-m)) l2 a w:=by
  intro fuel
  induction fuel with
  | zero =>
    intro l1 l2 a w h1 h2 hc he ht hcl h
    rw[Nat.zero_add]
    refine vd hT _ m l2 a w (Nat.le_refl _) (by omega) h2 (fun j hj=>?_) ht (hN _ _ h.2)
    rw[he j hj]
    have:=nT _ hc j (by simpa[h1] using hj)
    simpa using this
  | succ fuel ih =>
    intro l1 l2 a w h1 h2 hc he ht hcl h
    rw[show fuel+1+(ops.size-m)=(fuel+(ops.size-m))+1 by omega]
    have hex:∃j,j<m∧l1[j]? = some false:=by
     refine Classical.byContradiction fun hno=>?_
     have:∀(l:List Bool),(∀i,i<l.length→l[i]? ≠ some false)→mb l=0:=by
      intro l
      induction l with
      | nil=>intro _;rfl
      | cons b l ih' =>
        intro h
        cases b with
        | true=>exact ih' fun i hi=>by simpa using h (i+1) (by simpa using hi)
        | false=>exact absurd rfl (h 0 (by simp))
     have h0:=this l1.toList fun i hi hf=>hno ⟨i,by simpa[h1] using hi,by simpa using hf⟩
     omega
    obtain⟨j0,hj0,hf0⟩:=hex
    have hj0s:j0<ops.size:=by omega
    refine⟨fun h0=>?_,fun i hi=>?_⟩
    ·obtain⟨i,_,hi⟩:=mJ hT h2 hj0s (by rw[he j0 hj0];exact hf0)
     rw[h0] at hi;cases hi
    ·obtain⟨g1,o,ho,hall⟩:=mem_ready.1 hi
     have hlt:i<ops.size:=(Array.getElem?_eq_some_iff.1 ho).1
     have h3:=List.all_eq_true.1 hT2 i (List.mem_range.2 hlt)
     simp only[ho,Bool.and_eq_true,Bool.or_eq_true] at h3
     have him:i<m:=by
      rcases h3.2 with h4 | h4
      ·exact of_decide_eq_true h4
      ·rcases Nat.lt_or_ge i m with hh | hh
       ·exact hh
       ·exfalso
        have h5:=List.all_eq_true.1 h4 j0 (List.mem_range.2 (by omega))
        have h6:=ji hcl hi _ j0 h5
        rw[he j0 hj0,hf0] at h6;cases h6
     have hedge:∀e∈o.after,Region.binds .any e=true→e.on<i:=fun e he' hb=>by
      have:=List.all_eq_true.1 h3.1.1 e (by simpa using he')
      simpa[hb] using this
     have hr1:i∈Region.ready .any (ops.extract 0 m) l1:=by
      refine mem_ready.2 ⟨?_,o,by rw[hget i him];exact ho,fun e he' hb=>?_⟩
      ·rw[Array.getD_eq_getD_getElem?] at g1 ⊢;rw[he i him] at g1;exact g1
      ·have h7:=hall e he' hb
       have:=hedge e he' hb
       rw[Array.getD_eq_getD_getElem?] at h7 ⊢;rw[he e.on (by omega)] at h7;exact h7
     have hun:l1[i]? = some false:=by
      have hs:i<l1.size:=by omega
      have:=(mem_ready.1 hr1).1
      simp[Array.getD_eq_getD_getElem?,hs] at this
      simp[hs,this]
     have hstep:=h.2 i hr1
     have hwant:∀tmps,Region.wanted o (yielded (ops.extract 0 m) tmps)=Region.wanted o (yielded ops tmps):=fun tmps=>by
      unfold Region.wanted
      cases hg:o.guard with
      | none=>rfl
      | some jb =>
        obtain⟨j,b⟩:=jb
        have hjm:j<m:=by
         have h8:=h3.1.2
         rw[hg] at h8
         simp only[Bool.or_eq_true,decide_eq_true_eq] at h8
         omega
        simp only
        unfold yielded
        rw[hget j hjm]
     have hnext:∀a' w',wpAnyIn (Fw ro) 0 P .any (ops.extract 0 m) Q' fuel (l1.setIfInBounds i true) a' w'→wpAnyIn (Fw ro) 0 P .any ops Q (fuel+(ops.size-m)) (l2.setIfInBounds i true) a' w':=fun a' w' h'=>by
      refine ih _ _ a' w' (by simp[h1]) (by simp[h2]) ?_ (fun j hj=>?_) (fun j hj hjs=>?_) ?_ h'
      ·have:=p6 l1.toList i (by simpa using hun)
       simp only[Array.toList_setIfInBounds];omega
      ·rw[Array.getElem?_setIfInBounds,Array.getElem?_setIfInBounds,he j hj,h1,h2]
       by_cases hij:i=j
       ·subst hij;simp[him,hlt]
       ·simp[hij]
      ·rw[Array.getElem?_setIfInBounds]
       have:i≠j:=by omega
       simp only[this,if_false];exact ht j hj hjs
      ·have hset:∀j,(l2.setIfInBounds i true)[j]? = if i=j then some true else l2[j]?:=fun j=>by
        rw[Array.getElem?_setIfInBounds]
        by_cases hij:i=j
        ·subst hij;simp[h2,hlt]
        ·simp[hij]
       intro j p hj hon e he' hb
       rw[hset] at hon ⊢
       by_cases hie:i=e.on
       ·rw[if_pos hie]
       ·rw[if_neg hie]
        by_cases hij:i=j
        ·subst hij
         rw[ho] at hj;cases hj
         exact ji hcl hi 0 e.on (by
          unfold dB waits
          rw[ho]
          exact List.any_eq_true.2 ⟨e,by simpa using he',by simp[hb]⟩)
        ·rw[if_neg hij] at hon
         exact hcl j p hj hon e he' hb
     unfold wpOpIn at hstep ⊢
     rw[hget i him,ho] at hstep
     rw[ho]
     simp only at hstep ⊢
     rw[hwant] at hstep
     by_cases hw:Region.wanted o (yielded ops a.tmps)=true
     ·rw[if_pos hw] at hstep ⊢
      refine⟨hstep.1, ?_⟩
      have h9:=hstep.2
      revert h9
      generalize (o.semAt (Fw ro).round a.eval).run P w=res
      intro h9
      have hLO:LetsOut Q'→LetsOut Q:=fun ⟨a,w,hl⟩=>⟨a,w,hQ _ a w (by simp) hl⟩
      cases res with
      | ok x w' =>
        cases x<;>simp only[Oper.uponIn] at h9 ⊢<;>first | exact hnext _ _ h9 | exact h9.elim | skip
        ·refine⟨h9.1,CallsIn.mono h9.2 fun e w'' hq=>?_⟩
         cases e with
         | returned v=>exact hnext _ _ hq
         | panicked ch=>exact hQ _ _ _ (by simp) hq
         | outgrown=>exact hLO hq
        ·refine⟨h9.1,RoundIn.mono h9.2 fun e w'' hq=>?_⟩
         cases e with
         | returned v=>exact hnext _ _ hq
         | panicked ch=>exact hQ _ _ _ (by simp) hq
         | outgrown=>exact hLO hq
        ·exact⟨h9.1,RowsIn.mono h9.2 fun v w'' hq=>hnext _ _ hq⟩
      | halt x w' =>
        cases x<;>simp only[Oper.uponIn] at h9 ⊢<;>first | exact h9.elim | skip
        exact hQ _ _ _ (by simp) h9
     ·rw[if_neg hw] at hstep ⊢
      exact⟨hstep.1,hnext _ _ hstep.2⟩
 have:=key m (Array.replicate m false) (Array.replicate ops.size false) a w (by simp) (by simp) (by simp[km]) (fun j hj=>by simp[Array.getElem?_replicate,hj,show j<ops.size by omega]) (fun j hj hjs=>by simp[Array.getElem?_replicate,hjs]) (fun j o hj hon=>by simp only[Array.getElem?_replicate] at hon;split at hon<;>simp at hon) h
 rwa [show m+(ops.size-m)=ops.size by omega] at this
def gA(w w':World):Prop:=∀(b:Nat) (o:Obj),w.heap[b]? = some o→w'.heap[b]? = some o
theorem gA.refl(w:World):gA w w:=fun _ _ h=>h
theorem gA.push(w:World)(o:Obj):gA w { w with heap:=w.heap.push o }:=fun b x h=>by
 have hlt:b<w.heap.size:=(Array.getElem?_eq_some_iff.1 h).1
 show (w.heap.push o)[b]? = _
 rw[Array.getElem?_push_lt hlt];simpa[hlt] using h
theorem gA.trans{w w' w'':World}(h:gA w w')(k:gA w' w''):gA w w'':=fun b o x=>k b o (h b o x)
theorem sE{p:Program}{w w2:World}(hg:gA w w2){at_:Addr}{u:TypeId}{k:Addr}{atomic:Bool}{r}(h:w.seen p at_ u k atomic=.ok r):w2.seen p at_ u k atomic=.ok r:=by
 cases hb:w.heap[at_.block]? with
 | some o =>
   have h2:=hg _ _ hb
   unfold World.seen at h ⊢
   rw[hb] at h;rw[h2];exact h
 | none =>
   exfalso
   unfold World.seen at h
   rw[hb] at h
   simp only[bind,Except.bind,throw,throwThe,MonadExceptOf.throw] at h
   repeat' split at h
   all_goals first | cases h | skip
theorem um{p:Program}{w w2:World}(hg:gA w w2){a:Addr}{m:Bool}{r}(h:w.farLoad p a m=.ok r):w2.farLoad p a m=.ok r∧w2.cell? a=none:=by
 unfold World.farLoad at h ⊢
 cases hb:w.heap[a.block]? with
 | none=>rw[hb] at h;simp only at h;cases h
 | some o =>
   have h2:=hg _ _ hb
   rw[hb] at h;rw[h2]
   cases o with
   | view at_ u =>
     simp only at h ⊢
     refine⟨?_,by unfold World.cell?;rw[h2]⟩
     cases hv:w.viewLoad p at_ u a m with
     | error e=>rw[hv] at h;cases h
     | ok x =>
       rw[hv] at h
       have:w2.viewLoad p at_ u a m=.ok x:=by
        unfold World.viewLoad at hv ⊢
        cases hs:w.seen p at_ u a m with
        | error e=>rw[hs] at hv;cases hv
        | ok y=>rw[hs] at hv;rw[sE hg hs];exact hv
       rw[this];exact h
   | _=>simp only at h;cases h
inductive Lo (P:Program) {α:Type}:Sem α→Prop
 | pure (a:α):Lo P (.pure a)
 | halt (h:Halt):Lo P (.halt h)
 | prog (k:Program→Sem α):Lo P (k P)→Lo P (.program k)
 | load (m:Mode) (a:Addr) (k:Value→Sem α):(∀v,Lo P (k v))→Lo P (.load m a k)
theorem Lo.run{P:Program}{α:Type}{s:Sem α}(h:Lo P s):∀{w w':World} {v:α},s.run P w=.ok v w'→w'=w∧∀w2,gA w w2→s.run P w2=.ok v w2:=by
 induction h with
 | pure a=>intro w w' v h;simp only[Sem.run,Result.ok.injEq] at h;exact⟨h.2.symm,fun w2 _=>by simp only[Sem.run,h.1]⟩
 | halt x=>intro w w' v h;simp only[Sem.run] at h;cases h
 | prog k _ ih=>intro w w' v h;simp only[Sem.run] at h ⊢;exact ih h
 | load m a k _ ih =>
   intro w w' v h
   simp only[Sem.run] at h ⊢
   cases hc:w.cell? a with
   | some x =>
     rw[hc] at h
     obtain⟨h1,h2⟩:=ih x h
     refine⟨h1,fun w2 hg=>?_⟩
     have:w2.cell? a=some x:=by
      unfold World.cell? at hc ⊢
      cases hb:w.heap[a.block]? with
      | none=>rw[hb] at hc;cases hc
      | some o=>rw[hb] at hc;rw[hg _ _ hb];exact hc
     rw[this];exact h2 w2 hg
   | none =>
     rw[hc] at h
     simp only at h
     cases hf:w.farLoad P a (m==.atomic) with
     | error e=>rw[hf] at h;cases h
     | ok r =>
       rw[hf] at h
       obtain⟨h1,h2⟩:=ih r.1 h
       refine⟨h1,fun w2 hg=>?_⟩
       obtain⟨g1,g2⟩:=um hg hf
       rw[g2,g1];exact h2 w2 hg
theorem Lo.bind{P:Program}{α β:Type}{s:Sem α}{f:α→Sem β}(h:Lo P s)(hf:∀v,Lo P (f v)):Lo P (s >>= f):=by
 show Lo P (s.bind f)
 induction h with
 | pure a=>exact hf a
 | halt x=>exact .halt x
 | prog k _ ih=>exact .prog _ ih
 | load m a k _ ih=>exact .load m a _ ih
inductive Gr (P:Program) {α:Type}:Sem α→Prop
 | pure (a:α):Gr P (.pure a)
 | halt (h:Halt):Gr P (.halt h)
 | prog (k:Program→Sem α):Gr P (k P)→Gr P (.program k)
 | new (o:Obj) (k:Nat→Sem α):(∀r,Gr P (k r))→Gr P (.new o k)
theorem Gr.run{P:Program}{α:Type}{s:Sem α}(h:Gr P s):∀{w w':World} {v:α},s.run P w=.ok v w'→gA w w':=by
 induction h with
 | pure a=>intro w w' v h;simp only[Sem.run,Result.ok.injEq] at h;rw[←h.2];exact .refl _
 | halt x=>intro w w' v h;simp only[Sem.run] at h;cases h
 | prog k _ ih=>intro w w' v h;simp only[Sem.run] at h;exact ih h
 | new o k _ ih=>intro w w' v h;simp only[Sem.run] at h;exact (gA.push w o).trans (ih _ h)
theorem Gr.bind{P:Program}{α β:Type}{s:Sem α}{f:α→Sem β}(h:Gr P s)(hf:∀v,Gr P (f v)):Gr P (s >>= f):=by
 show Gr P (s.bind f)
 induction h with
 | pure a=>exact hf a
 | halt x=>exact .halt x
 | prog k _ ih=>exact .prog _ ih
 | new o k _ ih=>exact .new o _ ih
theorem Lo.program{P:Program}:Lo P Go.program:=.prog _ (.pure _)
theorem Gr.program{P:Program}:Gr P Go.program:=.prog _ (.pure _)
def o8:Op→Bool
 | .load .. => true
 | _=>false
def sf:Op→Bool
 | .alloc .. | .box .. | .buildSlice .. => true
 | _=>false
def wi(s:Sem Value):Sem Next:=do pure (.value (←s))
theorem nj{P:Program}{s:Sem Value}{w:World}:(wi s).run P w=match s.run P w with | .ok v w'=>.ok (.value v) w' | .halt x w'=>.halt x w':=by
 unfold wi
 rw[Sem.run_bind]
 cases s.run P w<;>rfl
theorem qX{P:Program}(t:TypeId):Lo P (typeInfo t):=by
 unfold typeInfo
 refine Lo.bind .program fun p=>?_
 split
 ·exact .pure _
 ·exact .halt _
theorem uo{P:Program}(t:TypeId):Lo P (sizeOf t):=Lo.bind (qX t) fun _=>.pure _
theorem o9{P:Program}(t:TypeId):Lo P (underlying t):=by
 unfold underlying
 refine Lo.bind .program fun p=>?_
 split
 ·exact .pure _
 ·exact .halt _
theorem qY{P:Program}(a:Addr):∀(n i:Nat) (acc:Array Value),Lo P (loadCellsFrom a i n acc)
 | 0,i,acc=>.pure _
 | n+1,i,acc=>.load _ _ _ fun v=>qY a n (i+1) _
theorem wj{P:Program}(t:TypeId)(v:Value):Lo P (Instr.loadAt t v):=by
 unfold Instr.loadAt
 refine Lo.bind ?_ fun a=>?_
 ·unfold Instr.sureAddr;split
  ·exact .pure _
  ·exact .halt _
 ·unfold loadVar isAgg
  refine Lo.bind (Lo.bind (o9 t) fun d=>by split<;>exact .pure _) fun b=>?_
  split
  ·exact Lo.bind (uo t) fun n=>Lo.bind (qY a n 0 #[]) fun _=>.pure _
  ·exact .load _ _ _ fun v=>.pure _
theorem mL{P:Program}(t:TypeId):Gr P (typeInfo t):=by
 unfold typeInfo
 refine Gr.bind .program fun p=>?_
 split
 ·exact .pure _
 ·exact .halt _
theorem uq{P:Program}(t:TypeId):Gr P (sizeOf t):=Gr.bind (mL t) fun _=>.pure _
theorem pb{P:Program}(t:TypeId):Gr P (underlying t):=by
 unfold underlying
 refine Gr.bind .program fun p=>?_
 split
 ·exact .pure _
 ·exact .halt _
theorem tG{P:Program}(t:TypeId):Gr P (zeroValue t):=by
 unfold zeroValue
 refine Gr.bind (mL t) fun p=>?_
 split
 ·exact .pure _
 ·exact .halt _
theorem mc{P:Program}(t:TypeId)(cs:Array Value):Gr P (newRow t cs):=by
 unfold newRow
 exact Gr.bind (.new _ _ fun r=>.pure r) fun _=>.pure _
theorem ve{P:Program}(t:TypeId):Gr P (Instr.alloc t true (.tuple #[])):=by
 unfold Instr.alloc
 refine Gr.bind (tG t) fun z=>?_
 exact Gr.bind (mc t _) fun _=>.pure _
theorem xx{P:Program}(t:TypeId)(v:Value):Gr P (Instr.box t v):=by
 unfold Instr.box
 exact Gr.bind (mc t _) fun _=>.pure _
theorem pc{P:Program}(t:TypeId)(n:Nat)(ps:Array (Nat×Value)):Gr P (Instr.buildSlice t n ps):=by
 unfold Instr.buildSlice
 refine Gr.bind (pb t) fun d=>?_
 split
 ·rename_i e
  refine Gr.bind (uq e) fun z=>?_
  dsimp only
  have fin:∀zs:Array Value,Gr P (match Instr.fill (fun i=>some (i*z,z)) ((Array.range (n*z)).map (zs[· % zs.size]!)) ps.toList with
    | some cells=>(do pure (Value.slice (some (←newRow e cells)) n n):Sem Value)
    | x=>stuck "buildSlice: a part of the wrong size"):=fun zs=>by
   split
   ·exact Gr.bind (mc e _) fun _=>.pure _
   ·exact .halt _
  by_cases h1:n*z=0<;>by_cases h2:n*z>2 ^ 24
  ·omega
  ·simp only[h2,if_false]
   rw[if_pos h1];exact fin #[]
  ·simp only[h2,if_true]
   exact .halt _
  ·simp only[h2,if_false]
   rw[if_neg h1]
   exact Gr.bind (tG e) fun zs=>fin zs.cells
 ·exact .halt _
theorem p9{P:Program}{ρ:Operand→Value}{o:Oper}(h:o8 o.op=true):∃s,execOp ρ o=wi s∧Lo P s:=by
 unfold o8 at h
 split at h
 ·rename_i t a ho
  exact⟨Instr.loadAt t (ρ a),by simp only[execOp,ho,wi],wj _ _⟩
 ·cases h
theorem wm{P:Program}{ρ:Operand→Value}{o:Oper}(h:sf o.op=true):∃s,execOp ρ o=wi s∧Gr P s:=by
 unfold sf at h
 split at h
 ·rename_i t ho
  exact⟨_,by simp only[execOp,ho,wi],ve t⟩
 ·rename_i t x ho
  exact⟨_,by simp only[execOp,ho,wi],xx t (ρ x)⟩
 ·rename_i t n ps ho
  exact⟨Instr.buildSlice t n (ps.map fun (i,x)=>(i,ρ x)),by simp only[execOp,ho,wi],pc t n _⟩
 ·cases h
def pB(ops:Array Oper)(Q:Exit→Act→World→Prop):Prop:=∀(c:List PanicEntry) (a:Act) (t:Nat) (v:Value) (w:World),t∈gH ops.toList→Q (.panic c) (a.put (some t) v) w→Q (.panic c) a w
def Qo(o:Oper)(Q:Exit→Act→World→Prop):Exit→Act→World→Prop
 | .panic c,a,w=>(o8 o.op||sf o.op)=false∧Q (.panic c) a w
 | e,a,w=>Q e a w
theorem xy{o:Oper}{Q:Exit→Act→World→Prop}{e:Exit}{a:Act}{w:World}(h:Qo o Q e a w):Q e a w:=by
 cases e<;>first | exact h.2 | exact h
theorem vf{o:Oper}{F:Fence}{n:Nat}{P:Program}{a:Act}{w:World}{K:Act→World→Prop}{Q Q':Exit→Act→World→Prop}(hq:∀e a w,e ≠ .normal→Q e a w→Q' e a w)(hh:o.wpIn F n P a w K Q):o.wpIn F n P a w K Q':=by
 unfold Oper.wpIn at *
 refine⟨hh.1, ?_⟩
 have hh:=hh.2
 revert hh
 generalize (o.semAt F.round a.eval).run P w=r
 intro hh
 have hLO:LetsOut Q→LetsOut Q':=fun ⟨a,w,hl⟩=>⟨a,w,hq _ a w (by simp) hl⟩
 cases r with
 | ok x w' =>
   cases x<;>simp only[Oper.uponIn] at hh ⊢<;>first | exact hh | skip
   ·refine⟨hh.1,CallsIn.mono hh.2 fun e w'' h=>?_⟩
    cases e with
    | returned v=>exact h
    | panicked ch=>exact hq _ _ _ (by simp) h
    | outgrown=>exact hLO h
   ·refine⟨hh.1,RoundIn.mono hh.2 fun e w'' h=>?_⟩
    cases e with
    | returned v=>exact h
    | panicked ch=>exact hq _ _ _ (by simp) h
    | outgrown=>exact hLO h
 | halt x w' =>
   cases x<;>simp only[Oper.uponIn] at hh ⊢<;>first | exact hh | skip
   exact hq _ _ _ (by simp) hh
section
variable {P:Program} {ro:Option Nat} {ops:Array Oper} {pu:Oper→Bool} {Q:Exit→Act→World→Prop}
def fQ(P:Program)(ro:Option Nat)(ops:Array Oper)(pu:Oper→Bool)(Q:Exit→Act→World→Prop)(i:Nat)(K:Act→World→Prop)(a:Act)(w:World):Prop :=
 ∃o,ops[i]? = some o∧if Region.wanted o (yielded ops a.tmps)=true then
  (if pu o=true then ∃v,(∀w',(execOp a.eval o).run P w'=.ok (.value v) w')∧K (a.put o.dst v) w else o.wpIn (Fw ro) 0 P a w K (Qo o Q))
  else K (a.put o.dst undef) w
def na(P:Program)(ro:Option Nat)(ops:Array Oper)(pu:Oper→Bool)(Q:Exit→Act→World→Prop):List Nat→Act→World→Prop
 | [],a,w=>Q .normal a w
 | i::r,a,w=>fQ P ro ops pu Q i (na P ro ops pu Q r) a w
theorem du{i:Nat}{K K':Act→World→Prop}(h:∀a w,K a w→K' a w){a:Act}{w:World}(hs:fQ P ro ops pu Q i K a w):fQ P ro ops pu Q i K' a w:=by
 obtain⟨o,ho,hs⟩:=hs
 refine⟨o,ho, ?_⟩
 by_cases hw:Region.wanted o (yielded ops a.tmps)=true
 ·rw[if_pos hw] at hs ⊢
  by_cases hp:pu o=true
  ·rw[if_pos hp] at hs ⊢
   exact hs.imp fun v ⟨h1,h2⟩=>⟨h1,h _ _ h2⟩
  ·rw[if_neg hp] at hs ⊢
   exact Oper.wpIn_mono h hs
 ·rw[if_neg hw] at hs ⊢;exact h _ _ hs
def eS:Op→Bool
 | .select .. => false
 | .defer _=>false
 | _=>true
theorem jJ{o:Op}(h:eS o=true):∀cs b,o ≠ .select cs b:=fun cs b e=>by subst e;cases h
theorem nX{o:Op}(h:eS o=true):∀c,o ≠ .defer c:=fun c e=>by subst e;cases h
theorem gW{o:Oper}(h:eS o.op=true){a:Act}{w:World}{K:Act→World→Prop}:o.wpIn (Fw ro) 0 P a w K Q↔o.uponIn (Fw ro) 0 P a K Q ((execOp a.eval o).run P w):=by
 unfold Oper.wpIn
 rw[Oper.semAt_eq _ _ _ (nX h)]
 exact⟨fun h=>h.2,fun h=>⟨fun _ _=>trivial,h⟩⟩
theorem jk(hQ:pB ops Q){i:Nat}{oi:Oper}{d:Option Tmp}{v:Value}(hd:∀t,d=some t→t∈gH ops.toList)(hoi:ops[i]? = some oi)(hs:eS oi.op=true)
  (h1:∀t,d=some t→t∉oi.looksAt ops) (h2:∀t,d=some t→oi.dst≠some t) {C:Act→World→Prop} {a:Act} {w:World} (h:fQ P ro ops pu Q i C (a.put d v) w) :
  fQ P ro ops pu Q i (fun a' w'=>∃(u:Value) (a1:Act),a1.tmps=a.tmps∧a'=a1.put oi.dst u∧C (a'.put d v) w'∧((pu oi||o8 oi.op||sf oi.op)=true→gA w w')) a w:=by
 have hcalm:∀(c:List PanicEntry) (w':World),Q (.panic c) (a.put d v) w'→Q (.panic c) a w':=fun c w' hc=>by
  cases d with
  | none=>exact hc
  | some t=>exact hQ c a t v w' (hd t rfl) hc
 obtain⟨o,ho,h⟩:=h
 obtain rfl:oi=o:=by rw[hoi] at ho;exact Option.some.inj ho
 refine⟨oi,hoi, ?_⟩
 rw[wanted_put oi a d v h1,execOp_put oi (jJ hs) a d v h1] at h
 have hc:∀u,(a.put d v).put oi.dst u=(a.put oi.dst u).put d v:=fun u=>Act.put_comm a v u h2
 by_cases hw:Region.wanted oi (yielded ops a.tmps)=true
 ·rw[if_pos hw] at h ⊢
  by_cases hp:pu oi=true
  ·rw[if_pos hp] at h ⊢
   obtain⟨u,h3,h4⟩:=h
   exact⟨u,h3,u,a,rfl,rfl,by rw[←hc];exact h4,fun _=>.refl w⟩
  ·rw[if_neg hp] at h ⊢
   rw[gW hs] at h ⊢
   rw[execOp_put oi (jJ hs) a d v h1] at h
   by_cases hg:(o8 oi.op||sf oi.op)=true
   ·obtain⟨s,hs1,hs2⟩:∃s,execOp a.eval oi=wi s∧∀{w' v'},s.run P w=.ok v' w'→gA w w':=by
     rw[Bool.or_eq_true] at hg
     rcases hg with hg | hg
     ·obtain⟨s,e1,e2⟩:=p9 (P:=P) (ρ:=a.eval) hg
      exact⟨s,e1,fun hr=>by rw[(e2.run hr).1];exact .refl w⟩
     ·obtain⟨s,e1,e2⟩:=wm (P:=P) (ρ:=a.eval) hg
      exact⟨s,e1,fun hr=>e2.run hr⟩
    rw[hs1,nj] at h ⊢
    cases hr:s.run P w with
    | ok u w' =>
      rw[hr] at h
      simp only[Oper.uponIn] at h ⊢
      exact⟨u,a,rfl,rfl,by rw[←hc];exact h,fun _=>hs2 hr⟩
    | halt x w' =>
      rw[hr] at h
      cases x<;>simp only[Oper.uponIn] at h ⊢
      exact absurd (hg.symm.trans h.1) (by decide)
   ·have hg':(pu oi||o8 oi.op||sf oi.op)=true→gA w w:=fun _=>.refl w
    have hno:∀w',(pu oi||o8 oi.op||sf oi.op)=true→gA w w':=fun w' hh=>by
     rw[Bool.or_assoc,Bool.or_eq_true] at hh
     rcases hh with hh | hh
     ·exact absurd hh hp
     ·exact absurd hh hg
    revert h
    generalize (execOp a.eval oi).run P w=r
    intro h
    cases r with
    | ok x w' =>
      cases x<;>simp only[Oper.uponIn] at h ⊢
      case value u=>exact⟨u,a,rfl,rfl,by rw[←hc];exact h,hno _⟩
      case skip=>exact⟨undef,a,rfl,rfl,by rw[←hc];exact h,hno _⟩
      case defer dd =>
       refine⟨undef,{ a with defers:=dd::a.defers },rfl,rfl, ?_,hno _⟩
       have e:({ a.put d v with defers:=dd::(a.put d v).defers }:Act)=({ a with defers:=dd::a.defers }:Act).put d v:=by cases d<;>rfl
       rw[e,Act.put_comm _ v undef h2] at h
       exact h
      case enter f args =>
       refine⟨h.1,CallsIn.mono h.2 fun e w'' he=>?_⟩
       cases e with
       | returned u=>exact⟨u,a,rfl,rfl,by rw[←hc];exact he,hno _⟩
       | panicked c=>exact⟨he.1,hcalm _ _ he.2⟩
       | outgrown=>exact he
      case row row args=>exact⟨h.1,RowsIn.mono h.2 fun u w'' he=>⟨u,a,rfl,rfl,by rw[←hc];exact he,hno _⟩⟩
      case round l f tmps iZ body =>
       refine⟨h.1,RoundIn.mono h.2 fun e w'' he=>?_⟩
       cases e with
       | returned u=>exact⟨u,a,rfl,rfl,by rw[←hc];exact he,hno _⟩
       | panicked c=>exact⟨he.1,hcalm _ _ he.2⟩
       | outgrown=>exact he
    | halt x w' =>
      cases x<;>simp only[Oper.uponIn] at h ⊢
      exact⟨h.1,hcalm _ _ h.2⟩
 ·rw[if_neg hw] at h ⊢
  exact⟨undef,a,rfl,rfl,by rw[←hc];exact h,fun _=>.refl w⟩
theorem pC{o:Oper}{a a1:Act}(h:a1.tmps=a.tmps):execOp a1.eval o=execOp a.eval o:=by
 have:a1.eval=a.eval:=by
  funext x
  cases x<;>simp only[Act.eval,h]
 rw[this]
theorem nY(hQ:pB ops Q){k i:Nat}{ok oi:Oper}(hok:ops[k]? = some ok)(hoi:ops[i]? = some oi)(hs:eS ok.op=true)(hs':eS oi.op=true)(hap:ok.apart ops oi=true)
  (hc:pu ok=true∨o8 ok.op=true∧(pu oi||o8 oi.op||sf oi.op)=true) {R:Act→World→Prop} {a:Act} {w:World} (h:fQ P ro ops pu Q k (fun a w=>fQ P ro ops pu Q i R a w) a w) :
  fQ P ro ops pu Q i (fun a w=>fQ P ro ops pu Q k R a w) a w:=by
 obtain⟨h1,h2,h3⟩:=Oper.apart_spec hap
 have hd:∀t,ok.dst=some t→t∈gH ops.toList:=fun t ht=>List.mem_filterMap.2 ⟨ok,by have:=Array.mem_of_getElem? hok;simpa using this,ht⟩
 obtain⟨o,ho,h⟩:=h
 obtain rfl:ok=o:=by rw[hok] at ho;exact Option.some.inj ho
 have hwt:∀(a1:Act) (u:Value),a1.tmps=a.tmps→Region.wanted ok (yielded ops (a1.put oi.dst u).tmps)=Region.wanted ok (yielded ops a.tmps):=fun a1 u e=>by
  rw[wanted_put ok a1 oi.dst u h3,e]
 have hex:∀(a1:Act) (u:Value),a1.tmps=a.tmps→execOp (a1.put oi.dst u).eval ok=execOp a.eval ok:=fun a1 u e=>by
  rw[execOp_put ok (jJ hs) a1 oi.dst u h3,pC e]
 by_cases hw:Region.wanted ok (yielded ops a.tmps)=true
 ·rw[if_pos hw] at h
  by_cases hp:pu ok=true
  ·rw[if_pos hp] at h
   obtain⟨v,h4,h5⟩:=h
   refine du ?_ (jk hQ hd hoi hs' h1 h2 h5)
   rintro a' w' ⟨u,a1,e,rfl,hR,_⟩
   refine⟨ok,hok, ?_⟩
   rw[hwt a1 u e,if_pos hw,if_pos hp,hex a1 u e]
   exact⟨v,h4,hR⟩
  ·rw[if_neg hp,gW hs] at h
   rcases hc with hc | ⟨hl,hg⟩
   ·exact absurd hc hp
   ·obtain⟨s,e1,e2⟩:=p9 (P:=P) (ρ:=a.eval) hl
    rw[e1,nj] at h
    cases hr:s.run P w with
    | ok v w1 =>
      rw[hr] at h
      simp only[Oper.uponIn] at h
      obtain⟨rfl,hg2⟩:=e2.run hr
      refine du ?_ (jk hQ hd hoi hs' h1 h2 h)
      rintro a' w' ⟨u,a1,e,rfl,hR,hgr⟩
      refine⟨ok,hok, ?_⟩
      rw[hwt a1 u e,if_pos hw,if_neg hp,gW hs,hex a1 u e,e1,nj,hg2 w' (hgr hg)]
      exact hR
    | halt x w1 =>
      rw[hr] at h
      cases x<;>simp only[Oper.uponIn] at h
      exact absurd ((show (o8 ok.op||sf ok.op)=true by rw[hl];rfl).symm.trans h.1) (by decide)
 ·rw[if_neg hw] at h
  refine du ?_ (jk hQ hd hoi hs' h1 h2 h)
  rintro a' w' ⟨u,a1,e,rfl,hR,_⟩
  refine⟨ok,hok, ?_⟩
  rw[hwt a1 u e,if_neg hw]
  exact hR
def gG(ops:Array Oper)(pu:Oper→Bool)(k i:Nat):Bool :=
 match ops[k]?,ops[i]? with
 | some ok,some oi=>eS ok.op&&eS oi.op&&ok.apart ops oi&&(pu ok||(o8 ok.op&&(pu oi||o8 oi.op||sf oi.op)))
 | _,_=>false
theorem jY(hQ:pB ops Q){i:Nat}{post:List Nat}:∀(pre:List Nat) (a:Act) (w:World),(∀k∈pre,gG ops pu k i=true)→na P ro ops pu Q (pre++i::post) a w →
  fQ P ro ops pu Q i (na P ro ops pu Q (pre++post)) a w
 | [],a,w,_,h=>h
 | k::pre,a,w,hp,h=>by
   have hk:=hp k (List.mem_cons_self ..)
   have h':fQ P ro ops pu Q k (fun a w=>fQ P ro ops pu Q i (na P ro ops pu Q (pre++post)) a w) a w :=
    du (fun a w hh=>jY hQ pre a w (fun j hj=>hp j (List.mem_cons_of_mem _ hj)) hh) h
   unfold gG at hk
   split at hk
   ·rename_i ok oi e1 e2
    simp only[Bool.and_eq_true,Bool.or_eq_true] at hk
    obtain⟨⟨⟨g1,g2⟩,g3⟩,g4⟩:=hk
    exact nY hQ e1 e2 g1 g2 g3 (g4.imp id fun g=>⟨g.1,by simp only[Bool.or_eq_true];exact g.2⟩) h'
   ·cases hk
theorem ln{i:Nat}{K:Act→World→Prop}(hs:∀(o:Oper),ops[i]? = some o→eS o.op=true){a:Act}{w:World}(h:fQ P ro ops pu Q i K a w):wpOpIn (Fw ro) 0 P ops Q i K a w:=by
 obtain⟨o,ho,h⟩:=h
 unfold wpOpIn
 simp only[ho]
 by_cases hw:Region.wanted o (yielded ops a.tmps)=true
 ·rw[if_pos hw] at h ⊢
  by_cases hp:pu o=true
  ·rw[if_pos hp] at h
   obtain⟨v,h1,h2⟩:=h
   rw[gW (hs o ho),h1 w]
   exact h2
  ·rw[if_neg hp] at h;exact vf (fun e a w _ h=>xy h) h
 ·rw[if_neg hw] at h ⊢
  exact⟨fun _ _=>trivial,h⟩
def jF(ops:Array Oper)(pu:Oper→Bool):List Nat→Bool
 | []=>true
 | k::r=>!waits ops k k&&(r.all fun i=>!waits ops k i&&k != i&&(wr ops i k||gG ops pu k i))&&jF ops pu r
def yr(ops:Array Oper)(pu:Oper→Bool)(l:List Nat):Bool :=
 l.length==ops.size&&(List.range ops.size).all (fun i=>l.contains i)&&l.all (fun i=>decide (i<ops.size))&&jF ops pu l &&
  ops.toList.all (fun o=>eS o.op&&o.after.toList.all fun e=>!(Region.binds .any e)||decide (e.on<ops.size))
theorem jZ:∀(pre:List Nat) {i:Nat} {post:List Nat},jF ops pu (pre++i::post)=true→jF ops pu (pre++post)=true∧(∀k∈pre,k≠i∧(wr ops i k||gG ops pu k i)=true)∧i∉post
 | [],i,post,h=>by
   simp only[List.nil_append,jF,Bool.and_eq_true] at h
   refine⟨h.2,fun k hk=>(by cases hk),fun hm=>?_⟩
   have:=List.all_eq_true.1 h.1.2 i hm
   simp at this
 | k::pre,i,post,h=>by
   simp only[List.cons_append,jF,Bool.and_eq_true] at h
   obtain⟨⟨h1,h2⟩,h3⟩:=h
   obtain⟨g1,g2,g3⟩:=jZ pre h3
   refine⟨?_,fun j hj=>?_,g3⟩
   ·simp only[List.cons_append,jF,Bool.and_eq_true]
    refine⟨⟨h1,List.all_eq_true.2 fun x hx=>List.all_eq_true.1 h2 x ?_⟩,g1⟩
    rcases List.mem_append.1 hx with hx | hx
    ·exact List.mem_append_left _ hx
    ·exact List.mem_append_right _ (List.mem_cons_of_mem _ hx)
   ·rcases List.mem_cons.1 hj with rfl | hj
    ·have:=List.all_eq_true.1 h2 i (List.mem_append_right _ (List.mem_cons_self ..))
     simp only[Bool.and_eq_true,bne_iff_ne,ne_eq] at this
     exact⟨this.1.2,this.2⟩
    ·exact g2 j hj
theorem tH(hQ:pB ops Q)(hop:∀(i:Nat) (o:Oper),ops[i]? = some o→eS o.op=true∧∀e∈o.after,Region.binds .any e=true→e.on<ops.size) :
  ∀(fuel:Nat) (rem:List Nat) (listed:Array Bool) (a:Act) (w:World),listed.size=ops.size→rem.length=fuel→(∀i,i∈rem↔i<ops.size∧listed[i]? = some false) →
   (∀(j:Nat) (o:Oper),ops[j]? = some o→listed[j]? = some true→∀e∈o.after,Region.binds .any e=true→listed[e.on]? = some true)→jF ops pu rem=true →
   na P ro ops pu Q rem a w→wpAnyIn (Fw ro) 0 P .any ops Q fuel listed a w:=by
 intro fuel
 induction fuel with
 | zero =>
   intro rem listed a w hsz hf hm hcl hr h
   have hnil:rem=[]:=List.length_eq_zero_iff.1 hf
   subst hnil
   refine⟨?_,h⟩
   cases hrd:Region.ready .any ops listed with
   | nil=>rfl
   | cons i r =>
     have:i∈Region.ready .any ops listed:=by rw[hrd];exact List.mem_cons_self ..
     obtain⟨h1,o,ho,_⟩:=mem_ready.1 this
     have hlt:i<ops.size:=(Array.getElem?_eq_some_iff.1 ho).1
     have:i∈([]:List Nat):=(hm i).2 ⟨hlt,by
      have hjs:i<listed.size:=by omega
      simp[Array.getD_eq_getD_getElem?,hjs] at h1
      simp[hjs,h1]⟩
     cases this
 | succ fuel ih =>
   intro rem listed a w hsz hf hm hcl hr h
   have hlisted:∀i,i<ops.size→i∉rem→listed[i]? = some true:=fun i hi hn=>by
    have hjs:i<listed.size:=by omega
    rw[Array.getElem?_eq_getElem hjs]
    cases hb:listed[i] with
    | true=>rfl
    | false=>exact absurd ((hm i).2 ⟨hi,by rw[Array.getElem?_eq_getElem hjs,hb]⟩) hn
   refine⟨fun h0=>?_,fun i hi=>?_⟩
   ·cases rem with
    | nil=>simp at hf
    | cons k r =>
      exfalso
      have hk:=(hm k).1 (List.mem_cons_self ..)
      have:k∈Region.ready .any ops listed:=by
       refine mem_ready.2 ⟨by simp[Array.getD_eq_getD_getElem?,hk.2],ops[k],by simp[hk.1],fun e he hb=>?_⟩
       have hes:=(hop k ops[k] (by simp[hk.1])).2 e he hb
       have hw:waits ops k e.on=true:=by
        unfold waits
        rw[show ops[k]? = some ops[k] by simp[hk.1]]
        exact List.any_eq_true.2 ⟨e,by simpa using he,by simp[hb]⟩
       have hnm:e.on∉k::r:=fun hmm=>by
        simp only[jF,Bool.and_eq_true,Bool.not_eq_true'] at hr
        rcases List.mem_cons.1 hmm with hmm | hmm
        ·rw[hmm] at hw;rw[hr.1.1] at hw;cases hw
        ·have:=List.all_eq_true.1 hr.1.2 e.on hmm
         simp only[Bool.and_eq_true,Bool.not_eq_true'] at this
         rw[this.1.1] at hw;cases hw
       have:=hlisted e.on hes hnm
       simp[Array.getD_eq_getD_getElem?,this]
      rw[h0] at this;cases this
   ·obtain⟨hun,o,ho,hall⟩:=mem_ready.1 hi
    have hlt:i<ops.size:=(Array.getElem?_eq_some_iff.1 ho).1
    have hun':listed[i]? = some false:=by
     have hjs:i<listed.size:=by omega
     simp[Array.getD_eq_getD_getElem?,hjs] at hun
     simp[hjs,hun]
    have hwait:∀(f j:Nat),dB ops f i j=true→listed[j]? = some true:=by
     have hedge:∀(f j k:Nat),dB ops f j k=true→listed[j]? = some true→listed[k]? = some true:=by
      intro f
      induction f with
      | zero =>
        intro j k hw hon
        unfold dB waits at hw
        split at hw
        ·rename_i p hp
         obtain⟨e,he,hb⟩:=List.any_eq_true.1 hw
         simp only[Bool.and_eq_true,beq_iff_eq] at hb
         have:=hcl j p hp hon e (by simpa using he) hb.1
         rwa [hb.2] at this
        ·cases hw
      | succ f ihf =>
        intro j k hw hon
        unfold dB at hw
        rw[Bool.or_eq_true] at hw
        rcases hw with hw | hw
        ·unfold waits at hw
         split at hw
         ·rename_i p hp
          obtain⟨e,he,hb⟩:=List.any_eq_true.1 hw
          simp only[Bool.and_eq_true,beq_iff_eq] at hb
          have:=hcl j p hp hon e (by simpa using he) hb.1
          rwa [hb.2] at this
         ·cases hw
        ·split at hw
         ·rename_i p hp
          obtain⟨e,he,hb⟩:=List.any_eq_true.1 hw
          simp only[Bool.and_eq_true] at hb
          exact ihf e.on k hb.2.2 (hcl j p hp hon e (by simpa using he) hb.1)
         ·cases hw
     have hon:∀e∈o.after,Region.binds .any e=true→listed[e.on]? = some true:=fun e he hb=>by
      have:=hall e he hb
      have hjs:e.on<listed.size:=by
       rcases Nat.lt_or_ge e.on listed.size with h | h
       ·exact h
       ·simp[Array.getD_eq_getD_getElem?,Array.getElem?_eq_none h] at this
      simp[Array.getD_eq_getD_getElem?,hjs] at this
      simp[hjs,this]
     intro f j hj
     cases f with
     | zero =>
       unfold dB waits at hj
       rw[ho] at hj
       obtain⟨e,he,hb⟩:=List.any_eq_true.1 hj
       simp only[Bool.and_eq_true,beq_iff_eq] at hb
       have:=hon e (by simpa using he) hb.1
       rwa [hb.2] at this
     | succ f =>
       unfold dB at hj
       rw[Bool.or_eq_true] at hj
       rcases hj with hj | hj
       ·unfold waits at hj
        rw[ho] at hj
        obtain⟨e,he,hb⟩:=List.any_eq_true.1 hj
        simp only[Bool.and_eq_true,beq_iff_eq] at hb
        have:=hon e (by simpa using he) hb.1
        rwa [hb.2] at this
       ·rw[ho] at hj
        obtain⟨e,he,hb⟩:=List.any_eq_true.1 hj
        simp only[Bool.and_eq_true] at hb
        exact hedge f e.on j hb.2.2 (hon e (by simpa using he) hb.1)
    obtain⟨pre,post,hpp⟩:=List.append_of_mem ((hm i).2 ⟨hlt,hun'⟩)
    subst hpp
    obtain⟨g1,g2,g3⟩:=jZ pre hr
    have hfr:=jY hQ pre a w (fun k hk=>by
     have h5:=(g2 k hk).2
     rw[Bool.or_eq_true] at h5
     rcases h5 with h5 | h5
     ·have h6:=hwait 3 k h5
      have h7:=((hm k).1 (List.mem_append_left _ hk)).2
      rw[h6] at h7;cases h7
     ·exact h5) h
    refine ln (fun o ho=>(hop i o ho).1) (du (fun a' w' hG=>?_) hfr)
    have hset:∀j,(listed.setIfInBounds i true)[j]? = if i=j then some true else listed[j]?:=fun j=>by
     rw[Array.getElem?_setIfInBounds]
     by_cases hij:i=j
     ·subst hij;simp[show i<listed.size by omega]
     ·simp[hij]
    refine ih (pre++post) _ a' w' (by simp[hsz]) (by simp only[List.length_append,List.length_cons] at hf ⊢;omega) (fun j=>?_) (fun j p hp hon e he hb=>?_) g1 hG
    ·rw[hset]
     constructor
     ·intro hj
      have hne:i≠j:=fun e=>by
       subst e
       rcases List.mem_append.1 hj with hj | hj
       ·exact (g2 i hj).1 rfl
       ·exact g3 hj
      rw[if_neg hne]
      refine (hm j).1 ?_
      rcases List.mem_append.1 hj with hj | hj
      ·exact List.mem_append_left _ hj
      ·exact List.mem_append_right _ (List.mem_cons_of_mem _ hj)
     ·rintro ⟨hj,hl⟩
      by_cases hij:i=j
      ·rw[if_pos hij] at hl;cases hl
      ·rw[if_neg hij] at hl
       rcases List.mem_append.1 ((hm j).2 ⟨hj,hl⟩) with h | h
       ·exact List.mem_append_left _ h
       ·rcases List.mem_cons.1 h with h | h
        ·exact absurd h.symm hij
        ·exact List.mem_append_right _ h
    ·rw[hset] at hon ⊢
     by_cases hie:i=e.on
     ·rw[if_pos hie]
     ·rw[if_neg hie]
      by_cases hij:i=j
      ·subst hij
       rw[ho] at hp;cases hp
       exact hwait 0 e.on (by
        unfold dB waits
        rw[ho]
        exact List.any_eq_true.2 ⟨e,by simpa using he,by simp[hb]⟩)
      ·rw[if_neg hij] at hon
       exact hcl j p hp hon e he hb
theorem vg(hQ:pB ops Q){l:List Nat}(hB:yr ops pu l=true){a:Act}{w:World}(h:na P ro ops pu Q l a w) :
  wpAnyIn (Fw ro) 0 P .any ops Q ops.size (Array.replicate ops.size false) a w:=by
 simp only[yr,Bool.and_eq_true,beq_iff_eq] at hB
 obtain⟨⟨⟨⟨hlen,hcov⟩,hin⟩,hrow⟩,hops⟩:=hB
 have hop:∀(i:Nat) (o:Oper),ops[i]? = some o→eS o.op=true∧∀e∈o.after,Region.binds .any e=true→e.on<ops.size:=fun i o ho=>by
  have hm:o∈ops.toList:=by have:=Array.mem_of_getElem? ho;simpa using this
  have:=List.all_eq_true.1 hops o hm
  simp only[Bool.and_eq_true] at this
  refine⟨this.1,fun e he hb=>?_⟩
  have:=List.all_eq_true.1 this.2 e (by simpa using he)
  simpa[hb] using this
 have key:=tH (P:=P) (ro:=ro) (pu:=pu) hQ hop
 refine key ops.size l _ a w (by simp) hlen (fun i=>⟨fun hi=>?_,fun ⟨hi,_⟩=>?_⟩) (fun j o ho hon=>?_) hrow h
 ·have h1:i<ops.size:=by simpa using List.all_eq_true.1 hin i hi
  exact⟨h1,by simp[Array.getElem?_replicate,h1]⟩
 ·have:=List.all_eq_true.1 hcov i (List.mem_range.2 hi)
  simpa using this
 ·simp only[Array.getElem?_replicate] at hon;split at hon<;>simp at hon
end
end Go.Vc
namespace Go.Vc
structure Pn (ops:Array Oper) where
 f:List PanicEntry→Act→World→Prop
 calm:∀(c:List PanicEntry) (a:Act) (t:Nat) (v:Value) (w:World),t∈gH ops.toList→f c (a.put (some t) v) w→f c a w
def Qx{ops:Array Oper}(N:Pn ops)(R:Act→World→Prop)(e:Exit)(a:Act)(w:World):Prop:=match e with
 | .normal=>R a w
 | .panic c=>N.f c a w
 | _=>False
section
variable {P:Program} {ro:Option Nat} {ops:Array Oper} {pu:Oper→Bool} {N:Pn ops} {R R':Act→World→Prop}
theorem lp{i:Nat}{K:Act→World→Prop}{a:Act}{w:World}(h:fQ P ro ops pu (Qx N R) i K a w):fQ P ro ops pu (Qx N R') i K a w:=by
 obtain⟨o,ho,h⟩:=h
 refine⟨o,ho, ?_⟩
 by_cases hw:Region.wanted o (yielded ops a.tmps)=true
 ·rw[if_pos hw] at h ⊢
  by_cases hp:pu o=true
  ·rw[if_pos hp] at h ⊢
   exact h
  ·rw[if_neg hp] at h ⊢
   refine vf (fun e a w hne hq=>?_) h
   cases e<;>first | exact absurd rfl hne | exact hq
 ·rw[if_neg hw] at h ⊢
  exact h
theorem qa{m:List Nat}:∀(l:List Nat) (a:Act) (w:World),na P ro ops pu (Qx N (na P ro ops pu (Qx N R) m)) l a w→na P ro ops pu (Qx N R) (l++m) a w
 | [],a,w,h=>h
 | i::l,a,w,h=>lp (du (fun a w h=>qa l a w h) h)
theorem nZ{R R':Act→World→Prop}(hR:∀a w,R a w→R' a w):∀(l:List Nat) (a:Act) (w:World),na P ro ops pu (Qx N R) l a w→na P ro ops pu (Qx N R') l a w
 | [],a,w,h=>hR a w h
 | i::l,a,w,h=>lp (du (fun a w h=>nZ hR l a w h) h)
theorem il(N:Pn ops)(R:Act→World→Prop):pB ops (Qx N R):=fun c a t v w ht h=>N.calm c a t v w ht h
def xz(P:Program)(ro:Option Nat)(ops:Array Oper)(pu:Oper→Bool)(N:Pn ops)(R:Act→World→Prop)(p q:Nat)(lA lB:List Nat)(a:Act)(w:World):Prop :=
 na P ro ops pu (Qx N R) (p::lA) a w∧na P ro ops pu (Qx N R) (q::lB) a w
def tI(ops:Array Oper)(pu:Oper→Bool)(l:List Nat)(p q:Nat)(lA lB:List Nat):Bool:=jF ops pu (l++lA)&&jF ops pu (l++lB)&&l.all (fun k=>k != p&&(!waits ops k p&&(wr ops p k||gG ops pu k p)))&&l.all (fun k=>k != q&&(wr ops q k||gG ops pu k q)) &&
 (p::lA).all (fun x=>!waits ops p x)&&lA.all (fun k=>k==q||(wr ops k p||wr ops k q))&&(q::lB).all (fun x=>(p::lA).contains x)&&(p::lA).all (fun x=>(q::lB).contains x) && !lA.contains p && !lB.contains q&&lA.length==lB.length
def vh(ops:Array Oper)(pu:Oper→Bool)(l:List Nat)(p q:Nat)(lA lB:List Nat):Bool :=
 (l++p::lA).length==ops.size&&(List.range ops.size).all (fun i=>(l++p::lA).contains i)&&(l++p::lA).all (fun i=>decide (i<ops.size))&&tI ops pu l p q lA lB &&
   ops.toList.all (fun o=>eS o.op&&o.after.toList.all fun e=>!(Region.binds .any e)||decide (e.on<ops.size))
theorem qb{listed:Array Bool}(hcl:∀(j:Nat) (o:Oper),ops[j]? = some o→listed[j]? = some true→∀e∈o.after,Region.binds .any e=true→listed[e.on]? = some true)
  {i:Nat} {o:Oper} (ho:ops[i]? = some o) (hall:∀e∈o.after,Region.binds .any e=true→listed[e.on]? = some true):∀(f j:Nat),dB ops f i j=true→listed[j]? = some true:=by
 have hedge:∀(f j k:Nat),dB ops f j k=true→listed[j]? = some true→listed[k]? = some true:=by
  intro f
  induction f with
  | zero =>
    intro j k hw hon
    unfold dB waits at hw
    split at hw
    ·rename_i p hp
     obtain⟨e,he,hb⟩:=List.any_eq_true.1 hw
     simp only[Bool.and_eq_true,beq_iff_eq] at hb
     have:=hcl j p hp hon e (by simpa using he) hb.1
     rwa [hb.2] at this
    ·cases hw
  | succ f ihf =>
    intro j k hw hon
    unfold dB at hw
    rw[Bool.or_eq_true] at hw
    rcases hw with hw | hw
    ·unfold waits at hw
     split at hw
     ·rename_i p hp
      obtain⟨e,he,hb⟩:=List.any_eq_true.1 hw
      simp only[Bool.and_eq_true,beq_iff_eq] at hb
      have:=hcl j p hp hon e (by simpa using he) hb.1
      rwa [hb.2] at this
     ·cases hw
    ·split at hw
     ·rename_i p hp
      obtain⟨e,he,hb⟩:=List.any_eq_true.1 hw
      simp only[Bool.and_eq_true] at hb
      exact ihf e.on k hb.2.2 (hcl j p hp hon e (by simpa using he) hb.1)
     ·cases hw
 intro f j hj
 cases f with
 | zero =>
   unfold dB waits at hj
   rw[ho] at hj
   obtain⟨e,he,hb⟩:=List.any_eq_true.1 hj
   simp only[Bool.and_eq_true,beq_iff_eq] at hb
   have:=hall e (by simpa using he) hb.1
   rwa [hb.2] at this
 | succ f =>
   unfold dB at hj
   rw[Bool.or_eq_true] at hj
   rcases hj with hj | hj
   ·unfold waits at hj
    rw[ho] at hj
    obtain⟨e,he,hb⟩:=List.any_eq_true.1 hj
    simp only[Bool.and_eq_true,beq_iff_eq] at hb
    have:=hall e (by simpa using he) hb.1
    rwa [hb.2] at this
   ·rw[ho] at hj
    obtain⟨e,he,hb⟩:=List.any_eq_true.1 hj
    simp only[Bool.and_eq_true] at hb
    exact hedge f e.on j hb.2.2 (hall e (by simpa using he) hb.1)
theorem lq{listed:Array Bool}{n i:Nat}{l l':List Nat}(hi:i<listed.size)(hn:i∉l')(hl:∀j,j∈l↔j=i∨j∈l')(hm:∀j,j∈l↔j<n∧listed[j]? = some false)(j:Nat) :
  j∈l'↔j<n∧(listed.setIfInBounds i true)[j]? = some false:=by
 rw[Array.getElem?_setIfInBounds]
 by_cases hij:i=j
 ·subst hij
  simp[hi,hn]
 ·simp only[hij,↓reduceIte]
  rw[←hm,hl]
  exact⟨.inr,fun h=>h.resolve_left fun e=>hij e.symm⟩
theorem nk{listed:Array Bool}{i:Nat}{o:Oper}(hi:i<listed.size)(ho:ops[i]? = some o)(hall:∀e∈o.after,Region.binds .any e=true→listed[e.on]? = some true)
  (hcl:∀(j:Nat) (o:Oper),ops[j]? = some o→listed[j]? = some true→∀e∈o.after,Region.binds .any e=true→listed[e.on]? = some true) :
  ∀(j:Nat) (o:Oper),ops[j]? = some o→(listed.setIfInBounds i true)[j]? = some true→∀e∈o.after,Region.binds .any e=true→(listed.setIfInBounds i true)[e.on]? = some true:=by
 intro j p hp hon e he hb
 rw[Array.getElem?_setIfInBounds] at hon ⊢
 by_cases hie:i=e.on
 ·rw[if_pos hie,if_pos (hie▸hi)]
 ·rw[if_neg hie]
  by_cases hij:i=j
  ·subst hij
   rw[ho] at hp;cases hp
   exact hall e he hb
  ·rw[if_neg hij] at hon
   exact hcl j p hp hon e he hb
theorem xA(hop:∀(i:Nat) (o:Oper),ops[i]? = some o→eS o.op=true∧∀e∈o.after,Region.binds .any e=true→e.on<ops.size){p q:Nat}{lA lB:List Nat} :
  ∀(fuel:Nat) (rem:List Nat) (listed:Array Bool) (a:Act) (w:World),listed.size=ops.size→(rem++p::lA).length=fuel→(∀i,i∈rem++p::lA↔i<ops.size∧listed[i]? = some false) →
   (∀(j:Nat) (o:Oper),ops[j]? = some o→listed[j]? = some true→∀e∈o.after,Region.binds .any e=true→listed[e.on]? = some true)→tI ops pu rem p q lA lB=true →
   na P ro ops pu (Qx N (xz P ro ops pu N R p q lA lB)) rem a w→wpAnyIn (Fw ro) 0 P .any ops (Qx N R) fuel listed a w:=by
 intro fuel
 induction fuel with
 | zero=>intro rem listed a w hsz hf;simp at hf
 | succ fuel ih =>
   intro rem listed a w hsz hf hm hcl hr h
   have hr0:=hr
   unfold tI at hr
   rw[Bool.and_eq_true,Bool.and_eq_true,Bool.and_eq_true,Bool.and_eq_true,Bool.and_eq_true,Bool.and_eq_true,Bool.and_eq_true,Bool.and_eq_true,Bool.and_eq_true,Bool.and_eq_true] at hr
   obtain⟨⟨⟨⟨⟨⟨⟨⟨⟨⟨hrp,hrq⟩,hkp⟩,hkq⟩,hwp⟩,hpost⟩,hBA⟩,hAB⟩,hpA⟩,hqB⟩,hlen⟩:=hr
   have hkp0:∀k∈rem,k≠p∧waits ops k p=false∧(wr ops p k||gG ops pu k p)=true:=fun k hk=>by
    have:=List.all_eq_true.1 hkp k hk
    simpa using this
   have hkp:∀k∈rem,k≠p∧(wr ops p k||gG ops pu k p)=true:=fun k hk=>⟨(hkp0 k hk).1,(hkp0 k hk).2.2⟩
   have hkq:∀k∈rem,k≠q∧(wr ops q k||gG ops pu k q)=true:=fun k hk=>by
    have:=List.all_eq_true.1 hkq k hk
    simpa using this
   have hwp:∀x∈p::lA,waits ops p x=false:=fun x hx=>by
    have:=List.all_eq_true.1 hwp x hx
    simpa using this
   have hBA:∀x∈q::lB,x∈p::lA:=fun x hx=>by
    have:=List.all_eq_true.1 hBA x hx
    simpa using this
   have hAB:∀x∈p::lA,x∈q::lB:=fun x hx=>by
    have:=List.all_eq_true.1 hAB x hx
    simpa using this
   have hpA:p∉lA:=by simpa using hpA
   have hqB:q∉lB:=by simpa using hqB
   have hlen:lA.length=lB.length:=by simpa using hlen
   have hlisted:∀i,i<ops.size→i∉rem++p::lA→listed[i]? = some true:=fun i hi hn=>by
    have hjs:i<listed.size:=by omega
    rw[Array.getElem?_eq_getElem hjs]
    cases hb:listed[i] with
    | true=>rfl
    | false=>exact absurd ((hm i).2 ⟨hi,by rw[Array.getElem?_eq_getElem hjs,hb]⟩) hn
   refine⟨fun h0=>?_,fun i hi=>?_⟩
   ·exfalso
    obtain⟨k,hkm,hkw⟩:∃k,k∈rem++p::lA∧∀x∈rem++p::lA,waits ops k x=false:=by
     cases rem with
     | nil=>exact⟨p,List.mem_cons_self ..,fun x hx=>hwp x hx⟩
     | cons k r =>
       refine⟨k,List.mem_cons_self ..,fun x hx=>?_⟩
       simp only[List.cons_append,jF,Bool.and_eq_true,Bool.not_eq_true'] at hrp hrq
       have g1:∀y∈r++lA,waits ops k y=false:=fun y hy=>by
        have:=List.all_eq_true.1 hrp.1.2 y hy
        simp only[Bool.and_eq_true,Bool.not_eq_true'] at this
        exact this.1.1
       simp only[List.cons_append,List.mem_cons,List.mem_append] at hx
       rcases hx with rfl | hx | hx | hx
       ·exact hrp.1.1
       ·exact g1 x (List.mem_append_left _ hx)
       ·subst hx;exact (hkp0 k (List.mem_cons_self ..)).2.1
       ·exact g1 x (List.mem_append_right _ hx)
    have hk:=(hm k).1 hkm
    have:k∈Region.ready .any ops listed:=by
     refine mem_ready.2 ⟨by simp[Array.getD_eq_getD_getElem?,hk.2],ops[k],by simp[hk.1],fun e he hb=>?_⟩
     have hes:=(hop k ops[k] (by simp[hk.1])).2 e he hb
     have hw:waits ops k e.on=true:=by
      unfold waits
      rw[show ops[k]? = some ops[k] by simp[hk.1]]
      exact List.any_eq_true.2 ⟨e,by simpa using he,by simp[hb]⟩
     have hnm:e.on∉rem++p::lA:=fun hmm=>by
      rw[hkw _ hmm] at hw;cases hw
     have:=hlisted e.on hes hnm
     simp[Array.getD_eq_getD_getElem?,this]
    rw[h0] at this;cases this
   ·obtain⟨hun,o,ho,hall'⟩:=mem_ready.1 hi
    have hlt:i<ops.size:=(Array.getElem?_eq_some_iff.1 ho).1
    have hls:i<listed.size:=by omega
    have hun':listed[i]? = some false:=by
     simp[Array.getD_eq_getD_getElem?,hls] at hun
     simp[hls,hun]
    have hall:∀e∈o.after,Region.binds .any e=true→listed[e.on]? = some true:=fun e he hb=>by
     have:=hall' e he hb
     have hjs:e.on<listed.size:=by
      rcases Nat.lt_or_ge e.on listed.size with h | h
      ·exact h
      ·simp[Array.getD_eq_getD_getElem?,Array.getElem?_eq_none h] at this
     simp[Array.getD_eq_getD_getElem?,hjs] at this
     simp[hjs,this]
    have hwait:=qb hcl ho hall
    have hok:∀k,k∈rem→(wr ops i k||gG ops pu k i)=true→gG ops pu k i=true:=fun k hk h5=>by
     rw[Bool.or_eq_true] at h5
     rcases h5 with h5 | h5
     ·have h6:=hwait 3 k h5
      have h7:=((hm k).1 (List.mem_append_left _ hk)).2
      rw[h6] at h7;cases h7
     ·exact h5
    have him:=(hm i).2 ⟨hlt,hun'⟩
    have hend:∀{x:Nat} {lX:List Nat},(∀k∈rem,k≠x∧(wr ops x k||gG ops pu k x)=true)→jF ops pu (rem++lX)=true→x∉lX→lX.length=lA.length→(∀j,j∈rem++p::lA↔j=x∨j∈rem++lX)→i=x→na P ro ops pu (Qx N R) (rem++x::lX) a w →
     wpOpIn (Fw ro) 0 P ops (Qx N R) i (fun a' w'=>wpAnyIn (Fw ro) 0 P .any ops (Qx N R) fuel (listed.setIfInBounds i true) a' w') a w:=by
     intro x lX hkx hry hxX hlX hmem hix hh
     subst hix
     have hfr:=jY (il N R) (post:=lX) rem a w (fun k hk=>hok k hk (hkx k hk).2) hh
     refine ln (fun o ho=>(hop i o ho).1) (du (fun a' w' hG=>?_) hfr)
     refine tH (il N R) hop fuel (rem++lX) _ a' w' (by simp[hsz]) (by simp at hf ⊢;omega) (lq hls (fun hm=>?_) hmem hm) (nk hls ho hall hcl) hry hG
     rcases List.mem_append.1 hm with hm | hm
     ·exact (hkx i hm).1 rfl
     ·exact hxX hm
    by_cases hip:i=p
    ·refine hend hkp hrp hpA rfl (fun j=>?_) hip (qa rem a w (nZ (fun a w h=>h.1) rem a w h))
     simp only[List.mem_append,List.mem_cons]
     constructor
     ·rintro (h | h | h)
      ·exact .inr (.inl h)
      ·exact .inl h
      ·exact .inr (.inr h)
     ·rintro (h | h | h)
      ·exact .inr (.inl h)
      ·exact .inl h
      ·exact .inr (.inr h)
    by_cases hiq:i=q
    ·refine hend hkq hrq hqB hlen.symm (fun j=>?_) hiq (qa rem a w (nZ (fun a w h=>h.2) rem a w h))
     constructor
     ·intro h
      rcases List.mem_append.1 h with h | h
      ·exact .inr (List.mem_append_left _ h)
      ·rcases List.mem_cons.1 (hAB j h) with h | h
       ·exact .inl h
       ·exact .inr (List.mem_append_right _ h)
     ·rintro (h | h)
      ·subst h;exact List.mem_append_right _ (hBA _ (List.mem_cons_self ..))
      ·rcases List.mem_append.1 h with h | h
       ·exact List.mem_append_left _ h
       ·exact List.mem_append_right _ (hBA _ (List.mem_cons_of_mem _ h))
    have hir:i∈rem:=by
     rcases List.mem_append.1 him with h | h
     ·exact h
     ·rcases List.mem_cons.1 h with h | h
      ·exact (hip h).elim
      ·exfalso
       have hw:=List.all_eq_true.1 hpost i h
       simp only[Bool.or_eq_true,beq_iff_eq] at hw
       rcases hw with hw | hw | hw
       ·exact hiq hw
       ·have h6:=hwait 3 p hw
        have h7:=((hm p).1 (List.mem_append_right _ (List.mem_cons_self ..))).2
        rw[h6] at h7;cases h7
       ·have h6:=hwait 3 q hw
        have h7:=((hm q).1 (List.mem_append_right _ (hBA _ (List.mem_cons_self ..)))).2
        rw[h6] at h7;cases h7
    obtain⟨pre,pos2,hpp2⟩:=List.append_of_mem hir
    subst hpp2
    have hrp0:jF ops pu (pre++i::(pos2++lA))=true:=by rw[List.append_assoc,List.cons_append] at hrp;exact hrp
    have hrq0:jF ops pu (pre++i::(pos2++lB))=true:=by rw[List.append_assoc,List.cons_append] at hrq;exact hrq
    obtain⟨g1,g2,g3⟩:=jZ pre hrp0
    obtain⟨g1', -, -⟩:=jZ pre hrq0
    have hfr:=jY (il N _) pre a w (fun k hk=>hok k (List.mem_append_left _ hk) (g2 k hk).2) h
    refine ln (fun o ho=>(hop i o ho).1) (du (fun a' w' hG=>?_) (lp hfr))
    have hni:i∉pre++pos2:=fun hm=>by
     rcases List.mem_append.1 hm with hm | hm
     ·exact (g2 i hm).1 rfl
     ·exact g3 (List.mem_append_left _ hm)
    refine ih (pre++pos2) _ a' w' (by simp[hsz]) (by simp only[List.length_append,List.length_cons] at hf ⊢;omega) (lq hls (fun hm=>?_) (fun j=>?_) hm) (nk hls ho hall hcl) ?_ hG
    ·rcases List.mem_append.1 hm with hm | hm
     ·exact hni hm
     ·rcases List.mem_cons.1 hm with hm | hm
      ·exact hip hm
      ·exact g3 (List.mem_append_right _ hm)
    ·simp only[List.mem_append,List.mem_cons]
     refine⟨fun h=>?_,fun h=>?_⟩
     ·rcases h with (h | h | h) | h
      ·exact .inr (.inl (.inl h))
      ·exact .inl h
      ·exact .inr (.inl (.inr h))
      ·exact .inr (.inr h)
     ·rcases h with h | (h | h) | h
      ·exact .inl (.inr (.inl h))
      ·exact .inl (.inl h)
      ·exact .inl (.inr (.inr h))
      ·exact .inr h
    ·have hsub:∀k,k∈pre++pos2→k∈pre++i::pos2:=fun k hk=>by
      rcases List.mem_append.1 hk with hk | hk
      ·exact List.mem_append_left _ hk
      ·exact List.mem_append_right _ (List.mem_cons_of_mem _ hk)
     unfold tI
     rw[Bool.and_eq_true,Bool.and_eq_true,Bool.and_eq_true,Bool.and_eq_true,Bool.and_eq_true,Bool.and_eq_true,Bool.and_eq_true,Bool.and_eq_true,Bool.and_eq_true,Bool.and_eq_true]
     refine⟨⟨⟨⟨⟨⟨⟨⟨⟨⟨by rw[List.append_assoc];exact g1,by rw[List.append_assoc];exact g1'⟩,List.all_eq_true.2 fun k hk=>?_⟩,List.all_eq_true.2 fun k hk=>?_⟩,List.all_eq_true.2 fun k hk=>?_⟩,hpost⟩,List.all_eq_true.2 fun k hk=>?_⟩,List.all_eq_true.2 fun k hk=>?_⟩,by simpa using hpA⟩,by simpa using hqB⟩,by simpa using hlen⟩
     ·simpa using hkp0 k (hsub k hk)
     ·simpa using hkq k (hsub k hk)
     ·simpa using hwp k hk
     ·simpa using hBA k hk
     ·simpa using hAB k hk
theorem ur{l:List Nat}{p q:Nat}{lA lB:List Nat}(hB:vh ops pu l p q lA lB=true){a:Act}{w:World}(h:na P ro ops pu (Qx N (xz P ro ops pu N R p q lA lB)) l a w) :
  wpAnyIn (Fw ro) 0 P .any ops (Qx N R) ops.size (Array.replicate ops.size false) a w:=by
 simp only[vh,Bool.and_eq_true,beq_iff_eq] at hB
 obtain⟨⟨⟨⟨hlen,hcov⟩,hin⟩,hrow⟩,hops⟩:=hB
 have hop:∀(i:Nat) (o:Oper),ops[i]? = some o→eS o.op=true∧∀e∈o.after,Region.binds .any e=true→e.on<ops.size:=fun i o ho=>by
  have hm:o∈ops.toList:=by have:=Array.mem_of_getElem? ho;simpa using this
  have:=List.all_eq_true.1 hops o hm
  simp only[Bool.and_eq_true] at this
  refine⟨this.1,fun e he hb=>?_⟩
  have:=List.all_eq_true.1 this.2 e (by simpa using he)
  simpa[hb] using this
 refine xA hop ops.size l _ a w (by simp) hlen (fun i=>⟨fun hi=>?_,fun ⟨hi,_⟩=>?_⟩) (fun j o ho hon=>?_) hrow h
 ·have h1:i<ops.size:=by simpa using List.all_eq_true.1 hin i hi
  exact⟨h1,by simp[Array.getElem?_replicate,h1]⟩
 ·have:=List.all_eq_true.1 hcov i (List.mem_range.2 hi)
  simpa using this
 ·simp only[Array.getElem?_replicate] at hon;split at hon<;>simp at hon
end
end Go.Vc
namespace Go.Vc
section
variable {P:Program} {ro:Option Nat} {ops:Array Oper} {pu:Oper→Bool} {N:Pn ops} {R:Act→World→Prop} {Inv:World→Prop} {os:List Nat}
def PV(P:Program)(ops:Array Oper)(Iv:World→Prop)(o:Oper)(a:Act)(u:Value):Prop :=
 (Region.wanted o (yielded ops a.tmps)=true→∀w',Iv w'→(execOp a.eval o).run P w'=.ok (.value u) w')∧(¬Region.wanted o (yielded ops a.tmps)=true→u=undef)
theorem PV.move{Iv:World→Prop}{ok oi:Oper}{a a1:Act}{u u':Value}(hs:eS ok.op=true)(h3:∀t,oi.dst=some t→t∉ok.looksAt ops)(e:a1.tmps=a.tmps)(h:PV P ops Iv ok a u):PV P ops Iv ok (a1.put oi.dst u') u:=by
 have hw:Region.wanted ok (yielded ops (a1.put oi.dst u').tmps)=Region.wanted ok (yielded ops a.tmps):=by rw[wanted_put ok a1 oi.dst u' h3,e]
 have hx:execOp (a1.put oi.dst u').eval ok=execOp a.eval ok:=by rw[execOp_put ok (jJ hs) a1 oi.dst u' h3,pC e]
 unfold PV
 rw[hw,hx];exact h
theorem PV.back{Iv:World→Prop}{ok oi:Oper}{a:Act}{u u':Value}(hs:eS ok.op=true)(h3:∀t,oi.dst=some t→t∉ok.looksAt ops)(h:PV P ops Iv ok (a.put oi.dst u') u):PV P ops Iv ok a u:=by
 have hw:Region.wanted ok (yielded ops (a.put oi.dst u').tmps)=Region.wanted ok (yielded ops a.tmps):=by rw[wanted_put ok a oi.dst u' h3]
 have hx:execOp (a.put oi.dst u').eval ok=execOp a.eval ok:=by rw[execOp_put ok (jJ hs) a oi.dst u' h3]
 unfold PV at h
 rw[hw,hx] at h;exact h
def eF(P:Program)(ro:Option Nat)(ops:Array Oper)(pu:Oper→Bool)(N:Pn ops)(R:Act→World→Prop)(Inv:World→Prop)(os:List Nat)(i:Nat)(K:Act→World→Prop)(a:Act)(w:World):Prop :=
 if i∈os then ∃o,ops[i]? = some o∧∃u,PV P ops Inv o a u∧K (a.put o.dst u) w
 else fQ P ro ops pu (Qx N R) i (fun a w=>Inv w∧K a w) a w
def qc(P:Program)(ro:Option Nat)(ops:Array Oper)(pu:Oper→Bool)(N:Pn ops)(R:Act→World→Prop)(Inv:World→Prop)(os:List Nat):List Nat→Act→World→Prop
 | [],a,w=>R a w
 | i::r,a,w=>eF P ro ops pu N R Inv os i (qc P ro ops pu N R Inv os r) a w
theorem jl{i:Nat}{K K':Act→World→Prop}{a:Act}{w:World}(hw:Inv w)(h:∀a w,Inv w→K a w→K' a w)(hs:eF P ro ops pu N R Inv os i K a w):eF P ro ops pu N R Inv os i K' a w:=by
 unfold eF at hs ⊢
 split
 ·rename_i hi
  rw[if_pos hi] at hs
  obtain⟨o,ho,u,h1,h2⟩:=hs
  exact⟨o,ho,u,h1,h _ _ hw h2⟩
 ·rename_i hi
  rw[if_neg hi] at hs
  exact du (fun a w hk=>⟨hk.1,h _ _ hk.1 hk.2⟩) hs
theorem qd{Q:Exit→Act→World→Prop}{i:Nat}{o:Oper}(ho:ops[i]? = some o)(hp:pu o=true){K:Act→World→Prop}{a:Act}{w:World} :
  fQ P ro ops pu Q i K a w↔∃u,PV P ops (fun _=>True) o a u∧K (a.put o.dst u) w:=by
 constructor
 ·rintro ⟨o',ho',h⟩
  obtain rfl:o=o':=by rw[ho] at ho';exact Option.some.inj ho'
  by_cases hw:Region.wanted o (yielded ops a.tmps)=true
  ·rw[if_pos hw,if_pos hp] at h
   obtain⟨v,h1,h2⟩:=h
   exact⟨v,⟨fun _ w' _=>h1 w',fun h=>absurd hw h⟩,h2⟩
  ·rw[if_neg hw] at h
   exact⟨undef,⟨fun h=>absurd h hw,fun _=>rfl⟩,h⟩
 ·rintro ⟨u,⟨h1,h2⟩,h3⟩
  refine⟨o,ho, ?_⟩
  by_cases hw:Region.wanted o (yielded ops a.tmps)=true
  ·rw[if_pos hw,if_pos hp];exact⟨u,fun w'=>h1 hw w' trivial,h3⟩
  ·rw[if_neg hw];rw[h2 hw] at h3;exact h3
theorem qZ{i:Nat}{K:Act→World→Prop}(hs:∀(o:Oper),ops[i]? = some o→eS o.op=true){a:Act}{w:World}(hw:Inv w)(h:eF P ro ops pu N R Inv os i (fun a w=>Inv w→K a w) a w):wpOpIn (Fw ro) 0 P ops (Qx N R) i K a w:=by
 unfold eF at h
 by_cases hi:i∈os
 ·rw[if_pos hi] at h
  obtain⟨o,ho,u,⟨h1,h2⟩,h3⟩:=h
  unfold wpOpIn
  simp only[ho]
  by_cases hwn:Region.wanted o (yielded ops a.tmps)=true
  ·rw[if_pos hwn,gW (hs o ho),h1 hwn w hw]
   exact h3 hw
  ·rw[if_neg hwn]
   rw[h2 hwn] at h3
   exact⟨fun _ _=>trivial,h3 hw⟩
 ·rw[if_neg hi] at h
  exact ln hs (du (fun a w h=>h.2 h.1) h)
def gw(ops:Array Oper)(pu:Oper→Bool)(os:List Nat)(k i:Nat):Bool :=
 match ops[k]?,ops[i]? with
 | some ok,some oi=>eS ok.op&&eS oi.op&&ok.apart ops oi&&(os.contains k||pu ok||(!os.contains i&&(o8 ok.op&&(pu oi||o8 oi.op||sf oi.op))))
 | _,_=>false
theorem uu{k:Nat}{ok:Oper}(hok:ops[k]? = some ok)(hs:eS ok.op=true)(hc:pu ok=true∨o8 ok.op=true){K:Act→World→Prop}{a:Act}{w:World}(h:fQ P ro ops pu (Qx N R) k (fun a w=>Inv w∧K a w) a w):Inv w:=by
 by_cases hp:pu ok=true
 ·obtain⟨u,_,h2⟩:=(qd hok hp).1 h
  exact h2.1
 ·have hl:=hc.resolve_left hp
  obtain⟨o,ho,h⟩:=h
  obtain rfl:ok=o:=by rw[hok] at ho;exact Option.some.inj ho
  by_cases hw:Region.wanted ok (yielded ops a.tmps)=true
  ·rw[if_pos hw,if_neg hp,gW hs] at h
   obtain⟨s,e1,e2⟩:=p9 (P:=P) (ρ:=a.eval) hl
   rw[e1,nj] at h
   cases hr:s.run P w with
   | ok v w1 =>
     rw[hr] at h
     simp only[Oper.uponIn] at h
     obtain⟨rfl,_⟩:=e2.run hr
     exact h.1
   | halt x w1 =>
     rw[hr] at h
     cases x<;>simp only[Oper.uponIn] at h
     exact absurd ((show (o8 ok.op||sf ok.op)=true by rw[hl];rfl).symm.trans h.1) (by decide)
  ·rw[if_neg hw] at h;exact h.1
theorem sF{k i:Nat}(hki:gw ops pu os k i=true){K:Act→World→Prop}{a:Act}{w:World}(hw:Inv w)(h:eF P ro ops pu N R Inv os k (eF P ro ops pu N R Inv os i K) a w) :
  eF P ro ops pu N R Inv os i (eF P ro ops pu N R Inv os k K) a w:=by
 unfold gw at hki
 split at hki
 ·rename_i ok oi hok hoi
  simp only[Bool.and_eq_true,Bool.or_eq_true] at hki
  obtain⟨⟨⟨hs,hs'⟩,hap⟩,hc⟩:=hki
  obtain⟨h1,h2,h3⟩:=Oper.apart_spec hap
  have hd:∀t,ok.dst=some t→t∈gH ops.toList:=fun t ht=>List.mem_filterMap.2 ⟨ok,by have:=Array.mem_of_getElem? hok;simpa using this,ht⟩
  have pure2:∀{Ik Ii:World→Prop} {C:Act→World→Prop},(∃u,PV P ops Ik ok a u∧∃v,PV P ops Ii oi (a.put ok.dst u) v∧C ((a.put ok.dst u).put oi.dst v) w)→∃v,PV P ops Ii oi a v∧∃u,PV P ops Ik ok (a.put oi.dst v) u∧C ((a.put oi.dst v).put ok.dst u) w:=by
   rintro Ik Ii C ⟨u,hu,v,hv,hC⟩
   refine⟨v,hv.back hs' h1,u,hu.move hs h3 rfl, ?_⟩
   rw[←Act.put_comm a u v h2];exact hC
  by_cases hko:k∈os
  ·by_cases hio:i∈os
   ·unfold eF at h ⊢
    rw[if_pos hko] at h
    rw[if_pos hio]
    obtain⟨o,ho,u,hu,h⟩:=h
    obtain rfl:ok=o:=by rw[hok] at ho;exact Option.some.inj ho
    rw[if_pos hio] at h
    obtain⟨o',ho',v,hv,h⟩:=h
    obtain rfl:oi=o':=by rw[hoi] at ho';exact Option.some.inj ho'
    obtain⟨v',hv',u',hu',hK⟩:=pure2 (C:=K) ⟨u,hu,v,hv,h⟩
    exact⟨oi,hoi,v',hv',by rw[if_pos hko];exact⟨ok,hok,u',hu',hK⟩⟩
   ·unfold eF at h ⊢
    rw[if_pos hko] at h
    rw[if_neg hio]
    obtain⟨o,ho,u,hu,h⟩:=h
    obtain rfl:ok=o:=by rw[hok] at ho;exact Option.some.inj ho
    rw[if_neg hio] at h
    refine du ?_ (jk (il N R) hd hoi hs' h1 h2 h)
    rintro a' w' ⟨u',a1,e,rfl,⟨hI,hK⟩,_⟩
    refine⟨hI, ?_⟩
    rw[if_pos hko]
    exact⟨ok,hok,u,hu.move hs h3 e,hK⟩
  ·by_cases hio:i∈os
   ·have hp:pu ok=true:=by
     rcases hc with (hc | hc) | hc
     ·exact absurd (by simpa using hc) hko
     ·exact hc
     ·simp[hio] at hc
    unfold eF at h ⊢
    rw[if_neg hko] at h
    rw[if_pos hio]
    obtain⟨u,hu,_,h⟩:=(qd hok hp).1 h
    rw[if_pos hio] at h
    obtain⟨o',ho',v,hv,h⟩:=h
    obtain rfl:oi=o':=by rw[hoi] at ho';exact Option.some.inj ho'
    obtain⟨v',hv',u',hu',hK⟩:=pure2 (C:=K) ⟨u,hu,v,hv,h⟩
    refine⟨oi,hoi,v',hv', ?_⟩
    rw[if_neg hko]
    exact (qd hok hp).2 ⟨u',hu',hw,hK⟩
   ·have hc':pu ok=true∨o8 ok.op=true∧(pu oi||o8 oi.op||sf oi.op)=true:=by
     rcases hc with (hc | hc) | hc
     ·exact absurd (by simpa using hc) hko
     ·exact .inl hc
     ·exact .inr ⟨hc.2.1,by simpa[Bool.or_eq_true] using hc.2.2⟩
    have h':fQ P ro ops pu (Qx N R) k (fun a w=>fQ P ro ops pu (Qx N R) i (fun a w=>Inv w∧K a w) a w) a w:=by
     unfold eF at h
     rw[if_neg hko] at h
     refine du (fun a w hh=>?_) h
     have:=hh.2
     rw[if_neg hio] at this
     exact this
    unfold eF
    rw[if_neg hio]
    refine du (fun a w hh=>⟨uu hok hs (hc'.imp id And.left) hh, ?_⟩) (nY (il N R) hok hoi hs hs' hap hc' h')
    rw[if_neg hko];exact hh
 ·cases hki
theorem iP{i:Nat}{post:List Nat}:∀(pre:List Nat) (a:Act) (w:World),(∀k∈pre,gw ops pu os k i=true)→Inv w→qc P ro ops pu N R Inv os (pre++i::post) a w →
  eF P ro ops pu N R Inv os i (qc P ro ops pu N R Inv os (pre++post)) a w
 | [],a,w,_,_,h=>h
 | k::pre,a,w,hp,hw,h =>
   sF (hp k (List.mem_cons_self ..)) hw (jl hw (fun a w hI hh=>iP pre a w (fun j hj=>hp j (List.mem_cons_of_mem _ hj)) hI hh) h)
def kq(ops:Array Oper)(pu:Oper→Bool)(os:List Nat):List Nat→Bool
 | []=>true
 | k::r=>!waits ops k k&&(r.all fun i=>!waits ops k i&&k != i&&(wr ops i k||gw ops pu os k i))&&kq ops pu os r
theorem kI:∀(pre:List Nat) {i:Nat} {post:List Nat},kq ops pu os (pre++i::post)=true→kq ops pu os (pre++post)=true∧(∀k∈pre,k≠i∧(wr ops i k||gw ops pu os k i)=true)∧i∉post
 | [],i,post,h=>by
   simp only[List.nil_append,kq,Bool.and_eq_true] at h
   refine⟨h.2,fun k hk=>(by cases hk),fun hm=>?_⟩
   have:=List.all_eq_true.1 h.1.2 i hm
   simp at this
 | k::pre,i,post,h=>by
   simp only[List.cons_append,kq,Bool.and_eq_true] at h
   obtain⟨⟨h1,h2⟩,h3⟩:=h
   obtain⟨g1,g2,g3⟩:=kI pre h3
   refine⟨?_,fun j hj=>?_,g3⟩
   ·simp only[List.cons_append,kq,Bool.and_eq_true]
    refine⟨⟨h1,List.all_eq_true.2 fun x hx=>List.all_eq_true.1 h2 x ?_⟩,g1⟩
    rcases List.mem_append.1 hx with hx | hx
    ·exact List.mem_append_left _ hx
    ·exact List.mem_append_right _ (List.mem_cons_of_mem _ hx)
   ·rcases List.mem_cons.1 hj with rfl | hj
    ·have:=List.all_eq_true.1 h2 i (List.mem_append_right _ (List.mem_cons_self ..))
     simp only[Bool.and_eq_true,bne_iff_ne,ne_eq] at this
     exact⟨this.1.2,this.2⟩
    ·exact g2 j hj
def xB(ops:Array Oper)(pu:Oper→Bool)(os pre post:List Nat):Bool :=
 (pre++post).length==ops.size&&(List.range ops.size).all (fun i=>(pre++post).contains i)&&(pre++post).all (fun i=>decide (i<ops.size))&&kq ops pu os pre&&jF ops pu post &&
   (post.all fun i=>pre.all fun k=>wr ops i k && !waits ops k i)&&ops.toList.all (fun o=>eS o.op&&o.after.toList.all fun e=>!(Region.binds .any e)||decide (e.on<ops.size))
theorem sG(hop:∀(i:Nat) (o:Oper),ops[i]? = some o→eS o.op=true∧∀e∈o.after,Region.binds .any e=true→e.on<ops.size){post:List Nat}(hpost:jF ops pu post=true) :
  ∀(fuel:Nat) (pre:List Nat) (listed:Array Bool) (a:Act) (w:World),listed.size=ops.size→(pre++post).length=fuel→(∀i,i∈pre++post↔i<ops.size∧listed[i]? = some false) →
   (∀(j:Nat) (o:Oper),ops[j]? = some o→listed[j]? = some true→∀e∈o.after,Region.binds .any e=true→listed[e.on]? = some true)→kq ops pu os pre=true →
   (∀i∈post,∀k∈pre,wr ops i k=true∧waits ops k i=false)→Inv w →
   qc P ro ops pu N (na P ro ops pu (Qx N R) post) Inv os pre a w→wpAnyIn (Fw ro) 0 P .any ops (Qx N R) fuel listed a w:=by
 intro fuel
 induction fuel with
 | zero =>
   intro pre listed a w hsz hf hm hcl hr hpp hw h
   have hnil:pre++post=[]:=List.length_eq_zero_iff.1 hf
   rw[List.append_eq_nil_iff] at hnil
   obtain⟨rfl,rfl⟩:=hnil
   exact tH (il N R) hop 0 [] listed a w hsz rfl hm hcl hpost h
 | succ fuel ih =>
   intro pre listed a w hsz hf hm hcl hr hpp hw h
   cases hpre:pre with
   | nil =>
     subst hpre
     exact tH (il N R) hop (fuel+1) post listed a w hsz hf hm hcl hpost h
   | cons k0 r0 =>
   have hk0:k0∈pre:=by rw[hpre];exact List.mem_cons_self ..
   have hlisted:∀i,i<ops.size→i∉pre++post→listed[i]? = some true:=fun i hi hn=>by
    have hjs:i<listed.size:=by omega
    rw[Array.getElem?_eq_getElem hjs]
    cases hb:listed[i] with
    | true=>rfl
    | false=>exact absurd ((hm i).2 ⟨hi,by rw[Array.getElem?_eq_getElem hjs,hb]⟩) hn
   refine⟨fun h0=>?_,fun i hi=>?_⟩
   ·exfalso
    have hkw:∀x∈pre++post,waits ops k0 x=false:=fun x hx=>by
     rcases List.mem_append.1 hx with hx | hx
     ·rw[hpre] at hr hx
      simp only[kq,Bool.and_eq_true,Bool.not_eq_true'] at hr
      rcases List.mem_cons.1 hx with rfl | hx
      ·exact hr.1.1
      ·have:=List.all_eq_true.1 hr.1.2 x hx
       simp only[Bool.and_eq_true,Bool.not_eq_true'] at this
       exact this.1.1
     ·exact (hpp x hx k0 hk0).2
    have hk:=(hm k0).1 (List.mem_append_left _ hk0)
    have:k0∈Region.ready .any ops listed:=by
     refine mem_ready.2 ⟨by simp[Array.getD_eq_getD_getElem?,hk.2],ops[k0],by simp[hk.1],fun e he hb=>?_⟩
     have hes:=(hop k0 ops[k0] (by simp[hk.1])).2 e he hb
     have hwt:waits ops k0 e.on=true:=by
      unfold waits
      rw[show ops[k0]? = some ops[k0] by simp[hk.1]]
      exact List.any_eq_true.2 ⟨e,by simpa using he,by simp[hb]⟩
     have hnm:e.on∉pre++post:=fun hmm=>by
      rw[hkw _ hmm] at hwt;cases hwt
     have:=hlisted e.on hes hnm
     simp[Array.getD_eq_getD_getElem?,this]
    rw[h0] at this;cases this
   ·obtain⟨hun,o,ho,hall'⟩:=mem_ready.1 hi
    have hlt:i<ops.size:=(Array.getElem?_eq_some_iff.1 ho).1
    have hls:i<listed.size:=by omega
    have hun':listed[i]? = some false:=by
     simp[Array.getD_eq_getD_getElem?,hls] at hun
     simp[hls,hun]
    have hall:∀e∈o.after,Region.binds .any e=true→listed[e.on]? = some true:=fun e he hb=>by
     have:=hall' e he hb
     have hjs:e.on<listed.size:=by
      rcases Nat.lt_or_ge e.on listed.size with h | h
      ·exact h
      ·simp[Array.getD_eq_getD_getElem?,Array.getElem?_eq_none h] at this
     simp[Array.getD_eq_getD_getElem?,hjs] at this
     simp[hjs,this]
    have hwait:=qb hcl ho hall
    have hno:∀k,k∈pre++post→¬wr ops i k=true:=fun k hk h5=>by
     have h6:=hwait 3 k h5
     have h7:=((hm k).1 hk).2
     rw[h6] at h7;cases h7
    have hir:i∈pre:=by
     rcases List.mem_append.1 ((hm i).2 ⟨hlt,hun'⟩) with h | h
     ·exact h
     ·exact absurd (hpp i h k0 hk0).1 (hno k0 (List.mem_append_left _ hk0))
    clear hpre hk0
    obtain⟨p1,p2,hsp⟩:=List.append_of_mem hir
    subst hsp
    obtain⟨g1,g2,g3⟩:=kI p1 hr
    have hfr:=iP p1 a w (fun k hk=>by
     have h5:=(g2 k hk).2
     rw[Bool.or_eq_true] at h5
     exact h5.resolve_left (hno k (List.mem_append_left _ (List.mem_append_left _ hk)))) hw h
    have hni:i∉p1++p2:=fun hm=>by
     rcases List.mem_append.1 hm with hm | hm
     ·exact (g2 i hm).1 rfl
     ·exact g3 hm
    have hnp:i∉post:=fun hp=>hno i (List.mem_append_right _ hp) (hpp i hp i hir).1
    have hfin:eF P ro ops pu N R Inv os i (fun a' w'=>Inv w'→wpAnyIn (Fw ro) 0 P .any ops (Qx N R) fuel (listed.setIfInBounds i true) a' w') a w:=by
     have hstep:∀a' w',Inv w'→qc P ro ops pu N (na P ro ops pu (Qx N R) post) Inv os (p1++p2) a' w'→Inv w'→wpAnyIn (Fw ro) 0 P .any ops (Qx N R) fuel (listed.setIfInBounds i true) a' w':=fun a' w' _ hG hI =>
      ih (p1++p2) _ a' w' (by simp[hsz]) (by simp only[List.length_append,List.length_cons] at hf ⊢;omega) (lq hls (fun hm=>?_) (fun j=>?_) hm) (nk hls ho hall hcl) g1 (fun x hx k hk=>hpp x hx k (by
       rcases List.mem_append.1 hk with hk | hk
       ·exact List.mem_append_left _ hk
       ·exact List.mem_append_right _ (List.mem_cons_of_mem _ hk))) hI hG
     ·unfold eF at hfr ⊢
      by_cases hio:i∈os
      ·rw[if_pos hio] at hfr ⊢
       obtain⟨o',ho',u,hu,hK⟩:=hfr
       exact⟨o',ho',u,hu,hstep _ _ hw hK⟩
      ·rw[if_neg hio] at hfr ⊢
       exact du (fun a w hh=>⟨hh.1,hstep a w hh.1 hh.2⟩) (lp hfr)
     ·rcases List.mem_append.1 hm with hm | hm
      ·exact hni hm
      ·exact hnp hm
     ·simp only[List.mem_append,List.mem_cons]
      refine⟨fun h=>?_,fun h=>?_⟩
      ·rcases h with (h | h | h) | h
       ·exact .inr (.inl (.inl h))
       ·exact .inl h
       ·exact .inr (.inl (.inr h))
       ·exact .inr (.inr h)
      ·rcases h with h | (h | h) | h
       ·exact .inl (.inr (.inl h))
       ·exact .inl (.inl h)
       ·exact .inl (.inr (.inr h))
       ·exact .inr h
    exact qZ (fun o ho=>(hop i o ho).1) hw hfin
theorem pD{os pre post:List Nat}(hB:xB ops pu os pre post=true){a:Act}{w:World}(hw:Inv w)(h:qc P ro ops pu N (na P ro ops pu (Qx N R) post) Inv os pre a w) :
  wpAnyIn (Fw ro) 0 P .any ops (Qx N R) ops.size (Array.replicate ops.size false) a w:=by
 simp only[xB,Bool.and_eq_true,beq_iff_eq] at hB
 obtain⟨⟨⟨⟨⟨⟨hlen,hcov⟩,hin⟩,hrow⟩,hpost⟩,hpp⟩,hops⟩:=hB
 have hop:∀(i:Nat) (o:Oper),ops[i]? = some o→eS o.op=true∧∀e∈o.after,Region.binds .any e=true→e.on<ops.size:=fun i o ho=>by
  have hm:o∈ops.toList:=by have:=Array.mem_of_getElem? ho;simpa using this
  have:=List.all_eq_true.1 hops o hm
  simp only[Bool.and_eq_true] at this
  refine⟨this.1,fun e he hb=>?_⟩
  have:=List.all_eq_true.1 this.2 e (by simpa using he)
  simpa[hb] using this
 refine sG hop hpost ops.size pre _ a w (by simp) hlen (fun i=>⟨fun hi=>?_,fun ⟨hi,_⟩=>?_⟩) (fun j o ho hon=>?_) hrow (fun i hi k hk=>?_) hw h
 ·have h1:i<ops.size:=by simpa using List.all_eq_true.1 hin i hi
  exact⟨h1,by simp[Array.getElem?_replicate,h1]⟩
 ·have:=List.all_eq_true.1 hcov i (List.mem_range.2 hi)
  simpa using this
 ·simp only[Array.getElem?_replicate] at hon;split at hon<;>simp at hon
 ·have:=List.all_eq_true.1 (List.all_eq_true.1 hpp i hi) k hk
  simp only[Bool.and_eq_true,Bool.not_eq_true'] at this
  exact this
end
end Go.Vc
namespace Go.Vc
section
variable {P:Program} {ro:Option Nat} {ops:Array Oper} {pu:Oper→Bool} {N:Pn ops} {R:Act→World→Prop} {Inv:World→Prop} {os:List Nat}
theorem gM{R':Act→World→Prop}{i:Nat}{K:Act→World→Prop}{a:Act}{w:World}(h:eF P ro ops pu N R Inv os i K a w):eF P ro ops pu N R' Inv os i K a w:=by
 unfold eF at h ⊢
 split
 ·rename_i hi;rw[if_pos hi] at h;exact h
 ·rename_i hi;rw[if_neg hi] at h;exact lp h
def xd(P:Program)(ro:Option Nat)(ops:Array Oper)(pu:Oper→Bool)(N:Pn ops)(R:Act→World→Prop)(Inv:World→Prop)(os:List Nat):Ot→Act→World→Prop
 | .fin pre post,a,w=>qc P ro ops pu N (na P ro ops pu (Qx N R) post) Inv os pre a w
 | .fork pre i j x y,a,w=>qc P ro ops pu N (fun a w=>eF P ro ops pu N R Inv os i (xd P ro ops pu N R Inv os x) a w∧eF P ro ops pu N R Inv os j (xd P ro ops pu N R Inv os y) a w) Inv os pre a w
theorem n6{R R':Act→World→Prop}(h:∀a w,Inv w→R a w→R' a w):∀(l:List Nat) (a:Act) (w:World),Inv w→qc P ro ops pu N R Inv os l a w→qc P ro ops pu N R' Inv os l a w
 | [],a,w,hw,hh=>h a w hw hh
 | i::l,a,w,hw,hh=>gM (R:=R) (jl hw (fun a w hI hk=>n6 h l a w hI hk) hh)
theorem j1{R:Act→World→Prop}:∀(l m:List Nat) (a:Act) (w:World),Inv w→qc P ro ops pu N (qc P ro ops pu N R Inv os m) Inv os l a w→qc P ro ops pu N R Inv os (l++m) a w
 | [],m,a,w,hw,h=>h
 | i::l,m,a,w,hw,h=>gM (R:=qc P ro ops pu N R Inv os m) (jl hw (fun a w hI hk=>j1 l m a w hI hk) h)
def pd(ops:Array Oper)(pu:Oper→Bool)(os:List Nat):List Nat→List Nat→Bool
 | [],_=>true
 | k::r,m=>!waits ops k k&&((r++m).all fun i=>!waits ops k i&&k != i&&(wr ops i k||gw ops pu os k i))&&pd ops pu os r m
theorem me{m:List Nat}:∀(pre:List Nat) {i:Nat} {post:List Nat},pd ops pu os (pre++i::post) m=true→pd ops pu os (pre++post) m=true∧(∀k∈pre,k≠i∧(wr ops i k||gw ops pu os k i)=true)∧i∉post∧i∉m
 | [],i,post,h=>by
   simp only[List.nil_append,pd,Bool.and_eq_true] at h
   refine⟨h.2,fun k hk=>(by cases hk),fun hm=>?_,fun hm=>?_⟩
   ·have:=List.all_eq_true.1 h.1.2 i (List.mem_append_left _ hm);simp at this
   ·have:=List.all_eq_true.1 h.1.2 i (List.mem_append_right _ hm);simp at this
 | k::pre,i,post,h=>by
   simp only[List.cons_append,pd,Bool.and_eq_true] at h
   obtain⟨⟨h1,h2⟩,h3⟩:=h
   obtain⟨g1,g2,g3⟩:=me pre h3
   refine⟨?_,fun j hj=>?_,g3⟩
   ·simp only[List.cons_append,pd,Bool.and_eq_true]
    refine⟨⟨h1,List.all_eq_true.2 fun x hx=>List.all_eq_true.1 h2 x ?_⟩,g1⟩
    simp only[List.mem_append,List.mem_cons] at hx ⊢
    rcases hx with (hx | hx) | hx
    ·exact .inl (.inl hx)
    ·exact .inl (.inr (.inr hx))
    ·exact .inr hx
   ·rcases List.mem_cons.1 hj with rfl | hj
    ·have:=List.all_eq_true.1 h2 i (List.mem_append_left _ (List.mem_append_right _ (List.mem_cons_self ..)))
     simp only[Bool.and_eq_true,bne_iff_ne,ne_eq] at this
     exact⟨this.1.2,this.2⟩
    ·exact g2 j hj
theorem n9{m:List Nat}:∀{pre:List Nat},pd ops pu os pre m=true→∀k∈pre,∀i∈m,waits ops k i=false∧k≠i∧(wr ops i k||gw ops pu os k i)=true
 | j::r,h,k,hk,i,hi=>by
   simp only[pd,Bool.and_eq_true] at h
   rcases List.mem_cons.1 hk with rfl | hk
   ·have:=List.all_eq_true.1 h.1.2 i (List.mem_append_right _ hi)
    simp only[Bool.and_eq_true,Bool.not_eq_true',bne_iff_ne,ne_eq] at this
    exact⟨this.1.1,this.1.2,this.2⟩
   ·exact n9 h.2 k hk i hi
def tJ(ops:Array Oper)(pu:Oper→Bool)(os:List Nat):List Nat→Ot→Bool
 | acc,.fin pre post=>kq ops pu os (acc++pre)&&jF ops pu post&&post.all fun i=>(acc++pre).all fun k=>wr ops i k && !waits ops k i
 | acc,.fork pre i j x y=>pd ops pu os (acc++pre) (i::x.ops)&&((i::x.ops).all fun k=>(j::y.ops).contains k)&&((j::y.ops).all fun k=>(i::x.ops).contains k)&&((i::x.ops).length==(j::y.ops).length) &&
    ((i::x.ops).all fun k=>!waits ops i k)&&((i::x.ops).all fun k=>k==i||k==j||(i::x.ops).any fun l=>wr ops k l) && !x.ops.contains i && !y.ops.contains j&&tJ ops pu os (acc++pre) x&&tJ ops pu os (acc++pre) y
theorem oc:∀(t:Ot) (p1 p2:List Nat) {i:Nat},tJ ops pu os (p1++i::p2) t=true→tJ ops pu os (p1++p2) t=true
 | .fin pre post,p1,p2,i,h=>by
   simp only[tJ,Bool.and_eq_true] at h ⊢
   obtain⟨⟨h1,h2⟩,h3⟩:=h
   rw[List.append_assoc,List.cons_append] at h1
   refine⟨⟨?_,h2⟩,List.all_eq_true.2 fun x hx=>List.all_eq_true.2 fun k hk=>List.all_eq_true.1 (List.all_eq_true.1 h3 x hx) k ?_⟩
   ·rw[List.append_assoc];exact (kI p1 h1).1
   ·simp only[List.mem_append,List.mem_cons] at hk ⊢
    rcases hk with (hk | hk) | hk
    ·exact .inl (.inl hk)
    ·exact .inl (.inr (.inr hk))
    ·exact .inr hk
 | .fork pre a b x y,p1,p2,i,h=>by
   simp only[tJ,Bool.and_eq_true] at h ⊢
   obtain⟨⟨⟨⟨⟨⟨⟨⟨⟨h1,h2⟩,h3⟩,h4⟩,h5⟩,h6⟩,h7⟩,h8⟩,h9⟩,h10⟩:=h
   rw[List.append_assoc,List.cons_append] at h1 h9 h10
   rw[List.append_assoc]
   exact⟨⟨⟨⟨⟨⟨⟨⟨⟨(me p1 h1).1,h2⟩,h3⟩,h4⟩,h5⟩,h6⟩,h7⟩,h8⟩,oc x p1 (p2++pre) h9⟩,oc y p1 (p2++pre) h10⟩
theorem xC(hop:∀(i:Nat) (o:Oper),ops[i]? = some o→eS o.op=true∧∀e∈o.after,Region.binds .any e=true→e.on<ops.size) :
  ∀(fuel:Nat) (t:Ot) (acc:List Nat) (listed:Array Bool) (a:Act) (w:World),listed.size=ops.size→(acc++t.ops).length=fuel→(∀i,i∈acc++t.ops↔i<ops.size∧listed[i]? = some false) →
   (∀(j:Nat) (o:Oper),ops[j]? = some o→listed[j]? = some true→∀e∈o.after,Region.binds .any e=true→listed[e.on]? = some true)→tJ ops pu os acc t=true→Inv w →
   qc P ro ops pu N (xd P ro ops pu N R Inv os t) Inv os acc a w→wpAnyIn (Fw ro) 0 P .any ops (Qx N R) fuel listed a w:=by
 intro fuel
 induction fuel with
 | zero =>
   intro t acc listed a w hsz hf hm hcl hok hw h
   cases t with
   | fin pre post =>
     simp only[tJ,Bool.and_eq_true] at hok
     obtain⟨⟨h1,h2⟩,h3⟩:=hok
     refine sG hop h2 0 (acc++pre) listed a w hsz (by rw[List.append_assoc];exact hf) (by rw[List.append_assoc];exact hm) hcl h1 (fun i hi k hk=>?_) hw (j1 acc pre a w hw h)
     have:=List.all_eq_true.1 (List.all_eq_true.1 h3 i hi) k hk
     simp only[Bool.and_eq_true,Bool.not_eq_true'] at this
     exact this
   | fork pre i j x y=>simp[Ot.ops] at hf
 | succ fuel ih =>
   intro t acc listed a w hsz hf hm hcl hok hw h
   cases t with
   | fin pre post =>
     simp only[tJ,Bool.and_eq_true] at hok
     obtain⟨⟨h1,h2⟩,h3⟩:=hok
     refine sG hop h2 (fuel+1) (acc++pre) listed a w hsz (by rw[List.append_assoc];exact hf) (by rw[List.append_assoc];exact hm) hcl h1 (fun i hi k hk=>?_) hw (j1 acc pre a w hw h)
     have:=List.all_eq_true.1 (List.all_eq_true.1 h3 i hi) k hk
     simp only[Bool.and_eq_true,Bool.not_eq_true'] at this
     exact this
   | fork pre i j x y =>
   have hok0:tJ ops pu os (acc++pre) (.fork [] i j x y)=true:=by
    simp only[tJ] at hok ⊢
    rw[List.append_nil];exact hok
   simp only[tJ,Bool.and_eq_true] at hok
   obtain⟨⟨⟨⟨⟨⟨⟨⟨⟨h1,h2⟩,h3⟩,h4⟩,h5⟩,h6⟩,h7⟩,h8⟩,h9⟩,h10⟩:=hok
   have h:=j1 acc pre a w hw h
   have hm2:∀z,z∈(acc++pre)++(i::x.ops)↔z<ops.size∧listed[z]? = some false:=fun z=>by rw[List.append_assoc];exact hm z
   have hf2:((acc++pre)++(i::x.ops)).length=fuel+1:=by rw[List.append_assoc];exact hf
   clear hm hf
   have hm:=hm2
   have hf:=hf2
   clear hm2 hf2
   generalize acc++pre=q at *
   have hrow:=fun k hk z hz=>n9 h1 k hk z hz
   have hset:∀z,z∈i::x.ops↔z∈j::y.ops:=fun z=>⟨fun hz=>by
    have:=List.all_eq_true.1 h2 z hz
    simpa only[List.contains_iff_mem] using this,fun hz=>by
    have:=List.all_eq_true.1 h3 z hz
    simpa only[List.contains_iff_mem] using this⟩
   have hlisted:∀z,z<ops.size→z∉q++(i::x.ops)→listed[z]? = some true:=fun z hz hn=>by
    have hjs:z<listed.size:=by omega
    rw[Array.getElem?_eq_getElem hjs]
    cases hb:listed[z] with
    | true=>rfl
    | false=>exact absurd ((hm z).2 ⟨hz,by rw[Array.getElem?_eq_getElem hjs,hb]⟩) hn
   have hhead:∃c,c∈q++(i::x.ops)∧∀z∈q++(i::x.ops),waits ops c z=false:=by
    cases q with
    | nil =>
      refine⟨i,.head _,fun z hz=>?_⟩
      have:=List.all_eq_true.1 h5 z hz
      simpa using this
    | cons c r =>
      refine⟨c,.head _,fun z hz=>?_⟩
      simp only[pd,Bool.and_eq_true,Bool.not_eq_true'] at h1
      rcases List.mem_cons.1 hz with rfl | hz
      ·exact h1.1.1
      ·have:=List.all_eq_true.1 h1.1.2 z hz
       simp only[Bool.and_eq_true,Bool.not_eq_true'] at this
       exact this.1.1
   refine⟨fun h0=>?_,fun k hk=>?_⟩
   ·exfalso
    obtain⟨c,hc,hcw⟩:=hhead
    have hk:=(hm c).1 hc
    have:c∈Region.ready .any ops listed:=by
     refine mem_ready.2 ⟨by simp[Array.getD_eq_getD_getElem?,hk.2],ops[c],by simp[hk.1],fun e he hb=>?_⟩
     have hes:=(hop c ops[c] (by simp[hk.1])).2 e he hb
     have hwt:waits ops c e.on=true:=by
      unfold waits
      rw[show ops[c]? = some ops[c] by simp[hk.1]]
      exact List.any_eq_true.2 ⟨e,by simpa using he,by simp[hb]⟩
     have hnm:e.on∉q++(i::x.ops):=fun hmm=>by
      rw[hcw _ hmm] at hwt;cases hwt
     have:=hlisted e.on hes hnm
     simp[Array.getD_eq_getD_getElem?,this]
    rw[h0] at this;cases this
   ·obtain⟨hun,o,ho,hall'⟩:=mem_ready.1 hk
    have hlt:k<ops.size:=(Array.getElem?_eq_some_iff.1 ho).1
    have hls:k<listed.size:=by omega
    have hun':listed[k]? = some false:=by
     simp[Array.getD_eq_getD_getElem?,hls] at hun
     simp[hls,hun]
    have hall:∀e∈o.after,Region.binds .any e=true→listed[e.on]? = some true:=fun e he hb=>by
     have:=hall' e he hb
     have hjs:e.on<listed.size:=by
      rcases Nat.lt_or_ge e.on listed.size with h | h
      ·exact h
      ·simp[Array.getD_eq_getD_getElem?,Array.getElem?_eq_none h] at this
     simp[Array.getD_eq_getD_getElem?,hjs] at this
     simp[hjs,this]
    have hwait:=qb hcl ho hall
    have hno:∀z,z∈q++(i::x.ops)→¬wr ops k z=true:=fun z hz h5=>by
     have h6:=hwait 3 z h5
     have h7:=((hm z).1 hz).2
     rw[h6] at h7;cases h7
    have fin:∀(acc':List Nat) (t':Ot),(acc'++t'.ops).length=fuel→k∉acc'++t'.ops→(∀z,z∈q++(i::x.ops)↔z=k∨z∈acc'++t'.ops)→tJ ops pu os acc' t'=true →
     eF P ro ops pu N R Inv os k (qc P ro ops pu N (xd P ro ops pu N R Inv os t') Inv os acc') a w→wpOpIn (Fw ro) 0 P ops (Qx N R) k (fun a' w'=>wpAnyIn (Fw ro) 0 P .any ops (Qx N R) fuel (listed.setIfInBounds k true) a' w') a w:=by
     intro acc' t' e1 e2 e3 e4 e5
     refine qZ (R:=R) (os:=os) (Inv:=Inv) (pu:=pu) (fun o ho=>(hop k o ho).1) hw (jl hw (fun a' w' hI hG _=>?_) e5)
     exact ih t' acc' _ a' w' (by simp[hsz]) e1 (lq hls e2 e3 hm) (nk hls ho hall hcl) e4 hI hG
    have hir:k∈q++(i::x.ops):=(hm k).2 ⟨hlt,hun'⟩
    have hpair:∀z∈q,(wr ops k z||gw ops pu os z k)=true→gw ops pu os z k=true:=fun z hz hh=>by
     rw[Bool.or_eq_true] at hh
     exact hh.resolve_left (hno z (List.mem_append_left _ hz))
    rcases List.mem_append.1 hir with hq | hq
    ·obtain⟨p1,p2,hsp⟩:=List.append_of_mem hq
     subst hsp
     obtain⟨g1,g2,g3,g4⟩:=me p1 h1
     have hfr:=iP p1 a w (fun z hz=>hpair z (List.mem_append_left _ hz) (g2 z hz).2) hw h
     refine fin (p1++p2) (.fork [] i j x y) ?_ ?_ (fun z=>?_) (oc _ p1 p2 hok0) (gM hfr)
     ·simp only[Ot.ops,List.length_append,List.length_cons,List.nil_append] at hf ⊢;omega
     ·simp only[Ot.ops,List.nil_append]
      intro hm'
      rcases List.mem_append.1 hm' with hm' | hm'
      ·rcases List.mem_append.1 hm' with hm' | hm'
       ·exact (g2 k hm').1 rfl
       ·exact g3 hm'
      ·exact g4 hm'
     ·simp only[Ot.ops,List.nil_append,List.mem_append,List.mem_cons]
      constructor
      ·rintro ((h | h | h) | h | h)<;>simp[h]
      ·rintro (h | (h | h) | h | h)<;>simp[h]
    ·by_cases hki:k=i
     ·subst hki
      have hfr:=iP (post:=[]) q a w (fun z hz=>hpair z hz (hrow z hz k (.head _)).2.2) hw (j1 q [k] a w hw (n6 (fun a w hI hb=>gM (R:=R) hb.1) q a w hw h))
      rw[List.append_nil] at hfr
      refine fin q x ?_ ?_ (fun z=>?_) h9 (gM hfr)
      ·simp only[List.length_append,List.length_cons] at hf ⊢;omega
      ·intro hm'
       rcases List.mem_append.1 hm' with hm' | hm'
       ·exact (hrow k hm' k (.head _)).2.1 rfl
       ·simp[hm'] at h7
      ·simp only[List.mem_append,List.mem_cons]
       constructor
       ·rintro (h | h | h)<;>simp[h]
       ·rintro (h | h | h)<;>simp[h]
     ·by_cases hkj:k=j
      ·subst hkj
       have hkx:k∈i::x.ops:=hq
       have hfr:=iP (post:=[]) q a w (fun z hz=>hpair z hz (hrow z hz k hkx).2.2) hw (j1 q [k] a w hw (n6 (fun a w hI hb=>gM (R:=R) hb.2) q a w hw h))
       rw[List.append_nil] at hfr
       have h4':(i::x.ops).length=(k::y.ops).length:=by simpa only[beq_iff_eq] using h4
       refine fin q y ?_ ?_ (fun z=>?_) h10 (gM hfr)
       ·simp only[List.length_append,List.length_cons] at hf h4' ⊢;omega
       ·intro hm'
        rcases List.mem_append.1 hm' with hm' | hm'
        ·exact (hrow k hm' k hkx).2.1 rfl
        ·simp[hm'] at h8
       ·rw[List.mem_append,hset z,List.mem_append,List.mem_cons]
        constructor
        ·rintro (h | h | h)<;>simp[h]
        ·rintro (h | h | h)<;>simp[h]
      ·exfalso
       have h6':=List.all_eq_true.1 h6 k hq
       simp only[Bool.or_eq_true,beq_iff_eq,List.any_eq_true] at h6'
       rcases h6' with (h | h) | ⟨l,hl,hwl⟩
       ·exact hki h
       ·exact hkj h
       ·exact hno l (List.mem_append_right _ hl) hwl
def xD(ops:Array Oper)(pu:Oper→Bool)(os:List Nat)(t:Ot):Bool :=
 t.ops.length==ops.size&&(List.range ops.size).all (fun i=>t.ops.contains i)&&t.ops.all (fun i=>decide (i<ops.size))&&tJ ops pu os [] t&&ops.toList.all (fun o=>eS o.op&&o.after.toList.all fun e=>!(Region.binds .any e)||decide (e.on<ops.size))
theorem pE{t:Ot}(hB:xD ops pu os t=true){a:Act}{w:World}(hw:Inv w)(h:xd P ro ops pu N R Inv os t a w) :
  wpAnyIn (Fw ro) 0 P .any ops (Qx N R) ops.size (Array.replicate ops.size false) a w:=by
 simp only[xD,Bool.and_eq_true,beq_iff_eq] at hB
 obtain⟨⟨⟨⟨hlen,hcov⟩,hin⟩,hok⟩,hops⟩:=hB
 have hop:∀(i:Nat) (o:Oper),ops[i]? = some o→eS o.op=true∧∀e∈o.after,Region.binds .any e=true→e.on<ops.size:=fun i o ho=>by
  have hm:o∈ops.toList:=by have:=Array.mem_of_getElem? ho;simpa using this
  have:=List.all_eq_true.1 hops o hm
  simp only[Bool.and_eq_true] at this
  refine⟨this.1,fun e he hb=>?_⟩
  have:=List.all_eq_true.1 this.2 e (by simpa using he)
  simpa[hb] using this
 refine xC hop ops.size t [] _ a w (by simp) hlen (fun i=>⟨fun hi=>?_,fun ⟨hi,_⟩=>?_⟩) (fun j o ho hon=>?_) hok hw h
 ·have h1:i<ops.size:=by simpa using List.all_eq_true.1 hin i hi
  exact⟨h1,by simp[Array.getElem?_replicate,h1]⟩
 ·have:=List.all_eq_true.1 hcov i (List.mem_range.2 hi)
  simpa using this
 ·simp only[Array.getElem?_replicate] at hon;split at hon<;>simp at hon
end
end Go.Vc
