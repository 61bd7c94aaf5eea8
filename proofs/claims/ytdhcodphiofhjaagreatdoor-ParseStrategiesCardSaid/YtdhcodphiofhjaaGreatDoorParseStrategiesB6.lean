import Derived.Test.YtdhcodphiofhjaaGreatDoorParseStrategiesB5
set_option linter.unusedVariables false
set_option linter.unusedSimpArgs false
set_option linter.unusedSectionVars false
set_option maxRecDepth 100000
namespace Go.Lx
open Go.Vc
section
variable {c:PC} {t:ByteArray}
theorem dY.held{I:cS}{G:cR}{b:Nat}{k:Tok}{f:Int}:dY (cS.put I b (Ea t k f)) G t b k f:=.inl (by simp[cS.put])
theorem vI{s:PS}(hl:c.Live s){d:Int}(h1:d≤24):(d<24∧c.c8 d s=s)∨(d=24∧(c.c8 d s).over=true∧c.dP ⟨132,(c.tok s.next).pos,false⟩ (c.c8 d s)):=by
 by_cases h:d<24
 ·exact .inl ⟨h,re h⟩
 ·have:d=24:=by omega
  subst this
  exact .inr ⟨rfl,mB hl⟩
theorem C6(hc:c.Of t){nx:Lv}{d:Int}(h0:0≤d)(h1:d≤24)(hx:d<24→zZ c t 47 (d+1) nx.ex)(hu:d<24→zZ c t 113 (d+1) nx.un)(hkp:∀f,Kp c f nx.ex)(hku:∀f,Kp c f nx.un) :
  zZ c t 113 d (c.unary nx d):=by
 intro b s I F F0 hl hF
 have hn:=hl.now
 refine gD.vc ?_
 unfold gD.V
 intro b0 b1 I1 l1 hb1
 refine cU.ret (iP hl (dY.of (wO hF)) (words (ws:=lI) hb1 rfl) (by decide)) fun I2 l2=>⟨_,rfl,F,.refl _,fun h=>?_,fun h=>?_⟩
 ·have h:=of_decide_eq_true h
  have e1:c.unary nx d s=c.one nx d s:=by unfold PC.unary;rw[if_pos h]
  rw[e1]
  refine de.use (BS hc h0 h1 hx hkp hl (wO hF)) (fun v K I6 G l6 hL hv hG=>.inl ?_) fun f e I6 G l6 hd hf=>.inr (di.dC [_] hf fun e' G' hf'=>.inr ⟨f,hd,hf'⟩)
  obtain⟨n,rfl,hv⟩:=hv
  exact⟨_,_,_,_,_,_,_,_,_,_,rfl,c.px t b (c.one nx d s).2::(K++F0),hG.trans (cV fun z=>by simp only[cW,cX,c7];omega),.inl ⟨hL,_,K,rfl,⟨n,rfl,hv⟩,.refl _⟩⟩
 have hge:¬c.any lI s<0:=of_decide_eq_false h
 have hlt:c.any lI s<2:=(dD (Int.not_lt.1 hge)).2
 have hkd:=iQ hl (Int.not_lt.1 hge)
 refine⟨b,Ea t (c.tok s.next) (jN (c.tok s.next)),F0,hF,_,rfl,_,dY.held.rd.dE (p:=1) (q:=4) rfl, ?_⟩
 refine (oG dY.held h0 h1).mono fun e I4 G l4 hd=>?_
 have hdp:=vI hl h1
 rcases hd with ⟨hlt2,rfl,rfl⟩ | ⟨rfl,hf⟩
 rotate_left
 ·obtain⟨_,g1,g2⟩:=hdp.resolve_left fun h=>by omega
  have e1:c.unary nx 24 s=(gO,c.c8 24 s):=by unfold PC.unary;rw[if_neg hge,g1,if_pos rfl]
  rw[e1]
  exact .inr (di.dC (I:=I4.del b) (Q:=fun e J G=>de c t b qu F0 (gO,c.c8 24 s) e J ((b,Ea t (c.tok s.next) (jN (c.tok s.next)))::G)) [_] hf fun e' G' hf'=>.inr ⟨_,g2,hf'.Ez⟩)
 obtain⟨_,g1⟩:=hdp.resolve_right fun h=>by omega
 have e1:c.unary nx d s=(.mk 5 (1+c.any lI s) 0 0 0 ⟨#[]⟩ [(nx.un s.inc).1] (c.tok s.next).pos,(nx.un s.inc).2):=by unfold PC.unary;rw[if_neg hge,g1,hl.1,if_neg (by simp),hn]
 rw[e1]
 refine .inl ⟨_,rfl,F0,.refl _, ?_⟩
 refine de.use (eb hc hl hkd (F:=_::(c.px t b s::F0)) (wO (.refl _))) (fun v K I6 G l6 hL hv hG=>.inl ?_) fun f e I6 G l6 hd hf=>.inr (di.dC [_] hf fun e' G' hf'=>.inr ⟨f,hku f _ hd,hf'⟩)
 obtain⟨rfl,rfl⟩:=hv
 refine⟨rfl,c.px t b s.inc::F0,hG.trans (cV fun z=>by simp only[cW,cX,c7];omega), ?_⟩
 refine de.use (hu hlt2 b s.inc I6 _ _ hL (wO (.refl _))) (fun v K I7 G l7 hL7 hv hG=>.inl ?_) fun f e I7 G l7 hd hf=>.inr (di.dC [_] hf fun e' G' hf'=>.inr ⟨f,hd,hf'⟩)
 obtain⟨n7,rfl,hpx7,hO7⟩:=hv
 refine⟨_,_,_,_,_,_,_,_,_,_,rfl,c.px t b (nx.un s.inc).2::(K++F0),hG.trans (cV fun z=>by simp only[cW,cX,c7];omega),fun b2=>?_⟩
 refine .inl ⟨hL7,_,(b2,.cells n7.enc.toArray 64 (0,0))::(K++[]), ?_,⟨.mk 5 (1+c.any lI s) 0 0 0 ⟨#[]⟩ (some ⟨b2,0,none⟩) 1 [n7] (c.tok s.next).pos,rfl, ?_,eo.H6 hO7⟩, ?_⟩
 ·rw[w8 (n:=c.any lI s) (by omega),w8 (by omega)];rfl
 ·simp only[Nd.px,Nd.qO,hpx7]
 ·show List.Perm ((b2,Obj.cells n7.enc.toArray 64 (0,0))::_) _
  exact cV fun z=>by simp only[cW,cX,c7];omega
theorem Ee(hc:c.Of t){nx:Lv}{d:Int}(h0:0≤d)(h1:d≤24)(hx:d<24→zZ c t 47 (d+1) nx.ex)(hkp:∀f,Kp c f nx.ex)(hor:wU c t 2 d (c.or nx d)):zZ c t 47 d (c.expr nx d):=by
 intro b s I F F0 hl hF
 refine g9.vc ?_
 unfold g9.V
 intro b0
 have ex_:c.expr nx d s=if c.eu (⟨#[63]⟩:ByteArray) (c.or nx d s).2 then (if (c.c8 d (c.or nx d s).2).over then (gO,c.c8 d (c.or nx d s).2) else
   (.mk 7 0 0 0 0 ⟨#[]⟩ [(c.or nx d s).1,(nx.ex (c.c8 d (c.or nx d s).2).inc).1,(nx.ex (c.take (⟨#[58]⟩:ByteArray) (nx.ex (c.c8 d (c.or nx d s).2).inc).2).2).1] (c.now (c.c8 d (c.or nx d s).2)).pos,(nx.ex (c.take (⟨#[58]⟩:ByteArray) (nx.ex (c.c8 d (c.or nx d s).2).inc).2).2).2)) else c.or nx d s:=rfl
 refine de.use (hor b s I _ _ hl (wO hF)) (fun v K I1 G l1 hL hv hG=>.inl ?_) fun f e I1 G l1 hd hf=>.inr (di.dC [_] hf fun e' G' hf'=>.inr ⟨f,by rw[ex_,hd.eu];exact hd,hf'⟩)
 obtain⟨n,rfl,hpx,hO⟩:=hv
 generalize c.or nx d s=r at ex_ hL hpx hG
 have hn:=hL.now
 refine⟨_,_,_,_,_,_,_,_,_,_,rfl,c.px t b r.2::(K++F0),hG.trans (cV fun z=>by simp only[cW,cX,c7];omega),fun bn=>?_⟩
 refine cU.ret (qv hL (dY.of (gK (.refl _))) (⟨#[63]⟩:ByteArray)) fun I2 l2=>⟨_,rfl,_,.refl _,fun h=>?_,fun h=>?_⟩
 ·have h:c.eu (⟨#[63]⟩:ByteArray) r.2=false:=by simpa using h
  rw[h] at ex_
  rw[ex_]
  exact .inl ⟨hL,_,K,rfl,⟨n,rfl,hpx,hO⟩,.refl _⟩
 have h:c.eu (⟨#[63]⟩:ByteArray) r.2=true:=by simpa using h
 have hkd:(c.tok r.2.next).kind≠0:=fun hk=>by
  unfold PC.eu at h;rw[hn,hk] at h;simp at h
 rw[if_pos h] at ex_
 refine⟨b,Ea t (c.tok r.2.next) (jN (c.tok r.2.next)),K++F0,.refl _,_,rfl,_,dY.held.rd.dE (p:=1) (q:=4) rfl, ?_⟩
 refine (oG dY.held h0 h1).mono fun e I4 G l4 hd=>?_
 have hdp:=vI hL h1
 rcases hd with ⟨hlt2,rfl,rfl⟩ | ⟨rfl,hf⟩
 rotate_left
 ·obtain⟨_,g1,g2⟩:=hdp.resolve_left fun h=>by omega
  rw[g1,if_pos rfl] at ex_
  rw[ex_]
  exact .inr (di.dC (I:=I4.del b) (Q:=fun e J G=>de c t b qu F0 (gO,c.c8 24 r.2) e J ((b,Ea t (c.tok r.2.next) (jN (c.tok r.2.next)))::G)) [_,_] hf fun e' G' hf'=>.inr ⟨_,g2,hf'.more.Ez⟩)
 obtain⟨_,g1⟩:=hdp.resolve_right fun h=>by omega
 rw[g1,hL.1,if_neg (by simp),hn] at ex_
 rw[ex_]
 refine .inl ⟨_,rfl,K++F0,.refl _, ?_⟩
 refine de.use (eb hc hL hkd (F:=_::_::(c.px t b r.2::(K++F0))) (gK (.refl _))) (fun v J I6 G l6 hL6 hv hG=>.inl ?_) fun f e I6 G l6 hd hf=>.inr (di.dC [_,_] hf fun e' G' hf'=>.inr ⟨f,hkp f _ ((hkp f _ hd).take _),hf'.more⟩)
 obtain⟨rfl,rfl⟩:=hv
 refine⟨rfl,c.px t b r.2.inc::(K++F0),hG.trans (cV fun z=>by simp only[cW,cX,c7];omega), ?_⟩
 refine de.use (hx hlt2 b r.2.inc I6 _ _ hL6 (gK (.refl _))) (fun v J I7 G l7 hL7 hv hG=>.inl ?_) fun f e I7 G l7 hd hf=>.inr (di.dC [_,_] hf fun e' G' hf'=>.inr ⟨f,hkp f _ (hd.take _),hf'.more⟩)
 obtain⟨y,rfl,hpy,hOy⟩:=hv
 refine⟨_,_,_,_,_,_,_,_,_,_,rfl,c.px t b (nx.ex r.2.inc).2::(J++(K++F0)),hG.trans (cV fun z=>by simp only[cW,cX,c7];omega),fun by_ b1 I8 l8 hb1=>?_⟩
 refine de.use (eS hc hL7 hb1 (wP (.refl _))) (fun v L I9 G l9 hL9 hv hG=>.inl ?_) fun f e I9 G l9 hd hf=>.inr (di.dC [_,_,_] hf fun e' G' hf'=>.inr ⟨f,hkp f _ hd,hf'.more.more⟩)
 obtain⟨⟨i9,rfl⟩,rfl⟩:=hv
 refine⟨_,rfl,c.px t b (c.take (⟨#[58]⟩:ByteArray) (nx.ex r.2.inc).2).2::(J++(K++F0)),hG.trans (cV fun z=>by simp only[cW,cX,c7];omega), ?_⟩
 refine de.use (hx hlt2 b _ I9 _ _ hL9 (wP (.refl _))) (fun v L I10 G l10 hL10 hv hG=>.inl ?_) fun f e I10 G l10 hd hf=>.inr (di.dC [_,_,_] hf fun e' G' hf'=>.inr ⟨f,hd,hf'.more.more⟩)
 obtain⟨z,rfl,hpz,hOz⟩:=hv
 refine⟨_,_,_,_,_,_,_,_,_,_,rfl,c.px t b (nx.ex (c.take (⟨#[58]⟩:ByteArray) (nx.ex r.2.inc).2).2).2::(L++(J++(K++F0))),hG.trans (cV fun z=>by simp only[cW,cX,c7];omega),fun b2=>?_⟩
 refine .inl ⟨hL10,_,(b2,.cells (n.enc++(y.enc++z.enc)).toArray 64 (0,0))::(K++(J++(L++[]))),rfl,⟨.mk 7 0 0 0 0 ⟨#[]⟩ (some ⟨b2,0,none⟩) 3 [n,y,z] (c.tok r.2.next).pos,rfl, ?_,eo.three hO hOy hOz⟩, ?_⟩
 ·simp only[Nd.px,Nd.qO,hpx,hpy,hpz]
 ·show List.Perm ((b2,Obj.cells (n.enc++(y.enc++z.enc)).toArray 64 (0,0))::_) _
  exact cV fun z=>by simp only[cW,cX,c7];omega
theorem EA(hc:c.Of t){nx:Lv}{d:Int}(h0:0≤d)(h1:d≤24)(hx:d<24→zZ c t 47 (d+1) nx.ex)(hu:d<24→zZ c t 113 (d+1) nx.un)(hkp:∀f,Kp c f nx.ex)(hku:∀f,Kp c f nx.un)(hmx:ee c nx.ex)(hmu:ee c nx.un) :
  zZ c t 47 d (c.expr nx d)∧zZ c t 113 d (c.unary nx d):=by
 have u:=C6 hc h0 h1 hx hu hkp hku
 have r6:wU c t 6 d (c.product nx d):=uq hc (l:=6) (by decide) (Up.unary hmx hmu d) (fun f=>Kp.unary nx d) (fun h=>absurd h (by decide)) fun _=>u
 have r5:wU c t 5 d (c.sum nx d):=uq hc (l:=5) (by decide) (Up.product hmx hmu d) (fun f=>Kp.product nx d) (fun _=>r6) fun h=>absurd h (by decide)
 have r4:wU c t 4 d (c.compare nx d):=uq hc (l:=4) (by decide) (Up.sum hmx hmu d) (fun f=>Kp.sum nx d) (fun _=>r5) fun h=>absurd h (by decide)
 have r3:wU c t 3 d (c.and nx d):=uq hc (l:=3) (by decide) (Up.compare hmx hmu d) (fun f=>Kp.compare nx d) (fun _=>r4) fun h=>absurd h (by decide)
 have r2:wU c t 2 d (c.or nx d):=uq hc (l:=2) (by decide) (Up.and hmx hmu d) (fun f=>Kp.and nx d) (fun _=>r3) fun h=>absurd h (by decide)
 exact⟨Ee hc h0 h1 hx hkp r2,u⟩
theorem C7(hc:c.Of t):∀(k:Nat) (d:Int),0≤d→d+k=24→zZ c t 47 d (c.lvl k d).ex∧zZ c t 113 d (c.lvl k d).un
 | 0,d,h0,h1=>EA hc h0 (by omega) (fun h=>by omega) (fun h=>by omega) (fun f s h=>h) (fun f s h=>h) (fun s=>.refl) fun s=>.refl
 | k+1,d,h0,h1=>by
   have ih:=C7 hc k (d+1) (by omega) (by omega)
   exact EA hc h0 (by omega) (fun _=>ih.1) (fun _=>ih.2) (fun f=>(Kp.lvl k (d+1)).1) (fun f=>(Kp.lvl k (d+1)).2) (Up.lvl k (d+1)).1 (Up.lvl k (d+1)).2
theorem nZ(hc:c.Of t):zZ c t 47 0 c.eX:=(C7 hc 24 0 (by decide) (by decide)).1
end
end Go.Lx
namespace Go.Lx
open Go.Vc Go.Proofs.Tryz
def mc:List (Nat×List Sh):=[(0,[]),(3,[.one (.int .i64)]),(4,[.one .bool]),(9,[.one .str]),(39,[.one .slc]),(40,[.one .slc]),(41,[.one .slc]),(64,[.agg [(.int .u8),(.int .u8),(.int .u8),(.int .i64),(.int .u8),.str,.slc,(.int .i64)]]),(74,[.one (.int .u8)]),(86,[.one .slc]),(88,[.agg [.str,.slc,(.int .i64)]]),(104,[.agg [.str,(.int .u8),(.int .u8),(.int .u8),(.int .u8),(.int .i64),(.int .u8),.str,.slc,(.int .i64),(.int .i64)]]),(106,[.agg [.str,(.int .i64)]]),(108,[.one .slc]),(110,[.agg [(.int .u8),(.int .u8),(.int .u8),(.int .i64),(.int .u8),.str,.slc,(.int .i64),.slc,(.int .i64)]]),(112,[.one (.int .u8)]),(114,[.agg [(.int .u8),(.int .u8),.str,(.int .u8),(.int .u8),(.int .u8),(.int .i64),(.int .u8),.str,.slc,(.int .i64),(.int .u8),(.int .u8),(.int .u8),(.int .i64),(.int .u8),.str,.slc,(.int .i64),(.int .u8),(.int .u8),(.int .u8),(.int .i64),(.int .u8),.str,.slc,(.int .i64),(.int .u8),(.int .u8),(.int .u8),(.int .i64),(.int .u8),.str,.slc,(.int .i64),(.int .i64)]]),(208,[.agg [(.int .u8),(.int .u8),(.int .u8),(.int .i64),(.int .u8),.str,.slc,(.int .i64)],.one .bool])]
def iE.V(ka:Nat→Bs→Int→Int→Int→Int→Int→Int→Bs→OA→Nat→Nat→Int→Int→Nat×Obj)(kb:Bs→Int→Int→Int→Int→Int→Int→Bs→OA→Nat→Nat→Int→Int→Value)(nV:Int→Int→Int→Int→Int→Bs→OA→Nat→Nat→Int→Value)(nO:Int→Int→Int→Int→Int→Bs→OA→Nat→Nat→Int→Obj)(vb vi:Int→Value)(vs:Bs→Value)(vl:OA→Nat→Nat→Value)(vt:Bool→Value)(vp:OA→Value)(p:Addr)(I:cS)(F:cR)(Q:cT)  : Prop:=∀b:Nat,∃ad:Addr,some p=some ad∧∃(m:Int),Rd I ((ka b (⟨#[]⟩:Bs) 0 0 0 0 0 0 (⟨#[]⟩:Bs) none 0 0 0 0)::F) ((ad.add 1).add 4) [vi m]∧∀a:Nat,cU P 64 (#[vp (some p)]) I ((ka b (⟨#[]⟩:Bs) 0 0 0 0 0 0 (⟨#[]⟩:Bs) none 0 0 0 0)::(ka a (⟨#[]⟩:Bs) 0 0 0 0 0 0 (⟨#[]⟩:Bs) none 0 0 0 m)::F) fun e1 I1 G1=>((e1=.returned (.tuple #[])∧∃F1:cR,List.Perm G1 ((ka b (⟨#[]⟩:Bs) 0 0 0 0 0 0 (⟨#[]⟩:Bs) none 0 0 0 0)::(ka a (⟨#[]⟩:Bs) 0 0 0 0 0 0 (⟨#[]⟩:Bs) none 0 0 0 m)::F1)∧cU P 67 (#[vp (some p)]) I1 ((ka b (⟨#[]⟩:Bs) 0 0 0 0 0 0 (⟨#[]⟩:Bs) none 0 0 0 0)::(ka a (⟨#[]⟩:Bs) 0 0 0 0 0 0 (⟨#[]⟩:Bs) none 0 0 0 m)::F1) fun e2 I2 G2=>((∃(r:Bs),e2=.returned (vs r)∧∃F2:cR,List.Perm G2 ((ka b (⟨#[]⟩:Bs) 0 0 0 0 0 0 (⟨#[]⟩:Bs) none 0 0 0 0)::(ka a (⟨#[]⟩:Bs) 0 0 0 0 0 0 (⟨#[]⟩:Bs) none 0 0 0 m)::F2)∧∀(b1:Nat) (I3:cS),cS.le I2 I3→I3 b1=some (Obj.cells #[vs (⟨#[105,110,116]⟩:Bs),vs (⟨#[113,116,121]⟩:Bs),vs (⟨#[112,114,105,99,101]⟩:Bs),vs (⟨#[116,105,109,101]⟩:Bs),vs (⟨#[98,111,111,108]⟩:Bs),vs (⟨#[115,105,100,101]⟩:Bs)] 9 (0,0))→cU P 66 (#[vp (some p),vl (some ⟨b1,0,none⟩) 6 6]) I3 ((ka b (⟨#[]⟩:Bs) 0 0 0 0 0 0 (⟨#[]⟩:Bs) none 0 0 0 0)::(ka a r 0 0 0 0 0 0 (⟨#[]⟩:Bs) none 0 0 0 m)::F2) fun e3 I4 G3=>((∃(r1:Int),e3=.returned (vi r1)∧∃F3:cR,List.Perm G3 ((ka b (⟨#[]⟩:Bs) 0 0 0 0 0 0 (⟨#[]⟩:Bs) none 0 0 0 0)::(ka a r 0 0 0 0 0 0 (⟨#[]⟩:Bs) none 0 0 0 m)::F3)∧∀(b2:Nat) (I5:cS),cS.le I4 I5→I5 b2=some (Obj.cells #[vs (⟨#[61]⟩:Bs)] 9 (0,0))→cU P 66 (#[vp (some p),vl (some ⟨b2,0,none⟩) 1 1]) I5 ((ka b (⟨#[]⟩:Bs) 0 0 0 0 0 0 (⟨#[]⟩:Bs) none 0 0 0 0)::(ka a r (IntKind.wrap .u8 (1+(IntKind.wrap .u8 r1))) 0 0 0 0 0 (⟨#[]⟩:Bs) none 0 0 0 m)::F3) fun e4 I6 G4=>((∃(r2:Int),e4=.returned (vi r2)∧∃F4:cR,List.Perm G4 ((ka b (⟨#[]⟩:Bs) 0 0 0 0 0 0 (⟨#[]⟩:Bs) none 0 0 0 0)::(ka a r (IntKind.wrap .u8 (1+(IntKind.wrap .u8 r1))) 0 0 0 0 0 (⟨#[]⟩:Bs) none 0 0 0 m)::F4)∧∃(hb:Nat) (ho:Obj) (F5:cR),List.Perm F4 ((hb,ho)::F5)∧∃aR:Addr,some p=some aR∧∃(m1:Int),Rd (cS.put I6 hb ho) ([]) ((aR.add 1).add 4) [vi m1]∧cU P 91 (#[vp (some p),vs (⟨#[45]⟩:Bs)]) (cS.put I6 hb ho) ((ka b (⟨#[]⟩:Bs) 0 0 0 0 0 0 (⟨#[]⟩:Bs) none 0 0 0 0)::(ka a r (IntKind.wrap .u8 (1+(IntKind.wrap .u8 r1))) 0 0 0 0 0 (⟨#[]⟩:Bs) none 0 0 0 m)::F5) fun e5 I7 G5=>∃(r3:Bool),e5=.returned (vt r3)∧∃F6:cR,List.Perm G5 ((ka b (⟨#[]⟩:Bs) 0 0 0 0 0 0 (⟨#[]⟩:Bs) none 0 0 0 0)::(ka a r (IntKind.wrap .u8 (1+(IntKind.wrap .u8 r1))) 0 0 0 0 0 (⟨#[]⟩:Bs) none 0 0 0 m)::F6)∧(It r3 (cU P 64 (#[vp (some p)]) (cS.del I7 hb) ((ka b (⟨#[]⟩:Bs) 0 0 0 0 0 0 (⟨#[]⟩:Bs) none 0 0 0 0)::(ka a r (IntKind.wrap .u8 (1+(IntKind.wrap .u8 r1))) 0 0 0 0 0 (⟨#[]⟩:Bs) none 0 0 0 m)::((hb,ho)::F6)) fun e6 I8 G6=>((e6=.returned (.tuple #[])∧∃F7:cR,List.Perm G6 ((ka b (⟨#[]⟩:Bs) 0 0 0 0 0 0 (⟨#[]⟩:Bs) none 0 0 0 0)::(ka a r (IntKind.wrap .u8 (1+(IntKind.wrap .u8 r1))) 0 0 0 0 0 (⟨#[]⟩:Bs) none 0 0 0 m)::F7)∧∃aS:Addr,some p=some aS∧∃(m2:Int),Rd I8 ((ka b (⟨#[]⟩:Bs) 0 0 0 0 0 0 (⟨#[]⟩:Bs) none 0 0 0 0)::(ka a r (IntKind.wrap .u8 (1+(IntKind.wrap .u8 r1))) 0 0 0 0 0 (⟨#[]⟩:Bs) none 0 0 0 m)::F7) ((aS.add 1).add 0) [vb m2]∧(It (m2 != 3) (cU P 65 (#[vp (some p),vi 130]) I8 ((ka b (⟨#[]⟩:Bs) 0 0 0 0 0 0 (⟨#[]⟩:Bs) none 0 0 0 0)::(ka a r (IntKind.wrap .u8 (1+(IntKind.wrap .u8 r1))) 0 0 0 0 0 (⟨#[]⟩:Bs) none 0 0 0 m)::F7) fun e7 I9 G7=>((e7=.returned (.tuple #[])∧∃F8:cR,List.Perm G7 ((ka b (⟨#[]⟩:Bs) 0 0 0 0 0 0 (⟨#[]⟩:Bs) none 0 0 0 0)::(ka a r (IntKind.wrap .u8 (1+(IntKind.wrap .u8 r1))) 0 0 0 0 0 (⟨#[]⟩:Bs) none 0 0 0 m)::F8)∧cU P 105 (#[vp (some p)]) I9 ((ka b (⟨#[]⟩:Bs) 0 0 0 0 0 0 (⟨#[]⟩:Bs) none 0 0 0 0)::(ka a r (IntKind.wrap .u8 (1+(IntKind.wrap .u8 r1))) 0 0 0 0 0 (⟨#[]⟩:Bs) none 0 0 0 m)::F8) fun e8 I10 G8=>((∃(ac ae af ag ah:Int) (ai:Bs) (i:OA) (j k:Nat) (aj:Int) (aq:Bool),e8=.returned (.tuple #[nV ac ae af ag ah ai i j k aj,vt aq])∧∃F9:cR,List.Perm G8 ((ka b (⟨#[]⟩:Bs) 0 0 0 0 0 0 (⟨#[]⟩:Bs) none 0 0 0 0)::(ka a r (IntKind.wrap .u8 (1+(IntKind.wrap .u8 r1))) 0 0 0 0 0 (⟨#[]⟩:Bs) none 0 0 0 m)::F9)∧∀am:Nat,(It (!aq) (cU P 65 (#[vp (some p),vi 130]) I10 ((ka b (⟨#[]⟩:Bs) 0 0 0 0 0 0 (⟨#[]⟩:Bs) none 0 0 0 0)::(ka a r (IntKind.wrap .u8 (1+(IntKind.wrap .u8 r1))) 0 0 0 0 0 (⟨#[]⟩:Bs) none 0 0 0 m)::(am,nO ac ae af ag ah ai i j k aj)::F9) fun e9 I11 G9=>((e9=.returned (.tuple #[])∧∃F10:cR,List.Perm G9 ((ka b (⟨#[]⟩:Bs) 0 0 0 0 0 0 (⟨#[]⟩:Bs) none 0 0 0 0)::(ka a r (IntKind.wrap .u8 (1+(IntKind.wrap .u8 r1))) 0 0 0 0 0 (⟨#[]⟩:Bs) none 0 0 0 m)::(am,nO ac ae af ag ah ai i j k aj)::F10)∧(It r3 (∀b3:Nat,∀(b4:Nat) (I12:cS),cS.le I11 I12→I12 b4=some (Obj.cells #[vs (⟨#[59]⟩:Bs)] 9 (0,0))→cU P 66 (#[vp (some p),vl (some ⟨b4,0,none⟩) 1 1]) I12 ((ka b (⟨#[]⟩:Bs) 0 0 0 0 0 0 (⟨#[]⟩:Bs) none 0 0 0 0)::(ka a r (IntKind.wrap .u8 (1+(IntKind.wrap .u8 r1))) 5 1 0 0 0 (⟨#[]⟩:Bs) (some ⟨b3,0,none⟩) 1 1 m1 m)::(am,nO 5 1 0 0 0 (⟨#[]⟩:Bs) (some ⟨b3,0,none⟩) 1 1 m1)::((b3,nO ac ae af ag ah ai i j k aj)::F10)) fun a2 I13 G10=>((∃(r4:Int),a2=.returned (vi r4)∧∃F11:cR,List.Perm G10 ((ka b (⟨#[]⟩:Bs) 0 0 0 0 0 0 (⟨#[]⟩:Bs) none 0 0 0 0)::(ka a r (IntKind.wrap .u8 (1+(IntKind.wrap .u8 r1))) 5 1 0 0 0 (⟨#[]⟩:Bs) (some ⟨b3,0,none⟩) 1 1 m1 m)::(am,nO 5 1 0 0 0 (⟨#[]⟩:Bs) (some ⟨b3,0,none⟩) 1 1 m1)::F11)∧Q (.returned ((kb r (IntKind.wrap .u8 (1+(IntKind.wrap .u8 r1))) 5 1 0 0 0 (⟨#[]⟩:Bs) (some ⟨b3,0,none⟩) 1 1 m1 m))) I13 F11)∨(∃ch:List PanicEntry,a2=.panicked ch∧∃F12:cR,List.Perm G10 ((ka b (⟨#[]⟩:Bs) 0 0 0 0 0 0 (⟨#[]⟩:Bs) none 0 0 0 0)::(ka a r (IntKind.wrap .u8 (1+(IntKind.wrap .u8 r1))) 5 1 0 0 0 (⟨#[]⟩:Bs) (some ⟨b3,0,none⟩) 1 1 m1 m)::(am,nO 5 1 0 0 0 (⟨#[]⟩:Bs) (some ⟨b3,0,none⟩) 1 1 m1)::F12)∧Q (.panicked ch) I13 F12))) (∀(b5:Nat) (I14:cS),cS.le I11 I14→I14 b5=some (Obj.cells #[vs (⟨#[59]⟩:Bs)] 9 (0,0))→cU P 66 (#[vp (some p),vl (some ⟨b5,0,none⟩) 1 1]) I14 ((ka b (⟨#[]⟩:Bs) 0 0 0 0 0 0 (⟨#[]⟩:Bs) none 0 0 0 0)::(ka a r (IntKind.wrap .u8 (1+(IntKind.wrap .u8 r1))) ac ae af ag ah ai i j k aj m)::(am,nO ac ae af ag ah ai i j k aj)::F10) fun a3 I15 G11=>((∃(r5:Int),a3=.returned (vi r5)∧∃F13:cR,List.Perm G11 ((ka b (⟨#[]⟩:Bs) 0 0 0 0 0 0 (⟨#[]⟩:Bs) none 0 0 0 0)::(ka a r (IntKind.wrap .u8 (1+(IntKind.wrap .u8 r1))) ac ae af ag ah ai i j k aj m)::(am,nO ac ae af ag ah ai i j k aj)::F13)∧Q (.returned ((kb r (IntKind.wrap .u8 (1+(IntKind.wrap .u8 r1))) ac ae af ag ah ai i j k aj m))) I15 F13)∨(∃aT:List PanicEntry,a3=.panicked aT∧∃F14:cR,List.Perm G11 ((ka b (⟨#[]⟩:Bs) 0 0 0 0 0 0 (⟨#[]⟩:Bs) none 0 0 0 0)::(ka a r (IntKind.wrap .u8 (1+(IntKind.wrap .u8 r1))) ac ae af ag ah ai i j k aj m)::(am,nO ac ae af ag ah ai i j k aj)::F14)∧Q (.panicked aT) I15 F14)))))∨(∃aU:List PanicEntry,e9=.panicked aU∧∃F15:cR,List.Perm G9 ((ka b (⟨#[]⟩:Bs) 0 0 0 0 0 0 (⟨#[]⟩:Bs) none 0 0 0 0)::(ka a r (IntKind.wrap .u8 (1+(IntKind.wrap .u8 r1))) 0 0 0 0 0 (⟨#[]⟩:Bs) none 0 0 0 m)::(am,nO ac ae af ag ah ai i j k aj)::F15)∧Q (.panicked aU) I11 F15))) (It r3 (∀b6:Nat,∀(b7:Nat) (I16:cS),cS.le I10 I16→I16 b7=some (Obj.cells #[vs (⟨#[59]⟩:Bs)] 9 (0,0))→cU P 66 (#[vp (some p),vl (some ⟨b7,0,none⟩) 1 1]) I16 ((ka b (⟨#[]⟩:Bs) 0 0 0 0 0 0 (⟨#[]⟩:Bs) none 0 0 0 0)::(ka a r (IntKind.wrap .u8 (1+(IntKind.wrap .u8 r1))) 5 1 0 0 0 (⟨#[]⟩:Bs) (some ⟨b6,0,none⟩) 1 1 m1 m)::(am,nO 5 1 0 0 0 (⟨#[]⟩:Bs) (some ⟨b6,0,none⟩) 1 1 m1)::((b6,nO ac ae af ag ah ai i j k aj)::F9)) fun a4 I17 G12=>((∃(r6:Int),a4=.returned (vi r6)∧∃F16:cR,List.Perm G12 ((ka b (⟨#[]⟩:Bs) 0 0 0 0 0 0 (⟨#[]⟩:Bs) none 0 0 0 0)::(ka a r (IntKind.wrap .u8 (1+(IntKind.wrap .u8 r1))) 5 1 0 0 0 (⟨#[]⟩:Bs) (some ⟨b6,0,none⟩) 1 1 m1 m)::(am,nO 5 1 0 0 0 (⟨#[]⟩:Bs) (some ⟨b6,0,none⟩) 1 1 m1)::F16)∧Q (.returned ((kb r (IntKind.wrap .u8 (1+(IntKind.wrap .u8 r1))) 5 1 0 0 0 (⟨#[]⟩:Bs) (some ⟨b6,0,none⟩) 1 1 m1 m))) I17 F16)∨(∃aV:List PanicEntry,a4=.panicked aV∧∃F17:cR,List.Perm G12 ((ka b (⟨#[]⟩:Bs) 0 0 0 0 0 0 (⟨#[]⟩:Bs) none 0 0 0 0)::(ka a r (IntKind.wrap .u8 (1+(IntKind.wrap .u8 r1))) 5 1 0 0 0 (⟨#[]⟩:Bs) (some ⟨b6,0,none⟩) 1 1 m1 m)::(am,nO 5 1 0 0 0 (⟨#[]⟩:Bs) (some ⟨b6,0,none⟩) 1 1 m1)::F17)∧Q (.panicked aV) I17 F17))) (∀(b8:Nat) (I18:cS),cS.le I10 I18→I18 b8=some (Obj.cells #[vs (⟨#[59]⟩:Bs)] 9 (0,0))→cU P 66 (#[vp (some p),vl (some ⟨b8,0,none⟩) 1 1]) I18 ((ka b (⟨#[]⟩:Bs) 0 0 0 0 0 0 (⟨#[]⟩:Bs) none 0 0 0 0)::(ka a r (IntKind.wrap .u8 (1+(IntKind.wrap .u8 r1))) ac ae af ag ah ai i j k aj m)::(am,nO ac ae af ag ah ai i j k aj)::F9) fun a5 I19 G13=>((∃(r7:Int),a5=.returned (vi r7)∧∃F18:cR,List.Perm G13 ((ka b (⟨#[]⟩:Bs) 0 0 0 0 0 0 (⟨#[]⟩:Bs) none 0 0 0 0)::(ka a r (IntKind.wrap .u8 (1+(IntKind.wrap .u8 r1))) ac ae af ag ah ai i j k aj m)::(am,nO ac ae af ag ah ai i j k aj)::F18)∧Q (.returned ((kb r (IntKind.wrap .u8 (1+(IntKind.wrap .u8 r1))) ac ae af ag ah ai i j k aj m))) I19 F18)∨(∃aW:List PanicEntry,a5=.panicked aW∧∃F19:cR,List.Perm G13 ((ka b (⟨#[]⟩:Bs) 0 0 0 0 0 0 (⟨#[]⟩:Bs) none 0 0 0 0)::(ka a r (IntKind.wrap .u8 (1+(IntKind.wrap .u8 r1))) ac ae af ag ah ai i j k aj m)::(am,nO ac ae af ag ah ai i j k aj)::F19)∧Q (.panicked aW) I19 F19))))))∨(∃aX:List PanicEntry,e8=.panicked aX∧∃F20:cR,List.Perm G8 ((ka b (⟨#[]⟩:Bs) 0 0 0 0 0 0 (⟨#[]⟩:Bs) none 0 0 0 0)::(ka a r (IntKind.wrap .u8 (1+(IntKind.wrap .u8 r1))) 0 0 0 0 0 (⟨#[]⟩:Bs) none 0 0 0 m)::F20)∧Q (.panicked aX) I10 F20)))∨(∃aY:List PanicEntry,e7=.panicked aY∧∃F21:cR,List.Perm G7 ((ka b (⟨#[]⟩:Bs) 0 0 0 0 0 0 (⟨#[]⟩:Bs) none 0 0 0 0)::(ka a r (IntKind.wrap .u8 (1+(IntKind.wrap .u8 r1))) 0 0 0 0 0 (⟨#[]⟩:Bs) none 0 0 0 m)::F21)∧Q (.panicked aY) I9 F21))) (cU P 105 (#[vp (some p)]) I8 ((ka b (⟨#[]⟩:Bs) 0 0 0 0 0 0 (⟨#[]⟩:Bs) none 0 0 0 0)::(ka a r (IntKind.wrap .u8 (1+(IntKind.wrap .u8 r1))) 0 0 0 0 0 (⟨#[]⟩:Bs) none 0 0 0 m)::F7) fun a6 I20 G14=>((∃(l n o q s:Int) (t:Bs) (c:OA) (d e:Nat) (u:Int) (ar:Bool),a6=.returned (.tuple #[nV l n o q s t c d e u,vt ar])∧∃F22:cR,List.Perm G14 ((ka b (⟨#[]⟩:Bs) 0 0 0 0 0 0 (⟨#[]⟩:Bs) none 0 0 0 0)::(ka a r (IntKind.wrap .u8 (1+(IntKind.wrap .u8 r1))) 0 0 0 0 0 (⟨#[]⟩:Bs) none 0 0 0 m)::F22)∧∀ak:Nat,(It (!ar) (cU P 65 (#[vp (some p),vi 130]) I20 ((ka b (⟨#[]⟩:Bs) 0 0 0 0 0 0 (⟨#[]⟩:Bs) none 0 0 0 0)::(ka a r (IntKind.wrap .u8 (1+(IntKind.wrap .u8 r1))) 0 0 0 0 0 (⟨#[]⟩:Bs) none 0 0 0 m)::(ak,nO l n o q s t c d e u)::F22) fun a7 I21 G15=>((a7=.returned (.tuple #[])∧∃F23:cR,List.Perm G15 ((ka b (⟨#[]⟩:Bs) 0 0 0 0 0 0 (⟨#[]⟩:Bs) none 0 0 0 0)::(ka a r (IntKind.wrap .u8 (1+(IntKind.wrap .u8 r1))) 0 0 0 0 0 (⟨#[]⟩:Bs) none 0 0 0 m)::(ak,nO l n o q s t c d e u)::F23)∧(It r3 (∀b9:Nat,∀(aJ:Nat) (I22:cS),cS.le I21 I22→I22 aJ=some (Obj.cells #[vs (⟨#[59]⟩:Bs)] 9 (0,0))→cU P 66 (#[vp (some p),vl (some ⟨aJ,0,none⟩) 1 1]) I22 ((ka b (⟨#[]⟩:Bs) 0 0 0 0 0 0 (⟨#[]⟩:Bs) none 0 0 0 0)::(ka a r (IntKind.wrap .u8 (1+(IntKind.wrap .u8 r1))) 5 1 0 0 0 (⟨#[]⟩:Bs) (some ⟨b9,0,none⟩) 1 1 m1 m)::(ak,nO 5 1 0 0 0 (⟨#[]⟩:Bs) (some ⟨b9,0,none⟩) 1 1 m1)::((b9,nO l n o q s t c d e u)::F23)) fun a8 I23 G16=>((∃(r8:Int),a8=.returned (vi r8)∧∃F24:cR,List.Perm G16 ((ka b (⟨#[]⟩:Bs) 0 0 0 0 0 0 (⟨#[]⟩:Bs) none 0 0 0 0)::(ka a r (IntKind.wrap .u8 (1+(IntKind.wrap .u8 r1))) 5 1 0 0 0 (⟨#[]⟩:Bs) (some ⟨b9,0,none⟩) 1 1 m1 m)::(ak,nO 5 1 0 0 0 (⟨#[]⟩:Bs) (some ⟨b9,0,none⟩) 1 1 m1)::F24)∧Q (.returned ((kb r (IntKind.wrap .u8 (1+(IntKind.wrap .u8 r1))) 5 1 0 0 0 (⟨#[]⟩:Bs) (some ⟨b9,0,none⟩) 1 1 m1 m))) I23 F24)∨(∃aZ:List PanicEntry,a8=.panicked aZ∧∃F25:cR,List.Perm G16 ((ka b (⟨#[]⟩:Bs) 0 0 0 0 0 0 (⟨#[]⟩:Bs) none 0 0 0 0)::(ka a r (IntKind.wrap .u8 (1+(IntKind.wrap .u8 r1))) 5 1 0 0 0 (⟨#[]⟩:Bs) (some ⟨b9,0,none⟩) 1 1 m1 m)::(ak,nO 5 1 0 0 0 (⟨#[]⟩:Bs) (some ⟨b9,0,none⟩) 1 1 m1)::F25)∧Q (.panicked aZ) I23 F25))) (∀(aK:Nat) (I24:cS),cS.le I21 I24→I24 aK=some (Obj.cells #[vs (⟨#[59]⟩:Bs)] 9 (0,0))→cU P 66 (#[vp (some p),vl (some ⟨aK,0,none⟩) 1 1]) I24 ((ka b (⟨#[]⟩:Bs) 0 0 0 0 0 0 (⟨#[]⟩:Bs) none 0 0 0 0)::(ka a r (IntKind.wrap .u8 (1+(IntKind.wrap .u8 r1))) l n o q s t c d e u m)::(ak,nO l n o q s t c d e u)::F23) fun a9 I25 G17=>((∃(r9:Int),a9=.returned (vi r9)∧∃F26:cR,List.Perm G17 ((ka b (⟨#[]⟩:Bs) 0 0 0 0 0 0 (⟨#[]⟩:Bs) none 0 0 0 0)::(ka a r (IntKind.wrap .u8 (1+(IntKind.wrap .u8 r1))) l n o q s t c d e u m)::(ak,nO l n o q s t c d e u)::F26)∧Q (.returned ((kb r (IntKind.wrap .u8 (1+(IntKind.wrap .u8 r1))) l n o q s t c d e u m))) I25 F26)∨(∃a0:List PanicEntry,a9=.panicked a0∧∃F27:cR,List.Perm G17 ((ka b (⟨#[]⟩:Bs) 0 0 0 0 0 0 (⟨#[]⟩:Bs) none 0 0 0 0)::(ka a r (IntKind.wrap .u8 (1+(IntKind.wrap .u8 r1))) l n o q s t c d e u m)::(ak,nO l n o q s t c d e u)::F27)∧Q (.panicked a0) I25 F27)))))∨(∃a1:List PanicEntry,a7=.panicked a1∧∃F28:cR,List.Perm G15 ((ka b (⟨#[]⟩:Bs) 0 0 0 0 0 0 (⟨#[]⟩:Bs) none 0 0 0 0)::(ka a r (IntKind.wrap .u8 (1+(IntKind.wrap .u8 r1))) 0 0 0 0 0 (⟨#[]⟩:Bs) none 0 0 0 m)::(ak,nO l n o q s t c d e u)::F28)∧Q (.panicked a1) I21 F28))) (It r3 (∀an:Nat,∀(aL:Nat) (I26:cS),cS.le I20 I26→I26 aL=some (Obj.cells #[vs (⟨#[59]⟩:Bs)] 9 (0,0))→cU P 66 (#[vp (some p),vl (some ⟨aL,0,none⟩) 1 1]) I26 ((ka b (⟨#[]⟩:Bs) 0 0 0 0 0 0 (⟨#[]⟩:Bs) none 0 0 0 0)::(ka a r (IntKind.wrap .u8 (1+(IntKind.wrap .u8 r1))) 5 1 0 0 0 (⟨#[]⟩:Bs) (some ⟨an,0,none⟩) 1 1 m1 m)::(ak,nO 5 1 0 0 0 (⟨#[]⟩:Bs) (some ⟨an,0,none⟩) 1 1 m1)::((an,nO l n o q s t c d e u)::F22)) fun ba I27 G18=>((∃(bi:Int),ba=.returned (vi bi)∧∃F29:cR,List.Perm G18 ((ka b (⟨#[]⟩:Bs) 0 0 0 0 0 0 (⟨#[]⟩:Bs) none 0 0 0 0)::(ka a r (IntKind.wrap .u8 (1+(IntKind.wrap .u8 r1))) 5 1 0 0 0 (⟨#[]⟩:Bs) (some ⟨an,0,none⟩) 1 1 m1 m)::(ak,nO 5 1 0 0 0 (⟨#[]⟩:Bs) (some ⟨an,0,none⟩) 1 1 m1)::F29)∧Q (.returned ((kb r (IntKind.wrap .u8 (1+(IntKind.wrap .u8 r1))) 5 1 0 0 0 (⟨#[]⟩:Bs) (some ⟨an,0,none⟩) 1 1 m1 m))) I27 F29)∨(∃av:List PanicEntry,ba=.panicked av∧∃F30:cR,List.Perm G18 ((ka b (⟨#[]⟩:Bs) 0 0 0 0 0 0 (⟨#[]⟩:Bs) none 0 0 0 0)::(ka a r (IntKind.wrap .u8 (1+(IntKind.wrap .u8 r1))) 5 1 0 0 0 (⟨#[]⟩:Bs) (some ⟨an,0,none⟩) 1 1 m1 m)::(ak,nO 5 1 0 0 0 (⟨#[]⟩:Bs) (some ⟨an,0,none⟩) 1 1 m1)::F30)∧Q (.panicked av) I27 F30))) (∀(aM:Nat) (I28:cS),cS.le I20 I28→I28 aM=some (Obj.cells #[vs (⟨#[59]⟩:Bs)] 9 (0,0))→cU P 66 (#[vp (some p),vl (some ⟨aM,0,none⟩) 1 1]) I28 ((ka b (⟨#[]⟩:Bs) 0 0 0 0 0 0 (⟨#[]⟩:Bs) none 0 0 0 0)::(ka a r (IntKind.wrap .u8 (1+(IntKind.wrap .u8 r1))) l n o q s t c d e u m)::(ak,nO l n o q s t c d e u)::F22) fun bb I29 G19=>((∃(bj:Int),bb=.returned (vi bj)∧∃F31:cR,List.Perm G19 ((ka b (⟨#[]⟩:Bs) 0 0 0 0 0 0 (⟨#[]⟩:Bs) none 0 0 0 0)::(ka a r (IntKind.wrap .u8 (1+(IntKind.wrap .u8 r1))) l n o q s t c d e u m)::(ak,nO l n o q s t c d e u)::F31)∧Q (.returned ((kb r (IntKind.wrap .u8 (1+(IntKind.wrap .u8 r1))) l n o q s t c d e u m))) I29 F31)∨(∃aw:List PanicEntry,bb=.panicked aw∧∃F32:cR,List.Perm G19 ((ka b (⟨#[]⟩:Bs) 0 0 0 0 0 0 (⟨#[]⟩:Bs) none 0 0 0 0)::(ka a r (IntKind.wrap .u8 (1+(IntKind.wrap .u8 r1))) l n o q s t c d e u m)::(ak,nO l n o q s t c d e u)::F32)∧Q (.panicked aw) I29 F32))))))∨(∃ax:List PanicEntry,a6=.panicked ax∧∃F33:cR,List.Perm G14 ((ka b (⟨#[]⟩:Bs) 0 0 0 0 0 0 (⟨#[]⟩:Bs) none 0 0 0 0)::(ka a r (IntKind.wrap .u8 (1+(IntKind.wrap .u8 r1))) 0 0 0 0 0 (⟨#[]⟩:Bs) none 0 0 0 m)::F33)∧Q (.panicked ax) I20 F33)))))∨(∃ay:List PanicEntry,e6=.panicked ay∧∃F34:cR,List.Perm G6 ((ka b (⟨#[]⟩:Bs) 0 0 0 0 0 0 (⟨#[]⟩:Bs) none 0 0 0 0)::(ka a r (IntKind.wrap .u8 (1+(IntKind.wrap .u8 r1))) 0 0 0 0 0 (⟨#[]⟩:Bs) none 0 0 0 m)::F34)∧Q (.panicked ay) I8 F34))) (cU P 105 (#[vp (some p)]) (cS.del I7 hb) ((ka b (⟨#[]⟩:Bs) 0 0 0 0 0 0 (⟨#[]⟩:Bs) none 0 0 0 0)::(ka a r (IntKind.wrap .u8 (1+(IntKind.wrap .u8 r1))) 0 0 0 0 0 (⟨#[]⟩:Bs) none 0 0 0 m)::((hb,ho)::F6)) fun bc I30 G20=>((∃(v w x y z:Int) (aa:Bs) (f:OA) (g h:Nat) (ab:Int) (au:Bool),bc=.returned (.tuple #[nV v w x y z aa f g h ab,vt au])∧∃F35:cR,List.Perm G20 ((ka b (⟨#[]⟩:Bs) 0 0 0 0 0 0 (⟨#[]⟩:Bs) none 0 0 0 0)::(ka a r (IntKind.wrap .u8 (1+(IntKind.wrap .u8 r1))) 0 0 0 0 0 (⟨#[]⟩:Bs) none 0 0 0 m)::F35)∧∀al:Nat,(It (!au) (cU P 65 (#[vp (some p),vi 130]) I30 ((ka b (⟨#[]⟩:Bs) 0 0 0 0 0 0 (⟨#[]⟩:Bs) none 0 0 0 0)::(ka a r (IntKind.wrap .u8 (1+(IntKind.wrap .u8 r1))) 0 0 0 0 0 (⟨#[]⟩:Bs) none 0 0 0 m)::(al,nO v w x y z aa f g h ab)::F35) fun bd I31 G21=>((bd=.returned (.tuple #[])∧∃F36:cR,List.Perm G21 ((ka b (⟨#[]⟩:Bs) 0 0 0 0 0 0 (⟨#[]⟩:Bs) none 0 0 0 0)::(ka a r (IntKind.wrap .u8 (1+(IntKind.wrap .u8 r1))) 0 0 0 0 0 (⟨#[]⟩:Bs) none 0 0 0 m)::(al,nO v w x y z aa f g h ab)::F36)∧(It r3 (∀ao:Nat,∀(aN:Nat) (I32:cS),cS.le I31 I32→I32 aN=some (Obj.cells #[vs (⟨#[59]⟩:Bs)] 9 (0,0))→cU P 66 (#[vp (some p),vl (some ⟨aN,0,none⟩) 1 1]) I32 ((ka b (⟨#[]⟩:Bs) 0 0 0 0 0 0 (⟨#[]⟩:Bs) none 0 0 0 0)::(ka a r (IntKind.wrap .u8 (1+(IntKind.wrap .u8 r1))) 5 1 0 0 0 (⟨#[]⟩:Bs) (some ⟨ao,0,none⟩) 1 1 m1 m)::(al,nO 5 1 0 0 0 (⟨#[]⟩:Bs) (some ⟨ao,0,none⟩) 1 1 m1)::((ao,nO v w x y z aa f g h ab)::F36)) fun be I33 G22=>((∃(bk:Int),be=.returned (vi bk)∧∃F37:cR,List.Perm G22 ((ka b (⟨#[]⟩:Bs) 0 0 0 0 0 0 (⟨#[]⟩:Bs) none 0 0 0 0)::(ka a r (IntKind.wrap .u8 (1+(IntKind.wrap .u8 r1))) 5 1 0 0 0 (⟨#[]⟩:Bs) (some ⟨ao,0,none⟩) 1 1 m1 m)::(al,nO 5 1 0 0 0 (⟨#[]⟩:Bs) (some ⟨ao,0,none⟩) 1 1 m1)::F37)∧Q (.returned ((kb r (IntKind.wrap .u8 (1+(IntKind.wrap .u8 r1))) 5 1 0 0 0 (⟨#[]⟩:Bs) (some ⟨ao,0,none⟩) 1 1 m1 m))) I33 F37)∨(∃az:List PanicEntry,be=.panicked az∧∃F38:cR,List.Perm G22 ((ka b (⟨#[]⟩:Bs) 0 0 0 0 0 0 (⟨#[]⟩:Bs) none 0 0 0 0)::(ka a r (IntKind.wrap .u8 (1+(IntKind.wrap .u8 r1))) 5 1 0 0 0 (⟨#[]⟩:Bs) (some ⟨ao,0,none⟩) 1 1 m1 m)::(al,nO 5 1 0 0 0 (⟨#[]⟩:Bs) (some ⟨ao,0,none⟩) 1 1 m1)::F38)∧Q (.panicked az) I33 F38))) (∀(aO:Nat) (I34:cS),cS.le I31 I34→I34 aO=some (Obj.cells #[vs (⟨#[59]⟩:Bs)] 9 (0,0))→cU P 66 (#[vp (some p),vl (some ⟨aO,0,none⟩) 1 1]) I34 ((ka b (⟨#[]⟩:Bs) 0 0 0 0 0 0 (⟨#[]⟩:Bs) none 0 0 0 0)::(ka a r (IntKind.wrap .u8 (1+(IntKind.wrap .u8 r1))) v w x y z aa f g h ab m)::(al,nO v w x y z aa f g h ab)::F36) fun bf I35 G23=>((∃(bl:Int),bf=.returned (vi bl)∧∃F39:cR,List.Perm G23 ((ka b (⟨#[]⟩:Bs) 0 0 0 0 0 0 (⟨#[]⟩:Bs) none 0 0 0 0)::(ka a r (IntKind.wrap .u8 (1+(IntKind.wrap .u8 r1))) v w x y z aa f g h ab m)::(al,nO v w x y z aa f g h ab)::F39)∧Q (.returned ((kb r (IntKind.wrap .u8 (1+(IntKind.wrap .u8 r1))) v w x y z aa f g h ab m))) I35 F39)∨(∃aA:List PanicEntry,bf=.panicked aA∧∃F40:cR,List.Perm G23 ((ka b (⟨#[]⟩:Bs) 0 0 0 0 0 0 (⟨#[]⟩:Bs) none 0 0 0 0)::(ka a r (IntKind.wrap .u8 (1+(IntKind.wrap .u8 r1))) v w x y z aa f g h ab m)::(al,nO v w x y z aa f g h ab)::F40)∧Q (.panicked aA) I35 F40)))))∨(∃aB:List PanicEntry,bd=.panicked aB∧∃F41:cR,List.Perm G21 ((ka b (⟨#[]⟩:Bs) 0 0 0 0 0 0 (⟨#[]⟩:Bs) none 0 0 0 0)::(ka a r (IntKind.wrap .u8 (1+(IntKind.wrap .u8 r1))) 0 0 0 0 0 (⟨#[]⟩:Bs) none 0 0 0 m)::(al,nO v w x y z aa f g h ab)::F41)∧Q (.panicked aB) I31 F41))) (It r3 (∀ap:Nat,∀(aP:Nat) (I36:cS),cS.le I30 I36→I36 aP=some (Obj.cells #[vs (⟨#[59]⟩:Bs)] 9 (0,0))→cU P 66 (#[vp (some p),vl (some ⟨aP,0,none⟩) 1 1]) I36 ((ka b (⟨#[]⟩:Bs) 0 0 0 0 0 0 (⟨#[]⟩:Bs) none 0 0 0 0)::(ka a r (IntKind.wrap .u8 (1+(IntKind.wrap .u8 r1))) 5 1 0 0 0 (⟨#[]⟩:Bs) (some ⟨ap,0,none⟩) 1 1 m1 m)::(al,nO 5 1 0 0 0 (⟨#[]⟩:Bs) (some ⟨ap,0,none⟩) 1 1 m1)::((ap,nO v w x y z aa f g h ab)::F35)) fun bg I37 G24=>((∃(bm:Int),bg=.returned (vi bm)∧∃F42:cR,List.Perm G24 ((ka b (⟨#[]⟩:Bs) 0 0 0 0 0 0 (⟨#[]⟩:Bs) none 0 0 0 0)::(ka a r (IntKind.wrap .u8 (1+(IntKind.wrap .u8 r1))) 5 1 0 0 0 (⟨#[]⟩:Bs) (some ⟨ap,0,none⟩) 1 1 m1 m)::(al,nO 5 1 0 0 0 (⟨#[]⟩:Bs) (some ⟨ap,0,none⟩) 1 1 m1)::F42)∧Q (.returned ((kb r (IntKind.wrap .u8 (1+(IntKind.wrap .u8 r1))) 5 1 0 0 0 (⟨#[]⟩:Bs) (some ⟨ap,0,none⟩) 1 1 m1 m))) I37 F42)∨(∃aC:List PanicEntry,bg=.panicked aC∧∃F43:cR,List.Perm G24 ((ka b (⟨#[]⟩:Bs) 0 0 0 0 0 0 (⟨#[]⟩:Bs) none 0 0 0 0)::(ka a r (IntKind.wrap .u8 (1+(IntKind.wrap .u8 r1))) 5 1 0 0 0 (⟨#[]⟩:Bs) (some ⟨ap,0,none⟩) 1 1 m1 m)::(al,nO 5 1 0 0 0 (⟨#[]⟩:Bs) (some ⟨ap,0,none⟩) 1 1 m1)::F43)∧Q (.panicked aC) I37 F43))) (∀(aQ:Nat) (I38:cS),cS.le I30 I38→I38 aQ=some (Obj.cells #[vs (⟨#[59]⟩:Bs)] 9 (0,0))→cU P 66 (#[vp (some p),vl (some ⟨aQ,0,none⟩) 1 1]) I38 ((ka b (⟨#[]⟩:Bs) 0 0 0 0 0 0 (⟨#[]⟩:Bs) none 0 0 0 0)::(ka a r (IntKind.wrap .u8 (1+(IntKind.wrap .u8 r1))) v w x y z aa f g h ab m)::(al,nO v w x y z aa f g h ab)::F35) fun bh I39 G25=>((∃(bn:Int),bh=.returned (vi bn)∧∃F44:cR,List.Perm G25 ((ka b (⟨#[]⟩:Bs) 0 0 0 0 0 0 (⟨#[]⟩:Bs) none 0 0 0 0)::(ka a r (IntKind.wrap .u8 (1+(IntKind.wrap .u8 r1))) v w x y z aa f g h ab m)::(al,nO v w x y z aa f g h ab)::F44)∧Q (.returned ((kb r (IntKind.wrap .u8 (1+(IntKind.wrap .u8 r1))) v w x y z aa f g h ab m))) I39 F44)∨(∃aD:List PanicEntry,bh=.panicked aD∧∃F45:cR,List.Perm G25 ((ka b (⟨#[]⟩:Bs) 0 0 0 0 0 0 (⟨#[]⟩:Bs) none 0 0 0 0)::(ka a r (IntKind.wrap .u8 (1+(IntKind.wrap .u8 r1))) v w x y z aa f g h ab m)::(al,nO v w x y z aa f g h ab)::F45)∧Q (.panicked aD) I39 F45))))))∨(∃aE:List PanicEntry,bc=.panicked aE∧∃F46:cR,List.Perm G20 ((ka b (⟨#[]⟩:Bs) 0 0 0 0 0 0 (⟨#[]⟩:Bs) none 0 0 0 0)::(ka a r (IntKind.wrap .u8 (1+(IntKind.wrap .u8 r1))) 0 0 0 0 0 (⟨#[]⟩:Bs) none 0 0 0 m)::F46)∧Q (.panicked aE) I30 F46)))))∨(∃aF:List PanicEntry,e4=.panicked aF∧∃F47:cR,List.Perm G4 ((ka b (⟨#[]⟩:Bs) 0 0 0 0 0 0 (⟨#[]⟩:Bs) none 0 0 0 0)::(ka a r (IntKind.wrap .u8 (1+(IntKind.wrap .u8 r1))) 0 0 0 0 0 (⟨#[]⟩:Bs) none 0 0 0 m)::F47)∧Q (.panicked aF) I6 F47)))∨(∃aG:List PanicEntry,e3=.panicked aG∧∃F48:cR,List.Perm G3 ((ka b (⟨#[]⟩:Bs) 0 0 0 0 0 0 (⟨#[]⟩:Bs) none 0 0 0 0)::(ka a r 0 0 0 0 0 0 (⟨#[]⟩:Bs) none 0 0 0 m)::F48)∧Q (.panicked aG) I4 F48)))∨(∃aH:List PanicEntry,e2=.panicked aH∧∃F49:cR,List.Perm G2 ((ka b (⟨#[]⟩:Bs) 0 0 0 0 0 0 (⟨#[]⟩:Bs) none 0 0 0 0)::(ka a (⟨#[]⟩:Bs) 0 0 0 0 0 0 (⟨#[]⟩:Bs) none 0 0 0 m)::F49)∧Q (.panicked aH) I2 F49)))∨(∃aI:List PanicEntry,e1=.panicked aI∧∃F50:cR,List.Perm G1 ((ka b (⟨#[]⟩:Bs) 0 0 0 0 0 0 (⟨#[]⟩:Bs) none 0 0 0 0)::(ka a (⟨#[]⟩:Bs) 0 0 0 0 0 0 (⟨#[]⟩:Bs) none 0 0 0 m)::F50)∧Q (.panicked aI) I1 F50))
theorem iE.vc{p:Addr}{I:cS}{F:cR}{Q:cT}  (h:iE.V (fun W a b c d e f g h i j k l m=>(W,Obj.cells #[.string a,.int .u8 b,.int .u8 c,.int .u8 d,.int .u8 e,.int .i64 f,.int .u8 g,.string h,.slice i j k,.int .i64 l,.int .i64 m] 104 (0,0))) (fun a b c d e f g h i j k l m=>.agg #[.string a,.int .u8 b,.int .u8 c,.int .u8 d,.int .u8 e,.int .i64 f,.int .u8 g,.string h,.slice i j k,.int .i64 l,.int .i64 m]) (fun k o t n f s a l c q=>.agg #[.int .u8 k,.int .u8 o,.int .u8 t,.int .i64 n,.int .u8 f,.string s,.slice a l c,.int .i64 q]) (fun k o t n f s a l c q=>.cells #[.int .u8 k,.int .u8 o,.int .u8 t,.int .i64 n,.int .u8 f,.string s,.slice a l c,.int .i64 q] 64 (0,0)) (.int .u8) (.int .i64) .string .slice .bool .pointer p I F Q):cU P 69 #[.pointer (some p)] I F Q :=
 tw (A:=(dy [7000,9005,12001,14000] [64,65,66,67,105] [64,65,66,67,91,105] mc [] [4001,5001,17001] [15001] [] [] [(6,[0,1,2,3,5,4,6,7,8])] [] [] [(6,[4,1000],9)])) [64,65,66,67,91,105] func69 h
def hY.V(ka:Nat→Bs→Int→Nat×Obj)(vi:Int→Value)(vs:Bs→Value)(p:Addr)(I:cS)(F:cR)(Q:cT)  : Prop:=∀b:Nat,∃ad:Addr,some p=some ad∧∃(m:Int),Rd I ((ka b (⟨#[]⟩:Bs) 0)::F) ((ad.add 1).add 4) [vi m]∧∀a:Nat,cU P 64 (#[.pointer (some p)]) I ((ka b (⟨#[]⟩:Bs) 0)::(ka a (⟨#[]⟩:Bs) m)::F) fun e1 I1 G1=>((e1=.returned (.tuple #[])∧∃F1:cR,List.Perm G1 ((ka b (⟨#[]⟩:Bs) 0)::(ka a (⟨#[]⟩:Bs) m)::F1)∧cU P 67 (#[.pointer (some p)]) I1 ((ka b (⟨#[]⟩:Bs) 0)::(ka a (⟨#[]⟩:Bs) m)::F1) fun e2 I2 G2=>((∃(r:Bs),e2=.returned (vs r)∧∃F2:cR,List.Perm G2 ((ka b (⟨#[]⟩:Bs) 0)::(ka a (⟨#[]⟩:Bs) m)::F2)∧∀(b1:Nat) (I3:cS),cS.le I2 I3→I3 b1=some (Obj.cells #[vs (⟨#[59]⟩:Bs)] 9 (0,0))→cU P 66 (#[.pointer (some p),.slice (some ⟨b1,0,none⟩) 1 1]) I3 ((ka b (⟨#[]⟩:Bs) 0)::(ka a r m)::F2) fun e3 I4 G3=>((∃(r1:Int),e3=.returned (vi r1)∧∃F3:cR,List.Perm G3 ((ka b (⟨#[]⟩:Bs) 0)::(ka a r m)::F3)∧Q (.returned (.agg #[vs r,vi m])) I4 F3)∨(∃ch:List PanicEntry,e3=.panicked ch∧∃F4:cR,List.Perm G3 ((ka b (⟨#[]⟩:Bs) 0)::(ka a r m)::F4)∧Q (.panicked ch) I4 F4)))∨(∃c:List PanicEntry,e2=.panicked c∧∃F5:cR,List.Perm G2 ((ka b (⟨#[]⟩:Bs) 0)::(ka a (⟨#[]⟩:Bs) m)::F5)∧Q (.panicked c) I2 F5)))∨(∃d:List PanicEntry,e1=.panicked d∧∃F6:cR,List.Perm G1 ((ka b (⟨#[]⟩:Bs) 0)::(ka a (⟨#[]⟩:Bs) m)::F6)∧Q (.panicked d) I1 F6))
theorem hY.vc{p:Addr}{I:cS}{F:cR}{Q:cT}  (h:hY.V (fun W a b=>(W,Obj.cells #[.string a,.int .i64 b] 106 (0,0))) (.int .i64) .string p I F Q):cU P 71 #[.pointer (some p)] I F Q :=
 tw (A:=(dy [] [64,66,67] [64,66,67] mc [] [4001] [] [] [] [] [])) [64,66,67] func71 h
def ja.V(ka:Nat→Int→Int→Bs→Int→Int→Int→Int→Int→Bs→OA→Nat→Nat→Int→Int→Int→Int→Int→Int→Bs→OA→Nat→Nat→Int→Int→Int→Int→Int→Int→Bs→OA→Nat→Nat→Int→Int→Int→Int→Int→Int→Bs→OA→Nat→Nat→Int→Int→Nat×Obj)(kb:Int→Int→Bs→Int→Int→Int→Int→Int→Bs→OA→Nat→Nat→Int→Int→Int→Int→Int→Int→Bs→OA→Nat→Nat→Int→Int→Int→Int→Int→Int→Bs→OA→Nat→Nat→Int→Int→Int→Int→Int→Int→Bs→OA→Nat→Nat→Int→Int→Value)(nV:Int→Int→Int→Int→Int→Bs→OA→Nat→Nat→Int→Value)(vb vi:Int→Value)(vs:Bs→Value)(vl:OA→Nat→Nat→Value)(vp:OA→Value)(p:Addr)(I:cS)(F:cR)(Q:cT)  : Prop:=∀b:Nat,∃ad:Addr,some p=some ad∧∃(m:Int),Rd I ((ka b 0 0 (⟨#[]⟩:Bs) 0 0 0 0 0 (⟨#[]⟩:Bs) none 0 0 0 0 0 0 0 0 (⟨#[]⟩:Bs) none 0 0 0 0 0 0 0 0 (⟨#[]⟩:Bs) none 0 0 0 0 0 0 0 0 (⟨#[]⟩:Bs) none 0 0 0 0)::F) ((ad.add 1).add 4) [vi m]∧∀a:Nat,∀(b1:Nat) (I1:cS),cS.le I I1→I1 b1=some (Obj.cells #[vs (⟨#[115,117,98,109,105,116]⟩:Bs),vs (⟨#[97,109,101,110,100]⟩:Bs),vs (⟨#[99,97,110,99,101,108]⟩:Bs),vs (⟨#[115,101,116]⟩:Bs),vs (⟨#[103,111,116,111]⟩:Bs),vs (⟨#[104,97,108,116]⟩:Bs)] 9 (0,0))→cU P 66 (#[vp (some p),vl (some ⟨b1,0,none⟩) 6 6]) I1 ((ka b 0 0 (⟨#[]⟩:Bs) 0 0 0 0 0 (⟨#[]⟩:Bs) none 0 0 0 0 0 0 0 0 (⟨#[]⟩:Bs) none 0 0 0 0 0 0 0 0 (⟨#[]⟩:Bs) none 0 0 0 0 0 0 0 0 (⟨#[]⟩:Bs) none 0 0 0 0)::(ka a 0 0 (⟨#[]⟩:Bs) 0 0 0 0 0 (⟨#[]⟩:Bs) none 0 0 0 0 0 0 0 0 (⟨#[]⟩:Bs) none 0 0 0 0 0 0 0 0 (⟨#[]⟩:Bs) none 0 0 0 0 0 0 0 0 (⟨#[]⟩:Bs) none 0 0 0 m)::F) fun e1 I2 G1=>((∃(r:Int),e1=.returned (vi r)∧∃F1:cR,List.Perm G1 ((ka b 0 0 (⟨#[]⟩:Bs) 0 0 0 0 0 (⟨#[]⟩:Bs) none 0 0 0 0 0 0 0 0 (⟨#[]⟩:Bs) none 0 0 0 0 0 0 0 0 (⟨#[]⟩:Bs) none 0 0 0 0 0 0 0 0 (⟨#[]⟩:Bs) none 0 0 0 0)::(ka a 0 0 (⟨#[]⟩:Bs) 0 0 0 0 0 (⟨#[]⟩:Bs) none 0 0 0 0 0 0 0 0 (⟨#[]⟩:Bs) none 0 0 0 0 0 0 0 0 (⟨#[]⟩:Bs) none 0 0 0 0 0 0 0 0 (⟨#[]⟩:Bs) none 0 0 0 m)::F1)∧(It ((IntKind.wrap .u8 (1+(IntKind.wrap .u8 r)))==1) (cU P 47 (#[vp (some p),vi 0]) I2 ((ka b 0 0 (⟨#[]⟩:Bs) 0 0 0 0 0 (⟨#[]⟩:Bs) none 0 0 0 0 0 0 0 0 (⟨#[]⟩:Bs) none 0 0 0 0 0 0 0 0 (⟨#[]⟩:Bs) none 0 0 0 0 0 0 0 0 (⟨#[]⟩:Bs) none 0 0 0 0)::(ka a (IntKind.wrap .u8 (1+(IntKind.wrap .u8 r))) 0 (⟨#[]⟩:Bs) 0 0 0 0 0 (⟨#[]⟩:Bs) none 0 0 0 0 0 0 0 0 (⟨#[]⟩:Bs) none 0 0 0 0 0 0 0 0 (⟨#[]⟩:Bs) none 0 0 0 0 0 0 0 0 (⟨#[]⟩:Bs) none 0 0 0 m)::F1) fun e2 I3 G2=>((∃(s t u v w:Int) (x:Bs) (f:OA) (g h:Nat) (y:Int),e2=.returned (nV s t u v w x f g h y)∧∃F2:cR,List.Perm G2 ((ka b 0 0 (⟨#[]⟩:Bs) 0 0 0 0 0 (⟨#[]⟩:Bs) none 0 0 0 0 0 0 0 0 (⟨#[]⟩:Bs) none 0 0 0 0 0 0 0 0 (⟨#[]⟩:Bs) none 0 0 0 0 0 0 0 0 (⟨#[]⟩:Bs) none 0 0 0 0)::(ka a (IntKind.wrap .u8 (1+(IntKind.wrap .u8 r))) 0 (⟨#[]⟩:Bs) 0 0 0 0 0 (⟨#[]⟩:Bs) none 0 0 0 0 0 0 0 0 (⟨#[]⟩:Bs) none 0 0 0 0 0 0 0 0 (⟨#[]⟩:Bs) none 0 0 0 0 0 0 0 0 (⟨#[]⟩:Bs) none 0 0 0 m)::F2)∧∀(b2:Nat) (I4:cS),cS.le I3 I4→I4 b2=some (Obj.cells #[vs (⟨#[111,102]⟩:Bs)] 9 (0,0))→cU P 66 (#[vp (some p),vl (some ⟨b2,0,none⟩) 1 1]) I4 ((ka b 0 0 (⟨#[]⟩:Bs) 0 0 0 0 0 (⟨#[]⟩:Bs) none 0 0 0 0 0 0 0 0 (⟨#[]⟩:Bs) none 0 0 0 0 0 0 0 0 (⟨#[]⟩:Bs) none 0 0 0 0 0 0 0 0 (⟨#[]⟩:Bs) none 0 0 0 0)::(ka a (IntKind.wrap .u8 (1+(IntKind.wrap .u8 r))) 0 (⟨#[]⟩:Bs) s t u v w x f g h y 0 0 0 0 0 (⟨#[]⟩:Bs) none 0 0 0 0 0 0 0 0 (⟨#[]⟩:Bs) none 0 0 0 0 0 0 0 0 (⟨#[]⟩:Bs) none 0 0 0 m)::F2) fun e3 I5 G3=>((∃(r1:Int),e3=.returned (vi r1)∧∃F3:cR,List.Perm G3 ((ka b 0 0 (⟨#[]⟩:Bs) 0 0 0 0 0 (⟨#[]⟩:Bs) none 0 0 0 0 0 0 0 0 (⟨#[]⟩:Bs) none 0 0 0 0 0 0 0 0 (⟨#[]⟩:Bs) none 0 0 0 0 0 0 0 0 (⟨#[]⟩:Bs) none 0 0 0 0)::(ka a (IntKind.wrap .u8 (1+(IntKind.wrap .u8 r))) 0 (⟨#[]⟩:Bs) s t u v w x f g h y 0 0 0 0 0 (⟨#[]⟩:Bs) none 0 0 0 0 0 0 0 0 (⟨#[]⟩:Bs) none 0 0 0 0 0 0 0 0 (⟨#[]⟩:Bs) none 0 0 0 m)::F3)∧cU P 47 (#[vp (some p),vi 0]) I5 ((ka b 0 0 (⟨#[]⟩:Bs) 0 0 0 0 0 (⟨#[]⟩:Bs) none 0 0 0 0 0 0 0 0 (⟨#[]⟩:Bs) none 0 0 0 0 0 0 0 0 (⟨#[]⟩:Bs) none 0 0 0 0 0 0 0 0 (⟨#[]⟩:Bs) none 0 0 0 0)::(ka a (IntKind.wrap .u8 (1+(IntKind.wrap .u8 r))) 0 (⟨#[]⟩:Bs) s t u v w x f g h y 0 0 0 0 0 (⟨#[]⟩:Bs) none 0 0 0 0 0 0 0 0 (⟨#[]⟩:Bs) none 0 0 0 0 0 0 0 0 (⟨#[]⟩:Bs) none 0 0 0 m)::F3) fun e4 I6 G4=>((∃(i j k l n:Int) (o:Bs) (c:OA) (d e:Nat) (q:Int),e4=.returned (nV i j k l n o c d e q)∧∃F4:cR,List.Perm G4 ((ka b 0 0 (⟨#[]⟩:Bs) 0 0 0 0 0 (⟨#[]⟩:Bs) none 0 0 0 0 0 0 0 0 (⟨#[]⟩:Bs) none 0 0 0 0 0 0 0 0 (⟨#[]⟩:Bs) none 0 0 0 0 0 0 0 0 (⟨#[]⟩:Bs) none 0 0 0 0)::(ka a (IntKind.wrap .u8 (1+(IntKind.wrap .u8 r))) 0 (⟨#[]⟩:Bs) s t u v w x f g h y 0 0 0 0 0 (⟨#[]⟩:Bs) none 0 0 0 0 0 0 0 0 (⟨#[]⟩:Bs) none 0 0 0 0 0 0 0 0 (⟨#[]⟩:Bs) none 0 0 0 m)::F4)∧∀(b3:Nat) (I7:cS),cS.le I6 I7→I7 b3=some (Obj.cells #[vs (⟨#[109,97,114,107,101,116]⟩:Bs),vs (⟨#[97,116]⟩:Bs)] 9 (0,0))→cU P 66 (#[vp (some p),vl (some ⟨b3,0,none⟩) 2 2]) I7 ((ka b 0 0 (⟨#[]⟩:Bs) 0 0 0 0 0 (⟨#[]⟩:Bs) none 0 0 0 0 0 0 0 0 (⟨#[]⟩:Bs) none 0 0 0 0 0 0 0 0 (⟨#[]⟩:Bs) none 0 0 0 0 0 0 0 0 (⟨#[]⟩:Bs) none 0 0 0 0)::(ka a (IntKind.wrap .u8 (1+(IntKind.wrap .u8 r))) 2 (⟨#[]⟩:Bs) s t u v w x f g h y i j k l n o c d e q 0 0 0 0 0 (⟨#[]⟩:Bs) none 0 0 0 0 0 0 0 0 (⟨#[]⟩:Bs) none 0 0 0 m)::F4) fun e5 I8 G5=>((∃(r2:Int),e5=.returned (vi r2)∧∃F5:cR,List.Perm G5 ((ka b 0 0 (⟨#[]⟩:Bs) 0 0 0 0 0 (⟨#[]⟩:Bs) none 0 0 0 0 0 0 0 0 (⟨#[]⟩:Bs) none 0 0 0 0 0 0 0 0 (⟨#[]⟩:Bs) none 0 0 0 0 0 0 0 0 (⟨#[]⟩:Bs) none 0 0 0 0)::(ka a (IntKind.wrap .u8 (1+(IntKind.wrap .u8 r))) 2 (⟨#[]⟩:Bs) s t u v w x f g h y i j k l n o c d e q 0 0 0 0 0 (⟨#[]⟩:Bs) none 0 0 0 0 0 0 0 0 (⟨#[]⟩:Bs) none 0 0 0 m)::F5)∧(It (r2==1) (cU P 47 (#[vp (some p),vi 0]) I8 ((ka b 0 0 (⟨#[]⟩:Bs) 0 0 0 0 0 (⟨#[]⟩:Bs) none 0 0 0 0 0 0 0 0 (⟨#[]⟩:Bs) none 0 0 0 0 0 0 0 0 (⟨#[]⟩:Bs) none 0 0 0 0 0 0 0 0 (⟨#[]⟩:Bs) none 0 0 0 0)::(ka a (IntKind.wrap .u8 (1+(IntKind.wrap .u8 r))) 2 (⟨#[]⟩:Bs) s t u v w x f g h y i j k l n o c d e q 0 0 0 0 0 (⟨#[]⟩:Bs) none 0 0 0 0 0 0 0 0 (⟨#[]⟩:Bs) none 0 0 0 m)::F5) fun e6 I9 G6=>((∃(ac ae af ag ah:Int) (ai:Bs) (z:OA) (aa ab:Nat) (aj:Int),e6=.returned (nV ac ae af ag ah ai z aa ab aj)∧∃F6:cR,List.Perm G6 ((ka b 0 0 (⟨#[]⟩:Bs) 0 0 0 0 0 (⟨#[]⟩:Bs) none 0 0 0 0 0 0 0 0 (⟨#[]⟩:Bs) none 0 0 0 0 0 0 0 0 (⟨#[]⟩:Bs) none 0 0 0 0 0 0 0 0 (⟨#[]⟩:Bs) none 0 0 0 0)::(ka a (IntKind.wrap .u8 (1+(IntKind.wrap .u8 r))) 2 (⟨#[]⟩:Bs) s t u v w x f g h y i j k l n o c d e q 0 0 0 0 0 (⟨#[]⟩:Bs) none 0 0 0 0 0 0 0 0 (⟨#[]⟩:Bs) none 0 0 0 m)::F6)∧∀(b4:Nat) (I10:cS),cS.le I9 I10→I10 b4=some (Obj.cells #[vb 1,vb 3,vb 4,vb 5] 112 (0,0))→∀(b5:Nat) (I11:cS),cS.le I10 I11→I11 b5=some (Obj.cells #[vs (⟨#[108,105,109,105,116]⟩:Bs),vs (⟨#[105,111,99]⟩:Bs),vs (⟨#[102,111,107]⟩:Bs),vs (⟨#[112,111,115,116]⟩:Bs)] 9 (0,0))→cU P 66 (#[vp (some p),vl (some ⟨b5,0,none⟩) 4 4]) I11 ((ka b 0 0 (⟨#[]⟩:Bs) 0 0 0 0 0 (⟨#[]⟩:Bs) none 0 0 0 0 0 0 0 0 (⟨#[]⟩:Bs) none 0 0 0 0 0 0 0 0 (⟨#[]⟩:Bs) none 0 0 0 0 0 0 0 0 (⟨#[]⟩:Bs) none 0 0 0 0)::(ka a (IntKind.wrap .u8 (1+(IntKind.wrap .u8 r))) 2 (⟨#[]⟩:Bs) s t u v w x f g h y i j k l n o c d e q ac ae af ag ah ai z aa ab aj 0 0 0 0 0 (⟨#[]⟩:Bs) none 0 0 0 m)::F6) fun e7 I12 G7=>((∃(r3:Int),e7=.returned (vi r3)∧∃F7:cR,List.Perm G7 ((ka b 0 0 (⟨#[]⟩:Bs) 0 0 0 0 0 (⟨#[]⟩:Bs) none 0 0 0 0 0 0 0 0 (⟨#[]⟩:Bs) none 0 0 0 0 0 0 0 0 (⟨#[]⟩:Bs) none 0 0 0 0 0 0 0 0 (⟨#[]⟩:Bs) none 0 0 0 0)::(ka a (IntKind.wrap .u8 (1+(IntKind.wrap .u8 r))) 2 (⟨#[]⟩:Bs) s t u v w x f g h y i j k l n o c d e q ac ae af ag ah ai z aa ab aj 0 0 0 0 0 (⟨#[]⟩:Bs) none 0 0 0 m)::F7)∧((0≤r3∧r3<(4:Int))∧∃a2:Addr,some ⟨b4,0,none⟩=some a2∧∃(m1:Int),Rd I12 ((ka b 0 0 (⟨#[]⟩:Bs) 0 0 0 0 0 (⟨#[]⟩:Bs) none 0 0 0 0 0 0 0 0 (⟨#[]⟩:Bs) none 0 0 0 0 0 0 0 0 (⟨#[]⟩:Bs) none 0 0 0 0 0 0 0 0 (⟨#[]⟩:Bs) none 0 0 0 0)::(ka a (IntKind.wrap .u8 (1+(IntKind.wrap .u8 r))) 2 (⟨#[]⟩:Bs) s t u v w x f g h y i j k l n o c d e q ac ae af ag ah ai z aa ab aj 0 0 0 0 0 (⟨#[]⟩:Bs) none 0 0 0 m)::F7) (a2.add (Int.toNat r3*1)) [vb m1]∧dt P 91 (#[vp (some p),vs (⟨#[97,115]⟩:Bs)]) I12 ((ka b 0 0 (⟨#[]⟩:Bs) 0 0 0 0 0 (⟨#[]⟩:Bs) none 0 0 0 0 0 0 0 0 (⟨#[]⟩:Bs) none 0 0 0 0 0 0 0 0 (⟨#[]⟩:Bs) none 0 0 0 0 0 0 0 0 (⟨#[]⟩:Bs) none 0 0 0 0)::(ka a (IntKind.wrap .u8 (1+(IntKind.wrap .u8 r))) m1 (⟨#[]⟩:Bs) s t u v w x f g h y i j k l n o c d e q ac ae af ag ah ai z aa ab aj 0 0 0 0 0 (⟨#[]⟩:Bs) none 0 0 0 m)::·) F7 .bool fun r4 I13 F8=>(It r4 (cU P 64 (#[vp (some p)]) I13 ((ka b 0 0 (⟨#[]⟩:Bs) 0 0 0 0 0 (⟨#[]⟩:Bs) none 0 0 0 0 0 0 0 0 (⟨#[]⟩:Bs) none 0 0 0 0 0 0 0 0 (⟨#[]⟩:Bs) none 0 0 0 0 0 0 0 0 (⟨#[]⟩:Bs) none 0 0 0 0)::(ka a (IntKind.wrap .u8 (1+(IntKind.wrap .u8 r))) m1 (⟨#[]⟩:Bs) s t u v w x f g h y i j k l n o c d e q ac ae af ag ah ai z aa ab aj 0 0 0 0 0 (⟨#[]⟩:Bs) none 0 0 0 m)::F8) fun e9 I14 G9=>((e9=.returned (.tuple #[])∧∃F9:cR,List.Perm G9 ((ka b 0 0 (⟨#[]⟩:Bs) 0 0 0 0 0 (⟨#[]⟩:Bs) none 0 0 0 0 0 0 0 0 (⟨#[]⟩:Bs) none 0 0 0 0 0 0 0 0 (⟨#[]⟩:Bs) none 0 0 0 0 0 0 0 0 (⟨#[]⟩:Bs) none 0 0 0 0)::(ka a (IntKind.wrap .u8 (1+(IntKind.wrap .u8 r))) m1 (⟨#[]⟩:Bs) s t u v w x f g h y i j k l n o c d e q ac ae af ag ah ai z aa ab aj 0 0 0 0 0 (⟨#[]⟩:Bs) none 0 0 0 m)::F9)∧cU P 67 (#[vp (some p)]) I14 ((ka b 0 0 (⟨#[]⟩:Bs) 0 0 0 0 0 (⟨#[]⟩:Bs) none 0 0 0 0 0 0 0 0 (⟨#[]⟩:Bs) none 0 0 0 0 0 0 0 0 (⟨#[]⟩:Bs) none 0 0 0 0 0 0 0 0 (⟨#[]⟩:Bs) none 0 0 0 0)::(ka a (IntKind.wrap .u8 (1+(IntKind.wrap .u8 r))) m1 (⟨#[]⟩:Bs) s t u v w x f g h y i j k l n o c d e q ac ae af ag ah ai z aa ab aj 0 0 0 0 0 (⟨#[]⟩:Bs) none 0 0 0 m)::F9) fun bc I15 G10=>((∃(r5:Bs),bc=.returned (vs r5)∧∃F10:cR,List.Perm G10 ((ka b 0 0 (⟨#[]⟩:Bs) 0 0 0 0 0 (⟨#[]⟩:Bs) none 0 0 0 0 0 0 0 0 (⟨#[]⟩:Bs) none 0 0 0 0 0 0 0 0 (⟨#[]⟩:Bs) none 0 0 0 0 0 0 0 0 (⟨#[]⟩:Bs) none 0 0 0 0)::(ka a (IntKind.wrap .u8 (1+(IntKind.wrap .u8 r))) m1 (⟨#[]⟩:Bs) s t u v w x f g h y i j k l n o c d e q ac ae af ag ah ai z aa ab aj 0 0 0 0 0 (⟨#[]⟩:Bs) none 0 0 0 m)::F10)∧Q (.returned ((kb (IntKind.wrap .u8 (1+(IntKind.wrap .u8 r))) m1 r5 s t u v w x f g h y i j k l n o c d e q ac ae af ag ah ai z aa ab aj 0 0 0 0 0 (⟨#[]⟩:Bs) none 0 0 0 m))) I15 F10)∨(∃ch:List PanicEntry,bc=.panicked ch∧∃F11:cR,List.Perm G10 ((ka b 0 0 (⟨#[]⟩:Bs) 0 0 0 0 0 (⟨#[]⟩:Bs) none 0 0 0 0 0 0 0 0 (⟨#[]⟩:Bs) none 0 0 0 0 0 0 0 0 (⟨#[]⟩:Bs) none 0 0 0 0 0 0 0 0 (⟨#[]⟩:Bs) none 0 0 0 0)::(ka a (IntKind.wrap .u8 (1+(IntKind.wrap .u8 r))) m1 (⟨#[]⟩:Bs) s t u v w x f g h y i j k l n o c d e q ac ae af ag ah ai z aa ab aj 0 0 0 0 0 (⟨#[]⟩:Bs) none 0 0 0 m)::F11)∧Q (.panicked ch) I15 F11)))∨(∃a3:List PanicEntry,e9=.panicked a3∧∃F12:cR,List.Perm G9 ((ka b 0 0 (⟨#[]⟩:Bs) 0 0 0 0 0 (⟨#[]⟩:Bs) none 0 0 0 0 0 0 0 0 (⟨#[]⟩:Bs) none 0 0 0 0 0 0 0 0 (⟨#[]⟩:Bs) none 0 0 0 0 0 0 0 0 (⟨#[]⟩:Bs) none 0 0 0 0)::(ka a (IntKind.wrap .u8 (1+(IntKind.wrap .u8 r))) m1 (⟨#[]⟩:Bs) s t u v w x f g h y i j k l n o c d e q ac ae af ag ah ai z aa ab aj 0 0 0 0 0 (⟨#[]⟩:Bs) none 0 0 0 m)::F12)∧Q (.panicked a3) I14 F12))) (Q (.returned ((kb (IntKind.wrap .u8 (1+(IntKind.wrap .u8 r))) m1 (⟨#[]⟩:Bs) s t u v w x f g h y i j k l n o c d e q ac ae af ag ah ai z aa ab aj 0 0 0 0 0 (⟨#[]⟩:Bs) none 0 0 0 m))) I13 F8))))∨(∃a4:List PanicEntry,e7=.panicked a4∧∃F13:cR,List.Perm G7 ((ka b 0 0 (⟨#[]⟩:Bs) 0 0 0 0 0 (⟨#[]⟩:Bs) none 0 0 0 0 0 0 0 0 (⟨#[]⟩:Bs) none 0 0 0 0 0 0 0 0 (⟨#[]⟩:Bs) none 0 0 0 0 0 0 0 0 (⟨#[]⟩:Bs) none 0 0 0 0)::(ka a (IntKind.wrap .u8 (1+(IntKind.wrap .u8 r))) 2 (⟨#[]⟩:Bs) s t u v w x f g h y i j k l n o c d e q ac ae af ag ah ai z aa ab aj 0 0 0 0 0 (⟨#[]⟩:Bs) none 0 0 0 m)::F13)∧Q (.panicked a4) I12 F13)))∨(∃a5:List PanicEntry,e6=.panicked a5∧∃F14:cR,List.Perm G6 ((ka b 0 0 (⟨#[]⟩:Bs) 0 0 0 0 0 (⟨#[]⟩:Bs) none 0 0 0 0 0 0 0 0 (⟨#[]⟩:Bs) none 0 0 0 0 0 0 0 0 (⟨#[]⟩:Bs) none 0 0 0 0 0 0 0 0 (⟨#[]⟩:Bs) none 0 0 0 0)::(ka a (IntKind.wrap .u8 (1+(IntKind.wrap .u8 r))) 2 (⟨#[]⟩:Bs) s t u v w x f g h y i j k l n o c d e q 0 0 0 0 0 (⟨#[]⟩:Bs) none 0 0 0 0 0 0 0 0 (⟨#[]⟩:Bs) none 0 0 0 m)::F14)∧Q (.panicked a5) I9 F14))) (dt P 91 (#[vp (some p),vs (⟨#[97,115]⟩:Bs)]) I8 ((ka b 0 0 (⟨#[]⟩:Bs) 0 0 0 0 0 (⟨#[]⟩:Bs) none 0 0 0 0 0 0 0 0 (⟨#[]⟩:Bs) none 0 0 0 0 0 0 0 0 (⟨#[]⟩:Bs) none 0 0 0 0 0 0 0 0 (⟨#[]⟩:Bs) none 0 0 0 0)::(ka a (IntKind.wrap .u8 (1+(IntKind.wrap .u8 r))) 2 (⟨#[]⟩:Bs) s t u v w x f g h y i j k l n o c d e q 0 0 0 0 0 (⟨#[]⟩:Bs) none 0 0 0 0 0 0 0 0 (⟨#[]⟩:Bs) none 0 0 0 m)::·) F5 .bool fun r6 I16 F15=>(It r6 (cU P 64 (#[vp (some p)]) I16 ((ka b 0 0 (⟨#[]⟩:Bs) 0 0 0 0 0 (⟨#[]⟩:Bs) none 0 0 0 0 0 0 0 0 (⟨#[]⟩:Bs) none 0 0 0 0 0 0 0 0 (⟨#[]⟩:Bs) none 0 0 0 0 0 0 0 0 (⟨#[]⟩:Bs) none 0 0 0 0)::(ka a (IntKind.wrap .u8 (1+(IntKind.wrap .u8 r))) 2 (⟨#[]⟩:Bs) s t u v w x f g h y i j k l n o c d e q 0 0 0 0 0 (⟨#[]⟩:Bs) none 0 0 0 0 0 0 0 0 (⟨#[]⟩:Bs) none 0 0 0 m)::F15) fun bd I17 G12=>((bd=.returned (.tuple #[])∧∃F16:cR,List.Perm G12 ((ka b 0 0 (⟨#[]⟩:Bs) 0 0 0 0 0 (⟨#[]⟩:Bs) none 0 0 0 0 0 0 0 0 (⟨#[]⟩:Bs) none 0 0 0 0 0 0 0 0 (⟨#[]⟩:Bs) none 0 0 0 0 0 0 0 0 (⟨#[]⟩:Bs) none 0 0 0 0)::(ka a (IntKind.wrap .u8 (1+(IntKind.wrap .u8 r))) 2 (⟨#[]⟩:Bs) s t u v w x f g h y i j k l n o c d e q 0 0 0 0 0 (⟨#[]⟩:Bs) none 0 0 0 0 0 0 0 0 (⟨#[]⟩:Bs) none 0 0 0 m)::F16)∧cU P 67 (#[vp (some p)]) I17 ((ka b 0 0 (⟨#[]⟩:Bs) 0 0 0 0 0 (⟨#[]⟩:Bs) none 0 0 0 0 0 0 0 0 (⟨#[]⟩:Bs) none 0 0 0 0 0 0 0 0 (⟨#[]⟩:Bs) none 0 0 0 0 0 0 0 0 (⟨#[]⟩:Bs) none 0 0 0 0)::(ka a (IntKind.wrap .u8 (1+(IntKind.wrap .u8 r))) 2 (⟨#[]⟩:Bs) s t u v w x f g h y i j k l n o c d e q 0 0 0 0 0 (⟨#[]⟩:Bs) none 0 0 0 0 0 0 0 0 (⟨#[]⟩:Bs) none 0 0 0 m)::F16) fun be I18 G13=>((∃(r7:Bs),be=.returned (vs r7)∧∃F17:cR,List.Perm G13 ((ka b 0 0 (⟨#[]⟩:Bs) 0 0 0 0 0 (⟨#[]⟩:Bs) none 0 0 0 0 0 0 0 0 (⟨#[]⟩:Bs) none 0 0 0 0 0 0 0 0 (⟨#[]⟩:Bs) none 0 0 0 0 0 0 0 0 (⟨#[]⟩:Bs) none 0 0 0 0)::(ka a (IntKind.wrap .u8 (1+(IntKind.wrap .u8 r))) 2 (⟨#[]⟩:Bs) s t u v w x f g h y i j k l n o c d e q 0 0 0 0 0 (⟨#[]⟩:Bs) none 0 0 0 0 0 0 0 0 (⟨#[]⟩:Bs) none 0 0 0 m)::F17)∧Q (.returned ((kb (IntKind.wrap .u8 (1+(IntKind.wrap .u8 r))) 2 r7 s t u v w x f g h y i j k l n o c d e q 0 0 0 0 0 (⟨#[]⟩:Bs) none 0 0 0 0 0 0 0 0 (⟨#[]⟩:Bs) none 0 0 0 m))) I18 F17)∨(∃a6:List PanicEntry,be=.panicked a6∧∃F18:cR,List.Perm G13 ((ka b 0 0 (⟨#[]⟩:Bs) 0 0 0 0 0 (⟨#[]⟩:Bs) none 0 0 0 0 0 0 0 0 (⟨#[]⟩:Bs) none 0 0 0 0 0 0 0 0 (⟨#[]⟩:Bs) none 0 0 0 0 0 0 0 0 (⟨#[]⟩:Bs) none 0 0 0 0)::(ka a (IntKind.wrap .u8 (1+(IntKind.wrap .u8 r))) 2 (⟨#[]⟩:Bs) s t u v w x f g h y i j k l n o c d e q 0 0 0 0 0 (⟨#[]⟩:Bs) none 0 0 0 0 0 0 0 0 (⟨#[]⟩:Bs) none 0 0 0 m)::F18)∧Q (.panicked a6) I18 F18)))∨(∃a7:List PanicEntry,bd=.panicked a7∧∃F19:cR,List.Perm G12 ((ka b 0 0 (⟨#[]⟩:Bs) 0 0 0 0 0 (⟨#[]⟩:Bs) none 0 0 0 0 0 0 0 0 (⟨#[]⟩:Bs) none 0 0 0 0 0 0 0 0 (⟨#[]⟩:Bs) none 0 0 0 0 0 0 0 0 (⟨#[]⟩:Bs) none 0 0 0 0)::(ka a (IntKind.wrap .u8 (1+(IntKind.wrap .u8 r))) 2 (⟨#[]⟩:Bs) s t u v w x f g h y i j k l n o c d e q 0 0 0 0 0 (⟨#[]⟩:Bs) none 0 0 0 0 0 0 0 0 (⟨#[]⟩:Bs) none 0 0 0 m)::F19)∧Q (.panicked a7) I17 F19))) (Q (.returned ((kb (IntKind.wrap .u8 (1+(IntKind.wrap .u8 r))) 2 (⟨#[]⟩:Bs) s t u v w x f g h y i j k l n o c d e q 0 0 0 0 0 (⟨#[]⟩:Bs) none 0 0 0 0 0 0 0 0 (⟨#[]⟩:Bs) none 0 0 0 m))) I16 F15)))))∨(∃a8:List PanicEntry,e5=.panicked a8∧∃F20:cR,List.Perm G5 ((ka b 0 0 (⟨#[]⟩:Bs) 0 0 0 0 0 (⟨#[]⟩:Bs) none 0 0 0 0 0 0 0 0 (⟨#[]⟩:Bs) none 0 0 0 0 0 0 0 0 (⟨#[]⟩:Bs) none 0 0 0 0 0 0 0 0 (⟨#[]⟩:Bs) none 0 0 0 0)::(ka a (IntKind.wrap .u8 (1+(IntKind.wrap .u8 r))) 2 (⟨#[]⟩:Bs) s t u v w x f g h y i j k l n o c d e q 0 0 0 0 0 (⟨#[]⟩:Bs) none 0 0 0 0 0 0 0 0 (⟨#[]⟩:Bs) none 0 0 0 m)::F20)∧Q (.panicked a8) I8 F20)))∨(∃a9:List PanicEntry,e4=.panicked a9∧∃F21:cR,List.Perm G4 ((ka b 0 0 (⟨#[]⟩:Bs) 0 0 0 0 0 (⟨#[]⟩:Bs) none 0 0 0 0 0 0 0 0 (⟨#[]⟩:Bs) none 0 0 0 0 0 0 0 0 (⟨#[]⟩:Bs) none 0 0 0 0 0 0 0 0 (⟨#[]⟩:Bs) none 0 0 0 0)::(ka a (IntKind.wrap .u8 (1+(IntKind.wrap .u8 r))) 0 (⟨#[]⟩:Bs) s t u v w x f g h y 0 0 0 0 0 (⟨#[]⟩:Bs) none 0 0 0 0 0 0 0 0 (⟨#[]⟩:Bs) none 0 0 0 0 0 0 0 0 (⟨#[]⟩:Bs) none 0 0 0 m)::F21)∧Q (.panicked a9) I6 F21)))∨(∃ba:List PanicEntry,e3=.panicked ba∧∃F22:cR,List.Perm G3 ((ka b 0 0 (⟨#[]⟩:Bs) 0 0 0 0 0 (⟨#[]⟩:Bs) none 0 0 0 0 0 0 0 0 (⟨#[]⟩:Bs) none 0 0 0 0 0 0 0 0 (⟨#[]⟩:Bs) none 0 0 0 0 0 0 0 0 (⟨#[]⟩:Bs) none 0 0 0 0)::(ka a (IntKind.wrap .u8 (1+(IntKind.wrap .u8 r))) 0 (⟨#[]⟩:Bs) s t u v w x f g h y 0 0 0 0 0 (⟨#[]⟩:Bs) none 0 0 0 0 0 0 0 0 (⟨#[]⟩:Bs) none 0 0 0 0 0 0 0 0 (⟨#[]⟩:Bs) none 0 0 0 m)::F22)∧Q (.panicked ba) I5 F22)))∨(∃bb:List PanicEntry,e2=.panicked bb∧∃F23:cR,List.Perm G2 ((ka b 0 0 (⟨#[]⟩:Bs) 0 0 0 0 0 (⟨#[]⟩:Bs) none 0 0 0 0 0 0 0 0 (⟨#[]⟩:Bs) none 0 0 0 0 0 0 0 0 (⟨#[]⟩:Bs) none 0 0 0 0 0 0 0 0 (⟨#[]⟩:Bs) none 0 0 0 0)::(ka a (IntKind.wrap .u8 (1+(IntKind.wrap .u8 r))) 0 (⟨#[]⟩:Bs) 0 0 0 0 0 (⟨#[]⟩:Bs) none 0 0 0 0 0 0 0 0 (⟨#[]⟩:Bs) none 0 0 0 0 0 0 0 0 (⟨#[]⟩:Bs) none 0 0 0 0 0 0 0 0 (⟨#[]⟩:Bs) none 0 0 0 m)::F23)∧Q (.panicked bb) I3 F23))) (It ((IntKind.wrap .u8 (1+(IntKind.wrap .u8 r)))==2) (cU P 67 (#[vp (some p)]) I2 ((ka b 0 0 (⟨#[]⟩:Bs) 0 0 0 0 0 (⟨#[]⟩:Bs) none 0 0 0 0 0 0 0 0 (⟨#[]⟩:Bs) none 0 0 0 0 0 0 0 0 (⟨#[]⟩:Bs) none 0 0 0 0 0 0 0 0 (⟨#[]⟩:Bs) none 0 0 0 0)::(ka a (IntKind.wrap .u8 (1+(IntKind.wrap .u8 r))) 0 (⟨#[]⟩:Bs) 0 0 0 0 0 (⟨#[]⟩:Bs) none 0 0 0 0 0 0 0 0 (⟨#[]⟩:Bs) none 0 0 0 0 0 0 0 0 (⟨#[]⟩:Bs) none 0 0 0 0 0 0 0 0 (⟨#[]⟩:Bs) none 0 0 0 m)::F1) fun bf I19 G14=>((∃(r8:Bs),bf=.returned (vs r8)∧∃F24:cR,List.Perm G14 ((ka b 0 0 (⟨#[]⟩:Bs) 0 0 0 0 0 (⟨#[]⟩:Bs) none 0 0 0 0 0 0 0 0 (⟨#[]⟩:Bs) none 0 0 0 0 0 0 0 0 (⟨#[]⟩:Bs) none 0 0 0 0 0 0 0 0 (⟨#[]⟩:Bs) none 0 0 0 0)::(ka a (IntKind.wrap .u8 (1+(IntKind.wrap .u8 r))) 0 (⟨#[]⟩:Bs) 0 0 0 0 0 (⟨#[]⟩:Bs) none 0 0 0 0 0 0 0 0 (⟨#[]⟩:Bs) none 0 0 0 0 0 0 0 0 (⟨#[]⟩:Bs) none 0 0 0 0 0 0 0 0 (⟨#[]⟩:Bs) none 0 0 0 m)::F24)∧∀(b6:Nat) (I20:cS),cS.le I19 I20→I20 b6=some (Obj.cells #[vs (⟨#[116,111]⟩:Bs)] 9 (0,0))→cU P 66 (#[vp (some p),vl (some ⟨b6,0,none⟩) 1 1]) I20 ((ka b 0 0 (⟨#[]⟩:Bs) 0 0 0 0 0 (⟨#[]⟩:Bs) none 0 0 0 0 0 0 0 0 (⟨#[]⟩:Bs) none 0 0 0 0 0 0 0 0 (⟨#[]⟩:Bs) none 0 0 0 0 0 0 0 0 (⟨#[]⟩:Bs) none 0 0 0 0)::(ka a (IntKind.wrap .u8 (1+(IntKind.wrap .u8 r))) 0 r8 0 0 0 0 0 (⟨#[]⟩:Bs) none 0 0 0 0 0 0 0 0 (⟨#[]⟩:Bs) none 0 0 0 0 0 0 0 0 (⟨#[]⟩:Bs) none 0 0 0 0 0 0 0 0 (⟨#[]⟩:Bs) none 0 0 0 m)::F24) fun bg I21 G15=>((∃(r9:Int),bg=.returned (vi r9)∧∃F25:cR,List.Perm G15 ((ka b 0 0 (⟨#[]⟩:Bs) 0 0 0 0 0 (⟨#[]⟩:Bs) none 0 0 0 0 0 0 0 0 (⟨#[]⟩:Bs) none 0 0 0 0 0 0 0 0 (⟨#[]⟩:Bs) none 0 0 0 0 0 0 0 0 (⟨#[]⟩:Bs) none 0 0 0 0)::(ka a (IntKind.wrap .u8 (1+(IntKind.wrap .u8 r))) 0 r8 0 0 0 0 0 (⟨#[]⟩:Bs) none 0 0 0 0 0 0 0 0 (⟨#[]⟩:Bs) none 0 0 0 0 0 0 0 0 (⟨#[]⟩:Bs) none 0 0 0 0 0 0 0 0 (⟨#[]⟩:Bs) none 0 0 0 m)::F25)∧cU P 47 (#[vp (some p),vi 0]) I21 ((ka b 0 0 (⟨#[]⟩:Bs) 0 0 0 0 0 (⟨#[]⟩:Bs) none 0 0 0 0 0 0 0 0 (⟨#[]⟩:Bs) none 0 0 0 0 0 0 0 0 (⟨#[]⟩:Bs) none 0 0 0 0 0 0 0 0 (⟨#[]⟩:Bs) none 0 0 0 0)::(ka a (IntKind.wrap .u8 (1+(IntKind.wrap .u8 r))) 0 r8 0 0 0 0 0 (⟨#[]⟩:Bs) none 0 0 0 0 0 0 0 0 (⟨#[]⟩:Bs) none 0 0 0 0 0 0 0 0 (⟨#[]⟩:Bs) none 0 0 0 0 0 0 0 0 (⟨#[]⟩:Bs) none 0 0 0 m)::F25) fun bh I22 G16=>((∃(an ao ap aq ar:Int) (au:Bs) (ak:OA) (al am:Nat) (av:Int),bh=.returned (nV an ao ap aq ar au ak al am av)∧∃F26:cR,List.Perm G16 ((ka b 0 0 (⟨#[]⟩:Bs) 0 0 0 0 0 (⟨#[]⟩:Bs) none 0 0 0 0 0 0 0 0 (⟨#[]⟩:Bs) none 0 0 0 0 0 0 0 0 (⟨#[]⟩:Bs) none 0 0 0 0 0 0 0 0 (⟨#[]⟩:Bs) none 0 0 0 0)::(ka a (IntKind.wrap .u8 (1+(IntKind.wrap .u8 r))) 0 r8 0 0 0 0 0 (⟨#[]⟩:Bs) none 0 0 0 0 0 0 0 0 (⟨#[]⟩:Bs) none 0 0 0 0 0 0 0 0 (⟨#[]⟩:Bs) none 0 0 0 0 0 0 0 0 (⟨#[]⟩:Bs) none 0 0 0 m)::F26)∧∀(b7:Nat) (I23:cS),cS.le I22 I23→I23 b7=some (Obj.cells #[vs (⟨#[97,116]⟩:Bs)] 9 (0,0))→cU P 66 (#[vp (some p),vl (some ⟨b7,0,none⟩) 1 1]) I23 ((ka b 0 0 (⟨#[]⟩:Bs) 0 0 0 0 0 (⟨#[]⟩:Bs) none 0 0 0 0 0 0 0 0 (⟨#[]⟩:Bs) none 0 0 0 0 0 0 0 0 (⟨#[]⟩:Bs) none 0 0 0 0 0 0 0 0 (⟨#[]⟩:Bs) none 0 0 0 0)::(ka a (IntKind.wrap .u8 (1+(IntKind.wrap .u8 r))) 0 r8 0 0 0 0 0 (⟨#[]⟩:Bs) none 0 0 0 an ao ap aq ar au ak al am av 0 0 0 0 0 (⟨#[]⟩:Bs) none 0 0 0 0 0 0 0 0 (⟨#[]⟩:Bs) none 0 0 0 m)::F26) fun bi I24 G17=>((∃(bo:Int),bi=.returned (vi bo)∧∃F27:cR,List.Perm G17 ((ka b 0 0 (⟨#[]⟩:Bs) 0 0 0 0 0 (⟨#[]⟩:Bs) none 0 0 0 0 0 0 0 0 (⟨#[]⟩:Bs) none 0 0 0 0 0 0 0 0 (⟨#[]⟩:Bs) none 0 0 0 0 0 0 0 0 (⟨#[]⟩:Bs) none 0 0 0 0)::(ka a (IntKind.wrap .u8 (1+(IntKind.wrap .u8 r))) 0 r8 0 0 0 0 0 (⟨#[]⟩:Bs) none 0 0 0 an ao ap aq ar au ak al am av 0 0 0 0 0 (⟨#[]⟩:Bs) none 0 0 0 0 0 0 0 0 (⟨#[]⟩:Bs) none 0 0 0 m)::F27)∧cU P 47 (#[vp (some p),vi 0]) I24 ((ka b 0 0 (⟨#[]⟩:Bs) 0 0 0 0 0 (⟨#[]⟩:Bs) none 0 0 0 0 0 0 0 0 (⟨#[]⟩:Bs) none 0 0 0 0 0 0 0 0 (⟨#[]⟩:Bs) none 0 0 0 0 0 0 0 0 (⟨#[]⟩:Bs) none 0 0 0 0)::(ka a (IntKind.wrap .u8 (1+(IntKind.wrap .u8 r))) 0 r8 0 0 0 0 0 (⟨#[]⟩:Bs) none 0 0 0 an ao ap aq ar au ak al am av 0 0 0 0 0 (⟨#[]⟩:Bs) none 0 0 0 0 0 0 0 0 (⟨#[]⟩:Bs) none 0 0 0 m)::F27) fun bj I25 G18=>((∃(aD aE aF aG aH:Int) (aI:Bs) (ax:OA) (ay az:Nat) (aJ:Int),bj=.returned (nV aD aE aF aG aH aI ax ay az aJ)∧∃F28:cR,List.Perm G18 ((ka b 0 0 (⟨#[]⟩:Bs) 0 0 0 0 0 (⟨#[]⟩:Bs) none 0 0 0 0 0 0 0 0 (⟨#[]⟩:Bs) none 0 0 0 0 0 0 0 0 (⟨#[]⟩:Bs) none 0 0 0 0 0 0 0 0 (⟨#[]⟩:Bs) none 0 0 0 0)::(ka a (IntKind.wrap .u8 (1+(IntKind.wrap .u8 r))) 0 r8 0 0 0 0 0 (⟨#[]⟩:Bs) none 0 0 0 an ao ap aq ar au ak al am av 0 0 0 0 0 (⟨#[]⟩:Bs) none 0 0 0 0 0 0 0 0 (⟨#[]⟩:Bs) none 0 0 0 m)::F28)∧Q (.returned ((kb (IntKind.wrap .u8 (1+(IntKind.wrap .u8 r))) 0 r8 0 0 0 0 0 (⟨#[]⟩:Bs) none 0 0 0 an ao ap aq ar au ak al am av aD aE aF aG aH aI ax ay az aJ 0 0 0 0 0 (⟨#[]⟩:Bs) none 0 0 0 m))) I25 F28)∨(∃aR:List PanicEntry,bj=.panicked aR∧∃F29:cR,List.Perm G18 ((ka b 0 0 (⟨#[]⟩:Bs) 0 0 0 0 0 (⟨#[]⟩:Bs) none 0 0 0 0 0 0 0 0 (⟨#[]⟩:Bs) none 0 0 0 0 0 0 0 0 (⟨#[]⟩:Bs) none 0 0 0 0 0 0 0 0 (⟨#[]⟩:Bs) none 0 0 0 0)::(ka a (IntKind.wrap .u8 (1+(IntKind.wrap .u8 r))) 0 r8 0 0 0 0 0 (⟨#[]⟩:Bs) none 0 0 0 an ao ap aq ar au ak al am av 0 0 0 0 0 (⟨#[]⟩:Bs) none 0 0 0 0 0 0 0 0 (⟨#[]⟩:Bs) none 0 0 0 m)::F29)∧Q (.panicked aR) I25 F29)))∨(∃aS:List PanicEntry,bi=.panicked aS∧∃F30:cR,List.Perm G17 ((ka b 0 0 (⟨#[]⟩:Bs) 0 0 0 0 0 (⟨#[]⟩:Bs) none 0 0 0 0 0 0 0 0 (⟨#[]⟩:Bs) none 0 0 0 0 0 0 0 0 (⟨#[]⟩:Bs) none 0 0 0 0 0 0 0 0 (⟨#[]⟩:Bs) none 0 0 0 0)::(ka a (IntKind.wrap .u8 (1+(IntKind.wrap .u8 r))) 0 r8 0 0 0 0 0 (⟨#[]⟩:Bs) none 0 0 0 an ao ap aq ar au ak al am av 0 0 0 0 0 (⟨#[]⟩:Bs) none 0 0 0 0 0 0 0 0 (⟨#[]⟩:Bs) none 0 0 0 m)::F30)∧Q (.panicked aS) I24 F30)))∨(∃aT:List PanicEntry,bh=.panicked aT∧∃F31:cR,List.Perm G16 ((ka b 0 0 (⟨#[]⟩:Bs) 0 0 0 0 0 (⟨#[]⟩:Bs) none 0 0 0 0 0 0 0 0 (⟨#[]⟩:Bs) none 0 0 0 0 0 0 0 0 (⟨#[]⟩:Bs) none 0 0 0 0 0 0 0 0 (⟨#[]⟩:Bs) none 0 0 0 0)::(ka a (IntKind.wrap .u8 (1+(IntKind.wrap .u8 r))) 0 r8 0 0 0 0 0 (⟨#[]⟩:Bs) none 0 0 0 0 0 0 0 0 (⟨#[]⟩:Bs) none 0 0 0 0 0 0 0 0 (⟨#[]⟩:Bs) none 0 0 0 0 0 0 0 0 (⟨#[]⟩:Bs) none 0 0 0 m)::F31)∧Q (.panicked aT) I22 F31)))∨(∃aU:List PanicEntry,bg=.panicked aU∧∃F32:cR,List.Perm G15 ((ka b 0 0 (⟨#[]⟩:Bs) 0 0 0 0 0 (⟨#[]⟩:Bs) none 0 0 0 0 0 0 0 0 (⟨#[]⟩:Bs) none 0 0 0 0 0 0 0 0 (⟨#[]⟩:Bs) none 0 0 0 0 0 0 0 0 (⟨#[]⟩:Bs) none 0 0 0 0)::(ka a (IntKind.wrap .u8 (1+(IntKind.wrap .u8 r))) 0 r8 0 0 0 0 0 (⟨#[]⟩:Bs) none 0 0 0 0 0 0 0 0 (⟨#[]⟩:Bs) none 0 0 0 0 0 0 0 0 (⟨#[]⟩:Bs) none 0 0 0 0 0 0 0 0 (⟨#[]⟩:Bs) none 0 0 0 m)::F32)∧Q (.panicked aU) I21 F32)))∨(∃aV:List PanicEntry,bf=.panicked aV∧∃F33:cR,List.Perm G14 ((ka b 0 0 (⟨#[]⟩:Bs) 0 0 0 0 0 (⟨#[]⟩:Bs) none 0 0 0 0 0 0 0 0 (⟨#[]⟩:Bs) none 0 0 0 0 0 0 0 0 (⟨#[]⟩:Bs) none 0 0 0 0 0 0 0 0 (⟨#[]⟩:Bs) none 0 0 0 0)::(ka a (IntKind.wrap .u8 (1+(IntKind.wrap .u8 r))) 0 (⟨#[]⟩:Bs) 0 0 0 0 0 (⟨#[]⟩:Bs) none 0 0 0 0 0 0 0 0 (⟨#[]⟩:Bs) none 0 0 0 0 0 0 0 0 (⟨#[]⟩:Bs) none 0 0 0 0 0 0 0 0 (⟨#[]⟩:Bs) none 0 0 0 m)::F33)∧Q (.panicked aV) I19 F33))) (It ((IntKind.wrap .u8 (1+(IntKind.wrap .u8 r)))==4) (cU P 67 (#[vp (some p)]) I2 ((ka b 0 0 (⟨#[]⟩:Bs) 0 0 0 0 0 (⟨#[]⟩:Bs) none 0 0 0 0 0 0 0 0 (⟨#[]⟩:Bs) none 0 0 0 0 0 0 0 0 (⟨#[]⟩:Bs) none 0 0 0 0 0 0 0 0 (⟨#[]⟩:Bs) none 0 0 0 0)::(ka a (IntKind.wrap .u8 (1+(IntKind.wrap .u8 r))) 0 (⟨#[]⟩:Bs) 0 0 0 0 0 (⟨#[]⟩:Bs) none 0 0 0 0 0 0 0 0 (⟨#[]⟩:Bs) none 0 0 0 0 0 0 0 0 (⟨#[]⟩:Bs) none 0 0 0 0 0 0 0 0 (⟨#[]⟩:Bs) none 0 0 0 m)::F1) fun bk I26 G19=>((∃(aw:Bs),bk=.returned (vs aw)∧∃F34:cR,List.Perm G19 ((ka b 0 0 (⟨#[]⟩:Bs) 0 0 0 0 0 (⟨#[]⟩:Bs) none 0 0 0 0 0 0 0 0 (⟨#[]⟩:Bs) none 0 0 0 0 0 0 0 0 (⟨#[]⟩:Bs) none 0 0 0 0 0 0 0 0 (⟨#[]⟩:Bs) none 0 0 0 0)::(ka a (IntKind.wrap .u8 (1+(IntKind.wrap .u8 r))) 0 (⟨#[]⟩:Bs) 0 0 0 0 0 (⟨#[]⟩:Bs) none 0 0 0 0 0 0 0 0 (⟨#[]⟩:Bs) none 0 0 0 0 0 0 0 0 (⟨#[]⟩:Bs) none 0 0 0 0 0 0 0 0 (⟨#[]⟩:Bs) none 0 0 0 m)::F34)∧∀(b8:Nat) (I27:cS),cS.le I26 I27→I27 b8=some (Obj.cells #[vs (⟨#[61]⟩:Bs)] 9 (0,0))→cU P 66 (#[vp (some p),vl (some ⟨b8,0,none⟩) 1 1]) I27 ((ka b 0 0 (⟨#[]⟩:Bs) 0 0 0 0 0 (⟨#[]⟩:Bs) none 0 0 0 0 0 0 0 0 (⟨#[]⟩:Bs) none 0 0 0 0 0 0 0 0 (⟨#[]⟩:Bs) none 0 0 0 0 0 0 0 0 (⟨#[]⟩:Bs) none 0 0 0 0)::(ka a (IntKind.wrap .u8 (1+(IntKind.wrap .u8 r))) 0 aw 0 0 0 0 0 (⟨#[]⟩:Bs) none 0 0 0 0 0 0 0 0 (⟨#[]⟩:Bs) none 0 0 0 0 0 0 0 0 (⟨#[]⟩:Bs) none 0 0 0 0 0 0 0 0 (⟨#[]⟩:Bs) none 0 0 0 m)::F34) fun bl I28 G20=>((∃(bp:Int),bl=.returned (vi bp)∧∃F35:cR,List.Perm G20 ((ka b 0 0 (⟨#[]⟩:Bs) 0 0 0 0 0 (⟨#[]⟩:Bs) none 0 0 0 0 0 0 0 0 (⟨#[]⟩:Bs) none 0 0 0 0 0 0 0 0 (⟨#[]⟩:Bs) none 0 0 0 0 0 0 0 0 (⟨#[]⟩:Bs) none 0 0 0 0)::(ka a (IntKind.wrap .u8 (1+(IntKind.wrap .u8 r))) 0 aw 0 0 0 0 0 (⟨#[]⟩:Bs) none 0 0 0 0 0 0 0 0 (⟨#[]⟩:Bs) none 0 0 0 0 0 0 0 0 (⟨#[]⟩:Bs) none 0 0 0 0 0 0 0 0 (⟨#[]⟩:Bs) none 0 0 0 m)::F35)∧cU P 47 (#[vp (some p),vi 0]) I28 ((ka b 0 0 (⟨#[]⟩:Bs) 0 0 0 0 0 (⟨#[]⟩:Bs) none 0 0 0 0 0 0 0 0 (⟨#[]⟩:Bs) none 0 0 0 0 0 0 0 0 (⟨#[]⟩:Bs) none 0 0 0 0 0 0 0 0 (⟨#[]⟩:Bs) none 0 0 0 0)::(ka a (IntKind.wrap .u8 (1+(IntKind.wrap .u8 r))) 0 aw 0 0 0 0 0 (⟨#[]⟩:Bs) none 0 0 0 0 0 0 0 0 (⟨#[]⟩:Bs) none 0 0 0 0 0 0 0 0 (⟨#[]⟩:Bs) none 0 0 0 0 0 0 0 0 (⟨#[]⟩:Bs) none 0 0 0 m)::F35) fun bm I29 G21=>((∃(aK aL aM aN aO:Int) (aP:Bs) (aA:OA) (aB aC:Nat) (aQ:Int),bm=.returned (nV aK aL aM aN aO aP aA aB aC aQ)∧∃F36:cR,List.Perm G21 ((ka b 0 0 (⟨#[]⟩:Bs) 0 0 0 0 0 (⟨#[]⟩:Bs) none 0 0 0 0 0 0 0 0 (⟨#[]⟩:Bs) none 0 0 0 0 0 0 0 0 (⟨#[]⟩:Bs) none 0 0 0 0 0 0 0 0 (⟨#[]⟩:Bs) none 0 0 0 0)::(ka a (IntKind.wrap .u8 (1+(IntKind.wrap .u8 r))) 0 aw 0 0 0 0 0 (⟨#[]⟩:Bs) none 0 0 0 0 0 0 0 0 (⟨#[]⟩:Bs) none 0 0 0 0 0 0 0 0 (⟨#[]⟩:Bs) none 0 0 0 0 0 0 0 0 (⟨#[]⟩:Bs) none 0 0 0 m)::F36)∧Q (.returned ((kb (IntKind.wrap .u8 (1+(IntKind.wrap .u8 r))) 0 aw 0 0 0 0 0 (⟨#[]⟩:Bs) none 0 0 0 0 0 0 0 0 (⟨#[]⟩:Bs) none 0 0 0 0 0 0 0 0 (⟨#[]⟩:Bs) none 0 0 0 aK aL aM aN aO aP aA aB aC aQ m))) I29 F36)∨(∃aW:List PanicEntry,bm=.panicked aW∧∃F37:cR,List.Perm G21 ((ka b 0 0 (⟨#[]⟩:Bs) 0 0 0 0 0 (⟨#[]⟩:Bs) none 0 0 0 0 0 0 0 0 (⟨#[]⟩:Bs) none 0 0 0 0 0 0 0 0 (⟨#[]⟩:Bs) none 0 0 0 0 0 0 0 0 (⟨#[]⟩:Bs) none 0 0 0 0)::(ka a (IntKind.wrap .u8 (1+(IntKind.wrap .u8 r))) 0 aw 0 0 0 0 0 (⟨#[]⟩:Bs) none 0 0 0 0 0 0 0 0 (⟨#[]⟩:Bs) none 0 0 0 0 0 0 0 0 (⟨#[]⟩:Bs) none 0 0 0 0 0 0 0 0 (⟨#[]⟩:Bs) none 0 0 0 m)::F37)∧Q (.panicked aW) I29 F37)))∨(∃aX:List PanicEntry,bl=.panicked aX∧∃F38:cR,List.Perm G20 ((ka b 0 0 (⟨#[]⟩:Bs) 0 0 0 0 0 (⟨#[]⟩:Bs) none 0 0 0 0 0 0 0 0 (⟨#[]⟩:Bs) none 0 0 0 0 0 0 0 0 (⟨#[]⟩:Bs) none 0 0 0 0 0 0 0 0 (⟨#[]⟩:Bs) none 0 0 0 0)::(ka a (IntKind.wrap .u8 (1+(IntKind.wrap .u8 r))) 0 aw 0 0 0 0 0 (⟨#[]⟩:Bs) none 0 0 0 0 0 0 0 0 (⟨#[]⟩:Bs) none 0 0 0 0 0 0 0 0 (⟨#[]⟩:Bs) none 0 0 0 0 0 0 0 0 (⟨#[]⟩:Bs) none 0 0 0 m)::F38)∧Q (.panicked aX) I28 F38)))∨(∃aY:List PanicEntry,bk=.panicked aY∧∃F39:cR,List.Perm G19 ((ka b 0 0 (⟨#[]⟩:Bs) 0 0 0 0 0 (⟨#[]⟩:Bs) none 0 0 0 0 0 0 0 0 (⟨#[]⟩:Bs) none 0 0 0 0 0 0 0 0 (⟨#[]⟩:Bs) none 0 0 0 0 0 0 0 0 (⟨#[]⟩:Bs) none 0 0 0 0)::(ka a (IntKind.wrap .u8 (1+(IntKind.wrap .u8 r))) 0 (⟨#[]⟩:Bs) 0 0 0 0 0 (⟨#[]⟩:Bs) none 0 0 0 0 0 0 0 0 (⟨#[]⟩:Bs) none 0 0 0 0 0 0 0 0 (⟨#[]⟩:Bs) none 0 0 0 0 0 0 0 0 (⟨#[]⟩:Bs) none 0 0 0 m)::F39)∧Q (.panicked aY) I26 F39))) (It ((IntKind.wrap .u8 (1+(IntKind.wrap .u8 r)))==6) (Q (.returned ((kb (IntKind.wrap .u8 (1+(IntKind.wrap .u8 r))) 0 (⟨#[]⟩:Bs) 0 0 0 0 0 (⟨#[]⟩:Bs) none 0 0 0 0 0 0 0 0 (⟨#[]⟩:Bs) none 0 0 0 0 0 0 0 0 (⟨#[]⟩:Bs) none 0 0 0 0 0 0 0 0 (⟨#[]⟩:Bs) none 0 0 0 m))) I2 F1) (cU P 67 (#[vp (some p)]) I2 ((ka b 0 0 (⟨#[]⟩:Bs) 0 0 0 0 0 (⟨#[]⟩:Bs) none 0 0 0 0 0 0 0 0 (⟨#[]⟩:Bs) none 0 0 0 0 0 0 0 0 (⟨#[]⟩:Bs) none 0 0 0 0 0 0 0 0 (⟨#[]⟩:Bs) none 0 0 0 0)::(ka a (IntKind.wrap .u8 (1+(IntKind.wrap .u8 r))) 0 (⟨#[]⟩:Bs) 0 0 0 0 0 (⟨#[]⟩:Bs) none 0 0 0 0 0 0 0 0 (⟨#[]⟩:Bs) none 0 0 0 0 0 0 0 0 (⟨#[]⟩:Bs) none 0 0 0 0 0 0 0 0 (⟨#[]⟩:Bs) none 0 0 0 m)::F1) fun bn I30 G22=>((∃(a1:Bs),bn=.returned (vs a1)∧∃F40:cR,List.Perm G22 ((ka b 0 0 (⟨#[]⟩:Bs) 0 0 0 0 0 (⟨#[]⟩:Bs) none 0 0 0 0 0 0 0 0 (⟨#[]⟩:Bs) none 0 0 0 0 0 0 0 0 (⟨#[]⟩:Bs) none 0 0 0 0 0 0 0 0 (⟨#[]⟩:Bs) none 0 0 0 0)::(ka a (IntKind.wrap .u8 (1+(IntKind.wrap .u8 r))) 0 (⟨#[]⟩:Bs) 0 0 0 0 0 (⟨#[]⟩:Bs) none 0 0 0 0 0 0 0 0 (⟨#[]⟩:Bs) none 0 0 0 0 0 0 0 0 (⟨#[]⟩:Bs) none 0 0 0 0 0 0 0 0 (⟨#[]⟩:Bs) none 0 0 0 m)::F40)∧Q (.returned ((kb (IntKind.wrap .u8 (1+(IntKind.wrap .u8 r))) 0 a1 0 0 0 0 0 (⟨#[]⟩:Bs) none 0 0 0 0 0 0 0 0 (⟨#[]⟩:Bs) none 0 0 0 0 0 0 0 0 (⟨#[]⟩:Bs) none 0 0 0 0 0 0 0 0 (⟨#[]⟩:Bs) none 0 0 0 m))) I30 F40)∨(∃aZ:List PanicEntry,bn=.panicked aZ∧∃F41:cR,List.Perm G22 ((ka b 0 0 (⟨#[]⟩:Bs) 0 0 0 0 0 (⟨#[]⟩:Bs) none 0 0 0 0 0 0 0 0 (⟨#[]⟩:Bs) none 0 0 0 0 0 0 0 0 (⟨#[]⟩:Bs) none 0 0 0 0 0 0 0 0 (⟨#[]⟩:Bs) none 0 0 0 0)::(ka a (IntKind.wrap .u8 (1+(IntKind.wrap .u8 r))) 0 (⟨#[]⟩:Bs) 0 0 0 0 0 (⟨#[]⟩:Bs) none 0 0 0 0 0 0 0 0 (⟨#[]⟩:Bs) none 0 0 0 0 0 0 0 0 (⟨#[]⟩:Bs) none 0 0 0 0 0 0 0 0 (⟨#[]⟩:Bs) none 0 0 0 m)::F41)∧Q (.panicked aZ) I30 F41))))))))∨(∃a0:List PanicEntry,e1=.panicked a0∧∃F42:cR,List.Perm G1 ((ka b 0 0 (⟨#[]⟩:Bs) 0 0 0 0 0 (⟨#[]⟩:Bs) none 0 0 0 0 0 0 0 0 (⟨#[]⟩:Bs) none 0 0 0 0 0 0 0 0 (⟨#[]⟩:Bs) none 0 0 0 0 0 0 0 0 (⟨#[]⟩:Bs) none 0 0 0 0)::(ka a 0 0 (⟨#[]⟩:Bs) 0 0 0 0 0 (⟨#[]⟩:Bs) none 0 0 0 0 0 0 0 0 (⟨#[]⟩:Bs) none 0 0 0 0 0 0 0 0 (⟨#[]⟩:Bs) none 0 0 0 0 0 0 0 0 (⟨#[]⟩:Bs) none 0 0 0 m)::F42)∧Q (.panicked a0) I2 F42))
theorem ja.vc{p:Addr}{I:cS}{F:cR}{Q:cT}  (h:ja.V (fun W a b c d e f g h i j k l m n o p q r s t u v w x y z aa ab ac ad ae af ag ah ai aj ak al am an ao ap aq ar=>(W,Obj.cells #[.int .u8 a,.int .u8 b,.string c,.int .u8 d,.int .u8 e,.int .u8 f,.int .i64 g,.int .u8 h,.string i,.slice j k l,.int .i64 m,.int .u8 n,.int .u8 o,.int .u8 p,.int .i64 q,.int .u8 r,.string s,.slice t u v,.int .i64 w,.int .u8 x,.int .u8 y,.int .u8 z,.int .i64 aa,.int .u8 ab,.string ac,.slice ad ae af,.int .i64 ag,.int .u8 ah,.int .u8 ai,.int .u8 aj,.int .i64 ak,.int .u8 al,.string am,.slice an ao ap,.int .i64 aq,.int .i64 ar] 114 (0,0))) (fun a b c d e f g h i j k l m n o p q r s t u v w x y z aa ab ac ad ae af ag ah ai aj ak al am an ao ap aq ar=>.agg #[.int .u8 a,.int .u8 b,.string c,.int .u8 d,.int .u8 e,.int .u8 f,.int .i64 g,.int .u8 h,.string i,.slice j k l,.int .i64 m,.int .u8 n,.int .u8 o,.int .u8 p,.int .i64 q,.int .u8 r,.string s,.slice t u v,.int .i64 w,.int .u8 x,.int .u8 y,.int .u8 z,.int .i64 aa,.int .u8 ab,.string ac,.slice ad ae af,.int .i64 ag,.int .u8 ah,.int .u8 ai,.int .u8 aj,.int .i64 ak,.int .u8 al,.string am,.slice an ao ap,.int .i64 aq,.int .i64 ar]) (fun k o t n f s a l c q=>.agg #[.int .u8 k,.int .u8 o,.int .u8 t,.int .i64 n,.int .u8 f,.string s,.slice a l c,.int .i64 q]) (.int .u8) (.int .i64) .string .slice .pointer p I F Q):cU P 126 #[.pointer (some p)] I F Q :=
 tw (A:=(dy [5000,10003,13001,16000,22000,26000] [47,64,66,67] [47,64,66,67,91] mc [] [2001,7001,10001,12000,12002,18001,20001,24001] [] [] [] [] [])) [47,64,66,67,91] func126 h
def hZ.V(ka:Nat→Int→Int→Int→Int→Int→Bs→OA→Nat→Nat→Int→OA→Nat→Nat→Int→Nat×Obj)(vb vi:Int→Value)(vs:Bs→Value)(vl:OA→Nat→Nat→Value)(vp:OA→Value)(p:Addr)(I:cS)(F:cR)(Q:cT)(Inv14:Int→Int→Int→Int→Int→Bs→OA→Nat→Nat→Int→OA→Nat→Nat→Int→Nat→cS→cR→Prop):Prop:=∀b:Nat,∃ad:Addr,some p=some ad∧∃(m:Int),Rd I ((ka b 0 0 0 0 0 (⟨#[]⟩:Bs) none 0 0 0 none 0 0 0)::F) ((ad.add 1).add 4) [vi m]∧∀s:Nat,cU P 64 (#[vp (some p)]) I ((ka b 0 0 0 0 0 (⟨#[]⟩:Bs) none 0 0 0 none 0 0 0)::(ka s 0 0 0 0 0 (⟨#[]⟩:Bs) none 0 0 0 none 0 0 m)::F) fun e1 I1 G1=>((e1=.returned (.tuple #[])∧∃F1:cR,List.Perm G1 ((ka b 0 0 0 0 0 (⟨#[]⟩:Bs) none 0 0 0 none 0 0 0)::(ka s 0 0 0 0 0 (⟨#[]⟩:Bs) none 0 0 0 none 0 0 m)::F1)∧cU P 47 (#[vp (some p),vi 0]) I1 ((ka b 0 0 0 0 0 (⟨#[]⟩:Bs) none 0 0 0 none 0 0 0)::(ka s 0 0 0 0 0 (⟨#[]⟩:Bs) none 0 0 0 none 0 0 m)::F1) fun e2 I2 G2=>((∃(x y z aa ab:Int) (ac:Bs) (t:OA) (u w:Nat) (ae:Int),e2=.returned (.agg #[vb x,vb y,vb z,vi aa,vb ab,vs ac,vl t u w,vi ae])∧∃F2:cR,List.Perm G2 ((ka b 0 0 0 0 0 (⟨#[]⟩:Bs) none 0 0 0 none 0 0 0)::(ka s 0 0 0 0 0 (⟨#[]⟩:Bs) none 0 0 0 none 0 0 m)::F2)∧∀(b1:Nat) (I3:cS),cS.le I2 I3→I3 b1=some (Obj.cells #[vs (⟨#[100,111]⟩:Bs)] 9 (0,0))→cU P 66 (#[vp (some p),vl (some ⟨b1,0,none⟩) 1 1]) I3 ((ka b 0 0 0 0 0 (⟨#[]⟩:Bs) none 0 0 0 none 0 0 0)::(ka s x y z aa ab ac t u w ae none 0 0 m)::F2) fun e3 I4 G3=>((∃(r:Int),e3=.returned (vi r)∧∃F3:cR,List.Perm G3 ((ka b 0 0 0 0 0 (⟨#[]⟩:Bs) none 0 0 0 none 0 0 0)::(ka s x y z aa ab ac t u w ae none 0 0 m)::F3)∧cU P 126 (#[vp (some p)]) I4 ((ka b 0 0 0 0 0 (⟨#[]⟩:Bs) none 0 0 0 none 0 0 0)::(ka s x y z aa ab ac t u w ae none 0 0 m)::F3) fun e4 I5 G4=>((∃(bH bI:Int) (bJ:Bs) (bK bL bM cB bN:Int) (cC:Bs) (aO:OA) (aP aQ:Nat) (bO aR bP bQ bR bS:Int) (bT:Bs) (az:OA) (aA aB:Nat) (bU bV bW aS bX bY:Int) (bZ:Bs) (aC:OA) (aD aE:Nat) (b0 b6 b7 b8 b9 aT:Int) (ca:Bs) (aF:OA) (aG aH:Nat) (cb cc:Int),e4=.returned (.agg #[vb bH,vb bI,vs bJ,vb bK,vb bL,vb bM,vi cB,vb bN,vs cC,vl aO aP aQ,vi bO,vb aR,vb bP,vb bQ,vi bR,vb bS,vs bT,vl az aA aB,vi bU,vb bV,vb bW,vb aS,vi bX,vb bY,vs bZ,vl aC aD aE,vi b0,vb b6,vb b7,vb b8,vi b9,vb aT,vs ca,vl aF aG aH,vi cb,vi cc])∧∃F4:cR,List.Perm G4 ((ka b 0 0 0 0 0 (⟨#[]⟩:Bs) none 0 0 0 none 0 0 0)::(ka s x y z aa ab ac t u w ae none 0 0 m)::F4)∧∀(b2:Nat) (I6:cS),cS.le I5 I6→I6 b2=some (Obj.cells #[vb bH,vb bI,vs bJ,vb bK,vb bL,vb bM,vi cB,vb bN,vs cC,vl aO aP aQ,vi bO,vb aR,vb bP,vb bQ,vi bR,vb bS,vs bT,vl az aA aB,vi bU,vb bV,vb bW,vb aS,vi bX,vb bY,vs bZ,vl aC aD aE,vi b0,vb b6,vb b7,vb b8,vi b9,vb aT,vs ca,vl aF aG aH,vi cb,vi cc] 114 (0,0))→dk P (Builtin.append_ #[108,108] 108 #[vl none 0 0,vl (some ⟨b2,0,none⟩) 1 1]) I6 ((ka b 0 0 0 0 0 (⟨#[]⟩:Bs) none 0 0 0 none 0 0 0)::(ka s x y z aa ab ac t u w ae none 0 0 m)::F4) fun v I7 G5=>∃(cD:OA) (cE cF:Nat),v=vl cD cE cF∧∃F5:cR,List.Perm G5 ((ka b 0 0 0 0 0 (⟨#[]⟩:Bs) none 0 0 0 none 0 0 0)::(ka s x y z aa ab ac t u w ae none 0 0 m)::F5)∧(∃m1:Nat,Inv14 x y z aa ab ac t u w ae cD cE cF m m1 I7 F5)∧∀(h i j k l:Int) (n:Bs) (c:OA) (d e:Nat) (o:Int) (f:OA) (a g:Nat) (q:Int) (m2:Nat) (I8:cS) (F6:cR),cS.le I7 I8→Inv14 h i j k l n c d e o f a g q m2 I8 F6→dt P 91 (#[vp (some p),vs (⟨#[44]⟩:Bs)]) I8 ((ka b 0 0 0 0 0 (⟨#[]⟩:Bs) none 0 0 0 none 0 0 0)::(ka s h i j k l n c d e o f a g q)::·) F6 .bool fun r1 I9 F7=>(It r1 (It ((a:Int)==8) (cU P 65 (#[vp (some p),vi 131]) I9 ((ka b 0 0 0 0 0 (⟨#[]⟩:Bs) none 0 0 0 none 0 0 0)::(ka s h i j k l n c d e o f a g q)::F7) fun e6 I10 G7=>((e6=.returned (.tuple #[])∧∃F8:cR,List.Perm G7 ((ka b 0 0 0 0 0 (⟨#[]⟩:Bs) none 0 0 0 none 0 0 0)::(ka s h i j k l n c d e o f a g q)::F8)∧cU P 64 (#[vp (some p)]) I10 ((ka b 0 0 0 0 0 (⟨#[]⟩:Bs) none 0 0 0 none 0 0 0)::(ka s h i j k l n c d e o f a g q)::F8) fun e7 I11 G8=>((e7=.returned (.tuple #[])∧∃F9:cR,List.Perm G8 ((ka b 0 0 0 0 0 (⟨#[]⟩:Bs) none 0 0 0 none 0 0 0)::(ka s h i j k l n c d e o f a g q)::F9)∧cU P 126 (#[vp (some p)]) I11 ((ka b 0 0 0 0 0 (⟨#[]⟩:Bs) none 0 0 0 none 0 0 0)::(ka s h i j k l n c d e o f a g q)::F9) fun e8 I12 G9=>((∃(cd ce:Int) (cf:Bs) (cg ci cj ck cl:Int) (cm:Bs) (aI:OA) (aJ aK:Nat) (aU aV aW aX aY aZ:Int) (a0:Bs) (af:OA) (ag ah:Nat) (a1 a2 a3 a4 a5 a6:Int) (a7:Bs) (ai:OA) (aj ak:Nat) (a8 a9 ba bb bc bd:Int) (be:Bs) (al:OA) (am an:Nat) (bf bg:Int),e8=.returned (.agg #[vb cd,vb ce,vs cf,vb cg,vb ci,vb cj,vi ck,vb cl,vs cm,vl aI aJ aK,vi aU,vb aV,vb aW,vb aX,vi aY,vb aZ,vs a0,vl af ag ah,vi a1,vb a2,vb a3,vb a4,vi a5,vb a6,vs a7,vl ai aj ak,vi a8,vb a9,vb ba,vb bb,vi bc,vb bd,vs be,vl al am an,vi bf,vi bg])∧∃F10:cR,List.Perm G9 ((ka b 0 0 0 0 0 (⟨#[]⟩:Bs) none 0 0 0 none 0 0 0)::(ka s h i j k l n c d e o f a g q)::F10)∧∀(b3:Nat) (I13:cS),cS.le I12 I13→I13 b3=some (Obj.cells #[vb cd,vb ce,vs cf,vb cg,vb ci,vb cj,vi ck,vb cl,vs cm,vl aI aJ aK,vi aU,vb aV,vb aW,vb aX,vi aY,vb aZ,vs a0,vl af ag ah,vi a1,vb a2,vb a3,vb a4,vi a5,vb a6,vs a7,vl ai aj ak,vi a8,vb a9,vb ba,vb bb,vi bc,vb bd,vs be,vl al am an,vi bf,vi bg] 114 (0,0))→dk P (Builtin.append_ #[108,108] 108 #[vl f a g,vl (some ⟨b3,0,none⟩) 1 1]) I13 ((ka b 0 0 0 0 0 (⟨#[]⟩:Bs) none 0 0 0 none 0 0 0)::(ka s h i j k l n c d e o f a g q)::F10) fun v1 I14 G10=>∃(co:OA) (cp cq:Nat),v1=vl co cp cq∧∃F11:cR,List.Perm G10 ((ka b 0 0 0 0 0 (⟨#[]⟩:Bs) none 0 0 0 none 0 0 0)::(ka s h i j k l n c d e o f a g q)::F11)∧(∃m3:Nat,m3<m2∧Inv14 h i j k l n c d e o co cp cq q m3 I14 F11))∨(∃ch:List PanicEntry,e8=.panicked ch∧∃F12:cR,List.Perm G9 ((ka b 0 0 0 0 0 (⟨#[]⟩:Bs) none 0 0 0 none 0 0 0)::(ka s h i j k l n c d e o f a g q)::F12)∧Q (.panicked ch) I12 F12)))∨(∃cG:List PanicEntry,e7=.panicked cG∧∃F13:cR,List.Perm G8 ((ka b 0 0 0 0 0 (⟨#[]⟩:Bs) none 0 0 0 none 0 0 0)::(ka s h i j k l n c d e o f a g q)::F13)∧Q (.panicked cG) I11 F13)))∨(∃cH:List PanicEntry,e6=.panicked cH∧∃F14:cR,List.Perm G7 ((ka b 0 0 0 0 0 (⟨#[]⟩:Bs) none 0 0 0 none 0 0 0)::(ka s h i j k l n c d e o f a g q)::F14)∧Q (.panicked cH) I10 F14))) (cU P 64 (#[vp (some p)]) I9 ((ka b 0 0 0 0 0 (⟨#[]⟩:Bs) none 0 0 0 none 0 0 0)::(ka s h i j k l n c d e o f a g q)::F7) fun e9 I15 G11=>((e9=.returned (.tuple #[])∧∃F15:cR,List.Perm G11 ((ka b 0 0 0 0 0 (⟨#[]⟩:Bs) none 0 0 0 none 0 0 0)::(ka s h i j k l n c d e o f a g q)::F15)∧cU P 126 (#[vp (some p)]) I15 ((ka b 0 0 0 0 0 (⟨#[]⟩:Bs) none 0 0 0 none 0 0 0)::(ka s h i j k l n c d e o f a g q)::F15) fun cP I16 G12=>((∃(cr bh:Int) (bi:Bs) (cs ct cu cv cw:Int) (cx:Bs) (aL:OA) (aM aN:Nat) (bj bk bl bm bn bo:Int) (bp:Bs) (ao:OA) (ap aq:Nat) (bq br bs bt bu bv:Int) (bw:Bs) (ar:OA) (au av:Nat) (bx bz bA bB bC bD:Int) (bE:Bs) (aw:OA) (ax ay:Nat) (bF bG:Int),cP=.returned (.agg #[vb cr,vb bh,vs bi,vb cs,vb ct,vb cu,vi cv,vb cw,vs cx,vl aL aM aN,vi bj,vb bk,vb bl,vb bm,vi bn,vb bo,vs bp,vl ao ap aq,vi bq,vb br,vb bs,vb bt,vi bu,vb bv,vs bw,vl ar au av,vi bx,vb bz,vb bA,vb bB,vi bC,vb bD,vs bE,vl aw ax ay,vi bF,vi bG])∧∃F16:cR,List.Perm G12 ((ka b 0 0 0 0 0 (⟨#[]⟩:Bs) none 0 0 0 none 0 0 0)::(ka s h i j k l n c d e o f a g q)::F16)∧∀(b4:Nat) (I17:cS),cS.le I16 I17→I17 b4=some (Obj.cells #[vb cr,vb bh,vs bi,vb cs,vb ct,vb cu,vi cv,vb cw,vs cx,vl aL aM aN,vi bj,vb bk,vb bl,vb bm,vi bn,vb bo,vs bp,vl ao ap aq,vi bq,vb br,vb bs,vb bt,vi bu,vb bv,vs bw,vl ar au av,vi bx,vb bz,vb bA,vb bB,vi bC,vb bD,vs bE,vl aw ax ay,vi bF,vi bG] 114 (0,0))→dk P (Builtin.append_ #[108,108] 108 #[vl f a g,vl (some ⟨b4,0,none⟩) 1 1]) I17 ((ka b 0 0 0 0 0 (⟨#[]⟩:Bs) none 0 0 0 none 0 0 0)::(ka s h i j k l n c d e o f a g q)::F16) fun v2 I18 G13=>∃(cy:OA) (cz cA:Nat),v2=vl cy cz cA∧∃F17:cR,List.Perm G13 ((ka b 0 0 0 0 0 (⟨#[]⟩:Bs) none 0 0 0 none 0 0 0)::(ka s h i j k l n c d e o f a g q)::F17)∧(∃m4:Nat,m4<m2∧Inv14 h i j k l n c d e o cy cz cA q m4 I18 F17))∨(∃cI:List PanicEntry,cP=.panicked cI∧∃F18:cR,List.Perm G12 ((ka b 0 0 0 0 0 (⟨#[]⟩:Bs) none 0 0 0 none 0 0 0)::(ka s h i j k l n c d e o f a g q)::F18)∧Q (.panicked cI) I16 F18)))∨(∃cJ:List PanicEntry,e9=.panicked cJ∧∃F19:cR,List.Perm G11 ((ka b 0 0 0 0 0 (⟨#[]⟩:Bs) none 0 0 0 none 0 0 0)::(ka s h i j k l n c d e o f a g q)::F19)∧Q (.panicked cJ) I15 F19)))) (∀(b5:Nat) (I19:cS),cS.le I9 I19→I19 b5=some (Obj.cells #[vs (⟨#[59]⟩:Bs)] 9 (0,0))→cU P 66 (#[vp (some p),vl (some ⟨b5,0,none⟩) 1 1]) I19 ((ka b 0 0 0 0 0 (⟨#[]⟩:Bs) none 0 0 0 none 0 0 0)::(ka s h i j k l n c d e o f a g q)::F7) fun cQ I20 G14=>((∃(r2:Int),cQ=.returned (vi r2)∧∃F20:cR,List.Perm G14 ((ka b 0 0 0 0 0 (⟨#[]⟩:Bs) none 0 0 0 none 0 0 0)::(ka s h i j k l n c d e o f a g q)::F20)∧Q (.returned (.agg #[vb h,vb i,vb j,vi k,vb l,vs n,vl c d e,vi o,vl f a g,vi q])) I20 F20)∨(∃cK:List PanicEntry,cQ=.panicked cK∧∃F21:cR,List.Perm G14 ((ka b 0 0 0 0 0 (⟨#[]⟩:Bs) none 0 0 0 none 0 0 0)::(ka s h i j k l n c d e o f a g q)::F21)∧Q (.panicked cK) I20 F21)))))∨(∃cL:List PanicEntry,e4=.panicked cL∧∃F22:cR,List.Perm G4 ((ka b 0 0 0 0 0 (⟨#[]⟩:Bs) none 0 0 0 none 0 0 0)::(ka s x y z aa ab ac t u w ae none 0 0 m)::F22)∧Q (.panicked cL) I5 F22)))∨(∃cM:List PanicEntry,e3=.panicked cM∧∃F23:cR,List.Perm G3 ((ka b 0 0 0 0 0 (⟨#[]⟩:Bs) none 0 0 0 none 0 0 0)::(ka s x y z aa ab ac t u w ae none 0 0 m)::F23)∧Q (.panicked cM) I4 F23)))∨(∃cN:List PanicEntry,e2=.panicked cN∧∃F24:cR,List.Perm G2 ((ka b 0 0 0 0 0 (⟨#[]⟩:Bs) none 0 0 0 none 0 0 0)::(ka s 0 0 0 0 0 (⟨#[]⟩:Bs) none 0 0 0 none 0 0 m)::F24)∧Q (.panicked cN) I2 F24)))∨(∃cO:List PanicEntry,e1=.panicked cO∧∃F25:cR,List.Perm G1 ((ka b 0 0 0 0 0 (⟨#[]⟩:Bs) none 0 0 0 none 0 0 0)::(ka s 0 0 0 0 0 (⟨#[]⟩:Bs) none 0 0 0 none 0 0 m)::F25)∧Q (.panicked cO) I1 F25))
theorem hZ.vc{p:Addr}{I:cS}{F:cR}{Q:cT}(Inv14:Int→Int→Int→Int→Int→Bs→OA→Nat→Nat→Int→OA→Nat→Nat→Int→Nat→cS→cR→Prop)(h:hZ.V (fun W a b c d e f g h i j k l m n=>(W,Obj.cells #[.int .u8 a,.int .u8 b,.int .u8 c,.int .i64 d,.int .u8 e,.string f,.slice g h i,.int .i64 j,.slice k l m,.int .i64 n] 110 (0,0))) (.int .u8) (.int .i64) .string .slice .pointer p I F Q Inv14):cU P 107 #[.pointer (some p)] I F Q :=
 tw (A:=(dy [6001,7003] [47,64,65,66,126] [47,64,65,66,91,126] mc [(14,⟨[],[(1,[(.int .u8),(.int .u8),(.int .u8),(.int .i64),(.int .u8),.str,.slc,(.int .i64),.slc,(.int .i64)])],fun _ _ _ vs m I F=>match vs with | [.int _ y0,.int _ y1,.int _ y2,.int _ y3,.int _ y4,.string y5,.slice y6 y7 y8,.int _ y9,.slice y10 y11 y12,.int _ y13]=>Inv14 y0 y1 y2 y3 y4 y5 y6 y7 y8 y9 y10 y11 y12 y13 m I F | _=>False,[],[]⟩)] [4001,5004,10004,11001] [] [] [] [(5,[0,2,1,3,4,5,6,7]),(10,[0,2,1,3,4,5,6,7])] [] [] [(5,[1],7),(10,[1],7)])) [47,64,65,66,91,126] func107 h
def gE.V(ka:Nat→Bs→OA→Nat→Nat→Int→Nat×Obj)(vi:Int→Value)(vs:Bs→Value)(vl:OA→Nat→Nat→Value)(vp:OA→Value)(p:Addr)(I:cS)(F:cR)(Q:cT)  : Prop:=∀b:Nat,∃ad:Addr,some p=some ad∧∃(m:Int),Rd I ((ka b (⟨#[]⟩:Bs) none 0 0 0)::F) ((ad.add 1).add 4) [vi m]∧∀a:Nat,cU P 64 (#[vp (some p)]) I ((ka b (⟨#[]⟩:Bs) none 0 0 0)::(ka a (⟨#[]⟩:Bs) none 0 0 m)::F) fun e1 I1 G1=>((e1=.returned (.tuple #[])∧∃F1:cR,List.Perm G1 ((ka b (⟨#[]⟩:Bs) none 0 0 0)::(ka a (⟨#[]⟩:Bs) none 0 0 m)::F1)∧cU P 67 (#[vp (some p)]) I1 ((ka b (⟨#[]⟩:Bs) none 0 0 0)::(ka a (⟨#[]⟩:Bs) none 0 0 m)::F1) fun e2 I2 G2=>((∃(r:Bs),e2=.returned (vs r)∧∃F2:cR,List.Perm G2 ((ka b (⟨#[]⟩:Bs) none 0 0 0)::(ka a (⟨#[]⟩:Bs) none 0 0 m)::F2)∧∀(b1:Nat) (I3:cS),cS.le I2 I3→I3 b1=some (Obj.cells #[vs (⟨#[123]⟩:Bs)] 9 (0,0))→cU P 66 (#[vp (some p),vl (some ⟨b1,0,none⟩) 1 1]) I3 ((ka b (⟨#[]⟩:Bs) none 0 0 0)::(ka a r none 0 0 m)::F2) fun e3 I4 G3=>((∃(r1:Int),e3=.returned (vi r1)∧∃F3:cR,List.Perm G3 ((ka b (⟨#[]⟩:Bs) none 0 0 0)::(ka a r none 0 0 m)::F3)∧cU P 106 (#[vp (some p),vs (⟨#[119,104,101,110]⟩:Bs),vi 12,.func (.func 107) #[] #[]]) I4 ((ka b (⟨#[]⟩:Bs) none 0 0 0)::(ka a r none 0 0 m)::F3) fun e4 I5 G4=>((∃(c:OA) (d e:Nat),e4=.returned (vl c d e)∧∃F4:cR,List.Perm G4 ((ka b (⟨#[]⟩:Bs) none 0 0 0)::(ka a r none 0 0 m)::F4)∧∀(b2:Nat) (I6:cS),cS.le I5 I6→I6 b2=some (Obj.cells #[vs (⟨#[125]⟩:Bs)] 9 (0,0))→cU P 66 (#[vp (some p),vl (some ⟨b2,0,none⟩) 1 1]) I6 ((ka b (⟨#[]⟩:Bs) none 0 0 0)::(ka a r c d e m)::F4) fun e5 I7 G5=>((∃(r2:Int),e5=.returned (vi r2)∧∃F5:cR,List.Perm G5 ((ka b (⟨#[]⟩:Bs) none 0 0 0)::(ka a r c d e m)::F5)∧Q (.returned (.agg #[vs r,vl c d e,vi m])) I7 F5)∨(∃ch:List PanicEntry,e5=.panicked ch∧∃F6:cR,List.Perm G5 ((ka b (⟨#[]⟩:Bs) none 0 0 0)::(ka a r c d e m)::F6)∧Q (.panicked ch) I7 F6)))∨(∃f:List PanicEntry,e4=.panicked f∧∃F7:cR,List.Perm G4 ((ka b (⟨#[]⟩:Bs) none 0 0 0)::(ka a r none 0 0 m)::F7)∧Q (.panicked f) I5 F7)))∨(∃g:List PanicEntry,e3=.panicked g∧∃F8:cR,List.Perm G3 ((ka b (⟨#[]⟩:Bs) none 0 0 0)::(ka a r none 0 0 m)::F8)∧Q (.panicked g) I4 F8)))∨(∃h:List PanicEntry,e2=.panicked h∧∃F9:cR,List.Perm G2 ((ka b (⟨#[]⟩:Bs) none 0 0 0)::(ka a (⟨#[]⟩:Bs) none 0 0 m)::F9)∧Q (.panicked h) I2 F9)))∨(∃i:List PanicEntry,e1=.panicked i∧∃F10:cR,List.Perm G1 ((ka b (⟨#[]⟩:Bs) none 0 0 0)::(ka a (⟨#[]⟩:Bs) none 0 0 m)::F10)∧Q (.panicked i) I1 F10))
theorem gE.vc{p:Addr}{I:cS}{F:cR}{Q:cT}  (h:gE.V (fun W a b c d e=>(W,Obj.cells #[.string a,.slice b c d,.int .i64 e] 88 (0,0))) (.int .i64) .string .slice .pointer p I F Q):cU P 73 #[.pointer (some p)] I F Q :=
 tw (A:=(dy [] [64,66,67,106] [64,66,67,106] mc [] [4001,6001] [] [] [] [] [])) [64,66,67,106] func73 h
def fm.V(ka:Nat→Bs→OA→Nat→Nat→OA→Nat→Nat→OA→Nat→Nat→Nat×Obj)(vi:Int→Value)(vs:Bs→Value)(vl:OA→Nat→Nat→Value)(vp:OA→Value)(p:Addr)(I:cS)(F:cR)(Q:cT)  : Prop:=∀b:Nat,∀(b1:Nat) (I1:cS),cS.le I I1→I1 b1=some (Obj.cells #[vs (⟨#[115,116,114,97,116,101,103,121]⟩:Bs)] 9 (0,0))→cU P 66 (#[vp (some p),vl (some ⟨b1,0,none⟩) 1 1]) I1 ((ka b (⟨#[]⟩:Bs) none 0 0 none 0 0 none 0 0)::F) fun e1 I2 G1=>((∃(r:Int),e1=.returned (vi r)∧∃F1:cR,List.Perm G1 ((ka b (⟨#[]⟩:Bs) none 0 0 none 0 0 none 0 0)::F1)∧cU P 67 (#[vp (some p)]) I2 ((ka b (⟨#[]⟩:Bs) none 0 0 none 0 0 none 0 0)::F1) fun e2 I3 G2=>((∃(r1:Bs),e2=.returned (vs r1)∧∃F2:cR,List.Perm G2 ((ka b (⟨#[]⟩:Bs) none 0 0 none 0 0 none 0 0)::F2)∧∀a:Nat,∀(b2:Nat) (I4:cS),cS.le I3 I4→I4 b2=some (Obj.cells #[vs (⟨#[123]⟩:Bs)] 9 (0,0))→cU P 66 (#[vp (some p),vl (some ⟨b2,0,none⟩) 1 1]) I4 ((ka b (⟨#[]⟩:Bs) none 0 0 none 0 0 none 0 0)::(ka a r1 none 0 0 none 0 0 none 0 0)::F2) fun e3 I5 G3=>((∃(r2:Int),e3=.returned (vi r2)∧∃F3:cR,List.Perm G3 ((ka b (⟨#[]⟩:Bs) none 0 0 none 0 0 none 0 0)::(ka a r1 none 0 0 none 0 0 none 0 0)::F3)∧cU P 68 (#[vp (some p),vs (⟨#[114,101,103]⟩:Bs),vi 12,.func (.func 69) #[] #[]]) I5 ((ka b (⟨#[]⟩:Bs) none 0 0 none 0 0 none 0 0)::(ka a r1 none 0 0 none 0 0 none 0 0)::F3) fun e4 I6 G4=>((∃(g:OA) (h i:Nat),e4=.returned (vl g h i)∧∃F4:cR,List.Perm G4 ((ka b (⟨#[]⟩:Bs) none 0 0 none 0 0 none 0 0)::(ka a r1 none 0 0 none 0 0 none 0 0)::F4)∧cU P 70 (#[vp (some p),vs (⟨#[115,108,111,116]⟩:Bs),vi 4,.func (.func 71) #[] #[]]) I6 ((ka b (⟨#[]⟩:Bs) none 0 0 none 0 0 none 0 0)::(ka a r1 g h i none 0 0 none 0 0)::F4) fun e5 I7 G5=>((∃(c:OA) (d e:Nat),e5=.returned (vl c d e)∧∃F5:cR,List.Perm G5 ((ka b (⟨#[]⟩:Bs) none 0 0 none 0 0 none 0 0)::(ka a r1 g h i none 0 0 none 0 0)::F5)∧cU P 72 (#[vp (some p),vs (⟨#[115,116,97,116,101]⟩:Bs),vi 12,.func (.func 73) #[] #[]]) I7 ((ka b (⟨#[]⟩:Bs) none 0 0 none 0 0 none 0 0)::(ka a r1 g h i c d e none 0 0)::F5) fun e6 I8 G6=>((∃(j:OA) (f k:Nat),e6=.returned (vl j f k)∧∃F6:cR,List.Perm G6 ((ka b (⟨#[]⟩:Bs) none 0 0 none 0 0 none 0 0)::(ka a r1 g h i c d e none 0 0)::F6)∧(It ((f:Int)==0) (cU P 65 (#[vp (some p),vi 130]) I8 ((ka b (⟨#[]⟩:Bs) none 0 0 none 0 0 none 0 0)::(ka a r1 g h i c d e j f k)::F6) fun e7 I9 G7=>((e7=.returned (.tuple #[])∧∃F7:cR,List.Perm G7 ((ka b (⟨#[]⟩:Bs) none 0 0 none 0 0 none 0 0)::(ka a r1 g h i c d e j f k)::F7)∧∀(b3:Nat) (I10:cS),cS.le I9 I10→I10 b3=some (Obj.cells #[vs (⟨#[125]⟩:Bs)] 9 (0,0))→cU P 66 (#[vp (some p),vl (some ⟨b3,0,none⟩) 1 1]) I10 ((ka b (⟨#[]⟩:Bs) none 0 0 none 0 0 none 0 0)::(ka a r1 g h i c d e j f k)::F7) fun e8 I11 G8=>((∃(r3:Int),e8=.returned (vi r3)∧∃F8:cR,List.Perm G8 ((ka b (⟨#[]⟩:Bs) none 0 0 none 0 0 none 0 0)::(ka a r1 g h i c d e j f k)::F8)∧Q (.returned (.agg #[vs r1,vl g h i,vl c d e,vl j f k])) I11 F8)∨(∃ch:List PanicEntry,e8=.panicked ch∧∃F9:cR,List.Perm G8 ((ka b (⟨#[]⟩:Bs) none 0 0 none 0 0 none 0 0)::(ka a r1 g h i c d e j f k)::F9)∧Q (.panicked ch) I11 F9)))∨(∃l:List PanicEntry,e7=.panicked l∧∃F10:cR,List.Perm G7 ((ka b (⟨#[]⟩:Bs) none 0 0 none 0 0 none 0 0)::(ka a r1 g h i c d e j f k)::F10)∧Q (.panicked l) I9 F10))) (∀(b4:Nat) (I12:cS),cS.le I8 I12→I12 b4=some (Obj.cells #[vs (⟨#[125]⟩:Bs)] 9 (0,0))→cU P 66 (#[vp (some p),vl (some ⟨b4,0,none⟩) 1 1]) I12 ((ka b (⟨#[]⟩:Bs) none 0 0 none 0 0 none 0 0)::(ka a r1 g h i c d e j f k)::F6) fun e9 I13 G9=>((∃(r4:Int),e9=.returned (vi r4)∧∃F11:cR,List.Perm G9 ((ka b (⟨#[]⟩:Bs) none 0 0 none 0 0 none 0 0)::(ka a r1 g h i c d e j f k)::F11)∧Q (.returned (.agg #[vs r1,vl g h i,vl c d e,vl j f k])) I13 F11)∨(∃m:List PanicEntry,e9=.panicked m∧∃F12:cR,List.Perm G9 ((ka b (⟨#[]⟩:Bs) none 0 0 none 0 0 none 0 0)::(ka a r1 g h i c d e j f k)::F12)∧Q (.panicked m) I13 F12)))))∨(∃n:List PanicEntry,e6=.panicked n∧∃F13:cR,List.Perm G6 ((ka b (⟨#[]⟩:Bs) none 0 0 none 0 0 none 0 0)::(ka a r1 g h i c d e none 0 0)::F13)∧Q (.panicked n) I8 F13)))∨(∃o:List PanicEntry,e5=.panicked o∧∃F14:cR,List.Perm G5 ((ka b (⟨#[]⟩:Bs) none 0 0 none 0 0 none 0 0)::(ka a r1 g h i none 0 0 none 0 0)::F14)∧Q (.panicked o) I7 F14)))∨(∃q:List PanicEntry,e4=.panicked q∧∃F15:cR,List.Perm G4 ((ka b (⟨#[]⟩:Bs) none 0 0 none 0 0 none 0 0)::(ka a r1 none 0 0 none 0 0 none 0 0)::F15)∧Q (.panicked q) I6 F15)))∨(∃s:List PanicEntry,e3=.panicked s∧∃F16:cR,List.Perm G3 ((ka b (⟨#[]⟩:Bs) none 0 0 none 0 0 none 0 0)::(ka a r1 none 0 0 none 0 0 none 0 0)::F16)∧Q (.panicked s) I5 F16)))∨(∃t:List PanicEntry,e2=.panicked t∧∃F17:cR,List.Perm G2 ((ka b (⟨#[]⟩:Bs) none 0 0 none 0 0 none 0 0)::F17)∧Q (.panicked t) I3 F17)))∨(∃u:List PanicEntry,e1=.panicked u∧∃F18:cR,List.Perm G1 ((ka b (⟨#[]⟩:Bs) none 0 0 none 0 0 none 0 0)::F18)∧Q (.panicked u) I2 F18))
theorem fm.vc{p:Addr}{I:cS}{F:cR}{Q:cT}  (h:fm.V (fun W a b c d e f g h i j=>(W,Obj.cells #[.string a,.slice b c d,.slice e f g,.slice h i j] 43 (0,0))) (.int .i64) .string .slice .pointer p I F Q):cU P 27 #[.pointer (some p)] I F Q :=
 tw (A:=(dy [7003] [65,66,67,68,70,72] [65,66,67,68,70,72] mc [] [1001,3001,9001] [] [] [] [] [])) [65,66,67,68,70,72] func27 h
def kG.V(vb vi:Int→Value)(vs:Bs→Value)(vl:OA→Nat→Nat→Value)(vp:OA→Value)(p:Addr)(aw:Bs)(o:Int)(q:Fn)(c d:Array Value)(I:cS)(F:cR)(Q:cT)(Inv6:OA→Nat→Nat→Nat→cS→cR→Prop):Prop:=(∃m:Nat,Inv6 none 0 0 m I F)∧∀(h:OA) (a i m1:Nat) (I1:cS) (F1:cR),cS.le I I1→Inv6 h a i m1 I1 F1→dt P 91 (#[vp (some p),vs aw]) I1 (·) F1 .bool fun r I2 F2=>(It r (It ((a:Int)==o) (cU P 65 (#[vp (some p),vi 131]) I2 F2 fun e2 I3 G2=>((e2=.returned (.tuple #[])∧∃F3:cR,List.Perm G2 F3∧jQ P (.func q c d) [vp (some p)] I3 F3 fun e3 I4 G3=>((∃(ag:Bs) (ah ai aj ak al am:Int) (an:Bs) (j:OA) (k l:Nat) (ao s:Int),e3=.returned (.agg #[vs ag,vb ah,vb ai,vb aj,vb ak,vi al,vb am,vs an,vl j k l,vi ao,vi s])∧∃F4:cR,List.Perm G3 F4∧∀(b:Nat) (I5:cS),cS.le I4 I5→I5 b=some (Obj.cells #[vs ag,vb ah,vb ai,vb aj,vb ak,vi al,vb am,vs an,vl j k l,vi ao,vi s] 104 (0,0))→dk P (Builtin.append_ #[39,39] 39 #[vl h a i,vl (some ⟨b,0,none⟩) 1 1]) I5 F4 fun v I6 G4=>∃(ap:OA) (aq ar:Nat),v=vl ap aq ar∧∃F5:cR,List.Perm G4 F5∧(∃m2:Nat,m2<m1∧Inv6 ap aq ar m2 I6 F5))∨(∃ch:List PanicEntry,e3=.panicked ch∧∃F6:cR,List.Perm G3 F6∧Q (.panicked ch) I4 F6)))∨(∃au:List PanicEntry,e2=.panicked au∧∃F7:cR,List.Perm G2 F7∧Q (.panicked au) I3 F7))) (jQ P (.func q c d) [vp (some p)] I2 F2 fun e4 I7 G5=>((∃(t:Bs) (u w x y z aa:Int) (ab:Bs) (e:OA) (f g:Nat) (ac n:Int),e4=.returned (.agg #[vs t,vb u,vb w,vb x,vb y,vi z,vb aa,vs ab,vl e f g,vi ac,vi n])∧∃F8:cR,List.Perm G5 F8∧∀(b1:Nat) (I8:cS),cS.le I7 I8→I8 b1=some (Obj.cells #[vs t,vb u,vb w,vb x,vb y,vi z,vb aa,vs ab,vl e f g,vi ac,vi n] 104 (0,0))→dk P (Builtin.append_ #[39,39] 39 #[vl h a i,vl (some ⟨b1,0,none⟩) 1 1]) I8 F8 fun v1 I9 G6=>∃(ad:OA) (ae af:Nat),v1=vl ad ae af∧∃F9:cR,List.Perm G6 F9∧(∃m3:Nat,m3<m1∧Inv6 ad ae af m3 I9 F9))∨(∃av:List PanicEntry,e4=.panicked av∧∃F10:cR,List.Perm G5 F10∧Q (.panicked av) I7 F10)))) (Q (.returned (vl h a i)) I2 F2))
theorem kG.vc{p:Addr}{c:Bs}{d:Int}{e:Fn}{a b:Array Value}{I:cS}{F:cR}{Q:cT}(Inv6:OA→Nat→Nat→Nat→cS→cR→Prop)(h:kG.V (.int .u8) (.int .i64) .string .slice .pointer p c d e a b I F Q Inv6):cU P 68 #[.pointer (some p),.string c,.int .i64 d,.func e a b] I F Q :=
 tw (A:=(dy [2002,3003] [0,65] [65,91] mc [(6,⟨[(9,.slc)],[],fun _ _ _ vs m I F=>match vs with | [.slice y0 y1 y2]=>Inv6 y0 y1 y2 m I F | _=>False,[],[]⟩)] [5004] [] [] [5003] [] [])) [65,91] func68 h
def j4.V(vi:Int→Value)(vs:Bs→Value)(vl:OA→Nat→Nat→Value)(vp:OA→Value)(p:Addr)(y:Bs)(g:Int)(h:Fn)(c d:Array Value)(I:cS)(F:cR)(Q:cT)(Inv6:OA→Nat→Nat→Nat→cS→cR→Prop):Prop:=(∃m:Nat,Inv6 none 0 0 m I F)∧∀(e:OA) (a f m1:Nat) (I1:cS) (F1:cR),cS.le I I1→Inv6 e a f m1 I1 F1→dt P 91 (#[vp (some p),vs y]) I1 (·) F1 .bool fun r I2 F2=>(It r (It ((a:Int)==g) (cU P 65 (#[vp (some p),vi 131]) I2 F2 fun e2 I3 G2=>((e2=.returned (.tuple #[])∧∃F3:cR,List.Perm G2 F3∧jQ P (.func h c d) [vp (some p)] I3 F3 fun e3 I4 G3=>((∃(o:Bs) (q:Int),e3=.returned (.agg #[vs o,vi q])∧∃F4:cR,List.Perm G3 F4∧∀(b:Nat) (I5:cS),cS.le I4 I5→I5 b=some (Obj.cells #[vs o,vi q] 106 (0,0))→dk P (Builtin.append_ #[40,40] 40 #[vl e a f,vl (some ⟨b,0,none⟩) 1 1]) I5 F4 fun v I6 G4=>∃(s:OA) (t u:Nat),v=vl s t u∧∃F5:cR,List.Perm G4 F5∧(∃m2:Nat,m2<m1∧Inv6 s t u m2 I6 F5))∨(∃ch:List PanicEntry,e3=.panicked ch∧∃F6:cR,List.Perm G3 F6∧Q (.panicked ch) I4 F6)))∨(∃w:List PanicEntry,e2=.panicked w∧∃F7:cR,List.Perm G2 F7∧Q (.panicked w) I3 F7))) (jQ P (.func h c d) [vp (some p)] I2 F2 fun e4 I7 G5=>((∃(i:Bs) (j:Int),e4=.returned (.agg #[vs i,vi j])∧∃F8:cR,List.Perm G5 F8∧∀(b1:Nat) (I8:cS),cS.le I7 I8→I8 b1=some (Obj.cells #[vs i,vi j] 106 (0,0))→dk P (Builtin.append_ #[40,40] 40 #[vl e a f,vl (some ⟨b1,0,none⟩) 1 1]) I8 F8 fun v1 I9 G6=>∃(k:OA) (l n:Nat),v1=vl k l n∧∃F9:cR,List.Perm G6 F9∧(∃m3:Nat,m3<m1∧Inv6 k l n m3 I9 F9))∨(∃x:List PanicEntry,e4=.panicked x∧∃F10:cR,List.Perm G5 F10∧Q (.panicked x) I7 F10)))) (Q (.returned (vl e a f)) I2 F2))
theorem j4.vc{p:Addr}{c:Bs}{d:Int}{e:Fn}{a b:Array Value}{I:cS}{F:cR}{Q:cT}(Inv6:OA→Nat→Nat→Nat→cS→cR→Prop)(h:j4.V (.int .i64) .string .slice .pointer p c d e a b I F Q Inv6):cU P 70 #[.pointer (some p),.string c,.int .i64 d,.func e a b] I F Q :=
 tw (A:=(dy [2002,3003] [0,65] [65,91] mc [(6,⟨[(9,.slc)],[],fun _ _ _ vs m I F=>match vs with | [.slice y0 y1 y2]=>Inv6 y0 y1 y2 m I F | _=>False,[],[]⟩)] [5004] [] [] [5003] [] [])) [65,91] func70 h
def j5.V(vb vi:Int→Value)(vs:Bs→Value)(vl:OA→Nat→Nat→Value)(vp:OA→Value)(p:Addr)(ay:Bs)(w:Int)(x:Fn)(c d:Array Value)(I:cS)(F:cR)(Q:cT)(Inv6:OA→Nat→Nat→Nat→cS→cR→Prop):Prop:=(∃m:Nat,Inv6 none 0 0 m I F)∧∀(k:OA) (a l m1:Nat) (I1:cS) (F1:cR),cS.le I I1→Inv6 k a l m1 I1 F1→dt P 91 (#[vp (some p),vs ay]) I1 (·) F1 .bool fun r I2 F2=>(It r (It ((a:Int)==w) (cU P 65 (#[vp (some p),vi 131]) I2 F2 fun e2 I3 G2=>((e2=.returned (.tuple #[])∧∃F3:cR,List.Perm G2 F3∧jQ P (.func x c d) [vp (some p)] I3 F3 fun e3 I4 G3=>((∃(aj ak al am an:Int) (ao:Bs) (n:OA) (o q:Nat) (ap:Int) (s:OA) (t u:Nat) (aq:Int),e3=.returned (.agg #[vb aj,vb ak,vb al,vi am,vb an,vs ao,vl n o q,vi ap,vl s t u,vi aq])∧∃F4:cR,List.Perm G3 F4∧∀(b:Nat) (I5:cS),cS.le I4 I5→I5 b=some (Obj.cells #[vb aj,vb ak,vb al,vi am,vb an,vs ao,vl n o q,vi ap,vl s t u,vi aq] 110 (0,0))→dk P (Builtin.append_ #[86,86] 86 #[vl k a l,vl (some ⟨b,0,none⟩) 1 1]) I5 F4 fun v I6 G4=>∃(ar:OA) (au av:Nat),v=vl ar au av∧∃F5:cR,List.Perm G4 F5∧(∃m2:Nat,m2<m1∧Inv6 ar au av m2 I6 F5))∨(∃ch:List PanicEntry,e3=.panicked ch∧∃F6:cR,List.Perm G3 F6∧Q (.panicked ch) I4 F6)))∨(∃aw:List PanicEntry,e2=.panicked aw∧∃F7:cR,List.Perm G2 F7∧Q (.panicked aw) I3 F7))) (jQ P (.func x c d) [vp (some p)] I2 F2 fun e4 I7 G5=>((∃(y z aa ab ac:Int) (ad:Bs) (e:OA) (f g:Nat) (ae:Int) (h:OA) (i j:Nat) (af:Int),e4=.returned (.agg #[vb y,vb z,vb aa,vi ab,vb ac,vs ad,vl e f g,vi ae,vl h i j,vi af])∧∃F8:cR,List.Perm G5 F8∧∀(b1:Nat) (I8:cS),cS.le I7 I8→I8 b1=some (Obj.cells #[vb y,vb z,vb aa,vi ab,vb ac,vs ad,vl e f g,vi ae,vl h i j,vi af] 110 (0,0))→dk P (Builtin.append_ #[86,86] 86 #[vl k a l,vl (some ⟨b1,0,none⟩) 1 1]) I8 F8 fun v1 I9 G6=>∃(ag:OA) (ah ai:Nat),v1=vl ag ah ai∧∃F9:cR,List.Perm G6 F9∧(∃m3:Nat,m3<m1∧Inv6 ag ah ai m3 I9 F9))∨(∃ax:List PanicEntry,e4=.panicked ax∧∃F10:cR,List.Perm G5 F10∧Q (.panicked ax) I7 F10)))) (Q (.returned (vl k a l)) I2 F2))
theorem j5.vc{p:Addr}{c:Bs}{d:Int}{e:Fn}{a b:Array Value}{I:cS}{F:cR}{Q:cT}(Inv6:OA→Nat→Nat→Nat→cS→cR→Prop)(h:j5.V (.int .u8) (.int .i64) .string .slice .pointer p c d e a b I F Q Inv6):cU P 106 #[.pointer (some p),.string c,.int .i64 d,.func e a b] I F Q :=
 tw (A:=(dy [2002,3003] [0,65] [65,91] mc [(6,⟨[(9,.slc)],[],fun _ _ _ vs m I F=>match vs with | [.slice y0 y1 y2]=>Inv6 y0 y1 y2 m I F | _=>False,[],[]⟩)] [5004] [] [] [5003] [] [])) [65,91] func106 h
def jG.V(vi:Int→Value)(vs:Bs→Value)(vl:OA→Nat→Nat→Value)(vp:OA→Value)(p:Addr)(ae:Bs)(n:Int)(o:Fn)(c d:Array Value)(I:cS)(F:cR)(Q:cT)(Inv6:OA→Nat→Nat→Nat→cS→cR→Prop):Prop:=(∃m:Nat,Inv6 none 0 0 m I F)∧∀(h:OA) (a i m1:Nat) (I1:cS) (F1:cR),cS.le I I1→Inv6 h a i m1 I1 F1→dt P 91 (#[vp (some p),vs ae]) I1 (·) F1 .bool fun r I2 F2=>(It r (It ((a:Int)==n) (cU P 65 (#[vp (some p),vi 131]) I2 F2 fun e2 I3 G2=>((e2=.returned (.tuple #[])∧∃F3:cR,List.Perm G2 F3∧jQ P (.func o c d) [vp (some p)] I3 F3 fun e3 I4 G3=>((∃(x:Bs) (j:OA) (k l:Nat) (y:Int),e3=.returned (.agg #[vs x,vl j k l,vi y])∧∃F4:cR,List.Perm G3 F4∧∀(b:Nat) (I5:cS),cS.le I4 I5→I5 b=some (Obj.cells #[vs x,vl j k l,vi y] 88 (0,0))→dk P (Builtin.append_ #[41,41] 41 #[vl h a i,vl (some ⟨b,0,none⟩) 1 1]) I5 F4 fun v I6 G4=>∃(z:OA) (aa ab:Nat),v=vl z aa ab∧∃F5:cR,List.Perm G4 F5∧(∃m2:Nat,m2<m1∧Inv6 z aa ab m2 I6 F5))∨(∃ch:List PanicEntry,e3=.panicked ch∧∃F6:cR,List.Perm G3 F6∧Q (.panicked ch) I4 F6)))∨(∃ac:List PanicEntry,e2=.panicked ac∧∃F7:cR,List.Perm G2 F7∧Q (.panicked ac) I3 F7))) (jQ P (.func o c d) [vp (some p)] I2 F2 fun e4 I7 G5=>((∃(q:Bs) (e:OA) (f g:Nat) (s:Int),e4=.returned (.agg #[vs q,vl e f g,vi s])∧∃F8:cR,List.Perm G5 F8∧∀(b1:Nat) (I8:cS),cS.le I7 I8→I8 b1=some (Obj.cells #[vs q,vl e f g,vi s] 88 (0,0))→dk P (Builtin.append_ #[41,41] 41 #[vl h a i,vl (some ⟨b1,0,none⟩) 1 1]) I8 F8 fun v1 I9 G6=>∃(t:OA) (u w:Nat),v1=vl t u w∧∃F9:cR,List.Perm G6 F9∧(∃m3:Nat,m3<m1∧Inv6 t u w m3 I9 F9))∨(∃ad:List PanicEntry,e4=.panicked ad∧∃F10:cR,List.Perm G5 F10∧Q (.panicked ad) I7 F10)))) (Q (.returned (vl h a i)) I2 F2))
theorem jG.vc{p:Addr}{c:Bs}{d:Int}{e:Fn}{a b:Array Value}{I:cS}{F:cR}{Q:cT}(Inv6:OA→Nat→Nat→Nat→cS→cR→Prop)(h:jG.V (.int .i64) .string .slice .pointer p c d e a b I F Q Inv6):cU P 72 #[.pointer (some p),.string c,.int .i64 d,.func e a b] I F Q :=
 tw (A:=(dy [2002,3003] [0,65] [65,91] mc [(6,⟨[(9,.slc)],[],fun _ _ _ vs m I F=>match vs with | [.slice y0 y1 y2]=>Inv6 y0 y1 y2 m I F | _=>False,[],[]⟩)] [5004] [] [] [5003] [] [])) [65,91] func72 h
end Go.Lx
namespace Go.Lx
open Go.Vc
theorem ft{G K A F0:cR}{X Y p:Nat×Obj}(h:G.Perm (p::(K++(X::Y::(A++F0))))):G.Perm (X::Y::(p::((K++A)++F0))):=h.trans (cV fun z=>by simp only[cW,cX,c7];omega)
theorem GK{G K A F0:cR}{X Y Z p:Nat×Obj}(h:G.Perm (p::(K++(X::Y::Z::(A++F0))))):G.Perm (X::Y::Z::(p::((K++A)++F0))):=h.trans (cV fun z=>by simp only[cW,cX,c7];omega)
section
variable {c:PC} {t:ByteArray} {s:PS} {b:Nat} {F F0:cR}
theorem eZ{α:Type}{val:α→Value→cR→Prop}{f:PF}{r:α×PS}{X Y:Nat×Obj}{A:cR}{e:Ending}{I:cS}{G:cR}(hd:c.dP f r.2)(hf:di f (X::Y::(A++F0)) e G):∃ch,e=.panicked ch∧∃F2:cR,List.Perm G (X::Y::F2)∧de c t b val F0 r (.panicked ch) I F2 :=
 di.dC (F0:=A++F0) [X,Y] hf fun e' G' hf'=>.inr ⟨f,hd,hf'.more⟩
theorem FF{α:Type}{val:α→Value→cR→Prop}{f:PF}{r:α×PS}{X Y Z:Nat×Obj}{A:cR}{e:Ending}{I:cS}{G:cR}(hd:c.dP f r.2)(hf:di f (X::Y::Z::(A++F0)) e G):∃ch,e=.panicked ch∧∃F2:cR,List.Perm G (X::Y::Z::F2)∧de c t b val F0 r (.panicked ch) I F2 :=
 di.dC (F0:=A++F0) [X,Y,Z] hf fun e' G' hf'=>.inr ⟨f,hd,hf'.more⟩
theorem j9{w:ByteArray}(hl:c.Live s)(h:c.eu w s=true):(c.tok s.next).kind≠0:=fun hk=>by
 unfold PC.eu at h;rw[hl.now,hk] at h;simp at h
theorem qw{w:ByteArray}(hl:c.Live s)(h:c.eu w s=true):c.take w s=((c.tok s.next).pos,s.inc):=by
 unfold PC.take;rw[if_pos h,hl.now]
def HC(x:dp)(v:Value)(H:cR):Prop:=v=x.v∧H=[]
def HD(x:jw)(v:Value)(H:cR):Prop:=∃d:eJ,v=d.v∧d.p=x∧jt false d H
theorem Ef(hc:c.Of t)(hl:c.Live s)(hw:c.eu (⟨#[115,108,111,116]⟩:ByteArray) s=true){I:cS}(hF:F.Perm (c.px t b s::F0)) :
  cU P 71 #[.pointer (some ⟨b,0,none⟩)] I F (de c t b HC F0 (c.slot s)):=by
 have hp:=dY.of (I:=I) hF
 have e0:c.slot s=(⟨(c.name s.inc).1,(c.tok s.next).pos⟩,(c.take (⟨#[59]⟩:ByteArray) (c.name s.inc).2).2):=by unfold PC.slot;rw[qw hl hw]
 rw[e0]
 refine hY.vc ?_
 unfold hY.V
 intro b0
 refine⟨_,rfl,_,(hp.mono (cS.le_refl I) fun x hx=>.tail _ hx).rd.dE (p:=1) (q:=4) rfl,fun bx=>?_⟩
 refine de.use (eb hc hl (j9 hl hw) (gK hF)) (fun v K I1 G l1 hL hv hG=>.inl ?_) fun f e I1 G l1 hd hf=>.inr (eZ (A:=[]) (hd.name.take _) hf)
 obtain⟨rfl,rfl⟩:=hv
 refine⟨rfl,_,ft (A:=[]) hG, ?_⟩
 refine de.use (j3 hc hL (gK (.refl _))) (fun v K I2 G l2 hL2 hv hG=>.inl ?_) fun f e I2 G l2 hd hf=>.inr (eZ (A:=[]) (hd.take _) hf)
 obtain⟨rfl,rfl⟩:=hv
 refine⟨_,rfl,_,ft (A:=[]) hG,fun b1 I3 l3 hb1=>?_⟩
 refine de.use (eS hc hL2 hb1 (gK (.refl _))) (fun v K I4 G l4 hL4 hv hG=>.inl ?_) fun f e I4 G l4 hd hf=>.inr (eZ (A:=[]) hd hf)
 obtain⟨⟨i,rfl⟩,rfl⟩:=hv
 exact⟨_,rfl,_,ft (A:=[]) hG,.inl ⟨hL4,_,[],rfl,⟨rfl,rfl⟩,.refl _⟩⟩
theorem any_zero{w:ByteArray}{ws:List ByteArray}(h:c.any (w::ws) s=0):c.eu w s=true:=by
 unfold PC.any at h
 rw[PC.jx] at h
 by_cases hw:c.eu w s=true
 ·exact hw
 ·rw[if_neg hw] at h
  have:=(wE (c:=c) (s:=s) (ws:=ws) (i:=0+1) (by decide) (by omega)).2.1
  omega
def PC.B3(c:PC)(i pos:Int)(s:PS):jw×PS:=if i=0 then c.uU (c.eX s).1 pos (c.eX s).2 else if i=5 then c.wC 6 ⟨#[]⟩ pos s else c.wC (1+i) (c.name s).1 pos (c.name s).2
theorem EB(hl:c.Live s)(h:0≤c.any tU s):c.do s=c.B3 (c.any tU s) (c.tok s.next).pos s.inc:=by
 unfold PC.do PC.B3
 rw[if_neg (Int.not_lt.2 h),hl.now]
 split
 ·rename_i h0
  unfold PC.kX
  rw[qw hl (any_zero (ws:=[(⟨#[97,109,101,110,100]⟩:ByteArray),(⟨#[99,97,110,99,101,108]⟩:ByteArray),(⟨#[115,101,116]⟩:ByteArray),(⟨#[103,111,116,111]⟩:ByteArray),(⟨#[104,97,108,116]⟩:ByteArray)]) h0)]
 ·rfl
theorem Kp.B3(i pos:Int)(f:PF):Kp c f (c.B3 i pos):=fun s h=>by
 unfold PC.B3
 split
 ·exact Kp.uU _ _ _ (Kp.eX _ h)
 ·split
  ·exact Kp.wC _ _ _ _ h
  ·exact Kp.wC _ _ _ _ h.name
theorem jt.of{d:eJ}{H1 H2 H3 H4:cR}(h1:eo 64 false d.side H1)(h2:eo 64 false d.qty H2)(h3:eo 64 false d.price H3)(h4:eo 64 false d.value H4):jt false d (H1++(H2++(H3++H4))):=⟨H1,H2,H3,H4,rfl,h1,h2,h3,h4⟩
theorem eU:eo 64 false fW []:=eo.leaf
end
end Go.Lx
namespace Go.Lx
open Go.Vc
section
variable {c:PC} {t:ByteArray} {s:PS} {b:Nat} {F F0:cR}
theorem BT{I:cS}{G:cR}{b4:Nat}{i:Int}(hb:I b4=some (.cells #[.int .u8 1,.int .u8 3,.int .u8 4,.int .u8 5] 112 (0,0)))(h0:0≤i)(h1:i<4) :
  Rd I G ((⟨b4,0,none⟩:Addr).add (i.toNat*1)) [.int .u8 (if i=0 then 1 else 2+i)]:=by
 rw[dg]
 refine Rd.Cr hb G _ fun j hj=>?_
 have:j=0:=by simpa using hj
 subst this
 have:i=0∨i=1∨i=2∨i=3:=by omega
 rcases this with rfl | rfl | rfl | rfl<;>rfl
theorem AW{x y z:Px}{pos o:Int}(hl:c.Live s):c.nN x y pos z o s=if c.eu (⟨#[97,115]⟩:ByteArray) s then (⟨1,o,(c.name s.inc).1,x,y,z,gO,pos⟩,(c.name s.inc).2) else (⟨1,o,⟨#[]⟩,x,y,z,gO,pos⟩,s):=by
 unfold PC.nN PC.je;split<;>rfl
theorem EC(hc:c.Of t)(hl:c.Live s){I:cS}(hF:F.Perm (c.px t b s::F0)):cU P 126 #[.pointer (some ⟨b,0,none⟩)] I F (de c t b HD F0 (c.do s)):=by
 have hp:=dY.of (I:=I) hF
 have hn:=hl.now
 refine ja.vc ?_
 unfold ja.V
 intro b0
 refine⟨_,rfl,_,(hp.mono (cS.le_refl I) fun x hx=>.tail _ hx).rd.dE (p:=1) (q:=4) rfl,fun bd b1 I1 l1 hb1=>?_⟩
 generalize hpos:(c.tok s.next).pos=pos
 refine de.use (q9 hc hl (words (ws:=tU) hb1 rfl) (by decide) (gK hF)) (fun v K I2 G l2 hL hv hG=>.inl ?_) fun f e I2 G l2 hd hf=>.inr (eZ (A:=[]) ?_ hf)
 rotate_left
 ·by_cases h:c.any tU s<0
  ·have e1:c.do s=(HW,c.da 130 s):=by unfold PC.do;rw[if_pos h]
   have e2:(c.oneOf tU s).2=c.da 130 s:=if_pos h
   rw[e1];rw[e2] at hd;exact hd
  ·have e2:(c.oneOf tU s).2=s.inc:=if_neg h
   rw[EB hl (Int.not_lt.1 h)];rw[e2] at hd;exact Kp.B3 _ _ _ _ hd
 obtain⟨rfl,rfl⟩:=hv
 have hge:¬c.any tU s<0:=fun hlt=>by
  have:(c.oneOf tU s).2=c.da 130 s:=if_pos hlt
  rw[this] at hL
  exact (hl.da (e:=130) (by decide)).2.live hL
 have e2:(c.oneOf tU s).2=s.inc:=if_neg hge
 have h6:c.any tU s<6:=(dD (Int.not_lt.1 hge)).2
 rw[e2] at hL hG
 rw[EB hl (Int.not_lt.1 hge),hpos]
 have e3:(c.oneOf tU s).1=c.any tU s:=rfl
 rw[e3]
 refine⟨_,rfl,_,ft (A:=[]) hG, ?_⟩
 clear hG
 generalize hi:c.any tU s=i at hge h6
 have hw:IntKind.wrap .u8 (1+IntKind.wrap .u8 i)=1+i:=by rw[w8 (n:=i) (by omega),w8 (by omega)]
 rw[hw]
 have hi6:i=0∨i=1∨i=2∨i=3∨i=4∨i=5:=by omega
 have just:∀(k:Int),i=k-1→k=3∨k=5→c.B3 i pos s.inc=(⟨k,0,(c.name s.inc).1,gO,gO,gO,gO,pos⟩,(c.name s.inc).2):=fun k h1 h2=>by
  unfold PC.B3 PC.wC
  rw[if_neg (by omega),if_neg (by omega),if_neg (by omega),if_neg (by omega),h1,show 1+(k-1)=k by omega]
 refine⟨fun h=>?_,fun h1=>⟨fun h=>?_,fun h2=>⟨fun h=>?_,fun h4=>⟨fun h=>?_,fun h6'=>?_⟩⟩⟩⟩
 ·-- kX
  have h:i=0:=by have:1+i=1:=by simpa using h
                 omega
  subst h
  have ed:c.B3 0 pos s.inc=c.uU (c.eX s.inc).1 pos (c.eX s.inc).2:=if_pos rfl
  rw[ed]
  refine de.use (nZ hc b s.inc I2 _ _ hL (gK (.refl _))) (fun v K I3 G l3 hL3 hv hG=>.inl ?_) fun f e I3 G l3 hd hf=>.inr (eZ (A:=[]) (Kp.uU _ _ _ hd) hf)
  obtain⟨n1,rfl,hp1,hO1⟩:=hv
  generalize c.eX s.inc=r1 at hL3 hp1 hG
  refine⟨_,_,_,_,_,_,_,_,_,_,rfl,_,ft (A:=[]) hG,fun b2 I4 l4 hb2=>?_⟩
  have ex_:c.uU r1.1 pos r1.2=c.oO r1.1 (c.eX (c.take (⟨#[111,102]⟩:ByteArray) r1.2).2).1 pos (c.eX (c.take (⟨#[111,102]⟩:ByteArray) r1.2).2).2:=rfl
  rw[ex_]
  refine de.use (eS hc hL3 hb2 (gK (.refl _))) (fun v L I5 G l5 hL5 hv hG=>.inl ?_) fun f e I5 G l5 hd hf=>.inr (eZ (Kp.oO _ _ _ _ (Kp.eX _ hd)) hf)
  obtain⟨⟨i5,rfl⟩,rfl⟩:=hv
  refine⟨_,rfl,_,ft hG, ?_⟩
  refine de.use (nZ hc b _ I5 _ _ hL5 (gK (.refl _))) (fun v L I6 G l6 hL6 hv hG=>.inl ?_) fun f e I6 G l6 hd hf=>.inr (eZ (Kp.oO _ _ _ _ hd) hf)
  obtain⟨n2,rfl,hp2,hO2⟩:=hv
  generalize c.eX (c.take (⟨#[111,102]⟩:ByteArray) r1.2).2=r2 at hL6 hp2 hG
  refine⟨_,_,_,_,_,_,_,_,_,_,rfl,_,ft hG,fun b3 I7 l7 hb3=>?_⟩
  have ey:c.oO r1.1 r2.1 pos r2.2=if c.any xd r2.2<0 then (⟨1,0,⟨#[]⟩,r1.1,r2.1,gO,gO,pos⟩,c.da 130 r2.2)
    else if c.any xd r2.2=1 then c.pF r1.1 r2.1 pos (c.eX r2.2.inc).1 (c.eX r2.2.inc).2 else c.nN r1.1 r2.1 pos gO 2 r2.2.inc:=rfl
  refine de.use (q9 hc hL6 (words (ws:=xd) hb3 rfl) (by decide) (gK (.refl _))) (fun v M I8 G l8 hL8 hv hG=>.inl ?_) fun f e I8 G l8 hd hf=>.inr (eZ ?_ hf)
  rotate_left
  ·rw[ey]
   by_cases h:c.any xd r2.2<0
   ·rw[if_pos h];rw[show (c.oneOf xd r2.2).2=c.da 130 r2.2 from if_pos h] at hd;exact hd
   ·rw[if_neg h];rw[show (c.oneOf xd r2.2).2=r2.2.inc from if_neg h] at hd
    split
    ·exact Kp.pF _ _ _ _ _ (Kp.eX _ hd)
    ·exact Kp.nN _ _ _ _ _ _ hd
  obtain⟨rfl,rfl⟩:=hv
  have hg2:¬c.any xd r2.2<0:=fun hlt=>by
   rw[show (c.oneOf xd r2.2).2=c.da 130 r2.2 from if_pos hlt] at hL8
   exact (hL6.da (e:=130) (by decide)).2.live hL8
  rw[show (c.oneOf xd r2.2).2=r2.2.inc from if_neg hg2] at hL8 hG
  rw[ey,if_neg hg2]
  have e4:(c.oneOf xd r2.2).1=c.any xd r2.2:=rfl
  rw[e4]
  refine⟨_,rfl,_,ft hG,fun h=>?_,fun h=>?_⟩
  ·have h:c.any xd r2.2=1:=by simpa using h
   rw[if_pos h]
   refine de.use (nZ hc b _ I8 _ _ hL8 (gK (.refl _))) (fun v M I9 G l9 hL9 hv hG=>.inl ?_) fun f e I9 G l9 hd hf=>.inr (eZ (Kp.pF _ _ _ _ _ hd) hf)
   obtain⟨n3,rfl,hp3,hO3⟩:=hv
   generalize c.eX r2.2.inc=r3 at hL9 hp3 hG
   refine⟨_,_,_,_,_,_,_,_,_,_,rfl,_,ft hG,fun b4 I10 l10 hb4 b5 I11 l11 hb5=>?_⟩
   have ez:c.pF r1.1 r2.1 pos r3.1 r3.2=if c.any fk r3.2<0 then (⟨1,2,⟨#[]⟩,r1.1,r2.1,r3.1,gO,pos⟩,c.da 130 r3.2) else c.nN r1.1 r2.1 pos r3.1 (if c.any fk r3.2=0 then 1 else 2+c.any fk r3.2) r3.2.inc:=rfl
   refine de.use (q9 hc hL9 (words (ws:=fk) hb5 rfl) (by decide) (gK (.refl _))) (fun v N I12 G l12 hL12 hv hG=>.inl ?_) fun f e I12 G l12 hd hf=>.inr (eZ ?_ hf)
   rotate_left
   ·rw[ez]
    by_cases h:c.any fk r3.2<0
    ·rw[if_pos h];rw[show (c.oneOf fk r3.2).2=c.da 130 r3.2 from if_pos h] at hd;exact hd
    ·rw[if_neg h];rw[show (c.oneOf fk r3.2).2=r3.2.inc from if_neg h] at hd;exact Kp.nN _ _ _ _ _ _ hd
   obtain⟨rfl,rfl⟩:=hv
   have hg3:¬c.any fk r3.2<0:=fun hlt=>by
    rw[show (c.oneOf fk r3.2).2=c.da 130 r3.2 from if_pos hlt] at hL12
    exact (hL9.da (e:=130) (by decide)).2.live hL12
   rw[show (c.oneOf fk r3.2).2=r3.2.inc from if_neg hg3] at hL12 hG
   rw[ez,if_neg hg3]
   have e5:(c.oneOf fk r3.2).1=c.any fk r3.2:=rfl
   rw[e5]
   have hlo:0≤c.any fk r3.2∧c.any fk r3.2<4:=⟨Int.not_lt.1 hg3,(dD (Int.not_lt.1 hg3)).2⟩
   generalize c.any fk r3.2=k at hlo
   refine⟨_,rfl,_,ft hG,hlo,_,rfl,_,BT ((cS.le_trans l11 l12).at hb4) hlo.1 hlo.2, ?_⟩
   rw[AW hL12]
   refine cU.ret (qv hL12 (dY.of (gK (.refl _))) (⟨#[97,115]⟩:ByteArray)) fun I13 l13=>⟨_,rfl,_,.refl _,fun h=>?_,fun h=>?_⟩
   ·rw[if_pos h]
    refine de.use (eb hc hL12 (j9 hL12 h) (gK (.refl _))) (fun v N I14 G l14 hL14 hv hG=>.inl ?_) fun f e I14 G l14 hd hf=>.inr (eZ hd.name hf)
    obtain⟨rfl,rfl⟩:=hv
    refine⟨rfl,_,ft hG, ?_⟩
    refine de.use (j3 hc hL14 (gK (.refl _))) (fun v N I15 G l15 hL15 hv hG=>.inl ?_) fun f e I15 G l15 hd hf=>.inr (eZ hd hf)
    obtain⟨rfl,rfl⟩:=hv
    exact⟨_,rfl,_,ft hG,.inl ⟨hL15,_,_,rfl,⟨⟨1,if k=0 then 1 else 2+k,(c.name r3.2.inc.inc).1,n1,n2,n3,fW,pos⟩,rfl,by simp only[eJ.p,hp1,hp2,hp3,fU],jt.of hO1 hO2 hO3 eU⟩,cV fun z=>by simp only[cW,cX,c7];omega⟩⟩
   ·rw[if_neg (by simp[h])]
    exact .inl ⟨hL12,_,_,rfl,⟨⟨1,if k=0 then 1 else 2+k,⟨#[]⟩,n1,n2,n3,fW,pos⟩,rfl,by simp only[eJ.p,hp1,hp2,hp3,fU],jt.of hO1 hO2 hO3 eU⟩,cV fun z=>by simp only[cW,cX,c7];omega⟩
  ·have h:c.any xd r2.2≠1:=by simpa using h
   rw[if_neg h,AW hL8]
   refine cU.ret (qv hL8 (dY.of (gK (.refl _))) (⟨#[97,115]⟩:ByteArray)) fun I13 l13=>⟨_,rfl,_,.refl _,fun h=>?_,fun h=>?_⟩
   ·rw[if_pos h]
    refine de.use (eb hc hL8 (j9 hL8 h) (gK (.refl _))) (fun v N I14 G l14 hL14 hv hG=>.inl ?_) fun f e I14 G l14 hd hf=>.inr (eZ hd.name hf)
    obtain⟨rfl,rfl⟩:=hv
    refine⟨rfl,_,ft hG, ?_⟩
    refine de.use (j3 hc hL14 (gK (.refl _))) (fun v N I15 G l15 hL15 hv hG=>.inl ?_) fun f e I15 G l15 hd hf=>.inr (eZ hd hf)
    obtain⟨rfl,rfl⟩:=hv
    exact⟨_,rfl,_,ft hG,.inl ⟨hL15,_,_,rfl,⟨⟨1,2,(c.name r2.2.inc.inc).1,n1,n2,fW,fW,pos⟩,rfl,by simp only[eJ.p,hp1,hp2,fU],jt.of hO1 hO2 eU eU⟩,cV fun z=>by simp only[cW,cX,c7];omega⟩⟩
   ·rw[if_neg (by simp[h])]
    exact .inl ⟨hL8,_,_,rfl,⟨⟨1,2,⟨#[]⟩,n1,n2,fW,fW,pos⟩,rfl,by simp only[eJ.p,hp1,hp2,fU],jt.of hO1 hO2 eU eU⟩,cV fun z=>by simp only[cW,cX,c7];omega⟩
 ·-- amend
  have h:i=1:=by have:1+i=2:=by simpa using h
                 omega
  subst h
  have ed:c.B3 1 pos s.inc=c.CO (c.name s.inc).1 pos (c.eX (c.take (⟨#[116,111]⟩:ByteArray) (c.name s.inc).2).2).1 (c.eX (c.take (⟨#[116,111]⟩:ByteArray) (c.name s.inc).2).2).2:=rfl
  rw[ed]
  refine de.use (j3 hc hL (gK (.refl _))) (fun v K I3 G l3 hL3 hv hG=>.inl ?_) fun f e I3 G l3 hd hf=>.inr (eZ (A:=[]) (Kp.CO _ _ _ _ (Kp.eX _ (hd.take _))) hf)
  obtain⟨rfl,rfl⟩:=hv
  refine⟨_,rfl,_,ft (A:=[]) hG,fun b6 I4 l4 hb6=>?_⟩
  refine de.use (eS hc hL3 hb6 (gK (.refl _))) (fun v L I5 G l5 hL5 hv hG=>.inl ?_) fun f e I5 G l5 hd hf=>.inr (eZ (Kp.CO _ _ _ _ (Kp.eX _ hd)) hf)
  obtain⟨⟨i5,rfl⟩,rfl⟩:=hv
  refine⟨_,rfl,_,ft hG, ?_⟩
  refine de.use (nZ hc b _ I5 _ _ hL5 (gK (.refl _))) (fun v L I6 G l6 hL6 hv hG=>.inl ?_) fun f e I6 G l6 hd hf=>.inr (eZ (Kp.CO _ _ _ _ hd) hf)
  obtain⟨n2,rfl,hp2,hO2⟩:=hv
  generalize c.eX (c.take (⟨#[116,111]⟩:ByteArray) (c.name s.inc).2).2=r2 at hL6 hp2 hG
  have ea:c.CO (c.name s.inc).1 pos r2.1 r2.2=(⟨2,0,(c.name s.inc).1,gO,r2.1,(c.eX (c.take (⟨#[97,116]⟩:ByteArray) r2.2).2).1,gO,pos⟩,(c.eX (c.take (⟨#[97,116]⟩:ByteArray) r2.2).2).2):=rfl
  rw[ea]
  refine⟨_,_,_,_,_,_,_,_,_,_,rfl,_,ft hG,fun b7 I7 l7 hb7=>?_⟩
  refine de.use (eS hc hL6 hb7 (gK (.refl _))) (fun v L I8 G l8 hL8 hv hG=>.inl ?_) fun f e I8 G l8 hd hf=>.inr (eZ (Kp.eX _ hd) hf)
  obtain⟨⟨i8,rfl⟩,rfl⟩:=hv
  refine⟨_,rfl,_,ft hG, ?_⟩
  refine de.use (nZ hc b _ I8 _ _ hL8 (gK (.refl _))) (fun v L I9 G l9 hL9 hv hG=>.inl ?_) fun f e I9 G l9 hd hf=>.inr (eZ hd hf)
  obtain⟨n3,rfl,hp3,hO3⟩:=hv
  exact⟨_,_,_,_,_,_,_,_,_,_,rfl,_,ft hG,.inl ⟨hL9,_,_,rfl,⟨⟨2,0,(c.name s.inc).1,fW,n2,n3,fW,pos⟩,rfl,by simp only[eJ.p,hp2,hp3,fU],jt.of eU hO2 hO3 eU⟩,cV fun z=>by simp only[cW,cX,c7];omega⟩⟩
 ·-- set
  have h:i=3:=by have:1+i=4:=by simpa using h
                 omega
  subst h
  have ed:c.B3 3 pos s.inc=(⟨4,0,(c.name s.inc).1,gO,gO,gO,(c.eX (c.take (⟨#[61]⟩:ByteArray) (c.name s.inc).2).2).1,pos⟩,(c.eX (c.take (⟨#[61]⟩:ByteArray) (c.name s.inc).2).2).2):=rfl
  rw[ed]
  refine de.use (j3 hc hL (gK (.refl _))) (fun v K I3 G l3 hL3 hv hG=>.inl ?_) fun f e I3 G l3 hd hf=>.inr (eZ (A:=[]) (Kp.eX _ (hd.take _)) hf)
  obtain⟨rfl,rfl⟩:=hv
  refine⟨_,rfl,_,ft (A:=[]) hG,fun b6 I4 l4 hb6=>?_⟩
  refine de.use (eS hc hL3 hb6 (gK (.refl _))) (fun v L I5 G l5 hL5 hv hG=>.inl ?_) fun f e I5 G l5 hd hf=>.inr (eZ (Kp.eX _ hd) hf)
  obtain⟨⟨i5,rfl⟩,rfl⟩:=hv
  refine⟨_,rfl,_,ft hG, ?_⟩
  refine de.use (nZ hc b _ I5 _ _ hL5 (gK (.refl _))) (fun v L I6 G l6 hL6 hv hG=>.inl ?_) fun f e I6 G l6 hd hf=>.inr (eZ hd hf)
  obtain⟨n2,rfl,hp2,hO2⟩:=hv
  exact⟨_,_,_,_,_,_,_,_,_,_,rfl,_,ft hG,.inl ⟨hL6,_,_,rfl,⟨⟨4,0,(c.name s.inc).1,fW,fW,fW,n2,pos⟩,rfl,by simp only[eJ.p,hp2,fU],jt.of eU eU eU hO2⟩,cV fun z=>by simp only[cW,cX,c7];omega⟩⟩
 ·-- halt
  have h:i=5:=by have:1+i=6:=by simpa using h
                 omega
  subst h
  have ed:c.B3 5 pos s.inc=(⟨6,0,⟨#[]⟩,gO,gO,gO,gO,pos⟩,s.inc):=rfl
  rw[ed]
  exact .inl ⟨hL,_,_,rfl,⟨⟨6,0,⟨#[]⟩,fW,fW,fW,fW,pos⟩,rfl,by simp only[eJ.p,fU],jt.of eU eU eU eU⟩,.refl _⟩
 ·have h1:1+i≠1:=by simpa using h1
  have h2:1+i≠2:=by simpa using h2
  have h4:1+i≠4:=by simpa using h4
  have h6':1+i≠6:=by simpa using h6'
  rw[just (1+i) (by omega) (by omega)]
  refine de.use (j3 hc hL (gK (.refl _))) (fun v K I3 G l3 hL3 hv hG=>.inl ?_) fun f e I3 G l3 hd hf=>.inr (eZ (A:=[]) hd hf)
  obtain⟨rfl,rfl⟩:=hv
  exact⟨_,rfl,_,ft (A:=[]) hG,.inl ⟨hL3,_,_,rfl,⟨⟨1+i,0,(c.name s.inc).1,fW,fW,fW,fW,pos⟩,rfl,by simp only[eJ.p,fU],jt.of eU eU eU eU⟩,.refl _⟩⟩
end
end Go.Lx
namespace Go.Lx
open Go.Vc
theorem HE(d:eJ):∀u∈d.enc,u.oneCell'=true:=fun u hu=>by
 simp only[eJ.enc,List.mem_cons,List.not_mem_nil,or_false] at hu
 rcases hu with rfl | rfl | rfl | rfl | rfl | rfl | rfl | rfl | rfl | rfl | rfl | rfl | rfl | rfl | rfl | rfl | rfl | rfl | rfl | rfl | rfl | rfl | rfl | rfl | rfl | rfl | rfl | rfl | rfl | rfl | rfl | rfl | rfl | rfl | rfl | rfl<;>rfl
theorem HF(d:dw):∀u∈d.enc,u.oneCell'=true:=fun u hu=>by
 simp only[dw.enc,List.mem_cons,List.not_mem_nil,or_false] at hu
 rcases hu with rfl | rfl | rfl | rfl | rfl | rfl | rfl | rfl | rfl | rfl | rfl<;>rfl
theorem HG(d:dp):∀u∈d.enc,u.oneCell'=true:=fun u hu=>by
 simp only[dp.enc,List.mem_cons,List.not_mem_nil,or_false] at hu
 rcases hu with rfl | rfl<;>rfl
theorem HH(d:dc):∀u∈d.enc,u.oneCell'=true:=fun u hu=>by
 simp only[dc.enc,List.mem_cons,List.not_mem_nil,or_false] at hu
 rcases hu with rfl | rfl | rfl | rfl | rfl | rfl | rfl | rfl | rfl | rfl<;>rfl
theorem HI(d:cZ):∀u∈d.enc,u.oneCell'=true:=fun u hu=>by
 simp only[cZ.enc,List.mem_cons,List.not_mem_nil,or_false] at hu
 rcases hu with rfl | rfl | rfl<;>rfl
section
variable {F F1 F2 R0 Hx:cR} {a:Option Addr} {n k:Nat} {b:Nat} {I:cS}
theorem ED{l:List eJ}{x:eJ}{O:eJ→cR→Prop}(h:Part 36 eJ.enc 114 O a n k l F F1)(hb:I b=some (.cells x.enc.toArray 114 (0,0)))(hx:O x Hx)(hF2:F2.Perm (R0++(Hx++F1)))(hl:l.length≤1000000) :
  dk P (Builtin.append_ #[108,108] 108 #[.slice a n k,.slice (some ⟨b,0,none⟩) 1 1]) I F2 fun v I' G=>∃a' n' c',v=.slice a' n' c'∧∃F3,G.Perm (R0++F3)∧Part 36 eJ.enc 114 O a' n' c' (l++[x]) F F3 :=
 kN (f:=eJ.enc) (fun _=>rfl) (zv:=(⟨0,0,⟨#[]⟩,fW,fW,fW,fW,0⟩:eJ).v) (by':=320) (by kernel_rfl) (by kernel_rfl) rfl (by decide) h (HE x) rfl hb hx hF2 (by omega)
theorem GL{l:List dw}{x:dw}{O:dw→cR→Prop}(h:Part 11 dw.enc 104 O a n k l F F1)(hb:I b=some (.cells x.enc.toArray 104 (0,0)))(hx:O x Hx)(hF2:F2.Perm (R0++(Hx++F1)))(hl:l.length≤1000000) :
  dk P (Builtin.append_ #[39,39] 39 #[.slice a n k,.slice (some ⟨b,0,none⟩) 1 1]) I F2 fun v I' G=>∃a' n' c',v=.slice a' n' c'∧∃F3,G.Perm (R0++F3)∧Part 11 dw.enc 104 O a' n' c' (l++[x]) F F3 :=
 kN (f:=dw.enc) (fun _=>rfl) (zv:=(⟨⟨#[]⟩,0,fW,0⟩:dw).v) (by':=104) (by kernel_rfl) (by kernel_rfl) rfl (by decide) h (HF x) rfl hb hx hF2 (by omega)
theorem GM{l:List dp}{x:dp}{O:dp→cR→Prop}(h:Part 2 dp.enc 106 O a n k l F F1)(hb:I b=some (.cells x.enc.toArray 106 (0,0)))(hx:O x Hx)(hF2:F2.Perm (R0++(Hx++F1)))(hl:l.length≤1000000) :
  dk P (Builtin.append_ #[40,40] 40 #[.slice a n k,.slice (some ⟨b,0,none⟩) 1 1]) I F2 fun v I' G=>∃a' n' c',v=.slice a' n' c'∧∃F3,G.Perm (R0++F3)∧Part 2 dp.enc 106 O a' n' c' (l++[x]) F F3 :=
 kN (f:=dp.enc) (fun _=>rfl) (zv:=(⟨⟨#[]⟩,0⟩:dp).v) (by':=24) (by kernel_rfl) (by kernel_rfl) rfl (by decide) h (HG x) rfl hb hx hF2 (by omega)
theorem GN{l:List dc}{x:dc}{O:dc→cR→Prop}(h:Part 10 dc.enc 110 O a n k l F F1)(hb:I b=some (.cells x.enc.toArray 110 (0,0)))(hx:O x Hx)(hF2:F2.Perm (R0++(Hx++F1)))(hl:l.length≤1000000) :
  dk P (Builtin.append_ #[86,86] 86 #[.slice a n k,.slice (some ⟨b,0,none⟩) 1 1]) I F2 fun v I' G=>∃a' n' c',v=.slice a' n' c'∧∃F3,G.Perm (R0++F3)∧Part 10 dc.enc 110 O a' n' c' (l++[x]) F F3 :=
 kN (f:=dc.enc) (fun _=>rfl) (zv:=(⟨fW,none,0,[],0⟩:dc).v) (by':=104) (by kernel_rfl) (by kernel_rfl) rfl (by decide) h (HH x) rfl hb hx hF2 (by omega)
theorem GO{l:List cZ}{x:cZ}{O:cZ→cR→Prop}(h:Part 3 cZ.enc 88 O a n k l F F1)(hb:I b=some (.cells x.enc.toArray 88 (0,0)))(hx:O x Hx)(hF2:F2.Perm (R0++(Hx++F1)))(hl:l.length≤1000000) :
  dk P (Builtin.append_ #[41,41] 41 #[.slice a n k,.slice (some ⟨b,0,none⟩) 1 1]) I F2 fun v I' G=>∃a' n' c',v=.slice a' n' c'∧∃F3,G.Perm (R0++F3)∧Part 3 cZ.enc 88 O a' n' c' (l++[x]) F F3 :=
 kN (f:=cZ.enc) (fun _=>rfl) (zv:=(⟨⟨#[]⟩,none,0,[],0⟩:cZ).v) (by':=48) (by kernel_rfl) (by kernel_rfl) rfl (by decide) h (HI x) rfl hb hx hF2 (by omega)
end
def gL(c:PC)(res:List jw×PS)(ds:List jw)(s:PS):Prop :=
 res=if c.eu (⟨#[44]⟩:ByteArray) s then (if (c.many ds.length 8 s).over then (ds,c.many ds.length 8 s) else c.ia (8-ds.length) ds (c.many ds.length 8 s).inc) else (ds,s)
section
variable {c:PC} {t:ByteArray} {s:PS} {b:Nat} {F F0:cR} {res:List jw×PS} {ds:List jw}
theorem gL.start(s:PS):gL c (c.ia 8 [] s) [(c.do s).1] (c.do s).2:=by
 unfold gL;rw[PC.ia];rfl
theorem AX{n m:Nat}(h:n<m):c.many n m s=s:=by unfold PC.many;rw[if_neg (by omega)]
theorem rh{n:Nat}(hl:c.Live s):(c.many n n s).over=true∧c.dP ⟨131,(c.tok s.next).pos,false⟩ (c.many n n s):=by
 unfold PC.many;rw[if_pos (Nat.le_refl _)]
 have:=hl.da (e:=131) (by decide)
 exact⟨by rw[this.1];rfl,this.2⟩
theorem gL.stop(h:gL c res ds s)(hw:c.eu (⟨#[44]⟩:ByteArray) s=false):res=(ds,s):=by
 unfold gL at h;rw[hw] at h;exact h
theorem gL.full(h:gL c res ds s)(hl:c.Live s)(hw:c.eu (⟨#[44]⟩:ByteArray) s=true)(hd:ds.length=8):c.dP ⟨131,(c.tok s.next).pos,false⟩ res.2:=by
 unfold gL at h
 rw[if_pos hw,hd,(rh hl).1,if_pos rfl] at h
 rw[h];exact (rh hl).2
theorem gL.next(h:gL c res ds s)(hl:c.Live s)(hw:c.eu (⟨#[44]⟩:ByteArray) s=true)(hd:ds.length<8):res=c.ia (8-ds.length) ds s.inc∧gL c res (ds++[(c.do s.inc).1]) (c.do s.inc).2:=by
 unfold gL at h ⊢
 rw[if_pos hw,AX hd,hl.1,if_neg (by simp)] at h
 refine⟨h, ?_⟩
 obtain⟨m,hm⟩:∃m,8-ds.length=m+1:=⟨8-ds.length-1,by omega⟩
 rw[hm,PC.ia] at h
 rw[h,List.length_append,List.length_singleton,show 8-(ds.length+1)=m by omega]
theorem gL.dead(h:gL c res ds s){f:PF}(hd:c.dP f s):c.dP f res.2:=by
 rw[h.stop (hd.eu _)];exact hd
def HJ(x:eE)(v:Value)(H:cR):Prop:=∃r:dc,v=r.v∧r.p=x∧kz false r H
theorem Eg(hc:c.Of t)(hl:c.Live s)(hw:c.eu (⟨#[119,104,101,110]⟩:ByteArray) s=true){I:cS}(hF:F.Perm (c.px t b s::F0)) :
  cU P 107 #[.pointer (some ⟨b,0,none⟩)] I F (de c t b HJ F0 (c.ib s)):=by
 have hp:=dY.of (I:=I) hF
 have er0:c.ib s=c.mq (c.eX s.inc).1 (c.tok s.next).pos (c.take (⟨#[100,111]⟩:ByteArray) (c.eX s.inc).2).2:=by unfold PC.ib;rw[qw hl hw]
 generalize hpos:(c.tok s.next).pos=pos at er0
 rw[er0]
 refine hZ.vc (fun k0 k1 k2 k3 k4 k5 ka kn kk k7 a n k ps m I' F'=>ps=pos∧∃(w:Nd) (K:cR) (dsN:List eJ) (si:PS),k0=w.kind∧k1=w.oper∧k2=w.dU∧k3=w.n∧k4=w.field∧k5=w.name∧ka=w.a∧kn=w.kids.length∧kk=w.c∧k7=w.pos∧w.px=(c.eX s.inc).1∧eo 64 false w K∧c.Live si∧m=8-dsN.length∧0<dsN.length∧dsN.length≤8 ∧
  gL c (c.ia 8 [] (c.take (⟨#[100,111]⟩:ByteArray) (c.eX s.inc).2).2) (dsN.map eJ.p) si∧Part 36 eJ.enc 114 (jt false) a n k dsN (c.px t b si::(K++F0)) F') ?_
 unfold hZ.V
 intro b0
 refine⟨_,rfl,_,(hp.mono (cS.le_refl I) fun x hx=>.tail _ hx).rd.dE (p:=1) (q:=4) rfl,fun br=>?_⟩
 rw[hpos]
 refine de.use (eb hc hl (j9 hl hw) (gK hF)) (fun v K I1 G l1 hL hv hG=>.inl ?_) fun f e I1 G l1 hd hf=>.inr (eZ (A:=[]) (Kp.mq _ _ _ ((Kp.eX _ hd).take _)) hf)
 obtain⟨rfl,rfl⟩:=hv
 refine⟨rfl,_,ft (A:=[]) hG, ?_⟩
 refine de.use (nZ hc b s.inc I1 _ _ hL (gK (.refl _))) (fun v K I2 G l2 hL2 hv hG=>.inl ?_) fun f e I2 G l2 hd hf=>.inr (eZ (A:=[]) (Kp.mq _ _ _ (hd.take _)) hf)
 obtain⟨w,rfl,hpw,hOw⟩:=hv
 refine⟨_,_,_,_,_,_,_,_,_,_,rfl,_,ft (A:=[]) hG,fun b1 I3 l3 hb1=>?_⟩
 refine de.use (eS hc hL2 hb1 (gK (.refl _))) (fun v L I4 G l4 hL4 hv hG=>.inl ?_) fun f e I4 G l4 hd hf=>.inr (eZ (Kp.mq _ _ _ hd) hf)
 obtain⟨⟨i4,rfl⟩,rfl⟩:=hv
 generalize hs4:(c.take (⟨#[100,111]⟩:ByteArray) (c.eX s.inc).2).2=s4 at hL4 hG
 have rel0:=gL.start (c:=c) s4
 have fin:∀{f:PF} {q:List jw×PS},q=c.ia 8 [] s4→c.dP f q.2→c.dP f (c.mq (c.eX s.inc).1 pos s4).2:=fun e h=>by
  subst e;exact h.take _
 refine⟨_,rfl,_,ft hG, ?_⟩
 refine de.use (EC hc hL4 (gK (.refl _))) (fun v L I5 G l5 hL5 hv hG=>.inl ?_) fun f e I5 G l5 hd hf=>.inr (eZ (fin rfl (rel0.dead hd)) hf)
 obtain⟨d0,rfl,hpd,hOd⟩:=hv
 have hnil:Part 36 eJ.enc 114 (jt false) none 0 0 [] (c.px t b (c.do s4).2::(K++F0)) (c.px t b (c.do s4).2::(K++F0)):=Part.nil
 refine⟨_,_,_,_,_,_,_,_,_,_,_,_,_,_,_,_,_,_,_,_,_,_,_,_,_,_,_,_,_,_,_,_,_,_,_,_,_,_,_,_,_,_,_,_,rfl,L++(c.px t b (c.do s4).2::(K++F0)),hG.trans (cV fun z=>by simp only[cW,cX,c7];omega),fun b2 I6 l6 hb2=>?_⟩
 refine dk.mono (ED (R0:=[_,_]) (Hx:=L) hnil hb2 hOd (.refl _) (by decide)) fun v I7 G l7 ⟨ra,rn,rk,hv,F3,hG3,hP⟩=>?_
 refine⟨ra,rn,rk,hv,F3,hG3,⟨_,rfl,w,K,[d0],(c.do s4).2,rfl,rfl,rfl,rfl,rfl,rfl,rfl,rfl,rfl,rfl,hpw,hOw,hL5,rfl,by simp,by simp, ?_,hP⟩, ?_⟩
 ·rw[List.map_singleton,hpd];exact rel0
 intro k0 k1 k2 k3 k4 k5 ka kn kk k7 a n k ps m I8 F6 l8 ⟨gp,w,K,dsN,si,e0,e1,e2,e3,e4,e5,ea,en,ek,e7,hpw,hOw,hLi,gm,hpos1,hle,hR,hPt⟩
 subst gp e0 e1 e2 e3 e4 e5 ea en ek e7 gm
 obtain⟨A,hs,hA,hO,hFp⟩:=hPt
 have hnl:=hA.1
 have frame:F6.Perm (c.px t b si::((A++(dH dsN.length hs++K))++F0)):=hFp.trans (cV fun z=>by simp only[cW,cX,c7];omega)
 refine cU.ret (qv hLi (dY.of (gK frame)) (⟨#[44]⟩:ByteArray)) fun I9 l9=>⟨_,rfl,F6,.refl _,fun hw=>?_,fun hw=>?_⟩
 ·-- one more
  have key:∀(X Y:Nat×Obj) (I:cS) (F':cR) (Q':Ending→cS→cR→Prop),dsN.length<8→F'.Perm (c.px t b si.inc::((A++(dH dsN.length hs++K))++F0))→c.Live si.inc →
    (∀(d:eJ) (I8:cS) (G F7:cR),G.Perm (X::Y::F7)→(∀(b3:Nat) (I9:cS),cS.le I8 I9→I9 b3=some (.cells d.enc.toArray 114 (0,0))→dk P (Builtin.append_ #[108,108] 108 #[.slice a n k,.slice (some ⟨b3,0,none⟩) 1 1]) I9 (X::Y::F7) fun v I10 G6=>∃(ra:Option Addr) (rn rc:Nat),v=.slice ra rn rc∧∃F8:cR,G6.Perm (X::Y::F8) ∧
     gL c (c.ia 8 [] s4) ((dsN++[d]).map eJ.p) (c.do si.inc).2∧c.Live (c.do si.inc).2∧Part 36 eJ.enc 114 (jt false) ra rn rc (dsN++[d]) (c.px t b (c.do si.inc).2::(K++F0)) F8)→Q' (.returned d.v) I8 G) →
    (∀(f:PF) (e:Ending) (I8:cS) (G:cR),c.dP f (c.mq (c.eX s.inc).1 ps s4).2→di f (X::Y::((A++(dH dsN.length hs++K))++F0)) e G→Q' e I8 G) →
    cU P 126 #[.pointer (some ⟨b,0,none⟩)] I (X::Y::F') Q':=by
   intro X Y I F' Q' hlt hF' hLs k1 k2
   have hR2:=hR.next hLi hw (by rw[List.length_map];exact hlt)
   refine de.use (EC hc hLs (gK hF')) (fun v L I5 G l5 hL5 hv hG=>?_) fun f e I5 G l5 hd hf=>k2 f e I5 G (fin rfl (hR2.2.dead hd)) hf
   obtain⟨d,rfl,hpd,hOd⟩:=hv
   refine k1 d I5 G (L++(A++(dH dsN.length hs++(c.px t b (c.do si.inc).2::(K++F0))))) (hG.trans (cV fun z=>by simp only[cW,cX,c7];omega)) fun b3 I9 l9 hb3=>?_
   refine dk.mono (ED (R0:=[X,Y]) (Hx:=L) (F:=c.px t b (c.do si.inc).2::(K++F0)) ⟨A,hs,hA,hO,.refl _⟩ hb3 hOd (.refl _) (by omega)) fun v I7 G l7 ⟨ra,rn,rk,hv,F3,hG3,hP⟩=>⟨ra,rn,rk,hv,F3,hG3, ?_,hL5,hP⟩
   rw[List.map_append,List.map_singleton,hpd];exact hR2.2
  refine⟨fun h8=>?_,fun h8=>?_⟩
  ·have h8:dsN.length=8:=by have:(n:Int)=8:=by simpa using h8
                            omega
   refine (fI (dY.of (gK frame)) 131).mono fun e I10 G l10 hf=>.inr ?_
   have hd:=hR.full hLi hw (by rw[List.length_map];exact h8)
   exact eZ (fin rfl hd) (hf.tail (gK frame))
  ·have h8:dsN.length<8:=by have:¬(n:Int)=8:=by simpa using h8
                            omega
   have hR2:=hR.next hLi hw (by rw[List.length_map];exact h8)
   refine de.use (eb hc hLi (j9 hLi hw) (gK frame)) (fun v L I10 G l10 hL10 hv hG=>.inl ?_) fun f e I10 G l10 hd hf=>.inr (eZ (fin hR2.1.symm (Kp.ia _ _ _ hd)) hf)
   obtain⟨rfl,rfl⟩:=hv
   refine⟨rfl,_,ft hG,key _ _ _ _ _ h8 (.refl _) hL10 (fun d I11 G F7 hG7 kA=>.inl ⟨_,_,_,_,_,_,_,_,_,_,_,_,_,_,_,_,_,_,_,_,_,_,_,_,_,_,_,_,_,_,_,_,_,_,_,_,_,_,_,_,_,_,_,_,rfl,F7,hG7,fun b3 I12 l12 hb3=>?_⟩) fun f e I11 G hd hf=>.inr (eZ hd hf)⟩
   refine dk.mono (kA b3 I12 l12 hb3) fun v I13 G l13 ⟨ra,rn,rk,hv,F8,hG8,r1,r2,r3⟩=>⟨ra,rn,rk,hv,F8,hG8,8-(dsN.length+1),by omega,rfl,w,K,dsN++[d],_,rfl,rfl,rfl,rfl,rfl,rfl,rfl,rfl,rfl,rfl,hpw,hOw,r2,by rw[List.length_append,List.length_singleton],by rw[List.length_append,List.length_singleton];omega,by rw[List.length_append,List.length_singleton];omega,r1,r3⟩
 ·have hres:=hR.stop hw
  have er:c.mq (c.eX s.inc).1 ps s4=(⟨(c.eX s.inc).1,dsN.map eJ.p,ps⟩,(c.take (⟨#[59]⟩:ByteArray) si).2):=by unfold PC.mq;rw[hres]
  rw[er]
  intro b5 I10 l10 hb5
  refine de.use (eS hc hLi hb5 (gK frame)) (fun v L I11 G l11 hL11 hv hG=>.inl ?_) fun f e I11 G l11 hd hf=>.inr (eZ hd hf)
  obtain⟨⟨i11,rfl⟩,rfl⟩:=hv
  subst hnl
  refine⟨_,rfl,_,ft hG,.inl ⟨hL11,_,K++(A++dH dsN.length hs),rfl,⟨⟨w,a,k,dsN,ps⟩,rfl, ?_,K,A++dH dsN.length hs,rfl,hOw,A,hs,rfl,hA,fun h=>(by cases h),hO⟩,cV fun z=>by simp only[cW,cX,c7];omega⟩⟩
  simp only[dc.p,hpw]
end
end Go.Lx
namespace Go.Lx
open Go.Vc
section
variable {c:PC} {t:ByteArray} {s:PS} {b:Nat} {F F0:cR}
def HK(x:fp)(v:Value)(H:cR):Prop:=∃r:dw,v=r.v∧r.p=x∧pI false r H
theorem C8(hc:c.Of t)(hl:c.Live s){f:PF}(hd:c.dP f (c.literal s).2):(c.literal s).1.2=true:=by
 cases h2:(c.literal s).1.2 with
 | true=>rfl
 | false=>rw[oH hc hl h2] at hd;exact (hd.live hl).elim
theorem FG(hc:c.Of t)(hl:c.Live s)(hw:c.eu (⟨#[114,101,103]⟩:ByteArray) s=true){I:cS}(hF:F.Perm (c.px t b s::F0)) :
  cU P 69 #[.pointer (some ⟨b,0,none⟩)] I F (de c t b HK F0 (c.kM s)):=by
 have hp:=dY.of (I:=I) hF
 have er0:c.kM s=c.oN (c.name s.inc).1 (c.tok s.next).pos (c.name s.inc).2:=by unfold PC.kM;rw[qw hl hw]
 generalize hpos:(c.tok s.next).pos=pos at er0
 rw[er0]
 refine iE.vc ?_
 unfold iE.V
 intro b0
 refine⟨_,rfl,_,(hp.mono (cS.le_refl I) fun x hx=>.tail _ hx).rd.dE (p:=1) (q:=4) rfl,fun br=>?_⟩
 rw[hpos]
 refine de.use (eb hc hl (j9 hl hw) (gK hF)) (fun v K I1 G l1 hL hv hG=>.inl ?_) fun f e I1 G l1 hd hf=>.inr (eZ (A:=[]) (Kp.oN _ _ _ hd.name) hf)
 obtain⟨rfl,rfl⟩:=hv
 refine⟨rfl,_,ft (A:=[]) hG, ?_⟩
 refine de.use (j3 hc hL (gK (.refl _))) (fun v K I2 G l2 hL2 hv hG=>.inl ?_) fun f e I2 G l2 hd hf=>.inr (eZ (A:=[]) (Kp.oN _ _ _ hd) hf)
 obtain⟨rfl,rfl⟩:=hv
 generalize (c.name s.inc).1=nm at hG
 generalize (c.name s.inc).2=s2 at hL2 hG
 refine⟨_,rfl,_,ft (A:=[]) hG,fun b1 I3 l3 hb1=>?_⟩
 have en:c.oN nm pos s2=if c.any gQ s2<0 then (⟨nm,0,gO,pos⟩,c.da 130 s2) else c.pE nm (1+c.any gQ s2) pos (c.take (⟨#[61]⟩:ByteArray) s2.inc).2:=rfl
 refine de.use (q9 hc hL2 (words (ws:=gQ) hb1 rfl) (by decide) (gK (.refl _))) (fun v M I4 G l4 hL4 hv hG=>.inl ?_) fun f e I4 G l4 hd hf=>.inr (eZ (A:=[]) ?_ hf)
 rotate_left
 ·rw[en]
  by_cases h:c.any gQ s2<0
  ·rw[if_pos h];rw[show (c.oneOf gQ s2).2=c.da 130 s2 from if_pos h] at hd;exact hd
  ·rw[if_neg h];rw[show (c.oneOf gQ s2).2=s2.inc from if_neg h] at hd;exact Kp.pE _ _ _ _ (hd.take _)
 obtain⟨rfl,rfl⟩:=hv
 have hg2:¬c.any gQ s2<0:=fun hlt=>by
  rw[show (c.oneOf gQ s2).2=c.da 130 s2 from if_pos hlt] at hL4
  exact (hL2.da (e:=130) (by decide)).2.live hL4
 have h6:c.any gQ s2<6:=(dD (Int.not_lt.1 hg2)).2
 rw[show (c.oneOf gQ s2).2=s2.inc from if_neg hg2] at hL4 hG
 rw[if_neg hg2] at en
 rw[en]
 have e4:(c.oneOf gQ s2).1=c.any gQ s2:=rfl
 rw[e4]
 refine⟨_,rfl,_,ft (A:=[]) hG,fun b2 I5 l5 hb2=>?_⟩
 have hwr:IntKind.wrap .u8 (1+IntKind.wrap .u8 (c.any gQ s2))=1+c.any gQ s2:=by rw[w8 (n:=c.any gQ s2) (by omega),w8 (by omega)]
 rw[hwr]
 generalize 1+c.any gQ s2=ty
 refine de.use (eS hc hL4 hb2 (gK (.refl _))) (fun v L I6 G l6 hL6 hv hG=>.inl ?_) fun f e I6 G l6 hd hf=>.inr (eZ (A:=[]) (Kp.pE _ _ _ _ hd) hf)
 obtain⟨⟨i6,rfl⟩,rfl⟩:=hv
 generalize (c.take (⟨#[61]⟩:ByteArray) s2.inc).2=s3 at hL6 hG
 have et:c.pE nm ty pos s3=c.lV nm ty pos (c.tok s3.next).pos (c.eu (⟨#[45]⟩:ByteArray) s3) (if c.eu (⟨#[45]⟩:ByteArray) s3 then s3.inc else s3):=by unfold PC.pE;rw[hL6.now]
 rw[et]
 refine⟨_,rfl,_,ft (A:=[]) hG,b,Ea t (c.tok s3.next) (jN (c.tok s3.next)),F0,.refl _,_,rfl,_,dY.held.rd.dE (p:=1) (q:=4) rfl, ?_⟩
 refine cU.ret (qv hL6 dY.held (⟨#[45]⟩:ByteArray)) fun I7 l7=>⟨_,rfl,_,.refl _,fun hm=>?_,fun hm=>?_⟩
 ·-- a sign stands there
  rw[hm,if_pos rfl]
  refine de.use (eb hc hL6 (j9 hL6 hm) (F:=_::_::(c.px t b s3::F0)) (gK (.refl _))) (fun v L I8 G l8 hL8 hv hG=>.inl ?_) fun f e I8 G l8 hd hf=>.inr (eZ (A:=[]) (Kp.lV _ _ _ _ _ _ hd) hf)
  obtain⟨rfl,rfl⟩:=hv
  refine⟨rfl,_,ft (A:=[]) hG,_,rfl,_,(dY.of (I:=I8) (gK (.refl _))).rd.dE (p:=1) (q:=0) rfl,fun h3=>?_,fun h3=>?_⟩
  ·have h3:(c.tok s3.inc.next).kind≠3:=by simpa using h3
   have el:c.lV nm ty pos (c.tok s3.next).pos true s3.inc=(⟨nm,ty,gO,pos⟩,c.da 130 s3.inc):=by unfold PC.lV;rw[hL8.now,if_pos ⟨rfl,h3⟩]
   rw[el]
   refine (fI (dY.of (gK (.refl _))) 130).mono fun e I9 G l9 hf=>.inr ?_
   exact eZ (A:=[]) (hL8.da (by decide)).2 (hf.tail (gK (.refl _)))
  ·have h3:(c.tok s3.inc.next).kind=3:=by simpa using h3
   have ell:=wR hL8 h3
   have el:c.lV nm ty pos (c.tok s3.next).pos true s3.inc=c.pD nm ty pos (c.tok s3.next).pos true (c.literal s3.inc).1.1 (c.literal s3.inc).2:=by
    unfold PC.lV;rw[hL8.now,if_neg (fun h=>h.2 h3),ell,if_pos rfl]
   rw[el]
   refine de.use (pL hc hL8 (gK (.refl _))) (fun v L I9 G l9 hL9 hv hG=>.inl ?_) fun f e I9 G l9 hd hf=>.inr (eZ (A:=[]) (Kp.pD _ _ _ _ _ _ _ hd) hf)
   obtain⟨n,rfl,hpn,hOn,rfl⟩:=hv
   have htr:(c.literal s3.inc).1.2=true:=by rw[ell]
   refine⟨_,_,_,_,_,_,_,_,_,_,_,rfl,_,ft (A:=[]) hG,fun bn=>⟨fun h=>?_,fun _=>⟨fun _=>fun b3 b4 I10 l10 hb4=>?_,fun h=>absurd h (by decide)⟩⟩⟩
   ·rw[htr] at h;exact absurd h (by decide)
   ·refine de.use (eS hc hL9 hb4 (F0:=_::_::_::([(b3,Obj.cells n.enc.toArray 64 (0,0))]++F0)) ((List.Perm.cons _ (List.Perm.cons _ (List.Perm.cons _ (List.Perm.swap _ _ _)))).trans (wP (.refl _)))) (fun v L I11 G l11 hL11 hv hG=>.inl ?_) fun f e I11 G l11 hd hf=>.inr (FF hd hf)
    obtain⟨⟨i11,rfl⟩,rfl⟩:=hv
    refine⟨_,rfl,_,GK hG,.inl ⟨hL11,_,(b3,Obj.cells n.enc.toArray 64 (0,0))::([]++[]),rfl,⟨⟨nm,ty,.mk 5 1 0 0 0 ⟨#[]⟩ (some ⟨b3,0,none⟩) 1 [n] (c.tok s3.next).pos,pos⟩,rfl, ?_,eo.H6 hOn⟩,.refl _⟩⟩
    show fp.mk _ _ _ _=fp.mk _ _ _ _
    simp only[Nd.px,Nd.qO,hpn];rfl
 ·rw[hm,if_neg (by simp)]
  have el:c.lV nm ty pos (c.tok s3.next).pos false s3=c.pD nm ty pos (c.tok s3.next).pos false (c.literal s3).1.1 (if (c.literal s3).1.2 then (c.literal s3).2 else c.da 130 (c.literal s3).2):=by
   unfold PC.lV;rw[if_neg (fun h=>by cases h.1)]
  rw[el]
  refine de.use (pL hc hL6 (F:=_::_::(c.px t b s3::F0)) (gK (.refl _))) (fun v L I9 G l9 hL9 hv hG=>.inl ?_) fun f e I9 G l9 hd hf=>.inr (eZ (A:=[]) (Kp.pD _ _ _ _ _ _ _ ?_) hf)
  rotate_left
  ·rw[C8 hc hL6 hd,if_pos rfl];exact hd
  obtain⟨n,rfl,hpn,hOn,rfl⟩:=hv
  refine⟨_,_,_,_,_,_,_,_,_,_,_,rfl,_,ft (A:=[]) hG,fun bn=>⟨fun h=>?_,fun h=>⟨fun h=>absurd h (by decide),fun _=>fun b4 I10 l10 hb4=>?_⟩⟩⟩
  ·have h:(c.literal s3).1.2=false:=by simpa using h
   have hs:c.literal s3=((gO,false),s3):=oH hc hL6 h
   rw[h,if_neg (by simp),hs]
   refine (fI (k:=c.tok s3.next) (f:=jN (c.tok s3.next)) (t:=t) (dY.of (wP (.refl _))) 130).mono fun e I11 G l11 hf=>.inr ?_
   exact FF (A:=[]) (Kp.pD _ _ _ _ _ _ _ (hL6.da (by decide)).2) (hf.tail (wP (.refl _)))
  ·have h:(c.literal s3).1.2=true:=by simpa using h
   rw[h,if_pos rfl]
   refine de.use (eS hc hL9 hb4 (wP (.refl _))) (fun v L I11 G l11 hL11 hv hG=>.inl ?_) fun f e I11 G l11 hd hf=>.inr (FF (A:=[]) hd hf)
   obtain⟨⟨i11,rfl⟩,rfl⟩:=hv
   refine⟨_,rfl,_,GK (A:=[]) hG,.inl ⟨hL11,_,[],rfl,⟨⟨nm,ty,n,pos⟩,rfl, ?_,hOn⟩,.refl _⟩⟩
   show fp.mk _ _ _ _=fp.mk _ _ _ _
   rw[hpn];rfl
end
end Go.Lx
namespace Go.Lx
open Go.Vc
theorem jQ.FO{P:Program}{f:FuncId}{args:List Value}{I:cS}{F:cR}{Q:Ending→cS→cR→Prop}(he:dA P f)(h:cU P f args.toArray I F Q):jQ P (.func (.func f) #[] #[]) args I F Q :=
 fun w hw=>.inl ⟨f,#[],#[],rfl,he,by rw[show (#[]:Array Value)++args.toArray++#[]=args.toArray by simp];exact h w hw⟩
section
variable {c:PC} {t:ByteArray} {s:PS} {b:Nat} {F F0:cR}
def fh(c:PC){α:Type}(w:ByteArray)(most:Nat)(one:PS→α×PS)(res:List α×PS)(xs:List α)(s:PS):Prop:=xs.length≤most∧res=c.fi w most one (most-xs.length) xs s
section
variable {α:Type} {w:ByteArray} {most:Nat} {one:PS→α×PS} {res:List α×PS} {xs:List α}
theorem fh.start(c:PC)(w:ByteArray)(most:Nat)(one:PS→α×PS)(s:PS):fh c w most one (c.list w most one s) [] s:=⟨Nat.zero_le _,rfl⟩
theorem fh.stop(h:fh c w most one res xs s)(hw:c.eu w s=false):res=(xs,s):=by
 rw[h.2]
 cases most-xs.length with
 | zero=>rw[PC.fi,hw];rfl
 | succ m=>rw[PC.fi,hw];rfl
theorem fh.full(h:fh c w most one res xs s)(hl:c.Live s)(hw:c.eu w s=true)(hx:xs.length=most):c.dP ⟨131,(c.tok s.next).pos,false⟩ res.2:=by
 rw[h.2,hx,Nat.sub_self,PC.fi,hw,if_pos rfl,hx];exact (rh hl).2
theorem fh.next(h:fh c w most one res xs s)(hl:c.Live s)(hw:c.eu w s=true)(hx:xs.length<most):fh c w most one res (xs++[(one s).1]) (one s).2:=by
 obtain⟨h1,h2⟩:=h
 obtain⟨m,hm⟩:∃m,most-xs.length=m+1:=⟨most-xs.length-1,by omega⟩
 rw[hm,PC.fi,if_pos hw,AX hx,hl.1,if_neg (by simp)] at h2
 exact⟨by rw[List.length_append,List.length_singleton];omega,by rw[h2,List.length_append,List.length_singleton,show most-(xs.length+1)=m by omega]⟩
theorem fh.dead(h:fh c w most one res xs s){f:PF}(hd:c.dP f s):c.dP f res.2:=by
 rw[h.stop (hd.eu _)];exact hd
end
theorem sf{α:Type}{z E:Nat}{f:α→List Value}{O:α→cR→Prop}{F F':cR}(h:F'.Perm F):Part z f E O none 0 0 ([]:List α) F F':=⟨[],fun _=>[],Acc.nil,fun i k h=>by simp at h,h⟩
def Eh(xs:List fp)(v:Value)(H:cR):Prop:=∃(a:Option Addr) (n k:Nat) (l:List dw),v=.slice a n k∧n=l.length∧l.map dw.p=xs∧ng false 11 dw.enc 104 (pI false) a n k l H
theorem z0:dA P 69:=rD [69] (by kernel_rfl) _ (by decide)
theorem BU(hc:c.Of t)(hl:c.Live s){I:cS}(hF:F.Perm (c.px t b s::F0)) :
  cU P 68 #[.pointer (some ⟨b,0,none⟩),.string (⟨#[114,101,103]⟩:ByteArray),.int .i64 12,.func (.func 69) #[] #[]] I F (de c t b Eh F0 (c.list (⟨#[114,101,103]⟩:ByteArray) 12 c.kM s)):=by
 refine kG.vc (fun a n k m I' F'=>∃(xs:List dw) (si:PS),c.Live si∧m=12-xs.length∧fh c (⟨#[114,101,103]⟩:ByteArray) 12 c.kM (c.list (⟨#[114,101,103]⟩:ByteArray) 12 c.kM s) (xs.map dw.p) si∧Part 11 dw.enc 104 (pI false) a n k xs (c.px t b si::F0) F') ?_
 unfold kG.V
 refine⟨⟨_,[],s,hl,rfl,fh.start c _ _ _ s,sf hF⟩,fun a n k m I1 F1 l1 ⟨xs,si,hLi,gm,hR,hPt⟩=>?_⟩
 subst gm
 obtain⟨A,hs,hA,hO,hFp⟩:=hPt
 have hnl:=hA.1
 have hx:=hR.1
 rw[List.length_map] at hx
 have frame:F1.Perm (c.px t b si::((A++dH xs.length hs)++F0)):=hFp.trans (cV fun z=>by simp only[cW,cX,c7];omega)
 refine cU.ret (qv hLi (dY.of frame) (⟨#[114,101,103]⟩:ByteArray)) fun I2 l2=>⟨_,rfl,F1,.refl _,fun hw=>⟨fun h=>?_,fun h=>?_⟩,fun hw=>?_⟩
 ·have h':(n:Int)=12:=by simpa using h
  have h:xs.length=12:=by omega
  refine (fI (dY.of frame) 131).mono fun e I3 G l3 hf=>.inr ?_
  exact di.pass hf fun e' hf'=>.inr ⟨_,hR.full hLi hw (by rw[List.length_map];exact h),(hf'.tail frame).more⟩
 ·have h':¬(n:Int)=12:=by simpa using h
  have h:xs.length<12:=by omega
  have hR2:=hR.next hLi hw (by rw[List.length_map];exact h)
  refine jQ.FO z0 (de.use (FG hc hLi hw frame) (fun v L I3 G l3 hL3 hv hG=>.inl ?_) fun f e I3 G l3 hd hf=>.inr (di.pass hf fun e' hf'=>.inr ⟨f,hR2.dead hd,hf'.more⟩))
  obtain⟨r,rfl,hpr,hOr⟩:=hv
  refine⟨_,_,_,_,_,_,_,_,_,_,_,_,_,rfl,L++(A++(dH xs.length hs++(c.px t b (c.kM si).2::F0))),hG.trans (cV fun z=>by simp only[cW,cX,c7];omega),fun b1 I4 l4 hb1=>?_⟩
  refine dk.mono (GL (R0:=[]) (Hx:=L) (x:=r) (F:=c.px t b (c.kM si).2::F0) ⟨A,hs,hA,hO,.refl _⟩ hb1 hOr (.refl _) (by omega)) fun v I5 G2 l5 ⟨ra,rn,rk,hv,F3,hG3,hP⟩=>?_
  refine⟨ra,rn,rk,hv,F3,hG3,12-(xs.length+1),by omega,xs++[r],(c.kM si).2,hL3,by rw[List.length_append,List.length_singleton], ?_,hP⟩
  rw[List.map_append,List.map_singleton,hpr];exact hR2
 ·have hres:=hR.stop hw
  rw[hres]
  exact .inl ⟨hLi,_,A++dH n hs,rfl,⟨a,n,k,xs,rfl,hnl,rfl,A,hs,rfl,hA,fun h=>(by cases h),hO⟩,by rw[hnl];exact frame⟩
def C9(xs:List dp)(v:Value)(H:cR):Prop:=∃(a:Option Addr) (n k:Nat) (l:List dp),v=.slice a n k∧n=l.length∧l.map id=xs∧ng false 2 dp.enc 106 wI a n k l H
theorem yv:dA P 71:=rD [71] (by kernel_rfl) _ (by decide)
theorem z1(hc:c.Of t)(hl:c.Live s){I:cS}(hF:F.Perm (c.px t b s::F0)) :
  cU P 70 #[.pointer (some ⟨b,0,none⟩),.string (⟨#[115,108,111,116]⟩:ByteArray),.int .i64 4,.func (.func 71) #[] #[]] I F (de c t b C9 F0 (c.list (⟨#[115,108,111,116]⟩:ByteArray) 4 c.slot s)):=by
 refine j4.vc (fun a n k m I' F'=>∃(xs:List dp) (si:PS),c.Live si∧m=4-xs.length∧fh c (⟨#[115,108,111,116]⟩:ByteArray) 4 c.slot (c.list (⟨#[115,108,111,116]⟩:ByteArray) 4 c.slot s) (xs.map id) si∧Part 2 dp.enc 106 wI a n k xs (c.px t b si::F0) F') ?_
 unfold j4.V
 refine⟨⟨_,[],s,hl,rfl,fh.start c _ _ _ s,sf hF⟩,fun a n k m I1 F1 l1 ⟨xs,si,hLi,gm,hR,hPt⟩=>?_⟩
 subst gm
 obtain⟨A,hs,hA,hO,hFp⟩:=hPt
 have hnl:=hA.1
 have hx:=hR.1
 rw[List.length_map] at hx
 have frame:F1.Perm (c.px t b si::((A++dH xs.length hs)++F0)):=hFp.trans (cV fun z=>by simp only[cW,cX,c7];omega)
 refine cU.ret (qv hLi (dY.of frame) (⟨#[115,108,111,116]⟩:ByteArray)) fun I2 l2=>⟨_,rfl,F1,.refl _,fun hw=>⟨fun h=>?_,fun h=>?_⟩,fun hw=>?_⟩
 ·have h':(n:Int)=4:=by simpa using h
  have h:xs.length=4:=by omega
  refine (fI (dY.of frame) 131).mono fun e I3 G l3 hf=>.inr ?_
  exact di.pass hf fun e' hf'=>.inr ⟨_,hR.full hLi hw (by rw[List.length_map];exact h),(hf'.tail frame).more⟩
 ·have h':¬(n:Int)=4:=by simpa using h
  have h:xs.length<4:=by omega
  have hR2:=hR.next hLi hw (by rw[List.length_map];exact h)
  refine jQ.FO yv (de.use (Ef hc hLi hw frame) (fun v L I3 G l3 hL3 hv hG=>.inl ?_) fun f e I3 G l3 hd hf=>.inr (di.pass hf fun e' hf'=>.inr ⟨f,hR2.dead hd,hf'.more⟩))
  obtain⟨rfl,rfl⟩:=hv
  refine⟨_,_,rfl,([]:cR)++(A++(dH xs.length hs++(c.px t b (c.slot si).2::F0))),hG.trans (cV fun z=>by simp only[cW,cX,c7];omega),fun b1 I4 l4 hb1=>?_⟩
  refine dk.mono (GM (R0:=[]) (Hx:=([]:cR)) (x:=(c.slot si).1) (F:=c.px t b (c.slot si).2::F0) ⟨A,hs,hA,hO,.refl _⟩ hb1 rfl (.refl _) (by omega)) fun v I5 G2 l5 ⟨ra,rn,rk,hv,F3,hG3,hP⟩=>?_
  refine⟨ra,rn,rk,hv,F3,hG3,4-(xs.length+1),by omega,xs++[(c.slot si).1],(c.slot si).2,hL3,by rw[List.length_append,List.length_singleton], ?_,hP⟩
  rw[List.map_append,List.map_singleton,id];exact hR2
 ·have hres:=hR.stop hw
  rw[hres]
  exact .inl ⟨hLi,_,A++dH n hs,rfl,⟨a,n,k,xs,rfl,hnl,rfl,A,hs,rfl,hA,fun h=>(by cases h),hO⟩,by rw[hnl];exact frame⟩
def Da(xs:List eE)(v:Value)(H:cR):Prop:=∃(a:Option Addr) (n k:Nat) (l:List dc),v=.slice a n k∧n=l.length∧l.map dc.p=xs∧ng false 10 dc.enc 110 (kz false) a n k l H
theorem yw:dA P 107:=rD [107] (by kernel_rfl) _ (by decide)
theorem z2(hc:c.Of t)(hl:c.Live s){I:cS}(hF:F.Perm (c.px t b s::F0)) :
  cU P 106 #[.pointer (some ⟨b,0,none⟩),.string (⟨#[119,104,101,110]⟩:ByteArray),.int .i64 12,.func (.func 107) #[] #[]] I F (de c t b Da F0 (c.list (⟨#[119,104,101,110]⟩:ByteArray) 12 c.ib s)):=by
 refine j5.vc (fun a n k m I' F'=>∃(xs:List dc) (si:PS),c.Live si∧m=12-xs.length∧fh c (⟨#[119,104,101,110]⟩:ByteArray) 12 c.ib (c.list (⟨#[119,104,101,110]⟩:ByteArray) 12 c.ib s) (xs.map dc.p) si∧Part 10 dc.enc 110 (kz false) a n k xs (c.px t b si::F0) F') ?_
 unfold j5.V
 refine⟨⟨_,[],s,hl,rfl,fh.start c _ _ _ s,sf hF⟩,fun a n k m I1 F1 l1 ⟨xs,si,hLi,gm,hR,hPt⟩=>?_⟩
 subst gm
 obtain⟨A,hs,hA,hO,hFp⟩:=hPt
 have hnl:=hA.1
 have hx:=hR.1
 rw[List.length_map] at hx
 have frame:F1.Perm (c.px t b si::((A++dH xs.length hs)++F0)):=hFp.trans (cV fun z=>by simp only[cW,cX,c7];omega)
 refine cU.ret (qv hLi (dY.of frame) (⟨#[119,104,101,110]⟩:ByteArray)) fun I2 l2=>⟨_,rfl,F1,.refl _,fun hw=>⟨fun h=>?_,fun h=>?_⟩,fun hw=>?_⟩
 ·have h':(n:Int)=12:=by simpa using h
  have h:xs.length=12:=by omega
  refine (fI (dY.of frame) 131).mono fun e I3 G l3 hf=>.inr ?_
  exact di.pass hf fun e' hf'=>.inr ⟨_,hR.full hLi hw (by rw[List.length_map];exact h),(hf'.tail frame).more⟩
 ·have h':¬(n:Int)=12:=by simpa using h
  have h:xs.length<12:=by omega
  have hR2:=hR.next hLi hw (by rw[List.length_map];exact h)
  refine jQ.FO yw (de.use (Eg hc hLi hw frame) (fun v L I3 G l3 hL3 hv hG=>.inl ?_) fun f e I3 G l3 hd hf=>.inr (di.pass hf fun e' hf'=>.inr ⟨f,hR2.dead hd,hf'.more⟩))
  obtain⟨r,rfl,hpr,hOr⟩:=hv
  refine⟨_,_,_,_,_,_,_,_,_,_,_,_,_,_,rfl,L++(A++(dH xs.length hs++(c.px t b (c.ib si).2::F0))),hG.trans (cV fun z=>by simp only[cW,cX,c7];omega),fun b1 I4 l4 hb1=>?_⟩
  refine dk.mono (GN (R0:=[]) (Hx:=L) (x:=r) (F:=c.px t b (c.ib si).2::F0) ⟨A,hs,hA,hO,.refl _⟩ hb1 hOr (.refl _) (by omega)) fun v I5 G2 l5 ⟨ra,rn,rk,hv,F3,hG3,hP⟩=>?_
  refine⟨ra,rn,rk,hv,F3,hG3,12-(xs.length+1),by omega,xs++[r],(c.ib si).2,hL3,by rw[List.length_append,List.length_singleton], ?_,hP⟩
  rw[List.map_append,List.map_singleton,hpr];exact hR2
 ·have hres:=hR.stop hw
  rw[hres]
  exact .inl ⟨hLi,_,A++dH n hs,rfl,⟨a,n,k,xs,rfl,hnl,rfl,A,hs,rfl,hA,fun h=>(by cases h),hO⟩,by rw[hnl];exact frame⟩
def HL(x:dF)(v:Value)(H:cR):Prop:=∃r:cZ,v=r.v∧r.p=x∧iO false r H
theorem Db(hc:c.Of t)(hl:c.Live s)(hw:c.eu (⟨#[115,116,97,116,101]⟩:ByteArray) s=true){I:cS}(hF:F.Perm (c.px t b s::F0)) :
  cU P 73 #[.pointer (some ⟨b,0,none⟩)] I F (de c t b HL F0 (c.state s)):=by
 have hp:=dY.of (I:=I) hF
 have er0:c.state s=c.lW (c.name s.inc).1 (c.tok s.next).pos (c.take (⟨#[123]⟩:ByteArray) (c.name s.inc).2).2:=by unfold PC.state;rw[qw hl hw]
 generalize hpos:(c.tok s.next).pos=pos at er0
 rw[er0]
 refine gE.vc ?_
 unfold gE.V
 intro b0
 refine⟨_,rfl,_,(hp.mono (cS.le_refl I) fun x hx=>.tail _ hx).rd.dE (p:=1) (q:=4) rfl,fun bx=>?_⟩
 rw[hpos]
 refine de.use (eb hc hl (j9 hl hw) (gK hF)) (fun v K I1 G l1 hL hv hG=>.inl ?_) fun f e I1 G l1 hd hf=>.inr (eZ (A:=[]) (Kp.lW _ _ _ (hd.name.take _)) hf)
 obtain⟨rfl,rfl⟩:=hv
 refine⟨rfl,_,ft (A:=[]) hG, ?_⟩
 refine de.use (j3 hc hL (gK (.refl _))) (fun v K I2 G l2 hL2 hv hG=>.inl ?_) fun f e I2 G l2 hd hf=>.inr (eZ (A:=[]) (Kp.lW _ _ _ (hd.take _)) hf)
 obtain⟨rfl,rfl⟩:=hv
 refine⟨_,rfl,_,ft (A:=[]) hG,fun b1 I3 l3 hb1=>?_⟩
 refine de.use (eS hc hL2 hb1 (gK (.refl _))) (fun v K I4 G l4 hL4 hv hG=>.inl ?_) fun f e I4 G l4 hd hf=>.inr (eZ (A:=[]) (Kp.lW _ _ _ hd) hf)
 obtain⟨⟨i,rfl⟩,rfl⟩:=hv
 generalize (c.take (⟨#[123]⟩:ByteArray) (c.name s.inc).2).2=s3 at hL4 hG
 have es:c.lW (c.name s.inc).1 pos s3=(⟨(c.name s.inc).1,(c.list (⟨#[119,104,101,110]⟩:ByteArray) 12 c.ib s3).1,pos⟩,(c.take (⟨#[125]⟩:ByteArray) (c.list (⟨#[119,104,101,110]⟩:ByteArray) 12 c.ib s3).2).2):=rfl
 rw[es]
 refine⟨_,rfl,_,ft (A:=[]) hG, ?_⟩
 refine de.use (z2 hc hL4 (gK (.refl _))) (fun v K I5 G l5 hL5 hv hG=>.inl ?_) fun f e I5 G l5 hd hf=>.inr (eZ (A:=[]) (hd.take _) hf)
 obtain⟨a,n,k,l,rfl,rfl,hlp,hOl⟩:=hv
 refine⟨_,_,_,rfl,_,ft (A:=[]) hG,fun b2 I6 l6 hb2=>?_⟩
 refine de.use (eS hc hL5 hb2 (gK (.refl _))) (fun v L I7 G l7 hL7 hv hG=>.inl ?_) fun f e I7 G l7 hd hf=>.inr (eZ hd hf)
 obtain⟨⟨i7,rfl⟩,rfl⟩:=hv
 refine⟨_,rfl,_,ft hG,.inl ⟨hL7,_,K,rfl,⟨⟨(c.name s.inc).1,a,k,l,pos⟩,rfl, ?_,hOl⟩,cV fun z=>by simp only[cW,cX,c7];omega⟩⟩
 simp only[cZ.p,hlp]
def BV(xs:List dF)(v:Value)(H:cR):Prop:=∃(a:Option Addr) (n k:Nat) (l:List cZ),v=.slice a n k∧n=l.length∧l.map cZ.p=xs∧ng false 3 cZ.enc 88 (iO false) a n k l H
theorem wW:dA P 73:=rD [73] (by kernel_rfl) _ (by decide)
theorem yx(hc:c.Of t)(hl:c.Live s){I:cS}(hF:F.Perm (c.px t b s::F0)) :
  cU P 72 #[.pointer (some ⟨b,0,none⟩),.string (⟨#[115,116,97,116,101]⟩:ByteArray),.int .i64 12,.func (.func 73) #[] #[]] I F (de c t b BV F0 (c.list (⟨#[115,116,97,116,101]⟩:ByteArray) 12 c.state s)):=by
 refine jG.vc (fun a n k m I' F'=>∃(xs:List cZ) (si:PS),c.Live si∧m=12-xs.length∧fh c (⟨#[115,116,97,116,101]⟩:ByteArray) 12 c.state (c.list (⟨#[115,116,97,116,101]⟩:ByteArray) 12 c.state s) (xs.map cZ.p) si∧Part 3 cZ.enc 88 (iO false) a n k xs (c.px t b si::F0) F') ?_
 unfold jG.V
 refine⟨⟨_,[],s,hl,rfl,fh.start c _ _ _ s,sf hF⟩,fun a n k m I1 F1 l1 ⟨xs,si,hLi,gm,hR,hPt⟩=>?_⟩
 subst gm
 obtain⟨A,hs,hA,hO,hFp⟩:=hPt
 have hnl:=hA.1
 have hx:=hR.1
 rw[List.length_map] at hx
 have frame:F1.Perm (c.px t b si::((A++dH xs.length hs)++F0)):=hFp.trans (cV fun z=>by simp only[cW,cX,c7];omega)
 refine cU.ret (qv hLi (dY.of frame) (⟨#[115,116,97,116,101]⟩:ByteArray)) fun I2 l2=>⟨_,rfl,F1,.refl _,fun hw=>⟨fun h=>?_,fun h=>?_⟩,fun hw=>?_⟩
 ·have h':(n:Int)=12:=by simpa using h
  have h:xs.length=12:=by omega
  refine (fI (dY.of frame) 131).mono fun e I3 G l3 hf=>.inr ?_
  exact di.pass hf fun e' hf'=>.inr ⟨_,hR.full hLi hw (by rw[List.length_map];exact h),(hf'.tail frame).more⟩
 ·have h':¬(n:Int)=12:=by simpa using h
  have h:xs.length<12:=by omega
  have hR2:=hR.next hLi hw (by rw[List.length_map];exact h)
  refine jQ.FO wW (de.use (Db hc hLi hw frame) (fun v L I3 G l3 hL3 hv hG=>.inl ?_) fun f e I3 G l3 hd hf=>.inr (di.pass hf fun e' hf'=>.inr ⟨f,hR2.dead hd,hf'.more⟩))
  obtain⟨r,rfl,hpr,hOr⟩:=hv
  refine⟨_,_,_,_,_,rfl,L++(A++(dH xs.length hs++(c.px t b (c.state si).2::F0))),hG.trans (cV fun z=>by simp only[cW,cX,c7];omega),fun b1 I4 l4 hb1=>?_⟩
  refine dk.mono (GO (R0:=[]) (Hx:=L) (x:=r) (F:=c.px t b (c.state si).2::F0) ⟨A,hs,hA,hO,.refl _⟩ hb1 hOr (.refl _) (by omega)) fun v I5 G2 l5 ⟨ra,rn,rk,hv,F3,hG3,hP⟩=>?_
  refine⟨ra,rn,rk,hv,F3,hG3,12-(xs.length+1),by omega,xs++[r],(c.state si).2,hL3,by rw[List.length_append,List.length_singleton], ?_,hP⟩
  rw[List.map_append,List.map_singleton,hpr];exact hR2
 ·have hres:=hR.stop hw
  rw[hres]
  exact .inl ⟨hLi,_,A++dH n hs,rfl,⟨a,n,k,xs,rfl,hnl,rfl,A,hs,rfl,hA,fun h=>(by cases h),hO⟩,by rw[hnl];exact frame⟩
def GP(x:fT)(v:Value)(H:cR):Prop:=∃r:dV,v=r.v∧r.p=x∧nT false r H
def PC.rH(c:PC)(nm:ByteArray)(rs:List fp)(ss:List dp)(ts:List dF)(s:PS):fT×PS:=(⟨nm,rs,ss,ts⟩,(c.take (⟨#[125]⟩:ByteArray) (if ts.length=0 then c.da 130 s else s)).2)
def PC.ur(c:PC)(nm:ByteArray)(rs:List fp)(ss:List dp)(s:PS):fT×PS:=c.rH nm rs ss (c.list (⟨#[115,116,97,116,101]⟩:ByteArray) 12 c.state s).1 (c.list (⟨#[115,116,97,116,101]⟩:ByteArray) 12 c.state s).2
def PC.uu(c:PC)(nm:ByteArray)(rs:List fp)(s:PS):fT×PS:=c.ur nm rs (c.list (⟨#[115,108,111,116]⟩:ByteArray) 4 c.slot s).1 (c.list (⟨#[115,108,111,116]⟩:ByteArray) 4 c.slot s).2
def PC.rI(c:PC)(nm:ByteArray)(s:PS):fT×PS:=c.uu nm (c.list (⟨#[114,101,103]⟩:ByteArray) 12 c.kM s).1 (c.list (⟨#[114,101,103]⟩:ByteArray) 12 c.kM s).2
def PC.body(c:PC)(s:PS):fT×PS:=c.rI (c.name (c.take (⟨#[115,116,114,97,116,101,103,121]⟩:ByteArray) s).2).1 (c.take (⟨#[123]⟩:ByteArray) (c.name (c.take (⟨#[115,116,114,97,116,101,103,121]⟩:ByteArray) s).2).2).2
theorem Kp.rH(nm:ByteArray)(rs:List fp)(ss:List dp)(ts:List dF){f:PF}:Kp c f (c.rH nm rs ss ts):=fun s h=>by
 refine PC.dP.take ?_ _
 split
 ·exact h.da _
 ·exact h
theorem Kp.ur(nm:ByteArray)(rs:List fp)(ss:List dp){f:PF}:Kp c f (c.ur nm rs ss):=fun s h=>Kp.rH _ _ _ _ _ (Kp.list _ _ _ s h)
theorem Kp.uu(nm:ByteArray)(rs:List fp){f:PF}:Kp c f (c.uu nm rs):=fun s h=>Kp.ur _ _ _ _ (Kp.list _ _ _ s h)
theorem Kp.rI(nm:ByteArray){f:PF}:Kp c f (c.rI nm):=fun s h=>Kp.uu _ _ _ (Kp.list _ _ _ s h)
theorem yy(hc:c.Of t)(hl:c.Live s){I:cS}(hF:F.Perm (c.px t b s::F0)) :
  cU P 27 #[.pointer (some ⟨b,0,none⟩)] I F (de c t b GP F0 (c.body s)):=by
 unfold PC.body
 refine fm.vc ?_
 unfold fm.V
 intro b0 b1 I1 l1 hb1
 refine de.use (eS hc hl hb1 (wO hF)) (fun v K I2 G l2 hL2 hv hG=>.inl ?_) fun f e I2 G l2 hd hf=>.inr (di.dC [_] hf fun e' G' hf'=>.inr ⟨f,Kp.rI _ _ (hd.name.take _),hf'⟩)
 obtain⟨⟨i2,rfl⟩,rfl⟩:=hv
 refine⟨_,rfl,c.px t b (c.take (⟨#[115,116,114,97,116,101,103,121]⟩:ByteArray) s).2::F0,hG.trans (cV fun z=>by simp only[cW,cX,c7];omega), ?_⟩
 refine de.use (j3 hc hL2 (wO (.refl _))) (fun v K I3 G l3 hL3 hv hG=>.inl ?_) fun f e I3 G l3 hd hf=>.inr (di.dC [_] hf fun e' G' hf'=>.inr ⟨f,Kp.rI _ _ (hd.take _),hf'⟩)
 obtain⟨rfl,rfl⟩:=hv
 generalize hq:c.name (c.take (⟨#[115,116,114,97,116,101,103,121]⟩:ByteArray) s).2=q at hL3 hG
 obtain⟨nm,s3⟩:=q
 refine⟨_,rfl,c.px t b s3::F0,hG.trans (cV fun z=>by simp only[cW,cX,c7];omega),fun bs b2 I4 l4 hb2=>?_⟩
 refine de.use (eS hc hL3 hb2 (gK (.refl _))) (fun v K I5 G l5 hL5 hv hG=>.inl ?_) fun f e I5 G l5 hd hf=>.inr (eZ (A:=[]) (Kp.rI _ _ hd) hf)
 obtain⟨⟨i5,rfl⟩,rfl⟩:=hv
 generalize (c.take (⟨#[123]⟩:ByteArray) s3).2=s4 at hL5 hG
 refine⟨_,rfl,_,ft (A:=[]) hG, ?_⟩
 have e1:c.rI nm s4=c.uu nm (c.list (⟨#[114,101,103]⟩:ByteArray) 12 c.kM s4).1 (c.list (⟨#[114,101,103]⟩:ByteArray) 12 c.kM s4).2:=rfl
 rw[e1]
 refine de.use (BU hc hL5 (gK (.refl _))) (fun v K I6 G l6 hL6 hv hG=>.inl ?_) fun f e I6 G l6 hd hf=>.inr (eZ (A:=[]) (Kp.uu _ _ _ hd) hf)
 obtain⟨a1,n1,k1,l1',rfl,rfl,hp1,hO1⟩:=hv
 generalize c.list (⟨#[114,101,103]⟩:ByteArray) 12 c.kM s4=r1 at hL6 hG hp1
 refine⟨_,_,_,rfl,_,ft (A:=[]) hG, ?_⟩
 have e2:c.uu nm r1.1 r1.2=c.ur nm r1.1 (c.list (⟨#[115,108,111,116]⟩:ByteArray) 4 c.slot r1.2).1 (c.list (⟨#[115,108,111,116]⟩:ByteArray) 4 c.slot r1.2).2:=rfl
 rw[e2]
 refine de.use (z1 hc hL6 (gK (.refl _))) (fun v L I7 G l7 hL7 hv hG=>.inl ?_) fun f e I7 G l7 hd hf=>.inr (eZ (Kp.ur _ _ _ _ hd) hf)
 obtain⟨a2,n2,k2,l2',rfl,rfl,hp2,hO2⟩:=hv
 generalize c.list (⟨#[115,108,111,116]⟩:ByteArray) 4 c.slot r1.2=r2 at hL7 hG hp2
 refine⟨_,_,_,rfl,_,ft hG, ?_⟩
 have e3:c.ur nm r1.1 r2.1 r2.2=c.rH nm r1.1 r2.1 (c.list (⟨#[115,116,97,116,101]⟩:ByteArray) 12 c.state r2.2).1 (c.list (⟨#[115,116,97,116,101]⟩:ByteArray) 12 c.state r2.2).2:=rfl
 rw[e3]
 refine de.use (yx hc hL7 (gK (.refl _))) (fun v M I8 G l8 hL8 hv hG=>.inl ?_) fun f e I8 G l8 hd hf=>.inr (eZ (Kp.rH _ _ _ _ _ hd) hf)
 obtain⟨a3,n3,k3,l3',rfl,rfl,hp3,hO3⟩:=hv
 generalize c.list (⟨#[115,116,97,116,101]⟩:ByteArray) 12 c.state r2.2=r3 at hL8 hG hp3
 have hlen:r3.1.length=l3'.length:=by rw[←hp3,List.length_map]
 have e4:c.rH nm r1.1 r2.1 r3.1 r3.2=(⟨nm,r1.1,r2.1,r3.1⟩,(c.take (⟨#[125]⟩:ByteArray) (if l3'.length=0 then c.da 130 r3.2 else r3.2)).2):=by unfold PC.rH;rw[hlen]
 rw[e4]
 refine⟨_,_,_,rfl,_,ft hG,fun h=>?_,fun h=>?_⟩
 ·have h':(l3'.length:Int)=0:=by simpa using h
  have h:l3'.length=0:=by omega
  rw[if_pos h]
  refine (fI (dY.of (gK (.refl _))) 130).mono fun e I9 G l9 hf=>.inr ?_
  exact eZ ((hL8.da (by decide)).2.take _) (hf.tail (gK (.refl _)))
 ·have h:¬l3'.length=0:=fun h0=>by rw[h0] at h;exact absurd h (by decide)
  rw[if_neg h]
  intro b4 I9 l9 hb4
  refine de.use (eS hc hL8 hb4 (gK (.refl _))) (fun v N I10 G l10 hL10 hv hG=>.inl ?_) fun f e I10 G l10 hd hf=>.inr (eZ hd hf)
  obtain⟨⟨i10,rfl⟩,rfl⟩:=hv
  refine⟨_,rfl,_,ft hG,.inl ⟨hL10,_,K++(L++M),rfl,⟨⟨nm,a1,k1,l1',a2,k2,l2',a3,k3,l3'⟩,rfl, ?_,K,L,M,rfl,hO1,hO2,hO3⟩,cV fun z=>by simp only[cW,cX,c7];omega⟩⟩
  rw[List.map_id] at hp2
  simp only[dV.p,hp1,hp2,hp3]
end
end Go.Lx
namespace Go.Lx
open Go.Vc Go.Proofs.Tryz
def uv:List (Nat×List Sh):=[(0,[]),(9,[.one .str]),(43,[.agg [.str,.slc,.slc,.slc]]),(45,[.one .any]),(46,[.agg [.str,.slc,.slc,.slc],.one .any]),(64,[.agg [(.int .u8),(.int .u8),(.int .u8),(.int .i64),(.int .u8),.str,.slc,(.int .i64)]]),(65,[.agg [(.int .u8),(.int .u8),(.int .u8),(.int .i64),(.int .u8),.str,.slc,(.int .i64)],.one .any]),(74,[.one (.int .u8)])]
def fQ.V(ka:Nat→Bs→OA→Nat→Nat→OA→Nat→Nat→OA→Nat→Nat→Nat×Obj)(e f:Nat→Nat×Obj)(vi:Int→Value)(vs:Bs→Value)(vl:OA→Nat→Nat→Value)(vp:OA→Value)(bf s:Bs)(be:Fn)(a5 a6:Array Value)(I:cS)(F:cR)(Q:cT)  : Prop:=∀a:Nat,∀c:Nat,∀d:Nat,∀b:Nat,cU P 64 (#[vp (some (⟨b,0,none⟩:Addr))]) I ((e a)::(ka c (⟨#[]⟩:Bs) none 0 0 none 0 0 none 0 0)::(f d)::((b,Obj.cells #[vs s,.int .u8 0,vs (⟨#[]⟩:Bs),.int .u8 0,vi 0,vi 0,vi 0] 143 (0,0))::F)) fun e1 I1 G1=>((e1=.returned (.tuple #[])∧∃F1:cR,List.Perm G1 ((e a)::(ka c (⟨#[]⟩:Bs) none 0 0 none 0 0 none 0 0)::(f d)::F1)∧jQ P (.func be a5 a6) [vp (some (⟨b,0,none⟩:Addr))] I1 ((e a)::(ka c (⟨#[]⟩:Bs) none 0 0 none 0 0 none 0 0)::(f d)::F1) fun e2 I2 G2=>((∃(aG:Bs) (g:OA) (h i:Nat) (j:OA) (k l:Nat) (n:OA) (o p:Nat),e2=.returned (.agg #[vs aG,vl g h i,vl j k l,vl n o p])∧∃F2:cR,List.Perm G2 ((e a)::(ka c (⟨#[]⟩:Bs) none 0 0 none 0 0 none 0 0)::(f d)::F2)∧∃ad:Addr,some (⟨b,0,none⟩:Addr)=some ad∧∃(m:Int),Rd I2 ((e a)::(ka c aG g h i j k l n o p)::(f d)::F2) ((ad.add 1).add 0) [.int .u8 m]∧(It (m != 0) (cU P 65 (#[vp (some (⟨b,0,none⟩:Addr)),vi 130]) I2 ((e a)::(ka c aG g h i j k l n o p)::(f d)::F2) fun e3 I3 G3=>((e3=.returned (.tuple #[])∧∃F3:cR,List.Perm G3 ((e a)::(ka c aG g h i j k l n o p)::(f d)::F3)∧iL P 63 [vp (some ⟨a,0,none⟩),vp (some ⟨c,0,none⟩),vp (some ⟨d,0,none⟩)] .returning I3 ((e a)::(ka c aG g h i j k l n o p)::(f d)::F3) fun e4 u I4 G4=>∃v:Value,e4=.returned v∧∃(a4 aY:Bs) (aH:OA) (aI aJ:Nat) (aK:OA) (aL aM:Nat) (aN:OA) (aO aP:Nat) (aZ:Value),∃F4:cR,List.Perm G4 ((a,Obj.cells #[vs a4] 9 (0,0))::(ka c aY aH aI aJ aK aL aM aN aO aP)::(d,Obj.cells #[aZ] 45 (0,0))::F4)∧((settle u=.returning∧Q (.returned (.tuple #[.agg #[vs aY,vl aH aI aJ,vl aK aL aM,vl aN aO aP],aZ])) I4 F4)∨(∃ch:List PanicEntry,settle u=.panicking ch∧Q (.panicked ch) I4 F4)))∨(∃a7:List PanicEntry,e3=.panicked a7∧∃F5:cR,List.Perm G3 ((e a)::(ka c aG g h i j k l n o p)::(f d)::F5)∧iL P 63 [vp (some ⟨a,0,none⟩),vp (some ⟨c,0,none⟩),vp (some ⟨d,0,none⟩)] (.panicking a7) I3 ((e a)::(ka c aG g h i j k l n o p)::(f d)::F5) fun e5 u1 I5 G5=>∃v1:Value,e5=.returned v1∧∃(a0 aQ:Bs) (q:OA) (r t:Nat) (w:OA) (x y:Nat) (z:OA) (aa ab:Nat) (aR:Value),∃F6:cR,List.Perm G5 ((a,Obj.cells #[vs a0] 9 (0,0))::(ka c aQ q r t w x y z aa ab)::(d,Obj.cells #[aR] 45 (0,0))::F6)∧((settle u1=.returning∧Q (.returned (.tuple #[.agg #[vs aQ,vl q r t,vl w x y,vl z aa ab],aR])) I5 F6)∨(∃a8:List PanicEntry,settle u1=.panicking a8∧Q (.panicked a8) I5 F6))))) (iL P 63 [vp (some ⟨a,0,none⟩),vp (some ⟨c,0,none⟩),vp (some ⟨d,0,none⟩)] .returning I2 ((e a)::(ka c aG g h i j k l n o p)::(f d)::F2) fun e6 u2 I6 G6=>∃v2:Value,e6=.returned v2∧∃(a1 aS:Bs) (ac:OA) (ae af:Nat) (ag:OA) (ah ai:Nat) (aj:OA) (ak al:Nat) (aT:Value),∃F7:cR,List.Perm G6 ((a,Obj.cells #[vs a1] 9 (0,0))::(ka c aS ac ae af ag ah ai aj ak al)::(d,Obj.cells #[aT] 45 (0,0))::F7)∧((settle u2=.returning∧Q (.returned (.tuple #[.agg #[vs aS,vl ac ae af,vl ag ah ai,vl aj ak al],aT])) I6 F7)∨(∃a9:List PanicEntry,settle u2=.panicking a9∧Q (.panicked a9) I6 F7)))))∨(∃ba:List PanicEntry,e2=.panicked ba∧∃F8:cR,List.Perm G2 ((e a)::(ka c (⟨#[]⟩:Bs) none 0 0 none 0 0 none 0 0)::(f d)::F8)∧iL P 63 [vp (some ⟨a,0,none⟩),vp (some ⟨c,0,none⟩),vp (some ⟨d,0,none⟩)] (.panicking ba) I2 ((e a)::(ka c (⟨#[]⟩:Bs) none 0 0 none 0 0 none 0 0)::(f d)::F8) fun e7 u3 I7 G7=>∃v3:Value,e7=.returned v3∧∃(a2 aU:Bs) (am:OA) (an ao:Nat) (ap:OA) (aq ar:Nat) (au:OA) (av aw:Nat) (aV:Value),∃F9:cR,List.Perm G7 ((a,Obj.cells #[vs a2] 9 (0,0))::(ka c aU am an ao ap aq ar au av aw)::(d,Obj.cells #[aV] 45 (0,0))::F9)∧((settle u3=.returning∧Q (.returned (.tuple #[.agg #[vs aU,vl am an ao,vl ap aq ar,vl au av aw],aV])) I7 F9)∨(∃bb:List PanicEntry,settle u3=.panicking bb∧Q (.panicked bb) I7 F9)))))∨(∃bc:List PanicEntry,e1=.panicked bc∧∃F10:cR,List.Perm G1 ((e a)::(ka c (⟨#[]⟩:Bs) none 0 0 none 0 0 none 0 0)::(f d)::F10)∧iL P 63 [vp (some ⟨a,0,none⟩),vp (some ⟨c,0,none⟩),vp (some ⟨d,0,none⟩)] (.panicking bc) I1 ((e a)::(ka c (⟨#[]⟩:Bs) none 0 0 none 0 0 none 0 0)::(f d)::F10) fun e8 u4 I8 G8=>∃v4:Value,e8=.returned v4∧∃(a3 aW:Bs) (ax:OA) (ay az:Nat) (aA:OA) (aB aC:Nat) (aD:OA) (aE aF:Nat) (aX:Value),∃F11:cR,List.Perm G8 ((a,Obj.cells #[vs a3] 9 (0,0))::(ka c aW ax ay az aA aB aC aD aE aF)::(d,Obj.cells #[aX] 45 (0,0))::F11)∧((settle u4=.returning∧Q (.returned (.tuple #[.agg #[vs aW,vl ax ay az,vl aA aB aC,vl aD aE aF],aX])) I8 F11)∨(∃bd:List PanicEntry,settle u4=.panicking bd∧Q (.panicked bd) I8 F11))))
theorem fQ.vc{m s:Bs}{n:Fn}{k l:Array Value}{I:cS}{F:cR}{Q:cT}  (h:fQ.V (fun W a b c d e f g h i j=>(W,Obj.cells #[.string a,.slice b c d,.slice e f g,.slice h i j] 43 (0,0))) (fun b=>(b,Obj.cells #[.string m] 9 (0,0))) (fun b=>(b,Obj.cells #[Value.nilIface] 45 (0,0))) (.int .i64) .string .slice .pointer m s n k l I F Q):cU P 26 #[.string m,.string s,.func n k l] I F Q :=
 tw (A:=(dy [5005] [0,64,65] [63,64,65] uv [] [] [2002] [] [4002] [] [])) [63,64,65] func26 h
def jc.V(e f:Nat→Nat×Obj)(nV:Int→Int→Int→Int→Int→Bs→OA→Nat→Nat→Int→Value)(nO:Int→Int→Int→Int→Int→Bs→OA→Nat→Nat→Int→Obj)(vi:Int→Value)(vs:Bs→Value)(vp:OA→Value)(bf s:Bs)(be:Fn)(a5 a6:Array Value)(I:cS)(F:cR)(Q:cT)  : Prop:=∀a:Nat,∀c:Nat,∀d:Nat,∀b:Nat,cU P 64 (#[vp (some (⟨b,0,none⟩:Addr))]) I ((e a)::(c,nO 0 0 0 0 0 (⟨#[]⟩:Bs) none 0 0 0)::(f d)::((b,Obj.cells #[vs s,.int .u8 0,vs (⟨#[]⟩:Bs),.int .u8 0,vi 0,vi 0,vi 0] 143 (0,0))::F)) fun e1 I1 G1=>((e1=.returned (.tuple #[])∧∃F1:cR,List.Perm G1 ((e a)::(c,nO 0 0 0 0 0 (⟨#[]⟩:Bs) none 0 0 0)::(f d)::F1)∧jQ P (.func be a5 a6) [vp (some (⟨b,0,none⟩:Addr))] I1 ((e a)::(c,nO 0 0 0 0 0 (⟨#[]⟩:Bs) none 0 0 0)::(f d)::F1) fun e2 I2 G2=>((∃(z aa ab ac ae:Int) (af:Bs) (g:OA) (h i:Nat) (ag:Int),e2=.returned (nV z aa ab ac ae af g h i ag)∧∃F2:cR,List.Perm G2 ((e a)::(c,nO 0 0 0 0 0 (⟨#[]⟩:Bs) none 0 0 0)::(f d)::F2)∧∃ad:Addr,some (⟨b,0,none⟩:Addr)=some ad∧∃(m:Int),Rd I2 ((e a)::(c,nO z aa ab ac ae af g h i ag)::(f d)::F2) ((ad.add 1).add 0) [.int .u8 m]∧(It (m != 0) (cU P 65 (#[vp (some (⟨b,0,none⟩:Addr)),vi 130]) I2 ((e a)::(c,nO z aa ab ac ae af g h i ag)::(f d)::F2) fun e3 I3 G3=>((e3=.returned (.tuple #[])∧∃F3:cR,List.Perm G3 ((e a)::(c,nO z aa ab ac ae af g h i ag)::(f d)::F3)∧iL P 89 [vp (some ⟨a,0,none⟩),vp (some ⟨c,0,none⟩),vp (some ⟨d,0,none⟩)] .returning I3 ((e a)::(c,nO z aa ab ac ae af g h i ag)::(f d)::F3) fun e4 u I4 G4=>∃v:Value,e4=.returned v∧∃(a4:Bs) (aS aT aU aV aW:Int) (aX:Bs) (ah:OA) (ai aj:Nat) (aY:Int) (aZ:Value),∃F4:cR,List.Perm G4 ((a,Obj.cells #[vs a4] 9 (0,0))::(c,nO aS aT aU aV aW aX ah ai aj aY)::(d,Obj.cells #[aZ] 45 (0,0))::F4)∧((settle u=.returning∧Q (.returned (.tuple #[nV aS aT aU aV aW aX ah ai aj aY,aZ])) I4 F4)∨(∃ch:List PanicEntry,settle u=.panicking ch∧Q (.panicked ch) I4 F4)))∨(∃a7:List PanicEntry,e3=.panicked a7∧∃F5:cR,List.Perm G3 ((e a)::(c,nO z aa ab ac ae af g h i ag)::(f d)::F5)∧iL P 89 [vp (some ⟨a,0,none⟩),vp (some ⟨c,0,none⟩),vp (some ⟨d,0,none⟩)] (.panicking a7) I3 ((e a)::(c,nO z aa ab ac ae af g h i ag)::(f d)::F5) fun e5 u1 I5 G5=>∃v1:Value,e5=.returned v1∧∃(a0:Bs) (ak al am an ao:Int) (ap:Bs) (j:OA) (k l:Nat) (aq:Int) (ar:Value),∃F6:cR,List.Perm G5 ((a,Obj.cells #[vs a0] 9 (0,0))::(c,nO ak al am an ao ap j k l aq)::(d,Obj.cells #[ar] 45 (0,0))::F6)∧((settle u1=.returning∧Q (.returned (.tuple #[nV ak al am an ao ap j k l aq,ar])) I5 F6)∨(∃a8:List PanicEntry,settle u1=.panicking a8∧Q (.panicked a8) I5 F6))))) (iL P 89 [vp (some ⟨a,0,none⟩),vp (some ⟨c,0,none⟩),vp (some ⟨d,0,none⟩)] .returning I2 ((e a)::(c,nO z aa ab ac ae af g h i ag)::(f d)::F2) fun e6 u2 I6 G6=>∃v2:Value,e6=.returned v2∧∃(a1:Bs) (au av aw ax ay:Int) (az:Bs) (n:OA) (o p:Nat) (aA:Int) (aB:Value),∃F7:cR,List.Perm G6 ((a,Obj.cells #[vs a1] 9 (0,0))::(c,nO au av aw ax ay az n o p aA)::(d,Obj.cells #[aB] 45 (0,0))::F7)∧((settle u2=.returning∧Q (.returned (.tuple #[nV au av aw ax ay az n o p aA,aB])) I6 F7)∨(∃a9:List PanicEntry,settle u2=.panicking a9∧Q (.panicked a9) I6 F7)))))∨(∃ba:List PanicEntry,e2=.panicked ba∧∃F8:cR,List.Perm G2 ((e a)::(c,nO 0 0 0 0 0 (⟨#[]⟩:Bs) none 0 0 0)::(f d)::F8)∧iL P 89 [vp (some ⟨a,0,none⟩),vp (some ⟨c,0,none⟩),vp (some ⟨d,0,none⟩)] (.panicking ba) I2 ((e a)::(c,nO 0 0 0 0 0 (⟨#[]⟩:Bs) none 0 0 0)::(f d)::F8) fun e7 u3 I7 G7=>∃v3:Value,e7=.returned v3∧∃(a2:Bs) (aC aD aE aF aG:Int) (aH:Bs) (q:OA) (r t:Nat) (aI:Int) (aJ:Value),∃F9:cR,List.Perm G7 ((a,Obj.cells #[vs a2] 9 (0,0))::(c,nO aC aD aE aF aG aH q r t aI)::(d,Obj.cells #[aJ] 45 (0,0))::F9)∧((settle u3=.returning∧Q (.returned (.tuple #[nV aC aD aE aF aG aH q r t aI,aJ])) I7 F9)∨(∃bb:List PanicEntry,settle u3=.panicking bb∧Q (.panicked bb) I7 F9)))))∨(∃bc:List PanicEntry,e1=.panicked bc∧∃F10:cR,List.Perm G1 ((e a)::(c,nO 0 0 0 0 0 (⟨#[]⟩:Bs) none 0 0 0)::(f d)::F10)∧iL P 89 [vp (some ⟨a,0,none⟩),vp (some ⟨c,0,none⟩),vp (some ⟨d,0,none⟩)] (.panicking bc) I1 ((e a)::(c,nO 0 0 0 0 0 (⟨#[]⟩:Bs) none 0 0 0)::(f d)::F10) fun e8 u4 I8 G8=>∃v4:Value,e8=.returned v4∧∃(a3:Bs) (aK aL aM aN aO:Int) (aP:Bs) (w:OA) (x y:Nat) (aQ:Int) (aR:Value),∃F11:cR,List.Perm G8 ((a,Obj.cells #[vs a3] 9 (0,0))::(c,nO aK aL aM aN aO aP w x y aQ)::(d,Obj.cells #[aR] 45 (0,0))::F11)∧((settle u4=.returning∧Q (.returned (.tuple #[nV aK aL aM aN aO aP w x y aQ,aR])) I8 F11)∨(∃bd:List PanicEntry,settle u4=.panicking bd∧Q (.panicked bd) I8 F11))))
theorem jc.vc{g s:Bs}{i:Fn}{d e:Array Value}{I:cS}{F:cR}{Q:cT}  (h:jc.V (fun b=>(b,Obj.cells #[.string g] 9 (0,0))) (fun b=>(b,Obj.cells #[Value.nilIface] 45 (0,0))) (fun k o t n f s a l c q=>.agg #[.int .u8 k,.int .u8 o,.int .u8 t,.int .i64 n,.int .u8 f,.string s,.slice a l c,.int .i64 q]) (fun k o t n f s a l c q=>.cells #[.int .u8 k,.int .u8 o,.int .u8 t,.int .i64 n,.int .u8 f,.string s,.slice a l c,.int .i64 q] 64 (0,0)) (.int .i64) .string .pointer g s i d e I F Q):cU P 45 #[.string g,.string s,.func i d e] I F Q :=
 tw (A:=(dy [5005] [0,64,65] [64,65,89] uv [] [] [2002] [] [4002] [] [])) [64,65,89] func45 h
def jH.V(vs:Bs→Value)(vl:OA→Nat→Nat→Value)(s:Bs)(I:cS)(F:cR)(Q:cT)  : Prop:=∀b:Nat,eg P 26 (#[vs (⟨#[83,116,114,97,116,101,103,121]⟩:Bs),vs s,.func (.func 27) #[] #[]]) I ((b,Obj.cells #[vs (⟨#[]⟩:Bs),vl none 0 0,vl none 0 0,vl none 0 0] 43 (0,0))::·) F fun e1 I1 G1=>∃(k:Bs) (a:OA) (c d:Nat) (e:OA) (f g:Nat) (h:OA) (i j:Nat) (r1:Value),e1=.returned (.tuple #[.agg #[vs k,vl a c d,vl e f g,vl h i j],r1])∧G1 fun F1=>Q (.returned (.tuple #[.agg #[vs k,vl a c d,vl e f g,vl h i j],r1])) I1 (F1)
theorem jH.vc{s:Bs}{I:cS}{F:cR}{Q:cT}  (h:jH.V .string .slice s I F Q):cU P 10 #[.string s] I F Q :=
 tw (A:=(an [] [26] uv)) [26] func10 h
def ni.V(nV:Int→Int→Int→Int→Int→Bs→OA→Nat→Nat→Int→Value)(nO:Int→Int→Int→Int→Int→Bs→OA→Nat→Nat→Int→Obj)(s:Bs)(I:cS)(F:cR)(Q:cT)  : Prop:=∀b:Nat,eg P 45 (#[.string (⟨#[69,120,112,114]⟩:Bs),.string s,.func (.func 46) #[] #[]]) I ((b,nO 0 0 0 0 0 (⟨#[]⟩:Bs) none 0 0 0)::·) F fun e1 I1 G1=>∃(e f g h i:Int) (j:Bs) (a:OA) (c d:Nat) (k:Int) (r1:Value),e1=.returned (.tuple #[nV e f g h i j a c d k,r1])∧G1 fun F1=>Q (.returned (.tuple #[nV e f g h i j a c d k,r1])) I1 (F1)
theorem ni.vc{s:Bs}{I:cS}{F:cR}{Q:cT}  (h:ni.V (fun k o t n f s a l c q=>.agg #[.int .u8 k,.int .u8 o,.int .u8 t,.int .i64 n,.int .u8 f,.string s,.slice a l c,.int .i64 q]) (fun k o t n f s a l c q=>.cells #[.int .u8 k,.int .u8 o,.int .u8 t,.int .i64 n,.int .u8 f,.string s,.slice a l c,.int .i64 q] 64 (0,0)) s I F Q):cU P 16 #[.string s] I F Q :=
 tw (A:=(an [] [45] uv)) [45] func16 h
def kH.V(nV:Int→Int→Int→Int→Int→Bs→OA→Nat→Nat→Int→Value)(nO:Int→Int→Int→Int→Int→Bs→OA→Nat→Nat→Int→Obj)(p:Addr)(I:cS)(F:cR)(Q:cT)  : Prop:=∀b:Nat,cU P 47 (#[.pointer (some p),.int .i64 0]) I ((b,nO 0 0 0 0 0 (⟨#[]⟩:Bs) none 0 0 0)::F) fun e1 I1 G1=>((∃(e f g h i:Int) (j:Bs) (a:OA) (c d:Nat) (k:Int),e1=.returned (nV e f g h i j a c d k)∧∃F1:cR,List.Perm G1 ((b,nO 0 0 0 0 0 (⟨#[]⟩:Bs) none 0 0 0)::F1)∧Q (.returned (nV e f g h i j a c d k)) I1 F1)∨(∃ch:List PanicEntry,e1=.panicked ch∧∃F2:cR,List.Perm G1 ((b,nO 0 0 0 0 0 (⟨#[]⟩:Bs) none 0 0 0)::F2)∧Q (.panicked ch) I1 F2))
theorem kH.vc{p:Addr}{I:cS}{F:cR}{Q:cT}  (h:kH.V (fun k o t n f s a l c q=>.agg #[.int .u8 k,.int .u8 o,.int .u8 t,.int .i64 n,.int .u8 f,.string s,.slice a l c,.int .i64 q]) (fun k o t n f s a l c q=>.cells #[.int .u8 k,.int .u8 o,.int .u8 t,.int .i64 n,.int .u8 f,.string s,.slice a l c,.int .i64 q] 64 (0,0)) p I F Q):cU P 46 #[.pointer (some p)] I F Q :=
 tw (A:=(dy [] [47] [47] uv [] [] [] [] [] [] [])) [47] func46 h
def wX:List (Nat×List Sh):=[]
def jg.V(m:Nat)(c:Bs)(k:Nat)(n:Bs)(a:OA)(b d:Nat)(e:OA)(f g:Nat)(h:OA)(i j l:Nat)(c1:Value)(I:cS)(F:cR)(Q:cT)  : Prop:=Q (.returned (.tuple #[])) I ((m,Obj.cells #[.string c] 9 (0,0))::(k,Obj.cells #[.string n,.slice a b d,.slice e f g,.slice h i j] 43 (0,0))::(l,Obj.cells #[c1] 45 (0,0))::F)
theorem jg.vc{q:Nat}{c:Bs}{b:Nat}{r:Bs}{f:OA}{g i:Nat}{j:OA}{k l:Nat}{m:OA}{n o d:Nat}{c1:Value}{u u1:FrameMode}(s:ns u (Value.nilIface) u1){I:cS}{F:cR}{Q:cT}  (h:jg.V q c b r f g i j k l m n o d c1 I F Q):iL P 63 [.pointer (some ⟨q,0,none⟩),.pointer (some ⟨b,0,none⟩),.pointer (some ⟨d,0,none⟩)] u I ((q,Obj.cells #[.string c] 9 (0,0))::(b,Obj.cells #[.string r,.slice f g i,.slice j k l,.slice m n o] 43 (0,0))::(d,Obj.cells #[c1] 45 (0,0))::F) (fun e u' I' G=>u'=u1∧Q e I' G) :=
 oy (A:=(an [] [] wX)) (args:=[.a (.p 0 q 0),.a (.p 1 b 0),.a (.p 2 d 0)]) (own:=[⟨q,9,false,[.a (.v (.string c))]⟩,⟨b,43,false,[.a (.v (.string r)),.a (.v (.slice f g i)),.a (.v (.slice j k l)),.a (.v (.slice m n o))]⟩,⟨d,45,false,[.a (.v c1)]⟩]) (keep:=[0,1,2]) [] func63 s h (by kernel_rfl) (by kernel_rfl) (by kernel_rfl) (by kernel_rfl) (by kernel_rfl) (by simp[AV.wf,At.wf]) (by simp[AV.wf,At.wf]) rfl
def jh.V(d:Nat)(c:Bs)(a:Nat)(o:Bs)(f:OA)(g h:Nat)(i:OA)(j k:Nat)(l:OA)(m n b:Nat)(c1:Value)(fb:Nat)(I:cS)(F:cR)(Q:cT)  : Prop:=∀e:Nat,∃ad:Addr,some ⟨fb,0,none⟩=some ad∧∃(cs:List Value) (el:Nat) (F1:cR),List.Perm F (((ad.add 0).block,Obj.cells cs.toArray el (0,0))::F1)∧(ad.add 0).spot=none∧(ad.add 0).off+1≤cs.length∧Q (.returned (.tuple #[])) I ((d,Obj.cells #[.string c] 9 (0,0))::(a,Obj.cells #[.string (⟨#[]⟩:Bs),.slice none 0 0,.slice none 0 0,.slice none 0 0] 43 (0,0))::(b,Obj.cells #[Value.iface 97 (.pointer (some ⟨fb,0,none⟩))] 45 (0,0))::(((ad.add 0).block,Obj.cells (cY (ad.add 0).off [.string c] cs).toArray el (0,0))::F1))
theorem jh.vc{q:Nat}{c:Bs}{b:Nat}{r:Bs}{f:OA}{g i:Nat}{j:OA}{k l:Nat}{m:OA}{n o d:Nat}{c1:Value}{fb:Nat}{u u1:FrameMode}(s:ns u (Value.iface 97 (.pointer (some ⟨fb,0,none⟩))) u1){I:cS}{F:cR}{Q:cT}  (h:jh.V q c b r f g i j k l m n o d c1 fb I F Q):iL P 63 [.pointer (some ⟨q,0,none⟩),.pointer (some ⟨b,0,none⟩),.pointer (some ⟨d,0,none⟩)] u I ((q,Obj.cells #[.string c] 9 (0,0))::(b,Obj.cells #[.string r,.slice f g i,.slice j k l,.slice m n o] 43 (0,0))::(d,Obj.cells #[c1] 45 (0,0))::F) (fun e u' I' G=>u'=u1∧Q e I' G) :=
 oy (A:=(an [] [] wX)) (args:=[.a (.p 0 q 0),.a (.p 1 b 0),.a (.p 2 d 0)]) (own:=[⟨q,9,false,[.a (.v (.string c))]⟩,⟨b,43,false,[.a (.v (.string r)),.a (.v (.slice f g i)),.a (.v (.slice j k l)),.a (.v (.slice m n o))]⟩,⟨d,45,false,[.a (.v c1)]⟩]) (keep:=[0,1,2]) [] func63 s h (by kernel_rfl) (by kernel_rfl) (by kernel_rfl) (by kernel_rfl) (by kernel_rfl) (by simp[AV.wf,At.wf]) (by simp[AV.wf,At.wf]) rfl
def k9.V(vb:Int→Value)(g:Nat)(c:Bs)(e:Nat)(h i j k l:Int)(m:Bs)(a:OA)(b d:Nat)(n:Int)(f:Nat)(c1:Value)(I:cS)(F:cR)(Q:cT)  : Prop:=Q (.returned (.tuple #[])) I ((g,Obj.cells #[.string c] 9 (0,0))::(e,Obj.cells #[vb h,vb i,vb j,.int .i64 k,vb l,.string m,.slice a b d,.int .i64 n] 64 (0,0))::(f,Obj.cells #[c1] 45 (0,0))::F)
theorem k9.vc{j:Nat}{c:Bs}{b:Nat}{k l m n o:Int}{q:Bs}{f:OA}{g i:Nat}{r:Int}{d:Nat}{c1:Value}{u u1:FrameMode}(s:ns u (Value.nilIface) u1){I:cS}{F:cR}{Q:cT}  (h:k9.V (.int .u8) j c b k l m n o q f g i r d c1 I F Q):iL P 89 [.pointer (some ⟨j,0,none⟩),.pointer (some ⟨b,0,none⟩),.pointer (some ⟨d,0,none⟩)] u I ((j,Obj.cells #[.string c] 9 (0,0))::(b,Obj.cells #[.int .u8 k,.int .u8 l,.int .u8 m,.int .i64 n,.int .u8 o,.string q,.slice f g i,.int .i64 r] 64 (0,0))::(d,Obj.cells #[c1] 45 (0,0))::F) (fun e u' I' G=>u'=u1∧Q e I' G) :=
 oy (A:=(an [] [] wX)) (args:=[.a (.p 0 j 0),.a (.p 1 b 0),.a (.p 2 d 0)]) (own:=[⟨j,9,false,[.a (.v (.string c))]⟩,⟨b,64,false,[.a (.v (.int .u8 k)),.a (.v (.int .u8 l)),.a (.v (.int .u8 m)),.a (.v (.int .i64 n)),.a (.v (.int .u8 o)),.a (.v (.string q)),.a (.v (.slice f g i)),.a (.v (.int .i64 r))]⟩,⟨d,45,false,[.a (.v c1)]⟩]) (keep:=[0,1,2]) [] func89 s h (by kernel_rfl) (by kernel_rfl) (by kernel_rfl) (by kernel_rfl) (by kernel_rfl) (by simp[AV.wf,At.wf]) (by simp[AV.wf,At.wf]) rfl
def lb.V(vb:Int→Value)(d:Nat)(c:Bs)(a:Nat)(i j k l m:Int)(n:Bs)(f:OA)(g h:Nat)(o:Int)(b:Nat)(c1:Value)(fb:Nat)(I:cS)(F:cR)(Q:cT)  : Prop:=∀e:Nat,∃ad:Addr,some ⟨fb,0,none⟩=some ad∧∃(cs:List Value) (el:Nat) (F1:cR),List.Perm F (((ad.add 0).block,Obj.cells cs.toArray el (0,0))::F1)∧(ad.add 0).spot=none∧(ad.add 0).off+1≤cs.length∧Q (.returned (.tuple #[])) I ((d,Obj.cells #[.string c] 9 (0,0))::(a,Obj.cells #[vb 0,vb 0,vb 0,.int .i64 0,vb 0,.string (⟨#[]⟩:Bs),.slice none 0 0,.int .i64 0] 64 (0,0))::(b,Obj.cells #[Value.iface 97 (.pointer (some ⟨fb,0,none⟩))] 45 (0,0))::(((ad.add 0).block,Obj.cells (cY (ad.add 0).off [.string c] cs).toArray el (0,0))::F1))
theorem lb.vc{j:Nat}{c:Bs}{b:Nat}{k l m n o:Int}{q:Bs}{f:OA}{g i:Nat}{r:Int}{d:Nat}{c1:Value}{fb:Nat}{u u1:FrameMode}(s:ns u (Value.iface 97 (.pointer (some ⟨fb,0,none⟩))) u1){I:cS}{F:cR}{Q:cT}  (h:lb.V (.int .u8) j c b k l m n o q f g i r d c1 fb I F Q):iL P 89 [.pointer (some ⟨j,0,none⟩),.pointer (some ⟨b,0,none⟩),.pointer (some ⟨d,0,none⟩)] u I ((j,Obj.cells #[.string c] 9 (0,0))::(b,Obj.cells #[.int .u8 k,.int .u8 l,.int .u8 m,.int .i64 n,.int .u8 o,.string q,.slice f g i,.int .i64 r] 64 (0,0))::(d,Obj.cells #[c1] 45 (0,0))::F) (fun e u' I' G=>u'=u1∧Q e I' G) :=
 oy (A:=(an [] [] wX)) (args:=[.a (.p 0 j 0),.a (.p 1 b 0),.a (.p 2 d 0)]) (own:=[⟨j,9,false,[.a (.v (.string c))]⟩,⟨b,64,false,[.a (.v (.int .u8 k)),.a (.v (.int .u8 l)),.a (.v (.int .u8 m)),.a (.v (.int .i64 n)),.a (.v (.int .u8 o)),.a (.v (.string q)),.a (.v (.slice f g i)),.a (.v (.int .i64 r))]⟩,⟨d,45,false,[.a (.v c1)]⟩]) (keep:=[0,1,2]) [] func89 s h (by kernel_rfl) (by kernel_rfl) (by kernel_rfl) (by kernel_rfl) (by kernel_rfl) (by simp[AV.wf,At.wf]) (by simp[AV.wf,At.wf]) rfl
end Go.Lx
namespace Go.Lx
open Go.Vc
def BW(call:ByteArray)(f:PF)(v:Value)(B:cR):Prop :=
 (f.e=0→v=.nilIface∧B=[])∧(f.e≠0→∃(b:Nat) (u:Value) (B':cR),v=.iface 97 (.pointer (some ⟨b,0,none⟩))∧Ey f u B'∧B=(b,.cells #[.string call,.int .i64 f.pos,u] 101 (0,0))::B')
def qx{α:Type}(z:α)(g:PC→PS→α×PS)(t:ByteArray):α×PF :=
 if ((dB t).end (g (dB t) (eY t)).2).over then (z,((dB t).end (g (dB t) (eY t)).2).f) else ((g (dB t) (eY t)).1,zF)
theorem PC.dP.ends{c:PC}{f:PF}{s:PS}(h:c.dP f s):(c.end s).over=true∧(c.end s).f=f:=by
 by_cases ho:s.over=true
 ·have h1:=h.1
  unfold PC.fin at h1
  rw[if_pos ho] at h1
  have:c.end s=s:=by unfold PC.end;rw[if_pos ho]
  rw[this];exact⟨ho,Option.some.inj h1⟩
 ·have h1:=h.1
  have h2:=h.2 (by simpa using ho)
  unfold PC.fin at h1
  rw[if_neg ho] at h1
  split at h1
  ·rename_i hl
   have:c.end s=⟨s.next,⟨c.bad,c.pos,true⟩⟩:=by unfold PC.end PC.da;rw[if_neg ho,if_pos (.inl hl),if_neg ho,if_pos hl]
   rw[this];exact⟨by simpa[PS.over] using h2,Option.some.inj h1⟩
  ·cases h1
theorem sg{c:PC}{f:PF}{s:PS}(h:c.dP f s):f.e≠0:=by
 have:=h.ends
 rw[←this.2];simpa[PS.over] using this.1
theorem oI{α:Type}{z:α}{g:PC→PS→α×PS}{t:ByteArray}{f:PF}(h:(dB t).dP f (g (dB t) (eY t)).2):qx z g t=(z,f):=by
 unfold qx;rw[h.ends.1,h.ends.2,if_pos rfl]
theorem vJ{α:Type}{z:α}{g:PC→PS→α×PS}{t:ByteArray}(h:(dB t).Live (g (dB t) (eY t)).2)(hk:((dB t).tok (g (dB t) (eY t)).2.next).kind≠0):qx z g t=(z,⟨130,((dB t).tok (g (dB t) (eY t)).2.next).pos,false⟩):=by
 have e:(dB t).end (g (dB t) (eY t)).2=(dB t).da 130 (g (dB t) (eY t)).2:=by unfold PC.end;rw[h.1,if_neg (by simp),if_pos (.inr hk)]
 unfold qx;rw[e,(h.da (by decide)).1];rfl
theorem AY{α:Type}{z:α}{g:PC→PS→α×PS}{t:ByteArray}(h:(dB t).Live (g (dB t) (eY t)).2)(hk:((dB t).tok (g (dB t) (eY t)).2.next).kind=0):qx z g t=((g (dB t) (eY t)).1,zF):=by
 have e:(dB t).end (g (dB t) (eY t)).2=(g (dB t) (eY t)).2:=by
  unfold PC.end;rw[h.1,if_neg (by simp),if_neg (by rintro (h1 | h1);have:=h.2;omega;exact h1 hk)]
 unfold qx;rw[e,h.1,if_neg (by simp)]
theorem Dc{t:ByteArray}(h:4096<(t.size:Int)):(dB t).dP ⟨110,0,true⟩ (eY t):=by
 have e:eY t=⟨0,⟨110,0,true⟩⟩:=by unfold eY;rw[if_pos h]
 rw[e]
 exact⟨rfl,fun h=>by cases h⟩
theorem GQ{t:ByteArray}(h:(t.size:Int)≤4096):eY t=⟨0,⟨0,0,false⟩⟩:=by unfold eY;rw[if_neg (by omega)]
theorem GR{x y z:Nat×Obj}{H F:cR}:(x::y::z::(H++F)).Perm (H++(x::y::z::F)):=cV fun z=>by simp only[cW,cX,c7];omega
theorem yz{t:ByteArray}(hs:dj t){b:Nat}{I:cS}{F F0:cR}(hF:F.Perm (pX t b (kr 0) 0::F0)) :
  cU P 64 #[.pointer (some ⟨b,0,none⟩)] I F fun e' I' G=>((t.size:Int)≤4096∧(dB t).Live (eY t)∧e'=.returned (.tuple #[])∧G.Perm ((dB t).px t b (eY t)::F0))∨∃f,(dB t).dP f (eY t)∧di f F0 e' G:=by
 by_cases h:(t.size:Int)≤4096
 ·have hc:=wN h
  have es:=GQ h
  refine (AQ h (Int.le_refl 0) (by omega) hF).mono fun e I1 G l1 hr=>?_
  rcases Nat.eq_zero_or_pos (dB t).l.length with h0 | h0
  ·obtain⟨hb,ht⟩:=hc.none h0
   rw[ht] at hr
   refine .inr ⟨_, ?_,hr⟩
   rw[es]
   exact⟨by unfold PC.fin;rw[if_neg (by decide),if_pos (by rw[h0];exact Nat.zero_le _)],fun _=>hb⟩
  ·have ht:=hc.tk h0
   have:nv (dB t).l 0 0=0:=rfl
   rw[this] at ht
   rw[ht] at hr
   exact .inl ⟨h,by rw[es];exact⟨rfl,h0⟩,hr.1,by rw[es];exact hr.2⟩
 ·have h:4096<(t.size:Int):=by omega
  exact (C5 h hs hF).mono fun e I1 G l1 hr=>.inr ⟨_,Dc h,hr⟩
def wY(call:ByteArray)(x:Px)(f:PF)(F:cR)(e:Ending)(I:cS)(G:cR):Prop:=∃(n:Nd) (v:Value) (H B X:cR),e=.returned (.tuple #[n.v,v])∧n.px=x∧eo 64 false n H∧BW call f v B∧G.Perm (H++(B++(X++F)))
theorem nj{call:ByteArray}{f:PF}{bc bo be:Nat}{n:Nd}{u:Value}{F:cR}{I:cS}{e:Ending}{G:cR}(hf:di f ((bc,.cells #[.string call] 9 (0,0))::(bo,.cells n.enc.toArray 64 (0,0))::(be,.cells #[u] 45 (0,0))::F) e G)(hn:f.e≠0) :
  ∃ch,e=.panicked ch∧∃F8:cR,G.Perm ((bc,.cells #[.string call] 9 (0,0))::(bo,.cells n.enc.toArray 64 (0,0))::(be,.cells #[u] 45 (0,0))::F8) ∧
   iL P 89 [.pointer (some ⟨bc,0,none⟩),.pointer (some ⟨bo,0,none⟩),.pointer (some ⟨be,0,none⟩)] (.panicking ch) I ((bc,.cells #[.string call] 9 (0,0))::(bo,.cells n.enc.toArray 64 (0,0))::(be,.cells #[u] 45 (0,0))::F8)
    fun e u' I' G=>settle u'=.returning∧e=.returned (.tuple #[])∧∃(v:Value) (F9:cR),G=(bc,.cells #[.string call] 9 (0,0))::(bo,.cells fW.enc.toArray 64 (0,0))::(be,.cells #[v] 45 (0,0))::F9∧wY call gO f F (.returned (.tuple #[fW.v,v])) I' F9:=by
 obtain⟨b,w,B,X,he,hu,hG⟩:=hf
 refine⟨_,he,(b,.cells #[.string ⟨#[]⟩,.int .i64 f.pos,w] 101 (0,0))::(B++(X++F)),hG.trans (cV fun z=>by simp only[cX,cW,c7];omega), ?_⟩
 refine iL.mono (lb.vc (vv _) (Q:=fun e I' G=>e=.returned (.tuple #[])∧G=(bc,.cells #[.string call] 9 (0,0))::(bo,.cells fW.enc.toArray 64 (0,0))::(be,.cells #[.iface 97 (.pointer (some ⟨b,0,none⟩))] 45 (0,0))::(b,.cells #[.string call,.int .i64 f.pos,w] 101 (0,0))::(B++(X++F))) fun bn=>?_) fun e u' I' G l ⟨hu',he,hG⟩=>?_
 ·refine⟨_,rfl,[.string ⟨#[]⟩,.int .i64 f.pos,w],101,B++(X++F),.refl _,rfl,by rw[dg];exact (by decide:0+1≤3),rfl, ?_⟩
  rw[dg];rfl
 ·subst hu'
  exact⟨rfl,he,_,_,hG,fW,_,[],(b,.cells #[.string call,.int .i64 f.pos,w] 101 (0,0))::B,X,rfl,fU,eU,⟨fun h=>absurd h hn,fun _=>⟨b,w,B,rfl,hu,rfl⟩⟩,.refl _⟩
theorem wZ{t call:ByteArray}(hs:dj t){ib:Fn}{rf rc:Array Value}{g:PC→PS→Px×PS}(hk:∀(c:PC) (f:PF),Kp c f (g c))
  (hr:∀(c:PC),c.Of t→∀(b:Nat) (s:PS) (I:cS) (F F0:cR),c.Live s→F.Perm (c.px t b s::F0)→jQ P (.func ib rf rc) [.pointer (some ⟨b,0,none⟩)] I F (de c t b qu F0 (g c s))) (I:cS) (F:cR) :
  cU P 45 #[.string call,.string t,.func ib rf rc] I F (wY call (qx gO g t).1 (qx gO g t).2 F):=by
 refine jc.vc ?_
 unfold jc.V
 intro bc bo be b
 have kd:∀{f:PF} {n:Nd} {u:Value} {e:Ending} {I1:cS} {G:cR},qx gO g t=(gO,f)→f.e≠0→di f ((bc,.cells #[.string call] 9 (0,0))::(bo,.cells n.enc.toArray 64 (0,0))::(be,.cells #[u] 45 (0,0))::F) e G→_:=fun {f n u e I1 G} h1 h2 h3=>nj (I:=I1) h3 h2
 refine (yz hs (wP (.refl _))).mono fun e I1 G l1 hd=>?_
 rcases hd with ⟨hsz,hL,rfl,hG⟩ | ⟨f,hd,hf⟩
 rotate_left
 ·have hdd:=hk (dB t) f _ hd
  obtain⟨ch,he,F8,hG,hT⟩:=nj (I:=I1) (n:=fW) hf (sg hd)
  refine .inr ⟨ch,he,F8,hG,iL.mono hT fun e u I2 G l2 ⟨hu,he,v,F9,hG,hB⟩=>?_⟩
  subst hG
  exact⟨_,he,_,_,_,_,_,_,_,_,_,_,_,_,F9,.refl _,.inl ⟨hu,by rw[oI hdd];exact hB⟩⟩
 have hc:=wN hsz
 refine .inl ⟨rfl,_,hG.trans (cV fun z=>by simp only[cW,cX,c7];omega:List.Perm _ (_::_::_::((dB t).px t b (eY t)::F))), ?_⟩
 refine jQ.mono (hr _ hc b _ I1 _ _ hL (wP (.refl _))) fun e I2 G l2 hd=>?_
 rcases hd with ⟨hL2,v,H,rfl,hv,hG⟩ | ⟨f,hd,hf⟩
 rotate_left
 ·obtain⟨ch,he,F8,hG,hT⟩:=nj (I:=I2) (n:=fW) hf (sg hd)
  refine .inr ⟨ch,he,F8,hG,iL.mono hT fun e u I3 G l3 ⟨hu,he,v,F9,hG,hB⟩=>?_⟩
  subst hG
  exact⟨_,he,_,_,_,_,_,_,_,_,_,_,_,_,F9,.refl _,.inl ⟨hu,by rw[oI hd];exact hB⟩⟩
 obtain⟨n,rfl,hpx,hO⟩:=hv
 refine .inl ⟨_,_,_,_,_,_,_,_,_,_,rfl,(dB t).px t b (g (dB t) (eY t)).2::(H++F),hG.trans (cV fun z=>by simp only[cW,cX,c7];omega), ?_⟩
 refine⟨_,rfl,_,(dY.of (I:=I2) (wP (.refl _))).rd.dE (p:=1) (q:=0) rfl,fun h=>?_,fun h=>?_⟩
 ·have h:((dB t).tok (g (dB t) (eY t)).2.next).kind≠0:=by simpa using h
  refine (fI (dY.of (wP (.refl _))) 130).mono fun e I3 G l3 hf=>.inr ?_
  have hf:=hf.tail (wP (.refl _))
  have hf:di _ ((bc,.cells #[.string call] 9 (0,0))::(bo,.cells n.enc.toArray 64 (0,0))::(be,.cells #[.nilIface] 45 (0,0))::F) e G:=di.more (A:=H) (hf.perm GR (.refl _))
  obtain⟨ch,he,F8,hG,hT⟩:=nj (I:=I3) hf (show (130:Int)≠0 by decide)
  refine⟨ch,he,F8,hG,iL.mono hT fun e u I4 G l4 ⟨hu,he,v,F9,hG,hB⟩=>?_⟩
  subst hG
  exact⟨_,he,_,_,_,_,_,_,_,_,_,_,_,_,F9,.refl _,.inl ⟨hu,by rw[vJ hL2 h];exact hB⟩⟩
 ·have h:((dB t).tok (g (dB t) (eY t)).2.next).kind=0:=by simpa using h
  refine iL.mono (k9.vc vu (Q:=fun e I' G=>e=.returned (.tuple #[])∧G=(bc,.cells #[.string call] 9 (0,0))::(bo,.cells n.enc.toArray 64 (0,0))::(be,.cells #[.nilIface] 45 (0,0))::((dB t).px t b (g (dB t) (eY t)).2::(H++F))) ⟨rfl,rfl⟩) fun e u I3 G l3 ⟨hu,he,hG⟩=>?_
  subst hu hG
  refine⟨_,he,_,_,_,_,_,_,_,_,_,_,_,_,_,.refl _,.inl ⟨rfl, ?_⟩⟩
  rw[AY hL2 h]
  exact⟨n,_,H,[],[(dB t).px t b (g (dB t) (eY t)).2],rfl,hpx,hO,⟨fun _=>⟨rfl,rfl⟩,fun h=>absurd rfl h⟩,cV fun z=>by simp only[cW,cX,c7];omega⟩
def o2:dV:=⟨⟨#[]⟩,none,0,[],none,0,[],none,0,[]⟩
def vK:fT:=⟨⟨#[]⟩,[],[],[]⟩
theorem Dd:nT false o2 []:=⟨[],[],[],rfl,⟨[],fun _=>[],rfl,Acc.nil,fun h=>(by cases h),fun i k h=>by simp[o2] at h⟩,⟨[],fun _=>[],rfl,Acc.nil,fun h=>(by cases h),fun i k h=>by simp[o2] at h⟩,[],fun _=>[],rfl,Acc.nil,fun h=>(by cases h),fun i k h=>by simp[o2] at h⟩
def n9(call:ByteArray)(x:fT)(f:PF)(F:cR)(e:Ending)(I:cS)(G:cR):Prop:=∃(n:dV) (v:Value) (H B X:cR),e=.returned (.tuple #[n.v,v])∧n.p=x∧nT false n H∧BW call f v B∧G.Perm (H++(B++(X++F)))
theorem jI{call:ByteArray}{f:PF}{bc bo be:Nat}{n:dV}{u:Value}{F:cR}{I:cS}{e:Ending}{G:cR}(hf:di f ((bc,.cells #[.string call] 9 (0,0))::(bo,.cells n.enc.toArray 43 (0,0))::(be,.cells #[u] 45 (0,0))::F) e G)(hn:f.e≠0) :
  ∃ch,e=.panicked ch∧∃F8:cR,G.Perm ((bc,.cells #[.string call] 9 (0,0))::(bo,.cells n.enc.toArray 43 (0,0))::(be,.cells #[u] 45 (0,0))::F8) ∧
   iL P 63 [.pointer (some ⟨bc,0,none⟩),.pointer (some ⟨bo,0,none⟩),.pointer (some ⟨be,0,none⟩)] (.panicking ch) I ((bc,.cells #[.string call] 9 (0,0))::(bo,.cells n.enc.toArray 43 (0,0))::(be,.cells #[u] 45 (0,0))::F8)
    fun e u' I' G=>settle u'=.returning∧e=.returned (.tuple #[])∧∃(v:Value) (F9:cR),G=(bc,.cells #[.string call] 9 (0,0))::(bo,.cells o2.enc.toArray 43 (0,0))::(be,.cells #[v] 45 (0,0))::F9∧n9 call vK f F (.returned (.tuple #[o2.v,v])) I' F9:=by
 obtain⟨b,w,B,X,he,hu,hG⟩:=hf
 refine⟨_,he,(b,.cells #[.string ⟨#[]⟩,.int .i64 f.pos,w] 101 (0,0))::(B++(X++F)),hG.trans (cV fun z=>by simp only[cX,cW,c7];omega), ?_⟩
 refine iL.mono (jh.vc (vv _) (Q:=fun e I' G=>e=.returned (.tuple #[])∧G=(bc,.cells #[.string call] 9 (0,0))::(bo,.cells o2.enc.toArray 43 (0,0))::(be,.cells #[.iface 97 (.pointer (some ⟨b,0,none⟩))] 45 (0,0))::(b,.cells #[.string call,.int .i64 f.pos,w] 101 (0,0))::(B++(X++F))) fun bn=>?_) fun e u' I' G l ⟨hu',he,hG⟩=>?_
 ·refine⟨_,rfl,[.string ⟨#[]⟩,.int .i64 f.pos,w],101,B++(X++F),.refl _,rfl,by rw[dg];exact (by decide:0+1≤3),rfl, ?_⟩
  rw[dg];rfl
 ·subst hu'
  exact⟨rfl,he,_,_,hG,o2,_,[],(b,.cells #[.string call,.int .i64 f.pos,w] 101 (0,0))::B,X,rfl,rfl,Dd,⟨fun h=>absurd h hn,fun _=>⟨b,w,B,rfl,hu,rfl⟩⟩,.refl _⟩
theorem ri{t call:ByteArray}(hs:dj t){ib:Fn}{rf rc:Array Value}{g:PC→PS→fT×PS}(hk:∀(c:PC) (f:PF),Kp c f (g c))
  (hr:∀(c:PC),c.Of t→∀(b:Nat) (s:PS) (I:cS) (F F0:cR),c.Live s→F.Perm (c.px t b s::F0)→jQ P (.func ib rf rc) [.pointer (some ⟨b,0,none⟩)] I F (de c t b GP F0 (g c s))) (I:cS) (F:cR) :
  cU P 26 #[.string call,.string t,.func ib rf rc] I F (n9 call (qx vK g t).1 (qx vK g t).2 F):=by
 refine fQ.vc ?_
 unfold fQ.V
 intro bc bo be b
 have kd:∀{f:PF} {n:dV} {u:Value} {e:Ending} {I1:cS} {G:cR},qx vK g t=(vK,f)→f.e≠0→di f ((bc,.cells #[.string call] 9 (0,0))::(bo,.cells n.enc.toArray 43 (0,0))::(be,.cells #[u] 45 (0,0))::F) e G→_:=fun {f n u e I1 G} h1 h2 h3=>jI (I:=I1) h3 h2
 refine (yz hs (wP (.refl _))).mono fun e I1 G l1 hd=>?_
 rcases hd with ⟨hsz,hL,rfl,hG⟩ | ⟨f,hd,hf⟩
 rotate_left
 ·have hdd:=hk (dB t) f _ hd
  obtain⟨ch,he,F8,hG,hT⟩:=jI (I:=I1) (n:=o2) hf (sg hd)
  refine .inr ⟨ch,he,F8,hG,iL.mono hT fun e u I2 G l2 ⟨hu,he,v,F9,hG,hB⟩=>?_⟩
  subst hG
  exact⟨_,he,_,_,_,_,_,_,_,_,_,_,_,_,F9,.refl _,.inl ⟨hu,by rw[oI hdd];exact hB⟩⟩
 have hc:=wN hsz
 refine .inl ⟨rfl,_,hG.trans (cV fun z=>by simp only[cW,cX,c7];omega:List.Perm _ (_::_::_::((dB t).px t b (eY t)::F))), ?_⟩
 refine jQ.mono (hr _ hc b _ I1 _ _ hL (wP (.refl _))) fun e I2 G l2 hd=>?_
 rcases hd with ⟨hL2,v,H,rfl,hv,hG⟩ | ⟨f,hd,hf⟩
 rotate_left
 ·obtain⟨ch,he,F8,hG,hT⟩:=jI (I:=I2) (n:=o2) hf (sg hd)
  refine .inr ⟨ch,he,F8,hG,iL.mono hT fun e u I3 G l3 ⟨hu,he,v,F9,hG,hB⟩=>?_⟩
  subst hG
  exact⟨_,he,_,_,_,_,_,_,_,_,_,_,_,_,F9,.refl _,.inl ⟨hu,by rw[oI hd];exact hB⟩⟩
 obtain⟨n,rfl,hpx,hO⟩:=hv
 refine .inl ⟨_,_,_,_,_,_,_,_,_,_,rfl,(dB t).px t b (g (dB t) (eY t)).2::(H++F),hG.trans (cV fun z=>by simp only[cW,cX,c7];omega), ?_⟩
 refine⟨_,rfl,_,(dY.of (I:=I2) (wP (.refl _))).rd.dE (p:=1) (q:=0) rfl,fun h=>?_,fun h=>?_⟩
 ·have h:((dB t).tok (g (dB t) (eY t)).2.next).kind≠0:=by simpa using h
  refine (fI (dY.of (wP (.refl _))) 130).mono fun e I3 G l3 hf=>.inr ?_
  have hf:=hf.tail (wP (.refl _))
  have hf:di _ ((bc,.cells #[.string call] 9 (0,0))::(bo,.cells n.enc.toArray 43 (0,0))::(be,.cells #[.nilIface] 45 (0,0))::F) e G:=di.more (A:=H) (hf.perm GR (.refl _))
  obtain⟨ch,he,F8,hG,hT⟩:=jI (I:=I3) hf (show (130:Int)≠0 by decide)
  refine⟨ch,he,F8,hG,iL.mono hT fun e u I4 G l4 ⟨hu,he,v,F9,hG,hB⟩=>?_⟩
  subst hG
  exact⟨_,he,_,_,_,_,_,_,_,_,_,_,_,_,F9,.refl _,.inl ⟨hu,by rw[vJ hL2 h];exact hB⟩⟩
 ·have h:((dB t).tok (g (dB t) (eY t)).2.next).kind=0:=by simpa using h
  refine iL.mono (jg.vc vu (Q:=fun e I' G=>e=.returned (.tuple #[])∧G=(bc,.cells #[.string call] 9 (0,0))::(bo,.cells n.enc.toArray 43 (0,0))::(be,.cells #[.nilIface] 45 (0,0))::((dB t).px t b (g (dB t) (eY t)).2::(H++F))) ⟨rfl,rfl⟩) fun e u I3 G l3 ⟨hu,he,hG⟩=>?_
  subst hu hG
  refine⟨_,he,_,_,_,_,_,_,_,_,_,_,_,_,_,.refl _,.inl ⟨rfl, ?_⟩⟩
  rw[AY hL2 h]
  exact⟨n,_,H,[],[(dB t).px t b (g (dB t) (eY t)).2],rfl,hpx,hO,⟨fun _=>⟨rfl,rfl⟩,fun h=>absurd rfl h⟩,cV fun z=>by simp only[cW,cX,c7];omega⟩
theorem z3(t:ByteArray):qx gO (fun c=>c.eX) t=lY t:=rfl
theorem z4(t:ByteArray):qx vK (fun c=>c.body) t=dW t:=rfl
theorem Kp.body{c:PC}{f:PF}:Kp c f c.body:=fun s h=>Kp.rI _ _ ((((h.take _).name).take _))
theorem rP:dA P 27:=rD [27] (by kernel_rfl) _ (by decide)
theorem w6:dA P 46:=rD [46] (by kernel_rfl) _ (by decide)
theorem De{c:PC}{t:ByteArray}(hc:c.Of t){b:Nat}{s:PS}{I:cS}{F F0:cR}(hl:c.Live s)(hF:F.Perm (c.px t b s::F0)):cU P 46 #[.pointer (some ⟨b,0,none⟩)] I F (de c t b qu F0 (c.eX s)):=by
 refine kH.vc ?_
 unfold kH.V
 intro b0
 refine de.use (nZ hc b s I _ _ hl (wO hF)) (fun v K I2 G l2 hL2 hv hG=>.inl ?_) fun f e I2 G l2 hd hf=>.inr (di.dC [_] hf fun e' G' hf'=>.inr ⟨f,hd,hf'⟩)
 obtain⟨n,rfl,hv⟩:=hv
 exact⟨_,_,_,_,_,_,_,_,_,_,rfl,c.px t b (c.eX s).2::(K++F0),hG.trans (cV fun z=>by simp only[cW,cX,c7];omega),.inl ⟨hL2,_,K,rfl,⟨n,rfl,hv⟩,.refl _⟩⟩
theorem z5{t:ByteArray}(hs:dj t)(I:cS)(F:cR):cU P 16 #[.string t] I F (wY (⟨#[69,120,112,114]⟩:ByteArray) (lY t).1 (lY t).2 F):=by
 refine ni.vc ?_
 unfold ni.V
 intro b0
 refine (wZ hs (g:=fun c=>c.eX) (fun c f=>Kp.eX) (fun c hc b s I F F0 hl hF=>jQ.FO w6 (De hc hl hF)) I _).mono fun e I1 G l1 ⟨n,v,H,B,X,he,hpx,hO,hE,hG⟩=>?_
 subst he
 rw[z3] at hpx hE
 exact⟨_,_,_,_,_,_,_,_,_,_,_,rfl,H++(B++(X++F)),hG.trans (cV fun z=>by simp only[cW,cX,c7];omega),n,v,H,B,X,rfl,hpx,hO,hE,.refl _⟩
theorem uw{t:ByteArray}(hs:dj t)(I:cS)(F:cR):cU P 10 #[.string t] I F (n9 (⟨#[83,116,114,97,116,101,103,121]⟩:ByteArray) (dW t).1 (dW t).2 F):=by
 refine jH.vc ?_
 unfold jH.V
 intro b0
 refine (ri hs (g:=fun c=>c.body) (fun c f=>Kp.body) (fun c hc b s I F F0 hl hF=>jQ.FO rP (yy hc hl hF)) I _).mono fun e I1 G l1 ⟨n,v,H,B,X,he,hpx,hO,hE,hG⟩=>?_
 subst he
 rw[z4] at hpx hE
 exact⟨_,_,_,_,_,_,_,_,_,_,_,rfl,H++(B++(X++F)),hG.trans (cV fun z=>by simp only[cW,cX,c7];omega),n,v,H,B,X,rfl,hpx,hO,hE,.refl _⟩
section
variable {I:cS} {l:List ByteArray} {i:Nat} {nm:ByteArray} {o:Obj} {m:Nat} {G R:cR}
end
section
variable (s:dV) (hl:s.p.mu) {I:cS} {F:cR} (hok:s.Ok I F)
end
end Go.Lx
namespace Go.Lx
open Go.Vc
section
variable {s:dV} (hl:s.p.zJ) {I:cS} {F:cR} (hok:s.Ok I F)
include hl hok
end
end Go.Lx
namespace Go.Lx
open Go.Vc
section
variable {s:dV} {I:cS} {F:cR} {c:Nat}
end
end Go.Lx
namespace Go.Lx
open Go.Vc
section
variable {s:dV} {I:cS} {F:cR} {c:Nat}
end
end Go.Lx
namespace Go.Lx
open Go.Vc
end Go.Lx
namespace Go.Lx
open Go.Vc Go.Proofs.Tryz
def FH:List (Nat×List Sh):=[(3,[.one (.int .i64)]),(4,[.one .bool]),(48,[.one (.int .i64)]),(97,[.one .ptr])]
def ju.V(vi:Int→Value)(vp:OA→Value)(b:Value)(I:cS)(F:cR)(Q:cT)  : Prop:=∃q:Bool,eA P .eql 45 (.tmp 7) (.const (Value.nilIface)) b Value.nilIface q∧(It q (Q (.returned (.tuple #[vi 0,vi 0])) I F) (∀a:Nat,∃(cs:List Value) (el:Nat) (F1:cR),List.Perm ((a,Obj.cells #[vi 0] 48 (0,0))::F) (((⟨a,0,none⟩:Addr).block,Obj.cells cs.toArray el (0,0))::F1)∧(⟨a,0,none⟩:Addr).spot=none∧(⟨a,0,none⟩:Addr).off+1≤cs.length∧∀c:Nat,cU P 31 (#[b,Value.iface 99 (vp (some (⟨c,0,none⟩:Addr)))]) I (((c,Obj.cells #[vp none] 97 (0,0))::(((⟨a,0,none⟩:Addr).block,Obj.cells (cY (⟨a,0,none⟩:Addr).off [vi (-1)] cs).toArray el (0,0))::F1))) fun e1 I1 G1=>∃(r:Bool),e1=.returned (.bool r)∧∃F2:cR,List.Perm G1 F2∧(It r (∃(m:OA),Rd I1 F2 (⟨c,0,none⟩:Addr) [vp m]∧∃ad:Addr,m=some ad∧∃(m1:Int),Rd I1 F2 (ad.add 1) [vi m1]∧dt P 31 (#[b,Value.iface 102 (vp (some (⟨a,0,none⟩:Addr)))]) I1 (·) F2 .bool fun r1 I2 F3=>∃(m2:Int),Rd I2 F3 (⟨a,0,none⟩:Addr) [vi m2]∧Q (.returned (.tuple #[vi m2,vi m1])) I2 F3) (dt P 31 (#[b,Value.iface 102 (vp (some (⟨a,0,none⟩:Addr)))]) I1 (·) F2 .bool fun r2 I3 F4=>∃(m3:Int),Rd I3 F4 (⟨a,0,none⟩:Addr) [vi m3]∧Q (.returned (.tuple #[vi m3,vi 0])) I3 F4))))
theorem ju.vc{a:Value}{I:cS}{F:cR}{Q:cT}  (h:ju.V (.int .i64) .pointer a I F Q):cU P 12 #[a] I F Q :=
 tw (A:=(dy [1001,5002] [] [31] FH [] [] [3000,4000] [] [] [] [])) [31] func12 h
end Go.Lx
namespace Go.Lx
open Go.Vc
theorem Dg{I:cS}{G:cR}{b ty:Nat}{v:Value}(h:(b,Obj.cells #[v] ty (0,0))∈G):Rd I G (⟨b,0,none⟩:Addr) [v]:=Rd.Cs h 0 fun j hj=>by
 have:j=0:=by simpa using hj
 subst this;rfl
theorem BX(I:cS)(F:cR):cU P 12 #[.nilIface] I F (kL (.tuple #[.int .i64 0,.int .i64 0]) F):=by
 refine ju.vc ?_
 unfold ju.V
 exact⟨true,qs (by kernel_rfl),fun _=>⟨rfl,rfl⟩,fun h=>(by cases h)⟩
theorem ux{I:cS}(hg:Gl I){b:Nat}{call:ByteArray}{pos n:Int}{u:Value}(hb:I b=some (.cells #[.string call,.int .i64 pos,u] 101 (0,0)))
  (hE:∀J,cS.le I J→∀(G:cR) (t ty:Nat) (old:Value),cU P 31 #[.iface 97 (.pointer (some ⟨b,0,none⟩)),.iface 102 (.pointer (some ⟨t,0,none⟩))] J ((t,.cells #[old] ty (0,0))::G) (GD true ((t,.cells #[.int .i64 n] ty (0,0))::G))) (F:cR) :
  cU P 12 #[.iface 97 (.pointer (some ⟨b,0,none⟩))] I F (kL (.tuple #[.int .i64 n,.int .i64 pos]) F):=by
 refine cU.clean ?_
 refine ju.vc ?_
 unfold ju.V
 refine⟨false,q8 (by kernel_rfl),fun h=>(by cases h),fun _ b_e=>⟨[.int .i64 0],_,F,.refl _,rfl,by simp,fun b_f=>?_⟩⟩
 refine (D9 hg b).mono fun e I1 G l1 ⟨he,hG⟩=>?_
 subst hG
 refine⟨true,he,_,.refl _,fun _=>⟨some ⟨b,0,none⟩,Dg (.head _),⟨b,0,none⟩,rfl,pos, ?_, ?_⟩,fun h=>(by cases h)⟩
 ·rw[Gs]
  exact Rd.Cr (l1.at hb) _ 1 fun j hj=>by
   have:j=0:=by simpa using hj
   subst this;rfl
 ·refine cU.perm ((hE I1 l1 ((b_f,.cells #[.pointer (some ⟨b,0,none⟩)] 97 (0,0))::F) b_e 48 (.int .i64 (-1))).mono fun e I2 G l2 ⟨he,hG⟩=>?_) (.swap ..)
  subst hG
  exact⟨true,he,_,.refl _,n,Dg (.head _),rfl,[_,_],.refl _⟩
end Go.Lx
namespace Go.Lx
open Go.Vc Go.Proofs.Tryz
def FI:List (Nat×List Sh):=[(3,[.one (.int .i64)]),(4,[.one .bool]),(9,[.one .str]),(45,[.one .any]),(46,[.agg [.str,.slc,.slc,.slc],.one .any]),(53,[.one (.int .i64),.one (.int .i64)]),(59,[.one (.int .u8)]),(65,[.agg [(.int .u8),(.int .u8),(.int .u8),(.int .i64),(.int .u8),.str,.slc,(.int .i64)],.one .any]),(97,[.one .ptr])]
def lN.V(ka:Nat→Bs→OA→Nat→Nat→OA→Nat→Nat→OA→Nat→Nat→Nat×Obj)(nV:Int→Int→Int→Int→Int→Bs→OA→Nat→Nat→Int→Value)(nO:Int→Int→Int→Int→Int→Bs→OA→Nat→Nat→Int→Obj)(vi:Int→Value)(vs:Bs→Value)(vl:OA→Nat→Nat→Value)(vt:Bool→Value)(I:cS)(F:cR)(Q:cT)  : Prop:=eg P 16 (#[vs (⟨#[49,32,45,32,50,32,45,32,51]⟩:Bs)]) I (·) F fun e1 I1 G1=>∃(t u v w x:Int) (y:Bs) (c:OA) (b e:Nat) (j:Int) (r1:Value),e1=.returned (.tuple #[nV t u v w x y c b e j,r1])∧G1 fun F1=>∀aq:Nat,eg P 12 #[r1] I1 ((aq,nO t u v w x y c b e j)::·) F1 fun e2 I2 G2=>∃(r0 aC:Int),e2=.returned (.tuple #[vi r0,vi aC])∧G2 fun F2=>eg P 16 (#[vs (⟨#[40,49,32,43,32,38]⟩:Bs)]) I2 ((aq,nO t u v w x y c b e j)::·) F2 fun e3 I3 G3=>∃(k l n o p:Int) (r:Bs) (f:OA) (g h:Nat) (s:Int) (aD:Value),e3=.returned (.tuple #[nV k l n o p r f g h s,aD])∧G3 fun F3=>∀au:Nat,eg P 12 #[aD] I3 ((aq,nO t u v w x y c b e j)::(au,nO k l n o p r f g h s)::·) F3 fun e4 I4 G4=>∃(av aw:Int),e4=.returned (.tuple #[vi av,vi aw])∧G4 fun F4=>eg P 10 (#[vs (⟨#[115,116,114,97,116,101,103,121,32,115,123,115,116,97,116,101,32,97,123,125,125]⟩:Bs)]) I4 ((aq,nO t u v w x y c b e j)::(au,nO k l n o p r f g h s)::·) F4 fun e5 I5 G5=>∃(d:Bs) (aj:OA) (ak al:Nat) (am:OA) (an ao:Nat) (i:OA) (a ap:Nat) (aA:Value),e5=.returned (.tuple #[.agg #[vs d,vl aj ak al,vl am an ao,vl i a ap],aA])∧G5 fun F5=>∀az:Nat,eg P 10 (#[vs (⟨#[115,116,114,97,116,101,103,121,32,115,123,125]⟩:Bs)]) I5 ((aq,nO t u v w x y c b e j)::(au,nO k l n o p r f g h s)::(ka az d aj ak al am an ao i a ap)::·) F5 fun e6 I6 G6=>∃(ar:Bs) (z:OA) (aa ab:Nat) (ac:OA) (ae af:Nat) (ag:OA) (ah ai:Nat) (aE:Value),e6=.returned (.tuple #[.agg #[vs ar,vl z aa ab,vl ac ae af,vl ag ah ai],aE])∧G6 fun F6=>∀ay:Nat,eg P 12 #[aE] I6 ((aq,nO t u v w x y c b e j)::(au,nO k l n o p r f g h s)::(ka az d aj ak al am an ao i a ap)::(ka ay ar z aa ab ac ae af ag ah ai)::·) F6 fun e7 I7 G7=>∃(ax aB:Int),e7=.returned (.tuple #[vi ax,vi aB])∧G7 fun F7=>∃q:Bool,eA P .eql 45 (.tmp 47) (.const (Value.nilIface)) r1 Value.nilIface q∧(It q (It (r0==0) (It (aC==0) (It (j==6) (It ((b:Int)==2) ((0≤(0:Int)∧(0:Int)<(b:Int))∧∃ad:Addr,c=some ad∧∃(m:Int),Rd I7 ((aq,nO t u v w x y c b e j)::(au,nO k l n o p r f g h s)::(ka az d aj ak al am an ao i a ap)::(ka ay ar z aa ab ac ae af ag ah ai)::F7) ((ad.add (Int.toNat 0*8)).add 1) [.int .u8 m]∧(It (m==7) ((0≤(0:Int)∧(0:Int)<(b:Int))∧∃aF:Addr,c=some aF∧∃(m1:Int),Rd I7 ((aq,nO t u v w x y c b e j)::(au,nO k l n o p r f g h s)::(ka az d aj ak al am an ao i a ap)::(ka ay ar z aa ab ac ae af ag ah ai)::F7) ((aF.add (Int.toNat 0*8)).add 7) [vi m1]∧(It (m1==2) (It (av==111) (It (aw==5) (∃q1:Bool,eA P .eql 45 (.tmp 94) (.const (Value.nilIface)) aA Value.nilIface q1∧(It q1 (It (d.toList==(⟨#[115]⟩:Bs).toList) (It ((a:Int)==1) ((0≤(0:Int)∧(0:Int)<(a:Int))∧∃aG:Addr,i=some aG∧∃(m2:Int),Rd I7 ((aq,nO t u v w x y c b e j)::(au,nO k l n o p r f g h s)::(ka az d aj ak al am an ao i a ap)::(ka ay ar z aa ab ac ae af ag ah ai)::F7) ((aG.add (Int.toNat 0*3)).add 2) [vi m2]∧(It (m2==11) (It (ax==130) (Q (.returned (vt (aB==11))) I7 F7) (Q (.returned (vt false)) I7 F7)) (Q (.returned (vt false)) I7 F7))) (Q (.returned (vt false)) I7 F7)) (Q (.returned (vt false)) I7 F7)) (Q (.returned (vt false)) I7 F7))) (Q (.returned (vt false)) I7 F7)) (Q (.returned (vt false)) I7 F7)) (Q (.returned (vt false)) I7 F7))) (It false (It (av==111) (It (aw==5) (∃q2:Bool,eA P .eql 45 (.tmp 94) (.const (Value.nilIface)) aA Value.nilIface q2∧(It q2 (It (d.toList==(⟨#[115]⟩:Bs).toList) (It ((a:Int)==1) ((0≤(0:Int)∧(0:Int)<(a:Int))∧∃aH:Addr,i=some aH∧∃(m3:Int),Rd I7 ((aq,nO t u v w x y c b e j)::(au,nO k l n o p r f g h s)::(ka az d aj ak al am an ao i a ap)::(ka ay ar z aa ab ac ae af ag ah ai)::F7) ((aH.add (Int.toNat 0*3)).add 2) [vi m3]∧(It (m3==11) (It (ax==130) (Q (.returned (vt (aB==11))) I7 F7) (Q (.returned (vt false)) I7 F7)) (Q (.returned (vt false)) I7 F7))) (Q (.returned (vt false)) I7 F7)) (Q (.returned (vt false)) I7 F7)) (Q (.returned (vt false)) I7 F7))) (Q (.returned (vt false)) I7 F7)) (Q (.returned (vt false)) I7 F7)) (Q (.returned (vt false)) I7 F7)))) (It false (It (av==111) (It (aw==5) (∃q3:Bool,eA P .eql 45 (.tmp 94) (.const (Value.nilIface)) aA Value.nilIface q3∧(It q3 (It (d.toList==(⟨#[115]⟩:Bs).toList) (It ((a:Int)==1) ((0≤(0:Int)∧(0:Int)<(a:Int))∧∃aI:Addr,i=some aI∧∃(m4:Int),Rd I7 ((aq,nO t u v w x y c b e j)::(au,nO k l n o p r f g h s)::(ka az d aj ak al am an ao i a ap)::(ka ay ar z aa ab ac ae af ag ah ai)::F7) ((aI.add (Int.toNat 0*3)).add 2) [vi m4]∧(It (m4==11) (It (ax==130) (Q (.returned (vt (aB==11))) I7 F7) (Q (.returned (vt false)) I7 F7)) (Q (.returned (vt false)) I7 F7))) (Q (.returned (vt false)) I7 F7)) (Q (.returned (vt false)) I7 F7)) (Q (.returned (vt false)) I7 F7))) (Q (.returned (vt false)) I7 F7)) (Q (.returned (vt false)) I7 F7)) (Q (.returned (vt false)) I7 F7))) (It false (It (av==111) (It (aw==5) (∃q4:Bool,eA P .eql 45 (.tmp 94) (.const (Value.nilIface)) aA Value.nilIface q4∧(It q4 (It (d.toList==(⟨#[115]⟩:Bs).toList) (It ((a:Int)==1) ((0≤(0:Int)∧(0:Int)<(a:Int))∧∃aJ:Addr,i=some aJ∧∃(m5:Int),Rd I7 ((aq,nO t u v w x y c b e j)::(au,nO k l n o p r f g h s)::(ka az d aj ak al am an ao i a ap)::(ka ay ar z aa ab ac ae af ag ah ai)::F7) ((aJ.add (Int.toNat 0*3)).add 2) [vi m5]∧(It (m5==11) (It (ax==130) (Q (.returned (vt (aB==11))) I7 F7) (Q (.returned (vt false)) I7 F7)) (Q (.returned (vt false)) I7 F7))) (Q (.returned (vt false)) I7 F7)) (Q (.returned (vt false)) I7 F7)) (Q (.returned (vt false)) I7 F7))) (Q (.returned (vt false)) I7 F7)) (Q (.returned (vt false)) I7 F7)) (Q (.returned (vt false)) I7 F7))) (It false (It (av==111) (It (aw==5) (∃q5:Bool,eA P .eql 45 (.tmp 94) (.const (Value.nilIface)) aA Value.nilIface q5∧(It q5 (It (d.toList==(⟨#[115]⟩:Bs).toList) (It ((a:Int)==1) ((0≤(0:Int)∧(0:Int)<(a:Int))∧∃aK:Addr,i=some aK∧∃(m6:Int),Rd I7 ((aq,nO t u v w x y c b e j)::(au,nO k l n o p r f g h s)::(ka az d aj ak al am an ao i a ap)::(ka ay ar z aa ab ac ae af ag ah ai)::F7) ((aK.add (Int.toNat 0*3)).add 2) [vi m6]∧(It (m6==11) (It (ax==130) (Q (.returned (vt (aB==11))) I7 F7) (Q (.returned (vt false)) I7 F7)) (Q (.returned (vt false)) I7 F7))) (Q (.returned (vt false)) I7 F7)) (Q (.returned (vt false)) I7 F7)) (Q (.returned (vt false)) I7 F7))) (Q (.returned (vt false)) I7 F7)) (Q (.returned (vt false)) I7 F7)) (Q (.returned (vt false)) I7 F7))) (It false (It (av==111) (It (aw==5) (∃q6:Bool,eA P .eql 45 (.tmp 94) (.const (Value.nilIface)) aA Value.nilIface q6∧(It q6 (It (d.toList==(⟨#[115]⟩:Bs).toList) (It ((a:Int)==1) ((0≤(0:Int)∧(0:Int)<(a:Int))∧∃aL:Addr,i=some aL∧∃(m7:Int),Rd I7 ((aq,nO t u v w x y c b e j)::(au,nO k l n o p r f g h s)::(ka az d aj ak al am an ao i a ap)::(ka ay ar z aa ab ac ae af ag ah ai)::F7) ((aL.add (Int.toNat 0*3)).add 2) [vi m7]∧(It (m7==11) (It (ax==130) (Q (.returned (vt (aB==11))) I7 F7) (Q (.returned (vt false)) I7 F7)) (Q (.returned (vt false)) I7 F7))) (Q (.returned (vt false)) I7 F7)) (Q (.returned (vt false)) I7 F7)) (Q (.returned (vt false)) I7 F7))) (Q (.returned (vt false)) I7 F7)) (Q (.returned (vt false)) I7 F7)) (Q (.returned (vt false)) I7 F7))) (It false (It (av==111) (It (aw==5) (∃q7:Bool,eA P .eql 45 (.tmp 94) (.const (Value.nilIface)) aA Value.nilIface q7∧(It q7 (It (d.toList==(⟨#[115]⟩:Bs).toList) (It ((a:Int)==1) ((0≤(0:Int)∧(0:Int)<(a:Int))∧∃aM:Addr,i=some aM∧∃(m8:Int),Rd I7 ((aq,nO t u v w x y c b e j)::(au,nO k l n o p r f g h s)::(ka az d aj ak al am an ao i a ap)::(ka ay ar z aa ab ac ae af ag ah ai)::F7) ((aM.add (Int.toNat 0*3)).add 2) [vi m8]∧(It (m8==11) (It (ax==130) (Q (.returned (vt (aB==11))) I7 F7) (Q (.returned (vt false)) I7 F7)) (Q (.returned (vt false)) I7 F7))) (Q (.returned (vt false)) I7 F7)) (Q (.returned (vt false)) I7 F7)) (Q (.returned (vt false)) I7 F7))) (Q (.returned (vt false)) I7 F7)) (Q (.returned (vt false)) I7 F7)) (Q (.returned (vt false)) I7 F7)))
theorem lN.vc  {I:cS}{F:cR}{Q:cT}  (h:lN.V (fun W a b c d e f g h i j=>(W,Obj.cells #[.string a,.slice b c d,.slice e f g,.slice h i j] 43 (0,0))) (fun k o t n f s a l c q=>.agg #[.int .u8 k,.int .u8 o,.int .u8 t,.int .i64 n,.int .u8 f,.string s,.slice a l c,.int .i64 q]) (fun k o t n f s a l c q=>.cells #[.int .u8 k,.int .u8 o,.int .u8 t,.int .i64 n,.int .u8 f,.string s,.slice a l c,.int .i64 q] 64 (0,0)) (.int .i64) .string .slice .bool I F Q):cU P 9 #[] I F Q :=
 tw (A:=(an [8001,8004,8008,8013,8019,8027,9000,9003,9007,9011,9016,9022,9030,9034] [10,12,16] FI)) [10,12,16] func9 h
def EE.V(a g:Nat→Nat×Obj)(vi:Int→Value)(vt:Bool→Value)(vp:OA→Value)(j:Value)(h:Bs)(e f:Int)(k:Bool)(I:cS)(F:cR)(Q:cT)  : Prop:=∀b:Nat,(It (e==0) (∃q:Bool,eA P .eql 45 (.tmp 14) (.const (Value.nilIface)) j Value.nilIface q∧Q (.returned (vt q)) I F) (∀d:Nat,cU P 31 (#[j,Value.iface 99 (vp (some (⟨d,0,none⟩:Addr)))]) I ((a b)::((d,Obj.cells #[vp none] 97 (0,0))::F)) fun e1 I1 G1=>∃(r:Bool),e1=.returned (vt r)∧∃F1:cR,List.Perm G1 ((a b)::F1)∧(It (!r) (Q (.returned (vt false)) I1 F1) (∃(m:OA),Rd I1 ((a b)::F1) (⟨d,0,none⟩:Addr) [vp m]∧∃ad:Addr,m=some ad∧∃(m1:Bs),Rd I1 ((a b)::F1) (ad.add 0) [.string m1]∧(It (!(m1.toList==h.toList)) (Q (.returned (vt false)) I1 F1) (∃(m2:OA),Rd I1 ((a b)::F1) (⟨d,0,none⟩:Addr) [vp m2]∧∃p:Addr,m2=some p∧∃(m3:Int),Rd I1 ((a b)::F1) (p.add 1) [vi m3]∧(It (m3 != f) (Q (.returned (vt false)) I1 F1) (It (!k) (∃(m4:OA),Rd I1 ((a b)::F1) (⟨d,0,none⟩:Addr) [vp m4]∧∃s:Addr,m4=some s∧∃(m5:Value),Rd I1 ((a b)::F1) (s.add 2) [m5]∧∃q1:Bool,eA P .eql 45 (.tmp 44) (.tmp 47) m5 (Value.iface 48 (vi e)) q1∧Q (.returned (vt q1)) I1 F1) (∀c:Nat,∃(m6:OA),Rd I1 ((a b)::((g c)::F1)) (⟨d,0,none⟩:Addr) [vp m6]∧∃t:Addr,m6=some t∧∃(m7:Value),Rd I1 ((a b)::((g c)::F1)) (t.add 2) [m7]∧cU P 31 (#[m7,Value.iface 99 (vp (some (⟨c,0,none⟩:Addr)))]) I1 ((a b)::((g c)::F1)) fun e2 I2 G2=>∃(r1:Bool),e2=.returned (vt r1)∧∃F2:cR,List.Perm G2 ((a b)::F2)∧(It r1 (∃(m8:OA),Rd I2 ((a b)::F2) (⟨c,0,none⟩:Addr) [vp m8]∧∃u:Addr,m8=some u∧∃(m9:Bs),Rd I2 ((a b)::F2) (u.add 0) [.string m9]∧(It (m9.toList==(⟨#[84,111,107,101,110,115]⟩:Bs).toList) (∃(l:OA),Rd I2 ((a b)::F2) (⟨c,0,none⟩:Addr) [vp l]∧∃v:Addr,l=some v∧∃(i:Int),Rd I2 ((a b)::F2) (v.add 1) [vi i]∧(It (i==f) (∃(n:OA),Rd I2 ((a b)::F2) (⟨c,0,none⟩:Addr) [vp n]∧∃w:Addr,n=some w∧∃(o:Value),Rd I2 ((a b)::F2) (w.add 2) [o]∧∃q2:Bool,eA P .eql 45 (.tmp 76) (.tmp 79) o (Value.iface 48 (vi e)) q2∧Q (.returned (vt q2)) I2 F2) (Q (.returned (vt false)) I2 F2))) (Q (.returned (vt false)) I2 F2))) (Q (.returned (vt false)) I2 F2)))))))))))
end Go.Lx
namespace Go.Lx
open Go.Vc
def w7(I:cS)(call:ByteArray)(f:PF)(v:Value):Prop:=(f.e=0→v=.nilIface)∧(f.e≠0→match f.tok with
 | true=>∃u,BP I (⟨#[84,111,107,101,110,115]⟩:ByteArray) f.pos (uh f.e) u∧BP I call f.pos u v
 | false=>BP I call f.pos (uh f.e) v)
theorem w7.mono{I J:cS}{call:ByteArray}{f:PF}{v:Value}(h:w7 I call f v)(hl:cS.le I J):w7 J call f v:=⟨h.1,fun he=>by
 have h2:=h.2 he
 split at h2
 ·obtain⟨u,h3,h4⟩:=h2;exact⟨u,h3.mono hl,h4.mono hl⟩
 ·exact h2.mono hl⟩
theorem BW.keep{I:cS}{call:ByteArray}{f:PF}{v:Value}{B X G:cR}{w:World}(h:BW call f v B)(hw:Sat I (B++(X++G)) w):∃J,cS.le I J∧Sat J G w∧w7 J call f v:=by
 by_cases he:f.e=0
 ·obtain⟨rfl,rfl⟩:=h.1 he
  exact⟨I,cS.le_refl I,Sat.drop (A:=X) hw,fun _=>rfl,fun h=>absurd he h⟩
 ·obtain⟨b,u,B',rfl,hu,rfl⟩:=h.2 he
  obtain⟨l1,s1⟩:=hw.lh
  obtain⟨e,p,tk⟩:=f
  cases tk with
  | false =>
    obtain⟨rfl,rfl⟩:=hu
    exact⟨_,l1,Sat.drop (A:=X) s1,fun h=>absurd h he,fun _=>⟨b,rfl,by simp[cS.put]⟩⟩
  | true =>
    obtain⟨b2,rfl,rfl⟩:=hu
    obtain⟨l2,s2⟩:=s1.lh
    exact⟨_,cS.le_trans l1 l2,Sat.drop (A:=X) s2,fun h=>absurd h he,fun _=>⟨_,⟨b2,rfl,by simp[cS.put]⟩,⟨b,rfl,l2.at (by simp[cS.put])⟩⟩⟩
theorem Dh(t:ByteArray):(dW t).2.e=0→(dW t).2.pos=0:=fun h=>by
 unfold dW at h ⊢
 simp only at h ⊢
 split at h
 ·rename_i ho
  rw[if_pos ho]
  exact absurd h (by simpa[PS.over] using ho)
 ·rename_i ho
  rw[if_neg ho];rfl
theorem uy{t:ByteArray}(hs:dj t)(I:cS)(F:cR):cU P 16 #[.string t] I F fun e I' G=>∃(n:Nd) (v:Value) (H:cR),e=.returned (.tuple #[n.v,v])∧n.px=(lY t).1∧eo 64 false n H∧w7 I' (⟨#[69,120,112,114]⟩:ByteArray) (lY t).2 v∧G=H++F :=
 (z5 hs I F).keep fun e I' G w l hw ⟨n,v,H,B,X,he,hpx,hO,hE,hG⟩=>by
   obtain⟨J,h1,h2,h3⟩:=BW.keep (X:=X) (G:=H++F) hE (hw.perm (cV fun z=>by have q:=gg hG z;simp only[cX] at q ⊢;omega))
   exact⟨J,_,h1,h2,n,v,H,he,hpx,hO,h3,rfl⟩
theorem ld{t:ByteArray}(hs:dj t)(I:cS)(F:cR):cU P 10 #[.string t] I F fun e I' G=>∃(n:dV) (v:Value) (H:cR),e=.returned (.tuple #[n.v,v])∧n.p=(dW t).1∧nT false n H∧w7 I' (⟨#[83,116,114,97,116,101,103,121]⟩:ByteArray) (dW t).2 v∧G=H++F :=
 (uw hs I F).keep fun e I' G w l hw ⟨n,v,H,B,X,he,hpx,hO,hE,hG⟩=>by
   obtain⟨J,h1,h2,h3⟩:=BW.keep (X:=X) (G:=H++F) hE (hw.perm (cV fun z=>by have q:=gg hG z;simp only[cX] at q ⊢;omega))
   exact⟨J,_,h1,h2,n,v,H,he,hpx,hO,h3,rfl⟩
def PF.w(f:PF):Value:=.tuple #[.int .i64 f.e,.int .i64 f.pos]
theorem oJ{I:cS}(hg:Gl I){call:ByteArray}{f:PF}(hz:f.e=0→f.pos=0){v:Value}(h:w7 I call f v)(F:cR):cU P 12 #[v] I F (kL f.w F):=by
 by_cases he:f.e=0
 ·unfold PF.w
  rw[h.1 he,hz he,he];exact BX I F
 ·have h2:=h.2 he
  split at h2
  ·obtain⟨u,hu,hv⟩:=h2
   obtain⟨b,rfl,hb⟩:=id hv
   exact ux hg hb (fun J hJ G t ty old=>GG (hg.mono hJ) (hv.mono hJ) (hu.mono hJ)) F
  ·obtain⟨b,rfl,hb⟩:=id h2
   exact ux hg hb (fun J hJ G t ty old=>GF (hg.mono hJ) (h2.mono hJ)) F
theorem w7.Ib{I:cS}{call:ByteArray}{f:PF}{v:Value}(h:w7 I call f v){t:TypeId}(ht:ug P t=true){x:Operand}:eA P .eql t x (.const .nilIface) v .nilIface (f.e==0):=by
 by_cases he:f.e=0
 ·rw[h.1 he,he];exact qs ht
 ·have h2:=h.2 he
  have:(f.e==0)=false:=by simpa using he
  rw[this]
  split at h2
  ·obtain⟨u,hu,b,rfl,hb⟩:=h2;exact q8 ht
  ·obtain⟨b,rfl,hb⟩:=h2;exact q8 ht
theorem GS:lY (⟨#[49,32,45,32,50,32,45,32,51]⟩:ByteArray)=(.mk 6 7 0 0 0 ⟨#[]⟩ [.mk 6 7 0 0 0 ⟨#[]⟩ [.mk 1 0 1 1 0 ⟨#[]⟩ [] 0,.mk 1 0 1 2 0 ⟨#[]⟩ [] 4] 2,.mk 1 0 1 3 0 ⟨#[]⟩ [] 8] 6,zF):=by kernel_rfl
theorem GU:(lY (⟨#[40,49,32,43,32,38]⟩:ByteArray)).2=⟨111,5,true⟩:=by kernel_rfl
theorem GV:dW (⟨#[115,116,114,97,116,101,103,121,32,115,123,115,116,97,116,101,32,97,123,125,125]⟩:ByteArray)=(⟨(⟨#[115]⟩:ByteArray),[],[],[⟨(⟨#[97]⟩:ByteArray),[],11⟩]⟩,zF):=by kernel_rfl
theorem GW:(dW (⟨#[115,116,114,97,116,101,103,121,32,115,123,125]⟩:ByteArray)).2=⟨130,11,false⟩:=by kernel_rfl
theorem yf{n:Nd}{k o ty v f p:Int}{w:ByteArray}{x y:Px}(h:n.px=.mk k o ty v f w [x,y] p):∃a b:Nd,n.kids=[a,b]∧a.px=x∧b.px=y∧n.pos=p:=by
 have hk:=Nd.jZ n
 rw[h] at hk
 have hp:n.px.pos=p:=by rw[h];rfl
 have hk:[x,y]=n.kids.map Nd.px:=hk
 match hn:n.kids,hk with
 | [a,b],hk =>
   simp only[List.map_cons,List.map_nil,List.cons.injEq,and_true] at hk
   exact⟨a,b,rfl,hk.1.symm,hk.2.symm,by rw[←hp,Nd.wh]⟩
 | [],hk=>simp at hk
 | [a],hk=>simp at hk
 | a::b::c::r,hk=>simp at hk
theorem w9{I:cS}(hg:Gl I)(F:cR):cU P 9 #[] I F fun e I' G=>e=.returned (.bool true)∧∃X,G.Perm (X++F):=by
 refine lN.vc ?_
 unfold lN.V
 refine (uy (t:=(⟨#[49,32,45,32,50,32,45,32,51]⟩:ByteArray)) (by unfold dj;decide) I F).mono fun e I1 G l1 ⟨n,v,H,he,hpx,hO,hE,hG⟩=>?_
 subst he hG
 rw[GS] at hpx hE
 obtain⟨ka,kb,hk,hka,hkb,hnp⟩:=yf hpx
 refine⟨_,_,_,_,_,_,_,_,_,_,_,rfl,H++F,.refl _,fun bn=>?_⟩
 refine cU.ret (oJ (hg.mono l1) (fun _=>rfl) hE _) fun I2 l2=>⟨_,_,rfl,_,.refl _, ?_⟩
 have hg2:=hg.mono (cS.le_trans l1 l2)
 refine (uy (t:=(⟨#[40,49,32,43,32,38]⟩:ByteArray)) (by unfold dj;decide) I2 _).mono fun e I3 G l3 ⟨n2,v2,H2,he,hpx2,hO2,hE2,hG⟩=>?_
 subst he hG
 rw[GU] at hE2
 refine⟨_,_,_,_,_,_,_,_,_,_,_,rfl,H2++(H++F),cV fun z=>by simp only[cW,cX,c7];omega,fun b_=>?_⟩
 refine cU.ret (oJ (hg2.mono l3) (fun h=>absurd h (show ¬(111:Int)=0 by decide)) hE2 _) fun I4 l4=>⟨_,_,rfl,_,.refl _, ?_⟩
 have hg4:=hg2.mono (cS.le_trans l3 l4)
 refine (ld (t:=(⟨#[115,116,114,97,116,101,103,121,32,115,123,115,116,97,116,101,32,97,123,125,125]⟩:ByteArray)) (by unfold dj;decide) I4 _).mono fun e I5 G l5 ⟨n3,v3,H3,he,hpx3,hO3,hE3,hG⟩=>?_
 subst he hG
 rw[GV] at hpx3 hE3
 refine⟨_,_,_,_,_,_,_,_,_,_,_,rfl,H3++(H2++(H++F)),cV fun z=>by simp only[cW,cX,c7];omega,fun bs=>?_⟩
 refine (ld (t:=(⟨#[115,116,114,97,116,101,103,121,32,115,123,125]⟩:ByteArray)) (by unfold dj;decide) I5 _).mono fun e I6 G l6 ⟨n4,v4,H4,he,hpx4,hO4,hE4,hG⟩=>?_
 subst he hG
 rw[GW] at hE4
 refine⟨_,_,_,_,_,_,_,_,_,_,_,rfl,H4++(H3++(H2++(H++F))),cV fun z=>by simp only[cW,cX,c7];omega,fun b__=>?_⟩
 refine cU.ret (oJ (hg4.mono (cS.le_trans l5 l6)) (fun h=>absurd h (show ¬(130:Int)=0 by decide)) hE4 _) fun I7 l7=>⟨_,_,rfl,_,.refl _, ?_⟩
 have hin:∀{Z:cR} x,x∈H→x∈Z++(H4++(H3++(H2++(H++F)))):=fun x hx=>by simp[hx]
 have okn:∀{Z:cR},dO I7 (Z++(H4++(H3++(H2++(H++F))))) n:=fun {Z}=>hO.ok hin
 have hlen:n.kids.length=2:=by rw[hk];rfl
 have DA:∀{Z:cR},∃ad,n.a=some ad∧Rd I7 (Z++(H4++(H3++(H2++(H++F))))) (ad.add (Int.toNat 0*8)) ka.enc:=fun {Z}=>by
  obtain⟨ad,x,had,hx,hr,_,_⟩:=(okn (Z:=Z)).kids.at (i:=0) (by decide) (by rw[hlen];decide)
  have:x=ka:=by
   have h0:n.kids[0]? = some x:=hx
   rw[hk] at h0;exact (Option.some.inj h0).symm
  subst this
  exact⟨ad,had,hr⟩
 have hko:ka.oper=7:=by rw[←Nd.wg,hka];rfl
 have hkp:ka.pos=2:=by rw[←Nd.wh,hka];rfl
 obtain rfl:=hE.1 rfl
 obtain rfl:=hE3.1 rfl
 have hst:n3.states.map cZ.p=[⟨(⟨#[97]⟩:ByteArray),[],11⟩]:=by have:n3.p.states=[⟨(⟨#[97]⟩:ByteArray),[],11⟩]:=by { rw[hpx3] };exact this
 have hnm:n3.name=(⟨#[115]⟩:ByteArray):=by have:n3.p.name=(⟨#[115]⟩:ByteArray):=by { rw[hpx3] };exact this
 obtain⟨x,hx,hxp⟩:∃x,n3.states=[x]∧x.pos=11:=by
  match hn:n3.states,hst with
  | [x],h =>
    simp only[List.map_cons,List.map_nil,List.cons.injEq,and_true] at h
    exact⟨x,rfl,by have:x.p.pos=11:=by { rw[h] };exact this⟩
  | [],h=>simp at h
  | x::y::r,h=>simp at h
 have hl3:n3.states.length=1:=by rw[hx];rfl
 have ok3:∀{Z:cR},n3.Ok I7 (Z++(H4++(H3++(H2++(H++F))))):=fun {Z}=>hO3.ok fun y hy=>by simp[hy]
 have st3:∀{Z:cR},∃ad,n3.ta=some ad∧Rd I7 (Z++(H4++(H3++(H2++(H++F))))) (ad.add (Int.toNat 0*3)) x.enc:=fun {Z}=>by
  obtain⟨ad,y,had,hy,hr,_⟩:=kq.zB (ok3 (Z:=Z)).states (i:=0) (by decide) (by rw[hl3];decide)
  have:y=x:=by
   have h0:n3.states[0]? = some y:=hy
   rw[hx] at h0;exact (Option.some.inj h0).symm
  subst this
  exact⟨ad,had,hr⟩
 refine⟨true,qs (by kernel_rfl),fun _=>⟨fun _=>⟨fun _=>⟨fun _=>⟨fun _=>⟨⟨by decide,by rw[hlen];decide⟩, ?_⟩,fun h=>?_⟩,fun h=>?_⟩,fun h=>absurd h (by decide)⟩,fun h=>absurd h (by decide)⟩,fun h=>absurd h (by decide)⟩
 rotate_left
 ·rw[hlen] at h;exact absurd h (by decide)
 ·rw[hnp] at h;exact absurd h (by decide)
 obtain⟨ad,had,hr⟩:=DA (Z:=[_,_,_,_])
 refine⟨ad,had,_,hr.field (o:=1) rfl,fun _=>⟨⟨by decide,by rw[hlen];decide⟩,ad,had,_,hr.field (o:=7) rfl,fun _=>⟨fun _=>⟨fun _=>⟨true,qs (by kernel_rfl),fun _=>⟨fun _=>⟨fun _=>⟨⟨by decide,by rw[hl3];decide⟩, ?_⟩,fun h=>?_⟩,fun h=>?_⟩,fun h=>absurd h (by decide)⟩,fun h=>absurd h (by decide)⟩,fun h=>absurd h (by decide)⟩,fun h=>?_⟩,fun h=>?_⟩
 rotate_left
 ·rw[hl3] at h;exact absurd h (by decide)
 ·rw[hnm] at h;exact absurd h (by simp)
 ·rw[hkp] at h;exact absurd h (by decide)
 ·rw[hko] at h;exact absurd h (by decide)
 obtain⟨ad2,had2,hr2⟩:=st3 (Z:=[_,_,_,_])
 refine⟨ad2,had2,_,hr2.field (o:=2) rfl,fun _=>⟨fun _=>⟨rfl,H4++(H3++(H2++H)),cV fun z=>by simp only[cX];omega⟩,fun h=>absurd h (by decide)⟩,fun h=>?_⟩
 rw[hxp] at h;exact absurd h (by decide)
theorem HM{F:cR}:∀x,x∈([]:cR)→x∈F:=fun x hx=>absurd hx (by simp)
theorem yA{I:cS}(hg:Gl I)(F:cR):cU P 9 #[] I F (kL (.bool true) F):=cU.clean (w9 hg F)
abbrev RK:=Nat→List Row
def RK.z:RK:=fun _=>[]
def RK.add(A B:RK):RK:=fun k=>A k++B k
def RK.one(j:Nat)(r:Row):RK:=fun k=>if k=j then [r] else []
def RK.nd(l:List Row):RK:=fun k=>if k=1 then l else []
def RK.sum{α:Type}(f:α→RK)(l:List α):RK:=fun k=>l.flatMap fun x=>f x k
theorem RK.yB(A:RK):A.add RK.z=A:=funext fun k=>List.append_nil _
theorem RK.add_assoc(A B C:RK):(A.add B).add C=A.add (B.add C):=funext fun k=>List.append_assoc ..
theorem RK.sum_nil{α:Type}(f:α→RK):RK.sum f []=RK.z:=rfl
theorem RK.qy{α:Type}(f:α→RK){l:List α}{i:Nat}{x:α}(hx:l[i]? = some x):RK.sum f (l.take (i+1))=(RK.sum f (l.take i)).add (f x):=by
 obtain⟨hi,rfl⟩:=List.getElem?_eq_some_iff.1 hx
 funext k
 show (l.take (i+1)).flatMap _=(l.take i).flatMap _++_
 rw[List.take_succ_eq_append_getElem hi,List.flatMap_append,List.flatMap_cons,List.flatMap_nil,List.append_nil]
theorem RK.qz{α:Type}(f:α→RK){l:List α}{i:Nat}(hi:l.length≤i):RK.sum f (l.take i)=RK.sum f l:=by rw[List.take_of_length_le hi]
def eJ.K(d:eJ):RK:=(RK.nd d.side.rows).add ((RK.nd d.qty.rows).add ((RK.nd d.price.rows).add (RK.nd d.value.rows)))
def dc.K(r:dc):RK:=(RK.nd r.when.rows).add ((RK.one 6 ⟨r.a,r.dos.length,r.c⟩).add (RK.sum eJ.K r.dos))
def cZ.K(x:cZ):RK:=(RK.one 5 ⟨x.a,x.rules.length,x.c⟩).add (RK.sum dc.K x.rules)
def dw.K(r:dw):RK:=RK.nd r.init.rows
def dV.K(s:dV):RK:=(RK.one 2 ⟨s.ra,s.regs.length,s.rc⟩).add ((RK.sum dw.K s.regs).add ((RK.one 3 ⟨s.sa,s.slots.length,s.sc⟩).add ((RK.one 4 ⟨s.ta,s.states.length,s.tc⟩).add (RK.sum cZ.K s.states))))
def iR(A:RK)(n:Int):Prop:=∀k,((A k).length:Int)≤n
theorem iR.z:iR RK.z 0:=fun k=>Int.le_refl _
theorem iR.add{A B:RK}{m n:Int}(h:iR A m)(h':iR B n):iR (A.add B) (m+n):=fun k=>by
 have h1:=h k
 have h2:=h' k
 show ((A k++B k).length:Int)≤_
 rw[List.length_append];omega
theorem iR.one(j:Nat)(r:Row):iR (RK.one j r) 1:=fun k=>by
 show (((if k=j then [r] else []):List Row).length:Int)≤1
 split<;>simp
theorem iR.nd(t:Nd):iR (RK.nd t.rows) t.px.size:=fun k=>by
 have h1:=tB t
 have h2:=Px.size_pos t.px
 show (((if k=1 then t.rows else []):List Row).length:Int)≤_
 split
 ·omega
 ·simp only[List.length_nil];omega
theorem iR.sum{α:Type}{f:α→RK}{m:α→Int}(h:∀x,iR (f x) (m x)):∀l,iR (RK.sum f l) (eP m l)
 | []=>iR.z
 | x::r=>fun k=>by
   have h1:=h x k
   have h2:=iR.sum h r k
   show (((x::r).flatMap fun y=>f y k).length:Int)≤_
   rw[List.flatMap_cons,List.length_append,eP]
   have:(RK.sum f r k)=r.flatMap fun y=>f y k:=rfl
   rw[this] at h2
   omega
theorem iR.mono{A:RK}{m n:Int}(h:iR A m)(hl:m≤n):iR A n:=fun k=>Int.le_trans (h k) hl
theorem eJ.cap(d:eJ):iR d.K d.dI:=by
 refine ((iR.nd d.side).add ((iR.nd d.qty).add ((iR.nd d.price).add (iR.nd d.value)))).mono ?_
 show _≤1+d.side.px.size+d.qty.px.size+d.price.px.size+d.value.px.size
 omega
theorem dc.cap(r:dc):iR r.K r.dI:=by
 refine ((iR.nd r.when).add ((iR.one _ _).add (iR.sum eJ.cap _))).mono ?_
 rw[dc.j2];omega
theorem cZ.cap(r:cZ):iR r.K r.dI:=by
 refine ((iR.one _ _).add (iR.sum dc.cap _)).mono ?_
 rw[cZ.j2];omega
theorem dw.cap(r:dw):iR r.K r.dI:=by
 refine (iR.nd r.init).mono ?_
 show _≤1+r.init.px.size
 omega
theorem dV.cap(s:dV):iR s.K (s.p.dI+3):=by
 refine ((iR.one _ _).add ((iR.sum dw.cap _).add ((iR.one _ _).add ((iR.one _ _).add (iR.sum cZ.cap _))))).mono ?_
 rw[dV.j2];omega
theorem sk{α:Type}{f:α→Int}(h:∀x,1≤f x){l:List α}{i:Nat}{x:α}(hx:l[i]? = some x):eP f (l.take i)+f x≤eP f l:=by
 have h1:=ua f (l.take (i+1)) (l.drop (i+1))
 rw[List.take_append_drop,BJ f hx] at h1
 have h2:=fX (fun x=>Int.le_trans (by decide) (h x)) (l.drop (i+1))
 omega
theorem eJ.dN(d:eJ):1≤d.dI:=jw.dN _
theorem dc.dN(d:dc):1≤d.dI:=eE.dN _
theorem cZ.dN(d:cZ):1≤d.dI:=dF.dN _
theorem dw.dN(d:dw):1≤d.dI:=fp.dN _
def G0:Nat→Nat
 | 1=>62
 | 2=>39
 | 3=>40
 | 4=>41
 | 5=>86
 | _=>108
def jJ(A:Nat→cR)(j:Nat)(H:cR):Nat→cR:=fun k=>if k=j then H else A k
theorem vL(A:Nat→cR)(j:Nat):jJ A j (A j)=A:=funext fun k=>by unfold jJ;split<;>simp[*]
def lg(A:Nat→cR)(R:cR):cR:=A 1++(A 2++(A 3++(A 4++(A 5++(A 6++R)))))
def Bk(b:Nat)(rw:Nat→Row)(rs:RK)(R F':cR):Prop :=
 (∀k,k=0∨6<k→rw k=AD)∧∃A:Nat→cR,(∀k,1≤k→k≤6→Acc 1 Row.enc (G0 k) (rw k).a (rw k).n (rw k).c (rs k) (A k))∧F'.Perm ((b,Obj.cells (dq rw) 37 (0,0))::lg A R)
theorem jX(A:Nat→cR)(R:cR){k:Nat}(h1:1≤k)(h6:k≤6)(H:cR):(lg (jJ A k H) R).Perm (H++lg (jJ A k []) R):=by
 have:k=1∨k=2∨k=3∨k=4∨k=5∨k=6:=by omega
 rcases this with rfl | rfl | rfl | rfl | rfl | rfl<;>exact cV fun z=>by
  simp[lg,jJ,cX]
  try omega
theorem Bk.rd{b:Nat}{rw:Nat→Row}{rs:RK}{R F':cR}(h:Bk b rw rs R F'){I:cS}{G:cR}(hs:∀x,x∈F'→x∈G){k:Nat}(hk:(dq rw)[k]? = some (rw k).v):Rd I G ((⟨b,0,none⟩:Addr).add k) [(rw k).v]:=by
 obtain⟨_,A,hA,hp⟩:=h
 exact gN (hs _ (hp.mem_iff.2 (List.mem_cons_self ..))) hk
theorem Bk.mem{b:Nat}{rw:Nat→Row}{rs:RK}{R F':cR}(h:Bk b rw rs R F'):∀x,x∈R→x∈F':=by
 obtain⟨_,A,hA,hp⟩:=h
 refine fun x hx=>hp.mem_iff.2 (List.mem_cons_of_mem _ ?_)
 unfold lg
 simp only[List.mem_append]
 exact .inr (.inr (.inr (.inr (.inr (.inr hx)))))
theorem Bk.nil{b:Nat}{R F':cR}(hp:F'.Perm ((b,Obj.cells (dq fun _=>AD) 37 (0,0))::R)):Bk b (fun _=>AD) RK.z R F' :=
 ⟨fun _ _=>rfl,fun _=>[],fun _ _ _=>Acc.nil,hp⟩
theorem xb(rw:Nat→Row){j k:Nat}(r:Row)(h:k≠j):uR rw j r k=rw k:=if_neg h
theorem Bk.push{b:Nat}{rw:Nat→Row}{rs:RK}{R R0 F1 F2:cR}(h:Bk b rw rs R F1){k:Nat}(h1:1≤k)(h6:k≤6){t ty:TypeId}(ht:P.underlying t=some (.slice (G0 k)))(hi:(P.info? (G0 k)).map (fun i=>(i.zero,i.size,i.bytes))=some (some (.slice none 0 0),1,24))
  {r:Row} {b1:Nat} {I:cS} {o:Obj} (hb:I b1=some o) (ho:o=.cells #[r.v] (G0 k) (0,0)) (hF:F2.Perm (R0++F1)) (hl:(rs k).length≤1000000000) :
  dk P (Builtin.append_ #[t,t] ty #[(rw k).v,.slice (some ⟨b1,0,none⟩) 1 1]) I F2 fun v I' G=>∃a' n' c',v=.slice a' n' c'∧∃F3,G.Perm ((b,Obj.cells (dq rw) 37 (0,0))::(R0++F3)) ∧
   ∀F4:cR,F4.Perm ((b,Obj.cells (dq (uR rw k ⟨a',n',c'⟩)) 37 (0,0))::F3)→Bk b (uR rw k ⟨a',n',c'⟩) (rs.add (RK.one k r)) R F4:=by
 obtain⟨h0,A,hA,hp⟩:=h
 subst ho
 have hf:(lg A R).Perm (A k++lg (jJ A k []) R):=by have:=jX A R h1 h6 (A k);rwa [vL] at this
 refine dk.perm (dk.mono (eG (f:=Row.enc) (z:=1) (zv:=.slice none 0 0) (fun _=>rfl) (by':=24) ht hi rfl (by decide) (hA k h1 h6) (xs:=[r]) (fun x _=>qf x) (by simp) rfl ?_ ?_
  (F:=(b,Obj.cells (dq rw) 37 (0,0))::(R0++lg (jJ A k []) R))) fun v I2 G hI2 ⟨a',n',c',A',hv,hA',hG',_⟩=>?_) ?_
 ·exact⟨rfl,_,_,_,.inl hb,fun j hj=>by simp[Row.enc,Row.v]⟩
 ·simp only[List.length_cons,List.length_nil];omega
 ·subst hG'
  refine⟨a',n',c',hv,A'++lg (jJ A k []) R,(cV fun z=>by simp only[cX,cW,c7];omega),fun F4 h4=>⟨fun j hj=>?_,jJ A k A',fun j j1 j6=>?_,h4.trans (List.Perm.cons _ (jX A R h1 h6 A').symm)⟩⟩
  ·rw[xb rw _ (by omega)];exact h0 j hj
  ·by_cases hj:j=k
   ·subst hj
    rw[tK]
    show Acc 1 Row.enc _ _ _ _ (rs j++RK.one j r j) (jJ A j A' j)
    rw[show RK.one j r j=[r] from if_pos rfl,show jJ A j A' j=A' from if_pos rfl]
    exact hA'
   ·rw[xb rw _ hj]
    show Acc 1 Row.enc _ _ _ _ (rs j++RK.one k r j) (jJ A k A' j)
    rw[show RK.one k r j=[] from if_neg hj,show jJ A k A' j=A j from if_neg hj,List.append_nil]
    exact hA j j1 j6
 ·exact hF.trans (cV fun z=>by have q0:=gg hp z;have q1:=gg hf z;simp only[cX,cW,c7] at q0 q1 ⊢;omega)
theorem Bk.node{b:Nat}{rw:Nat→Row}{rs:RK}{R R0 F1 F2:cR}(h:Bk b rw rs R F1)(t:Nd)(hs:t.px.size≤1048576)(hF:F2.Perm (R0++F1))(hl:((rs 1).length:Int)+t.px.size≤1000000000)(I:cS)(ht:dO I R t) :
  cU P 19 #[.pointer (some ⟨b,0,none⟩),t.v] I F2 fun e I' G=>e=.returned (.tuple #[])∧∃rw' F3,G.Perm (R0++F3)∧Bk b rw' (rs.add (RK.nd t.rows)) R F3:=by
 obtain⟨h0,A,hA,hp⟩:=h
 have hf:(lg A R).Perm (A 1++lg (jJ A 1 []) R):=by have:=jX A R (k:=1) (by decide) (by decide) (A 1);rwa [vL] at this
 refine cU.perm ((tL t hs (rw:=rw) (b:=b) (rs:=rs 1) (Al:=A 1) (R:=R0++lg (jJ A 1 []) R) (hA 1 (by decide) (by decide)) hl I ?_).mono fun e I' G hI ⟨he,r',Al',hA',hG⟩=>?_) ?_
 ·refine ht.mono (cS.le_refl I) fun x hx=>?_
  unfold lg
  simp only[List.mem_append]
  exact .inr (.inr (.inr (.inr (.inr (.inr (.inr hx))))))
 ·refine⟨he,uR rw 1 r',(b,Obj.cells (dq (uR rw 1 r')) 37 (0,0))::(Al'++lg (jJ A 1 []) R),hG.trans (cV fun z=>by simp only[cX,cW,c7];omega),fun j hj=>?_,jJ A 1 Al',fun j j1 j6=>?_,List.Perm.cons _ (jX A R (k:=1) (by decide) (by decide) Al').symm⟩
  ·rw[xb rw _ (by omega)];exact h0 j hj
  ·by_cases hj:j=1
   ·subst hj
    rw[tK]
    exact hA'
   ·rw[xb rw _ hj]
    show Acc 1 Row.enc _ _ _ _ (rs j++RK.nd t.rows j) (jJ A 1 Al' j)
    rw[show RK.nd t.rows j=[] from if_neg hj,show jJ A 1 Al' j=A j from if_neg hj,List.append_nil]
    exact hA j j1 j6
 ·exact hF.trans (cV fun z=>by have q0:=gg hp z;have q1:=gg hf z;simp only[cX,cW,c7] at q0 q1 ⊢;omega)
def Has(z e:Nat)(rs:List Row)(H:cR):Prop:=∃ls:List (List (Ck z)),dX z e rs ls H∧Bd ls
theorem Has.nil{z e:Nat}:Has z e [] []:=⟨[],rfl,fun j l h=>by simp at h⟩
theorem Has.app{z e:Nat}{rs rs':List Row}{H H':cR}(h:Has z e rs H)(h':Has z e rs' H'):Has z e (rs++rs') (H++H'):=by
 obtain⟨ls,h1,h2⟩:=h
 obtain⟨ls',h1',h2'⟩:=h'
 exact⟨ls++ls',h1.app h1',h2.app h2'⟩
def zK:Nat→Nat
 | 1=>8
 | 2=>11
 | 3=>2
 | 4=>3
 | 5=>10
 | _=>36
def eK:Nat→Nat
 | 1=>64
 | 2=>104
 | 3=>106
 | 4=>88
 | 5=>110
 | _=>114
def iK(K:RK)(H:cR):Prop:=∃A:Nat→cR,(∀k,1≤k→k≤6→Has (zK k) (eK k) (K k) (A k))∧H.Perm (lg A [])
theorem iK.z:iK RK.z []:=⟨fun _=>[],fun _ _ _=>Has.nil,.refl _⟩
theorem iK.perm{K:RK}{H H':cR}(h:iK K H)(hp:H'.Perm H):iK K H':=by
 obtain⟨A,h1,h2⟩:=h
 exact⟨A,h1,hp.trans h2⟩
theorem iK.add{K K':RK}{H H':cR}(h:iK K H)(h':iK K' H'):iK (K.add K') (H++H'):=by
 obtain⟨A,h1,h2⟩:=h
 obtain⟨A',h1',h2'⟩:=h'
 refine⟨fun k=>A k++A' k,fun k k1 k6=>(h1 k k1 k6).app (h1' k k1 k6),cV fun z=>?_⟩
 have q0:=gg h2 z
 have q1:=gg h2' z
 unfold lg at q0 q1 ⊢
 simp only[cX,c7] at q0 q1 ⊢
 omega
theorem iK.one{j:Nat}{r:Row}{H:cR}(j1:1≤j)(j6:j≤6)(h:Has (zK j) (eK j) [r] H):iK (RK.one j r) H:=by
 refine⟨jJ (fun _=>[]) j H,fun k k1 k6=>?_, ?_⟩
 ·by_cases hk:k=j
  ·subst hk
   rw[show RK.one k r k=[r] from if_pos rfl,show jJ (fun _=>[]) k H k=H from if_pos rfl]
   exact h
  ·rw[show RK.one j r k=[] from if_neg hk,show jJ (fun _=>[]) j H k=[] from if_neg hk]
   exact Has.nil
 ·have h0:=jX (fun _=>[]) [] j1 j6 H
  have h1:jJ (fun _=>([]:cR)) j []=fun _=>[]:=funext fun k=>by unfold jJ;split<;>rfl
  rw[h1] at h0
  exact (h0.trans (by simp[lg])).symm
theorem iK.nd{l:List Row}{H:cR}(h:Has 8 64 l H):iK (RK.nd l) H:=by
 refine⟨jJ (fun _=>[]) 1 H,fun k k1 k6=>?_, ?_⟩
 ·by_cases hk:k=1
  ·subst hk;exact h
  ·rw[show RK.nd l k=[] from if_neg hk,show jJ (fun _=>[]) 1 H k=[] from if_neg hk]
   exact Has.nil
 ·have h0:=jX (fun _=>[]) [] (k:=1) (by decide) (by decide) H
  have h1:jJ (fun _=>([]:cR)) 1 []=fun _=>[]:=funext fun k=>by unfold jJ;split<;>rfl
  rw[h1] at h0
  exact (h0.trans (by simp[lg])).symm
theorem iK.sum{α:Type}{f:α→RK}:∀(l:List α) (hs:Nat→cR),(∀(i:Nat) (x:α),l[i]? = some x→iK (f x) (hs i))→iK (RK.sum f l) (dH l.length hs)
 | [],hs,_=>iK.z
 | x::r,hs,h=>by
   have h1:=iK.sum r (fun i=>hs (i+1)) fun i y hy=>h (i+1) y (by simpa using hy)
   have h2:=(h 0 x rfl).add h1
   rw[List.length_cons,tA]
   exact h2
def FJ{α:Type}{z:Nat}(f:α→List Value)(hz:∀x,(f x).length=z)(x:α):Ck z:=⟨f x,hz x⟩
theorem vM{α:Type}{z:Nat}(f:α→List Value)(hz:∀x,(f x).length=z):∀l:List α,(l.map (FJ f hz)).flatMap cv=l.flatMap f
 | []=>rfl
 | y::l=>by rw[List.map_cons,List.flatMap_cons,List.flatMap_cons,vM f hz l];rfl
theorem _root_.Go.Vc.Acc.ck{α:Type}{z:Nat}{f:α→List Value}(hz:∀x,(f x).length=z){a:Option Addr}{n c e:Nat}{l:List α}{A:cR}(h:Acc z f e a n c l A):Acc z cv e a n c (l.map (FJ f hz)) A:=by
 obtain⟨hn,⟨h1,h2,h3,h4⟩ | ⟨b,cells,h1,h2,h3,h4,h5⟩⟩:=h
 ·exact⟨by rw[List.length_map];exact hn,.inl ⟨h1,h2,by rw[h3];rfl,h4⟩⟩
 ·exact⟨by rw[List.length_map];exact hn,.inr ⟨b,cells,h1,h2,h3,h4,by rw[h5,vM]⟩⟩
theorem ng.has{α:Type}{R:Bool}{j:Nat}(j1:1≤j)(j6:j≤6){f:α→List Value}{O:α→cR→Prop}{a:Option Addr}{n c:Nat}{l:List α}{H:cR}(h:ng R (zK j) f (eK j) O a n c l H)(hz:∀x,(f x).length=zK j)(hl:l.length≤1048576)
  {g:α→RK} (hg:∀x H,x∈l→O x H→iK (g x) H):iK ((RK.one j ⟨a,n,c⟩).add (RK.sum g l)) H:=by
 obtain⟨A,hs,rfl,hA, -,hO⟩:=h
 have hn:=hA.1
 subst hn
 refine iK.add (iK.one j1 j6 ⟨[l.map (FJ f hz)],⟨A,[],by simp,hA.ck hz,rfl⟩,fun i y hy=>?_⟩) (iK.sum l hs fun i x hx=>hg x _ (List.mem_of_getElem? hx) (hO i x hx))
 have:=List.mem_of_getElem? hy
 rw[List.mem_singleton] at this
 rw[this,List.length_map];omega
theorem eo.has{R:Bool}{t:Nd}{H:cR}(h:eo 64 R t H)(hs:t.px.size≤1048576):iK (RK.nd t.rows) H:=by
 obtain⟨H',h1,h2⟩:=h.rows
 exact (iK.nd ⟨_,h1,Cy t hs⟩).perm h2.symm
theorem jt.has{R:Bool}{d:eJ}{H:cR}(h:jt R d H)(hs:d.p.mu):iK d.K H:=by
 obtain⟨H1,H2,H3,H4,rfl,h1,h2,h3,h4⟩:=h
 simp only[jw.mu,Small,jw.E5,eJ.p,List.mem_cons,List.not_mem_nil,or_false] at hs
 exact (h1.has (hs _ (.inl rfl))).add ((h2.has (hs _ (.inr (.inl rfl)))).add ((h3.has (hs _ (.inr (.inr (.inl rfl))))).add (h4.has (hs _ (.inr (.inr (.inr rfl)))))))
theorem kz.has{R:Bool}{r:dc}{H:cR}(h:kz R r H)(hs:r.p.mu):iK r.K H:=by
 obtain⟨H1,H2,rfl,h1,h2⟩:=h
 have hl:=hs.2.1
 simp only[dc.p,List.length_map] at hl
 exact (h1.has hs.1).add (ng.has (j:=6) (by decide) (by decide) (g:=eJ.K) h2 (fun _=>rfl) hl fun d H hd ho=>ho.has (hs.2.2 _ (List.mem_map_of_mem hd)))
theorem iO.has{R:Bool}{x:cZ}{H:cR}(h:iO R x H)(hs:x.p.mu):iK x.K H:=by
 have hl:=hs.1
 simp only[cZ.p,List.length_map] at hl
 exact ng.has (j:=5) (by decide) (by decide) (g:=dc.K) h (fun _=>rfl) hl fun d H hd ho=>ho.has (hs.2 _ (List.mem_map_of_mem hd))
theorem nT.HN{R:Bool}{s:dV}{H:cR}(h:nT R s H)(hs:s.p.zJ):iK s.K H:=by
 obtain⟨H1,H2,H3,rfl,h1,h2,h3⟩:=h
 have l1:=hs.regs
 have l2:=hs.slots
 have l3:=hs.states
 simp only[dV.p,List.length_map] at l1 l2 l3
 have g1:=ng.has (j:=2) (by decide) (by decide) (g:=dw.K) h1 (fun _=>rfl) l1 fun d H hd ho=>eo.has ho (hs.kM _ (List.mem_map_of_mem hd))
 have g2:=ng.has (j:=3) (by decide) (by decide) (g:=fun _=>RK.z) h2 (fun _=>rfl) l2 fun d H hd ho=>by rw[show H=[] from ho];exact iK.z
 have g3:=ng.has (j:=4) (by decide) (by decide) (g:=cZ.K) h3 (fun _=>rfl) l3 fun d H hd ho=>iO.has ho (hs.state _ (List.mem_map_of_mem hd))
 have e2:RK.sum (fun _:dp=>RK.z) s.slots=RK.z:=funext fun k=>by
  show s.slots.flatMap (fun _=>[])=[]
  simp
 rw[e2,RK.yB] at g2
 have:=g1.add (g2.add g3)
 rwa [RK.add_assoc] at this
theorem Bk.own{b:Nat}{rw:Nat→Row}{rs:RK}{R F F' H:cR}(h:Bk b rw rs R F)(hR:R.Perm (H++F'))(hH:iK rs H)(hl:∀k,(rs k).length≤1000000000)(I:cS) :
  cU P 15 #[.pointer (some ⟨b,0,none⟩)] I F fun e I' G=>e=.returned (.bool true)∧G=F':=by
 obtain⟨h0,A,hA,hp⟩:=h
 obtain⟨B,hB,hq⟩:=hH
 obtain⟨l1,r1,b1⟩:Has 8 64 (rs 1) (B 1):=hB 1 (by decide) (by decide)
 obtain⟨l2,r2,b2⟩:Has 11 104 (rs 2) (B 2):=hB 2 (by decide) (by decide)
 obtain⟨l3,r3,b3⟩:Has 2 106 (rs 3) (B 3):=hB 3 (by decide) (by decide)
 obtain⟨l4,r4,b4⟩:Has 3 88 (rs 4) (B 4):=hB 4 (by decide) (by decide)
 obtain⟨l5,r5,b5⟩:Has 10 110 (rs 5) (B 5):=hB 5 (by decide) (by decide)
 obtain⟨l6,r6,b6⟩:Has 36 114 (rs 6) (B 6):=hB 6 (by decide) (by decide)
 have hz:∀k,k=0∨6<k→rw k=⟨none,0,0⟩:=h0
 refine cU.perm (uQ (rw:=rw) (Hs:=fun k=>if 1≤k∧k≤6 then A k++B k else []) (by rw[hz 0 (by decide)];exact rX tF) (mn uN (hA 1 (by decide) (by decide)) r1 b1 (hl 1)) (mn wo (hA 2 (by decide) (by decide)) r2 b2 (hl 2)) (mn uO (hA 3 (by decide) (by decide)) r3 b3 (hl 3))
  (mn xX (hA 6 (by decide) (by decide)) r6 b6 (hl 6)) (mn uP (hA 5 (by decide) (by decide)) r5 b5 (hl 5)) (mn tG (hA 4 (by decide) (by decide)) r4 b4 (hl 4)) (by rw[hz 7 (by decide)];exact rX tH) (by rw[hz 9 (by decide)];exact rX wq) (by rw[hz 8 (by decide)];exact rX tI)
  (by rw[hz 10 (by decide)];exact wv) (by rw[hz 11 (by decide)];exact wu) (F:=F')) ?_
 refine hp.trans (List.Perm.cons _ (cV fun z=>?_))
 have q0:=gg hR z
 have q1:=gg hq z
 unfold lg at q1 ⊢
 simp[cX,c7] at q0 q1 ⊢
 omega
end Go.Lx
