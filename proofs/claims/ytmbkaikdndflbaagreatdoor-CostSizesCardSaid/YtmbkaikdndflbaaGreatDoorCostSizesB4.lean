import Derived.Test.YtmbkaikdndflbaaGreatDoorCostSizesB3
set_option linter.unusedVariables false
set_option linter.unusedSimpArgs false
set_option linter.unusedSectionVars false
set_option maxRecDepth 100000
namespace Go.Lx
open Go.Vc
theorem mP{q:PQ}{s:PS}{ws:List ByteArray}(h:0≤q.c.any ws s)(hl:ws.length≤6):q.c.any ws s≤5:=by have:=(dy h).2;omega
section
variable {q:PQ} {b:Nat} {s:PS} {I:b8} {F F0:bZ} {nx:Lv} {d:Int} (h0:0≤d) (h1:d≤24) (hx:d+1≤24→dD 53 q (d+1) nx.ex) (hmx:dr q.c nx.ex)
include h0 h1 hx hmx
theorem C5(hq:q.ok I)(hsn:s.next≤q.c.l.length)(hF:F.Perm (q.cg b s::F0)):cd P 174 #[.pointer (some ⟨b,0,none⟩),.int .i64 d] I F (eP q b F0 (q.c.rest nx d s)):=by
 have _:=hmx
 have hl:=hq.len
 have hm:q.cg b s∈F:=hF.mem_iff.2 (.head _)
 refine eM.vc ?_
 unfold eM.V
 intro b2
 refine cd.ret (hY hq (.tail _ hm)) fun I1 l1=>⟨_,_,_,_,_,rfl,F,.refl _, ?_⟩
 have hq1:=hq.mono l1
 refine cd.ret (nr hq1 _ (.tail _ hm)) fun I2 l2=>⟨_,rfl,F,.refl _,fun hh=>?_,fun hh=>?_⟩
 ·have hlt:=dx hh
  have hq2:=hq1.mono l2
  refine⟨_,rfl,_,PQ.rd (k:=3) (.tail _ hm) rfl,_,rfl,q.cl s,107,F0,hF,PQ.spot _ _,by rw[PQ.off];exact (by decide:3+1≤7),fun b3 I3 l3 hb3=>?_⟩
  rw[PQ.dC (by omega)]
  have hq3:=hq2.mono l3
  refine cd.ret (kW hq3 (Sl.words (ws:=[(⟨#[98,105,100]⟩:ByteArray),(⟨#[97,115,107]⟩:ByteArray),(⟨#[108,97,115,116]⟩:ByteArray)]) hb3 rfl) (by decide) (s:=s.inc) (.tail _ (.head _))) fun I4 l4=>⟨_,rfl,q.cg b s.inc::F0,.refl _,fun ha=>?_,fun ha=>?_⟩
  ·have ha:=of_decide_eq_true ha
   refine (ep (hq3.mono l4) 130 (s:=s.inc) jI).mono fun e I5 G l5 ⟨he,hG⟩=>⟨he,q.cg b (q.c.cI 130 s.inc)::F0,hG.trans jI, ?_⟩
   unfold PC.rest
   rw[if_pos hh,if_pos ha]
   exact eP.nil rfl (.refl _)
  ·have ha:=of_decide_eq_false ha
   have hab:=mP (Int.not_lt.1 ha) (by decide)
   have hlt2:=(dy (Int.not_lt.1 ha)).1
   refine⟨_,rfl,_,PQ.rd (k:=3) (.tail _ (.head _)) rfl,_,rfl,q.cl s.inc,107,F0,.refl _,PQ.spot _ _,by rw[PQ.off];exact (by decide:3+1≤7), ?_⟩
   rw[PQ.dC (s:=s.inc) (by omega),eh (n:=q.c.any [(⟨#[98,105,100]⟩:ByteArray),(⟨#[97,115,107]⟩:ByteArray),(⟨#[108,97,115,116]⟩:ByteArray)] s.inc+1) (by omega),w8 (by omega)]
   unfold PC.rest
   rw[if_pos hh,if_neg ha]
   exact eP.nil rfl (.refl _)
 ·have hq2:=hq1.mono l2
  refine cd.ret (nr hq2 _ (.tail _ hm)) fun I3 l3=>⟨_,rfl,F,.refl _,fun hb=>?_,fun hb=>?_⟩
  ·have hb:q.c.iY (⟨#[40]⟩:ByteArray) s=false:=by simpa using hb
   refine (ep (hq2.mono l3) 130 ((hF.cons _).trans jI)).mono fun e I5 G l5 ⟨he,hG⟩=>⟨he,q.cg b (q.c.cI 130 s)::F0,hG.trans jI, ?_⟩
   unfold PC.rest
   rw[if_neg (by simp[hh]),if_neg (by simp[hb])]
   exact eP.nil rfl (.refl _)
  ·have hb:q.c.iY (⟨#[40]⟩:ByteArray) s=true:=by simpa using hb
   have hlt:=dx hb
   have hq3:=hq2.mono l3
   refine (oo hq3 d h0 (by omega) ((hF.cons _).trans jI)).mono fun e I4 G l4 ⟨he,hG⟩=>⟨_,he,q.cg b (q.c.cD d s)::F0,hG.trans jI,fun h=>?_,fun h=>?_⟩
   ·have h:(q.c.cD d s).over=true:=by simpa using h
    unfold PC.rest
    rw[if_neg (by simp[hh]),if_pos hb,if_pos h]
    exact eP.nil rfl (.refl _)
   ·have h:(q.c.cD d s).over=false:=by simpa using h
    obtain⟨hd,hde⟩:=fM hlt h
    have hr:q.c.rest nx d s=((nx.ex s.inc).1,(q.c.take (⟨#[41]⟩:ByteArray) (nx.ex s.inc).2).2):=by
     unfold PC.rest
     rw[if_neg (by simp[hh]),if_pos hb,if_neg (by simp[h]),hde]
    rw[hde,hr]
    refine⟨_,rfl,_,PQ.rd (k:=3) (.tail _ (.head _)) rfl,_,rfl,q.cl s,107,F0,.refl _,PQ.spot _ _,by rw[PQ.off];exact (by decide:3+1≤7), ?_⟩
    rw[PQ.dC (by omega),eh (n:=d+1) (by omega)]
    have hq4:=hq3.mono l4
    refine (hx hd b s.inc I4 _ _ hq4 hlt jI).mono fun e I5 G5 l5 ⟨t,he,px,hok,hG5⟩=>?_
    refine⟨_,_,_,_,_,_,_,_,_,_,he,q.cg b (nx.ex s.inc).2::F0,hG5.trans jI,fun b_n=>?_⟩
    refine (dq (hq4.mono l5) _ (s:=(nx.ex s.inc).2) cR).mono fun e I6 G6 l6 ⟨he,hG6⟩=>⟨_,he,q.cg b (q.c.take (⟨#[41]⟩:ByteArray) (nx.ex s.inc).2).2::F0,hG6.trans cR.symm, ?_⟩
    exact⟨t,rfl,px,hok.mono l6 fun _ h=>h,.refl _⟩
theorem DN(hq:q.ok I)(hsn:s.next≤q.c.l.length)(hF:F.Perm (q.cg b s::F0)):cd P 172 #[.pointer (some ⟨b,0,none⟩),.int .i64 d] I F (eP q b F0 (q.c.one nx d s)):=by
 have hl:=hq.len
 refine eZ.vc ?_
 unfold eZ.V
 intro b2
 refine (s8 hq ((hF.cons _).trans jI)).mono fun e I1 G l1 ⟨t,he,px,hok,hG⟩=>?_
 refine⟨_,_,_,_,_,_,_,_,_,_,_,he,q.cg b (q.c.literal s).2::F0,hG.trans jI,fun b_n=>⟨fun h=>?_,fun h=>?_⟩⟩
 ·unfold PC.one
  rw[if_pos h]
  exact⟨t,rfl,px,hok,.refl _⟩
 have hls:(q.c.literal s).2=s:=by
  unfold PC.literal at h ⊢
  split
  ·rename_i h1;rw[if_pos h1] at h;cases h
  ·rename_i h1
   rw[if_neg h1] at h
   split
   ·rename_i h2;rw[if_pos h2] at h;cases h
   ·rename_i h2
    rw[if_neg h2] at h
    split
    ·rename_i h3;rw[if_pos h3] at h;cases h
    ·rfl
 rw[hls]
 have hq1:=hq.mono l1
 refine cd.ret (hY hq1 (.tail _ (.tail _ (.head _)))) fun I2 l2=>⟨_,_,_,_,_,rfl,q.cg b s::F0,.refl _,fun b_t=>⟨fun hk=>?_,fun hk=>?_⟩⟩
 ·have hk:(q.c.now s).kind=2:=by simpa using hk
  have hlt:=jE (by rw[hk];decide:(q.c.now s).kind≠0)
  refine⟨_,rfl,_,PQ.rd (k:=3) (.tail _ (.tail _ (.tail _ (.head _)))) rfl,_,rfl,q.cl s,107,F0,.refl _,PQ.spot _ _,by rw[PQ.off];exact (by decide:3+1≤7), ?_⟩
  rw[PQ.dC (by omega)]
  unfold PC.one
  rw[if_neg (by simp[h]),if_pos hk]
  exact eP.nil rfl (.refl _)
 have hk:(q.c.now s).kind≠2:=by simpa using hk
 have hq2:=hq1.mono l2
 intro b3 I3 l3 hb3
 have hq3:=hq2.mono l3
 refine cd.ret (kW hq3 (Sl.words (ws:=tV) hb3 rfl) (by decide) (s:=s) (.tail _ (.tail _ (.tail _ (.head _))))) fun I4 l4=>⟨_,rfl,q.cg b s::F0,.refl _,fun ha=>?_,fun ha=>?_⟩
 ·have ha:=of_decide_eq_true ha
  have hab:=mP ha (by decide)
  have hlt:=(dy ha).1
  refine⟨_,rfl,_,PQ.rd (k:=3) (.tail _ (.tail _ (.tail _ (.head _)))) rfl,_,rfl,q.cl s,107,F0,.refl _,PQ.spot _ _,by rw[PQ.off];exact (by decide:3+1≤7), ?_⟩
  rw[PQ.dC (by omega),eh (n:=q.c.any tV s+1) (by omega),w8 (by omega)]
  unfold PC.one
  rw[if_neg (by simp[h]),if_neg hk,if_pos ha]
  exact eP.nil rfl (.refl _)
 have ha:=of_decide_eq_false ha
 have hq4:=hq3.mono l4
 intro b5 I5 l5 hb5
 have hq5:=hq4.mono l5
 refine cd.ret (kW hq5 (Sl.words (ws:=kV) hb5 rfl) (by decide) (s:=s) (.tail _ (.tail _ (.tail _ (.head _))))) fun I6 l6=>⟨_,rfl,q.cg b s::F0,.refl _,fun hc=>?_,fun hc=>?_⟩
 ·have hc:=of_decide_eq_true hc
  have hab:=mP hc (by decide)
  have hlt:=(dy hc).1
  have hq6:=hq5.mono l6
  have hone:q.c.one nx d s=q.c.call nx d 8 (3+q.c.any kV s) 0 (q.c.now s).pos (if q.c.any kV s=0 then 1 else 2) s:=by
   unfold PC.one
   rw[if_neg (by simp[h]),if_neg hk,if_neg ha,if_pos hc]
  rw[hone,w8 (n:=q.c.any kV s) (by omega),w8 (n:=3+q.c.any kV s) (by omega)]
  refine⟨fun hz=>?_,fun hz=>?_⟩
  ·have hz:q.c.any kV s=0:=by simpa using hz
   rw[if_pos hz]
   refine (xE h0 h1 hx hmx hq6 8 (3+q.c.any kV s) 0 (q.c.now s).pos 1 (by decide) hlt pR).mono fun e I7 G7 l7 ⟨t,he,px,hok,hG7⟩=>?_
   exact⟨_,_,_,_,_,_,_,_,_,_,he,_,hG7.trans pR.symm,t,rfl,px,hok,.refl _⟩
  ·have hz:q.c.any kV s≠0:=by simpa using hz
   rw[if_neg hz]
   refine (xE h0 h1 hx hmx hq6 8 (3+q.c.any kV s) 0 (q.c.now s).pos 2 (by decide) hlt pR).mono fun e I7 G7 l7 ⟨t,he,px,hok,hG7⟩=>?_
   exact⟨_,_,_,_,_,_,_,_,_,_,he,_,hG7.trans pR.symm,t,rfl,px,hok,.refl _⟩
 have hc:=of_decide_eq_false hc
 have hq6:=hq5.mono l6
 intro b7 I7 l7 hb7
 have hq7:=hq6.mono l7
 refine cd.ret (kW hq7 (Sl.words (ws:=rv) hb7 rfl) (by decide) (s:=s) (.tail _ (.tail _ (.tail _ (.head _))))) fun I8 l8=>⟨_,rfl,q.cg b s::F0,.refl _,fun hv=>?_,fun hv=>?_⟩
 ·have hv:=of_decide_eq_true hv
  have hab:=mP hv (by decide)
  have hlt:=(dy hv).1
  have hone:q.c.one nx d s=q.c.call nx d 9 0 (1+q.c.any rv s) (q.c.now s).pos 1 s:=by
   unfold PC.one
   rw[if_neg (by simp[h]),if_neg hk,if_neg ha,if_neg hc,if_pos hv]
  rw[hone,w8 (n:=q.c.any rv s) (by omega),w8 (n:=1+q.c.any rv s) (by omega)]
  refine (xE h0 h1 hx hmx (hq7.mono l8) 9 0 (1+q.c.any rv s) (q.c.now s).pos 1 (by decide) hlt pR).mono fun e I9 G9 l9 ⟨t,he,px,hok,hG9⟩=>?_
  exact⟨_,_,_,_,_,_,_,_,_,_,he,_,hG9.trans pR.symm,t,rfl,px,hok,.refl _⟩
 have hv:=of_decide_eq_false hv
 have hone:q.c.one nx d s=q.c.rest nx d s:=by
  unfold PC.one
  rw[if_neg (by simp[h]),if_neg hk,if_neg ha,if_neg hc,if_neg hv]
 rw[hone]
 refine (C5 h0 h1 hx hmx (hq7.mono l8) hsn pR).mono fun e I9 G9 l9 ⟨t,he,px,hok,hG9⟩=>?_
 exact⟨_,_,_,_,_,_,_,_,_,_,he,_,hG9.trans pR.symm,t,rfl,px,hok,.refl _⟩
theorem BZ(hu:d+1≤24→dD 170 q (d+1) nx.un)(hmu:dr q.c nx.un):dD 170 q d (q.c.unary nx d):=by
 intro b s I F F0 hq hsn hF
 have hl:=hq.len
 refine vK.keep ?_
 refine er.vc ?_
 unfold er.V
 intro b2 b3 I1 l1 hb3
 have hq1:=hq.mono l1
 have hm:q.cg b s∈F:=hF.mem_iff.2 (.head _)
 refine cd.ret (kW hq1 (Sl.words (ws:=pE) hb3 rfl) (by decide) (s:=s) (.tail _ hm)) fun I2 l2=>⟨_,rfl,F,.refl _,fun ha=>?_,fun ha=>?_⟩
 ·have ha:=of_decide_eq_true ha
  refine (DN h0 h1 hx hmx (hq1.mono l2) hsn ((hF.cons _).trans jI)).mono fun e I3 G3 l3 ⟨t,he,px,hok,hG3⟩=>?_
  refine⟨_,_,_,_,_,_,_,_,_,_,he,_,hG3.trans jI,eP.own ?_⟩
  unfold PC.unary
  rw[if_pos ha]
  exact⟨t,rfl,px,hok,.refl _⟩
 have ha:=of_decide_eq_false ha
 have hab:=mP (Int.not_lt.1 ha) (by decide)
 have hlt:=(dy (Int.not_lt.1 ha)).1
 have hq2:=hq1.mono l2
 refine (oo hq2 d h0 (by omega) ((hF.cons _).trans jI)).mono fun e I4 G l4 ⟨he,hG⟩=>⟨_,he,q.cg b (q.c.cD d s)::F0,hG.trans jI,fun h=>?_,fun h=>?_⟩
 ·have h:(q.c.cD d s).over=true:=by simpa using h
  refine eP.own ?_
  unfold PC.unary
  rw[if_neg ha,if_pos h]
  exact eP.nil rfl (.refl _)
 have h:(q.c.cD d s).over=false:=by simpa using h
 obtain⟨hd,hde⟩:=fM hlt h
 have hr:q.c.unary nx d s=(.mk 5 (1+q.c.any pE s) 0 0 0 ⟨#[]⟩ [(nx.un s.inc).1] (q.c.now s).pos,(nx.un s.inc).2):=by
  unfold PC.unary
  rw[if_neg ha,if_neg (by simp[h]),hde]
 rw[hde,hr,w8 (n:=q.c.any pE s) (by omega),w8 (n:=1+q.c.any pE s) (by omega)]
 have hq4:=hq2.mono l4
 refine cd.ret (hY hq4 (s:=s) (.tail _ (.head _))) fun I5 l5=>⟨_,_,_,_,_,rfl,q.cg b s::F0,.refl _,fun b_n=>?_⟩
 refine⟨_,rfl,_,PQ.rd (k:=3) (.tail _ (.tail _ (.head _))) rfl,_,rfl,q.cl s,107,F0,.refl _,PQ.spot _ _,by rw[PQ.off];exact (by decide:3+1≤7), ?_⟩
 rw[PQ.dC (by omega),eh (n:=d+1) (by omega)]
 have hq5:=hq4.mono l5
 refine (hu hd b s.inc I5 _ _ hq5 hlt cR).mono fun e I6 G6 l6 ⟨t,he,px,hok,hG6⟩=>?_
 refine⟨_,_,_,_,_,_,_,_,_,_,he,q.cg b (nx.un s.inc).2::F0,hG6.trans cR.symm,fun b_k b4 I7 l7 hb4=>?_⟩
 refine (rA (ks:=[]) (A:=[]) Acc.nil (by decide) t hb4 (.refl _)).mono fun v I8 G8 l8 ⟨a',n',c',A',hv,hA',hG8⟩=>⟨a',n',c',hv,q.cg b (nx.un s.inc).2::(A'++F0),hG8.trans zJ.symm, ?_⟩
 have hn:=hA'.1
 subst hn
 refine⟨.mk 5 (1+q.c.any pE s) 0 0 0 ⟨#[]⟩ a' c' ([]++[t]) (q.c.now s).pos,A',rfl, ?_,.inl hA',fun k hk=>?_,.refl _⟩
 ·simp only[List.nil_append,Nd.px,Nd.w9,px]
 ·have hk:k∈[t]:=hk
  rw[List.mem_singleton] at hk;subst hk
  exact hok.mono (b8.le_trans l7 l8) fun _ h=>h
end
end Go.Lx
namespace Go.Lx
open Go.Vc
theorem kK{c:PC}{ws:List ByteArray}{o:Int}{sub:PS→Px×PS}{n:Px}{s:PS}(h:c.any ws s<0):∀m,c.gP ws o sub m n s=(n,s)
 | 0=>rfl
 | m+1=>by rw[PC.gP,if_pos h]
theorem p7{c:PC}{w:ByteArray}{s:PS}:c.any [w] s=if c.iY w s then 0 else -1:=rfl
section
variable {q:PQ} {nx:Lv} {d:Int} (h0:0≤d) (h1:d≤24)
include h0 h1
theorem zK{g:PS→Px×PS}(hg:dD 170 q d g)(hm:dr q.c g):dD 165 q d (q.c.loop vE 8 g):=by
 have _:=h0
 have _:=h1
 intro b s I F F0 hq hsn hF
 have hl:=hq.len
 refine dJ.vc (fun x0 x1 x2 x3 x4 x5 xa xn xc x7 n0 n1 n2 n3 n4 n5 na nn nc n7 m I' F'=>q.ok I'∧∃(t:Nd) (s':PS) (k:Nat),t.v=(.agg #[.int .u8 n0,.int .u8 n1,.int .u8 n2,.int .i64 n3,.int .u8 n4,.string n5,.slice na nn nc,.int .i64 n7])∧cB I' [] t∧F'.Perm (q.cg b s'::F0)∧s'.next≤q.c.l.length∧m=q.c.l.length-s'.next∧q.c.l.length≤s'.next+k∧q.c.loop vE 8 g s=q.c.gP vE 8 g k t.px s') ?_
 unfold dJ.V
 intro b2
 refine (hg b s I _ _ hq hsn ((hF.cons _).trans jI)).mono fun e I1 G1 l1 ⟨t,he,px,hok,hG1⟩=>?_
 refine⟨_,_,_,_,_,_,_,_,_,_,he,q.cg b (g s).2::F0,hG1.trans jI,fun b_n=>⟨⟨_,hq.mono l1,t,(g s).2,q.c.l.length,rfl,hok,.refl _,(hm s).2 hsn,rfl,by omega,by rw[px];rfl⟩, ?_⟩⟩
 intro x0 x1 x2 x3 x4 x5 xa xn xc x7 n0 n1 n2 n3 n4 n5 na nn nc n7 m I2 F2 l2 ⟨hq2,t,s',k,htv,hok,hF2,hsn',hme,hfu,hres⟩
 simp only[Nd.v,Value.agg.injEq,Array.mk.injEq,List.cons.injEq,Value.int.injEq,Value.string.injEq,Value.slice.injEq,true_and,and_true] at htv
 obtain⟨rfl,rfl,rfl,rfl,rfl,rfl,⟨rfl,rfl,rfl⟩,rfl⟩:=htv
 have hm2:q.cg b s'∈F2:=hF2.mem_iff.2 (.head _)
 intro b3 I3 l3 hb3
 have hq3:=hq2.mono l3
 refine cd.ret (kW hq3 (Sl.words (ws:=vE) hb3 rfl) (by decide) (s:=s') (.tail _ (.tail _ hm2))) fun I4 l4=>⟨_,rfl,F2,.refl _,fun ha=>?_,fun ha=>?_⟩
 ·have ha:=of_decide_eq_true ha
  rw[hres,kK ha]
  exact⟨t,rfl,rfl,hok.mono (b8.le_trans l3 l4) fun _ h=>h,hF2⟩
 have ha:=of_decide_eq_false ha
 have hab:=mP (Int.not_lt.1 ha) (by decide)
 have hlt:=(dy (Int.not_lt.1 ha)).1
 have l24:=b8.le_trans l3 l4
 have hna:=ha
 rw[w8 (n:=q.c.any vE s') (by omega),w8 (n:=8+q.c.any vE s') (by omega)]
 have hq4:=hq2.mono l24
 refine cd.ret (hY hq4 (s:=s') (.tail _ (.tail _ hm2))) fun I5 l5=>⟨_,_,_,_,_,rfl,F2,.refl _, ?_⟩
 refine⟨_,rfl,_,PQ.rd (k:=3) (.tail _ (.tail _ hm2)) rfl,_,rfl,q.cl s',107,F0,hF2,PQ.spot _ _,by rw[PQ.off];exact (by decide:3+1≤7), ?_⟩
 rw[PQ.dC (by omega)]
 have hq5:=hq4.mono l5
 refine (hg b s'.inc I5 _ _ hq5 hlt cR).mono fun e I6 G6 l6 ⟨t2,he,px2,hok2,hG6⟩=>?_
 refine⟨_,_,_,_,_,_,_,_,_,_,he,q.cg b (g s'.inc).2::F0,hG6.trans cR.symm,fun b_k=>?_⟩
 refine (vL (8+q.c.any vE s') (q.c.now s').pos t t2 I6 _ (hok.mono (b8.le_trans l24 (b8.le_trans l5 l6)) fun _ h=>h) hok2).mono fun e I7 G7 l7 ⟨t3,he,px3,hok3,hG7⟩=>?_
 subst hG7
 have hup:=hm s'.inc
 have hup1:=hup.1
 rw[oq] at hup1
 have hup2:=hup.2 hlt
 obtain⟨k',rfl⟩:∃k',k=k'+1:=⟨k-1,by omega⟩
 refine⟨_,_,_,_,_,_,_,_,_,_,he,q.cg b (g s'.inc).2::F0,.refl _,q.c.l.length-(g s'.inc).2.next,by omega,(hq5.mono l6).mono l7,t3,(g s'.inc).2,k',rfl,hok3,.refl _,hup2,rfl,by omega, ?_⟩
 rw[hres,PC.gP,if_neg hna,px3,px2]
theorem DO{g:PS→Px×PS}(hg:dD 165 q d g)(hm:dr q.c g):dD 157 q d (q.c.loop vG 6 g):=by
 have _:=h0
 have _:=h1
 intro b s I F F0 hq hsn hF
 have hl:=hq.len
 refine fa.vc (fun x0 x1 x2 x3 x4 x5 xa xn xc x7 n0 n1 n2 n3 n4 n5 na nn nc n7 m I' F'=>q.ok I'∧∃(t:Nd) (s':PS) (k:Nat),t.v=(.agg #[.int .u8 n0,.int .u8 n1,.int .u8 n2,.int .i64 n3,.int .u8 n4,.string n5,.slice na nn nc,.int .i64 n7])∧cB I' [] t∧F'.Perm (q.cg b s'::F0)∧s'.next≤q.c.l.length∧m=q.c.l.length-s'.next∧q.c.l.length≤s'.next+k∧q.c.loop vG 6 g s=q.c.gP vG 6 g k t.px s') ?_
 unfold fa.V
 intro b2
 refine (hg b s I _ _ hq hsn ((hF.cons _).trans jI)).mono fun e I1 G1 l1 ⟨t,he,px,hok,hG1⟩=>?_
 refine⟨_,_,_,_,_,_,_,_,_,_,he,q.cg b (g s).2::F0,hG1.trans jI,fun b_n=>⟨⟨_,hq.mono l1,t,(g s).2,q.c.l.length,rfl,hok,.refl _,(hm s).2 hsn,rfl,by omega,by rw[px];rfl⟩, ?_⟩⟩
 intro x0 x1 x2 x3 x4 x5 xa xn xc x7 n0 n1 n2 n3 n4 n5 na nn nc n7 m I2 F2 l2 ⟨hq2,t,s',k,htv,hok,hF2,hsn',hme,hfu,hres⟩
 simp only[Nd.v,Value.agg.injEq,Array.mk.injEq,List.cons.injEq,Value.int.injEq,Value.string.injEq,Value.slice.injEq,true_and,and_true] at htv
 obtain⟨rfl,rfl,rfl,rfl,rfl,rfl,⟨rfl,rfl,rfl⟩,rfl⟩:=htv
 have hm2:q.cg b s'∈F2:=hF2.mem_iff.2 (.head _)
 intro b3 I3 l3 hb3
 have hq3:=hq2.mono l3
 refine cd.ret (kW hq3 (Sl.words (ws:=vG) hb3 rfl) (by decide) (s:=s') (.tail _ (.tail _ hm2))) fun I4 l4=>⟨_,rfl,F2,.refl _,fun ha=>?_,fun ha=>?_⟩
 ·have ha:=of_decide_eq_true ha
  rw[hres,kK ha]
  exact⟨t,rfl,rfl,hok.mono (b8.le_trans l3 l4) fun _ h=>h,hF2⟩
 have ha:=of_decide_eq_false ha
 have hab:=mP (Int.not_lt.1 ha) (by decide)
 have hlt:=(dy (Int.not_lt.1 ha)).1
 have l24:=b8.le_trans l3 l4
 have hna:=ha
 rw[w8 (n:=q.c.any vG s') (by omega),w8 (n:=6+q.c.any vG s') (by omega)]
 have hq4:=hq2.mono l24
 refine cd.ret (hY hq4 (s:=s') (.tail _ (.tail _ hm2))) fun I5 l5=>⟨_,_,_,_,_,rfl,F2,.refl _, ?_⟩
 refine⟨_,rfl,_,PQ.rd (k:=3) (.tail _ (.tail _ hm2)) rfl,_,rfl,q.cl s',107,F0,hF2,PQ.spot _ _,by rw[PQ.off];exact (by decide:3+1≤7), ?_⟩
 rw[PQ.dC (by omega)]
 have hq5:=hq4.mono l5
 refine (hg b s'.inc I5 _ _ hq5 hlt cR).mono fun e I6 G6 l6 ⟨t2,he,px2,hok2,hG6⟩=>?_
 refine⟨_,_,_,_,_,_,_,_,_,_,he,q.cg b (g s'.inc).2::F0,hG6.trans cR.symm,fun b_k=>?_⟩
 refine (vL (6+q.c.any vG s') (q.c.now s').pos t t2 I6 _ (hok.mono (b8.le_trans l24 (b8.le_trans l5 l6)) fun _ h=>h) hok2).mono fun e I7 G7 l7 ⟨t3,he,px3,hok3,hG7⟩=>?_
 subst hG7
 have hup:=hm s'.inc
 have hup1:=hup.1
 rw[oq] at hup1
 have hup2:=hup.2 hlt
 obtain⟨k',rfl⟩:∃k',k=k'+1:=⟨k-1,by omega⟩
 refine⟨_,_,_,_,_,_,_,_,_,_,he,q.cg b (g s'.inc).2::F0,.refl _,q.c.l.length-(g s'.inc).2.next,by omega,(hq5.mono l6).mono l7,t3,(g s'.inc).2,k',rfl,hok3,.refl _,hup2,rfl,by omega, ?_⟩
 rw[hres,PC.gP,if_neg hna,px3,px2]
theorem DP{g:PS→Px×PS}(hg:dD 145 q d g)(hm:dr q.c g):dD 120 q d (q.c.loop vH 17 g):=by
 have _:=h0
 have _:=h1
 intro b s I F F0 hq hsn hF
 have hl:=hq.len
 refine fb.vc (fun x0 x1 x2 x3 x4 x5 xa xn xc x7 n0 n1 n2 n3 n4 n5 na nn nc n7 m I' F'=>q.ok I'∧∃(t:Nd) (s':PS) (k:Nat),t.v=(.agg #[.int .u8 n0,.int .u8 n1,.int .u8 n2,.int .i64 n3,.int .u8 n4,.string n5,.slice na nn nc,.int .i64 n7])∧cB I' [] t∧F'.Perm (q.cg b s'::F0)∧s'.next≤q.c.l.length∧m=q.c.l.length-s'.next∧q.c.l.length≤s'.next+k∧q.c.loop vH 17 g s=q.c.gP vH 17 g k t.px s') ?_
 unfold fb.V
 intro b2
 refine (hg b s I _ _ hq hsn ((hF.cons _).trans jI)).mono fun e I1 G1 l1 ⟨t,he,px,hok,hG1⟩=>?_
 refine⟨_,_,_,_,_,_,_,_,_,_,he,q.cg b (g s).2::F0,hG1.trans jI,fun b_n=>⟨⟨_,hq.mono l1,t,(g s).2,q.c.l.length,rfl,hok,.refl _,(hm s).2 hsn,rfl,by omega,by rw[px];rfl⟩, ?_⟩⟩
 intro x0 x1 x2 x3 x4 x5 xa xn xc x7 n0 n1 n2 n3 n4 n5 na nn nc n7 m I2 F2 l2 ⟨hq2,t,s',k,htv,hok,hF2,hsn',hme,hfu,hres⟩
 simp only[Nd.v,Value.agg.injEq,Array.mk.injEq,List.cons.injEq,Value.int.injEq,Value.string.injEq,Value.slice.injEq,true_and,and_true] at htv
 obtain⟨rfl,rfl,rfl,rfl,rfl,rfl,⟨rfl,rfl,rfl⟩,rfl⟩:=htv
 have hm2:q.cg b s'∈F2:=hF2.mem_iff.2 (.head _)
 refine cd.ret (nr hq2 _ (s:=s') (.tail _ (.tail _ hm2))) fun I4 l24=>⟨_,rfl,F2,.refl _,fun ha=>?_,fun ha=>?_⟩
 ·have ha:q.c.iY (⟨#[38,38]⟩:ByteArray) s'=false:=by simpa using ha
  rw[hres,kK (by unfold vH;rw[p7,if_neg (by simp[ha])];decide)]
  exact⟨t,rfl,rfl,hok.mono l24 fun _ h=>h,hF2⟩
 have ha:q.c.iY (⟨#[38,38]⟩:ByteArray) s'=true:=by simpa using ha
 have hlt:=dx ha
 have hz:q.c.any vH s'=0:=by unfold vH;rw[p7,if_pos ha]
 have hna:¬q.c.any vH s'<0:=by omega
 have hq4:=hq2.mono l24
 refine cd.ret (hY hq4 (s:=s') (.tail _ (.tail _ hm2))) fun I5 l5=>⟨_,_,_,_,_,rfl,F2,.refl _, ?_⟩
 refine⟨_,rfl,_,PQ.rd (k:=3) (.tail _ (.tail _ hm2)) rfl,_,rfl,q.cl s',107,F0,hF2,PQ.spot _ _,by rw[PQ.off];exact (by decide:3+1≤7), ?_⟩
 rw[PQ.dC (by omega)]
 have hq5:=hq4.mono l5
 refine (hg b s'.inc I5 _ _ hq5 hlt cR).mono fun e I6 G6 l6 ⟨t2,he,px2,hok2,hG6⟩=>?_
 refine⟨_,_,_,_,_,_,_,_,_,_,he,q.cg b (g s'.inc).2::F0,hG6.trans cR.symm,fun b_k=>?_⟩
 refine (vL (17) (q.c.now s').pos t t2 I6 _ (hok.mono (b8.le_trans l24 (b8.le_trans l5 l6)) fun _ h=>h) hok2).mono fun e I7 G7 l7 ⟨t3,he,px3,hok3,hG7⟩=>?_
 subst hG7
 have hup:=hm s'.inc
 have hup1:=hup.1
 rw[oq] at hup1
 have hup2:=hup.2 hlt
 obtain⟨k',rfl⟩:∃k',k=k'+1:=⟨k-1,by omega⟩
 refine⟨_,_,_,_,_,_,_,_,_,_,he,q.cg b (g s'.inc).2::F0,.refl _,q.c.l.length-(g s'.inc).2.next,by omega,(hq5.mono l6).mono l7,t3,(g s'.inc).2,k',rfl,hok3,.refl _,hup2,rfl,by omega, ?_⟩
 rw[hres,PC.gP,if_neg hna,px3,px2,hz]
 try rfl
theorem Ej{g:PS→Px×PS}(hg:dD 120 q d g)(hm:dr q.c g):dD 85 q d (q.c.loop Cx 18 g):=by
 have _:=h0
 have _:=h1
 intro b s I F F0 hq hsn hF
 have hl:=hq.len
 refine fw.vc (fun x0 x1 x2 x3 x4 x5 xa xn xc x7 n0 n1 n2 n3 n4 n5 na nn nc n7 m I' F'=>q.ok I'∧∃(t:Nd) (s':PS) (k:Nat),t.v=(.agg #[.int .u8 n0,.int .u8 n1,.int .u8 n2,.int .i64 n3,.int .u8 n4,.string n5,.slice na nn nc,.int .i64 n7])∧cB I' [] t∧F'.Perm (q.cg b s'::F0)∧s'.next≤q.c.l.length∧m=q.c.l.length-s'.next∧q.c.l.length≤s'.next+k∧q.c.loop Cx 18 g s=q.c.gP Cx 18 g k t.px s') ?_
 unfold fw.V
 intro b2
 refine (hg b s I _ _ hq hsn ((hF.cons _).trans jI)).mono fun e I1 G1 l1 ⟨t,he,px,hok,hG1⟩=>?_
 refine⟨_,_,_,_,_,_,_,_,_,_,he,q.cg b (g s).2::F0,hG1.trans jI,fun b_n=>⟨⟨_,hq.mono l1,t,(g s).2,q.c.l.length,rfl,hok,.refl _,(hm s).2 hsn,rfl,by omega,by rw[px];rfl⟩, ?_⟩⟩
 intro x0 x1 x2 x3 x4 x5 xa xn xc x7 n0 n1 n2 n3 n4 n5 na nn nc n7 m I2 F2 l2 ⟨hq2,t,s',k,htv,hok,hF2,hsn',hme,hfu,hres⟩
 simp only[Nd.v,Value.agg.injEq,Array.mk.injEq,List.cons.injEq,Value.int.injEq,Value.string.injEq,Value.slice.injEq,true_and,and_true] at htv
 obtain⟨rfl,rfl,rfl,rfl,rfl,rfl,⟨rfl,rfl,rfl⟩,rfl⟩:=htv
 have hm2:q.cg b s'∈F2:=hF2.mem_iff.2 (.head _)
 refine cd.ret (nr hq2 _ (s:=s') (.tail _ (.tail _ hm2))) fun I4 l24=>⟨_,rfl,F2,.refl _,fun ha=>?_,fun ha=>?_⟩
 ·have ha:q.c.iY (⟨#[124,124]⟩:ByteArray) s'=false:=by simpa using ha
  rw[hres,kK (by unfold Cx;rw[p7,if_neg (by simp[ha])];decide)]
  exact⟨t,rfl,rfl,hok.mono l24 fun _ h=>h,hF2⟩
 have ha:q.c.iY (⟨#[124,124]⟩:ByteArray) s'=true:=by simpa using ha
 have hlt:=dx ha
 have hz:q.c.any Cx s'=0:=by unfold Cx;rw[p7,if_pos ha]
 have hna:¬q.c.any Cx s'<0:=by omega
 have hq4:=hq2.mono l24
 refine cd.ret (hY hq4 (s:=s') (.tail _ (.tail _ hm2))) fun I5 l5=>⟨_,_,_,_,_,rfl,F2,.refl _, ?_⟩
 refine⟨_,rfl,_,PQ.rd (k:=3) (.tail _ (.tail _ hm2)) rfl,_,rfl,q.cl s',107,F0,hF2,PQ.spot _ _,by rw[PQ.off];exact (by decide:3+1≤7), ?_⟩
 rw[PQ.dC (by omega)]
 have hq5:=hq4.mono l5
 refine (hg b s'.inc I5 _ _ hq5 hlt cR).mono fun e I6 G6 l6 ⟨t2,he,px2,hok2,hG6⟩=>?_
 refine⟨_,_,_,_,_,_,_,_,_,_,he,q.cg b (g s'.inc).2::F0,hG6.trans cR.symm,fun b_k=>?_⟩
 refine (vL (18) (q.c.now s').pos t t2 I6 _ (hok.mono (b8.le_trans l24 (b8.le_trans l5 l6)) fun _ h=>h) hok2).mono fun e I7 G7 l7 ⟨t3,he,px3,hok3,hG7⟩=>?_
 subst hG7
 have hup:=hm s'.inc
 have hup1:=hup.1
 rw[oq] at hup1
 have hup2:=hup.2 hlt
 obtain⟨k',rfl⟩:∃k',k=k'+1:=⟨k-1,by omega⟩
 refine⟨_,_,_,_,_,_,_,_,_,_,he,q.cg b (g s'.inc).2::F0,.refl _,q.c.l.length-(g s'.inc).2.next,by omega,(hq5.mono l6).mono l7,t3,(g s'.inc).2,k',rfl,hok3,.refl _,hup2,rfl,by omega, ?_⟩
 rw[hres,PC.gP,if_neg hna,px3,px2,hz]
 try rfl
end
end Go.Lx
namespace Go.Lx
open Go.Vc
section
variable {q:PQ} {nx:Lv} {d:Int} (h0:0≤d) (h1:d≤24)
include h0 h1
theorem zL(hg:dD 157 q d (q.c.sum nx d))(hm:dr q.c (q.c.sum nx d)):dD 145 q d (q.c.compare nx d):=by
 have _:=h0
 have _:=h1
 intro b s I F F0 hq hsn hF
 have hl:=hq.len
 refine dK.vc ?_
 unfold dK.V
 intro b2
 refine (hg b s I _ _ hq hsn ((hF.cons _).trans jI)).mono fun e I1 G1 l1 ⟨t,he,px,hok,hG1⟩=>?_
 unfold PC.compare
 have hs2:=(hm s).2 hsn
 generalize hgs:q.c.sum nx d s=n at px hG1 hs2 ⊢
 refine⟨_,_,_,_,_,_,_,_,_,_,he,q.cg b n.2::F0,hG1.trans jI,fun b_n b3 I2 l2 hb3=>?_⟩
 have hq2:=(hq.mono l1).mono l2
 refine cd.ret (kW hq2 (Sl.words (ws:=tW) hb3 rfl) (by decide) (s:=n.2) (.tail _ (.tail _ (.head _)))) fun I3 l3=>⟨_,rfl,q.cg b n.2::F0,.refl _,fun ha=>?_,fun ha=>?_⟩
 ·have ha:=of_decide_eq_true ha
  show eP q b F0 (if q.c.any tW n.2<0 then n else _) _ _ _
  rw[if_pos ha]
  exact⟨t,rfl,px,hok.mono (b8.le_trans l2 l3) fun _ h=>h,.refl _⟩
 have ha:=of_decide_eq_false ha
 have hab:=mP (Int.not_lt.1 ha) (by decide)
 have hlt:=(dy (Int.not_lt.1 ha)).1
 have hq3:=hq2.mono l3
 rw[w8 (n:=q.c.any tW n.2) (by omega),w8 (n:=11+q.c.any tW n.2) (by omega)]
 refine cd.ret (hY hq3 (s:=n.2) (.tail _ (.tail _ (.head _)))) fun I4 l4=>⟨_,_,_,_,_,rfl,q.cg b n.2::F0,.refl _, ?_⟩
 refine⟨_,rfl,_,PQ.rd (k:=3) (.tail _ (.tail _ (.head _))) rfl,_,rfl,q.cl n.2,107,F0,.refl _,PQ.spot _ _,by rw[PQ.off];exact (by decide:3+1≤7), ?_⟩
 rw[PQ.dC (by omega)]
 have hq4:=hq3.mono l4
 refine (hg b n.2.inc I4 _ _ hq4 hlt cR).mono fun e I5 G5 l5 ⟨t2,he,px2,hok2,hG5⟩=>?_
 refine⟨_,_,_,_,_,_,_,_,_,_,he,q.cg b (q.c.sum nx d n.2.inc).2::F0,hG5.trans cR.symm,fun b_k=>?_⟩
 refine (vL (11+q.c.any tW n.2) (q.c.now n.2).pos t t2 I5 _ (hok.mono (b8.le_trans l2 (b8.le_trans l3 (b8.le_trans l4 l5))) fun _ h=>h) hok2).mono fun e I6 G6 l6 ⟨t3,he,px3,hok3,hG⟩=>?_
 subst hG
 refine⟨_,_,_,_,_,_,_,_,_,_,he,q.cg b (q.c.sum nx d n.2.inc).2::F0,.refl _, ?_⟩
 show eP q b F0 (if q.c.any tW n.2<0 then n else _) _ _ _
 rw[if_neg ha]
 exact⟨t3,rfl,by rw[px3,px,px2],hok3,.refl _⟩
theorem C6(hg:dD 85 q d (q.c.or nx d))(hm:dr q.c (q.c.or nx d))(hx:d+1≤24→dD 53 q (d+1) nx.ex)(hmx:dr q.c nx.ex):dD 53 q d (q.c.expr nx d):=by
 intro b s I F F0 hq hsn hF
 have hl:=hq.len
 refine eO.vc ?_
 unfold eO.V
 intro b2
 refine (hg b s I _ _ hq hsn ((hF.cons _).trans jI)).mono fun e I1 G1 l1 ⟨t,he,px,hok,hG1⟩=>?_
 unfold PC.expr
 have hs2:=(hm s).2 hsn
 generalize hgs:q.c.or nx d s=n at px hG1 hs2 ⊢
 refine⟨_,_,_,_,_,_,_,_,_,_,he,q.cg b n.2::F0,hG1.trans jI,fun b_n=>?_⟩
 have hq1:=hq.mono l1
 refine cd.ret (nr hq1 _ (s:=n.2) (.tail _ (.tail _ (.head _)))) fun I2 l2=>⟨_,rfl,q.cg b n.2::F0,.refl _,fun ha=>?_,fun ha=>?_⟩
 ·have ha:q.c.iY (⟨#[63]⟩:ByteArray) n.2=false:=by simpa using ha
  show eP q b F0 (if q.c.iY (⟨#[63]⟩:ByteArray) n.2 then _ else n) _ _ _
  rw[if_neg (by simp[ha])]
  exact⟨t,rfl,px,hok.mono l2 fun _ h=>h,.refl _⟩
 have ha:q.c.iY (⟨#[63]⟩:ByteArray) n.2=true:=by simpa using ha
 have hlt:=dx ha
 have hq2:=hq1.mono l2
 refine (oo hq2 d h0 (by omega) (s:=n.2) cR).mono fun e I3 G l3 ⟨he,hG⟩=>⟨_,he,q.cg b (q.c.cD d n.2)::F0,hG.trans cR.symm,fun h=>?_,fun h=>?_⟩
 ·have h:(q.c.cD d n.2).over=true:=by simpa using h
  show eP q b F0 (if q.c.iY (⟨#[63]⟩:ByteArray) n.2 then (if (q.c.cD d n.2).over then (lC,q.c.cD d n.2) else _) else n) _ _ _
  rw[if_pos ha,if_pos h]
  exact eP.nil rfl (.refl _)
 have h:(q.c.cD d n.2).over=false:=by simpa using h
 obtain⟨hd,hde⟩:=fM hlt h
 rw[hde]
 have hq3:=hq2.mono l3
 refine cd.ret (hY hq3 (s:=n.2) (.tail _ (.tail _ (.head _)))) fun I4 l4=>⟨_,_,_,_,_,rfl,q.cg b n.2::F0,.refl _, ?_⟩
 refine⟨_,rfl,_,PQ.rd (k:=3) (.tail _ (.tail _ (.head _))) rfl,_,rfl,q.cl n.2,107,F0,.refl _,PQ.spot _ _,by rw[PQ.off];exact (by decide:3+1≤7), ?_⟩
 rw[PQ.dC (by omega),eh (n:=d+1) (by omega)]
 have hq4:=hq3.mono l4
 refine (hx hd b n.2.inc I4 _ _ hq4 hlt cR).mono fun e I5 G5 l5 ⟨t2,he,px2,hok2,hG5⟩=>?_
 refine⟨_,_,_,_,_,_,_,_,_,_,he,q.cg b (nx.ex n.2.inc).2::F0,hG5.trans cR.symm,fun b_a=>?_⟩
 have hq5:=hq4.mono l5
 have hn5:=(hmx n.2.inc).2 hlt
 refine (dq hq5 _ (s:=(nx.ex n.2.inc).2) pR).mono fun e I6 G6 l6 ⟨he,hG6⟩=>⟨_,he,q.cg b (q.c.take (⟨#[58]⟩:ByteArray) (nx.ex n.2.inc).2).2::F0,hG6.trans pR.symm, ?_⟩
 have hq6:=hq5.mono l6
 have hn6:=(Up.take (c:=q.c) (s:=(nx.ex n.2.inc).2) (⟨#[58]⟩:ByteArray)).2 hn5
 refine (hx hd b (q.c.take (⟨#[58]⟩:ByteArray) (nx.ex n.2.inc).2).2 I6 _ _ hq6 hn6 pR).mono fun e I7 G7 l7 ⟨t3,he,px3,hok3,hG7⟩=>?_
 refine⟨_,_,_,_,_,_,_,_,_,_,he,q.cg b (nx.ex (q.c.take (⟨#[58]⟩:ByteArray) (nx.ex n.2.inc).2).2).2::F0,hG7.trans pR.symm,fun b_b b4 I8 l8 hb4=>?_⟩
 show eP q b F0 (if q.c.iY (⟨#[63]⟩:ByteArray) n.2 then (if (q.c.cD d n.2).over then _ else _) else n) _ _ _
 rw[if_pos ha,if_neg (by simp[h])]
 refine⟨.mk 7 0 0 0 0 ⟨#[]⟩ (some ⟨b4,0,none⟩) 3 [t,t2,t3] (q.c.now n.2).pos,rfl, ?_,cB.A4 hb4 (fun k hk=>?_) .., ?_⟩
 ·simp only[Nd.px,Nd.w9,px,px2,px3]
  rw[hde]
 ·simp only[List.mem_cons,List.not_mem_nil,or_false] at hk
  rcases hk with rfl | rfl | rfl
  ·exact hok.mono (b8.le_trans l2 (b8.le_trans l3 (b8.le_trans l4 (b8.le_trans l5 (b8.le_trans l6 (b8.le_trans l7 l8)))))) fun _ h=>h
  ·exact hok2.mono (b8.le_trans l6 (b8.le_trans l7 l8)) fun _ h=>h
  ·exact hok3.mono l8 fun _ h=>h
 ·rw[hde]
theorem yC(hx:d+1≤24→dD 53 q (d+1) nx.ex)(hmx:dr q.c nx.ex)(hu:d+1≤24→dD 170 q (d+1) nx.un)(hmu:dr q.c nx.un) :
  dD 53 q d (q.c.expr nx d)∧dD 170 q d (q.c.unary nx d):=by
 have e1:=BZ h0 h1 hx hmx hu hmu
 have e2:=zK h0 h1 e1 (Up.unary hmx hmu d)
 have e3:=DO h0 h1 e2 (Up.product hmx hmu d)
 have e4:=zL h0 h1 e3 (Up.sum hmx hmu d)
 have e5:=DP h0 h1 e4 (Up.compare hmx hmu d)
 have e6:=Ej h0 h1 e5 (Up.and hmx hmu d)
 exact⟨C6 h0 h1 e6 (Up.or hmx hmu d) hx hmx,e1⟩
end
theorem A5{q:PQ}:∀(k:Nat) (d:Int),0≤d→d≤24→24≤d+k→dD 53 q d (q.c.lvl k d).ex∧dD 170 q d (q.c.lvl k d).un
 | 0,d,h0,h1,h2=>yC h0 h1 (fun h=>by omega) (fun s=>.refl) (fun h=>by omega) (fun s=>.refl)
 | k+1,d,h0,h1,h2=>yC h0 h1 (fun h=>(A5 k (d+1) (by omega) h (by omega)).1) (Up.lvl k (d+1)).1 (fun h=>(A5 k (d+1) (by omega) h (by omega)).2) (Up.lvl k (d+1)).2
theorem pG{q:PQ}:dD 53 q 0 q.c.fQ:=(A5 24 0 (by decide) (by decide) (by decide)).1
end Go.Lx
namespace Go.Lx
open Go.Vc Go.Proofs.Tryz
def kL:List (Nat×List Sh):=[(0,[]),(3,[.one (.int .i64)]),(4,[.one .bool]),(9,[.one .str]),(28,[.agg [(.int .u8),(.int .u8),(.int .u8),(.int .i64),(.int .u8),.str,.slc,(.int .i64)]]),(35,[.one .slc]),(36,[.one .slc]),(37,[.one .slc]),(39,[.agg [.str,.slc,.slc,.slc]]),(63,[.one .slc]),(65,[.agg [.str,.slc,(.int .i64)]]),(68,[.agg [(.int .i64),(.int .i64),.bool]]),(77,[.agg [.str,(.int .u8),(.int .u8),(.int .u8),(.int .u8),(.int .i64),(.int .u8),.str,.slc,(.int .i64),(.int .i64)]]),(82,[.one .slc]),(84,[.agg [(.int .u8),(.int .u8),(.int .u8),(.int .i64),(.int .u8),.str,.slc,(.int .i64),.slc,(.int .i64)]]),(97,[.one (.int .u8)]),(99,[.agg [(.int .u8),(.int .u8),.str,(.int .u8),(.int .u8),(.int .u8),(.int .i64),(.int .u8),.str,.slc,(.int .i64),(.int .u8),(.int .u8),(.int .u8),(.int .i64),(.int .u8),.str,.slc,(.int .i64),(.int .u8),(.int .u8),(.int .u8),(.int .i64),(.int .u8),.str,.slc,(.int .i64),(.int .u8),(.int .u8),(.int .u8),(.int .i64),(.int .u8),.str,.slc,(.int .i64),(.int .i64)]]),(102,[.one .ptr]),(145,[.agg [(.int .u8),.str,(.int .u8),(.int .i64),(.int .i64)]]),(195,[.agg [(.int .u8),(.int .u8),(.int .u8),(.int .i64),(.int .u8),.str,.slc,(.int .i64)],.one .bool])]
def fc.V(ka:Nat→Bs→Int→Int→Int→Int→Int→Int→Bs→OA→Nat→Nat→Int→Int→Nat×Obj)(nO:Int→Int→Int→Int→Int→Bs→OA→Nat→Nat→Int→Obj)(vb vi:Int→Value)(vs:Bs→Value)(vl:OA→Nat→Nat→Value)(vp:OA→Value)(p:Addr)(I:b8)(F:bZ)(Q:cc)(Inv28:Bs→Int→Int→Int→Int→Int→Int→Bs→OA→Nat→Nat→Int→Int→b8→bZ→Prop)(Inv46:b8→bZ→Prop):Prop:=∀b:Nat,cJ P 89 (#[vp (some p),vs (⟨#[114,101,103]⟩:Bs)]) I ((ka b (⟨#[]⟩:Bs) 0 0 0 0 0 0 (⟨#[]⟩:Bs) none 0 0 0 0)::·) F vi fun r I1 F1=>∀a:Nat,cJ P 91 (#[vp (some p)]) I1 ((ka b (⟨#[]⟩:Bs) 0 0 0 0 0 0 (⟨#[]⟩:Bs) none 0 0 0 0)::(ka a (⟨#[]⟩:Bs) 0 0 0 0 0 0 (⟨#[]⟩:Bs) none 0 0 0 r)::·) F1 vs fun r1 I2 F2=>∀(b1:Nat) (I3:b8),b8.le I2 I3→I3 b1=some (Obj.cells #[vs (⟨#[105,110,116]⟩:Bs),vs (⟨#[113,116,121]⟩:Bs),vs (⟨#[112,114,105,99,101]⟩:Bs),vs (⟨#[116,105,109,101]⟩:Bs),vs (⟨#[98,111,111,108]⟩:Bs),vs (⟨#[115,105,100,101]⟩:Bs)] 9 (0,0))→cJ P 122 (#[vp (some p),vl (some ⟨b1,0,none⟩) 6 6]) I3 ((ka b (⟨#[]⟩:Bs) 0 0 0 0 0 0 (⟨#[]⟩:Bs) none 0 0 0 0)::(ka a r1 0 0 0 0 0 0 (⟨#[]⟩:Bs) none 0 0 0 r)::·) F2 vi fun r2 I4 F3=>(Dt (r2<0) (de P 90 (#[vp (some p),vi 130]) I4 ((ka b (⟨#[]⟩:Bs) 0 0 0 0 0 0 (⟨#[]⟩:Bs) none 0 0 0 0)::(ka a r1 0 0 0 0 0 0 (⟨#[]⟩:Bs) none 0 0 0 r)::·) F3 fun e4 I5 G4=>e4=.returned (.tuple #[])∧G4 fun F4=>Q (.returned (.agg #[vs r1,vb 0,vb 0,vb 0,vb 0,vi 0,vb 0,vs (⟨#[]⟩:Bs),vl none 0 0,vi 0,vi r])) I5 F4) (∃ad:Addr,some p=some ad∧∃(m:Int),Rd I4 ((ka b (⟨#[]⟩:Bs) 0 0 0 0 0 0 (⟨#[]⟩:Bs) none 0 0 0 0)::(ka a r1 0 0 0 0 0 0 (⟨#[]⟩:Bs) none 0 0 0 r)::F3) (ad.add 3) [vi m]∧∃ac:Addr,some p=some ac∧∃(cs:List Value) (el:Nat) (F5:bZ),List.Perm F3 (((ac.add 3).block,Obj.cells cs.toArray el (0,0))::F5)∧(ac.add 3).spot=none∧(ac.add 3).off+1≤cs.length∧cd P 89 (#[vp (some p),vs (⟨#[61]⟩:Bs)]) I4 ((ka b (⟨#[]⟩:Bs) 0 0 0 0 0 0 (⟨#[]⟩:Bs) none 0 0 0 0)::(ka a r1 (IntKind.wrap .u8 (1+(IntKind.wrap .u8 r2))) 0 0 0 0 0 (⟨#[]⟩:Bs) none 0 0 0 r)::(((ac.add 3).block,Obj.cells (cf (ac.add 3).off [vi (IntKind.wrap .i64 (m+1))] cs).toArray el (0,0))::F5)) fun e5 I6 G5=>∃(r3:Int),e5=.returned (vi r3)∧∃F6:bZ,List.Perm G5 ((ka b (⟨#[]⟩:Bs) 0 0 0 0 0 0 (⟨#[]⟩:Bs) none 0 0 0 0)::(ka a r1 (IntKind.wrap .u8 (1+(IntKind.wrap .u8 r2))) 0 0 0 0 0 (⟨#[]⟩:Bs) none 0 0 0 r)::F6)∧de P 88 (#[vp (some p)]) I6 ((ka b (⟨#[]⟩:Bs) 0 0 0 0 0 0 (⟨#[]⟩:Bs) none 0 0 0 0)::(ka a r1 (IntKind.wrap .u8 (1+(IntKind.wrap .u8 r2))) 0 0 0 0 0 (⟨#[]⟩:Bs) none 0 0 0 r)::·) F6 fun e6 I7 G6=>∃(aq:Int) (ar:Bs) (au av ah:Int),e6=.returned (.agg #[vb aq,vs ar,vb au,vi av,vi ah])∧G6 fun F7=>cJ P 86 (#[vp (some p),vs (⟨#[45]⟩:Bs)]) I7 ((ka b (⟨#[]⟩:Bs) 0 0 0 0 0 0 (⟨#[]⟩:Bs) none 0 0 0 0)::(ka a r1 (IntKind.wrap .u8 (1+(IntKind.wrap .u8 r2))) 0 0 0 0 0 (⟨#[]⟩:Bs) none 0 0 0 r)::·) F7 .bool fun r4 I8 F8=>((It r4 (∃al:Addr,some p=some al∧∃(m1:Int),Rd I8 ((ka b (⟨#[]⟩:Bs) 0 0 0 0 0 0 (⟨#[]⟩:Bs) none 0 0 0 0)::(ka a r1 (IntKind.wrap .u8 (1+(IntKind.wrap .u8 r2))) 0 0 0 0 0 (⟨#[]⟩:Bs) none 0 0 0 r)::F8) (al.add 3) [vi m1]∧∃ae:Addr,some p=some ae∧∃(ai:List Value) (ak:Nat) (F9:bZ),List.Perm F8 (((ae.add 3).block,Obj.cells ai.toArray ak (0,0))::F9)∧(ae.add 3).spot=none∧(ae.add 3).off+1≤ai.length∧cd P 88 (#[vp (some p)]) I8 ((ka b (⟨#[]⟩:Bs) 0 0 0 0 0 0 (⟨#[]⟩:Bs) none 0 0 0 0)::(ka a r1 (IntKind.wrap .u8 (1+(IntKind.wrap .u8 r2))) 0 0 0 0 0 (⟨#[]⟩:Bs) none 0 0 0 r)::(((ae.add 3).block,Obj.cells (cf (ae.add 3).off [vi (IntKind.wrap .i64 (m1+1))] ai).toArray ak (0,0))::F9)) fun e8 I9 G8=>∃(ag:Int) (am:Bs) (an ao ap:Int),e8=.returned (.agg #[vb ag,vs am,vb an,vi ao,vi ap])∧∃F10:bZ,List.Perm G8 ((ka b (⟨#[]⟩:Bs) 0 0 0 0 0 0 (⟨#[]⟩:Bs) none 0 0 0 0)::(ka a r1 (IntKind.wrap .u8 (1+(IntKind.wrap .u8 r2))) 0 0 0 0 0 (⟨#[]⟩:Bs) none 0 0 0 r)::F10)∧(It (ag != 3) (de P 90 (#[vp (some p),vi 130]) I9 ((ka b (⟨#[]⟩:Bs) 0 0 0 0 0 0 (⟨#[]⟩:Bs) none 0 0 0 0)::(ka a r1 (IntKind.wrap .u8 (1+(IntKind.wrap .u8 r2))) 0 0 0 0 0 (⟨#[]⟩:Bs) none 0 0 0 r)::·) F10 fun e9 I10 G9=>e9=.returned (.tuple #[])∧G9 fun F11=>Q (.returned (.agg #[vs r1,vb (IntKind.wrap .u8 (1+(IntKind.wrap .u8 r2))),vb 0,vb 0,vb 0,vi 0,vb 0,vs (⟨#[]⟩:Bs),vl none 0 0,vi 0,vi r])) I10 F11) (Inv28 (⟨#[]⟩:Bs) 0 0 0 0 0 0 (⟨#[]⟩:Bs) none 0 0 0 0 I9 F10))) (Inv28 (⟨#[]⟩:Bs) 0 0 0 0 0 0 (⟨#[]⟩:Bs) none 0 0 0 0 I8 F8)))∧∀(t:Bs) (u v w x y z:Int) (aa:Bs) (f:OA) (g h:Nat) (ab s:Int) (I11:b8) (F12:bZ),b8.le I8 I11→Inv28 t u v w x y z aa f g h ab s I11 F12→de P 123 (#[vp (some p)]) I11 ((ka b t u v w x y z aa f g h ab s)::(ka a r1 (IntKind.wrap .u8 (1+(IntKind.wrap .u8 r2))) 0 0 0 0 0 (⟨#[]⟩:Bs) none 0 0 0 r)::·) F12 fun aw I12 G10=>∃(i j k l n:Int) (o:Bs) (c:OA) (d e:Nat) (q:Int) (aj:Bool),aw=.returned (.tuple #[.agg #[vb i,vb j,vb k,vi l,vb n,vs o,vl c d e,vi q],.bool aj])∧G10 fun F13=>∀af:Nat,((It (!aj) (de P 90 (#[vp (some p),vi 130]) I12 ((ka b t u v w x y z aa f g h ab s)::(ka a r1 (IntKind.wrap .u8 (1+(IntKind.wrap .u8 r2))) 0 0 0 0 0 (⟨#[]⟩:Bs) none 0 0 0 r)::(af,nO i j k l n o c d e q)::·) F13 fun ax I13 G11=>ax=.returned (.tuple #[])∧G11 fun F14=>Inv46 I13 F14) (Inv46 I12 F13)))∧∀(I14:b8) (F15:bZ),b8.le I12 I14→Inv46 I14 F15→(It r4 (∀(b2:Nat) (I15:b8),b8.le I14 I15→I15 b2=some (nO i j k l n o c d e q)→cJ P 89 (#[vp (some p),vs (⟨#[59]⟩:Bs)]) I15 ((ka b t u v w x y z aa f g h ab s)::(ka a r1 (IntKind.wrap .u8 (1+(IntKind.wrap .u8 r2))) 5 1 0 0 0 (⟨#[]⟩:Bs) (some ⟨b2,0,none⟩) 1 1 ah r)::(af,nO i j k l n o c d e q)::·) F15 vi fun r5 I16 F16=>Q (.returned (.agg #[vs r1,vb (IntKind.wrap .u8 (1+(IntKind.wrap .u8 r2))),vb 5,vb 1,vb 0,vi 0,vb 0,vs (⟨#[]⟩:Bs),vl (some ⟨b2,0,none⟩) 1 1,vi ah,vi r])) I16 F16) (cJ P 89 (#[vp (some p),vs (⟨#[59]⟩:Bs)]) I14 ((ka b t u v w x y z aa f g h ab s)::(ka a r1 (IntKind.wrap .u8 (1+(IntKind.wrap .u8 r2))) i j k l n o c d e q r)::(af,nO i j k l n o c d e q)::·) F15 vi fun r6 I17 F17=>Q (.returned (.agg #[vs r1,vb (IntKind.wrap .u8 (1+(IntKind.wrap .u8 r2))),vb i,vb j,vb k,vi l,vb n,vs o,vl c d e,vi q,vi r])) I17 F17))))
theorem fc.vc{p:Addr}{I:b8}{F:bZ}{Q:cc}(Inv28:Bs→Int→Int→Int→Int→Int→Int→Bs→OA→Nat→Nat→Int→Int→b8→bZ→Prop)(Inv46:b8→bZ→Prop)(h:fc.V (fun W a b c d e f g h i j k l m=>(W,Obj.cells #[.string a,.int .u8 b,.int .u8 c,.int .u8 d,.int .u8 e,.int .i64 f,.int .u8 g,.string h,.slice i j k,.int .i64 l,.int .i64 m] 77 (0,0))) (fun k o t n f s a l c q=>.cells #[.int .u8 k,.int .u8 o,.int .u8 t,.int .i64 n,.int .u8 f,.string s,.slice a l c,.int .i64 q] 28 (0,0)) (.int .u8) (.int .i64) .string .slice .pointer p I F Q Inv28 Inv46):cd P 93 #[.pointer (some p)] I F Q :=
 tw (A:=(cO [4001,12000,14003,18001,21000] [] [86,88,89,90,91,122,123] kL [(28,⟨[],[(0,[.str,(.int .u8),(.int .u8),(.int .u8),(.int .u8),(.int .i64),(.int .u8),.str,.slc,(.int .i64),(.int .i64)])],fun _ _ _ vs m I F=>match vs with | [.string y0,.int _ y1,.int _ y2,.int _ y3,.int _ y4,.int _ y5,.int _ y6,.string y7,.slice y8 y9 y10,.int _ y11,.int _ y12]=>Inv28 y0 y1 y2 y3 y4 y5 y6 y7 y8 y9 y10 y11 y12 I F | _=>False,[],[]⟩),(46,⟨[],[],fun _ _ _ vs m I F=>match vs with | []=>Inv46  I F | _=>False,[],[]⟩)] [3001,22001] [] [] [] [] [])) [86,88,89,90,91,122,123] func93 h
def dV.V(ka:Nat→Int→Int→Bs→Int→Int→Int→Int→Int→Bs→OA→Nat→Nat→Int→Int→Int→Int→Int→Int→Bs→OA→Nat→Nat→Int→Int→Int→Int→Int→Int→Bs→OA→Nat→Nat→Int→Int→Int→Int→Int→Int→Bs→OA→Nat→Nat→Int→Int→Nat×Obj)(kb:Int→Int→Bs→Int→Int→Int→Int→Int→Bs→OA→Nat→Nat→Int→Int→Int→Int→Int→Int→Bs→OA→Nat→Nat→Int→Int→Int→Int→Int→Int→Bs→OA→Nat→Nat→Int→Int→Int→Int→Int→Int→Bs→OA→Nat→Nat→Int→Int→Value)(nV:Int→Int→Int→Int→Int→Bs→OA→Nat→Nat→Int→Value)(vb vi:Int→Value)(vs:Bs→Value)(vl:OA→Nat→Nat→Value)(vp:OA→Value)(wr:Int→Int)(p:Addr)(I:b8)(F:bZ)(Q:cc)  : Prop:=∀b:Nat,cJ P 89 (#[vp (some p),vs (⟨#[115,117,98,109,105,116]⟩:Bs)]) I ((ka b 0 0 (⟨#[]⟩:Bs) 0 0 0 0 0 (⟨#[]⟩:Bs) none 0 0 0 0 0 0 0 0 (⟨#[]⟩:Bs) none 0 0 0 0 0 0 0 0 (⟨#[]⟩:Bs) none 0 0 0 0 0 0 0 0 (⟨#[]⟩:Bs) none 0 0 0 0)::·) F vi fun r I1 F1=>∀ab:Nat,de P 53 (#[vp (some p),vi 0]) I1 ((ka b 0 0 (⟨#[]⟩:Bs) 0 0 0 0 0 (⟨#[]⟩:Bs) none 0 0 0 0 0 0 0 0 (⟨#[]⟩:Bs) none 0 0 0 0 0 0 0 0 (⟨#[]⟩:Bs) none 0 0 0 0 0 0 0 0 (⟨#[]⟩:Bs) none 0 0 0 0)::(ka ab 1 0 (⟨#[]⟩:Bs) 0 0 0 0 0 (⟨#[]⟩:Bs) none 0 0 0 0 0 0 0 0 (⟨#[]⟩:Bs) none 0 0 0 0 0 0 0 0 (⟨#[]⟩:Bs) none 0 0 0 0 0 0 0 0 (⟨#[]⟩:Bs) none 0 0 0 r)::·) F1 fun e2 I2 G2=>∃(q s t u v:Int) (w:Bs) (e:OA) (f g:Nat) (x:Int),e2=.returned (nV q s t u v w e f g x)∧G2 fun F2=>cJ P 89 (#[vp (some p),vs (⟨#[111,102]⟩:Bs)]) I2 ((ka b 0 0 (⟨#[]⟩:Bs) 0 0 0 0 0 (⟨#[]⟩:Bs) none 0 0 0 0 0 0 0 0 (⟨#[]⟩:Bs) none 0 0 0 0 0 0 0 0 (⟨#[]⟩:Bs) none 0 0 0 0 0 0 0 0 (⟨#[]⟩:Bs) none 0 0 0 0)::(ka ab 1 0 (⟨#[]⟩:Bs) q s t u v w e f g x 0 0 0 0 0 (⟨#[]⟩:Bs) none 0 0 0 0 0 0 0 0 (⟨#[]⟩:Bs) none 0 0 0 0 0 0 0 0 (⟨#[]⟩:Bs) none 0 0 0 r)::·) F2 vi fun r1 I3 F3=>de P 53 (#[vp (some p),vi 0]) I3 ((ka b 0 0 (⟨#[]⟩:Bs) 0 0 0 0 0 (⟨#[]⟩:Bs) none 0 0 0 0 0 0 0 0 (⟨#[]⟩:Bs) none 0 0 0 0 0 0 0 0 (⟨#[]⟩:Bs) none 0 0 0 0 0 0 0 0 (⟨#[]⟩:Bs) none 0 0 0 0)::(ka ab 1 0 (⟨#[]⟩:Bs) q s t u v w e f g x 0 0 0 0 0 (⟨#[]⟩:Bs) none 0 0 0 0 0 0 0 0 (⟨#[]⟩:Bs) none 0 0 0 0 0 0 0 0 (⟨#[]⟩:Bs) none 0 0 0 r)::·) F3 fun e4 I4 G4=>∃(h i j k l:Int) (n:Bs) (a:OA) (c d:Nat) (o:Int),e4=.returned (nV h i j k l n a c d o)∧G4 fun F4=>∀(b1:Nat) (I5:b8),b8.le I4 I5→I5 b1=some (Obj.cells #[vs (⟨#[109,97,114,107,101,116]⟩:Bs),vs (⟨#[97,116]⟩:Bs)] 9 (0,0))→cJ P 122 (#[vp (some p),vl (some ⟨b1,0,none⟩) 2 2]) I5 ((ka b 0 0 (⟨#[]⟩:Bs) 0 0 0 0 0 (⟨#[]⟩:Bs) none 0 0 0 0 0 0 0 0 (⟨#[]⟩:Bs) none 0 0 0 0 0 0 0 0 (⟨#[]⟩:Bs) none 0 0 0 0 0 0 0 0 (⟨#[]⟩:Bs) none 0 0 0 0)::(ka ab 1 0 (⟨#[]⟩:Bs) q s t u v w e f g x h i j k l n a c d o 0 0 0 0 0 (⟨#[]⟩:Bs) none 0 0 0 0 0 0 0 0 (⟨#[]⟩:Bs) none 0 0 0 r)::·) F4 vi fun r2 I6 F5=>(Dt (r2<0) (de P 90 (#[vp (some p),vi 130]) I6 ((ka b 0 0 (⟨#[]⟩:Bs) 0 0 0 0 0 (⟨#[]⟩:Bs) none 0 0 0 0 0 0 0 0 (⟨#[]⟩:Bs) none 0 0 0 0 0 0 0 0 (⟨#[]⟩:Bs) none 0 0 0 0 0 0 0 0 (⟨#[]⟩:Bs) none 0 0 0 0)::(ka ab 1 0 (⟨#[]⟩:Bs) q s t u v w e f g x h i j k l n a c d o 0 0 0 0 0 (⟨#[]⟩:Bs) none 0 0 0 0 0 0 0 0 (⟨#[]⟩:Bs) none 0 0 0 r)::·) F5 fun e6 I7 G6=>e6=.returned (.tuple #[])∧G6 fun F6=>Q (.returned ((kb 1 0 (⟨#[]⟩:Bs) q s t u v w e f g x h i j k l n a c d o 0 0 0 0 0 (⟨#[]⟩:Bs) none 0 0 0 0 0 0 0 0 (⟨#[]⟩:Bs) none 0 0 0 r))) I7 F6) (∃ad:Addr,some p=some ad∧∃(m:Int),Rd I6 ((ka b 0 0 (⟨#[]⟩:Bs) 0 0 0 0 0 (⟨#[]⟩:Bs) none 0 0 0 0 0 0 0 0 (⟨#[]⟩:Bs) none 0 0 0 0 0 0 0 0 (⟨#[]⟩:Bs) none 0 0 0 0 0 0 0 0 (⟨#[]⟩:Bs) none 0 0 0 0)::(ka ab 1 0 (⟨#[]⟩:Bs) q s t u v w e f g x h i j k l n a c d o 0 0 0 0 0 (⟨#[]⟩:Bs) none 0 0 0 0 0 0 0 0 (⟨#[]⟩:Bs) none 0 0 0 r)::F5) (ad.add 3) [vi m]∧∃ak:Addr,some p=some ak∧∃(cs:List Value) (el:Nat) (F7:bZ),List.Perm F5 (((ak.add 3).block,Obj.cells cs.toArray el (0,0))::F7)∧(ak.add 3).spot=none∧(ak.add 3).off+1≤cs.length∧(It (r2==1) (cd P 53 (#[vp (some p),vi 0]) I6 ((ka b 0 0 (⟨#[]⟩:Bs) 0 0 0 0 0 (⟨#[]⟩:Bs) none 0 0 0 0 0 0 0 0 (⟨#[]⟩:Bs) none 0 0 0 0 0 0 0 0 (⟨#[]⟩:Bs) none 0 0 0 0 0 0 0 0 (⟨#[]⟩:Bs) none 0 0 0 0)::(ka ab 1 2 (⟨#[]⟩:Bs) q s t u v w e f g x h i j k l n a c d o 0 0 0 0 0 (⟨#[]⟩:Bs) none 0 0 0 0 0 0 0 0 (⟨#[]⟩:Bs) none 0 0 0 r)::(((ak.add 3).block,Obj.cells (cf (ak.add 3).off [vi (wr (m+1))] cs).toArray el (0,0))::F7)) fun e7 I8 G7=>∃(ac ae af ag ah:Int) (ai:Bs) (y:OA) (z aa:Nat) (aj:Int),e7=.returned (nV ac ae af ag ah ai y z aa aj)∧∃F8:bZ,List.Perm G7 ((ka b 0 0 (⟨#[]⟩:Bs) 0 0 0 0 0 (⟨#[]⟩:Bs) none 0 0 0 0 0 0 0 0 (⟨#[]⟩:Bs) none 0 0 0 0 0 0 0 0 (⟨#[]⟩:Bs) none 0 0 0 0 0 0 0 0 (⟨#[]⟩:Bs) none 0 0 0 0)::(ka ab 1 2 (⟨#[]⟩:Bs) q s t u v w e f g x h i j k l n a c d o 0 0 0 0 0 (⟨#[]⟩:Bs) none 0 0 0 0 0 0 0 0 (⟨#[]⟩:Bs) none 0 0 0 r)::F8)∧∀(b2:Nat) (I9:b8),b8.le I8 I9→I9 b2=some (Obj.cells #[vs (⟨#[108,105,109,105,116]⟩:Bs),vs (⟨#[105,111,99]⟩:Bs),vs (⟨#[102,111,107]⟩:Bs),vs (⟨#[112,111,115,116]⟩:Bs)] 9 (0,0))→cJ P 122 (#[vp (some p),vl (some ⟨b2,0,none⟩) 4 4]) I9 ((ka b 0 0 (⟨#[]⟩:Bs) 0 0 0 0 0 (⟨#[]⟩:Bs) none 0 0 0 0 0 0 0 0 (⟨#[]⟩:Bs) none 0 0 0 0 0 0 0 0 (⟨#[]⟩:Bs) none 0 0 0 0 0 0 0 0 (⟨#[]⟩:Bs) none 0 0 0 0)::(ka ab 1 2 (⟨#[]⟩:Bs) q s t u v w e f g x h i j k l n a c d o ac ae af ag ah ai y z aa aj 0 0 0 0 0 (⟨#[]⟩:Bs) none 0 0 0 r)::·) F8 vi fun r3 I10 F9=>(Dt (r3<0) (de P 90 (#[vp (some p),vi 130]) I10 ((ka b 0 0 (⟨#[]⟩:Bs) 0 0 0 0 0 (⟨#[]⟩:Bs) none 0 0 0 0 0 0 0 0 (⟨#[]⟩:Bs) none 0 0 0 0 0 0 0 0 (⟨#[]⟩:Bs) none 0 0 0 0 0 0 0 0 (⟨#[]⟩:Bs) none 0 0 0 0)::(ka ab 1 2 (⟨#[]⟩:Bs) q s t u v w e f g x h i j k l n a c d o ac ae af ag ah ai y z aa aj 0 0 0 0 0 (⟨#[]⟩:Bs) none 0 0 0 r)::·) F9 fun e9 I11 G9=>e9=.returned (.tuple #[])∧G9 fun F10=>Q (.returned ((kb 1 2 (⟨#[]⟩:Bs) q s t u v w e f g x h i j k l n a c d o ac ae af ag ah ai y z aa aj 0 0 0 0 0 (⟨#[]⟩:Bs) none 0 0 0 r))) I11 F10) (∃aw:Addr,some p=some aw∧∃(m1:Int),Rd I10 ((ka b 0 0 (⟨#[]⟩:Bs) 0 0 0 0 0 (⟨#[]⟩:Bs) none 0 0 0 0 0 0 0 0 (⟨#[]⟩:Bs) none 0 0 0 0 0 0 0 0 (⟨#[]⟩:Bs) none 0 0 0 0 0 0 0 0 (⟨#[]⟩:Bs) none 0 0 0 0)::(ka ab 1 2 (⟨#[]⟩:Bs) q s t u v w e f g x h i j k l n a c d o ac ae af ag ah ai y z aa aj 0 0 0 0 0 (⟨#[]⟩:Bs) none 0 0 0 r)::F9) (aw.add 3) [vi m1]∧∃al:Addr,some p=some al∧∃(ao:List Value) (ap:Nat) (F11:bZ),List.Perm F9 (((al.add 3).block,Obj.cells ao.toArray ap (0,0))::F11)∧(al.add 3).spot=none∧(al.add 3).off+1≤ao.length∧∀(b3:Nat) (I12:b8),b8.le I10 I12→I12 b3=some (Obj.cells #[vb 1,vb 3,vb 4,vb 5] 97 (0,0))→((0≤r3∧r3<(4:Int))∧∃ax:Addr,some ⟨b3,0,none⟩=some ax∧∃(m2:Int),Rd I12 ((ka b 0 0 (⟨#[]⟩:Bs) 0 0 0 0 0 (⟨#[]⟩:Bs) none 0 0 0 0 0 0 0 0 (⟨#[]⟩:Bs) none 0 0 0 0 0 0 0 0 (⟨#[]⟩:Bs) none 0 0 0 0 0 0 0 0 (⟨#[]⟩:Bs) none 0 0 0 0)::(ka ab 1 2 (⟨#[]⟩:Bs) q s t u v w e f g x h i j k l n a c d o ac ae af ag ah ai y z aa aj 0 0 0 0 0 (⟨#[]⟩:Bs) none 0 0 0 r)::(((al.add 3).block,Obj.cells (cf (al.add 3).off [vi (wr (m1+1))] ao).toArray ap (0,0))::F11)) (ax.add (Int.toNat r3*1)) [vb m2]∧cd P 86 (#[vp (some p),vs (⟨#[97,115]⟩:Bs)]) I12 ((ka b 0 0 (⟨#[]⟩:Bs) 0 0 0 0 0 (⟨#[]⟩:Bs) none 0 0 0 0 0 0 0 0 (⟨#[]⟩:Bs) none 0 0 0 0 0 0 0 0 (⟨#[]⟩:Bs) none 0 0 0 0 0 0 0 0 (⟨#[]⟩:Bs) none 0 0 0 0)::(ka ab 1 m2 (⟨#[]⟩:Bs) q s t u v w e f g x h i j k l n a c d o ac ae af ag ah ai y z aa aj 0 0 0 0 0 (⟨#[]⟩:Bs) none 0 0 0 r)::(((al.add 3).block,Obj.cells (cf (al.add 3).off [vi (wr (m1+1))] ao).toArray ap (0,0))::F11)) fun aA I13 G10=>∃(r4:Bool),aA=.returned (.bool r4)∧∃F12:bZ,List.Perm G10 ((ka b 0 0 (⟨#[]⟩:Bs) 0 0 0 0 0 (⟨#[]⟩:Bs) none 0 0 0 0 0 0 0 0 (⟨#[]⟩:Bs) none 0 0 0 0 0 0 0 0 (⟨#[]⟩:Bs) none 0 0 0 0 0 0 0 0 (⟨#[]⟩:Bs) none 0 0 0 0)::(ka ab 1 m2 (⟨#[]⟩:Bs) q s t u v w e f g x h i j k l n a c d o ac ae af ag ah ai y z aa aj 0 0 0 0 0 (⟨#[]⟩:Bs) none 0 0 0 r)::F12)∧(It r4 (∃ay:Addr,some p=some ay∧∃(m3:Int),Rd I13 ((ka b 0 0 (⟨#[]⟩:Bs) 0 0 0 0 0 (⟨#[]⟩:Bs) none 0 0 0 0 0 0 0 0 (⟨#[]⟩:Bs) none 0 0 0 0 0 0 0 0 (⟨#[]⟩:Bs) none 0 0 0 0 0 0 0 0 (⟨#[]⟩:Bs) none 0 0 0 0)::(ka ab 1 m2 (⟨#[]⟩:Bs) q s t u v w e f g x h i j k l n a c d o ac ae af ag ah ai y z aa aj 0 0 0 0 0 (⟨#[]⟩:Bs) none 0 0 0 r)::F12) (ay.add 3) [vi m3]∧∃am:Addr,some p=some am∧∃(aq:List Value) (au:Nat) (F13:bZ),List.Perm F12 (((am.add 3).block,Obj.cells aq.toArray au (0,0))::F13)∧(am.add 3).spot=none∧(am.add 3).off+1≤aq.length∧cd P 91 (#[vp (some p)]) I13 ((ka b 0 0 (⟨#[]⟩:Bs) 0 0 0 0 0 (⟨#[]⟩:Bs) none 0 0 0 0 0 0 0 0 (⟨#[]⟩:Bs) none 0 0 0 0 0 0 0 0 (⟨#[]⟩:Bs) none 0 0 0 0 0 0 0 0 (⟨#[]⟩:Bs) none 0 0 0 0)::(ka ab 1 m2 (⟨#[]⟩:Bs) q s t u v w e f g x h i j k l n a c d o ac ae af ag ah ai y z aa aj 0 0 0 0 0 (⟨#[]⟩:Bs) none 0 0 0 r)::(((am.add 3).block,Obj.cells (cf (am.add 3).off [vi (wr (m3+1))] aq).toArray au (0,0))::F13)) fun aB I14 G11=>∃(r5:Bs),aB=.returned (vs r5)∧∃F14:bZ,List.Perm G11 ((ka b 0 0 (⟨#[]⟩:Bs) 0 0 0 0 0 (⟨#[]⟩:Bs) none 0 0 0 0 0 0 0 0 (⟨#[]⟩:Bs) none 0 0 0 0 0 0 0 0 (⟨#[]⟩:Bs) none 0 0 0 0 0 0 0 0 (⟨#[]⟩:Bs) none 0 0 0 0)::(ka ab 1 m2 (⟨#[]⟩:Bs) q s t u v w e f g x h i j k l n a c d o ac ae af ag ah ai y z aa aj 0 0 0 0 0 (⟨#[]⟩:Bs) none 0 0 0 r)::F14)∧Q (.returned ((kb 1 m2 r5 q s t u v w e f g x h i j k l n a c d o ac ae af ag ah ai y z aa aj 0 0 0 0 0 (⟨#[]⟩:Bs) none 0 0 0 r))) I14 F14) (Q (.returned ((kb 1 m2 (⟨#[]⟩:Bs) q s t u v w e f g x h i j k l n a c d o ac ae af ag ah ai y z aa aj 0 0 0 0 0 (⟨#[]⟩:Bs) none 0 0 0 r))) I13 F12)))))) (cd P 86 (#[vp (some p),vs (⟨#[97,115]⟩:Bs)]) I6 ((ka b 0 0 (⟨#[]⟩:Bs) 0 0 0 0 0 (⟨#[]⟩:Bs) none 0 0 0 0 0 0 0 0 (⟨#[]⟩:Bs) none 0 0 0 0 0 0 0 0 (⟨#[]⟩:Bs) none 0 0 0 0 0 0 0 0 (⟨#[]⟩:Bs) none 0 0 0 0)::(ka ab 1 2 (⟨#[]⟩:Bs) q s t u v w e f g x h i j k l n a c d o 0 0 0 0 0 (⟨#[]⟩:Bs) none 0 0 0 0 0 0 0 0 (⟨#[]⟩:Bs) none 0 0 0 r)::(((ak.add 3).block,Obj.cells (cf (ak.add 3).off [vi (wr (m+1))] cs).toArray el (0,0))::F7)) fun aC I15 G12=>∃(r6:Bool),aC=.returned (.bool r6)∧∃F15:bZ,List.Perm G12 ((ka b 0 0 (⟨#[]⟩:Bs) 0 0 0 0 0 (⟨#[]⟩:Bs) none 0 0 0 0 0 0 0 0 (⟨#[]⟩:Bs) none 0 0 0 0 0 0 0 0 (⟨#[]⟩:Bs) none 0 0 0 0 0 0 0 0 (⟨#[]⟩:Bs) none 0 0 0 0)::(ka ab 1 2 (⟨#[]⟩:Bs) q s t u v w e f g x h i j k l n a c d o 0 0 0 0 0 (⟨#[]⟩:Bs) none 0 0 0 0 0 0 0 0 (⟨#[]⟩:Bs) none 0 0 0 r)::F15)∧(It r6 (∃az:Addr,some p=some az∧∃(m4:Int),Rd I15 ((ka b 0 0 (⟨#[]⟩:Bs) 0 0 0 0 0 (⟨#[]⟩:Bs) none 0 0 0 0 0 0 0 0 (⟨#[]⟩:Bs) none 0 0 0 0 0 0 0 0 (⟨#[]⟩:Bs) none 0 0 0 0 0 0 0 0 (⟨#[]⟩:Bs) none 0 0 0 0)::(ka ab 1 2 (⟨#[]⟩:Bs) q s t u v w e f g x h i j k l n a c d o 0 0 0 0 0 (⟨#[]⟩:Bs) none 0 0 0 0 0 0 0 0 (⟨#[]⟩:Bs) none 0 0 0 r)::F15) (az.add 3) [vi m4]∧∃an:Addr,some p=some an∧∃(ar:List Value) (av:Nat) (F16:bZ),List.Perm F15 (((an.add 3).block,Obj.cells ar.toArray av (0,0))::F16)∧(an.add 3).spot=none∧(an.add 3).off+1≤ar.length∧cd P 91 (#[vp (some p)]) I15 ((ka b 0 0 (⟨#[]⟩:Bs) 0 0 0 0 0 (⟨#[]⟩:Bs) none 0 0 0 0 0 0 0 0 (⟨#[]⟩:Bs) none 0 0 0 0 0 0 0 0 (⟨#[]⟩:Bs) none 0 0 0 0 0 0 0 0 (⟨#[]⟩:Bs) none 0 0 0 0)::(ka ab 1 2 (⟨#[]⟩:Bs) q s t u v w e f g x h i j k l n a c d o 0 0 0 0 0 (⟨#[]⟩:Bs) none 0 0 0 0 0 0 0 0 (⟨#[]⟩:Bs) none 0 0 0 r)::(((an.add 3).block,Obj.cells (cf (an.add 3).off [vi (wr (m4+1))] ar).toArray av (0,0))::F16)) fun aD I16 G13=>∃(r7:Bs),aD=.returned (vs r7)∧∃F17:bZ,List.Perm G13 ((ka b 0 0 (⟨#[]⟩:Bs) 0 0 0 0 0 (⟨#[]⟩:Bs) none 0 0 0 0 0 0 0 0 (⟨#[]⟩:Bs) none 0 0 0 0 0 0 0 0 (⟨#[]⟩:Bs) none 0 0 0 0 0 0 0 0 (⟨#[]⟩:Bs) none 0 0 0 0)::(ka ab 1 2 (⟨#[]⟩:Bs) q s t u v w e f g x h i j k l n a c d o 0 0 0 0 0 (⟨#[]⟩:Bs) none 0 0 0 0 0 0 0 0 (⟨#[]⟩:Bs) none 0 0 0 r)::F17)∧Q (.returned ((kb 1 2 r7 q s t u v w e f g x h i j k l n a c d o 0 0 0 0 0 (⟨#[]⟩:Bs) none 0 0 0 0 0 0 0 0 (⟨#[]⟩:Bs) none 0 0 0 r))) I16 F17) (Q (.returned ((kb 1 2 (⟨#[]⟩:Bs) q s t u v w e f g x h i j k l n a c d o 0 0 0 0 0 (⟨#[]⟩:Bs) none 0 0 0 0 0 0 0 0 (⟨#[]⟩:Bs) none 0 0 0 r))) I15 F15))))))
theorem dV.vc{p:Addr}{I:b8}{F:bZ}{Q:cc}  (h:dV.V (fun W a b c d e f g h i j k l m n o p q r s t u v w x y z aa ab ac ad ae af ag ah ai aj ak al am an ao ap aq ar=>(W,Obj.cells #[.int .u8 a,.int .u8 b,.string c,.int .u8 d,.int .u8 e,.int .u8 f,.int .i64 g,.int .u8 h,.string i,.slice j k l,.int .i64 m,.int .u8 n,.int .u8 o,.int .u8 p,.int .i64 q,.int .u8 r,.string s,.slice t u v,.int .i64 w,.int .u8 x,.int .u8 y,.int .u8 z,.int .i64 aa,.int .u8 ab,.string ac,.slice ad ae af,.int .i64 ag,.int .u8 ah,.int .u8 ai,.int .u8 aj,.int .i64 ak,.int .u8 al,.string am,.slice an ao ap,.int .i64 aq,.int .i64 ar] 99 (0,0))) (fun a b c d e f g h i j k l m n o p q r s t u v w x y z aa ab ac ad ae af ag ah ai aj ak al am an ao ap aq ar=>.agg #[.int .u8 a,.int .u8 b,.string c,.int .u8 d,.int .u8 e,.int .u8 f,.int .i64 g,.int .u8 h,.string i,.slice j k l,.int .i64 m,.int .u8 n,.int .u8 o,.int .u8 p,.int .i64 q,.int .u8 r,.string s,.slice t u v,.int .i64 w,.int .u8 x,.int .u8 y,.int .u8 z,.int .i64 aa,.int .u8 ab,.string ac,.slice ad ae af,.int .i64 ag,.int .u8 ah,.int .u8 ai,.int .u8 aj,.int .i64 ak,.int .u8 al,.string am,.slice an ao ap,.int .i64 aq,.int .i64 ar]) (fun k o t n f s a l c q=>.agg #[.int .u8 k,.int .u8 o,.int .u8 t,.int .i64 n,.int .u8 f,.string s,.slice a l c,.int .i64 q]) (.int .u8) (.int .i64) .string .slice .pointer (IntKind.wrap .i64) p I F Q):cd P 158 #[.pointer (some p)] I F Q :=
 tw (A:=(cO [6001,11001,14001,20000] [] [53,86,89,90,91,122] kL [] [5001,13001,18000] [] [] [] [] [])) [53,86,89,90,91,122] func158 h
def fy.V(ka:Nat→Int→Int→Bs→Int→Int→Int→Int→Int→Bs→OA→Nat→Nat→Int→Int→Int→Int→Int→Int→Bs→OA→Nat→Nat→Int→Int→Int→Int→Int→Int→Bs→OA→Nat→Nat→Int→Int→Int→Int→Int→Int→Bs→OA→Nat→Nat→Int→Int→Nat×Obj)(kb:Int→Int→Bs→Int→Int→Int→Int→Int→Bs→OA→Nat→Nat→Int→Int→Int→Int→Int→Int→Bs→OA→Nat→Nat→Int→Int→Int→Int→Int→Int→Bs→OA→Nat→Nat→Int→Int→Int→Int→Int→Int→Bs→OA→Nat→Nat→Int→Int→Value)(nV:Int→Int→Int→Int→Int→Bs→OA→Nat→Nat→Int→Value)(vb vi:Int→Value)(vs:Bs→Value)(vl:OA→Nat→Nat→Value)(vp:OA→Value)(wr:Int→Int)(p:Addr)(I:b8)(F:bZ)(Q:cc)  : Prop:=∀b:Nat,de P 88 (#[vp (some p)]) I ((ka b 0 0 (⟨#[]⟩:Bs) 0 0 0 0 0 (⟨#[]⟩:Bs) none 0 0 0 0 0 0 0 0 (⟨#[]⟩:Bs) none 0 0 0 0 0 0 0 0 (⟨#[]⟩:Bs) none 0 0 0 0 0 0 0 0 (⟨#[]⟩:Bs) none 0 0 0 0)::·) F fun e1 I1 G1=>∃(bV:Int) (bW:Bs) (bX bY a:Int),e1=.returned (.agg #[vb bV,vs bW,vb bX,vi bY,vi a])∧G1 fun F1=>∀(b1:Nat) (I2:b8),b8.le I1 I2→I2 b1=some (Obj.cells #[vs (⟨#[115,117,98,109,105,116]⟩:Bs),vs (⟨#[97,109,101,110,100]⟩:Bs),vs (⟨#[99,97,110,99,101,108]⟩:Bs),vs (⟨#[115,101,116]⟩:Bs),vs (⟨#[103,111,116,111]⟩:Bs),vs (⟨#[104,97,108,116]⟩:Bs)] 9 (0,0))→cJ P 122 (#[vp (some p),vl (some ⟨b1,0,none⟩) 6 6]) I2 ((ka b 0 0 (⟨#[]⟩:Bs) 0 0 0 0 0 (⟨#[]⟩:Bs) none 0 0 0 0 0 0 0 0 (⟨#[]⟩:Bs) none 0 0 0 0 0 0 0 0 (⟨#[]⟩:Bs) none 0 0 0 0 0 0 0 0 (⟨#[]⟩:Bs) none 0 0 0 0)::·) F1 vi fun r I3 F2=>(Dt (r<0) (de P 90 (#[vp (some p),vi 130]) I3 ((ka b 0 0 (⟨#[]⟩:Bs) 0 0 0 0 0 (⟨#[]⟩:Bs) none 0 0 0 0 0 0 0 0 (⟨#[]⟩:Bs) none 0 0 0 0 0 0 0 0 (⟨#[]⟩:Bs) none 0 0 0 0 0 0 0 0 (⟨#[]⟩:Bs) none 0 0 0 0)::·) F2 fun e3 I4 G3=>e3=.returned (.tuple #[])∧G3 fun F3=>Q (.returned ((kb 0 0 (⟨#[]⟩:Bs) 0 0 0 0 0 (⟨#[]⟩:Bs) none 0 0 0 0 0 0 0 0 (⟨#[]⟩:Bs) none 0 0 0 0 0 0 0 0 (⟨#[]⟩:Bs) none 0 0 0 0 0 0 0 0 (⟨#[]⟩:Bs) none 0 0 0 0))) I4 F3) (It (r==0) (de P 158 (#[vp (some p)]) I3 ((ka b 0 0 (⟨#[]⟩:Bs) 0 0 0 0 0 (⟨#[]⟩:Bs) none 0 0 0 0 0 0 0 0 (⟨#[]⟩:Bs) none 0 0 0 0 0 0 0 0 (⟨#[]⟩:Bs) none 0 0 0 0 0 0 0 0 (⟨#[]⟩:Bs) none 0 0 0 0)::·) F2 fun e4 I5 G4=>∃(a9 ba:Int) (bb:Bs) (bc bd bR bS bT:Int) (bU:Bs) (aT:OA) (aU aV:Nat) (be aW bf bg bh bi:Int) (bj:Bs) (ay:OA) (az aA:Nat) (bk bl bm aX bn bo:Int) (bp:Bs) (aB:OA) (aC aD:Nat) (bq br bs bt bu aY:Int) (bv:Bs) (aE:OA) (aF aG:Nat) (bw bx:Int),e4=.returned ((kb a9 ba bb bc bd bR bS bT bU aT aU aV be aW bf bg bh bi bj ay az aA bk bl bm aX bn bo bp aB aC aD bq br bs bt bu aY bv aE aF aG bw bx))∧G4 fun F4=>Q (.returned ((kb a9 ba bb bc bd bR bS bT bU aT aU aV be aW bf bg bh bi bj ay az aA bk bl bm aX bn bo bp aB aC aD bq br bs bt bu aY bv aE aF aG bw bx))) I5 F4) (∃ad:Addr,some p=some ad∧∃(m:Int),Rd I3 ((ka b 0 0 (⟨#[]⟩:Bs) 0 0 0 0 0 (⟨#[]⟩:Bs) none 0 0 0 0 0 0 0 0 (⟨#[]⟩:Bs) none 0 0 0 0 0 0 0 0 (⟨#[]⟩:Bs) none 0 0 0 0 0 0 0 0 (⟨#[]⟩:Bs) none 0 0 0 0)::F2) (ad.add 3) [vi m]∧∃am:Addr,some p=some am∧∃(cs:List Value) (el:Nat) (F5:bZ),List.Perm F2 (((am.add 3).block,Obj.cells cs.toArray el (0,0))::F5)∧(am.add 3).spot=none∧(am.add 3).off+1≤cs.length∧∀c:Nat,(It ((IntKind.wrap .u8 (1+(IntKind.wrap .u8 r)))!=6) (cd P 91 (#[vp (some p)]) I3 ((ka b 0 0 (⟨#[]⟩:Bs) 0 0 0 0 0 (⟨#[]⟩:Bs) none 0 0 0 0 0 0 0 0 (⟨#[]⟩:Bs) none 0 0 0 0 0 0 0 0 (⟨#[]⟩:Bs) none 0 0 0 0 0 0 0 0 (⟨#[]⟩:Bs) none 0 0 0 0)::(ka c (IntKind.wrap .u8 (1+(IntKind.wrap .u8 r))) 0 (⟨#[]⟩:Bs) 0 0 0 0 0 (⟨#[]⟩:Bs) none 0 0 0 0 0 0 0 0 (⟨#[]⟩:Bs) none 0 0 0 0 0 0 0 0 (⟨#[]⟩:Bs) none 0 0 0 0 0 0 0 0 (⟨#[]⟩:Bs) none 0 0 0 a)::(((am.add 3).block,Obj.cells (cf (am.add 3).off [vi (wr (m+1))] cs).toArray el (0,0))::F5)) fun e5 I6 G5=>∃(r1:Bs),e5=.returned (vs r1)∧∃F6:bZ,List.Perm G5 ((ka b 0 0 (⟨#[]⟩:Bs) 0 0 0 0 0 (⟨#[]⟩:Bs) none 0 0 0 0 0 0 0 0 (⟨#[]⟩:Bs) none 0 0 0 0 0 0 0 0 (⟨#[]⟩:Bs) none 0 0 0 0 0 0 0 0 (⟨#[]⟩:Bs) none 0 0 0 0)::(ka c (IntKind.wrap .u8 (1+(IntKind.wrap .u8 r))) 0 (⟨#[]⟩:Bs) 0 0 0 0 0 (⟨#[]⟩:Bs) none 0 0 0 0 0 0 0 0 (⟨#[]⟩:Bs) none 0 0 0 0 0 0 0 0 (⟨#[]⟩:Bs) none 0 0 0 0 0 0 0 0 (⟨#[]⟩:Bs) none 0 0 0 a)::F6)∧(It ((IntKind.wrap .u8 (1+(IntKind.wrap .u8 r)))==2) (cJ P 89 (#[vp (some p),vs (⟨#[116,111]⟩:Bs)]) I6 ((ka b 0 0 (⟨#[]⟩:Bs) 0 0 0 0 0 (⟨#[]⟩:Bs) none 0 0 0 0 0 0 0 0 (⟨#[]⟩:Bs) none 0 0 0 0 0 0 0 0 (⟨#[]⟩:Bs) none 0 0 0 0 0 0 0 0 (⟨#[]⟩:Bs) none 0 0 0 0)::(ka c (IntKind.wrap .u8 (1+(IntKind.wrap .u8 r))) 0 r1 0 0 0 0 0 (⟨#[]⟩:Bs) none 0 0 0 0 0 0 0 0 (⟨#[]⟩:Bs) none 0 0 0 0 0 0 0 0 (⟨#[]⟩:Bs) none 0 0 0 0 0 0 0 0 (⟨#[]⟩:Bs) none 0 0 0 a)::·) F6 vi fun r2 I7 F7=>de P 53 (#[vp (some p),vi 0]) I7 ((ka b 0 0 (⟨#[]⟩:Bs) 0 0 0 0 0 (⟨#[]⟩:Bs) none 0 0 0 0 0 0 0 0 (⟨#[]⟩:Bs) none 0 0 0 0 0 0 0 0 (⟨#[]⟩:Bs) none 0 0 0 0 0 0 0 0 (⟨#[]⟩:Bs) none 0 0 0 0)::(ka c (IntKind.wrap .u8 (1+(IntKind.wrap .u8 r))) 0 r1 0 0 0 0 0 (⟨#[]⟩:Bs) none 0 0 0 0 0 0 0 0 (⟨#[]⟩:Bs) none 0 0 0 0 0 0 0 0 (⟨#[]⟩:Bs) none 0 0 0 0 0 0 0 0 (⟨#[]⟩:Bs) none 0 0 0 a)::·) F7 fun e7 I8 G7=>∃(l n o q s:Int) (t:Bs) (g:OA) (h i:Nat) (u:Int),e7=.returned (nV l n o q s t g h i u)∧G7 fun F8=>cJ P 89 (#[vp (some p),vs (⟨#[97,116]⟩:Bs)]) I8 ((ka b 0 0 (⟨#[]⟩:Bs) 0 0 0 0 0 (⟨#[]⟩:Bs) none 0 0 0 0 0 0 0 0 (⟨#[]⟩:Bs) none 0 0 0 0 0 0 0 0 (⟨#[]⟩:Bs) none 0 0 0 0 0 0 0 0 (⟨#[]⟩:Bs) none 0 0 0 0)::(ka c (IntKind.wrap .u8 (1+(IntKind.wrap .u8 r))) 0 r1 0 0 0 0 0 (⟨#[]⟩:Bs) none 0 0 0 l n o q s t g h i u 0 0 0 0 0 (⟨#[]⟩:Bs) none 0 0 0 0 0 0 0 0 (⟨#[]⟩:Bs) none 0 0 0 a)::·) F8 vi fun r3 I9 F9=>de P 53 (#[vp (some p),vi 0]) I9 ((ka b 0 0 (⟨#[]⟩:Bs) 0 0 0 0 0 (⟨#[]⟩:Bs) none 0 0 0 0 0 0 0 0 (⟨#[]⟩:Bs) none 0 0 0 0 0 0 0 0 (⟨#[]⟩:Bs) none 0 0 0 0 0 0 0 0 (⟨#[]⟩:Bs) none 0 0 0 0)::(ka c (IntKind.wrap .u8 (1+(IntKind.wrap .u8 r))) 0 r1 0 0 0 0 0 (⟨#[]⟩:Bs) none 0 0 0 l n o q s t g h i u 0 0 0 0 0 (⟨#[]⟩:Bs) none 0 0 0 0 0 0 0 0 (⟨#[]⟩:Bs) none 0 0 0 a)::·) F9 fun e9 I10 G9=>∃(an ah ai ao ap:Int) (aq:Bs) (v:OA) (w x:Nat) (ar:Int),e9=.returned (nV an ah ai ao ap aq v w x ar)∧G9 fun F10=>(It ((IntKind.wrap .u8 (1+(IntKind.wrap .u8 r)))==4) (cJ P 89 (#[vp (some p),vs (⟨#[61]⟩:Bs)]) I10 ((ka b 0 0 (⟨#[]⟩:Bs) 0 0 0 0 0 (⟨#[]⟩:Bs) none 0 0 0 0 0 0 0 0 (⟨#[]⟩:Bs) none 0 0 0 0 0 0 0 0 (⟨#[]⟩:Bs) none 0 0 0 0 0 0 0 0 (⟨#[]⟩:Bs) none 0 0 0 0)::(ka c (IntKind.wrap .u8 (1+(IntKind.wrap .u8 r))) 0 r1 0 0 0 0 0 (⟨#[]⟩:Bs) none 0 0 0 l n o q s t g h i u an ah ai ao ap aq v w x ar 0 0 0 0 0 (⟨#[]⟩:Bs) none 0 0 0 a)::·) F10 vi fun r4 I11 F11=>de P 53 (#[vp (some p),vi 0]) I11 ((ka b 0 0 (⟨#[]⟩:Bs) 0 0 0 0 0 (⟨#[]⟩:Bs) none 0 0 0 0 0 0 0 0 (⟨#[]⟩:Bs) none 0 0 0 0 0 0 0 0 (⟨#[]⟩:Bs) none 0 0 0 0 0 0 0 0 (⟨#[]⟩:Bs) none 0 0 0 0)::(ka c (IntKind.wrap .u8 (1+(IntKind.wrap .u8 r))) 0 r1 0 0 0 0 0 (⟨#[]⟩:Bs) none 0 0 0 l n o q s t g h i u an ah ai ao ap aq v w x ar 0 0 0 0 0 (⟨#[]⟩:Bs) none 0 0 0 a)::·) F11 fun b0 I12 G11=>∃(bz aZ a0 bA bB:Int) (bC:Bs) (aH:OA) (aI aJ:Nat) (bD:Int),b0=.returned (nV bz aZ a0 bA bB bC aH aI aJ bD)∧G11 fun F12=>Q (.returned ((kb (IntKind.wrap .u8 (1+(IntKind.wrap .u8 r))) 0 r1 0 0 0 0 0 (⟨#[]⟩:Bs) none 0 0 0 l n o q s t g h i u an ah ai ao ap aq v w x ar bz aZ a0 bA bB bC aH aI aJ bD a))) I12 F12) (Q (.returned ((kb (IntKind.wrap .u8 (1+(IntKind.wrap .u8 r))) 0 r1 0 0 0 0 0 (⟨#[]⟩:Bs) none 0 0 0 l n o q s t g h i u an ah ai ao ap aq v w x ar 0 0 0 0 0 (⟨#[]⟩:Bs) none 0 0 0 a))) I10 F10))) (It ((IntKind.wrap .u8 (1+(IntKind.wrap .u8 r)))==4) (cJ P 89 (#[vp (some p),vs (⟨#[61]⟩:Bs)]) I6 ((ka b 0 0 (⟨#[]⟩:Bs) 0 0 0 0 0 (⟨#[]⟩:Bs) none 0 0 0 0 0 0 0 0 (⟨#[]⟩:Bs) none 0 0 0 0 0 0 0 0 (⟨#[]⟩:Bs) none 0 0 0 0 0 0 0 0 (⟨#[]⟩:Bs) none 0 0 0 0)::(ka c (IntKind.wrap .u8 (1+(IntKind.wrap .u8 r))) 0 r1 0 0 0 0 0 (⟨#[]⟩:Bs) none 0 0 0 0 0 0 0 0 (⟨#[]⟩:Bs) none 0 0 0 0 0 0 0 0 (⟨#[]⟩:Bs) none 0 0 0 0 0 0 0 0 (⟨#[]⟩:Bs) none 0 0 0 a)::·) F6 vi fun r5 I13 F13=>de P 53 (#[vp (some p),vi 0]) I13 ((ka b 0 0 (⟨#[]⟩:Bs) 0 0 0 0 0 (⟨#[]⟩:Bs) none 0 0 0 0 0 0 0 0 (⟨#[]⟩:Bs) none 0 0 0 0 0 0 0 0 (⟨#[]⟩:Bs) none 0 0 0 0 0 0 0 0 (⟨#[]⟩:Bs) none 0 0 0 0)::(ka c (IntKind.wrap .u8 (1+(IntKind.wrap .u8 r))) 0 r1 0 0 0 0 0 (⟨#[]⟩:Bs) none 0 0 0 0 0 0 0 0 (⟨#[]⟩:Bs) none 0 0 0 0 0 0 0 0 (⟨#[]⟩:Bs) none 0 0 0 0 0 0 0 0 (⟨#[]⟩:Bs) none 0 0 0 a)::·) F13 fun b3 I14 G13=>∃(bE a1 a2 bF bG:Int) (bH:Bs) (aK:OA) (aL aM:Nat) (bI:Int),b3=.returned (nV bE a1 a2 bF bG bH aK aL aM bI)∧G13 fun F14=>Q (.returned ((kb (IntKind.wrap .u8 (1+(IntKind.wrap .u8 r))) 0 r1 0 0 0 0 0 (⟨#[]⟩:Bs) none 0 0 0 0 0 0 0 0 (⟨#[]⟩:Bs) none 0 0 0 0 0 0 0 0 (⟨#[]⟩:Bs) none 0 0 0 bE a1 a2 bF bG bH aK aL aM bI a))) I14 F14) (Q (.returned ((kb (IntKind.wrap .u8 (1+(IntKind.wrap .u8 r))) 0 r1 0 0 0 0 0 (⟨#[]⟩:Bs) none 0 0 0 0 0 0 0 0 (⟨#[]⟩:Bs) none 0 0 0 0 0 0 0 0 (⟨#[]⟩:Bs) none 0 0 0 0 0 0 0 0 (⟨#[]⟩:Bs) none 0 0 0 a))) I6 F6)))) (It ((IntKind.wrap .u8 (1+(IntKind.wrap .u8 r)))==2) (cd P 89 (#[vp (some p),vs (⟨#[116,111]⟩:Bs)]) I3 ((ka b 0 0 (⟨#[]⟩:Bs) 0 0 0 0 0 (⟨#[]⟩:Bs) none 0 0 0 0 0 0 0 0 (⟨#[]⟩:Bs) none 0 0 0 0 0 0 0 0 (⟨#[]⟩:Bs) none 0 0 0 0 0 0 0 0 (⟨#[]⟩:Bs) none 0 0 0 0)::(ka c (IntKind.wrap .u8 (1+(IntKind.wrap .u8 r))) 0 (⟨#[]⟩:Bs) 0 0 0 0 0 (⟨#[]⟩:Bs) none 0 0 0 0 0 0 0 0 (⟨#[]⟩:Bs) none 0 0 0 0 0 0 0 0 (⟨#[]⟩:Bs) none 0 0 0 0 0 0 0 0 (⟨#[]⟩:Bs) none 0 0 0 a)::(((am.add 3).block,Obj.cells (cf (am.add 3).off [vi (wr (m+1))] cs).toArray el (0,0))::F5)) fun b4 I15 G14=>∃(r6:Int),b4=.returned (vi r6)∧∃F15:bZ,List.Perm G14 ((ka b 0 0 (⟨#[]⟩:Bs) 0 0 0 0 0 (⟨#[]⟩:Bs) none 0 0 0 0 0 0 0 0 (⟨#[]⟩:Bs) none 0 0 0 0 0 0 0 0 (⟨#[]⟩:Bs) none 0 0 0 0 0 0 0 0 (⟨#[]⟩:Bs) none 0 0 0 0)::(ka c (IntKind.wrap .u8 (1+(IntKind.wrap .u8 r))) 0 (⟨#[]⟩:Bs) 0 0 0 0 0 (⟨#[]⟩:Bs) none 0 0 0 0 0 0 0 0 (⟨#[]⟩:Bs) none 0 0 0 0 0 0 0 0 (⟨#[]⟩:Bs) none 0 0 0 0 0 0 0 0 (⟨#[]⟩:Bs) none 0 0 0 a)::F15)∧de P 53 (#[vp (some p),vi 0]) I15 ((ka b 0 0 (⟨#[]⟩:Bs) 0 0 0 0 0 (⟨#[]⟩:Bs) none 0 0 0 0 0 0 0 0 (⟨#[]⟩:Bs) none 0 0 0 0 0 0 0 0 (⟨#[]⟩:Bs) none 0 0 0 0 0 0 0 0 (⟨#[]⟩:Bs) none 0 0 0 0)::(ka c (IntKind.wrap .u8 (1+(IntKind.wrap .u8 r))) 0 (⟨#[]⟩:Bs) 0 0 0 0 0 (⟨#[]⟩:Bs) none 0 0 0 0 0 0 0 0 (⟨#[]⟩:Bs) none 0 0 0 0 0 0 0 0 (⟨#[]⟩:Bs) none 0 0 0 0 0 0 0 0 (⟨#[]⟩:Bs) none 0 0 0 a)::·) F15 fun b5 I16 G15=>∃(y j k z aa:Int) (ab:Bs) (d:OA) (e f:Nat) (ac:Int),b5=.returned (nV y j k z aa ab d e f ac)∧G15 fun F16=>cJ P 89 (#[vp (some p),vs (⟨#[97,116]⟩:Bs)]) I16 ((ka b 0 0 (⟨#[]⟩:Bs) 0 0 0 0 0 (⟨#[]⟩:Bs) none 0 0 0 0 0 0 0 0 (⟨#[]⟩:Bs) none 0 0 0 0 0 0 0 0 (⟨#[]⟩:Bs) none 0 0 0 0 0 0 0 0 (⟨#[]⟩:Bs) none 0 0 0 0)::(ka c (IntKind.wrap .u8 (1+(IntKind.wrap .u8 r))) 0 (⟨#[]⟩:Bs) 0 0 0 0 0 (⟨#[]⟩:Bs) none 0 0 0 y j k z aa ab d e f ac 0 0 0 0 0 (⟨#[]⟩:Bs) none 0 0 0 0 0 0 0 0 (⟨#[]⟩:Bs) none 0 0 0 a)::·) F16 vi fun r7 I17 F17=>de P 53 (#[vp (some p),vi 0]) I17 ((ka b 0 0 (⟨#[]⟩:Bs) 0 0 0 0 0 (⟨#[]⟩:Bs) none 0 0 0 0 0 0 0 0 (⟨#[]⟩:Bs) none 0 0 0 0 0 0 0 0 (⟨#[]⟩:Bs) none 0 0 0 0 0 0 0 0 (⟨#[]⟩:Bs) none 0 0 0 0)::(ka c (IntKind.wrap .u8 (1+(IntKind.wrap .u8 r))) 0 (⟨#[]⟩:Bs) 0 0 0 0 0 (⟨#[]⟩:Bs) none 0 0 0 y j k z aa ab d e f ac 0 0 0 0 0 (⟨#[]⟩:Bs) none 0 0 0 0 0 0 0 0 (⟨#[]⟩:Bs) none 0 0 0 a)::·) F17 fun b7 I18 G17=>∃(au aj ak al av:Int) (aw:Bs) (ae:OA) (af ag:Nat) (ax:Int),b7=.returned (nV au aj ak al av aw ae af ag ax)∧G17 fun F18=>(It ((IntKind.wrap .u8 (1+(IntKind.wrap .u8 r)))==4) (cJ P 89 (#[vp (some p),vs (⟨#[61]⟩:Bs)]) I18 ((ka b 0 0 (⟨#[]⟩:Bs) 0 0 0 0 0 (⟨#[]⟩:Bs) none 0 0 0 0 0 0 0 0 (⟨#[]⟩:Bs) none 0 0 0 0 0 0 0 0 (⟨#[]⟩:Bs) none 0 0 0 0 0 0 0 0 (⟨#[]⟩:Bs) none 0 0 0 0)::(ka c (IntKind.wrap .u8 (1+(IntKind.wrap .u8 r))) 0 (⟨#[]⟩:Bs) 0 0 0 0 0 (⟨#[]⟩:Bs) none 0 0 0 y j k z aa ab d e f ac au aj ak al av aw ae af ag ax 0 0 0 0 0 (⟨#[]⟩:Bs) none 0 0 0 a)::·) F18 vi fun r8 I19 F19=>de P 53 (#[vp (some p),vi 0]) I19 ((ka b 0 0 (⟨#[]⟩:Bs) 0 0 0 0 0 (⟨#[]⟩:Bs) none 0 0 0 0 0 0 0 0 (⟨#[]⟩:Bs) none 0 0 0 0 0 0 0 0 (⟨#[]⟩:Bs) none 0 0 0 0 0 0 0 0 (⟨#[]⟩:Bs) none 0 0 0 0)::(ka c (IntKind.wrap .u8 (1+(IntKind.wrap .u8 r))) 0 (⟨#[]⟩:Bs) 0 0 0 0 0 (⟨#[]⟩:Bs) none 0 0 0 y j k z aa ab d e f ac au aj ak al av aw ae af ag ax 0 0 0 0 0 (⟨#[]⟩:Bs) none 0 0 0 a)::·) F19 fun b9 I20 G19=>∃(bJ a3 a4 a5 bK:Int) (bL:Bs) (aN:OA) (aO aP:Nat) (bM:Int),b9=.returned (nV bJ a3 a4 a5 bK bL aN aO aP bM)∧G19 fun F20=>Q (.returned ((kb (IntKind.wrap .u8 (1+(IntKind.wrap .u8 r))) 0 (⟨#[]⟩:Bs) 0 0 0 0 0 (⟨#[]⟩:Bs) none 0 0 0 y j k z aa ab d e f ac au aj ak al av aw ae af ag ax bJ a3 a4 a5 bK bL aN aO aP bM a))) I20 F20) (Q (.returned ((kb (IntKind.wrap .u8 (1+(IntKind.wrap .u8 r))) 0 (⟨#[]⟩:Bs) 0 0 0 0 0 (⟨#[]⟩:Bs) none 0 0 0 y j k z aa ab d e f ac au aj ak al av aw ae af ag ax 0 0 0 0 0 (⟨#[]⟩:Bs) none 0 0 0 a))) I18 F18))) (It ((IntKind.wrap .u8 (1+(IntKind.wrap .u8 r)))==4) (cd P 89 (#[vp (some p),vs (⟨#[61]⟩:Bs)]) I3 ((ka b 0 0 (⟨#[]⟩:Bs) 0 0 0 0 0 (⟨#[]⟩:Bs) none 0 0 0 0 0 0 0 0 (⟨#[]⟩:Bs) none 0 0 0 0 0 0 0 0 (⟨#[]⟩:Bs) none 0 0 0 0 0 0 0 0 (⟨#[]⟩:Bs) none 0 0 0 0)::(ka c (IntKind.wrap .u8 (1+(IntKind.wrap .u8 r))) 0 (⟨#[]⟩:Bs) 0 0 0 0 0 (⟨#[]⟩:Bs) none 0 0 0 0 0 0 0 0 (⟨#[]⟩:Bs) none 0 0 0 0 0 0 0 0 (⟨#[]⟩:Bs) none 0 0 0 0 0 0 0 0 (⟨#[]⟩:Bs) none 0 0 0 a)::(((am.add 3).block,Obj.cells (cf (am.add 3).off [vi (wr (m+1))] cs).toArray el (0,0))::F5)) fun ca I21 G20=>∃(r9:Int),ca=.returned (vi r9)∧∃F21:bZ,List.Perm G20 ((ka b 0 0 (⟨#[]⟩:Bs) 0 0 0 0 0 (⟨#[]⟩:Bs) none 0 0 0 0 0 0 0 0 (⟨#[]⟩:Bs) none 0 0 0 0 0 0 0 0 (⟨#[]⟩:Bs) none 0 0 0 0 0 0 0 0 (⟨#[]⟩:Bs) none 0 0 0 0)::(ka c (IntKind.wrap .u8 (1+(IntKind.wrap .u8 r))) 0 (⟨#[]⟩:Bs) 0 0 0 0 0 (⟨#[]⟩:Bs) none 0 0 0 0 0 0 0 0 (⟨#[]⟩:Bs) none 0 0 0 0 0 0 0 0 (⟨#[]⟩:Bs) none 0 0 0 0 0 0 0 0 (⟨#[]⟩:Bs) none 0 0 0 a)::F21)∧de P 53 (#[vp (some p),vi 0]) I21 ((ka b 0 0 (⟨#[]⟩:Bs) 0 0 0 0 0 (⟨#[]⟩:Bs) none 0 0 0 0 0 0 0 0 (⟨#[]⟩:Bs) none 0 0 0 0 0 0 0 0 (⟨#[]⟩:Bs) none 0 0 0 0 0 0 0 0 (⟨#[]⟩:Bs) none 0 0 0 0)::(ka c (IntKind.wrap .u8 (1+(IntKind.wrap .u8 r))) 0 (⟨#[]⟩:Bs) 0 0 0 0 0 (⟨#[]⟩:Bs) none 0 0 0 0 0 0 0 0 (⟨#[]⟩:Bs) none 0 0 0 0 0 0 0 0 (⟨#[]⟩:Bs) none 0 0 0 0 0 0 0 0 (⟨#[]⟩:Bs) none 0 0 0 a)::·) F21 fun cb I22 G21=>∃(bN a6 a7 a8 bO:Int) (bP:Bs) (aQ:OA) (aR aS:Nat) (bQ:Int),cb=.returned (nV bN a6 a7 a8 bO bP aQ aR aS bQ)∧G21 fun F22=>Q (.returned ((kb (IntKind.wrap .u8 (1+(IntKind.wrap .u8 r))) 0 (⟨#[]⟩:Bs) 0 0 0 0 0 (⟨#[]⟩:Bs) none 0 0 0 0 0 0 0 0 (⟨#[]⟩:Bs) none 0 0 0 0 0 0 0 0 (⟨#[]⟩:Bs) none 0 0 0 bN a6 a7 a8 bO bP aQ aR aS bQ a))) I22 F22) (Q (.returned ((kb (IntKind.wrap .u8 (1+(IntKind.wrap .u8 r))) 0 (⟨#[]⟩:Bs) 0 0 0 0 0 (⟨#[]⟩:Bs) none 0 0 0 0 0 0 0 0 (⟨#[]⟩:Bs) none 0 0 0 0 0 0 0 0 (⟨#[]⟩:Bs) none 0 0 0 0 0 0 0 0 (⟨#[]⟩:Bs) none 0 0 0 a))) I3 ((((am.add 3).block,Obj.cells (cf (am.add 3).off [vi (wr (m+1))] cs).toArray el (0,0))::F5)))))))))
theorem fy.vc{p:Addr}{I:b8}{F:bZ}{Q:cc}  (h:fy.V (fun W a b c d e f g h i j k l m n o p q r s t u v w x y z aa ab ac ad ae af ag ah ai aj ak al am an ao ap aq ar=>(W,Obj.cells #[.int .u8 a,.int .u8 b,.string c,.int .u8 d,.int .u8 e,.int .u8 f,.int .i64 g,.int .u8 h,.string i,.slice j k l,.int .i64 m,.int .u8 n,.int .u8 o,.int .u8 p,.int .i64 q,.int .u8 r,.string s,.slice t u v,.int .i64 w,.int .u8 x,.int .u8 y,.int .u8 z,.int .i64 aa,.int .u8 ab,.string ac,.slice ad ae af,.int .i64 ag,.int .u8 ah,.int .u8 ai,.int .u8 aj,.int .i64 ak,.int .u8 al,.string am,.slice an ao ap,.int .i64 aq,.int .i64 ar] 99 (0,0))) (fun a b c d e f g h i j k l m n o p q r s t u v w x y z aa ab ac ad ae af ag ah ai aj ak al am an ao ap aq ar=>.agg #[.int .u8 a,.int .u8 b,.string c,.int .u8 d,.int .u8 e,.int .u8 f,.int .i64 g,.int .u8 h,.string i,.slice j k l,.int .i64 m,.int .u8 n,.int .u8 o,.int .u8 p,.int .i64 q,.int .u8 r,.string s,.slice t u v,.int .i64 w,.int .u8 x,.int .u8 y,.int .u8 z,.int .i64 aa,.int .u8 ab,.string ac,.slice ad ae af,.int .i64 ag,.int .u8 ah,.int .u8 ai,.int .u8 aj,.int .i64 ak,.int .u8 al,.string am,.slice an ao ap,.int .i64 aq,.int .i64 ar]) (fun k o t n f s a l c q=>.agg #[.int .u8 k,.int .u8 o,.int .u8 t,.int .i64 n,.int .u8 f,.string s,.slice a l c,.int .i64 q]) (.int .u8) (.int .i64) .string .slice .pointer (IntKind.wrap .i64) p I F Q):cd P 146 #[.pointer (some p)] I F Q :=
 tw (A:=(cO [3001,6001,10002,12002,17002] [] [53,88,89,90,91,122,158] kL [] [2001] [] [] [] [] [])) [53,88,89,90,91,122,158] func146 h
def eQ.V(ka:Nat→Int→Int→Int→Int→Int→Bs→OA→Nat→Nat→Int→OA→Nat→Nat→Int→Nat×Obj)(kb:Nat→Int→Int→Bs→Int→Int→Int→Int→Int→Bs→OA→Nat→Nat→Int→Int→Int→Int→Int→Int→Bs→OA→Nat→Nat→Int→Int→Int→Int→Int→Int→Bs→OA→Nat→Nat→Int→Int→Int→Int→Int→Int→Bs→OA→Nat→Nat→Int→Int→Nat×Obj)(vb vi:Int→Value)(vs:Bs→Value)(vl:OA→Nat→Nat→Value)(vp:OA→Value)(p:Addr)(I:b8)(F:bZ)(Q:cc)(Inv8:Int→Int→Int→Int→Int→Bs→OA→Nat→Nat→Int→OA→Nat→Nat→Int→b8→bZ→Prop)(Inv10:Int→Int→Int→Int→Int→Bs→OA→Nat→Nat→Int→OA→Nat→Nat→Int→Nat→b8→bZ→Prop):Prop:=∀b:Nat,cJ P 89 (#[vp (some p),vs (⟨#[119,104,101,110]⟩:Bs)]) I ((ka b 0 0 0 0 0 (⟨#[]⟩:Bs) none 0 0 0 none 0 0 0)::·) F vi fun r I1 F1=>∀aj:Nat,de P 53 (#[vp (some p),vi 0]) I1 ((ka b 0 0 0 0 0 (⟨#[]⟩:Bs) none 0 0 0 none 0 0 0)::(ka aj 0 0 0 0 0 (⟨#[]⟩:Bs) none 0 0 0 none 0 0 r)::·) F1 fun e2 I2 G2=>∃(bb bc bd be bf:Int) (bg:Bs) (a6:OA) (a7 a8:Nat) (bh:Int),e2=.returned (.agg #[vb bb,vb bc,vb bd,vi be,vb bf,vs bg,vl a6 a7 a8,vi bh])∧G2 fun F2=>cJ P 89 (#[vp (some p),vs (⟨#[100,111]⟩:Bs)]) I2 ((ka b 0 0 0 0 0 (⟨#[]⟩:Bs) none 0 0 0 none 0 0 0)::(ka aj bb bc bd be bf bg a6 a7 a8 bh none 0 0 r)::·) F2 vi fun r1 I3 F3=>((∃m:Nat,Inv10 bb bc bd be bf bg a6 a7 a8 bh none 0 0 r m I3 F3)∧∀(e f g h i:Int) (j:Bs) (a:OA) (c d:Nat) (k:Int) (ag:OA) (ah ai:Nat) (l:Int) (m1:Nat) (I4:b8) (F4:bZ),b8.le I3 I4→Inv10 e f g h i j a c d k ag ah ai l m1 I4 F4→de P 146 (#[vp (some p)]) I4 ((ka b 0 0 0 0 0 (⟨#[]⟩:Bs) none 0 0 0 none 0 0 0)::(ka aj e f g h i j a c d k ag ah ai l)::·) F4 fun e4 I5 G4=>∃(ak al:Int) (am:Bs) (an ao ap aU aq:Int) (aV:Bs) (z:OA) (aa ab:Nat) (ar ac au av aw ax:Int) (ay:Bs) (n:OA) (o q:Nat) (az aA aB ae aC aD:Int) (aE:Bs) (s:OA) (t u:Nat) (aF aG aH aI aJ af:Int) (aK:Bs) (w:OA) (x y:Nat) (aL aM:Int),e4=.returned (.agg #[vb ak,vb al,vs am,vb an,vb ao,vb ap,vi aU,vb aq,vs aV,vl z aa ab,vi ar,vb ac,vb au,vb av,vi aw,vb ax,vs ay,vl n o q,vi az,vb aA,vb aB,vb ae,vi aC,vb aD,vs aE,vl s t u,vi aF,vb aG,vb aH,vb aI,vi aJ,vb af,vs aK,vl w x y,vi aL,vi aM])∧G4 fun F5=>∀a9:Nat,∀(b1:Nat) (I6:b8),b8.le I5 I6→I6 b1=some (Obj.cells #[vb ak,vb al,vs am,vb an,vb ao,vb ap,vi aU,vb aq,vs aV,vl z aa ab,vi ar,vb ac,vb au,vb av,vi aw,vb ax,vs ay,vl n o q,vi az,vb aA,vb aB,vb ae,vi aC,vb aD,vs aE,vl s t u,vi aF,vb aG,vb aH,vb aI,vi aJ,vb af,vs aK,vl w x y,vi aL,vi aM] 99 (0,0))→cG P (Builtin.append_ #[82,82] 82 #[vl ag ah ai,vl (some ⟨b1,0,none⟩) 1 1]) I6 ((ka b 0 0 0 0 0 (⟨#[]⟩:Bs) none 0 0 0 none 0 0 0)::(ka aj e f g h i j a c d k ag ah ai l)::(kb a9 ak al am an ao ap aU aq aV z aa ab ar ac au av aw ax ay n o q az aA aB ae aC aD aE s t u aF aG aH aI aJ af aK w x y aL aM)::F5) fun v I7 G5=>∃(aW:OA) (aT aX:Nat),v=vl aW aT aX∧∃F6:bZ,List.Perm G5 ((ka b 0 0 0 0 0 (⟨#[]⟩:Bs) none 0 0 0 none 0 0 0)::(ka aj e f g h i j a c d k ag ah ai l)::(kb a9 ak al am an ao ap aU aq aV z aa ab ar ac au av aw ax ay n o q az aA aB ae aC aD aE s t u aF aG aH aI aJ af aK w x y aL aM)::F6)∧cJ P 86 (#[vp (some p),vs (⟨#[44]⟩:Bs)]) I7 ((ka b 0 0 0 0 0 (⟨#[]⟩:Bs) none 0 0 0 none 0 0 0)::(ka aj e f g h i j a c d k aW aT aX l)::(kb a9 ak al am an ao ap aU aq aV z aa ab ar ac au av aw ax ay n o q az aA aB ae aC aD aE s t u aF aG aH aI aJ af aK w x y aL aM)::·) F6 .bool fun r2 I8 F7=>(It (!r2) (Inv8 e f g h i j a c d k aW aT aX l I8 F7) (cJ P 92 (#[vp (some p),vi (aT:Int),vi 8]) I8 ((ka b 0 0 0 0 0 (⟨#[]⟩:Bs) none 0 0 0 none 0 0 0)::(ka aj e f g h i j a c d k aW aT aX l)::(kb a9 ak al am an ao ap aU aq aV z aa ab ar ac au av aw ax ay n o q az aA aB ae aC aD aE s t u aF aG aH aI aJ af aK w x y aL aM)::·) F7 .bool fun r3 I9 F8=>(It (!r3) (Inv8 e f g h i j a c d k aW aT aX l I9 F8) (∃ad:Addr,some p=some ad∧∃(m2:Int),Rd I9 ((ka b 0 0 0 0 0 (⟨#[]⟩:Bs) none 0 0 0 none 0 0 0)::(ka aj e f g h i j a c d k aW aT aX l)::(kb a9 ak al am an ao ap aU aq aV z aa ab ar ac au av aw ax ay n o q az aA aB ae aC aD aE s t u aF aG aH aI aJ af aK w x y aL aM)::F8) (ad.add 3) [vi m2]∧∃ba:Addr,some p=some ba∧∃(cs:List Value) (el:Nat) (F9:bZ),List.Perm F8 (((ba.add 3).block,Obj.cells cs.toArray el (0,0))::F9)∧(ba.add 3).spot=none∧(ba.add 3).off+1≤cs.length∧(∃m3:Nat,m3<m1∧Inv10 e f g h i j a c d k aW aT aX l m3 I9 (((ba.add 3).block,Obj.cells (cf (ba.add 3).off [vi (IntKind.wrap .i64 (m2+1))] cs).toArray el (0,0))::F9)))))))∧∀(aY aZ a0 a1 a2:Int) (a3:Bs) (aN:OA) (aO aP:Nat) (a4:Int) (aQ:OA) (aR aS:Nat) (a5:Int) (I10:b8) (F10:bZ),b8.le I3 I10→Inv8 aY aZ a0 a1 a2 a3 aN aO aP a4 aQ aR aS a5 I10 F10→cJ P 89 (#[vp (some p),vs (⟨#[59]⟩:Bs)]) I10 ((ka b 0 0 0 0 0 (⟨#[]⟩:Bs) none 0 0 0 none 0 0 0)::(ka aj aY aZ a0 a1 a2 a3 aN aO aP a4 aQ aR aS a5)::·) F10 vi fun r4 I11 F11=>Q (.returned (.agg #[vb aY,vb aZ,vb a0,vi a1,vb a2,vs a3,vl aN aO aP,vi a4,vl aQ aR aS,vi a5])) I11 (F11)
theorem eQ.vc{p:Addr}{I:b8}{F:bZ}{Q:cc}(Inv8:Int→Int→Int→Int→Int→Bs→OA→Nat→Nat→Int→OA→Nat→Nat→Int→b8→bZ→Prop)(Inv10:Int→Int→Int→Int→Int→Bs→OA→Nat→Nat→Int→OA→Nat→Nat→Int→Nat→b8→bZ→Prop)(h:eQ.V (fun W a b c d e f g h i j k l m n=>(W,Obj.cells #[.int .u8 a,.int .u8 b,.int .u8 c,.int .i64 d,.int .u8 e,.string f,.slice g h i,.int .i64 j,.slice k l m,.int .i64 n] 84 (0,0))) (fun W a b c d e f g h i j k l m n o p q r s t u v w x y z aa ab ac ad ae af ag ah ai aj ak al am an ao ap aq ar=>(W,Obj.cells #[.int .u8 a,.int .u8 b,.string c,.int .u8 d,.int .u8 e,.int .u8 f,.int .i64 g,.int .u8 h,.string i,.slice j k l,.int .i64 m,.int .u8 n,.int .u8 o,.int .u8 p,.int .i64 q,.int .u8 r,.string s,.slice t u v,.int .i64 w,.int .u8 x,.int .u8 y,.int .u8 z,.int .i64 aa,.int .u8 ab,.string ac,.slice ad ae af,.int .i64 ag,.int .u8 ah,.int .u8 ai,.int .u8 aj,.int .i64 ak,.int .u8 al,.string am,.slice an ao ap,.int .i64 aq,.int .i64 ar] 99 (0,0))) (.int .u8) (.int .i64) .string .slice .pointer p I F Q Inv8 Inv10):cd P 124 #[.pointer (some p)] I F Q :=
 tw (A:=(cO [7001,9001] [] [53,86,89,92,146] kL [(8,⟨[],[(1,[(.int .u8),(.int .u8),(.int .u8),(.int .i64),(.int .u8),.str,.slc,(.int .i64),.slc,(.int .i64)])],fun _ _ _ vs m I F=>match vs with | [.int _ y0,.int _ y1,.int _ y2,.int _ y3,.int _ y4,.string y5,.slice y6 y7 y8,.int _ y9,.slice y10 y11 y12,.int _ y13]=>Inv8 y0 y1 y2 y3 y4 y5 y6 y7 y8 y9 y10 y11 y12 y13 I F | _=>False,[],[]⟩),(10,⟨[],[(1,[(.int .u8),(.int .u8),(.int .u8),(.int .i64),(.int .u8),.str,.slc,(.int .i64),.slc,(.int .i64)])],fun _ _ _ vs m I F=>match vs with | [.int _ y0,.int _ y1,.int _ y2,.int _ y3,.int _ y4,.string y5,.slice y6 y7 y8,.int _ y9,.slice y10 y11 y12,.int _ y13]=>Inv10 y0 y1 y2 y3 y4 y5 y6 y7 y8 y9 y10 y11 y12 y13 m I F | _=>False,[],[]⟩)] [5003] [] [] [] [] [])) [53,86,89,92,146] func124 h
def eu.V(ka:Nat→Bs→OA→Nat→Nat→Int→Nat×Obj)(vb vi:Int→Value)(vs:Bs→Value)(vl:OA→Nat→Nat→Value)(vp:OA→Value)(p:Addr)(I:b8)(F:bZ)(Q:cc)(Inv8:Bs→OA→Nat→Nat→Int→b8→bZ→Prop)(Inv10:Bs→OA→Nat→Nat→Int→Nat→b8→bZ→Prop):Prop:=∀b:Nat,cJ P 89 (#[vp (some p),vs (⟨#[115,116,97,116,101]⟩:Bs)]) I ((ka b (⟨#[]⟩:Bs) none 0 0 0)::·) F vi fun r I1 F1=>∀g:Nat,cJ P 91 (#[vp (some p)]) I1 ((ka b (⟨#[]⟩:Bs) none 0 0 0)::(ka g (⟨#[]⟩:Bs) none 0 0 r)::·) F1 vs fun r1 I2 F2=>cJ P 89 (#[vp (some p),vs (⟨#[123]⟩:Bs)]) I2 ((ka b (⟨#[]⟩:Bs) none 0 0 0)::(ka g r1 none 0 0 r)::·) F2 vi fun r2 I3 F3=>((∃m:Nat,Inv10 r1 none 0 0 r m I3 F3)∧∀(e:Bs) (c:OA) (a d:Nat) (f:Int) (m1:Nat) (I4:b8) (F4:bZ),b8.le I3 I4→Inv10 e c a d f m1 I4 F4→cJ P 86 (#[vp (some p),vs (⟨#[119,104,101,110]⟩:Bs)]) I4 ((ka b (⟨#[]⟩:Bs) none 0 0 0)::(ka g e c a d f)::·) F4 .bool fun r3 I5 F5=>(It (!r3) (Inv8 e c a d f I5 F5) (cJ P 92 (#[vp (some p),vi (a:Int),vi 12]) I5 ((ka b (⟨#[]⟩:Bs) none 0 0 0)::(ka g e c a d f)::·) F5 .bool fun r4 I6 F6=>(It (!r4) (Inv8 e c a d f I6 F6) (de P 124 (#[vp (some p)]) I6 ((ka b (⟨#[]⟩:Bs) none 0 0 0)::(ka g e c a d f)::·) F6 fun e6 I7 G6=>∃(w x y z aa:Int) (ab:Bs) (n:OA) (o q:Nat) (ac:Int) (s:OA) (t u:Nat) (ad:Int),e6=.returned (.agg #[vb w,vb x,vb y,vi z,vb aa,vs ab,vl n o q,vi ac,vl s t u,vi ad])∧G6 fun F7=>∀ah:Nat,∀(b1:Nat) (I8:b8),b8.le I7 I8→I8 b1=some (Obj.cells #[vb w,vb x,vb y,vi z,vb aa,vs ab,vl n o q,vi ac,vl s t u,vi ad] 84 (0,0))→cG P (Builtin.append_ #[63,63] 63 #[vl c a d,vl (some ⟨b1,0,none⟩) 1 1]) I8 ((ka b (⟨#[]⟩:Bs) none 0 0 0)::(ka g e c a d f)::(ah,Obj.cells #[vb w,vb x,vb y,vi z,vb aa,vs ab,vl n o q,vi ac,vl s t u,vi ad] 84 (0,0))::F7) fun v I9 G7=>∃(ae:OA) (af ag:Nat),v=vl ae af ag∧∃F8:bZ,List.Perm G7 ((ka b (⟨#[]⟩:Bs) none 0 0 0)::(ka g e c a d f)::(ah,Obj.cells #[vb w,vb x,vb y,vi z,vb aa,vs ab,vl n o q,vi ac,vl s t u,vi ad] 84 (0,0))::F8)∧(∃m2:Nat,m2<m1∧Inv10 e ae af ag f m2 I9 F8))))))∧∀(k:Bs) (h:OA) (i j:Nat) (l:Int) (I10:b8) (F9:bZ),b8.le I3 I10→Inv8 k h i j l I10 F9→cJ P 89 (#[vp (some p),vs (⟨#[125]⟩:Bs)]) I10 ((ka b (⟨#[]⟩:Bs) none 0 0 0)::(ka g k h i j l)::·) F9 vi fun r5 I11 F10=>Q (.returned (.agg #[vs k,vl h i j,vi l])) I11 (F10)
theorem eu.vc{p:Addr}{I:b8}{F:bZ}{Q:cc}(Inv8:Bs→OA→Nat→Nat→Int→b8→bZ→Prop)(Inv10:Bs→OA→Nat→Nat→Int→Nat→b8→bZ→Prop)(h:eu.V (fun W a b c d e=>(W,Obj.cells #[.string a,.slice b c d,.int .i64 e] 65 (0,0))) (.int .u8) (.int .i64) .string .slice .pointer p I F Q Inv8 Inv10):cd P 95 #[.pointer (some p)] I F Q :=
 tw (A:=(cO [5001,7001] [] [86,89,91,92,124] kL [(8,⟨[],[(1,[.str,.slc,(.int .i64)])],fun _ _ _ vs m I F=>match vs with | [.string y0,.slice y1 y2 y3,.int _ y4]=>Inv8 y0 y1 y2 y3 y4 I F | _=>False,[],[]⟩),(10,⟨[],[(1,[.str,.slc,(.int .i64)])],fun _ _ _ vs m I F=>match vs with | [.string y0,.slice y1 y2 y3,.int _ y4]=>Inv10 y0 y1 y2 y3 y4 m I F | _=>False,[],[]⟩)] [9003] [] [] [] [] [])) [86,89,91,92,124] func95 h
def ew.V(ka:Nat→Bs→Int→Nat×Obj)(vi:Int→Value)(vs:Bs→Value)(vl:OA→Nat→Nat→Value)(vp:OA→Value)(p:Addr)(I:b8)(F:bZ)(Q:cc)(Inv5:OA→Nat→Nat→OA→Nat→Nat→Nat→b8→bZ→Prop):Prop:=(∃m:Nat,Inv5 none 0 0 none 0 0 m I F)∧∀(f:OA) (g h:Nat) (d:OA) (c e m1:Nat) (I1:b8) (F1:bZ),b8.le I I1→Inv5 f g h d c e m1 I1 F1→cJ P 86 (#[vp (some p),vs (⟨#[115,108,111,116]⟩:Bs)]) I1 (·) F1 .bool fun r I2 F2=>(It (!r) (Q (.returned (vl d c e)) I2 F2) (cJ P 92 (#[vp (some p),vi (c:Int),vi 4]) I2 (·) F2 .bool fun r1 I3 F3=>(It (!r1) (Q (.returned (vl d c e)) I3 F3) (cJ P 89 (#[vp (some p),vs (⟨#[115,108,111,116]⟩:Bs)]) I3 (·) F3 vi fun r2 I4 F4=>∀a:Nat,cJ P 91 (#[vp (some p)]) I4 ((ka a (⟨#[]⟩:Bs) r2)::·) F4 vs fun r3 I5 F5=>cJ P 89 (#[vp (some p),vs (⟨#[59]⟩:Bs)]) I5 ((ka a r3 r2)::·) F5 vi fun r4 I6 F6=>∀(b:Nat) (I7:b8),b8.le I6 I7→I7 b=some (Obj.cells #[vs r3,vi r2] 79 (0,0))→cG P (Builtin.append_ #[36,36] 36 #[vl d c e,vl (some ⟨b,0,none⟩) 1 1]) I7 ((ka a r3 r2)::F6) fun v I8 G6=>∃(i:OA) (j k:Nat),v=vl i j k∧∃F7:bZ,List.Perm G6 ((ka a r3 r2)::F7)∧(∃m2:Nat,m2<m1∧Inv5 f g h i j k m2 I8 F7)))))
theorem ew.vc{p:Addr}{I:b8}{F:bZ}{Q:cc}(Inv5:OA→Nat→Nat→OA→Nat→Nat→Nat→b8→bZ→Prop)(h:ew.V (fun W a b=>(W,Obj.cells #[.string a,.int .i64 b] 79 (0,0))) (.int .i64) .string .slice .pointer p I F Q Inv5):cd P 94 #[.pointer (some p)] I F Q :=
 tw (A:=(cO [3001,6001] [] [86,89,91,92] kL [(5,⟨[(2,.slc),(3,.slc)],[],fun _ _ _ vs m I F=>match vs with | [.slice y0 y1 y2,.slice y3 y4 y5]=>Inv5 y0 y1 y2 y3 y4 y5 m I F | _=>False,[],[]⟩)] [11002] [] [] [] [] [])) [86,89,91,92] func94 h
def ez.V(ka:Nat→Bs→OA→Nat→Nat→OA→Nat→Nat→OA→Nat→Nat→Nat×Obj)(vb vi:Int→Value)(vs:Bs→Value)(vl:OA→Nat→Nat→Value)(vt:Bool→Value)(vp:OA→Value)(p:Addr)(I:b8)(F:bZ)(Q:cc)(Inv10:Bs→OA→Nat→Nat→OA→Nat→Nat→OA→Nat→Nat→b8→bZ→Prop)(Inv12:Bs→OA→Nat→Nat→OA→Nat→Nat→OA→Nat→Nat→Nat→b8→bZ→Prop)(Inv35:Bs→OA→Nat→Nat→OA→Nat→Nat→OA→Nat→Nat→b8→bZ→Prop)(Inv37:Bs→OA→Nat→Nat→OA→Nat→Nat→OA→Nat→Nat→Nat→b8→bZ→Prop):Prop:=∀b:Nat,∀l:Nat,cJ P 89 (#[vp (some p),vs (⟨#[115,116,114,97,116,101,103,121]⟩:Bs)]) I ((ka b (⟨#[]⟩:Bs) none 0 0 none 0 0 none 0 0)::(ka l (⟨#[]⟩:Bs) none 0 0 none 0 0 none 0 0)::·) F vi fun r I1 F1=>cJ P 91 (#[vp (some p)]) I1 ((ka b (⟨#[]⟩:Bs) none 0 0 none 0 0 none 0 0)::(ka l (⟨#[]⟩:Bs) none 0 0 none 0 0 none 0 0)::·) F1 vs fun r1 I2 F2=>cJ P 89 (#[vp (some p),vs (⟨#[123]⟩:Bs)]) I2 ((ka b (⟨#[]⟩:Bs) none 0 0 none 0 0 none 0 0)::(ka l r1 none 0 0 none 0 0 none 0 0)::·) F2 vi fun r2 I3 F3=>((∃m:Nat,Inv12 r1 none 0 0 none 0 0 none 0 0 m I3 F3)∧∀(aj:Bs) (z:OA) (y aa:Nat) (ab:OA) (ac ad:Nat) (ae:OA) (af ag m1:Nat) (I4:b8) (F4:bZ),b8.le I3 I4→Inv12 aj z y aa ab ac ad ae af ag m1 I4 F4→cJ P 86 (#[vp (some p),vs (⟨#[114,101,103]⟩:Bs)]) I4 ((ka b (⟨#[]⟩:Bs) none 0 0 none 0 0 none 0 0)::(ka l aj z y aa ab ac ad ae af ag)::·) F4 vt fun r3 I5 F5=>(It (!r3) (Inv10 aj z y aa ab ac ad ae af ag I5 F5) (cJ P 92 (#[vp (some p),vi (y:Int),vi 12]) I5 ((ka b (⟨#[]⟩:Bs) none 0 0 none 0 0 none 0 0)::(ka l aj z y aa ab ac ad ae af ag)::·) F5 vt fun r4 I6 F6=>(It (!r4) (Inv10 aj z y aa ab ac ad ae af ag I6 F6) (de P 93 (#[vp (some p)]) I6 ((ka b (⟨#[]⟩:Bs) none 0 0 none 0 0 none 0 0)::(ka l aj z y aa ab ac ad ae af ag)::·) F6 fun e6 I7 G6=>∃(aF:Bs) (aG aH aI aJ aK aL:Int) (aM:Bs) (aw:OA) (ax ay:Nat) (aN aC:Int),e6=.returned (.agg #[vs aF,vb aG,vb aH,vb aI,vb aJ,vi aK,vb aL,vs aM,vl aw ax ay,vi aN,vi aC])∧G6 fun F7=>∀aX:Nat,∀(b1:Nat) (I8:b8),b8.le I7 I8→I8 b1=some (Obj.cells #[vs aF,vb aG,vb aH,vb aI,vb aJ,vi aK,vb aL,vs aM,vl aw ax ay,vi aN,vi aC] 77 (0,0))→cG P (Builtin.append_ #[35,35] 35 #[vl z y aa,vl (some ⟨b1,0,none⟩) 1 1]) I8 ((ka b (⟨#[]⟩:Bs) none 0 0 none 0 0 none 0 0)::(ka l aj z y aa ab ac ad ae af ag)::(aX,Obj.cells #[vs aF,vb aG,vb aH,vb aI,vb aJ,vi aK,vb aL,vs aM,vl aw ax ay,vi aN,vi aC] 77 (0,0))::F7) fun v I9 G7=>∃(aU:OA) (aV aW:Nat),v=vl aU aV aW∧∃F8:bZ,List.Perm G7 ((ka b (⟨#[]⟩:Bs) none 0 0 none 0 0 none 0 0)::(ka l aj z y aa ab ac ad ae af ag)::(aX,Obj.cells #[vs aF,vb aG,vb aH,vb aI,vb aJ,vi aK,vb aL,vs aM,vl aw ax ay,vi aN,vi aC] 77 (0,0))::F8)∧(∃m2:Nat,m2<m1∧Inv12 aj aU aV aW ab ac ad ae af ag m2 I9 F8))))))∧∀(av:Bs) (ak:OA) (al am:Nat) (aq:OA) (ar au:Nat) (an:OA) (ao ap:Nat) (I10:b8) (F9:bZ),b8.le I3 I10→Inv10 av ak al am aq ar au an ao ap I10 F9→de P 94 (#[vp (some p)]) I10 ((ka b (⟨#[]⟩:Bs) none 0 0 none 0 0 none 0 0)::(ka l av ak al am aq ar au an ao ap)::·) F9 fun e7 I11 G8=>∃(aO:OA) (aP aQ:Nat),e7=.returned (vl aO aP aQ)∧G8 fun F10=>((∃m3:Nat,Inv37 av ak al am aO aP aQ an ao ap m3 I11 F10)∧∀(ai:Bs) (n:OA) (o q:Nat) (s:OA) (t u:Nat) (w:OA) (c x m4:Nat) (I12:b8) (F11:bZ),b8.le I11 I12→Inv37 ai n o q s t u w c x m4 I12 F11→cJ P 86 (#[vp (some p),vs (⟨#[115,116,97,116,101]⟩:Bs)]) I12 ((ka b (⟨#[]⟩:Bs) none 0 0 none 0 0 none 0 0)::(ka l ai n o q s t u w c x)::·) F11 vt fun r5 I13 F12=>(It (!r5) (Inv35 ai n o q s t u w c x I13 F12) (cJ P 92 (#[vp (some p),vi (c:Int),vi 12]) I13 ((ka b (⟨#[]⟩:Bs) none 0 0 none 0 0 none 0 0)::(ka l ai n o q s t u w c x)::·) F12 vt fun r6 I14 F13=>(It (!r6) (Inv35 ai n o q s t u w c x I14 F13) (de P 95 (#[vp (some p)]) I14 ((ka b (⟨#[]⟩:Bs) none 0 0 none 0 0 none 0 0)::(ka l ai n o q s t u w c x)::·) F13 fun aZ I15 G11=>∃(aD:Bs) (az:OA) (aA aB:Nat) (aE:Int),aZ=.returned (.agg #[vs aD,vl az aA aB,vi aE])∧G11 fun F14=>∀aY:Nat,∀(b2:Nat) (I16:b8),b8.le I15 I16→I16 b2=some (Obj.cells #[vs aD,vl az aA aB,vi aE] 65 (0,0))→cG P (Builtin.append_ #[37,37] 37 #[vl w c x,vl (some ⟨b2,0,none⟩) 1 1]) I16 ((ka b (⟨#[]⟩:Bs) none 0 0 none 0 0 none 0 0)::(ka l ai n o q s t u w c x)::(aY,Obj.cells #[vs aD,vl az aA aB,vi aE] 65 (0,0))::F14) fun v1 I17 G12=>∃(aR:OA) (aS aT:Nat),v1=vl aR aS aT∧∃F15:bZ,List.Perm G12 ((ka b (⟨#[]⟩:Bs) none 0 0 none 0 0 none 0 0)::(ka l ai n o q s t u w c x)::(aY,Obj.cells #[vs aD,vl az aA aB,vi aE] 65 (0,0))::F15)∧(∃m5:Nat,m5<m4∧Inv37 ai n o q s t u aR aS aT m5 I17 F15))))))∧∀(ah:Bs) (d:OA) (e f:Nat) (g:OA) (h i:Nat) (j:OA) (a k:Nat) (I18:b8) (F16:bZ),b8.le I11 I18→Inv35 ah d e f g h i j a k I18 F16→(It ((a:Int)==0) (de P 90 (#[vp (some p),vi 130]) I18 ((ka b (⟨#[]⟩:Bs) none 0 0 none 0 0 none 0 0)::(ka l ah d e f g h i j a k)::·) F16 fun a0 I19 G13=>a0=.returned (.tuple #[])∧G13 fun F17=>cJ P 89 (#[vp (some p),vs (⟨#[125]⟩:Bs)]) I19 ((ka b (⟨#[]⟩:Bs) none 0 0 none 0 0 none 0 0)::(ka l ah d e f g h i j a k)::·) F17 vi fun r7 I20 F18=>de P 54 (#[vp (some p)]) I20 ((ka b (⟨#[]⟩:Bs) none 0 0 none 0 0 none 0 0)::(ka l ah d e f g h i j a k)::·) F18 fun a2 I21 G15=>a2=.returned (.tuple #[])∧G15 fun F19=>Q (.returned (.agg #[vs ah,vl d e f,vl g h i,vl j a k])) I21 F19) (cJ P 89 (#[vp (some p),vs (⟨#[125]⟩:Bs)]) I18 ((ka b (⟨#[]⟩:Bs) none 0 0 none 0 0 none 0 0)::(ka l ah d e f g h i j a k)::·) F16 vi fun r8 I22 F20=>de P 54 (#[vp (some p)]) I22 ((ka b (⟨#[]⟩:Bs) none 0 0 none 0 0 none 0 0)::(ka l ah d e f g h i j a k)::·) F20 fun a4 I23 G17=>a4=.returned (.tuple #[])∧G17 fun F21=>Q (.returned (.agg #[vs ah,vl d e f,vl g h i,vl j a k])) I23 F21))
theorem ez.vc{p:Addr}{I:b8}{F:bZ}{Q:cc}(Inv10:Bs→OA→Nat→Nat→OA→Nat→Nat→OA→Nat→Nat→b8→bZ→Prop)(Inv12:Bs→OA→Nat→Nat→OA→Nat→Nat→OA→Nat→Nat→Nat→b8→bZ→Prop)(Inv35:Bs→OA→Nat→Nat→OA→Nat→Nat→OA→Nat→Nat→b8→bZ→Prop)(Inv37:Bs→OA→Nat→Nat→OA→Nat→Nat→OA→Nat→Nat→Nat→b8→bZ→Prop)(h:ez.V (fun W a b c d e f g h i j=>(W,Obj.cells #[.string a,.slice b c d,.slice e f g,.slice h i j] 39 (0,0))) (.int .u8) (.int .i64) .string .slice .bool .pointer p I F Q Inv10 Inv12 Inv35 Inv37):cd P 56 #[.pointer (some p)] I F Q :=
 tw (A:=(cO [6001,8001,13001,15001,18003] [] [54,86,89,90,91,92,93,94,95] kL [(10,⟨[],[(1,[.str,.slc,.slc,.slc])],fun _ _ _ vs m I F=>match vs with | [.string y0,.slice y1 y2 y3,.slice y4 y5 y6,.slice y7 y8 y9]=>Inv10 y0 y1 y2 y3 y4 y5 y6 y7 y8 y9 I F | _=>False,[],[]⟩),(12,⟨[],[(1,[.str,.slc,.slc,.slc])],fun _ _ _ vs m I F=>match vs with | [.string y0,.slice y1 y2 y3,.slice y4 y5 y6,.slice y7 y8 y9]=>Inv12 y0 y1 y2 y3 y4 y5 y6 y7 y8 y9 m I F | _=>False,[],[]⟩),(35,⟨[],[(1,[.str,.slc,.slc,.slc])],fun _ _ _ vs m I F=>match vs with | [.string y0,.slice y1 y2 y3,.slice y4 y5 y6,.slice y7 y8 y9]=>Inv35 y0 y1 y2 y3 y4 y5 y6 y7 y8 y9 I F | _=>False,[],[]⟩),(37,⟨[],[(1,[.str,.slc,.slc,.slc])],fun _ _ _ vs m I F=>match vs with | [.string y0,.slice y1 y2 y3,.slice y4 y5 y6,.slice y7 y8 y9]=>Inv37 y0 y1 y2 y3 y4 y5 y6 y7 y8 y9 m I F | _=>False,[],[]⟩)] [10003,17003] [] [] [] [] [])) [54,86,89,90,91,92,93,94,95] func56 h
def gg.V(ka:Nat→Bs→OA→Nat→Nat→OA→Nat→Nat→OA→Nat→Nat→Nat×Obj)(kb:Nat→Int→Int→Bool→Nat×Obj)(vi:Int→Value)(vs:Bs→Value)(vl:OA→Nat→Nat→Value)(vt:Bool→Value)(s:Bs)(I:b8)(F:bZ)(Q:cc)  : Prop:=∀b:Nat,∀b1:Nat,cJ P 52 #[vs s] I ((ka b (⟨#[]⟩:Bs) none 0 0 none 0 0 none 0 0)::(kb b1 0 0 false)::·) F .pointer fun r I1 F1=>de P 56 #[.pointer r] I1 ((ka b (⟨#[]⟩:Bs) none 0 0 none 0 0 none 0 0)::(kb b1 0 0 false)::·) F1 fun e2 I2 G2=>∃(k:Bs) (a:OA) (c d:Nat) (e:OA) (f g:Nat) (h:OA) (i j:Nat),e2=.returned (.agg #[vs k,vl a c d,vl e f g,vl h i j])∧G2 fun F2=>∀o:Nat,cJ P 55 #[.pointer r] I2 ((ka b (⟨#[]⟩:Bs) none 0 0 none 0 0 none 0 0)::(kb b1 0 0 false)::(ka o k a c d e f g h i j)::·) F2 vt fun r1 I3 F3=>(It r1 (∃ad:Addr,r=some ad∧∃(l m:Int) (n:Bool),Rd I3 F3 (ad.add 4) [vi l,vi m,vt n]∧Q (.returned (.tuple #[.agg #[vs (⟨#[]⟩:Bs),vl none 0 0,vl none 0 0,vl none 0 0],.agg #[vi l,vi m,vt n]])) I3 F3) (Q (.returned (.tuple #[.agg #[vs k,vl a c d,vl e f g,vl h i j],.agg #[vi 0,vi 0,vt false]])) I3 F3))
theorem gg.vc{s:Bs}{I:b8}{F:bZ}{Q:cc}  (h:gg.V (fun W a b c d e f g h i j=>(W,Obj.cells #[.string a,.slice b c d,.slice e f g,.slice h i j] 39 (0,0))) (fun W a b c=>(W,Obj.cells #[.int .i64 a,.int .i64 b,.bool c] 68 (0,0))) (.int .i64) .string .slice .bool s I F Q):cd P 29 #[.string s] I F Q :=
 tw (A:=(cO [3001] [] [52,55,56] kL [] [] [] [(4,5,[0])] [] [] [(4,6)])) [52,55,56] func29 h
def kM.V(ka:Nat→Int→Int→Bool→Nat×Obj)(nV:Int→Int→Int→Int→Int→Bs→OA→Nat→Nat→Int→Value)(nO:Int→Int→Int→Int→Int→Bs→OA→Nat→Nat→Int→Obj)(vi:Int→Value)(vt:Bool→Value)(vp:OA→Value)(s:Bs)(I:b8)(F:bZ)(Q:cc)  : Prop:=∀b:Nat,∀b1:Nat,cJ P 52 #[.string s] I ((b,nO 0 0 0 0 0 (⟨#[]⟩:Bs) none 0 0 0)::(ka b1 0 0 false)::·) F vp fun r I1 F1=>de P 53 #[vp r,vi 0] I1 ((b,nO 0 0 0 0 0 (⟨#[]⟩:Bs) none 0 0 0)::(ka b1 0 0 false)::·) F1 fun e2 I2 G2=>∃(e f g h i:Int) (j:Bs) (a:OA) (c d:Nat) (k:Int),e2=.returned (nV e f g h i j a c d k)∧G2 fun F2=>∀l:Nat,de P 54 #[vp r] I2 ((b,nO 0 0 0 0 0 (⟨#[]⟩:Bs) none 0 0 0)::(ka b1 0 0 false)::(l,nO e f g h i j a c d k)::·) F2 fun e3 I3 G3=>e3=.returned (.tuple #[])∧G3 fun F3=>cJ P 55 #[vp r] I3 ((b,nO 0 0 0 0 0 (⟨#[]⟩:Bs) none 0 0 0)::(ka b1 0 0 false)::(l,nO e f g h i j a c d k)::·) F3 vt fun r1 I4 F4=>(It r1 (∃ad:Addr,r=some ad∧∃(m n:Int) (o:Bool),Rd I4 F4 (ad.add 4) [vi m,vi n,vt o]∧Q (.returned (.tuple #[nV 0 0 0 0 0 (⟨#[]⟩:Bs) none 0 0 0,.agg #[vi m,vi n,vt o]])) I4 F4) (Q (.returned (.tuple #[nV e f g h i j a c d k,.agg #[vi 0,vi 0,vt false]])) I4 F4))
theorem kM.vc{s:Bs}{I:b8}{F:bZ}{Q:cc}  (h:kM.V (fun W a b c=>(W,Obj.cells #[.int .i64 a,.int .i64 b,.bool c] 68 (0,0))) (fun k o t n f s a l c q=>.agg #[.int .u8 k,.int .u8 o,.int .u8 t,.int .i64 n,.int .u8 f,.string s,.slice a l c,.int .i64 q]) (fun k o t n f s a l c q=>.cells #[.int .u8 k,.int .u8 o,.int .u8 t,.int .i64 n,.int .u8 f,.string s,.slice a l c,.int .i64 q] 28 (0,0)) (.int .i64) .bool .pointer s I F Q):cd P 28 #[.string s] I F Q :=
 tw (A:=(cO [4001] [] [52,53,54,55] kL [] [] [] [(5,5,[0])] [] [] [(5,6)])) [52,53,54,55] func28 h
end Go.Lx
namespace Go.Lx
open Go.Vc
def Ek{N Pl:Type}(v:N→Value)(p:N→Pl)(ok:b8→N→Prop)(q:PQ)(b:Nat)(F0:bZ)(r:Pl×PS)(e:Ending)(I:b8)(G:bZ):Prop:=∃x:N,e=.returned (v x)∧p x=r.1∧ok I x∧G.Perm (q.cg b r.2::F0)
def s9{N Pl:Type}(f:Nat)(v:N→Value)(p:N→Pl)(ok:b8→N→Prop)(q:PQ)(g:PS→Pl×PS):Prop:=∀(b:Nat) (s:PS) (I:b8) (F F0:bZ),q.ok I→s.next≤q.c.l.length→F.Perm (q.cg b s::F0)→cd P f #[.pointer (some ⟨b,0,none⟩)] I F (Ek v p ok q b F0 (g s))
def ou(I:b8)(r:dw):Prop:=r.Ok I []
def vN(I:b8)(r:eE):Prop:=r.Ok I []
def oV(I:b8)(r:cx):Prop:=r.Ok I []
def kN(I:b8)(r:cm):Prop:=r.Ok I []
def DQ(I:b8)(r:cF):Prop:=r.Ok I []
section
variable {c:PC}
theorem Up.AR{nm:ByteArray}{t pos pos2:Int}{minus:Bool}{n:Px}:dr c (c.AR nm t pos pos2 minus n):=fun s=>Up.take _
theorem Up.om{nm:ByteArray}{t pos pos2:Int}{minus:Bool}:dr c (c.om nm t pos pos2 minus):=fun s=>by
 unfold PC.om
 split
 ·exact .cI _
 ·refine Up.trans ?_ (Up.AR _)
  split
  ·exact .literal
  ·exact Up.literal.trans (.cI _)
theorem Up.kG{nm:ByteArray}{t pos:Int}:dr c (c.kG nm t pos):=fun s=>by
 unfold PC.kG
 refine Up.trans ?_ (Up.om _)
 split
 ·rename_i h;exact .inc (dx h)
 ·exact .refl
theorem Up.xB{nm:ByteArray}{pos:Int}:dr c (c.xB nm pos):=fun s=>by
 unfold PC.xB
 split
 ·exact .cI _
 ·rename_i ha
  exact (Up.inc (dy (Int.not_lt.1 ha)).1).trans ((Up.take _).trans (Up.kG _))
theorem Up.iZ:dr c c.iZ:=fun s=>(Up.take _).trans (Up.name.trans (Up.xB _))
theorem Up.lF:dr c c.lF:=fun s=>by
 unfold PC.lF
 split
 ·rename_i h;exact (Up.inc (dx h)).trans .name
 ·exact .refl
theorem Up.vI{x y z:Px}{pos o:Int}:dr c (c.vI x y pos z o):=fun s=>Up.lF s
theorem Up.zG{x y z:Px}{pos:Int}:dr c (c.zG x y pos z):=fun s=>by
 unfold PC.zG
 split
 ·exact .cI _
 ·rename_i ha
  exact (Up.inc (dy (Int.not_lt.1 ha)).1).trans (Up.vI _)
theorem Up.zH{x y:Px}{pos:Int}:dr c (c.zH x y pos):=fun s=>by
 unfold PC.zH
 split
 ·exact .cI _
 ·rename_i ha
  have h1:=Up.inc (c:=c) (dy (Int.not_lt.1 ha)).1
  split
  ·exact h1.trans ((Up.fQ _).trans (Up.zG _))
  ·exact h1.trans (Up.vI _)
theorem Up.nq:dr c c.nq:=fun s=>(Up.take _).trans ((Up.fQ _).trans ((Up.take _).trans ((Up.fQ _).trans (Up.zH _))))
theorem Up.BV{k:Int}{nm:ByteArray}{pos:Int}:dr c (c.BV k nm pos):=fun s=>by
 unfold PC.BV
 split
 ·exact (Up.take _).trans ((Up.fQ _).trans ((Up.take _).trans (Up.fQ _)))
 ·split
  ·exact (Up.take _).trans (Up.fQ _)
  ·exact .refl
theorem Up.do:dr c c.do:=fun s=>by
 unfold PC.do
 split
 ·exact .cI _
 ·rename_i ha
  have h1:=Up.inc (c:=c) (dy (Int.not_lt.1 ha)).1
  split
  ·exact Up.nq s
  ·split
   ·exact h1.trans (Up.BV _)
   ·exact h1.trans (Up.name.trans (Up.BV _))
end
theorem DR{q:PQ}:s9 93 dw.v dw.p ou q q.c.iZ:=by
 intro b s I F F0 hq hsn hF
 have hl:=hq.len
 unfold PC.iZ
 have ht:=(Up.take (c:=q.c) (s:=s) (⟨#[114,101,103]⟩:ByteArray)).2 hsn
 generalize hta:q.c.take (⟨#[114,101,103]⟩:ByteArray) s=ta at ht ⊢
 have hn:=(Up.name (c:=q.c) (s:=ta.2)).2 ht
 generalize hbb:q.c.name ta.2=bb at hn ⊢
 obtain⟨s4,hs4e⟩:∃s4,s4=(if q.c.iY (⟨#[45]⟩:ByteArray) (q.c.take (⟨#[61]⟩:ByteArray) bb.2.inc).2 then (q.c.take (⟨#[61]⟩:ByteArray) bb.2.inc).2.inc else (q.c.take (⟨#[61]⟩:ByteArray) bb.2.inc).2):=⟨_,rfl⟩
 obtain⟨s5,hs5e⟩:∃s5,s5=(if (q.c.literal s4).1.2 then (q.c.literal s4).2 else q.c.cI 130 (q.c.literal s4).2):=⟨_,rfl⟩
 refine fc.vc (fun x0 x1 x2 x3 x4 x5 x6 x7 xa xn xc x9 x10 I' F'=>q.ok I'∧F'.Perm (q.cg b s4::F0)∧¬(q.c.iY (⟨#[45]⟩:ByteArray) (q.c.take (⟨#[61]⟩:ByteArray) bb.2.inc).2=true∧(q.c.now s4).kind≠3))
  (fun I' F'=>q.ok I'∧F'.Perm (q.cg b s5::F0)) ?_
 unfold fc.V
 intro b2
 refine (dq hq _ ((hF.cons _).trans jI)).mono fun e I1 G l1 ⟨he,hG⟩=>⟨_,he,q.cg b ta.2::F0,by rw[hta] at hG;exact hG.trans jI,fun b_r=>?_⟩
 rw[hta]
 have hq1:=hq.mono l1
 refine (ns hq1 (s:=ta.2) cR).mono fun e I2 G l2 ⟨he,hG⟩=>⟨_,he,q.cg b bb.2::F0,by rw[hbb] at hG;exact hG.trans cR.symm,fun b3 I3 l3 hb3=>?_⟩
 rw[hbb]
 have hq3:=(hq1.mono l2).mono l3
 refine cd.ret (kW hq3 (Sl.words (ws:=pF) hb3 rfl) (by decide) (s:=bb.2) (.tail _ (.tail _ (.head _)))) fun I4 l4=>⟨_,rfl,q.cg b bb.2::F0,.refl _,fun ha=>?_,fun ha=>?_⟩
 ·have ha:=of_decide_eq_true ha
  refine (ep (hq3.mono l4) 130 (s:=bb.2) cR).mono fun e I5 G l5 ⟨he,hG⟩=>⟨he,q.cg b (q.c.cI 130 bb.2)::F0,hG.trans cR.symm, ?_⟩
  unfold PC.xB
  rw[if_pos ha]
  exact⟨⟨bb.1,0,gZ,ta.1⟩,rfl,by simp only[dw.p,gZ,Nd.px,Nd.w9];rfl,cB.leaf,.refl _⟩
 have ha:=of_decide_eq_false ha
 have hab:=mP (Int.not_lt.1 ha) (by decide)
 have hlt:=(dy (Int.not_lt.1 ha)).1
 have hq4:=hq3.mono l4
 unfold PC.xB
 rw[if_neg ha]
 refine⟨_,rfl,_,PQ.rd (k:=3) (.tail _ (.tail _ (.head _))) rfl,_,rfl,q.cl bb.2,107,F0,.refl _,PQ.spot _ _,by rw[PQ.off];exact (by decide:3+1≤7), ?_⟩
 rw[PQ.dC (by omega),w8 (n:=q.c.any pF bb.2) (by omega),w8 (n:=1+q.c.any pF bb.2) (by omega)]
 have h5:=(Up.take (c:=q.c) (s:=bb.2.inc) (⟨#[61]⟩:ByteArray)).2 hlt
 refine (dq hq4 _ (s:=bb.2.inc) cR).mono fun e I5 G l5 ⟨he,hG⟩=>⟨_,he,q.cg b (q.c.take (⟨#[61]⟩:ByteArray) bb.2.inc).2::F0,hG.trans cR.symm, ?_⟩
 generalize hs3:(q.c.take (⟨#[61]⟩:ByteArray) bb.2.inc).2=s3 at h5 hs4e ⊢
 unfold PC.kG
 rw[←hs4e]
 have hq5:=hq4.mono l5
 refine cd.ret (hY hq5 (s:=s3) (.tail _ (.tail _ (.head _)))) fun I6 l6=>⟨_,_,_,_,_,rfl,q.cg b s3::F0,.refl _, ?_⟩
 have hq6:=hq5.mono l6
 refine cd.ret (nr hq6 _ (s:=s3) (.tail _ (.tail _ (.head _)))) fun I7 l7=>⟨_,rfl,q.cg b s3::F0,.refl _,⟨fun hm=>?_,fun hm=>?_⟩, ?_⟩
 ·have hlt3:=dx hm
  rw[if_pos hm] at hs4e
  refine⟨_,rfl,_,PQ.rd (k:=3) (.tail _ (.tail _ (.head _))) rfl,_,rfl,q.cl s3,107,F0,.refl _,PQ.spot _ _,by rw[PQ.off];exact (by decide:3+1≤7), ?_⟩
  rw[PQ.dC (by omega),←hs4e]
  have hq7:=hq6.mono l7
  refine cd.ret (hY hq7 (s:=s4) (.tail _ (.tail _ (.head _)))) fun I8 l8=>⟨_,_,_,_,_,rfl,q.cg b s4::F0,.refl _,fun h3=>?_,fun h3=>?_⟩
  ·have h3:(q.c.now s4).kind≠3:=by simpa using h3
   refine (ep (hq7.mono l8) 130 (s:=s4) cR).mono fun e I9 G l9 ⟨he,hG⟩=>⟨he,q.cg b (q.c.cI 130 s4)::F0,hG.trans cR.symm, ?_⟩
   unfold PC.om
   rw[if_pos ⟨hm,h3⟩]
   exact⟨⟨bb.1,1+q.c.any pF bb.2,gZ,ta.1⟩,rfl,by simp only[dw.p,gZ,Nd.px,Nd.w9];rfl,cB.leaf,.refl _⟩
  ·have h3:(q.c.now s4).kind=3:=by simpa using h3
   exact⟨hq7.mono l8,.refl _,fun h=>h.2 h3⟩
 ·rw[if_neg (by simp[hm])] at hs4e
  rw[hs4e]
  exact⟨hq6.mono l7,.refl _,fun h=>by rw[hm] at h;cases h.1⟩
 have hs4:s4.next≤q.c.l.length:=by
  rw[hs4e]
  split
  ·rename_i h;exact dx h
  ·exact h5
 intro x0 x1 x2 x3 x4 x5 x6 x7 xa xn xc x9 x10 I8 F8 l8 ⟨hq8,hF8,hnm⟩
 unfold PC.om
 rw[if_neg hnm,←hs5e]
 refine (s8 hq8 ((((hF8.cons _).cons _)).trans cR)).mono fun e I9 G l9 ⟨t,he,px,hok,hG⟩=>?_
 refine⟨_,_,_,_,_,_,_,_,_,_,_,he,q.cg b (q.c.literal s4).2::F0,hG.trans cR.symm,fun b_n=>⟨⟨fun hw=>?_,fun hw=>?_⟩, ?_⟩⟩
 ·have hw:(q.c.literal s4).1.2=false:=by simpa using hw
  rw[if_neg (by simp[hw])] at hs5e
  refine (ep (hq8.mono l9) 130 (s:=(q.c.literal s4).2) pR).mono fun e I10 G l10 ⟨he,hG⟩=>⟨he,q.cg b (q.c.cI 130 (q.c.literal s4).2)::F0,hG.trans pR.symm,(hq8.mono l9).mono l10, ?_⟩
  rw[hs5e]
 ·have hw:(q.c.literal s4).1.2=true:=by simpa using hw
  rw[if_pos hw] at hs5e
  refine⟨hq8.mono l9, ?_⟩
  rw[hs5e]
 intro I10 F10 l10 ⟨hq10,hF10⟩
 unfold PC.AR
 refine⟨fun hm=>?_,fun hm=>?_⟩
 ·intro b5 I11 l11 hb5
  refine (dq (hq10.mono l11) _ ((((hF10.cons _).cons _).cons _).trans pR)).mono fun e I12 G l12 ⟨he,hG⟩=>⟨_,he,q.cg b (q.c.take (⟨#[59]⟩:ByteArray) s5).2::F0,hG.trans pR.symm, ?_⟩
  rw[if_pos hm]
  refine⟨⟨bb.1,1+q.c.any pF bb.2,.mk 5 1 0 0 0 ⟨#[]⟩ (some ⟨b5,0,none⟩) 1 [t] (q.c.now s3).pos,ta.1⟩,rfl, ?_,cB.mono (cB.A4 (l:=[t]) hb5 (fun k hk=>?_) ..) l12 fun _ h=>h,.refl _⟩
  ·simp only[dw.p,Nd.px,Nd.w9,px]
  ·rw[List.mem_singleton] at hk;subst hk
   exact hok.mono (b8.le_trans l10 l11) fun _ h=>h
 ·refine (dq hq10 _ ((((hF10.cons _).cons _).cons _).trans pR)).mono fun e I12 G l12 ⟨he,hG⟩=>⟨_,he,q.cg b (q.c.take (⟨#[59]⟩:ByteArray) s5).2::F0,hG.trans pR.symm, ?_⟩
  rw[if_neg (by simp[hm])]
  exact⟨⟨bb.1,1+q.c.any pF bb.2,t,ta.1⟩,rfl,by simp only[dw.p,px],hok.mono (b8.le_trans l10 l12) fun _ h=>h,.refl _⟩
end Go.Lx
namespace Go.Lx
open Go.Vc
theorem hM:gZ.px=lC:=by simp only[gZ,Nd.px,Nd.w9];rfl
theorem dc{I:b8}{G:bZ}:cB I G gZ:=.leaf
theorem cB.up{I J:b8}{G:bZ}{t:Nd}(h:cB I G t)(hl:b8.le I J):cB J G t:=h.mono hl fun _ h=>h
def xF:List Int:=[1,3,4,5]
theorem A6{q:PQ}:s9 158 eE.v eE.p vN q q.c.nq:=by
 intro b s I F F0 hq hsn hF
 have hl:=hq.len
 unfold PC.nq
 have ht:=(Up.take (c:=q.c) (s:=s) (⟨#[115,117,98,109,105,116]⟩:ByteArray)).2 hsn
 generalize hta:q.c.take (⟨#[115,117,98,109,105,116]⟩:ByteArray) s=ta at ht ⊢
 refine dV.vc ?_
 unfold dV.V
 intro b2
 refine (dq hq _ ((hF.cons _).trans jI)).mono fun e I1 G l1 ⟨he,hG⟩=>⟨_,he,q.cg b ta.2::F0,by rw[hta] at hG;exact hG.trans jI,fun b_d=>?_⟩
 rw[hta]
 have hq1:=hq.mono l1
 have hx2:=(Up.fQ (c:=q.c) ta.2).2 ht
 refine (pG b ta.2 I1 _ _ hq1 ht cR).mono fun e I2 G l2 ⟨x,he,px,okx,hG⟩=>?_
 refine⟨_,_,_,_,_,_,_,_,_,_,he,q.cg b (q.c.fQ ta.2).2::F0,hG.trans cR.symm, ?_⟩
 rw[←px]
 generalize (q.c.fQ ta.2).2=s2 at hx2 ⊢
 unfold PC.DL
 have hq2:=hq1.mono l2
 have hx3:=(Up.take (c:=q.c) (s:=s2) (⟨#[111,102]⟩:ByteArray)).2 hx2
 refine (dq hq2 _ (s:=s2) cR).mono fun e I3 G l3 ⟨he,hG⟩=>⟨_,he,q.cg b (q.c.take (⟨#[111,102]⟩:ByteArray) s2).2::F0,hG.trans cR.symm, ?_⟩
 generalize (q.c.take (⟨#[111,102]⟩:ByteArray) s2).2=s3 at hx3 ⊢
 have hq3:=hq2.mono l3
 have hx4:=(Up.fQ (c:=q.c) s3).2 hx3
 refine (pG b s3 I3 _ _ hq3 hx3 cR).mono fun e I4 G l4 ⟨y,he,py,oky,hG⟩=>?_
 refine⟨_,_,_,_,_,_,_,_,_,_,he,q.cg b (q.c.fQ s3).2::F0,hG.trans cR.symm, ?_⟩
 rw[←py]
 generalize (q.c.fQ s3).2=s4 at hx4 ⊢
 have hq4:=hq3.mono l4
 intro b3 I5 l5 hb3
 have hq5:=hq4.mono l5
 unfold PC.zH
 refine cd.ret (kW hq5 (Sl.words (ws:=DK) hb3 rfl) (by decide) (s:=s4) (.tail _ (.tail _ (.head _)))) fun I6 l6=>⟨_,rfl,q.cg b s4::F0,.refl _,fun ha=>?_,fun ha=>?_⟩
 ·have ha:=of_decide_eq_true ha
  refine (ep (hq5.mono l6) 130 (s:=s4) cR).mono fun e I7 G l7 ⟨he,hG⟩=>⟨he,q.cg b (q.c.cI 130 s4)::F0,hG.trans cR.symm, ?_⟩
  rw[if_pos ha]
  refine⟨⟨1,0,⟨#[]⟩,x,y,gZ,gZ,ta.1⟩,rfl,by simp only[eE.p,hM],⟨okx.up ?_,oky.up ?_,dc,dc⟩,.refl _⟩
  ·exact b8.le_trans l3 (b8.le_trans l4 (b8.le_trans l5 (b8.le_trans l6 l7)))
  ·exact b8.le_trans l5 (b8.le_trans l6 l7)
 have ha:=of_decide_eq_false ha
 rw[if_neg ha]
 have hlt:=(dy (Int.not_lt.1 ha)).1
 have hq6:=hq5.mono l6
 have okx6:=okx.up (b8.le_trans l3 (b8.le_trans l4 (b8.le_trans l5 l6)))
 have oky6:=oky.up (b8.le_trans l5 l6)
 refine⟨_,rfl,_,PQ.rd (k:=3) (.tail _ (.tail _ (.head _))) rfl,_,rfl,q.cl s4,107,F0,.refl _,PQ.spot _ _,by rw[PQ.off];exact (by decide:3+1≤7), ?_⟩
 rw[PQ.dC (by omega)]
 refine⟨fun h1=>?_,fun h1=>?_⟩
 ·have h1:q.c.any DK s4=1:=by simpa using h1
  rw[if_pos h1]
  have hx7:=(Up.fQ (c:=q.c) s4.inc).2 hlt
  refine (pG b s4.inc I6 _ _ hq6 hlt cR).mono fun e I7 G l7 ⟨z,he,pz,okz,hG⟩=>?_
  refine⟨_,_,_,_,_,_,_,_,_,_,he,q.cg b (q.c.fQ s4.inc).2::F0,hG.trans cR.symm, ?_⟩
  rw[←pz]
  generalize (q.c.fQ s4.inc).2=s7 at hx7 ⊢
  have hq7:=hq6.mono l7
  intro b4 I8 l8 hb4
  have hq8:=hq7.mono l8
  unfold PC.zG
  refine cd.ret (kW hq8 (Sl.words (ws:=lE) hb4 rfl) (by decide) (s:=s7) (.tail _ (.tail _ (.head _)))) fun I9 l9=>⟨_,rfl,q.cg b s7::F0,.refl _,fun hb=>?_,fun hb=>?_⟩
  ·have hb:=of_decide_eq_true hb
   refine (ep (hq8.mono l9) 130 (s:=s7) cR).mono fun e I10 G l10 ⟨he,hG⟩=>⟨he,q.cg b (q.c.cI 130 s7)::F0,hG.trans cR.symm, ?_⟩
   rw[if_pos hb]
   exact⟨⟨1,2,⟨#[]⟩,x,y,z,gZ,ta.1⟩,rfl,by simp only[eE.p,hM],⟨okx6.up (b8.le_trans l7 (b8.le_trans l8 (b8.le_trans l9 l10))),oky6.up (b8.le_trans l7 (b8.le_trans l8 (b8.le_trans l9 l10))),okz.up (b8.le_trans l8 (b8.le_trans l9 l10)),dc⟩,.refl _⟩
  have hb:=of_decide_eq_false hb
  rw[if_neg hb]
  have hlt7:=(dy (Int.not_lt.1 hb)).1
  have hb4':q.c.any lE s7<4:=(dy (Int.not_lt.1 hb)).2
  have hq9:=hq8.mono l9
  refine⟨_,rfl,_,PQ.rd (k:=3) (.tail _ (.tail _ (.head _))) rfl,_,rfl,q.cl s7,107,F0,.refl _,PQ.spot _ _,by rw[PQ.off];exact (by decide:3+1≤7), ?_⟩
  rw[PQ.dC (by omega)]
  intro b5 I10 l10 hb5
  have hq10:=hq9.mono l10
  have hS:Sl I10 1 DJ (some ⟨b5,0,none⟩) 4 xF:=Sl.jR (f:=DJ) (z:=1) (l:=xF) (fun _=>rfl) hb5 rfl
  obtain⟨ad,k,had,hk,hr⟩:=hS.at (Int.not_lt.1 hb) hb4'
  have hko:k=if q.c.any lE s7=0 then 1 else 2+q.c.any lE s7:=by
   have h0:=Int.not_lt.1 hb
   generalize q.c.any lE s7=r at h0 hb4' hk ⊢
   have:r=0∨r=1∨r=2∨r=3:=by omega
   rcases this with rfl | rfl | rfl | rfl<;>simp[xF] at hk<;>subst hk<;>rfl
  rw[←hko]
  refine⟨⟨Int.not_lt.1 hb,hb4'⟩,ad,had,k,hr _, ?_⟩
  unfold PC.vI PC.lF
  have okx10:=okx6.up (b8.le_trans l7 (b8.le_trans l8 (b8.le_trans l9 l10)))
  have oky10:=oky6.up (b8.le_trans l7 (b8.le_trans l8 (b8.le_trans l9 l10)))
  have okz10:=okz.up (b8.le_trans l8 (b8.le_trans l9 l10))
  refine cd.ret (nr hq10 _ (s:=s7.inc) (.tail _ (.tail _ (.head _)))) fun I11 l11=>⟨_,rfl,q.cg b s7.inc::F0,.refl _,fun hw=>?_,fun hw=>?_⟩
  ·have hltw:=dx hw
   rw[if_pos hw]
   refine⟨_,rfl,_,PQ.rd (k:=3) (.tail _ (.tail _ (.head _))) rfl,_,rfl,q.cl s7.inc,107,F0,.refl _,PQ.spot _ _,by rw[PQ.off];exact (by decide:3+1≤7), ?_⟩
   rw[PQ.dC (s:=s7.inc) (by omega)]
   refine (ns (hq10.mono l11) (s:=s7.inc.inc) cR).mono fun e I12 G l12 ⟨he,hG⟩=>⟨_,he,q.cg b (q.c.name s7.inc.inc).2::F0,hG.trans cR.symm, ?_⟩
   exact⟨⟨1,k,(q.c.name s7.inc.inc).1,x,y,z,gZ,ta.1⟩,rfl,by simp only[eE.p,hM],⟨okx10.up (b8.le_trans l11 l12),oky10.up (b8.le_trans l11 l12),okz10.up (b8.le_trans l11 l12),dc⟩,.refl _⟩
  ·rw[if_neg (by simp[hw])]
   exact⟨⟨1,k,⟨#[]⟩,x,y,z,gZ,ta.1⟩,rfl,by simp only[eE.p,hM],⟨okx10.up l11,oky10.up l11,okz10.up l11,dc⟩,.refl _⟩
 ·have h1:q.c.any DK s4≠1:=by simpa using h1
  rw[if_neg h1]
  unfold PC.vI PC.lF
  refine cd.ret (nr hq6 _ (s:=s4.inc) (.tail _ (.tail _ (.head _)))) fun I11 l11=>⟨_,rfl,q.cg b s4.inc::F0,.refl _,fun hw=>?_,fun hw=>?_⟩
  ·have hltw:=dx hw
   rw[if_pos hw]
   refine⟨_,rfl,_,PQ.rd (k:=3) (.tail _ (.tail _ (.head _))) rfl,_,rfl,q.cl s4.inc,107,F0,.refl _,PQ.spot _ _,by rw[PQ.off];exact (by decide:3+1≤7), ?_⟩
   rw[PQ.dC (s:=s4.inc) (by omega)]
   refine (ns (hq6.mono l11) (s:=s4.inc.inc) cR).mono fun e I12 G l12 ⟨he,hG⟩=>⟨_,he,q.cg b (q.c.name s4.inc.inc).2::F0,hG.trans cR.symm, ?_⟩
   exact⟨⟨1,2,(q.c.name s4.inc.inc).1,x,y,gZ,gZ,ta.1⟩,rfl,by simp only[eE.p,hM],⟨okx6.up (b8.le_trans l11 l12),oky6.up (b8.le_trans l11 l12),dc,dc⟩,.refl _⟩
  ·rw[if_neg (by simp[hw])]
   exact⟨⟨1,2,⟨#[]⟩,x,y,gZ,gZ,ta.1⟩,rfl,by simp only[eE.p,hM],⟨okx6.up l11,oky6.up l11,dc,dc⟩,.refl _⟩
theorem El{q:PQ}:s9 146 eE.v eE.p vN q q.c.do:=by
 intro b s I F F0 hq hsn hF
 have hl:=hq.len
 have hm:q.cg b s∈F:=hF.mem_iff.2 (.head _)
 refine fy.vc ?_
 unfold fy.V
 intro b2
 unfold PC.do
 refine cd.ret (hY hq (.tail _ hm)) fun I1 l1=>⟨_,_,_,_,_,rfl,F,.refl _,fun b3 I2 l2 hb3=>?_⟩
 have hq2:=(hq.mono l1).mono l2
 refine cd.ret (kW hq2 (Sl.words (ws:=BF) hb3 rfl) (by decide) (s:=s) (.tail _ hm)) fun I3 l3=>⟨_,rfl,F,.refl _,fun ha=>?_,fun ha=>?_⟩
 ·have ha:=of_decide_eq_true ha
  refine (ep (hq2.mono l3) 130 ((hF.cons _).trans jI)).mono fun e I7 G l7 ⟨he,hG⟩=>⟨he,q.cg b (q.c.cI 130 s)::F0,hG.trans jI, ?_⟩
  rw[if_pos ha]
  exact⟨⟨0,0,⟨#[]⟩,gZ,gZ,gZ,gZ,0⟩,rfl,by simp only[eE.p,hM];rfl,⟨dc,dc,dc,dc⟩,.refl _⟩
 have ha:=of_decide_eq_false ha
 rw[if_neg ha]
 have hab:=mP (Int.not_lt.1 ha) (by decide)
 have hlt:=(dy (Int.not_lt.1 ha)).1
 have hq3:=hq2.mono l3
 refine⟨fun h0=>?_,fun h0=>?_⟩
 ·have h0:q.c.any BF s=0:=by simpa using h0
  rw[if_pos h0]
  refine (A6 b s I3 _ _ hq3 hsn ((hF.cons _).trans jI)).mono fun e I4 G l4 ⟨d,he,pd,okd,hG⟩=>?_
  exact⟨_,_,_,_,_,_,_,_,_,_,_,_,_,_,_,_,_,_,_,_,_,_,_,_,_,_,_,_,_,_,_,_,_,_,_,_,_,_,_,_,_,_,_,_,he,q.cg b (q.c.nq s).2::F0,hG.trans jI,d,rfl,pd,okd,.refl _⟩
 have h0:q.c.any BF s≠0:=by simpa using h0
 rw[if_neg h0]
 refine⟨_,rfl,_,PQ.rd (k:=3) (.tail _ hm) rfl,_,rfl,q.cl s,107,F0,hF,PQ.spot _ _,by rw[PQ.off];exact (by decide:3+1≤7), ?_⟩
 rw[PQ.dC (by omega),w8 (n:=q.c.any BF s) (by omega),w8 (n:=1+q.c.any BF s) (by omega)]
 generalize hk:q.c.any BF s=k at ha hab h0 ⊢
 intro b_d
 refine⟨fun h6=>?_,fun h6=>?_⟩
 ·have h6:1+k≠6:=by simpa using h6
  rw[if_neg (by omega)]
  have hn:=(Up.name (c:=q.c) (s:=s.inc)).2 hlt
  refine (ns hq3 (s:=s.inc) cR).mono fun e I4 G l4 ⟨he,hG⟩=>⟨_,he,q.cg b (q.c.name s.inc).2::F0,hG.trans cR.symm, ?_⟩
  generalize q.c.name s.inc=n at hn ⊢
  have hq4:=hq3.mono l4
  unfold PC.BV
  refine⟨fun h2=>?_,fun h2=>?_⟩
  ·have h2:1+k=2:=by simpa using h2
   rw[if_pos h2]
   have h5:=(Up.take (c:=q.c) (s:=n.2) (⟨#[116,111]⟩:ByteArray)).2 hn
   refine (dq hq4 _ (s:=n.2) cR).mono fun e I5 G l5 ⟨he,hG⟩=>⟨_,he,q.cg b (q.c.take (⟨#[116,111]⟩:ByteArray) n.2).2::F0,hG.trans cR.symm, ?_⟩
   generalize (q.c.take (⟨#[116,111]⟩:ByteArray) n.2).2=s5 at h5 ⊢
   have hq5:=hq4.mono l5
   have h6':=(Up.fQ (c:=q.c) s5).2 h5
   refine (pG b s5 I5 _ _ hq5 h5 cR).mono fun e I6 G l6 ⟨x,he,px,okx,hG⟩=>?_
   refine⟨_,_,_,_,_,_,_,_,_,_,he,q.cg b (q.c.fQ s5).2::F0,hG.trans cR.symm, ?_⟩
   rw[←px]
   generalize (q.c.fQ s5).2=s6 at h6' ⊢
   have hq6:=hq5.mono l6
   unfold PC.EA
   have h7:=(Up.take (c:=q.c) (s:=s6) (⟨#[97,116]⟩:ByteArray)).2 h6'
   refine (dq hq6 _ (s:=s6) cR).mono fun e I7 G l7 ⟨he,hG⟩=>⟨_,he,q.cg b (q.c.take (⟨#[97,116]⟩:ByteArray) s6).2::F0,hG.trans cR.symm, ?_⟩
   generalize (q.c.take (⟨#[97,116]⟩:ByteArray) s6).2=s7 at h7 ⊢
   refine (pG b s7 I7 _ _ (hq6.mono l7) h7 cR).mono fun e I8 G l8 ⟨y,he,py,oky,hG⟩=>?_
   refine⟨_,_,_,_,_,_,_,_,_,_,he,q.cg b (q.c.fQ s7).2::F0,hG.trans cR.symm, ?_⟩
   rw[←py]
   refine⟨fun h4=>?_,fun h4=>?_⟩
   ·exfalso
    have h4:1+k=4:=by simpa using h4
    omega
   ·rw[h2]
    exact⟨⟨2,0,n.1,gZ,x,y,gZ,(q.c.now s).pos⟩,rfl,by simp only[eE.p,hM],⟨dc,okx.up (b8.le_trans l7 l8),oky,dc⟩,.refl _⟩
  ·have h2:1+k≠2:=by simpa using h2
   rw[if_neg h2]
   refine⟨fun h4=>?_,fun h4=>?_⟩
   ·have h4:1+k=4:=by simpa using h4
    rw[if_pos h4]
    unfold PC.EB
    have h5:=(Up.take (c:=q.c) (s:=n.2) (⟨#[61]⟩:ByteArray)).2 hn
    refine (dq hq4 _ (s:=n.2) cR).mono fun e I5 G l5 ⟨he,hG⟩=>⟨_,he,q.cg b (q.c.take (⟨#[61]⟩:ByteArray) n.2).2::F0,hG.trans cR.symm, ?_⟩
    generalize (q.c.take (⟨#[61]⟩:ByteArray) n.2).2=s5 at h5 ⊢
    have hq5:=hq4.mono l5
    refine (pG b s5 I5 _ _ hq5 h5 cR).mono fun e I6 G l6 ⟨x,he,px,okx,hG⟩=>?_
    refine⟨_,_,_,_,_,_,_,_,_,_,he,q.cg b (q.c.fQ s5).2::F0,hG.trans cR.symm, ?_⟩
    rw[←px,h4]
    exact⟨⟨4,0,n.1,gZ,gZ,gZ,x,(q.c.now s).pos⟩,rfl,by simp only[eE.p,hM],⟨dc,dc,dc,okx⟩,.refl _⟩
   ·have h4:1+k≠4:=by simpa using h4
    rw[if_neg h4]
    exact⟨⟨1+k,0,n.1,gZ,gZ,gZ,gZ,(q.c.now s).pos⟩,rfl,by simp only[eE.p,hM],⟨dc,dc,dc,dc⟩,.refl _⟩
 ·have h6:1+k=6:=by simpa using h6
  rw[if_pos (by omega)]
  unfold PC.BV
  rw[if_neg (by decide),if_neg (by decide)]
  refine⟨fun h2=>?_,fun h2=>⟨fun h4=>?_,fun h4=>?_⟩⟩
  ·exfalso
   have h2:1+k=2:=by simpa using h2
   omega
  ·exfalso
   have h4:1+k=4:=by simpa using h4
   omega
  ·rw[h6]
   exact⟨⟨6,0,⟨#[]⟩,gZ,gZ,gZ,gZ,(q.c.now s).pos⟩,rfl,by simp only[eE.p,hM],⟨dc,dc,dc,dc⟩,.refl _⟩
theorem vO{α:Type}{z:Nat}{f:α→List Value}(hz:∀x,(f x).length=z){t ty e:TypeId}{zv:Value}{by':Nat}(ht:P.underlying t=some (.slice e))(hi:(P.info? e).map (fun i=>(i.zero,i.size,i.bytes))=some (some zv,z,by'))(hzs:zv.cells.size=z)(hb:1≤by')(hb2:by'≤1000)
  {a:Option Addr} {n c b1:Nat} {l:List α} {A F R:bZ} {I:b8} {o:Obj} (hA:Acc z f e a n c l A) (hl:l.length≤100) (x:α) (h1:∀u∈f x,u.oneCell'=true) (hbm:I b1=some o) (ho:o=.cells (f x).toArray e (0,0)) (hF:F.Perm (A++R)) :
  cG P (Builtin.append_ #[t,t] ty #[.slice a n c,.slice (some ⟨b1,0,none⟩) 1 1]) I F fun v I' G=>∃a' n' c' A',v=.slice a' n' c'∧Acc z f e a' n' c' (l++[x]) A'∧G.Perm (A'++R):=by
 subst ho
 have hfit:(l.length+1)*by'≤101*1000:=Nat.mul_le_mul (by omega) hb2
 refine cG.perm (cG.mono (ie hz ht hi hzs hb hA (xs:=[x]) (fun y hy=>by rw[List.mem_singleton] at hy;subst hy;exact h1) (by simp) rfl ?_ (by show (l.length+1)*by'≤_;omega) (F:=R)) fun v I' G _ ⟨a',n',c',A',h1,h2,h3,_⟩=>⟨a',n',c',A',h1,h2,by rw[h3]⟩) hF
 exact⟨rfl,_,_,_,.inl hbm,fun j hj=>by simp⟩
section
variable {N Pl:Type} (z:Nat) (f:N→List Value) (E:Nat) (p:N→Pl) (ok:b8→N→Prop) (q:PQ) (b:Nat) (w:ByteArray) (most:Nat) (one:PS→Pl×PS) (s0:PS) (F0:bZ)
def mB(a:Option Addr)(n c m:Nat)(I:b8)(F:bZ):Prop:=q.ok I∧∃(ks:List N) (A:bZ) (s':PS),Acc z f E a n c ks A∧(∀k∈ks,ok I k)∧F.Perm (q.cg b s'::(A++F0))∧s'.next≤q.c.l.length∧ks.length≤most∧m=most-ks.length∧q.c.list w most one s0=q.c.gb w most one (most-ks.length) (ks.map p) s'
def mC(a:Option Addr)(n c:Nat)(I:b8)(F:bZ):Prop:=q.ok I∧∃(ks:List N) (A:bZ),Acc z f E a n c ks A∧(∀k∈ks,ok I k)∧F.Perm (q.cg b (q.c.list w most one s0).2::(A++F0))∧(q.c.list w most one s0).1=ks.map p∧(q.c.list w most one s0).2.next≤q.c.l.length
end
section
variable {N Pl:Type} {z:Nat} {f:N→List Value} {E:Nat} {p:N→Pl} {ok:b8→N→Prop} {q:PQ} {b:Nat} {w:ByteArray} {most:Nat} {one:PS→Pl×PS} {s0:PS} {F0:bZ} {I J:b8} {F:bZ}
theorem mB.start(hq:q.ok I)(hs:s0.next≤q.c.l.length)(hF:F.Perm (q.cg b s0::F0)):mB z f E p ok q b w most one s0 F0 none 0 0 most I F :=
 ⟨hq,[],[],s0,Acc.nil,fun k hk=>(by cases hk),hF,hs,Nat.zero_le _,rfl,rfl⟩
theorem xG{c:PC}{l:List Pl}{s:PS}(h:c.iY w s=false):∀m,c.gb w most one m l s=(l,s)
 | 0=>by rw[PC.gb,if_neg (by simp[h])]
 | m+1=>by rw[PC.gb,if_neg (by simp[h])]
theorem xH{c:PC}{l:List Pl}{s:PS}(h:c.iY w s=true)(ho:(c.many l.length most s).over=true):∀m,c.gb w most one m l s=(l,c.many l.length most s)
 | 0=>by rw[PC.gb,if_pos h]
 | m+1=>by rw[PC.gb,if_pos h,if_pos ho]
end
theorem B0(x:dw):∀u∈x.enc,u.oneCell'=true:=by
 intro u hu
 simp only[dw.enc,List.mem_cons,List.not_mem_nil,or_false] at hu
 rcases hu with h | h | h | h | h | h | h | h | h | h | h<;>(subst h;rfl)
theorem A7(x:dj):∀u∈x.enc,u.oneCell'=true:=by
 intro u hu
 simp only[dj.enc,List.mem_cons,List.not_mem_nil,or_false] at hu
 rcases hu with h | h<;>(subst h;rfl)
theorem zM(x:cm):∀u∈x.enc,u.oneCell'=true:=by
 intro u hu
 simp only[cm.enc,List.mem_cons,List.not_mem_nil,or_false] at hu
 rcases hu with h | h | h<;>(subst h;rfl)
theorem A8(x:cx):∀u∈x.enc,u.oneCell'=true:=by
 intro u hu
 simp only[cx.enc,List.mem_cons,List.not_mem_nil,or_false] at hu
 rcases hu with h | h | h | h | h | h | h | h | h | h<;>(subst h;rfl)
theorem C7(x:eE):∀u∈x.enc,u.oneCell'=true:=by
 have h:x.enc.all (fun u=>u.oneCell')=true:=rfl
 exact fun u hu=>List.all_eq_true.1 h u hu
end Go.Lx
namespace Go.Lx
open Go.Vc
section
variable {c:PC}
theorem Up.jV:∀(m:Nat) (l:List dO),dr c (c.jV m l)
 | 0,l=>fun s=>.refl
 | m+1,l=>fun s=>by
   rw[PC.jV]
   have h1:=Up.do (c:=c) s
   split
   ·rename_i hw
    have hlt:=dx hw
    split
    ·exact h1.trans (.many _ _)
    ·rename_i hm
     obtain⟨_,he⟩:=jo hlt (by simpa using hm)
     rw[he]
     exact h1.trans ((Up.inc hlt).trans (Up.jV m _ _))
   ·exact h1
theorem Up.mz:dr c c.mz:=fun s=>(Up.take _).trans ((Up.fQ _).trans ((Up.take _).trans ((Up.jV 8 [] _).trans (Up.take _))))
theorem Up.gb{α:Type}{w:ByteArray}{most:Nat}{one:PS→α×PS}(h:dr c one):∀(m:Nat) (l:List α),dr c (c.gb w most one m l)
 | 0,l=>fun s=>by
   rw[PC.gb]
   show Up c s (if c.iY w s then c.many l.length most s else s)
   split
   ·exact .many _ _
   ·exact .refl
 | m+1,l=>fun s=>by
   rw[PC.gb]
   split
   ·rename_i hw
    have hlt:=dx hw
    split
    ·exact .many _ _
    ·rename_i hm
     obtain⟨_,he⟩:=jo hlt (by simpa using hm)
     rw[he]
     exact (h s).trans (Up.gb h m _ _)
   ·exact .refl
theorem Up.list{α:Type}{w:ByteArray}{most:Nat}{one:PS→α×PS}(h:dr c one):dr c (c.list w most one):=Up.gb h most []
theorem Up.state:dr c c.state:=fun s=>(Up.take _).trans (Up.name.trans ((Up.take _).trans ((Up.list Up.mz _).trans (Up.take _))))
theorem Up.slot:dr c c.slot:=fun s=>(Up.take _).trans (Up.name.trans (Up.take _))
end
section
variable {N Pl:Type} {z:Nat} {f:N→List Value} {E:Nat} {p:N→Pl} {ok:b8→N→Prop} {q:PQ} {b:Nat} {w:ByteArray} {most:Nat} {one:PS→Pl×PS} {s0:PS} {F0:bZ} {I J:b8} {F:bZ} {a:Option Addr} {n c m:Nat}
theorem mB.next(hmono:∀I J x,b8.le I J→ok I x→ok J x){ks:List N}{A:bZ}{s':PS}(hm:dr q.c one)(hA:Acc z f E a n c ks A)(hks:∀k∈ks,ok I k)(hsn:s'.next≤q.c.l.length)(hr:q.c.list w most one s0=q.c.gb w most one (most-ks.length) (ks.map p) s')(hw:q.c.iY w s'=true)(ho:(q.c.many ks.length most s').over=false)
  {x:N} (hx:p x=(one s').1) (hok:ok J x) (hl:b8.le I J) (hq:q.ok J) {a':Option Addr} {n' c':Nat} {A':bZ} (hA':Acc z f E a' n' c' (ks++[x]) A') (hF:F.Perm (q.cg b (one s').2::(A'++F0))) :
  mB z f E p ok q b w most one s0 F0 a' n' c' (most-(ks.length+1)) J F:=by
 obtain⟨hlt,he⟩:=jo (dx hw) ho
 obtain⟨j,hj⟩:∃j,most-ks.length=j+1:=⟨most-ks.length-1,by omega⟩
 refine⟨hq,ks++[x],A',(one s').2,hA',fun k hk=>?_,hF,(hm _).2 hsn,by rw[List.length_append,List.length_singleton];omega,by rw[List.length_append,List.length_singleton], ?_⟩
 ·rcases List.mem_append.1 hk with hk | hk
  ·exact hmono _ _ _ hl (hks k hk)
  ·rw[List.mem_singleton] at hk;subst hk;exact hok
 ·rw[hr,hj,PC.gb,if_pos hw,List.length_map,if_neg (by simp[ho]),he,List.map_append,List.map_singleton,hx,List.length_append,List.length_singleton,show most-(ks.length+1)=j by omega]
theorem mC.stop{ks:List N}{A:bZ}{s':PS}(hq:q.ok I)(hA:Acc z f E a n c ks A)(hks:∀k∈ks,ok I k)(hsn:s'.next≤q.c.l.length)(hr:q.c.list w most one s0=q.c.gb w most one (most-ks.length) (ks.map p) s')(hw:q.c.iY w s'=false)(hF:F.Perm (q.cg b s'::(A++F0))):mC z f E p ok q b w most one s0 F0 a n c I F:=by
 rw[xG hw] at hr
 exact⟨hq,ks,A,hA,hks,by rw[hr];exact hF,by rw[hr],by rw[hr];exact hsn⟩
theorem mC.full{ks:List N}{A:bZ}{s':PS}(hq:q.ok I)(hA:Acc z f E a n c ks A)(hks:∀k∈ks,ok I k)(hsn:s'.next≤q.c.l.length)(hr:q.c.list w most one s0=q.c.gb w most one (most-ks.length) (ks.map p) s')(hw:q.c.iY w s'=true)(ho:(q.c.many ks.length most s').over=true)(hF:F.Perm (q.cg b (q.c.many ks.length most s')::(A++F0))):mC z f E p ok q b w most one s0 F0 a n c I F:=by
 rw[xH hw (by rw[List.length_map];exact ho),List.length_map] at hr
 exact⟨hq,ks,A,hA,hks,by rw[hr];exact hF,by rw[hr],by rw[hr,oU];exact hsn⟩
end
theorem dP(I J:b8)(x:dw)(hl:b8.le I J)(h:ou I x):ou J x:=dw.Ok.mono h hl fun _ h=>h
theorem fN(I J:b8)(x:cx)(hl:b8.le I J)(h:oV I x):oV J x:=cx.Ok.mono h hl fun _ h=>h
theorem fe(I J:b8)(x:cm)(hl:b8.le I J)(h:kN I x):kN J x:=cm.Ok.mono h hl fun _ h=>h
theorem mm(I J:b8)(x:eE)(hl:b8.le I J)(h:vN I x):vN J x:=eE.Ok.mono h hl fun _ h=>h
theorem EC{α:Type}{w z:α}{A l:List α}:(w::z::(A++l)).Perm (A++(w::z::l)):=List.perm_append_comm_assoc [w,z] A l
theorem B1{q:PQ}(b:Nat)(s:PS)(I:b8)(F F0:bZ)(hq:q.ok I)(hsn:s.next≤q.c.l.length)(hF:F.Perm (q.cg b s::F0)):cd P 94 #[.pointer (some ⟨b,0,none⟩)] I F fun e I' G =>
  ∃a n c,e=.returned (.slice a n c)∧Sl I' 2 dj.enc a n (q.c.list (⟨#[115,108,111,116]⟩:ByteArray) 4 q.c.slot s).1∧G.Perm (q.cg b (q.c.list (⟨#[115,108,111,116]⟩:ByteArray) 4 q.c.slot s).2::F0):=by
 refine cd.keep (Q:=fun e I' G=>∃a n c A,e=.returned (.slice a n c)∧Acc 2 dj.enc 79 a n c (q.c.list (⟨#[115,108,111,116]⟩:ByteArray) 4 q.c.slot s).1 A∧G.Perm (q.cg b (q.c.list (⟨#[115,108,111,116]⟩:ByteArray) 4 q.c.slot s).2::(A++F0))) ?_ fun e I' G w hl hs ⟨a,n,c,A,he,hA,hG⟩=>?_
 rotate_left
 ·obtain⟨J,h1,h2,h3⟩:=Acc.keep (z:=2) (f:=dj.enc) (fun _=>rfl) hA (hs.perm (hG.trans (List.perm_append_comm_assoc [_] A F0)))
  exact⟨J,_,h1,h2,a,n,c,he,h3,.refl _⟩
 have hl:=hq.len
 have hend:∀a n c I F,mC 2 dj.enc 79 id (fun _ _=>True) q b (⟨#[115,108,111,116]⟩:ByteArray) 4 q.c.slot s F0 a n c I F→∃a' n' c' A,Ending.returned (.slice a n c)=.returned (.slice a' n' c')∧Acc 2 dj.enc 79 a' n' c' (q.c.list (⟨#[115,108,111,116]⟩:ByteArray) 4 q.c.slot s).1 A∧F.Perm (q.cg b (q.c.list (⟨#[115,108,111,116]⟩:ByteArray) 4 q.c.slot s).2::(A++F0)):=by
  intro a n c I F ⟨_,ks,A,hA,_,hF,hk,_⟩
  rw[List.map_id] at hk
  exact⟨a,n,c,A,rfl,by rw[hk];exact hA,hF⟩
 refine ew.vc (fun xa xn xc a n c m I' F'=>mB 2 dj.enc 79 id (fun _ _=>True) q b (⟨#[115,108,111,116]⟩:ByteArray) 4 q.c.slot s F0 a n c m I' F') ?_
 unfold ew.V
 refine⟨⟨_,mB.start hq hsn hF⟩,fun xa xn xc a n c m I1 F1 l1 ⟨hq1,ks,A,s',hA,hks,hF1,hs1,hkl,hm,hr⟩=>?_⟩
 have hn:=hA.1
 subst hn
 refine cd.ret (nr hq1 _ (hF1.mem_iff.2 (.head _))) fun I2 l2=>⟨_,rfl,F1,.refl _,fun hw=>?_,fun hw=>?_⟩
 ·exact hend _ _ _ I2 _ (mC.stop (hq1.mono l2) hA (fun _ _=>trivial) hs1 hr (by simpa using hw) hF1)
 have hw:q.c.iY (⟨#[115,108,111,116]⟩:ByteArray) s'=true:=by simpa using hw
 have hlt:=dx hw
 have hq2:=hq1.mono l2
 refine (ry hq2 ks.length 4 hF1).mono fun e I3 G l3 ⟨he,hG⟩=>⟨_,he,G,.refl _,fun ho=>?_,fun ho=>?_⟩
 ·exact hend _ _ _ I3 _ (mC.full (hq2.mono l3) hA (fun _ _=>trivial) hs1 hr hw (by simpa using ho) hG)
 have ho:(q.c.many ks.length 4 s').over=false:=by simpa using ho
 obtain⟨hlt4,hme⟩:=jo hlt ho
 rw[hme] at hG
 have hq3:=hq2.mono l3
 refine (dq hq3 _ hG).mono fun e I4 G4 l4 ⟨he,hG4⟩=>⟨_,he,q.cg b (q.c.take (⟨#[115,108,111,116]⟩:ByteArray) s').2::(A++F0),hG4,fun b_x=>?_⟩
 have hq4:=hq3.mono l4
 refine (ns hq4 (s:=(q.c.take (⟨#[115,108,111,116]⟩:ByteArray) s').2) jI).mono fun e I5 G5 l5 ⟨he,hG5⟩=>⟨_,he,q.cg b (q.c.name (q.c.take (⟨#[115,108,111,116]⟩:ByteArray) s').2).2::(A++F0),hG5.trans jI, ?_⟩
 have hq5:=hq4.mono l5
 refine (dq hq5 _ (s:=(q.c.name (q.c.take (⟨#[115,108,111,116]⟩:ByteArray) s').2).2) jI).mono fun e I6 G6 l6 ⟨he,hG6⟩=>⟨_,he,q.cg b (q.c.slot s').2::(A++F0),hG6.trans jI,fun b4 I7 l7 hb4=>?_⟩
 have hq6:=hq5.mono l6
 refine (vO (f:=dj.enc) (fun _=>rfl) (zv:=(⟨⟨#[]⟩,0⟩:dj).v) (by':=24) (by kernel_rfl) (by kernel_rfl) rfl (by decide) (by decide) hA (by omega) (q.c.slot s').1 (A7 _) hb4 rfl EC).mono fun v I8 G8 l8 ⟨a',n',c',A',hv,hA',hG8⟩=>⟨a',n',c',hv,q.cg b (q.c.slot s').2::(A'++F0),hG8.trans EC.symm,4-(ks.length+1),by omega, ?_⟩
 exact mB.next (fun _ _ _ _ _=>trivial) Up.slot hA hks hs1 hr hw ho (x:=(q.c.slot s').1) rfl trivial (b8.le_refl _) ((hq6.mono l7).mono l8) hA' (.refl _)
end Go.Lx
namespace Go.Lx
open Go.Vc
theorem zN{c:PC}{m:Nat}{l:List dO}{s:PS}(h:c.iY (⟨#[44]⟩:ByteArray) (c.do s).2=false):c.jV (m+1) l s=(l++[(c.do s).1],(c.do s).2):=by
 rw[PC.jV,if_neg (by simp[h])]
theorem zO{c:PC}{m:Nat}{l:List dO}{s:PS}(h:c.iY (⟨#[44]⟩:ByteArray) (c.do s).2=true)(ho:(c.many (l.length+1) 8 (c.do s).2).over=true):c.jV (m+1) l s=(l++[(c.do s).1],c.many (l.length+1) 8 (c.do s).2):=by
 rw[PC.jV,if_pos h,if_pos ho]
theorem C8{q:PQ}:s9 124 cx.v cx.p oV q q.c.mz:=by
 intro b s I F F0 hq hsn hF
 have hl:=hq.len
 refine cd.keep (Q:=fun e I' G=>∃(w:Nd) (a:Option Addr) (c:Nat) (ds:List eE) (pos:Int) (A:bZ),e=.returned (cx.v ⟨w,a,c,ds,pos⟩)∧(⟨w,a,c,ds,pos⟩:cx).p=(q.c.mz s).1∧cB I' [] w∧Acc 36 eE.enc 99 a ds.length c ds A∧(∀d∈ds,vN I' d)∧G.Perm (q.cg b (q.c.mz s).2::(A++F0))) ?_ fun e I' G w hl hs ⟨w',a,c,ds,pos,A,he,hp,hw,hA,hd,hG⟩=>?_
 rotate_left
 ·obtain⟨J,h1,h2,h3⟩:=Acc.keep (z:=36) (f:=eE.enc) (fun _=>rfl) hA (hs.perm (hG.trans (List.perm_append_comm_assoc [_] A F0)))
  exact⟨J,_,h1,h2,_,he,hp,⟨hw.up h1,h3.zd [],fun d hdm=>mm _ _ _ h1 (hd d hdm)⟩,.refl _⟩
 unfold PC.mz
 have ht:=(Up.take (c:=q.c) (s:=s) (⟨#[119,104,101,110]⟩:ByteArray)).2 hsn
 generalize hta:q.c.take (⟨#[119,104,101,110]⟩:ByteArray) s=ta at ht ⊢
 have hx2:=(Up.fQ (c:=q.c) ta.2).2 ht
 have h3:=(Up.take (c:=q.c) (s:=(q.c.fQ ta.2).2) (⟨#[100,111]⟩:ByteArray)).2 hx2
 obtain⟨s3,hs3⟩:∃s3,s3=(q.c.take (⟨#[100,111]⟩:ByteArray) (q.c.fQ ta.2).2).2:=⟨_,rfl⟩
 rw[←hs3] at h3
 refine eQ.vc (fun n0 n1 n2 n3 n4 n5 na nn nc n7 a n c pos I' F'=>q.ok I'∧∃(t:Nd) (ks:List eE) (A:bZ),t.v=(.agg #[.int .u8 n0,.int .u8 n1,.int .u8 n2,.int .i64 n3,.int .u8 n4,.string n5,.slice na nn nc,.int .i64 n7])∧t.px=(q.c.fQ ta.2).1∧cB I' [] t∧pos=ta.1∧Acc 36 eE.enc 99 a n c ks A∧(∀k∈ks,vN I' k)∧F'.Perm (q.cg b (q.c.jV 8 [] s3).2::(A++F0))∧(q.c.jV 8 [] s3).1=ks.map eE.p∧(q.c.jV 8 [] s3).2.next≤q.c.l.length)
  (fun n0 n1 n2 n3 n4 n5 na nn nc n7 a n c pos m I' F'=>q.ok I'∧∃(t:Nd) (ks:List eE) (A:bZ) (s':PS),t.v=(.agg #[.int .u8 n0,.int .u8 n1,.int .u8 n2,.int .i64 n3,.int .u8 n4,.string n5,.slice na nn nc,.int .i64 n7])∧t.px=(q.c.fQ ta.2).1∧cB I' [] t∧pos=ta.1∧Acc 36 eE.enc 99 a n c ks A∧(∀k∈ks,vN I' k)∧F'.Perm (q.cg b s'::(A++F0))∧s'.next≤q.c.l.length∧ks.length<8∧m=8-ks.length∧q.c.jV 8 [] s3=q.c.jV (8-ks.length) (ks.map eE.p) s') ?_
 unfold eQ.V
 intro b2
 refine (dq hq _ ((hF.cons _).trans jI)).mono fun e I1 G l1 ⟨he,hG⟩=>⟨_,he,q.cg b ta.2::F0,by rw[hta] at hG;exact hG.trans jI,fun b_r=>?_⟩
 rw[hta]
 have hq1:=hq.mono l1
 refine (pG b ta.2 I1 _ _ hq1 ht cR).mono fun e I2 G l2 ⟨x,he,px,okx,hG⟩=>?_
 refine⟨_,_,_,_,_,_,_,_,_,_,he,q.cg b (q.c.fQ ta.2).2::F0,hG.trans cR.symm, ?_⟩
 have hq2:=hq1.mono l2
 refine (dq hq2 _ (s:=(q.c.fQ ta.2).2) cR).mono fun e I3 G l3 ⟨he,hG⟩=>⟨_,he,q.cg b s3::F0,by rw[←hs3] at hG;exact hG.trans cR.symm,⟨⟨_,hq2.mono l3,x,[],[],s3,rfl,px,okx.up l3,rfl,Acc.nil,fun k hk=>(by cases hk),.refl _,h3,by decide,rfl,rfl⟩, ?_⟩, ?_⟩
 ·intro n0 n1 n2 n3 n4 n5 na nn nc n7 a n c pos m I4 F4 l4 ⟨hq4,t,ks,A,s',htv,pt,okt,hpos,hA,hks,hF4,hsn',hkl,hm,hr⟩
  have hn:=hA.1
  subst hn hpos
  have hup:=(Up.do (c:=q.c) s').2 hsn'
  refine (El b s' I4 _ _ hq4 hsn' (((hF4.cons _).cons _).trans cR)).mono fun e I5 G l5 ⟨d,he,pd,okd,hG⟩=>?_
  refine⟨_,_,_,_,_,_,_,_,_,_,_,_,_,_,_,_,_,_,_,_,_,_,_,_,_,_,_,_,_,_,_,_,_,_,_,_,_,_,_,_,_,_,_,_,he,q.cg b (q.c.do s').2::(A++F0),hG.trans cR.symm,fun b_d b4 I6 l6 hb4=>?_⟩
  have hq6:=(hq4.mono l5).mono l6
  refine (vO (f:=eE.enc) (fun _=>rfl) (zv:=(⟨0,0,⟨#[]⟩,gZ,gZ,gZ,gZ,0⟩:eE).v) (by':=320) (by kernel_rfl) (by kernel_rfl) rfl (by decide) (by decide) hA (by omega) d (C7 _) hb4 rfl zJ).mono fun v I7 G7 l7 ⟨a',n',c',A',hv,hA',hG7⟩=>⟨a',n',c',hv,q.cg b (q.c.do s').2::(A'++F0),hG7.trans zJ.symm, ?_⟩
  have hq7:=hq6.mono l7
  have hn':=hA'.1
  rw[List.length_append,List.length_singleton] at hn'
  subst hn'
  obtain⟨j,hj⟩:∃j,8-ks.length=j+1:=⟨8-ks.length-1,by omega⟩
  rw[hj] at hr
  have l47:=b8.le_trans l5 (b8.le_trans l6 l7)
  have hks':∀J,b8.le I7 J→∀k∈ks++[d],vN J k:=fun J hJ k hk=>by
   rcases List.mem_append.1 hk with hk | hk
   ·exact mm _ _ _ (b8.le_trans l47 hJ) (hks k hk)
   ·rw[List.mem_singleton] at hk;subst hk;exact mm _ _ _ (b8.le_trans l6 (b8.le_trans l7 hJ)) okd
  refine cd.ret (nr hq7 _ (s:=(q.c.do s').2) (.tail _ (.tail _ (.tail _ (.head _))))) fun I8 l8=>⟨_,rfl,q.cg b (q.c.do s').2::(A'++F0),.refl _,fun hw=>?_,fun hw=>?_⟩
  ·have hw:q.c.iY (⟨#[44]⟩:ByteArray) (q.c.do s').2=false:=by simpa using hw
   rw[zN hw] at hr
   exact⟨hq7.mono l8,t,ks++[d],A',htv,pt,okt.up (b8.le_trans l47 l8),rfl,hA',hks' _ l8,by rw[hr],by rw[hr,List.map_append,List.map_singleton,pd],by rw[hr];exact hup⟩
  have hw:q.c.iY (⟨#[44]⟩:ByteArray) (q.c.do s').2=true:=by simpa using hw
  have hlt:=dx hw
  have hq8:=hq7.mono l8
  refine (ry hq8 (ks.length+1) 8 (s:=(q.c.do s').2) pR).mono fun e I9 G l9 ⟨he,hG⟩=>⟨_,he,q.cg b (q.c.many (ks.length+1) 8 (q.c.do s').2)::(A'++F0),hG.trans pR.symm,fun ho=>?_,fun ho=>?_⟩
  ·have ho:(q.c.many (ks.length+1) 8 (q.c.do s').2).over=true:=by simpa using ho
   rw[zO hw (by rw[List.length_map];exact ho),List.length_map] at hr
   exact⟨hq8.mono l9,t,ks++[d],A',htv,pt,okt.up (b8.le_trans l47 (b8.le_trans l8 l9)),rfl,hA',hks' _ (b8.le_trans l8 l9),by rw[hr],by rw[hr,List.map_append,List.map_singleton,pd],by rw[hr];show (q.c.many _ _ _).next≤_;rw[oU];exact hup⟩
  have ho:(q.c.many (ks.length+1) 8 (q.c.do s').2).over=false:=by simpa using ho
  obtain⟨hlt8,hme⟩:=jo hlt ho
  rw[hme]
  refine⟨_,rfl,_,PQ.rd (k:=3) (.tail _ (.tail _ (.tail _ (.head _)))) rfl,_,rfl,q.cl (q.c.do s').2,107,A'++F0,.refl _,PQ.spot _ _,by rw[PQ.off];exact (by decide:3+1≤7), ?_⟩
  rw[PQ.dC (by omega)]
  refine⟨8-(ks.length+1),by omega,hq8.mono l9,t,ks++[d],A',_,htv,pt,okt.up (b8.le_trans l47 (b8.le_trans l8 l9)),rfl,hA',hks' _ (b8.le_trans l8 l9),.refl _,hlt,by rw[List.length_append,List.length_singleton];omega,by rw[List.length_append,List.length_singleton], ?_⟩
  rw[hr,PC.jV,if_pos hw,List.length_map,if_neg (by simp[ho]),hme,List.map_append,List.map_singleton,pd,List.length_append,List.length_singleton,show 8-(ks.length+1)=j by omega]
 ·intro n0 n1 n2 n3 n4 n5 na nn nc n7 a n c pos I10 F10 l10 ⟨hq10,t,ks,A,htv,pt,okt,hpos,hA,hks,hF10,hr,hn10⟩
  simp only[Nd.v,Value.agg.injEq,Array.mk.injEq,List.cons.injEq,Value.int.injEq,Value.string.injEq,Value.slice.injEq,true_and,and_true] at htv
  obtain⟨rfl,rfl,rfl,rfl,rfl,rfl,⟨rfl,rfl,rfl⟩,rfl⟩:=htv
  have hn:=hA.1
  subst hn hpos
  unfold PC.Cy
  rw[←hs3]
  refine (dq hq10 _ (s:=(q.c.jV 8 [] s3).2) (((hF10.cons _).cons _).trans cR)).mono fun e I11 G l11 ⟨he,hG⟩=>⟨_,he,q.cg b (q.c.take (⟨#[59]⟩:ByteArray) (q.c.jV 8 [] s3).2).2::(A++F0),hG.trans cR.symm, ?_⟩
  exact⟨t,a,c,ks,ta.1,A,rfl,by simp only[cx.p,pt,hr],okt.up l11,hA,fun k hk=>mm _ _ _ l11 (hks k hk),.refl _⟩
theorem B2{q:PQ}:s9 95 cm.v cm.p kN q q.c.state:=by
 intro b s I F F0 hq hsn hF
 have hl:=hq.len
 refine cd.keep (Q:=fun e I' G=>∃(nm:ByteArray) (a:Option Addr) (c:Nat) (ds:List cx) (pos:Int) (A:bZ),e=.returned (cm.v ⟨nm,a,c,ds,pos⟩)∧(⟨nm,a,c,ds,pos⟩:cm).p=(q.c.state s).1∧Acc 10 cx.enc 84 a ds.length c ds A∧(∀d∈ds,oV I' d)∧G.Perm (q.cg b (q.c.state s).2::(A++F0))) ?_ fun e I' G w hl hs ⟨nm,a,c,ds,pos,A,he,hp,hA,hd,hG⟩=>?_
 rotate_left
 ·obtain⟨J,h1,h2,h3⟩:=Acc.keep (z:=10) (f:=cx.enc) (fun _=>rfl) hA (hs.perm (hG.trans (List.perm_append_comm_assoc [_] A F0)))
  exact⟨J,_,h1,h2,_,he,hp,⟨h3.zd [],fun d hdm=>fN _ _ _ h1 (hd d hdm)⟩,.refl _⟩
 unfold PC.state
 have ht:=(Up.take (c:=q.c) (s:=s) (⟨#[115,116,97,116,101]⟩:ByteArray)).2 hsn
 generalize hta:q.c.take (⟨#[115,116,97,116,101]⟩:ByteArray) s=ta at ht ⊢
 have hn:=(Up.name (c:=q.c) (s:=ta.2)).2 ht
 generalize hbb:q.c.name ta.2=bb at hn ⊢
 have h3:=(Up.take (c:=q.c) (s:=bb.2) (⟨#[123]⟩:ByteArray)).2 hn
 generalize hs3:(q.c.take (⟨#[123]⟩:ByteArray) bb.2).2=s3 at h3 ⊢
 refine eu.vc (fun nm a n c pos I' F'=>nm=bb.1∧pos=ta.1∧mC 10 cx.enc 84 cx.p oV q b (⟨#[119,104,101,110]⟩:ByteArray) 12 q.c.mz s3 F0 a n c I' F')
  (fun nm a n c pos m I' F'=>nm=bb.1∧pos=ta.1∧mB 10 cx.enc 84 cx.p oV q b (⟨#[119,104,101,110]⟩:ByteArray) 12 q.c.mz s3 F0 a n c m I' F') ?_
 unfold eu.V
 intro b2
 refine (dq hq _ ((hF.cons _).trans jI)).mono fun e I1 G l1 ⟨he,hG⟩=>⟨_,he,q.cg b ta.2::F0,by rw[hta] at hG;exact hG.trans jI,fun b_s=>?_⟩
 rw[hta]
 have hq1:=hq.mono l1
 refine (ns hq1 (s:=ta.2) cR).mono fun e I2 G l2 ⟨he,hG⟩=>⟨_,he,q.cg b bb.2::F0,by rw[hbb] at hG;exact hG.trans cR.symm, ?_⟩
 rw[hbb]
 have hq2:=hq1.mono l2
 refine (dq hq2 _ (s:=bb.2) cR).mono fun e I3 G l3 ⟨he,hG⟩=>⟨_,he,q.cg b s3::F0,by rw[hs3] at hG;exact hG.trans cR.symm,⟨⟨_,rfl,rfl,mB.start (hq2.mono l3) h3 (.refl _)⟩, ?_⟩, ?_⟩
 ·intro nm a n c pos m I4 F4 l4 ⟨e1,e2,hq4,ks,A,s',hA,hks,hF4,hsn',hkl,hm,hr⟩
  have hn:=hA.1
  subst hn e1 e2
  have hm4:q.cg b s'∈F4:=hF4.mem_iff.2 (.head _)
  refine cd.ret (nr hq4 _ (s:=s') (.tail _ (.tail _ hm4))) fun I5 l5=>⟨_,rfl,F4,.refl _,fun hw=>?_,fun hw=>?_⟩
  ·exact⟨rfl,rfl,mC.stop (hq4.mono l5) hA (fun k hk=>fN _ _ _ l5 (hks k hk)) hsn' hr (by simpa using hw) hF4⟩
  have hw:q.c.iY (⟨#[119,104,101,110]⟩:ByteArray) s'=true:=by simpa using hw
  have hlt:=dx hw
  have hq5:=hq4.mono l5
  refine (ry hq5 ks.length 12 (((hF4.cons _).cons _).trans cR)).mono fun e I6 G l6 ⟨he,hG⟩=>⟨_,he,q.cg b (q.c.many ks.length 12 s')::(A++F0),hG.trans cR.symm,fun ho=>?_,fun ho=>?_⟩
  ·exact⟨rfl,rfl,mC.full (hq5.mono l6) hA (fun k hk=>fN _ _ _ (b8.le_trans l5 l6) (hks k hk)) hsn' hr hw (by simpa using ho) (.refl _)⟩
  have ho:(q.c.many ks.length 12 s').over=false:=by simpa using ho
  obtain⟨hlt4,hme⟩:=jo hlt ho
  rw[hme]
  have hq6:=hq5.mono l6
  refine (C8 b s' I6 _ _ hq6 hsn' cR).mono fun e I7 G l7 ⟨x,he,px,okx,hG⟩=>?_
  refine⟨_,_,_,_,_,_,_,_,_,_,_,_,_,_,he,q.cg b (q.c.mz s').2::(A++F0),hG.trans cR.symm,fun b_r b4 I8 l8 hb4=>?_⟩
  have hq8:=(hq6.mono l7).mono l8
  refine (vO (f:=cx.enc) (fun _=>rfl) (zv:=(⟨gZ,none,0,[],0⟩:cx).v) (by':=104) (by kernel_rfl) (by kernel_rfl) rfl (by decide) (by decide) hA (by omega) x (A8 _) hb4 rfl zJ).mono fun v I9 G9 l9 ⟨a',n',c',A',hv,hA',hG9⟩=>⟨a',n',c',hv,q.cg b (q.c.mz s').2::(A'++F0),hG9.trans zJ.symm,12-(ks.length+1),by omega,rfl,rfl, ?_⟩
  exact mB.next fN Up.mz hA hks hsn' hr hw ho px (fN _ _ _ (b8.le_trans l8 l9) okx) (b8.le_trans l5 (b8.le_trans l6 (b8.le_trans l7 (b8.le_trans l8 l9)))) (hq8.mono l9) hA' (.refl _)
 ·intro nm a n c pos I10 F10 l10 ⟨e1,e2,hq10,ks,A,hA,hks,hF10,hr,hn10⟩
  have hn:=hA.1
  subst hn e1 e2
  unfold PC.AU
  refine (dq hq10 _ (s:=(q.c.list (⟨#[119,104,101,110]⟩:ByteArray) 12 q.c.mz s3).2) (((hF10.cons _).cons _).trans cR)).mono fun e I11 G l11 ⟨he,hG⟩=>⟨_,he,q.cg b (q.c.take (⟨#[125]⟩:ByteArray) (q.c.list (⟨#[119,104,101,110]⟩:ByteArray) 12 q.c.mz s3).2).2::(A++F0),hG.trans cR.symm, ?_⟩
  exact⟨bb.1,a,c,ks,ta.1,A,rfl,by simp only[cm.p,hr],hA,fun k hk=>fN _ _ _ l11 (hks k hk),.refl _⟩
theorem B3{q:PQ}:s9 56 cF.v cF.p DQ q q.c.whole:=by
 intro b s I F F0 hq hsn hF
 have hl:=hq.len
 refine cd.keep (Q:=fun e I' G=>∃(nm:ByteArray) (a1:Option Addr) (c1:Nat) (rs:List dw) (a2:Option Addr) (c2:Nat) (ss:List dj) (a3:Option Addr) (c3:Nat) (ts:List cm) (A1 A2:bZ),e=.returned (cF.v ⟨nm,a1,c1,rs,a2,c2,ss,a3,c3,ts⟩)∧(⟨nm,a1,c1,rs,a2,c2,ss,a3,c3,ts⟩:cF).p=(q.c.whole s).1 ∧
   Acc 11 dw.enc 77 a1 rs.length c1 rs A1∧(∀d∈rs,ou I' d)∧Sl I' 2 dj.enc a2 ss.length ss∧Acc 3 cm.enc 65 a3 ts.length c3 ts A2∧(∀d∈ts,kN I' d)∧G.Perm (q.cg b (q.c.whole s).2::(A2++(A1++F0)))) ?_
  fun e I' G w hl hs ⟨nm,a1,c1,rs,a2,c2,ss,a3,c3,ts,A1,A2,he,hp,hA1,hd1,hS,hA2,hd2,hG⟩=>?_
 rotate_left
 ·obtain⟨J,h1,h2,h3⟩:=Acc.keep (z:=3) (f:=cm.enc) (fun _=>rfl) hA2 (hs.perm (hG.trans (List.perm_append_comm_assoc [_] A2 (A1++F0))))
  obtain⟨J2,k1,k2,k3⟩:=Acc.keep (z:=11) (f:=dw.enc) (fun _=>rfl) hA1 (h2.perm (List.perm_append_comm_assoc [_] A1 F0))
  exact⟨J2,_,b8.le_trans h1 k1,k2,_,he,hp,⟨k3.zd [],fun d hdm=>dP _ _ _ (b8.le_trans h1 k1) (hd1 d hdm),(hS.mono (b8.le_trans h1 k1)).zd [],(h3.mono k1).zd [],fun d hdm=>fe _ _ _ (b8.le_trans h1 k1) (hd2 d hdm)⟩,.refl _⟩
 unfold PC.whole
 have ht:=(Up.take (c:=q.c) (s:=s) (⟨#[115,116,114,97,116,101,103,121]⟩:ByteArray)).2 hsn
 generalize hta:(q.c.take (⟨#[115,116,114,97,116,101,103,121]⟩:ByteArray) s).2=s1 at ht ⊢
 have hn:=(Up.name (c:=q.c) (s:=s1)).2 ht
 generalize hbb:q.c.name s1=bb at hn ⊢
 have h3:=(Up.take (c:=q.c) (s:=bb.2) (⟨#[123]⟩:ByteArray)).2 hn
 generalize hs3:(q.c.take (⟨#[123]⟩:ByteArray) bb.2).2=s3 at h3 ⊢
 unfold PC.AZ PC.AY PC.AX PC.AW
 refine ez.vc
  (fun nm a1 n1 c1 a2 n2 c2 a3 n3 c3 I' F'=>nm=bb.1∧a3=none∧n3=0∧c3=0∧mC 11 dw.enc 77 dw.p ou q b (⟨#[114,101,103]⟩:ByteArray) 12 q.c.iZ s3 F0 a1 n1 c1 I' F')
  (fun nm a1 n1 c1 a2 n2 c2 a3 n3 c3 m I' F'=>nm=bb.1∧a3=none∧n3=0∧c3=0∧mB 11 dw.enc 77 dw.p ou q b (⟨#[114,101,103]⟩:ByteArray) 12 q.c.iZ s3 F0 a1 n1 c1 m I' F')
  (fun nm a1 n1 c1 a2 n2 c2 a3 n3 c3 I' F'=>nm=bb.1∧∃(rs:List dw) (A1:bZ),Acc 11 dw.enc 77 a1 n1 c1 rs A1∧(∀k∈rs,ou I' k)∧(q.c.list (⟨#[114,101,103]⟩:ByteArray) 12 q.c.iZ s3).1=rs.map dw.p∧Sl I' 2 dj.enc a2 n2 (q.c.list (⟨#[115,108,111,116]⟩:ByteArray) 4 q.c.slot (q.c.list (⟨#[114,101,103]⟩:ByteArray) 12 q.c.iZ s3).2).1 ∧
    mC 3 cm.enc 65 cm.p kN q b (⟨#[115,116,97,116,101]⟩:ByteArray) 12 q.c.state (q.c.list (⟨#[115,108,111,116]⟩:ByteArray) 4 q.c.slot (q.c.list (⟨#[114,101,103]⟩:ByteArray) 12 q.c.iZ s3).2).2 (A1++F0) a3 n3 c3 I' F')
  (fun nm a1 n1 c1 a2 n2 c2 a3 n3 c3 m I' F'=>nm=bb.1∧∃(rs:List dw) (A1:bZ),Acc 11 dw.enc 77 a1 n1 c1 rs A1∧(∀k∈rs,ou I' k)∧(q.c.list (⟨#[114,101,103]⟩:ByteArray) 12 q.c.iZ s3).1=rs.map dw.p∧Sl I' 2 dj.enc a2 n2 (q.c.list (⟨#[115,108,111,116]⟩:ByteArray) 4 q.c.slot (q.c.list (⟨#[114,101,103]⟩:ByteArray) 12 q.c.iZ s3).2).1 ∧
    mB 3 cm.enc 65 cm.p kN q b (⟨#[115,116,97,116,101]⟩:ByteArray) 12 q.c.state (q.c.list (⟨#[115,108,111,116]⟩:ByteArray) 4 q.c.slot (q.c.list (⟨#[114,101,103]⟩:ByteArray) 12 q.c.iZ s3).2).2 (A1++F0) a3 n3 c3 m I' F') ?_
 unfold ez.V
 intro b2 b_s
 refine (dq hq _ (((hF.cons _).cons _).trans cR)).mono fun e I1 G l1 ⟨he,hG⟩=>⟨_,he,q.cg b s1::F0,by rw[hta] at hG;exact hG.trans cR.symm, ?_⟩
 have hq1:=hq.mono l1
 refine (ns hq1 (s:=s1) cR).mono fun e I2 G l2 ⟨he,hG⟩=>⟨_,he,q.cg b bb.2::F0,by rw[hbb] at hG;exact hG.trans cR.symm, ?_⟩
 rw[hbb]
 have hq2:=hq1.mono l2
 refine (dq hq2 _ (s:=bb.2) cR).mono fun e I3 G l3 ⟨he,hG⟩=>⟨_,he,q.cg b s3::F0,by rw[hs3] at hG;exact hG.trans cR.symm,⟨⟨_,rfl,rfl,rfl,rfl,mB.start (hq2.mono l3) h3 (.refl _)⟩, ?_⟩, ?_⟩
 ·intro nm a1 n1 c1 a2 n2 c2 a3 n3 c3 m I4 F4 l4 ⟨e1,e2,e3,e4,hq4,ks,A,s',hA,hks,hF4,hsn',hkl,hm,hr⟩
  have hn:=hA.1
  subst hn e1 e2 e3 e4
  have hm4:q.cg b s'∈F4:=hF4.mem_iff.2 (.head _)
  refine cd.ret (nr hq4 _ (s:=s') (.tail _ (.tail _ hm4))) fun I5 l5=>⟨_,rfl,F4,.refl _,fun hw=>?_,fun hw=>?_⟩
  ·exact⟨rfl,rfl,rfl,rfl,mC.stop (hq4.mono l5) hA (fun k hk=>dP _ _ _ l5 (hks k hk)) hsn' hr (by simpa using hw) hF4⟩
  have hw:q.c.iY (⟨#[114,101,103]⟩:ByteArray) s'=true:=by simpa using hw
  have hlt:=dx hw
  have hq5:=hq4.mono l5
  refine (ry hq5 ks.length 12 (((hF4.cons _).cons _).trans cR)).mono fun e I6 G l6 ⟨he,hG⟩=>⟨_,he,q.cg b (q.c.many ks.length 12 s')::(A++F0),hG.trans cR.symm,fun ho=>?_,fun ho=>?_⟩
  ·exact⟨rfl,rfl,rfl,rfl,mC.full (hq5.mono l6) hA (fun k hk=>dP _ _ _ (b8.le_trans l5 l6) (hks k hk)) hsn' hr hw (by simpa using ho) (.refl _)⟩
  have ho:(q.c.many ks.length 12 s').over=false:=by simpa using ho
  obtain⟨hlt4,hme⟩:=jo hlt ho
  rw[hme]
  have hq6:=hq5.mono l6
  refine (DR b s' I6 _ _ hq6 hsn' cR).mono fun e I7 G l7 ⟨x,he,px,okx,hG⟩=>?_
  refine⟨_,_,_,_,_,_,_,_,_,_,_,_,_,he,q.cg b (q.c.iZ s').2::(A++F0),hG.trans cR.symm,fun b_r b4 I8 l8 hb4=>?_⟩
  have hq8:=(hq6.mono l7).mono l8
  refine (vO (f:=dw.enc) (fun _=>rfl) (zv:=(⟨⟨#[]⟩,0,gZ,0⟩:dw).v) (by':=104) (by kernel_rfl) (by kernel_rfl) rfl (by decide) (by decide) hA (by omega) x (B0 _) hb4 rfl zJ).mono fun v I9 G9 l9 ⟨a',n',c',A',hv,hA',hG9⟩=>⟨a',n',c',hv,q.cg b (q.c.iZ s').2::(A'++F0),hG9.trans zJ.symm,12-(ks.length+1),by omega,rfl,rfl,rfl,rfl, ?_⟩
  exact mB.next dP Up.iZ hA hks hsn' hr hw ho px (dP _ _ _ (b8.le_trans l8 l9) okx) (b8.le_trans l5 (b8.le_trans l6 (b8.le_trans l7 (b8.le_trans l8 l9)))) (hq8.mono l9) hA' (.refl _)
 intro nm a1 n1 c1 a2 n2 c2 a3 n3 c3 I10 F10 l10 ⟨e1,e2,e3,e4,hq10,rs,A1,hA1,hrs,hF10,hr1,hn10⟩
 subst e1 e2 e3 e4
 generalize hL1:q.c.list (⟨#[114,101,103]⟩:ByteArray) 12 q.c.iZ s3=L1 at hF10 hr1 hn10 ⊢
 refine (B1 b L1.2 I10 _ _ hq10 hn10 (((hF10.cons _).cons _).trans cR)).mono fun e I11 G l11 ⟨a2',n2',c2',he,hS,hG⟩=>?_
 have hn11:=(Up.list (c:=q.c) (w:=(⟨#[115,108,111,116]⟩:ByteArray)) (most:=4) Up.slot L1.2).2 hn10
 generalize hL2:q.c.list (⟨#[115,108,111,116]⟩:ByteArray) 4 q.c.slot L1.2=L2 at hS hG hn11 ⊢
 have hq11:=hq10.mono l11
 refine⟨a2',n2',c2',he,q.cg b L2.2::(A1++F0),hG.trans cR.symm,⟨⟨_,rfl,rs,A1,hA1,fun k hk=>dP _ _ _ l11 (hrs k hk),hr1,hS,mB.start hq11 hn11 (.refl _)⟩, ?_⟩, ?_⟩
 ·intro nm a1 n1 c1 a2 n2 c2 a3 n3 c3 m I12 F12 l12 ⟨e1,rs,A1,hA1,hrs,hr1,hS,hq12,ks,A,s',hA,hks,hF4,hsn',hkl,hm,hr⟩
  have hn:=hA.1
  subst hn e1
  have hm4:q.cg b s'∈F12:=hF4.mem_iff.2 (.head _)
  refine cd.ret (nr hq12 _ (s:=s') (.tail _ (.tail _ hm4))) fun I5 l5=>⟨_,rfl,F12,.refl _,fun hw=>?_,fun hw=>?_⟩
  ·exact⟨rfl,rs,A1,hA1,fun k hk=>dP _ _ _ l5 (hrs k hk),hr1,hS.mono l5,mC.stop (hq12.mono l5) hA (fun k hk=>fe _ _ _ l5 (hks k hk)) hsn' hr (by simpa using hw) hF4⟩
  have hw:q.c.iY (⟨#[115,116,97,116,101]⟩:ByteArray) s'=true:=by simpa using hw
  have hlt:=dx hw
  have hq5:=hq12.mono l5
  refine (ry hq5 ks.length 12 (((hF4.cons _).cons _).trans cR)).mono fun e I6 G l6 ⟨he,hG⟩=>⟨_,he,q.cg b (q.c.many ks.length 12 s')::(A++(A1++F0)),hG.trans cR.symm,fun ho=>?_,fun ho=>?_⟩
  ·exact⟨rfl,rs,A1,hA1,fun k hk=>dP _ _ _ (b8.le_trans l5 l6) (hrs k hk),hr1,hS.mono (b8.le_trans l5 l6),mC.full (hq5.mono l6) hA (fun k hk=>fe _ _ _ (b8.le_trans l5 l6) (hks k hk)) hsn' hr hw (by simpa using ho) (.refl _)⟩
  have ho:(q.c.many ks.length 12 s').over=false:=by simpa using ho
  obtain⟨hlt4,hme⟩:=jo hlt ho
  rw[hme]
  have hq6:=hq5.mono l6
  refine (B2 b s' I6 _ _ hq6 hsn' cR).mono fun e I7 G l7 ⟨x,he,px,okx,hG⟩=>?_
  refine⟨_,_,_,_,_,he,q.cg b (q.c.state s').2::(A++(A1++F0)),hG.trans cR.symm,fun b_r b4 I8 l8 hb4=>?_⟩
  have hq8:=(hq6.mono l7).mono l8
  have l59:∀J,b8.le I8 J→b8.le I12 J:=fun J h=>b8.le_trans l5 (b8.le_trans l6 (b8.le_trans l7 (b8.le_trans l8 h)))
  refine (vO (f:=cm.enc) (fun _=>rfl) (zv:=(⟨⟨#[]⟩,none,0,[],0⟩:cm).v) (by':=48) (by kernel_rfl) (by kernel_rfl) rfl (by decide) (by decide) hA (by omega) x (zM _) hb4 rfl zJ).mono fun v I9 G9 l9 ⟨a',n',c',A',hv,hA',hG9⟩=>⟨a',n',c',hv,q.cg b (q.c.state s').2::(A'++(A1++F0)),hG9.trans zJ.symm,12-(ks.length+1),by omega,rfl,rs,A1,hA1,fun k hk=>dP _ _ _ (l59 _ l9) (hrs k hk),hr1,hS.mono (l59 _ l9), ?_⟩
  exact mB.next fe Up.state hA hks hsn' hr hw ho px (fe _ _ _ (b8.le_trans l8 l9) okx) (l59 _ l9) (hq8.mono l9) hA' (.refl _)
 intro nm a1 n1 c1 a2 n2 c2 a3 n3 c3 I18 F18 l18 ⟨e1,rs,A1,hA1,hrs,hr1,hS,hq18,ts,A2,hA2,hts,hF18,hr2,hn18⟩
 have hn3:=hA2.1
 have hn1:=hA1.1
 have hn2:=hS.1
 subst e1 hn3 hn1
 generalize hL3:q.c.list (⟨#[115,116,97,116,101]⟩:ByteArray) 12 q.c.state L2.2=L3 at hF18 hr2 hn18 ⊢
 have hfin:∀(s6:PS) (I':b8) (F':bZ),b8.le I18 I'→s6=(if L3.1.length=0 then q.c.cI 130 L3.2 else L3.2)→F'.Perm (q.cg b (q.c.end (q.c.take (⟨#[125]⟩:ByteArray) s6).2)::(A2++(A1++F0))) →
   ∃(nm:ByteArray) (a1':Option Addr) (c1':Nat) (rs':List dw) (a2':Option Addr) (c2':Nat) (ss:List dj) (a3':Option Addr) (c3':Nat) (ts':List cm) (A1' A2':bZ),Ending.returned (cF.v ⟨bb.1,a1,c1,rs,a2,c2,L2.1,a3,c3,ts⟩)=.returned (cF.v ⟨nm,a1',c1',rs',a2',c2',ss,a3',c3',ts'⟩)∧(⟨nm,a1',c1',rs',a2',c2',ss,a3',c3',ts'⟩:cF).p=⟨bb.1,L1.1,L2.1,L3.1⟩ ∧
   Acc 11 dw.enc 77 a1' rs'.length c1' rs' A1'∧(∀d∈rs',ou I' d)∧Sl I' 2 dj.enc a2' ss.length ss∧Acc 3 cm.enc 65 a3' ts'.length c3' ts' A2'∧(∀d∈ts',kN I' d)∧F'.Perm (q.cg b (q.c.end (q.c.take (⟨#[125]⟩:ByteArray) (if L3.1.length=0 then q.c.cI 130 L3.2 else L3.2)).2)::(A2'++(A1'++F0))):=fun s6 I' F' hl h6 hF' =>
  ⟨bb.1,a1,c1,rs,a2,c2,L2.1,a3,c3,ts,A1,A2,rfl,by simp only[cF.p,hr1,hr2],hA1,fun k hk=>dP _ _ _ hl (hrs k hk),hn2▸hS.mono hl,hA2,fun k hk=>fe _ _ _ hl (hts k hk),h6▸hF'⟩
 have h3l:L3.1.length=ts.length:=by rw[hr2,List.length_map]
 subst hn2
 refine⟨fun hz=>?_,fun hz=>?_⟩
 ·have hz:ts.length=0:=by have hz:((ts.length:Int)==0)=true:=hz;simpa using hz
  refine (ep hq18 130 (s:=L3.2) (((hF18.cons _).cons _).trans cR)).mono fun e I19 G l19 ⟨he,hG⟩=>⟨he,q.cg b (q.c.cI 130 L3.2)::(A2++(A1++F0)),hG.trans cR.symm, ?_⟩
  have hq19:=hq18.mono l19
  refine (dq hq19 _ (s:=q.c.cI 130 L3.2) cR).mono fun e I20 G l20 ⟨he,hG⟩=>⟨_,he,q.cg b (q.c.take (⟨#[125]⟩:ByteArray) (q.c.cI 130 L3.2)).2::(A2++(A1++F0)),hG.trans cR.symm, ?_⟩
  have hq20:=hq19.mono l20
  refine (A0 hq20 (s:=(q.c.take (⟨#[125]⟩:ByteArray) (q.c.cI 130 L3.2)).2) cR).mono fun e I21 G l21 ⟨he,hG⟩=>⟨he,q.cg b (q.c.end (q.c.take (⟨#[125]⟩:ByteArray) (q.c.cI 130 L3.2)).2)::(A2++(A1++F0)),hG.trans cR.symm, ?_⟩
  exact hfin _ _ _ (b8.le_trans l19 (b8.le_trans l20 l21)) (by rw[if_pos (by omega)]) (.refl _)
 ·have hz:ts.length≠0:=by have hz:((ts.length:Int)==0)=false:=hz;simp at hz;exact fun h=>hz (List.eq_nil_of_length_eq_zero h)
  refine (dq hq18 _ (s:=L3.2) (((hF18.cons _).cons _).trans cR)).mono fun e I20 G l20 ⟨he,hG⟩=>⟨_,he,q.cg b (q.c.take (⟨#[125]⟩:ByteArray) L3.2).2::(A2++(A1++F0)),hG.trans cR.symm, ?_⟩
  have hq20:=hq18.mono l20
  refine (A0 hq20 (s:=(q.c.take (⟨#[125]⟩:ByteArray) L3.2).2) cR).mono fun e I21 G l21 ⟨he,hG⟩=>⟨he,q.cg b (q.c.end (q.c.take (⟨#[125]⟩:ByteArray) L3.2).2)::(A2++(A1++F0)),hG.trans cR.symm, ?_⟩
  exact hfin _ _ _ (b8.le_trans l20 l21) (by rw[if_neg (by omega)]) (.refl _)
theorem tb(s:ByteArray):∀(n:Nat) (f:Int),(mO s n f).1.length≤n
 | 0,f=>Nat.le_refl _
 | n+1,f=>by
   unfold mO
   cases ht:pO s f with
   | bad e p=>exact Nat.zero_le _
   | ok t =>
     show (if t.kind=0 then ([t],none) else _:List Tok×Option (Int×Int)).1.length≤n+1
     split
     ·exact Nat.succ_le_succ (Nat.zero_le _)
     ·exact Nat.succ_le_succ (tb s n _)
def PF.v(f:PF):Value:=.agg #[.int .i64 f.e,.int .i64 f.pos,.bool f.tok]
theorem yD(t:ByteArray)(ht:hU t)(I:b8)(F:bZ):cd P 52 #[.string t] I F fun e I' G=>∃(q:PQ) (b:Nat),q.c=oS t∧q.ok I'∧e=.returned (.pointer (some ⟨b,0,none⟩))∧G.Perm (q.cg b (fo t)::F):=by
 refine cd.keep (Q:=fun e I' G=>∃(q:PQ) (b:Nat) (A:bZ),q.c=oS t∧Acc 5 Tok.enc 145 q.a q.c.l.length q.cap q.c.l A∧q.c.l.length≤1000000∧e=.returned (.pointer (some ⟨b,0,none⟩))∧G.Perm (q.cg b (fo t)::(A++F))) ?_ fun e I' G w hl hs ⟨q,b,A,hc,hA,hle,he,hG⟩=>?_
 rotate_left
 ·obtain⟨J,h1,h2,h3⟩:=Acc.keep (z:=5) (f:=Tok.enc) (fun _=>rfl) hA (hs.perm (hG.trans (List.perm_append_comm_assoc [_] A F)))
  exact⟨J,_,h1,h2,q,b,hc,⟨h3,hle⟩,he,.refl _⟩
 refine jn.vc ?_
 unfold jn.V
 refine⟨fun h b=>?_,fun h=>?_⟩
 ·have h:(4096:Int)<t.size:=of_decide_eq_true h
  refine⟨⟨oS t,none,0⟩,b,[],rfl, ?_, ?_,rfl, ?_⟩
  ·unfold oS;rw[if_pos h];exact Acc.nil
  ·unfold oS;rw[if_pos h];decide
  ·unfold PQ.cg PQ.cl oS fo;rw[if_pos h,if_pos h];exact .refl _
 ·have h:¬(4096:Int)<t.size:=of_decide_eq_false h
  refine (xA ht (by omega) I F).mono fun e I1 G l1 ⟨a,n,c,A,he,hA,hG⟩=>?_
  subst hG
  have hn:=hA.1
  subst hn
  refine⟨_,_,_,_,_,he,A++F,.refl _,fun b=>?_⟩
  refine⟨⟨oS t,a,c⟩,b,A,rfl, ?_, ?_,rfl, ?_⟩
  ·unfold oS;rw[if_neg h];exact hA
  ·unfold oS;rw[if_neg h]
   show (oR t 0).1.length≤_
   have:=tb t ((t.size:Int)-0+1).toNat 0
   unfold oR
   omega
  ·unfold PQ.cg PQ.cl oS fo;rw[if_neg h,if_neg h];exact .refl _
theorem PQ.ED{q:PQ}{b:Nat}{s:PS}{I:b8}{G:bZ}(h:q.cg b s∈G):Rd I G ((⟨b,0,none⟩:Addr).add 4) [.int .i64 s.f.e,.int .i64 s.f.pos,.bool s.f.tok]:=by
 rw[iI]
 refine⟨rfl,_,_,_,.inr h,fun j hj=>?_⟩
 have:j=0∨j=1∨j=2:=by simp only[List.length_cons,List.length_nil] at hj;omega
 rcases this with rfl | rfl | rfl<;>rfl
def xI:cF:=⟨⟨#[]⟩,none,0,[],none,0,[],none,0,[]⟩
theorem rB(t:ByteArray)(ht:hU t)(I:b8)(F:bZ):cd P 29 #[.string t] I F fun e I' G=>∃x:cF,e=.returned (.tuple #[x.v,(kH t).2.v])∧x.p=(kH t).1∧x.Ok I' []∧G=F:=by
 refine cd.keep (Q:=fun e I' G=>∃(x:cF) (H:bZ),e=.returned (.tuple #[x.v,(kH t).2.v])∧x.p=(kH t).1∧x.Ok I' []∧G.Perm (H++F)) ?_ fun e I' G w hl hs ⟨x,H,he,hp,hok,hG⟩=>⟨I',F,b8.le_refl _,(hs.perm hG).drop,x,he,hp,hok,rfl⟩
 refine gg.vc ?_
 unfold gg.V
 intro b2 b3
 refine (yD t ht I _).mono fun e I1 G l1 ⟨q,b,hc,hq,he,hG⟩=>⟨_,he,q.cg b (fo t)::F,hG.trans cR.symm, ?_⟩
 have h0:(fo t).next≤q.c.l.length:=Nat.zero_le _
 refine (B3 b (fo t) I1 _ _ hq h0 cR).mono fun e I2 G2 l2 ⟨x,he,hp,hok,hG2⟩=>?_
 have hok:x.Ok I2 []:=hok
 refine⟨_,_,_,_,_,_,_,_,_,_,he,q.cg b (q.c.whole (fo t)).2::F,hG2.trans cR.symm,fun b_x=>?_⟩
 refine cd.ret (kJ (q:=q) (b:=b) (s:=(q.c.whole (fo t)).2) (.tail _ (.tail _ (.tail _ (.head _))))) fun I3 l3=>⟨_,rfl,q.cg b (q.c.whole (fo t)).2::F,.refl _,fun ho=>?_,fun ho=>?_⟩
 ·refine⟨_,rfl,_,_,_,PQ.ED (.head _),xI,[q.cg b (q.c.whole (fo t)).2], ?_, ?_,⟨fV.nil,fun x hx=>(by cases hx),fV.nil,fV.nil,fun x hx=>(by cases hx)⟩,.refl _⟩
  ·unfold kH;rw[←hc,if_pos ho];rfl
  ·unfold kH;rw[←hc,if_pos ho];rfl
 ·refine⟨x,[q.cg b (q.c.whole (fo t)).2], ?_, ?_,hok.mono l3 fun _ h=>h,.refl _⟩
  ·unfold kH;rw[←hc,if_neg (by simp[ho])];rfl
  ·unfold kH;rw[←hc,if_neg (by simp[ho])];exact hp
theorem xJ(t:ByteArray)(ht:hU t)(I:b8)(F:bZ):cd P 28 #[.string t] I F fun e I' G=>∃x:Nd,e=.returned (.tuple #[x.v,(kI t).2.v])∧x.px=(kI t).1∧cB I' [] x∧G=F:=by
 refine cd.keep (Q:=fun e I' G=>∃(x:Nd) (H:bZ),e=.returned (.tuple #[x.v,(kI t).2.v])∧x.px=(kI t).1∧cB I' [] x∧G.Perm (H++F)) ?_ fun e I' G w hl hs ⟨x,H,he,hp,hok,hG⟩=>⟨I',F,b8.le_refl _,(hs.perm hG).drop,x,he,hp,hok,rfl⟩
 refine kM.vc ?_
 unfold kM.V
 intro b2 b3
 refine (yD t ht I _).mono fun e I1 G l1 ⟨q,b,hc,hq,he,hG⟩=>⟨_,he,q.cg b (fo t)::F,hG.trans cR.symm, ?_⟩
 have h0:(fo t).next≤q.c.l.length:=Nat.zero_le _
 refine (pG b (fo t) I1 _ _ hq h0 cR).mono fun e I2 G2 l2 ⟨x,he,hp,hok,hG2⟩=>?_
 refine⟨_,_,_,_,_,_,_,_,_,_,he,q.cg b (q.c.fQ (fo t)).2::F,hG2.trans cR.symm,fun b_x=>?_⟩
 refine (A0 (hq.mono l2) (s:=(q.c.fQ (fo t)).2) pR).mono fun e I3 G3 l3 ⟨he,hG3⟩=>⟨he,q.cg b (q.c.end (q.c.fQ (fo t)).2)::F,hG3.trans pR.symm, ?_⟩
 refine cd.ret (kJ (q:=q) (b:=b) (s:=q.c.end (q.c.fQ (fo t)).2) (.tail _ (.tail _ (.tail _ (.head _))))) fun I4 l4=>⟨_,rfl,q.cg b (q.c.end (q.c.fQ (fo t)).2)::F,.refl _,fun ho=>?_,fun ho=>?_⟩
 ·refine⟨_,rfl,_,_,_,PQ.ED (.head _),gZ,[q.cg b (q.c.end (q.c.fQ (fo t)).2)], ?_, ?_,dc,.refl _⟩
  ·unfold kI;rw[←hc];show _=Ending.returned (.tuple #[gZ.v,(if (q.c.end (q.c.fQ (fo t)).2).over then (lC,(q.c.end (q.c.fQ (fo t)).2).f) else _:Px×PF).2.v]);rw[if_pos ho];rfl
  ·unfold kI;rw[←hc];show _=(if (q.c.end (q.c.fQ (fo t)).2).over then (lC,(q.c.end (q.c.fQ (fo t)).2).f) else _:Px×PF).1;rw[if_pos ho,hM]
 ·refine⟨x,[q.cg b (q.c.end (q.c.fQ (fo t)).2)], ?_, ?_,hok.up (b8.le_trans l3 l4),.refl _⟩
  ·unfold kI;rw[←hc];show _=Ending.returned (.tuple #[x.v,(if (q.c.end (q.c.fQ (fo t)).2).over then _ else ((q.c.fQ (fo t)).1,zF):Px×PF).2.v]);rw[if_neg (by simp[ho])];rfl
  ·unfold kI;rw[←hc];show _=(if (q.c.end (q.c.fQ (fo t)).2).over then _ else ((q.c.fQ (fo t)).1,zF):Px×PF).1;rw[if_neg (by simp[ho])];exact hp
structure TF where
 e:Int
 pos:Int
 of:Bool
def rC:TF:=⟨0,0,false⟩
def fR(t:Int):Bool:=decide (1≤t∧t≤4)
def lG(nm:ByteArray):List ByteArray→Int→Int
 | [],_=>-1
 | x::r,i=>if x.toList==nm.toList then i else lG nm r (i+1)
def cu.iZ(s:cu)(nm:ByteArray):Int:=lG nm (s.regs.map dF.name) 0
def cu.slot(s:cu)(nm:ByteArray):Int:=lG nm (s.slots.map dj.name) 0
def cu.room(s:cu)(nm:ByteArray):Int:=lG nm (s.states.map cC.name) 0
def cu.kG(s:cu)(i:Int):Int:=((s.regs[i.toNat]?).map dF.cp).getD 0
def fO(a b:Int):Int:=if a=1∧fR b then b else if b=1∧fR a then a else if a=3∧b=2∨a=2∧b=3 then 1 else 0
def rD(a b:Int):Int:=if fR a∧b=1 then a else if fR a∧a=b then 1 else 0
def jF(o a b:Int):Int×Bool :=
 if o=6∨o=7∨o=10∨o=4∨o=5 then (a,a==b&&fR a)
 else if o=8 then (fO a b,fO a b != 0)
 else if o=9 then (rD a b,rD a b != 0)
 else if o=11∨o=12 then (5,a==b)
 else if o=17∨o=18 then (5,a==b&&a==5)
 else (5,a==b&&fR a)
def A9:List Int:=[3,3,3,2,4,2]
def gQ(l:List Int)(i:Nat):Int:=(l[i]?).getD 0
def iS(s:cu)(x:Px)(l:List Int):Int×Bool :=
 if x.kind=1 then (x.cp,true)
 else if x.kind=2 then (s.kG (s.iZ x.name),true)
 else if x.kind=3 then (gQ A9 (x.field-1).toNat,true)
 else if x.kind=4 then (5,true)
 else if x.kind=7 then (gQ l 1,gQ l 0==5&&gQ l 1==gQ l 2)
 else if x.kind=9 then (x.cp,fR (gQ l 0))
 else if l.length=2 then jF x.oper (gQ l 0) (gQ l 1)
 else if x.oper=2 then (5,gQ l 0==5)
 else (gQ l 0,fR (gQ l 0))
def dR(s:cu)(x:Px)(l:List Int):Int×TF :=
 if x.kind=2∧s.iZ x.name<0 then (0,⟨151,x.pos,true⟩) else if (iS s x l).2 then ((iS s x l).1,rC) else (0,⟨152,x.pos,true⟩)
mutual
def typed(s:cu):Px→Int×TF
 | .mk k o t n f nm l q=>if (eF s l).2.e≠0 then (0,(eF s l).2) else dR s (.mk k o t n f nm l q) (eF s l).1
def eF(s:cu):List Px→List Int×TF
 | []=>([],rC)
 | x::r=>if (typed s x).2.e≠0 then ([],(typed s x).2) else ((typed s x).1::(eF s r).1,(eF s r).2)
end
theorem vP(s:cu)(x:Px):typed s x=if (eF s x.kids).2.e≠0 then (0,(eF s x.kids).2) else dR s x (eF s x.kids).1:=by cases x;rw[typed];rfl
theorem td{s:cu}:∀{l:List Px},(∀k∈l,(typed s k).2.e=0)→eF s l=(l.map fun k=>(typed s k).1,rC)
 | [],_=>by rw[eF];rfl
 | x::r,h=>by
   rw[eF,if_neg (by simpa using h x (List.mem_cons_self ..)),td fun k hk=>h k (List.mem_cons_of_mem _ hk)];rfl
theorem rE{s:cu}:∀{l:List Px} {i:Nat} {x:Px},(∀k∈l.take i,(typed s k).2.e=0)→l[i]? = some x→(typed s x).2.e≠0→(eF s l).2=(typed s x).2
 | y::r,0,x,_,hx,he=>by
   simp only[List.getElem?_cons_zero,Option.some.injEq] at hx
   subst hx
   rw[eF,if_pos he]
 | y::r,i+1,x,h,hx,he=>by
   rw[List.take_succ_cons] at h
   rw[eF,if_neg (by simpa using h y (List.mem_cons_self ..))]
   exact rE (fun k hk=>h k (List.mem_cons_of_mem _ hk)) (by simpa using hx) he
def typeOf(s:cu)(x:Px):Int×TF:=if x.dp≠0 then (0,⟨x.dp,0,true⟩) else typed s x
def dz{α:Type}(f:α→TF):List α→TF
 | []=>rC
 | x::r=>if (f x).e≠0 then f x else dz f r
def tY(s:cu):List dF→Int→TF
 | [],_=>rC
 | r::l,i=>if s.iZ r.name<i then ⟨150,r.pos,false⟩ else if (typed s r.init).1≠r.cp then ⟨152,r.pos,false⟩ else tY s l (i+1)
def rF(s:cu):List dj→Int→TF
 | [],_=>rC
 | r::l,i=>if s.slot r.name<i then ⟨150,r.pos,false⟩ else rF s l (i+1)
def oW(s:cu):List cC→Int→TF
 | [],_=>rC
 | r::l,i=>if s.room r.name<i then ⟨150,r.pos,false⟩ else oW s l (i+1)
def hZ(a b:TF):TF:=if a.e≠0 then a else b
def cu.named(s:cu):TF:=hZ (tY s s.regs 0) (hZ (rF s s.slots 0) (oW s s.states 0))
def ia(s:cu)(x:Px)(t:Int):TF:=if (typeOf s x).2.e≠0 then (typeOf s x).2 else if (typeOf s x).1≠t then ⟨152,x.pos,false⟩ else rC
def DS(s:cu)(d:dO):Int :=
 if d.kind=1 then (if d.name.toList=[] then 0 else s.slot d.name) else if d.kind=2∨d.kind=3 then s.slot d.name else if d.kind=4 then s.iZ d.name else if d.kind=5 then s.room d.name else 0
def Em(s:cu)(d:dO):List TF :=
 (if d.kind=1 then [ia s d.side 6] else [])++((if d.kind=1∨d.kind=2 then [ia s d.qty 2] else [])++((if d.kind=1∧d.order≠2∨d.kind=2 then [ia s d.price 3] else [])++(if d.kind=4 then [ia s d.value (s.kG (DS s d))] else [])))
def Ba(s:cu)(d:dO):TF:=if DS s d<0 then ⟨151,d.pos,false⟩ else dz id (Em s d)
def xK(s:cu):List dO→Bool→TF
 | [],_=>rC
 | d::l,last=>if last then ⟨153,d.pos,false⟩ else if (Ba s d).e≠0 then Ba s d else xK s l (decide (d.kind=5∨d.kind=6))
def lH(s:cu)(r:cL):TF:=hZ (ia s r.when 5) (xK s r.dos false)
def cu.types(s:cu):TF:=if s.check≠0 then ⟨s.check,0,false⟩ else hZ s.named (dz (fun x=>dz (lH s) x.rules) s.states)
theorem eA{x:Px}(h:x.formed=true):x.vf=true∧x.kids.length=x.arity:=by
 rw[Px.dY,Bool.and_eq_true] at h
 have h1:=h.1
 unfold Px.fT at h1
 simp only[Bool.and_eq_true,decide_eq_true_eq] at h1
 exact⟨h1.1.1,h1.2⟩
theorem tZ{x:Px}(h:x.formed=true)(hk:x.kind=3):1≤x.field∧x.field≤6:=by
 have h1:=(eA h).1
 unfold Px.vf at h1
 rw[if_neg (by omega),if_neg (by omega),if_pos hk] at h1
 simpa using h1
theorem vQ{x:Px}(h:x.formed=true)(hk:x.kind=7):x.kids.length=3:=by
 have h1:=(eA h).2
 unfold Px.arity at h1
 rw[if_neg (by omega),if_neg (by omega),if_pos hk] at h1
 exact h1
theorem vR{x:Px}(h:x.formed=true)(hk:x.kind=9):x.kids.length=1:=by
 have h1:=(eA h).2
 unfold Px.arity at h1
 rw[if_pos (by omega)] at h1
 exact h1
theorem vS{x:Px}(h:x.formed=true)(h1:x.kind≠1)(h2:x.kind≠2)(h3:x.kind≠3)(h4:x.kind≠4)(h7:x.kind≠7)(h9:x.kind≠9):x.kids.length=1∨x.kids.length=2:=by
 obtain⟨g1,g2⟩:=eA h
 unfold Px.vf at g1
 rw[if_neg h1,if_neg h2,if_neg h3,if_neg h4] at g1
 unfold Px.arity at g2
 by_cases k5:x.kind=5
 ·rw[if_pos (.inl k5)] at g2;exact .inl g2
 ·by_cases k6:x.kind=6
  ·rw[if_neg (by omega),if_pos k6] at g2;exact .inr g2
  ·by_cases k8:x.kind=8
   ·rw[if_neg (by omega),if_neg k6,if_neg h7,if_pos k8] at g2
    split at g2
    ·exact .inl g2
    ·exact .inr g2
   ·rw[if_neg k5,if_neg k6,if_neg h7,if_neg k8,if_neg h9] at g1
    cases g1
def dO.fp(d:dO):Prop:=Small d.oh
def cL.fp(r:cL):Prop:=r.when.size≤1048576∧r.dos.length≤1048576∧∀d∈r.dos,d.fp
def cC.fp(x:cC):Prop:=x.rules.length≤1048576∧∀r∈x.rules,r.fp
def rG{α:Type}(f:α→Int):List α→Int
 | []=>0
 | x::r=>f x+rG f r
theorem jq{α:Type}{f:α→Int}(h:∀x,0≤f x):∀l,0≤rG f l
 | []=>Int.le_refl _
 | x::r=>by have:=jq h r;have:=h x;rw[rG];omega
theorem lI{α:Type}{f:α→Int}(h:∀x,1≤f x):∀l:List α,(l.length:Int)≤rG f l
 | []=>Int.le_refl _
 | x::r=>by have:=lI h r;have:=h x;rw[rG,List.length_cons];omega
theorem lJ{α:Type}{f:α→Int}(h:∀x,0≤f x):∀{l:List α} {x:α},x∈l→f x≤rG f l
 | y::r,x,hx=>by
   have h1:=jq h r
   have h2:=h y
   rw[rG]
   rcases List.mem_cons.1 hx with rfl | hx
   ·omega
   ·have:=lJ h hx;omega
def dO.gR(d:dO):Int:=1+d.side.size+d.qty.size+d.price.size+d.value.size
def cL.gR(r:cL):Int:=1+r.when.size+rG dO.gR r.dos
def cC.gR(x:cC):Int:=1+rG cL.gR x.rules
def dF.gR(r:dF):Int:=1+r.init.size
def cu.gR(s:cu):Int:=rG dF.gR s.regs+s.slots.length+rG cC.gR s.states
theorem dO.dZ(d:dO):1≤d.gR:=by
 have q1:=Px.size_pos d.side
 have q2:=Px.size_pos d.qty
 have q3:=Px.size_pos d.price
 have q4:=Px.size_pos d.value
 unfold dO.gR;omega
theorem cL.dZ(r:cL):1≤r.gR:=by
 have q1:=Px.size_pos r.when
 have q2:=jq (fun x=>Int.le_trans (by decide) (dO.dZ x)) r.dos
 unfold cL.gR;omega
theorem cC.dZ(x:cC):1≤x.gR:=by
 have q2:=jq (fun x=>Int.le_trans (by decide) (cL.dZ x)) x.rules
 unfold cC.gR;omega
theorem dF.dZ(r:dF):1≤r.gR:=by
 have q1:=Px.size_pos r.init
 unfold dF.gR;omega
structure cu.fp (s:cu):Prop where
 regs:s.regs.length≤1048576
 iZ:∀r∈s.regs,r.init.size≤1048576
 slots:s.slots.length≤1048576
 states:s.states.length≤1048576
 state:∀x∈s.states,x.fp
 all:s.gR≤1048576
theorem dO.pH{d:dO}(h:d.gR≤1048576):d.fp:=fun x hx=>by
 have q1:=Px.size_pos d.side
 have q2:=Px.size_pos d.qty
 have q3:=Px.size_pos d.price
 have q4:=Px.size_pos d.value
 unfold dO.gR at h
 simp only[dO.oh,List.mem_cons,List.not_mem_nil,or_false] at hx
 rcases hx with rfl | rfl | rfl | rfl<;>omega
theorem cL.pH{r:cL}(h:r.gR≤1048576):r.fp:=by
 have q1:=Px.size_pos r.when
 have q2:=lI dO.dZ r.dos
 unfold cL.gR at h
 refine⟨by omega,by omega,fun d hd=>dO.pH ?_⟩
 have:=lJ (fun x=>Int.le_trans (by decide) (dO.dZ x)) hd
 omega
theorem cC.pH{x:cC}(h:x.gR≤1048576):x.fp:=by
 have q2:=lI cL.dZ x.rules
 unfold cC.gR at h
 refine⟨by omega,fun d hd=>cL.pH ?_⟩
 have:=lJ (fun x=>Int.le_trans (by decide) (cL.dZ x)) hd
 omega
theorem cu.pH{s:cu}(h:s.gR≤1048576):s.fp:=by
 have h':=h
 have q1:=lI dF.dZ s.regs
 have q2:=lI cC.dZ s.states
 unfold cu.gR at h
 refine⟨by omega,fun r hr=>?_,by omega,by omega,fun x hx=>cC.pH ?_,h'⟩
 ·have:=lJ (fun x=>Int.le_trans (by decide) (dF.dZ x)) hr
  have hm:r.gR=1+r.init.size:=rfl
  omega
 ·have:=lJ (fun x=>Int.le_trans (by decide) (cC.dZ x)) hx
  omega
theorem cu.fp.small{s:cu}(h:s.fp):Small s.oh:=fun x hx=>by
 simp only[cu.oh,List.mem_append,List.mem_map,List.mem_flatMap] at hx
 rcases hx with ⟨r,hr,rfl⟩ | ⟨y,hy,r,hr,hx⟩
 ·exact h.iZ r hr
 ·obtain⟨_,h1⟩:=h.state y hy
  obtain⟨h2,_,h3⟩:=h1 r hr
  unfold cL.oh at hx
  rcases List.mem_cons.1 hx with rfl | hx
  ·exact h2
  ·obtain⟨d,hd,hx⟩:=List.mem_flatMap.1 hx
   exact h3 d hd x hx
theorem cu.fp.lens{s:cF}(h:s.p.fp):s.BX:=by
 have l1:=h.regs
 have l2:=h.slots
 have l3:=h.states
 simp only[cF.p,List.length_map] at l1 l2 l3
 refine⟨by omega,by omega,by omega,fun x hx=>?_,fun x hx r hr=>?_⟩
 ·have:=(h.state x.p (List.mem_map_of_mem hx)).1
  simp only[cm.p,List.length_map] at this
  omega
 ·have:=((h.state x.p (List.mem_map_of_mem hx)).2 r.p (List.mem_map_of_mem hr)).2.1
  simp only[cx.p,List.length_map] at this
  omega
structure cu.nu (s:cu):Prop where
 regs:s.regs.length≤1048576
 iZ:∀r∈s.regs,r.init.size≤1048576
 slots:s.slots.length≤1048576
 states:s.states.length≤1048576
 state:∀x∈s.states,x.fp
theorem cu.fp.thin{s:cu}(h:s.fp):s.nu:=⟨h.regs,h.iZ,h.slots,h.states,h.state⟩
theorem cu.nu.small{s:cu}(h:s.nu):Small s.oh:=fun x hx=>by
 simp only[cu.oh,List.mem_append,List.mem_map,List.mem_flatMap] at hx
 rcases hx with ⟨r,hr,rfl⟩ | ⟨y,hy,r,hr,hx⟩
 ·exact h.iZ r hr
 ·obtain⟨_,h1⟩:=h.state y hy
  obtain⟨h2,_,h3⟩:=h1 r hr
  unfold cL.oh at hx
  rcases List.mem_cons.1 hx with rfl | hx
  ·exact h2
  ·obtain⟨d,hd,hx⟩:=List.mem_flatMap.1 hx
   exact h3 d hd x hx
theorem cu.nu.lens{s:cF}(h:s.p.nu):s.BX:=by
 have l1:=h.regs
 have l2:=h.slots
 have l3:=h.states
 simp only[cF.p,List.length_map] at l1 l2 l3
 refine⟨by omega,by omega,by omega,fun x hx=>?_,fun x hx r hr=>?_⟩
 ·have:=(h.state x.p (List.mem_map_of_mem hx)).1
  simp only[cm.p,List.length_map] at this
  omega
 ·have:=((h.state x.p (List.mem_map_of_mem hx)).2 r.p (List.mem_map_of_mem hr)).2.1
  simp only[cx.p,List.length_map] at this
  omega
theorem vT{α:Type}{l:List α}{i:Nat}{x:α}{p:α→Prop}(hx:l[i]? = some x)(h:∀y∈l.take i,p y)(hp:p x):∀y∈l.take (i+1),p y:=by
 obtain⟨hi,rfl⟩:=List.getElem?_eq_some_iff.1 hx
 intro y hy
 rw[List.take_succ_eq_append_getElem hi] at hy
 rcases List.mem_append.1 hy with hy | hy
 ·exact h y hy
 ·rw[List.mem_singleton] at hy;rw[hy];exact hp
end Go.Lx
namespace Go.Vc
end Go.Vc
namespace Go.Lx
open Go.Vc
namespace Px
mutual
def same:Px→Px→Bool
 | .mk k o t n f s l q,y=>q==y.pos&&(BQ (.mk k o t n f s l q) y&&(decide (l.length=y.kids.length)&&Cz l y.kids))
def Cz:List Px→List Px→Bool
 | [],_=>true
 | _::_,[]=>false
 | x::r,y::r'=>same x y&&Cz r r'
end
end Px
def Part{α:Type}(z:Nat)(f:α→List Value)(E:Nat)(O:α→bZ→Prop)(a:Option Addr)(n c:Nat)(l:List α)(F F':bZ):Prop :=
 ∃A hs,Acc z f E a n c l A∧(∀(i:Nat) (k:α),l[i]? = some k→O k (hs i))∧F'.Perm (A++(DG l.length hs++F))
theorem Bb{x:Px}(h:decide (x.kU 0 0>1048576)=false):x.size≤1048576:=by
 have h:=of_decide_eq_false h
 have:=Px.xd x 0 0 (by omega)
 omega
theorem zP{α β:Type}{g:α→β}{l:List α}{i:Nat}{x:α}(hx:l[i]? = some x):(l.take (i+1)).map g=(l.take i).map g++[g x]:=by
 obtain⟨hk,rfl⟩:=List.getElem?_eq_some_iff.1 hx
 rw[List.take_succ_eq_append_getElem hk,List.map_append];rfl
theorem Bc{s:cu}{x:Px}(h:∀k∈x.kids,(typed s k).2.e=0):typed s x=dR s x (x.kids.map fun k=>(typed s k).1):=by
 rw[vP,td h,if_neg fun h=>h rfl]
theorem zQ{s:cu}{x k:Px}{i:Nat}(h:∀k∈x.kids.take i,(typed s k).2.e=0)(hk:x.kids[i]? = some k)(he:(typed s k).2.e≠0):typed s x=(0,(typed s k).2):=by
 rw[vP,rE h hk he,if_pos he]
theorem jG{x:Px}(h:x.dp=0):x.formed=true:=by
 unfold Px.dp at h
 split at h
 ·assumption
 ·cases h
section
variable (s:cF) (hl:s.p.nu) {I:b8} {F:bZ} (hok:s.Ok I F)
include hl hok
end
end Go.Lx
namespace Go.Lx
open Go.Vc
section
variable (s:cF) (hl:s.p.nu) {I:b8} {F:bZ} (hok:s.Ok I F)
include hl hok
end
end Go.Lx
namespace Go.Lx
open Go.Vc
theorem ua(a:TF)(h:a.e=0)(b:TF):hZ a b=b:=by unfold hZ;rw[if_neg (by simpa using h)]
theorem p8(a:TF)(h:a.e≠0)(b:TF):hZ a b=a:=by unfold hZ;rw[if_pos h]
theorem cr{a b:Int}(h:cj a b=0):a=0∧b=0:=by
 unfold cj at h
 split at h
 ·rename_i h0;exact⟨h0,h⟩
 ·rename_i h0;exact absurd h h0
theorem gS{α:Type}{f:α→Int}:∀{l:List α},c7 f l=0→∀x∈l,f x=0
 | [],_,x,hx=>by cases hx
 | y::r,h,x,hx=>by
   rw[c7] at h
   obtain⟨h1,h2⟩:=cr h
   rcases List.mem_cons.1 hx with rfl | hx
   ·exact h1
   ·exact gS h2 x hx
theorem nv{b:Bool}{n:Int}(hn:n≠0)(h:cX b n=0):b=true:=by
 unfold cX at h
 split at h
 ·assumption
 ·exact absurd h hn
theorem xL{s:cu}(h:s.check=0):∀r∈s.regs,r.init.formed=true:=by
 unfold cu.check at h
 obtain⟨_,h⟩:=cr h
 obtain⟨_,h⟩:=cr h
 obtain⟨h,_⟩:=cr h
 intro r hr
 have h1:=nv (by decide) (gS h r hr)
 simp only[Bool.and_eq_true] at h1
 exact h1.2.2.1
section
variable (s:cF) (hl:s.p.nu) {I:b8} {F:bZ} (hok:s.Ok I F)
include hl hok
end
end Go.Lx
namespace Go.Lx
open Go.Vc Go.Proofs.Tryz
def gB:List (Nat×List Sh):=[(3,[.one (.int .i64)]),(4,[.one .bool]),(24,[.one (.int .u8)]),(28,[.agg [(.int .u8),(.int .u8),(.int .u8),(.int .i64),(.int .u8),.str,.slc,(.int .i64)]]),(44,[.one .any]),(47,[.one (.int .i64)]),(65,[.agg [.str,.slc,(.int .i64)]]),(77,[.agg [.str,(.int .u8),(.int .u8),(.int .u8),(.int .u8),(.int .i64),(.int .u8),.str,.slc,(.int .i64),(.int .i64)]]),(79,[.agg [.str,(.int .i64)]]),(84,[.agg [(.int .u8),(.int .u8),(.int .u8),(.int .i64),(.int .u8),.str,.slc,(.int .i64),.slc,(.int .i64)]]),(89,[.one .ptr]),(96,[.one (.int .u8)]),(99,[.agg [(.int .u8),(.int .u8),.str,(.int .u8),(.int .u8),(.int .u8),(.int .i64),(.int .u8),.str,.slc,(.int .i64),(.int .u8),(.int .u8),(.int .u8),(.int .i64),(.int .u8),.str,.slc,(.int .i64),(.int .u8),(.int .u8),(.int .u8),(.int .i64),(.int .u8),.str,.slc,(.int .i64),(.int .u8),(.int .u8),(.int .u8),(.int .i64),(.int .u8),.str,.slc,(.int .i64),(.int .i64)]]),(113,[.one .ptr]),(161,[.one .map]),(162,[.one .map]),(165,[.one (.int .u8),.one .bool]),(166,[.one (.int .u8),.one .any]),(208,[.one .slc]),(210,[.agg [(.int .u8),(.int .u8),(.int .u8),(.int .i64),(.int .u8),.str,.slc,(.int .i64),(.int .u8)]])]
def kO.V(t:Int)(I:b8)(F:bZ)(Q:cc)  : Prop:=(Dt (1≤t) (Q (.returned (.bool (decide (t≤4)))) I F) (Q (.returned (.bool false)) I F))
theorem kO.vc{t:Int}{I:b8}{F:bZ}{Q:cc}  (h:kO.V t I F Q):cd P 151 #[.int .u8 t] I F Q :=
 tw (A:=(an [1001] [] gB)) [] func151 h
def jr.V(f g h i j:Int)(k:Bs)(c:OA)(d e:Nat)(a e1:Int)(I:b8)(F:bZ)(Q:cc)  : Prop:=∀l:Nat,∀b:Nat,Q (.returned (.tuple #[.int .u8 0,Value.iface 89 (.pointer (some (⟨b,0,none⟩:Addr)))])) I (((b,Obj.cells #[.string (⟨#[79,102]⟩:Bs),.int .i64 a,Value.iface 47 (.int .i64 e1)] 93 (0,0))::F))
theorem jr.vc{d e f g i:Int}{j:Bs}{a:OA}{b c:Nat}{k e1:Int}{I:b8}{F:bZ}{Q:cc}  (h:jr.V d e f g i j a b c k e1 I F Q):cd P 136 #[.agg #[.int .u8 d,.int .u8 e,.int .u8 f,.int .i64 g,.int .u8 i,.string j,.slice a b c,.int .i64 k],.int .i64 e1] I F Q :=
 tw (A:=(cO [] [] [] gB [] [] [1005] [] [] [(1,[0,2,3,7,1,4,5,6,8])] [])) [] func136 h
def iw.V(c:Nat→Nat×Obj)(vb:Int→Value)(vt:Bool→Value)(e b f j k:Int)(l:Bs)(g:OA)(h i:Nat)(m a:Int)(I:b8)(F:bZ)(Q:cc)  : Prop:=∀d:Nat,(It (e==9) (cJ P 151 #[vb a] I ((c d)::·) F vt fun r I1 F1=>(It r (Q (.returned (vb f)) I1 F1) (It (e==9) (Q (.returned (vb 0)) I1 F1) (It (b==2) (It (a==5) (Q (.returned (vb a)) I1 F1) (It (b != 2) (cJ P 151 #[vb a] I1 ((c d)::·) F1 vt fun r1 I2 F2=>(It r1 (Q (.returned (vb a)) I2 F2) (Q (.returned (vb 0)) I2 F2))) (Q (.returned (vb 0)) I1 F1))) (It (b != 2) (cJ P 151 #[vb a] I1 ((c d)::·) F1 vt fun r2 I3 F3=>(It r2 (Q (.returned (vb a)) I3 F3) (Q (.returned (vb 0)) I3 F3))) (Q (.returned (vb 0)) I1 F1)))))) (It (e==9) (Q (.returned (vb 0)) I F) (It (b==2) (It (a==5) (Q (.returned (vb a)) I F) (It (b != 2) (cJ P 151 #[vb a] I ((c d)::·) F vt fun r3 I4 F4=>(It r3 (Q (.returned (vb a)) I4 F4) (Q (.returned (vb 0)) I4 F4))) (Q (.returned (vb 0)) I F))) (It (b != 2) (cJ P 151 #[vb a] I ((c d)::·) F vt fun r4 I5 F5=>(It r4 (Q (.returned (vb a)) I5 F5) (Q (.returned (vb 0)) I5 F5))) (Q (.returned (vb 0)) I F)))))
theorem iw.vc{f g i j k:Int}{l:Bs}{c:OA}{d e:Nat}{m a:Int}{I:b8}{F:bZ}{Q:cc}  (h:iw.V (fun b=>(b,Obj.cells #[.int .u8 f,.int .u8 g,.int .u8 i,.int .i64 j,.int .u8 k,.string l,.slice c d e,.int .i64 m] 28 (0,0))) (.int .u8) .bool f g i j k l c d e m a I F Q):cd P 134 #[.agg #[.int .u8 f,.int .u8 g,.int .u8 i,.int .i64 j,.int .u8 k,.string l,.slice c d e,.int .i64 m],.int .u8 a] I F Q :=
 tw (A:=(an [1002,1005,3002,4002,4005,5002,5005] [151] gB)) [151] func134 h
def ix.V(vb:Int→Value)(vt:Bool→Value)(o a b:Int)(I:b8)(F:bZ)(Q:cc)  : Prop:=(It (o==8) (It (a==1) (cJ P 151 #[vb b] I (·) F vt fun r I1 F1=>Q (.returned (.tuple #[vb b,vt r])) I1 F1) (It (b==1) (cJ P 151 #[vb a] I (·) F vt fun r1 I2 F2=>Q (.returned (.tuple #[vb a,vt r1])) I2 F2) (It (a != b) (It ((IntKind.wrap .u8 (a+b))==5) (cJ P 151 #[vb a] I (·) F vt fun r2 I3 F3=>(It r2 (cJ P 151 #[vb b] I3 (·) F3 vt fun r3 I4 F4=>Q (.returned (.tuple #[vb 1,vt r3])) I4 F4) (Q (.returned (.tuple #[vb 1,vt false])) I3 F3))) (Q (.returned (.tuple #[vb 1,vt false])) I F)) (Q (.returned (.tuple #[vb 1,vt false])) I F)))) (It (o==9) (It (b==1) (cJ P 151 #[vb a] I (·) F vt fun r4 I5 F5=>Q (.returned (.tuple #[vb a,vt r4])) I5 F5) (It (a==b) (cJ P 151 #[vb a] I (·) F vt fun r5 I6 F6=>Q (.returned (.tuple #[vb 1,vt r5])) I6 F6) (Q (.returned (.tuple #[vb 1,vt false])) I F))) (It (o==11) (Q (.returned (.tuple #[vb 5,vt (a==b)])) I F) (It (o==12) (Q (.returned (.tuple #[vb 5,vt (a==b)])) I F) (It (o==17) (It (a==b) (Q (.returned (.tuple #[vb a,vt (a==5)])) I F) (Q (.returned (.tuple #[vb a,vt false])) I F)) (It (o==18) (It (a==b) (Q (.returned (.tuple #[vb a,vt (a==5)])) I F) (Q (.returned (.tuple #[vb a,vt false])) I F)) (It (o==13) (It (a==b) (cJ P 151 #[vb a] I (·) F vt fun r6 I7 F7=>Q (.returned (.tuple #[vb 5,vt r6])) I7 F7) (Q (.returned (.tuple #[vb 5,vt false])) I F)) (It (o==14) (It (a==b) (cJ P 151 #[vb a] I (·) F vt fun r7 I8 F8=>Q (.returned (.tuple #[vb 5,vt r7])) I8 F8) (Q (.returned (.tuple #[vb 5,vt false])) I F)) (It (o==15) (It (a==b) (cJ P 151 #[vb a] I (·) F vt fun r8 I9 F9=>Q (.returned (.tuple #[vb 5,vt r8])) I9 F9) (Q (.returned (.tuple #[vb 5,vt false])) I F)) (It (o==16) (It (a==b) (cJ P 151 #[vb a] I (·) F vt fun r9 I10 F10=>Q (.returned (.tuple #[vb 5,vt r9])) I10 F10) (Q (.returned (.tuple #[vb 5,vt false])) I F)) (It (a==b) (cJ P 151 #[vb a] I (·) F vt fun c I11 F11=>Q (.returned (.tuple #[vb a,vt c])) I11 F11) (Q (.returned (.tuple #[vb a,vt false])) I F))))))))))))
theorem ix.vc{o a b:Int}{I:b8}{F:bZ}{Q:cc}  (h:ix.V (.int .u8) .bool o a b I F Q):cd P 135 #[.int .u8 o,.int .u8 a,.int .u8 b] I F Q :=
 tw (A:=(an [2000,3001,5001,7002,7007,7011,8000,9001,11002,12000,13000,15000,16000,17003,18000,19000,20000,21000,22002,23003] [151] gB)) [151] func135 h
def fA.V(ka:Nat→Bs→Int→Int→Int→Int→Int→Int→Bs→OA→Nat→Nat→Int→Int→Nat×Obj)(kb:Nat→(Option Nat)→(Option Nat)→(Option Nat)→Nat×Obj)(c:Nat→Nat×Obj)(vb vi:Int→Value)(vs:Bs→Value)(vl:OA→Nat→Nat→Value)(ai:Bs)(w:OA)(t aa:Nat)(ab:OA)(ac ae:Nat)(af:OA)(ag ah:Nat)(I:b8)(F:bZ)(Q:cc)(Inv8:OA→OA→Int→Nat→b8→bZ→b8→bZ→Prop):Prop:=∀a:Nat,cG P (Instr.makeMap 161 none) I ((c a)::F) fun v I1 G1=>∃(r:Option Nat),v=.map r∧∃F1:bZ,List.Perm G1 ((c a)::F1)∧cG P (Instr.makeMap 162 none) I1 ((c a)::F1) fun v1 I2 G2=>∃(r1:Option Nat),v1=.map r1∧∃F2:bZ,List.Perm G2 ((c a)::F2)∧cG P (Instr.makeMap 162 none) I2 ((c a)::F2) fun v2 I3 G3=>∃(r2:Option Nat),v2=.map r2∧∃F3:bZ,List.Perm G3 ((c a)::F3)∧∀b:Nat,(∃m:Nat,Inv8 (some ⟨a,0,none⟩) (some (⟨b,0,none⟩:Addr)) 0 m I3 ((kb b r r1 r2)::F3) I3 ((kb b r r1 r2)::F3))∧∀(x:Int) (m1:Nat) (I4:b8) (F4:bZ),b8.le I3 I4→Inv8 (some ⟨a,0,none⟩) (some (⟨b,0,none⟩:Addr)) x m1 I3 ((kb b r r1 r2)::F3) I4 F4→(Dt (x<(t:Int)) ((0≤x∧x<(t:Int))∧∃ad:Addr,w=some ad∧∃(h:Bs) (i j k l n o:Int) (p:Bs) (d:OA) (e f:Nat) (q g:Int),Rd I4 ((c a)::F4) (ad.add (Int.toNat x*11)) [vs h,vb i,vb j,vb k,vb l,vi n,vb o,vs p,vl d e f,vi q,vi g]∧∀s:Nat,∃y:Addr,some (⟨b,0,none⟩:Addr)=some y∧∃(m2:Option Nat),Rd I4 ((c a)::(ka s h i j k l n o p d e f q g)::F4) (y.add 0) [.map m2]∧cG P (Instr.lookup 161 (.map m2) (vs h) true) I4 ((c a)::(ka s h i j k l n o p d e f q g)::F4) fun v3 I5 G4=>∃(r0:Int) (u:Bool),v3=.tuple #[vb r0,.bool u]∧∃F5:bZ,List.Perm G4 ((c a)::(ka s h i j k l n o p d e f q g)::F5)∧(It (!u) (∃z:Addr,some (⟨b,0,none⟩:Addr)=some z∧∃(m3:Option Nat),Rd I5 ((c a)::(ka s h i j k l n o p d e f q g)::F5) (z.add 0) [.map m3]∧jJ P (Instr.mapUpdate 161 (.map m3) (vs h) (vb i)) I5 ((c a)::(ka s h i j k l n o p d e f q g)::F5) fun I6 G5=>∃F6:bZ,List.Perm G5 ((c a)::(ka s h i j k l n o p d e f q g)::F6)∧(∃m4:Nat,m4<m1∧Inv8 (some ⟨a,0,none⟩) (some (⟨b,0,none⟩:Addr)) (IntKind.wrap .i64 (x+1)) m4 I3 ((kb b r r1 r2)::F3) I6 F6)) (∃m5:Nat,m5<m1∧Inv8 (some ⟨a,0,none⟩) (some (⟨b,0,none⟩:Addr)) (IntKind.wrap .i64 (x+1)) m5 I3 ((kb b r r1 r2)::F3) I5 F5))) (Q (.returned (.pointer (some (⟨b,0,none⟩:Addr)))) I4 F4))
theorem fA.vc{w:Bs}{n:OA}{o p:Nat}{q:OA}{r s:Nat}{t:OA}{u v:Nat}{I:b8}{F:bZ}{Q:cc}(Inv8:OA→OA→Int→Nat→b8→bZ→b8→bZ→Prop)(h:fA.V (fun W a b c d e f g h i j k l m=>(W,Obj.cells #[.string a,.int .u8 b,.int .u8 c,.int .u8 d,.int .u8 e,.int .i64 f,.int .u8 g,.string h,.slice i j k,.int .i64 l,.int .i64 m] 77 (0,0))) (fun W a b c=>(W,Obj.cells #[.map a,.map b,.map c] 164 (0,0))) (fun b=>(b,Obj.cells #[.string w,.slice n o p,.slice q r s,.slice t u v] 39 (0,0))) (.int .u8) (.int .i64) .string .slice w n o p q r s t u v I F Q Inv8):cd P 66 #[.agg #[.string w,.slice n o p,.slice q r s,.slice t u v]] I F Q :=
 tw (A:=(cO [3000,6001] [] [] gB [(8,⟨[(16,(.int .i64))],[],fun fs I0 F0 vs m I F=>match fs,vs with | [.pointer y0,.pointer y1],[.int _ y2]=>Inv8 y0 y1 y2 m I0 F0 I F | _,_=>False,[1,3],[]⟩)] [] [1004] [] [] [(5,[0,1,2,4,3,5,6,7,8,9,10,11]),(7,[0,1,2,4,6,3,5,7,8])] [])) [] func66 h
def eC.V(vp:OA→Value)(c:Int)(et:TypeId)(ev:Value)(I:b8)(F:bZ)(Q:cc)  : Prop:=∀a:Nat,cd P 44 (#[Value.iface et ev,Value.iface 91 (vp (some (⟨a,0,none⟩:Addr)))]) I (((a,Obj.cells #[vp none] 89 (0,0))::F)) fun e1 I1 G1=>∃(r:Bool),e1=.returned (.bool r)∧∃F1:bZ,List.Perm G1 F1∧(It r (∃(m:OA),Rd I1 F1 (⟨a,0,none⟩:Addr) [vp m]∧∃ad:Addr,m=some ad∧∃(m1:Int),Rd I1 F1 (ad.add 1) [.int .i64 m1]∧∀b:Nat,Q (.returned (Value.iface 89 (vp (some (⟨b,0,none⟩:Addr))))) I1 (((b,Obj.cells #[.string (⟨#[67,104,101,99,107]⟩:Bs),.int .i64 m1,Value.iface et ev] 93 (0,0))::F1))) (∀b1:Nat,Q (.returned (Value.iface 89 (vp (some (⟨b1,0,none⟩:Addr))))) I1 (((b1,Obj.cells #[.string (⟨#[67,104,101,99,107]⟩:Bs),.int .i64 c,Value.iface et ev] 93 (0,0))::F1))))
theorem eC.vc{a:Int}{et:TypeId}{ev:Value}{I:b8}{F:bZ}{Q:cc}  (h:eC.V .pointer a et ev I F Q):cd P 65 #[.int .i64 a,Value.iface et ev] I F Q :=
 tw (A:=(cO [2002] [] [44] gB [] [] [1000,4003] [] [] [] [])) [44] func65 h
def js.V(b:Nat→Nat×Obj)(vb vi:Int→Value)(vs:Bs→Value)(vl:OA→Nat→Nat→Value)(aj:Bs)(o:OA)(p s:Nat)(t:OA)(u v:Nat)(f:OA)(d w:Nat)(I:b8)(F:bZ)(Q:cc)(Inv28:OA→Value→Int→Nat→b8→bZ→b8→bZ→Prop)(Inv42:OA→Int→Value→Int→Nat→b8→bZ→b8→bZ→Prop):Prop:=∀c:Nat,cJ P 64 #[.agg #[vs aj,vl o p s,vl t u v,vl f d w]] I ((b c)::·) F vi fun r I1 F1=>(It (r != 0) (de P 65 (#[vi 0,Value.iface 47 (vi r)]) I1 ((b c)::·) F1 fun e2 I2 G2=>∃(r1:Value),e2=.returned r1∧G2 fun F2=>Q (.returned r1) I2 F2) (cJ P 66 #[.agg #[vs aj,vl o p s,vl t u v,vl f d w]] I1 ((b c)::·) F1 .pointer fun r2 I3 F3=>de P 67 #[.pointer r2,.agg #[vs aj,vl o p s,vl t u v,vl f d w]] I3 ((b c)::·) F3 fun e4 I4 G4=>∃(r3:Value),e4=.returned r3∧G4 fun F4=>∃q:Bool,cP P .neq 44 (.tmp 23) (.const (Value.nilIface)) r3 Value.nilIface q∧(It q (Q (.returned r3) I4 F4) ((∃m:Nat,Inv28 r2 Value.nilIface 0 m I4 F4 I4 F4)∧∀(x:Value) (x1:Int) (m1:Nat) (I5:b8) (F5:bZ),b8.le I4 I5→Inv28 r2 x x1 m1 I4 F4 I5 F5→(Dt (x1<(d:Int)) ((0≤x1∧x1<(d:Int))∧∃ad:Addr,f=some ad∧∃(aa:Bs) (e:OA) (a g:Nat) (ab:Int),Rd I5 ((b c)::F5) (ad.add (Int.toNat x1*3)) [vs aa,vl e a g,vi ab]∧∀ak:Nat,(∃m2:Nat,Inv42 r2 x1 x 0 m2 I5 F5 I5 F5)∧∀(x2:Value) (x3:Int) (m3:Nat) (I6:b8) (F6:bZ),b8.le I5 I6→Inv42 r2 x1 x2 x3 m3 I5 F5 I6 F6→(Dt (x3<(a:Int)) ((0≤x3∧x3<(a:Int))∧∃al:Addr,e=some al∧∃(y ac z ae af:Int) (ag:Bs) (h:OA) (i j:Nat) (ah:Int) (k:OA) (l n:Nat) (ai:Int),Rd I6 ((b c)::(ak,Obj.cells #[vs aa,vl e a g,vi ab] 65 (0,0))::F6) (al.add (Int.toNat x3*10)) [vb y,vb ac,vb z,vi ae,vb af,vs ag,vl h i j,vi ah,vl k l n,vi ai]∧∀am:Nat,de P 68 #[.pointer r2,.agg #[vb y,vb ac,vb z,vi ae,vb af,vs ag,vl h i j,vi ah,vl k l n,vi ai]] I6 ((b c)::(ak,Obj.cells #[vs aa,vl e a g,vi ab] 65 (0,0))::(am,Obj.cells #[vb y,vb ac,vb z,vi ae,vb af,vs ag,vl h i j,vi ah,vl k l n,vi ai] 84 (0,0))::·) F6 fun e5 I7 G5=>∃(r4:Value),e5=.returned r4∧G5 fun F7=>∃q1:Bool,cP P .neq 44 (.tmp 43) (.const (Value.nilIface)) r4 Value.nilIface q1∧(It q1 (Q (.returned r4) I7 F7) (∃m4:Nat,m4<m3∧Inv42 r2 x1 x2 (IntKind.wrap .i64 (x3+1)) m4 I5 F5 I7 F7))) (∃m5:Nat,m5<m1∧Inv28 r2 x2 (IntKind.wrap .i64 (x1+1)) m5 I4 F4 I6 F6))) (Q (.returned (Value.nilIface)) I5 F5))))))
theorem js.vc{l:Bs}{a:OA}{c d:Nat}{e:OA}{f g:Nat}{i:OA}{j k:Nat}{I:b8}{F:bZ}{Q:cc}(Inv28:OA→Value→Int→Nat→b8→bZ→b8→bZ→Prop)(Inv42:OA→Int→Value→Int→Nat→b8→bZ→b8→bZ→Prop)(h:js.V (fun b=>(b,Obj.cells #[.string l,.slice a c d,.slice e f g,.slice i j k] 39 (0,0))) (.int .u8) (.int .i64) .string .slice l a c d e f g i j k I F Q Inv28 Inv42):cd P 39 #[.agg #[.string l,.slice a c d,.slice e f g,.slice i j k]] I F Q :=
 tw (A:=(cO [2001,6001,9000,12000,15001] [] [64,65,66,67,68] gB [(28,⟨[(2,.any),(29,(.int .i64))],[],fun fs I0 F0 vs m I F=>match fs,vs with | [.pointer y0],[y1,.int _ y2]=>Inv28 y0 y1 y2 m I0 F0 I F | _,_=>False,[4],[]⟩),(42,⟨[(2,.any),(36,(.int .i64))],[],fun fs I0 F0 vs m I F=>match fs,vs with | [.pointer y0,.int _ y1],[y2,.int _ y3]=>Inv42 y0 y1 y2 y3 m I0 F0 I F | _,_=>False,[4,29],[]⟩)] [] [] [] [] [] [])) [64,65,66,67,68] func39 h
def ff.V(d:Nat→Nat×Obj)(vb:Int→Value)(c:Addr)(a n i o b:Int)(j:Bs)(f:OA)(g h:Nat)(p:Int)(I:b8)(F:bZ)(Q:cc)  : Prop:=∀e:Nat,(It (a==1) (Q (.returned (.tuple #[vb i,Value.nilIface])) I F) (It (a==4) (Q (.returned (.tuple #[vb 5,Value.nilIface])) I F) (It (a==2) (∃ad:Addr,some c=some ad∧∃(m:Option Nat),Rd I ((d e)::F) (ad.add 0) [.map m]∧cG P (Instr.lookup 161 (.map m) (.string j) true) I ((d e)::F) fun v I1 G1=>∃(r0:Int) (r1:Bool),v=.tuple #[vb r0,.bool r1]∧∃F1:bZ,List.Perm G1 ((d e)::F1)∧(It r1 (Q (.returned (.tuple #[vb r0,Value.nilIface])) I1 F1) (de P 136 #[.agg #[vb a,vb n,vb i,.int .i64 o,vb b,.string j,.slice f g h,.int .i64 p],.int .i64 151] I1 ((d e)::·) F1 fun e1 I2 G2=>∃(k:Int) (l:Value),e1=.returned (.tuple #[vb k,l])∧G2 fun F2=>Q (.returned (.tuple #[vb k,l])) I2 F2))) (It (b==5) (Q (.returned (.tuple #[vb 4,Value.nilIface])) I F) (It (b==4) (Q (.returned (.tuple #[vb 2,Value.nilIface])) I F) (It (b==6) (Q (.returned (.tuple #[vb 2,Value.nilIface])) I F) (Q (.returned (.tuple #[vb 3,Value.nilIface])) I F)))))))
theorem ff.vc{c:Addr}{f g i j k:Int}{l:Bs}{a:OA}{d e:Nat}{m:Int}{I:b8}{F:bZ}{Q:cc}  (h:ff.V (fun b=>(b,Obj.cells #[.int .u8 f,.int .u8 g,.int .u8 i,.int .i64 j,.int .u8 k,.string l,.slice a d e,.int .i64 m] 28 (0,0))) (.int .u8) c f g i j k l a d e m I F Q):cd P 133 #[.pointer (some c),.agg #[.int .u8 f,.int .u8 g,.int .u8 i,.int .i64 j,.int .u8 k,.string l,.slice a d e,.int .i64 m]] I F Q :=
 tw (A:=(cO [2000,4000,6000,8000,12000,14000,15000] [] [136] gB [] [] [] [] [] [(7,[0,1,2,4,3,5,6,7,8,9,10,11])] [])) [136] func133 h
def gh.V(d u:Nat→Nat×Obj)(nV:Int→Int→Int→Int→Int→Bs→OA→Nat→Nat→Int→Value)(nO:Int→Int→Int→Int→Int→Bs→OA→Nat→Nat→Int→Obj)(vb vi:Int→Value)(c:Addr)(l k n o p:Int)(s:Bs)(f:OA)(b g:Nat)(t:Int)(I:b8)(F:bZ)(Q:cc)(Inv8:OA→OA→Int→Value→Int→Nat→b8→bZ→b8→bZ→Prop):Prop:=∀a:Nat,∀e:Nat,(∃m:Nat,Inv8 (some ⟨a,0,none⟩) (some (⟨e,0,none⟩:Addr)) 0 Value.nilIface 0 m I ((u e)::F) I ((u e)::F))∧∀(x:Int) (x1:Value) (x2:Int) (m1:Nat) (I1:b8) (F1:bZ),b8.le I I1→Inv8 (some ⟨a,0,none⟩) (some (⟨e,0,none⟩:Addr)) x x1 x2 m1 I ((u e)::F) I1 F1→(Dt (x2<(b:Int)) ((0≤x2∧x2<(b:Int))∧∃ad:Addr,f=some ad∧∃(v w y z aa:Int) (ab:Bs) (h:OA) (i j:Nat) (ac:Int),Rd I1 ((d a)::F1) (ad.add (Int.toNat x2*8)) [vb v,vb w,vb y,vi z,vb aa,.string ab,.slice h i j,vi ac]∧∀aq:Nat,de P 107 (#[.pointer (some c),nV v w y z aa ab h i j ac]) I1 ((d a)::(aq,nO v w y z aa ab h i j ac)::·) F1 fun e1 I2 G1=>∃(r0:Int) (r1:Value),e1=.returned (.tuple #[vb r0,r1])∧G1 fun F2=>∃q:Bool,cP P .neq 44 (.tmp 27) (.const (Value.nilIface)) r1 Value.nilIface q∧(It q (Q (.returned (.tuple #[vb 0,r1])) I2 F2) ((0≤x2∧x2<(3:Int))∧∃(cs:List Value) (el:Nat) (F3:bZ),List.Perm F2 ((((⟨e,0,none⟩:Addr).add (Int.toNat x2*1)).block,Obj.cells cs.toArray el (0,0))::F3)∧((⟨e,0,none⟩:Addr).add (Int.toNat x2*1)).spot=none∧((⟨e,0,none⟩:Addr).add (Int.toNat x2*1)).off+1≤cs.length∧(∃m2:Nat,m2<m1∧Inv8 (some ⟨a,0,none⟩) (some (⟨e,0,none⟩:Addr)) x x1 (IntKind.wrap .i64 (x2+1)) m2 I ((u e)::F) I2 ((((⟨e,0,none⟩:Addr).add (Int.toNat x2*1)).block,Obj.cells (cf ((⟨e,0,none⟩:Addr).add (Int.toNat x2*1)).off [vb r0] cs).toArray el (0,0))::F3))))) (It ((b:Int)==0) (de P 133 (#[.pointer (some c),nV l k n o p s f b g t]) I1 ((d a)::·) F1 fun e2 I3 G2=>∃(af:Int) (ag:Value),e2=.returned (.tuple #[vb af,ag])∧G2 fun F4=>Q (.returned (.tuple #[vb af,ag])) I3 F4) (It ((b:Int)==1) ((0≤(0:Int)∧(0:Int)<(3:Int))∧∃(m3:Int),Rd I1 ((d a)::F1) ((⟨e,0,none⟩:Addr).add (Int.toNat 0*1)) [vb m3]∧cJ P 134 #[nV l k n o p s f b g t,vb m3] I1 ((d a)::·) F1 vb fun r I4 F5=>(It (!(r != 0)) (de P 136 #[nV l k n o p s f b g t,vi 152] I4 ((d a)::·) F5 fun e4 I5 G4=>∃(ah:Int) (ai:Value),e4=.returned (.tuple #[vb ah,ai])∧G4 fun F6=>Q (.returned (.tuple #[vb ah,ai])) I5 F6) (Q (.returned (.tuple #[vb r,Value.nilIface])) I4 F5))) (It ((b:Int)==2) ((0≤(0:Int)∧(0:Int)<(3:Int))∧∃(m4:Int),Rd I1 ((d a)::F1) ((⟨e,0,none⟩:Addr).add (Int.toNat 0*1)) [vb m4]∧((0≤(1:Int)∧(1:Int)<(3:Int))∧∃(m5:Int),Rd I1 ((d a)::F1) ((⟨e,0,none⟩:Addr).add (Int.toNat 1*1)) [vb m5]∧de P 135 #[vb k,vb m4,vb m5] I1 ((d a)::·) F1 fun e5 I6 G5=>∃(aj:Int) (ae:Bool),e5=.returned (.tuple #[vb aj,.bool ae])∧G5 fun F7=>(It (!ae) (de P 136 #[nV l k n o p s f b g t,vi 152] I6 ((d a)::·) F7 fun e6 I7 G6=>∃(ak:Int) (al:Value),e6=.returned (.tuple #[vb ak,al])∧G6 fun F8=>Q (.returned (.tuple #[vb ak,al])) I7 F8) (Q (.returned (.tuple #[vb aj,Value.nilIface])) I6 F7)))) ((0≤(1:Int)∧(1:Int)<(3:Int))∧∃(m6:Int),Rd I1 ((d a)::F1) ((⟨e,0,none⟩:Addr).add (Int.toNat 1*1)) [vb m6]∧((0≤(0:Int)∧(0:Int)<(3:Int))∧∃(m7:Int),Rd I1 ((d a)::F1) ((⟨e,0,none⟩:Addr).add (Int.toNat 0*1)) [vb m7]∧(It (m7==5) ((0≤(1:Int)∧(1:Int)<(3:Int))∧∃(m8:Int),Rd I1 ((d a)::F1) ((⟨e,0,none⟩:Addr).add (Int.toNat 1*1)) [vb m8]∧((0≤(2:Int)∧(2:Int)<(3:Int))∧∃(m9:Int),Rd I1 ((d a)::F1) ((⟨e,0,none⟩:Addr).add (Int.toNat 2*1)) [vb m9]∧(It (!(m8==m9)) (de P 136 #[nV l k n o p s f b g t,vi 152] I1 ((d a)::·) F1 fun e7 I8 G7=>∃(am:Int) (an:Value),e7=.returned (.tuple #[vb am,an])∧G7 fun F9=>Q (.returned (.tuple #[vb am,an])) I8 F9) (Q (.returned (.tuple #[vb m6,Value.nilIface])) I1 F1)))) (It true (de P 136 #[nV l k n o p s f b g t,vi 152] I1 ((d a)::·) F1 fun e8 I9 G8=>∃(ao:Int) (ap:Value),e8=.returned (.tuple #[vb ao,ap])∧G8 fun F10=>Q (.returned (.tuple #[vb ao,ap])) I9 F10) (Q (.returned (.tuple #[vb m6,Value.nilIface])) I1 F1)))))))))
theorem gh.vc{c:Addr}{i j p r u:Int}{v:Bs}{d:OA}{e g:Nat}{w:Int}{I:b8}{F:bZ}{Q:cc}(Inv8:OA→OA→Int→Value→Int→Nat→b8→bZ→b8→bZ→Prop)(h:gh.V (fun b=>(b,Obj.cells #[.int .u8 i,.int .u8 j,.int .u8 p,.int .i64 r,.int .u8 u,.string v,.slice d e g,.int .i64 w] 28 (0,0))) (fun b=>(b,Obj.cells #[.int .u8 0,.int .u8 0,.int .u8 0] 204 (0,0))) (fun k o t n f s a l c q=>.agg #[.int .u8 k,.int .u8 o,.int .u8 t,.int .i64 n,.int .u8 f,.string s,.slice a l c,.int .i64 q]) (fun k o t n f s a l c q=>.cells #[.int .u8 k,.int .u8 o,.int .u8 t,.int .i64 n,.int .u8 f,.string s,.slice a l c,.int .i64 q] 28 (0,0)) (.int .u8) (.int .i64) c i j p r u v d e g w I F Q Inv8):cd P 107 #[.pointer (some c),.agg #[.int .u8 i,.int .u8 j,.int .u8 p,.int .i64 r,.int .u8 u,.string v,.slice d e g,.int .i64 w]] I F Q :=
 tw (A:=(cO [3000,6001,13004,14000,16000,19000,21001] [] [107,133,134,135,136] gB [(8,⟨[(4,(.int .u8)),(5,.any),(16,(.int .i64))],[],fun fs I0 F0 vs m I F=>match fs,vs with | [.pointer y0,.pointer y1],[.int _ y2,y3,.int _ y4]=>Inv8 y0 y1 y2 y3 y4 m I0 F0 I F | _,_=>False,[3,6],[]⟩)] [] [1000] [] [] [] [])) [107,133,134,135,136] func107 h
def fg.V(a:Nat→Nat×Obj)(vb vi:Int→Value)(c:Addr)(i j k l m:Int)(n:Bs)(e:OA)(f g:Nat)(h d:Int)(I:b8)(F:bZ)(Q:cc)  : Prop:=∀b:Nat,de P 107 (#[.pointer (some c),.agg #[vb i,vb j,vb k,vi l,vb m,.string n,.slice e f g,vi h]]) I ((a b)::·) F fun e1 I1 G1=>∃(r0:Int) (r1:Value),e1=.returned (.tuple #[vb r0,r1])∧G1 fun F1=>∃q:Bool,cP P .neq 44 (.tmp 16) (.const (Value.nilIface)) r1 Value.nilIface q∧(It q (de P 65 #[vi 0,r1] I1 ((a b)::·) F1 fun e2 I2 G2=>∃(r:Value),e2=.returned r∧G2 fun F2=>Q (.returned r) I2 F2) (It (r0 != d) (de P 65 (#[vi h,Value.iface 47 (vi 152)]) I1 ((a b)::·) F1 fun e3 I3 G3=>∃(r2:Value),e3=.returned r2∧G3 fun F3=>Q (.returned r2) I3 F3) (Q (.returned (Value.nilIface)) I1 F1)))
theorem fg.vc{c:Addr}{f g i j k:Int}{l:Bs}{a:OA}{d e:Nat}{m n:Int}{I:b8}{F:bZ}{Q:cc}  (h:fg.V (fun b=>(b,Obj.cells #[.int .u8 f,.int .u8 g,.int .u8 i,.int .i64 j,.int .u8 k,.string l,.slice a d e,.int .i64 m] 28 (0,0))) (.int .u8) (.int .i64) c f g i j k l a d e m n I F Q):cd P 108 #[.pointer (some c),.agg #[.int .u8 f,.int .u8 g,.int .u8 i,.int .i64 j,.int .u8 k,.string l,.slice a d e,.int .i64 m],.int .u8 n] I F Q :=
 tw (A:=(an [2001,4002] [65,107] gB)) [65,107] func108 h
def dL.V(ka:Nat→Bs→Int→Int→Int→Int→Int→Int→Bs→OA→Nat→Nat→Int→Int→Nat×Obj)(kb:Nat→Bs→OA→Nat→Nat→Int→Nat×Obj)(kc:Nat→Bs→Int→Nat×Obj)(a:Nat→Nat×Obj)(vb vi:Int→Value)(vs:Bs→Value)(vl:OA→Nat→Nat→Value)(wr:Int→Int)(c:Addr)(aB:Bs)(aj:OA)(af ay:Nat)(ak:OA)(ag az:Nat)(al:OA)(ah aA:Nat)(I:b8)(F:bZ)(Q:cc)(Inv8:Option Nat→Value→Int→Nat→b8→bZ→b8→bZ→Prop)(Inv43:Value→Int→Nat→b8→bZ→b8→bZ→Prop)(Inv68:Value→Int→Nat→b8→bZ→b8→bZ→Prop):Prop:=∀b:Nat,cG P (Instr.makeMap 162 none) I ((a b)::F) fun v I1 G1=>∃(r:Option Nat),v=.map r∧∃F1:bZ,List.Perm G1 ((a b)::F1)∧(∃m:Nat,Inv8 r Value.nilIface 0 m I1 F1 I1 F1)∧∀(x:Value) (x1:Int) (m1:Nat) (I2:b8) (F2:bZ),b8.le I1 I2→Inv8 r x x1 m1 I1 F1 I2 F2→(Dt (x1<(af:Int)) ((0≤x1∧x1<(af:Int))∧∃ad:Addr,aj=some ad∧∃(p:Bs) (q s t u w y:Int) (z:Bs) (d:OA) (e f:Nat) (aa g:Int),Rd I2 ((a b)::F2) (ad.add (Int.toNat x1*11)) [vs p,vb q,vb s,vb t,vb u,vi w,vb y,vs z,vl d e f,vi aa,vi g]∧∀ac:Nat,cG P (Instr.lookup 162 (.map r) (vs p) false) I2 ((a b)::(ka ac p q s t u w y z d e f aa g)::F2) fun v1 I3 G2=>∃(r1:Int),v1=vi r1∧∃F3:bZ,List.Perm G2 ((a b)::(ka ac p q s t u w y z d e f aa g)::F3)∧jJ P (Instr.mapUpdate 162 (.map r) (vs p) (vi (wr (r1+1)))) I3 ((a b)::(ka ac p q s t u w y z d e f aa g)::F3) fun I4 G3=>∃F4:bZ,List.Perm G3 ((a b)::(ka ac p q s t u w y z d e f aa g)::F4)∧cG P (Instr.lookup 162 (.map r) (vs p) false) I4 ((a b)::(ka ac p q s t u w y z d e f aa g)::F4) fun v2 I5 G4=>∃(r2:Int),v2=vi r2∧∃F5:bZ,List.Perm G4 ((a b)::(ka ac p q s t u w y z d e f aa g)::F5)∧(Dt (r2>1) (de P 65 (#[vi g,Value.iface 47 (vi 150)]) I5 ((a b)::(ka ac p q s t u w y z d e f aa g)::·) F5 fun e1 I6 G5=>∃(r3:Value),e1=.returned r3∧G5 fun F6=>Q (.returned r3) I6 F6) (de P 107 (#[.pointer (some c),.agg #[vb s,vb t,vb u,vi w,vb y,vs z,vl d e f,vi aa]]) I5 ((a b)::(ka ac p q s t u w y z d e f aa g)::·) F5 fun e2 I7 G6=>∃(r0:Int) (ax:Value),e2=.returned (.tuple #[vb r0,ax])∧G6 fun F7=>(It (r0 != q) (de P 65 (#[vi g,Value.iface 47 (vi 152)]) I7 ((a b)::(ka ac p q s t u w y z d e f aa g)::·) F7 fun e3 I8 G7=>∃(r4:Value),e3=.returned r4∧G7 fun F8=>Q (.returned r4) I8 F8) (∃m2:Nat,m2<m1∧Inv8 r x (wr (x1+1)) m2 I1 F1 I7 F7))))) ((∃m3:Nat,Inv43 x 0 m3 I2 F2 I2 F2)∧∀(x2:Value) (x3:Int) (m4:Nat) (I9:b8) (F9:bZ),b8.le I2 I9→Inv43 x2 x3 m4 I2 F2 I9 F9→(Dt (x3<(ag:Int)) ((0≤x3∧x3<(ag:Int))∧∃ao:Addr,ak=some ao∧∃(h:Bs) (n:Int),Rd I9 ((a b)::F9) (ao.add (Int.toNat x3*2)) [vs h,vi n]∧∀ae:Nat,∃ap:Addr,some c=some ap∧∃(m5:Option Nat),Rd I9 ((a b)::(kc ae h n)::F9) (ap.add 1) [.map m5]∧cG P (Instr.lookup 162 (.map m5) (vs h) false) I9 ((a b)::(kc ae h n)::F9) fun v3 I10 G8=>∃(r5:Int),v3=vi r5∧∃F10:bZ,List.Perm G8 ((a b)::(kc ae h n)::F10)∧jJ P (Instr.mapUpdate 162 (.map m5) (vs h) (vi (wr (r5+1)))) I10 ((a b)::(kc ae h n)::F10) fun I11 G9=>∃F11:bZ,List.Perm G9 ((a b)::(kc ae h n)::F11)∧∃aq:Addr,some c=some aq∧∃(m6:Option Nat),Rd I11 ((a b)::(kc ae h n)::F11) (aq.add 1) [.map m6]∧cG P (Instr.lookup 162 (.map m6) (vs h) false) I11 ((a b)::(kc ae h n)::F11) fun v4 I12 G10=>∃(r6:Int),v4=vi r6∧∃F12:bZ,List.Perm G10 ((a b)::(kc ae h n)::F12)∧(Dt (r6>1) (de P 65 (#[vi n,Value.iface 47 (vi 150)]) I12 ((a b)::(kc ae h n)::·) F12 fun e4 I13 G11=>∃(r7:Value),e4=.returned r7∧G11 fun F13=>Q (.returned r7) I13 F13) (∃m7:Nat,m7<m4∧Inv43 x2 (wr (x3+1)) m7 I2 F2 I12 F12))) ((∃m8:Nat,Inv68 x2 0 m8 I9 F9 I9 F9)∧∀(x4:Value) (x5:Int) (m9:Nat) (I14:b8) (F14:bZ),b8.le I9 I14→Inv68 x4 x5 m9 I9 F9 I14 F14→(Dt (x5<(ah:Int)) ((0≤x5∧x5<(ah:Int))∧∃ar:Addr,al=some ar∧∃(i:Bs) (j:OA) (k l:Nat) (o:Int),Rd I14 ((a b)::F14) (ar.add (Int.toNat x5*3)) [vs i,vl j k l,vi o]∧∀ab:Nat,∃au:Addr,some c=some au∧∃(ai:Option Nat),Rd I14 ((a b)::(kb ab i j k l o)::F14) (au.add 2) [.map ai]∧cG P (Instr.lookup 162 (.map ai) (vs i) false) I14 ((a b)::(kb ab i j k l o)::F14) fun v5 I15 G12=>∃(r8:Int),v5=vi r8∧∃F15:bZ,List.Perm G12 ((a b)::(kb ab i j k l o)::F15)∧jJ P (Instr.mapUpdate 162 (.map ai) (vs i) (vi (wr (r8+1)))) I15 ((a b)::(kb ab i j k l o)::F15) fun I16 G13=>∃F16:bZ,List.Perm G13 ((a b)::(kb ab i j k l o)::F16)∧∃av:Addr,some c=some av∧∃(am:Option Nat),Rd I16 ((a b)::(kb ab i j k l o)::F16) (av.add 2) [.map am]∧cG P (Instr.lookup 162 (.map am) (vs i) false) I16 ((a b)::(kb ab i j k l o)::F16) fun v6 I17 G14=>∃(r9:Int),v6=vi r9∧∃F17:bZ,List.Perm G14 ((a b)::(kb ab i j k l o)::F17)∧(Dt (r9>1) (de P 65 (#[vi o,Value.iface 47 (vi 150)]) I17 ((a b)::(kb ab i j k l o)::·) F17 fun e5 I18 G15=>∃(an:Value),e5=.returned an∧G15 fun F18=>Q (.returned an) I18 F18) (∃aw:Nat,aw<m9∧Inv68 x4 (wr (x5+1)) aw I9 F9 I17 F17))) (Q (.returned (Value.nilIface)) I14 F14))))))
theorem dL.vc{c:Addr}{w:Bs}{n:OA}{o p:Nat}{q:OA}{r s:Nat}{t:OA}{u v:Nat}{I:b8}{F:bZ}{Q:cc}(Inv8:Option Nat→Value→Int→Nat→b8→bZ→b8→bZ→Prop)(Inv43:Value→Int→Nat→b8→bZ→b8→bZ→Prop)(Inv68:Value→Int→Nat→b8→bZ→b8→bZ→Prop)(h:dL.V (fun W a b c d e f g h i j k l m=>(W,Obj.cells #[.string a,.int .u8 b,.int .u8 c,.int .u8 d,.int .u8 e,.int .i64 f,.int .u8 g,.string h,.slice i j k,.int .i64 l,.int .i64 m] 77 (0,0))) (fun W a b c d e=>(W,Obj.cells #[.string a,.slice b c d,.int .i64 e] 65 (0,0))) (fun W a b=>(W,Obj.cells #[.string a,.int .i64 b] 79 (0,0))) (fun b=>(b,Obj.cells #[.string w,.slice n o p,.slice q r s,.slice t u v] 39 (0,0))) (.int .u8) (.int .i64) .string .slice (IntKind.wrap .i64) c w n o p q r s t u v I F Q Inv8 Inv43 Inv68):cd P 67 #[.pointer (some c),.agg #[.string w,.slice n o p,.slice q r s,.slice t u v]] I F Q :=
 tw (A:=(cO [3000,6004,9003,13000,16007,20000,23007] [] [65,107] gB [(8,⟨[(4,.any),(18,(.int .i64))],[],fun fs I0 F0 vs m I F=>match fs,vs with | [.map y0],[y1,.int _ y2]=>Inv8 y0 y1 y2 m I0 F0 I F | _,_=>False,[5],[]⟩),(43,⟨[(4,.any),(55,(.int .i64))],[],fun fs I0 F0 vs m I F=>match fs,vs with | [],[y0,.int _ y1]=>Inv43 y0 y1 m I0 F0 I F | _,_=>False,[],[]⟩),(68,⟨[(4,.any),(83,(.int .i64))],[],fun fs I0 F0 vs m I F=>match fs,vs with | [],[y0,.int _ y1]=>Inv68 y0 y1 m I0 F0 I F | _,_=>False,[],[]⟩)] [] [] [] [] [(15,[0,1,2,4,3,5,6,7,8]),(16,[0,1,2,4,3,5,6,7]),(22,[0,1,2,4,3,5,6,7,8]),(23,[0,1,2,4,3,5,6,7])] [])) [65,107] func67 h
def gi.V(a:Nat→Nat×Obj)(vb vi:Int→Value)(vs:Bs→Value)(vl:OA→Nat→Nat→Value)(c:Addr)(h aS:Int)(p:Bs)(a9 ba bb bc bd:Int)(be:Bs)(aO:OA)(aP aQ:Nat)(a0 aj ak al am an:Int)(ao:Bs)(s:OA)(t u:Nat)(ap aq ar au av aw:Int)(ax:Bs)(w:OA)(y z:Nat)(ay a1 a2 a3 a4 a5:Int)(a6:Bs)(az:OA)(aA aB:Nat)(a7 a8:Int)(I:b8)(F:bZ)(Q:cc)(Inv9:Int→Bool→OA→Nat→Nat→b8→bZ→b8→bZ→Prop)(Inv18:OA→Nat→Nat→b8→bZ→b8→bZ→Prop)(Inv64:OA→Nat→Nat→Value→Int→Nat→b8→bZ→b8→bZ→Prop):Prop:=∀d:Nat,((It (h==1) (∀(b:Nat) (I1:b8),b8.le I I1→I1 b=some (Obj.cells #[vb a9,vb ba,vb bb,vi bc,vb bd,vs be,vl aO aP aQ,vi a0,vb 6,vb aj,vb ak,vb al,vi am,vb an,vs ao,vl s t u,vi ap,vb 2] 210 (0,0))→cG P (Builtin.append_ #[208,208] 208 #[vl none 0 0,vl (some ⟨b,0,none⟩) 2 2]) I1 ((a d)::F) fun v I2 G1=>∃(aC:OA) (aD aE:Nat),v=vl aC aD aE∧∃F1:bZ,List.Perm G1 ((a d)::F1)∧((It (aS != 2) (∀(b1:Nat) (I3:b8),b8.le I2 I3→I3 b1=some (Obj.cells #[vb aq,vb ar,vb au,vi av,vb aw,vs ax,vl w y z,vi ay,vb 3] 210 (0,0))→cG P (Builtin.append_ #[208,208] 208 #[vl aC aD aE,vl (some ⟨b1,0,none⟩) 1 1]) I3 ((a d)::F1) fun v1 I4 G2=>∃(aF:OA) (aG aH:Nat),v1=vl aF aG aH∧∃F2:bZ,List.Perm G2 ((a d)::F2)∧Inv18 aF aG aH I2 F1 I4 F2) (Inv18 aC aD aE I2 F1 I2 F1)))∧∀(i:OA) (j k:Nat) (I5:b8) (F3:bZ),b8.le I2 I5→Inv18 i j k I2 F1 I5 F3→(It (p.toList==(⟨#[]⟩:Bs).toList) (Inv9 5 true i j k I F I5 F3) (∃ad:Addr,some c=some ad∧∃(m:Option Nat),Rd I5 ((a d)::F3) (ad.add 1) [.map m]∧cG P (Instr.lookup 162 (.map m) (vs p) false) I5 ((a d)::F3) fun v2 I6 G3=>∃(r:Int),v2=vi r∧∃F4:bZ,List.Perm G3 ((a d)::F4)∧Inv9 5 (decide (r>0)) i j k I F I6 F4))) (It (h==2) (∀(b2:Nat) (I7:b8),b8.le I I7→I7 b2=some (Obj.cells #[vb aj,vb ak,vb al,vi am,vb an,vs ao,vl s t u,vi ap,vb 2,vb aq,vb ar,vb au,vi av,vb aw,vs ax,vl w y z,vi ay,vb 3] 210 (0,0))→cG P (Builtin.append_ #[208,208] 208 #[vl none 0 0,vl (some ⟨b2,0,none⟩) 2 2]) I7 ((a d)::F) fun v3 I8 G4=>∃(aI:OA) (aJ aK:Nat),v3=vl aI aJ aK∧∃F5:bZ,List.Perm G4 ((a d)::F5)∧∃aU:Addr,some c=some aU∧∃(m1:Option Nat),Rd I8 ((a d)::F5) (aU.add 1) [.map m1]∧cG P (Instr.lookup 162 (.map m1) (vs p) false) I8 ((a d)::F5) fun v4 I9 G5=>∃(r1:Int),v4=vi r1∧∃F6:bZ,List.Perm G5 ((a d)::F6)∧Inv9 5 (decide (r1>0)) aI aJ aK I F I9 F6) (It (h==3) (∃aV:Addr,some c=some aV∧∃(m2:Option Nat),Rd I ((a d)::F) (aV.add 1) [.map m2]∧cG P (Instr.lookup 162 (.map m2) (vs p) false) I ((a d)::F) fun v5 I10 G6=>∃(r2:Int),v5=vi r2∧∃F7:bZ,List.Perm G6 ((a d)::F7)∧Inv9 5 (decide (r2>0)) none 0 0 I F I10 F7) (It (h==4) (∃aW:Addr,some c=some aW∧∃(m3:Option Nat),Rd I ((a d)::F) (aW.add 0) [.map m3]∧cG P (Instr.lookup 161 (.map m3) (vs p) true) I ((a d)::F) fun v6 I11 G7=>∃(r0:Int) (aT:Bool),v6=.tuple #[vb r0,.bool aT]∧∃F8:bZ,List.Perm G7 ((a d)::F8)∧∀(b3:Nat) (I12:b8),b8.le I11 I12→I12 b3=some (Obj.cells #[vb a1,vb a2,vb a3,vi a4,vb a5,vs a6,vl az aA aB,vi a7,vb r0] 210 (0,0))→cG P (Builtin.append_ #[208,208] 208 #[vl none 0 0,vl (some ⟨b3,0,none⟩) 1 1]) I12 ((a d)::F8) fun v7 I13 G8=>∃(aL:OA) (aM aN:Nat),v7=vl aL aM aN∧∃F9:bZ,List.Perm G8 ((a d)::F9)∧Inv9 r0 aT aL aM aN I F I13 F9) (It (h==5) (∃aX:Addr,some c=some aX∧∃(m4:Option Nat),Rd I ((a d)::F) (aX.add 2) [.map m4]∧cG P (Instr.lookup 162 (.map m4) (vs p) false) I ((a d)::F) fun v8 I14 G9=>∃(r3:Int),v8=vi r3∧∃F10:bZ,List.Perm G9 ((a d)::F10)∧Inv9 5 (decide (r3>0)) none 0 0 I F I14 F10) (Inv9 5 true none 0 0 I F I F)))))))∧∀(aR:Int) (is:Bool) (f:OA) (e g:Nat) (I15:b8) (F11:bZ),b8.le I I15→Inv9 aR is f e g I F I15 F11→(It (!is) (de P 65 (#[vi a8,Value.iface 47 (vi 151)]) I15 ((a d)::·) F11 fun e1 I16 G10=>∃(r4:Value),e1=.returned r4∧G10 fun F12=>Q (.returned r4) I16 F12) ((∃m5:Nat,Inv64 f e g Value.nilIface 0 m5 I15 F11 I15 F11)∧∀(x:Value) (x1:Int) (m6:Nat) (I17:b8) (F13:bZ),b8.le I15 I17→Inv64 f e g x x1 m6 I15 F11 I17 F13→(Dt (x1<(e:Int)) ((0≤x1∧x1<(e:Int))∧∃aY:Addr,f=some aY∧∃(aa ab ac ae af:Int) (ag:Bs) (l:OA) (n o:Nat) (ah ai:Int),Rd I17 ((a d)::F13) (aY.add (Int.toNat x1*9)) [vb aa,vb ab,vb ac,vi ae,vb af,vs ag,vl l n o,vi ah,vb ai]∧∀aZ:Nat,de P 108 (#[.pointer (some c),.agg #[vb aa,vb ab,vb ac,vi ae,vb af,vs ag,vl l n o,vi ah],vb ai]) I17 ((a d)::(aZ,Obj.cells #[vb aa,vb ab,vb ac,vi ae,vb af,vs ag,vl l n o,vi ah,vb ai] 210 (0,0))::·) F13 fun e2 I18 G11=>∃(r5:Value),e2=.returned r5∧G11 fun F14=>∃q:Bool,cP P .neq 44 (.tmp 120) (.const (Value.nilIface)) r5 Value.nilIface q∧(It q (Q (.returned r5) I18 F14) (∃m7:Nat,m7<m6∧Inv64 f e g x (IntKind.wrap .i64 (x1+1)) m7 I15 F11 I18 F14))) (Q (.returned (Value.nilIface)) I17 F13))))
theorem gi.vc{c:Addr}{an ao:Int}{ap:Bs}{aq ar au av aw:Int}{ax:Bs}{n:OA}{o p:Nat}{q r s t u v:Int}{w:Bs}{a:OA}{d e:Nat}{x y z aa ab ac:Int}{ad:Bs}{f:OA}{g i:Nat}{ae af ag ah ai aj:Int}{ak:Bs}{j:OA}{k l:Nat}{al am:Int}{I:b8}{F:bZ}{Q:cc}(Inv9:Int→Bool→OA→Nat→Nat→b8→bZ→b8→bZ→Prop)(Inv18:OA→Nat→Nat→b8→bZ→b8→bZ→Prop)(Inv64:OA→Nat→Nat→Value→Int→Nat→b8→bZ→b8→bZ→Prop)(h:gi.V (fun b=>(b,Obj.cells #[.int .u8 an,.int .u8 ao,.string ap,.int .u8 aq,.int .u8 ar,.int .u8 au,.int .i64 av,.int .u8 aw,.string ax,.slice n o p,.int .i64 q,.int .u8 r,.int .u8 s,.int .u8 t,.int .i64 u,.int .u8 v,.string w,.slice a d e,.int .i64 x,.int .u8 y,.int .u8 z,.int .u8 aa,.int .i64 ab,.int .u8 ac,.string ad,.slice f g i,.int .i64 ae,.int .u8 af,.int .u8 ag,.int .u8 ah,.int .i64 ai,.int .u8 aj,.string ak,.slice j k l,.int .i64 al,.int .i64 am] 99 (0,0))) (.int .u8) (.int .i64) .string .slice c an ao ap aq ar au av aw ax n o p q r s t u v w a d e x y z aa ab ac ad f g i ae af ag ah ai aj ak j k l al am I F Q Inv9 Inv18 Inv64):cd P 109 #[.pointer (some c),.agg #[.int .u8 an,.int .u8 ao,.string ap,.int .u8 aq,.int .u8 ar,.int .u8 au,.int .i64 av,.int .u8 aw,.string ax,.slice n o p,.int .i64 q,.int .u8 r,.int .u8 s,.int .u8 t,.int .i64 u,.int .u8 v,.string w,.slice a d e,.int .i64 x,.int .u8 y,.int .u8 z,.int .u8 aa,.int .i64 ab,.int .u8 ac,.string ad,.slice f g i,.int .i64 ae,.int .u8 af,.int .u8 ag,.int .u8 ah,.int .i64 ai,.int .u8 aj,.string ak,.slice j k l,.int .i64 al,.int .i64 am]] I F Q :=
 tw (A:=(cO [4000,6002,8002,10000,13000,15000,18000,20001,23000,26001] [] [65,108] gB [(9,⟨[(5,(.int .u8)),(6,.bool),(7,.slc)],[],fun fs I0 F0 vs m I F=>match fs,vs with | [],[.int _ y0,.bool y1,.slice y2 y3 y4]=>Inv9 y0 y1 y2 y3 y4 I0 F0 I F | _,_=>False,[],[]⟩),(18,⟨[(7,.slc)],[],fun fs I0 F0 vs m I F=>match fs,vs with | [],[.slice y0 y1 y2]=>Inv18 y0 y1 y2 I0 F0 I F | _,_=>False,[],[]⟩),(64,⟨[(4,.any),(110,(.int .i64))],[],fun fs I0 F0 vs m I F=>match fs,vs with | [.slice y0 y1 y2],[y3,.int _ y4]=>Inv64 y0 y1 y2 y3 y4 m I0 F0 I F | _,_=>False,[7],[]⟩)] [5007,7004,11007,17005] [] [] [] [(9,[0,1,2,4,3,5,6,7,8]),(12,[0,1,2,4,3,5,6,7,8]),(14,[0,1,2,4,3,5,6,7,8]),(16,[0,1,2,4,3,5,6,7,8,9,10,11]),(19,[0,1,2,4,3,5,6,7,8])] [])) [65,108] func109 h
def fh.V(ka:Nat→Int→Int→Bs→Int→Int→Int→Int→Int→Bs→OA→Nat→Nat→Int→Int→Int→Int→Int→Int→Bs→OA→Nat→Nat→Int→Int→Int→Int→Int→Int→Bs→OA→Nat→Nat→Int→Int→Int→Int→Int→Int→Bs→OA→Nat→Nat→Int→Int→Nat×Obj)(ap:Nat→Nat×Obj)(vb vi:Int→Value)(vs:Bs→Value)(vl:OA→Nat→Nat→Value)(wr:Int→Int)(c:Addr)(aJ aK aL aM aN:Int)(aO:Bs)(aF:OA)(aG aH:Nat)(aP:Int)(aE:OA)(aC aQ:Nat)(aR:Int)(I:b8)(F:bZ)(Q:cc)(Inv16:Value→Int→Nat→b8→bZ→Prop):Prop:=∀aB:Nat,de P 108 (#[.pointer (some c),.agg #[vb aJ,vb aK,vb aL,vi aM,vb aN,vs aO,vl aF aG aH,vi aP],vb 5]) I ((ap aB)::·) F fun e1 I1 G1=>∃(r:Value),e1=.returned r∧G1 fun F1=>∃q:Bool,cP P .neq 44 (.tmp 13) (.const (Value.nilIface)) r Value.nilIface q∧(It q (Q (.returned r) I1 F1) ((∃m:Nat,Inv16 Value.nilIface 0 m I1 F1)∧∀(x:Value) (x1:Int) (m1:Nat) (I2:b8) (F2:bZ),b8.le I1 I2→Inv16 x x1 m1 I2 F2→(Dt (x1<(aC:Int)) ((0≤x1∧x1<(aC:Int))∧∃ad:Addr,aE=some ad∧∃(aq ar:Int) (au:Bs) (av aw ax ay az:Int) (aA:Bs) (k:OA) (l n:Nat) (p s t u v w:Int) (y:Bs) (a:OA) (b d:Nat) (z aa ab ac ae af:Int) (ag:Bs) (e:OA) (f g:Nat) (ah ai aj ak al am:Int) (an:Bs) (h:OA) (i j:Nat) (ao o:Int),Rd I2 ((ap aB)::F2) (ad.add (Int.toNat x1*36)) [vb aq,vb ar,vs au,vb av,vb aw,vb ax,vi ay,vb az,vs aA,vl k l n,vi p,vb s,vb t,vb u,vi v,vb w,vs y,vl a b d,vi z,vb aa,vb ab,vb ac,vi ae,vb af,vs ag,vl e f g,vi ah,vb ai,vb aj,vb ak,vi al,vb am,vs an,vl h i j,vi ao,vi o]∧∀aD:Nat,(Dt (x1>0) ((0≤(wr (x1-1))∧(wr (x1-1))<(aC:Int))∧∃aI:Addr,aE=some aI∧∃(m2:Int),Rd I2 ((ap aB)::(ka aD aq ar au av aw ax ay az aA k l n p s t u v w y a b d z aa ab ac ae af ag e f g ah ai aj ak al am an h i j ao o)::F2) ((aI.add (Int.toNat (wr (x1-1))*36)).add 0) [vb m2]∧(Dt (m2≥5) (de P 65 (#[vi o,Value.iface 47 (vi 153)]) I2 ((ap aB)::(ka aD aq ar au av aw ax ay az aA k l n p s t u v w y a b d z aa ab ac ae af ag e f g ah ai aj ak al am an h i j ao o)::·) F2 fun e2 I3 G2=>∃(r1:Value),e2=.returned r1∧G2 fun F3=>Q (.returned r1) I3 F3) (de P 109 (#[.pointer (some c),.agg #[vb aq,vb ar,vs au,vb av,vb aw,vb ax,vi ay,vb az,vs aA,vl k l n,vi p,vb s,vb t,vb u,vi v,vb w,vs y,vl a b d,vi z,vb aa,vb ab,vb ac,vi ae,vb af,vs ag,vl e f g,vi ah,vb ai,vb aj,vb ak,vi al,vb am,vs an,vl h i j,vi ao,vi o]]) I2 ((ap aB)::(ka aD aq ar au av aw ax ay az aA k l n p s t u v w y a b d z aa ab ac ae af ag e f g ah ai aj ak al am an h i j ao o)::·) F2 fun e3 I4 G3=>∃(r2:Value),e3=.returned r2∧G3 fun F4=>∃q1:Bool,cP P .neq 44 (.tmp 43) (.const (Value.nilIface)) r2 Value.nilIface q1∧(It q1 (Q (.returned r2) I4 F4) (∃m3:Nat,m3<m1∧Inv16 x (wr (x1+1)) m3 I4 F4))))) (de P 109 (#[.pointer (some c),.agg #[vb aq,vb ar,vs au,vb av,vb aw,vb ax,vi ay,vb az,vs aA,vl k l n,vi p,vb s,vb t,vb u,vi v,vb w,vs y,vl a b d,vi z,vb aa,vb ab,vb ac,vi ae,vb af,vs ag,vl e f g,vi ah,vb ai,vb aj,vb ak,vi al,vb am,vs an,vl h i j,vi ao,vi o]]) I2 ((ap aB)::(ka aD aq ar au av aw ax ay az aA k l n p s t u v w y a b d z aa ab ac ae af ag e f g ah ai aj ak al am an h i j ao o)::·) F2 fun e4 I5 G4=>∃(r3:Value),e4=.returned r3∧G4 fun F5=>∃q2:Bool,cP P .neq 44 (.tmp 43) (.const (Value.nilIface)) r3 Value.nilIface q2∧(It q2 (Q (.returned r3) I5 F5) (∃m4:Nat,m4<m1∧Inv16 x (wr (x1+1)) m4 I5 F5))))) (Q (.returned (Value.nilIface)) I2 F2))))
theorem fh.vc{c:Addr}{aA aB aC aD aE:Int}{aF:Bs}{au:OA}{av aw:Nat}{aG:Int}{ax:OA}{ay az:Nat}{aH:Int}{I:b8}{F:bZ}{Q:cc}(Inv16:Value→Int→Nat→b8→bZ→Prop)(h:fh.V (fun W a b c d e f g h i j k l m n o p q r s t u v w x y z aa ab ac ad ae af ag ah ai aj ak al am an ao ap aq ar=>(W,Obj.cells #[.int .u8 a,.int .u8 b,.string c,.int .u8 d,.int .u8 e,.int .u8 f,.int .i64 g,.int .u8 h,.string i,.slice j k l,.int .i64 m,.int .u8 n,.int .u8 o,.int .u8 p,.int .i64 q,.int .u8 r,.string s,.slice t u v,.int .i64 w,.int .u8 x,.int .u8 y,.int .u8 z,.int .i64 aa,.int .u8 ab,.string ac,.slice ad ae af,.int .i64 ag,.int .u8 ah,.int .u8 ai,.int .u8 aj,.int .i64 ak,.int .u8 al,.string am,.slice an ao ap,.int .i64 aq,.int .i64 ar] 99 (0,0))) (fun b=>(b,Obj.cells #[.int .u8 aA,.int .u8 aB,.int .u8 aC,.int .i64 aD,.int .u8 aE,.string aF,.slice au av aw,.int .i64 aG,.slice ax ay az,.int .i64 aH] 84 (0,0))) (.int .u8) (.int .i64) .string .slice (IntKind.wrap .i64) c aA aB aC aD aE aF au av aw aG ax ay az aH I F Q Inv16):cd P 68 #[.pointer (some c),.agg #[.int .u8 aA,.int .u8 aB,.int .u8 aC,.int .i64 aD,.int .u8 aE,.string aF,.slice au av aw,.int .i64 aG,.slice ax ay az,.int .i64 aH]] I F Q :=
 tw (A:=(cO [2001,5000,7001,7010,10001] [] [65,108,109] gB [(16,⟨[(4,.any),(19,(.int .i64))],[],fun _ _ _ vs m I F=>match vs with | [y0,.int _ y1]=>Inv16 y0 y1 m I F | _=>False,[],[]⟩)] [] [] [] [] [] [])) [65,108,109] func68 h
end Go.Lx
namespace Go.Vc
def ja(R:Value→b8→Prop)(F:bZ)(e:Ending)(I:b8)(G:bZ):Prop:=∃v,e=.returned v∧R v I∧G=F
theorem Sat.still:∀(H:bZ) {I:b8} {F:bZ} {w:World},Sat I (H++F) w→∃J,b8.le I J∧(∀x∈H,J x.1=some x.2)∧Sat J F w
 | [],I,F,w,h=>⟨I,b8.le_refl I,fun x hx=>absurd hx (by simp),h⟩
 | (b,o)::H,I,F,w,h=>by
   obtain⟨h1,h2⟩:=Sat.jc (b:=b) (o:=o) h
   obtain⟨J,g1,g2,g3⟩:=Sat.still H h2
   refine⟨J,b8.le_trans h1 g1,fun x hx=>?_,g3⟩
   rcases List.mem_cons.1 hx with rfl | hx
   ·exact g1.at (by simp[b8.put])
   ·exact g2 x hx
section
variable {P:Program} {f:FuncId} {args:Array Value} {I:b8} {F:bZ} {R:Value→b8→Prop}
theorem cd.still(h:cd P f args I F fun e I' G=>∃v H,e=.returned v∧G.Perm (H++F)∧∀J,b8.le I' J→(∀x∈H,J x.1=some x.2)→R v J):cd P f args I F (ja R F) :=
 h.keep fun e I' G w hl hs ⟨v,H,he,hp,hk⟩=>by
  obtain⟨J,g1,g2,g3⟩:=Sat.still H (hs.perm hp)
  exact⟨J,F,g1,g3,v,he,hk J g1 g2,rfl⟩
theorem cd.gT{Q:Ending→b8→bZ→Prop}(h:cd P f args I F (ja R F))(k:∀v I',b8.le I I'→R v I'→Q (.returned v) I' F):cd P f args I F Q :=
 h.mono fun e I' G hl ⟨v,he,hr,hG⟩=>by subst he hG;exact k v I' hl hr
end
def nw(P:Program)(t:TypeId):Bool:=match P.underlying t with
 | some (.interface _)=>true
 | _=>false
theorem oX{P:Program}{t:TypeId}(h:nw P t=true):∃ms,P.underlying t=some (.interface ms):=by
 unfold nw at h
 split at h
 ·rename_i ht;exact⟨_,ht⟩
 ·cases h
theorem ub{P:Program}{t:TypeId}(h:nw P t=true){x:Operand}:cP P .neq t x (.const .nilIface) .nilIface .nilIface false:=by
 obtain⟨ms,ht⟩:=oX h
 intro w
 have he:(Op.equal t .nilIface .nilIface).run P w=.ok true w:=by
  show (Op.equalIn (9999+1) t .nilIface .nilIface).run P w=_
  unfold Op.equalIn
  simp[Sem.run_bind,cN ht]
 simp[eqGuard,binOp,Sem.run_bind,he]
theorem rH{P:Program}{t:TypeId}(h:nw P t=true){x:Operand}{d:TypeId}{v:Value}:cP P .neq t x (.const .nilIface) (.iface d v) .nilIface true:=by
 obtain⟨ms,ht⟩:=oX h
 intro w
 have he:(Op.equal t (.iface d v) .nilIface).run P w=.ok false w:=by
  show (Op.equalIn (9999+1) t (.iface d v) .nilIface).run P w=_
  unfold Op.equalIn
  simp[Sem.run_bind,cN ht]
 simp[eqGuard,binOp,Sem.run_bind,he]
theorem vU{P:Program}{t:TypeId}(h:nw P t=true){x:Operand}:cP P .eql t x (.const .nilIface) .nilIface .nilIface true:=by
 obtain⟨ms,ht⟩:=oX h
 intro w
 have he:(Op.equal t .nilIface .nilIface).run P w=.ok true w:=by
  show (Op.equalIn (9999+1) t .nilIface .nilIface).run P w=_
  unfold Op.equalIn
  simp[Sem.run_bind,cN ht]
 simp[eqGuard,binOp,Sem.run_bind,he]
end Go.Vc
namespace Go.Lx
open Go.Vc
def uc:ByteArray:=⟨#[79,102]⟩
def te:ByteArray:=⟨#[67,104,101,99,107]⟩
abbrev pI(e:Int):Value:=.iface 47 (.int .i64 e)
def B4(I:b8)(call:ByteArray)(pos:Int)(err v:Value):Prop:=∃b,v=.iface 89 (.pointer (some ⟨b,0,none⟩))∧I b=some (.cells #[.string call,.int .i64 pos,err] 93 (0,0))
theorem B4.mono{I J:b8}{call:ByteArray}{pos:Int}{err v:Value}(h:B4 I call pos err v)(hl:b8.le I J):B4 J call pos err v:=let ⟨b,h1,h2⟩:=h;⟨b,h1,hl.at h2⟩
def BG(I:b8)(f:TF)(w:Value):Prop:=(f.e=0→w=.nilIface)∧(f.e≠0→B4 I uc f.pos (pI f.e) w)
theorem BG.mono{I J:b8}{f:TF}{w:Value}(h:BG I f w)(hl:b8.le I J):BG J f w:=⟨h.1,fun he=>(h.2 he).mono hl⟩
theorem BG.ok{I:b8}:BG I rC .nilIface:=⟨fun _=>rfl,fun h=>absurd rfl h⟩
def CA(r:Int×TF)(v:Value)(I:b8):Prop:=∃w,v=.tuple #[.int .u8 r.1,w]∧BG I r.2 w
theorem BG.neq{I:b8}{f:TF}{w:Value}(h:BG I f w){t:TypeId}(ht:nw P t=true){x:Operand}:cP P .neq t x (.const .nilIface) w .nilIface (f.e != 0):=by
 by_cases he:f.e=0
 ·rw[h.1 he,he];exact ub ht
 ·obtain⟨b,hw,_⟩:=h.2 he
  rw[hw,show (f.e != 0)=true by simpa using he];exact rH ht
theorem eD(t:Int)(I:b8)(F:bZ):cd P 151 #[.int .u8 t] I F (gq (.bool (fR t)) F):=by
 refine kO.vc ⟨fun h=>⟨?_,rfl⟩,fun h=>⟨?_,rfl⟩⟩<;>simp[fR] at h ⊢<;>omega
theorem pJ(t:Nd)(e:Int)(I:b8)(F:bZ)(he:e≠0)(b:Bool):cd P 136 #[t.v,.int .i64 e] I F (ja (CA (0,⟨e,t.pos,b⟩)) F):=by
 refine cd.still (jr.vc ?_)
 unfold jr.V
 intro b_n b1
 refine⟨_,[(b1,.cells #[.string uc,.int .i64 t.pos,pI e] 93 (0,0))],rfl,.refl _,fun J hJ hx=>⟨_,rfl,fun h=>absurd h he,fun _=>⟨b1,rfl, ?_⟩⟩⟩
 exact hx _ (List.mem_singleton.2 rfl)
def rI(k o cp a:Int):Int:=if k=9 then (if fR a then cp else 0) else if o=2∧a=5∨o≠2∧fR a then a else 0
theorem zR(t:Nd)(a:Int)(I:b8)(F:bZ):cd P 134 #[t.v,.int .u8 a] I F (gq (.int .u8 (rI t.kind t.oper t.cp a)) F):=by
 refine iw.vc ?_
 unfold iw.V
 unfold rI
 intro b_n
 refine⟨fun h9=>cd.ret (eD a I _) fun I1 l1=>⟨_,rfl,F,.refl _,fun hn=>?_,fun hn=>⟨fun _=>?_,fun h=>?_⟩⟩,fun h9=>⟨fun h=>?_,fun _=>⟨fun h2=>⟨fun h5=>?_,fun h5=>⟨fun h=>?_,fun _=>?_⟩⟩,fun h2=>⟨fun _=>cd.ret (eD a I _) fun I1 l1=>⟨_,rfl,F,.refl _,fun hn=>?_,fun hn=>?_⟩,fun h=>?_⟩⟩⟩⟩
 ·have h9:t.kind=9:=by simpa using h9
  rw[if_pos h9,if_pos hn];exact⟨rfl,rfl⟩
 ·have h9:t.kind=9:=by simpa using h9
  rw[if_pos h9,if_neg (by rw[hn];exact Bool.false_ne_true)];exact⟨rfl,rfl⟩
 ·rw[h9] at h;cases h
 ·rw[h9] at h;cases h
 ·have h9:t.kind≠9:=by simpa using h9
  have h2:t.oper=2:=by simpa using h2
  have h5:a=5:=by simpa using h5
  rw[if_neg h9,if_pos (.inl ⟨h2,h5⟩)];exact⟨rfl,rfl⟩
 ·have h2:t.oper=2:=by simpa using h2
  simp[h2] at h
 ·have h9:t.kind≠9:=by simpa using h9
  have h2:t.oper=2:=by simpa using h2
  have h5:a≠5:=by simpa using h5
  rw[if_neg h9,if_neg (by omega)];exact⟨rfl,rfl⟩
 ·have h9:t.kind≠9:=by simpa using h9
  have h2:t.oper≠2:=by simpa using h2
  rw[if_neg h9,if_pos (.inr ⟨h2,hn⟩)];exact⟨rfl,rfl⟩
 ·have h9:t.kind≠9:=by simpa using h9
  have h2:t.oper≠2:=by simpa using h2
  rw[if_neg h9,if_neg (by rw[hn];intro h;rcases h with h | h;exact h2 h.1;exact Bool.false_ne_true h.2)];exact⟨rfl,rfl⟩
 ·simp at h2 h;exact absurd h h2
def zS(o a b:Int)(v:Value)(_:b8):Prop:=∃t,v=.tuple #[.int .u8 t,.bool (jF o a b).2]∧((jF o a b).2=true→t=(jF o a b).1)
theorem dg{o a b t:Int}{r:Bool}{I:b8}{F:bZ}(h1:r=(jF o a b).2)(h2:r=true→t=(jF o a b).1):ja (zS o a b) F (.returned (.tuple #[.int .u8 t,.bool r])) I F :=
 ⟨_,rfl,⟨t,by rw[h1],h1▸h2⟩,rfl⟩
theorem gU{a:Int}:fR a=true↔1≤a∧a≤4:=by unfold fR;rw[decide_eq_true_eq]
theorem p9{a:Int}:fR a=false↔¬(1≤a∧a≤4):=by unfold fR;rw[decide_eq_false_iff_not]
theorem zT{a b:Int}(ha:fR a=true)(hb:fR b=true):IntKind.wrap .u8 (a+b)=a+b:=by
 have:=gU.1 ha;have:=gU.1 hb
 unfold IntKind.wrap;simp[IntKind.bits,IntKind.signed];omega
theorem zU(o a b:Int)(ho:4≤o∧o≤18)(I:b8)(F:bZ):cd P 135 #[.int .u8 o,.int .u8 a,.int .u8 b] I F (ja (zS o a b) F):=by
 refine ix.vc ?_
 unfold ix.V
 have e8:o=8→jF o a b=(fO a b,fO a b != 0):=fun h=>by subst h;unfold jF;rw[if_neg (by omega),if_pos rfl]
 have e9:o=9→jF o a b=(rD a b,rD a b != 0):=fun h=>by subst h;unfold jF;rw[if_neg (by omega),if_neg (by omega),if_pos rfl]
 have eq_:o=11∨o=12→jF o a b=(5,a==b):=fun h=>by unfold jF;rw[if_neg (by omega),if_neg (by omega),if_neg (by omega),if_pos h]
 have ea:o=17∨o=18→jF o a b=(5,a==b&&a==5):=fun h=>by unfold jF;rw[if_neg (by omega),if_neg (by omega),if_neg (by omega),if_neg (by omega),if_pos h]
 have el:o=13∨o=14∨o=15∨o=16→jF o a b=(5,a==b&&fR a):=fun h=>by unfold jF;rw[if_neg (by omega),if_neg (by omega),if_neg (by omega),if_neg (by omega),if_neg (by omega)]
 have es:o=4∨o=5∨o=6∨o=7∨o=10→jF o a b=(a,a==b&&fR a):=fun h=>by unfold jF;rw[if_pos (by omega)]
 have hless:∀{q:Int},(o==q)=true→o=q:=fun h=>by simpa using h
 have hnot:∀{q:Int},(o==q)=false→o≠q:=fun h=>by simpa using h
 have lt:o=13∨o=14∨o=15∨o=16→((a==b)=true→cd P 151 #[.int .u8 a] I F fun e7 I7 G7=>∃r:Bool,e7=.returned (.bool r)∧∃F7:bZ,G7.Perm F7∧ja (zS o a b) F (.returned (.tuple #[.int .u8 5,.bool r])) I7 F7)∧((a==b)=false→ja (zS o a b) F (.returned (.tuple #[.int .u8 5,.bool false])) I F):=fun h =>
  ⟨fun hab=>cd.ret (eD a I _) fun I1 l1=>⟨_,rfl,F,.refl _,dg (by rw[el h,hab,Bool.true_and]) fun _=>by rw[el h]⟩,fun hab=>dg (by rw[el h,hab,Bool.false_and]) fun h=>by cases h⟩
 have an:o=17∨o=18→((a==b)=true→ja (zS o a b) F (.returned (.tuple #[.int .u8 a,.bool (a==5)])) I F)∧((a==b)=false→ja (zS o a b) F (.returned (.tuple #[.int .u8 a,.bool false])) I F):=fun h =>
  ⟨fun hab=>dg (by rw[ea h,hab,Bool.true_and]) fun h5=>by rw[ea h];simpa using h5,fun hab=>dg (by rw[ea h,hab,Bool.false_and]) fun h=>by cases h⟩
 refine⟨fun h8=>?_,fun h8=>⟨fun h9=>?_,fun h9=>⟨fun h=>dg (by rw[eq_ (.inl (hless h))]) fun _=>by rw[eq_ (.inl (hless h))],fun h11=>⟨fun h=>dg (by rw[eq_ (.inr (hless h))]) fun _=>by rw[eq_ (.inr (hless h))],fun h12=>⟨fun h=>an (.inl (hless h)),fun h17=>⟨fun h=>an (.inr (hless h)),fun h18=>⟨fun h=>lt (.inl (hless h)),fun h13=>⟨fun h=>lt (.inr (.inl (hless h))),fun h14=>⟨fun h=>lt (.inr (.inr (.inl (hless h)))),fun h15=>⟨fun h=>lt (.inr (.inr (.inr (hless h)))),fun h16=>?_⟩⟩⟩⟩⟩⟩⟩⟩⟩⟩
 ·have e:=e8 (hless h8)
  refine⟨fun h1=>cd.ret (eD b I _) fun I1 l1=>⟨_,rfl,F,.refl _, ?_⟩,fun h1=>⟨fun h2=>cd.ret (eD a I _) fun I1 l1=>⟨_,rfl,F,.refl _, ?_⟩,fun h2=>⟨fun h3=>⟨fun h4=>cd.ret (eD a I _) fun I1 l1=>⟨_,rfl,F,.refl _,fun h5=>cd.ret (eD b I1 _) fun I2 l2=>⟨_,rfl,F,.refl _, ?_⟩,fun h5=>?_⟩,fun h4=>?_⟩,fun h3=>?_⟩⟩⟩
  ·have h1:a=1:=by simpa using h1
   subst h1
   cases hb:fR b
   ·have:=p9.1 hb
    exact dg (by rw[e];unfold fO;simp[hb];omega) fun h=>by cases h
   ·have:=gU.1 hb
    exact dg (by rw[e];unfold fO;simp[hb];omega) fun _=>by rw[e];unfold fO;simp[hb]
  ·have h1:a≠1:=by simpa using h1
   have h2:b=1:=by simpa using h2
   subst h2
   cases hb:fR a
   ·have:=p9.1 hb
    exact dg (by rw[e];unfold fO;simp[hb,h1]) fun h=>by cases h
   ·have:=gU.1 hb
    exact dg (by rw[e];unfold fO;simp[hb,h1];omega) fun _=>by rw[e];unfold fO;simp[hb,h1]
  ·have h1:a≠1:=by simpa using h1
   have h2:b≠1:=by simpa using h2
   have h3:a≠b:=by simpa using h3
   have h4:IntKind.wrap .u8 (a+b)=5:=by simpa using h4
   have ha:=gU.1 h5
   cases hb:fR b
   ·have:=p9.1 hb
    have hz:fO a b=0:=by unfold fO;rw[if_neg (fun h=>h1 h.1),if_neg (fun h=>h2 h.1),if_neg (by omega)]
    exact dg (by rw[e,hz];rfl) fun h=>by cases h
   ·have:=gU.1 hb
    rw[zT h5 hb] at h4
    have hz:fO a b=1:=by unfold fO;rw[if_neg (fun h=>h1 h.1),if_neg (fun h=>h2 h.1),if_pos (by omega)]
    exact dg (by rw[e,hz];rfl) fun _=>by rw[e,hz]
  ·have h1:a≠1:=by simpa using h1
   have h2:b≠1:=by simpa using h2
   have:=p9.1 h5
   have hz:fO a b=0:=by unfold fO;rw[if_neg (fun h=>h1 h.1),if_neg (fun h=>h2 h.1),if_neg (by omega)]
   exact dg (by rw[e,hz];rfl) fun h=>by cases h
  ·have h1:a≠1:=by simpa using h1
   have h2:b≠1:=by simpa using h2
   have hz:fO a b=0:=by
    unfold fO;rw[if_neg (fun h=>h1 h.1),if_neg (fun h=>h2 h.1),if_neg]
    intro h
    rcases h with ⟨rfl,rfl⟩ | ⟨rfl,rfl⟩<;>exact absurd h4 (by decide)
   exact dg (by rw[e,hz];rfl) fun h=>by cases h
  ·have h1:a≠1:=by simpa using h1
   have h2:b≠1:=by simpa using h2
   have h3:a=b:=by simpa using h3
   have hz:fO a b=0:=by unfold fO;rw[if_neg (fun h=>h1 h.1),if_neg (fun h=>h2 h.1),if_neg (by omega)]
   exact dg (by rw[e,hz];rfl) fun h=>by cases h
 ·have e:=e9 (hless h9)
  refine⟨fun h1=>cd.ret (eD a I _) fun I1 l1=>⟨_,rfl,F,.refl _, ?_⟩,fun h1=>⟨fun h2=>cd.ret (eD a I _) fun I1 l1=>⟨_,rfl,F,.refl _, ?_⟩,fun h2=>?_⟩⟩
  ·have h1:b=1:=by simpa using h1
   subst h1
   cases ha:fR a
   ·exact dg (by rw[e];unfold rD;simp[ha]) fun h=>by cases h
   ·have:=gU.1 ha
    exact dg (by rw[e];unfold rD;simp[ha];omega) fun _=>by rw[e];unfold rD;simp[ha]
  ·have h1:b≠1:=by simpa using h1
   have h2:a=b:=by simpa using h2
   subst h2
   cases ha:fR a
   ·exact dg (by rw[e];unfold rD;simp[ha]) fun h=>by cases h
   ·exact dg (by rw[e];unfold rD;simp[ha,h1]) fun _=>by rw[e];unfold rD;simp[ha,h1]
  ·have h1:b≠1:=by simpa using h1
   have h2:a≠b:=by simpa using h2
   exact dg (by rw[e];unfold rD;simp[h1,h2]) fun h=>by cases h
 ·have e:=es (by have:=hnot h8;have:=hnot h9;have:=hnot h11;have:=hnot h12;have:=hnot h17;have:=hnot h18;have:=hnot h13;have:=hnot h14;have:=hnot h15;have:=hnot h16;omega)
  exact⟨fun hab=>cd.ret (eD a I _) fun I1 l1=>⟨_,rfl,F,.refl _,dg (by rw[e,hab,Bool.true_and]) fun _=>by rw[e]⟩,fun hab=>dg (by rw[e,hab,Bool.false_and]) fun h=>by cases h⟩
def c8:List dF→ByteArray→Option Int
 | [],_=>none
 | r::l,k=>if k=r.name then some r.cp else c8 l k
theorem jW{a b:ByteArray}:(a.toList==b.toList)=true↔a=b:=by
 rw[beq_iff_eq]
 exact⟨Cw,fun h=>by rw[h]⟩
theorem tf(k:ByteArray):∀(l:List dF) (i:Int),0≤i→c8 l k=if lG k (l.map dF.name) i<0 then none else ((l[(lG k (l.map dF.name) i-i).toNat]?).map dF.cp)
 | [],i,hi=>by rw[c8,List.map_nil,lG,if_pos (by omega)]
 | r::l,i,hi=>by
   rw[c8,List.map_cons,lG]
   by_cases h:k=r.name
   ·rw[if_pos h,if_pos (jW.2 h.symm),if_neg (by omega)];simp
   ·rw[if_neg h,if_neg (fun h'=>h (jW.1 h').symm),tf k l (i+1) (by omega)]
    by_cases hn:lG k (l.map dF.name) (i+1)<0
    ·rw[if_pos hn,if_pos hn]
    ·rw[if_neg hn,if_neg hn]
     have hge:∀(l:List ByteArray) (j:Int),¬lG k l j<0→j≤lG k l j:=by
      intro l
      induction l with
      | nil=>intro j h;rw[lG] at h;exact absurd (by decide) h
      | cons x r ih =>
        intro j h
        rw[lG] at h ⊢
        split
        ·exact Int.le_refl _
        ·rename_i hx;rw[if_neg hx] at h;have:=ih (j+1) h;omega
     have:=hge _ _ hn
     rw[show (lG k (l.map dF.name) (i+1)-i).toNat=(lG k (l.map dF.name) (i+1)-(i+1)).toNat+1 by omega,List.getElem?_cons_succ]
theorem Bd(k:ByteArray):∀(l:List ByteArray) (j:Int),¬lG k l j<0→j≤lG k l j∧lG k l j<j+l.length
 | [],j,h=>by rw[lG] at h;exact absurd (by decide) h
 | x::r,j,h=>by
   rw[lG] at h ⊢
   split
   ·rw[List.length_cons];exact⟨Int.le_refl _,by omega⟩
   ·rename_i hx;rw[if_neg hx] at h;have:=Bd k r (j+1) h;rw[List.length_cons];omega
theorem rJ(s:cu)(k:ByteArray):c8 s.regs k=if s.iZ k<0 then none else some (s.kG (s.iZ k)):=by
 rw[tf k s.regs 0 (by omega)]
 unfold cu.kG cu.iZ
 by_cases h:lG k (s.regs.map dF.name) 0<0
 ·rw[if_pos h,if_pos h]
 ·rw[if_neg h,if_neg h]
  obtain⟨h1,h2⟩:=Bd k _ _ h
  rw[List.length_map] at h2
  rw[Int.sub_zero]
  have hlt:(lG k (s.regs.map dF.name) 0).toNat<s.regs.length:=by omega
  rw[List.getElem?_eq_getElem hlt];rfl
theorem lK(k:ByteArray)(r:dF):∀l:List dF,c8 (l++[r]) k=match c8 l k with
  | some t=>some t
  | none=>if k=r.name then some r.cp else none
 | []=>by rw[List.nil_append,c8,c8,c8]
 | x::l=>by
   rw[List.cons_append,c8,c8]
   by_cases h:k=x.name
   ·rw[if_pos h,if_pos h]
   ·rw[if_neg h,if_neg h,lK k r l]
def yE(I:b8)(c:Nat)(s:cu)(m1 m2:Nat):Prop:=∃m0 es ck,I c=some (.cells #[.map (some m0),.map (some m1),.map (some m2)] 164 (0,0))∧I m0=some (.map es ck)∧iO Value.string (Value.int .u8) (c8 s.regs) es ck
theorem yE.mono{I J:b8}{c:Nat}{s:cu}{m1 m2:Nat}(h:yE I c s m1 m2)(hl:b8.le I J):yE J c s m1 m2:=let ⟨m0,es,ck,h1,h2,h3⟩:=h;⟨m0,es,ck,hl.at h1,hl.at h2,h3⟩
theorem B5:P.underlying 161=some (.map 9 24):=by kernel_rfl
theorem B6:P.underlying 162=some (.map 9 3):=by kernel_rfl
theorem vV:P.underlying 9=some .string:=by kernel_rfl
theorem Be:(P.info? 24).map (·.zero)=some (some (.int .u8 0)):=by kernel_rfl
theorem Bf:(P.info? 3).map (·.zero)=some (some (.int .i64 0)):=by kernel_rfl
theorem vW{x:Px}(h:x.formed=true)(h0:x.kids.length=0):x.kind=1∨x.kind=2∨x.kind=3∨x.kind=4:=by
 rcases Classical.em (x.kind=1) with h1 | h1
 ·exact .inl h1
 rcases Classical.em (x.kind=2) with h2 | h2
 ·exact .inr (.inl h2)
 rcases Classical.em (x.kind=3) with h3 | h3
 ·exact .inr (.inr (.inl h3))
 rcases Classical.em (x.kind=4) with h4 | h4
 ·exact .inr (.inr (.inr h4))
 rcases Classical.em (x.kind=7) with h7 | h7
 ·have:=vQ h h7;omega
 rcases Classical.em (x.kind=9) with h9 | h9
 ·have:=vR h h9;omega
 have:=vS h h1 h2 h3 h4 h7 h9
 omega
theorem xM{x:Px}(h:x.formed=true)(hk:x.kind=9):x.cp≠0:=by
 have h1:=(eA h).1
 unfold Px.vf at h1
 rw[if_neg (by omega),if_neg (by omega),if_neg (by omega),if_neg (by omega),if_neg (by omega),if_neg (by omega),if_neg (by omega),if_neg (by omega),if_pos hk] at h1
 have:=of_decide_eq_true h1
 omega
theorem xN{x:Px}(h:x.formed=true)(h2:x.kids.length=2):x.kind≠1∧x.kind≠2∧x.kind≠3∧x.kind≠4∧x.kind≠7∧x.kind≠9∧((x.kind=6∧6≤x.oper∧x.oper≤18)∨(x.kind=8∧(x.oper=4∨x.oper=5))):=by
 obtain⟨g1,g2⟩:=eA h
 rw[h2] at g2
 unfold Px.arity at g2
 unfold Px.vf at g1
 split at g2
 ·omega
 ·rename_i k59
  split at g2
  ·rename_i k6
   rw[if_neg (by omega),if_neg (by omega),if_neg (by omega),if_neg (by omega),if_neg (by omega),if_pos k6] at g1
   have:=of_decide_eq_true g1
   omega
  ·split at g2
   ·omega
   ·split at g2
    ·rename_i k8
     rw[if_neg (by omega),if_neg (by omega),if_neg (by omega),if_neg (by omega),if_neg (by omega),if_neg (by omega),if_neg (by omega),if_pos k8] at g1
     have:=of_decide_eq_true g1
     split at g2<;>omega
    ·omega
theorem Bg{x:Px}(h:x.formed=true)(h2:x.kids.length=1):x.kind≠1∧x.kind≠2∧x.kind≠3∧x.kind≠4∧x.kind≠7∧x.kind≠6:=by
 obtain⟨g1,g2⟩:=eA h
 rw[h2] at g2
 unfold Px.arity at g2
 split at g2
 ·omega
 ·split at g2
  ·omega
  ·split at g2
   ·omega
   ·split at g2<;>omega
theorem Bh{x:Px}(h:x.formed=true)(h2:3≤x.kids.length):x.kind=7∧x.kids.length=3:=by
 obtain⟨g1,g2⟩:=eA h
 unfold Px.arity at g2
 split at g2
 ·omega
 ·split at g2
  ·omega
  ·split at g2
   ·exact⟨by assumption,g2⟩
   ·split at g2
    ·split at g2<;>omega
    ·omega
theorem zV{s:cF}{c m1 m2:Nat}(t:Nd)(hf:t.px.formed=true)(h0:t.kids.length=0)(I:b8)(F:bZ)(hS:yE I c s.p m1 m2) :
  cd P 133 #[.pointer (some ⟨c,0,none⟩),t.v] I F (ja (CA (dR s.p t.px [])) F):=by
 refine ff.vc ?_
 unfold ff.V
 have hk:t.kind=1∨t.kind=2∨t.kind=3∨t.kind=4:=by
  have:=vW hf (by rw[Nd.gY,h0]);rwa [Nd.cQ] at this
 have hfld:t.kind=3→1≤t.field∧t.field≤6:=fun h=>by
  have:=tZ hf (by rw[Nd.cQ];exact h);rwa [Nd.jS] at this
 have ok:∀{J:b8} {x:Int},dR s.p t.px []=(x,rC)→ja (CA (dR s.p t.px [])) F (.returned (.tuple #[.int .u8 x,.nilIface])) J F:=fun e=>by rw[e];exact⟨_,rfl,⟨_,rfl,BG.ok⟩,rfl⟩
 have eN:∀{x:Int},(t.kind=2→¬s.p.iZ t.name<0)→iS s.p t.px []=(x,true)→dR s.p t.px []=(x,rC):=fun hn e=>by
  unfold dR;rw[Nd.cQ,Nd.gE,if_neg (fun h=>hn h.1 h.2),e,if_pos rfl]
 have e1:t.kind=1→dR s.p t.px []=(t.cp,rC):=fun h=>eN (fun h2=>by omega) (by
  unfold iS;rw[Nd.cQ,Nd.jD,if_pos h])
 have e4:t.kind=4→dR s.p t.px []=(5,rC):=fun h=>eN (fun h2=>by omega) (by
  unfold iS;rw[Nd.cQ,if_neg (by omega),if_neg (by omega),if_neg (by omega),if_pos h])
 have e3:t.kind=3→dR s.p t.px []=(gQ A9 (t.field-1).toNat,rC):=fun h=>eN (fun h2=>by omega) (by
  unfold iS;rw[Nd.cQ,Nd.jS,if_neg (by omega),if_neg (by omega),if_pos h])
 intro b_n
 refine⟨fun h=>ok (e1 (by simpa using h)),fun h1=>⟨fun h=>ok (e4 (by simpa using h)),fun h4=>⟨fun h=>?_,fun h2=>?_⟩⟩⟩
 ·have h2:t.kind=2:=by simpa using h
  obtain⟨m0,es,ck,hc,hm,hg⟩:=hS
  refine⟨_,rfl,some m0,⟨rfl,_,_,_,.inl hc,fun j hj=>?_⟩, ?_⟩
  ·have:j=0:=by simpa using hj
   subst this;rfl
  refine cG.mono (oP B5 vV jk str_inj Be hg (.inl hm) t.name) fun v I1 G hl ⟨hv,hI,hG⟩=>?_
  subst hI hG
  rw[rJ] at hv
  by_cases hr:s.p.iZ t.name<0
  ·rw[if_pos hr] at hv
   refine⟨0,false,hv,F,.refl _,fun h=>(by cases h),fun _=>?_⟩
   refine cd.gT (pJ t 151 I1 _ (by decide) true) fun v1 I2 l2 ⟨w,hv1,hw⟩=>?_
   refine⟨_,_,by rw[hv1],F,.refl _,_,rfl,⟨w, ?_, ?_⟩,rfl⟩
   ·unfold dR;rw[Nd.cQ,Nd.gE,if_pos ⟨h2,hr⟩]
   ·unfold dR;rw[Nd.cQ,Nd.gE,if_pos ⟨h2,hr⟩,Nd.tN];exact hw
  ·rw[if_neg hr] at hv
   refine⟨s.p.kG (s.p.iZ t.name),true,hv,F,.refl _,fun _=>ok ?_,fun h=>by cases h⟩
   exact eN (fun _=>hr) (by unfold iS;rw[Nd.cQ,Nd.gE,if_neg (by omega),if_pos h2])
 ·have h3:t.kind=3:=by simp at h1 h4 h2;omega
  obtain⟨f1,f2⟩:=hfld h3
  refine⟨fun h=>ok ?_,fun h5=>⟨fun h=>ok ?_,fun h4=>⟨fun h=>ok ?_,fun h6=>ok ?_⟩⟩⟩<;>rw[e3 h3]
  ·rw[show t.field=5 by simpa using h];rfl
  ·rw[show t.field=4 by simpa using h];rfl
  ·rw[show t.field=6 by simpa using h];rfl
  ·have:t.field=1∨t.field=2∨t.field=3:=by simp at h5 h4 h6;omega
   rcases this with h | h | h<;>rw[h]<;>rfl
def lO(ts:List Int):Obj:=.cells #[.int .u8 (gQ ts 0),.int .u8 (gQ ts 1),.int .u8 (gQ ts 2)] 204 (0,0)
theorem pK(b n:Nat):(⟨b,0,none⟩:Addr).add n=⟨b,n,none⟩:=by unfold Addr.add;split<;>simp_all
theorem rK{I:b8}{G:bZ}{b:Nat}{ts:List Int}(h:(b,lO ts)∈G){i:Nat}(hi:i<3):Rd I G ((⟨b,0,none⟩:Addr).add i) [.int .u8 (gQ ts i)]:=by
 rw[pK]
 refine⟨rfl,_,_,_,.inr h,fun j hj=>?_⟩
 have:j=0:=by simpa using hj
 subst this
 match i,hi with
 | 0,_=>rfl
 | 1,_=>rfl
 | 2,_=>rfl
theorem C9{ts:List Int}(x:Int)(h:ts.length<3):Obj.cells (cf ts.length [Value.int .u8 x] [.int .u8 (gQ ts 0),.int .u8 (gQ ts 1),.int .u8 (gQ ts 2)]).toArray 204 (0,0)=lO (ts++[x]):=by
 match ts,h with
 | [],_=>rfl
 | [a],_=>rfl
 | [a,b],_=>rfl
theorem xO{x:Px}(h:x.formed=true):x.kids.length≤3:=by
 rw[(eA h).2]
 unfold Px.arity
 repeat' split
 all_goals omega
def Bi(k o cp a:Int):Int×Bool:=if k=9 then (cp,fR a) else if o=2 then (5,a==5) else (a,fR a)
theorem Da(k o cp a:Int)(ht:k=9→cp≠0):((Bi k o cp a).2=true↔rI k o cp a≠0)∧(rI k o cp a≠0→(Bi k o cp a).1=rI k o cp a):=by
 have h0:fR a=true→a≠0:=fun h=>by have:=gU.1 h;omega
 unfold Bi rI
 by_cases h9:k=9
 ·by_cases hn:fR a=true
  ·simp[h9,hn,ht h9]
  ·simp[h9,hn]
 ·by_cases ho:o=2
  ·by_cases h5:a=5
   ·simp[h9,ho,h5]
   ·simp[h9,ho,h5]
  ·by_cases hn:fR a=true
   ·simp[h9,ho,hn,h0 hn]
   ·simp[h9,ho,hn]
set_option maxHeartbeats 1000000 in
theorem yF{s:cF}{c m1 m2:Nat}:∀(t:Nd),t.px.formed=true→∀(I:b8) (F:bZ),yE I c s.p m1 m2→cB I F t →
  cd P 107 #[.pointer (some ⟨c,0,none⟩),t.v] I F (ja (CA (typed s.p t.px)) F):=by
 refine Nd.ind fun t ih hf I F hS ht=>cd.still ?_
 have ekid:t.px.kids=t.kids.map Nd.px:=Nd.dH t
 have hlen:t.kids.length≤3:=by have:=xO hf;rwa [Nd.gY] at this
 refine gh.vc (fun nA lA x x1 i m I0 F0 I' F'=>0≤i∧i≤t.kids.length∧m=(t.kids.length-i).toNat∧(∀k∈t.kids.take i.toNat,(typed s.p k.px).2.e=0) ∧
  ∃b,lA=some (⟨b,0,none⟩:Addr)∧F'.Perm ((b,lO ((t.kids.take i.toNat).map fun k=>(typed s.p k.px).1))::F)) ?_
 unfold gh.V
 intro b_n b_l
 refine⟨⟨_,by omega,by omega,rfl,fun k hk=>by simp at hk,b_l,rfl,.refl _⟩,fun x x1 i m I1 F1 l1 ⟨g0,g1,gm,hall,b,hb,hF1⟩=>?_⟩
 obtain rfl:b_l=b:=by simpa using hb
 have hS1:yE I1 c s.p m1 m2:=hS.mono l1
 have hsub:∀y,y∈F→y∈F1:=fun y hy=>hF1.mem_iff.2 (List.mem_cons_of_mem _ hy)
 have ht1:cB I1 F1 t:=ht.mono l1 hsub
 refine⟨fun hlt=>?_,fun hlt=>?_⟩
 ·have hlt:=of_decide_eq_true hlt
  obtain⟨ad,k,had,hk,hrd,hko,hkm⟩:=ht1.kids.at g0 hlt
  have hkf:=Px.kq hf k.px (by rw[ekid];exact List.mem_map_of_mem hkm)
  have hbad:(typed s.p k.px).2.e≠0→typed s.p t.px=(0,(typed s.p k.px).2):=fun he=>zQ (i:=i.toNat) (fun y hy=>by
   rw[ekid,←List.map_take] at hy
   obtain⟨z,hz,rfl⟩:=List.mem_map.1 hy
   exact hall z hz) (by rw[ekid,List.getElem?_map,hk];rfl) he
  refine⟨⟨g0,hlt⟩,ad,had,_,_,_,_,_,_,_,_,_,_,hrd.sub (b8.le_refl _) (fun y hy=>.tail _ hy), ?_⟩
  intro b_k
  refine cd.gT (ih k hkm hkf I1 _ hS1 (hko.mono (b8.le_refl _) fun y hy=>.tail _ (.tail _ hy))) fun v I2 l2 ⟨w,hv,hw⟩=>?_
  refine⟨_,_,by rw[hv],F1,.refl _,_,hw.neq (by kernel_rfl),fun hq=>?_,fun hq=>?_⟩
  ·have he:(typed s.p k.px).2.e≠0:=by simpa using hq
   refine⟨_,[_],rfl,hF1,fun J hJ hx=>?_⟩
   rw[hbad he]
   exact⟨w,rfl,hw.mono hJ⟩
  ·have he:(typed s.p k.px).2.e=0:=by simpa using hq
   have hl3:(((t.kids.take i.toNat).map fun k=>(typed s.p k.px).1)).length=i.toNat:=by rw[List.length_map,List.length_take];omega
   refine⟨⟨g0,by omega⟩,_,_,F,by rw[pK];exact hF1,by rw[pK],by rw[pK];simp only[List.length_cons,List.length_nil];omega,(t.kids.length-(i+1)).toNat,by omega, ?_⟩
   rw[eh (n:=i+1) (by omega)]
   refine⟨by omega,by omega,rfl, ?_,b_l,rfl, ?_⟩
   ·rw[show (i+1).toNat=i.toNat+1 by omega]
    exact vT hk hall he
   ·rw[pK,show (i+1).toNat=i.toNat+1 by omega,zP hk,←C9 _ (by rw[hl3];omega),hl3,Nat.mul_one]
 ·have hlt:=of_decide_eq_false hlt
  rw[List.take_of_length_le (l:=t.kids) (i:=i.toNat) (by omega)] at hall hF1
  have hty:typed s.p t.px=dR s.p t.px (t.kids.map fun k=>(typed s.p k.px).1):=by
   rw[Bc (fun k hk=>by
    rw[ekid] at hk
    obtain⟨z,hz,rfl⟩:=List.mem_map.1 hk
    exact hall z hz),ekid,List.map_map]
   rfl
  rw[hty]
  have htl:(t.kids.map fun k=>(typed s.p k.px).1).length=t.kids.length:=List.length_map ..
  generalize (t.kids.map fun k=>(typed s.p k.px).1)=ts at hF1 htl ⊢
  have hmem:∀y:Nat×Obj,(b_l,lO ts)∈y::F1:=fun y=>.tail _ (hF1.mem_iff.2 (.head _))
  have ek:t.px.kind=t.kind:=Nd.cQ t
  have wr:∀{J:b8} {G:bZ},dR s.p t.px ts=(0,⟨152,t.pos,true⟩)→cd P 136 #[t.v,.int .i64 152] J G (ja (CA (dR s.p t.px ts)) G):=fun e=>by
   rw[e];exact pJ t 152 _ _ (by decide) true
  have fin:∀{J:b8} {x:Int},dR s.p t.px ts=(x,rC)→∃v H,Ending.returned (Value.tuple #[.int .u8 x,.nilIface])=.returned v∧F1.Perm (H++F)∧∀K,b8.le J K→(∀z∈H,K z.1=some z.2)→CA (dR s.p t.px ts) v K :=
   fun e=>⟨_,[_],rfl,hF1,fun K hJ hx=>by rw[e];exact⟨_,rfl,BG.ok⟩⟩
  have finw:∀{J:b8} {v:Value},CA (dR s.p t.px ts) v J→∃v1 H,Ending.returned v=.returned v1∧F1.Perm (H++F)∧∀K,b8.le J K→(∀z∈H,K z.1=some z.2)→CA (dR s.p t.px ts) v1 K :=
   fun ⟨w,hv,hw⟩=>⟨_,[_],rfl,hF1,fun K hJ hx=>⟨w,hv,hw.mono hJ⟩⟩
  have eN:¬t.kind=2→dR s.p t.px ts=if (iS s.p t.px ts).2 then ((iS s.p t.px ts).1,rC) else (0,⟨152,t.pos,true⟩):=fun h2=>by
   unfold dR;rw[ek,if_neg (fun h=>h2 h.1),Nd.tN]
  refine⟨fun h=>?_,fun h=>⟨fun h1=>?_,fun h1=>⟨fun h2=>?_,fun h2=>?_⟩⟩⟩
  ·have h0:t.kids.length=0:=by simpa using h
   obtain rfl:ts=[]:=List.length_eq_zero_iff.1 (by omega)
   refine cd.gT (zV t hf h0 I1 _ hS1) fun v I3 l3 hv=>?_
   obtain⟨w,hv1,hw⟩:=id hv
   exact⟨_,_,by rw[hv1],F1,.refl _,by rw[←hv1];exact finw hv⟩
  ·have h1:t.kids.length=1:=by simp at h1;omega
   obtain⟨n1,n2,n3,n4,n7,n6⟩:=Bg hf (by rw[Nd.gY,h1])
   rw[ek] at n1 n2 n3 n4 n7 n6
   have hn:iS s.p t.px ts=Bi t.kind t.oper t.cp (gQ ts 0):=by
    unfold iS Bi
    rw[ek,Nd.jD,Nd.ig,if_neg n1,if_neg n2,if_neg n3,if_neg n4,if_neg n7,if_neg (show ¬ts.length=2 by omega)]
   have hty:t.kind=9→t.cp≠0:=fun h9=>by have:=xM hf (by rw[ek];exact h9);rwa [Nd.jD] at this
   obtain⟨ho1,ho2⟩:=Da t.kind t.oper t.cp (gQ ts 0) hty
   have hE:rI t.kind t.oper t.cp (gQ ts 0)≠0→dR s.p t.px ts=(rI t.kind t.oper t.cp (gQ ts 0),rC):=fun h=>by
    rw[eN n2,hn,if_pos (ho1.2 h),ho2 h]
   have hN:rI t.kind t.oper t.cp (gQ ts 0)=0→dR s.p t.px ts=(0,⟨152,t.pos,true⟩):=fun h=>by
    rw[eN n2,hn,if_neg (fun h'=>ho1.1 h' h)]
   refine⟨⟨by omega,by omega⟩,gQ ts 0,rK (i:=0) (hmem _) (by decide), ?_⟩
   refine cd.ret (zR t (gQ ts 0) I1 _) fun I3 l3=>⟨_,rfl,F1,.refl _,fun hz=>?_,fun hz=>?_⟩
   ·have hz:rI t.kind t.oper t.cp (gQ ts 0)=0:=by simpa using hz
    refine cd.gT (wr (hN hz)) fun v I4 l4 hv=>?_
    obtain⟨w,hv1,hw⟩:=id hv
    exact⟨_,_,by rw[hv1],F1,.refl _,by rw[←hv1];exact finw hv⟩
   ·have hz:rI t.kind t.oper t.cp (gQ ts 0)≠0:=by simpa using hz
    exact fin (hE hz)
  ·have h2:t.kids.length=2:=by simp at h2;omega
   obtain⟨n1,n2,n3,n4,n7,n9,ho⟩:=xN hf (by rw[Nd.gY,h2])
   rw[ek] at n1 n2 n3 n4 n7 n9
   have hn:iS s.p t.px ts=jF t.oper (gQ ts 0) (gQ ts 1):=by
    unfold iS
    rw[ek,Nd.ig,if_neg n1,if_neg n2,if_neg n3,if_neg n4,if_neg n7,if_neg n9,if_pos (show ts.length=2 by omega)]
   rw[Nd.ig] at ho
   refine⟨⟨by omega,by omega⟩,gQ ts 0,rK (i:=0) (hmem _) (by decide),⟨by omega,by omega⟩,gQ ts 1,rK (i:=1) (hmem _) (by decide), ?_⟩
   refine cd.gT (zU t.oper (gQ ts 0) (gQ ts 1) (by omega) I1 _) fun v I3 l3 ⟨x,hv,hx⟩=>⟨_,_,congrArg Ending.returned hv,F1,.refl _,fun hz=>?_,fun hz=>?_⟩
   ·have hz:(jF t.oper (gQ ts 0) (gQ ts 1)).2=false:=by simpa using hz
    have e:dR s.p t.px ts=(0,⟨152,t.pos,true⟩):=by rw[eN n2,hn,hz];rfl
    refine cd.gT (wr e) fun v I4 l4 hv=>?_
    obtain⟨w,hv1,hw⟩:=id hv
    exact⟨_,_,by rw[hv1],F1,.refl _,by rw[←hv1];exact finw hv⟩
   ·have hz:(jF t.oper (gQ ts 0) (gQ ts 1)).2=true:=by simpa using hz
    exact fin (by rw[eN n2,hn,if_pos hz,←hx hz])
  ·have h3:3≤t.px.kids.length:=by
    rw[Nd.gY]
    have g0:t.kids.length≠0:=fun e=>by rw[e] at h;cases h
    have g1:t.kids.length≠1:=fun e=>by rw[e] at h1;cases h1
    have g2:t.kids.length≠2:=fun e=>by rw[e] at h2;cases h2
    omega
   obtain⟨k7,k3⟩:=Bh hf h3
   rw[Nd.gY] at k3
   rw[ek] at k7
   have hn:iS s.p t.px ts=(gQ ts 1,gQ ts 0==5&&gQ ts 1==gQ ts 2):=by
    unfold iS
    rw[ek,if_neg (show ¬t.kind=1 by omega),if_neg (show ¬t.kind=2 by omega),if_neg (show ¬t.kind=3 by omega),if_neg (show ¬t.kind=4 by omega),if_pos k7]
   have n2:¬t.kind=2:=by omega
   refine⟨⟨by omega,by omega⟩,gQ ts 1,rK (i:=1) (hmem _) (by decide),⟨by omega,by omega⟩,gQ ts 0,rK (i:=0) (hmem _) (by decide),fun h5=>⟨⟨by omega,by omega⟩,gQ ts 1,rK (i:=1) (hmem _) (by decide),⟨by omega,by omega⟩,gQ ts 2,rK (i:=2) (hmem _) (by decide),fun hz=>?_,fun hz=>?_⟩,fun h5=>⟨fun _=>?_,fun h=>(by cases h)⟩⟩
   ·have e:dR s.p t.px ts=(0,⟨152,t.pos,true⟩):=by
     rw[eN n2,hn]
     have:(gQ ts 1==gQ ts 2)=false:=by simpa using hz
     rw[this,Bool.and_false];rfl
    refine cd.gT (wr e) fun v I4 l4 hv=>?_
    obtain⟨w,hv1,hw⟩:=id hv
    exact⟨_,_,by rw[hv1],F1,.refl _,by rw[←hv1];exact finw hv⟩
   ·have h12:(gQ ts 1==gQ ts 2)=true:=by simpa using hz
    exact fin (by rw[eN n2,hn,h5,h12];rfl)
   ·have e:dR s.p t.px ts=(0,⟨152,t.pos,true⟩):=by
     rw[eN n2,hn,h5,Bool.false_and];rfl
    refine cd.gT (wr e) fun v I4 l4 hv=>?_
    obtain⟨w,hv1,hw⟩:=id hv
    exact⟨_,_,by rw[hv1],F1,.refl _,by rw[←hv1];exact finw hv⟩
end Go.Lx
