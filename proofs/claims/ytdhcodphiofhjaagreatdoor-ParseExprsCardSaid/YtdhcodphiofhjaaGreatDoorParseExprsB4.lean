import Derived.Test.YtdhcodphiofhjaaGreatDoorParseExprsB3
set_option linter.unusedVariables false
set_option linter.unusedSimpArgs false
set_option linter.unusedSectionVars false
set_option maxRecDepth 100000
namespace Go.Lx
open Go.Vc
theorem pM{α:Type}{x z:α}{l:List α}:(x::z::l).Perm (z::x::l):=.swap ..
theorem mD{α:Type}{x y z:α}{l:List α}:(x::y::z::l).Perm (z::x::y::l):=((List.Perm.swap z y l).cons x).trans (.swap ..)
theorem yi{α:Type}{x y w z:α}{l:List α}:(x::y::w::z::l).Perm (z::x::y::w::l):=(mD.cons x).trans (.swap ..)
theorem Db{α:Type}{x y w z:α}{A l:List α}:(x::y::w::z::(A++l)).Perm (A++(x::y::w::z::l)):=by
 have h:=List.perm_append_comm_assoc [x,y,w,z] A l
 exact h
theorem vY(l:List Nd)(t:Nd):(l++[t]).map Nd.px=l.map Nd.px++[t.px]:=by rw[List.map_append,List.map_singleton]
theorem Sl.words{I:cS}{b1 e:Nat}{ws:List ByteArray}{cells:Array Value}(hb:I b1=some (.cells cells e (0,0)))(h:cells.toList=ws.flatMap iS):Sl I 1 iS (some ⟨b1,0,none⟩) ws.length ws:=Sl.gQ (f:=iS) (z:=1) (fun _=>rfl) hb h
section
variable {q:PQ} {b:Nat} {s:PS} {I:cS} {F F0:cR} {nx:Lv} {d:Int} (h0:0≤d) (h1:d≤24) (hx:d+1≤24→eA 48 q (d+1) nx.ex) (hmx:fX q.c nx.ex)
include h0 h1 hx hmx
theorem xm(hq:q.ok I)(kind oper fL pos:Int)(many:Nat)(hmy:many≤2)(hlt:s.next<q.c.l.length)(hF:F.Perm (q.dg b s::F0)) :
  cU P 160 #[.pointer (some ⟨b,0,none⟩),.agg #[.int .u8 kind,.int .u8 oper,.int .u8 fL,.int .i64 0,.int .u8 0,.string ⟨#[]⟩,.slice none 0 0,.int .i64 pos],.int .i64 many,.int .i64 d] I F (fR q b F0 (q.c.call nx d kind oper fL pos many s)):=by
 have hl:=hq.len
 refine vW.keep ?_
 refine fO.vc (fun i n0 n1 n2 n3 n4 n5 na nn nc n7 m I' F'=>0≤i∧i≤many∧m=(many-i).toNat∧n0=kind∧n1=oper∧n2=fL∧n3=0∧n4=0∧n5=⟨#[]⟩∧n7=pos∧q.ok I'∧∃(ks:List Nd) (A:cR) (s':PS),Acc 8 Nd.enc 64 na nn nc ks A∧(∀k∈ks,dP I' [] k)∧F'.Perm (q.dg b s'::(A++F0))∧s'.next≤q.c.l.length∧ks.length=i ∧
  q.c.dA nx many true (q.c.take (⟨#[40]⟩:ByteArray) s.inc).2=(ks.map Nd.px++(q.c.dA nx (many-i.toNat) (decide (i=0)) s').1,(q.c.dA nx (many-i.toNat) (decide (i=0)) s').2)) ?_
 unfold fO.V
 intro b_n b2
 refine (oF hq d h0 (by omega) (((hF.cons _).cons _).trans mD)).mono fun e I1 G l1 ⟨he,hG⟩=>⟨_,he,q.dg b (q.c.cY d s)::F0,hG.trans mD.symm,fun h=>?_,fun h=>?_⟩
 ·have h:(q.c.cY d s).over=true:=by simpa using h
  unfold PC.call
  rw[if_pos h]
  exact⟨jR,[],rfl,by simp only[jR,Nd.px,Nd.qd];rfl,.inl Acc.nil,fun k hk=>(by cases hk),.refl _⟩
 have h:(q.c.cY d s).over=false:=by simpa using h
 obtain⟨hd,hde⟩:=ir hlt h
 have hcall:q.c.call nx d kind oper fL pos many s=(.mk kind oper fL 0 0 ⟨#[]⟩ (q.c.dA nx many true (q.c.take (⟨#[40]⟩:ByteArray) s.inc).2).1 pos,(q.c.take (⟨#[41]⟩:ByteArray) (q.c.dA nx many true (q.c.take (⟨#[40]⟩:ByteArray) s.inc).2).2).2):=by
  unfold PC.call
  rw[if_neg (by simp[h]),hde]
 rw[hde,hcall]
 have hq1:=hq.mono l1
 refine⟨_,rfl,_,PQ.rd (k:=3) (.tail _ (.tail _ (.head _))) rfl,_,rfl,q.cl s,96,F0,.refl _,PQ.spot _ _,by rw[PQ.off];exact (by decide:3+1≤7), ?_⟩
 rw[PQ.ia (by omega)]
 refine (rM hq1 _ (s:=s.inc) mD).mono fun e I2 G2 l2 ⟨he,hG2⟩=>⟨_,he,q.dg b (q.c.take (⟨#[40]⟩:ByteArray) s.inc).2::F0,hG2.trans mD.symm,⟨_,by omega,by omega,rfl,rfl,rfl,rfl,rfl,rfl,rfl,rfl,hq1.mono l2,[],[],_,Acc.nil,fun k hk=>(by cases hk),.refl _, ?_,rfl, ?_⟩, ?_⟩
 ·exact (Up.take _).2 hlt
 ·simp
 intro i n0 n1 n2 n3 n4 n5 na nn nc n7 m2 I3 F4 l3 ⟨i0,i1,im,e0,e1,e2,e3,e4,e5,e7,hq3,ks,A,s',hA,hks,hF4,hsn,hkl,hke⟩
 subst e0 e1 e2 e3 e4 e5 e7
 refine⟨fun hi=>?_,fun hi=>?_⟩
 ·have hi:=of_decide_eq_true hi
  have hmi:many-i.toNat=(many-(i+1).toNat)+1:=by omega
  rw[hmi,PC.dA] at hke
  have step:∀(s1:PS) (J:cS) (t:Nd) (e1:Ending) (I5:cS) (G5:cR) (F6:cR),True:=fun _ _ _ _ _ _ _=>trivial
  refine⟨fun hp=>?_,fun hp=>?_⟩
  ·have hp:=of_decide_eq_true hp
   refine (rM hq3 _ (s:=s') (((hF4.cons _).cons _).trans mD)).mono fun e I4 G4 l4 ⟨he,hG4⟩=>⟨_,he,q.dg b (q.c.take (⟨#[44]⟩:ByteArray) s').2::(A++F0),hG4.trans mD.symm, ?_⟩
   have hq4:=hq3.mono l4
   have hn1:(q.c.take (⟨#[44]⟩:ByteArray) s').2.next≤q.c.l.length:=(Up.take _).2 hsn
   rw[ef (n:=d+1) (by omega)]
   refine (hx hd b _ I4 _ _ hq4 hn1 mD).mono fun e I5 G5 l5 ⟨t,he,px,hok,hG5⟩=>?_
   rw[show decide (i=0)=false from decide_eq_false (by omega)] at hke
   refine⟨_,_,_,_,_,_,_,_,_,_,he,q.dg b (nx.ex (q.c.take (⟨#[44]⟩:ByteArray) s').2).2::(A++F0),hG5.trans mD.symm,fun b_k b4 I6 l6 hb4=>?_⟩
   refine (rN hA (by omega) t hb4 Db).mono fun v I7 G7 l7 ⟨a',n',c',A',hv,hA',hG7⟩=>⟨a',n',c',hv,q.dg b (nx.ex (q.c.take (⟨#[44]⟩:ByteArray) s').2).2::(A'++F0),hG7.trans Db.symm,(many-(i+1)).toNat,by omega, ?_⟩
   rw[ef (n:=i+1) (by omega)]
   refine⟨by omega,by omega,rfl,rfl,rfl,rfl,rfl,rfl,rfl,rfl,(hq4.mono l5).mono (cS.le_trans l6 l7),ks++[t],A',_,hA',fun k hk=>?_,.refl _,(hmx _).2 hn1,by rw[List.length_append,List.length_singleton];omega, ?_⟩
   ·rcases List.mem_append.1 hk with hk | hk
    ·exact (hks k hk).mono (cS.le_trans l4 (cS.le_trans l5 (cS.le_trans l6 l7))) fun _ h=>h
    ·rw[List.mem_singleton] at hk;subst hk;exact hok.mono (cS.le_trans l6 l7) fun _ h=>h
   ·rw[hke,show decide (i+1=0)=false from decide_eq_false (by omega),vY,px,List.append_assoc];rfl
  ·have hp:=of_decide_eq_false hp
   rw[ef (n:=d+1) (by omega)]
   refine (hx hd b s' I3 _ _ hq3 hsn (((hF4.cons _).cons _).trans mD)).mono fun e I5 G5 l5 ⟨t,he,px,hok,hG5⟩=>?_
   rw[show decide (i=0)=true from decide_eq_true (by omega)] at hke
   refine⟨_,_,_,_,_,_,_,_,_,_,he,q.dg b (nx.ex s').2::(A++F0),hG5.trans mD.symm,fun b_k b4 I6 l6 hb4=>?_⟩
   refine (rN hA (by omega) t hb4 Db).mono fun v I7 G7 l7 ⟨a',n',c',A',hv,hA',hG7⟩=>⟨a',n',c',hv,q.dg b (nx.ex s').2::(A'++F0),hG7.trans Db.symm,(many-(i+1)).toNat,by omega, ?_⟩
   rw[ef (n:=i+1) (by omega)]
   refine⟨by omega,by omega,rfl,rfl,rfl,rfl,rfl,rfl,rfl,rfl,(hq3.mono l5).mono (cS.le_trans l6 l7),ks++[t],A',_,hA',fun k hk=>?_,.refl _,(hmx _).2 hsn,by rw[List.length_append,List.length_singleton];omega, ?_⟩
   ·rcases List.mem_append.1 hk with hk | hk
    ·exact (hks k hk).mono (cS.le_trans l5 (cS.le_trans l6 l7)) fun _ h=>h
    ·rw[List.mem_singleton] at hk;subst hk;exact hok.mono (cS.le_trans l6 l7) fun _ h=>h
   ·rw[hke,show decide (i+1=0)=false from decide_eq_false (by omega),vY,px,List.append_assoc];rfl
 ·have hi:=of_decide_eq_false hi
  rw[show many-i.toNat=0 by omega,PC.dA,List.append_nil] at hke
  refine (rM hq3 _ (s:=s') (((hF4.cons _).cons _).trans mD)).mono fun e I4 G4 l4 ⟨he,hG4⟩=>⟨_,he,q.dg b (q.c.take (⟨#[41]⟩:ByteArray) s').2::(A++F0),hG4.trans mD.symm, ?_⟩
  rw[hke]
  have hn:=hA.1
  subst hn
  exact⟨.mk n0 n1 n2 0 0 ⟨#[]⟩ na nc ks n7,A,rfl,by rw[Nd.px,Nd.qe],.inl hA,fun k hk=>(hks k hk).mono l4 fun _ h=>h,.refl _⟩
end
end Go.Lx
namespace Go.Lx
open Go.Vc
theorem pN{q:PQ}{s:PS}{ws:List ByteArray}(h:0≤q.c.any ws s)(hl:ws.length≤6):q.c.any ws s≤5:=by have:=(dX h).2;omega
section
variable {q:PQ} {b:Nat} {s:PS} {I:cS} {F F0:cR} {nx:Lv} {d:Int} (h0:0≤d) (h1:d≤24) (hx:d+1≤24→eA 48 q (d+1) nx.ex) (hmx:fX q.c nx.ex)
include h0 h1 hx hmx
theorem Co(hq:q.ok I)(hsn:s.next≤q.c.l.length)(hF:F.Perm (q.dg b s::F0)):cU P 161 #[.pointer (some ⟨b,0,none⟩),.int .i64 d] I F (fR q b F0 (q.c.rest nx d s)):=by
 have _:=hmx
 have hl:=hq.len
 have hm:q.dg b s∈F:=hF.mem_iff.2 (.head _)
 refine fP.vc ?_
 unfold fP.V
 intro b2
 refine cU.ret (lK hq (.tail _ hm)) fun I1 l1=>⟨_,_,_,_,_,rfl,F,.refl _, ?_⟩
 have hq1:=hq.mono l1
 refine cU.ret (xk hq1 _ (.tail _ hm)) fun I2 l2=>⟨_,rfl,F,.refl _,fun hh=>?_,fun hh=>?_⟩
 ·have hlt:=jJ hh
  have hq2:=hq1.mono l2
  refine⟨_,rfl,_,PQ.rd (k:=3) (.tail _ hm) rfl,_,rfl,q.cl s,96,F0,hF,PQ.spot _ _,by rw[PQ.off];exact (by decide:3+1≤7),fun b3 I3 l3 hb3=>?_⟩
  rw[PQ.ia (by omega)]
  have hq3:=hq2.mono l3
  refine cU.ret (pL hq3 (Sl.words (ws:=[(⟨#[98,105,100]⟩:ByteArray),(⟨#[97,115,107]⟩:ByteArray),(⟨#[108,97,115,116]⟩:ByteArray)]) hb3 rfl) (by decide) (s:=s.inc) (.tail _ (.head _))) fun I4 l4=>⟨_,rfl,q.dg b s.inc::F0,.refl _,fun ha=>?_,fun ha=>?_⟩
  ·have ha:=of_decide_eq_true ha
   refine (mB (hq3.mono l4) 130 (s:=s.inc) pM).mono fun e I5 G l5 ⟨he,hG⟩=>⟨he,q.dg b (q.c.c8 130 s.inc)::F0,hG.trans pM, ?_⟩
   unfold PC.rest
   rw[if_pos hh,if_pos ha]
   exact fR.nil rfl (.refl _)
  ·have ha:=of_decide_eq_false ha
   have hab:=pN (Int.not_lt.1 ha) (by decide)
   have hlt2:=(dX (Int.not_lt.1 ha)).1
   refine⟨_,rfl,_,PQ.rd (k:=3) (.tail _ (.head _)) rfl,_,rfl,q.cl s.inc,96,F0,.refl _,PQ.spot _ _,by rw[PQ.off];exact (by decide:3+1≤7), ?_⟩
   rw[PQ.ia (s:=s.inc) (by omega),ef (n:=q.c.any [(⟨#[98,105,100]⟩:ByteArray),(⟨#[97,115,107]⟩:ByteArray),(⟨#[108,97,115,116]⟩:ByteArray)] s.inc+1) (by omega),w8 (by omega)]
   unfold PC.rest
   rw[if_pos hh,if_neg ha]
   exact fR.nil rfl (.refl _)
 ·have hq2:=hq1.mono l2
  refine cU.ret (xk hq2 _ (.tail _ hm)) fun I3 l3=>⟨_,rfl,F,.refl _,fun hb=>?_,fun hb=>?_⟩
  ·have hb:q.c.eC (⟨#[40]⟩:ByteArray) s=false:=by simpa using hb
   refine (mB (hq2.mono l3) 130 ((hF.cons _).trans pM)).mono fun e I5 G l5 ⟨he,hG⟩=>⟨he,q.dg b (q.c.c8 130 s)::F0,hG.trans pM, ?_⟩
   unfold PC.rest
   rw[if_neg (by simp[hh]),if_neg (by simp[hb])]
   exact fR.nil rfl (.refl _)
  ·have hb:q.c.eC (⟨#[40]⟩:ByteArray) s=true:=by simpa using hb
   have hlt:=jJ hb
   have hq3:=hq2.mono l3
   refine (oF hq3 d h0 (by omega) ((hF.cons _).trans pM)).mono fun e I4 G l4 ⟨he,hG⟩=>⟨_,he,q.dg b (q.c.cY d s)::F0,hG.trans pM,fun h=>?_,fun h=>?_⟩
   ·have h:(q.c.cY d s).over=true:=by simpa using h
    unfold PC.rest
    rw[if_neg (by simp[hh]),if_pos hb,if_pos h]
    exact fR.nil rfl (.refl _)
   ·have h:(q.c.cY d s).over=false:=by simpa using h
    obtain⟨hd,hde⟩:=ir hlt h
    have hr:q.c.rest nx d s=((nx.ex s.inc).1,(q.c.take (⟨#[41]⟩:ByteArray) (nx.ex s.inc).2).2):=by
     unfold PC.rest
     rw[if_neg (by simp[hh]),if_pos hb,if_neg (by simp[h]),hde]
    rw[hde,hr]
    refine⟨_,rfl,_,PQ.rd (k:=3) (.tail _ (.head _)) rfl,_,rfl,q.cl s,96,F0,.refl _,PQ.spot _ _,by rw[PQ.off];exact (by decide:3+1≤7), ?_⟩
    rw[PQ.ia (by omega),ef (n:=d+1) (by omega)]
    have hq4:=hq3.mono l4
    refine (hx hd b s.inc I4 _ _ hq4 hlt pM).mono fun e I5 G5 l5 ⟨t,he,px,hok,hG5⟩=>?_
    refine⟨_,_,_,_,_,_,_,_,_,_,he,q.dg b (nx.ex s.inc).2::F0,hG5.trans pM,fun b_n=>?_⟩
    refine (rM (hq4.mono l5) _ (s:=(nx.ex s.inc).2) mD).mono fun e I6 G6 l6 ⟨he,hG6⟩=>⟨_,he,q.dg b (q.c.take (⟨#[41]⟩:ByteArray) (nx.ex s.inc).2).2::F0,hG6.trans mD.symm, ?_⟩
    exact⟨t,rfl,px,hok.mono l6 fun _ h=>h,.refl _⟩
theorem Dc(hq:q.ok I)(hsn:s.next≤q.c.l.length)(hF:F.Perm (q.dg b s::F0)):cU P 159 #[.pointer (some ⟨b,0,none⟩),.int .i64 d] I F (fR q b F0 (q.c.one nx d s)):=by
 have hl:=hq.len
 refine gB.vc ?_
 unfold gB.V
 intro b2
 refine (zi hq ((hF.cons _).trans pM)).mono fun e I1 G l1 ⟨t,he,px,hok,hG⟩=>?_
 refine⟨_,_,_,_,_,_,_,_,_,_,_,he,q.dg b (q.c.literal s).2::F0,hG.trans pM,fun b_n=>⟨fun h=>?_,fun h=>?_⟩⟩
 ·unfold PC.one
  rw[if_pos h]
  exact⟨t,rfl,px,hok,.refl _⟩
 have hls:(q.c.literal s).2=s:=by
  unfold PC.literal at h ⊢
  split
  ·rename_i h1;rw[if_pos h1] at h;cases h
  ·rename_i h1
   rw[if_neg h1] at h
   split
   ·rename_i h2;rw[if_pos h2] at h;cases h
   ·rename_i h2
    rw[if_neg h2] at h
    split
    ·rename_i h3;rw[if_pos h3] at h;cases h
    ·rfl
 rw[hls]
 have hq1:=hq.mono l1
 refine cU.ret (lK hq1 (.tail _ (.tail _ (.head _)))) fun I2 l2=>⟨_,_,_,_,_,rfl,q.dg b s::F0,.refl _,fun b_t=>⟨fun hk=>?_,fun hk=>?_⟩⟩
 ·have hk:(q.c.now s).kind=2:=by simpa using hk
  have hlt:=lr (by rw[hk];decide:(q.c.now s).kind≠0)
  refine⟨_,rfl,_,PQ.rd (k:=3) (.tail _ (.tail _ (.tail _ (.head _)))) rfl,_,rfl,q.cl s,96,F0,.refl _,PQ.spot _ _,by rw[PQ.off];exact (by decide:3+1≤7), ?_⟩
  rw[PQ.ia (by omega)]
  unfold PC.one
  rw[if_neg (by simp[h]),if_pos hk]
  exact fR.nil rfl (.refl _)
 have hk:(q.c.now s).kind≠2:=by simpa using hk
 have hq2:=hq1.mono l2
 intro b3 I3 l3 hb3
 have hq3:=hq2.mono l3
 refine cU.ret (pL hq3 (Sl.words (ws:=jh) hb3 rfl) (by decide) (s:=s) (.tail _ (.tail _ (.tail _ (.head _))))) fun I4 l4=>⟨_,rfl,q.dg b s::F0,.refl _,fun ha=>?_,fun ha=>?_⟩
 ·have ha:=of_decide_eq_true ha
  have hab:=pN ha (by decide)
  have hlt:=(dX ha).1
  refine⟨_,rfl,_,PQ.rd (k:=3) (.tail _ (.tail _ (.tail _ (.head _)))) rfl,_,rfl,q.cl s,96,F0,.refl _,PQ.spot _ _,by rw[PQ.off];exact (by decide:3+1≤7), ?_⟩
  rw[PQ.ia (by omega),ef (n:=q.c.any jh s+1) (by omega),w8 (by omega)]
  unfold PC.one
  rw[if_neg (by simp[h]),if_neg hk,if_pos ha]
  exact fR.nil rfl (.refl _)
 have ha:=of_decide_eq_false ha
 have hq4:=hq3.mono l4
 intro b5 I5 l5 hb5
 have hq5:=hq4.mono l5
 refine cU.ret (pL hq5 (Sl.words (ws:=eO) hb5 rfl) (by decide) (s:=s) (.tail _ (.tail _ (.tail _ (.head _))))) fun I6 l6=>⟨_,rfl,q.dg b s::F0,.refl _,fun hc=>?_,fun hc=>?_⟩
 ·have hc:=of_decide_eq_true hc
  have hab:=pN hc (by decide)
  have hlt:=(dX hc).1
  have hq6:=hq5.mono l6
  have hone:q.c.one nx d s=q.c.call nx d 8 (3+q.c.any eO s) 0 (q.c.now s).pos (if q.c.any eO s=0 then 1 else 2) s:=by
   unfold PC.one
   rw[if_neg (by simp[h]),if_neg hk,if_neg ha,if_pos hc]
  rw[hone,w8 (n:=q.c.any eO s) (by omega),w8 (n:=3+q.c.any eO s) (by omega)]
  refine⟨fun hz=>?_,fun hz=>?_⟩
  ·have hz:q.c.any eO s=0:=by simpa using hz
   rw[if_pos hz]
   refine (xm h0 h1 hx hmx hq6 8 (3+q.c.any eO s) 0 (q.c.now s).pos 1 (by decide) hlt yi).mono fun e I7 G7 l7 ⟨t,he,px,hok,hG7⟩=>?_
   exact⟨_,_,_,_,_,_,_,_,_,_,he,_,hG7.trans yi.symm,t,rfl,px,hok,.refl _⟩
  ·have hz:q.c.any eO s≠0:=by simpa using hz
   rw[if_neg hz]
   refine (xm h0 h1 hx hmx hq6 8 (3+q.c.any eO s) 0 (q.c.now s).pos 2 (by decide) hlt yi).mono fun e I7 G7 l7 ⟨t,he,px,hok,hG7⟩=>?_
   exact⟨_,_,_,_,_,_,_,_,_,_,he,_,hG7.trans yi.symm,t,rfl,px,hok,.refl _⟩
 have hc:=of_decide_eq_false hc
 have hq6:=hq5.mono l6
 intro b7 I7 l7 hb7
 have hq7:=hq6.mono l7
 refine cU.ret (pL hq7 (Sl.words (ws:=iM) hb7 rfl) (by decide) (s:=s) (.tail _ (.tail _ (.tail _ (.head _))))) fun I8 l8=>⟨_,rfl,q.dg b s::F0,.refl _,fun hv=>?_,fun hv=>?_⟩
 ·have hv:=of_decide_eq_true hv
  have hab:=pN hv (by decide)
  have hlt:=(dX hv).1
  have hone:q.c.one nx d s=q.c.call nx d 9 0 (1+q.c.any iM s) (q.c.now s).pos 1 s:=by
   unfold PC.one
   rw[if_neg (by simp[h]),if_neg hk,if_neg ha,if_neg hc,if_pos hv]
  rw[hone,w8 (n:=q.c.any iM s) (by omega),w8 (n:=1+q.c.any iM s) (by omega)]
  refine (xm h0 h1 hx hmx (hq7.mono l8) 9 0 (1+q.c.any iM s) (q.c.now s).pos 1 (by decide) hlt yi).mono fun e I9 G9 l9 ⟨t,he,px,hok,hG9⟩=>?_
  exact⟨_,_,_,_,_,_,_,_,_,_,he,_,hG9.trans yi.symm,t,rfl,px,hok,.refl _⟩
 have hv:=of_decide_eq_false hv
 have hone:q.c.one nx d s=q.c.rest nx d s:=by
  unfold PC.one
  rw[if_neg (by simp[h]),if_neg hk,if_neg ha,if_neg hc,if_neg hv]
 rw[hone]
 refine (Co h0 h1 hx hmx (hq7.mono l8) hsn yi).mono fun e I9 G9 l9 ⟨t,he,px,hok,hG9⟩=>?_
 exact⟨_,_,_,_,_,_,_,_,_,_,he,_,hG9.trans yi.symm,t,rfl,px,hok,.refl _⟩
theorem Be(hu:d+1≤24→eA 157 q (d+1) nx.un)(hmu:fX q.c nx.un):eA 157 q d (q.c.unary nx d):=by
 intro b s I F F0 hq hsn hF
 have hl:=hq.len
 refine vW.keep ?_
 refine fu.vc ?_
 unfold fu.V
 intro b2 b3 I1 l1 hb3
 have hq1:=hq.mono l1
 have hm:q.dg b s∈F:=hF.mem_iff.2 (.head _)
 refine cU.ret (pL hq1 (Sl.words (ws:=ke) hb3 rfl) (by decide) (s:=s) (.tail _ hm)) fun I2 l2=>⟨_,rfl,F,.refl _,fun ha=>?_,fun ha=>?_⟩
 ·have ha:=of_decide_eq_true ha
  refine (Dc h0 h1 hx hmx (hq1.mono l2) hsn ((hF.cons _).trans pM)).mono fun e I3 G3 l3 ⟨t,he,px,hok,hG3⟩=>?_
  refine⟨_,_,_,_,_,_,_,_,_,_,he,_,hG3.trans pM,fR.own ?_⟩
  unfold PC.unary
  rw[if_pos ha]
  exact⟨t,rfl,px,hok,.refl _⟩
 have ha:=of_decide_eq_false ha
 have hab:=pN (Int.not_lt.1 ha) (by decide)
 have hlt:=(dX (Int.not_lt.1 ha)).1
 have hq2:=hq1.mono l2
 refine (oF hq2 d h0 (by omega) ((hF.cons _).trans pM)).mono fun e I4 G l4 ⟨he,hG⟩=>⟨_,he,q.dg b (q.c.cY d s)::F0,hG.trans pM,fun h=>?_,fun h=>?_⟩
 ·have h:(q.c.cY d s).over=true:=by simpa using h
  refine fR.own ?_
  unfold PC.unary
  rw[if_neg ha,if_pos h]
  exact fR.nil rfl (.refl _)
 have h:(q.c.cY d s).over=false:=by simpa using h
 obtain⟨hd,hde⟩:=ir hlt h
 have hr:q.c.unary nx d s=(.mk 5 (1+q.c.any ke s) 0 0 0 ⟨#[]⟩ [(nx.un s.inc).1] (q.c.now s).pos,(nx.un s.inc).2):=by
  unfold PC.unary
  rw[if_neg ha,if_neg (by simp[h]),hde]
 rw[hde,hr,w8 (n:=q.c.any ke s) (by omega),w8 (n:=1+q.c.any ke s) (by omega)]
 have hq4:=hq2.mono l4
 refine cU.ret (lK hq4 (s:=s) (.tail _ (.head _))) fun I5 l5=>⟨_,_,_,_,_,rfl,q.dg b s::F0,.refl _,fun b_n=>?_⟩
 refine⟨_,rfl,_,PQ.rd (k:=3) (.tail _ (.tail _ (.head _))) rfl,_,rfl,q.cl s,96,F0,.refl _,PQ.spot _ _,by rw[PQ.off];exact (by decide:3+1≤7), ?_⟩
 rw[PQ.ia (by omega),ef (n:=d+1) (by omega)]
 have hq5:=hq4.mono l5
 refine (hu hd b s.inc I5 _ _ hq5 hlt mD).mono fun e I6 G6 l6 ⟨t,he,px,hok,hG6⟩=>?_
 refine⟨_,_,_,_,_,_,_,_,_,_,he,q.dg b (nx.un s.inc).2::F0,hG6.trans mD.symm,fun b_k b4 I7 l7 hb4=>?_⟩
 refine (rN (ks:=[]) (A:=[]) Acc.nil (by decide) t hb4 (.refl _)).mono fun v I8 G8 l8 ⟨a',n',c',A',hv,hA',hG8⟩=>⟨a',n',c',hv,q.dg b (nx.un s.inc).2::(A'++F0),hG8.trans Db.symm, ?_⟩
 have hn:=hA'.1
 subst hn
 refine⟨.mk 5 (1+q.c.any ke s) 0 0 0 ⟨#[]⟩ a' c' ([]++[t]) (q.c.now s).pos,A',rfl, ?_,.inl hA',fun k hk=>?_,.refl _⟩
 ·simp only[List.nil_append,Nd.px,Nd.qd,px]
 ·have hk:k∈[t]:=hk
  rw[List.mem_singleton] at hk;subst hk
  exact hok.mono (cS.le_trans l7 l8) fun _ h=>h
end
end Go.Lx
namespace Go.Lx
open Go.Vc
theorem lx{c:PC}{ws:List ByteArray}{o:Int}{sub:PS→Px×PS}{n:Px}{s:PS}(h:c.any ws s<0):∀m,c.eF ws o sub m n s=(n,s)
 | 0=>rfl
 | m+1=>by rw[PC.eF,if_pos h]
theorem qh{c:PC}{w:ByteArray}{s:PS}:c.any [w] s=if c.eC w s then 0 else -1:=rfl
section
variable {q:PQ} {nx:Lv} {d:Int} (h0:0≤d) (h1:d≤24)
include h0 h1
theorem zj{g:PS→Px×PS}(hg:eA 157 q d g)(hm:fX q.c g):eA 152 q d (q.c.loop rL 8 g):=by
 have _:=h0
 have _:=h1
 intro b s I F F0 hq hsn hF
 have hl:=hq.len
 refine eQ.vc (fun x0 x1 x2 x3 x4 x5 xa xn xc x7 n0 n1 n2 n3 n4 n5 na nn nc n7 m I' F'=>q.ok I'∧∃(t:Nd) (s':PS) (k:Nat),t.v=(.agg #[.int .u8 n0,.int .u8 n1,.int .u8 n2,.int .i64 n3,.int .u8 n4,.string n5,.slice na nn nc,.int .i64 n7])∧dP I' [] t∧F'.Perm (q.dg b s'::F0)∧s'.next≤q.c.l.length∧m=q.c.l.length-s'.next∧q.c.l.length≤s'.next+k∧q.c.loop rL 8 g s=q.c.eF rL 8 g k t.px s') ?_
 unfold eQ.V
 intro b2
 refine (hg b s I _ _ hq hsn ((hF.cons _).trans pM)).mono fun e I1 G1 l1 ⟨t,he,px,hok,hG1⟩=>?_
 refine⟨_,_,_,_,_,_,_,_,_,_,he,q.dg b (g s).2::F0,hG1.trans pM,fun b_n=>⟨⟨_,hq.mono l1,t,(g s).2,q.c.l.length,rfl,hok,.refl _,(hm s).2 hsn,rfl,by omega,by rw[px];rfl⟩, ?_⟩⟩
 intro x0 x1 x2 x3 x4 x5 xa xn xc x7 n0 n1 n2 n3 n4 n5 na nn nc n7 m I2 F2 l2 ⟨hq2,t,s',k,htv,hok,hF2,hsn',hme,hfu,hres⟩
 simp only[Nd.v,Value.agg.injEq,Array.mk.injEq,List.cons.injEq,Value.int.injEq,Value.string.injEq,Value.slice.injEq,true_and,and_true] at htv
 obtain⟨rfl,rfl,rfl,rfl,rfl,rfl,⟨rfl,rfl,rfl⟩,rfl⟩:=htv
 have hm2:q.dg b s'∈F2:=hF2.mem_iff.2 (.head _)
 intro b3 I3 l3 hb3
 have hq3:=hq2.mono l3
 refine cU.ret (pL hq3 (Sl.words (ws:=rL) hb3 rfl) (by decide) (s:=s') (.tail _ (.tail _ hm2))) fun I4 l4=>⟨_,rfl,F2,.refl _,fun ha=>?_,fun ha=>?_⟩
 ·have ha:=of_decide_eq_true ha
  rw[hres,lx ha]
  exact⟨t,rfl,rfl,hok.mono (cS.le_trans l3 l4) fun _ h=>h,hF2⟩
 have ha:=of_decide_eq_false ha
 have hab:=pN (Int.not_lt.1 ha) (by decide)
 have hlt:=(dX (Int.not_lt.1 ha)).1
 have l24:=cS.le_trans l3 l4
 have hna:=ha
 rw[w8 (n:=q.c.any rL s') (by omega),w8 (n:=8+q.c.any rL s') (by omega)]
 have hq4:=hq2.mono l24
 refine cU.ret (lK hq4 (s:=s') (.tail _ (.tail _ hm2))) fun I5 l5=>⟨_,_,_,_,_,rfl,F2,.refl _, ?_⟩
 refine⟨_,rfl,_,PQ.rd (k:=3) (.tail _ (.tail _ hm2)) rfl,_,rfl,q.cl s',96,F0,hF2,PQ.spot _ _,by rw[PQ.off];exact (by decide:3+1≤7), ?_⟩
 rw[PQ.ia (by omega)]
 have hq5:=hq4.mono l5
 refine (hg b s'.inc I5 _ _ hq5 hlt mD).mono fun e I6 G6 l6 ⟨t2,he,px2,hok2,hG6⟩=>?_
 refine⟨_,_,_,_,_,_,_,_,_,_,he,q.dg b (g s'.inc).2::F0,hG6.trans mD.symm,fun b_k=>?_⟩
 refine (vX (8+q.c.any rL s') (q.c.now s').pos t t2 I6 _ (hok.mono (cS.le_trans l24 (cS.le_trans l5 l6)) fun _ h=>h) hok2).mono fun e I7 G7 l7 ⟨t3,he,px3,hok3,hG7⟩=>?_
 subst hG7
 have hup:=hm s'.inc
 have hup1:=hup.1
 rw[gi] at hup1
 have hup2:=hup.2 hlt
 obtain⟨k',rfl⟩:∃k',k=k'+1:=⟨k-1,by omega⟩
 refine⟨_,_,_,_,_,_,_,_,_,_,he,q.dg b (g s'.inc).2::F0,.refl _,q.c.l.length-(g s'.inc).2.next,by omega,(hq5.mono l6).mono l7,t3,(g s'.inc).2,k',rfl,hok3,.refl _,hup2,rfl,by omega, ?_⟩
 rw[hres,PC.eF,if_neg hna,px3,px2]
theorem Dd{g:PS→Px×PS}(hg:eA 152 q d g)(hm:fX q.c g):eA 144 q d (q.c.loop sJ 6 g):=by
 have _:=h0
 have _:=h1
 intro b s I F F0 hq hsn hF
 have hl:=hq.len
 refine gC.vc (fun x0 x1 x2 x3 x4 x5 xa xn xc x7 n0 n1 n2 n3 n4 n5 na nn nc n7 m I' F'=>q.ok I'∧∃(t:Nd) (s':PS) (k:Nat),t.v=(.agg #[.int .u8 n0,.int .u8 n1,.int .u8 n2,.int .i64 n3,.int .u8 n4,.string n5,.slice na nn nc,.int .i64 n7])∧dP I' [] t∧F'.Perm (q.dg b s'::F0)∧s'.next≤q.c.l.length∧m=q.c.l.length-s'.next∧q.c.l.length≤s'.next+k∧q.c.loop sJ 6 g s=q.c.eF sJ 6 g k t.px s') ?_
 unfold gC.V
 intro b2
 refine (hg b s I _ _ hq hsn ((hF.cons _).trans pM)).mono fun e I1 G1 l1 ⟨t,he,px,hok,hG1⟩=>?_
 refine⟨_,_,_,_,_,_,_,_,_,_,he,q.dg b (g s).2::F0,hG1.trans pM,fun b_n=>⟨⟨_,hq.mono l1,t,(g s).2,q.c.l.length,rfl,hok,.refl _,(hm s).2 hsn,rfl,by omega,by rw[px];rfl⟩, ?_⟩⟩
 intro x0 x1 x2 x3 x4 x5 xa xn xc x7 n0 n1 n2 n3 n4 n5 na nn nc n7 m I2 F2 l2 ⟨hq2,t,s',k,htv,hok,hF2,hsn',hme,hfu,hres⟩
 simp only[Nd.v,Value.agg.injEq,Array.mk.injEq,List.cons.injEq,Value.int.injEq,Value.string.injEq,Value.slice.injEq,true_and,and_true] at htv
 obtain⟨rfl,rfl,rfl,rfl,rfl,rfl,⟨rfl,rfl,rfl⟩,rfl⟩:=htv
 have hm2:q.dg b s'∈F2:=hF2.mem_iff.2 (.head _)
 intro b3 I3 l3 hb3
 have hq3:=hq2.mono l3
 refine cU.ret (pL hq3 (Sl.words (ws:=sJ) hb3 rfl) (by decide) (s:=s') (.tail _ (.tail _ hm2))) fun I4 l4=>⟨_,rfl,F2,.refl _,fun ha=>?_,fun ha=>?_⟩
 ·have ha:=of_decide_eq_true ha
  rw[hres,lx ha]
  exact⟨t,rfl,rfl,hok.mono (cS.le_trans l3 l4) fun _ h=>h,hF2⟩
 have ha:=of_decide_eq_false ha
 have hab:=pN (Int.not_lt.1 ha) (by decide)
 have hlt:=(dX (Int.not_lt.1 ha)).1
 have l24:=cS.le_trans l3 l4
 have hna:=ha
 rw[w8 (n:=q.c.any sJ s') (by omega),w8 (n:=6+q.c.any sJ s') (by omega)]
 have hq4:=hq2.mono l24
 refine cU.ret (lK hq4 (s:=s') (.tail _ (.tail _ hm2))) fun I5 l5=>⟨_,_,_,_,_,rfl,F2,.refl _, ?_⟩
 refine⟨_,rfl,_,PQ.rd (k:=3) (.tail _ (.tail _ hm2)) rfl,_,rfl,q.cl s',96,F0,hF2,PQ.spot _ _,by rw[PQ.off];exact (by decide:3+1≤7), ?_⟩
 rw[PQ.ia (by omega)]
 have hq5:=hq4.mono l5
 refine (hg b s'.inc I5 _ _ hq5 hlt mD).mono fun e I6 G6 l6 ⟨t2,he,px2,hok2,hG6⟩=>?_
 refine⟨_,_,_,_,_,_,_,_,_,_,he,q.dg b (g s'.inc).2::F0,hG6.trans mD.symm,fun b_k=>?_⟩
 refine (vX (6+q.c.any sJ s') (q.c.now s').pos t t2 I6 _ (hok.mono (cS.le_trans l24 (cS.le_trans l5 l6)) fun _ h=>h) hok2).mono fun e I7 G7 l7 ⟨t3,he,px3,hok3,hG7⟩=>?_
 subst hG7
 have hup:=hm s'.inc
 have hup1:=hup.1
 rw[gi] at hup1
 have hup2:=hup.2 hlt
 obtain⟨k',rfl⟩:∃k',k=k'+1:=⟨k-1,by omega⟩
 refine⟨_,_,_,_,_,_,_,_,_,_,he,q.dg b (g s'.inc).2::F0,.refl _,q.c.l.length-(g s'.inc).2.next,by omega,(hq5.mono l6).mono l7,t3,(g s'.inc).2,k',rfl,hok3,.refl _,hup2,rfl,by omega, ?_⟩
 rw[hres,PC.eF,if_neg hna,px3,px2]
theorem De{g:PS→Px×PS}(hg:eA 129 q d g)(hm:fX q.c g):eA 116 q d (q.c.loop sK 17 g):=by
 have _:=h0
 have _:=h1
 intro b s I F F0 hq hsn hF
 have hl:=hq.len
 refine gD.vc (fun x0 x1 x2 x3 x4 x5 xa xn xc x7 n0 n1 n2 n3 n4 n5 na nn nc n7 m I' F'=>q.ok I'∧∃(t:Nd) (s':PS) (k:Nat),t.v=(.agg #[.int .u8 n0,.int .u8 n1,.int .u8 n2,.int .i64 n3,.int .u8 n4,.string n5,.slice na nn nc,.int .i64 n7])∧dP I' [] t∧F'.Perm (q.dg b s'::F0)∧s'.next≤q.c.l.length∧m=q.c.l.length-s'.next∧q.c.l.length≤s'.next+k∧q.c.loop sK 17 g s=q.c.eF sK 17 g k t.px s') ?_
 unfold gD.V
 intro b2
 refine (hg b s I _ _ hq hsn ((hF.cons _).trans pM)).mono fun e I1 G1 l1 ⟨t,he,px,hok,hG1⟩=>?_
 refine⟨_,_,_,_,_,_,_,_,_,_,he,q.dg b (g s).2::F0,hG1.trans pM,fun b_n=>⟨⟨_,hq.mono l1,t,(g s).2,q.c.l.length,rfl,hok,.refl _,(hm s).2 hsn,rfl,by omega,by rw[px];rfl⟩, ?_⟩⟩
 intro x0 x1 x2 x3 x4 x5 xa xn xc x7 n0 n1 n2 n3 n4 n5 na nn nc n7 m I2 F2 l2 ⟨hq2,t,s',k,htv,hok,hF2,hsn',hme,hfu,hres⟩
 simp only[Nd.v,Value.agg.injEq,Array.mk.injEq,List.cons.injEq,Value.int.injEq,Value.string.injEq,Value.slice.injEq,true_and,and_true] at htv
 obtain⟨rfl,rfl,rfl,rfl,rfl,rfl,⟨rfl,rfl,rfl⟩,rfl⟩:=htv
 have hm2:q.dg b s'∈F2:=hF2.mem_iff.2 (.head _)
 refine cU.ret (xk hq2 _ (s:=s') (.tail _ (.tail _ hm2))) fun I4 l24=>⟨_,rfl,F2,.refl _,fun ha=>?_,fun ha=>?_⟩
 ·have ha:q.c.eC (⟨#[38,38]⟩:ByteArray) s'=false:=by simpa using ha
  rw[hres,lx (by unfold sK;rw[qh,if_neg (by simp[ha])];decide)]
  exact⟨t,rfl,rfl,hok.mono l24 fun _ h=>h,hF2⟩
 have ha:q.c.eC (⟨#[38,38]⟩:ByteArray) s'=true:=by simpa using ha
 have hlt:=jJ ha
 have hz:q.c.any sK s'=0:=by unfold sK;rw[qh,if_pos ha]
 have hna:¬q.c.any sK s'<0:=by omega
 have hq4:=hq2.mono l24
 refine cU.ret (lK hq4 (s:=s') (.tail _ (.tail _ hm2))) fun I5 l5=>⟨_,_,_,_,_,rfl,F2,.refl _, ?_⟩
 refine⟨_,rfl,_,PQ.rd (k:=3) (.tail _ (.tail _ hm2)) rfl,_,rfl,q.cl s',96,F0,hF2,PQ.spot _ _,by rw[PQ.off];exact (by decide:3+1≤7), ?_⟩
 rw[PQ.ia (by omega)]
 have hq5:=hq4.mono l5
 refine (hg b s'.inc I5 _ _ hq5 hlt mD).mono fun e I6 G6 l6 ⟨t2,he,px2,hok2,hG6⟩=>?_
 refine⟨_,_,_,_,_,_,_,_,_,_,he,q.dg b (g s'.inc).2::F0,hG6.trans mD.symm,fun b_k=>?_⟩
 refine (vX (17) (q.c.now s').pos t t2 I6 _ (hok.mono (cS.le_trans l24 (cS.le_trans l5 l6)) fun _ h=>h) hok2).mono fun e I7 G7 l7 ⟨t3,he,px3,hok3,hG7⟩=>?_
 subst hG7
 have hup:=hm s'.inc
 have hup1:=hup.1
 rw[gi] at hup1
 have hup2:=hup.2 hlt
 obtain⟨k',rfl⟩:∃k',k=k'+1:=⟨k-1,by omega⟩
 refine⟨_,_,_,_,_,_,_,_,_,_,he,q.dg b (g s'.inc).2::F0,.refl _,q.c.l.length-(g s'.inc).2.next,by omega,(hq5.mono l6).mono l7,t3,(g s'.inc).2,k',rfl,hok3,.refl _,hup2,rfl,by omega, ?_⟩
 rw[hres,PC.eF,if_neg hna,px3,px2,hz]
 try rfl
theorem D3{g:PS→Px×PS}(hg:eA 116 q d g)(hm:fX q.c g):eA 93 q d (q.c.loop AP 18 g):=by
 have _:=h0
 have _:=h1
 intro b s I F F0 hq hsn hF
 have hl:=hq.len
 refine g8.vc (fun x0 x1 x2 x3 x4 x5 xa xn xc x7 n0 n1 n2 n3 n4 n5 na nn nc n7 m I' F'=>q.ok I'∧∃(t:Nd) (s':PS) (k:Nat),t.v=(.agg #[.int .u8 n0,.int .u8 n1,.int .u8 n2,.int .i64 n3,.int .u8 n4,.string n5,.slice na nn nc,.int .i64 n7])∧dP I' [] t∧F'.Perm (q.dg b s'::F0)∧s'.next≤q.c.l.length∧m=q.c.l.length-s'.next∧q.c.l.length≤s'.next+k∧q.c.loop AP 18 g s=q.c.eF AP 18 g k t.px s') ?_
 unfold g8.V
 intro b2
 refine (hg b s I _ _ hq hsn ((hF.cons _).trans pM)).mono fun e I1 G1 l1 ⟨t,he,px,hok,hG1⟩=>?_
 refine⟨_,_,_,_,_,_,_,_,_,_,he,q.dg b (g s).2::F0,hG1.trans pM,fun b_n=>⟨⟨_,hq.mono l1,t,(g s).2,q.c.l.length,rfl,hok,.refl _,(hm s).2 hsn,rfl,by omega,by rw[px];rfl⟩, ?_⟩⟩
 intro x0 x1 x2 x3 x4 x5 xa xn xc x7 n0 n1 n2 n3 n4 n5 na nn nc n7 m I2 F2 l2 ⟨hq2,t,s',k,htv,hok,hF2,hsn',hme,hfu,hres⟩
 simp only[Nd.v,Value.agg.injEq,Array.mk.injEq,List.cons.injEq,Value.int.injEq,Value.string.injEq,Value.slice.injEq,true_and,and_true] at htv
 obtain⟨rfl,rfl,rfl,rfl,rfl,rfl,⟨rfl,rfl,rfl⟩,rfl⟩:=htv
 have hm2:q.dg b s'∈F2:=hF2.mem_iff.2 (.head _)
 refine cU.ret (xk hq2 _ (s:=s') (.tail _ (.tail _ hm2))) fun I4 l24=>⟨_,rfl,F2,.refl _,fun ha=>?_,fun ha=>?_⟩
 ·have ha:q.c.eC (⟨#[124,124]⟩:ByteArray) s'=false:=by simpa using ha
  rw[hres,lx (by unfold AP;rw[qh,if_neg (by simp[ha])];decide)]
  exact⟨t,rfl,rfl,hok.mono l24 fun _ h=>h,hF2⟩
 have ha:q.c.eC (⟨#[124,124]⟩:ByteArray) s'=true:=by simpa using ha
 have hlt:=jJ ha
 have hz:q.c.any AP s'=0:=by unfold AP;rw[qh,if_pos ha]
 have hna:¬q.c.any AP s'<0:=by omega
 have hq4:=hq2.mono l24
 refine cU.ret (lK hq4 (s:=s') (.tail _ (.tail _ hm2))) fun I5 l5=>⟨_,_,_,_,_,rfl,F2,.refl _, ?_⟩
 refine⟨_,rfl,_,PQ.rd (k:=3) (.tail _ (.tail _ hm2)) rfl,_,rfl,q.cl s',96,F0,hF2,PQ.spot _ _,by rw[PQ.off];exact (by decide:3+1≤7), ?_⟩
 rw[PQ.ia (by omega)]
 have hq5:=hq4.mono l5
 refine (hg b s'.inc I5 _ _ hq5 hlt mD).mono fun e I6 G6 l6 ⟨t2,he,px2,hok2,hG6⟩=>?_
 refine⟨_,_,_,_,_,_,_,_,_,_,he,q.dg b (g s'.inc).2::F0,hG6.trans mD.symm,fun b_k=>?_⟩
 refine (vX (18) (q.c.now s').pos t t2 I6 _ (hok.mono (cS.le_trans l24 (cS.le_trans l5 l6)) fun _ h=>h) hok2).mono fun e I7 G7 l7 ⟨t3,he,px3,hok3,hG7⟩=>?_
 subst hG7
 have hup:=hm s'.inc
 have hup1:=hup.1
 rw[gi] at hup1
 have hup2:=hup.2 hlt
 obtain⟨k',rfl⟩:∃k',k=k'+1:=⟨k-1,by omega⟩
 refine⟨_,_,_,_,_,_,_,_,_,_,he,q.dg b (g s'.inc).2::F0,.refl _,q.c.l.length-(g s'.inc).2.next,by omega,(hq5.mono l6).mono l7,t3,(g s'.inc).2,k',rfl,hok3,.refl _,hup2,rfl,by omega, ?_⟩
 rw[hres,PC.eF,if_neg hna,px3,px2,hz]
 try rfl
end
end Go.Lx
namespace Go.Lx
open Go.Vc
section
variable {q:PQ} {nx:Lv} {d:Int} (h0:0≤d) (h1:d≤24)
include h0 h1
theorem zk(hg:eA 144 q d (q.c.sum nx d))(hm:fX q.c (q.c.sum nx d)):eA 129 q d (q.c.compare nx d):=by
 have _:=h0
 have _:=h1
 intro b s I F F0 hq hsn hF
 have hl:=hq.len
 refine eR.vc ?_
 unfold eR.V
 intro b2
 refine (hg b s I _ _ hq hsn ((hF.cons _).trans pM)).mono fun e I1 G1 l1 ⟨t,he,px,hok,hG1⟩=>?_
 unfold PC.compare
 have hs2:=(hm s).2 hsn
 generalize hgs:q.c.sum nx d s=n at px hG1 hs2 ⊢
 refine⟨_,_,_,_,_,_,_,_,_,_,he,q.dg b n.2::F0,hG1.trans pM,fun b_n b3 I2 l2 hb3=>?_⟩
 have hq2:=(hq.mono l1).mono l2
 refine cU.ret (pL hq2 (Sl.words (ws:=ku) hb3 rfl) (by decide) (s:=n.2) (.tail _ (.tail _ (.head _)))) fun I3 l3=>⟨_,rfl,q.dg b n.2::F0,.refl _,fun ha=>?_,fun ha=>?_⟩
 ·have ha:=of_decide_eq_true ha
  show fR q b F0 (if q.c.any ku n.2<0 then n else _) _ _ _
  rw[if_pos ha]
  exact⟨t,rfl,px,hok.mono (cS.le_trans l2 l3) fun _ h=>h,.refl _⟩
 have ha:=of_decide_eq_false ha
 have hab:=pN (Int.not_lt.1 ha) (by decide)
 have hlt:=(dX (Int.not_lt.1 ha)).1
 have hq3:=hq2.mono l3
 rw[w8 (n:=q.c.any ku n.2) (by omega),w8 (n:=11+q.c.any ku n.2) (by omega)]
 refine cU.ret (lK hq3 (s:=n.2) (.tail _ (.tail _ (.head _)))) fun I4 l4=>⟨_,_,_,_,_,rfl,q.dg b n.2::F0,.refl _, ?_⟩
 refine⟨_,rfl,_,PQ.rd (k:=3) (.tail _ (.tail _ (.head _))) rfl,_,rfl,q.cl n.2,96,F0,.refl _,PQ.spot _ _,by rw[PQ.off];exact (by decide:3+1≤7), ?_⟩
 rw[PQ.ia (by omega)]
 have hq4:=hq3.mono l4
 refine (hg b n.2.inc I4 _ _ hq4 hlt mD).mono fun e I5 G5 l5 ⟨t2,he,px2,hok2,hG5⟩=>?_
 refine⟨_,_,_,_,_,_,_,_,_,_,he,q.dg b (q.c.sum nx d n.2.inc).2::F0,hG5.trans mD.symm,fun b_k=>?_⟩
 refine (vX (11+q.c.any ku n.2) (q.c.now n.2).pos t t2 I5 _ (hok.mono (cS.le_trans l2 (cS.le_trans l3 (cS.le_trans l4 l5))) fun _ h=>h) hok2).mono fun e I6 G6 l6 ⟨t3,he,px3,hok3,hG⟩=>?_
 subst hG
 refine⟨_,_,_,_,_,_,_,_,_,_,he,q.dg b (q.c.sum nx d n.2.inc).2::F0,.refl _, ?_⟩
 show fR q b F0 (if q.c.any ku n.2<0 then n else _) _ _ _
 rw[if_neg ha]
 exact⟨t3,rfl,by rw[px3,px,px2],hok3,.refl _⟩
theorem Cp(hg:eA 93 q d (q.c.or nx d))(hm:fX q.c (q.c.or nx d))(hx:d+1≤24→eA 48 q (d+1) nx.ex)(hmx:fX q.c nx.ex):eA 48 q d (q.c.expr nx d):=by
 intro b s I F F0 hq hsn hF
 have hl:=hq.len
 refine fQ.vc ?_
 unfold fQ.V
 intro b2
 refine (hg b s I _ _ hq hsn ((hF.cons _).trans pM)).mono fun e I1 G1 l1 ⟨t,he,px,hok,hG1⟩=>?_
 unfold PC.expr
 have hs2:=(hm s).2 hsn
 generalize hgs:q.c.or nx d s=n at px hG1 hs2 ⊢
 refine⟨_,_,_,_,_,_,_,_,_,_,he,q.dg b n.2::F0,hG1.trans pM,fun b_n=>?_⟩
 have hq1:=hq.mono l1
 refine cU.ret (xk hq1 _ (s:=n.2) (.tail _ (.tail _ (.head _)))) fun I2 l2=>⟨_,rfl,q.dg b n.2::F0,.refl _,fun ha=>?_,fun ha=>?_⟩
 ·have ha:q.c.eC (⟨#[63]⟩:ByteArray) n.2=false:=by simpa using ha
  show fR q b F0 (if q.c.eC (⟨#[63]⟩:ByteArray) n.2 then _ else n) _ _ _
  rw[if_neg (by simp[ha])]
  exact⟨t,rfl,px,hok.mono l2 fun _ h=>h,.refl _⟩
 have ha:q.c.eC (⟨#[63]⟩:ByteArray) n.2=true:=by simpa using ha
 have hlt:=jJ ha
 have hq2:=hq1.mono l2
 refine (oF hq2 d h0 (by omega) (s:=n.2) mD).mono fun e I3 G l3 ⟨he,hG⟩=>⟨_,he,q.dg b (q.c.cY d n.2)::F0,hG.trans mD.symm,fun h=>?_,fun h=>?_⟩
 ·have h:(q.c.cY d n.2).over=true:=by simpa using h
  show fR q b F0 (if q.c.eC (⟨#[63]⟩:ByteArray) n.2 then (if (q.c.cY d n.2).over then (fG,q.c.cY d n.2) else _) else n) _ _ _
  rw[if_pos ha,if_pos h]
  exact fR.nil rfl (.refl _)
 have h:(q.c.cY d n.2).over=false:=by simpa using h
 obtain⟨hd,hde⟩:=ir hlt h
 rw[hde]
 have hq3:=hq2.mono l3
 refine cU.ret (lK hq3 (s:=n.2) (.tail _ (.tail _ (.head _)))) fun I4 l4=>⟨_,_,_,_,_,rfl,q.dg b n.2::F0,.refl _, ?_⟩
 refine⟨_,rfl,_,PQ.rd (k:=3) (.tail _ (.tail _ (.head _))) rfl,_,rfl,q.cl n.2,96,F0,.refl _,PQ.spot _ _,by rw[PQ.off];exact (by decide:3+1≤7), ?_⟩
 rw[PQ.ia (by omega),ef (n:=d+1) (by omega)]
 have hq4:=hq3.mono l4
 refine (hx hd b n.2.inc I4 _ _ hq4 hlt mD).mono fun e I5 G5 l5 ⟨t2,he,px2,hok2,hG5⟩=>?_
 refine⟨_,_,_,_,_,_,_,_,_,_,he,q.dg b (nx.ex n.2.inc).2::F0,hG5.trans mD.symm,fun b_a=>?_⟩
 have hq5:=hq4.mono l5
 have hn5:=(hmx n.2.inc).2 hlt
 refine (rM hq5 _ (s:=(nx.ex n.2.inc).2) yi).mono fun e I6 G6 l6 ⟨he,hG6⟩=>⟨_,he,q.dg b (q.c.take (⟨#[58]⟩:ByteArray) (nx.ex n.2.inc).2).2::F0,hG6.trans yi.symm, ?_⟩
 have hq6:=hq5.mono l6
 have hn6:=(Up.take (c:=q.c) (s:=(nx.ex n.2.inc).2) (⟨#[58]⟩:ByteArray)).2 hn5
 refine (hx hd b (q.c.take (⟨#[58]⟩:ByteArray) (nx.ex n.2.inc).2).2 I6 _ _ hq6 hn6 yi).mono fun e I7 G7 l7 ⟨t3,he,px3,hok3,hG7⟩=>?_
 refine⟨_,_,_,_,_,_,_,_,_,_,he,q.dg b (nx.ex (q.c.take (⟨#[58]⟩:ByteArray) (nx.ex n.2.inc).2).2).2::F0,hG7.trans yi.symm,fun b_b b4 I8 l8 hb4=>?_⟩
 show fR q b F0 (if q.c.eC (⟨#[63]⟩:ByteArray) n.2 then (if (q.c.cY d n.2).over then _ else _) else n) _ _ _
 rw[if_pos ha,if_neg (by simp[h])]
 refine⟨.mk 7 0 0 0 0 ⟨#[]⟩ (some ⟨b4,0,none⟩) 3 [t,t2,t3] (q.c.now n.2).pos,rfl, ?_,dP.yh hb4 (fun k hk=>?_) .., ?_⟩
 ·simp only[Nd.px,Nd.qd,px,px2,px3]
  rw[hde]
 ·simp only[List.mem_cons,List.not_mem_nil,or_false] at hk
  rcases hk with rfl | rfl | rfl
  ·exact hok.mono (cS.le_trans l2 (cS.le_trans l3 (cS.le_trans l4 (cS.le_trans l5 (cS.le_trans l6 (cS.le_trans l7 l8)))))) fun _ h=>h
  ·exact hok2.mono (cS.le_trans l6 (cS.le_trans l7 l8)) fun _ h=>h
  ·exact hok3.mono l8 fun _ h=>h
 ·rw[hde]
theorem yj(hx:d+1≤24→eA 48 q (d+1) nx.ex)(hmx:fX q.c nx.ex)(hu:d+1≤24→eA 157 q (d+1) nx.un)(hmu:fX q.c nx.un) :
  eA 48 q d (q.c.expr nx d)∧eA 157 q d (q.c.unary nx d):=by
 have e1:=Be h0 h1 hx hmx hu hmu
 have e2:=zj h0 h1 e1 (Up.unary hmx hmu d)
 have e3:=Dd h0 h1 e2 (Up.product hmx hmu d)
 have e4:=zk h0 h1 e3 (Up.sum hmx hmu d)
 have e5:=De h0 h1 e4 (Up.compare hmx hmu d)
 have e6:=D3 h0 h1 e5 (Up.and hmx hmu d)
 exact⟨Cp h0 h1 e6 (Up.or hmx hmu d) hx hmx,e1⟩
end
theorem An{q:PQ}:∀(k:Nat) (d:Int),0≤d→d≤24→24≤d+k→eA 48 q d (q.c.lvl k d).ex∧eA 157 q d (q.c.lvl k d).un
 | 0,d,h0,h1,h2=>yj h0 h1 (fun h=>by omega) (fun s=>.refl) (fun h=>by omega) (fun s=>.refl)
 | k+1,d,h0,h1,h2=>yj h0 h1 (fun h=>(An k (d+1) (by omega) h (by omega)).1) (Up.lvl k (d+1)).1 (fun h=>(An k (d+1) (by omega) h (by omega)).2) (Up.lvl k (d+1)).2
theorem Dg{q:PQ}:eA 48 q 0 q.c.eY:=(An 24 0 (by decide) (by decide) (by decide)).1
end Go.Lx
namespace Go.Lx
open Go.Vc Go.Proofs.Tryz
def Cq:List (Nat×List Sh):=[(0,[]),(3,[.one (.int .i64)]),(4,[.one .bool]),(9,[.one .str]),(39,[.one .slc]),(40,[.one .slc]),(41,[.one .slc]),(43,[.agg [.str,.slc,.slc,.slc]]),(50,[.agg [(.int .i64),(.int .i64),.bool]]),(64,[.agg [(.int .u8),(.int .u8),(.int .u8),(.int .i64),(.int .u8),.str,.slc,(.int .i64)]]),(76,[.agg [(.int .u8),.str,(.int .u8),(.int .i64),(.int .i64)]]),(86,[.one .slc]),(88,[.agg [.str,.slc,(.int .i64)]]),(93,[.one .ptr]),(104,[.agg [.str,(.int .u8),(.int .u8),(.int .u8),(.int .u8),(.int .i64),(.int .u8),.str,.slc,(.int .i64),(.int .i64)]]),(108,[.one .slc]),(110,[.agg [(.int .u8),(.int .u8),(.int .u8),(.int .i64),(.int .u8),.str,.slc,(.int .i64),.slc,(.int .i64)]]),(112,[.one (.int .u8)]),(114,[.agg [(.int .u8),(.int .u8),.str,(.int .u8),(.int .u8),(.int .u8),(.int .i64),(.int .u8),.str,.slc,(.int .i64),(.int .u8),(.int .u8),(.int .u8),(.int .i64),(.int .u8),.str,.slc,(.int .i64),(.int .u8),(.int .u8),(.int .u8),(.int .i64),(.int .u8),.str,.slc,(.int .i64),(.int .u8),(.int .u8),(.int .u8),(.int .i64),(.int .u8),.str,.slc,(.int .i64),(.int .i64)]]),(208,[.agg [(.int .u8),(.int .u8),(.int .u8),(.int .i64),(.int .u8),.str,.slc,(.int .i64)],.one .bool])]
def ly.V(ka:Nat→Int→Int→Bool→Nat×Obj)(nV:Int→Int→Int→Int→Int→Bs→OA→Nat→Nat→Int→Value)(nO:Int→Int→Int→Int→Int→Bs→OA→Nat→Nat→Int→Obj)(vi:Int→Value)(vt:Bool→Value)(vp:OA→Value)(s:Bs)(I:cS)(F:cR)(Q:cT)  : Prop:=∀b:Nat,∀b1:Nat,eZ P 28 #[.string s] I ((b,nO 0 0 0 0 0 (⟨#[]⟩:Bs) none 0 0 0)::(ka b1 0 0 false)::·) F vp fun r I1 F1=>gO P 48 #[vp r,vi 0] I1 ((b,nO 0 0 0 0 0 (⟨#[]⟩:Bs) none 0 0 0)::(ka b1 0 0 false)::·) F1 fun e2 I2 G2=>∃(e f g h i:Int) (j:Bs) (a:OA) (c d:Nat) (k:Int),e2=.returned (nV e f g h i j a c d k)∧G2 fun F2=>∀l:Nat,gO P 49 #[vp r] I2 ((b,nO 0 0 0 0 0 (⟨#[]⟩:Bs) none 0 0 0)::(ka b1 0 0 false)::(l,nO e f g h i j a c d k)::·) F2 fun e3 I3 G3=>e3=.returned (.tuple #[])∧G3 fun F3=>eZ P 30 #[vp r] I3 ((b,nO 0 0 0 0 0 (⟨#[]⟩:Bs) none 0 0 0)::(ka b1 0 0 false)::(l,nO e f g h i j a c d k)::·) F3 vt fun r1 I4 F4=>(It r1 (∃ad:Addr,r=some ad∧∃(m n:Int) (o:Bool),Rd I4 F4 (ad.add 4) [vi m,vi n,vt o]∧Q (.returned (.tuple #[nV 0 0 0 0 0 (⟨#[]⟩:Bs) none 0 0 0,.agg #[vi m,vi n,vt o]])) I4 F4) (Q (.returned (.tuple #[nV e f g h i j a c d k,.agg #[vi 0,vi 0,vt false]])) I4 F4))
theorem ly.vc{s:Bs}{I:cS}{F:cR}{Q:cT}  (h:ly.V (fun W a b c=>(W,Obj.cells #[.int .i64 a,.int .i64 b,.bool c] 50 (0,0))) (fun k o t n f s a l c q=>.agg #[.int .u8 k,.int .u8 o,.int .u8 t,.int .i64 n,.int .u8 f,.string s,.slice a l c,.int .i64 q]) (fun k o t n f s a l c q=>.cells #[.int .u8 k,.int .u8 o,.int .u8 t,.int .i64 n,.int .u8 f,.string s,.slice a l c,.int .i64 q] 64 (0,0)) (.int .i64) .bool .pointer s I F Q):cU P 17 #[.string s] I F Q :=
 tw (A:=(dr [4001] [] [28,30,48,49] Cq [] [] [] [(5,5,[0])] [] [] [(5,6)])) [28,30,48,49] func17 h
end Go.Lx
namespace Go.Lx
open Go.Vc
section
variable {c:PC}
end
end Go.Lx
namespace Go.Lx
open Go.Vc
theorem kx:jR.px=fG:=by simp only[jR,Nd.px,Nd.qd];rfl
theorem Cr{I:cS}{G:cR}:dP I G jR:=.leaf
theorem dP.up{I J:cS}{G:cR}{t:Nd}(h:dP I G t)(hl:cS.le I J):dP J G t:=h.mono hl fun _ h=>h
section
variable {N Pl:Type} (z:Nat) (f:N→List Value) (E:Nat) (p:N→Pl) (ok:cS→N→Prop) (q:PQ) (b:Nat) (w:ByteArray) (most:Nat) (one:PS→Pl×PS) (s0:PS) (F0:cR)
end
section
variable {N Pl:Type} {z:Nat} {f:N→List Value} {E:Nat} {p:N→Pl} {ok:cS→N→Prop} {q:PQ} {b:Nat} {w:ByteArray} {most:Nat} {one:PS→Pl×PS} {s0:PS} {F0:cR} {I J:cS} {F:cR}
end
end Go.Lx
namespace Go.Lx
open Go.Vc
section
variable {c:PC}
end
section
variable {N Pl:Type} {z:Nat} {f:N→List Value} {E:Nat} {p:N→Pl} {ok:cS→N→Prop} {q:PQ} {b:Nat} {w:ByteArray} {most:Nat} {one:PS→Pl×PS} {s0:PS} {F0:cR} {I J:cS} {F:cR} {a:Option Addr} {n c m:Nat}
end
end Go.Lx
namespace Go.Lx
open Go.Vc
theorem pe(s:ByteArray):∀(n:Nat) (f:Int),(iL s n f).1.length≤n
 | 0,f=>Nat.le_refl _
 | n+1,f=>by
   unfold iL
   cases ht:gK s f with
   | bad e p=>exact Nat.zero_le _
   | ok t =>
     show (if t.kind=0 then ([t],none) else _:List Tok×Option (Int×Int)).1.length≤n+1
     split
     ·exact Nat.succ_le_succ (Nat.zero_le _)
     ·exact Nat.succ_le_succ (pe s n _)
def PF.v(f:PF):Value:=.agg #[.int .i64 f.e,.int .i64 f.pos,.bool f.tok]
theorem Bf(t:ByteArray)(ht:dt t)(I:cS)(F:cR):cU P 28 #[.string t] I F fun e I' G=>∃(q:PQ) (b:Nat),q.c=dp t∧q.ok I'∧e=.returned (.pointer (some ⟨b,0,none⟩))∧G.Perm (q.dg b (dL t)::F):=by
 refine cU.keep (Q:=fun e I' G=>∃(q:PQ) (b:Nat) (A:cR),q.c=dp t∧Acc 5 Tok.enc 76 q.a q.c.l.length q.cap q.c.l A∧q.c.l.length≤1000000∧e=.returned (.pointer (some ⟨b,0,none⟩))∧G.Perm (q.dg b (dL t)::(A++F))) ?_ fun e I' G w hl hs ⟨q,b,A,hc,hA,hle,he,hG⟩=>?_
 rotate_left
 ·obtain⟨J,h1,h2,h3⟩:=Acc.keep (z:=5) (f:=Tok.enc) (fun _=>rfl) hA (hs.perm (hG.trans (List.perm_append_comm_assoc [_] A F)))
  exact⟨J,_,h1,h2,q,b,hc,⟨h3,hle⟩,he,.refl _⟩
 refine kf.vc ?_
 unfold kf.V
 refine⟨fun h b=>?_,fun h=>?_⟩
 ·have h:(4096:Int)<t.size:=of_decide_eq_true h
  refine⟨⟨dp t,none,0⟩,b,[],rfl, ?_, ?_,rfl, ?_⟩
  ·unfold dp;rw[if_pos h];exact Acc.nil
  ·unfold dp;rw[if_pos h];decide
  ·unfold PQ.dg PQ.cl dp dL;rw[if_pos h,if_pos h];exact .refl _
 ·have h:¬(4096:Int)<t.size:=of_decide_eq_false h
  refine (xh ht (by omega) I F).mono fun e I1 G l1 ⟨a,n,c,A,he,hA,hG⟩=>?_
  subst hG
  have hn:=hA.1
  subst hn
  refine⟨_,_,_,_,_,he,A++F,.refl _,fun b=>?_⟩
  refine⟨⟨dp t,a,c⟩,b,A,rfl, ?_, ?_,rfl, ?_⟩
  ·unfold dp;rw[if_neg h];exact hA
  ·unfold dp;rw[if_neg h]
   show (kr t 0).1.length≤_
   have:=pe t ((t.size:Int)-0+1).toNat 0
   unfold kr
   omega
  ·unfold PQ.dg PQ.cl dp dL;rw[if_neg h,if_neg h];exact .refl _
theorem PQ.EF{q:PQ}{b:Nat}{s:PS}{I:cS}{G:cR}(h:q.dg b s∈G):Rd I G ((⟨b,0,none⟩:Addr).add 4) [.int .i64 s.f.e,.int .i64 s.f.pos,.bool s.f.tok]:=by
 rw[dv]
 refine⟨rfl,_,_,_,.inr h,fun j hj=>?_⟩
 have:j=0∨j=1∨j=2:=by simp only[List.length_cons,List.length_nil] at hj;omega
 rcases this with rfl | rfl | rfl<;>rfl
theorem xo(t:ByteArray)(ht:dt t)(I:cS)(F:cR):cU P 17 #[.string t] I F fun e I' G=>∃x:Nd,e=.returned (.tuple #[x.v,(ew t).2.v])∧x.px=(ew t).1∧dP I' [] x∧G=F:=by
 refine cU.keep (Q:=fun e I' G=>∃(x:Nd) (H:cR),e=.returned (.tuple #[x.v,(ew t).2.v])∧x.px=(ew t).1∧dP I' [] x∧G.Perm (H++F)) ?_ fun e I' G w hl hs ⟨x,H,he,hp,hok,hG⟩=>⟨I',F,cS.le_refl _,(hs.perm hG).drop,x,he,hp,hok,rfl⟩
 refine ly.vc ?_
 unfold ly.V
 intro b2 b3
 refine (Bf t ht I _).mono fun e I1 G l1 ⟨q,b,hc,hq,he,hG⟩=>⟨_,he,q.dg b (dL t)::F,hG.trans mD.symm, ?_⟩
 have h0:(dL t).next≤q.c.l.length:=Nat.zero_le _
 refine (Dg b (dL t) I1 _ _ hq h0 mD).mono fun e I2 G2 l2 ⟨x,he,hp,hok,hG2⟩=>?_
 refine⟨_,_,_,_,_,_,_,_,_,_,he,q.dg b (q.c.eY (dL t)).2::F,hG2.trans mD.symm,fun b_x=>?_⟩
 refine (Da (hq.mono l2) (s:=(q.c.eY (dL t)).2) yi).mono fun e I3 G3 l3 ⟨he,hG3⟩=>⟨he,q.dg b (q.c.end (q.c.eY (dL t)).2)::F,hG3.trans yi.symm, ?_⟩
 refine cU.ret (pd (q:=q) (b:=b) (s:=q.c.end (q.c.eY (dL t)).2) (.tail _ (.tail _ (.tail _ (.head _))))) fun I4 l4=>⟨_,rfl,q.dg b (q.c.end (q.c.eY (dL t)).2)::F,.refl _,fun ho=>?_,fun ho=>?_⟩
 ·refine⟨_,rfl,_,_,_,PQ.EF (.head _),jR,[q.dg b (q.c.end (q.c.eY (dL t)).2)], ?_, ?_,Cr,.refl _⟩
  ·unfold ew;rw[←hc];show _=Ending.returned (.tuple #[jR.v,(if (q.c.end (q.c.eY (dL t)).2).over then (fG,(q.c.end (q.c.eY (dL t)).2).f) else _:Px×PF).2.v]);rw[if_pos ho];rfl
  ·unfold ew;rw[←hc];show _=(if (q.c.end (q.c.eY (dL t)).2).over then (fG,(q.c.end (q.c.eY (dL t)).2).f) else _:Px×PF).1;rw[if_pos ho,kx]
 ·refine⟨x,[q.dg b (q.c.end (q.c.eY (dL t)).2)], ?_, ?_,hok.up (cS.le_trans l3 l4),.refl _⟩
  ·unfold ew;rw[←hc];show _=Ending.returned (.tuple #[x.v,(if (q.c.end (q.c.eY (dL t)).2).over then _ else ((q.c.eY (dL t)).1,zF):Px×PF).2.v]);rw[if_neg (by simp[ho])];rfl
  ·unfold ew;rw[←hc];show _=(if (q.c.end (q.c.eY (dL t)).2).over then _ else ((q.c.eY (dL t)).1,zF):Px×PF).1;rw[if_neg (by simp[ho])];exact hp
theorem cU.clean{P:Program}{f:FuncId}{args:Array Value}{I:cS}{F:cR}{v:Value}(h:cU P f args I F fun e I' G=>e=.returned v∧∃H,G.Perm (H++F)):cU P f args I F (jS v F) :=
 h.keep fun e I' G w hl hs ⟨he,H,hp⟩=>⟨I',F,cS.le_refl _,(hs.perm hp).drop,he,rfl⟩
def mv.pO(d:mv):Prop:=Small d.C8
def iK.pO(r:iK):Prop:=r.when.size≤1048576∧r.dos.length≤1048576∧∀d∈r.dos,d.pO
def gg.pO(x:gg):Prop:=x.rules.length≤1048576∧∀r∈x.rules,r.pO
def oG{α:Type}(f:α→Int):List α→Int
 | []=>0
 | x::r=>f x+oG f r
def mv.jc(d:mv):Int:=1+d.side.size+d.qty.size+d.price.size+d.value.size
def iK.jc(r:iK):Int:=1+r.when.size+oG mv.jc r.dos
def gg.jc(x:gg):Int:=1+oG iK.jc x.rules
def iE.jc(r:iE):Int:=1+r.init.size
def iv.jc(s:iv):Int:=oG iE.jc s.regs+s.slots.length+oG gg.jc s.states
structure iv.pO (s:iv):Prop where
 regs:s.regs.length≤1048576
 uq:∀r∈s.regs,r.init.size≤1048576
 slots:s.slots.length≤1048576
 states:s.states.length≤1048576
 state:∀x∈s.states,x.pO
 all:s.jc≤1048576
def kq.jc(d:kq):Int:=d.p.jc
def eh.jc(r:eh):Int:=r.p.jc
def dw.jc(r:dw):Int:=r.p.jc
def gS.jc(r:gS):Int:=r.p.jc
structure iv.Bg (s:iv):Prop where
 regs:s.regs.length≤1048576
 uq:∀r∈s.regs,r.init.size≤1048576
 slots:s.slots.length≤1048576
 states:s.states.length≤1048576
 state:∀x∈s.states,x.pO
end Go.Lx
namespace Go.Vc
end Go.Vc
namespace Go.Lx
open Go.Vc
namespace Px
end Px
def Dh(z n:Nat)(a:Option Addr)(c:Nat)(A:cR):Prop :=
 ∃b cells e,a=some ⟨b,0,none⟩∧A=[(b,Obj.cells cells e (0,0))]∧c=n+2∧cells[n*z+(z-1)]? = some (.int .i64 (-771))
def pZ{α:Type}(R:Bool)(z:Nat)(f:α→List Value)(E:Nat)(O:α→cR→Prop)(a:Option Addr)(n c:Nat)(l:List α)(H:cR):Prop :=
 ∃A hs,H=A++dz n hs∧Acc z f E a n c l A∧(R=true→Dh z n a c A)∧∀(i:Nat) (k:α),l[i]? = some k→O k (hs i)
def iO(R:Bool)(d:kq)(H:cR):Prop:=∃H1 H2 H3 H4,H=H1++(H2++(H3++H4))∧dQ 64 R d.side H1∧dQ 64 R d.qty H2∧dQ 64 R d.price H3∧dQ 64 R d.value H4
def nM(R:Bool)(r:gS)(H:cR):Prop:=dQ 64 R r.init H
def uv(r:eg)(H:cR):Prop:=H=[]
def lz(R:Bool)(r:eh)(H:cR):Prop:=∃H1 H2,H=H1++H2∧dQ 64 R r.when H1∧pZ R 36 kq.enc 114 (iO R) r.a r.dos.length r.c r.dos H2
def jL(R:Bool)(x:dw)(H:cR):Prop:=pZ R 10 eh.enc 110 (lz R) x.a x.rules.length x.c x.rules H
def pf(R:Bool)(s:jg)(H:cR):Prop:=∃H1 H2 H3,H=H1++(H2++H3)∧pZ R 11 gS.enc 104 (nM R) s.ra s.regs.length s.rc s.regs H1∧pZ R 2 eg.enc 106 uv s.sa s.slots.length s.sc s.slots H2 ∧
 pZ R 3 dw.enc 88 (jL R) s.ta s.states.length s.tc s.states H3
theorem pZ.ok{α:Type}{R:Bool}{z E n c:Nat}{f:α→List Value}{O:α→cR→Prop}{a:Option Addr}{l:List α}{H:cR}(h:pZ R z f E O a n c l H)(hz:∀x,(f x).length=z){I:cS}{G:cR}{K:α→Prop}(hG:∀x,x∈H→x∈G)
  (hk:∀x H',O x H'→(∀y,y∈H'→y∈G)→K x):mX I G z f a n l∧∀x∈l,K x:=by
 obtain⟨A,hs,rfl,hA, -,hO⟩:=h
 refine⟨hA.Ca hz I fun x hx=>hG x (List.mem_append_left _ hx),fun x hx=>?_⟩
 obtain⟨i,hi,rfl⟩:=List.mem_iff_getElem.1 hx
 have hn:=hA.1
 exact hk _ _ (hO i _ (List.getElem?_eq_getElem hi)) fun y hy=>hG y (List.mem_append_right _ (tf (by omega) hy))
theorem iO.ok{R:Bool}{d:kq}{H:cR}(h:iO R d H){I:cS}{G:cR}(hG:∀x,x∈H→x∈G):d.Ok I G:=by
 obtain⟨H1,H2,H3,H4,rfl,h1,h2,h3,h4⟩:=h
 simp only[List.mem_append] at hG
 exact⟨h1.ok fun x hx=>hG x (.inl hx),h2.ok fun x hx=>hG x (.inr (.inl hx)),h3.ok fun x hx=>hG x (.inr (.inr (.inl hx))),h4.ok fun x hx=>hG x (.inr (.inr (.inr hx)))⟩
theorem nM.ok{R:Bool}{d:gS}{H:cR}(h:nM R d H){I:cS}{G:cR}(hG:∀x,x∈H→x∈G):d.Ok I G:=dQ.ok h hG
theorem lz.ok{R:Bool}{r:eh}{H:cR}(h:lz R r H){I:cS}{G:cR}(hG:∀x,x∈H→x∈G):r.Ok I G:=by
 obtain⟨H1,H2,rfl,h1,h2⟩:=h
 obtain⟨g1,g2⟩:=h2.ok (I:=I) (G:=G) (K:=fun d=>d.Ok I G) (fun _=>rfl) (fun x hx=>hG x (List.mem_append_right _ hx)) fun x H' hO hs=>iO.ok hO hs
 exact⟨h1.ok fun x hx=>hG x (List.mem_append_left _ hx),g1,g2⟩
theorem jL.ok{R:Bool}{r:dw}{H:cR}(h:jL R r H){I:cS}{G:cR}(hG:∀x,x∈H→x∈G):r.Ok I G :=
 pZ.ok h (fun _=>rfl) hG fun x H' hO hs=>lz.ok hO hs
theorem pf.ok{R:Bool}{s:jg}{H:cR}(h:pf R s H){I:cS}{G:cR}(hG:∀x,x∈H→x∈G):s.Ok I G:=by
 obtain⟨H1,H2,H3,rfl,h1,h2,h3⟩:=h
 simp only[List.mem_append] at hG
 obtain⟨a1,a2⟩:=h1.ok (I:=I) (G:=G) (K:=fun d=>d.Ok I G) (fun _=>rfl) (fun x hx=>hG x (.inl hx)) fun x H' hO hs=>nM.ok hO hs
 obtain⟨b1, -⟩:=h2.ok (I:=I) (G:=G) (K:=fun d=>True) (fun _=>rfl) (fun x hx=>hG x (.inr (.inl hx))) fun x H' hO hs=>trivial
 obtain⟨c1,c2⟩:=h3.ok (I:=I) (G:=G) (K:=fun d=>d.Ok I G) (fun _=>rfl) (fun x hx=>hG x (.inr (.inr hx))) fun x H' hO hs=>jL.ok hO hs
 exact⟨a1,a2,b1,c1,c2⟩
def Part{α:Type}(z:Nat)(f:α→List Value)(E:Nat)(O:α→cR→Prop)(a:Option Addr)(n c:Nat)(l:List α)(F F':cR):Prop :=
 ∃A hs,Acc z f E a n c l A∧(∀(i:Nat) (k:α),l[i]? = some k→O k (hs i))∧F'.Perm (A++(dz l.length hs++F))
theorem Part.nil{α:Type}{z E:Nat}{f:α→List Value}{O:α→cR→Prop}{F:cR}:Part z f E O none 0 0 ([]:List α) F F:=⟨[],fun _=>[],Acc.nil,fun i k h=>by simp at h,.refl _⟩
theorem zl{α:Type}{z E n c:Nat}{f:α→List Value}{O:α→cR→Prop}{a:Option Addr}{l:List α}{F:cR}{hs:Nat→cR}{x:α}{Hx A' G:cR}(hA':Acc z f E a n c (l++[x]) A')(hk:∀(i:Nat) (k:α),l[i]? = some k→O k (hs i))(hx:O x Hx)
  (hG:G.Perm (A'++(Hx++(dz l.length hs++F)))):Part z f E O a n c (l++[x]) F G:=by
 refine⟨A',fun j=>if j<l.length then hs j else Hx,hA',fun j k hj=>?_, ?_⟩
 ·show O k (if j<l.length then hs j else Hx)
  rw[List.getElem?_append] at hj
  split at hj
  ·rename_i hlt';rw[if_pos hlt'];exact hk j k hj
  ·rename_i hge
   have hj':=List.mem_of_getElem? hj
   rw[List.mem_singleton] at hj'
   rw[if_neg hge,hj'];exact hx
 ·rw[List.length_append,List.length_singleton,nG,if_neg (Nat.lt_irrefl _),vG (hs':=hs) fun j hj=>if_pos hj]
  exact hG.trans (cV fun z=>by simp only[cX];omega)
theorem jB{P:Program}{α:Type}{z:Nat}{f:α→List Value}(hz:∀x,(f x).length=z){t ty e:TypeId}{zv:Value}{by':Nat}(ht:P.underlying t=some (.slice e))(hi:(P.info? e).map (fun i=>(i.zero,i.size,i.bytes))=some (some zv,z,by'))(hzs:zv.cells.size=z)(hb:1≤by')
  {a:Option Addr} {n c:Nat} {l:List α} {O:α→cR→Prop} {F F1 F2 R0 Hx:cR} {x:α} (h:Part z f e O a n c l F F1) (h1:∀u∈f x,u.oneCell'=true) {b:Nat} {I:cS} {o:Obj} (ho:o=.cells (f x).toArray e (0,0)) (hbm:I b=some o)
  (hx:O x Hx) (hF2:F2.Perm (R0++(Hx++F1))) (hfit:(l.length+1)*by'≤140737488355328) :
  dm P (Builtin.append_ #[t,t] ty #[.slice a n c,.slice (some ⟨b,0,none⟩) 1 1]) I F2 fun v I' G=>∃a' n' c',v=.slice a' n' c'∧∃F3,G.Perm (R0++F3)∧Part z f e O a' n' c' (l++[x]) F F3:=by
 obtain⟨A,hs,hA,hk,hp⟩:=h
 subst ho
 refine dm.perm (dm.mono (eJ hz ht hi hzs hb hA (xs:=[x]) (fun y hy=>by rw[List.mem_singleton] at hy;rw[hy];exact h1) (by simp) rfl ?_ (by simpa using hfit) (F:=R0++(Hx++(dz l.length hs++F)))) fun v I2 G hI2 ⟨a',n',c',A',hv,hA',hG',_⟩=>?_) ?_
 ·refine⟨rfl,_,_,_,.inl hbm,fun j hj=>?_⟩
  simp
 ·subst hG'
  exact⟨a',n',c',hv,A'++(Hx++(dz l.length hs++F)),cV fun z=>by simp only[cX];omega,zl hA' hk hx (.refl _)⟩
 ·refine hF2.trans ?_
  exact cV fun z=>by have:=gW hp z;simp only[cX] at this ⊢;omega
def yk:Row:=⟨none,0,0⟩
theorem Bd.app{z:Nat}{ls ms:List (List (Ck z))}(h:Bd ls)(h':Bd ms):Bd (ls++ms):=by
 intro j y hy
 rw[List.getElem?_append] at hy
 split at hy
 ·exact h j y hy
 ·exact h' _ y hy
section
variable (s:jg) (hl:s.p.Bg) {I:cS} {F:cR} (hok:s.Ok I F)
include hl hok
end
end Go.Lx
namespace Go.Lx
open Go.Vc
section
variable (s:jg) (hl:s.p.Bg) {I:cS} {F:cR} (hok:s.Ok I F)
include hl hok
end
end Go.Lx
namespace Go.Lx
open Go.Vc
section
variable (s:jg) (hl:s.p.Bg) {I:cS} {F:cR} (hok:s.Ok I F)
include hl hok
end
end Go.Lx
namespace Go.Lx
open Go.Vc
inductive ji (B:Int):Px→Prop
 | mk {k o t n f:Int} {s:ByteArray} {l:List Px} {q:Int}:0≤q→q≤B→(∀x∈l,ji B x)→(s.size:Int)≤B→ji B (.mk k o t n f s l q)
theorem ji.pos{B:Int}{x:Px}(h:ji B x):0≤x.pos∧x.pos≤B:=by cases h;exact⟨by assumption,by assumption⟩
theorem ji.nm{B:Int}{x:Px}(h:ji B x):(x.name.size:Int)≤B:=by cases h;assumption
theorem zm{B q:Int}(h0:0≤q)(h1:q≤B):(((⟨#[]⟩:ByteArray).size:Nat):Int)≤B:=Int.le_trans h0 h1
theorem ji.A4{B:Int}{x:Px}(h:ji B x):∀k∈x.kids,ji B k:=by cases h;assumption
theorem ji.leaf{B:Int}{k o t n f:Int}{q:Int}(h0:0≤q)(h1:q≤B):ji B (.mk k o t n f ⟨#[]⟩ [] q):=.mk h0 h1 (fun x hx=>by cases hx) (zm h0 h1)
def uw(c:PC)(B:Int):Prop:=0≤B∧∀t∈c.l,(0≤t.pos∧t.pos≤B)∧(t.text.size:Int)≤B
def Sz(c:PC)(B:Int)(g:PS→Px×PS):Prop:=∀s,(g s).1.size+3*s.next≤1+3*(g s).2.next∧ji B (g s).1
section
variable {c:PC} {B:Int} (hB:uw c B)
include hB
theorem Bh(i:Nat):0≤(c.tok i).pos∧(c.tok i).pos≤B:=by
 unfold PC.tok
 cases h:c.l[i]? with
 | none=>exact⟨Int.le_refl 0,hB.1⟩
 | some t=>exact (hB.2 t (List.mem_of_getElem? h)).1
theorem lC(s:PS):0≤(c.now s).pos∧(c.now s).pos≤B:=by
 unfold PC.now
 split
 ·exact⟨Int.le_refl 0,hB.1⟩
 ·exact Bh hB _
theorem Cs(s:PS):((c.now s).text.size:Int)≤B:=by
 unfold PC.now
 split
 ·exact hB.1
 ·unfold PC.tok
  cases h:c.l[s.next]? with
  | none=>exact hB.1
  | some t=>exact (hB.2 t (List.mem_of_getElem? h)).2
theorem js:ji B fG:=.leaf (Int.le_refl 0) hB.1
theorem xp(s:PS):(c.literal s).1.1.size=1∧ji B (c.literal s).1.1:=by
 unfold PC.literal
 have hn:=lC hB s
 have one:∀(a b:Int),(rK a b (c.now s).pos).size=1∧ji B (rK a b (c.now s).pos):=fun a b=>⟨rfl,.leaf hn.1 hn.2⟩
 split
 ·exact one _ _
 ·split
  ·exact one _ _
  ·split
   ·exact one _ _
   ·exact⟨rfl,js hB⟩
end
theorem pg(a b:Px):Px.dT [a,b]=a.size+b.size:=by rw[Px.dT,Px.dT,Px.dT];omega
section
variable {c:PC} {B:Int} (hB:uw c B) {nx:Lv} (hx:Sz c B nx.ex) (hu:Sz c B nx.un)
include hB hx
theorem yl:∀(n:Nat) (f:Bool) (s:PS),Px.dT (c.dA nx n f s).1+3*s.next≤n+3*(c.dA nx n f s).2.next∧∀k∈(c.dA nx n f s).1,ji B k
 | 0,f,s=>by rw[PC.dA];exact⟨by show (0:Int)+3*(s.next:Int)≤((0:Nat):Int)+3*(s.next:Int);omega,fun k hk=>by cases hk⟩
 | n+1,f,s=>by
   have _:=hB
   rw[PC.dA]
   have h1:s.next≤(if f then s else (c.take (⟨#[44]⟩:ByteArray) s).2).next:=by
    split
    ·exact Nat.le_refl _
    ·exact (Up.take _).1
   obtain⟨h2,h3⟩:=hx (if f then s else (c.take (⟨#[44]⟩:ByteArray) s).2)
   obtain⟨h4,h5⟩:=yl n false (nx.ex (if f then s else (c.take (⟨#[44]⟩:ByteArray) s).2)).2
   refine⟨?_,fun k hk=>?_⟩
   ·show Px.dT ((nx.ex _).1::_)+_≤_
    rw[Px.dT]
    show _≤_+3*(((c.dA nx n false (nx.ex (if f then s else (c.take (⟨#[44]⟩:ByteArray) s).2)).2).2.next:Nat):Int)
    omega
   ·rcases List.mem_cons.1 hk with rfl | hk
    ·exact h3
    ·exact h5 k hk
theorem ym{d kind oper fL pos:Int}{many:Nat}{s:PS}(hm:many≤3)(h0:0≤pos)(h1:pos≤B):(c.call nx d kind oper fL pos many s).1.size+3*s.next≤1+3*(c.call nx d kind oper fL pos many s).2.next∧ji B (c.call nx d kind oper fL pos many s).1:=by
 unfold PC.call
 split
 ·rw[eS];exact⟨Int.le_refl _,js hB⟩
 ·have h2:(c.cY d s).inc.next=s.next+1:=by rw[gi,eS]
  have h3:=(Up.take (c:=c) (s:=(c.cY d s).inc) (⟨#[40]⟩:ByteArray)).1
  obtain⟨h4,h5⟩:=yl hB hx many true (c.take (⟨#[40]⟩:ByteArray) (c.cY d s).inc).2
  have h6:=(Up.take (c:=c) (s:=(c.dA nx many true (c.take (⟨#[40]⟩:ByteArray) (c.cY d s).inc).2).2) (⟨#[41]⟩:ByteArray)).1
  refine⟨?_,.mk h0 h1 h5 (zm h0 h1)⟩
  show Px.size (.mk kind oper fL 0 0 ⟨#[]⟩ _ pos)+_≤1+3*((c.take (⟨#[41]⟩:ByteArray) (c.dA nx many true (c.take (⟨#[40]⟩:ByteArray) (c.cY d s).inc).2).2).2.next:Int)
  rw[Px.size]
  omega
theorem Bi(d:Int):Sz c B (c.rest nx d):=fun s=>by
 unfold PC.rest
 have hn:=lC hB s
 split
 ·split
  ·rw[lu,gi];exact⟨by show (1:Int)+_≤_;omega,js hB⟩
  ·exact⟨by show (1:Int)+3*(s.next:Int)≤1+3*((s.next+1+1:Nat):Int);omega,.leaf hn.1 hn.2⟩
 ·split
  ·split
   ·rw[eS];exact⟨Int.le_refl _,js hB⟩
   ·have h2:(c.cY d s).inc.next=s.next+1:=by rw[gi,eS]
    obtain⟨h3,h4⟩:=hx (c.cY d s).inc
    have h5:=(Up.take (c:=c) (s:=(nx.ex (c.cY d s).inc).2) (⟨#[41]⟩:ByteArray)).1
    exact⟨by show (nx.ex (c.cY d s).inc).1.size+_≤1+3*((c.take (⟨#[41]⟩:ByteArray) (nx.ex (c.cY d s).inc).2).2.next:Int);omega,h4⟩
  ·rw[lu];exact⟨Int.le_refl _,js hB⟩
theorem Ct(d:Int):Sz c B (c.one nx d):=fun s=>by
 unfold PC.one
 have hn:=lC hB s
 split
 ·obtain⟨h1,h2⟩:=xp hB s
  have h3:=(Up.literal (c:=c) (s:=s)).1
  exact⟨by show (c.literal s).1.1.size+_≤1+3*((c.literal s).2.next:Int);rw[h1];omega,h2⟩
 ·split
  ·exact⟨by show (1:Int)+3*(s.next:Int)≤1+3*((s.next+1:Nat):Int);omega,.mk hn.1 hn.2 (fun x hx=>by cases hx) (Cs hB s)⟩
  ·split
   ·exact⟨by show (1:Int)+3*(s.next:Int)≤1+3*((s.next+1:Nat):Int);omega,.leaf hn.1 hn.2⟩
   ·split
    ·exact ym hB hx (by split<;>decide) hn.1 hn.2
    ·split
     ·exact ym hB hx (by decide) hn.1 hn.2
     ·exact Bi hB hx d s
include hu
theorem rO(d:Int):Sz c B (c.unary nx d):=fun s=>by
 unfold PC.unary
 have hn:=lC hB (c.cY d s)
 split
 ·exact Ct hB hx d s
 ·split
  ·rw[eS];exact⟨Int.le_refl _,js hB⟩
  ·have h2:(c.cY d s).inc.next=s.next+1:=by rw[gi,eS]
   obtain⟨h3,h4⟩:=hu (c.cY d s).inc
   refine⟨?_,.mk hn.1 hn.2 (fun k hk=>?_) (zm hn.1 hn.2)⟩
   ·show Px.size (.mk 5 _ 0 0 0 ⟨#[]⟩ [(nx.un (c.cY d s).inc).1] _)+_≤1+3*((nx.un (c.cY d s).inc).2.next:Int)
    rw[Px.size,Px.dT,Px.dT];omega
   ·rw[List.mem_singleton] at hk;subst hk;exact h4
end
theorem vZ{c:PC}{B:Int}(hB:uw c B){ws:List ByteArray}{o:Int}{sub:PS→Px×PS}(h:Sz c B sub):∀(m:Nat) (n:Px) (s:PS) (s0:Int),n.size+s0≤1+3*s.next→ji B n→(c.eF ws o sub m n s).1.size+s0≤1+3*(c.eF ws o sub m n s).2.next∧ji B (c.eF ws o sub m n s).1
 | 0,n,s,s0,hn,hp=>⟨hn,hp⟩
 | m+1,n,s,s0,hn,hp=>by
   rw[PC.eF]
   split
   ·exact⟨hn,hp⟩
   ·have hq:=lC hB s
    obtain⟨h1,h2⟩:=h s.inc
    rw[gi] at h1
    refine vZ hB h m _ _ s0 ?_ (.mk hq.1 hq.2 (fun k hk=>?_) (zm hq.1 hq.2))
    ·rw[uk,Px.size,pg];omega
    ·rcases List.mem_cons.1 hk with rfl | hk
     ·exact hp
     ·rw[List.mem_singleton] at hk;subst hk;exact h2
theorem qi{c:PC}{B:Int}(hB:uw c B){ws:List ByteArray}{o:Int}{sub:PS→Px×PS}(h:Sz c B sub):Sz c B (c.loop ws o sub):=fun s=>vZ hB h _ _ _ _ (h s).1 (h s).2
section
variable {c:PC} {B:Int} (hB:uw c B) {nx:Lv} (hx:Sz c B nx.ex) (hu:Sz c B nx.un) (hm:fX c nx.ex) (hmu:fX c nx.un) (d:Int)
include hB hx hu
theorem xq:Sz c B (c.product nx d):=qi hB (rO hB hx hu d)
theorem Ao:Sz c B (c.sum nx d):=qi hB (xq hB hx hu d)
theorem xt:Sz c B (c.compare nx d):=fun s=>by
 unfold PC.compare
 obtain⟨h1,h2⟩:=Ao hB hx hu d s
 have hq:=lC hB (c.sum nx d s).2
 show (if c.any ku (c.sum nx d s).2<0 then c.sum nx d s else _).1.size+_≤1+3*((if c.any ku (c.sum nx d s).2<0 then c.sum nx d s else _:Px×PS).2.next:Int)∧ji B (if c.any ku (c.sum nx d s).2<0 then c.sum nx d s else _:Px×PS).1
 split
 ·exact⟨h1,h2⟩
 ·obtain⟨h3,h4⟩:=Ao hB hx hu d (c.sum nx d s).2.inc
  rw[gi] at h3
  refine⟨?_,.mk hq.1 hq.2 (fun k hk=>?_) (zm hq.1 hq.2)⟩
  ·show Px.size (uk _ _ _ _)+_≤1+3*((c.sum nx d (c.sum nx d s).2.inc).2.next:Int)
   rw[uk,Px.size,pg];omega
  ·rcases List.mem_cons.1 hk with rfl | hk
   ·exact h2
   ·rw[List.mem_singleton] at hk;subst hk;exact h4
theorem Cu:Sz c B (c.and nx d):=qi hB (xt hB hx hu d)
theorem Di:Sz c B (c.or nx d):=qi hB (Cu hB hx hu d)
include hm hmu
theorem yn:Sz c B (c.expr nx d):=fun s=>by
 unfold PC.expr
 obtain⟨h1,h2⟩:=Di hB hx hu d s
 have hup:=(Up.or hm hmu d s).1
 show (if c.eC _ (c.or nx d s).2 then _ else c.or nx d s:Px×PS).1.size+_≤1+3*((if c.eC _ (c.or nx d s).2 then _ else c.or nx d s:Px×PS).2.next:Int)∧ji B (if c.eC _ (c.or nx d s).2 then _ else c.or nx d s:Px×PS).1
 split
 ·show (if (c.cY d (c.or nx d s).2).over then _ else _:Px×PS).1.size+_≤1+3*((if (c.cY d (c.or nx d s).2).over then _ else _:Px×PS).2.next:Int)∧ji B (if (c.cY d (c.or nx d s).2).over then _ else _:Px×PS).1
  have hq:=lC hB (c.cY d (c.or nx d s).2)
  split
  ·rw[eS];exact⟨by show (1:Int)+_≤_;omega,js hB⟩
  ·have h3:(c.cY d (c.or nx d s).2).inc.next=(c.or nx d s).2.next+1:=by rw[gi,eS]
   obtain⟨h4,h5⟩:=hx (c.cY d (c.or nx d s).2).inc
   have h6:=(Up.take (c:=c) (s:=(nx.ex (c.cY d (c.or nx d s).2).inc).2) (⟨#[58]⟩:ByteArray)).1
   obtain⟨h7,h8⟩:=hx (c.take (⟨#[58]⟩:ByteArray) (nx.ex (c.cY d (c.or nx d s).2).inc).2).2
   refine⟨?_,.mk hq.1 hq.2 (fun k hk=>?_) (zm hq.1 hq.2)⟩
   ·show Px.size (.mk 7 0 0 0 0 ⟨#[]⟩ [(c.or nx d s).1,(nx.ex (c.cY d (c.or nx d s).2).inc).1,(nx.ex (c.take (⟨#[58]⟩:ByteArray) (nx.ex (c.cY d (c.or nx d s).2).inc).2).2).1] _)+_≤1+3*((nx.ex (c.take (⟨#[58]⟩:ByteArray) (nx.ex (c.cY d (c.or nx d s).2).inc).2).2).2.next:Int)
    rw[Px.size,Px.dT,pg];omega
   ·rcases List.mem_cons.1 hk with rfl | hk
    ·exact h2
    ·rcases List.mem_cons.1 hk with rfl | hk
     ·exact h5
     ·rw[List.mem_singleton] at hk;subst hk;exact h8
 ·exact⟨h1,h2⟩
end
theorem rP{c:PC}{B:Int}(hB:uw c B):∀(k:Nat) (d:Int),Sz c B (c.lvl k d).ex∧Sz c B (c.lvl k d).un
 | 0,d=>by
   have hz:Sz c B (fun s=>(fG,s)):=fun s=>⟨Int.le_refl _,js hB⟩
   exact⟨yn hB hz hz (fun s=>.refl) (fun s=>.refl) d,rO hB hz hz d⟩
 | k+1,d=>⟨yn hB (rP hB k (d+1)).1 (rP hB k (d+1)).2 (Up.lvl k (d+1)).1 (Up.lvl k (d+1)).2 d,rO hB (rP hB k (d+1)).1 (rP hB k (d+1)).2 d⟩
theorem Cv{c:PC}{B:Int}(hB:uw c B):Sz c B c.eY:=(rP hB 24 0).1
theorem v5{s:ByteArray}:∀(n:Nat) (f:Int),0≤f→f≤s.size→∀t∈(iL s n f).1,(0≤t.pos∧t.pos≤s.size)∧(t.text.size:Int)≤s.size
 | 0,f,h0,h1,t,ht=>by rw[iL] at ht;cases ht
 | n+1,f,h0,h1,t,ht=>by
   rw[iL] at ht
   split at ht
   ·cases ht
   ·rename_i u hu
    obtain⟨g1,g2,_⟩:=kI h0 h1 hu
    have hp:(0≤u.pos∧u.pos≤s.size)∧(u.text.size:Int)≤s.size:=⟨⟨by omega,by omega⟩,by omega⟩
    split at ht
    ·rw[List.mem_singleton] at ht;subst ht;exact hp
    ·rcases List.mem_cons.1 ht with rfl | ht
     ·exact hp
     ·exact v5 n _ (by omega) g1 t ht
theorem Ap(t:ByteArray):uw (dp t) t.size:=by
 refine⟨by omega,fun u hu=>?_⟩
 unfold dp at hu
 split at hu
 ·cases hu
 ·exact v5 _ 0 (Int.le_refl 0) (by omega) u hu
theorem Aq(t:ByteArray):(dp t).l.length≤4097:=by
 unfold dp
 split
 ·decide
 ·have:=pe t ((t.size:Int)-0+1).toNat 0
  show (kr t 0).1.length≤4097
  unfold kr
  omega
end Go.Lx
namespace Go.Lx
open Go.Vc
def zB(B M:Int)(x:Px):Prop:=x.size≤M∧ji B x
def mv.In(B M:Int)(d:mv):Prop:=((0≤d.pos∧d.pos≤B)∧(d.name.size:Int)≤B)∧zB B M d.side∧zB B M d.qty∧zB B M d.price∧zB B M d.value
def iK.In(B M:Int)(r:iK):Prop:=(0≤r.pos∧r.pos≤B)∧zB B M r.when∧r.dos.length≤8∧∀d∈r.dos,d.In B M
def gg.In(B M:Int)(x:gg):Prop:=((0≤x.pos∧x.pos≤B)∧(x.name.size:Int)≤B)∧x.rules.length≤12∧∀r∈x.rules,r.In B M
def iE.In(B M:Int)(r:iE):Prop:=((0≤r.pos∧r.pos≤B)∧(r.name.size:Int)≤B)∧zB B M r.init
def eg.In(B:Int)(r:eg):Prop:=(0≤r.pos∧r.pos≤B)∧(r.name.size:Int)≤B
structure iv.In (B M:Int) (s:iv):Prop where
 rl:s.regs.length≤12
 rr:∀x∈s.regs,x.In B M
 sl:s.slots.length≤4
 ss:∀x∈s.slots,x.In B
 tl:s.states.length≤12
 tt:∀x∈s.states,x.In B M
 nn:(s.name.size:Int)≤B
section
variable {c:PC} {B M:Int} (hB:uw c B) (hM:2+3*(c.l.length:Int)≤M)
include hB hM
theorem Cw:zB B M fG:=⟨by show (1:Int)≤M;omega,js hB⟩
theorem Cx{s:PS}(hs:s.next≤c.l.length):zB B M (c.eY s).1∧(c.eY s).2.next≤c.l.length:=by
 obtain⟨h1,h2⟩:=Cv hB s
 have h3:=(Up.eY (c:=c) s).2 hs
 exact⟨⟨by omega,h2⟩,h3⟩
omit hB hM in
end
section
variable {B M:Int} {s:iv}
variable (h0:0≤B)
include h0
end
end Go.Lx
namespace Go.Lx
open Go.Vc
theorem ji.short{B:Int}(hB:B≤140737488351232):∀x:Px,ji B x→x.size≤1048576→x.iz:=by
 refine Px.ind fun x ih h hs=>?_
 have hn:=h.nm
 have hsz:x.size=1+Px.dT x.kids:=Px.size_eq x
 have hk:∀l:List Px,(l.length:Int)≤Px.dT l∧∀k∈l,k.size≤Px.dT l:=by
  intro l
  induction l with
  | nil=>exact⟨Int.le_refl _,fun k hk=>by cases hk⟩
  | cons y r ih2 =>
    have hp:=Px.size_pos y
    rw[Px.dT,List.length_cons]
    refine⟨by have:=ih2.1;omega,fun k hk=>?_⟩
    rcases List.mem_cons.1 hk with rfl | hk
    ·have:=ih2.1;omega
    ·have:=ih2.2 k hk;omega
 have hl:=(hk x.kids).1
 refine .mk (by omega) (by omega) fun k hm=>ih k hm (h.A4 k hm) ?_
 have:=(hk x.kids).2 k hm
 omega
theorem zB.short{B M:Int}(hB:B≤140737488351232)(hM:M≤1048576){x:Px}(h:zB B M x):x.iz:=h.2.short hB x (Int.le_trans h.1 hM)
theorem kJ{α:Type}{f:α→Int}{M:Int}:∀{l:List α},(∀x∈l,f x≤M)→oG f l≤M*l.length
 | [],_=>by rw[oG];simp
 | x::r,h=>by
   have h1:=kJ fun y hy=>h y (List.Mem.tail _ hy)
   have h2:=h x (.head _)
   rw[oG,List.length_cons,Int.natCast_add,Int.mul_add]
   omega
theorem oH{n m:Nat}{M:Int}(h:n≤m)(h0:0≤M):M*(n:Int)≤M*(m:Int):=Int.mul_le_mul_of_nonneg_left (by omega) h0
theorem iv.In.jc{B:Int}{s:iv}(h:s.In B 20000):s.jc≤100000000:=by
 have h1:=oH (M:=20001) h.rl (by decide)
 have h2:=h.sl
 have h3:=oH (M:=7920181) h.tl (by decide)
 have g1:oG iE.jc s.regs≤20001*s.regs.length:=kJ fun r hr=>by
  have:=(h.rr r hr).2.1
  show 1+r.init.size≤_
  omega
 have g3:oG gg.jc s.states≤7920181*s.states.length:=kJ fun x hx=>by
  obtain⟨_,g2,g3⟩:=h.tt x hx
  have k:=oH (M:=660015) g2 (by decide)
  have:oG iK.jc x.rules≤660015*x.rules.length:=kJ fun r hr=>by
   obtain⟨_,k1,k2,k3⟩:=g3 r hr
   have j:=oH (M:=80001) k2 (by decide)
   have:oG mv.jc r.dos≤80001*r.dos.length:=kJ fun d hd=>by
    obtain⟨_,d1,d2,d3,d4⟩:=k3 d hd
    have e1:=d1.1
    have e2:=d2.1
    have e3:=d3.1
    have e4:=d4.1
    show 1+d.side.size+d.qty.size+d.price.size+d.value.size≤_
    omega
   have e1:=k1.1
   show 1+r.when.size+oG mv.jc r.dos≤_
   omega
  show 1+oG iK.jc x.rules≤_
  omega
 unfold iv.jc
 omega
theorem tu(t:ByteArray):zB t.size 20000 (ew t).1:=by
 unfold ew
 have hB:=Ap t
 have hl:=Aq t
 have hz:=Cw hB (M:=20000) (by omega)
 show zB t.size 20000 (if ((dp t).end ((dp t).eY (dL t)).2).over then _ else _:Px×PF).1
 split
 ·exact hz
 ·exact (Cx hB (by omega) (Nat.zero_le _)).1
theorem ux{t:ByteArray}(h:dt t):(ew t).1.iz:=(tu t).short (by unfold dt at h;omega) (by decide)
def PC.fin(c:PC)(s:PS):Option PF:=if s.over then some s.f else if c.l.length≤s.next then some ⟨c.bad,c.pos,true⟩ else none
def PC.dH(c:PC)(f:PF)(s:PS):Prop:=c.fin s=some f∧(s.over=false→c.bad≠0)
section
variable {c:PC} {f:PF} {s:PS}
theorem PC.dH.now(h:c.dH f s):c.now s=jn 0:=by
 unfold PC.now
 refine if_pos ?_
 have h1:=h.1
 unfold PC.fin at h1
 by_cases ho:s.over=true
 ·simp[ho]
 ·rw[if_neg ho] at h1
  split at h1
  ·rename_i hl;simp[hl]
  ·cases h1
theorem PC.dH.c8(h:c.dH f s)(e:Int):c.dH f (c.c8 e s):=by
 unfold PC.c8
 split
 ·exact h
 ·rename_i ho
  have h1:=h.1;have h2:=h.2 (by simpa using ho)
  unfold PC.fin at h1
  rw[if_neg ho] at h1
  split at h1
  ·rename_i hl
   rw[if_pos hl]
   have ho2:PS.over ⟨s.next,⟨c.bad,c.pos,true⟩⟩=true:=by simpa[PS.over] using h2
   exact⟨by unfold PC.fin;rw[if_pos ho2];exact h1,fun h=>by rw[ho2] at h;cases h⟩
  ·cases h1
theorem PC.dH.eC(h:c.dH f s)(w:ByteArray):c.eC w s=false:=by
 unfold PC.eC;rw[h.now];simp[jn]
theorem PC.dH.kind(h:c.dH f s):(c.now s).kind=0:=by rw[h.now];rfl
theorem PC.dH.any(h:c.dH f s)(ws:List ByteArray):c.any ws s = -1:=by
 have:∀(ws:List ByteArray) (i:Int),c.iw s ws i = -1:=by
  intro ws
  induction ws with
  | nil=>intro i;rw[PC.iw]
  | cons w r ih=>intro i;rw[PC.iw,h.eC,if_neg (by simp),ih]
 exact this ws 0
theorem PC.dH.take(h:c.dH f s)(w:ByteArray):c.dH f (c.take w s).2:=by
 unfold PC.take;rw[h.eC];exact h.c8 _
theorem PC.dH.name(h:c.dH f s):c.dH f (c.name s).2:=by
 unfold PC.name;rw[h.kind,if_neg (by decide)];exact h.c8 _
theorem PC.dH.literal(h:c.dH f s):c.literal s=((fG,false),s):=by
 unfold PC.literal;rw[h.kind,if_neg (by decide),if_neg (by simp),if_neg (by simp)]
end
def Kp(c:PC)(f:PF){α:Type}(g:PS→α×PS):Prop:=∀s,c.dH f s→c.dH f (g s).2
section
variable {c:PC} {f:PF}
theorem Kp.rest(nx:Lv)(d:Int):Kp c f (c.rest nx d):=fun s h=>by
 unfold PC.rest;rw[h.eC,h.eC];exact h.c8 _
theorem Kp.one(nx:Lv)(d:Int):Kp c f (c.one nx d):=fun s h=>by
 unfold PC.one;rw[h.literal,h.kind,h.any,h.any,h.any,if_neg (by simp),if_neg (by decide),if_neg (by decide),if_neg (by decide),if_neg (by decide)];exact Kp.rest nx d s h
theorem Kp.unary(nx:Lv)(d:Int):Kp c f (c.unary nx d):=fun s h=>by
 unfold PC.unary;rw[h.any,if_pos (by decide)];exact Kp.one nx d s h
theorem Kp.eF{ws:List ByteArray}{o:Int}{sub:PS→Px×PS}:∀(m:Nat) (n:Px),Kp c f (c.eF ws o sub m n)
 | 0,n=>fun s h=>h
 | m+1,n=>fun s h=>by rw[PC.eF,h.any,if_pos (by decide)];exact h
theorem Kp.loop{ws:List ByteArray}{o:Int}{sub:PS→Px×PS}(hs:Kp c f sub):Kp c f (c.loop ws o sub):=fun s h=>Kp.eF _ _ _ (hs s h)
theorem Kp.product(nx:Lv)(d:Int):Kp c f (c.product nx d):=Kp.loop (Kp.unary nx d)
theorem Kp.sum(nx:Lv)(d:Int):Kp c f (c.sum nx d):=Kp.loop (Kp.product nx d)
theorem Kp.compare(nx:Lv)(d:Int):Kp c f (c.compare nx d):=fun s h=>by
 have h1:=Kp.sum nx d s h
 unfold PC.compare
 show c.dH f (if c.any ku (c.sum nx d s).2<0 then c.sum nx d s else _:Px×PS).2
 rw[h1.any,if_pos (by decide)];exact h1
theorem Kp.and(nx:Lv)(d:Int):Kp c f (c.and nx d):=Kp.loop (Kp.compare nx d)
theorem Kp.or(nx:Lv)(d:Int):Kp c f (c.or nx d):=Kp.loop (Kp.and nx d)
theorem Kp.expr(nx:Lv)(d:Int):Kp c f (c.expr nx d):=fun s h=>by
 have h1:=Kp.or nx d s h
 unfold PC.expr
 show c.dH f (if c.eC _ (c.or nx d s).2 then _ else c.or nx d s:Px×PS).2
 rw[h1.eC];exact h1
theorem Kp.lvl:∀(k:Nat) (d:Int),Kp c f (c.lvl k d).ex∧Kp c f (c.lvl k d).un
 | 0,d=>⟨Kp.expr _ d,Kp.unary _ d⟩
 | k+1,d=>⟨Kp.expr _ d,Kp.unary _ d⟩
theorem Kp.eY:Kp c f c.eY:=(Kp.lvl 24 0).1
theorem Kp.kids{nx:Lv}(hx:Kp c f nx.ex):∀(n:Nat) (b:Bool),Kp c f (c.dA nx n b)
 | 0,b=>fun s h=>h
 | n+1,b=>fun s h=>by
   rw[PC.dA]
   refine Kp.kids hx n false _ (hx _ ?_)
   split
   ·exact h
   ·exact h.take _
theorem Kp.um(nm:ByteArray)(t p p2:Int)(m:Bool)(n:Px):Kp c f (c.um nm t p p2 m n):=fun s h=>h.take _
theorem Kp.pc(nm:ByteArray)(t p p2:Int)(m:Bool):Kp c f (c.pc nm t p p2 m):=fun s h=>by
 unfold PC.pc;split
 ·exact h.c8 _
 ·refine Kp.um _ _ _ _ _ _ _ ?_
  rw[h.literal,if_neg (by simp)];exact h.c8 _
theorem Kp.uo(nm:ByteArray)(t p:Int):Kp c f (c.uo nm t p):=fun s h=>by
 unfold PC.uo;rw[h.eC,if_neg (by simp)];exact Kp.pc _ _ _ _ _ _ h
theorem Kp.vS(nm:ByteArray)(p:Int):Kp c f (c.vS nm p):=fun s h=>by
 unfold PC.vS;rw[h.any,if_pos (by decide)];exact h.c8 _
theorem Kp.nJ:Kp c f c.nJ:=fun s h=>by
 unfold PC.nJ;rw[h.eC,if_neg (by simp)];exact h
theorem Kp.sL(x y:Px)(p:Int)(z:Px)(o:Int):Kp c f (c.sL x y p z o):=fun s h=>Kp.nJ s h
theorem Kp.vT(x y:Px)(p:Int)(z:Px):Kp c f (c.vT x y p z):=fun s h=>by
 unfold PC.vT;rw[h.any,if_pos (by decide)];exact h.c8 _
theorem Kp.ur(x y:Px)(p:Int):Kp c f (c.ur x y p):=fun s h=>by
 unfold PC.ur;rw[h.any,if_pos (by decide)];exact h.c8 _
theorem Kp.vU(x:Px)(p:Int):Kp c f (c.vU x p):=fun s h=>Kp.ur _ _ _ _ (Kp.eY _ (h.take _))
theorem Kp.Bc(nm:ByteArray)(p:Int)(x:Px):Kp c f (c.Bc nm p x):=fun s h=>Kp.eY _ (h.take _)
theorem Kp.DP(nm:ByteArray)(p:Int):Kp c f (c.DP nm p):=fun s h=>Kp.eY _ (h.take _)
theorem Kp.AQ(k:Int)(nm:ByteArray)(p:Int):Kp c f (c.AQ k nm p):=fun s h=>by
 unfold PC.AQ;split
 ·exact Kp.Bc _ _ _ _ (Kp.eY _ (h.take _))
 ·split
  ·exact Kp.DP _ _ _ h
  ·exact h
theorem Kp.do:Kp c f c.do:=fun s h=>by
 unfold PC.do;rw[h.any,if_pos (by decide)];exact h.c8 _
theorem Kp.mO:∀(m:Nat) (l:List mv),Kp c f (c.mO m l)
 | 0,l=>fun s h=>h
 | m+1,l=>fun s h=>by
   have h1:=Kp.do s h
   rw[PC.mO,h1.eC,if_neg (by simp)];exact h1
theorem Kp.ma(w:Px)(p:Int):Kp c f (c.ma w p):=fun s h=>(Kp.mO 8 [] s h).take _
theorem Kp.lJ{α:Type}(w:ByteArray)(most:Nat)(one:PS→α×PS):∀(m:Nat) (l:List α),Kp c f (c.lJ w most one m l)
 | 0,l=>fun s h=>by rw[PC.lJ,h.eC];exact h
 | m+1,l=>fun s h=>by rw[PC.lJ,h.eC];exact h
theorem Kp.list{α:Type}(w:ByteArray)(most:Nat)(one:PS→α×PS):Kp c f (c.list w most one):=Kp.lJ w most one most []
theorem Kp.mb(nm:ByteArray)(p:Int):Kp c f (c.mb nm p):=fun s h=>(Kp.list _ _ _ s h).take _
end
end Go.Lx
namespace Go.Lx
open Go.Vc
def yo(s:ByteArray)(i:Int):TR:=if de (bt s i) then jf s i else if fZ (bt s i) then j2 s i else j3 s i
theorem tx(s:ByteArray)(f:Int):gK s f=if dj s f=s.size then .ok (jn (dj s f)) else yo s (dj s f):=rfl
theorem Ar{p:Int→Bool}{s:ByteArray}{i E:Int}(h:i≤E)(hE:E≤s.size)(hall:∀k,i≤k→k<E→p (bt s k)=true)(hend:E<s.size→p (bt s E)=false):dx p s i=E:=by
 obtain⟨n,hn⟩:∃n:Nat,n=(E-i).toNat:=⟨_,rfl⟩
 induction n generalizing i with
 | zero =>
   have:i=E:=by omega
   subst this
   rcases Int.lt_or_le i s.size with h' | h'
   ·rw[dy h',hend h'];rfl
   ·exact jz h'
 | succ n ih =>
   rw[dy (by omega),if_pos (hall i (Int.le_refl i) (by omega))]
   exact ih (by omega) (fun k h1 h2=>hall k (by omega) h2) (by omega)
theorem tz{p:Int→Bool}{s:ByteArray}{i k:Int}(h1:i≤k)(h2:k<dx p s i)(h3:i≤(s.size:Int)):p (bt s k)=true:=(vN h1 h2 h3).1
theorem xu{s s':ByteArray}{i i' E:Int}(hE:i≤E)(hEs:E≤s.size)(hE':i'+(E-i)≤s'.size)(hag:∀k,0≤k→k<E-i→bt s' (i'+k)=bt s (i+k))(hd:∀k,i≤k→k<E→de (bt s k)=true)
  (h1:E<s.size→de (bt s E)=false) (h2:i'+(E-i)<s'.size→de (bt s' (i'+(E-i)))=false) (v:Int):dR s' i' v=dR s i v:=by
 obtain⟨n,hn⟩:∃n:Nat,n=(E-i).toNat:=⟨_,rfl⟩
 induction n generalizing i i' v with
 | zero =>
   have hi:i=E:=by omega
   subst hi
   have e1:dR s i v=v:=by
    rcases Int.lt_or_le i s.size with h | h
    ·rw[gb h,h1 h];rfl
    ·exact mn h
   have e2:dR s' i' v=v:=by
    rcases Int.lt_or_le i' s'.size with h | h
    ·rw[gb h,show de (bt s' i')=false by have:=h2 (by omega);rwa [show i'+(i-i)=i' by omega] at this];rfl
    ·exact mn h
   rw[e1,e2]
 | succ n ih =>
   have hb:bt s' i'=bt s i:=by have:=hag 0 (Int.le_refl 0) (by omega);rwa [Int.add_zero,Int.add_zero] at this
   rw[gb (s:=s) (by omega),gb (s:=s') (by omega),hb,hd i (Int.le_refl i) (by omega)]
   simp only[if_true]
   refine ih (i:=i+1) (i':=i'+1) (by omega) (by omega) (fun k g0 g1=>?_) (fun k g0 g1=>hd k (by omega) g1) (fun h=>?_) _ (by omega)
   ·have:=hag (k+1) (by omega) (by omega)
    rw[show i'+1+k=i'+(k+1) by omega,show i+1+k=i+(k+1) by omega];exact this
   ·have:=h2 (by omega)
    rwa [show i'+1+(E-(i+1))=i'+(E-i) by omega]
theorem Au{s s':ByteArray}{i i':Int}{n:Int}(h0:0≤i)(h0':0≤i')(hn:0≤n)(hle:i+n≤s.size)(hle':i'+n≤s'.size)(hag:∀k,0≤k→k<n→bt s' (i'+k)=bt s (i+k)):cut s' i' (i'+n)=cut s i (i+n):=by
 have h1:=gT h0 (by omega:i≤i+n) hle
 have h2:=gT h0' (by omega:i'≤i'+n) hle'
 refine xe (by omega) fun k hk=>?_
 rw[lY h0' (by omega) (by omega) hle',lY h0 (by omega) (by omega) hle]
 exact hag k (by omega) (by omega)
theorem Bj{s:ByteArray}{i:Int}{t:Tok}(h:jf s i=.ok t) :
  ∃E e2,E=dx de s i∧e2=(if dS (c5 s E)=1 then E else E+1)∧¬(dR s i 0>9223372036854775807∨(E-i>1∧bt s i=48)∨(e2<s.size∧(dC (bt s e2)=true∨(65≤bt s e2∧bt s e2≤90)))) ∧
   t=⟨3,cut s i e2,dS (c5 s E),dR s i 0,i⟩:=by
 refine⟨_,_,rfl,rfl, ?_, ?_⟩
 ·intro hc
  have:jf s i=.bad 113 i:=if_pos hc
  rw[this] at h;cases h
 ·have:∀C:Prop,[Decidable C]→∀x y:TR,(if C then x else y)=.ok t→x=.bad 113 i→y=.ok t:=fun C _ x y h hx=>by
   split at h
   ·rw[hx] at h;cases h
   ·exact h
  have:=this _ _ _ h rfl
  cases this;rfl
theorem rQ(s:ByteArray):∀(n:Nat) (f:Int),(iL s n f).1.length≤n
 | 0,f=>Nat.le_refl _
 | n+1,f=>by
   unfold iL
   cases gK s f with
   | bad e p=>simp
   | ok t =>
     simp only
     split
     ·simp
     ·simp only[List.length_cons];exact Nat.succ_le_succ (rQ s n _)
theorem Bl{C D:Prop}[Decidable C][Decidable D](h:C↔D){α:Type}(x y:α):(if C then x else y)=if D then x else y:=by
 by_cases hc:C
 ·rw[if_pos hc,if_pos (h.1 hc)]
 ·rw[if_neg hc,if_neg (fun hd=>hc (h.2 hd))]
structure gj (b z:ByteArray) (d:Int):Prop where
 d0:0≤d
 size:(z.size:Int)=b.size+d
 same:∀k,0≤k→k<(b.size:Int)→bt z (k+d)=bt b k
theorem gj.run{b z:ByteArray}{d:Int}(h:gj b z d){p:Int→Bool}{i:Int}(h0:0≤i)(h1:i≤b.size):dx p z (i+d)=dx p b i+d:=by
 have hE:=eM (p:=p) h1
 have hd:=h.d0
 have hs:=h.size
 refine Ar (by omega) (by omega) (fun k g0 g1=>?_) fun hl=>?_
 ·rw[show k=k-d+d by omega,h.same (k-d) (by omega) (by omega)];exact tz (by omega) (by omega) h1
 ·rw[h.same _ (by omega) (by omega)];exact jZ h1 (by omega)
theorem gj.byte{b z:ByteArray}{d:Int}(h:gj b z d){i:Int}(h0:0≤i):c5 z (i+d)=c5 b i:=by
 have hs:=h.size
 unfold c5
 by_cases hh:i<b.size
 ·rw[if_pos (by omega),if_pos hh,h.same i h0 hh]
 ·rw[if_neg (by omega),if_neg hh]
theorem gj.cut{b z:ByteArray}{d:Int}(h:gj b z d){i e:Int}(h0:0≤i)(h1:i≤e)(h2:e≤b.size):cut z (i+d) (e+d)=cut b i e:=by
 have hd:=h.d0
 have hs:=h.size
 have hc:=Au (s:=b) (s':=z) (i:=i) (i':=i+d) (n:=e-i) h0 (by omega) (by omega) (by omega) (by omega) fun k g0 g1=>by
  rw[show i+d+k=i+k+d by omega];exact h.same _ (by omega) (by omega)
 rwa [show i+(e-i)=e by omega,show i+d+(e-i)=e+d by omega] at hc
theorem gj.val{b z:ByteArray}{d:Int}(h:gj b z d){i:Int}(h0:0≤i)(h1:i≤b.size):dR z (i+d) 0=dR b i 0:=by
 have hd:=h.d0
 have hs:=h.size
 have hE:=eM (p:=de) h1
 refine xu (E:=dx de b i) hE.1 hE.2 (by omega) (fun k g0 g1=>?_) (fun k g0 g1=>tz g0 g1 h1) (fun hl=>jZ h1 hl) (fun hl=>?_) 0
 ·rw[show i+d+k=i+k+d by omega];exact h.same _ (by omega) (by omega)
 ·rw[show i+d+(dx de b i-i)=dx de b i+d by omega,h.same _ (by omega) (by omega)];exact jZ h1 (by omega)
def TR.shift(d:Int):TR→TR
 | .ok t=>.ok ⟨t.kind,t.text,t.fL,t.n,t.pos+d⟩
 | .bad e p=>.bad e (p+d)
theorem kK{C:Prop}[Decidable C]{d:Int}{x y:TR}:TR.shift d (if C then x else y)=if C then x.shift d else y.shift d:=by split<;>rfl
theorem gj.num{b z:ByteArray}{d:Int}(h:gj b z d){i:Int}(h0:0≤i)(h1:i<b.size):jf z (i+d)=(jf b i).shift d:=by
 have hd:=h.d0
 have hs:=h.size
 have hE:=eM (p:=de) (s:=b) (i:=i) (by omega)
 have hr:=h.run (p:=de) (i:=i) h0 (by omega)
 have hv:=h.val (i:=i) h0 (by omega)
 generalize hEd:dx de b i=E at hE hr
 have hby:=h.byte (i:=E) (by omega)
 have htE:dS (c5 b E)≠1→E<b.size:=fun hne=>by
  rcases Int.lt_or_le E b.size with h | h
  ·exact h
  ·rw[show c5 b E=0 by unfold c5;rw[if_neg (by omega)]] at hne;exact absurd rfl hne
 have he2:∃e2,e2=(if dS (c5 b E)=1 then E else E+1)∧(if dS (c5 b E)=1 then E+d else E+d+1)=e2+d∧E≤e2∧e2≤b.size:=by
  refine⟨_,rfl, ?_⟩
  split
  ·exact⟨rfl,by omega⟩
  ·rename_i hne;have:=htE hne;exact⟨by omega,by omega⟩
 obtain⟨e2,he2,he2',hb1,hb2⟩:=he2
 have hb0:bt z (i+d)=bt b i:=h.same i h0 h1
 have hc:(e2+d<z.size∧(dC (bt z (e2+d))=true∨(65≤bt z (e2+d)∧bt z (e2+d)≤90)))↔(e2<b.size∧(dC (bt b e2)=true∨(65≤bt b e2∧bt b e2≤90))):=by
  rcases Int.lt_or_le e2 b.size with hh | hh
  ·rw[h.same e2 (by omega) hh]
   exact⟨fun x=>⟨hh,x.2⟩,fun x=>⟨by omega,x.2⟩⟩
  ·exact⟨fun x=>by omega,fun x=>by omega⟩
 have hdig:(E+d-(i+d)>1∧bt b i=48)↔(E-i>1∧bt b i=48):=by rw[show E+d-(i+d)=E-i by omega]
 unfold jf
 simp only[hr,hEd,hby,he2',←he2,hv,hb0,h.cut h0 (by omega:i≤e2) hb2]
 rw[kK]
 exact Bl (or_congr (Iff.refl (dR b i 0>9223372036854775807)) (or_congr hdig hc)) _ _
theorem gj.read{b z:ByteArray}{d:Int}(h:gj b z d){i:Int}(h0:0≤i)(h1:i<b.size):yo z (i+d)=(yo b i).shift d:=by
 have hb0:bt z (i+d)=bt b i:=h.same i h0 h1
 have hn:j2 z (i+d)=(j2 b i).shift d:=by
  have hE:=eM (p:=dC) (s:=b) (i:=i) (by omega)
  unfold j2
  simp only[h.run (p:=dC) (i:=i) h0 (by omega),h.cut h0 hE.1 hE.2,show dx dC b i+d-(i+d)=dx dC b i-i by omega]
  rw[kK]
  rfl
 have hm:j3 z (i+d)=(j3 b i).shift d:=by
  have hr:=j8 b i
  have hl:=oC h1
  have hmn:fj z (i+d)=fj b i:=by
   unfold fj
   rw[hb0,show i+d+1=i+1+d by omega,h.byte (i:=i+1) (by omega)]
  unfold j3
  rw[hmn,show i+d+fj b i=i+fj b i+d by omega,h.cut h0 (by omega) hl,kK]
  rfl
 unfold yo
 rw[hb0,h.num h0 h1,hn,hm,kK,kK]
theorem gj.over{b z:ByteArray}{d:Int}(h:gj b z d):∀(n:Nat) (r:Bool) (f:Int),0≤f→f≤b.size→(b.size-f).toNat=n→lH z r (f+d)=lH b r f+d:=by
 have hs:=h.size
 intro n
 induction n with
 | zero =>
   intro r f h0 h1 hn
   rw[jA (by omega),jA (by omega)]
 | succ n ih =>
   intro r f h0 h1 hn
   rw[fq (s:=b) (by omega),fq (s:=z) (by omega),h.same f h0 (by omega)]
   split
   ·rfl
   ·rw[show f+d+1=f+1+d by omega]
    exact ih _ (f+1) (by omega) (by omega) (by omega)
theorem gj.tok{b z:ByteArray}{d:Int}(h:gj b z d){f:Int}(h0:0≤f)(h1:f≤b.size):gK z (f+d)=(gK b f).shift d:=by
 have hs:=h.size
 have ho:=il (s:=b) h1
 have hz:dj z (f+d)=dj b f+d:=h.over _ false f h0 h1 rfl
 rw[tx,tx,hz]
 by_cases he:dj b f=b.size
 ·rw[if_pos (by omega),if_pos he];rfl
 ·rw[if_neg (by omega),if_neg he,h.read (by omega) (by omega)]
end Go.Lx
namespace Go.Vc
open Go.ChangeShapes Go.WideShapes Go.ChangeAt Go.RowKit
def cS.all(w:World):cS:=⟨fun b=>w.heap[b]?,w.os,w.output⟩
theorem Sat.all(w:World):Sat (cS.all w) [] w:=⟨fun _ _ h=>h,fun _ _ h=>by simp at h,fun _ _ h=>by simp at h,List.nodup_nil,rfl,rfl⟩
structure kg (w w':World):Prop where
 heap:∀i,i<w.heap.size→w'.heap[i]? = w.heap[i]?
 os:w'.os=w.os
 out:w'.output=w.output
theorem kg.of{w w':World}{I:cS}{F:cR}(hl:cS.le (cS.all w) I)(hs:Sat I F w'):kg w w':=by
 refine⟨fun i hi=>?_,hs.env.1.trans hl.2.1,hs.env.2.trans hl.2.2⟩
 obtain⟨o,ho⟩:∃o,w.heap[i]? = some o:=⟨_,Array.getElem?_eq_getElem hi⟩
 rw[ho]
 exact hs.imm _ _ (hl.1 i o ho)
theorem kg.kept{w w':World}(h:kg w w')(may:MemPlace→Prop):w.keptBut w' may:=by
 refine⟨h.os,h.out,fun i hi=>?_⟩
 rw[h.heap i hi]
 cases w.heap[i]? with
 | none=>rfl
 | some o=>cases o with
   | cells c t fr=>exact⟨rfl,rfl,rfl,fun _ _=>rfl⟩
   | map es clock=>exact .inr ⟨rfl,rfl⟩
   | _=>rfl
theorem kg.frozen{w w':World}(h:kg w w'){a:Addr}(ha:a.block<w.heap.size):w'.frozen? a=w.frozen? a:=by
 unfold World.frozen?;rw[h.heap _ ha]
theorem xv{H:Type}{enc:TypeId×Value→H}{P:Program}{f:Func}{s:ChangeSpec}{apart fresh handsOn again:Bool}{W W':World}{args:Array Value}{v:Value}{ds gs:List (DataW H)}{before pa pv:List MemPlace}
  (hW:DataW.Whole enc P f.params.toList s.vars apart W args.toList ds gs before)
  (hres:∀(b:Nat) (sp:Nat→Bool) (hd:Bool),DataW.TrodAll enc P W' b sp hd f.resultTypes.toList (v.resultList f.resultTypes.size) (s.fn H (ds++gs)).results [])
  (hargs:∀sp:Nat→Bool,(∀p∈before,sp p.block=true)→DataW.TrodAll enc P W' 0 sp true f.params.toList args.toList (s.fn H (ds++gs)).args pa)
  (hvars:∀sp:Nat→Bool,(∀p∈before,sp p.block=true)→DataW.TrodVars enc P W' sp s.vars (s.fn H (ds++gs)).vars pv)
  (hps:before=pa++pv) (hk:kg W W')
  (hok:∀(j:Nat) (t:TypeId) (r:Value),f.resultTypes[j]? = some t→(v.resultList f.resultTypes.size)[j]? = some r→Value.okWide P W' .any 0 t r) :
  s.post enc P f apart fresh handsOn again W args v W':=by
 have hold:∀p∈before,(fun b=>decide (b<W.heap.size)) p.block=true:=fun p hp=>by simpa using hW.lt p hp
 have hlt:∀p∈before,p.block<W.heap.size:=fun p hp=>hW.lt p hp
 refine⟨ds,gs,before,[],pa,pv,hW,hres _ _ _,hargs _ hold,hvars _ hold,World.keptBut_mono (fun p hp=>⟨hp, ?_⟩) (hk.kept (·∈before)),fun _=>?_⟩
 ·rw[hps,List.mem_append] at hp
  exact Or.inr hp
 ·obtain⟨_,_,_,_,_,hz,hn⟩:=hW
  refine⟨hok,_,_,([]++pa)++pv,⟨[]++pa,pv,trodAll_append (hargs _ (fun _ _=>rfl)) (hres _ _ _),hvars _ (fun _ _=>rfl),rfl, ?_, ?_⟩, ?_⟩
  ·intro b off hp
   have hp':MemPlace.cell b off∈before:=by rw[hps];simpa using hp
   rw[hk.frozen (hlt _ hp')]
   exact hz b off hp'
  ·intro ha
   have:=hn ha
   rw[hps] at this
   simpa using this
  ·intro p hp _
   rw[hps]
   simpa using hp
end Go.Vc
namespace Go.Lx
open Go.Vc
end Go.Lx
namespace Go.Vc
section
variable {P:Program} {f:FuncId} {args:Array Value} {I:cS} {F:cR} {R:Value→cS→Prop}
end
def rR(P:Program)(t:TypeId):Bool:=match P.underlying t with
 | some (.interface _)=>true
 | _=>false
theorem tA{P:Program}{t:TypeId}(h:rR P t=true):∃ms,P.underlying t=some (.interface ms):=by
 unfold rR at h
 split at h
 ·rename_i ht;exact⟨_,ht⟩
 ·cases h
theorem oI{P:Program}{t:TypeId}(h:rR P t=true){x:Operand}:eW P .eql t x (.const .nilIface) .nilIface .nilIface true:=by
 obtain⟨ms,ht⟩:=tA h
 intro w
 have he:(Op.equal t .nilIface .nilIface).run P w=.ok true w:=by
  show (Op.equalIn (9999+1) t .nilIface .nilIface).run P w=_
  unfold Op.equalIn
  simp[Sem.run_bind,dB ht]
 simp[eqGuard,binOp,Sem.run_bind,he]
theorem ph{P:Program}{t:TypeId}(h:rR P t=true){x:Operand}{d:TypeId}{v:Value}:eW P .eql t x (.const .nilIface) (.iface d v) .nilIface false:=by
 obtain⟨ms,ht⟩:=tA h
 intro w
 have he:(Op.equal t (.iface d v) .nilIface).run P w=.ok false w:=by
  show (Op.equalIn (9999+1) t (.iface d v) .nilIface).run P w=_
  unfold Op.equalIn
  simp[Sem.run_bind,dB ht]
 simp[eqGuard,binOp,Sem.run_bind,he]
end Go.Vc
namespace Go.Lx
open Go.Vc
abbrev rS(e:Int):Value:=.iface 48 (.int .i64 e)
def zn(I:cS)(call:ByteArray)(pos:Int)(err v:Value):Prop:=∃b,v=.iface 97 (.pointer (some ⟨b,0,none⟩))∧I b=some (.cells #[.string call,.int .i64 pos,err] 101 (0,0))
theorem zn.mono{I J:cS}{call:ByteArray}{pos:Int}{err v:Value}(h:zn I call pos err v)(hl:cS.le I J):zn J call pos err v:=let ⟨b,h1,h2⟩:=h;⟨b,h1,hl.at h2⟩
theorem Dj(b n:Nat):(⟨b,0,none⟩:Addr).add n=⟨b,n,none⟩:=by unfold Addr.add;split<;>simp_all
end Go.Lx
namespace Go.As
open Go.RowKit Go.Extern.Stop Go.Stop Go.Extern
theorem DQ(z:Sem Value)(f:TypeId→Addr→Nat→Nat→Sem Value)(v:Value) :
  ReflectliteValue.method z f #[v]=(do match ←ReflectliteValue.parts v with | none=>z | some (t,a,fl)=>f t a fl (fl % 32)):=rfl
theorem Ez(v x:Value):ReflectliteValue.set #[v,x]=(do
  let (some (dst,a,fl),some (src,b,_)):=(←ReflectliteValue.parts v,←ReflectliteValue.parts x)
   | unsupported (.noEntry "extern/(internal/reflectlite.Value).Set.zeroValue")
  if fl / ReflectliteValue.flagAddr % 2==0 then unsupported (.noEntry "extern/(internal/reflectlite.Value).Set.unaddressable")
  let val ←loadVar src b
  if ←Rtype.directlyAssignable dst src then storeVar dst a val
  else if ←Rtype.implements dst src then
   if (←Rtype.kind src)==20 then
    match val with
    | .nilIface=>unsupported (.noEntry "extern/reflectlite: a nil value of one interface type handed on as a value of another")
    | _=>storeVar dst a val
   else storeVar dst a (.iface src val)
  else panicString ("reflectlite.Set: value of type " ++ (←Rtype.spelt src) ++ " is not assignable to type " ++ (←Rtype.spelt dst))
  pure (.tuple #[])):=rfl
theorem rT(h:Value)(w:World):(Go.method 368 196 (.agg #[h]) "Kind").run Go.Proofs.Tryz.prog w=.ok (176,h) w:=by kernel_rfl
theorem rU(h:Value)(w:World):(Go.method 368 196 (.agg #[h]) "Elem").run Go.Proofs.Tryz.prog w=.ok (188,.agg #[h]) w:=by kernel_rfl
theorem kL(h:Value)(w:World):(Go.method 368 196 (.agg #[h]) "Implements").run Go.Proofs.Tryz.prog w=.ok (189,.agg #[h]) w:=by kernel_rfl
theorem fw(h:Value)(w:World):(Go.method 368 196 (.agg #[h]) "AssignableTo").run Go.Proofs.Tryz.prog w=.ok (186,.agg #[h]) w:=by kernel_rfl
theorem Av(t:Addr)(w:World):(ReflectliteValue.unpack (.iface 99 (.pointer (some t)))).run Go.Proofs.Tryz.prog w=.ok (.agg #[.pointer (some ⟨1,99,none⟩),.pointer (some ⟨w.heap.size,0,none⟩),.int .u64 150]) (w.alloc (.cells #[.pointer (some t)] 99)):=by kernel_rfl
theorem Dk(a:Addr)(w:World):(ReflectliteValue.methodAny (ReflectliteValue.valueError "reflectlite.Value.Type" 0) (fun t _ _ _=>ReflectliteType.toType t) #[(.agg #[.pointer (some ⟨1,99,none⟩),.pointer (some a),.int .u64 150])]).run Go.Proofs.Tryz.prog w=.ok (.iface 196 (.agg #[.pointer (some ⟨1,99,none⟩)])) w:=by kernel_rfl
theorem Cy(w:World):((ReflectliteType.abiMethod fun t=>(fun a:Nat=>Value.int IntKind.u8 (a:Int)) <$> Rtype.kind t) #[.pointer (some ⟨1,99,none⟩)]).run Go.Proofs.Tryz.prog w=.ok (.int .u8 22) w:=by kernel_rfl
theorem Dl(w:World):((ReflectliteType.abiMethod fun t=>(fun a:Nat=>Value.int IntKind.u8 (a:Int)) <$> Rtype.kind t) #[.pointer (some ⟨1,97,none⟩)]).run Go.Proofs.Tryz.prog w=.ok (.int .u8 22) w:=by kernel_rfl
theorem yp(a:Addr)(w:World):(ReflectliteValue.parts (.agg #[.pointer (some ⟨1,99,none⟩),.pointer (some a),.int .u64 150])).run Go.Proofs.Tryz.prog w=.ok (some (99,a,150)) w:=by kernel_rfl
theorem yq:Go.Proofs.Tryz.prog.underlying 99=some (.pointer 97):=by kernel_rfl
theorem Cz(a p:Addr)(W:World)(ha:W.cell? a=some (.pointer (some p))) :
  (ReflectliteValue.method (ReflectliteValue.valueError "reflectlite.Value.IsNil" 0) ReflectliteValue.isNil #[(.agg #[.pointer (some ⟨1,99,none⟩),.pointer (some a),.int .u64 150])]).run Go.Proofs.Tryz.prog W=.ok (.bool false) W:=by
 rw[DQ]
 simp only[Sem.run_bind,yp,Result.andThen]
 simp[ReflectliteValue.isNil,loadVar,isAgg,underlying,yq,ha,Result.andThen]
theorem Dm(w:World):(ReflectliteType.method ReflectliteType.elem #[.agg #[.pointer (some ⟨1,99,none⟩)]]).run Go.Proofs.Tryz.prog w=.ok (.iface 196 (.agg #[.pointer (some ⟨1,97,none⟩)])) w:=by kernel_rfl
theorem Dn(w:World):(ReflectliteType.relation "Implements" ReflectliteType.implements_ #[.agg #[.pointer (some ⟨1,97,none⟩)],.iface 196 (.agg #[.pointer (some ⟨1,45,none⟩)])]).run Go.Proofs.Tryz.prog w=.ok (.bool true) w:=by kernel_rfl
theorem uy(v:Value)(w:World):(ReflectliteType.typeOf #[.iface 97 v]).run Go.Proofs.Tryz.prog w=.ok (.iface 196 (.agg #[.pointer (some ⟨1,97,none⟩)])) w:=by kernel_rfl
theorem Bm(w:World):(Rtype.elem? 99).run Go.Proofs.Tryz.prog w=.ok (some 97) w:=by kernel_rfl
theorem EG(p:Addr)(w:World):(ReflectliteValue.mk 97 p ReflectliteValue.flagAddr).run Go.Proofs.Tryz.prog w=.ok (.agg #[.pointer (some ⟨1,97,none⟩),.pointer (some p),.int .u64 406]) w:=by kernel_rfl
theorem CA(a p:Addr)(W:World)(ha:W.cell? a=some (.pointer (some p))) :
  (ReflectliteValue.method (ReflectliteValue.valueError "reflectlite.Value.Elem" 0) ReflectliteValue.elem #[(.agg #[.pointer (some ⟨1,99,none⟩),.pointer (some a),.int .u64 150])]).run Go.Proofs.Tryz.prog W=.ok (.agg #[.pointer (some ⟨1,97,none⟩),.pointer (some p),.int .u64 406]) W:=by
 rw[DQ]
 simp only[Sem.run_bind,yp,Result.andThen]
 simp[ReflectliteValue.elem,loadVar,isAgg,underlying,yq,ha,Result.andThen,Bm,EG]
theorem Bn(a:Addr)(w:World):(ReflectliteValue.parts (.agg #[.pointer (some ⟨1,97,none⟩),.pointer (some a),.int .u64 406])).run Go.Proofs.Tryz.prog w=.ok (some (97,a,406)) w:=by kernel_rfl
theorem CB(a:Addr)(w:World):(ReflectliteValue.parts (.agg #[.pointer (some ⟨1,97,none⟩),.pointer (some a),.int .u64 150])).run Go.Proofs.Tryz.prog w=.ok (some (97,a,150)) w:=by kernel_rfl
theorem Bo(w:World):(Rtype.directlyAssignable 97 97).run Go.Proofs.Tryz.prog w=.ok true w:=by kernel_rfl
theorem CC:Go.Proofs.Tryz.prog.underlying 97=some (.pointer 101):=by kernel_rfl
theorem CD(x:Addr)(w:World):(ReflectliteValue.unpack (.iface 97 (.pointer (some x)))).run Go.Proofs.Tryz.prog w=.ok (.agg #[.pointer (some ⟨1,97,none⟩),.pointer (some ⟨w.heap.size,0,none⟩),.int .u64 150]) (w.alloc (.cells #[.pointer (some x)] 97)):=by kernel_rfl
theorem D4(ta b:Addr)(x:Addr)(old:Value)(W:World)(hb:W.cell? b=some (.pointer (some x)))(ht:W.cell? ta=some old)(hf:W.frozen? ta=false) :
  (ReflectliteValue.set #[(.agg #[.pointer (some ⟨1,97,none⟩),.pointer (some ta),.int .u64 406]),(.agg #[.pointer (some ⟨1,97,none⟩),.pointer (some b),.int .u64 150])]).run Go.Proofs.Tryz.prog W=.ok (.tuple #[]) (W.setCell ta (.pointer (some x))):=by
 rw[Ez]
 simp only[Sem.run_bind,Bn,CB,Result.andThen]
 simp[ReflectliteValue.flagAddr,loadVar,isAgg,underlying,CC,hb,Result.andThen,Bo,storeVar,Value.cells,storeCells,Addr.add]
 rw[run_store Go.Proofs.Tryz.prog W ta _ _ (by rfl)]
 simp[ht,hf]
theorem Aw(t:Addr)(w:World):(ReflectliteValue.unpack (.iface 102 (.pointer (some t)))).run Go.Proofs.Tryz.prog w=.ok (.agg #[.pointer (some ⟨1,102,none⟩),.pointer (some ⟨w.heap.size,0,none⟩),.int .u64 150]) (w.alloc (.cells #[.pointer (some t)] 102)):=by kernel_rfl
theorem Dp(a:Addr)(w:World):(ReflectliteValue.methodAny (ReflectliteValue.valueError "reflectlite.Value.Type" 0) (fun t _ _ _=>ReflectliteType.toType t) #[(.agg #[.pointer (some ⟨1,102,none⟩),.pointer (some a),.int .u64 150])]).run Go.Proofs.Tryz.prog w=.ok (.iface 196 (.agg #[.pointer (some ⟨1,102,none⟩)])) w:=by kernel_rfl
theorem CE(w:World):((ReflectliteType.abiMethod fun t=>(fun a:Nat=>Value.int IntKind.u8 (a:Int)) <$> Rtype.kind t) #[.pointer (some ⟨1,102,none⟩)]).run Go.Proofs.Tryz.prog w=.ok (.int .u8 22) w:=by kernel_rfl
theorem Dq(w:World):((ReflectliteType.abiMethod fun t=>(fun a:Nat=>Value.int IntKind.u8 (a:Int)) <$> Rtype.kind t) #[.pointer (some ⟨1,48,none⟩)]).run Go.Proofs.Tryz.prog w=.ok (.int .u8 2) w:=by kernel_rfl
theorem yr(a:Addr)(w:World):(ReflectliteValue.parts (.agg #[.pointer (some ⟨1,102,none⟩),.pointer (some a),.int .u64 150])).run Go.Proofs.Tryz.prog w=.ok (some (102,a,150)) w:=by kernel_rfl
theorem yt:Go.Proofs.Tryz.prog.underlying 102=some (.pointer 48):=by kernel_rfl
theorem CF(a p:Addr)(W:World)(ha:W.cell? a=some (.pointer (some p))) :
  (ReflectliteValue.method (ReflectliteValue.valueError "reflectlite.Value.IsNil" 0) ReflectliteValue.isNil #[(.agg #[.pointer (some ⟨1,102,none⟩),.pointer (some a),.int .u64 150])]).run Go.Proofs.Tryz.prog W=.ok (.bool false) W:=by
 rw[DQ]
 simp only[Sem.run_bind,yr,Result.andThen]
 simp[ReflectliteValue.isNil,loadVar,isAgg,underlying,yt,ha,Result.andThen]
theorem Dr(w:World):(ReflectliteType.method ReflectliteType.elem #[.agg #[.pointer (some ⟨1,102,none⟩)]]).run Go.Proofs.Tryz.prog w=.ok (.iface 196 (.agg #[.pointer (some ⟨1,48,none⟩)])) w:=by kernel_rfl
theorem Ds(w:World):(ReflectliteType.relation "Implements" ReflectliteType.implements_ #[.agg #[.pointer (some ⟨1,48,none⟩)],.iface 196 (.agg #[.pointer (some ⟨1,45,none⟩)])]).run Go.Proofs.Tryz.prog w=.ok (.bool true) w:=by kernel_rfl
theorem uz(v:Value)(w:World):(ReflectliteType.typeOf #[.iface 48 v]).run Go.Proofs.Tryz.prog w=.ok (.iface 196 (.agg #[.pointer (some ⟨1,48,none⟩)])) w:=by kernel_rfl
theorem Bp(w:World):(Rtype.elem? 102).run Go.Proofs.Tryz.prog w=.ok (some 48) w:=by kernel_rfl
theorem EH(p:Addr)(w:World):(ReflectliteValue.mk 48 p ReflectliteValue.flagAddr).run Go.Proofs.Tryz.prog w=.ok (.agg #[.pointer (some ⟨1,48,none⟩),.pointer (some p),.int .u64 386]) w:=by kernel_rfl
theorem xw(a p:Addr)(W:World)(ha:W.cell? a=some (.pointer (some p))) :
  (ReflectliteValue.method (ReflectliteValue.valueError "reflectlite.Value.Elem" 0) ReflectliteValue.elem #[(.agg #[.pointer (some ⟨1,102,none⟩),.pointer (some a),.int .u64 150])]).run Go.Proofs.Tryz.prog W=.ok (.agg #[.pointer (some ⟨1,48,none⟩),.pointer (some p),.int .u64 386]) W:=by
 rw[DQ]
 simp only[Sem.run_bind,yr,Result.andThen]
 simp[ReflectliteValue.elem,loadVar,isAgg,underlying,yt,ha,Result.andThen,Bp,EH]
theorem Bq(a:Addr)(w:World):(ReflectliteValue.parts (.agg #[.pointer (some ⟨1,48,none⟩),.pointer (some a),.int .u64 386])).run Go.Proofs.Tryz.prog w=.ok (some (48,a,386)) w:=by kernel_rfl
theorem CG(a:Addr)(w:World):(ReflectliteValue.parts (.agg #[.pointer (some ⟨1,48,none⟩),.pointer (some a),.int .u64 130])).run Go.Proofs.Tryz.prog w=.ok (some (48,a,130)) w:=by kernel_rfl
theorem Br(w:World):(Rtype.directlyAssignable 48 48).run Go.Proofs.Tryz.prog w=.ok true w:=by kernel_rfl
theorem CH:Go.Proofs.Tryz.prog.underlying 48=some (.int .i64):=by kernel_rfl
theorem xx(x:Int)(w:World):(ReflectliteValue.unpack (.iface 48 (.int .i64 x))).run Go.Proofs.Tryz.prog w=.ok (.agg #[.pointer (some ⟨1,48,none⟩),.pointer (some ⟨w.heap.size,0,none⟩),.int .u64 130]) (w.alloc (.cells #[.int .i64 x] 48)):=by kernel_rfl
theorem CI(ta b:Addr)(x:Int)(old:Value)(W:World)(hb:W.cell? b=some (.int .i64 x))(ht:W.cell? ta=some old)(hf:W.frozen? ta=false) :
  (ReflectliteValue.set #[(.agg #[.pointer (some ⟨1,48,none⟩),.pointer (some ta),.int .u64 386]),(.agg #[.pointer (some ⟨1,48,none⟩),.pointer (some b),.int .u64 130])]).run Go.Proofs.Tryz.prog W=.ok (.tuple #[]) (W.setCell ta (.int .i64 x)):=by
 rw[Ez]
 simp only[Sem.run_bind,Bq,CG,Result.andThen]
 simp[ReflectliteValue.flagAddr,loadVar,isAgg,underlying,CH,hb,Result.andThen,Br,storeVar,Value.cells,storeCells,Addr.add]
 rw[run_store Go.Proofs.Tryz.prog W ta _ _ (by rfl)]
 simp[ht,hf]
theorem Ax(w:World):(ReflectliteType.relation "AssignableTo" ReflectliteType.assignableTo #[.agg #[.pointer (some ⟨1,97,none⟩)],.iface 196 (.agg #[.pointer (some ⟨1,97,none⟩)])]).run Go.Proofs.Tryz.prog w=.ok (.bool true) w:=by kernel_rfl
theorem v7(w:World):(ReflectliteType.relation "AssignableTo" ReflectliteType.assignableTo #[.agg #[.pointer (some ⟨1,97,none⟩)],.iface 196 (.agg #[.pointer (some ⟨1,48,none⟩)])]).run Go.Proofs.Tryz.prog w=.ok (.bool false) w:=by kernel_rfl
theorem rV(w:World):(ReflectliteType.relation "AssignableTo" ReflectliteType.assignableTo #[.agg #[.pointer (some ⟨1,48,none⟩)],.iface 196 (.agg #[.pointer (some ⟨1,48,none⟩)])]).run Go.Proofs.Tryz.prog w=.ok (.bool true) w:=by kernel_rfl
theorem BL(v:Value)(xT:TypeId)(w:World):(Instr.typeAssert (.iface 97 v) xT 216 true).run Go.Proofs.Tryz.prog w=.ok (.tuple #[.nilIface,.bool false]) w:=run_typeAssert_lacksB Go.Proofs.Tryz.underlying216 (by kernel_rfl) (by kernel_rfl) v xT w
theorem BM(v:Value)(xT:TypeId)(w:World):(Instr.typeAssert (.iface 97 v) xT 201 true).run Go.Proofs.Tryz.prog w=.ok (.tuple #[.iface 97 v,.bool true]) w:=run_typeAssert_hasB Go.Proofs.Tryz.underlying201 (by kernel_rfl) v xT w
theorem oJ(e:Addr)(w:World):(Go.method 368 97 (.pointer (some e)) "Unwrap").run Go.Proofs.Tryz.prog w=.ok (181,.pointer (some e)) w:=by kernel_rfl
abbrev EA:Value:=.iface 196 (.agg #[.pointer (some ⟨1,97,none⟩)])
abbrev DR:Value:=.iface 196 (.agg #[.pointer (some ⟨1,48,none⟩)])
abbrev sM(PT:Nat)(a:Addr):Obj:=.cells #[.pointer (some ⟨1,PT,none⟩),.pointer (some a),.int .u64 150] 162
set_option maxHeartbeats 4000000 in
theorem Du(e t a:Addr)(old tgt:Value)(w:World)(ha:w.cell? a=some (.pointer (some t)))(ht0:w.cell? t=some old)(hf0:w.frozen? t=false) :
  Calls Go.Proofs.Tryz.prog 85 #[.iface 97 (.pointer (some e)),tgt,.agg #[.pointer (some ⟨1,99,none⟩),.pointer (some a),.int .u64 150],EA] w fun ev w'=>ev=.returned (.bool true) ∧
   w'=((w.alloc (sM 99 a)).alloc (.cells #[.pointer (some e)] 97)).setCell t (.pointer (some e)):=by
 have hTO:=@run_callFunc_extern Go.Proofs.Tryz.prog 61 _ ReflectliteType.typeOf Go.Proofs.Tryz.func61 (by kernel_rfl) (by kernel_rfl) (by kernel_rfl) (by kernel_rfl)
 have hA:=@run_callFunc_extern Go.Proofs.Tryz.prog 186 _ (ReflectliteType.relation "AssignableTo" ReflectliteType.assignableTo) Go.Proofs.Tryz.func186 (by kernel_rfl) (by kernel_rfl) (by kernel_rfl) (by kernel_rfl)
 have hVE:=@run_callFunc_extern Go.Proofs.Tryz.prog 111 _ (ReflectliteValue.method (ReflectliteValue.valueError "reflectlite.Value.Elem" 0) ReflectliteValue.elem) Go.Proofs.Tryz.func111 (by kernel_rfl) (by kernel_rfl) (by kernel_rfl) (by kernel_rfl)
 have hS:=@run_callFunc_extern Go.Proofs.Tryz.prog 112 _ ReflectliteValue.set Go.Proofs.Tryz.func112 (by kernel_rfl) (by kernel_rfl) (by kernel_rfl) (by kernel_rfl)
 have hV:=@run_callFunc_extern Go.Proofs.Tryz.prog 82 _ (fun args=>ReflectliteValue.unpack (args.getD 0 (.tuple #[]))) Go.Proofs.Tryz.func82 (by kernel_rfl) (by kernel_rfl) (by kernel_rfl) (by kernel_rfl)
 have tO:=uy
 have mA:=fw
 have aF:=Ax
 have vF:=CD
 have hal:a.block<w.heap.size:=by
  rcases Nat.lt_or_ge a.block w.heap.size with h | h
  ·exact h
  ·simp[World.cell?,Array.getElem?_eq_none h] at ha
 have htl:t.block<w.heap.size:=by
  rcases Nat.lt_or_ge t.block w.heap.size with h | h
  ·exact h
  ·simp[World.cell?,Array.getElem?_eq_none h] at ht0
 have el:=CA a t (w.alloc (sM 99 a)) (by rw[World.cell?_alloc_lt _ _ a hal];exact ha)
 have st:=D4 t ⟨w.heap.size+1,0,none⟩ e old ((w.alloc (sM 99 a)).alloc (.cells #[.pointer (some e)] 97))
  (by rw[World.cell?_alloc_at _ _ _ _ (by simp)];rfl)
  (by rw[World.cell?_alloc_lt _ _ t (by simp;omega),World.cell?_alloc_lt _ _ t htl];exact ht0)
  (by rw[World.frozen?_alloc_old _ _ t (by simp;omega),World.frozen?_alloc_old _ _ t (Nat.ne_of_lt htl)];exact hf0)
 go_enter Go.Proofs.Tryz.func85,Go.Proofs.Tryz.ntmps85
 go_wp2
 refine wp_loop_rounds 1 ?_
 rw[rounds_succ]
 go_wp2
 go_ret
 exact⟨rfl,rfl⟩
set_option maxHeartbeats 4000000 in
theorem Dv(n:Int)(t a:Addr)(old tgt:Value)(w:World)(ha:w.cell? a=some (.pointer (some t)))(ht0:w.cell? t=some old)(hf0:w.frozen? t=false) :
  Calls Go.Proofs.Tryz.prog 85 #[.iface 48 (.int .i64 n),tgt,.agg #[.pointer (some ⟨1,102,none⟩),.pointer (some a),.int .u64 150],DR] w fun ev w'=>ev=.returned (.bool true) ∧
   w'=((w.alloc (sM 102 a)).alloc (.cells #[.int .i64 n] 48)).setCell t (.int .i64 n):=by
 have hTO:=@run_callFunc_extern Go.Proofs.Tryz.prog 61 _ ReflectliteType.typeOf Go.Proofs.Tryz.func61 (by kernel_rfl) (by kernel_rfl) (by kernel_rfl) (by kernel_rfl)
 have hA:=@run_callFunc_extern Go.Proofs.Tryz.prog 186 _ (ReflectliteType.relation "AssignableTo" ReflectliteType.assignableTo) Go.Proofs.Tryz.func186 (by kernel_rfl) (by kernel_rfl) (by kernel_rfl) (by kernel_rfl)
 have hVE:=@run_callFunc_extern Go.Proofs.Tryz.prog 111 _ (ReflectliteValue.method (ReflectliteValue.valueError "reflectlite.Value.Elem" 0) ReflectliteValue.elem) Go.Proofs.Tryz.func111 (by kernel_rfl) (by kernel_rfl) (by kernel_rfl) (by kernel_rfl)
 have hS:=@run_callFunc_extern Go.Proofs.Tryz.prog 112 _ ReflectliteValue.set Go.Proofs.Tryz.func112 (by kernel_rfl) (by kernel_rfl) (by kernel_rfl) (by kernel_rfl)
 have hV:=@run_callFunc_extern Go.Proofs.Tryz.prog 82 _ (fun args=>ReflectliteValue.unpack (args.getD 0 (.tuple #[]))) Go.Proofs.Tryz.func82 (by kernel_rfl) (by kernel_rfl) (by kernel_rfl) (by kernel_rfl)
 have tO:=uz
 have mA:=fw
 have aE:=rV
 have vE:=xx
 have hal:a.block<w.heap.size:=by
  rcases Nat.lt_or_ge a.block w.heap.size with h | h
  ·exact h
  ·simp[World.cell?,Array.getElem?_eq_none h] at ha
 have htl:t.block<w.heap.size:=by
  rcases Nat.lt_or_ge t.block w.heap.size with h | h
  ·exact h
  ·simp[World.cell?,Array.getElem?_eq_none h] at ht0
 have el:=xw a t (w.alloc (sM 102 a)) (by rw[World.cell?_alloc_lt _ _ a hal];exact ha)
 have st:=CI t ⟨w.heap.size+1,0,none⟩ n old ((w.alloc (sM 102 a)).alloc (.cells #[.int .i64 n] 48))
  (by rw[World.cell?_alloc_at _ _ _ _ (by simp)];rfl)
  (by rw[World.cell?_alloc_lt _ _ t (by simp;omega),World.cell?_alloc_lt _ _ t htl];exact ht0)
  (by rw[World.frozen?_alloc_old _ _ t (by simp;omega),World.frozen?_alloc_old _ _ t (Nat.ne_of_lt htl)];exact hf0)
 go_enter Go.Proofs.Tryz.func85,Go.Proofs.Tryz.ntmps85
 go_wp2
 refine wp_loop_rounds 1 ?_
 rw[rounds_succ]
 go_wp2
 go_ret
 exact⟨rfl,rfl⟩
abbrev xy:Value:=.iface 196 (.agg #[.pointer (some ⟨1,45,none⟩)])
set_option maxHeartbeats 4000000 in
theorem D5(d:TypeId)(v:Value)(t:Addr)(w w2:World)(r:Bool)(hg:w.cell? ⟨0,0,none⟩=some xy)
  (h:Calls Go.Proofs.Tryz.prog 85 #[.iface d v,.iface 99 (.pointer (some t)),.agg #[.pointer (some ⟨1,99,none⟩),.pointer (some ⟨w.heap.size,0,none⟩),.int .u64 150],EA] ((w.alloc (.cells #[.pointer (some t)] 99)).alloc (sM 99 ⟨w.heap.size,0,none⟩)) fun ev w'=>ev=.returned (.bool r)∧w'=w2) :
  Calls Go.Proofs.Tryz.prog 31 #[.iface d v,.iface 99 (.pointer (some t))] w fun ev w'=>ev=.returned (.bool r)∧w'=w2:=by
 have hV:=@run_callFunc_extern Go.Proofs.Tryz.prog 82 _ (fun args=>ReflectliteValue.unpack (args.getD 0 (.tuple #[]))) Go.Proofs.Tryz.func82 (by kernel_rfl) (by kernel_rfl) (by kernel_rfl) (by kernel_rfl)
 have hT:=@run_callFunc_extern Go.Proofs.Tryz.prog 83 _ (ReflectliteValue.methodAny (ReflectliteValue.valueError "reflectlite.Value.Type" 0) (fun t _ _ _=>ReflectliteType.toType t)) Go.Proofs.Tryz.func83 (by kernel_rfl) (by kernel_rfl) (by kernel_rfl) (by kernel_rfl)
 have hN:=@run_callFunc_extern Go.Proofs.Tryz.prog 84 _ (ReflectliteValue.method (ReflectliteValue.valueError "reflectlite.Value.IsNil" 0) ReflectliteValue.isNil) Go.Proofs.Tryz.func84 (by kernel_rfl) (by kernel_rfl) (by kernel_rfl) (by kernel_rfl)
 have hK:=@run_callFunc_extern Go.Proofs.Tryz.prog 176 _ (ReflectliteType.abiMethod fun t=>do pure (.int .u8 (←Rtype.kind t))) Go.Proofs.Tryz.func176 (by kernel_rfl) (by kernel_rfl) (by kernel_rfl) (by kernel_rfl)
 have hE:=@run_callFunc_extern Go.Proofs.Tryz.prog 188 _ (ReflectliteType.method ReflectliteType.elem) Go.Proofs.Tryz.func188 (by kernel_rfl) (by kernel_rfl) (by kernel_rfl) (by kernel_rfl)
 have hI:=@run_callFunc_extern Go.Proofs.Tryz.prog 189 _ (ReflectliteType.relation "Implements" ReflectliteType.implements_) Go.Proofs.Tryz.func189 (by kernel_rfl) (by kernel_rfl) (by kernel_rfl) (by kernel_rfl)
 have f6:=Av
 have f7:=Dk
 have mK:=rT
 have mE:=rU
 have mI:=kL
 have kP:=Cy
 have kT:=Dl
 have eT:=Dm
 have iT:=Dn
 have n8:=Cz ⟨w.heap.size,0,none⟩ t ((w.alloc (.cells #[.pointer (some t)] 99)).alloc (sM 99 ⟨w.heap.size,0,none⟩)) (by simp)
 have hlt:0<w.heap.size:=by
  rcases Nat.eq_zero_or_pos w.heap.size with h0 | h
  ·simp[World.cell?,h0] at hg
  ·exact h
 have hg2:((w.alloc (.cells #[.pointer (some t)] 99)).alloc (sM 99 ⟨w.heap.size,0,none⟩)).cell? ⟨0,0,none⟩=some xy:=by
  rw[World.cell?_alloc_lt _ _ ⟨0,0,none⟩ (by simp),World.cell?_alloc_lt _ _ ⟨0,0,none⟩ hlt];exact hg
 go_enter Go.Proofs.Tryz.func31,Go.Proofs.Tryz.ntmps31
 go_wp2_with (first | (go_at_call 85;refine h.mono ?_;rintro e w' ⟨rfl,rfl⟩))
 go_ret
 exact⟨rfl,rfl⟩
set_option maxHeartbeats 4000000 in
theorem CJ(d:TypeId)(v:Value)(t:Addr)(w w2:World)(r:Bool)(hg:w.cell? ⟨0,0,none⟩=some xy)
  (h:Calls Go.Proofs.Tryz.prog 85 #[.iface d v,.iface 102 (.pointer (some t)),.agg #[.pointer (some ⟨1,102,none⟩),.pointer (some ⟨w.heap.size,0,none⟩),.int .u64 150],DR] ((w.alloc (.cells #[.pointer (some t)] 102)).alloc (sM 102 ⟨w.heap.size,0,none⟩)) fun ev w'=>ev=.returned (.bool r)∧w'=w2) :
  Calls Go.Proofs.Tryz.prog 31 #[.iface d v,.iface 102 (.pointer (some t))] w fun ev w'=>ev=.returned (.bool r)∧w'=w2:=by
 have hV:=@run_callFunc_extern Go.Proofs.Tryz.prog 82 _ (fun args=>ReflectliteValue.unpack (args.getD 0 (.tuple #[]))) Go.Proofs.Tryz.func82 (by kernel_rfl) (by kernel_rfl) (by kernel_rfl) (by kernel_rfl)
 have hT:=@run_callFunc_extern Go.Proofs.Tryz.prog 83 _ (ReflectliteValue.methodAny (ReflectliteValue.valueError "reflectlite.Value.Type" 0) (fun t _ _ _=>ReflectliteType.toType t)) Go.Proofs.Tryz.func83 (by kernel_rfl) (by kernel_rfl) (by kernel_rfl) (by kernel_rfl)
 have hN:=@run_callFunc_extern Go.Proofs.Tryz.prog 84 _ (ReflectliteValue.method (ReflectliteValue.valueError "reflectlite.Value.IsNil" 0) ReflectliteValue.isNil) Go.Proofs.Tryz.func84 (by kernel_rfl) (by kernel_rfl) (by kernel_rfl) (by kernel_rfl)
 have hK:=@run_callFunc_extern Go.Proofs.Tryz.prog 176 _ (ReflectliteType.abiMethod fun t=>do pure (.int .u8 (←Rtype.kind t))) Go.Proofs.Tryz.func176 (by kernel_rfl) (by kernel_rfl) (by kernel_rfl) (by kernel_rfl)
 have hE:=@run_callFunc_extern Go.Proofs.Tryz.prog 188 _ (ReflectliteType.method ReflectliteType.elem) Go.Proofs.Tryz.func188 (by kernel_rfl) (by kernel_rfl) (by kernel_rfl) (by kernel_rfl)
 have hI:=@run_callFunc_extern Go.Proofs.Tryz.prog 189 _ (ReflectliteType.relation "Implements" ReflectliteType.implements_) Go.Proofs.Tryz.func189 (by kernel_rfl) (by kernel_rfl) (by kernel_rfl) (by kernel_rfl)
 have f6:=Aw
 have f7:=Dp
 have mK:=rT
 have mE:=rU
 have mI:=kL
 have kP:=CE
 have kT:=Dq
 have eT:=Dr
 have iT:=Ds
 have n8:=CF ⟨w.heap.size,0,none⟩ t ((w.alloc (.cells #[.pointer (some t)] 102)).alloc (sM 102 ⟨w.heap.size,0,none⟩)) (by simp)
 have hlt:0<w.heap.size:=by
  rcases Nat.eq_zero_or_pos w.heap.size with h0 | h
  ·simp[World.cell?,h0] at hg
  ·exact h
 have hg2:((w.alloc (.cells #[.pointer (some t)] 102)).alloc (sM 102 ⟨w.heap.size,0,none⟩)).cell? ⟨0,0,none⟩=some xy:=by
  rw[World.cell?_alloc_lt _ _ ⟨0,0,none⟩ (by simp),World.cell?_alloc_lt _ _ ⟨0,0,none⟩ hlt];exact hg
 go_enter Go.Proofs.Tryz.func31,Go.Proofs.Tryz.ntmps31
 go_wp2_with (first | (go_at_call 85;refine h.mono ?_;rintro e w' ⟨rfl,rfl⟩))
 go_ret
 exact⟨rfl,rfl⟩
open Go.Vc (Sat)
theorem xz(b:Nat)(v:Value)(w:World)(he:w.cell? ⟨b,2,none⟩=some v):Calls Go.Proofs.Tryz.prog 181 #[.pointer (some ⟨b,0,none⟩)] w fun ev w'=>ev=.returned v∧w'=w:=by
 go_enter Go.Proofs.Tryz.func181,Go.Proofs.Tryz.ntmps181
 go_wp2
 go_ret
 exact⟨rfl,rfl⟩
set_option maxHeartbeats 4000000 in
theorem CK(b:Nat)(n:Int)(t a:Addr)(old tgt:Value)(w:World)(he:w.cell? ⟨b,2,none⟩=some (.iface 48 (.int .i64 n)))(ha:w.cell? a=some (.pointer (some t)))(ht0:w.cell? t=some old)(hf0:w.frozen? t=false) :
  Calls Go.Proofs.Tryz.prog 85 #[.iface 97 (.pointer (some ⟨b,0,none⟩)),tgt,.agg #[.pointer (some ⟨1,102,none⟩),.pointer (some a),.int .u64 150],DR] w fun ev w'=>ev=.returned (.bool true) ∧
   w'=((w.alloc (sM 102 a)).alloc (.cells #[.int .i64 n] 48)).setCell t (.int .i64 n):=by
 have hTO:=@run_callFunc_extern Go.Proofs.Tryz.prog 61 _ ReflectliteType.typeOf Go.Proofs.Tryz.func61 (by kernel_rfl) (by kernel_rfl) (by kernel_rfl) (by kernel_rfl)
 have hA:=@run_callFunc_extern Go.Proofs.Tryz.prog 186 _ (ReflectliteType.relation "AssignableTo" ReflectliteType.assignableTo) Go.Proofs.Tryz.func186 (by kernel_rfl) (by kernel_rfl) (by kernel_rfl) (by kernel_rfl)
 have hVE:=@run_callFunc_extern Go.Proofs.Tryz.prog 111 _ (ReflectliteValue.method (ReflectliteValue.valueError "reflectlite.Value.Elem" 0) ReflectliteValue.elem) Go.Proofs.Tryz.func111 (by kernel_rfl) (by kernel_rfl) (by kernel_rfl) (by kernel_rfl)
 have hS:=@run_callFunc_extern Go.Proofs.Tryz.prog 112 _ ReflectliteValue.set Go.Proofs.Tryz.func112 (by kernel_rfl) (by kernel_rfl) (by kernel_rfl) (by kernel_rfl)
 have hV:=@run_callFunc_extern Go.Proofs.Tryz.prog 82 _ (fun args=>ReflectliteValue.unpack (args.getD 0 (.tuple #[]))) Go.Proofs.Tryz.func82 (by kernel_rfl) (by kernel_rfl) (by kernel_rfl) (by kernel_rfl)
 have tO:=uz
 have tO2:=uy
 have mA:=fw
 have aE:=rV
 have aF:=v7
 have vE:=xx
 have t1:=BL
 have t2:=BM
 have mU:=oJ
 have hal:a.block<w.heap.size:=by
  rcases Nat.lt_or_ge a.block w.heap.size with h | h
  ·exact h
  ·simp[World.cell?,Array.getElem?_eq_none h] at ha
 have hel:b<w.heap.size:=by
  rcases Nat.lt_or_ge b w.heap.size with h | h
  ·exact h
  ·simp[World.cell?,Array.getElem?_eq_none h] at he
 have htl:t.block<w.heap.size:=by
  rcases Nat.lt_or_ge t.block w.heap.size with h | h
  ·exact h
  ·simp[World.cell?,Array.getElem?_eq_none h] at ht0
 have he1:(w.alloc (sM 102 a)).cell? ⟨b,2,none⟩=some (.iface 48 (.int .i64 n)):=by rw[World.cell?_alloc_lt _ _ _ hel];exact he
 have el:=xw a t (w.alloc (sM 102 a)) (by rw[World.cell?_alloc_lt _ _ a hal];exact ha)
 have st:=CI t ⟨w.heap.size+1,0,none⟩ n old ((w.alloc (sM 102 a)).alloc (.cells #[.int .i64 n] 48))
  (by rw[World.cell?_alloc_at _ _ _ _ (by simp)];rfl)
  (by rw[World.cell?_alloc_lt _ _ t (by simp;omega),World.cell?_alloc_lt _ _ t htl];exact ht0)
  (by rw[World.frozen?_alloc_old _ _ t (by simp;omega),World.frozen?_alloc_old _ _ t (Nat.ne_of_lt htl)];exact hf0)
 go_enter Go.Proofs.Tryz.func85,Go.Proofs.Tryz.ntmps85
 go_wp2
 refine wp_loop_rounds 2 ?_
 rw[rounds_succ]
 go_wp2_with (first | (go_at_call 181;refine (xz b _ _ he1).mono ?_;rintro e w' ⟨rfl,rfl⟩))
 rw[rounds_succ]
 go_wp2
 go_ret
 exact⟨rfl,rfl⟩
set_option maxHeartbeats 4000000 in
theorem CL(b c:Nat)(n:Int)(t a:Addr)(old tgt:Value)(w:World)(he:w.cell? ⟨b,2,none⟩=some (.iface 97 (.pointer (some ⟨c,0,none⟩))))(hc:w.cell? ⟨c,2,none⟩=some (.iface 48 (.int .i64 n)))(ha:w.cell? a=some (.pointer (some t)))(ht0:w.cell? t=some old)(hf0:w.frozen? t=false) :
  Calls Go.Proofs.Tryz.prog 85 #[.iface 97 (.pointer (some ⟨b,0,none⟩)),tgt,.agg #[.pointer (some ⟨1,102,none⟩),.pointer (some a),.int .u64 150],DR] w fun ev w'=>ev=.returned (.bool true) ∧
   w'=((w.alloc (sM 102 a)).alloc (.cells #[.int .i64 n] 48)).setCell t (.int .i64 n):=by
 have hTO:=@run_callFunc_extern Go.Proofs.Tryz.prog 61 _ ReflectliteType.typeOf Go.Proofs.Tryz.func61 (by kernel_rfl) (by kernel_rfl) (by kernel_rfl) (by kernel_rfl)
 have hA:=@run_callFunc_extern Go.Proofs.Tryz.prog 186 _ (ReflectliteType.relation "AssignableTo" ReflectliteType.assignableTo) Go.Proofs.Tryz.func186 (by kernel_rfl) (by kernel_rfl) (by kernel_rfl) (by kernel_rfl)
 have hVE:=@run_callFunc_extern Go.Proofs.Tryz.prog 111 _ (ReflectliteValue.method (ReflectliteValue.valueError "reflectlite.Value.Elem" 0) ReflectliteValue.elem) Go.Proofs.Tryz.func111 (by kernel_rfl) (by kernel_rfl) (by kernel_rfl) (by kernel_rfl)
 have hS:=@run_callFunc_extern Go.Proofs.Tryz.prog 112 _ ReflectliteValue.set Go.Proofs.Tryz.func112 (by kernel_rfl) (by kernel_rfl) (by kernel_rfl) (by kernel_rfl)
 have hV:=@run_callFunc_extern Go.Proofs.Tryz.prog 82 _ (fun args=>ReflectliteValue.unpack (args.getD 0 (.tuple #[]))) Go.Proofs.Tryz.func82 (by kernel_rfl) (by kernel_rfl) (by kernel_rfl) (by kernel_rfl)
 have tO:=uz
 have tO2:=uy
 have mA:=fw
 have aE:=rV
 have aF:=v7
 have vE:=xx
 have t1:=BL
 have t2:=BM
 have mU:=oJ
 have hal:a.block<w.heap.size:=by
  rcases Nat.lt_or_ge a.block w.heap.size with h | h
  ·exact h
  ·simp[World.cell?,Array.getElem?_eq_none h] at ha
 have hel:b<w.heap.size:=by
  rcases Nat.lt_or_ge b w.heap.size with h | h
  ·exact h
  ·simp[World.cell?,Array.getElem?_eq_none h] at he
 have htl:t.block<w.heap.size:=by
  rcases Nat.lt_or_ge t.block w.heap.size with h | h
  ·exact h
  ·simp[World.cell?,Array.getElem?_eq_none h] at ht0
 have he1:(w.alloc (sM 102 a)).cell? ⟨b,2,none⟩=some (.iface 97 (.pointer (some ⟨c,0,none⟩))):=by rw[World.cell?_alloc_lt _ _ _ hel];exact he
 have hcl:c<w.heap.size:=by
  rcases Nat.lt_or_ge c w.heap.size with h | h
  ·exact h
  ·simp[World.cell?,Array.getElem?_eq_none h] at hc
 have hc1:(w.alloc (sM 102 a)).cell? ⟨c,2,none⟩=some (.iface 48 (.int .i64 n)):=by rw[World.cell?_alloc_lt _ _ _ hcl];exact hc
 have el:=xw a t (w.alloc (sM 102 a)) (by rw[World.cell?_alloc_lt _ _ a hal];exact ha)
 have st:=CI t ⟨w.heap.size+1,0,none⟩ n old ((w.alloc (sM 102 a)).alloc (.cells #[.int .i64 n] 48))
  (by rw[World.cell?_alloc_at _ _ _ _ (by simp)];rfl)
  (by rw[World.cell?_alloc_lt _ _ t (by simp;omega),World.cell?_alloc_lt _ _ t htl];exact ht0)
  (by rw[World.frozen?_alloc_old _ _ t (by simp;omega),World.frozen?_alloc_old _ _ t (Nat.ne_of_lt htl)];exact hf0)
 go_enter Go.Proofs.Tryz.func85,Go.Proofs.Tryz.ntmps85
 go_wp2
 refine wp_loop_rounds 3 ?_
 rw[rounds_succ]
 go_wp2_with (first | (go_at_call 181;refine (xz b _ _ he1).mono ?_;rintro e w' ⟨rfl,rfl⟩))
 rw[rounds_succ]
 go_wp2_with (first | (go_at_call 181;refine (xz c _ _ hc1).mono ?_;rintro e w' ⟨rfl,rfl⟩))
 rw[rounds_succ]
 go_wp2
 go_ret
 exact⟨rfl,rfl⟩
end Go.As
namespace Go.Lx
open Go.Vc
def Gl(I:cS):Prop:=∃cs ty fz,I 0=some (.cells cs ty fz)∧cs[0]? = some Go.As.xy
theorem Gl.mono{I J:cS}(h:Gl I)(hl:cS.le I J):Gl J:=let ⟨cs,ty,fz,h1,h2⟩:=h;⟨cs,ty,fz,hl.at h1,h2⟩
theorem Gl.cell{I:cS}{F:cR}{w:World}(h:Gl I)(hw:Sat I F w):w.cell? ⟨0,0,none⟩=some Go.As.xy:=by
 obtain⟨cs,ty,fz,h1,h2⟩:=h
 have:=hw.imm _ _ h1
 unfold World.cell?
 simp[this,h2]
theorem Gl.Bt{w:World}(h:w.cell? ⟨0,0,none⟩=some Go.As.xy):Gl (cS.all w):=by
 unfold World.cell? at h
 split at h
 ·rename_i c ty fz hc
  exact⟨c,ty,fz,hc,by simpa using h⟩
 ·cases h
theorem jE{I:cS}{F:cR}{w:World}{t ty:Nat}{old:Value}(hw:Sat I ((t,.cells #[old] ty (0,0))::F) w):w.cell? ⟨t,0,none⟩=some old∧w.frozen? ⟨t,0,none⟩=false:=by
 have:=hw.own _ _ (.head _)
 unfold World.cell? World.frozen?
 simp[this]
theorem zn.cell{I:cS}{F:cR}{w:World}{b ty:Nat}{fz:Nat×Nat}{x y z:Value}(h:I b=some (.cells #[x,y,z] ty fz))(hw:Sat I F w):w.cell? ⟨b,2,none⟩=some z:=by
 have:=hw.imm _ _ h
 unfold World.cell?
 simp[this]
theorem jM{w:World}{o o':Obj}{a:Addr}{v:Value}(h:w.cell? a=some v):((w.alloc o).alloc o').cell? a=some v:=by
 have hl:a.block<w.heap.size:=by
  rcases Nat.lt_or_ge a.block w.heap.size with h1 | h1
  ·exact h1
  ·simp[World.cell?,Array.getElem?_eq_none h1] at h
 rw[World.cell?_alloc_lt _ _ _ (by simp;omega),World.cell?_alloc_lt _ _ _ hl];exact h
theorem mF{w:World}{o o':Obj}{a:Addr}{v:Value}(h:w.cell? a=some v)(hf:w.frozen? a=false):((w.alloc o).alloc o').frozen? a=false:=by
 have hl:a.block<w.heap.size:=by
  rcases Nat.lt_or_ge a.block w.heap.size with h1 | h1
  ·exact h1
  ·simp[World.cell?,Array.getElem?_eq_none h1] at h
 rw[World.frozen?_alloc_old _ _ _ (by simp;omega),World.frozen?_alloc_old _ _ _ (Nat.ne_of_lt hl)];exact hf
end Go.Lx
namespace Go.Vc
theorem Sat.gL{I:cS}{F:cR}{w:World}(h:Sat I F w)(o:Obj):Sat I F (w.alloc o):=(h.alloc o).drop (A:=[_])
theorem Sat.Bu{I:cS}{F:cR}{w:World}{t ty:Nat}{old v:Value}(h:Sat I ((t,.cells #[old] ty (0,0))::F) w):Sat I ((t,.cells #[v] ty (0,0))::F) (w.setCell ⟨t,0,none⟩ v) :=
 Sat.set h (nX (cs:=[old]) (h.own _ _ (.head _)) 0 v) ⟨rfl,rfl⟩
end Go.Vc
namespace Go.Lx
open Go.Vc
def Dw(r:Bool)(G:cR)(e:Ending)(I:cS)(F:cR):Prop:=e=.returned (.bool r)∧F=G
section
variable {I:cS} {F:cR} {t ty:Nat} {old:Value}
theorem Bv(hg:Gl I)(b:Nat):cU P 31 #[.iface 97 (.pointer (some ⟨b,0,none⟩)),.iface 99 (.pointer (some ⟨t,0,none⟩))] I ((t,.cells #[old] ty (0,0))::F) (Dw true ((t,.cells #[.pointer (some ⟨b,0,none⟩)] ty (0,0))::F)):=fun w hw=>by
 obtain⟨hc,hf⟩:=jE hw
 refine (Go.As.D5 _ _ _ w _ true (hg.cell hw) (Go.As.Du ⟨b,0,none⟩ ⟨t,0,none⟩ ⟨w.heap.size,0,none⟩ old _ _ (by simp) (jM hc) (mF hc hf))).mono fun e w' ⟨he,hw'⟩=>⟨I,_,cS.le_refl I, ?_,he,rfl⟩
 rw[hw']
 exact Sat.Bu ((((hw.gL _).gL _).gL _).gL _)
theorem EB(hg:Gl I)(n:Int):cU P 31 #[rS n,.iface 102 (.pointer (some ⟨t,0,none⟩))] I ((t,.cells #[old] ty (0,0))::F) (Dw true ((t,.cells #[.int .i64 n] ty (0,0))::F)):=fun w hw=>by
 obtain⟨hc,hf⟩:=jE hw
 refine (Go.As.CJ _ _ _ w _ true (hg.cell hw) (Go.As.Dv n ⟨t,0,none⟩ ⟨w.heap.size,0,none⟩ old _ _ (by simp) (jM hc) (mF hc hf))).mono fun e w' ⟨he,hw'⟩=>⟨I,_,cS.le_refl I, ?_,he,rfl⟩
 rw[hw']
 exact Sat.Bu ((((hw.gL _).gL _).gL _).gL _)
theorem Dx(hg:Gl I){call:ByteArray}{pos n:Int}{v:Value}(h:zn I call pos (rS n) v):cU P 31 #[v,.iface 102 (.pointer (some ⟨t,0,none⟩))] I ((t,.cells #[old] ty (0,0))::F) (Dw true ((t,.cells #[.int .i64 n] ty (0,0))::F)):=fun w hw=>by
 obtain⟨b,rfl,hb⟩:=h
 obtain⟨hc,hf⟩:=jE hw
 refine (Go.As.CJ _ _ _ w _ true (hg.cell hw) (Go.As.CK b n ⟨t,0,none⟩ ⟨w.heap.size,0,none⟩ old _ _ (jM (zn.cell hb hw)) (by simp) (jM hc) (mF hc hf))).mono fun e w' ⟨he,hw'⟩=>⟨I,_,cS.le_refl I, ?_,he,rfl⟩
 rw[hw']
 exact Sat.Bu ((((hw.gL _).gL _).gL _).gL _)
theorem Dy(hg:Gl I){call call':ByteArray}{pos pos' n:Int}{v u:Value}(h:zn I call pos u v)(h':zn I call' pos' (rS n) u):cU P 31 #[v,.iface 102 (.pointer (some ⟨t,0,none⟩))] I ((t,.cells #[old] ty (0,0))::F) (Dw true ((t,.cells #[.int .i64 n] ty (0,0))::F)):=fun w hw=>by
 obtain⟨b,rfl,hb⟩:=h
 obtain⟨c,rfl,hc'⟩:=h'
 obtain⟨hc,hf⟩:=jE hw
 refine (Go.As.CJ _ _ _ w _ true (hg.cell hw) (Go.As.CL b c n ⟨t,0,none⟩ ⟨w.heap.size,0,none⟩ old _ _ (jM (zn.cell hb hw)) (jM (zn.cell hc' hw)) (by simp) (jM hc) (mF hc hf))).mono fun e w' ⟨he,hw'⟩=>⟨I,_,cS.le_refl I, ?_,he,rfl⟩
 rw[hw']
 exact Sat.Bu ((((hw.gL _).gL _).gL _).gL _)
end
end Go.Lx
namespace Go.Lx
open Go.Vc
def iP(t:Tok):Int:=t.pos+t.text.size
def lL(l:List Tok)(f:Int):Nat→Int
 | 0=>f
 | i+1=>iP ((l[i]?).getD (jn 0))
theorem nN(t:Tok)(l:List Tok)(f:Int)(i:Nat):lL (t::l) f (i+1)=lL l (iP t) i:=by cases i<;>rfl
structure Steps (s:ByteArray) (f:Int) (l:List Tok) (o:Option (Int×Int)):Prop where
 tk:∀i,i<l.length→gK s (lL l f i)=.ok ((l[i]?).getD (jn 0))
 Dz:∀i,i≤l.length→0≤lL l f i∧lL l f i≤s.size
 kinds:∀i,i+1<l.length→((l[i]?).getD (jn 0)).kind≠0
 last:o=none→0<l.length∧((l[l.length-1]?).getD (jn 0)).kind=0
 bad:∀e p,o=some (e,p)→gK s (lL l f l.length)=.bad e p∧e≠0∧∀i,i<l.length→((l[i]?).getD (jn 0)).kind≠0
theorem Steps.cons{s:ByteArray}{f:Int}{t:Tok}{l:List Tok}{o:Option (Int×Int)}(h0:0≤f)(h1:f≤s.size)(ht:gK s f=.ok t)(hk:t.kind≠0)(h:Steps s (iP t) l o):Steps s f (t::l) o:=by
 refine⟨fun i hi=>?_,fun i hi=>?_,fun i hi=>?_,fun ho=>?_,fun e p ho=>?_⟩
 ·cases i with
  | zero=>exact ht
  | succ i=>rw[nN,List.getElem?_cons_succ];exact h.tk i (by simpa using hi)
 ·cases i with
  | zero=>exact⟨h0,h1⟩
  | succ i=>rw[nN];exact h.Dz i (by simpa using hi)
 ·cases i with
  | zero=>exact hk
  | succ i=>rw[List.getElem?_cons_succ];exact h.kinds i (by simpa using hi)
 ·obtain⟨g0,g1⟩:=h.last ho
  refine⟨by simp, ?_⟩
  obtain⟨n,hn⟩:∃n,l.length=n+1:=⟨l.length-1,by omega⟩
  rw[List.length_cons,hn,Nat.add_sub_cancel,List.getElem?_cons_succ]
  rw[hn,Nat.add_sub_cancel] at g1;exact g1
 ·obtain⟨g1,g2,g3⟩:=h.bad e p ho
  refine⟨by rw[List.length_cons,nN];exact g1,g2,fun i hi=>?_⟩
  cases i with
  | zero=>exact hk
  | succ i=>rw[List.getElem?_cons_succ];exact g3 i (by simpa using hi)
theorem pP(s:ByteArray):∀(n:Nat) (f:Int),0≤f→f≤s.size→(s.size-f+1).toNat≤n→Steps s f (iL s n f).1 (iL s n f).2
 | 0,f,h0,h1,hn=>by omega
 | n+1,f,h0,h1,hn=>by
   unfold iL
   rcases gh h0 h1 with ⟨t,ht,_⟩ | ⟨e,ht,he⟩
   ·have hx:=kI h0 h1 ht
    rw[ht]
    by_cases hk:t.kind=0
    ·simp only[hk,if_true]
     refine⟨fun i hi=>?_,fun i hi=>?_,fun i hi=>?_,fun _=>⟨by simp,hk⟩,fun e p ho=>(by cases ho)⟩
     ·have:i=0:=by simpa using hi
      subst this;exact ht
     ·have hi:i≤1:=hi
      cases i with
      | zero=>exact⟨h0,h1⟩
      | succ i =>
        have:i=0:=by omega
        subst this
        show 0≤t.pos+t.text.size∧t.pos+t.text.size≤(s.size:Int)
        omega
     ·simp at hi
    ·simp only[hk,if_false]
     have:=hx.2.2 hk
     have e0:iP t=t.pos+t.text.size:=rfl
     exact .cons h0 h1 ht hk (pP s n _ (by omega) (by omega) (by omega))
   ·rw[ht]
    refine⟨fun i hi=>(by simp at hi),fun i hi=>?_,fun i hi=>(by simp at hi),fun ho=>(by cases ho),fun e' p' ho=>?_⟩
    ·have:i=0:=by simpa using hi
     subst this;exact⟨h0,h1⟩
    ·cases ho
     exact⟨ht,by rcases he with rfl | rfl | rfl<;>decide,fun i hi=>(by simp at hi)⟩
structure PC.Of (c:PC) (t:ByteArray):Prop where
 len:(t.size:Int)≤4096
 oY:c.l.length≤5000
 st:∃o,Steps t 0 c.l o∧c.bad=(o.map Prod.fst).getD 0∧c.pos=(o.map Prod.snd).getD 0
theorem uA{t:ByteArray}(h:(t.size:Int)≤4096):(dp t).Of t:=by
 unfold dp
 rw[if_neg (by omega)]
 exact⟨h,by have:=rQ t (t.size-0+1:Int).toNat 0;show (kr t 0).1.length≤5000;unfold kr;omega,_,pP t _ 0 (by decide) (by omega) (Nat.le_refl _),rfl,rfl⟩
def PC.Live(c:PC)(s:PS):Prop:=s.over=false∧s.next<c.l.length
def PC.D6(c:PC):PF:=⟨c.bad,c.pos,true⟩
section
variable {c:PC} {t:ByteArray} {s:PS}
theorem PC.Of.tk(h:c.Of t){i:Nat}(hi:i<c.l.length):gK t (lL c.l 0 i)=.ok (c.tok i):=let ⟨_,h,_⟩:=h.st;h.tk i hi
theorem PC.Of.Dz(h:c.Of t){i:Nat}(hi:i≤c.l.length):0≤lL c.l 0 i∧lL c.l 0 i≤t.size:=let ⟨_,h,_⟩:=h.st;h.Dz i hi
theorem PC.Of.next(h:c.Of t){i:Nat}(hi:i<c.l.length)(hk:(c.tok i).kind≠0):i+1<c.l.length∨(i+1=c.l.length∧c.bad≠0∧gK t (lL c.l 0 (i+1))=.bad c.bad c.pos):=by
 obtain⟨o,h,hb,hp⟩:=h.st
 by_cases hl:i+1<c.l.length
 ·exact .inl hl
 ·have hl:i+1=c.l.length:=by omega
  right
  cases o with
  | none =>
    have:=(h.last rfl).2
    rw[←hl,Nat.add_sub_cancel] at this
    exact absurd this hk
  | some ep =>
    obtain⟨g1,g2,_⟩:=h.bad ep.1 ep.2 rfl
    rw[hb,hp,hl];exact⟨rfl,g2,g1⟩
theorem PC.Of.none(h:c.Of t)(hl:c.l.length=0):c.bad≠0∧gK t 0=.bad c.bad c.pos:=by
 obtain⟨o,h,hb,hp⟩:=h.st
 cases o with
 | none=>have:=(h.last rfl).1;omega
 | some ep =>
   obtain⟨g1,g2,_⟩:=h.bad ep.1 ep.2 rfl
   rw[hl] at g1
   rw[hb,hp];exact⟨g2,g1⟩
theorem PC.Live.now(h:c.Live s):c.now s=c.tok s.next:=by
 unfold PC.now;rw[h.1,if_neg];have:=h.2;simp;omega
theorem PC.Live.inc(h:c.Of t)(hl:c.Live s)(hk:(c.tok s.next).kind≠0):c.Live s.inc∨(s.next+1=c.l.length∧c.dH c.D6 s.inc):=by
 rcases h.next hl.2 hk with h1 | ⟨h1,h2,_⟩
 ·exact .inl ⟨hl.1,h1⟩
 ·refine .inr ⟨h1, ?_,fun _=>h2⟩
  have h1:c.l.length≤s.inc.next:=by show _≤s.next+1;omega
  have ho:s.inc.over=false:=hl.1
  unfold PC.fin;rw[ho,if_neg (by simp),if_pos h1];rfl
theorem PC.Live.c8(hl:c.Live s){e:Int}(he:e≠0):c.c8 e s=⟨s.next,⟨e,(c.tok s.next).pos,false⟩⟩∧c.dH ⟨e,(c.tok s.next).pos,false⟩ (c.c8 e s):=by
 have h1:c.c8 e s=⟨s.next,⟨e,(c.tok s.next).pos,false⟩⟩:=by
  unfold PC.c8;rw[hl.1,if_neg (by simp),if_neg (by have:=hl.2;omega)]
 refine⟨h1, ?_⟩
 have ho:PS.over ⟨s.next,⟨e,(c.tok s.next).pos,false⟩⟩=true:=by simpa[PS.over] using he
 rw[h1]
 exact⟨by unfold PC.fin;rw[if_pos ho],fun h=>by rw[ho] at h;cases h⟩
end
def DA(t:ByteArray)(k:Tok)(f:Int):List Value:=[.string t,.int .u8 k.kind,.string k.text,.int .u8 k.fL,.int .i64 k.n,.int .i64 k.pos,.int .i64 f]
def Bw(t:ByteArray)(k:Tok)(f:Int):Obj:=.cells (DA t k f).toArray 143 (0,0)
def pX(t:ByteArray)(b:Nat)(k:Tok)(f:Int):Nat×Obj:=(b,Bw t k f)
def PC.px(c:PC)(t:ByteArray)(b:Nat)(s:PS):Nat×Obj:=pX t b (c.tok s.next) (iP (c.tok s.next))
def D7(b:Nat):List PanicEntry:=[{ v:=.iface 97 (.pointer (some ⟨b,0,none⟩)),recovered:=false }]
def BN(f:PF)(u:Value)(B:cR):Prop:=match f.tok with
 | true=>∃b,u=.iface 97 (.pointer (some ⟨b,0,none⟩))∧B=[(b,.cells #[.string (⟨#[84,111,107,101,110,115]⟩:ByteArray),.int .i64 f.pos,rS f.e] 101 (0,0))]
 | false=>u=rS f.e∧B=[]
def da(f:PF)(F0:cR)(e:Ending)(G:cR):Prop:=∃(b:Nat) (u:Value) (B X:cR),e=.panicked (D7 b)∧BN f u B∧G.Perm ((b,.cells #[.string ⟨#[]⟩,.int .i64 f.pos,u] 101 (0,0))::(B++(X++F0)))
theorem da.perm{f:PF}{F0 F1 G H:cR}{e:Ending}(h:da f F0 e G)(p:F0.Perm F1)(q:H.Perm G):da f F1 e H :=
 let ⟨b,u,B,X,he,hu,hG⟩:=h;⟨b,u,B,X,he,hu,q.trans (hG.trans (((p.append_left X).append_left B).cons _))⟩
theorem da.more{f:PF}{A F0 G:cR}{e:Ending}(h:da f (A++F0) e G):da f F0 e G :=
 let ⟨b,u,B,X,he,hu,hG⟩:=h;⟨b,u,B,X++A,he,hu,by rw[List.append_assoc];exact hG⟩
theorem da.BO{f:PF}{x:Nat×Obj}{F0 G:cR}{e:Ending}(h:da f F0 e G):da f F0 e (x::G) :=
 let ⟨b,u,B,X,he,hu,hG⟩:=h;⟨b,u,B,x::X,he,hu,(hG.cons x).trans (cV fun z=>by simp only[cX,cW,cZ];omega)⟩
theorem da.pass{f:PF}{F0 G:cR}{e:Ending}{I:cS}{Q:Ending→cS→cR→Prop}(h:da f F0 e G)(k:∀e',da f F0 e' G→Q e' I G):∃ch,e=.panicked ch∧∃F2:cR,List.Perm G F2∧Q (.panicked ch) I F2 :=
 let ⟨b,u,B,X,he,hu,hG⟩:=h;⟨_,he,G,.refl _,k _ ⟨b,u,B,X,rfl,hu,hG⟩⟩
theorem da.dq{f:PF}{F0 G:cR}{e:Ending}{I:cS}{Q:Ending→cS→cR→Prop}(L:cR)(h:da f (L++F0) e G)(k:∀e' G',da f F0 e' G'→Q e' I G'):∃ch,e=.panicked ch∧∃F2:cR,List.Perm G (L++F2)∧Q (.panicked ch) I F2:=by
 obtain⟨b,u,B,X,he,hu,hG⟩:=h
 exact⟨_,he,_,hG.trans (cV fun z=>by simp only[cX,cW,cZ];omega),k _ _ ⟨b,u,B,X,rfl,hu,.refl _⟩⟩
def c7(c:PC)(t:ByteArray)(b:Nat){α:Type}(val:α→Value→cR→Prop)(F0:cR)(r:α×PS)(e:Ending)(I:cS)(G:cR):Prop :=
 (c.Live r.2∧∃v H,e=.returned v∧val r.1 v H∧G.Perm (c.px t b r.2::(H++F0)))∨∃f,c.dH f r.2∧da f F0 e G
section
variable {c:PC} {t:ByteArray} {b:Nat} {α:Type} {val:α→Value→cR→Prop} {F0:cR} {r:α×PS}
theorem c7.use{g:Nat}{args:Array Value}{I:cS}{F:cR}{Q:Ending→cS→cR→Prop}(h:cU P g args I F (c7 c t b val F0 r))
  (k1:∀v H I' G,cS.le I I'→c.Live r.2→val r.1 v H→G.Perm (c.px t b r.2::(H++F0))→Q (.returned v) I' G) (k2:∀f e I' G,cS.le I I'→c.dH f r.2→da f F0 e G→Q e I' G):cU P g args I F Q :=
 h.mono fun e I' G hl hd=>by
  rcases hd with ⟨h1,v,H,rfl,hv,hG⟩ | ⟨f,hd,hf⟩
  ·exact k1 v H I' G hl h1 hv hG
  ·exact k2 f e I' G hl hd hf
end
def D8(x:Unit)(v:Value)(H:cR):Prop:=v=.tuple #[]∧H=[]
def D9(x:Int)(v:Value)(H:cR):Prop:=v=.int .i64 x∧H=[]
def Ea(x:ByteArray)(v:Value)(H:cR):Prop:=v=.string x∧H=[]
def oK(x:Px)(v:Value)(H:cR):Prop:=∃t:Nd,v=t.v∧t.px=x∧dQ 64 false t H
end Go.Lx
namespace Go.Lx
open Go.Vc Go.Proofs.Tryz
def jN:List (Nat×List Sh):=[(0,[]),(2,[.one (.int .i64)]),(3,[.one (.int .i64)]),(9,[.one .str]),(60,[.one (.int .u8)]),(74,[.one (.int .u8)]),(81,[.one .slc,.one (.int .i64),.one (.int .i64)]),(206,[.agg [(.int .u8),.str,(.int .u8),(.int .i64),(.int .i64)],.one (.int .i64),.one (.int .i64)])]
def jt.V(b:OA)(a c:Nat)(v:Bs)(I:cS)(F:cR)(Q:cT)(Inv6:Int→Int→Nat→cS→cR→Prop):Prop:=(∃m:Nat,Inv6 0 0 m I F)∧∀(x x1:Int) (m1:Nat) (I1:cS) (F1:cR),cS.le I I1→Inv6 x x1 m1 I1 F1→(Dt (x1<(a:Int)) ((0≤x1∧x1<(a:Int))∧∃ad:Addr,b=some ad∧∃(m2:Bs),Rd I1 F1 (ad.add (Int.toNat x1*1)) [.string m2]∧(It (v.toList==m2.toList) (Q (.returned (.int .i64 x1)) I1 F1) (∃m3:Nat,m3<m1∧Inv6 x (IntKind.wrap .i64 (x1+1)) m3 I1 F1))) (Q (.returned (.int .i64 (-1))) I1 F1))
theorem jt.vc{a:OA}{b c:Nat}{v:Bs}{I:cS}{F:cR}{Q:cT}(Inv6:Int→Int→Nat→cS→cR→Prop)(h:jt.V a b c v I F Q Inv6):cU P 125 #[.slice a b c,.string v] I F Q :=
 tw (A:=(dr [2000,4005] [] [] jN [(6,⟨[(4,(.int .i64)),(8,(.int .i64))],[],fun _ _ _ vs m I F=>match vs with | [.int _ y0,.int _ y1]=>Inv6 y0 y1 m I F | _=>False,[],[]⟩)] [] [] [] [] [] [])) [] func125 h
def ju.V(s:Bs)(a:Int)(I:cS)(F:cR)(Q:cT)  : Prop:=((0≤a∧a≤(s.size:Int)∧(s.size:Int)≤(s.size:Int))∧gO P 124 (#[.string (s.extract (Int.toNat a) (Int.toNat ((s.size:Int))))]) I (·) F fun e1 I1 G1=>∃(b:OA) (c d:Nat) (r1 r2:Int),e1=.returned (.tuple #[.slice b c d,.int .i64 r1,.int .i64 r2])∧G1 fun F1=>Q (.returned (.int .i64 (IntKind.wrap .i64 (a+r2)))) I1 F1)
theorem ju.vc{s:Bs}{a:Int}{I:cS}{F:cR}{Q:cT}  (h:ju.V s a I F Q):cU P 103 #[.string s,.int .i64 a] I F Q :=
 tw (A:=(an [] [124] jN)) [124] func103 h
def kh.V(vb:Int→Value)(vs:Bs→Value)(vl:OA→Nat→Nat→Value)(a:Int)(I:cS)(F:cR)(Q:cT)  : Prop:=(It (a==2) (∀(b:Nat) (I1:cS),cS.le I I1→I1 b=some (Obj.cells #[vs (⟨#[124,124]⟩:Bs)] 9 (0,0))→Q (.returned (.tuple #[vl (some ⟨b,0,none⟩) 1 1,vb 18])) I1 F) (It (a==3) (∀(b1:Nat) (I2:cS),cS.le I I2→I2 b1=some (Obj.cells #[vs (⟨#[38,38]⟩:Bs)] 9 (0,0))→Q (.returned (.tuple #[vl (some ⟨b1,0,none⟩) 1 1,vb 17])) I2 F) (It (a==4) (∀(b2:Nat) (I3:cS),cS.le I I3→I3 b2=some (Obj.cells #[vs (⟨#[61,61]⟩:Bs),vs (⟨#[33,61]⟩:Bs),vs (⟨#[60]⟩:Bs),vs (⟨#[60,61]⟩:Bs),vs (⟨#[62]⟩:Bs),vs (⟨#[62,61]⟩:Bs)] 9 (0,0))→Q (.returned (.tuple #[vl (some ⟨b2,0,none⟩) 6 6,vb 11])) I3 F) (It (a==5) (∀(b3:Nat) (I4:cS),cS.le I I4→I4 b3=some (Obj.cells #[vs (⟨#[43]⟩:Bs),vs (⟨#[45]⟩:Bs)] 9 (0,0))→Q (.returned (.tuple #[vl (some ⟨b3,0,none⟩) 2 2,vb 6])) I4 F) (∀(b4:Nat) (I5:cS),cS.le I I5→I5 b4=some (Obj.cells #[vs (⟨#[42]⟩:Bs),vs (⟨#[47]⟩:Bs),vs (⟨#[37]⟩:Bs)] 9 (0,0))→Q (.returned (.tuple #[vl (some ⟨b4,0,none⟩) 3 3,vb 8])) I5 F)))))
theorem kh.vc{a:Int}{I:cS}{F:cR}{Q:cT}  (h:kh.V (.int .u8) .string .slice a I F Q):cU P 115 #[.int .i64 a] I F Q :=
 tw (A:=(dr [2000,4000,6000,8000] [] [] jN [] [3000,5000,7000,9000,10000] [] [] [] [] [])) [] func115 h
def fy.V(p:Addr)(e1:Int)(I:cS)(F:cR)(Q:cT)  : Prop:=∃ad:Addr,some p=some ad∧∃(m:Int),Rd I F ((ad.add 1).add 4) [.int .i64 m]∧∀b:Nat,Q (.panicked ([{ v:=Value.iface 97 (.pointer (some (⟨b,0,none⟩:Addr))),recovered:=false }])) I (((b,Obj.cells #[.string (⟨#[]⟩:Bs),.int .i64 m,Value.iface 48 (.int .i64 e1)] 101 (0,0))::F))
theorem fy.vc{p:Addr}{e1:Int}{I:cS}{F:cR}{Q:cT}  (h:fy.V p e1 I F Q):cU P 65 #[.pointer (some p),.int .i64 e1] I F Q :=
 tw (A:=(dr [] [] [] jN [] [] [8] [] [] [] [])) [] func65 h
def dZ.V(ka:Nat→Int→Bs→Int→Int→Int→Nat×Obj)(kb:Nat→Bs→Int→Value→Nat×Obj)(vb vi:Int→Value)(vs:Bs→Value)(vp:OA→Value)(p:Addr)(I:cS)(F:cR)(Q:cT)  : Prop:=∃ad:Addr,some p=some ad∧∃ae:Addr,some p=some ae∧∃(m:Bs),Rd I F (ad.add 0) [vs m]∧∃(m1:Int),Rd I F (ae.add 6) [vi m1]∧(gO P 102 #[vs m,vi m1] I (·) F fun e1 I1 G1=>∃(g:Int) (h:Bs) (i j k r1 r2:Int),e1=.returned (.tuple #[.agg #[vb g,vs h,vb i,vi j,vi k],vi r1,vi r2])∧G1 fun F1=>∀u:Nat,(It (r2 != 0) (It (r2 != 110) (∃af:Addr,some p=some af∧∃ag:Addr,some p=some ag∧∃(m2:Bs),Rd I1 ((ka u g h i j k)::F1) (af.add 0) [vs m2]∧∃(m3:Int),Rd I1 ((ka u g h i j k)::F1) (ag.add 6) [vi m3]∧eZ P 103 #[vs m2,vi m3] I1 ((ka u g h i j k)::·) F1 vi fun r I2 F2=>∀b:Nat,∀b1:Nat,Q (.panicked ([{ v:=Value.iface 97 (vp (some (⟨b1,0,none⟩:Addr))),recovered:=false }])) I2 (((kb b1 (⟨#[]⟩:Bs) r (Value.iface 97 (vp (some (⟨b,0,none⟩:Addr)))))::((kb b (⟨#[84,111,107,101,110,115]⟩:Bs) r (Value.iface 48 (vi r2)))::F2)))) (∀b2:Nat,∀b3:Nat,Q (.panicked ([{ v:=Value.iface 97 (vp (some (⟨b3,0,none⟩:Addr))),recovered:=false }])) I1 (((kb b3 (⟨#[]⟩:Bs) 0 (Value.iface 97 (vp (some (⟨b2,0,none⟩:Addr)))))::((kb b2 (⟨#[84,111,107,101,110,115]⟩:Bs) 0 (Value.iface 48 (vi r2)))::F1))))) (∃o:Addr,some p=some o∧∃(cs:List Value) (el:Nat) (F3:cR),List.Perm F1 (((o.add 1).block,Obj.cells cs.toArray el (0,0))::F3)∧(o.add 1).spot=none∧(o.add 1).off+5≤cs.length∧∃q:Addr,some p=some q∧∃(w:List Value) (z:Nat) (F4:cR),List.Perm (((o.add 1).block,Obj.cells (c6 (o.add 1).off [vb g,vs h,vb i,vi j,vi k] cs).toArray el (0,0))::F3) (((q.add 6).block,Obj.cells w.toArray z (0,0))::F4)∧(q.add 6).spot=none∧(q.add 6).off+1≤w.length∧Q (.returned (.tuple #[])) I1 ((((q.add 6).block,Obj.cells (c6 (q.add 6).off [vi r1] w).toArray z (0,0))::F4)))))∧(∀l:Nat,gO P 102 #[vs m,vi m1] I ((ka l 0 (⟨#[]⟩:Bs) 0 0 0)::·) F fun e3 I3 G3=>∃(a:Int) (c:Bs) (d e f aa n:Int),e3=.returned (.tuple #[.agg #[vb a,vs c,vb d,vi e,vi f],vi aa,vi n])∧G3 fun F5=>(It (n != 0) (It (n != 110) (∃ah:Addr,some p=some ah∧∃ai:Addr,some p=some ai∧∃(m4:Bs),Rd I3 ((ka l a c d e f)::F5) (ah.add 0) [vs m4]∧∃(m5:Int),Rd I3 ((ka l a c d e f)::F5) (ai.add 6) [vi m5]∧eZ P 103 #[vs m4,vi m5] I3 ((ka l a c d e f)::·) F5 vi fun r3 I4 F6=>∀b4:Nat,∀b5:Nat,Q (.panicked ([{ v:=Value.iface 97 (vp (some (⟨b5,0,none⟩:Addr))),recovered:=false }])) I4 (((kb b5 (⟨#[]⟩:Bs) r3 (Value.iface 97 (vp (some (⟨b4,0,none⟩:Addr)))))::((kb b4 (⟨#[84,111,107,101,110,115]⟩:Bs) r3 (Value.iface 48 (vi n)))::F6)))) (∀b6:Nat,∀b7:Nat,Q (.panicked ([{ v:=Value.iface 97 (vp (some (⟨b7,0,none⟩:Addr))),recovered:=false }])) I3 (((kb b7 (⟨#[]⟩:Bs) 0 (Value.iface 97 (vp (some (⟨b6,0,none⟩:Addr)))))::((kb b6 (⟨#[84,111,107,101,110,115]⟩:Bs) 0 (Value.iface 48 (vi n)))::F5))))) (∃s:Addr,some p=some s∧∃(x:List Value) (ab:Nat) (F7:cR),List.Perm F5 (((s.add 1).block,Obj.cells x.toArray ab (0,0))::F7)∧(s.add 1).spot=none∧(s.add 1).off+5≤x.length∧∃t:Addr,some p=some t∧∃(y:List Value) (ac:Nat) (F8:cR),List.Perm (((s.add 1).block,Obj.cells (c6 (s.add 1).off [vb a,vs c,vb d,vi e,vi f] x).toArray ab (0,0))::F7) (((t.add 6).block,Obj.cells y.toArray ac (0,0))::F8)∧(t.add 6).spot=none∧(t.add 6).off+1≤y.length∧Q (.returned (.tuple #[])) I3 ((((t.add 6).block,Obj.cells (c6 (t.add 6).off [vi aa] y).toArray ac (0,0))::F8)))))
theorem dZ.vc{p:Addr}{I:cS}{F:cR}{Q:cT}  (h:dZ.V (fun W a b c d e=>(W,Obj.cells #[.int .u8 a,.string b,.int .u8 c,.int .i64 d,.int .i64 e] 76 (0,0))) (fun W a b c=>(W,Obj.cells #[.string a,.int .i64 b,c] 101 (0,0))) (.int .u8) (.int .i64) .string .pointer p I F Q):cU P 64 #[.pointer (some p)] I F Q :=
 tw (A:=(dr [1001,3001] [] [102,103] jN [] [] [5005,5008] [] [] [(0,[0,1,2,4,5,6,3,7]),(4,[0,1,2,4,5,6,3,7,8,9])] [] [(0,8,13,[9,10,11,12,13,14,15,16],[8,9,10,11,12,14,15,16])])) [102,103] func64 h
def g9.V(p:Addr)(s:Bs)(I:cS)(F:cR)(Q:cT)  : Prop:=∃ad:Addr,some p=some ad∧∃(m:Int),Rd I F ((ad.add 1).add 0) [.int .u8 m]∧(It (m==1) (∃a:Addr,some p=some a∧∃(m1:Bs),Rd I F ((a.add 1).add 1) [.string m1]∧Q (.returned (.bool (m1.toList==s.toList))) I F) (∃b:Addr,some p=some b∧∃(m2:Int),Rd I F ((b.add 1).add 0) [.int .u8 m2]∧(It (m2==4) (∃c:Addr,some p=some c∧∃(m3:Bs),Rd I F ((c.add 1).add 1) [.string m3]∧Q (.returned (.bool (m3.toList==s.toList))) I F) (Q (.returned (.bool false)) I F))))
theorem g9.vc{p:Addr}{s:Bs}{I:cS}{F:cR}{Q:cT}  (h:g9.V p s I F Q):cU P 91 #[.pointer (some p),.string s] I F Q :=
 tw (A:=(an [1005,1012] [] jN)) [] func91 h
def fA.V(vi:Int→Value)(vs:Bs→Value)(p:Addr)(a:OA)(b c:Nat)(I:cS)(F:cR)(Q:cT)  : Prop:=∃ad:Addr,some p=some ad∧∃(m:Int),Rd I F ((ad.add 1).add 0) [.int .u8 m]∧(It (m != 1) (∃d:Addr,some p=some d∧∃(m1:Int),Rd I F ((d.add 1).add 0) [.int .u8 m1]∧(It (m1 != 4) (Q (.returned (vi (-1))) I F) (∃e:Addr,some p=some e∧∃(m2:Bs),Rd I F ((e.add 1).add 1) [vs m2]∧eZ P 125 #[.slice a b c,vs m2] I (·) F vi fun r I1 F1=>Q (.returned (vi r)) I1 F1))) (∃f:Addr,some p=some f∧∃(m3:Bs),Rd I F ((f.add 1).add 1) [vs m3]∧eZ P 125 #[.slice a b c,vs m3] I (·) F vi fun r1 I2 F2=>Q (.returned (vi r1)) I2 F2))
theorem fA.vc{p:Addr}{a:OA}{b c:Nat}{I:cS}{F:cR}{Q:cT}  (h:fA.V (.int .i64) .string p a b c I F Q):cU P 104 #[.pointer (some p),.slice a b c] I F Q :=
 tw (A:=(an [1005,1012] [125] jN)) [125] func104 h
def gE.V(vi:Int→Value)(vp:OA→Value)(p:Addr)(c:OA)(d e:Nat)(I:cS)(F:cR)(Q:cT)  : Prop:=eZ P 104 (#[vp (some p),.slice c d e]) I (·) F vi fun r I1 F1=>(Dt (r<0) (cU P 65 (#[vp (some p),vi 130]) I1 F1 fun e2 I2 G2=>((e2=.returned (.tuple #[])∧∃F2:cR,List.Perm G2 F2∧cU P 64 (#[vp (some p)]) I2 F2 fun e3 I3 G3=>((e3=.returned (.tuple #[])∧∃F3:cR,List.Perm G3 F3∧Q (.returned (vi r)) I3 F3)∨(∃ch:List PanicEntry,e3=.panicked ch∧∃F4:cR,List.Perm G3 F4∧Q (.panicked ch) I3 F4)))∨(∃a:List PanicEntry,e2=.panicked a∧∃F5:cR,List.Perm G2 F5∧Q (.panicked a) I2 F5))) (cU P 64 (#[vp (some p)]) I1 F1 fun e4 I4 G4=>((e4=.returned (.tuple #[])∧∃F6:cR,List.Perm G4 F6∧Q (.returned (vi r)) I4 F6)∨(∃b:List PanicEntry,e4=.panicked b∧∃F7:cR,List.Perm G4 F7∧Q (.panicked b) I4 F7))))
theorem gE.vc{p:Addr}{a:OA}{b c:Nat}{I:cS}{F:cR}{Q:cT}  (h:gE.V (.int .i64) .pointer p a b c I F Q):cU P 66 #[.pointer (some p),.slice a b c] I F Q :=
 tw (A:=(dr [2001] [64,65] [64,65,104] jN [] [] [] [] [] [] [])) [64,65,104] func66 h
def fS.V(p:Addr)(I:cS)(F:cR)(Q:cT)  : Prop:=∃ad:Addr,some p=some ad∧∃(m:Bs),Rd I F ((ad.add 1).add 1) [.string m]∧∃a:Addr,some p=some a∧∃(m1:Int),Rd I F ((a.add 1).add 0) [.int .u8 m1]∧(It (m1 != 2) (cU P 65 (#[.pointer (some p),.int .i64 130]) I F fun e1 I1 G1=>((e1=.returned (.tuple #[])∧∃F1:cR,List.Perm G1 F1∧cU P 64 (#[.pointer (some p)]) I1 F1 fun e2 I2 G2=>((e2=.returned (.tuple #[])∧∃F2:cR,List.Perm G2 F2∧Q (.returned (.string m)) I2 F2)∨(∃ch:List PanicEntry,e2=.panicked ch∧∃F3:cR,List.Perm G2 F3∧Q (.panicked ch) I2 F3)))∨(∃b:List PanicEntry,e1=.panicked b∧∃F4:cR,List.Perm G1 F4∧Q (.panicked b) I1 F4))) (cU P 64 (#[.pointer (some p)]) I F fun e3 I3 G3=>((e3=.returned (.tuple #[])∧∃F5:cR,List.Perm G3 F5∧Q (.returned (.string m)) I3 F5)∨(∃c:List PanicEntry,e3=.panicked c∧∃F6:cR,List.Perm G3 F6∧Q (.panicked c) I3 F6))))
theorem fS.vc{p:Addr}{I:cS}{F:cR}{Q:cT}  (h:fS.V p I F Q):cU P 67 #[.pointer (some p)] I F Q :=
 tw (A:=(dr [2005] [64,65] [64,65] jN [] [] [] [] [] [] [])) [64,65] func67 h
def fe.V(p:Addr)(d:Int)(I:cS)(F:cR)(Q:cT)  : Prop:=(It (d==24) (cU P 65 (#[.pointer (some p),.int .i64 132]) I F fun e1 I1 G1=>((e1=.returned (.tuple #[])∧∃F1:cR,List.Perm G1 F1∧Q (.returned (.int .i64 (IntKind.wrap .i64 (d+1)))) I1 F1)∨(∃ch:List PanicEntry,e1=.panicked ch∧∃F2:cR,List.Perm G1 F2∧Q (.panicked ch) I1 F2))) (Q (.returned (.int .i64 (IntKind.wrap .i64 (d+1)))) I F))
theorem fe.vc{p:Addr}{d:Int}{I:cS}{F:cR}{Q:cT}  (h:fe.V p d I F Q):cU P 92 #[.pointer (some p),.int .i64 d] I F Q :=
 tw (A:=(dr [1001] [65] [65] jN [] [] [] [] [] [] [])) [65] func92 h
def eU.V(nV:Int→Int→Int→Int→Int→Bs→OA→Nat→Nat→Int→Value)(nO:Int→Int→Int→Int→Int→Bs→OA→Nat→Nat→Int→Obj)(vs:Bs→Value)(vt:Bool→Value)(vp:OA→Value)(wr:Int→Int)(p:Addr)(I:cS)(F:cR)(Q:cT)  : Prop:=∀b:Nat,∃ad:Addr,some p=some ad∧∃(m:Int),Rd I ((b,nO 0 0 0 0 0 (⟨#[]⟩:Bs) none 0 0 0)::F) ((ad.add 1).add 4) [.int .i64 m]∧∀a:Nat,∃c:Addr,some p=some c∧∃(m1:Int),Rd I ((b,nO 0 0 0 0 0 (⟨#[]⟩:Bs) none 0 0 0)::(a,nO 1 0 0 0 0 (⟨#[]⟩:Bs) none 0 0 m)::F) ((c.add 1).add 0) [.int .u8 m1]∧(It (m1==3) (∃d:Addr,some p=some d∧∃(m2:Int),Rd I ((b,nO 0 0 0 0 0 (⟨#[]⟩:Bs) none 0 0 0)::(a,nO 1 0 0 0 0 (⟨#[]⟩:Bs) none 0 0 m)::F) ((d.add 1).add 2) [.int .u8 m2]∧∃e:Addr,some p=some e∧∃(m3:Int),Rd I F ((e.add 1).add 3) [.int .i64 m3]∧cU P 64 (#[vp (some p)]) I ((b,nO 0 0 0 0 0 (⟨#[]⟩:Bs) none 0 0 0)::(a,nO 1 0 m2 m3 0 (⟨#[]⟩:Bs) none 0 0 m)::F) fun e1 I1 G1=>((e1=.returned (.tuple #[])∧∃F1:cR,List.Perm G1 ((b,nO 0 0 0 0 0 (⟨#[]⟩:Bs) none 0 0 0)::(a,nO 1 0 m2 m3 0 (⟨#[]⟩:Bs) none 0 0 m)::F1)∧Q (.returned (.tuple #[nV 1 0 m2 m3 0 (⟨#[]⟩:Bs) none 0 0 m,vt true])) I1 F1)∨(∃ch:List PanicEntry,e1=.panicked ch∧∃F2:cR,List.Perm G1 ((b,nO 0 0 0 0 0 (⟨#[]⟩:Bs) none 0 0 0)::(a,nO 1 0 m2 m3 0 (⟨#[]⟩:Bs) none 0 0 m)::F2)∧Q (.panicked ch) I1 F2))) (∀(b1:Nat) (I2:cS),cS.le I I2→I2 b1=some (Obj.cells #[vs (⟨#[102,97,108,115,101]⟩:Bs),vs (⟨#[116,114,117,101]⟩:Bs),vs (⟨#[98,117,121]⟩:Bs),vs (⟨#[115,101,108,108]⟩:Bs)] 9 (0,0))→eZ P 104 (#[vp (some p),.slice (some ⟨b1,0,none⟩) 4 4]) I2 ((b,nO 0 0 0 0 0 (⟨#[]⟩:Bs) none 0 0 0)::(a,nO 1 0 0 0 0 (⟨#[]⟩:Bs) none 0 0 m)::·) F (.int .i64) fun r I3 F3=>(Dt (r<0) (Q (.returned (.tuple #[nV 0 0 0 0 0 (⟨#[]⟩:Bs) none 0 0 0,vt false])) I3 F3) (Dt (r>1) (cU P 64 (#[vp (some p)]) I3 ((b,nO 0 0 0 0 0 (⟨#[]⟩:Bs) none 0 0 0)::(a,nO 1 0 6 (wr (r-1)) 0 (⟨#[]⟩:Bs) none 0 0 m)::F3) fun e3 I4 G3=>((e3=.returned (.tuple #[])∧∃F4:cR,List.Perm G3 ((b,nO 0 0 0 0 0 (⟨#[]⟩:Bs) none 0 0 0)::(a,nO 1 0 6 (wr (r-1)) 0 (⟨#[]⟩:Bs) none 0 0 m)::F4)∧Q (.returned (.tuple #[nV 1 0 6 (wr (r-1)) 0 (⟨#[]⟩:Bs) none 0 0 m,vt true])) I4 F4)∨(∃f:List PanicEntry,e3=.panicked f∧∃F5:cR,List.Perm G3 ((b,nO 0 0 0 0 0 (⟨#[]⟩:Bs) none 0 0 0)::(a,nO 1 0 6 (wr (r-1)) 0 (⟨#[]⟩:Bs) none 0 0 m)::F5)∧Q (.panicked f) I4 F5))) (cU P 64 (#[vp (some p)]) I3 ((b,nO 0 0 0 0 0 (⟨#[]⟩:Bs) none 0 0 0)::(a,nO 1 0 5 r 0 (⟨#[]⟩:Bs) none 0 0 m)::F3) fun e4 I5 G4=>((e4=.returned (.tuple #[])∧∃F6:cR,List.Perm G4 ((b,nO 0 0 0 0 0 (⟨#[]⟩:Bs) none 0 0 0)::(a,nO 1 0 5 r 0 (⟨#[]⟩:Bs) none 0 0 m)::F6)∧Q (.returned (.tuple #[nV 1 0 5 r 0 (⟨#[]⟩:Bs) none 0 0 m,vt true])) I5 F6)∨(∃g:List PanicEntry,e4=.panicked g∧∃F7:cR,List.Perm G4 ((b,nO 0 0 0 0 0 (⟨#[]⟩:Bs) none 0 0 0)::(a,nO 1 0 5 r 0 (⟨#[]⟩:Bs) none 0 0 m)::F7)∧Q (.panicked g) I5 F7)))))))
theorem eU.vc{p:Addr}{I:cS}{F:cR}{Q:cT}  (h:eU.V (fun k o t n f s a l c q=>.agg #[.int .u8 k,.int .u8 o,.int .u8 t,.int .i64 n,.int .u8 f,.string s,.slice a l c,.int .i64 q]) (fun k o t n f s a l c q=>.cells #[.int .u8 k,.int .u8 o,.int .u8 t,.int .i64 n,.int .u8 f,.string s,.slice a l c,.int .i64 q] 64 (0,0)) .string .bool .pointer (IntKind.wrap .i64) p I F Q):cU P 105 #[.pointer (some p)] I F Q :=
 tw (A:=(dr [2005,5001,8001] [64] [64,104] jN [] [4001] [] [(3,11,[1])] [] [] [(3,12)])) [64,104] func105 h
end Go.Lx
namespace Go.Lx
open Go.Vc
def dJ(I:cS)(G:cR)(t:ByteArray)(b:Nat)(k:Tok)(f:Int):Prop:=I b=some (Bw t k f)∨(b,Bw t k f)∈G
theorem dJ.rd{I:cS}{G:cR}{t:ByteArray}{b:Nat}{k:Tok}{f:Int}(h:dJ I G t b k f):Rd I G (⟨b,0,none⟩:Addr) (DA t k f):=⟨rfl,_,_,_,h,fun j hj=>by simp⟩
theorem dJ.mono{I J:cS}{G H:cR}{t:ByteArray}{b:Nat}{k:Tok}{f:Int}(h:dJ I G t b k f)(hl:cS.le I J)(hs:∀x,x∈G→x∈H):dJ J H t b k f:=h.imp (fun h=>hl.at h) (hs _)
theorem dJ.of{I:cS}{F G:cR}{t:ByteArray}{b:Nat}{k:Tok}{f:Int}(h:F.Perm (pX t b k f::G)):dJ I F t b k f:=.inr (h.mem_iff.2 (.head _))
theorem eV{I:cS}{F:cR}{t:ByteArray}{b:Nat}{k:Tok}{f:Int}(h:dJ I F t b k f)(e:Int):cU P 65 #[.pointer (some ⟨b,0,none⟩),.int .i64 e] I F fun e' I' G=>da ⟨e,k.pos,false⟩ F e' G:=by
 refine fy.vc ?_
 unfold fy.V
 exact⟨_,rfl,_,h.rd.du (p:=1) (q:=4) rfl,fun b1=>⟨b1,_,[],[],rfl,⟨rfl,rfl⟩,.refl _⟩⟩
theorem yu{I:cS}{G:cR}{b ty:Nat}{v:Value}(h:(b,Obj.cells #[v] ty (0,0))∈G):Rd I G (⟨b,0,none⟩:Addr) [v]:=Rd.z2 h 0 fun j hj=>by
 have:j=0:=by simpa using hj
 subst this;rfl
theorem uB{x p:Nat×Obj}{F F0:cR}(h:F.Perm (p::F0)):(x::F).Perm (p::x::F0):=(h.cons x).trans (.swap ..)
theorem fI{x y p:Nat×Obj}{F F0:cR}(h:F.Perm (p::F0)):(x::y::F).Perm (p::x::y::F0):=uB (uB h)
theorem uC{x y z p:Nat×Obj}{F F0:cR}(h:F.Perm (p::F0)):(x::y::z::F).Perm (p::x::y::z::F0):=uB (uB (uB h))
theorem wv{x y z u p:Nat×Obj}{F F0:cR}(h:F.Perm (p::F0)):(x::y::z::u::F).Perm (p::x::y::z::u::F0):=uB (uB (uB (uB h)))
theorem da.tail{f:PF}{x:Nat×Obj}{F F0 G:cR}{e:Ending}(h:da f F e G)(p:F.Perm (x::F0)):da f F0 e G:=da.more (A:=[x]) (h.perm p (.refl _))
theorem xA{t:ByteArray}{f:Int}(h0:0≤f)(h1:f≤t.size):gj (cut t f t.size) t f :=
 ⟨h0,by rw[gT h0 h1 (Int.le_refl _)];omega,fun k g0 g1=>by
   rw[gT h0 h1 (Int.le_refl _)] at g1
   rw[lY h0 g0 (by omega) (Int.le_refl _),Int.add_comm]⟩
theorem mc{t:ByteArray}(hs:(t.size:Int)≤4096){f:Int}(h0:0≤f)(h1:f≤t.size){e p:Int}(ht:gK t f=.bad e p)(I:cS)(F:cR):cU P 103 #[.string t,.int .i64 f] I F (jS (.int .i64 p) F):=by
 have hB:=xA h0 h1
 have hz:=gT h0 h1 (Int.le_refl _)
 have hp:0≤p∧p≤t.size:=by
  have ho:=il (s:=t) h1
  rcases gh h0 h1 with ⟨_,h,_⟩ | ⟨e',h,_⟩
  ·rw[ht] at h;cases h
  ·rw[ht] at h
   have:p=dj t f:=(TR.bad.inj h).2
   omega
 have htk:=hB.tok (f:=0) (by decide) (by omega)
 rw[Int.zero_add,ht] at htk
 have hb:gK (cut t f t.size) 0=.bad e (p-f):=by
  cases hc:gK (cut t f t.size) 0 with
  | ok u=>rw[hc] at htk;cases htk
  | bad e' p' =>
    rw[hc] at htk
    obtain⟨rfl,rfl⟩:=TR.bad.inj htk
    rw[show p'+f-f=p' by omega]
 have hT:oD (cut t f t.size)=.error (e,p-f):=by
  unfold oD
  rw[if_neg (by omega),pb (by decide) (by omega),hb]
 refine ju.vc ?_
 unfold ju.V
 refine⟨⟨h0,h1,Int.le_refl _⟩,(vR (s:=cut t f t.size) (by unfold dt;omega) I F).mono fun e1 I1 G l1 hr=>?_⟩
 obtain⟨rfl,hr⟩:=hr
 rw[hT] at hr
 refine⟨_,_,_,_,_,hr,_,.refl _, ?_,rfl⟩
 rw[ef (by omega),show f+(p-f)=p by omega]
theorem yv{I:cS}{F F0:cR}{t:ByteArray}(hs:(t.size:Int)≤4096){b:Nat}{k:Tok}{f:Int}(h0:0≤f)(h1:f≤t.size)(hF:F.Perm (pX t b k f::F0)) :
  cU P 64 #[.pointer (some ⟨b,0,none⟩)] I F fun e' I' G=>match gK t f with
   | .ok k'=>e'=.returned (.tuple #[])∧G.Perm (pX t b k' (iP k')::F0)
   | .bad e p=>da ⟨e,p,true⟩ F0 e' G:=by
 have hp:=dJ.of (I:=I) hF
 refine dZ.vc ?_
 unfold dZ.V
 have hshort:dt t:=by unfold dt;omega
 have hnx:tq t f=match gK t f with
  | .ok t'=>.tuple #[t'.v,.int .i64 (t'.pos+t'.text.size),.int .i64 0]
  | .bad e p=>.tuple #[(jn 0).v,.int .i64 0,.int .i64 e]:=by unfold tq;rw[if_neg (by omega),if_neg (by omega)];cases gK t f<;>rfl
 have hst:∀(k':Tok),pX t b k' (iP k')=(((⟨b,0,none⟩:Addr).add 6).block,Obj.cells (c6 ((⟨b,0,none⟩:Addr).add 6).off [.int .i64 (iP k')] (c6 ((⟨b,0,none⟩:Addr).add 1).off [.int .u8 k'.kind,.string k'.text,.int .u8 k'.fL,.int .i64 k'.n,.int .i64 k'.pos] (DA t k f))).toArray 143 (0,0)):=fun k'=>by
  rw[dv,dv];rfl
 refine⟨_,rfl,_,rfl,_,hp.rd.field (o:=0) rfl,_,hp.rd.field (o:=6) rfl, ?_,fun b_t=>?_⟩
 ·refine cU.ret (my hshort I _) fun I1 l1=>?_
  rw[hnx]
  rcases gh h0 h1 with ⟨k',ht,_⟩ | ⟨e,ht,he⟩
  ·rw[ht]
   refine⟨_,_,_,_,_,_,_,rfl,_,.refl _,fun b_t=>⟨fun h=>absurd h (by decide),fun _=>⟨_,rfl,DA t k f,143,F0,hF,rfl,by rw[dv];exact (by decide:1+5≤7),_,rfl,_,143,F0,.refl _,rfl,by rw[dv,dv];exact (by decide:6+1≤7),rfl, ?_⟩⟩⟩
   rw[hst k'];exact .refl _
  ·rw[ht]
   refine⟨_,_,_,_,_,_,_,rfl,_,.refl _,fun b_t=>⟨fun _=>⟨fun _=>?_,fun h=>?_⟩,fun h=>?_⟩⟩
   ·have hp1:=(hp.mono (J:=I1) (H:=(b_t,Obj.cells #[.int .u8 0,.string ⟨#[]⟩,.int .u8 0,.int .i64 0,.int .i64 0] 76 (0,0))::F) l1 fun x hx=>.tail _ hx)
    refine⟨_,rfl,_,rfl,_,hp1.rd.field (o:=0) rfl,_,hp1.rd.field (o:=6) rfl,cU.ret (mc hs h0 h1 ht I1 _) fun I2 l2=>⟨_,rfl,F,.refl _,fun b1 b2=>?_⟩⟩
    exact da.tail (F:=F) ⟨b2,_,_,[],rfl,⟨b1,rfl,rfl⟩,.refl _⟩ hF
   ·rcases he with rfl | rfl | rfl<;>exact absurd h (by decide)
   ·rcases he with rfl | rfl | rfl<;>exact absurd h (by decide)
 ·refine cU.ret (my hshort I _) fun I1 l1=>?_
  rw[hnx]
  rcases gh h0 h1 with ⟨k',ht,_⟩ | ⟨e,ht,he⟩
  ·rw[ht]
   refine⟨_,_,_,_,_,_,_,rfl,_,.refl _,⟨fun h=>absurd h (by decide),fun _=>⟨_,rfl,DA t k f,143,F0,hF,rfl,by rw[dv];exact (by decide:1+5≤7),_,rfl,_,143,F0,.refl _,rfl,by rw[dv,dv];exact (by decide:6+1≤7),rfl, ?_⟩⟩⟩
   rw[hst k'];exact .refl _
  ·rw[ht]
   refine⟨_,_,_,_,_,_,_,rfl,_,.refl _,⟨fun _=>⟨fun _=>?_,fun h=>?_⟩,fun h=>?_⟩⟩
   ·have hp1:=(hp.mono (J:=I1) (H:=(b_t,Obj.cells #[.int .u8 0,.string ⟨#[]⟩,.int .u8 0,.int .i64 0,.int .i64 0] 76 (0,0))::F) l1 fun x hx=>.tail _ hx)
    refine⟨_,rfl,_,rfl,_,hp1.rd.field (o:=0) rfl,_,hp1.rd.field (o:=6) rfl,cU.ret (mc hs h0 h1 ht I1 _) fun I2 l2=>⟨_,rfl,F,.refl _,fun b1 b2=>?_⟩⟩
    exact da.tail (F:=F) ⟨b2,_,_,[],rfl,⟨b1,rfl,rfl⟩,.refl _⟩ hF
   ·rcases he with rfl | rfl | rfl<;>exact absurd h (by decide)
   ·rcases he with rfl | rfl | rfl<;>exact absurd h (by decide)
theorem Ay{I:cS}{F F0:cR}{t:ByteArray}(hs:4096<(t.size:Int))(hs2:dt t){b:Nat}{k:Tok}{f:Int}(hF:F.Perm (pX t b k f::F0)) :
  cU P 64 #[.pointer (some ⟨b,0,none⟩)] I F fun e' I' G=>da ⟨110,0,true⟩ F0 e' G:=by
 have hp:=dJ.of (I:=I) hF
 refine dZ.vc ?_
 unfold dZ.V
 have hnx:tq t f=.tuple #[(jn 0).v,.int .i64 0,.int .i64 110]:=by unfold tq;rw[if_pos (by omega)]
 refine⟨_,rfl,_,rfl,_,hp.rd.field (o:=0) rfl,_,hp.rd.field (o:=6) rfl, ?_,fun b_t=>?_⟩
 ·refine cU.ret (my hs2 I _) fun I1 l1=>?_
  rw[hnx]
  exact⟨_,_,_,_,_,_,_,rfl,_,.refl _,fun b_t=>⟨fun _=>⟨fun h=>absurd h (by decide),fun _ b1 b2=>da.tail (F:=F) ⟨b2,_,_,[],rfl,⟨b1,rfl,rfl⟩,.refl _⟩ hF⟩,fun h=>absurd h (by decide)⟩⟩
 ·refine cU.ret (my hs2 I _) fun I1 l1=>?_
  rw[hnx]
  exact⟨_,_,_,_,_,_,_,rfl,_,.refl _,⟨fun _=>⟨fun h=>absurd h (by decide),fun _ b1 b2=>da.tail (F:=F) ⟨b2,_,_,[],rfl,⟨b1,rfl,rfl⟩,.refl _⟩ hF⟩,fun h=>absurd h (by decide)⟩⟩
def v8(v:ByteArray):List ByteArray→Int→Int
 | [],_=>-1
 | w::r,i=>if v.toList==w.toList then i else v8 v r (i+1)
theorem rW{c:PC}{s:PS}(hk:(c.now s).kind=1∨(c.now s).kind=4):∀(ws:List ByteArray) (i:Int),c.iw s ws i=v8 (c.now s).text ws i
 | [],i=>rfl
 | w::r,i=>by
   rw[PC.iw,v8,rW hk r]
   have:c.eC w s=((c.now s).text.toList==w.toList):=by
    unfold PC.eC
    rcases hk with h | h<;>rw[h]<;>simp
   rw[this]
theorem any_none{c:PC}{s:PS}(h1:(c.now s).kind≠1)(h4:(c.now s).kind≠4):∀(ws:List ByteArray) (i:Int),c.iw s ws i = -1
 | [],i=>rfl
 | w::r,i=>by
   have:c.eC w s=false:=by unfold PC.eC;simp[h1,h4]
   rw[PC.iw,this,if_neg (by simp),any_none h1 h4 r]
theorem rX{v:ByteArray}{a:Option Addr}{n k:Nat}{ws:List ByteArray}{I:cS}(hS:Sl I 1 iS a n ws)(hl:n≤100)(F:cR):cU P 125 #[.slice a n k,.string v] I F (jS (.int .i64 (v8 v ws 0)) F):=by
 have hn:=hS.1
 refine jt.vc (fun x i m I' F'=>F'=F∧0≤i∧i≤n∧m=(n-i).toNat∧v8 v ws 0=v8 v (ws.drop i.toNat) i) ?_
 unfold jt.V
 refine⟨⟨_,rfl,by omega,by omega,rfl,rfl⟩,fun x i m1 I1 F1 l1 ⟨gF,g0,g1,gm,ge⟩=>⟨fun hlt=>?_,fun hlt=>⟨?_,gF⟩⟩⟩
 ·subst gF
  have hlt:=of_decide_eq_true hlt
  obtain⟨ad,w,ha,hw,hr⟩:=(hS.mono l1).at g0 hlt
  obtain⟨hk,rfl⟩:=List.getElem?_eq_some_iff.1 hw
  rw[List.drop_eq_getElem_cons hk,v8] at ge
  refine⟨⟨g0,hlt⟩,ad,ha,_,hr _,fun h=>⟨?_,rfl⟩,fun h=>⟨(n-(i+1)).toNat,by omega,rfl, ?_⟩⟩
  ·rw[ge,if_pos h]
  ·rw[ef (n:=i+1) (by omega)]
   refine⟨by omega,by omega,rfl, ?_⟩
   rw[ge,if_neg (by simp[h]),show (i+1).toNat=i.toNat+1 by omega]
 ·have hlt:=of_decide_eq_false hlt
  rw[ge,List.drop_eq_nil_of_le (by omega),v8]
section
variable {c:PC} {t:ByteArray} {s:PS} {b:Nat} {I:cS} {F F0:cR}
theorem oL(hl:c.Live s)(hp:dJ I F t b (c.tok s.next) (iP (c.tok s.next)))(w:ByteArray):cU P 91 #[.pointer (some ⟨b,0,none⟩),.string w] I F (jS (.bool (c.eC w s)) F):=by
 refine g9.vc ?_
 unfold g9.V
 have hn:=hl.now
 refine⟨_,rfl,_,hp.rd.du (p:=1) (q:=0) rfl,fun h=>⟨_,rfl,_,hp.rd.du (p:=1) (q:=1) rfl, ?_,rfl⟩,fun h=>⟨_,rfl,_,hp.rd.du (p:=1) (q:=0) rfl,fun h2=>⟨_,rfl,_,hp.rd.du (p:=1) (q:=1) rfl, ?_,rfl⟩,fun h2=>⟨?_,rfl⟩⟩⟩ <;>
  unfold PC.eC<;>rw[hn]<;>simp_all
theorem gU(hl:c.Live s)(hp:dJ I F t b (c.tok s.next) (iP (c.tok s.next))){a:Option Addr}{n k:Nat}{ws:List ByteArray}(hS:Sl I 1 iS a n ws)(hn:n≤100) :
  cU P 104 #[.pointer (some ⟨b,0,none⟩),.slice a n k] I F (jS (.int .i64 (c.any ws s)) F):=by
 refine fA.vc ?_
 unfold fA.V
 have hw:=hl.now
 refine⟨_,rfl,_,hp.rd.du (p:=1) (q:=0) rfl,fun h=>⟨_,rfl,_,hp.rd.du (p:=1) (q:=0) rfl,fun h2=>⟨?_,rfl⟩,fun h2=>⟨_,rfl,_,hp.rd.du (p:=1) (q:=1) rfl,cU.ret (rX hS hn F) fun I1 l1=>⟨_,rfl,F,.refl _, ?_,rfl⟩⟩⟩,fun h=>⟨_,rfl,_,hp.rd.du (p:=1) (q:=1) rfl,cU.ret (rX hS hn F) fun I1 l1=>⟨_,rfl,F,.refl _, ?_,rfl⟩⟩⟩
 ·unfold PC.any;rw[any_none (by rw[hw];simpa using h) (by rw[hw];simpa using h2)]
 ·unfold PC.any;rw[rW (.inr (by rw[hw];simpa using h2)),hw]
 ·unfold PC.any;rw[rW (.inl (by rw[hw];simpa using h)),hw]
def PC.oneOf(c:PC)(ws:List ByteArray)(s:PS):Int×PS:=(c.any ws s,if c.any ws s<0 then c.c8 130 s else s.inc)
theorem nP(c:PC)(w:ByteArray)(s:PS):(c.take w s).2=(c.oneOf [w] s).2:=by
 unfold PC.take PC.oneOf PC.any PC.iw PC.iw
 split
 ·rw[if_neg (by decide)]
 ·rw[if_pos (by decide)]
theorem gV{ws:List ByteArray}(hl:c.Live s)(h:0≤c.any ws s):(c.tok s.next).kind≠0:=fun hk=>by
 have:c.any ws s = -1:=any_none (by rw[hl.now,hk];decide) (by rw[hl.now,hk];decide) ws 0
 omega
theorem dM(hc:c.Of t)(hl:c.Live s)(hk:(c.tok s.next).kind≠0)(hF:F.Perm (c.px t b s::F0)):cU P 64 #[.pointer (some ⟨b,0,none⟩)] I F (c7 c t b D8 F0 ((),s.inc)):=by
 have hfr:lL c.l 0 (s.next+1)=iP (c.tok s.next):=rfl
 have hr:=hc.Dz (i:=s.next+1) hl.2
 rw[hfr] at hr
 refine (yv hc.len hr.1 hr.2 hF).mono fun e I' G l h=>?_
 rcases hc.next hl.2 hk with h1 | ⟨h1,h2,h3⟩
 ·have ht:=hc.tk h1
  rw[hfr] at ht
  rw[ht] at h
  exact .inl ⟨⟨hl.1,h1⟩,_,[],h.1,⟨rfl,rfl⟩,h.2⟩
 ·rw[hfr] at h3
  rw[h3] at h
  rcases hl.inc hc hk with g | ⟨_,g⟩
  ·have:=g.2
   have h9:s.inc.next=s.next+1:=rfl
   omega
  ·exact .inr ⟨_,g,h⟩
theorem pj(hc:c.Of t)(hl:c.Live s){a:Option Addr}{n k:Nat}{ws:List ByteArray}(hS:Sl I 1 iS a n ws)(hn:n≤100)(hF:F.Perm (c.px t b s::F0)) :
  cU P 66 #[.pointer (some ⟨b,0,none⟩),.slice a n k] I F (c7 c t b D9 F0 (c.oneOf ws s)):=by
 refine gE.vc ?_
 unfold gE.V
 refine cU.ret (gU hl (.of hF) hS hn) fun I1 l1=>⟨_,rfl,F,.refl _,fun h=>?_,fun h=>?_⟩
 ·have h:=of_decide_eq_true h
  refine (eV (.of hF) 130).mono fun e I2 G l2 hf=>.inr ?_
  refine da.pass hf fun e' hf'=>.inr ⟨_, ?_,hf'.tail hF⟩
  show c.dH _ (if c.any ws s<0 then c.c8 130 s else s.inc)
  rw[if_pos h];exact (hl.c8 (by decide)).2
 ·have h:=of_decide_eq_false h
  have hk:=gV (ws:=ws) hl (by omega)
  have e2:(c.oneOf ws s).2=s.inc:=if_neg h
  refine c7.use (dM hc hl hk hF) (fun v H I2 G l2 hL hv hG=>.inl ?_) fun f e I2 G l2 hd hf=>.inr ?_
  ·obtain⟨rfl,rfl⟩:=hv
   exact⟨rfl,G,.refl _,.inl ⟨by rw[e2];exact hL,_,[],rfl,⟨rfl,rfl⟩,by rw[e2];exact hG⟩⟩
  ·exact da.pass hf fun e' hf'=>.inr ⟨f,by rw[e2];exact hd,hf'⟩
theorem iX(hc:c.Of t)(hl:c.Live s)(hF:F.Perm (c.px t b s::F0)):cU P 67 #[.pointer (some ⟨b,0,none⟩)] I F (c7 c t b Ea F0 (c.name s)):=by
 have hp:=dJ.of (I:=I) hF
 have hw:=hl.now
 refine fS.vc ?_
 unfold fS.V
 refine⟨_,rfl,_,hp.rd.du (p:=1) (q:=1) rfl,_,rfl,_,hp.rd.du (p:=1) (q:=0) rfl,fun h=>?_,fun h=>?_⟩
 ·have h:(c.tok s.next).kind≠2:=by simpa using h
  refine (eV hp 130).mono fun e I2 G l2 hf=>.inr ?_
  refine da.pass hf fun e' hf'=>.inr ⟨_, ?_,hf'.tail hF⟩
  unfold PC.name
  rw[hw,if_neg h];exact (hl.c8 (by decide)).2
 ·have h:(c.tok s.next).kind=2:=by simpa using h
  have e1:c.name s=((c.tok s.next).text,s.inc):=by unfold PC.name;rw[hw,if_pos h]
  rw[e1]
  refine c7.use (dM hc hl (by rw[h];decide) hF) (fun v H I2 G l2 hL hv hG=>.inl ?_) fun f e I2 G l2 hd hf=>.inr ?_
  ·obtain⟨rfl,rfl⟩:=hv
   exact⟨rfl,G,.refl _,.inl ⟨hL,_,[],rfl,⟨rfl,rfl⟩,hG⟩⟩
  ·exact da.pass hf fun e' hf'=>.inr ⟨f,hd,hf'⟩
theorem mG{k:Tok}{f:Int}(hp:dJ I F t b k f){d:Int}(h0:0≤d)(h1:d≤24):cU P 92 #[.pointer (some ⟨b,0,none⟩),.int .i64 d] I F fun e I' G=>(d<24∧e=.returned (.int .i64 (d+1))∧G=F)∨(d=24∧da ⟨132,k.pos,false⟩ F e G):=by
 refine fe.vc ?_
 unfold fe.V
 rw[ef (n:=d+1) (by omega)]
 refine⟨fun h=>?_,fun h=>.inl ⟨?_,rfl,rfl⟩⟩
 ·have h:d=24:=by simpa using h
  refine (eV hp 132).mono fun e I2 G l2 hf=>.inr ?_
  exact da.pass (I:=I2) (Q:=fun e I' G=>(d<24∧e=.returned (.int .i64 (d+1))∧G=F)∨(d=24∧da ⟨132,k.pos,false⟩ F e G)) hf fun e' hf'=>.inr ⟨h,hf'⟩
 ·have h:d≠24:=by simpa using h
  omega
def qj(l:Int):List ByteArray:=if l=2 then AP else if l=3 then sK else if l=4 then ku else if l=5 then sJ else rL
def zo(l:Int):Int:=if l=2 then 18 else if l=3 then 17 else if l=4 then 11 else if l=5 then 6 else 8
theorem v9(l:Int)(I:cS)(F:cR):cU P 115 #[.int .i64 l] I F fun e I' G=>∃(a:Option Addr) (n k:Nat),e=.returned (.tuple #[.slice a n k,.int .u8 (zo l)])∧Sl I' 1 iS a n (qj l)∧n≤100∧G=F:=by
 refine kh.vc ?_
 unfold kh.V
 have key:∀{b:Nat} {I1:cS} {ws:List ByteArray} {cs:Array Value},I1 b=some (.cells cs 9 (0,0))→cs.toList=ws.flatMap iS→Sl I1 1 iS (some ⟨b,0,none⟩) ws.length ws:=fun hb hc=>Sl.gQ (f:=iS) (z:=1) (fun _=>rfl) hb hc
 refine⟨fun h=>fun b I1 l1 hb=>?_,fun h2=>⟨fun h=>fun b I1 l1 hb=>?_,fun h3=>⟨fun h=>fun b I1 l1 hb=>?_,fun h4=>⟨fun h=>fun b I1 l1 hb=>?_,fun h5=>fun b I1 l1 hb=>?_⟩⟩⟩⟩
 ·have h:l=2:=by simpa using h
  subst h
  exact⟨_,_,_,rfl,key (ws:=AP) hb rfl,by decide,rfl⟩
 ·have h:l=3:=by simpa using h
  subst h
  exact⟨_,_,_,rfl,key (ws:=sK) hb rfl,by decide,rfl⟩
 ·have h:l=4:=by simpa using h
  subst h
  exact⟨_,_,_,rfl,key (ws:=ku) hb rfl,by decide,rfl⟩
 ·have h:l=5:=by simpa using h
  subst h
  exact⟨_,_,_,rfl,key (ws:=sJ) hb rfl,by decide,rfl⟩
 ·have e2:l≠2:=by simpa using h2
  have e3:l≠3:=by simpa using h3
  have e4:l≠4:=by simpa using h4
  have e5:l≠5:=by simpa using h5
  have hO:zo l=8:=by unfold zo;rw[if_neg e2,if_neg e3,if_neg e4,if_neg e5]
  have hW:qj l=rL:=by unfold qj;rw[if_neg e2,if_neg e3,if_neg e4,if_neg e5]
  rw[hO,hW]
  exact⟨_,_,_,rfl,key (ws:=rL) hb rfl,by decide,rfl⟩
end
end Go.Lx
namespace Go.Lx
open Go.Vc
theorem zp{t:ByteArray}{f:Int}{k:Tok}(h0:0≤f)(h1:f≤t.size)(h:gK t f=.ok k)(hk:k.kind=4):fZ (bt k.text 0)=false:=by
 have ho:=il (s:=t) h1
 unfold gK at h
 simp only at h
 split at h
 ·have:=TR.ok.inj h
  subst this
  exact absurd hk (by show ¬(0:Int)=4;decide)
 ·rename_i hne
  split at h
  ·obtain⟨E,e2,_,_,_,rfl⟩:=Bj h
   exact absurd hk (by show ¬(3:Int)=4;decide)
  ·split at h
   ·unfold j2 at h
    simp only at h
    split at h
    ·cases h
    ·have:=TR.ok.inj h
     subst this
     simp only at hk
     split at hk<;>omega
   ·rename_i hs
    unfold j3 at h
    split at h
    ·cases h
    ·rename_i hm
     have:=TR.ok.inj h
     subst this
     have hr:=j8 t (dj t f)
     have hl:=oC (s:=t) (i:=dj t f) (by omega)
     show fZ (bt (cut t (dj t f) (dj t f+fj t (dj t f))) 0)=false
     rw[lY (by omega) (Int.le_refl 0) (by omega) (by omega),Int.add_zero]
     simpa using hs
theorem xB{x w:ByteArray}(h:fZ (bt x 0)=false)(hw:fZ (bt w 0)=true):(x.toList==w.toList)=false:=by
 rw[Bool.eq_false_iff]
 intro he
 have he:x.toList=w.toList:=by simpa using he
 have:x=w:=BK he
 rw[this,hw] at h;cases h
theorem uD{x y:List UInt8}(h:(x==y)=false):x≠y:=fun e=>by rw[e] at h;simp at h
def lD:List ByteArray:=[(⟨#[102,97,108,115,101]⟩:ByteArray),(⟨#[116,114,117,101]⟩:ByteArray),(⟨#[98,117,121]⟩:ByteArray),(⟨#[115,101,108,108]⟩:ByteArray)]
def CM(i:Int)(pos:Int):Px:=if i>1 then rK 6 (i-1) pos else rK 5 i pos
section
variable {c:PC} {t:ByteArray} {s:PS}
theorem uE(hl:c.Live s)(h:(c.tok s.next).kind=3):c.literal s=((rK (c.tok s.next).fL (c.tok s.next).n (c.tok s.next).pos,true),s.inc):=by
 unfold PC.literal;rw[hl.now,if_pos h]
theorem yw(hc:c.Of t)(hl:c.Live s)(h:(c.tok s.next).kind≠3):c.literal s=if c.any lD s<0 then ((fG,false),s) else ((CM (c.any lD s) (c.tok s.next).pos,true),s.inc):=by
 have hn:=hl.now
 have hr:=hc.Dz (Nat.le_of_lt hl.2)
 have hmk:=fun hk=>zp hr.1 hr.2 (hc.tk hl.2) hk
 have hw:∀w∈lD,fZ (bt w 0)=true:=by decide
 have hi:∀w∈lD,c.eC w s=((c.tok s.next).text.toList==w.toList&&(c.tok s.next).kind==1):=fun w hwm=>by
  unfold PC.eC;rw[hn]
  by_cases h4:(c.tok s.next).kind=4
  ·rw[xB (hmk h4) (hw w hwm)];rfl
  ·have:((c.tok s.next).kind==4)=false:=by simpa using h4
   rw[this,Bool.or_false]
 have ea:c.any lD s=if (c.tok s.next).kind=1 then (if (c.tok s.next).text.toList=(⟨#[102,97,108,115,101]⟩:ByteArray).toList then 0 else if (c.tok s.next).text.toList=(⟨#[116,114,117,101]⟩:ByteArray).toList then 1 else if (c.tok s.next).text.toList=(⟨#[98,117,121]⟩:ByteArray).toList then 2 else if (c.tok s.next).text.toList=(⟨#[115,101,108,108]⟩:ByteArray).toList then 3 else -1) else -1:=by
  show c.iw s lD 0=_
  unfold lD
  rw[PC.iw,PC.iw,PC.iw,PC.iw,PC.iw,hi _ (.head _),hi _ (.tail _ (.head _)),hi _ (.tail _ (.tail _ (.head _))),hi _ (.tail _ (.tail _ (.tail _ (.head _))))]
  by_cases h1:(c.tok s.next).kind=1
  ·rw[if_pos h1]
   simp only[h1,Bool.and_eq_true,beq_iff_eq,and_true]
   rfl
  ·rw[if_neg h1]
   have:((c.tok s.next).kind==1)=false:=by simpa using h1
   simp only[this,Bool.and_false,Bool.false_eq_true,if_false]
 have d1:(⟨#[116,114,117,101]⟩:ByteArray).toList≠(⟨#[102,97,108,115,101]⟩:ByteArray).toList:=uD (by kernel_rfl)
 have d2:(⟨#[98,117,121]⟩:ByteArray).toList≠(⟨#[115,101,108,108]⟩:ByteArray).toList:=uD (by kernel_rfl)
 have d3:(⟨#[102,97,108,115,101]⟩:ByteArray).toList≠(⟨#[116,114,117,101]⟩:ByteArray).toList:=uD (by kernel_rfl)
 have d4:(⟨#[115,101,108,108]⟩:ByteArray).toList≠(⟨#[98,117,121]⟩:ByteArray).toList:=uD (by kernel_rfl)
 unfold PC.literal
 rw[hn,if_neg h,ea]
 generalize (c.tok s.next).text.toList=x
 by_cases h1:(c.tok s.next).kind=1
 ·rw[if_pos h1]
  by_cases x0:x=(⟨#[102,97,108,115,101]⟩:ByteArray).toList
  ·subst x0
   rw[if_pos rfl,if_pos ⟨h1,.inr rfl⟩,if_neg d3,if_neg (by decide)];rfl
  ·rw[if_neg x0]
   by_cases x1:x=(⟨#[116,114,117,101]⟩:ByteArray).toList
   ·subst x1
    rw[if_pos rfl,if_pos ⟨h1,.inl rfl⟩,if_pos rfl,if_neg (by decide)];rfl
   ·rw[if_neg x1,if_neg (by rintro ⟨_,h | h⟩;exact x1 h;exact x0 h)]
    by_cases x2:x=(⟨#[98,117,121]⟩:ByteArray).toList
    ·subst x2
     rw[if_pos rfl,if_pos ⟨h1,.inl rfl⟩,if_neg d2,if_neg x1,if_neg (by decide)];rfl
    ·rw[if_neg x2]
     by_cases x3:x=(⟨#[115,101,108,108]⟩:ByteArray).toList
     ·subst x3
      rw[if_pos rfl,if_pos ⟨h1,.inr rfl⟩,if_pos rfl,if_neg x1,if_neg (by decide)];rfl
     ·rw[if_neg (by rintro ⟨_,h | h⟩;exact x2 h;exact x3 h),if_neg x1,if_neg x3,if_pos (by decide)]
 ·rw[if_neg h1,if_neg (fun h=>h1 h.1),if_neg (fun h=>h1 h.1),if_pos (by decide)]
def Eb(x:Px×Bool)(v:Value)(H:cR):Prop:=∃n:Nd,v=.tuple #[n.v,.bool x.2]∧n.px=x.1∧dQ 64 false n H∧H=[]
theorem dQ.leaf{k o ty n f p:Int}{w:ByteArray}:dQ 64 false (.mk k o ty n f w none 0 [] p) [] :=
 .mk (t:=.mk k o ty n f w none 0 [] p) (hs:=fun _=>[]) Acc.nil (fun h=>by cases h) fun i k h=>by simp[Nd.kids] at h
theorem nQ(hc:c.Of t)(hl:c.Live s){b:Nat}{I:cS}{F F0:cR}(hF:F.Perm (c.px t b s::F0)):cU P 105 #[.pointer (some ⟨b,0,none⟩)] I F (c7 c t b Eb F0 (c.literal s)):=by
 have hp:=dJ.of (I:=I) hF
 refine eU.vc ?_
 unfold eU.V
 intro b0
 refine⟨_,rfl,_,(hp.mono (cS.le_refl I) fun x hx=>.tail _ hx).rd.du (p:=1) (q:=4) rfl,fun bn=>⟨_,rfl,_,(hp.mono (cS.le_refl I) fun x hx=>.tail _ (.tail _ hx)).rd.du (p:=1) (q:=0) rfl,fun h=>?_,fun h=>?_⟩⟩
 ·have h:(c.tok s.next).kind=3:=by simpa using h
  have e1:=uE hl h
  refine⟨_,rfl,_,(hp.mono (cS.le_refl I) fun x hx=>.tail _ (.tail _ hx)).rd.du (p:=1) (q:=2) rfl,_,rfl,_,hp.rd.du (p:=1) (q:=3) rfl, ?_⟩
  refine c7.use (dM hc hl (by rw[h];decide) (fI hF)) (fun v H I2 G l2 hL hv hG=>.inl ?_) fun f e I2 G l2 hd hf=>.inr ?_
  ·obtain⟨rfl,rfl⟩:=hv
   exact⟨rfl,c.px t b s.inc::F0,hG.trans (cV fun z=>by simp only[cW,cX,cZ];omega),.inl ⟨by rw[e1];exact hL,_,[],rfl,by rw[e1];exact⟨.mk 1 0 (c.tok s.next).fL (c.tok s.next).n 0 ⟨#[]⟩ none 0 [] (c.tok s.next).pos,rfl,by simp only[Nd.px,Nd.qd];rfl,dQ.leaf,rfl⟩,by rw[e1];exact .refl _⟩⟩
  ·exact da.dq [_,_] hf fun e' G' hf'=>.inr ⟨f,by rw[e1];exact hd,hf'⟩
 ·have h:(c.tok s.next).kind≠3:=by simpa using h
  have e1:=yw hc hl h
  intro b1 I2 l2 hb1
  have hS:Sl I2 1 iS (some ⟨b1,0,none⟩) 4 lD:=Sl.gQ (f:=iS) (z:=1) (l:=lD) (fun _=>rfl) hb1 rfl
  refine cU.ret (gU hl (hp.mono l2 fun x hx=>.tail _ (.tail _ hx)) hS (by decide)) fun I3 l3=>⟨_,rfl,F,.refl _,fun hi=>?_,fun hi=>?_⟩
  ·have hi:=of_decide_eq_true hi
   rw[if_pos hi] at e1
   exact .inl ⟨by rw[e1];exact hl,_,[],rfl,by rw[e1];exact⟨jR,rfl,by simp only[jR,Nd.px,Nd.qd];rfl,dQ.leaf,rfl⟩,by rw[e1];exact hF⟩
  ·have hi:=of_decide_eq_false hi
   rw[if_neg hi] at e1
   have hk:=gV (ws:=lD) hl (by omega)
   have hlt:=(dX (c:=c) (s:=s) (ws:=lD) (by omega)).2
   have hlt:c.any lD s<4:=hlt
   refine⟨fun h2=>?_,fun h2=>?_⟩
   ·have h2:=of_decide_eq_true h2
    rw[ef (n:=c.any lD s-1) (by omega)]
    have e3:CM (c.any lD s) (c.tok s.next).pos=rK 6 (c.any lD s-1) (c.tok s.next).pos:=if_pos h2
    refine c7.use (dM hc hl hk (fI hF)) (fun v H I4 G l4 hL hv hG=>.inl ?_) fun f e I4 G l4 hd hf=>.inr ?_
    ·obtain⟨rfl,rfl⟩:=hv
     exact⟨rfl,c.px t b s.inc::F0,hG.trans (cV fun z=>by simp only[cW,cX,cZ];omega),.inl ⟨by rw[e1];exact hL,_,[],rfl,by rw[e1,e3];exact⟨.mk 1 0 6 (c.any lD s-1) 0 ⟨#[]⟩ none 0 [] (c.tok s.next).pos,rfl,by simp only[Nd.px,Nd.qd];rfl,dQ.leaf,rfl⟩,by rw[e1];exact .refl _⟩⟩
    ·exact da.dq [_,_] hf fun e' G' hf'=>.inr ⟨f,by rw[e1];exact hd,hf'⟩
   ·have h2:=of_decide_eq_false h2
    have e3:CM (c.any lD s) (c.tok s.next).pos=rK 5 (c.any lD s) (c.tok s.next).pos:=if_neg h2
    refine c7.use (dM hc hl hk (fI hF)) (fun v H I4 G l4 hL hv hG=>.inl ?_) fun f e I4 G l4 hd hf=>.inr ?_
    ·obtain⟨rfl,rfl⟩:=hv
     exact⟨rfl,c.px t b s.inc::F0,hG.trans (cV fun z=>by simp only[cW,cX,cZ];omega),.inl ⟨by rw[e1];exact hL,_,[],rfl,by rw[e1,e3];exact⟨.mk 1 0 5 (c.any lD s) 0 ⟨#[]⟩ none 0 [] (c.tok s.next).pos,rfl,by simp only[Nd.px,Nd.qd];rfl,dQ.leaf,rfl⟩,by rw[e1];exact .refl _⟩⟩
    ·exact da.dq [_,_] hf fun e' G' hf'=>.inr ⟨f,by rw[e1];exact hd,hf'⟩
end
end Go.Lx
namespace Go.Lx
open Go.Vc Go.Proofs.Tryz
def pk:List (Nat×List Sh):=[(0,[]),(3,[.one (.int .i64)]),(4,[.one .bool]),(9,[.one .str]),(62,[.one .slc]),(64,[.agg [(.int .u8),(.int .u8),(.int .u8),(.int .i64),(.int .u8),.str,.slc,(.int .i64)]]),(74,[.one (.int .u8)]),(92,[.one .ptr]),(208,[.agg [(.int .u8),(.int .u8),(.int .u8),(.int .i64),(.int .u8),.str,.slc,(.int .i64)],.one .bool]),(219,[.one .slc,.one (.int .u8)])]
def gG.V(al ah:Nat→Nat×Obj)(nV:Int→Int→Int→Int→Int→Bs→OA→Nat→Nat→Int→Value)(nO:Int→Int→Int→Int→Int→Bs→OA→Nat→Nat→Int→Obj)(vb vi:Int→Value)(vs:Bs→Value)(vl:OA→Nat→Nat→Value)(vp:OA→Value)(wr:Int→Int)(p:Addr)(aj d:Int)(I:cS)(F:cR)(Q:cT)(Inv18:Int→OA→Int→Int→Int→Int→Int→Int→Bs→OA→Nat→Nat→Int→Nat→cS→cR→Prop):Prop:=∀w:Nat,∀a:Nat,∀b:Nat,(Dt (aj<6) (gO P 115 #[vi aj] I ((al w)::(ah a)::(b,nO 0 0 0 0 0 (⟨#[]⟩:Bs) none 0 0 0)::·) F fun e1 I1 G1=>∃(aJ:OA) (aK aL:Nat) (r1:Int),e1=.returned (.tuple #[vl aJ aK aL,vb r1])∧G1 fun F1=>cU P 114 (#[vi d,vp (some ⟨w,0,none⟩),vp (some ⟨a,0,none⟩)]) I1 ((al w)::(ah a)::(b,nO 0 0 0 0 0 (⟨#[]⟩:Bs) none 0 0 0)::F1) fun e2 I2 G2=>((∃(br bs bt bu bv:Int) (bw:Bs) (aM:OA) (aN aO:Nat) (bx:Int),e2=.returned (nV br bs bt bu bv bw aM aN aO bx)∧∃(aP:OA) (am:Int),∃F2:cR,List.Perm G2 ((w,Obj.cells #[vp aP] 92 (0,0))::(a,Obj.cells #[vi am] 3 (0,0))::(b,nO 0 0 0 0 0 (⟨#[]⟩:Bs) none 0 0 0)::F2)∧∀ai:Nat,(∃m:Nat,Inv18 0 aP am br bs bt bu bv bw aM aN aO bx m I2 F2)∧∀(an:Int) (x:OA) (e y z aa ab ac:Int) (ae:Bs) (i:OA) (j k:Nat) (af:Int) (m1:Nat) (I3:cS) (F3:cR),cS.le I2 I3→Inv18 an x e y z aa ab ac ae i j k af m1 I3 F3→(It (e != 4) (eZ P 104 #[vp x,vl aJ aK aL] I3 ((w,Obj.cells #[vp x] 92 (0,0))::(a,Obj.cells #[vi e] 3 (0,0))::(b,nO 0 0 0 0 0 (⟨#[]⟩:Bs) none 0 0 0)::(ai,nO y z aa ab ac ae i j k af)::·) F3 vi fun r I4 F4=>(Dt (r<0) (Q (.returned (nV y z aa ab ac ae i j k af)) I4 F4) (∃ad:Addr,x=some ad∧∃(m2:Int),Rd I4 ((w,Obj.cells #[vp x] 92 (0,0))::(a,Obj.cells #[vi e] 3 (0,0))::(b,nO 0 0 0 0 0 (⟨#[]⟩:Bs) none 0 0 0)::(ai,nO y z aa ab ac ae i j k af)::F4) ((ad.add 1).add 4) [vi m2]∧cU P 64 #[vp x] I4 ((w,Obj.cells #[vp x] 92 (0,0))::(a,Obj.cells #[vi e] 3 (0,0))::(b,nO 0 0 0 0 0 (⟨#[]⟩:Bs) none 0 0 0)::(ai,nO y z aa ab ac ae i j k af)::F4) fun e4 I5 G4=>((e4=.returned (.tuple #[])∧∃F5:cR,List.Perm G4 ((w,Obj.cells #[vp x] 92 (0,0))::(a,Obj.cells #[vi e] 3 (0,0))::(b,nO 0 0 0 0 0 (⟨#[]⟩:Bs) none 0 0 0)::(ai,nO y z aa ab ac ae i j k af)::F5)∧cU P 114 (#[vi d,vp (some ⟨w,0,none⟩),vp (some ⟨a,0,none⟩)]) I5 ((w,Obj.cells #[vp x] 92 (0,0))::(a,Obj.cells #[vi e] 3 (0,0))::(b,nO 0 0 0 0 0 (⟨#[]⟩:Bs) none 0 0 0)::(ai,nO y z aa ab ac ae i j k af)::F5) fun e5 I6 G5=>((∃(aQ aR aS aT aU:Int) (aV:Bs) (au:OA) (av aw:Nat) (aW:Int),e5=.returned (nV aQ aR aS aT aU aV au av aw aW)∧∃F6:cR,List.Perm G5 ((w,Obj.cells #[vp x] 92 (0,0))::(a,Obj.cells #[vi e] 3 (0,0))::(b,nO 0 0 0 0 0 (⟨#[]⟩:Bs) none 0 0 0)::(ai,nO y z aa ab ac ae i j k af)::F6)∧∀b1:Nat,(∃m3:Nat,m3<m1∧Inv18 (wr (an+1)) x e 6 (IntKind.wrap .u8 (r1+(IntKind.wrap .u8 r))) 0 0 0 (⟨#[]⟩:Bs) (some ⟨b1,0,none⟩) 2 2 m2 m3 I6 ((b1,Obj.cells #[vb y,vb z,vb aa,vi ab,vb ac,vs ae,vl i j k,vi af,vb aQ,vb aR,vb aS,vi aT,vb aU,vs aV,vl au av aw,vi aW] 64 (0,0))::F6)))∨(∃ch:List PanicEntry,e5=.panicked ch∧∃F7:cR,List.Perm G5 ((w,Obj.cells #[vp x] 92 (0,0))::(a,Obj.cells #[vi e] 3 (0,0))::(b,nO 0 0 0 0 0 (⟨#[]⟩:Bs) none 0 0 0)::(ai,nO y z aa ab ac ae i j k af)::F7)∧Q (.panicked ch) I6 F7)))∨(∃bA:List PanicEntry,e4=.panicked bA∧∃F8:cR,List.Perm G4 ((w,Obj.cells #[vp x] 92 (0,0))::(a,Obj.cells #[vi e] 3 (0,0))::(b,nO 0 0 0 0 0 (⟨#[]⟩:Bs) none 0 0 0)::(ai,nO y z aa ab ac ae i j k af)::F8)∧Q (.panicked bA) I5 F8))))) (It (an==0) (eZ P 104 #[vp x,vl aJ aK aL] I3 ((w,Obj.cells #[vp x] 92 (0,0))::(a,Obj.cells #[vi e] 3 (0,0))::(b,nO 0 0 0 0 0 (⟨#[]⟩:Bs) none 0 0 0)::(ai,nO y z aa ab ac ae i j k af)::·) F3 vi fun r2 I7 F9=>(Dt (r2<0) (Q (.returned (nV y z aa ab ac ae i j k af)) I7 F9) (∃bB:Addr,x=some bB∧∃(m4:Int),Rd I7 ((w,Obj.cells #[vp x] 92 (0,0))::(a,Obj.cells #[vi e] 3 (0,0))::(b,nO 0 0 0 0 0 (⟨#[]⟩:Bs) none 0 0 0)::(ai,nO y z aa ab ac ae i j k af)::F9) ((bB.add 1).add 4) [vi m4]∧cU P 64 #[vp x] I7 ((w,Obj.cells #[vp x] 92 (0,0))::(a,Obj.cells #[vi e] 3 (0,0))::(b,nO 0 0 0 0 0 (⟨#[]⟩:Bs) none 0 0 0)::(ai,nO y z aa ab ac ae i j k af)::F9) fun e7 I8 G7=>((e7=.returned (.tuple #[])∧∃F10:cR,List.Perm G7 ((w,Obj.cells #[vp x] 92 (0,0))::(a,Obj.cells #[vi e] 3 (0,0))::(b,nO 0 0 0 0 0 (⟨#[]⟩:Bs) none 0 0 0)::(ai,nO y z aa ab ac ae i j k af)::F10)∧cU P 114 (#[vi d,vp (some ⟨w,0,none⟩),vp (some ⟨a,0,none⟩)]) I8 ((w,Obj.cells #[vp x] 92 (0,0))::(a,Obj.cells #[vi e] 3 (0,0))::(b,nO 0 0 0 0 0 (⟨#[]⟩:Bs) none 0 0 0)::(ai,nO y z aa ab ac ae i j k af)::F10) fun e8 I9 G8=>((∃(aX aY aZ a0 a1:Int) (a2:Bs) (ax:OA) (ay az:Nat) (a3:Int),e8=.returned (nV aX aY aZ a0 a1 a2 ax ay az a3)∧∃F11:cR,List.Perm G8 ((w,Obj.cells #[vp x] 92 (0,0))::(a,Obj.cells #[vi e] 3 (0,0))::(b,nO 0 0 0 0 0 (⟨#[]⟩:Bs) none 0 0 0)::(ai,nO y z aa ab ac ae i j k af)::F11)∧∀b2:Nat,(∃m5:Nat,m5<m1∧Inv18 (wr (an+1)) x e 6 (IntKind.wrap .u8 (r1+(IntKind.wrap .u8 r2))) 0 0 0 (⟨#[]⟩:Bs) (some ⟨b2,0,none⟩) 2 2 m4 m5 I9 ((b2,Obj.cells #[vb y,vb z,vb aa,vi ab,vb ac,vs ae,vl i j k,vi af,vb aX,vb aY,vb aZ,vi a0,vb a1,vs a2,vl ax ay az,vi a3] 64 (0,0))::F11)))∨(∃bC:List PanicEntry,e8=.panicked bC∧∃F12:cR,List.Perm G8 ((w,Obj.cells #[vp x] 92 (0,0))::(a,Obj.cells #[vi e] 3 (0,0))::(b,nO 0 0 0 0 0 (⟨#[]⟩:Bs) none 0 0 0)::(ai,nO y z aa ab ac ae i j k af)::F12)∧Q (.panicked bC) I9 F12)))∨(∃bD:List PanicEntry,e7=.panicked bD∧∃F13:cR,List.Perm G7 ((w,Obj.cells #[vp x] 92 (0,0))::(a,Obj.cells #[vi e] 3 (0,0))::(b,nO 0 0 0 0 0 (⟨#[]⟩:Bs) none 0 0 0)::(ai,nO y z aa ab ac ae i j k af)::F13)∧Q (.panicked bD) I8 F13))))) (Q (.returned (nV y z aa ab ac ae i j k af)) I3 F3))))∨(∃bE:List PanicEntry,e2=.panicked bE∧∃(a4:OA) (ao:Int),∃F14:cR,List.Perm G2 ((w,Obj.cells #[vp a4] 92 (0,0))::(a,Obj.cells #[vi ao] 3 (0,0))::(b,nO 0 0 0 0 0 (⟨#[]⟩:Bs) none 0 0 0)::F14)∧Q (.panicked bE) I2 F14))) (gO P 115 #[vi aj] I ((al w)::(ah a)::(b,nO 0 0 0 0 0 (⟨#[]⟩:Bs) none 0 0 0)::·) F fun e9 I10 G9=>∃(ap:OA) (aq ar:Nat) (a5:Int),e9=.returned (.tuple #[vl ap aq ar,vb a5])∧G9 fun F15=>cU P 113 (#[vp (some p),vi d]) I10 ((al w)::(ah a)::(b,nO 0 0 0 0 0 (⟨#[]⟩:Bs) none 0 0 0)::F15) fun bN I11 G10=>((∃(a6 a7 a8 a9 ba:Int) (bb:Bs) (aA:OA) (aB aC:Nat) (bc:Int),bN=.returned (nV a6 a7 a8 a9 ba bb aA aB aC bc)∧∃F16:cR,List.Perm G10 ((al w)::(ah a)::(b,nO 0 0 0 0 0 (⟨#[]⟩:Bs) none 0 0 0)::F16)∧∀ag:Nat,(∃m6:Nat,Inv18 0 (some p) aj a6 a7 a8 a9 ba bb aA aB aC bc m6 I11 F16)∧∀(ak:Int) (l:OA) (c n o q s t:Int) (u:Bs) (f:OA) (g h:Nat) (v:Int) (m7:Nat) (I12:cS) (F17:cR),cS.le I11 I12→Inv18 ak l c n o q s t u f g h v m7 I12 F17→(It (c != 4) (eZ P 104 #[vp l,vl ap aq ar] I12 ((w,Obj.cells #[vp l] 92 (0,0))::(a,Obj.cells #[vi c] 3 (0,0))::(b,nO 0 0 0 0 0 (⟨#[]⟩:Bs) none 0 0 0)::(ag,nO n o q s t u f g h v)::·) F17 vi fun r3 I13 F18=>(Dt (r3<0) (Q (.returned (nV n o q s t u f g h v)) I13 F18) (∃bF:Addr,l=some bF∧∃(m8:Int),Rd I13 ((w,Obj.cells #[vp l] 92 (0,0))::(a,Obj.cells #[vi c] 3 (0,0))::(b,nO 0 0 0 0 0 (⟨#[]⟩:Bs) none 0 0 0)::(ag,nO n o q s t u f g h v)::F18) ((bF.add 1).add 4) [vi m8]∧cU P 64 #[vp l] I13 ((w,Obj.cells #[vp l] 92 (0,0))::(a,Obj.cells #[vi c] 3 (0,0))::(b,nO 0 0 0 0 0 (⟨#[]⟩:Bs) none 0 0 0)::(ag,nO n o q s t u f g h v)::F18) fun bO I14 G12=>((bO=.returned (.tuple #[])∧∃F19:cR,List.Perm G12 ((w,Obj.cells #[vp l] 92 (0,0))::(a,Obj.cells #[vi c] 3 (0,0))::(b,nO 0 0 0 0 0 (⟨#[]⟩:Bs) none 0 0 0)::(ag,nO n o q s t u f g h v)::F19)∧cU P 113 (#[vp (some p),vi d]) I14 ((w,Obj.cells #[vp l] 92 (0,0))::(a,Obj.cells #[vi c] 3 (0,0))::(b,nO 0 0 0 0 0 (⟨#[]⟩:Bs) none 0 0 0)::(ag,nO n o q s t u f g h v)::F19) fun bP I15 G13=>((∃(bd be bf bg bh:Int) (bi:Bs) (aD:OA) (aE aF:Nat) (bj:Int),bP=.returned (nV bd be bf bg bh bi aD aE aF bj)∧∃F20:cR,List.Perm G13 ((w,Obj.cells #[vp l] 92 (0,0))::(a,Obj.cells #[vi c] 3 (0,0))::(b,nO 0 0 0 0 0 (⟨#[]⟩:Bs) none 0 0 0)::(ag,nO n o q s t u f g h v)::F20)∧∀b3:Nat,(∃m9:Nat,m9<m7∧Inv18 (wr (ak+1)) l c 6 (IntKind.wrap .u8 (a5+(IntKind.wrap .u8 r3))) 0 0 0 (⟨#[]⟩:Bs) (some ⟨b3,0,none⟩) 2 2 m8 m9 I15 ((b3,Obj.cells #[vb n,vb o,vb q,vi s,vb t,vs u,vl f g h,vi v,vb bd,vb be,vb bf,vi bg,vb bh,vs bi,vl aD aE aF,vi bj] 64 (0,0))::F20)))∨(∃bG:List PanicEntry,bP=.panicked bG∧∃F21:cR,List.Perm G13 ((w,Obj.cells #[vp l] 92 (0,0))::(a,Obj.cells #[vi c] 3 (0,0))::(b,nO 0 0 0 0 0 (⟨#[]⟩:Bs) none 0 0 0)::(ag,nO n o q s t u f g h v)::F21)∧Q (.panicked bG) I15 F21)))∨(∃bH:List PanicEntry,bO=.panicked bH∧∃F22:cR,List.Perm G12 ((w,Obj.cells #[vp l] 92 (0,0))::(a,Obj.cells #[vi c] 3 (0,0))::(b,nO 0 0 0 0 0 (⟨#[]⟩:Bs) none 0 0 0)::(ag,nO n o q s t u f g h v)::F22)∧Q (.panicked bH) I14 F22))))) (It (ak==0) (eZ P 104 #[vp l,vl ap aq ar] I12 ((w,Obj.cells #[vp l] 92 (0,0))::(a,Obj.cells #[vi c] 3 (0,0))::(b,nO 0 0 0 0 0 (⟨#[]⟩:Bs) none 0 0 0)::(ag,nO n o q s t u f g h v)::·) F17 vi fun r4 I16 F23=>(Dt (r4<0) (Q (.returned (nV n o q s t u f g h v)) I16 F23) (∃bI:Addr,l=some bI∧∃(bz:Int),Rd I16 ((w,Obj.cells #[vp l] 92 (0,0))::(a,Obj.cells #[vi c] 3 (0,0))::(b,nO 0 0 0 0 0 (⟨#[]⟩:Bs) none 0 0 0)::(ag,nO n o q s t u f g h v)::F23) ((bI.add 1).add 4) [vi bz]∧cU P 64 #[vp l] I16 ((w,Obj.cells #[vp l] 92 (0,0))::(a,Obj.cells #[vi c] 3 (0,0))::(b,nO 0 0 0 0 0 (⟨#[]⟩:Bs) none 0 0 0)::(ag,nO n o q s t u f g h v)::F23) fun bQ I17 G15=>((bQ=.returned (.tuple #[])∧∃F24:cR,List.Perm G15 ((w,Obj.cells #[vp l] 92 (0,0))::(a,Obj.cells #[vi c] 3 (0,0))::(b,nO 0 0 0 0 0 (⟨#[]⟩:Bs) none 0 0 0)::(ag,nO n o q s t u f g h v)::F24)∧cU P 113 (#[vp (some p),vi d]) I17 ((w,Obj.cells #[vp l] 92 (0,0))::(a,Obj.cells #[vi c] 3 (0,0))::(b,nO 0 0 0 0 0 (⟨#[]⟩:Bs) none 0 0 0)::(ag,nO n o q s t u f g h v)::F24) fun bR I18 G16=>((∃(bk bl bm bn bo:Int) (bp:Bs) (aG:OA) (aH aI:Nat) (bq:Int),bR=.returned (nV bk bl bm bn bo bp aG aH aI bq)∧∃F25:cR,List.Perm G16 ((w,Obj.cells #[vp l] 92 (0,0))::(a,Obj.cells #[vi c] 3 (0,0))::(b,nO 0 0 0 0 0 (⟨#[]⟩:Bs) none 0 0 0)::(ag,nO n o q s t u f g h v)::F25)∧∀b4:Nat,(∃bJ:Nat,bJ<m7∧Inv18 (wr (ak+1)) l c 6 (IntKind.wrap .u8 (a5+(IntKind.wrap .u8 r4))) 0 0 0 (⟨#[]⟩:Bs) (some ⟨b4,0,none⟩) 2 2 bz bJ I18 ((b4,Obj.cells #[vb n,vb o,vb q,vi s,vb t,vs u,vl f g h,vi v,vb bk,vb bl,vb bm,vi bn,vb bo,vs bp,vl aG aH aI,vi bq] 64 (0,0))::F25)))∨(∃bK:List PanicEntry,bR=.panicked bK∧∃F26:cR,List.Perm G16 ((w,Obj.cells #[vp l] 92 (0,0))::(a,Obj.cells #[vi c] 3 (0,0))::(b,nO 0 0 0 0 0 (⟨#[]⟩:Bs) none 0 0 0)::(ag,nO n o q s t u f g h v)::F26)∧Q (.panicked bK) I18 F26)))∨(∃bL:List PanicEntry,bQ=.panicked bL∧∃F27:cR,List.Perm G15 ((w,Obj.cells #[vp l] 92 (0,0))::(a,Obj.cells #[vi c] 3 (0,0))::(b,nO 0 0 0 0 0 (⟨#[]⟩:Bs) none 0 0 0)::(ag,nO n o q s t u f g h v)::F27)∧Q (.panicked bL) I17 F27))))) (Q (.returned (nV n o q s t u f g h v)) I12 F17))))∨(∃bM:List PanicEntry,bN=.panicked bM∧∃F28:cR,List.Perm G10 ((al w)::(ah a)::(b,nO 0 0 0 0 0 (⟨#[]⟩:Bs) none 0 0 0)::F28)∧Q (.panicked bM) I11 F28))))
theorem gG.vc{p:Addr}{e d:Int}{I:cS}{F:cR}{Q:cT}(Inv18:Int→OA→Int→Int→Int→Int→Int→Int→Bs→OA→Nat→Nat→Int→Nat→cS→cR→Prop)(h:gG.V (fun b=>(b,Obj.cells #[.pointer (some p)] 92 (0,0))) (fun b=>(b,Obj.cells #[.int .i64 e] 3 (0,0))) (fun k o t n f s a l c q=>.agg #[.int .u8 k,.int .u8 o,.int .u8 t,.int .i64 n,.int .u8 f,.string s,.slice a l c,.int .i64 q]) (fun k o t n f s a l c q=>.cells #[.int .u8 k,.int .u8 o,.int .u8 t,.int .i64 n,.int .u8 f,.string s,.slice a l c,.int .i64 q] 64 (0,0)) (.int .u8) (.int .i64) .string .slice .pointer (IntKind.wrap .i64) p e d I F Q Inv18):cU P 90 #[.pointer (some p),.int .i64 e,.int .i64 d] I F Q :=
 tw (A:=(dr [2001,7001,7004,10001] [64,113,114] [64,104,113,114,115] pk [(18,⟨[(11,(.int .i64))],[(0,[.ptr]),(1,[(.int .i64)]),(3,[(.int .u8),(.int .u8),(.int .u8),(.int .i64),(.int .u8),.str,.slc,(.int .i64)])],fun _ _ _ vs m I F=>match vs with | [.int _ y0,.pointer y1,.int _ y2,.int _ y3,.int _ y4,.int _ y5,.int _ y6,.int _ y7,.string y8,.slice y9 y10 y11,.int _ y12]=>Inv18 y0 y1 y2 y3 y4 y5 y6 y7 y8 y9 y10 y11 y12 m I F | _=>False,[],[]⟩)] [] [13008] [] [] [(13,[0,1,2,3,5,6,9,4,7,8,10,11])] [] [] [(13,[4],11)])) [64,104,113,114,115] func90 h
def fB.V(nV:Int→Int→Int→Int→Int→Bs→OA→Nat→Nat→Int→Value)(nO:Int→Int→Int→Int→Int→Bs→OA→Nat→Nat→Int→Obj)(d:Int)(c c1:Addr)(I:cS)(F:cR)(Q:cT)  : Prop:=∀b:Nat,∃(m:OA),Rd I ((b,nO 0 0 0 0 0 (⟨#[]⟩:Bs) none 0 0 0)::F) c [.pointer m]∧∃(m1:Int),Rd I ((b,nO 0 0 0 0 0 (⟨#[]⟩:Bs) none 0 0 0)::F) c1 [.int .i64 m1]∧cU P 90 (#[.pointer m,.int .i64 (IntKind.wrap .i64 (m1+1)),.int .i64 d]) I ((b,nO 0 0 0 0 0 (⟨#[]⟩:Bs) none 0 0 0)::F) fun e1 I1 G1=>((∃(g h i j k:Int) (l:Bs) (a:OA) (e f:Nat) (n:Int),e1=.returned (nV g h i j k l a e f n)∧∃F1:cR,List.Perm G1 ((b,nO 0 0 0 0 0 (⟨#[]⟩:Bs) none 0 0 0)::F1)∧Q (.returned (nV g h i j k l a e f n)) I1 F1)∨(∃ch:List PanicEntry,e1=.panicked ch∧∃F2:cR,List.Perm G1 ((b,nO 0 0 0 0 0 (⟨#[]⟩:Bs) none 0 0 0)::F2)∧Q (.panicked ch) I1 F2))
theorem fB.vc{d:Int}{c c1:Addr}{I:cS}{F:cR}{Q:cT}  (h:fB.V (fun k o t n f s a l c q=>.agg #[.int .u8 k,.int .u8 o,.int .u8 t,.int .i64 n,.int .u8 f,.string s,.slice a l c,.int .i64 q]) (fun k o t n f s a l c q=>.cells #[.int .u8 k,.int .u8 o,.int .u8 t,.int .i64 n,.int .u8 f,.string s,.slice a l c,.int .i64 q] 64 (0,0)) d c c1 I F Q):cU P 114 #[.int .i64 d,.pointer (some c),.pointer (some c1)] I F Q :=
 tw (A:=(dr [] [90] [90] pk [] [] [] [] [] [] [])) [90] func114 h
def fT.V(nV:Int→Int→Int→Int→Int→Bs→OA→Nat→Nat→Int→Value)(nO:Int→Int→Int→Int→Int→Bs→OA→Nat→Nat→Int→Obj)(vb vi:Int→Value)(vs:Bs→Value)(vl:OA→Nat→Nat→Value)(vp:OA→Value)(p:Addr)(d:Int)(I:cS)(F:cR)(Q:cT)  : Prop:=∀b:Nat,cU P 90 (#[vp (some p),vi 2,vi d]) I ((b,nO 0 0 0 0 0 (⟨#[]⟩:Bs) none 0 0 0)::F) fun e1 I1 G1=>((∃(f g h i j:Int) (k:Bs) (a:OA) (c e:Nat) (l:Int),e1=.returned (nV f g h i j k a c e l)∧∃F1:cR,List.Perm G1 ((b,nO 0 0 0 0 0 (⟨#[]⟩:Bs) none 0 0 0)::F1)∧∀s:Nat,eZ P 91 (#[vp (some p),vs (⟨#[63]⟩:Bs)]) I1 ((b,nO 0 0 0 0 0 (⟨#[]⟩:Bs) none 0 0 0)::(s,nO f g h i j k a c e l)::·) F1 .bool fun r I2 F2=>(It (!r) (Q (.returned (nV f g h i j k a c e l)) I2 F2) (∃(hb:Nat) (ho:Obj) (F3:cR),List.Perm F2 ((hb,ho)::F3)∧∃ad:Addr,some p=some ad∧∃(m:Int),Rd (cS.put I2 hb ho) ([]) ((ad.add 1).add 4) [vi m]∧cU P 92 (#[vp (some p),vi d]) (cS.put I2 hb ho) ((b,nO 0 0 0 0 0 (⟨#[]⟩:Bs) none 0 0 0)::(s,nO f g h i j k a c e l)::F3) fun e3 I3 G3=>((∃(r1:Int),e3=.returned (vi r1)∧∃F4:cR,List.Perm G3 ((b,nO 0 0 0 0 0 (⟨#[]⟩:Bs) none 0 0 0)::(s,nO f g h i j k a c e l)::F4)∧cU P 64 (#[vp (some p)]) (cS.del I3 hb) ((b,nO 0 0 0 0 0 (⟨#[]⟩:Bs) none 0 0 0)::(s,nO f g h i j k a c e l)::((hb,ho)::F4)) fun e4 I4 G4=>((e4=.returned (.tuple #[])∧∃F5:cR,List.Perm G4 ((b,nO 0 0 0 0 0 (⟨#[]⟩:Bs) none 0 0 0)::(s,nO f g h i j k a c e l)::F5)∧cU P 47 (#[vp (some p),vi r1]) I4 ((b,nO 0 0 0 0 0 (⟨#[]⟩:Bs) none 0 0 0)::(s,nO f g h i j k a c e l)::F5) fun e5 I5 G5=>((∃(t u v w x:Int) (y:Bs) (n:OA) (o q:Nat) (z:Int),e5=.returned (nV t u v w x y n o q z)∧∃F6:cR,List.Perm G5 ((b,nO 0 0 0 0 0 (⟨#[]⟩:Bs) none 0 0 0)::(s,nO f g h i j k a c e l)::F6)∧∀aa:Nat,∀(b1:Nat) (I6:cS),cS.le I5 I6→I6 b1=some (Obj.cells #[vs (⟨#[58]⟩:Bs)] 9 (0,0))→cU P 66 (#[vp (some p),vl (some ⟨b1,0,none⟩) 1 1]) I6 ((b,nO 0 0 0 0 0 (⟨#[]⟩:Bs) none 0 0 0)::(s,nO f g h i j k a c e l)::(aa,nO t u v w x y n o q z)::F6) fun e6 I7 G6=>((∃(r2:Int),e6=.returned (vi r2)∧∃F7:cR,List.Perm G6 ((b,nO 0 0 0 0 0 (⟨#[]⟩:Bs) none 0 0 0)::(s,nO f g h i j k a c e l)::(aa,nO t u v w x y n o q z)::F7)∧cU P 47 (#[vp (some p),vi r1]) I7 ((b,nO 0 0 0 0 0 (⟨#[]⟩:Bs) none 0 0 0)::(s,nO f g h i j k a c e l)::(aa,nO t u v w x y n o q z)::F7) fun e7 I8 G7=>((∃(af ag ah ai aj:Int) (ak:Bs) (ab:OA) (ac ae:Nat) (al:Int),e7=.returned (nV af ag ah ai aj ak ab ac ae al)∧∃F8:cR,List.Perm G7 ((b,nO 0 0 0 0 0 (⟨#[]⟩:Bs) none 0 0 0)::(s,nO f g h i j k a c e l)::(aa,nO t u v w x y n o q z)::F8)∧∀b2:Nat,Q (.returned (nV 7 0 0 0 0 (⟨#[]⟩:Bs) (some ⟨b2,0,none⟩) 3 3 m)) I8 (((b2,Obj.cells #[vb f,vb g,vb h,vi i,vb j,vs k,vl a c e,vi l,vb t,vb u,vb v,vi w,vb x,vs y,vl n o q,vi z,vb af,vb ag,vb ah,vi ai,vb aj,vs ak,vl ab ac ae,vi al] 64 (0,0))::F8)))∨(∃ch:List PanicEntry,e7=.panicked ch∧∃F9:cR,List.Perm G7 ((b,nO 0 0 0 0 0 (⟨#[]⟩:Bs) none 0 0 0)::(s,nO f g h i j k a c e l)::(aa,nO t u v w x y n o q z)::F9)∧Q (.panicked ch) I8 F9)))∨(∃am:List PanicEntry,e6=.panicked am∧∃F10:cR,List.Perm G6 ((b,nO 0 0 0 0 0 (⟨#[]⟩:Bs) none 0 0 0)::(s,nO f g h i j k a c e l)::(aa,nO t u v w x y n o q z)::F10)∧Q (.panicked am) I7 F10)))∨(∃an:List PanicEntry,e5=.panicked an∧∃F11:cR,List.Perm G5 ((b,nO 0 0 0 0 0 (⟨#[]⟩:Bs) none 0 0 0)::(s,nO f g h i j k a c e l)::F11)∧Q (.panicked an) I5 F11)))∨(∃ao:List PanicEntry,e4=.panicked ao∧∃F12:cR,List.Perm G4 ((b,nO 0 0 0 0 0 (⟨#[]⟩:Bs) none 0 0 0)::(s,nO f g h i j k a c e l)::F12)∧Q (.panicked ao) I4 F12)))∨(∃ap:List PanicEntry,e3=.panicked ap∧∃F13:cR,List.Perm G3 ((b,nO 0 0 0 0 0 (⟨#[]⟩:Bs) none 0 0 0)::(s,nO f g h i j k a c e l)::F13)∧Q (.panicked ap) (cS.del I3 hb) (((hb,ho)::F13)))))))∨(∃aq:List PanicEntry,e1=.panicked aq∧∃F14:cR,List.Perm G1 ((b,nO 0 0 0 0 0 (⟨#[]⟩:Bs) none 0 0 0)::F14)∧Q (.panicked aq) I1 F14))
theorem fT.vc{p:Addr}{d:Int}{I:cS}{F:cR}{Q:cT}  (h:fT.V (fun k o t n f s a l c q=>.agg #[.int .u8 k,.int .u8 o,.int .u8 t,.int .i64 n,.int .u8 f,.string s,.slice a l c,.int .i64 q]) (fun k o t n f s a l c q=>.cells #[.int .u8 k,.int .u8 o,.int .u8 t,.int .i64 n,.int .u8 f,.string s,.slice a l c,.int .i64 q] 64 (0,0)) (.int .u8) (.int .i64) .string .slice .pointer p d I F Q):cU P 47 #[.pointer (some p),.int .i64 d] I F Q :=
 tw (A:=(dr [2002] [47,64,66,90,92] [47,64,66,90,91,92] pk [] [7001] [8005] [] [] [(4,[0,1,3,4,5,6,7,2,8,9]),(8,[2,3,6,0,1,4,5,7,8])] [] [] [(4,[7,1000],10),(8,[0,1],8)])) [47,64,66,90,91,92] func47 h
def fC.V(nV:Int→Int→Int→Int→Int→Bs→OA→Nat→Nat→Int→Value)(nO:Int→Int→Int→Int→Int→Bs→OA→Nat→Nat→Int→Obj)(vb vi:Int→Value)(vp:OA→Value)(p:Addr)(d:Int)(I:cS)(F:cR)(Q:cT)  : Prop:=∀b:Nat,∀(b1:Nat) (I1:cS),cS.le I I1→I1 b1=some (Obj.cells #[.string (⟨#[45]⟩:Bs),.string (⟨#[33]⟩:Bs)] 9 (0,0))→eZ P 104 (#[vp (some p),.slice (some ⟨b1,0,none⟩) 2 2]) I1 ((b,nO 0 0 0 0 0 (⟨#[]⟩:Bs) none 0 0 0)::·) F vi fun r I2 F1=>(Dt (r<0) (cU P 128 (#[vp (some p),vi d]) I2 ((b,nO 0 0 0 0 0 (⟨#[]⟩:Bs) none 0 0 0)::F1) fun e2 I3 G2=>((∃(s t u v w:Int) (x:Bs) (f:OA) (g h:Nat) (y:Int),e2=.returned (nV s t u v w x f g h y)∧∃F2:cR,List.Perm G2 ((b,nO 0 0 0 0 0 (⟨#[]⟩:Bs) none 0 0 0)::F2)∧Q (.returned (nV s t u v w x f g h y)) I3 F2)∨(∃ch:List PanicEntry,e2=.panicked ch∧∃F3:cR,List.Perm G2 ((b,nO 0 0 0 0 0 (⟨#[]⟩:Bs) none 0 0 0)::F3)∧Q (.panicked ch) I3 F3))) (∃(hb:Nat) (ho:Obj) (F4:cR),List.Perm F1 ((hb,ho)::F4)∧∃ad:Addr,some p=some ad∧∃(m:Int),Rd (cS.put I2 hb ho) ([]) ((ad.add 1).add 4) [vi m]∧cU P 92 (#[vp (some p),vi d]) (cS.put I2 hb ho) ((b,nO 0 0 0 0 0 (⟨#[]⟩:Bs) none 0 0 0)::F4) fun e3 I4 G3=>((∃(r1:Int),e3=.returned (vi r1)∧∃F5:cR,List.Perm G3 ((b,nO 0 0 0 0 0 (⟨#[]⟩:Bs) none 0 0 0)::F5)∧cU P 64 (#[vp (some p)]) (cS.del I4 hb) ((b,nO 0 0 0 0 0 (⟨#[]⟩:Bs) none 0 0 0)::((hb,ho)::F5)) fun e4 I5 G4=>((e4=.returned (.tuple #[])∧∃F6:cR,List.Perm G4 ((b,nO 0 0 0 0 0 (⟨#[]⟩:Bs) none 0 0 0)::F6)∧cU P 113 (#[vp (some p),vi r1]) I5 ((b,nO 0 0 0 0 0 (⟨#[]⟩:Bs) none 0 0 0)::F6) fun e5 I6 G5=>((∃(i j k l n:Int) (o:Bs) (a:OA) (c e:Nat) (q:Int),e5=.returned (nV i j k l n o a c e q)∧∃F7:cR,List.Perm G5 ((b,nO 0 0 0 0 0 (⟨#[]⟩:Bs) none 0 0 0)::F7)∧∀b2:Nat,Q (.returned (.agg #[vb 5,vb (IntKind.wrap .u8 (1+(IntKind.wrap .u8 r))),vb 0,vi 0,vb 0,.string (⟨#[]⟩:Bs),.slice (some ⟨b2,0,none⟩) 1 1,vi m])) I6 (((b2,nO i j k l n o a c e q)::F7)))∨(∃z:List PanicEntry,e5=.panicked z∧∃F8:cR,List.Perm G5 ((b,nO 0 0 0 0 0 (⟨#[]⟩:Bs) none 0 0 0)::F8)∧Q (.panicked z) I6 F8)))∨(∃aa:List PanicEntry,e4=.panicked aa∧∃F9:cR,List.Perm G4 ((b,nO 0 0 0 0 0 (⟨#[]⟩:Bs) none 0 0 0)::F9)∧Q (.panicked aa) I5 F9)))∨(∃ab:List PanicEntry,e3=.panicked ab∧∃F10:cR,List.Perm G3 ((b,nO 0 0 0 0 0 (⟨#[]⟩:Bs) none 0 0 0)::F10)∧Q (.panicked ab) (cS.del I4 hb) (((hb,ho)::F10))))))
theorem fC.vc{p:Addr}{d:Int}{I:cS}{F:cR}{Q:cT}  (h:fC.V (fun k o t n f s a l c q=>.agg #[.int .u8 k,.int .u8 o,.int .u8 t,.int .i64 n,.int .u8 f,.string s,.slice a l c,.int .i64 q]) (fun k o t n f s a l c q=>.cells #[.int .u8 k,.int .u8 o,.int .u8 t,.int .i64 n,.int .u8 f,.string s,.slice a l c,.int .i64 q] 64 (0,0)) (.int .u8) (.int .i64) .pointer p d I F Q):cU P 113 #[.pointer (some p),.int .i64 d] I F Q :=
 tw (A:=(dr [2001] [64,92,113,128] [64,92,104,113,128] pk [] [1001] [6006] [] [] [(4,[0,1,3,4,5,6,7,2,8,9])] [] [] [(4,[7,1000],10)])) [64,92,104,113,128] func113 h
def fU.V(nV:Int→Int→Int→Int→Int→Bs→OA→Nat→Nat→Int→Value)(nO:Int→Int→Int→Int→Int→Bs→OA→Nat→Nat→Int→Obj)(vi:Int→Value)(vl:OA→Nat→Nat→Value)(vp:OA→Value)(p:Addr)(t u w y z:Int)(aa:Bs)(o:OA)(q s:Nat)(aL ai d:Int)(I:cS)(F:cR)(Q:cT)(Inv14:Int→Int→Int→Int→Int→Int→Bs→OA→Nat→Nat→Int→Nat→cS→cR→Prop):Prop:=∀n:Nat,∀b:Nat,∃ad:Addr,some p=some ad∧∃(m:Int),Rd I ((n,nO t u w y z aa o q s aL)::(b,nO 0 0 0 0 0 (⟨#[]⟩:Bs) none 0 0 0)::F) ((ad.add 1).add 4) [vi m]∧cU P 92 (#[vp (some p),vi d]) I ((n,nO t u w y z aa o q s m)::(b,nO 0 0 0 0 0 (⟨#[]⟩:Bs) none 0 0 0)::F) fun e1 I1 G1=>((∃(r:Int),e1=.returned (vi r)∧∃F1:cR,List.Perm G1 ((n,nO t u w y z aa o q s m)::(b,nO 0 0 0 0 0 (⟨#[]⟩:Bs) none 0 0 0)::F1)∧cU P 64 (#[vp (some p)]) I1 ((n,nO t u w y z aa o q s m)::(b,nO 0 0 0 0 0 (⟨#[]⟩:Bs) none 0 0 0)::F1) fun e2 I2 G2=>((e2=.returned (.tuple #[])∧∃F2:cR,List.Perm G2 ((n,nO t u w y z aa o q s m)::(b,nO 0 0 0 0 0 (⟨#[]⟩:Bs) none 0 0 0)::F2)∧∀(b1:Nat) (I3:cS),cS.le I2 I3→I3 b1=some (Obj.cells #[.string (⟨#[40]⟩:Bs)] 9 (0,0))→cU P 66 (#[vp (some p),vl (some ⟨b1,0,none⟩) 1 1]) I3 ((n,nO t u w y z aa o q s m)::(b,nO 0 0 0 0 0 (⟨#[]⟩:Bs) none 0 0 0)::F2) fun e3 I4 G3=>((∃(r1:Int),e3=.returned (vi r1)∧∃F3:cR,List.Perm G3 ((n,nO t u w y z aa o q s m)::(b,nO 0 0 0 0 0 (⟨#[]⟩:Bs) none 0 0 0)::F3)∧(∃m1:Nat,Inv14 0 t u w y z aa o q s m m1 I4 F3)∧∀(x f g h i j:Int) (k:Bs) (a:OA) (c e:Nat) (l:Int) (m2:Nat) (I5:cS) (F4:cR),cS.le I4 I5→Inv14 x f g h i j k a c e l m2 I5 F4→(Dt (x<ai) (Dt (x>0) (∀(b2:Nat) (I6:cS),cS.le I5 I6→I6 b2=some (Obj.cells #[.string (⟨#[44]⟩:Bs)] 9 (0,0))→cU P 66 (#[vp (some p),vl (some ⟨b2,0,none⟩) 1 1]) I6 ((n,nO f g h i j k a c e l)::(b,nO 0 0 0 0 0 (⟨#[]⟩:Bs) none 0 0 0)::F4) fun e4 I7 G4=>((∃(r2:Int),e4=.returned (vi r2)∧∃F5:cR,List.Perm G4 ((n,nO f g h i j k a c e l)::(b,nO 0 0 0 0 0 (⟨#[]⟩:Bs) none 0 0 0)::F5)∧cU P 47 (#[vp (some p),vi r]) I7 ((n,nO f g h i j k a c e l)::(b,nO 0 0 0 0 0 (⟨#[]⟩:Bs) none 0 0 0)::F5) fun e5 I8 G5=>((∃(av aw ax ay az:Int) (aA:Bs) (af:OA) (ag ah:Nat) (aB:Int),e5=.returned (nV av aw ax ay az aA af ag ah aB)∧∃F6:cR,List.Perm G5 ((n,nO f g h i j k a c e l)::(b,nO 0 0 0 0 0 (⟨#[]⟩:Bs) none 0 0 0)::F6)∧∀(b3:Nat) (I9:cS),cS.le I8 I9→I9 b3=some (nO av aw ax ay az aA af ag ah aB)→dm P (Builtin.append_ #[62,62] 62 #[vl a c e,vl (some ⟨b3,0,none⟩) 1 1]) I9 ((n,nO f g h i j k a c e l)::(b,nO 0 0 0 0 0 (⟨#[]⟩:Bs) none 0 0 0)::F6) fun v I10 G6=>∃(aC:OA) (aD aE:Nat),v=vl aC aD aE∧∃F7:cR,List.Perm G6 ((n,nO f g h i j k a c e l)::(b,nO 0 0 0 0 0 (⟨#[]⟩:Bs) none 0 0 0)::F7)∧(∃m3:Nat,m3<m2∧Inv14 (IntKind.wrap .i64 (x+1)) f g h i j k aC aD aE l m3 I10 F7))∨(∃ch:List PanicEntry,e5=.panicked ch∧∃F8:cR,List.Perm G5 ((n,nO f g h i j k a c e l)::(b,nO 0 0 0 0 0 (⟨#[]⟩:Bs) none 0 0 0)::F8)∧Q (.panicked ch) I8 F8)))∨(∃aF:List PanicEntry,e4=.panicked aF∧∃F9:cR,List.Perm G4 ((n,nO f g h i j k a c e l)::(b,nO 0 0 0 0 0 (⟨#[]⟩:Bs) none 0 0 0)::F9)∧Q (.panicked aF) I7 F9))) (cU P 47 (#[vp (some p),vi r]) I5 ((n,nO f g h i j k a c e l)::(b,nO 0 0 0 0 0 (⟨#[]⟩:Bs) none 0 0 0)::F4) fun e6 I11 G7=>((∃(aj ak al am an:Int) (ao:Bs) (ab:OA) (ac ae:Nat) (ap:Int),e6=.returned (nV aj ak al am an ao ab ac ae ap)∧∃F10:cR,List.Perm G7 ((n,nO f g h i j k a c e l)::(b,nO 0 0 0 0 0 (⟨#[]⟩:Bs) none 0 0 0)::F10)∧∀(b4:Nat) (I12:cS),cS.le I11 I12→I12 b4=some (nO aj ak al am an ao ab ac ae ap)→dm P (Builtin.append_ #[62,62] 62 #[vl a c e,vl (some ⟨b4,0,none⟩) 1 1]) I12 ((n,nO f g h i j k a c e l)::(b,nO 0 0 0 0 0 (⟨#[]⟩:Bs) none 0 0 0)::F10) fun v1 I13 G8=>∃(aq:OA) (ar au:Nat),v1=vl aq ar au∧∃F11:cR,List.Perm G8 ((n,nO f g h i j k a c e l)::(b,nO 0 0 0 0 0 (⟨#[]⟩:Bs) none 0 0 0)::F11)∧(∃m4:Nat,m4<m2∧Inv14 (IntKind.wrap .i64 (x+1)) f g h i j k aq ar au l m4 I13 F11))∨(∃aG:List PanicEntry,e6=.panicked aG∧∃F12:cR,List.Perm G7 ((n,nO f g h i j k a c e l)::(b,nO 0 0 0 0 0 (⟨#[]⟩:Bs) none 0 0 0)::F12)∧Q (.panicked aG) I11 F12)))) (∀(b5:Nat) (I14:cS),cS.le I5 I14→I14 b5=some (Obj.cells #[.string (⟨#[41]⟩:Bs)] 9 (0,0))→cU P 66 (#[vp (some p),vl (some ⟨b5,0,none⟩) 1 1]) I14 ((n,nO f g h i j k a c e l)::(b,nO 0 0 0 0 0 (⟨#[]⟩:Bs) none 0 0 0)::F4) fun e7 I15 G9=>((∃(r3:Int),e7=.returned (vi r3)∧∃F13:cR,List.Perm G9 ((n,nO f g h i j k a c e l)::(b,nO 0 0 0 0 0 (⟨#[]⟩:Bs) none 0 0 0)::F13)∧Q (.returned (nV f g h i j k a c e l)) I15 F13)∨(∃aH:List PanicEntry,e7=.panicked aH∧∃F14:cR,List.Perm G9 ((n,nO f g h i j k a c e l)::(b,nO 0 0 0 0 0 (⟨#[]⟩:Bs) none 0 0 0)::F14)∧Q (.panicked aH) I15 F14)))))∨(∃aI:List PanicEntry,e3=.panicked aI∧∃F15:cR,List.Perm G3 ((n,nO t u w y z aa o q s m)::(b,nO 0 0 0 0 0 (⟨#[]⟩:Bs) none 0 0 0)::F15)∧Q (.panicked aI) I4 F15)))∨(∃aJ:List PanicEntry,e2=.panicked aJ∧∃F16:cR,List.Perm G2 ((n,nO t u w y z aa o q s m)::(b,nO 0 0 0 0 0 (⟨#[]⟩:Bs) none 0 0 0)::F16)∧Q (.panicked aJ) I2 F16)))∨(∃aK:List PanicEntry,e1=.panicked aK∧∃F17:cR,List.Perm G1 ((n,nO t u w y z aa o q s m)::(b,nO 0 0 0 0 0 (⟨#[]⟩:Bs) none 0 0 0)::F17)∧Q (.panicked aK) I1 F17))
theorem fU.vc{p:Addr}{j r u v w:Int}{x:Bs}{b:OA}{e g:Nat}{y i d:Int}{I:cS}{F:cR}{Q:cT}(Inv14:Int→Int→Int→Int→Int→Int→Bs→OA→Nat→Nat→Int→Nat→cS→cR→Prop)(h:fU.V (fun k o t n f s a l c q=>.agg #[.int .u8 k,.int .u8 o,.int .u8 t,.int .i64 n,.int .u8 f,.string s,.slice a l c,.int .i64 q]) (fun k o t n f s a l c q=>.cells #[.int .u8 k,.int .u8 o,.int .u8 t,.int .i64 n,.int .u8 f,.string s,.slice a l c,.int .i64 q] 64 (0,0)) (.int .i64) .slice .pointer p j r u v w x b e g y i d I F Q Inv14):cU P 143 #[.pointer (some p),.agg #[.int .u8 j,.int .u8 r,.int .u8 u,.int .i64 v,.int .u8 w,.string x,.slice b e g,.int .i64 y],.int .i64 i,.int .i64 d] I F Q :=
 tw (A:=(dr [6000,8001] [47,64,66,92] [47,64,66,92] pk [(14,⟨[(26,(.int .i64))],[(0,[(.int .u8),(.int .u8),(.int .u8),(.int .i64),(.int .u8),.str,.slc,(.int .i64)])],fun _ _ _ vs m I F=>match vs with | [.int _ y0,.int _ y1,.int _ y2,.int _ y3,.int _ y4,.int _ y5,.string y6,.slice y7 y8 y9,.int _ y10]=>Inv14 y0 y1 y2 y3 y4 y5 y6 y7 y8 y9 y10 m I F | _=>False,[],[]⟩)] [4001,9001,10005,12001] [] [] [] [(10,[0,2,3,1,4,5,6,7,8])] [] [] [(10,[1],8)])) [47,64,66,92] func143 h
def fg.V(nV:Int→Int→Int→Int→Int→Bs→OA→Nat→Nat→Int→Value)(nO:Int→Int→Int→Int→Int→Bs→OA→Nat→Nat→Int→Obj)(vb vi:Int→Value)(vs:Bs→Value)(vl:OA→Nat→Nat→Value)(vp:OA→Value)(p:Addr)(d:Int)(I:cS)(F:cR)(Q:cT)  : Prop:=∀b:Nat,cU P 105 (#[vp (some p)]) I ((b,nO 0 0 0 0 0 (⟨#[]⟩:Bs) none 0 0 0)::F) fun e1 I1 G1=>((∃(f g h i j:Int) (k:Bs) (a:OA) (c e:Nat) (l:Int) (r1:Bool),e1=.returned (.tuple #[nV f g h i j k a c e l,.bool r1])∧∃F1:cR,List.Perm G1 ((b,nO 0 0 0 0 0 (⟨#[]⟩:Bs) none 0 0 0)::F1)∧∀n:Nat,(It r1 (Q (.returned (nV f g h i j k a c e l)) I1 F1) (∃ad:Addr,some p=some ad∧∃(m:Int),Rd I1 ((b,nO 0 0 0 0 0 (⟨#[]⟩:Bs) none 0 0 0)::(n,nO f g h i j k a c e l)::F1) ((ad.add 1).add 4) [vi m]∧∃aW:Addr,some p=some aW∧∃(m1:Int),Rd I1 ((b,nO 0 0 0 0 0 (⟨#[]⟩:Bs) none 0 0 0)::(n,nO f g h i j k a c e l)::F1) ((aW.add 1).add 0) [vb m1]∧(It (m1==2) (cU P 67 (#[vp (some p)]) I1 ((b,nO 0 0 0 0 0 (⟨#[]⟩:Bs) none 0 0 0)::(n,nO f g h i j k a c e l)::F1) fun e2 I2 G2=>((∃(r:Bs),e2=.returned (vs r)∧∃F2:cR,List.Perm G2 ((b,nO 0 0 0 0 0 (⟨#[]⟩:Bs) none 0 0 0)::(n,nO f g h i j k a c e l)::F2)∧Q (.returned (nV 2 0 0 0 0 r none 0 0 m)) I2 F2)∨(∃ch:List PanicEntry,e2=.panicked ch∧∃F3:cR,List.Perm G2 ((b,nO 0 0 0 0 0 (⟨#[]⟩:Bs) none 0 0 0)::(n,nO f g h i j k a c e l)::F3)∧Q (.panicked ch) I2 F3))) (∀(b1:Nat) (I3:cS),cS.le I1 I3→I3 b1=some (Obj.cells #[vs (⟨#[98,105,100]⟩:Bs),vs (⟨#[97,115,107]⟩:Bs),vs (⟨#[108,97,115,116]⟩:Bs),vs (⟨#[118,111,108,117,109,101]⟩:Bs),vs (⟨#[110,111,119]⟩:Bs),vs (⟨#[111,112,101,110]⟩:Bs)] 9 (0,0))→eZ P 104 (#[vp (some p),vl (some ⟨b1,0,none⟩) 6 6]) I3 ((b,nO 0 0 0 0 0 (⟨#[]⟩:Bs) none 0 0 0)::(n,nO f g h i j k a c e l)::·) F1 vi fun r2 I4 F4=>(Dt (r2≥0) (cU P 64 (#[vp (some p)]) I4 ((b,nO 0 0 0 0 0 (⟨#[]⟩:Bs) none 0 0 0)::(n,nO f g h i j k a c e l)::F4) fun e4 I5 G4=>((e4=.returned (.tuple #[])∧∃F5:cR,List.Perm G4 ((b,nO 0 0 0 0 0 (⟨#[]⟩:Bs) none 0 0 0)::(n,nO f g h i j k a c e l)::F5)∧Q (.returned (.agg #[vb 3,vb 0,vb 0,vi 0,vb (IntKind.wrap .u8 (1+(IntKind.wrap .u8 r2))),vs (⟨#[]⟩:Bs),vl none 0 0,vi m])) I5 F5)∨(∃aX:List PanicEntry,e4=.panicked aX∧∃F6:cR,List.Perm G4 ((b,nO 0 0 0 0 0 (⟨#[]⟩:Bs) none 0 0 0)::(n,nO f g h i j k a c e l)::F6)∧Q (.panicked aX) I5 F6))) (∀(b2:Nat) (I6:cS),cS.le I4 I6→I6 b2=some (Obj.cells #[vs (⟨#[105,110,116]⟩:Bs),vs (⟨#[113,116,121]⟩:Bs),vs (⟨#[112,114,105,99,101]⟩:Bs),vs (⟨#[116,105,109,101]⟩:Bs)] 9 (0,0))→eZ P 104 (#[vp (some p),vl (some ⟨b2,0,none⟩) 4 4]) I6 ((b,nO 0 0 0 0 0 (⟨#[]⟩:Bs) none 0 0 0)::(n,nO f g h i j k a c e l)::·) F4 vi fun r3 I7 F7=>(Dt (r3≥0) (cU P 143 (#[vp (some p),.agg #[vb 9,vb 0,vb (IntKind.wrap .u8 (1+(IntKind.wrap .u8 r3))),vi 0,vb 0,vs (⟨#[]⟩:Bs),vl none 0 0,vi 0],vi 1,vi d]) I7 ((b,nO 0 0 0 0 0 (⟨#[]⟩:Bs) none 0 0 0)::(n,nO f g h i j k a c e l)::F7) fun e6 I8 G6=>((∃(aP aQ aR aS aT:Int) (aU:Bs) (al:OA) (am an:Nat) (aV:Int),e6=.returned (nV aP aQ aR aS aT aU al am an aV)∧∃F8:cR,List.Perm G6 ((b,nO 0 0 0 0 0 (⟨#[]⟩:Bs) none 0 0 0)::(n,nO f g h i j k a c e l)::F8)∧Q (.returned (nV aP aQ aR aS aT aU al am an aV)) I8 F8)∨(∃aY:List PanicEntry,e6=.panicked aY∧∃F9:cR,List.Perm G6 ((b,nO 0 0 0 0 0 (⟨#[]⟩:Bs) none 0 0 0)::(n,nO f g h i j k a c e l)::F9)∧Q (.panicked aY) I8 F9))) (∀(b3:Nat) (I9:cS),cS.le I7 I9→I9 b3=some (Obj.cells #[vs (⟨#[97,98,115]⟩:Bs),vs (⟨#[109,105,110]⟩:Bs),vs (⟨#[109,97,120]⟩:Bs),vs (⟨#[104,97,115]⟩:Bs),vs (⟨#[40]⟩:Bs)] 9 (0,0))→eZ P 104 (#[vp (some p),vl (some ⟨b3,0,none⟩) 5 5]) I9 ((b,nO 0 0 0 0 0 (⟨#[]⟩:Bs) none 0 0 0)::(n,nO f g h i j k a c e l)::·) F7 vi fun r4 I10 F10=>(It (r4==0) (cU P 143 (#[vp (some p),nV 8 3 0 0 0 (⟨#[]⟩:Bs) none 0 0 0,vi 1,vi d]) I10 ((b,nO 0 0 0 0 0 (⟨#[]⟩:Bs) none 0 0 0)::(n,nO f g h i j k a c e l)::F10) fun e8 I11 G8=>((∃(ao ap aq ar au:Int) (av:Bs) (aa:OA) (ab ac:Nat) (aw:Int),e8=.returned (nV ao ap aq ar au av aa ab ac aw)∧∃F11:cR,List.Perm G8 ((b,nO 0 0 0 0 0 (⟨#[]⟩:Bs) none 0 0 0)::(n,nO f g h i j k a c e l)::F11)∧Q (.returned (nV ao ap aq ar au av aa ab ac aw)) I11 F11)∨(∃aZ:List PanicEntry,e8=.panicked aZ∧∃F12:cR,List.Perm G8 ((b,nO 0 0 0 0 0 (⟨#[]⟩:Bs) none 0 0 0)::(n,nO f g h i j k a c e l)::F12)∧Q (.panicked aZ) I11 F12))) (It (r4==1) (cU P 143 (#[vp (some p),nV 8 4 0 0 0 (⟨#[]⟩:Bs) none 0 0 0,vi 2,vi d]) I10 ((b,nO 0 0 0 0 0 (⟨#[]⟩:Bs) none 0 0 0)::(n,nO f g h i j k a c e l)::F10) fun e9 I12 G9=>((∃(ax ay az aA aB:Int) (aC:Bs) (ae:OA) (af ag:Nat) (aD:Int),e9=.returned (nV ax ay az aA aB aC ae af ag aD)∧∃F13:cR,List.Perm G9 ((b,nO 0 0 0 0 0 (⟨#[]⟩:Bs) none 0 0 0)::(n,nO f g h i j k a c e l)::F13)∧Q (.returned (nV ax ay az aA aB aC ae af ag aD)) I12 F13)∨(∃a0:List PanicEntry,e9=.panicked a0∧∃F14:cR,List.Perm G9 ((b,nO 0 0 0 0 0 (⟨#[]⟩:Bs) none 0 0 0)::(n,nO f g h i j k a c e l)::F14)∧Q (.panicked a0) I12 F14))) (It (r4==2) (cU P 143 (#[vp (some p),nV 8 5 0 0 0 (⟨#[]⟩:Bs) none 0 0 0,vi 2,vi d]) I10 ((b,nO 0 0 0 0 0 (⟨#[]⟩:Bs) none 0 0 0)::(n,nO f g h i j k a c e l)::F10) fun a6 I13 G10=>((∃(aE aF aG aH aI:Int) (aJ:Bs) (ah:OA) (ai aj:Nat) (aK:Int),a6=.returned (nV aE aF aG aH aI aJ ah ai aj aK)∧∃F15:cR,List.Perm G10 ((b,nO 0 0 0 0 0 (⟨#[]⟩:Bs) none 0 0 0)::(n,nO f g h i j k a c e l)::F15)∧Q (.returned (nV aE aF aG aH aI aJ ah ai aj aK)) I13 F15)∨(∃a1:List PanicEntry,a6=.panicked a1∧∃F16:cR,List.Perm G10 ((b,nO 0 0 0 0 0 (⟨#[]⟩:Bs) none 0 0 0)::(n,nO f g h i j k a c e l)::F16)∧Q (.panicked a1) I13 F16))) (It (r4==3) (cU P 64 (#[vp (some p)]) I10 ((b,nO 0 0 0 0 0 (⟨#[]⟩:Bs) none 0 0 0)::(n,nO f g h i j k a c e l)::F10) fun a7 I14 G11=>((a7=.returned (.tuple #[])∧∃F17:cR,List.Perm G11 ((b,nO 0 0 0 0 0 (⟨#[]⟩:Bs) none 0 0 0)::(n,nO f g h i j k a c e l)::F17)∧∀(b4:Nat) (I15:cS),cS.le I14 I15→I15 b4=some (Obj.cells #[vs (⟨#[98,105,100]⟩:Bs),vs (⟨#[97,115,107]⟩:Bs),vs (⟨#[108,97,115,116]⟩:Bs)] 9 (0,0))→cU P 66 (#[vp (some p),vl (some ⟨b4,0,none⟩) 3 3]) I15 ((b,nO 0 0 0 0 0 (⟨#[]⟩:Bs) none 0 0 0)::(n,nO f g h i j k a c e l)::F17) fun a8 I16 G12=>((∃(r5:Int),a8=.returned (vi r5)∧∃F18:cR,List.Perm G12 ((b,nO 0 0 0 0 0 (⟨#[]⟩:Bs) none 0 0 0)::(n,nO f g h i j k a c e l)::F18)∧Q (.returned (.agg #[vb 4,vb 0,vb 0,vi 0,vb (IntKind.wrap .u8 (1+(IntKind.wrap .u8 r5))),vs (⟨#[]⟩:Bs),vl none 0 0,vi m])) I16 F18)∨(∃a2:List PanicEntry,a8=.panicked a2∧∃F19:cR,List.Perm G12 ((b,nO 0 0 0 0 0 (⟨#[]⟩:Bs) none 0 0 0)::(n,nO f g h i j k a c e l)::F19)∧Q (.panicked a2) I16 F19)))∨(∃a3:List PanicEntry,a7=.panicked a3∧∃F20:cR,List.Perm G11 ((b,nO 0 0 0 0 0 (⟨#[]⟩:Bs) none 0 0 0)::(n,nO f g h i j k a c e l)::F20)∧Q (.panicked a3) I14 F20))) (It (r4==4) (cU P 92 (#[vp (some p),vi d]) I10 ((b,nO 0 0 0 0 0 (⟨#[]⟩:Bs) none 0 0 0)::(n,nO f g h i j k a c e l)::F10) fun a9 I17 G13=>((∃(r6:Int),a9=.returned (vi r6)∧∃F21:cR,List.Perm G13 ((b,nO 0 0 0 0 0 (⟨#[]⟩:Bs) none 0 0 0)::(n,nO f g h i j k a c e l)::F21)∧cU P 64 (#[vp (some p)]) I17 ((b,nO 0 0 0 0 0 (⟨#[]⟩:Bs) none 0 0 0)::(n,nO f g h i j k a c e l)::F21) fun ba I18 G14=>((ba=.returned (.tuple #[])∧∃F22:cR,List.Perm G14 ((b,nO 0 0 0 0 0 (⟨#[]⟩:Bs) none 0 0 0)::(n,nO f g h i j k a c e l)::F22)∧cU P 47 (#[vp (some p),vi r6]) I18 ((b,nO 0 0 0 0 0 (⟨#[]⟩:Bs) none 0 0 0)::(n,nO f g h i j k a c e l)::F22) fun bb I19 G15=>((∃(t u v w x:Int) (y:Bs) (o:OA) (q s:Nat) (z:Int),bb=.returned (nV t u v w x y o q s z)∧∃F23:cR,List.Perm G15 ((b,nO 0 0 0 0 0 (⟨#[]⟩:Bs) none 0 0 0)::(n,nO f g h i j k a c e l)::F23)∧∀ak:Nat,∀(b5:Nat) (I20:cS),cS.le I19 I20→I20 b5=some (Obj.cells #[vs (⟨#[41]⟩:Bs)] 9 (0,0))→cU P 66 (#[vp (some p),vl (some ⟨b5,0,none⟩) 1 1]) I20 ((b,nO 0 0 0 0 0 (⟨#[]⟩:Bs) none 0 0 0)::(n,nO f g h i j k a c e l)::(ak,nO t u v w x y o q s z)::F23) fun bc I21 G16=>((∃(r7:Int),bc=.returned (vi r7)∧∃F24:cR,List.Perm G16 ((b,nO 0 0 0 0 0 (⟨#[]⟩:Bs) none 0 0 0)::(n,nO f g h i j k a c e l)::(ak,nO t u v w x y o q s z)::F24)∧Q (.returned (nV t u v w x y o q s z)) I21 F24)∨(∃a4:List PanicEntry,bc=.panicked a4∧∃F25:cR,List.Perm G16 ((b,nO 0 0 0 0 0 (⟨#[]⟩:Bs) none 0 0 0)::(n,nO f g h i j k a c e l)::(ak,nO t u v w x y o q s z)::F25)∧Q (.panicked a4) I21 F25)))∨(∃a5:List PanicEntry,bb=.panicked a5∧∃F26:cR,List.Perm G15 ((b,nO 0 0 0 0 0 (⟨#[]⟩:Bs) none 0 0 0)::(n,nO f g h i j k a c e l)::F26)∧Q (.panicked a5) I19 F26)))∨(∃aL:List PanicEntry,ba=.panicked aL∧∃F27:cR,List.Perm G14 ((b,nO 0 0 0 0 0 (⟨#[]⟩:Bs) none 0 0 0)::(n,nO f g h i j k a c e l)::F27)∧Q (.panicked aL) I18 F27)))∨(∃aM:List PanicEntry,a9=.panicked aM∧∃F28:cR,List.Perm G13 ((b,nO 0 0 0 0 0 (⟨#[]⟩:Bs) none 0 0 0)::(n,nO f g h i j k a c e l)::F28)∧Q (.panicked aM) I17 F28))) (cU P 65 (#[vp (some p),vi 130]) I10 ((b,nO 0 0 0 0 0 (⟨#[]⟩:Bs) none 0 0 0)::(n,nO f g h i j k a c e l)::F10) fun bd I22 G17=>((bd=.returned (.tuple #[])∧∃F29:cR,List.Perm G17 ((b,nO 0 0 0 0 0 (⟨#[]⟩:Bs) none 0 0 0)::(n,nO f g h i j k a c e l)::F29)∧Q (.returned (nV 0 0 0 0 0 (⟨#[]⟩:Bs) none 0 0 0)) I22 F29)∨(∃aN:List PanicEntry,bd=.panicked aN∧∃F30:cR,List.Perm G17 ((b,nO 0 0 0 0 0 (⟨#[]⟩:Bs) none 0 0 0)::(n,nO f g h i j k a c e l)::F30)∧Q (.panicked aN) I22 F30)))))))))))))))))∨(∃aO:List PanicEntry,e1=.panicked aO∧∃F31:cR,List.Perm G1 ((b,nO 0 0 0 0 0 (⟨#[]⟩:Bs) none 0 0 0)::F31)∧Q (.panicked aO) I1 F31))
theorem fg.vc{p:Addr}{d:Int}{I:cS}{F:cR}{Q:cT}  (h:fg.V (fun k o t n f s a l c q=>.agg #[.int .u8 k,.int .u8 o,.int .u8 t,.int .i64 n,.int .u8 f,.string s,.slice a l c,.int .i64 q]) (fun k o t n f s a l c q=>.cells #[.int .u8 k,.int .u8 o,.int .u8 t,.int .i64 n,.int .u8 f,.string s,.slice a l c,.int .i64 q] 64 (0,0)) (.int .u8) (.int .i64) .string .slice .pointer p d I F Q):cU P 128 #[.pointer (some p),.int .i64 d] I F Q :=
 tw (A:=(dr [2000,5005,8001,12001,15000,17000,19000,21000,24000] [47,64,65,66,67,92,105,143] [47,64,65,66,67,92,104,105,143] pk [] [7001,11001,14001,23001,28001] [] [] [] [] [])) [47,64,65,66,67,92,104,105,143] func128 h
end Go.Lx
namespace Go.Lx
open Go.Vc
def Ec(x:Int)(v:Value)(H:cR):Prop:=(∃i:Int,v=.int .i64 i)∧H=[]
def xC(c:PC)(t:ByteArray)(f:Nat)(d:Int)(g:PS→Px×PS):Prop:=∀(b:Nat) (s:PS) (I:cS) (F F0:cR),c.Live s→F.Perm (c.px t b s::F0)→cU P f #[.pointer (some ⟨b,0,none⟩),.int .i64 d] I F (c7 c t b oK F0 (g s))
section
variable {c:PC} {t:ByteArray} {s:PS} {b:Nat} {I:cS} {F F0:cR}
theorem CN{b1:Nat}{w:ByteArray}(hb:I b1=some (.cells #[.string w] 9 (0,0))):Sl I 1 iS (some ⟨b1,0,none⟩) 1 [w]:=Sl.gQ (f:=iS) (z:=1) (l:=[w]) (fun _=>rfl) hb rfl
theorem eb(hc:c.Of t)(hl:c.Live s){b1:Nat}{w:ByteArray}(hb:I b1=some (.cells #[.string w] 9 (0,0)))(hF:F.Perm (c.px t b s::F0)) :
  cU P 66 #[.pointer (some ⟨b,0,none⟩),.slice (some ⟨b1,0,none⟩) 1 1] I F (c7 c t b Ec F0 (c.take w s)):=by
 refine c7.use (pj hc hl (CN hb) (by decide) hF) (fun v H I2 G l2 hL hv hG=>?_) fun f e I2 G l2 hd hf=>?_
 ·obtain⟨rfl,rfl⟩:=hv
  exact .inl ⟨by rw[nP];exact hL,_,[],rfl,⟨⟨_,rfl⟩,rfl⟩,by rw[nP];exact hG⟩
 ·exact .inr ⟨f,by rw[nP];exact hd,hf⟩
theorem po{d:Int}(h:d<24):c.cY d s=s:=by unfold PC.cY;rw[if_neg (by omega)]
theorem kM(hl:c.Live s):(c.cY 24 s).over=true∧c.dH ⟨132,(c.tok s.next).pos,false⟩ (c.cY 24 s):=by
 unfold PC.cY;rw[if_pos (by decide)]
 have:=hl.c8 (e:=132) (by decide)
 exact⟨by rw[this.1];rfl,this.2⟩
theorem Bx{nx:Lv}{d kind oper fL pos:Int}{many:Nat}(hl:c.Live s)(h:d<24) :
  c.call nx d kind oper fL pos many s=(.mk kind oper fL 0 0 ⟨#[]⟩ (c.dA nx many true (c.take (⟨#[40]⟩:ByteArray) s.inc).2).1 pos,(c.take (⟨#[41]⟩:ByteArray) (c.dA nx many true (c.take (⟨#[40]⟩:ByteArray) s.inc).2).2).2):=by
 unfold PC.call;rw[po h,hl.1,if_neg (by simp)]
theorem Bz{nx:Lv}{kind oper fL pos:Int}{many:Nat}(hl:c.Live s):c.call nx 24 kind oper fL pos many s=(fG,c.cY 24 s):=by
 unfold PC.call;rw[(kM hl).1,if_pos rfl]
theorem qk(hc:c.Of t)(hl:c.Live s)(hk:(c.tok s.next).kind≠0){nx:Lv}{d:Int}(h0:0≤d)(h1:d≤24)(hx:d<24→xC c t 47 (d+1) nx.ex)(hkp:∀f,Kp c f nx.ex)(kind oper fL pos0:Int)(many:Nat)(hm:many≤2)(hF:F.Perm (c.px t b s::F0)) :
  cU P 143 #[.pointer (some ⟨b,0,none⟩),(Nd.mk kind oper fL 0 0 ⟨#[]⟩ none 0 [] pos0).v,.int .i64 many,.int .i64 d] I F (c7 c t b oK F0 (c.call nx d kind oper fL (c.tok s.next).pos many s)):=by
 have hp:=dJ.of (I:=I) hF
 refine fU.vc (fun x n0 n1 n2 n3 n4 n5 a n k n7 m I' F'=>n0=kind∧n1=oper∧n2=fL∧n3=0∧n4=0∧n5=⟨#[]⟩∧n7=(c.tok s.next).pos∧d<24∧0≤x∧x≤many∧m=(many-x).toNat ∧
  ∃(ks:List Nd) (si:PS),(ks.length:Int)=x∧c.Live si∧c.dA nx many true (c.take (⟨#[40]⟩:ByteArray) s.inc).2=(ks.map Nd.px++(c.dA nx (many-x).toNat (decide (x=0)) si).1,(c.dA nx (many-x).toNat (decide (x=0)) si).2)∧Part 8 Nd.enc 64 (dQ 64 false) a n k ks (c.px t b si::F0) F') ?_
 unfold fU.V
 intro bn b0
 refine⟨_,rfl,_,(hp.mono (cS.le_refl I) fun x hx=>.tail _ (.tail _ hx)).rd.du (p:=1) (q:=4) rfl, ?_⟩
 refine (mG (hp.mono (cS.le_refl I) fun x hx=>.tail _ (.tail _ hx)) h0 h1).mono fun e I1 G l1 hd=>?_
 rcases hd with ⟨hlt,rfl,rfl⟩ | ⟨rfl,hf⟩
 rotate_left
 ·refine .inr (da.dq [_,_] (hf.perm (F1:=[_,_]++F) (.refl _) (.refl _)) fun e' G' hf'=>.inr ⟨_, ?_,hf'.tail hF⟩)
  rw[Bz hl];exact (kM hl).2
 rw[Bx hl hlt]
 refine .inl ⟨_,rfl,F,.refl _, ?_⟩
 have dead1:∀{f:PF} {s':PS},c.dH f s'→s'=(c.take (⟨#[40]⟩:ByteArray) s.inc).2→c.dH f (c.take (⟨#[41]⟩:ByteArray) (c.dA nx many true (c.take (⟨#[40]⟩:ByteArray) s.inc).2).2).2:=fun h e=>(Kp.kids (hkp _) _ _ _ (e▸h)).take _
 refine c7.use (dM hc hl hk (fI hF)) (fun v H I2 G l2 hL hv hG=>.inl ?_) fun f e I2 G l2 hd hf=>.inr ?_
 rotate_left
 ·exact da.dq [_,_] hf fun e' G' hf'=>.inr ⟨f,dead1 (hd.take _) rfl,hf'⟩
 obtain⟨rfl,rfl⟩:=hv
 refine⟨rfl,c.px t b s.inc::F0,hG.trans (cV fun z=>by simp only[cW,cX,cZ];omega),fun b1 I3 l3 hb1=>?_⟩
 refine c7.use (eb hc hL hb1 (fI (.refl _))) (fun v H I4 G l4 hL1 hv hG=>.inl ?_) fun f e I4 G l4 hd hf=>.inr ?_
 rotate_left
 ·exact da.dq [_,_] hf fun e' G' hf'=>.inr ⟨f,dead1 hd rfl,hf'⟩
 obtain⟨⟨i1,rfl⟩,rfl⟩:=hv
 refine⟨_,rfl,c.px t b (c.take (⟨#[40]⟩:ByteArray) s.inc).2::F0,hG.trans (cV fun z=>by simp only[cW,cX,cZ];omega),⟨_,rfl,rfl,rfl,rfl,rfl,rfl,rfl,hlt,by decide,by omega,rfl,[],_,rfl,hL1, ?_,Part.nil⟩, ?_⟩
 ·rw[decide_eq_true rfl,show ((many:Int)-0).toNat=many by omega];rfl
 intro x n0 n1 n2 n3 n4 n5 a n k n7 m I5 F4 l5 ⟨g0,g1,g2,g3,g4,g5,g7,_,x0,x1,gm,ks,si,gl,hLi,gk,gP⟩
 subst g0 g1 g2 g3 g4 g5 g7
 obtain⟨A,hs,hA,hO,hFp⟩:=gP
 have hnl:=hA.1
 have frame:∀(X Y:Nat×Obj),(X::Y::F4).Perm (c.px t b si::([X,Y]++(A++(dz ks.length hs++F0)))):=fun X Y=>(hFp.cons _ |>.cons _).trans (cV fun z=>by simp only[cW,cX,cZ];omega)
 have key:∀(sj:PS) (X Y:Nat×Obj) (I5:cS) (F5:cR) (Q':Ending→cS→cR→Prop),c.Live sj→F5.Perm (A++(dz ks.length hs++(c.px t b sj::F0))) →
   c.dA nx (many-x).toNat (decide (x=0)) si=((nx.ex sj).1::(c.dA nx (many-(x+1)).toNat false (nx.ex sj).2).1,(c.dA nx (many-(x+1)).toNat false (nx.ex sj).2).2)→0≤x→x<many →
   (∀(tn:Nd) (I8:cS) (G F6:cR),cS.le I5 I8→G.Perm (X::Y::F6) →
    (∀(b3:Nat) (I9:cS),cS.le I8 I9→I9 b3=some (.cells tn.enc.toArray 64 (0,0))→dm P (Builtin.append_ #[62,62] 62 #[.slice a n k,.slice (some ⟨b3,0,none⟩) 1 1]) I9 (X::Y::F6) fun v I10 G6=>∃(ra:Option Addr) (rn rc:Nat),v=.slice ra rn rc∧∃F7:cR,G6.Perm (X::Y::F7) ∧
     ∃(ks:List Nd) (si:PS),(ks.length:Int)=x+1∧c.Live si∧c.dA nx many true (c.take (⟨#[40]⟩:ByteArray) s.inc).2=(ks.map Nd.px++(c.dA nx (many-(x+1)).toNat (decide (x+1=0)) si).1,(c.dA nx (many-(x+1)).toNat (decide (x+1=0)) si).2)∧Part 8 Nd.enc 64 (dQ 64 false) ra rn rc ks (c.px t b si::F0) F7)→Q' (.returned tn.v) I8 G) →
   (∀(f:PF) (e:Ending) (I8:cS) (G:cR),cS.le I5 I8→c.dH f (c.dA nx many true (c.take (⟨#[40]⟩:ByteArray) s.inc).2).2→da f ([X,Y]++F0) e G→Q' e I8 G) →
   cU P 47 #[.pointer (some ⟨b,0,none⟩),.int .i64 (d+1)] I5 (X::Y::F5) Q':=by
  intro sj X Y I5 F5 Q' hLj hF5 hkd x0 x1 k1 k2
  refine c7.use (hx hlt b sj I5 _ ([X,Y]++(A++(dz ks.length hs++F0))) hLj ((hF5.cons _ |>.cons _).trans (cV fun z=>by simp only[cW,cX,cZ];omega))) (fun v H I8 G l8 hL8 hv hG=>?_) fun f e I8 G l8 hd hf=>?_
  ·obtain⟨tn,rfl,hpx,hOt⟩:=hv
   refine k1 tn I8 G (H++(A++(dz ks.length hs++(c.px t b (nx.ex sj).2::F0)))) l8 (hG.trans (cV fun z=>by simp only[cW,cX,cZ];omega)) fun b3 I9 l9 hb3=>?_
   refine dm.mono (jB (f:=Nd.enc) Nd.ov (zv:=jR.v) (by':=72) (by kernel_rfl) (by kernel_rfl) rfl (by decide) (O:=dQ 64 false) (x:=tn) (F:=c.px t b (nx.ex sj).2::F0) (R0:=[X,Y]) ⟨A,hs,hA,hO,.refl _⟩ tn.yc rfl hb3 hOt (.refl _) (by omega)) fun v I10 G2 l10 ⟨ra,rn,rc,hv,F7,hG7,hP7⟩=>?_
   refine⟨ra,rn,rc,hv,F7,hG7,ks++[tn],(nx.ex sj).2,by rw[List.length_append,List.length_singleton];omega,hL8, ?_,hP7⟩
   rw[gk,hkd,decide_eq_false (by omega:¬x+1=0),List.map_append,List.append_assoc,List.map_singleton,hpx];rfl
  ·refine k2 f e I8 G l8 ?_ ?_
   ·rw[gk,hkd];exact Kp.kids (hkp _) _ _ _ hd
   ·refine da.more (A:=A++dz ks.length hs) (hf.perm (cV fun z=>by simp only[cX];omega) (.refl _))
 refine⟨fun hlt2=>?_,fun hge=>?_⟩
 ·have hlt2:=of_decide_eq_true hlt2
  have hsz:((many:Int)-x).toNat=((many:Int)-(x+1)).toNat+1:=by omega
  refine⟨fun hpos=>fun b2 I6 l6 hb2=>?_,fun hpos=>?_⟩
  ·have hpos:=of_decide_eq_true hpos
   have hkd:c.dA nx (many-x).toNat (decide (x=0)) si=((nx.ex (c.take (⟨#[44]⟩:ByteArray) si).2).1::(c.dA nx (many-(x+1)).toNat false (nx.ex (c.take (⟨#[44]⟩:ByteArray) si).2).2).1,(c.dA nx (many-(x+1)).toNat false (nx.ex (c.take (⟨#[44]⟩:ByteArray) si).2).2).2):=by
    rw[hsz,PC.dA,decide_eq_false (by omega)];rfl
   refine c7.use (eb hc hLi hb2 (frame _ _)) (fun v H I7 G l7 hL7 hv hG=>.inl ?_) fun f e I7 G l7 hd hf=>.inr ?_
   rotate_left
   ·refine da.dq [_,_] hf fun e' G' hf'=>.inr ⟨f,PC.dH.take ?_ _,da.more (A:=A++dz ks.length hs) (hf'.perm (cV fun z=>by simp only[cX];omega) (.refl _))⟩
    rw[gk,hkd];exact Kp.kids (hkp _) _ _ _ (hkp _ _ hd)
   obtain⟨⟨i2,rfl⟩,rfl⟩:=hv
   refine⟨_,rfl,A++(dz ks.length hs++(c.px t b (c.take (⟨#[44]⟩:ByteArray) si).2::F0)),hG.trans (cV fun z=>by simp only[cW,cX,cZ];omega),key _ _ _ _ _ _ hL7 (.refl _) hkd x0 hlt2 (fun tn I8 G F6 l8 hG8 kA=>.inl ⟨_,_,_,_,_,_,_,_,_,_,rfl,F6,hG8,fun b3 I9 l9 hb3=>?_⟩) fun f e I8 G l8 hd hf=>.inr (da.dq [_,_] hf fun e' G' hf'=>.inr ⟨f,hd.take _,hf'⟩)⟩
   refine dm.mono (kA b3 I9 l9 hb3) fun v I10 G6 l10 ⟨ra,rn,rc,hv,F7,hG7,r⟩=>⟨ra,rn,rc,hv,F7,hG7,(many-(x+1)).toNat,by omega, ?_⟩
   rw[ef (n:=x+1) (by omega)]
   exact⟨rfl,rfl,rfl,rfl,rfl,rfl,rfl,hlt,by omega,by omega,rfl,r⟩
  ·have hpos:x=0:=by have:=of_decide_eq_false hpos;omega
   have hkd:c.dA nx (many-x).toNat (decide (x=0)) si=((nx.ex si).1::(c.dA nx (many-(x+1)).toNat false (nx.ex si).2).1,(c.dA nx (many-(x+1)).toNat false (nx.ex si).2).2):=by
    rw[hsz,PC.dA,decide_eq_true hpos];rfl
   refine key _ _ _ _ _ _ hLi hFp hkd x0 hlt2 (fun tn I8 G F6 l8 hG8 kA=>.inl ⟨_,_,_,_,_,_,_,_,_,_,rfl,F6,hG8,fun b3 I9 l9 hb3=>?_⟩) fun f e I8 G l8 hd hf=>.inr (da.dq [_,_] hf fun e' G' hf'=>.inr ⟨f,hd.take _,hf'⟩)
   refine dm.mono (kA b3 I9 l9 hb3) fun v I10 G6 l10 ⟨ra,rn,rc,hv,F7,hG7,r⟩=>⟨ra,rn,rc,hv,F7,hG7,(many-(x+1)).toNat,by omega, ?_⟩
   rw[ef (n:=x+1) (by omega)]
   exact⟨rfl,rfl,rfl,rfl,rfl,rfl,rfl,hlt,by omega,by omega,rfl,r⟩
 ·have hge:=of_decide_eq_false hge
  intro b5 I6 l6 hb5
  have hxm:((many:Int)-x).toNat=0:=by omega
  have hend:c.dA nx many true (c.take (⟨#[40]⟩:ByteArray) s.inc).2=(ks.map Nd.px,si):=by rw[gk,hxm,PC.dA,List.append_nil]
  rw[hend]
  refine c7.use (eb hc hLi hb5 (frame _ _)) (fun v H I7 G l7 hL7 hv hG=>.inl ?_) fun f e I7 G l7 hd hf=>.inr ?_
  ·obtain⟨⟨i3,rfl⟩,rfl⟩:=hv
   subst hnl
   refine⟨_,rfl,c.px t b (c.take (⟨#[41]⟩:ByteArray) si).2::((A++dz ks.length hs)++F0),hG.trans (cV fun z=>by simp only[cW,cX,cZ];omega),.inl ⟨hL7,_,A++dz ks.length hs,rfl,⟨.mk n0 n1 n2 0 0 ⟨#[]⟩ a k ks (c.tok s.next).pos,rfl, ?_,.mk (t:=.mk n0 n1 n2 0 0 ⟨#[]⟩ a k ks (c.tok s.next).pos) hA (fun h=>by cases h) hO⟩,.refl _⟩⟩
   rw[Nd.px,Nd.qe]
  ·exact da.dq [_,_] hf fun e' G' hf'=>.inr ⟨f,hd,da.more (A:=A++dz ks.length hs) (hf'.perm (cV fun z=>by simp only[cX];omega) (.refl _))⟩
end
end Go.Lx
namespace Go.Lx
open Go.Vc
section
variable {c:PC} {t:ByteArray} {s:PS} {b:Nat} {I:cS} {F F0:cR}
theorem PC.dH.live{f:PF}(h:c.dH f s)(hl:c.Live s):False:=by
 have:=h.1
 unfold PC.fin at this
 rw[hl.1,if_neg (by simp),if_neg (by have:=hl.2;omega)] at this
 cases this
theorem wc{ws:List ByteArray}(h:0≤c.any ws s):∃w∈ws,c.eC w s=true:=by
 have:∀(ws:List ByteArray) (i:Int),0≤c.iw s ws i→∃w∈ws,c.eC w s=true:=by
  intro ws
  induction ws with
  | nil=>intro i h;rw[PC.iw] at h;omega
  | cons w r ih =>
    intro i h
    rw[PC.iw] at h
    by_cases hw:c.eC w s=true
    ·exact⟨w,.head _,hw⟩
    ·rw[if_neg hw] at h
     obtain⟨x,hx,hxw⟩:=ih _ h
     exact⟨x,.tail _ hx,hxw⟩
 exact this ws 0 h
def DB(l m:List ByteArray):Bool:=l.all fun w=>m.all fun x=>!(w.toList==x.toList)
theorem BA{l m:List ByteArray}(hf:DB l m=true)(h:0≤c.any l s):c.any m s<0:=by
 apply Int.not_le.1
 intro h2
 obtain⟨w,hw,h3⟩:=wc h
 obtain⟨x,hx,h4⟩:=wc h2
 unfold PC.eC at h3 h4
 simp only[Bool.and_eq_true,beq_iff_eq] at h3 h4
 have:=List.all_eq_true.1 (List.all_eq_true.1 hf w hw) x hx
 rw[←h3.1,←h4.1] at this
 simp at this
def yx:List ByteArray:=[(⟨#[97,98,115]⟩:ByteArray),(⟨#[109,105,110]⟩:ByteArray),(⟨#[109,97,120]⟩:ByteArray),(⟨#[104,97,115]⟩:ByteArray),(⟨#[40]⟩:ByteArray)]
theorem Ed:(0≤c.any eO s→c.any yx s=c.any eO s)∧(c.any eO s<0→c.any yx s=if c.eC (⟨#[104,97,115]⟩:ByteArray) s then 3 else if c.eC (⟨#[40]⟩:ByteArray) s then 4 else -1):=by
 unfold PC.any yx eO
 simp only[PC.iw]
 generalize c.eC _ s=b1
 generalize c.eC _ s=b2
 generalize c.eC _ s=b3
 generalize c.eC _ s=b4
 generalize c.eC _ s=b5
 cases b1<;>cases b2<;>cases b3<;>cases b4<;>cases b5<;>decide
theorem mH(hc:c.Of t)(hl:c.Live s)(h:(c.literal s).1.2=false):c.literal s=((fG,false),s):=by
 by_cases hk:(c.tok s.next).kind=3
 ·rw[uE hl hk] at h;cases h
 ·have:=yw hc hl hk
  split at this
  ·exact this
  ·rw[this] at h;cases h
theorem c7.leaf{r:Px×PS}{e:Ending}{G:cR}(hL:c.Live r.2){k o ty n f p:Int}{w:ByteArray}(h:r.1=.mk k o ty n f w [] p)(he:e=.returned (Nd.mk k o ty n f w none 0 [] p).v)(hG:G.Perm (c.px t b r.2::F0)):c7 c t b oK F0 r e I G :=
 .inl ⟨hL,_,[],he,⟨_,rfl,by rw[h];simp only[Nd.px,Nd.qd],dQ.leaf⟩,hG⟩
theorem words{b1:Nat}{ws:List ByteArray}{cs:Array Value}(hb:I b1=some (.cells cs 9 (0,0)))(h:cs.toList=ws.flatMap iS):Sl I 1 iS (some ⟨b1,0,none⟩) ws.length ws:=Sl.gQ (f:=iS) (z:=1) (fun _=>rfl) hb h
theorem zq(hc:c.Of t){nx:Lv}{d:Int}(h0:0≤d)(h1:d≤24)(hx:d<24→xC c t 47 (d+1) nx.ex)(hkp:∀f,Kp c f nx.ex)(hl:c.Live s)(hF:F.Perm (c.px t b s::F0)) :
  cU P 128 #[.pointer (some ⟨b,0,none⟩),.int .i64 d] I F (c7 c t b oK F0 (c.one nx d s)):=by
 have hn:=hl.now
 refine fg.vc ?_
 unfold fg.V
 intro b0
 refine c7.use (nQ hc hl (uB hF)) (fun v H I1 G l1 hL hv hG=>.inl ?_) fun f e I1 G l1 hd hf=>.inr ?_
 rotate_left
 ·refine da.dq [_] hf fun e' G' hf'=>.inr ⟨f, ?_,hf'⟩
  cases h2:(c.literal s).1.2 with
  | true=>unfold PC.one;rw[h2,if_pos rfl];exact hd
  | false=>rw[mH hc hl h2] at hd;exact (hd.live hl).elim
 obtain⟨n,rfl,hpx,hO,rfl⟩:=hv
 refine⟨_,_,_,_,_,_,_,_,_,_,_,rfl,c.px t b (c.literal s).2::F0,hG.trans (cV fun z=>by simp only[cW,cX,cZ];omega),fun bn=>⟨fun h2=>?_,fun h2=>?_⟩⟩
 ·have e1:c.one nx d s=((c.literal s).1.1,(c.literal s).2):=by unfold PC.one;rw[h2,if_pos rfl]
  rw[e1]
  exact .inl ⟨hL,_,[],rfl,⟨n,rfl,hpx,hO⟩,.refl _⟩
 have eL:=mH hc hl h2
 clear hG
 rw[eL]
 generalize hF1:c.px t b (((fG,false),s):(Px×Bool)×PS).2::F0=F1
 have hF1:F1.Perm (c.px t b s::F0):=by rw[←hF1]
 have one_:c.one nx d s=if (c.tok s.next).kind=2 then (.mk 2 0 0 0 0 (c.tok s.next).text [] (c.tok s.next).pos,s.inc)
   else if 0≤c.any jh s then (.mk 3 0 0 0 (c.any jh s+1) ⟨#[]⟩ [] (c.tok s.next).pos,s.inc)
   else if 0≤c.any eO s then c.call nx d 8 (3+c.any eO s) 0 (c.tok s.next).pos (if c.any eO s=0 then 1 else 2) s
   else if 0≤c.any iM s then c.call nx d 9 0 (1+c.any iM s) (c.tok s.next).pos 1 s else c.rest nx d s:=by
  unfold PC.one;rw[eL,if_neg (by simp),hn]
 have hp1:∀{J:cS} (X Y:Nat×Obj),dJ J (X::Y::F1) t b (c.tok s.next) (iP (c.tok s.next)):=fun X Y=>.inr (.tail _ (.tail _ (hF1.mem_iff.2 (.head _))))
 have up:∀{G:cR} {X Y:Nat×Obj} {s':PS} {K:cR},G.Perm (c.px t b s'::(K++(X::Y::F0)))→G.Perm (X::Y::(c.px t b s'::(K++F0))):=fun h=>h.trans (cV fun z=>by simp only[cW,cX,cZ];omega)
 refine⟨_,rfl,_,(hp1 _ _).rd.du (p:=1) (q:=4) rfl,_,rfl,_,(hp1 _ _).rd.du (p:=1) (q:=0) rfl,fun h3=>?_,fun h3=>?_⟩
 ·have h3:(c.tok s.next).kind=2:=by simpa using h3
  have e1:c.one nx d s=(.mk 2 0 0 0 0 (c.tok s.next).text [] (c.tok s.next).pos,s.inc):=by rw[one_,if_pos h3]
  have e2:c.name s=((c.tok s.next).text,s.inc):=by unfold PC.name;rw[hn,if_pos h3]
  rw[e1]
  refine c7.use (iX hc hl (fI hF1)) (fun v K I2 G l2 hL hv hG=>.inl ?_) fun f e I2 G l2 hd hf=>.inr ?_
  ·obtain⟨rfl,rfl⟩:=hv
   rw[e2] at hL hG ⊢
   exact⟨_,rfl,_,up hG,.leaf hL rfl rfl (.refl _)⟩
  ·rw[e2] at hd
   exact da.dq [_,_] hf fun e' G' hf'=>.inr ⟨f,hd,hf'⟩
 have h3:(c.tok s.next).kind≠2:=by simpa using h3
 rw[if_neg h3] at one_
 intro b1 I3 l3 hb1
 refine cU.ret (gU hl (hp1 _ _) (words (ws:=jh) hb1 rfl) (by decide)) fun I4 l4=>⟨_,rfl,F1,.refl _,fun h4=>?_,fun h4=>?_⟩
 ·have h4:0≤c.any jh s:=of_decide_eq_true h4
  have hlt:c.any jh s<6:=(dX h4).2
  rw[one_,if_pos h4]
  refine c7.use (dM hc hl (gV hl h4) (fI hF1)) (fun v K I5 G l5 hL hv hG=>.inl ?_) fun f e I5 G l5 hd hf=>.inr (da.dq [_,_] hf fun e' G' hf'=>.inr ⟨f,hd,hf'⟩)
  obtain⟨rfl,rfl⟩:=hv
  refine⟨rfl,_,up hG,.leaf hL rfl ?_ (.refl _)⟩
  rw[w8 (n:=c.any jh s) (by omega),w8 (n:=1+c.any jh s) (by omega),Int.add_comm 1];rfl
 have h4:¬0≤c.any jh s:=of_decide_eq_false h4
 rw[if_neg h4] at one_
 have pass:∀{r:Px×PS} {g:Nat} {args:Array Value} {I5:cS} {X Y:Nat×Obj} {H1:cR} {Q':Ending→cS→cR→Prop},cU P g args I5 H1 (c7 c t b oK (X::Y::F0) r) →
   (∀(n:Nd) (I6:cS) (G F8:cR),G.Perm (X::Y::F8)→c7 c t b oK F0 r (.returned n.v) I6 F8→Q' (.returned n.v) I6 G)→(∀(f:PF) (e:Ending) (I6:cS) (G:cR),c.dH f r.2→da f ([X,Y]++F0) e G→Q' e I6 G)→cU P g args I5 H1 Q':=fun h k1 k2 =>
  c7.use h (fun v K I6 G l6 hL hv hG=>by
   obtain⟨n,rfl,hv⟩:=hv
   exact k1 n I6 G _ (up hG) (.inl ⟨hL,_,K,rfl,⟨n,rfl,hv⟩,.refl _⟩)) fun f e I6 G l6 hd hf=>k2 f e I6 G hd hf
 intro b2 I6 l6 hb2
 refine cU.ret (gU hl (hp1 _ _) (words (ws:=iM) hb2 rfl) (by decide)) fun I7 l7=>⟨_,rfl,F1,.refl _,fun h5=>?_,fun h5=>?_⟩
 ·have h5:0≤c.any iM s:=of_decide_eq_true h5
  have hlt:c.any iM s<4:=(dX h5).2
  have h6:c.any eO s<0:=BA (by kernel_rfl:DB iM eO=true) h5
  rw[one_,if_neg (by omega),if_pos h5]
  have hw:IntKind.wrap .u8 (1+IntKind.wrap .u8 (c.any iM s))=1+c.any iM s:=by rw[w8 (n:=c.any iM s) (by omega),w8 (by omega)]
  rw[hw]
  exact pass (qk hc hl (gV hl h5) h0 h1 hx hkp 9 0 (1+c.any iM s) 0 1 (by decide) (fI hF1)) (fun n I8 G F8 hG hD=>.inl ⟨_,_,_,_,_,_,_,_,_,_,rfl,F8,hG,hD⟩) fun f e I8 G hd hf=>.inr (da.dq [_,_] hf fun e' G' hf'=>.inr ⟨f,hd,hf'⟩)
 have h5:¬0≤c.any iM s:=of_decide_eq_false h5
 rw[if_neg h5] at one_
 intro b3 I9 l9 hb3
 obtain⟨a1,a2⟩:=Ed (c:=c) (s:=s)
 refine cU.ret (gU hl (hp1 _ _) (words (ws:=yx) hb3 rfl) (by decide)) fun I10 l10=>⟨_,rfl,F1,.refl _, ?_⟩
 by_cases hcall:0≤c.any eO s
 ·have hlt:c.any eO s<3:=(dX hcall).2
  rw[a1 hcall,one_,if_pos hcall]
  have hkd:=gV hl hcall
  refine⟨fun h6=>?_,fun h6=>⟨fun h7=>?_,fun h7=>⟨fun h8=>?_,fun h8=>?_⟩⟩⟩
  ·have h6:c.any eO s=0:=by simpa using h6
   rw[h6,if_pos rfl]
   exact pass (qk hc hl hkd h0 h1 hx hkp 8 3 0 0 1 (by decide) (fI hF1)) (fun n I8 G F8 hG hD=>.inl ⟨_,_,_,_,_,_,_,_,_,_,rfl,F8,hG,hD⟩) fun f e I8 G hd hf=>.inr (da.dq [_,_] hf fun e' G' hf'=>.inr ⟨f,hd,hf'⟩)
  ·have h7:c.any eO s=1:=by simpa using h7
   rw[h7,if_neg (by decide)]
   exact pass (qk hc hl hkd h0 h1 hx hkp 8 4 0 0 2 (by decide) (fI hF1)) (fun n I8 G F8 hG hD=>.inl ⟨_,_,_,_,_,_,_,_,_,_,rfl,F8,hG,hD⟩) fun f e I8 G hd hf=>.inr (da.dq [_,_] hf fun e' G' hf'=>.inr ⟨f,hd,hf'⟩)
  ·have h8:c.any eO s=2:=by simpa using h8
   rw[h8,if_neg (by decide)]
   exact pass (qk hc hl hkd h0 h1 hx hkp 8 5 0 0 2 (by decide) (fI hF1)) (fun n I8 G F8 hG hD=>.inl ⟨_,_,_,_,_,_,_,_,_,_,rfl,F8,hG,hD⟩) fun f e I8 G hd hf=>.inr (da.dq [_,_] hf fun e' G' hf'=>.inr ⟨f,hd,hf'⟩)
  ·have h6:c.any eO s≠0:=by simpa using h6
   have h7:c.any eO s≠1:=by simpa using h7
   have h8:c.any eO s≠2:=by simpa using h8
   omega
 rw[if_neg hcall] at one_
 rw[a2 (by omega),one_]
 unfold PC.rest
 have isk:∀{w:ByteArray},c.eC w s=true→(c.tok s.next).kind≠0:=fun h hk=>by
  unfold PC.eC at h;rw[hn,hk] at h;simp at h
 by_cases hhas:c.eC (⟨#[104,97,115]⟩:ByteArray) s=true
 ·rw[if_pos hhas,if_pos hhas]
  refine⟨fun h=>absurd h (by decide),fun _=>⟨fun h=>absurd h (by decide),fun _=>⟨fun h=>absurd h (by decide),fun _=>⟨fun _=>?_,fun h=>absurd h (by decide)⟩⟩⟩⟩
  have hst:∀(x:Px),(if c.any [(⟨#[98,105,100]⟩:ByteArray),(⟨#[97,115,107]⟩:ByteArray),(⟨#[108,97,115,116]⟩:ByteArray)] s.inc<0 then (fG,c.c8 130 s.inc) else (x,s.inc.inc):Px×PS).2=(c.oneOf [(⟨#[98,105,100]⟩:ByteArray),(⟨#[97,115,107]⟩:ByteArray),(⟨#[108,97,115,116]⟩:ByteArray)] s.inc).2:=fun x=>by
   unfold PC.oneOf;split<;>rfl
  refine c7.use (dM hc hl (isk hhas) (fI hF1)) (fun v K I5 G l5 hL hv hG=>.inl ?_) fun f e I5 G l5 hd hf=>.inr (da.dq [_,_] hf fun e' G' hf'=>.inr ⟨f, ?_,hf'⟩)
  rotate_left
  ·rw[hst,PC.oneOf,hd.any,if_pos (by decide)];exact hd.c8 _
  obtain⟨rfl,rfl⟩:=hv
  refine⟨rfl,_,up hG,fun b4 I8 l8 hb4=>?_⟩
  refine c7.use (pj hc hL (words (ws:=[(⟨#[98,105,100]⟩:ByteArray),(⟨#[97,115,107]⟩:ByteArray),(⟨#[108,97,115,116]⟩:ByteArray)]) hb4 rfl) (by decide) (fI (.refl _))) (fun v K I9 G l9 hL9 hv hG=>.inl ?_) fun f e I9 G l9 hd hf=>.inr (da.dq [_,_] hf fun e' G' hf'=>.inr ⟨f,by rw[hst];exact hd,hf'⟩)
  obtain⟨rfl,rfl⟩:=hv
  have hge:¬c.any [(⟨#[98,105,100]⟩:ByteArray),(⟨#[97,115,107]⟩:ByteArray),(⟨#[108,97,115,116]⟩:ByteArray)] s.inc<0:=fun hlt=>by
   have:(c.oneOf [(⟨#[98,105,100]⟩:ByteArray),(⟨#[97,115,107]⟩:ByteArray),(⟨#[108,97,115,116]⟩:ByteArray)] s.inc).2=c.c8 130 s.inc:=if_pos hlt
   rw[this] at hL9
   exact (hL.c8 (e:=130) (by decide)).2.live hL9
  have hlt:c.any [(⟨#[98,105,100]⟩:ByteArray),(⟨#[97,115,107]⟩:ByteArray),(⟨#[108,97,115,116]⟩:ByteArray)] s.inc<3:=(dX (Int.not_lt.1 hge)).2
  have e2:(c.oneOf [(⟨#[98,105,100]⟩:ByteArray),(⟨#[97,115,107]⟩:ByteArray),(⟨#[108,97,115,116]⟩:ByteArray)] s.inc).2=s.inc.inc:=if_neg hge
  rw[e2] at hL9 hG
  rw[if_neg hge]
  refine⟨_,rfl,_,up hG,.leaf hL9 (by rw[hn]) ?_ (.refl _)⟩
  show _=Ending.returned (Value.agg #[_,_,_,_,.int .u8 (c.any [(⟨#[98,105,100]⟩:ByteArray),(⟨#[97,115,107]⟩:ByteArray),(⟨#[108,97,115,116]⟩:ByteArray)] s.inc+1),_,_,_])
  show Ending.returned (Value.agg #[_,_,_,_,.int .u8 (IntKind.wrap .u8 (1+IntKind.wrap .u8 (c.any [(⟨#[98,105,100]⟩:ByteArray),(⟨#[97,115,107]⟩:ByteArray),(⟨#[108,97,115,116]⟩:ByteArray)] s.inc))),_,_,_])=_
  rw[w8 (n:=c.any [(⟨#[98,105,100]⟩:ByteArray),(⟨#[97,115,107]⟩:ByteArray),(⟨#[108,97,115,116]⟩:ByteArray)] s.inc) (by omega),w8 (n:=1+c.any [(⟨#[98,105,100]⟩:ByteArray),(⟨#[97,115,107]⟩:ByteArray),(⟨#[108,97,115,116]⟩:ByteArray)] s.inc) (by omega),Int.add_comm 1];rfl
 have hhas:c.eC (⟨#[104,97,115]⟩:ByteArray) s=false:=by simpa using hhas
 have ff:¬(false=true):=by decide
 rw[hhas,if_neg ff,if_neg ff]
 by_cases hop:c.eC (⟨#[40]⟩:ByteArray) s=true
 ·rw[if_pos hop,if_pos hop]
  refine⟨fun h=>absurd h (by decide),fun _=>⟨fun h=>absurd h (by decide),fun _=>⟨fun h=>absurd h (by decide),fun _=>⟨fun h=>absurd h (by decide),fun _=>⟨fun _=>?_,fun h=>absurd h (by decide)⟩⟩⟩⟩⟩
  refine (mG (hp1 _ _) h0 h1).mono fun e I5 G l5 hd=>?_
  rcases hd with ⟨hlt,rfl,rfl⟩ | ⟨rfl,hf⟩
  rotate_left
  ·rw[(kM hl).1,if_pos rfl]
   exact .inr (da.dq [_,_] (hf.perm (F1:=[_,_]++F1) (.refl _) (.refl _)) fun e' G' hf'=>.inr ⟨_,(kM hl).2,hf'.tail hF1⟩)
  rw[po hlt,hl.1,if_neg (by simp)]
  refine .inl ⟨_,rfl,F1,.refl _, ?_⟩
  refine c7.use (dM hc hl (isk hop) (fI hF1)) (fun v K I6 G l6 hL hv hG=>.inl ?_) fun f e I6 G l6 hd hf=>.inr (da.dq [_,_] hf fun e' G' hf'=>.inr ⟨f,(hkp f _ hd).take _,hf'⟩)
  obtain⟨rfl,rfl⟩:=hv
  refine⟨rfl,_,up hG, ?_⟩
  refine c7.use (hx hlt b s.inc I6 _ _ hL (fI (.refl _))) (fun v K I7 G l7 hL7 hv hG=>.inl ?_) fun f e I7 G l7 hd hf=>.inr (da.dq [_,_] hf fun e' G' hf'=>.inr ⟨f,hd.take _,hf'⟩)
  obtain⟨n7,rfl,hpx7,hO7⟩:=hv
  refine⟨_,_,_,_,_,_,_,_,_,_,rfl,_,up hG,fun bn1 b5 I8 l8 hb5=>?_⟩
  refine c7.use (eb hc hL7 hb5 (F0:=_::_::_::(K++F0)) (uC (.refl _))) (fun v L I9 G l9 hL9 hv hG=>.inl ?_) fun f e I9 G l9 hd hf=>.inr (da.dq [_,_,_] hf fun e' G' hf'=>.inr ⟨f,hd,hf'.more⟩)
  obtain⟨⟨i9,rfl⟩,rfl⟩:=hv
  exact⟨_,rfl,c.px t b (c.take (⟨#[41]⟩:ByteArray) (nx.ex s.inc).2).2::(K++F0),hG.trans (cV fun z=>by simp only[cW,cX,cZ];omega),.inl ⟨hL9,_,K,rfl,⟨n7,rfl,hpx7,hO7⟩,.refl _⟩⟩
 have hop:c.eC (⟨#[40]⟩:ByteArray) s=false:=by simpa using hop
 rw[hop,if_neg ff,if_neg ff]
 refine⟨fun h=>absurd h (by decide),fun _=>⟨fun h=>absurd h (by decide),fun _=>⟨fun h=>absurd h (by decide),fun _=>⟨fun h=>absurd h (by decide),fun _=>⟨fun h=>absurd h (by decide),fun _=>?_⟩⟩⟩⟩⟩
 refine (eV (hp1 _ _) 130).mono fun e I5 G l5 hf=>.inr ?_
 exact da.dq [_,_] (hf.perm (F1:=[_,_]++F1) (.refl _) (.refl _)) fun e' G' hf'=>.inr ⟨_,(hl.c8 (by decide)).2,hf'.tail hF1⟩
end
end Go.Lx
