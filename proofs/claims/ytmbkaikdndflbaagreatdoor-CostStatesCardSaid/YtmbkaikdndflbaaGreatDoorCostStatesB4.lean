import Derived.Test.YtmbkaikdndflbaaGreatDoorCostStatesB3
set_option linter.unusedVariables false
set_option linter.unusedSimpArgs false
set_option linter.unusedSectionVars false
set_option maxRecDepth 100000
namespace Go.Lx
open Go.Vc
theorem vX{a:Option Addr}{n c b1:Nat}{ks:List Nd}{A F R:b8}{I:cc}(hA:Acc 8 Nd.enc 28 a n c ks A)(hl:ks.length≤1000000)(t:Nd)(hb:I b1=some (.cells t.enc.toArray 28 (0,0)))(hF:F.Perm (A++R)) :
  cF P (Builtin.append_ #[26,26] 26 #[.slice a n c,.slice (some ⟨b1,0,none⟩) 1 1]) I F fun v I' G=>∃a' n' c' A',v=.slice a' n' c'∧Acc 8 Nd.enc 28 a' n' c' (ks++[t]) A'∧G.Perm (A'++R):=by
 refine cF.perm (cF.mono (iD (f:=Nd.enc) (z:=8) (zv:=iU.v) Nd.nq (by':=72) (by kernel_rfl) (by kernel_rfl) rfl (by decide) hA (xs:=[t]) (fun x hx=>by rw[List.mem_singleton] at hx;subst hx;exact Nd.Gp x) (by simp) rfl ?_ (by simp only[List.length_cons,List.length_nil];omega) (F:=R)) fun v I' G _ ⟨a',n',c',A',h1,h2,h3,_⟩=>⟨a',n',c',A',h1,h2,by rw[h3]⟩) hF
 exact⟨rfl,_,_,_,.inl hb,fun j hj=>by simp⟩
section
variable {q:PQ} {b:Nat} {s:PS} {I:cc} {F F0:b8}
theorem xN(hq:q.ok I)(hF:F.Perm (q.cr b s::F0)):cf P 123 #[.pointer (some ⟨b,0,none⟩)] I F fun e1 I' G=>∃t:Nd,e1=.returned (.tuple #[t.v,.bool (q.c.literal s).1.2])∧t.px=(q.c.literal s).1.1∧cC I' [] t∧G.Perm (q.cr b (q.c.literal s).2::F0):=by
 have hm:q.cr b s∈F:=hF.mem_iff.2 (.head _)
 have hl:=hq.len
 refine eE.vc (fun x b0 b1 b2 b3 b4 b5 ba bn bc b7 n0 n1 n2 n3 n4 n5 na nn nc n7 I' F'=>F'=F∧na=none∧nn=0∧nc=0∧q.c.literal s=((.mk n0 n1 n2 n3 n4 n5 [] n7,true),s.inc)∧s.next<q.c.l.length) ?_
 unfold eE.V
 intro b1
 refine cf.ret (j3 hq (.tail _ hm)) fun I1 l1=>⟨_,_,_,_,_,rfl,F,.refl _,fun b_t b_n=>⟨?_,fun x b0 b1' b2 b3 b4 b5 ba bn bc b7 n0 n1 n2 n3 n4 n5 na nn nc n7 I2 F2 l2 ⟨gF,ga,gn,gc,ge,hlt⟩=>?_⟩⟩
 ·have hk3:(q.c.now s).kind=3→s.next<q.c.l.length:=fun h=>mj (by rw[h];decide)
  have hk1:(q.c.now s).kind=1→s.next<q.c.l.length:=fun h=>mj (by rw[h];decide)
  have hz:∀(I':cc),q.c.literal s=((o5,false),s)→∃t:Nd,Ending.returned (.tuple #[iU.v,.bool false])=.returned (.tuple #[t.v,.bool (q.c.literal s).1.2])∧t.px=(q.c.literal s).1.1∧cC I' [] t∧F.Perm (q.cr b (q.c.literal s).2::F0):=fun I' h=>by
   rw[h];exact⟨iU,rfl,by simp only[iU,Nd.px,Nd.BD];rfl,.leaf,hF⟩
  unfold PC.literal at hz ⊢
  generalize q.c.now s=t at *
  generalize (⟨#[116,114,117,101]⟩:ByteArray).toList=wt at *
  generalize (⟨#[102,97,108,115,101]⟩:ByteArray).toList=wf at *
  generalize (⟨#[98,117,121]⟩:ByteArray).toList=wb at *
  generalize (⟨#[115,101,108,108]⟩:ByteArray).toList=ws at *
  simp only[beq_iff_eq,beq_eq_false_iff_ne,ne_eq]
  repeat' (first | (with_reducible apply And.intro) | (with_reducible intro h))
  all_goals first
   | rfl
   | (refine hz I1 ?_;simp_all;done)
   | (simp_all [Gu];done)
   | (exfalso;simp_all;done)
 ·subst gF ga gn gc
  refine⟨_,rfl,_,PQ.rd (k:=3) (.tail _ (.tail _ (.tail _ hm))) rfl,_,rfl,q.cl s,107,F0,hF,PQ.spot _ _,by rw[PQ.off];exact (by decide:3+1≤7), ?_⟩
  rw[PQ.eh (by omega),ge]
  exact⟨.mk n0 n1 n2 n3 n4 n5 none 0 [] n7,rfl,by simp only[Nd.px,Nd.BD],.leaf,.refl _⟩
end
end Go.Lx
namespace Go.Lx
open Go.Vc
theorem mr{α:Type}{x z:α}{l:List α}:(x::z::l).Perm (z::x::l):=.swap ..
theorem dm{α:Type}{x y z:α}{l:List α}:(x::y::z::l).Perm (z::x::y::l):=((List.Perm.swap z y l).cons x).trans (.swap ..)
theorem uk{α:Type}{x y w z:α}{l:List α}:(x::y::w::z::l).Perm (z::x::y::w::l):=(dm.cons x).trans (.swap ..)
theorem D5{α:Type}{x y w z:α}{A l:List α}:(x::y::w::z::(A++l)).Perm (A++(x::y::w::z::l)):=by
 have h:=List.perm_append_comm_assoc [x,y,w,z] A l
 exact h
theorem An(l:List Nd)(t:Nd):(l++[t]).map Nd.px=l.map Nd.px++[t.px]:=by rw[List.map_append,List.map_singleton]
theorem Sl.words{I:cc}{b1 e:Nat}{ws:List ByteArray}{cells:Array Value}(hb:I b1=some (.cells cells e (0,0)))(h:cells.toList=ws.flatMap vI):Sl I 1 vI (some ⟨b1,0,none⟩) ws.length ws:=Sl.kU (f:=vI) (z:=1) (fun _=>rfl) hb h
section
variable {q:PQ} {b:Nat} {s:PS} {I:cc} {F F0:b8} {nx:Lv} {d:Int} (h0:0≤d) (h1:d≤24) (hx:d+1≤24→ej 53 q (d+1) nx.ex) (hmx:dW q.c nx.ex)
include h0 h1 hx hmx
theorem B0(hq:q.ok I)(kind oper cO pos:Int)(many:Nat)(hmy:many≤2)(hlt:s.next<q.c.l.length)(hF:F.Perm (q.cr b s::F0)) :
  cf P 173 #[.pointer (some ⟨b,0,none⟩),.agg #[.int .u8 kind,.int .u8 oper,.int .u8 cO,.int .i64 0,.int .u8 0,.string ⟨#[]⟩,.slice none 0 0,.int .i64 pos],.int .i64 many,.int .i64 d] I F (fO q b F0 (q.c.call nx d kind oper cO pos many s)):=by
 have hl:=hq.len
 refine Al.keep ?_
 refine fL.vc (fun i n0 n1 n2 n3 n4 n5 na nn nc n7 m I' F'=>0≤i∧i≤many∧m=(many-i).toNat∧n0=kind∧n1=oper∧n2=cO∧n3=0∧n4=0∧n5=⟨#[]⟩∧n7=pos∧q.ok I'∧∃(ks:List Nd) (A:b8) (s':PS),Acc 8 Nd.enc 28 na nn nc ks A∧(∀k∈ks,cC I' [] k)∧F'.Perm (q.cr b s'::(A++F0))∧s'.next≤q.c.l.length∧ks.length=i ∧
  q.c.o6 nx many true (q.c.take (⟨#[40]⟩:ByteArray) s.inc).2=(ks.map Nd.px++(q.c.o6 nx (many-i.toNat) (decide (i=0)) s').1,(q.c.o6 nx (many-i.toNat) (decide (i=0)) s').2)) ?_
 unfold fL.V
 intro b_n b2
 refine (sd hq d h0 (by omega) (((hF.cons _).cons _).trans dm)).mono fun e I1 G l1 ⟨he,hG⟩=>⟨_,he,q.cr b (q.c.cQ d s)::F0,hG.trans dm.symm,fun h=>?_,fun h=>?_⟩
 ·have h:(q.c.cQ d s).over=true:=by simpa using h
  unfold PC.call
  rw[if_pos h]
  exact⟨iU,[],rfl,by simp only[iU,Nd.px,Nd.BD];rfl,.inl Acc.nil,fun k hk=>(by cases hk),.refl _⟩
 have h:(q.c.cQ d s).over=false:=by simpa using h
 obtain⟨hd,hde⟩:=iu hlt h
 have hcall:q.c.call nx d kind oper cO pos many s=(.mk kind oper cO 0 0 ⟨#[]⟩ (q.c.o6 nx many true (q.c.take (⟨#[40]⟩:ByteArray) s.inc).2).1 pos,(q.c.take (⟨#[41]⟩:ByteArray) (q.c.o6 nx many true (q.c.take (⟨#[40]⟩:ByteArray) s.inc).2).2).2):=by
  unfold PC.call
  rw[if_neg (by simp[h]),hde]
 rw[hde,hcall]
 have hq1:=hq.mono l1
 refine⟨_,rfl,_,PQ.rd (k:=3) (.tail _ (.tail _ (.head _))) rfl,_,rfl,q.cl s,107,F0,.refl _,PQ.spot _ _,by rw[PQ.off];exact (by decide:3+1≤7), ?_⟩
 rw[PQ.eh (by omega)]
 refine (dV hq1 _ (s:=s.inc) dm).mono fun e I2 G2 l2 ⟨he,hG2⟩=>⟨_,he,q.cr b (q.c.take (⟨#[40]⟩:ByteArray) s.inc).2::F0,hG2.trans dm.symm,⟨_,by omega,by omega,rfl,rfl,rfl,rfl,rfl,rfl,rfl,rfl,hq1.mono l2,[],[],_,Acc.nil,fun k hk=>(by cases hk),.refl _, ?_,rfl, ?_⟩, ?_⟩
 ·exact (Up.take _).2 hlt
 ·simp
 intro i n0 n1 n2 n3 n4 n5 na nn nc n7 m2 I3 F4 l3 ⟨i0,i1,im,e0,e1,e2,e3,e4,e5,e7,hq3,ks,A,s',hA,hks,hF4,hsn,hkl,hke⟩
 subst e0 e1 e2 e3 e4 e5 e7
 refine⟨fun hi=>?_,fun hi=>?_⟩
 ·have hi:=of_decide_eq_true hi
  have hmi:many-i.toNat=(many-(i+1).toNat)+1:=by omega
  rw[hmi,PC.o6] at hke
  have step:∀(s1:PS) (J:cc) (t:Nd) (e1:Ending) (I5:cc) (G5:b8) (F6:b8),True:=fun _ _ _ _ _ _ _=>trivial
  refine⟨fun hp=>?_,fun hp=>?_⟩
  ·have hp:=of_decide_eq_true hp
   refine (dV hq3 _ (s:=s') (((hF4.cons _).cons _).trans dm)).mono fun e I4 G4 l4 ⟨he,hG4⟩=>⟨_,he,q.cr b (q.c.take (⟨#[44]⟩:ByteArray) s').2::(A++F0),hG4.trans dm.symm, ?_⟩
   have hq4:=hq3.mono l4
   have hn1:(q.c.take (⟨#[44]⟩:ByteArray) s').2.next≤q.c.l.length:=(Up.take _).2 hsn
   rw[cY (n:=d+1) (by omega)]
   refine (hx hd b _ I4 _ _ hq4 hn1 dm).mono fun e I5 G5 l5 ⟨t,he,px,hok,hG5⟩=>?_
   rw[show decide (i=0)=false from decide_eq_false (by omega)] at hke
   refine⟨_,_,_,_,_,_,_,_,_,_,he,q.cr b (nx.ex (q.c.take (⟨#[44]⟩:ByteArray) s').2).2::(A++F0),hG5.trans dm.symm,fun b_k b4 I6 l6 hb4=>?_⟩
   refine (vX hA (by omega) t hb4 D5).mono fun v I7 G7 l7 ⟨a',n',c',A',hv,hA',hG7⟩=>⟨a',n',c',hv,q.cr b (nx.ex (q.c.take (⟨#[44]⟩:ByteArray) s').2).2::(A'++F0),hG7.trans D5.symm,(many-(i+1)).toNat,by omega, ?_⟩
   rw[cY (n:=i+1) (by omega)]
   refine⟨by omega,by omega,rfl,rfl,rfl,rfl,rfl,rfl,rfl,rfl,(hq4.mono l5).mono (cc.le_trans l6 l7),ks++[t],A',_,hA',fun k hk=>?_,.refl _,(hmx _).2 hn1,by rw[List.length_append,List.length_singleton];omega, ?_⟩
   ·rcases List.mem_append.1 hk with hk | hk
    ·exact (hks k hk).mono (cc.le_trans l4 (cc.le_trans l5 (cc.le_trans l6 l7))) fun _ h=>h
    ·rw[List.mem_singleton] at hk;subst hk;exact hok.mono (cc.le_trans l6 l7) fun _ h=>h
   ·rw[hke,show decide (i+1=0)=false from decide_eq_false (by omega),An,px,List.append_assoc];rfl
  ·have hp:=of_decide_eq_false hp
   rw[cY (n:=d+1) (by omega)]
   refine (hx hd b s' I3 _ _ hq3 hsn (((hF4.cons _).cons _).trans dm)).mono fun e I5 G5 l5 ⟨t,he,px,hok,hG5⟩=>?_
   rw[show decide (i=0)=true from decide_eq_true (by omega)] at hke
   refine⟨_,_,_,_,_,_,_,_,_,_,he,q.cr b (nx.ex s').2::(A++F0),hG5.trans dm.symm,fun b_k b4 I6 l6 hb4=>?_⟩
   refine (vX hA (by omega) t hb4 D5).mono fun v I7 G7 l7 ⟨a',n',c',A',hv,hA',hG7⟩=>⟨a',n',c',hv,q.cr b (nx.ex s').2::(A'++F0),hG7.trans D5.symm,(many-(i+1)).toNat,by omega, ?_⟩
   rw[cY (n:=i+1) (by omega)]
   refine⟨by omega,by omega,rfl,rfl,rfl,rfl,rfl,rfl,rfl,rfl,(hq3.mono l5).mono (cc.le_trans l6 l7),ks++[t],A',_,hA',fun k hk=>?_,.refl _,(hmx _).2 hsn,by rw[List.length_append,List.length_singleton];omega, ?_⟩
   ·rcases List.mem_append.1 hk with hk | hk
    ·exact (hks k hk).mono (cc.le_trans l5 (cc.le_trans l6 l7)) fun _ h=>h
    ·rw[List.mem_singleton] at hk;subst hk;exact hok.mono (cc.le_trans l6 l7) fun _ h=>h
   ·rw[hke,show decide (i+1=0)=false from decide_eq_false (by omega),An,px,List.append_assoc];rfl
 ·have hi:=of_decide_eq_false hi
  rw[show many-i.toNat=0 by omega,PC.o6,List.append_nil] at hke
  refine (dV hq3 _ (s:=s') (((hF4.cons _).cons _).trans dm)).mono fun e I4 G4 l4 ⟨he,hG4⟩=>⟨_,he,q.cr b (q.c.take (⟨#[41]⟩:ByteArray) s').2::(A++F0),hG4.trans dm.symm, ?_⟩
  rw[hke]
  have hn:=hA.1
  subst hn
  exact⟨.mk n0 n1 n2 0 0 ⟨#[]⟩ na nc ks n7,A,rfl,by rw[Nd.px,Nd.uA],.inl hA,fun k hk=>(hks k hk).mono l4 fun _ h=>h,.refl _⟩
end
end Go.Lx
namespace Go.Lx
open Go.Vc
theorem qD{q:PQ}{s:PS}{ws:List ByteArray}(h:0≤q.c.any ws s)(hl:ws.length≤6):q.c.any ws s≤5:=by have:=(ed h).2;omega
section
variable {q:PQ} {b:Nat} {s:PS} {I:cc} {F F0:b8} {nx:Lv} {d:Int} (h0:0≤d) (h1:d≤24) (hx:d+1≤24→ej 53 q (d+1) nx.ex) (hmx:dW q.c nx.ex)
include h0 h1 hx hmx
theorem HR(hq:q.ok I)(hsn:s.next≤q.c.l.length)(hF:F.Perm (q.cr b s::F0)):cf P 174 #[.pointer (some ⟨b,0,none⟩),.int .i64 d] I F (fO q b F0 (q.c.rest nx d s)):=by
 have _:=hmx
 have hl:=hq.len
 have hm:q.cr b s∈F:=hF.mem_iff.2 (.head _)
 refine fM.vc ?_
 unfold fM.V
 intro b2
 refine cf.ret (j3 hq (.tail _ hm)) fun I1 l1=>⟨_,_,_,_,_,rfl,F,.refl _, ?_⟩
 have hq1:=hq.mono l1
 refine cf.ret (ri hq1 _ (.tail _ hm)) fun I2 l2=>⟨_,rfl,F,.refl _,fun hh=>?_,fun hh=>?_⟩
 ·have hlt:=eb hh
  have hq2:=hq1.mono l2
  refine⟨_,rfl,_,PQ.rd (k:=3) (.tail _ hm) rfl,_,rfl,q.cl s,107,F0,hF,PQ.spot _ _,by rw[PQ.off];exact (by decide:3+1≤7),fun b3 I3 l3 hb3=>?_⟩
  rw[PQ.eh (by omega)]
  have hq3:=hq2.mono l3
  refine cf.ret (oE hq3 (Sl.words (ws:=[(⟨#[98,105,100]⟩:ByteArray),(⟨#[97,115,107]⟩:ByteArray),(⟨#[108,97,115,116]⟩:ByteArray)]) hb3 rfl) (by decide) (s:=s.inc) (.tail _ (.head _))) fun I4 l4=>⟨_,rfl,q.cr b s.inc::F0,.refl _,fun ha=>?_,fun ha=>?_⟩
  ·have ha:=of_decide_eq_true ha
   refine (fg (hq3.mono l4) 130 (s:=s.inc) mr).mono fun e I5 G l5 ⟨he,hG⟩=>⟨he,q.cr b (q.c.c5 130 s.inc)::F0,hG.trans mr, ?_⟩
   unfold PC.rest
   rw[if_pos hh,if_pos ha]
   exact fO.nil rfl (.refl _)
  ·have ha:=of_decide_eq_false ha
   have hab:=qD (Int.not_lt.1 ha) (by decide)
   have hlt2:=(ed (Int.not_lt.1 ha)).1
   refine⟨_,rfl,_,PQ.rd (k:=3) (.tail _ (.head _)) rfl,_,rfl,q.cl s.inc,107,F0,.refl _,PQ.spot _ _,by rw[PQ.off];exact (by decide:3+1≤7), ?_⟩
   rw[PQ.eh (s:=s.inc) (by omega),cY (n:=q.c.any [(⟨#[98,105,100]⟩:ByteArray),(⟨#[97,115,107]⟩:ByteArray),(⟨#[108,97,115,116]⟩:ByteArray)] s.inc+1) (by omega),w8 (by omega)]
   unfold PC.rest
   rw[if_pos hh,if_neg ha]
   exact fO.nil rfl (.refl _)
 ·have hq2:=hq1.mono l2
  refine cf.ret (ri hq2 _ (.tail _ hm)) fun I3 l3=>⟨_,rfl,F,.refl _,fun hb=>?_,fun hb=>?_⟩
  ·have hb:q.c.lj (⟨#[40]⟩:ByteArray) s=false:=by simpa using hb
   refine (fg (hq2.mono l3) 130 ((hF.cons _).trans mr)).mono fun e I5 G l5 ⟨he,hG⟩=>⟨he,q.cr b (q.c.c5 130 s)::F0,hG.trans mr, ?_⟩
   unfold PC.rest
   rw[if_neg (by simp[hh]),if_neg (by simp[hb])]
   exact fO.nil rfl (.refl _)
  ·have hb:q.c.lj (⟨#[40]⟩:ByteArray) s=true:=by simpa using hb
   have hlt:=eb hb
   have hq3:=hq2.mono l3
   refine (sd hq3 d h0 (by omega) ((hF.cons _).trans mr)).mono fun e I4 G l4 ⟨he,hG⟩=>⟨_,he,q.cr b (q.c.cQ d s)::F0,hG.trans mr,fun h=>?_,fun h=>?_⟩
   ·have h:(q.c.cQ d s).over=true:=by simpa using h
    unfold PC.rest
    rw[if_neg (by simp[hh]),if_pos hb,if_pos h]
    exact fO.nil rfl (.refl _)
   ·have h:(q.c.cQ d s).over=false:=by simpa using h
    obtain⟨hd,hde⟩:=iu hlt h
    have hr:q.c.rest nx d s=((nx.ex s.inc).1,(q.c.take (⟨#[41]⟩:ByteArray) (nx.ex s.inc).2).2):=by
     unfold PC.rest
     rw[if_neg (by simp[hh]),if_pos hb,if_neg (by simp[h]),hde]
    rw[hde,hr]
    refine⟨_,rfl,_,PQ.rd (k:=3) (.tail _ (.head _)) rfl,_,rfl,q.cl s,107,F0,.refl _,PQ.spot _ _,by rw[PQ.off];exact (by decide:3+1≤7), ?_⟩
    rw[PQ.eh (by omega),cY (n:=d+1) (by omega)]
    have hq4:=hq3.mono l4
    refine (hx hd b s.inc I4 _ _ hq4 hlt mr).mono fun e I5 G5 l5 ⟨t,he,px,hok,hG5⟩=>?_
    refine⟨_,_,_,_,_,_,_,_,_,_,he,q.cr b (nx.ex s.inc).2::F0,hG5.trans mr,fun b_n=>?_⟩
    refine (dV (hq4.mono l5) _ (s:=(nx.ex s.inc).2) dm).mono fun e I6 G6 l6 ⟨he,hG6⟩=>⟨_,he,q.cr b (q.c.take (⟨#[41]⟩:ByteArray) (nx.ex s.inc).2).2::F0,hG6.trans dm.symm, ?_⟩
    exact⟨t,rfl,px,hok.mono l6 fun _ h=>h,.refl _⟩
theorem Ja(hq:q.ok I)(hsn:s.next≤q.c.l.length)(hF:F.Perm (q.cr b s::F0)):cf P 172 #[.pointer (some ⟨b,0,none⟩),.int .i64 d] I F (fO q b F0 (q.c.one nx d s)):=by
 have hl:=hq.len
 refine gp.vc ?_
 unfold gp.V
 intro b2
 refine (xN hq ((hF.cons _).trans mr)).mono fun e I1 G l1 ⟨t,he,px,hok,hG⟩=>?_
 refine⟨_,_,_,_,_,_,_,_,_,_,_,he,q.cr b (q.c.literal s).2::F0,hG.trans mr,fun b_n=>⟨fun h=>?_,fun h=>?_⟩⟩
 ·unfold PC.one
  rw[if_pos h]
  exact⟨t,rfl,px,hok,.refl _⟩
 have hls:(q.c.literal s).2=s:=by
  unfold PC.literal at h ⊢
  split
  ·rename_i h1;rw[if_pos h1] at h;cases h
  ·rename_i h1
   rw[if_neg h1] at h
   split
   ·rename_i h2;rw[if_pos h2] at h;cases h
   ·rename_i h2
    rw[if_neg h2] at h
    split
    ·rename_i h3;rw[if_pos h3] at h;cases h
    ·rfl
 rw[hls]
 have hq1:=hq.mono l1
 refine cf.ret (j3 hq1 (.tail _ (.tail _ (.head _)))) fun I2 l2=>⟨_,_,_,_,_,rfl,q.cr b s::F0,.refl _,fun b_t=>⟨fun hk=>?_,fun hk=>?_⟩⟩
 ·have hk:(q.c.now s).kind=2:=by simpa using hk
  have hlt:=mj (by rw[hk];decide:(q.c.now s).kind≠0)
  refine⟨_,rfl,_,PQ.rd (k:=3) (.tail _ (.tail _ (.tail _ (.head _)))) rfl,_,rfl,q.cl s,107,F0,.refl _,PQ.spot _ _,by rw[PQ.off];exact (by decide:3+1≤7), ?_⟩
  rw[PQ.eh (by omega)]
  unfold PC.one
  rw[if_neg (by simp[h]),if_pos hk]
  exact fO.nil rfl (.refl _)
 have hk:(q.c.now s).kind≠2:=by simpa using hk
 have hq2:=hq1.mono l2
 intro b3 I3 l3 hb3
 have hq3:=hq2.mono l3
 refine cf.ret (oE hq3 (Sl.words (ws:=yA) hb3 rfl) (by decide) (s:=s) (.tail _ (.tail _ (.tail _ (.head _))))) fun I4 l4=>⟨_,rfl,q.cr b s::F0,.refl _,fun ha=>?_,fun ha=>?_⟩
 ·have ha:=of_decide_eq_true ha
  have hab:=qD ha (by decide)
  have hlt:=(ed ha).1
  refine⟨_,rfl,_,PQ.rd (k:=3) (.tail _ (.tail _ (.tail _ (.head _)))) rfl,_,rfl,q.cl s,107,F0,.refl _,PQ.spot _ _,by rw[PQ.off];exact (by decide:3+1≤7), ?_⟩
  rw[PQ.eh (by omega),cY (n:=q.c.any yA s+1) (by omega),w8 (by omega)]
  unfold PC.one
  rw[if_neg (by simp[h]),if_neg hk,if_pos ha]
  exact fO.nil rfl (.refl _)
 have ha:=of_decide_eq_false ha
 have hq4:=hq3.mono l4
 intro b5 I5 l5 hb5
 have hq5:=hq4.mono l5
 refine cf.ret (oE hq5 (Sl.words (ws:=oD) hb5 rfl) (by decide) (s:=s) (.tail _ (.tail _ (.tail _ (.head _))))) fun I6 l6=>⟨_,rfl,q.cr b s::F0,.refl _,fun hc=>?_,fun hc=>?_⟩
 ·have hc:=of_decide_eq_true hc
  have hab:=qD hc (by decide)
  have hlt:=(ed hc).1
  have hq6:=hq5.mono l6
  have hone:q.c.one nx d s=q.c.call nx d 8 (3+q.c.any oD s) 0 (q.c.now s).pos (if q.c.any oD s=0 then 1 else 2) s:=by
   unfold PC.one
   rw[if_neg (by simp[h]),if_neg hk,if_neg ha,if_pos hc]
  rw[hone,w8 (n:=q.c.any oD s) (by omega),w8 (n:=3+q.c.any oD s) (by omega)]
  refine⟨fun hz=>?_,fun hz=>?_⟩
  ·have hz:q.c.any oD s=0:=by simpa using hz
   rw[if_pos hz]
   refine (B0 h0 h1 hx hmx hq6 8 (3+q.c.any oD s) 0 (q.c.now s).pos 1 (by decide) hlt uk).mono fun e I7 G7 l7 ⟨t,he,px,hok,hG7⟩=>?_
   exact⟨_,_,_,_,_,_,_,_,_,_,he,_,hG7.trans uk.symm,t,rfl,px,hok,.refl _⟩
  ·have hz:q.c.any oD s≠0:=by simpa using hz
   rw[if_neg hz]
   refine (B0 h0 h1 hx hmx hq6 8 (3+q.c.any oD s) 0 (q.c.now s).pos 2 (by decide) hlt uk).mono fun e I7 G7 l7 ⟨t,he,px,hok,hG7⟩=>?_
   exact⟨_,_,_,_,_,_,_,_,_,_,he,_,hG7.trans uk.symm,t,rfl,px,hok,.refl _⟩
 have hc:=of_decide_eq_false hc
 have hq6:=hq5.mono l6
 intro b7 I7 l7 hb7
 have hq7:=hq6.mono l7
 refine cf.ret (oE hq7 (Sl.words (ws:=vU) hb7 rfl) (by decide) (s:=s) (.tail _ (.tail _ (.tail _ (.head _))))) fun I8 l8=>⟨_,rfl,q.cr b s::F0,.refl _,fun hv=>?_,fun hv=>?_⟩
 ·have hv:=of_decide_eq_true hv
  have hab:=qD hv (by decide)
  have hlt:=(ed hv).1
  have hone:q.c.one nx d s=q.c.call nx d 9 0 (1+q.c.any vU s) (q.c.now s).pos 1 s:=by
   unfold PC.one
   rw[if_neg (by simp[h]),if_neg hk,if_neg ha,if_neg hc,if_pos hv]
  rw[hone,w8 (n:=q.c.any vU s) (by omega),w8 (n:=1+q.c.any vU s) (by omega)]
  refine (B0 h0 h1 hx hmx (hq7.mono l8) 9 0 (1+q.c.any vU s) (q.c.now s).pos 1 (by decide) hlt uk).mono fun e I9 G9 l9 ⟨t,he,px,hok,hG9⟩=>?_
  exact⟨_,_,_,_,_,_,_,_,_,_,he,_,hG9.trans uk.symm,t,rfl,px,hok,.refl _⟩
 have hv:=of_decide_eq_false hv
 have hone:q.c.one nx d s=q.c.rest nx d s:=by
  unfold PC.one
  rw[if_neg (by simp[h]),if_neg hk,if_neg ha,if_neg hc,if_neg hv]
 rw[hone]
 refine (HR h0 h1 hx hmx (hq7.mono l8) hsn uk).mono fun e I9 G9 l9 ⟨t,he,px,hok,hG9⟩=>?_
 exact⟨_,_,_,_,_,_,_,_,_,_,he,_,hG9.trans uk.symm,t,rfl,px,hok,.refl _⟩
theorem Gy(hu:d+1≤24→ej 170 q (d+1) nx.un)(hmu:dW q.c nx.un):ej 170 q d (q.c.unary nx d):=by
 intro b s I F F0 hq hsn hF
 have hl:=hq.len
 refine Al.keep ?_
 refine fh.vc ?_
 unfold fh.V
 intro b2 b3 I1 l1 hb3
 have hq1:=hq.mono l1
 have hm:q.cr b s∈F:=hF.mem_iff.2 (.head _)
 refine cf.ret (oE hq1 (Sl.words (ws:=tS) hb3 rfl) (by decide) (s:=s) (.tail _ hm)) fun I2 l2=>⟨_,rfl,F,.refl _,fun ha=>?_,fun ha=>?_⟩
 ·have ha:=of_decide_eq_true ha
  refine (Ja h0 h1 hx hmx (hq1.mono l2) hsn ((hF.cons _).trans mr)).mono fun e I3 G3 l3 ⟨t,he,px,hok,hG3⟩=>?_
  refine⟨_,_,_,_,_,_,_,_,_,_,he,_,hG3.trans mr,fO.own ?_⟩
  unfold PC.unary
  rw[if_pos ha]
  exact⟨t,rfl,px,hok,.refl _⟩
 have ha:=of_decide_eq_false ha
 have hab:=qD (Int.not_lt.1 ha) (by decide)
 have hlt:=(ed (Int.not_lt.1 ha)).1
 have hq2:=hq1.mono l2
 refine (sd hq2 d h0 (by omega) ((hF.cons _).trans mr)).mono fun e I4 G l4 ⟨he,hG⟩=>⟨_,he,q.cr b (q.c.cQ d s)::F0,hG.trans mr,fun h=>?_,fun h=>?_⟩
 ·have h:(q.c.cQ d s).over=true:=by simpa using h
  refine fO.own ?_
  unfold PC.unary
  rw[if_neg ha,if_pos h]
  exact fO.nil rfl (.refl _)
 have h:(q.c.cQ d s).over=false:=by simpa using h
 obtain⟨hd,hde⟩:=iu hlt h
 have hr:q.c.unary nx d s=(.mk 5 (1+q.c.any tS s) 0 0 0 ⟨#[]⟩ [(nx.un s.inc).1] (q.c.now s).pos,(nx.un s.inc).2):=by
  unfold PC.unary
  rw[if_neg ha,if_neg (by simp[h]),hde]
 rw[hde,hr,w8 (n:=q.c.any tS s) (by omega),w8 (n:=1+q.c.any tS s) (by omega)]
 have hq4:=hq2.mono l4
 refine cf.ret (j3 hq4 (s:=s) (.tail _ (.head _))) fun I5 l5=>⟨_,_,_,_,_,rfl,q.cr b s::F0,.refl _,fun b_n=>?_⟩
 refine⟨_,rfl,_,PQ.rd (k:=3) (.tail _ (.tail _ (.head _))) rfl,_,rfl,q.cl s,107,F0,.refl _,PQ.spot _ _,by rw[PQ.off];exact (by decide:3+1≤7), ?_⟩
 rw[PQ.eh (by omega),cY (n:=d+1) (by omega)]
 have hq5:=hq4.mono l5
 refine (hu hd b s.inc I5 _ _ hq5 hlt dm).mono fun e I6 G6 l6 ⟨t,he,px,hok,hG6⟩=>?_
 refine⟨_,_,_,_,_,_,_,_,_,_,he,q.cr b (nx.un s.inc).2::F0,hG6.trans dm.symm,fun b_k b4 I7 l7 hb4=>?_⟩
 refine (vX (ks:=[]) (A:=[]) Acc.nil (by decide) t hb4 (.refl _)).mono fun v I8 G8 l8 ⟨a',n',c',A',hv,hA',hG8⟩=>⟨a',n',c',hv,q.cr b (nx.un s.inc).2::(A'++F0),hG8.trans D5.symm, ?_⟩
 have hn:=hA'.1
 subst hn
 refine⟨.mk 5 (1+q.c.any tS s) 0 0 0 ⟨#[]⟩ a' c' ([]++[t]) (q.c.now s).pos,A',rfl, ?_,.inl hA',fun k hk=>?_,.refl _⟩
 ·simp only[List.nil_append,Nd.px,Nd.BD,px]
 ·have hk:k∈[t]:=hk
  rw[List.mem_singleton] at hk;subst hk
  exact hok.mono (cc.le_trans l7 l8) fun _ h=>h
end
end Go.Lx
namespace Go.Lx
open Go.Vc
theorem nT{c:PC}{ws:List ByteArray}{o:Int}{sub:PS→Px×PS}{n:Px}{s:PS}(h:c.any ws s<0):∀m,c.jL ws o sub m n s=(n,s)
 | 0=>rfl
 | m+1=>by rw[PC.jL,if_pos h]
theorem uC{c:PC}{w:ByteArray}{s:PS}:c.any [w] s=if c.lj w s then 0 else -1:=rfl
section
variable {q:PQ} {nx:Lv} {d:Int} (h0:0≤d) (h1:d≤24)
include h0 h1
theorem D6{g:PS→Px×PS}(hg:ej 170 q d g)(hm:dW q.c g):ej 165 q d (q.c.loop Ag 8 g):=by
 have _:=h0
 have _:=h1
 intro b s I F F0 hq hsn hF
 have hl:=hq.len
 refine eF.vc (fun x0 x1 x2 x3 x4 x5 xa xn xc x7 n0 n1 n2 n3 n4 n5 na nn nc n7 m I' F'=>q.ok I'∧∃(t:Nd) (s':PS) (k:Nat),t.v=(.agg #[.int .u8 n0,.int .u8 n1,.int .u8 n2,.int .i64 n3,.int .u8 n4,.string n5,.slice na nn nc,.int .i64 n7])∧cC I' [] t∧F'.Perm (q.cr b s'::F0)∧s'.next≤q.c.l.length∧m=q.c.l.length-s'.next∧q.c.l.length≤s'.next+k∧q.c.loop Ag 8 g s=q.c.jL Ag 8 g k t.px s') ?_
 unfold eF.V
 intro b2
 refine (hg b s I _ _ hq hsn ((hF.cons _).trans mr)).mono fun e I1 G1 l1 ⟨t,he,px,hok,hG1⟩=>?_
 refine⟨_,_,_,_,_,_,_,_,_,_,he,q.cr b (g s).2::F0,hG1.trans mr,fun b_n=>⟨⟨_,hq.mono l1,t,(g s).2,q.c.l.length,rfl,hok,.refl _,(hm s).2 hsn,rfl,by omega,by rw[px];rfl⟩, ?_⟩⟩
 intro x0 x1 x2 x3 x4 x5 xa xn xc x7 n0 n1 n2 n3 n4 n5 na nn nc n7 m I2 F2 l2 ⟨hq2,t,s',k,htv,hok,hF2,hsn',hme,hfu,hres⟩
 simp only[Nd.v,Value.agg.injEq,Array.mk.injEq,List.cons.injEq,Value.int.injEq,Value.string.injEq,Value.slice.injEq,true_and,and_true] at htv
 obtain⟨rfl,rfl,rfl,rfl,rfl,rfl,⟨rfl,rfl,rfl⟩,rfl⟩:=htv
 have hm2:q.cr b s'∈F2:=hF2.mem_iff.2 (.head _)
 intro b3 I3 l3 hb3
 have hq3:=hq2.mono l3
 refine cf.ret (oE hq3 (Sl.words (ws:=Ag) hb3 rfl) (by decide) (s:=s') (.tail _ (.tail _ hm2))) fun I4 l4=>⟨_,rfl,F2,.refl _,fun ha=>?_,fun ha=>?_⟩
 ·have ha:=of_decide_eq_true ha
  rw[hres,nT ha]
  exact⟨t,rfl,rfl,hok.mono (cc.le_trans l3 l4) fun _ h=>h,hF2⟩
 have ha:=of_decide_eq_false ha
 have hab:=qD (Int.not_lt.1 ha) (by decide)
 have hlt:=(ed (Int.not_lt.1 ha)).1
 have l24:=cc.le_trans l3 l4
 have hna:=ha
 rw[w8 (n:=q.c.any Ag s') (by omega),w8 (n:=8+q.c.any Ag s') (by omega)]
 have hq4:=hq2.mono l24
 refine cf.ret (j3 hq4 (s:=s') (.tail _ (.tail _ hm2))) fun I5 l5=>⟨_,_,_,_,_,rfl,F2,.refl _, ?_⟩
 refine⟨_,rfl,_,PQ.rd (k:=3) (.tail _ (.tail _ hm2)) rfl,_,rfl,q.cl s',107,F0,hF2,PQ.spot _ _,by rw[PQ.off];exact (by decide:3+1≤7), ?_⟩
 rw[PQ.eh (by omega)]
 have hq5:=hq4.mono l5
 refine (hg b s'.inc I5 _ _ hq5 hlt dm).mono fun e I6 G6 l6 ⟨t2,he,px2,hok2,hG6⟩=>?_
 refine⟨_,_,_,_,_,_,_,_,_,_,he,q.cr b (g s'.inc).2::F0,hG6.trans dm.symm,fun b_k=>?_⟩
 refine (Am (8+q.c.any Ag s') (q.c.now s').pos t t2 I6 _ (hok.mono (cc.le_trans l24 (cc.le_trans l5 l6)) fun _ h=>h) hok2).mono fun e I7 G7 l7 ⟨t3,he,px3,hok3,hG7⟩=>?_
 subst hG7
 have hup:=hm s'.inc
 have hup1:=hup.1
 rw[se] at hup1
 have hup2:=hup.2 hlt
 obtain⟨k',rfl⟩:∃k',k=k'+1:=⟨k-1,by omega⟩
 refine⟨_,_,_,_,_,_,_,_,_,_,he,q.cr b (g s'.inc).2::F0,.refl _,q.c.l.length-(g s'.inc).2.next,by omega,(hq5.mono l6).mono l7,t3,(g s'.inc).2,k',rfl,hok3,.refl _,hup2,rfl,by omega, ?_⟩
 rw[hres,PC.jL,if_neg hna,px3,px2]
theorem Jb{g:PS→Px×PS}(hg:ej 165 q d g)(hm:dW q.c g):ej 157 q d (q.c.loop Ah 6 g):=by
 have _:=h0
 have _:=h1
 intro b s I F F0 hq hsn hF
 have hl:=hq.len
 refine gq.vc (fun x0 x1 x2 x3 x4 x5 xa xn xc x7 n0 n1 n2 n3 n4 n5 na nn nc n7 m I' F'=>q.ok I'∧∃(t:Nd) (s':PS) (k:Nat),t.v=(.agg #[.int .u8 n0,.int .u8 n1,.int .u8 n2,.int .i64 n3,.int .u8 n4,.string n5,.slice na nn nc,.int .i64 n7])∧cC I' [] t∧F'.Perm (q.cr b s'::F0)∧s'.next≤q.c.l.length∧m=q.c.l.length-s'.next∧q.c.l.length≤s'.next+k∧q.c.loop Ah 6 g s=q.c.jL Ah 6 g k t.px s') ?_
 unfold gq.V
 intro b2
 refine (hg b s I _ _ hq hsn ((hF.cons _).trans mr)).mono fun e I1 G1 l1 ⟨t,he,px,hok,hG1⟩=>?_
 refine⟨_,_,_,_,_,_,_,_,_,_,he,q.cr b (g s).2::F0,hG1.trans mr,fun b_n=>⟨⟨_,hq.mono l1,t,(g s).2,q.c.l.length,rfl,hok,.refl _,(hm s).2 hsn,rfl,by omega,by rw[px];rfl⟩, ?_⟩⟩
 intro x0 x1 x2 x3 x4 x5 xa xn xc x7 n0 n1 n2 n3 n4 n5 na nn nc n7 m I2 F2 l2 ⟨hq2,t,s',k,htv,hok,hF2,hsn',hme,hfu,hres⟩
 simp only[Nd.v,Value.agg.injEq,Array.mk.injEq,List.cons.injEq,Value.int.injEq,Value.string.injEq,Value.slice.injEq,true_and,and_true] at htv
 obtain⟨rfl,rfl,rfl,rfl,rfl,rfl,⟨rfl,rfl,rfl⟩,rfl⟩:=htv
 have hm2:q.cr b s'∈F2:=hF2.mem_iff.2 (.head _)
 intro b3 I3 l3 hb3
 have hq3:=hq2.mono l3
 refine cf.ret (oE hq3 (Sl.words (ws:=Ah) hb3 rfl) (by decide) (s:=s') (.tail _ (.tail _ hm2))) fun I4 l4=>⟨_,rfl,F2,.refl _,fun ha=>?_,fun ha=>?_⟩
 ·have ha:=of_decide_eq_true ha
  rw[hres,nT ha]
  exact⟨t,rfl,rfl,hok.mono (cc.le_trans l3 l4) fun _ h=>h,hF2⟩
 have ha:=of_decide_eq_false ha
 have hab:=qD (Int.not_lt.1 ha) (by decide)
 have hlt:=(ed (Int.not_lt.1 ha)).1
 have l24:=cc.le_trans l3 l4
 have hna:=ha
 rw[w8 (n:=q.c.any Ah s') (by omega),w8 (n:=6+q.c.any Ah s') (by omega)]
 have hq4:=hq2.mono l24
 refine cf.ret (j3 hq4 (s:=s') (.tail _ (.tail _ hm2))) fun I5 l5=>⟨_,_,_,_,_,rfl,F2,.refl _, ?_⟩
 refine⟨_,rfl,_,PQ.rd (k:=3) (.tail _ (.tail _ hm2)) rfl,_,rfl,q.cl s',107,F0,hF2,PQ.spot _ _,by rw[PQ.off];exact (by decide:3+1≤7), ?_⟩
 rw[PQ.eh (by omega)]
 have hq5:=hq4.mono l5
 refine (hg b s'.inc I5 _ _ hq5 hlt dm).mono fun e I6 G6 l6 ⟨t2,he,px2,hok2,hG6⟩=>?_
 refine⟨_,_,_,_,_,_,_,_,_,_,he,q.cr b (g s'.inc).2::F0,hG6.trans dm.symm,fun b_k=>?_⟩
 refine (Am (6+q.c.any Ah s') (q.c.now s').pos t t2 I6 _ (hok.mono (cc.le_trans l24 (cc.le_trans l5 l6)) fun _ h=>h) hok2).mono fun e I7 G7 l7 ⟨t3,he,px3,hok3,hG7⟩=>?_
 subst hG7
 have hup:=hm s'.inc
 have hup1:=hup.1
 rw[se] at hup1
 have hup2:=hup.2 hlt
 obtain⟨k',rfl⟩:∃k',k=k'+1:=⟨k-1,by omega⟩
 refine⟨_,_,_,_,_,_,_,_,_,_,he,q.cr b (g s'.inc).2::F0,.refl _,q.c.l.length-(g s'.inc).2.next,by omega,(hq5.mono l6).mono l7,t3,(g s'.inc).2,k',rfl,hok3,.refl _,hup2,rfl,by omega, ?_⟩
 rw[hres,PC.jL,if_neg hna,px3,px2]
theorem Jc{g:PS→Px×PS}(hg:ej 145 q d g)(hm:dW q.c g):ej 120 q d (q.c.loop Ai 17 g):=by
 have _:=h0
 have _:=h1
 intro b s I F F0 hq hsn hF
 have hl:=hq.len
 refine gx.vc (fun x0 x1 x2 x3 x4 x5 xa xn xc x7 n0 n1 n2 n3 n4 n5 na nn nc n7 m I' F'=>q.ok I'∧∃(t:Nd) (s':PS) (k:Nat),t.v=(.agg #[.int .u8 n0,.int .u8 n1,.int .u8 n2,.int .i64 n3,.int .u8 n4,.string n5,.slice na nn nc,.int .i64 n7])∧cC I' [] t∧F'.Perm (q.cr b s'::F0)∧s'.next≤q.c.l.length∧m=q.c.l.length-s'.next∧q.c.l.length≤s'.next+k∧q.c.loop Ai 17 g s=q.c.jL Ai 17 g k t.px s') ?_
 unfold gx.V
 intro b2
 refine (hg b s I _ _ hq hsn ((hF.cons _).trans mr)).mono fun e I1 G1 l1 ⟨t,he,px,hok,hG1⟩=>?_
 refine⟨_,_,_,_,_,_,_,_,_,_,he,q.cr b (g s).2::F0,hG1.trans mr,fun b_n=>⟨⟨_,hq.mono l1,t,(g s).2,q.c.l.length,rfl,hok,.refl _,(hm s).2 hsn,rfl,by omega,by rw[px];rfl⟩, ?_⟩⟩
 intro x0 x1 x2 x3 x4 x5 xa xn xc x7 n0 n1 n2 n3 n4 n5 na nn nc n7 m I2 F2 l2 ⟨hq2,t,s',k,htv,hok,hF2,hsn',hme,hfu,hres⟩
 simp only[Nd.v,Value.agg.injEq,Array.mk.injEq,List.cons.injEq,Value.int.injEq,Value.string.injEq,Value.slice.injEq,true_and,and_true] at htv
 obtain⟨rfl,rfl,rfl,rfl,rfl,rfl,⟨rfl,rfl,rfl⟩,rfl⟩:=htv
 have hm2:q.cr b s'∈F2:=hF2.mem_iff.2 (.head _)
 refine cf.ret (ri hq2 _ (s:=s') (.tail _ (.tail _ hm2))) fun I4 l24=>⟨_,rfl,F2,.refl _,fun ha=>?_,fun ha=>?_⟩
 ·have ha:q.c.lj (⟨#[38,38]⟩:ByteArray) s'=false:=by simpa using ha
  rw[hres,nT (by unfold Ai;rw[uC,if_neg (by simp[ha])];decide)]
  exact⟨t,rfl,rfl,hok.mono l24 fun _ h=>h,hF2⟩
 have ha:q.c.lj (⟨#[38,38]⟩:ByteArray) s'=true:=by simpa using ha
 have hlt:=eb ha
 have hz:q.c.any Ai s'=0:=by unfold Ai;rw[uC,if_pos ha]
 have hna:¬q.c.any Ai s'<0:=by omega
 have hq4:=hq2.mono l24
 refine cf.ret (j3 hq4 (s:=s') (.tail _ (.tail _ hm2))) fun I5 l5=>⟨_,_,_,_,_,rfl,F2,.refl _, ?_⟩
 refine⟨_,rfl,_,PQ.rd (k:=3) (.tail _ (.tail _ hm2)) rfl,_,rfl,q.cl s',107,F0,hF2,PQ.spot _ _,by rw[PQ.off];exact (by decide:3+1≤7), ?_⟩
 rw[PQ.eh (by omega)]
 have hq5:=hq4.mono l5
 refine (hg b s'.inc I5 _ _ hq5 hlt dm).mono fun e I6 G6 l6 ⟨t2,he,px2,hok2,hG6⟩=>?_
 refine⟨_,_,_,_,_,_,_,_,_,_,he,q.cr b (g s'.inc).2::F0,hG6.trans dm.symm,fun b_k=>?_⟩
 refine (Am (17) (q.c.now s').pos t t2 I6 _ (hok.mono (cc.le_trans l24 (cc.le_trans l5 l6)) fun _ h=>h) hok2).mono fun e I7 G7 l7 ⟨t3,he,px3,hok3,hG7⟩=>?_
 subst hG7
 have hup:=hm s'.inc
 have hup1:=hup.1
 rw[se] at hup1
 have hup2:=hup.2 hlt
 obtain⟨k',rfl⟩:∃k',k=k'+1:=⟨k-1,by omega⟩
 refine⟨_,_,_,_,_,_,_,_,_,_,he,q.cr b (g s'.inc).2::F0,.refl _,q.c.l.length-(g s'.inc).2.next,by omega,(hq5.mono l6).mono l7,t3,(g s'.inc).2,k',rfl,hok3,.refl _,hup2,rfl,by omega, ?_⟩
 rw[hres,PC.jL,if_neg hna,px3,px2,hz]
 try rfl
theorem JR{g:PS→Px×PS}(hg:ej 120 q d g)(hm:dW q.c g):ej 85 q d (q.c.loop Hf 18 g):=by
 have _:=h0
 have _:=h1
 intro b s I F F0 hq hsn hF
 have hl:=hq.len
 refine gZ.vc (fun x0 x1 x2 x3 x4 x5 xa xn xc x7 n0 n1 n2 n3 n4 n5 na nn nc n7 m I' F'=>q.ok I'∧∃(t:Nd) (s':PS) (k:Nat),t.v=(.agg #[.int .u8 n0,.int .u8 n1,.int .u8 n2,.int .i64 n3,.int .u8 n4,.string n5,.slice na nn nc,.int .i64 n7])∧cC I' [] t∧F'.Perm (q.cr b s'::F0)∧s'.next≤q.c.l.length∧m=q.c.l.length-s'.next∧q.c.l.length≤s'.next+k∧q.c.loop Hf 18 g s=q.c.jL Hf 18 g k t.px s') ?_
 unfold gZ.V
 intro b2
 refine (hg b s I _ _ hq hsn ((hF.cons _).trans mr)).mono fun e I1 G1 l1 ⟨t,he,px,hok,hG1⟩=>?_
 refine⟨_,_,_,_,_,_,_,_,_,_,he,q.cr b (g s).2::F0,hG1.trans mr,fun b_n=>⟨⟨_,hq.mono l1,t,(g s).2,q.c.l.length,rfl,hok,.refl _,(hm s).2 hsn,rfl,by omega,by rw[px];rfl⟩, ?_⟩⟩
 intro x0 x1 x2 x3 x4 x5 xa xn xc x7 n0 n1 n2 n3 n4 n5 na nn nc n7 m I2 F2 l2 ⟨hq2,t,s',k,htv,hok,hF2,hsn',hme,hfu,hres⟩
 simp only[Nd.v,Value.agg.injEq,Array.mk.injEq,List.cons.injEq,Value.int.injEq,Value.string.injEq,Value.slice.injEq,true_and,and_true] at htv
 obtain⟨rfl,rfl,rfl,rfl,rfl,rfl,⟨rfl,rfl,rfl⟩,rfl⟩:=htv
 have hm2:q.cr b s'∈F2:=hF2.mem_iff.2 (.head _)
 refine cf.ret (ri hq2 _ (s:=s') (.tail _ (.tail _ hm2))) fun I4 l24=>⟨_,rfl,F2,.refl _,fun ha=>?_,fun ha=>?_⟩
 ·have ha:q.c.lj (⟨#[124,124]⟩:ByteArray) s'=false:=by simpa using ha
  rw[hres,nT (by unfold Hf;rw[uC,if_neg (by simp[ha])];decide)]
  exact⟨t,rfl,rfl,hok.mono l24 fun _ h=>h,hF2⟩
 have ha:q.c.lj (⟨#[124,124]⟩:ByteArray) s'=true:=by simpa using ha
 have hlt:=eb ha
 have hz:q.c.any Hf s'=0:=by unfold Hf;rw[uC,if_pos ha]
 have hna:¬q.c.any Hf s'<0:=by omega
 have hq4:=hq2.mono l24
 refine cf.ret (j3 hq4 (s:=s') (.tail _ (.tail _ hm2))) fun I5 l5=>⟨_,_,_,_,_,rfl,F2,.refl _, ?_⟩
 refine⟨_,rfl,_,PQ.rd (k:=3) (.tail _ (.tail _ hm2)) rfl,_,rfl,q.cl s',107,F0,hF2,PQ.spot _ _,by rw[PQ.off];exact (by decide:3+1≤7), ?_⟩
 rw[PQ.eh (by omega)]
 have hq5:=hq4.mono l5
 refine (hg b s'.inc I5 _ _ hq5 hlt dm).mono fun e I6 G6 l6 ⟨t2,he,px2,hok2,hG6⟩=>?_
 refine⟨_,_,_,_,_,_,_,_,_,_,he,q.cr b (g s'.inc).2::F0,hG6.trans dm.symm,fun b_k=>?_⟩
 refine (Am (18) (q.c.now s').pos t t2 I6 _ (hok.mono (cc.le_trans l24 (cc.le_trans l5 l6)) fun _ h=>h) hok2).mono fun e I7 G7 l7 ⟨t3,he,px3,hok3,hG7⟩=>?_
 subst hG7
 have hup:=hm s'.inc
 have hup1:=hup.1
 rw[se] at hup1
 have hup2:=hup.2 hlt
 obtain⟨k',rfl⟩:∃k',k=k'+1:=⟨k-1,by omega⟩
 refine⟨_,_,_,_,_,_,_,_,_,_,he,q.cr b (g s'.inc).2::F0,.refl _,q.c.l.length-(g s'.inc).2.next,by omega,(hq5.mono l6).mono l7,t3,(g s'.inc).2,k',rfl,hok3,.refl _,hup2,rfl,by omega, ?_⟩
 rw[hres,PC.jL,if_neg hna,px3,px2,hz]
 try rfl
end
end Go.Lx
namespace Go.Lx
open Go.Vc
section
variable {q:PQ} {nx:Lv} {d:Int} (h0:0≤d) (h1:d≤24)
include h0 h1
theorem D7(hg:ej 157 q d (q.c.sum nx d))(hm:dW q.c (q.c.sum nx d)):ej 145 q d (q.c.compare nx d):=by
 have _:=h0
 have _:=h1
 intro b s I F F0 hq hsn hF
 have hl:=hq.len
 refine eG.vc ?_
 unfold eG.V
 intro b2
 refine (hg b s I _ _ hq hsn ((hF.cons _).trans mr)).mono fun e I1 G1 l1 ⟨t,he,px,hok,hG1⟩=>?_
 unfold PC.compare
 have hs2:=(hm s).2 hsn
 generalize hgs:q.c.sum nx d s=n at px hG1 hs2 ⊢
 refine⟨_,_,_,_,_,_,_,_,_,_,he,q.cr b n.2::F0,hG1.trans mr,fun b_n b3 I2 l2 hb3=>?_⟩
 have hq2:=(hq.mono l1).mono l2
 refine cf.ret (oE hq2 (Sl.words (ws:=yB) hb3 rfl) (by decide) (s:=n.2) (.tail _ (.tail _ (.head _)))) fun I3 l3=>⟨_,rfl,q.cr b n.2::F0,.refl _,fun ha=>?_,fun ha=>?_⟩
 ·have ha:=of_decide_eq_true ha
  show fO q b F0 (if q.c.any yB n.2<0 then n else _) _ _ _
  rw[if_pos ha]
  exact⟨t,rfl,px,hok.mono (cc.le_trans l2 l3) fun _ h=>h,.refl _⟩
 have ha:=of_decide_eq_false ha
 have hab:=qD (Int.not_lt.1 ha) (by decide)
 have hlt:=(ed (Int.not_lt.1 ha)).1
 have hq3:=hq2.mono l3
 rw[w8 (n:=q.c.any yB n.2) (by omega),w8 (n:=11+q.c.any yB n.2) (by omega)]
 refine cf.ret (j3 hq3 (s:=n.2) (.tail _ (.tail _ (.head _)))) fun I4 l4=>⟨_,_,_,_,_,rfl,q.cr b n.2::F0,.refl _, ?_⟩
 refine⟨_,rfl,_,PQ.rd (k:=3) (.tail _ (.tail _ (.head _))) rfl,_,rfl,q.cl n.2,107,F0,.refl _,PQ.spot _ _,by rw[PQ.off];exact (by decide:3+1≤7), ?_⟩
 rw[PQ.eh (by omega)]
 have hq4:=hq3.mono l4
 refine (hg b n.2.inc I4 _ _ hq4 hlt dm).mono fun e I5 G5 l5 ⟨t2,he,px2,hok2,hG5⟩=>?_
 refine⟨_,_,_,_,_,_,_,_,_,_,he,q.cr b (q.c.sum nx d n.2.inc).2::F0,hG5.trans dm.symm,fun b_k=>?_⟩
 refine (Am (11+q.c.any yB n.2) (q.c.now n.2).pos t t2 I5 _ (hok.mono (cc.le_trans l2 (cc.le_trans l3 (cc.le_trans l4 l5))) fun _ h=>h) hok2).mono fun e I6 G6 l6 ⟨t3,he,px3,hok3,hG⟩=>?_
 subst hG
 refine⟨_,_,_,_,_,_,_,_,_,_,he,q.cr b (q.c.sum nx d n.2.inc).2::F0,.refl _, ?_⟩
 show fO q b F0 (if q.c.any yB n.2<0 then n else _) _ _ _
 rw[if_neg ha]
 exact⟨t3,rfl,by rw[px3,px,px2],hok3,.refl _⟩
theorem HS(hg:ej 85 q d (q.c.or nx d))(hm:dW q.c (q.c.or nx d))(hx:d+1≤24→ej 53 q (d+1) nx.ex)(hmx:dW q.c nx.ex):ej 53 q d (q.c.expr nx d):=by
 intro b s I F F0 hq hsn hF
 have hl:=hq.len
 refine fN.vc ?_
 unfold fN.V
 intro b2
 refine (hg b s I _ _ hq hsn ((hF.cons _).trans mr)).mono fun e I1 G1 l1 ⟨t,he,px,hok,hG1⟩=>?_
 unfold PC.expr
 have hs2:=(hm s).2 hsn
 generalize hgs:q.c.or nx d s=n at px hG1 hs2 ⊢
 refine⟨_,_,_,_,_,_,_,_,_,_,he,q.cr b n.2::F0,hG1.trans mr,fun b_n=>?_⟩
 have hq1:=hq.mono l1
 refine cf.ret (ri hq1 _ (s:=n.2) (.tail _ (.tail _ (.head _)))) fun I2 l2=>⟨_,rfl,q.cr b n.2::F0,.refl _,fun ha=>?_,fun ha=>?_⟩
 ·have ha:q.c.lj (⟨#[63]⟩:ByteArray) n.2=false:=by simpa using ha
  show fO q b F0 (if q.c.lj (⟨#[63]⟩:ByteArray) n.2 then _ else n) _ _ _
  rw[if_neg (by simp[ha])]
  exact⟨t,rfl,px,hok.mono l2 fun _ h=>h,.refl _⟩
 have ha:q.c.lj (⟨#[63]⟩:ByteArray) n.2=true:=by simpa using ha
 have hlt:=eb ha
 have hq2:=hq1.mono l2
 refine (sd hq2 d h0 (by omega) (s:=n.2) dm).mono fun e I3 G l3 ⟨he,hG⟩=>⟨_,he,q.cr b (q.c.cQ d n.2)::F0,hG.trans dm.symm,fun h=>?_,fun h=>?_⟩
 ·have h:(q.c.cQ d n.2).over=true:=by simpa using h
  show fO q b F0 (if q.c.lj (⟨#[63]⟩:ByteArray) n.2 then (if (q.c.cQ d n.2).over then (o5,q.c.cQ d n.2) else _) else n) _ _ _
  rw[if_pos ha,if_pos h]
  exact fO.nil rfl (.refl _)
 have h:(q.c.cQ d n.2).over=false:=by simpa using h
 obtain⟨hd,hde⟩:=iu hlt h
 rw[hde]
 have hq3:=hq2.mono l3
 refine cf.ret (j3 hq3 (s:=n.2) (.tail _ (.tail _ (.head _)))) fun I4 l4=>⟨_,_,_,_,_,rfl,q.cr b n.2::F0,.refl _, ?_⟩
 refine⟨_,rfl,_,PQ.rd (k:=3) (.tail _ (.tail _ (.head _))) rfl,_,rfl,q.cl n.2,107,F0,.refl _,PQ.spot _ _,by rw[PQ.off];exact (by decide:3+1≤7), ?_⟩
 rw[PQ.eh (by omega),cY (n:=d+1) (by omega)]
 have hq4:=hq3.mono l4
 refine (hx hd b n.2.inc I4 _ _ hq4 hlt dm).mono fun e I5 G5 l5 ⟨t2,he,px2,hok2,hG5⟩=>?_
 refine⟨_,_,_,_,_,_,_,_,_,_,he,q.cr b (nx.ex n.2.inc).2::F0,hG5.trans dm.symm,fun b_a=>?_⟩
 have hq5:=hq4.mono l5
 have hn5:=(hmx n.2.inc).2 hlt
 refine (dV hq5 _ (s:=(nx.ex n.2.inc).2) uk).mono fun e I6 G6 l6 ⟨he,hG6⟩=>⟨_,he,q.cr b (q.c.take (⟨#[58]⟩:ByteArray) (nx.ex n.2.inc).2).2::F0,hG6.trans uk.symm, ?_⟩
 have hq6:=hq5.mono l6
 have hn6:=(Up.take (c:=q.c) (s:=(nx.ex n.2.inc).2) (⟨#[58]⟩:ByteArray)).2 hn5
 refine (hx hd b (q.c.take (⟨#[58]⟩:ByteArray) (nx.ex n.2.inc).2).2 I6 _ _ hq6 hn6 uk).mono fun e I7 G7 l7 ⟨t3,he,px3,hok3,hG7⟩=>?_
 refine⟨_,_,_,_,_,_,_,_,_,_,he,q.cr b (nx.ex (q.c.take (⟨#[58]⟩:ByteArray) (nx.ex n.2.inc).2).2).2::F0,hG7.trans uk.symm,fun b_b b4 I8 l8 hb4=>?_⟩
 show fO q b F0 (if q.c.lj (⟨#[63]⟩:ByteArray) n.2 then (if (q.c.cQ d n.2).over then _ else _) else n) _ _ _
 rw[if_pos ha,if_neg (by simp[h])]
 refine⟨.mk 7 0 0 0 0 ⟨#[]⟩ (some ⟨b4,0,none⟩) 3 [t,t2,t3] (q.c.now n.2).pos,rfl, ?_,cC.Fk hb4 (fun k hk=>?_) .., ?_⟩
 ·simp only[Nd.px,Nd.BD,px,px2,px3]
  rw[hde]
 ·simp only[List.mem_cons,List.not_mem_nil,or_false] at hk
  rcases hk with rfl | rfl | rfl
  ·exact hok.mono (cc.le_trans l2 (cc.le_trans l3 (cc.le_trans l4 (cc.le_trans l5 (cc.le_trans l6 (cc.le_trans l7 l8)))))) fun _ h=>h
  ·exact hok2.mono (cc.le_trans l6 (cc.le_trans l7 l8)) fun _ h=>h
  ·exact hok3.mono l8 fun _ h=>h
 ·rw[hde]
theorem CY(hx:d+1≤24→ej 53 q (d+1) nx.ex)(hmx:dW q.c nx.ex)(hu:d+1≤24→ej 170 q (d+1) nx.un)(hmu:dW q.c nx.un) :
  ej 53 q d (q.c.expr nx d)∧ej 170 q d (q.c.unary nx d):=by
 have e1:=Gy h0 h1 hx hmx hu hmu
 have e2:=D6 h0 h1 e1 (Up.unary hmx hmu d)
 have e3:=Jb h0 h1 e2 (Up.product hmx hmu d)
 have e4:=D7 h0 h1 e3 (Up.sum hmx hmu d)
 have e5:=Jc h0 h1 e4 (Up.compare hmx hmu d)
 have e6:=JR h0 h1 e5 (Up.and hmx hmu d)
 exact⟨HS h0 h1 e6 (Up.or hmx hmu d) hx hmx,e1⟩
end
theorem Fl{q:PQ}:∀(k:Nat) (d:Int),0≤d→d≤24→24≤d+k→ej 53 q d (q.c.lvl k d).ex∧ej 170 q d (q.c.lvl k d).un
 | 0,d,h0,h1,h2=>CY h0 h1 (fun h=>by omega) (fun s=>.refl) (fun h=>by omega) (fun s=>.refl)
 | k+1,d,h0,h1,h2=>CY h0 h1 (fun h=>(Fl k (d+1) (by omega) h (by omega)).1) (Up.lvl k (d+1)).1 (fun h=>(Fl k (d+1) (by omega) h (by omega)).2) (Up.lvl k (d+1)).2
theorem tU{q:PQ}:ej 53 q 0 q.c.iA:=(Fl 24 0 (by decide) (by decide) (by decide)).1
end Go.Lx
namespace Go.Lx
open Go.Vc Go.Proofs.Tryz
def nU:List (Nat×List Sh):=[(0,[]),(3,[.one (.int .i64)]),(4,[.one .bool]),(9,[.one .str]),(28,[.agg [(.int .u8),(.int .u8),(.int .u8),(.int .i64),(.int .u8),.str,.slc,(.int .i64)]]),(35,[.one .slc]),(36,[.one .slc]),(37,[.one .slc]),(39,[.agg [.str,.slc,.slc,.slc]]),(63,[.one .slc]),(65,[.agg [.str,.slc,(.int .i64)]]),(68,[.agg [(.int .i64),(.int .i64),.bool]]),(77,[.agg [.str,(.int .u8),(.int .u8),(.int .u8),(.int .u8),(.int .i64),(.int .u8),.str,.slc,(.int .i64),(.int .i64)]]),(82,[.one .slc]),(84,[.agg [(.int .u8),(.int .u8),(.int .u8),(.int .i64),(.int .u8),.str,.slc,(.int .i64),.slc,(.int .i64)]]),(97,[.one (.int .u8)]),(99,[.agg [(.int .u8),(.int .u8),.str,(.int .u8),(.int .u8),(.int .u8),(.int .i64),(.int .u8),.str,.slc,(.int .i64),(.int .u8),(.int .u8),(.int .u8),(.int .i64),(.int .u8),.str,.slc,(.int .i64),(.int .u8),(.int .u8),(.int .u8),(.int .i64),(.int .u8),.str,.slc,(.int .i64),(.int .u8),(.int .u8),(.int .u8),(.int .i64),(.int .u8),.str,.slc,(.int .i64),(.int .i64)]]),(102,[.one .ptr]),(145,[.agg [(.int .u8),.str,(.int .u8),(.int .i64),(.int .i64)]]),(195,[.agg [(.int .u8),(.int .u8),(.int .u8),(.int .i64),(.int .u8),.str,.slc,(.int .i64)],.one .bool])]
def gy.V(ka:Nat→Bs→Int→Int→Int→Int→Int→Int→Bs→OA→Nat→Nat→Int→Int→Nat×Obj)(nO:Int→Int→Int→Int→Int→Bs→OA→Nat→Nat→Int→Obj)(vb vi:Int→Value)(vs:Bs→Value)(vl:OA→Nat→Nat→Value)(vp:OA→Value)(p:Addr)(I:cc)(F:b8)(Q:cd)(Inv28:Bs→Int→Int→Int→Int→Int→Int→Bs→OA→Nat→Nat→Int→Int→cc→b8→Prop)(Inv46:cc→b8→Prop):Prop:=∀b:Nat,cy P 89 (#[vp (some p),vs (⟨#[114,101,103]⟩:Bs)]) I ((ka b (⟨#[]⟩:Bs) 0 0 0 0 0 0 (⟨#[]⟩:Bs) none 0 0 0 0)::·) F vi fun r I1 F1=>∀a:Nat,cy P 91 (#[vp (some p)]) I1 ((ka b (⟨#[]⟩:Bs) 0 0 0 0 0 0 (⟨#[]⟩:Bs) none 0 0 0 0)::(ka a (⟨#[]⟩:Bs) 0 0 0 0 0 0 (⟨#[]⟩:Bs) none 0 0 0 r)::·) F1 vs fun r1 I2 F2=>∀(b1:Nat) (I3:cc),cc.le I2 I3→I3 b1=some (Obj.cells #[vs (⟨#[105,110,116]⟩:Bs),vs (⟨#[113,116,121]⟩:Bs),vs (⟨#[112,114,105,99,101]⟩:Bs),vs (⟨#[116,105,109,101]⟩:Bs),vs (⟨#[98,111,111,108]⟩:Bs),vs (⟨#[115,105,100,101]⟩:Bs)] 9 (0,0))→cy P 122 (#[vp (some p),vl (some ⟨b1,0,none⟩) 6 6]) I3 ((ka b (⟨#[]⟩:Bs) 0 0 0 0 0 0 (⟨#[]⟩:Bs) none 0 0 0 0)::(ka a r1 0 0 0 0 0 0 (⟨#[]⟩:Bs) none 0 0 0 r)::·) F2 vi fun r2 I4 F3=>(Dt (r2<0) (dg P 90 (#[vp (some p),vi 130]) I4 ((ka b (⟨#[]⟩:Bs) 0 0 0 0 0 0 (⟨#[]⟩:Bs) none 0 0 0 0)::(ka a r1 0 0 0 0 0 0 (⟨#[]⟩:Bs) none 0 0 0 r)::·) F3 fun e4 I5 G4=>e4=.returned (.tuple #[])∧G4 fun F4=>Q (.returned (.agg #[vs r1,vb 0,vb 0,vb 0,vb 0,vi 0,vb 0,vs (⟨#[]⟩:Bs),vl none 0 0,vi 0,vi r])) I5 F4) (∃ad:Addr,some p=some ad∧∃(m:Int),Rd I4 ((ka b (⟨#[]⟩:Bs) 0 0 0 0 0 0 (⟨#[]⟩:Bs) none 0 0 0 0)::(ka a r1 0 0 0 0 0 0 (⟨#[]⟩:Bs) none 0 0 0 r)::F3) (ad.add 3) [vi m]∧∃ac:Addr,some p=some ac∧∃(cs:List Value) (el:Nat) (F5:b8),List.Perm F3 (((ac.add 3).block,Obj.cells cs.toArray el (0,0))::F5)∧(ac.add 3).spot=none∧(ac.add 3).off+1≤cs.length∧cf P 89 (#[vp (some p),vs (⟨#[61]⟩:Bs)]) I4 ((ka b (⟨#[]⟩:Bs) 0 0 0 0 0 0 (⟨#[]⟩:Bs) none 0 0 0 0)::(ka a r1 (IntKind.wrap .u8 (1+(IntKind.wrap .u8 r2))) 0 0 0 0 0 (⟨#[]⟩:Bs) none 0 0 0 r)::(((ac.add 3).block,Obj.cells (cj (ac.add 3).off [vi (IntKind.wrap .i64 (m+1))] cs).toArray el (0,0))::F5)) fun e5 I6 G5=>∃(r3:Int),e5=.returned (vi r3)∧∃F6:b8,List.Perm G5 ((ka b (⟨#[]⟩:Bs) 0 0 0 0 0 0 (⟨#[]⟩:Bs) none 0 0 0 0)::(ka a r1 (IntKind.wrap .u8 (1+(IntKind.wrap .u8 r2))) 0 0 0 0 0 (⟨#[]⟩:Bs) none 0 0 0 r)::F6)∧dg P 88 (#[vp (some p)]) I6 ((ka b (⟨#[]⟩:Bs) 0 0 0 0 0 0 (⟨#[]⟩:Bs) none 0 0 0 0)::(ka a r1 (IntKind.wrap .u8 (1+(IntKind.wrap .u8 r2))) 0 0 0 0 0 (⟨#[]⟩:Bs) none 0 0 0 r)::·) F6 fun e6 I7 G6=>∃(aq:Int) (ar:Bs) (au av ah:Int),e6=.returned (.agg #[vb aq,vs ar,vb au,vi av,vi ah])∧G6 fun F7=>cy P 86 (#[vp (some p),vs (⟨#[45]⟩:Bs)]) I7 ((ka b (⟨#[]⟩:Bs) 0 0 0 0 0 0 (⟨#[]⟩:Bs) none 0 0 0 0)::(ka a r1 (IntKind.wrap .u8 (1+(IntKind.wrap .u8 r2))) 0 0 0 0 0 (⟨#[]⟩:Bs) none 0 0 0 r)::·) F7 .bool fun r4 I8 F8=>((It r4 (∃al:Addr,some p=some al∧∃(m1:Int),Rd I8 ((ka b (⟨#[]⟩:Bs) 0 0 0 0 0 0 (⟨#[]⟩:Bs) none 0 0 0 0)::(ka a r1 (IntKind.wrap .u8 (1+(IntKind.wrap .u8 r2))) 0 0 0 0 0 (⟨#[]⟩:Bs) none 0 0 0 r)::F8) (al.add 3) [vi m1]∧∃ae:Addr,some p=some ae∧∃(ai:List Value) (ak:Nat) (F9:b8),List.Perm F8 (((ae.add 3).block,Obj.cells ai.toArray ak (0,0))::F9)∧(ae.add 3).spot=none∧(ae.add 3).off+1≤ai.length∧cf P 88 (#[vp (some p)]) I8 ((ka b (⟨#[]⟩:Bs) 0 0 0 0 0 0 (⟨#[]⟩:Bs) none 0 0 0 0)::(ka a r1 (IntKind.wrap .u8 (1+(IntKind.wrap .u8 r2))) 0 0 0 0 0 (⟨#[]⟩:Bs) none 0 0 0 r)::(((ae.add 3).block,Obj.cells (cj (ae.add 3).off [vi (IntKind.wrap .i64 (m1+1))] ai).toArray ak (0,0))::F9)) fun e8 I9 G8=>∃(ag:Int) (am:Bs) (an ao ap:Int),e8=.returned (.agg #[vb ag,vs am,vb an,vi ao,vi ap])∧∃F10:b8,List.Perm G8 ((ka b (⟨#[]⟩:Bs) 0 0 0 0 0 0 (⟨#[]⟩:Bs) none 0 0 0 0)::(ka a r1 (IntKind.wrap .u8 (1+(IntKind.wrap .u8 r2))) 0 0 0 0 0 (⟨#[]⟩:Bs) none 0 0 0 r)::F10)∧(It (ag != 3) (dg P 90 (#[vp (some p),vi 130]) I9 ((ka b (⟨#[]⟩:Bs) 0 0 0 0 0 0 (⟨#[]⟩:Bs) none 0 0 0 0)::(ka a r1 (IntKind.wrap .u8 (1+(IntKind.wrap .u8 r2))) 0 0 0 0 0 (⟨#[]⟩:Bs) none 0 0 0 r)::·) F10 fun e9 I10 G9=>e9=.returned (.tuple #[])∧G9 fun F11=>Q (.returned (.agg #[vs r1,vb (IntKind.wrap .u8 (1+(IntKind.wrap .u8 r2))),vb 0,vb 0,vb 0,vi 0,vb 0,vs (⟨#[]⟩:Bs),vl none 0 0,vi 0,vi r])) I10 F11) (Inv28 (⟨#[]⟩:Bs) 0 0 0 0 0 0 (⟨#[]⟩:Bs) none 0 0 0 0 I9 F10))) (Inv28 (⟨#[]⟩:Bs) 0 0 0 0 0 0 (⟨#[]⟩:Bs) none 0 0 0 0 I8 F8)))∧∀(t:Bs) (u v w x y z:Int) (aa:Bs) (f:OA) (g h:Nat) (ab s:Int) (I11:cc) (F12:b8),cc.le I8 I11→Inv28 t u v w x y z aa f g h ab s I11 F12→dg P 123 (#[vp (some p)]) I11 ((ka b t u v w x y z aa f g h ab s)::(ka a r1 (IntKind.wrap .u8 (1+(IntKind.wrap .u8 r2))) 0 0 0 0 0 (⟨#[]⟩:Bs) none 0 0 0 r)::·) F12 fun aw I12 G10=>∃(i j k l n:Int) (o:Bs) (c:OA) (d e:Nat) (q:Int) (aj:Bool),aw=.returned (.tuple #[.agg #[vb i,vb j,vb k,vi l,vb n,vs o,vl c d e,vi q],.bool aj])∧G10 fun F13=>∀af:Nat,((It (!aj) (dg P 90 (#[vp (some p),vi 130]) I12 ((ka b t u v w x y z aa f g h ab s)::(ka a r1 (IntKind.wrap .u8 (1+(IntKind.wrap .u8 r2))) 0 0 0 0 0 (⟨#[]⟩:Bs) none 0 0 0 r)::(af,nO i j k l n o c d e q)::·) F13 fun ax I13 G11=>ax=.returned (.tuple #[])∧G11 fun F14=>Inv46 I13 F14) (Inv46 I12 F13)))∧∀(I14:cc) (F15:b8),cc.le I12 I14→Inv46 I14 F15→(It r4 (∀(b2:Nat) (I15:cc),cc.le I14 I15→I15 b2=some (nO i j k l n o c d e q)→cy P 89 (#[vp (some p),vs (⟨#[59]⟩:Bs)]) I15 ((ka b t u v w x y z aa f g h ab s)::(ka a r1 (IntKind.wrap .u8 (1+(IntKind.wrap .u8 r2))) 5 1 0 0 0 (⟨#[]⟩:Bs) (some ⟨b2,0,none⟩) 1 1 ah r)::(af,nO i j k l n o c d e q)::·) F15 vi fun r5 I16 F16=>Q (.returned (.agg #[vs r1,vb (IntKind.wrap .u8 (1+(IntKind.wrap .u8 r2))),vb 5,vb 1,vb 0,vi 0,vb 0,vs (⟨#[]⟩:Bs),vl (some ⟨b2,0,none⟩) 1 1,vi ah,vi r])) I16 F16) (cy P 89 (#[vp (some p),vs (⟨#[59]⟩:Bs)]) I14 ((ka b t u v w x y z aa f g h ab s)::(ka a r1 (IntKind.wrap .u8 (1+(IntKind.wrap .u8 r2))) i j k l n o c d e q r)::(af,nO i j k l n o c d e q)::·) F15 vi fun r6 I17 F17=>Q (.returned (.agg #[vs r1,vb (IntKind.wrap .u8 (1+(IntKind.wrap .u8 r2))),vb i,vb j,vb k,vi l,vb n,vs o,vl c d e,vi q,vi r])) I17 F17))))
theorem gy.vc{p:Addr}{I:cc}{F:b8}{Q:cd}(Inv28:Bs→Int→Int→Int→Int→Int→Int→Bs→OA→Nat→Nat→Int→Int→cc→b8→Prop)(Inv46:cc→b8→Prop)(h:gy.V (fun W a b c d e f g h i j k l m=>(W,Obj.cells #[.string a,.int .u8 b,.int .u8 c,.int .u8 d,.int .u8 e,.int .i64 f,.int .u8 g,.string h,.slice i j k,.int .i64 l,.int .i64 m] 77 (0,0))) (fun k o t n f s a l c q=>.cells #[.int .u8 k,.int .u8 o,.int .u8 t,.int .i64 n,.int .u8 f,.string s,.slice a l c,.int .i64 q] 28 (0,0)) (.int .u8) (.int .i64) .string .slice .pointer p I F Q Inv28 Inv46):cf P 93 #[.pointer (some p)] I F Q :=
 tw (A:=(cK [4001,12000,14003,18001,21000] [] [86,88,89,90,91,122,123] nU [(28,⟨[],[(0,[.str,(.int .u8),(.int .u8),(.int .u8),(.int .u8),(.int .i64),(.int .u8),.str,.slc,(.int .i64),(.int .i64)])],fun _ _ _ vs m I F=>match vs with | [.string y0,.int _ y1,.int _ y2,.int _ y3,.int _ y4,.int _ y5,.int _ y6,.string y7,.slice y8 y9 y10,.int _ y11,.int _ y12]=>Inv28 y0 y1 y2 y3 y4 y5 y6 y7 y8 y9 y10 y11 y12 I F | _=>False,[],[]⟩),(46,⟨[],[],fun _ _ _ vs m I F=>match vs with | []=>Inv46  I F | _=>False,[],[]⟩)] [3001,22001] [] [] [] [] [])) [86,88,89,90,91,122,123] func93 h
def eS.V(ka:Nat→Int→Int→Bs→Int→Int→Int→Int→Int→Bs→OA→Nat→Nat→Int→Int→Int→Int→Int→Int→Bs→OA→Nat→Nat→Int→Int→Int→Int→Int→Int→Bs→OA→Nat→Nat→Int→Int→Int→Int→Int→Int→Bs→OA→Nat→Nat→Int→Int→Nat×Obj)(kb:Int→Int→Bs→Int→Int→Int→Int→Int→Bs→OA→Nat→Nat→Int→Int→Int→Int→Int→Int→Bs→OA→Nat→Nat→Int→Int→Int→Int→Int→Int→Bs→OA→Nat→Nat→Int→Int→Int→Int→Int→Int→Bs→OA→Nat→Nat→Int→Int→Value)(nV:Int→Int→Int→Int→Int→Bs→OA→Nat→Nat→Int→Value)(vb vi:Int→Value)(vs:Bs→Value)(vl:OA→Nat→Nat→Value)(vp:OA→Value)(wr:Int→Int)(p:Addr)(I:cc)(F:b8)(Q:cd)  : Prop:=∀b:Nat,cy P 89 (#[vp (some p),vs (⟨#[115,117,98,109,105,116]⟩:Bs)]) I ((ka b 0 0 (⟨#[]⟩:Bs) 0 0 0 0 0 (⟨#[]⟩:Bs) none 0 0 0 0 0 0 0 0 (⟨#[]⟩:Bs) none 0 0 0 0 0 0 0 0 (⟨#[]⟩:Bs) none 0 0 0 0 0 0 0 0 (⟨#[]⟩:Bs) none 0 0 0 0)::·) F vi fun r I1 F1=>∀ab:Nat,dg P 53 (#[vp (some p),vi 0]) I1 ((ka b 0 0 (⟨#[]⟩:Bs) 0 0 0 0 0 (⟨#[]⟩:Bs) none 0 0 0 0 0 0 0 0 (⟨#[]⟩:Bs) none 0 0 0 0 0 0 0 0 (⟨#[]⟩:Bs) none 0 0 0 0 0 0 0 0 (⟨#[]⟩:Bs) none 0 0 0 0)::(ka ab 1 0 (⟨#[]⟩:Bs) 0 0 0 0 0 (⟨#[]⟩:Bs) none 0 0 0 0 0 0 0 0 (⟨#[]⟩:Bs) none 0 0 0 0 0 0 0 0 (⟨#[]⟩:Bs) none 0 0 0 0 0 0 0 0 (⟨#[]⟩:Bs) none 0 0 0 r)::·) F1 fun e2 I2 G2=>∃(q s t u v:Int) (w:Bs) (e:OA) (f g:Nat) (x:Int),e2=.returned (nV q s t u v w e f g x)∧G2 fun F2=>cy P 89 (#[vp (some p),vs (⟨#[111,102]⟩:Bs)]) I2 ((ka b 0 0 (⟨#[]⟩:Bs) 0 0 0 0 0 (⟨#[]⟩:Bs) none 0 0 0 0 0 0 0 0 (⟨#[]⟩:Bs) none 0 0 0 0 0 0 0 0 (⟨#[]⟩:Bs) none 0 0 0 0 0 0 0 0 (⟨#[]⟩:Bs) none 0 0 0 0)::(ka ab 1 0 (⟨#[]⟩:Bs) q s t u v w e f g x 0 0 0 0 0 (⟨#[]⟩:Bs) none 0 0 0 0 0 0 0 0 (⟨#[]⟩:Bs) none 0 0 0 0 0 0 0 0 (⟨#[]⟩:Bs) none 0 0 0 r)::·) F2 vi fun r1 I3 F3=>dg P 53 (#[vp (some p),vi 0]) I3 ((ka b 0 0 (⟨#[]⟩:Bs) 0 0 0 0 0 (⟨#[]⟩:Bs) none 0 0 0 0 0 0 0 0 (⟨#[]⟩:Bs) none 0 0 0 0 0 0 0 0 (⟨#[]⟩:Bs) none 0 0 0 0 0 0 0 0 (⟨#[]⟩:Bs) none 0 0 0 0)::(ka ab 1 0 (⟨#[]⟩:Bs) q s t u v w e f g x 0 0 0 0 0 (⟨#[]⟩:Bs) none 0 0 0 0 0 0 0 0 (⟨#[]⟩:Bs) none 0 0 0 0 0 0 0 0 (⟨#[]⟩:Bs) none 0 0 0 r)::·) F3 fun e4 I4 G4=>∃(h i j k l:Int) (n:Bs) (a:OA) (c d:Nat) (o:Int),e4=.returned (nV h i j k l n a c d o)∧G4 fun F4=>∀(b1:Nat) (I5:cc),cc.le I4 I5→I5 b1=some (Obj.cells #[vs (⟨#[109,97,114,107,101,116]⟩:Bs),vs (⟨#[97,116]⟩:Bs)] 9 (0,0))→cy P 122 (#[vp (some p),vl (some ⟨b1,0,none⟩) 2 2]) I5 ((ka b 0 0 (⟨#[]⟩:Bs) 0 0 0 0 0 (⟨#[]⟩:Bs) none 0 0 0 0 0 0 0 0 (⟨#[]⟩:Bs) none 0 0 0 0 0 0 0 0 (⟨#[]⟩:Bs) none 0 0 0 0 0 0 0 0 (⟨#[]⟩:Bs) none 0 0 0 0)::(ka ab 1 0 (⟨#[]⟩:Bs) q s t u v w e f g x h i j k l n a c d o 0 0 0 0 0 (⟨#[]⟩:Bs) none 0 0 0 0 0 0 0 0 (⟨#[]⟩:Bs) none 0 0 0 r)::·) F4 vi fun r2 I6 F5=>(Dt (r2<0) (dg P 90 (#[vp (some p),vi 130]) I6 ((ka b 0 0 (⟨#[]⟩:Bs) 0 0 0 0 0 (⟨#[]⟩:Bs) none 0 0 0 0 0 0 0 0 (⟨#[]⟩:Bs) none 0 0 0 0 0 0 0 0 (⟨#[]⟩:Bs) none 0 0 0 0 0 0 0 0 (⟨#[]⟩:Bs) none 0 0 0 0)::(ka ab 1 0 (⟨#[]⟩:Bs) q s t u v w e f g x h i j k l n a c d o 0 0 0 0 0 (⟨#[]⟩:Bs) none 0 0 0 0 0 0 0 0 (⟨#[]⟩:Bs) none 0 0 0 r)::·) F5 fun e6 I7 G6=>e6=.returned (.tuple #[])∧G6 fun F6=>Q (.returned ((kb 1 0 (⟨#[]⟩:Bs) q s t u v w e f g x h i j k l n a c d o 0 0 0 0 0 (⟨#[]⟩:Bs) none 0 0 0 0 0 0 0 0 (⟨#[]⟩:Bs) none 0 0 0 r))) I7 F6) (∃ad:Addr,some p=some ad∧∃(m:Int),Rd I6 ((ka b 0 0 (⟨#[]⟩:Bs) 0 0 0 0 0 (⟨#[]⟩:Bs) none 0 0 0 0 0 0 0 0 (⟨#[]⟩:Bs) none 0 0 0 0 0 0 0 0 (⟨#[]⟩:Bs) none 0 0 0 0 0 0 0 0 (⟨#[]⟩:Bs) none 0 0 0 0)::(ka ab 1 0 (⟨#[]⟩:Bs) q s t u v w e f g x h i j k l n a c d o 0 0 0 0 0 (⟨#[]⟩:Bs) none 0 0 0 0 0 0 0 0 (⟨#[]⟩:Bs) none 0 0 0 r)::F5) (ad.add 3) [vi m]∧∃ak:Addr,some p=some ak∧∃(cs:List Value) (el:Nat) (F7:b8),List.Perm F5 (((ak.add 3).block,Obj.cells cs.toArray el (0,0))::F7)∧(ak.add 3).spot=none∧(ak.add 3).off+1≤cs.length∧(It (r2==1) (cf P 53 (#[vp (some p),vi 0]) I6 ((ka b 0 0 (⟨#[]⟩:Bs) 0 0 0 0 0 (⟨#[]⟩:Bs) none 0 0 0 0 0 0 0 0 (⟨#[]⟩:Bs) none 0 0 0 0 0 0 0 0 (⟨#[]⟩:Bs) none 0 0 0 0 0 0 0 0 (⟨#[]⟩:Bs) none 0 0 0 0)::(ka ab 1 2 (⟨#[]⟩:Bs) q s t u v w e f g x h i j k l n a c d o 0 0 0 0 0 (⟨#[]⟩:Bs) none 0 0 0 0 0 0 0 0 (⟨#[]⟩:Bs) none 0 0 0 r)::(((ak.add 3).block,Obj.cells (cj (ak.add 3).off [vi (wr (m+1))] cs).toArray el (0,0))::F7)) fun e7 I8 G7=>∃(ac ae af ag ah:Int) (ai:Bs) (y:OA) (z aa:Nat) (aj:Int),e7=.returned (nV ac ae af ag ah ai y z aa aj)∧∃F8:b8,List.Perm G7 ((ka b 0 0 (⟨#[]⟩:Bs) 0 0 0 0 0 (⟨#[]⟩:Bs) none 0 0 0 0 0 0 0 0 (⟨#[]⟩:Bs) none 0 0 0 0 0 0 0 0 (⟨#[]⟩:Bs) none 0 0 0 0 0 0 0 0 (⟨#[]⟩:Bs) none 0 0 0 0)::(ka ab 1 2 (⟨#[]⟩:Bs) q s t u v w e f g x h i j k l n a c d o 0 0 0 0 0 (⟨#[]⟩:Bs) none 0 0 0 0 0 0 0 0 (⟨#[]⟩:Bs) none 0 0 0 r)::F8)∧∀(b2:Nat) (I9:cc),cc.le I8 I9→I9 b2=some (Obj.cells #[vs (⟨#[108,105,109,105,116]⟩:Bs),vs (⟨#[105,111,99]⟩:Bs),vs (⟨#[102,111,107]⟩:Bs),vs (⟨#[112,111,115,116]⟩:Bs)] 9 (0,0))→cy P 122 (#[vp (some p),vl (some ⟨b2,0,none⟩) 4 4]) I9 ((ka b 0 0 (⟨#[]⟩:Bs) 0 0 0 0 0 (⟨#[]⟩:Bs) none 0 0 0 0 0 0 0 0 (⟨#[]⟩:Bs) none 0 0 0 0 0 0 0 0 (⟨#[]⟩:Bs) none 0 0 0 0 0 0 0 0 (⟨#[]⟩:Bs) none 0 0 0 0)::(ka ab 1 2 (⟨#[]⟩:Bs) q s t u v w e f g x h i j k l n a c d o ac ae af ag ah ai y z aa aj 0 0 0 0 0 (⟨#[]⟩:Bs) none 0 0 0 r)::·) F8 vi fun r3 I10 F9=>(Dt (r3<0) (dg P 90 (#[vp (some p),vi 130]) I10 ((ka b 0 0 (⟨#[]⟩:Bs) 0 0 0 0 0 (⟨#[]⟩:Bs) none 0 0 0 0 0 0 0 0 (⟨#[]⟩:Bs) none 0 0 0 0 0 0 0 0 (⟨#[]⟩:Bs) none 0 0 0 0 0 0 0 0 (⟨#[]⟩:Bs) none 0 0 0 0)::(ka ab 1 2 (⟨#[]⟩:Bs) q s t u v w e f g x h i j k l n a c d o ac ae af ag ah ai y z aa aj 0 0 0 0 0 (⟨#[]⟩:Bs) none 0 0 0 r)::·) F9 fun e9 I11 G9=>e9=.returned (.tuple #[])∧G9 fun F10=>Q (.returned ((kb 1 2 (⟨#[]⟩:Bs) q s t u v w e f g x h i j k l n a c d o ac ae af ag ah ai y z aa aj 0 0 0 0 0 (⟨#[]⟩:Bs) none 0 0 0 r))) I11 F10) (∃aw:Addr,some p=some aw∧∃(m1:Int),Rd I10 ((ka b 0 0 (⟨#[]⟩:Bs) 0 0 0 0 0 (⟨#[]⟩:Bs) none 0 0 0 0 0 0 0 0 (⟨#[]⟩:Bs) none 0 0 0 0 0 0 0 0 (⟨#[]⟩:Bs) none 0 0 0 0 0 0 0 0 (⟨#[]⟩:Bs) none 0 0 0 0)::(ka ab 1 2 (⟨#[]⟩:Bs) q s t u v w e f g x h i j k l n a c d o ac ae af ag ah ai y z aa aj 0 0 0 0 0 (⟨#[]⟩:Bs) none 0 0 0 r)::F9) (aw.add 3) [vi m1]∧∃al:Addr,some p=some al∧∃(ao:List Value) (ap:Nat) (F11:b8),List.Perm F9 (((al.add 3).block,Obj.cells ao.toArray ap (0,0))::F11)∧(al.add 3).spot=none∧(al.add 3).off+1≤ao.length∧∀(b3:Nat) (I12:cc),cc.le I10 I12→I12 b3=some (Obj.cells #[vb 1,vb 3,vb 4,vb 5] 97 (0,0))→((0≤r3∧r3<(4:Int))∧∃ax:Addr,some ⟨b3,0,none⟩=some ax∧∃(m2:Int),Rd I12 ((ka b 0 0 (⟨#[]⟩:Bs) 0 0 0 0 0 (⟨#[]⟩:Bs) none 0 0 0 0 0 0 0 0 (⟨#[]⟩:Bs) none 0 0 0 0 0 0 0 0 (⟨#[]⟩:Bs) none 0 0 0 0 0 0 0 0 (⟨#[]⟩:Bs) none 0 0 0 0)::(ka ab 1 2 (⟨#[]⟩:Bs) q s t u v w e f g x h i j k l n a c d o ac ae af ag ah ai y z aa aj 0 0 0 0 0 (⟨#[]⟩:Bs) none 0 0 0 r)::(((al.add 3).block,Obj.cells (cj (al.add 3).off [vi (wr (m1+1))] ao).toArray ap (0,0))::F11)) (ax.add (Int.toNat r3*1)) [vb m2]∧cf P 86 (#[vp (some p),vs (⟨#[97,115]⟩:Bs)]) I12 ((ka b 0 0 (⟨#[]⟩:Bs) 0 0 0 0 0 (⟨#[]⟩:Bs) none 0 0 0 0 0 0 0 0 (⟨#[]⟩:Bs) none 0 0 0 0 0 0 0 0 (⟨#[]⟩:Bs) none 0 0 0 0 0 0 0 0 (⟨#[]⟩:Bs) none 0 0 0 0)::(ka ab 1 m2 (⟨#[]⟩:Bs) q s t u v w e f g x h i j k l n a c d o ac ae af ag ah ai y z aa aj 0 0 0 0 0 (⟨#[]⟩:Bs) none 0 0 0 r)::(((al.add 3).block,Obj.cells (cj (al.add 3).off [vi (wr (m1+1))] ao).toArray ap (0,0))::F11)) fun aA I13 G10=>∃(r4:Bool),aA=.returned (.bool r4)∧∃F12:b8,List.Perm G10 ((ka b 0 0 (⟨#[]⟩:Bs) 0 0 0 0 0 (⟨#[]⟩:Bs) none 0 0 0 0 0 0 0 0 (⟨#[]⟩:Bs) none 0 0 0 0 0 0 0 0 (⟨#[]⟩:Bs) none 0 0 0 0 0 0 0 0 (⟨#[]⟩:Bs) none 0 0 0 0)::(ka ab 1 m2 (⟨#[]⟩:Bs) q s t u v w e f g x h i j k l n a c d o ac ae af ag ah ai y z aa aj 0 0 0 0 0 (⟨#[]⟩:Bs) none 0 0 0 r)::F12)∧(It r4 (∃ay:Addr,some p=some ay∧∃(m3:Int),Rd I13 ((ka b 0 0 (⟨#[]⟩:Bs) 0 0 0 0 0 (⟨#[]⟩:Bs) none 0 0 0 0 0 0 0 0 (⟨#[]⟩:Bs) none 0 0 0 0 0 0 0 0 (⟨#[]⟩:Bs) none 0 0 0 0 0 0 0 0 (⟨#[]⟩:Bs) none 0 0 0 0)::(ka ab 1 m2 (⟨#[]⟩:Bs) q s t u v w e f g x h i j k l n a c d o ac ae af ag ah ai y z aa aj 0 0 0 0 0 (⟨#[]⟩:Bs) none 0 0 0 r)::F12) (ay.add 3) [vi m3]∧∃am:Addr,some p=some am∧∃(aq:List Value) (au:Nat) (F13:b8),List.Perm F12 (((am.add 3).block,Obj.cells aq.toArray au (0,0))::F13)∧(am.add 3).spot=none∧(am.add 3).off+1≤aq.length∧cf P 91 (#[vp (some p)]) I13 ((ka b 0 0 (⟨#[]⟩:Bs) 0 0 0 0 0 (⟨#[]⟩:Bs) none 0 0 0 0 0 0 0 0 (⟨#[]⟩:Bs) none 0 0 0 0 0 0 0 0 (⟨#[]⟩:Bs) none 0 0 0 0 0 0 0 0 (⟨#[]⟩:Bs) none 0 0 0 0)::(ka ab 1 m2 (⟨#[]⟩:Bs) q s t u v w e f g x h i j k l n a c d o ac ae af ag ah ai y z aa aj 0 0 0 0 0 (⟨#[]⟩:Bs) none 0 0 0 r)::(((am.add 3).block,Obj.cells (cj (am.add 3).off [vi (wr (m3+1))] aq).toArray au (0,0))::F13)) fun aB I14 G11=>∃(r5:Bs),aB=.returned (vs r5)∧∃F14:b8,List.Perm G11 ((ka b 0 0 (⟨#[]⟩:Bs) 0 0 0 0 0 (⟨#[]⟩:Bs) none 0 0 0 0 0 0 0 0 (⟨#[]⟩:Bs) none 0 0 0 0 0 0 0 0 (⟨#[]⟩:Bs) none 0 0 0 0 0 0 0 0 (⟨#[]⟩:Bs) none 0 0 0 0)::(ka ab 1 m2 (⟨#[]⟩:Bs) q s t u v w e f g x h i j k l n a c d o ac ae af ag ah ai y z aa aj 0 0 0 0 0 (⟨#[]⟩:Bs) none 0 0 0 r)::F14)∧Q (.returned ((kb 1 m2 r5 q s t u v w e f g x h i j k l n a c d o ac ae af ag ah ai y z aa aj 0 0 0 0 0 (⟨#[]⟩:Bs) none 0 0 0 r))) I14 F14) (Q (.returned ((kb 1 m2 (⟨#[]⟩:Bs) q s t u v w e f g x h i j k l n a c d o ac ae af ag ah ai y z aa aj 0 0 0 0 0 (⟨#[]⟩:Bs) none 0 0 0 r))) I13 F12)))))) (cf P 86 (#[vp (some p),vs (⟨#[97,115]⟩:Bs)]) I6 ((ka b 0 0 (⟨#[]⟩:Bs) 0 0 0 0 0 (⟨#[]⟩:Bs) none 0 0 0 0 0 0 0 0 (⟨#[]⟩:Bs) none 0 0 0 0 0 0 0 0 (⟨#[]⟩:Bs) none 0 0 0 0 0 0 0 0 (⟨#[]⟩:Bs) none 0 0 0 0)::(ka ab 1 2 (⟨#[]⟩:Bs) q s t u v w e f g x h i j k l n a c d o 0 0 0 0 0 (⟨#[]⟩:Bs) none 0 0 0 0 0 0 0 0 (⟨#[]⟩:Bs) none 0 0 0 r)::(((ak.add 3).block,Obj.cells (cj (ak.add 3).off [vi (wr (m+1))] cs).toArray el (0,0))::F7)) fun aC I15 G12=>∃(r6:Bool),aC=.returned (.bool r6)∧∃F15:b8,List.Perm G12 ((ka b 0 0 (⟨#[]⟩:Bs) 0 0 0 0 0 (⟨#[]⟩:Bs) none 0 0 0 0 0 0 0 0 (⟨#[]⟩:Bs) none 0 0 0 0 0 0 0 0 (⟨#[]⟩:Bs) none 0 0 0 0 0 0 0 0 (⟨#[]⟩:Bs) none 0 0 0 0)::(ka ab 1 2 (⟨#[]⟩:Bs) q s t u v w e f g x h i j k l n a c d o 0 0 0 0 0 (⟨#[]⟩:Bs) none 0 0 0 0 0 0 0 0 (⟨#[]⟩:Bs) none 0 0 0 r)::F15)∧(It r6 (∃az:Addr,some p=some az∧∃(m4:Int),Rd I15 ((ka b 0 0 (⟨#[]⟩:Bs) 0 0 0 0 0 (⟨#[]⟩:Bs) none 0 0 0 0 0 0 0 0 (⟨#[]⟩:Bs) none 0 0 0 0 0 0 0 0 (⟨#[]⟩:Bs) none 0 0 0 0 0 0 0 0 (⟨#[]⟩:Bs) none 0 0 0 0)::(ka ab 1 2 (⟨#[]⟩:Bs) q s t u v w e f g x h i j k l n a c d o 0 0 0 0 0 (⟨#[]⟩:Bs) none 0 0 0 0 0 0 0 0 (⟨#[]⟩:Bs) none 0 0 0 r)::F15) (az.add 3) [vi m4]∧∃an:Addr,some p=some an∧∃(ar:List Value) (av:Nat) (F16:b8),List.Perm F15 (((an.add 3).block,Obj.cells ar.toArray av (0,0))::F16)∧(an.add 3).spot=none∧(an.add 3).off+1≤ar.length∧cf P 91 (#[vp (some p)]) I15 ((ka b 0 0 (⟨#[]⟩:Bs) 0 0 0 0 0 (⟨#[]⟩:Bs) none 0 0 0 0 0 0 0 0 (⟨#[]⟩:Bs) none 0 0 0 0 0 0 0 0 (⟨#[]⟩:Bs) none 0 0 0 0 0 0 0 0 (⟨#[]⟩:Bs) none 0 0 0 0)::(ka ab 1 2 (⟨#[]⟩:Bs) q s t u v w e f g x h i j k l n a c d o 0 0 0 0 0 (⟨#[]⟩:Bs) none 0 0 0 0 0 0 0 0 (⟨#[]⟩:Bs) none 0 0 0 r)::(((an.add 3).block,Obj.cells (cj (an.add 3).off [vi (wr (m4+1))] ar).toArray av (0,0))::F16)) fun aD I16 G13=>∃(r7:Bs),aD=.returned (vs r7)∧∃F17:b8,List.Perm G13 ((ka b 0 0 (⟨#[]⟩:Bs) 0 0 0 0 0 (⟨#[]⟩:Bs) none 0 0 0 0 0 0 0 0 (⟨#[]⟩:Bs) none 0 0 0 0 0 0 0 0 (⟨#[]⟩:Bs) none 0 0 0 0 0 0 0 0 (⟨#[]⟩:Bs) none 0 0 0 0)::(ka ab 1 2 (⟨#[]⟩:Bs) q s t u v w e f g x h i j k l n a c d o 0 0 0 0 0 (⟨#[]⟩:Bs) none 0 0 0 0 0 0 0 0 (⟨#[]⟩:Bs) none 0 0 0 r)::F17)∧Q (.returned ((kb 1 2 r7 q s t u v w e f g x h i j k l n a c d o 0 0 0 0 0 (⟨#[]⟩:Bs) none 0 0 0 0 0 0 0 0 (⟨#[]⟩:Bs) none 0 0 0 r))) I16 F17) (Q (.returned ((kb 1 2 (⟨#[]⟩:Bs) q s t u v w e f g x h i j k l n a c d o 0 0 0 0 0 (⟨#[]⟩:Bs) none 0 0 0 0 0 0 0 0 (⟨#[]⟩:Bs) none 0 0 0 r))) I15 F15))))))
theorem eS.vc{p:Addr}{I:cc}{F:b8}{Q:cd}  (h:eS.V (fun W a b c d e f g h i j k l m n o p q r s t u v w x y z aa ab ac ad ae af ag ah ai aj ak al am an ao ap aq ar=>(W,Obj.cells #[.int .u8 a,.int .u8 b,.string c,.int .u8 d,.int .u8 e,.int .u8 f,.int .i64 g,.int .u8 h,.string i,.slice j k l,.int .i64 m,.int .u8 n,.int .u8 o,.int .u8 p,.int .i64 q,.int .u8 r,.string s,.slice t u v,.int .i64 w,.int .u8 x,.int .u8 y,.int .u8 z,.int .i64 aa,.int .u8 ab,.string ac,.slice ad ae af,.int .i64 ag,.int .u8 ah,.int .u8 ai,.int .u8 aj,.int .i64 ak,.int .u8 al,.string am,.slice an ao ap,.int .i64 aq,.int .i64 ar] 99 (0,0))) (fun a b c d e f g h i j k l m n o p q r s t u v w x y z aa ab ac ad ae af ag ah ai aj ak al am an ao ap aq ar=>.agg #[.int .u8 a,.int .u8 b,.string c,.int .u8 d,.int .u8 e,.int .u8 f,.int .i64 g,.int .u8 h,.string i,.slice j k l,.int .i64 m,.int .u8 n,.int .u8 o,.int .u8 p,.int .i64 q,.int .u8 r,.string s,.slice t u v,.int .i64 w,.int .u8 x,.int .u8 y,.int .u8 z,.int .i64 aa,.int .u8 ab,.string ac,.slice ad ae af,.int .i64 ag,.int .u8 ah,.int .u8 ai,.int .u8 aj,.int .i64 ak,.int .u8 al,.string am,.slice an ao ap,.int .i64 aq,.int .i64 ar]) (fun k o t n f s a l c q=>.agg #[.int .u8 k,.int .u8 o,.int .u8 t,.int .i64 n,.int .u8 f,.string s,.slice a l c,.int .i64 q]) (.int .u8) (.int .i64) .string .slice .pointer (IntKind.wrap .i64) p I F Q):cf P 158 #[.pointer (some p)] I F Q :=
 tw (A:=(cK [6001,11001,14001,20000] [] [53,86,89,90,91,122] nU [] [5001,13001,18000] [] [] [] [] [])) [53,86,89,90,91,122] func158 h
def g9.V(ka:Nat→Int→Int→Bs→Int→Int→Int→Int→Int→Bs→OA→Nat→Nat→Int→Int→Int→Int→Int→Int→Bs→OA→Nat→Nat→Int→Int→Int→Int→Int→Int→Bs→OA→Nat→Nat→Int→Int→Int→Int→Int→Int→Bs→OA→Nat→Nat→Int→Int→Nat×Obj)(kb:Int→Int→Bs→Int→Int→Int→Int→Int→Bs→OA→Nat→Nat→Int→Int→Int→Int→Int→Int→Bs→OA→Nat→Nat→Int→Int→Int→Int→Int→Int→Bs→OA→Nat→Nat→Int→Int→Int→Int→Int→Int→Bs→OA→Nat→Nat→Int→Int→Value)(nV:Int→Int→Int→Int→Int→Bs→OA→Nat→Nat→Int→Value)(vb vi:Int→Value)(vs:Bs→Value)(vl:OA→Nat→Nat→Value)(vp:OA→Value)(wr:Int→Int)(p:Addr)(I:cc)(F:b8)(Q:cd)  : Prop:=∀b:Nat,dg P 88 (#[vp (some p)]) I ((ka b 0 0 (⟨#[]⟩:Bs) 0 0 0 0 0 (⟨#[]⟩:Bs) none 0 0 0 0 0 0 0 0 (⟨#[]⟩:Bs) none 0 0 0 0 0 0 0 0 (⟨#[]⟩:Bs) none 0 0 0 0 0 0 0 0 (⟨#[]⟩:Bs) none 0 0 0 0)::·) F fun e1 I1 G1=>∃(bV:Int) (bW:Bs) (bX bY a:Int),e1=.returned (.agg #[vb bV,vs bW,vb bX,vi bY,vi a])∧G1 fun F1=>∀(b1:Nat) (I2:cc),cc.le I1 I2→I2 b1=some (Obj.cells #[vs (⟨#[115,117,98,109,105,116]⟩:Bs),vs (⟨#[97,109,101,110,100]⟩:Bs),vs (⟨#[99,97,110,99,101,108]⟩:Bs),vs (⟨#[115,101,116]⟩:Bs),vs (⟨#[103,111,116,111]⟩:Bs),vs (⟨#[104,97,108,116]⟩:Bs)] 9 (0,0))→cy P 122 (#[vp (some p),vl (some ⟨b1,0,none⟩) 6 6]) I2 ((ka b 0 0 (⟨#[]⟩:Bs) 0 0 0 0 0 (⟨#[]⟩:Bs) none 0 0 0 0 0 0 0 0 (⟨#[]⟩:Bs) none 0 0 0 0 0 0 0 0 (⟨#[]⟩:Bs) none 0 0 0 0 0 0 0 0 (⟨#[]⟩:Bs) none 0 0 0 0)::·) F1 vi fun r I3 F2=>(Dt (r<0) (dg P 90 (#[vp (some p),vi 130]) I3 ((ka b 0 0 (⟨#[]⟩:Bs) 0 0 0 0 0 (⟨#[]⟩:Bs) none 0 0 0 0 0 0 0 0 (⟨#[]⟩:Bs) none 0 0 0 0 0 0 0 0 (⟨#[]⟩:Bs) none 0 0 0 0 0 0 0 0 (⟨#[]⟩:Bs) none 0 0 0 0)::·) F2 fun e3 I4 G3=>e3=.returned (.tuple #[])∧G3 fun F3=>Q (.returned ((kb 0 0 (⟨#[]⟩:Bs) 0 0 0 0 0 (⟨#[]⟩:Bs) none 0 0 0 0 0 0 0 0 (⟨#[]⟩:Bs) none 0 0 0 0 0 0 0 0 (⟨#[]⟩:Bs) none 0 0 0 0 0 0 0 0 (⟨#[]⟩:Bs) none 0 0 0 0))) I4 F3) (It (r==0) (dg P 158 (#[vp (some p)]) I3 ((ka b 0 0 (⟨#[]⟩:Bs) 0 0 0 0 0 (⟨#[]⟩:Bs) none 0 0 0 0 0 0 0 0 (⟨#[]⟩:Bs) none 0 0 0 0 0 0 0 0 (⟨#[]⟩:Bs) none 0 0 0 0 0 0 0 0 (⟨#[]⟩:Bs) none 0 0 0 0)::·) F2 fun e4 I5 G4=>∃(a9 ba:Int) (bb:Bs) (bc bd bR bS bT:Int) (bU:Bs) (aT:OA) (aU aV:Nat) (be aW bf bg bh bi:Int) (bj:Bs) (ay:OA) (az aA:Nat) (bk bl bm aX bn bo:Int) (bp:Bs) (aB:OA) (aC aD:Nat) (bq br bs bt bu aY:Int) (bv:Bs) (aE:OA) (aF aG:Nat) (bw bx:Int),e4=.returned ((kb a9 ba bb bc bd bR bS bT bU aT aU aV be aW bf bg bh bi bj ay az aA bk bl bm aX bn bo bp aB aC aD bq br bs bt bu aY bv aE aF aG bw bx))∧G4 fun F4=>Q (.returned ((kb a9 ba bb bc bd bR bS bT bU aT aU aV be aW bf bg bh bi bj ay az aA bk bl bm aX bn bo bp aB aC aD bq br bs bt bu aY bv aE aF aG bw bx))) I5 F4) (∃ad:Addr,some p=some ad∧∃(m:Int),Rd I3 ((ka b 0 0 (⟨#[]⟩:Bs) 0 0 0 0 0 (⟨#[]⟩:Bs) none 0 0 0 0 0 0 0 0 (⟨#[]⟩:Bs) none 0 0 0 0 0 0 0 0 (⟨#[]⟩:Bs) none 0 0 0 0 0 0 0 0 (⟨#[]⟩:Bs) none 0 0 0 0)::F2) (ad.add 3) [vi m]∧∃am:Addr,some p=some am∧∃(cs:List Value) (el:Nat) (F5:b8),List.Perm F2 (((am.add 3).block,Obj.cells cs.toArray el (0,0))::F5)∧(am.add 3).spot=none∧(am.add 3).off+1≤cs.length∧∀c:Nat,(It ((IntKind.wrap .u8 (1+(IntKind.wrap .u8 r)))!=6) (cf P 91 (#[vp (some p)]) I3 ((ka b 0 0 (⟨#[]⟩:Bs) 0 0 0 0 0 (⟨#[]⟩:Bs) none 0 0 0 0 0 0 0 0 (⟨#[]⟩:Bs) none 0 0 0 0 0 0 0 0 (⟨#[]⟩:Bs) none 0 0 0 0 0 0 0 0 (⟨#[]⟩:Bs) none 0 0 0 0)::(ka c (IntKind.wrap .u8 (1+(IntKind.wrap .u8 r))) 0 (⟨#[]⟩:Bs) 0 0 0 0 0 (⟨#[]⟩:Bs) none 0 0 0 0 0 0 0 0 (⟨#[]⟩:Bs) none 0 0 0 0 0 0 0 0 (⟨#[]⟩:Bs) none 0 0 0 0 0 0 0 0 (⟨#[]⟩:Bs) none 0 0 0 a)::(((am.add 3).block,Obj.cells (cj (am.add 3).off [vi (wr (m+1))] cs).toArray el (0,0))::F5)) fun e5 I6 G5=>∃(r1:Bs),e5=.returned (vs r1)∧∃F6:b8,List.Perm G5 ((ka b 0 0 (⟨#[]⟩:Bs) 0 0 0 0 0 (⟨#[]⟩:Bs) none 0 0 0 0 0 0 0 0 (⟨#[]⟩:Bs) none 0 0 0 0 0 0 0 0 (⟨#[]⟩:Bs) none 0 0 0 0 0 0 0 0 (⟨#[]⟩:Bs) none 0 0 0 0)::(ka c (IntKind.wrap .u8 (1+(IntKind.wrap .u8 r))) 0 (⟨#[]⟩:Bs) 0 0 0 0 0 (⟨#[]⟩:Bs) none 0 0 0 0 0 0 0 0 (⟨#[]⟩:Bs) none 0 0 0 0 0 0 0 0 (⟨#[]⟩:Bs) none 0 0 0 0 0 0 0 0 (⟨#[]⟩:Bs) none 0 0 0 a)::F6)∧(It ((IntKind.wrap .u8 (1+(IntKind.wrap .u8 r)))==2) (cy P 89 (#[vp (some p),vs (⟨#[116,111]⟩:Bs)]) I6 ((ka b 0 0 (⟨#[]⟩:Bs) 0 0 0 0 0 (⟨#[]⟩:Bs) none 0 0 0 0 0 0 0 0 (⟨#[]⟩:Bs) none 0 0 0 0 0 0 0 0 (⟨#[]⟩:Bs) none 0 0 0 0 0 0 0 0 (⟨#[]⟩:Bs) none 0 0 0 0)::(ka c (IntKind.wrap .u8 (1+(IntKind.wrap .u8 r))) 0 r1 0 0 0 0 0 (⟨#[]⟩:Bs) none 0 0 0 0 0 0 0 0 (⟨#[]⟩:Bs) none 0 0 0 0 0 0 0 0 (⟨#[]⟩:Bs) none 0 0 0 0 0 0 0 0 (⟨#[]⟩:Bs) none 0 0 0 a)::·) F6 vi fun r2 I7 F7=>dg P 53 (#[vp (some p),vi 0]) I7 ((ka b 0 0 (⟨#[]⟩:Bs) 0 0 0 0 0 (⟨#[]⟩:Bs) none 0 0 0 0 0 0 0 0 (⟨#[]⟩:Bs) none 0 0 0 0 0 0 0 0 (⟨#[]⟩:Bs) none 0 0 0 0 0 0 0 0 (⟨#[]⟩:Bs) none 0 0 0 0)::(ka c (IntKind.wrap .u8 (1+(IntKind.wrap .u8 r))) 0 r1 0 0 0 0 0 (⟨#[]⟩:Bs) none 0 0 0 0 0 0 0 0 (⟨#[]⟩:Bs) none 0 0 0 0 0 0 0 0 (⟨#[]⟩:Bs) none 0 0 0 0 0 0 0 0 (⟨#[]⟩:Bs) none 0 0 0 a)::·) F7 fun e7 I8 G7=>∃(l n o q s:Int) (t:Bs) (g:OA) (h i:Nat) (u:Int),e7=.returned (nV l n o q s t g h i u)∧G7 fun F8=>cy P 89 (#[vp (some p),vs (⟨#[97,116]⟩:Bs)]) I8 ((ka b 0 0 (⟨#[]⟩:Bs) 0 0 0 0 0 (⟨#[]⟩:Bs) none 0 0 0 0 0 0 0 0 (⟨#[]⟩:Bs) none 0 0 0 0 0 0 0 0 (⟨#[]⟩:Bs) none 0 0 0 0 0 0 0 0 (⟨#[]⟩:Bs) none 0 0 0 0)::(ka c (IntKind.wrap .u8 (1+(IntKind.wrap .u8 r))) 0 r1 0 0 0 0 0 (⟨#[]⟩:Bs) none 0 0 0 l n o q s t g h i u 0 0 0 0 0 (⟨#[]⟩:Bs) none 0 0 0 0 0 0 0 0 (⟨#[]⟩:Bs) none 0 0 0 a)::·) F8 vi fun r3 I9 F9=>dg P 53 (#[vp (some p),vi 0]) I9 ((ka b 0 0 (⟨#[]⟩:Bs) 0 0 0 0 0 (⟨#[]⟩:Bs) none 0 0 0 0 0 0 0 0 (⟨#[]⟩:Bs) none 0 0 0 0 0 0 0 0 (⟨#[]⟩:Bs) none 0 0 0 0 0 0 0 0 (⟨#[]⟩:Bs) none 0 0 0 0)::(ka c (IntKind.wrap .u8 (1+(IntKind.wrap .u8 r))) 0 r1 0 0 0 0 0 (⟨#[]⟩:Bs) none 0 0 0 l n o q s t g h i u 0 0 0 0 0 (⟨#[]⟩:Bs) none 0 0 0 0 0 0 0 0 (⟨#[]⟩:Bs) none 0 0 0 a)::·) F9 fun e9 I10 G9=>∃(an ah ai ao ap:Int) (aq:Bs) (v:OA) (w x:Nat) (ar:Int),e9=.returned (nV an ah ai ao ap aq v w x ar)∧G9 fun F10=>(It ((IntKind.wrap .u8 (1+(IntKind.wrap .u8 r)))==4) (cy P 89 (#[vp (some p),vs (⟨#[61]⟩:Bs)]) I10 ((ka b 0 0 (⟨#[]⟩:Bs) 0 0 0 0 0 (⟨#[]⟩:Bs) none 0 0 0 0 0 0 0 0 (⟨#[]⟩:Bs) none 0 0 0 0 0 0 0 0 (⟨#[]⟩:Bs) none 0 0 0 0 0 0 0 0 (⟨#[]⟩:Bs) none 0 0 0 0)::(ka c (IntKind.wrap .u8 (1+(IntKind.wrap .u8 r))) 0 r1 0 0 0 0 0 (⟨#[]⟩:Bs) none 0 0 0 l n o q s t g h i u an ah ai ao ap aq v w x ar 0 0 0 0 0 (⟨#[]⟩:Bs) none 0 0 0 a)::·) F10 vi fun r4 I11 F11=>dg P 53 (#[vp (some p),vi 0]) I11 ((ka b 0 0 (⟨#[]⟩:Bs) 0 0 0 0 0 (⟨#[]⟩:Bs) none 0 0 0 0 0 0 0 0 (⟨#[]⟩:Bs) none 0 0 0 0 0 0 0 0 (⟨#[]⟩:Bs) none 0 0 0 0 0 0 0 0 (⟨#[]⟩:Bs) none 0 0 0 0)::(ka c (IntKind.wrap .u8 (1+(IntKind.wrap .u8 r))) 0 r1 0 0 0 0 0 (⟨#[]⟩:Bs) none 0 0 0 l n o q s t g h i u an ah ai ao ap aq v w x ar 0 0 0 0 0 (⟨#[]⟩:Bs) none 0 0 0 a)::·) F11 fun b0 I12 G11=>∃(bz aZ a0 bA bB:Int) (bC:Bs) (aH:OA) (aI aJ:Nat) (bD:Int),b0=.returned (nV bz aZ a0 bA bB bC aH aI aJ bD)∧G11 fun F12=>Q (.returned ((kb (IntKind.wrap .u8 (1+(IntKind.wrap .u8 r))) 0 r1 0 0 0 0 0 (⟨#[]⟩:Bs) none 0 0 0 l n o q s t g h i u an ah ai ao ap aq v w x ar bz aZ a0 bA bB bC aH aI aJ bD a))) I12 F12) (Q (.returned ((kb (IntKind.wrap .u8 (1+(IntKind.wrap .u8 r))) 0 r1 0 0 0 0 0 (⟨#[]⟩:Bs) none 0 0 0 l n o q s t g h i u an ah ai ao ap aq v w x ar 0 0 0 0 0 (⟨#[]⟩:Bs) none 0 0 0 a))) I10 F10))) (It ((IntKind.wrap .u8 (1+(IntKind.wrap .u8 r)))==4) (cy P 89 (#[vp (some p),vs (⟨#[61]⟩:Bs)]) I6 ((ka b 0 0 (⟨#[]⟩:Bs) 0 0 0 0 0 (⟨#[]⟩:Bs) none 0 0 0 0 0 0 0 0 (⟨#[]⟩:Bs) none 0 0 0 0 0 0 0 0 (⟨#[]⟩:Bs) none 0 0 0 0 0 0 0 0 (⟨#[]⟩:Bs) none 0 0 0 0)::(ka c (IntKind.wrap .u8 (1+(IntKind.wrap .u8 r))) 0 r1 0 0 0 0 0 (⟨#[]⟩:Bs) none 0 0 0 0 0 0 0 0 (⟨#[]⟩:Bs) none 0 0 0 0 0 0 0 0 (⟨#[]⟩:Bs) none 0 0 0 0 0 0 0 0 (⟨#[]⟩:Bs) none 0 0 0 a)::·) F6 vi fun r5 I13 F13=>dg P 53 (#[vp (some p),vi 0]) I13 ((ka b 0 0 (⟨#[]⟩:Bs) 0 0 0 0 0 (⟨#[]⟩:Bs) none 0 0 0 0 0 0 0 0 (⟨#[]⟩:Bs) none 0 0 0 0 0 0 0 0 (⟨#[]⟩:Bs) none 0 0 0 0 0 0 0 0 (⟨#[]⟩:Bs) none 0 0 0 0)::(ka c (IntKind.wrap .u8 (1+(IntKind.wrap .u8 r))) 0 r1 0 0 0 0 0 (⟨#[]⟩:Bs) none 0 0 0 0 0 0 0 0 (⟨#[]⟩:Bs) none 0 0 0 0 0 0 0 0 (⟨#[]⟩:Bs) none 0 0 0 0 0 0 0 0 (⟨#[]⟩:Bs) none 0 0 0 a)::·) F13 fun b3 I14 G13=>∃(bE a1 a2 bF bG:Int) (bH:Bs) (aK:OA) (aL aM:Nat) (bI:Int),b3=.returned (nV bE a1 a2 bF bG bH aK aL aM bI)∧G13 fun F14=>Q (.returned ((kb (IntKind.wrap .u8 (1+(IntKind.wrap .u8 r))) 0 r1 0 0 0 0 0 (⟨#[]⟩:Bs) none 0 0 0 0 0 0 0 0 (⟨#[]⟩:Bs) none 0 0 0 0 0 0 0 0 (⟨#[]⟩:Bs) none 0 0 0 bE a1 a2 bF bG bH aK aL aM bI a))) I14 F14) (Q (.returned ((kb (IntKind.wrap .u8 (1+(IntKind.wrap .u8 r))) 0 r1 0 0 0 0 0 (⟨#[]⟩:Bs) none 0 0 0 0 0 0 0 0 (⟨#[]⟩:Bs) none 0 0 0 0 0 0 0 0 (⟨#[]⟩:Bs) none 0 0 0 0 0 0 0 0 (⟨#[]⟩:Bs) none 0 0 0 a))) I6 F6)))) (It ((IntKind.wrap .u8 (1+(IntKind.wrap .u8 r)))==2) (cf P 89 (#[vp (some p),vs (⟨#[116,111]⟩:Bs)]) I3 ((ka b 0 0 (⟨#[]⟩:Bs) 0 0 0 0 0 (⟨#[]⟩:Bs) none 0 0 0 0 0 0 0 0 (⟨#[]⟩:Bs) none 0 0 0 0 0 0 0 0 (⟨#[]⟩:Bs) none 0 0 0 0 0 0 0 0 (⟨#[]⟩:Bs) none 0 0 0 0)::(ka c (IntKind.wrap .u8 (1+(IntKind.wrap .u8 r))) 0 (⟨#[]⟩:Bs) 0 0 0 0 0 (⟨#[]⟩:Bs) none 0 0 0 0 0 0 0 0 (⟨#[]⟩:Bs) none 0 0 0 0 0 0 0 0 (⟨#[]⟩:Bs) none 0 0 0 0 0 0 0 0 (⟨#[]⟩:Bs) none 0 0 0 a)::(((am.add 3).block,Obj.cells (cj (am.add 3).off [vi (wr (m+1))] cs).toArray el (0,0))::F5)) fun b4 I15 G14=>∃(r6:Int),b4=.returned (vi r6)∧∃F15:b8,List.Perm G14 ((ka b 0 0 (⟨#[]⟩:Bs) 0 0 0 0 0 (⟨#[]⟩:Bs) none 0 0 0 0 0 0 0 0 (⟨#[]⟩:Bs) none 0 0 0 0 0 0 0 0 (⟨#[]⟩:Bs) none 0 0 0 0 0 0 0 0 (⟨#[]⟩:Bs) none 0 0 0 0)::(ka c (IntKind.wrap .u8 (1+(IntKind.wrap .u8 r))) 0 (⟨#[]⟩:Bs) 0 0 0 0 0 (⟨#[]⟩:Bs) none 0 0 0 0 0 0 0 0 (⟨#[]⟩:Bs) none 0 0 0 0 0 0 0 0 (⟨#[]⟩:Bs) none 0 0 0 0 0 0 0 0 (⟨#[]⟩:Bs) none 0 0 0 a)::F15)∧dg P 53 (#[vp (some p),vi 0]) I15 ((ka b 0 0 (⟨#[]⟩:Bs) 0 0 0 0 0 (⟨#[]⟩:Bs) none 0 0 0 0 0 0 0 0 (⟨#[]⟩:Bs) none 0 0 0 0 0 0 0 0 (⟨#[]⟩:Bs) none 0 0 0 0 0 0 0 0 (⟨#[]⟩:Bs) none 0 0 0 0)::(ka c (IntKind.wrap .u8 (1+(IntKind.wrap .u8 r))) 0 (⟨#[]⟩:Bs) 0 0 0 0 0 (⟨#[]⟩:Bs) none 0 0 0 0 0 0 0 0 (⟨#[]⟩:Bs) none 0 0 0 0 0 0 0 0 (⟨#[]⟩:Bs) none 0 0 0 0 0 0 0 0 (⟨#[]⟩:Bs) none 0 0 0 a)::·) F15 fun b5 I16 G15=>∃(y j k z aa:Int) (ab:Bs) (d:OA) (e f:Nat) (ac:Int),b5=.returned (nV y j k z aa ab d e f ac)∧G15 fun F16=>cy P 89 (#[vp (some p),vs (⟨#[97,116]⟩:Bs)]) I16 ((ka b 0 0 (⟨#[]⟩:Bs) 0 0 0 0 0 (⟨#[]⟩:Bs) none 0 0 0 0 0 0 0 0 (⟨#[]⟩:Bs) none 0 0 0 0 0 0 0 0 (⟨#[]⟩:Bs) none 0 0 0 0 0 0 0 0 (⟨#[]⟩:Bs) none 0 0 0 0)::(ka c (IntKind.wrap .u8 (1+(IntKind.wrap .u8 r))) 0 (⟨#[]⟩:Bs) 0 0 0 0 0 (⟨#[]⟩:Bs) none 0 0 0 y j k z aa ab d e f ac 0 0 0 0 0 (⟨#[]⟩:Bs) none 0 0 0 0 0 0 0 0 (⟨#[]⟩:Bs) none 0 0 0 a)::·) F16 vi fun r7 I17 F17=>dg P 53 (#[vp (some p),vi 0]) I17 ((ka b 0 0 (⟨#[]⟩:Bs) 0 0 0 0 0 (⟨#[]⟩:Bs) none 0 0 0 0 0 0 0 0 (⟨#[]⟩:Bs) none 0 0 0 0 0 0 0 0 (⟨#[]⟩:Bs) none 0 0 0 0 0 0 0 0 (⟨#[]⟩:Bs) none 0 0 0 0)::(ka c (IntKind.wrap .u8 (1+(IntKind.wrap .u8 r))) 0 (⟨#[]⟩:Bs) 0 0 0 0 0 (⟨#[]⟩:Bs) none 0 0 0 y j k z aa ab d e f ac 0 0 0 0 0 (⟨#[]⟩:Bs) none 0 0 0 0 0 0 0 0 (⟨#[]⟩:Bs) none 0 0 0 a)::·) F17 fun b7 I18 G17=>∃(au aj ak al av:Int) (aw:Bs) (ae:OA) (af ag:Nat) (ax:Int),b7=.returned (nV au aj ak al av aw ae af ag ax)∧G17 fun F18=>(It ((IntKind.wrap .u8 (1+(IntKind.wrap .u8 r)))==4) (cy P 89 (#[vp (some p),vs (⟨#[61]⟩:Bs)]) I18 ((ka b 0 0 (⟨#[]⟩:Bs) 0 0 0 0 0 (⟨#[]⟩:Bs) none 0 0 0 0 0 0 0 0 (⟨#[]⟩:Bs) none 0 0 0 0 0 0 0 0 (⟨#[]⟩:Bs) none 0 0 0 0 0 0 0 0 (⟨#[]⟩:Bs) none 0 0 0 0)::(ka c (IntKind.wrap .u8 (1+(IntKind.wrap .u8 r))) 0 (⟨#[]⟩:Bs) 0 0 0 0 0 (⟨#[]⟩:Bs) none 0 0 0 y j k z aa ab d e f ac au aj ak al av aw ae af ag ax 0 0 0 0 0 (⟨#[]⟩:Bs) none 0 0 0 a)::·) F18 vi fun r8 I19 F19=>dg P 53 (#[vp (some p),vi 0]) I19 ((ka b 0 0 (⟨#[]⟩:Bs) 0 0 0 0 0 (⟨#[]⟩:Bs) none 0 0 0 0 0 0 0 0 (⟨#[]⟩:Bs) none 0 0 0 0 0 0 0 0 (⟨#[]⟩:Bs) none 0 0 0 0 0 0 0 0 (⟨#[]⟩:Bs) none 0 0 0 0)::(ka c (IntKind.wrap .u8 (1+(IntKind.wrap .u8 r))) 0 (⟨#[]⟩:Bs) 0 0 0 0 0 (⟨#[]⟩:Bs) none 0 0 0 y j k z aa ab d e f ac au aj ak al av aw ae af ag ax 0 0 0 0 0 (⟨#[]⟩:Bs) none 0 0 0 a)::·) F19 fun b9 I20 G19=>∃(bJ a3 a4 a5 bK:Int) (bL:Bs) (aN:OA) (aO aP:Nat) (bM:Int),b9=.returned (nV bJ a3 a4 a5 bK bL aN aO aP bM)∧G19 fun F20=>Q (.returned ((kb (IntKind.wrap .u8 (1+(IntKind.wrap .u8 r))) 0 (⟨#[]⟩:Bs) 0 0 0 0 0 (⟨#[]⟩:Bs) none 0 0 0 y j k z aa ab d e f ac au aj ak al av aw ae af ag ax bJ a3 a4 a5 bK bL aN aO aP bM a))) I20 F20) (Q (.returned ((kb (IntKind.wrap .u8 (1+(IntKind.wrap .u8 r))) 0 (⟨#[]⟩:Bs) 0 0 0 0 0 (⟨#[]⟩:Bs) none 0 0 0 y j k z aa ab d e f ac au aj ak al av aw ae af ag ax 0 0 0 0 0 (⟨#[]⟩:Bs) none 0 0 0 a))) I18 F18))) (It ((IntKind.wrap .u8 (1+(IntKind.wrap .u8 r)))==4) (cf P 89 (#[vp (some p),vs (⟨#[61]⟩:Bs)]) I3 ((ka b 0 0 (⟨#[]⟩:Bs) 0 0 0 0 0 (⟨#[]⟩:Bs) none 0 0 0 0 0 0 0 0 (⟨#[]⟩:Bs) none 0 0 0 0 0 0 0 0 (⟨#[]⟩:Bs) none 0 0 0 0 0 0 0 0 (⟨#[]⟩:Bs) none 0 0 0 0)::(ka c (IntKind.wrap .u8 (1+(IntKind.wrap .u8 r))) 0 (⟨#[]⟩:Bs) 0 0 0 0 0 (⟨#[]⟩:Bs) none 0 0 0 0 0 0 0 0 (⟨#[]⟩:Bs) none 0 0 0 0 0 0 0 0 (⟨#[]⟩:Bs) none 0 0 0 0 0 0 0 0 (⟨#[]⟩:Bs) none 0 0 0 a)::(((am.add 3).block,Obj.cells (cj (am.add 3).off [vi (wr (m+1))] cs).toArray el (0,0))::F5)) fun ca I21 G20=>∃(r9:Int),ca=.returned (vi r9)∧∃F21:b8,List.Perm G20 ((ka b 0 0 (⟨#[]⟩:Bs) 0 0 0 0 0 (⟨#[]⟩:Bs) none 0 0 0 0 0 0 0 0 (⟨#[]⟩:Bs) none 0 0 0 0 0 0 0 0 (⟨#[]⟩:Bs) none 0 0 0 0 0 0 0 0 (⟨#[]⟩:Bs) none 0 0 0 0)::(ka c (IntKind.wrap .u8 (1+(IntKind.wrap .u8 r))) 0 (⟨#[]⟩:Bs) 0 0 0 0 0 (⟨#[]⟩:Bs) none 0 0 0 0 0 0 0 0 (⟨#[]⟩:Bs) none 0 0 0 0 0 0 0 0 (⟨#[]⟩:Bs) none 0 0 0 0 0 0 0 0 (⟨#[]⟩:Bs) none 0 0 0 a)::F21)∧dg P 53 (#[vp (some p),vi 0]) I21 ((ka b 0 0 (⟨#[]⟩:Bs) 0 0 0 0 0 (⟨#[]⟩:Bs) none 0 0 0 0 0 0 0 0 (⟨#[]⟩:Bs) none 0 0 0 0 0 0 0 0 (⟨#[]⟩:Bs) none 0 0 0 0 0 0 0 0 (⟨#[]⟩:Bs) none 0 0 0 0)::(ka c (IntKind.wrap .u8 (1+(IntKind.wrap .u8 r))) 0 (⟨#[]⟩:Bs) 0 0 0 0 0 (⟨#[]⟩:Bs) none 0 0 0 0 0 0 0 0 (⟨#[]⟩:Bs) none 0 0 0 0 0 0 0 0 (⟨#[]⟩:Bs) none 0 0 0 0 0 0 0 0 (⟨#[]⟩:Bs) none 0 0 0 a)::·) F21 fun cb I22 G21=>∃(bN a6 a7 a8 bO:Int) (bP:Bs) (aQ:OA) (aR aS:Nat) (bQ:Int),cb=.returned (nV bN a6 a7 a8 bO bP aQ aR aS bQ)∧G21 fun F22=>Q (.returned ((kb (IntKind.wrap .u8 (1+(IntKind.wrap .u8 r))) 0 (⟨#[]⟩:Bs) 0 0 0 0 0 (⟨#[]⟩:Bs) none 0 0 0 0 0 0 0 0 (⟨#[]⟩:Bs) none 0 0 0 0 0 0 0 0 (⟨#[]⟩:Bs) none 0 0 0 bN a6 a7 a8 bO bP aQ aR aS bQ a))) I22 F22) (Q (.returned ((kb (IntKind.wrap .u8 (1+(IntKind.wrap .u8 r))) 0 (⟨#[]⟩:Bs) 0 0 0 0 0 (⟨#[]⟩:Bs) none 0 0 0 0 0 0 0 0 (⟨#[]⟩:Bs) none 0 0 0 0 0 0 0 0 (⟨#[]⟩:Bs) none 0 0 0 0 0 0 0 0 (⟨#[]⟩:Bs) none 0 0 0 a))) I3 ((((am.add 3).block,Obj.cells (cj (am.add 3).off [vi (wr (m+1))] cs).toArray el (0,0))::F5)))))))))
theorem g9.vc{p:Addr}{I:cc}{F:b8}{Q:cd}  (h:g9.V (fun W a b c d e f g h i j k l m n o p q r s t u v w x y z aa ab ac ad ae af ag ah ai aj ak al am an ao ap aq ar=>(W,Obj.cells #[.int .u8 a,.int .u8 b,.string c,.int .u8 d,.int .u8 e,.int .u8 f,.int .i64 g,.int .u8 h,.string i,.slice j k l,.int .i64 m,.int .u8 n,.int .u8 o,.int .u8 p,.int .i64 q,.int .u8 r,.string s,.slice t u v,.int .i64 w,.int .u8 x,.int .u8 y,.int .u8 z,.int .i64 aa,.int .u8 ab,.string ac,.slice ad ae af,.int .i64 ag,.int .u8 ah,.int .u8 ai,.int .u8 aj,.int .i64 ak,.int .u8 al,.string am,.slice an ao ap,.int .i64 aq,.int .i64 ar] 99 (0,0))) (fun a b c d e f g h i j k l m n o p q r s t u v w x y z aa ab ac ad ae af ag ah ai aj ak al am an ao ap aq ar=>.agg #[.int .u8 a,.int .u8 b,.string c,.int .u8 d,.int .u8 e,.int .u8 f,.int .i64 g,.int .u8 h,.string i,.slice j k l,.int .i64 m,.int .u8 n,.int .u8 o,.int .u8 p,.int .i64 q,.int .u8 r,.string s,.slice t u v,.int .i64 w,.int .u8 x,.int .u8 y,.int .u8 z,.int .i64 aa,.int .u8 ab,.string ac,.slice ad ae af,.int .i64 ag,.int .u8 ah,.int .u8 ai,.int .u8 aj,.int .i64 ak,.int .u8 al,.string am,.slice an ao ap,.int .i64 aq,.int .i64 ar]) (fun k o t n f s a l c q=>.agg #[.int .u8 k,.int .u8 o,.int .u8 t,.int .i64 n,.int .u8 f,.string s,.slice a l c,.int .i64 q]) (.int .u8) (.int .i64) .string .slice .pointer (IntKind.wrap .i64) p I F Q):cf P 146 #[.pointer (some p)] I F Q :=
 tw (A:=(cK [3001,6001,10002,12002,17002] [] [53,88,89,90,91,122,158] nU [] [2001] [] [] [] [] [])) [53,88,89,90,91,122,158] func146 h
def fP.V(ka:Nat→Int→Int→Int→Int→Int→Bs→OA→Nat→Nat→Int→OA→Nat→Nat→Int→Nat×Obj)(kb:Nat→Int→Int→Bs→Int→Int→Int→Int→Int→Bs→OA→Nat→Nat→Int→Int→Int→Int→Int→Int→Bs→OA→Nat→Nat→Int→Int→Int→Int→Int→Int→Bs→OA→Nat→Nat→Int→Int→Int→Int→Int→Int→Bs→OA→Nat→Nat→Int→Int→Nat×Obj)(vb vi:Int→Value)(vs:Bs→Value)(vl:OA→Nat→Nat→Value)(vp:OA→Value)(p:Addr)(I:cc)(F:b8)(Q:cd)(Inv8:Int→Int→Int→Int→Int→Bs→OA→Nat→Nat→Int→OA→Nat→Nat→Int→cc→b8→Prop)(Inv10:Int→Int→Int→Int→Int→Bs→OA→Nat→Nat→Int→OA→Nat→Nat→Int→Nat→cc→b8→Prop):Prop:=∀b:Nat,cy P 89 (#[vp (some p),vs (⟨#[119,104,101,110]⟩:Bs)]) I ((ka b 0 0 0 0 0 (⟨#[]⟩:Bs) none 0 0 0 none 0 0 0)::·) F vi fun r I1 F1=>∀aj:Nat,dg P 53 (#[vp (some p),vi 0]) I1 ((ka b 0 0 0 0 0 (⟨#[]⟩:Bs) none 0 0 0 none 0 0 0)::(ka aj 0 0 0 0 0 (⟨#[]⟩:Bs) none 0 0 0 none 0 0 r)::·) F1 fun e2 I2 G2=>∃(bb bc bd be bf:Int) (bg:Bs) (a6:OA) (a7 a8:Nat) (bh:Int),e2=.returned (.agg #[vb bb,vb bc,vb bd,vi be,vb bf,vs bg,vl a6 a7 a8,vi bh])∧G2 fun F2=>cy P 89 (#[vp (some p),vs (⟨#[100,111]⟩:Bs)]) I2 ((ka b 0 0 0 0 0 (⟨#[]⟩:Bs) none 0 0 0 none 0 0 0)::(ka aj bb bc bd be bf bg a6 a7 a8 bh none 0 0 r)::·) F2 vi fun r1 I3 F3=>((∃m:Nat,Inv10 bb bc bd be bf bg a6 a7 a8 bh none 0 0 r m I3 F3)∧∀(e f g h i:Int) (j:Bs) (a:OA) (c d:Nat) (k:Int) (ag:OA) (ah ai:Nat) (l:Int) (m1:Nat) (I4:cc) (F4:b8),cc.le I3 I4→Inv10 e f g h i j a c d k ag ah ai l m1 I4 F4→dg P 146 (#[vp (some p)]) I4 ((ka b 0 0 0 0 0 (⟨#[]⟩:Bs) none 0 0 0 none 0 0 0)::(ka aj e f g h i j a c d k ag ah ai l)::·) F4 fun e4 I5 G4=>∃(ak al:Int) (am:Bs) (an ao ap aU aq:Int) (aV:Bs) (z:OA) (aa ab:Nat) (ar ac au av aw ax:Int) (ay:Bs) (n:OA) (o q:Nat) (az aA aB ae aC aD:Int) (aE:Bs) (s:OA) (t u:Nat) (aF aG aH aI aJ af:Int) (aK:Bs) (w:OA) (x y:Nat) (aL aM:Int),e4=.returned (.agg #[vb ak,vb al,vs am,vb an,vb ao,vb ap,vi aU,vb aq,vs aV,vl z aa ab,vi ar,vb ac,vb au,vb av,vi aw,vb ax,vs ay,vl n o q,vi az,vb aA,vb aB,vb ae,vi aC,vb aD,vs aE,vl s t u,vi aF,vb aG,vb aH,vb aI,vi aJ,vb af,vs aK,vl w x y,vi aL,vi aM])∧G4 fun F5=>∀a9:Nat,∀(b1:Nat) (I6:cc),cc.le I5 I6→I6 b1=some (Obj.cells #[vb ak,vb al,vs am,vb an,vb ao,vb ap,vi aU,vb aq,vs aV,vl z aa ab,vi ar,vb ac,vb au,vb av,vi aw,vb ax,vs ay,vl n o q,vi az,vb aA,vb aB,vb ae,vi aC,vb aD,vs aE,vl s t u,vi aF,vb aG,vb aH,vb aI,vi aJ,vb af,vs aK,vl w x y,vi aL,vi aM] 99 (0,0))→cF P (Builtin.append_ #[82,82] 82 #[vl ag ah ai,vl (some ⟨b1,0,none⟩) 1 1]) I6 ((ka b 0 0 0 0 0 (⟨#[]⟩:Bs) none 0 0 0 none 0 0 0)::(ka aj e f g h i j a c d k ag ah ai l)::(kb a9 ak al am an ao ap aU aq aV z aa ab ar ac au av aw ax ay n o q az aA aB ae aC aD aE s t u aF aG aH aI aJ af aK w x y aL aM)::F5) fun v I7 G5=>∃(aW:OA) (aT aX:Nat),v=vl aW aT aX∧∃F6:b8,List.Perm G5 ((ka b 0 0 0 0 0 (⟨#[]⟩:Bs) none 0 0 0 none 0 0 0)::(ka aj e f g h i j a c d k ag ah ai l)::(kb a9 ak al am an ao ap aU aq aV z aa ab ar ac au av aw ax ay n o q az aA aB ae aC aD aE s t u aF aG aH aI aJ af aK w x y aL aM)::F6)∧cy P 86 (#[vp (some p),vs (⟨#[44]⟩:Bs)]) I7 ((ka b 0 0 0 0 0 (⟨#[]⟩:Bs) none 0 0 0 none 0 0 0)::(ka aj e f g h i j a c d k aW aT aX l)::(kb a9 ak al am an ao ap aU aq aV z aa ab ar ac au av aw ax ay n o q az aA aB ae aC aD aE s t u aF aG aH aI aJ af aK w x y aL aM)::·) F6 .bool fun r2 I8 F7=>(It (!r2) (Inv8 e f g h i j a c d k aW aT aX l I8 F7) (cy P 92 (#[vp (some p),vi (aT:Int),vi 8]) I8 ((ka b 0 0 0 0 0 (⟨#[]⟩:Bs) none 0 0 0 none 0 0 0)::(ka aj e f g h i j a c d k aW aT aX l)::(kb a9 ak al am an ao ap aU aq aV z aa ab ar ac au av aw ax ay n o q az aA aB ae aC aD aE s t u aF aG aH aI aJ af aK w x y aL aM)::·) F7 .bool fun r3 I9 F8=>(It (!r3) (Inv8 e f g h i j a c d k aW aT aX l I9 F8) (∃ad:Addr,some p=some ad∧∃(m2:Int),Rd I9 ((ka b 0 0 0 0 0 (⟨#[]⟩:Bs) none 0 0 0 none 0 0 0)::(ka aj e f g h i j a c d k aW aT aX l)::(kb a9 ak al am an ao ap aU aq aV z aa ab ar ac au av aw ax ay n o q az aA aB ae aC aD aE s t u aF aG aH aI aJ af aK w x y aL aM)::F8) (ad.add 3) [vi m2]∧∃ba:Addr,some p=some ba∧∃(cs:List Value) (el:Nat) (F9:b8),List.Perm F8 (((ba.add 3).block,Obj.cells cs.toArray el (0,0))::F9)∧(ba.add 3).spot=none∧(ba.add 3).off+1≤cs.length∧(∃m3:Nat,m3<m1∧Inv10 e f g h i j a c d k aW aT aX l m3 I9 (((ba.add 3).block,Obj.cells (cj (ba.add 3).off [vi (IntKind.wrap .i64 (m2+1))] cs).toArray el (0,0))::F9)))))))∧∀(aY aZ a0 a1 a2:Int) (a3:Bs) (aN:OA) (aO aP:Nat) (a4:Int) (aQ:OA) (aR aS:Nat) (a5:Int) (I10:cc) (F10:b8),cc.le I3 I10→Inv8 aY aZ a0 a1 a2 a3 aN aO aP a4 aQ aR aS a5 I10 F10→cy P 89 (#[vp (some p),vs (⟨#[59]⟩:Bs)]) I10 ((ka b 0 0 0 0 0 (⟨#[]⟩:Bs) none 0 0 0 none 0 0 0)::(ka aj aY aZ a0 a1 a2 a3 aN aO aP a4 aQ aR aS a5)::·) F10 vi fun r4 I11 F11=>Q (.returned (.agg #[vb aY,vb aZ,vb a0,vi a1,vb a2,vs a3,vl aN aO aP,vi a4,vl aQ aR aS,vi a5])) I11 (F11)
theorem fP.vc{p:Addr}{I:cc}{F:b8}{Q:cd}(Inv8:Int→Int→Int→Int→Int→Bs→OA→Nat→Nat→Int→OA→Nat→Nat→Int→cc→b8→Prop)(Inv10:Int→Int→Int→Int→Int→Bs→OA→Nat→Nat→Int→OA→Nat→Nat→Int→Nat→cc→b8→Prop)(h:fP.V (fun W a b c d e f g h i j k l m n=>(W,Obj.cells #[.int .u8 a,.int .u8 b,.int .u8 c,.int .i64 d,.int .u8 e,.string f,.slice g h i,.int .i64 j,.slice k l m,.int .i64 n] 84 (0,0))) (fun W a b c d e f g h i j k l m n o p q r s t u v w x y z aa ab ac ad ae af ag ah ai aj ak al am an ao ap aq ar=>(W,Obj.cells #[.int .u8 a,.int .u8 b,.string c,.int .u8 d,.int .u8 e,.int .u8 f,.int .i64 g,.int .u8 h,.string i,.slice j k l,.int .i64 m,.int .u8 n,.int .u8 o,.int .u8 p,.int .i64 q,.int .u8 r,.string s,.slice t u v,.int .i64 w,.int .u8 x,.int .u8 y,.int .u8 z,.int .i64 aa,.int .u8 ab,.string ac,.slice ad ae af,.int .i64 ag,.int .u8 ah,.int .u8 ai,.int .u8 aj,.int .i64 ak,.int .u8 al,.string am,.slice an ao ap,.int .i64 aq,.int .i64 ar] 99 (0,0))) (.int .u8) (.int .i64) .string .slice .pointer p I F Q Inv8 Inv10):cf P 124 #[.pointer (some p)] I F Q :=
 tw (A:=(cK [7001,9001] [] [53,86,89,92,146] nU [(8,⟨[],[(1,[(.int .u8),(.int .u8),(.int .u8),(.int .i64),(.int .u8),.str,.slc,(.int .i64),.slc,(.int .i64)])],fun _ _ _ vs m I F=>match vs with | [.int _ y0,.int _ y1,.int _ y2,.int _ y3,.int _ y4,.string y5,.slice y6 y7 y8,.int _ y9,.slice y10 y11 y12,.int _ y13]=>Inv8 y0 y1 y2 y3 y4 y5 y6 y7 y8 y9 y10 y11 y12 y13 I F | _=>False,[],[]⟩),(10,⟨[],[(1,[(.int .u8),(.int .u8),(.int .u8),(.int .i64),(.int .u8),.str,.slc,(.int .i64),.slc,(.int .i64)])],fun _ _ _ vs m I F=>match vs with | [.int _ y0,.int _ y1,.int _ y2,.int _ y3,.int _ y4,.string y5,.slice y6 y7 y8,.int _ y9,.slice y10 y11 y12,.int _ y13]=>Inv10 y0 y1 y2 y3 y4 y5 y6 y7 y8 y9 y10 y11 y12 y13 m I F | _=>False,[],[]⟩)] [5003] [] [] [] [] [])) [53,86,89,92,146] func124 h
def fi.V(ka:Nat→Bs→OA→Nat→Nat→Int→Nat×Obj)(vb vi:Int→Value)(vs:Bs→Value)(vl:OA→Nat→Nat→Value)(vp:OA→Value)(p:Addr)(I:cc)(F:b8)(Q:cd)(Inv8:Bs→OA→Nat→Nat→Int→cc→b8→Prop)(Inv10:Bs→OA→Nat→Nat→Int→Nat→cc→b8→Prop):Prop:=∀b:Nat,cy P 89 (#[vp (some p),vs (⟨#[115,116,97,116,101]⟩:Bs)]) I ((ka b (⟨#[]⟩:Bs) none 0 0 0)::·) F vi fun r I1 F1=>∀g:Nat,cy P 91 (#[vp (some p)]) I1 ((ka b (⟨#[]⟩:Bs) none 0 0 0)::(ka g (⟨#[]⟩:Bs) none 0 0 r)::·) F1 vs fun r1 I2 F2=>cy P 89 (#[vp (some p),vs (⟨#[123]⟩:Bs)]) I2 ((ka b (⟨#[]⟩:Bs) none 0 0 0)::(ka g r1 none 0 0 r)::·) F2 vi fun r2 I3 F3=>((∃m:Nat,Inv10 r1 none 0 0 r m I3 F3)∧∀(e:Bs) (c:OA) (a d:Nat) (f:Int) (m1:Nat) (I4:cc) (F4:b8),cc.le I3 I4→Inv10 e c a d f m1 I4 F4→cy P 86 (#[vp (some p),vs (⟨#[119,104,101,110]⟩:Bs)]) I4 ((ka b (⟨#[]⟩:Bs) none 0 0 0)::(ka g e c a d f)::·) F4 .bool fun r3 I5 F5=>(It (!r3) (Inv8 e c a d f I5 F5) (cy P 92 (#[vp (some p),vi (a:Int),vi 12]) I5 ((ka b (⟨#[]⟩:Bs) none 0 0 0)::(ka g e c a d f)::·) F5 .bool fun r4 I6 F6=>(It (!r4) (Inv8 e c a d f I6 F6) (dg P 124 (#[vp (some p)]) I6 ((ka b (⟨#[]⟩:Bs) none 0 0 0)::(ka g e c a d f)::·) F6 fun e6 I7 G6=>∃(w x y z aa:Int) (ab:Bs) (n:OA) (o q:Nat) (ac:Int) (s:OA) (t u:Nat) (ad:Int),e6=.returned (.agg #[vb w,vb x,vb y,vi z,vb aa,vs ab,vl n o q,vi ac,vl s t u,vi ad])∧G6 fun F7=>∀ah:Nat,∀(b1:Nat) (I8:cc),cc.le I7 I8→I8 b1=some (Obj.cells #[vb w,vb x,vb y,vi z,vb aa,vs ab,vl n o q,vi ac,vl s t u,vi ad] 84 (0,0))→cF P (Builtin.append_ #[63,63] 63 #[vl c a d,vl (some ⟨b1,0,none⟩) 1 1]) I8 ((ka b (⟨#[]⟩:Bs) none 0 0 0)::(ka g e c a d f)::(ah,Obj.cells #[vb w,vb x,vb y,vi z,vb aa,vs ab,vl n o q,vi ac,vl s t u,vi ad] 84 (0,0))::F7) fun v I9 G7=>∃(ae:OA) (af ag:Nat),v=vl ae af ag∧∃F8:b8,List.Perm G7 ((ka b (⟨#[]⟩:Bs) none 0 0 0)::(ka g e c a d f)::(ah,Obj.cells #[vb w,vb x,vb y,vi z,vb aa,vs ab,vl n o q,vi ac,vl s t u,vi ad] 84 (0,0))::F8)∧(∃m2:Nat,m2<m1∧Inv10 e ae af ag f m2 I9 F8))))))∧∀(k:Bs) (h:OA) (i j:Nat) (l:Int) (I10:cc) (F9:b8),cc.le I3 I10→Inv8 k h i j l I10 F9→cy P 89 (#[vp (some p),vs (⟨#[125]⟩:Bs)]) I10 ((ka b (⟨#[]⟩:Bs) none 0 0 0)::(ka g k h i j l)::·) F9 vi fun r5 I11 F10=>Q (.returned (.agg #[vs k,vl h i j,vi l])) I11 (F10)
theorem fi.vc{p:Addr}{I:cc}{F:b8}{Q:cd}(Inv8:Bs→OA→Nat→Nat→Int→cc→b8→Prop)(Inv10:Bs→OA→Nat→Nat→Int→Nat→cc→b8→Prop)(h:fi.V (fun W a b c d e=>(W,Obj.cells #[.string a,.slice b c d,.int .i64 e] 65 (0,0))) (.int .u8) (.int .i64) .string .slice .pointer p I F Q Inv8 Inv10):cf P 95 #[.pointer (some p)] I F Q :=
 tw (A:=(cK [5001,7001] [] [86,89,91,92,124] nU [(8,⟨[],[(1,[.str,.slc,(.int .i64)])],fun _ _ _ vs m I F=>match vs with | [.string y0,.slice y1 y2 y3,.int _ y4]=>Inv8 y0 y1 y2 y3 y4 I F | _=>False,[],[]⟩),(10,⟨[],[(1,[.str,.slc,(.int .i64)])],fun _ _ _ vs m I F=>match vs with | [.string y0,.slice y1 y2 y3,.int _ y4]=>Inv10 y0 y1 y2 y3 y4 m I F | _=>False,[],[]⟩)] [9003] [] [] [] [] [])) [86,89,91,92,124] func95 h
def fj.V(ka:Nat→Bs→Int→Nat×Obj)(vi:Int→Value)(vs:Bs→Value)(vl:OA→Nat→Nat→Value)(vp:OA→Value)(p:Addr)(I:cc)(F:b8)(Q:cd)(Inv5:OA→Nat→Nat→OA→Nat→Nat→Nat→cc→b8→Prop):Prop:=(∃m:Nat,Inv5 none 0 0 none 0 0 m I F)∧∀(f:OA) (g h:Nat) (d:OA) (c e m1:Nat) (I1:cc) (F1:b8),cc.le I I1→Inv5 f g h d c e m1 I1 F1→cy P 86 (#[vp (some p),vs (⟨#[115,108,111,116]⟩:Bs)]) I1 (·) F1 .bool fun r I2 F2=>(It (!r) (Q (.returned (vl d c e)) I2 F2) (cy P 92 (#[vp (some p),vi (c:Int),vi 4]) I2 (·) F2 .bool fun r1 I3 F3=>(It (!r1) (Q (.returned (vl d c e)) I3 F3) (cy P 89 (#[vp (some p),vs (⟨#[115,108,111,116]⟩:Bs)]) I3 (·) F3 vi fun r2 I4 F4=>∀a:Nat,cy P 91 (#[vp (some p)]) I4 ((ka a (⟨#[]⟩:Bs) r2)::·) F4 vs fun r3 I5 F5=>cy P 89 (#[vp (some p),vs (⟨#[59]⟩:Bs)]) I5 ((ka a r3 r2)::·) F5 vi fun r4 I6 F6=>∀(b:Nat) (I7:cc),cc.le I6 I7→I7 b=some (Obj.cells #[vs r3,vi r2] 79 (0,0))→cF P (Builtin.append_ #[36,36] 36 #[vl d c e,vl (some ⟨b,0,none⟩) 1 1]) I7 ((ka a r3 r2)::F6) fun v I8 G6=>∃(i:OA) (j k:Nat),v=vl i j k∧∃F7:b8,List.Perm G6 ((ka a r3 r2)::F7)∧(∃m2:Nat,m2<m1∧Inv5 f g h i j k m2 I8 F7)))))
theorem fj.vc{p:Addr}{I:cc}{F:b8}{Q:cd}(Inv5:OA→Nat→Nat→OA→Nat→Nat→Nat→cc→b8→Prop)(h:fj.V (fun W a b=>(W,Obj.cells #[.string a,.int .i64 b] 79 (0,0))) (.int .i64) .string .slice .pointer p I F Q Inv5):cf P 94 #[.pointer (some p)] I F Q :=
 tw (A:=(cK [3001,6001] [] [86,89,91,92] nU [(5,⟨[(2,.slc),(3,.slc)],[],fun _ _ _ vs m I F=>match vs with | [.slice y0 y1 y2,.slice y3 y4 y5]=>Inv5 y0 y1 y2 y3 y4 y5 m I F | _=>False,[],[]⟩)] [11002] [] [] [] [] [])) [86,89,91,92] func94 h
def fk.V(ka:Nat→Bs→OA→Nat→Nat→OA→Nat→Nat→OA→Nat→Nat→Nat×Obj)(vb vi:Int→Value)(vs:Bs→Value)(vl:OA→Nat→Nat→Value)(vt:Bool→Value)(vp:OA→Value)(p:Addr)(I:cc)(F:b8)(Q:cd)(Inv10:Bs→OA→Nat→Nat→OA→Nat→Nat→OA→Nat→Nat→cc→b8→Prop)(Inv12:Bs→OA→Nat→Nat→OA→Nat→Nat→OA→Nat→Nat→Nat→cc→b8→Prop)(Inv35:Bs→OA→Nat→Nat→OA→Nat→Nat→OA→Nat→Nat→cc→b8→Prop)(Inv37:Bs→OA→Nat→Nat→OA→Nat→Nat→OA→Nat→Nat→Nat→cc→b8→Prop):Prop:=∀b:Nat,∀l:Nat,cy P 89 (#[vp (some p),vs (⟨#[115,116,114,97,116,101,103,121]⟩:Bs)]) I ((ka b (⟨#[]⟩:Bs) none 0 0 none 0 0 none 0 0)::(ka l (⟨#[]⟩:Bs) none 0 0 none 0 0 none 0 0)::·) F vi fun r I1 F1=>cy P 91 (#[vp (some p)]) I1 ((ka b (⟨#[]⟩:Bs) none 0 0 none 0 0 none 0 0)::(ka l (⟨#[]⟩:Bs) none 0 0 none 0 0 none 0 0)::·) F1 vs fun r1 I2 F2=>cy P 89 (#[vp (some p),vs (⟨#[123]⟩:Bs)]) I2 ((ka b (⟨#[]⟩:Bs) none 0 0 none 0 0 none 0 0)::(ka l r1 none 0 0 none 0 0 none 0 0)::·) F2 vi fun r2 I3 F3=>((∃m:Nat,Inv12 r1 none 0 0 none 0 0 none 0 0 m I3 F3)∧∀(aj:Bs) (z:OA) (y aa:Nat) (ab:OA) (ac ad:Nat) (ae:OA) (af ag m1:Nat) (I4:cc) (F4:b8),cc.le I3 I4→Inv12 aj z y aa ab ac ad ae af ag m1 I4 F4→cy P 86 (#[vp (some p),vs (⟨#[114,101,103]⟩:Bs)]) I4 ((ka b (⟨#[]⟩:Bs) none 0 0 none 0 0 none 0 0)::(ka l aj z y aa ab ac ad ae af ag)::·) F4 vt fun r3 I5 F5=>(It (!r3) (Inv10 aj z y aa ab ac ad ae af ag I5 F5) (cy P 92 (#[vp (some p),vi (y:Int),vi 12]) I5 ((ka b (⟨#[]⟩:Bs) none 0 0 none 0 0 none 0 0)::(ka l aj z y aa ab ac ad ae af ag)::·) F5 vt fun r4 I6 F6=>(It (!r4) (Inv10 aj z y aa ab ac ad ae af ag I6 F6) (dg P 93 (#[vp (some p)]) I6 ((ka b (⟨#[]⟩:Bs) none 0 0 none 0 0 none 0 0)::(ka l aj z y aa ab ac ad ae af ag)::·) F6 fun e6 I7 G6=>∃(aF:Bs) (aG aH aI aJ aK aL:Int) (aM:Bs) (aw:OA) (ax ay:Nat) (aN aC:Int),e6=.returned (.agg #[vs aF,vb aG,vb aH,vb aI,vb aJ,vi aK,vb aL,vs aM,vl aw ax ay,vi aN,vi aC])∧G6 fun F7=>∀aX:Nat,∀(b1:Nat) (I8:cc),cc.le I7 I8→I8 b1=some (Obj.cells #[vs aF,vb aG,vb aH,vb aI,vb aJ,vi aK,vb aL,vs aM,vl aw ax ay,vi aN,vi aC] 77 (0,0))→cF P (Builtin.append_ #[35,35] 35 #[vl z y aa,vl (some ⟨b1,0,none⟩) 1 1]) I8 ((ka b (⟨#[]⟩:Bs) none 0 0 none 0 0 none 0 0)::(ka l aj z y aa ab ac ad ae af ag)::(aX,Obj.cells #[vs aF,vb aG,vb aH,vb aI,vb aJ,vi aK,vb aL,vs aM,vl aw ax ay,vi aN,vi aC] 77 (0,0))::F7) fun v I9 G7=>∃(aU:OA) (aV aW:Nat),v=vl aU aV aW∧∃F8:b8,List.Perm G7 ((ka b (⟨#[]⟩:Bs) none 0 0 none 0 0 none 0 0)::(ka l aj z y aa ab ac ad ae af ag)::(aX,Obj.cells #[vs aF,vb aG,vb aH,vb aI,vb aJ,vi aK,vb aL,vs aM,vl aw ax ay,vi aN,vi aC] 77 (0,0))::F8)∧(∃m2:Nat,m2<m1∧Inv12 aj aU aV aW ab ac ad ae af ag m2 I9 F8))))))∧∀(av:Bs) (ak:OA) (al am:Nat) (aq:OA) (ar au:Nat) (an:OA) (ao ap:Nat) (I10:cc) (F9:b8),cc.le I3 I10→Inv10 av ak al am aq ar au an ao ap I10 F9→dg P 94 (#[vp (some p)]) I10 ((ka b (⟨#[]⟩:Bs) none 0 0 none 0 0 none 0 0)::(ka l av ak al am aq ar au an ao ap)::·) F9 fun e7 I11 G8=>∃(aO:OA) (aP aQ:Nat),e7=.returned (vl aO aP aQ)∧G8 fun F10=>((∃m3:Nat,Inv37 av ak al am aO aP aQ an ao ap m3 I11 F10)∧∀(ai:Bs) (n:OA) (o q:Nat) (s:OA) (t u:Nat) (w:OA) (c x m4:Nat) (I12:cc) (F11:b8),cc.le I11 I12→Inv37 ai n o q s t u w c x m4 I12 F11→cy P 86 (#[vp (some p),vs (⟨#[115,116,97,116,101]⟩:Bs)]) I12 ((ka b (⟨#[]⟩:Bs) none 0 0 none 0 0 none 0 0)::(ka l ai n o q s t u w c x)::·) F11 vt fun r5 I13 F12=>(It (!r5) (Inv35 ai n o q s t u w c x I13 F12) (cy P 92 (#[vp (some p),vi (c:Int),vi 12]) I13 ((ka b (⟨#[]⟩:Bs) none 0 0 none 0 0 none 0 0)::(ka l ai n o q s t u w c x)::·) F12 vt fun r6 I14 F13=>(It (!r6) (Inv35 ai n o q s t u w c x I14 F13) (dg P 95 (#[vp (some p)]) I14 ((ka b (⟨#[]⟩:Bs) none 0 0 none 0 0 none 0 0)::(ka l ai n o q s t u w c x)::·) F13 fun aZ I15 G11=>∃(aD:Bs) (az:OA) (aA aB:Nat) (aE:Int),aZ=.returned (.agg #[vs aD,vl az aA aB,vi aE])∧G11 fun F14=>∀aY:Nat,∀(b2:Nat) (I16:cc),cc.le I15 I16→I16 b2=some (Obj.cells #[vs aD,vl az aA aB,vi aE] 65 (0,0))→cF P (Builtin.append_ #[37,37] 37 #[vl w c x,vl (some ⟨b2,0,none⟩) 1 1]) I16 ((ka b (⟨#[]⟩:Bs) none 0 0 none 0 0 none 0 0)::(ka l ai n o q s t u w c x)::(aY,Obj.cells #[vs aD,vl az aA aB,vi aE] 65 (0,0))::F14) fun v1 I17 G12=>∃(aR:OA) (aS aT:Nat),v1=vl aR aS aT∧∃F15:b8,List.Perm G12 ((ka b (⟨#[]⟩:Bs) none 0 0 none 0 0 none 0 0)::(ka l ai n o q s t u w c x)::(aY,Obj.cells #[vs aD,vl az aA aB,vi aE] 65 (0,0))::F15)∧(∃m5:Nat,m5<m4∧Inv37 ai n o q s t u aR aS aT m5 I17 F15))))))∧∀(ah:Bs) (d:OA) (e f:Nat) (g:OA) (h i:Nat) (j:OA) (a k:Nat) (I18:cc) (F16:b8),cc.le I11 I18→Inv35 ah d e f g h i j a k I18 F16→(It ((a:Int)==0) (dg P 90 (#[vp (some p),vi 130]) I18 ((ka b (⟨#[]⟩:Bs) none 0 0 none 0 0 none 0 0)::(ka l ah d e f g h i j a k)::·) F16 fun a0 I19 G13=>a0=.returned (.tuple #[])∧G13 fun F17=>cy P 89 (#[vp (some p),vs (⟨#[125]⟩:Bs)]) I19 ((ka b (⟨#[]⟩:Bs) none 0 0 none 0 0 none 0 0)::(ka l ah d e f g h i j a k)::·) F17 vi fun r7 I20 F18=>dg P 54 (#[vp (some p)]) I20 ((ka b (⟨#[]⟩:Bs) none 0 0 none 0 0 none 0 0)::(ka l ah d e f g h i j a k)::·) F18 fun a2 I21 G15=>a2=.returned (.tuple #[])∧G15 fun F19=>Q (.returned (.agg #[vs ah,vl d e f,vl g h i,vl j a k])) I21 F19) (cy P 89 (#[vp (some p),vs (⟨#[125]⟩:Bs)]) I18 ((ka b (⟨#[]⟩:Bs) none 0 0 none 0 0 none 0 0)::(ka l ah d e f g h i j a k)::·) F16 vi fun r8 I22 F20=>dg P 54 (#[vp (some p)]) I22 ((ka b (⟨#[]⟩:Bs) none 0 0 none 0 0 none 0 0)::(ka l ah d e f g h i j a k)::·) F20 fun a4 I23 G17=>a4=.returned (.tuple #[])∧G17 fun F21=>Q (.returned (.agg #[vs ah,vl d e f,vl g h i,vl j a k])) I23 F21))
theorem fk.vc{p:Addr}{I:cc}{F:b8}{Q:cd}(Inv10:Bs→OA→Nat→Nat→OA→Nat→Nat→OA→Nat→Nat→cc→b8→Prop)(Inv12:Bs→OA→Nat→Nat→OA→Nat→Nat→OA→Nat→Nat→Nat→cc→b8→Prop)(Inv35:Bs→OA→Nat→Nat→OA→Nat→Nat→OA→Nat→Nat→cc→b8→Prop)(Inv37:Bs→OA→Nat→Nat→OA→Nat→Nat→OA→Nat→Nat→Nat→cc→b8→Prop)(h:fk.V (fun W a b c d e f g h i j=>(W,Obj.cells #[.string a,.slice b c d,.slice e f g,.slice h i j] 39 (0,0))) (.int .u8) (.int .i64) .string .slice .bool .pointer p I F Q Inv10 Inv12 Inv35 Inv37):cf P 56 #[.pointer (some p)] I F Q :=
 tw (A:=(cK [6001,8001,13001,15001,18003] [] [54,86,89,90,91,92,93,94,95] nU [(10,⟨[],[(1,[.str,.slc,.slc,.slc])],fun _ _ _ vs m I F=>match vs with | [.string y0,.slice y1 y2 y3,.slice y4 y5 y6,.slice y7 y8 y9]=>Inv10 y0 y1 y2 y3 y4 y5 y6 y7 y8 y9 I F | _=>False,[],[]⟩),(12,⟨[],[(1,[.str,.slc,.slc,.slc])],fun _ _ _ vs m I F=>match vs with | [.string y0,.slice y1 y2 y3,.slice y4 y5 y6,.slice y7 y8 y9]=>Inv12 y0 y1 y2 y3 y4 y5 y6 y7 y8 y9 m I F | _=>False,[],[]⟩),(35,⟨[],[(1,[.str,.slc,.slc,.slc])],fun _ _ _ vs m I F=>match vs with | [.string y0,.slice y1 y2 y3,.slice y4 y5 y6,.slice y7 y8 y9]=>Inv35 y0 y1 y2 y3 y4 y5 y6 y7 y8 y9 I F | _=>False,[],[]⟩),(37,⟨[],[(1,[.str,.slc,.slc,.slc])],fun _ _ _ vs m I F=>match vs with | [.string y0,.slice y1 y2 y3,.slice y4 y5 y6,.slice y7 y8 y9]=>Inv37 y0 y1 y2 y3 y4 y5 y6 y7 y8 y9 m I F | _=>False,[],[]⟩)] [10003,17003] [] [] [] [] [])) [54,86,89,90,91,92,93,94,95] func56 h
def iO.V(ka:Nat→Bs→OA→Nat→Nat→OA→Nat→Nat→OA→Nat→Nat→Nat×Obj)(kb:Nat→Int→Int→Bool→Nat×Obj)(vi:Int→Value)(vs:Bs→Value)(vl:OA→Nat→Nat→Value)(vt:Bool→Value)(s:Bs)(I:cc)(F:b8)(Q:cd)  : Prop:=∀b:Nat,∀b1:Nat,cy P 52 #[vs s] I ((ka b (⟨#[]⟩:Bs) none 0 0 none 0 0 none 0 0)::(kb b1 0 0 false)::·) F .pointer fun r I1 F1=>dg P 56 #[.pointer r] I1 ((ka b (⟨#[]⟩:Bs) none 0 0 none 0 0 none 0 0)::(kb b1 0 0 false)::·) F1 fun e2 I2 G2=>∃(k:Bs) (a:OA) (c d:Nat) (e:OA) (f g:Nat) (h:OA) (i j:Nat),e2=.returned (.agg #[vs k,vl a c d,vl e f g,vl h i j])∧G2 fun F2=>∀o:Nat,cy P 55 #[.pointer r] I2 ((ka b (⟨#[]⟩:Bs) none 0 0 none 0 0 none 0 0)::(kb b1 0 0 false)::(ka o k a c d e f g h i j)::·) F2 vt fun r1 I3 F3=>(It r1 (∃ad:Addr,r=some ad∧∃(l m:Int) (n:Bool),Rd I3 F3 (ad.add 4) [vi l,vi m,vt n]∧Q (.returned (.tuple #[.agg #[vs (⟨#[]⟩:Bs),vl none 0 0,vl none 0 0,vl none 0 0],.agg #[vi l,vi m,vt n]])) I3 F3) (Q (.returned (.tuple #[.agg #[vs k,vl a c d,vl e f g,vl h i j],.agg #[vi 0,vi 0,vt false]])) I3 F3))
theorem iO.vc{s:Bs}{I:cc}{F:b8}{Q:cd}  (h:iO.V (fun W a b c d e f g h i j=>(W,Obj.cells #[.string a,.slice b c d,.slice e f g,.slice h i j] 39 (0,0))) (fun W a b c=>(W,Obj.cells #[.int .i64 a,.int .i64 b,.bool c] 68 (0,0))) (.int .i64) .string .slice .bool s I F Q):cf P 29 #[.string s] I F Q :=
 tw (A:=(cK [3001] [] [52,55,56] nU [] [] [] [(4,5,[0])] [] [] [(4,6)])) [52,55,56] func29 h
def nW.V(ka:Nat→Int→Int→Bool→Nat×Obj)(nV:Int→Int→Int→Int→Int→Bs→OA→Nat→Nat→Int→Value)(nO:Int→Int→Int→Int→Int→Bs→OA→Nat→Nat→Int→Obj)(vi:Int→Value)(vt:Bool→Value)(vp:OA→Value)(s:Bs)(I:cc)(F:b8)(Q:cd)  : Prop:=∀b:Nat,∀b1:Nat,cy P 52 #[.string s] I ((b,nO 0 0 0 0 0 (⟨#[]⟩:Bs) none 0 0 0)::(ka b1 0 0 false)::·) F vp fun r I1 F1=>dg P 53 #[vp r,vi 0] I1 ((b,nO 0 0 0 0 0 (⟨#[]⟩:Bs) none 0 0 0)::(ka b1 0 0 false)::·) F1 fun e2 I2 G2=>∃(e f g h i:Int) (j:Bs) (a:OA) (c d:Nat) (k:Int),e2=.returned (nV e f g h i j a c d k)∧G2 fun F2=>∀l:Nat,dg P 54 #[vp r] I2 ((b,nO 0 0 0 0 0 (⟨#[]⟩:Bs) none 0 0 0)::(ka b1 0 0 false)::(l,nO e f g h i j a c d k)::·) F2 fun e3 I3 G3=>e3=.returned (.tuple #[])∧G3 fun F3=>cy P 55 #[vp r] I3 ((b,nO 0 0 0 0 0 (⟨#[]⟩:Bs) none 0 0 0)::(ka b1 0 0 false)::(l,nO e f g h i j a c d k)::·) F3 vt fun r1 I4 F4=>(It r1 (∃ad:Addr,r=some ad∧∃(m n:Int) (o:Bool),Rd I4 F4 (ad.add 4) [vi m,vi n,vt o]∧Q (.returned (.tuple #[nV 0 0 0 0 0 (⟨#[]⟩:Bs) none 0 0 0,.agg #[vi m,vi n,vt o]])) I4 F4) (Q (.returned (.tuple #[nV e f g h i j a c d k,.agg #[vi 0,vi 0,vt false]])) I4 F4))
theorem nW.vc{s:Bs}{I:cc}{F:b8}{Q:cd}  (h:nW.V (fun W a b c=>(W,Obj.cells #[.int .i64 a,.int .i64 b,.bool c] 68 (0,0))) (fun k o t n f s a l c q=>.agg #[.int .u8 k,.int .u8 o,.int .u8 t,.int .i64 n,.int .u8 f,.string s,.slice a l c,.int .i64 q]) (fun k o t n f s a l c q=>.cells #[.int .u8 k,.int .u8 o,.int .u8 t,.int .i64 n,.int .u8 f,.string s,.slice a l c,.int .i64 q] 28 (0,0)) (.int .i64) .bool .pointer s I F Q):cf P 28 #[.string s] I F Q :=
 tw (A:=(cK [4001] [] [52,53,54,55] nU [] [] [] [(5,5,[0])] [] [] [(5,6)])) [52,53,54,55] func28 h
end Go.Lx
namespace Go.Lx
open Go.Vc
def JS{N Pl:Type}(v:N→Value)(p:N→Pl)(ok:cc→N→Prop)(q:PQ)(b:Nat)(F0:b8)(r:Pl×PS)(e:Ending)(I:cc)(G:b8):Prop:=∃x:N,e=.returned (v x)∧p x=r.1∧ok I x∧G.Perm (q.cr b r.2::F0)
def xO{N Pl:Type}(f:Nat)(v:N→Value)(p:N→Pl)(ok:cc→N→Prop)(q:PQ)(g:PS→Pl×PS):Prop:=∀(b:Nat) (s:PS) (I:cc) (F F0:b8),q.ok I→s.next≤q.c.l.length→F.Perm (q.cr b s::F0)→cf P f #[.pointer (some ⟨b,0,none⟩)] I F (JS v p ok q b F0 (g s))
def sf(I:cc)(r:cH):Prop:=r.Ok I []
def Ao(I:cc)(r:dy):Prop:=r.Ok I []
def tj(I:cc)(r:cp):Prop:=r.Ok I []
def nX(I:cc)(r:cg):Prop:=r.Ok I []
def Jd(I:cc)(r:cw):Prop:=r.Ok I []
section
variable {c:PC}
theorem Up.Fc{nm:ByteArray}{t pos pos2:Int}{minus:Bool}{n:Px}:dW c (c.Fc nm t pos pos2 minus n):=fun s=>Up.take _
theorem Up.rZ{nm:ByteArray}{t pos pos2:Int}{minus:Bool}:dW c (c.rZ nm t pos pos2 minus):=fun s=>by
 unfold PC.rZ
 split
 ·exact .c5 _
 ·refine Up.trans ?_ (Up.Fc _)
  split
  ·exact .literal
  ·exact Up.literal.trans (.c5 _)
theorem Up.ko{nm:ByteArray}{t pos:Int}:dW c (c.ko nm t pos):=fun s=>by
 unfold PC.ko
 refine Up.trans ?_ (Up.rZ _)
 split
 ·rename_i h;exact .inc (eb h)
 ·exact .refl
theorem Up.BW{nm:ByteArray}{pos:Int}:dW c (c.BW nm pos):=fun s=>by
 unfold PC.BW
 split
 ·exact .c5 _
 ·rename_i ha
  exact (Up.inc (ed (Int.not_lt.1 ha)).1).trans ((Up.take _).trans (Up.ko _))
theorem Up.fG:dW c c.fG:=fun s=>(Up.take _).trans (Up.name.trans (Up.BW _))
theorem Up.o8:dW c c.o8:=fun s=>by
 unfold PC.o8
 split
 ·rename_i h;exact (Up.inc (eb h)).trans .name
 ·exact .refl
theorem Up.Aj{x y z:Px}{pos o:Int}:dW c (c.Aj x y pos z o):=fun s=>Up.o8 s
theorem Up.D2{x y z:Px}{pos:Int}:dW c (c.D2 x y pos z):=fun s=>by
 unfold PC.D2
 split
 ·exact .c5 _
 ·rename_i ha
  exact (Up.inc (ed (Int.not_lt.1 ha)).1).trans (Up.Aj _)
theorem Up.D3{x y:Px}{pos:Int}:dW c (c.D3 x y pos):=fun s=>by
 unfold PC.D3
 split
 ·exact .c5 _
 ·rename_i ha
  have h1:=Up.inc (c:=c) (ed (Int.not_lt.1 ha)).1
  split
  ·exact h1.trans ((Up.iA _).trans (Up.D2 _))
  ·exact h1.trans (Up.Aj _)
theorem Up.rh:dW c c.rh:=fun s=>(Up.take _).trans ((Up.iA _).trans ((Up.take _).trans ((Up.iA _).trans (Up.D3 _))))
theorem Up.Gv{k:Int}{nm:ByteArray}{pos:Int}:dW c (c.Gv k nm pos):=fun s=>by
 unfold PC.Gv
 split
 ·exact (Up.take _).trans ((Up.iA _).trans ((Up.take _).trans (Up.iA _)))
 ·split
  ·exact (Up.take _).trans (Up.iA _)
  ·exact .refl
theorem Up.do:dW c c.do:=fun s=>by
 unfold PC.do
 split
 ·exact .c5 _
 ·rename_i ha
  have h1:=Up.inc (c:=c) (ed (Int.not_lt.1 ha)).1
  split
  ·exact Up.rh s
  ·split
   ·exact h1.trans (Up.Gv _)
   ·exact h1.trans (Up.name.trans (Up.Gv _))
end
theorem Je{q:PQ}:xO 93 cH.v cH.p sf q q.c.fG:=by
 intro b s I F F0 hq hsn hF
 have hl:=hq.len
 unfold PC.fG
 have ht:=(Up.take (c:=q.c) (s:=s) (⟨#[114,101,103]⟩:ByteArray)).2 hsn
 generalize hta:q.c.take (⟨#[114,101,103]⟩:ByteArray) s=ta at ht ⊢
 have hn:=(Up.name (c:=q.c) (s:=ta.2)).2 ht
 generalize hbb:q.c.name ta.2=bb at hn ⊢
 obtain⟨s4,hs4e⟩:∃s4,s4=(if q.c.lj (⟨#[45]⟩:ByteArray) (q.c.take (⟨#[61]⟩:ByteArray) bb.2.inc).2 then (q.c.take (⟨#[61]⟩:ByteArray) bb.2.inc).2.inc else (q.c.take (⟨#[61]⟩:ByteArray) bb.2.inc).2):=⟨_,rfl⟩
 obtain⟨s5,hs5e⟩:∃s5,s5=(if (q.c.literal s4).1.2 then (q.c.literal s4).2 else q.c.c5 130 (q.c.literal s4).2):=⟨_,rfl⟩
 refine gy.vc (fun x0 x1 x2 x3 x4 x5 x6 x7 xa xn xc x9 x10 I' F'=>q.ok I'∧F'.Perm (q.cr b s4::F0)∧¬(q.c.lj (⟨#[45]⟩:ByteArray) (q.c.take (⟨#[61]⟩:ByteArray) bb.2.inc).2=true∧(q.c.now s4).kind≠3))
  (fun I' F'=>q.ok I'∧F'.Perm (q.cr b s5::F0)) ?_
 unfold gy.V
 intro b2
 refine (dV hq _ ((hF.cons _).trans mr)).mono fun e I1 G l1 ⟨he,hG⟩=>⟨_,he,q.cr b ta.2::F0,by rw[hta] at hG;exact hG.trans mr,fun b_r=>?_⟩
 rw[hta]
 have hq1:=hq.mono l1
 refine (rj hq1 (s:=ta.2) dm).mono fun e I2 G l2 ⟨he,hG⟩=>⟨_,he,q.cr b bb.2::F0,by rw[hbb] at hG;exact hG.trans dm.symm,fun b3 I3 l3 hb3=>?_⟩
 rw[hbb]
 have hq3:=(hq1.mono l2).mono l3
 refine cf.ret (oE hq3 (Sl.words (ws:=tT) hb3 rfl) (by decide) (s:=bb.2) (.tail _ (.tail _ (.head _)))) fun I4 l4=>⟨_,rfl,q.cr b bb.2::F0,.refl _,fun ha=>?_,fun ha=>?_⟩
 ·have ha:=of_decide_eq_true ha
  refine (fg (hq3.mono l4) 130 (s:=bb.2) dm).mono fun e I5 G l5 ⟨he,hG⟩=>⟨he,q.cr b (q.c.c5 130 bb.2)::F0,hG.trans dm.symm, ?_⟩
  unfold PC.BW
  rw[if_pos ha]
  exact⟨⟨bb.1,0,iU,ta.1⟩,rfl,by simp only[cH.p,iU,Nd.px,Nd.BD];rfl,cC.leaf,.refl _⟩
 have ha:=of_decide_eq_false ha
 have hab:=qD (Int.not_lt.1 ha) (by decide)
 have hlt:=(ed (Int.not_lt.1 ha)).1
 have hq4:=hq3.mono l4
 unfold PC.BW
 rw[if_neg ha]
 refine⟨_,rfl,_,PQ.rd (k:=3) (.tail _ (.tail _ (.head _))) rfl,_,rfl,q.cl bb.2,107,F0,.refl _,PQ.spot _ _,by rw[PQ.off];exact (by decide:3+1≤7), ?_⟩
 rw[PQ.eh (by omega),w8 (n:=q.c.any tT bb.2) (by omega),w8 (n:=1+q.c.any tT bb.2) (by omega)]
 have h5:=(Up.take (c:=q.c) (s:=bb.2.inc) (⟨#[61]⟩:ByteArray)).2 hlt
 refine (dV hq4 _ (s:=bb.2.inc) dm).mono fun e I5 G l5 ⟨he,hG⟩=>⟨_,he,q.cr b (q.c.take (⟨#[61]⟩:ByteArray) bb.2.inc).2::F0,hG.trans dm.symm, ?_⟩
 generalize hs3:(q.c.take (⟨#[61]⟩:ByteArray) bb.2.inc).2=s3 at h5 hs4e ⊢
 unfold PC.ko
 rw[←hs4e]
 have hq5:=hq4.mono l5
 refine cf.ret (j3 hq5 (s:=s3) (.tail _ (.tail _ (.head _)))) fun I6 l6=>⟨_,_,_,_,_,rfl,q.cr b s3::F0,.refl _, ?_⟩
 have hq6:=hq5.mono l6
 refine cf.ret (ri hq6 _ (s:=s3) (.tail _ (.tail _ (.head _)))) fun I7 l7=>⟨_,rfl,q.cr b s3::F0,.refl _,⟨fun hm=>?_,fun hm=>?_⟩, ?_⟩
 ·have hlt3:=eb hm
  rw[if_pos hm] at hs4e
  refine⟨_,rfl,_,PQ.rd (k:=3) (.tail _ (.tail _ (.head _))) rfl,_,rfl,q.cl s3,107,F0,.refl _,PQ.spot _ _,by rw[PQ.off];exact (by decide:3+1≤7), ?_⟩
  rw[PQ.eh (by omega),←hs4e]
  have hq7:=hq6.mono l7
  refine cf.ret (j3 hq7 (s:=s4) (.tail _ (.tail _ (.head _)))) fun I8 l8=>⟨_,_,_,_,_,rfl,q.cr b s4::F0,.refl _,fun h3=>?_,fun h3=>?_⟩
  ·have h3:(q.c.now s4).kind≠3:=by simpa using h3
   refine (fg (hq7.mono l8) 130 (s:=s4) dm).mono fun e I9 G l9 ⟨he,hG⟩=>⟨he,q.cr b (q.c.c5 130 s4)::F0,hG.trans dm.symm, ?_⟩
   unfold PC.rZ
   rw[if_pos ⟨hm,h3⟩]
   exact⟨⟨bb.1,1+q.c.any tT bb.2,iU,ta.1⟩,rfl,by simp only[cH.p,iU,Nd.px,Nd.BD];rfl,cC.leaf,.refl _⟩
  ·have h3:(q.c.now s4).kind=3:=by simpa using h3
   exact⟨hq7.mono l8,.refl _,fun h=>h.2 h3⟩
 ·rw[if_neg (by simp[hm])] at hs4e
  rw[hs4e]
  exact⟨hq6.mono l7,.refl _,fun h=>by rw[hm] at h;cases h.1⟩
 have hs4:s4.next≤q.c.l.length:=by
  rw[hs4e]
  split
  ·rename_i h;exact eb h
  ·exact h5
 intro x0 x1 x2 x3 x4 x5 x6 x7 xa xn xc x9 x10 I8 F8 l8 ⟨hq8,hF8,hnm⟩
 unfold PC.rZ
 rw[if_neg hnm,←hs5e]
 refine (xN hq8 ((((hF8.cons _).cons _)).trans dm)).mono fun e I9 G l9 ⟨t,he,px,hok,hG⟩=>?_
 refine⟨_,_,_,_,_,_,_,_,_,_,_,he,q.cr b (q.c.literal s4).2::F0,hG.trans dm.symm,fun b_n=>⟨⟨fun hw=>?_,fun hw=>?_⟩, ?_⟩⟩
 ·have hw:(q.c.literal s4).1.2=false:=by simpa using hw
  rw[if_neg (by simp[hw])] at hs5e
  refine (fg (hq8.mono l9) 130 (s:=(q.c.literal s4).2) uk).mono fun e I10 G l10 ⟨he,hG⟩=>⟨he,q.cr b (q.c.c5 130 (q.c.literal s4).2)::F0,hG.trans uk.symm,(hq8.mono l9).mono l10, ?_⟩
  rw[hs5e]
 ·have hw:(q.c.literal s4).1.2=true:=by simpa using hw
  rw[if_pos hw] at hs5e
  refine⟨hq8.mono l9, ?_⟩
  rw[hs5e]
 intro I10 F10 l10 ⟨hq10,hF10⟩
 unfold PC.Fc
 refine⟨fun hm=>?_,fun hm=>?_⟩
 ·intro b5 I11 l11 hb5
  refine (dV (hq10.mono l11) _ ((((hF10.cons _).cons _).cons _).trans uk)).mono fun e I12 G l12 ⟨he,hG⟩=>⟨_,he,q.cr b (q.c.take (⟨#[59]⟩:ByteArray) s5).2::F0,hG.trans uk.symm, ?_⟩
  rw[if_pos hm]
  refine⟨⟨bb.1,1+q.c.any tT bb.2,.mk 5 1 0 0 0 ⟨#[]⟩ (some ⟨b5,0,none⟩) 1 [t] (q.c.now s3).pos,ta.1⟩,rfl, ?_,cC.mono (cC.Fk (l:=[t]) hb5 (fun k hk=>?_) ..) l12 fun _ h=>h,.refl _⟩
  ·simp only[cH.p,Nd.px,Nd.BD,px]
  ·rw[List.mem_singleton] at hk;subst hk
   exact hok.mono (cc.le_trans l10 l11) fun _ h=>h
 ·refine (dV hq10 _ ((((hF10.cons _).cons _).cons _).trans uk)).mono fun e I12 G l12 ⟨he,hG⟩=>⟨_,he,q.cr b (q.c.take (⟨#[59]⟩:ByteArray) s5).2::F0,hG.trans uk.symm, ?_⟩
  rw[if_neg (by simp[hm])]
  exact⟨⟨bb.1,1+q.c.any tT bb.2,t,ta.1⟩,rfl,by simp only[cH.p,px],hok.mono (cc.le_trans l10 l12) fun _ h=>h,.refl _⟩
end Go.Lx
namespace Go.Lx
open Go.Vc
theorem jY:iU.px=o5:=by simp only[iU,Nd.px,Nd.BD];rfl
theorem dK{I:cc}{G:b8}:cC I G iU:=.leaf
theorem cC.up{I J:cc}{G:b8}{t:Nd}(h:cC I G t)(hl:cc.le I J):cC J G t:=h.mono hl fun _ h=>h
def B1:List Int:=[1,3,4,5]
theorem Fm{q:PQ}:xO 158 dy.v dy.p Ao q q.c.rh:=by
 intro b s I F F0 hq hsn hF
 have hl:=hq.len
 unfold PC.rh
 have ht:=(Up.take (c:=q.c) (s:=s) (⟨#[115,117,98,109,105,116]⟩:ByteArray)).2 hsn
 generalize hta:q.c.take (⟨#[115,117,98,109,105,116]⟩:ByteArray) s=ta at ht ⊢
 refine eS.vc ?_
 unfold eS.V
 intro b2
 refine (dV hq _ ((hF.cons _).trans mr)).mono fun e I1 G l1 ⟨he,hG⟩=>⟨_,he,q.cr b ta.2::F0,by rw[hta] at hG;exact hG.trans mr,fun b_d=>?_⟩
 rw[hta]
 have hq1:=hq.mono l1
 have hx2:=(Up.iA (c:=q.c) ta.2).2 ht
 refine (tU b ta.2 I1 _ _ hq1 ht dm).mono fun e I2 G l2 ⟨x,he,px,okx,hG⟩=>?_
 refine⟨_,_,_,_,_,_,_,_,_,_,he,q.cr b (q.c.iA ta.2).2::F0,hG.trans dm.symm, ?_⟩
 rw[←px]
 generalize (q.c.iA ta.2).2=s2 at hx2 ⊢
 unfold PC.IY
 have hq2:=hq1.mono l2
 have hx3:=(Up.take (c:=q.c) (s:=s2) (⟨#[111,102]⟩:ByteArray)).2 hx2
 refine (dV hq2 _ (s:=s2) dm).mono fun e I3 G l3 ⟨he,hG⟩=>⟨_,he,q.cr b (q.c.take (⟨#[111,102]⟩:ByteArray) s2).2::F0,hG.trans dm.symm, ?_⟩
 generalize (q.c.take (⟨#[111,102]⟩:ByteArray) s2).2=s3 at hx3 ⊢
 have hq3:=hq2.mono l3
 have hx4:=(Up.iA (c:=q.c) s3).2 hx3
 refine (tU b s3 I3 _ _ hq3 hx3 dm).mono fun e I4 G l4 ⟨y,he,py,oky,hG⟩=>?_
 refine⟨_,_,_,_,_,_,_,_,_,_,he,q.cr b (q.c.iA s3).2::F0,hG.trans dm.symm, ?_⟩
 rw[←py]
 generalize (q.c.iA s3).2=s4 at hx4 ⊢
 have hq4:=hq3.mono l4
 intro b3 I5 l5 hb3
 have hq5:=hq4.mono l5
 unfold PC.D3
 refine cf.ret (oE hq5 (Sl.words (ws:=IX) hb3 rfl) (by decide) (s:=s4) (.tail _ (.tail _ (.head _)))) fun I6 l6=>⟨_,rfl,q.cr b s4::F0,.refl _,fun ha=>?_,fun ha=>?_⟩
 ·have ha:=of_decide_eq_true ha
  refine (fg (hq5.mono l6) 130 (s:=s4) dm).mono fun e I7 G l7 ⟨he,hG⟩=>⟨he,q.cr b (q.c.c5 130 s4)::F0,hG.trans dm.symm, ?_⟩
  rw[if_pos ha]
  refine⟨⟨1,0,⟨#[]⟩,x,y,iU,iU,ta.1⟩,rfl,by simp only[dy.p,jY],⟨okx.up ?_,oky.up ?_,dK,dK⟩,.refl _⟩
  ·exact cc.le_trans l3 (cc.le_trans l4 (cc.le_trans l5 (cc.le_trans l6 l7)))
  ·exact cc.le_trans l5 (cc.le_trans l6 l7)
 have ha:=of_decide_eq_false ha
 rw[if_neg ha]
 have hlt:=(ed (Int.not_lt.1 ha)).1
 have hq6:=hq5.mono l6
 have okx6:=okx.up (cc.le_trans l3 (cc.le_trans l4 (cc.le_trans l5 l6)))
 have oky6:=oky.up (cc.le_trans l5 l6)
 refine⟨_,rfl,_,PQ.rd (k:=3) (.tail _ (.tail _ (.head _))) rfl,_,rfl,q.cl s4,107,F0,.refl _,PQ.spot _ _,by rw[PQ.off];exact (by decide:3+1≤7), ?_⟩
 rw[PQ.eh (by omega)]
 refine⟨fun h1=>?_,fun h1=>?_⟩
 ·have h1:q.c.any IX s4=1:=by simpa using h1
  rw[if_pos h1]
  have hx7:=(Up.iA (c:=q.c) s4.inc).2 hlt
  refine (tU b s4.inc I6 _ _ hq6 hlt dm).mono fun e I7 G l7 ⟨z,he,pz,okz,hG⟩=>?_
  refine⟨_,_,_,_,_,_,_,_,_,_,he,q.cr b (q.c.iA s4.inc).2::F0,hG.trans dm.symm, ?_⟩
  rw[←pz]
  generalize (q.c.iA s4.inc).2=s7 at hx7 ⊢
  have hq7:=hq6.mono l7
  intro b4 I8 l8 hb4
  have hq8:=hq7.mono l8
  unfold PC.D2
  refine cf.ret (oE hq8 (Sl.words (ws:=o7) hb4 rfl) (by decide) (s:=s7) (.tail _ (.tail _ (.head _)))) fun I9 l9=>⟨_,rfl,q.cr b s7::F0,.refl _,fun hb=>?_,fun hb=>?_⟩
  ·have hb:=of_decide_eq_true hb
   refine (fg (hq8.mono l9) 130 (s:=s7) dm).mono fun e I10 G l10 ⟨he,hG⟩=>⟨he,q.cr b (q.c.c5 130 s7)::F0,hG.trans dm.symm, ?_⟩
   rw[if_pos hb]
   exact⟨⟨1,2,⟨#[]⟩,x,y,z,iU,ta.1⟩,rfl,by simp only[dy.p,jY],⟨okx6.up (cc.le_trans l7 (cc.le_trans l8 (cc.le_trans l9 l10))),oky6.up (cc.le_trans l7 (cc.le_trans l8 (cc.le_trans l9 l10))),okz.up (cc.le_trans l8 (cc.le_trans l9 l10)),dK⟩,.refl _⟩
  have hb:=of_decide_eq_false hb
  rw[if_neg hb]
  have hlt7:=(ed (Int.not_lt.1 hb)).1
  have hb4':q.c.any o7 s7<4:=(ed (Int.not_lt.1 hb)).2
  have hq9:=hq8.mono l9
  refine⟨_,rfl,_,PQ.rd (k:=3) (.tail _ (.tail _ (.head _))) rfl,_,rfl,q.cl s7,107,F0,.refl _,PQ.spot _ _,by rw[PQ.off];exact (by decide:3+1≤7), ?_⟩
  rw[PQ.eh (by omega)]
  intro b5 I10 l10 hb5
  have hq10:=hq9.mono l10
  have hS:Sl I10 1 qn (some ⟨b5,0,none⟩) 4 B1:=Sl.kU (f:=qn) (z:=1) (l:=B1) (fun _=>rfl) hb5 rfl
  obtain⟨ad,k,had,hk,hr⟩:=hS.at (Int.not_lt.1 hb) hb4'
  have hko:k=if q.c.any o7 s7=0 then 1 else 2+q.c.any o7 s7:=by
   have h0:=Int.not_lt.1 hb
   generalize q.c.any o7 s7=r at h0 hb4' hk ⊢
   have:r=0∨r=1∨r=2∨r=3:=by omega
   rcases this with rfl | rfl | rfl | rfl<;>simp[B1] at hk<;>subst hk<;>rfl
  rw[←hko]
  refine⟨⟨Int.not_lt.1 hb,hb4'⟩,ad,had,k,hr _, ?_⟩
  unfold PC.Aj PC.o8
  have okx10:=okx6.up (cc.le_trans l7 (cc.le_trans l8 (cc.le_trans l9 l10)))
  have oky10:=oky6.up (cc.le_trans l7 (cc.le_trans l8 (cc.le_trans l9 l10)))
  have okz10:=okz.up (cc.le_trans l8 (cc.le_trans l9 l10))
  refine cf.ret (ri hq10 _ (s:=s7.inc) (.tail _ (.tail _ (.head _)))) fun I11 l11=>⟨_,rfl,q.cr b s7.inc::F0,.refl _,fun hw=>?_,fun hw=>?_⟩
  ·have hltw:=eb hw
   rw[if_pos hw]
   refine⟨_,rfl,_,PQ.rd (k:=3) (.tail _ (.tail _ (.head _))) rfl,_,rfl,q.cl s7.inc,107,F0,.refl _,PQ.spot _ _,by rw[PQ.off];exact (by decide:3+1≤7), ?_⟩
   rw[PQ.eh (s:=s7.inc) (by omega)]
   refine (rj (hq10.mono l11) (s:=s7.inc.inc) dm).mono fun e I12 G l12 ⟨he,hG⟩=>⟨_,he,q.cr b (q.c.name s7.inc.inc).2::F0,hG.trans dm.symm, ?_⟩
   exact⟨⟨1,k,(q.c.name s7.inc.inc).1,x,y,z,iU,ta.1⟩,rfl,by simp only[dy.p,jY],⟨okx10.up (cc.le_trans l11 l12),oky10.up (cc.le_trans l11 l12),okz10.up (cc.le_trans l11 l12),dK⟩,.refl _⟩
  ·rw[if_neg (by simp[hw])]
   exact⟨⟨1,k,⟨#[]⟩,x,y,z,iU,ta.1⟩,rfl,by simp only[dy.p,jY],⟨okx10.up l11,oky10.up l11,okz10.up l11,dK⟩,.refl _⟩
 ·have h1:q.c.any IX s4≠1:=by simpa using h1
  rw[if_neg h1]
  unfold PC.Aj PC.o8
  refine cf.ret (ri hq6 _ (s:=s4.inc) (.tail _ (.tail _ (.head _)))) fun I11 l11=>⟨_,rfl,q.cr b s4.inc::F0,.refl _,fun hw=>?_,fun hw=>?_⟩
  ·have hltw:=eb hw
   rw[if_pos hw]
   refine⟨_,rfl,_,PQ.rd (k:=3) (.tail _ (.tail _ (.head _))) rfl,_,rfl,q.cl s4.inc,107,F0,.refl _,PQ.spot _ _,by rw[PQ.off];exact (by decide:3+1≤7), ?_⟩
   rw[PQ.eh (s:=s4.inc) (by omega)]
   refine (rj (hq6.mono l11) (s:=s4.inc.inc) dm).mono fun e I12 G l12 ⟨he,hG⟩=>⟨_,he,q.cr b (q.c.name s4.inc.inc).2::F0,hG.trans dm.symm, ?_⟩
   exact⟨⟨1,2,(q.c.name s4.inc.inc).1,x,y,iU,iU,ta.1⟩,rfl,by simp only[dy.p,jY],⟨okx6.up (cc.le_trans l11 l12),oky6.up (cc.le_trans l11 l12),dK,dK⟩,.refl _⟩
  ·rw[if_neg (by simp[hw])]
   exact⟨⟨1,2,⟨#[]⟩,x,y,iU,iU,ta.1⟩,rfl,by simp only[dy.p,jY],⟨okx6.up l11,oky6.up l11,dK,dK⟩,.refl _⟩
theorem JT{q:PQ}:xO 146 dy.v dy.p Ao q q.c.do:=by
 intro b s I F F0 hq hsn hF
 have hl:=hq.len
 have hm:q.cr b s∈F:=hF.mem_iff.2 (.head _)
 refine g9.vc ?_
 unfold g9.V
 intro b2
 unfold PC.do
 refine cf.ret (j3 hq (.tail _ hm)) fun I1 l1=>⟨_,_,_,_,_,rfl,F,.refl _,fun b3 I2 l2 hb3=>?_⟩
 have hq2:=(hq.mono l1).mono l2
 refine cf.ret (oE hq2 (Sl.words (ws:=Gc) hb3 rfl) (by decide) (s:=s) (.tail _ hm)) fun I3 l3=>⟨_,rfl,F,.refl _,fun ha=>?_,fun ha=>?_⟩
 ·have ha:=of_decide_eq_true ha
  refine (fg (hq2.mono l3) 130 ((hF.cons _).trans mr)).mono fun e I7 G l7 ⟨he,hG⟩=>⟨he,q.cr b (q.c.c5 130 s)::F0,hG.trans mr, ?_⟩
  rw[if_pos ha]
  exact⟨⟨0,0,⟨#[]⟩,iU,iU,iU,iU,0⟩,rfl,by simp only[dy.p,jY];rfl,⟨dK,dK,dK,dK⟩,.refl _⟩
 have ha:=of_decide_eq_false ha
 rw[if_neg ha]
 have hab:=qD (Int.not_lt.1 ha) (by decide)
 have hlt:=(ed (Int.not_lt.1 ha)).1
 have hq3:=hq2.mono l3
 refine⟨fun h0=>?_,fun h0=>?_⟩
 ·have h0:q.c.any Gc s=0:=by simpa using h0
  rw[if_pos h0]
  refine (Fm b s I3 _ _ hq3 hsn ((hF.cons _).trans mr)).mono fun e I4 G l4 ⟨d,he,pd,okd,hG⟩=>?_
  exact⟨_,_,_,_,_,_,_,_,_,_,_,_,_,_,_,_,_,_,_,_,_,_,_,_,_,_,_,_,_,_,_,_,_,_,_,_,_,_,_,_,_,_,_,_,he,q.cr b (q.c.rh s).2::F0,hG.trans mr,d,rfl,pd,okd,.refl _⟩
 have h0:q.c.any Gc s≠0:=by simpa using h0
 rw[if_neg h0]
 refine⟨_,rfl,_,PQ.rd (k:=3) (.tail _ hm) rfl,_,rfl,q.cl s,107,F0,hF,PQ.spot _ _,by rw[PQ.off];exact (by decide:3+1≤7), ?_⟩
 rw[PQ.eh (by omega),w8 (n:=q.c.any Gc s) (by omega),w8 (n:=1+q.c.any Gc s) (by omega)]
 generalize hk:q.c.any Gc s=k at ha hab h0 ⊢
 intro b_d
 refine⟨fun h6=>?_,fun h6=>?_⟩
 ·have h6:1+k≠6:=by simpa using h6
  rw[if_neg (by omega)]
  have hn:=(Up.name (c:=q.c) (s:=s.inc)).2 hlt
  refine (rj hq3 (s:=s.inc) dm).mono fun e I4 G l4 ⟨he,hG⟩=>⟨_,he,q.cr b (q.c.name s.inc).2::F0,hG.trans dm.symm, ?_⟩
  generalize q.c.name s.inc=n at hn ⊢
  have hq4:=hq3.mono l4
  unfold PC.Gv
  refine⟨fun h2=>?_,fun h2=>?_⟩
  ·have h2:1+k=2:=by simpa using h2
   rw[if_pos h2]
   have h5:=(Up.take (c:=q.c) (s:=n.2) (⟨#[116,111]⟩:ByteArray)).2 hn
   refine (dV hq4 _ (s:=n.2) dm).mono fun e I5 G l5 ⟨he,hG⟩=>⟨_,he,q.cr b (q.c.take (⟨#[116,111]⟩:ByteArray) n.2).2::F0,hG.trans dm.symm, ?_⟩
   generalize (q.c.take (⟨#[116,111]⟩:ByteArray) n.2).2=s5 at h5 ⊢
   have hq5:=hq4.mono l5
   have h6':=(Up.iA (c:=q.c) s5).2 h5
   refine (tU b s5 I5 _ _ hq5 h5 dm).mono fun e I6 G l6 ⟨x,he,px,okx,hG⟩=>?_
   refine⟨_,_,_,_,_,_,_,_,_,_,he,q.cr b (q.c.iA s5).2::F0,hG.trans dm.symm, ?_⟩
   rw[←px]
   generalize (q.c.iA s5).2=s6 at h6' ⊢
   have hq6:=hq5.mono l6
   unfold PC.J8
   have h7:=(Up.take (c:=q.c) (s:=s6) (⟨#[97,116]⟩:ByteArray)).2 h6'
   refine (dV hq6 _ (s:=s6) dm).mono fun e I7 G l7 ⟨he,hG⟩=>⟨_,he,q.cr b (q.c.take (⟨#[97,116]⟩:ByteArray) s6).2::F0,hG.trans dm.symm, ?_⟩
   generalize (q.c.take (⟨#[97,116]⟩:ByteArray) s6).2=s7 at h7 ⊢
   refine (tU b s7 I7 _ _ (hq6.mono l7) h7 dm).mono fun e I8 G l8 ⟨y,he,py,oky,hG⟩=>?_
   refine⟨_,_,_,_,_,_,_,_,_,_,he,q.cr b (q.c.iA s7).2::F0,hG.trans dm.symm, ?_⟩
   rw[←py]
   refine⟨fun h4=>?_,fun h4=>?_⟩
   ·exfalso
    have h4:1+k=4:=by simpa using h4
    omega
   ·rw[h2]
    exact⟨⟨2,0,n.1,iU,x,y,iU,(q.c.now s).pos⟩,rfl,by simp only[dy.p,jY],⟨dK,okx.up (cc.le_trans l7 l8),oky,dK⟩,.refl _⟩
  ·have h2:1+k≠2:=by simpa using h2
   rw[if_neg h2]
   refine⟨fun h4=>?_,fun h4=>?_⟩
   ·have h4:1+k=4:=by simpa using h4
    rw[if_pos h4]
    unfold PC.J9
    have h5:=(Up.take (c:=q.c) (s:=n.2) (⟨#[61]⟩:ByteArray)).2 hn
    refine (dV hq4 _ (s:=n.2) dm).mono fun e I5 G l5 ⟨he,hG⟩=>⟨_,he,q.cr b (q.c.take (⟨#[61]⟩:ByteArray) n.2).2::F0,hG.trans dm.symm, ?_⟩
    generalize (q.c.take (⟨#[61]⟩:ByteArray) n.2).2=s5 at h5 ⊢
    have hq5:=hq4.mono l5
    refine (tU b s5 I5 _ _ hq5 h5 dm).mono fun e I6 G l6 ⟨x,he,px,okx,hG⟩=>?_
    refine⟨_,_,_,_,_,_,_,_,_,_,he,q.cr b (q.c.iA s5).2::F0,hG.trans dm.symm, ?_⟩
    rw[←px,h4]
    exact⟨⟨4,0,n.1,iU,iU,iU,x,(q.c.now s).pos⟩,rfl,by simp only[dy.p,jY],⟨dK,dK,dK,okx⟩,.refl _⟩
   ·have h4:1+k≠4:=by simpa using h4
    rw[if_neg h4]
    exact⟨⟨1+k,0,n.1,iU,iU,iU,iU,(q.c.now s).pos⟩,rfl,by simp only[dy.p,jY],⟨dK,dK,dK,dK⟩,.refl _⟩
 ·have h6:1+k=6:=by simpa using h6
  rw[if_pos (by omega)]
  unfold PC.Gv
  rw[if_neg (by decide),if_neg (by decide)]
  refine⟨fun h2=>?_,fun h2=>⟨fun h4=>?_,fun h4=>?_⟩⟩
  ·exfalso
   have h2:1+k=2:=by simpa using h2
   omega
  ·exfalso
   have h4:1+k=4:=by simpa using h4
   omega
  ·rw[h6]
   exact⟨⟨6,0,⟨#[]⟩,iU,iU,iU,iU,(q.c.now s).pos⟩,rfl,by simp only[dy.p,jY],⟨dK,dK,dK,dK⟩,.refl _⟩
theorem vY{α:Type}{z:Nat}{f:α→List Value}(hz:∀x,(f x).length=z){t ty e:TypeId}{zv:Value}{by':Nat}(ht:P.underlying t=some (.slice e))(hi:(P.info? e).map (fun i=>(i.zero,i.size,i.bytes))=some (some zv,z,by'))(hzs:zv.cells.size=z)(hb:1≤by')(hb2:by'≤1000)
  {a:Option Addr} {n c b1:Nat} {l:List α} {A F R:b8} {I:cc} {o:Obj} (hA:Acc z f e a n c l A) (hl:l.length≤100) (x:α) (h1:∀u∈f x,u.oneCell'=true) (hbm:I b1=some o) (ho:o=.cells (f x).toArray e (0,0)) (hF:F.Perm (A++R)) :
  cF P (Builtin.append_ #[t,t] ty #[.slice a n c,.slice (some ⟨b1,0,none⟩) 1 1]) I F fun v I' G=>∃a' n' c' A',v=.slice a' n' c'∧Acc z f e a' n' c' (l++[x]) A'∧G.Perm (A'++R):=by
 subst ho
 have hfit:(l.length+1)*by'≤101*1000:=Nat.mul_le_mul (by omega) hb2
 refine cF.perm (cF.mono (iD hz ht hi hzs hb hA (xs:=[x]) (fun y hy=>by rw[List.mem_singleton] at hy;subst hy;exact h1) (by simp) rfl ?_ (by show (l.length+1)*by'≤_;omega) (F:=R)) fun v I' G _ ⟨a',n',c',A',h1,h2,h3,_⟩=>⟨a',n',c',A',h1,h2,by rw[h3]⟩) hF
 exact⟨rfl,_,_,_,.inl hbm,fun j hj=>by simp⟩
section
variable {N Pl:Type} (z:Nat) (f:N→List Value) (E:Nat) (p:N→Pl) (ok:cc→N→Prop) (q:PQ) (b:Nat) (w:ByteArray) (most:Nat) (one:PS→Pl×PS) (s0:PS) (F0:b8)
def qq(a:Option Addr)(n c m:Nat)(I:cc)(F:b8):Prop:=q.ok I∧∃(ks:List N) (A:b8) (s':PS),Acc z f E a n c ks A∧(∀k∈ks,ok I k)∧F.Perm (q.cr b s'::(A++F0))∧s'.next≤q.c.l.length∧ks.length≤most∧m=most-ks.length∧q.c.list w most one s0=q.c.iN w most one (most-ks.length) (ks.map p) s'
def qt(a:Option Addr)(n c:Nat)(I:cc)(F:b8):Prop:=q.ok I∧∃(ks:List N) (A:b8),Acc z f E a n c ks A∧(∀k∈ks,ok I k)∧F.Perm (q.cr b (q.c.list w most one s0).2::(A++F0))∧(q.c.list w most one s0).1=ks.map p∧(q.c.list w most one s0).2.next≤q.c.l.length
end
section
variable {N Pl:Type} {z:Nat} {f:N→List Value} {E:Nat} {p:N→Pl} {ok:cc→N→Prop} {q:PQ} {b:Nat} {w:ByteArray} {most:Nat} {one:PS→Pl×PS} {s0:PS} {F0:b8} {I J:cc} {F:b8}
theorem qq.start(hq:q.ok I)(hs:s0.next≤q.c.l.length)(hF:F.Perm (q.cr b s0::F0)):qq z f E p ok q b w most one s0 F0 none 0 0 most I F :=
 ⟨hq,[],[],s0,Acc.nil,fun k hk=>(by cases hk),hF,hs,Nat.zero_le _,rfl,rfl⟩
theorem B2{c:PC}{l:List Pl}{s:PS}(h:c.lj w s=false):∀m,c.iN w most one m l s=(l,s)
 | 0=>by rw[PC.iN,if_neg (by simp[h])]
 | m+1=>by rw[PC.iN,if_neg (by simp[h])]
theorem B3{c:PC}{l:List Pl}{s:PS}(h:c.lj w s=true)(ho:(c.many l.length most s).over=true):∀m,c.iN w most one m l s=(l,c.many l.length most s)
 | 0=>by rw[PC.iN,if_pos h]
 | m+1=>by rw[PC.iN,if_pos h,if_pos ho]
end
theorem Gz(x:cH):∀u∈x.enc,u.oneCell'=true:=by
 intro u hu
 simp only[cH.enc,List.mem_cons,List.not_mem_nil,or_false] at hu
 rcases hu with h | h | h | h | h | h | h | h | h | h | h<;>(subst h;rfl)
theorem Fo(x:cx):∀u∈x.enc,u.oneCell'=true:=by
 intro u hu
 simp only[cx.enc,List.mem_cons,List.not_mem_nil,or_false] at hu
 rcases hu with h | h<;>(subst h;rfl)
theorem D8(x:cg):∀u∈x.enc,u.oneCell'=true:=by
 intro u hu
 simp only[cg.enc,List.mem_cons,List.not_mem_nil,or_false] at hu
 rcases hu with h | h | h<;>(subst h;rfl)
theorem Fp(x:cp):∀u∈x.enc,u.oneCell'=true:=by
 intro u hu
 simp only[cp.enc,List.mem_cons,List.not_mem_nil,or_false] at hu
 rcases hu with h | h | h | h | h | h | h | h | h | h<;>(subst h;rfl)
theorem HT(x:dy):∀u∈x.enc,u.oneCell'=true:=by
 have h:x.enc.all (fun u=>u.oneCell')=true:=rfl
 exact fun u hu=>List.all_eq_true.1 h u hu
end Go.Lx
namespace Go.Lx
open Go.Vc
section
variable {c:PC}
theorem Up.mM:∀(m:Nat) (l:List dA),dW c (c.mM m l)
 | 0,l=>fun s=>.refl
 | m+1,l=>fun s=>by
   rw[PC.mM]
   have h1:=Up.do (c:=c) s
   split
   ·rename_i hw
    have hlt:=eb hw
    split
    ·exact h1.trans (.many _ _)
    ·rename_i hm
     obtain⟨_,he⟩:=lK hlt (by simpa using hm)
     rw[he]
     exact h1.trans ((Up.inc hlt).trans (Up.mM m _ _))
   ·exact h1
theorem Up.qo:dW c c.qo:=fun s=>(Up.take _).trans ((Up.iA _).trans ((Up.take _).trans ((Up.mM 8 [] _).trans (Up.take _))))
theorem Up.iN{α:Type}{w:ByteArray}{most:Nat}{one:PS→α×PS}(h:dW c one):∀(m:Nat) (l:List α),dW c (c.iN w most one m l)
 | 0,l=>fun s=>by
   rw[PC.iN]
   show Up c s (if c.lj w s then c.many l.length most s else s)
   split
   ·exact .many _ _
   ·exact .refl
 | m+1,l=>fun s=>by
   rw[PC.iN]
   split
   ·rename_i hw
    have hlt:=eb hw
    split
    ·exact .many _ _
    ·rename_i hm
     obtain⟨_,he⟩:=lK hlt (by simpa using hm)
     rw[he]
     exact (h s).trans (Up.iN h m _ _)
   ·exact .refl
theorem Up.list{α:Type}{w:ByteArray}{most:Nat}{one:PS→α×PS}(h:dW c one):dW c (c.list w most one):=Up.iN h most []
theorem Up.state:dW c c.state:=fun s=>(Up.take _).trans (Up.name.trans ((Up.take _).trans ((Up.list Up.qo _).trans (Up.take _))))
theorem Up.slot:dW c c.slot:=fun s=>(Up.take _).trans (Up.name.trans (Up.take _))
end
section
variable {N Pl:Type} {z:Nat} {f:N→List Value} {E:Nat} {p:N→Pl} {ok:cc→N→Prop} {q:PQ} {b:Nat} {w:ByteArray} {most:Nat} {one:PS→Pl×PS} {s0:PS} {F0:b8} {I J:cc} {F:b8} {a:Option Addr} {n c m:Nat}
theorem qq.next(hmono:∀I J x,cc.le I J→ok I x→ok J x){ks:List N}{A:b8}{s':PS}(hm:dW q.c one)(hA:Acc z f E a n c ks A)(hks:∀k∈ks,ok I k)(hsn:s'.next≤q.c.l.length)(hr:q.c.list w most one s0=q.c.iN w most one (most-ks.length) (ks.map p) s')(hw:q.c.lj w s'=true)(ho:(q.c.many ks.length most s').over=false)
  {x:N} (hx:p x=(one s').1) (hok:ok J x) (hl:cc.le I J) (hq:q.ok J) {a':Option Addr} {n' c':Nat} {A':b8} (hA':Acc z f E a' n' c' (ks++[x]) A') (hF:F.Perm (q.cr b (one s').2::(A'++F0))) :
  qq z f E p ok q b w most one s0 F0 a' n' c' (most-(ks.length+1)) J F:=by
 obtain⟨hlt,he⟩:=lK (eb hw) ho
 obtain⟨j,hj⟩:∃j,most-ks.length=j+1:=⟨most-ks.length-1,by omega⟩
 refine⟨hq,ks++[x],A',(one s').2,hA',fun k hk=>?_,hF,(hm _).2 hsn,by rw[List.length_append,List.length_singleton];omega,by rw[List.length_append,List.length_singleton], ?_⟩
 ·rcases List.mem_append.1 hk with hk | hk
  ·exact hmono _ _ _ hl (hks k hk)
  ·rw[List.mem_singleton] at hk;subst hk;exact hok
 ·rw[hr,hj,PC.iN,if_pos hw,List.length_map,if_neg (by simp[ho]),he,List.map_append,List.map_singleton,hx,List.length_append,List.length_singleton,show most-(ks.length+1)=j by omega]
theorem qt.stop{ks:List N}{A:b8}{s':PS}(hq:q.ok I)(hA:Acc z f E a n c ks A)(hks:∀k∈ks,ok I k)(hsn:s'.next≤q.c.l.length)(hr:q.c.list w most one s0=q.c.iN w most one (most-ks.length) (ks.map p) s')(hw:q.c.lj w s'=false)(hF:F.Perm (q.cr b s'::(A++F0))):qt z f E p ok q b w most one s0 F0 a n c I F:=by
 rw[B2 hw] at hr
 exact⟨hq,ks,A,hA,hks,by rw[hr];exact hF,by rw[hr],by rw[hr];exact hsn⟩
theorem qt.full{ks:List N}{A:b8}{s':PS}(hq:q.ok I)(hA:Acc z f E a n c ks A)(hks:∀k∈ks,ok I k)(hsn:s'.next≤q.c.l.length)(hr:q.c.list w most one s0=q.c.iN w most one (most-ks.length) (ks.map p) s')(hw:q.c.lj w s'=true)(ho:(q.c.many ks.length most s').over=true)(hF:F.Perm (q.cr b (q.c.many ks.length most s')::(A++F0))):qt z f E p ok q b w most one s0 F0 a n c I F:=by
 rw[B3 hw (by rw[List.length_map];exact ho),List.length_map] at hr
 exact⟨hq,ks,A,hA,hks,by rw[hr];exact hF,by rw[hr],by rw[hr,th];exact hsn⟩
end
theorem eM(I J:cc)(x:cH)(hl:cc.le I J)(h:sf I x):sf J x:=cH.Ok.mono h hl fun _ h=>h
theorem iv(I J:cc)(x:cp)(hl:cc.le I J)(h:tj I x):tj J x:=cp.Ok.mono h hl fun _ h=>h
theorem gA(I J:cc)(x:cg)(hl:cc.le I J)(h:nX I x):nX J x:=cg.Ok.mono h hl fun _ h=>h
theorem pT(I J:cc)(x:dy)(hl:cc.le I J)(h:Ao I x):Ao J x:=dy.Ok.mono h hl fun _ h=>h
theorem Ka{α:Type}{w z:α}{A l:List α}:(w::z::(A++l)).Perm (A++(w::z::l)):=List.perm_append_comm_assoc [w,z] A l
theorem GA{q:PQ}(b:Nat)(s:PS)(I:cc)(F F0:b8)(hq:q.ok I)(hsn:s.next≤q.c.l.length)(hF:F.Perm (q.cr b s::F0)):cf P 94 #[.pointer (some ⟨b,0,none⟩)] I F fun e I' G =>
  ∃a n c,e=.returned (.slice a n c)∧Sl I' 2 cx.enc a n (q.c.list (⟨#[115,108,111,116]⟩:ByteArray) 4 q.c.slot s).1∧G.Perm (q.cr b (q.c.list (⟨#[115,108,111,116]⟩:ByteArray) 4 q.c.slot s).2::F0):=by
 refine cf.keep (Q:=fun e I' G=>∃a n c A,e=.returned (.slice a n c)∧Acc 2 cx.enc 79 a n c (q.c.list (⟨#[115,108,111,116]⟩:ByteArray) 4 q.c.slot s).1 A∧G.Perm (q.cr b (q.c.list (⟨#[115,108,111,116]⟩:ByteArray) 4 q.c.slot s).2::(A++F0))) ?_ fun e I' G w hl hs ⟨a,n,c,A,he,hA,hG⟩=>?_
 rotate_left
 ·obtain⟨J,h1,h2,h3⟩:=Acc.keep (z:=2) (f:=cx.enc) (fun _=>rfl) hA (hs.perm (hG.trans (List.perm_append_comm_assoc [_] A F0)))
  exact⟨J,_,h1,h2,a,n,c,he,h3,.refl _⟩
 have hl:=hq.len
 have hend:∀a n c I F,qt 2 cx.enc 79 id (fun _ _=>True) q b (⟨#[115,108,111,116]⟩:ByteArray) 4 q.c.slot s F0 a n c I F→∃a' n' c' A,Ending.returned (.slice a n c)=.returned (.slice a' n' c')∧Acc 2 cx.enc 79 a' n' c' (q.c.list (⟨#[115,108,111,116]⟩:ByteArray) 4 q.c.slot s).1 A∧F.Perm (q.cr b (q.c.list (⟨#[115,108,111,116]⟩:ByteArray) 4 q.c.slot s).2::(A++F0)):=by
  intro a n c I F ⟨_,ks,A,hA,_,hF,hk,_⟩
  rw[List.map_id] at hk
  exact⟨a,n,c,A,rfl,by rw[hk];exact hA,hF⟩
 refine fj.vc (fun xa xn xc a n c m I' F'=>qq 2 cx.enc 79 id (fun _ _=>True) q b (⟨#[115,108,111,116]⟩:ByteArray) 4 q.c.slot s F0 a n c m I' F') ?_
 unfold fj.V
 refine⟨⟨_,qq.start hq hsn hF⟩,fun xa xn xc a n c m I1 F1 l1 ⟨hq1,ks,A,s',hA,hks,hF1,hs1,hkl,hm,hr⟩=>?_⟩
 have hn:=hA.1
 subst hn
 refine cf.ret (ri hq1 _ (hF1.mem_iff.2 (.head _))) fun I2 l2=>⟨_,rfl,F1,.refl _,fun hw=>?_,fun hw=>?_⟩
 ·exact hend _ _ _ I2 _ (qt.stop (hq1.mono l2) hA (fun _ _=>trivial) hs1 hr (by simpa using hw) hF1)
 have hw:q.c.lj (⟨#[115,108,111,116]⟩:ByteArray) s'=true:=by simpa using hw
 have hlt:=eb hw
 have hq2:=hq1.mono l2
 refine (vV hq2 ks.length 4 hF1).mono fun e I3 G l3 ⟨he,hG⟩=>⟨_,he,G,.refl _,fun ho=>?_,fun ho=>?_⟩
 ·exact hend _ _ _ I3 _ (qt.full (hq2.mono l3) hA (fun _ _=>trivial) hs1 hr hw (by simpa using ho) hG)
 have ho:(q.c.many ks.length 4 s').over=false:=by simpa using ho
 obtain⟨hlt4,hme⟩:=lK hlt ho
 rw[hme] at hG
 have hq3:=hq2.mono l3
 refine (dV hq3 _ hG).mono fun e I4 G4 l4 ⟨he,hG4⟩=>⟨_,he,q.cr b (q.c.take (⟨#[115,108,111,116]⟩:ByteArray) s').2::(A++F0),hG4,fun b_x=>?_⟩
 have hq4:=hq3.mono l4
 refine (rj hq4 (s:=(q.c.take (⟨#[115,108,111,116]⟩:ByteArray) s').2) mr).mono fun e I5 G5 l5 ⟨he,hG5⟩=>⟨_,he,q.cr b (q.c.name (q.c.take (⟨#[115,108,111,116]⟩:ByteArray) s').2).2::(A++F0),hG5.trans mr, ?_⟩
 have hq5:=hq4.mono l5
 refine (dV hq5 _ (s:=(q.c.name (q.c.take (⟨#[115,108,111,116]⟩:ByteArray) s').2).2) mr).mono fun e I6 G6 l6 ⟨he,hG6⟩=>⟨_,he,q.cr b (q.c.slot s').2::(A++F0),hG6.trans mr,fun b4 I7 l7 hb4=>?_⟩
 have hq6:=hq5.mono l6
 refine (vY (f:=cx.enc) (fun _=>rfl) (zv:=(⟨⟨#[]⟩,0⟩:cx).v) (by':=24) (by kernel_rfl) (by kernel_rfl) rfl (by decide) (by decide) hA (by omega) (q.c.slot s').1 (Fo _) hb4 rfl Ka).mono fun v I8 G8 l8 ⟨a',n',c',A',hv,hA',hG8⟩=>⟨a',n',c',hv,q.cr b (q.c.slot s').2::(A'++F0),hG8.trans Ka.symm,4-(ks.length+1),by omega, ?_⟩
 exact qq.next (fun _ _ _ _ _=>trivial) Up.slot hA hks hs1 hr hw ho (x:=(q.c.slot s').1) rfl trivial (cc.le_refl _) ((hq6.mono l7).mono l8) hA' (.refl _)
end Go.Lx
namespace Go.Lx
open Go.Vc
theorem D9{c:PC}{m:Nat}{l:List dA}{s:PS}(h:c.lj (⟨#[44]⟩:ByteArray) (c.do s).2=false):c.mM (m+1) l s=(l++[(c.do s).1],(c.do s).2):=by
 rw[PC.mM,if_neg (by simp[h])]
theorem Ea{c:PC}{m:Nat}{l:List dA}{s:PS}(h:c.lj (⟨#[44]⟩:ByteArray) (c.do s).2=true)(ho:(c.many (l.length+1) 8 (c.do s).2).over=true):c.mM (m+1) l s=(l++[(c.do s).1],c.many (l.length+1) 8 (c.do s).2):=by
 rw[PC.mM,if_pos h,if_pos ho]
theorem HU{q:PQ}:xO 124 cp.v cp.p tj q q.c.qo:=by
 intro b s I F F0 hq hsn hF
 have hl:=hq.len
 refine cf.keep (Q:=fun e I' G=>∃(w:Nd) (a:Option Addr) (c:Nat) (ds:List dy) (pos:Int) (A:b8),e=.returned (cp.v ⟨w,a,c,ds,pos⟩)∧(⟨w,a,c,ds,pos⟩:cp).p=(q.c.qo s).1∧cC I' [] w∧Acc 36 dy.enc 99 a ds.length c ds A∧(∀d∈ds,Ao I' d)∧G.Perm (q.cr b (q.c.qo s).2::(A++F0))) ?_ fun e I' G w hl hs ⟨w',a,c,ds,pos,A,he,hp,hw,hA,hd,hG⟩=>?_
 rotate_left
 ·obtain⟨J,h1,h2,h3⟩:=Acc.keep (z:=36) (f:=dy.enc) (fun _=>rfl) hA (hs.perm (hG.trans (List.perm_append_comm_assoc [_] A F0)))
  exact⟨J,_,h1,h2,_,he,hp,⟨hw.up h1,h3.yr [],fun d hdm=>pT _ _ _ h1 (hd d hdm)⟩,.refl _⟩
 unfold PC.qo
 have ht:=(Up.take (c:=q.c) (s:=s) (⟨#[119,104,101,110]⟩:ByteArray)).2 hsn
 generalize hta:q.c.take (⟨#[119,104,101,110]⟩:ByteArray) s=ta at ht ⊢
 have hx2:=(Up.iA (c:=q.c) ta.2).2 ht
 have h3:=(Up.take (c:=q.c) (s:=(q.c.iA ta.2).2) (⟨#[100,111]⟩:ByteArray)).2 hx2
 obtain⟨s3,hs3⟩:∃s3,s3=(q.c.take (⟨#[100,111]⟩:ByteArray) (q.c.iA ta.2).2).2:=⟨_,rfl⟩
 rw[←hs3] at h3
 refine fP.vc (fun n0 n1 n2 n3 n4 n5 na nn nc n7 a n c pos I' F'=>q.ok I'∧∃(t:Nd) (ks:List dy) (A:b8),t.v=(.agg #[.int .u8 n0,.int .u8 n1,.int .u8 n2,.int .i64 n3,.int .u8 n4,.string n5,.slice na nn nc,.int .i64 n7])∧t.px=(q.c.iA ta.2).1∧cC I' [] t∧pos=ta.1∧Acc 36 dy.enc 99 a n c ks A∧(∀k∈ks,Ao I' k)∧F'.Perm (q.cr b (q.c.mM 8 [] s3).2::(A++F0))∧(q.c.mM 8 [] s3).1=ks.map dy.p∧(q.c.mM 8 [] s3).2.next≤q.c.l.length)
  (fun n0 n1 n2 n3 n4 n5 na nn nc n7 a n c pos m I' F'=>q.ok I'∧∃(t:Nd) (ks:List dy) (A:b8) (s':PS),t.v=(.agg #[.int .u8 n0,.int .u8 n1,.int .u8 n2,.int .i64 n3,.int .u8 n4,.string n5,.slice na nn nc,.int .i64 n7])∧t.px=(q.c.iA ta.2).1∧cC I' [] t∧pos=ta.1∧Acc 36 dy.enc 99 a n c ks A∧(∀k∈ks,Ao I' k)∧F'.Perm (q.cr b s'::(A++F0))∧s'.next≤q.c.l.length∧ks.length<8∧m=8-ks.length∧q.c.mM 8 [] s3=q.c.mM (8-ks.length) (ks.map dy.p) s') ?_
 unfold fP.V
 intro b2
 refine (dV hq _ ((hF.cons _).trans mr)).mono fun e I1 G l1 ⟨he,hG⟩=>⟨_,he,q.cr b ta.2::F0,by rw[hta] at hG;exact hG.trans mr,fun b_r=>?_⟩
 rw[hta]
 have hq1:=hq.mono l1
 refine (tU b ta.2 I1 _ _ hq1 ht dm).mono fun e I2 G l2 ⟨x,he,px,okx,hG⟩=>?_
 refine⟨_,_,_,_,_,_,_,_,_,_,he,q.cr b (q.c.iA ta.2).2::F0,hG.trans dm.symm, ?_⟩
 have hq2:=hq1.mono l2
 refine (dV hq2 _ (s:=(q.c.iA ta.2).2) dm).mono fun e I3 G l3 ⟨he,hG⟩=>⟨_,he,q.cr b s3::F0,by rw[←hs3] at hG;exact hG.trans dm.symm,⟨⟨_,hq2.mono l3,x,[],[],s3,rfl,px,okx.up l3,rfl,Acc.nil,fun k hk=>(by cases hk),.refl _,h3,by decide,rfl,rfl⟩, ?_⟩, ?_⟩
 ·intro n0 n1 n2 n3 n4 n5 na nn nc n7 a n c pos m I4 F4 l4 ⟨hq4,t,ks,A,s',htv,pt,okt,hpos,hA,hks,hF4,hsn',hkl,hm,hr⟩
  have hn:=hA.1
  subst hn hpos
  have hup:=(Up.do (c:=q.c) s').2 hsn'
  refine (JT b s' I4 _ _ hq4 hsn' (((hF4.cons _).cons _).trans dm)).mono fun e I5 G l5 ⟨d,he,pd,okd,hG⟩=>?_
  refine⟨_,_,_,_,_,_,_,_,_,_,_,_,_,_,_,_,_,_,_,_,_,_,_,_,_,_,_,_,_,_,_,_,_,_,_,_,_,_,_,_,_,_,_,_,he,q.cr b (q.c.do s').2::(A++F0),hG.trans dm.symm,fun b_d b4 I6 l6 hb4=>?_⟩
  have hq6:=(hq4.mono l5).mono l6
  refine (vY (f:=dy.enc) (fun _=>rfl) (zv:=(⟨0,0,⟨#[]⟩,iU,iU,iU,iU,0⟩:dy).v) (by':=320) (by kernel_rfl) (by kernel_rfl) rfl (by decide) (by decide) hA (by omega) d (HT _) hb4 rfl D5).mono fun v I7 G7 l7 ⟨a',n',c',A',hv,hA',hG7⟩=>⟨a',n',c',hv,q.cr b (q.c.do s').2::(A'++F0),hG7.trans D5.symm, ?_⟩
  have hq7:=hq6.mono l7
  have hn':=hA'.1
  rw[List.length_append,List.length_singleton] at hn'
  subst hn'
  obtain⟨j,hj⟩:∃j,8-ks.length=j+1:=⟨8-ks.length-1,by omega⟩
  rw[hj] at hr
  have l47:=cc.le_trans l5 (cc.le_trans l6 l7)
  have hks':∀J,cc.le I7 J→∀k∈ks++[d],Ao J k:=fun J hJ k hk=>by
   rcases List.mem_append.1 hk with hk | hk
   ·exact pT _ _ _ (cc.le_trans l47 hJ) (hks k hk)
   ·rw[List.mem_singleton] at hk;subst hk;exact pT _ _ _ (cc.le_trans l6 (cc.le_trans l7 hJ)) okd
  refine cf.ret (ri hq7 _ (s:=(q.c.do s').2) (.tail _ (.tail _ (.tail _ (.head _))))) fun I8 l8=>⟨_,rfl,q.cr b (q.c.do s').2::(A'++F0),.refl _,fun hw=>?_,fun hw=>?_⟩
  ·have hw:q.c.lj (⟨#[44]⟩:ByteArray) (q.c.do s').2=false:=by simpa using hw
   rw[D9 hw] at hr
   exact⟨hq7.mono l8,t,ks++[d],A',htv,pt,okt.up (cc.le_trans l47 l8),rfl,hA',hks' _ l8,by rw[hr],by rw[hr,List.map_append,List.map_singleton,pd],by rw[hr];exact hup⟩
  have hw:q.c.lj (⟨#[44]⟩:ByteArray) (q.c.do s').2=true:=by simpa using hw
  have hlt:=eb hw
  have hq8:=hq7.mono l8
  refine (vV hq8 (ks.length+1) 8 (s:=(q.c.do s').2) uk).mono fun e I9 G l9 ⟨he,hG⟩=>⟨_,he,q.cr b (q.c.many (ks.length+1) 8 (q.c.do s').2)::(A'++F0),hG.trans uk.symm,fun ho=>?_,fun ho=>?_⟩
  ·have ho:(q.c.many (ks.length+1) 8 (q.c.do s').2).over=true:=by simpa using ho
   rw[Ea hw (by rw[List.length_map];exact ho),List.length_map] at hr
   exact⟨hq8.mono l9,t,ks++[d],A',htv,pt,okt.up (cc.le_trans l47 (cc.le_trans l8 l9)),rfl,hA',hks' _ (cc.le_trans l8 l9),by rw[hr],by rw[hr,List.map_append,List.map_singleton,pd],by rw[hr];show (q.c.many _ _ _).next≤_;rw[th];exact hup⟩
  have ho:(q.c.many (ks.length+1) 8 (q.c.do s').2).over=false:=by simpa using ho
  obtain⟨hlt8,hme⟩:=lK hlt ho
  rw[hme]
  refine⟨_,rfl,_,PQ.rd (k:=3) (.tail _ (.tail _ (.tail _ (.head _)))) rfl,_,rfl,q.cl (q.c.do s').2,107,A'++F0,.refl _,PQ.spot _ _,by rw[PQ.off];exact (by decide:3+1≤7), ?_⟩
  rw[PQ.eh (by omega)]
  refine⟨8-(ks.length+1),by omega,hq8.mono l9,t,ks++[d],A',_,htv,pt,okt.up (cc.le_trans l47 (cc.le_trans l8 l9)),rfl,hA',hks' _ (cc.le_trans l8 l9),.refl _,hlt,by rw[List.length_append,List.length_singleton];omega,by rw[List.length_append,List.length_singleton], ?_⟩
  rw[hr,PC.mM,if_pos hw,List.length_map,if_neg (by simp[ho]),hme,List.map_append,List.map_singleton,pd,List.length_append,List.length_singleton,show 8-(ks.length+1)=j by omega]
 ·intro n0 n1 n2 n3 n4 n5 na nn nc n7 a n c pos I10 F10 l10 ⟨hq10,t,ks,A,htv,pt,okt,hpos,hA,hks,hF10,hr,hn10⟩
  simp only[Nd.v,Value.agg.injEq,Array.mk.injEq,List.cons.injEq,Value.int.injEq,Value.string.injEq,Value.slice.injEq,true_and,and_true] at htv
  obtain⟨rfl,rfl,rfl,rfl,rfl,rfl,⟨rfl,rfl,rfl⟩,rfl⟩:=htv
  have hn:=hA.1
  subst hn hpos
  unfold PC.Hg
  rw[←hs3]
  refine (dV hq10 _ (s:=(q.c.mM 8 [] s3).2) (((hF10.cons _).cons _).trans dm)).mono fun e I11 G l11 ⟨he,hG⟩=>⟨_,he,q.cr b (q.c.take (⟨#[59]⟩:ByteArray) (q.c.mM 8 [] s3).2).2::(A++F0),hG.trans dm.symm, ?_⟩
  exact⟨t,a,c,ks,ta.1,A,rfl,by simp only[cp.p,pt,hr],okt.up l11,hA,fun k hk=>pT _ _ _ l11 (hks k hk),.refl _⟩
theorem GB{q:PQ}:xO 95 cg.v cg.p nX q q.c.state:=by
 intro b s I F F0 hq hsn hF
 have hl:=hq.len
 refine cf.keep (Q:=fun e I' G=>∃(nm:ByteArray) (a:Option Addr) (c:Nat) (ds:List cp) (pos:Int) (A:b8),e=.returned (cg.v ⟨nm,a,c,ds,pos⟩)∧(⟨nm,a,c,ds,pos⟩:cg).p=(q.c.state s).1∧Acc 10 cp.enc 84 a ds.length c ds A∧(∀d∈ds,tj I' d)∧G.Perm (q.cr b (q.c.state s).2::(A++F0))) ?_ fun e I' G w hl hs ⟨nm,a,c,ds,pos,A,he,hp,hA,hd,hG⟩=>?_
 rotate_left
 ·obtain⟨J,h1,h2,h3⟩:=Acc.keep (z:=10) (f:=cp.enc) (fun _=>rfl) hA (hs.perm (hG.trans (List.perm_append_comm_assoc [_] A F0)))
  exact⟨J,_,h1,h2,_,he,hp,⟨h3.yr [],fun d hdm=>iv _ _ _ h1 (hd d hdm)⟩,.refl _⟩
 unfold PC.state
 have ht:=(Up.take (c:=q.c) (s:=s) (⟨#[115,116,97,116,101]⟩:ByteArray)).2 hsn
 generalize hta:q.c.take (⟨#[115,116,97,116,101]⟩:ByteArray) s=ta at ht ⊢
 have hn:=(Up.name (c:=q.c) (s:=ta.2)).2 ht
 generalize hbb:q.c.name ta.2=bb at hn ⊢
 have h3:=(Up.take (c:=q.c) (s:=bb.2) (⟨#[123]⟩:ByteArray)).2 hn
 generalize hs3:(q.c.take (⟨#[123]⟩:ByteArray) bb.2).2=s3 at h3 ⊢
 refine fi.vc (fun nm a n c pos I' F'=>nm=bb.1∧pos=ta.1∧qt 10 cp.enc 84 cp.p tj q b (⟨#[119,104,101,110]⟩:ByteArray) 12 q.c.qo s3 F0 a n c I' F')
  (fun nm a n c pos m I' F'=>nm=bb.1∧pos=ta.1∧qq 10 cp.enc 84 cp.p tj q b (⟨#[119,104,101,110]⟩:ByteArray) 12 q.c.qo s3 F0 a n c m I' F') ?_
 unfold fi.V
 intro b2
 refine (dV hq _ ((hF.cons _).trans mr)).mono fun e I1 G l1 ⟨he,hG⟩=>⟨_,he,q.cr b ta.2::F0,by rw[hta] at hG;exact hG.trans mr,fun b_s=>?_⟩
 rw[hta]
 have hq1:=hq.mono l1
 refine (rj hq1 (s:=ta.2) dm).mono fun e I2 G l2 ⟨he,hG⟩=>⟨_,he,q.cr b bb.2::F0,by rw[hbb] at hG;exact hG.trans dm.symm, ?_⟩
 rw[hbb]
 have hq2:=hq1.mono l2
 refine (dV hq2 _ (s:=bb.2) dm).mono fun e I3 G l3 ⟨he,hG⟩=>⟨_,he,q.cr b s3::F0,by rw[hs3] at hG;exact hG.trans dm.symm,⟨⟨_,rfl,rfl,qq.start (hq2.mono l3) h3 (.refl _)⟩, ?_⟩, ?_⟩
 ·intro nm a n c pos m I4 F4 l4 ⟨e1,e2,hq4,ks,A,s',hA,hks,hF4,hsn',hkl,hm,hr⟩
  have hn:=hA.1
  subst hn e1 e2
  have hm4:q.cr b s'∈F4:=hF4.mem_iff.2 (.head _)
  refine cf.ret (ri hq4 _ (s:=s') (.tail _ (.tail _ hm4))) fun I5 l5=>⟨_,rfl,F4,.refl _,fun hw=>?_,fun hw=>?_⟩
  ·exact⟨rfl,rfl,qt.stop (hq4.mono l5) hA (fun k hk=>iv _ _ _ l5 (hks k hk)) hsn' hr (by simpa using hw) hF4⟩
  have hw:q.c.lj (⟨#[119,104,101,110]⟩:ByteArray) s'=true:=by simpa using hw
  have hlt:=eb hw
  have hq5:=hq4.mono l5
  refine (vV hq5 ks.length 12 (((hF4.cons _).cons _).trans dm)).mono fun e I6 G l6 ⟨he,hG⟩=>⟨_,he,q.cr b (q.c.many ks.length 12 s')::(A++F0),hG.trans dm.symm,fun ho=>?_,fun ho=>?_⟩
  ·exact⟨rfl,rfl,qt.full (hq5.mono l6) hA (fun k hk=>iv _ _ _ (cc.le_trans l5 l6) (hks k hk)) hsn' hr hw (by simpa using ho) (.refl _)⟩
  have ho:(q.c.many ks.length 12 s').over=false:=by simpa using ho
  obtain⟨hlt4,hme⟩:=lK hlt ho
  rw[hme]
  have hq6:=hq5.mono l6
  refine (HU b s' I6 _ _ hq6 hsn' dm).mono fun e I7 G l7 ⟨x,he,px,okx,hG⟩=>?_
  refine⟨_,_,_,_,_,_,_,_,_,_,_,_,_,_,he,q.cr b (q.c.qo s').2::(A++F0),hG.trans dm.symm,fun b_r b4 I8 l8 hb4=>?_⟩
  have hq8:=(hq6.mono l7).mono l8
  refine (vY (f:=cp.enc) (fun _=>rfl) (zv:=(⟨iU,none,0,[],0⟩:cp).v) (by':=104) (by kernel_rfl) (by kernel_rfl) rfl (by decide) (by decide) hA (by omega) x (Fp _) hb4 rfl D5).mono fun v I9 G9 l9 ⟨a',n',c',A',hv,hA',hG9⟩=>⟨a',n',c',hv,q.cr b (q.c.qo s').2::(A'++F0),hG9.trans D5.symm,12-(ks.length+1),by omega,rfl,rfl, ?_⟩
  exact qq.next iv Up.qo hA hks hsn' hr hw ho px (iv _ _ _ (cc.le_trans l8 l9) okx) (cc.le_trans l5 (cc.le_trans l6 (cc.le_trans l7 (cc.le_trans l8 l9)))) (hq8.mono l9) hA' (.refl _)
 ·intro nm a n c pos I10 F10 l10 ⟨e1,e2,hq10,ks,A,hA,hks,hF10,hr,hn10⟩
  have hn:=hA.1
  subst hn e1 e2
  unfold PC.Fe
  refine (dV hq10 _ (s:=(q.c.list (⟨#[119,104,101,110]⟩:ByteArray) 12 q.c.qo s3).2) (((hF10.cons _).cons _).trans dm)).mono fun e I11 G l11 ⟨he,hG⟩=>⟨_,he,q.cr b (q.c.take (⟨#[125]⟩:ByteArray) (q.c.list (⟨#[119,104,101,110]⟩:ByteArray) 12 q.c.qo s3).2).2::(A++F0),hG.trans dm.symm, ?_⟩
  exact⟨bb.1,a,c,ks,ta.1,A,rfl,by simp only[cg.p,hr],hA,fun k hk=>iv _ _ _ l11 (hks k hk),.refl _⟩
theorem GC{q:PQ}:xO 56 cw.v cw.p Jd q q.c.whole:=by
 intro b s I F F0 hq hsn hF
 have hl:=hq.len
 refine cf.keep (Q:=fun e I' G=>∃(nm:ByteArray) (a1:Option Addr) (c1:Nat) (rs:List cH) (a2:Option Addr) (c2:Nat) (ss:List cx) (a3:Option Addr) (c3:Nat) (ts:List cg) (A1 A2:b8),e=.returned (cw.v ⟨nm,a1,c1,rs,a2,c2,ss,a3,c3,ts⟩)∧(⟨nm,a1,c1,rs,a2,c2,ss,a3,c3,ts⟩:cw).p=(q.c.whole s).1 ∧
   Acc 11 cH.enc 77 a1 rs.length c1 rs A1∧(∀d∈rs,sf I' d)∧Sl I' 2 cx.enc a2 ss.length ss∧Acc 3 cg.enc 65 a3 ts.length c3 ts A2∧(∀d∈ts,nX I' d)∧G.Perm (q.cr b (q.c.whole s).2::(A2++(A1++F0)))) ?_
  fun e I' G w hl hs ⟨nm,a1,c1,rs,a2,c2,ss,a3,c3,ts,A1,A2,he,hp,hA1,hd1,hS,hA2,hd2,hG⟩=>?_
 rotate_left
 ·obtain⟨J,h1,h2,h3⟩:=Acc.keep (z:=3) (f:=cg.enc) (fun _=>rfl) hA2 (hs.perm (hG.trans (List.perm_append_comm_assoc [_] A2 (A1++F0))))
  obtain⟨J2,k1,k2,k3⟩:=Acc.keep (z:=11) (f:=cH.enc) (fun _=>rfl) hA1 (h2.perm (List.perm_append_comm_assoc [_] A1 F0))
  exact⟨J2,_,cc.le_trans h1 k1,k2,_,he,hp,⟨k3.yr [],fun d hdm=>eM _ _ _ (cc.le_trans h1 k1) (hd1 d hdm),(hS.mono (cc.le_trans h1 k1)).yr [],(h3.mono k1).yr [],fun d hdm=>gA _ _ _ (cc.le_trans h1 k1) (hd2 d hdm)⟩,.refl _⟩
 unfold PC.whole
 have ht:=(Up.take (c:=q.c) (s:=s) (⟨#[115,116,114,97,116,101,103,121]⟩:ByteArray)).2 hsn
 generalize hta:(q.c.take (⟨#[115,116,114,97,116,101,103,121]⟩:ByteArray) s).2=s1 at ht ⊢
 have hn:=(Up.name (c:=q.c) (s:=s1)).2 ht
 generalize hbb:q.c.name s1=bb at hn ⊢
 have h3:=(Up.take (c:=q.c) (s:=bb.2) (⟨#[123]⟩:ByteArray)).2 hn
 generalize hs3:(q.c.take (⟨#[123]⟩:ByteArray) bb.2).2=s3 at h3 ⊢
 unfold PC.Fi PC.Fh PC.Fg PC.Ff
 refine fk.vc
  (fun nm a1 n1 c1 a2 n2 c2 a3 n3 c3 I' F'=>nm=bb.1∧a3=none∧n3=0∧c3=0∧qt 11 cH.enc 77 cH.p sf q b (⟨#[114,101,103]⟩:ByteArray) 12 q.c.fG s3 F0 a1 n1 c1 I' F')
  (fun nm a1 n1 c1 a2 n2 c2 a3 n3 c3 m I' F'=>nm=bb.1∧a3=none∧n3=0∧c3=0∧qq 11 cH.enc 77 cH.p sf q b (⟨#[114,101,103]⟩:ByteArray) 12 q.c.fG s3 F0 a1 n1 c1 m I' F')
  (fun nm a1 n1 c1 a2 n2 c2 a3 n3 c3 I' F'=>nm=bb.1∧∃(rs:List cH) (A1:b8),Acc 11 cH.enc 77 a1 n1 c1 rs A1∧(∀k∈rs,sf I' k)∧(q.c.list (⟨#[114,101,103]⟩:ByteArray) 12 q.c.fG s3).1=rs.map cH.p∧Sl I' 2 cx.enc a2 n2 (q.c.list (⟨#[115,108,111,116]⟩:ByteArray) 4 q.c.slot (q.c.list (⟨#[114,101,103]⟩:ByteArray) 12 q.c.fG s3).2).1 ∧
    qt 3 cg.enc 65 cg.p nX q b (⟨#[115,116,97,116,101]⟩:ByteArray) 12 q.c.state (q.c.list (⟨#[115,108,111,116]⟩:ByteArray) 4 q.c.slot (q.c.list (⟨#[114,101,103]⟩:ByteArray) 12 q.c.fG s3).2).2 (A1++F0) a3 n3 c3 I' F')
  (fun nm a1 n1 c1 a2 n2 c2 a3 n3 c3 m I' F'=>nm=bb.1∧∃(rs:List cH) (A1:b8),Acc 11 cH.enc 77 a1 n1 c1 rs A1∧(∀k∈rs,sf I' k)∧(q.c.list (⟨#[114,101,103]⟩:ByteArray) 12 q.c.fG s3).1=rs.map cH.p∧Sl I' 2 cx.enc a2 n2 (q.c.list (⟨#[115,108,111,116]⟩:ByteArray) 4 q.c.slot (q.c.list (⟨#[114,101,103]⟩:ByteArray) 12 q.c.fG s3).2).1 ∧
    qq 3 cg.enc 65 cg.p nX q b (⟨#[115,116,97,116,101]⟩:ByteArray) 12 q.c.state (q.c.list (⟨#[115,108,111,116]⟩:ByteArray) 4 q.c.slot (q.c.list (⟨#[114,101,103]⟩:ByteArray) 12 q.c.fG s3).2).2 (A1++F0) a3 n3 c3 m I' F') ?_
 unfold fk.V
 intro b2 b_s
 refine (dV hq _ (((hF.cons _).cons _).trans dm)).mono fun e I1 G l1 ⟨he,hG⟩=>⟨_,he,q.cr b s1::F0,by rw[hta] at hG;exact hG.trans dm.symm, ?_⟩
 have hq1:=hq.mono l1
 refine (rj hq1 (s:=s1) dm).mono fun e I2 G l2 ⟨he,hG⟩=>⟨_,he,q.cr b bb.2::F0,by rw[hbb] at hG;exact hG.trans dm.symm, ?_⟩
 rw[hbb]
 have hq2:=hq1.mono l2
 refine (dV hq2 _ (s:=bb.2) dm).mono fun e I3 G l3 ⟨he,hG⟩=>⟨_,he,q.cr b s3::F0,by rw[hs3] at hG;exact hG.trans dm.symm,⟨⟨_,rfl,rfl,rfl,rfl,qq.start (hq2.mono l3) h3 (.refl _)⟩, ?_⟩, ?_⟩
 ·intro nm a1 n1 c1 a2 n2 c2 a3 n3 c3 m I4 F4 l4 ⟨e1,e2,e3,e4,hq4,ks,A,s',hA,hks,hF4,hsn',hkl,hm,hr⟩
  have hn:=hA.1
  subst hn e1 e2 e3 e4
  have hm4:q.cr b s'∈F4:=hF4.mem_iff.2 (.head _)
  refine cf.ret (ri hq4 _ (s:=s') (.tail _ (.tail _ hm4))) fun I5 l5=>⟨_,rfl,F4,.refl _,fun hw=>?_,fun hw=>?_⟩
  ·exact⟨rfl,rfl,rfl,rfl,qt.stop (hq4.mono l5) hA (fun k hk=>eM _ _ _ l5 (hks k hk)) hsn' hr (by simpa using hw) hF4⟩
  have hw:q.c.lj (⟨#[114,101,103]⟩:ByteArray) s'=true:=by simpa using hw
  have hlt:=eb hw
  have hq5:=hq4.mono l5
  refine (vV hq5 ks.length 12 (((hF4.cons _).cons _).trans dm)).mono fun e I6 G l6 ⟨he,hG⟩=>⟨_,he,q.cr b (q.c.many ks.length 12 s')::(A++F0),hG.trans dm.symm,fun ho=>?_,fun ho=>?_⟩
  ·exact⟨rfl,rfl,rfl,rfl,qt.full (hq5.mono l6) hA (fun k hk=>eM _ _ _ (cc.le_trans l5 l6) (hks k hk)) hsn' hr hw (by simpa using ho) (.refl _)⟩
  have ho:(q.c.many ks.length 12 s').over=false:=by simpa using ho
  obtain⟨hlt4,hme⟩:=lK hlt ho
  rw[hme]
  have hq6:=hq5.mono l6
  refine (Je b s' I6 _ _ hq6 hsn' dm).mono fun e I7 G l7 ⟨x,he,px,okx,hG⟩=>?_
  refine⟨_,_,_,_,_,_,_,_,_,_,_,_,_,he,q.cr b (q.c.fG s').2::(A++F0),hG.trans dm.symm,fun b_r b4 I8 l8 hb4=>?_⟩
  have hq8:=(hq6.mono l7).mono l8
  refine (vY (f:=cH.enc) (fun _=>rfl) (zv:=(⟨⟨#[]⟩,0,iU,0⟩:cH).v) (by':=104) (by kernel_rfl) (by kernel_rfl) rfl (by decide) (by decide) hA (by omega) x (Gz _) hb4 rfl D5).mono fun v I9 G9 l9 ⟨a',n',c',A',hv,hA',hG9⟩=>⟨a',n',c',hv,q.cr b (q.c.fG s').2::(A'++F0),hG9.trans D5.symm,12-(ks.length+1),by omega,rfl,rfl,rfl,rfl, ?_⟩
  exact qq.next eM Up.fG hA hks hsn' hr hw ho px (eM _ _ _ (cc.le_trans l8 l9) okx) (cc.le_trans l5 (cc.le_trans l6 (cc.le_trans l7 (cc.le_trans l8 l9)))) (hq8.mono l9) hA' (.refl _)
 intro nm a1 n1 c1 a2 n2 c2 a3 n3 c3 I10 F10 l10 ⟨e1,e2,e3,e4,hq10,rs,A1,hA1,hrs,hF10,hr1,hn10⟩
 subst e1 e2 e3 e4
 generalize hL1:q.c.list (⟨#[114,101,103]⟩:ByteArray) 12 q.c.fG s3=L1 at hF10 hr1 hn10 ⊢
 refine (GA b L1.2 I10 _ _ hq10 hn10 (((hF10.cons _).cons _).trans dm)).mono fun e I11 G l11 ⟨a2',n2',c2',he,hS,hG⟩=>?_
 have hn11:=(Up.list (c:=q.c) (w:=(⟨#[115,108,111,116]⟩:ByteArray)) (most:=4) Up.slot L1.2).2 hn10
 generalize hL2:q.c.list (⟨#[115,108,111,116]⟩:ByteArray) 4 q.c.slot L1.2=L2 at hS hG hn11 ⊢
 have hq11:=hq10.mono l11
 refine⟨a2',n2',c2',he,q.cr b L2.2::(A1++F0),hG.trans dm.symm,⟨⟨_,rfl,rs,A1,hA1,fun k hk=>eM _ _ _ l11 (hrs k hk),hr1,hS,qq.start hq11 hn11 (.refl _)⟩, ?_⟩, ?_⟩
 ·intro nm a1 n1 c1 a2 n2 c2 a3 n3 c3 m I12 F12 l12 ⟨e1,rs,A1,hA1,hrs,hr1,hS,hq12,ks,A,s',hA,hks,hF4,hsn',hkl,hm,hr⟩
  have hn:=hA.1
  subst hn e1
  have hm4:q.cr b s'∈F12:=hF4.mem_iff.2 (.head _)
  refine cf.ret (ri hq12 _ (s:=s') (.tail _ (.tail _ hm4))) fun I5 l5=>⟨_,rfl,F12,.refl _,fun hw=>?_,fun hw=>?_⟩
  ·exact⟨rfl,rs,A1,hA1,fun k hk=>eM _ _ _ l5 (hrs k hk),hr1,hS.mono l5,qt.stop (hq12.mono l5) hA (fun k hk=>gA _ _ _ l5 (hks k hk)) hsn' hr (by simpa using hw) hF4⟩
  have hw:q.c.lj (⟨#[115,116,97,116,101]⟩:ByteArray) s'=true:=by simpa using hw
  have hlt:=eb hw
  have hq5:=hq12.mono l5
  refine (vV hq5 ks.length 12 (((hF4.cons _).cons _).trans dm)).mono fun e I6 G l6 ⟨he,hG⟩=>⟨_,he,q.cr b (q.c.many ks.length 12 s')::(A++(A1++F0)),hG.trans dm.symm,fun ho=>?_,fun ho=>?_⟩
  ·exact⟨rfl,rs,A1,hA1,fun k hk=>eM _ _ _ (cc.le_trans l5 l6) (hrs k hk),hr1,hS.mono (cc.le_trans l5 l6),qt.full (hq5.mono l6) hA (fun k hk=>gA _ _ _ (cc.le_trans l5 l6) (hks k hk)) hsn' hr hw (by simpa using ho) (.refl _)⟩
  have ho:(q.c.many ks.length 12 s').over=false:=by simpa using ho
  obtain⟨hlt4,hme⟩:=lK hlt ho
  rw[hme]
  have hq6:=hq5.mono l6
  refine (GB b s' I6 _ _ hq6 hsn' dm).mono fun e I7 G l7 ⟨x,he,px,okx,hG⟩=>?_
  refine⟨_,_,_,_,_,he,q.cr b (q.c.state s').2::(A++(A1++F0)),hG.trans dm.symm,fun b_r b4 I8 l8 hb4=>?_⟩
  have hq8:=(hq6.mono l7).mono l8
  have l59:∀J,cc.le I8 J→cc.le I12 J:=fun J h=>cc.le_trans l5 (cc.le_trans l6 (cc.le_trans l7 (cc.le_trans l8 h)))
  refine (vY (f:=cg.enc) (fun _=>rfl) (zv:=(⟨⟨#[]⟩,none,0,[],0⟩:cg).v) (by':=48) (by kernel_rfl) (by kernel_rfl) rfl (by decide) (by decide) hA (by omega) x (D8 _) hb4 rfl D5).mono fun v I9 G9 l9 ⟨a',n',c',A',hv,hA',hG9⟩=>⟨a',n',c',hv,q.cr b (q.c.state s').2::(A'++(A1++F0)),hG9.trans D5.symm,12-(ks.length+1),by omega,rfl,rs,A1,hA1,fun k hk=>eM _ _ _ (l59 _ l9) (hrs k hk),hr1,hS.mono (l59 _ l9), ?_⟩
  exact qq.next gA Up.state hA hks hsn' hr hw ho px (gA _ _ _ (cc.le_trans l8 l9) okx) (l59 _ l9) (hq8.mono l9) hA' (.refl _)
 intro nm a1 n1 c1 a2 n2 c2 a3 n3 c3 I18 F18 l18 ⟨e1,rs,A1,hA1,hrs,hr1,hS,hq18,ts,A2,hA2,hts,hF18,hr2,hn18⟩
 have hn3:=hA2.1
 have hn1:=hA1.1
 have hn2:=hS.1
 subst e1 hn3 hn1
 generalize hL3:q.c.list (⟨#[115,116,97,116,101]⟩:ByteArray) 12 q.c.state L2.2=L3 at hF18 hr2 hn18 ⊢
 have hfin:∀(s6:PS) (I':cc) (F':b8),cc.le I18 I'→s6=(if L3.1.length=0 then q.c.c5 130 L3.2 else L3.2)→F'.Perm (q.cr b (q.c.end (q.c.take (⟨#[125]⟩:ByteArray) s6).2)::(A2++(A1++F0))) →
   ∃(nm:ByteArray) (a1':Option Addr) (c1':Nat) (rs':List cH) (a2':Option Addr) (c2':Nat) (ss:List cx) (a3':Option Addr) (c3':Nat) (ts':List cg) (A1' A2':b8),Ending.returned (cw.v ⟨bb.1,a1,c1,rs,a2,c2,L2.1,a3,c3,ts⟩)=.returned (cw.v ⟨nm,a1',c1',rs',a2',c2',ss,a3',c3',ts'⟩)∧(⟨nm,a1',c1',rs',a2',c2',ss,a3',c3',ts'⟩:cw).p=⟨bb.1,L1.1,L2.1,L3.1⟩ ∧
   Acc 11 cH.enc 77 a1' rs'.length c1' rs' A1'∧(∀d∈rs',sf I' d)∧Sl I' 2 cx.enc a2' ss.length ss∧Acc 3 cg.enc 65 a3' ts'.length c3' ts' A2'∧(∀d∈ts',nX I' d)∧F'.Perm (q.cr b (q.c.end (q.c.take (⟨#[125]⟩:ByteArray) (if L3.1.length=0 then q.c.c5 130 L3.2 else L3.2)).2)::(A2'++(A1'++F0))):=fun s6 I' F' hl h6 hF' =>
  ⟨bb.1,a1,c1,rs,a2,c2,L2.1,a3,c3,ts,A1,A2,rfl,by simp only[cw.p,hr1,hr2],hA1,fun k hk=>eM _ _ _ hl (hrs k hk),hn2▸hS.mono hl,hA2,fun k hk=>gA _ _ _ hl (hts k hk),h6▸hF'⟩
 have h3l:L3.1.length=ts.length:=by rw[hr2,List.length_map]
 subst hn2
 refine⟨fun hz=>?_,fun hz=>?_⟩
 ·have hz:ts.length=0:=by have hz:((ts.length:Int)==0)=true:=hz;simpa using hz
  refine (fg hq18 130 (s:=L3.2) (((hF18.cons _).cons _).trans dm)).mono fun e I19 G l19 ⟨he,hG⟩=>⟨he,q.cr b (q.c.c5 130 L3.2)::(A2++(A1++F0)),hG.trans dm.symm, ?_⟩
  have hq19:=hq18.mono l19
  refine (dV hq19 _ (s:=q.c.c5 130 L3.2) dm).mono fun e I20 G l20 ⟨he,hG⟩=>⟨_,he,q.cr b (q.c.take (⟨#[125]⟩:ByteArray) (q.c.c5 130 L3.2)).2::(A2++(A1++F0)),hG.trans dm.symm, ?_⟩
  have hq20:=hq19.mono l20
  refine (Fj hq20 (s:=(q.c.take (⟨#[125]⟩:ByteArray) (q.c.c5 130 L3.2)).2) dm).mono fun e I21 G l21 ⟨he,hG⟩=>⟨he,q.cr b (q.c.end (q.c.take (⟨#[125]⟩:ByteArray) (q.c.c5 130 L3.2)).2)::(A2++(A1++F0)),hG.trans dm.symm, ?_⟩
  exact hfin _ _ _ (cc.le_trans l19 (cc.le_trans l20 l21)) (by rw[if_pos (by omega)]) (.refl _)
 ·have hz:ts.length≠0:=by have hz:((ts.length:Int)==0)=false:=hz;simp at hz;exact fun h=>hz (List.eq_nil_of_length_eq_zero h)
  refine (dV hq18 _ (s:=L3.2) (((hF18.cons _).cons _).trans dm)).mono fun e I20 G l20 ⟨he,hG⟩=>⟨_,he,q.cr b (q.c.take (⟨#[125]⟩:ByteArray) L3.2).2::(A2++(A1++F0)),hG.trans dm.symm, ?_⟩
  have hq20:=hq18.mono l20
  refine (Fj hq20 (s:=(q.c.take (⟨#[125]⟩:ByteArray) L3.2).2) dm).mono fun e I21 G l21 ⟨he,hG⟩=>⟨he,q.cr b (q.c.end (q.c.take (⟨#[125]⟩:ByteArray) L3.2).2)::(A2++(A1++F0)),hG.trans dm.symm, ?_⟩
  exact hfin _ _ _ (cc.le_trans l20 l21) (by rw[if_neg (by omega)]) (.refl _)
theorem xP(s:ByteArray):∀(n:Nat) (f:Int),(qC s n f).1.length≤n
 | 0,f=>Nat.le_refl _
 | n+1,f=>by
   unfold qC
   cases ht:uh s f with
   | bad e p=>exact Nat.zero_le _
   | ok t =>
     show (if t.kind=0 then ([t],none) else _:List Tok×Option (Int×Int)).1.length≤n+1
     split
     ·exact Nat.succ_le_succ (Nat.zero_le _)
     ·exact Nat.succ_le_succ (xP s n _)
def PF.v(f:PF):Value:=.agg #[.int .i64 f.e,.int .i64 f.pos,.bool f.tok]
theorem CZ(t:ByteArray)(ht:cW t)(I:cc)(F:b8):cf P 52 #[.string t] I F fun e I' G=>∃(q:PQ) (b:Nat),q.c=tf t∧q.ok I'∧e=.returned (.pointer (some ⟨b,0,none⟩))∧G.Perm (q.cr b (gR t)::F):=by
 refine cf.keep (Q:=fun e I' G=>∃(q:PQ) (b:Nat) (A:b8),q.c=tf t∧Acc 5 Tok.enc 145 q.a q.c.l.length q.cap q.c.l A∧q.c.l.length≤1000000∧e=.returned (.pointer (some ⟨b,0,none⟩))∧G.Perm (q.cr b (gR t)::(A++F))) ?_ fun e I' G w hl hs ⟨q,b,A,hc,hA,hle,he,hG⟩=>?_
 rotate_left
 ·obtain⟨J,h1,h2,h3⟩:=Acc.keep (z:=5) (f:=Tok.enc) (fun _=>rfl) hA (hs.perm (hG.trans (List.perm_append_comm_assoc [_] A F)))
  exact⟨J,_,h1,h2,q,b,hc,⟨h3,hle⟩,he,.refl _⟩
 refine lJ.vc ?_
 unfold lJ.V
 refine⟨fun h b=>?_,fun h=>?_⟩
 ·have h:(4096:Int)<t.size:=of_decide_eq_true h
  refine⟨⟨tf t,none,0⟩,b,[],rfl, ?_, ?_,rfl, ?_⟩
  ·unfold tf;rw[if_pos h];exact Acc.nil
  ·unfold tf;rw[if_pos h];decide
  ·unfold PQ.cr PQ.cl tf gR;rw[if_pos h,if_pos h];exact .refl _
 ·have h:¬(4096:Int)<t.size:=of_decide_eq_false h
  refine (BV ht (by omega) I F).mono fun e I1 G l1 ⟨a,n,c,A,he,hA,hG⟩=>?_
  subst hG
  have hn:=hA.1
  subst hn
  refine⟨_,_,_,_,_,he,A++F,.refl _,fun b=>?_⟩
  refine⟨⟨tf t,a,c⟩,b,A,rfl, ?_, ?_,rfl, ?_⟩
  ·unfold tf;rw[if_neg h];exact hA
  ·unfold tf;rw[if_neg h]
   show (te t 0).1.length≤_
   have:=xP t ((t.size:Int)-0+1).toNat 0
   unfold te
   omega
  ·unfold PQ.cr PQ.cl tf gR;rw[if_neg h,if_neg h];exact .refl _
theorem PQ.Kb{q:PQ}{b:Nat}{s:PS}{I:cc}{G:b8}(h:q.cr b s∈G):Rd I G ((⟨b,0,none⟩:Addr).add 4) [.int .i64 s.f.e,.int .i64 s.f.pos,.bool s.f.tok]:=by
 rw[eD]
 refine⟨rfl,_,_,_,.inr h,fun j hj=>?_⟩
 have:j=0∨j=1∨j=2:=by simp only[List.length_cons,List.length_nil] at hj;omega
 rcases this with rfl | rfl | rfl<;>rfl
def B4:cw:=⟨⟨#[]⟩,none,0,[],none,0,[],none,0,[]⟩
theorem vZ(t:ByteArray)(ht:cW t)(I:cc)(F:b8):cf P 29 #[.string t] I F fun e I' G=>∃x:cw,e=.returned (.tuple #[x.v,(nQ t).2.v])∧x.p=(nQ t).1∧x.Ok I' []∧G=F:=by
 refine cf.keep (Q:=fun e I' G=>∃(x:cw) (H:b8),e=.returned (.tuple #[x.v,(nQ t).2.v])∧x.p=(nQ t).1∧x.Ok I' []∧G.Perm (H++F)) ?_ fun e I' G w hl hs ⟨x,H,he,hp,hok,hG⟩=>⟨I',F,cc.le_refl _,(hs.perm hG).drop,x,he,hp,hok,rfl⟩
 refine iO.vc ?_
 unfold iO.V
 intro b2 b3
 refine (CZ t ht I _).mono fun e I1 G l1 ⟨q,b,hc,hq,he,hG⟩=>⟨_,he,q.cr b (gR t)::F,hG.trans dm.symm, ?_⟩
 have h0:(gR t).next≤q.c.l.length:=Nat.zero_le _
 refine (GC b (gR t) I1 _ _ hq h0 dm).mono fun e I2 G2 l2 ⟨x,he,hp,hok,hG2⟩=>?_
 have hok:x.Ok I2 []:=hok
 refine⟨_,_,_,_,_,_,_,_,_,_,he,q.cr b (q.c.whole (gR t)).2::F,hG2.trans dm.symm,fun b_x=>?_⟩
 refine cf.ret (nS (q:=q) (b:=b) (s:=(q.c.whole (gR t)).2) (.tail _ (.tail _ (.tail _ (.head _))))) fun I3 l3=>⟨_,rfl,q.cr b (q.c.whole (gR t)).2::F,.refl _,fun ho=>?_,fun ho=>?_⟩
 ·refine⟨_,rfl,_,_,_,PQ.Kb (.head _),B4,[q.cr b (q.c.whole (gR t)).2], ?_, ?_,⟨dq.nil,fun x hx=>(by cases hx),dq.nil,dq.nil,fun x hx=>(by cases hx)⟩,.refl _⟩
  ·unfold nQ;rw[←hc,if_pos ho];rfl
  ·unfold nQ;rw[←hc,if_pos ho];rfl
 ·refine⟨x,[q.cr b (q.c.whole (gR t)).2], ?_, ?_,hok.mono l3 fun _ h=>h,.refl _⟩
  ·unfold nQ;rw[←hc,if_neg (by simp[ho])];rfl
  ·unfold nQ;rw[←hc,if_neg (by simp[ho])];exact hp
theorem B5(t:ByteArray)(ht:cW t)(I:cc)(F:b8):cf P 28 #[.string t] I F fun e I' G=>∃x:Nd,e=.returned (.tuple #[x.v,(nR t).2.v])∧x.px=(nR t).1∧cC I' [] x∧G=F:=by
 refine cf.keep (Q:=fun e I' G=>∃(x:Nd) (H:b8),e=.returned (.tuple #[x.v,(nR t).2.v])∧x.px=(nR t).1∧cC I' [] x∧G.Perm (H++F)) ?_ fun e I' G w hl hs ⟨x,H,he,hp,hok,hG⟩=>⟨I',F,cc.le_refl _,(hs.perm hG).drop,x,he,hp,hok,rfl⟩
 refine nW.vc ?_
 unfold nW.V
 intro b2 b3
 refine (CZ t ht I _).mono fun e I1 G l1 ⟨q,b,hc,hq,he,hG⟩=>⟨_,he,q.cr b (gR t)::F,hG.trans dm.symm, ?_⟩
 have h0:(gR t).next≤q.c.l.length:=Nat.zero_le _
 refine (tU b (gR t) I1 _ _ hq h0 dm).mono fun e I2 G2 l2 ⟨x,he,hp,hok,hG2⟩=>?_
 refine⟨_,_,_,_,_,_,_,_,_,_,he,q.cr b (q.c.iA (gR t)).2::F,hG2.trans dm.symm,fun b_x=>?_⟩
 refine (Fj (hq.mono l2) (s:=(q.c.iA (gR t)).2) uk).mono fun e I3 G3 l3 ⟨he,hG3⟩=>⟨he,q.cr b (q.c.end (q.c.iA (gR t)).2)::F,hG3.trans uk.symm, ?_⟩
 refine cf.ret (nS (q:=q) (b:=b) (s:=q.c.end (q.c.iA (gR t)).2) (.tail _ (.tail _ (.tail _ (.head _))))) fun I4 l4=>⟨_,rfl,q.cr b (q.c.end (q.c.iA (gR t)).2)::F,.refl _,fun ho=>?_,fun ho=>?_⟩
 ·refine⟨_,rfl,_,_,_,PQ.Kb (.head _),iU,[q.cr b (q.c.end (q.c.iA (gR t)).2)], ?_, ?_,dK,.refl _⟩
  ·unfold nR;rw[←hc];show _=Ending.returned (.tuple #[iU.v,(if (q.c.end (q.c.iA (gR t)).2).over then (o5,(q.c.end (q.c.iA (gR t)).2).f) else _:Px×PF).2.v]);rw[if_pos ho];rfl
  ·unfold nR;rw[←hc];show _=(if (q.c.end (q.c.iA (gR t)).2).over then (o5,(q.c.end (q.c.iA (gR t)).2).f) else _:Px×PF).1;rw[if_pos ho,jY]
 ·refine⟨x,[q.cr b (q.c.end (q.c.iA (gR t)).2)], ?_, ?_,hok.up (cc.le_trans l3 l4),.refl _⟩
  ·unfold nR;rw[←hc];show _=Ending.returned (.tuple #[x.v,(if (q.c.end (q.c.iA (gR t)).2).over then _ else ((q.c.iA (gR t)).1,zF):Px×PF).2.v]);rw[if_neg (by simp[ho])];rfl
  ·unfold nR;rw[←hc];show _=(if (q.c.end (q.c.iA (gR t)).2).over then _ else ((q.c.iA (gR t)).1,zF):Px×PF).1;rw[if_neg (by simp[ho])];exact hp
end Go.Lx
namespace Go.Lx
open Go.Vc Go.Proofs.Tryz
def gM:List (Nat×List Sh):=[(3,[.one (.int .i64)]),(4,[.one .bool]),(9,[.one .str]),(24,[.one (.int .u8)]),(28,[.agg [(.int .u8),(.int .u8),(.int .u8),(.int .i64),(.int .u8),.str,.slc,(.int .i64)]]),(47,[.one (.int .i64)]),(51,[.agg [(.int .i64),(.int .i64),.bool]]),(63,[.one .slc]),(77,[.agg [.str,(.int .u8),(.int .u8),(.int .u8),(.int .u8),(.int .i64),(.int .u8),.str,.slc,(.int .i64),(.int .i64)]]),(84,[.agg [(.int .u8),(.int .u8),(.int .u8),(.int .i64),(.int .u8),.str,.slc,(.int .i64),.slc,(.int .i64)]]),(99,[.agg [(.int .u8),(.int .u8),.str,(.int .u8),(.int .u8),(.int .u8),(.int .i64),(.int .u8),.str,.slc,(.int .i64),(.int .u8),(.int .u8),(.int .u8),(.int .i64),(.int .u8),.str,.slc,(.int .i64),(.int .u8),(.int .u8),(.int .u8),(.int .i64),(.int .u8),.str,.slc,(.int .i64),(.int .u8),(.int .u8),(.int .u8),(.int .i64),(.int .u8),.str,.slc,(.int .i64),(.int .i64)]]),(135,[.one (.int .u8),.agg [(.int .i64),(.int .i64),.bool]]),(165,[.one (.int .u8),.one .bool]),(186,[.one .slc]),(188,[.one .slc])]
def nY.V(t:Int)(I:cc)(F:b8)(Q:cd)  : Prop:=(Dt (t≥1) (Q (.returned (.bool (decide (t≤4)))) I F) (Q (.returned (.bool false)) I F))
theorem nY.vc{t:Int}{I:cc}{F:b8}{Q:cd}  (h:nY.V t I F Q):cf P 139 #[.int .u8 t] I F Q :=
 tw (A:=(an [1001] [] gM)) [] func139 h
def pU.V(l:Bs)(b:OA)(a d:Nat)(e:OA)(f g:Nat)(h:OA)(j k:Nat)(c:Bs)(I:cc)(F:b8)(Q:cd)(Inv6:Int→Int→Nat→cc→b8→Prop):Prop:=∀n:Nat,(∃m:Nat,Inv6 0 0 m I F)∧∀(x i:Int) (m1:Nat) (I1:cc) (F1:b8),cc.le I I1→Inv6 x i m1 I1 F1→(Dt (i<(a:Int)) ((0≤i∧i<(a:Int))∧∃ad:Addr,b=some ad∧∃(m2:Bs),Rd I1 ((n,Obj.cells #[.string l,.slice b a d,.slice e f g,.slice h j k] 39 (0,0))::F1) ((ad.add (Int.toNat i*11)).add 0) [.string m2]∧(It (m2.toList==c.toList) (Q (.returned (.int .i64 i)) I1 F1) (∃m3:Nat,m3<m1∧Inv6 x (IntKind.wrap .i64 (i+1)) m3 I1 F1))) (Q (.returned (.int .i64 (-1))) I1 F1))
theorem pU.vc{l:Bs}{a:OA}{b c:Nat}{d:OA}{e f:Nat}{g:OA}{i j:Nat}{k:Bs}{I:cc}{F:b8}{Q:cd}(Inv6:Int→Int→Nat→cc→b8→Prop)(h:pU.V l a b c d e f g i j k I F Q Inv6):cf P 77 #[.agg #[.string l,.slice a b c,.slice d e f,.slice g i j],.string k] I F Q :=
 tw (A:=(cK [2004,4007] [] [] gM [(6,⟨[(4,(.int .i64)),(5,(.int .i64))],[],fun _ _ _ vs m I F=>match vs with | [.int _ y0,.int _ y1]=>Inv6 y0 y1 m I F | _=>False,[],[]⟩)] [] [] [] [] [] [])) [] func77 h
def nZ.V(l:Bs)(d:OA)(e f:Nat)(b:OA)(a g:Nat)(h:OA)(j k:Nat)(c:Bs)(I:cc)(F:b8)(Q:cd)(Inv6:Int→Int→Nat→cc→b8→Prop):Prop:=∀n:Nat,(∃m:Nat,Inv6 0 0 m I F)∧∀(x i:Int) (m1:Nat) (I1:cc) (F1:b8),cc.le I I1→Inv6 x i m1 I1 F1→(Dt (i<(a:Int)) ((0≤i∧i<(a:Int))∧∃ad:Addr,b=some ad∧∃(m2:Bs),Rd I1 ((n,Obj.cells #[.string l,.slice d e f,.slice b a g,.slice h j k] 39 (0,0))::F1) ((ad.add (Int.toNat i*2)).add 0) [.string m2]∧(It (m2.toList==c.toList) (Q (.returned (.int .i64 i)) I1 F1) (∃m3:Nat,m3<m1∧Inv6 x (IntKind.wrap .i64 (i+1)) m3 I1 F1))) (Q (.returned (.int .i64 (-1))) I1 F1))
theorem nZ.vc{l:Bs}{a:OA}{b c:Nat}{d:OA}{e f:Nat}{g:OA}{i j:Nat}{k:Bs}{I:cc}{F:b8}{Q:cd}(Inv6:Int→Int→Nat→cc→b8→Prop)(h:nZ.V l a b c d e f g i j k I F Q Inv6):cf P 79 #[.agg #[.string l,.slice a b c,.slice d e f,.slice g i j],.string k] I F Q :=
 tw (A:=(cK [2004,4007] [] [] gM [(6,⟨[(4,(.int .i64)),(5,(.int .i64))],[],fun _ _ _ vs m I F=>match vs with | [.int _ y0,.int _ y1]=>Inv6 y0 y1 m I F | _=>False,[],[]⟩)] [] [] [] [] [] [])) [] func79 h
def lL.V(l:Bs)(d:OA)(e f:Nat)(g:OA)(h j:Nat)(b:OA)(a k:Nat)(c:Bs)(I:cc)(F:b8)(Q:cd)(Inv6:Int→Int→Nat→cc→b8→Prop):Prop:=∀n:Nat,(∃m:Nat,Inv6 0 0 m I F)∧∀(x i:Int) (m1:Nat) (I1:cc) (F1:b8),cc.le I I1→Inv6 x i m1 I1 F1→(Dt (i<(a:Int)) ((0≤i∧i<(a:Int))∧∃ad:Addr,b=some ad∧∃(m2:Bs),Rd I1 ((n,Obj.cells #[.string l,.slice d e f,.slice g h j,.slice b a k] 39 (0,0))::F1) ((ad.add (Int.toNat i*3)).add 0) [.string m2]∧(It (m2.toList==c.toList) (Q (.returned (.int .i64 i)) I1 F1) (∃m3:Nat,m3<m1∧Inv6 x (IntKind.wrap .i64 (i+1)) m3 I1 F1))) (Q (.returned (.int .i64 (-1))) I1 F1))
theorem lL.vc{l:Bs}{a:OA}{b c:Nat}{d:OA}{e f:Nat}{g:OA}{i j:Nat}{k:Bs}{I:cc}{F:b8}{Q:cd}(Inv6:Int→Int→Nat→cc→b8→Prop)(h:lL.V l a b c d e f g i j k I F Q Inv6):cf P 80 #[.agg #[.string l,.slice a b c,.slice d e f,.slice g i j],.string k] I F Q :=
 tw (A:=(cK [2004,4007] [] [] gM [(6,⟨[(4,(.int .i64)),(5,(.int .i64))],[],fun _ _ _ vs m I F=>match vs with | [.int _ y0,.int _ y1]=>Inv6 y0 y1 m I F | _=>False,[],[]⟩)] [] [] [] [] [] [])) [] func80 h
def jz.V(vb:Int→Value)(a b:Int)(I:cc)(F:b8)(Q:cd)  : Prop:=(It (a==1) (cy P 139 #[vb b] I (·) F .bool fun r I1 F1=>(It r (Q (.returned (vb b)) I1 F1) (It (b==1) (cy P 139 #[vb a] I1 (·) F1 .bool fun r1 I2 F2=>(It r1 (Q (.returned (vb a)) I2 F2) (It (a==3) (It (b==2) (Q (.returned (vb 1)) I2 F2) (It (a==2) (It (b==3) (Q (.returned (vb 1)) I2 F2) (Q (.returned (vb 0)) I2 F2)) (Q (.returned (vb 0)) I2 F2))) (It (a==2) (It (b==3) (Q (.returned (vb 1)) I2 F2) (Q (.returned (vb 0)) I2 F2)) (Q (.returned (vb 0)) I2 F2))))) (It (a==3) (It (b==2) (Q (.returned (vb 1)) I1 F1) (It (a==2) (It (b==3) (Q (.returned (vb 1)) I1 F1) (Q (.returned (vb 0)) I1 F1)) (Q (.returned (vb 0)) I1 F1))) (It (a==2) (It (b==3) (Q (.returned (vb 1)) I1 F1) (Q (.returned (vb 0)) I1 F1)) (Q (.returned (vb 0)) I1 F1)))))) (It (b==1) (cy P 139 #[vb a] I (·) F .bool fun r2 I3 F3=>(It r2 (Q (.returned (vb a)) I3 F3) (It (a==3) (It (b==2) (Q (.returned (vb 1)) I3 F3) (It (a==2) (It (b==3) (Q (.returned (vb 1)) I3 F3) (Q (.returned (vb 0)) I3 F3)) (Q (.returned (vb 0)) I3 F3))) (It (a==2) (It (b==3) (Q (.returned (vb 1)) I3 F3) (Q (.returned (vb 0)) I3 F3)) (Q (.returned (vb 0)) I3 F3))))) (It (a==3) (It (b==2) (Q (.returned (vb 1)) I F) (It (a==2) (It (b==3) (Q (.returned (vb 1)) I F) (Q (.returned (vb 0)) I F)) (Q (.returned (vb 0)) I F))) (It (a==2) (It (b==3) (Q (.returned (vb 1)) I F) (Q (.returned (vb 0)) I F)) (Q (.returned (vb 0)) I F)))))
theorem jz.vc{a b:Int}{I:cc}{F:b8}{Q:cd}  (h:jz.V (.int .u8) a b I F Q):cf P 155 #[.int .u8 a,.int .u8 b] I F Q :=
 tw (A:=(an [1001,1004,3001,3004,5001,5004,5008,5011] [139] gM)) [139] func155 h
def iP.V(vb:Int→Value)(a b:Int)(I:cc)(F:b8)(Q:cd)  : Prop:=cy P 139 #[vb a] I (·) F .bool fun r I1 F1=>(It r (It (b==1) (Q (.returned (vb a)) I1 F1) (cy P 139 #[vb a] I1 (·) F1 .bool fun r1 I2 F2=>(It r1 (It (a==b) (Q (.returned (vb 1)) I2 F2) (Q (.returned (vb 0)) I2 F2)) (Q (.returned (vb 0)) I2 F2)))) (cy P 139 #[vb a] I1 (·) F1 .bool fun r2 I3 F3=>(It r2 (It (a==b) (Q (.returned (vb 1)) I3 F3) (Q (.returned (vb 0)) I3 F3)) (Q (.returned (vb 0)) I3 F3))))
theorem iP.vc{a b:Int}{I:cc}{F:b8}{Q:cd}  (h:iP.V (.int .u8) a b I F Q):cf P 156 #[.int .u8 a,.int .u8 b] I F Q :=
 tw (A:=(an [1001,1004,3001,3005] [139] gM)) [139] func156 h
def pV.V(vb:Int→Value)(vt:Bool→Value)(o a b:Int)(I:cc)(F:b8)(Q:cd)  : Prop:=(It (o==6) (It (a==b) (cy P 139 #[vb a] I (·) F vt fun r I1 F1=>Q (.returned (.tuple #[vb a,vt r])) I1 F1) (Q (.returned (.tuple #[vb a,vt false])) I F)) (It (o==7) (It (a==b) (cy P 139 #[vb a] I (·) F vt fun r1 I2 F2=>Q (.returned (.tuple #[vb a,vt r1])) I2 F2) (Q (.returned (.tuple #[vb a,vt false])) I F)) (It (o==10) (It (a==b) (cy P 139 #[vb a] I (·) F vt fun r2 I3 F3=>Q (.returned (.tuple #[vb a,vt r2])) I3 F3) (Q (.returned (.tuple #[vb a,vt false])) I F)) (It (o==4) (It (a==b) (cy P 139 #[vb a] I (·) F vt fun r3 I4 F4=>Q (.returned (.tuple #[vb a,vt r3])) I4 F4) (Q (.returned (.tuple #[vb a,vt false])) I F)) (It (o==5) (It (a==b) (cy P 139 #[vb a] I (·) F vt fun r4 I5 F5=>Q (.returned (.tuple #[vb a,vt r4])) I5 F5) (Q (.returned (.tuple #[vb a,vt false])) I F)) (It (o==8) (cy P 155 #[vb a,vb b] I (·) F vb fun r5 I6 F6=>Q (.returned (.tuple #[vb r5,vt (r5 != 0)])) I6 F6) (It (o==9) (cy P 156 #[vb a,vb b] I (·) F vb fun r6 I7 F7=>Q (.returned (.tuple #[vb r6,vt (r6 != 0)])) I7 F7) (It (o==11) (Q (.returned (.tuple #[vb 5,vt (a==b)])) I F) (It (o==12) (Q (.returned (.tuple #[vb 5,vt (a==b)])) I F) (It (o==17) (It (a==b) (Q (.returned (.tuple #[vb 5,vt (a==5)])) I F) (Q (.returned (.tuple #[vb 5,vt false])) I F)) (It (o==18) (It (a==b) (Q (.returned (.tuple #[vb 5,vt (a==5)])) I F) (Q (.returned (.tuple #[vb 5,vt false])) I F)) (It (a==b) (cy P 139 #[vb a] I (·) F vt fun r7 I8 F8=>Q (.returned (.tuple #[vb 5,vt r7])) I8 F8) (Q (.returned (.tuple #[vb 5,vt false])) I F)))))))))))))
theorem pV.vc{o a b:Int}{I:cc}{F:b8}{Q:cd}  (h:pV.V (.int .u8) .bool o a b I F Q):cf P 140 #[.int .u8 o,.int .u8 a,.int .u8 b] I F Q :=
 tw (A:=(an [3000,4000,5000,6000,7000,8001,9000,12000,15000,16000,18000,19000,20000,21000] [139,155,156] gM)) [139,155,156] func140 h
def oc.V(a c:Nat→Nat×Obj)(vb:Int→Value)(vt:Bool→Value)(al:Bs)(i:OA)(j p:Nat)(q:OA)(s t:Nat)(u:OA)(v w:Nat)(f k x aq l:Int)(am:Bs)(an:OA)(ao ap:Nat)(ar:Int)(h:OA)(g au:Nat)(I:cc)(F:b8)(Q:cd)  : Prop:=∀d:Nat,∀e:Nat,(It (f==1) (Q (.returned (.tuple #[vb x,vt true])) I F) (It (f==2) (∃(r:Int),(cf P 77 #[.agg #[.string al,.slice i j p,.slice q s t,.slice u v w],.string am] I ((c d)::(a e)::F) fun e1 I1 G1=>e1=.returned (.int .i64 r)∧List.Perm G1 ((c d)::(a e)::F))∧((0≤r∧r<(j:Int))∧∃ad:Addr,i=some ad∧∃(m:Int),Rd I ((c d)::(a e)::F) ((ad.add (Int.toNat r*11)).add 1) [vb m]∧Q (.returned (.tuple #[vb m,vt true])) I F)) (It (f==3) (∀(b:Nat) (I2:cc),cc.le I I2→I2 b=some (Obj.cells #[vb 3,vb 3,vb 3,vb 2,vb 4,vb 2] 24 (0,0))→((0≤(IntKind.wrap .u8 (l-1))∧(IntKind.wrap .u8 (l-1))<(6:Int))∧∃ab:Addr,some ⟨b,0,none⟩=some ab∧∃(m1:Int),Rd I2 ((c d)::(a e)::F) (ab.add (Int.toNat (IntKind.wrap .u8 (l-1))*1)) [vb m1]∧Q (.returned (.tuple #[vb m1,vt true])) I2 F)) (It (f==4) (Q (.returned (.tuple #[vb 5,vt true])) I F) (It (f==7) ((0≤(1:Int)∧(1:Int)<(g:Int))∧∃ac:Addr,h=some ac∧∃(m2:Int),Rd I ((c d)::(a e)::F) (ac.add (Int.toNat 1*1)) [vb m2]∧((0≤(0:Int)∧(0:Int)<(g:Int))∧∃ae:Addr,h=some ae∧∃(m3:Int),Rd I ((c d)::(a e)::F) (ae.add (Int.toNat 0*1)) [vb m3]∧(It (m3==5) ((0≤(1:Int)∧(1:Int)<(g:Int))∧∃af:Addr,h=some af∧∃(m4:Int),Rd I ((c d)::(a e)::F) (af.add (Int.toNat 1*1)) [vb m4]∧((0≤(2:Int)∧(2:Int)<(g:Int))∧∃ag:Addr,h=some ag∧∃(m5:Int),Rd I ((c d)::(a e)::F) (ag.add (Int.toNat 2*1)) [vb m5]∧Q (.returned (.tuple #[vb m2,vt (m4==m5)])) I F)) (Q (.returned (.tuple #[vb m2,vt false])) I F)))) (It (f==9) ((0≤(0:Int)∧(0:Int)<(g:Int))∧∃ah:Addr,h=some ah∧∃(m6:Int),Rd I ((c d)::(a e)::F) (ah.add (Int.toNat 0*1)) [vb m6]∧∃(r1:Bool),(cf P 139 #[vb m6] I ((c d)::(a e)::F) fun e2 I3 G2=>e2=.returned (vt r1)∧List.Perm G2 ((c d)::(a e)::F))∧Q (.returned (.tuple #[vb x,vt r1])) I F) (It ((g:Int)==2) ((0≤(0:Int)∧(0:Int)<(g:Int))∧∃ai:Addr,h=some ai∧∃(m7:Int),Rd I ((c d)::(a e)::F) (ai.add (Int.toNat 0*1)) [vb m7]∧((0≤(1:Int)∧(1:Int)<(g:Int))∧∃aj:Addr,h=some aj∧∃(m8:Int),Rd I ((c d)::(a e)::F) (aj.add (Int.toNat 1*1)) [vb m8]∧∃(r0:Int) (y:Bool),(cf P 140 #[vb k,vb m7,vb m8] I ((c d)::(a e)::F) fun e3 I4 G3=>e3=.returned (.tuple #[vb r0,vt y])∧List.Perm G3 ((c d)::(a e)::F))∧Q (.returned (.tuple #[vb r0,vt y])) I F)) (It (k==2) ((0≤(0:Int)∧(0:Int)<(g:Int))∧∃ak:Addr,h=some ak∧∃(m9:Int),Rd I ((c d)::(a e)::F) (ak.add (Int.toNat 0*1)) [vb m9]∧Q (.returned (.tuple #[vb 5,vt (m9==5)])) I F) ((0≤(0:Int)∧(0:Int)<(g:Int))∧∃n:Addr,h=some n∧∃(z:Int),Rd I ((c d)::(a e)::F) (n.add (Int.toNat 0*1)) [vb z]∧((0≤(0:Int)∧(0:Int)<(g:Int))∧∃o:Addr,h=some o∧∃(aa:Int),Rd I ((c d)::(a e)::F) (o.add (Int.toNat 0*1)) [vb aa]∧∃(r2:Bool),(cf P 139 #[vb aa] I ((c d)::(a e)::F) fun e4 I5 G4=>e4=.returned (vt r2)∧List.Perm G4 ((c d)::(a e)::F))∧Q (.returned (.tuple #[vb z,vt r2])) I F))))))))))
theorem oc.vc{o:Bs}{a:OA}{c d:Nat}{e:OA}{f g:Nat}{i:OA}{j k:Nat}{p q r s t:Int}{u:Bs}{l:OA}{m n:Nat}{v:Int}{w:OA}{x y:Nat}{I:cc}{F:b8}{Q:cd}  (h:oc.V (fun b=>(b,Obj.cells #[.int .u8 p,.int .u8 q,.int .u8 r,.int .i64 s,.int .u8 t,.string u,.slice l m n,.int .i64 v] 28 (0,0))) (fun b=>(b,Obj.cells #[.string o,.slice a c d,.slice e f g,.slice i j k] 39 (0,0))) (.int .u8) .bool o a c d e f g i j k p q r s t u l m n v w x y I F Q):cf P 116 #[.agg #[.string o,.slice a c d,.slice e f g,.slice i j k],.agg #[.int .u8 p,.int .u8 q,.int .u8 r,.int .i64 s,.int .u8 t,.string u,.slice l m n,.int .i64 v],.slice w x y] I F Q :=
 tw (A:=(cK [2000,4000,6000,8000,10000,11006,12000,14002,16002] [] [77,139,140] gM [] [7000] [] [] [] [] [])) [77,139,140] func116 h
def lM.V(ka:Nat→Int→Int→Bool→Nat×Obj)(kb:Int→Int→Bool→Value)(e f:Nat→Nat×Obj)(nV:Int→Int→Int→Int→Int→Bs→OA→Nat→Nat→Int→Value)(vb vi:Int→Value)(vs:Bs→Value)(vl:OA→Nat→Nat→Value)(vt:Bool→Value)(aj:Bs)(k:OA)(l n:Nat)(o:OA)(p q:Nat)(s:OA)(t u:Nat)(ao aE aF aG aH:Int)(aq:Bs)(ab:OA)(w ap:Nat)(ak:Int)(I:cc)(F:b8)(Q:cd)(Inv8:Int→OA→Nat→Nat→Int→Int→Int→Bool→Nat→cc→b8→Prop):Prop:=∀g:Nat,∀h:Nat,∀b:Nat,(∃m:Nat,Inv8 0 none 0 0 0 0 0 false m I F)∧∀(x:Int) (al:OA) (am an:Nat) (i a c:Int) (d:Bool) (m1:Nat) (I1:cc) (F1:b8),cc.le I I1→Inv8 x al am an i a c d m1 I1 F1→(Dt (i<(w:Int)) ((0≤i∧i<(w:Int))∧∃ad:Addr,ab=some ad∧∃(ar au av aw ax:Int) (ay:Bs) (ac:OA) (ae af:Nat) (az:Int),Rd I1 ((f g)::(e h)::(ka b a c d)::F1) (ad.add (Int.toNat i*8)) [vb ar,vb au,vb av,vi aw,vb ax,vs ay,vl ac ae af,vi az]∧(dg P 78 #[.agg #[vs aj,vl k l n,vl o p q,vl s t u],nV ar au av aw ax ay ac ae af az] I1 ((f g)::(e h)::(ka b a c d)::·) F1 fun e1 I2 G1=>∃(r0 y ag:Int) (ah:Bool),e1=.returned (.tuple #[vb r0,(kb y ag ah)])∧G1 fun F2=>∀aO:Nat,(It (y != 0) (Q (.returned (.tuple #[vb 0,(kb y ag ah)])) I2 F2) (∀(b1:Nat) (I3:cc),cc.le I2 I3→I3 b1=some (Obj.cells #[vb r0] 24 (0,0))→cF P (Builtin.append_ #[186,186] 186 #[vl al am an,vl (some ⟨b1,0,none⟩) 1 1]) I3 ((f g)::(e h)::(ka b a c d)::(ka aO y ag ah)::F2) fun v I4 G2=>∃(aI:OA) (aJ aK:Nat),v=vl aI aJ aK∧∃F3:b8,List.Perm G2 ((f g)::(e h)::(ka b a c d)::(ka aO y ag ah)::F3)∧(∃m2:Nat,m2<m1∧Inv8 x aI aJ aK (IntKind.wrap .i64 (i+1)) a c d m2 I4 F3))))∧(∀ai:Nat,dg P 78 #[.agg #[vs aj,vl k l n,vl o p q,vl s t u],nV ar au av aw ax ay ac ae af az] I1 ((f g)::(e h)::(ka b a c d)::(ka ai 0 0 false)::·) F1 fun e2 I5 G3=>∃(aL j z:Int) (aa:Bool),e2=.returned (.tuple #[vb aL,(kb j z aa)])∧G3 fun F4=>(It (j != 0) (Q (.returned (.tuple #[vb 0,(kb j z aa)])) I5 F4) (∀(b2:Nat) (I6:cc),cc.le I5 I6→I6 b2=some (Obj.cells #[vb aL] 24 (0,0))→cF P (Builtin.append_ #[186,186] 186 #[vl al am an,vl (some ⟨b2,0,none⟩) 1 1]) I6 ((f g)::(e h)::(ka b a c d)::(ka ai j z aa)::F4) fun v1 I7 G4=>∃(aA:OA) (aB aC:Nat),v1=vl aA aB aC∧∃F5:b8,List.Perm G4 ((f g)::(e h)::(ka b a c d)::(ka ai j z aa)::F5)∧(∃m3:Nat,m3<m1∧Inv8 x aA aB aC (IntKind.wrap .i64 (i+1)) a c d m3 I7 F5))))) (It (ao==2) (cy P 77 #[.agg #[vs aj,vl k l n,vl o p q,vl s t u],vs aq] I1 ((f g)::(e h)::(ka b a c d)::·) F1 vi fun r I8 F6=>(Dt (r<0) (Q (.returned (.tuple #[vb 0,(kb 151 ak true)])) I8 F6) (dg P 116 #[.agg #[vs aj,vl k l n,vl o p q,vl s t u],nV ao aE aF aG aH aq ab w ap ak,vl al am an] I8 ((f g)::(e h)::(ka b a c d)::·) F6 fun e4 I9 G6=>∃(aM:Int) (r1:Bool),e4=.returned (.tuple #[vb aM,vt r1])∧G6 fun F7=>(It (!r1) (Q (.returned (.tuple #[vb 0,(kb 152 ak true)])) I9 F7) (Q (.returned (.tuple #[vb aM,(kb 0 0 false)])) I9 F7))))) (dg P 116 #[.agg #[vs aj,vl k l n,vl o p q,vl s t u],nV ao aE aF aG aH aq ab w ap ak,vl al am an] I1 ((f g)::(e h)::(ka b a c d)::·) F1 fun e5 I10 G7=>∃(aN:Int) (aD:Bool),e5=.returned (.tuple #[vb aN,vt aD])∧G7 fun F8=>(It (!aD) (Q (.returned (.tuple #[vb 0,(kb 152 ak true)])) I10 F8) (Q (.returned (.tuple #[vb aN,(kb 0 0 false)])) I10 F8)))))
theorem lM.vc{z:Bs}{d:OA}{e g:Nat}{i:OA}{j p:Nat}{r:OA}{u v:Nat}{aa ab ac ad ae:Int}{af:Bs}{w:OA}{x y:Nat}{ag:Int}{I:cc}{F:b8}{Q:cd}(Inv8:Int→OA→Nat→Nat→Int→Int→Int→Bool→Nat→cc→b8→Prop)(h:lM.V (fun W a b c=>(W,Obj.cells #[.int .i64 a,.int .i64 b,.bool c] 51 (0,0))) (fun a b c=>.agg #[.int .i64 a,.int .i64 b,.bool c]) (fun b=>(b,Obj.cells #[.int .u8 aa,.int .u8 ab,.int .u8 ac,.int .i64 ad,.int .u8 ae,.string af,.slice w x y,.int .i64 ag] 28 (0,0))) (fun b=>(b,Obj.cells #[.string z,.slice d e g,.slice i j p,.slice r u v] 39 (0,0))) (fun k o t n f s a l c q=>.agg #[.int .u8 k,.int .u8 o,.int .u8 t,.int .i64 n,.int .u8 f,.string s,.slice a l c,.int .i64 q]) (.int .u8) (.int .i64) .string .slice .bool z d e g i j p r u v aa ab ac ad ae af w x y ag I F Q Inv8):cf P 78 #[.agg #[.string z,.slice d e g,.slice i j p,.slice r u v],.agg #[.int .u8 aa,.int .u8 ab,.int .u8 ac,.int .i64 ad,.int .u8 ae,.string af,.slice w x y,.int .i64 ag]] I F Q :=
 tw (A:=(cK [3004,6002,9002,9008,12001] [] [77,78,116] gM [(8,⟨[(4,(.int .u8)),(6,.slc),(7,(.int .i64))],[(2,[(.int .i64),(.int .i64),.bool])],fun _ _ _ vs m I F=>match vs with | [.int _ y0,.slice y1 y2 y3,.int _ y4,.int _ y5,.int _ y6,.bool y7]=>Inv8 y0 y1 y2 y3 y4 y5 y6 y7 m I F | _=>False,[],[]⟩)] [8002] [] [] [] [(5,[1,3,0,2,4,5]),(7,[1,0,2]),(10,[0,3,1,2,4]),(13,[0,3,1,2,4])] [] [(5,6,10,[7,8,9,10,11,12],[6,7,8,9,11,12])])) [77,78,116] func78 h
def sg.V(a c:Nat→Nat×Obj)(nV:Int→Int→Int→Int→Int→Bs→OA→Nat→Nat→Int→Value)(vi:Int→Value)(vt:Bool→Value)(ac:Bs)(l:OA)(m n:Nat)(o:OA)(p q:Nat)(s:OA)(t u:Nat)(v w x y z:Int)(aa:Bs)(d:OA)(e f:Nat)(ab:Int)(I:cc)(F:b8)(Q:cd)  : Prop:=∀g:Nat,∀h:Nat,∀b:Nat,cy P 137 #[nV v w x y z aa d e f ab] I ((c g)::(a h)::(b,Obj.cells #[vi 0,vi 0,vt false] 51 (0,0))::·) F vi fun r I1 F1=>(It (r != 0) (Q (.returned (.tuple #[.int .u8 0,.agg #[vi r,vi 0,vt true]])) I1 F1) (dg P 78 #[.agg #[.string ac,.slice l m n,.slice o p q,.slice s t u],nV v w x y z aa d e f ab] I1 ((c g)::(a h)::(b,Obj.cells #[vi 0,vi 0,vt false] 51 (0,0))::·) F1 fun e2 I2 G2=>∃(r0 i j:Int) (k:Bool),e2=.returned (.tuple #[.int .u8 r0,.agg #[vi i,vi j,vt k]])∧G2 fun F2=>Q (.returned (.tuple #[.int .u8 r0,.agg #[vi i,vi j,vt k]])) I2 F2))
theorem sg.vc{y:Bs}{d:OA}{e g:Nat}{i:OA}{j m:Nat}{p:OA}{r u:Nat}{z aa ab ac ad:Int}{ae:Bs}{v:OA}{w x:Nat}{af:Int}{I:cc}{F:b8}{Q:cd}  (h:sg.V (fun b=>(b,Obj.cells #[.int .u8 z,.int .u8 aa,.int .u8 ab,.int .i64 ac,.int .u8 ad,.string ae,.slice v w x,.int .i64 af] 28 (0,0))) (fun b=>(b,Obj.cells #[.string y,.slice d e g,.slice i j m,.slice p r u] 39 (0,0))) (fun k o t n f s a l c q=>.agg #[.int .u8 k,.int .u8 o,.int .u8 t,.int .i64 n,.int .u8 f,.string s,.slice a l c,.int .i64 q]) (.int .i64) .bool y d e g i j m p r u z aa ab ac ad ae v w x af I F Q):cf P 117 #[.agg #[.string y,.slice d e g,.slice i j m,.slice p r u],.agg #[.int .u8 z,.int .u8 aa,.int .u8 ab,.int .i64 ac,.int .u8 ad,.string ae,.slice v w x,.int .i64 af]] I F Q :=
 tw (A:=(an [2001] [78,137] gM)) [78,137] func117 h
def lN.V(ka:Nat→Int→Int→Bool→Nat×Obj)(d:Nat→Nat×Obj)(vb vi:Int→Value)(vs:Bs→Value)(vl:OA→Nat→Nat→Value)(vt:Bool→Value)(am:Bs)(s:OA)(f z:Nat)(g:OA)(a aa:Nat)(h:OA)(c ab:Nat)(I:cc)(F:b8)(Q:cd)(Inv6:Int→Int→Int→Bool→Nat→cc→b8→Prop)(Inv39:Int→Int→Int→Bool→Nat→cc→b8→Prop)(Inv60:Int→Int→Int→Bool→Nat→cc→b8→Prop):Prop:=∀e:Nat,∀b:Nat,(∃m:Nat,Inv6 0 0 0 false m I F)∧∀(i w x:Int) (y:Bool) (m1:Nat) (I1:cc) (F1:b8),cc.le I I1→Inv6 i w x y m1 I1 F1→(Dt (i<(f:Int)) ((0≤i∧i<(f:Int))∧∃ad:Addr,s=some ad∧∃(ae:Bs) (ac af ag ah ai aj:Int) (ak:Bs) (j:OA) (k l:Nat) (al n:Int),Rd I1 ((d e)::(ka b w x y)::F1) (ad.add (Int.toNat i*11)) [vs ae,vb ac,vb af,vb ag,vb ah,vi ai,vb aj,vs ak,vl j k l,vi al,vi n]∧∀an:Nat,cy P 77 #[.agg #[vs am,vl s f z,vl g a aa,vl h c ab],vs ae] I1 ((d e)::(ka b w x y)::(an,Obj.cells #[vs ae,vb ac,vb af,vb ag,vb ah,vi ai,vb aj,vs ak,vl j k l,vi al,vi n] 77 (0,0))::·) F1 vi fun r I2 F2=>(Dt (r<i) (Q (.returned (.agg #[vi 150,vi n,vt false])) I2 F2) (dg P 78 #[.agg #[vs am,vl s f z,vl g a aa,vl h c ab],.agg #[vb af,vb ag,vb ah,vi ai,vb aj,vs ak,vl j k l,vi al]] I2 ((d e)::(ka b w x y)::(an,Obj.cells #[vs ae,vb ac,vb af,vb ag,vb ah,vi ai,vb aj,vs ak,vl j k l,vi al,vi n] 77 (0,0))::·) F2 fun e2 I3 G2=>∃(r0 ax ay:Int) (az:Bool),e2=.returned (.tuple #[vb r0,.agg #[vi ax,vi ay,vt az]])∧G2 fun F3=>∀aA:Nat,(It (r0 != ac) (Q (.returned (.agg #[vi 152,vi n,vt false])) I3 F3) (∃m2:Nat,m2<m1∧Inv6 (IntKind.wrap .i64 (i+1)) w x y m2 I3 F3))))) ((∃m3:Nat,Inv39 0 w x y m3 I1 F1)∧∀(i1 o p:Int) (q:Bool) (m4:Nat) (I4:cc) (F4:b8),cc.le I1 I4→Inv39 i1 o p q m4 I4 F4→(Dt (i1<(a:Int)) ((0≤i1∧i1<(a:Int))∧∃aq:Addr,g=some aq∧∃(m5:Bs),Rd I4 ((d e)::(ka b o p q)::F4) ((aq.add (Int.toNat i1*2)).add 0) [vs m5]∧∃(r1:Int),(cf P 79 #[.agg #[vs am,vl s f z,vl g a aa,vl h c ab],vs m5] I4 ((d e)::(ka b o p q)::F4) fun e3 I5 G3=>e3=.returned (vi r1)∧List.Perm G3 ((d e)::(ka b o p q)::F4))∧(Dt (r1<i1) ((0≤i1∧i1<(a:Int))∧∃ar:Addr,g=some ar∧∃(m6:Int),Rd I4 ((d e)::(ka b o p q)::F4) ((ar.add (Int.toNat i1*2)).add 1) [vi m6]∧Q (.returned (.agg #[vi 150,vi m6,vt false])) I4 F4) (∃m7:Nat,m7<m4∧Inv39 (IntKind.wrap .i64 (i1+1)) o p q m7 I4 F4))) ((∃m8:Nat,Inv60 0 o p q m8 I4 F4)∧∀(i2 t u:Int) (v:Bool) (m9:Nat) (I6:cc) (F5:b8),cc.le I4 I6→Inv60 i2 t u v m9 I6 F5→(Dt (i2<(c:Int)) ((0≤i2∧i2<(c:Int))∧∃au:Addr,h=some au∧∃(ao:Bs),Rd I6 ((d e)::(ka b t u v)::F5) ((au.add (Int.toNat i2*3)).add 0) [vs ao]∧∃(r2:Int),(cf P 80 #[.agg #[vs am,vl s f z,vl g a aa,vl h c ab],vs ao] I6 ((d e)::(ka b t u v)::F5) fun e4 I7 G4=>e4=.returned (vi r2)∧List.Perm G4 ((d e)::(ka b t u v)::F5))∧(Dt (r2<i2) ((0≤i2∧i2<(c:Int))∧∃av:Addr,h=some av∧∃(ap:Int),Rd I6 ((d e)::(ka b t u v)::F5) ((av.add (Int.toNat i2*3)).add 2) [vi ap]∧Q (.returned (.agg #[vi 150,vi ap,vt false])) I6 F5) (∃aw:Nat,aw<m9∧Inv60 (IntKind.wrap .i64 (i2+1)) t u v aw I6 F5))) (Q (.returned (.agg #[vi 0,vi 0,vt false])) I6 F5))))))
theorem lN.vc{o:Bs}{d:OA}{e f:Nat}{g:OA}{i j:Nat}{k:OA}{l n:Nat}{I:cc}{F:b8}{Q:cd}(Inv6:Int→Int→Int→Bool→Nat→cc→b8→Prop)(Inv39:Int→Int→Int→Bool→Nat→cc→b8→Prop)(Inv60:Int→Int→Int→Bool→Nat→cc→b8→Prop)(h:lN.V (fun W a b c=>(W,Obj.cells #[.int .i64 a,.int .i64 b,.bool c] 51 (0,0))) (fun b=>(b,Obj.cells #[.string o,.slice d e f,.slice g i j,.slice k l n] 39 (0,0))) (.int .u8) (.int .i64) .string .slice .bool o d e f g i j k l n I F Q Inv6 Inv39 Inv60):cf P 48 #[.agg #[.string o,.slice d e f,.slice g i j,.slice k l n]] I F Q :=
 tw (A:=(cK [2004,5005,8003,11004,13009,16004,18009] [] [77,78,79,80] gM [(6,⟨[(3,(.int .i64))],[(1,[(.int .i64),(.int .i64),.bool])],fun _ _ _ vs m I F=>match vs with | [.int _ y0,.int _ y1,.int _ y2,.bool y3]=>Inv6 y0 y1 y2 y3 m I F | _=>False,[],[]⟩),(39,⟨[(7,(.int .i64))],[(1,[(.int .i64),(.int .i64),.bool])],fun _ _ _ vs m I F=>match vs with | [.int _ y0,.int _ y1,.int _ y2,.bool y3]=>Inv39 y0 y1 y2 y3 m I F | _=>False,[],[]⟩),(60,⟨[(8,(.int .i64))],[(1,[(.int .i64),(.int .i64),.bool])],fun _ _ _ vs m I F=>match vs with | [.int _ y0,.int _ y1,.int _ y2,.bool y3]=>Inv60 y0 y1 y2 y3 m I F | _=>False,[],[]⟩)] [] [] [] [] [] [])) [77,78,79,80] func48 h
def og.V(nO:Int→Int→Int→Int→Int→Bs→OA→Nat→Nat→Int→Obj)(vb vi:Int→Value)(vs:Bs→Value)(vl:OA→Nat→Nat→Value)(vt:Bool→Value)(p:Bs)(a:OA)(c d:Nat)(e:OA)(f g:Nat)(h:OA)(i j:Nat)(q r s u v:Int)(w:Bs)(k:OA)(l m:Nat)(o t:Int)(I:cc)(F:b8)(Q:cd)  : Prop:=∀z:Nat,∀aa:Nat,∀b:Nat,dg P 117 #[.agg #[vs p,vl a c d,vl e f g,vl h i j],.agg #[vb q,vb r,vb s,vi u,vb v,vs w,vl k l m,vi o]] I ((z,Obj.cells #[vs p,vl a c d,vl e f g,vl h i j] 39 (0,0))::(aa,nO q r s u v w k l m o)::(b,Obj.cells #[vi 0,vi 0,vt false] 51 (0,0))::·) F fun e1 I1 G1=>∃(r0 n x:Int) (y:Bool),e1=.returned (.tuple #[vb r0,.agg #[vi n,vi x,vt y]])∧G1 fun F1=>∀ab:Nat,(It (n != 0) (Q (.returned (.agg #[vi n,vi x,vt y])) I1 F1) (It (r0 != t) (Q (.returned (.agg #[vi 152,vi o,vt false])) I1 F1) (Q (.returned (.agg #[vi 0,vi 0,vt false])) I1 F1)))
theorem og.vc{x:Bs}{b:OA}{d e:Nat}{g:OA}{i j:Nat}{m:OA}{p r:Nat}{y z aa ab ac:Int}{ad:Bs}{u:OA}{v w:Nat}{ae t:Int}{I:cc}{F:b8}{Q:cd}  (h:og.V (fun k o t n f s a l c q=>.cells #[.int .u8 k,.int .u8 o,.int .u8 t,.int .i64 n,.int .u8 f,.string s,.slice a l c,.int .i64 q] 28 (0,0)) (.int .u8) (.int .i64) .string .slice .bool x b d e g i j m p r y z aa ab ac ad u v w ae t I F Q):cf P 81 #[.agg #[.string x,.slice b d e,.slice g i j,.slice m p r],.agg #[.int .u8 y,.int .u8 z,.int .u8 aa,.int .i64 ab,.int .u8 ac,.string ad,.slice u v w,.int .i64 ae],.int .u8 t] I F Q :=
 tw (A:=(an [2002,4002] [117] gM)) [117] func81 h
def lP.V(vi:Int→Value)(vt:Bool→Value)(f:OA)(a l:Nat)(I:cc)(F:b8)(Q:cd)(Inv6:Int→Int→Int→Bool→Nat→cc→b8→Prop):Prop:=∀b:Nat,(∃m:Nat,Inv6 0 0 0 false m I F)∧∀(i c d:Int) (e:Bool) (m1:Nat) (I1:cc) (F1:b8),cc.le I I1→Inv6 i c d e m1 I1 F1→(Dt (i<(a:Int)) ((0≤i∧i<(a:Int))∧∃ad:Addr,f=some ad∧∃(m2:Int),Rd I1 ((b,Obj.cells #[vi c,vi d,vt e] 51 (0,0))::F1) ((ad.add (Int.toNat i*3)).add 0) [vi m2]∧(It (m2 != 0) ((0≤i∧i<(a:Int))∧∃k:Addr,f=some k∧∃(g h:Int) (j:Bool),Rd I1 ((b,Obj.cells #[vi c,vi d,vt e] 51 (0,0))::F1) (k.add (Int.toNat i*3)) [vi g,vi h,vt j]∧Q (.returned (.agg #[vi g,vi h,vt j])) I1 F1) (∃m3:Nat,m3<m1∧Inv6 (IntKind.wrap .i64 (i+1)) c d e m3 I1 F1))) (Q (.returned (.agg #[vi 0,vi 0,vt false])) I1 F1))
theorem lP.vc{a:OA}{b c:Nat}{I:cc}{F:b8}{Q:cd}(Inv6:Int→Int→Int→Bool→Nat→cc→b8→Prop)(h:lP.V (.int .i64) .bool a b c I F Q Inv6):cf P 118 #[.slice a b c] I F Q :=
 tw (A:=(cK [2003,4005] [] [] gM [(6,⟨[(3,(.int .i64))],[(0,[(.int .i64),(.int .i64),.bool])],fun _ _ _ vs m I F=>match vs with | [.int _ y0,.int _ y1,.int _ y2,.bool y3]=>Inv6 y0 y1 y2 y3 m I F | _=>False,[],[]⟩)] [] [] [] [] [] [])) [] func118 h
def si.V(ka:Nat→Int→Int→Bool→Nat×Obj)(kb:Bs→OA→Nat→Nat→OA→Nat→Nat→OA→Nat→Nat→Value)(kc:Int→Int→Bool→Value)(a c:Nat→Nat×Obj)(nV:Int→Int→Int→Int→Int→Bs→OA→Nat→Nat→Int→Value)(vb vi:Int→Value)(vs:Bs→Value)(vl:OA→Nat→Nat→Value)(vt:Bool→Value)(s:Bs)(g:OA)(h j:Nat)(k:OA)(l n:Nat)(o:OA)(p q:Nat)(f bn:Int)(x:Bs)(bE bF bG bH bI:Int)(bJ:Bs)(bk:OA)(bl bm:Nat)(bu au av aw ax ay:Int)(az:Bs)(ab:OA)(ac ae:Nat)(aA af ag ah ai aj:Int)(ak:Bs)(y:OA)(z aa:Nat)(al bv bw bx bz bA:Int)(bB:Bs)(aB:OA)(aC aD:Nat)(bC bD:Int)(I:cc)(F:b8)(Q:cd)(Inv4:Int→cc→b8→Prop)(Inv43:OA→Nat→Nat→cc→b8→Prop)(Inv49:OA→Nat→Nat→cc→b8→Prop)(Inv55:OA→Nat→Nat→cc→b8→Prop)(Inv61:OA→Nat→Nat→cc→b8→Prop):Prop:=∀d:Nat,∀e:Nat,∀b:Nat,((It (f==1) (It (!(x.toList==(⟨#[]⟩:Bs).toList)) (cy P 79 (#[(kb s g h j k l n o p q),vs x]) I ((c d)::(a e)::(ka b 0 0 false)::·) F vi fun r I1 F1=>Inv4 r I1 F1) (Inv4 0 I F)) (It (f==2) (cy P 79 (#[(kb s g h j k l n o p q),vs x]) I ((c d)::(a e)::(ka b 0 0 false)::·) F vi fun r1 I2 F2=>Inv4 r1 I2 F2) (It (f==3) (cy P 79 (#[(kb s g h j k l n o p q),vs x]) I ((c d)::(a e)::(ka b 0 0 false)::·) F vi fun r2 I3 F3=>Inv4 r2 I3 F3) (It (f==4) (cy P 77 (#[(kb s g h j k l n o p q),vs x]) I ((c d)::(a e)::(ka b 0 0 false)::·) F vi fun r3 I4 F4=>Inv4 r3 I4 F4) (It (f==5) (cy P 80 (#[(kb s g h j k l n o p q),vs x]) I ((c d)::(a e)::(ka b 0 0 false)::·) F vi fun r4 I5 F5=>Inv4 r4 I5 F5) (Inv4 0 I F)))))))∧∀(i:Int) (I6:cc) (F6:b8),cc.le I I6→Inv4 i I6 F6→(Dt (i<0) (Q (.returned ((kc 151 bD false))) I6 F6) (((It (f==1) (dg P 81 (#[(kb s g h j k l n o p q),nV bE bF bG bH bI bJ bk bl bm bu,vb 6]) I6 ((c d)::(a e)::(ka b 0 0 false)::·) F6 fun e6 I7 G6=>∃(bo bp:Int) (bq:Bool),e6=.returned ((kc bo bp bq))∧G6 fun F7=>∀(b1:Nat) (I8:cc),cc.le I7 I8→I8 b1=some (Obj.cells #[vi bo,vi bp,vt bq] 51 (0,0))→cF P (Builtin.append_ #[188,188] 188 #[vl none 0 0,vl (some ⟨b1,0,none⟩) 1 1]) I8 ((c d)::(a e)::(ka b 0 0 false)::F7) fun v I9 G7=>∃(br:OA) (bs bt:Nat),v=vl br bs bt∧∃F8:b8,List.Perm G7 ((c d)::(a e)::(ka b 0 0 false)::F8)∧Inv43 br bs bt I9 F8) (Inv43 none 0 0 I6 F6)))∧∀(ap:OA) (aq ar:Nat) (I10:cc) (F9:b8),cc.le I6 I10→Inv43 ap aq ar I10 F9→((It (f==1) (dg P 81 (#[(kb s g h j k l n o p q),nV au av aw ax ay az ab ac ae aA,vb 2]) I10 ((c d)::(a e)::(ka b 0 0 false)::·) F9 fun e7 I11 G8=>∃(aE aF:Int) (aG:Bool),e7=.returned ((kc aE aF aG))∧G8 fun F10=>∀(b2:Nat) (I12:cc),cc.le I11 I12→I12 b2=some (Obj.cells #[vi aE,vi aF,vt aG] 51 (0,0))→cF P (Builtin.append_ #[188,188] 188 #[vl ap aq ar,vl (some ⟨b2,0,none⟩) 1 1]) I12 ((c d)::(a e)::(ka b 0 0 false)::F10) fun v1 I13 G9=>∃(aH:OA) (aI aJ:Nat),v1=vl aH aI aJ∧∃F11:b8,List.Perm G9 ((c d)::(a e)::(ka b 0 0 false)::F11)∧Inv49 aH aI aJ I13 F11) (It (f==2) (dg P 81 (#[(kb s g h j k l n o p q),nV au av aw ax ay az ab ac ae aA,vb 2]) I10 ((c d)::(a e)::(ka b 0 0 false)::·) F9 fun e8 I14 G10=>∃(aK aL:Int) (aM:Bool),e8=.returned ((kc aK aL aM))∧G10 fun F12=>∀(b3:Nat) (I15:cc),cc.le I14 I15→I15 b3=some (Obj.cells #[vi aK,vi aL,vt aM] 51 (0,0))→cF P (Builtin.append_ #[188,188] 188 #[vl ap aq ar,vl (some ⟨b3,0,none⟩) 1 1]) I15 ((c d)::(a e)::(ka b 0 0 false)::F12) fun v2 I16 G11=>∃(aN:OA) (aO aP:Nat),v2=vl aN aO aP∧∃F13:b8,List.Perm G11 ((c d)::(a e)::(ka b 0 0 false)::F13)∧Inv49 aN aO aP I16 F13) (Inv49 ap aq ar I10 F9))))∧∀(t:OA) (u w:Nat) (I17:cc) (F14:b8),cc.le I10 I17→Inv49 t u w I17 F14→((It (f==1) (It (bn != 2) (dg P 81 (#[(kb s g h j k l n o p q),nV af ag ah ai aj ak y z aa al,vb 3]) I17 ((c d)::(a e)::(ka b 0 0 false)::·) F14 fun e9 I18 G12=>∃(aQ aR:Int) (aS:Bool),e9=.returned ((kc aQ aR aS))∧G12 fun F15=>∀(b4:Nat) (I19:cc),cc.le I18 I19→I19 b4=some (Obj.cells #[vi aQ,vi aR,vt aS] 51 (0,0))→cF P (Builtin.append_ #[188,188] 188 #[vl t u w,vl (some ⟨b4,0,none⟩) 1 1]) I19 ((c d)::(a e)::(ka b 0 0 false)::F15) fun v3 I20 G13=>∃(aT:OA) (aU aV:Nat),v3=vl aT aU aV∧∃F16:b8,List.Perm G13 ((c d)::(a e)::(ka b 0 0 false)::F16)∧Inv55 aT aU aV I20 F16) (It (f==2) (dg P 81 (#[(kb s g h j k l n o p q),nV af ag ah ai aj ak y z aa al,vb 3]) I17 ((c d)::(a e)::(ka b 0 0 false)::·) F14 fun bK I21 G14=>∃(aW aX:Int) (aY:Bool),bK=.returned ((kc aW aX aY))∧G14 fun F17=>∀(b5:Nat) (I22:cc),cc.le I21 I22→I22 b5=some (Obj.cells #[vi aW,vi aX,vt aY] 51 (0,0))→cF P (Builtin.append_ #[188,188] 188 #[vl t u w,vl (some ⟨b5,0,none⟩) 1 1]) I22 ((c d)::(a e)::(ka b 0 0 false)::F17) fun v4 I23 G15=>∃(aZ:OA) (a0 a1:Nat),v4=vl aZ a0 a1∧∃F18:b8,List.Perm G15 ((c d)::(a e)::(ka b 0 0 false)::F18)∧Inv55 aZ a0 a1 I23 F18) (Inv55 t u w I17 F14))) (It (f==2) (dg P 81 (#[(kb s g h j k l n o p q),nV af ag ah ai aj ak y z aa al,vb 3]) I17 ((c d)::(a e)::(ka b 0 0 false)::·) F14 fun bL I24 G16=>∃(a2 a3:Int) (a4:Bool),bL=.returned ((kc a2 a3 a4))∧G16 fun F19=>∀(b6:Nat) (I25:cc),cc.le I24 I25→I25 b6=some (Obj.cells #[vi a2,vi a3,vt a4] 51 (0,0))→cF P (Builtin.append_ #[188,188] 188 #[vl t u w,vl (some ⟨b6,0,none⟩) 1 1]) I25 ((c d)::(a e)::(ka b 0 0 false)::F19) fun v5 I26 G17=>∃(a5:OA) (a6 a7:Nat),v5=vl a5 a6 a7∧∃F20:b8,List.Perm G17 ((c d)::(a e)::(ka b 0 0 false)::F20)∧Inv55 a5 a6 a7 I26 F20) (Inv55 t u w I17 F14))))∧∀(am:OA) (an ao:Nat) (I27:cc) (F21:b8),cc.le I17 I27→Inv55 am an ao I27 F21→((It (f==4) ((0≤i∧i<(h:Int))∧∃ad:Addr,g=some ad∧∃(m:Int),Rd I27 ((c d)::(a e)::(ka b 0 0 false)::F21) ((ad.add (Int.toNat i*11)).add 1) [vb m]∧dg P 81 (#[(kb s g h j k l n o p q),nV bv bw bx bz bA bB aB aC aD bC,vb m]) I27 ((c d)::(a e)::(ka b 0 0 false)::·) F21 fun bM I28 G18=>∃(a8 a9:Int) (ba:Bool),bM=.returned ((kc a8 a9 ba))∧G18 fun F22=>∀(b7:Nat) (I29:cc),cc.le I28 I29→I29 b7=some (Obj.cells #[vi a8,vi a9,vt ba] 51 (0,0))→cF P (Builtin.append_ #[188,188] 188 #[vl am an ao,vl (some ⟨b7,0,none⟩) 1 1]) I29 ((c d)::(a e)::(ka b 0 0 false)::F22) fun v6 I30 G19=>∃(bb:OA) (bc bd:Nat),v6=vl bb bc bd∧∃F23:b8,List.Perm G19 ((c d)::(a e)::(ka b 0 0 false)::F23)∧Inv61 bb bc bd I30 F23) (Inv61 am an ao I27 F21)))∧∀(be:OA) (bf bg:Nat) (I31:cc) (F24:b8),cc.le I27 I31→Inv61 be bf bg I31 F24→dg P 118 #[vl be bf bg] I31 ((c d)::(a e)::(ka b 0 0 false)::·) F24 fun bN I32 G20=>∃(bh bi:Int) (bj:Bool),bN=.returned ((kc bh bi bj))∧G20 fun F25=>Q (.returned ((kc bh bi bj))) I32 F25))
theorem si.vc{aM:Bs}{ab:OA}{ac ad:Nat}{ae:OA}{af ag:Nat}{ah:OA}{ai aj:Nat}{aN aO:Int}{aP:Bs}{aQ aR aS aT aU:Int}{aV:Bs}{ak:OA}{al am:Nat}{an ao ap aq ar au:Int}{av:Bs}{p:OA}{r u:Nat}{aw ax ay az aA aB:Int}{aC:Bs}{v:OA}{w x:Nat}{aD aE aF aG aH aI:Int}{aJ:Bs}{y:OA}{z aa:Nat}{aK aL:Int}{I:cc}{F:b8}{Q:cd}(Inv4:Int→cc→b8→Prop)(Inv43:OA→Nat→Nat→cc→b8→Prop)(Inv49:OA→Nat→Nat→cc→b8→Prop)(Inv55:OA→Nat→Nat→cc→b8→Prop)(Inv61:OA→Nat→Nat→cc→b8→Prop)(h:si.V (fun W a b c=>(W,Obj.cells #[.int .i64 a,.int .i64 b,.bool c] 51 (0,0))) (fun a b c d e f g h i j=>.agg #[.string a,.slice b c d,.slice e f g,.slice h i j]) (fun a b c=>.agg #[.int .i64 a,.int .i64 b,.bool c]) (fun b=>(b,Obj.cells #[.int .u8 aN,.int .u8 aO,.string aP,.int .u8 aQ,.int .u8 aR,.int .u8 aS,.int .i64 aT,.int .u8 aU,.string aV,.slice ak al am,.int .i64 an,.int .u8 ao,.int .u8 ap,.int .u8 aq,.int .i64 ar,.int .u8 au,.string av,.slice p r u,.int .i64 aw,.int .u8 ax,.int .u8 ay,.int .u8 az,.int .i64 aA,.int .u8 aB,.string aC,.slice v w x,.int .i64 aD,.int .u8 aE,.int .u8 aF,.int .u8 aG,.int .i64 aH,.int .u8 aI,.string aJ,.slice y z aa,.int .i64 aK,.int .i64 aL] 99 (0,0))) (fun b=>(b,Obj.cells #[.string aM,.slice ab ac ad,.slice ae af ag,.slice ah ai aj] 39 (0,0))) (fun k o t n f s a l c q=>.agg #[.int .u8 k,.int .u8 o,.int .u8 t,.int .i64 n,.int .u8 f,.string s,.slice a l c,.int .i64 q]) (.int .u8) (.int .i64) .string .slice .bool aM ab ac ad ae af ag ah ai aj aN aO aP aQ aR aS aT aU aV ak al am an ao ap aq ar au av p r u aw ax ay az aA aB aC v w x aD aE aF aG aH aI aJ y z aa aK aL I F Q Inv4 Inv43 Inv49 Inv55 Inv61):cf P 82 #[.agg #[.string aM,.slice ab ac ad,.slice ae af ag,.slice ah ai aj],.agg #[.int .u8 aN,.int .u8 aO,.string aP,.int .u8 aQ,.int .u8 aR,.int .u8 aS,.int .i64 aT,.int .u8 aU,.string aV,.slice ak al am,.int .i64 an,.int .u8 ao,.int .u8 ap,.int .u8 aq,.int .i64 ar,.int .u8 au,.string av,.slice p r u,.int .i64 aw,.int .u8 ax,.int .u8 ay,.int .u8 az,.int .i64 aA,.int .u8 aB,.string aC,.slice v w x,.int .i64 aD,.int .u8 aE,.int .u8 aF,.int .u8 aG,.int .i64 aH,.int .u8 aI,.string aJ,.slice y z aa,.int .i64 aK,.int .i64 aL]] I F Q :=
 tw (A:=(cK [3000,4002,6000,7000,9000,11000,13001,16002,18002,18006,20002,20006,20011,22002] [] [77,79,80,81,118] gM [(4,⟨[(5,(.int .i64))],[],fun _ _ _ vs m I F=>match vs with | [.int _ y0]=>Inv4 y0 I F | _=>False,[],[]⟩),(43,⟨[(6,.slc)],[],fun _ _ _ vs m I F=>match vs with | [.slice y0 y1 y2]=>Inv43 y0 y1 y2 I F | _=>False,[],[]⟩),(49,⟨[(6,.slc)],[],fun _ _ _ vs m I F=>match vs with | [.slice y0 y1 y2]=>Inv49 y0 y1 y2 I F | _=>False,[],[]⟩),(55,⟨[(6,.slc)],[],fun _ _ _ vs m I F=>match vs with | [.slice y0 y1 y2]=>Inv55 y0 y1 y2 I F | _=>False,[],[]⟩),(61,⟨[(6,.slc)],[],fun _ _ _ vs m I F=>match vs with | [.slice y0 y1 y2]=>Inv61 y0 y1 y2 I F | _=>False,[],[]⟩)] [17005,19005,21005,23011] [] [] [] [(23,[0,2,4,6,5,7,8,1,3,9,10,11,12,13])] [] [] [(23,[5],14)])) [77,79,80,81,118] func82 h
def oh.V(ka:Nat→Int→Int→Bool→Nat×Obj)(aB aC:Nat→Nat×Obj)(vb vi:Int→Value)(vs:Bs→Value)(vl:OA→Nat→Nat→Value)(vt:Bool→Value)(a4:Bs)(aI:OA)(aJ aK:Nat)(aL:OA)(aM aN:Nat)(aO:OA)(aP aQ:Nat)(a6 a7 a8 a9 ba:Int)(bb:Bs)(a0:OA)(a1 a2:Nat)(bc:Int)(a3:OA)(z bd:Nat)(be:Int)(I:cc)(F:b8)(Q:cd)(Inv18:Bool→Int→Int→Int→Bool→Int→Int→Bool→Nat→cc→b8→Prop):Prop:=∀aD:Nat,∀aE:Nat,∀b:Nat,dg P 81 #[.agg #[vs a4,vl aI aJ aK,vl aL aM aN,vl aO aP aQ],.agg #[vb a6,vb a7,vb a8,vi a9,vb ba,vs bb,vl a0 a1 a2,vi bc],vb 5] I ((aC aD)::(aB aE)::(ka b 0 0 false)::·) F fun e1 I1 G1=>∃(t aF:Int) (aG:Bool),e1=.returned (.agg #[vi t,vi aF,vt aG])∧G1 fun F1=>∀aZ:Nat,(It (t != 0) (Q (.returned (.agg #[vi t,vi aF,vt aG])) I1 F1) ((∃m:Nat,Inv18 false 0 0 0 false t aF aG m I1 F1)∧∀(aH:Bool) (i w x:Int) (y:Bool) (n o:Int) (p:Bool) (m1:Nat) (I2:cc) (F2:b8),cc.le I1 I2→Inv18 aH i w x y n o p m1 I2 F2→(Dt (i<(z:Int)) ((0≤i∧i<(z:Int))∧∃ad:Addr,a3=some ad∧∃(u aR:Int) (aS:Bs) (aT aU aV aW aX:Int) (aY:Bs) (q:OA) (r s:Nat) (aa ab ac ae af ag:Int) (ah:Bs) (a:OA) (c d:Nat) (ai aj ak al am an:Int) (ao:Bs) (e:OA) (f g:Nat) (ap aq ar au av aw:Int) (ax:Bs) (h:OA) (j k:Nat) (ay v:Int),Rd I2 ((aC aD)::(aB aE)::(ka b w x y)::(ka aZ n o p)::F2) (ad.add (Int.toNat i*36)) [vb u,vb aR,vs aS,vb aT,vb aU,vb aV,vi aW,vb aX,vs aY,vl q r s,vi aa,vb ab,vb ac,vb ae,vi af,vb ag,vs ah,vl a c d,vi ai,vb aj,vb ak,vb al,vi am,vb an,vs ao,vl e f g,vi ap,vb aq,vb ar,vb au,vi av,vb aw,vs ax,vl h j k,vi ay,vi v]∧∀a5:Nat,(It aH (Q (.returned (.agg #[vi 153,vi v,vt false])) I2 F2) (dg P 82 #[.agg #[vs a4,vl aI aJ aK,vl aL aM aN,vl aO aP aQ],.agg #[vb u,vb aR,vs aS,vb aT,vb aU,vb aV,vi aW,vb aX,vs aY,vl q r s,vi aa,vb ab,vb ac,vb ae,vi af,vb ag,vs ah,vl a c d,vi ai,vb aj,vb ak,vb al,vi am,vb an,vs ao,vl e f g,vi ap,vb aq,vb ar,vb au,vi av,vb aw,vs ax,vl h j k,vi ay,vi v]] I2 ((aC aD)::(aB aE)::(ka b w x y)::(ka aZ n o p)::(a5,Obj.cells #[vb u,vb aR,vs aS,vb aT,vb aU,vb aV,vi aW,vb aX,vs aY,vl q r s,vi aa,vb ab,vb ac,vb ae,vi af,vb ag,vs ah,vl a c d,vi ai,vb aj,vb ak,vb al,vi am,vb an,vs ao,vl e f g,vi ap,vb aq,vb ar,vb au,vi av,vb aw,vs ax,vl h j k,vi ay,vi v] 99 (0,0))::·) F2 fun e2 I3 G2=>∃(l az:Int) (aA:Bool),e2=.returned (.agg #[vi l,vi az,vt aA])∧G2 fun F3=>(It (l != 0) (Q (.returned (.agg #[vi l,vi az,vt aA])) I3 F3) (It (u==5) (∃m2:Nat,m2<m1∧Inv18 true (IntKind.wrap .i64 (i+1)) w x y l az aA m2 I3 F3) (∃m3:Nat,m3<m1∧Inv18 (u==6) (IntKind.wrap .i64 (i+1)) w x y l az aA m3 I3 F3)))))) (Q (.returned (.agg #[vi 0,vi 0,vt false])) I2 F2))))
theorem oh.vc{u:Bs}{d:OA}{e f:Nat}{g:OA}{i j:Nat}{k:OA}{l n:Nat}{v w x y z:Int}{aa:Bs}{o:OA}{p q:Nat}{ab:Int}{r:OA}{s t:Nat}{ac:Int}{I:cc}{F:b8}{Q:cd}(Inv18:Bool→Int→Int→Int→Bool→Int→Int→Bool→Nat→cc→b8→Prop)(h:oh.V (fun W a b c=>(W,Obj.cells #[.int .i64 a,.int .i64 b,.bool c] 51 (0,0))) (fun b=>(b,Obj.cells #[.int .u8 v,.int .u8 w,.int .u8 x,.int .i64 y,.int .u8 z,.string aa,.slice o p q,.int .i64 ab,.slice r s t,.int .i64 ac] 84 (0,0))) (fun b=>(b,Obj.cells #[.string u,.slice d e f,.slice g i j,.slice k l n] 39 (0,0))) (.int .u8) (.int .i64) .string .slice .bool u d e f g i j k l n v w x y z aa o p q ab r s t ac I F Q Inv18):cf P 49 #[.agg #[.string u,.slice d e f,.slice g i j,.slice k l n],.agg #[.int .u8 v,.int .u8 w,.int .u8 x,.int .i64 y,.int .u8 z,.string aa,.slice o p q,.int .i64 ab,.slice r s t,.int .i64 ac]] I F Q :=
 tw (A:=(cK [2002,6004,9000,12002,14002] [] [81,82] gM [(18,⟨[(6,.bool),(7,(.int .i64))],[(2,[(.int .i64),(.int .i64),.bool]),(3,[(.int .i64),(.int .i64),.bool])],fun _ _ _ vs m I F=>match vs with | [.bool y0,.int _ y1,.int _ y2,.int _ y3,.bool y4,.int _ y5,.int _ y6,.bool y7]=>Inv18 y0 y1 y2 y3 y4 y5 y6 y7 m I F | _=>False,[],[]⟩)] [] [] [] [] [] [])) [81,82] func49 h
def lQ.V(ka:Nat→Int→Int→Bool→Nat×Obj)(g:Nat→Nat×Obj)(vb vi:Int→Value)(vs:Bs→Value)(vl:OA→Nat→Nat→Value)(vt:Bool→Value)(ae:Bs)(o:OA)(p q:Nat)(s:OA)(t u:Nat)(h:OA)(e v:Nat)(I:cc)(F:b8)(Q:cd)(Inv18:Int→Int→Int→Bool→Nat→cc→b8→cc→b8→Prop)(Inv30:Int→Int→Int→Int→Bool→Nat→cc→b8→cc→b8→Prop):Prop:=∀j:Nat,∀b:Nat,cy P 47 #[.agg #[vs ae,vl o p q,vl s t u,vl h e v]] I ((g j)::(ka b 0 0 false)::·) F vi fun r I1 F1=>(It (r != 0) (Q (.returned (.agg #[vi r,vi 0,vt false])) I1 F1) (dg P 48 #[.agg #[vs ae,vl o p q,vl s t u,vl h e v]] I1 ((g j)::(ka b 0 0 false)::·) F1 fun e2 I2 G2=>∃(al am:Int) (an:Bool),e2=.returned (.agg #[vi al,vi am,vt an])∧G2 fun F2=>∀w:Nat,(∃m:Nat,Inv18 0 al am an m I2 F2 I2 F2)∧∀(i f l:Int) (n:Bool) (m1:Nat) (I3:cc) (F3:b8),cc.le I2 I3→Inv18 i f l n m1 I2 F2 I3 F3→(Dt (i<(e:Int)) (It (f==0) ((∃m2:Nat,Inv30 i 0 f l n m2 I3 F3 I3 F3)∧∀(k a c:Int) (d:Bool) (m3:Nat) (I4:cc) (F4:b8),cc.le I3 I4→Inv30 i k a c d m3 I3 F3 I4 F4→((0≤i∧i<(e:Int))∧∃ad:Addr,h=some ad∧∃(aB:OA) (af aC:Nat),Rd I4 ((g j)::(ka b 0 0 false)::(ka w a c d)::F4) ((ad.add (Int.toNat i*3)).add 1) [vl aB af aC]∧(Dt (k<(af:Int)) (It (a==0) ((0≤i∧i<(e:Int))∧∃ay:Addr,h=some ay∧∃(ag:OA) (ah aA:Nat),Rd I4 ((g j)::(ka b 0 0 false)::(ka w a c d)::F4) ((ay.add (Int.toNat i*3)).add 1) [vl ag ah aA]∧((0≤k∧k<(ah:Int))∧∃az:Addr,ag=some az∧∃(ao ap aq ar au:Int) (av:Bs) (x:OA) (y z:Nat) (aw:Int) (aa:OA) (ab ac:Nat) (ax:Int),Rd I4 ((g j)::(ka b 0 0 false)::(ka w a c d)::F4) (az.add (Int.toNat k*10)) [vb ao,vb ap,vb aq,vi ar,vb au,vs av,vl x y z,vi aw,vl aa ab ac,vi ax]∧∃(ai aj:Int) (ak:Bool),(cf P 49 #[.agg #[vs ae,vl o p q,vl s t u,vl h e v],.agg #[vb ao,vb ap,vb aq,vi ar,vb au,vs av,vl x y z,vi aw,vl aa ab ac,vi ax]] I4 ((g j)::(ka b 0 0 false)::(ka w a c d)::F4) fun e3 I5 G3=>e3=.returned (.agg #[vi ai,vi aj,vt ak])∧List.Perm G3 ((g j)::(ka b 0 0 false)::(ka w a c d)::F4))∧(∃m4:Nat,m4<m3∧Inv30 i (IntKind.wrap .i64 (k+1)) ai aj ak m4 I3 F3 I4 F4))) (∃m5:Nat,m5<m1∧Inv18 (IntKind.wrap .i64 (i+1)) a c d m5 I2 F2 I4 F4)) (∃m6:Nat,m6<m1∧Inv18 (IntKind.wrap .i64 (i+1)) a c d m6 I2 F2 I4 F4)))) (Q (.returned (.agg #[vi f,vi l,vt n])) I3 F3)) (Q (.returned (.agg #[vi f,vi l,vt n])) I3 F3))))
theorem lQ.vc{o:Bs}{d:OA}{e f:Nat}{g:OA}{i j:Nat}{k:OA}{l n:Nat}{I:cc}{F:b8}{Q:cd}(Inv18:Int→Int→Int→Bool→Nat→cc→b8→cc→b8→Prop)(Inv30:Int→Int→Int→Int→Bool→Nat→cc→b8→cc→b8→Prop)(h:lQ.V (fun W a b c=>(W,Obj.cells #[.int .i64 a,.int .i64 b,.bool c] 51 (0,0))) (fun b=>(b,Obj.cells #[.string o,.slice d e f,.slice g i j,.slice k l n] 39 (0,0))) (.int .u8) (.int .i64) .string .slice .bool o d e f g i j k l n I F Q Inv18 Inv30):cf P 26 #[.agg #[.string o,.slice d e f,.slice g i j,.slice k l n]] I F Q :=
 tw (A:=(cK [2001,6004,6008,9008,9012] [] [47,48,49] gM [(18,⟨[(5,(.int .i64))],[(2,[(.int .i64),(.int .i64),.bool])],fun fs I0 F0 vs m I F=>match fs,vs with | [],[.int _ y0,.int _ y1,.int _ y2,.bool y3]=>Inv18 y0 y1 y2 y3 m I0 F0 I F | _,_=>False,[],[]⟩),(30,⟨[(6,(.int .i64))],[(2,[(.int .i64),(.int .i64),.bool])],fun fs I0 F0 vs m I F=>match fs,vs with | [.int _ y0],[.int _ y1,.int _ y2,.int _ y3,.bool y4]=>Inv30 y0 y1 y2 y3 y4 m I0 F0 I F | _,_=>False,[5],[]⟩)] [] [] [(11,11,[2])] [] [] [])) [47,48,49] func26 h
end Go.Lx
namespace Go.Lx
open Go.Vc
structure TF where
 e:Int
 pos:Int
 of:Bool
def sK:TF:=⟨0,0,false⟩
def TF.v(f:TF):Value:=.agg #[.int .i64 f.e,.int .i64 f.pos,.bool f.of]
def fC(t:Int):Bool:=decide (1≤t∧t≤4)
def js(nm:ByteArray):List ByteArray→Int→Int
 | [],_=>-1
 | x::r,i=>if x.toList==nm.toList then i else js nm r (i+1)
def cu.fG(s:cu)(nm:ByteArray):Int:=js nm (s.regs.map dh.name) 0
def cu.slot(s:cu)(nm:ByteArray):Int:=js nm (s.slots.map cx.name) 0
def cu.room(s:cu)(nm:ByteArray):Int:=js nm (s.states.map cq.name) 0
def cu.ko(s:cu)(i:Int):Int:=((s.regs[i.toNat]?).map dh.cO).getD 0
def fw(a b:Int):Int:=if a=1∧fC b then b else if b=1∧fC a then a else if a=3∧b=2∨a=2∧b=3 then 1 else 0
def rm(a b:Int):Int:=if fC a∧b=1 then a else if fC a∧a=b then 1 else 0
def jZ(o a b:Int):Int×Bool :=
 if o=6∨o=7∨o=10∨o=4∨o=5 then (a,a==b&&fC a)
 else if o=8 then (fw a b,fw a b != 0)
 else if o=9 then (rm a b,rm a b != 0)
 else if o=11∨o=12 then (5,a==b)
 else if o=17∨o=18 then (5,a==b&&a==5)
 else (5,a==b&&fC a)
def yD:List Int:=[3,3,3,2,4,2]
def iX(l:List Int)(i:Nat):Int:=(l[i]?).getD 0
def iY(s:cu)(x:Px)(l:List Int):Int×Bool :=
 if x.kind=1 then (x.cO,true)
 else if x.kind=2 then (s.ko (s.fG x.name),true)
 else if x.kind=3 then (iX yD (x.field-1).toNat,true)
 else if x.kind=4 then (5,true)
 else if x.kind=7 then (iX l 1,iX l 0==5&&iX l 1==iX l 2)
 else if x.kind=9 then (x.cO,fC (iX l 0))
 else if l.length=2 then jZ x.oper (iX l 0) (iX l 1)
 else if x.oper=2 then (5,iX l 0==5)
 else (iX l 0,fC (iX l 0))
def eA(s:cu)(x:Px)(l:List Int):Int×TF :=
 if x.kind=2∧s.fG x.name<0 then (0,⟨151,x.pos,true⟩) else if (iY s x l).2 then ((iY s x l).1,sK) else (0,⟨152,x.pos,true⟩)
mutual
def typed(s:cu):Px→Int×TF
 | .mk k o t n f nm l q=>if (fD s l).2.e≠0 then (0,(fD s l).2) else eA s (.mk k o t n f nm l q) (fD s l).1
def fD(s:cu):List Px→List Int×TF
 | []=>([],sK)
 | x::r=>if (typed s x).2.e≠0 then ([],(typed s x).2) else ((typed s x).1::(fD s r).1,(fD s r).2)
end
theorem Ap(s:cu)(x:Px):typed s x=if (fD s x.kids).2.e≠0 then (0,(fD s x.kids).2) else eA s x (fD s x.kids).1:=by cases x;rw[typed];rfl
theorem xQ{s:cu}:∀{l:List Px},(∀k∈l,(typed s k).2.e=0)→fD s l=(l.map fun k=>(typed s k).1,sK)
 | [],_=>by rw[fD];rfl
 | x::r,h=>by
   rw[fD,if_neg (by simpa using h x (List.mem_cons_self ..)),xQ fun k hk=>h k (List.mem_cons_of_mem _ hk)];rfl
theorem v9{s:cu}:∀{l:List Px} {i:Nat} {x:Px},(∀k∈l.take i,(typed s k).2.e=0)→l[i]? = some x→(typed s x).2.e≠0→(fD s l).2=(typed s x).2
 | y::r,0,x,_,hx,he=>by
   simp only[List.getElem?_cons_zero,Option.some.injEq] at hx
   subst hx
   rw[fD,if_pos he]
 | y::r,i+1,x,h,hx,he=>by
   rw[List.take_succ_cons] at h
   rw[fD,if_neg (by simpa using h y (List.mem_cons_self ..))]
   exact v9 (fun k hk=>h k (List.mem_cons_of_mem _ hk)) (by simpa using hx) he
def typeOf(s:cu)(x:Px):Int×TF:=if x.dj≠0 then (0,⟨x.dj,0,true⟩) else typed s x
def cX{α:Type}(f:α→TF):List α→TF
 | []=>sK
 | x::r=>if (f x).e≠0 then f x else cX f r
def ml(s:cu):List dh→Int→TF
 | [],_=>sK
 | r::l,i=>if s.fG r.name<i then ⟨150,r.pos,false⟩ else if (typed s r.init).1≠r.cO then ⟨152,r.pos,false⟩ else ml s l (i+1)
def mm(s:cu):List cx→Int→TF
 | [],_=>sK
 | r::l,i=>if s.slot r.name<i then ⟨150,r.pos,false⟩ else mm s l (i+1)
def j2(s:cu):List cq→Int→TF
 | [],_=>sK
 | r::l,i=>if s.room r.name<i then ⟨150,r.pos,false⟩ else j2 s l (i+1)
def eB(a b:TF):TF:=if a.e≠0 then a else b
def cu.named(s:cu):TF:=eB (ml s s.regs 0) (eB (mm s s.slots 0) (j2 s s.states 0))
def eZ(s:cu)(x:Px)(t:Int):TF:=if (typeOf s x).2.e≠0 then (typeOf s x).2 else if (typeOf s x).1≠t then ⟨152,x.pos,false⟩ else sK
def HV(s:cu)(d:dA):Int :=
 if d.kind=1 then (if d.name.toList=[] then 0 else s.slot d.name) else if d.kind=2∨d.kind=3 then s.slot d.name else if d.kind=4 then s.fG d.name else if d.kind=5 then s.room d.name else 0
def JG(s:cu)(d:dA):List TF :=
 (if d.kind=1 then [eZ s d.side 6] else [])++((if d.kind=1∨d.kind=2 then [eZ s d.qty 2] else [])++((if d.kind=1∧d.order≠2∨d.kind=2 then [eZ s d.price 3] else [])++(if d.kind=4 then [eZ s d.value (s.ko (HV s d))] else [])))
def C0(s:cu)(d:dA):TF:=if HV s d<0 then ⟨151,d.pos,false⟩ else cX id (JG s d)
def um(s:cu):List dA→Bool→TF
 | [],_=>sK
 | d::l,last=>if last then ⟨153,d.pos,false⟩ else if (C0 s d).e≠0 then C0 s d else um s l (decide (d.kind=5∨d.kind=6))
def fa(s:cu)(r:cD):TF:=eB (eZ s r.when 5) (um s r.dos false)
def cu.types(s:cu):TF:=if s.check≠0 then ⟨s.check,0,false⟩ else eB s.named (cX (fun x=>cX (fa s) x.rules) s.states)
theorem cf.clean{P:Program}{f:FuncId}{args:Array Value}{I:cc}{F:b8}{v:Value}(h:cf P f args I F fun e I' G=>e=.returned v∧∃H,G.Perm (H++F)):cf P f args I F (dS v F) :=
 h.keep fun e I' G w hl hs ⟨he,H,hp⟩=>⟨I',F,cc.le_refl _,(hs.perm hp).drop,he,rfl⟩
theorem gS(t:Int)(I:cc)(F:b8):cf P 139 #[.int .u8 t] I F (dS (.bool (fC t)) F):=by
 refine nY.vc ⟨fun h=>⟨?_,rfl⟩,fun h=>⟨?_,rfl⟩⟩<;>simp[fC] at h ⊢<;>omega
theorem oj{s:cw}(hl:s.regs.length≤1048576)(nm:ByteArray){I:cc}{F:b8}(hok:s.Ok I F):cf P 77 #[s.v,.string nm] I F (dS (.int .i64 (s.p.fG nm)) F):=by
 have hdef:s.p.fG nm=js nm (s.regs.map fun r=>r.name) 0:=by
  unfold cu.fG
  show js nm ((s.regs.map cH.p).map dh.name) 0=_
  rw[List.map_map];rfl
 refine pU.vc (fun x i m I' F'=>F'=F∧0≤i∧i≤s.regs.length∧m=(s.regs.length-i).toNat∧s.p.fG nm=js nm ((s.regs.drop i.toNat).map fun r=>r.name) i) ?_
 unfold pU.V
 intro b_s
 refine⟨⟨_,rfl,by omega,by omega,rfl,by rw[hdef];rfl⟩,fun x i m I1 F1 l1 ⟨gF,g0,g1,gm,ge⟩=>⟨fun hlt=>?_,fun hlt=>⟨?_,gF⟩⟩⟩
 ·subst gF
  have hlt:=of_decide_eq_true hlt
  obtain⟨ad,r,had,hr,hrd,hrm⟩:=dq.gj ((hok.mono l1 fun _ h=>h).cons (x:=(c6 b_s s))).regs g0 hlt
  obtain⟨hk,rfl⟩:=List.getElem?_eq_some_iff.1 hr
  rw[List.drop_eq_getElem_cons hk,List.map_cons,js] at ge
  refine⟨⟨g0,hlt⟩,ad,had,_,hrd.field (o:=0) rfl,fun h=>⟨?_,rfl⟩,fun h=>⟨(s.regs.length-(i+1)).toNat,by omega,rfl, ?_⟩⟩
  ·rw[ge,if_pos h]
  ·rw[cY (n:=i+1) (by omega)]
   refine⟨by omega,by omega,rfl, ?_⟩
   rw[ge,if_neg (by rw[h];exact Bool.false_ne_true),show (i+1).toNat=i.toNat+1 by omega]
 ·have hlt:=of_decide_eq_false hlt
  rw[ge,List.drop_eq_nil_of_le (by omega)];rfl
theorem lR{s:cw}(hl:s.slots.length≤1048576)(nm:ByteArray){I:cc}{F:b8}(hok:s.Ok I F):cf P 79 #[s.v,.string nm] I F (dS (.int .i64 (s.p.slot nm)) F):=by
 have hdef:s.p.slot nm=js nm (s.slots.map fun r=>r.name) 0:=by
  unfold cu.slot
  show js nm (s.slots.map cx.name) 0=_
  rfl
 refine nZ.vc (fun x i m I' F'=>F'=F∧0≤i∧i≤s.slots.length∧m=(s.slots.length-i).toNat∧s.p.slot nm=js nm ((s.slots.drop i.toNat).map fun r=>r.name) i) ?_
 unfold nZ.V
 intro b_s
 refine⟨⟨_,rfl,by omega,by omega,rfl,by rw[hdef];rfl⟩,fun x i m I1 F1 l1 ⟨gF,g0,g1,gm,ge⟩=>⟨fun hlt=>?_,fun hlt=>⟨?_,gF⟩⟩⟩
 ·subst gF
  have hlt:=of_decide_eq_true hlt
  obtain⟨ad,r,had,hr,hrd,hrm⟩:=dq.gj ((hok.mono l1 fun _ h=>h).cons (x:=(c6 b_s s))).slots g0 hlt
  obtain⟨hk,rfl⟩:=List.getElem?_eq_some_iff.1 hr
  rw[List.drop_eq_getElem_cons hk,List.map_cons,js] at ge
  refine⟨⟨g0,hlt⟩,ad,had,_,hrd.field (o:=0) rfl,fun h=>⟨?_,rfl⟩,fun h=>⟨(s.slots.length-(i+1)).toNat,by omega,rfl, ?_⟩⟩
  ·rw[ge,if_pos h]
  ·rw[cY (n:=i+1) (by omega)]
   refine⟨by omega,by omega,rfl, ?_⟩
   rw[ge,if_neg (by rw[h];exact Bool.false_ne_true),show (i+1).toNat=i.toNat+1 by omega]
 ·have hlt:=of_decide_eq_false hlt
  rw[ge,List.drop_eq_nil_of_le (by omega)];rfl
theorem sj{s:cw}(hl:s.states.length≤1048576)(nm:ByteArray){I:cc}{F:b8}(hok:s.Ok I F):cf P 80 #[s.v,.string nm] I F (dS (.int .i64 (s.p.room nm)) F):=by
 have hdef:s.p.room nm=js nm (s.states.map fun r=>r.name) 0:=by
  unfold cu.room
  show js nm ((s.states.map cg.p).map cq.name) 0=_
  rw[List.map_map];rfl
 refine lL.vc (fun x i m I' F'=>F'=F∧0≤i∧i≤s.states.length∧m=(s.states.length-i).toNat∧s.p.room nm=js nm ((s.states.drop i.toNat).map fun r=>r.name) i) ?_
 unfold lL.V
 intro b_s
 refine⟨⟨_,rfl,by omega,by omega,rfl,by rw[hdef];rfl⟩,fun x i m I1 F1 l1 ⟨gF,g0,g1,gm,ge⟩=>⟨fun hlt=>?_,fun hlt=>⟨?_,gF⟩⟩⟩
 ·subst gF
  have hlt:=of_decide_eq_true hlt
  obtain⟨ad,r,had,hr,hrd,hrm⟩:=dq.gj ((hok.mono l1 fun _ h=>h).cons (x:=(c6 b_s s))).states g0 hlt
  obtain⟨hk,rfl⟩:=List.getElem?_eq_some_iff.1 hr
  rw[List.drop_eq_getElem_cons hk,List.map_cons,js] at ge
  refine⟨⟨g0,hlt⟩,ad,had,_,hrd.field (o:=0) rfl,fun h=>⟨?_,rfl⟩,fun h=>⟨(s.states.length-(i+1)).toNat,by omega,rfl, ?_⟩⟩
  ·rw[ge,if_pos h]
  ·rw[cY (n:=i+1) (by omega)]
   refine⟨by omega,by omega,rfl, ?_⟩
   rw[ge,if_neg (by rw[h];exact Bool.false_ne_true),show (i+1).toNat=i.toNat+1 by omega]
 ·have hlt:=of_decide_eq_false hlt
  rw[ge,List.drop_eq_nil_of_le (by omega)];rfl
theorem Aq(a b:Int)(I:cc)(F:b8):cf P 155 #[.int .u8 a,.int .u8 b] I F (dS (.int .u8 (fw a b)) F):=by
 refine jz.vc ?_
 unfold jz.V
 have hn:∀(t:Int) (J:cc) {Q:Ending→cc→b8→Prop},(∀J',Q (.returned (.bool (fC t))) J' F)→cf P 139 #[.int .u8 t] J F Q:=fun t J Q h=>cf.ret (gS t J F) fun J' _=>h J'
 repeat' (first
  | (with_reducible apply And.intro)
  | (refine hn _ _ fun J'=>⟨_,rfl,F,.refl _, ?_⟩)
  | (with_reducible intro h))
 all_goals first
  | rfl
  | (simp only[beq_iff_eq,beq_eq_false_iff_ne,ne_eq] at *;unfold fw;simp_all [dS];done)
  | (simp only[beq_iff_eq,beq_eq_false_iff_ne,ne_eq] at *;unfold fw;simp_all [dS,fC];done)
  | (simp only[beq_iff_eq,beq_eq_false_iff_ne,ne_eq] at *;unfold fw;simp_all [dS,fC];omega)
theorem B6(a b:Int)(I:cc)(F:b8):cf P 156 #[.int .u8 a,.int .u8 b] I F (dS (.int .u8 (rm a b)) F):=by
 refine iP.vc ?_
 unfold iP.V
 have hn:∀(t:Int) (J:cc) {Q:Ending→cc→b8→Prop},(∀J',Q (.returned (.bool (fC t))) J' F)→cf P 139 #[.int .u8 t] J F Q:=fun t J Q h=>cf.ret (gS t J F) fun J' _=>h J'
 repeat' (first
  | (with_reducible apply And.intro)
  | (refine hn _ _ fun J'=>⟨_,rfl,F,.refl _, ?_⟩)
  | (with_reducible intro h))
 all_goals first
  | rfl
  | (simp only[beq_iff_eq,beq_eq_false_iff_ne,ne_eq] at *;unfold rm;simp_all [dS];done)
  | (unfold rm;simp_all [dS];done)
theorem B7(o a b:Int)(I:cc)(F:b8):cf P 140 #[.int .u8 o,.int .u8 a,.int .u8 b] I F (dS (.tuple #[.int .u8 (jZ o a b).1,.bool (jZ o a b).2]) F):=by
 refine pV.vc ?_
 unfold pV.V
 have hn:∀(t:Int) (J:cc) {Q:Ending→cc→b8→Prop},(∀J',Q (.returned (.bool (fC t))) J' F)→cf P 139 #[.int .u8 t] J F Q:=fun t J Q h=>cf.ret (gS t J F) fun J' _=>h J'
 have hp:∀(J:cc) {Q:Ending→cc→b8→Prop},(∀J',Q (.returned (.int .u8 (fw a b))) J' F)→cf P 155 #[.int .u8 a,.int .u8 b] J F Q:=fun J Q h=>cf.ret (Aq a b J F) fun J' _=>h J'
 have hq:∀(J:cc) {Q:Ending→cc→b8→Prop},(∀J',Q (.returned (.int .u8 (rm a b))) J' F)→cf P 156 #[.int .u8 a,.int .u8 b] J F Q:=fun J Q h=>cf.ret (B6 a b J F) fun J' _=>h J'
 repeat' (first
  | (with_reducible apply And.intro)
  | (refine hn _ _ fun J'=>⟨_,rfl,F,.refl _, ?_⟩)
  | (refine hp _ fun J'=>⟨_,rfl,F,.refl _, ?_⟩)
  | (refine hq _ fun J'=>⟨_,rfl,F,.refl _, ?_⟩)
  | (with_reducible intro h))
 all_goals first
  | rfl
  | (simp only[beq_iff_eq,beq_eq_false_iff_ne,ne_eq] at *;unfold jZ;simp_all [dS];done)
  | (unfold jZ;simp_all [dS];done)
theorem fm{x:Px}(h:x.formed=true):x.zV=true∧x.kids.length=x.arity:=by
 rw[Px.er,Bool.and_eq_true] at h
 have h1:=h.1
 unfold Px.gO at h1
 simp only[Bool.and_eq_true,decide_eq_true_eq] at h1
 exact⟨h1.1.1,h1.2⟩
theorem sk{x:Px}(h:x.formed=true)(hk:x.kind=3):1≤x.field∧x.field≤6:=by
 have h1:=(fm h).1
 unfold Px.zV at h1
 rw[if_neg (by omega),if_neg (by omega),if_pos hk] at h1
 simpa using h1
theorem tV{x:Px}(h:x.formed=true)(hk:x.kind=7):x.kids.length=3:=by
 have h1:=(fm h).2
 unfold Px.arity at h1
 rw[if_neg (by omega),if_neg (by omega),if_pos hk] at h1
 exact h1
theorem tW{x:Px}(h:x.formed=true)(hk:x.kind=9):x.kids.length=1:=by
 have h1:=(fm h).2
 unfold Px.arity at h1
 rw[if_pos (by omega)] at h1
 exact h1
theorem tX{x:Px}(h:x.formed=true)(h1:x.kind≠1)(h2:x.kind≠2)(h3:x.kind≠3)(h4:x.kind≠4)(h7:x.kind≠7)(h9:x.kind≠9):x.kids.length=1∨x.kids.length=2:=by
 obtain⟨g1,g2⟩:=fm h
 unfold Px.zV at g1
 rw[if_neg h1,if_neg h2,if_neg h3,if_neg h4] at g1
 unfold Px.arity at g2
 by_cases k5:x.kind=5
 ·rw[if_pos (.inl k5)] at g2;exact .inl g2
 ·by_cases k6:x.kind=6
  ·rw[if_neg (by omega),if_pos k6] at g2;exact .inr g2
  ·by_cases k8:x.kind=8
   ·rw[if_neg (by omega),if_neg k6,if_neg h7,if_pos k8] at g2
    split at g2
    ·exact .inl g2
    ·exact .inr g2
   ·rw[if_neg k5,if_neg k6,if_neg h7,if_neg k8,if_neg h9] at g1
    cases g1
theorem dq.ty{I:cc}{G:b8}{a:Option Addr}{n:Nat}{l:List Int}(h:dq I G 1 qn a n l){i:Nat}(hi:i<n):∃ad,a=some ad∧Rd I G (ad.add (Int.toNat (i:Int)*1)) [.int .u8 (iX l i)]:=by
 obtain⟨ad,x,h1,h2,h3⟩:=h.at (i:=(i:Int)) (by omega) (by omega)
 refine⟨ad,h1, ?_⟩
 have h2:l[i]? = some x:=h2
 unfold iX
 rw[h2];exact h3
set_option maxHeartbeats 400000 in
theorem tY(s:cw)(t:Nd)(hl:s.regs.length≤1048576)(hf:t.px.formed=true){a:Option Addr}{c:Nat}{ts:List Int}{I:cc}{F:b8}(hS:dq I F 1 qn a t.kids.length ts)(hok:s.Ok I F)(hr:t.kind=2→0≤s.p.fG t.name) :
  cf P 116 #[s.v,t.v,.slice a t.kids.length c] I F (dS (.tuple #[.int .u8 (iY s.p t.px ts).1,.bool (iY s.p t.px ts).2]) F):=by
 have hn:t.kids.length=ts.length:=hS.1
 have ek:t.px.kind=t.kind:=Nd.cG t
 have eo:t.px.oper=t.oper:=Nd.eP t
 have et:t.px.cO=t.cO:=Nd.gJ t
 have ef:t.px.field=t.field:=by cases t;rw[Nd.px];rfl
 have en:t.px.name=t.name:=by cases t;rw[Nd.px];rfl
 have el:t.px.kids.length=t.kids.length:=by rw[Nd.db,List.length_map]
 refine oc.vc ?_
 unfold oc.V
 intro b_s b_n
 have hS':∀{x y:Nat×Obj},dq I (x::y::F) 1 qn a t.kids.length ts:=hS.mono (cc.le_refl I) fun _ h=>.tail _ (.tail _ h)
 have hok':∀{J:cc} {x y:Nat×Obj},cc.le I J→s.Ok J (x::y::F):=fun hJ=>hok.mono hJ fun _ h=>.tail _ (.tail _ h)
 unfold iY
 rw[ek,eo,et,ef,en]
 refine⟨fun h1=>?_,fun h1=>⟨fun h2=>?_,fun h2=>⟨fun h3=>?_,fun h3=>⟨fun h4=>?_,fun h4=>⟨fun h7=>?_,fun h7=>⟨fun h9=>?_,fun h9=>⟨fun hz=>?_,fun hz=>⟨fun h5=>?_,fun h5=>?_⟩⟩⟩⟩⟩⟩⟩⟩
 ·have h1:t.kind=1:=by simpa using h1
  rw[if_pos h1];exact⟨rfl,rfl⟩
 all_goals have h1:t.kind≠1:=by simpa using h1
 all_goals rw[if_neg h1]
 ·have h2:t.kind=2:=by simpa using h2
  rw[if_pos h2]
  have h0:=hr h2
  obtain⟨hb,hreg⟩:s.p.fG t.name<s.regs.length∧True:=by
   refine⟨?_,trivial⟩
   have:∀(l:List ByteArray) (i:Int),0≤i→js t.name l i<i+l.length∨js t.name l i = -1:=by
    intro l
    induction l with
    | nil=>intro i _;right;rfl
    | cons x r ih =>
      intro i hi
      rw[js]
      split
      ·left;rw[List.length_cons];omega
      ·rcases ih (i+1) (by omega) with h | h
       ·left;rw[List.length_cons];omega
       ·right;exact h
   have h:=this (s.p.regs.map dh.name) 0 (Int.le_refl 0)
   unfold cu.fG at h0 ⊢
   simp only[cw.p,List.length_map] at h h0 ⊢
   omega
  refine⟨s.p.fG t.name,cf.ret (oj hl t.name (hok' (cc.le_refl I))) fun I1 l1=>⟨rfl,.refl _⟩,⟨h0,hb⟩, ?_⟩
  obtain⟨ad,r,had,hrr,hrd,_⟩:=dq.gj (hok' (x:=(c6 b_s s)) (y:=(rS b_n t)) (cc.le_refl I)).regs h0 hb
  refine⟨ad,had,r.cO,hrd.field (o:=1) rfl, ?_⟩
  have hT:s.p.ko (s.p.fG t.name)=r.cO:=by
   unfold cu.ko
   show (((s.regs.map cH.p)[(s.p.fG t.name).toNat]?).map dh.cO).getD 0=_
   rw[List.getElem?_map,hrr];rfl
  rw[hT];exact⟨rfl,rfl⟩
 all_goals have h2:t.kind≠2:=by simpa using h2
 all_goals rw[if_neg h2]
 ·have h3:t.kind=3:=by simpa using h3
  rw[if_pos h3]
  have hfl:=sk hf (by omega)
  rw[ef] at hfl
  intro b3 I2 l2 hb3
  rw[w8 (n:=t.field-1) (by omega)]
  have hSf:Sl I2 1 qn (some ⟨b3,0,none⟩) 6 yD:=Sl.kU (f:=qn) (z:=1) (l:=yD) (fun _=>rfl) hb3 rfl
  obtain⟨ad,x,had,hx,hrd⟩:=hSf.at (i:=t.field-1) (by omega) (by omega)
  refine⟨⟨by omega,by omega⟩,ad,had,x,hrd _, ?_⟩
  unfold iX
  rw[hx];exact⟨rfl,rfl⟩
 all_goals have h3:t.kind≠3:=by simpa using h3
 all_goals rw[if_neg h3]
 ·have h4:t.kind=4:=by simpa using h4
  rw[if_pos h4];exact⟨rfl,rfl⟩
 all_goals have h4:t.kind≠4:=by simpa using h4
 all_goals rw[if_neg h4]
 ·have h7:t.kind=7:=by simpa using h7
  rw[if_pos h7]
  have hlen:=tV hf (by omega)
  rw[el] at hlen
  obtain⟨ad1,e1,r1⟩:=dq.ty (hS' (x:=(c6 b_s s)) (y:=(rS b_n t))) (i:=1) (by omega)
  obtain⟨ad0,e0,r0⟩:=dq.ty (hS' (x:=(c6 b_s s)) (y:=(rS b_n t))) (i:=0) (by omega)
  obtain⟨ad2,e2,r2⟩:=dq.ty (hS' (x:=(c6 b_s s)) (y:=(rS b_n t))) (i:=2) (by omega)
  refine⟨⟨by omega,by omega⟩,ad1,e1,_,r1,⟨by omega,by omega⟩,ad0,e0,_,r0,fun hc=>?_,fun hc=>?_⟩
  ·refine⟨⟨by omega,by omega⟩,ad1,e1,_,r1,⟨by omega,by omega⟩,ad2,e2,_,r2, ?_⟩
   rw[hc,Bool.true_and];exact⟨rfl,rfl⟩
  ·rw[hc,Bool.false_and];exact⟨rfl,rfl⟩
 all_goals have h7:t.kind≠7:=by simpa using h7
 all_goals rw[if_neg h7]
 ·have h9:t.kind=9:=by simpa using h9
  rw[if_pos h9]
  have hlen:=tW hf (by omega)
  rw[el] at hlen
  obtain⟨ad0,e0,r0⟩:=dq.ty (hS' (x:=(c6 b_s s)) (y:=(rS b_n t))) (i:=0) (by omega)
  exact⟨⟨by omega,by omega⟩,ad0,e0,_,r0,_,cf.ret (gS _ I _) fun I1 l1=>⟨rfl,.refl _⟩,rfl,rfl⟩
 all_goals have h9:t.kind≠9:=by simpa using h9
 all_goals rw[if_neg h9]
 all_goals have hlen:=tX hf (by omega) (by omega) (by omega) (by omega) (by omega) (by omega)
 all_goals rw[el] at hlen
 all_goals obtain⟨ad0,e0,r0⟩:=dq.ty (hS' (x:=(c6 b_s s)) (y:=(rS b_n t))) (i:=0) (by omega)
 ·have hz:(t.kids.length:Int)=2:=by have hz:((t.kids.length:Int)==2)=true:=hz;simpa using hz
  rw[if_pos (by omega)]
  obtain⟨ad1,e1,r1⟩:=dq.ty (hS' (x:=(c6 b_s s)) (y:=(rS b_n t))) (i:=1) (by omega)
  exact⟨⟨by omega,by omega⟩,ad0,e0,_,r0,⟨by omega,by omega⟩,ad1,e1,_,r1,_,_,cf.ret (B7 _ _ _ I _) fun I1 l1=>⟨rfl,.refl _⟩,rfl,rfl⟩
 all_goals have hz:¬(t.kids.length:Int)=2:=by have hz:((t.kids.length:Int)==2)=false:=hz;simpa using hz
 all_goals rw[if_neg (by omega)]
 ·have h5:t.oper=2:=by simpa using h5
  rw[if_pos h5]
  exact⟨⟨by omega,by omega⟩,ad0,e0,_,r0,rfl,rfl⟩
 ·have h5:t.oper≠2:=by simpa using h5
  rw[if_neg h5]
  exact⟨⟨by omega,by omega⟩,ad0,e0,_,r0,⟨by omega,by omega⟩,ad0,e0,_,r0,_,cf.ret (gS _ I _) fun I1 l1=>⟨rfl,.refl _⟩,rfl,rfl⟩
end Go.Lx
