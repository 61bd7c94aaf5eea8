import Derived.Test.YtdhcodphiofhjaaGreatDoorParseStrategiesB3
set_option linter.unusedVariables false
set_option linter.unusedSimpArgs false
set_option linter.unusedSectionVars false
set_option maxRecDepth 100000
namespace Go.Lx
open Go.Vc
section
variable {c:PC} {s:PS}
theorem gJ:s.inc.next=s.next+1:=rfl
theorem jU(e:Int):(c.da e s).next=s.next:=by
 unfold PC.da;split
 ·rfl
 ·split<;>rfl
theorem fE(d:Int):(c.c8 d s).next=s.next:=by
 unfold PC.c8;split
 ·exact jU _
 ·rfl
theorem mr(n m:Nat):(c.many n m s).next=s.next:=by
 unfold PC.many;split
 ·exact jU _
 ·rfl
theorem CP:(c.end s).next=s.next:=by
 unfold PC.end;split
 ·rfl
 ·split
  ·exact jU _
  ·rfl
theorem tW{e:Int}(he:e≠0)(hl:s.next<c.l.length):(c.da e s).over=true:=by
 unfold PC.da
 split
 ·assumption
 ·rw[if_neg (by omega)]
  simpa[PS.over] using he
theorem jr{d:Int}(hl:s.next<c.l.length)(h:(c.c8 d s).over=false):d+1≤24∧c.c8 d s=s:=by
 unfold PC.c8 at h ⊢
 split
 ·rename_i hd
  rw[if_pos hd,tW (by decide) hl] at h
  cases h
 ·rename_i hd
  exact⟨by omega,rfl⟩
theorem lK{n m:Nat}(hl:s.next<c.l.length)(h:(c.many n m s).over=false):n<m∧c.many n m s=s:=by
 unfold PC.many at h ⊢
 split
 ·rename_i hd
  rw[if_pos hd,tW (by decide) hl] at h
  cases h
 ·rename_i hd
  exact⟨by omega,rfl⟩
def Up(c:PC)(s s':PS):Prop:=s.next≤s'.next∧(s.next≤c.l.length→s'.next≤c.l.length)
theorem Up.refl:Up c s s:=⟨Nat.le_refl _,fun h=>h⟩
theorem Up.trans{a b d:PS}(h:Up c a b)(h':Up c b d):Up c a d:=⟨Nat.le_trans h.1 h'.1,fun h0=>h'.2 (h.2 h0)⟩
theorem Up.inc(hl:s.next<c.l.length):Up c s s.inc:=⟨Nat.le_succ _,fun _=>hl⟩
theorem Up.of_eq{s':PS}(h:s'.next=s.next):Up c s s':=⟨by omega,fun _=>by omega⟩
theorem Up.da(e:Int):Up c s (c.da e s):=.of_eq (jU e)
theorem Up.c8(d:Int):Up c s (c.c8 d s):=.of_eq (fE d)
theorem Up.many(n m:Nat):Up c s (c.many n m s):=.of_eq (mr n m)
theorem Up.end:Up c s (c.end s):=.of_eq CP
theorem Up.take(w:ByteArray):Up c s (c.take w s).2:=by
 unfold PC.take;split
 ·rename_i h;exact .inc (eM h)
 ·exact .da _
theorem Up.name:Up c s (c.name s).2:=by
 unfold PC.name;split
 ·rename_i h;exact .inc (lZ (by rw[h];decide))
 ·exact .da _
theorem Up.literal:Up c s (c.literal s).2:=by
 unfold PC.literal
 split
 ·rename_i h;exact .inc (lZ (by rw[h];decide))
 ·split
  ·rename_i h;exact .inc (lZ (by rw[h.1];decide))
  ·split
   ·rename_i h;exact .inc (lZ (by rw[h.1];decide))
   ·exact .refl
end
def ee(c:PC){α:Type}(f:PS→α×PS):Prop:=∀s,Up c s (f s).2
section
variable {c:PC} {nx:Lv} (hx:ee c nx.ex) (hu:ee c nx.un)
include hx
theorem Up.kids:∀(n:Nat) (f:Bool) (s:PS),Up c s (c.dK nx n f s).2
 | 0,f,s=>.refl
 | n+1,f,s=>by
   rw[PC.dK]
   refine Up.trans ?_ (Up.kids n false _)
   refine Up.trans ?_ (hx _)
   split
   ·exact .refl
   ·exact .take _
theorem Up.call{d kind oper dU pos:Int}{many:Nat}{s:PS}(hl:s.next<c.l.length):Up c s (c.call nx d kind oper dU pos many s).2:=by
 unfold PC.call
 split
 ·exact .c8 _
 ·rename_i h
  obtain⟨_,he⟩:=jr hl (by simpa using h)
  rw[he]
  exact ((Up.inc hl).trans (.take _)).trans ((Up.kids hx _ _ _).trans (.take _))
theorem Up.rest(d:Int):ee c (c.rest nx d):=fun s=>by
 unfold PC.rest
 split
 ·rename_i h
  have hl:=eM h
  split
  ·exact (Up.inc hl).trans (.da _)
  ·rename_i h2
   exact (Up.inc hl).trans (.inc (dD (Int.not_lt.1 h2)).1)
 ·split
  ·rename_i h
   have hl:=eM h
   split
   ·exact .c8 _
   ·rename_i h2
    obtain⟨_,he⟩:=jr hl (by simpa using h2)
    rw[he]
    exact (Up.inc hl).trans ((hx _).trans (.take _))
  ·exact .da _
theorem Up.one(d:Int):ee c (c.one nx d):=fun s=>by
 unfold PC.one
 split
 ·exact .literal
 ·split
  ·rename_i h;exact .inc (lZ (by rw[h];decide))
  ·split
   ·rename_i h;exact .inc (dD h).1
   ·split
    ·rename_i h;exact .call hx (dD h).1
    ·split
     ·rename_i h;exact .call hx (dD h).1
     ·exact Up.rest hx d s
include hu
theorem Up.unary(d:Int):ee c (c.unary nx d):=fun s=>by
 unfold PC.unary
 split
 ·exact Up.one hx d s
 ·rename_i h
  have hl:=(dD (c:=c) (s:=s) (ws:=lI) (by omega)).1
  split
  ·exact .c8 _
  ·rename_i h2
   obtain⟨_,he⟩:=jr hl (by simpa using h2)
   rw[he]
   exact (Up.inc hl).trans (hu _)
end
theorem Up.fq{c:PC}{ws:List ByteArray}{o:Int}{sub:PS→Px×PS}(h:ee c sub):∀(m:Nat) (n:Px) (s:PS),Up c s (c.fq ws o sub m n s).2
 | 0,n,s=>.refl
 | m+1,n,s=>by
   rw[PC.fq]
   split
   ·exact .refl
   ·rename_i h2
    exact ((Up.inc (dD (Int.not_lt.1 h2)).1).trans (h _)).trans (Up.fq h m _ _)
theorem Up.loop{c:PC}{ws:List ByteArray}{o:Int}{sub:PS→Px×PS}(h:ee c sub):ee c (c.loop ws o sub):=fun s=>(h s).trans (.fq h _ _ _)
section
variable {c:PC} {nx:Lv} (hx:ee c nx.ex) (hu:ee c nx.un) (d:Int)
include hx hu
theorem Up.product:ee c (c.product nx d):=Up.loop (Up.unary hx hu d)
theorem Up.sum:ee c (c.sum nx d):=Up.loop (Up.product hx hu d)
theorem Up.compare:ee c (c.compare nx d):=fun s=>by
 unfold PC.compare
 have h1:=Up.sum hx hu d s
 show Up c s (if c.any lU (c.sum nx d s).2<0 then c.sum nx d s else _).2
 split
 ·exact h1
 ·rename_i h2
  exact (h1.trans (.inc (dD (Int.not_lt.1 h2)).1)).trans (Up.sum hx hu d _)
theorem Up.and:ee c (c.and nx d):=Up.loop (Up.compare hx hu d)
theorem Up.or:ee c (c.or nx d):=Up.loop (Up.and hx hu d)
theorem Up.expr:ee c (c.expr nx d):=fun s=>by
 unfold PC.expr
 have h1:=Up.or hx hu d s
 show Up c s (if c.eu _ (c.or nx d s).2 then _ else _:Px×PS).2
 split
 ·rename_i h2
  have hl:=eM h2
  show Up c s (if (c.c8 d (c.or nx d s).2).over then _ else _:Px×PS).2
  split
  ·exact h1.trans (.c8 _)
  ·rename_i h3
   obtain⟨_,he⟩:=jr hl (by simpa using h3)
   rw[he]
   exact h1.trans ((Up.inc hl).trans ((hx _).trans ((Up.take _).trans (hx _))))
 ·exact h1
end
theorem Up.lvl{c:PC}:∀(k:Nat) (d:Int),ee c (c.lvl k d).ex∧ee c (c.lvl k d).un
 | 0,d=>⟨Up.expr (fun s=>.refl) (fun s=>.refl) d,Up.unary (fun s=>.refl) (fun s=>.refl) d⟩
 | k+1,d=>⟨Up.expr (Up.lvl k (d+1)).1 (Up.lvl k (d+1)).2 d,Up.unary (Up.lvl k (d+1)).1 (Up.lvl k (d+1)).2 d⟩
theorem Up.eX{c:PC}:ee c c.eX:=(Up.lvl 24 0).1
def gY(q:PQ)(b:Nat)(F0:cR)(r:Px×PS)(e:Ending)(I:cS)(G:cR):Prop:=∃t:Nd,e=.returned t.v∧t.px=r.1∧dO I [] t∧G.Perm (q.db b r.2::F0)
def ye(q:PQ)(b:Nat)(F0:cR)(r:Px×PS)(e:Ending)(I:cS)(G:cR):Prop:=∃(t:Nd) (A:cR),e=.returned t.v∧t.px=r.1∧(Acc 8 Nd.enc 64 t.a t.kids.length t.c t.kids A∨A=[]∧kq I [] 8 Nd.enc t.a t.kids.length t.kids)∧(∀k∈t.kids,dO I [] k)∧G.Perm (q.db b r.2::(A++F0))
theorem ye.keep{f:Nat}{args:Array Value}{I:cS}{F F0:cR}{q:PQ}{b:Nat}{r:Px×PS}(h:cU P f args I F (ye q b F0 r)):cU P f args I F (gY q b F0 r):=by
 refine h.keep fun e I' G w hl hs ⟨t,A,he,px,hA,hk,hG⟩=>?_
 rcases hA with hA | ⟨rfl,hA⟩
 ·obtain⟨J,h1,h2,h3⟩:=Acc.keep (z:=8) (f:=Nd.enc) Nd.qa hA (hs.perm (hG.trans (cV fun z=>by simp only[cW,cX];omega):G.Perm (A++(q.db b r.2::F0))))
  exact⟨J,_,h1,h2,t,he,px,.mk (h3.B0 []) fun k hkm=>(hk k hkm).mono h1 fun _ h=>h,.refl _⟩
 ·exact⟨I',G,cS.le_refl _,hs,t,he,px,.mk hA hk,hG⟩
theorem gY.own{q:PQ}{b:Nat}{F0:cR}{r:Px×PS}{e:Ending}{I:cS}{G:cR}(h:gY q b F0 r e I G):ye q b F0 r e I G:=by
 obtain⟨t,he,px,hok,hG⟩:=h
 exact⟨t,[],he,px,.inr ⟨rfl,hok.sl⟩,hok.DA,hG⟩
def fg(f:Nat)(q:PQ)(d:Int)(g:PS→Px×PS):Prop:=∀(b:Nat) (s:PS) (I:cS) (F F0:cR),q.ok I→s.next≤q.c.l.length→F.Perm (q.db b s::F0)→cU P f #[.pointer (some ⟨b,0,none⟩),.int .i64 d] I F (gY q b F0 (g s))
theorem gY.nil{q:PQ}{b:Nat}{F0:cR}{r:Px×PS}{I:cS}{G:cR}{k o ty n f pos:Int}{s:ByteArray}(h:r.1=.mk k o ty n f s [] pos)(hG:G.Perm (q.db b r.2::F0)):gY q b F0 r (.returned (Nd.mk k o ty n f s none 0 [] pos).v) I G :=
 ⟨_,rfl,by rw[h];simp only[Nd.px,Nd.qO],.leaf,hG⟩
theorem dO.yf{I:cS}{b:Nat}{l:List Nd}(hb:I b=some (.cells (l.flatMap Nd.enc).toArray 64 (0,0)))(hk:∀k∈l,dO I [] k)(k o ty n f pos:Int)(s:ByteArray)(c:Nat):dO I [] (.mk k o ty n f s (some ⟨b,0,none⟩) c l pos):=by
 have hS:Sl I 8 Nd.enc (some ⟨b,0,none⟩) l.length l:=Sl.ie (f:=Nd.enc) (z:=8) Nd.qa hb (by simp)
 exact .mk (hS.B0 []) hk
theorem yg(o pos:Int)(x y:Nd)(I:cS)(F:cR)(hx:dO I [] x)(hy:dO I [] y):cU P 117 #[.int .u8 o,.int .i64 pos,x.v,y.v] I F fun e I' G=>∃t:Nd,e=.returned t.v∧t.px=wB o pos x.px y.px∧dO I' [] t∧G=F:=by
 refine oC.vc ?_
 unfold oC.V
 intro b_a b_b b b1 I1 l1 hb
 refine⟨.mk 6 o 0 0 0 ⟨#[]⟩ (some ⟨b1,0,none⟩) 2 [x,y] pos,rfl,by simp only[Nd.px,Nd.qO];rfl,dO.yf hb (fun k hk=>?_) ..,rfl⟩
 rcases List.mem_cons.1 hk with rfl | hk
 ·exact hx.mono l1 fun _ h=>h
 ·rw[List.mem_singleton] at hk;subst hk;exact hy.mono l1 fun _ h=>h
end Go.Lx
namespace Go.Lx
open Go.Vc
theorem tX{a:Option Addr}{n c b1:Nat}{ks:List Nd}{A F R:cR}{I:cS}(hA:Acc 8 Nd.enc 64 a n c ks A)(hl:ks.length≤1000000)(t:Nd)(hb:I b1=some (.cells t.enc.toArray 64 (0,0)))(hF:F.Perm (A++R)) :
  dk P (Builtin.append_ #[62,62] 62 #[.slice a n c,.slice (some ⟨b1,0,none⟩) 1 1]) I F fun v I' G=>∃a' n' c' A',v=.slice a' n' c'∧Acc 8 Nd.enc 64 a' n' c' (ks++[t]) A'∧G.Perm (A'++R):=by
 refine dk.perm (dk.mono (eG (f:=Nd.enc) (z:=8) (zv:=fW.v) Nd.qa (by':=72) (by kernel_rfl) (by kernel_rfl) rfl (by decide) hA (xs:=[t]) (fun x hx=>by rw[List.mem_singleton] at hx;subst hx;exact Nd.Ar x) (by simp) rfl ?_ (by simp only[List.length_cons,List.length_nil];omega) (F:=R)) fun v I' G _ ⟨a',n',c',A',h1,h2,h3,_⟩=>⟨a',n',c',A',h1,h2,by rw[h3]⟩) hF
 exact⟨rfl,_,_,_,.inl hb,fun j hj=>by simp⟩
section
variable {q:PQ} {b:Nat} {s:PS} {I:cS} {F F0:cR}
theorem vy(hq:q.ok I)(hF:F.Perm (q.db b s::F0)):cU P 109 #[.pointer (some ⟨b,0,none⟩)] I F fun e1 I' G=>∃t:Nd,e1=.returned (.tuple #[t.v,.bool (q.c.literal s).1.2])∧t.px=(q.c.literal s).1.1∧dO I' [] t∧G.Perm (q.db b (q.c.literal s).2::F0):=by
 have hm:q.db b s∈F:=hF.mem_iff.2 (.head _)
 have hl:=hq.len
 refine fB.vc (fun x b0 b1 b2 b3 b4 b5 ba bn bc b7 n0 n1 n2 n3 n4 n5 na nn nc n7 I' F'=>F'=F∧na=none∧nn=0∧nc=0∧q.c.literal s=((.mk n0 n1 n2 n3 n4 n5 [] n7,true),s.inc)∧s.next<q.c.l.length) ?_
 unfold fB.V
 intro b1
 refine cU.ret (kl hq (.tail _ hm)) fun I1 l1=>⟨_,_,_,_,_,rfl,F,.refl _,fun b_t b_n=>⟨?_,fun x b0 b1' b2 b3 b4 b5 ba bn bc b7 n0 n1 n2 n3 n4 n5 na nn nc n7 I2 F2 l2 ⟨gF,ga,gn,gc,ge,hlt⟩=>?_⟩⟩
 ·have hk3:(q.c.now s).kind=3→s.next<q.c.l.length:=fun h=>lZ (by rw[h];decide)
  have hk1:(q.c.now s).kind=1→s.next<q.c.l.length:=fun h=>lZ (by rw[h];decide)
  have hz:∀(I':cS),q.c.literal s=((gO,false),s)→∃t:Nd,Ending.returned (.tuple #[fW.v,.bool false])=.returned (.tuple #[t.v,.bool (q.c.literal s).1.2])∧t.px=(q.c.literal s).1.1∧dO I' [] t∧F.Perm (q.db b (q.c.literal s).2::F0):=fun I' h=>by
   rw[h];exact⟨fW,rfl,by simp only[fW,Nd.px,Nd.qO];rfl,.leaf,hF⟩
  unfold PC.literal at hz ⊢
  generalize q.c.now s=t at *
  generalize (⟨#[116,114,117,101]⟩:ByteArray).toList=wt at *
  generalize (⟨#[102,97,108,115,101]⟩:ByteArray).toList=wf at *
  generalize (⟨#[98,117,121]⟩:ByteArray).toList=wb at *
  generalize (⟨#[115,101,108,108]⟩:ByteArray).toList=ws at *
  simp only[beq_iff_eq,beq_eq_false_iff_ne,ne_eq]
  repeat' (first | (with_reducible apply And.intro) | (with_reducible intro h))
  all_goals first
   | rfl
   | (refine hz I1 ?_;simp_all;done)
   | (simp_all [tS];done)
   | (exfalso;simp_all;done)
 ·subst gF ga gn gc
  refine⟨_,rfl,_,PQ.rd (k:=3) (.tail _ (.tail _ (.tail _ hm))) rfl,_,rfl,q.cl s,96,F0,hF,PQ.spot _ _,by rw[PQ.off];exact (by decide:3+1≤7), ?_⟩
  rw[PQ.fe (by omega),ge]
  exact⟨.mk n0 n1 n2 n3 n4 n5 none 0 [] n7,rfl,by simp only[Nd.px,Nd.qO],.leaf,.refl _⟩
end
end Go.Lx
namespace Go.Lx
open Go.Vc
theorem me{α:Type}{x z:α}{l:List α}:(x::z::l).Perm (z::x::l):=.swap ..
theorem ec{α:Type}{x y z:α}{l:List α}:(x::y::z::l).Perm (z::x::y::l):=((List.Perm.swap z y l).cons x).trans (.swap ..)
theorem vz{α:Type}{x y w z:α}{l:List α}:(x::y::w::z::l).Perm (z::x::y::w::l):=(ec.cons x).trans (.swap ..)
theorem BD{α:Type}{x y w z:α}{A l:List α}:(x::y::w::z::(A++l)).Perm (A++(x::y::w::z::l)):=by
 have h:=List.perm_append_comm_assoc [x,y,w,z] A l
 exact h
theorem yh(l:List Nd)(t:Nd):(l++[t]).map Nd.px=l.map Nd.px++[t.px]:=by rw[List.map_append,List.map_singleton]
theorem Sl.words{I:cS}{b1 e:Nat}{ws:List ByteArray}{cells:Array Value}(hb:I b1=some (.cells cells e (0,0)))(h:cells.toList=ws.flatMap jS):Sl I 1 jS (some ⟨b1,0,none⟩) ws.length ws:=Sl.ie (f:=jS) (z:=1) (fun _=>rfl) hb h
section
variable {q:PQ} {b:Nat} {s:PS} {I:cS} {F F0:cR} {nx:Lv} {d:Int} (h0:0≤d) (h1:d≤24) (hx:d+1≤24→fg 48 q (d+1) nx.ex) (hmx:ee q.c nx.ex)
include h0 h1 hx hmx
theorem zC(hq:q.ok I)(kind oper dU pos:Int)(many:Nat)(hmy:many≤2)(hlt:s.next<q.c.l.length)(hF:F.Perm (q.db b s::F0)) :
  cU P 160 #[.pointer (some ⟨b,0,none⟩),.agg #[.int .u8 kind,.int .u8 oper,.int .u8 dU,.int .i64 0,.int .u8 0,.string ⟨#[]⟩,.slice none 0 0,.int .i64 pos],.int .i64 many,.int .i64 d] I F (gY q b F0 (q.c.call nx d kind oper dU pos many s)):=by
 have hl:=hq.len
 refine ye.keep ?_
 refine gV.vc (fun i n0 n1 n2 n3 n4 n5 na nn nc n7 m I' F'=>0≤i∧i≤many∧m=(many-i).toNat∧n0=kind∧n1=oper∧n2=dU∧n3=0∧n4=0∧n5=⟨#[]⟩∧n7=pos∧q.ok I'∧∃(ks:List Nd) (A:cR) (s':PS),Acc 8 Nd.enc 64 na nn nc ks A∧(∀k∈ks,dO I' [] k)∧F'.Perm (q.db b s'::(A++F0))∧s'.next≤q.c.l.length∧ks.length=i ∧
  q.c.dK nx many true (q.c.take (⟨#[40]⟩:ByteArray) s.inc).2=(ks.map Nd.px++(q.c.dK nx (many-i.toNat) (decide (i=0)) s').1,(q.c.dK nx (many-i.toNat) (decide (i=0)) s').2)) ?_
 unfold gV.V
 intro b_n b2
 refine (qn hq d h0 (by omega) (((hF.cons _).cons _).trans ec)).mono fun e I1 G l1 ⟨he,hG⟩=>⟨_,he,q.db b (q.c.c8 d s)::F0,hG.trans ec.symm,fun h=>?_,fun h=>?_⟩
 ·have h:(q.c.c8 d s).over=true:=by simpa using h
  unfold PC.call
  rw[if_pos h]
  exact⟨fW,[],rfl,by simp only[fW,Nd.px,Nd.qO];rfl,.inl Acc.nil,fun k hk=>(by cases hk),.refl _⟩
 have h:(q.c.c8 d s).over=false:=by simpa using h
 obtain⟨hd,hde⟩:=jr hlt h
 have hcall:q.c.call nx d kind oper dU pos many s=(.mk kind oper dU 0 0 ⟨#[]⟩ (q.c.dK nx many true (q.c.take (⟨#[40]⟩:ByteArray) s.inc).2).1 pos,(q.c.take (⟨#[41]⟩:ByteArray) (q.c.dK nx many true (q.c.take (⟨#[40]⟩:ByteArray) s.inc).2).2).2):=by
  unfold PC.call
  rw[if_neg (by simp[h]),hde]
 rw[hde,hcall]
 have hq1:=hq.mono l1
 refine⟨_,rfl,_,PQ.rd (k:=3) (.tail _ (.tail _ (.head _))) rfl,_,rfl,q.cl s,96,F0,.refl _,PQ.spot _ _,by rw[PQ.off];exact (by decide:3+1≤7), ?_⟩
 rw[PQ.fe (by omega)]
 refine (eN hq1 _ (s:=s.inc) ec).mono fun e I2 G2 l2 ⟨he,hG2⟩=>⟨_,he,q.db b (q.c.take (⟨#[40]⟩:ByteArray) s.inc).2::F0,hG2.trans ec.symm,⟨_,by omega,by omega,rfl,rfl,rfl,rfl,rfl,rfl,rfl,rfl,hq1.mono l2,[],[],_,Acc.nil,fun k hk=>(by cases hk),.refl _, ?_,rfl, ?_⟩, ?_⟩
 ·exact (Up.take _).2 hlt
 ·simp
 intro i n0 n1 n2 n3 n4 n5 na nn nc n7 m2 I3 F4 l3 ⟨i0,i1,im,e0,e1,e2,e3,e4,e5,e7,hq3,ks,A,s',hA,hks,hF4,hsn,hkl,hke⟩
 subst e0 e1 e2 e3 e4 e5 e7
 refine⟨fun hi=>?_,fun hi=>?_⟩
 ·have hi:=of_decide_eq_true hi
  have hmi:many-i.toNat=(many-(i+1).toNat)+1:=by omega
  rw[hmi,PC.dK] at hke
  have step:∀(s1:PS) (J:cS) (t:Nd) (e1:Ending) (I5:cS) (G5:cR) (F6:cR),True:=fun _ _ _ _ _ _ _=>trivial
  refine⟨fun hp=>?_,fun hp=>?_⟩
  ·have hp:=of_decide_eq_true hp
   refine (eN hq3 _ (s:=s') (((hF4.cons _).cons _).trans ec)).mono fun e I4 G4 l4 ⟨he,hG4⟩=>⟨_,he,q.db b (q.c.take (⟨#[44]⟩:ByteArray) s').2::(A++F0),hG4.trans ec.symm, ?_⟩
   have hq4:=hq3.mono l4
   have hn1:(q.c.take (⟨#[44]⟩:ByteArray) s').2.next≤q.c.l.length:=(Up.take _).2 hsn
   rw[ew (n:=d+1) (by omega)]
   refine (hx hd b _ I4 _ _ hq4 hn1 ec).mono fun e I5 G5 l5 ⟨t,he,px,hok,hG5⟩=>?_
   rw[show decide (i=0)=false from decide_eq_false (by omega)] at hke
   refine⟨_,_,_,_,_,_,_,_,_,_,he,q.db b (nx.ex (q.c.take (⟨#[44]⟩:ByteArray) s').2).2::(A++F0),hG5.trans ec.symm,fun b_k b4 I6 l6 hb4=>?_⟩
   refine (tX hA (by omega) t hb4 BD).mono fun v I7 G7 l7 ⟨a',n',c',A',hv,hA',hG7⟩=>⟨a',n',c',hv,q.db b (nx.ex (q.c.take (⟨#[44]⟩:ByteArray) s').2).2::(A'++F0),hG7.trans BD.symm,(many-(i+1)).toNat,by omega, ?_⟩
   rw[ew (n:=i+1) (by omega)]
   refine⟨by omega,by omega,rfl,rfl,rfl,rfl,rfl,rfl,rfl,rfl,(hq4.mono l5).mono (cS.le_trans l6 l7),ks++[t],A',_,hA',fun k hk=>?_,.refl _,(hmx _).2 hn1,by rw[List.length_append,List.length_singleton];omega, ?_⟩
   ·rcases List.mem_append.1 hk with hk | hk
    ·exact (hks k hk).mono (cS.le_trans l4 (cS.le_trans l5 (cS.le_trans l6 l7))) fun _ h=>h
    ·rw[List.mem_singleton] at hk;subst hk;exact hok.mono (cS.le_trans l6 l7) fun _ h=>h
   ·rw[hke,show decide (i+1=0)=false from decide_eq_false (by omega),yh,px,List.append_assoc];rfl
  ·have hp:=of_decide_eq_false hp
   rw[ew (n:=d+1) (by omega)]
   refine (hx hd b s' I3 _ _ hq3 hsn (((hF4.cons _).cons _).trans ec)).mono fun e I5 G5 l5 ⟨t,he,px,hok,hG5⟩=>?_
   rw[show decide (i=0)=true from decide_eq_true (by omega)] at hke
   refine⟨_,_,_,_,_,_,_,_,_,_,he,q.db b (nx.ex s').2::(A++F0),hG5.trans ec.symm,fun b_k b4 I6 l6 hb4=>?_⟩
   refine (tX hA (by omega) t hb4 BD).mono fun v I7 G7 l7 ⟨a',n',c',A',hv,hA',hG7⟩=>⟨a',n',c',hv,q.db b (nx.ex s').2::(A'++F0),hG7.trans BD.symm,(many-(i+1)).toNat,by omega, ?_⟩
   rw[ew (n:=i+1) (by omega)]
   refine⟨by omega,by omega,rfl,rfl,rfl,rfl,rfl,rfl,rfl,rfl,(hq3.mono l5).mono (cS.le_trans l6 l7),ks++[t],A',_,hA',fun k hk=>?_,.refl _,(hmx _).2 hsn,by rw[List.length_append,List.length_singleton];omega, ?_⟩
   ·rcases List.mem_append.1 hk with hk | hk
    ·exact (hks k hk).mono (cS.le_trans l5 (cS.le_trans l6 l7)) fun _ h=>h
    ·rw[List.mem_singleton] at hk;subst hk;exact hok.mono (cS.le_trans l6 l7) fun _ h=>h
   ·rw[hke,show decide (i+1=0)=false from decide_eq_false (by omega),yh,px,List.append_assoc];rfl
 ·have hi:=of_decide_eq_false hi
  rw[show many-i.toNat=0 by omega,PC.dK,List.append_nil] at hke
  refine (eN hq3 _ (s:=s') (((hF4.cons _).cons _).trans ec)).mono fun e I4 G4 l4 ⟨he,hG4⟩=>⟨_,he,q.db b (q.c.take (⟨#[41]⟩:ByteArray) s').2::(A++F0),hG4.trans ec.symm, ?_⟩
  rw[hke]
  have hn:=hA.1
  subst hn
  exact⟨.mk n0 n1 n2 0 0 ⟨#[]⟩ na nc ks n7,A,rfl,by rw[Nd.px,Nd.rW],.inl hA,fun k hk=>(hks k hk).mono l4 fun _ h=>h,.refl _⟩
end
end Go.Lx
namespace Go.Lx
open Go.Vc
theorem o1{q:PQ}{s:PS}{ws:List ByteArray}(h:0≤q.c.any ws s)(hl:ws.length≤6):q.c.any ws s≤5:=by have:=(dD h).2;omega
section
variable {q:PQ} {b:Nat} {s:PS} {I:cS} {F F0:cR} {nx:Lv} {d:Int} (h0:0≤d) (h1:d≤24) (hx:d+1≤24→fg 48 q (d+1) nx.ex) (hmx:ee q.c nx.ex)
include h0 h1 hx hmx
theorem E8(hq:q.ok I)(hsn:s.next≤q.c.l.length)(hF:F.Perm (q.db b s::F0)):cU P 161 #[.pointer (some ⟨b,0,none⟩),.int .i64 d] I F (gY q b F0 (q.c.rest nx d s)):=by
 have _:=hmx
 have hl:=hq.len
 have hm:q.db b s∈F:=hF.mem_iff.2 (.head _)
 refine gW.vc ?_
 unfold gW.V
 intro b2
 refine cU.ret (kl hq (.tail _ hm)) fun I1 l1=>⟨_,_,_,_,_,rfl,F,.refl _, ?_⟩
 have hq1:=hq.mono l1
 refine cU.ret (pG hq1 _ (.tail _ hm)) fun I2 l2=>⟨_,rfl,F,.refl _,fun hh=>?_,fun hh=>?_⟩
 ·have hlt:=eM hh
  have hq2:=hq1.mono l2
  refine⟨_,rfl,_,PQ.rd (k:=3) (.tail _ hm) rfl,_,rfl,q.cl s,96,F0,hF,PQ.spot _ _,by rw[PQ.off];exact (by decide:3+1≤7),fun b3 I3 l3 hb3=>?_⟩
  rw[PQ.fe (by omega)]
  have hq3:=hq2.mono l3
  refine cU.ret (nt hq3 (Sl.words (ws:=[(⟨#[98,105,100]⟩:ByteArray),(⟨#[97,115,107]⟩:ByteArray),(⟨#[108,97,115,116]⟩:ByteArray)]) hb3 rfl) (by decide) (s:=s.inc) (.tail _ (.head _))) fun I4 l4=>⟨_,rfl,q.db b s.inc::F0,.refl _,fun ha=>?_,fun ha=>?_⟩
  ·have ha:=of_decide_eq_true ha
   refine (gi (hq3.mono l4) 130 (s:=s.inc) me).mono fun e I5 G l5 ⟨he,hG⟩=>⟨he,q.db b (q.c.da 130 s.inc)::F0,hG.trans me, ?_⟩
   unfold PC.rest
   rw[if_pos hh,if_pos ha]
   exact gY.nil rfl (.refl _)
  ·have ha:=of_decide_eq_false ha
   have hab:=o1 (Int.not_lt.1 ha) (by decide)
   have hlt2:=(dD (Int.not_lt.1 ha)).1
   refine⟨_,rfl,_,PQ.rd (k:=3) (.tail _ (.head _)) rfl,_,rfl,q.cl s.inc,96,F0,.refl _,PQ.spot _ _,by rw[PQ.off];exact (by decide:3+1≤7), ?_⟩
   rw[PQ.fe (s:=s.inc) (by omega),ew (n:=q.c.any [(⟨#[98,105,100]⟩:ByteArray),(⟨#[97,115,107]⟩:ByteArray),(⟨#[108,97,115,116]⟩:ByteArray)] s.inc+1) (by omega),w8 (by omega)]
   unfold PC.rest
   rw[if_pos hh,if_neg ha]
   exact gY.nil rfl (.refl _)
 ·have hq2:=hq1.mono l2
  refine cU.ret (pG hq2 _ (.tail _ hm)) fun I3 l3=>⟨_,rfl,F,.refl _,fun hb=>?_,fun hb=>?_⟩
  ·have hb:q.c.eu (⟨#[40]⟩:ByteArray) s=false:=by simpa using hb
   refine (gi (hq2.mono l3) 130 ((hF.cons _).trans me)).mono fun e I5 G l5 ⟨he,hG⟩=>⟨he,q.db b (q.c.da 130 s)::F0,hG.trans me, ?_⟩
   unfold PC.rest
   rw[if_neg (by simp[hh]),if_neg (by simp[hb])]
   exact gY.nil rfl (.refl _)
  ·have hb:q.c.eu (⟨#[40]⟩:ByteArray) s=true:=by simpa using hb
   have hlt:=eM hb
   have hq3:=hq2.mono l3
   refine (qn hq3 d h0 (by omega) ((hF.cons _).trans me)).mono fun e I4 G l4 ⟨he,hG⟩=>⟨_,he,q.db b (q.c.c8 d s)::F0,hG.trans me,fun h=>?_,fun h=>?_⟩
   ·have h:(q.c.c8 d s).over=true:=by simpa using h
    unfold PC.rest
    rw[if_neg (by simp[hh]),if_pos hb,if_pos h]
    exact gY.nil rfl (.refl _)
   ·have h:(q.c.c8 d s).over=false:=by simpa using h
    obtain⟨hd,hde⟩:=jr hlt h
    have hr:q.c.rest nx d s=((nx.ex s.inc).1,(q.c.take (⟨#[41]⟩:ByteArray) (nx.ex s.inc).2).2):=by
     unfold PC.rest
     rw[if_neg (by simp[hh]),if_pos hb,if_neg (by simp[h]),hde]
    rw[hde,hr]
    refine⟨_,rfl,_,PQ.rd (k:=3) (.tail _ (.head _)) rfl,_,rfl,q.cl s,96,F0,.refl _,PQ.spot _ _,by rw[PQ.off];exact (by decide:3+1≤7), ?_⟩
    rw[PQ.fe (by omega),ew (n:=d+1) (by omega)]
    have hq4:=hq3.mono l4
    refine (hx hd b s.inc I4 _ _ hq4 hlt me).mono fun e I5 G5 l5 ⟨t,he,px,hok,hG5⟩=>?_
    refine⟨_,_,_,_,_,_,_,_,_,_,he,q.db b (nx.ex s.inc).2::F0,hG5.trans me,fun b_n=>?_⟩
    refine (eN (hq4.mono l5) _ (s:=(nx.ex s.inc).2) ec).mono fun e I6 G6 l6 ⟨he,hG6⟩=>⟨_,he,q.db b (q.c.take (⟨#[41]⟩:ByteArray) (nx.ex s.inc).2).2::F0,hG6.trans ec.symm, ?_⟩
    exact⟨t,rfl,px,hok.mono l6 fun _ h=>h,.refl _⟩
theorem Gg(hq:q.ok I)(hsn:s.next≤q.c.l.length)(hF:F.Perm (q.db b s::F0)):cU P 159 #[.pointer (some ⟨b,0,none⟩),.int .i64 d] I F (gY q b F0 (q.c.one nx d s)):=by
 have hl:=hq.len
 refine ix.vc ?_
 unfold ix.V
 intro b2
 refine (vy hq ((hF.cons _).trans me)).mono fun e I1 G l1 ⟨t,he,px,hok,hG⟩=>?_
 refine⟨_,_,_,_,_,_,_,_,_,_,_,he,q.db b (q.c.literal s).2::F0,hG.trans me,fun b_n=>⟨fun h=>?_,fun h=>?_⟩⟩
 ·unfold PC.one
  rw[if_pos h]
  exact⟨t,rfl,px,hok,.refl _⟩
 have hls:(q.c.literal s).2=s:=by
  unfold PC.literal at h ⊢
  split
  ·rename_i h1;rw[if_pos h1] at h;cases h
  ·rename_i h1
   rw[if_neg h1] at h
   split
   ·rename_i h2;rw[if_pos h2] at h;cases h
   ·rename_i h2
    rw[if_neg h2] at h
    split
    ·rename_i h3;rw[if_pos h3] at h;cases h
    ·rfl
 rw[hls]
 have hq1:=hq.mono l1
 refine cU.ret (kl hq1 (.tail _ (.tail _ (.head _)))) fun I2 l2=>⟨_,_,_,_,_,rfl,q.db b s::F0,.refl _,fun b_t=>⟨fun hk=>?_,fun hk=>?_⟩⟩
 ·have hk:(q.c.now s).kind=2:=by simpa using hk
  have hlt:=lZ (by rw[hk];decide:(q.c.now s).kind≠0)
  refine⟨_,rfl,_,PQ.rd (k:=3) (.tail _ (.tail _ (.tail _ (.head _)))) rfl,_,rfl,q.cl s,96,F0,.refl _,PQ.spot _ _,by rw[PQ.off];exact (by decide:3+1≤7), ?_⟩
  rw[PQ.fe (by omega)]
  unfold PC.one
  rw[if_neg (by simp[h]),if_pos hk]
  exact gY.nil rfl (.refl _)
 have hk:(q.c.now s).kind≠2:=by simpa using hk
 have hq2:=hq1.mono l2
 intro b3 I3 l3 hb3
 have hq3:=hq2.mono l3
 refine cU.ret (nt hq3 (Sl.words (ws:=kh) hb3 rfl) (by decide) (s:=s) (.tail _ (.tail _ (.tail _ (.head _))))) fun I4 l4=>⟨_,rfl,q.db b s::F0,.refl _,fun ha=>?_,fun ha=>?_⟩
 ·have ha:=of_decide_eq_true ha
  have hab:=o1 ha (by decide)
  have hlt:=(dD ha).1
  refine⟨_,rfl,_,PQ.rd (k:=3) (.tail _ (.tail _ (.tail _ (.head _)))) rfl,_,rfl,q.cl s,96,F0,.refl _,PQ.spot _ _,by rw[PQ.off];exact (by decide:3+1≤7), ?_⟩
  rw[PQ.fe (by omega),ew (n:=q.c.any kh s+1) (by omega),w8 (by omega)]
  unfold PC.one
  rw[if_neg (by simp[h]),if_neg hk,if_pos ha]
  exact gY.nil rfl (.refl _)
 have ha:=of_decide_eq_false ha
 have hq4:=hq3.mono l4
 intro b5 I5 l5 hb5
 have hq5:=hq4.mono l5
 refine cU.ret (nt hq5 (Sl.words (ws:=fA) hb5 rfl) (by decide) (s:=s) (.tail _ (.tail _ (.tail _ (.head _))))) fun I6 l6=>⟨_,rfl,q.db b s::F0,.refl _,fun hc=>?_,fun hc=>?_⟩
 ·have hc:=of_decide_eq_true hc
  have hab:=o1 hc (by decide)
  have hlt:=(dD hc).1
  have hq6:=hq5.mono l6
  have hone:q.c.one nx d s=q.c.call nx d 8 (3+q.c.any fA s) 0 (q.c.now s).pos (if q.c.any fA s=0 then 1 else 2) s:=by
   unfold PC.one
   rw[if_neg (by simp[h]),if_neg hk,if_neg ha,if_pos hc]
  rw[hone,w8 (n:=q.c.any fA s) (by omega),w8 (n:=3+q.c.any fA s) (by omega)]
  refine⟨fun hz=>?_,fun hz=>?_⟩
  ·have hz:q.c.any fA s=0:=by simpa using hz
   rw[if_pos hz]
   refine (zC h0 h1 hx hmx hq6 8 (3+q.c.any fA s) 0 (q.c.now s).pos 1 (by decide) hlt vz).mono fun e I7 G7 l7 ⟨t,he,px,hok,hG7⟩=>?_
   exact⟨_,_,_,_,_,_,_,_,_,_,he,_,hG7.trans vz.symm,t,rfl,px,hok,.refl _⟩
  ·have hz:q.c.any fA s≠0:=by simpa using hz
   rw[if_neg hz]
   refine (zC h0 h1 hx hmx hq6 8 (3+q.c.any fA s) 0 (q.c.now s).pos 2 (by decide) hlt vz).mono fun e I7 G7 l7 ⟨t,he,px,hok,hG7⟩=>?_
   exact⟨_,_,_,_,_,_,_,_,_,_,he,_,hG7.trans vz.symm,t,rfl,px,hok,.refl _⟩
 have hc:=of_decide_eq_false hc
 have hq6:=hq5.mono l6
 intro b7 I7 l7 hb7
 have hq7:=hq6.mono l7
 refine cU.ret (nt hq7 (Sl.words (ws:=jM) hb7 rfl) (by decide) (s:=s) (.tail _ (.tail _ (.tail _ (.head _))))) fun I8 l8=>⟨_,rfl,q.db b s::F0,.refl _,fun hv=>?_,fun hv=>?_⟩
 ·have hv:=of_decide_eq_true hv
  have hab:=o1 hv (by decide)
  have hlt:=(dD hv).1
  have hone:q.c.one nx d s=q.c.call nx d 9 0 (1+q.c.any jM s) (q.c.now s).pos 1 s:=by
   unfold PC.one
   rw[if_neg (by simp[h]),if_neg hk,if_neg ha,if_neg hc,if_pos hv]
  rw[hone,w8 (n:=q.c.any jM s) (by omega),w8 (n:=1+q.c.any jM s) (by omega)]
  refine (zC h0 h1 hx hmx (hq7.mono l8) 9 0 (1+q.c.any jM s) (q.c.now s).pos 1 (by decide) hlt vz).mono fun e I9 G9 l9 ⟨t,he,px,hok,hG9⟩=>?_
  exact⟨_,_,_,_,_,_,_,_,_,_,he,_,hG9.trans vz.symm,t,rfl,px,hok,.refl _⟩
 have hv:=of_decide_eq_false hv
 have hone:q.c.one nx d s=q.c.rest nx d s:=by
  unfold PC.one
  rw[if_neg (by simp[h]),if_neg hk,if_neg ha,if_neg hc,if_neg hv]
 rw[hone]
 refine (E8 h0 h1 hx hmx (hq7.mono l8) hsn vz).mono fun e I9 G9 l9 ⟨t,he,px,hok,hG9⟩=>?_
 exact⟨_,_,_,_,_,_,_,_,_,_,he,_,hG9.trans vz.symm,t,rfl,px,hok,.refl _⟩
theorem DH(hu:d+1≤24→fg 157 q (d+1) nx.un)(hmu:ee q.c nx.un):fg 157 q d (q.c.unary nx d):=by
 intro b s I F F0 hq hsn hF
 have hl:=hq.len
 refine ye.keep ?_
 refine gj.vc ?_
 unfold gj.V
 intro b2 b3 I1 l1 hb3
 have hq1:=hq.mono l1
 have hm:q.db b s∈F:=hF.mem_iff.2 (.head _)
 refine cU.ret (nt hq1 (Sl.words (ws:=lI) hb3 rfl) (by decide) (s:=s) (.tail _ hm)) fun I2 l2=>⟨_,rfl,F,.refl _,fun ha=>?_,fun ha=>?_⟩
 ·have ha:=of_decide_eq_true ha
  refine (Gg h0 h1 hx hmx (hq1.mono l2) hsn ((hF.cons _).trans me)).mono fun e I3 G3 l3 ⟨t,he,px,hok,hG3⟩=>?_
  refine⟨_,_,_,_,_,_,_,_,_,_,he,_,hG3.trans me,gY.own ?_⟩
  unfold PC.unary
  rw[if_pos ha]
  exact⟨t,rfl,px,hok,.refl _⟩
 have ha:=of_decide_eq_false ha
 have hab:=o1 (Int.not_lt.1 ha) (by decide)
 have hlt:=(dD (Int.not_lt.1 ha)).1
 have hq2:=hq1.mono l2
 refine (qn hq2 d h0 (by omega) ((hF.cons _).trans me)).mono fun e I4 G l4 ⟨he,hG⟩=>⟨_,he,q.db b (q.c.c8 d s)::F0,hG.trans me,fun h=>?_,fun h=>?_⟩
 ·have h:(q.c.c8 d s).over=true:=by simpa using h
  refine gY.own ?_
  unfold PC.unary
  rw[if_neg ha,if_pos h]
  exact gY.nil rfl (.refl _)
 have h:(q.c.c8 d s).over=false:=by simpa using h
 obtain⟨hd,hde⟩:=jr hlt h
 have hr:q.c.unary nx d s=(.mk 5 (1+q.c.any lI s) 0 0 0 ⟨#[]⟩ [(nx.un s.inc).1] (q.c.now s).pos,(nx.un s.inc).2):=by
  unfold PC.unary
  rw[if_neg ha,if_neg (by simp[h]),hde]
 rw[hde,hr,w8 (n:=q.c.any lI s) (by omega),w8 (n:=1+q.c.any lI s) (by omega)]
 have hq4:=hq2.mono l4
 refine cU.ret (kl hq4 (s:=s) (.tail _ (.head _))) fun I5 l5=>⟨_,_,_,_,_,rfl,q.db b s::F0,.refl _,fun b_n=>?_⟩
 refine⟨_,rfl,_,PQ.rd (k:=3) (.tail _ (.tail _ (.head _))) rfl,_,rfl,q.cl s,96,F0,.refl _,PQ.spot _ _,by rw[PQ.off];exact (by decide:3+1≤7), ?_⟩
 rw[PQ.fe (by omega),ew (n:=d+1) (by omega)]
 have hq5:=hq4.mono l5
 refine (hu hd b s.inc I5 _ _ hq5 hlt ec).mono fun e I6 G6 l6 ⟨t,he,px,hok,hG6⟩=>?_
 refine⟨_,_,_,_,_,_,_,_,_,_,he,q.db b (nx.un s.inc).2::F0,hG6.trans ec.symm,fun b_k b4 I7 l7 hb4=>?_⟩
 refine (tX (ks:=[]) (A:=[]) Acc.nil (by decide) t hb4 (.refl _)).mono fun v I8 G8 l8 ⟨a',n',c',A',hv,hA',hG8⟩=>⟨a',n',c',hv,q.db b (nx.un s.inc).2::(A'++F0),hG8.trans BD.symm, ?_⟩
 have hn:=hA'.1
 subst hn
 refine⟨.mk 5 (1+q.c.any lI s) 0 0 0 ⟨#[]⟩ a' c' ([]++[t]) (q.c.now s).pos,A',rfl, ?_,.inl hA',fun k hk=>?_,.refl _⟩
 ·simp only[List.nil_append,Nd.px,Nd.qO,px]
 ·have hk:k∈[t]:=hk
  rw[List.mem_singleton] at hk;subst hk
  exact hok.mono (cS.le_trans l7 l8) fun _ h=>h
end
end Go.Lx
namespace Go.Lx
open Go.Vc
theorem nb{c:PC}{ws:List ByteArray}{o:Int}{sub:PS→Px×PS}{n:Px}{s:PS}(h:c.any ws s<0):∀m,c.fq ws o sub m n s=(n,s)
 | 0=>rfl
 | m+1=>by rw[PC.fq,if_pos h]
theorem rZ{c:PC}{w:ByteArray}{s:PS}:c.any [w] s=if c.eu w s then 0 else -1:=rfl
section
variable {q:PQ} {nx:Lv} {d:Int} (h0:0≤d) (h1:d≤24)
include h0 h1
theorem BE{g:PS→Px×PS}(hg:fg 157 q d g)(hm:ee q.c g):fg 152 q d (q.c.loop tT 8 g):=by
 have _:=h0
 have _:=h1
 intro b s I F F0 hq hsn hF
 have hl:=hq.len
 refine fC.vc (fun x0 x1 x2 x3 x4 x5 xa xn xc x7 n0 n1 n2 n3 n4 n5 na nn nc n7 m I' F'=>q.ok I'∧∃(t:Nd) (s':PS) (k:Nat),t.v=(.agg #[.int .u8 n0,.int .u8 n1,.int .u8 n2,.int .i64 n3,.int .u8 n4,.string n5,.slice na nn nc,.int .i64 n7])∧dO I' [] t∧F'.Perm (q.db b s'::F0)∧s'.next≤q.c.l.length∧m=q.c.l.length-s'.next∧q.c.l.length≤s'.next+k∧q.c.loop tT 8 g s=q.c.fq tT 8 g k t.px s') ?_
 unfold fC.V
 intro b2
 refine (hg b s I _ _ hq hsn ((hF.cons _).trans me)).mono fun e I1 G1 l1 ⟨t,he,px,hok,hG1⟩=>?_
 refine⟨_,_,_,_,_,_,_,_,_,_,he,q.db b (g s).2::F0,hG1.trans me,fun b_n=>⟨⟨_,hq.mono l1,t,(g s).2,q.c.l.length,rfl,hok,.refl _,(hm s).2 hsn,rfl,by omega,by rw[px];rfl⟩, ?_⟩⟩
 intro x0 x1 x2 x3 x4 x5 xa xn xc x7 n0 n1 n2 n3 n4 n5 na nn nc n7 m I2 F2 l2 ⟨hq2,t,s',k,htv,hok,hF2,hsn',hme,hfu,hres⟩
 simp only[Nd.v,Value.agg.injEq,Array.mk.injEq,List.cons.injEq,Value.int.injEq,Value.string.injEq,Value.slice.injEq,true_and,and_true] at htv
 obtain⟨rfl,rfl,rfl,rfl,rfl,rfl,⟨rfl,rfl,rfl⟩,rfl⟩:=htv
 have hm2:q.db b s'∈F2:=hF2.mem_iff.2 (.head _)
 intro b3 I3 l3 hb3
 have hq3:=hq2.mono l3
 refine cU.ret (nt hq3 (Sl.words (ws:=tT) hb3 rfl) (by decide) (s:=s') (.tail _ (.tail _ hm2))) fun I4 l4=>⟨_,rfl,F2,.refl _,fun ha=>?_,fun ha=>?_⟩
 ·have ha:=of_decide_eq_true ha
  rw[hres,nb ha]
  exact⟨t,rfl,rfl,hok.mono (cS.le_trans l3 l4) fun _ h=>h,hF2⟩
 have ha:=of_decide_eq_false ha
 have hab:=o1 (Int.not_lt.1 ha) (by decide)
 have hlt:=(dD (Int.not_lt.1 ha)).1
 have l24:=cS.le_trans l3 l4
 have hna:=ha
 rw[w8 (n:=q.c.any tT s') (by omega),w8 (n:=8+q.c.any tT s') (by omega)]
 have hq4:=hq2.mono l24
 refine cU.ret (kl hq4 (s:=s') (.tail _ (.tail _ hm2))) fun I5 l5=>⟨_,_,_,_,_,rfl,F2,.refl _, ?_⟩
 refine⟨_,rfl,_,PQ.rd (k:=3) (.tail _ (.tail _ hm2)) rfl,_,rfl,q.cl s',96,F0,hF2,PQ.spot _ _,by rw[PQ.off];exact (by decide:3+1≤7), ?_⟩
 rw[PQ.fe (by omega)]
 have hq5:=hq4.mono l5
 refine (hg b s'.inc I5 _ _ hq5 hlt ec).mono fun e I6 G6 l6 ⟨t2,he,px2,hok2,hG6⟩=>?_
 refine⟨_,_,_,_,_,_,_,_,_,_,he,q.db b (g s'.inc).2::F0,hG6.trans ec.symm,fun b_k=>?_⟩
 refine (yg (8+q.c.any tT s') (q.c.now s').pos t t2 I6 _ (hok.mono (cS.le_trans l24 (cS.le_trans l5 l6)) fun _ h=>h) hok2).mono fun e I7 G7 l7 ⟨t3,he,px3,hok3,hG7⟩=>?_
 subst hG7
 have hup:=hm s'.inc
 have hup1:=hup.1
 rw[gJ] at hup1
 have hup2:=hup.2 hlt
 obtain⟨k',rfl⟩:∃k',k=k'+1:=⟨k-1,by omega⟩
 refine⟨_,_,_,_,_,_,_,_,_,_,he,q.db b (g s'.inc).2::F0,.refl _,q.c.l.length-(g s'.inc).2.next,by omega,(hq5.mono l6).mono l7,t3,(g s'.inc).2,k',rfl,hok3,.refl _,hup2,rfl,by omega, ?_⟩
 rw[hres,PC.fq,if_neg hna,px3,px2]
theorem Gh{g:PS→Px×PS}(hg:fg 152 q d g)(hm:ee q.c g):fg 144 q d (q.c.loop uS 6 g):=by
 have _:=h0
 have _:=h1
 intro b s I F F0 hq hsn hF
 have hl:=hq.len
 refine iy.vc (fun x0 x1 x2 x3 x4 x5 xa xn xc x7 n0 n1 n2 n3 n4 n5 na nn nc n7 m I' F'=>q.ok I'∧∃(t:Nd) (s':PS) (k:Nat),t.v=(.agg #[.int .u8 n0,.int .u8 n1,.int .u8 n2,.int .i64 n3,.int .u8 n4,.string n5,.slice na nn nc,.int .i64 n7])∧dO I' [] t∧F'.Perm (q.db b s'::F0)∧s'.next≤q.c.l.length∧m=q.c.l.length-s'.next∧q.c.l.length≤s'.next+k∧q.c.loop uS 6 g s=q.c.fq uS 6 g k t.px s') ?_
 unfold iy.V
 intro b2
 refine (hg b s I _ _ hq hsn ((hF.cons _).trans me)).mono fun e I1 G1 l1 ⟨t,he,px,hok,hG1⟩=>?_
 refine⟨_,_,_,_,_,_,_,_,_,_,he,q.db b (g s).2::F0,hG1.trans me,fun b_n=>⟨⟨_,hq.mono l1,t,(g s).2,q.c.l.length,rfl,hok,.refl _,(hm s).2 hsn,rfl,by omega,by rw[px];rfl⟩, ?_⟩⟩
 intro x0 x1 x2 x3 x4 x5 xa xn xc x7 n0 n1 n2 n3 n4 n5 na nn nc n7 m I2 F2 l2 ⟨hq2,t,s',k,htv,hok,hF2,hsn',hme,hfu,hres⟩
 simp only[Nd.v,Value.agg.injEq,Array.mk.injEq,List.cons.injEq,Value.int.injEq,Value.string.injEq,Value.slice.injEq,true_and,and_true] at htv
 obtain⟨rfl,rfl,rfl,rfl,rfl,rfl,⟨rfl,rfl,rfl⟩,rfl⟩:=htv
 have hm2:q.db b s'∈F2:=hF2.mem_iff.2 (.head _)
 intro b3 I3 l3 hb3
 have hq3:=hq2.mono l3
 refine cU.ret (nt hq3 (Sl.words (ws:=uS) hb3 rfl) (by decide) (s:=s') (.tail _ (.tail _ hm2))) fun I4 l4=>⟨_,rfl,F2,.refl _,fun ha=>?_,fun ha=>?_⟩
 ·have ha:=of_decide_eq_true ha
  rw[hres,nb ha]
  exact⟨t,rfl,rfl,hok.mono (cS.le_trans l3 l4) fun _ h=>h,hF2⟩
 have ha:=of_decide_eq_false ha
 have hab:=o1 (Int.not_lt.1 ha) (by decide)
 have hlt:=(dD (Int.not_lt.1 ha)).1
 have l24:=cS.le_trans l3 l4
 have hna:=ha
 rw[w8 (n:=q.c.any uS s') (by omega),w8 (n:=6+q.c.any uS s') (by omega)]
 have hq4:=hq2.mono l24
 refine cU.ret (kl hq4 (s:=s') (.tail _ (.tail _ hm2))) fun I5 l5=>⟨_,_,_,_,_,rfl,F2,.refl _, ?_⟩
 refine⟨_,rfl,_,PQ.rd (k:=3) (.tail _ (.tail _ hm2)) rfl,_,rfl,q.cl s',96,F0,hF2,PQ.spot _ _,by rw[PQ.off];exact (by decide:3+1≤7), ?_⟩
 rw[PQ.fe (by omega)]
 have hq5:=hq4.mono l5
 refine (hg b s'.inc I5 _ _ hq5 hlt ec).mono fun e I6 G6 l6 ⟨t2,he,px2,hok2,hG6⟩=>?_
 refine⟨_,_,_,_,_,_,_,_,_,_,he,q.db b (g s'.inc).2::F0,hG6.trans ec.symm,fun b_k=>?_⟩
 refine (yg (6+q.c.any uS s') (q.c.now s').pos t t2 I6 _ (hok.mono (cS.le_trans l24 (cS.le_trans l5 l6)) fun _ h=>h) hok2).mono fun e I7 G7 l7 ⟨t3,he,px3,hok3,hG7⟩=>?_
 subst hG7
 have hup:=hm s'.inc
 have hup1:=hup.1
 rw[gJ] at hup1
 have hup2:=hup.2 hlt
 obtain⟨k',rfl⟩:∃k',k=k'+1:=⟨k-1,by omega⟩
 refine⟨_,_,_,_,_,_,_,_,_,_,he,q.db b (g s'.inc).2::F0,.refl _,q.c.l.length-(g s'.inc).2.next,by omega,(hq5.mono l6).mono l7,t3,(g s'.inc).2,k',rfl,hok3,.refl _,hup2,rfl,by omega, ?_⟩
 rw[hres,PC.fq,if_neg hna,px3,px2]
theorem Gi{g:PS→Px×PS}(hg:fg 129 q d g)(hm:ee q.c g):fg 116 q d (q.c.loop uT 17 g):=by
 have _:=h0
 have _:=h1
 intro b s I F F0 hq hsn hF
 have hl:=hq.len
 refine iz.vc (fun x0 x1 x2 x3 x4 x5 xa xn xc x7 n0 n1 n2 n3 n4 n5 na nn nc n7 m I' F'=>q.ok I'∧∃(t:Nd) (s':PS) (k:Nat),t.v=(.agg #[.int .u8 n0,.int .u8 n1,.int .u8 n2,.int .i64 n3,.int .u8 n4,.string n5,.slice na nn nc,.int .i64 n7])∧dO I' [] t∧F'.Perm (q.db b s'::F0)∧s'.next≤q.c.l.length∧m=q.c.l.length-s'.next∧q.c.l.length≤s'.next+k∧q.c.loop uT 17 g s=q.c.fq uT 17 g k t.px s') ?_
 unfold iz.V
 intro b2
 refine (hg b s I _ _ hq hsn ((hF.cons _).trans me)).mono fun e I1 G1 l1 ⟨t,he,px,hok,hG1⟩=>?_
 refine⟨_,_,_,_,_,_,_,_,_,_,he,q.db b (g s).2::F0,hG1.trans me,fun b_n=>⟨⟨_,hq.mono l1,t,(g s).2,q.c.l.length,rfl,hok,.refl _,(hm s).2 hsn,rfl,by omega,by rw[px];rfl⟩, ?_⟩⟩
 intro x0 x1 x2 x3 x4 x5 xa xn xc x7 n0 n1 n2 n3 n4 n5 na nn nc n7 m I2 F2 l2 ⟨hq2,t,s',k,htv,hok,hF2,hsn',hme,hfu,hres⟩
 simp only[Nd.v,Value.agg.injEq,Array.mk.injEq,List.cons.injEq,Value.int.injEq,Value.string.injEq,Value.slice.injEq,true_and,and_true] at htv
 obtain⟨rfl,rfl,rfl,rfl,rfl,rfl,⟨rfl,rfl,rfl⟩,rfl⟩:=htv
 have hm2:q.db b s'∈F2:=hF2.mem_iff.2 (.head _)
 refine cU.ret (pG hq2 _ (s:=s') (.tail _ (.tail _ hm2))) fun I4 l24=>⟨_,rfl,F2,.refl _,fun ha=>?_,fun ha=>?_⟩
 ·have ha:q.c.eu (⟨#[38,38]⟩:ByteArray) s'=false:=by simpa using ha
  rw[hres,nb (by unfold uT;rw[rZ,if_neg (by simp[ha])];decide)]
  exact⟨t,rfl,rfl,hok.mono l24 fun _ h=>h,hF2⟩
 have ha:q.c.eu (⟨#[38,38]⟩:ByteArray) s'=true:=by simpa using ha
 have hlt:=eM ha
 have hz:q.c.any uT s'=0:=by unfold uT;rw[rZ,if_pos ha]
 have hna:¬q.c.any uT s'<0:=by omega
 have hq4:=hq2.mono l24
 refine cU.ret (kl hq4 (s:=s') (.tail _ (.tail _ hm2))) fun I5 l5=>⟨_,_,_,_,_,rfl,F2,.refl _, ?_⟩
 refine⟨_,rfl,_,PQ.rd (k:=3) (.tail _ (.tail _ hm2)) rfl,_,rfl,q.cl s',96,F0,hF2,PQ.spot _ _,by rw[PQ.off];exact (by decide:3+1≤7), ?_⟩
 rw[PQ.fe (by omega)]
 have hq5:=hq4.mono l5
 refine (hg b s'.inc I5 _ _ hq5 hlt ec).mono fun e I6 G6 l6 ⟨t2,he,px2,hok2,hG6⟩=>?_
 refine⟨_,_,_,_,_,_,_,_,_,_,he,q.db b (g s'.inc).2::F0,hG6.trans ec.symm,fun b_k=>?_⟩
 refine (yg (17) (q.c.now s').pos t t2 I6 _ (hok.mono (cS.le_trans l24 (cS.le_trans l5 l6)) fun _ h=>h) hok2).mono fun e I7 G7 l7 ⟨t3,he,px3,hok3,hG7⟩=>?_
 subst hG7
 have hup:=hm s'.inc
 have hup1:=hup.1
 rw[gJ] at hup1
 have hup2:=hup.2 hlt
 obtain⟨k',rfl⟩:∃k',k=k'+1:=⟨k-1,by omega⟩
 refine⟨_,_,_,_,_,_,_,_,_,_,he,q.db b (g s'.inc).2::F0,.refl _,q.c.l.length-(g s'.inc).2.next,by omega,(hq5.mono l6).mono l7,t3,(g s'.inc).2,k',rfl,hok3,.refl _,hup2,rfl,by omega, ?_⟩
 rw[hres,PC.fq,if_neg hna,px3,px2,hz]
 try rfl
theorem Hl{g:PS→Px×PS}(hg:fg 116 q d g)(hm:ee q.c g):fg 93 q d (q.c.loop Dn 18 g):=by
 have _:=h0
 have _:=h1
 intro b s I F F0 hq hsn hF
 have hl:=hq.len
 refine iW.vc (fun x0 x1 x2 x3 x4 x5 xa xn xc x7 n0 n1 n2 n3 n4 n5 na nn nc n7 m I' F'=>q.ok I'∧∃(t:Nd) (s':PS) (k:Nat),t.v=(.agg #[.int .u8 n0,.int .u8 n1,.int .u8 n2,.int .i64 n3,.int .u8 n4,.string n5,.slice na nn nc,.int .i64 n7])∧dO I' [] t∧F'.Perm (q.db b s'::F0)∧s'.next≤q.c.l.length∧m=q.c.l.length-s'.next∧q.c.l.length≤s'.next+k∧q.c.loop Dn 18 g s=q.c.fq Dn 18 g k t.px s') ?_
 unfold iW.V
 intro b2
 refine (hg b s I _ _ hq hsn ((hF.cons _).trans me)).mono fun e I1 G1 l1 ⟨t,he,px,hok,hG1⟩=>?_
 refine⟨_,_,_,_,_,_,_,_,_,_,he,q.db b (g s).2::F0,hG1.trans me,fun b_n=>⟨⟨_,hq.mono l1,t,(g s).2,q.c.l.length,rfl,hok,.refl _,(hm s).2 hsn,rfl,by omega,by rw[px];rfl⟩, ?_⟩⟩
 intro x0 x1 x2 x3 x4 x5 xa xn xc x7 n0 n1 n2 n3 n4 n5 na nn nc n7 m I2 F2 l2 ⟨hq2,t,s',k,htv,hok,hF2,hsn',hme,hfu,hres⟩
 simp only[Nd.v,Value.agg.injEq,Array.mk.injEq,List.cons.injEq,Value.int.injEq,Value.string.injEq,Value.slice.injEq,true_and,and_true] at htv
 obtain⟨rfl,rfl,rfl,rfl,rfl,rfl,⟨rfl,rfl,rfl⟩,rfl⟩:=htv
 have hm2:q.db b s'∈F2:=hF2.mem_iff.2 (.head _)
 refine cU.ret (pG hq2 _ (s:=s') (.tail _ (.tail _ hm2))) fun I4 l24=>⟨_,rfl,F2,.refl _,fun ha=>?_,fun ha=>?_⟩
 ·have ha:q.c.eu (⟨#[124,124]⟩:ByteArray) s'=false:=by simpa using ha
  rw[hres,nb (by unfold Dn;rw[rZ,if_neg (by simp[ha])];decide)]
  exact⟨t,rfl,rfl,hok.mono l24 fun _ h=>h,hF2⟩
 have ha:q.c.eu (⟨#[124,124]⟩:ByteArray) s'=true:=by simpa using ha
 have hlt:=eM ha
 have hz:q.c.any Dn s'=0:=by unfold Dn;rw[rZ,if_pos ha]
 have hna:¬q.c.any Dn s'<0:=by omega
 have hq4:=hq2.mono l24
 refine cU.ret (kl hq4 (s:=s') (.tail _ (.tail _ hm2))) fun I5 l5=>⟨_,_,_,_,_,rfl,F2,.refl _, ?_⟩
 refine⟨_,rfl,_,PQ.rd (k:=3) (.tail _ (.tail _ hm2)) rfl,_,rfl,q.cl s',96,F0,hF2,PQ.spot _ _,by rw[PQ.off];exact (by decide:3+1≤7), ?_⟩
 rw[PQ.fe (by omega)]
 have hq5:=hq4.mono l5
 refine (hg b s'.inc I5 _ _ hq5 hlt ec).mono fun e I6 G6 l6 ⟨t2,he,px2,hok2,hG6⟩=>?_
 refine⟨_,_,_,_,_,_,_,_,_,_,he,q.db b (g s'.inc).2::F0,hG6.trans ec.symm,fun b_k=>?_⟩
 refine (yg (18) (q.c.now s').pos t t2 I6 _ (hok.mono (cS.le_trans l24 (cS.le_trans l5 l6)) fun _ h=>h) hok2).mono fun e I7 G7 l7 ⟨t3,he,px3,hok3,hG7⟩=>?_
 subst hG7
 have hup:=hm s'.inc
 have hup1:=hup.1
 rw[gJ] at hup1
 have hup2:=hup.2 hlt
 obtain⟨k',rfl⟩:∃k',k=k'+1:=⟨k-1,by omega⟩
 refine⟨_,_,_,_,_,_,_,_,_,_,he,q.db b (g s'.inc).2::F0,.refl _,q.c.l.length-(g s'.inc).2.next,by omega,(hq5.mono l6).mono l7,t3,(g s'.inc).2,k',rfl,hok3,.refl _,hup2,rfl,by omega, ?_⟩
 rw[hres,PC.fq,if_neg hna,px3,px2,hz]
 try rfl
end
end Go.Lx
namespace Go.Lx
open Go.Vc
section
variable {q:PQ} {nx:Lv} {d:Int} (h0:0≤d) (h1:d≤24)
include h0 h1
theorem BF(hg:fg 144 q d (q.c.sum nx d))(hm:ee q.c (q.c.sum nx d)):fg 129 q d (q.c.compare nx d):=by
 have _:=h0
 have _:=h1
 intro b s I F F0 hq hsn hF
 have hl:=hq.len
 refine fD.vc ?_
 unfold fD.V
 intro b2
 refine (hg b s I _ _ hq hsn ((hF.cons _).trans me)).mono fun e I1 G1 l1 ⟨t,he,px,hok,hG1⟩=>?_
 unfold PC.compare
 have hs2:=(hm s).2 hsn
 generalize hgs:q.c.sum nx d s=n at px hG1 hs2 ⊢
 refine⟨_,_,_,_,_,_,_,_,_,_,he,q.db b n.2::F0,hG1.trans me,fun b_n b3 I2 l2 hb3=>?_⟩
 have hq2:=(hq.mono l1).mono l2
 refine cU.ret (nt hq2 (Sl.words (ws:=lU) hb3 rfl) (by decide) (s:=n.2) (.tail _ (.tail _ (.head _)))) fun I3 l3=>⟨_,rfl,q.db b n.2::F0,.refl _,fun ha=>?_,fun ha=>?_⟩
 ·have ha:=of_decide_eq_true ha
  show gY q b F0 (if q.c.any lU n.2<0 then n else _) _ _ _
  rw[if_pos ha]
  exact⟨t,rfl,px,hok.mono (cS.le_trans l2 l3) fun _ h=>h,.refl _⟩
 have ha:=of_decide_eq_false ha
 have hab:=o1 (Int.not_lt.1 ha) (by decide)
 have hlt:=(dD (Int.not_lt.1 ha)).1
 have hq3:=hq2.mono l3
 rw[w8 (n:=q.c.any lU n.2) (by omega),w8 (n:=11+q.c.any lU n.2) (by omega)]
 refine cU.ret (kl hq3 (s:=n.2) (.tail _ (.tail _ (.head _)))) fun I4 l4=>⟨_,_,_,_,_,rfl,q.db b n.2::F0,.refl _, ?_⟩
 refine⟨_,rfl,_,PQ.rd (k:=3) (.tail _ (.tail _ (.head _))) rfl,_,rfl,q.cl n.2,96,F0,.refl _,PQ.spot _ _,by rw[PQ.off];exact (by decide:3+1≤7), ?_⟩
 rw[PQ.fe (by omega)]
 have hq4:=hq3.mono l4
 refine (hg b n.2.inc I4 _ _ hq4 hlt ec).mono fun e I5 G5 l5 ⟨t2,he,px2,hok2,hG5⟩=>?_
 refine⟨_,_,_,_,_,_,_,_,_,_,he,q.db b (q.c.sum nx d n.2.inc).2::F0,hG5.trans ec.symm,fun b_k=>?_⟩
 refine (yg (11+q.c.any lU n.2) (q.c.now n.2).pos t t2 I5 _ (hok.mono (cS.le_trans l2 (cS.le_trans l3 (cS.le_trans l4 l5))) fun _ h=>h) hok2).mono fun e I6 G6 l6 ⟨t3,he,px3,hok3,hG⟩=>?_
 subst hG
 refine⟨_,_,_,_,_,_,_,_,_,_,he,q.db b (q.c.sum nx d n.2.inc).2::F0,.refl _, ?_⟩
 show gY q b F0 (if q.c.any lU n.2<0 then n else _) _ _ _
 rw[if_neg ha]
 exact⟨t3,rfl,by rw[px3,px,px2],hok3,.refl _⟩
theorem E9(hg:fg 93 q d (q.c.or nx d))(hm:ee q.c (q.c.or nx d))(hx:d+1≤24→fg 48 q (d+1) nx.ex)(hmx:ee q.c nx.ex):fg 48 q d (q.c.expr nx d):=by
 intro b s I F F0 hq hsn hF
 have hl:=hq.len
 refine gX.vc ?_
 unfold gX.V
 intro b2
 refine (hg b s I _ _ hq hsn ((hF.cons _).trans me)).mono fun e I1 G1 l1 ⟨t,he,px,hok,hG1⟩=>?_
 unfold PC.expr
 have hs2:=(hm s).2 hsn
 generalize hgs:q.c.or nx d s=n at px hG1 hs2 ⊢
 refine⟨_,_,_,_,_,_,_,_,_,_,he,q.db b n.2::F0,hG1.trans me,fun b_n=>?_⟩
 have hq1:=hq.mono l1
 refine cU.ret (pG hq1 _ (s:=n.2) (.tail _ (.tail _ (.head _)))) fun I2 l2=>⟨_,rfl,q.db b n.2::F0,.refl _,fun ha=>?_,fun ha=>?_⟩
 ·have ha:q.c.eu (⟨#[63]⟩:ByteArray) n.2=false:=by simpa using ha
  show gY q b F0 (if q.c.eu (⟨#[63]⟩:ByteArray) n.2 then _ else n) _ _ _
  rw[if_neg (by simp[ha])]
  exact⟨t,rfl,px,hok.mono l2 fun _ h=>h,.refl _⟩
 have ha:q.c.eu (⟨#[63]⟩:ByteArray) n.2=true:=by simpa using ha
 have hlt:=eM ha
 have hq2:=hq1.mono l2
 refine (qn hq2 d h0 (by omega) (s:=n.2) ec).mono fun e I3 G l3 ⟨he,hG⟩=>⟨_,he,q.db b (q.c.c8 d n.2)::F0,hG.trans ec.symm,fun h=>?_,fun h=>?_⟩
 ·have h:(q.c.c8 d n.2).over=true:=by simpa using h
  show gY q b F0 (if q.c.eu (⟨#[63]⟩:ByteArray) n.2 then (if (q.c.c8 d n.2).over then (gO,q.c.c8 d n.2) else _) else n) _ _ _
  rw[if_pos ha,if_pos h]
  exact gY.nil rfl (.refl _)
 have h:(q.c.c8 d n.2).over=false:=by simpa using h
 obtain⟨hd,hde⟩:=jr hlt h
 rw[hde]
 have hq3:=hq2.mono l3
 refine cU.ret (kl hq3 (s:=n.2) (.tail _ (.tail _ (.head _)))) fun I4 l4=>⟨_,_,_,_,_,rfl,q.db b n.2::F0,.refl _, ?_⟩
 refine⟨_,rfl,_,PQ.rd (k:=3) (.tail _ (.tail _ (.head _))) rfl,_,rfl,q.cl n.2,96,F0,.refl _,PQ.spot _ _,by rw[PQ.off];exact (by decide:3+1≤7), ?_⟩
 rw[PQ.fe (by omega),ew (n:=d+1) (by omega)]
 have hq4:=hq3.mono l4
 refine (hx hd b n.2.inc I4 _ _ hq4 hlt ec).mono fun e I5 G5 l5 ⟨t2,he,px2,hok2,hG5⟩=>?_
 refine⟨_,_,_,_,_,_,_,_,_,_,he,q.db b (nx.ex n.2.inc).2::F0,hG5.trans ec.symm,fun b_a=>?_⟩
 have hq5:=hq4.mono l5
 have hn5:=(hmx n.2.inc).2 hlt
 refine (eN hq5 _ (s:=(nx.ex n.2.inc).2) vz).mono fun e I6 G6 l6 ⟨he,hG6⟩=>⟨_,he,q.db b (q.c.take (⟨#[58]⟩:ByteArray) (nx.ex n.2.inc).2).2::F0,hG6.trans vz.symm, ?_⟩
 have hq6:=hq5.mono l6
 have hn6:=(Up.take (c:=q.c) (s:=(nx.ex n.2.inc).2) (⟨#[58]⟩:ByteArray)).2 hn5
 refine (hx hd b (q.c.take (⟨#[58]⟩:ByteArray) (nx.ex n.2.inc).2).2 I6 _ _ hq6 hn6 vz).mono fun e I7 G7 l7 ⟨t3,he,px3,hok3,hG7⟩=>?_
 refine⟨_,_,_,_,_,_,_,_,_,_,he,q.db b (nx.ex (q.c.take (⟨#[58]⟩:ByteArray) (nx.ex n.2.inc).2).2).2::F0,hG7.trans vz.symm,fun b_b b4 I8 l8 hb4=>?_⟩
 show gY q b F0 (if q.c.eu (⟨#[63]⟩:ByteArray) n.2 then (if (q.c.c8 d n.2).over then _ else _) else n) _ _ _
 rw[if_pos ha,if_neg (by simp[h])]
 refine⟨.mk 7 0 0 0 0 ⟨#[]⟩ (some ⟨b4,0,none⟩) 3 [t,t2,t3] (q.c.now n.2).pos,rfl, ?_,dO.yf hb4 (fun k hk=>?_) .., ?_⟩
 ·simp only[Nd.px,Nd.qO,px,px2,px3]
  rw[hde]
 ·simp only[List.mem_cons,List.not_mem_nil,or_false] at hk
  rcases hk with rfl | rfl | rfl
  ·exact hok.mono (cS.le_trans l2 (cS.le_trans l3 (cS.le_trans l4 (cS.le_trans l5 (cS.le_trans l6 (cS.le_trans l7 l8)))))) fun _ h=>h
  ·exact hok2.mono (cS.le_trans l6 (cS.le_trans l7 l8)) fun _ h=>h
  ·exact hok3.mono l8 fun _ h=>h
 ·rw[hde]
theorem Ay(hx:d+1≤24→fg 48 q (d+1) nx.ex)(hmx:ee q.c nx.ex)(hu:d+1≤24→fg 157 q (d+1) nx.un)(hmu:ee q.c nx.un) :
  fg 48 q d (q.c.expr nx d)∧fg 157 q d (q.c.unary nx d):=by
 have e1:=DH h0 h1 hx hmx hu hmu
 have e2:=BE h0 h1 e1 (Up.unary hmx hmu d)
 have e3:=Gh h0 h1 e2 (Up.product hmx hmu d)
 have e4:=BF h0 h1 e3 (Up.sum hmx hmu d)
 have e5:=Gi h0 h1 e4 (Up.compare hmx hmu d)
 have e6:=Hl h0 h1 e5 (Up.and hmx hmu d)
 exact⟨E9 h0 h1 e6 (Up.or hmx hmu d) hx hmx,e1⟩
end
theorem CQ{q:PQ}:∀(k:Nat) (d:Int),0≤d→d≤24→24≤d+k→fg 48 q d (q.c.lvl k d).ex∧fg 157 q d (q.c.lvl k d).un
 | 0,d,h0,h1,h2=>Ay h0 h1 (fun h=>by omega) (fun s=>.refl) (fun h=>by omega) (fun s=>.refl)
 | k+1,d,h0,h1,h2=>Ay h0 h1 (fun h=>(CQ k (d+1) (by omega) h (by omega)).1) (Up.lvl k (d+1)).1 (fun h=>(CQ k (d+1) (by omega) h (by omega)).2) (Up.lvl k (d+1)).2
theorem tY{q:PQ}:fg 48 q 0 q.c.eX:=(CQ 24 0 (by decide) (by decide) (by decide)).1
end Go.Lx
namespace Go.Lx
open Go.Vc Go.Proofs.Tryz
def nQ:List (Nat×List Sh):=[(0,[]),(3,[.one (.int .i64)]),(4,[.one .bool]),(9,[.one .str]),(39,[.one .slc]),(40,[.one .slc]),(41,[.one .slc]),(43,[.agg [.str,.slc,.slc,.slc]]),(50,[.agg [(.int .i64),(.int .i64),.bool]]),(64,[.agg [(.int .u8),(.int .u8),(.int .u8),(.int .i64),(.int .u8),.str,.slc,(.int .i64)]]),(76,[.agg [(.int .u8),.str,(.int .u8),(.int .i64),(.int .i64)]]),(86,[.one .slc]),(88,[.agg [.str,.slc,(.int .i64)]]),(93,[.one .ptr]),(104,[.agg [.str,(.int .u8),(.int .u8),(.int .u8),(.int .u8),(.int .i64),(.int .u8),.str,.slc,(.int .i64),(.int .i64)]]),(108,[.one .slc]),(110,[.agg [(.int .u8),(.int .u8),(.int .u8),(.int .i64),(.int .u8),.str,.slc,(.int .i64),.slc,(.int .i64)]]),(112,[.one (.int .u8)]),(114,[.agg [(.int .u8),(.int .u8),.str,(.int .u8),(.int .u8),(.int .u8),(.int .i64),(.int .u8),.str,.slc,(.int .i64),(.int .u8),(.int .u8),(.int .u8),(.int .i64),(.int .u8),.str,.slc,(.int .i64),(.int .u8),(.int .u8),(.int .u8),(.int .i64),(.int .u8),.str,.slc,(.int .i64),(.int .u8),(.int .u8),(.int .u8),(.int .i64),(.int .u8),.str,.slc,(.int .i64),(.int .i64)]]),(208,[.agg [(.int .u8),(.int .u8),(.int .u8),(.int .i64),(.int .u8),.str,.slc,(.int .i64)],.one .bool])]
def iA.V(ka:Nat→Bs→Int→Int→Int→Int→Int→Int→Bs→OA→Nat→Nat→Int→Int→Nat×Obj)(nO:Int→Int→Int→Int→Int→Bs→OA→Nat→Nat→Int→Obj)(vb vi:Int→Value)(vs:Bs→Value)(vl:OA→Nat→Nat→Value)(vp:OA→Value)(p:Addr)(I:cS)(F:cR)(Q:cT)(Inv28:Bs→Int→Int→Int→Int→Int→Int→Bs→OA→Nat→Nat→Int→Int→cS→cR→Prop)(Inv46:cS→cR→Prop):Prop:=∀b:Nat,dt P 74 (#[vp (some p),vs (⟨#[114,101,103]⟩:Bs)]) I ((ka b (⟨#[]⟩:Bs) 0 0 0 0 0 0 (⟨#[]⟩:Bs) none 0 0 0 0)::·) F vi fun r I1 F1=>∀a:Nat,dt P 75 (#[vp (some p)]) I1 ((ka b (⟨#[]⟩:Bs) 0 0 0 0 0 0 (⟨#[]⟩:Bs) none 0 0 0 0)::(ka a (⟨#[]⟩:Bs) 0 0 0 0 0 0 (⟨#[]⟩:Bs) none 0 0 0 r)::·) F1 vs fun r1 I2 F2=>∀(b1:Nat) (I3:cS),cS.le I2 I3→I3 b1=some (Obj.cells #[vs (⟨#[105,110,116]⟩:Bs),vs (⟨#[113,116,121]⟩:Bs),vs (⟨#[112,114,105,99,101]⟩:Bs),vs (⟨#[116,105,109,101]⟩:Bs),vs (⟨#[98,111,111,108]⟩:Bs),vs (⟨#[115,105,100,101]⟩:Bs)] 9 (0,0))→dt P 108 (#[vp (some p),vl (some ⟨b1,0,none⟩) 6 6]) I3 ((ka b (⟨#[]⟩:Bs) 0 0 0 0 0 0 (⟨#[]⟩:Bs) none 0 0 0 0)::(ka a r1 0 0 0 0 0 0 (⟨#[]⟩:Bs) none 0 0 0 r)::·) F2 vi fun r2 I4 F3=>(Dt (r2<0) (eg P 81 (#[vp (some p),vi 130]) I4 ((ka b (⟨#[]⟩:Bs) 0 0 0 0 0 0 (⟨#[]⟩:Bs) none 0 0 0 0)::(ka a r1 0 0 0 0 0 0 (⟨#[]⟩:Bs) none 0 0 0 r)::·) F3 fun e4 I5 G4=>e4=.returned (.tuple #[])∧G4 fun F4=>Q (.returned (.agg #[vs r1,vb 0,vb 0,vb 0,vb 0,vi 0,vb 0,vs (⟨#[]⟩:Bs),vl none 0 0,vi 0,vi r])) I5 F4) (∃ad:Addr,some p=some ad∧∃(m:Int),Rd I4 ((ka b (⟨#[]⟩:Bs) 0 0 0 0 0 0 (⟨#[]⟩:Bs) none 0 0 0 0)::(ka a r1 0 0 0 0 0 0 (⟨#[]⟩:Bs) none 0 0 0 r)::F3) (ad.add 3) [vi m]∧∃ac:Addr,some p=some ac∧∃(cs:List Value) (el:Nat) (F5:cR),List.Perm F3 (((ac.add 3).block,Obj.cells cs.toArray el (0,0))::F5)∧(ac.add 3).spot=none∧(ac.add 3).off+1≤cs.length∧cU P 74 (#[vp (some p),vs (⟨#[61]⟩:Bs)]) I4 ((ka b (⟨#[]⟩:Bs) 0 0 0 0 0 0 (⟨#[]⟩:Bs) none 0 0 0 0)::(ka a r1 (IntKind.wrap .u8 (1+(IntKind.wrap .u8 r2))) 0 0 0 0 0 (⟨#[]⟩:Bs) none 0 0 0 r)::(((ac.add 3).block,Obj.cells (cY (ac.add 3).off [vi (IntKind.wrap .i64 (m+1))] cs).toArray el (0,0))::F5)) fun e5 I6 G5=>∃(r3:Int),e5=.returned (vi r3)∧∃F6:cR,List.Perm G5 ((ka b (⟨#[]⟩:Bs) 0 0 0 0 0 0 (⟨#[]⟩:Bs) none 0 0 0 0)::(ka a r1 (IntKind.wrap .u8 (1+(IntKind.wrap .u8 r2))) 0 0 0 0 0 (⟨#[]⟩:Bs) none 0 0 0 r)::F6)∧eg P 95 (#[vp (some p)]) I6 ((ka b (⟨#[]⟩:Bs) 0 0 0 0 0 0 (⟨#[]⟩:Bs) none 0 0 0 0)::(ka a r1 (IntKind.wrap .u8 (1+(IntKind.wrap .u8 r2))) 0 0 0 0 0 (⟨#[]⟩:Bs) none 0 0 0 r)::·) F6 fun e6 I7 G6=>∃(aq:Int) (ar:Bs) (au av ah:Int),e6=.returned (.agg #[vb aq,vs ar,vb au,vi av,vi ah])∧G6 fun F7=>dt P 76 (#[vp (some p),vs (⟨#[45]⟩:Bs)]) I7 ((ka b (⟨#[]⟩:Bs) 0 0 0 0 0 0 (⟨#[]⟩:Bs) none 0 0 0 0)::(ka a r1 (IntKind.wrap .u8 (1+(IntKind.wrap .u8 r2))) 0 0 0 0 0 (⟨#[]⟩:Bs) none 0 0 0 r)::·) F7 .bool fun r4 I8 F8=>((It r4 (∃al:Addr,some p=some al∧∃(m1:Int),Rd I8 ((ka b (⟨#[]⟩:Bs) 0 0 0 0 0 0 (⟨#[]⟩:Bs) none 0 0 0 0)::(ka a r1 (IntKind.wrap .u8 (1+(IntKind.wrap .u8 r2))) 0 0 0 0 0 (⟨#[]⟩:Bs) none 0 0 0 r)::F8) (al.add 3) [vi m1]∧∃ae:Addr,some p=some ae∧∃(ai:List Value) (ak:Nat) (F9:cR),List.Perm F8 (((ae.add 3).block,Obj.cells ai.toArray ak (0,0))::F9)∧(ae.add 3).spot=none∧(ae.add 3).off+1≤ai.length∧cU P 95 (#[vp (some p)]) I8 ((ka b (⟨#[]⟩:Bs) 0 0 0 0 0 0 (⟨#[]⟩:Bs) none 0 0 0 0)::(ka a r1 (IntKind.wrap .u8 (1+(IntKind.wrap .u8 r2))) 0 0 0 0 0 (⟨#[]⟩:Bs) none 0 0 0 r)::(((ae.add 3).block,Obj.cells (cY (ae.add 3).off [vi (IntKind.wrap .i64 (m1+1))] ai).toArray ak (0,0))::F9)) fun e8 I9 G8=>∃(ag:Int) (am:Bs) (an ao ap:Int),e8=.returned (.agg #[vb ag,vs am,vb an,vi ao,vi ap])∧∃F10:cR,List.Perm G8 ((ka b (⟨#[]⟩:Bs) 0 0 0 0 0 0 (⟨#[]⟩:Bs) none 0 0 0 0)::(ka a r1 (IntKind.wrap .u8 (1+(IntKind.wrap .u8 r2))) 0 0 0 0 0 (⟨#[]⟩:Bs) none 0 0 0 r)::F10)∧(It (ag != 3) (eg P 81 (#[vp (some p),vi 130]) I9 ((ka b (⟨#[]⟩:Bs) 0 0 0 0 0 0 (⟨#[]⟩:Bs) none 0 0 0 0)::(ka a r1 (IntKind.wrap .u8 (1+(IntKind.wrap .u8 r2))) 0 0 0 0 0 (⟨#[]⟩:Bs) none 0 0 0 r)::·) F10 fun e9 I10 G9=>e9=.returned (.tuple #[])∧G9 fun F11=>Q (.returned (.agg #[vs r1,vb (IntKind.wrap .u8 (1+(IntKind.wrap .u8 r2))),vb 0,vb 0,vb 0,vi 0,vb 0,vs (⟨#[]⟩:Bs),vl none 0 0,vi 0,vi r])) I10 F11) (Inv28 (⟨#[]⟩:Bs) 0 0 0 0 0 0 (⟨#[]⟩:Bs) none 0 0 0 0 I9 F10))) (Inv28 (⟨#[]⟩:Bs) 0 0 0 0 0 0 (⟨#[]⟩:Bs) none 0 0 0 0 I8 F8)))∧∀(t:Bs) (u v w x y z:Int) (aa:Bs) (f:OA) (g h:Nat) (ab s:Int) (I11:cS) (F12:cR),cS.le I8 I11→Inv28 t u v w x y z aa f g h ab s I11 F12→eg P 109 (#[vp (some p)]) I11 ((ka b t u v w x y z aa f g h ab s)::(ka a r1 (IntKind.wrap .u8 (1+(IntKind.wrap .u8 r2))) 0 0 0 0 0 (⟨#[]⟩:Bs) none 0 0 0 r)::·) F12 fun aw I12 G10=>∃(i j k l n:Int) (o:Bs) (c:OA) (d e:Nat) (q:Int) (aj:Bool),aw=.returned (.tuple #[.agg #[vb i,vb j,vb k,vi l,vb n,vs o,vl c d e,vi q],.bool aj])∧G10 fun F13=>∀af:Nat,((It (!aj) (eg P 81 (#[vp (some p),vi 130]) I12 ((ka b t u v w x y z aa f g h ab s)::(ka a r1 (IntKind.wrap .u8 (1+(IntKind.wrap .u8 r2))) 0 0 0 0 0 (⟨#[]⟩:Bs) none 0 0 0 r)::(af,nO i j k l n o c d e q)::·) F13 fun ax I13 G11=>ax=.returned (.tuple #[])∧G11 fun F14=>Inv46 I13 F14) (Inv46 I12 F13)))∧∀(I14:cS) (F15:cR),cS.le I12 I14→Inv46 I14 F15→(It r4 (∀(b2:Nat) (I15:cS),cS.le I14 I15→I15 b2=some (nO i j k l n o c d e q)→dt P 74 (#[vp (some p),vs (⟨#[59]⟩:Bs)]) I15 ((ka b t u v w x y z aa f g h ab s)::(ka a r1 (IntKind.wrap .u8 (1+(IntKind.wrap .u8 r2))) 5 1 0 0 0 (⟨#[]⟩:Bs) (some ⟨b2,0,none⟩) 1 1 ah r)::(af,nO i j k l n o c d e q)::·) F15 vi fun r5 I16 F16=>Q (.returned (.agg #[vs r1,vb (IntKind.wrap .u8 (1+(IntKind.wrap .u8 r2))),vb 5,vb 1,vb 0,vi 0,vb 0,vs (⟨#[]⟩:Bs),vl (some ⟨b2,0,none⟩) 1 1,vi ah,vi r])) I16 F16) (dt P 74 (#[vp (some p),vs (⟨#[59]⟩:Bs)]) I14 ((ka b t u v w x y z aa f g h ab s)::(ka a r1 (IntKind.wrap .u8 (1+(IntKind.wrap .u8 r2))) i j k l n o c d e q r)::(af,nO i j k l n o c d e q)::·) F15 vi fun r6 I17 F17=>Q (.returned (.agg #[vs r1,vb (IntKind.wrap .u8 (1+(IntKind.wrap .u8 r2))),vb i,vb j,vb k,vi l,vb n,vs o,vl c d e,vi q,vi r])) I17 F17))))
theorem iA.vc{p:Addr}{I:cS}{F:cR}{Q:cT}(Inv28:Bs→Int→Int→Int→Int→Int→Int→Bs→OA→Nat→Nat→Int→Int→cS→cR→Prop)(Inv46:cS→cR→Prop)(h:iA.V (fun W a b c d e f g h i j k l m=>(W,Obj.cells #[.string a,.int .u8 b,.int .u8 c,.int .u8 d,.int .u8 e,.int .i64 f,.int .u8 g,.string h,.slice i j k,.int .i64 l,.int .i64 m] 104 (0,0))) (fun k o t n f s a l c q=>.cells #[.int .u8 k,.int .u8 o,.int .u8 t,.int .i64 n,.int .u8 f,.string s,.slice a l c,.int .i64 q] 64 (0,0)) (.int .u8) (.int .i64) .string .slice .pointer p I F Q Inv28 Inv46):cU P 78 #[.pointer (some p)] I F Q :=
 tw (A:=(dy [4001,12000,14003,18001,21000] [] [74,75,76,81,95,108,109] nQ [(28,⟨[],[(0,[.str,(.int .u8),(.int .u8),(.int .u8),(.int .u8),(.int .i64),(.int .u8),.str,.slc,(.int .i64),(.int .i64)])],fun _ _ _ vs m I F=>match vs with | [.string y0,.int _ y1,.int _ y2,.int _ y3,.int _ y4,.int _ y5,.int _ y6,.string y7,.slice y8 y9 y10,.int _ y11,.int _ y12]=>Inv28 y0 y1 y2 y3 y4 y5 y6 y7 y8 y9 y10 y11 y12 I F | _=>False,[],[]⟩),(46,⟨[],[],fun _ _ _ vs m I F=>match vs with | []=>Inv46  I F | _=>False,[],[]⟩)] [3001,22001] [] [] [] [] [])) [74,75,76,81,95,108,109] func78 h
def fN.V(ka:Nat→Int→Int→Bs→Int→Int→Int→Int→Int→Bs→OA→Nat→Nat→Int→Int→Int→Int→Int→Int→Bs→OA→Nat→Nat→Int→Int→Int→Int→Int→Int→Bs→OA→Nat→Nat→Int→Int→Int→Int→Int→Int→Bs→OA→Nat→Nat→Int→Int→Nat×Obj)(kb:Int→Int→Bs→Int→Int→Int→Int→Int→Bs→OA→Nat→Nat→Int→Int→Int→Int→Int→Int→Bs→OA→Nat→Nat→Int→Int→Int→Int→Int→Int→Bs→OA→Nat→Nat→Int→Int→Int→Int→Int→Int→Bs→OA→Nat→Nat→Int→Int→Value)(nV:Int→Int→Int→Int→Int→Bs→OA→Nat→Nat→Int→Value)(vb vi:Int→Value)(vs:Bs→Value)(vl:OA→Nat→Nat→Value)(vp:OA→Value)(wr:Int→Int)(p:Addr)(I:cS)(F:cR)(Q:cT)  : Prop:=∀b:Nat,dt P 74 (#[vp (some p),vs (⟨#[115,117,98,109,105,116]⟩:Bs)]) I ((ka b 0 0 (⟨#[]⟩:Bs) 0 0 0 0 0 (⟨#[]⟩:Bs) none 0 0 0 0 0 0 0 0 (⟨#[]⟩:Bs) none 0 0 0 0 0 0 0 0 (⟨#[]⟩:Bs) none 0 0 0 0 0 0 0 0 (⟨#[]⟩:Bs) none 0 0 0 0)::·) F vi fun r I1 F1=>∀ab:Nat,eg P 48 (#[vp (some p),vi 0]) I1 ((ka b 0 0 (⟨#[]⟩:Bs) 0 0 0 0 0 (⟨#[]⟩:Bs) none 0 0 0 0 0 0 0 0 (⟨#[]⟩:Bs) none 0 0 0 0 0 0 0 0 (⟨#[]⟩:Bs) none 0 0 0 0 0 0 0 0 (⟨#[]⟩:Bs) none 0 0 0 0)::(ka ab 1 0 (⟨#[]⟩:Bs) 0 0 0 0 0 (⟨#[]⟩:Bs) none 0 0 0 0 0 0 0 0 (⟨#[]⟩:Bs) none 0 0 0 0 0 0 0 0 (⟨#[]⟩:Bs) none 0 0 0 0 0 0 0 0 (⟨#[]⟩:Bs) none 0 0 0 r)::·) F1 fun e2 I2 G2=>∃(q s t u v:Int) (w:Bs) (e:OA) (f g:Nat) (x:Int),e2=.returned (nV q s t u v w e f g x)∧G2 fun F2=>dt P 74 (#[vp (some p),vs (⟨#[111,102]⟩:Bs)]) I2 ((ka b 0 0 (⟨#[]⟩:Bs) 0 0 0 0 0 (⟨#[]⟩:Bs) none 0 0 0 0 0 0 0 0 (⟨#[]⟩:Bs) none 0 0 0 0 0 0 0 0 (⟨#[]⟩:Bs) none 0 0 0 0 0 0 0 0 (⟨#[]⟩:Bs) none 0 0 0 0)::(ka ab 1 0 (⟨#[]⟩:Bs) q s t u v w e f g x 0 0 0 0 0 (⟨#[]⟩:Bs) none 0 0 0 0 0 0 0 0 (⟨#[]⟩:Bs) none 0 0 0 0 0 0 0 0 (⟨#[]⟩:Bs) none 0 0 0 r)::·) F2 vi fun r1 I3 F3=>eg P 48 (#[vp (some p),vi 0]) I3 ((ka b 0 0 (⟨#[]⟩:Bs) 0 0 0 0 0 (⟨#[]⟩:Bs) none 0 0 0 0 0 0 0 0 (⟨#[]⟩:Bs) none 0 0 0 0 0 0 0 0 (⟨#[]⟩:Bs) none 0 0 0 0 0 0 0 0 (⟨#[]⟩:Bs) none 0 0 0 0)::(ka ab 1 0 (⟨#[]⟩:Bs) q s t u v w e f g x 0 0 0 0 0 (⟨#[]⟩:Bs) none 0 0 0 0 0 0 0 0 (⟨#[]⟩:Bs) none 0 0 0 0 0 0 0 0 (⟨#[]⟩:Bs) none 0 0 0 r)::·) F3 fun e4 I4 G4=>∃(h i j k l:Int) (n:Bs) (a:OA) (c d:Nat) (o:Int),e4=.returned (nV h i j k l n a c d o)∧G4 fun F4=>∀(b1:Nat) (I5:cS),cS.le I4 I5→I5 b1=some (Obj.cells #[vs (⟨#[109,97,114,107,101,116]⟩:Bs),vs (⟨#[97,116]⟩:Bs)] 9 (0,0))→dt P 108 (#[vp (some p),vl (some ⟨b1,0,none⟩) 2 2]) I5 ((ka b 0 0 (⟨#[]⟩:Bs) 0 0 0 0 0 (⟨#[]⟩:Bs) none 0 0 0 0 0 0 0 0 (⟨#[]⟩:Bs) none 0 0 0 0 0 0 0 0 (⟨#[]⟩:Bs) none 0 0 0 0 0 0 0 0 (⟨#[]⟩:Bs) none 0 0 0 0)::(ka ab 1 0 (⟨#[]⟩:Bs) q s t u v w e f g x h i j k l n a c d o 0 0 0 0 0 (⟨#[]⟩:Bs) none 0 0 0 0 0 0 0 0 (⟨#[]⟩:Bs) none 0 0 0 r)::·) F4 vi fun r2 I6 F5=>(Dt (r2<0) (eg P 81 (#[vp (some p),vi 130]) I6 ((ka b 0 0 (⟨#[]⟩:Bs) 0 0 0 0 0 (⟨#[]⟩:Bs) none 0 0 0 0 0 0 0 0 (⟨#[]⟩:Bs) none 0 0 0 0 0 0 0 0 (⟨#[]⟩:Bs) none 0 0 0 0 0 0 0 0 (⟨#[]⟩:Bs) none 0 0 0 0)::(ka ab 1 0 (⟨#[]⟩:Bs) q s t u v w e f g x h i j k l n a c d o 0 0 0 0 0 (⟨#[]⟩:Bs) none 0 0 0 0 0 0 0 0 (⟨#[]⟩:Bs) none 0 0 0 r)::·) F5 fun e6 I7 G6=>e6=.returned (.tuple #[])∧G6 fun F6=>Q (.returned ((kb 1 0 (⟨#[]⟩:Bs) q s t u v w e f g x h i j k l n a c d o 0 0 0 0 0 (⟨#[]⟩:Bs) none 0 0 0 0 0 0 0 0 (⟨#[]⟩:Bs) none 0 0 0 r))) I7 F6) (∃ad:Addr,some p=some ad∧∃(m:Int),Rd I6 ((ka b 0 0 (⟨#[]⟩:Bs) 0 0 0 0 0 (⟨#[]⟩:Bs) none 0 0 0 0 0 0 0 0 (⟨#[]⟩:Bs) none 0 0 0 0 0 0 0 0 (⟨#[]⟩:Bs) none 0 0 0 0 0 0 0 0 (⟨#[]⟩:Bs) none 0 0 0 0)::(ka ab 1 0 (⟨#[]⟩:Bs) q s t u v w e f g x h i j k l n a c d o 0 0 0 0 0 (⟨#[]⟩:Bs) none 0 0 0 0 0 0 0 0 (⟨#[]⟩:Bs) none 0 0 0 r)::F5) (ad.add 3) [vi m]∧∃ak:Addr,some p=some ak∧∃(cs:List Value) (el:Nat) (F7:cR),List.Perm F5 (((ak.add 3).block,Obj.cells cs.toArray el (0,0))::F7)∧(ak.add 3).spot=none∧(ak.add 3).off+1≤cs.length∧(It (r2==1) (cU P 48 (#[vp (some p),vi 0]) I6 ((ka b 0 0 (⟨#[]⟩:Bs) 0 0 0 0 0 (⟨#[]⟩:Bs) none 0 0 0 0 0 0 0 0 (⟨#[]⟩:Bs) none 0 0 0 0 0 0 0 0 (⟨#[]⟩:Bs) none 0 0 0 0 0 0 0 0 (⟨#[]⟩:Bs) none 0 0 0 0)::(ka ab 1 2 (⟨#[]⟩:Bs) q s t u v w e f g x h i j k l n a c d o 0 0 0 0 0 (⟨#[]⟩:Bs) none 0 0 0 0 0 0 0 0 (⟨#[]⟩:Bs) none 0 0 0 r)::(((ak.add 3).block,Obj.cells (cY (ak.add 3).off [vi (wr (m+1))] cs).toArray el (0,0))::F7)) fun e7 I8 G7=>∃(ac ae af ag ah:Int) (ai:Bs) (y:OA) (z aa:Nat) (aj:Int),e7=.returned (nV ac ae af ag ah ai y z aa aj)∧∃F8:cR,List.Perm G7 ((ka b 0 0 (⟨#[]⟩:Bs) 0 0 0 0 0 (⟨#[]⟩:Bs) none 0 0 0 0 0 0 0 0 (⟨#[]⟩:Bs) none 0 0 0 0 0 0 0 0 (⟨#[]⟩:Bs) none 0 0 0 0 0 0 0 0 (⟨#[]⟩:Bs) none 0 0 0 0)::(ka ab 1 2 (⟨#[]⟩:Bs) q s t u v w e f g x h i j k l n a c d o 0 0 0 0 0 (⟨#[]⟩:Bs) none 0 0 0 0 0 0 0 0 (⟨#[]⟩:Bs) none 0 0 0 r)::F8)∧∀(b2:Nat) (I9:cS),cS.le I8 I9→I9 b2=some (Obj.cells #[vs (⟨#[108,105,109,105,116]⟩:Bs),vs (⟨#[105,111,99]⟩:Bs),vs (⟨#[102,111,107]⟩:Bs),vs (⟨#[112,111,115,116]⟩:Bs)] 9 (0,0))→dt P 108 (#[vp (some p),vl (some ⟨b2,0,none⟩) 4 4]) I9 ((ka b 0 0 (⟨#[]⟩:Bs) 0 0 0 0 0 (⟨#[]⟩:Bs) none 0 0 0 0 0 0 0 0 (⟨#[]⟩:Bs) none 0 0 0 0 0 0 0 0 (⟨#[]⟩:Bs) none 0 0 0 0 0 0 0 0 (⟨#[]⟩:Bs) none 0 0 0 0)::(ka ab 1 2 (⟨#[]⟩:Bs) q s t u v w e f g x h i j k l n a c d o ac ae af ag ah ai y z aa aj 0 0 0 0 0 (⟨#[]⟩:Bs) none 0 0 0 r)::·) F8 vi fun r3 I10 F9=>(Dt (r3<0) (eg P 81 (#[vp (some p),vi 130]) I10 ((ka b 0 0 (⟨#[]⟩:Bs) 0 0 0 0 0 (⟨#[]⟩:Bs) none 0 0 0 0 0 0 0 0 (⟨#[]⟩:Bs) none 0 0 0 0 0 0 0 0 (⟨#[]⟩:Bs) none 0 0 0 0 0 0 0 0 (⟨#[]⟩:Bs) none 0 0 0 0)::(ka ab 1 2 (⟨#[]⟩:Bs) q s t u v w e f g x h i j k l n a c d o ac ae af ag ah ai y z aa aj 0 0 0 0 0 (⟨#[]⟩:Bs) none 0 0 0 r)::·) F9 fun e9 I11 G9=>e9=.returned (.tuple #[])∧G9 fun F10=>Q (.returned ((kb 1 2 (⟨#[]⟩:Bs) q s t u v w e f g x h i j k l n a c d o ac ae af ag ah ai y z aa aj 0 0 0 0 0 (⟨#[]⟩:Bs) none 0 0 0 r))) I11 F10) (∃aw:Addr,some p=some aw∧∃(m1:Int),Rd I10 ((ka b 0 0 (⟨#[]⟩:Bs) 0 0 0 0 0 (⟨#[]⟩:Bs) none 0 0 0 0 0 0 0 0 (⟨#[]⟩:Bs) none 0 0 0 0 0 0 0 0 (⟨#[]⟩:Bs) none 0 0 0 0 0 0 0 0 (⟨#[]⟩:Bs) none 0 0 0 0)::(ka ab 1 2 (⟨#[]⟩:Bs) q s t u v w e f g x h i j k l n a c d o ac ae af ag ah ai y z aa aj 0 0 0 0 0 (⟨#[]⟩:Bs) none 0 0 0 r)::F9) (aw.add 3) [vi m1]∧∃al:Addr,some p=some al∧∃(ao:List Value) (ap:Nat) (F11:cR),List.Perm F9 (((al.add 3).block,Obj.cells ao.toArray ap (0,0))::F11)∧(al.add 3).spot=none∧(al.add 3).off+1≤ao.length∧∀(b3:Nat) (I12:cS),cS.le I10 I12→I12 b3=some (Obj.cells #[vb 1,vb 3,vb 4,vb 5] 112 (0,0))→((0≤r3∧r3<(4:Int))∧∃ax:Addr,some ⟨b3,0,none⟩=some ax∧∃(m2:Int),Rd I12 ((ka b 0 0 (⟨#[]⟩:Bs) 0 0 0 0 0 (⟨#[]⟩:Bs) none 0 0 0 0 0 0 0 0 (⟨#[]⟩:Bs) none 0 0 0 0 0 0 0 0 (⟨#[]⟩:Bs) none 0 0 0 0 0 0 0 0 (⟨#[]⟩:Bs) none 0 0 0 0)::(ka ab 1 2 (⟨#[]⟩:Bs) q s t u v w e f g x h i j k l n a c d o ac ae af ag ah ai y z aa aj 0 0 0 0 0 (⟨#[]⟩:Bs) none 0 0 0 r)::(((al.add 3).block,Obj.cells (cY (al.add 3).off [vi (wr (m1+1))] ao).toArray ap (0,0))::F11)) (ax.add (Int.toNat r3*1)) [vb m2]∧cU P 76 (#[vp (some p),vs (⟨#[97,115]⟩:Bs)]) I12 ((ka b 0 0 (⟨#[]⟩:Bs) 0 0 0 0 0 (⟨#[]⟩:Bs) none 0 0 0 0 0 0 0 0 (⟨#[]⟩:Bs) none 0 0 0 0 0 0 0 0 (⟨#[]⟩:Bs) none 0 0 0 0 0 0 0 0 (⟨#[]⟩:Bs) none 0 0 0 0)::(ka ab 1 m2 (⟨#[]⟩:Bs) q s t u v w e f g x h i j k l n a c d o ac ae af ag ah ai y z aa aj 0 0 0 0 0 (⟨#[]⟩:Bs) none 0 0 0 r)::(((al.add 3).block,Obj.cells (cY (al.add 3).off [vi (wr (m1+1))] ao).toArray ap (0,0))::F11)) fun aA I13 G10=>∃(r4:Bool),aA=.returned (.bool r4)∧∃F12:cR,List.Perm G10 ((ka b 0 0 (⟨#[]⟩:Bs) 0 0 0 0 0 (⟨#[]⟩:Bs) none 0 0 0 0 0 0 0 0 (⟨#[]⟩:Bs) none 0 0 0 0 0 0 0 0 (⟨#[]⟩:Bs) none 0 0 0 0 0 0 0 0 (⟨#[]⟩:Bs) none 0 0 0 0)::(ka ab 1 m2 (⟨#[]⟩:Bs) q s t u v w e f g x h i j k l n a c d o ac ae af ag ah ai y z aa aj 0 0 0 0 0 (⟨#[]⟩:Bs) none 0 0 0 r)::F12)∧(It r4 (∃ay:Addr,some p=some ay∧∃(m3:Int),Rd I13 ((ka b 0 0 (⟨#[]⟩:Bs) 0 0 0 0 0 (⟨#[]⟩:Bs) none 0 0 0 0 0 0 0 0 (⟨#[]⟩:Bs) none 0 0 0 0 0 0 0 0 (⟨#[]⟩:Bs) none 0 0 0 0 0 0 0 0 (⟨#[]⟩:Bs) none 0 0 0 0)::(ka ab 1 m2 (⟨#[]⟩:Bs) q s t u v w e f g x h i j k l n a c d o ac ae af ag ah ai y z aa aj 0 0 0 0 0 (⟨#[]⟩:Bs) none 0 0 0 r)::F12) (ay.add 3) [vi m3]∧∃am:Addr,some p=some am∧∃(aq:List Value) (au:Nat) (F13:cR),List.Perm F12 (((am.add 3).block,Obj.cells aq.toArray au (0,0))::F13)∧(am.add 3).spot=none∧(am.add 3).off+1≤aq.length∧cU P 75 (#[vp (some p)]) I13 ((ka b 0 0 (⟨#[]⟩:Bs) 0 0 0 0 0 (⟨#[]⟩:Bs) none 0 0 0 0 0 0 0 0 (⟨#[]⟩:Bs) none 0 0 0 0 0 0 0 0 (⟨#[]⟩:Bs) none 0 0 0 0 0 0 0 0 (⟨#[]⟩:Bs) none 0 0 0 0)::(ka ab 1 m2 (⟨#[]⟩:Bs) q s t u v w e f g x h i j k l n a c d o ac ae af ag ah ai y z aa aj 0 0 0 0 0 (⟨#[]⟩:Bs) none 0 0 0 r)::(((am.add 3).block,Obj.cells (cY (am.add 3).off [vi (wr (m3+1))] aq).toArray au (0,0))::F13)) fun aB I14 G11=>∃(r5:Bs),aB=.returned (vs r5)∧∃F14:cR,List.Perm G11 ((ka b 0 0 (⟨#[]⟩:Bs) 0 0 0 0 0 (⟨#[]⟩:Bs) none 0 0 0 0 0 0 0 0 (⟨#[]⟩:Bs) none 0 0 0 0 0 0 0 0 (⟨#[]⟩:Bs) none 0 0 0 0 0 0 0 0 (⟨#[]⟩:Bs) none 0 0 0 0)::(ka ab 1 m2 (⟨#[]⟩:Bs) q s t u v w e f g x h i j k l n a c d o ac ae af ag ah ai y z aa aj 0 0 0 0 0 (⟨#[]⟩:Bs) none 0 0 0 r)::F14)∧Q (.returned ((kb 1 m2 r5 q s t u v w e f g x h i j k l n a c d o ac ae af ag ah ai y z aa aj 0 0 0 0 0 (⟨#[]⟩:Bs) none 0 0 0 r))) I14 F14) (Q (.returned ((kb 1 m2 (⟨#[]⟩:Bs) q s t u v w e f g x h i j k l n a c d o ac ae af ag ah ai y z aa aj 0 0 0 0 0 (⟨#[]⟩:Bs) none 0 0 0 r))) I13 F12)))))) (cU P 76 (#[vp (some p),vs (⟨#[97,115]⟩:Bs)]) I6 ((ka b 0 0 (⟨#[]⟩:Bs) 0 0 0 0 0 (⟨#[]⟩:Bs) none 0 0 0 0 0 0 0 0 (⟨#[]⟩:Bs) none 0 0 0 0 0 0 0 0 (⟨#[]⟩:Bs) none 0 0 0 0 0 0 0 0 (⟨#[]⟩:Bs) none 0 0 0 0)::(ka ab 1 2 (⟨#[]⟩:Bs) q s t u v w e f g x h i j k l n a c d o 0 0 0 0 0 (⟨#[]⟩:Bs) none 0 0 0 0 0 0 0 0 (⟨#[]⟩:Bs) none 0 0 0 r)::(((ak.add 3).block,Obj.cells (cY (ak.add 3).off [vi (wr (m+1))] cs).toArray el (0,0))::F7)) fun aC I15 G12=>∃(r6:Bool),aC=.returned (.bool r6)∧∃F15:cR,List.Perm G12 ((ka b 0 0 (⟨#[]⟩:Bs) 0 0 0 0 0 (⟨#[]⟩:Bs) none 0 0 0 0 0 0 0 0 (⟨#[]⟩:Bs) none 0 0 0 0 0 0 0 0 (⟨#[]⟩:Bs) none 0 0 0 0 0 0 0 0 (⟨#[]⟩:Bs) none 0 0 0 0)::(ka ab 1 2 (⟨#[]⟩:Bs) q s t u v w e f g x h i j k l n a c d o 0 0 0 0 0 (⟨#[]⟩:Bs) none 0 0 0 0 0 0 0 0 (⟨#[]⟩:Bs) none 0 0 0 r)::F15)∧(It r6 (∃az:Addr,some p=some az∧∃(m4:Int),Rd I15 ((ka b 0 0 (⟨#[]⟩:Bs) 0 0 0 0 0 (⟨#[]⟩:Bs) none 0 0 0 0 0 0 0 0 (⟨#[]⟩:Bs) none 0 0 0 0 0 0 0 0 (⟨#[]⟩:Bs) none 0 0 0 0 0 0 0 0 (⟨#[]⟩:Bs) none 0 0 0 0)::(ka ab 1 2 (⟨#[]⟩:Bs) q s t u v w e f g x h i j k l n a c d o 0 0 0 0 0 (⟨#[]⟩:Bs) none 0 0 0 0 0 0 0 0 (⟨#[]⟩:Bs) none 0 0 0 r)::F15) (az.add 3) [vi m4]∧∃an:Addr,some p=some an∧∃(ar:List Value) (av:Nat) (F16:cR),List.Perm F15 (((an.add 3).block,Obj.cells ar.toArray av (0,0))::F16)∧(an.add 3).spot=none∧(an.add 3).off+1≤ar.length∧cU P 75 (#[vp (some p)]) I15 ((ka b 0 0 (⟨#[]⟩:Bs) 0 0 0 0 0 (⟨#[]⟩:Bs) none 0 0 0 0 0 0 0 0 (⟨#[]⟩:Bs) none 0 0 0 0 0 0 0 0 (⟨#[]⟩:Bs) none 0 0 0 0 0 0 0 0 (⟨#[]⟩:Bs) none 0 0 0 0)::(ka ab 1 2 (⟨#[]⟩:Bs) q s t u v w e f g x h i j k l n a c d o 0 0 0 0 0 (⟨#[]⟩:Bs) none 0 0 0 0 0 0 0 0 (⟨#[]⟩:Bs) none 0 0 0 r)::(((an.add 3).block,Obj.cells (cY (an.add 3).off [vi (wr (m4+1))] ar).toArray av (0,0))::F16)) fun aD I16 G13=>∃(r7:Bs),aD=.returned (vs r7)∧∃F17:cR,List.Perm G13 ((ka b 0 0 (⟨#[]⟩:Bs) 0 0 0 0 0 (⟨#[]⟩:Bs) none 0 0 0 0 0 0 0 0 (⟨#[]⟩:Bs) none 0 0 0 0 0 0 0 0 (⟨#[]⟩:Bs) none 0 0 0 0 0 0 0 0 (⟨#[]⟩:Bs) none 0 0 0 0)::(ka ab 1 2 (⟨#[]⟩:Bs) q s t u v w e f g x h i j k l n a c d o 0 0 0 0 0 (⟨#[]⟩:Bs) none 0 0 0 0 0 0 0 0 (⟨#[]⟩:Bs) none 0 0 0 r)::F17)∧Q (.returned ((kb 1 2 r7 q s t u v w e f g x h i j k l n a c d o 0 0 0 0 0 (⟨#[]⟩:Bs) none 0 0 0 0 0 0 0 0 (⟨#[]⟩:Bs) none 0 0 0 r))) I16 F17) (Q (.returned ((kb 1 2 (⟨#[]⟩:Bs) q s t u v w e f g x h i j k l n a c d o 0 0 0 0 0 (⟨#[]⟩:Bs) none 0 0 0 0 0 0 0 0 (⟨#[]⟩:Bs) none 0 0 0 r))) I15 F15))))))
theorem fN.vc{p:Addr}{I:cS}{F:cR}{Q:cT}  (h:fN.V (fun W a b c d e f g h i j k l m n o p q r s t u v w x y z aa ab ac ad ae af ag ah ai aj ak al am an ao ap aq ar=>(W,Obj.cells #[.int .u8 a,.int .u8 b,.string c,.int .u8 d,.int .u8 e,.int .u8 f,.int .i64 g,.int .u8 h,.string i,.slice j k l,.int .i64 m,.int .u8 n,.int .u8 o,.int .u8 p,.int .i64 q,.int .u8 r,.string s,.slice t u v,.int .i64 w,.int .u8 x,.int .u8 y,.int .u8 z,.int .i64 aa,.int .u8 ab,.string ac,.slice ad ae af,.int .i64 ag,.int .u8 ah,.int .u8 ai,.int .u8 aj,.int .i64 ak,.int .u8 al,.string am,.slice an ao ap,.int .i64 aq,.int .i64 ar] 114 (0,0))) (fun a b c d e f g h i j k l m n o p q r s t u v w x y z aa ab ac ad ae af ag ah ai aj ak al am an ao ap aq ar=>.agg #[.int .u8 a,.int .u8 b,.string c,.int .u8 d,.int .u8 e,.int .u8 f,.int .i64 g,.int .u8 h,.string i,.slice j k l,.int .i64 m,.int .u8 n,.int .u8 o,.int .u8 p,.int .i64 q,.int .u8 r,.string s,.slice t u v,.int .i64 w,.int .u8 x,.int .u8 y,.int .u8 z,.int .i64 aa,.int .u8 ab,.string ac,.slice ad ae af,.int .i64 ag,.int .u8 ah,.int .u8 ai,.int .u8 aj,.int .i64 ak,.int .u8 al,.string am,.slice an ao ap,.int .i64 aq,.int .i64 ar]) (fun k o t n f s a l c q=>.agg #[.int .u8 k,.int .u8 o,.int .u8 t,.int .i64 n,.int .u8 f,.string s,.slice a l c,.int .i64 q]) (.int .u8) (.int .i64) .string .slice .pointer (IntKind.wrap .i64) p I F Q):cU P 142 #[.pointer (some p)] I F Q :=
 tw (A:=(dy [6001,11001,14001,20000] [] [48,74,75,76,81,108] nQ [] [5001,13001,18000] [] [] [] [] [])) [48,74,75,76,81,108] func142 h
def iX.V(ka:Nat→Int→Int→Bs→Int→Int→Int→Int→Int→Bs→OA→Nat→Nat→Int→Int→Int→Int→Int→Int→Bs→OA→Nat→Nat→Int→Int→Int→Int→Int→Int→Bs→OA→Nat→Nat→Int→Int→Int→Int→Int→Int→Bs→OA→Nat→Nat→Int→Int→Nat×Obj)(kb:Int→Int→Bs→Int→Int→Int→Int→Int→Bs→OA→Nat→Nat→Int→Int→Int→Int→Int→Int→Bs→OA→Nat→Nat→Int→Int→Int→Int→Int→Int→Bs→OA→Nat→Nat→Int→Int→Int→Int→Int→Int→Bs→OA→Nat→Nat→Int→Int→Value)(nV:Int→Int→Int→Int→Int→Bs→OA→Nat→Nat→Int→Value)(vb vi:Int→Value)(vs:Bs→Value)(vl:OA→Nat→Nat→Value)(vp:OA→Value)(wr:Int→Int)(p:Addr)(I:cS)(F:cR)(Q:cT)  : Prop:=∀b:Nat,eg P 95 (#[vp (some p)]) I ((ka b 0 0 (⟨#[]⟩:Bs) 0 0 0 0 0 (⟨#[]⟩:Bs) none 0 0 0 0 0 0 0 0 (⟨#[]⟩:Bs) none 0 0 0 0 0 0 0 0 (⟨#[]⟩:Bs) none 0 0 0 0 0 0 0 0 (⟨#[]⟩:Bs) none 0 0 0 0)::·) F fun e1 I1 G1=>∃(bV:Int) (bW:Bs) (bX bY a:Int),e1=.returned (.agg #[vb bV,vs bW,vb bX,vi bY,vi a])∧G1 fun F1=>∀(b1:Nat) (I2:cS),cS.le I1 I2→I2 b1=some (Obj.cells #[vs (⟨#[115,117,98,109,105,116]⟩:Bs),vs (⟨#[97,109,101,110,100]⟩:Bs),vs (⟨#[99,97,110,99,101,108]⟩:Bs),vs (⟨#[115,101,116]⟩:Bs),vs (⟨#[103,111,116,111]⟩:Bs),vs (⟨#[104,97,108,116]⟩:Bs)] 9 (0,0))→dt P 108 (#[vp (some p),vl (some ⟨b1,0,none⟩) 6 6]) I2 ((ka b 0 0 (⟨#[]⟩:Bs) 0 0 0 0 0 (⟨#[]⟩:Bs) none 0 0 0 0 0 0 0 0 (⟨#[]⟩:Bs) none 0 0 0 0 0 0 0 0 (⟨#[]⟩:Bs) none 0 0 0 0 0 0 0 0 (⟨#[]⟩:Bs) none 0 0 0 0)::·) F1 vi fun r I3 F2=>(Dt (r<0) (eg P 81 (#[vp (some p),vi 130]) I3 ((ka b 0 0 (⟨#[]⟩:Bs) 0 0 0 0 0 (⟨#[]⟩:Bs) none 0 0 0 0 0 0 0 0 (⟨#[]⟩:Bs) none 0 0 0 0 0 0 0 0 (⟨#[]⟩:Bs) none 0 0 0 0 0 0 0 0 (⟨#[]⟩:Bs) none 0 0 0 0)::·) F2 fun e3 I4 G3=>e3=.returned (.tuple #[])∧G3 fun F3=>Q (.returned ((kb 0 0 (⟨#[]⟩:Bs) 0 0 0 0 0 (⟨#[]⟩:Bs) none 0 0 0 0 0 0 0 0 (⟨#[]⟩:Bs) none 0 0 0 0 0 0 0 0 (⟨#[]⟩:Bs) none 0 0 0 0 0 0 0 0 (⟨#[]⟩:Bs) none 0 0 0 0))) I4 F3) (It (r==0) (eg P 142 (#[vp (some p)]) I3 ((ka b 0 0 (⟨#[]⟩:Bs) 0 0 0 0 0 (⟨#[]⟩:Bs) none 0 0 0 0 0 0 0 0 (⟨#[]⟩:Bs) none 0 0 0 0 0 0 0 0 (⟨#[]⟩:Bs) none 0 0 0 0 0 0 0 0 (⟨#[]⟩:Bs) none 0 0 0 0)::·) F2 fun e4 I5 G4=>∃(a9 ba:Int) (bb:Bs) (bc bd bR bS bT:Int) (bU:Bs) (aT:OA) (aU aV:Nat) (be aW bf bg bh bi:Int) (bj:Bs) (ay:OA) (az aA:Nat) (bk bl bm aX bn bo:Int) (bp:Bs) (aB:OA) (aC aD:Nat) (bq br bs bt bu aY:Int) (bv:Bs) (aE:OA) (aF aG:Nat) (bw bx:Int),e4=.returned ((kb a9 ba bb bc bd bR bS bT bU aT aU aV be aW bf bg bh bi bj ay az aA bk bl bm aX bn bo bp aB aC aD bq br bs bt bu aY bv aE aF aG bw bx))∧G4 fun F4=>Q (.returned ((kb a9 ba bb bc bd bR bS bT bU aT aU aV be aW bf bg bh bi bj ay az aA bk bl bm aX bn bo bp aB aC aD bq br bs bt bu aY bv aE aF aG bw bx))) I5 F4) (∃ad:Addr,some p=some ad∧∃(m:Int),Rd I3 ((ka b 0 0 (⟨#[]⟩:Bs) 0 0 0 0 0 (⟨#[]⟩:Bs) none 0 0 0 0 0 0 0 0 (⟨#[]⟩:Bs) none 0 0 0 0 0 0 0 0 (⟨#[]⟩:Bs) none 0 0 0 0 0 0 0 0 (⟨#[]⟩:Bs) none 0 0 0 0)::F2) (ad.add 3) [vi m]∧∃am:Addr,some p=some am∧∃(cs:List Value) (el:Nat) (F5:cR),List.Perm F2 (((am.add 3).block,Obj.cells cs.toArray el (0,0))::F5)∧(am.add 3).spot=none∧(am.add 3).off+1≤cs.length∧∀c:Nat,(It ((IntKind.wrap .u8 (1+(IntKind.wrap .u8 r)))!=6) (cU P 75 (#[vp (some p)]) I3 ((ka b 0 0 (⟨#[]⟩:Bs) 0 0 0 0 0 (⟨#[]⟩:Bs) none 0 0 0 0 0 0 0 0 (⟨#[]⟩:Bs) none 0 0 0 0 0 0 0 0 (⟨#[]⟩:Bs) none 0 0 0 0 0 0 0 0 (⟨#[]⟩:Bs) none 0 0 0 0)::(ka c (IntKind.wrap .u8 (1+(IntKind.wrap .u8 r))) 0 (⟨#[]⟩:Bs) 0 0 0 0 0 (⟨#[]⟩:Bs) none 0 0 0 0 0 0 0 0 (⟨#[]⟩:Bs) none 0 0 0 0 0 0 0 0 (⟨#[]⟩:Bs) none 0 0 0 0 0 0 0 0 (⟨#[]⟩:Bs) none 0 0 0 a)::(((am.add 3).block,Obj.cells (cY (am.add 3).off [vi (wr (m+1))] cs).toArray el (0,0))::F5)) fun e5 I6 G5=>∃(r1:Bs),e5=.returned (vs r1)∧∃F6:cR,List.Perm G5 ((ka b 0 0 (⟨#[]⟩:Bs) 0 0 0 0 0 (⟨#[]⟩:Bs) none 0 0 0 0 0 0 0 0 (⟨#[]⟩:Bs) none 0 0 0 0 0 0 0 0 (⟨#[]⟩:Bs) none 0 0 0 0 0 0 0 0 (⟨#[]⟩:Bs) none 0 0 0 0)::(ka c (IntKind.wrap .u8 (1+(IntKind.wrap .u8 r))) 0 (⟨#[]⟩:Bs) 0 0 0 0 0 (⟨#[]⟩:Bs) none 0 0 0 0 0 0 0 0 (⟨#[]⟩:Bs) none 0 0 0 0 0 0 0 0 (⟨#[]⟩:Bs) none 0 0 0 0 0 0 0 0 (⟨#[]⟩:Bs) none 0 0 0 a)::F6)∧(It ((IntKind.wrap .u8 (1+(IntKind.wrap .u8 r)))==2) (dt P 74 (#[vp (some p),vs (⟨#[116,111]⟩:Bs)]) I6 ((ka b 0 0 (⟨#[]⟩:Bs) 0 0 0 0 0 (⟨#[]⟩:Bs) none 0 0 0 0 0 0 0 0 (⟨#[]⟩:Bs) none 0 0 0 0 0 0 0 0 (⟨#[]⟩:Bs) none 0 0 0 0 0 0 0 0 (⟨#[]⟩:Bs) none 0 0 0 0)::(ka c (IntKind.wrap .u8 (1+(IntKind.wrap .u8 r))) 0 r1 0 0 0 0 0 (⟨#[]⟩:Bs) none 0 0 0 0 0 0 0 0 (⟨#[]⟩:Bs) none 0 0 0 0 0 0 0 0 (⟨#[]⟩:Bs) none 0 0 0 0 0 0 0 0 (⟨#[]⟩:Bs) none 0 0 0 a)::·) F6 vi fun r2 I7 F7=>eg P 48 (#[vp (some p),vi 0]) I7 ((ka b 0 0 (⟨#[]⟩:Bs) 0 0 0 0 0 (⟨#[]⟩:Bs) none 0 0 0 0 0 0 0 0 (⟨#[]⟩:Bs) none 0 0 0 0 0 0 0 0 (⟨#[]⟩:Bs) none 0 0 0 0 0 0 0 0 (⟨#[]⟩:Bs) none 0 0 0 0)::(ka c (IntKind.wrap .u8 (1+(IntKind.wrap .u8 r))) 0 r1 0 0 0 0 0 (⟨#[]⟩:Bs) none 0 0 0 0 0 0 0 0 (⟨#[]⟩:Bs) none 0 0 0 0 0 0 0 0 (⟨#[]⟩:Bs) none 0 0 0 0 0 0 0 0 (⟨#[]⟩:Bs) none 0 0 0 a)::·) F7 fun e7 I8 G7=>∃(l n o q s:Int) (t:Bs) (g:OA) (h i:Nat) (u:Int),e7=.returned (nV l n o q s t g h i u)∧G7 fun F8=>dt P 74 (#[vp (some p),vs (⟨#[97,116]⟩:Bs)]) I8 ((ka b 0 0 (⟨#[]⟩:Bs) 0 0 0 0 0 (⟨#[]⟩:Bs) none 0 0 0 0 0 0 0 0 (⟨#[]⟩:Bs) none 0 0 0 0 0 0 0 0 (⟨#[]⟩:Bs) none 0 0 0 0 0 0 0 0 (⟨#[]⟩:Bs) none 0 0 0 0)::(ka c (IntKind.wrap .u8 (1+(IntKind.wrap .u8 r))) 0 r1 0 0 0 0 0 (⟨#[]⟩:Bs) none 0 0 0 l n o q s t g h i u 0 0 0 0 0 (⟨#[]⟩:Bs) none 0 0 0 0 0 0 0 0 (⟨#[]⟩:Bs) none 0 0 0 a)::·) F8 vi fun r3 I9 F9=>eg P 48 (#[vp (some p),vi 0]) I9 ((ka b 0 0 (⟨#[]⟩:Bs) 0 0 0 0 0 (⟨#[]⟩:Bs) none 0 0 0 0 0 0 0 0 (⟨#[]⟩:Bs) none 0 0 0 0 0 0 0 0 (⟨#[]⟩:Bs) none 0 0 0 0 0 0 0 0 (⟨#[]⟩:Bs) none 0 0 0 0)::(ka c (IntKind.wrap .u8 (1+(IntKind.wrap .u8 r))) 0 r1 0 0 0 0 0 (⟨#[]⟩:Bs) none 0 0 0 l n o q s t g h i u 0 0 0 0 0 (⟨#[]⟩:Bs) none 0 0 0 0 0 0 0 0 (⟨#[]⟩:Bs) none 0 0 0 a)::·) F9 fun e9 I10 G9=>∃(an ah ai ao ap:Int) (aq:Bs) (v:OA) (w x:Nat) (ar:Int),e9=.returned (nV an ah ai ao ap aq v w x ar)∧G9 fun F10=>(It ((IntKind.wrap .u8 (1+(IntKind.wrap .u8 r)))==4) (dt P 74 (#[vp (some p),vs (⟨#[61]⟩:Bs)]) I10 ((ka b 0 0 (⟨#[]⟩:Bs) 0 0 0 0 0 (⟨#[]⟩:Bs) none 0 0 0 0 0 0 0 0 (⟨#[]⟩:Bs) none 0 0 0 0 0 0 0 0 (⟨#[]⟩:Bs) none 0 0 0 0 0 0 0 0 (⟨#[]⟩:Bs) none 0 0 0 0)::(ka c (IntKind.wrap .u8 (1+(IntKind.wrap .u8 r))) 0 r1 0 0 0 0 0 (⟨#[]⟩:Bs) none 0 0 0 l n o q s t g h i u an ah ai ao ap aq v w x ar 0 0 0 0 0 (⟨#[]⟩:Bs) none 0 0 0 a)::·) F10 vi fun r4 I11 F11=>eg P 48 (#[vp (some p),vi 0]) I11 ((ka b 0 0 (⟨#[]⟩:Bs) 0 0 0 0 0 (⟨#[]⟩:Bs) none 0 0 0 0 0 0 0 0 (⟨#[]⟩:Bs) none 0 0 0 0 0 0 0 0 (⟨#[]⟩:Bs) none 0 0 0 0 0 0 0 0 (⟨#[]⟩:Bs) none 0 0 0 0)::(ka c (IntKind.wrap .u8 (1+(IntKind.wrap .u8 r))) 0 r1 0 0 0 0 0 (⟨#[]⟩:Bs) none 0 0 0 l n o q s t g h i u an ah ai ao ap aq v w x ar 0 0 0 0 0 (⟨#[]⟩:Bs) none 0 0 0 a)::·) F11 fun b0 I12 G11=>∃(bz aZ a0 bA bB:Int) (bC:Bs) (aH:OA) (aI aJ:Nat) (bD:Int),b0=.returned (nV bz aZ a0 bA bB bC aH aI aJ bD)∧G11 fun F12=>Q (.returned ((kb (IntKind.wrap .u8 (1+(IntKind.wrap .u8 r))) 0 r1 0 0 0 0 0 (⟨#[]⟩:Bs) none 0 0 0 l n o q s t g h i u an ah ai ao ap aq v w x ar bz aZ a0 bA bB bC aH aI aJ bD a))) I12 F12) (Q (.returned ((kb (IntKind.wrap .u8 (1+(IntKind.wrap .u8 r))) 0 r1 0 0 0 0 0 (⟨#[]⟩:Bs) none 0 0 0 l n o q s t g h i u an ah ai ao ap aq v w x ar 0 0 0 0 0 (⟨#[]⟩:Bs) none 0 0 0 a))) I10 F10))) (It ((IntKind.wrap .u8 (1+(IntKind.wrap .u8 r)))==4) (dt P 74 (#[vp (some p),vs (⟨#[61]⟩:Bs)]) I6 ((ka b 0 0 (⟨#[]⟩:Bs) 0 0 0 0 0 (⟨#[]⟩:Bs) none 0 0 0 0 0 0 0 0 (⟨#[]⟩:Bs) none 0 0 0 0 0 0 0 0 (⟨#[]⟩:Bs) none 0 0 0 0 0 0 0 0 (⟨#[]⟩:Bs) none 0 0 0 0)::(ka c (IntKind.wrap .u8 (1+(IntKind.wrap .u8 r))) 0 r1 0 0 0 0 0 (⟨#[]⟩:Bs) none 0 0 0 0 0 0 0 0 (⟨#[]⟩:Bs) none 0 0 0 0 0 0 0 0 (⟨#[]⟩:Bs) none 0 0 0 0 0 0 0 0 (⟨#[]⟩:Bs) none 0 0 0 a)::·) F6 vi fun r5 I13 F13=>eg P 48 (#[vp (some p),vi 0]) I13 ((ka b 0 0 (⟨#[]⟩:Bs) 0 0 0 0 0 (⟨#[]⟩:Bs) none 0 0 0 0 0 0 0 0 (⟨#[]⟩:Bs) none 0 0 0 0 0 0 0 0 (⟨#[]⟩:Bs) none 0 0 0 0 0 0 0 0 (⟨#[]⟩:Bs) none 0 0 0 0)::(ka c (IntKind.wrap .u8 (1+(IntKind.wrap .u8 r))) 0 r1 0 0 0 0 0 (⟨#[]⟩:Bs) none 0 0 0 0 0 0 0 0 (⟨#[]⟩:Bs) none 0 0 0 0 0 0 0 0 (⟨#[]⟩:Bs) none 0 0 0 0 0 0 0 0 (⟨#[]⟩:Bs) none 0 0 0 a)::·) F13 fun b3 I14 G13=>∃(bE a1 a2 bF bG:Int) (bH:Bs) (aK:OA) (aL aM:Nat) (bI:Int),b3=.returned (nV bE a1 a2 bF bG bH aK aL aM bI)∧G13 fun F14=>Q (.returned ((kb (IntKind.wrap .u8 (1+(IntKind.wrap .u8 r))) 0 r1 0 0 0 0 0 (⟨#[]⟩:Bs) none 0 0 0 0 0 0 0 0 (⟨#[]⟩:Bs) none 0 0 0 0 0 0 0 0 (⟨#[]⟩:Bs) none 0 0 0 bE a1 a2 bF bG bH aK aL aM bI a))) I14 F14) (Q (.returned ((kb (IntKind.wrap .u8 (1+(IntKind.wrap .u8 r))) 0 r1 0 0 0 0 0 (⟨#[]⟩:Bs) none 0 0 0 0 0 0 0 0 (⟨#[]⟩:Bs) none 0 0 0 0 0 0 0 0 (⟨#[]⟩:Bs) none 0 0 0 0 0 0 0 0 (⟨#[]⟩:Bs) none 0 0 0 a))) I6 F6)))) (It ((IntKind.wrap .u8 (1+(IntKind.wrap .u8 r)))==2) (cU P 74 (#[vp (some p),vs (⟨#[116,111]⟩:Bs)]) I3 ((ka b 0 0 (⟨#[]⟩:Bs) 0 0 0 0 0 (⟨#[]⟩:Bs) none 0 0 0 0 0 0 0 0 (⟨#[]⟩:Bs) none 0 0 0 0 0 0 0 0 (⟨#[]⟩:Bs) none 0 0 0 0 0 0 0 0 (⟨#[]⟩:Bs) none 0 0 0 0)::(ka c (IntKind.wrap .u8 (1+(IntKind.wrap .u8 r))) 0 (⟨#[]⟩:Bs) 0 0 0 0 0 (⟨#[]⟩:Bs) none 0 0 0 0 0 0 0 0 (⟨#[]⟩:Bs) none 0 0 0 0 0 0 0 0 (⟨#[]⟩:Bs) none 0 0 0 0 0 0 0 0 (⟨#[]⟩:Bs) none 0 0 0 a)::(((am.add 3).block,Obj.cells (cY (am.add 3).off [vi (wr (m+1))] cs).toArray el (0,0))::F5)) fun b4 I15 G14=>∃(r6:Int),b4=.returned (vi r6)∧∃F15:cR,List.Perm G14 ((ka b 0 0 (⟨#[]⟩:Bs) 0 0 0 0 0 (⟨#[]⟩:Bs) none 0 0 0 0 0 0 0 0 (⟨#[]⟩:Bs) none 0 0 0 0 0 0 0 0 (⟨#[]⟩:Bs) none 0 0 0 0 0 0 0 0 (⟨#[]⟩:Bs) none 0 0 0 0)::(ka c (IntKind.wrap .u8 (1+(IntKind.wrap .u8 r))) 0 (⟨#[]⟩:Bs) 0 0 0 0 0 (⟨#[]⟩:Bs) none 0 0 0 0 0 0 0 0 (⟨#[]⟩:Bs) none 0 0 0 0 0 0 0 0 (⟨#[]⟩:Bs) none 0 0 0 0 0 0 0 0 (⟨#[]⟩:Bs) none 0 0 0 a)::F15)∧eg P 48 (#[vp (some p),vi 0]) I15 ((ka b 0 0 (⟨#[]⟩:Bs) 0 0 0 0 0 (⟨#[]⟩:Bs) none 0 0 0 0 0 0 0 0 (⟨#[]⟩:Bs) none 0 0 0 0 0 0 0 0 (⟨#[]⟩:Bs) none 0 0 0 0 0 0 0 0 (⟨#[]⟩:Bs) none 0 0 0 0)::(ka c (IntKind.wrap .u8 (1+(IntKind.wrap .u8 r))) 0 (⟨#[]⟩:Bs) 0 0 0 0 0 (⟨#[]⟩:Bs) none 0 0 0 0 0 0 0 0 (⟨#[]⟩:Bs) none 0 0 0 0 0 0 0 0 (⟨#[]⟩:Bs) none 0 0 0 0 0 0 0 0 (⟨#[]⟩:Bs) none 0 0 0 a)::·) F15 fun b5 I16 G15=>∃(y j k z aa:Int) (ab:Bs) (d:OA) (e f:Nat) (ac:Int),b5=.returned (nV y j k z aa ab d e f ac)∧G15 fun F16=>dt P 74 (#[vp (some p),vs (⟨#[97,116]⟩:Bs)]) I16 ((ka b 0 0 (⟨#[]⟩:Bs) 0 0 0 0 0 (⟨#[]⟩:Bs) none 0 0 0 0 0 0 0 0 (⟨#[]⟩:Bs) none 0 0 0 0 0 0 0 0 (⟨#[]⟩:Bs) none 0 0 0 0 0 0 0 0 (⟨#[]⟩:Bs) none 0 0 0 0)::(ka c (IntKind.wrap .u8 (1+(IntKind.wrap .u8 r))) 0 (⟨#[]⟩:Bs) 0 0 0 0 0 (⟨#[]⟩:Bs) none 0 0 0 y j k z aa ab d e f ac 0 0 0 0 0 (⟨#[]⟩:Bs) none 0 0 0 0 0 0 0 0 (⟨#[]⟩:Bs) none 0 0 0 a)::·) F16 vi fun r7 I17 F17=>eg P 48 (#[vp (some p),vi 0]) I17 ((ka b 0 0 (⟨#[]⟩:Bs) 0 0 0 0 0 (⟨#[]⟩:Bs) none 0 0 0 0 0 0 0 0 (⟨#[]⟩:Bs) none 0 0 0 0 0 0 0 0 (⟨#[]⟩:Bs) none 0 0 0 0 0 0 0 0 (⟨#[]⟩:Bs) none 0 0 0 0)::(ka c (IntKind.wrap .u8 (1+(IntKind.wrap .u8 r))) 0 (⟨#[]⟩:Bs) 0 0 0 0 0 (⟨#[]⟩:Bs) none 0 0 0 y j k z aa ab d e f ac 0 0 0 0 0 (⟨#[]⟩:Bs) none 0 0 0 0 0 0 0 0 (⟨#[]⟩:Bs) none 0 0 0 a)::·) F17 fun b7 I18 G17=>∃(au aj ak al av:Int) (aw:Bs) (ae:OA) (af ag:Nat) (ax:Int),b7=.returned (nV au aj ak al av aw ae af ag ax)∧G17 fun F18=>(It ((IntKind.wrap .u8 (1+(IntKind.wrap .u8 r)))==4) (dt P 74 (#[vp (some p),vs (⟨#[61]⟩:Bs)]) I18 ((ka b 0 0 (⟨#[]⟩:Bs) 0 0 0 0 0 (⟨#[]⟩:Bs) none 0 0 0 0 0 0 0 0 (⟨#[]⟩:Bs) none 0 0 0 0 0 0 0 0 (⟨#[]⟩:Bs) none 0 0 0 0 0 0 0 0 (⟨#[]⟩:Bs) none 0 0 0 0)::(ka c (IntKind.wrap .u8 (1+(IntKind.wrap .u8 r))) 0 (⟨#[]⟩:Bs) 0 0 0 0 0 (⟨#[]⟩:Bs) none 0 0 0 y j k z aa ab d e f ac au aj ak al av aw ae af ag ax 0 0 0 0 0 (⟨#[]⟩:Bs) none 0 0 0 a)::·) F18 vi fun r8 I19 F19=>eg P 48 (#[vp (some p),vi 0]) I19 ((ka b 0 0 (⟨#[]⟩:Bs) 0 0 0 0 0 (⟨#[]⟩:Bs) none 0 0 0 0 0 0 0 0 (⟨#[]⟩:Bs) none 0 0 0 0 0 0 0 0 (⟨#[]⟩:Bs) none 0 0 0 0 0 0 0 0 (⟨#[]⟩:Bs) none 0 0 0 0)::(ka c (IntKind.wrap .u8 (1+(IntKind.wrap .u8 r))) 0 (⟨#[]⟩:Bs) 0 0 0 0 0 (⟨#[]⟩:Bs) none 0 0 0 y j k z aa ab d e f ac au aj ak al av aw ae af ag ax 0 0 0 0 0 (⟨#[]⟩:Bs) none 0 0 0 a)::·) F19 fun b9 I20 G19=>∃(bJ a3 a4 a5 bK:Int) (bL:Bs) (aN:OA) (aO aP:Nat) (bM:Int),b9=.returned (nV bJ a3 a4 a5 bK bL aN aO aP bM)∧G19 fun F20=>Q (.returned ((kb (IntKind.wrap .u8 (1+(IntKind.wrap .u8 r))) 0 (⟨#[]⟩:Bs) 0 0 0 0 0 (⟨#[]⟩:Bs) none 0 0 0 y j k z aa ab d e f ac au aj ak al av aw ae af ag ax bJ a3 a4 a5 bK bL aN aO aP bM a))) I20 F20) (Q (.returned ((kb (IntKind.wrap .u8 (1+(IntKind.wrap .u8 r))) 0 (⟨#[]⟩:Bs) 0 0 0 0 0 (⟨#[]⟩:Bs) none 0 0 0 y j k z aa ab d e f ac au aj ak al av aw ae af ag ax 0 0 0 0 0 (⟨#[]⟩:Bs) none 0 0 0 a))) I18 F18))) (It ((IntKind.wrap .u8 (1+(IntKind.wrap .u8 r)))==4) (cU P 74 (#[vp (some p),vs (⟨#[61]⟩:Bs)]) I3 ((ka b 0 0 (⟨#[]⟩:Bs) 0 0 0 0 0 (⟨#[]⟩:Bs) none 0 0 0 0 0 0 0 0 (⟨#[]⟩:Bs) none 0 0 0 0 0 0 0 0 (⟨#[]⟩:Bs) none 0 0 0 0 0 0 0 0 (⟨#[]⟩:Bs) none 0 0 0 0)::(ka c (IntKind.wrap .u8 (1+(IntKind.wrap .u8 r))) 0 (⟨#[]⟩:Bs) 0 0 0 0 0 (⟨#[]⟩:Bs) none 0 0 0 0 0 0 0 0 (⟨#[]⟩:Bs) none 0 0 0 0 0 0 0 0 (⟨#[]⟩:Bs) none 0 0 0 0 0 0 0 0 (⟨#[]⟩:Bs) none 0 0 0 a)::(((am.add 3).block,Obj.cells (cY (am.add 3).off [vi (wr (m+1))] cs).toArray el (0,0))::F5)) fun ca I21 G20=>∃(r9:Int),ca=.returned (vi r9)∧∃F21:cR,List.Perm G20 ((ka b 0 0 (⟨#[]⟩:Bs) 0 0 0 0 0 (⟨#[]⟩:Bs) none 0 0 0 0 0 0 0 0 (⟨#[]⟩:Bs) none 0 0 0 0 0 0 0 0 (⟨#[]⟩:Bs) none 0 0 0 0 0 0 0 0 (⟨#[]⟩:Bs) none 0 0 0 0)::(ka c (IntKind.wrap .u8 (1+(IntKind.wrap .u8 r))) 0 (⟨#[]⟩:Bs) 0 0 0 0 0 (⟨#[]⟩:Bs) none 0 0 0 0 0 0 0 0 (⟨#[]⟩:Bs) none 0 0 0 0 0 0 0 0 (⟨#[]⟩:Bs) none 0 0 0 0 0 0 0 0 (⟨#[]⟩:Bs) none 0 0 0 a)::F21)∧eg P 48 (#[vp (some p),vi 0]) I21 ((ka b 0 0 (⟨#[]⟩:Bs) 0 0 0 0 0 (⟨#[]⟩:Bs) none 0 0 0 0 0 0 0 0 (⟨#[]⟩:Bs) none 0 0 0 0 0 0 0 0 (⟨#[]⟩:Bs) none 0 0 0 0 0 0 0 0 (⟨#[]⟩:Bs) none 0 0 0 0)::(ka c (IntKind.wrap .u8 (1+(IntKind.wrap .u8 r))) 0 (⟨#[]⟩:Bs) 0 0 0 0 0 (⟨#[]⟩:Bs) none 0 0 0 0 0 0 0 0 (⟨#[]⟩:Bs) none 0 0 0 0 0 0 0 0 (⟨#[]⟩:Bs) none 0 0 0 0 0 0 0 0 (⟨#[]⟩:Bs) none 0 0 0 a)::·) F21 fun cb I22 G21=>∃(bN a6 a7 a8 bO:Int) (bP:Bs) (aQ:OA) (aR aS:Nat) (bQ:Int),cb=.returned (nV bN a6 a7 a8 bO bP aQ aR aS bQ)∧G21 fun F22=>Q (.returned ((kb (IntKind.wrap .u8 (1+(IntKind.wrap .u8 r))) 0 (⟨#[]⟩:Bs) 0 0 0 0 0 (⟨#[]⟩:Bs) none 0 0 0 0 0 0 0 0 (⟨#[]⟩:Bs) none 0 0 0 0 0 0 0 0 (⟨#[]⟩:Bs) none 0 0 0 bN a6 a7 a8 bO bP aQ aR aS bQ a))) I22 F22) (Q (.returned ((kb (IntKind.wrap .u8 (1+(IntKind.wrap .u8 r))) 0 (⟨#[]⟩:Bs) 0 0 0 0 0 (⟨#[]⟩:Bs) none 0 0 0 0 0 0 0 0 (⟨#[]⟩:Bs) none 0 0 0 0 0 0 0 0 (⟨#[]⟩:Bs) none 0 0 0 0 0 0 0 0 (⟨#[]⟩:Bs) none 0 0 0 a))) I3 ((((am.add 3).block,Obj.cells (cY (am.add 3).off [vi (wr (m+1))] cs).toArray el (0,0))::F5)))))))))
theorem iX.vc{p:Addr}{I:cS}{F:cR}{Q:cT}  (h:iX.V (fun W a b c d e f g h i j k l m n o p q r s t u v w x y z aa ab ac ad ae af ag ah ai aj ak al am an ao ap aq ar=>(W,Obj.cells #[.int .u8 a,.int .u8 b,.string c,.int .u8 d,.int .u8 e,.int .u8 f,.int .i64 g,.int .u8 h,.string i,.slice j k l,.int .i64 m,.int .u8 n,.int .u8 o,.int .u8 p,.int .i64 q,.int .u8 r,.string s,.slice t u v,.int .i64 w,.int .u8 x,.int .u8 y,.int .u8 z,.int .i64 aa,.int .u8 ab,.string ac,.slice ad ae af,.int .i64 ag,.int .u8 ah,.int .u8 ai,.int .u8 aj,.int .i64 ak,.int .u8 al,.string am,.slice an ao ap,.int .i64 aq,.int .i64 ar] 114 (0,0))) (fun a b c d e f g h i j k l m n o p q r s t u v w x y z aa ab ac ad ae af ag ah ai aj ak al am an ao ap aq ar=>.agg #[.int .u8 a,.int .u8 b,.string c,.int .u8 d,.int .u8 e,.int .u8 f,.int .i64 g,.int .u8 h,.string i,.slice j k l,.int .i64 m,.int .u8 n,.int .u8 o,.int .u8 p,.int .i64 q,.int .u8 r,.string s,.slice t u v,.int .i64 w,.int .u8 x,.int .u8 y,.int .u8 z,.int .i64 aa,.int .u8 ab,.string ac,.slice ad ae af,.int .i64 ag,.int .u8 ah,.int .u8 ai,.int .u8 aj,.int .i64 ak,.int .u8 al,.string am,.slice an ao ap,.int .i64 aq,.int .i64 ar]) (fun k o t n f s a l c q=>.agg #[.int .u8 k,.int .u8 o,.int .u8 t,.int .i64 n,.int .u8 f,.string s,.slice a l c,.int .i64 q]) (.int .u8) (.int .i64) .string .slice .pointer (IntKind.wrap .i64) p I F Q):cU P 127 #[.pointer (some p)] I F Q :=
 tw (A:=(dy [3001,6001,10002,12002,17002] [] [48,74,75,81,95,108,142] nQ [] [2001] [] [] [] [] [])) [48,74,75,81,95,108,142] func127 h
def gZ.V(ka:Nat→Int→Int→Int→Int→Int→Bs→OA→Nat→Nat→Int→OA→Nat→Nat→Int→Nat×Obj)(kb:Nat→Int→Int→Bs→Int→Int→Int→Int→Int→Bs→OA→Nat→Nat→Int→Int→Int→Int→Int→Int→Bs→OA→Nat→Nat→Int→Int→Int→Int→Int→Int→Bs→OA→Nat→Nat→Int→Int→Int→Int→Int→Int→Bs→OA→Nat→Nat→Int→Int→Nat×Obj)(vb vi:Int→Value)(vs:Bs→Value)(vl:OA→Nat→Nat→Value)(vp:OA→Value)(p:Addr)(I:cS)(F:cR)(Q:cT)(Inv8:Int→Int→Int→Int→Int→Bs→OA→Nat→Nat→Int→OA→Nat→Nat→Int→cS→cR→Prop)(Inv10:Int→Int→Int→Int→Int→Bs→OA→Nat→Nat→Int→OA→Nat→Nat→Int→Nat→cS→cR→Prop):Prop:=∀b:Nat,dt P 74 (#[vp (some p),vs (⟨#[119,104,101,110]⟩:Bs)]) I ((ka b 0 0 0 0 0 (⟨#[]⟩:Bs) none 0 0 0 none 0 0 0)::·) F vi fun r I1 F1=>∀aj:Nat,eg P 48 (#[vp (some p),vi 0]) I1 ((ka b 0 0 0 0 0 (⟨#[]⟩:Bs) none 0 0 0 none 0 0 0)::(ka aj 0 0 0 0 0 (⟨#[]⟩:Bs) none 0 0 0 none 0 0 r)::·) F1 fun e2 I2 G2=>∃(bb bc bd be bf:Int) (bg:Bs) (a6:OA) (a7 a8:Nat) (bh:Int),e2=.returned (.agg #[vb bb,vb bc,vb bd,vi be,vb bf,vs bg,vl a6 a7 a8,vi bh])∧G2 fun F2=>dt P 74 (#[vp (some p),vs (⟨#[100,111]⟩:Bs)]) I2 ((ka b 0 0 0 0 0 (⟨#[]⟩:Bs) none 0 0 0 none 0 0 0)::(ka aj bb bc bd be bf bg a6 a7 a8 bh none 0 0 r)::·) F2 vi fun r1 I3 F3=>((∃m:Nat,Inv10 bb bc bd be bf bg a6 a7 a8 bh none 0 0 r m I3 F3)∧∀(e f g h i:Int) (j:Bs) (a:OA) (c d:Nat) (k:Int) (ag:OA) (ah ai:Nat) (l:Int) (m1:Nat) (I4:cS) (F4:cR),cS.le I3 I4→Inv10 e f g h i j a c d k ag ah ai l m1 I4 F4→eg P 127 (#[vp (some p)]) I4 ((ka b 0 0 0 0 0 (⟨#[]⟩:Bs) none 0 0 0 none 0 0 0)::(ka aj e f g h i j a c d k ag ah ai l)::·) F4 fun e4 I5 G4=>∃(ak al:Int) (am:Bs) (an ao ap aU aq:Int) (aV:Bs) (z:OA) (aa ab:Nat) (ar ac au av aw ax:Int) (ay:Bs) (n:OA) (o q:Nat) (az aA aB ae aC aD:Int) (aE:Bs) (s:OA) (t u:Nat) (aF aG aH aI aJ af:Int) (aK:Bs) (w:OA) (x y:Nat) (aL aM:Int),e4=.returned (.agg #[vb ak,vb al,vs am,vb an,vb ao,vb ap,vi aU,vb aq,vs aV,vl z aa ab,vi ar,vb ac,vb au,vb av,vi aw,vb ax,vs ay,vl n o q,vi az,vb aA,vb aB,vb ae,vi aC,vb aD,vs aE,vl s t u,vi aF,vb aG,vb aH,vb aI,vi aJ,vb af,vs aK,vl w x y,vi aL,vi aM])∧G4 fun F5=>∀a9:Nat,∀(b1:Nat) (I6:cS),cS.le I5 I6→I6 b1=some (Obj.cells #[vb ak,vb al,vs am,vb an,vb ao,vb ap,vi aU,vb aq,vs aV,vl z aa ab,vi ar,vb ac,vb au,vb av,vi aw,vb ax,vs ay,vl n o q,vi az,vb aA,vb aB,vb ae,vi aC,vb aD,vs aE,vl s t u,vi aF,vb aG,vb aH,vb aI,vi aJ,vb af,vs aK,vl w x y,vi aL,vi aM] 114 (0,0))→dk P (Builtin.append_ #[108,108] 108 #[vl ag ah ai,vl (some ⟨b1,0,none⟩) 1 1]) I6 ((ka b 0 0 0 0 0 (⟨#[]⟩:Bs) none 0 0 0 none 0 0 0)::(ka aj e f g h i j a c d k ag ah ai l)::(kb a9 ak al am an ao ap aU aq aV z aa ab ar ac au av aw ax ay n o q az aA aB ae aC aD aE s t u aF aG aH aI aJ af aK w x y aL aM)::F5) fun v I7 G5=>∃(aW:OA) (aT aX:Nat),v=vl aW aT aX∧∃F6:cR,List.Perm G5 ((ka b 0 0 0 0 0 (⟨#[]⟩:Bs) none 0 0 0 none 0 0 0)::(ka aj e f g h i j a c d k ag ah ai l)::(kb a9 ak al am an ao ap aU aq aV z aa ab ar ac au av aw ax ay n o q az aA aB ae aC aD aE s t u aF aG aH aI aJ af aK w x y aL aM)::F6)∧dt P 76 (#[vp (some p),vs (⟨#[44]⟩:Bs)]) I7 ((ka b 0 0 0 0 0 (⟨#[]⟩:Bs) none 0 0 0 none 0 0 0)::(ka aj e f g h i j a c d k aW aT aX l)::(kb a9 ak al am an ao ap aU aq aV z aa ab ar ac au av aw ax ay n o q az aA aB ae aC aD aE s t u aF aG aH aI aJ af aK w x y aL aM)::·) F6 .bool fun r2 I8 F7=>(It (!r2) (Inv8 e f g h i j a c d k aW aT aX l I8 F7) (dt P 77 (#[vp (some p),vi (aT:Int),vi 8]) I8 ((ka b 0 0 0 0 0 (⟨#[]⟩:Bs) none 0 0 0 none 0 0 0)::(ka aj e f g h i j a c d k aW aT aX l)::(kb a9 ak al am an ao ap aU aq aV z aa ab ar ac au av aw ax ay n o q az aA aB ae aC aD aE s t u aF aG aH aI aJ af aK w x y aL aM)::·) F7 .bool fun r3 I9 F8=>(It (!r3) (Inv8 e f g h i j a c d k aW aT aX l I9 F8) (∃ad:Addr,some p=some ad∧∃(m2:Int),Rd I9 ((ka b 0 0 0 0 0 (⟨#[]⟩:Bs) none 0 0 0 none 0 0 0)::(ka aj e f g h i j a c d k aW aT aX l)::(kb a9 ak al am an ao ap aU aq aV z aa ab ar ac au av aw ax ay n o q az aA aB ae aC aD aE s t u aF aG aH aI aJ af aK w x y aL aM)::F8) (ad.add 3) [vi m2]∧∃ba:Addr,some p=some ba∧∃(cs:List Value) (el:Nat) (F9:cR),List.Perm F8 (((ba.add 3).block,Obj.cells cs.toArray el (0,0))::F9)∧(ba.add 3).spot=none∧(ba.add 3).off+1≤cs.length∧(∃m3:Nat,m3<m1∧Inv10 e f g h i j a c d k aW aT aX l m3 I9 (((ba.add 3).block,Obj.cells (cY (ba.add 3).off [vi (IntKind.wrap .i64 (m2+1))] cs).toArray el (0,0))::F9)))))))∧∀(aY aZ a0 a1 a2:Int) (a3:Bs) (aN:OA) (aO aP:Nat) (a4:Int) (aQ:OA) (aR aS:Nat) (a5:Int) (I10:cS) (F10:cR),cS.le I3 I10→Inv8 aY aZ a0 a1 a2 a3 aN aO aP a4 aQ aR aS a5 I10 F10→dt P 74 (#[vp (some p),vs (⟨#[59]⟩:Bs)]) I10 ((ka b 0 0 0 0 0 (⟨#[]⟩:Bs) none 0 0 0 none 0 0 0)::(ka aj aY aZ a0 a1 a2 a3 aN aO aP a4 aQ aR aS a5)::·) F10 vi fun r4 I11 F11=>Q (.returned (.agg #[vb aY,vb aZ,vb a0,vi a1,vb a2,vs a3,vl aN aO aP,vi a4,vl aQ aR aS,vi a5])) I11 (F11)
theorem gZ.vc{p:Addr}{I:cS}{F:cR}{Q:cT}(Inv8:Int→Int→Int→Int→Int→Bs→OA→Nat→Nat→Int→OA→Nat→Nat→Int→cS→cR→Prop)(Inv10:Int→Int→Int→Int→Int→Bs→OA→Nat→Nat→Int→OA→Nat→Nat→Int→Nat→cS→cR→Prop)(h:gZ.V (fun W a b c d e f g h i j k l m n=>(W,Obj.cells #[.int .u8 a,.int .u8 b,.int .u8 c,.int .i64 d,.int .u8 e,.string f,.slice g h i,.int .i64 j,.slice k l m,.int .i64 n] 110 (0,0))) (fun W a b c d e f g h i j k l m n o p q r s t u v w x y z aa ab ac ad ae af ag ah ai aj ak al am an ao ap aq ar=>(W,Obj.cells #[.int .u8 a,.int .u8 b,.string c,.int .u8 d,.int .u8 e,.int .u8 f,.int .i64 g,.int .u8 h,.string i,.slice j k l,.int .i64 m,.int .u8 n,.int .u8 o,.int .u8 p,.int .i64 q,.int .u8 r,.string s,.slice t u v,.int .i64 w,.int .u8 x,.int .u8 y,.int .u8 z,.int .i64 aa,.int .u8 ab,.string ac,.slice ad ae af,.int .i64 ag,.int .u8 ah,.int .u8 ai,.int .u8 aj,.int .i64 ak,.int .u8 al,.string am,.slice an ao ap,.int .i64 aq,.int .i64 ar] 114 (0,0))) (.int .u8) (.int .i64) .string .slice .pointer p I F Q Inv8 Inv10):cU P 110 #[.pointer (some p)] I F Q :=
 tw (A:=(dy [7001,9001] [] [48,74,76,77,127] nQ [(8,⟨[],[(1,[(.int .u8),(.int .u8),(.int .u8),(.int .i64),(.int .u8),.str,.slc,(.int .i64),.slc,(.int .i64)])],fun _ _ _ vs m I F=>match vs with | [.int _ y0,.int _ y1,.int _ y2,.int _ y3,.int _ y4,.string y5,.slice y6 y7 y8,.int _ y9,.slice y10 y11 y12,.int _ y13]=>Inv8 y0 y1 y2 y3 y4 y5 y6 y7 y8 y9 y10 y11 y12 y13 I F | _=>False,[],[]⟩),(10,⟨[],[(1,[(.int .u8),(.int .u8),(.int .u8),(.int .i64),(.int .u8),.str,.slc,(.int .i64),.slc,(.int .i64)])],fun _ _ _ vs m I F=>match vs with | [.int _ y0,.int _ y1,.int _ y2,.int _ y3,.int _ y4,.string y5,.slice y6 y7 y8,.int _ y9,.slice y10 y11 y12,.int _ y13]=>Inv10 y0 y1 y2 y3 y4 y5 y6 y7 y8 y9 y10 y11 y12 y13 m I F | _=>False,[],[]⟩)] [5003] [] [] [] [] [])) [48,74,76,77,127] func110 h
def gq.V(ka:Nat→Bs→OA→Nat→Nat→Int→Nat×Obj)(vb vi:Int→Value)(vs:Bs→Value)(vl:OA→Nat→Nat→Value)(vp:OA→Value)(p:Addr)(I:cS)(F:cR)(Q:cT)(Inv8:Bs→OA→Nat→Nat→Int→cS→cR→Prop)(Inv10:Bs→OA→Nat→Nat→Int→Nat→cS→cR→Prop):Prop:=∀b:Nat,dt P 74 (#[vp (some p),vs (⟨#[115,116,97,116,101]⟩:Bs)]) I ((ka b (⟨#[]⟩:Bs) none 0 0 0)::·) F vi fun r I1 F1=>∀g:Nat,dt P 75 (#[vp (some p)]) I1 ((ka b (⟨#[]⟩:Bs) none 0 0 0)::(ka g (⟨#[]⟩:Bs) none 0 0 r)::·) F1 vs fun r1 I2 F2=>dt P 74 (#[vp (some p),vs (⟨#[123]⟩:Bs)]) I2 ((ka b (⟨#[]⟩:Bs) none 0 0 0)::(ka g r1 none 0 0 r)::·) F2 vi fun r2 I3 F3=>((∃m:Nat,Inv10 r1 none 0 0 r m I3 F3)∧∀(e:Bs) (c:OA) (a d:Nat) (f:Int) (m1:Nat) (I4:cS) (F4:cR),cS.le I3 I4→Inv10 e c a d f m1 I4 F4→dt P 76 (#[vp (some p),vs (⟨#[119,104,101,110]⟩:Bs)]) I4 ((ka b (⟨#[]⟩:Bs) none 0 0 0)::(ka g e c a d f)::·) F4 .bool fun r3 I5 F5=>(It (!r3) (Inv8 e c a d f I5 F5) (dt P 77 (#[vp (some p),vi (a:Int),vi 12]) I5 ((ka b (⟨#[]⟩:Bs) none 0 0 0)::(ka g e c a d f)::·) F5 .bool fun r4 I6 F6=>(It (!r4) (Inv8 e c a d f I6 F6) (eg P 110 (#[vp (some p)]) I6 ((ka b (⟨#[]⟩:Bs) none 0 0 0)::(ka g e c a d f)::·) F6 fun e6 I7 G6=>∃(w x y z aa:Int) (ab:Bs) (n:OA) (o q:Nat) (ac:Int) (s:OA) (t u:Nat) (ad:Int),e6=.returned (.agg #[vb w,vb x,vb y,vi z,vb aa,vs ab,vl n o q,vi ac,vl s t u,vi ad])∧G6 fun F7=>∀ah:Nat,∀(b1:Nat) (I8:cS),cS.le I7 I8→I8 b1=some (Obj.cells #[vb w,vb x,vb y,vi z,vb aa,vs ab,vl n o q,vi ac,vl s t u,vi ad] 110 (0,0))→dk P (Builtin.append_ #[86,86] 86 #[vl c a d,vl (some ⟨b1,0,none⟩) 1 1]) I8 ((ka b (⟨#[]⟩:Bs) none 0 0 0)::(ka g e c a d f)::(ah,Obj.cells #[vb w,vb x,vb y,vi z,vb aa,vs ab,vl n o q,vi ac,vl s t u,vi ad] 110 (0,0))::F7) fun v I9 G7=>∃(ae:OA) (af ag:Nat),v=vl ae af ag∧∃F8:cR,List.Perm G7 ((ka b (⟨#[]⟩:Bs) none 0 0 0)::(ka g e c a d f)::(ah,Obj.cells #[vb w,vb x,vb y,vi z,vb aa,vs ab,vl n o q,vi ac,vl s t u,vi ad] 110 (0,0))::F8)∧(∃m2:Nat,m2<m1∧Inv10 e ae af ag f m2 I9 F8))))))∧∀(k:Bs) (h:OA) (i j:Nat) (l:Int) (I10:cS) (F9:cR),cS.le I3 I10→Inv8 k h i j l I10 F9→dt P 74 (#[vp (some p),vs (⟨#[125]⟩:Bs)]) I10 ((ka b (⟨#[]⟩:Bs) none 0 0 0)::(ka g k h i j l)::·) F9 vi fun r5 I11 F10=>Q (.returned (.agg #[vs k,vl h i j,vi l])) I11 (F10)
theorem gq.vc{p:Addr}{I:cS}{F:cR}{Q:cT}(Inv8:Bs→OA→Nat→Nat→Int→cS→cR→Prop)(Inv10:Bs→OA→Nat→Nat→Int→Nat→cS→cR→Prop)(h:gq.V (fun W a b c d e=>(W,Obj.cells #[.string a,.slice b c d,.int .i64 e] 88 (0,0))) (.int .u8) (.int .i64) .string .slice .pointer p I F Q Inv8 Inv10):cU P 80 #[.pointer (some p)] I F Q :=
 tw (A:=(dy [5001,7001] [] [74,75,76,77,110] nQ [(8,⟨[],[(1,[.str,.slc,(.int .i64)])],fun _ _ _ vs m I F=>match vs with | [.string y0,.slice y1 y2 y3,.int _ y4]=>Inv8 y0 y1 y2 y3 y4 I F | _=>False,[],[]⟩),(10,⟨[],[(1,[.str,.slc,(.int .i64)])],fun _ _ _ vs m I F=>match vs with | [.string y0,.slice y1 y2 y3,.int _ y4]=>Inv10 y0 y1 y2 y3 y4 m I F | _=>False,[],[]⟩)] [9003] [] [] [] [] [])) [74,75,76,77,110] func80 h
def gu.V(ka:Nat→Bs→Int→Nat×Obj)(vi:Int→Value)(vs:Bs→Value)(vl:OA→Nat→Nat→Value)(vp:OA→Value)(p:Addr)(I:cS)(F:cR)(Q:cT)(Inv5:OA→Nat→Nat→OA→Nat→Nat→Nat→cS→cR→Prop):Prop:=(∃m:Nat,Inv5 none 0 0 none 0 0 m I F)∧∀(f:OA) (g h:Nat) (d:OA) (c e m1:Nat) (I1:cS) (F1:cR),cS.le I I1→Inv5 f g h d c e m1 I1 F1→dt P 76 (#[vp (some p),vs (⟨#[115,108,111,116]⟩:Bs)]) I1 (·) F1 .bool fun r I2 F2=>(It (!r) (Q (.returned (vl d c e)) I2 F2) (dt P 77 (#[vp (some p),vi (c:Int),vi 4]) I2 (·) F2 .bool fun r1 I3 F3=>(It (!r1) (Q (.returned (vl d c e)) I3 F3) (dt P 74 (#[vp (some p),vs (⟨#[115,108,111,116]⟩:Bs)]) I3 (·) F3 vi fun r2 I4 F4=>∀a:Nat,dt P 75 (#[vp (some p)]) I4 ((ka a (⟨#[]⟩:Bs) r2)::·) F4 vs fun r3 I5 F5=>dt P 74 (#[vp (some p),vs (⟨#[59]⟩:Bs)]) I5 ((ka a r3 r2)::·) F5 vi fun r4 I6 F6=>∀(b:Nat) (I7:cS),cS.le I6 I7→I7 b=some (Obj.cells #[vs r3,vi r2] 106 (0,0))→dk P (Builtin.append_ #[40,40] 40 #[vl d c e,vl (some ⟨b,0,none⟩) 1 1]) I7 ((ka a r3 r2)::F6) fun v I8 G6=>∃(i:OA) (j k:Nat),v=vl i j k∧∃F7:cR,List.Perm G6 ((ka a r3 r2)::F7)∧(∃m2:Nat,m2<m1∧Inv5 f g h i j k m2 I8 F7)))))
theorem gu.vc{p:Addr}{I:cS}{F:cR}{Q:cT}(Inv5:OA→Nat→Nat→OA→Nat→Nat→Nat→cS→cR→Prop)(h:gu.V (fun W a b=>(W,Obj.cells #[.string a,.int .i64 b] 106 (0,0))) (.int .i64) .string .slice .pointer p I F Q Inv5):cU P 79 #[.pointer (some p)] I F Q :=
 tw (A:=(dy [3001,6001] [] [74,75,76,77] nQ [(5,⟨[(2,.slc),(3,.slc)],[],fun _ _ _ vs m I F=>match vs with | [.slice y0 y1 y2,.slice y3 y4 y5]=>Inv5 y0 y1 y2 y3 y4 y5 m I F | _=>False,[],[]⟩)] [11002] [] [] [] [] [])) [74,75,76,77] func79 h
def gx.V(ka:Nat→Bs→OA→Nat→Nat→OA→Nat→Nat→OA→Nat→Nat→Nat×Obj)(vb vi:Int→Value)(vs:Bs→Value)(vl:OA→Nat→Nat→Value)(vt:Bool→Value)(vp:OA→Value)(p:Addr)(I:cS)(F:cR)(Q:cT)(Inv10:Bs→OA→Nat→Nat→OA→Nat→Nat→OA→Nat→Nat→cS→cR→Prop)(Inv12:Bs→OA→Nat→Nat→OA→Nat→Nat→OA→Nat→Nat→Nat→cS→cR→Prop)(Inv35:Bs→OA→Nat→Nat→OA→Nat→Nat→OA→Nat→Nat→cS→cR→Prop)(Inv37:Bs→OA→Nat→Nat→OA→Nat→Nat→OA→Nat→Nat→Nat→cS→cR→Prop):Prop:=∀b:Nat,∀l:Nat,dt P 74 (#[vp (some p),vs (⟨#[115,116,114,97,116,101,103,121]⟩:Bs)]) I ((ka b (⟨#[]⟩:Bs) none 0 0 none 0 0 none 0 0)::(ka l (⟨#[]⟩:Bs) none 0 0 none 0 0 none 0 0)::·) F vi fun r I1 F1=>dt P 75 (#[vp (some p)]) I1 ((ka b (⟨#[]⟩:Bs) none 0 0 none 0 0 none 0 0)::(ka l (⟨#[]⟩:Bs) none 0 0 none 0 0 none 0 0)::·) F1 vs fun r1 I2 F2=>dt P 74 (#[vp (some p),vs (⟨#[123]⟩:Bs)]) I2 ((ka b (⟨#[]⟩:Bs) none 0 0 none 0 0 none 0 0)::(ka l r1 none 0 0 none 0 0 none 0 0)::·) F2 vi fun r2 I3 F3=>((∃m:Nat,Inv12 r1 none 0 0 none 0 0 none 0 0 m I3 F3)∧∀(aj:Bs) (z:OA) (y aa:Nat) (ab:OA) (ac ad:Nat) (ae:OA) (af ag m1:Nat) (I4:cS) (F4:cR),cS.le I3 I4→Inv12 aj z y aa ab ac ad ae af ag m1 I4 F4→dt P 76 (#[vp (some p),vs (⟨#[114,101,103]⟩:Bs)]) I4 ((ka b (⟨#[]⟩:Bs) none 0 0 none 0 0 none 0 0)::(ka l aj z y aa ab ac ad ae af ag)::·) F4 vt fun r3 I5 F5=>(It (!r3) (Inv10 aj z y aa ab ac ad ae af ag I5 F5) (dt P 77 (#[vp (some p),vi (y:Int),vi 12]) I5 ((ka b (⟨#[]⟩:Bs) none 0 0 none 0 0 none 0 0)::(ka l aj z y aa ab ac ad ae af ag)::·) F5 vt fun r4 I6 F6=>(It (!r4) (Inv10 aj z y aa ab ac ad ae af ag I6 F6) (eg P 78 (#[vp (some p)]) I6 ((ka b (⟨#[]⟩:Bs) none 0 0 none 0 0 none 0 0)::(ka l aj z y aa ab ac ad ae af ag)::·) F6 fun e6 I7 G6=>∃(aF:Bs) (aG aH aI aJ aK aL:Int) (aM:Bs) (aw:OA) (ax ay:Nat) (aN aC:Int),e6=.returned (.agg #[vs aF,vb aG,vb aH,vb aI,vb aJ,vi aK,vb aL,vs aM,vl aw ax ay,vi aN,vi aC])∧G6 fun F7=>∀aX:Nat,∀(b1:Nat) (I8:cS),cS.le I7 I8→I8 b1=some (Obj.cells #[vs aF,vb aG,vb aH,vb aI,vb aJ,vi aK,vb aL,vs aM,vl aw ax ay,vi aN,vi aC] 104 (0,0))→dk P (Builtin.append_ #[39,39] 39 #[vl z y aa,vl (some ⟨b1,0,none⟩) 1 1]) I8 ((ka b (⟨#[]⟩:Bs) none 0 0 none 0 0 none 0 0)::(ka l aj z y aa ab ac ad ae af ag)::(aX,Obj.cells #[vs aF,vb aG,vb aH,vb aI,vb aJ,vi aK,vb aL,vs aM,vl aw ax ay,vi aN,vi aC] 104 (0,0))::F7) fun v I9 G7=>∃(aU:OA) (aV aW:Nat),v=vl aU aV aW∧∃F8:cR,List.Perm G7 ((ka b (⟨#[]⟩:Bs) none 0 0 none 0 0 none 0 0)::(ka l aj z y aa ab ac ad ae af ag)::(aX,Obj.cells #[vs aF,vb aG,vb aH,vb aI,vb aJ,vi aK,vb aL,vs aM,vl aw ax ay,vi aN,vi aC] 104 (0,0))::F8)∧(∃m2:Nat,m2<m1∧Inv12 aj aU aV aW ab ac ad ae af ag m2 I9 F8))))))∧∀(av:Bs) (ak:OA) (al am:Nat) (aq:OA) (ar au:Nat) (an:OA) (ao ap:Nat) (I10:cS) (F9:cR),cS.le I3 I10→Inv10 av ak al am aq ar au an ao ap I10 F9→eg P 79 (#[vp (some p)]) I10 ((ka b (⟨#[]⟩:Bs) none 0 0 none 0 0 none 0 0)::(ka l av ak al am aq ar au an ao ap)::·) F9 fun e7 I11 G8=>∃(aO:OA) (aP aQ:Nat),e7=.returned (vl aO aP aQ)∧G8 fun F10=>((∃m3:Nat,Inv37 av ak al am aO aP aQ an ao ap m3 I11 F10)∧∀(ai:Bs) (n:OA) (o q:Nat) (s:OA) (t u:Nat) (w:OA) (c x m4:Nat) (I12:cS) (F11:cR),cS.le I11 I12→Inv37 ai n o q s t u w c x m4 I12 F11→dt P 76 (#[vp (some p),vs (⟨#[115,116,97,116,101]⟩:Bs)]) I12 ((ka b (⟨#[]⟩:Bs) none 0 0 none 0 0 none 0 0)::(ka l ai n o q s t u w c x)::·) F11 vt fun r5 I13 F12=>(It (!r5) (Inv35 ai n o q s t u w c x I13 F12) (dt P 77 (#[vp (some p),vi (c:Int),vi 12]) I13 ((ka b (⟨#[]⟩:Bs) none 0 0 none 0 0 none 0 0)::(ka l ai n o q s t u w c x)::·) F12 vt fun r6 I14 F13=>(It (!r6) (Inv35 ai n o q s t u w c x I14 F13) (eg P 80 (#[vp (some p)]) I14 ((ka b (⟨#[]⟩:Bs) none 0 0 none 0 0 none 0 0)::(ka l ai n o q s t u w c x)::·) F13 fun aZ I15 G11=>∃(aD:Bs) (az:OA) (aA aB:Nat) (aE:Int),aZ=.returned (.agg #[vs aD,vl az aA aB,vi aE])∧G11 fun F14=>∀aY:Nat,∀(b2:Nat) (I16:cS),cS.le I15 I16→I16 b2=some (Obj.cells #[vs aD,vl az aA aB,vi aE] 88 (0,0))→dk P (Builtin.append_ #[41,41] 41 #[vl w c x,vl (some ⟨b2,0,none⟩) 1 1]) I16 ((ka b (⟨#[]⟩:Bs) none 0 0 none 0 0 none 0 0)::(ka l ai n o q s t u w c x)::(aY,Obj.cells #[vs aD,vl az aA aB,vi aE] 88 (0,0))::F14) fun v1 I17 G12=>∃(aR:OA) (aS aT:Nat),v1=vl aR aS aT∧∃F15:cR,List.Perm G12 ((ka b (⟨#[]⟩:Bs) none 0 0 none 0 0 none 0 0)::(ka l ai n o q s t u w c x)::(aY,Obj.cells #[vs aD,vl az aA aB,vi aE] 88 (0,0))::F15)∧(∃m5:Nat,m5<m4∧Inv37 ai n o q s t u aR aS aT m5 I17 F15))))))∧∀(ah:Bs) (d:OA) (e f:Nat) (g:OA) (h i:Nat) (j:OA) (a k:Nat) (I18:cS) (F16:cR),cS.le I11 I18→Inv35 ah d e f g h i j a k I18 F16→(It ((a:Int)==0) (eg P 81 (#[vp (some p),vi 130]) I18 ((ka b (⟨#[]⟩:Bs) none 0 0 none 0 0 none 0 0)::(ka l ah d e f g h i j a k)::·) F16 fun a0 I19 G13=>a0=.returned (.tuple #[])∧G13 fun F17=>dt P 74 (#[vp (some p),vs (⟨#[125]⟩:Bs)]) I19 ((ka b (⟨#[]⟩:Bs) none 0 0 none 0 0 none 0 0)::(ka l ah d e f g h i j a k)::·) F17 vi fun r7 I20 F18=>eg P 49 (#[vp (some p)]) I20 ((ka b (⟨#[]⟩:Bs) none 0 0 none 0 0 none 0 0)::(ka l ah d e f g h i j a k)::·) F18 fun a2 I21 G15=>a2=.returned (.tuple #[])∧G15 fun F19=>Q (.returned (.agg #[vs ah,vl d e f,vl g h i,vl j a k])) I21 F19) (dt P 74 (#[vp (some p),vs (⟨#[125]⟩:Bs)]) I18 ((ka b (⟨#[]⟩:Bs) none 0 0 none 0 0 none 0 0)::(ka l ah d e f g h i j a k)::·) F16 vi fun r8 I22 F20=>eg P 49 (#[vp (some p)]) I22 ((ka b (⟨#[]⟩:Bs) none 0 0 none 0 0 none 0 0)::(ka l ah d e f g h i j a k)::·) F20 fun a4 I23 G17=>a4=.returned (.tuple #[])∧G17 fun F21=>Q (.returned (.agg #[vs ah,vl d e f,vl g h i,vl j a k])) I23 F21))
theorem gx.vc{p:Addr}{I:cS}{F:cR}{Q:cT}(Inv10:Bs→OA→Nat→Nat→OA→Nat→Nat→OA→Nat→Nat→cS→cR→Prop)(Inv12:Bs→OA→Nat→Nat→OA→Nat→Nat→OA→Nat→Nat→Nat→cS→cR→Prop)(Inv35:Bs→OA→Nat→Nat→OA→Nat→Nat→OA→Nat→Nat→cS→cR→Prop)(Inv37:Bs→OA→Nat→Nat→OA→Nat→Nat→OA→Nat→Nat→Nat→cS→cR→Prop)(h:gx.V (fun W a b c d e f g h i j=>(W,Obj.cells #[.string a,.slice b c d,.slice e f g,.slice h i j] 43 (0,0))) (.int .u8) (.int .i64) .string .slice .bool .pointer p I F Q Inv10 Inv12 Inv35 Inv37):cU P 29 #[.pointer (some p)] I F Q :=
 tw (A:=(dy [6001,8001,13001,15001,18003] [] [49,74,75,76,77,78,79,80,81] nQ [(10,⟨[],[(1,[.str,.slc,.slc,.slc])],fun _ _ _ vs m I F=>match vs with | [.string y0,.slice y1 y2 y3,.slice y4 y5 y6,.slice y7 y8 y9]=>Inv10 y0 y1 y2 y3 y4 y5 y6 y7 y8 y9 I F | _=>False,[],[]⟩),(12,⟨[],[(1,[.str,.slc,.slc,.slc])],fun _ _ _ vs m I F=>match vs with | [.string y0,.slice y1 y2 y3,.slice y4 y5 y6,.slice y7 y8 y9]=>Inv12 y0 y1 y2 y3 y4 y5 y6 y7 y8 y9 m I F | _=>False,[],[]⟩),(35,⟨[],[(1,[.str,.slc,.slc,.slc])],fun _ _ _ vs m I F=>match vs with | [.string y0,.slice y1 y2 y3,.slice y4 y5 y6,.slice y7 y8 y9]=>Inv35 y0 y1 y2 y3 y4 y5 y6 y7 y8 y9 I F | _=>False,[],[]⟩),(37,⟨[],[(1,[.str,.slc,.slc,.slc])],fun _ _ _ vs m I F=>match vs with | [.string y0,.slice y1 y2 y3,.slice y4 y5 y6,.slice y7 y8 y9]=>Inv37 y0 y1 y2 y3 y4 y5 y6 y7 y8 y9 m I F | _=>False,[],[]⟩)] [10003,17003] [] [] [] [] [])) [49,74,75,76,77,78,79,80,81] func29 h
def jE.V(ka:Nat→Bs→OA→Nat→Nat→OA→Nat→Nat→OA→Nat→Nat→Nat×Obj)(kb:Nat→Int→Int→Bool→Nat×Obj)(vi:Int→Value)(vs:Bs→Value)(vl:OA→Nat→Nat→Value)(vt:Bool→Value)(s:Bs)(I:cS)(F:cR)(Q:cT)  : Prop:=∀b:Nat,∀b1:Nat,dt P 28 #[vs s] I ((ka b (⟨#[]⟩:Bs) none 0 0 none 0 0 none 0 0)::(kb b1 0 0 false)::·) F .pointer fun r I1 F1=>eg P 29 #[.pointer r] I1 ((ka b (⟨#[]⟩:Bs) none 0 0 none 0 0 none 0 0)::(kb b1 0 0 false)::·) F1 fun e2 I2 G2=>∃(k:Bs) (a:OA) (c d:Nat) (e:OA) (f g:Nat) (h:OA) (i j:Nat),e2=.returned (.agg #[vs k,vl a c d,vl e f g,vl h i j])∧G2 fun F2=>∀o:Nat,dt P 30 #[.pointer r] I2 ((ka b (⟨#[]⟩:Bs) none 0 0 none 0 0 none 0 0)::(kb b1 0 0 false)::(ka o k a c d e f g h i j)::·) F2 vt fun r1 I3 F3=>(It r1 (∃ad:Addr,r=some ad∧∃(l m:Int) (n:Bool),Rd I3 F3 (ad.add 4) [vi l,vi m,vt n]∧Q (.returned (.tuple #[.agg #[vs (⟨#[]⟩:Bs),vl none 0 0,vl none 0 0,vl none 0 0],.agg #[vi l,vi m,vt n]])) I3 F3) (Q (.returned (.tuple #[.agg #[vs k,vl a c d,vl e f g,vl h i j],.agg #[vi 0,vi 0,vt false]])) I3 F3))
theorem jE.vc{s:Bs}{I:cS}{F:cR}{Q:cT}  (h:jE.V (fun W a b c d e f g h i j=>(W,Obj.cells #[.string a,.slice b c d,.slice e f g,.slice h i j] 43 (0,0))) (fun W a b c=>(W,Obj.cells #[.int .i64 a,.int .i64 b,.bool c] 50 (0,0))) (.int .i64) .string .slice .bool s I F Q):cU P 11 #[.string s] I F Q :=
 tw (A:=(dy [3001] [] [28,29,30] nQ [] [] [] [(4,5,[0])] [] [] [(4,6)])) [28,29,30] func11 h
def Fa.V(ka:Nat→Int→Int→Bool→Nat×Obj)(nV:Int→Int→Int→Int→Int→Bs→OA→Nat→Nat→Int→Value)(nO:Int→Int→Int→Int→Int→Bs→OA→Nat→Nat→Int→Obj)(vi:Int→Value)(vt:Bool→Value)(vp:OA→Value)(s:Bs)(I:cS)(F:cR)(Q:cT)  : Prop:=∀b:Nat,∀b1:Nat,dt P 28 #[.string s] I ((b,nO 0 0 0 0 0 (⟨#[]⟩:Bs) none 0 0 0)::(ka b1 0 0 false)::·) F vp fun r I1 F1=>eg P 48 #[vp r,vi 0] I1 ((b,nO 0 0 0 0 0 (⟨#[]⟩:Bs) none 0 0 0)::(ka b1 0 0 false)::·) F1 fun e2 I2 G2=>∃(e f g h i:Int) (j:Bs) (a:OA) (c d:Nat) (k:Int),e2=.returned (nV e f g h i j a c d k)∧G2 fun F2=>∀l:Nat,eg P 49 #[vp r] I2 ((b,nO 0 0 0 0 0 (⟨#[]⟩:Bs) none 0 0 0)::(ka b1 0 0 false)::(l,nO e f g h i j a c d k)::·) F2 fun e3 I3 G3=>e3=.returned (.tuple #[])∧G3 fun F3=>dt P 30 #[vp r] I3 ((b,nO 0 0 0 0 0 (⟨#[]⟩:Bs) none 0 0 0)::(ka b1 0 0 false)::(l,nO e f g h i j a c d k)::·) F3 vt fun r1 I4 F4=>(It r1 (∃ad:Addr,r=some ad∧∃(m n:Int) (o:Bool),Rd I4 F4 (ad.add 4) [vi m,vi n,vt o]∧Q (.returned (.tuple #[nV 0 0 0 0 0 (⟨#[]⟩:Bs) none 0 0 0,.agg #[vi m,vi n,vt o]])) I4 F4) (Q (.returned (.tuple #[nV e f g h i j a c d k,.agg #[vi 0,vi 0,vt false]])) I4 F4))
end Go.Lx
namespace Go.Lx
open Go.Vc
def Hm{N Pl:Type}(v:N→Value)(p:N→Pl)(ok:cS→N→Prop)(q:PQ)(b:Nat)(F0:cR)(r:Pl×PS)(e:Ending)(I:cS)(G:cR):Prop:=∃x:N,e=.returned (v x)∧p x=r.1∧ok I x∧G.Perm (q.db b r.2::F0)
def vA{N Pl:Type}(f:Nat)(v:N→Value)(p:N→Pl)(ok:cS→N→Prop)(q:PQ)(g:PS→Pl×PS):Prop:=∀(b:Nat) (s:PS) (I:cS) (F F0:cR),q.ok I→s.next≤q.c.l.length→F.Perm (q.db b s::F0)→cU P f #[.pointer (some ⟨b,0,none⟩)] I F (Hm v p ok q b F0 (g s))
def qo(I:cS)(r:dw):Prop:=r.Ok I []
def yi(I:cS)(r:eJ):Prop:=r.Ok I []
def qX(I:cS)(r:dc):Prop:=r.Ok I []
def nf(I:cS)(r:cZ):Prop:=r.Ok I []
def Gj(I:cS)(r:dV):Prop:=r.Ok I []
section
variable {c:PC}
theorem Up.pD{nm:ByteArray}{t pos pos2:Int}{minus:Bool}{n:Px}:ee c (c.pD nm t pos pos2 minus n):=fun s=>Up.take _
theorem Up.lV{nm:ByteArray}{t pos pos2:Int}{minus:Bool}:ee c (c.lV nm t pos pos2 minus):=fun s=>by
 unfold PC.lV
 split
 ·exact .da _
 ·refine Up.trans ?_ (Up.pD _)
  split
  ·exact .literal
  ·exact Up.literal.trans (.da _)
theorem Up.pE{nm:ByteArray}{t pos:Int}:ee c (c.pE nm t pos):=fun s=>by
 unfold PC.pE
 refine Up.trans ?_ (Up.lV _)
 split
 ·rename_i h;exact .inc (eM h)
 ·exact .refl
theorem Up.oN{nm:ByteArray}{pos:Int}:ee c (c.oN nm pos):=fun s=>by
 unfold PC.oN
 split
 ·exact .da _
 ·rename_i ha
  exact (Up.inc (dD (Int.not_lt.1 ha)).1).trans ((Up.take _).trans (Up.pE _))
theorem Up.kM:ee c c.kM:=fun s=>(Up.take _).trans (Up.name.trans (Up.oN _))
theorem Up.je:ee c c.je:=fun s=>by
 unfold PC.je
 split
 ·rename_i h;exact (Up.inc (eM h)).trans .name
 ·exact .refl
theorem Up.nN{x y z:Px}{pos o:Int}:ee c (c.nN x y pos z o):=fun s=>Up.je s
theorem Up.pF{x y z:Px}{pos:Int}:ee c (c.pF x y pos z):=fun s=>by
 unfold PC.pF
 split
 ·exact .da _
 ·rename_i ha
  exact (Up.inc (dD (Int.not_lt.1 ha)).1).trans (Up.nN _)
theorem Up.oO{x y:Px}{pos:Int}:ee c (c.oO x y pos):=fun s=>by
 unfold PC.oO
 split
 ·exact .da _
 ·rename_i ha
  have h1:=Up.inc (c:=c) (dD (Int.not_lt.1 ha)).1
  split
  ·exact h1.trans ((Up.eX _).trans (Up.pF _))
  ·exact h1.trans (Up.nN _)
theorem Up.kX:ee c c.kX:=fun s=>(Up.take _).trans ((Up.eX _).trans ((Up.take _).trans ((Up.eX _).trans (Up.oO _))))
theorem Up.wC{k:Int}{nm:ByteArray}{pos:Int}:ee c (c.wC k nm pos):=fun s=>by
 unfold PC.wC
 split
 ·exact (Up.take _).trans ((Up.eX _).trans ((Up.take _).trans (Up.eX _)))
 ·split
  ·exact (Up.take _).trans (Up.eX _)
  ·exact .refl
theorem Up.do:ee c c.do:=fun s=>by
 unfold PC.do
 split
 ·exact .da _
 ·rename_i ha
  have h1:=Up.inc (c:=c) (dD (Int.not_lt.1 ha)).1
  split
  ·exact Up.kX s
  ·split
   ·exact h1.trans (Up.wC _)
   ·exact h1.trans (Up.name.trans (Up.wC _))
end
theorem Gk{q:PQ}:vA 78 dw.v dw.p qo q q.c.kM:=by
 intro b s I F F0 hq hsn hF
 have hl:=hq.len
 unfold PC.kM
 have ht:=(Up.take (c:=q.c) (s:=s) (⟨#[114,101,103]⟩:ByteArray)).2 hsn
 generalize hta:q.c.take (⟨#[114,101,103]⟩:ByteArray) s=ta at ht ⊢
 have hn:=(Up.name (c:=q.c) (s:=ta.2)).2 ht
 generalize hbb:q.c.name ta.2=bb at hn ⊢
 obtain⟨s4,hs4e⟩:∃s4,s4=(if q.c.eu (⟨#[45]⟩:ByteArray) (q.c.take (⟨#[61]⟩:ByteArray) bb.2.inc).2 then (q.c.take (⟨#[61]⟩:ByteArray) bb.2.inc).2.inc else (q.c.take (⟨#[61]⟩:ByteArray) bb.2.inc).2):=⟨_,rfl⟩
 obtain⟨s5,hs5e⟩:∃s5,s5=(if (q.c.literal s4).1.2 then (q.c.literal s4).2 else q.c.da 130 (q.c.literal s4).2):=⟨_,rfl⟩
 refine iA.vc (fun x0 x1 x2 x3 x4 x5 x6 x7 xa xn xc x9 x10 I' F'=>q.ok I'∧F'.Perm (q.db b s4::F0)∧¬(q.c.eu (⟨#[45]⟩:ByteArray) (q.c.take (⟨#[61]⟩:ByteArray) bb.2.inc).2=true∧(q.c.now s4).kind≠3))
  (fun I' F'=>q.ok I'∧F'.Perm (q.db b s5::F0)) ?_
 unfold iA.V
 intro b2
 refine (eN hq _ ((hF.cons _).trans me)).mono fun e I1 G l1 ⟨he,hG⟩=>⟨_,he,q.db b ta.2::F0,by rw[hta] at hG;exact hG.trans me,fun b_r=>?_⟩
 rw[hta]
 have hq1:=hq.mono l1
 refine (pH hq1 (s:=ta.2) ec).mono fun e I2 G l2 ⟨he,hG⟩=>⟨_,he,q.db b bb.2::F0,by rw[hbb] at hG;exact hG.trans ec.symm,fun b3 I3 l3 hb3=>?_⟩
 rw[hbb]
 have hq3:=(hq1.mono l2).mono l3
 refine cU.ret (nt hq3 (Sl.words (ws:=gQ) hb3 rfl) (by decide) (s:=bb.2) (.tail _ (.tail _ (.head _)))) fun I4 l4=>⟨_,rfl,q.db b bb.2::F0,.refl _,fun ha=>?_,fun ha=>?_⟩
 ·have ha:=of_decide_eq_true ha
  refine (gi (hq3.mono l4) 130 (s:=bb.2) ec).mono fun e I5 G l5 ⟨he,hG⟩=>⟨he,q.db b (q.c.da 130 bb.2)::F0,hG.trans ec.symm, ?_⟩
  unfold PC.oN
  rw[if_pos ha]
  exact⟨⟨bb.1,0,fW,ta.1⟩,rfl,by simp only[dw.p,fW,Nd.px,Nd.qO];rfl,dO.leaf,.refl _⟩
 have ha:=of_decide_eq_false ha
 have hab:=o1 (Int.not_lt.1 ha) (by decide)
 have hlt:=(dD (Int.not_lt.1 ha)).1
 have hq4:=hq3.mono l4
 unfold PC.oN
 rw[if_neg ha]
 refine⟨_,rfl,_,PQ.rd (k:=3) (.tail _ (.tail _ (.head _))) rfl,_,rfl,q.cl bb.2,96,F0,.refl _,PQ.spot _ _,by rw[PQ.off];exact (by decide:3+1≤7), ?_⟩
 rw[PQ.fe (by omega),w8 (n:=q.c.any gQ bb.2) (by omega),w8 (n:=1+q.c.any gQ bb.2) (by omega)]
 have h5:=(Up.take (c:=q.c) (s:=bb.2.inc) (⟨#[61]⟩:ByteArray)).2 hlt
 refine (eN hq4 _ (s:=bb.2.inc) ec).mono fun e I5 G l5 ⟨he,hG⟩=>⟨_,he,q.db b (q.c.take (⟨#[61]⟩:ByteArray) bb.2.inc).2::F0,hG.trans ec.symm, ?_⟩
 generalize hs3:(q.c.take (⟨#[61]⟩:ByteArray) bb.2.inc).2=s3 at h5 hs4e ⊢
 unfold PC.pE
 rw[←hs4e]
 have hq5:=hq4.mono l5
 refine cU.ret (kl hq5 (s:=s3) (.tail _ (.tail _ (.head _)))) fun I6 l6=>⟨_,_,_,_,_,rfl,q.db b s3::F0,.refl _, ?_⟩
 have hq6:=hq5.mono l6
 refine cU.ret (pG hq6 _ (s:=s3) (.tail _ (.tail _ (.head _)))) fun I7 l7=>⟨_,rfl,q.db b s3::F0,.refl _,⟨fun hm=>?_,fun hm=>?_⟩, ?_⟩
 ·have hlt3:=eM hm
  rw[if_pos hm] at hs4e
  refine⟨_,rfl,_,PQ.rd (k:=3) (.tail _ (.tail _ (.head _))) rfl,_,rfl,q.cl s3,96,F0,.refl _,PQ.spot _ _,by rw[PQ.off];exact (by decide:3+1≤7), ?_⟩
  rw[PQ.fe (by omega),←hs4e]
  have hq7:=hq6.mono l7
  refine cU.ret (kl hq7 (s:=s4) (.tail _ (.tail _ (.head _)))) fun I8 l8=>⟨_,_,_,_,_,rfl,q.db b s4::F0,.refl _,fun h3=>?_,fun h3=>?_⟩
  ·have h3:(q.c.now s4).kind≠3:=by simpa using h3
   refine (gi (hq7.mono l8) 130 (s:=s4) ec).mono fun e I9 G l9 ⟨he,hG⟩=>⟨he,q.db b (q.c.da 130 s4)::F0,hG.trans ec.symm, ?_⟩
   unfold PC.lV
   rw[if_pos ⟨hm,h3⟩]
   exact⟨⟨bb.1,1+q.c.any gQ bb.2,fW,ta.1⟩,rfl,by simp only[dw.p,fW,Nd.px,Nd.qO];rfl,dO.leaf,.refl _⟩
  ·have h3:(q.c.now s4).kind=3:=by simpa using h3
   exact⟨hq7.mono l8,.refl _,fun h=>h.2 h3⟩
 ·rw[if_neg (by simp[hm])] at hs4e
  rw[hs4e]
  exact⟨hq6.mono l7,.refl _,fun h=>by rw[hm] at h;cases h.1⟩
 have hs4:s4.next≤q.c.l.length:=by
  rw[hs4e]
  split
  ·rename_i h;exact eM h
  ·exact h5
 intro x0 x1 x2 x3 x4 x5 x6 x7 xa xn xc x9 x10 I8 F8 l8 ⟨hq8,hF8,hnm⟩
 unfold PC.lV
 rw[if_neg hnm,←hs5e]
 refine (vy hq8 ((((hF8.cons _).cons _)).trans ec)).mono fun e I9 G l9 ⟨t,he,px,hok,hG⟩=>?_
 refine⟨_,_,_,_,_,_,_,_,_,_,_,he,q.db b (q.c.literal s4).2::F0,hG.trans ec.symm,fun b_n=>⟨⟨fun hw=>?_,fun hw=>?_⟩, ?_⟩⟩
 ·have hw:(q.c.literal s4).1.2=false:=by simpa using hw
  rw[if_neg (by simp[hw])] at hs5e
  refine (gi (hq8.mono l9) 130 (s:=(q.c.literal s4).2) vz).mono fun e I10 G l10 ⟨he,hG⟩=>⟨he,q.db b (q.c.da 130 (q.c.literal s4).2)::F0,hG.trans vz.symm,(hq8.mono l9).mono l10, ?_⟩
  rw[hs5e]
 ·have hw:(q.c.literal s4).1.2=true:=by simpa using hw
  rw[if_pos hw] at hs5e
  refine⟨hq8.mono l9, ?_⟩
  rw[hs5e]
 intro I10 F10 l10 ⟨hq10,hF10⟩
 unfold PC.pD
 refine⟨fun hm=>?_,fun hm=>?_⟩
 ·intro b5 I11 l11 hb5
  refine (eN (hq10.mono l11) _ ((((hF10.cons _).cons _).cons _).trans vz)).mono fun e I12 G l12 ⟨he,hG⟩=>⟨_,he,q.db b (q.c.take (⟨#[59]⟩:ByteArray) s5).2::F0,hG.trans vz.symm, ?_⟩
  rw[if_pos hm]
  refine⟨⟨bb.1,1+q.c.any gQ bb.2,.mk 5 1 0 0 0 ⟨#[]⟩ (some ⟨b5,0,none⟩) 1 [t] (q.c.now s3).pos,ta.1⟩,rfl, ?_,dO.mono (dO.yf (l:=[t]) hb5 (fun k hk=>?_) ..) l12 fun _ h=>h,.refl _⟩
  ·simp only[dw.p,Nd.px,Nd.qO,px]
  ·rw[List.mem_singleton] at hk;subst hk
   exact hok.mono (cS.le_trans l10 l11) fun _ h=>h
 ·refine (eN hq10 _ ((((hF10.cons _).cons _).cons _).trans vz)).mono fun e I12 G l12 ⟨he,hG⟩=>⟨_,he,q.db b (q.c.take (⟨#[59]⟩:ByteArray) s5).2::F0,hG.trans vz.symm, ?_⟩
  rw[if_neg (by simp[hm])]
  exact⟨⟨bb.1,1+q.c.any gQ bb.2,t,ta.1⟩,rfl,by simp only[dw.p,px],hok.mono (cS.le_trans l10 l12) fun _ h=>h,.refl _⟩
end Go.Lx
namespace Go.Lx
open Go.Vc
theorem fU:fW.px=gO:=by simp only[fW,Nd.px,Nd.qO];rfl
theorem eO{I:cS}{G:cR}:dO I G fW:=.leaf
theorem dO.up{I J:cS}{G:cR}{t:Nd}(h:dO I G t)(hl:cS.le I J):dO J G t:=h.mono hl fun _ h=>h
def zD:List Int:=[1,3,4,5]
theorem CR{q:PQ}:vA 142 eJ.v eJ.p yi q q.c.kX:=by
 intro b s I F F0 hq hsn hF
 have hl:=hq.len
 unfold PC.kX
 have ht:=(Up.take (c:=q.c) (s:=s) (⟨#[115,117,98,109,105,116]⟩:ByteArray)).2 hsn
 generalize hta:q.c.take (⟨#[115,117,98,109,105,116]⟩:ByteArray) s=ta at ht ⊢
 refine fN.vc ?_
 unfold fN.V
 intro b2
 refine (eN hq _ ((hF.cons _).trans me)).mono fun e I1 G l1 ⟨he,hG⟩=>⟨_,he,q.db b ta.2::F0,by rw[hta] at hG;exact hG.trans me,fun b_d=>?_⟩
 rw[hta]
 have hq1:=hq.mono l1
 have hx2:=(Up.eX (c:=q.c) ta.2).2 ht
 refine (tY b ta.2 I1 _ _ hq1 ht ec).mono fun e I2 G l2 ⟨x,he,px,okx,hG⟩=>?_
 refine⟨_,_,_,_,_,_,_,_,_,_,he,q.db b (q.c.eX ta.2).2::F0,hG.trans ec.symm, ?_⟩
 rw[←px]
 generalize (q.c.eX ta.2).2=s2 at hx2 ⊢
 unfold PC.uU
 have hq2:=hq1.mono l2
 have hx3:=(Up.take (c:=q.c) (s:=s2) (⟨#[111,102]⟩:ByteArray)).2 hx2
 refine (eN hq2 _ (s:=s2) ec).mono fun e I3 G l3 ⟨he,hG⟩=>⟨_,he,q.db b (q.c.take (⟨#[111,102]⟩:ByteArray) s2).2::F0,hG.trans ec.symm, ?_⟩
 generalize (q.c.take (⟨#[111,102]⟩:ByteArray) s2).2=s3 at hx3 ⊢
 have hq3:=hq2.mono l3
 have hx4:=(Up.eX (c:=q.c) s3).2 hx3
 refine (tY b s3 I3 _ _ hq3 hx3 ec).mono fun e I4 G l4 ⟨y,he,py,oky,hG⟩=>?_
 refine⟨_,_,_,_,_,_,_,_,_,_,he,q.db b (q.c.eX s3).2::F0,hG.trans ec.symm, ?_⟩
 rw[←py]
 generalize (q.c.eX s3).2=s4 at hx4 ⊢
 have hq4:=hq3.mono l4
 intro b3 I5 l5 hb3
 have hq5:=hq4.mono l5
 unfold PC.oO
 refine cU.ret (nt hq5 (Sl.words (ws:=xd) hb3 rfl) (by decide) (s:=s4) (.tail _ (.tail _ (.head _)))) fun I6 l6=>⟨_,rfl,q.db b s4::F0,.refl _,fun ha=>?_,fun ha=>?_⟩
 ·have ha:=of_decide_eq_true ha
  refine (gi (hq5.mono l6) 130 (s:=s4) ec).mono fun e I7 G l7 ⟨he,hG⟩=>⟨he,q.db b (q.c.da 130 s4)::F0,hG.trans ec.symm, ?_⟩
  rw[if_pos ha]
  refine⟨⟨1,0,⟨#[]⟩,x,y,fW,fW,ta.1⟩,rfl,by simp only[eJ.p,fU],⟨okx.up ?_,oky.up ?_,eO,eO⟩,.refl _⟩
  ·exact cS.le_trans l3 (cS.le_trans l4 (cS.le_trans l5 (cS.le_trans l6 l7)))
  ·exact cS.le_trans l5 (cS.le_trans l6 l7)
 have ha:=of_decide_eq_false ha
 rw[if_neg ha]
 have hlt:=(dD (Int.not_lt.1 ha)).1
 have hq6:=hq5.mono l6
 have okx6:=okx.up (cS.le_trans l3 (cS.le_trans l4 (cS.le_trans l5 l6)))
 have oky6:=oky.up (cS.le_trans l5 l6)
 refine⟨_,rfl,_,PQ.rd (k:=3) (.tail _ (.tail _ (.head _))) rfl,_,rfl,q.cl s4,96,F0,.refl _,PQ.spot _ _,by rw[PQ.off];exact (by decide:3+1≤7), ?_⟩
 rw[PQ.fe (by omega)]
 refine⟨fun h1=>?_,fun h1=>?_⟩
 ·have h1:q.c.any xd s4=1:=by simpa using h1
  rw[if_pos h1]
  have hx7:=(Up.eX (c:=q.c) s4.inc).2 hlt
  refine (tY b s4.inc I6 _ _ hq6 hlt ec).mono fun e I7 G l7 ⟨z,he,pz,okz,hG⟩=>?_
  refine⟨_,_,_,_,_,_,_,_,_,_,he,q.db b (q.c.eX s4.inc).2::F0,hG.trans ec.symm, ?_⟩
  rw[←pz]
  generalize (q.c.eX s4.inc).2=s7 at hx7 ⊢
  have hq7:=hq6.mono l7
  intro b4 I8 l8 hb4
  have hq8:=hq7.mono l8
  unfold PC.pF
  refine cU.ret (nt hq8 (Sl.words (ws:=fk) hb4 rfl) (by decide) (s:=s7) (.tail _ (.tail _ (.head _)))) fun I9 l9=>⟨_,rfl,q.db b s7::F0,.refl _,fun hb=>?_,fun hb=>?_⟩
  ·have hb:=of_decide_eq_true hb
   refine (gi (hq8.mono l9) 130 (s:=s7) ec).mono fun e I10 G l10 ⟨he,hG⟩=>⟨he,q.db b (q.c.da 130 s7)::F0,hG.trans ec.symm, ?_⟩
   rw[if_pos hb]
   exact⟨⟨1,2,⟨#[]⟩,x,y,z,fW,ta.1⟩,rfl,by simp only[eJ.p,fU],⟨okx6.up (cS.le_trans l7 (cS.le_trans l8 (cS.le_trans l9 l10))),oky6.up (cS.le_trans l7 (cS.le_trans l8 (cS.le_trans l9 l10))),okz.up (cS.le_trans l8 (cS.le_trans l9 l10)),eO⟩,.refl _⟩
  have hb:=of_decide_eq_false hb
  rw[if_neg hb]
  have hlt7:=(dD (Int.not_lt.1 hb)).1
  have hb4':q.c.any fk s7<4:=(dD (Int.not_lt.1 hb)).2
  have hq9:=hq8.mono l9
  refine⟨_,rfl,_,PQ.rd (k:=3) (.tail _ (.tail _ (.head _))) rfl,_,rfl,q.cl s7,96,F0,.refl _,PQ.spot _ _,by rw[PQ.off];exact (by decide:3+1≤7), ?_⟩
  rw[PQ.fe (by omega)]
  intro b5 I10 l10 hb5
  have hq10:=hq9.mono l10
  have hS:Sl I10 1 Bw (some ⟨b5,0,none⟩) 4 zD:=Sl.ie (f:=Bw) (z:=1) (l:=zD) (fun _=>rfl) hb5 rfl
  obtain⟨ad,k,had,hk,hr⟩:=hS.at (Int.not_lt.1 hb) hb4'
  have hko:k=if q.c.any fk s7=0 then 1 else 2+q.c.any fk s7:=by
   have h0:=Int.not_lt.1 hb
   generalize q.c.any fk s7=r at h0 hb4' hk ⊢
   have:r=0∨r=1∨r=2∨r=3:=by omega
   rcases this with rfl | rfl | rfl | rfl<;>simp[zD] at hk<;>subst hk<;>rfl
  rw[←hko]
  refine⟨⟨Int.not_lt.1 hb,hb4'⟩,ad,had,k,hr _, ?_⟩
  unfold PC.nN PC.je
  have okx10:=okx6.up (cS.le_trans l7 (cS.le_trans l8 (cS.le_trans l9 l10)))
  have oky10:=oky6.up (cS.le_trans l7 (cS.le_trans l8 (cS.le_trans l9 l10)))
  have okz10:=okz.up (cS.le_trans l8 (cS.le_trans l9 l10))
  refine cU.ret (pG hq10 _ (s:=s7.inc) (.tail _ (.tail _ (.head _)))) fun I11 l11=>⟨_,rfl,q.db b s7.inc::F0,.refl _,fun hw=>?_,fun hw=>?_⟩
  ·have hltw:=eM hw
   rw[if_pos hw]
   refine⟨_,rfl,_,PQ.rd (k:=3) (.tail _ (.tail _ (.head _))) rfl,_,rfl,q.cl s7.inc,96,F0,.refl _,PQ.spot _ _,by rw[PQ.off];exact (by decide:3+1≤7), ?_⟩
   rw[PQ.fe (s:=s7.inc) (by omega)]
   refine (pH (hq10.mono l11) (s:=s7.inc.inc) ec).mono fun e I12 G l12 ⟨he,hG⟩=>⟨_,he,q.db b (q.c.name s7.inc.inc).2::F0,hG.trans ec.symm, ?_⟩
   exact⟨⟨1,k,(q.c.name s7.inc.inc).1,x,y,z,fW,ta.1⟩,rfl,by simp only[eJ.p,fU],⟨okx10.up (cS.le_trans l11 l12),oky10.up (cS.le_trans l11 l12),okz10.up (cS.le_trans l11 l12),eO⟩,.refl _⟩
  ·rw[if_neg (by simp[hw])]
   exact⟨⟨1,k,⟨#[]⟩,x,y,z,fW,ta.1⟩,rfl,by simp only[eJ.p,fU],⟨okx10.up l11,oky10.up l11,okz10.up l11,eO⟩,.refl _⟩
 ·have h1:q.c.any xd s4≠1:=by simpa using h1
  rw[if_neg h1]
  unfold PC.nN PC.je
  refine cU.ret (pG hq6 _ (s:=s4.inc) (.tail _ (.tail _ (.head _)))) fun I11 l11=>⟨_,rfl,q.db b s4.inc::F0,.refl _,fun hw=>?_,fun hw=>?_⟩
  ·have hltw:=eM hw
   rw[if_pos hw]
   refine⟨_,rfl,_,PQ.rd (k:=3) (.tail _ (.tail _ (.head _))) rfl,_,rfl,q.cl s4.inc,96,F0,.refl _,PQ.spot _ _,by rw[PQ.off];exact (by decide:3+1≤7), ?_⟩
   rw[PQ.fe (s:=s4.inc) (by omega)]
   refine (pH (hq6.mono l11) (s:=s4.inc.inc) ec).mono fun e I12 G l12 ⟨he,hG⟩=>⟨_,he,q.db b (q.c.name s4.inc.inc).2::F0,hG.trans ec.symm, ?_⟩
   exact⟨⟨1,2,(q.c.name s4.inc.inc).1,x,y,fW,fW,ta.1⟩,rfl,by simp only[eJ.p,fU],⟨okx6.up (cS.le_trans l11 l12),oky6.up (cS.le_trans l11 l12),eO,eO⟩,.refl _⟩
  ·rw[if_neg (by simp[hw])]
   exact⟨⟨1,2,⟨#[]⟩,x,y,fW,fW,ta.1⟩,rfl,by simp only[eJ.p,fU],⟨okx6.up l11,oky6.up l11,eO,eO⟩,.refl _⟩
theorem Ho{q:PQ}:vA 127 eJ.v eJ.p yi q q.c.do:=by
 intro b s I F F0 hq hsn hF
 have hl:=hq.len
 have hm:q.db b s∈F:=hF.mem_iff.2 (.head _)
 refine iX.vc ?_
 unfold iX.V
 intro b2
 unfold PC.do
 refine cU.ret (kl hq (.tail _ hm)) fun I1 l1=>⟨_,_,_,_,_,rfl,F,.refl _,fun b3 I2 l2 hb3=>?_⟩
 have hq2:=(hq.mono l1).mono l2
 refine cU.ret (nt hq2 (Sl.words (ws:=tU) hb3 rfl) (by decide) (s:=s) (.tail _ hm)) fun I3 l3=>⟨_,rfl,F,.refl _,fun ha=>?_,fun ha=>?_⟩
 ·have ha:=of_decide_eq_true ha
  refine (gi (hq2.mono l3) 130 ((hF.cons _).trans me)).mono fun e I7 G l7 ⟨he,hG⟩=>⟨he,q.db b (q.c.da 130 s)::F0,hG.trans me, ?_⟩
  rw[if_pos ha]
  exact⟨⟨0,0,⟨#[]⟩,fW,fW,fW,fW,0⟩,rfl,by simp only[eJ.p,fU];rfl,⟨eO,eO,eO,eO⟩,.refl _⟩
 have ha:=of_decide_eq_false ha
 rw[if_neg ha]
 have hab:=o1 (Int.not_lt.1 ha) (by decide)
 have hlt:=(dD (Int.not_lt.1 ha)).1
 have hq3:=hq2.mono l3
 refine⟨fun h0=>?_,fun h0=>?_⟩
 ·have h0:q.c.any tU s=0:=by simpa using h0
  rw[if_pos h0]
  refine (CR b s I3 _ _ hq3 hsn ((hF.cons _).trans me)).mono fun e I4 G l4 ⟨d,he,pd,okd,hG⟩=>?_
  exact⟨_,_,_,_,_,_,_,_,_,_,_,_,_,_,_,_,_,_,_,_,_,_,_,_,_,_,_,_,_,_,_,_,_,_,_,_,_,_,_,_,_,_,_,_,he,q.db b (q.c.kX s).2::F0,hG.trans me,d,rfl,pd,okd,.refl _⟩
 have h0:q.c.any tU s≠0:=by simpa using h0
 rw[if_neg h0]
 refine⟨_,rfl,_,PQ.rd (k:=3) (.tail _ hm) rfl,_,rfl,q.cl s,96,F0,hF,PQ.spot _ _,by rw[PQ.off];exact (by decide:3+1≤7), ?_⟩
 rw[PQ.fe (by omega),w8 (n:=q.c.any tU s) (by omega),w8 (n:=1+q.c.any tU s) (by omega)]
 generalize hk:q.c.any tU s=k at ha hab h0 ⊢
 intro b_d
 refine⟨fun h6=>?_,fun h6=>?_⟩
 ·have h6:1+k≠6:=by simpa using h6
  rw[if_neg (by omega)]
  have hn:=(Up.name (c:=q.c) (s:=s.inc)).2 hlt
  refine (pH hq3 (s:=s.inc) ec).mono fun e I4 G l4 ⟨he,hG⟩=>⟨_,he,q.db b (q.c.name s.inc).2::F0,hG.trans ec.symm, ?_⟩
  generalize q.c.name s.inc=n at hn ⊢
  have hq4:=hq3.mono l4
  unfold PC.wC
  refine⟨fun h2=>?_,fun h2=>?_⟩
  ·have h2:1+k=2:=by simpa using h2
   rw[if_pos h2]
   have h5:=(Up.take (c:=q.c) (s:=n.2) (⟨#[116,111]⟩:ByteArray)).2 hn
   refine (eN hq4 _ (s:=n.2) ec).mono fun e I5 G l5 ⟨he,hG⟩=>⟨_,he,q.db b (q.c.take (⟨#[116,111]⟩:ByteArray) n.2).2::F0,hG.trans ec.symm, ?_⟩
   generalize (q.c.take (⟨#[116,111]⟩:ByteArray) n.2).2=s5 at h5 ⊢
   have hq5:=hq4.mono l5
   have h6':=(Up.eX (c:=q.c) s5).2 h5
   refine (tY b s5 I5 _ _ hq5 h5 ec).mono fun e I6 G l6 ⟨x,he,px,okx,hG⟩=>?_
   refine⟨_,_,_,_,_,_,_,_,_,_,he,q.db b (q.c.eX s5).2::F0,hG.trans ec.symm, ?_⟩
   rw[←px]
   generalize (q.c.eX s5).2=s6 at h6' ⊢
   have hq6:=hq5.mono l6
   unfold PC.CO
   have h7:=(Up.take (c:=q.c) (s:=s6) (⟨#[97,116]⟩:ByteArray)).2 h6'
   refine (eN hq6 _ (s:=s6) ec).mono fun e I7 G l7 ⟨he,hG⟩=>⟨_,he,q.db b (q.c.take (⟨#[97,116]⟩:ByteArray) s6).2::F0,hG.trans ec.symm, ?_⟩
   generalize (q.c.take (⟨#[97,116]⟩:ByteArray) s6).2=s7 at h7 ⊢
   refine (tY b s7 I7 _ _ (hq6.mono l7) h7 ec).mono fun e I8 G l8 ⟨y,he,py,oky,hG⟩=>?_
   refine⟨_,_,_,_,_,_,_,_,_,_,he,q.db b (q.c.eX s7).2::F0,hG.trans ec.symm, ?_⟩
   rw[←py]
   refine⟨fun h4=>?_,fun h4=>?_⟩
   ·exfalso
    have h4:1+k=4:=by simpa using h4
    omega
   ·rw[h2]
    exact⟨⟨2,0,n.1,fW,x,y,fW,(q.c.now s).pos⟩,rfl,by simp only[eJ.p,fU],⟨eO,okx.up (cS.le_trans l7 l8),oky,eO⟩,.refl _⟩
  ·have h2:1+k≠2:=by simpa using h2
   rw[if_neg h2]
   refine⟨fun h4=>?_,fun h4=>?_⟩
   ·have h4:1+k=4:=by simpa using h4
    rw[if_pos h4]
    unfold PC.FM
    have h5:=(Up.take (c:=q.c) (s:=n.2) (⟨#[61]⟩:ByteArray)).2 hn
    refine (eN hq4 _ (s:=n.2) ec).mono fun e I5 G l5 ⟨he,hG⟩=>⟨_,he,q.db b (q.c.take (⟨#[61]⟩:ByteArray) n.2).2::F0,hG.trans ec.symm, ?_⟩
    generalize (q.c.take (⟨#[61]⟩:ByteArray) n.2).2=s5 at h5 ⊢
    have hq5:=hq4.mono l5
    refine (tY b s5 I5 _ _ hq5 h5 ec).mono fun e I6 G l6 ⟨x,he,px,okx,hG⟩=>?_
    refine⟨_,_,_,_,_,_,_,_,_,_,he,q.db b (q.c.eX s5).2::F0,hG.trans ec.symm, ?_⟩
    rw[←px,h4]
    exact⟨⟨4,0,n.1,fW,fW,fW,x,(q.c.now s).pos⟩,rfl,by simp only[eJ.p,fU],⟨eO,eO,eO,okx⟩,.refl _⟩
   ·have h4:1+k≠4:=by simpa using h4
    rw[if_neg h4]
    exact⟨⟨1+k,0,n.1,fW,fW,fW,fW,(q.c.now s).pos⟩,rfl,by simp only[eJ.p,fU],⟨eO,eO,eO,eO⟩,.refl _⟩
 ·have h6:1+k=6:=by simpa using h6
  rw[if_pos (by omega)]
  unfold PC.wC
  rw[if_neg (by decide),if_neg (by decide)]
  refine⟨fun h2=>?_,fun h2=>⟨fun h4=>?_,fun h4=>?_⟩⟩
  ·exfalso
   have h2:1+k=2:=by simpa using h2
   omega
  ·exfalso
   have h4:1+k=4:=by simpa using h4
   omega
  ·rw[h6]
   exact⟨⟨6,0,⟨#[]⟩,fW,fW,fW,fW,(q.c.now s).pos⟩,rfl,by simp only[eJ.p,fU],⟨eO,eO,eO,eO⟩,.refl _⟩
theorem yj{α:Type}{z:Nat}{f:α→List Value}(hz:∀x,(f x).length=z){t ty e:TypeId}{zv:Value}{by':Nat}(ht:P.underlying t=some (.slice e))(hi:(P.info? e).map (fun i=>(i.zero,i.size,i.bytes))=some (some zv,z,by'))(hzs:zv.cells.size=z)(hb:1≤by')(hb2:by'≤1000)
  {a:Option Addr} {n c b1:Nat} {l:List α} {A F R:cR} {I:cS} {o:Obj} (hA:Acc z f e a n c l A) (hl:l.length≤100) (x:α) (h1:∀u∈f x,u.oneCell'=true) (hbm:I b1=some o) (ho:o=.cells (f x).toArray e (0,0)) (hF:F.Perm (A++R)) :
  dk P (Builtin.append_ #[t,t] ty #[.slice a n c,.slice (some ⟨b1,0,none⟩) 1 1]) I F fun v I' G=>∃a' n' c' A',v=.slice a' n' c'∧Acc z f e a' n' c' (l++[x]) A'∧G.Perm (A'++R):=by
 subst ho
 have hfit:(l.length+1)*by'≤101*1000:=Nat.mul_le_mul (by omega) hb2
 refine dk.perm (dk.mono (eG hz ht hi hzs hb hA (xs:=[x]) (fun y hy=>by rw[List.mem_singleton] at hy;subst hy;exact h1) (by simp) rfl ?_ (by show (l.length+1)*by'≤_;omega) (F:=R)) fun v I' G _ ⟨a',n',c',A',h1,h2,h3,_⟩=>⟨a',n',c',A',h1,h2,by rw[h3]⟩) hF
 exact⟨rfl,_,_,_,.inl hbm,fun j hj=>by simp⟩
section
variable {N Pl:Type} (z:Nat) (f:N→List Value) (E:Nat) (p:N→Pl) (ok:cS→N→Prop) (q:PQ) (b:Nat) (w:ByteArray) (most:Nat) (one:PS→Pl×PS) (s0:PS) (F0:cR)
def oP(a:Option Addr)(n c m:Nat)(I:cS)(F:cR):Prop:=q.ok I∧∃(ks:List N) (A:cR) (s':PS),Acc z f E a n c ks A∧(∀k∈ks,ok I k)∧F.Perm (q.db b s'::(A++F0))∧s'.next≤q.c.l.length∧ks.length≤most∧m=most-ks.length∧q.c.list w most one s0=q.c.fi w most one (most-ks.length) (ks.map p) s'
def oQ(a:Option Addr)(n c:Nat)(I:cS)(F:cR):Prop:=q.ok I∧∃(ks:List N) (A:cR),Acc z f E a n c ks A∧(∀k∈ks,ok I k)∧F.Perm (q.db b (q.c.list w most one s0).2::(A++F0))∧(q.c.list w most one s0).1=ks.map p∧(q.c.list w most one s0).2.next≤q.c.l.length
end
section
variable {N Pl:Type} {z:Nat} {f:N→List Value} {E:Nat} {p:N→Pl} {ok:cS→N→Prop} {q:PQ} {b:Nat} {w:ByteArray} {most:Nat} {one:PS→Pl×PS} {s0:PS} {F0:cR} {I J:cS} {F:cR}
theorem oP.start(hq:q.ok I)(hs:s0.next≤q.c.l.length)(hF:F.Perm (q.db b s0::F0)):oP z f E p ok q b w most one s0 F0 none 0 0 most I F :=
 ⟨hq,[],[],s0,Acc.nil,fun k hk=>(by cases hk),hF,hs,Nat.zero_le _,rfl,rfl⟩
theorem zE{c:PC}{l:List Pl}{s:PS}(h:c.eu w s=false):∀m,c.fi w most one m l s=(l,s)
 | 0=>by rw[PC.fi,if_neg (by simp[h])]
 | m+1=>by rw[PC.fi,if_neg (by simp[h])]
theorem zG{c:PC}{l:List Pl}{s:PS}(h:c.eu w s=true)(ho:(c.many l.length most s).over=true):∀m,c.fi w most one m l s=(l,c.many l.length most s)
 | 0=>by rw[PC.fi,if_pos h]
 | m+1=>by rw[PC.fi,if_pos h,if_pos ho]
end
theorem DI(x:dw):∀u∈x.enc,u.oneCell'=true:=by
 intro u hu
 simp only[dw.enc,List.mem_cons,List.not_mem_nil,or_false] at hu
 rcases hu with h | h | h | h | h | h | h | h | h | h | h<;>(subst h;rfl)
theorem CS(x:dp):∀u∈x.enc,u.oneCell'=true:=by
 intro u hu
 simp only[dp.enc,List.mem_cons,List.not_mem_nil,or_false] at hu
 rcases hu with h | h<;>(subst h;rfl)
theorem BG(x:cZ):∀u∈x.enc,u.oneCell'=true:=by
 intro u hu
 simp only[cZ.enc,List.mem_cons,List.not_mem_nil,or_false] at hu
 rcases hu with h | h | h<;>(subst h;rfl)
theorem CT(x:dc):∀u∈x.enc,u.oneCell'=true:=by
 intro u hu
 simp only[dc.enc,List.mem_cons,List.not_mem_nil,or_false] at hu
 rcases hu with h | h | h | h | h | h | h | h | h | h<;>(subst h;rfl)
theorem Fb(x:eJ):∀u∈x.enc,u.oneCell'=true:=by
 have h:x.enc.all (fun u=>u.oneCell')=true:=rfl
 exact fun u hu=>List.all_eq_true.1 h u hu
end Go.Lx
namespace Go.Lx
open Go.Vc
section
variable {c:PC}
theorem Up.ia:∀(m:Nat) (l:List jw),ee c (c.ia m l)
 | 0,l=>fun s=>.refl
 | m+1,l=>fun s=>by
   rw[PC.ia]
   have h1:=Up.do (c:=c) s
   split
   ·rename_i hw
    have hlt:=eM hw
    split
    ·exact h1.trans (.many _ _)
    ·rename_i hm
     obtain⟨_,he⟩:=lK hlt (by simpa using hm)
     rw[he]
     exact h1.trans ((Up.inc hlt).trans (Up.ia m _ _))
   ·exact h1
theorem Up.ib:ee c c.ib:=fun s=>(Up.take _).trans ((Up.eX _).trans ((Up.take _).trans ((Up.ia 8 [] _).trans (Up.take _))))
theorem Up.fi{α:Type}{w:ByteArray}{most:Nat}{one:PS→α×PS}(h:ee c one):∀(m:Nat) (l:List α),ee c (c.fi w most one m l)
 | 0,l=>fun s=>by
   rw[PC.fi]
   show Up c s (if c.eu w s then c.many l.length most s else s)
   split
   ·exact .many _ _
   ·exact .refl
 | m+1,l=>fun s=>by
   rw[PC.fi]
   split
   ·rename_i hw
    have hlt:=eM hw
    split
    ·exact .many _ _
    ·rename_i hm
     obtain⟨_,he⟩:=lK hlt (by simpa using hm)
     rw[he]
     exact (h s).trans (Up.fi h m _ _)
   ·exact .refl
theorem Up.list{α:Type}{w:ByteArray}{most:Nat}{one:PS→α×PS}(h:ee c one):ee c (c.list w most one):=Up.fi h most []
theorem Up.state:ee c c.state:=fun s=>(Up.take _).trans (Up.name.trans ((Up.take _).trans ((Up.list Up.ib _).trans (Up.take _))))
theorem Up.slot:ee c c.slot:=fun s=>(Up.take _).trans (Up.name.trans (Up.take _))
end
section
variable {N Pl:Type} {z:Nat} {f:N→List Value} {E:Nat} {p:N→Pl} {ok:cS→N→Prop} {q:PQ} {b:Nat} {w:ByteArray} {most:Nat} {one:PS→Pl×PS} {s0:PS} {F0:cR} {I J:cS} {F:cR} {a:Option Addr} {n c m:Nat}
theorem oP.next(hmono:∀I J x,cS.le I J→ok I x→ok J x){ks:List N}{A:cR}{s':PS}(hm:ee q.c one)(hA:Acc z f E a n c ks A)(hks:∀k∈ks,ok I k)(hsn:s'.next≤q.c.l.length)(hr:q.c.list w most one s0=q.c.fi w most one (most-ks.length) (ks.map p) s')(hw:q.c.eu w s'=true)(ho:(q.c.many ks.length most s').over=false)
  {x:N} (hx:p x=(one s').1) (hok:ok J x) (hl:cS.le I J) (hq:q.ok J) {a':Option Addr} {n' c':Nat} {A':cR} (hA':Acc z f E a' n' c' (ks++[x]) A') (hF:F.Perm (q.db b (one s').2::(A'++F0))) :
  oP z f E p ok q b w most one s0 F0 a' n' c' (most-(ks.length+1)) J F:=by
 obtain⟨hlt,he⟩:=lK (eM hw) ho
 obtain⟨j,hj⟩:∃j,most-ks.length=j+1:=⟨most-ks.length-1,by omega⟩
 refine⟨hq,ks++[x],A',(one s').2,hA',fun k hk=>?_,hF,(hm _).2 hsn,by rw[List.length_append,List.length_singleton];omega,by rw[List.length_append,List.length_singleton], ?_⟩
 ·rcases List.mem_append.1 hk with hk | hk
  ·exact hmono _ _ _ hl (hks k hk)
  ·rw[List.mem_singleton] at hk;subst hk;exact hok
 ·rw[hr,hj,PC.fi,if_pos hw,List.length_map,if_neg (by simp[ho]),he,List.map_append,List.map_singleton,hx,List.length_append,List.length_singleton,show most-(ks.length+1)=j by omega]
theorem oQ.stop{ks:List N}{A:cR}{s':PS}(hq:q.ok I)(hA:Acc z f E a n c ks A)(hks:∀k∈ks,ok I k)(hsn:s'.next≤q.c.l.length)(hr:q.c.list w most one s0=q.c.fi w most one (most-ks.length) (ks.map p) s')(hw:q.c.eu w s'=false)(hF:F.Perm (q.db b s'::(A++F0))):oQ z f E p ok q b w most one s0 F0 a n c I F:=by
 rw[zE hw] at hr
 exact⟨hq,ks,A,hA,hks,by rw[hr];exact hF,by rw[hr],by rw[hr];exact hsn⟩
theorem oQ.full{ks:List N}{A:cR}{s':PS}(hq:q.ok I)(hA:Acc z f E a n c ks A)(hks:∀k∈ks,ok I k)(hsn:s'.next≤q.c.l.length)(hr:q.c.list w most one s0=q.c.fi w most one (most-ks.length) (ks.map p) s')(hw:q.c.eu w s'=true)(ho:(q.c.many ks.length most s').over=true)(hF:F.Perm (q.db b (q.c.many ks.length most s')::(A++F0))):oQ z f E p ok q b w most one s0 F0 a n c I F:=by
 rw[zG hw (by rw[List.length_map];exact ho),List.length_map] at hr
 exact⟨hq,ks,A,hA,hks,by rw[hr];exact hF,by rw[hr],by rw[hr,mr];exact hsn⟩
end
theorem fK(I J:cS)(x:dw)(hl:cS.le I J)(h:qo I x):qo J x:=dw.Ok.mono h hl fun _ h=>h
theorem js(I J:cS)(x:dc)(hl:cS.le I J)(h:qX I x):qX J x:=dc.Ok.mono h hl fun _ h=>h
theorem iB(I J:cS)(x:cZ)(hl:cS.le I J)(h:nf I x):nf J x:=cZ.Ok.mono h hl fun _ h=>h
theorem oD(I J:cS)(x:eJ)(hl:cS.le I J)(h:yi I x):yi J x:=eJ.Ok.mono h hl fun _ h=>h
theorem HX{α:Type}{w z:α}{A l:List α}:(w::z::(A++l)).Perm (A++(w::z::l)):=List.perm_append_comm_assoc [w,z] A l
theorem DJ{q:PQ}(b:Nat)(s:PS)(I:cS)(F F0:cR)(hq:q.ok I)(hsn:s.next≤q.c.l.length)(hF:F.Perm (q.db b s::F0)):cU P 79 #[.pointer (some ⟨b,0,none⟩)] I F fun e I' G =>
  ∃a n c,e=.returned (.slice a n c)∧Sl I' 2 dp.enc a n (q.c.list (⟨#[115,108,111,116]⟩:ByteArray) 4 q.c.slot s).1∧G.Perm (q.db b (q.c.list (⟨#[115,108,111,116]⟩:ByteArray) 4 q.c.slot s).2::F0):=by
 refine cU.keep (Q:=fun e I' G=>∃a n c A,e=.returned (.slice a n c)∧Acc 2 dp.enc 106 a n c (q.c.list (⟨#[115,108,111,116]⟩:ByteArray) 4 q.c.slot s).1 A∧G.Perm (q.db b (q.c.list (⟨#[115,108,111,116]⟩:ByteArray) 4 q.c.slot s).2::(A++F0))) ?_ fun e I' G w hl hs ⟨a,n,c,A,he,hA,hG⟩=>?_
 rotate_left
 ·obtain⟨J,h1,h2,h3⟩:=Acc.keep (z:=2) (f:=dp.enc) (fun _=>rfl) hA (hs.perm (hG.trans (List.perm_append_comm_assoc [_] A F0)))
  exact⟨J,_,h1,h2,a,n,c,he,h3,.refl _⟩
 have hl:=hq.len
 have hend:∀a n c I F,oQ 2 dp.enc 106 id (fun _ _=>True) q b (⟨#[115,108,111,116]⟩:ByteArray) 4 q.c.slot s F0 a n c I F→∃a' n' c' A,Ending.returned (.slice a n c)=.returned (.slice a' n' c')∧Acc 2 dp.enc 106 a' n' c' (q.c.list (⟨#[115,108,111,116]⟩:ByteArray) 4 q.c.slot s).1 A∧F.Perm (q.db b (q.c.list (⟨#[115,108,111,116]⟩:ByteArray) 4 q.c.slot s).2::(A++F0)):=by
  intro a n c I F ⟨_,ks,A,hA,_,hF,hk,_⟩
  rw[List.map_id] at hk
  exact⟨a,n,c,A,rfl,by rw[hk];exact hA,hF⟩
 refine gu.vc (fun xa xn xc a n c m I' F'=>oP 2 dp.enc 106 id (fun _ _=>True) q b (⟨#[115,108,111,116]⟩:ByteArray) 4 q.c.slot s F0 a n c m I' F') ?_
 unfold gu.V
 refine⟨⟨_,oP.start hq hsn hF⟩,fun xa xn xc a n c m I1 F1 l1 ⟨hq1,ks,A,s',hA,hks,hF1,hs1,hkl,hm,hr⟩=>?_⟩
 have hn:=hA.1
 subst hn
 refine cU.ret (pG hq1 _ (hF1.mem_iff.2 (.head _))) fun I2 l2=>⟨_,rfl,F1,.refl _,fun hw=>?_,fun hw=>?_⟩
 ·exact hend _ _ _ I2 _ (oQ.stop (hq1.mono l2) hA (fun _ _=>trivial) hs1 hr (by simpa using hw) hF1)
 have hw:q.c.eu (⟨#[115,108,111,116]⟩:ByteArray) s'=true:=by simpa using hw
 have hlt:=eM hw
 have hq2:=hq1.mono l2
 refine (tV hq2 ks.length 4 hF1).mono fun e I3 G l3 ⟨he,hG⟩=>⟨_,he,G,.refl _,fun ho=>?_,fun ho=>?_⟩
 ·exact hend _ _ _ I3 _ (oQ.full (hq2.mono l3) hA (fun _ _=>trivial) hs1 hr hw (by simpa using ho) hG)
 have ho:(q.c.many ks.length 4 s').over=false:=by simpa using ho
 obtain⟨hlt4,hme⟩:=lK hlt ho
 rw[hme] at hG
 have hq3:=hq2.mono l3
 refine (eN hq3 _ hG).mono fun e I4 G4 l4 ⟨he,hG4⟩=>⟨_,he,q.db b (q.c.take (⟨#[115,108,111,116]⟩:ByteArray) s').2::(A++F0),hG4,fun b_x=>?_⟩
 have hq4:=hq3.mono l4
 refine (pH hq4 (s:=(q.c.take (⟨#[115,108,111,116]⟩:ByteArray) s').2) me).mono fun e I5 G5 l5 ⟨he,hG5⟩=>⟨_,he,q.db b (q.c.name (q.c.take (⟨#[115,108,111,116]⟩:ByteArray) s').2).2::(A++F0),hG5.trans me, ?_⟩
 have hq5:=hq4.mono l5
 refine (eN hq5 _ (s:=(q.c.name (q.c.take (⟨#[115,108,111,116]⟩:ByteArray) s').2).2) me).mono fun e I6 G6 l6 ⟨he,hG6⟩=>⟨_,he,q.db b (q.c.slot s').2::(A++F0),hG6.trans me,fun b4 I7 l7 hb4=>?_⟩
 have hq6:=hq5.mono l6
 refine (yj (f:=dp.enc) (fun _=>rfl) (zv:=(⟨⟨#[]⟩,0⟩:dp).v) (by':=24) (by kernel_rfl) (by kernel_rfl) rfl (by decide) (by decide) hA (by omega) (q.c.slot s').1 (CS _) hb4 rfl HX).mono fun v I8 G8 l8 ⟨a',n',c',A',hv,hA',hG8⟩=>⟨a',n',c',hv,q.db b (q.c.slot s').2::(A'++F0),hG8.trans HX.symm,4-(ks.length+1),by omega, ?_⟩
 exact oP.next (fun _ _ _ _ _=>trivial) Up.slot hA hks hs1 hr hw ho (x:=(q.c.slot s').1) rfl trivial (cS.le_refl _) ((hq6.mono l7).mono l8) hA' (.refl _)
end Go.Lx
namespace Go.Lx
open Go.Vc
theorem BH{c:PC}{m:Nat}{l:List jw}{s:PS}(h:c.eu (⟨#[44]⟩:ByteArray) (c.do s).2=false):c.ia (m+1) l s=(l++[(c.do s).1],(c.do s).2):=by
 rw[PC.ia,if_neg (by simp[h])]
theorem BI{c:PC}{m:Nat}{l:List jw}{s:PS}(h:c.eu (⟨#[44]⟩:ByteArray) (c.do s).2=true)(ho:(c.many (l.length+1) 8 (c.do s).2).over=true):c.ia (m+1) l s=(l++[(c.do s).1],c.many (l.length+1) 8 (c.do s).2):=by
 rw[PC.ia,if_pos h,if_pos ho]
theorem Fc{q:PQ}:vA 110 dc.v dc.p qX q q.c.ib:=by
 intro b s I F F0 hq hsn hF
 have hl:=hq.len
 refine cU.keep (Q:=fun e I' G=>∃(w:Nd) (a:Option Addr) (c:Nat) (ds:List eJ) (pos:Int) (A:cR),e=.returned (dc.v ⟨w,a,c,ds,pos⟩)∧(⟨w,a,c,ds,pos⟩:dc).p=(q.c.ib s).1∧dO I' [] w∧Acc 36 eJ.enc 114 a ds.length c ds A∧(∀d∈ds,yi I' d)∧G.Perm (q.db b (q.c.ib s).2::(A++F0))) ?_ fun e I' G w hl hs ⟨w',a,c,ds,pos,A,he,hp,hw,hA,hd,hG⟩=>?_
 rotate_left
 ·obtain⟨J,h1,h2,h3⟩:=Acc.keep (z:=36) (f:=eJ.enc) (fun _=>rfl) hA (hs.perm (hG.trans (List.perm_append_comm_assoc [_] A F0)))
  exact⟨J,_,h1,h2,_,he,hp,⟨hw.up h1,h3.B0 [],fun d hdm=>oD _ _ _ h1 (hd d hdm)⟩,.refl _⟩
 unfold PC.ib
 have ht:=(Up.take (c:=q.c) (s:=s) (⟨#[119,104,101,110]⟩:ByteArray)).2 hsn
 generalize hta:q.c.take (⟨#[119,104,101,110]⟩:ByteArray) s=ta at ht ⊢
 have hx2:=(Up.eX (c:=q.c) ta.2).2 ht
 have h3:=(Up.take (c:=q.c) (s:=(q.c.eX ta.2).2) (⟨#[100,111]⟩:ByteArray)).2 hx2
 obtain⟨s3,hs3⟩:∃s3,s3=(q.c.take (⟨#[100,111]⟩:ByteArray) (q.c.eX ta.2).2).2:=⟨_,rfl⟩
 rw[←hs3] at h3
 refine gZ.vc (fun n0 n1 n2 n3 n4 n5 na nn nc n7 a n c pos I' F'=>q.ok I'∧∃(t:Nd) (ks:List eJ) (A:cR),t.v=(.agg #[.int .u8 n0,.int .u8 n1,.int .u8 n2,.int .i64 n3,.int .u8 n4,.string n5,.slice na nn nc,.int .i64 n7])∧t.px=(q.c.eX ta.2).1∧dO I' [] t∧pos=ta.1∧Acc 36 eJ.enc 114 a n c ks A∧(∀k∈ks,yi I' k)∧F'.Perm (q.db b (q.c.ia 8 [] s3).2::(A++F0))∧(q.c.ia 8 [] s3).1=ks.map eJ.p∧(q.c.ia 8 [] s3).2.next≤q.c.l.length)
  (fun n0 n1 n2 n3 n4 n5 na nn nc n7 a n c pos m I' F'=>q.ok I'∧∃(t:Nd) (ks:List eJ) (A:cR) (s':PS),t.v=(.agg #[.int .u8 n0,.int .u8 n1,.int .u8 n2,.int .i64 n3,.int .u8 n4,.string n5,.slice na nn nc,.int .i64 n7])∧t.px=(q.c.eX ta.2).1∧dO I' [] t∧pos=ta.1∧Acc 36 eJ.enc 114 a n c ks A∧(∀k∈ks,yi I' k)∧F'.Perm (q.db b s'::(A++F0))∧s'.next≤q.c.l.length∧ks.length<8∧m=8-ks.length∧q.c.ia 8 [] s3=q.c.ia (8-ks.length) (ks.map eJ.p) s') ?_
 unfold gZ.V
 intro b2
 refine (eN hq _ ((hF.cons _).trans me)).mono fun e I1 G l1 ⟨he,hG⟩=>⟨_,he,q.db b ta.2::F0,by rw[hta] at hG;exact hG.trans me,fun b_r=>?_⟩
 rw[hta]
 have hq1:=hq.mono l1
 refine (tY b ta.2 I1 _ _ hq1 ht ec).mono fun e I2 G l2 ⟨x,he,px,okx,hG⟩=>?_
 refine⟨_,_,_,_,_,_,_,_,_,_,he,q.db b (q.c.eX ta.2).2::F0,hG.trans ec.symm, ?_⟩
 have hq2:=hq1.mono l2
 refine (eN hq2 _ (s:=(q.c.eX ta.2).2) ec).mono fun e I3 G l3 ⟨he,hG⟩=>⟨_,he,q.db b s3::F0,by rw[←hs3] at hG;exact hG.trans ec.symm,⟨⟨_,hq2.mono l3,x,[],[],s3,rfl,px,okx.up l3,rfl,Acc.nil,fun k hk=>(by cases hk),.refl _,h3,by decide,rfl,rfl⟩, ?_⟩, ?_⟩
 ·intro n0 n1 n2 n3 n4 n5 na nn nc n7 a n c pos m I4 F4 l4 ⟨hq4,t,ks,A,s',htv,pt,okt,hpos,hA,hks,hF4,hsn',hkl,hm,hr⟩
  have hn:=hA.1
  subst hn hpos
  have hup:=(Up.do (c:=q.c) s').2 hsn'
  refine (Ho b s' I4 _ _ hq4 hsn' (((hF4.cons _).cons _).trans ec)).mono fun e I5 G l5 ⟨d,he,pd,okd,hG⟩=>?_
  refine⟨_,_,_,_,_,_,_,_,_,_,_,_,_,_,_,_,_,_,_,_,_,_,_,_,_,_,_,_,_,_,_,_,_,_,_,_,_,_,_,_,_,_,_,_,he,q.db b (q.c.do s').2::(A++F0),hG.trans ec.symm,fun b_d b4 I6 l6 hb4=>?_⟩
  have hq6:=(hq4.mono l5).mono l6
  refine (yj (f:=eJ.enc) (fun _=>rfl) (zv:=(⟨0,0,⟨#[]⟩,fW,fW,fW,fW,0⟩:eJ).v) (by':=320) (by kernel_rfl) (by kernel_rfl) rfl (by decide) (by decide) hA (by omega) d (Fb _) hb4 rfl BD).mono fun v I7 G7 l7 ⟨a',n',c',A',hv,hA',hG7⟩=>⟨a',n',c',hv,q.db b (q.c.do s').2::(A'++F0),hG7.trans BD.symm, ?_⟩
  have hq7:=hq6.mono l7
  have hn':=hA'.1
  rw[List.length_append,List.length_singleton] at hn'
  subst hn'
  obtain⟨j,hj⟩:∃j,8-ks.length=j+1:=⟨8-ks.length-1,by omega⟩
  rw[hj] at hr
  have l47:=cS.le_trans l5 (cS.le_trans l6 l7)
  have hks':∀J,cS.le I7 J→∀k∈ks++[d],yi J k:=fun J hJ k hk=>by
   rcases List.mem_append.1 hk with hk | hk
   ·exact oD _ _ _ (cS.le_trans l47 hJ) (hks k hk)
   ·rw[List.mem_singleton] at hk;subst hk;exact oD _ _ _ (cS.le_trans l6 (cS.le_trans l7 hJ)) okd
  refine cU.ret (pG hq7 _ (s:=(q.c.do s').2) (.tail _ (.tail _ (.tail _ (.head _))))) fun I8 l8=>⟨_,rfl,q.db b (q.c.do s').2::(A'++F0),.refl _,fun hw=>?_,fun hw=>?_⟩
  ·have hw:q.c.eu (⟨#[44]⟩:ByteArray) (q.c.do s').2=false:=by simpa using hw
   rw[BH hw] at hr
   exact⟨hq7.mono l8,t,ks++[d],A',htv,pt,okt.up (cS.le_trans l47 l8),rfl,hA',hks' _ l8,by rw[hr],by rw[hr,List.map_append,List.map_singleton,pd],by rw[hr];exact hup⟩
  have hw:q.c.eu (⟨#[44]⟩:ByteArray) (q.c.do s').2=true:=by simpa using hw
  have hlt:=eM hw
  have hq8:=hq7.mono l8
  refine (tV hq8 (ks.length+1) 8 (s:=(q.c.do s').2) vz).mono fun e I9 G l9 ⟨he,hG⟩=>⟨_,he,q.db b (q.c.many (ks.length+1) 8 (q.c.do s').2)::(A'++F0),hG.trans vz.symm,fun ho=>?_,fun ho=>?_⟩
  ·have ho:(q.c.many (ks.length+1) 8 (q.c.do s').2).over=true:=by simpa using ho
   rw[BI hw (by rw[List.length_map];exact ho),List.length_map] at hr
   exact⟨hq8.mono l9,t,ks++[d],A',htv,pt,okt.up (cS.le_trans l47 (cS.le_trans l8 l9)),rfl,hA',hks' _ (cS.le_trans l8 l9),by rw[hr],by rw[hr,List.map_append,List.map_singleton,pd],by rw[hr];show (q.c.many _ _ _).next≤_;rw[mr];exact hup⟩
  have ho:(q.c.many (ks.length+1) 8 (q.c.do s').2).over=false:=by simpa using ho
  obtain⟨hlt8,hme⟩:=lK hlt ho
  rw[hme]
  refine⟨_,rfl,_,PQ.rd (k:=3) (.tail _ (.tail _ (.tail _ (.head _)))) rfl,_,rfl,q.cl (q.c.do s').2,96,A'++F0,.refl _,PQ.spot _ _,by rw[PQ.off];exact (by decide:3+1≤7), ?_⟩
  rw[PQ.fe (by omega)]
  refine⟨8-(ks.length+1),by omega,hq8.mono l9,t,ks++[d],A',_,htv,pt,okt.up (cS.le_trans l47 (cS.le_trans l8 l9)),rfl,hA',hks' _ (cS.le_trans l8 l9),.refl _,hlt,by rw[List.length_append,List.length_singleton];omega,by rw[List.length_append,List.length_singleton], ?_⟩
  rw[hr,PC.ia,if_pos hw,List.length_map,if_neg (by simp[ho]),hme,List.map_append,List.map_singleton,pd,List.length_append,List.length_singleton,show 8-(ks.length+1)=j by omega]
 ·intro n0 n1 n2 n3 n4 n5 na nn nc n7 a n c pos I10 F10 l10 ⟨hq10,t,ks,A,htv,pt,okt,hpos,hA,hks,hF10,hr,hn10⟩
  simp only[Nd.v,Value.agg.injEq,Array.mk.injEq,List.cons.injEq,Value.int.injEq,Value.string.injEq,Value.slice.injEq,true_and,and_true] at htv
  obtain⟨rfl,rfl,rfl,rfl,rfl,rfl,⟨rfl,rfl,rfl⟩,rfl⟩:=htv
  have hn:=hA.1
  subst hn hpos
  unfold PC.mq
  rw[←hs3]
  refine (eN hq10 _ (s:=(q.c.ia 8 [] s3).2) (((hF10.cons _).cons _).trans ec)).mono fun e I11 G l11 ⟨he,hG⟩=>⟨_,he,q.db b (q.c.take (⟨#[59]⟩:ByteArray) (q.c.ia 8 [] s3).2).2::(A++F0),hG.trans ec.symm, ?_⟩
  exact⟨t,a,c,ks,ta.1,A,rfl,by simp only[dc.p,pt,hr],okt.up l11,hA,fun k hk=>oD _ _ _ l11 (hks k hk),.refl _⟩
theorem DK{q:PQ}:vA 80 cZ.v cZ.p nf q q.c.state:=by
 intro b s I F F0 hq hsn hF
 have hl:=hq.len
 refine cU.keep (Q:=fun e I' G=>∃(nm:ByteArray) (a:Option Addr) (c:Nat) (ds:List dc) (pos:Int) (A:cR),e=.returned (cZ.v ⟨nm,a,c,ds,pos⟩)∧(⟨nm,a,c,ds,pos⟩:cZ).p=(q.c.state s).1∧Acc 10 dc.enc 110 a ds.length c ds A∧(∀d∈ds,qX I' d)∧G.Perm (q.db b (q.c.state s).2::(A++F0))) ?_ fun e I' G w hl hs ⟨nm,a,c,ds,pos,A,he,hp,hA,hd,hG⟩=>?_
 rotate_left
 ·obtain⟨J,h1,h2,h3⟩:=Acc.keep (z:=10) (f:=dc.enc) (fun _=>rfl) hA (hs.perm (hG.trans (List.perm_append_comm_assoc [_] A F0)))
  exact⟨J,_,h1,h2,_,he,hp,⟨h3.B0 [],fun d hdm=>js _ _ _ h1 (hd d hdm)⟩,.refl _⟩
 unfold PC.state
 have ht:=(Up.take (c:=q.c) (s:=s) (⟨#[115,116,97,116,101]⟩:ByteArray)).2 hsn
 generalize hta:q.c.take (⟨#[115,116,97,116,101]⟩:ByteArray) s=ta at ht ⊢
 have hn:=(Up.name (c:=q.c) (s:=ta.2)).2 ht
 generalize hbb:q.c.name ta.2=bb at hn ⊢
 have h3:=(Up.take (c:=q.c) (s:=bb.2) (⟨#[123]⟩:ByteArray)).2 hn
 generalize hs3:(q.c.take (⟨#[123]⟩:ByteArray) bb.2).2=s3 at h3 ⊢
 refine gq.vc (fun nm a n c pos I' F'=>nm=bb.1∧pos=ta.1∧oQ 10 dc.enc 110 dc.p qX q b (⟨#[119,104,101,110]⟩:ByteArray) 12 q.c.ib s3 F0 a n c I' F')
  (fun nm a n c pos m I' F'=>nm=bb.1∧pos=ta.1∧oP 10 dc.enc 110 dc.p qX q b (⟨#[119,104,101,110]⟩:ByteArray) 12 q.c.ib s3 F0 a n c m I' F') ?_
 unfold gq.V
 intro b2
 refine (eN hq _ ((hF.cons _).trans me)).mono fun e I1 G l1 ⟨he,hG⟩=>⟨_,he,q.db b ta.2::F0,by rw[hta] at hG;exact hG.trans me,fun b_s=>?_⟩
 rw[hta]
 have hq1:=hq.mono l1
 refine (pH hq1 (s:=ta.2) ec).mono fun e I2 G l2 ⟨he,hG⟩=>⟨_,he,q.db b bb.2::F0,by rw[hbb] at hG;exact hG.trans ec.symm, ?_⟩
 rw[hbb]
 have hq2:=hq1.mono l2
 refine (eN hq2 _ (s:=bb.2) ec).mono fun e I3 G l3 ⟨he,hG⟩=>⟨_,he,q.db b s3::F0,by rw[hs3] at hG;exact hG.trans ec.symm,⟨⟨_,rfl,rfl,oP.start (hq2.mono l3) h3 (.refl _)⟩, ?_⟩, ?_⟩
 ·intro nm a n c pos m I4 F4 l4 ⟨e1,e2,hq4,ks,A,s',hA,hks,hF4,hsn',hkl,hm,hr⟩
  have hn:=hA.1
  subst hn e1 e2
  have hm4:q.db b s'∈F4:=hF4.mem_iff.2 (.head _)
  refine cU.ret (pG hq4 _ (s:=s') (.tail _ (.tail _ hm4))) fun I5 l5=>⟨_,rfl,F4,.refl _,fun hw=>?_,fun hw=>?_⟩
  ·exact⟨rfl,rfl,oQ.stop (hq4.mono l5) hA (fun k hk=>js _ _ _ l5 (hks k hk)) hsn' hr (by simpa using hw) hF4⟩
  have hw:q.c.eu (⟨#[119,104,101,110]⟩:ByteArray) s'=true:=by simpa using hw
  have hlt:=eM hw
  have hq5:=hq4.mono l5
  refine (tV hq5 ks.length 12 (((hF4.cons _).cons _).trans ec)).mono fun e I6 G l6 ⟨he,hG⟩=>⟨_,he,q.db b (q.c.many ks.length 12 s')::(A++F0),hG.trans ec.symm,fun ho=>?_,fun ho=>?_⟩
  ·exact⟨rfl,rfl,oQ.full (hq5.mono l6) hA (fun k hk=>js _ _ _ (cS.le_trans l5 l6) (hks k hk)) hsn' hr hw (by simpa using ho) (.refl _)⟩
  have ho:(q.c.many ks.length 12 s').over=false:=by simpa using ho
  obtain⟨hlt4,hme⟩:=lK hlt ho
  rw[hme]
  have hq6:=hq5.mono l6
  refine (Fc b s' I6 _ _ hq6 hsn' ec).mono fun e I7 G l7 ⟨x,he,px,okx,hG⟩=>?_
  refine⟨_,_,_,_,_,_,_,_,_,_,_,_,_,_,he,q.db b (q.c.ib s').2::(A++F0),hG.trans ec.symm,fun b_r b4 I8 l8 hb4=>?_⟩
  have hq8:=(hq6.mono l7).mono l8
  refine (yj (f:=dc.enc) (fun _=>rfl) (zv:=(⟨fW,none,0,[],0⟩:dc).v) (by':=104) (by kernel_rfl) (by kernel_rfl) rfl (by decide) (by decide) hA (by omega) x (CT _) hb4 rfl BD).mono fun v I9 G9 l9 ⟨a',n',c',A',hv,hA',hG9⟩=>⟨a',n',c',hv,q.db b (q.c.ib s').2::(A'++F0),hG9.trans BD.symm,12-(ks.length+1),by omega,rfl,rfl, ?_⟩
  exact oP.next js Up.ib hA hks hsn' hr hw ho px (js _ _ _ (cS.le_trans l8 l9) okx) (cS.le_trans l5 (cS.le_trans l6 (cS.le_trans l7 (cS.le_trans l8 l9)))) (hq8.mono l9) hA' (.refl _)
 ·intro nm a n c pos I10 F10 l10 ⟨e1,e2,hq10,ks,A,hA,hks,hF10,hr,hn10⟩
  have hn:=hA.1
  subst hn e1 e2
  unfold PC.lW
  refine (eN hq10 _ (s:=(q.c.list (⟨#[119,104,101,110]⟩:ByteArray) 12 q.c.ib s3).2) (((hF10.cons _).cons _).trans ec)).mono fun e I11 G l11 ⟨he,hG⟩=>⟨_,he,q.db b (q.c.take (⟨#[125]⟩:ByteArray) (q.c.list (⟨#[119,104,101,110]⟩:ByteArray) 12 q.c.ib s3).2).2::(A++F0),hG.trans ec.symm, ?_⟩
  exact⟨bb.1,a,c,ks,ta.1,A,rfl,by simp only[cZ.p,hr],hA,fun k hk=>js _ _ _ l11 (hks k hk),.refl _⟩
theorem DL{q:PQ}:vA 29 dV.v dV.p Gj q q.c.whole:=by
 intro b s I F F0 hq hsn hF
 have hl:=hq.len
 refine cU.keep (Q:=fun e I' G=>∃(nm:ByteArray) (a1:Option Addr) (c1:Nat) (rs:List dw) (a2:Option Addr) (c2:Nat) (ss:List dp) (a3:Option Addr) (c3:Nat) (ts:List cZ) (A1 A2:cR),e=.returned (dV.v ⟨nm,a1,c1,rs,a2,c2,ss,a3,c3,ts⟩)∧(⟨nm,a1,c1,rs,a2,c2,ss,a3,c3,ts⟩:dV).p=(q.c.whole s).1 ∧
   Acc 11 dw.enc 104 a1 rs.length c1 rs A1∧(∀d∈rs,qo I' d)∧Sl I' 2 dp.enc a2 ss.length ss∧Acc 3 cZ.enc 88 a3 ts.length c3 ts A2∧(∀d∈ts,nf I' d)∧G.Perm (q.db b (q.c.whole s).2::(A2++(A1++F0)))) ?_
  fun e I' G w hl hs ⟨nm,a1,c1,rs,a2,c2,ss,a3,c3,ts,A1,A2,he,hp,hA1,hd1,hS,hA2,hd2,hG⟩=>?_
 rotate_left
 ·obtain⟨J,h1,h2,h3⟩:=Acc.keep (z:=3) (f:=cZ.enc) (fun _=>rfl) hA2 (hs.perm (hG.trans (List.perm_append_comm_assoc [_] A2 (A1++F0))))
  obtain⟨J2,k1,k2,k3⟩:=Acc.keep (z:=11) (f:=dw.enc) (fun _=>rfl) hA1 (h2.perm (List.perm_append_comm_assoc [_] A1 F0))
  exact⟨J2,_,cS.le_trans h1 k1,k2,_,he,hp,⟨k3.B0 [],fun d hdm=>fK _ _ _ (cS.le_trans h1 k1) (hd1 d hdm),(hS.mono (cS.le_trans h1 k1)).B0 [],(h3.mono k1).B0 [],fun d hdm=>iB _ _ _ (cS.le_trans h1 k1) (hd2 d hdm)⟩,.refl _⟩
 unfold PC.whole
 have ht:=(Up.take (c:=q.c) (s:=s) (⟨#[115,116,114,97,116,101,103,121]⟩:ByteArray)).2 hsn
 generalize hta:(q.c.take (⟨#[115,116,114,97,116,101,103,121]⟩:ByteArray) s).2=s1 at ht ⊢
 have hn:=(Up.name (c:=q.c) (s:=s1)).2 ht
 generalize hbb:q.c.name s1=bb at hn ⊢
 have h3:=(Up.take (c:=q.c) (s:=bb.2) (⟨#[123]⟩:ByteArray)).2 hn
 generalize hs3:(q.c.take (⟨#[123]⟩:ByteArray) bb.2).2=s3 at h3 ⊢
 unfold PC.zA PC.zz PC.zy PC.zx
 refine gx.vc
  (fun nm a1 n1 c1 a2 n2 c2 a3 n3 c3 I' F'=>nm=bb.1∧a3=none∧n3=0∧c3=0∧oQ 11 dw.enc 104 dw.p qo q b (⟨#[114,101,103]⟩:ByteArray) 12 q.c.kM s3 F0 a1 n1 c1 I' F')
  (fun nm a1 n1 c1 a2 n2 c2 a3 n3 c3 m I' F'=>nm=bb.1∧a3=none∧n3=0∧c3=0∧oP 11 dw.enc 104 dw.p qo q b (⟨#[114,101,103]⟩:ByteArray) 12 q.c.kM s3 F0 a1 n1 c1 m I' F')
  (fun nm a1 n1 c1 a2 n2 c2 a3 n3 c3 I' F'=>nm=bb.1∧∃(rs:List dw) (A1:cR),Acc 11 dw.enc 104 a1 n1 c1 rs A1∧(∀k∈rs,qo I' k)∧(q.c.list (⟨#[114,101,103]⟩:ByteArray) 12 q.c.kM s3).1=rs.map dw.p∧Sl I' 2 dp.enc a2 n2 (q.c.list (⟨#[115,108,111,116]⟩:ByteArray) 4 q.c.slot (q.c.list (⟨#[114,101,103]⟩:ByteArray) 12 q.c.kM s3).2).1 ∧
    oQ 3 cZ.enc 88 cZ.p nf q b (⟨#[115,116,97,116,101]⟩:ByteArray) 12 q.c.state (q.c.list (⟨#[115,108,111,116]⟩:ByteArray) 4 q.c.slot (q.c.list (⟨#[114,101,103]⟩:ByteArray) 12 q.c.kM s3).2).2 (A1++F0) a3 n3 c3 I' F')
  (fun nm a1 n1 c1 a2 n2 c2 a3 n3 c3 m I' F'=>nm=bb.1∧∃(rs:List dw) (A1:cR),Acc 11 dw.enc 104 a1 n1 c1 rs A1∧(∀k∈rs,qo I' k)∧(q.c.list (⟨#[114,101,103]⟩:ByteArray) 12 q.c.kM s3).1=rs.map dw.p∧Sl I' 2 dp.enc a2 n2 (q.c.list (⟨#[115,108,111,116]⟩:ByteArray) 4 q.c.slot (q.c.list (⟨#[114,101,103]⟩:ByteArray) 12 q.c.kM s3).2).1 ∧
    oP 3 cZ.enc 88 cZ.p nf q b (⟨#[115,116,97,116,101]⟩:ByteArray) 12 q.c.state (q.c.list (⟨#[115,108,111,116]⟩:ByteArray) 4 q.c.slot (q.c.list (⟨#[114,101,103]⟩:ByteArray) 12 q.c.kM s3).2).2 (A1++F0) a3 n3 c3 m I' F') ?_
 unfold gx.V
 intro b2 b_s
 refine (eN hq _ (((hF.cons _).cons _).trans ec)).mono fun e I1 G l1 ⟨he,hG⟩=>⟨_,he,q.db b s1::F0,by rw[hta] at hG;exact hG.trans ec.symm, ?_⟩
 have hq1:=hq.mono l1
 refine (pH hq1 (s:=s1) ec).mono fun e I2 G l2 ⟨he,hG⟩=>⟨_,he,q.db b bb.2::F0,by rw[hbb] at hG;exact hG.trans ec.symm, ?_⟩
 rw[hbb]
 have hq2:=hq1.mono l2
 refine (eN hq2 _ (s:=bb.2) ec).mono fun e I3 G l3 ⟨he,hG⟩=>⟨_,he,q.db b s3::F0,by rw[hs3] at hG;exact hG.trans ec.symm,⟨⟨_,rfl,rfl,rfl,rfl,oP.start (hq2.mono l3) h3 (.refl _)⟩, ?_⟩, ?_⟩
 ·intro nm a1 n1 c1 a2 n2 c2 a3 n3 c3 m I4 F4 l4 ⟨e1,e2,e3,e4,hq4,ks,A,s',hA,hks,hF4,hsn',hkl,hm,hr⟩
  have hn:=hA.1
  subst hn e1 e2 e3 e4
  have hm4:q.db b s'∈F4:=hF4.mem_iff.2 (.head _)
  refine cU.ret (pG hq4 _ (s:=s') (.tail _ (.tail _ hm4))) fun I5 l5=>⟨_,rfl,F4,.refl _,fun hw=>?_,fun hw=>?_⟩
  ·exact⟨rfl,rfl,rfl,rfl,oQ.stop (hq4.mono l5) hA (fun k hk=>fK _ _ _ l5 (hks k hk)) hsn' hr (by simpa using hw) hF4⟩
  have hw:q.c.eu (⟨#[114,101,103]⟩:ByteArray) s'=true:=by simpa using hw
  have hlt:=eM hw
  have hq5:=hq4.mono l5
  refine (tV hq5 ks.length 12 (((hF4.cons _).cons _).trans ec)).mono fun e I6 G l6 ⟨he,hG⟩=>⟨_,he,q.db b (q.c.many ks.length 12 s')::(A++F0),hG.trans ec.symm,fun ho=>?_,fun ho=>?_⟩
  ·exact⟨rfl,rfl,rfl,rfl,oQ.full (hq5.mono l6) hA (fun k hk=>fK _ _ _ (cS.le_trans l5 l6) (hks k hk)) hsn' hr hw (by simpa using ho) (.refl _)⟩
  have ho:(q.c.many ks.length 12 s').over=false:=by simpa using ho
  obtain⟨hlt4,hme⟩:=lK hlt ho
  rw[hme]
  have hq6:=hq5.mono l6
  refine (Gk b s' I6 _ _ hq6 hsn' ec).mono fun e I7 G l7 ⟨x,he,px,okx,hG⟩=>?_
  refine⟨_,_,_,_,_,_,_,_,_,_,_,_,_,he,q.db b (q.c.kM s').2::(A++F0),hG.trans ec.symm,fun b_r b4 I8 l8 hb4=>?_⟩
  have hq8:=(hq6.mono l7).mono l8
  refine (yj (f:=dw.enc) (fun _=>rfl) (zv:=(⟨⟨#[]⟩,0,fW,0⟩:dw).v) (by':=104) (by kernel_rfl) (by kernel_rfl) rfl (by decide) (by decide) hA (by omega) x (DI _) hb4 rfl BD).mono fun v I9 G9 l9 ⟨a',n',c',A',hv,hA',hG9⟩=>⟨a',n',c',hv,q.db b (q.c.kM s').2::(A'++F0),hG9.trans BD.symm,12-(ks.length+1),by omega,rfl,rfl,rfl,rfl, ?_⟩
  exact oP.next fK Up.kM hA hks hsn' hr hw ho px (fK _ _ _ (cS.le_trans l8 l9) okx) (cS.le_trans l5 (cS.le_trans l6 (cS.le_trans l7 (cS.le_trans l8 l9)))) (hq8.mono l9) hA' (.refl _)
 intro nm a1 n1 c1 a2 n2 c2 a3 n3 c3 I10 F10 l10 ⟨e1,e2,e3,e4,hq10,rs,A1,hA1,hrs,hF10,hr1,hn10⟩
 subst e1 e2 e3 e4
 generalize hL1:q.c.list (⟨#[114,101,103]⟩:ByteArray) 12 q.c.kM s3=L1 at hF10 hr1 hn10 ⊢
 refine (DJ b L1.2 I10 _ _ hq10 hn10 (((hF10.cons _).cons _).trans ec)).mono fun e I11 G l11 ⟨a2',n2',c2',he,hS,hG⟩=>?_
 have hn11:=(Up.list (c:=q.c) (w:=(⟨#[115,108,111,116]⟩:ByteArray)) (most:=4) Up.slot L1.2).2 hn10
 generalize hL2:q.c.list (⟨#[115,108,111,116]⟩:ByteArray) 4 q.c.slot L1.2=L2 at hS hG hn11 ⊢
 have hq11:=hq10.mono l11
 refine⟨a2',n2',c2',he,q.db b L2.2::(A1++F0),hG.trans ec.symm,⟨⟨_,rfl,rs,A1,hA1,fun k hk=>fK _ _ _ l11 (hrs k hk),hr1,hS,oP.start hq11 hn11 (.refl _)⟩, ?_⟩, ?_⟩
 ·intro nm a1 n1 c1 a2 n2 c2 a3 n3 c3 m I12 F12 l12 ⟨e1,rs,A1,hA1,hrs,hr1,hS,hq12,ks,A,s',hA,hks,hF4,hsn',hkl,hm,hr⟩
  have hn:=hA.1
  subst hn e1
  have hm4:q.db b s'∈F12:=hF4.mem_iff.2 (.head _)
  refine cU.ret (pG hq12 _ (s:=s') (.tail _ (.tail _ hm4))) fun I5 l5=>⟨_,rfl,F12,.refl _,fun hw=>?_,fun hw=>?_⟩
  ·exact⟨rfl,rs,A1,hA1,fun k hk=>fK _ _ _ l5 (hrs k hk),hr1,hS.mono l5,oQ.stop (hq12.mono l5) hA (fun k hk=>iB _ _ _ l5 (hks k hk)) hsn' hr (by simpa using hw) hF4⟩
  have hw:q.c.eu (⟨#[115,116,97,116,101]⟩:ByteArray) s'=true:=by simpa using hw
  have hlt:=eM hw
  have hq5:=hq12.mono l5
  refine (tV hq5 ks.length 12 (((hF4.cons _).cons _).trans ec)).mono fun e I6 G l6 ⟨he,hG⟩=>⟨_,he,q.db b (q.c.many ks.length 12 s')::(A++(A1++F0)),hG.trans ec.symm,fun ho=>?_,fun ho=>?_⟩
  ·exact⟨rfl,rs,A1,hA1,fun k hk=>fK _ _ _ (cS.le_trans l5 l6) (hrs k hk),hr1,hS.mono (cS.le_trans l5 l6),oQ.full (hq5.mono l6) hA (fun k hk=>iB _ _ _ (cS.le_trans l5 l6) (hks k hk)) hsn' hr hw (by simpa using ho) (.refl _)⟩
  have ho:(q.c.many ks.length 12 s').over=false:=by simpa using ho
  obtain⟨hlt4,hme⟩:=lK hlt ho
  rw[hme]
  have hq6:=hq5.mono l6
  refine (DK b s' I6 _ _ hq6 hsn' ec).mono fun e I7 G l7 ⟨x,he,px,okx,hG⟩=>?_
  refine⟨_,_,_,_,_,he,q.db b (q.c.state s').2::(A++(A1++F0)),hG.trans ec.symm,fun b_r b4 I8 l8 hb4=>?_⟩
  have hq8:=(hq6.mono l7).mono l8
  have l59:∀J,cS.le I8 J→cS.le I12 J:=fun J h=>cS.le_trans l5 (cS.le_trans l6 (cS.le_trans l7 (cS.le_trans l8 h)))
  refine (yj (f:=cZ.enc) (fun _=>rfl) (zv:=(⟨⟨#[]⟩,none,0,[],0⟩:cZ).v) (by':=48) (by kernel_rfl) (by kernel_rfl) rfl (by decide) (by decide) hA (by omega) x (BG _) hb4 rfl BD).mono fun v I9 G9 l9 ⟨a',n',c',A',hv,hA',hG9⟩=>⟨a',n',c',hv,q.db b (q.c.state s').2::(A'++(A1++F0)),hG9.trans BD.symm,12-(ks.length+1),by omega,rfl,rs,A1,hA1,fun k hk=>fK _ _ _ (l59 _ l9) (hrs k hk),hr1,hS.mono (l59 _ l9), ?_⟩
  exact oP.next iB Up.state hA hks hsn' hr hw ho px (iB _ _ _ (cS.le_trans l8 l9) okx) (l59 _ l9) (hq8.mono l9) hA' (.refl _)
 intro nm a1 n1 c1 a2 n2 c2 a3 n3 c3 I18 F18 l18 ⟨e1,rs,A1,hA1,hrs,hr1,hS,hq18,ts,A2,hA2,hts,hF18,hr2,hn18⟩
 have hn3:=hA2.1
 have hn1:=hA1.1
 have hn2:=hS.1
 subst e1 hn3 hn1
 generalize hL3:q.c.list (⟨#[115,116,97,116,101]⟩:ByteArray) 12 q.c.state L2.2=L3 at hF18 hr2 hn18 ⊢
 have hfin:∀(s6:PS) (I':cS) (F':cR),cS.le I18 I'→s6=(if L3.1.length=0 then q.c.da 130 L3.2 else L3.2)→F'.Perm (q.db b (q.c.end (q.c.take (⟨#[125]⟩:ByteArray) s6).2)::(A2++(A1++F0))) →
   ∃(nm:ByteArray) (a1':Option Addr) (c1':Nat) (rs':List dw) (a2':Option Addr) (c2':Nat) (ss:List dp) (a3':Option Addr) (c3':Nat) (ts':List cZ) (A1' A2':cR),Ending.returned (dV.v ⟨bb.1,a1,c1,rs,a2,c2,L2.1,a3,c3,ts⟩)=.returned (dV.v ⟨nm,a1',c1',rs',a2',c2',ss,a3',c3',ts'⟩)∧(⟨nm,a1',c1',rs',a2',c2',ss,a3',c3',ts'⟩:dV).p=⟨bb.1,L1.1,L2.1,L3.1⟩ ∧
   Acc 11 dw.enc 104 a1' rs'.length c1' rs' A1'∧(∀d∈rs',qo I' d)∧Sl I' 2 dp.enc a2' ss.length ss∧Acc 3 cZ.enc 88 a3' ts'.length c3' ts' A2'∧(∀d∈ts',nf I' d)∧F'.Perm (q.db b (q.c.end (q.c.take (⟨#[125]⟩:ByteArray) (if L3.1.length=0 then q.c.da 130 L3.2 else L3.2)).2)::(A2'++(A1'++F0))):=fun s6 I' F' hl h6 hF' =>
  ⟨bb.1,a1,c1,rs,a2,c2,L2.1,a3,c3,ts,A1,A2,rfl,by simp only[dV.p,hr1,hr2],hA1,fun k hk=>fK _ _ _ hl (hrs k hk),hn2▸hS.mono hl,hA2,fun k hk=>iB _ _ _ hl (hts k hk),h6▸hF'⟩
 have h3l:L3.1.length=ts.length:=by rw[hr2,List.length_map]
 subst hn2
 refine⟨fun hz=>?_,fun hz=>?_⟩
 ·have hz:ts.length=0:=by have hz:((ts.length:Int)==0)=true:=hz;simpa using hz
  refine (gi hq18 130 (s:=L3.2) (((hF18.cons _).cons _).trans ec)).mono fun e I19 G l19 ⟨he,hG⟩=>⟨he,q.db b (q.c.da 130 L3.2)::(A2++(A1++F0)),hG.trans ec.symm, ?_⟩
  have hq19:=hq18.mono l19
  refine (eN hq19 _ (s:=q.c.da 130 L3.2) ec).mono fun e I20 G l20 ⟨he,hG⟩=>⟨_,he,q.db b (q.c.take (⟨#[125]⟩:ByteArray) (q.c.da 130 L3.2)).2::(A2++(A1++F0)),hG.trans ec.symm, ?_⟩
  have hq20:=hq19.mono l20
  refine (Er hq20 (s:=(q.c.take (⟨#[125]⟩:ByteArray) (q.c.da 130 L3.2)).2) ec).mono fun e I21 G l21 ⟨he,hG⟩=>⟨he,q.db b (q.c.end (q.c.take (⟨#[125]⟩:ByteArray) (q.c.da 130 L3.2)).2)::(A2++(A1++F0)),hG.trans ec.symm, ?_⟩
  exact hfin _ _ _ (cS.le_trans l19 (cS.le_trans l20 l21)) (by rw[if_pos (by omega)]) (.refl _)
 ·have hz:ts.length≠0:=by have hz:((ts.length:Int)==0)=false:=hz;simp at hz;exact fun h=>hz (List.eq_nil_of_length_eq_zero h)
  refine (eN hq18 _ (s:=L3.2) (((hF18.cons _).cons _).trans ec)).mono fun e I20 G l20 ⟨he,hG⟩=>⟨_,he,q.db b (q.c.take (⟨#[125]⟩:ByteArray) L3.2).2::(A2++(A1++F0)),hG.trans ec.symm, ?_⟩
  have hq20:=hq18.mono l20
  refine (Er hq20 (s:=(q.c.take (⟨#[125]⟩:ByteArray) L3.2).2) ec).mono fun e I21 G l21 ⟨he,hG⟩=>⟨he,q.db b (q.c.end (q.c.take (⟨#[125]⟩:ByteArray) L3.2).2)::(A2++(A1++F0)),hG.trans ec.symm, ?_⟩
  exact hfin _ _ _ (cS.le_trans l20 l21) (by rw[if_neg (by omega)]) (.refl _)
theorem qY(s:ByteArray):∀(n:Nat) (f:Int),(jL s n f).1.length≤n
 | 0,f=>Nat.le_refl _
 | n+1,f=>by
   unfold jL
   cases ht:iG s f with
   | bad e p=>exact Nat.zero_le _
   | ok t =>
     show (if t.kind=0 then ([t],none) else _:List Tok×Option (Int×Int)).1.length≤n+1
     split
     ·exact Nat.succ_le_succ (Nat.zero_le _)
     ·exact Nat.succ_le_succ (qY s n _)
def PF.v(f:PF):Value:=.agg #[.int .i64 f.e,.int .i64 f.pos,.bool f.tok]
theorem DM(t:ByteArray)(ht:dj t)(I:cS)(F:cR):cU P 28 #[.string t] I F fun e I' G=>∃(q:PQ) (b:Nat),q.c=dB t∧q.ok I'∧e=.returned (.pointer (some ⟨b,0,none⟩))∧G.Perm (q.db b (eY t)::F):=by
 refine cU.keep (Q:=fun e I' G=>∃(q:PQ) (b:Nat) (A:cR),q.c=dB t∧Acc 5 Tok.enc 76 q.a q.c.l.length q.cap q.c.l A∧q.c.l.length≤1000000∧e=.returned (.pointer (some ⟨b,0,none⟩))∧G.Perm (q.db b (eY t)::(A++F))) ?_ fun e I' G w hl hs ⟨q,b,A,hc,hA,hle,he,hG⟩=>?_
 rotate_left
 ·obtain⟨J,h1,h2,h3⟩:=Acc.keep (z:=5) (f:=Tok.enc) (fun _=>rfl) hA (hs.perm (hG.trans (List.perm_append_comm_assoc [_] A F)))
  exact⟨J,_,h1,h2,q,b,hc,⟨h3,hle⟩,he,.refl _⟩
 refine lJ.vc ?_
 unfold lJ.V
 refine⟨fun h b=>?_,fun h=>?_⟩
 ·have h:(4096:Int)<t.size:=of_decide_eq_true h
  refine⟨⟨dB t,none,0⟩,b,[],rfl, ?_, ?_,rfl, ?_⟩
  ·unfold dB;rw[if_pos h];exact Acc.nil
  ·unfold dB;rw[if_pos h];decide
  ·unfold PQ.db PQ.cl dB eY;rw[if_pos h,if_pos h];exact .refl _
 ·have h:¬(4096:Int)<t.size:=of_decide_eq_false h
  refine (zw ht (by omega) I F).mono fun e I1 G l1 ⟨a,n,c,A,he,hA,hG⟩=>?_
  subst hG
  have hn:=hA.1
  subst hn
  refine⟨_,_,_,_,_,he,A++F,.refl _,fun b=>?_⟩
  refine⟨⟨dB t,a,c⟩,b,A,rfl, ?_, ?_,rfl, ?_⟩
  ·unfold dB;rw[if_neg h];exact hA
  ·unfold dB;rw[if_neg h]
   show (lT t 0).1.length≤_
   have:=qY t ((t.size:Int)-0+1).toNat 0
   unfold lT
   omega
  ·unfold PQ.db PQ.cl dB eY;rw[if_neg h,if_neg h];exact .refl _
theorem PQ.H8{q:PQ}{b:Nat}{s:PS}{I:cS}{G:cR}(h:q.db b s∈G):Rd I G ((⟨b,0,none⟩:Addr).add 4) [.int .i64 s.f.e,.int .i64 s.f.pos,.bool s.f.tok]:=by
 rw[dg]
 refine⟨rfl,_,_,_,.inr h,fun j hj=>?_⟩
 have:j=0∨j=1∨j=2:=by simp only[List.length_cons,List.length_nil] at hj;omega
 rcases this with rfl | rfl | rfl<;>rfl
def Hp:dV:=⟨⟨#[]⟩,none,0,[],none,0,[],none,0,[]⟩
theorem tZ(t:ByteArray)(ht:dj t)(I:cS)(F:cR):cU P 11 #[.string t] I F fun e I' G=>∃x:dV,e=.returned (.tuple #[x.v,(dW t).2.v])∧x.p=(dW t).1∧x.Ok I' []∧G=F:=by
 refine cU.keep (Q:=fun e I' G=>∃(x:dV) (H:cR),e=.returned (.tuple #[x.v,(dW t).2.v])∧x.p=(dW t).1∧x.Ok I' []∧G.Perm (H++F)) ?_ fun e I' G w hl hs ⟨x,H,he,hp,hok,hG⟩=>⟨I',F,cS.le_refl _,(hs.perm hG).drop,x,he,hp,hok,rfl⟩
 refine jE.vc ?_
 unfold jE.V
 intro b2 b3
 refine (DM t ht I _).mono fun e I1 G l1 ⟨q,b,hc,hq,he,hG⟩=>⟨_,he,q.db b (eY t)::F,hG.trans ec.symm, ?_⟩
 have h0:(eY t).next≤q.c.l.length:=Nat.zero_le _
 refine (DL b (eY t) I1 _ _ hq h0 ec).mono fun e I2 G2 l2 ⟨x,he,hp,hok,hG2⟩=>?_
 have hok:x.Ok I2 []:=hok
 refine⟨_,_,_,_,_,_,_,_,_,_,he,q.db b (q.c.whole (eY t)).2::F,hG2.trans ec.symm,fun b_x=>?_⟩
 refine cU.ret (nP (q:=q) (b:=b) (s:=(q.c.whole (eY t)).2) (.tail _ (.tail _ (.tail _ (.head _))))) fun I3 l3=>⟨_,rfl,q.db b (q.c.whole (eY t)).2::F,.refl _,fun ho=>?_,fun ho=>?_⟩
 ·refine⟨_,rfl,_,_,_,PQ.H8 (.head _),Hp,[q.db b (q.c.whole (eY t)).2], ?_, ?_,⟨kq.nil,fun x hx=>(by cases hx),kq.nil,kq.nil,fun x hx=>(by cases hx)⟩,.refl _⟩
  ·unfold dW;rw[←hc,if_pos ho];rfl
  ·unfold dW;rw[←hc,if_pos ho];rfl
 ·refine⟨x,[q.db b (q.c.whole (eY t)).2], ?_, ?_,hok.mono l3 fun _ h=>h,.refl _⟩
  ·unfold dW;rw[←hc,if_neg (by simp[ho])];rfl
  ·unfold dW;rw[←hc,if_neg (by simp[ho])];exact hp
theorem cU.clean{P:Program}{f:FuncId}{args:Array Value}{I:cS}{F:cR}{v:Value}(h:cU P f args I F fun e I' G=>e=.returned v∧∃H,G.Perm (H++F)):cU P f args I F (kL v F) :=
 h.keep fun e I' G w hl hs ⟨he,H,hp⟩=>⟨I',F,cS.le_refl _,(hs.perm hp).drop,he,rfl⟩
end Go.Lx
namespace Go.Lx
open Go.Vc Go.Proofs.Tryz
def wF:List (Nat×List Sh):=[(4,[.one .bool]),(9,[.one .str]),(39,[.one .slc]),(40,[.one .slc]),(41,[.one .slc]),(43,[.agg [.str,.slc,.slc,.slc]]),(64,[.agg [(.int .u8),(.int .u8),(.int .u8),(.int .i64),(.int .u8),.str,.slc,(.int .i64)]]),(86,[.one .slc]),(88,[.agg [.str,.slc,(.int .i64)]]),(104,[.agg [.str,(.int .u8),(.int .u8),(.int .u8),(.int .u8),(.int .i64),(.int .u8),.str,.slc,(.int .i64),(.int .i64)]]),(106,[.agg [.str,(.int .i64)]]),(108,[.one .slc]),(110,[.agg [(.int .u8),(.int .u8),(.int .u8),(.int .i64),(.int .u8),.str,.slc,(.int .i64),.slc,(.int .i64)]]),(114,[.agg [(.int .u8),(.int .u8),.str,(.int .u8),(.int .u8),(.int .u8),(.int .i64),(.int .u8),.str,.slc,(.int .i64),(.int .u8),(.int .u8),(.int .u8),(.int .i64),(.int .u8),.str,.slc,(.int .i64),(.int .u8),(.int .u8),(.int .u8),(.int .i64),(.int .u8),.str,.slc,(.int .i64),(.int .u8),(.int .u8),(.int .u8),(.int .i64),(.int .u8),.str,.slc,(.int .i64),(.int .i64)]])]
def DN.V(ka:Nat→Int→Int→Bs→Int→Int→Int→Int→Int→Bs→OA→Nat→Nat→Int→Int→Int→Int→Int→Int→Bs→OA→Nat→Nat→Int→Int→Int→Int→Int→Int→Bs→OA→Nat→Nat→Int→Int→Int→Int→Int→Int→Bs→OA→Nat→Nat→Int→Int→Nat×Obj)(nV:Int→Int→Int→Int→Int→Bs→OA→Nat→Nat→Int→Value)(vb vi:Int→Value)(vs:Bs→Value)(vl:OA→Nat→Nat→Value)(ae af:Int)(ag:Bs)(aW aX aY aZ a0:Int)(a1:Bs)(aI:OA)(aJ aK:Nat)(aV aB aC aD aE aF:Int)(aG:Bs)(u:OA)(v w:Nat)(aH x y z aa ab:Int)(ac:Bs)(e:OA)(f g:Nat)(ad n o p q r:Int)(s:Bs)(a:OA)(c d:Nat)(t a9:Int)(I:cS)(F:cR)(Q:cT)  : Prop:=∀aA:Nat,∀b:Nat,eg P 100 #[nV aW aX aY aZ a0 a1 aI aJ aK aV] I ((ka aA ae af ag aW aX aY aZ a0 a1 aI aJ aK aV aB aC aD aE aF aG u v w aH x y z aa ab ac e f g ad n o p q r s a c d t 0)::(ka b 0 0 (⟨#[]⟩:Bs) 0 0 0 0 0 (⟨#[]⟩:Bs) none 0 0 0 0 0 0 0 0 (⟨#[]⟩:Bs) none 0 0 0 0 0 0 0 0 (⟨#[]⟩:Bs) none 0 0 0 0 0 0 0 0 (⟨#[]⟩:Bs) none 0 0 0 0)::·) F fun e1 I1 G1=>∃(ar au av aw ax:Int) (ay:Bs) (h:OA) (i j:Nat) (az:Int),e1=.returned (nV ar au av aw ax ay h i j az)∧G1 fun F1=>eg P 100 #[nV aB aC aD aE aF aG u v w aH] I1 ((ka aA ae af ag ar au av aw ax ay h i j az aB aC aD aE aF aG u v w aH x y z aa ab ac e f g ad n o p q r s a c d t 0)::(ka b 0 0 (⟨#[]⟩:Bs) 0 0 0 0 0 (⟨#[]⟩:Bs) none 0 0 0 0 0 0 0 0 (⟨#[]⟩:Bs) none 0 0 0 0 0 0 0 0 (⟨#[]⟩:Bs) none 0 0 0 0 0 0 0 0 (⟨#[]⟩:Bs) none 0 0 0 0)::·) F1 fun e2 I2 G2=>∃(ak al am an ao:Int) (ap:Bs) (k:OA) (l m:Nat) (aq:Int),e2=.returned (nV ak al am an ao ap k l m aq)∧G2 fun F2=>eg P 100 #[nV x y z aa ab ac e f g ad] I2 ((ka aA ae af ag ar au av aw ax ay h i j az ak al am an ao ap k l m aq x y z aa ab ac e f g ad n o p q r s a c d t 0)::(ka b 0 0 (⟨#[]⟩:Bs) 0 0 0 0 0 (⟨#[]⟩:Bs) none 0 0 0 0 0 0 0 0 (⟨#[]⟩:Bs) none 0 0 0 0 0 0 0 0 (⟨#[]⟩:Bs) none 0 0 0 0 0 0 0 0 (⟨#[]⟩:Bs) none 0 0 0 0)::·) F2 fun e3 I3 G3=>∃(aL aM aN aO aP:Int) (aQ:Bs) (ah:OA) (ai aj:Nat) (aR:Int),e3=.returned (nV aL aM aN aO aP aQ ah ai aj aR)∧G3 fun F3=>eg P 100 #[nV n o p q r s a c d t] I3 ((ka aA ae af ag ar au av aw ax ay h i j az ak al am an ao ap k l m aq aL aM aN aO aP aQ ah ai aj aR n o p q r s a c d t 0)::(ka b 0 0 (⟨#[]⟩:Bs) 0 0 0 0 0 (⟨#[]⟩:Bs) none 0 0 0 0 0 0 0 0 (⟨#[]⟩:Bs) none 0 0 0 0 0 0 0 0 (⟨#[]⟩:Bs) none 0 0 0 0 0 0 0 0 (⟨#[]⟩:Bs) none 0 0 0 0)::·) F3 fun e4 I4 G4=>∃(a2 a3 a4 a5 a6:Int) (a7:Bs) (aS:OA) (aT aU:Nat) (a8:Int),e4=.returned (nV a2 a3 a4 a5 a6 a7 aS aT aU a8)∧G4 fun F4=>Q (.returned (.agg #[vb ae,vb af,vs ag,vb ar,vb au,vb av,vi aw,vb ax,vs ay,vl h i j,vi az,vb ak,vb al,vb am,vi an,vb ao,vs ap,vl k l m,vi aq,vb aL,vb aM,vb aN,vi aO,vb aP,vs aQ,vl ah ai aj,vi aR,vb a2,vb a3,vb a4,vi a5,vb a6,vs a7,vl aS aT aU,vi a8,vi 0])) I4 (F4)
def nu.V(ka:Nat→Int→Int→Int→Int→Int→Bs→OA→Nat→Nat→Int→OA→Nat→Nat→Int→Nat×Obj)(kb:Nat→Bs→OA→Nat→Nat→Int→Nat×Obj)(r:Nat→Nat×Obj)(nV:Int→Int→Int→Int→Int→Bs→OA→Nat→Nat→Int→Value)(vb vi:Int→Value)(vs:Bs→Value)(vl:OA→Nat→Nat→Value)(bZ:Bs)(bJ:OA)(w b0:Nat)(b3:Int)(I:cS)(F:cR)(Q:cT)(Inv8:OA→Nat→Nat→Int→Nat→cS→cR→cS→cR→Prop)(Inv25:Int→OA→Nat→Nat→Int→Nat→cS→cR→cS→cR→Prop):Prop:=∀t:Nat,∀b:Nat,(∃m:Nat,Inv8 none 0 0 0 m I F I F)∧∀(aH:OA) (aI aJ:Nat) (i:Int) (m1:Nat) (I1:cS) (F1:cR),cS.le I I1→Inv8 aH aI aJ i m1 I F I1 F1→(Dt (i<(w:Int)) ((0≤i∧i<(w:Int))∧∃ad:Addr,bJ=some ad∧∃(h j l n o:Int) (p:Bs) (c:OA) (d e:Nat) (q:Int) (f:OA) (a g:Nat) (s:Int),Rd I1 ((r t)::(kb b (⟨#[]⟩:Bs) none 0 0 0)::F1) (ad.add (Int.toNat i*10)) [vb h,vb j,vb l,vi n,vb o,vs p,vl c d e,vi q,vl f a g,vi s]∧∀u:Nat,(∃m2:Nat,Inv25 i none 0 0 0 m2 I1 F1 I1 F1)∧∀(x:OA) (y z:Nat) (k:Int) (m3:Nat) (I2:cS) (F2:cR),cS.le I1 I2→Inv25 i x y z k m3 I1 F1 I2 F2→(Dt (k<(a:Int)) ((0≤k∧k<(a:Int))∧∃bY:Addr,f=some bY∧∃(aK aL:Int) (aM:Bs) (aN aO aP bK aQ:Int) (bL:Bs) (av:OA) (aw ax:Nat) (aR ay aS aT aU aV:Int) (aW:Bs) (aa:OA) (ab ac:Nat) (aX aY aZ az a0 a1:Int) (a2:Bs) (ae:OA) (af ag:Nat) (a3 a4 a5 a6 a7 aA:Int) (a8:Bs) (ah:OA) (ai aj:Nat) (a9 ba:Int),Rd I2 ((r t)::(kb b (⟨#[]⟩:Bs) none 0 0 0)::(ka u h j l n o p c d e q f a g s)::F2) (bY.add (Int.toNat k*36)) [vb aK,vb aL,vs aM,vb aN,vb aO,vb aP,vi bK,vb aQ,vs bL,vl av aw ax,vi aR,vb ay,vb aS,vb aT,vi aU,vb aV,vs aW,vl aa ab ac,vi aX,vb aY,vb aZ,vb az,vi a0,vb a1,vs a2,vl ae af ag,vi a3,vb a4,vb a5,vb a6,vi a7,vb aA,vs a8,vl ah ai aj,vi a9,vi ba]∧eg P 122 #[.agg #[vb aK,vb aL,vs aM,vb aN,vb aO,vb aP,vi bK,vb aQ,vs bL,vl av aw ax,vi aR,vb ay,vb aS,vb aT,vi aU,vb aV,vs aW,vl aa ab ac,vi aX,vb aY,vb aZ,vb az,vi a0,vb a1,vs a2,vl ae af ag,vi a3,vb a4,vb a5,vb a6,vi a7,vb aA,vs a8,vl ah ai aj,vi a9,vi ba]] I2 ((r t)::(kb b (⟨#[]⟩:Bs) none 0 0 0)::(ka u h j l n o p c d e q f a g s)::·) F2 fun e1 I3 G1=>∃(bM bN:Int) (bO:Bs) (bP bQ bR bS bT:Int) (bU:Bs) (aB:OA) (aC aD:Nat) (bb bc bd be bf bg:Int) (bh:Bs) (ak:OA) (al am:Nat) (bi bj bk bl bm bn:Int) (bo:Bs) (an:OA) (ao ap:Nat) (bp bq br bs bt bu:Int) (bv:Bs) (aq:OA) (ar au:Nat) (bw bx:Int),e1=.returned (.agg #[vb bM,vb bN,vs bO,vb bP,vb bQ,vb bR,vi bS,vb bT,vs bU,vl aB aC aD,vi bb,vb bc,vb bd,vb be,vi bf,vb bg,vs bh,vl ak al am,vi bi,vb bj,vb bk,vb bl,vi bm,vb bn,vs bo,vl an ao ap,vi bp,vb bq,vb br,vb bs,vi bt,vb bu,vs bv,vl aq ar au,vi bw,vi bx])∧G1 fun F3=>∀(b1:Nat) (I4:cS),cS.le I3 I4→I4 b1=some (Obj.cells #[vb bM,vb bN,vs bO,vb bP,vb bQ,vb bR,vi bS,vb bT,vs bU,vl aB aC aD,vi bb,vb bc,vb bd,vb be,vi bf,vb bg,vs bh,vl ak al am,vi bi,vb bj,vb bk,vb bl,vi bm,vb bn,vs bo,vl an ao ap,vi bp,vb bq,vb br,vb bs,vi bt,vb bu,vs bv,vl aq ar au,vi bw,vi bx] 114 (0,0))→dk P (Builtin.append_ #[108,108] 108 #[vl x y z,vl (some ⟨b1,0,none⟩) 1 1]) I4 ((r t)::(kb b (⟨#[]⟩:Bs) none 0 0 0)::(ka u h j l n o p c d e q f a g s)::F3) fun v I5 G2=>∃(bV:OA) (bW bX:Nat),v=vl bV bW bX∧∃F4:cR,List.Perm G2 ((r t)::(kb b (⟨#[]⟩:Bs) none 0 0 0)::(ka u h j l n o p c d e q f a g s)::F4)∧(∃m4:Nat,m4<m3∧Inv25 i bV bW bX (IntKind.wrap .i64 (k+1)) m4 I1 F1 I5 F4)) (eg P 100 #[nV h j l n o p c d e q] I2 ((r t)::(kb b (⟨#[]⟩:Bs) none 0 0 0)::(ka u h j l n o p c d e q f a g s)::·) F2 fun e2 I6 G3=>∃(bz bA bB bC bD:Int) (bE:Bs) (aE:OA) (aF aG:Nat) (bF:Int),e2=.returned (nV bz bA bB bC bD bE aE aF aG bF)∧G3 fun F5=>∀(b2:Nat) (I7:cS),cS.le I6 I7→I7 b2=some (Obj.cells #[vb bz,vb bA,vb bB,vi bC,vb bD,vs bE,vl aE aF aG,vi bF,vl x y z,vi 0] 110 (0,0))→dk P (Builtin.append_ #[86,86] 86 #[vl aH aI aJ,vl (some ⟨b2,0,none⟩) 1 1]) I7 ((r t)::(kb b (⟨#[]⟩:Bs) none 0 0 0)::(ka u h j l n o p c d e q f a g s)::F5) fun v1 I8 G4=>∃(bG:OA) (bH bI:Nat),v1=vl bG bH bI∧∃F6:cR,List.Perm G4 ((r t)::(kb b (⟨#[]⟩:Bs) none 0 0 0)::(ka u h j l n o p c d e q f a g s)::F6)∧(∃m5:Nat,m5<m1∧Inv8 bG bH bI (IntKind.wrap .i64 (i+1)) m5 I F I8 F6)))) (Q (.returned (.agg #[vs bZ,vl aH aI aJ,vi 0])) I1 F1))
theorem nu.vc{v:Bs}{p:OA}{r u:Nat}{w:Int}{I:cS}{F:cR}{Q:cT}(Inv8:OA→Nat→Nat→Int→Nat→cS→cR→cS→cR→Prop)(Inv25:Int→OA→Nat→Nat→Int→Nat→cS→cR→cS→cR→Prop)(h:nu.V (fun W a b c d e f g h i j k l m n=>(W,Obj.cells #[.int .u8 a,.int .u8 b,.int .u8 c,.int .i64 d,.int .u8 e,.string f,.slice g h i,.int .i64 j,.slice k l m,.int .i64 n] 110 (0,0))) (fun W a b c d e=>(W,Obj.cells #[.string a,.slice b c d,.int .i64 e] 88 (0,0))) (fun b=>(b,Obj.cells #[.string v,.slice p r u,.int .i64 w] 88 (0,0))) (fun k o t n f s a l c q=>.agg #[.int .u8 k,.int .u8 o,.int .u8 t,.int .i64 n,.int .u8 f,.string s,.slice a l c,.int .i64 q]) (.int .u8) (.int .i64) .string .slice v p r u w I F Q Inv8 Inv25):cU P 101 #[.agg #[.string v,.slice p r u,.int .i64 w]] I F Q :=
 tw (A:=(dy [3004,8004] [] [100,122] wF [(8,⟨[(3,.slc),(4,(.int .i64))],[],fun fs I0 F0 vs m I F=>match fs,vs with | [],[.slice y0 y1 y2,.int _ y3]=>Inv8 y0 y1 y2 y3 m I0 F0 I F | _,_=>False,[],[]⟩),(25,⟨[(6,.slc),(7,(.int .i64))],[],fun fs I0 F0 vs m I F=>match fs,vs with | [.int _ y0],[.slice y1 y2 y3,.int _ y4]=>Inv25 y0 y1 y2 y3 y4 m I0 F0 I F | _,_=>False,[4],[]⟩)] [10007,11006] [] [] [] [] [])) [100,122] func101 h
def zH.V(ka:Nat→Bs→OA→Nat→Nat→OA→Nat→Nat→OA→Nat→Nat→Nat×Obj)(ai:Nat→Nat×Obj)(nV:Int→Int→Int→Int→Int→Bs→OA→Nat→Nat→Int→Value)(vb vi:Int→Value)(vs:Bs→Value)(vl:OA→Nat→Nat→Value)(bd:Bs)(aY:OA)(aB be:Nat)(aZ:OA)(aC bf:Nat)(a0:OA)(aD bg:Nat)(I:cS)(F:cR)(Q:cT)(Inv8:Int→Bs→OA→Nat→Nat→OA→Nat→Nat→OA→Nat→Nat→Nat→cS→cR→Prop)(Inv25:Int→Bs→OA→Nat→Nat→OA→Nat→Nat→OA→Nat→Nat→Nat→cS→cR→Prop)(Inv40:Int→Bs→OA→Nat→Nat→OA→Nat→Nat→OA→Nat→Nat→Nat→cS→cR→Prop):Prop:=∀ak:Nat,∀b:Nat,∀al:Nat,(∃m:Nat,Inv8 0 bd none 0 0 none 0 0 none 0 0 m I F)∧∀(i:Int) (ah:Bs) (l:OA) (n o:Nat) (p:OA) (q r:Nat) (s:OA) (t u m1:Nat) (I1:cS) (F1:cR),cS.le I I1→Inv8 i ah l n o p q r s t u m1 I1 F1→(Dt (i<(aB:Int)) ((0≤i∧i<(aB:Int))∧∃ad:Addr,aY=some ad∧∃(aq:Bs) (ar au av aw ax ay:Int) (az:Bs) (am:OA) (an ao:Nat) (aA ap:Int),Rd I1 ((ai ak)::(ka b (⟨#[]⟩:Bs) none 0 0 none 0 0 none 0 0)::(ka al ah l n o p q r s t u)::F1) (ad.add (Int.toNat i*11)) [vs aq,vb ar,vb au,vb av,vb aw,vi ax,vb ay,vs az,vl am an ao,vi aA,vi ap]∧∀aN:Nat,eg P 100 #[nV au av aw ax ay az am an ao aA] I1 ((ai ak)::(ka b (⟨#[]⟩:Bs) none 0 0 none 0 0 none 0 0)::(ka al ah l n o p q r s t u)::(aN,Obj.cells #[vs aq,vb ar,vb au,vb av,vb aw,vi ax,vb ay,vs az,vl am an ao,vi aA,vi ap] 104 (0,0))::·) F1 fun e1 I2 G1=>∃(a1 a2 a3 a4 a5:Int) (a6:Bs) (aE:OA) (aF aG:Nat) (a7:Int),e1=.returned (nV a1 a2 a3 a4 a5 a6 aE aF aG a7)∧G1 fun F2=>∀(b1:Nat) (I3:cS),cS.le I2 I3→I3 b1=some (Obj.cells #[vs aq,vb ar,vb a1,vb a2,vb a3,vi a4,vb a5,vs a6,vl aE aF aG,vi a7,vi 0] 104 (0,0))→dk P (Builtin.append_ #[39,39] 39 #[vl l n o,vl (some ⟨b1,0,none⟩) 1 1]) I3 ((ai ak)::(ka b (⟨#[]⟩:Bs) none 0 0 none 0 0 none 0 0)::(ka al ah l n o p q r s t u)::(aN,Obj.cells #[vs aq,vb ar,vb au,vb av,vb aw,vi ax,vb ay,vs az,vl am an ao,vi aA,vi ap] 104 (0,0))::F2) fun v I4 G2=>∃(a8:OA) (a9 ba:Nat),v=vl a8 a9 ba∧∃F3:cR,List.Perm G2 ((ai ak)::(ka b (⟨#[]⟩:Bs) none 0 0 none 0 0 none 0 0)::(ka al ah l n o p q r s t u)::(aN,Obj.cells #[vs aq,vb ar,vb au,vb av,vb aw,vi ax,vb ay,vs az,vl am an ao,vi aA,vi ap] 104 (0,0))::F3)∧(∃m2:Nat,m2<m1∧Inv8 (IntKind.wrap .i64 (i+1)) ah a8 a9 ba p q r s t u m2 I4 F3)) ((∃m3:Nat,Inv25 0 ah l n o p q r s t u m3 I1 F1)∧∀(i1:Int) (aj:Bs) (w:OA) (x y:Nat) (z:OA) (aa ab:Nat) (ac:OA) (ae af m4:Nat) (I5:cS) (F4:cR),cS.le I1 I5→Inv25 i1 aj w x y z aa ab ac ae af m4 I5 F4→(Dt (i1<(aC:Int)) ((0≤i1∧i1<(aC:Int))∧∃bb:Addr,aZ=some bb∧∃(m5:Bs),Rd I5 ((ai ak)::(ka b (⟨#[]⟩:Bs) none 0 0 none 0 0 none 0 0)::(ka al aj w x y z aa ab ac ae af)::F4) ((bb.add (Int.toNat i1*2)).add 0) [vs m5]∧∀(b2:Nat) (I6:cS),cS.le I5 I6→I6 b2=some (Obj.cells #[vs m5,vi 0] 106 (0,0))→dk P (Builtin.append_ #[40,40] 40 #[vl z aa ab,vl (some ⟨b2,0,none⟩) 1 1]) I6 ((ai ak)::(ka b (⟨#[]⟩:Bs) none 0 0 none 0 0 none 0 0)::(ka al aj w x y z aa ab ac ae af)::F4) fun v1 I7 G3=>∃(aO:OA) (aP aQ:Nat),v1=vl aO aP aQ∧∃F5:cR,List.Perm G3 ((ai ak)::(ka b (⟨#[]⟩:Bs) none 0 0 none 0 0 none 0 0)::(ka al aj w x y z aa ab ac ae af)::F5)∧(∃m6:Nat,m6<m4∧Inv25 (IntKind.wrap .i64 (i1+1)) aj w x y aO aP aQ ac ae af m6 I7 F5)) ((∃m7:Nat,Inv40 0 aj w x y z aa ab ac ae af m7 I5 F4)∧∀(i2:Int) (ag:Bs) (a:OA) (c d:Nat) (e:OA) (f g:Nat) (h:OA) (j k m8:Nat) (I8:cS) (F6:cR),cS.le I5 I8→Inv40 i2 ag a c d e f g h j k m8 I8 F6→(Dt (i2<(aD:Int)) ((0≤i2∧i2<(aD:Int))∧∃bc:Addr,a0=some bc∧∃(aR:Bs) (aH:OA) (aI aJ:Nat) (aS:Int),Rd I8 ((ai ak)::(ka b (⟨#[]⟩:Bs) none 0 0 none 0 0 none 0 0)::(ka al ag a c d e f g h j k)::F6) (bc.add (Int.toNat i2*3)) [vs aR,vl aH aI aJ,vi aS]∧eg P 101 #[.agg #[vs aR,vl aH aI aJ,vi aS]] I8 ((ai ak)::(ka b (⟨#[]⟩:Bs) none 0 0 none 0 0 none 0 0)::(ka al ag a c d e f g h j k)::·) F6 fun e2 I9 G4=>∃(aT:Bs) (aK:OA) (aL aM:Nat) (aU:Int),e2=.returned (.agg #[vs aT,vl aK aL aM,vi aU])∧G4 fun F7=>∀(b3:Nat) (I10:cS),cS.le I9 I10→I10 b3=some (Obj.cells #[vs aT,vl aK aL aM,vi aU] 88 (0,0))→dk P (Builtin.append_ #[41,41] 41 #[vl h j k,vl (some ⟨b3,0,none⟩) 1 1]) I10 ((ai ak)::(ka b (⟨#[]⟩:Bs) none 0 0 none 0 0 none 0 0)::(ka al ag a c d e f g h j k)::F7) fun v2 I11 G5=>∃(aV:OA) (aW aX:Nat),v2=vl aV aW aX∧∃F8:cR,List.Perm G5 ((ai ak)::(ka b (⟨#[]⟩:Bs) none 0 0 none 0 0 none 0 0)::(ka al ag a c d e f g h j k)::F8)∧(∃m9:Nat,m9<m8∧Inv40 (IntKind.wrap .i64 (i2+1)) ag a c d e f g aV aW aX m9 I11 F8)) (Q (.returned (.agg #[vs ag,vl a c d,vl e f g,vl h j k])) I8 F6))))))
def ky.V(a b:Nat→Nat×Obj)(nV:Int→Int→Int→Int→Int→Bs→OA→Nat→Nat→Int→Value)(vt:Bool→Value)(af ag:Int)(ah:Bs)(a5 a6 a7 a8 a9:Int)(ba:Bs)(z:OA)(aa ab:Nat)(al am an ao ap aq:Int)(ar:Bs)(e:OA)(f g:Nat)(au av aw ax ay az:Int)(aA:Bs)(h:OA)(i j:Nat)(aB aC aD aE aF aG:Int)(aH:Bs)(k:OA)(l m:Nat)(aI n ai aj:Int)(ak:Bs)(bb bc bd be bf:Int)(bg:Bs)(ac:OA)(ad ae:Nat)(aJ aK aL aM aN aO:Int)(aP:Bs)(o:OA)(p q:Nat)(aQ aR aS aT aU aV:Int)(aW:Bs)(s:OA)(t u:Nat)(aX aY aZ a0 a1 a2:Int)(a3:Bs)(v:OA)(w x:Nat)(a4 y:Int)(I:cS)(F:cR)(Q:cT)  : Prop:=∀c:Nat,∀d:Nat,dt P 18 #[nV a5 a6 a7 a8 a9 ba z aa ab al,nV bb bc bd be bf bg ac ad ae aJ] I ((b c)::(a d)::·) F vt fun r I1 F1=>dt P 18 #[nV am an ao ap aq ar e f g au,nV aK aL aM aN aO aP o p q aQ] I1 ((b c)::(a d)::·) F1 vt fun r1 I2 F2=>dt P 18 #[nV av aw ax ay az aA h i j aB,nV aR aS aT aU aV aW s t u aX] I2 ((b c)::(a d)::·) F2 vt fun r2 I3 F3=>dt P 18 #[nV aC aD aE aF aG aH k l m aI,nV aY aZ a0 a1 a2 a3 v w x a4] I3 ((b c)::(a d)::·) F3 vt fun r3 I4 F4=>(It (af==ai) (It (ag==aj) (It (ah.toList==ak.toList) (It (n==y) (It r (It r1 (It r2 (Q (.returned (vt r3)) I4 F4) (Q (.returned (vt false)) I4 F4)) (Q (.returned (vt false)) I4 F4)) (Q (.returned (vt false)) I4 F4)) (Q (.returned (vt false)) I4 F4)) (Q (.returned (vt false)) I4 F4)) (Q (.returned (vt false)) I4 F4)) (Q (.returned (vt false)) I4 F4))
theorem ky.vc{a7 a8:Int}{a9:Bs}{ba bb bc bd be:Int}{bf:Bs}{ae:OA}{af ag:Nat}{ak al am ao ap aq:Int}{ar:Bs}{d:OA}{e g:Nat}{au av aw ax ay az:Int}{aA:Bs}{i:OA}{j m:Nat}{aB aC aD aE aF aG:Int}{aH:Bs}{p:OA}{r u:Nat}{aI aJ bg bh:Int}{bi:Bs}{bj bk bl bm bn:Int}{bo:Bs}{ah:OA}{ai aj:Nat}{aK aL aM aN aO aP:Int}{aQ:Bs}{v:OA}{w x:Nat}{aR aS aT aU aV aW:Int}{aX:Bs}{y:OA}{z aa:Nat}{aY aZ a0 a1 a2 a3:Int}{a4:Bs}{ab:OA}{ac ad:Nat}{a5 a6:Int}{I:cS}{F:cR}{Q:cT}  (h:ky.V (fun b=>(b,Obj.cells #[.int .u8 bg,.int .u8 bh,.string bi,.int .u8 bj,.int .u8 bk,.int .u8 bl,.int .i64 bm,.int .u8 bn,.string bo,.slice ah ai aj,.int .i64 aK,.int .u8 aL,.int .u8 aM,.int .u8 aN,.int .i64 aO,.int .u8 aP,.string aQ,.slice v w x,.int .i64 aR,.int .u8 aS,.int .u8 aT,.int .u8 aU,.int .i64 aV,.int .u8 aW,.string aX,.slice y z aa,.int .i64 aY,.int .u8 aZ,.int .u8 a0,.int .u8 a1,.int .i64 a2,.int .u8 a3,.string a4,.slice ab ac ad,.int .i64 a5,.int .i64 a6] 114 (0,0))) (fun b=>(b,Obj.cells #[.int .u8 a7,.int .u8 a8,.string a9,.int .u8 ba,.int .u8 bb,.int .u8 bc,.int .i64 bd,.int .u8 be,.string bf,.slice ae af ag,.int .i64 ak,.int .u8 al,.int .u8 am,.int .u8 ao,.int .i64 ap,.int .u8 aq,.string ar,.slice d e g,.int .i64 au,.int .u8 av,.int .u8 aw,.int .u8 ax,.int .i64 ay,.int .u8 az,.string aA,.slice i j m,.int .i64 aB,.int .u8 aC,.int .u8 aD,.int .u8 aE,.int .i64 aF,.int .u8 aG,.string aH,.slice p r u,.int .i64 aI,.int .i64 aJ] 114 (0,0))) (fun k o t n f s a l c q=>.agg #[.int .u8 k,.int .u8 o,.int .u8 t,.int .i64 n,.int .u8 f,.string s,.slice a l c,.int .i64 q]) .bool a7 a8 a9 ba bb bc bd be bf ae af ag ak al am ao ap aq ar d e g au av aw ax ay az aA i j m aB aC aD aE aF aG aH p r u aI aJ bg bh bi bj bk bl bm bn bo ah ai aj aK aL aM aN aO aP aQ v w x aR aS aT aU aV aW aX y z aa aY aZ a0 a1 a2 a3 a4 ab ac ad a5 a6 I F Q):cU P 86 #[.agg #[.int .u8 a7,.int .u8 a8,.string a9,.int .u8 ba,.int .u8 bb,.int .u8 bc,.int .i64 bd,.int .u8 be,.string bf,.slice ae af ag,.int .i64 ak,.int .u8 al,.int .u8 am,.int .u8 ao,.int .i64 ap,.int .u8 aq,.string ar,.slice d e g,.int .i64 au,.int .u8 av,.int .u8 aw,.int .u8 ax,.int .i64 ay,.int .u8 az,.string aA,.slice i j m,.int .i64 aB,.int .u8 aC,.int .u8 aD,.int .u8 aE,.int .i64 aF,.int .u8 aG,.string aH,.slice p r u,.int .i64 aI,.int .i64 aJ],.agg #[.int .u8 bg,.int .u8 bh,.string bi,.int .u8 bj,.int .u8 bk,.int .u8 bl,.int .i64 bm,.int .u8 bn,.string bo,.slice ah ai aj,.int .i64 aK,.int .u8 aL,.int .u8 aM,.int .u8 aN,.int .i64 aO,.int .u8 aP,.string aQ,.slice v w x,.int .i64 aR,.int .u8 aS,.int .u8 aT,.int .u8 aU,.int .i64 aV,.int .u8 aW,.string aX,.slice y z aa,.int .i64 aY,.int .u8 aZ,.int .u8 a0,.int .u8 a1,.int .i64 a2,.int .u8 a3,.string a4,.slice ab ac ad,.int .i64 a5,.int .i64 a6]] I F Q :=
 tw (A:=(an [5004,5010,5017,5024,5027,5030,5033] [18] wF)) [18] func86 h
def iY.V(ka:Nat→Int→Int→Int→Int→Int→Bs→OA→Nat→Nat→Int→OA→Nat→Nat→Int→Nat×Obj)(aj ak:Nat→Nat×Obj)(nV:Int→Int→Int→Int→Int→Bs→OA→Nat→Nat→Int→Value)(vb vi:Int→Value)(vs:Bs→Value)(vl:OA→Nat→Nat→Value)(vt:Bool→Value)(bT:Bs)(bR:OA)(aa b2:Nat)(bU:Int)(bV:Bs)(bS:OA)(aA b3:Nat)(bW:Int)(I:cS)(F:cR)(Q:cT)(Inv14:Bool→Int→Nat→cS→cR→cS→cR→Prop)(Inv40:Int→Bool→Int→Nat→cS→cR→cS→cR→Prop):Prop:=∀al:Nat,∀am:Nat,(It (!(bT.toList==bV.toList)) (Q (.returned (vt false)) I F) (It (bU != bW) (Q (.returned (vt false)) I F) (It ((aa:Int)!=(aA:Int)) (Q (.returned (vt false)) I F) ((∃m:Nat,Inv14 false 0 m I F I F)∧∀(x:Bool) (i:Int) (m1:Nat) (I1:cS) (F1:cR),cS.le I I1→Inv14 x i m1 I F I1 F1→(Dt (i<(aa:Int)) ((0≤i∧i<(aa:Int))∧∃ad:Addr,bR=some ad∧∃(ab ac ae af ag:Int) (ah:Bs) (g:OA) (h j:Nat) (ai:Int) (l:OA) (a o:Nat) (z:Int),Rd I1 ((ak al)::(aj am)::F1) (ad.add (Int.toNat i*10)) [vb ab,vb ac,vb ae,vi af,vb ag,vs ah,vl g h j,vi ai,vl l a o,vi z]∧∀an:Nat,((0≤i∧i<(aA:Int))∧∃bZ:Addr,bS=some bZ∧∃(q s t u v:Int) (w:Bs) (c:OA) (d e:Nat) (y:Int) (f:OA) (b n:Nat) (p:Int),Rd I1 ((ak al)::(aj am)::(ka an ab ac ae af ag ah g h j ai l a o z)::F1) (bZ.add (Int.toNat i*10)) [vb q,vb s,vb t,vi u,vb v,vs w,vl c d e,vi y,vl f b n,vi p]∧∀az:Nat,dt P 18 #[nV ab ac ae af ag ah g h j ai,nV q s t u v w c d e y] I1 ((ak al)::(aj am)::(ka an ab ac ae af ag ah g h j ai l a o z)::(ka az q s t u v w c d e y f b n p)::·) F1 vt fun r I2 F2=>(It (!r) (Q (.returned (vt false)) I2 F2) (It (z != p) (Q (.returned (vt false)) I2 F2) (It ((a:Int)!=(b:Int)) (Q (.returned (vt false)) I2 F2) ((∃m2:Nat,Inv40 i x 0 m2 I2 F2 I2 F2)∧∀(x1:Bool) (k:Int) (m3:Nat) (I3:cS) (F3:cR),cS.le I2 I3→Inv40 i x1 k m3 I2 F2 I3 F3→(Dt (k<(a:Int)) ((0≤k∧k<(a:Int))∧∃b0:Addr,l=some b0∧∃(bj bk:Int) (bl:Bs) (bm bn bo bX bp:Int) (bY:Bs) (aN:OA) (aO aP:Nat) (bq aQ aR br bs bt:Int) (bu:Bs) (aB:OA) (aC aD:Nat) (bv bw bx aS aT bz:Int) (bA:Bs) (aE:OA) (aF aG:Nat) (bB bC bD bE bF aU:Int) (aV:Bs) (aH:OA) (aI aJ:Nat) (bG bH:Int),Rd I3 ((ak al)::(aj am)::(ka an ab ac ae af ag ah g h j ai l a o z)::(ka az q s t u v w c d e y f b n p)::F3) (b0.add (Int.toNat k*36)) [vb bj,vb bk,vs bl,vb bm,vb bn,vb bo,vi bX,vb bp,vs bY,vl aN aO aP,vi bq,vb aQ,vb aR,vb br,vi bs,vb bt,vs bu,vl aB aC aD,vi bv,vb bw,vb bx,vb aS,vi aT,vb bz,vs bA,vl aE aF aG,vi bB,vb bC,vb bD,vb bE,vi bF,vb aU,vs aV,vl aH aI aJ,vi bG,vi bH]∧((0≤k∧k<(b:Int))∧∃b1:Addr,f=some b1∧∃(bI bJ:Int) (bK:Bs) (bL bM bN bO bP:Int) (bQ:Bs) (aK:OA) (aL aM:Nat) (aW aX aY aZ a0 a1:Int) (a2:Bs) (ao:OA) (ap aq:Nat) (a3 a4 a5 a6 a7 a8:Int) (a9:Bs) (ar:OA) (au av:Nat) (ba bb bc bd be bf:Int) (bg:Bs) (aw:OA) (ax ay:Nat) (bh bi:Int),Rd I3 ((ak al)::(aj am)::(ka an ab ac ae af ag ah g h j ai l a o z)::(ka az q s t u v w c d e y f b n p)::F3) (b1.add (Int.toNat k*36)) [vb bI,vb bJ,vs bK,vb bL,vb bM,vb bN,vi bO,vb bP,vs bQ,vl aK aL aM,vi aW,vb aX,vb aY,vb aZ,vi a0,vb a1,vs a2,vl ao ap aq,vi a3,vb a4,vb a5,vb a6,vi a7,vb a8,vs a9,vl ar au av,vi ba,vb bb,vb bc,vb bd,vi be,vb bf,vs bg,vl aw ax ay,vi bh,vi bi]∧∃(r1:Bool),(cU P 86 #[.agg #[vb bj,vb bk,vs bl,vb bm,vb bn,vb bo,vi bX,vb bp,vs bY,vl aN aO aP,vi bq,vb aQ,vb aR,vb br,vi bs,vb bt,vs bu,vl aB aC aD,vi bv,vb bw,vb bx,vb aS,vi aT,vb bz,vs bA,vl aE aF aG,vi bB,vb bC,vb bD,vb bE,vi bF,vb aU,vs aV,vl aH aI aJ,vi bG,vi bH],.agg #[vb bI,vb bJ,vs bK,vb bL,vb bM,vb bN,vi bO,vb bP,vs bQ,vl aK aL aM,vi aW,vb aX,vb aY,vb aZ,vi a0,vb a1,vs a2,vl ao ap aq,vi a3,vb a4,vb a5,vb a6,vi a7,vb a8,vs a9,vl ar au av,vi ba,vb bb,vb bc,vb bd,vi be,vb bf,vs bg,vl aw ax ay,vi bh,vi bi]] I3 ((ak al)::(aj am)::(ka an ab ac ae af ag ah g h j ai l a o z)::(ka az q s t u v w c d e y f b n p)::F3) fun e2 I4 G2=>e2=.returned (vt r1)∧List.Perm G2 ((ak al)::(aj am)::(ka an ab ac ae af ag ah g h j ai l a o z)::(ka az q s t u v w c d e y f b n p)::F3))∧(It (!r1) (Q (.returned (vt false)) I3 F3) (∃m4:Nat,m4<m3∧Inv40 i x1 (IntKind.wrap .i64 (k+1)) m4 I2 F2 I3 F3)))) (∃m5:Nat,m5<m1∧Inv14 x1 (IntKind.wrap .i64 (i+1)) m5 I F I3 F3)))))))) (Q (.returned (vt true)) I1 F1))))))
theorem iY.vc{y:Bs}{p:OA}{r u:Nat}{z:Int}{aa:Bs}{v:OA}{w x:Nat}{ab:Int}{I:cS}{F:cR}{Q:cT}(Inv14:Bool→Int→Nat→cS→cR→cS→cR→Prop)(Inv40:Int→Bool→Int→Nat→cS→cR→cS→cR→Prop)(h:iY.V (fun W a b c d e f g h i j k l m n=>(W,Obj.cells #[.int .u8 a,.int .u8 b,.int .u8 c,.int .i64 d,.int .u8 e,.string f,.slice g h i,.int .i64 j,.slice k l m,.int .i64 n] 110 (0,0))) (fun b=>(b,Obj.cells #[.string aa,.slice v w x,.int .i64 ab] 88 (0,0))) (fun b=>(b,Obj.cells #[.string y,.slice p r u,.int .i64 z] 88 (0,0))) (fun k o t n f s a l c q=>.agg #[.int .u8 k,.int .u8 o,.int .u8 t,.int .i64 n,.int .u8 f,.string s,.slice a l c,.int .i64 q]) (.int .u8) (.int .i64) .string .slice .bool y p r u z aa v w x ab I F Q Inv14 Inv40):cU P 32 #[.agg #[.string y,.slice p r u,.int .i64 z],.agg #[.string aa,.slice v w x,.int .i64 ab]] I F Q :=
 tw (A:=(dy [1004,1010,1019,4004,9001,9007,9016,12004,15001] [] [18,86] wF [(14,⟨[(4,.bool),(5,(.int .i64))],[],fun fs I0 F0 vs m I F=>match fs,vs with | [],[.bool y0,.int _ y1]=>Inv14 y0 y1 m I0 F0 I F | _,_=>False,[],[]⟩),(40,⟨[(4,.bool),(9,(.int .i64))],[],fun fs I0 F0 vs m I F=>match fs,vs with | [.int _ y0],[.bool y1,.int _ y2]=>Inv40 y0 y1 y2 m I0 F0 I F | _,_=>False,[5],[]⟩)] [] [] [] [] [] [])) [18,86] func32 h
def gy.V(ka:Nat→Bs→Int→Int→Int→Int→Int→Int→Bs→OA→Nat→Nat→Int→Int→Nat×Obj)(a b:Nat→Nat×Obj)(nV:Int→Int→Int→Int→Int→Bs→OA→Nat→Nat→Int→Value)(vb vi:Int→Value)(vs:Bs→Value)(vl:OA→Nat→Nat→Value)(vt:Bool→Value)(aN:Bs)(aH:OA)(e aV:Nat)(aI:OA)(f aW:Nat)(aJ:OA)(g aX:Nat)(aO:Bs)(aK:OA)(y aY:Nat)(aL:OA)(z aZ:Nat)(aM:OA)(aa a0:Nat)(I:cS)(F:cR)(Q:cT)(Inv14:Bool→Int→Nat→cS→cR→Prop)(Inv41:Bool→Int→Nat→cS→cR→Prop)(Inv62:Bool→Int→Nat→cS→cR→Prop):Prop:=∀c:Nat,∀d:Nat,(It (!(aN.toList==aO.toList)) (Q (.returned (vt false)) I F) (It ((e:Int)!=(y:Int)) (Q (.returned (vt false)) I F) (It ((f:Int)!=(z:Int)) (Q (.returned (vt false)) I F) (It ((g:Int)!=(aa:Int)) (Q (.returned (vt false)) I F) ((∃m:Nat,Inv14 false 0 m I F)∧∀(x:Bool) (i:Int) (m1:Nat) (I1:cS) (F1:cR),cS.le I I1→Inv14 x i m1 I1 F1→(Dt (i<(e:Int)) ((0≤i∧i<(e:Int))∧∃ad:Addr,aH=some ad∧∃(v:Bs) (w aj ak al am an:Int) (ao:Bs) (h:OA) (j k:Nat) (ap s:Int),Rd I1 ((a c)::(b d)::F1) (ad.add (Int.toNat i*11)) [vs v,vb w,vb aj,vb ak,vb al,vi am,vb an,vs ao,vl h j k,vi ap,vi s]∧∀aG:Nat,((0≤i∧i<(y:Int))∧∃aP:Addr,aK=some aP∧∃(t:Bs) (u ab ac ae af ag:Int) (ah:Bs) (l:OA) (n o:Nat) (ai p:Int),Rd I1 ((a c)::(b d)::(ka aG v w aj ak al am an ao h j k ap s)::F1) (aP.add (Int.toNat i*11)) [vs t,vb u,vb ab,vb ac,vb ae,vi af,vb ag,vs ah,vl l n o,vi ai,vi p]∧∀aQ:Nat,dt P 18 #[nV aj ak al am an ao h j k ap,nV ab ac ae af ag ah l n o ai] I1 ((a c)::(b d)::(ka aG v w aj ak al am an ao h j k ap s)::(ka aQ t u ab ac ae af ag ah l n o ai p)::·) F1 vt fun r I2 F2=>(It (!r) (Q (.returned (vt false)) I2 F2) (It (!(v.toList==t.toList)) (Q (.returned (vt false)) I2 F2) (It (w != u) (Q (.returned (vt false)) I2 F2) (It (s != p) (Q (.returned (vt false)) I2 F2) (∃m2:Nat,m2<m1∧Inv14 x (IntKind.wrap .i64 (i+1)) m2 I2 F2))))))) ((∃m3:Nat,Inv41 x 0 m3 I1 F1)∧∀(x1:Bool) (i1:Int) (m4:Nat) (I3:cS) (F3:cR),cS.le I1 I3→Inv41 x1 i1 m4 I3 F3→(Dt (i1<(f:Int)) ((0≤i1∧i1<(f:Int))∧∃aR:Addr,aI=some aR∧∃(ay:Bs) (az:Int),Rd I3 ((a c)::(b d)::F3) (aR.add (Int.toNat i1*2)) [vs ay,vi az]∧((0≤i1∧i1<(z:Int))∧∃aS:Addr,aL=some aS∧∃(aA:Bs) (aB:Int),Rd I3 ((a c)::(b d)::F3) (aS.add (Int.toNat i1*2)) [vs aA,vi aB]∧∃q:Bool,eA P .neq 106 (.tmp 100) (.tmp 105) (.agg #[vs ay,vi az]) (.agg #[vs aA,vi aB]) q∧(It q (Q (.returned (vt false)) I3 F3) (∃m5:Nat,m5<m4∧Inv41 x1 (IntKind.wrap .i64 (i1+1)) m5 I3 F3)))) ((∃m6:Nat,Inv62 x1 0 m6 I3 F3)∧∀(x2:Bool) (i2:Int) (m7:Nat) (I4:cS) (F4:cR),cS.le I3 I4→Inv62 x2 i2 m7 I4 F4→(Dt (i2<(g:Int)) ((0≤i2∧i2<(g:Int))∧∃aT:Addr,aJ=some aT∧∃(aC:Bs) (av:OA) (aw ax:Nat) (aD:Int),Rd I4 ((a c)::(b d)::F4) (aT.add (Int.toNat i2*3)) [vs aC,vl av aw ax,vi aD]∧((0≤i2∧i2<(aa:Int))∧∃aU:Addr,aM=some aU∧∃(aE:Bs) (aq:OA) (ar au:Nat) (aF:Int),Rd I4 ((a c)::(b d)::F4) (aU.add (Int.toNat i2*3)) [vs aE,vl aq ar au,vi aF]∧∃(r1:Bool),(cU P 32 #[.agg #[vs aC,vl av aw ax,vi aD],.agg #[vs aE,vl aq ar au,vi aF]] I4 ((a c)::(b d)::F4) fun e2 I5 G2=>e2=.returned (vt r1)∧List.Perm G2 ((a c)::(b d)::F4))∧(It (!r1) (Q (.returned (vt false)) I4 F4) (∃m8:Nat,m8<m7∧Inv62 x2 (IntKind.wrap .i64 (i2+1)) m8 I4 F4)))) (Q (.returned (vt true)) I4 F4)))))))))))
theorem gy.vc{ak:Bs}{p:OA}{r u:Nat}{v:OA}{w x:Nat}{y:OA}{z aa:Nat}{al:Bs}{ab:OA}{ac ad:Nat}{ae:OA}{af ag:Nat}{ah:OA}{ai aj:Nat}{I:cS}{F:cR}{Q:cT}(Inv14:Bool→Int→Nat→cS→cR→Prop)(Inv41:Bool→Int→Nat→cS→cR→Prop)(Inv62:Bool→Int→Nat→cS→cR→Prop)(h:gy.V (fun W a b c d e f g h i j k l m=>(W,Obj.cells #[.string a,.int .u8 b,.int .u8 c,.int .u8 d,.int .u8 e,.int .i64 f,.int .u8 g,.string h,.slice i j k,.int .i64 l,.int .i64 m] 104 (0,0))) (fun b=>(b,Obj.cells #[.string ak,.slice p r u,.slice v w x,.slice y z aa] 43 (0,0))) (fun b=>(b,Obj.cells #[.string al,.slice ab ac ad,.slice ae af ag,.slice ah ai aj] 43 (0,0))) (fun k o t n f s a l c q=>.agg #[.int .u8 k,.int .u8 o,.int .u8 t,.int .i64 n,.int .u8 f,.string s,.slice a l c,.int .i64 q]) (.int .u8) (.int .i64) .string .slice .bool ak p r u v w x y z aa al ab ac ad ae af ag ah ai aj I F Q Inv14 Inv41 Inv62):cU P 13 #[.agg #[.string ak,.slice p r u,.slice v w x,.slice y z aa],.agg #[.string al,.slice ab ac ad,.slice ae af ag,.slice ah ai aj]] I F Q :=
 tw (A:=(dy [1004,1012,1021,1030,4004,9001,9007,9014,9021,12004,14010,17004,20001] [] [18,32] wF [(14,⟨[(4,.bool),(5,(.int .i64))],[],fun _ _ _ vs m I F=>match vs with | [.bool y0,.int _ y1]=>Inv14 y0 y1 m I F | _=>False,[],[]⟩),(41,⟨[(4,.bool),(9,(.int .i64))],[],fun _ _ _ vs m I F=>match vs with | [.bool y0,.int _ y1]=>Inv41 y0 y1 m I F | _=>False,[],[]⟩),(62,⟨[(4,.bool),(10,(.int .i64))],[],fun _ _ _ vs m I F=>match vs with | [.bool y0,.int _ y1]=>Inv62 y0 y1 m I F | _=>False,[],[]⟩)] [] [] [] [] [] [])) [18,32] func13 h
def zI.V(ka:Nat→Bs→OA→Nat→Nat→OA→Nat→Nat→OA→Nat→Nat→Nat×Obj)(t u:Nat→Nat×Obj)(vs:Bs→Value)(vl:OA→Nat→Nat→Value)(av:Bs)(aa:OA)(ab ac:Nat)(ad:OA)(ae af:Nat)(ag:OA)(ah ai:Nat)(aw:Bs)(aj:OA)(ak al:Nat)(am:OA)(an ao:Nat)(ap:OA)(aq ar:Nat)(I:cS)(F:cR)(Q:cT)  : Prop:=∀w:Nat,∀x:Nat,eg P 60 #[.agg #[vs av,vl aa ab ac,vl ad ae af,vl ag ah ai]] I ((t w)::(u x)::·) F fun e1 I1 G1=>∃(v:Bs) (a:OA) (b c:Nat) (d:OA) (e f:Nat) (g:OA) (h i:Nat),e1=.returned (.agg #[vs v,vl a b c,vl d e f,vl g h i])∧G1 fun F1=>∀z:Nat,eg P 60 #[.agg #[vs aw,vl aj ak al,vl am an ao,vl ap aq ar]] I1 ((t w)::(u x)::(ka z v a b c d e f g h i)::·) F1 fun e2 I2 G2=>∃(y:Bs) (j:OA) (k l:Nat) (m:OA) (n o:Nat) (p:OA) (q s:Nat),e2=.returned (.agg #[vs y,vl j k l,vl m n o,vl p q s])∧G2 fun F2=>∀au:Nat,dt P 13 #[.agg #[vs v,vl a b c,vl d e f,vl g h i],.agg #[vs y,vl j k l,vl m n o,vl p q s]] I2 ((t w)::(u x)::(ka z v a b c d e f g h i)::(ka au y j k l m n o p q s)::·) F2 .bool fun r I3 F3=>Q (.returned (.bool r)) I3 (F3)
end Go.Lx
namespace Go.Lx
open Go.Vc
def jw.dj(d:jw):Prop:=d.name.size≤140737488351232∧∀x∈d.E5,x.iH
def eE.dj(r:eE):Prop:=r.when.iH∧r.dos.length≤140737488351232∧∀d∈r.dos,d.dj
def dF.dj(x:dF):Prop:=x.name.size≤140737488351232∧x.rules.length≤140737488351232∧∀r∈x.rules,r.dj
def fp.dj(r:fp):Prop:=r.name.size≤140737488351232∧r.init.iH
def dp.dj(r:dp):Prop:=r.name.size≤140737488351232
structure fT.dj (s:fT):Prop where
 name:s.name.size≤140737488351232
 regs:s.regs.length≤140737488351232
 kM:∀r∈s.regs,r.dj
 slots:s.slots.length≤140737488351232
 slot:∀r∈s.slots,r.dj
 states:s.states.length≤140737488351232
 state:∀x∈s.states,x.dj
def jw.mu(d:jw):Prop:=Small d.E5
def eE.mu(r:eE):Prop:=r.when.size≤1048576∧r.dos.length≤1048576∧∀d∈r.dos,d.mu
def dF.mu(x:dF):Prop:=x.rules.length≤1048576∧∀r∈x.rules,r.mu
def eP{α:Type}(f:α→Int):List α→Int
 | []=>0
 | x::r=>f x+eP f r
theorem fX{α:Type}{f:α→Int}(h:∀x,0≤f x):∀l,0≤eP f l
 | []=>Int.le_refl _
 | x::r=>by have:=fX h r;have:=h x;rw[eP];omega
theorem ua{α:Type}(f:α→Int):∀l m:List α,eP f (l++m)=eP f l+eP f m
 | [],m=>by rw[List.nil_append,eP];omega
 | x::l,m=>by rw[List.cons_append,eP,eP,ua f l m];omega
theorem nR{α β:Type}(f:α→Int)(g:β→α):∀l:List β,eP f (l.map g)=eP (fun x=>f (g x)) l
 | []=>rfl
 | x::l=>by rw[List.map_cons,eP,eP,nR f g l]
theorem BJ{α:Type}(f:α→Int){l:List α}{i:Nat}{x:α}(hx:l[i]? = some x):eP f (l.take (i+1))=eP f (l.take i)+f x:=by
 obtain⟨hi,rfl⟩:=List.getElem?_eq_some_iff.1 hx
 rw[List.take_succ_eq_append_getElem hi,ua,eP,eP];omega
def jw.dI(d:jw):Int:=1+d.side.size+d.qty.size+d.price.size+d.value.size
def eE.dI(r:eE):Int:=1+r.when.size+eP jw.dI r.dos
def dF.dI(x:dF):Int:=1+eP eE.dI x.rules
def fp.dI(r:fp):Int:=1+r.init.size
def fT.dI(s:fT):Int:=eP fp.dI s.regs+s.slots.length+eP dF.dI s.states
theorem jw.dN(d:jw):1≤d.dI:=by
 have q1:=Px.size_pos d.side
 have q2:=Px.size_pos d.qty
 have q3:=Px.size_pos d.price
 have q4:=Px.size_pos d.value
 unfold jw.dI;omega
theorem eE.dN(r:eE):1≤r.dI:=by
 have q1:=Px.size_pos r.when
 have q2:=fX (fun x=>Int.le_trans (by decide) (jw.dN x)) r.dos
 unfold eE.dI;omega
theorem dF.dN(x:dF):1≤x.dI:=by
 have q2:=fX (fun x=>Int.le_trans (by decide) (eE.dN x)) x.rules
 unfold dF.dI;omega
theorem fp.dN(r:fp):1≤r.dI:=by
 have q1:=Px.size_pos r.init
 unfold fp.dI;omega
structure fT.mu (s:fT):Prop where
 regs:s.regs.length≤1048576
 kM:∀r∈s.regs,r.init.size≤1048576
 slots:s.slots.length≤1048576
 states:s.states.length≤1048576
 state:∀x∈s.states,x.mu
 all:s.dI≤1048576
def eJ.dI(d:eJ):Int:=d.p.dI
def dc.dI(r:dc):Int:=r.p.dI
def cZ.dI(r:cZ):Int:=r.p.dI
def dw.dI(r:dw):Int:=r.p.dI
theorem dc.j2(r:dc):r.dI=1+r.when.px.size+eP eJ.dI r.dos:=by
 show 1+r.when.px.size+eP jw.dI (r.dos.map eJ.p)=_
 rw[nR];rfl
theorem cZ.j2(r:cZ):r.dI=1+eP dc.dI r.rules:=by
 show 1+eP eE.dI (r.rules.map dc.p)=_
 rw[nR];rfl
theorem dV.j2(s:dV):s.p.dI=eP dw.dI s.regs+s.slots.length+eP cZ.dI s.states:=by
 show eP fp.dI (s.regs.map dw.p)+s.slots.length+eP dF.dI (s.states.map cZ.p)=_
 rw[nR,nR];rfl
structure fT.zJ (s:fT):Prop where
 regs:s.regs.length≤1048576
 kM:∀r∈s.regs,r.init.size≤1048576
 slots:s.slots.length≤1048576
 states:s.states.length≤1048576
 state:∀x∈s.states,x.mu
theorem Rd.part{I:cS}{G:cR}{ad:Addr}{cs xs ds ys:List Value}(h:Rd I G ad cs){o:Nat}(e:cs=xs++(ds++ys))(ho:xs.length=o):Rd I G (ad.add o) ds:=by
 obtain⟨h1,cells,t,fz,h2,h3⟩:=h
 have hadd:ad.add o=⟨ad.block,ad.off+o,none⟩:=by
  obtain⟨b,off,sp⟩:=ad
  simp only at h1;subst h1
  unfold Addr.add;split<;>simp_all
 rw[hadd]
 refine⟨rfl,cells,t,fz,h2,fun j hj=>?_⟩
 have:=h3 (o+j) (by rw[e];simp only[List.length_append];omega)
 rw[←Nat.add_assoc] at this
 rw[this,e,List.getElem?_append_right (by omega),show o+j-xs.length=j by omega,List.getElem?_append_left hj]
end Go.Lx
namespace Go.Vc
def fF{α β:Type}(f:α→β→Bool):List α→List β→Bool
 | x::l,y::m=>f x y&&fF f l m
 | _,_=>true
theorem jf{α β γ δ:Type}{f:γ→δ→Bool}{g:α→γ}{h:β→δ}{l:List α}{m:List β}{i:Nat}{x:α}{y:β}(hx:l[i]? = some x)(hy:m[i]? = some y) :
  fF f ((l.drop i).map g) ((m.drop i).map h)=(f (g x) (h y)&&fF f ((l.drop (i+1)).map g) ((m.drop (i+1)).map h)):=by
 obtain⟨h1,rfl⟩:=List.getElem?_eq_some_iff.1 hx
 obtain⟨h2,rfl⟩:=List.getElem?_eq_some_iff.1 hy
 rw[List.drop_eq_getElem_cons h1,List.drop_eq_getElem_cons h2,List.map_cons,List.map_cons,fF]
theorem mv{α β γ δ:Type}{f:γ→δ→Bool}{g:α→γ}{h:β→δ}{l:List α}{m:List β}{i:Nat}(hi:l.length≤i):fF f ((l.drop i).map g) ((m.drop i).map h)=true:=by
 rw[List.drop_eq_nil_of_le hi,List.map_nil];cases (List.map h (List.drop i m))<;>rfl
theorem jV{α:Type}{f:α→α→Bool}:∀{l:List α},(∀x∈l,f x x=true)→fF f l l=true
 | [],_=>rfl
 | x::l,k=>by rw[fF,k x (List.mem_cons_self ..),jV fun y hy=>k y (List.mem_cons_of_mem _ hy)];rfl
end Go.Vc
namespace Go.Lx
open Go.Vc
namespace Px
mutual
def same:Px→Px→Bool
 | .mk k o t n f s l q,y=>q==y.pos&&(qb (.mk k o t n f s l q) y&&(decide (l.length=y.kids.length)&&nS l y.kids))
def nS:List Px→List Px→Bool
 | [],_=>true
 | _::_,[]=>false
 | x::r,y::r'=>same x y&&nS r r'
end
theorem Az(x y:Px):x.same y=(x.pos==y.pos&&(qb x y&&(decide (x.kids.length=y.kids.length)&&nS x.kids y.kids))):=by cases x;rw[same];rfl
theorem wG(x:Px):qb x x=true:=by simp[qb]
theorem eB:∀x:Px,x.same x=true:=by
 have hL:∀l:List Px,(∀x∈l,x.same x=true)→nS l l=true:=by
  intro l
  induction l with
  | nil=>intro _;rw[nS]
  | cons y r ih=>intro h;rw[nS,h y (List.mem_cons_self ..),ih fun x hx=>h x (List.mem_cons_of_mem _ hx)];rfl
 refine ind fun x ih=>?_
 rw[Az,wG,decide_eq_true rfl,hL _ ih];simp
end Px
theorem jW:∀(t:Nd),t.px.iH→∀(u:Nd) (I:cS) (F:cR),dO I F t→dO I F u→cU P 18 #[t.v,u.v] I F (kL (.bool (t.px.same u.px)) F):=by
 refine Nd.ind fun t ih hs u I F ht hu=>?_
 have hln:=hs.len
 rw[Nd.EX] at hln
 refine jB.vc (fun x i m I' F'=>0≤i∧i≤t.kids.length∧m=(t.kids.length-i).toNat∧Px.nS (t.kids.map Nd.px) (u.kids.map Nd.px)=Px.nS ((t.kids.drop i.toNat).map Nd.px) ((u.kids.drop i.toNat).map Nd.px)∧F'=F) ?_
 unfold jB.V
 intro b_a b_b
 rw[Px.Az,Nd.jZ,Nd.jZ,List.length_map,List.length_map]
 unfold Px.qb
 rw[Nd.Ap,Nd.Ap,Nd.wg,Nd.wg,Nd.Cu,Nd.Cu,Nd.Gb,Nd.Gb,Nd.xP,Nd.xP,Nd.Aq,Nd.Aq,Nd.wh,Nd.wh]
 refine⟨fun h=>⟨?_,rfl⟩,fun hp=>⟨fun h=>⟨?_,rfl⟩,fun h0=>⟨fun h=>⟨?_,rfl⟩,fun h1=>⟨fun h=>⟨?_,rfl⟩,fun h2=>⟨fun h=>⟨?_,rfl⟩,fun h3=>⟨fun h=>⟨?_,rfl⟩,fun h4=>⟨fun h=>⟨?_,rfl⟩,fun h5=>⟨fun h=>⟨?_,rfl⟩,fun h6=>?_⟩⟩⟩⟩⟩⟩⟩⟩
 ·rw[show (t.pos==u.pos)=false by simpa using h];simp
 ·rw[show (t.kind==u.kind)=false by simpa using h];simp
 ·rw[show (t.oper==u.oper)=false by simpa using h];simp
 ·rw[show (t.dU==u.dU)=false by simpa using h];simp
 ·rw[show (t.n==u.n)=false by simpa using h];simp
 ·rw[show (t.field==u.field)=false by simpa using h];simp
 ·rw[show (t.name.toList==u.name.toList)=false by simpa using h];simp
 ·rw[decide_eq_false (show ¬t.kids.length=u.kids.length from fun e=>by rw[e] at h;simp at h)];simp
 have hlen:t.kids.length=u.kids.length:=by
  have:((t.kids.length:Int)!=(u.kids.length:Int))=false:=h6
  have:(t.kids.length:Int)=u.kids.length:=by simpa using this
  omega
 rw[show (t.pos==u.pos)=true by simpa using hp,show (t.kind==u.kind)=true by simpa using h0,show (t.oper==u.oper)=true by simpa using h1,show (t.dU==u.dU)=true by simpa using h2,show (t.n==u.n)=true by simpa using h3,
  show (t.field==u.field)=true by simpa using h4,show (t.name.toList==u.name.toList)=true by simpa using h5,decide_eq_true hlen]
 simp only[Bool.true_and]
 refine⟨⟨_,by omega,by omega,rfl,rfl,by first | rfl | trivial⟩,fun x i m I1 F1 hI ⟨g0,g1,gm,gl,gF⟩=>⟨fun hlt=>?_,fun hlt=>?_⟩⟩
 ·have hlt:=of_decide_eq_true hlt
  subst gF
  have hc:∀y,dO I F1 y→dO I1 ((b_a,.cells t.enc.toArray 64 (0,0))::(b_b,.cells u.enc.toArray 64 (0,0))::F1) y:=fun y h=>(h.mono hI fun _ h=>h).cons.cons
  obtain⟨ad,x,had,hx,hrd,hxo,hxm⟩:=(hc t ht).kids.at g0 hlt
  obtain⟨ad',y,had',hy,hrd',hyo,hym⟩:=(hc u hu).kids.at g0 (show i<u.kids.length by omega)
  refine⟨⟨g0,hlt⟩,ad,had,_,_,_,_,_,_,_,_,_,_,hrd,⟨g0,by omega⟩,ad',had',_,_,_,_,_,_,_,_,_,_,hrd',x.px.same y.px,
   (ih x hxm (hs.DA x.px (by rw[Nd.jZ];exact List.mem_map_of_mem hxm)) y I1 _ hxo hyo).Gd,fun h=>⟨?_,rfl⟩,fun h=>⟨(t.kids.length-(i+1)).toNat,by omega, ?_⟩⟩
  ·rw[gl,qg hx,qg hy,Px.nS,show x.px.same y.px=false by simpa using h];rfl
  ·rw[ew (n:=i+1) (by omega)]
   refine⟨by omega,by omega,rfl, ?_,rfl⟩
   rw[gl,qg hx,qg hy,Px.nS,show x.px.same y.px=true by simpa using h,show (i+1).toNat=i.toNat+1 by omega];rfl
 ·have hlt:=of_decide_eq_false hlt
  refine⟨?_,gF⟩
  rw[gl,CB (by omega),Px.nS]
def jw.same(d e:jw):Bool:=d.kind==e.kind&&(d.order==e.order&&(d.name.toList==e.name.toList&&(d.pos==e.pos&&(d.side.same e.side&&(d.qty.same e.qty&&(d.price.same e.price&&d.value.same e.value))))))
def eE.same(r q:eE):Bool:=r.when.same q.when&&(r.pos==q.pos&&(decide (r.dos.length=q.dos.length)&&fF jw.same r.dos q.dos))
def dF.same(x y:dF):Bool:=x.name.toList==y.name.toList&&(x.pos==y.pos&&(decide (x.rules.length=y.rules.length)&&fF eE.same x.rules y.rules))
def fp.same(r q:fp):Bool:=r.init.same q.init&&(r.name.toList==q.name.toList&&(r.dU==q.dU&&r.pos==q.pos))
def dp.same(r q:dp):Bool:=r.name.toList==q.name.toList&&(r.pos==q.pos&&true)
def fT.same(s u:fT):Bool:=s.name.toList==u.name.toList&&(decide (s.regs.length=u.regs.length)&&(decide (s.slots.length=u.slots.length)&&(decide (s.states.length=u.states.length) &&
 (fF fp.same s.regs u.regs&&(fF dp.same s.slots u.slots&&fF dF.same s.states u.states)))))
theorem jw.eB(d:jw):d.same d=true:=by simp[jw.same,Px.eB]
theorem eE.eB(r:eE):r.same r=true:=by simp[eE.same,Px.eB,jV fun d _=>jw.eB d]
theorem dF.eB(r:dF):r.same r=true:=by simp[dF.same,jV fun d _=>eE.eB d]
theorem fp.eB(r:fp):r.same r=true:=by simp[fp.same,Px.eB]
theorem dp.eB(r:dp):r.same r=true:=by simp[dp.same]
theorem fT.eB(s:fT):s.same s=true:=by simp[fT.same,jV fun d _=>fp.eB d,jV fun d _=>dp.eB d,jV fun d _=>dF.eB d]
theorem yk(d e:eJ)(hs:d.p.dj)(I:cS)(F:cR)(hd:d.Ok I F)(he:e.Ok I F):cU P 86 #[d.v,e.v] I F (kL (.bool (d.p.same e.p)) F):=by
 refine ky.vc ?_
 unfold ky.V
 intro b_a b_b
 have hsh:=hs.2
 simp only[jw.E5,List.mem_cons,List.not_mem_nil,or_false] at hsh
 have od:∀{J:cS},cS.le I J→d.Ok J ((b_a,Obj.cells #[.int .u8 d.kind,.int .u8 d.order,.string d.name,.int .u8 d.side.kind,.int .u8 d.side.oper,.int .u8 d.side.dU,.int .i64 d.side.n,.int .u8 d.side.field,.string d.side.name,.slice d.side.a d.side.kids.length d.side.c,.int .i64 d.side.pos,.int .u8 d.qty.kind,.int .u8 d.qty.oper,.int .u8 d.qty.dU,.int .i64 d.qty.n,.int .u8 d.qty.field,.string d.qty.name,.slice d.qty.a d.qty.kids.length d.qty.c,.int .i64 d.qty.pos,.int .u8 d.price.kind,.int .u8 d.price.oper,.int .u8 d.price.dU,.int .i64 d.price.n,.int .u8 d.price.field,.string d.price.name,.slice d.price.a d.price.kids.length d.price.c,.int .i64 d.price.pos,.int .u8 d.value.kind,.int .u8 d.value.oper,.int .u8 d.value.dU,.int .i64 d.value.n,.int .u8 d.value.field,.string d.value.name,.slice d.value.a d.value.kids.length d.value.c,.int .i64 d.value.pos,.int .i64 d.pos] 114 (0,0))::(b_b,Obj.cells #[.int .u8 e.kind,.int .u8 e.order,.string e.name,.int .u8 e.side.kind,.int .u8 e.side.oper,.int .u8 e.side.dU,.int .i64 e.side.n,.int .u8 e.side.field,.string e.side.name,.slice e.side.a e.side.kids.length e.side.c,.int .i64 e.side.pos,.int .u8 e.qty.kind,.int .u8 e.qty.oper,.int .u8 e.qty.dU,.int .i64 e.qty.n,.int .u8 e.qty.field,.string e.qty.name,.slice e.qty.a e.qty.kids.length e.qty.c,.int .i64 e.qty.pos,.int .u8 e.price.kind,.int .u8 e.price.oper,.int .u8 e.price.dU,.int .i64 e.price.n,.int .u8 e.price.field,.string e.price.name,.slice e.price.a e.price.kids.length e.price.c,.int .i64 e.price.pos,.int .u8 e.value.kind,.int .u8 e.value.oper,.int .u8 e.value.dU,.int .i64 e.value.n,.int .u8 e.value.field,.string e.value.name,.slice e.value.a e.value.kids.length e.value.c,.int .i64 e.value.pos,.int .i64 e.pos] 114 (0,0))::F):=fun hl=>(hd.mono hl fun _ h=>h).cons.cons
 have oe:∀{J:cS},cS.le I J→e.Ok J ((b_a,Obj.cells #[.int .u8 d.kind,.int .u8 d.order,.string d.name,.int .u8 d.side.kind,.int .u8 d.side.oper,.int .u8 d.side.dU,.int .i64 d.side.n,.int .u8 d.side.field,.string d.side.name,.slice d.side.a d.side.kids.length d.side.c,.int .i64 d.side.pos,.int .u8 d.qty.kind,.int .u8 d.qty.oper,.int .u8 d.qty.dU,.int .i64 d.qty.n,.int .u8 d.qty.field,.string d.qty.name,.slice d.qty.a d.qty.kids.length d.qty.c,.int .i64 d.qty.pos,.int .u8 d.price.kind,.int .u8 d.price.oper,.int .u8 d.price.dU,.int .i64 d.price.n,.int .u8 d.price.field,.string d.price.name,.slice d.price.a d.price.kids.length d.price.c,.int .i64 d.price.pos,.int .u8 d.value.kind,.int .u8 d.value.oper,.int .u8 d.value.dU,.int .i64 d.value.n,.int .u8 d.value.field,.string d.value.name,.slice d.value.a d.value.kids.length d.value.c,.int .i64 d.value.pos,.int .i64 d.pos] 114 (0,0))::(b_b,Obj.cells #[.int .u8 e.kind,.int .u8 e.order,.string e.name,.int .u8 e.side.kind,.int .u8 e.side.oper,.int .u8 e.side.dU,.int .i64 e.side.n,.int .u8 e.side.field,.string e.side.name,.slice e.side.a e.side.kids.length e.side.c,.int .i64 e.side.pos,.int .u8 e.qty.kind,.int .u8 e.qty.oper,.int .u8 e.qty.dU,.int .i64 e.qty.n,.int .u8 e.qty.field,.string e.qty.name,.slice e.qty.a e.qty.kids.length e.qty.c,.int .i64 e.qty.pos,.int .u8 e.price.kind,.int .u8 e.price.oper,.int .u8 e.price.dU,.int .i64 e.price.n,.int .u8 e.price.field,.string e.price.name,.slice e.price.a e.price.kids.length e.price.c,.int .i64 e.price.pos,.int .u8 e.value.kind,.int .u8 e.value.oper,.int .u8 e.value.dU,.int .i64 e.value.n,.int .u8 e.value.field,.string e.value.name,.slice e.value.a e.value.kids.length e.value.c,.int .i64 e.value.pos,.int .i64 e.pos] 114 (0,0))::F):=fun hl=>(he.mono hl fun _ h=>h).cons.cons
 refine cU.ret (jW d.side (hsh _ (.inl rfl)) e.side I _ (od (cS.le_refl I)).1 (oe (cS.le_refl I)).1) fun I1 l1=>⟨_,rfl,F,.refl _, ?_⟩
 refine cU.ret (jW d.qty (hsh _ (.inr (.inl rfl))) e.qty I1 _ (od l1).2.1 (oe l1).2.1) fun I2 h2=>⟨_,rfl,F,.refl _, ?_⟩
 have l2:=cS.le_trans l1 h2
 refine cU.ret (jW d.price (hsh _ (.inr (.inr (.inl rfl)))) e.price I2 _ (od l2).2.2.1 (oe l2).2.2.1) fun I3 h3=>⟨_,rfl,F,.refl _, ?_⟩
 have l3:=cS.le_trans l2 h3
 refine cU.ret (jW d.value (hsh _ (.inr (.inr (.inr rfl)))) e.value I3 _ (od l3).2.2.2 (oe l3).2.2.2) fun I4 h4=>⟨_,rfl,F,.refl _, ?_⟩
 have hdef:d.p.same e.p=(d.kind==e.kind&&(d.order==e.order&&(d.name.toList==e.name.toList&&(d.pos==e.pos&&(d.side.px.same e.side.px&&(d.qty.px.same e.qty.px&&(d.price.px.same e.price.px&&d.value.px.same e.value.px))))))):=rfl
 rw[hdef]
 refine⟨fun h1=>⟨fun h2=>⟨fun h3=>⟨fun h4=>⟨fun h5=>⟨fun h6=>⟨fun h7=>⟨?_,rfl⟩,fun h7=>⟨?_,rfl⟩⟩,fun h6=>⟨?_,rfl⟩⟩,fun h5=>⟨?_,rfl⟩⟩,fun h4=>⟨?_,rfl⟩⟩,fun h3=>⟨?_,rfl⟩⟩,fun h2=>⟨?_,rfl⟩⟩,fun h1=>⟨?_,rfl⟩⟩
 all_goals simp only[*,Bool.true_and,Bool.false_and,Bool.and_false]
theorem qp{m n:Nat}(h:(((m:Nat):Int)!=((n:Nat):Int))=true):decide (m=n)=false:=decide_eq_false fun e=>by rw[e] at h;simp at h
theorem ma{m n:Nat}(h:(((m:Nat):Int)!=((n:Nat):Int))=false):m=n:=by
 have:(m:Int)=n:=by simpa using h
 omega
theorem AA{α:Type}[BEq α][LawfulBEq α]{x y:α}(h:(x != y)=true):(x==y)=false:=by simpa using h
theorem AB{α:Type}[BEq α][LawfulBEq α]{x y:α}(h:(x != y)=false):(x==y)=true:=by simpa using h
theorem rE{b:Bool}(h:(!b)=true):b=false:=by simpa using h
theorem rF{b:Bool}(h:(!b)=false):b=true:=by simpa using h
theorem ub(x y:cZ)(hs:x.p.dj)(I:cS)(F:cR)(hx:x.Ok I F)(hy:y.Ok I F):cU P 32 #[x.v,y.v] I F (kL (.bool (x.p.same y.p)) F):=by
 have hl:=hs.2.1
 have hru:∀r∈x.rules,r.p.dj:=fun r hr=>hs.2.2 _ (List.mem_map_of_mem hr)
 have hdl:∀r∈x.rules,r.dos.length≤140737488351232:=fun r hr=>by have:=(hru r hr).2.1;simpa only[dc.p,List.length_map] using this
 simp only[cZ.p,List.length_map] at hl
 refine iY.vc
  (fun q i m I0 F0 I' F'=>F'=F∧0≤i∧i≤x.rules.length∧m=(x.rules.length-i).toNat∧x.rules.length=y.rules.length∧x.p.same y.p=fF eE.same ((x.rules.drop i.toNat).map dc.p) ((y.rules.drop i.toNat).map dc.p))
  (fun i q k m I0 F0 I' F'=>F'=F∧∃r s,x.rules[i.toNat]? = some r∧y.rules[i.toNat]? = some s∧0≤k∧k≤r.dos.length∧m=(r.dos.length-k).toNat ∧
    x.p.same y.p=(fF jw.same ((r.dos.drop k.toNat).map eJ.p) ((s.dos.drop k.toNat).map eJ.p)&&fF eE.same ((x.rules.drop (i+1).toNat).map dc.p) ((y.rules.drop (i+1).toNat).map dc.p))) ?_
 unfold iY.V
 intro b_a b_b
 have hdef:x.p.same y.p=(x.name.toList==y.name.toList&&(x.pos==y.pos&&(decide (x.rules.length=y.rules.length)&&fF eE.same (x.rules.map dc.p) (y.rules.map dc.p)))):=by
  show (x.name.toList==y.name.toList&&(x.pos==y.pos&&(decide ((x.rules.map dc.p).length=(y.rules.map dc.p).length)&&_)))=_
  rw[List.length_map,List.length_map];rfl
 have ok:∀{J:cS},cS.le I J→x.Ok J ((b_a,Obj.cells #[.string x.name,.slice x.a x.rules.length x.c,.int .i64 x.pos] 88 (0,0))::(b_b,Obj.cells #[.string y.name,.slice y.a y.rules.length y.c,.int .i64 y.pos] 88 (0,0))::F)∧y.Ok J ((b_a,Obj.cells #[.string x.name,.slice x.a x.rules.length x.c,.int .i64 x.pos] 88 (0,0))::(b_b,Obj.cells #[.string y.name,.slice y.a y.rules.length y.c,.int .i64 y.pos] 88 (0,0))::F):=fun hl=>⟨(hx.mono hl fun _ h=>h).cons.cons,(hy.mono hl fun _ h=>h).cons.cons⟩
 refine⟨fun h1=>⟨?_,rfl⟩,fun h1=>⟨fun h2=>⟨?_,rfl⟩,fun h2=>⟨fun h3=>⟨?_,rfl⟩,fun h3=>⟨⟨_,rfl,by omega,by omega,rfl,ma h3, ?_⟩,fun q i m I1 F1 l1 ⟨gF,g0,g1,gm,gl,ge⟩=>?_⟩⟩⟩⟩
 ·rw[hdef,rE h1];rfl
 ·rw[hdef,AA h2];simp
 ·rw[hdef,qp h3];simp
 ·rw[hdef,rF h1,AB h2,decide_eq_true (ma h3)];rfl
 subst gF
 refine⟨fun hlt=>?_,fun hlt=>⟨?_,rfl⟩⟩
 ·have hlt:=of_decide_eq_true hlt
  obtain⟨ad,r,had,hr,hrd,hrm⟩:=kq.zB (ok l1).1.1 g0 hlt
  have hlt':i<(y.rules.length:Int):=by omega
  refine⟨⟨g0,hlt⟩,ad,had,_,_,_,_,_,_,_,_,_,_,_,_,_,_,hrd,fun b_x=>?_⟩
  obtain⟨ad',s,had',hs',hrd',hsm⟩:=kq.zB (((ok l1).2.1).mono (cS.le_refl I1) (H:=(b_a,Obj.cells #[.string x.name,.slice x.a x.rules.length x.c,.int .i64 x.pos] 88 (0,0))::(b_b,Obj.cells #[.string y.name,.slice y.a y.rules.length y.c,.int .i64 y.pos] 88 (0,0))::(b_x,Obj.cells #[.int .u8 r.when.kind,.int .u8 r.when.oper,.int .u8 r.when.dU,.int .i64 r.when.n,.int .u8 r.when.field,.string r.when.name,.slice r.when.a r.when.kids.length r.when.c,.int .i64 r.when.pos,.slice r.a r.dos.length r.c,.int .i64 r.pos] 110 (0,0))::F1) fun a ha=>by simp only[List.mem_cons] at ha ⊢;rcases ha with h | h | h<;>simp[h]) g0 hlt'
  refine⟨⟨g0,hlt'⟩,ad',had',_,_,_,_,_,_,_,_,_,_,_,_,_,_,hrd',fun b_y=>?_⟩
  have ok2:∀{J:cS},cS.le I1 J→r.Ok J ((b_a,Obj.cells #[.string x.name,.slice x.a x.rules.length x.c,.int .i64 x.pos] 88 (0,0))::(b_b,Obj.cells #[.string y.name,.slice y.a y.rules.length y.c,.int .i64 y.pos] 88 (0,0))::(b_x,Obj.cells #[.int .u8 r.when.kind,.int .u8 r.when.oper,.int .u8 r.when.dU,.int .i64 r.when.n,.int .u8 r.when.field,.string r.when.name,.slice r.when.a r.when.kids.length r.when.c,.int .i64 r.when.pos,.slice r.a r.dos.length r.c,.int .i64 r.pos] 110 (0,0))::(b_y,Obj.cells #[.int .u8 s.when.kind,.int .u8 s.when.oper,.int .u8 s.when.dU,.int .i64 s.when.n,.int .u8 s.when.field,.string s.when.name,.slice s.when.a s.when.kids.length s.when.c,.int .i64 s.when.pos,.slice s.a s.dos.length s.c,.int .i64 s.pos] 110 (0,0))::F1)∧s.Ok J ((b_a,Obj.cells #[.string x.name,.slice x.a x.rules.length x.c,.int .i64 x.pos] 88 (0,0))::(b_b,Obj.cells #[.string y.name,.slice y.a y.rules.length y.c,.int .i64 y.pos] 88 (0,0))::(b_x,Obj.cells #[.int .u8 r.when.kind,.int .u8 r.when.oper,.int .u8 r.when.dU,.int .i64 r.when.n,.int .u8 r.when.field,.string r.when.name,.slice r.when.a r.when.kids.length r.when.c,.int .i64 r.when.pos,.slice r.a r.dos.length r.c,.int .i64 r.pos] 110 (0,0))::(b_y,Obj.cells #[.int .u8 s.when.kind,.int .u8 s.when.oper,.int .u8 s.when.dU,.int .i64 s.when.n,.int .u8 s.when.field,.string s.when.name,.slice s.when.a s.when.kids.length s.when.c,.int .i64 s.when.pos,.slice s.a s.dos.length s.c,.int .i64 s.pos] 110 (0,0))::F1):=fun hl =>
   ⟨(hx.2 r hrm).mono (cS.le_trans l1 hl) fun a ha=>.tail _ (.tail _ (.tail _ (.tail _ ha))),(hy.2 s hsm).mono (cS.le_trans l1 hl) fun a ha=>.tail _ (.tail _ (.tail _ (.tail _ ha)))⟩
  have hst:fF eE.same ((x.rules.drop i.toNat).map dc.p) ((y.rules.drop i.toNat).map dc.p)=(r.p.same s.p&&fF eE.same ((x.rules.drop (i+1).toNat).map dc.p) ((y.rules.drop (i+1).toNat).map dc.p)):=by
   rw[jf hr hs',show (i+1).toNat=i.toNat+1 by omega]
  have hrs:r.p.same s.p=(r.when.px.same s.when.px&&(r.pos==s.pos&&(decide (r.dos.length=s.dos.length)&&fF jw.same (r.dos.map eJ.p) (s.dos.map eJ.p)))):=by
   show (r.when.px.same s.when.px&&(r.pos==s.pos&&(decide ((r.dos.map eJ.p).length=(s.dos.map eJ.p).length)&&_)))=_
   rw[List.length_map,List.length_map];rfl
  have hT:=ge.trans hst
  rw[hrs] at hT
  refine cU.ret (jW r.when (hru r hrm).1 s.when I1 _ (ok2 (cS.le_refl I1)).1.1 (ok2 (cS.le_refl I1)).2.1) fun I2 l2=>⟨_,rfl,F1,.refl _, ?_⟩
  refine⟨fun h1=>⟨?_,rfl⟩,fun h1=>⟨fun h2=>⟨?_,rfl⟩,fun h2=>⟨fun h3=>⟨?_,rfl⟩,fun h3=>⟨⟨_,rfl,r,s,hr,hs',by omega,by omega,rfl, ?_⟩,fun q1 k m3 I3 F3 l3 ⟨kF,r',s',hr',hs2,k0,k1,km,ke⟩=>?_⟩⟩⟩⟩
  ·rw[hT,rE h1];rfl
  ·rw[hT,AA h2];simp
  ·rw[hT,qp h3];simp
  ·rw[hT,rF h1,AB h2,decide_eq_true (ma h3)];rfl
  subst kF
  obtain rfl:r=r':=by rw[hr] at hr';exact Option.some.inj hr'
  obtain rfl:s=s':=by rw[hs'] at hs2;exact Option.some.inj hs2
  have hel:=ma h3
  have hrl:=hdl r hrm
  refine⟨fun hlt2=>?_,fun hlt2=>⟨(x.rules.length-(i+1)).toNat,by omega,rfl, ?_⟩⟩
  ·have hlt2:=of_decide_eq_true hlt2
   have l23:=cS.le_trans l2 l3
   obtain⟨ad2,d,had2,hd,hrd2,hdm⟩:=kq.zB (ok2 l23).1.2.1 k0 hlt2
   obtain⟨ad3,e,had3,he,hrd3,hem⟩:=kq.zB (ok2 l23).2.2.1 k0 (show k<(s.dos.length:Int) by omega)
   refine⟨⟨k0,hlt2⟩,ad2,had2,_,_,_,_,_,_,_,_,_,_,_,_,_,_,_,_,_,_,_,_,_,_,_,_,_,_,_,_,_,_,_,_,_,_,_,_,_,_,_,_,_,_,_,_,hrd2,⟨k0,by omega⟩,ad3,had3,_,_,_,_,_,_,_,_,_,_,_,_,_,_,_,_,_,_,_,_,_,_,_,_,_,_,_,_,_,_,_,_,_,_,_,_,_,_,_,_,_,_,_,_,hrd3,d.p.same e.p,cU.ret (yk d e ((hru r hrm).2.2 _ (List.mem_map_of_mem hdm)) I3 _ ((ok2 l23).1.2.2 d hdm) ((ok2 l23).2.2.2 e hem)) fun _ _=>⟨rfl,.refl _⟩,fun h=>⟨?_,rfl⟩,fun h=>⟨(r.dos.length-(k+1)).toNat,by omega,rfl,r,s,hr,hs', ?_⟩⟩
   ·rw[ke,jf hd he,rE h];rfl
   ·rw[ew (n:=k+1) (by omega)]
    refine⟨by omega,by omega,rfl, ?_⟩
    rw[ke,jf hd he,rF h,show (k+1).toNat=k.toNat+1 by omega];rfl
  ·have hlt2:=of_decide_eq_false hlt2
   rw[ew (n:=i+1) (by omega)]
   refine⟨by omega,by omega,rfl,gl, ?_⟩
   rw[ke,mv (by omega)];rfl
 ·have hlt:=of_decide_eq_false hlt
  rw[ge,mv (by omega)]
theorem zL:P.underlying 106=some (.struct (P.fieldsOf 106)):=by kernel_rfl
theorem zM:P.stoodInHeld 106=false:=by kernel_rfl
theorem zN:P.eqGuardType P.depth 106=false:=by kernel_rfl
theorem BK(a:ByteArray)(p:Int)(b:ByteArray)(q:Int):tf P #[.string a,.int .i64 p] #[.string b,.int .i64 q] (P.fieldsOf 106).toList=some (a.toList==b.toList&&(p==q&&true)):=by kernel_rfl
theorem CU(r q:dp){x y:Operand}:eA P .neq 106 x y (.agg #[.string r.name,.int .i64 r.pos]) (.agg #[.string q.name,.int .i64 q.pos]) (!r.same q):=zi zL zM zN (BK ..)
theorem wH(s u:dV)(hs:s.p.dj)(I:cS)(F:cR)(hx:s.Ok I F)(hy:u.Ok I F):cU P 13 #[s.v,u.v] I F (kL (.bool (s.p.same u.p)) F):=by
 have lr:=hs.regs
 have ls:=hs.slots
 have lt:=hs.states
 simp only[dV.p,List.length_map] at lr ls lt
 have hnm:∀r∈s.regs,r.p.dj:=fun r hr=>hs.kM _ (List.mem_map_of_mem hr)
 have hst:∀x∈s.states,x.p.dj:=fun x hx=>hs.state _ (List.mem_map_of_mem hx)
 refine gy.vc
  (fun q i m I' F'=>F'=F∧0≤i∧i≤s.regs.length∧m=(s.regs.length-i).toNat∧cS.le I I'∧(s.regs.length=u.regs.length∧s.slots.length=u.slots.length∧s.states.length=u.states.length) ∧
    s.p.same u.p=(fF fp.same ((s.regs.drop i.toNat).map dw.p) ((u.regs.drop i.toNat).map dw.p)&&(fF dp.same s.slots u.slots&&fF dF.same (s.states.map cZ.p) (u.states.map cZ.p))))
  (fun q i m I' F'=>F'=F∧0≤i∧i≤s.slots.length∧m=(s.slots.length-i).toNat∧cS.le I I'∧(s.regs.length=u.regs.length∧s.slots.length=u.slots.length∧s.states.length=u.states.length) ∧
    s.p.same u.p=(fF dp.same ((s.slots.drop i.toNat).map id) ((u.slots.drop i.toNat).map id)&&fF dF.same (s.states.map cZ.p) (u.states.map cZ.p)))
  (fun q i m I' F'=>F'=F∧0≤i∧i≤s.states.length∧m=(s.states.length-i).toNat∧cS.le I I'∧(s.regs.length=u.regs.length∧s.slots.length=u.slots.length∧s.states.length=u.states.length) ∧
    s.p.same u.p=fF dF.same ((s.states.drop i.toNat).map cZ.p) ((u.states.drop i.toNat).map cZ.p)) ?_
 unfold gy.V
 intro b_a b_b
 have hdef:s.p.same u.p=(s.name.toList==u.name.toList&&(decide (s.regs.length=u.regs.length)&&(decide (s.slots.length=u.slots.length)&&(decide (s.states.length=u.states.length) &&
   (fF fp.same (s.regs.map dw.p) (u.regs.map dw.p)&&(fF dp.same s.slots u.slots&&fF dF.same (s.states.map cZ.p) (u.states.map cZ.p))))))):=by
  show (s.name.toList==u.name.toList&&(decide ((s.regs.map dw.p).length=(u.regs.map dw.p).length)&&(decide (s.slots.length=u.slots.length)&&(decide ((s.states.map cZ.p).length=(u.states.map cZ.p).length)&&_))))=_
  rw[List.length_map,List.length_map,List.length_map,List.length_map];rfl
 have ok:∀{J:cS},cS.le I J→s.Ok J ((b_a,Obj.cells #[.string s.name,.slice s.ra s.regs.length s.rc,.slice s.sa s.slots.length s.sc,.slice s.ta s.states.length s.tc] 43 (0,0))::(b_b,Obj.cells #[.string u.name,.slice u.ra u.regs.length u.rc,.slice u.sa u.slots.length u.sc,.slice u.ta u.states.length u.tc] 43 (0,0))::F)∧u.Ok J ((b_a,Obj.cells #[.string s.name,.slice s.ra s.regs.length s.rc,.slice s.sa s.slots.length s.sc,.slice s.ta s.states.length s.tc] 43 (0,0))::(b_b,Obj.cells #[.string u.name,.slice u.ra u.regs.length u.rc,.slice u.sa u.slots.length u.sc,.slice u.ta u.states.length u.tc] 43 (0,0))::F):=fun hl=>⟨(hx.mono hl fun _ h=>h).cons.cons,(hy.mono hl fun _ h=>h).cons.cons⟩
 refine⟨fun h1=>⟨?_,rfl⟩,fun h1=>⟨fun h2=>⟨?_,rfl⟩,fun h2=>⟨fun h3=>⟨?_,rfl⟩,fun h3=>⟨fun h4=>⟨?_,rfl⟩,fun h4=>⟨⟨_,rfl,by omega,by omega,rfl,cS.le_refl I,⟨ma h2,ma h3,ma h4⟩, ?_⟩,fun q i m I1 F1 _ ⟨gF,g0,g1,gm,l1,gl,ge⟩=>?_⟩⟩⟩⟩⟩
 ·rw[hdef,rE h1];rfl
 ·rw[hdef,qp h2];simp
 ·rw[hdef,qp h3];simp
 ·rw[hdef,qp h4];simp
 ·rw[hdef,rF h1,decide_eq_true (ma h2),decide_eq_true (ma h3),decide_eq_true (ma h4)];rfl
 subst gF
 obtain⟨gl1,gl2,gl3⟩:=gl
 refine⟨fun hlt=>?_,fun hlt=>⟨⟨_,rfl,by omega,by omega,rfl,l1,⟨gl1,gl2,gl3⟩, ?_⟩,fun q i m I3 F3 _ ⟨gF,g0,g1,gm,l3,gl,ge⟩=>?_⟩⟩
 ·have hlt:=of_decide_eq_true hlt
  obtain⟨ad,r,had,hr,hrd,hrm⟩:=kq.zB (ok l1).1.regs g0 hlt
  have hlt':i<(u.regs.length:Int):=by omega
  refine⟨⟨g0,hlt⟩,ad,had,_,_,_,_,_,_,_,_,_,_,_,_,_,hrd,fun b_x=>?_⟩
  obtain⟨ad',q',had',hq,hrd',hqm⟩:=kq.zB (((ok l1).2.regs).mono (cS.le_refl I1) (H:=(b_a,Obj.cells #[.string s.name,.slice s.ra s.regs.length s.rc,.slice s.sa s.slots.length s.sc,.slice s.ta s.states.length s.tc] 43 (0,0))::(b_b,Obj.cells #[.string u.name,.slice u.ra u.regs.length u.rc,.slice u.sa u.slots.length u.sc,.slice u.ta u.states.length u.tc] 43 (0,0))::(b_x,Obj.cells #[.string r.name,.int .u8 r.dU,.int .u8 r.init.kind,.int .u8 r.init.oper,.int .u8 r.init.dU,.int .i64 r.init.n,.int .u8 r.init.field,.string r.init.name,.slice r.init.a r.init.kids.length r.init.c,.int .i64 r.init.pos,.int .i64 r.pos] 104 (0,0))::F1) fun a ha=>by simp only[List.mem_cons] at ha ⊢;rcases ha with h | h | h<;>simp[h]) g0 hlt'
  refine⟨⟨g0,hlt'⟩,ad',had',_,_,_,_,_,_,_,_,_,_,_,_,_,hrd',fun b_y=>?_⟩
  have sub4:∀a,a∈F1→a∈((b_a,Obj.cells #[.string s.name,.slice s.ra s.regs.length s.rc,.slice s.sa s.slots.length s.sc,.slice s.ta s.states.length s.tc] 43 (0,0))::(b_b,Obj.cells #[.string u.name,.slice u.ra u.regs.length u.rc,.slice u.sa u.slots.length u.sc,.slice u.ta u.states.length u.tc] 43 (0,0))::(b_x,Obj.cells #[.string r.name,.int .u8 r.dU,.int .u8 r.init.kind,.int .u8 r.init.oper,.int .u8 r.init.dU,.int .i64 r.init.n,.int .u8 r.init.field,.string r.init.name,.slice r.init.a r.init.kids.length r.init.c,.int .i64 r.init.pos,.int .i64 r.pos] 104 (0,0))::(b_y,Obj.cells #[.string q'.name,.int .u8 q'.dU,.int .u8 q'.init.kind,.int .u8 q'.init.oper,.int .u8 q'.init.dU,.int .i64 q'.init.n,.int .u8 q'.init.field,.string q'.init.name,.slice q'.init.a q'.init.kids.length q'.init.c,.int .i64 q'.init.pos,.int .i64 q'.pos] 104 (0,0))::F1):=fun a ha=>.tail _ (.tail _ (.tail _ (.tail _ ha)))
  have hT:=ge
  rw[jf hr hq] at hT
  have hrs:r.p.same q'.p=(r.init.px.same q'.init.px&&(r.name.toList==q'.name.toList&&(r.dU==q'.dU&&r.pos==q'.pos))):=rfl
  rw[hrs] at hT
  refine cU.ret (jW r.init (hnm r hrm).2 q'.init I1 _ ((hx.kM r hrm).mono l1 sub4) ((hy.kM q' hqm).mono l1 sub4)) fun I2 l2=>⟨_,rfl,F1,.refl _, ?_⟩
  refine⟨fun h1=>⟨?_,rfl⟩,fun h1=>⟨fun h2=>⟨?_,rfl⟩,fun h2=>⟨fun h3=>⟨?_,rfl⟩,fun h3=>⟨fun h4=>⟨?_,rfl⟩,fun h4=>⟨(s.regs.length-(i+1)).toNat,by omega,rfl, ?_⟩⟩⟩⟩⟩
  ·rw[hT,rE h1];rfl
  ·rw[hT,rE h2];simp
  ·rw[hT,AA h3];simp
  ·rw[hT,AA h4];simp
  ·rw[ew (n:=i+1) (by omega)]
   refine⟨by omega,by omega,rfl,cS.le_trans l1 l2,⟨gl1,gl2,gl3⟩, ?_⟩
   rw[hT,rF h1,rF h2,AB h3,AB h4,show (i+1).toNat=i.toNat+1 by omega];rfl
 ·have hlt:=of_decide_eq_false hlt
  rw[ge,mv (by omega)]
  simp only[Bool.true_and]
  show _=(fF dp.same (s.slots.map id) (u.slots.map id)&&_)
  rw[List.map_id,List.map_id]
 subst gF
 obtain⟨gl1,gl2,gl3⟩:=gl
 refine⟨fun hlt=>?_,fun hlt=>⟨⟨_,rfl,by omega,by omega,rfl,l3,⟨gl1,gl2,gl3⟩, ?_⟩,fun q i m I4 F4 _ ⟨gF,g0,g1,gm,l4,gl,ge⟩=>?_⟩⟩
 ·have hlt:=of_decide_eq_true hlt
  obtain⟨ad,r,had,hr,hrd,hrm⟩:=kq.zB (ok l3).1.slots g0 hlt
  have hlt':i<(u.slots.length:Int):=by omega
  obtain⟨ad',q',had',hq,hrd',hqm⟩:=kq.zB (ok l3).2.slots g0 hlt'
  have hT:=ge
  rw[jf hr hq] at hT
  refine⟨⟨g0,hlt⟩,ad,had,_,_,hrd,⟨g0,hlt'⟩,ad',had',_,_,hrd',_,CU r q',fun h=>⟨?_,rfl⟩,fun h=>⟨(s.slots.length-(i+1)).toNat,by omega,rfl, ?_⟩⟩
  ·rw[hT]
   show Ending.returned (.bool false)=.returned (.bool ((r.same q'&&_)&&_))
   rw[rE h];rfl
  ·rw[ew (n:=i+1) (by omega)]
   refine⟨by omega,by omega,rfl,l3,⟨gl1,gl2,gl3⟩, ?_⟩
   rw[hT,show (i+1).toNat=i.toNat+1 by omega]
   show ((r.same q'&&_)&&_)=_
   rw[rF h];rfl
 ·have hlt:=of_decide_eq_false hlt
  rw[ge,mv (by omega)];rfl
 subst gF
 obtain⟨gl1,gl2,gl3⟩:=gl
 refine⟨fun hlt=>?_,fun hlt=>⟨?_,rfl⟩⟩
 ·have hlt:=of_decide_eq_true hlt
  obtain⟨ad,x,had,hx',hrd,hxm⟩:=kq.zB (ok l4).1.states g0 hlt
  have hlt':i<(u.states.length:Int):=by omega
  obtain⟨ad',y,had',hy',hrd',hym⟩:=kq.zB (ok l4).2.states g0 hlt'
  refine⟨⟨g0,hlt⟩,ad,had,_,_,_,_,_,hrd,⟨g0,hlt'⟩,ad',had',_,_,_,_,_,hrd',x.p.same y.p,cU.ret (ub x y (hst x hxm) I4 _ ((ok l4).1.state x hxm) ((ok l4).2.state y hym)) fun _ _=>⟨rfl,.refl _⟩,fun h=>⟨?_,rfl⟩,fun h=>⟨(s.states.length-(i+1)).toNat,by omega,rfl, ?_⟩⟩
  ·rw[ge,jf hx' hy',rE h];rfl
  ·rw[ew (n:=i+1) (by omega)]
   refine⟨by omega,by omega,rfl,l4,⟨gl1,gl2,gl3⟩, ?_⟩
   rw[ge,jf hx' hy',rF h,show (i+1).toNat=i.toNat+1 by omega];rfl
 ·have hlt:=of_decide_eq_false hlt
  rw[ge,mv (by omega)]
def Gm(z n:Nat)(a:Option Addr)(c:Nat)(A:cR):Prop :=
 ∃b cells e,a=some ⟨b,0,none⟩∧A=[(b,Obj.cells cells e (0,0))]∧c=n+2∧cells[n*z+(z-1)]? = some (.int .i64 (-771))
def ng{α:Type}(R:Bool)(z:Nat)(f:α→List Value)(E:Nat)(O:α→cR→Prop)(a:Option Addr)(n c:Nat)(l:List α)(H:cR):Prop :=
 ∃A hs,H=A++dH n hs∧Acc z f E a n c l A∧(R=true→Gm z n a c A)∧∀(i:Nat) (k:α),l[i]? = some k→O k (hs i)
def jt(R:Bool)(d:eJ)(H:cR):Prop:=∃H1 H2 H3 H4,H=H1++(H2++(H3++H4))∧eo 64 R d.side H1∧eo 64 R d.qty H2∧eo 64 R d.price H3∧eo 64 R d.value H4
def pI(R:Bool)(r:dw)(H:cR):Prop:=eo 64 R r.init H
def wI(r:dp)(H:cR):Prop:=H=[]
def kz(R:Bool)(r:dc)(H:cR):Prop:=∃H1 H2,H=H1++H2∧eo 64 R r.when H1∧ng R 36 eJ.enc 114 (jt R) r.a r.dos.length r.c r.dos H2
def iO(R:Bool)(x:cZ)(H:cR):Prop:=ng R 10 dc.enc 110 (kz R) x.a x.rules.length x.c x.rules H
def nT(R:Bool)(s:dV)(H:cR):Prop:=∃H1 H2 H3,H=H1++(H2++H3)∧ng R 11 dw.enc 104 (pI R) s.ra s.regs.length s.rc s.regs H1∧ng R 2 dp.enc 106 wI s.sa s.slots.length s.sc s.slots H2 ∧
 ng R 3 cZ.enc 88 (iO R) s.ta s.states.length s.tc s.states H3
theorem ng.ok{α:Type}{R:Bool}{z E n c:Nat}{f:α→List Value}{O:α→cR→Prop}{a:Option Addr}{l:List α}{H:cR}(h:ng R z f E O a n c l H)(hz:∀x,(f x).length=z){I:cS}{G:cR}{K:α→Prop}(hG:∀x,x∈H→x∈G)
  (hk:∀x H',O x H'→(∀y,y∈H'→y∈G)→K x):kq I G z f a n l∧∀x∈l,K x:=by
 obtain⟨A,hs,rfl,hA, -,hO⟩:=h
 refine⟨hA.B0 hz I fun x hx=>hG x (List.mem_append_left _ hx),fun x hx=>?_⟩
 obtain⟨i,hi,rfl⟩:=List.mem_iff_getElem.1 hx
 have hn:=hA.1
 exact hk _ _ (hO i _ (List.getElem?_eq_getElem hi)) fun y hy=>hG y (List.mem_append_right _ (vq (by omega) hy))
theorem jt.ok{R:Bool}{d:eJ}{H:cR}(h:jt R d H){I:cS}{G:cR}(hG:∀x,x∈H→x∈G):d.Ok I G:=by
 obtain⟨H1,H2,H3,H4,rfl,h1,h2,h3,h4⟩:=h
 simp only[List.mem_append] at hG
 exact⟨h1.ok fun x hx=>hG x (.inl hx),h2.ok fun x hx=>hG x (.inr (.inl hx)),h3.ok fun x hx=>hG x (.inr (.inr (.inl hx))),h4.ok fun x hx=>hG x (.inr (.inr (.inr hx)))⟩
theorem pI.ok{R:Bool}{d:dw}{H:cR}(h:pI R d H){I:cS}{G:cR}(hG:∀x,x∈H→x∈G):d.Ok I G:=eo.ok h hG
theorem kz.ok{R:Bool}{r:dc}{H:cR}(h:kz R r H){I:cS}{G:cR}(hG:∀x,x∈H→x∈G):r.Ok I G:=by
 obtain⟨H1,H2,rfl,h1,h2⟩:=h
 obtain⟨g1,g2⟩:=h2.ok (I:=I) (G:=G) (K:=fun d=>d.Ok I G) (fun _=>rfl) (fun x hx=>hG x (List.mem_append_right _ hx)) fun x H' hO hs=>jt.ok hO hs
 exact⟨h1.ok fun x hx=>hG x (List.mem_append_left _ hx),g1,g2⟩
theorem iO.ok{R:Bool}{r:cZ}{H:cR}(h:iO R r H){I:cS}{G:cR}(hG:∀x,x∈H→x∈G):r.Ok I G :=
 ng.ok h (fun _=>rfl) hG fun x H' hO hs=>kz.ok hO hs
theorem nT.ok{R:Bool}{s:dV}{H:cR}(h:nT R s H){I:cS}{G:cR}(hG:∀x,x∈H→x∈G):s.Ok I G:=by
 obtain⟨H1,H2,H3,rfl,h1,h2,h3⟩:=h
 simp only[List.mem_append] at hG
 obtain⟨a1,a2⟩:=h1.ok (I:=I) (G:=G) (K:=fun d=>d.Ok I G) (fun _=>rfl) (fun x hx=>hG x (.inl hx)) fun x H' hO hs=>pI.ok hO hs
 obtain⟨b1, -⟩:=h2.ok (I:=I) (G:=G) (K:=fun d=>True) (fun _=>rfl) (fun x hx=>hG x (.inr (.inl hx))) fun x H' hO hs=>trivial
 obtain⟨c1,c2⟩:=h3.ok (I:=I) (G:=G) (K:=fun d=>d.Ok I G) (fun _=>rfl) (fun x hx=>hG x (.inr (.inr hx))) fun x H' hO hs=>iO.ok hO hs
 exact⟨a1,a2,b1,c1,c2⟩
def Part{α:Type}(z:Nat)(f:α→List Value)(E:Nat)(O:α→cR→Prop)(a:Option Addr)(n c:Nat)(l:List α)(F F':cR):Prop :=
 ∃A hs,Acc z f E a n c l A∧(∀(i:Nat) (k:α),l[i]? = some k→O k (hs i))∧F'.Perm (A++(dH l.length hs++F))
theorem Part.nil{α:Type}{z E:Nat}{f:α→List Value}{O:α→cR→Prop}{F:cR}:Part z f E O none 0 0 ([]:List α) F F:=⟨[],fun _=>[],Acc.nil,fun i k h=>by simp at h,.refl _⟩
theorem BL{α:Type}{z E n c:Nat}{f:α→List Value}{O:α→cR→Prop}{a:Option Addr}{l:List α}{F:cR}{hs:Nat→cR}{x:α}{Hx A' G:cR}(hA':Acc z f E a n c (l++[x]) A')(hk:∀(i:Nat) (k:α),l[i]? = some k→O k (hs i))(hx:O x Hx)
  (hG:G.Perm (A'++(Hx++(dH l.length hs++F)))):Part z f E O a n c (l++[x]) F G:=by
 refine⟨A',fun j=>if j<l.length then hs j else Hx,hA',fun j k hj=>?_, ?_⟩
 ·show O k (if j<l.length then hs j else Hx)
  rw[List.getElem?_append] at hj
  split at hj
  ·rename_i hlt';rw[if_pos hlt'];exact hk j k hj
  ·rename_i hge
   have hj':=List.mem_of_getElem? hj
   rw[List.mem_singleton] at hj'
   rw[if_neg hge,hj'];exact hx
 ·rw[List.length_append,List.length_singleton,pA,if_neg (Nat.lt_irrefl _),xU (hs':=hs) fun j hj=>if_pos hj]
  exact hG.trans (cV fun z=>by simp only[cX];omega)
theorem kN{P:Program}{α:Type}{z:Nat}{f:α→List Value}(hz:∀x,(f x).length=z){t ty e:TypeId}{zv:Value}{by':Nat}(ht:P.underlying t=some (.slice e))(hi:(P.info? e).map (fun i=>(i.zero,i.size,i.bytes))=some (some zv,z,by'))(hzs:zv.cells.size=z)(hb:1≤by')
  {a:Option Addr} {n c:Nat} {l:List α} {O:α→cR→Prop} {F F1 F2 R0 Hx:cR} {x:α} (h:Part z f e O a n c l F F1) (h1:∀u∈f x,u.oneCell'=true) {b:Nat} {I:cS} {o:Obj} (ho:o=.cells (f x).toArray e (0,0)) (hbm:I b=some o)
  (hx:O x Hx) (hF2:F2.Perm (R0++(Hx++F1))) (hfit:(l.length+1)*by'≤140737488355328) :
  dk P (Builtin.append_ #[t,t] ty #[.slice a n c,.slice (some ⟨b,0,none⟩) 1 1]) I F2 fun v I' G=>∃a' n' c',v=.slice a' n' c'∧∃F3,G.Perm (R0++F3)∧Part z f e O a' n' c' (l++[x]) F F3:=by
 obtain⟨A,hs,hA,hk,hp⟩:=h
 subst ho
 refine dk.perm (dk.mono (eG hz ht hi hzs hb hA (xs:=[x]) (fun y hy=>by rw[List.mem_singleton] at hy;rw[hy];exact h1) (by simp) rfl ?_ (by simpa using hfit) (F:=R0++(Hx++(dH l.length hs++F)))) fun v I2 G hI2 ⟨a',n',c',A',hv,hA',hG',_⟩=>?_) ?_
 ·refine⟨rfl,_,_,_,.inl hbm,fun j hj=>?_⟩
  simp
 ·subst hG'
  exact⟨a',n',c',hv,A'++(Hx++(dH l.length hs++F)),cV fun z=>by simp only[cX];omega,BL hA' hk hx (.refl _)⟩
 ·refine hF2.trans ?_
  exact cV fun z=>by have:=gg hp z;simp only[cX] at this ⊢;omega
def AD:Row:=⟨none,0,0⟩
theorem Bd.app{z:Nat}{ls ms:List (List (Ck z))}(h:Bd ls)(h':Bd ms):Bd (ls++ms):=by
 intro j y hy
 rw[List.getElem?_append] at hy
 split at hy
 ·exact h j y hy
 ·exact h' _ y hy
end Go.Lx
