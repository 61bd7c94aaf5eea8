import Derived.Test.YtdhcodphiofhjaaDoorParseBracketsB2
set_option linter.unusedVariables false
set_option linter.unusedSimpArgs false
set_option linter.unusedSectionVars false
set_option maxRecDepth 100000
namespace Go.Lx
open Go.Vc
structure PF where
 e:Int
 pos:Int
 tok:Bool
structure PS where
 next:Nat
 f:PF
structure PC where
 l:List Tok
 bad:Int
 pos:Int
def dZ:Px:=.mk 0 0 0 0 0 ⟨#[]⟩ [] 0
def PS.over(s:PS):Bool:=s.f.e != 0
def PS.inc(s:PS):PS:=⟨s.next+1,s.f⟩
section
variable (c:PC)
def PC.tok(i:Nat):Tok:=(c.l[i]?).getD (gC 0)
def PC.now(s:PS):Tok:=if s.over||decide (c.l.length≤s.next) then gC 0 else c.tok s.next
def PC.cV(e:Int)(s:PS):PS:=if s.over then s else if c.l.length≤s.next then ⟨s.next,⟨c.bad,c.pos,true⟩⟩ else ⟨s.next,⟨e,(c.tok s.next).pos,false⟩⟩
def PC.dH(w:ByteArray)(s:PS):Bool:=(c.now s).text.toList==w.toList&&((c.now s).kind==1||(c.now s).kind==4)
def PC.fe(s:PS):List ByteArray→Int→Int
 | [],_=>-1
 | w::r,i=>if c.dH w s then i else PC.fe s r (i+1)
def PC.any(ws:List ByteArray)(s:PS):Int:=c.fe s ws 0
def PC.take(w:ByteArray)(s:PS):Int×PS:=if c.dH w s then ((c.now s).pos,s.inc) else (0,c.cV 130 s)
def PC.name(s:PS):ByteArray×PS:=if (c.now s).kind=2 then ((c.now s).text,s.inc) else (⟨#[]⟩,c.cV 130 s)
def PC.cT(d:Int)(s:PS):PS:=if 24<d+1 then c.cV 132 s else s
def nP(dU n pos:Int):Px:=.mk 1 0 dU n 0 ⟨#[]⟩ [] pos
def PC.literal(s:PS):(Px×Bool)×PS :=
 if (c.now s).kind=3 then ((nP (c.now s).dU (c.now s).n (c.now s).pos,true),s.inc)
 else if (c.now s).kind=1∧((c.now s).text.toList=(⟨#[116,114,117,101]⟩:ByteArray).toList∨(c.now s).text.toList=(⟨#[102,97,108,115,101]⟩:ByteArray).toList) then ((nP 5 (if (c.now s).text.toList=(⟨#[116,114,117,101]⟩:ByteArray).toList then 1 else 0) (c.now s).pos,true),s.inc)
 else if (c.now s).kind=1∧((c.now s).text.toList=(⟨#[98,117,121]⟩:ByteArray).toList∨(c.now s).text.toList=(⟨#[115,101,108,108]⟩:ByteArray).toList) then ((nP 6 (if (c.now s).text.toList=(⟨#[115,101,108,108]⟩:ByteArray).toList then 2 else 1) (c.now s).pos,true),s.inc)
 else ((dZ,false),s)
structure Lv where
 ex:PS→Px×PS
 un:PS→Px×PS
def PC.dv(nx:Lv):Nat→Bool→PS→List Px×PS
 | 0,_,s=>([],s)
 | n+1,first,s =>
   let r:=nx.ex (if first then s else (c.take (⟨#[44]⟩:ByteArray) s).2)
   let q:=PC.dv nx n false r.2
   (r.1::q.1,q.2)
def PC.call(nx:Lv)(d:Int)(kind oper dU pos:Int)(many:Nat)(s:PS):Px×PS :=
 if (c.cT d s).over then (dZ,c.cT d s)
 else
  let q:=c.dv nx many true (c.take (⟨#[40]⟩:ByteArray) (c.cT d s).inc).2
  (.mk kind oper dU 0 0 ⟨#[]⟩ q.1 pos,(c.take (⟨#[41]⟩:ByteArray) q.2).2)
def PC.rest(nx:Lv)(d:Int)(s:PS):Px×PS :=
 if c.dH (⟨#[104,97,115]⟩:ByteArray) s then
  if c.any [(⟨#[98,105,100]⟩:ByteArray),(⟨#[97,115,107]⟩:ByteArray),(⟨#[108,97,115,116]⟩:ByteArray)] s.inc<0 then (dZ,c.cV 130 s.inc) else (.mk 4 0 0 0 (c.any [(⟨#[98,105,100]⟩:ByteArray),(⟨#[97,115,107]⟩:ByteArray),(⟨#[108,97,115,116]⟩:ByteArray)] s.inc+1) ⟨#[]⟩ [] (c.now s).pos,s.inc.inc)
 else if c.dH (⟨#[40]⟩:ByteArray) s then
  if (c.cT d s).over then (dZ,c.cT d s)
  else
   let r:=nx.ex (c.cT d s).inc
   (r.1,(c.take (⟨#[41]⟩:ByteArray) r.2).2)
 else (dZ,c.cV 130 s)
def ia:List ByteArray:=[(⟨#[98,105,100]⟩:ByteArray),(⟨#[97,115,107]⟩:ByteArray),(⟨#[108,97,115,116]⟩:ByteArray),(⟨#[118,111,108,117,109,101]⟩:ByteArray),(⟨#[110,111,119]⟩:ByteArray),(⟨#[111,112,101,110]⟩:ByteArray)]
def fM:List ByteArray:=[(⟨#[97,98,115]⟩:ByteArray),(⟨#[109,105,110]⟩:ByteArray),(⟨#[109,97,120]⟩:ByteArray)]
def iL:List ByteArray:=[(⟨#[105,110,116]⟩:ByteArray),(⟨#[113,116,121]⟩:ByteArray),(⟨#[112,114,105,99,101]⟩:ByteArray),(⟨#[116,105,109,101]⟩:ByteArray)]
def PC.one(nx:Lv)(d:Int)(s:PS):Px×PS :=
 if (c.literal s).1.2 then ((c.literal s).1.1,(c.literal s).2)
 else if (c.now s).kind=2 then (.mk 2 0 0 0 0 (c.now s).text [] (c.now s).pos,s.inc)
 else if 0≤c.any ia s then (.mk 3 0 0 0 (c.any ia s+1) ⟨#[]⟩ [] (c.now s).pos,s.inc)
 else if 0≤c.any fM s then c.call nx d 8 (3+c.any fM s) 0 (c.now s).pos (if c.any fM s=0 then 1 else 2) s
 else if 0≤c.any iL s then c.call nx d 9 0 (1+c.any iL s) (c.now s).pos 1 s
 else c.rest nx d s
def jw:List ByteArray:=[(⟨#[45]⟩:ByteArray),(⟨#[33]⟩:ByteArray)]
def PC.unary(nx:Lv)(d:Int)(s:PS):Px×PS :=
 if c.any jw s<0 then c.one nx d s
 else if (c.cT d s).over then (dZ,c.cT d s)
 else
  let r:=nx.un (c.cT d s).inc
  (.mk 5 (1+c.any jw s) 0 0 0 ⟨#[]⟩ [r.1] (c.now (c.cT d s)).pos,r.2)
def ib(o pos:Int)(a b:Px):Px:=.mk 6 o 0 0 0 ⟨#[]⟩ [a,b] pos
def PC.dA(ws:List ByteArray)(o:Int)(sub:PS→Px×PS):Nat→Px→PS→Px×PS
 | 0,n,s=>(n,s)
 | m+1,n,s=>if c.any ws s<0 then (n,s) else
   let k:=sub s.inc
   PC.dA ws o sub m (ib (o+c.any ws s) (c.now s).pos n k.1) k.2
def PC.loop(ws:List ByteArray)(o:Int)(sub:PS→Px×PS)(s:PS):Px×PS:=c.dA ws o sub c.l.length (sub s).1 (sub s).2
def zq:List ByteArray:=[(⟨#[42]⟩:ByteArray),(⟨#[47]⟩:ByteArray),(⟨#[37]⟩:ByteArray)]
def AF:List ByteArray:=[(⟨#[43]⟩:ByteArray),(⟨#[45]⟩:ByteArray)]
def gY:List ByteArray:=[(⟨#[61,61]⟩:ByteArray),(⟨#[33,61]⟩:ByteArray),(⟨#[60]⟩:ByteArray),(⟨#[60,61]⟩:ByteArray),(⟨#[62]⟩:ByteArray),(⟨#[62,61]⟩:ByteArray)]
def AG:List ByteArray:=[(⟨#[38,38]⟩:ByteArray)]
def Cv:List ByteArray:=[(⟨#[124,124]⟩:ByteArray)]
def PC.product(nx:Lv)(d:Int)(s:PS):Px×PS:=c.loop zq 8 (c.unary nx d) s
def PC.sum(nx:Lv)(d:Int)(s:PS):Px×PS:=c.loop AF 6 (c.product nx d) s
def PC.compare(nx:Lv)(d:Int)(s:PS):Px×PS :=
 let n:=c.sum nx d s
 if c.any gY n.2<0 then n else
  let k:=c.sum nx d n.2.inc
  (ib (11+c.any gY n.2) (c.now n.2).pos n.1 k.1,k.2)
def PC.and(nx:Lv)(d:Int)(s:PS):Px×PS:=c.loop AG 17 (c.compare nx d) s
def PC.or(nx:Lv)(d:Int)(s:PS):Px×PS:=c.loop Cv 18 (c.and nx d) s
def PC.expr(nx:Lv)(d:Int)(s:PS):Px×PS :=
 let n:=c.or nx d s
 if c.dH (⟨#[63]⟩:ByteArray) n.2 then
  if (c.cT d n.2).over then (dZ,c.cT d n.2)
  else
   let a:=nx.ex (c.cT d n.2).inc
   let b:=nx.ex (c.take (⟨#[58]⟩:ByteArray) a.2).2
   (.mk 7 0 0 0 0 ⟨#[]⟩ [n.1,a.1,b.1] (c.now (c.cT d n.2)).pos,b.2)
 else n
def PC.lv(nx:Lv)(d:Int):Lv:=⟨c.expr nx d,c.unary nx d⟩
def PC.lvl:Nat→Int→Lv
 | 0,d=>c.lv ⟨fun s=>(dZ,s),fun s=>(dZ,s)⟩ d
 | k+1,d=>c.lv (PC.lvl k (d+1)) d
def PC.dC(s:PS):Px×PS:=(c.lvl 24 0).ex s
def iv:List ByteArray:=[(⟨#[105,110,116]⟩:ByteArray),(⟨#[113,116,121]⟩:ByteArray),(⟨#[112,114,105,99,101]⟩:ByteArray),(⟨#[116,105,109,101]⟩:ByteArray),(⟨#[98,111,111,108]⟩:ByteArray),(⟨#[115,105,100,101]⟩:ByteArray)]
def PC.jT(nm:ByteArray)(t pos pos2:Int)(minus:Bool)(n:Px)(s:PS):eY×PS:=(⟨nm,t,if minus then .mk 5 1 0 0 0 ⟨#[]⟩ [n] pos2 else n,pos⟩,(c.take (⟨#[59]⟩:ByteArray) s).2)
def PC.ic(nm:ByteArray)(t pos pos2:Int)(minus:Bool)(s:PS):eY×PS :=
 if minus=true∧(c.now s).kind≠3 then (⟨nm,t,dZ,pos⟩,c.cV 130 s) else c.jT nm t pos pos2 minus (c.literal s).1.1 (if (c.literal s).1.2 then (c.literal s).2 else c.cV 130 (c.literal s).2)
def PC.iD(nm:ByteArray)(t pos:Int)(s:PS):eY×PS:=c.ic nm t pos (c.now s).pos (c.dH (⟨#[45]⟩:ByteArray) s) (if c.dH (⟨#[45]⟩:ByteArray) s then s.inc else s)
def PC.iM(nm:ByteArray)(pos:Int)(s:PS):eY×PS:=if c.any iv s<0 then (⟨nm,0,dZ,pos⟩,c.cV 130 s) else c.iD nm (1+c.any iv s) pos (c.take (⟨#[61]⟩:ByteArray) s.inc).2
def PC.mb(s:PS):eY×PS:=c.iM (c.name (c.take (⟨#[114,101,103]⟩:ByteArray) s).2).1 (c.take (⟨#[114,101,103]⟩:ByteArray) s).1 (c.name (c.take (⟨#[114,101,103]⟩:ByteArray) s).2).2
def fD:List ByteArray:=[(⟨#[108,105,109,105,116]⟩:ByteArray),(⟨#[105,111,99]⟩:ByteArray),(⟨#[102,111,107]⟩:ByteArray),(⟨#[112,111,115,116]⟩:ByteArray)]
def PC.dS(s:PS):ByteArray×PS:=if c.dH (⟨#[97,115]⟩:ByteArray) s then c.name s.inc else (⟨#[]⟩,s)
def PC.iU(x y:Px)(pos:Int)(z:Px)(o:Int)(s:PS):fi×PS:=(⟨1,o,(c.dS s).1,x,y,z,dZ,pos⟩,(c.dS s).2)
def PC.gZ(x y:Px)(pos:Int)(z:Px)(s:PS):fi×PS:=if c.any fD s<0 then (⟨1,2,⟨#[]⟩,x,y,z,dZ,pos⟩,c.cV 130 s) else c.iU x y pos z (if c.any fD s=0 then 1 else 2+c.any fD s) s.inc
def vn:List ByteArray:=[(⟨#[109,97,114,107,101,116]⟩:ByteArray),(⟨#[97,116]⟩:ByteArray)]
def PC.gN(x y:Px)(pos:Int)(s:PS):fi×PS:=if c.any vn s<0 then (⟨1,0,⟨#[]⟩,x,y,dZ,dZ,pos⟩,c.cV 130 s)
 else if c.any vn s=1 then c.gZ x y pos (c.dC s.inc).1 (c.dC s.inc).2 else c.iU x y pos dZ 2 s.inc
def PC.qZ(x:Px)(pos:Int)(s:PS):fi×PS:=c.gN x (c.dC (c.take (⟨#[111,102]⟩:ByteArray) s).2).1 pos (c.dC (c.take (⟨#[111,102]⟩:ByteArray) s).2).2
def PC.gb(s:PS):fi×PS:=c.qZ (c.dC (c.take (⟨#[115,117,98,109,105,116]⟩:ByteArray) s).2).1 (c.take (⟨#[115,117,98,109,105,116]⟩:ByteArray) s).1 (c.dC (c.take (⟨#[115,117,98,109,105,116]⟩:ByteArray) s).2).2
def s6:List ByteArray:=[(⟨#[115,117,98,109,105,116]⟩:ByteArray),(⟨#[97,109,101,110,100]⟩:ByteArray),(⟨#[99,97,110,99,101,108]⟩:ByteArray),(⟨#[115,101,116]⟩:ByteArray),(⟨#[103,111,116,111]⟩:ByteArray),(⟨#[104,97,108,116]⟩:ByteArray)]
def C3:fi:=⟨0,0,⟨#[]⟩,dZ,dZ,dZ,dZ,0⟩
def PC.yt(nm:ByteArray)(pos:Int)(x:Px)(s:PS):fi×PS:=(⟨2,0,nm,dZ,x,(c.dC (c.take (⟨#[97,116]⟩:ByteArray) s).2).1,dZ,pos⟩,(c.dC (c.take (⟨#[97,116]⟩:ByteArray) s).2).2)
def PC.Bi(nm:ByteArray)(pos:Int)(s:PS):fi×PS:=(⟨4,0,nm,dZ,dZ,dZ,(c.dC (c.take (⟨#[61]⟩:ByteArray) s).2).1,pos⟩,(c.dC (c.take (⟨#[61]⟩:ByteArray) s).2).2)
def PC.mc(k:Int)(nm:ByteArray)(pos:Int)(s:PS):fi×PS:=if k=2 then c.yt nm pos (c.dC (c.take (⟨#[116,111]⟩:ByteArray) s).2).1 (c.dC (c.take (⟨#[116,111]⟩:ByteArray) s).2).2 else if k=4 then c.Bi nm pos s else (⟨k,0,nm,dZ,dZ,dZ,dZ,pos⟩,s)
def PC.do(s:PS):fi×PS :=
 if c.any s6 s<0 then (C3,c.cV 130 s)
 else if c.any s6 s=0 then c.gb s
 else if c.any s6 s=5 then c.mc 6 ⟨#[]⟩ (c.now s).pos s.inc
 else c.mc (1+c.any s6 s) (c.name s.inc).1 (c.now s).pos (c.name s.inc).2
def PC.many(n most:Nat)(s:PS):PS:=if most≤n then c.cV 131 s else s
def PC.eQ:Nat→List fi→PS→List fi×PS
 | 0,l,s=>(l,s)
 | m+1,l,s =>
   if c.dH (⟨#[44]⟩:ByteArray) (c.do s).2 then
    if (c.many (l.length+1) 8 (c.do s).2).over then (l++[(c.do s).1],c.many (l.length+1) 8 (c.do s).2) else PC.eQ m (l++[(c.do s).1]) (c.many (l.length+1) 8 (c.do s).2).inc
   else (l++[(c.do s).1],(c.do s).2)
def PC.jK(w:Px)(pos:Int)(s:PS):dT×PS:=(⟨w,(c.eQ 8 [] s).1,pos⟩,(c.take (⟨#[59]⟩:ByteArray) (c.eQ 8 [] s).2).2)
def PC.fN(s:PS):dT×PS:=c.jK (c.dC (c.take (⟨#[119,104,101,110]⟩:ByteArray) s).2).1 (c.take (⟨#[119,104,101,110]⟩:ByteArray) s).1 (c.take (⟨#[100,111]⟩:ByteArray) (c.dC (c.take (⟨#[119,104,101,110]⟩:ByteArray) s).2).2).2
def PC.dW{α:Type}(w:ByteArray)(most:Nat)(one:PS→α×PS):Nat→List α→PS→List α×PS
 | 0,l,s=>(l,if c.dH w s then c.many l.length most s else s)
 | m+1,l,s=>if c.dH w s then
    if (c.many l.length most s).over then (l,c.many l.length most s) else PC.dW w most one m (l++[(one (c.many l.length most s)).1]) (one (c.many l.length most s)).2
   else (l,s)
def PC.list{α:Type}(w:ByteArray)(most:Nat)(one:PS→α×PS)(s:PS):List α×PS:=c.dW w most one most [] s
def PC.jU(nm:ByteArray)(pos:Int)(s:PS):dF×PS:=(⟨nm,(c.list (⟨#[119,104,101,110]⟩:ByteArray) 12 c.fN s).1,pos⟩,(c.take (⟨#[125]⟩:ByteArray) (c.list (⟨#[119,104,101,110]⟩:ByteArray) 12 c.fN s).2).2)
def PC.state(s:PS):dF×PS:=c.jU (c.name (c.take (⟨#[115,116,97,116,101]⟩:ByteArray) s).2).1 (c.take (⟨#[115,116,97,116,101]⟩:ByteArray) s).1 (c.take (⟨#[123]⟩:ByteArray) (c.name (c.take (⟨#[115,116,97,116,101]⟩:ByteArray) s).2).2).2
def PC.slot(s:PS):dB×PS:=(⟨(c.name (c.take (⟨#[115,108,111,116]⟩:ByteArray) s).2).1,(c.take (⟨#[115,108,111,116]⟩:ByteArray) s).1⟩,(c.take (⟨#[59]⟩:ByteArray) (c.name (c.take (⟨#[115,108,111,116]⟩:ByteArray) s).2).2).2)
def PC.end(s:PS):PS:=if s.over then s else if c.l.length≤s.next∨(c.tok s.next).kind≠0 then c.cV 130 s else s
def PC.AH(nm:ByteArray)(rs:List eY)(ss:List dB)(ts:List dF)(s:PS):eK×PS:=(⟨nm,rs,ss,ts⟩,c.end (c.take (⟨#[125]⟩:ByteArray) (if ts.length=0 then c.cV 130 s else s)).2)
def PC.AJ(nm:ByteArray)(rs:List eY)(ss:List dB)(s:PS):eK×PS:=c.AH nm rs ss (c.list (⟨#[115,116,97,116,101]⟩:ByteArray) 12 c.state s).1 (c.list (⟨#[115,116,97,116,101]⟩:ByteArray) 12 c.state s).2
def PC.AK(nm:ByteArray)(rs:List eY)(s:PS):eK×PS:=c.AJ nm rs (c.list (⟨#[115,108,111,116]⟩:ByteArray) 4 c.slot s).1 (c.list (⟨#[115,108,111,116]⟩:ByteArray) 4 c.slot s).2
def PC.AL(nm:ByteArray)(s:PS):eK×PS:=c.AK nm (c.list (⟨#[114,101,103]⟩:ByteArray) 12 c.mb s).1 (c.list (⟨#[114,101,103]⟩:ByteArray) 12 c.mb s).2
def PC.whole(s:PS):eK×PS:=c.AL (c.name (c.take (⟨#[115,116,114,97,116,101,103,121]⟩:ByteArray) s).2).1 (c.take (⟨#[123]⟩:ByteArray) (c.name (c.take (⟨#[115,116,114,97,116,101,103,121]⟩:ByteArray) s).2).2).2
end
def dk(t:ByteArray):PC:=if 4096<(t.size:Int) then ⟨[],0,0⟩ else ⟨(dY t 0).1,((dY t 0).2.map Prod.fst).getD 0,((dY t 0).2.map Prod.snd).getD 0⟩
def eE(t:ByteArray):PS:=⟨0,if 4096<(t.size:Int) then ⟨110,0,true⟩ else ⟨0,0,false⟩⟩
def zF:PF:=⟨0,0,false⟩
def mR(t:ByteArray):eK×PF :=
 let r:=(dk t).whole (eE t)
 if r.2.over then (⟨⟨#[]⟩,[],[],[]⟩,r.2.f) else (r.1,zF)
def eC(t:ByteArray):Px×PF :=
 let n:=(dk t).dC (eE t)
 let s:=(dk t).end n.2
 if s.over then (dZ,s.f) else (n.1,zF)
end Go.Lx
namespace Go.Lx
open Go.Vc
def PC.fin(c:PC)(s:PS):Option PF:=if s.over then some s.f else if c.l.length≤s.next then some ⟨c.bad,c.pos,true⟩ else none
def PC.dq(c:PC)(f:PF)(s:PS):Prop:=c.fin s=some f∧(s.over=false→c.bad≠0)
section
variable {c:PC} {f:PF} {s:PS}
theorem PC.dq.now(h:c.dq f s):c.now s=gC 0:=by
 unfold PC.now
 refine if_pos ?_
 have h1:=h.1
 unfold PC.fin at h1
 by_cases ho:s.over=true
 ·simp[ho]
 ·rw[if_neg ho] at h1
  split at h1
  ·rename_i hl;simp[hl]
  ·cases h1
theorem PC.dq.cV(h:c.dq f s)(e:Int):c.dq f (c.cV e s):=by
 unfold PC.cV
 split
 ·exact h
 ·rename_i ho
  have h1:=h.1;have h2:=h.2 (by simpa using ho)
  unfold PC.fin at h1
  rw[if_neg ho] at h1
  split at h1
  ·rename_i hl
   rw[if_pos hl]
   have ho2:PS.over ⟨s.next,⟨c.bad,c.pos,true⟩⟩=true:=by simpa[PS.over] using h2
   exact⟨by unfold PC.fin;rw[if_pos ho2];exact h1,fun h=>by rw[ho2] at h;cases h⟩
  ·cases h1
theorem PC.dq.dH(h:c.dq f s)(w:ByteArray):c.dH w s=false:=by
 unfold PC.dH;rw[h.now];simp[gC]
theorem PC.dq.kind(h:c.dq f s):(c.now s).kind=0:=by rw[h.now];rfl
theorem PC.dq.any(h:c.dq f s)(ws:List ByteArray):c.any ws s = -1:=by
 have:∀(ws:List ByteArray) (i:Int),c.fe s ws i = -1:=by
  intro ws
  induction ws with
  | nil=>intro i;rw[PC.fe]
  | cons w r ih=>intro i;rw[PC.fe,h.dH,if_neg (by simp),ih]
 exact this ws 0
theorem PC.dq.take(h:c.dq f s)(w:ByteArray):c.dq f (c.take w s).2:=by
 unfold PC.take;rw[h.dH];exact h.cV _
theorem PC.dq.name(h:c.dq f s):c.dq f (c.name s).2:=by
 unfold PC.name;rw[h.kind,if_neg (by decide)];exact h.cV _
theorem PC.dq.cT(h:c.dq f s)(d:Int):c.dq f (c.cT d s):=by
 unfold PC.cT;split
 ·exact h.cV _
 ·exact h
theorem PC.dq.many(h:c.dq f s)(n m:Nat):c.dq f (c.many n m s):=by
 unfold PC.many;split
 ·exact h.cV _
 ·exact h
theorem PC.dq.literal(h:c.dq f s):c.literal s=((dZ,false),s):=by
 unfold PC.literal;rw[h.kind,if_neg (by decide),if_neg (by simp),if_neg (by simp)]
theorem PC.dq.end(h:c.dq f s):c.dq f (c.end s):=by
 unfold PC.end;split
 ·exact h
 ·split
  ·exact h.cV _
  ·exact h
end
def Kp(c:PC)(f:PF){α:Type}(g:PS→α×PS):Prop:=∀s,c.dq f s→c.dq f (g s).2
section
variable {c:PC} {f:PF}
theorem Kp.rest(nx:Lv)(d:Int):Kp c f (c.rest nx d):=fun s h=>by
 unfold PC.rest;rw[h.dH,h.dH];exact h.cV _
theorem Kp.one(nx:Lv)(d:Int):Kp c f (c.one nx d):=fun s h=>by
 unfold PC.one;rw[h.literal,h.kind,h.any,h.any,h.any,if_neg (by simp),if_neg (by decide),if_neg (by decide),if_neg (by decide),if_neg (by decide)];exact Kp.rest nx d s h
theorem Kp.unary(nx:Lv)(d:Int):Kp c f (c.unary nx d):=fun s h=>by
 unfold PC.unary;rw[h.any,if_pos (by decide)];exact Kp.one nx d s h
theorem Kp.dA{ws:List ByteArray}{o:Int}{sub:PS→Px×PS}:∀(m:Nat) (n:Px),Kp c f (c.dA ws o sub m n)
 | 0,n=>fun s h=>h
 | m+1,n=>fun s h=>by rw[PC.dA,h.any,if_pos (by decide)];exact h
theorem Kp.loop{ws:List ByteArray}{o:Int}{sub:PS→Px×PS}(hs:Kp c f sub):Kp c f (c.loop ws o sub):=fun s h=>Kp.dA _ _ _ (hs s h)
theorem Kp.product(nx:Lv)(d:Int):Kp c f (c.product nx d):=Kp.loop (Kp.unary nx d)
theorem Kp.sum(nx:Lv)(d:Int):Kp c f (c.sum nx d):=Kp.loop (Kp.product nx d)
theorem Kp.compare(nx:Lv)(d:Int):Kp c f (c.compare nx d):=fun s h=>by
 have h1:=Kp.sum nx d s h
 unfold PC.compare
 show c.dq f (if c.any gY (c.sum nx d s).2<0 then c.sum nx d s else _:Px×PS).2
 rw[h1.any,if_pos (by decide)];exact h1
theorem Kp.and(nx:Lv)(d:Int):Kp c f (c.and nx d):=Kp.loop (Kp.compare nx d)
theorem Kp.or(nx:Lv)(d:Int):Kp c f (c.or nx d):=Kp.loop (Kp.and nx d)
theorem Kp.expr(nx:Lv)(d:Int):Kp c f (c.expr nx d):=fun s h=>by
 have h1:=Kp.or nx d s h
 unfold PC.expr
 show c.dq f (if c.dH _ (c.or nx d s).2 then _ else c.or nx d s:Px×PS).2
 rw[h1.dH];exact h1
theorem Kp.lvl:∀(k:Nat) (d:Int),Kp c f (c.lvl k d).ex∧Kp c f (c.lvl k d).un
 | 0,d=>⟨Kp.expr _ d,Kp.unary _ d⟩
 | k+1,d=>⟨Kp.expr _ d,Kp.unary _ d⟩
theorem Kp.dC:Kp c f c.dC:=(Kp.lvl 24 0).1
theorem Kp.kids{nx:Lv}(hx:Kp c f nx.ex):∀(n:Nat) (b:Bool),Kp c f (c.dv nx n b)
 | 0,b=>fun s h=>h
 | n+1,b=>fun s h=>by
   rw[PC.dv]
   refine Kp.kids hx n false _ (hx _ ?_)
   split
   ·exact h
   ·exact h.take _
theorem Kp.jT(nm:ByteArray)(t p p2:Int)(m:Bool)(n:Px):Kp c f (c.jT nm t p p2 m n):=fun s h=>h.take _
theorem Kp.ic(nm:ByteArray)(t p p2:Int)(m:Bool):Kp c f (c.ic nm t p p2 m):=fun s h=>by
 unfold PC.ic;split
 ·exact h.cV _
 ·refine Kp.jT _ _ _ _ _ _ _ ?_
  rw[h.literal,if_neg (by simp)];exact h.cV _
theorem Kp.iD(nm:ByteArray)(t p:Int):Kp c f (c.iD nm t p):=fun s h=>by
 unfold PC.iD;rw[h.dH,if_neg (by simp)];exact Kp.ic _ _ _ _ _ _ h
theorem Kp.iM(nm:ByteArray)(p:Int):Kp c f (c.iM nm p):=fun s h=>by
 unfold PC.iM;rw[h.any,if_pos (by decide)];exact h.cV _
theorem Kp.dS:Kp c f c.dS:=fun s h=>by
 unfold PC.dS;rw[h.dH,if_neg (by simp)];exact h
theorem Kp.iU(x y:Px)(p:Int)(z:Px)(o:Int):Kp c f (c.iU x y p z o):=fun s h=>Kp.dS s h
theorem Kp.gZ(x y:Px)(p:Int)(z:Px):Kp c f (c.gZ x y p z):=fun s h=>by
 unfold PC.gZ;rw[h.any,if_pos (by decide)];exact h.cV _
theorem Kp.gN(x y:Px)(p:Int):Kp c f (c.gN x y p):=fun s h=>by
 unfold PC.gN;rw[h.any,if_pos (by decide)];exact h.cV _
theorem Kp.qZ(x:Px)(p:Int):Kp c f (c.qZ x p):=fun s h=>Kp.gN _ _ _ _ (Kp.dC _ (h.take _))
theorem Kp.yt(nm:ByteArray)(p:Int)(x:Px):Kp c f (c.yt nm p x):=fun s h=>Kp.dC _ (h.take _)
theorem Kp.Bi(nm:ByteArray)(p:Int):Kp c f (c.Bi nm p):=fun s h=>Kp.dC _ (h.take _)
theorem Kp.mc(k:Int)(nm:ByteArray)(p:Int):Kp c f (c.mc k nm p):=fun s h=>by
 unfold PC.mc;split
 ·exact Kp.yt _ _ _ _ (Kp.dC _ (h.take _))
 ·split
  ·exact Kp.Bi _ _ _ h
  ·exact h
theorem Kp.do:Kp c f c.do:=fun s h=>by
 unfold PC.do;rw[h.any,if_pos (by decide)];exact h.cV _
theorem Kp.eQ:∀(m:Nat) (l:List fi),Kp c f (c.eQ m l)
 | 0,l=>fun s h=>h
 | m+1,l=>fun s h=>by
   have h1:=Kp.do s h
   rw[PC.eQ,h1.dH,if_neg (by simp)];exact h1
theorem Kp.jK(w:Px)(p:Int):Kp c f (c.jK w p):=fun s h=>(Kp.eQ 8 [] s h).take _
theorem Kp.fN:Kp c f c.fN:=fun s h=>Kp.jK _ _ _ ((Kp.dC _ (h.take _)).take _)
theorem Kp.dW{α:Type}(w:ByteArray)(most:Nat)(one:PS→α×PS):∀(m:Nat) (l:List α),Kp c f (c.dW w most one m l)
 | 0,l=>fun s h=>by rw[PC.dW,h.dH];exact h
 | m+1,l=>fun s h=>by rw[PC.dW,h.dH];exact h
theorem Kp.list{α:Type}(w:ByteArray)(most:Nat)(one:PS→α×PS):Kp c f (c.list w most one):=Kp.dW w most one most []
theorem Kp.jU(nm:ByteArray)(p:Int):Kp c f (c.jU nm p):=fun s h=>(Kp.list _ _ _ s h).take _
theorem Kp.state:Kp c f c.state:=fun s h=>Kp.jU _ _ _ (((h.take _).name).take _)
theorem Kp.slot:Kp c f c.slot:=fun s h=>((h.take _).name).take _
theorem Kp.mb:Kp c f c.mb:=fun s h=>Kp.iM _ _ _ ((h.take _).name)
end
end Go.Lx
namespace Go.Lx
open Go.Vc
structure PQ where
 c:PC
 a:Option Addr
 cap:Nat
variable {q:PQ} {b:Nat} {s:PS} {I:cS}
theorem mS{c:PC}{s:PS}(h:(c.now s).kind≠0):s.next<c.l.length:=by
 unfold PC.now at h
 split at h
 ·exact absurd rfl h
 ·rename_i h1
  simp only[Bool.or_eq_true,decide_eq_true_eq,not_or] at h1
  omega
theorem gO{c:PC}{s:PS}{w:ByteArray}(h:c.dH w s=true):s.next<c.l.length:=by
 refine mS fun hk=>?_
 unfold PC.dH at h
 rw[hk] at h
 simp at h
theorem sA{c:PC}{s:PS}:∀{ws:List ByteArray} {i:Int},0≤i→0≤c.fe s ws i→s.next<c.l.length∧i≤c.fe s ws i∧c.fe s ws i<i+ws.length
 | [],i,h0,h=>by rw[PC.fe] at h;omega
 | w::r,i,h0,h=>by
   rw[PC.fe] at h ⊢
   split at h
   ·rename_i hw
    rw[if_pos hw]
    exact⟨gO hw,Int.le_refl _,by rw[List.length_cons];omega⟩
   ·rename_i hw
    rw[if_neg hw]
    have:=sA (ws:=r) (i:=i+1) (by omega) h
    rw[List.length_cons];exact⟨this.1,by omega,by omega⟩
theorem dt{c:PC}{s:PS}{ws:List ByteArray}(h:0≤c.any ws s):s.next<c.l.length∧c.any ws s<ws.length:=by
 have:=sA (Int.le_refl 0) h
 exact⟨this.1,by have:=this.2.2;unfold PC.any;omega⟩
end Go.Lx
namespace Go.Lx
open Go.Vc
def Small(l:List Px):Prop:=∀x∈l,x.size≤1048576
theorem pk.C9{α:Type}{I:cS}{G:cR}{z:Nat}{f:α→List Value}{a:Option Addr}{n:Nat}{l:List α}(h:pk I G z f a n l){i:Int}(h0:0≤i)(h1:i<n) :
  ∃ad x,a=some ad∧l[i.toNat]? = some x∧Rd I G (ad.add (Int.toNat i*z)) (f x)∧x∈l:=by
 obtain⟨ad,x,g1,g2,g3⟩:=h.at h0 h1
 exact⟨ad,x,g1,g2,g3,List.mem_of_getElem? g2⟩
theorem pk.nil{α:Type}{I:cS}{G:cR}{z:Nat}{f:α→List Value}{a:Option Addr}:pk I G z f a 0 ([]:List α):=⟨rfl,fun h=>absurd rfl h⟩
theorem gL.leaf{I:cS}{G:cR}{k o ty n f:Int}{s:ByteArray}{a:Option Addr}{c:Nat}{q:Int}:gL I G (.mk k o ty n f s a c [] q):=.mk pk.nil fun k hk=>by cases hk
section
variable {c:PC} {s:PS}
theorem ft:s.inc.next=s.next+1:=rfl
theorem gf(e:Int):(c.cV e s).next=s.next:=by
 unfold PC.cV;split
 ·rfl
 ·split<;>rfl
theorem dL(d:Int):(c.cT d s).next=s.next:=by
 unfold PC.cT;split
 ·exact gf _
 ·rfl
theorem lO(n m:Nat):(c.many n m s).next=s.next:=by
 unfold PC.many;split
 ·exact gf _
 ·rfl
theorem gg{e:Int}(he:e≠0)(hl:s.next<c.l.length):(c.cV e s).over=true:=by
 unfold PC.cV
 split
 ·assumption
 ·rw[if_neg (by omega)]
  simpa[PS.over] using he
theorem eW{d:Int}(hl:s.next<c.l.length)(h:(c.cT d s).over=false):d+1≤24∧c.cT d s=s:=by
 unfold PC.cT at h ⊢
 split
 ·rename_i hd
  rw[if_pos hd,gg (by decide) hl] at h
  cases h
 ·rename_i hd
  exact⟨by omega,rfl⟩
theorem pq{n m:Nat}(hl:s.next<c.l.length)(h:(c.many n m s).over=false):n<m∧c.many n m s=s:=by
 unfold PC.many at h ⊢
 split
 ·rename_i hd
  rw[if_pos hd,gg (by decide) hl] at h
  cases h
 ·rename_i hd
  exact⟨by omega,rfl⟩
def Up(c:PC)(s s':PS):Prop:=s.next≤s'.next∧(s.next≤c.l.length→s'.next≤c.l.length)
theorem Up.refl:Up c s s:=⟨Nat.le_refl _,fun h=>h⟩
theorem Up.trans{a b d:PS}(h:Up c a b)(h':Up c b d):Up c a d:=⟨Nat.le_trans h.1 h'.1,fun h0=>h'.2 (h.2 h0)⟩
theorem Up.inc(hl:s.next<c.l.length):Up c s s.inc:=⟨Nat.le_succ _,fun _=>hl⟩
theorem Up.of_eq{s':PS}(h:s'.next=s.next):Up c s s':=⟨by omega,fun _=>by omega⟩
theorem Up.cV(e:Int):Up c s (c.cV e s):=.of_eq (gf e)
theorem Up.cT(d:Int):Up c s (c.cT d s):=.of_eq (dL d)
theorem Up.many(n m:Nat):Up c s (c.many n m s):=.of_eq (lO n m)
theorem Up.take(w:ByteArray):Up c s (c.take w s).2:=by
 unfold PC.take;split
 ·rename_i h;exact .inc (gO h)
 ·exact .cV _
theorem Up.name:Up c s (c.name s).2:=by
 unfold PC.name;split
 ·rename_i h;exact .inc (mS (by rw[h];decide))
 ·exact .cV _
theorem Up.literal:Up c s (c.literal s).2:=by
 unfold PC.literal
 split
 ·rename_i h;exact .inc (mS (by rw[h];decide))
 ·split
  ·rename_i h;exact .inc (mS (by rw[h.1];decide))
  ·split
   ·rename_i h;exact .inc (mS (by rw[h.1];decide))
   ·exact .refl
end
def dN(c:PC){α:Type}(f:PS→α×PS):Prop:=∀s,Up c s (f s).2
section
variable {c:PC} {nx:Lv} (hx:dN c nx.ex) (hu:dN c nx.un)
include hx
theorem Up.kids:∀(n:Nat) (f:Bool) (s:PS),Up c s (c.dv nx n f s).2
 | 0,f,s=>.refl
 | n+1,f,s=>by
   rw[PC.dv]
   refine Up.trans ?_ (Up.kids n false _)
   refine Up.trans ?_ (hx _)
   split
   ·exact .refl
   ·exact .take _
theorem Up.call{d kind oper dU pos:Int}{many:Nat}{s:PS}(hl:s.next<c.l.length):Up c s (c.call nx d kind oper dU pos many s).2:=by
 unfold PC.call
 split
 ·exact .cT _
 ·rename_i h
  obtain⟨_,he⟩:=eW hl (by simpa using h)
  rw[he]
  exact ((Up.inc hl).trans (.take _)).trans ((Up.kids hx _ _ _).trans (.take _))
theorem Up.rest(d:Int):dN c (c.rest nx d):=fun s=>by
 unfold PC.rest
 split
 ·rename_i h
  have hl:=gO h
  split
  ·exact (Up.inc hl).trans (.cV _)
  ·rename_i h2
   exact (Up.inc hl).trans (.inc (dt (Int.not_lt.1 h2)).1)
 ·split
  ·rename_i h
   have hl:=gO h
   split
   ·exact .cT _
   ·rename_i h2
    obtain⟨_,he⟩:=eW hl (by simpa using h2)
    rw[he]
    exact (Up.inc hl).trans ((hx _).trans (.take _))
  ·exact .cV _
theorem Up.one(d:Int):dN c (c.one nx d):=fun s=>by
 unfold PC.one
 split
 ·exact .literal
 ·split
  ·rename_i h;exact .inc (mS (by rw[h];decide))
  ·split
   ·rename_i h;exact .inc (dt h).1
   ·split
    ·rename_i h;exact .call hx (dt h).1
    ·split
     ·rename_i h;exact .call hx (dt h).1
     ·exact Up.rest hx d s
include hu
theorem Up.unary(d:Int):dN c (c.unary nx d):=fun s=>by
 unfold PC.unary
 split
 ·exact Up.one hx d s
 ·rename_i h
  have hl:=(dt (c:=c) (s:=s) (ws:=jw) (by omega)).1
  split
  ·exact .cT _
  ·rename_i h2
   obtain⟨_,he⟩:=eW hl (by simpa using h2)
   rw[he]
   exact (Up.inc hl).trans (hu _)
end
theorem Up.dA{c:PC}{ws:List ByteArray}{o:Int}{sub:PS→Px×PS}(h:dN c sub):∀(m:Nat) (n:Px) (s:PS),Up c s (c.dA ws o sub m n s).2
 | 0,n,s=>.refl
 | m+1,n,s=>by
   rw[PC.dA]
   split
   ·exact .refl
   ·rename_i h2
    exact ((Up.inc (dt (Int.not_lt.1 h2)).1).trans (h _)).trans (Up.dA h m _ _)
theorem Up.loop{c:PC}{ws:List ByteArray}{o:Int}{sub:PS→Px×PS}(h:dN c sub):dN c (c.loop ws o sub):=fun s=>(h s).trans (.dA h _ _ _)
section
variable {c:PC} {nx:Lv} (hx:dN c nx.ex) (hu:dN c nx.un) (d:Int)
include hx hu
theorem Up.product:dN c (c.product nx d):=Up.loop (Up.unary hx hu d)
theorem Up.sum:dN c (c.sum nx d):=Up.loop (Up.product hx hu d)
theorem Up.compare:dN c (c.compare nx d):=fun s=>by
 unfold PC.compare
 have h1:=Up.sum hx hu d s
 show Up c s (if c.any gY (c.sum nx d s).2<0 then c.sum nx d s else _).2
 split
 ·exact h1
 ·rename_i h2
  exact (h1.trans (.inc (dt (Int.not_lt.1 h2)).1)).trans (Up.sum hx hu d _)
theorem Up.and:dN c (c.and nx d):=Up.loop (Up.compare hx hu d)
theorem Up.or:dN c (c.or nx d):=Up.loop (Up.and hx hu d)
theorem Up.expr:dN c (c.expr nx d):=fun s=>by
 unfold PC.expr
 have h1:=Up.or hx hu d s
 show Up c s (if c.dH _ (c.or nx d s).2 then _ else _:Px×PS).2
 split
 ·rename_i h2
  have hl:=gO h2
  show Up c s (if (c.cT d (c.or nx d s).2).over then _ else _:Px×PS).2
  split
  ·exact h1.trans (.cT _)
  ·rename_i h3
   obtain⟨_,he⟩:=eW hl (by simpa using h3)
   rw[he]
   exact h1.trans ((Up.inc hl).trans ((hx _).trans ((Up.take _).trans (hx _))))
 ·exact h1
end
theorem Up.lvl{c:PC}:∀(k:Nat) (d:Int),dN c (c.lvl k d).ex∧dN c (c.lvl k d).un
 | 0,d=>⟨Up.expr (fun s=>.refl) (fun s=>.refl) d,Up.unary (fun s=>.refl) (fun s=>.refl) d⟩
 | k+1,d=>⟨Up.expr (Up.lvl k (d+1)).1 (Up.lvl k (d+1)).2 d,Up.unary (Up.lvl k (d+1)).1 (Up.lvl k (d+1)).2 d⟩
theorem Up.dC{c:PC}:dN c c.dC:=(Up.lvl 24 0).1
end Go.Lx
namespace Go.Lx
open Go.Vc
section
variable {q:PQ} {b:Nat} {s:PS} {I:cS} {F F0:cR}
end
end Go.Lx
namespace Go.Lx
open Go.Vc
section
end
section
end
section
variable {q:PQ} {nx:Lv} {d:Int} (h0:0≤d) (h1:d≤24)
include h0 h1
end
end Go.Lx
namespace Go.Lx
open Go.Vc
section
variable {q:PQ} {nx:Lv} {d:Int} (h0:0≤d) (h1:d≤24)
include h0 h1
end
end Go.Lx
namespace Go.Lx
open Go.Vc
structure c7 where
 c:PC
 c':PC
 o:Nat
 δ:Int
 K:Nat
 ov:Bool
 ρ:Int→Int→Prop
def okW(w:ByteArray):Bool:=!(w.toList==(⟨#[41]⟩:ByteArray).toList)
namespace c7
variable (m:c7)
def Rs(s s':PS):Prop:=s'.next=s.next+m.o∧s'.f.e=s.f.e∧s'.f.tok=s.f.tok∧(s.f.e≠0→m.ρ s.f.pos s'.f.pos)
def Gd(s:PS):Prop:=s.next≤m.K∧(m.ov=true→s.over=false)
def BC(t t':Tok):Prop:=(t'.kind=t.kind∧t'.text=t.text∧t'.dU=t.dU∧t'.n=t.n)∨(m.ov=true∧t.kind=0∧t'.kind=4∧t'.text.toList=(⟨#[41]⟩:ByteArray).toList)
structure Ok:Prop where
 d0:0≤m.δ
 len:∀i,i≤m.K→(i<m.c.l.length↔i+m.o<m.c'.l.length)
 tok:∀i,i≤m.K→i<m.c.l.length→m.BC (m.c.tok i) (m.c'.tok (i+m.o))∧m.ρ (m.c.tok i).pos (m.c'.tok (i+m.o)).pos
 ovK:m.ov=true→m.K<m.c.l.length∧m.c.bad=0
 bad:m.K<m.c.l.length∨(m.c.bad=0∧m.c'.bad=0)
def BD(s':PS):Prop:=0<m.δ∧∃f:PF,f.e=132∧m.c'.dq f s'
def Out{α:Type}(rel:α→α→Prop)(r r':α×PS):Prop:=(m.Rs r.2 r'.2∧rel r.1 r'.1)∨m.BD r'.2
def Fn{α:Type}(rel:α→α→Prop)(g g':PS→α×PS):Prop:=∀s s',m.Rs s s'→m.Gd (g s).2→m.Out rel (g s) (g' s')
def xr(x x':Px):Prop:=x'.bare=x.bare
end c7
section
variable {m:c7} {s s':PS}
theorem c7.BD.kp{s2:PS}(h:m.BD s')(hk:∀f,m.c'.dq f s'→m.c'.dq f s2):m.BD s2:=by
 obtain⟨h1,f,h2,h3⟩:=h
 exact⟨h1,f,h2,hk f h3⟩
theorem c7.Out.bind{α β:Type}{rel:α→α→Prop}{rel2:β→β→Prop}{r r':α×PS}{q q':β×PS}(h:m.Out rel r r')(hk:∀f,m.c'.dq f r'.2→m.c'.dq f q'.2)(hn:m.Rs r.2 r'.2→rel r.1 r'.1→m.Out rel2 q q'):m.Out rel2 q q':=by
 rcases h with ⟨h1,h2⟩ | h
 ·exact hn h1 h2
 ·exact .inr (h.kp hk)
theorem c7.Rs.over(h:m.Rs s s'):s'.over=s.over:=by unfold PS.over;rw[h.2.1]
theorem c7.Rs.inc(h:m.Rs s s'):m.Rs s.inc s'.inc:=⟨by show s'.next+1=s.next+1+m.o;rw[h.1];omega,h.2⟩
theorem jm{c:PC}{s:PS}(h:s.over=true):c.dq s.f s:=⟨by unfold PC.fin;rw[if_pos h],fun h2=>by rw[h] at h2;cases h2⟩
theorem j6{c:PC}{s:PS}{ws:List ByteArray}(h:0≤c.any ws s):s.over=false:=by
 cases ho:s.over with
 | false=>rfl
 | true=>rw[(jm (c:=c) ho).any] at h;exact absurd h (by decide)
theorem lp{c:PC}{s:PS}{w:ByteArray}(h:c.dH w s=true):s.over=false:=by
 cases ho:s.over with
 | false=>rfl
 | true=>rw[(jm (c:=c) ho).dH] at h;cases h
theorem xh{c:PC}{s:PS}(h:(c.now s).kind≠0):s.over=false:=by
 cases ho:s.over with
 | false=>rfl
 | true=>exact absurd (jm (c:=c) ho).kind h
variable (hm:m.Ok)
include hm
theorem c7.back{s2:PS}(hu:Up m.c s s2)(hk:∀f,m.c.dq f s→m.c.dq f s2)(h:m.Gd s2):m.Gd s:=by
 refine⟨Nat.le_trans hu.1 h.1,fun ho=>?_⟩
 have h2:=h.2 ho
 cases hs:s.over with
 | false=>rfl
 | true=>exact absurd (hm.ovK ho).2 ((hk _ (jm hs)).2 h2)
theorem c7.now(h:m.Rs s s')(hg:m.Gd s):m.BC (m.c.now s) (m.c'.now s'):=by
 unfold PC.now
 rw[h.over]
 have hl:=hm.len _ hg.1
 by_cases hc:s.over=true∨m.c.l.length≤s.next
 ·have h1:(s.over||decide (m.c.l.length≤s.next))=true:=by
   rcases hc with hc | hc
   ·rw[hc];rfl
   ·rw[decide_eq_true hc,Bool.or_true]
  have h2:(s.over||decide (m.c'.l.length≤s'.next))=true:=by
   rcases hc with hc | hc
   ·rw[hc];rfl
   ·rw[decide_eq_true (by rw[h.1];omega),Bool.or_true]
  rw[h1,h2];exact .inl ⟨rfl,rfl,rfl,rfl⟩
 ·have hc1:s.over=false:=by simpa using fun h=>hc (.inl h)
  have hc2:s.next<m.c.l.length:=Nat.lt_of_not_le fun h=>hc (.inr h)
  have h1:(s.over||decide (m.c.l.length≤s.next))=false:=by rw[hc1,decide_eq_false (by omega)];rfl
  have h2:(s.over||decide (m.c'.l.length≤s'.next))=false:=by rw[hc1,decide_eq_false (by rw[h.1];omega)];rfl
  rw[h1,h2,h.1]
  exact (hm.tok _ hg.1 hc2).1
theorem c7.dH(h:m.Rs s s')(hg:m.Gd s){w:ByteArray}(hw:okW w=true∨m.ov=false):m.c'.dH w s'=m.c.dH w s:=by
 unfold PC.dH
 rcases c7.now hm h hg with ⟨h1,h2,_⟩ | ⟨h1,h2,h3,h4⟩
 ·rw[h1,h2]
 ·rw[h2,h3,h4]
  have:((⟨#[41]⟩:ByteArray).toList==w.toList)=false:=by
   rcases hw with hw | hw
   ·unfold okW at hw
    cases hb:((⟨#[41]⟩:ByteArray).toList==w.toList) with
    | false=>rfl
    | true=>rw[eq_of_beq hb,beq_self_eq_true] at hw;cases hw
   ·rw[hw] at h1;cases h1
  rw[this];simp
theorem c7.any(h:m.Rs s s')(hg:m.Gd s){ws:List ByteArray}(hw:ws.all okW=true):m.c'.any ws s'=m.c.any ws s:=by
 have:∀(ws:List ByteArray) (i:Int),ws.all okW=true→m.c'.fe s' ws i=m.c.fe s ws i:=by
  intro ws
  induction ws with
  | nil=>intro i hw;rw[PC.fe,PC.fe]
  | cons w r ih=>intro i hw;rw[List.all_cons,Bool.and_eq_true] at hw;rw[PC.fe,PC.fe,c7.dH hm h hg (.inl hw.1),ih _ hw.2]
 exact this ws 0 hw
theorem c7.cV(h:m.Rs s s'){e:Int}(hg:s.next≤m.K):m.Rs (m.c.cV e s) (m.c'.cV e s'):=by
 unfold PC.cV
 rw[h.over]
 have hl:=hm.len _ hg
 split
 ·exact h
 ·by_cases hc:m.c.l.length≤s.next
  ·rw[if_pos hc,if_pos (by rw[h.1];omega)]
   rcases hm.bad with hb | ⟨hb,hb'⟩
   ·omega
   ·exact⟨h.1,by show m.c'.bad=m.c.bad;rw[hb,hb'],rfl,fun hne=>absurd hb hne⟩
  ·rw[if_neg hc,if_neg (by rw[h.1];omega)]
   exact⟨h.1,rfl,rfl,fun _=>by show m.ρ (m.c.tok s.next).pos (m.c'.tok s'.next).pos;rw[h.1];exact (hm.tok _ hg (by omega)).2⟩
theorem c7.take(h:m.Rs s s')(w:ByteArray)(hg:m.Gd (m.c.take w s).2):m.Rs (m.c.take w s).2 (m.c'.take w s').2:=by
 have h0:m.Gd s:=c7.back hm (Up.take w) (fun f h=>h.take w) hg
 have hw:m.c'.dH w s'=m.c.dH w s:=by
  by_cases hp:okW w=true∨m.ov=false
  ·exact c7.dH hm h h0 hp
  ·have hov:m.ov=true:=by
    cases ho:m.ov with
    | true=>rfl
    | false=>exact absurd (.inr ho) hp
   have hc:m.c.dH w s=true:=by
    cases hc:m.c.dH w s with
    | true=>rfl
    | false =>
      have h1:=hg.2 hov
      unfold PC.take at h1
      rw[hc] at h1
      have h2:(m.c.cV 130 s).over=true:=gg (by decide) (by have:=(hm.ovK hov).1;have:=h0.1;omega)
      have h1:(m.c.cV 130 s).over=false:=h1
      rw[h2] at h1;cases h1
   rw[hc]
   unfold PC.dH at hc ⊢
   rcases c7.now hm h h0 with ⟨h1,h2,_⟩ | ⟨h1,h2,h3,h4⟩
   ·rw[h1,h2];exact hc
   ·rw[h2] at hc;simp at hc
 unfold PC.take
 rw[hw]
 split
 ·exact h.inc
 ·exact c7.cV hm h h0.1
theorem c7.name(h:m.Rs s s')(hg:m.Gd (m.c.name s).2):m.Rs (m.c.name s).2 (m.c'.name s').2∧(m.c'.name s').1=(m.c.name s).1:=by
 have h0:m.Gd s:=c7.back hm Up.name (fun f h=>h.name) hg
 unfold PC.name
 rcases c7.now hm h h0 with ⟨h1,h2,_⟩ | ⟨h1,h2,h3,h4⟩
 ·rw[h1,h2]
  split
  ·exact⟨h.inc,rfl⟩
  ·exact⟨c7.cV hm h h0.1,rfl⟩
 ·rw[h2,h3,if_neg (by decide),if_neg (by decide)]
  exact⟨c7.cV hm h h0.1,rfl⟩
theorem c7.literal(h:m.Rs s s')(hg:m.Gd s):m.Rs (m.c.literal s).2 (m.c'.literal s').2∧c7.xr (m.c.literal s).1.1 (m.c'.literal s').1.1∧(m.c'.literal s').1.2=(m.c.literal s).1.2:=by
 unfold PC.literal
 rcases c7.now hm h hg with ⟨h1,h2,h3,h4⟩ | ⟨h1,h2,h3,h4⟩
 ·rw[h1,h2,h3,h4]
  split
  ·exact⟨h.inc,rfl,rfl⟩
  ·split
   ·exact⟨h.inc,rfl,rfl⟩
   ·split
    ·exact⟨h.inc,rfl,rfl⟩
    ·exact⟨h,rfl,rfl⟩
 ·rw[h2,h3]
  simp only[show ¬((4:Int)=3) by decide,show ¬((0:Int)=3) by decide,show ¬((4:Int)=1) by decide,show ¬((0:Int)=1) by decide,false_and,if_false]
  exact⟨h,rfl,trivial⟩
theorem c7.cT(h:m.Rs s s'){d:Int}(hg:s.next≤m.K)(ho:s.over=false)(hl:s.next<m.c.l.length) :
  ((m.c.cT d s).over=true∧(m.c'.cT (d+m.δ) s').over=true∧m.Rs (m.c.cT d s) (m.c'.cT (d+m.δ) s')) ∨
  ((m.c'.cT (d+m.δ) s').over=true∧m.BD (m.c'.cT (d+m.δ) s')) ∨
  (d+m.δ+1≤24∧m.c.cT d s=s∧m.c'.cT (d+m.δ) s'=s'∧s.over=false∧s'.over=false):=by
 have hd:=hm.d0
 have hl':s'.next<m.c'.l.length:=by rw[h.1];exact (hm.len _ hg).1 hl
 have ho':s'.over=false:=by rw[h.over];exact ho
 unfold PC.cT
 by_cases h1:24<d+1
 ·rw[if_pos h1,if_pos (by omega)]
  exact .inl ⟨gg (by decide) hl,gg (by decide) hl',c7.cV hm h hg⟩
 ·by_cases h2:24<d+m.δ+1
  ·rw[if_neg h1,if_pos h2]
   have hw:=gg (c:=m.c') (e:=132) (by decide) hl'
   refine .inr (.inl ⟨hw,by omega,_, ?_,jm hw⟩)
   unfold PC.cV
   rw[if_neg (by rw[ho'];decide),if_neg (by omega)]
  ·rw[if_neg h1,if_neg h2]
   exact .inr (.inr ⟨by omega,rfl,rfl,ho,ho'⟩)
end
namespace c7
def xl(l l':List Px):Prop:=l'.map Px.bare=l.map Px.bare
theorem xr.mk{k o t n f:Int}{nm:ByteArray}{l l':List Px}{q q':Int}(h:xl l l'):xr (.mk k o t n f nm l q) (.mk k o t n f nm l' q'):=by
 unfold xr;rw[Px.nE,Px.nE];show Px.mk k o t n f nm (l'.map Px.bare) 0=Px.mk k o t n f nm (l.map Px.bare) 0;rw[h]
theorem xl.one{x x':Px}(h:xr x x'):xl [x] [x']:=by unfold xl;rw[List.map_singleton,List.map_singleton,h]
theorem xl.cons{x x':Px}{l l':List Px}(h:xr x x')(hl:xl l l'):xl (x::l) (x'::l'):=by unfold xl;rw[List.map_cons,List.map_cons,h,hl]
theorem xr.two{o p p':Int}{a a' b b':Px}(h:xr a a')(h2:xr b b'):xr (ib o p a b) (ib o p' a' b'):=.mk (.cons h (.one h2))
structure yu (m:c7) (nx nx':Lv) (d:Int):Prop where
 mx:dN m.c nx.ex
 mu:dN m.c nx.un
 kx:∀f,Kp m.c f nx.ex
 ku:∀f,Kp m.c f nx.un
 kx':∀f,Kp m.c' f nx'.ex
 ku':∀f,Kp m.c' f nx'.un
 fx:d+m.δ+1≤24→m.Fn xr nx.ex nx'.ex
 fu:d+m.δ+1≤24→m.Fn xr nx.un nx'.un
end c7
section
variable {m:c7} (hm:m.Ok) {nx nx':Lv} {d:Int} (hx:m.yu nx nx' d)
include hm hx
theorem c7.kids(hd:d+m.δ+1≤24):∀(n:Nat) (b:Bool),m.Fn c7.xl (m.c.dv nx n b) (m.c'.dv nx' n b)
 | 0,b=>fun s s' h hg=>.inl ⟨h,rfl⟩
 | n+1,b=>fun s s' h hg=>by
   rw[PC.dv] at hg ⊢
   rw[PC.dv]
   have h3:m.Gd (m.c.dv nx n false (nx.ex (if b=true then s else (m.c.take (⟨#[44]⟩:ByteArray) s).2)).2).2:=hg
   have h2:=c7.back hm (Up.kids hx.mx n false _) (fun f h=>Kp.kids (hx.kx f) n false _ h) h3
   have h1:=c7.back hm (hx.mx _) (fun f h=>hx.kx f _ h) h2
   have h4:m.Rs (if b=true then s else (m.c.take (⟨#[44]⟩:ByteArray) s).2) (if b=true then s' else (m.c'.take (⟨#[44]⟩:ByteArray) s').2):=by
    split
    ·exact h
    ·rename_i hb;rw[if_neg hb] at h1;exact c7.take hm h _ h1
   refine (hx.fx hd _ _ h4 h2).bind (fun f h=>Kp.kids (hx.kx' f) n false _ h) fun g1 e1=>?_
   refine (c7.kids hd n false _ _ g1 h3).bind (fun f h=>h) fun g2 e2=>.inl ⟨g2,.cons e1 e2⟩
theorem c7.call{kind oper dU pos pos':Int}{many:Nat}{s s':PS}(h:m.Rs s s')(ho:s.over=false)(hl:s.next<m.c.l.length)(hg:m.Gd (m.c.call nx d kind oper dU pos many s).2) :
  m.Out c7.xr (m.c.call nx d kind oper dU pos many s) (m.c'.call nx' (d+m.δ) kind oper dU pos' many s'):=by
 have hs:s.next≤m.K:=Nat.le_trans (Up.call hx.mx hl).1 hg.1
 unfold PC.call at hg ⊢
 rcases c7.cT hm h (d:=d) hs ho hl with ⟨h1,h2,h3⟩ | ⟨h2,h3⟩ | ⟨hd,h1,h2,h3,h4⟩
 ·rw[if_pos h1,if_pos h2];exact .inl ⟨h3,rfl⟩
 ·rw[if_pos h2];exact .inr h3
 ·rw[h1,if_neg (by rw[h3];decide)] at hg ⊢
  rw[h2,if_neg (by rw[h4];decide)]
  have g3:m.Gd (m.c.take (⟨#[41]⟩:ByteArray) (m.c.dv nx many true (m.c.take (⟨#[40]⟩:ByteArray) s.inc).2).2).2:=hg
  have g2:=c7.back hm (Up.take _) (fun f h=>h.take _) g3
  have g1:=c7.back hm (Up.kids hx.mx _ _ _) (fun f h=>Kp.kids (hx.kx f) _ _ _ h) g2
  refine (c7.kids hm hx hd many true _ _ (c7.take hm h.inc _ g1) g2).bind (fun f h=>h.take _) fun k1 e1=>?_
  exact .inl ⟨c7.take hm k1 _ g3,.mk e1⟩
theorem c7.rest:m.Fn c7.xr (m.c.rest nx d) (m.c'.rest nx' (d+m.δ)):=fun s s' h hg=>by
 have hs:=c7.back hm (Up.rest hx.mx d s) (fun f h=>Kp.rest nx d s h) hg
 unfold PC.rest at hg ⊢
 have w1:=c7.dH hm h hs (w:=(⟨#[104,97,115]⟩:ByteArray)) (.inl (by kernel_rfl))
 have w2:=c7.dH hm h hs (w:=(⟨#[40]⟩:ByteArray)) (.inl (by kernel_rfl))
 rw[w1,w2]
 by_cases hc1:m.c.dH (⟨#[104,97,115]⟩:ByteArray) s=true
 ·rw[if_pos hc1] at hg ⊢
  rw[if_pos hc1]
  by_cases ha:m.c.any [(⟨#[98,105,100]⟩:ByteArray),(⟨#[97,115,107]⟩:ByteArray),(⟨#[108,97,115,116]⟩:ByteArray)] s.inc<0
  ·rw[if_pos ha] at hg ⊢
   have gi:m.Gd s.inc:=c7.back hm (Up.cV _) (fun f h=>h.cV _) hg
   rw[c7.any hm h.inc gi (by kernel_rfl),if_pos ha]
   exact .inl ⟨c7.cV hm h.inc gi.1,rfl⟩
  ·rw[if_neg ha] at hg ⊢
   have gi:m.Gd s.inc:=⟨Nat.le_trans (Nat.le_succ _) hg.1,fun ho=>hg.2 ho⟩
   rw[c7.any hm h.inc gi (by kernel_rfl),if_neg ha]
   exact .inl ⟨h.inc.inc,.mk rfl⟩
 ·rw[if_neg hc1] at hg ⊢
  rw[if_neg hc1]
  by_cases hc2:m.c.dH (⟨#[40]⟩:ByteArray) s=true
  ·rw[if_pos hc2] at hg ⊢
   rw[if_pos hc2]
   rcases c7.cT hm h (d:=d) hs.1 (lp hc2) (gO hc2) with ⟨h1,h2,h3⟩ | ⟨h2,h3⟩ | ⟨hd,h1,h2,h3,h4⟩
   ·rw[if_pos h1,if_pos h2];exact .inl ⟨h3,rfl⟩
   ·rw[if_pos h2];exact .inr h3
   ·rw[h1,if_neg (by rw[h3];decide)] at hg ⊢
    rw[h2,if_neg (by rw[h4];decide)]
    have g2:m.Gd (m.c.take (⟨#[41]⟩:ByteArray) (nx.ex s.inc).2).2:=hg
    have g1:=c7.back hm (Up.take _) (fun f h=>h.take _) g2
    exact (hx.fx hd _ _ h.inc g1).bind (fun f h=>h.take _) fun k1 e1=>.inl ⟨c7.take hm k1 _ g2,e1⟩
  ·rw[if_neg hc2,if_neg hc2]
   exact .inl ⟨c7.cV hm h hs.1,rfl⟩
theorem c7.one:m.Fn c7.xr (m.c.one nx d) (m.c'.one nx' (d+m.δ)):=fun s s' h hg=>by
 have hs:=c7.back hm (Up.one hx.mx d s) (fun f h=>Kp.one nx d s h) hg
 obtain⟨l1,l2,l3⟩:=c7.literal hm h hs
 have hn:=c7.now hm h hs
 unfold PC.one at hg ⊢
 rw[l3,c7.any hm h hs (ws:=ia) (by kernel_rfl),c7.any hm h hs (ws:=fM) (by kernel_rfl),c7.any hm h hs (ws:=iL) (by kernel_rfl)]
 by_cases hc1:(m.c.literal s).1.2=true
 ·rw[if_pos hc1,if_pos hc1];exact .inl ⟨l1,l2⟩
 ·rw[if_neg hc1] at hg ⊢
  rw[if_neg hc1]
  have hk:(m.c'.now s').kind=2↔(m.c.now s).kind=2:=by
   rcases hn with ⟨h1,_⟩ | ⟨_,h2,h3,_⟩
   ·rw[h1]
   ·rw[h2,h3];decide
  by_cases hc2:(m.c.now s).kind=2
  ·rw[if_pos hc2,if_pos (hk.2 hc2)]
   refine .inl ⟨h.inc, ?_⟩
   rcases hn with ⟨_,h2,_⟩ | ⟨_,h2,_⟩
   ·rw[h2];exact .mk rfl
   ·rw[h2] at hc2;exact absurd hc2 (by decide)
  ·rw[if_neg hc2] at hg ⊢
   rw[if_neg fun h=>hc2 (hk.1 h)]
   by_cases hc3:0≤m.c.any ia s
   ·rw[if_pos hc3,if_pos hc3];exact .inl ⟨h.inc,.mk rfl⟩
   ·rw[if_neg hc3] at hg ⊢
    rw[if_neg hc3]
    by_cases hc4:0≤m.c.any fM s
    ·rw[if_pos hc4] at hg ⊢
     rw[if_pos hc4]
     exact c7.call hm hx h (j6 hc4) (dt hc4).1 hg
    ·rw[if_neg hc4] at hg ⊢
     rw[if_neg hc4]
     by_cases hc5:0≤m.c.any iL s
     ·rw[if_pos hc5] at hg ⊢
      rw[if_pos hc5]
      exact c7.call hm hx h (j6 hc5) (dt hc5).1 hg
     ·rw[if_neg hc5] at hg ⊢
      rw[if_neg hc5]
      exact c7.rest hm hx s s' h hg
theorem c7.unary:m.Fn c7.xr (m.c.unary nx d) (m.c'.unary nx' (d+m.δ)):=fun s s' h hg=>by
 have hs:=c7.back hm (Up.unary hx.mx hx.mu d s) (fun f h=>Kp.unary nx d s h) hg
 unfold PC.unary at hg ⊢
 rw[c7.any hm h hs (ws:=jw) (by kernel_rfl)]
 by_cases hc1:m.c.any jw s<0
 ·rw[if_pos hc1] at hg ⊢
  rw[if_pos hc1]
  exact c7.one hm hx s s' h hg
 ·rw[if_neg hc1] at hg ⊢
  rw[if_neg hc1]
  have ha:0≤m.c.any jw s:=Int.not_lt.1 hc1
  rcases c7.cT hm h (d:=d) hs.1 (j6 ha) (dt ha).1 with ⟨h1,h2,h3⟩ | ⟨h2,h3⟩ | ⟨hd,h1,h2,h3,h4⟩
  ·rw[if_pos h1,if_pos h2];exact .inl ⟨h3,rfl⟩
  ·rw[if_pos h2];exact .inr h3
  ·rw[h1,if_neg (by rw[h3];decide)] at hg ⊢
   rw[h2,if_neg (by rw[h4];decide)]
   exact (hx.fu hd _ _ h.inc hg).bind (fun f h=>h) fun k1 e1=>.inl ⟨k1,.mk (.one e1)⟩
end
section
variable {m:c7} (hm:m.Ok)
include hm
theorem c7.dA{ws:List ByteArray}{o:Int}{sub sub':PS→Px×PS}(hw:ws.all okW=true)(h0:dN m.c sub)(hk:∀f,Kp m.c f sub)(hk':∀f,Kp m.c' f sub')(hf:m.Fn c7.xr sub sub')(hm':dN m.c' sub') :
  ∀(k k':Nat) (n n':Px) (s s':PS),m.Rs s s'→c7.xr n n'→m.c.l.length≤k+s.next→m.c'.l.length≤k'+s'.next→m.Gd (m.c.dA ws o sub k n s).2→m.Out c7.xr (m.c.dA ws o sub k n s) (m.c'.dA ws o sub' k' n' s')
 | 0,k',n,n',s,s',h,hn,h1,h2,hg=>by
   have hs:m.Gd s:=hg
   have ha:m.c.any ws s<0:=Int.not_le.1 fun ha=>by have:=(dt ha).1;omega
   cases k' with
   | zero=>exact .inl ⟨h,hn⟩
   | succ k' =>
     rw[PC.dA,PC.dA,c7.any hm h hs hw,if_pos ha];exact .inl ⟨h,hn⟩
 | k+1,k',n,n',s,s',h,hn,h1,h2,hg=>by
   have hs:m.Gd s:=c7.back hm (Up.dA h0 _ _ _) (fun f h=>Kp.dA _ _ _ h) hg
   rw[PC.dA] at hg ⊢
   by_cases ha:m.c.any ws s<0
   ·rw[if_pos ha]
    cases k' with
    | zero=>exact .inl ⟨h,hn⟩
    | succ k'=>rw[PC.dA,c7.any hm h hs hw,if_pos ha];exact .inl ⟨h,hn⟩
   ·rw[if_neg ha] at hg ⊢
    have ha':0≤m.c'.any ws s':=by rw[c7.any hm h hs hw];exact Int.not_lt.1 ha
    cases k' with
    | zero=>have:=(dt ha').1;omega
    | succ k' =>
      rw[PC.dA,c7.any hm h hs hw,if_neg ha]
      have g2:=c7.back hm (Up.dA h0 _ _ _) (fun f h=>Kp.dA _ _ _ h) hg
      refine (hf _ _ h.inc g2).bind (fun f h=>Kp.dA _ _ _ h) fun k1 e1=>?_
      refine c7.dA hw h0 hk hk' hf hm' k k' _ _ _ _ k1 (.two hn e1) ?_ ?_ hg
      ·have:=(h0 s.inc).1;rw[ft] at this;omega
      ·have:=(hm' s'.inc).1;rw[ft] at this;omega
theorem c7.loop{ws:List ByteArray}{o:Int}{sub sub':PS→Px×PS}(hw:ws.all okW=true)(h0:dN m.c sub)(hk:∀f,Kp m.c f sub)(hk':∀f,Kp m.c' f sub')(hf:m.Fn c7.xr sub sub')(hm':dN m.c' sub') :
  m.Fn c7.xr (m.c.loop ws o sub) (m.c'.loop ws o sub'):=fun s s' h hg=>by
 have g1:=c7.back hm (Up.dA h0 _ _ _) (fun f h=>Kp.dA _ _ _ h) hg
 exact (hf s s' h g1).bind (fun f h=>Kp.dA _ _ _ h) fun k1 e1=>c7.dA hm hw h0 hk hk' hf hm' _ _ _ _ _ _ k1 e1 (by omega) (by omega) hg
end
section
variable {m:c7} (hm:m.Ok) {nx nx':Lv} {d:Int} (hx:m.yu nx nx' d) (hx':dN m.c' nx'.ex) (hu':dN m.c' nx'.un)
include hm hx hx' hu'
theorem c7.product:m.Fn c7.xr (m.c.product nx d) (m.c'.product nx' (d+m.δ)) :=
 c7.loop hm (by kernel_rfl) (Up.unary hx.mx hx.mu d) (fun f=>Kp.unary nx d) (fun f=>Kp.unary nx' _) (c7.unary hm hx) (Up.unary hx' hu' _)
theorem c7.sum:m.Fn c7.xr (m.c.sum nx d) (m.c'.sum nx' (d+m.δ)) :=
 c7.loop hm (by kernel_rfl) (Up.product hx.mx hx.mu d) (fun f=>Kp.product nx d) (fun f=>Kp.product nx' _) (c7.product hm hx hx' hu') (Up.product hx' hu' _)
theorem c7.compare:m.Fn c7.xr (m.c.compare nx d) (m.c'.compare nx' (d+m.δ)):=fun s s' h hg=>by
 unfold PC.compare at hg ⊢
 replace hg:m.Gd (if m.c.any gY (m.c.sum nx d s).2<0 then m.c.sum nx d s else (ib (11+m.c.any gY (m.c.sum nx d s).2) (m.c.now (m.c.sum nx d s).2).pos (m.c.sum nx d s).1 (m.c.sum nx d (m.c.sum nx d s).2.inc).1,(m.c.sum nx d (m.c.sum nx d s).2.inc).2)).2:=hg
 show m.Out c7.xr (if m.c.any gY (m.c.sum nx d s).2<0 then m.c.sum nx d s else (ib (11+m.c.any gY (m.c.sum nx d s).2) (m.c.now (m.c.sum nx d s).2).pos (m.c.sum nx d s).1 (m.c.sum nx d (m.c.sum nx d s).2.inc).1,(m.c.sum nx d (m.c.sum nx d s).2.inc).2))
  (if m.c'.any gY (m.c'.sum nx' (d+m.δ) s').2<0 then m.c'.sum nx' (d+m.δ) s' else (ib (11+m.c'.any gY (m.c'.sum nx' (d+m.δ) s').2) (m.c'.now (m.c'.sum nx' (d+m.δ) s').2).pos (m.c'.sum nx' (d+m.δ) s').1 (m.c'.sum nx' (d+m.δ) (m.c'.sum nx' (d+m.δ) s').2.inc).1,(m.c'.sum nx' (d+m.δ) (m.c'.sum nx' (d+m.δ) s').2.inc).2))
 by_cases ha:m.c.any gY (m.c.sum nx d s).2<0
 ·rw[if_pos ha] at hg ⊢
  refine (c7.sum hm hx hx' hu' s s' h hg).bind (fun f h=>?_) fun k1 e1=>?_
  ·rw[h.any,if_pos (by decide)];exact h
  ·rw[c7.any hm k1 hg (by kernel_rfl),if_pos ha];exact .inl ⟨k1,e1⟩
 ·rw[if_neg ha] at hg ⊢
  have hl:=(dt (Int.not_lt.1 ha)).1
  have ho:=j6 (Int.not_lt.1 ha)
  have g1:m.Gd (m.c.sum nx d s).2:=⟨by have:=(Up.sum hx.mx hx.mu d (m.c.sum nx d s).2.inc).1;have:=hg.1;rw[ft] at *;show (m.c.sum nx d s).2.next≤m.K;simp only at *;omega,fun _=>ho⟩
  refine (c7.sum hm hx hx' hu' s s' h g1).bind (fun f h=>?_) fun k1 e1=>?_
  ·rw[h.any,if_pos (by decide)];exact h
  ·rw[c7.any hm k1 g1 (by kernel_rfl),if_neg ha]
   exact (c7.sum hm hx hx' hu' _ _ k1.inc hg).bind (fun f h=>h) fun k2 e2=>.inl ⟨k2,.two e1 e2⟩
theorem c7.and:m.Fn c7.xr (m.c.and nx d) (m.c'.and nx' (d+m.δ)) :=
 c7.loop hm (by kernel_rfl) (Up.compare hx.mx hx.mu d) (fun f=>Kp.compare nx d) (fun f=>Kp.compare nx' _) (c7.compare hm hx hx' hu') (Up.compare hx' hu' _)
theorem c7.or:m.Fn c7.xr (m.c.or nx d) (m.c'.or nx' (d+m.δ)) :=
 c7.loop hm (by kernel_rfl) (Up.and hx.mx hx.mu d) (fun f=>Kp.and nx d) (fun f=>Kp.and nx' _) (c7.and hm hx hx' hu') (Up.and hx' hu' _)
theorem c7.expr:m.Fn c7.xr (m.c.expr nx d) (m.c'.expr nx' (d+m.δ)):=fun s s' h hg=>by
 unfold PC.expr at hg ⊢
 generalize hr:m.c.or nx d s=r at hg ⊢
 have hor:m.Gd r.2→m.Out c7.xr r (m.c'.or nx' (d+m.δ) s'):=fun g=>by rw[←hr];exact c7.or hm hx hx' hu' s s' h (by rw[hr];exact g)
 replace hg:m.Gd (if m.c.dH (⟨#[63]⟩:ByteArray) r.2 then (if (m.c.cT d r.2).over then (dZ,m.c.cT d r.2) else (.mk 7 0 0 0 0 ⟨#[]⟩ [r.1,(nx.ex (m.c.cT d r.2).inc).1,(nx.ex (m.c.take (⟨#[58]⟩:ByteArray) (nx.ex (m.c.cT d r.2).inc).2).2).1] (m.c.now (m.c.cT d r.2)).pos,(nx.ex (m.c.take (⟨#[58]⟩:ByteArray) (nx.ex (m.c.cT d r.2).inc).2).2).2)) else r:Px×PS).2:=hg
 show m.Out c7.xr (if m.c.dH (⟨#[63]⟩:ByteArray) r.2 then (if (m.c.cT d r.2).over then (dZ,m.c.cT d r.2) else (.mk 7 0 0 0 0 ⟨#[]⟩ [r.1,(nx.ex (m.c.cT d r.2).inc).1,(nx.ex (m.c.take (⟨#[58]⟩:ByteArray) (nx.ex (m.c.cT d r.2).inc).2).2).1] (m.c.now (m.c.cT d r.2)).pos,(nx.ex (m.c.take (⟨#[58]⟩:ByteArray) (nx.ex (m.c.cT d r.2).inc).2).2).2)) else r:Px×PS) _
 have key:∀r':Px×PS,m.Out c7.xr r r'→m.Out c7.xr (if m.c.dH (⟨#[63]⟩:ByteArray) r.2 then (if (m.c.cT d r.2).over then (dZ,m.c.cT d r.2) else (.mk 7 0 0 0 0 ⟨#[]⟩ [r.1,(nx.ex (m.c.cT d r.2).inc).1,(nx.ex (m.c.take (⟨#[58]⟩:ByteArray) (nx.ex (m.c.cT d r.2).inc).2).2).1] (m.c.now (m.c.cT d r.2)).pos,(nx.ex (m.c.take (⟨#[58]⟩:ByteArray) (nx.ex (m.c.cT d r.2).inc).2).2).2)) else r:Px×PS)
   (if m.c'.dH (⟨#[63]⟩:ByteArray) r'.2 then (if (m.c'.cT (d+m.δ) r'.2).over then (dZ,m.c'.cT (d+m.δ) r'.2) else (.mk 7 0 0 0 0 ⟨#[]⟩ [r'.1,(nx'.ex (m.c'.cT (d+m.δ) r'.2).inc).1,(nx'.ex (m.c'.take (⟨#[58]⟩:ByteArray) (nx'.ex (m.c'.cT (d+m.δ) r'.2).inc).2).2).1] (m.c'.now (m.c'.cT (d+m.δ) r'.2)).pos,(nx'.ex (m.c'.take (⟨#[58]⟩:ByteArray) (nx'.ex (m.c'.cT (d+m.δ) r'.2).inc).2).2).2)) else r':Px×PS):=by
  intro r' hrr
  refine hrr.bind (fun f h=>?_) fun k1 e1=>?_
  ·rw[h.dH];exact h
  by_cases hc:m.c.dH (⟨#[63]⟩:ByteArray) r.2=true
  ·rw[if_pos hc] at hg ⊢
   have hl:=gO hc
   have ho:=lp hc
   have hK:r.2.next≤m.K:=by
    have h2:=hg.1
    split at h2
    ·have h2:(m.c.cT d r.2).next≤m.K:=h2
     rw[dL] at h2;exact h2
    ·have h2:(nx.ex (m.c.take (⟨#[58]⟩:ByteArray) (nx.ex (m.c.cT d r.2).inc).2).2).2.next≤m.K:=h2
     have a1:=(hx.mx (m.c.cT d r.2).inc).1
     have a2:=(Up.take (c:=m.c) (s:=(nx.ex (m.c.cT d r.2).inc).2) (⟨#[58]⟩:ByteArray)).1
     have a3:=(hx.mx (m.c.take (⟨#[58]⟩:ByteArray) (nx.ex (m.c.cT d r.2).inc).2).2).1
     rw[ft,dL] at a1
     omega
   rw[c7.dH hm k1 ⟨hK,fun _=>ho⟩ (.inl (by kernel_rfl)),if_pos hc]
   rcases c7.cT hm k1 (d:=d) hK ho hl with ⟨h1,h2,h3⟩ | ⟨h2,h3⟩ | ⟨hd,h1,h2,h3,h4⟩
   ·rw[if_pos h1,if_pos h2];exact .inl ⟨h3,rfl⟩
   ·rw[if_pos h2];exact .inr h3
   ·rw[h1,if_neg (by rw[h3];decide)] at hg ⊢
    rw[h2,if_neg (by rw[h4];decide)]
    have g3:m.Gd (nx.ex (m.c.take (⟨#[58]⟩:ByteArray) (nx.ex r.2.inc).2).2).2:=hg
    have g2:=c7.back hm (hx.mx _) (fun f h=>hx.kx f _ h) g3
    have g1:=c7.back hm (Up.take _) (fun f h=>h.take _) g2
    refine (hx.fx hd _ _ k1.inc g1).bind (fun f h=>hx.kx' f _ (h.take _)) fun k2 e2=>?_
    refine (hx.fx hd _ _ (c7.take hm k2 _ g2) g3).bind (fun f h=>h) fun k3 e3=>.inl ⟨k3,.mk (.cons e1 (.cons e2 (.one e3)))⟩
  ·rw[if_neg hc] at hg ⊢
   rw[c7.dH hm k1 hg (.inl (by kernel_rfl)),if_neg hc]
   exact .inl ⟨k1,e1⟩
 refine key _ (hor ?_)
 by_cases hc:m.c.dH (⟨#[63]⟩:ByteArray) r.2=true
 ·rw[if_pos hc] at hg
  have ho:=lp hc
  refine⟨?_,fun _=>ho⟩
  have h2:=hg.1
  split at h2
  ·have h2:(m.c.cT d r.2).next≤m.K:=h2
   rw[dL] at h2;exact h2
  ·have h2:(nx.ex (m.c.take (⟨#[58]⟩:ByteArray) (nx.ex (m.c.cT d r.2).inc).2).2).2.next≤m.K:=h2
   have a1:=(hx.mx (m.c.cT d r.2).inc).1
   have a2:=(Up.take (c:=m.c) (s:=(nx.ex (m.c.cT d r.2).inc).2) (⟨#[58]⟩:ByteArray)).1
   have a3:=(hx.mx (m.c.take (⟨#[58]⟩:ByteArray) (nx.ex (m.c.cT d r.2).inc).2).2).1
   rw[ft,dL] at a1
   omega
 ·rw[if_neg hc] at hg;exact hg
end
theorem c7.lvl{m:c7}(hm:m.Ok):∀(k k':Nat) (d:Int),(k:Int)+d=24→(k':Int)+(d+m.δ)=24→m.Fn c7.xr (m.c.lvl k d).ex (m.c'.lvl k' (d+m.δ)).ex∧m.Fn c7.xr (m.c.lvl k d).un (m.c'.lvl k' (d+m.δ)).un:=by
 have hz:∀c:PC,dN c (fun s:PS=>(dZ,s)):=fun c s=>.refl
 have kz:∀(c:PC) f,Kp c f (fun s:PS=>(dZ,s)):=fun c f s h=>h
 have hd0:=hm.d0
 intro k
 induction k with
 | zero =>
   intro k' d hk hk'
   have hk0:k'=0:=by omega
   subst hk0
   have hx:m.yu ⟨fun s=>(dZ,s),fun s=>(dZ,s)⟩ ⟨fun s=>(dZ,s),fun s=>(dZ,s)⟩ d:=⟨hz _,hz _,kz _,kz _,kz _,kz _,fun h=>by omega,fun h=>by omega⟩
   exact⟨c7.expr hm hx (hz _) (hz _),c7.unary hm hx⟩
 | succ k ih =>
   intro k' d hk hk'
   cases k' with
   | zero =>
     have hx:m.yu (m.c.lvl k (d+1)) ⟨fun s=>(dZ,s),fun s=>(dZ,s)⟩ d:=⟨(Up.lvl k (d+1)).1,(Up.lvl k (d+1)).2,fun f=>(Kp.lvl k (d+1)).1,fun f=>(Kp.lvl k (d+1)).2,kz _,kz _,fun h=>by omega,fun h=>by omega⟩
     exact⟨c7.expr hm hx (hz _) (hz _),c7.unary hm hx⟩
   | succ k' =>
     have hi:=ih k' (d+1) (by omega) (by omega)
     rw[show d+1+m.δ=d+m.δ+1 by omega] at hi
     have hx:m.yu (m.c.lvl k (d+1)) (m.c'.lvl k' (d+m.δ+1)) d:=⟨(Up.lvl k (d+1)).1,(Up.lvl k (d+1)).2,fun f=>(Kp.lvl k (d+1)).1,fun f=>(Kp.lvl k (d+1)).2,fun f=>(Kp.lvl k' _).1,fun f=>(Kp.lvl k' _).2,fun _=>hi.1,fun _=>hi.2⟩
     exact⟨c7.expr hm hx (Up.lvl k' _).1 (Up.lvl k' _).2,c7.unary hm hx⟩
end Go.Lx
namespace Go.Lx
open Go.Vc
section
variable {c:PC}
theorem Up.jT{nm:ByteArray}{t pos pos2:Int}{minus:Bool}{n:Px}:dN c (c.jT nm t pos pos2 minus n):=fun s=>Up.take _
theorem Up.ic{nm:ByteArray}{t pos pos2:Int}{minus:Bool}:dN c (c.ic nm t pos pos2 minus):=fun s=>by
 unfold PC.ic
 split
 ·exact .cV _
 ·refine Up.trans ?_ (Up.jT _)
  split
  ·exact .literal
  ·exact Up.literal.trans (.cV _)
theorem Up.iD{nm:ByteArray}{t pos:Int}:dN c (c.iD nm t pos):=fun s=>by
 unfold PC.iD
 refine Up.trans ?_ (Up.ic _)
 split
 ·rename_i h;exact .inc (gO h)
 ·exact .refl
theorem Up.iM{nm:ByteArray}{pos:Int}:dN c (c.iM nm pos):=fun s=>by
 unfold PC.iM
 split
 ·exact .cV _
 ·rename_i ha
  exact (Up.inc (dt (Int.not_lt.1 ha)).1).trans ((Up.take _).trans (Up.iD _))
theorem Up.mb:dN c c.mb:=fun s=>(Up.take _).trans (Up.name.trans (Up.iM _))
theorem Up.dS:dN c c.dS:=fun s=>by
 unfold PC.dS
 split
 ·rename_i h;exact (Up.inc (gO h)).trans .name
 ·exact .refl
theorem Up.iU{x y z:Px}{pos o:Int}:dN c (c.iU x y pos z o):=fun s=>Up.dS s
theorem Up.gZ{x y z:Px}{pos:Int}:dN c (c.gZ x y pos z):=fun s=>by
 unfold PC.gZ
 split
 ·exact .cV _
 ·rename_i ha
  exact (Up.inc (dt (Int.not_lt.1 ha)).1).trans (Up.iU _)
theorem Up.gN{x y:Px}{pos:Int}:dN c (c.gN x y pos):=fun s=>by
 unfold PC.gN
 split
 ·exact .cV _
 ·rename_i ha
  have h1:=Up.inc (c:=c) (dt (Int.not_lt.1 ha)).1
  split
  ·exact h1.trans ((Up.dC _).trans (Up.gZ _))
  ·exact h1.trans (Up.iU _)
theorem Up.gb:dN c c.gb:=fun s=>(Up.take _).trans ((Up.dC _).trans ((Up.take _).trans ((Up.dC _).trans (Up.gN _))))
theorem Up.mc{k:Int}{nm:ByteArray}{pos:Int}:dN c (c.mc k nm pos):=fun s=>by
 unfold PC.mc
 split
 ·exact (Up.take _).trans ((Up.dC _).trans ((Up.take _).trans (Up.dC _)))
 ·split
  ·exact (Up.take _).trans (Up.dC _)
  ·exact .refl
theorem Up.do:dN c c.do:=fun s=>by
 unfold PC.do
 split
 ·exact .cV _
 ·rename_i ha
  have h1:=Up.inc (c:=c) (dt (Int.not_lt.1 ha)).1
  split
  ·exact Up.gb s
  ·split
   ·exact h1.trans (Up.mc _)
   ·exact h1.trans (Up.name.trans (Up.mc _))
end
end Go.Lx
namespace Go.Lx
open Go.Vc
theorem kH:kZ.px=dZ:=by simp only[kZ,Nd.px,Nd.tU];rfl
section
variable {N Pl:Type} (z:Nat) (f:N→List Value) (E:Nat) (p:N→Pl) (ok:cS→N→Prop) (q:PQ) (b:Nat) (w:ByteArray) (most:Nat) (one:PS→Pl×PS) (s0:PS) (F0:cR)
end
section
variable {N Pl:Type} {z:Nat} {f:N→List Value} {E:Nat} {p:N→Pl} {ok:cS→N→Prop} {q:PQ} {b:Nat} {w:ByteArray} {most:Nat} {one:PS→Pl×PS} {s0:PS} {F0:cR} {I J:cS} {F:cR}
end
end Go.Lx
namespace Go.Lx
open Go.Vc
section
variable {c:PC}
theorem Up.eQ:∀(m:Nat) (l:List fi),dN c (c.eQ m l)
 | 0,l=>fun s=>.refl
 | m+1,l=>fun s=>by
   rw[PC.eQ]
   have h1:=Up.do (c:=c) s
   split
   ·rename_i hw
    have hlt:=gO hw
    split
    ·exact h1.trans (.many _ _)
    ·rename_i hm
     obtain⟨_,he⟩:=pq hlt (by simpa using hm)
     rw[he]
     exact h1.trans ((Up.inc hlt).trans (Up.eQ m _ _))
   ·exact h1
theorem Up.fN:dN c c.fN:=fun s=>(Up.take _).trans ((Up.dC _).trans ((Up.take _).trans ((Up.eQ 8 [] _).trans (Up.take _))))
theorem Up.dW{α:Type}{w:ByteArray}{most:Nat}{one:PS→α×PS}(h:dN c one):∀(m:Nat) (l:List α),dN c (c.dW w most one m l)
 | 0,l=>fun s=>by
   rw[PC.dW]
   show Up c s (if c.dH w s then c.many l.length most s else s)
   split
   ·exact .many _ _
   ·exact .refl
 | m+1,l=>fun s=>by
   rw[PC.dW]
   split
   ·rename_i hw
    have hlt:=gO hw
    split
    ·exact .many _ _
    ·rename_i hm
     obtain⟨_,he⟩:=pq hlt (by simpa using hm)
     rw[he]
     exact (h s).trans (Up.dW h m _ _)
   ·exact .refl
theorem Up.list{α:Type}{w:ByteArray}{most:Nat}{one:PS→α×PS}(h:dN c one):dN c (c.list w most one):=Up.dW h most []
theorem Up.state:dN c c.state:=fun s=>(Up.take _).trans (Up.name.trans ((Up.take _).trans ((Up.list Up.fN _).trans (Up.take _))))
theorem Up.slot:dN c c.slot:=fun s=>(Up.take _).trans (Up.name.trans (Up.take _))
end
section
variable {N Pl:Type} {z:Nat} {f:N→List Value} {E:Nat} {p:N→Pl} {ok:cS→N→Prop} {q:PQ} {b:Nat} {w:ByteArray} {most:Nat} {one:PS→Pl×PS} {s0:PS} {F0:cR} {I J:cS} {F:cR} {a:Option Addr} {n c m:Nat}
end
end Go.Lx
namespace Go.Lx
open Go.Vc
def fi.dn(d:fi):Prop:=d.name.size≤140737488351232∧∀x∈d.AA,x.fs
def dT.dn(r:dT):Prop:=r.when.fs∧r.dos.length≤140737488351232∧∀d∈r.dos,d.dn
def dF.dn(x:dF):Prop:=x.name.size≤140737488351232∧x.rules.length≤140737488351232∧∀r∈x.rules,r.dn
def eY.dn(r:eY):Prop:=r.name.size≤140737488351232∧r.init.fs
def dB.dn(r:dB):Prop:=r.name.size≤140737488351232
structure eK.dn (s:eK):Prop where
 name:s.name.size≤140737488351232
 regs:s.regs.length≤140737488351232
 mb:∀r∈s.regs,r.dn
 slots:s.slots.length≤140737488351232
 slot:∀r∈s.slots,r.dn
 states:s.states.length≤140737488351232
 state:∀x∈s.states,x.dn
def fi.o3(d:fi):Prop:=Small d.AA
def dT.o3(r:dT):Prop:=r.when.size≤1048576∧r.dos.length≤1048576∧∀d∈r.dos,d.o3
def dF.o3(x:dF):Prop:=x.rules.length≤1048576∧∀r∈x.rules,r.o3
def nQ{α:Type}(f:α→Int):List α→Int
 | []=>0
 | x::r=>f x+nQ f r
def fi.iN(d:fi):Int:=1+d.side.size+d.qty.size+d.price.size+d.value.size
def dT.iN(r:dT):Int:=1+r.when.size+nQ fi.iN r.dos
def dF.iN(x:dF):Int:=1+nQ dT.iN x.rules
def eY.iN(r:eY):Int:=1+r.init.size
def eK.iN(s:eK):Int:=nQ eY.iN s.regs+s.slots.length+nQ dF.iN s.states
structure eK.o3 (s:eK):Prop where
 regs:s.regs.length≤1048576
 mb:∀r∈s.regs,r.init.size≤1048576
 slots:s.slots.length≤1048576
 states:s.states.length≤1048576
 state:∀x∈s.states,x.o3
 all:s.iN≤1048576
def jS.iN(d:jS):Int:=d.p.iN
def eD.iN(r:eD):Int:=r.p.iN
def dD.iN(r:dD):Int:=r.p.iN
def gy.iN(r:gy):Int:=r.p.iN
structure eK.zr (s:eK):Prop where
 regs:s.regs.length≤1048576
 mb:∀r∈s.regs,r.init.size≤1048576
 slots:s.slots.length≤1048576
 states:s.states.length≤1048576
 state:∀x∈s.states,x.o3
end Go.Lx
namespace Go.Vc
end Go.Vc
namespace Go.Lx
open Go.Vc
namespace Px
mutual
def same:Px→Px→Bool
 | .mk k o t n f s l q,y=>q==y.pos&&(ja (.mk k o t n f s l q) y&&(decide (l.length=y.kids.length)&&mo l y.kids))
def mo:List Px→List Px→Bool
 | [],_=>true
 | _::_,[]=>false
 | x::r,y::r'=>same x y&&mo r r'
end
theorem wj(x y:Px):x.same y=(x.pos==y.pos&&(ja x y&&(decide (x.kids.length=y.kids.length)&&mo x.kids y.kids))):=by cases x;rw[same];rfl
theorem sB(x:Px):ja x x=true:=by simp[ja]
theorem sC(x y:Px):ja x.bare y.bare=ja x y:=by cases x;cases y;rw[bare,bare];rfl
theorem xi:∀x:Px,x.same x=true:=by
 have hL:∀l:List Px,(∀x∈l,x.same x=true)→mo l l=true:=by
  intro l
  induction l with
  | nil=>intro _;rw[mo]
  | cons y r ih=>intro h;rw[mo,h y (List.mem_cons_self ..),ih fun x hx=>h x (List.mem_cons_of_mem _ hx)];rfl
 refine ind fun x ih=>?_
 rw[wj,sB,decide_eq_true rfl,hL _ ih];simp
theorem xj:∀x y:Px,x.bare.same y.bare=x.qY y:=by
 have hL:∀l m:List Px,(∀x∈l,∀y:Px,x.bare.same y.bare=x.qY y)→mo (l.map bare) (m.map bare)=kV l m:=by
  intro l
  induction l with
  | nil=>intro m _;rw[List.map_nil,mo,kV]
  | cons x r ih =>
    intro m h
    cases m with
    | nil=>rw[List.map_cons,List.map_nil,mo,kV]
    | cons y m=>rw[List.map_cons,List.map_cons,mo,kV,h x (List.mem_cons_self ..) y,ih m fun z hz=>h z (List.mem_cons_of_mem _ hz)]
 refine ind fun x ih y=>?_
 have e1:∀z:Px,z.bare.pos=0:=fun z=>by rw[nE];rfl
 have e2:∀z:Px,z.bare.kids=z.kids.map bare:=fun z=>by rw[nE];rfl
 rw[wj,wg,e1,e1,e2,e2,sC,List.length_map,List.length_map,hL _ _ ih]
 simp
end Px
def BE(z n:Nat)(a:Option Addr)(c:Nat)(A:cR):Prop :=
 ∃b cells e,a=some ⟨b,0,none⟩∧A=[(b,Obj.cells cells e (0,0))]∧c=n+2∧cells[n*z+(z-1)]? = some (.int .i64 (-771))
def nR{α:Type}(R:Bool)(z:Nat)(f:α→List Value)(E:Nat)(O:α→cR→Prop)(a:Option Addr)(n c:Nat)(l:List α)(H:cR):Prop :=
 ∃A hs,H=A++dM n hs∧Acc z f E a n c l A∧(R=true→BE z n a c A)∧∀(i:Nat) (k:α),l[i]? = some k→O k (hs i)
def iw(R:Bool)(d:jS)(H:cR):Prop:=∃H1 H2 H3 H4,H=H1++(H2++(H3++H4))∧ef 29 R d.side H1∧ef 29 R d.qty H2∧ef 29 R d.price H3∧ef 29 R d.value H4
def mT(R:Bool)(r:gy)(H:cR):Prop:=ef 29 R r.init H
def sD(r:dB)(H:cR):Prop:=H=[]
def kI(R:Bool)(r:eD)(H:cR):Prop:=∃H1 H2,H=H1++H2∧ef 29 R r.when H1∧nR R 36 jS.enc 140 (iw R) r.a r.dos.length r.c r.dos H2
def jx(R:Bool)(x:dD)(H:cR):Prop:=nR R 10 eD.enc 128 (kI R) x.a x.rules.length x.c x.rules H
def oE(R:Bool)(s:iS)(H:cR):Prop:=∃H1 H2 H3,H=H1++(H2++H3)∧nR R 11 gy.enc 92 (mT R) s.ra s.regs.length s.rc s.regs H1∧nR R 2 dB.enc 97 sD s.sa s.slots.length s.sc s.slots H2 ∧
 nR R 3 dD.enc 53 (jx R) s.ta s.states.length s.tc s.states H3
theorem nR.ok{α:Type}{R:Bool}{z E n c:Nat}{f:α→List Value}{O:α→cR→Prop}{a:Option Addr}{l:List α}{H:cR}(h:nR R z f E O a n c l H)(hz:∀x,(f x).length=z){I:cS}{G:cR}{K:α→Prop}(hG:∀x,x∈H→x∈G)
  (hk:∀x H',O x H'→(∀y,y∈H'→y∈G)→K x):pk I G z f a n l∧∀x∈l,K x:=by
 obtain⟨A,hs,rfl,hA, -,hO⟩:=h
 refine⟨hA.C2 hz I fun x hx=>hG x (List.mem_append_left _ hx),fun x hx=>?_⟩
 obtain⟨i,hi,rfl⟩:=List.mem_iff_getElem.1 hx
 have hn:=hA.1
 exact hk _ _ (hO i _ (List.getElem?_eq_getElem hi)) fun y hy=>hG y (List.mem_append_right _ (rE (by omega) hy))
theorem iw.ok{R:Bool}{d:jS}{H:cR}(h:iw R d H){I:cS}{G:cR}(hG:∀x,x∈H→x∈G):d.Ok I G:=by
 obtain⟨H1,H2,H3,H4,rfl,h1,h2,h3,h4⟩:=h
 simp only[List.mem_append] at hG
 exact⟨h1.ok fun x hx=>hG x (.inl hx),h2.ok fun x hx=>hG x (.inr (.inl hx)),h3.ok fun x hx=>hG x (.inr (.inr (.inl hx))),h4.ok fun x hx=>hG x (.inr (.inr (.inr hx)))⟩
theorem mT.ok{R:Bool}{d:gy}{H:cR}(h:mT R d H){I:cS}{G:cR}(hG:∀x,x∈H→x∈G):d.Ok I G:=ef.ok h hG
theorem kI.ok{R:Bool}{r:eD}{H:cR}(h:kI R r H){I:cS}{G:cR}(hG:∀x,x∈H→x∈G):r.Ok I G:=by
 obtain⟨H1,H2,rfl,h1,h2⟩:=h
 obtain⟨g1,g2⟩:=h2.ok (I:=I) (G:=G) (K:=fun d=>d.Ok I G) (fun _=>rfl) (fun x hx=>hG x (List.mem_append_right _ hx)) fun x H' hO hs=>iw.ok hO hs
 exact⟨h1.ok fun x hx=>hG x (List.mem_append_left _ hx),g1,g2⟩
theorem jx.ok{R:Bool}{r:dD}{H:cR}(h:jx R r H){I:cS}{G:cR}(hG:∀x,x∈H→x∈G):r.Ok I G :=
 nR.ok h (fun _=>rfl) hG fun x H' hO hs=>kI.ok hO hs
theorem oE.ok{R:Bool}{s:iS}{H:cR}(h:oE R s H){I:cS}{G:cR}(hG:∀x,x∈H→x∈G):s.Ok I G:=by
 obtain⟨H1,H2,H3,rfl,h1,h2,h3⟩:=h
 simp only[List.mem_append] at hG
 obtain⟨a1,a2⟩:=h1.ok (I:=I) (G:=G) (K:=fun d=>d.Ok I G) (fun _=>rfl) (fun x hx=>hG x (.inl hx)) fun x H' hO hs=>mT.ok hO hs
 obtain⟨b1, -⟩:=h2.ok (I:=I) (G:=G) (K:=fun d=>True) (fun _=>rfl) (fun x hx=>hG x (.inr (.inl hx))) fun x H' hO hs=>trivial
 obtain⟨c1,c2⟩:=h3.ok (I:=I) (G:=G) (K:=fun d=>d.Ok I G) (fun _=>rfl) (fun x hx=>hG x (.inr (.inr hx))) fun x H' hO hs=>jx.ok hO hs
 exact⟨a1,a2,b1,c1,c2⟩
def Part{α:Type}(z:Nat)(f:α→List Value)(E:Nat)(O:α→cR→Prop)(a:Option Addr)(n c:Nat)(l:List α)(F F':cR):Prop :=
 ∃A hs,Acc z f E a n c l A∧(∀(i:Nat) (k:α),l[i]? = some k→O k (hs i))∧F'.Perm (A++(dM l.length hs++F))
theorem Part.nil{α:Type}{z E:Nat}{f:α→List Value}{O:α→cR→Prop}{F:cR}:Part z f E O none 0 0 ([]:List α) F F:=⟨[],fun _=>[],Acc.nil,fun i k h=>by simp at h,.refl _⟩
theorem xk{α:Type}{z E n c:Nat}{f:α→List Value}{O:α→cR→Prop}{a:Option Addr}{l:List α}{F:cR}{hs:Nat→cR}{x:α}{Hx A' G:cR}(hA':Acc z f E a n c (l++[x]) A')(hk:∀(i:Nat) (k:α),l[i]? = some k→O k (hs i))(hx:O x Hx)
  (hG:G.Perm (A'++(Hx++(dM l.length hs++F)))):Part z f E O a n c (l++[x]) F G:=by
 refine⟨A',fun j=>if j<l.length then hs j else Hx,hA',fun j k hj=>?_, ?_⟩
 ·show O k (if j<l.length then hs j else Hx)
  rw[List.getElem?_append] at hj
  split at hj
  ·rename_i hlt';rw[if_pos hlt'];exact hk j k hj
  ·rename_i hge
   have hj':=List.mem_of_getElem? hj
   rw[List.mem_singleton] at hj'
   rw[if_neg hge,hj'];exact hx
 ·rw[List.length_append,List.length_singleton,mP,if_neg (Nat.lt_irrefl _),tY (hs':=hs) fun j hj=>if_pos hj]
  exact hG.trans (cU fun z=>by simp only[cY];omega)
theorem jn{P:Program}{α:Type}{z:Nat}{f:α→List Value}(hz:∀x,(f x).length=z){t ty e:TypeId}{zv:Value}{by':Nat}(ht:P.underlying t=some (.slice e))(hi:(P.info? e).map (fun i=>(i.zero,i.size,i.bytes))=some (some zv,z,by'))(hzs:zv.cells.size=z)(hb:1≤by')
  {a:Option Addr} {n c:Nat} {l:List α} {O:α→cR→Prop} {F F1 F2 R0 Hx:cR} {x:α} (h:Part z f e O a n c l F F1) (h1:∀u∈f x,u.oneCell'=true) {b:Nat} {I:cS} {o:Obj} (ho:o=.cells (f x).toArray e (0,0)) (hbm:I b=some o)
  (hx:O x Hx) (hF2:F2.Perm (R0++(Hx++F1))) (hfit:(l.length+1)*by'≤140737488355328) :
  eM P (Builtin.append_ #[t,t] ty #[.slice a n c,.slice (some ⟨b,0,none⟩) 1 1]) I F2 fun v I' G=>∃a' n' c',v=.slice a' n' c'∧∃F3,G.Perm (R0++F3)∧Part z f e O a' n' c' (l++[x]) F F3:=by
 obtain⟨A,hs,hA,hk,hp⟩:=h
 subst ho
 refine eM.perm (eM.mono (nC hz ht hi hzs hb hA (xs:=[x]) (fun y hy=>by rw[List.mem_singleton] at hy;rw[hy];exact h1) (by simp) rfl ?_ (by simpa using hfit) (F:=R0++(Hx++(dM l.length hs++F)))) fun v I2 G hI2 ⟨a',n',c',A',hv,hA',hG',_⟩=>?_) ?_
 ·refine⟨rfl,_,_,_,.inl hbm,fun j hj=>?_⟩
  simp
 ·subst hG'
  exact⟨a',n',c',hv,A'++(Hx++(dM l.length hs++F)),cU fun z=>by simp only[cY];omega,xk hA' hk hx (.refl _)⟩
 ·refine hF2.trans ?_
  exact cU fun z=>by have:=sm hp z;simp only[cY] at this ⊢;omega
def fi.bare(d:fi):fi:=⟨d.kind,d.order,d.name,d.side.bare,d.qty.bare,d.price.bare,d.value.bare,0⟩
def dT.bare(r:dT):dT:=⟨r.when.bare,r.dos.map fi.bare,0⟩
def dF.bare(x:dF):dF:=⟨x.name,x.rules.map dT.bare,0⟩
def eY.bare(r:eY):eY:=⟨r.name,r.dU,r.init.bare,0⟩
def dB.bare(r:dB):dB:=⟨r.name,0⟩
def eK.bare(s:eK):eK:=⟨s.name,s.regs.map eY.bare,s.slots.map dB.bare,s.states.map dF.bare⟩
def c7.Fs(m:c7){α:Type}(rel:α→α→Prop)(g g':PS→α×PS):Prop:=∀s s',m.Rs s s'→m.Gd (g s).2→m.Rs (g s).2 (g' s').2∧rel (g s).1 (g' s').1
def c7.nr(x x':ByteArray):Prop:=x'=x
def c7.dr(x x':fi):Prop:=x'.bare=x.bare
def c7.dl(l l':List fi):Prop:=l'.map fi.bare=l.map fi.bare
def c7.ur(x x':dT):Prop:=x'.bare=x.bare
def c7.gr(x x':eY):Prop:=x'.bare=x.bare
def c7.sr(x x':dB):Prop:=x'.bare=x.bare
def c7.tr(x x':dF):Prop:=x'.bare=x.bare
section
variable {m:c7} (hm:m.Ok) (hd:m.δ=0) (hv:m.ov=false)
include hm hd hv
theorem c7.dC:m.Fs c7.xr m.c.dC m.c'.dC:=fun s s' h hg=>by
 have h1:=(c7.lvl hm 24 24 0 (by decide) (by rw[hd];decide)).1 s s' h hg
 rw[hd] at h1
 rcases h1 with h1 | ⟨h1,_⟩
 ·exact h1
 ·rw[hd] at h1;exact absurd h1 (by decide)
theorem c7.kind{s s':PS}(h:m.Rs s s')(hg:m.Gd s):(m.c'.now s').kind=(m.c.now s).kind:=by
 rcases c7.now hm h hg with ⟨h1,_⟩ | ⟨h1,_⟩
 ·exact h1
 ·rw[hv] at h1;cases h1
theorem c7.gd{s:PS}(h:s.next≤m.K):m.Gd s:=⟨h,fun ho=>by rw[hv] at ho;cases ho⟩
theorem c7.jT{nm:ByteArray}{t p q p' q':Int}{b:Bool}{n n':Px}(hn:c7.xr n n'):m.Fs c7.gr (m.c.jT nm t p q b n) (m.c'.jT nm t p' q' b n'):=fun s s' h hg=>by
 refine⟨c7.take hm h _ hg, ?_⟩
 show eY.bare ⟨nm,t,if b then .mk 5 1 0 0 0 ⟨#[]⟩ [n'] q' else n',p'⟩=eY.bare ⟨nm,t,if b then .mk 5 1 0 0 0 ⟨#[]⟩ [n] q else n,p⟩
 have:c7.xr (if b then .mk 5 1 0 0 0 ⟨#[]⟩ [n] q else n) (if b then .mk 5 1 0 0 0 ⟨#[]⟩ [n'] q' else n'):=by
  split
  ·exact .mk (.one hn)
  ·exact hn
 unfold eY.bare
 rw[show _=_ from this]
theorem c7.ic{nm:ByteArray}{t p q p' q':Int}{b:Bool}:m.Fs c7.gr (m.c.ic nm t p q b) (m.c'.ic nm t p' q' b):=fun s s' h hg=>by
 have h0:=c7.back hm (Up.ic s) (fun f h=>Kp.ic _ _ _ _ _ _ h) hg
 obtain⟨l1,l2,l3⟩:=c7.literal hm h h0
 unfold PC.ic at hg ⊢
 rw[c7.kind hm hd hv h h0,l3]
 split
 ·exact⟨c7.cV hm h h0.1,rfl⟩
 ·rename_i hc
  rw[if_neg hc] at hg
  refine c7.jT hm hd hv l2 _ _ ?_ hg
  split
  ·exact l1
  ·rename_i hc2
   rw[if_neg hc2] at hg
   have g1:=c7.back hm (Up.jT _) (fun f h=>Kp.jT _ _ _ _ _ _ _ h) hg
   have:=g1.1;rw[gf] at this
   exact c7.cV hm l1 this
theorem c7.iD{nm:ByteArray}{t p p':Int}:m.Fs c7.gr (m.c.iD nm t p) (m.c'.iD nm t p'):=fun s s' h hg=>by
 have h0:=c7.back hm (Up.iD s) (fun f h=>Kp.iD _ _ _ _ h) hg
 unfold PC.iD at hg ⊢
 rw[c7.dH hm h h0 (.inr hv)]
 refine c7.ic hm hd hv _ _ ?_ hg
 split
 ·exact h.inc
 ·exact h
theorem c7.iM{nm:ByteArray}{p p':Int}:m.Fs c7.gr (m.c.iM nm p) (m.c'.iM nm p'):=fun s s' h hg=>by
 have h0:=c7.back hm (Up.iM s) (fun f h=>Kp.iM _ _ _ h) hg
 unfold PC.iM at hg ⊢
 rw[c7.any hm h h0 (by kernel_rfl)]
 split
 ·exact⟨c7.cV hm h h0.1,rfl⟩
 ·rename_i hc
  rw[if_neg hc] at hg
  have g1:=c7.back hm (Up.iD _) (fun f h=>Kp.iD _ _ _ _ h) hg
  exact c7.iD hm hd hv _ _ (c7.take hm h.inc _ g1) hg
theorem c7.mb:m.Fs c7.gr m.c.mb m.c'.mb:=fun s s' h hg=>by
 unfold PC.mb at hg ⊢
 have g2:=c7.back hm (Up.iM _) (fun f h=>Kp.iM _ _ _ h) hg
 have g1:=c7.back hm Up.name (fun f h=>h.name) g2
 obtain⟨n1,n2⟩:=c7.name hm (c7.take hm h _ g1) g2
 rw[n2]
 exact c7.iM hm hd hv _ _ n1 hg
theorem c7.dS:m.Fs c7.nr m.c.dS m.c'.dS:=fun s s' h hg=>by
 have h0:=c7.back hm (Up.dS s) (fun f h=>Kp.dS _ h) hg
 unfold PC.dS at hg ⊢
 rw[c7.dH hm h h0 (.inr hv)]
 split
 ·rename_i hc;rw[if_pos hc] at hg;exact c7.name hm h.inc hg
 ·exact⟨h,rfl⟩
theorem c7.iU{x y z x' y' z':Px}{p p' o:Int}(hx:c7.xr x x')(hy:c7.xr y y')(hz:c7.xr z z'):m.Fs c7.dr (m.c.iU x y p z o) (m.c'.iU x' y' p' z' o):=fun s s' h hg=>by
 obtain⟨h1,h2⟩:=c7.dS hm hd hv s s' h hg
 refine⟨h1, ?_⟩
 show fi.bare ⟨1,o,(m.c'.dS s').1,x',y',z',dZ,p'⟩=fi.bare ⟨1,o,(m.c.dS s).1,x,y,z,dZ,p⟩
 unfold fi.bare
 rw[show _=_ from h2,show _=_ from hx,show _=_ from hy,show _=_ from hz]
theorem c7.gZ{x y z x' y' z':Px}{p p':Int}(hx:c7.xr x x')(hy:c7.xr y y')(hz:c7.xr z z'):m.Fs c7.dr (m.c.gZ x y p z) (m.c'.gZ x' y' p' z'):=fun s s' h hg=>by
 have h0:=c7.back hm (Up.gZ s) (fun f h=>Kp.gZ _ _ _ _ _ h) hg
 unfold PC.gZ at hg ⊢
 rw[c7.any hm h h0 (by kernel_rfl)]
 split
 ·refine⟨c7.cV hm h h0.1, ?_⟩
  show fi.bare ⟨1,2,⟨#[]⟩,x',y',z',dZ,p'⟩=fi.bare ⟨1,2,⟨#[]⟩,x,y,z,dZ,p⟩
  unfold fi.bare
  rw[show _=_ from hx,show _=_ from hy,show _=_ from hz]
 ·rename_i hc;rw[if_neg hc] at hg;exact c7.iU hm hd hv hx hy hz _ _ h.inc hg
theorem c7.gN{x y x' y':Px}{p p':Int}(hx:c7.xr x x')(hy:c7.xr y y'):m.Fs c7.dr (m.c.gN x y p) (m.c'.gN x' y' p'):=fun s s' h hg=>by
 have h0:=c7.back hm (Up.gN s) (fun f h=>Kp.gN _ _ _ _ h) hg
 unfold PC.gN at hg ⊢
 rw[c7.any hm h h0 (by kernel_rfl)]
 split
 ·refine⟨c7.cV hm h h0.1, ?_⟩
  show fi.bare ⟨1,0,⟨#[]⟩,x',y',dZ,dZ,p'⟩=fi.bare ⟨1,0,⟨#[]⟩,x,y,dZ,dZ,p⟩
  unfold fi.bare
  rw[show _=_ from hx,show _=_ from hy]
 ·rename_i hc
  rw[if_neg hc] at hg
  split
  ·rename_i hc2
   rw[if_pos hc2] at hg
   have g1:=c7.back hm (Up.gZ _) (fun f h=>Kp.gZ _ _ _ _ _ h) hg
   obtain⟨h1,h2⟩:=c7.dC hm hd hv _ _ h.inc g1
   exact c7.gZ hm hd hv hx hy h2 _ _ h1 hg
  ·rename_i hc2
   rw[if_neg hc2] at hg
   exact c7.iU hm hd hv hx hy rfl _ _ h.inc hg
theorem c7.gb:m.Fs c7.dr m.c.gb m.c'.gb:=fun s s' h hg=>by
 unfold PC.gb PC.qZ at hg ⊢
 have g4:=c7.back hm (Up.gN _) (fun f h=>Kp.gN _ _ _ _ h) hg
 have g3:=c7.back hm (Up.dC _) (fun f h=>Kp.dC _ h) g4
 have g2:=c7.back hm (Up.take _) (fun f h=>h.take _) g3
 have g1:=c7.back hm (Up.dC _) (fun f h=>Kp.dC _ h) g2
 obtain⟨k1,e1⟩:=c7.dC hm hd hv _ _ (c7.take hm h _ g1) g2
 obtain⟨k2,e2⟩:=c7.dC hm hd hv _ _ (c7.take hm k1 _ g3) g4
 exact c7.gN hm hd hv e1 e2 _ _ k2 hg
theorem c7.mc{k:Int}{nm:ByteArray}{p p':Int}:m.Fs c7.dr (m.c.mc k nm p) (m.c'.mc k nm p'):=fun s s' h hg=>by
 unfold PC.mc at hg ⊢
 split
 ·rename_i hc
  rw[if_pos hc] at hg
  unfold PC.yt at hg ⊢
  have g4:m.Gd (m.c.dC (m.c.take (⟨#[97,116]⟩:ByteArray) (m.c.dC (m.c.take (⟨#[116,111]⟩:ByteArray) s).2).2).2).2:=hg
  have g3:=c7.back hm (Up.dC _) (fun f h=>Kp.dC _ h) g4
  have g2:=c7.back hm (Up.take _) (fun f h=>h.take _) g3
  have g1:=c7.back hm (Up.dC _) (fun f h=>Kp.dC _ h) g2
  obtain⟨k1,e1⟩:=c7.dC hm hd hv _ _ (c7.take hm h _ g1) g2
  obtain⟨k2,e2⟩:=c7.dC hm hd hv _ _ (c7.take hm k1 _ g3) g4
  refine⟨k2, ?_⟩
  unfold c7.dr fi.bare
  show fi.mk _ _ _ _ _ _ _ _=fi.mk _ _ _ _ _ _ _ _
  rw[show _=_ from e1,show _=_ from e2]
 ·rename_i hc
  rw[if_neg hc] at hg
  split
  ·rename_i hc2
   rw[if_pos hc2] at hg
   unfold PC.Bi at hg ⊢
   have g4:m.Gd (m.c.dC (m.c.take (⟨#[61]⟩:ByteArray) s).2).2:=hg
   have g3:=c7.back hm (Up.dC _) (fun f h=>Kp.dC _ h) g4
   obtain⟨k1,e1⟩:=c7.dC hm hd hv _ _ (c7.take hm h _ g3) g4
   refine⟨k1, ?_⟩
   unfold c7.dr fi.bare
   show fi.mk _ _ _ _ _ _ _ _=fi.mk _ _ _ _ _ _ _ _
   rw[show _=_ from e1]
  ·exact⟨h,rfl⟩
theorem c7.do:m.Fs c7.dr m.c.do m.c'.do:=fun s s' h hg=>by
 have h0:=c7.back hm (Up.do s) (fun f h=>Kp.do _ h) hg
 unfold PC.do at hg ⊢
 rw[c7.any hm h h0 (by kernel_rfl)]
 split
 ·exact⟨c7.cV hm h h0.1,rfl⟩
 ·rename_i hc
  rw[if_neg hc] at hg
  split
  ·rename_i hc2;rw[if_pos hc2] at hg;exact c7.gb hm hd hv _ _ h hg
  ·rename_i hc2
   rw[if_neg hc2] at hg
   split
   ·rename_i hc3;rw[if_pos hc3] at hg;exact c7.mc hm hd hv _ _ h.inc hg
   ·rename_i hc3
    rw[if_neg hc3] at hg
    have g1:=c7.back hm (Up.mc _) (fun f h=>Kp.mc _ _ _ _ h) hg
    obtain⟨n1,n2⟩:=c7.name hm h.inc g1
    rw[n2]
    exact c7.mc hm hd hv _ _ n1 hg
theorem c7.many{s s':PS}(h:m.Rs s s')(hs:s.next≤m.K)(n k:Nat):m.Rs (m.c.many n k s) (m.c'.many n k s'):=by
 unfold PC.many
 split
 ·exact c7.cV hm h hs
 ·exact h
theorem c7.eQ:∀(k:Nat) (l l':List fi),c7.dl l l'→m.Fs c7.dl (m.c.eQ k l) (m.c'.eQ k l')
 | 0,l,l',hl=>fun s s' h hg=>⟨h,hl⟩
 | k+1,l,l',hl=>fun s s' h hg=>by
   have hln:l'.length=l.length:=by have:=congrArg List.length (show _=_ from hl);rwa [List.length_map,List.length_map] at this
   rw[PC.eQ] at hg ⊢
   rw[PC.eQ,hln]
   have g1:m.Gd (m.c.do s).2:=by
    refine c7.gd hm hd hv ?_
    have h1:=hg.1
    split at h1
    ·split at h1
     ·have h1:(m.c.many (l.length+1) 8 (m.c.do s).2).next≤m.K:=h1
      rw[lO] at h1;exact h1
     ·have:=(Up.eQ (c:=m.c) k (l++[(m.c.do s).1]) (m.c.many (l.length+1) 8 (m.c.do s).2).inc).1
      rw[ft,lO] at this;omega
    ·exact h1
   obtain⟨k1,e1⟩:=c7.do hm hd hv _ _ h g1
   have hl2:c7.dl (l++[(m.c.do s).1]) (l'++[(m.c'.do s').1]):=by
    unfold c7.dl;rw[List.map_append,List.map_append,List.map_singleton,List.map_singleton,show _=_ from hl,show _=_ from e1]
   rw[c7.dH hm k1 g1 (.inr hv)]
   have hmr:=c7.many hm hd hv k1 g1.1 (l.length+1) 8
   rw[hmr.over]
   split
   ·rename_i hc
    rw[if_pos hc] at hg
    split
    ·exact⟨hmr,hl2⟩
    ·rename_i hc2
     rw[if_neg hc2] at hg
     exact c7.eQ k _ _ hl2 _ _ hmr.inc hg
   ·exact⟨k1,hl2⟩
theorem c7.fN:m.Fs c7.ur m.c.fN m.c'.fN:=fun s s' h hg=>by
 unfold PC.fN PC.jK at hg ⊢
 have g5:m.Gd (m.c.take (⟨#[59]⟩:ByteArray) (m.c.eQ 8 [] (m.c.take (⟨#[100,111]⟩:ByteArray) (m.c.dC (m.c.take (⟨#[119,104,101,110]⟩:ByteArray) s).2).2).2).2).2:=hg
 have g4:=c7.back hm (Up.take _) (fun f h=>h.take _) g5
 have g3:=c7.back hm (Up.eQ 8 [] _) (fun f h=>Kp.eQ _ _ _ h) g4
 have g2:=c7.back hm (Up.take _) (fun f h=>h.take _) g3
 have g1:=c7.back hm (Up.dC _) (fun f h=>Kp.dC _ h) g2
 obtain⟨k1,e1⟩:=c7.dC hm hd hv _ _ (c7.take hm h _ g1) g2
 obtain⟨k2,e2⟩:=c7.eQ hm hd hv 8 [] [] rfl _ _ (c7.take hm k1 _ g3) g4
 refine⟨c7.take hm k2 _ g5, ?_⟩
 unfold c7.ur dT.bare
 show dT.mk _ _ _=dT.mk _ _ _
 rw[show _=_ from e1,show _=_ from e2]
theorem c7.dW{α:Type}{bare:α→α}{w:ByteArray}{most:Nat}{one one':PS→α×PS}(h0:dN m.c one)(hf:m.Fs (fun x x'=>bare x'=bare x) one one') :
  ∀(k:Nat) (l l':List α),l'.map bare=l.map bare→m.Fs (fun x x'=>x'.map bare=x.map bare) (m.c.dW w most one k l) (m.c'.dW w most one' k l')
 | 0,l,l',hl=>fun s s' h hg=>by
   have hln:l'.length=l.length:=by have:=congrArg List.length hl;rwa [List.length_map,List.length_map] at this
   have h1:m.Gd s:=by
    refine c7.gd hm hd hv ?_
    have h1:=hg.1
    rw[PC.dW] at h1
    have h1:(if m.c.dH w s then m.c.many l.length most s else s).next≤m.K:=h1
    split at h1
    ·rw[lO] at h1;exact h1
    ·exact h1
   rw[PC.dW,PC.dW,c7.dH hm h h1 (.inr hv),hln]
   refine⟨?_,hl⟩
   show m.Rs (if _ then _ else _) (if _ then _ else _)
   split
   ·exact c7.many hm hd hv h h1.1 _ _
   ·exact h
 | k+1,l,l',hl=>fun s s' h hg=>by
   have hln:l'.length=l.length:=by have:=congrArg List.length hl;rwa [List.length_map,List.length_map] at this
   have h1:m.Gd s:=c7.gd hm hd hv (Nat.le_trans (Up.dW (w:=w) (most:=most) h0 (k+1) l s).1 hg.1)
   rw[PC.dW] at hg ⊢
   rw[PC.dW,c7.dH hm h h1 (.inr hv),hln]
   have hmr:=c7.many hm hd hv h h1.1 l.length most
   rw[hmr.over]
   split
   ·rename_i hc
    rw[if_pos hc] at hg
    split
    ·exact⟨hmr,hl⟩
    ·rename_i hc2
     rw[if_neg hc2] at hg
     have g1:m.Gd (one (m.c.many l.length most s)).2:=c7.gd hm hd hv (Nat.le_trans (Up.dW (w:=w) (most:=most) h0 k _ _).1 hg.1)
     obtain⟨k1,e1⟩:=hf _ _ hmr g1
     exact c7.dW h0 hf k _ _ (by rw[List.map_append,List.map_append,List.map_singleton,List.map_singleton,hl,e1]) _ _ k1 hg
   ·exact⟨h,hl⟩
theorem c7.list{α:Type}{bare:α→α}{w:ByteArray}{most:Nat}{one one':PS→α×PS}(h0:dN m.c one)(hf:m.Fs (fun x x'=>bare x'=bare x) one one'):m.Fs (fun x x'=>x'.map bare=x.map bare) (m.c.list w most one) (m.c'.list w most one') :=
 c7.dW hm hd hv h0 hf most [] [] rfl
theorem c7.state:m.Fs c7.tr m.c.state m.c'.state:=fun s s' h hg=>by
 unfold PC.state PC.jU at hg ⊢
 have g5:m.Gd (m.c.take (⟨#[125]⟩:ByteArray) (m.c.list (⟨#[119,104,101,110]⟩:ByteArray) 12 m.c.fN (m.c.take (⟨#[123]⟩:ByteArray) (m.c.name (m.c.take (⟨#[115,116,97,116,101]⟩:ByteArray) s).2).2).2).2).2:=hg
 have g4:=c7.back hm (Up.take _) (fun f h=>h.take _) g5
 have g3:=c7.back hm (Up.list Up.fN _) (fun f h=>Kp.list _ _ _ _ h) g4
 have g2:=c7.back hm (Up.take _) (fun f h=>h.take _) g3
 have g1:=c7.back hm Up.name (fun f h=>h.name) g2
 obtain⟨n1,n2⟩:=c7.name hm (c7.take hm h _ g1) g2
 obtain⟨k2,e2⟩:=c7.list hm hd hv (w:=(⟨#[119,104,101,110]⟩:ByteArray)) (most:=12) (bare:=dT.bare) Up.fN (c7.fN hm hd hv) _ _ (c7.take hm n1 _ g3) g4
 refine⟨c7.take hm k2 _ g5, ?_⟩
 unfold c7.tr dF.bare
 show dF.mk _ _ _=dF.mk _ _ _
 rw[n2,e2]
theorem c7.slot:m.Fs c7.sr m.c.slot m.c'.slot:=fun s s' h hg=>by
 unfold PC.slot at hg ⊢
 have g3:m.Gd (m.c.take (⟨#[59]⟩:ByteArray) (m.c.name (m.c.take (⟨#[115,108,111,116]⟩:ByteArray) s).2).2).2:=hg
 have g2:=c7.back hm (Up.take _) (fun f h=>h.take _) g3
 have g1:=c7.back hm Up.name (fun f h=>h.name) g2
 obtain⟨n1,n2⟩:=c7.name hm (c7.take hm h _ g1) g2
 refine⟨c7.take hm n1 _ g3, ?_⟩
 unfold c7.sr dB.bare
 show dB.mk _ _=dB.mk _ _
 rw[n2]
end
end Go.Lx
namespace Go.Lx
open Go.Vc
def Can(c:PC)(s:PS):Prop:=s.next<c.l.length∧s.over=false∧(c.tok s.next).kind≠0
inductive dz (c:PC):PS→PS→Prop
 | refl {s:PS}:dz c s s
 | step {s:PS}:Can c s→dz c s s.inc
 | cV {s:PS} (e:Int):dz c s (c.cV e s)
 | trans {a b d:PS}:dz c a b→dz c b d→dz c a d
theorem dz.inc{c:PC}{s:PS}(h:Can c s):dz c s s.inc:=.step h
theorem lP{c:PC}{s:PS}(h:(c.now s).kind≠0):Can c s:=by
 have h1:=mS h
 have h2:=xh h
 refine⟨h1,h2, ?_⟩
 unfold PC.now at h
 rwa [h2,decide_eq_false (by omega),if_neg (by decide)] at h
theorem jd{c:PC}{s:PS}{w:ByteArray}(h:c.dH w s=true):Can c s:=by
 refine lP fun hk=>?_
 unfold PC.dH at h
 rw[hk] at h
 simp at h
theorem ie{c:PC}{s:PS}{ws:List ByteArray}(h:0≤c.any ws s):Can c s:=by
 have:∀(ws:List ByteArray) (i:Int),0≤i→0≤c.fe s ws i→Can c s∨c.fe s ws i = -1:=by
  intro ws
  induction ws with
  | nil=>intro i _ h;rw[PC.fe] at h;exact absurd h (by decide)
  | cons w r ih =>
    intro i hi h
    rw[PC.fe] at h ⊢
    split at h
    ·rename_i hw;exact .inl (jd hw)
    ·rename_i hw;rw[if_neg hw];exact ih _ (by omega) h
 rcases this ws 0 (Int.le_refl 0) h with h1 | h1
 ·exact h1
 ·unfold PC.any at h;rw[h1] at h;exact absurd h (by decide)
theorem dz.cT{c:PC}{s:PS}(d:Int):dz c s (c.cT d s):=by
 unfold PC.cT;split
 ·exact .cV _
 ·exact .refl
theorem dz.many{c:PC}{s:PS}(n m:Nat):dz c s (c.many n m s):=by
 unfold PC.many;split
 ·exact .cV _
 ·exact .refl
def Mv(c:PC){α:Type}(f:PS→α×PS):Prop:=∀s,dz c s (f s).2
section
variable {c:PC} {s:PS}
theorem dz.take(w:ByteArray):dz c s (c.take w s).2:=by
 unfold PC.take;split
 ·rename_i h;exact .inc (jd h)
 ·exact .cV _
theorem dz.name:dz c s (c.name s).2:=by
 unfold PC.name;split
 ·rename_i h;exact .inc (lP (by rw[h];decide))
 ·exact .cV _
theorem dz.literal:dz c s (c.literal s).2:=by
 unfold PC.literal
 split
 ·rename_i h;exact .inc (lP (by rw[h];decide))
 ·split
  ·rename_i h;exact .inc (lP (by rw[h.1];decide))
  ·split
   ·rename_i h;exact .inc (lP (by rw[h.1];decide))
   ·exact .refl
end
section
variable {c:PC} {nx:Lv} (hx:Mv c nx.ex) (hu:Mv c nx.un)
include hx
theorem dz.kids:∀(n:Nat) (f:Bool) (s:PS),dz c s (c.dv nx n f s).2
 | 0,f,s=>.refl
 | n+1,f,s=>by
   rw[PC.dv]
   refine dz.trans ?_ (dz.kids n false _)
   refine dz.trans ?_ (hx _)
   split
   ·exact .refl
   ·exact .take _
theorem dz.call{d kind oper dU pos:Int}{many:Nat}{s:PS}(hl:Can c s):dz c s (c.call nx d kind oper dU pos many s).2:=by
 unfold PC.call
 split
 ·exact .cT _
 ·rename_i h
  obtain⟨_,he⟩:=eW hl.1 (by simpa using h)
  rw[he]
  exact ((dz.inc hl).trans (.take _)).trans ((dz.kids hx _ _ _).trans (.take _))
theorem dz.rest(d:Int):Mv c (c.rest nx d):=fun s=>by
 unfold PC.rest
 split
 ·rename_i h
  have hl:=jd h
  split
  ·exact (dz.inc hl).trans (.cV _)
  ·rename_i h2
   exact (dz.inc hl).trans (.inc (ie (Int.not_lt.1 h2)))
 ·split
  ·rename_i h
   have hl:=jd h
   split
   ·exact .cT _
   ·rename_i h2
    obtain⟨_,he⟩:=eW hl.1 (by simpa using h2)
    rw[he]
    exact (dz.inc hl).trans ((hx _).trans (.take _))
  ·exact .cV _
theorem dz.one(d:Int):Mv c (c.one nx d):=fun s=>by
 unfold PC.one
 split
 ·exact .literal
 ·split
  ·rename_i h;exact .inc (lP (by rw[h];decide))
  ·split
   ·rename_i h;exact .inc (ie h)
   ·split
    ·rename_i h;exact .call hx (ie h)
    ·split
     ·rename_i h;exact .call hx (ie h)
     ·exact dz.rest hx d s
include hu
theorem dz.unary(d:Int):Mv c (c.unary nx d):=fun s=>by
 unfold PC.unary
 split
 ·exact dz.one hx d s
 ·rename_i h
  have hl:=ie (c:=c) (s:=s) (ws:=jw) (by omega)
  split
  ·exact .cT _
  ·rename_i h2
   obtain⟨_,he⟩:=eW hl.1 (by simpa using h2)
   rw[he]
   exact (dz.inc hl).trans (hu _)
end
theorem dz.dA{c:PC}{ws:List ByteArray}{o:Int}{sub:PS→Px×PS}(h:Mv c sub):∀(m:Nat) (n:Px) (s:PS),dz c s (c.dA ws o sub m n s).2
 | 0,n,s=>.refl
 | m+1,n,s=>by
   rw[PC.dA]
   split
   ·exact .refl
   ·rename_i h2
    exact ((dz.inc (ie (Int.not_lt.1 h2))).trans (h _)).trans (dz.dA h m _ _)
theorem dz.loop{c:PC}{ws:List ByteArray}{o:Int}{sub:PS→Px×PS}(h:Mv c sub):Mv c (c.loop ws o sub):=fun s=>(h s).trans (.dA h _ _ _)
section
variable {c:PC} {nx:Lv} (hx:Mv c nx.ex) (hu:Mv c nx.un) (d:Int)
include hx hu
theorem dz.product:Mv c (c.product nx d):=dz.loop (dz.unary hx hu d)
theorem dz.sum:Mv c (c.sum nx d):=dz.loop (dz.product hx hu d)
theorem dz.compare:Mv c (c.compare nx d):=fun s=>by
 unfold PC.compare
 have h1:=dz.sum hx hu d s
 show dz c s (if c.any gY (c.sum nx d s).2<0 then c.sum nx d s else _).2
 split
 ·exact h1
 ·rename_i h2
  exact (h1.trans (.inc (ie (Int.not_lt.1 h2)))).trans (dz.sum hx hu d _)
theorem dz.and:Mv c (c.and nx d):=dz.loop (dz.compare hx hu d)
theorem dz.or:Mv c (c.or nx d):=dz.loop (dz.and hx hu d)
theorem dz.expr:Mv c (c.expr nx d):=fun s=>by
 unfold PC.expr
 have h1:=dz.or hx hu d s
 show dz c s (if c.dH _ (c.or nx d s).2 then _ else _:Px×PS).2
 split
 ·rename_i h2
  have hl:=jd h2
  show dz c s (if (c.cT d (c.or nx d s).2).over then _ else _:Px×PS).2
  split
  ·exact h1.trans (.cT _)
  ·rename_i h3
   obtain⟨_,he⟩:=eW hl.1 (by simpa using h3)
   rw[he]
   exact h1.trans ((dz.inc hl).trans ((hx _).trans ((dz.take _).trans (hx _))))
 ·exact h1
end
theorem dz.lvl{c:PC}:∀(k:Nat) (d:Int),Mv c (c.lvl k d).ex∧Mv c (c.lvl k d).un
 | 0,d=>⟨dz.expr (fun s=>.refl) (fun s=>.refl) d,dz.unary (fun s=>.refl) (fun s=>.refl) d⟩
 | k+1,d=>⟨dz.expr (dz.lvl k (d+1)).1 (dz.lvl k (d+1)).2 d,dz.unary (dz.lvl k (d+1)).1 (dz.lvl k (d+1)).2 d⟩
theorem dz.dC{c:PC}:Mv c c.dC:=(dz.lvl 24 0).1
section
variable {c:PC}
theorem dz.jT{nm:ByteArray}{t pos pos2:Int}{minus:Bool}{n:Px}:Mv c (c.jT nm t pos pos2 minus n):=fun s=>dz.take _
theorem dz.ic{nm:ByteArray}{t pos pos2:Int}{minus:Bool}:Mv c (c.ic nm t pos pos2 minus):=fun s=>by
 unfold PC.ic
 split
 ·exact .cV _
 ·refine dz.trans ?_ (dz.jT _)
  split
  ·exact .literal
  ·exact dz.literal.trans (.cV _)
theorem dz.iD{nm:ByteArray}{t pos:Int}:Mv c (c.iD nm t pos):=fun s=>by
 unfold PC.iD
 refine dz.trans ?_ (dz.ic _)
 split
 ·rename_i h;exact .inc (jd h)
 ·exact .refl
theorem dz.iM{nm:ByteArray}{pos:Int}:Mv c (c.iM nm pos):=fun s=>by
 unfold PC.iM
 split
 ·exact .cV _
 ·rename_i ha
  exact (dz.inc (ie (Int.not_lt.1 ha))).trans ((dz.take _).trans (dz.iD _))
theorem dz.mb:Mv c c.mb:=fun s=>(dz.take _).trans (dz.name.trans (dz.iM _))
theorem dz.dS:Mv c c.dS:=fun s=>by
 unfold PC.dS
 split
 ·rename_i h;exact (dz.inc (jd h)).trans .name
 ·exact .refl
theorem dz.iU{x y z:Px}{pos o:Int}:Mv c (c.iU x y pos z o):=fun s=>dz.dS s
theorem dz.gZ{x y z:Px}{pos:Int}:Mv c (c.gZ x y pos z):=fun s=>by
 unfold PC.gZ
 split
 ·exact .cV _
 ·rename_i ha
  exact (dz.inc (ie (Int.not_lt.1 ha))).trans (dz.iU _)
theorem dz.gN{x y:Px}{pos:Int}:Mv c (c.gN x y pos):=fun s=>by
 unfold PC.gN
 split
 ·exact .cV _
 ·rename_i ha
  have h1:=dz.inc (c:=c) (ie (Int.not_lt.1 ha))
  split
  ·exact h1.trans ((dz.dC _).trans (dz.gZ _))
  ·exact h1.trans (dz.iU _)
theorem dz.gb:Mv c c.gb:=fun s=>(dz.take _).trans ((dz.dC _).trans ((dz.take _).trans ((dz.dC _).trans (dz.gN _))))
theorem dz.mc{k:Int}{nm:ByteArray}{pos:Int}:Mv c (c.mc k nm pos):=fun s=>by
 unfold PC.mc
 split
 ·exact (dz.take _).trans ((dz.dC _).trans ((dz.take _).trans (dz.dC _)))
 ·split
  ·exact (dz.take _).trans (dz.dC _)
  ·exact .refl
theorem dz.do:Mv c c.do:=fun s=>by
 unfold PC.do
 split
 ·exact .cV _
 ·rename_i ha
  have h1:=dz.inc (c:=c) (ie (Int.not_lt.1 ha))
  split
  ·exact dz.gb s
  ·split
   ·exact h1.trans (dz.mc _)
   ·exact h1.trans (dz.name.trans (dz.mc _))
end
section
variable {c:PC}
theorem dz.eQ:∀(m:Nat) (l:List fi),Mv c (c.eQ m l)
 | 0,l=>fun s=>.refl
 | m+1,l=>fun s=>by
   rw[PC.eQ]
   have h1:=dz.do (c:=c) s
   split
   ·rename_i hw
    have hlt:=jd hw
    split
    ·exact h1.trans (.many _ _)
    ·rename_i hm
     obtain⟨_,he⟩:=pq hlt.1 (by simpa using hm)
     rw[he]
     exact h1.trans ((dz.inc hlt).trans (dz.eQ m _ _))
   ·exact h1
theorem dz.fN:Mv c c.fN:=fun s=>(dz.take _).trans ((dz.dC _).trans ((dz.take _).trans ((dz.eQ 8 [] _).trans (dz.take _))))
theorem dz.dW{α:Type}{w:ByteArray}{most:Nat}{one:PS→α×PS}(h:Mv c one):∀(m:Nat) (l:List α),Mv c (c.dW w most one m l)
 | 0,l=>fun s=>by
   rw[PC.dW]
   show dz c s (if c.dH w s then c.many l.length most s else s)
   split
   ·exact .many _ _
   ·exact .refl
 | m+1,l=>fun s=>by
   rw[PC.dW]
   split
   ·rename_i hw
    have hlt:=jd hw
    split
    ·exact .many _ _
    ·rename_i hm
     obtain⟨_,he⟩:=pq hlt.1 (by simpa using hm)
     rw[he]
     exact (h s).trans (dz.dW h m _ _)
   ·exact .refl
theorem dz.list{α:Type}{w:ByteArray}{most:Nat}{one:PS→α×PS}(h:Mv c one):Mv c (c.list w most one):=dz.dW h most []
theorem dz.state:Mv c c.state:=fun s=>(dz.take _).trans (dz.name.trans ((dz.take _).trans ((dz.list dz.fN _).trans (dz.take _))))
theorem dz.slot:Mv c c.slot:=fun s=>(dz.take _).trans (dz.name.trans (dz.take _))
end
section
end
structure Told (c:PC) (s:PS):Prop where
 here:s.over=true→s.next<c.l.length→s.f.tok=false∧s.f.pos=(c.tok s.next).pos
 bad:s.over=true→c.l.length≤s.next→s.f.tok=true∧s.f.e=c.bad∧s.f.pos=c.pos
 last:s.next=0∨s.next≤c.l.length∧(c.tok (s.next-1)).kind≠0
theorem Told.via{c:PC}{s s':PS}(h:dz c s s'):Told c s→Told c s':=by
 induction h with
 | refl=>exact fun h=>h
 | @step s hc =>
   intro h
   have ho:s.inc.over=false:=hc.2.1
   exact⟨fun h=>by (rw[ho] at h;cases h),fun h=>by (rw[ho] at h;cases h),.inr ⟨hc.1,hc.2.2⟩⟩
 | @cV s e =>
   intro h
   have hn:=gf (c:=c) (s:=s) e
   by_cases ho:s.over=true
   ·have hw:c.cV e s=s:=by unfold PC.cV;rw[if_pos ho]
    rw[hw];exact h
   ·by_cases hl:c.l.length≤s.next
    ·have hw:c.cV e s=⟨s.next,⟨c.bad,c.pos,true⟩⟩:=by unfold PC.cV;rw[if_neg ho,if_pos hl]
     rw[hw]
     exact⟨fun _ h1=>by have h1:s.next<c.l.length:=h1;omega,fun _ _=>⟨rfl,rfl,rfl⟩,h.last⟩
    ·have hw:c.cV e s=⟨s.next,⟨e,(c.tok s.next).pos,false⟩⟩:=by unfold PC.cV;rw[if_neg ho,if_neg hl]
     rw[hw]
     exact⟨fun _ _=>⟨rfl,rfl⟩,fun _ h1=>by have h1:c.l.length≤s.next:=h1;omega,h.last⟩
 | trans _ _ h1 h2=>exact fun h=>h2 (h1 h)
end Go.Lx
namespace Go.Lx
open Go.Vc
def Al(c:PC)(s:PS):Prop:=s.over=false∧s.next<c.l.length
theorem Al.back{c:PC}{s s2:PS}(h:Al c s2)(hu:Up c s s2)(hk:∀f,c.dq f s→c.dq f s2):Al c s:=by
 refine⟨?_,Nat.lt_of_le_of_lt hu.1 h.2⟩
 cases hs:s.over with
 | false=>rfl
 | true =>
   have h1:=(hk _ (jm hs)).1
   unfold PC.fin at h1
   rw[if_neg (by rw[h.1];decide),if_neg (Nat.not_le_of_lt h.2)] at h1
   cases h1
theorem Al.cV{c:PC}{s:PS}{e:Int}(he:e≠0)(h:Al c (c.cV e s)):False:=by
 have h2:=h.2
 rw[gf] at h2
 rw[Al,gg he h2] at h
 exact absurd h.1 (by decide)
theorem nS(k o t n f q:Int)(l:List Px):(Px.mk k o t n f ⟨#[]⟩ l q).qj=((o==0||k==5||k==6||k==8)&&(t==0||k==1||k==9)&&(n==0||k==1)&&(f==0||k==3||k==4)&&true):=by
 show ((o==0||k==5||k==6||k==8)&&(t==0||k==1||k==9)&&(n==0||k==1)&&(f==0||k==3||k==4)&&((⟨#[]⟩:ByteArray).toList==[]||k==2))=_
 rw[kE];rfl
theorem sE{k o t n f q:Int}{l:List Px}(h:((Px.mk k o t n f ⟨#[]⟩ l q).u9&&((o==0||k==5||k==6||k==8)&&(t==0||k==1||k==9)&&(n==0||k==1)&&(f==0||k==3||k==4)&&true)&&decide (l.length=(Px.mk k o t n f ⟨#[]⟩ l q).arity))=true):(Px.mk k o t n f ⟨#[]⟩ l q).iP=true:=by
 unfold Px.iP;rw[nS];exact h
def ue(c:PC):Prop:=∀t∈c.l,(t.kind=2→gW t.text=true)∧(t.kind=3→1≤t.dU∧t.dU≤4∧0≤t.n)
theorem yv{c:PC}(hF:ue c)(s:PS):((c.now s).kind=2→gW (c.now s).text=true)∧((c.now s).kind=3→1≤(c.now s).dU∧(c.now s).dU≤4∧0≤(c.now s).n):=by
 have hz:((gC 0).kind=2→gW (gC 0).text=true)∧((gC 0).kind=3→1≤(gC 0).dU∧(gC 0).dU≤4∧0≤(gC 0).n):=⟨fun h=>absurd h (by decide),fun h=>absurd h (by decide)⟩
 unfold PC.now
 split
 ·exact hz
 ·unfold PC.tok
  cases h:c.l[s.next]? with
  | none=>exact hz
  | some t=>exact hF t (List.mem_of_getElem? h)
def Fit(L d:Int)(x:Px):Prop:=x.formed=true∧x.depth+d+(if x.level<L then 1 else 0)≤24
theorem lq(x:Px):1≤x.level∧x.level≤8:=by
 unfold Px.level
 repeat' split
 all_goals decide
theorem Fit.zt{L L' d:Int}{x:Px}(h:Fit L d x)(hl:L'≤L):Fit L' d x:=by
 refine⟨h.1, ?_⟩
 have:=h.2
 split at this
 ·split<;>omega
 ·rw[if_neg (by omega)];omega
theorem Fit.deep{d:Int}{x:Px}(h:Fit 1 (d+1) x)(L:Int):Fit L d x:=by
 refine⟨h.1, ?_⟩
 have h2:=h.2
 have:=lq x
 rw[if_neg (by omega)] at h2
 split<;>omega
theorem j7{x:Px}{b:Int}:∀(l:List Px) (i m:Int),m≤b→(∀(j:Nat) y,l[j]? = some y→y.depth+Px.sx x y (i+j)≤b)→Px.jR x i l m≤b
 | [],i,m,hm,_=>by rw[Px.jR];exact hm
 | y::r,i,m,hm,h=>by
   rw[Px.jR]
   have h0:=h 0 y rfl
   rw[show i+((0:Nat):Int)=i by omega] at h0
   refine j7 r (i+1) _ (by omega) fun j z hj=>?_
   have:=h (j+1) z (by simpa using hj)
   rwa [show i+1+(j:Int)=i+((j+1:Nat):Int) by omega]
theorem kJ{l:List Px}(h:∀k∈l,k.formed=true):Px.kC l=true:=by
 induction l with
 | nil=>rw[Px.kC]
 | cons x r ih=>rw[Px.kC,h x (.head _),ih fun k hk=>h k (.tail _ hk)];rfl
theorem Fit.leaf{x:Px}(h1:x.iP=true)(hk:x.kids=[])(hl:x.kind≠5∧x.kind≠6∧x.kind≠7){d:Int}(hd:d≤24):Fit 8 d x:=by
 refine⟨by rw[Px.j5,h1,hk,Px.kC];rfl, ?_⟩
 have h2:x.level=8:=by unfold Px.level;rw[if_neg hl.2.2,if_neg hl.1,if_neg hl.2.1]
 rw[Px.lf,hk,Px.jR,h2,if_neg (by decide)];omega
theorem Fit.call{x:Px}(h1:x.iP=true)(hl:x.kind=8∨x.kind=9){d:Int}(hd:d≤24)(hk:∀k∈x.kids,Fit 1 (d+1) k):Fit 8 d x:=by
 have h57:x.kind≠5∧x.kind≠6∧x.kind≠7:=by omega
 refine⟨by rw[Px.j5,h1,kJ fun k hm=>(hk k hm).1];rfl, ?_⟩
 have h2:x.level=8:=by unfold Px.level;rw[if_neg h57.2.2,if_neg h57.1,if_neg h57.2.1]
 rw[h2,if_neg (by decide),Px.lf]
 have:=j7 (x:=x) (b:=24-d) x.kids 0 0 (by omega) fun j y hj=>by
  have hy:=hk y (List.mem_of_getElem? hj)
  have h3:=hy.2
  have:=lq y
  rw[if_neg (by omega)] at h3
  have ha:Px.sx x y (0+j)=1:=by
   unfold Px.sx Px.asks
   rw[if_neg h57.2.2,if_neg h57.1,if_neg h57.2.1,if_neg (by omega)]
   rw[if_neg h57.2.1,if_neg h57.2.2];rfl
  rw[ha];omega
 omega
theorem Fit.un{o q d:Int}{y:Px}(ho:o=1∨o=2)(hd:d≤24)(hy:Fit 7 (d+1) y):Fit 7 d (.mk 5 o 0 0 0 ⟨#[]⟩ [y] q):=by
 have h1:(Px.mk 5 o 0 0 0 ⟨#[]⟩ [y] q).iP=true:=by rcases ho with rfl | rfl<;>exact sE rfl
 refine⟨by rw[Px.j5,h1,kJ fun k hm=>?_];rfl;· have hm:k∈[y]:=hm
                                              rw[List.mem_singleton] at hm;subst hm;exact hy.1, ?_⟩
 have h2:(Px.mk 5 o 0 0 0 ⟨#[]⟩ [y] q).level=7:=rfl
 rw[h2,if_neg (by decide),Px.lf]
 have:=j7 (x:=.mk 5 o 0 0 0 ⟨#[]⟩ [y] q) (b:=24-d) [y] 0 0 (by omega) fun j z hj=>by
  have hz:z=y:=by have:=List.mem_of_getElem? hj;rwa [List.mem_singleton] at this
  subst hz
  have h3:=hy.2
  have ha:Px.sx (.mk 5 o 0 0 0 ⟨#[]⟩ [z] q) z (0+j)=(if z.level<7 then 1 else 0)+1:=rfl
  rw[ha];omega
 show Px.jR _ 0 [y] 0+d+0≤24
 omega
theorem Fit.two{L A B o q d:Int}{a b:Px}(ho:6≤o∧o≤18)(hd:d≤24)(hL:∀l:List Px,(Px.mk 6 o 0 0 0 ⟨#[]⟩ l q).level=L)(hA:A=if L=4 then 5 else L)(hB:B=if L=4 then 5 else L+1)(ha:Fit A d a)(hb:Fit B d b):Fit L d (ib o q a b):=by
 have h1:(ib o q a b).iP=true:=by
  have hf:(ib o q a b).u9=true:=by
   show decide (6≤o∧o≤18)=true
   exact decide_eq_true ho
  have hz:(ib o q a b).qj=true:=by
   refine (nS ..).trans ?_
   show ((o==0||false||true||false)&&true&&true&&true&&true)=true
   simp
  have har:decide ((ib o q a b).kids.length=(ib o q a b).arity)=true:=rfl
  unfold Px.iP;rw[hf,hz,har];rfl
 refine⟨by rw[Px.j5,h1,kJ fun k hm=>?_];rfl;· have hm:k∈[a,b]:=hm
                                              rcases List.mem_cons.1 hm with rfl | hm
                                              ·exact ha.1
                                              ·rw[List.mem_singleton] at hm;subst hm;exact hb.1, ?_⟩
 have h2:(ib o q a b).level=L:=hL _
 rw[h2,if_neg (by omega),Px.lf]
 have hs:∀y i,Px.sx (ib o q a b) y i=if y.level<(if L=4 then 5 else L+i) then 1 else 0:=fun y i=>by
  show (if y.level<(if (ib o q a b).level=4 then 5 else (ib o q a b).level+i) then (1:Int) else 0)+0=_
  rw[h2];omega
 have:=j7 (x:=ib o q a b) (b:=24-d) [a,b] 0 0 (by omega) fun j z hj=>by
  rw[hs]
  rcases j with _ | _ | j
  ·obtain rfl:a=z:=by simpa using hj
   have h3:=ha.2
   rw[hA] at h3
   rw[show (0:Int)+((0:Nat):Int)=0 by omega,Int.add_zero];omega
  ·obtain rfl:b=z:=by simpa using hj
   have h3:=hb.2
   rw[hB] at h3
   rw[show (0:Int)+((0+1:Nat):Int)=1 by omega];omega
  ·simp at hj
 show Px.jR _ 0 [a,b] 0+d+0≤24
 omega
theorem Fit.cond{q d:Int}{a b e:Px}(hd:d≤24)(ha:Fit 2 d a)(hb:Fit 1 (d+1) b)(he:Fit 1 (d+1) e):Fit 1 d (.mk 7 0 0 0 0 ⟨#[]⟩ [a,b,e] q):=by
 have h1:(Px.mk 7 0 0 0 0 ⟨#[]⟩ [a,b,e] q).iP=true:=sE rfl
 refine⟨by rw[Px.j5,h1,kJ fun k hm=>?_];rfl;· have hm:k∈[a,b,e]:=hm
                                              simp only[List.mem_cons,List.not_mem_nil,or_false] at hm
                                              rcases hm with rfl | rfl | rfl
                                              ·exact ha.1
                                              ·exact hb.1
                                              ·exact he.1, ?_⟩
 have h2:(Px.mk 7 0 0 0 0 ⟨#[]⟩ [a,b,e] q).level=1:=rfl
 rw[h2,if_neg (by decide),Px.lf]
 have h3:=ha.2
 have h4:=hb.2
 have h5:=he.2
 have l1:=lq b
 have l2:=lq e
 rw[if_neg (by omega)] at h4 h5
 have:=j7 (x:=.mk 7 0 0 0 0 ⟨#[]⟩ [a,b,e] q) (b:=24-d) [a,b,e] 0 0 (by omega) fun j z hj=>by
  rcases j with _ | _ | _ | j
  ·obtain rfl:a=z:=by simpa using hj
   have:Px.sx (.mk 7 0 0 0 0 ⟨#[]⟩ [a,b,e] q) a (0+((0:Nat):Int))=(if a.level<2 then 1 else 0)+0:=rfl
   rw[this];omega
  ·obtain rfl:b=z:=by simpa using hj
   have:Px.sx (.mk 7 0 0 0 0 ⟨#[]⟩ [a,b,e] q) b (0+((0+1:Nat):Int))=(if b.level<1 then 1 else 0)+1:=rfl
   rw[this,if_neg (by omega)];omega
  ·obtain rfl:e=z:=by simpa using hj
   have:Px.sx (.mk 7 0 0 0 0 ⟨#[]⟩ [a,b,e] q) e (0+((0+1+1:Nat):Int))=(if e.level<1 then 1 else 0)+1:=rfl
   rw[this,if_neg (by omega)];omega
  ·simp at hj
 show Px.jR _ 0 [a,b,e] 0+d+0≤24
 omega
def uf(c:PC)(L d:Int)(g:PS→Px×PS):Prop:=∀s,Al c (g s).2→Fit L d (g s).1
structure Ci (c:PC) (nx:Lv) (d:Int):Prop where
 mx:dN c nx.ex
 mu:dN c nx.un
 kx:∀f,Kp c f nx.ex
 ku:∀f,Kp c f nx.un
 fx:d+1≤24→uf c 1 (d+1) nx.ex
 fu:d+1≤24→uf c 7 (d+1) nx.un
theorem xm{c:PC}(hF:ue c)(s:PS):(c.literal s).1.2=true→(∀d:Int,d≤24→Fit 8 d (c.literal s).1.1)∧(c.literal s).1.1.kind=1∧((c.now s).kind=3→(c.literal s).1.1.dU≤4):=by
 have hn:=yv hF s
 have key:∀t n q:Int,(nP t n q).Bw=true→∀d:Int,d≤24→Fit 8 d (nP t n q):=fun t n q hl d hd=>by
  refine .leaf ?_ rfl ⟨by show (1:Int)≠5;decide,by show (1:Int)≠6;decide,by show (1:Int)≠7;decide⟩ hd
  have hf:(nP t n q).u9=true:=hl
  have hz:(nP t n q).qj=true:=by
   refine (nS ..).trans ?_
   show (true&&(t==0||true||false)&&(n==0||true)&&true&&true)=true
   simp
  unfold Px.iP;rw[hf,hz];rfl
 unfold PC.literal
 split
 ·rename_i h
  intro _
  have h3:=hn.2 h
  refine⟨key _ _ _ ?_,rfl,fun _=>h3.2.1⟩
  show (if (c.now s).dU=6 then _ else if (c.now s).dU=5 then _ else if 1≤(c.now s).dU∧(c.now s).dU≤4 then decide (0≤(c.now s).n) else false)=true
  rw[if_neg (by omega),if_neg (by omega),if_pos ⟨h3.1,h3.2.1⟩]
  exact decide_eq_true h3.2.2
 ·rename_i h
  split
  ·intro _
   refine⟨key _ _ _ ?_,rfl,fun h3=>absurd h3 h⟩
   split<;>rfl
  ·split
   ·intro _
    refine⟨key _ _ _ ?_,rfl,fun h3=>absurd h3 h⟩
    split<;>rfl
   ·intro h;cases h
section
variable {c:PC} (hF:ue c) {nx:Lv} {d:Int} (h0:0≤d) (hd:d≤24) (hx:Ci c nx d)
include hF h0 hd hx
theorem yw(hd1:d+1≤24):∀(n:Nat) (b:Bool) (s:PS),Al c (c.dv nx n b s).2→(c.dv nx n b s).1.length=n∧∀k∈(c.dv nx n b s).1,Fit 1 (d+1) k
 | 0,b,s,h=>⟨rfl,fun k hk=>by cases hk⟩
 | n+1,b,s,h=>by
   rw[PC.dv] at h ⊢
   have h:Al c (c.dv nx n false (nx.ex (if b=true then s else (c.take (⟨#[44]⟩:ByteArray) s).2)).2).2:=h
   have h1:=h.back (Up.kids hx.mx n false _) fun f h=>Kp.kids (hx.kx f) n false _ h
   obtain⟨i1,i2⟩:=yw hd1 n false _ h
   refine⟨by show List.length (_::_)=_;rw[List.length_cons,i1],fun k hk=>?_⟩
   rcases List.mem_cons.1 hk with rfl | hk
   ·exact hx.fx hd1 _ h1
   ·exact i2 k hk
theorem yx{kind oper dU pos:Int}{many:Nat}{s:PS}(hl:s.next<c.l.length)(hk:kind=8∧3≤oper∧oper≤5∧dU=0∧many=(if oper=3 then 1 else 2)∨kind=9∧oper=0∧1≤dU∧dU≤4∧many=1)(h:Al c (c.call nx d kind oper dU pos many s).2):Fit 8 d (c.call nx d kind oper dU pos many s).1:=by
 unfold PC.call at h ⊢
 split
 ·rename_i ho
  rw[if_pos ho] at h
  exact absurd h.1 (by rw[ho];decide)
 ·rename_i ho
  rw[if_neg ho] at h
  obtain⟨hd1,_⟩:=eW hl (by simpa using ho)
  have h:Al c (c.take (⟨#[41]⟩:ByteArray) (c.dv nx many true (c.take (⟨#[40]⟩:ByteArray) (c.cT d s).inc).2).2).2:=h
  obtain⟨k1,k2⟩:=yw hF h0 hd hx hd1 many true _ (h.back (Up.take _) fun f h=>h.take _)
  show Fit 8 d (.mk kind oper dU 0 0 ⟨#[]⟩ (c.dv nx many true (c.take (⟨#[40]⟩:ByteArray) (c.cT d s).inc).2).1 pos)
  generalize (c.dv nx many true (c.take (⟨#[40]⟩:ByteArray) (c.cT d s).inc).2).1=l at k1 k2
  refine .call ?_ ?_ hd k2
  ·rcases hk with ⟨rfl,ho1,ho2,rfl,hm⟩ | ⟨rfl,rfl,ho1,ho2,rfl⟩
   ·have hf:(Px.mk 8 oper 0 0 0 ⟨#[]⟩ l pos).u9=true:=decide_eq_true (⟨ho1,ho2⟩:3≤oper∧oper≤5)
    have hz:(Px.mk 8 oper 0 0 0 ⟨#[]⟩ l pos).qj=true:=by
     refine (nS ..).trans ?_
     show ((oper==0||false||false||true)&&true&&true&&true&&true)=true
     simp
    have har:decide ((Px.mk 8 oper 0 0 0 ⟨#[]⟩ l pos).kids.length=(Px.mk 8 oper 0 0 0 ⟨#[]⟩ l pos).arity)=true:=by
     refine decide_eq_true ?_
     show l.length=if oper=3 then 1 else 2
     rw[k1,hm]
    unfold Px.iP;rw[hf,hz,har];rfl
   ·have hf:(Px.mk 9 0 dU 0 0 ⟨#[]⟩ l pos).u9=true:=decide_eq_true (⟨ho1,ho2⟩:1≤dU∧dU≤4)
    have hz:(Px.mk 9 0 dU 0 0 ⟨#[]⟩ l pos).qj=true:=by
     refine (nS ..).trans ?_
     show (true&&(dU==0||false||true)&&true&&true&&true)=true
     simp
    have har:decide ((Px.mk 9 0 dU 0 0 ⟨#[]⟩ l pos).kids.length=(Px.mk 9 0 dU 0 0 ⟨#[]⟩ l pos).arity)=true:=decide_eq_true k1
    unfold Px.iP;rw[hf,hz,har];rfl
  ·rcases hk with ⟨rfl,_⟩ | ⟨rfl,_⟩
   ·exact .inl rfl
   ·exact .inr rfl
theorem AM:uf c 8 d (c.rest nx d):=fun s h=>by
 unfold PC.rest at h ⊢
 split
 ·rename_i hw
  rw[if_pos hw] at h
  split
  ·rename_i ha
   rw[if_pos ha] at h
   exact (Al.cV (by decide) h).elim
  ·rename_i ha
   have h3:=(dt (Int.not_lt.1 ha)).2
   have ha:=Int.not_lt.1 ha
   refine .leaf ?_ rfl ⟨by show (4:Int)≠5;decide,by show (4:Int)≠6;decide,by show (4:Int)≠7;decide⟩ hd
   generalize c.any [(⟨#[98,105,100]⟩:ByteArray),(⟨#[97,115,107]⟩:ByteArray),(⟨#[108,97,115,116]⟩:ByteArray)] s.inc=a at h3 ha
   have h3:a<3:=h3
   rcases (by omega:a=0∨a=1∨a=2) with rfl | rfl | rfl<;>exact sE rfl
 ·rename_i hw
  rw[if_neg hw] at h
  split
  ·rename_i hw2
   rw[if_pos hw2] at h
   split
   ·rename_i ho
    rw[if_pos ho] at h
    exact absurd h.1 (by rw[ho];decide)
   ·rename_i ho
    rw[if_neg ho] at h
    obtain⟨hd1,_⟩:=eW (gO hw2) (by simpa using ho)
    have h:Al c (c.take (⟨#[41]⟩:ByteArray) (nx.ex (c.cT d s).inc).2).2:=h
    exact (hx.fx hd1 _ (h.back (Up.take _) fun f h=>h.take _)).deep 8
  ·rename_i hw2
   rw[if_neg hw2] at h
   exact (Al.cV (by decide) h).elim
theorem BF:uf c 8 d (c.one nx d):=fun s h=>by
 unfold PC.one at h ⊢
 split
 ·rename_i hl
  exact (xm hF s hl).1 d hd
 ·rename_i hl
  rw[if_neg hl] at h
  split
  ·rename_i hk
   have hn:=(yv hF s).1 hk
   refine .leaf ?_ rfl ⟨by show (2:Int)≠5;decide,by show (2:Int)≠6;decide,by show (2:Int)≠7;decide⟩ hd
   generalize (c.now s).text=t at hn
   generalize (c.now s).pos=q
   have hf:(Px.mk 2 0 0 0 0 t [] q).u9=true:=hn
   have hz:(Px.mk 2 0 0 0 0 t [] q).qj=true:=by
    show (true&&true&&true&&true&&(t.toList==[]||true))=true
    simp
   unfold Px.iP;rw[hf,hz];rfl
  ·rename_i hk
   rw[if_neg hk] at h
   split
   ·rename_i ha
    have h3:=(dt ha).2
    refine .leaf ?_ rfl ⟨by show (3:Int)≠5;decide,by show (3:Int)≠6;decide,by show (3:Int)≠7;decide⟩ hd
    generalize c.any ia s=a at h3 ha
    have h3:a<6:=h3
    rcases (by omega:a=0∨a=1∨a=2∨a=3∨a=4∨a=5) with rfl | rfl | rfl | rfl | rfl | rfl<;>exact sE rfl
   ·rename_i ha
    rw[if_neg ha] at h
    split
    ·rename_i hb
     rw[if_pos hb] at h
     have h3:=(dt hb).2
     have h3:c.any fM s<3:=h3
     refine yx hF h0 hd hx (dt hb).1 (.inl ⟨rfl,by omega,by omega,rfl, ?_⟩) h
     by_cases h4:c.any fM s=0
     ·rw[if_pos h4,if_pos (by omega)]
     ·rw[if_neg h4,if_neg (by omega)]
    ·rename_i hb
     rw[if_neg hb] at h
     split
     ·rename_i he
      rw[if_pos he] at h
      have h3:=(dt he).2
      have h3:c.any iL s<4:=h3
      exact yx hF h0 hd hx (dt he).1 (.inr ⟨rfl,rfl,by omega,by omega,rfl⟩) h
     ·rename_i he
      rw[if_neg he] at h
      exact AM hF h0 hd hx s h
theorem sF:uf c 7 d (c.unary nx d):=fun s h=>by
 unfold PC.unary at h ⊢
 split
 ·rename_i ha
  rw[if_pos ha] at h
  exact (BF hF h0 hd hx s h).zt (by decide)
 ·rename_i ha
  rw[if_neg ha] at h
  have ha:=Int.not_lt.1 ha
  have h3:=dt ha
  split
  ·rename_i ho
   rw[if_pos ho] at h
   exact absurd h.1 (by rw[ho];decide)
  ·rename_i ho
   rw[if_neg ho] at h
   obtain⟨hd1,_⟩:=eW h3.1 (by simpa using ho)
   have h4:c.any jw s<2:=h3.2
   exact .un (by omega) hd (hx.fu hd1 _ h)
end
theorem wm{c:PC}{L d o:Int}{ws:List ByteArray}{sub:PS→Px×PS}(h0:dN c sub)(hk:∀f,Kp c f sub)(hf:uf c (L+1) d sub)(ht:∀(a q:Int) (n k:Px),0≤a→a<ws.length→Fit L d n→Fit (L+1) d k→Fit L d (ib (o+a) q n k)) :
  ∀(m:Nat) (n:Px) (s:PS),(Al c s→Fit L d n)→Al c (c.dA ws o sub m n s).2→Fit L d (c.dA ws o sub m n s).1
 | 0,n,s,hn,h=>hn h
 | m+1,n,s,hn,h=>by
   rw[PC.dA] at h ⊢
   split
   ·rename_i ha
    rw[if_pos ha] at h
    exact hn h
   ·rename_i ha
    rw[if_neg ha] at h
    have ha:=Int.not_lt.1 ha
    refine wm h0 hk hf ht m _ _ (fun hs=>?_) h
    exact ht _ _ _ _ ha (dt ha).2 (hn ⟨j6 ha,(dt ha).1⟩) (hf _ hs)
theorem sG{c:PC}{L d o:Int}{ws:List ByteArray}{sub:PS→Px×PS}(h0:dN c sub)(hk:∀f,Kp c f sub)(hf:uf c (L+1) d sub)(ht:∀(a q:Int) (n k:Px),0≤a→a<ws.length→Fit L d n→Fit (L+1) d k→Fit L d (ib (o+a) q n k)):uf c L d (c.loop ws o sub):=fun s h =>
 wm h0 hk hf ht _ _ _ (fun hs=>(hf s hs).zt (by omega)) h
section
variable {c:PC} (hF:ue c) {nx:Lv} {d:Int} (h0:0≤d) (hd:d≤24) (hx:Ci c nx d)
include hF h0 hd hx
theorem xn:uf c 6 d (c.product nx d) :=
 sG (Up.unary hx.mx hx.mu d) (fun f=>Kp.unary nx d) (sF hF h0 hd hx) fun a q n k a0 a1 hn hk=>by
  have a1:a<3:=a1
  rcases (by omega:a=0∨a=1∨a=2) with rfl | rfl | rfl<;>exact .two (by decide) hd (fun l=>rfl) rfl rfl hn hk
theorem yy:uf c 5 d (c.sum nx d) :=
 sG (Up.product hx.mx hx.mu d) (fun f=>Kp.product nx d) (xn hF h0 hd hx) fun a q n k a0 a1 hn hk=>by
  have a1:a<2:=a1
  rcases (by omega:a=0∨a=1) with rfl | rfl<;>exact .two (by decide) hd (fun l=>rfl) rfl rfl hn hk
theorem xo:uf c 4 d (c.compare nx d):=fun s h=>by
 unfold PC.compare at h ⊢
 replace h:Al c (if c.any gY (c.sum nx d s).2<0 then c.sum nx d s else (ib (11+c.any gY (c.sum nx d s).2) (c.now (c.sum nx d s).2).pos (c.sum nx d s).1 (c.sum nx d (c.sum nx d s).2.inc).1,(c.sum nx d (c.sum nx d s).2.inc).2)).2:=h
 show Fit 4 d (if c.any gY (c.sum nx d s).2<0 then c.sum nx d s else (ib (11+c.any gY (c.sum nx d s).2) (c.now (c.sum nx d s).2).pos (c.sum nx d s).1 (c.sum nx d (c.sum nx d s).2.inc).1,(c.sum nx d (c.sum nx d s).2.inc).2)).1
 split
 ·rename_i ha
  rw[if_pos ha] at h
  exact (yy hF h0 hd hx s h).zt (by decide)
 ·rename_i ha
  rw[if_neg ha] at h
  have ha:=Int.not_lt.1 ha
  have h1:=yy hF h0 hd hx s ⟨j6 ha,(dt ha).1⟩
  have h2:=yy hF h0 hd hx _ h
  have a1:c.any gY (c.sum nx d s).2<6:=(dt ha).2
  generalize c.any gY (c.sum nx d s).2=a at ha a1
  show Fit 4 d (ib (11+a) (c.now (c.sum nx d s).2).pos (c.sum nx d s).1 (c.sum nx d (c.sum nx d s).2.inc).1)
  rcases (by omega:a=0∨a=1∨a=2∨a=3∨a=4∨a=5) with rfl | rfl | rfl | rfl | rfl | rfl<;>exact .two (by decide) hd (fun l=>rfl) rfl rfl h1 h2
theorem BG:uf c 3 d (c.and nx d) :=
 sG (Up.compare hx.mx hx.mu d) (fun f=>Kp.compare nx d) (xo hF h0 hd hx) fun a q n k a0 a1 hn hk=>by
  have a1:a<1:=a1
  obtain rfl:a=0:=by omega
  exact .two (by decide) hd (fun l=>rfl) rfl rfl hn hk
theorem Cw:uf c 2 d (c.or nx d) :=
 sG (Up.and hx.mx hx.mu d) (fun f=>Kp.and nx d) (BG hF h0 hd hx) fun a q n k a0 a1 hn hk=>by
  have a1:a<1:=a1
  obtain rfl:a=0:=by omega
  exact .two (by decide) hd (fun l=>rfl) rfl rfl hn hk
theorem yz:uf c 1 d (c.expr nx d):=fun s h=>by
 unfold PC.expr at h ⊢
 have ho:=Cw hF h0 hd hx s
 generalize c.or nx d s=r at ho h
 replace h:Al c (if c.dH (⟨#[63]⟩:ByteArray) r.2 then (if (c.cT d r.2).over then (dZ,c.cT d r.2) else (.mk 7 0 0 0 0 ⟨#[]⟩ [r.1,(nx.ex (c.cT d r.2).inc).1,(nx.ex (c.take (⟨#[58]⟩:ByteArray) (nx.ex (c.cT d r.2).inc).2).2).1] (c.now (c.cT d r.2)).pos,(nx.ex (c.take (⟨#[58]⟩:ByteArray) (nx.ex (c.cT d r.2).inc).2).2).2)) else r:Px×PS).2:=h
 show Fit 1 d (if c.dH (⟨#[63]⟩:ByteArray) r.2 then (if (c.cT d r.2).over then (dZ,c.cT d r.2) else (.mk 7 0 0 0 0 ⟨#[]⟩ [r.1,(nx.ex (c.cT d r.2).inc).1,(nx.ex (c.take (⟨#[58]⟩:ByteArray) (nx.ex (c.cT d r.2).inc).2).2).1] (c.now (c.cT d r.2)).pos,(nx.ex (c.take (⟨#[58]⟩:ByteArray) (nx.ex (c.cT d r.2).inc).2).2).2)) else r:Px×PS).1
 split
 ·rename_i hw
  rw[if_pos hw] at h
  split
  ·rename_i hv
   rw[if_pos hv] at h
   exact absurd h.1 (by rw[hv];decide)
  ·rename_i hv
   rw[if_neg hv] at h
   obtain⟨hd1,_⟩:=eW (gO hw) (by simpa using hv)
   have h:Al c (nx.ex (c.take (⟨#[58]⟩:ByteArray) (nx.ex (c.cT d r.2).inc).2).2).2:=h
   have h2:=(h.back (hx.mx _) fun f h=>hx.kx f _ h).back (Up.take _) fun f h=>h.take _
   exact .cond hd (ho ⟨lp hw,gO hw⟩) (hx.fx hd1 _ h2) (hx.fx hd1 _ h)
 ·rename_i hw
  rw[if_neg hw] at h
  exact (ho h).zt (by decide)
end
theorem zZ{c:PC}(hF:ue c):∀(k:Nat) (d:Int),0≤d→(k:Int)+d=24→uf c 1 d (c.lvl k d).ex∧uf c 7 d (c.lvl k d).un
 | 0,d,h0,hk=>by
   have hz:dN c (fun s:PS=>(dZ,s)):=fun s=>.refl
   have kz:∀f,Kp c f (fun s:PS=>(dZ,s)):=fun f s h=>h
   have hx:Ci c ⟨fun s=>(dZ,s),fun s=>(dZ,s)⟩ d:=⟨hz,hz,kz,kz,fun h=>by omega,fun h=>by omega⟩
   exact⟨yz hF h0 (by omega) hx,sF hF h0 (by omega) hx⟩
 | k+1,d,h0,hk=>by
   have hi:=zZ hF k (d+1) (by omega) (by omega)
   have hx:Ci c (c.lvl k (d+1)) d:=⟨(Up.lvl k (d+1)).1,(Up.lvl k (d+1)).2,fun f=>(Kp.lvl k (d+1)).1,fun f=>(Kp.lvl k (d+1)).2,fun _=>hi.1,fun _=>hi.2⟩
   exact⟨yz hF h0 (by omega) hx,sF hF h0 (by omega) hx⟩
theorem BH{c:PC}(hF:ue c):uf c 1 0 c.dC:=(zZ hF 24 0 (Int.le_refl 0) (by decide)).1
theorem iE{c:PC}(hF:ue c)(s:PS)(h:Al c (c.dC s).2):(c.dC s).1.gM=0:=by
 obtain⟨h1,h2⟩:=BH hF s h
 have:=lq (c.dC s).1
 rw[if_neg (by omega)] at h2
 unfold Px.gM
 rw[if_pos h1,if_neg (by omega)]
end Go.Lx
namespace Go.Lx
open Go.Vc
theorem c5{a b:Int}(ha:a=0)(hb:b=0):gD a b=0:=by rw[ha,vg,hb]
theorem fO{b:Bool}{n:Int}(h:b=true):lh b n=0:=by rw[h];rfl
theorem ig:rH false dZ=0:=by
 show lh dZ.zY 120=0
 refine fO ?_
 show (true&&(true&&(true&&(true&&(true&&((⟨#[]⟩:ByteArray).toList==[])))))&&true)=true
 rw[kE];rfl
theorem o4{α:Type}{f:α→Int}:∀{l:List α},(∀x∈l,f x=0)→lj f l=0
 | [],_=>rfl
 | x::r,h=>by rw[lj];exact c5 (h x (.head _)) (o4 fun y hy=>h y (.tail _ hy))
section
variable {c:PC} (hF:ue c)
include hF
theorem yA(s:PS)(h:Al c (c.name s).2):gW (c.name s).1=true:=by
 unfold PC.name at h ⊢
 split
 ·rename_i hk;exact (yv hF s).1 hk
 ·rename_i hk;rw[if_neg hk] at h;exact (Al.cV (by decide) h).elim
theorem yB(s:PS)(h:Al c (c.dS s).2):(c.dS s).1.toList=[]∨gW (c.dS s).1=true:=by
 unfold PC.dS at h ⊢
 split
 ·rename_i hc;rw[if_pos hc] at h;exact .inr (yA hF _ h)
 ·exact .inl kE
omit hF in
theorem xp{x y z:Px}{p o:Int}{nm:ByteArray}(hx:x.gM=0)(hy:y.gM=0)(hz:o≠2∧z.gM=0∨o=2∧z=dZ)(ho:1≤o∧o≤5)(hn:nm.toList=[]∨gW nm=true):fi.check ⟨1,o,nm,x,y,z,dZ,p⟩=0:=by
 unfold fi.check
 refine c5 rfl (c5 (fO ?_) (c5 (fO ?_) (c5 hx (c5 hy (c5 ?_ ig)))))
 ·exact decide_eq_true (.inl ⟨rfl,ho⟩)
 ·show (if (1:Int)=6 then _ else if (1:Int)≠1∨nm.toList≠[] then gW nm else true)=true
  rw[if_neg (by decide)]
  split
  ·rename_i h
   rcases hn with hn | hn
   ·rcases h with h | h
    ·exact absurd rfl h
    ·exact absurd hn h
   ·exact hn
  ·rfl
 ·show rH (decide ((1:Int)=1∧o≠2∨(1:Int)=2)) z=0
  rcases hz with ⟨h1,h2⟩ | ⟨h1,h2⟩
  ·rw[decide_eq_true (.inl ⟨rfl,h1⟩)];exact h2
  ·rw[decide_eq_false (by rintro (h | h);exact h.2 h1;exact absurd h (by decide)),h2];exact ig
theorem yC{x y z:Px}{p o:Int}(hx:x.gM=0)(hy:y.gM=0)(hz:o≠2∧z.gM=0∨o=2∧z=dZ)(ho:1≤o∧o≤5)(s:PS)(h:Al c (c.iU x y p z o s).2):(c.iU x y p z o s).1.check=0 :=
 xp hx hy hz ho (yB hF s h)
theorem AN{x y z:Px}{p:Int}(hx:x.gM=0)(hy:y.gM=0)(hz:z.gM=0)(s:PS)(h:Al c (c.gZ x y p z s).2):(c.gZ x y p z s).1.check=0:=by
 unfold PC.gZ at h ⊢
 split
 ·rename_i hc;rw[if_pos hc] at h;exact (Al.cV (by decide) h).elim
 ·rename_i hc
  rw[if_neg hc] at h
  have hc:=Int.not_lt.1 hc
  have h4:c.any fD s<4:=(dt hc).2
  refine yC hF hx hy (.inl ⟨?_,hz⟩) ?_ _ h
  ·split<;>omega
  ·split<;>omega
theorem AO{x y:Px}{p:Int}(hx:x.gM=0)(hy:y.gM=0)(s:PS)(h:Al c (c.gN x y p s).2):(c.gN x y p s).1.check=0:=by
 unfold PC.gN at h ⊢
 split
 ·rename_i hc;rw[if_pos hc] at h;exact (Al.cV (by decide) h).elim
 ·rename_i hc
  rw[if_neg hc] at h
  split
  ·rename_i hc2
   rw[if_pos hc2] at h
   exact AN hF hx hy (iE hF _ (h.back (Up.gZ _) fun f h=>Kp.gZ _ _ _ _ _ h)) _ h
  ·rename_i hc2
   rw[if_neg hc2] at h
   exact yC hF hx hy (.inr ⟨rfl,rfl⟩) (by decide) _ h
theorem yD(s:PS)(h:Al c (c.gb s).2):(c.gb s).1.check=0:=by
 unfold PC.gb PC.qZ at h ⊢
 have g4:=h.back (Up.gN _) (fun f h=>Kp.gN _ _ _ _ h)
 have g3:=g4.back (Up.dC _) (fun f h=>Kp.dC _ h)
 have g2:=g3.back (Up.take _) (fun f h=>h.take _)
 exact AO hF (iE hF _ g2) (iE hF _ g4) _ h
theorem z0{k p:Int}{nm:ByteArray}(hk:k=6∧nm=⟨#[]⟩∨2≤k∧k≤5∧gW nm=true)(s:PS)(h:Al c (c.mc k nm p s).2):(c.mc k nm p s).1.check=0:=by
 have hnm:k≠6→gW nm=true:=fun hne=>by
  rcases hk with ⟨h1,_⟩ | ⟨_,_,h1⟩
  ·exact absurd h1 hne
  ·exact h1
 have key:∀(j:Int),j=2∨j=3∨j=4∨j=5→gW nm=true→∀y z v:Px,fi.gW ⟨j,0,nm,dZ,y,z,v,p⟩=true:=fun j hj hn y z v=>by
  show (if j=6 then _ else if j≠1∨nm.toList≠[] then gW nm else true)=true
  rw[if_neg (by omega),if_pos (.inl (by omega)),hn]
 unfold PC.mc at h ⊢
 split
 ·rename_i hc
  rw[if_pos hc] at h
  unfold PC.yt at h ⊢
  have g4:Al c (c.dC (c.take (⟨#[97,116]⟩:ByteArray) (c.dC (c.take (⟨#[116,111]⟩:ByteArray) s).2).2).2).2:=h
  have g3:=g4.back (Up.dC _) (fun f h=>Kp.dC _ h)
  have g2:=g3.back (Up.take _) (fun f h=>h.take _)
  have e1:=iE hF _ g2
  have e2:=iE hF _ g4
  unfold fi.check
  exact c5 rfl (c5 rfl (c5 (fO (key 2 (.inl rfl) (hnm (by omega)) _ _ _)) (c5 ig (c5 e1 (c5 e2 ig)))))
 ·rename_i hc
  rw[if_neg hc] at h
  split
  ·rename_i hc2
   rw[if_pos hc2] at h
   unfold PC.Bi at h ⊢
   have e1:=iE hF _ (show Al c (c.dC (c.take (⟨#[61]⟩:ByteArray) s).2).2 from h)
   unfold fi.check
   exact c5 rfl (c5 rfl (c5 (fO (key 4 (.inr (.inr (.inl rfl))) (hnm (by omega)) _ _ _)) (c5 ig (c5 ig (c5 ig e1)))))
  ·rename_i hc2
   rcases hk with ⟨rfl,rfl⟩ | ⟨h1,h2,h3⟩
   ·unfold fi.check
    refine c5 rfl (c5 rfl (c5 (fO ?_) (c5 ig (c5 ig (c5 ig ig)))))
    show ((⟨#[]⟩:ByteArray).toList==[])=true
    rw[kE];rfl
   ·rcases (by omega:k=3∨k=5) with rfl | rfl
    ·unfold fi.check
     exact c5 rfl (c5 rfl (c5 (fO (key 3 (.inr (.inl rfl)) h3 _ _ _)) (c5 ig (c5 ig (c5 ig ig)))))
    ·unfold fi.check
     exact c5 rfl (c5 rfl (c5 (fO (key 5 (.inr (.inr (.inr rfl))) h3 _ _ _)) (c5 ig (c5 ig (c5 ig ig)))))
theorem Cx(s:PS)(h:Al c (c.do s).2):(c.do s).1.check=0:=by
 unfold PC.do at h ⊢
 split
 ·rename_i hc;rw[if_pos hc] at h;exact (Al.cV (by decide) h).elim
 ·rename_i hc
  rw[if_neg hc] at h
  have hc:=Int.not_lt.1 hc
  have h6:c.any s6 s<6:=(dt hc).2
  split
  ·rename_i hc2;rw[if_pos hc2] at h;exact yD hF s h
  ·rename_i hc2
   rw[if_neg hc2] at h
   split
   ·rename_i hc3;rw[if_pos hc3] at h;exact z0 hF (.inl ⟨rfl,rfl⟩) _ h
   ·rename_i hc3
    rw[if_neg hc3] at h
    exact z0 hF (.inr ⟨by omega,by omega,yA hF _ (h.back (Up.mc _) fun f h=>Kp.mc _ _ _ _ h)⟩) _ h
theorem yE:∀(m:Nat) (l:List fi) (s:PS),(∀d∈l,d.check=0)→Al c (c.eQ m l s).2→(∀d∈(c.eQ m l s).1,d.check=0)∧(c.eQ m l s).1.length≤l.length+m∧(0<m→0<(c.eQ m l s).1.length)
 | 0,l,s,hl,h=>⟨hl,Nat.le_refl _,fun h=>absurd h (by decide)⟩
 | m+1,l,s,hl,h=>by
   rw[PC.eQ] at h ⊢
   have key:Al c (c.do s).2→∀d∈l++[(c.do s).1],d.check=0:=fun ha d hd=>by
    rcases List.mem_append.1 hd with hd | hd
    ·exact hl d hd
    ·rw[List.mem_singleton] at hd;subst hd;exact Cx hF s ha
   have hlen:(l++[(c.do s).1]).length=l.length+1:=by rw[List.length_append,List.length_singleton]
   split
   ·rename_i hw
    rw[if_pos hw] at h
    have hk:=key ⟨lp hw,gO hw⟩
    split
    ·rename_i ho
     rw[if_pos ho] at h
     exact absurd h.1 (by show ¬(c.many (l.length+1) 8 (c.do s).2).over=false;rw[ho];decide)
    ·rename_i ho
     rw[if_neg ho] at h
     obtain⟨i1,i2,i3⟩:=yE m _ _ hk h
     rw[hlen] at i2
     refine⟨i1,by omega,fun _=>?_⟩
     cases m with
     | zero=>rw[PC.eQ,hlen];omega
     | succ m=>exact i3 (by omega)
   ·rename_i hw
    rw[if_neg hw] at h
    exact⟨key h,by show (l++[(c.do s).1]).length≤_;rw[hlen];omega,fun _=>by show 0<(l++[(c.do s).1]).length;rw[hlen];omega⟩
theorem Cy(s:PS)(h:Al c (c.fN s).2):(c.fN s).1.check=0:=by
 unfold PC.fN PC.jK at h ⊢
 have g5:Al c (c.take (⟨#[59]⟩:ByteArray) (c.eQ 8 [] (c.take (⟨#[100,111]⟩:ByteArray) (c.dC (c.take (⟨#[119,104,101,110]⟩:ByteArray) s).2).2).2).2).2:=h
 have g4:=g5.back (Up.take _) (fun f h=>h.take _)
 have g3:=g4.back (Up.eQ 8 [] _) (fun f h=>Kp.eQ _ _ _ h)
 have g2:=g3.back (Up.take _) (fun f h=>h.take _)
 have e1:=iE hF _ g2
 obtain⟨i1,i2,i3⟩:=yE hF 8 [] _ (fun d hd=>by cases hd) g4
 show dT.check ⟨(c.dC (c.take (⟨#[119,104,101,110]⟩:ByteArray) s).2).1,(c.eQ 8 [] (c.take (⟨#[100,111]⟩:ByteArray) (c.dC (c.take (⟨#[119,104,101,110]⟩:ByteArray) s).2).2).2).1,_⟩=0
 unfold dT.check
 exact c5 e1 (c5 (fO (decide_eq_true (i3 (by decide)))) (c5 (fO (decide_eq_true (by simpa using i2))) (o4 i1)))
omit hF in
omit hF in
end
end Go.Lx
namespace Go.Lx
open Go.Vc
def o5(s:ByteArray)(i:Int):TR:=if di (bt s i) then j4 s i else if iR (bt s i) then ld s i else kU s i
theorem gn(s:ByteArray)(f:Int):eP s f=if da s f=s.size then .ok (gC (da s f)) else o5 s (da s f):=rfl
theorem ug{p:Int→Bool}{s:ByteArray}{i E:Int}(h:i≤E)(hE:E≤s.size)(hall:∀k,i≤k→k<E→p (bt s k)=true)(hend:E<s.size→p (bt s E)=false):du p s i=E:=by
 obtain⟨n,hn⟩:∃n:Nat,n=(E-i).toNat:=⟨_,rfl⟩
 induction n generalizing i with
 | zero =>
   have:i=E:=by omega
   subst this
   rcases Int.lt_or_le i s.size with h' | h'
   ·rw[ew h',hend h'];rfl
   ·exact lI h'
 | succ n ih =>
   rw[ew (by omega),if_pos (hall i (Int.le_refl i) (by omega))]
   exact ih (by omega) (fun k h1 h2=>hall k (by omega) h2) (by omega)
theorem lQ{p:Int→Bool}{s:ByteArray}{i k:Int}(h1:i≤k)(h2:k<du p s i)(h3:i≤(s.size:Int)):p (bt s k)=true:=(ub h1 h2 h3).1
theorem qs{s s':ByteArray}{i i' E:Int}(hE:i≤E)(hEs:E≤s.size)(hE':i'+(E-i)≤s'.size)(hag:∀k,0≤k→k<E-i→bt s' (i'+k)=bt s (i+k))(hd:∀k,i≤k→k<E→di (bt s k)=true)
  (h1:E<s.size→di (bt s E)=false) (h2:i'+(E-i)<s'.size→di (bt s' (i'+(E-i)))=false) (v:Int):eS s' i' v=eS s i v:=by
 obtain⟨n,hn⟩:∃n:Nat,n=(E-i).toNat:=⟨_,rfl⟩
 induction n generalizing i i' v with
 | zero =>
   have hi:i=E:=by omega
   subst hi
   have e1:eS s i v=v:=by
    rcases Int.lt_or_le i s.size with h | h
    ·rw[iC h,h1 h];rfl
    ·exact oy h
   have e2:eS s' i' v=v:=by
    rcases Int.lt_or_le i' s'.size with h | h
    ·rw[iC h,show di (bt s' i')=false by have:=h2 (by omega);rwa [show i'+(i-i)=i' by omega] at this];rfl
    ·exact oy h
   rw[e1,e2]
 | succ n ih =>
   have hb:bt s' i'=bt s i:=by have:=hag 0 (Int.le_refl 0) (by omega);rwa [Int.add_zero,Int.add_zero] at this
   rw[iC (s:=s) (by omega),iC (s:=s') (by omega),hb,hd i (Int.le_refl i) (by omega)]
   simp only[if_true]
   refine ih (i:=i+1) (i':=i'+1) (by omega) (by omega) (fun k g0 g1=>?_) (fun k g0 g1=>hd k (by omega) g1) (fun h=>?_) _ (by omega)
   ·have:=hag (k+1) (by omega) (by omega)
    rw[show i'+1+k=i'+(k+1) by omega,show i+1+k=i+(k+1) by omega];exact this
   ·have:=h2 (by omega)
    rwa [show i'+1+(E-(i+1))=i'+(E-i) by omega]
theorem uh{s s':ByteArray}{i i':Int}{n:Int}(h0:0≤i)(h0':0≤i')(hn:0≤n)(hle:i+n≤s.size)(hle':i'+n≤s'.size)(hag:∀k,0≤k→k<n→bt s' (i'+k)=bt s (i+k)):cut s' i' (i'+n)=cut s i (i+n):=by
 have h1:=hZ h0 (by omega:i≤i+n) hle
 have h2:=hZ h0' (by omega:i'≤i'+n) hle'
 refine yr (by omega) fun k hk=>?_
 rw[oC h0' (by omega) (by omega) hle',oC h0 (by omega) (by omega) hle]
 exact hag k (by omega) (by omega)
theorem zu{s:ByteArray}{i:Int}{t:Tok}(h:j4 s i=.ok t) :
  ∃E e2,E=du di s i∧e2=(if fg (c8 s E)=1 then E else E+1)∧¬(eS s i 0>9223372036854775807∨(E-i>1∧bt s i=48)∨(e2<s.size∧(ee (bt s e2)=true∨(65≤bt s e2∧bt s e2≤90)))) ∧
   t=⟨3,cut s i e2,fg (c8 s E),eS s i 0,i⟩:=by
 refine⟨_,_,rfl,rfl, ?_, ?_⟩
 ·intro hc
  have:j4 s i=.bad 113 i:=if_pos hc
  rw[this] at h;cases h
 ·have:∀C:Prop,[Decidable C]→∀x y:TR,(if C then x else y)=.ok t→x=.bad 113 i→y=.ok t:=fun C _ x y h hx=>by
   split at h
   ·rw[hx] at h;cases h
   ·exact h
  have:=this _ _ _ h rfl
  cases this;rfl
theorem xq{s:ByteArray}{f:Int}(h0:0≤f)(h1:f≤s.size){t:Tok}(ht:eP s f=.ok t):qp s (da s f) t:=by
 rcases fC h0 h1 with ⟨t',ht',h⟩ | ⟨e,ht',_⟩
 ·rw[ht] at ht';cases ht';exact h
 ·rw[ht] at ht';cases ht'
theorem yF{s:ByteArray}{f:Int}(h0:0≤f)(h1:f≤s.size)(ho:da s f=s.size):dY s f=([gC s.size],none):=by
 rw[dV h0 h1,gn,if_pos ho,ho];rfl
theorem qt(s:ByteArray):∀(n:Nat) (f:Int),(iu s n f).1.length≤n
 | 0,f=>Nat.le_refl _
 | n+1,f=>by
   unfold iu
   cases eP s f with
   | bad e p=>simp
   | ok t =>
     simp only
     split
     ·simp
     ·simp only[List.length_cons];exact Nat.succ_le_succ (qt s n _)
theorem zw{s:ByteArray}{f:Int}(h0:0≤f)(h1:f≤s.size){l:List Tok}(h:dY s f=(l,none)):∃t r,l=t::r∧eP s f=.ok t∧((t.kind=0∧r=[])∨(t.kind≠0∧dY s (t.pos+t.text.size)=(r,none))):=by
 rw[dV h0 h1] at h
 cases ht:eP s f with
 | bad e p=>rw[ht] at h;cases h
 | ok t =>
   rw[ht] at h
   by_cases hk:t.kind=0
   ·simp only[hk,if_true] at h
    cases h
    exact⟨t,[],rfl,rfl,.inl ⟨hk,rfl⟩⟩
   ·simp only[hk,if_false] at h
    obtain⟨e1,e2⟩:=Prod.mk.inj h
    exact⟨t,_,e1.symm,rfl,.inr ⟨hk,Prod.ext rfl e2⟩⟩
structure ij (a z:ByteArray):Prop where
 lt:(a.size:Int)<z.size
 same:∀k,0≤k→k<(a.size:Int)→bt z k=bt a k
 nl:bt z a.size=10
theorem ij.run{a z:ByteArray}(h:ij a z){p:Int→Bool}(hp:p 10=false){i:Int}(h0:0≤i)(h1:i≤a.size):du p z i=du p a i:=by
 have hE:=eO (p:=p) h1
 have:=h.lt
 refine ug hE.1 (by omega) (fun k g0 g1=>?_) fun hl=>?_
 ·rw[h.same k (by omega) (by omega)];exact lQ g0 g1 h1
 ·rcases Int.lt_or_le (du p a i) a.size with hh | hh
  ·rw[h.same _ (by omega) hh];exact fZ h1 hh
  ·rw[show du p a i=a.size by omega,h.nl,hp]
theorem ij.byte{a z:ByteArray}(h:ij a z){i:Int}(h0:0≤i)(h1:i≤a.size):c8 z i=c8 a i∨(c8 z i=10∧c8 a i=0):=by
 have:=h.lt
 unfold c8
 rcases Int.lt_or_le i a.size with hh | hh
 ·left;rw[if_pos (by omega),if_pos hh,h.same i h0 hh]
 ·right;rw[if_pos (by omega),if_neg (by omega),show i=a.size by omega,h.nl];exact⟨rfl,rfl⟩
theorem ij.cut{a z:ByteArray}(h:ij a z){i e:Int}(h0:0≤i)(h1:i≤e)(h2:e≤a.size):cut z i e=cut a i e:=by
 have:=h.lt
 have hc:=uh (s:=a) (s':=z) (i:=i) (i':=i) (n:=e-i) h0 h0 (by omega) (by omega) (by omega) fun k g0 g1=>h.same _ (by omega) (by omega)
 rwa [show i+(e-i)=e by omega] at hc
theorem ij.val{a z:ByteArray}(h:ij a z){i:Int}(h0:0≤i)(h1:i≤a.size):eS z i 0=eS a i 0:=by
 have:=h.lt
 have hE:=eO (p:=di) h1
 refine qs (E:=du di a i) hE.1 hE.2 (by omega) (fun k g0 g1=>h.same _ (by omega) (by omega)) (fun k g0 g1=>lQ g0 g1 h1) (fun hl=>fZ h1 hl) (fun hl=>?_) 0
 rw[show i+(du di a i-i)=du di a i by omega]
 rcases Int.lt_or_le (du di a i) a.size with hh | hh
 ·rw[h.same _ (by omega) hh];exact fZ h1 hh
 ·rw[show du di a i=a.size by omega,h.nl];rfl
theorem wo{C D:Prop}[Decidable C][Decidable D](h:C↔D){α:Type}(x y:α):(if C then x else y)=if D then x else y:=by
 by_cases hc:C
 ·rw[if_pos hc,if_pos (h.1 hc)]
 ·rw[if_neg hc,if_neg (fun hd=>hc (h.2 hd))]
theorem ij.num{a z:ByteArray}(h:ij a z){i:Int}(h0:0≤i)(h1:i<a.size):j4 z i=j4 a i:=by
 have hlt:=h.lt
 have hE:=eO (p:=di) (s:=a) (i:=i) (by omega)
 have hr:du di z i=du di a i:=h.run (by decide) h0 (by omega)
 have hv:eS z i 0=eS a i 0:=h.val h0 (by omega)
 generalize hEd:du di a i=E at hE hr
 have hty:fg (c8 z E)=fg (c8 a E):=by
  rcases h.byte (i:=E) (by omega) hE.2 with hb | ⟨hb,hb'⟩
  ·rw[hb]
  ·rw[hb,hb'];rfl
 have htE:fg (c8 a E)≠1→E<a.size:=fun hne=>by
  rcases Int.lt_or_le E a.size with h | h
  ·exact h
  ·rw[show c8 a E=0 by unfold c8;rw[if_neg (by omega)]] at hne;exact absurd rfl hne
 have he2:∃e2,e2=(if fg (c8 a E)=1 then E else E+1)∧E≤e2∧e2≤a.size:=by
  refine⟨_,rfl, ?_⟩
  split
  ·omega
  ·rename_i hne;have:=htE hne;omega
 obtain⟨e2,he2,hb1,hb2⟩:=he2
 have hb0:bt z i=bt a i:=h.same i h0 h1
 have hc:(e2<z.size∧(ee (bt z e2)=true∨(65≤bt z e2∧bt z e2≤90)))↔(e2<a.size∧(ee (bt a e2)=true∨(65≤bt a e2∧bt a e2≤90))):=by
  rcases Int.lt_or_le e2 a.size with hh | hh
  ·rw[h.same e2 (by omega) hh]
   exact⟨fun x=>⟨hh,x.2⟩,fun x=>⟨by omega,x.2⟩⟩
  ·refine⟨fun x=>?_,fun x=>by omega⟩
   have he:e2=a.size:=by omega
   rw[he,h.nl] at x
   rcases x.2 with y | y
   ·exact absurd y (by decide)
   ·exact absurd y (by decide)
 unfold j4
 simp only[hr,hEd,hty,←he2,hv,hb0,h.cut h0 (by omega:i≤e2) hb2]
 exact wo (or_congr Iff.rfl (or_congr Iff.rfl hc)) _ _
theorem ij.mark{a z:ByteArray}(h:ij a z){i:Int}(h0:0≤i)(h1:i<a.size):fL z i=fL a i:=by
 have hb0:bt z i=bt a i:=h.same i h0 h1
 rcases h.byte (i:=i+1) (by omega) (by omega) with hb | ⟨hb,hb'⟩
 ·unfold fL;rw[hb0,hb]
 ·unfold fL
  simp only[hb0,hb,hb']
  by_cases h1:single (bt a i)=true
  ·rw[if_pos h1,if_pos h1]
  ·rw[if_neg h1,if_neg h1]
   by_cases h2:bt a i=38∨bt a i=124
   ·rw[if_pos h2,if_pos h2,if_neg (by omega),if_neg (by omega)]
   ·rw[if_neg h2,if_neg h2];rfl
theorem ij.read{a z:ByteArray}(h:ij a z){i:Int}(h0:0≤i)(h1:i<a.size):o5 z i=o5 a i:=by
 have hb0:bt z i=bt a i:=h.same i h0 h1
 have hn:ld z i=ld a i:=by
  have hE:=eO (p:=ee) (s:=a) (i:=i) (by omega)
  unfold ld
  simp only[h.run (p:=ee) (by decide) h0 (by omega),h.cut h0 hE.1 hE.2]
 have hm:kU z i=kU a i:=by
  have hr:=iK a i
  have hl:=ln h1
  unfold kU
  rw[h.mark h0 h1,h.cut h0 (by omega) hl]
 unfold o5
 rw[hb0,h.num h0 h1,hn,hm]
theorem ij.over{a z:ByteArray}(h:ij a z):∀(n:Nat) (r:Bool) (f:Int),0≤f→f≤a.size→(a.size-f).toNat=n →
  (ir a r f<a.size→ir z r f=ir a r f)∧(ir a r f=a.size→ir z r f=da z (a.size+1)):=by
 have hlt:=h.lt
 intro n
 induction n with
 | zero =>
   intro r f h0 h1 hn
   have hf:f=a.size:=by omega
   subst hf
   rw[iB (Int.le_refl _)]
   refine⟨fun h=>by omega,fun _=>?_⟩
   rw[eA (by omega),h.nl]
   rw[show ox 10 r=false from rfl]
   rfl
 | succ n ih =>
   intro r f h0 h1 hn
   have hb:=h.same f h0 (by omega)
   have st:=eA (s:=a) (r:=r) (i:=f) (by omega)
   have st':=eA (s:=z) (r:=r) (i:=f) (by omega)
   rw[hb] at st'
   split at st
   ·rename_i hc
    rw[if_pos hc] at st'
    exact⟨fun _=>by rw[st,st'],fun e=>by omega⟩
   ·rename_i hc
    rw[if_neg hc] at st'
    rw[st,st']
    exact ih _ (f+1) (by omega) (by omega) (by omega)
theorem xt{s:ByteArray}{f g:Int}(h:da s f=da s g):eP s f=eP s g:=by rw[gn,gn,h]
theorem xu{s:ByteArray}{f g:Int}(h0:0≤f)(h1:f≤s.size)(g0:0≤g)(g1:g≤s.size)(h:da s f=da s g):dY s f=dY s g:=by
 rw[dV h0 h1,dV g0 g1,xt h]
theorem ij.dY{a z:ByteArray}(h:ij a z):∀(n:Nat) (f:Int),0≤f→f≤a.size→(a.size-f).toNat=n →
  dY z f=match dY a f with
   | (l,some ep)=>(l,some ep)
   | (l,none)=>(l.dropLast++(Lx.dY z (a.size+1)).1,(Lx.dY z (a.size+1)).2):=by
 have hlt:=h.lt
 intro n
 induction n using Nat.strongRecOn with
 | _ n ih =>
   intro f h0 h1 hn
   obtain⟨o1,o2⟩:=h.over n false f h0 h1 hn
   have ho:=gj (s:=a) h1
   by_cases he:da a f=a.size
   ·have hz:da z f=da z (a.size+1):=o2 he
    rw[yF h0 h1 he,xu h0 (by omega) (by omega) (by omega) hz]
    simp
   ·have hz:da z f=da a f:=o1 (by unfold da at he ho;omega)
    have htok:eP z f=eP a f:=by
     rw[gn,gn,hz,if_neg (by omega),if_neg he,h.read (by omega) (by omega)]
    rw[dV h0 (by omega),dV h0 h1,htok]
    cases ht:eP a f with
    | bad e p=>rfl
    | ok t =>
      have hk:t.kind≠0:=fun hk=>by
       have hat:=xq h0 h1 ht
       rcases hat.2.2.2 with ⟨_,hh,_⟩ | ⟨hh,_⟩
       ·exact he hh
       ·omega
      have hnx:=ga h0 h1 ht
      have:=hnx.2.2 hk
      simp only[hk,if_false]
      have hi:=ih (a.size-(t.pos+t.text.size)).toNat (by omega) (t.pos+t.text.size) (by omega) (by omega) rfl
      rw[hi]
      cases hR:Lx.dY a (t.pos+t.text.size) with
      | mk l o =>
        cases o with
        | some ep=>rfl
        | none =>
          obtain⟨t2,r2,hl2,_⟩:=zw (by omega) hnx.1 hR
          simp only[hl2,List.dropLast_cons_cons,List.cons_append]
structure eU (b z:ByteArray) (d:Int):Prop where
 d0:0≤d
 size:(z.size:Int)=b.size+d
 same:∀k,0≤k→k<(b.size:Int)→bt z (k+d)=bt b k
theorem eU.run{b z:ByteArray}{d:Int}(h:eU b z d){p:Int→Bool}{i:Int}(h0:0≤i)(h1:i≤b.size):du p z (i+d)=du p b i+d:=by
 have hE:=eO (p:=p) h1
 have hd:=h.d0
 have hs:=h.size
 refine ug (by omega) (by omega) (fun k g0 g1=>?_) fun hl=>?_
 ·rw[show k=k-d+d by omega,h.same (k-d) (by omega) (by omega)];exact lQ (by omega) (by omega) h1
 ·rw[h.same _ (by omega) (by omega)];exact fZ h1 (by omega)
theorem eU.byte{b z:ByteArray}{d:Int}(h:eU b z d){i:Int}(h0:0≤i):c8 z (i+d)=c8 b i:=by
 have hs:=h.size
 unfold c8
 by_cases hh:i<b.size
 ·rw[if_pos (by omega),if_pos hh,h.same i h0 hh]
 ·rw[if_neg (by omega),if_neg hh]
theorem eU.cut{b z:ByteArray}{d:Int}(h:eU b z d){i e:Int}(h0:0≤i)(h1:i≤e)(h2:e≤b.size):cut z (i+d) (e+d)=cut b i e:=by
 have hd:=h.d0
 have hs:=h.size
 have hc:=uh (s:=b) (s':=z) (i:=i) (i':=i+d) (n:=e-i) h0 (by omega) (by omega) (by omega) (by omega) fun k g0 g1=>by
  rw[show i+d+k=i+k+d by omega];exact h.same _ (by omega) (by omega)
 rwa [show i+(e-i)=e by omega,show i+d+(e-i)=e+d by omega] at hc
theorem eU.val{b z:ByteArray}{d:Int}(h:eU b z d){i:Int}(h0:0≤i)(h1:i≤b.size):eS z (i+d) 0=eS b i 0:=by
 have hd:=h.d0
 have hs:=h.size
 have hE:=eO (p:=di) h1
 refine qs (E:=du di b i) hE.1 hE.2 (by omega) (fun k g0 g1=>?_) (fun k g0 g1=>lQ g0 g1 h1) (fun hl=>fZ h1 hl) (fun hl=>?_) 0
 ·rw[show i+d+k=i+k+d by omega];exact h.same _ (by omega) (by omega)
 ·rw[show i+d+(du di b i-i)=du di b i+d by omega,h.same _ (by omega) (by omega)];exact fZ h1 (by omega)
def TR.shift(d:Int):TR→TR
 | .ok t=>.ok ⟨t.kind,t.text,t.dU,t.n,t.pos+d⟩
 | .bad e p=>.bad e (p+d)
theorem j8{C:Prop}[Decidable C]{d:Int}{x y:TR}:TR.shift d (if C then x else y)=if C then x.shift d else y.shift d:=by split<;>rfl
theorem eU.num{b z:ByteArray}{d:Int}(h:eU b z d){i:Int}(h0:0≤i)(h1:i<b.size):j4 z (i+d)=(j4 b i).shift d:=by
 have hd:=h.d0
 have hs:=h.size
 have hE:=eO (p:=di) (s:=b) (i:=i) (by omega)
 have hr:=h.run (p:=di) (i:=i) h0 (by omega)
 have hv:=h.val (i:=i) h0 (by omega)
 generalize hEd:du di b i=E at hE hr
 have hby:=h.byte (i:=E) (by omega)
 have htE:fg (c8 b E)≠1→E<b.size:=fun hne=>by
  rcases Int.lt_or_le E b.size with h | h
  ·exact h
  ·rw[show c8 b E=0 by unfold c8;rw[if_neg (by omega)]] at hne;exact absurd rfl hne
 have he2:∃e2,e2=(if fg (c8 b E)=1 then E else E+1)∧(if fg (c8 b E)=1 then E+d else E+d+1)=e2+d∧E≤e2∧e2≤b.size:=by
  refine⟨_,rfl, ?_⟩
  split
  ·exact⟨rfl,by omega⟩
  ·rename_i hne;have:=htE hne;exact⟨by omega,by omega⟩
 obtain⟨e2,he2,he2',hb1,hb2⟩:=he2
 have hb0:bt z (i+d)=bt b i:=h.same i h0 h1
 have hc:(e2+d<z.size∧(ee (bt z (e2+d))=true∨(65≤bt z (e2+d)∧bt z (e2+d)≤90)))↔(e2<b.size∧(ee (bt b e2)=true∨(65≤bt b e2∧bt b e2≤90))):=by
  rcases Int.lt_or_le e2 b.size with hh | hh
  ·rw[h.same e2 (by omega) hh]
   exact⟨fun x=>⟨hh,x.2⟩,fun x=>⟨by omega,x.2⟩⟩
  ·exact⟨fun x=>by omega,fun x=>by omega⟩
 have hdig:(E+d-(i+d)>1∧bt b i=48)↔(E-i>1∧bt b i=48):=by rw[show E+d-(i+d)=E-i by omega]
 unfold j4
 simp only[hr,hEd,hby,he2',←he2,hv,hb0,h.cut h0 (by omega:i≤e2) hb2]
 rw[j8]
 exact wo (or_congr (Iff.refl (eS b i 0>9223372036854775807)) (or_congr hdig hc)) _ _
theorem eU.read{b z:ByteArray}{d:Int}(h:eU b z d){i:Int}(h0:0≤i)(h1:i<b.size):o5 z (i+d)=(o5 b i).shift d:=by
 have hb0:bt z (i+d)=bt b i:=h.same i h0 h1
 have hn:ld z (i+d)=(ld b i).shift d:=by
  have hE:=eO (p:=ee) (s:=b) (i:=i) (by omega)
  unfold ld
  simp only[h.run (p:=ee) (i:=i) h0 (by omega),h.cut h0 hE.1 hE.2,show du ee b i+d-(i+d)=du ee b i-i by omega]
  rw[j8]
  rfl
 have hm:kU z (i+d)=(kU b i).shift d:=by
  have hr:=iK b i
  have hl:=ln h1
  have hmn:fL z (i+d)=fL b i:=by
   unfold fL
   rw[hb0,show i+d+1=i+1+d by omega,h.byte (i:=i+1) (by omega)]
  unfold kU
  rw[hmn,show i+d+fL b i=i+fL b i+d by omega,h.cut h0 (by omega) hl,j8]
  rfl
 unfold o5
 rw[hb0,h.num h0 h1,hn,hm,j8,j8]
theorem eU.over{b z:ByteArray}{d:Int}(h:eU b z d):∀(n:Nat) (r:Bool) (f:Int),0≤f→f≤b.size→(b.size-f).toNat=n→ir z r (f+d)=ir b r f+d:=by
 have hs:=h.size
 intro n
 induction n with
 | zero =>
   intro r f h0 h1 hn
   rw[iB (by omega),iB (by omega)]
 | succ n ih =>
   intro r f h0 h1 hn
   rw[eA (s:=b) (by omega),eA (s:=z) (by omega),h.same f h0 (by omega)]
   split
   ·rfl
   ·rw[show f+d+1=f+1+d by omega]
    exact ih _ (f+1) (by omega) (by omega) (by omega)
theorem eU.tok{b z:ByteArray}{d:Int}(h:eU b z d){f:Int}(h0:0≤f)(h1:f≤b.size):eP z (f+d)=(eP b f).shift d:=by
 have hs:=h.size
 have ho:=gj (s:=b) h1
 have hz:da z (f+d)=da b f+d:=h.over _ false f h0 h1 rfl
 rw[gn,gn,hz]
 by_cases he:da b f=b.size
 ·rw[if_pos (by omega),if_pos he];rfl
 ·rw[if_neg (by omega),if_neg he,h.read (by omega) (by omega)]
def Tok.shift(d:Int)(t:Tok):Tok:=⟨t.kind,t.text,t.dU,t.n,t.pos+d⟩
theorem eU.dY{b z:ByteArray}{d:Int}(h:eU b z d):∀(n:Nat) (f:Int),0≤f→f≤b.size→(b.size-f).toNat=n →
  dY z (f+d)=((dY b f).1.map (Tok.shift d),(dY b f).2.map fun ep=>(ep.1,ep.2+d)):=by
 have hs:=h.size
 have hd:=h.d0
 intro n
 induction n using Nat.strongRecOn with
 | _ n ih =>
   intro f h0 h1 hn
   rw[dV (by omega) (by omega),dV h0 h1,h.tok h0 h1]
   cases ht:eP b f with
   | bad e p=>rfl
   | ok t =>
     have hnx:=ga h0 h1 ht
     simp only[TR.shift]
     by_cases hk:t.kind=0
     ·simp only[hk,if_true];simp[Tok.shift,hk]
     ·have:=hnx.2.2 hk
      simp only[hk,if_false]
      have hi:=ih (b.size-(t.pos+t.text.size)).toNat (by omega) (t.pos+t.text.size) (by omega) hnx.1 rfl
      rw[show t.pos+d+(t.text.size:Int)=t.pos+t.text.size+d by omega,hi]
      rfl
theorem rJ(s:ByteArray):∀(n:Nat) (f:Int),(iu s n f).1.length≤n
 | 0,f=>Nat.le_refl _
 | n+1,f=>by
   unfold iu
   cases ht:eP s f with
   | bad e p=>exact Nat.zero_le _
   | ok t =>
     show (if t.kind=0 then ([t],none) else _:List Tok×Option (Int×Int)).1.length≤n+1
     split
     ·exact Nat.succ_le_succ (Nat.zero_le _)
     ·exact Nat.succ_le_succ (rJ s n _)
def Cz(nm:ByteArray):List ByteArray→Int→Int
 | [],_=>-1
 | x::r,i=>if x.toList==nm.toList then i else Cz nm r (i+1)
def eK.mb(s:eK)(nm:ByteArray):Int:=Cz nm (s.regs.map eY.name) 0
def eK.slot(s:eK)(nm:ByteArray):Int:=Cz nm (s.slots.map dB.name) 0
def eK.iD(s:eK)(i:Int):Int:=((s.regs[i.toNat]?).map eY.dU).getD 0
theorem cX.clean{P:Program}{f:FuncId}{args:Array Value}{I:cS}{F:cR}{v:Value}(h:cX P f args I F fun e I' G=>e=.returned v∧∃H,G.Perm (H++F)):cX P f args I F (od v F) :=
 h.keep fun e I' G w hl hs ⟨he,H,hp⟩=>⟨I',F,cS.le_refl _,(hs.perm hp).drop,he,rfl⟩
theorem Part.len{α:Type}{z E n c:Nat}{f:α→List Value}{O:α→cR→Prop}{a:Option Addr}{l:List α}{F F':cR}(h:Part z f E O a n c l F F'):n=l.length:=by
 obtain⟨A,hs,hA,hk,hp⟩:=h;exact hA.1
theorem Px.fs.bare:∀{x:Px},x.fs→x.bare.fs:=by
 refine @(Px.ind fun x ih h=>?_)
 rw[Px.nE]
 refine .mk h.name (by show (x.kids.map Px.bare).length≤_;rw[List.length_map];exact h.len) fun k hk=>?_
 have hk:k∈x.kids.map Px.bare:=hk
 obtain⟨y,hy,rfl⟩:=List.mem_map.1 hk
 exact ih y hy (h.zX y hy)
theorem fi.dn.bare{d:fi}(h:d.dn):d.bare.dn:=by
 refine⟨h.1,fun x hx=>?_⟩
 have hs:=h.2
 simp only[fi.AA,fi.bare,List.mem_cons,List.not_mem_nil,or_false] at hx hs
 rcases hx with rfl | rfl | rfl | rfl
 ·exact (hs _ (.inl rfl)).bare
 ·exact (hs _ (.inr (.inl rfl))).bare
 ·exact (hs _ (.inr (.inr (.inl rfl)))).bare
 ·exact (hs _ (.inr (.inr (.inr rfl)))).bare
theorem dT.dn.bare{r:dT}(h:r.dn):r.bare.dn:=by
 refine⟨h.1.bare,by simp only[dT.bare,List.length_map];exact h.2.1,fun d hd=>?_⟩
 obtain⟨d',hd',rfl⟩:=List.mem_map.1 hd
 exact (h.2.2 d' hd').bare
theorem dF.dn.bare{r:dF}(h:r.dn):r.bare.dn:=by
 refine⟨h.1,by simp only[dF.bare,List.length_map];exact h.2.1,fun d hd=>?_⟩
 obtain⟨d',hd',rfl⟩:=List.mem_map.1 hd
 exact (h.2.2 d' hd').bare
theorem eK.dn.bare{s:eK}(h:s.dn):s.bare.dn:=by
 refine⟨h.name, ?_,fun d hd=>?_, ?_,fun d hd=>?_, ?_,fun d hd=>?_⟩
 ·simp only[eK.bare,List.length_map];exact h.regs
 ·obtain⟨d',hd',rfl⟩:=List.mem_map.1 hd
  exact⟨(h.mb d' hd').1,(h.mb d' hd').2.bare⟩
 ·simp only[eK.bare,List.length_map];exact h.slots
 ·obtain⟨d',hd',rfl⟩:=List.mem_map.1 hd
  exact h.slot d' hd'
 ·simp only[eK.bare,List.length_map];exact h.states
 ·obtain⟨d',hd',rfl⟩:=List.mem_map.1 hd
  exact (h.state d' hd').bare
theorem nR.tail{α:Type}{z E n c:Nat}{f:α→List Value}{O:α→cR→Prop}{a:Option Addr}{l:List α}{H G:cR}(h:nR true z f E O a n c l H)(hG:∀x,x∈H→x∈G) :
  ∃b,a=some ⟨b,0,none⟩∧c=n+2∧∀I,Rd I G (⟨b,n*z+(z-1),none⟩:Addr) [.int .i64 (-771)]:=by
 obtain⟨A,hs,rfl,hA,ht,hO⟩:=h
 obtain⟨b,cells,e,ha,hAe,hc,hm⟩:=ht rfl
 subst hAe
 refine⟨b,ha,hc,fun I=>Rd.u7 (hG _ (List.mem_append_left _ (List.mem_cons_self ..))) _ fun j hj=>?_⟩
 have:j=0:=by simpa using hj
 subst this
 rw[Nat.add_zero,hm];rfl
section
variable (s:iS) (hl:s.p.zr) {I:cS} {F:cR} (hok:s.Ok I F)
include hl hok
end
end Go.Lx
namespace Go.Lx
open Go.Vc
section
variable (s:iS) (hl:s.p.zr) {I:cS} {F:cR} (hok:s.Ok I F)
include hl hok
end
end Go.Lx
namespace Go.Lx
open Go.Vc
section
variable (s:iS) (hl:s.p.zr) {I:cS} {F:cR} (hok:s.Ok I F)
include hl hok
end
end Go.Lx
namespace Go.Lx
open Go.Vc
inductive iV (B:Int):Px→Prop
 | mk {k o t n f:Int} {s:ByteArray} {l:List Px} {q:Int}:0≤q→q≤B→(∀x∈l,iV B x)→(s.size:Int)≤B→iV B (.mk k o t n f s l q)
theorem iV.pos{B:Int}{x:Px}(h:iV B x):0≤x.pos∧x.pos≤B:=by cases h;exact⟨by assumption,by assumption⟩
theorem iV.nm{B:Int}{x:Px}(h:iV B x):(x.name.size:Int)≤B:=by cases h;assumption
theorem xv{B q:Int}(h0:0≤q)(h1:q≤B):(((⟨#[]⟩:ByteArray).size:Nat):Int)≤B:=Int.le_trans h0 h1
theorem iV.zX{B:Int}{x:Px}(h:iV B x):∀k∈x.kids,iV B k:=by cases h;assumption
theorem iV.leaf{B:Int}{k o t n f:Int}{q:Int}(h0:0≤q)(h1:q≤B):iV B (.mk k o t n f ⟨#[]⟩ [] q):=.mk h0 h1 (fun x hx=>by cases hx) (xv h0 h1)
def sH(c:PC)(B:Int):Prop:=0≤B∧∀t∈c.l,(0≤t.pos∧t.pos≤B)∧(t.text.size:Int)≤B
def Sz(c:PC)(B:Int)(g:PS→Px×PS):Prop:=∀s,(g s).1.size+3*s.next≤1+3*(g s).2.next∧iV B (g s).1
section
variable {c:PC} {B:Int} (hB:sH c B)
include hB
theorem zx(i:Nat):0≤(c.tok i).pos∧(c.tok i).pos≤B:=by
 unfold PC.tok
 cases h:c.l[i]? with
 | none=>exact⟨Int.le_refl 0,hB.1⟩
 | some t=>exact (hB.2 t (List.mem_of_getElem? h)).1
theorem kK(s:PS):0≤(c.now s).pos∧(c.now s).pos≤B:=by
 unfold PC.now
 split
 ·exact⟨Int.le_refl 0,hB.1⟩
 ·exact zx hB _
theorem AP(s:PS):((c.now s).text.size:Int)≤B:=by
 unfold PC.now
 split
 ·exact hB.1
 ·unfold PC.tok
  cases h:c.l[s.next]? with
  | none=>exact hB.1
  | some t=>exact (hB.2 t (List.mem_of_getElem? h)).2
theorem je:iV B dZ:=.leaf (Int.le_refl 0) hB.1
theorem vo(s:PS):(c.literal s).1.1.size=1∧iV B (c.literal s).1.1:=by
 unfold PC.literal
 have hn:=kK hB s
 have one:∀(a b:Int),(nP a b (c.now s).pos).size=1∧iV B (nP a b (c.now s).pos):=fun a b=>⟨rfl,.leaf hn.1 hn.2⟩
 split
 ·exact one _ _
 ·split
  ·exact one _ _
  ·split
   ·exact one _ _
   ·exact⟨rfl,je hB⟩
end
theorem oF(a b:Px):Px.hU [a,b]=a.size+b.size:=by rw[Px.hU,Px.hU,Px.hU];omega
section
variable {c:PC} {B:Int} (hB:sH c B) {nx:Lv} (hx:Sz c B nx.ex) (hu:Sz c B nx.un)
include hB hx
theorem wq:∀(n:Nat) (f:Bool) (s:PS),Px.hU (c.dv nx n f s).1+3*s.next≤n+3*(c.dv nx n f s).2.next∧∀k∈(c.dv nx n f s).1,iV B k
 | 0,f,s=>by rw[PC.dv];exact⟨by show (0:Int)+3*(s.next:Int)≤((0:Nat):Int)+3*(s.next:Int);omega,fun k hk=>by cases hk⟩
 | n+1,f,s=>by
   have _:=hB
   rw[PC.dv]
   have h1:s.next≤(if f then s else (c.take (⟨#[44]⟩:ByteArray) s).2).next:=by
    split
    ·exact Nat.le_refl _
    ·exact (Up.take _).1
   obtain⟨h2,h3⟩:=hx (if f then s else (c.take (⟨#[44]⟩:ByteArray) s).2)
   obtain⟨h4,h5⟩:=wq n false (nx.ex (if f then s else (c.take (⟨#[44]⟩:ByteArray) s).2)).2
   refine⟨?_,fun k hk=>?_⟩
   ·show Px.hU ((nx.ex _).1::_)+_≤_
    rw[Px.hU]
    show _≤_+3*(((c.dv nx n false (nx.ex (if f then s else (c.take (⟨#[44]⟩:ByteArray) s).2)).2).2.next:Nat):Int)
    omega
   ·rcases List.mem_cons.1 hk with rfl | hk
    ·exact h3
    ·exact h5 k hk
theorem wu{d kind oper dU pos:Int}{many:Nat}{s:PS}(hm:many≤3)(h0:0≤pos)(h1:pos≤B):(c.call nx d kind oper dU pos many s).1.size+3*s.next≤1+3*(c.call nx d kind oper dU pos many s).2.next∧iV B (c.call nx d kind oper dU pos many s).1:=by
 unfold PC.call
 split
 ·rw[dL];exact⟨Int.le_refl _,je hB⟩
 ·have h2:(c.cT d s).inc.next=s.next+1:=by rw[ft,dL]
  have h3:=(Up.take (c:=c) (s:=(c.cT d s).inc) (⟨#[40]⟩:ByteArray)).1
  obtain⟨h4,h5⟩:=wq hB hx many true (c.take (⟨#[40]⟩:ByteArray) (c.cT d s).inc).2
  have h6:=(Up.take (c:=c) (s:=(c.dv nx many true (c.take (⟨#[40]⟩:ByteArray) (c.cT d s).inc).2).2) (⟨#[41]⟩:ByteArray)).1
  refine⟨?_,.mk h0 h1 h5 (xv h0 h1)⟩
  show Px.size (.mk kind oper dU 0 0 ⟨#[]⟩ _ pos)+_≤1+3*((c.take (⟨#[41]⟩:ByteArray) (c.dv nx many true (c.take (⟨#[40]⟩:ByteArray) (c.cT d s).inc).2).2).2.next:Int)
  rw[Px.size]
  omega
theorem zy(d:Int):Sz c B (c.rest nx d):=fun s=>by
 unfold PC.rest
 have hn:=kK hB s
 split
 ·split
  ·rw[gf,ft];exact⟨by show (1:Int)+_≤_;omega,je hB⟩
  ·exact⟨by show (1:Int)+3*(s.next:Int)≤1+3*((s.next+1+1:Nat):Int);omega,.leaf hn.1 hn.2⟩
 ·split
  ·split
   ·rw[dL];exact⟨Int.le_refl _,je hB⟩
   ·have h2:(c.cT d s).inc.next=s.next+1:=by rw[ft,dL]
    obtain⟨h3,h4⟩:=hx (c.cT d s).inc
    have h5:=(Up.take (c:=c) (s:=(nx.ex (c.cT d s).inc).2) (⟨#[41]⟩:ByteArray)).1
    exact⟨by show (nx.ex (c.cT d s).inc).1.size+_≤1+3*((c.take (⟨#[41]⟩:ByteArray) (nx.ex (c.cT d s).inc).2).2.next:Int);omega,h4⟩
  ·rw[gf];exact⟨Int.le_refl _,je hB⟩
theorem AQ(d:Int):Sz c B (c.one nx d):=fun s=>by
 unfold PC.one
 have hn:=kK hB s
 split
 ·obtain⟨h1,h2⟩:=vo hB s
  have h3:=(Up.literal (c:=c) (s:=s)).1
  exact⟨by show (c.literal s).1.1.size+_≤1+3*((c.literal s).2.next:Int);rw[h1];omega,h2⟩
 ·split
  ·exact⟨by show (1:Int)+3*(s.next:Int)≤1+3*((s.next+1:Nat):Int);omega,.mk hn.1 hn.2 (fun x hx=>by cases hx) (AP hB s)⟩
  ·split
   ·exact⟨by show (1:Int)+3*(s.next:Int)≤1+3*((s.next+1:Nat):Int);omega,.leaf hn.1 hn.2⟩
   ·split
    ·exact wu hB hx (by split<;>decide) hn.1 hn.2
    ·split
     ·exact wu hB hx (by decide) hn.1 hn.2
     ·exact zy hB hx d s
include hu
theorem qu(d:Int):Sz c B (c.unary nx d):=fun s=>by
 unfold PC.unary
 have hn:=kK hB (c.cT d s)
 split
 ·exact AQ hB hx d s
 ·split
  ·rw[dL];exact⟨Int.le_refl _,je hB⟩
  ·have h2:(c.cT d s).inc.next=s.next+1:=by rw[ft,dL]
   obtain⟨h3,h4⟩:=hu (c.cT d s).inc
   refine⟨?_,.mk hn.1 hn.2 (fun k hk=>?_) (xv hn.1 hn.2)⟩
   ·show Px.size (.mk 5 _ 0 0 0 ⟨#[]⟩ [(nx.un (c.cT d s).inc).1] _)+_≤1+3*((nx.un (c.cT d s).inc).2.next:Int)
    rw[Px.size,Px.hU,Px.hU];omega
   ·rw[List.mem_singleton] at hk;subst hk;exact h4
end
theorem ui{c:PC}{B:Int}(hB:sH c B){ws:List ByteArray}{o:Int}{sub:PS→Px×PS}(h:Sz c B sub):∀(m:Nat) (n:Px) (s:PS) (s0:Int),n.size+s0≤1+3*s.next→iV B n→(c.dA ws o sub m n s).1.size+s0≤1+3*(c.dA ws o sub m n s).2.next∧iV B (c.dA ws o sub m n s).1
 | 0,n,s,s0,hn,hp=>⟨hn,hp⟩
 | m+1,n,s,s0,hn,hp=>by
   rw[PC.dA]
   split
   ·exact⟨hn,hp⟩
   ·have hq:=kK hB s
    obtain⟨h1,h2⟩:=h s.inc
    rw[ft] at h1
    refine ui hB h m _ _ s0 ?_ (.mk hq.1 hq.2 (fun k hk=>?_) (xv hq.1 hq.2))
    ·rw[ib,Px.size,oF];omega
    ·rcases List.mem_cons.1 hk with rfl | hk
     ·exact hp
     ·rw[List.mem_singleton] at hk;subst hk;exact h2
theorem pt{c:PC}{B:Int}(hB:sH c B){ws:List ByteArray}{o:Int}{sub:PS→Px×PS}(h:Sz c B sub):Sz c B (c.loop ws o sub):=fun s=>ui hB h _ _ _ _ (h s).1 (h s).2
section
variable {c:PC} {B:Int} (hB:sH c B) {nx:Lv} (hx:Sz c B nx.ex) (hu:Sz c B nx.un) (hm:dN c nx.ex) (hmu:dN c nx.un) (d:Int)
include hB hx hu
theorem vq:Sz c B (c.product nx d):=pt hB (qu hB hx hu d)
theorem yG:Sz c B (c.sum nx d):=pt hB (vq hB hx hu d)
theorem vr:Sz c B (c.compare nx d):=fun s=>by
 unfold PC.compare
 obtain⟨h1,h2⟩:=yG hB hx hu d s
 have hq:=kK hB (c.sum nx d s).2
 show (if c.any gY (c.sum nx d s).2<0 then c.sum nx d s else _).1.size+_≤1+3*((if c.any gY (c.sum nx d s).2<0 then c.sum nx d s else _:Px×PS).2.next:Int)∧iV B (if c.any gY (c.sum nx d s).2<0 then c.sum nx d s else _:Px×PS).1
 split
 ·exact⟨h1,h2⟩
 ·obtain⟨h3,h4⟩:=yG hB hx hu d (c.sum nx d s).2.inc
  rw[ft] at h3
  refine⟨?_,.mk hq.1 hq.2 (fun k hk=>?_) (xv hq.1 hq.2)⟩
  ·show Px.size (ib _ _ _ _)+_≤1+3*((c.sum nx d (c.sum nx d s).2.inc).2.next:Int)
   rw[ib,Px.size,oF];omega
  ·rcases List.mem_cons.1 hk with rfl | hk
   ·exact h2
   ·rw[List.mem_singleton] at hk;subst hk;exact h4
theorem AR:Sz c B (c.and nx d):=pt hB (vr hB hx hu d)
theorem BI:Sz c B (c.or nx d):=pt hB (AR hB hx hu d)
include hm hmu
theorem wv:Sz c B (c.expr nx d):=fun s=>by
 unfold PC.expr
 obtain⟨h1,h2⟩:=BI hB hx hu d s
 have hup:=(Up.or hm hmu d s).1
 show (if c.dH _ (c.or nx d s).2 then _ else c.or nx d s:Px×PS).1.size+_≤1+3*((if c.dH _ (c.or nx d s).2 then _ else c.or nx d s:Px×PS).2.next:Int)∧iV B (if c.dH _ (c.or nx d s).2 then _ else c.or nx d s:Px×PS).1
 split
 ·show (if (c.cT d (c.or nx d s).2).over then _ else _:Px×PS).1.size+_≤1+3*((if (c.cT d (c.or nx d s).2).over then _ else _:Px×PS).2.next:Int)∧iV B (if (c.cT d (c.or nx d s).2).over then _ else _:Px×PS).1
  have hq:=kK hB (c.cT d (c.or nx d s).2)
  split
  ·rw[dL];exact⟨by show (1:Int)+_≤_;omega,je hB⟩
  ·have h3:(c.cT d (c.or nx d s).2).inc.next=(c.or nx d s).2.next+1:=by rw[ft,dL]
   obtain⟨h4,h5⟩:=hx (c.cT d (c.or nx d s).2).inc
   have h6:=(Up.take (c:=c) (s:=(nx.ex (c.cT d (c.or nx d s).2).inc).2) (⟨#[58]⟩:ByteArray)).1
   obtain⟨h7,h8⟩:=hx (c.take (⟨#[58]⟩:ByteArray) (nx.ex (c.cT d (c.or nx d s).2).inc).2).2
   refine⟨?_,.mk hq.1 hq.2 (fun k hk=>?_) (xv hq.1 hq.2)⟩
   ·show Px.size (.mk 7 0 0 0 0 ⟨#[]⟩ [(c.or nx d s).1,(nx.ex (c.cT d (c.or nx d s).2).inc).1,(nx.ex (c.take (⟨#[58]⟩:ByteArray) (nx.ex (c.cT d (c.or nx d s).2).inc).2).2).1] _)+_≤1+3*((nx.ex (c.take (⟨#[58]⟩:ByteArray) (nx.ex (c.cT d (c.or nx d s).2).inc).2).2).2.next:Int)
    rw[Px.size,Px.hU,oF];omega
   ·rcases List.mem_cons.1 hk with rfl | hk
    ·exact h2
    ·rcases List.mem_cons.1 hk with rfl | hk
     ·exact h5
     ·rw[List.mem_singleton] at hk;subst hk;exact h8
 ·exact⟨h1,h2⟩
end
theorem qv{c:PC}{B:Int}(hB:sH c B):∀(k:Nat) (d:Int),Sz c B (c.lvl k d).ex∧Sz c B (c.lvl k d).un
 | 0,d=>by
   have hz:Sz c B (fun s=>(dZ,s)):=fun s=>⟨Int.le_refl _,je hB⟩
   exact⟨wv hB hz hz (fun s=>.refl) (fun s=>.refl) d,qu hB hz hz d⟩
 | k+1,d=>⟨wv hB (qv hB k (d+1)).1 (qv hB k (d+1)).2 (Up.lvl k (d+1)).1 (Up.lvl k (d+1)).2 d,qu hB (qv hB k (d+1)).1 (qv hB k (d+1)).2 d⟩
theorem AU{c:PC}{B:Int}(hB:sH c B):Sz c B c.dC:=(qv hB 24 0).1
theorem uj{s:ByteArray}:∀(n:Nat) (f:Int),0≤f→f≤s.size→∀t∈(iu s n f).1,(0≤t.pos∧t.pos≤s.size)∧(t.text.size:Int)≤s.size
 | 0,f,h0,h1,t,ht=>by rw[iu] at ht;cases ht
 | n+1,f,h0,h1,t,ht=>by
   rw[iu] at ht
   split at ht
   ·cases ht
   ·rename_i u hu
    obtain⟨g1,g2,_⟩:=ga h0 h1 hu
    have hp:(0≤u.pos∧u.pos≤s.size)∧(u.text.size:Int)≤s.size:=⟨⟨by omega,by omega⟩,by omega⟩
    split at ht
    ·rw[List.mem_singleton] at ht;subst ht;exact hp
    ·rcases List.mem_cons.1 ht with rfl | ht
     ·exact hp
     ·exact uj n _ (by omega) g1 t ht
theorem yH(t:ByteArray):sH (dk t) t.size:=by
 refine⟨by omega,fun u hu=>?_⟩
 unfold dk at hu
 split at hu
 ·cases hu
 ·exact uj _ 0 (Int.le_refl 0) (by omega) u hu
theorem yI(t:ByteArray):(dk t).l.length≤4097:=by
 unfold dk
 split
 ·decide
 ·have:=rJ t ((t.size:Int)-0+1).toNat 0
  show (dY t 0).1.length≤4097
  unfold dY
  omega
end Go.Lx
namespace Go.Lx
open Go.Vc
def xM(B M:Int)(x:Px):Prop:=x.size≤M∧iV B x
def fi.In(B M:Int)(d:fi):Prop:=((0≤d.pos∧d.pos≤B)∧(d.name.size:Int)≤B)∧xM B M d.side∧xM B M d.qty∧xM B M d.price∧xM B M d.value
def dT.In(B M:Int)(r:dT):Prop:=(0≤r.pos∧r.pos≤B)∧xM B M r.when∧r.dos.length≤8∧∀d∈r.dos,d.In B M
def dF.In(B M:Int)(x:dF):Prop:=((0≤x.pos∧x.pos≤B)∧(x.name.size:Int)≤B)∧x.rules.length≤12∧∀r∈x.rules,r.In B M
def eY.In(B M:Int)(r:eY):Prop:=((0≤r.pos∧r.pos≤B)∧(r.name.size:Int)≤B)∧xM B M r.init
def dB.In(B:Int)(r:dB):Prop:=(0≤r.pos∧r.pos≤B)∧(r.name.size:Int)≤B
structure eK.In (B M:Int) (s:eK):Prop where
 rl:s.regs.length≤12
 rr:∀x∈s.regs,x.In B M
 sl:s.slots.length≤4
 ss:∀x∈s.slots,x.In B
 tl:s.states.length≤12
 tt:∀x∈s.states,x.In B M
 nn:(s.name.size:Int)≤B
section
variable {c:PC} {B M:Int} (hB:sH c B) (hM:2+3*(c.l.length:Int)≤M)
include hB hM
theorem AW:xM B M dZ:=⟨by show (1:Int)≤M;omega,je hB⟩
theorem AX{s:PS}(hs:s.next≤c.l.length):xM B M (c.dC s).1∧(c.dC s).2.next≤c.l.length:=by
 obtain⟨h1,h2⟩:=AU hB s
 have h3:=(Up.dC (c:=c) s).2 hs
 exact⟨⟨by omega,h2⟩,h3⟩
omit hB hM in
end
section
variable {B M:Int} {s:eK}
variable (h0:0≤B)
include h0
end
end Go.Lx
namespace Go.Lx
open Go.Vc
theorem BJ{s:ByteArray}{p:Tok→Prop}(h:∀f t,0≤f→f≤(s.size:Int)→eP s f=.ok t→p t):∀(n:Nat) (f:Int),0≤f→f≤s.size→(s.size-f).toNat=n→∀t∈(dY s f).1,p t:=by
 intro n
 induction n using Nat.strongRecOn with
 | _ n ih =>
   intro f h0 h1 hn t ht
   rw[dV h0 h1] at ht
   cases htk:eP s f with
   | bad e q=>rw[htk] at ht;cases ht
   | ok u =>
     rw[htk] at ht
     simp only at ht
     have hnx:=ga h0 h1 htk
     by_cases hk:u.kind=0
     ·rw[if_pos hk] at ht
      have ht:t∈[u]:=ht
      rw[List.mem_singleton] at ht
      subst ht;exact h f t h0 h1 htk
     ·rw[if_neg hk] at ht
      have:=hnx.2.2 hk
      rcases List.mem_cons.1 ht with ht | ht
      ·subst ht;exact h f t h0 h1 htk
      ·exact ih _ (by omega) _ (by omega) hnx.1 rfl t ht
theorem yJ{s:ByteArray}:∀(n:Nat) (f:Int),0≤f→f≤s.size→(s.size-f).toNat=n→∀e p,(dY s f).2=some (e,p)→e≠0∧f≤p∧p≤s.size∧eP s p=.bad e p:=by
 intro n
 induction n using Nat.strongRecOn with
 | _ n ih =>
   intro f h0 h1 hn e p ht
   rw[dV h0 h1] at ht
   have ho:=gj h1
   cases htk:eP s f with
   | bad e' q =>
     rw[htk] at ht
     have ht:some (e',q)=some (e,p):=ht
     cases ht
     rcases fC h0 h1 with ⟨u,hu,_⟩ | ⟨e2,hu,he2⟩
     ·rw[htk] at hu;cases hu
     ·rw[htk] at hu
      cases hu
      refine⟨by omega,ho.1,ho.2, ?_⟩
      rw[gn] at htk ⊢
      by_cases he:da s f=s.size
      ·rw[if_pos he] at htk;cases htk
      ·rw[if_neg he] at htk
       have hlt:da s f<s.size:=by omega
       obtain⟨st1,st2⟩:=su h1 hlt
       rw[kB hlt st1 st2,if_neg he,htk]
   | ok u =>
     rw[htk] at ht
     simp only at ht
     have hnx:=ga h0 h1 htk
     by_cases hk:u.kind=0
     ·rw[if_pos hk] at ht;cases ht
     ·rw[if_neg hk] at ht
      have:=hnx.2.2 hk
      obtain⟨g1,g2,g3,g4⟩:=ih _ (by omega) _ (by omega) hnx.1 rfl e p ht
      exact⟨g1,by omega,g3,g4⟩
theorem xw{s:ByteArray}:∀(n:Nat) (f:Int),0≤f→f≤s.size→(s.size-f).toNat=n→(dY s f).2=none→∃t r,(dY s f).1=r++[t]∧t.kind=0:=by
 intro n
 induction n using Nat.strongRecOn with
 | _ n ih =>
   intro f h0 h1 hn ht
   rw[dV h0 h1] at ht ⊢
   cases htk:eP s f with
   | bad e' q=>rw[htk] at ht;cases ht
   | ok u =>
     rw[htk] at ht
     simp only at ht ⊢
     have hnx:=ga h0 h1 htk
     by_cases hk:u.kind=0
     ·rw[if_pos hk];exact⟨u,[],rfl,hk⟩
     ·rw[if_neg hk] at ht ⊢
      have:=hnx.2.2 hk
      obtain⟨t,r,g1,g2⟩:=ih _ (by omega) _ (by omega) hnx.1 rfl ht
      exact⟨t,u::r,by show u::(dY s (u.pos+u.text.size)).1=_;rw[g1];rfl,g2⟩
theorem kL{t:ByteArray}(h:(t.size:Int)≤4096):dk t=⟨(dY t 0).1,((dY t 0).2.map Prod.fst).getD 0,((dY t 0).2.map Prod.snd).getD 0⟩:=if_neg (by omega)
theorem mV{t:ByteArray}(h:(t.size:Int)≤4096):eE t=⟨0,0,0,false⟩:=by unfold eE;rw[if_neg (by omega)]
theorem o6{x y:ByteArray}{k:Int}(h0:0≤k)(h:k<x.size):bt (x++y) k=bt x k:=by
 obtain⟨n,rfl⟩:∃n:Nat,k=n:=⟨k.toNat,by omega⟩
 have hx:n<x.size:=by omega
 have hxy:n<(x++y).size:=by rw[ByteArray.size_append];omega
 rw[oD hxy,oD hx]
 have:(x++y).data=x.data++y.data:=ByteArray.data_append
 simp only[this]
 rw[Array.getElem_append_left (by exact hx)]
theorem kM{x y:ByteArray}{k:Int}(h0:0≤k)(h:k<y.size):bt (x++y) (x.size+k)=bt y k:=by
 obtain⟨n,rfl⟩:∃n:Nat,k=n:=⟨k.toNat,by omega⟩
 have hy:n<y.size:=by omega
 have hxy:x.size+n<(x++y).size:=by rw[ByteArray.size_append];omega
 rw[show (x.size:Int)+(n:Int)=((x.size+n:Nat):Int) by omega,oD hxy,oD hy]
 have:(x++y).data=x.data++y.data:=ByteArray.data_append
 simp only[this]
 rw[Array.getElem_append_right (by show x.data.size≤x.size+n;exact Nat.le_add_right _ _)]
 have hh:x.size+n-x.data.size=n:=Nat.add_sub_cancel_left x.size n
 simp only[hh]
def BK:List ByteArray:=[⟨#[32]⟩,⟨#[10]⟩,⟨#[9]⟩,⟨#[32,32]⟩,⟨#[32,35,32,120,10]⟩,⟨#[13,10]⟩]
inductive qw:List Tok→List Int→ByteArray→Prop
 | nil:qw [] [] ⟨#[]⟩
 | cons {t:Tok} {l:List Tok} {ps:List Int} {g rest:ByteArray}:g∈BK→qw l ps rest→qw (t::l) (0::ps.map fun p:Int=>p+((t.text.size:Int)+g.size)) (t.text++(g++rest))
theorem xx(x y z:ByteArray):x++y++z=x++(y++z):=ByteArray.append_assoc
theorem qw.len{l:List Tok}{ps:List Int}{out:ByteArray}(h:qw l ps out):ps.length=l.length:=by
 induction h with
 | nil=>rfl
 | cons _ _ ih=>rw[List.length_cons,List.length_cons,List.length_map,ih]
def BL(t u:Tok):Prop:=t.kind=u.kind∧t.text=u.text∧t.dU=u.dU∧t.n=u.n
inductive yK:List Tok→List Tok→Prop
 | nil:yK [] []
 | cons {t u:Tok} {l m:List Tok}:BL t u→yK l m→yK (t::l) (u::m)
theorem yK.len{l m:List Tok}(h:yK l m):l.length=m.length:=by
 induction h with
 | nil=>rfl
 | cons _ _ ih=>simp[ih]
theorem vu(x y:ByteArray):eU y (x++y) x.size:=by
 refine⟨by omega,by rw[ByteArray.size_append];omega,fun k g0 g1=>?_⟩
 rw[show k+(x.size:Int)=x.size+k by omega]
 exact kM g0 g1
theorem rK{s:ByteArray}:∀(i:Nat) (f:Int) (t:Tok),0≤f→f≤s.size→(dY s f).1[i]? = some t→t.kind=0→(dY s f).2=none∧i+1=(dY s f).1.length
 | i,f,t,h0,h1,ht,hk=>by
   rw[dV h0 h1] at ht ⊢
   cases htk:eP s f with
   | bad e q=>rw[htk] at ht;simp at ht
   | ok u =>
     rw[htk] at ht
     simp only at ht ⊢
     have hnx:=ga h0 h1 htk
     by_cases hu:u.kind=0
     ·rw[if_pos hu] at ht ⊢
      cases i with
      | zero=>exact⟨rfl,rfl⟩
      | succ i=>simp at ht
     ·rw[if_neg hu] at ht ⊢
      have:=hnx.2.2 hu
      cases i with
      | zero =>
        have:u=t:=by simpa using ht
        subst this;exact absurd hk hu
      | succ i =>
        have ht:(dY s (u.pos+u.text.size)).1[i]? = some t:=by simpa using ht
        obtain⟨g1,g2⟩:=rK i _ t (by omega) hnx.1 ht hk
        exact⟨g1,by show i+1+1=(u::(dY s (u.pos+u.text.size)).1).length;rw[List.length_cons,g2]⟩
theorem rL(t:ByteArray):eC t=if ((dk t).end ((dk t).dC (eE t)).2).over then (dZ,((dk t).end ((dk t).dC (eE t)).2).f) else (((dk t).dC (eE t)).1,zF):=rfl
theorem xy{t:ByteArray}(hl:(t.size:Int)≤4096)(h:(eC t).2.e=0) :
  ∃l,dY t 0=(l,none)∧eC t=(((dk t).dC (eE t)).1,zF)∧((dk t).dC (eE t)).2.over=false∧((dk t).dC (eE t)).2.next+1=l.length∧∃u,l[((dk t).dC (eE t)).2.next]? = some u∧u.kind=0:=by
 have htd:Told (dk t) ((dk t).dC (eE t)).2:=by
  refine Told.via (dz.dC _) ?_
  rw[mV hl]
  have ho:PS.over ⟨0,0,0,false⟩=false:=rfl
  exact⟨fun h=>by (rw[ho] at h;cases h),fun h=>by (rw[ho] at h;cases h),.inl rfl⟩
 rw[rL] at h ⊢
 generalize (dk t).dC (eE t)=r at *
 have hll:(dk t).l=(dY t 0).1:=by rw[kL hl]
 cases ho:((dk t).end r.2).over with
 | true =>
   rw[ho,if_pos rfl] at h
   have h:((dk t).end r.2).f.e=0:=h
   unfold PS.over at ho
   rw[h] at ho;cases ho
 | false =>
   rw[if_neg (by decide)]
   have ho1:r.2.over=false:=by
    cases h1:r.2.over with
    | false=>rfl
    | true=>unfold PC.end at ho;rw[if_pos h1,h1] at ho;cases ho
   unfold PC.end at ho
   rw[if_neg (by rw[ho1];decide)] at ho
   by_cases hn:r.2.next<(dk t).l.length
   ·have hk:((dk t).tok r.2.next).kind=0:=by
     by_cases hk:((dk t).tok r.2.next).kind=0
     ·exact hk
     ·rw[if_pos (.inr hk),gg (by decide) hn] at ho;cases ho
    have hu:(dk t).l[r.2.next]? = some ((dk t).tok r.2.next):=by
     unfold PC.tok;rw[List.getElem?_eq_getElem hn];rfl
    obtain⟨g1,g2⟩:=rK r.2.next 0 _ (Int.le_refl 0) (by omega) (by rw[←hll];exact hu) hk
    exact⟨(dY t 0).1,Prod.ext rfl g1,rfl,ho1,g2,_,by rw[←hll];exact hu,hk⟩
   ·exfalso
    rw[if_pos (.inl (by omega))] at ho
    unfold PC.cV at ho
    rw[if_neg (by rw[ho1];decide),if_pos (by omega)] at ho
    have hb:(dk t).bad=0:=by simpa[PS.over] using ho
    have hnone:(dY t 0).2=none:=by
     cases hq:(dY t 0).2 with
     | none=>rfl
     | some ep =>
       obtain⟨e,p⟩:=ep
       have:=(yJ _ 0 (Int.le_refl 0) (by omega) rfl e p hq).1
       rw[kL hl,hq] at hb
       exact absurd hb this
    obtain⟨u,q,hq,hu⟩:=xw _ 0 (Int.le_refl 0) (by omega) rfl hnone
    have hlq:(dk t).l=q++[u]:=by rw[hll];exact hq
    have hlen:(dk t).l.length=q.length+1:=by rw[hlq,List.length_append,List.length_singleton]
    rcases htd.last with h1 | ⟨h1,h2⟩
    ·omega
    ·refine h2 ?_
     unfold PC.tok
     rw[hlq,show r.2.next-1=q.length by omega,List.getElem?_append_right (Nat.le_refl _),Nat.sub_self]
     exact hu
def qL(s:ByteArray):ByteArray:=(⟨#[40]⟩:ByteArray)++s++⟨#[10,41]⟩
theorem qx(s:ByteArray):((qL s).size:Int)=s.size+3:=by
 unfold qL
 rw[ByteArray.size_append,ByteArray.size_append]
 have h1:(⟨#[40]⟩:ByteArray).size=1:=rfl
 have h2:(⟨#[10,41]⟩:ByteArray).size=2:=rfl
 omega
theorem xz:dY (⟨#[41]⟩:ByteArray) 0=([⟨4,⟨#[41]⟩,0,0,0⟩,gC 1],none):=by kernel_rfl
theorem yL{s:ByteArray}{l:List Tok}(h:dY s 0=(l,none)) :
  dY (qL s) 0=(⟨4,⟨#[40]⟩,0,0,0⟩::((l.dropLast++[(⟨4,⟨#[41]⟩,0,0,s.size+1⟩:Tok),(⟨0,⟨#[]⟩,0,0,s.size+2⟩:Tok)]).map (Tok.shift 1)),none):=by
 have h40:(⟨#[40]⟩:ByteArray).size=1:=rfl
 have h41:(⟨#[41]⟩:ByteArray).size=1:=rfl
 have h2:(⟨#[10,41]⟩:ByteArray).size=2:=rfl
 have hz:qL s=(⟨#[40]⟩:ByteArray)++(s++⟨#[10,41]⟩):=xx _ _ _
 have hys:((s++⟨#[10,41]⟩).size:Int)=s.size+2:=by rw[ByteArray.size_append];omega
 have b0:bt (s++⟨#[10,41]⟩) s.size=10:=by
  have:=kM (x:=s) (y:=⟨#[10,41]⟩) (k:=0) (Int.le_refl 0) (by omega)
  rw[Int.add_zero] at this
  rw[this];rfl
 have b1:bt (s++⟨#[10,41]⟩) (s.size+1)=41:=by
  rw[kM (x:=s) (y:=⟨#[10,41]⟩) (k:=1) (by decide) (by omega)];rfl
 have hah:ij s (s++⟨#[10,41]⟩):=⟨by omega,fun k g0 g1=>o6 g0 g1,b0⟩
 have hbe:eU (⟨#[41]⟩:ByteArray) (s++⟨#[10,41]⟩) (s.size+1):=⟨by omega,by omega,fun k g0 g1=>by
  obtain rfl:k=0:=by omega
  rw[Int.zero_add,b1];rfl⟩
 have t1:=hbe.dY _ 0 (Int.le_refl 0) (by omega) rfl
 rw[Int.zero_add,xz] at t1
 have t2:=hah.dY _ 0 (Int.le_refl 0) (by omega) rfl
 rw[h] at t2
 simp only[t1] at t2
 have hb2:eU (s++⟨#[10,41]⟩) (qL s) 1:=by
  rw[hz]
  have:=vu (⟨#[40]⟩:ByteArray) (s++⟨#[10,41]⟩)
  rwa [h40] at this
 have t3:=hb2.dY _ 0 (Int.le_refl 0) (by omega) rfl
 rw[Int.zero_add,t2] at t3
 have hsz:=qx s
 have b40:bt (qL s) 0=40:=by
  rw[hz,o6 (Int.le_refl 0) (by omega)];rfl
 have hov:da (qL s) 0=0:=kB (by omega) (by rw[b40];decide) (by rw[b40];decide)
 have hmk:fL (qL s) 0=1:=by
  unfold fL
  rw[if_pos (by rw[b40];decide)]
 have hcut:cut (qL s) 0 (0+1)=⟨#[40]⟩:=by
  have hc:=hZ (s:=qL s) (i:=0) (j:=0+1) (Int.le_refl 0) (by omega) (by omega)
  refine yr (by omega) fun k hk=>?_
  obtain rfl:k=0:=by omega
  rw[oC (Int.le_refl 0) (by omega) (by omega) (by omega)]
  exact b40
 have htok:eP (qL s) 0=.ok ⟨4,⟨#[40]⟩,0,0,0⟩:=by
  rw[gn,hov,if_neg (by omega)]
  unfold o5
  rw[b40,if_neg (by decide),if_neg (by decide)]
  unfold kU
  rw[hmk,if_neg (by decide),hcut]
 rw[dV (Int.le_refl 0) (by omega),htok]
 simp only[show ¬((4:Int)=0) by decide,if_false]
 rw[show (0:Int)+((⟨#[40]⟩:ByteArray).size:Int)=1 by rw[h40];rfl,t3]
 simp[Tok.shift,gC,Int.add_assoc,Int.add_comm,Int.add_left_comm]
def Still(c:PC)(s:PS):Prop:=∀w,c.dH w s=false
theorem Still.any{c:PC}{s:PS}(h:Still c s)(ws:List ByteArray):c.any ws s = -1:=by
 have:∀(ws:List ByteArray) (i:Int),c.fe s ws i = -1:=by
  intro ws
  induction ws with
  | nil=>intro i;rw[PC.fe]
  | cons w r ih=>intro i;rw[PC.fe,h,if_neg (by simp),ih]
 exact this ws 0
theorem Still.loop{c:PC}{ws:List ByteArray}{o:Int}{sub:PS→Px×PS}{s:PS}(h:Still c (sub s).2):c.loop ws o sub s=sub s:=by
 unfold PC.loop
 cases c.l.length with
 | zero=>rw[PC.dA]
 | succ m=>rw[PC.dA,h.any,if_pos (by decide)]
theorem Still.up{c:PC}{nx:Lv}{d:Int}{s:PS}{r:Px×PS}(hu:c.unary nx d s=r)(h:Still c r.2):c.expr nx d s=r:=by
 have h1:c.product nx d s=r:=by unfold PC.product;rw[Still.loop (by rw[hu];exact h),hu]
 have h2:c.sum nx d s=r:=by unfold PC.sum;rw[Still.loop (by rw[h1];exact h),h1]
 have h3:c.compare nx d s=r:=by
  unfold PC.compare
  show (if c.any gY (c.sum nx d s).2<0 then c.sum nx d s else _)=r
  rw[h2,h.any,if_pos (by decide)]
 have h4:c.and nx d s=r:=by unfold PC.and;rw[Still.loop (by rw[h3];exact h),h3]
 have h5:c.or nx d s=r:=by unfold PC.or;rw[Still.loop (by rw[h4];exact h),h4]
 unfold PC.expr
 show (if c.dH (⟨#[63]⟩:ByteArray) (c.or nx d s).2 then _ else c.or nx d s)=r
 rw[h5,h,if_neg (by decide)]
theorem uk{c:PC}{nx:Lv}{d:Int}{s:PS}(hn:c.now s=⟨4,⟨#[40]⟩,0,0,(c.now s).pos⟩)(hd:d+1≤24)(hs:s.over=false):c.unary nx d s=((nx.ex s.inc).1,(c.take (⟨#[41]⟩:ByteArray) (nx.ex s.inc).2).2):=by
 have hk:(c.now s).kind=4:=by rw[hn]
 have ht:(c.now s).text=⟨#[40]⟩:=by rw[hn]
 have hw:∀w:ByteArray,c.dH w s=((⟨#[40]⟩:ByteArray).toList==w.toList):=fun w=>by
  unfold PC.dH;rw[hk,ht];simp
 have hany:∀ws:List ByteArray,ws.all (fun w=>!((⟨#[40]⟩:ByteArray).toList==w.toList))=true→c.any ws s<0:=by
  intro ws h
  have:∀(ws:List ByteArray) (i:Int),ws.all (fun w=>!((⟨#[40]⟩:ByteArray).toList==w.toList))=true→c.fe s ws i = -1:=by
   intro ws
   induction ws with
   | nil=>intro i _;rw[PC.fe]
   | cons w r ih =>
     intro i h
     rw[List.all_cons,Bool.and_eq_true] at h
     rw[PC.fe,hw,if_neg (by simpa using h.1),ih _ h.2]
  unfold PC.any;rw[this ws 0 h];decide
 have hlit:(c.literal s).1.2=false:=by
  unfold PC.literal
  rw[hk,if_neg (by decide),if_neg (by simp),if_neg (by simp)]
 have hdp:c.cT d s=s:=by unfold PC.cT;rw[if_neg (by omega)]
 unfold PC.unary
 rw[if_pos (hany jw (by kernel_rfl))]
 unfold PC.one
 rw[hlit,if_neg (by decide),if_neg (by rw[hk];decide),if_neg (Int.not_le.2 (hany ia (by kernel_rfl))),if_neg (Int.not_le.2 (hany fM (by kernel_rfl))),if_neg (Int.not_le.2 (hany iL (by kernel_rfl)))]
 unfold PC.rest
 rw[hw (⟨#[104,97,115]⟩:ByteArray),show ((⟨#[40]⟩:ByteArray).toList==((⟨#[104,97,115]⟩:ByteArray)).toList)=false by kernel_rfl,if_neg (by decide),hw (⟨#[40]⟩:ByteArray),beq_self_eq_true,if_pos rfl,hdp,if_neg (by rw[hs];decide)]
theorem mq{s:ByteArray}(hs:(s.size:Int)≤4000)(h:(eC s).2.e=0):(eC (qL s)).2.e=132∨(eC (qL s)).2.e=0∧(eC (qL s)).1.bare=(eC s).1.bare:=by
 obtain⟨l,hl,hE,ho,hn,u,hu,huk⟩:=xy (by omega) h
 have hz:=qx s
 have hc:dk s=⟨l,0,0⟩:=by rw[kL (by omega),hl];rfl
 have ht:=yL hl
 generalize hM:(⟨4,⟨#[40]⟩,0,0,0⟩::((l.dropLast++[(⟨4,⟨#[41]⟩,0,0,s.size+1⟩:Tok),(⟨0,⟨#[]⟩,0,0,s.size+2⟩:Tok)]).map (Tok.shift 1)):List Tok)=M at ht
 have hc':dk (qL s)=⟨M,0,0⟩:=by rw[kL (by omega),ht];rfl
 have hb:eE s=⟨0,0,0,false⟩:=mV (by omega)
 have hb':eE (qL s)=⟨0,0,0,false⟩:=mV (by omega)
 rw[hc,hb] at ho hn hu hE
 have hlen:M.length=l.length+2:=by
  rw[←hM];simp only[List.length_cons,List.length_map,List.length_append,List.length_dropLast,List.length_nil];omega
 have hM0:M[0]? = some ⟨4,⟨#[40]⟩,0,0,0⟩:=by rw[←hM];rfl
 have hMi:∀i,i+1<l.length→M[i+1]? = (l[i]?).map (Tok.shift 1):=fun i hi=>by
  rw[←hM,List.getElem?_cons_succ,List.getElem?_map,List.getElem?_append_left (by rw[List.length_dropLast];omega),List.getElem?_dropLast,if_pos (by omega)]
 have hMk:M[l.length]? = some ⟨4,⟨#[41]⟩,0,0,s.size+1+1⟩∧M[l.length+1]? = some ⟨0,⟨#[]⟩,0,0,s.size+2+1⟩:=by
  obtain⟨k,hk⟩:∃k,l.length=k+1:=⟨l.length-1,by omega⟩
  rw[←hM,hk,List.getElem?_cons_succ,List.getElem?_cons_succ,List.getElem?_map,List.getElem?_map,List.getElem?_append_right (by rw[List.length_dropLast];omega),List.getElem?_append_right (by rw[List.length_dropLast];omega),List.length_dropLast,hk,show k-(k+1-1)=0 by omega,show k+1-(k+1-1)=1 by omega]
  exact⟨rfl,rfl⟩
 let m:c7:=⟨⟨l,0,0⟩,⟨M,0,0⟩,1,1,l.length-1,true,fun _ _=>True⟩
 have hok:m.Ok:=by
  refine⟨by show (0:Int)≤1;decide,fun i hi=>?_,fun i hi hil=>⟨?_,trivial⟩,fun _=>⟨by show l.length-1<l.length;omega,rfl⟩,.inl (by show l.length-1<l.length;omega)⟩
  ·have hi:i≤l.length-1:=hi
   show i<l.length↔i+1<M.length;omega
  ·have hi:i≤l.length-1:=hi
   have hil:i<l.length:=hil
   have h1:l[i]? = some l[i]:=List.getElem?_eq_getElem hil
   have e1:m.c.tok i=l[i]:=by show (l[i]?).getD _=_;rw[h1];rfl
   have e2:m.c'.tok (i+m.o)=(M[i+1]?).getD (gC 0):=rfl
   rw[e1,e2]
   by_cases hik:i+1<l.length
   ·rw[hMi i hik,h1];exact .inl ⟨rfl,rfl,rfl,rfl⟩
   ·rw[show i+1=l.length by omega,hMk.1]
    have hiu:l[i]=u:=by
     have:l[i]? = some u:=by rw[show i=(PC.dC ⟨l,0,0⟩ ⟨0,0,0,false⟩).2.next by omega];exact hu
     rw[h1] at this;exact Option.some.inj this
    rw[hiu]
    exact .inr ⟨rfl,huk,rfl,rfl⟩
 have hsim:=(c7.lvl hok 24 23 0 (by decide) (by show ((23:Nat):Int)+(0+1)=24;decide)).1 ⟨0,0,0,false⟩ (PS.inc ⟨0,0,0,false⟩) ⟨rfl,rfl,rfl,fun h=>absurd rfl h⟩ ⟨by show (PC.dC ⟨l,0,0⟩ ⟨0,0,0,false⟩).2.next≤l.length-1;omega,fun _=>ho⟩
 have hnow:PC.now ⟨M,0,0⟩ ⟨0,0,0,false⟩=⟨4,⟨#[40]⟩,0,0,(PC.now ⟨M,0,0⟩ ⟨0,0,0,false⟩).pos⟩:=by
  have:PC.now ⟨M,0,0⟩ ⟨0,0,0,false⟩=⟨4,⟨#[40]⟩,0,0,0⟩:=by
   unfold PC.now
   rw[if_neg (by show ¬((PS.over ⟨0,0,0,false⟩||decide (M.length≤0))=true);rw[decide_eq_false (by omega)];decide)]
   unfold PC.tok
   show (M[0]?).getD _=_
   rw[hM0];rfl
  rw[this]
 have hun:=uk (c:=⟨M,0,0⟩) (nx:=PC.lvl ⟨M,0,0⟩ 23 1) (d:=0) hnow (by decide) rfl
 have hsim:m.Out c7.xr (PC.dC ⟨l,0,0⟩ ⟨0,0,0,false⟩) ((PC.lvl ⟨M,0,0⟩ 23 1).ex (PS.inc ⟨0,0,0,false⟩)):=hsim
 generalize (PC.lvl ⟨M,0,0⟩ 23 1).ex (PS.inc ⟨0,0,0,false⟩)=r' at hsim hun
 generalize PC.dC ⟨l,0,0⟩ ⟨0,0,0,false⟩=r at *
 have hex:∀st,(PC.take ⟨M,0,0⟩ (⟨#[41]⟩:ByteArray) r'.2).2=st→Still ⟨M,0,0⟩ st→PC.dC ⟨M,0,0⟩ ⟨0,0,0,false⟩=(r'.1,st):=fun st hst hq=>by
  show PC.expr ⟨M,0,0⟩ (PC.lvl ⟨M,0,0⟩ 23 1) 0 ⟨0,0,0,false⟩=_
  refine Still.up (by rw[hun,hst]) hq
 rw[rL (qL s),hc',hb',hE]
 rcases hsim with ⟨⟨g1,g2,_⟩,g4⟩ | ⟨_,f,hf,hdead⟩
 ·have g1:r'.2.next=r.2.next+1:=g1
  have ho':r'.2.over=false:=by unfold PS.over at ho ⊢;rw[g2];exact ho
  have hnx:r'.2.next=l.length:=by omega
  have hnow1:PC.now ⟨M,0,0⟩ r'.2=⟨4,⟨#[41]⟩,0,0,s.size+1+1⟩:=by
   unfold PC.now
   rw[if_neg (by show ¬((r'.2.over||decide (M.length≤r'.2.next))=true);rw[ho',decide_eq_false (by omega)];decide)]
   unfold PC.tok
   show (M[r'.2.next]?).getD _=_
   rw[hnx,hMk.1];rfl
  have htk:(PC.take ⟨M,0,0⟩ (⟨#[41]⟩:ByteArray) r'.2).2=r'.2.inc:=by
   unfold PC.take
   rw[if_pos]
   unfold PC.dH;rw[hnow1];simp
  have htok2:PC.tok ⟨M,0,0⟩ r'.2.inc.next=⟨0,⟨#[]⟩,0,0,s.size+2+1⟩:=by
   unfold PC.tok
   show (M[r'.2.next+1]?).getD _=_
   rw[hnx,hMk.2];rfl
  have hoi:r'.2.inc.over=false:=ho'
  have hstill:Still ⟨M,0,0⟩ r'.2.inc:=fun w=>by
   unfold PC.dH PC.now
   rw[if_neg (by show ¬((r'.2.inc.over||decide (M.length≤r'.2.next+1))=true);rw[hoi,decide_eq_false (by omega)];decide),htok2]
   simp
  rw[hex _ htk hstill]
  have hend:PC.end ⟨M,0,0⟩ r'.2.inc=r'.2.inc:=by
   unfold PC.end
   rw[if_neg (by rw[hoi];decide),if_neg]
   rintro (h1 | h1)
   ·have h1:M.length≤r'.2.next+1:=h1
    omega
   ·rw[htok2] at h1;exact h1 rfl
  right
  show (if (PC.end ⟨M,0,0⟩ r'.2.inc).over=true then (dZ,(PC.end ⟨M,0,0⟩ r'.2.inc).f) else (r'.1,zF)).2.e=0∧Px.bare (if (PC.end ⟨M,0,0⟩ r'.2.inc).over=true then (dZ,(PC.end ⟨M,0,0⟩ r'.2.inc).f) else (r'.1,zF)).1=r.1.bare
  rw[hend,hoi,if_neg (by decide)]
  exact⟨rfl,g4⟩
 ·left
  have hd2:PC.dq ⟨M,0,0⟩ f (PC.take ⟨M,0,0⟩ (⟨#[41]⟩:ByteArray) r'.2).2:=hdead.take _
  rw[hex _ rfl fun w=>hd2.dH w]
  have hd3:=hd2.end
  show (if (PC.end ⟨M,0,0⟩ (PC.take ⟨M,0,0⟩ (⟨#[41]⟩:ByteArray) r'.2).2).over=true then (dZ,(PC.end ⟨M,0,0⟩ (PC.take ⟨M,0,0⟩ (⟨#[41]⟩:ByteArray) r'.2).2).f) else (r'.1,zF)).2.e=132
  have hov:(PC.end ⟨M,0,0⟩ (PC.take ⟨M,0,0⟩ (⟨#[41]⟩:ByteArray) r'.2).2).over=true:=by
   cases hov:(PC.end ⟨M,0,0⟩ (PC.take ⟨M,0,0⟩ (⟨#[41]⟩:ByteArray) r'.2).2).over with
   | true=>rfl
   | false=>exact absurd rfl (hd3.2 hov)
  have h1:=hd3.1
  unfold PC.fin at h1
  rw[if_pos hov] at h1
  rw[if_pos hov,Option.some.inj h1]
  exact hf
theorem iV.short{B:Int}(hB:B≤140737488351232):∀x:Px,iV B x→x.size≤1048576→x.fs:=by
 refine Px.ind fun x ih h hs=>?_
 have hn:=h.nm
 have hsz:x.size=1+Px.hU x.kids:=Px.size_eq x
 have hk:∀l:List Px,(l.length:Int)≤Px.hU l∧∀k∈l,k.size≤Px.hU l:=by
  intro l
  induction l with
  | nil=>exact⟨Int.le_refl _,fun k hk=>by cases hk⟩
  | cons y r ih2 =>
    have hp:=Px.size_pos y
    rw[Px.hU,List.length_cons]
    refine⟨by have:=ih2.1;omega,fun k hk=>?_⟩
    rcases List.mem_cons.1 hk with rfl | hk
    ·have:=ih2.1;omega
    ·have:=ih2.2 k hk;omega
 have hl:=(hk x.kids).1
 refine .mk (by omega) (by omega) fun k hm=>ih k hm (h.zX k hm) ?_
 have:=(hk x.kids).2 k hm
 omega
theorem xM.short{B M:Int}(hB:B≤140737488351232)(hM:M≤1048576){x:Px}(h:xM B M x):x.fs:=h.2.short hB x (Int.le_trans h.1 hM)
theorem j9{α:Type}{f:α→Int}{M:Int}:∀{l:List α},(∀x∈l,f x≤M)→nQ f l≤M*l.length
 | [],_=>by rw[nQ];simp
 | x::r,h=>by
   have h1:=j9 fun y hy=>h y (List.Mem.tail _ hy)
   have h2:=h x (.head _)
   rw[nQ,List.length_cons,Int.natCast_add,Int.mul_add]
   omega
theorem nT{n m:Nat}{M:Int}(h:n≤m)(h0:0≤M):M*(n:Int)≤M*(m:Int):=Int.mul_le_mul_of_nonneg_left (by omega) h0
theorem eK.In.iN{B:Int}{s:eK}(h:s.In B 20000):s.iN≤100000000:=by
 have h1:=nT (M:=20001) h.rl (by decide)
 have h2:=h.sl
 have h3:=nT (M:=7920181) h.tl (by decide)
 have g1:nQ eY.iN s.regs≤20001*s.regs.length:=j9 fun r hr=>by
  have:=(h.rr r hr).2.1
  show 1+r.init.size≤_
  omega
 have g3:nQ dF.iN s.states≤7920181*s.states.length:=j9 fun x hx=>by
  obtain⟨_,g2,g3⟩:=h.tt x hx
  have k:=nT (M:=660015) g2 (by decide)
  have:nQ dT.iN x.rules≤660015*x.rules.length:=j9 fun r hr=>by
   obtain⟨_,k1,k2,k3⟩:=g3 r hr
   have j:=nT (M:=80001) k2 (by decide)
   have:nQ fi.iN r.dos≤80001*r.dos.length:=j9 fun d hd=>by
    obtain⟨_,d1,d2,d3,d4⟩:=k3 d hd
    have e1:=d1.1
    have e2:=d2.1
    have e3:=d3.1
    have e4:=d4.1
    show 1+d.side.size+d.qty.size+d.price.size+d.value.size≤_
    omega
   have e1:=k1.1
   show 1+r.when.size+nQ fi.iN r.dos≤_
   omega
  show 1+nQ dT.iN x.rules≤_
  omega
 unfold eK.iN
 omega
theorem xA(t:ByteArray):xM t.size 20000 (eC t).1:=by
 unfold eC
 have hB:=yH t
 have hl:=yI t
 have hz:=AW hB (M:=20000) (by omega)
 show xM t.size 20000 (if ((dk t).end ((dk t).dC (eE t)).2).over then _ else _:Px×PF).1
 split
 ·exact hz
 ·exact (AX hB (by omega) (Nat.zero_le _)).1
theorem sI{t:ByteArray}(h:dn t):(eC t).1.fs:=(xA t).short (by unfold dn at h;omega) (by decide)
end Go.Lx
namespace Go.Vc
open Go.ChangeShapes Go.WideShapes Go.ChangeAt Go.RowKit
def cS.all(w:World):cS:=⟨fun b=>w.heap[b]?,w.os,w.output⟩
theorem Sat.all(w:World):Sat (cS.all w) [] w:=⟨fun _ _ h=>h,fun _ _ h=>by simp at h,fun _ _ h=>by simp at h,List.nodup_nil,rfl,rfl⟩
structure jL (w w':World):Prop where
 heap:∀i,i<w.heap.size→w'.heap[i]? = w.heap[i]?
 os:w'.os=w.os
 out:w'.output=w.output
theorem jL.of{w w':World}{I:cS}{F:cR}(hl:cS.le (cS.all w) I)(hs:Sat I F w'):jL w w':=by
 refine⟨fun i hi=>?_,hs.env.1.trans hl.2.1,hs.env.2.trans hl.2.2⟩
 obtain⟨o,ho⟩:∃o,w.heap[i]? = some o:=⟨_,Array.getElem?_eq_getElem hi⟩
 rw[ho]
 exact hs.imm _ _ (hl.1 i o ho)
theorem jL.kept{w w':World}(h:jL w w')(may:MemPlace→Prop):w.keptBut w' may:=by
 refine⟨h.os,h.out,fun i hi=>?_⟩
 rw[h.heap i hi]
 cases w.heap[i]? with
 | none=>rfl
 | some o=>cases o with
   | cells c t fr=>exact⟨rfl,rfl,rfl,fun _ _=>rfl⟩
   | map es clock=>exact .inr ⟨rfl,rfl⟩
   | _=>rfl
theorem jL.frozen{w w':World}(h:jL w w'){a:Addr}(ha:a.block<w.heap.size):w'.frozen? a=w.frozen? a:=by
 unfold World.frozen?;rw[h.heap _ ha]
theorem vv{H:Type}{enc:TypeId×Value→H}{P:Program}{f:Func}{s:ChangeSpec}{apart fresh handsOn again:Bool}{W W':World}{args:Array Value}{v:Value}{ds gs:List (DataW H)}{before pa pv:List MemPlace}
  (hW:DataW.Whole enc P f.params.toList s.vars apart W args.toList ds gs before)
  (hres:∀(b:Nat) (sp:Nat→Bool) (hd:Bool),DataW.TrodAll enc P W' b sp hd f.resultTypes.toList (v.resultList f.resultTypes.size) (s.fn H (ds++gs)).results [])
  (hargs:∀sp:Nat→Bool,(∀p∈before,sp p.block=true)→DataW.TrodAll enc P W' 0 sp true f.params.toList args.toList (s.fn H (ds++gs)).args pa)
  (hvars:∀sp:Nat→Bool,(∀p∈before,sp p.block=true)→DataW.TrodVars enc P W' sp s.vars (s.fn H (ds++gs)).vars pv)
  (hps:before=pa++pv) (hk:jL W W')
  (hok:∀(j:Nat) (t:TypeId) (r:Value),f.resultTypes[j]? = some t→(v.resultList f.resultTypes.size)[j]? = some r→Value.okWide P W' .any 0 t r) :
  s.post enc P f apart fresh handsOn again W args v W':=by
 have hold:∀p∈before,(fun b=>decide (b<W.heap.size)) p.block=true:=fun p hp=>by simpa using hW.lt p hp
 have hlt:∀p∈before,p.block<W.heap.size:=fun p hp=>hW.lt p hp
 refine⟨ds,gs,before,[],pa,pv,hW,hres _ _ _,hargs _ hold,hvars _ hold,World.keptBut_mono (fun p hp=>⟨hp, ?_⟩) (hk.kept (·∈before)),fun _=>?_⟩
 ·rw[hps,List.mem_append] at hp
  exact Or.inr hp
 ·obtain⟨_,_,_,_,_,hz,hn⟩:=hW
  refine⟨hok,_,_,([]++pa)++pv,⟨[]++pa,pv,trodAll_append (hargs _ (fun _ _=>rfl)) (hres _ _ _),hvars _ (fun _ _=>rfl),rfl, ?_, ?_⟩, ?_⟩
  ·intro b off hp
   have hp':MemPlace.cell b off∈before:=by rw[hps];simpa using hp
   rw[hk.frozen (hlt _ hp')]
   exact hz b off hp'
  ·intro ha
   have:=hn ha
   rw[hps] at this
   simpa using this
  ·intro p hp _
   rw[hps]
   simpa using hp
end Go.Vc
namespace Go.Lx
open Go.Vc
end Go.Lx
namespace Go.Vc
section
variable {P:Program} {f:FuncId} {args:Array Value} {I:cS} {F:cR} {R:Value→cS→Prop}
end
def mW(P:Program)(t:TypeId):Bool:=match P.underlying t with
 | some (.interface _)=>true
 | _=>false
theorem lR{P:Program}{t:TypeId}(h:mW P t=true):∃ms,P.underlying t=some (.interface ms):=by
 unfold mW at h
 split at h
 ·rename_i ht;exact⟨_,ht⟩
 ·cases h
theorem zz{P:Program}{t:TypeId}(h:mW P t=true){x:Operand}:eH P .neq t x (.const .nilIface) .nilIface .nilIface false:=by
 obtain⟨ms,ht⟩:=lR h
 intro w
 have he:(Op.equal t .nilIface .nilIface).run P w=.ok true w:=by
  show (Op.equalIn (9999+1) t .nilIface .nilIface).run P w=_
  unfold Op.equalIn
  simp[Sem.run_bind,dw ht]
 simp[eqGuard,binOp,Sem.run_bind,he]
theorem um{P:Program}{t:TypeId}(h:mW P t=true){x:Operand}{d:TypeId}{v:Value}:eH P .neq t x (.const .nilIface) (.iface d v) .nilIface true:=by
 obtain⟨ms,ht⟩:=lR h
 intro w
 have he:(Op.equal t (.iface d v) .nilIface).run P w=.ok false w:=by
  show (Op.equalIn (9999+1) t (.iface d v) .nilIface).run P w=_
  unfold Op.equalIn
  simp[Sem.run_bind,dw ht]
 simp[eqGuard,binOp,Sem.run_bind,he]
theorem qy{P:Program}{t:TypeId}(h:mW P t=true){x:Operand}:eH P .eql t x (.const .nilIface) .nilIface .nilIface true:=by
 obtain⟨ms,ht⟩:=lR h
 intro w
 have he:(Op.equal t .nilIface .nilIface).run P w=.ok true w:=by
  show (Op.equalIn (9999+1) t .nilIface .nilIface).run P w=_
  unfold Op.equalIn
  simp[Sem.run_bind,dw ht]
 simp[eqGuard,binOp,Sem.run_bind,he]
theorem xB{P:Program}{t:TypeId}(h:mW P t=true){x:Operand}{d:TypeId}{v:Value}:eH P .eql t x (.const .nilIface) (.iface d v) .nilIface false:=by
 obtain⟨ms,ht⟩:=lR h
 intro w
 have he:(Op.equal t (.iface d v) .nilIface).run P w=.ok false w:=by
  show (Op.equalIn (9999+1) t (.iface d v) .nilIface).run P w=_
  unfold Op.equalIn
  simp[Sem.run_bind,dw ht]
 simp[eqGuard,binOp,Sem.run_bind,he]
end Go.Vc
namespace Go.Lx
open Go.Vc
abbrev qz(e:Int):Value:=.iface 34 (.int .i64 e)
def xC(I:cS)(call:ByteArray)(pos:Int)(err v:Value):Prop:=∃b,v=.iface 39 (.pointer (some ⟨b,0,none⟩))∧I b=some (.cells #[.string call,.int .i64 pos,err] 41 (0,0))
theorem xC.mono{I J:cS}{call:ByteArray}{pos:Int}{err v:Value}(h:xC I call pos err v)(hl:cS.le I J):xC J call pos err v:=let ⟨b,h1,h2⟩:=h;⟨b,h1,hl.at h2⟩
theorem BM(b n:Nat):(⟨b,0,none⟩:Addr).add n=⟨b,n,none⟩:=by unfold Addr.add;split<;>simp_all
end Go.Lx
namespace Go.As
open Go.RowKit Go.Extern.Stop Go.Stop Go.Extern
theorem Cj(z:Sem Value)(f:TypeId→Addr→Nat→Nat→Sem Value)(v:Value) :
  ReflectliteValue.method z f #[v]=(do match ←ReflectliteValue.parts v with | none=>z | some (t,a,fl)=>f t a fl (fl % 32)):=rfl
theorem C4(v x:Value):ReflectliteValue.set #[v,x]=(do
  let (some (dst,a,fl),some (src,b,_)):=(←ReflectliteValue.parts v,←ReflectliteValue.parts x)
   | unsupported (.noEntry "extern/(internal/reflectlite.Value).Set.zeroValue")
  if fl / ReflectliteValue.flagAddr % 2==0 then unsupported (.noEntry "extern/(internal/reflectlite.Value).Set.unaddressable")
  let val ←loadVar src b
  if ←Rtype.directlyAssignable dst src then storeVar dst a val
  else if ←Rtype.implements dst src then
   if (←Rtype.kind src)==20 then
    match val with
    | .nilIface=>unsupported (.noEntry "extern/reflectlite: a nil value of one interface type handed on as a value of another")
    | _=>storeVar dst a val
   else storeVar dst a (.iface src val)
  else panicString ("reflectlite.Set: value of type " ++ (←Rtype.spelt src) ++ " is not assignable to type " ++ (←Rtype.spelt dst))
  pure (.tuple #[])):=rfl
theorem qA(h:Value)(w:World):(Go.method 281 110 (.agg #[h]) "Kind").run Go.Proofs.Tryd.prog w=.ok (82,h) w:=by kernel_rfl
theorem qB(h:Value)(w:World):(Go.method 281 110 (.agg #[h]) "Elem").run Go.Proofs.Tryd.prog w=.ok (95,.agg #[h]) w:=by kernel_rfl
theorem kc(h:Value)(w:World):(Go.method 281 110 (.agg #[h]) "Implements").run Go.Proofs.Tryd.prog w=.ok (96,.agg #[h]) w:=by kernel_rfl
theorem fE(h:Value)(w:World):(Go.method 281 110 (.agg #[h]) "AssignableTo").run Go.Proofs.Tryd.prog w=.ok (93,.agg #[h]) w:=by kernel_rfl
theorem yM(t:Addr)(w:World):(ReflectliteValue.unpack (.iface 59 (.pointer (some t)))).run Go.Proofs.Tryd.prog w=.ok (.agg #[.pointer (some ⟨1,59,none⟩),.pointer (some ⟨w.heap.size,0,none⟩),.int .u64 150]) (w.alloc (.cells #[.pointer (some t)] 59)):=by kernel_rfl
theorem BN(a:Addr)(w:World):(ReflectliteValue.methodAny (ReflectliteValue.valueError "reflectlite.Value.Type" 0) (fun t _ _ _=>ReflectliteType.toType t) #[(.agg #[.pointer (some ⟨1,59,none⟩),.pointer (some a),.int .u64 150])]).run Go.Proofs.Tryd.prog w=.ok (.iface 110 (.agg #[.pointer (some ⟨1,59,none⟩)])) w:=by kernel_rfl
theorem AY(w:World):((ReflectliteType.abiMethod fun t=>(fun a:Nat=>Value.int IntKind.u8 (a:Int)) <$> Rtype.kind t) #[.pointer (some ⟨1,59,none⟩)]).run Go.Proofs.Tryd.prog w=.ok (.int .u8 22) w:=by kernel_rfl
theorem BO(w:World):((ReflectliteType.abiMethod fun t=>(fun a:Nat=>Value.int IntKind.u8 (a:Int)) <$> Rtype.kind t) #[.pointer (some ⟨1,39,none⟩)]).run Go.Proofs.Tryd.prog w=.ok (.int .u8 22) w:=by kernel_rfl
theorem wz(a:Addr)(w:World):(ReflectliteValue.parts (.agg #[.pointer (some ⟨1,59,none⟩),.pointer (some a),.int .u64 150])).run Go.Proofs.Tryd.prog w=.ok (some (59,a,150)) w:=by kernel_rfl
theorem wA:Go.Proofs.Tryd.prog.underlying 59=some (.pointer 39):=by kernel_rfl
theorem AZ(a p:Addr)(W:World)(ha:W.cell? a=some (.pointer (some p))) :
  (ReflectliteValue.method (ReflectliteValue.valueError "reflectlite.Value.IsNil" 0) ReflectliteValue.isNil #[(.agg #[.pointer (some ⟨1,59,none⟩),.pointer (some a),.int .u64 150])]).run Go.Proofs.Tryd.prog W=.ok (.bool false) W:=by
 rw[Cj]
 simp only[Sem.run_bind,wz,Result.andThen]
 simp[ReflectliteValue.isNil,loadVar,isAgg,underlying,wA,ha,Result.andThen]
theorem BP(w:World):(ReflectliteType.method ReflectliteType.elem #[.agg #[.pointer (some ⟨1,59,none⟩)]]).run Go.Proofs.Tryd.prog w=.ok (.iface 110 (.agg #[.pointer (some ⟨1,39,none⟩)])) w:=by kernel_rfl
theorem BQ(w:World):(ReflectliteType.relation "Implements" ReflectliteType.implements_ #[.agg #[.pointer (some ⟨1,39,none⟩)],.iface 110 (.agg #[.pointer (some ⟨1,31,none⟩)])]).run Go.Proofs.Tryd.prog w=.ok (.bool true) w:=by kernel_rfl
theorem sJ(v:Value)(w:World):(ReflectliteType.typeOf #[.iface 39 v]).run Go.Proofs.Tryd.prog w=.ok (.iface 110 (.agg #[.pointer (some ⟨1,39,none⟩)])) w:=by kernel_rfl
theorem zA(w:World):(Rtype.elem? 59).run Go.Proofs.Tryd.prog w=.ok (some 39) w:=by kernel_rfl
theorem Da(p:Addr)(w:World):(ReflectliteValue.mk 39 p ReflectliteValue.flagAddr).run Go.Proofs.Tryd.prog w=.ok (.agg #[.pointer (some ⟨1,39,none⟩),.pointer (some p),.int .u64 406]) w:=by kernel_rfl
theorem A0(a p:Addr)(W:World)(ha:W.cell? a=some (.pointer (some p))) :
  (ReflectliteValue.method (ReflectliteValue.valueError "reflectlite.Value.Elem" 0) ReflectliteValue.elem #[(.agg #[.pointer (some ⟨1,59,none⟩),.pointer (some a),.int .u64 150])]).run Go.Proofs.Tryd.prog W=.ok (.agg #[.pointer (some ⟨1,39,none⟩),.pointer (some p),.int .u64 406]) W:=by
 rw[Cj]
 simp only[Sem.run_bind,wz,Result.andThen]
 simp[ReflectliteValue.elem,loadVar,isAgg,underlying,wA,ha,Result.andThen,zA,Da]
theorem zB(a:Addr)(w:World):(ReflectliteValue.parts (.agg #[.pointer (some ⟨1,39,none⟩),.pointer (some a),.int .u64 406])).run Go.Proofs.Tryd.prog w=.ok (some (39,a,406)) w:=by kernel_rfl
theorem A1(a:Addr)(w:World):(ReflectliteValue.parts (.agg #[.pointer (some ⟨1,39,none⟩),.pointer (some a),.int .u64 150])).run Go.Proofs.Tryd.prog w=.ok (some (39,a,150)) w:=by kernel_rfl
theorem zC(w:World):(Rtype.directlyAssignable 39 39).run Go.Proofs.Tryd.prog w=.ok true w:=by kernel_rfl
theorem A2:Go.Proofs.Tryd.prog.underlying 39=some (.pointer 41):=by kernel_rfl
theorem A3(x:Addr)(w:World):(ReflectliteValue.unpack (.iface 39 (.pointer (some x)))).run Go.Proofs.Tryd.prog w=.ok (.agg #[.pointer (some ⟨1,39,none⟩),.pointer (some ⟨w.heap.size,0,none⟩),.int .u64 150]) (w.alloc (.cells #[.pointer (some x)] 39)):=by kernel_rfl
theorem CA(ta b:Addr)(x:Addr)(old:Value)(W:World)(hb:W.cell? b=some (.pointer (some x)))(ht:W.cell? ta=some old)(hf:W.frozen? ta=false) :
  (ReflectliteValue.set #[(.agg #[.pointer (some ⟨1,39,none⟩),.pointer (some ta),.int .u64 406]),(.agg #[.pointer (some ⟨1,39,none⟩),.pointer (some b),.int .u64 150])]).run Go.Proofs.Tryd.prog W=.ok (.tuple #[]) (W.setCell ta (.pointer (some x))):=by
 rw[C4]
 simp only[Sem.run_bind,zB,A1,Result.andThen]
 simp[ReflectliteValue.flagAddr,loadVar,isAgg,underlying,A2,hb,Result.andThen,zC,storeVar,Value.cells,storeCells,Addr.add]
 rw[run_store Go.Proofs.Tryd.prog W ta _ _ (by rfl)]
 simp[ht,hf]
theorem yN(t:Addr)(w:World):(ReflectliteValue.unpack (.iface 60 (.pointer (some t)))).run Go.Proofs.Tryd.prog w=.ok (.agg #[.pointer (some ⟨1,60,none⟩),.pointer (some ⟨w.heap.size,0,none⟩),.int .u64 150]) (w.alloc (.cells #[.pointer (some t)] 60)):=by kernel_rfl
theorem BR(a:Addr)(w:World):(ReflectliteValue.methodAny (ReflectliteValue.valueError "reflectlite.Value.Type" 0) (fun t _ _ _=>ReflectliteType.toType t) #[(.agg #[.pointer (some ⟨1,60,none⟩),.pointer (some a),.int .u64 150])]).run Go.Proofs.Tryd.prog w=.ok (.iface 110 (.agg #[.pointer (some ⟨1,60,none⟩)])) w:=by kernel_rfl
theorem A4(w:World):((ReflectliteType.abiMethod fun t=>(fun a:Nat=>Value.int IntKind.u8 (a:Int)) <$> Rtype.kind t) #[.pointer (some ⟨1,60,none⟩)]).run Go.Proofs.Tryd.prog w=.ok (.int .u8 22) w:=by kernel_rfl
theorem BS(w:World):((ReflectliteType.abiMethod fun t=>(fun a:Nat=>Value.int IntKind.u8 (a:Int)) <$> Rtype.kind t) #[.pointer (some ⟨1,34,none⟩)]).run Go.Proofs.Tryd.prog w=.ok (.int .u8 2) w:=by kernel_rfl
theorem wB(a:Addr)(w:World):(ReflectliteValue.parts (.agg #[.pointer (some ⟨1,60,none⟩),.pointer (some a),.int .u64 150])).run Go.Proofs.Tryd.prog w=.ok (some (60,a,150)) w:=by kernel_rfl
theorem wC:Go.Proofs.Tryd.prog.underlying 60=some (.pointer 34):=by kernel_rfl
theorem A5(a p:Addr)(W:World)(ha:W.cell? a=some (.pointer (some p))) :
  (ReflectliteValue.method (ReflectliteValue.valueError "reflectlite.Value.IsNil" 0) ReflectliteValue.isNil #[(.agg #[.pointer (some ⟨1,60,none⟩),.pointer (some a),.int .u64 150])]).run Go.Proofs.Tryd.prog W=.ok (.bool false) W:=by
 rw[Cj]
 simp only[Sem.run_bind,wB,Result.andThen]
 simp[ReflectliteValue.isNil,loadVar,isAgg,underlying,wC,ha,Result.andThen]
theorem BT(w:World):(ReflectliteType.method ReflectliteType.elem #[.agg #[.pointer (some ⟨1,60,none⟩)]]).run Go.Proofs.Tryd.prog w=.ok (.iface 110 (.agg #[.pointer (some ⟨1,34,none⟩)])) w:=by kernel_rfl
theorem BU(w:World):(ReflectliteType.relation "Implements" ReflectliteType.implements_ #[.agg #[.pointer (some ⟨1,34,none⟩)],.iface 110 (.agg #[.pointer (some ⟨1,31,none⟩)])]).run Go.Proofs.Tryd.prog w=.ok (.bool true) w:=by kernel_rfl
theorem sK(v:Value)(w:World):(ReflectliteType.typeOf #[.iface 34 v]).run Go.Proofs.Tryd.prog w=.ok (.iface 110 (.agg #[.pointer (some ⟨1,34,none⟩)])) w:=by kernel_rfl
theorem zD(w:World):(Rtype.elem? 60).run Go.Proofs.Tryd.prog w=.ok (some 34) w:=by kernel_rfl
theorem Db(p:Addr)(w:World):(ReflectliteValue.mk 34 p ReflectliteValue.flagAddr).run Go.Proofs.Tryd.prog w=.ok (.agg #[.pointer (some ⟨1,34,none⟩),.pointer (some p),.int .u64 386]) w:=by kernel_rfl
theorem vw(a p:Addr)(W:World)(ha:W.cell? a=some (.pointer (some p))) :
  (ReflectliteValue.method (ReflectliteValue.valueError "reflectlite.Value.Elem" 0) ReflectliteValue.elem #[(.agg #[.pointer (some ⟨1,60,none⟩),.pointer (some a),.int .u64 150])]).run Go.Proofs.Tryd.prog W=.ok (.agg #[.pointer (some ⟨1,34,none⟩),.pointer (some p),.int .u64 386]) W:=by
 rw[Cj]
 simp only[Sem.run_bind,wB,Result.andThen]
 simp[ReflectliteValue.elem,loadVar,isAgg,underlying,wC,ha,Result.andThen,zD,Db]
theorem zE(a:Addr)(w:World):(ReflectliteValue.parts (.agg #[.pointer (some ⟨1,34,none⟩),.pointer (some a),.int .u64 386])).run Go.Proofs.Tryd.prog w=.ok (some (34,a,386)) w:=by kernel_rfl
theorem A6(a:Addr)(w:World):(ReflectliteValue.parts (.agg #[.pointer (some ⟨1,34,none⟩),.pointer (some a),.int .u64 130])).run Go.Proofs.Tryd.prog w=.ok (some (34,a,130)) w:=by kernel_rfl
theorem zG(w:World):(Rtype.directlyAssignable 34 34).run Go.Proofs.Tryd.prog w=.ok true w:=by kernel_rfl
theorem A7:Go.Proofs.Tryd.prog.underlying 34=some (.int .i64):=by kernel_rfl
theorem vx(x:Int)(w:World):(ReflectliteValue.unpack (.iface 34 (.int .i64 x))).run Go.Proofs.Tryd.prog w=.ok (.agg #[.pointer (some ⟨1,34,none⟩),.pointer (some ⟨w.heap.size,0,none⟩),.int .u64 130]) (w.alloc (.cells #[.int .i64 x] 34)):=by kernel_rfl
theorem A8(ta b:Addr)(x:Int)(old:Value)(W:World)(hb:W.cell? b=some (.int .i64 x))(ht:W.cell? ta=some old)(hf:W.frozen? ta=false) :
  (ReflectliteValue.set #[(.agg #[.pointer (some ⟨1,34,none⟩),.pointer (some ta),.int .u64 386]),(.agg #[.pointer (some ⟨1,34,none⟩),.pointer (some b),.int .u64 130])]).run Go.Proofs.Tryd.prog W=.ok (.tuple #[]) (W.setCell ta (.int .i64 x)):=by
 rw[C4]
 simp only[Sem.run_bind,zE,A6,Result.andThen]
 simp[ReflectliteValue.flagAddr,loadVar,isAgg,underlying,A7,hb,Result.andThen,zG,storeVar,Value.cells,storeCells,Addr.add]
 rw[run_store Go.Proofs.Tryd.prog W ta _ _ (by rfl)]
 simp[ht,hf]
theorem yO(w:World):(ReflectliteType.relation "AssignableTo" ReflectliteType.assignableTo #[.agg #[.pointer (some ⟨1,39,none⟩)],.iface 110 (.agg #[.pointer (some ⟨1,39,none⟩)])]).run Go.Proofs.Tryd.prog w=.ok (.bool true) w:=by kernel_rfl
theorem uo(w:World):(ReflectliteType.relation "AssignableTo" ReflectliteType.assignableTo #[.agg #[.pointer (some ⟨1,39,none⟩)],.iface 110 (.agg #[.pointer (some ⟨1,34,none⟩)])]).run Go.Proofs.Tryd.prog w=.ok (.bool false) w:=by kernel_rfl
theorem qC(w:World):(ReflectliteType.relation "AssignableTo" ReflectliteType.assignableTo #[.agg #[.pointer (some ⟨1,34,none⟩)],.iface 110 (.agg #[.pointer (some ⟨1,34,none⟩)])]).run Go.Proofs.Tryd.prog w=.ok (.bool true) w:=by kernel_rfl
theorem z1(v:Value)(xT:TypeId)(w:World):(Instr.typeAssert (.iface 39 v) xT 115 true).run Go.Proofs.Tryd.prog w=.ok (.tuple #[.nilIface,.bool false]) w:=run_typeAssert_lacksB Go.Proofs.Tryd.underlying115 (by kernel_rfl) (by kernel_rfl) v xT w
theorem z2(v:Value)(xT:TypeId)(w:World):(Instr.typeAssert (.iface 39 v) xT 118 true).run Go.Proofs.Tryd.prog w=.ok (.tuple #[.iface 39 v,.bool true]) w:=run_typeAssert_hasB Go.Proofs.Tryd.underlying118 (by kernel_rfl) v xT w
theorem nU(e:Addr)(w:World):(Go.method 281 39 (.pointer (some e)) "Unwrap").run Go.Proofs.Tryd.prog w=.ok (87,.pointer (some e)) w:=by kernel_rfl
abbrev C5:Value:=.iface 110 (.agg #[.pointer (some ⟨1,39,none⟩)])
abbrev Cl:Value:=.iface 110 (.agg #[.pointer (some ⟨1,34,none⟩)])
abbrev q0(PT:Nat)(a:Addr):Obj:=.cells #[.pointer (some ⟨1,PT,none⟩),.pointer (some a),.int .u64 150] 80
set_option maxHeartbeats 4000000 in
theorem BV(e t a:Addr)(old tgt:Value)(w:World)(ha:w.cell? a=some (.pointer (some t)))(ht0:w.cell? t=some old)(hf0:w.frozen? t=false) :
  Calls Go.Proofs.Tryd.prog 27 #[.iface 39 (.pointer (some e)),tgt,.agg #[.pointer (some ⟨1,59,none⟩),.pointer (some a),.int .u64 150],C5] w fun ev w'=>ev=.returned (.bool true) ∧
   w'=((w.alloc (q0 59 a)).alloc (.cells #[.pointer (some e)] 39)).setCell t (.pointer (some e)):=by
 have hTO:=@run_callFunc_extern Go.Proofs.Tryd.prog 42 _ ReflectliteType.typeOf Go.Proofs.Tryd.func42 (by kernel_rfl) (by kernel_rfl) (by kernel_rfl) (by kernel_rfl)
 have hA:=@run_callFunc_extern Go.Proofs.Tryd.prog 93 _ (ReflectliteType.relation "AssignableTo" ReflectliteType.assignableTo) Go.Proofs.Tryd.func93 (by kernel_rfl) (by kernel_rfl) (by kernel_rfl) (by kernel_rfl)
 have hVE:=@run_callFunc_extern Go.Proofs.Tryd.prog 43 _ (ReflectliteValue.method (ReflectliteValue.valueError "reflectlite.Value.Elem" 0) ReflectliteValue.elem) Go.Proofs.Tryd.func43 (by kernel_rfl) (by kernel_rfl) (by kernel_rfl) (by kernel_rfl)
 have hS:=@run_callFunc_extern Go.Proofs.Tryd.prog 44 _ ReflectliteValue.set Go.Proofs.Tryd.func44 (by kernel_rfl) (by kernel_rfl) (by kernel_rfl) (by kernel_rfl)
 have hV:=@run_callFunc_extern Go.Proofs.Tryd.prog 24 _ (fun args=>ReflectliteValue.unpack (args.getD 0 (.tuple #[]))) Go.Proofs.Tryd.func24 (by kernel_rfl) (by kernel_rfl) (by kernel_rfl) (by kernel_rfl)
 have tO:=sJ
 have mA:=fE
 have aF:=yO
 have vF:=A3
 have hal:a.block<w.heap.size:=by
  rcases Nat.lt_or_ge a.block w.heap.size with h | h
  ·exact h
  ·simp[World.cell?,Array.getElem?_eq_none h] at ha
 have htl:t.block<w.heap.size:=by
  rcases Nat.lt_or_ge t.block w.heap.size with h | h
  ·exact h
  ·simp[World.cell?,Array.getElem?_eq_none h] at ht0
 have el:=A0 a t (w.alloc (q0 59 a)) (by rw[World.cell?_alloc_lt _ _ a hal];exact ha)
 have st:=CA t ⟨w.heap.size+1,0,none⟩ e old ((w.alloc (q0 59 a)).alloc (.cells #[.pointer (some e)] 39))
  (by rw[World.cell?_alloc_at _ _ _ _ (by simp)];rfl)
  (by rw[World.cell?_alloc_lt _ _ t (by simp;omega),World.cell?_alloc_lt _ _ t htl];exact ht0)
  (by rw[World.frozen?_alloc_old _ _ t (by simp;omega),World.frozen?_alloc_old _ _ t (Nat.ne_of_lt htl)];exact hf0)
 go_enter Go.Proofs.Tryd.func27,Go.Proofs.Tryd.ntmps27
 go_wp2
 refine wp_loop_rounds 1 ?_
 rw[rounds_succ]
 go_wp2
 go_ret
 exact⟨rfl,rfl⟩
set_option maxHeartbeats 4000000 in
theorem BW(n:Int)(t a:Addr)(old tgt:Value)(w:World)(ha:w.cell? a=some (.pointer (some t)))(ht0:w.cell? t=some old)(hf0:w.frozen? t=false) :
  Calls Go.Proofs.Tryd.prog 27 #[.iface 34 (.int .i64 n),tgt,.agg #[.pointer (some ⟨1,60,none⟩),.pointer (some a),.int .u64 150],Cl] w fun ev w'=>ev=.returned (.bool true) ∧
   w'=((w.alloc (q0 60 a)).alloc (.cells #[.int .i64 n] 34)).setCell t (.int .i64 n):=by
 have hTO:=@run_callFunc_extern Go.Proofs.Tryd.prog 42 _ ReflectliteType.typeOf Go.Proofs.Tryd.func42 (by kernel_rfl) (by kernel_rfl) (by kernel_rfl) (by kernel_rfl)
 have hA:=@run_callFunc_extern Go.Proofs.Tryd.prog 93 _ (ReflectliteType.relation "AssignableTo" ReflectliteType.assignableTo) Go.Proofs.Tryd.func93 (by kernel_rfl) (by kernel_rfl) (by kernel_rfl) (by kernel_rfl)
 have hVE:=@run_callFunc_extern Go.Proofs.Tryd.prog 43 _ (ReflectliteValue.method (ReflectliteValue.valueError "reflectlite.Value.Elem" 0) ReflectliteValue.elem) Go.Proofs.Tryd.func43 (by kernel_rfl) (by kernel_rfl) (by kernel_rfl) (by kernel_rfl)
 have hS:=@run_callFunc_extern Go.Proofs.Tryd.prog 44 _ ReflectliteValue.set Go.Proofs.Tryd.func44 (by kernel_rfl) (by kernel_rfl) (by kernel_rfl) (by kernel_rfl)
 have hV:=@run_callFunc_extern Go.Proofs.Tryd.prog 24 _ (fun args=>ReflectliteValue.unpack (args.getD 0 (.tuple #[]))) Go.Proofs.Tryd.func24 (by kernel_rfl) (by kernel_rfl) (by kernel_rfl) (by kernel_rfl)
 have tO:=sK
 have mA:=fE
 have aE:=qC
 have vE:=vx
 have hal:a.block<w.heap.size:=by
  rcases Nat.lt_or_ge a.block w.heap.size with h | h
  ·exact h
  ·simp[World.cell?,Array.getElem?_eq_none h] at ha
 have htl:t.block<w.heap.size:=by
  rcases Nat.lt_or_ge t.block w.heap.size with h | h
  ·exact h
  ·simp[World.cell?,Array.getElem?_eq_none h] at ht0
 have el:=vw a t (w.alloc (q0 60 a)) (by rw[World.cell?_alloc_lt _ _ a hal];exact ha)
 have st:=A8 t ⟨w.heap.size+1,0,none⟩ n old ((w.alloc (q0 60 a)).alloc (.cells #[.int .i64 n] 34))
  (by rw[World.cell?_alloc_at _ _ _ _ (by simp)];rfl)
  (by rw[World.cell?_alloc_lt _ _ t (by simp;omega),World.cell?_alloc_lt _ _ t htl];exact ht0)
  (by rw[World.frozen?_alloc_old _ _ t (by simp;omega),World.frozen?_alloc_old _ _ t (Nat.ne_of_lt htl)];exact hf0)
 go_enter Go.Proofs.Tryd.func27,Go.Proofs.Tryd.ntmps27
 go_wp2
 refine wp_loop_rounds 1 ?_
 rw[rounds_succ]
 go_wp2
 go_ret
 exact⟨rfl,rfl⟩
abbrev vy:Value:=.iface 110 (.agg #[.pointer (some ⟨1,31,none⟩)])
set_option maxHeartbeats 4000000 in
theorem CB(d:TypeId)(v:Value)(t:Addr)(w w2:World)(r:Bool)(hg:w.cell? ⟨0,0,none⟩=some vy)
  (h:Calls Go.Proofs.Tryd.prog 27 #[.iface d v,.iface 59 (.pointer (some t)),.agg #[.pointer (some ⟨1,59,none⟩),.pointer (some ⟨w.heap.size,0,none⟩),.int .u64 150],C5] ((w.alloc (.cells #[.pointer (some t)] 59)).alloc (q0 59 ⟨w.heap.size,0,none⟩)) fun ev w'=>ev=.returned (.bool r)∧w'=w2) :
  Calls Go.Proofs.Tryd.prog 14 #[.iface d v,.iface 59 (.pointer (some t))] w fun ev w'=>ev=.returned (.bool r)∧w'=w2:=by
 have hV:=@run_callFunc_extern Go.Proofs.Tryd.prog 24 _ (fun args=>ReflectliteValue.unpack (args.getD 0 (.tuple #[]))) Go.Proofs.Tryd.func24 (by kernel_rfl) (by kernel_rfl) (by kernel_rfl) (by kernel_rfl)
 have hT:=@run_callFunc_extern Go.Proofs.Tryd.prog 25 _ (ReflectliteValue.methodAny (ReflectliteValue.valueError "reflectlite.Value.Type" 0) (fun t _ _ _=>ReflectliteType.toType t)) Go.Proofs.Tryd.func25 (by kernel_rfl) (by kernel_rfl) (by kernel_rfl) (by kernel_rfl)
 have hN:=@run_callFunc_extern Go.Proofs.Tryd.prog 26 _ (ReflectliteValue.method (ReflectliteValue.valueError "reflectlite.Value.IsNil" 0) ReflectliteValue.isNil) Go.Proofs.Tryd.func26 (by kernel_rfl) (by kernel_rfl) (by kernel_rfl) (by kernel_rfl)
 have hK:=@run_callFunc_extern Go.Proofs.Tryd.prog 82 _ (ReflectliteType.abiMethod fun t=>do pure (.int .u8 (←Rtype.kind t))) Go.Proofs.Tryd.func82 (by kernel_rfl) (by kernel_rfl) (by kernel_rfl) (by kernel_rfl)
 have hE:=@run_callFunc_extern Go.Proofs.Tryd.prog 95 _ (ReflectliteType.method ReflectliteType.elem) Go.Proofs.Tryd.func95 (by kernel_rfl) (by kernel_rfl) (by kernel_rfl) (by kernel_rfl)
 have hI:=@run_callFunc_extern Go.Proofs.Tryd.prog 96 _ (ReflectliteType.relation "Implements" ReflectliteType.implements_) Go.Proofs.Tryd.func96 (by kernel_rfl) (by kernel_rfl) (by kernel_rfl) (by kernel_rfl)
 have f6:=yM
 have f7:=BN
 have mK:=qA
 have mE:=qB
 have mI:=kc
 have kP:=AY
 have kT:=BO
 have eT:=BP
 have iT:=BQ
 have n8:=AZ ⟨w.heap.size,0,none⟩ t ((w.alloc (.cells #[.pointer (some t)] 59)).alloc (q0 59 ⟨w.heap.size,0,none⟩)) (by simp)
 have hlt:0<w.heap.size:=by
  rcases Nat.eq_zero_or_pos w.heap.size with h0 | h
  ·simp[World.cell?,h0] at hg
  ·exact h
 have hg2:((w.alloc (.cells #[.pointer (some t)] 59)).alloc (q0 59 ⟨w.heap.size,0,none⟩)).cell? ⟨0,0,none⟩=some vy:=by
  rw[World.cell?_alloc_lt _ _ ⟨0,0,none⟩ (by simp),World.cell?_alloc_lt _ _ ⟨0,0,none⟩ hlt];exact hg
 go_enter Go.Proofs.Tryd.func14,Go.Proofs.Tryd.ntmps14
 go_wp2_with (first | (go_at_call 27;refine h.mono ?_;rintro e w' ⟨rfl,rfl⟩))
 go_ret
 exact⟨rfl,rfl⟩
set_option maxHeartbeats 4000000 in
theorem A9(d:TypeId)(v:Value)(t:Addr)(w w2:World)(r:Bool)(hg:w.cell? ⟨0,0,none⟩=some vy)
  (h:Calls Go.Proofs.Tryd.prog 27 #[.iface d v,.iface 60 (.pointer (some t)),.agg #[.pointer (some ⟨1,60,none⟩),.pointer (some ⟨w.heap.size,0,none⟩),.int .u64 150],Cl] ((w.alloc (.cells #[.pointer (some t)] 60)).alloc (q0 60 ⟨w.heap.size,0,none⟩)) fun ev w'=>ev=.returned (.bool r)∧w'=w2) :
  Calls Go.Proofs.Tryd.prog 14 #[.iface d v,.iface 60 (.pointer (some t))] w fun ev w'=>ev=.returned (.bool r)∧w'=w2:=by
 have hV:=@run_callFunc_extern Go.Proofs.Tryd.prog 24 _ (fun args=>ReflectliteValue.unpack (args.getD 0 (.tuple #[]))) Go.Proofs.Tryd.func24 (by kernel_rfl) (by kernel_rfl) (by kernel_rfl) (by kernel_rfl)
 have hT:=@run_callFunc_extern Go.Proofs.Tryd.prog 25 _ (ReflectliteValue.methodAny (ReflectliteValue.valueError "reflectlite.Value.Type" 0) (fun t _ _ _=>ReflectliteType.toType t)) Go.Proofs.Tryd.func25 (by kernel_rfl) (by kernel_rfl) (by kernel_rfl) (by kernel_rfl)
 have hN:=@run_callFunc_extern Go.Proofs.Tryd.prog 26 _ (ReflectliteValue.method (ReflectliteValue.valueError "reflectlite.Value.IsNil" 0) ReflectliteValue.isNil) Go.Proofs.Tryd.func26 (by kernel_rfl) (by kernel_rfl) (by kernel_rfl) (by kernel_rfl)
 have hK:=@run_callFunc_extern Go.Proofs.Tryd.prog 82 _ (ReflectliteType.abiMethod fun t=>do pure (.int .u8 (←Rtype.kind t))) Go.Proofs.Tryd.func82 (by kernel_rfl) (by kernel_rfl) (by kernel_rfl) (by kernel_rfl)
 have hE:=@run_callFunc_extern Go.Proofs.Tryd.prog 95 _ (ReflectliteType.method ReflectliteType.elem) Go.Proofs.Tryd.func95 (by kernel_rfl) (by kernel_rfl) (by kernel_rfl) (by kernel_rfl)
 have hI:=@run_callFunc_extern Go.Proofs.Tryd.prog 96 _ (ReflectliteType.relation "Implements" ReflectliteType.implements_) Go.Proofs.Tryd.func96 (by kernel_rfl) (by kernel_rfl) (by kernel_rfl) (by kernel_rfl)
 have f6:=yN
 have f7:=BR
 have mK:=qA
 have mE:=qB
 have mI:=kc
 have kP:=A4
 have kT:=BS
 have eT:=BT
 have iT:=BU
 have n8:=A5 ⟨w.heap.size,0,none⟩ t ((w.alloc (.cells #[.pointer (some t)] 60)).alloc (q0 60 ⟨w.heap.size,0,none⟩)) (by simp)
 have hlt:0<w.heap.size:=by
  rcases Nat.eq_zero_or_pos w.heap.size with h0 | h
  ·simp[World.cell?,h0] at hg
  ·exact h
 have hg2:((w.alloc (.cells #[.pointer (some t)] 60)).alloc (q0 60 ⟨w.heap.size,0,none⟩)).cell? ⟨0,0,none⟩=some vy:=by
  rw[World.cell?_alloc_lt _ _ ⟨0,0,none⟩ (by simp),World.cell?_alloc_lt _ _ ⟨0,0,none⟩ hlt];exact hg
 go_enter Go.Proofs.Tryd.func14,Go.Proofs.Tryd.ntmps14
 go_wp2_with (first | (go_at_call 27;refine h.mono ?_;rintro e w' ⟨rfl,rfl⟩))
 go_ret
 exact⟨rfl,rfl⟩
open Go.Vc (Sat)
theorem vz(b:Nat)(v:Value)(w:World)(he:w.cell? ⟨b,2,none⟩=some v):Calls Go.Proofs.Tryd.prog 87 #[.pointer (some ⟨b,0,none⟩)] w fun ev w'=>ev=.returned v∧w'=w:=by
 go_enter Go.Proofs.Tryd.func87,Go.Proofs.Tryd.ntmps87
 go_wp2
 go_ret
 exact⟨rfl,rfl⟩
set_option maxHeartbeats 4000000 in
theorem Ba(b:Nat)(n:Int)(t a:Addr)(old tgt:Value)(w:World)(he:w.cell? ⟨b,2,none⟩=some (.iface 34 (.int .i64 n)))(ha:w.cell? a=some (.pointer (some t)))(ht0:w.cell? t=some old)(hf0:w.frozen? t=false) :
  Calls Go.Proofs.Tryd.prog 27 #[.iface 39 (.pointer (some ⟨b,0,none⟩)),tgt,.agg #[.pointer (some ⟨1,60,none⟩),.pointer (some a),.int .u64 150],Cl] w fun ev w'=>ev=.returned (.bool true) ∧
   w'=((w.alloc (q0 60 a)).alloc (.cells #[.int .i64 n] 34)).setCell t (.int .i64 n):=by
 have hTO:=@run_callFunc_extern Go.Proofs.Tryd.prog 42 _ ReflectliteType.typeOf Go.Proofs.Tryd.func42 (by kernel_rfl) (by kernel_rfl) (by kernel_rfl) (by kernel_rfl)
 have hA:=@run_callFunc_extern Go.Proofs.Tryd.prog 93 _ (ReflectliteType.relation "AssignableTo" ReflectliteType.assignableTo) Go.Proofs.Tryd.func93 (by kernel_rfl) (by kernel_rfl) (by kernel_rfl) (by kernel_rfl)
 have hVE:=@run_callFunc_extern Go.Proofs.Tryd.prog 43 _ (ReflectliteValue.method (ReflectliteValue.valueError "reflectlite.Value.Elem" 0) ReflectliteValue.elem) Go.Proofs.Tryd.func43 (by kernel_rfl) (by kernel_rfl) (by kernel_rfl) (by kernel_rfl)
 have hS:=@run_callFunc_extern Go.Proofs.Tryd.prog 44 _ ReflectliteValue.set Go.Proofs.Tryd.func44 (by kernel_rfl) (by kernel_rfl) (by kernel_rfl) (by kernel_rfl)
 have hV:=@run_callFunc_extern Go.Proofs.Tryd.prog 24 _ (fun args=>ReflectliteValue.unpack (args.getD 0 (.tuple #[]))) Go.Proofs.Tryd.func24 (by kernel_rfl) (by kernel_rfl) (by kernel_rfl) (by kernel_rfl)
 have tO:=sK
 have tO2:=sJ
 have mA:=fE
 have aE:=qC
 have aF:=uo
 have vE:=vx
 have t1:=z1
 have t2:=z2
 have mU:=nU
 have hal:a.block<w.heap.size:=by
  rcases Nat.lt_or_ge a.block w.heap.size with h | h
  ·exact h
  ·simp[World.cell?,Array.getElem?_eq_none h] at ha
 have hel:b<w.heap.size:=by
  rcases Nat.lt_or_ge b w.heap.size with h | h
  ·exact h
  ·simp[World.cell?,Array.getElem?_eq_none h] at he
 have htl:t.block<w.heap.size:=by
  rcases Nat.lt_or_ge t.block w.heap.size with h | h
  ·exact h
  ·simp[World.cell?,Array.getElem?_eq_none h] at ht0
 have he1:(w.alloc (q0 60 a)).cell? ⟨b,2,none⟩=some (.iface 34 (.int .i64 n)):=by rw[World.cell?_alloc_lt _ _ _ hel];exact he
 have el:=vw a t (w.alloc (q0 60 a)) (by rw[World.cell?_alloc_lt _ _ a hal];exact ha)
 have st:=A8 t ⟨w.heap.size+1,0,none⟩ n old ((w.alloc (q0 60 a)).alloc (.cells #[.int .i64 n] 34))
  (by rw[World.cell?_alloc_at _ _ _ _ (by simp)];rfl)
  (by rw[World.cell?_alloc_lt _ _ t (by simp;omega),World.cell?_alloc_lt _ _ t htl];exact ht0)
  (by rw[World.frozen?_alloc_old _ _ t (by simp;omega),World.frozen?_alloc_old _ _ t (Nat.ne_of_lt htl)];exact hf0)
 go_enter Go.Proofs.Tryd.func27,Go.Proofs.Tryd.ntmps27
 go_wp2
 refine wp_loop_rounds 2 ?_
 rw[rounds_succ]
 go_wp2_with (first | (go_at_call 87;refine (vz b _ _ he1).mono ?_;rintro e w' ⟨rfl,rfl⟩))
 rw[rounds_succ]
 go_wp2
 go_ret
 exact⟨rfl,rfl⟩
set_option maxHeartbeats 4000000 in
theorem Bb(b c:Nat)(n:Int)(t a:Addr)(old tgt:Value)(w:World)(he:w.cell? ⟨b,2,none⟩=some (.iface 39 (.pointer (some ⟨c,0,none⟩))))(hc:w.cell? ⟨c,2,none⟩=some (.iface 34 (.int .i64 n)))(ha:w.cell? a=some (.pointer (some t)))(ht0:w.cell? t=some old)(hf0:w.frozen? t=false) :
  Calls Go.Proofs.Tryd.prog 27 #[.iface 39 (.pointer (some ⟨b,0,none⟩)),tgt,.agg #[.pointer (some ⟨1,60,none⟩),.pointer (some a),.int .u64 150],Cl] w fun ev w'=>ev=.returned (.bool true) ∧
   w'=((w.alloc (q0 60 a)).alloc (.cells #[.int .i64 n] 34)).setCell t (.int .i64 n):=by
 have hTO:=@run_callFunc_extern Go.Proofs.Tryd.prog 42 _ ReflectliteType.typeOf Go.Proofs.Tryd.func42 (by kernel_rfl) (by kernel_rfl) (by kernel_rfl) (by kernel_rfl)
 have hA:=@run_callFunc_extern Go.Proofs.Tryd.prog 93 _ (ReflectliteType.relation "AssignableTo" ReflectliteType.assignableTo) Go.Proofs.Tryd.func93 (by kernel_rfl) (by kernel_rfl) (by kernel_rfl) (by kernel_rfl)
 have hVE:=@run_callFunc_extern Go.Proofs.Tryd.prog 43 _ (ReflectliteValue.method (ReflectliteValue.valueError "reflectlite.Value.Elem" 0) ReflectliteValue.elem) Go.Proofs.Tryd.func43 (by kernel_rfl) (by kernel_rfl) (by kernel_rfl) (by kernel_rfl)
 have hS:=@run_callFunc_extern Go.Proofs.Tryd.prog 44 _ ReflectliteValue.set Go.Proofs.Tryd.func44 (by kernel_rfl) (by kernel_rfl) (by kernel_rfl) (by kernel_rfl)
 have hV:=@run_callFunc_extern Go.Proofs.Tryd.prog 24 _ (fun args=>ReflectliteValue.unpack (args.getD 0 (.tuple #[]))) Go.Proofs.Tryd.func24 (by kernel_rfl) (by kernel_rfl) (by kernel_rfl) (by kernel_rfl)
 have tO:=sK
 have tO2:=sJ
 have mA:=fE
 have aE:=qC
 have aF:=uo
 have vE:=vx
 have t1:=z1
 have t2:=z2
 have mU:=nU
 have hal:a.block<w.heap.size:=by
  rcases Nat.lt_or_ge a.block w.heap.size with h | h
  ·exact h
  ·simp[World.cell?,Array.getElem?_eq_none h] at ha
 have hel:b<w.heap.size:=by
  rcases Nat.lt_or_ge b w.heap.size with h | h
  ·exact h
  ·simp[World.cell?,Array.getElem?_eq_none h] at he
 have htl:t.block<w.heap.size:=by
  rcases Nat.lt_or_ge t.block w.heap.size with h | h
  ·exact h
  ·simp[World.cell?,Array.getElem?_eq_none h] at ht0
 have he1:(w.alloc (q0 60 a)).cell? ⟨b,2,none⟩=some (.iface 39 (.pointer (some ⟨c,0,none⟩))):=by rw[World.cell?_alloc_lt _ _ _ hel];exact he
 have hcl:c<w.heap.size:=by
  rcases Nat.lt_or_ge c w.heap.size with h | h
  ·exact h
  ·simp[World.cell?,Array.getElem?_eq_none h] at hc
 have hc1:(w.alloc (q0 60 a)).cell? ⟨c,2,none⟩=some (.iface 34 (.int .i64 n)):=by rw[World.cell?_alloc_lt _ _ _ hcl];exact hc
 have el:=vw a t (w.alloc (q0 60 a)) (by rw[World.cell?_alloc_lt _ _ a hal];exact ha)
 have st:=A8 t ⟨w.heap.size+1,0,none⟩ n old ((w.alloc (q0 60 a)).alloc (.cells #[.int .i64 n] 34))
  (by rw[World.cell?_alloc_at _ _ _ _ (by simp)];rfl)
  (by rw[World.cell?_alloc_lt _ _ t (by simp;omega),World.cell?_alloc_lt _ _ t htl];exact ht0)
  (by rw[World.frozen?_alloc_old _ _ t (by simp;omega),World.frozen?_alloc_old _ _ t (Nat.ne_of_lt htl)];exact hf0)
 go_enter Go.Proofs.Tryd.func27,Go.Proofs.Tryd.ntmps27
 go_wp2
 refine wp_loop_rounds 3 ?_
 rw[rounds_succ]
 go_wp2_with (first | (go_at_call 87;refine (vz b _ _ he1).mono ?_;rintro e w' ⟨rfl,rfl⟩))
 rw[rounds_succ]
 go_wp2_with (first | (go_at_call 87;refine (vz c _ _ hc1).mono ?_;rintro e w' ⟨rfl,rfl⟩))
 rw[rounds_succ]
 go_wp2
 go_ret
 exact⟨rfl,rfl⟩
end Go.As
namespace Go.Lx
open Go.Vc
def Gl(I:cS):Prop:=∃cs ty fz,I 0=some (.cells cs ty fz)∧cs[0]? = some Go.As.vy
theorem Gl.mono{I J:cS}(h:Gl I)(hl:cS.le I J):Gl J:=let ⟨cs,ty,fz,h1,h2⟩:=h;⟨cs,ty,fz,hl.at h1,h2⟩
theorem Gl.cell{I:cS}{F:cR}{w:World}(h:Gl I)(hw:Sat I F w):w.cell? ⟨0,0,none⟩=some Go.As.vy:=by
 obtain⟨cs,ty,fz,h1,h2⟩:=h
 have:=hw.imm _ _ h1
 unfold World.cell?
 simp[this,h2]
theorem Gl.zH{w:World}(h:w.cell? ⟨0,0,none⟩=some Go.As.vy):Gl (cS.all w):=by
 unfold World.cell? at h
 split at h
 ·rename_i c ty fz hc
  exact⟨c,ty,fz,hc,by simpa using h⟩
 ·cases h
theorem jr{I:cS}{F:cR}{w:World}{t ty:Nat}{old:Value}(hw:Sat I ((t,.cells #[old] ty (0,0))::F) w):w.cell? ⟨t,0,none⟩=some old∧w.frozen? ⟨t,0,none⟩=false:=by
 have:=hw.own _ _ (.head _)
 unfold World.cell? World.frozen?
 simp[this]
theorem xC.cell{I:cS}{F:cR}{w:World}{b ty:Nat}{fz:Nat×Nat}{x y z:Value}(h:I b=some (.cells #[x,y,z] ty fz))(hw:Sat I F w):w.cell? ⟨b,2,none⟩=some z:=by
 have:=hw.imm _ _ h
 unfold World.cell?
 simp[this]
theorem jy{w:World}{o o':Obj}{a:Addr}{v:Value}(h:w.cell? a=some v):((w.alloc o).alloc o').cell? a=some v:=by
 have hl:a.block<w.heap.size:=by
  rcases Nat.lt_or_ge a.block w.heap.size with h1 | h1
  ·exact h1
  ·simp[World.cell?,Array.getElem?_eq_none h1] at h
 rw[World.cell?_alloc_lt _ _ _ (by simp;omega),World.cell?_alloc_lt _ _ _ hl];exact h
theorem lT{w:World}{o o':Obj}{a:Addr}{v:Value}(h:w.cell? a=some v)(hf:w.frozen? a=false):((w.alloc o).alloc o').frozen? a=false:=by
 have hl:a.block<w.heap.size:=by
  rcases Nat.lt_or_ge a.block w.heap.size with h1 | h1
  ·exact h1
  ·simp[World.cell?,Array.getElem?_eq_none h1] at h
 rw[World.frozen?_alloc_old _ _ _ (by simp;omega),World.frozen?_alloc_old _ _ _ (Nat.ne_of_lt hl)];exact hf
end Go.Lx
namespace Go.Vc
theorem Sat.gz{I:cS}{F:cR}{w:World}(h:Sat I F w)(o:Obj):Sat I F (w.alloc o):=(h.alloc o).drop (A:=[_])
theorem Sat.zI{I:cS}{F:cR}{w:World}{t ty:Nat}{old v:Value}(h:Sat I ((t,.cells #[old] ty (0,0))::F) w):Sat I ((t,.cells #[v] ty (0,0))::F) (w.setCell ⟨t,0,none⟩ v) :=
 Sat.set h (nh (cs:=[old]) (h.own _ _ (.head _)) 0 v) ⟨rfl,rfl⟩
end Go.Vc
namespace Go.Lx
open Go.Vc
def BX(r:Bool)(G:cR)(e:Ending)(I:cS)(F:cR):Prop:=e=.returned (.bool r)∧F=G
section
variable {I:cS} {F:cR} {t ty:Nat} {old:Value}
theorem zJ(hg:Gl I)(b:Nat):cX P 14 #[.iface 39 (.pointer (some ⟨b,0,none⟩)),.iface 59 (.pointer (some ⟨t,0,none⟩))] I ((t,.cells #[old] ty (0,0))::F) (BX true ((t,.cells #[.pointer (some ⟨b,0,none⟩)] ty (0,0))::F)):=fun w hw=>by
 obtain⟨hc,hf⟩:=jr hw
 refine (Go.As.CB _ _ _ w _ true (hg.cell hw) (Go.As.BV ⟨b,0,none⟩ ⟨t,0,none⟩ ⟨w.heap.size,0,none⟩ old _ _ (by simp) (jy hc) (lT hc hf))).mono fun e w' ⟨he,hw'⟩=>⟨I,_,cS.le_refl I, ?_,he,rfl⟩
 rw[hw']
 exact Sat.zI ((((hw.gz _).gz _).gz _).gz _)
theorem C6(hg:Gl I)(n:Int):cX P 14 #[qz n,.iface 60 (.pointer (some ⟨t,0,none⟩))] I ((t,.cells #[old] ty (0,0))::F) (BX true ((t,.cells #[.int .i64 n] ty (0,0))::F)):=fun w hw=>by
 obtain⟨hc,hf⟩:=jr hw
 refine (Go.As.A9 _ _ _ w _ true (hg.cell hw) (Go.As.BW n ⟨t,0,none⟩ ⟨w.heap.size,0,none⟩ old _ _ (by simp) (jy hc) (lT hc hf))).mono fun e w' ⟨he,hw'⟩=>⟨I,_,cS.le_refl I, ?_,he,rfl⟩
 rw[hw']
 exact Sat.zI ((((hw.gz _).gz _).gz _).gz _)
theorem BZ(hg:Gl I){call:ByteArray}{pos n:Int}{v:Value}(h:xC I call pos (qz n) v):cX P 14 #[v,.iface 60 (.pointer (some ⟨t,0,none⟩))] I ((t,.cells #[old] ty (0,0))::F) (BX true ((t,.cells #[.int .i64 n] ty (0,0))::F)):=fun w hw=>by
 obtain⟨b,rfl,hb⟩:=h
 obtain⟨hc,hf⟩:=jr hw
 refine (Go.As.A9 _ _ _ w _ true (hg.cell hw) (Go.As.Ba b n ⟨t,0,none⟩ ⟨w.heap.size,0,none⟩ old _ _ (jy (xC.cell hb hw)) (by simp) (jy hc) (lT hc hf))).mono fun e w' ⟨he,hw'⟩=>⟨I,_,cS.le_refl I, ?_,he,rfl⟩
 rw[hw']
 exact Sat.zI ((((hw.gz _).gz _).gz _).gz _)
theorem B0(hg:Gl I){call call':ByteArray}{pos pos' n:Int}{v u:Value}(h:xC I call pos u v)(h':xC I call' pos' (qz n) u):cX P 14 #[v,.iface 60 (.pointer (some ⟨t,0,none⟩))] I ((t,.cells #[old] ty (0,0))::F) (BX true ((t,.cells #[.int .i64 n] ty (0,0))::F)):=fun w hw=>by
 obtain⟨b,rfl,hb⟩:=h
 obtain⟨c,rfl,hc'⟩:=h'
 obtain⟨hc,hf⟩:=jr hw
 refine (Go.As.A9 _ _ _ w _ true (hg.cell hw) (Go.As.Bb b c n ⟨t,0,none⟩ ⟨w.heap.size,0,none⟩ old _ _ (jy (xC.cell hb hw)) (jy (xC.cell hc' hw)) (by simp) (jy hc) (lT hc hf))).mono fun e w' ⟨he,hw'⟩=>⟨I,_,cS.le_refl I, ?_,he,rfl⟩
 rw[hw']
 exact Sat.zI ((((hw.gz _).gz _).gz _).gz _)
end
end Go.Lx
namespace Go.Lx
open Go.Vc
def ix(t:Tok):Int:=t.pos+t.text.size
def kX(l:List Tok)(f:Int):Nat→Int
 | 0=>f
 | i+1=>ix ((l[i]?).getD (gC 0))
theorem mX(t:Tok)(l:List Tok)(f:Int)(i:Nat):kX (t::l) f (i+1)=kX l (ix t) i:=by cases i<;>rfl
structure Steps (s:ByteArray) (f:Int) (l:List Tok) (o:Option (Int×Int)):Prop where
 tk:∀i,i<l.length→eP s (kX l f i)=.ok ((l[i]?).getD (gC 0))
 B1:∀i,i≤l.length→0≤kX l f i∧kX l f i≤s.size
 kinds:∀i,i+1<l.length→((l[i]?).getD (gC 0)).kind≠0
 last:o=none→0<l.length∧((l[l.length-1]?).getD (gC 0)).kind=0
 bad:∀e p,o=some (e,p)→eP s (kX l f l.length)=.bad e p∧e≠0∧∀i,i<l.length→((l[i]?).getD (gC 0)).kind≠0
theorem Steps.cons{s:ByteArray}{f:Int}{t:Tok}{l:List Tok}{o:Option (Int×Int)}(h0:0≤f)(h1:f≤s.size)(ht:eP s f=.ok t)(hk:t.kind≠0)(h:Steps s (ix t) l o):Steps s f (t::l) o:=by
 refine⟨fun i hi=>?_,fun i hi=>?_,fun i hi=>?_,fun ho=>?_,fun e p ho=>?_⟩
 ·cases i with
  | zero=>exact ht
  | succ i=>rw[mX,List.getElem?_cons_succ];exact h.tk i (by simpa using hi)
 ·cases i with
  | zero=>exact⟨h0,h1⟩
  | succ i=>rw[mX];exact h.B1 i (by simpa using hi)
 ·cases i with
  | zero=>exact hk
  | succ i=>rw[List.getElem?_cons_succ];exact h.kinds i (by simpa using hi)
 ·obtain⟨g0,g1⟩:=h.last ho
  refine⟨by simp, ?_⟩
  obtain⟨n,hn⟩:∃n,l.length=n+1:=⟨l.length-1,by omega⟩
  rw[List.length_cons,hn,Nat.add_sub_cancel,List.getElem?_cons_succ]
  rw[hn,Nat.add_sub_cancel] at g1;exact g1
 ·obtain⟨g1,g2,g3⟩:=h.bad e p ho
  refine⟨by rw[List.length_cons,mX];exact g1,g2,fun i hi=>?_⟩
  cases i with
  | zero=>exact hk
  | succ i=>rw[List.getElem?_cons_succ];exact g3 i (by simpa using hi)
theorem o7(s:ByteArray):∀(n:Nat) (f:Int),0≤f→f≤s.size→(s.size-f+1).toNat≤n→Steps s f (iu s n f).1 (iu s n f).2
 | 0,f,h0,h1,hn=>by omega
 | n+1,f,h0,h1,hn=>by
   unfold iu
   rcases fC h0 h1 with ⟨t,ht,_⟩ | ⟨e,ht,he⟩
   ·have hx:=ga h0 h1 ht
    rw[ht]
    by_cases hk:t.kind=0
    ·simp only[hk,if_true]
     refine⟨fun i hi=>?_,fun i hi=>?_,fun i hi=>?_,fun _=>⟨by simp,hk⟩,fun e p ho=>(by cases ho)⟩
     ·have:i=0:=by simpa using hi
      subst this;exact ht
     ·have hi:i≤1:=hi
      cases i with
      | zero=>exact⟨h0,h1⟩
      | succ i =>
        have:i=0:=by omega
        subst this
        show 0≤t.pos+t.text.size∧t.pos+t.text.size≤(s.size:Int)
        omega
     ·simp at hi
    ·simp only[hk,if_false]
     have:=hx.2.2 hk
     have e0:ix t=t.pos+t.text.size:=rfl
     exact .cons h0 h1 ht hk (o7 s n _ (by omega) (by omega) (by omega))
   ·rw[ht]
    refine⟨fun i hi=>(by simp at hi),fun i hi=>?_,fun i hi=>(by simp at hi),fun ho=>(by cases ho),fun e' p' ho=>?_⟩
    ·have:i=0:=by simpa using hi
     subst this;exact⟨h0,h1⟩
    ·cases ho
     exact⟨ht,by rcases he with rfl | rfl | rfl<;>decide,fun i hi=>(by simp at hi)⟩
structure PC.Of (c:PC) (t:ByteArray):Prop where
 len:(t.size:Int)≤4096
 oo:c.l.length≤5000
 st:∃o,Steps t 0 c.l o∧c.bad=(o.map Prod.fst).getD 0∧c.pos=(o.map Prod.snd).getD 0
theorem sL{t:ByteArray}(h:(t.size:Int)≤4096):(dk t).Of t:=by
 unfold dk
 rw[if_neg (by omega)]
 exact⟨h,by have:=qt t (t.size-0+1:Int).toNat 0;show (dY t 0).1.length≤5000;unfold dY;omega,_,o7 t _ 0 (by decide) (by omega) (Nat.le_refl _),rfl,rfl⟩
def PC.Live(c:PC)(s:PS):Prop:=s.over=false∧s.next<c.l.length
def PC.CC(c:PC):PF:=⟨c.bad,c.pos,true⟩
section
variable {c:PC} {t:ByteArray} {s:PS}
theorem PC.Of.tk(h:c.Of t){i:Nat}(hi:i<c.l.length):eP t (kX c.l 0 i)=.ok (c.tok i):=let ⟨_,h,_⟩:=h.st;h.tk i hi
theorem PC.Of.B1(h:c.Of t){i:Nat}(hi:i≤c.l.length):0≤kX c.l 0 i∧kX c.l 0 i≤t.size:=let ⟨_,h,_⟩:=h.st;h.B1 i hi
theorem PC.Of.next(h:c.Of t){i:Nat}(hi:i<c.l.length)(hk:(c.tok i).kind≠0):i+1<c.l.length∨(i+1=c.l.length∧c.bad≠0∧eP t (kX c.l 0 (i+1))=.bad c.bad c.pos):=by
 obtain⟨o,h,hb,hp⟩:=h.st
 by_cases hl:i+1<c.l.length
 ·exact .inl hl
 ·have hl:i+1=c.l.length:=by omega
  right
  cases o with
  | none =>
    have:=(h.last rfl).2
    rw[←hl,Nat.add_sub_cancel] at this
    exact absurd this hk
  | some ep =>
    obtain⟨g1,g2,_⟩:=h.bad ep.1 ep.2 rfl
    rw[hb,hp,hl];exact⟨rfl,g2,g1⟩
theorem PC.Of.none(h:c.Of t)(hl:c.l.length=0):c.bad≠0∧eP t 0=.bad c.bad c.pos:=by
 obtain⟨o,h,hb,hp⟩:=h.st
 cases o with
 | none=>have:=(h.last rfl).1;omega
 | some ep =>
   obtain⟨g1,g2,_⟩:=h.bad ep.1 ep.2 rfl
   rw[hl] at g1
   rw[hb,hp];exact⟨g2,g1⟩
theorem PC.Live.now(h:c.Live s):c.now s=c.tok s.next:=by
 unfold PC.now;rw[h.1,if_neg];have:=h.2;simp;omega
theorem PC.Live.inc(h:c.Of t)(hl:c.Live s)(hk:(c.tok s.next).kind≠0):c.Live s.inc∨(s.next+1=c.l.length∧c.dq c.CC s.inc):=by
 rcases h.next hl.2 hk with h1 | ⟨h1,h2,_⟩
 ·exact .inl ⟨hl.1,h1⟩
 ·refine .inr ⟨h1, ?_,fun _=>h2⟩
  have h1:c.l.length≤s.inc.next:=by show _≤s.next+1;omega
  have ho:s.inc.over=false:=hl.1
  unfold PC.fin;rw[ho,if_neg (by simp),if_pos h1];rfl
theorem PC.Live.cV(hl:c.Live s){e:Int}(he:e≠0):c.cV e s=⟨s.next,⟨e,(c.tok s.next).pos,false⟩⟩∧c.dq ⟨e,(c.tok s.next).pos,false⟩ (c.cV e s):=by
 have h1:c.cV e s=⟨s.next,⟨e,(c.tok s.next).pos,false⟩⟩:=by
  unfold PC.cV;rw[hl.1,if_neg (by simp),if_neg (by have:=hl.2;omega)]
 refine⟨h1, ?_⟩
 have ho:PS.over ⟨s.next,⟨e,(c.tok s.next).pos,false⟩⟩=true:=by simpa[PS.over] using he
 rw[h1]
 exact⟨by unfold PC.fin;rw[if_pos ho],fun h=>by rw[ho] at h;cases h⟩
end
def B2(t:ByteArray)(k:Tok)(f:Int):List Value:=[.string t,.int .u8 k.kind,.string k.text,.int .u8 k.dU,.int .i64 k.n,.int .i64 k.pos,.int .i64 f]
def zK(t:ByteArray)(k:Tok)(f:Int):Obj:=.cells (B2 t k f).toArray 72 (0,0)
def pX(t:ByteArray)(b:Nat)(k:Tok)(f:Int):Nat×Obj:=(b,zK t k f)
def PC.px(c:PC)(t:ByteArray)(b:Nat)(s:PS):Nat×Obj:=pX t b (c.tok s.next) (ix (c.tok s.next))
def CD(b:Nat):List PanicEntry:=[{ v:=.iface 39 (.pointer (some ⟨b,0,none⟩)),recovered:=false }]
def z3(f:PF)(u:Value)(B:cR):Prop:=match f.tok with
 | true=>∃b,u=.iface 39 (.pointer (some ⟨b,0,none⟩))∧B=[(b,.cells #[.string (⟨#[84,111,107,101,110,115]⟩:ByteArray),.int .i64 f.pos,qz f.e] 41 (0,0))]
 | false=>u=qz f.e∧B=[]
def dc(f:PF)(F0:cR)(e:Ending)(G:cR):Prop:=∃(b:Nat) (u:Value) (B X:cR),e=.panicked (CD b)∧z3 f u B∧G.Perm ((b,.cells #[.string ⟨#[]⟩,.int .i64 f.pos,u] 41 (0,0))::(B++(X++F0)))
theorem dc.perm{f:PF}{F0 F1 G H:cR}{e:Ending}(h:dc f F0 e G)(p:F0.Perm F1)(q:H.Perm G):dc f F1 e H :=
 let ⟨b,u,B,X,he,hu,hG⟩:=h;⟨b,u,B,X,he,hu,q.trans (hG.trans (((p.append_left X).append_left B).cons _))⟩
theorem dc.more{f:PF}{A F0 G:cR}{e:Ending}(h:dc f (A++F0) e G):dc f F0 e G :=
 let ⟨b,u,B,X,he,hu,hG⟩:=h;⟨b,u,B,X++A,he,hu,by rw[List.append_assoc];exact hG⟩
theorem dc.z4{f:PF}{x:Nat×Obj}{F0 G:cR}{e:Ending}(h:dc f F0 e G):dc f F0 e (x::G) :=
 let ⟨b,u,B,X,he,hu,hG⟩:=h;⟨b,u,B,x::X,he,hu,(hG.cons x).trans (cU fun z=>by simp only[cY,cW,c6];omega)⟩
theorem dc.pass{f:PF}{F0 G:cR}{e:Ending}{I:cS}{Q:Ending→cS→cR→Prop}(h:dc f F0 e G)(k:∀e',dc f F0 e' G→Q e' I G):∃ch,e=.panicked ch∧∃F2:cR,List.Perm G F2∧Q (.panicked ch) I F2 :=
 let ⟨b,u,B,X,he,hu,hG⟩:=h;⟨_,he,G,.refl _,k _ ⟨b,u,B,X,rfl,hu,hG⟩⟩
theorem dc.dy{f:PF}{F0 G:cR}{e:Ending}{I:cS}{Q:Ending→cS→cR→Prop}(L:cR)(h:dc f (L++F0) e G)(k:∀e' G',dc f F0 e' G'→Q e' I G'):∃ch,e=.panicked ch∧∃F2:cR,List.Perm G (L++F2)∧Q (.panicked ch) I F2:=by
 obtain⟨b,u,B,X,he,hu,hG⟩:=h
 exact⟨_,he,_,hG.trans (cU fun z=>by simp only[cY,cW,c6];omega),k _ _ ⟨b,u,B,X,rfl,hu,.refl _⟩⟩
def c9(c:PC)(t:ByteArray)(b:Nat){α:Type}(val:α→Value→cR→Prop)(F0:cR)(r:α×PS)(e:Ending)(I:cS)(G:cR):Prop :=
 (c.Live r.2∧∃v H,e=.returned v∧val r.1 v H∧G.Perm (c.px t b r.2::(H++F0)))∨∃f,c.dq f r.2∧dc f F0 e G
section
variable {c:PC} {t:ByteArray} {b:Nat} {α:Type} {val:α→Value→cR→Prop} {F0:cR} {r:α×PS}
theorem c9.use{g:Nat}{args:Array Value}{I:cS}{F:cR}{Q:Ending→cS→cR→Prop}(h:cX P g args I F (c9 c t b val F0 r))
  (k1:∀v H I' G,cS.le I I'→c.Live r.2→val r.1 v H→G.Perm (c.px t b r.2::(H++F0))→Q (.returned v) I' G) (k2:∀f e I' G,cS.le I I'→c.dq f r.2→dc f F0 e G→Q e I' G):cX P g args I F Q :=
 h.mono fun e I' G hl hd=>by
  rcases hd with ⟨h1,v,H,rfl,hv,hG⟩ | ⟨f,hd,hf⟩
  ·exact k1 v H I' G hl h1 hv hG
  ·exact k2 f e I' G hl hd hf
end
def CE(x:Unit)(v:Value)(H:cR):Prop:=v=.tuple #[]∧H=[]
def CF(x:Int)(v:Value)(H:cR):Prop:=v=.int .i64 x∧H=[]
def CG(x:ByteArray)(v:Value)(H:cR):Prop:=v=.string x∧H=[]
def nW(x:Px)(v:Value)(H:cR):Prop:=∃t:Nd,v=t.v∧t.px=x∧ef 29 false t H
end Go.Lx
