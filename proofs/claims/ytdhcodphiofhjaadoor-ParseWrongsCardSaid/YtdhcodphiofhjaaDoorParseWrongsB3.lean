import Derived.Test.YtdhcodphiofhjaaDoorParseWrongsB2
set_option linter.unusedVariables false
set_option linter.unusedSimpArgs false
set_option linter.unusedSectionVars false
set_option maxRecDepth 100000
namespace Go.Lx
open Go.Vc
theorem wH{C D:Prop}[Decidable C][Decidable D](h:C↔D){α:Type}(x y:α):(if C then x else y)=if D then x else y:=by
 by_cases hc:C
 ·rw[if_pos hc,if_pos (h.1 hc)]
 ·rw[if_neg hc,if_neg (fun hd=>hc (h.2 hd))]
structure fp (b z:ByteArray) (d:Int):Prop where
 d0:0≤d
 size:(z.size:Int)=b.size+d
 same:∀k,0≤k→k<(b.size:Int)→bt z (k+d)=bt b k
theorem fp.run{b z:ByteArray}{d:Int}(h:fp b z d){p:Int→Bool}{i:Int}(h0:0≤i)(h1:i≤b.size):dx p z (i+d)=dx p b i+d:=by
 have hE:=fm (p:=p) h1
 have hd:=h.d0
 have hs:=h.size
 refine vH (by omega) (by omega) (fun k g0 g1=>?_) fun hl=>?_
 ·rw[show k=k-d+d by omega,h.same (k-d) (by omega) (by omega)];exact pR (by omega) (by omega) h1
 ·rw[h.same _ (by omega) (by omega)];exact iv h1 (by omega)
theorem fp.byte{b z:ByteArray}{d:Int}(h:fp b z d){i:Int}(h0:0≤i):c8 z (i+d)=c8 b i:=by
 have hs:=h.size
 unfold c8
 by_cases hh:i<b.size
 ·rw[if_pos (by omega),if_pos hh,h.same i h0 hh]
 ·rw[if_neg (by omega),if_neg hh]
theorem fp.cut{b z:ByteArray}{d:Int}(h:fp b z d){i e:Int}(h0:0≤i)(h1:i≤e)(h2:e≤b.size):cut z (i+d) (e+d)=cut b i e:=by
 have hd:=h.d0
 have hs:=h.size
 have hc:=vI (s:=b) (s':=z) (i:=i) (i':=i+d) (n:=e-i) h0 (by omega) (by omega) (by omega) (by omega) fun k g0 g1=>by
  rw[show i+d+k=i+k+d by omega];exact h.same _ (by omega) (by omega)
 rwa [show i+(e-i)=e by omega,show i+d+(e-i)=e+d by omega] at hc
theorem fp.val{b z:ByteArray}{d:Int}(h:fp b z d){i:Int}(h0:0≤i)(h1:i≤b.size):eG z (i+d) 0=eG b i 0:=by
 have hd:=h.d0
 have hs:=h.size
 have hE:=fm (p:=dm) h1
 refine s5 (E:=dx dm b i) hE.1 hE.2 (by omega) (fun k g0 g1=>?_) (fun k g0 g1=>pR g0 g1 h1) (fun hl=>iv h1 hl) (fun hl=>?_) 0
 ·rw[show i+d+k=i+k+d by omega];exact h.same _ (by omega) (by omega)
 ·rw[show i+d+(dx dm b i-i)=dx dm b i+d by omega,h.same _ (by omega) (by omega)];exact iv h1 (by omega)
def TR.shift(d:Int):TR→TR
 | .ok t=>.ok ⟨t.kind,t.text,t.gX,t.n,t.pos+d⟩
 | .bad e p=>.bad e (p+d)
theorem iV{C:Prop}[Decidable C]{d:Int}{x y:TR}:TR.shift d (if C then x else y)=if C then x.shift d else y.shift d:=by split<;>rfl
theorem fp.num{b z:ByteArray}{d:Int}(h:fp b z d){i:Int}(h0:0≤i)(h1:i<b.size):jN z (i+d)=(jN b i).shift d:=by
 have hd:=h.d0
 have hs:=h.size
 have hE:=fm (p:=dm) (s:=b) (i:=i) (by omega)
 have hr:=h.run (p:=dm) (i:=i) h0 (by omega)
 have hv:=h.val (i:=i) h0 (by omega)
 generalize hEd:dx dm b i=E at hE hr
 have hby:=h.byte (i:=E) (by omega)
 have htE:eZ (c8 b E)≠1→E<b.size:=fun hne=>by
  rcases Int.lt_or_le E b.size with h | h
  ·exact h
  ·rw[show c8 b E=0 by unfold c8;rw[if_neg (by omega)]] at hne;exact absurd rfl hne
 have he2:∃e2,e2=(if eZ (c8 b E)=1 then E else E+1)∧(if eZ (c8 b E)=1 then E+d else E+d+1)=e2+d∧E≤e2∧e2≤b.size:=by
  refine⟨_,rfl, ?_⟩
  split
  ·exact⟨rfl,by omega⟩
  ·rename_i hne;have:=htE hne;exact⟨by omega,by omega⟩
 obtain⟨e2,he2,he2',hb1,hb2⟩:=he2
 have hb0:bt z (i+d)=bt b i:=h.same i h0 h1
 have hc:(e2+d<z.size∧(eu (bt z (e2+d))=true∨(65≤bt z (e2+d)∧bt z (e2+d)≤90)))↔(e2<b.size∧(eu (bt b e2)=true∨(65≤bt b e2∧bt b e2≤90))):=by
  rcases Int.lt_or_le e2 b.size with hh | hh
  ·rw[h.same e2 (by omega) hh]
   exact⟨fun x=>⟨hh,x.2⟩,fun x=>⟨by omega,x.2⟩⟩
  ·exact⟨fun x=>by omega,fun x=>by omega⟩
 have hdig:(E+d-(i+d)>1∧bt b i=48)↔(E-i>1∧bt b i=48):=by rw[show E+d-(i+d)=E-i by omega]
 unfold jN
 simp only[hr,hEd,hby,he2',←he2,hv,hb0,h.cut h0 (by omega:i≤e2) hb2]
 rw[iV]
 exact wH (or_congr (Iff.refl (eG b i 0>9223372036854775807)) (or_congr hdig hc)) _ _
theorem fp.read{b z:ByteArray}{d:Int}(h:fp b z d){i:Int}(h0:0≤i)(h1:i<b.size):tV z (i+d)=(tV b i).shift d:=by
 have hb0:bt z (i+d)=bt b i:=h.same i h0 h1
 have hn:mS z (i+d)=(mS b i).shift d:=by
  have hE:=fm (p:=eu) (s:=b) (i:=i) (by omega)
  unfold mS
  simp only[h.run (p:=eu) (i:=i) h0 (by omega),h.cut h0 hE.1 hE.2,show dx eu b i+d-(i+d)=dx eu b i-i by omega]
  rw[iV]
  rfl
 have hm:mT z (i+d)=(mT b i).shift d:=by
  have hr:=iy b i
  have hl:=lH h1
  have hmn:fW z (i+d)=fW b i:=by
   unfold fW
   rw[hb0,show i+d+1=i+1+d by omega,h.byte (i:=i+1) (by omega)]
  unfold mT
  rw[hmn,show i+d+fW b i=i+fW b i+d by omega,h.cut h0 (by omega) hl,iV]
  rfl
 unfold tV
 rw[hb0,h.num h0 h1,hn,hm,iV,iV]
theorem fp.over{b z:ByteArray}{d:Int}(h:fp b z d):∀(n:Nat) (r:Bool) (f:Int),0≤f→f≤b.size→(b.size-f).toNat=n→kr z r (f+d)=kr b r f+d:=by
 have hs:=h.size
 intro n
 induction n with
 | zero =>
   intro r f h0 h1 hn
   rw[iR (by omega),iR (by omega)]
 | succ n ih =>
   intro r f h0 h1 hn
   rw[fo (s:=b) (by omega),fo (s:=z) (by omega),h.same f h0 (by omega)]
   split
   ·rfl
   ·rw[show f+d+1=f+1+d by omega]
    exact ih _ (f+1) (by omega) (by omega) (by omega)
theorem fp.tok{b z:ByteArray}{d:Int}(h:fp b z d){f:Int}(h0:0≤f)(h1:f≤b.size):fT z (f+d)=(fT b f).shift d:=by
 have hs:=h.size
 have ho:=gn (s:=b) h1
 have hz:dj z (f+d)=dj b f+d:=h.over _ false f h0 h1 rfl
 rw[pQ,pQ,hz]
 by_cases he:dj b f=b.size
 ·rw[if_pos (by omega),if_pos he];rfl
 ·rw[if_neg (by omega),if_neg he,h.read (by omega) (by omega)]
end Go.Lx
namespace Go.Vc
open Go.ChangeShapes Go.WideShapes Go.ChangeAt Go.RowKit
def cS.all(w:World):cS:=⟨fun b=>w.heap[b]?,w.os,w.output⟩
theorem Sat.all(w:World):Sat (cS.all w) [] w:=⟨fun _ _ h=>h,fun _ _ h=>by simp at h,fun _ _ h=>by simp at h,List.nodup_nil,rfl,rfl⟩
structure iz (w w':World):Prop where
 heap:∀i,i<w.heap.size→w'.heap[i]? = w.heap[i]?
 os:w'.os=w.os
 out:w'.output=w.output
theorem iz.of{w w':World}{I:cS}{F:cR}(hl:cS.le (cS.all w) I)(hs:Sat I F w'):iz w w':=by
 refine⟨fun i hi=>?_,hs.env.1.trans hl.2.1,hs.env.2.trans hl.2.2⟩
 obtain⟨o,ho⟩:∃o,w.heap[i]? = some o:=⟨_,Array.getElem?_eq_getElem hi⟩
 rw[ho]
 exact hs.imm _ _ (hl.1 i o ho)
theorem iz.kept{w w':World}(h:iz w w')(may:MemPlace→Prop):w.keptBut w' may:=by
 refine⟨h.os,h.out,fun i hi=>?_⟩
 rw[h.heap i hi]
 cases w.heap[i]? with
 | none=>rfl
 | some o=>cases o with
   | cells c t fr=>exact⟨rfl,rfl,rfl,fun _ _=>rfl⟩
   | map es clock=>exact .inr ⟨rfl,rfl⟩
   | _=>rfl
theorem iz.frozen{w w':World}(h:iz w w'){a:Addr}(ha:a.block<w.heap.size):w'.frozen? a=w.frozen? a:=by
 unfold World.frozen?;rw[h.heap _ ha]
theorem s6{H:Type}{enc:TypeId×Value→H}{P:Program}{f:Func}{s:ChangeSpec}{apart fresh handsOn again:Bool}{W W':World}{args:Array Value}{v:Value}{ds gs:List (DataW H)}{before pa pv:List MemPlace}
  (hW:DataW.Whole enc P f.params.toList s.vars apart W args.toList ds gs before)
  (hres:∀(b:Nat) (sp:Nat→Bool) (hd:Bool),DataW.TrodAll enc P W' b sp hd f.resultTypes.toList (v.resultList f.resultTypes.size) (s.fn H (ds++gs)).results [])
  (hargs:∀sp:Nat→Bool,(∀p∈before,sp p.block=true)→DataW.TrodAll enc P W' 0 sp true f.params.toList args.toList (s.fn H (ds++gs)).args pa)
  (hvars:∀sp:Nat→Bool,(∀p∈before,sp p.block=true)→DataW.TrodVars enc P W' sp s.vars (s.fn H (ds++gs)).vars pv)
  (hps:before=pa++pv) (hk:iz W W')
  (hok:∀(j:Nat) (t:TypeId) (r:Value),f.resultTypes[j]? = some t→(v.resultList f.resultTypes.size)[j]? = some r→Value.okWide P W' .any 0 t r) :
  s.post enc P f apart fresh handsOn again W args v W':=by
 have hold:∀p∈before,(fun b=>decide (b<W.heap.size)) p.block=true:=fun p hp=>by simpa using hW.lt p hp
 have hlt:∀p∈before,p.block<W.heap.size:=fun p hp=>hW.lt p hp
 refine⟨ds,gs,before,[],pa,pv,hW,hres _ _ _,hargs _ hold,hvars _ hold,World.keptBut_mono (fun p hp=>⟨hp, ?_⟩) (hk.kept (·∈before)),fun _=>?_⟩
 ·rw[hps,List.mem_append] at hp
  exact Or.inr hp
 ·obtain⟨_,_,_,_,_,hz,hn⟩:=hW
  refine⟨hok,_,_,([]++pa)++pv,⟨[]++pa,pv,trodAll_append (hargs _ (fun _ _=>rfl)) (hres _ _ _),hvars _ (fun _ _=>rfl),rfl, ?_, ?_⟩, ?_⟩
  ·intro b off hp
   have hp':MemPlace.cell b off∈before:=by rw[hps];simpa using hp
   rw[hk.frozen (hlt _ hp')]
   exact hz b off hp'
  ·intro ha
   have:=hn ha
   rw[hps] at this
   simpa using this
  ·intro p hp _
   rw[hps]
   simpa using hp
end Go.Vc
namespace Go.Lx
open Go.Vc
structure PQ where
 c:PC
 a:Option Addr
 cap:Nat
variable {q:PQ} {b:Nat} {s:PS} {I:cS}
theorem oK{c:PC}{s:PS}(h:(c.now s).kind≠0):s.next<c.l.length:=by
 unfold PC.now at h
 split at h
 ·exact absurd rfl h
 ·rename_i h1
  simp only[Bool.or_eq_true,decide_eq_true_eq,not_or] at h1
  omega
theorem oL{c:PC}{s:PS}{w:ByteArray}(h:c.eM w s=true):s.next<c.l.length:=by
 refine oK fun hk=>?_
 unfold PC.eM at h
 rw[hk] at h
 simp at h
theorem qt{c:PC}{s:PS}:∀{ws:List ByteArray} {i:Int},0≤i→0≤c.gu s ws i→s.next<c.l.length∧i≤c.gu s ws i∧c.gu s ws i<i+ws.length
 | [],i,h0,h=>by rw[PC.gu] at h;omega
 | w::r,i,h0,h=>by
   rw[PC.gu] at h ⊢
   split at h
   ·rename_i hw
    rw[if_pos hw]
    exact⟨oL hw,Int.le_refl _,by rw[List.length_cons];omega⟩
   ·rename_i hw
    rw[if_neg hw]
    have:=qt (ws:=r) (i:=i+1) (by omega) h
    rw[List.length_cons];exact⟨this.1,by omega,by omega⟩
theorem fq{c:PC}{s:PS}{ws:List ByteArray}(h:0≤c.any ws s):s.next<c.l.length∧c.any ws s<ws.length:=by
 have:=qt (Int.le_refl 0) h
 exact⟨this.1,by have:=this.2.2;unfold PC.any;omega⟩
end Go.Lx
namespace Go.Lx
open Go.Vc
def Small(l:List Px):Prop:=∀x∈l,x.size≤1048576
theorem qM.Aa{α:Type}{I:cS}{G:cR}{z:Nat}{f:α→List Value}{a:Option Addr}{n:Nat}{l:List α}(h:qM I G z f a n l){i:Int}(h0:0≤i)(h1:i<n) :
  ∃ad x,a=some ad∧l[i.toNat]? = some x∧Rd I G (ad.add (Int.toNat i*z)) (f x)∧x∈l:=by
 obtain⟨ad,x,g1,g2,g3⟩:=h.at h0 h1
 exact⟨ad,x,g1,g2,g3,List.mem_of_getElem? g2⟩
section
variable {c:PC} {s:PS}
theorem oM(e:Int):(c.c5 e s).next=s.next:=by
 unfold PC.c5;split
 ·rfl
 ·split<;>rfl
theorem rR(d:Int):(c.dg d s).next=s.next:=by
 unfold PC.dg;split
 ·exact oM _
 ·rfl
theorem s7{e:Int}(he:e≠0)(hl:s.next<c.l.length):(c.c5 e s).over=true:=by
 unfold PC.c5
 split
 ·assumption
 ·rw[if_neg (by omega)]
  simpa[PS.over] using he
theorem j8{d:Int}(hl:s.next<c.l.length)(h:(c.dg d s).over=false):d+1≤24∧c.dg d s=s:=by
 unfold PC.dg at h ⊢
 split
 ·rename_i hd
  rw[if_pos hd,s7 (by decide) hl] at h
  cases h
 ·rename_i hd
  exact⟨by omega,rfl⟩
def Up(c:PC)(s s':PS):Prop:=s.next≤s'.next∧(s.next≤c.l.length→s'.next≤c.l.length)
theorem Up.refl:Up c s s:=⟨Nat.le_refl _,fun h=>h⟩
theorem Up.trans{a b d:PS}(h:Up c a b)(h':Up c b d):Up c a d:=⟨Nat.le_trans h.1 h'.1,fun h0=>h'.2 (h.2 h0)⟩
theorem Up.inc(hl:s.next<c.l.length):Up c s s.inc:=⟨Nat.le_succ _,fun _=>hl⟩
theorem Up.of_eq{s':PS}(h:s'.next=s.next):Up c s s':=⟨by omega,fun _=>by omega⟩
theorem Up.c5(e:Int):Up c s (c.c5 e s):=.of_eq (oM e)
theorem Up.dg(d:Int):Up c s (c.dg d s):=.of_eq (rR d)
theorem Up.take(w:ByteArray):Up c s (c.take w s).2:=by
 unfold PC.take;split
 ·rename_i h;exact .inc (oL h)
 ·exact .c5 _
theorem Up.literal:Up c s (c.literal s).2:=by
 unfold PC.literal
 split
 ·rename_i h;exact .inc (oK (by rw[h];decide))
 ·split
  ·rename_i h;exact .inc (oK (by rw[h.1];decide))
  ·split
   ·rename_i h;exact .inc (oK (by rw[h.1];decide))
   ·exact .refl
end
def iI(c:PC){α:Type}(f:PS→α×PS):Prop:=∀s,Up c s (f s).2
section
variable {c:PC} {nx:Lv} (hx:iI c nx.ex) (hu:iI c nx.un)
include hx
theorem Up.kids:∀(n:Nat) (f:Bool) (s:PS),Up c s (c.eg nx n f s).2
 | 0,f,s=>.refl
 | n+1,f,s=>by
   rw[PC.eg]
   refine Up.trans ?_ (Up.kids n false _)
   refine Up.trans ?_ (hx _)
   split
   ·exact .refl
   ·exact .take _
theorem Up.call{d kind oper gX pos:Int}{many:Nat}{s:PS}(hl:s.next<c.l.length):Up c s (c.call nx d kind oper gX pos many s).2:=by
 unfold PC.call
 split
 ·exact .dg _
 ·rename_i h
  obtain⟨_,he⟩:=j8 hl (by simpa using h)
  rw[he]
  exact ((Up.inc hl).trans (.take _)).trans ((Up.kids hx _ _ _).trans (.take _))
theorem Up.rest(d:Int):iI c (c.rest nx d):=fun s=>by
 unfold PC.rest
 split
 ·rename_i h
  have hl:=oL h
  split
  ·exact (Up.inc hl).trans (.c5 _)
  ·rename_i h2
   exact (Up.inc hl).trans (.inc (fq (Int.not_lt.1 h2)).1)
 ·split
  ·rename_i h
   have hl:=oL h
   split
   ·exact .dg _
   ·rename_i h2
    obtain⟨_,he⟩:=j8 hl (by simpa using h2)
    rw[he]
    exact (Up.inc hl).trans ((hx _).trans (.take _))
  ·exact .c5 _
theorem Up.one(d:Int):iI c (c.one nx d):=fun s=>by
 unfold PC.one
 split
 ·exact .literal
 ·split
  ·rename_i h;exact .inc (oK (by rw[h];decide))
  ·split
   ·rename_i h;exact .inc (fq h).1
   ·split
    ·rename_i h;exact .call hx (fq h).1
    ·split
     ·rename_i h;exact .call hx (fq h).1
     ·exact Up.rest hx d s
include hu
theorem Up.unary(d:Int):iI c (c.unary nx d):=fun s=>by
 unfold PC.unary
 split
 ·exact Up.one hx d s
 ·rename_i h
  have hl:=(fq (c:=c) (s:=s) (ws:=lL) (by omega)).1
  split
  ·exact .dg _
  ·rename_i h2
   obtain⟨_,he⟩:=j8 hl (by simpa using h2)
   rw[he]
   exact (Up.inc hl).trans (hu _)
end
theorem Up.gI{c:PC}{ws:List ByteArray}{o:Int}{sub:PS→Px×PS}(h:iI c sub):∀(m:Nat) (n:Px) (s:PS),Up c s (c.gI ws o sub m n s).2
 | 0,n,s=>.refl
 | m+1,n,s=>by
   rw[PC.gI]
   split
   ·exact .refl
   ·rename_i h2
    exact ((Up.inc (fq (Int.not_lt.1 h2)).1).trans (h _)).trans (Up.gI h m _ _)
theorem Up.loop{c:PC}{ws:List ByteArray}{o:Int}{sub:PS→Px×PS}(h:iI c sub):iI c (c.loop ws o sub):=fun s=>(h s).trans (.gI h _ _ _)
section
variable {c:PC} {nx:Lv} (hx:iI c nx.ex) (hu:iI c nx.un) (d:Int)
include hx hu
theorem Up.product:iI c (c.product nx d):=Up.loop (Up.unary hx hu d)
theorem Up.sum:iI c (c.sum nx d):=Up.loop (Up.product hx hu d)
theorem Up.compare:iI c (c.compare nx d):=fun s=>by
 unfold PC.compare
 have h1:=Up.sum hx hu d s
 show Up c s (if c.any nb (c.sum nx d s).2<0 then c.sum nx d s else _).2
 split
 ·exact h1
 ·rename_i h2
  exact (h1.trans (.inc (fq (Int.not_lt.1 h2)).1)).trans (Up.sum hx hu d _)
theorem Up.and:iI c (c.and nx d):=Up.loop (Up.compare hx hu d)
theorem Up.or:iI c (c.or nx d):=Up.loop (Up.and hx hu d)
theorem Up.expr:iI c (c.expr nx d):=fun s=>by
 unfold PC.expr
 have h1:=Up.or hx hu d s
 show Up c s (if c.eM _ (c.or nx d s).2 then _ else _:Px×PS).2
 split
 ·rename_i h2
  have hl:=oL h2
  show Up c s (if (c.dg d (c.or nx d s).2).over then _ else _:Px×PS).2
  split
  ·exact h1.trans (.dg _)
  ·rename_i h3
   obtain⟨_,he⟩:=j8 hl (by simpa using h3)
   rw[he]
   exact h1.trans ((Up.inc hl).trans ((hx _).trans ((Up.take _).trans (hx _))))
 ·exact h1
end
theorem Up.lvl{c:PC}:∀(k:Nat) (d:Int),iI c (c.lvl k d).ex∧iI c (c.lvl k d).un
 | 0,d=>⟨Up.expr (fun s=>.refl) (fun s=>.refl) d,Up.unary (fun s=>.refl) (fun s=>.refl) d⟩
 | k+1,d=>⟨Up.expr (Up.lvl k (d+1)).1 (Up.lvl k (d+1)).2 d,Up.unary (Up.lvl k (d+1)).1 (Up.lvl k (d+1)).2 d⟩
end Go.Lx
namespace Go.Lx
open Go.Vc
section
variable {q:PQ} {b:Nat} {s:PS} {I:cS} {F F0:cR}
end
end Go.Lx
namespace Go.Lx
open Go.Vc
section
end
section
end
section
variable {q:PQ} {nx:Lv} {d:Int} (h0:0≤d) (h1:d≤24)
include h0 h1
end
end Go.Lx
namespace Go.Lx
open Go.Vc
section
variable {q:PQ} {nx:Lv} {d:Int} (h0:0≤d) (h1:d≤24)
include h0 h1
end
end Go.Lx
namespace Go.Lx
open Go.Vc
section
variable {c:PC}
end
end Go.Lx
namespace Go.Lx
open Go.Vc
theorem jt:jG.px=fs:=by simp only[jG,Nd.px,Nd.rD];rfl
section
variable {N Pl:Type} (z:Nat) (f:N→List Value) (E:Nat) (p:N→Pl) (ok:cS→N→Prop) (q:PQ) (b:Nat) (w:ByteArray) (most:Nat) (one:PS→Pl×PS) (s0:PS) (F0:cR)
end
section
variable {N Pl:Type} {z:Nat} {f:N→List Value} {E:Nat} {p:N→Pl} {ok:cS→N→Prop} {q:PQ} {b:Nat} {w:ByteArray} {most:Nat} {one:PS→Pl×PS} {s0:PS} {F0:cR} {I J:cS} {F:cR}
end
end Go.Lx
namespace Go.Lx
open Go.Vc
section
variable {c:PC}
end
section
variable {N Pl:Type} {z:Nat} {f:N→List Value} {E:Nat} {p:N→Pl} {ok:cS→N→Prop} {q:PQ} {b:Nat} {w:ByteArray} {most:Nat} {one:PS→Pl×PS} {s0:PS} {F0:cR} {I J:cS} {F:cR} {a:Option Addr} {n c m:Nat}
end
end Go.Lx
namespace Go.Lx
open Go.Vc
theorem cV.clean{P:Program}{f:FuncId}{args:Array Value}{I:cS}{F:cR}{v:Value}(h:cV P f args I F fun e I' G=>e=.returned v∧∃H,G.Perm (H++F)):cV P f args I F (k8 v F) :=
 h.keep fun e I' G w hl hs ⟨he,H,hp⟩=>⟨I',F,cS.le_refl _,(hs.perm hp).drop,he,rfl⟩
def k9.mV(d:k9):Prop:=Small d.yz
def ix.mV(r:ix):Prop:=r.when.size≤1048576∧r.dos.length≤1048576∧∀d∈r.dos,d.mV
def fX.mV(x:fX):Prop:=x.rules.length≤1048576∧∀r∈x.rules,r.mV
def vJ{α:Type}(f:α→Int):List α→Int
 | []=>0
 | x::r=>f x+vJ f r
def k9.jS(d:k9):Int:=1+d.side.size+d.qty.size+d.price.size+d.value.size
def ix.jS(r:ix):Int:=1+r.when.size+vJ k9.jS r.dos
def fX.jS(x:fX):Int:=1+vJ ix.jS x.rules
def gB.jS(r:gB):Int:=1+r.init.size
def gO.jS(s:gO):Int:=vJ gB.jS s.regs+s.slots.length+vJ fX.jS s.states
structure gO.mV (s:gO):Prop where
 regs:s.regs.length≤1048576
 qq:∀r∈s.regs,r.init.size≤1048576
 slots:s.slots.length≤1048576
 states:s.states.length≤1048576
 state:∀x∈s.states,x.mV
 all:s.jS≤1048576
def iG.jS(d:iG):Int:=d.p.jS
def dQ.jS(r:dQ):Int:=r.p.jS
def dn.jS(r:dn):Int:=r.p.jS
def fC.jS(r:fC):Int:=r.p.jS
structure gO.wI (s:gO):Prop where
 regs:s.regs.length≤1048576
 qq:∀r∈s.regs,r.init.size≤1048576
 slots:s.slots.length≤1048576
 states:s.states.length≤1048576
 state:∀x∈s.states,x.mV
end Go.Lx
namespace Go.Vc
end Go.Vc
namespace Go.Lx
open Go.Vc
namespace Px
end Px
def yB(z n:Nat)(a:Option Addr)(c:Nat)(A:cR):Prop :=
 ∃b cells e,a=some ⟨b,0,none⟩∧A=[(b,Obj.cells cells e (0,0))]∧c=n+2∧cells[n*z+(z-1)]? = some (.int .i64 (-771))
def nc{α:Type}(R:Bool)(z:Nat)(f:α→List Value)(E:Nat)(O:α→cR→Prop)(a:Option Addr)(n c:Nat)(l:List α)(H:cR):Prop :=
 ∃A hs,H=A++dy n hs∧Acc z f E a n c l A∧(R=true→yB z n a c A)∧∀(i:Nat) (k:α),l[i]? = some k→O k (hs i)
def gg(R:Bool)(d:iG)(H:cR):Prop:=∃H1 H2 H3 H4,H=H1++(H2++(H3++H4))∧dI 29 R d.side H1∧dI 29 R d.qty H2∧dI 29 R d.price H3∧dI 29 R d.value H4
def kS(R:Bool)(r:fC)(H:cR):Prop:=dI 29 R r.init H
def qu(r:dY)(H:cR):Prop:=H=[]
def ju(R:Bool)(r:dQ)(H:cR):Prop:=∃H1 H2,H=H1++H2∧dI 29 R r.when H1∧nc R 36 iG.enc 140 (gg R) r.a r.dos.length r.c r.dos H2
def ib(R:Bool)(x:dn)(H:cR):Prop:=nc R 10 dQ.enc 128 (ju R) x.a x.rules.length x.c x.rules H
def mn(R:Bool)(s:gQ)(H:cR):Prop:=∃H1 H2 H3,H=H1++(H2++H3)∧nc R 11 fC.enc 92 (kS R) s.ra s.regs.length s.rc s.regs H1∧nc R 2 dY.enc 97 qu s.sa s.slots.length s.sc s.slots H2 ∧
 nc R 3 dn.enc 53 (ib R) s.ta s.states.length s.tc s.states H3
theorem nc.ok{α:Type}{R:Bool}{z E n c:Nat}{f:α→List Value}{O:α→cR→Prop}{a:Option Addr}{l:List α}{H:cR}(h:nc R z f E O a n c l H)(hz:∀x,(f x).length=z){I:cS}{G:cR}{K:α→Prop}(hG:∀x,x∈H→x∈G)
  (hk:∀x H',O x H'→(∀y,y∈H'→y∈G)→K x):qM I G z f a n l∧∀x∈l,K x:=by
 obtain⟨A,hs,rfl,hA, -,hO⟩:=h
 refine⟨hA.z5 hz I fun x hx=>hG x (List.mem_append_left _ hx),fun x hx=>?_⟩
 obtain⟨i,hi,rfl⟩:=List.mem_iff_getElem.1 hx
 have hn:=hA.1
 exact hk _ _ (hO i _ (List.getElem?_eq_getElem hi)) fun y hy=>hG y (List.mem_append_right _ (pK (by omega) hy))
theorem gg.ok{R:Bool}{d:iG}{H:cR}(h:gg R d H){I:cS}{G:cR}(hG:∀x,x∈H→x∈G):d.Ok I G:=by
 obtain⟨H1,H2,H3,H4,rfl,h1,h2,h3,h4⟩:=h
 simp only[List.mem_append] at hG
 exact⟨h1.ok fun x hx=>hG x (.inl hx),h2.ok fun x hx=>hG x (.inr (.inl hx)),h3.ok fun x hx=>hG x (.inr (.inr (.inl hx))),h4.ok fun x hx=>hG x (.inr (.inr (.inr hx)))⟩
theorem kS.ok{R:Bool}{d:fC}{H:cR}(h:kS R d H){I:cS}{G:cR}(hG:∀x,x∈H→x∈G):d.Ok I G:=dI.ok h hG
theorem ju.ok{R:Bool}{r:dQ}{H:cR}(h:ju R r H){I:cS}{G:cR}(hG:∀x,x∈H→x∈G):r.Ok I G:=by
 obtain⟨H1,H2,rfl,h1,h2⟩:=h
 obtain⟨g1,g2⟩:=h2.ok (I:=I) (G:=G) (K:=fun d=>d.Ok I G) (fun _=>rfl) (fun x hx=>hG x (List.mem_append_right _ hx)) fun x H' hO hs=>gg.ok hO hs
 exact⟨h1.ok fun x hx=>hG x (List.mem_append_left _ hx),g1,g2⟩
theorem ib.ok{R:Bool}{r:dn}{H:cR}(h:ib R r H){I:cS}{G:cR}(hG:∀x,x∈H→x∈G):r.Ok I G :=
 nc.ok h (fun _=>rfl) hG fun x H' hO hs=>ju.ok hO hs
theorem mn.ok{R:Bool}{s:gQ}{H:cR}(h:mn R s H){I:cS}{G:cR}(hG:∀x,x∈H→x∈G):s.Ok I G:=by
 obtain⟨H1,H2,H3,rfl,h1,h2,h3⟩:=h
 simp only[List.mem_append] at hG
 obtain⟨a1,a2⟩:=h1.ok (I:=I) (G:=G) (K:=fun d=>d.Ok I G) (fun _=>rfl) (fun x hx=>hG x (.inl hx)) fun x H' hO hs=>kS.ok hO hs
 obtain⟨b1, -⟩:=h2.ok (I:=I) (G:=G) (K:=fun d=>True) (fun _=>rfl) (fun x hx=>hG x (.inr (.inl hx))) fun x H' hO hs=>trivial
 obtain⟨c1,c2⟩:=h3.ok (I:=I) (G:=G) (K:=fun d=>d.Ok I G) (fun _=>rfl) (fun x hx=>hG x (.inr (.inr hx))) fun x H' hO hs=>ib.ok hO hs
 exact⟨a1,a2,b1,c1,c2⟩
def Part{α:Type}(z:Nat)(f:α→List Value)(E:Nat)(O:α→cR→Prop)(a:Option Addr)(n c:Nat)(l:List α)(F F':cR):Prop :=
 ∃A hs,Acc z f E a n c l A∧(∀(i:Nat) (k:α),l[i]? = some k→O k (hs i))∧F'.Perm (A++(dy l.length hs++F))
theorem Part.nil{α:Type}{z E:Nat}{f:α→List Value}{O:α→cR→Prop}{F:cR}:Part z f E O none 0 0 ([]:List α) F F:=⟨[],fun _=>[],Acc.nil,fun i k h=>by simp at h,.refl _⟩
theorem uL{α:Type}{z E n c:Nat}{f:α→List Value}{O:α→cR→Prop}{a:Option Addr}{l:List α}{F:cR}{hs:Nat→cR}{x:α}{Hx A' G:cR}(hA':Acc z f E a n c (l++[x]) A')(hk:∀(i:Nat) (k:α),l[i]? = some k→O k (hs i))(hx:O x Hx)
  (hG:G.Perm (A'++(Hx++(dy l.length hs++F)))):Part z f E O a n c (l++[x]) F G:=by
 refine⟨A',fun j=>if j<l.length then hs j else Hx,hA',fun j k hj=>?_, ?_⟩
 ·show O k (if j<l.length then hs j else Hx)
  rw[List.getElem?_append] at hj
  split at hj
  ·rename_i hlt';rw[if_pos hlt'];exact hk j k hj
  ·rename_i hge
   have hj':=List.mem_of_getElem? hj
   rw[List.mem_singleton] at hj'
   rw[if_neg hge,hj'];exact hx
 ·rw[List.length_append,List.length_singleton,kM,if_neg (Nat.lt_irrefl _),rG (hs':=hs) fun j hj=>if_pos hj]
  exact hG.trans (cT fun z=>by simp only[cX];omega)
theorem gY{P:Program}{α:Type}{z:Nat}{f:α→List Value}(hz:∀x,(f x).length=z){t ty e:TypeId}{zv:Value}{by':Nat}(ht:P.underlying t=some (.slice e))(hi:(P.info? e).map (fun i=>(i.zero,i.size,i.bytes))=some (some zv,z,by'))(hzs:zv.cells.size=z)(hb:1≤by')
  {a:Option Addr} {n c:Nat} {l:List α} {O:α→cR→Prop} {F F1 F2 R0 Hx:cR} {x:α} (h:Part z f e O a n c l F F1) (h1:∀u∈f x,u.oneCell'=true) {b:Nat} {I:cS} {o:Obj} (ho:o=.cells (f x).toArray e (0,0)) (hbm:I b=some o)
  (hx:O x Hx) (hF2:F2.Perm (R0++(Hx++F1))) (hfit:(l.length+1)*by'≤140737488355328) :
  dW P (Builtin.append_ #[t,t] ty #[.slice a n c,.slice (some ⟨b,0,none⟩) 1 1]) I F2 fun v I' G=>∃a' n' c',v=.slice a' n' c'∧∃F3,G.Perm (R0++F3)∧Part z f e O a' n' c' (l++[x]) F F3:=by
 obtain⟨A,hs,hA,hk,hp⟩:=h
 subst ho
 refine dW.perm (dW.mono (lz hz ht hi hzs hb hA (xs:=[x]) (fun y hy=>by rw[List.mem_singleton] at hy;rw[hy];exact h1) (by simp) rfl ?_ (by simpa using hfit) (F:=R0++(Hx++(dy l.length hs++F)))) fun v I2 G hI2 ⟨a',n',c',A',hv,hA',hG',_⟩=>?_) ?_
 ·refine⟨rfl,_,_,_,.inl hbm,fun j hj=>?_⟩
  simp
 ·subst hG'
  exact⟨a',n',c',hv,A'++(Hx++(dy l.length hs++F)),cT fun z=>by simp only[cX];omega,uL hA' hk hx (.refl _)⟩
 ·refine hF2.trans ?_
  exact cT fun z=>by have:=qi hp z;simp only[cX] at this ⊢;omega
section
variable (s:gQ) (hl:s.p.wI) {I:cS} {F:cR} (hok:s.Ok I F)
include hl hok
end
end Go.Lx
namespace Go.Lx
open Go.Vc
section
variable (s:gQ) (hl:s.p.wI) {I:cS} {F:cR} (hok:s.Ok I F)
include hl hok
end
end Go.Lx
namespace Go.Lx
open Go.Vc
section
variable (s:gQ) (hl:s.p.wI) {I:cS} {F:cR} (hok:s.Ok I F)
include hl hok
end
end Go.Lx
namespace Go.Lx
open Go.Vc
end Go.Lx
namespace Go.Vc
section
variable {P:Program} {f:FuncId} {args:Array Value} {I:cS} {F:cR} {R:Value→cS→Prop}
end
def qv(P:Program)(t:TypeId):Bool:=match P.underlying t with
 | some (.interface _)=>true
 | _=>false
theorem pS{P:Program}{t:TypeId}(h:qv P t=true):∃ms,P.underlying t=some (.interface ms):=by
 unfold qv at h
 split at h
 ·rename_i ht;exact⟨_,ht⟩
 ·cases h
theorem oN{P:Program}{t:TypeId}(h:qv P t=true){x:Operand}:eJ P .eql t x (.const .nilIface) .nilIface .nilIface true:=by
 obtain⟨ms,ht⟩:=pS h
 intro w
 have he:(Op.equal t .nilIface .nilIface).run P w=.ok true w:=by
  show (Op.equalIn (9999+1) t .nilIface .nilIface).run P w=_
  unfold Op.equalIn
  simp[Sem.run_bind,dq ht]
 simp[eqGuard,binOp,Sem.run_bind,he]
theorem mo{P:Program}{t:TypeId}(h:qv P t=true){x:Operand}{d:TypeId}{v:Value}:eJ P .eql t x (.const .nilIface) (.iface d v) .nilIface false:=by
 obtain⟨ms,ht⟩:=pS h
 intro w
 have he:(Op.equal t (.iface d v) .nilIface).run P w=.ok false w:=by
  show (Op.equalIn (9999+1) t (.iface d v) .nilIface).run P w=_
  unfold Op.equalIn
  simp[Sem.run_bind,dq ht]
 simp[eqGuard,binOp,Sem.run_bind,he]
end Go.Vc
namespace Go.Lx
open Go.Vc
abbrev lM(e:Int):Value:=.iface 34 (.int .i64 e)
def s8(I:cS)(call:ByteArray)(pos:Int)(err v:Value):Prop:=∃b,v=.iface 39 (.pointer (some ⟨b,0,none⟩))∧I b=some (.cells #[.string call,.int .i64 pos,err] 41 (0,0))
theorem s8.mono{I J:cS}{call:ByteArray}{pos:Int}{err v:Value}(h:s8 I call pos err v)(hl:cS.le I J):s8 J call pos err v:=let ⟨b,h1,h2⟩:=h;⟨b,h1,hl.at h2⟩
theorem xg(b n:Nat):(⟨b,0,none⟩:Addr).add n=⟨b,n,none⟩:=by unfold Addr.add;split<;>simp_all
end Go.Lx
namespace Go.As
open Go.RowKit Go.Extern.Stop Go.Stop Go.Extern
theorem zo(z:Sem Value)(f:TypeId→Addr→Nat→Nat→Sem Value)(v:Value) :
  ReflectliteValue.method z f #[v]=(do match ←ReflectliteValue.parts v with | none=>z | some (t,a,fl)=>f t a fl (fl % 32)):=rfl
theorem z7(v x:Value):ReflectliteValue.set #[v,x]=(do
  let (some (dst,a,fl),some (src,b,_)):=(←ReflectliteValue.parts v,←ReflectliteValue.parts x)
   | unsupported (.noEntry "extern/(internal/reflectlite.Value).Set.zeroValue")
  if fl / ReflectliteValue.flagAddr % 2==0 then unsupported (.noEntry "extern/(internal/reflectlite.Value).Set.unaddressable")
  let val ←loadVar src b
  if ←Rtype.directlyAssignable dst src then storeVar dst a val
  else if ←Rtype.implements dst src then
   if (←Rtype.kind src)==20 then
    match val with
    | .nilIface=>unsupported (.noEntry "extern/reflectlite: a nil value of one interface type handed on as a value of another")
    | _=>storeVar dst a val
   else storeVar dst a (.iface src val)
  else panicString ("reflectlite.Set: value of type " ++ (←Rtype.spelt src) ++ " is not assignable to type " ++ (←Rtype.spelt dst))
  pure (.tuple #[])):=rfl
theorem oO(h:Value)(w:World):(Go.method 281 110 (.agg #[h]) "Kind").run Go.Proofs.Tryd.prog w=.ok (82,h) w:=by kernel_rfl
theorem oP(h:Value)(w:World):(Go.method 281 110 (.agg #[h]) "Elem").run Go.Proofs.Tryd.prog w=.ok (95,.agg #[h]) w:=by kernel_rfl
theorem iW(h:Value)(w:World):(Go.method 281 110 (.agg #[h]) "Implements").run Go.Proofs.Tryd.prog w=.ok (96,.agg #[h]) w:=by kernel_rfl
theorem dE(h:Value)(w:World):(Go.method 281 110 (.agg #[h]) "AssignableTo").run Go.Proofs.Tryd.prog w=.ok (93,.agg #[h]) w:=by kernel_rfl
theorem vK(t:Addr)(w:World):(ReflectliteValue.unpack (.iface 59 (.pointer (some t)))).run Go.Proofs.Tryd.prog w=.ok (.agg #[.pointer (some ⟨1,59,none⟩),.pointer (some ⟨w.heap.size,0,none⟩),.int .u64 150]) (w.alloc (.cells #[.pointer (some t)] 59)):=by kernel_rfl
theorem yC(a:Addr)(w:World):(ReflectliteValue.methodAny (ReflectliteValue.valueError "reflectlite.Value.Type" 0) (fun t _ _ _=>ReflectliteType.toType t) #[(.agg #[.pointer (some ⟨1,59,none⟩),.pointer (some a),.int .u64 150])]).run Go.Proofs.Tryd.prog w=.ok (.iface 110 (.agg #[.pointer (some ⟨1,59,none⟩)])) w:=by kernel_rfl
theorem xU(w:World):((ReflectliteType.abiMethod fun t=>(fun a:Nat=>Value.int IntKind.u8 (a:Int)) <$> Rtype.kind t) #[.pointer (some ⟨1,59,none⟩)]).run Go.Proofs.Tryd.prog w=.ok (.int .u8 22) w:=by kernel_rfl
theorem yD(w:World):((ReflectliteType.abiMethod fun t=>(fun a:Nat=>Value.int IntKind.u8 (a:Int)) <$> Rtype.kind t) #[.pointer (some ⟨1,39,none⟩)]).run Go.Proofs.Tryd.prog w=.ok (.int .u8 22) w:=by kernel_rfl
theorem tW(a:Addr)(w:World):(ReflectliteValue.parts (.agg #[.pointer (some ⟨1,59,none⟩),.pointer (some a),.int .u64 150])).run Go.Proofs.Tryd.prog w=.ok (some (59,a,150)) w:=by kernel_rfl
theorem tX:Go.Proofs.Tryd.prog.underlying 59=some (.pointer 39):=by kernel_rfl
theorem xV(a p:Addr)(W:World)(ha:W.cell? a=some (.pointer (some p))) :
  (ReflectliteValue.method (ReflectliteValue.valueError "reflectlite.Value.IsNil" 0) ReflectliteValue.isNil #[(.agg #[.pointer (some ⟨1,59,none⟩),.pointer (some a),.int .u64 150])]).run Go.Proofs.Tryd.prog W=.ok (.bool false) W:=by
 rw[zo]
 simp only[Sem.run_bind,tW,Result.andThen]
 simp[ReflectliteValue.isNil,loadVar,isAgg,underlying,tX,ha,Result.andThen]
theorem yE(w:World):(ReflectliteType.method ReflectliteType.elem #[.agg #[.pointer (some ⟨1,59,none⟩)]]).run Go.Proofs.Tryd.prog w=.ok (.iface 110 (.agg #[.pointer (some ⟨1,39,none⟩)])) w:=by kernel_rfl
theorem yF(w:World):(ReflectliteType.relation "Implements" ReflectliteType.implements_ #[.agg #[.pointer (some ⟨1,39,none⟩)],.iface 110 (.agg #[.pointer (some ⟨1,31,none⟩)])]).run Go.Proofs.Tryd.prog w=.ok (.bool true) w:=by kernel_rfl
theorem nr(v:Value)(w:World):(ReflectliteType.typeOf #[.iface 39 v]).run Go.Proofs.Tryd.prog w=.ok (.iface 110 (.agg #[.pointer (some ⟨1,39,none⟩)])) w:=by kernel_rfl
theorem wJ(w:World):(Rtype.elem? 59).run Go.Proofs.Tryd.prog w=.ok (some 39) w:=by kernel_rfl
theorem Ab(p:Addr)(w:World):(ReflectliteValue.mk 39 p ReflectliteValue.flagAddr).run Go.Proofs.Tryd.prog w=.ok (.agg #[.pointer (some ⟨1,39,none⟩),.pointer (some p),.int .u64 406]) w:=by kernel_rfl
theorem xW(a p:Addr)(W:World)(ha:W.cell? a=some (.pointer (some p))) :
  (ReflectliteValue.method (ReflectliteValue.valueError "reflectlite.Value.Elem" 0) ReflectliteValue.elem #[(.agg #[.pointer (some ⟨1,59,none⟩),.pointer (some a),.int .u64 150])]).run Go.Proofs.Tryd.prog W=.ok (.agg #[.pointer (some ⟨1,39,none⟩),.pointer (some p),.int .u64 406]) W:=by
 rw[zo]
 simp only[Sem.run_bind,tW,Result.andThen]
 simp[ReflectliteValue.elem,loadVar,isAgg,underlying,tX,ha,Result.andThen,wJ,Ab]
theorem wK(a:Addr)(w:World):(ReflectliteValue.parts (.agg #[.pointer (some ⟨1,39,none⟩),.pointer (some a),.int .u64 406])).run Go.Proofs.Tryd.prog w=.ok (some (39,a,406)) w:=by kernel_rfl
theorem xX(a:Addr)(w:World):(ReflectliteValue.parts (.agg #[.pointer (some ⟨1,39,none⟩),.pointer (some a),.int .u64 150])).run Go.Proofs.Tryd.prog w=.ok (some (39,a,150)) w:=by kernel_rfl
theorem wL(w:World):(Rtype.directlyAssignable 39 39).run Go.Proofs.Tryd.prog w=.ok true w:=by kernel_rfl
theorem xY:Go.Proofs.Tryd.prog.underlying 39=some (.pointer 41):=by kernel_rfl
theorem xZ(x:Addr)(w:World):(ReflectliteValue.unpack (.iface 39 (.pointer (some x)))).run Go.Proofs.Tryd.prog w=.ok (.agg #[.pointer (some ⟨1,39,none⟩),.pointer (some ⟨w.heap.size,0,none⟩),.int .u64 150]) (w.alloc (.cells #[.pointer (some x)] 39)):=by kernel_rfl
theorem zC(ta b:Addr)(x:Addr)(old:Value)(W:World)(hb:W.cell? b=some (.pointer (some x)))(ht:W.cell? ta=some old)(hf:W.frozen? ta=false) :
  (ReflectliteValue.set #[(.agg #[.pointer (some ⟨1,39,none⟩),.pointer (some ta),.int .u64 406]),(.agg #[.pointer (some ⟨1,39,none⟩),.pointer (some b),.int .u64 150])]).run Go.Proofs.Tryd.prog W=.ok (.tuple #[]) (W.setCell ta (.pointer (some x))):=by
 rw[z7]
 simp only[Sem.run_bind,wK,xX,Result.andThen]
 simp[ReflectliteValue.flagAddr,loadVar,isAgg,underlying,xY,hb,Result.andThen,wL,storeVar,Value.cells,storeCells,Addr.add]
 rw[run_store Go.Proofs.Tryd.prog W ta _ _ (by rfl)]
 simp[ht,hf]
theorem vL(t:Addr)(w:World):(ReflectliteValue.unpack (.iface 60 (.pointer (some t)))).run Go.Proofs.Tryd.prog w=.ok (.agg #[.pointer (some ⟨1,60,none⟩),.pointer (some ⟨w.heap.size,0,none⟩),.int .u64 150]) (w.alloc (.cells #[.pointer (some t)] 60)):=by kernel_rfl
theorem yG(a:Addr)(w:World):(ReflectliteValue.methodAny (ReflectliteValue.valueError "reflectlite.Value.Type" 0) (fun t _ _ _=>ReflectliteType.toType t) #[(.agg #[.pointer (some ⟨1,60,none⟩),.pointer (some a),.int .u64 150])]).run Go.Proofs.Tryd.prog w=.ok (.iface 110 (.agg #[.pointer (some ⟨1,60,none⟩)])) w:=by kernel_rfl
theorem x4(w:World):((ReflectliteType.abiMethod fun t=>(fun a:Nat=>Value.int IntKind.u8 (a:Int)) <$> Rtype.kind t) #[.pointer (some ⟨1,60,none⟩)]).run Go.Proofs.Tryd.prog w=.ok (.int .u8 22) w:=by kernel_rfl
theorem yH(w:World):((ReflectliteType.abiMethod fun t=>(fun a:Nat=>Value.int IntKind.u8 (a:Int)) <$> Rtype.kind t) #[.pointer (some ⟨1,34,none⟩)]).run Go.Proofs.Tryd.prog w=.ok (.int .u8 2) w:=by kernel_rfl
theorem tY(a:Addr)(w:World):(ReflectliteValue.parts (.agg #[.pointer (some ⟨1,60,none⟩),.pointer (some a),.int .u64 150])).run Go.Proofs.Tryd.prog w=.ok (some (60,a,150)) w:=by kernel_rfl
theorem tZ:Go.Proofs.Tryd.prog.underlying 60=some (.pointer 34):=by kernel_rfl
theorem x5(a p:Addr)(W:World)(ha:W.cell? a=some (.pointer (some p))) :
  (ReflectliteValue.method (ReflectliteValue.valueError "reflectlite.Value.IsNil" 0) ReflectliteValue.isNil #[(.agg #[.pointer (some ⟨1,60,none⟩),.pointer (some a),.int .u64 150])]).run Go.Proofs.Tryd.prog W=.ok (.bool false) W:=by
 rw[zo]
 simp only[Sem.run_bind,tY,Result.andThen]
 simp[ReflectliteValue.isNil,loadVar,isAgg,underlying,tZ,ha,Result.andThen]
theorem yI(w:World):(ReflectliteType.method ReflectliteType.elem #[.agg #[.pointer (some ⟨1,60,none⟩)]]).run Go.Proofs.Tryd.prog w=.ok (.iface 110 (.agg #[.pointer (some ⟨1,34,none⟩)])) w:=by kernel_rfl
theorem yJ(w:World):(ReflectliteType.relation "Implements" ReflectliteType.implements_ #[.agg #[.pointer (some ⟨1,34,none⟩)],.iface 110 (.agg #[.pointer (some ⟨1,31,none⟩)])]).run Go.Proofs.Tryd.prog w=.ok (.bool true) w:=by kernel_rfl
theorem ns(v:Value)(w:World):(ReflectliteType.typeOf #[.iface 34 v]).run Go.Proofs.Tryd.prog w=.ok (.iface 110 (.agg #[.pointer (some ⟨1,34,none⟩)])) w:=by kernel_rfl
theorem wM(w:World):(Rtype.elem? 60).run Go.Proofs.Tryd.prog w=.ok (some 34) w:=by kernel_rfl
theorem Ac(p:Addr)(w:World):(ReflectliteValue.mk 34 p ReflectliteValue.flagAddr).run Go.Proofs.Tryd.prog w=.ok (.agg #[.pointer (some ⟨1,34,none⟩),.pointer (some p),.int .u64 386]) w:=by kernel_rfl
theorem s9(a p:Addr)(W:World)(ha:W.cell? a=some (.pointer (some p))) :
  (ReflectliteValue.method (ReflectliteValue.valueError "reflectlite.Value.Elem" 0) ReflectliteValue.elem #[(.agg #[.pointer (some ⟨1,60,none⟩),.pointer (some a),.int .u64 150])]).run Go.Proofs.Tryd.prog W=.ok (.agg #[.pointer (some ⟨1,34,none⟩),.pointer (some p),.int .u64 386]) W:=by
 rw[zo]
 simp only[Sem.run_bind,tY,Result.andThen]
 simp[ReflectliteValue.elem,loadVar,isAgg,underlying,tZ,ha,Result.andThen,wM,Ac]
theorem wN(a:Addr)(w:World):(ReflectliteValue.parts (.agg #[.pointer (some ⟨1,34,none⟩),.pointer (some a),.int .u64 386])).run Go.Proofs.Tryd.prog w=.ok (some (34,a,386)) w:=by kernel_rfl
theorem x6(a:Addr)(w:World):(ReflectliteValue.parts (.agg #[.pointer (some ⟨1,34,none⟩),.pointer (some a),.int .u64 130])).run Go.Proofs.Tryd.prog w=.ok (some (34,a,130)) w:=by kernel_rfl
theorem wO(w:World):(Rtype.directlyAssignable 34 34).run Go.Proofs.Tryd.prog w=.ok true w:=by kernel_rfl
theorem x7:Go.Proofs.Tryd.prog.underlying 34=some (.int .i64):=by kernel_rfl
theorem tb(x:Int)(w:World):(ReflectliteValue.unpack (.iface 34 (.int .i64 x))).run Go.Proofs.Tryd.prog w=.ok (.agg #[.pointer (some ⟨1,34,none⟩),.pointer (some ⟨w.heap.size,0,none⟩),.int .u64 130]) (w.alloc (.cells #[.int .i64 x] 34)):=by kernel_rfl
theorem x8(ta b:Addr)(x:Int)(old:Value)(W:World)(hb:W.cell? b=some (.int .i64 x))(ht:W.cell? ta=some old)(hf:W.frozen? ta=false) :
  (ReflectliteValue.set #[(.agg #[.pointer (some ⟨1,34,none⟩),.pointer (some ta),.int .u64 386]),(.agg #[.pointer (some ⟨1,34,none⟩),.pointer (some b),.int .u64 130])]).run Go.Proofs.Tryd.prog W=.ok (.tuple #[]) (W.setCell ta (.int .i64 x)):=by
 rw[z7]
 simp only[Sem.run_bind,wN,x6,Result.andThen]
 simp[ReflectliteValue.flagAddr,loadVar,isAgg,underlying,x7,hb,Result.andThen,wO,storeVar,Value.cells,storeCells,Addr.add]
 rw[run_store Go.Proofs.Tryd.prog W ta _ _ (by rfl)]
 simp[ht,hf]
theorem vM(w:World):(ReflectliteType.relation "AssignableTo" ReflectliteType.assignableTo #[.agg #[.pointer (some ⟨1,39,none⟩)],.iface 110 (.agg #[.pointer (some ⟨1,39,none⟩)])]).run Go.Proofs.Tryd.prog w=.ok (.bool true) w:=by kernel_rfl
theorem oQ(w:World):(ReflectliteType.relation "AssignableTo" ReflectliteType.assignableTo #[.agg #[.pointer (some ⟨1,39,none⟩)],.iface 110 (.agg #[.pointer (some ⟨1,34,none⟩)])]).run Go.Proofs.Tryd.prog w=.ok (.bool false) w:=by kernel_rfl
theorem vN(w:World):(ReflectliteType.relation "AssignableTo" ReflectliteType.assignableTo #[.agg #[.pointer (some ⟨1,34,none⟩)],.iface 110 (.agg #[.pointer (some ⟨1,39,none⟩)])]).run Go.Proofs.Tryd.prog w=.ok (.bool false) w:=by kernel_rfl
theorem oR(w:World):(ReflectliteType.relation "AssignableTo" ReflectliteType.assignableTo #[.agg #[.pointer (some ⟨1,34,none⟩)],.iface 110 (.agg #[.pointer (some ⟨1,34,none⟩)])]).run Go.Proofs.Tryd.prog w=.ok (.bool true) w:=by kernel_rfl
theorem vO(v:Value)(xT:TypeId)(w:World):(Instr.typeAssert (.iface 39 v) xT 115 true).run Go.Proofs.Tryd.prog w=.ok (.tuple #[.nilIface,.bool false]) w:=run_typeAssert_lacksB Go.Proofs.Tryd.underlying115 (by kernel_rfl) (by kernel_rfl) v xT w
theorem vP(v:Value)(xT:TypeId)(w:World):(Instr.typeAssert (.iface 39 v) xT 118 true).run Go.Proofs.Tryd.prog w=.ok (.tuple #[.iface 39 v,.bool true]) w:=run_typeAssert_hasB Go.Proofs.Tryd.underlying118 (by kernel_rfl) v xT w
theorem yK(v:Value)(xT:TypeId)(w:World):(Instr.typeAssert (.iface 34 v) xT 115 true).run Go.Proofs.Tryd.prog w=.ok (.tuple #[.nilIface,.bool false]) w:=run_typeAssert_lacksB Go.Proofs.Tryd.underlying115 (by kernel_rfl) (by kernel_rfl) v xT w
theorem yL(v:Value)(xT:TypeId)(w:World):(Instr.typeAssert (.iface 34 v) xT 118 true).run Go.Proofs.Tryd.prog w=.ok (.tuple #[.nilIface,.bool false]) w:=run_typeAssert_lacksB Go.Proofs.Tryd.underlying118 (by kernel_rfl) (by kernel_rfl) v xT w
theorem yM(v:Value)(xT:TypeId)(w:World):(Instr.typeAssert (.iface 34 v) xT 120 true).run Go.Proofs.Tryd.prog w=.ok (.tuple #[.nilIface,.bool false]) w:=run_typeAssert_lacksB Go.Proofs.Tryd.underlying120 (by kernel_rfl) (by kernel_rfl) v xT w
theorem jv(e:Addr)(w:World):(Go.method 281 39 (.pointer (some e)) "Unwrap").run Go.Proofs.Tryd.prog w=.ok (87,.pointer (some e)) w:=by kernel_rfl
abbrev zD:Value:=.iface 110 (.agg #[.pointer (some ⟨1,39,none⟩)])
abbrev yN:Value:=.iface 110 (.agg #[.pointer (some ⟨1,34,none⟩)])
abbrev nt(PT:Nat)(a:Addr):Obj:=.cells #[.pointer (some ⟨1,PT,none⟩),.pointer (some a),.int .u64 150] 80
set_option maxHeartbeats 4000000 in
theorem yO(e t a:Addr)(old tgt:Value)(w:World)(ha:w.cell? a=some (.pointer (some t)))(ht0:w.cell? t=some old)(hf0:w.frozen? t=false) :
  Calls Go.Proofs.Tryd.prog 27 #[.iface 39 (.pointer (some e)),tgt,.agg #[.pointer (some ⟨1,59,none⟩),.pointer (some a),.int .u64 150],zD] w fun ev w'=>ev=.returned (.bool true) ∧
   w'=((w.alloc (nt 59 a)).alloc (.cells #[.pointer (some e)] 39)).setCell t (.pointer (some e)):=by
 have hTO:=@run_callFunc_extern Go.Proofs.Tryd.prog 42 _ ReflectliteType.typeOf Go.Proofs.Tryd.func42 (by kernel_rfl) (by kernel_rfl) (by kernel_rfl) (by kernel_rfl)
 have hA:=@run_callFunc_extern Go.Proofs.Tryd.prog 93 _ (ReflectliteType.relation "AssignableTo" ReflectliteType.assignableTo) Go.Proofs.Tryd.func93 (by kernel_rfl) (by kernel_rfl) (by kernel_rfl) (by kernel_rfl)
 have hVE:=@run_callFunc_extern Go.Proofs.Tryd.prog 43 _ (ReflectliteValue.method (ReflectliteValue.valueError "reflectlite.Value.Elem" 0) ReflectliteValue.elem) Go.Proofs.Tryd.func43 (by kernel_rfl) (by kernel_rfl) (by kernel_rfl) (by kernel_rfl)
 have hS:=@run_callFunc_extern Go.Proofs.Tryd.prog 44 _ ReflectliteValue.set Go.Proofs.Tryd.func44 (by kernel_rfl) (by kernel_rfl) (by kernel_rfl) (by kernel_rfl)
 have hV:=@run_callFunc_extern Go.Proofs.Tryd.prog 24 _ (fun args=>ReflectliteValue.unpack (args.getD 0 (.tuple #[]))) Go.Proofs.Tryd.func24 (by kernel_rfl) (by kernel_rfl) (by kernel_rfl) (by kernel_rfl)
 have tO:=nr
 have mA:=dE
 have aF:=vM
 have vF:=xZ
 have hal:a.block<w.heap.size:=by
  rcases Nat.lt_or_ge a.block w.heap.size with h | h
  ·exact h
  ·simp[World.cell?,Array.getElem?_eq_none h] at ha
 have htl:t.block<w.heap.size:=by
  rcases Nat.lt_or_ge t.block w.heap.size with h | h
  ·exact h
  ·simp[World.cell?,Array.getElem?_eq_none h] at ht0
 have el:=xW a t (w.alloc (nt 59 a)) (by rw[World.cell?_alloc_lt _ _ a hal];exact ha)
 have st:=zC t ⟨w.heap.size+1,0,none⟩ e old ((w.alloc (nt 59 a)).alloc (.cells #[.pointer (some e)] 39))
  (by rw[World.cell?_alloc_at _ _ _ _ (by simp)];rfl)
  (by rw[World.cell?_alloc_lt _ _ t (by simp;omega),World.cell?_alloc_lt _ _ t htl];exact ht0)
  (by rw[World.frozen?_alloc_old _ _ t (by simp;omega),World.frozen?_alloc_old _ _ t (Nat.ne_of_lt htl)];exact hf0)
 go_enter Go.Proofs.Tryd.func27,Go.Proofs.Tryd.ntmps27
 go_wp2
 refine wp_loop_rounds 1 ?_
 rw[rounds_succ]
 go_wp2
 go_ret
 exact⟨rfl,rfl⟩
set_option maxHeartbeats 4000000 in
theorem yP(n:Int)(a:Addr)(tgt:Value)(w:World) :
  Calls Go.Proofs.Tryd.prog 27 #[.iface 34 (.int .i64 n),tgt,.agg #[.pointer (some ⟨1,59,none⟩),.pointer (some a),.int .u64 150],zD] w fun ev w'=>ev=.returned (.bool false) ∧
   w'=w.alloc (nt 59 a):=by
 have hTO:=@run_callFunc_extern Go.Proofs.Tryd.prog 42 _ ReflectliteType.typeOf Go.Proofs.Tryd.func42 (by kernel_rfl) (by kernel_rfl) (by kernel_rfl) (by kernel_rfl)
 have hA:=@run_callFunc_extern Go.Proofs.Tryd.prog 93 _ (ReflectliteType.relation "AssignableTo" ReflectliteType.assignableTo) Go.Proofs.Tryd.func93 (by kernel_rfl) (by kernel_rfl) (by kernel_rfl) (by kernel_rfl)
 have tO:=ns
 have mA:=dE
 have aF:=vN
 have t1:=yK
 have t2:=yL
 have t3:=yM
 go_enter Go.Proofs.Tryd.func27,Go.Proofs.Tryd.ntmps27
 go_wp2
 refine wp_loop_rounds 1 ?_
 rw[rounds_succ]
 go_wp2
 go_ret
 exact⟨rfl,rfl⟩
set_option maxHeartbeats 4000000 in
theorem yQ(n:Int)(t a:Addr)(old tgt:Value)(w:World)(ha:w.cell? a=some (.pointer (some t)))(ht0:w.cell? t=some old)(hf0:w.frozen? t=false) :
  Calls Go.Proofs.Tryd.prog 27 #[.iface 34 (.int .i64 n),tgt,.agg #[.pointer (some ⟨1,60,none⟩),.pointer (some a),.int .u64 150],yN] w fun ev w'=>ev=.returned (.bool true) ∧
   w'=((w.alloc (nt 60 a)).alloc (.cells #[.int .i64 n] 34)).setCell t (.int .i64 n):=by
 have hTO:=@run_callFunc_extern Go.Proofs.Tryd.prog 42 _ ReflectliteType.typeOf Go.Proofs.Tryd.func42 (by kernel_rfl) (by kernel_rfl) (by kernel_rfl) (by kernel_rfl)
 have hA:=@run_callFunc_extern Go.Proofs.Tryd.prog 93 _ (ReflectliteType.relation "AssignableTo" ReflectliteType.assignableTo) Go.Proofs.Tryd.func93 (by kernel_rfl) (by kernel_rfl) (by kernel_rfl) (by kernel_rfl)
 have hVE:=@run_callFunc_extern Go.Proofs.Tryd.prog 43 _ (ReflectliteValue.method (ReflectliteValue.valueError "reflectlite.Value.Elem" 0) ReflectliteValue.elem) Go.Proofs.Tryd.func43 (by kernel_rfl) (by kernel_rfl) (by kernel_rfl) (by kernel_rfl)
 have hS:=@run_callFunc_extern Go.Proofs.Tryd.prog 44 _ ReflectliteValue.set Go.Proofs.Tryd.func44 (by kernel_rfl) (by kernel_rfl) (by kernel_rfl) (by kernel_rfl)
 have hV:=@run_callFunc_extern Go.Proofs.Tryd.prog 24 _ (fun args=>ReflectliteValue.unpack (args.getD 0 (.tuple #[]))) Go.Proofs.Tryd.func24 (by kernel_rfl) (by kernel_rfl) (by kernel_rfl) (by kernel_rfl)
 have tO:=ns
 have mA:=dE
 have aE:=oR
 have vE:=tb
 have hal:a.block<w.heap.size:=by
  rcases Nat.lt_or_ge a.block w.heap.size with h | h
  ·exact h
  ·simp[World.cell?,Array.getElem?_eq_none h] at ha
 have htl:t.block<w.heap.size:=by
  rcases Nat.lt_or_ge t.block w.heap.size with h | h
  ·exact h
  ·simp[World.cell?,Array.getElem?_eq_none h] at ht0
 have el:=s9 a t (w.alloc (nt 60 a)) (by rw[World.cell?_alloc_lt _ _ a hal];exact ha)
 have st:=x8 t ⟨w.heap.size+1,0,none⟩ n old ((w.alloc (nt 60 a)).alloc (.cells #[.int .i64 n] 34))
  (by rw[World.cell?_alloc_at _ _ _ _ (by simp)];rfl)
  (by rw[World.cell?_alloc_lt _ _ t (by simp;omega),World.cell?_alloc_lt _ _ t htl];exact ht0)
  (by rw[World.frozen?_alloc_old _ _ t (by simp;omega),World.frozen?_alloc_old _ _ t (Nat.ne_of_lt htl)];exact hf0)
 go_enter Go.Proofs.Tryd.func27,Go.Proofs.Tryd.ntmps27
 go_wp2
 refine wp_loop_rounds 1 ?_
 rw[rounds_succ]
 go_wp2
 go_ret
 exact⟨rfl,rfl⟩
abbrev td:Value:=.iface 110 (.agg #[.pointer (some ⟨1,31,none⟩)])
set_option maxHeartbeats 4000000 in
theorem yR(d:TypeId)(v:Value)(t:Addr)(w w2:World)(r:Bool)(hg:w.cell? ⟨0,0,none⟩=some td)
  (h:Calls Go.Proofs.Tryd.prog 27 #[.iface d v,.iface 59 (.pointer (some t)),.agg #[.pointer (some ⟨1,59,none⟩),.pointer (some ⟨w.heap.size,0,none⟩),.int .u64 150],zD] ((w.alloc (.cells #[.pointer (some t)] 59)).alloc (nt 59 ⟨w.heap.size,0,none⟩)) fun ev w'=>ev=.returned (.bool r)∧w'=w2) :
  Calls Go.Proofs.Tryd.prog 14 #[.iface d v,.iface 59 (.pointer (some t))] w fun ev w'=>ev=.returned (.bool r)∧w'=w2:=by
 have hV:=@run_callFunc_extern Go.Proofs.Tryd.prog 24 _ (fun args=>ReflectliteValue.unpack (args.getD 0 (.tuple #[]))) Go.Proofs.Tryd.func24 (by kernel_rfl) (by kernel_rfl) (by kernel_rfl) (by kernel_rfl)
 have hT:=@run_callFunc_extern Go.Proofs.Tryd.prog 25 _ (ReflectliteValue.methodAny (ReflectliteValue.valueError "reflectlite.Value.Type" 0) (fun t _ _ _=>ReflectliteType.toType t)) Go.Proofs.Tryd.func25 (by kernel_rfl) (by kernel_rfl) (by kernel_rfl) (by kernel_rfl)
 have hN:=@run_callFunc_extern Go.Proofs.Tryd.prog 26 _ (ReflectliteValue.method (ReflectliteValue.valueError "reflectlite.Value.IsNil" 0) ReflectliteValue.isNil) Go.Proofs.Tryd.func26 (by kernel_rfl) (by kernel_rfl) (by kernel_rfl) (by kernel_rfl)
 have hK:=@run_callFunc_extern Go.Proofs.Tryd.prog 82 _ (ReflectliteType.abiMethod fun t=>do pure (.int .u8 (←Rtype.kind t))) Go.Proofs.Tryd.func82 (by kernel_rfl) (by kernel_rfl) (by kernel_rfl) (by kernel_rfl)
 have hE:=@run_callFunc_extern Go.Proofs.Tryd.prog 95 _ (ReflectliteType.method ReflectliteType.elem) Go.Proofs.Tryd.func95 (by kernel_rfl) (by kernel_rfl) (by kernel_rfl) (by kernel_rfl)
 have hI:=@run_callFunc_extern Go.Proofs.Tryd.prog 96 _ (ReflectliteType.relation "Implements" ReflectliteType.implements_) Go.Proofs.Tryd.func96 (by kernel_rfl) (by kernel_rfl) (by kernel_rfl) (by kernel_rfl)
 have f6:=vK
 have f7:=yC
 have mK:=oO
 have mE:=oP
 have mI:=iW
 have kP:=xU
 have kT:=yD
 have eT:=yE
 have iT:=yF
 have n8:=xV ⟨w.heap.size,0,none⟩ t ((w.alloc (.cells #[.pointer (some t)] 59)).alloc (nt 59 ⟨w.heap.size,0,none⟩)) (by simp)
 have hlt:0<w.heap.size:=by
  rcases Nat.eq_zero_or_pos w.heap.size with h0 | h
  ·simp[World.cell?,h0] at hg
  ·exact h
 have hg2:((w.alloc (.cells #[.pointer (some t)] 59)).alloc (nt 59 ⟨w.heap.size,0,none⟩)).cell? ⟨0,0,none⟩=some td:=by
  rw[World.cell?_alloc_lt _ _ ⟨0,0,none⟩ (by simp),World.cell?_alloc_lt _ _ ⟨0,0,none⟩ hlt];exact hg
 go_enter Go.Proofs.Tryd.func14,Go.Proofs.Tryd.ntmps14
 go_wp2_with (first | (go_at_call 27;refine h.mono ?_;rintro e w' ⟨rfl,rfl⟩))
 go_ret
 exact⟨rfl,rfl⟩
set_option maxHeartbeats 4000000 in
theorem wP(d:TypeId)(v:Value)(t:Addr)(w w2:World)(r:Bool)(hg:w.cell? ⟨0,0,none⟩=some td)
  (h:Calls Go.Proofs.Tryd.prog 27 #[.iface d v,.iface 60 (.pointer (some t)),.agg #[.pointer (some ⟨1,60,none⟩),.pointer (some ⟨w.heap.size,0,none⟩),.int .u64 150],yN] ((w.alloc (.cells #[.pointer (some t)] 60)).alloc (nt 60 ⟨w.heap.size,0,none⟩)) fun ev w'=>ev=.returned (.bool r)∧w'=w2) :
  Calls Go.Proofs.Tryd.prog 14 #[.iface d v,.iface 60 (.pointer (some t))] w fun ev w'=>ev=.returned (.bool r)∧w'=w2:=by
 have hV:=@run_callFunc_extern Go.Proofs.Tryd.prog 24 _ (fun args=>ReflectliteValue.unpack (args.getD 0 (.tuple #[]))) Go.Proofs.Tryd.func24 (by kernel_rfl) (by kernel_rfl) (by kernel_rfl) (by kernel_rfl)
 have hT:=@run_callFunc_extern Go.Proofs.Tryd.prog 25 _ (ReflectliteValue.methodAny (ReflectliteValue.valueError "reflectlite.Value.Type" 0) (fun t _ _ _=>ReflectliteType.toType t)) Go.Proofs.Tryd.func25 (by kernel_rfl) (by kernel_rfl) (by kernel_rfl) (by kernel_rfl)
 have hN:=@run_callFunc_extern Go.Proofs.Tryd.prog 26 _ (ReflectliteValue.method (ReflectliteValue.valueError "reflectlite.Value.IsNil" 0) ReflectliteValue.isNil) Go.Proofs.Tryd.func26 (by kernel_rfl) (by kernel_rfl) (by kernel_rfl) (by kernel_rfl)
 have hK:=@run_callFunc_extern Go.Proofs.Tryd.prog 82 _ (ReflectliteType.abiMethod fun t=>do pure (.int .u8 (←Rtype.kind t))) Go.Proofs.Tryd.func82 (by kernel_rfl) (by kernel_rfl) (by kernel_rfl) (by kernel_rfl)
 have hE:=@run_callFunc_extern Go.Proofs.Tryd.prog 95 _ (ReflectliteType.method ReflectliteType.elem) Go.Proofs.Tryd.func95 (by kernel_rfl) (by kernel_rfl) (by kernel_rfl) (by kernel_rfl)
 have hI:=@run_callFunc_extern Go.Proofs.Tryd.prog 96 _ (ReflectliteType.relation "Implements" ReflectliteType.implements_) Go.Proofs.Tryd.func96 (by kernel_rfl) (by kernel_rfl) (by kernel_rfl) (by kernel_rfl)
 have f6:=vL
 have f7:=yG
 have mK:=oO
 have mE:=oP
 have mI:=iW
 have kP:=x4
 have kT:=yH
 have eT:=yI
 have iT:=yJ
 have n8:=x5 ⟨w.heap.size,0,none⟩ t ((w.alloc (.cells #[.pointer (some t)] 60)).alloc (nt 60 ⟨w.heap.size,0,none⟩)) (by simp)
 have hlt:0<w.heap.size:=by
  rcases Nat.eq_zero_or_pos w.heap.size with h0 | h
  ·simp[World.cell?,h0] at hg
  ·exact h
 have hg2:((w.alloc (.cells #[.pointer (some t)] 60)).alloc (nt 60 ⟨w.heap.size,0,none⟩)).cell? ⟨0,0,none⟩=some td:=by
  rw[World.cell?_alloc_lt _ _ ⟨0,0,none⟩ (by simp),World.cell?_alloc_lt _ _ ⟨0,0,none⟩ hlt];exact hg
 go_enter Go.Proofs.Tryd.func14,Go.Proofs.Tryd.ntmps14
 go_wp2_with (first | (go_at_call 27;refine h.mono ?_;rintro e w' ⟨rfl,rfl⟩))
 go_ret
 exact⟨rfl,rfl⟩
open Go.Vc (Sat)
theorem qw(b:Nat)(v:Value)(w:World)(he:w.cell? ⟨b,2,none⟩=some v):Calls Go.Proofs.Tryd.prog 87 #[.pointer (some ⟨b,0,none⟩)] w fun ev w'=>ev=.returned v∧w'=w:=by
 go_enter Go.Proofs.Tryd.func87,Go.Proofs.Tryd.ntmps87
 go_wp2
 go_ret
 exact⟨rfl,rfl⟩
set_option maxHeartbeats 4000000 in
theorem x9(b:Nat)(n:Int)(t a:Addr)(old tgt:Value)(w:World)(he:w.cell? ⟨b,2,none⟩=some (.iface 34 (.int .i64 n)))(ha:w.cell? a=some (.pointer (some t)))(ht0:w.cell? t=some old)(hf0:w.frozen? t=false) :
  Calls Go.Proofs.Tryd.prog 27 #[.iface 39 (.pointer (some ⟨b,0,none⟩)),tgt,.agg #[.pointer (some ⟨1,60,none⟩),.pointer (some a),.int .u64 150],yN] w fun ev w'=>ev=.returned (.bool true) ∧
   w'=((w.alloc (nt 60 a)).alloc (.cells #[.int .i64 n] 34)).setCell t (.int .i64 n):=by
 have hTO:=@run_callFunc_extern Go.Proofs.Tryd.prog 42 _ ReflectliteType.typeOf Go.Proofs.Tryd.func42 (by kernel_rfl) (by kernel_rfl) (by kernel_rfl) (by kernel_rfl)
 have hA:=@run_callFunc_extern Go.Proofs.Tryd.prog 93 _ (ReflectliteType.relation "AssignableTo" ReflectliteType.assignableTo) Go.Proofs.Tryd.func93 (by kernel_rfl) (by kernel_rfl) (by kernel_rfl) (by kernel_rfl)
 have hVE:=@run_callFunc_extern Go.Proofs.Tryd.prog 43 _ (ReflectliteValue.method (ReflectliteValue.valueError "reflectlite.Value.Elem" 0) ReflectliteValue.elem) Go.Proofs.Tryd.func43 (by kernel_rfl) (by kernel_rfl) (by kernel_rfl) (by kernel_rfl)
 have hS:=@run_callFunc_extern Go.Proofs.Tryd.prog 44 _ ReflectliteValue.set Go.Proofs.Tryd.func44 (by kernel_rfl) (by kernel_rfl) (by kernel_rfl) (by kernel_rfl)
 have hV:=@run_callFunc_extern Go.Proofs.Tryd.prog 24 _ (fun args=>ReflectliteValue.unpack (args.getD 0 (.tuple #[]))) Go.Proofs.Tryd.func24 (by kernel_rfl) (by kernel_rfl) (by kernel_rfl) (by kernel_rfl)
 have tO:=ns
 have tO2:=nr
 have mA:=dE
 have aE:=oR
 have aF:=oQ
 have vE:=tb
 have t1:=vO
 have t2:=vP
 have mU:=jv
 have hal:a.block<w.heap.size:=by
  rcases Nat.lt_or_ge a.block w.heap.size with h | h
  ·exact h
  ·simp[World.cell?,Array.getElem?_eq_none h] at ha
 have hel:b<w.heap.size:=by
  rcases Nat.lt_or_ge b w.heap.size with h | h
  ·exact h
  ·simp[World.cell?,Array.getElem?_eq_none h] at he
 have htl:t.block<w.heap.size:=by
  rcases Nat.lt_or_ge t.block w.heap.size with h | h
  ·exact h
  ·simp[World.cell?,Array.getElem?_eq_none h] at ht0
 have he1:(w.alloc (nt 60 a)).cell? ⟨b,2,none⟩=some (.iface 34 (.int .i64 n)):=by rw[World.cell?_alloc_lt _ _ _ hel];exact he
 have el:=s9 a t (w.alloc (nt 60 a)) (by rw[World.cell?_alloc_lt _ _ a hal];exact ha)
 have st:=x8 t ⟨w.heap.size+1,0,none⟩ n old ((w.alloc (nt 60 a)).alloc (.cells #[.int .i64 n] 34))
  (by rw[World.cell?_alloc_at _ _ _ _ (by simp)];rfl)
  (by rw[World.cell?_alloc_lt _ _ t (by simp;omega),World.cell?_alloc_lt _ _ t htl];exact ht0)
  (by rw[World.frozen?_alloc_old _ _ t (by simp;omega),World.frozen?_alloc_old _ _ t (Nat.ne_of_lt htl)];exact hf0)
 go_enter Go.Proofs.Tryd.func27,Go.Proofs.Tryd.ntmps27
 go_wp2
 refine wp_loop_rounds 2 ?_
 rw[rounds_succ]
 go_wp2_with (first | (go_at_call 87;refine (qw b _ _ he1).mono ?_;rintro e w' ⟨rfl,rfl⟩))
 rw[rounds_succ]
 go_wp2
 go_ret
 exact⟨rfl,rfl⟩
set_option maxHeartbeats 4000000 in
theorem ya(b c:Nat)(n:Int)(t a:Addr)(old tgt:Value)(w:World)(he:w.cell? ⟨b,2,none⟩=some (.iface 39 (.pointer (some ⟨c,0,none⟩))))(hc:w.cell? ⟨c,2,none⟩=some (.iface 34 (.int .i64 n)))(ha:w.cell? a=some (.pointer (some t)))(ht0:w.cell? t=some old)(hf0:w.frozen? t=false) :
  Calls Go.Proofs.Tryd.prog 27 #[.iface 39 (.pointer (some ⟨b,0,none⟩)),tgt,.agg #[.pointer (some ⟨1,60,none⟩),.pointer (some a),.int .u64 150],yN] w fun ev w'=>ev=.returned (.bool true) ∧
   w'=((w.alloc (nt 60 a)).alloc (.cells #[.int .i64 n] 34)).setCell t (.int .i64 n):=by
 have hTO:=@run_callFunc_extern Go.Proofs.Tryd.prog 42 _ ReflectliteType.typeOf Go.Proofs.Tryd.func42 (by kernel_rfl) (by kernel_rfl) (by kernel_rfl) (by kernel_rfl)
 have hA:=@run_callFunc_extern Go.Proofs.Tryd.prog 93 _ (ReflectliteType.relation "AssignableTo" ReflectliteType.assignableTo) Go.Proofs.Tryd.func93 (by kernel_rfl) (by kernel_rfl) (by kernel_rfl) (by kernel_rfl)
 have hVE:=@run_callFunc_extern Go.Proofs.Tryd.prog 43 _ (ReflectliteValue.method (ReflectliteValue.valueError "reflectlite.Value.Elem" 0) ReflectliteValue.elem) Go.Proofs.Tryd.func43 (by kernel_rfl) (by kernel_rfl) (by kernel_rfl) (by kernel_rfl)
 have hS:=@run_callFunc_extern Go.Proofs.Tryd.prog 44 _ ReflectliteValue.set Go.Proofs.Tryd.func44 (by kernel_rfl) (by kernel_rfl) (by kernel_rfl) (by kernel_rfl)
 have hV:=@run_callFunc_extern Go.Proofs.Tryd.prog 24 _ (fun args=>ReflectliteValue.unpack (args.getD 0 (.tuple #[]))) Go.Proofs.Tryd.func24 (by kernel_rfl) (by kernel_rfl) (by kernel_rfl) (by kernel_rfl)
 have tO:=ns
 have tO2:=nr
 have mA:=dE
 have aE:=oR
 have aF:=oQ
 have vE:=tb
 have t1:=vO
 have t2:=vP
 have mU:=jv
 have hal:a.block<w.heap.size:=by
  rcases Nat.lt_or_ge a.block w.heap.size with h | h
  ·exact h
  ·simp[World.cell?,Array.getElem?_eq_none h] at ha
 have hel:b<w.heap.size:=by
  rcases Nat.lt_or_ge b w.heap.size with h | h
  ·exact h
  ·simp[World.cell?,Array.getElem?_eq_none h] at he
 have htl:t.block<w.heap.size:=by
  rcases Nat.lt_or_ge t.block w.heap.size with h | h
  ·exact h
  ·simp[World.cell?,Array.getElem?_eq_none h] at ht0
 have he1:(w.alloc (nt 60 a)).cell? ⟨b,2,none⟩=some (.iface 39 (.pointer (some ⟨c,0,none⟩))):=by rw[World.cell?_alloc_lt _ _ _ hel];exact he
 have hcl:c<w.heap.size:=by
  rcases Nat.lt_or_ge c w.heap.size with h | h
  ·exact h
  ·simp[World.cell?,Array.getElem?_eq_none h] at hc
 have hc1:(w.alloc (nt 60 a)).cell? ⟨c,2,none⟩=some (.iface 34 (.int .i64 n)):=by rw[World.cell?_alloc_lt _ _ _ hcl];exact hc
 have el:=s9 a t (w.alloc (nt 60 a)) (by rw[World.cell?_alloc_lt _ _ a hal];exact ha)
 have st:=x8 t ⟨w.heap.size+1,0,none⟩ n old ((w.alloc (nt 60 a)).alloc (.cells #[.int .i64 n] 34))
  (by rw[World.cell?_alloc_at _ _ _ _ (by simp)];rfl)
  (by rw[World.cell?_alloc_lt _ _ t (by simp;omega),World.cell?_alloc_lt _ _ t htl];exact ht0)
  (by rw[World.frozen?_alloc_old _ _ t (by simp;omega),World.frozen?_alloc_old _ _ t (Nat.ne_of_lt htl)];exact hf0)
 go_enter Go.Proofs.Tryd.func27,Go.Proofs.Tryd.ntmps27
 go_wp2
 refine wp_loop_rounds 3 ?_
 rw[rounds_succ]
 go_wp2_with (first | (go_at_call 87;refine (qw b _ _ he1).mono ?_;rintro e w' ⟨rfl,rfl⟩))
 rw[rounds_succ]
 go_wp2_with (first | (go_at_call 87;refine (qw c _ _ hc1).mono ?_;rintro e w' ⟨rfl,rfl⟩))
 rw[rounds_succ]
 go_wp2
 go_ret
 exact⟨rfl,rfl⟩
end Go.As
namespace Go.Lx
open Go.Vc
def Gl(I:cS):Prop:=∃cs ty fz,I 0=some (.cells cs ty fz)∧cs[0]? = some Go.As.td
theorem Gl.mono{I J:cS}(h:Gl I)(hl:cS.le I J):Gl J:=let ⟨cs,ty,fz,h1,h2⟩:=h;⟨cs,ty,fz,hl.at h1,h2⟩
theorem Gl.cell{I:cS}{F:cR}{w:World}(h:Gl I)(hw:Sat I F w):w.cell? ⟨0,0,none⟩=some Go.As.td:=by
 obtain⟨cs,ty,fz,h1,h2⟩:=h
 have:=hw.imm _ _ h1
 unfold World.cell?
 simp[this,h2]
theorem Gl.wQ{w:World}(h:w.cell? ⟨0,0,none⟩=some Go.As.td):Gl (cS.all w):=by
 unfold World.cell? at h
 split at h
 ·rename_i c ty fz hc
  exact⟨c,ty,fz,hc,by simpa using h⟩
 ·cases h
theorem g9{I:cS}{F:cR}{w:World}{t ty:Nat}{old:Value}(hw:Sat I ((t,.cells #[old] ty (0,0))::F) w):w.cell? ⟨t,0,none⟩=some old∧w.frozen? ⟨t,0,none⟩=false:=by
 have:=hw.own _ _ (.head _)
 unfold World.cell? World.frozen?
 simp[this]
theorem s8.cell{I:cS}{F:cR}{w:World}{b ty:Nat}{fz:Nat×Nat}{x y z:Value}(h:I b=some (.cells #[x,y,z] ty fz))(hw:Sat I F w):w.cell? ⟨b,2,none⟩=some z:=by
 have:=hw.imm _ _ h
 unfold World.cell?
 simp[this]
theorem gD{w:World}{o o':Obj}{a:Addr}{v:Value}(h:w.cell? a=some v):((w.alloc o).alloc o').cell? a=some v:=by
 have hl:a.block<w.heap.size:=by
  rcases Nat.lt_or_ge a.block w.heap.size with h1 | h1
  ·exact h1
  ·simp[World.cell?,Array.getElem?_eq_none h1] at h
 rw[World.cell?_alloc_lt _ _ _ (by simp;omega),World.cell?_alloc_lt _ _ _ hl];exact h
theorem j9{w:World}{o o':Obj}{a:Addr}{v:Value}(h:w.cell? a=some v)(hf:w.frozen? a=false):((w.alloc o).alloc o').frozen? a=false:=by
 have hl:a.block<w.heap.size:=by
  rcases Nat.lt_or_ge a.block w.heap.size with h1 | h1
  ·exact h1
  ·simp[World.cell?,Array.getElem?_eq_none h1] at h
 rw[World.frozen?_alloc_old _ _ _ (by simp;omega),World.frozen?_alloc_old _ _ _ (Nat.ne_of_lt hl)];exact hf
end Go.Lx
namespace Go.Vc
theorem Sat.eb{I:cS}{F:cR}{w:World}(h:Sat I F w)(o:Obj):Sat I F (w.alloc o):=(h.alloc o).drop (A:=[_])
theorem Sat.wR{I:cS}{F:cR}{w:World}{t ty:Nat}{old v:Value}(h:Sat I ((t,.cells #[old] ty (0,0))::F) w):Sat I ((t,.cells #[v] ty (0,0))::F) (w.setCell ⟨t,0,none⟩ v) :=
 Sat.set h (lb (cs:=[old]) (h.own _ _ (.head _)) 0 v) ⟨rfl,rfl⟩
end Go.Vc
namespace Go.Lx
open Go.Vc
def yb(r:Bool)(G:cR)(e:Ending)(I:cS)(F:cR):Prop:=e=.returned (.bool r)∧F=G
section
variable {I:cS} {F:cR} {t ty:Nat} {old:Value}
theorem ua(hg:Gl I)(b:Nat):cV P 14 #[.iface 39 (.pointer (some ⟨b,0,none⟩)),.iface 59 (.pointer (some ⟨t,0,none⟩))] I ((t,.cells #[old] ty (0,0))::F) (yb true ((t,.cells #[.pointer (some ⟨b,0,none⟩)] ty (0,0))::F)):=fun w hw=>by
 obtain⟨hc,hf⟩:=g9 hw
 refine (Go.As.yR _ _ _ w _ true (hg.cell hw) (Go.As.yO ⟨b,0,none⟩ ⟨t,0,none⟩ ⟨w.heap.size,0,none⟩ old _ _ (by simp) (gD hc) (j9 hc hf))).mono fun e w' ⟨he,hw'⟩=>⟨I,_,cS.le_refl I, ?_,he,rfl⟩
 rw[hw']
 exact Sat.wR ((((hw.eb _).eb _).eb _).eb _)
theorem yc(hg:Gl I)(n:Int):cV P 14 #[lM n,.iface 59 (.pointer (some ⟨t,0,none⟩))] I F (yb false F):=fun w hw=>by
 refine (Go.As.yR _ _ _ w _ false (hg.cell hw) (Go.As.yP n ⟨w.heap.size,0,none⟩ _ _)).mono fun e w' ⟨he,hw'⟩=>⟨I,_,cS.le_refl I, ?_,he,rfl⟩
 rw[hw']
 exact ((hw.eb _).eb _).eb _
theorem yS(hg:Gl I)(n:Int):cV P 14 #[lM n,.iface 60 (.pointer (some ⟨t,0,none⟩))] I ((t,.cells #[old] ty (0,0))::F) (yb true ((t,.cells #[.int .i64 n] ty (0,0))::F)):=fun w hw=>by
 obtain⟨hc,hf⟩:=g9 hw
 refine (Go.As.wP _ _ _ w _ true (hg.cell hw) (Go.As.yQ n ⟨t,0,none⟩ ⟨w.heap.size,0,none⟩ old _ _ (by simp) (gD hc) (j9 hc hf))).mono fun e w' ⟨he,hw'⟩=>⟨I,_,cS.le_refl I, ?_,he,rfl⟩
 rw[hw']
 exact Sat.wR ((((hw.eb _).eb _).eb _).eb _)
theorem xh(hg:Gl I){call:ByteArray}{pos n:Int}{v:Value}(h:s8 I call pos (lM n) v):cV P 14 #[v,.iface 60 (.pointer (some ⟨t,0,none⟩))] I ((t,.cells #[old] ty (0,0))::F) (yb true ((t,.cells #[.int .i64 n] ty (0,0))::F)):=fun w hw=>by
 obtain⟨b,rfl,hb⟩:=h
 obtain⟨hc,hf⟩:=g9 hw
 refine (Go.As.wP _ _ _ w _ true (hg.cell hw) (Go.As.x9 b n ⟨t,0,none⟩ ⟨w.heap.size,0,none⟩ old _ _ (gD (s8.cell hb hw)) (by simp) (gD hc) (j9 hc hf))).mono fun e w' ⟨he,hw'⟩=>⟨I,_,cS.le_refl I, ?_,he,rfl⟩
 rw[hw']
 exact Sat.wR ((((hw.eb _).eb _).eb _).eb _)
theorem xi(hg:Gl I){call call':ByteArray}{pos pos' n:Int}{v u:Value}(h:s8 I call pos u v)(h':s8 I call' pos' (lM n) u):cV P 14 #[v,.iface 60 (.pointer (some ⟨t,0,none⟩))] I ((t,.cells #[old] ty (0,0))::F) (yb true ((t,.cells #[.int .i64 n] ty (0,0))::F)):=fun w hw=>by
 obtain⟨b,rfl,hb⟩:=h
 obtain⟨c,rfl,hc'⟩:=h'
 obtain⟨hc,hf⟩:=g9 hw
 refine (Go.As.wP _ _ _ w _ true (hg.cell hw) (Go.As.ya b c n ⟨t,0,none⟩ ⟨w.heap.size,0,none⟩ old _ _ (gD (s8.cell hb hw)) (gD (s8.cell hc' hw)) (by simp) (gD hc) (j9 hc hf))).mono fun e w' ⟨he,hw'⟩=>⟨I,_,cS.le_refl I, ?_,he,rfl⟩
 rw[hw']
 exact Sat.wR ((((hw.eb _).eb _).eb _).eb _)
end
end Go.Lx
namespace Go.Lx
open Go.Vc
def gh(t:Tok):Int:=t.pos+t.text.size
def jE(l:List Tok)(f:Int):Nat→Int
 | 0=>f
 | i+1=>gh ((l[i]?).getD (ik 0))
theorem kU(t:Tok)(l:List Tok)(f:Int)(i:Nat):jE (t::l) f (i+1)=jE l (gh t) i:=by cases i<;>rfl
structure Steps (s:ByteArray) (f:Int) (l:List Tok) (o:Option (Int×Int)):Prop where
 tk:∀i,i<l.length→fT s (jE l f i)=.ok ((l[i]?).getD (ik 0))
 yT:∀i,i≤l.length→0≤jE l f i∧jE l f i≤s.size
 kinds:∀i,i+1<l.length→((l[i]?).getD (ik 0)).kind≠0
 last:o=none→0<l.length∧((l[l.length-1]?).getD (ik 0)).kind=0
 bad:∀e p,o=some (e,p)→fT s (jE l f l.length)=.bad e p∧e≠0∧∀i,i<l.length→((l[i]?).getD (ik 0)).kind≠0
theorem Steps.cons{s:ByteArray}{f:Int}{t:Tok}{l:List Tok}{o:Option (Int×Int)}(h0:0≤f)(h1:f≤s.size)(ht:fT s f=.ok t)(hk:t.kind≠0)(h:Steps s (gh t) l o):Steps s f (t::l) o:=by
 refine⟨fun i hi=>?_,fun i hi=>?_,fun i hi=>?_,fun ho=>?_,fun e p ho=>?_⟩
 ·cases i with
  | zero=>exact ht
  | succ i=>rw[kU,List.getElem?_cons_succ];exact h.tk i (by simpa using hi)
 ·cases i with
  | zero=>exact⟨h0,h1⟩
  | succ i=>rw[kU];exact h.yT i (by simpa using hi)
 ·cases i with
  | zero=>exact hk
  | succ i=>rw[List.getElem?_cons_succ];exact h.kinds i (by simpa using hi)
 ·obtain⟨g0,g1⟩:=h.last ho
  refine⟨by simp, ?_⟩
  obtain⟨n,hn⟩:∃n,l.length=n+1:=⟨l.length-1,by omega⟩
  rw[List.length_cons,hn,Nat.add_sub_cancel,List.getElem?_cons_succ]
  rw[hn,Nat.add_sub_cancel] at g1;exact g1
 ·obtain⟨g1,g2,g3⟩:=h.bad e p ho
  refine⟨by rw[List.length_cons,kU];exact g1,g2,fun i hi=>?_⟩
  cases i with
  | zero=>exact hk
  | succ i=>rw[List.getElem?_cons_succ];exact g3 i (by simpa using hi)
theorem mW(s:ByteArray):∀(n:Nat) (f:Int),0≤f→f≤s.size→(s.size-f+1).toNat≤n→Steps s f (iS s n f).1 (iS s n f).2
 | 0,f,h0,h1,hn=>by omega
 | n+1,f,h0,h1,hn=>by
   unfold iS
   rcases fJ h0 h1 with ⟨t,ht,_⟩ | ⟨e,ht,he⟩
   ·have hx:=lI h0 h1 ht
    rw[ht]
    by_cases hk:t.kind=0
    ·simp only[hk,if_true]
     refine⟨fun i hi=>?_,fun i hi=>?_,fun i hi=>?_,fun _=>⟨by simp,hk⟩,fun e p ho=>(by cases ho)⟩
     ·have:i=0:=by simpa using hi
      subst this;exact ht
     ·have hi:i≤1:=hi
      cases i with
      | zero=>exact⟨h0,h1⟩
      | succ i =>
        have:i=0:=by omega
        subst this
        show 0≤t.pos+t.text.size∧t.pos+t.text.size≤(s.size:Int)
        omega
     ·simp at hi
    ·simp only[hk,if_false]
     have:=hx.2.2 hk
     have e0:gh t=t.pos+t.text.size:=rfl
     exact .cons h0 h1 ht hk (mW s n _ (by omega) (by omega) (by omega))
   ·rw[ht]
    refine⟨fun i hi=>(by simp at hi),fun i hi=>?_,fun i hi=>(by simp at hi),fun ho=>(by cases ho),fun e' p' ho=>?_⟩
    ·have:i=0:=by simpa using hi
     subst this;exact⟨h0,h1⟩
    ·cases ho
     exact⟨ht,by rcases he with rfl | rfl | rfl<;>decide,fun i hi=>(by simp at hi)⟩
structure PC.Of (c:PC) (t:ByteArray):Prop where
 len:(t.size:Int)≤4096
 mb:c.l.length≤5000
 st:∃o,Steps t 0 c.l o∧c.bad=(o.map Prod.fst).getD 0∧c.pos=(o.map Prod.snd).getD 0
theorem qx{t:ByteArray}(h:(t.size:Int)≤4096):(dz t).Of t:=by
 unfold dz
 rw[if_neg (by omega)]
 exact⟨h,by have:=oJ t (t.size-0+1:Int).toNat 0;show (ml t 0).1.length≤5000;unfold ml;omega,_,mW t _ 0 (by decide) (by omega) (Nat.le_refl _),rfl,rfl⟩
def PC.Live(c:PC)(s:PS):Prop:=s.over=false∧s.next<c.l.length
def PC.zE(c:PC):PF:=⟨c.bad,c.pos,true⟩
section
variable {c:PC} {t:ByteArray} {s:PS}
theorem PC.Of.tk(h:c.Of t){i:Nat}(hi:i<c.l.length):fT t (jE c.l 0 i)=.ok (c.tok i):=let ⟨_,h,_⟩:=h.st;h.tk i hi
theorem PC.Of.yT(h:c.Of t){i:Nat}(hi:i≤c.l.length):0≤jE c.l 0 i∧jE c.l 0 i≤t.size:=let ⟨_,h,_⟩:=h.st;h.yT i hi
theorem PC.Of.next(h:c.Of t){i:Nat}(hi:i<c.l.length)(hk:(c.tok i).kind≠0):i+1<c.l.length∨(i+1=c.l.length∧c.bad≠0∧fT t (jE c.l 0 (i+1))=.bad c.bad c.pos):=by
 obtain⟨o,h,hb,hp⟩:=h.st
 by_cases hl:i+1<c.l.length
 ·exact .inl hl
 ·have hl:i+1=c.l.length:=by omega
  right
  cases o with
  | none =>
    have:=(h.last rfl).2
    rw[←hl,Nat.add_sub_cancel] at this
    exact absurd this hk
  | some ep =>
    obtain⟨g1,g2,_⟩:=h.bad ep.1 ep.2 rfl
    rw[hb,hp,hl];exact⟨rfl,g2,g1⟩
theorem PC.Of.none(h:c.Of t)(hl:c.l.length=0):c.bad≠0∧fT t 0=.bad c.bad c.pos:=by
 obtain⟨o,h,hb,hp⟩:=h.st
 cases o with
 | none=>have:=(h.last rfl).1;omega
 | some ep =>
   obtain⟨g1,g2,_⟩:=h.bad ep.1 ep.2 rfl
   rw[hl] at g1
   rw[hb,hp];exact⟨g2,g1⟩
theorem PC.Live.now(h:c.Live s):c.now s=c.tok s.next:=by
 unfold PC.now;rw[h.1,if_neg];have:=h.2;simp;omega
theorem PC.Live.inc(h:c.Of t)(hl:c.Live s)(hk:(c.tok s.next).kind≠0):c.Live s.inc∨(s.next+1=c.l.length∧c.dw c.zE s.inc):=by
 rcases h.next hl.2 hk with h1 | ⟨h1,h2,_⟩
 ·exact .inl ⟨hl.1,h1⟩
 ·refine .inr ⟨h1, ?_,fun _=>h2⟩
  have h1:c.l.length≤s.inc.next:=by show _≤s.next+1;omega
  have ho:s.inc.over=false:=hl.1
  unfold PC.fin;rw[ho,if_neg (by simp),if_pos h1];rfl
theorem PC.Live.c5(hl:c.Live s){e:Int}(he:e≠0):c.c5 e s=⟨s.next,⟨e,(c.tok s.next).pos,false⟩⟩∧c.dw ⟨e,(c.tok s.next).pos,false⟩ (c.c5 e s):=by
 have h1:c.c5 e s=⟨s.next,⟨e,(c.tok s.next).pos,false⟩⟩:=by
  unfold PC.c5;rw[hl.1,if_neg (by simp),if_neg (by have:=hl.2;omega)]
 refine⟨h1, ?_⟩
 have ho:PS.over ⟨s.next,⟨e,(c.tok s.next).pos,false⟩⟩=true:=by simpa[PS.over] using he
 rw[h1]
 exact⟨by unfold PC.fin;rw[if_pos ho],fun h=>by rw[ho] at h;cases h⟩
end
def yU(t:ByteArray)(k:Tok)(f:Int):List Value:=[.string t,.int .u8 k.kind,.string k.text,.int .u8 k.gX,.int .i64 k.n,.int .i64 k.pos,.int .i64 f]
def wS(t:ByteArray)(k:Tok)(f:Int):Obj:=.cells (yU t k f).toArray 72 (0,0)
def pX(t:ByteArray)(b:Nat)(k:Tok)(f:Int):Nat×Obj:=(b,wS t k f)
def PC.px(c:PC)(t:ByteArray)(b:Nat)(s:PS):Nat×Obj:=pX t b (c.tok s.next) (gh (c.tok s.next))
def zG(b:Nat):List PanicEntry:=[{ v:=.iface 39 (.pointer (some ⟨b,0,none⟩)),recovered:=false }]
def xj(f:PF)(u:Value)(B:cR):Prop:=match f.tok with
 | true=>∃b,u=.iface 39 (.pointer (some ⟨b,0,none⟩))∧B=[(b,.cells #[.string (⟨#[84,111,107,101,110,115]⟩:ByteArray),.int .i64 f.pos,lM f.e] 41 (0,0))]
 | false=>u=lM f.e∧B=[]
def c7(f:PF)(F0:cR)(e:Ending)(G:cR):Prop:=∃(b:Nat) (u:Value) (B X:cR),e=.panicked (zG b)∧xj f u B∧G.Perm ((b,.cells #[.string ⟨#[]⟩,.int .i64 f.pos,u] 41 (0,0))::(B++(X++F0)))
theorem c7.perm{f:PF}{F0 F1 G H:cR}{e:Ending}(h:c7 f F0 e G)(p:F0.Perm F1)(q:H.Perm G):c7 f F1 e H :=
 let ⟨b,u,B,X,he,hu,hG⟩:=h;⟨b,u,B,X,he,hu,q.trans (hG.trans (((p.append_left X).append_left B).cons _))⟩
theorem c7.more{f:PF}{A F0 G:cR}{e:Ending}(h:c7 f (A++F0) e G):c7 f F0 e G :=
 let ⟨b,u,B,X,he,hu,hG⟩:=h;⟨b,u,B,X++A,he,hu,by rw[List.append_assoc];exact hG⟩
theorem c7.xk{f:PF}{x:Nat×Obj}{F0 G:cR}{e:Ending}(h:c7 f F0 e G):c7 f F0 e (x::G) :=
 let ⟨b,u,B,X,he,hu,hG⟩:=h;⟨b,u,B,x::X,he,hu,(hG.cons x).trans (cT fun z=>by simp only[cX,cU,cY];omega)⟩
theorem c7.pass{f:PF}{F0 G:cR}{e:Ending}{I:cS}{Q:Ending→cS→cR→Prop}(h:c7 f F0 e G)(k:∀e',c7 f F0 e' G→Q e' I G):∃ch,e=.panicked ch∧∃F2:cR,List.Perm G F2∧Q (.panicked ch) I F2 :=
 let ⟨b,u,B,X,he,hu,hG⟩:=h;⟨_,he,G,.refl _,k _ ⟨b,u,B,X,rfl,hu,hG⟩⟩
theorem c7.dk{f:PF}{F0 G:cR}{e:Ending}{I:cS}{Q:Ending→cS→cR→Prop}(L:cR)(h:c7 f (L++F0) e G)(k:∀e' G',c7 f F0 e' G'→Q e' I G'):∃ch,e=.panicked ch∧∃F2:cR,List.Perm G (L++F2)∧Q (.panicked ch) I F2:=by
 obtain⟨b,u,B,X,he,hu,hG⟩:=h
 exact⟨_,he,_,hG.trans (cT fun z=>by simp only[cX,cU,cY];omega),k _ _ ⟨b,u,B,X,rfl,hu,.refl _⟩⟩
def cZ(c:PC)(t:ByteArray)(b:Nat){α:Type}(val:α→Value→cR→Prop)(F0:cR)(r:α×PS)(e:Ending)(I:cS)(G:cR):Prop :=
 (c.Live r.2∧∃v H,e=.returned v∧val r.1 v H∧G.Perm (c.px t b r.2::(H++F0)))∨∃f,c.dw f r.2∧c7 f F0 e G
section
variable {c:PC} {t:ByteArray} {b:Nat} {α:Type} {val:α→Value→cR→Prop} {F0:cR} {r:α×PS}
theorem cZ.use{g:Nat}{args:Array Value}{I:cS}{F:cR}{Q:Ending→cS→cR→Prop}(h:cV P g args I F (cZ c t b val F0 r))
  (k1:∀v H I' G,cS.le I I'→c.Live r.2→val r.1 v H→G.Perm (c.px t b r.2::(H++F0))→Q (.returned v) I' G) (k2:∀f e I' G,cS.le I I'→c.dw f r.2→c7 f F0 e G→Q e I' G):cV P g args I F Q :=
 h.mono fun e I' G hl hd=>by
  rcases hd with ⟨h1,v,H,rfl,hv,hG⟩ | ⟨f,hd,hf⟩
  ·exact k1 v H I' G hl h1 hv hG
  ·exact k2 f e I' G hl hd hf
end
def zH(x:Unit)(v:Value)(H:cR):Prop:=v=.tuple #[]∧H=[]
def zI(x:Int)(v:Value)(H:cR):Prop:=v=.int .i64 x∧H=[]
def zJ(x:ByteArray)(v:Value)(H:cR):Prop:=v=.string x∧H=[]
def lN(x:Px)(v:Value)(H:cR):Prop:=∃t:Nd,v=t.v∧t.px=x∧dI 29 false t H
end Go.Lx
namespace Go.Lx
open Go.Vc Go.Proofs.Tryd
def ic:List (Nat×List Sh):=[(0,[]),(2,[.one (.int .i64)]),(3,[.one (.int .i64)]),(9,[.one .str]),(25,[.one (.int .u8)]),(68,[.one (.int .u8)]),(103,[.agg [(.int .u8),.str,(.int .u8),(.int .i64),(.int .i64)],.one (.int .i64),.one (.int .i64)]),(134,[.one .slc,.one (.int .i64),.one (.int .i64)])]
def gR.V(b:OA)(a c:Nat)(v:Bs)(I:cS)(F:cR)(Q:cW)(Inv6:Int→Int→Nat→cS→cR→Prop):Prop:=(∃m:Nat,Inv6 0 0 m I F)∧∀(x x1:Int) (m1:Nat) (I1:cS) (F1:cR),cS.le I I1→Inv6 x x1 m1 I1 F1→(Dt (x1<(a:Int)) ((0≤x1∧x1<(a:Int))∧∃ad:Addr,b=some ad∧∃(m2:Bs),Rd I1 F1 (ad.add (Int.toNat x1*1)) [.string m2]∧(It (v.toList==m2.toList) (Q (.returned (.int .i64 x1)) I1 F1) (∃m3:Nat,m3<m1∧Inv6 x (IntKind.wrap .i64 (x1+1)) m3 I1 F1))) (Q (.returned (.int .i64 (-1))) I1 F1))
theorem gR.vc{a:OA}{b c:Nat}{v:Bs}{I:cS}{F:cR}{Q:cW}(Inv6:Int→Int→Nat→cS→cR→Prop)(h:gR.V a b c v I F Q Inv6):cV P 51 #[.slice a b c,.string v] I F Q :=
 tw (A:=(eU [2000,4005] [] [] ic [(6,⟨[(4,(.int .i64)),(8,(.int .i64))],[],fun _ _ _ vs m I F=>match vs with | [.int _ y0,.int _ y1]=>Inv6 y0 y1 m I F | _=>False,[],[]⟩)] [] [] [] [] [] [])) [] func51 h
def gS.V(s:Bs)(a:Int)(I:cS)(F:cR)(Q:cW)  : Prop:=((0≤a∧a≤(s.size:Int)∧(s.size:Int)≤(s.size:Int))∧sk P 49 (#[.string (s.extract (Int.toNat a) (Int.toNat ((s.size:Int))))]) I (·) F fun e1 I1 G1=>∃(b:OA) (c d:Nat) (r1 r2:Int),e1=.returned (.tuple #[.slice b c d,.int .i64 r1,.int .i64 r2])∧G1 fun F1=>Q (.returned (.int .i64 (IntKind.wrap .i64 (a+r2)))) I1 F1)
theorem gS.vc{s:Bs}{a:Int}{I:cS}{F:cR}{Q:cW}  (h:gS.V s a I F Q):cV P 37 #[.string s,.int .i64 a] I F Q :=
 tw (A:=(an [] [49] ic)) [49] func37 h
def iA.V(vb:Int→Value)(vs:Bs→Value)(vl:OA→Nat→Nat→Value)(a:Int)(I:cS)(F:cR)(Q:cW)  : Prop:=(It (a==2) (∀(b:Nat) (I1:cS),cS.le I I1→I1 b=some (Obj.cells #[vs (⟨#[124,124]⟩:Bs)] 9 (0,0))→Q (.returned (.tuple #[vl (some ⟨b,0,none⟩) 1 1,vb 18])) I1 F) (It (a==3) (∀(b1:Nat) (I2:cS),cS.le I I2→I2 b1=some (Obj.cells #[vs (⟨#[38,38]⟩:Bs)] 9 (0,0))→Q (.returned (.tuple #[vl (some ⟨b1,0,none⟩) 1 1,vb 17])) I2 F) (It (a==4) (∀(b2:Nat) (I3:cS),cS.le I I3→I3 b2=some (Obj.cells #[vs (⟨#[61,61]⟩:Bs),vs (⟨#[33,61]⟩:Bs),vs (⟨#[60]⟩:Bs),vs (⟨#[60,61]⟩:Bs),vs (⟨#[62]⟩:Bs),vs (⟨#[62,61]⟩:Bs)] 9 (0,0))→Q (.returned (.tuple #[vl (some ⟨b2,0,none⟩) 6 6,vb 11])) I3 F) (It (a==5) (∀(b3:Nat) (I4:cS),cS.le I I4→I4 b3=some (Obj.cells #[vs (⟨#[43]⟩:Bs),vs (⟨#[45]⟩:Bs)] 9 (0,0))→Q (.returned (.tuple #[vl (some ⟨b3,0,none⟩) 2 2,vb 6])) I4 F) (∀(b4:Nat) (I5:cS),cS.le I I5→I5 b4=some (Obj.cells #[vs (⟨#[42]⟩:Bs),vs (⟨#[47]⟩:Bs),vs (⟨#[37]⟩:Bs)] 9 (0,0))→Q (.returned (.tuple #[vl (some ⟨b4,0,none⟩) 3 3,vb 8])) I5 F)))))
theorem iA.vc{a:Int}{I:cS}{F:cR}{Q:cW}  (h:iA.V (.int .u8) .string .slice a I F Q):cV P 40 #[.int .i64 a] I F Q :=
 tw (A:=(eU [2000,4000,6000,8000] [] [] ic [] [3000,5000,7000,9000,10000] [] [] [] [] [])) [] func40 h
def eN.V(p:Addr)(e1:Int)(I:cS)(F:cR)(Q:cW)  : Prop:=∃ad:Addr,some p=some ad∧∃(m:Int),Rd I F ((ad.add 1).add 4) [.int .i64 m]∧∀b:Nat,Q (.panicked ([{ v:=Value.iface 39 (.pointer (some (⟨b,0,none⟩:Addr))),recovered:=false }])) I (((b,Obj.cells #[.string (⟨#[]⟩:Bs),.int .i64 m,Value.iface 34 (.int .i64 e1)] 41 (0,0))::F))
theorem eN.vc{p:Addr}{e1:Int}{I:cS}{F:cR}{Q:cW}  (h:eN.V p e1 I F Q):cV P 19 #[.pointer (some p),.int .i64 e1] I F Q :=
 tw (A:=(eU [] [] [] ic [] [] [8] [] [] [] [])) [] func19 h
def dK.V(ka:Nat→Int→Bs→Int→Int→Int→Nat×Obj)(kb:Nat→Bs→Int→Value→Nat×Obj)(vb vi:Int→Value)(vs:Bs→Value)(vp:OA→Value)(p:Addr)(I:cS)(F:cR)(Q:cW)  : Prop:=∃ad:Addr,some p=some ad∧∃ae:Addr,some p=some ae∧∃(m:Bs),Rd I F (ad.add 0) [vs m]∧∃(m1:Int),Rd I F (ae.add 6) [vi m1]∧(sk P 36 #[vs m,vi m1] I (·) F fun e1 I1 G1=>∃(g:Int) (h:Bs) (i j k r1 r2:Int),e1=.returned (.tuple #[.agg #[vb g,vs h,vb i,vi j,vi k],vi r1,vi r2])∧G1 fun F1=>∀u:Nat,(It (r2 != 0) (It (r2 != 110) (∃af:Addr,some p=some af∧∃ag:Addr,some p=some ag∧∃(m2:Bs),Rd I1 ((ka u g h i j k)::F1) (af.add 0) [vs m2]∧∃(m3:Int),Rd I1 ((ka u g h i j k)::F1) (ag.add 6) [vi m3]∧k6 P 37 #[vs m2,vi m3] I1 ((ka u g h i j k)::·) F1 vi fun r I2 F2=>∀b:Nat,∀b1:Nat,Q (.panicked ([{ v:=Value.iface 39 (vp (some (⟨b1,0,none⟩:Addr))),recovered:=false }])) I2 (((kb b1 (⟨#[]⟩:Bs) r (Value.iface 39 (vp (some (⟨b,0,none⟩:Addr)))))::((kb b (⟨#[84,111,107,101,110,115]⟩:Bs) r (Value.iface 34 (vi r2)))::F2)))) (∀b2:Nat,∀b3:Nat,Q (.panicked ([{ v:=Value.iface 39 (vp (some (⟨b3,0,none⟩:Addr))),recovered:=false }])) I1 (((kb b3 (⟨#[]⟩:Bs) 0 (Value.iface 39 (vp (some (⟨b2,0,none⟩:Addr)))))::((kb b2 (⟨#[84,111,107,101,110,115]⟩:Bs) 0 (Value.iface 34 (vi r2)))::F1))))) (∃o:Addr,some p=some o∧∃(cs:List Value) (el:Nat) (F3:cR),List.Perm F1 (((o.add 1).block,Obj.cells cs.toArray el (0,0))::F3)∧(o.add 1).spot=none∧(o.add 1).off+5≤cs.length∧∃q:Addr,some p=some q∧∃(w:List Value) (z:Nat) (F4:cR),List.Perm (((o.add 1).block,Obj.cells (c9 (o.add 1).off [vb g,vs h,vb i,vi j,vi k] cs).toArray el (0,0))::F3) (((q.add 6).block,Obj.cells w.toArray z (0,0))::F4)∧(q.add 6).spot=none∧(q.add 6).off+1≤w.length∧Q (.returned (.tuple #[])) I1 ((((q.add 6).block,Obj.cells (c9 (q.add 6).off [vi r1] w).toArray z (0,0))::F4)))))∧(∀l:Nat,sk P 36 #[vs m,vi m1] I ((ka l 0 (⟨#[]⟩:Bs) 0 0 0)::·) F fun e3 I3 G3=>∃(a:Int) (c:Bs) (d e f aa n:Int),e3=.returned (.tuple #[.agg #[vb a,vs c,vb d,vi e,vi f],vi aa,vi n])∧G3 fun F5=>(It (n != 0) (It (n != 110) (∃ah:Addr,some p=some ah∧∃ai:Addr,some p=some ai∧∃(m4:Bs),Rd I3 ((ka l a c d e f)::F5) (ah.add 0) [vs m4]∧∃(m5:Int),Rd I3 ((ka l a c d e f)::F5) (ai.add 6) [vi m5]∧k6 P 37 #[vs m4,vi m5] I3 ((ka l a c d e f)::·) F5 vi fun r3 I4 F6=>∀b4:Nat,∀b5:Nat,Q (.panicked ([{ v:=Value.iface 39 (vp (some (⟨b5,0,none⟩:Addr))),recovered:=false }])) I4 (((kb b5 (⟨#[]⟩:Bs) r3 (Value.iface 39 (vp (some (⟨b4,0,none⟩:Addr)))))::((kb b4 (⟨#[84,111,107,101,110,115]⟩:Bs) r3 (Value.iface 34 (vi n)))::F6)))) (∀b6:Nat,∀b7:Nat,Q (.panicked ([{ v:=Value.iface 39 (vp (some (⟨b7,0,none⟩:Addr))),recovered:=false }])) I3 (((kb b7 (⟨#[]⟩:Bs) 0 (Value.iface 39 (vp (some (⟨b6,0,none⟩:Addr)))))::((kb b6 (⟨#[84,111,107,101,110,115]⟩:Bs) 0 (Value.iface 34 (vi n)))::F5))))) (∃s:Addr,some p=some s∧∃(x:List Value) (ab:Nat) (F7:cR),List.Perm F5 (((s.add 1).block,Obj.cells x.toArray ab (0,0))::F7)∧(s.add 1).spot=none∧(s.add 1).off+5≤x.length∧∃t:Addr,some p=some t∧∃(y:List Value) (ac:Nat) (F8:cR),List.Perm (((s.add 1).block,Obj.cells (c9 (s.add 1).off [vb a,vs c,vb d,vi e,vi f] x).toArray ab (0,0))::F7) (((t.add 6).block,Obj.cells y.toArray ac (0,0))::F8)∧(t.add 6).spot=none∧(t.add 6).off+1≤y.length∧Q (.returned (.tuple #[])) I3 ((((t.add 6).block,Obj.cells (c9 (t.add 6).off [vi aa] y).toArray ac (0,0))::F8)))))
theorem dK.vc{p:Addr}{I:cS}{F:cR}{Q:cW}  (h:dK.V (fun W a b c d e=>(W,Obj.cells #[.int .u8 a,.string b,.int .u8 c,.int .i64 d,.int .i64 e] 70 (0,0))) (fun W a b c=>(W,Obj.cells #[.string a,.int .i64 b,c] 41 (0,0))) (.int .u8) (.int .i64) .string .pointer p I F Q):cV P 18 #[.pointer (some p)] I F Q :=
 tw (A:=(eU [1001,3001] [] [36,37] ic [] [] [5005,5008] [] [] [(0,[0,1,2,4,5,6,3,7]),(4,[0,1,2,4,5,6,3,7,8,9])] [] [(0,8,13,[9,10,11,12,13,14,15,16],[8,9,10,11,12,14,15,16])])) [36,37] func18 h
def fF.V(p:Addr)(s:Bs)(I:cS)(F:cR)(Q:cW)  : Prop:=∃ad:Addr,some p=some ad∧∃(m:Int),Rd I F ((ad.add 1).add 0) [.int .u8 m]∧(It (m==1) (∃a:Addr,some p=some a∧∃(m1:Bs),Rd I F ((a.add 1).add 1) [.string m1]∧Q (.returned (.bool (m1.toList==s.toList))) I F) (∃b:Addr,some p=some b∧∃(m2:Int),Rd I F ((b.add 1).add 0) [.int .u8 m2]∧(It (m2==4) (∃c:Addr,some p=some c∧∃(m3:Bs),Rd I F ((c.add 1).add 1) [.string m3]∧Q (.returned (.bool (m3.toList==s.toList))) I F) (Q (.returned (.bool false)) I F))))
theorem fF.vc{p:Addr}{s:Bs}{I:cS}{F:cR}{Q:cW}  (h:fF.V p s I F Q):cV P 21 #[.pointer (some p),.string s] I F Q :=
 tw (A:=(an [1005,1012] [] ic)) [] func21 h
def eO.V(vi:Int→Value)(vs:Bs→Value)(p:Addr)(a:OA)(b c:Nat)(I:cS)(F:cR)(Q:cW)  : Prop:=∃ad:Addr,some p=some ad∧∃(m:Int),Rd I F ((ad.add 1).add 0) [.int .u8 m]∧(It (m != 1) (∃d:Addr,some p=some d∧∃(m1:Int),Rd I F ((d.add 1).add 0) [.int .u8 m1]∧(It (m1 != 4) (Q (.returned (vi (-1))) I F) (∃e:Addr,some p=some e∧∃(m2:Bs),Rd I F ((e.add 1).add 1) [vs m2]∧k6 P 51 #[.slice a b c,vs m2] I (·) F vi fun r I1 F1=>Q (.returned (vi r)) I1 F1))) (∃f:Addr,some p=some f∧∃(m3:Bs),Rd I F ((f.add 1).add 1) [vs m3]∧k6 P 51 #[.slice a b c,vs m3] I (·) F vi fun r1 I2 F2=>Q (.returned (vi r1)) I2 F2))
theorem eO.vc{p:Addr}{a:OA}{b c:Nat}{I:cS}{F:cR}{Q:cW}  (h:eO.V (.int .i64) .string p a b c I F Q):cV P 41 #[.pointer (some p),.slice a b c] I F Q :=
 tw (A:=(an [1005,1012] [51] ic)) [51] func41 h
def ft.V(vi:Int→Value)(vp:OA→Value)(p:Addr)(c:OA)(d e:Nat)(I:cS)(F:cR)(Q:cW)  : Prop:=k6 P 41 (#[vp (some p),.slice c d e]) I (·) F vi fun r I1 F1=>(Dt (r<0) (cV P 19 (#[vp (some p),vi 130]) I1 F1 fun e2 I2 G2=>((e2=.returned (.tuple #[])∧∃F2:cR,List.Perm G2 F2∧cV P 18 (#[vp (some p)]) I2 F2 fun e3 I3 G3=>((e3=.returned (.tuple #[])∧∃F3:cR,List.Perm G3 F3∧Q (.returned (vi r)) I3 F3)∨(∃ch:List PanicEntry,e3=.panicked ch∧∃F4:cR,List.Perm G3 F4∧Q (.panicked ch) I3 F4)))∨(∃a:List PanicEntry,e2=.panicked a∧∃F5:cR,List.Perm G2 F5∧Q (.panicked a) I2 F5))) (cV P 18 (#[vp (some p)]) I1 F1 fun e4 I4 G4=>((e4=.returned (.tuple #[])∧∃F6:cR,List.Perm G4 F6∧Q (.returned (vi r)) I4 F6)∨(∃b:List PanicEntry,e4=.panicked b∧∃F7:cR,List.Perm G4 F7∧Q (.panicked b) I4 F7))))
theorem ft.vc{p:Addr}{a:OA}{b c:Nat}{I:cS}{F:cR}{Q:cW}  (h:ft.V (.int .i64) .pointer p a b c I F Q):cV P 23 #[.pointer (some p),.slice a b c] I F Q :=
 tw (A:=(eU [2001] [18,19] [18,19,41] ic [] [] [] [] [] [] [])) [18,19,41] func23 h
def fa.V(p:Addr)(I:cS)(F:cR)(Q:cW)  : Prop:=∃ad:Addr,some p=some ad∧∃(m:Bs),Rd I F ((ad.add 1).add 1) [.string m]∧∃a:Addr,some p=some a∧∃(m1:Int),Rd I F ((a.add 1).add 0) [.int .u8 m1]∧(It (m1 != 2) (cV P 19 (#[.pointer (some p),.int .i64 130]) I F fun e1 I1 G1=>((e1=.returned (.tuple #[])∧∃F1:cR,List.Perm G1 F1∧cV P 18 (#[.pointer (some p)]) I1 F1 fun e2 I2 G2=>((e2=.returned (.tuple #[])∧∃F2:cR,List.Perm G2 F2∧Q (.returned (.string m)) I2 F2)∨(∃ch:List PanicEntry,e2=.panicked ch∧∃F3:cR,List.Perm G2 F3∧Q (.panicked ch) I2 F3)))∨(∃b:List PanicEntry,e1=.panicked b∧∃F4:cR,List.Perm G1 F4∧Q (.panicked b) I1 F4))) (cV P 18 (#[.pointer (some p)]) I F fun e3 I3 G3=>((e3=.returned (.tuple #[])∧∃F5:cR,List.Perm G3 F5∧Q (.returned (.string m)) I3 F5)∨(∃c:List PanicEntry,e3=.panicked c∧∃F6:cR,List.Perm G3 F6∧Q (.panicked c) I3 F6))))
theorem fa.vc{p:Addr}{I:cS}{F:cR}{Q:cW}  (h:fa.V p I F Q):cV P 29 #[.pointer (some p)] I F Q :=
 tw (A:=(eU [2005] [18,19] [18,19] ic [] [] [] [] [] [] [])) [18,19] func29 h
def eA.V(p:Addr)(d:Int)(I:cS)(F:cR)(Q:cW)  : Prop:=(It (d==24) (cV P 19 (#[.pointer (some p),.int .i64 132]) I F fun e1 I1 G1=>((e1=.returned (.tuple #[])∧∃F1:cR,List.Perm G1 F1∧Q (.returned (.int .i64 (IntKind.wrap .i64 (d+1)))) I1 F1)∨(∃ch:List PanicEntry,e1=.panicked ch∧∃F2:cR,List.Perm G1 F2∧Q (.panicked ch) I1 F2))) (Q (.returned (.int .i64 (IntKind.wrap .i64 (d+1)))) I F))
theorem eA.vc{p:Addr}{d:Int}{I:cS}{F:cR}{Q:cW}  (h:eA.V p d I F Q):cV P 22 #[.pointer (some p),.int .i64 d] I F Q :=
 tw (A:=(eU [1001] [19] [19] ic [] [] [] [] [] [] [])) [19] func22 h
def eh.V(nV:Int→Int→Int→Int→Int→Bs→OA→Nat→Nat→Int→Value)(nO:Int→Int→Int→Int→Int→Bs→OA→Nat→Nat→Int→Obj)(vs:Bs→Value)(vt:Bool→Value)(vp:OA→Value)(wr:Int→Int)(p:Addr)(I:cS)(F:cR)(Q:cW)  : Prop:=∀b:Nat,∃ad:Addr,some p=some ad∧∃(m:Int),Rd I ((b,nO 0 0 0 0 0 (⟨#[]⟩:Bs) none 0 0 0)::F) ((ad.add 1).add 4) [.int .i64 m]∧∀a:Nat,∃c:Addr,some p=some c∧∃(m1:Int),Rd I ((b,nO 0 0 0 0 0 (⟨#[]⟩:Bs) none 0 0 0)::(a,nO 1 0 0 0 0 (⟨#[]⟩:Bs) none 0 0 m)::F) ((c.add 1).add 0) [.int .u8 m1]∧(It (m1==3) (∃d:Addr,some p=some d∧∃(m2:Int),Rd I ((b,nO 0 0 0 0 0 (⟨#[]⟩:Bs) none 0 0 0)::(a,nO 1 0 0 0 0 (⟨#[]⟩:Bs) none 0 0 m)::F) ((d.add 1).add 2) [.int .u8 m2]∧∃e:Addr,some p=some e∧∃(m3:Int),Rd I F ((e.add 1).add 3) [.int .i64 m3]∧cV P 18 (#[vp (some p)]) I ((b,nO 0 0 0 0 0 (⟨#[]⟩:Bs) none 0 0 0)::(a,nO 1 0 m2 m3 0 (⟨#[]⟩:Bs) none 0 0 m)::F) fun e1 I1 G1=>((e1=.returned (.tuple #[])∧∃F1:cR,List.Perm G1 ((b,nO 0 0 0 0 0 (⟨#[]⟩:Bs) none 0 0 0)::(a,nO 1 0 m2 m3 0 (⟨#[]⟩:Bs) none 0 0 m)::F1)∧Q (.returned (.tuple #[nV 1 0 m2 m3 0 (⟨#[]⟩:Bs) none 0 0 m,vt true])) I1 F1)∨(∃ch:List PanicEntry,e1=.panicked ch∧∃F2:cR,List.Perm G1 ((b,nO 0 0 0 0 0 (⟨#[]⟩:Bs) none 0 0 0)::(a,nO 1 0 m2 m3 0 (⟨#[]⟩:Bs) none 0 0 m)::F2)∧Q (.panicked ch) I1 F2))) (∀(b1:Nat) (I2:cS),cS.le I I2→I2 b1=some (Obj.cells #[vs (⟨#[102,97,108,115,101]⟩:Bs),vs (⟨#[116,114,117,101]⟩:Bs),vs (⟨#[98,117,121]⟩:Bs),vs (⟨#[115,101,108,108]⟩:Bs)] 9 (0,0))→k6 P 41 (#[vp (some p),.slice (some ⟨b1,0,none⟩) 4 4]) I2 ((b,nO 0 0 0 0 0 (⟨#[]⟩:Bs) none 0 0 0)::(a,nO 1 0 0 0 0 (⟨#[]⟩:Bs) none 0 0 m)::·) F (.int .i64) fun r I3 F3=>(Dt (r<0) (Q (.returned (.tuple #[nV 0 0 0 0 0 (⟨#[]⟩:Bs) none 0 0 0,vt false])) I3 F3) (Dt (r>1) (cV P 18 (#[vp (some p)]) I3 ((b,nO 0 0 0 0 0 (⟨#[]⟩:Bs) none 0 0 0)::(a,nO 1 0 6 (wr (r-1)) 0 (⟨#[]⟩:Bs) none 0 0 m)::F3) fun e3 I4 G3=>((e3=.returned (.tuple #[])∧∃F4:cR,List.Perm G3 ((b,nO 0 0 0 0 0 (⟨#[]⟩:Bs) none 0 0 0)::(a,nO 1 0 6 (wr (r-1)) 0 (⟨#[]⟩:Bs) none 0 0 m)::F4)∧Q (.returned (.tuple #[nV 1 0 6 (wr (r-1)) 0 (⟨#[]⟩:Bs) none 0 0 m,vt true])) I4 F4)∨(∃f:List PanicEntry,e3=.panicked f∧∃F5:cR,List.Perm G3 ((b,nO 0 0 0 0 0 (⟨#[]⟩:Bs) none 0 0 0)::(a,nO 1 0 6 (wr (r-1)) 0 (⟨#[]⟩:Bs) none 0 0 m)::F5)∧Q (.panicked f) I4 F5))) (cV P 18 (#[vp (some p)]) I3 ((b,nO 0 0 0 0 0 (⟨#[]⟩:Bs) none 0 0 0)::(a,nO 1 0 5 r 0 (⟨#[]⟩:Bs) none 0 0 m)::F3) fun e4 I5 G4=>((e4=.returned (.tuple #[])∧∃F6:cR,List.Perm G4 ((b,nO 0 0 0 0 0 (⟨#[]⟩:Bs) none 0 0 0)::(a,nO 1 0 5 r 0 (⟨#[]⟩:Bs) none 0 0 m)::F6)∧Q (.returned (.tuple #[nV 1 0 5 r 0 (⟨#[]⟩:Bs) none 0 0 m,vt true])) I5 F6)∨(∃g:List PanicEntry,e4=.panicked g∧∃F7:cR,List.Perm G4 ((b,nO 0 0 0 0 0 (⟨#[]⟩:Bs) none 0 0 0)::(a,nO 1 0 5 r 0 (⟨#[]⟩:Bs) none 0 0 m)::F7)∧Q (.panicked g) I5 F7)))))))
theorem eh.vc{p:Addr}{I:cS}{F:cR}{Q:cW}  (h:eh.V (fun k o t n f s a l c q=>.agg #[.int .u8 k,.int .u8 o,.int .u8 t,.int .i64 n,.int .u8 f,.string s,.slice a l c,.int .i64 q]) (fun k o t n f s a l c q=>.cells #[.int .u8 k,.int .u8 o,.int .u8 t,.int .i64 n,.int .u8 f,.string s,.slice a l c,.int .i64 q] 29 (0,0)) .string .bool .pointer (IntKind.wrap .i64) p I F Q):cV P 45 #[.pointer (some p)] I F Q :=
 tw (A:=(eU [2005,5001,8001] [18] [18,41] ic [] [4001] [] [(3,11,[1])] [] [] [(3,12)])) [18,41] func45 h
end Go.Lx
namespace Go.Lx
open Go.Vc
def dA(I:cS)(G:cR)(t:ByteArray)(b:Nat)(k:Tok)(f:Int):Prop:=I b=some (wS t k f)∨(b,wS t k f)∈G
theorem dA.rd{I:cS}{G:cR}{t:ByteArray}{b:Nat}{k:Tok}{f:Int}(h:dA I G t b k f):Rd I G (⟨b,0,none⟩:Addr) (yU t k f):=⟨rfl,_,_,_,h,fun j hj=>by simp⟩
theorem dA.mono{I J:cS}{G H:cR}{t:ByteArray}{b:Nat}{k:Tok}{f:Int}(h:dA I G t b k f)(hl:cS.le I J)(hs:∀x,x∈G→x∈H):dA J H t b k f:=h.imp (fun h=>hl.at h) (hs _)
theorem dA.of{I:cS}{F G:cR}{t:ByteArray}{b:Nat}{k:Tok}{f:Int}(h:F.Perm (pX t b k f::G)):dA I F t b k f:=.inr (h.mem_iff.2 (.head _))
theorem ej{I:cS}{F:cR}{t:ByteArray}{b:Nat}{k:Tok}{f:Int}(h:dA I F t b k f)(e:Int):cV P 19 #[.pointer (some ⟨b,0,none⟩),.int .i64 e] I F fun e' I' G=>c7 ⟨e,k.pos,false⟩ F e' G:=by
 refine eN.vc ?_
 unfold eN.V
 exact⟨_,rfl,_,h.rd.dp (p:=1) (q:=4) rfl,fun b1=>⟨b1,_,[],[],rfl,⟨rfl,rfl⟩,.refl _⟩⟩
theorem ub{I:cS}{G:cR}{b ty:Nat}{v:Value}(h:(b,Obj.cells #[v] ty (0,0))∈G):Rd I G (⟨b,0,none⟩:Addr) [v]:=Rd.vr h 0 fun j hj=>by
 have:j=0:=by simpa using hj
 subst this;rfl
theorem qy{x p:Nat×Obj}{F F0:cR}(h:F.Perm (p::F0)):(x::F).Perm (p::x::F0):=(h.cons x).trans (.swap ..)
theorem eW{x y p:Nat×Obj}{F F0:cR}(h:F.Perm (p::F0)):(x::y::F).Perm (p::x::y::F0):=qy (qy h)
theorem qz{x y z p:Nat×Obj}{F F0:cR}(h:F.Perm (p::F0)):(x::y::z::F).Perm (p::x::y::z::F0):=qy (qy (qy h))
theorem sm{x y z u p:Nat×Obj}{F F0:cR}(h:F.Perm (p::F0)):(x::y::z::u::F).Perm (p::x::y::z::u::F0):=qy (qy (qy (qy h)))
theorem c7.tail{f:PF}{x:Nat×Obj}{F F0 G:cR}{e:Ending}(h:c7 f F e G)(p:F.Perm (x::F0)):c7 f F0 e G:=c7.more (A:=[x]) (h.perm p (.refl _))
theorem te{t:ByteArray}{f:Int}(h0:0≤f)(h1:f≤t.size):fp (cut t f t.size) t f :=
 ⟨h0,by rw[gC h0 h1 (Int.le_refl _)];omega,fun k g0 g1=>by
   rw[gC h0 h1 (Int.le_refl _)] at g1
   rw[oG h0 g0 (by omega) (Int.le_refl _),Int.add_comm]⟩
theorem jT{t:ByteArray}(hs:(t.size:Int)≤4096){f:Int}(h0:0≤f)(h1:f≤t.size){e p:Int}(ht:fT t f=.bad e p)(I:cS)(F:cR):cV P 37 #[.string t,.int .i64 f] I F (k8 (.int .i64 p) F):=by
 have hB:=te h0 h1
 have hz:=gC h0 h1 (Int.le_refl _)
 have hp:0≤p∧p≤t.size:=by
  have ho:=gn (s:=t) h1
  rcases fJ h0 h1 with ⟨_,h,_⟩ | ⟨e',h,_⟩
  ·rw[ht] at h;cases h
  ·rw[ht] at h
   have:p=dj t f:=(TR.bad.inj h).2
   omega
 have htk:=hB.tok (f:=0) (by decide) (by omega)
 rw[Int.zero_add,ht] at htk
 have hb:fT (cut t f t.size) 0=.bad e (p-f):=by
  cases hc:fT (cut t f t.size) 0 with
  | ok u=>rw[hc] at htk;cases htk
  | bad e' p' =>
    rw[hc] at htk
    obtain⟨rfl,rfl⟩:=TR.bad.inj htk
    rw[show p'+f-f=p' by omega]
 have hT:lJ (cut t f t.size)=.error (e,p-f):=by
  unfold lJ
  rw[if_neg (by omega),pP (by decide) (by omega),hb]
 refine gS.vc ?_
 unfold gS.V
 refine⟨⟨h0,h1,Int.le_refl _⟩,(rL (s:=cut t f t.size) (by unfold ef;omega) I F).mono fun e1 I1 G l1 hr=>?_⟩
 obtain⟨rfl,hr⟩:=hr
 rw[hT] at hr
 refine⟨_,_,_,_,_,hr,_,.refl _, ?_,rfl⟩
 rw[iw (by omega),show f+(p-f)=p by omega]
theorem uc{I:cS}{F F0:cR}{t:ByteArray}(hs:(t.size:Int)≤4096){b:Nat}{k:Tok}{f:Int}(h0:0≤f)(h1:f≤t.size)(hF:F.Perm (pX t b k f::F0)) :
  cV P 18 #[.pointer (some ⟨b,0,none⟩)] I F fun e' I' G=>match fT t f with
   | .ok k'=>e'=.returned (.tuple #[])∧G.Perm (pX t b k' (gh k')::F0)
   | .bad e p=>c7 ⟨e,p,true⟩ F0 e' G:=by
 have hp:=dA.of (I:=I) hF
 refine dK.vc ?_
 unfold dK.V
 have hshort:ef t:=by unfold ef;omega
 have hnx:pN t f=match fT t f with
  | .ok t'=>.tuple #[t'.v,.int .i64 (t'.pos+t'.text.size),.int .i64 0]
  | .bad e p=>.tuple #[(ik 0).v,.int .i64 0,.int .i64 e]:=by unfold pN;rw[if_neg (by omega),if_neg (by omega)];cases fT t f<;>rfl
 have hst:∀(k':Tok),pX t b k' (gh k')=(((⟨b,0,none⟩:Addr).add 6).block,Obj.cells (c9 ((⟨b,0,none⟩:Addr).add 6).off [.int .i64 (gh k')] (c9 ((⟨b,0,none⟩:Addr).add 1).off [.int .u8 k'.kind,.string k'.text,.int .u8 k'.gX,.int .i64 k'.n,.int .i64 k'.pos] (yU t k f))).toArray 72 (0,0)):=fun k'=>by
  rw[eE,eE];rfl
 refine⟨_,rfl,_,rfl,_,hp.rd.field (o:=0) rfl,_,hp.rd.field (o:=6) rfl, ?_,fun b_t=>?_⟩
 ·refine cV.ret (j7 hshort I _) fun I1 l1=>?_
  rw[hnx]
  rcases fJ h0 h1 with ⟨k',ht,_⟩ | ⟨e,ht,he⟩
  ·rw[ht]
   refine⟨_,_,_,_,_,_,_,rfl,_,.refl _,fun b_t=>⟨fun h=>absurd h (by decide),fun _=>⟨_,rfl,yU t k f,72,F0,hF,rfl,by rw[eE];exact (by decide:1+5≤7),_,rfl,_,72,F0,.refl _,rfl,by rw[eE,eE];exact (by decide:6+1≤7),rfl, ?_⟩⟩⟩
   rw[hst k'];exact .refl _
  ·rw[ht]
   refine⟨_,_,_,_,_,_,_,rfl,_,.refl _,fun b_t=>⟨fun _=>⟨fun _=>?_,fun h=>?_⟩,fun h=>?_⟩⟩
   ·have hp1:=(hp.mono (J:=I1) (H:=(b_t,Obj.cells #[.int .u8 0,.string ⟨#[]⟩,.int .u8 0,.int .i64 0,.int .i64 0] 70 (0,0))::F) l1 fun x hx=>.tail _ hx)
    refine⟨_,rfl,_,rfl,_,hp1.rd.field (o:=0) rfl,_,hp1.rd.field (o:=6) rfl,cV.ret (jT hs h0 h1 ht I1 _) fun I2 l2=>⟨_,rfl,F,.refl _,fun b1 b2=>?_⟩⟩
    exact c7.tail (F:=F) ⟨b2,_,_,[],rfl,⟨b1,rfl,rfl⟩,.refl _⟩ hF
   ·rcases he with rfl | rfl | rfl<;>exact absurd h (by decide)
   ·rcases he with rfl | rfl | rfl<;>exact absurd h (by decide)
 ·refine cV.ret (j7 hshort I _) fun I1 l1=>?_
  rw[hnx]
  rcases fJ h0 h1 with ⟨k',ht,_⟩ | ⟨e,ht,he⟩
  ·rw[ht]
   refine⟨_,_,_,_,_,_,_,rfl,_,.refl _,⟨fun h=>absurd h (by decide),fun _=>⟨_,rfl,yU t k f,72,F0,hF,rfl,by rw[eE];exact (by decide:1+5≤7),_,rfl,_,72,F0,.refl _,rfl,by rw[eE,eE];exact (by decide:6+1≤7),rfl, ?_⟩⟩⟩
   rw[hst k'];exact .refl _
  ·rw[ht]
   refine⟨_,_,_,_,_,_,_,rfl,_,.refl _,⟨fun _=>⟨fun _=>?_,fun h=>?_⟩,fun h=>?_⟩⟩
   ·have hp1:=(hp.mono (J:=I1) (H:=(b_t,Obj.cells #[.int .u8 0,.string ⟨#[]⟩,.int .u8 0,.int .i64 0,.int .i64 0] 70 (0,0))::F) l1 fun x hx=>.tail _ hx)
    refine⟨_,rfl,_,rfl,_,hp1.rd.field (o:=0) rfl,_,hp1.rd.field (o:=6) rfl,cV.ret (jT hs h0 h1 ht I1 _) fun I2 l2=>⟨_,rfl,F,.refl _,fun b1 b2=>?_⟩⟩
    exact c7.tail (F:=F) ⟨b2,_,_,[],rfl,⟨b1,rfl,rfl⟩,.refl _⟩ hF
   ·rcases he with rfl | rfl | rfl<;>exact absurd h (by decide)
   ·rcases he with rfl | rfl | rfl<;>exact absurd h (by decide)
theorem vQ{I:cS}{F F0:cR}{t:ByteArray}(hs:4096<(t.size:Int))(hs2:ef t){b:Nat}{k:Tok}{f:Int}(hF:F.Perm (pX t b k f::F0)) :
  cV P 18 #[.pointer (some ⟨b,0,none⟩)] I F fun e' I' G=>c7 ⟨110,0,true⟩ F0 e' G:=by
 have hp:=dA.of (I:=I) hF
 refine dK.vc ?_
 unfold dK.V
 have hnx:pN t f=.tuple #[(ik 0).v,.int .i64 0,.int .i64 110]:=by unfold pN;rw[if_pos (by omega)]
 refine⟨_,rfl,_,rfl,_,hp.rd.field (o:=0) rfl,_,hp.rd.field (o:=6) rfl, ?_,fun b_t=>?_⟩
 ·refine cV.ret (j7 hs2 I _) fun I1 l1=>?_
  rw[hnx]
  exact⟨_,_,_,_,_,_,_,rfl,_,.refl _,fun b_t=>⟨fun _=>⟨fun h=>absurd h (by decide),fun _ b1 b2=>c7.tail (F:=F) ⟨b2,_,_,[],rfl,⟨b1,rfl,rfl⟩,.refl _⟩ hF⟩,fun h=>absurd h (by decide)⟩⟩
 ·refine cV.ret (j7 hs2 I _) fun I1 l1=>?_
  rw[hnx]
  exact⟨_,_,_,_,_,_,_,rfl,_,.refl _,⟨fun _=>⟨fun h=>absurd h (by decide),fun _ b1 b2=>c7.tail (F:=F) ⟨b2,_,_,[],rfl,⟨b1,rfl,rfl⟩,.refl _⟩ hF⟩,fun h=>absurd h (by decide)⟩⟩
def rS(v:ByteArray):List ByteArray→Int→Int
 | [],_=>-1
 | w::r,i=>if v.toList==w.toList then i else rS v r (i+1)
theorem oS{c:PC}{s:PS}(hk:(c.now s).kind=1∨(c.now s).kind=4):∀(ws:List ByteArray) (i:Int),c.gu s ws i=rS (c.now s).text ws i
 | [],i=>rfl
 | w::r,i=>by
   rw[PC.gu,rS,oS hk r]
   have:c.eM w s=((c.now s).text.toList==w.toList):=by
    unfold PC.eM
    rcases hk with h | h<;>rw[h]<;>simp
   rw[this]
theorem any_none{c:PC}{s:PS}(h1:(c.now s).kind≠1)(h4:(c.now s).kind≠4):∀(ws:List ByteArray) (i:Int),c.gu s ws i = -1
 | [],i=>rfl
 | w::r,i=>by
   have:c.eM w s=false:=by unfold PC.eM;simp[h1,h4]
   rw[PC.gu,this,if_neg (by simp),any_none h1 h4 r]
theorem oT{v:ByteArray}{a:Option Addr}{n k:Nat}{ws:List ByteArray}{I:cS}(hS:Sl I 1 jO a n ws)(hl:n≤100)(F:cR):cV P 51 #[.slice a n k,.string v] I F (k8 (.int .i64 (rS v ws 0)) F):=by
 have hn:=hS.1
 refine gR.vc (fun x i m I' F'=>F'=F∧0≤i∧i≤n∧m=(n-i).toNat∧rS v ws 0=rS v (ws.drop i.toNat) i) ?_
 unfold gR.V
 refine⟨⟨_,rfl,by omega,by omega,rfl,rfl⟩,fun x i m1 I1 F1 l1 ⟨gF,g0,g1,gm,ge⟩=>⟨fun hlt=>?_,fun hlt=>⟨?_,gF⟩⟩⟩
 ·subst gF
  have hlt:=of_decide_eq_true hlt
  obtain⟨ad,w,ha,hw,hr⟩:=(hS.mono l1).at g0 hlt
  obtain⟨hk,rfl⟩:=List.getElem?_eq_some_iff.1 hw
  rw[List.drop_eq_getElem_cons hk,rS] at ge
  refine⟨⟨g0,hlt⟩,ad,ha,_,hr _,fun h=>⟨?_,rfl⟩,fun h=>⟨(n-(i+1)).toNat,by omega,rfl, ?_⟩⟩
  ·rw[ge,if_pos h]
  ·rw[iw (n:=i+1) (by omega)]
   refine⟨by omega,by omega,rfl, ?_⟩
   rw[ge,if_neg (by simp[h]),show (i+1).toNat=i.toNat+1 by omega]
 ·have hlt:=of_decide_eq_false hlt
  rw[ge,List.drop_eq_nil_of_le (by omega),rS]
section
variable {c:PC} {t:ByteArray} {s:PS} {b:Nat} {I:cS} {F F0:cR}
theorem lO(hl:c.Live s)(hp:dA I F t b (c.tok s.next) (gh (c.tok s.next)))(w:ByteArray):cV P 21 #[.pointer (some ⟨b,0,none⟩),.string w] I F (k8 (.bool (c.eM w s)) F):=by
 refine fF.vc ?_
 unfold fF.V
 have hn:=hl.now
 refine⟨_,rfl,_,hp.rd.dp (p:=1) (q:=0) rfl,fun h=>⟨_,rfl,_,hp.rd.dp (p:=1) (q:=1) rfl, ?_,rfl⟩,fun h=>⟨_,rfl,_,hp.rd.dp (p:=1) (q:=0) rfl,fun h2=>⟨_,rfl,_,hp.rd.dp (p:=1) (q:=1) rfl, ?_,rfl⟩,fun h2=>⟨?_,rfl⟩⟩⟩ <;>
  unfold PC.eM<;>rw[hn]<;>simp_all
theorem fD(hl:c.Live s)(hp:dA I F t b (c.tok s.next) (gh (c.tok s.next))){a:Option Addr}{n k:Nat}{ws:List ByteArray}(hS:Sl I 1 jO a n ws)(hn:n≤100) :
  cV P 41 #[.pointer (some ⟨b,0,none⟩),.slice a n k] I F (k8 (.int .i64 (c.any ws s)) F):=by
 refine eO.vc ?_
 unfold eO.V
 have hw:=hl.now
 refine⟨_,rfl,_,hp.rd.dp (p:=1) (q:=0) rfl,fun h=>⟨_,rfl,_,hp.rd.dp (p:=1) (q:=0) rfl,fun h2=>⟨?_,rfl⟩,fun h2=>⟨_,rfl,_,hp.rd.dp (p:=1) (q:=1) rfl,cV.ret (oT hS hn F) fun I1 l1=>⟨_,rfl,F,.refl _, ?_,rfl⟩⟩⟩,fun h=>⟨_,rfl,_,hp.rd.dp (p:=1) (q:=1) rfl,cV.ret (oT hS hn F) fun I1 l1=>⟨_,rfl,F,.refl _, ?_,rfl⟩⟩⟩
 ·unfold PC.any;rw[any_none (by rw[hw];simpa using h) (by rw[hw];simpa using h2)]
 ·unfold PC.any;rw[oS (.inr (by rw[hw];simpa using h2)),hw]
 ·unfold PC.any;rw[oS (.inl (by rw[hw];simpa using h)),hw]
def PC.oneOf(c:PC)(ws:List ByteArray)(s:PS):Int×PS:=(c.any ws s,if c.any ws s<0 then c.c5 130 s else s.inc)
theorem kV(c:PC)(w:ByteArray)(s:PS):(c.take w s).2=(c.oneOf [w] s).2:=by
 unfold PC.take PC.oneOf PC.any PC.gu PC.gu
 split
 ·rw[if_neg (by decide)]
 ·rw[if_pos (by decide)]
theorem fE{ws:List ByteArray}(hl:c.Live s)(h:0≤c.any ws s):(c.tok s.next).kind≠0:=fun hk=>by
 have:c.any ws s = -1:=any_none (by rw[hl.now,hk];decide) (by rw[hl.now,hk];decide) ws 0
 omega
theorem dC(hc:c.Of t)(hl:c.Live s)(hk:(c.tok s.next).kind≠0)(hF:F.Perm (c.px t b s::F0)):cV P 18 #[.pointer (some ⟨b,0,none⟩)] I F (cZ c t b zH F0 ((),s.inc)):=by
 have hfr:jE c.l 0 (s.next+1)=gh (c.tok s.next):=rfl
 have hr:=hc.yT (i:=s.next+1) hl.2
 rw[hfr] at hr
 refine (uc hc.len hr.1 hr.2 hF).mono fun e I' G l h=>?_
 rcases hc.next hl.2 hk with h1 | ⟨h1,h2,h3⟩
 ·have ht:=hc.tk h1
  rw[hfr] at ht
  rw[ht] at h
  exact .inl ⟨⟨hl.1,h1⟩,_,[],h.1,⟨rfl,rfl⟩,h.2⟩
 ·rw[hfr] at h3
  rw[h3] at h
  rcases hl.inc hc hk with g | ⟨_,g⟩
  ·have:=g.2
   have h9:s.inc.next=s.next+1:=rfl
   omega
  ·exact .inr ⟨_,g,h⟩
theorem mq(hc:c.Of t)(hl:c.Live s){a:Option Addr}{n k:Nat}{ws:List ByteArray}(hS:Sl I 1 jO a n ws)(hn:n≤100)(hF:F.Perm (c.px t b s::F0)) :
  cV P 23 #[.pointer (some ⟨b,0,none⟩),.slice a n k] I F (cZ c t b zI F0 (c.oneOf ws s)):=by
 refine ft.vc ?_
 unfold ft.V
 refine cV.ret (fD hl (.of hF) hS hn) fun I1 l1=>⟨_,rfl,F,.refl _,fun h=>?_,fun h=>?_⟩
 ·have h:=of_decide_eq_true h
  refine (ej (.of hF) 130).mono fun e I2 G l2 hf=>.inr ?_
  refine c7.pass hf fun e' hf'=>.inr ⟨_, ?_,hf'.tail hF⟩
  show c.dw _ (if c.any ws s<0 then c.c5 130 s else s.inc)
  rw[if_pos h];exact (hl.c5 (by decide)).2
 ·have h:=of_decide_eq_false h
  have hk:=fE (ws:=ws) hl (by omega)
  have e2:(c.oneOf ws s).2=s.inc:=if_neg h
  refine cZ.use (dC hc hl hk hF) (fun v H I2 G l2 hL hv hG=>.inl ?_) fun f e I2 G l2 hd hf=>.inr ?_
  ·obtain⟨rfl,rfl⟩:=hv
   exact⟨rfl,G,.refl _,.inl ⟨by rw[e2];exact hL,_,[],rfl,⟨rfl,rfl⟩,by rw[e2];exact hG⟩⟩
  ·exact c7.pass hf fun e' hf'=>.inr ⟨f,by rw[e2];exact hd,hf'⟩
theorem gx(hc:c.Of t)(hl:c.Live s)(hF:F.Perm (c.px t b s::F0)):cV P 29 #[.pointer (some ⟨b,0,none⟩)] I F (cZ c t b zJ F0 (c.name s)):=by
 have hp:=dA.of (I:=I) hF
 have hw:=hl.now
 refine fa.vc ?_
 unfold fa.V
 refine⟨_,rfl,_,hp.rd.dp (p:=1) (q:=1) rfl,_,rfl,_,hp.rd.dp (p:=1) (q:=0) rfl,fun h=>?_,fun h=>?_⟩
 ·have h:(c.tok s.next).kind≠2:=by simpa using h
  refine (ej hp 130).mono fun e I2 G l2 hf=>.inr ?_
  refine c7.pass hf fun e' hf'=>.inr ⟨_, ?_,hf'.tail hF⟩
  unfold PC.name
  rw[hw,if_neg h];exact (hl.c5 (by decide)).2
 ·have h:(c.tok s.next).kind=2:=by simpa using h
  have e1:c.name s=((c.tok s.next).text,s.inc):=by unfold PC.name;rw[hw,if_pos h]
  rw[e1]
  refine cZ.use (dC hc hl (by rw[h];decide) hF) (fun v H I2 G l2 hL hv hG=>.inl ?_) fun f e I2 G l2 hd hf=>.inr ?_
  ·obtain⟨rfl,rfl⟩:=hv
   exact⟨rfl,G,.refl _,.inl ⟨hL,_,[],rfl,⟨rfl,rfl⟩,hG⟩⟩
  ·exact c7.pass hf fun e' hf'=>.inr ⟨f,hd,hf'⟩
theorem kc{k:Tok}{f:Int}(hp:dA I F t b k f){d:Int}(h0:0≤d)(h1:d≤24):cV P 22 #[.pointer (some ⟨b,0,none⟩),.int .i64 d] I F fun e I' G=>(d<24∧e=.returned (.int .i64 (d+1))∧G=F)∨(d=24∧c7 ⟨132,k.pos,false⟩ F e G):=by
 refine eA.vc ?_
 unfold eA.V
 rw[iw (n:=d+1) (by omega)]
 refine⟨fun h=>?_,fun h=>.inl ⟨?_,rfl,rfl⟩⟩
 ·have h:d=24:=by simpa using h
  refine (ej hp 132).mono fun e I2 G l2 hf=>.inr ?_
  exact c7.pass (I:=I2) (Q:=fun e I' G=>(d<24∧e=.returned (.int .i64 (d+1))∧G=F)∨(d=24∧c7 ⟨132,k.pos,false⟩ F e G)) hf fun e' hf'=>.inr ⟨h,hf'⟩
 ·have h:d≠24:=by simpa using h
  omega
def nu(l:Int):List ByteArray:=if l=2 then zB else if l=3 then xO else if l=4 then nb else if l=5 then xN else wE
def uM(l:Int):Int:=if l=2 then 18 else if l=3 then 17 else if l=4 then 11 else if l=5 then 6 else 8
theorem rT(l:Int)(I:cS)(F:cR):cV P 40 #[.int .i64 l] I F fun e I' G=>∃(a:Option Addr) (n k:Nat),e=.returned (.tuple #[.slice a n k,.int .u8 (uM l)])∧Sl I' 1 jO a n (nu l)∧n≤100∧G=F:=by
 refine iA.vc ?_
 unfold iA.V
 have key:∀{b:Nat} {I1:cS} {ws:List ByteArray} {cs:Array Value},I1 b=some (.cells cs 9 (0,0))→cs.toList=ws.flatMap jO→Sl I1 1 jO (some ⟨b,0,none⟩) ws.length ws:=fun hb hc=>Sl.jM (f:=jO) (z:=1) (fun _=>rfl) hb hc
 refine⟨fun h=>fun b I1 l1 hb=>?_,fun h2=>⟨fun h=>fun b I1 l1 hb=>?_,fun h3=>⟨fun h=>fun b I1 l1 hb=>?_,fun h4=>⟨fun h=>fun b I1 l1 hb=>?_,fun h5=>fun b I1 l1 hb=>?_⟩⟩⟩⟩
 ·have h:l=2:=by simpa using h
  subst h
  exact⟨_,_,_,rfl,key (ws:=zB) hb rfl,by decide,rfl⟩
 ·have h:l=3:=by simpa using h
  subst h
  exact⟨_,_,_,rfl,key (ws:=xO) hb rfl,by decide,rfl⟩
 ·have h:l=4:=by simpa using h
  subst h
  exact⟨_,_,_,rfl,key (ws:=nb) hb rfl,by decide,rfl⟩
 ·have h:l=5:=by simpa using h
  subst h
  exact⟨_,_,_,rfl,key (ws:=xN) hb rfl,by decide,rfl⟩
 ·have e2:l≠2:=by simpa using h2
  have e3:l≠3:=by simpa using h3
  have e4:l≠4:=by simpa using h4
  have e5:l≠5:=by simpa using h5
  have hO:uM l=8:=by unfold uM;rw[if_neg e2,if_neg e3,if_neg e4,if_neg e5]
  have hW:nu l=wE:=by unfold nu;rw[if_neg e2,if_neg e3,if_neg e4,if_neg e5]
  rw[hO,hW]
  exact⟨_,_,_,rfl,key (ws:=wE) hb rfl,by decide,rfl⟩
end
end Go.Lx
namespace Go.Lx
open Go.Vc
theorem uN{t:ByteArray}{f:Int}{k:Tok}(h0:0≤f)(h1:f≤t.size)(h:fT t f=.ok k)(hk:k.kind=4):ia (bt k.text 0)=false:=by
 have ho:=gn (s:=t) h1
 unfold fT at h
 simp only at h
 split at h
 ·have:=TR.ok.inj h
  subst this
  exact absurd hk (by show ¬(0:Int)=4;decide)
 ·rename_i hne
  split at h
  ·obtain⟨E,e2,_,_,_,rfl⟩:=wG h
   exact absurd hk (by show ¬(3:Int)=4;decide)
  ·split at h
   ·unfold mS at h
    simp only at h
    split at h
    ·cases h
    ·have:=TR.ok.inj h
     subst this
     simp only at hk
     split at hk<;>omega
   ·rename_i hs
    unfold mT at h
    split at h
    ·cases h
    ·rename_i hm
     have:=TR.ok.inj h
     subst this
     have hr:=iy t (dj t f)
     have hl:=lH (s:=t) (i:=dj t f) (by omega)
     show ia (bt (cut t (dj t f) (dj t f+fW t (dj t f))) 0)=false
     rw[oG (by omega) (Int.le_refl 0) (by omega) (by omega),Int.add_zero]
     simpa using hs
theorem tf{x w:ByteArray}(h:ia (bt x 0)=false)(hw:ia (bt w 0)=true):(x.toList==w.toList)=false:=by
 rw[Bool.eq_false_iff]
 intro he
 have he:x.toList=w.toList:=by simpa using he
 have:x=w:=yA he
 rw[this,hw] at h;cases h
theorem qA{x y:List UInt8}(h:(x==y)=false):x≠y:=fun e=>by rw[e] at h;simp at h
def jw:List ByteArray:=[(⟨#[102,97,108,115,101]⟩:ByteArray),(⟨#[116,114,117,101]⟩:ByteArray),(⟨#[98,117,121]⟩:ByteArray),(⟨#[115,101,108,108]⟩:ByteArray)]
def yd(i:Int)(pos:Int):Px:=if i>1 then rM 6 (i-1) pos else rM 5 i pos
section
variable {c:PC} {t:ByteArray} {s:PS}
theorem qB(hl:c.Live s)(h:(c.tok s.next).kind=3):c.literal s=((rM (c.tok s.next).gX (c.tok s.next).n (c.tok s.next).pos,true),s.inc):=by
 unfold PC.literal;rw[hl.now,if_pos h]
theorem ud(hc:c.Of t)(hl:c.Live s)(h:(c.tok s.next).kind≠3):c.literal s=if c.any jw s<0 then ((fs,false),s) else ((yd (c.any jw s) (c.tok s.next).pos,true),s.inc):=by
 have hn:=hl.now
 have hr:=hc.yT (Nat.le_of_lt hl.2)
 have hmk:=fun hk=>uN hr.1 hr.2 (hc.tk hl.2) hk
 have hw:∀w∈jw,ia (bt w 0)=true:=by decide
 have hi:∀w∈jw,c.eM w s=((c.tok s.next).text.toList==w.toList&&(c.tok s.next).kind==1):=fun w hwm=>by
  unfold PC.eM;rw[hn]
  by_cases h4:(c.tok s.next).kind=4
  ·rw[tf (hmk h4) (hw w hwm)];rfl
  ·have:((c.tok s.next).kind==4)=false:=by simpa using h4
   rw[this,Bool.or_false]
 have ea:c.any jw s=if (c.tok s.next).kind=1 then (if (c.tok s.next).text.toList=(⟨#[102,97,108,115,101]⟩:ByteArray).toList then 0 else if (c.tok s.next).text.toList=(⟨#[116,114,117,101]⟩:ByteArray).toList then 1 else if (c.tok s.next).text.toList=(⟨#[98,117,121]⟩:ByteArray).toList then 2 else if (c.tok s.next).text.toList=(⟨#[115,101,108,108]⟩:ByteArray).toList then 3 else -1) else -1:=by
  show c.gu s jw 0=_
  unfold jw
  rw[PC.gu,PC.gu,PC.gu,PC.gu,PC.gu,hi _ (.head _),hi _ (.tail _ (.head _)),hi _ (.tail _ (.tail _ (.head _))),hi _ (.tail _ (.tail _ (.tail _ (.head _))))]
  by_cases h1:(c.tok s.next).kind=1
  ·rw[if_pos h1]
   simp only[h1,Bool.and_eq_true,beq_iff_eq,and_true]
   rfl
  ·rw[if_neg h1]
   have:((c.tok s.next).kind==1)=false:=by simpa using h1
   simp only[this,Bool.and_false,Bool.false_eq_true,if_false]
 have d1:(⟨#[116,114,117,101]⟩:ByteArray).toList≠(⟨#[102,97,108,115,101]⟩:ByteArray).toList:=qA (by kernel_rfl)
 have d2:(⟨#[98,117,121]⟩:ByteArray).toList≠(⟨#[115,101,108,108]⟩:ByteArray).toList:=qA (by kernel_rfl)
 have d3:(⟨#[102,97,108,115,101]⟩:ByteArray).toList≠(⟨#[116,114,117,101]⟩:ByteArray).toList:=qA (by kernel_rfl)
 have d4:(⟨#[115,101,108,108]⟩:ByteArray).toList≠(⟨#[98,117,121]⟩:ByteArray).toList:=qA (by kernel_rfl)
 unfold PC.literal
 rw[hn,if_neg h,ea]
 generalize (c.tok s.next).text.toList=x
 by_cases h1:(c.tok s.next).kind=1
 ·rw[if_pos h1]
  by_cases x0:x=(⟨#[102,97,108,115,101]⟩:ByteArray).toList
  ·subst x0
   rw[if_pos rfl,if_pos ⟨h1,.inr rfl⟩,if_neg d3,if_neg (by decide)];rfl
  ·rw[if_neg x0]
   by_cases x1:x=(⟨#[116,114,117,101]⟩:ByteArray).toList
   ·subst x1
    rw[if_pos rfl,if_pos ⟨h1,.inl rfl⟩,if_pos rfl,if_neg (by decide)];rfl
   ·rw[if_neg x1,if_neg (by rintro ⟨_,h | h⟩;exact x1 h;exact x0 h)]
    by_cases x2:x=(⟨#[98,117,121]⟩:ByteArray).toList
    ·subst x2
     rw[if_pos rfl,if_pos ⟨h1,.inl rfl⟩,if_neg d2,if_neg x1,if_neg (by decide)];rfl
    ·rw[if_neg x2]
     by_cases x3:x=(⟨#[115,101,108,108]⟩:ByteArray).toList
     ·subst x3
      rw[if_pos rfl,if_pos ⟨h1,.inr rfl⟩,if_pos rfl,if_neg x1,if_neg (by decide)];rfl
     ·rw[if_neg (by rintro ⟨_,h | h⟩;exact x2 h;exact x3 h),if_neg x1,if_neg x3,if_pos (by decide)]
 ·rw[if_neg h1,if_neg (fun h=>h1 h.1),if_neg (fun h=>h1 h.1),if_pos (by decide)]
def zK(x:Px×Bool)(v:Value)(H:cR):Prop:=∃n:Nd,v=.tuple #[n.v,.bool x.2]∧n.px=x.1∧dI 29 false n H∧H=[]
theorem dI.leaf{k o ty n f p:Int}{w:ByteArray}:dI 29 false (.mk k o ty n f w none 0 [] p) [] :=
 .mk (t:=.mk k o ty n f w none 0 [] p) (hs:=fun _=>[]) Acc.nil (fun h=>by cases h) fun i k h=>by simp[Nd.kids] at h
theorem kW(hc:c.Of t)(hl:c.Live s){b:Nat}{I:cS}{F F0:cR}(hF:F.Perm (c.px t b s::F0)):cV P 45 #[.pointer (some ⟨b,0,none⟩)] I F (cZ c t b zK F0 (c.literal s)):=by
 have hp:=dA.of (I:=I) hF
 refine eh.vc ?_
 unfold eh.V
 intro b0
 refine⟨_,rfl,_,(hp.mono (cS.le_refl I) fun x hx=>.tail _ hx).rd.dp (p:=1) (q:=4) rfl,fun bn=>⟨_,rfl,_,(hp.mono (cS.le_refl I) fun x hx=>.tail _ (.tail _ hx)).rd.dp (p:=1) (q:=0) rfl,fun h=>?_,fun h=>?_⟩⟩
 ·have h:(c.tok s.next).kind=3:=by simpa using h
  have e1:=qB hl h
  refine⟨_,rfl,_,(hp.mono (cS.le_refl I) fun x hx=>.tail _ (.tail _ hx)).rd.dp (p:=1) (q:=2) rfl,_,rfl,_,hp.rd.dp (p:=1) (q:=3) rfl, ?_⟩
  refine cZ.use (dC hc hl (by rw[h];decide) (eW hF)) (fun v H I2 G l2 hL hv hG=>.inl ?_) fun f e I2 G l2 hd hf=>.inr ?_
  ·obtain⟨rfl,rfl⟩:=hv
   exact⟨rfl,c.px t b s.inc::F0,hG.trans (cT fun z=>by simp only[cU,cX,cY];omega),.inl ⟨by rw[e1];exact hL,_,[],rfl,by rw[e1];exact⟨.mk 1 0 (c.tok s.next).gX (c.tok s.next).n 0 ⟨#[]⟩ none 0 [] (c.tok s.next).pos,rfl,by simp only[Nd.px,Nd.rD];rfl,dI.leaf,rfl⟩,by rw[e1];exact .refl _⟩⟩
  ·exact c7.dk [_,_] hf fun e' G' hf'=>.inr ⟨f,by rw[e1];exact hd,hf'⟩
 ·have h:(c.tok s.next).kind≠3:=by simpa using h
  have e1:=ud hc hl h
  intro b1 I2 l2 hb1
  have hS:Sl I2 1 jO (some ⟨b1,0,none⟩) 4 jw:=Sl.jM (f:=jO) (z:=1) (l:=jw) (fun _=>rfl) hb1 rfl
  refine cV.ret (fD hl (hp.mono l2 fun x hx=>.tail _ (.tail _ hx)) hS (by decide)) fun I3 l3=>⟨_,rfl,F,.refl _,fun hi=>?_,fun hi=>?_⟩
  ·have hi:=of_decide_eq_true hi
   rw[if_pos hi] at e1
   exact .inl ⟨by rw[e1];exact hl,_,[],rfl,by rw[e1];exact⟨jG,rfl,by simp only[jG,Nd.px,Nd.rD];rfl,dI.leaf,rfl⟩,by rw[e1];exact hF⟩
  ·have hi:=of_decide_eq_false hi
   rw[if_neg hi] at e1
   have hk:=fE (ws:=jw) hl (by omega)
   have hlt:=(fq (c:=c) (s:=s) (ws:=jw) (by omega)).2
   have hlt:c.any jw s<4:=hlt
   refine⟨fun h2=>?_,fun h2=>?_⟩
   ·have h2:=of_decide_eq_true h2
    rw[iw (n:=c.any jw s-1) (by omega)]
    have e3:yd (c.any jw s) (c.tok s.next).pos=rM 6 (c.any jw s-1) (c.tok s.next).pos:=if_pos h2
    refine cZ.use (dC hc hl hk (eW hF)) (fun v H I4 G l4 hL hv hG=>.inl ?_) fun f e I4 G l4 hd hf=>.inr ?_
    ·obtain⟨rfl,rfl⟩:=hv
     exact⟨rfl,c.px t b s.inc::F0,hG.trans (cT fun z=>by simp only[cU,cX,cY];omega),.inl ⟨by rw[e1];exact hL,_,[],rfl,by rw[e1,e3];exact⟨.mk 1 0 6 (c.any jw s-1) 0 ⟨#[]⟩ none 0 [] (c.tok s.next).pos,rfl,by simp only[Nd.px,Nd.rD];rfl,dI.leaf,rfl⟩,by rw[e1];exact .refl _⟩⟩
    ·exact c7.dk [_,_] hf fun e' G' hf'=>.inr ⟨f,by rw[e1];exact hd,hf'⟩
   ·have h2:=of_decide_eq_false h2
    have e3:yd (c.any jw s) (c.tok s.next).pos=rM 5 (c.any jw s) (c.tok s.next).pos:=if_neg h2
    refine cZ.use (dC hc hl hk (eW hF)) (fun v H I4 G l4 hL hv hG=>.inl ?_) fun f e I4 G l4 hd hf=>.inr ?_
    ·obtain⟨rfl,rfl⟩:=hv
     exact⟨rfl,c.px t b s.inc::F0,hG.trans (cT fun z=>by simp only[cU,cX,cY];omega),.inl ⟨by rw[e1];exact hL,_,[],rfl,by rw[e1,e3];exact⟨.mk 1 0 5 (c.any jw s) 0 ⟨#[]⟩ none 0 [] (c.tok s.next).pos,rfl,by simp only[Nd.px,Nd.rD];rfl,dI.leaf,rfl⟩,by rw[e1];exact .refl _⟩⟩
    ·exact c7.dk [_,_] hf fun e' G' hf'=>.inr ⟨f,by rw[e1];exact hd,hf'⟩
end
end Go.Lx
namespace Go.Lx
open Go.Vc Go.Proofs.Tryd
def mr:List (Nat×List Sh):=[(0,[]),(3,[.one (.int .i64)]),(4,[.one .bool]),(9,[.one .str]),(27,[.one .slc]),(29,[.agg [(.int .u8),(.int .u8),(.int .u8),(.int .i64),(.int .u8),.str,.slc,(.int .i64)]]),(55,[.one .ptr]),(68,[.one (.int .u8)]),(107,[.one .slc,.one (.int .u8)]),(123,[.agg [(.int .u8),(.int .u8),(.int .u8),(.int .i64),(.int .u8),.str,.slc,(.int .i64)],.one .bool])]
def fu.V(al ah:Nat→Nat×Obj)(nV:Int→Int→Int→Int→Int→Bs→OA→Nat→Nat→Int→Value)(nO:Int→Int→Int→Int→Int→Bs→OA→Nat→Nat→Int→Obj)(vb vi:Int→Value)(vs:Bs→Value)(vl:OA→Nat→Nat→Value)(vp:OA→Value)(wr:Int→Int)(p:Addr)(aj d:Int)(I:cS)(F:cR)(Q:cW)(Inv18:Int→OA→Int→Int→Int→Int→Int→Int→Bs→OA→Nat→Nat→Int→Nat→cS→cR→Prop):Prop:=∀w:Nat,∀a:Nat,∀b:Nat,(Dt (aj<6) (sk P 40 #[vi aj] I ((al w)::(ah a)::(b,nO 0 0 0 0 0 (⟨#[]⟩:Bs) none 0 0 0)::·) F fun e1 I1 G1=>∃(aJ:OA) (aK aL:Nat) (r1:Int),e1=.returned (.tuple #[vl aJ aK aL,vb r1])∧G1 fun F1=>cV P 39 (#[vi d,vp (some ⟨w,0,none⟩),vp (some ⟨a,0,none⟩)]) I1 ((al w)::(ah a)::(b,nO 0 0 0 0 0 (⟨#[]⟩:Bs) none 0 0 0)::F1) fun e2 I2 G2=>((∃(br bs bt bu bv:Int) (bw:Bs) (aM:OA) (aN aO:Nat) (bx:Int),e2=.returned (nV br bs bt bu bv bw aM aN aO bx)∧∃(aP:OA) (am:Int),∃F2:cR,List.Perm G2 ((w,Obj.cells #[vp aP] 55 (0,0))::(a,Obj.cells #[vi am] 3 (0,0))::(b,nO 0 0 0 0 0 (⟨#[]⟩:Bs) none 0 0 0)::F2)∧∀ai:Nat,(∃m:Nat,Inv18 0 aP am br bs bt bu bv bw aM aN aO bx m I2 F2)∧∀(an:Int) (x:OA) (e y z aa ab ac:Int) (ae:Bs) (i:OA) (j k:Nat) (af:Int) (m1:Nat) (I3:cS) (F3:cR),cS.le I2 I3→Inv18 an x e y z aa ab ac ae i j k af m1 I3 F3→(It (e != 4) (k6 P 41 #[vp x,vl aJ aK aL] I3 ((w,Obj.cells #[vp x] 55 (0,0))::(a,Obj.cells #[vi e] 3 (0,0))::(b,nO 0 0 0 0 0 (⟨#[]⟩:Bs) none 0 0 0)::(ai,nO y z aa ab ac ae i j k af)::·) F3 vi fun r I4 F4=>(Dt (r<0) (Q (.returned (nV y z aa ab ac ae i j k af)) I4 F4) (∃ad:Addr,x=some ad∧∃(m2:Int),Rd I4 ((w,Obj.cells #[vp x] 55 (0,0))::(a,Obj.cells #[vi e] 3 (0,0))::(b,nO 0 0 0 0 0 (⟨#[]⟩:Bs) none 0 0 0)::(ai,nO y z aa ab ac ae i j k af)::F4) ((ad.add 1).add 4) [vi m2]∧cV P 18 #[vp x] I4 ((w,Obj.cells #[vp x] 55 (0,0))::(a,Obj.cells #[vi e] 3 (0,0))::(b,nO 0 0 0 0 0 (⟨#[]⟩:Bs) none 0 0 0)::(ai,nO y z aa ab ac ae i j k af)::F4) fun e4 I5 G4=>((e4=.returned (.tuple #[])∧∃F5:cR,List.Perm G4 ((w,Obj.cells #[vp x] 55 (0,0))::(a,Obj.cells #[vi e] 3 (0,0))::(b,nO 0 0 0 0 0 (⟨#[]⟩:Bs) none 0 0 0)::(ai,nO y z aa ab ac ae i j k af)::F5)∧cV P 39 (#[vi d,vp (some ⟨w,0,none⟩),vp (some ⟨a,0,none⟩)]) I5 ((w,Obj.cells #[vp x] 55 (0,0))::(a,Obj.cells #[vi e] 3 (0,0))::(b,nO 0 0 0 0 0 (⟨#[]⟩:Bs) none 0 0 0)::(ai,nO y z aa ab ac ae i j k af)::F5) fun e5 I6 G5=>((∃(aQ aR aS aT aU:Int) (aV:Bs) (au:OA) (av aw:Nat) (aW:Int),e5=.returned (nV aQ aR aS aT aU aV au av aw aW)∧∃F6:cR,List.Perm G5 ((w,Obj.cells #[vp x] 55 (0,0))::(a,Obj.cells #[vi e] 3 (0,0))::(b,nO 0 0 0 0 0 (⟨#[]⟩:Bs) none 0 0 0)::(ai,nO y z aa ab ac ae i j k af)::F6)∧∀b1:Nat,(∃m3:Nat,m3<m1∧Inv18 (wr (an+1)) x e 6 (IntKind.wrap .u8 (r1+(IntKind.wrap .u8 r))) 0 0 0 (⟨#[]⟩:Bs) (some ⟨b1,0,none⟩) 2 2 m2 m3 I6 ((b1,Obj.cells #[vb y,vb z,vb aa,vi ab,vb ac,vs ae,vl i j k,vi af,vb aQ,vb aR,vb aS,vi aT,vb aU,vs aV,vl au av aw,vi aW] 29 (0,0))::F6)))∨(∃ch:List PanicEntry,e5=.panicked ch∧∃F7:cR,List.Perm G5 ((w,Obj.cells #[vp x] 55 (0,0))::(a,Obj.cells #[vi e] 3 (0,0))::(b,nO 0 0 0 0 0 (⟨#[]⟩:Bs) none 0 0 0)::(ai,nO y z aa ab ac ae i j k af)::F7)∧Q (.panicked ch) I6 F7)))∨(∃bA:List PanicEntry,e4=.panicked bA∧∃F8:cR,List.Perm G4 ((w,Obj.cells #[vp x] 55 (0,0))::(a,Obj.cells #[vi e] 3 (0,0))::(b,nO 0 0 0 0 0 (⟨#[]⟩:Bs) none 0 0 0)::(ai,nO y z aa ab ac ae i j k af)::F8)∧Q (.panicked bA) I5 F8))))) (It (an==0) (k6 P 41 #[vp x,vl aJ aK aL] I3 ((w,Obj.cells #[vp x] 55 (0,0))::(a,Obj.cells #[vi e] 3 (0,0))::(b,nO 0 0 0 0 0 (⟨#[]⟩:Bs) none 0 0 0)::(ai,nO y z aa ab ac ae i j k af)::·) F3 vi fun r2 I7 F9=>(Dt (r2<0) (Q (.returned (nV y z aa ab ac ae i j k af)) I7 F9) (∃bB:Addr,x=some bB∧∃(m4:Int),Rd I7 ((w,Obj.cells #[vp x] 55 (0,0))::(a,Obj.cells #[vi e] 3 (0,0))::(b,nO 0 0 0 0 0 (⟨#[]⟩:Bs) none 0 0 0)::(ai,nO y z aa ab ac ae i j k af)::F9) ((bB.add 1).add 4) [vi m4]∧cV P 18 #[vp x] I7 ((w,Obj.cells #[vp x] 55 (0,0))::(a,Obj.cells #[vi e] 3 (0,0))::(b,nO 0 0 0 0 0 (⟨#[]⟩:Bs) none 0 0 0)::(ai,nO y z aa ab ac ae i j k af)::F9) fun e7 I8 G7=>((e7=.returned (.tuple #[])∧∃F10:cR,List.Perm G7 ((w,Obj.cells #[vp x] 55 (0,0))::(a,Obj.cells #[vi e] 3 (0,0))::(b,nO 0 0 0 0 0 (⟨#[]⟩:Bs) none 0 0 0)::(ai,nO y z aa ab ac ae i j k af)::F10)∧cV P 39 (#[vi d,vp (some ⟨w,0,none⟩),vp (some ⟨a,0,none⟩)]) I8 ((w,Obj.cells #[vp x] 55 (0,0))::(a,Obj.cells #[vi e] 3 (0,0))::(b,nO 0 0 0 0 0 (⟨#[]⟩:Bs) none 0 0 0)::(ai,nO y z aa ab ac ae i j k af)::F10) fun e8 I9 G8=>((∃(aX aY aZ a0 a1:Int) (a2:Bs) (ax:OA) (ay az:Nat) (a3:Int),e8=.returned (nV aX aY aZ a0 a1 a2 ax ay az a3)∧∃F11:cR,List.Perm G8 ((w,Obj.cells #[vp x] 55 (0,0))::(a,Obj.cells #[vi e] 3 (0,0))::(b,nO 0 0 0 0 0 (⟨#[]⟩:Bs) none 0 0 0)::(ai,nO y z aa ab ac ae i j k af)::F11)∧∀b2:Nat,(∃m5:Nat,m5<m1∧Inv18 (wr (an+1)) x e 6 (IntKind.wrap .u8 (r1+(IntKind.wrap .u8 r2))) 0 0 0 (⟨#[]⟩:Bs) (some ⟨b2,0,none⟩) 2 2 m4 m5 I9 ((b2,Obj.cells #[vb y,vb z,vb aa,vi ab,vb ac,vs ae,vl i j k,vi af,vb aX,vb aY,vb aZ,vi a0,vb a1,vs a2,vl ax ay az,vi a3] 29 (0,0))::F11)))∨(∃bC:List PanicEntry,e8=.panicked bC∧∃F12:cR,List.Perm G8 ((w,Obj.cells #[vp x] 55 (0,0))::(a,Obj.cells #[vi e] 3 (0,0))::(b,nO 0 0 0 0 0 (⟨#[]⟩:Bs) none 0 0 0)::(ai,nO y z aa ab ac ae i j k af)::F12)∧Q (.panicked bC) I9 F12)))∨(∃bD:List PanicEntry,e7=.panicked bD∧∃F13:cR,List.Perm G7 ((w,Obj.cells #[vp x] 55 (0,0))::(a,Obj.cells #[vi e] 3 (0,0))::(b,nO 0 0 0 0 0 (⟨#[]⟩:Bs) none 0 0 0)::(ai,nO y z aa ab ac ae i j k af)::F13)∧Q (.panicked bD) I8 F13))))) (Q (.returned (nV y z aa ab ac ae i j k af)) I3 F3))))∨(∃bE:List PanicEntry,e2=.panicked bE∧∃(a4:OA) (ao:Int),∃F14:cR,List.Perm G2 ((w,Obj.cells #[vp a4] 55 (0,0))::(a,Obj.cells #[vi ao] 3 (0,0))::(b,nO 0 0 0 0 0 (⟨#[]⟩:Bs) none 0 0 0)::F14)∧Q (.panicked bE) I2 F14))) (sk P 40 #[vi aj] I ((al w)::(ah a)::(b,nO 0 0 0 0 0 (⟨#[]⟩:Bs) none 0 0 0)::·) F fun e9 I10 G9=>∃(ap:OA) (aq ar:Nat) (a5:Int),e9=.returned (.tuple #[vl ap aq ar,vb a5])∧G9 fun F15=>cV P 38 (#[vp (some p),vi d]) I10 ((al w)::(ah a)::(b,nO 0 0 0 0 0 (⟨#[]⟩:Bs) none 0 0 0)::F15) fun bN I11 G10=>((∃(a6 a7 a8 a9 ba:Int) (bb:Bs) (aA:OA) (aB aC:Nat) (bc:Int),bN=.returned (nV a6 a7 a8 a9 ba bb aA aB aC bc)∧∃F16:cR,List.Perm G10 ((al w)::(ah a)::(b,nO 0 0 0 0 0 (⟨#[]⟩:Bs) none 0 0 0)::F16)∧∀ag:Nat,(∃m6:Nat,Inv18 0 (some p) aj a6 a7 a8 a9 ba bb aA aB aC bc m6 I11 F16)∧∀(ak:Int) (l:OA) (c n o q s t:Int) (u:Bs) (f:OA) (g h:Nat) (v:Int) (m7:Nat) (I12:cS) (F17:cR),cS.le I11 I12→Inv18 ak l c n o q s t u f g h v m7 I12 F17→(It (c != 4) (k6 P 41 #[vp l,vl ap aq ar] I12 ((w,Obj.cells #[vp l] 55 (0,0))::(a,Obj.cells #[vi c] 3 (0,0))::(b,nO 0 0 0 0 0 (⟨#[]⟩:Bs) none 0 0 0)::(ag,nO n o q s t u f g h v)::·) F17 vi fun r3 I13 F18=>(Dt (r3<0) (Q (.returned (nV n o q s t u f g h v)) I13 F18) (∃bF:Addr,l=some bF∧∃(m8:Int),Rd I13 ((w,Obj.cells #[vp l] 55 (0,0))::(a,Obj.cells #[vi c] 3 (0,0))::(b,nO 0 0 0 0 0 (⟨#[]⟩:Bs) none 0 0 0)::(ag,nO n o q s t u f g h v)::F18) ((bF.add 1).add 4) [vi m8]∧cV P 18 #[vp l] I13 ((w,Obj.cells #[vp l] 55 (0,0))::(a,Obj.cells #[vi c] 3 (0,0))::(b,nO 0 0 0 0 0 (⟨#[]⟩:Bs) none 0 0 0)::(ag,nO n o q s t u f g h v)::F18) fun bO I14 G12=>((bO=.returned (.tuple #[])∧∃F19:cR,List.Perm G12 ((w,Obj.cells #[vp l] 55 (0,0))::(a,Obj.cells #[vi c] 3 (0,0))::(b,nO 0 0 0 0 0 (⟨#[]⟩:Bs) none 0 0 0)::(ag,nO n o q s t u f g h v)::F19)∧cV P 38 (#[vp (some p),vi d]) I14 ((w,Obj.cells #[vp l] 55 (0,0))::(a,Obj.cells #[vi c] 3 (0,0))::(b,nO 0 0 0 0 0 (⟨#[]⟩:Bs) none 0 0 0)::(ag,nO n o q s t u f g h v)::F19) fun bP I15 G13=>((∃(bd be bf bg bh:Int) (bi:Bs) (aD:OA) (aE aF:Nat) (bj:Int),bP=.returned (nV bd be bf bg bh bi aD aE aF bj)∧∃F20:cR,List.Perm G13 ((w,Obj.cells #[vp l] 55 (0,0))::(a,Obj.cells #[vi c] 3 (0,0))::(b,nO 0 0 0 0 0 (⟨#[]⟩:Bs) none 0 0 0)::(ag,nO n o q s t u f g h v)::F20)∧∀b3:Nat,(∃m9:Nat,m9<m7∧Inv18 (wr (ak+1)) l c 6 (IntKind.wrap .u8 (a5+(IntKind.wrap .u8 r3))) 0 0 0 (⟨#[]⟩:Bs) (some ⟨b3,0,none⟩) 2 2 m8 m9 I15 ((b3,Obj.cells #[vb n,vb o,vb q,vi s,vb t,vs u,vl f g h,vi v,vb bd,vb be,vb bf,vi bg,vb bh,vs bi,vl aD aE aF,vi bj] 29 (0,0))::F20)))∨(∃bG:List PanicEntry,bP=.panicked bG∧∃F21:cR,List.Perm G13 ((w,Obj.cells #[vp l] 55 (0,0))::(a,Obj.cells #[vi c] 3 (0,0))::(b,nO 0 0 0 0 0 (⟨#[]⟩:Bs) none 0 0 0)::(ag,nO n o q s t u f g h v)::F21)∧Q (.panicked bG) I15 F21)))∨(∃bH:List PanicEntry,bO=.panicked bH∧∃F22:cR,List.Perm G12 ((w,Obj.cells #[vp l] 55 (0,0))::(a,Obj.cells #[vi c] 3 (0,0))::(b,nO 0 0 0 0 0 (⟨#[]⟩:Bs) none 0 0 0)::(ag,nO n o q s t u f g h v)::F22)∧Q (.panicked bH) I14 F22))))) (It (ak==0) (k6 P 41 #[vp l,vl ap aq ar] I12 ((w,Obj.cells #[vp l] 55 (0,0))::(a,Obj.cells #[vi c] 3 (0,0))::(b,nO 0 0 0 0 0 (⟨#[]⟩:Bs) none 0 0 0)::(ag,nO n o q s t u f g h v)::·) F17 vi fun r4 I16 F23=>(Dt (r4<0) (Q (.returned (nV n o q s t u f g h v)) I16 F23) (∃bI:Addr,l=some bI∧∃(bz:Int),Rd I16 ((w,Obj.cells #[vp l] 55 (0,0))::(a,Obj.cells #[vi c] 3 (0,0))::(b,nO 0 0 0 0 0 (⟨#[]⟩:Bs) none 0 0 0)::(ag,nO n o q s t u f g h v)::F23) ((bI.add 1).add 4) [vi bz]∧cV P 18 #[vp l] I16 ((w,Obj.cells #[vp l] 55 (0,0))::(a,Obj.cells #[vi c] 3 (0,0))::(b,nO 0 0 0 0 0 (⟨#[]⟩:Bs) none 0 0 0)::(ag,nO n o q s t u f g h v)::F23) fun bQ I17 G15=>((bQ=.returned (.tuple #[])∧∃F24:cR,List.Perm G15 ((w,Obj.cells #[vp l] 55 (0,0))::(a,Obj.cells #[vi c] 3 (0,0))::(b,nO 0 0 0 0 0 (⟨#[]⟩:Bs) none 0 0 0)::(ag,nO n o q s t u f g h v)::F24)∧cV P 38 (#[vp (some p),vi d]) I17 ((w,Obj.cells #[vp l] 55 (0,0))::(a,Obj.cells #[vi c] 3 (0,0))::(b,nO 0 0 0 0 0 (⟨#[]⟩:Bs) none 0 0 0)::(ag,nO n o q s t u f g h v)::F24) fun bR I18 G16=>((∃(bk bl bm bn bo:Int) (bp:Bs) (aG:OA) (aH aI:Nat) (bq:Int),bR=.returned (nV bk bl bm bn bo bp aG aH aI bq)∧∃F25:cR,List.Perm G16 ((w,Obj.cells #[vp l] 55 (0,0))::(a,Obj.cells #[vi c] 3 (0,0))::(b,nO 0 0 0 0 0 (⟨#[]⟩:Bs) none 0 0 0)::(ag,nO n o q s t u f g h v)::F25)∧∀b4:Nat,(∃bJ:Nat,bJ<m7∧Inv18 (wr (ak+1)) l c 6 (IntKind.wrap .u8 (a5+(IntKind.wrap .u8 r4))) 0 0 0 (⟨#[]⟩:Bs) (some ⟨b4,0,none⟩) 2 2 bz bJ I18 ((b4,Obj.cells #[vb n,vb o,vb q,vi s,vb t,vs u,vl f g h,vi v,vb bk,vb bl,vb bm,vi bn,vb bo,vs bp,vl aG aH aI,vi bq] 29 (0,0))::F25)))∨(∃bK:List PanicEntry,bR=.panicked bK∧∃F26:cR,List.Perm G16 ((w,Obj.cells #[vp l] 55 (0,0))::(a,Obj.cells #[vi c] 3 (0,0))::(b,nO 0 0 0 0 0 (⟨#[]⟩:Bs) none 0 0 0)::(ag,nO n o q s t u f g h v)::F26)∧Q (.panicked bK) I18 F26)))∨(∃bL:List PanicEntry,bQ=.panicked bL∧∃F27:cR,List.Perm G15 ((w,Obj.cells #[vp l] 55 (0,0))::(a,Obj.cells #[vi c] 3 (0,0))::(b,nO 0 0 0 0 0 (⟨#[]⟩:Bs) none 0 0 0)::(ag,nO n o q s t u f g h v)::F27)∧Q (.panicked bL) I17 F27))))) (Q (.returned (nV n o q s t u f g h v)) I12 F17))))∨(∃bM:List PanicEntry,bN=.panicked bM∧∃F28:cR,List.Perm G10 ((al w)::(ah a)::(b,nO 0 0 0 0 0 (⟨#[]⟩:Bs) none 0 0 0)::F28)∧Q (.panicked bM) I11 F28))))
theorem fu.vc{p:Addr}{e d:Int}{I:cS}{F:cR}{Q:cW}(Inv18:Int→OA→Int→Int→Int→Int→Int→Int→Bs→OA→Nat→Nat→Int→Nat→cS→cR→Prop)(h:fu.V (fun b=>(b,Obj.cells #[.pointer (some p)] 55 (0,0))) (fun b=>(b,Obj.cells #[.int .i64 e] 3 (0,0))) (fun k o t n f s a l c q=>.agg #[.int .u8 k,.int .u8 o,.int .u8 t,.int .i64 n,.int .u8 f,.string s,.slice a l c,.int .i64 q]) (fun k o t n f s a l c q=>.cells #[.int .u8 k,.int .u8 o,.int .u8 t,.int .i64 n,.int .u8 f,.string s,.slice a l c,.int .i64 q] 29 (0,0)) (.int .u8) (.int .i64) .string .slice .pointer (IntKind.wrap .i64) p e d I F Q Inv18):cV P 20 #[.pointer (some p),.int .i64 e,.int .i64 d] I F Q :=
 tw (A:=(eU [2001,7001,7004,10001] [18,38,39] [18,38,39,40,41] mr [(18,⟨[(11,(.int .i64))],[(0,[.ptr]),(1,[(.int .i64)]),(3,[(.int .u8),(.int .u8),(.int .u8),(.int .i64),(.int .u8),.str,.slc,(.int .i64)])],fun _ _ _ vs m I F=>match vs with | [.int _ y0,.pointer y1,.int _ y2,.int _ y3,.int _ y4,.int _ y5,.int _ y6,.int _ y7,.string y8,.slice y9 y10 y11,.int _ y12]=>Inv18 y0 y1 y2 y3 y4 y5 y6 y7 y8 y9 y10 y11 y12 m I F | _=>False,[],[]⟩)] [] [13008] [] [] [(13,[0,1,2,3,5,6,9,4,7,8,10,11])] [] [] [(13,[4],11)])) [18,38,39,40,41] func20 h
def eP.V(nV:Int→Int→Int→Int→Int→Bs→OA→Nat→Nat→Int→Value)(nO:Int→Int→Int→Int→Int→Bs→OA→Nat→Nat→Int→Obj)(d:Int)(c c1:Addr)(I:cS)(F:cR)(Q:cW)  : Prop:=∀b:Nat,∃(m:OA),Rd I ((b,nO 0 0 0 0 0 (⟨#[]⟩:Bs) none 0 0 0)::F) c [.pointer m]∧∃(m1:Int),Rd I ((b,nO 0 0 0 0 0 (⟨#[]⟩:Bs) none 0 0 0)::F) c1 [.int .i64 m1]∧cV P 20 (#[.pointer m,.int .i64 (IntKind.wrap .i64 (m1+1)),.int .i64 d]) I ((b,nO 0 0 0 0 0 (⟨#[]⟩:Bs) none 0 0 0)::F) fun e1 I1 G1=>((∃(g h i j k:Int) (l:Bs) (a:OA) (e f:Nat) (n:Int),e1=.returned (nV g h i j k l a e f n)∧∃F1:cR,List.Perm G1 ((b,nO 0 0 0 0 0 (⟨#[]⟩:Bs) none 0 0 0)::F1)∧Q (.returned (nV g h i j k l a e f n)) I1 F1)∨(∃ch:List PanicEntry,e1=.panicked ch∧∃F2:cR,List.Perm G1 ((b,nO 0 0 0 0 0 (⟨#[]⟩:Bs) none 0 0 0)::F2)∧Q (.panicked ch) I1 F2))
theorem eP.vc{d:Int}{c c1:Addr}{I:cS}{F:cR}{Q:cW}  (h:eP.V (fun k o t n f s a l c q=>.agg #[.int .u8 k,.int .u8 o,.int .u8 t,.int .i64 n,.int .u8 f,.string s,.slice a l c,.int .i64 q]) (fun k o t n f s a l c q=>.cells #[.int .u8 k,.int .u8 o,.int .u8 t,.int .i64 n,.int .u8 f,.string s,.slice a l c,.int .i64 q] 29 (0,0)) d c c1 I F Q):cV P 39 #[.int .i64 d,.pointer (some c),.pointer (some c1)] I F Q :=
 tw (A:=(eU [] [20] [20] mr [] [] [] [] [] [] [])) [20] func39 h
def fc.V(nV:Int→Int→Int→Int→Int→Bs→OA→Nat→Nat→Int→Value)(nO:Int→Int→Int→Int→Int→Bs→OA→Nat→Nat→Int→Obj)(vb vi:Int→Value)(vs:Bs→Value)(vl:OA→Nat→Nat→Value)(vp:OA→Value)(p:Addr)(d:Int)(I:cS)(F:cR)(Q:cW)  : Prop:=∀b:Nat,cV P 20 (#[vp (some p),vi 2,vi d]) I ((b,nO 0 0 0 0 0 (⟨#[]⟩:Bs) none 0 0 0)::F) fun e1 I1 G1=>((∃(f g h i j:Int) (k:Bs) (a:OA) (c e:Nat) (l:Int),e1=.returned (nV f g h i j k a c e l)∧∃F1:cR,List.Perm G1 ((b,nO 0 0 0 0 0 (⟨#[]⟩:Bs) none 0 0 0)::F1)∧∀s:Nat,k6 P 21 (#[vp (some p),vs (⟨#[63]⟩:Bs)]) I1 ((b,nO 0 0 0 0 0 (⟨#[]⟩:Bs) none 0 0 0)::(s,nO f g h i j k a c e l)::·) F1 .bool fun r I2 F2=>(It (!r) (Q (.returned (nV f g h i j k a c e l)) I2 F2) (∃(hb:Nat) (ho:Obj) (F3:cR),List.Perm F2 ((hb,ho)::F3)∧∃ad:Addr,some p=some ad∧∃(m:Int),Rd (cS.put I2 hb ho) ([]) ((ad.add 1).add 4) [vi m]∧cV P 22 (#[vp (some p),vi d]) (cS.put I2 hb ho) ((b,nO 0 0 0 0 0 (⟨#[]⟩:Bs) none 0 0 0)::(s,nO f g h i j k a c e l)::F3) fun e3 I3 G3=>((∃(r1:Int),e3=.returned (vi r1)∧∃F4:cR,List.Perm G3 ((b,nO 0 0 0 0 0 (⟨#[]⟩:Bs) none 0 0 0)::(s,nO f g h i j k a c e l)::F4)∧cV P 18 (#[vp (some p)]) (cS.del I3 hb) ((b,nO 0 0 0 0 0 (⟨#[]⟩:Bs) none 0 0 0)::(s,nO f g h i j k a c e l)::((hb,ho)::F4)) fun e4 I4 G4=>((e4=.returned (.tuple #[])∧∃F5:cR,List.Perm G4 ((b,nO 0 0 0 0 0 (⟨#[]⟩:Bs) none 0 0 0)::(s,nO f g h i j k a c e l)::F5)∧cV P 13 (#[vp (some p),vi r1]) I4 ((b,nO 0 0 0 0 0 (⟨#[]⟩:Bs) none 0 0 0)::(s,nO f g h i j k a c e l)::F5) fun e5 I5 G5=>((∃(t u v w x:Int) (y:Bs) (n:OA) (o q:Nat) (z:Int),e5=.returned (nV t u v w x y n o q z)∧∃F6:cR,List.Perm G5 ((b,nO 0 0 0 0 0 (⟨#[]⟩:Bs) none 0 0 0)::(s,nO f g h i j k a c e l)::F6)∧∀aa:Nat,∀(b1:Nat) (I6:cS),cS.le I5 I6→I6 b1=some (Obj.cells #[vs (⟨#[58]⟩:Bs)] 9 (0,0))→cV P 23 (#[vp (some p),vl (some ⟨b1,0,none⟩) 1 1]) I6 ((b,nO 0 0 0 0 0 (⟨#[]⟩:Bs) none 0 0 0)::(s,nO f g h i j k a c e l)::(aa,nO t u v w x y n o q z)::F6) fun e6 I7 G6=>((∃(r2:Int),e6=.returned (vi r2)∧∃F7:cR,List.Perm G6 ((b,nO 0 0 0 0 0 (⟨#[]⟩:Bs) none 0 0 0)::(s,nO f g h i j k a c e l)::(aa,nO t u v w x y n o q z)::F7)∧cV P 13 (#[vp (some p),vi r1]) I7 ((b,nO 0 0 0 0 0 (⟨#[]⟩:Bs) none 0 0 0)::(s,nO f g h i j k a c e l)::(aa,nO t u v w x y n o q z)::F7) fun e7 I8 G7=>((∃(af ag ah ai aj:Int) (ak:Bs) (ab:OA) (ac ae:Nat) (al:Int),e7=.returned (nV af ag ah ai aj ak ab ac ae al)∧∃F8:cR,List.Perm G7 ((b,nO 0 0 0 0 0 (⟨#[]⟩:Bs) none 0 0 0)::(s,nO f g h i j k a c e l)::(aa,nO t u v w x y n o q z)::F8)∧∀b2:Nat,Q (.returned (nV 7 0 0 0 0 (⟨#[]⟩:Bs) (some ⟨b2,0,none⟩) 3 3 m)) I8 (((b2,Obj.cells #[vb f,vb g,vb h,vi i,vb j,vs k,vl a c e,vi l,vb t,vb u,vb v,vi w,vb x,vs y,vl n o q,vi z,vb af,vb ag,vb ah,vi ai,vb aj,vs ak,vl ab ac ae,vi al] 29 (0,0))::F8)))∨(∃ch:List PanicEntry,e7=.panicked ch∧∃F9:cR,List.Perm G7 ((b,nO 0 0 0 0 0 (⟨#[]⟩:Bs) none 0 0 0)::(s,nO f g h i j k a c e l)::(aa,nO t u v w x y n o q z)::F9)∧Q (.panicked ch) I8 F9)))∨(∃am:List PanicEntry,e6=.panicked am∧∃F10:cR,List.Perm G6 ((b,nO 0 0 0 0 0 (⟨#[]⟩:Bs) none 0 0 0)::(s,nO f g h i j k a c e l)::(aa,nO t u v w x y n o q z)::F10)∧Q (.panicked am) I7 F10)))∨(∃an:List PanicEntry,e5=.panicked an∧∃F11:cR,List.Perm G5 ((b,nO 0 0 0 0 0 (⟨#[]⟩:Bs) none 0 0 0)::(s,nO f g h i j k a c e l)::F11)∧Q (.panicked an) I5 F11)))∨(∃ao:List PanicEntry,e4=.panicked ao∧∃F12:cR,List.Perm G4 ((b,nO 0 0 0 0 0 (⟨#[]⟩:Bs) none 0 0 0)::(s,nO f g h i j k a c e l)::F12)∧Q (.panicked ao) I4 F12)))∨(∃ap:List PanicEntry,e3=.panicked ap∧∃F13:cR,List.Perm G3 ((b,nO 0 0 0 0 0 (⟨#[]⟩:Bs) none 0 0 0)::(s,nO f g h i j k a c e l)::F13)∧Q (.panicked ap) (cS.del I3 hb) (((hb,ho)::F13)))))))∨(∃aq:List PanicEntry,e1=.panicked aq∧∃F14:cR,List.Perm G1 ((b,nO 0 0 0 0 0 (⟨#[]⟩:Bs) none 0 0 0)::F14)∧Q (.panicked aq) I1 F14))
theorem fc.vc{p:Addr}{d:Int}{I:cS}{F:cR}{Q:cW}  (h:fc.V (fun k o t n f s a l c q=>.agg #[.int .u8 k,.int .u8 o,.int .u8 t,.int .i64 n,.int .u8 f,.string s,.slice a l c,.int .i64 q]) (fun k o t n f s a l c q=>.cells #[.int .u8 k,.int .u8 o,.int .u8 t,.int .i64 n,.int .u8 f,.string s,.slice a l c,.int .i64 q] 29 (0,0)) (.int .u8) (.int .i64) .string .slice .pointer p d I F Q):cV P 13 #[.pointer (some p),.int .i64 d] I F Q :=
 tw (A:=(eU [2002] [13,18,20,22,23] [13,18,20,21,22,23] mr [] [7001] [8005] [] [] [(4,[0,1,3,4,5,6,7,2,8,9]),(8,[2,3,6,0,1,4,5,7,8])] [] [] [(4,[7,1000],10),(8,[0,1],8)])) [13,18,20,21,22,23] func13 h
def eQ.V(nV:Int→Int→Int→Int→Int→Bs→OA→Nat→Nat→Int→Value)(nO:Int→Int→Int→Int→Int→Bs→OA→Nat→Nat→Int→Obj)(vb vi:Int→Value)(vp:OA→Value)(p:Addr)(d:Int)(I:cS)(F:cR)(Q:cW)  : Prop:=∀b:Nat,∀(b1:Nat) (I1:cS),cS.le I I1→I1 b1=some (Obj.cells #[.string (⟨#[45]⟩:Bs),.string (⟨#[33]⟩:Bs)] 9 (0,0))→k6 P 41 (#[vp (some p),.slice (some ⟨b1,0,none⟩) 2 2]) I1 ((b,nO 0 0 0 0 0 (⟨#[]⟩:Bs) none 0 0 0)::·) F vi fun r I2 F1=>(Dt (r<0) (cV P 50 (#[vp (some p),vi d]) I2 ((b,nO 0 0 0 0 0 (⟨#[]⟩:Bs) none 0 0 0)::F1) fun e2 I3 G2=>((∃(s t u v w:Int) (x:Bs) (f:OA) (g h:Nat) (y:Int),e2=.returned (nV s t u v w x f g h y)∧∃F2:cR,List.Perm G2 ((b,nO 0 0 0 0 0 (⟨#[]⟩:Bs) none 0 0 0)::F2)∧Q (.returned (nV s t u v w x f g h y)) I3 F2)∨(∃ch:List PanicEntry,e2=.panicked ch∧∃F3:cR,List.Perm G2 ((b,nO 0 0 0 0 0 (⟨#[]⟩:Bs) none 0 0 0)::F3)∧Q (.panicked ch) I3 F3))) (∃(hb:Nat) (ho:Obj) (F4:cR),List.Perm F1 ((hb,ho)::F4)∧∃ad:Addr,some p=some ad∧∃(m:Int),Rd (cS.put I2 hb ho) ([]) ((ad.add 1).add 4) [vi m]∧cV P 22 (#[vp (some p),vi d]) (cS.put I2 hb ho) ((b,nO 0 0 0 0 0 (⟨#[]⟩:Bs) none 0 0 0)::F4) fun e3 I4 G3=>((∃(r1:Int),e3=.returned (vi r1)∧∃F5:cR,List.Perm G3 ((b,nO 0 0 0 0 0 (⟨#[]⟩:Bs) none 0 0 0)::F5)∧cV P 18 (#[vp (some p)]) (cS.del I4 hb) ((b,nO 0 0 0 0 0 (⟨#[]⟩:Bs) none 0 0 0)::((hb,ho)::F5)) fun e4 I5 G4=>((e4=.returned (.tuple #[])∧∃F6:cR,List.Perm G4 ((b,nO 0 0 0 0 0 (⟨#[]⟩:Bs) none 0 0 0)::F6)∧cV P 38 (#[vp (some p),vi r1]) I5 ((b,nO 0 0 0 0 0 (⟨#[]⟩:Bs) none 0 0 0)::F6) fun e5 I6 G5=>((∃(i j k l n:Int) (o:Bs) (a:OA) (c e:Nat) (q:Int),e5=.returned (nV i j k l n o a c e q)∧∃F7:cR,List.Perm G5 ((b,nO 0 0 0 0 0 (⟨#[]⟩:Bs) none 0 0 0)::F7)∧∀b2:Nat,Q (.returned (.agg #[vb 5,vb (IntKind.wrap .u8 (1+(IntKind.wrap .u8 r))),vb 0,vi 0,vb 0,.string (⟨#[]⟩:Bs),.slice (some ⟨b2,0,none⟩) 1 1,vi m])) I6 (((b2,nO i j k l n o a c e q)::F7)))∨(∃z:List PanicEntry,e5=.panicked z∧∃F8:cR,List.Perm G5 ((b,nO 0 0 0 0 0 (⟨#[]⟩:Bs) none 0 0 0)::F8)∧Q (.panicked z) I6 F8)))∨(∃aa:List PanicEntry,e4=.panicked aa∧∃F9:cR,List.Perm G4 ((b,nO 0 0 0 0 0 (⟨#[]⟩:Bs) none 0 0 0)::F9)∧Q (.panicked aa) I5 F9)))∨(∃ab:List PanicEntry,e3=.panicked ab∧∃F10:cR,List.Perm G3 ((b,nO 0 0 0 0 0 (⟨#[]⟩:Bs) none 0 0 0)::F10)∧Q (.panicked ab) (cS.del I4 hb) (((hb,ho)::F10))))))
theorem eQ.vc{p:Addr}{d:Int}{I:cS}{F:cR}{Q:cW}  (h:eQ.V (fun k o t n f s a l c q=>.agg #[.int .u8 k,.int .u8 o,.int .u8 t,.int .i64 n,.int .u8 f,.string s,.slice a l c,.int .i64 q]) (fun k o t n f s a l c q=>.cells #[.int .u8 k,.int .u8 o,.int .u8 t,.int .i64 n,.int .u8 f,.string s,.slice a l c,.int .i64 q] 29 (0,0)) (.int .u8) (.int .i64) .pointer p d I F Q):cV P 38 #[.pointer (some p),.int .i64 d] I F Q :=
 tw (A:=(eU [2001] [18,22,38,50] [18,22,38,41,50] mr [] [1001] [6006] [] [] [(4,[0,1,3,4,5,6,7,2,8,9])] [] [] [(4,[7,1000],10)])) [18,22,38,41,50] func38 h
def fe.V(nV:Int→Int→Int→Int→Int→Bs→OA→Nat→Nat→Int→Value)(nO:Int→Int→Int→Int→Int→Bs→OA→Nat→Nat→Int→Obj)(vi:Int→Value)(vl:OA→Nat→Nat→Value)(vp:OA→Value)(p:Addr)(t u w y z:Int)(aa:Bs)(o:OA)(q s:Nat)(aL ai d:Int)(I:cS)(F:cR)(Q:cW)(Inv14:Int→Int→Int→Int→Int→Int→Bs→OA→Nat→Nat→Int→Nat→cS→cR→Prop):Prop:=∀n:Nat,∀b:Nat,∃ad:Addr,some p=some ad∧∃(m:Int),Rd I ((n,nO t u w y z aa o q s aL)::(b,nO 0 0 0 0 0 (⟨#[]⟩:Bs) none 0 0 0)::F) ((ad.add 1).add 4) [vi m]∧cV P 22 (#[vp (some p),vi d]) I ((n,nO t u w y z aa o q s m)::(b,nO 0 0 0 0 0 (⟨#[]⟩:Bs) none 0 0 0)::F) fun e1 I1 G1=>((∃(r:Int),e1=.returned (vi r)∧∃F1:cR,List.Perm G1 ((n,nO t u w y z aa o q s m)::(b,nO 0 0 0 0 0 (⟨#[]⟩:Bs) none 0 0 0)::F1)∧cV P 18 (#[vp (some p)]) I1 ((n,nO t u w y z aa o q s m)::(b,nO 0 0 0 0 0 (⟨#[]⟩:Bs) none 0 0 0)::F1) fun e2 I2 G2=>((e2=.returned (.tuple #[])∧∃F2:cR,List.Perm G2 ((n,nO t u w y z aa o q s m)::(b,nO 0 0 0 0 0 (⟨#[]⟩:Bs) none 0 0 0)::F2)∧∀(b1:Nat) (I3:cS),cS.le I2 I3→I3 b1=some (Obj.cells #[.string (⟨#[40]⟩:Bs)] 9 (0,0))→cV P 23 (#[vp (some p),vl (some ⟨b1,0,none⟩) 1 1]) I3 ((n,nO t u w y z aa o q s m)::(b,nO 0 0 0 0 0 (⟨#[]⟩:Bs) none 0 0 0)::F2) fun e3 I4 G3=>((∃(r1:Int),e3=.returned (vi r1)∧∃F3:cR,List.Perm G3 ((n,nO t u w y z aa o q s m)::(b,nO 0 0 0 0 0 (⟨#[]⟩:Bs) none 0 0 0)::F3)∧(∃m1:Nat,Inv14 0 t u w y z aa o q s m m1 I4 F3)∧∀(x f g h i j:Int) (k:Bs) (a:OA) (c e:Nat) (l:Int) (m2:Nat) (I5:cS) (F4:cR),cS.le I4 I5→Inv14 x f g h i j k a c e l m2 I5 F4→(Dt (x<ai) (Dt (x>0) (∀(b2:Nat) (I6:cS),cS.le I5 I6→I6 b2=some (Obj.cells #[.string (⟨#[44]⟩:Bs)] 9 (0,0))→cV P 23 (#[vp (some p),vl (some ⟨b2,0,none⟩) 1 1]) I6 ((n,nO f g h i j k a c e l)::(b,nO 0 0 0 0 0 (⟨#[]⟩:Bs) none 0 0 0)::F4) fun e4 I7 G4=>((∃(r2:Int),e4=.returned (vi r2)∧∃F5:cR,List.Perm G4 ((n,nO f g h i j k a c e l)::(b,nO 0 0 0 0 0 (⟨#[]⟩:Bs) none 0 0 0)::F5)∧cV P 13 (#[vp (some p),vi r]) I7 ((n,nO f g h i j k a c e l)::(b,nO 0 0 0 0 0 (⟨#[]⟩:Bs) none 0 0 0)::F5) fun e5 I8 G5=>((∃(av aw ax ay az:Int) (aA:Bs) (af:OA) (ag ah:Nat) (aB:Int),e5=.returned (nV av aw ax ay az aA af ag ah aB)∧∃F6:cR,List.Perm G5 ((n,nO f g h i j k a c e l)::(b,nO 0 0 0 0 0 (⟨#[]⟩:Bs) none 0 0 0)::F6)∧∀(b3:Nat) (I9:cS),cS.le I8 I9→I9 b3=some (nO av aw ax ay az aA af ag ah aB)→dW P (Builtin.append_ #[27,27] 27 #[vl a c e,vl (some ⟨b3,0,none⟩) 1 1]) I9 ((n,nO f g h i j k a c e l)::(b,nO 0 0 0 0 0 (⟨#[]⟩:Bs) none 0 0 0)::F6) fun v I10 G6=>∃(aC:OA) (aD aE:Nat),v=vl aC aD aE∧∃F7:cR,List.Perm G6 ((n,nO f g h i j k a c e l)::(b,nO 0 0 0 0 0 (⟨#[]⟩:Bs) none 0 0 0)::F7)∧(∃m3:Nat,m3<m2∧Inv14 (IntKind.wrap .i64 (x+1)) f g h i j k aC aD aE l m3 I10 F7))∨(∃ch:List PanicEntry,e5=.panicked ch∧∃F8:cR,List.Perm G5 ((n,nO f g h i j k a c e l)::(b,nO 0 0 0 0 0 (⟨#[]⟩:Bs) none 0 0 0)::F8)∧Q (.panicked ch) I8 F8)))∨(∃aF:List PanicEntry,e4=.panicked aF∧∃F9:cR,List.Perm G4 ((n,nO f g h i j k a c e l)::(b,nO 0 0 0 0 0 (⟨#[]⟩:Bs) none 0 0 0)::F9)∧Q (.panicked aF) I7 F9))) (cV P 13 (#[vp (some p),vi r]) I5 ((n,nO f g h i j k a c e l)::(b,nO 0 0 0 0 0 (⟨#[]⟩:Bs) none 0 0 0)::F4) fun e6 I11 G7=>((∃(aj ak al am an:Int) (ao:Bs) (ab:OA) (ac ae:Nat) (ap:Int),e6=.returned (nV aj ak al am an ao ab ac ae ap)∧∃F10:cR,List.Perm G7 ((n,nO f g h i j k a c e l)::(b,nO 0 0 0 0 0 (⟨#[]⟩:Bs) none 0 0 0)::F10)∧∀(b4:Nat) (I12:cS),cS.le I11 I12→I12 b4=some (nO aj ak al am an ao ab ac ae ap)→dW P (Builtin.append_ #[27,27] 27 #[vl a c e,vl (some ⟨b4,0,none⟩) 1 1]) I12 ((n,nO f g h i j k a c e l)::(b,nO 0 0 0 0 0 (⟨#[]⟩:Bs) none 0 0 0)::F10) fun v1 I13 G8=>∃(aq:OA) (ar au:Nat),v1=vl aq ar au∧∃F11:cR,List.Perm G8 ((n,nO f g h i j k a c e l)::(b,nO 0 0 0 0 0 (⟨#[]⟩:Bs) none 0 0 0)::F11)∧(∃m4:Nat,m4<m2∧Inv14 (IntKind.wrap .i64 (x+1)) f g h i j k aq ar au l m4 I13 F11))∨(∃aG:List PanicEntry,e6=.panicked aG∧∃F12:cR,List.Perm G7 ((n,nO f g h i j k a c e l)::(b,nO 0 0 0 0 0 (⟨#[]⟩:Bs) none 0 0 0)::F12)∧Q (.panicked aG) I11 F12)))) (∀(b5:Nat) (I14:cS),cS.le I5 I14→I14 b5=some (Obj.cells #[.string (⟨#[41]⟩:Bs)] 9 (0,0))→cV P 23 (#[vp (some p),vl (some ⟨b5,0,none⟩) 1 1]) I14 ((n,nO f g h i j k a c e l)::(b,nO 0 0 0 0 0 (⟨#[]⟩:Bs) none 0 0 0)::F4) fun e7 I15 G9=>((∃(r3:Int),e7=.returned (vi r3)∧∃F13:cR,List.Perm G9 ((n,nO f g h i j k a c e l)::(b,nO 0 0 0 0 0 (⟨#[]⟩:Bs) none 0 0 0)::F13)∧Q (.returned (nV f g h i j k a c e l)) I15 F13)∨(∃aH:List PanicEntry,e7=.panicked aH∧∃F14:cR,List.Perm G9 ((n,nO f g h i j k a c e l)::(b,nO 0 0 0 0 0 (⟨#[]⟩:Bs) none 0 0 0)::F14)∧Q (.panicked aH) I15 F14)))))∨(∃aI:List PanicEntry,e3=.panicked aI∧∃F15:cR,List.Perm G3 ((n,nO t u w y z aa o q s m)::(b,nO 0 0 0 0 0 (⟨#[]⟩:Bs) none 0 0 0)::F15)∧Q (.panicked aI) I4 F15)))∨(∃aJ:List PanicEntry,e2=.panicked aJ∧∃F16:cR,List.Perm G2 ((n,nO t u w y z aa o q s m)::(b,nO 0 0 0 0 0 (⟨#[]⟩:Bs) none 0 0 0)::F16)∧Q (.panicked aJ) I2 F16)))∨(∃aK:List PanicEntry,e1=.panicked aK∧∃F17:cR,List.Perm G1 ((n,nO t u w y z aa o q s m)::(b,nO 0 0 0 0 0 (⟨#[]⟩:Bs) none 0 0 0)::F17)∧Q (.panicked aK) I1 F17))
theorem fe.vc{p:Addr}{j r u v w:Int}{x:Bs}{b:OA}{e g:Nat}{y i d:Int}{I:cS}{F:cR}{Q:cW}(Inv14:Int→Int→Int→Int→Int→Int→Bs→OA→Nat→Nat→Int→Nat→cS→cR→Prop)(h:fe.V (fun k o t n f s a l c q=>.agg #[.int .u8 k,.int .u8 o,.int .u8 t,.int .i64 n,.int .u8 f,.string s,.slice a l c,.int .i64 q]) (fun k o t n f s a l c q=>.cells #[.int .u8 k,.int .u8 o,.int .u8 t,.int .i64 n,.int .u8 f,.string s,.slice a l c,.int .i64 q] 29 (0,0)) (.int .i64) .slice .pointer p j r u v w x b e g y i d I F Q Inv14):cV P 61 #[.pointer (some p),.agg #[.int .u8 j,.int .u8 r,.int .u8 u,.int .i64 v,.int .u8 w,.string x,.slice b e g,.int .i64 y],.int .i64 i,.int .i64 d] I F Q :=
 tw (A:=(eU [6000,8001] [13,18,22,23] [13,18,22,23] mr [(14,⟨[(26,(.int .i64))],[(0,[(.int .u8),(.int .u8),(.int .u8),(.int .i64),(.int .u8),.str,.slc,(.int .i64)])],fun _ _ _ vs m I F=>match vs with | [.int _ y0,.int _ y1,.int _ y2,.int _ y3,.int _ y4,.int _ y5,.string y6,.slice y7 y8 y9,.int _ y10]=>Inv14 y0 y1 y2 y3 y4 y5 y6 y7 y8 y9 y10 m I F | _=>False,[],[]⟩)] [4001,9001,10005,12001] [] [] [] [(10,[0,2,3,1,4,5,6,7,8])] [] [] [(10,[1],8)])) [13,18,22,23] func61 h
def eB.V(nV:Int→Int→Int→Int→Int→Bs→OA→Nat→Nat→Int→Value)(nO:Int→Int→Int→Int→Int→Bs→OA→Nat→Nat→Int→Obj)(vb vi:Int→Value)(vs:Bs→Value)(vl:OA→Nat→Nat→Value)(vp:OA→Value)(p:Addr)(d:Int)(I:cS)(F:cR)(Q:cW)  : Prop:=∀b:Nat,cV P 45 (#[vp (some p)]) I ((b,nO 0 0 0 0 0 (⟨#[]⟩:Bs) none 0 0 0)::F) fun e1 I1 G1=>((∃(f g h i j:Int) (k:Bs) (a:OA) (c e:Nat) (l:Int) (r1:Bool),e1=.returned (.tuple #[nV f g h i j k a c e l,.bool r1])∧∃F1:cR,List.Perm G1 ((b,nO 0 0 0 0 0 (⟨#[]⟩:Bs) none 0 0 0)::F1)∧∀n:Nat,(It r1 (Q (.returned (nV f g h i j k a c e l)) I1 F1) (∃ad:Addr,some p=some ad∧∃(m:Int),Rd I1 ((b,nO 0 0 0 0 0 (⟨#[]⟩:Bs) none 0 0 0)::(n,nO f g h i j k a c e l)::F1) ((ad.add 1).add 4) [vi m]∧∃aW:Addr,some p=some aW∧∃(m1:Int),Rd I1 ((b,nO 0 0 0 0 0 (⟨#[]⟩:Bs) none 0 0 0)::(n,nO f g h i j k a c e l)::F1) ((aW.add 1).add 0) [vb m1]∧(It (m1==2) (cV P 29 (#[vp (some p)]) I1 ((b,nO 0 0 0 0 0 (⟨#[]⟩:Bs) none 0 0 0)::(n,nO f g h i j k a c e l)::F1) fun e2 I2 G2=>((∃(r:Bs),e2=.returned (vs r)∧∃F2:cR,List.Perm G2 ((b,nO 0 0 0 0 0 (⟨#[]⟩:Bs) none 0 0 0)::(n,nO f g h i j k a c e l)::F2)∧Q (.returned (nV 2 0 0 0 0 r none 0 0 m)) I2 F2)∨(∃ch:List PanicEntry,e2=.panicked ch∧∃F3:cR,List.Perm G2 ((b,nO 0 0 0 0 0 (⟨#[]⟩:Bs) none 0 0 0)::(n,nO f g h i j k a c e l)::F3)∧Q (.panicked ch) I2 F3))) (∀(b1:Nat) (I3:cS),cS.le I1 I3→I3 b1=some (Obj.cells #[vs (⟨#[98,105,100]⟩:Bs),vs (⟨#[97,115,107]⟩:Bs),vs (⟨#[108,97,115,116]⟩:Bs),vs (⟨#[118,111,108,117,109,101]⟩:Bs),vs (⟨#[110,111,119]⟩:Bs),vs (⟨#[111,112,101,110]⟩:Bs)] 9 (0,0))→k6 P 41 (#[vp (some p),vl (some ⟨b1,0,none⟩) 6 6]) I3 ((b,nO 0 0 0 0 0 (⟨#[]⟩:Bs) none 0 0 0)::(n,nO f g h i j k a c e l)::·) F1 vi fun r2 I4 F4=>(Dt (r2≥0) (cV P 18 (#[vp (some p)]) I4 ((b,nO 0 0 0 0 0 (⟨#[]⟩:Bs) none 0 0 0)::(n,nO f g h i j k a c e l)::F4) fun e4 I5 G4=>((e4=.returned (.tuple #[])∧∃F5:cR,List.Perm G4 ((b,nO 0 0 0 0 0 (⟨#[]⟩:Bs) none 0 0 0)::(n,nO f g h i j k a c e l)::F5)∧Q (.returned (.agg #[vb 3,vb 0,vb 0,vi 0,vb (IntKind.wrap .u8 (1+(IntKind.wrap .u8 r2))),vs (⟨#[]⟩:Bs),vl none 0 0,vi m])) I5 F5)∨(∃aX:List PanicEntry,e4=.panicked aX∧∃F6:cR,List.Perm G4 ((b,nO 0 0 0 0 0 (⟨#[]⟩:Bs) none 0 0 0)::(n,nO f g h i j k a c e l)::F6)∧Q (.panicked aX) I5 F6))) (∀(b2:Nat) (I6:cS),cS.le I4 I6→I6 b2=some (Obj.cells #[vs (⟨#[105,110,116]⟩:Bs),vs (⟨#[113,116,121]⟩:Bs),vs (⟨#[112,114,105,99,101]⟩:Bs),vs (⟨#[116,105,109,101]⟩:Bs)] 9 (0,0))→k6 P 41 (#[vp (some p),vl (some ⟨b2,0,none⟩) 4 4]) I6 ((b,nO 0 0 0 0 0 (⟨#[]⟩:Bs) none 0 0 0)::(n,nO f g h i j k a c e l)::·) F4 vi fun r3 I7 F7=>(Dt (r3≥0) (cV P 61 (#[vp (some p),.agg #[vb 9,vb 0,vb (IntKind.wrap .u8 (1+(IntKind.wrap .u8 r3))),vi 0,vb 0,vs (⟨#[]⟩:Bs),vl none 0 0,vi 0],vi 1,vi d]) I7 ((b,nO 0 0 0 0 0 (⟨#[]⟩:Bs) none 0 0 0)::(n,nO f g h i j k a c e l)::F7) fun e6 I8 G6=>((∃(aP aQ aR aS aT:Int) (aU:Bs) (al:OA) (am an:Nat) (aV:Int),e6=.returned (nV aP aQ aR aS aT aU al am an aV)∧∃F8:cR,List.Perm G6 ((b,nO 0 0 0 0 0 (⟨#[]⟩:Bs) none 0 0 0)::(n,nO f g h i j k a c e l)::F8)∧Q (.returned (nV aP aQ aR aS aT aU al am an aV)) I8 F8)∨(∃aY:List PanicEntry,e6=.panicked aY∧∃F9:cR,List.Perm G6 ((b,nO 0 0 0 0 0 (⟨#[]⟩:Bs) none 0 0 0)::(n,nO f g h i j k a c e l)::F9)∧Q (.panicked aY) I8 F9))) (∀(b3:Nat) (I9:cS),cS.le I7 I9→I9 b3=some (Obj.cells #[vs (⟨#[97,98,115]⟩:Bs),vs (⟨#[109,105,110]⟩:Bs),vs (⟨#[109,97,120]⟩:Bs),vs (⟨#[104,97,115]⟩:Bs),vs (⟨#[40]⟩:Bs)] 9 (0,0))→k6 P 41 (#[vp (some p),vl (some ⟨b3,0,none⟩) 5 5]) I9 ((b,nO 0 0 0 0 0 (⟨#[]⟩:Bs) none 0 0 0)::(n,nO f g h i j k a c e l)::·) F7 vi fun r4 I10 F10=>(It (r4==0) (cV P 61 (#[vp (some p),nV 8 3 0 0 0 (⟨#[]⟩:Bs) none 0 0 0,vi 1,vi d]) I10 ((b,nO 0 0 0 0 0 (⟨#[]⟩:Bs) none 0 0 0)::(n,nO f g h i j k a c e l)::F10) fun e8 I11 G8=>((∃(ao ap aq ar au:Int) (av:Bs) (aa:OA) (ab ac:Nat) (aw:Int),e8=.returned (nV ao ap aq ar au av aa ab ac aw)∧∃F11:cR,List.Perm G8 ((b,nO 0 0 0 0 0 (⟨#[]⟩:Bs) none 0 0 0)::(n,nO f g h i j k a c e l)::F11)∧Q (.returned (nV ao ap aq ar au av aa ab ac aw)) I11 F11)∨(∃aZ:List PanicEntry,e8=.panicked aZ∧∃F12:cR,List.Perm G8 ((b,nO 0 0 0 0 0 (⟨#[]⟩:Bs) none 0 0 0)::(n,nO f g h i j k a c e l)::F12)∧Q (.panicked aZ) I11 F12))) (It (r4==1) (cV P 61 (#[vp (some p),nV 8 4 0 0 0 (⟨#[]⟩:Bs) none 0 0 0,vi 2,vi d]) I10 ((b,nO 0 0 0 0 0 (⟨#[]⟩:Bs) none 0 0 0)::(n,nO f g h i j k a c e l)::F10) fun e9 I12 G9=>((∃(ax ay az aA aB:Int) (aC:Bs) (ae:OA) (af ag:Nat) (aD:Int),e9=.returned (nV ax ay az aA aB aC ae af ag aD)∧∃F13:cR,List.Perm G9 ((b,nO 0 0 0 0 0 (⟨#[]⟩:Bs) none 0 0 0)::(n,nO f g h i j k a c e l)::F13)∧Q (.returned (nV ax ay az aA aB aC ae af ag aD)) I12 F13)∨(∃a0:List PanicEntry,e9=.panicked a0∧∃F14:cR,List.Perm G9 ((b,nO 0 0 0 0 0 (⟨#[]⟩:Bs) none 0 0 0)::(n,nO f g h i j k a c e l)::F14)∧Q (.panicked a0) I12 F14))) (It (r4==2) (cV P 61 (#[vp (some p),nV 8 5 0 0 0 (⟨#[]⟩:Bs) none 0 0 0,vi 2,vi d]) I10 ((b,nO 0 0 0 0 0 (⟨#[]⟩:Bs) none 0 0 0)::(n,nO f g h i j k a c e l)::F10) fun a6 I13 G10=>((∃(aE aF aG aH aI:Int) (aJ:Bs) (ah:OA) (ai aj:Nat) (aK:Int),a6=.returned (nV aE aF aG aH aI aJ ah ai aj aK)∧∃F15:cR,List.Perm G10 ((b,nO 0 0 0 0 0 (⟨#[]⟩:Bs) none 0 0 0)::(n,nO f g h i j k a c e l)::F15)∧Q (.returned (nV aE aF aG aH aI aJ ah ai aj aK)) I13 F15)∨(∃a1:List PanicEntry,a6=.panicked a1∧∃F16:cR,List.Perm G10 ((b,nO 0 0 0 0 0 (⟨#[]⟩:Bs) none 0 0 0)::(n,nO f g h i j k a c e l)::F16)∧Q (.panicked a1) I13 F16))) (It (r4==3) (cV P 18 (#[vp (some p)]) I10 ((b,nO 0 0 0 0 0 (⟨#[]⟩:Bs) none 0 0 0)::(n,nO f g h i j k a c e l)::F10) fun a7 I14 G11=>((a7=.returned (.tuple #[])∧∃F17:cR,List.Perm G11 ((b,nO 0 0 0 0 0 (⟨#[]⟩:Bs) none 0 0 0)::(n,nO f g h i j k a c e l)::F17)∧∀(b4:Nat) (I15:cS),cS.le I14 I15→I15 b4=some (Obj.cells #[vs (⟨#[98,105,100]⟩:Bs),vs (⟨#[97,115,107]⟩:Bs),vs (⟨#[108,97,115,116]⟩:Bs)] 9 (0,0))→cV P 23 (#[vp (some p),vl (some ⟨b4,0,none⟩) 3 3]) I15 ((b,nO 0 0 0 0 0 (⟨#[]⟩:Bs) none 0 0 0)::(n,nO f g h i j k a c e l)::F17) fun a8 I16 G12=>((∃(r5:Int),a8=.returned (vi r5)∧∃F18:cR,List.Perm G12 ((b,nO 0 0 0 0 0 (⟨#[]⟩:Bs) none 0 0 0)::(n,nO f g h i j k a c e l)::F18)∧Q (.returned (.agg #[vb 4,vb 0,vb 0,vi 0,vb (IntKind.wrap .u8 (1+(IntKind.wrap .u8 r5))),vs (⟨#[]⟩:Bs),vl none 0 0,vi m])) I16 F18)∨(∃a2:List PanicEntry,a8=.panicked a2∧∃F19:cR,List.Perm G12 ((b,nO 0 0 0 0 0 (⟨#[]⟩:Bs) none 0 0 0)::(n,nO f g h i j k a c e l)::F19)∧Q (.panicked a2) I16 F19)))∨(∃a3:List PanicEntry,a7=.panicked a3∧∃F20:cR,List.Perm G11 ((b,nO 0 0 0 0 0 (⟨#[]⟩:Bs) none 0 0 0)::(n,nO f g h i j k a c e l)::F20)∧Q (.panicked a3) I14 F20))) (It (r4==4) (cV P 22 (#[vp (some p),vi d]) I10 ((b,nO 0 0 0 0 0 (⟨#[]⟩:Bs) none 0 0 0)::(n,nO f g h i j k a c e l)::F10) fun a9 I17 G13=>((∃(r6:Int),a9=.returned (vi r6)∧∃F21:cR,List.Perm G13 ((b,nO 0 0 0 0 0 (⟨#[]⟩:Bs) none 0 0 0)::(n,nO f g h i j k a c e l)::F21)∧cV P 18 (#[vp (some p)]) I17 ((b,nO 0 0 0 0 0 (⟨#[]⟩:Bs) none 0 0 0)::(n,nO f g h i j k a c e l)::F21) fun ba I18 G14=>((ba=.returned (.tuple #[])∧∃F22:cR,List.Perm G14 ((b,nO 0 0 0 0 0 (⟨#[]⟩:Bs) none 0 0 0)::(n,nO f g h i j k a c e l)::F22)∧cV P 13 (#[vp (some p),vi r6]) I18 ((b,nO 0 0 0 0 0 (⟨#[]⟩:Bs) none 0 0 0)::(n,nO f g h i j k a c e l)::F22) fun bb I19 G15=>((∃(t u v w x:Int) (y:Bs) (o:OA) (q s:Nat) (z:Int),bb=.returned (nV t u v w x y o q s z)∧∃F23:cR,List.Perm G15 ((b,nO 0 0 0 0 0 (⟨#[]⟩:Bs) none 0 0 0)::(n,nO f g h i j k a c e l)::F23)∧∀ak:Nat,∀(b5:Nat) (I20:cS),cS.le I19 I20→I20 b5=some (Obj.cells #[vs (⟨#[41]⟩:Bs)] 9 (0,0))→cV P 23 (#[vp (some p),vl (some ⟨b5,0,none⟩) 1 1]) I20 ((b,nO 0 0 0 0 0 (⟨#[]⟩:Bs) none 0 0 0)::(n,nO f g h i j k a c e l)::(ak,nO t u v w x y o q s z)::F23) fun bc I21 G16=>((∃(r7:Int),bc=.returned (vi r7)∧∃F24:cR,List.Perm G16 ((b,nO 0 0 0 0 0 (⟨#[]⟩:Bs) none 0 0 0)::(n,nO f g h i j k a c e l)::(ak,nO t u v w x y o q s z)::F24)∧Q (.returned (nV t u v w x y o q s z)) I21 F24)∨(∃a4:List PanicEntry,bc=.panicked a4∧∃F25:cR,List.Perm G16 ((b,nO 0 0 0 0 0 (⟨#[]⟩:Bs) none 0 0 0)::(n,nO f g h i j k a c e l)::(ak,nO t u v w x y o q s z)::F25)∧Q (.panicked a4) I21 F25)))∨(∃a5:List PanicEntry,bb=.panicked a5∧∃F26:cR,List.Perm G15 ((b,nO 0 0 0 0 0 (⟨#[]⟩:Bs) none 0 0 0)::(n,nO f g h i j k a c e l)::F26)∧Q (.panicked a5) I19 F26)))∨(∃aL:List PanicEntry,ba=.panicked aL∧∃F27:cR,List.Perm G14 ((b,nO 0 0 0 0 0 (⟨#[]⟩:Bs) none 0 0 0)::(n,nO f g h i j k a c e l)::F27)∧Q (.panicked aL) I18 F27)))∨(∃aM:List PanicEntry,a9=.panicked aM∧∃F28:cR,List.Perm G13 ((b,nO 0 0 0 0 0 (⟨#[]⟩:Bs) none 0 0 0)::(n,nO f g h i j k a c e l)::F28)∧Q (.panicked aM) I17 F28))) (cV P 19 (#[vp (some p),vi 130]) I10 ((b,nO 0 0 0 0 0 (⟨#[]⟩:Bs) none 0 0 0)::(n,nO f g h i j k a c e l)::F10) fun bd I22 G17=>((bd=.returned (.tuple #[])∧∃F29:cR,List.Perm G17 ((b,nO 0 0 0 0 0 (⟨#[]⟩:Bs) none 0 0 0)::(n,nO f g h i j k a c e l)::F29)∧Q (.returned (nV 0 0 0 0 0 (⟨#[]⟩:Bs) none 0 0 0)) I22 F29)∨(∃aN:List PanicEntry,bd=.panicked aN∧∃F30:cR,List.Perm G17 ((b,nO 0 0 0 0 0 (⟨#[]⟩:Bs) none 0 0 0)::(n,nO f g h i j k a c e l)::F30)∧Q (.panicked aN) I22 F30)))))))))))))))))∨(∃aO:List PanicEntry,e1=.panicked aO∧∃F31:cR,List.Perm G1 ((b,nO 0 0 0 0 0 (⟨#[]⟩:Bs) none 0 0 0)::F31)∧Q (.panicked aO) I1 F31))
theorem eB.vc{p:Addr}{d:Int}{I:cS}{F:cR}{Q:cW}  (h:eB.V (fun k o t n f s a l c q=>.agg #[.int .u8 k,.int .u8 o,.int .u8 t,.int .i64 n,.int .u8 f,.string s,.slice a l c,.int .i64 q]) (fun k o t n f s a l c q=>.cells #[.int .u8 k,.int .u8 o,.int .u8 t,.int .i64 n,.int .u8 f,.string s,.slice a l c,.int .i64 q] 29 (0,0)) (.int .u8) (.int .i64) .string .slice .pointer p d I F Q):cV P 50 #[.pointer (some p),.int .i64 d] I F Q :=
 tw (A:=(eU [2000,5005,8001,12001,15000,17000,19000,21000,24000] [13,18,19,22,23,29,45,61] [13,18,19,22,23,29,41,45,61] mr [] [7001,11001,14001,23001,28001] [] [] [] [] [])) [13,18,19,22,23,29,41,45,61] func50 h
end Go.Lx
namespace Go.Lx
open Go.Vc
def zL(x:Int)(v:Value)(H:cR):Prop:=(∃i:Int,v=.int .i64 i)∧H=[]
def tg(c:PC)(t:ByteArray)(f:Nat)(d:Int)(g:PS→Px×PS):Prop:=∀(b:Nat) (s:PS) (I:cS) (F F0:cR),c.Live s→F.Perm (c.px t b s::F0)→cV P f #[.pointer (some ⟨b,0,none⟩),.int .i64 d] I F (cZ c t b lN F0 (g s))
section
variable {c:PC} {t:ByteArray} {s:PS} {b:Nat} {I:cS} {F F0:cR}
theorem ye{b1:Nat}{w:ByteArray}(hb:I b1=some (.cells #[.string w] 9 (0,0))):Sl I 1 jO (some ⟨b1,0,none⟩) 1 [w]:=Sl.jM (f:=jO) (z:=1) (l:=[w]) (fun _=>rfl) hb rfl
theorem dL(hc:c.Of t)(hl:c.Live s){b1:Nat}{w:ByteArray}(hb:I b1=some (.cells #[.string w] 9 (0,0)))(hF:F.Perm (c.px t b s::F0)) :
  cV P 23 #[.pointer (some ⟨b,0,none⟩),.slice (some ⟨b1,0,none⟩) 1 1] I F (cZ c t b zL F0 (c.take w s)):=by
 refine cZ.use (mq hc hl (ye hb) (by decide) hF) (fun v H I2 G l2 hL hv hG=>?_) fun f e I2 G l2 hd hf=>?_
 ·obtain⟨rfl,rfl⟩:=hv
  exact .inl ⟨by rw[kV];exact hL,_,[],rfl,⟨⟨_,rfl⟩,rfl⟩,by rw[kV];exact hG⟩
 ·exact .inr ⟨f,by rw[kV];exact hd,hf⟩
theorem mu{d:Int}(h:d<24):c.dg d s=s:=by unfold PC.dg;rw[if_neg (by omega)]
theorem iX(hl:c.Live s):(c.dg 24 s).over=true∧c.dw ⟨132,(c.tok s.next).pos,false⟩ (c.dg 24 s):=by
 unfold PC.dg;rw[if_pos (by decide)]
 have:=hl.c5 (e:=132) (by decide)
 exact⟨by rw[this.1];rfl,this.2⟩
theorem wT{nx:Lv}{d kind oper gX pos:Int}{many:Nat}(hl:c.Live s)(h:d<24) :
  c.call nx d kind oper gX pos many s=(.mk kind oper gX 0 0 ⟨#[]⟩ (c.eg nx many true (c.take (⟨#[40]⟩:ByteArray) s.inc).2).1 pos,(c.take (⟨#[41]⟩:ByteArray) (c.eg nx many true (c.take (⟨#[40]⟩:ByteArray) s.inc).2).2).2):=by
 unfold PC.call;rw[mu h,hl.1,if_neg (by simp)]
theorem wU{nx:Lv}{kind oper gX pos:Int}{many:Nat}(hl:c.Live s):c.call nx 24 kind oper gX pos many s=(fs,c.dg 24 s):=by
 unfold PC.call;rw[(iX hl).1,if_pos rfl]
theorem nv(hc:c.Of t)(hl:c.Live s)(hk:(c.tok s.next).kind≠0){nx:Lv}{d:Int}(h0:0≤d)(h1:d≤24)(hx:d<24→tg c t 13 (d+1) nx.ex)(hkp:∀f,Kp c f nx.ex)(kind oper gX pos0:Int)(many:Nat)(hm:many≤2)(hF:F.Perm (c.px t b s::F0)) :
  cV P 61 #[.pointer (some ⟨b,0,none⟩),(Nd.mk kind oper gX 0 0 ⟨#[]⟩ none 0 [] pos0).v,.int .i64 many,.int .i64 d] I F (cZ c t b lN F0 (c.call nx d kind oper gX (c.tok s.next).pos many s)):=by
 have hp:=dA.of (I:=I) hF
 refine fe.vc (fun x n0 n1 n2 n3 n4 n5 a n k n7 m I' F'=>n0=kind∧n1=oper∧n2=gX∧n3=0∧n4=0∧n5=⟨#[]⟩∧n7=(c.tok s.next).pos∧d<24∧0≤x∧x≤many∧m=(many-x).toNat ∧
  ∃(ks:List Nd) (si:PS),(ks.length:Int)=x∧c.Live si∧c.eg nx many true (c.take (⟨#[40]⟩:ByteArray) s.inc).2=(ks.map Nd.px++(c.eg nx (many-x).toNat (decide (x=0)) si).1,(c.eg nx (many-x).toNat (decide (x=0)) si).2)∧Part 8 Nd.enc 29 (dI 29 false) a n k ks (c.px t b si::F0) F') ?_
 unfold fe.V
 intro bn b0
 refine⟨_,rfl,_,(hp.mono (cS.le_refl I) fun x hx=>.tail _ (.tail _ hx)).rd.dp (p:=1) (q:=4) rfl, ?_⟩
 refine (kc (hp.mono (cS.le_refl I) fun x hx=>.tail _ (.tail _ hx)) h0 h1).mono fun e I1 G l1 hd=>?_
 rcases hd with ⟨hlt,rfl,rfl⟩ | ⟨rfl,hf⟩
 rotate_left
 ·refine .inr (c7.dk [_,_] (hf.perm (F1:=[_,_]++F) (.refl _) (.refl _)) fun e' G' hf'=>.inr ⟨_, ?_,hf'.tail hF⟩)
  rw[wU hl];exact (iX hl).2
 rw[wT hl hlt]
 refine .inl ⟨_,rfl,F,.refl _, ?_⟩
 have dead1:∀{f:PF} {s':PS},c.dw f s'→s'=(c.take (⟨#[40]⟩:ByteArray) s.inc).2→c.dw f (c.take (⟨#[41]⟩:ByteArray) (c.eg nx many true (c.take (⟨#[40]⟩:ByteArray) s.inc).2).2).2:=fun h e=>(Kp.kids (hkp _) _ _ _ (e▸h)).take _
 refine cZ.use (dC hc hl hk (eW hF)) (fun v H I2 G l2 hL hv hG=>.inl ?_) fun f e I2 G l2 hd hf=>.inr ?_
 rotate_left
 ·exact c7.dk [_,_] hf fun e' G' hf'=>.inr ⟨f,dead1 (hd.take _) rfl,hf'⟩
 obtain⟨rfl,rfl⟩:=hv
 refine⟨rfl,c.px t b s.inc::F0,hG.trans (cT fun z=>by simp only[cU,cX,cY];omega),fun b1 I3 l3 hb1=>?_⟩
 refine cZ.use (dL hc hL hb1 (eW (.refl _))) (fun v H I4 G l4 hL1 hv hG=>.inl ?_) fun f e I4 G l4 hd hf=>.inr ?_
 rotate_left
 ·exact c7.dk [_,_] hf fun e' G' hf'=>.inr ⟨f,dead1 hd rfl,hf'⟩
 obtain⟨⟨i1,rfl⟩,rfl⟩:=hv
 refine⟨_,rfl,c.px t b (c.take (⟨#[40]⟩:ByteArray) s.inc).2::F0,hG.trans (cT fun z=>by simp only[cU,cX,cY];omega),⟨_,rfl,rfl,rfl,rfl,rfl,rfl,rfl,hlt,by decide,by omega,rfl,[],_,rfl,hL1, ?_,Part.nil⟩, ?_⟩
 ·rw[decide_eq_true rfl,show ((many:Int)-0).toNat=many by omega];rfl
 intro x n0 n1 n2 n3 n4 n5 a n k n7 m I5 F4 l5 ⟨g0,g1,g2,g3,g4,g5,g7,_,x0,x1,gm,ks,si,gl,hLi,gk,gP⟩
 subst g0 g1 g2 g3 g4 g5 g7
 obtain⟨A,hs,hA,hO,hFp⟩:=gP
 have hnl:=hA.1
 have frame:∀(X Y:Nat×Obj),(X::Y::F4).Perm (c.px t b si::([X,Y]++(A++(dy ks.length hs++F0)))):=fun X Y=>(hFp.cons _ |>.cons _).trans (cT fun z=>by simp only[cU,cX,cY];omega)
 have key:∀(sj:PS) (X Y:Nat×Obj) (I5:cS) (F5:cR) (Q':Ending→cS→cR→Prop),c.Live sj→F5.Perm (A++(dy ks.length hs++(c.px t b sj::F0))) →
   c.eg nx (many-x).toNat (decide (x=0)) si=((nx.ex sj).1::(c.eg nx (many-(x+1)).toNat false (nx.ex sj).2).1,(c.eg nx (many-(x+1)).toNat false (nx.ex sj).2).2)→0≤x→x<many →
   (∀(tn:Nd) (I8:cS) (G F6:cR),cS.le I5 I8→G.Perm (X::Y::F6) →
    (∀(b3:Nat) (I9:cS),cS.le I8 I9→I9 b3=some (.cells tn.enc.toArray 29 (0,0))→dW P (Builtin.append_ #[27,27] 27 #[.slice a n k,.slice (some ⟨b3,0,none⟩) 1 1]) I9 (X::Y::F6) fun v I10 G6=>∃(ra:Option Addr) (rn rc:Nat),v=.slice ra rn rc∧∃F7:cR,G6.Perm (X::Y::F7) ∧
     ∃(ks:List Nd) (si:PS),(ks.length:Int)=x+1∧c.Live si∧c.eg nx many true (c.take (⟨#[40]⟩:ByteArray) s.inc).2=(ks.map Nd.px++(c.eg nx (many-(x+1)).toNat (decide (x+1=0)) si).1,(c.eg nx (many-(x+1)).toNat (decide (x+1=0)) si).2)∧Part 8 Nd.enc 29 (dI 29 false) ra rn rc ks (c.px t b si::F0) F7)→Q' (.returned tn.v) I8 G) →
   (∀(f:PF) (e:Ending) (I8:cS) (G:cR),cS.le I5 I8→c.dw f (c.eg nx many true (c.take (⟨#[40]⟩:ByteArray) s.inc).2).2→c7 f ([X,Y]++F0) e G→Q' e I8 G) →
   cV P 13 #[.pointer (some ⟨b,0,none⟩),.int .i64 (d+1)] I5 (X::Y::F5) Q':=by
  intro sj X Y I5 F5 Q' hLj hF5 hkd x0 x1 k1 k2
  refine cZ.use (hx hlt b sj I5 _ ([X,Y]++(A++(dy ks.length hs++F0))) hLj ((hF5.cons _ |>.cons _).trans (cT fun z=>by simp only[cU,cX,cY];omega))) (fun v H I8 G l8 hL8 hv hG=>?_) fun f e I8 G l8 hd hf=>?_
  ·obtain⟨tn,rfl,hpx,hOt⟩:=hv
   refine k1 tn I8 G (H++(A++(dy ks.length hs++(c.px t b (nx.ex sj).2::F0)))) l8 (hG.trans (cT fun z=>by simp only[cU,cX,cY];omega)) fun b3 I9 l9 hb3=>?_
   refine dW.mono (gY (f:=Nd.enc) Nd.tS (zv:=jG.v) (by':=72) (by kernel_rfl) (by kernel_rfl) rfl (by decide) (O:=dI 29 false) (x:=tn) (F:=c.px t b (nx.ex sj).2::F0) (R0:=[X,Y]) ⟨A,hs,hA,hO,.refl _⟩ tn.wA rfl hb3 hOt (.refl _) (by omega)) fun v I10 G2 l10 ⟨ra,rn,rc,hv,F7,hG7,hP7⟩=>?_
   refine⟨ra,rn,rc,hv,F7,hG7,ks++[tn],(nx.ex sj).2,by rw[List.length_append,List.length_singleton];omega,hL8, ?_,hP7⟩
   rw[gk,hkd,decide_eq_false (by omega:¬x+1=0),List.map_append,List.append_assoc,List.map_singleton,hpx];rfl
  ·refine k2 f e I8 G l8 ?_ ?_
   ·rw[gk,hkd];exact Kp.kids (hkp _) _ _ _ hd
   ·refine c7.more (A:=A++dy ks.length hs) (hf.perm (cT fun z=>by simp only[cX];omega) (.refl _))
 refine⟨fun hlt2=>?_,fun hge=>?_⟩
 ·have hlt2:=of_decide_eq_true hlt2
  have hsz:((many:Int)-x).toNat=((many:Int)-(x+1)).toNat+1:=by omega
  refine⟨fun hpos=>fun b2 I6 l6 hb2=>?_,fun hpos=>?_⟩
  ·have hpos:=of_decide_eq_true hpos
   have hkd:c.eg nx (many-x).toNat (decide (x=0)) si=((nx.ex (c.take (⟨#[44]⟩:ByteArray) si).2).1::(c.eg nx (many-(x+1)).toNat false (nx.ex (c.take (⟨#[44]⟩:ByteArray) si).2).2).1,(c.eg nx (many-(x+1)).toNat false (nx.ex (c.take (⟨#[44]⟩:ByteArray) si).2).2).2):=by
    rw[hsz,PC.eg,decide_eq_false (by omega)];rfl
   refine cZ.use (dL hc hLi hb2 (frame _ _)) (fun v H I7 G l7 hL7 hv hG=>.inl ?_) fun f e I7 G l7 hd hf=>.inr ?_
   rotate_left
   ·refine c7.dk [_,_] hf fun e' G' hf'=>.inr ⟨f,PC.dw.take ?_ _,c7.more (A:=A++dy ks.length hs) (hf'.perm (cT fun z=>by simp only[cX];omega) (.refl _))⟩
    rw[gk,hkd];exact Kp.kids (hkp _) _ _ _ (hkp _ _ hd)
   obtain⟨⟨i2,rfl⟩,rfl⟩:=hv
   refine⟨_,rfl,A++(dy ks.length hs++(c.px t b (c.take (⟨#[44]⟩:ByteArray) si).2::F0)),hG.trans (cT fun z=>by simp only[cU,cX,cY];omega),key _ _ _ _ _ _ hL7 (.refl _) hkd x0 hlt2 (fun tn I8 G F6 l8 hG8 kA=>.inl ⟨_,_,_,_,_,_,_,_,_,_,rfl,F6,hG8,fun b3 I9 l9 hb3=>?_⟩) fun f e I8 G l8 hd hf=>.inr (c7.dk [_,_] hf fun e' G' hf'=>.inr ⟨f,hd.take _,hf'⟩)⟩
   refine dW.mono (kA b3 I9 l9 hb3) fun v I10 G6 l10 ⟨ra,rn,rc,hv,F7,hG7,r⟩=>⟨ra,rn,rc,hv,F7,hG7,(many-(x+1)).toNat,by omega, ?_⟩
   rw[iw (n:=x+1) (by omega)]
   exact⟨rfl,rfl,rfl,rfl,rfl,rfl,rfl,hlt,by omega,by omega,rfl,r⟩
  ·have hpos:x=0:=by have:=of_decide_eq_false hpos;omega
   have hkd:c.eg nx (many-x).toNat (decide (x=0)) si=((nx.ex si).1::(c.eg nx (many-(x+1)).toNat false (nx.ex si).2).1,(c.eg nx (many-(x+1)).toNat false (nx.ex si).2).2):=by
    rw[hsz,PC.eg,decide_eq_true hpos];rfl
   refine key _ _ _ _ _ _ hLi hFp hkd x0 hlt2 (fun tn I8 G F6 l8 hG8 kA=>.inl ⟨_,_,_,_,_,_,_,_,_,_,rfl,F6,hG8,fun b3 I9 l9 hb3=>?_⟩) fun f e I8 G l8 hd hf=>.inr (c7.dk [_,_] hf fun e' G' hf'=>.inr ⟨f,hd.take _,hf'⟩)
   refine dW.mono (kA b3 I9 l9 hb3) fun v I10 G6 l10 ⟨ra,rn,rc,hv,F7,hG7,r⟩=>⟨ra,rn,rc,hv,F7,hG7,(many-(x+1)).toNat,by omega, ?_⟩
   rw[iw (n:=x+1) (by omega)]
   exact⟨rfl,rfl,rfl,rfl,rfl,rfl,rfl,hlt,by omega,by omega,rfl,r⟩
 ·have hge:=of_decide_eq_false hge
  intro b5 I6 l6 hb5
  have hxm:((many:Int)-x).toNat=0:=by omega
  have hend:c.eg nx many true (c.take (⟨#[40]⟩:ByteArray) s.inc).2=(ks.map Nd.px,si):=by rw[gk,hxm,PC.eg,List.append_nil]
  rw[hend]
  refine cZ.use (dL hc hLi hb5 (frame _ _)) (fun v H I7 G l7 hL7 hv hG=>.inl ?_) fun f e I7 G l7 hd hf=>.inr ?_
  ·obtain⟨⟨i3,rfl⟩,rfl⟩:=hv
   subst hnl
   refine⟨_,rfl,c.px t b (c.take (⟨#[41]⟩:ByteArray) si).2::((A++dy ks.length hs)++F0),hG.trans (cT fun z=>by simp only[cU,cX,cY];omega),.inl ⟨hL7,_,A++dy ks.length hs,rfl,⟨.mk n0 n1 n2 0 0 ⟨#[]⟩ a k ks (c.tok s.next).pos,rfl, ?_,.mk (t:=.mk n0 n1 n2 0 0 ⟨#[]⟩ a k ks (c.tok s.next).pos) hA (fun h=>by cases h) hO⟩,.refl _⟩⟩
   rw[Nd.px,Nd.qm]
  ·exact c7.dk [_,_] hf fun e' G' hf'=>.inr ⟨f,hd,c7.more (A:=A++dy ks.length hs) (hf'.perm (cT fun z=>by simp only[cX];omega) (.refl _))⟩
end
end Go.Lx
namespace Go.Lx
open Go.Vc
section
variable {c:PC} {t:ByteArray} {s:PS} {b:Nat} {I:cS} {F F0:cR}
theorem PC.dw.live{f:PF}(h:c.dw f s)(hl:c.Live s):False:=by
 have:=h.1
 unfold PC.fin at this
 rw[hl.1,if_neg (by simp),if_neg (by have:=hl.2;omega)] at this
 cases this
theorem rU{ws:List ByteArray}(h:0≤c.any ws s):∃w∈ws,c.eM w s=true:=by
 have:∀(ws:List ByteArray) (i:Int),0≤c.gu s ws i→∃w∈ws,c.eM w s=true:=by
  intro ws
  induction ws with
  | nil=>intro i h;rw[PC.gu] at h;omega
  | cons w r ih =>
    intro i h
    rw[PC.gu] at h
    by_cases hw:c.eM w s=true
    ·exact⟨w,.head _,hw⟩
    ·rw[if_neg hw] at h
     obtain⟨x,hx,hxw⟩:=ih _ h
     exact⟨x,.tail _ hx,hxw⟩
 exact this ws 0 h
def yV(l m:List ByteArray):Bool:=l.all fun w=>m.all fun x=>!(w.toList==x.toList)
theorem wV{l m:List ByteArray}(hf:yV l m=true)(h:0≤c.any l s):c.any m s<0:=by
 apply Int.not_le.1
 intro h2
 obtain⟨w,hw,h3⟩:=rU h
 obtain⟨x,hx,h4⟩:=rU h2
 unfold PC.eM at h3 h4
 simp only[Bool.and_eq_true,beq_iff_eq] at h3 h4
 have:=List.all_eq_true.1 (List.all_eq_true.1 hf w hw) x hx
 rw[←h3.1,←h4.1] at this
 simp at this
def ue:List ByteArray:=[(⟨#[97,98,115]⟩:ByteArray),(⟨#[109,105,110]⟩:ByteArray),(⟨#[109,97,120]⟩:ByteArray),(⟨#[104,97,115]⟩:ByteArray),(⟨#[40]⟩:ByteArray)]
theorem zM:(0≤c.any fS s→c.any ue s=c.any fS s)∧(c.any fS s<0→c.any ue s=if c.eM (⟨#[104,97,115]⟩:ByteArray) s then 3 else if c.eM (⟨#[40]⟩:ByteArray) s then 4 else -1):=by
 unfold PC.any ue fS
 simp only[PC.gu]
 generalize c.eM _ s=b1
 generalize c.eM _ s=b2
 generalize c.eM _ s=b3
 generalize c.eM _ s=b4
 generalize c.eM _ s=b5
 cases b1<;>cases b2<;>cases b3<;>cases b4<;>cases b5<;>decide
theorem ke(hc:c.Of t)(hl:c.Live s)(h:(c.literal s).1.2=false):c.literal s=((fs,false),s):=by
 by_cases hk:(c.tok s.next).kind=3
 ·rw[qB hl hk] at h;cases h
 ·have:=ud hc hl hk
  split at this
  ·exact this
  ·rw[this] at h;cases h
theorem cZ.leaf{r:Px×PS}{e:Ending}{G:cR}(hL:c.Live r.2){k o ty n f p:Int}{w:ByteArray}(h:r.1=.mk k o ty n f w [] p)(he:e=.returned (Nd.mk k o ty n f w none 0 [] p).v)(hG:G.Perm (c.px t b r.2::F0)):cZ c t b lN F0 r e I G :=
 .inl ⟨hL,_,[],he,⟨_,rfl,by rw[h];simp only[Nd.px,Nd.rD],dI.leaf⟩,hG⟩
theorem words{b1:Nat}{ws:List ByteArray}{cs:Array Value}(hb:I b1=some (.cells cs 9 (0,0)))(h:cs.toList=ws.flatMap jO):Sl I 1 jO (some ⟨b1,0,none⟩) ws.length ws:=Sl.jM (f:=jO) (z:=1) (fun _=>rfl) hb h
theorem uO(hc:c.Of t){nx:Lv}{d:Int}(h0:0≤d)(h1:d≤24)(hx:d<24→tg c t 13 (d+1) nx.ex)(hkp:∀f,Kp c f nx.ex)(hl:c.Live s)(hF:F.Perm (c.px t b s::F0)) :
  cV P 50 #[.pointer (some ⟨b,0,none⟩),.int .i64 d] I F (cZ c t b lN F0 (c.one nx d s)):=by
 have hn:=hl.now
 refine eB.vc ?_
 unfold eB.V
 intro b0
 refine cZ.use (kW hc hl (qy hF)) (fun v H I1 G l1 hL hv hG=>.inl ?_) fun f e I1 G l1 hd hf=>.inr ?_
 rotate_left
 ·refine c7.dk [_] hf fun e' G' hf'=>.inr ⟨f, ?_,hf'⟩
  cases h2:(c.literal s).1.2 with
  | true=>unfold PC.one;rw[h2,if_pos rfl];exact hd
  | false=>rw[ke hc hl h2] at hd;exact (hd.live hl).elim
 obtain⟨n,rfl,hpx,hO,rfl⟩:=hv
 refine⟨_,_,_,_,_,_,_,_,_,_,_,rfl,c.px t b (c.literal s).2::F0,hG.trans (cT fun z=>by simp only[cU,cX,cY];omega),fun bn=>⟨fun h2=>?_,fun h2=>?_⟩⟩
 ·have e1:c.one nx d s=((c.literal s).1.1,(c.literal s).2):=by unfold PC.one;rw[h2,if_pos rfl]
  rw[e1]
  exact .inl ⟨hL,_,[],rfl,⟨n,rfl,hpx,hO⟩,.refl _⟩
 have eL:=ke hc hl h2
 clear hG
 rw[eL]
 generalize hF1:c.px t b (((fs,false),s):(Px×Bool)×PS).2::F0=F1
 have hF1:F1.Perm (c.px t b s::F0):=by rw[←hF1]
 have one_:c.one nx d s=if (c.tok s.next).kind=2 then (.mk 2 0 0 0 0 (c.tok s.next).text [] (c.tok s.next).pos,s.inc)
   else if 0≤c.any iH s then (.mk 3 0 0 0 (c.any iH s+1) ⟨#[]⟩ [] (c.tok s.next).pos,s.inc)
   else if 0≤c.any fS s then c.call nx d 8 (3+c.any fS s) 0 (c.tok s.next).pos (if c.any fS s=0 then 1 else 2) s
   else if 0≤c.any iU s then c.call nx d 9 0 (1+c.any iU s) (c.tok s.next).pos 1 s else c.rest nx d s:=by
  unfold PC.one;rw[eL,if_neg (by simp),hn]
 have hp1:∀{J:cS} (X Y:Nat×Obj),dA J (X::Y::F1) t b (c.tok s.next) (gh (c.tok s.next)):=fun X Y=>.inr (.tail _ (.tail _ (hF1.mem_iff.2 (.head _))))
 have up:∀{G:cR} {X Y:Nat×Obj} {s':PS} {K:cR},G.Perm (c.px t b s'::(K++(X::Y::F0)))→G.Perm (X::Y::(c.px t b s'::(K++F0))):=fun h=>h.trans (cT fun z=>by simp only[cU,cX,cY];omega)
 refine⟨_,rfl,_,(hp1 _ _).rd.dp (p:=1) (q:=4) rfl,_,rfl,_,(hp1 _ _).rd.dp (p:=1) (q:=0) rfl,fun h3=>?_,fun h3=>?_⟩
 ·have h3:(c.tok s.next).kind=2:=by simpa using h3
  have e1:c.one nx d s=(.mk 2 0 0 0 0 (c.tok s.next).text [] (c.tok s.next).pos,s.inc):=by rw[one_,if_pos h3]
  have e2:c.name s=((c.tok s.next).text,s.inc):=by unfold PC.name;rw[hn,if_pos h3]
  rw[e1]
  refine cZ.use (gx hc hl (eW hF1)) (fun v K I2 G l2 hL hv hG=>.inl ?_) fun f e I2 G l2 hd hf=>.inr ?_
  ·obtain⟨rfl,rfl⟩:=hv
   rw[e2] at hL hG ⊢
   exact⟨_,rfl,_,up hG,.leaf hL rfl rfl (.refl _)⟩
  ·rw[e2] at hd
   exact c7.dk [_,_] hf fun e' G' hf'=>.inr ⟨f,hd,hf'⟩
 have h3:(c.tok s.next).kind≠2:=by simpa using h3
 rw[if_neg h3] at one_
 intro b1 I3 l3 hb1
 refine cV.ret (fD hl (hp1 _ _) (words (ws:=iH) hb1 rfl) (by decide)) fun I4 l4=>⟨_,rfl,F1,.refl _,fun h4=>?_,fun h4=>?_⟩
 ·have h4:0≤c.any iH s:=of_decide_eq_true h4
  have hlt:c.any iH s<6:=(fq h4).2
  rw[one_,if_pos h4]
  refine cZ.use (dC hc hl (fE hl h4) (eW hF1)) (fun v K I5 G l5 hL hv hG=>.inl ?_) fun f e I5 G l5 hd hf=>.inr (c7.dk [_,_] hf fun e' G' hf'=>.inr ⟨f,hd,hf'⟩)
  obtain⟨rfl,rfl⟩:=hv
  refine⟨rfl,_,up hG,.leaf hL rfl ?_ (.refl _)⟩
  rw[w8 (n:=c.any iH s) (by omega),w8 (n:=1+c.any iH s) (by omega),Int.add_comm 1];rfl
 have h4:¬0≤c.any iH s:=of_decide_eq_false h4
 rw[if_neg h4] at one_
 have pass:∀{r:Px×PS} {g:Nat} {args:Array Value} {I5:cS} {X Y:Nat×Obj} {H1:cR} {Q':Ending→cS→cR→Prop},cV P g args I5 H1 (cZ c t b lN (X::Y::F0) r) →
   (∀(n:Nd) (I6:cS) (G F8:cR),G.Perm (X::Y::F8)→cZ c t b lN F0 r (.returned n.v) I6 F8→Q' (.returned n.v) I6 G)→(∀(f:PF) (e:Ending) (I6:cS) (G:cR),c.dw f r.2→c7 f ([X,Y]++F0) e G→Q' e I6 G)→cV P g args I5 H1 Q':=fun h k1 k2 =>
  cZ.use h (fun v K I6 G l6 hL hv hG=>by
   obtain⟨n,rfl,hv⟩:=hv
   exact k1 n I6 G _ (up hG) (.inl ⟨hL,_,K,rfl,⟨n,rfl,hv⟩,.refl _⟩)) fun f e I6 G l6 hd hf=>k2 f e I6 G hd hf
 intro b2 I6 l6 hb2
 refine cV.ret (fD hl (hp1 _ _) (words (ws:=iU) hb2 rfl) (by decide)) fun I7 l7=>⟨_,rfl,F1,.refl _,fun h5=>?_,fun h5=>?_⟩
 ·have h5:0≤c.any iU s:=of_decide_eq_true h5
  have hlt:c.any iU s<4:=(fq h5).2
  have h6:c.any fS s<0:=wV (by kernel_rfl:yV iU fS=true) h5
  rw[one_,if_neg (by omega),if_pos h5]
  have hw:IntKind.wrap .u8 (1+IntKind.wrap .u8 (c.any iU s))=1+c.any iU s:=by rw[w8 (n:=c.any iU s) (by omega),w8 (by omega)]
  rw[hw]
  exact pass (nv hc hl (fE hl h5) h0 h1 hx hkp 9 0 (1+c.any iU s) 0 1 (by decide) (eW hF1)) (fun n I8 G F8 hG hD=>.inl ⟨_,_,_,_,_,_,_,_,_,_,rfl,F8,hG,hD⟩) fun f e I8 G hd hf=>.inr (c7.dk [_,_] hf fun e' G' hf'=>.inr ⟨f,hd,hf'⟩)
 have h5:¬0≤c.any iU s:=of_decide_eq_false h5
 rw[if_neg h5] at one_
 intro b3 I9 l9 hb3
 obtain⟨a1,a2⟩:=zM (c:=c) (s:=s)
 refine cV.ret (fD hl (hp1 _ _) (words (ws:=ue) hb3 rfl) (by decide)) fun I10 l10=>⟨_,rfl,F1,.refl _, ?_⟩
 by_cases hcall:0≤c.any fS s
 ·have hlt:c.any fS s<3:=(fq hcall).2
  rw[a1 hcall,one_,if_pos hcall]
  have hkd:=fE hl hcall
  refine⟨fun h6=>?_,fun h6=>⟨fun h7=>?_,fun h7=>⟨fun h8=>?_,fun h8=>?_⟩⟩⟩
  ·have h6:c.any fS s=0:=by simpa using h6
   rw[h6,if_pos rfl]
   exact pass (nv hc hl hkd h0 h1 hx hkp 8 3 0 0 1 (by decide) (eW hF1)) (fun n I8 G F8 hG hD=>.inl ⟨_,_,_,_,_,_,_,_,_,_,rfl,F8,hG,hD⟩) fun f e I8 G hd hf=>.inr (c7.dk [_,_] hf fun e' G' hf'=>.inr ⟨f,hd,hf'⟩)
  ·have h7:c.any fS s=1:=by simpa using h7
   rw[h7,if_neg (by decide)]
   exact pass (nv hc hl hkd h0 h1 hx hkp 8 4 0 0 2 (by decide) (eW hF1)) (fun n I8 G F8 hG hD=>.inl ⟨_,_,_,_,_,_,_,_,_,_,rfl,F8,hG,hD⟩) fun f e I8 G hd hf=>.inr (c7.dk [_,_] hf fun e' G' hf'=>.inr ⟨f,hd,hf'⟩)
  ·have h8:c.any fS s=2:=by simpa using h8
   rw[h8,if_neg (by decide)]
   exact pass (nv hc hl hkd h0 h1 hx hkp 8 5 0 0 2 (by decide) (eW hF1)) (fun n I8 G F8 hG hD=>.inl ⟨_,_,_,_,_,_,_,_,_,_,rfl,F8,hG,hD⟩) fun f e I8 G hd hf=>.inr (c7.dk [_,_] hf fun e' G' hf'=>.inr ⟨f,hd,hf'⟩)
  ·have h6:c.any fS s≠0:=by simpa using h6
   have h7:c.any fS s≠1:=by simpa using h7
   have h8:c.any fS s≠2:=by simpa using h8
   omega
 rw[if_neg hcall] at one_
 rw[a2 (by omega),one_]
 unfold PC.rest
 have isk:∀{w:ByteArray},c.eM w s=true→(c.tok s.next).kind≠0:=fun h hk=>by
  unfold PC.eM at h;rw[hn,hk] at h;simp at h
 by_cases hhas:c.eM (⟨#[104,97,115]⟩:ByteArray) s=true
 ·rw[if_pos hhas,if_pos hhas]
  refine⟨fun h=>absurd h (by decide),fun _=>⟨fun h=>absurd h (by decide),fun _=>⟨fun h=>absurd h (by decide),fun _=>⟨fun _=>?_,fun h=>absurd h (by decide)⟩⟩⟩⟩
  have hst:∀(x:Px),(if c.any [(⟨#[98,105,100]⟩:ByteArray),(⟨#[97,115,107]⟩:ByteArray),(⟨#[108,97,115,116]⟩:ByteArray)] s.inc<0 then (fs,c.c5 130 s.inc) else (x,s.inc.inc):Px×PS).2=(c.oneOf [(⟨#[98,105,100]⟩:ByteArray),(⟨#[97,115,107]⟩:ByteArray),(⟨#[108,97,115,116]⟩:ByteArray)] s.inc).2:=fun x=>by
   unfold PC.oneOf;split<;>rfl
  refine cZ.use (dC hc hl (isk hhas) (eW hF1)) (fun v K I5 G l5 hL hv hG=>.inl ?_) fun f e I5 G l5 hd hf=>.inr (c7.dk [_,_] hf fun e' G' hf'=>.inr ⟨f, ?_,hf'⟩)
  rotate_left
  ·rw[hst,PC.oneOf,hd.any,if_pos (by decide)];exact hd.c5 _
  obtain⟨rfl,rfl⟩:=hv
  refine⟨rfl,_,up hG,fun b4 I8 l8 hb4=>?_⟩
  refine cZ.use (mq hc hL (words (ws:=[(⟨#[98,105,100]⟩:ByteArray),(⟨#[97,115,107]⟩:ByteArray),(⟨#[108,97,115,116]⟩:ByteArray)]) hb4 rfl) (by decide) (eW (.refl _))) (fun v K I9 G l9 hL9 hv hG=>.inl ?_) fun f e I9 G l9 hd hf=>.inr (c7.dk [_,_] hf fun e' G' hf'=>.inr ⟨f,by rw[hst];exact hd,hf'⟩)
  obtain⟨rfl,rfl⟩:=hv
  have hge:¬c.any [(⟨#[98,105,100]⟩:ByteArray),(⟨#[97,115,107]⟩:ByteArray),(⟨#[108,97,115,116]⟩:ByteArray)] s.inc<0:=fun hlt=>by
   have:(c.oneOf [(⟨#[98,105,100]⟩:ByteArray),(⟨#[97,115,107]⟩:ByteArray),(⟨#[108,97,115,116]⟩:ByteArray)] s.inc).2=c.c5 130 s.inc:=if_pos hlt
   rw[this] at hL9
   exact (hL.c5 (e:=130) (by decide)).2.live hL9
  have hlt:c.any [(⟨#[98,105,100]⟩:ByteArray),(⟨#[97,115,107]⟩:ByteArray),(⟨#[108,97,115,116]⟩:ByteArray)] s.inc<3:=(fq (Int.not_lt.1 hge)).2
  have e2:(c.oneOf [(⟨#[98,105,100]⟩:ByteArray),(⟨#[97,115,107]⟩:ByteArray),(⟨#[108,97,115,116]⟩:ByteArray)] s.inc).2=s.inc.inc:=if_neg hge
  rw[e2] at hL9 hG
  rw[if_neg hge]
  refine⟨_,rfl,_,up hG,.leaf hL9 (by rw[hn]) ?_ (.refl _)⟩
  show _=Ending.returned (Value.agg #[_,_,_,_,.int .u8 (c.any [(⟨#[98,105,100]⟩:ByteArray),(⟨#[97,115,107]⟩:ByteArray),(⟨#[108,97,115,116]⟩:ByteArray)] s.inc+1),_,_,_])
  show Ending.returned (Value.agg #[_,_,_,_,.int .u8 (IntKind.wrap .u8 (1+IntKind.wrap .u8 (c.any [(⟨#[98,105,100]⟩:ByteArray),(⟨#[97,115,107]⟩:ByteArray),(⟨#[108,97,115,116]⟩:ByteArray)] s.inc))),_,_,_])=_
  rw[w8 (n:=c.any [(⟨#[98,105,100]⟩:ByteArray),(⟨#[97,115,107]⟩:ByteArray),(⟨#[108,97,115,116]⟩:ByteArray)] s.inc) (by omega),w8 (n:=1+c.any [(⟨#[98,105,100]⟩:ByteArray),(⟨#[97,115,107]⟩:ByteArray),(⟨#[108,97,115,116]⟩:ByteArray)] s.inc) (by omega),Int.add_comm 1];rfl
 have hhas:c.eM (⟨#[104,97,115]⟩:ByteArray) s=false:=by simpa using hhas
 have ff:¬(false=true):=by decide
 rw[hhas,if_neg ff,if_neg ff]
 by_cases hop:c.eM (⟨#[40]⟩:ByteArray) s=true
 ·rw[if_pos hop,if_pos hop]
  refine⟨fun h=>absurd h (by decide),fun _=>⟨fun h=>absurd h (by decide),fun _=>⟨fun h=>absurd h (by decide),fun _=>⟨fun h=>absurd h (by decide),fun _=>⟨fun _=>?_,fun h=>absurd h (by decide)⟩⟩⟩⟩⟩
  refine (kc (hp1 _ _) h0 h1).mono fun e I5 G l5 hd=>?_
  rcases hd with ⟨hlt,rfl,rfl⟩ | ⟨rfl,hf⟩
  rotate_left
  ·rw[(iX hl).1,if_pos rfl]
   exact .inr (c7.dk [_,_] (hf.perm (F1:=[_,_]++F1) (.refl _) (.refl _)) fun e' G' hf'=>.inr ⟨_,(iX hl).2,hf'.tail hF1⟩)
  rw[mu hlt,hl.1,if_neg (by simp)]
  refine .inl ⟨_,rfl,F1,.refl _, ?_⟩
  refine cZ.use (dC hc hl (isk hop) (eW hF1)) (fun v K I6 G l6 hL hv hG=>.inl ?_) fun f e I6 G l6 hd hf=>.inr (c7.dk [_,_] hf fun e' G' hf'=>.inr ⟨f,(hkp f _ hd).take _,hf'⟩)
  obtain⟨rfl,rfl⟩:=hv
  refine⟨rfl,_,up hG, ?_⟩
  refine cZ.use (hx hlt b s.inc I6 _ _ hL (eW (.refl _))) (fun v K I7 G l7 hL7 hv hG=>.inl ?_) fun f e I7 G l7 hd hf=>.inr (c7.dk [_,_] hf fun e' G' hf'=>.inr ⟨f,hd.take _,hf'⟩)
  obtain⟨n7,rfl,hpx7,hO7⟩:=hv
  refine⟨_,_,_,_,_,_,_,_,_,_,rfl,_,up hG,fun bn1 b5 I8 l8 hb5=>?_⟩
  refine cZ.use (dL hc hL7 hb5 (F0:=_::_::_::(K++F0)) (qz (.refl _))) (fun v L I9 G l9 hL9 hv hG=>.inl ?_) fun f e I9 G l9 hd hf=>.inr (c7.dk [_,_,_] hf fun e' G' hf'=>.inr ⟨f,hd,hf'.more⟩)
  obtain⟨⟨i9,rfl⟩,rfl⟩:=hv
  exact⟨_,rfl,c.px t b (c.take (⟨#[41]⟩:ByteArray) (nx.ex s.inc).2).2::(K++F0),hG.trans (cT fun z=>by simp only[cU,cX,cY];omega),.inl ⟨hL9,_,K,rfl,⟨n7,rfl,hpx7,hO7⟩,.refl _⟩⟩
 have hop:c.eM (⟨#[40]⟩:ByteArray) s=false:=by simpa using hop
 rw[hop,if_neg ff,if_neg ff]
 refine⟨fun h=>absurd h (by decide),fun _=>⟨fun h=>absurd h (by decide),fun _=>⟨fun h=>absurd h (by decide),fun _=>⟨fun h=>absurd h (by decide),fun _=>⟨fun h=>absurd h (by decide),fun _=>?_⟩⟩⟩⟩⟩
 refine (ej (hp1 _ _) 130).mono fun e I5 G l5 hf=>.inr ?_
 exact c7.dk [_,_] (hf.perm (F1:=[_,_]++F1) (.refl _) (.refl _)) fun e' G' hf'=>.inr ⟨_,(hl.c5 (by decide)).2,hf'.tail hF1⟩
end
end Go.Lx
namespace Go.Lx
open Go.Vc
theorem dI.two{x y:Nd}{H K:cR}{b1:Nat}{k o ty n f p:Int}{w:ByteArray}(hx:dI 29 false x H)(hy:dI 29 false y K) :
  dI 29 false (.mk k o ty n f w (some ⟨b1,0,none⟩) 2 [x,y] p) ((b1,.cells (x.enc++y.enc).toArray 29 (0,0))::(H++(K++[]))) :=
 .mk (t:=.mk k o ty n f w (some ⟨b1,0,none⟩) 2 [x,y] p) (A:=[(b1,.cells (x.enc++y.enc).toArray 29 (0,0))]) (hs:=fun i=>if i=0 then H else K)
  ⟨rfl,.inr ⟨b1,_,rfl,rfl,rfl,Nat.le_refl _,by simp[Nd.kids]⟩⟩ (fun h=>by cases h) fun i z h=>by
    match i,h with
    | 0,h=>cases h;exact hx
    | 1,h=>cases h;exact hy
theorem dI.z8{x:Nd}{H:cR}{b1:Nat}{k o ty n f p:Int}{w:ByteArray}(hx:dI 29 false x H) :
  dI 29 false (.mk k o ty n f w (some ⟨b1,0,none⟩) 1 [x] p) ((b1,.cells x.enc.toArray 29 (0,0))::(H++[])) :=
 .mk (t:=.mk k o ty n f w (some ⟨b1,0,none⟩) 1 [x] p) (A:=[(b1,.cells x.enc.toArray 29 (0,0))]) (hs:=fun i=>H)
  ⟨rfl,.inr ⟨b1,_,rfl,rfl,rfl,Nat.le_refl _,by simp[Nd.kids]⟩⟩ (fun h=>by cases h) fun i z h=>by
    match i,h with
    | 0,h=>cases h;exact hx
theorem dI.three{x y z:Nd}{H K L:cR}{b1:Nat}{k o ty n f p:Int}{w:ByteArray}(hx:dI 29 false x H)(hy:dI 29 false y K)(hz:dI 29 false z L) :
  dI 29 false (.mk k o ty n f w (some ⟨b1,0,none⟩) 3 [x,y,z] p) ((b1,.cells (x.enc++(y.enc++z.enc)).toArray 29 (0,0))::(H++(K++(L++[])))) :=
 .mk (t:=.mk k o ty n f w (some ⟨b1,0,none⟩) 3 [x,y,z] p) (A:=[(b1,.cells (x.enc++(y.enc++z.enc)).toArray 29 (0,0))]) (hs:=fun i=>if i=0 then H else if i=1 then K else L)
  ⟨rfl,.inr ⟨b1,_,rfl,rfl,rfl,Nat.le_refl _,by simp[Nd.kids]⟩⟩ (fun h=>by cases h) fun i u h=>by
    match i,h with
    | 0,h=>cases h;exact hx
    | 1,h=>cases h;exact hy
    | 2,h=>cases h;exact hz
def fA(c:PC)(l:Int)(sub:PS→Px×PS)(res:Px×PS)(many:Int)(fuel:Nat)(x:Px)(s:PS):Prop :=
 res=if l=4 then (if many=0 then (if c.any nb s<0 then (x,s) else (vG (11+c.any nb s) (c.now s).pos x (sub s.inc).1,(sub s.inc).2)) else (x,s)) else c.gI (nu l) (uM l) sub fuel x s
section
variable {c:PC} {t:ByteArray} {l:Int} {sub:PS→Px×PS} {res:Px×PS} {many:Int} {fuel:Nat} {x:Px} {s:PS}
theorem qC(h:0≤c.any (nu l) s):c.any (nu l) s<6:=by
 have h1:=(fq h).2
 have:(nu l).length≤6:=by unfold nu;repeat' split<;>try decide
 omega
theorem qD(l:Int):0≤uM l∧uM l≤18:=by unfold uM;repeat' split<;>try decide
theorem fA.stop(h:fA c l sub res many fuel x s)(hs:c.any (nu l) s<0∨(l=4∧many≠0)):res=(x,s):=by
 unfold fA at h
 by_cases h4:l=4
 ·subst h4
  rw[if_pos rfl] at h
  by_cases hm:many=0
  ·rw[if_pos hm] at h
   have hs:c.any nb s<0:=hs.resolve_right fun h=>h.2 hm
   rw[if_pos hs] at h;exact h
  ·rw[if_neg hm] at h;exact h
 ·rw[if_neg h4] at h
  have hs:=hs.resolve_right fun h=>h4 h.1
  cases fuel with
  | zero=>exact h
  | succ n=>rw[PC.gI,if_pos hs] at h;exact h
theorem fA.next(h:fA c l sub res many fuel x s)(hm:l≠4∨many=0)(ha:0≤c.any (nu l) s)(h0:0≤many)(hf:0<fuel):fA c l sub res (many+1) (fuel-1) (vG (uM l+c.any (nu l) s) (c.now s).pos x (sub s.inc).1) (sub s.inc).2:=by
 unfold fA at h ⊢
 by_cases h4:l=4
 ·subst h4
  have hm:=hm.resolve_left fun h=>h rfl
  rw[if_pos rfl,if_pos hm,if_neg (Int.not_lt.2 (show 0≤c.any nb s from ha))] at h
  rw[if_pos rfl,if_neg (by omega)];exact h
 ·rw[if_neg h4] at h ⊢
  obtain⟨n,rfl⟩:∃n,fuel=n+1:=⟨fuel-1,by omega⟩
  rw[PC.gI,if_neg (Int.not_lt.2 ha)] at h;exact h
theorem fA.dead(h:fA c l sub res many fuel x s)(hk:∀f,Kp c f sub)(hm:many≠0){f:PF}(hd:c.dw f s):c.dw f res.2:=by
 unfold fA at h
 rw[h]
 split
 ·exact hd
 ·exact Kp.gI _ _ _ hd
def PC.rV(c:PC)(l:Int)(sub:PS→Px×PS)(s:PS):Px×PS :=
 if l=4 then (if c.any nb (sub s).2<0 then sub s else (vG (11+c.any nb (sub s).2) (c.now (sub s).2).pos (sub s).1 (sub (sub s).2.inc).1,(sub (sub s).2.inc).2)) else c.loop (nu l) (uM l) sub s
theorem fA.start(c:PC)(l:Int)(sub:PS→Px×PS)(s:PS):fA c l sub (c.rV l sub s) 0 c.l.length (sub s).1 (sub s).2:=by
 unfold fA PC.rV
 split
 ·rw[if_pos rfl]
 ·rfl
theorem pT(hk:∀f,Kp c f sub){f:PF}(hd:c.dw f (sub s).2):c.dw f (c.rV l sub s).2:=by
 unfold PC.rV
 split
 ·rw[hd.any,if_pos (by decide)];exact hd
 ·exact Kp.gI _ _ _ hd
def qE(c:PC)(t:ByteArray)(l d:Int)(g:PS→Px×PS):Prop:=∀(b:Nat) (s:PS) (I:cS) (F F0:cR),c.Live s→F.Perm (c.px t b s::F0)→cV P 20 #[.pointer (some ⟨b,0,none⟩),.int .i64 l,.int .i64 d] I F (cZ c t b lN F0 (g s))
theorem qF{d:Int}{g:PS→Px×PS}(hl2:0≤l∧l≤10)(hr:qE c t (l+1) d g){b bp bl:Nat}{tp tl:Nat}{s:PS}{I:cS}{F F0:cR}(hl:c.Live s)(hp:(bp,Obj.cells #[.pointer (some ⟨b,0,none⟩)] tp (0,0))∈F)(hb:(bl,Obj.cells #[.int .i64 l] tl (0,0))∈F)(hF:F.Perm (c.px t b s::F0)) :
  cV P 39 #[.int .i64 d,.pointer (some ⟨bp,0,none⟩),.pointer (some ⟨bl,0,none⟩)] I F (cZ c t b lN F0 (g s)):=by
 refine eP.vc ?_
 unfold eP.V
 intro b0
 refine⟨_,ub (.tail _ hp),_,ub (.tail _ hb), ?_⟩
 rw[iw (n:=l+1) (by omega)]
 refine cZ.use (hr b s I _ _ hl (qy hF)) (fun v K I6 G l6 hL hv hG=>.inl ?_) fun f e I6 G l6 hd hf=>.inr (c7.dk [_] hf fun e' G' hf'=>.inr ⟨f,hd,hf'⟩)
 obtain⟨n,rfl,hv⟩:=hv
 exact⟨_,_,_,_,_,_,_,_,_,_,rfl,c.px t b (g s).2::(K++F0),hG.trans (cT fun z=>by simp only[cU,cX,cY];omega),.inl ⟨hL,_,K,rfl,⟨n,rfl,hv⟩,.refl _⟩⟩
theorem oU(hc:c.Of t){d:Int}(hl6:2≤l∧l≤6)(hMo:iI c sub)(hKp:∀f,Kp c f sub)(hs1:l<6→qE c t (l+1) d sub)(hs2:l=6→tg c t 38 d sub):qE c t l d (c.rV l sub):=by
 intro b s I F F0 hl hF
 refine fu.vc (fun many bp bl n0 n1 n2 n3 n4 n5 a n k n7 m I' F'=>bp=some ⟨b,0,none⟩∧l=bl∧0≤many∧∃(x:Nd) (H:cR) (si:PS) (fuel:Nat),n0=x.kind∧n1=x.oper∧n2=x.gX∧n3=x.n∧n4=x.field∧n5=x.name∧a=x.a∧n=x.kids.length∧k=x.c∧n7=x.pos∧dI 29 false x H∧c.Live si ∧
  many≤si.next∧fA c l sub (c.rV l sub s) many fuel x.px si∧c.l.length≤fuel+si.next∧m=c.l.length-si.next∧F'.Perm (c.px t b si::(H++F0))) ?_
 unfold fu.V
 intro b_p b_l b0
 refine⟨fun hlt=>?_,fun hlt=>?_⟩
 ·have hlt:=of_decide_eq_true hlt
  refine (rT l I _).mono fun e I1 G l1 ⟨wa,wn,wk,he,hS,hn9,hG⟩=>?_
  subst he hG
  refine⟨_,_,_,_,rfl,F,.refl _, ?_⟩
  refine cZ.use (qF (by omega) (hs1 hlt) hl (.head _) (.tail _ (.head _)) (qz hF)) (fun v K I2 G l2 hL hv hG=>.inl ?_) fun f e I2 G l2 hd hf=>.inr ?_
  rotate_left
  ·obtain⟨ch,he,F2,hG2,hD⟩:=c7.dk (I:=I2) (Q:=cZ c t b lN F0 (c.rV l sub s)) [_,_,_] hf fun e' G' hf'=>.inr ⟨f,pT hKp hd,hf'⟩
   exact⟨ch,he,_,_,F2,hG2,hD⟩
  obtain⟨x0,rfl,hpx0,hO0⟩:=hv
  have hRs:=fA.start c l sub s
  rw[←hpx0] at hRs
  refine⟨_,_,_,_,_,_,_,_,_,_,rfl,_,_,c.px t b (sub s).2::(K++F0),hG.trans (cT fun z=>by simp only[cU,cX,cY];omega),fun b_n=>⟨⟨_,rfl,rfl,Int.le_refl 0,x0,K,(sub s).2,c.l.length,rfl,rfl,rfl,rfl,rfl,rfl,rfl,rfl,rfl,rfl,hO0,hL,by omega,hRs,by omega,rfl,.refl _⟩, ?_⟩⟩
  intro many bp bl n0 n1 n2 n3 n4 n5 a n k n7 m I3 F3 l3 ⟨gp,gl,g0,x,H,si,fuel,e0,e1,e2,e3,e4,e5,ea,en,ek,e7,hO,hLi,hmn,hR,hfu,gm,hFi⟩
  subst gp gl e0 e1 e2 e3 e4 e5 ea en ek e7 gm
  have lS:=l2
  refine⟨fun h4=>?_,fun h4=>⟨fun hm0=>?_,fun hm0=>?_⟩⟩
  ·have h4:l≠4:=by simpa using h4
   refine cV.ret (fD hLi (dA.of (sm hFi)) (hS.mono (cS.le_trans lS l3)) hn9) fun I4 l4=>⟨_,rfl,F3,.refl _,fun h=>?_,fun h=>?_⟩
   ·have h:=of_decide_eq_true h
    have e1:=hR.stop (.inl h)
    exact .inl ⟨by rw[e1];exact hLi,_,H,rfl,⟨x,rfl,by rw[e1],hO⟩,by rw[e1];exact hFi⟩
   ·have h:0≤c.any (nu l) si:=by have:=of_decide_eq_false h;omega
    have haw:=qC h
    have hkd:=fE hLi h
    have hR2:=hR.next (.inl h4) h g0 (show 0<fuel by have:=hLi.2;omega)
    refine⟨_,rfl,_,(dA.of (I:=I4) (sm hFi)).rd.dp (p:=1) (q:=4) rfl, ?_⟩
    refine cZ.use (dC hc hLi hkd (sm hFi)) (fun v K I5 G l5 hL5 hv hG=>.inl ?_) fun f e I5 G l5 hd hf=>.inr (c7.dk [_,_,_,_] hf fun e' G' hf'=>.inr ⟨f,hR2.dead hKp (by omega) (hKp _ _ hd),hf'.more⟩)
    obtain⟨rfl,rfl⟩:=hv
    refine⟨rfl,c.px t b si.inc::(H++F0),hG.trans (cT fun z=>by simp only[cU,cX,cY];omega), ?_⟩
    refine cZ.use (qF (F0:=_::_::_::_::(H++F0)) (by omega) (hs1 hlt) hL5 (.head _) (.tail _ (.head _)) (sm (.refl _))) (fun v K I6 G l6 hL6 hv hG=>.inl ?_) fun f e I6 G l6 hd hf=>.inr (c7.dk [_,_,_,_] hf fun e' G' hf'=>.inr ⟨f,hR2.dead hKp (by omega) hd,hf'.more⟩)
    obtain⟨kn,rfl,hpx,hOk⟩:=hv
    have hup:=hMo si.inc
    have hnx:si.inc.next=si.next+1:=rfl
    refine⟨_,_,_,_,_,_,_,_,_,_,rfl,c.px t b (sub si.inc).2::(K++(H++F0)),hG.trans (cT fun z=>by simp only[cU,cX,cY];omega),fun b1=>⟨c.l.length-(sub si.inc).2.next, ?_,rfl,rfl, ?_,.mk 6 (uM l+c.any (nu l) si) 0 0 0 ⟨#[]⟩ (some ⟨b1,0,none⟩) 2 [x,kn] (c.tok si.next).pos,(b1,.cells (x.enc++kn.enc).toArray 29 (0,0))::(H++(K++[])),(sub si.inc).2,fuel-1,rfl, ?_,rfl,rfl,rfl,rfl,rfl,rfl,rfl,rfl,dI.two hO hOk,hL6, ?_, ?_, ?_,rfl, ?_⟩⟩
    ·have:=hLi.2;have:=hup.1;omega
    ·rw[iw (n:=many+1) (by have:=hLi.2;have:=hc.mb;omega)];omega
    ·have:=qD l;rw[w8 (n:=c.any (nu l) si) (by omega),w8 (by omega)];rfl
    ·rw[iw (n:=many+1) (by have:=hLi.2;have:=hc.mb;omega)];have:=hup.1;omega
    ·rw[iw (n:=many+1) (by have:=hLi.2;have:=hc.mb;omega),hLi.now] at *
     simp only[Nd.px,Nd.rD,hpx];exact hR2
    ·have:=hup.1;omega
    ·show List.Perm ((b1,Obj.cells (x.enc++kn.enc).toArray 29 (0,0))::_) _
     exact cT fun z=>by simp only[cU,cX,cY];omega
  ·have h4:l=4:=by simpa using h4
   have hm0:many=0:=by simpa using hm0
   refine cV.ret (fD hLi (dA.of (sm hFi)) (hS.mono (cS.le_trans lS l3)) hn9) fun I4 l4=>⟨_,rfl,F3,.refl _,fun h=>?_,fun h=>?_⟩
   ·have h:=of_decide_eq_true h
    have e1:=hR.stop (.inl h)
    exact .inl ⟨by rw[e1];exact hLi,_,H,rfl,⟨x,rfl,by rw[e1],hO⟩,by rw[e1];exact hFi⟩
   ·have h:0≤c.any (nu l) si:=by have:=of_decide_eq_false h;omega
    have haw:=qC h
    have hkd:=fE hLi h
    have hR2:=hR.next (.inr hm0) h g0 (show 0<fuel by have:=hLi.2;omega)
    refine⟨_,rfl,_,(dA.of (I:=I4) (sm hFi)).rd.dp (p:=1) (q:=4) rfl, ?_⟩
    refine cZ.use (dC hc hLi hkd (sm hFi)) (fun v K I5 G l5 hL5 hv hG=>.inl ?_) fun f e I5 G l5 hd hf=>.inr (c7.dk [_,_,_,_] hf fun e' G' hf'=>.inr ⟨f,hR2.dead hKp (by omega) (hKp _ _ hd),hf'.more⟩)
    obtain⟨rfl,rfl⟩:=hv
    refine⟨rfl,c.px t b si.inc::(H++F0),hG.trans (cT fun z=>by simp only[cU,cX,cY];omega), ?_⟩
    refine cZ.use (qF (F0:=_::_::_::_::(H++F0)) (by omega) (hs1 hlt) hL5 (.head _) (.tail _ (.head _)) (sm (.refl _))) (fun v K I6 G l6 hL6 hv hG=>.inl ?_) fun f e I6 G l6 hd hf=>.inr (c7.dk [_,_,_,_] hf fun e' G' hf'=>.inr ⟨f,hR2.dead hKp (by omega) hd,hf'.more⟩)
    obtain⟨kn,rfl,hpx,hOk⟩:=hv
    have hup:=hMo si.inc
    have hnx:si.inc.next=si.next+1:=rfl
    refine⟨_,_,_,_,_,_,_,_,_,_,rfl,c.px t b (sub si.inc).2::(K++(H++F0)),hG.trans (cT fun z=>by simp only[cU,cX,cY];omega),fun b1=>⟨c.l.length-(sub si.inc).2.next, ?_,rfl,rfl, ?_,.mk 6 (uM l+c.any (nu l) si) 0 0 0 ⟨#[]⟩ (some ⟨b1,0,none⟩) 2 [x,kn] (c.tok si.next).pos,(b1,.cells (x.enc++kn.enc).toArray 29 (0,0))::(H++(K++[])),(sub si.inc).2,fuel-1,rfl, ?_,rfl,rfl,rfl,rfl,rfl,rfl,rfl,rfl,dI.two hO hOk,hL6, ?_, ?_, ?_,rfl, ?_⟩⟩
    ·have:=hLi.2;have:=hup.1;omega
    ·rw[iw (n:=many+1) (by have:=hLi.2;have:=hc.mb;omega)];omega
    ·have:=qD l;rw[w8 (n:=c.any (nu l) si) (by omega),w8 (by omega)];rfl
    ·rw[iw (n:=many+1) (by have:=hLi.2;have:=hc.mb;omega)];have:=hup.1;omega
    ·rw[iw (n:=many+1) (by have:=hLi.2;have:=hc.mb;omega),hLi.now] at *
     simp only[Nd.px,Nd.rD,hpx];exact hR2
    ·have:=hup.1;omega
    ·show List.Perm ((b1,Obj.cells (x.enc++kn.enc).toArray 29 (0,0))::_) _
     exact cT fun z=>by simp only[cU,cX,cY];omega
  ·have h4:l=4:=by simpa using h4
   have hm0:many≠0:=by simpa using hm0
   have e1:=hR.stop (.inr ⟨h4,hm0⟩)
   exact .inl ⟨by rw[e1];exact hLi,_,H,rfl,⟨x,rfl,by rw[e1],hO⟩,by rw[e1];exact hFi⟩
 ·have h6:l=6:=by have:=of_decide_eq_false hlt;omega
  refine (rT l I _).mono fun e I1 G l1 ⟨wa,wn,wk,he,hS,hn9,hG⟩=>?_
  subst he hG
  refine⟨_,_,_,_,rfl,F,.refl _, ?_⟩
  refine cZ.use (hs2 h6 b s I1 _ _ hl (qz hF)) (fun v K I2 G l2 hL hv hG=>.inl ?_) fun f e I2 G l2 hd hf=>.inr ?_
  rotate_left
  ·obtain⟨ch,he,F2,hG2,hD⟩:=c7.dk (I:=I2) (Q:=cZ c t b lN F0 (c.rV l sub s)) [_,_,_] hf fun e' G' hf'=>.inr ⟨f,pT hKp hd,hf'⟩
   exact⟨ch,he,F2,hG2,hD⟩
  obtain⟨x0,rfl,hpx0,hO0⟩:=hv
  have hRs:=fA.start c l sub s
  rw[←hpx0] at hRs
  refine⟨_,_,_,_,_,_,_,_,_,_,rfl,c.px t b (sub s).2::(K++F0),hG.trans (cT fun z=>by simp only[cU,cX,cY];omega),fun b_n=>⟨⟨_,rfl,rfl,Int.le_refl 0,x0,K,(sub s).2,c.l.length,rfl,rfl,rfl,rfl,rfl,rfl,rfl,rfl,rfl,rfl,hO0,hL,by omega,hRs,by omega,rfl,.refl _⟩, ?_⟩⟩
  intro many bp bl n0 n1 n2 n3 n4 n5 a n k n7 m I3 F3 l3 ⟨gp,gl,g0,x,H,si,fuel,e0,e1,e2,e3,e4,e5,ea,en,ek,e7,hO,hLi,hmn,hR,hfu,gm,hFi⟩
  subst gp gl e0 e1 e2 e3 e4 e5 ea en ek e7 gm
  have lS:=l2
  refine⟨fun h4=>?_,fun h4=>⟨fun hm0=>?_,fun hm0=>?_⟩⟩
  ·have h4:l≠4:=by simpa using h4
   refine cV.ret (fD hLi (dA.of (sm hFi)) (hS.mono (cS.le_trans lS l3)) hn9) fun I4 l4=>⟨_,rfl,F3,.refl _,fun h=>?_,fun h=>?_⟩
   ·have h:=of_decide_eq_true h
    have e1:=hR.stop (.inl h)
    exact .inl ⟨by rw[e1];exact hLi,_,H,rfl,⟨x,rfl,by rw[e1],hO⟩,by rw[e1];exact hFi⟩
   ·have h:0≤c.any (nu l) si:=by have:=of_decide_eq_false h;omega
    have haw:=qC h
    have hkd:=fE hLi h
    have hR2:=hR.next (.inl h4) h g0 (show 0<fuel by have:=hLi.2;omega)
    refine⟨_,rfl,_,(dA.of (I:=I4) (sm hFi)).rd.dp (p:=1) (q:=4) rfl, ?_⟩
    refine cZ.use (dC hc hLi hkd (sm hFi)) (fun v K I5 G l5 hL5 hv hG=>.inl ?_) fun f e I5 G l5 hd hf=>.inr (c7.dk [_,_,_,_] hf fun e' G' hf'=>.inr ⟨f,hR2.dead hKp (by omega) (hKp _ _ hd),hf'.more⟩)
    obtain⟨rfl,rfl⟩:=hv
    refine⟨rfl,c.px t b si.inc::(H++F0),hG.trans (cT fun z=>by simp only[cU,cX,cY];omega), ?_⟩
    refine cZ.use (hs2 h6 b si.inc I5 _ (_::_::_::_::(H++F0)) hL5 (sm (.refl _))) (fun v K I6 G l6 hL6 hv hG=>.inl ?_) fun f e I6 G l6 hd hf=>.inr (c7.dk [_,_,_,_] hf fun e' G' hf'=>.inr ⟨f,hR2.dead hKp (by omega) hd,hf'.more⟩)
    obtain⟨kn,rfl,hpx,hOk⟩:=hv
    have hup:=hMo si.inc
    have hnx:si.inc.next=si.next+1:=rfl
    refine⟨_,_,_,_,_,_,_,_,_,_,rfl,c.px t b (sub si.inc).2::(K++(H++F0)),hG.trans (cT fun z=>by simp only[cU,cX,cY];omega),fun b1=>⟨c.l.length-(sub si.inc).2.next, ?_,rfl,rfl, ?_,.mk 6 (uM l+c.any (nu l) si) 0 0 0 ⟨#[]⟩ (some ⟨b1,0,none⟩) 2 [x,kn] (c.tok si.next).pos,(b1,.cells (x.enc++kn.enc).toArray 29 (0,0))::(H++(K++[])),(sub si.inc).2,fuel-1,rfl, ?_,rfl,rfl,rfl,rfl,rfl,rfl,rfl,rfl,dI.two hO hOk,hL6, ?_, ?_, ?_,rfl, ?_⟩⟩
    ·have:=hLi.2;have:=hup.1;omega
    ·rw[iw (n:=many+1) (by have:=hLi.2;have:=hc.mb;omega)];omega
    ·have:=qD l;rw[w8 (n:=c.any (nu l) si) (by omega),w8 (by omega)];rfl
    ·rw[iw (n:=many+1) (by have:=hLi.2;have:=hc.mb;omega)];have:=hup.1;omega
    ·rw[iw (n:=many+1) (by have:=hLi.2;have:=hc.mb;omega),hLi.now] at *
     simp only[Nd.px,Nd.rD,hpx];exact hR2
    ·have:=hup.1;omega
    ·show List.Perm ((b1,Obj.cells (x.enc++kn.enc).toArray 29 (0,0))::_) _
     exact cT fun z=>by simp only[cU,cX,cY];omega
  ·have h4:l=4:=by simpa using h4
   have hm0:many=0:=by simpa using hm0
   refine cV.ret (fD hLi (dA.of (sm hFi)) (hS.mono (cS.le_trans lS l3)) hn9) fun I4 l4=>⟨_,rfl,F3,.refl _,fun h=>?_,fun h=>?_⟩
   ·have h:=of_decide_eq_true h
    have e1:=hR.stop (.inl h)
    exact .inl ⟨by rw[e1];exact hLi,_,H,rfl,⟨x,rfl,by rw[e1],hO⟩,by rw[e1];exact hFi⟩
   ·have h:0≤c.any (nu l) si:=by have:=of_decide_eq_false h;omega
    have haw:=qC h
    have hkd:=fE hLi h
    have hR2:=hR.next (.inr hm0) h g0 (show 0<fuel by have:=hLi.2;omega)
    refine⟨_,rfl,_,(dA.of (I:=I4) (sm hFi)).rd.dp (p:=1) (q:=4) rfl, ?_⟩
    refine cZ.use (dC hc hLi hkd (sm hFi)) (fun v K I5 G l5 hL5 hv hG=>.inl ?_) fun f e I5 G l5 hd hf=>.inr (c7.dk [_,_,_,_] hf fun e' G' hf'=>.inr ⟨f,hR2.dead hKp (by omega) (hKp _ _ hd),hf'.more⟩)
    obtain⟨rfl,rfl⟩:=hv
    refine⟨rfl,c.px t b si.inc::(H++F0),hG.trans (cT fun z=>by simp only[cU,cX,cY];omega), ?_⟩
    refine cZ.use (hs2 h6 b si.inc I5 _ (_::_::_::_::(H++F0)) hL5 (sm (.refl _))) (fun v K I6 G l6 hL6 hv hG=>.inl ?_) fun f e I6 G l6 hd hf=>.inr (c7.dk [_,_,_,_] hf fun e' G' hf'=>.inr ⟨f,hR2.dead hKp (by omega) hd,hf'.more⟩)
    obtain⟨kn,rfl,hpx,hOk⟩:=hv
    have hup:=hMo si.inc
    have hnx:si.inc.next=si.next+1:=rfl
    refine⟨_,_,_,_,_,_,_,_,_,_,rfl,c.px t b (sub si.inc).2::(K++(H++F0)),hG.trans (cT fun z=>by simp only[cU,cX,cY];omega),fun b1=>⟨c.l.length-(sub si.inc).2.next, ?_,rfl,rfl, ?_,.mk 6 (uM l+c.any (nu l) si) 0 0 0 ⟨#[]⟩ (some ⟨b1,0,none⟩) 2 [x,kn] (c.tok si.next).pos,(b1,.cells (x.enc++kn.enc).toArray 29 (0,0))::(H++(K++[])),(sub si.inc).2,fuel-1,rfl, ?_,rfl,rfl,rfl,rfl,rfl,rfl,rfl,rfl,dI.two hO hOk,hL6, ?_, ?_, ?_,rfl, ?_⟩⟩
    ·have:=hLi.2;have:=hup.1;omega
    ·rw[iw (n:=many+1) (by have:=hLi.2;have:=hc.mb;omega)];omega
    ·have:=qD l;rw[w8 (n:=c.any (nu l) si) (by omega),w8 (by omega)];rfl
    ·rw[iw (n:=many+1) (by have:=hLi.2;have:=hc.mb;omega)];have:=hup.1;omega
    ·rw[iw (n:=many+1) (by have:=hLi.2;have:=hc.mb;omega),hLi.now] at *
     simp only[Nd.px,Nd.rD,hpx];exact hR2
    ·have:=hup.1;omega
    ·show List.Perm ((b1,Obj.cells (x.enc++kn.enc).toArray 29 (0,0))::_) _
     exact cT fun z=>by simp only[cU,cX,cY];omega
  ·have h4:l=4:=by simpa using h4
   have hm0:many≠0:=by simpa using hm0
   have e1:=hR.stop (.inr ⟨h4,hm0⟩)
   exact .inl ⟨by rw[e1];exact hLi,_,H,rfl,⟨x,rfl,by rw[e1],hO⟩,by rw[e1];exact hFi⟩
end
end Go.Lx
namespace Go.Lx
open Go.Vc
section
variable {c:PC} {t:ByteArray}
theorem dA.held{I:cS}{G:cR}{b:Nat}{k:Tok}{f:Int}:dA (cS.put I b (wS t k f)) G t b k f:=.inl (by simp[cS.put])
theorem pU{s:PS}(hl:c.Live s){d:Int}(h1:d≤24):(d<24∧c.dg d s=s)∨(d=24∧(c.dg d s).over=true∧c.dw ⟨132,(c.tok s.next).pos,false⟩ (c.dg d s)):=by
 by_cases h:d<24
 ·exact .inl ⟨h,mu h⟩
 ·have:d=24:=by omega
  subst this
  exact .inr ⟨rfl,iX hl⟩
theorem vR(hc:c.Of t){nx:Lv}{d:Int}(h0:0≤d)(h1:d≤24)(hx:d<24→tg c t 13 (d+1) nx.ex)(hu:d<24→tg c t 38 (d+1) nx.un)(hkp:∀f,Kp c f nx.ex)(hku:∀f,Kp c f nx.un) :
  tg c t 38 d (c.unary nx d):=by
 intro b s I F F0 hl hF
 have hn:=hl.now
 refine eQ.vc ?_
 unfold eQ.V
 intro b0 b1 I1 l1 hb1
 refine cV.ret (fD hl (dA.of (qy hF)) (words (ws:=lL) hb1 rfl) (by decide)) fun I2 l2=>⟨_,rfl,F,.refl _,fun h=>?_,fun h=>?_⟩
 ·have h:=of_decide_eq_true h
  have e1:c.unary nx d s=c.one nx d s:=by unfold PC.unary;rw[if_pos h]
  rw[e1]
  refine cZ.use (uO hc h0 h1 hx hkp hl (qy hF)) (fun v K I6 G l6 hL hv hG=>.inl ?_) fun f e I6 G l6 hd hf=>.inr (c7.dk [_] hf fun e' G' hf'=>.inr ⟨f,hd,hf'⟩)
  obtain⟨n,rfl,hv⟩:=hv
  exact⟨_,_,_,_,_,_,_,_,_,_,rfl,c.px t b (c.one nx d s).2::(K++F0),hG.trans (cT fun z=>by simp only[cU,cX,cY];omega),.inl ⟨hL,_,K,rfl,⟨n,rfl,hv⟩,.refl _⟩⟩
 have hge:¬c.any lL s<0:=of_decide_eq_false h
 have hlt:c.any lL s<2:=(fq (Int.not_lt.1 hge)).2
 have hkd:=fE hl (Int.not_lt.1 hge)
 refine⟨b,wS t (c.tok s.next) (gh (c.tok s.next)),F0,hF,_,rfl,_,dA.held.rd.dp (p:=1) (q:=4) rfl, ?_⟩
 refine (kc dA.held h0 h1).mono fun e I4 G l4 hd=>?_
 have hdp:=pU hl h1
 rcases hd with ⟨hlt2,rfl,rfl⟩ | ⟨rfl,hf⟩
 rotate_left
 ·obtain⟨_,g1,g2⟩:=hdp.resolve_left fun h=>by omega
  have e1:c.unary nx 24 s=(fs,c.dg 24 s):=by unfold PC.unary;rw[if_neg hge,g1,if_pos rfl]
  rw[e1]
  exact .inr (c7.dk (I:=I4.del b) (Q:=fun e J G=>cZ c t b lN F0 (fs,c.dg 24 s) e J ((b,wS t (c.tok s.next) (gh (c.tok s.next)))::G)) [_] hf fun e' G' hf'=>.inr ⟨_,g2,hf'.xk⟩)
 obtain⟨_,g1⟩:=hdp.resolve_right fun h=>by omega
 have e1:c.unary nx d s=(.mk 5 (1+c.any lL s) 0 0 0 ⟨#[]⟩ [(nx.un s.inc).1] (c.tok s.next).pos,(nx.un s.inc).2):=by unfold PC.unary;rw[if_neg hge,g1,hl.1,if_neg (by simp),hn]
 rw[e1]
 refine .inl ⟨_,rfl,F0,.refl _, ?_⟩
 refine cZ.use (dC hc hl hkd (F:=_::(c.px t b s::F0)) (qy (.refl _))) (fun v K I6 G l6 hL hv hG=>.inl ?_) fun f e I6 G l6 hd hf=>.inr (c7.dk [_] hf fun e' G' hf'=>.inr ⟨f,hku f _ hd,hf'⟩)
 obtain⟨rfl,rfl⟩:=hv
 refine⟨rfl,c.px t b s.inc::F0,hG.trans (cT fun z=>by simp only[cU,cX,cY];omega), ?_⟩
 refine cZ.use (hu hlt2 b s.inc I6 _ _ hL (qy (.refl _))) (fun v K I7 G l7 hL7 hv hG=>.inl ?_) fun f e I7 G l7 hd hf=>.inr (c7.dk [_] hf fun e' G' hf'=>.inr ⟨f,hd,hf'⟩)
 obtain⟨n7,rfl,hpx7,hO7⟩:=hv
 refine⟨_,_,_,_,_,_,_,_,_,_,rfl,c.px t b (nx.un s.inc).2::(K++F0),hG.trans (cT fun z=>by simp only[cU,cX,cY];omega),fun b2=>?_⟩
 refine .inl ⟨hL7,_,(b2,.cells n7.enc.toArray 29 (0,0))::(K++[]), ?_,⟨.mk 5 (1+c.any lL s) 0 0 0 ⟨#[]⟩ (some ⟨b2,0,none⟩) 1 [n7] (c.tok s.next).pos,rfl, ?_,dI.z8 hO7⟩, ?_⟩
 ·rw[w8 (n:=c.any lL s) (by omega),w8 (by omega)];rfl
 ·simp only[Nd.px,Nd.rD,hpx7]
 ·show List.Perm ((b2,Obj.cells n7.enc.toArray 29 (0,0))::_) _
  exact cT fun z=>by simp only[cU,cX,cY];omega
theorem wW(hc:c.Of t){nx:Lv}{d:Int}(h0:0≤d)(h1:d≤24)(hx:d<24→tg c t 13 (d+1) nx.ex)(hkp:∀f,Kp c f nx.ex)(hor:qE c t 2 d (c.or nx d)):tg c t 13 d (c.expr nx d):=by
 intro b s I F F0 hl hF
 refine fc.vc ?_
 unfold fc.V
 intro b0
 have ex_:c.expr nx d s=if c.eM (⟨#[63]⟩:ByteArray) (c.or nx d s).2 then (if (c.dg d (c.or nx d s).2).over then (fs,c.dg d (c.or nx d s).2) else
   (.mk 7 0 0 0 0 ⟨#[]⟩ [(c.or nx d s).1,(nx.ex (c.dg d (c.or nx d s).2).inc).1,(nx.ex (c.take (⟨#[58]⟩:ByteArray) (nx.ex (c.dg d (c.or nx d s).2).inc).2).2).1] (c.now (c.dg d (c.or nx d s).2)).pos,(nx.ex (c.take (⟨#[58]⟩:ByteArray) (nx.ex (c.dg d (c.or nx d s).2).inc).2).2).2)) else c.or nx d s:=rfl
 refine cZ.use (hor b s I _ _ hl (qy hF)) (fun v K I1 G l1 hL hv hG=>.inl ?_) fun f e I1 G l1 hd hf=>.inr (c7.dk [_] hf fun e' G' hf'=>.inr ⟨f,by rw[ex_,hd.eM];exact hd,hf'⟩)
 obtain⟨n,rfl,hpx,hO⟩:=hv
 generalize c.or nx d s=r at ex_ hL hpx hG
 have hn:=hL.now
 refine⟨_,_,_,_,_,_,_,_,_,_,rfl,c.px t b r.2::(K++F0),hG.trans (cT fun z=>by simp only[cU,cX,cY];omega),fun bn=>?_⟩
 refine cV.ret (lO hL (dA.of (eW (.refl _))) (⟨#[63]⟩:ByteArray)) fun I2 l2=>⟨_,rfl,_,.refl _,fun h=>?_,fun h=>?_⟩
 ·have h:c.eM (⟨#[63]⟩:ByteArray) r.2=false:=by simpa using h
  rw[h] at ex_
  rw[ex_]
  exact .inl ⟨hL,_,K,rfl,⟨n,rfl,hpx,hO⟩,.refl _⟩
 have h:c.eM (⟨#[63]⟩:ByteArray) r.2=true:=by simpa using h
 have hkd:(c.tok r.2.next).kind≠0:=fun hk=>by
  unfold PC.eM at h;rw[hn,hk] at h;simp at h
 rw[if_pos h] at ex_
 refine⟨b,wS t (c.tok r.2.next) (gh (c.tok r.2.next)),K++F0,.refl _,_,rfl,_,dA.held.rd.dp (p:=1) (q:=4) rfl, ?_⟩
 refine (kc dA.held h0 h1).mono fun e I4 G l4 hd=>?_
 have hdp:=pU hL h1
 rcases hd with ⟨hlt2,rfl,rfl⟩ | ⟨rfl,hf⟩
 rotate_left
 ·obtain⟨_,g1,g2⟩:=hdp.resolve_left fun h=>by omega
  rw[g1,if_pos rfl] at ex_
  rw[ex_]
  exact .inr (c7.dk (I:=I4.del b) (Q:=fun e J G=>cZ c t b lN F0 (fs,c.dg 24 r.2) e J ((b,wS t (c.tok r.2.next) (gh (c.tok r.2.next)))::G)) [_,_] hf fun e' G' hf'=>.inr ⟨_,g2,hf'.more.xk⟩)
 obtain⟨_,g1⟩:=hdp.resolve_right fun h=>by omega
 rw[g1,hL.1,if_neg (by simp),hn] at ex_
 rw[ex_]
 refine .inl ⟨_,rfl,K++F0,.refl _, ?_⟩
 refine cZ.use (dC hc hL hkd (F:=_::_::(c.px t b r.2::(K++F0))) (eW (.refl _))) (fun v J I6 G l6 hL6 hv hG=>.inl ?_) fun f e I6 G l6 hd hf=>.inr (c7.dk [_,_] hf fun e' G' hf'=>.inr ⟨f,hkp f _ ((hkp f _ hd).take _),hf'.more⟩)
 obtain⟨rfl,rfl⟩:=hv
 refine⟨rfl,c.px t b r.2.inc::(K++F0),hG.trans (cT fun z=>by simp only[cU,cX,cY];omega), ?_⟩
 refine cZ.use (hx hlt2 b r.2.inc I6 _ _ hL6 (eW (.refl _))) (fun v J I7 G l7 hL7 hv hG=>.inl ?_) fun f e I7 G l7 hd hf=>.inr (c7.dk [_,_] hf fun e' G' hf'=>.inr ⟨f,hkp f _ (hd.take _),hf'.more⟩)
 obtain⟨y,rfl,hpy,hOy⟩:=hv
 refine⟨_,_,_,_,_,_,_,_,_,_,rfl,c.px t b (nx.ex r.2.inc).2::(J++(K++F0)),hG.trans (cT fun z=>by simp only[cU,cX,cY];omega),fun by_ b1 I8 l8 hb1=>?_⟩
 refine cZ.use (dL hc hL7 hb1 (qz (.refl _))) (fun v L I9 G l9 hL9 hv hG=>.inl ?_) fun f e I9 G l9 hd hf=>.inr (c7.dk [_,_,_] hf fun e' G' hf'=>.inr ⟨f,hkp f _ hd,hf'.more.more⟩)
 obtain⟨⟨i9,rfl⟩,rfl⟩:=hv
 refine⟨_,rfl,c.px t b (c.take (⟨#[58]⟩:ByteArray) (nx.ex r.2.inc).2).2::(J++(K++F0)),hG.trans (cT fun z=>by simp only[cU,cX,cY];omega), ?_⟩
 refine cZ.use (hx hlt2 b _ I9 _ _ hL9 (qz (.refl _))) (fun v L I10 G l10 hL10 hv hG=>.inl ?_) fun f e I10 G l10 hd hf=>.inr (c7.dk [_,_,_] hf fun e' G' hf'=>.inr ⟨f,hd,hf'.more.more⟩)
 obtain⟨z,rfl,hpz,hOz⟩:=hv
 refine⟨_,_,_,_,_,_,_,_,_,_,rfl,c.px t b (nx.ex (c.take (⟨#[58]⟩:ByteArray) (nx.ex r.2.inc).2).2).2::(L++(J++(K++F0))),hG.trans (cT fun z=>by simp only[cU,cX,cY];omega),fun b2=>?_⟩
 refine .inl ⟨hL10,_,(b2,.cells (n.enc++(y.enc++z.enc)).toArray 29 (0,0))::(K++(J++(L++[]))),rfl,⟨.mk 7 0 0 0 0 ⟨#[]⟩ (some ⟨b2,0,none⟩) 3 [n,y,z] (c.tok r.2.next).pos,rfl, ?_,dI.three hO hOy hOz⟩, ?_⟩
 ·simp only[Nd.px,Nd.rD,hpx,hpy,hpz]
 ·show List.Perm ((b2,Obj.cells (n.enc++(y.enc++z.enc)).toArray 29 (0,0))::_) _
  exact cT fun z=>by simp only[cU,cX,cY];omega
theorem xl(hc:c.Of t){nx:Lv}{d:Int}(h0:0≤d)(h1:d≤24)(hx:d<24→tg c t 13 (d+1) nx.ex)(hu:d<24→tg c t 38 (d+1) nx.un)(hkp:∀f,Kp c f nx.ex)(hku:∀f,Kp c f nx.un)(hmx:iI c nx.ex)(hmu:iI c nx.un) :
  tg c t 13 d (c.expr nx d)∧tg c t 38 d (c.unary nx d):=by
 have u:=vR hc h0 h1 hx hu hkp hku
 have r6:qE c t 6 d (c.product nx d):=oU hc (l:=6) (by decide) (Up.unary hmx hmu d) (fun f=>Kp.unary nx d) (fun h=>absurd h (by decide)) fun _=>u
 have r5:qE c t 5 d (c.sum nx d):=oU hc (l:=5) (by decide) (Up.product hmx hmu d) (fun f=>Kp.product nx d) (fun _=>r6) fun h=>absurd h (by decide)
 have r4:qE c t 4 d (c.compare nx d):=oU hc (l:=4) (by decide) (Up.sum hmx hmu d) (fun f=>Kp.sum nx d) (fun _=>r5) fun h=>absurd h (by decide)
 have r3:qE c t 3 d (c.and nx d):=oU hc (l:=3) (by decide) (Up.compare hmx hmu d) (fun f=>Kp.compare nx d) (fun _=>r4) fun h=>absurd h (by decide)
 have r2:qE c t 2 d (c.or nx d):=oU hc (l:=2) (by decide) (Up.and hmx hmu d) (fun f=>Kp.and nx d) (fun _=>r3) fun h=>absurd h (by decide)
 exact⟨wW hc h0 h1 hx hkp r2,u⟩
theorem vS(hc:c.Of t):∀(k:Nat) (d:Int),0≤d→d+k=24→tg c t 13 d (c.lvl k d).ex∧tg c t 38 d (c.lvl k d).un
 | 0,d,h0,h1=>xl hc h0 (by omega) (fun h=>by omega) (fun h=>by omega) (fun f s h=>h) (fun f s h=>h) (fun s=>.refl) fun s=>.refl
 | k+1,d,h0,h1=>by
   have ih:=vS hc k (d+1) (by omega) (by omega)
   exact xl hc h0 (by omega) (fun _=>ih.1) (fun _=>ih.2) (fun f=>(Kp.lvl k (d+1)).1) (fun f=>(Kp.lvl k (d+1)).2) (Up.lvl k (d+1)).1 (Up.lvl k (d+1)).2
theorem jU(hc:c.Of t):tg c t 13 0 c.fK:=(vS hc 24 0 (by decide) (by decide)).1
end
end Go.Lx
