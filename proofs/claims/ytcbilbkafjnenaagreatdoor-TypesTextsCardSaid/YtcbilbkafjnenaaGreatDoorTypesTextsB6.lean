import Derived.Test.YtcbilbkafjnenaaGreatDoorTypesTextsB5
set_option linter.unusedVariables false
set_option linter.unusedSimpArgs false
set_option linter.unusedSectionVars false
set_option maxRecDepth 100000
namespace Go.Lx
open Go.Vc
inductive PosB (B:Int):Px→Prop
 | mk {k o t n f:Int} {s:ByteArray} {l:List Px} {q:Int}:0≤q→q≤B→(∀x∈l,PosB B x)→PosB B (.mk k o t n f s l q)
theorem PosB.pos{B:Int}{x:Px}(h:PosB B x):0≤x.pos∧x.pos≤B:=by cases h;exact⟨by assumption,by assumption⟩
theorem PosB.kid{B:Int}{x:Px}(h:PosB B x):∀k∈x.kids,PosB B k:=by cases h;assumption
theorem PosB.leaf{B:Int}{k o t n f:Int}{s:ByteArray}{q:Int}(h0:0≤q)(h1:q≤B):PosB B (.mk k o t n f s [] q):=.mk h0 h1 fun x hx=>by cases hx
def TokB(c:PC)(B:Int):Prop:=0≤B∧∀t∈c.l,0≤t.pos∧t.pos≤B
def Sz(c:PC)(B:Int)(g:PS→Px×PS):Prop:=∀s,(g s).1.size+3*s.next≤1+3*(g s).2.next∧PosB B (g s).1
section
variable {c:PC} {B:Int} (hB:TokB c B)
include hB
theorem tok_pos(i:Nat):0≤(c.tok i).pos∧(c.tok i).pos≤B:=by
 unfold PC.tok
 cases h:c.l[i]? with
 | none=>exact⟨Int.le_refl 0,hB.1⟩
 | some t=>exact hB.2 t (List.mem_of_getElem? h)
theorem now_pos(s:PS):0≤(c.now s).pos∧(c.now s).pos≤B:=by
 unfold PC.now
 split
 ·exact⟨Int.le_refl 0,hB.1⟩
 ·exact tok_pos hB _
theorem zPx_pos:PosB B zPx:=.leaf (Int.le_refl 0) hB.1
theorem take_pos(w:ByteArray)(s:PS):0≤(c.take w s).1∧(c.take w s).1≤B:=by
 unfold PC.take
 split
 ·exact now_pos hB s
 ·exact⟨Int.le_refl 0,hB.1⟩
theorem literal_sz(s:PS):(c.literal s).1.1.size=1∧PosB B (c.literal s).1.1:=by
 unfold PC.literal
 have hn:=now_pos hB s
 have one:∀(a b:Int),(litP a b (c.now s).pos).size=1∧PosB B (litP a b (c.now s).pos):=fun a b=>⟨rfl,.leaf hn.1 hn.2⟩
 split
 ·exact one _ _
 ·split
  ·exact one _ _
  ·split
   ·exact one _ _
   ·exact⟨rfl,zPx_pos hB⟩
end
theorem sizeL_two(a b:Px):Px.sizeL [a,b]=a.size+b.size:=by rw[Px.sizeL,Px.sizeL,Px.sizeL];omega
section
variable {c:PC} {B:Int} (hB:TokB c B) {nx:Lv} (hx:Sz c B nx.ex) (hu:Sz c B nx.un)
include hB hx
theorem kids_sz:∀(n:Nat) (f:Bool) (s:PS),Px.sizeL (c.kidsF nx n f s).1+3*s.next≤n+3*(c.kidsF nx n f s).2.next∧∀k∈(c.kidsF nx n f s).1,PosB B k
 | 0,f,s=>by rw[PC.kidsF];exact⟨by show (0:Int)+3*(s.next:Int)≤((0:Nat):Int)+3*(s.next:Int);omega,fun k hk=>by cases hk⟩
 | n+1,f,s=>by
   have _:=hB
   rw[PC.kidsF]
   have h1:s.next≤(if f then s else (c.take (⟨#[44]⟩:ByteArray) s).2).next:=by
    split
    ·exact Nat.le_refl _
    ·exact (Up.take _).1
   obtain⟨h2,h3⟩:=hx (if f then s else (c.take (⟨#[44]⟩:ByteArray) s).2)
   obtain⟨h4,h5⟩:=kids_sz n false (nx.ex (if f then s else (c.take (⟨#[44]⟩:ByteArray) s).2)).2
   refine⟨?_,fun k hk=>?_⟩
   ·show Px.sizeL ((nx.ex _).1::_)+_≤_
    rw[Px.sizeL]
    show _≤_+3*(((c.kidsF nx n false (nx.ex (if f then s else (c.take (⟨#[44]⟩:ByteArray) s).2)).2).2.next:Nat):Int)
    omega
   ·rcases List.mem_cons.1 hk with rfl | hk
    ·exact h3
    ·exact h5 k hk
theorem call_sz{d kind oper typ pos:Int}{many:Nat}{s:PS}(hm:many≤3)(h0:0≤pos)(h1:pos≤B):(c.call nx d kind oper typ pos many s).1.size+3*s.next≤1+3*(c.call nx d kind oper typ pos many s).2.next∧PosB B (c.call nx d kind oper typ pos many s).1:=by
 unfold PC.call
 split
 ·rw[deeper_next];exact⟨Int.le_refl _,zPx_pos hB⟩
 ·have h2:(c.deeper d s).inc.next=s.next+1:=by rw[inc_next,deeper_next]
  have h3:=(Up.take (c:=c) (s:=(c.deeper d s).inc) (⟨#[40]⟩:ByteArray)).1
  obtain⟨h4,h5⟩:=kids_sz hB hx many true (c.take (⟨#[40]⟩:ByteArray) (c.deeper d s).inc).2
  have h6:=(Up.take (c:=c) (s:=(c.kidsF nx many true (c.take (⟨#[40]⟩:ByteArray) (c.deeper d s).inc).2).2) (⟨#[41]⟩:ByteArray)).1
  refine⟨?_,.mk h0 h1 h5⟩
  show Px.size (.mk kind oper typ 0 0 ⟨#[]⟩ _ pos)+_≤1+3*((c.take (⟨#[41]⟩:ByteArray) (c.kidsF nx many true (c.take (⟨#[40]⟩:ByteArray) (c.deeper d s).inc).2).2).2.next:Int)
  rw[Px.size]
  omega
theorem rest_sz(d:Int):Sz c B (c.rest nx d):=fun s=>by
 unfold PC.rest
 have hn:=now_pos hB s
 split
 ·split
  ·rw[wrong_next,inc_next];exact⟨by show (1:Int)+_≤_;omega,zPx_pos hB⟩
  ·exact⟨by show (1:Int)+3*(s.next:Int)≤1+3*((s.next+1+1:Nat):Int);omega,.leaf hn.1 hn.2⟩
 ·split
  ·split
   ·rw[deeper_next];exact⟨Int.le_refl _,zPx_pos hB⟩
   ·have h2:(c.deeper d s).inc.next=s.next+1:=by rw[inc_next,deeper_next]
    obtain⟨h3,h4⟩:=hx (c.deeper d s).inc
    have h5:=(Up.take (c:=c) (s:=(nx.ex (c.deeper d s).inc).2) (⟨#[41]⟩:ByteArray)).1
    exact⟨by show (nx.ex (c.deeper d s).inc).1.size+_≤1+3*((c.take (⟨#[41]⟩:ByteArray) (nx.ex (c.deeper d s).inc).2).2.next:Int);omega,h4⟩
  ·rw[wrong_next];exact⟨Int.le_refl _,zPx_pos hB⟩
theorem one_sz(d:Int):Sz c B (c.one nx d):=fun s=>by
 unfold PC.one
 have hn:=now_pos hB s
 split
 ·obtain⟨h1,h2⟩:=literal_sz hB s
  have h3:=(Up.literal (c:=c) (s:=s)).1
  exact⟨by show (c.literal s).1.1.size+_≤1+3*((c.literal s).2.next:Int);rw[h1];omega,h2⟩
 ·split
  ·exact⟨by show (1:Int)+3*(s.next:Int)≤1+3*((s.next+1:Nat):Int);omega,.leaf hn.1 hn.2⟩
  ·split
   ·exact⟨by show (1:Int)+3*(s.next:Int)≤1+3*((s.next+1:Nat):Int);omega,.leaf hn.1 hn.2⟩
   ·split
    ·exact call_sz hB hx (by split<;>decide) hn.1 hn.2
    ·split
     ·exact call_sz hB hx (by decide) hn.1 hn.2
     ·exact rest_sz hB hx d s
include hu
theorem unary_sz(d:Int):Sz c B (c.unary nx d):=fun s=>by
 unfold PC.unary
 have hn:=now_pos hB (c.deeper d s)
 split
 ·exact one_sz hB hx d s
 ·split
  ·rw[deeper_next];exact⟨Int.le_refl _,zPx_pos hB⟩
  ·have h2:(c.deeper d s).inc.next=s.next+1:=by rw[inc_next,deeper_next]
   obtain⟨h3,h4⟩:=hu (c.deeper d s).inc
   refine⟨?_,.mk hn.1 hn.2 fun k hk=>?_⟩
   ·show Px.size (.mk 5 _ 0 0 0 ⟨#[]⟩ [(nx.un (c.deeper d s).inc).1] _)+_≤1+3*((nx.un (c.deeper d s).inc).2.next:Int)
    rw[Px.size,Px.sizeL,Px.sizeL];omega
   ·rw[List.mem_singleton] at hk;subst hk;exact h4
end
theorem loopF_sz{c:PC}{B:Int}(hB:TokB c B){ws:List ByteArray}{o:Int}{sub:PS→Px×PS}(h:Sz c B sub):∀(m:Nat) (n:Px) (s:PS) (s0:Int),n.size+s0≤1+3*s.next→PosB B n→(c.loopF ws o sub m n s).1.size+s0≤1+3*(c.loopF ws o sub m n s).2.next∧PosB B (c.loopF ws o sub m n s).1
 | 0,n,s,s0,hn,hp=>⟨hn,hp⟩
 | m+1,n,s,s0,hn,hp=>by
   rw[PC.loopF]
   split
   ·exact⟨hn,hp⟩
   ·have hq:=now_pos hB s
    obtain⟨h1,h2⟩:=h s.inc
    rw[inc_next] at h1
    refine loopF_sz hB h m _ _ s0 ?_ (.mk hq.1 hq.2 fun k hk=>?_)
    ·rw[twoP,Px.size,sizeL_two];omega
    ·rcases List.mem_cons.1 hk with rfl | hk
     ·exact hp
     ·rw[List.mem_singleton] at hk;subst hk;exact h2
theorem loop_sz{c:PC}{B:Int}(hB:TokB c B){ws:List ByteArray}{o:Int}{sub:PS→Px×PS}(h:Sz c B sub):Sz c B (c.loop ws o sub):=fun s=>loopF_sz hB h _ _ _ _ (h s).1 (h s).2
section
variable {c:PC} {B:Int} (hB:TokB c B) {nx:Lv} (hx:Sz c B nx.ex) (hu:Sz c B nx.un) (hm:Mono c nx.ex) (hmu:Mono c nx.un) (d:Int)
include hB hx hu
theorem product_sz:Sz c B (c.product nx d):=loop_sz hB (unary_sz hB hx hu d)
theorem sum_sz:Sz c B (c.sum nx d):=loop_sz hB (product_sz hB hx hu d)
theorem compare_sz:Sz c B (c.compare nx d):=fun s=>by
 unfold PC.compare
 obtain⟨h1,h2⟩:=sum_sz hB hx hu d s
 have hq:=now_pos hB (c.sum nx d s).2
 show (if c.any cmpW (c.sum nx d s).2<0 then c.sum nx d s else _).1.size+_≤1+3*((if c.any cmpW (c.sum nx d s).2<0 then c.sum nx d s else _:Px×PS).2.next:Int)∧PosB B (if c.any cmpW (c.sum nx d s).2<0 then c.sum nx d s else _:Px×PS).1
 split
 ·exact⟨h1,h2⟩
 ·obtain⟨h3,h4⟩:=sum_sz hB hx hu d (c.sum nx d s).2.inc
  rw[inc_next] at h3
  refine⟨?_,.mk hq.1 hq.2 fun k hk=>?_⟩
  ·show Px.size (twoP _ _ _ _)+_≤1+3*((c.sum nx d (c.sum nx d s).2.inc).2.next:Int)
   rw[twoP,Px.size,sizeL_two];omega
  ·rcases List.mem_cons.1 hk with rfl | hk
   ·exact h2
   ·rw[List.mem_singleton] at hk;subst hk;exact h4
theorem and_sz:Sz c B (c.and nx d):=loop_sz hB (compare_sz hB hx hu d)
theorem or_sz:Sz c B (c.or nx d):=loop_sz hB (and_sz hB hx hu d)
include hm hmu
theorem expr_sz:Sz c B (c.expr nx d):=fun s=>by
 unfold PC.expr
 obtain⟨h1,h2⟩:=or_sz hB hx hu d s
 have hup:=(Up.or hm hmu d s).1
 show (if c.isW _ (c.or nx d s).2 then _ else c.or nx d s:Px×PS).1.size+_≤1+3*((if c.isW _ (c.or nx d s).2 then _ else c.or nx d s:Px×PS).2.next:Int)∧PosB B (if c.isW _ (c.or nx d s).2 then _ else c.or nx d s:Px×PS).1
 split
 ·show (if (c.deeper d (c.or nx d s).2).over then _ else _:Px×PS).1.size+_≤1+3*((if (c.deeper d (c.or nx d s).2).over then _ else _:Px×PS).2.next:Int)∧PosB B (if (c.deeper d (c.or nx d s).2).over then _ else _:Px×PS).1
  have hq:=now_pos hB (c.deeper d (c.or nx d s).2)
  split
  ·rw[deeper_next];exact⟨by show (1:Int)+_≤_;omega,zPx_pos hB⟩
  ·have h3:(c.deeper d (c.or nx d s).2).inc.next=(c.or nx d s).2.next+1:=by rw[inc_next,deeper_next]
   obtain⟨h4,h5⟩:=hx (c.deeper d (c.or nx d s).2).inc
   have h6:=(Up.take (c:=c) (s:=(nx.ex (c.deeper d (c.or nx d s).2).inc).2) (⟨#[58]⟩:ByteArray)).1
   obtain⟨h7,h8⟩:=hx (c.take (⟨#[58]⟩:ByteArray) (nx.ex (c.deeper d (c.or nx d s).2).inc).2).2
   refine⟨?_,.mk hq.1 hq.2 fun k hk=>?_⟩
   ·show Px.size (.mk 7 0 0 0 0 ⟨#[]⟩ [(c.or nx d s).1,(nx.ex (c.deeper d (c.or nx d s).2).inc).1,(nx.ex (c.take (⟨#[58]⟩:ByteArray) (nx.ex (c.deeper d (c.or nx d s).2).inc).2).2).1] _)+_≤1+3*((nx.ex (c.take (⟨#[58]⟩:ByteArray) (nx.ex (c.deeper d (c.or nx d s).2).inc).2).2).2.next:Int)
    rw[Px.size,Px.sizeL,sizeL_two];omega
   ·rcases List.mem_cons.1 hk with rfl | hk
    ·exact h2
    ·rcases List.mem_cons.1 hk with rfl | hk
     ·exact h5
     ·rw[List.mem_singleton] at hk;subst hk;exact h8
 ·exact⟨h1,h2⟩
end
theorem lvl_sz{c:PC}{B:Int}(hB:TokB c B):∀(k:Nat) (d:Int),Sz c B (c.lvl k d).ex∧Sz c B (c.lvl k d).un
 | 0,d=>by
   have hz:Sz c B (fun s=>(zPx,s)):=fun s=>⟨Int.le_refl _,zPx_pos hB⟩
   exact⟨expr_sz hB hz hz (fun s=>.refl) (fun s=>.refl) d,unary_sz hB hz hz d⟩
 | k+1,d=>⟨expr_sz hB (lvl_sz hB k (d+1)).1 (lvl_sz hB k (d+1)).2 (Up.lvl k (d+1)).1 (Up.lvl k (d+1)).2 d,unary_sz hB (lvl_sz hB k (d+1)).1 (lvl_sz hB k (d+1)).2 d⟩
theorem ex0_sz{c:PC}{B:Int}(hB:TokB c B):Sz c B c.ex0:=(lvl_sz hB 24 0).1
theorem toks_pos{s:ByteArray}:∀(n:Nat) (f:Int),0≤f→f≤s.size→∀t∈(toksF s n f).1,0≤t.pos∧t.pos≤s.size
 | 0,f,h0,h1,t,ht=>by rw[toksF] at ht;cases ht
 | n+1,f,h0,h1,t,ht=>by
   rw[toksF] at ht
   split at ht
   ·cases ht
   ·rename_i u hu
    obtain⟨g1,g2,_⟩:=tok_next h0 h1 hu
    have hp:0≤u.pos∧u.pos≤s.size:=⟨by omega,by omega⟩
    split at ht
    ·rw[List.mem_singleton] at ht;subst ht;exact hp
    ·rcases List.mem_cons.1 ht with rfl | ht
     ·exact hp
     ·exact toks_pos n _ (by omega) g1 t ht
theorem begC_tok(t:ByteArray):TokB (begC t) t.size:=by
 refine⟨by omega,fun u hu=>?_⟩
 unfold begC at hu
 split at hu
 ·cases hu
 ·exact toks_pos _ 0 (Int.le_refl 0) (by omega) u hu
theorem begC_len(t:ByteArray):(begC t).l.length≤4097:=by
 unfold begC
 split
 ·decide
 ·have:=toksF_len t ((t.size:Int)-0+1).toNat 0
  show (toks t 0).1.length≤4097
  unfold toks
  omega
end Go.Lx
namespace Go.Lx
open Go.Vc
def InX(B M:Int)(x:Px):Prop:=x.size≤M∧PosB B x
def DoP.In(B M:Int)(d:DoP):Prop:=(0≤d.pos∧d.pos≤B)∧InX B M d.side∧InX B M d.qty∧InX B M d.price∧InX B M d.value
def RuleP.In(B M:Int)(r:RuleP):Prop:=(0≤r.pos∧r.pos≤B)∧InX B M r.when∧r.dos.length≤8∧∀d∈r.dos,d.In B M
def StateP.In(B M:Int)(x:StateP):Prop:=(0≤x.pos∧x.pos≤B)∧x.rules.length≤12∧∀r∈x.rules,r.In B M
def RegP.In(B M:Int)(r:RegP):Prop:=(0≤r.pos∧r.pos≤B)∧InX B M r.init
def SlotP.In(B:Int)(r:SlotP):Prop:=0≤r.pos∧r.pos≤B
structure StgP.In (B M:Int) (s:StgP):Prop where
 rl:s.regs.length≤12
 rr:∀x∈s.regs,x.In B M
 sl:s.slots.length≤4
 ss:∀x∈s.slots,x.In B
 tl:s.states.length≤12
 tt:∀x∈s.states,x.In B M
section
variable {c:PC} {B M:Int} (hB:TokB c B) (hM:2+3*(c.l.length:Int)≤M)
include hB hM
theorem zPx_in:InX B M zPx:=⟨by show (1:Int)≤M;omega,zPx_pos hB⟩
theorem ex0_in{s:PS}(hs:s.next≤c.l.length):InX B M (c.ex0 s).1∧(c.ex0 s).2.next≤c.l.length:=by
 obtain⟨h1,h2⟩:=ex0_sz hB s
 have h3:=(Up.ex0 (c:=c) s).2 hs
 exact⟨⟨by omega,h2⟩,h3⟩
theorem regE_in{nm:ByteArray}{t pos pos2:Int}{minus:Bool}{n:Px}(h0:0≤pos∧pos≤B)(h2:0≤pos2∧pos2≤B)(hn:n.size=1∧PosB B n)(s:PS):(c.regE nm t pos pos2 minus n s).1.In B M:=by
 have _:=hB
 unfold PC.regE RegP.In
 refine⟨h0, ?_⟩
 show InX B M (if minus then _ else n)
 split
 ·refine⟨?_,.mk h2.1 h2.2 fun k hk=>?_⟩
  ·rw[Px.size,Px.sizeL,Px.sizeL,hn.1];omega
  ·rw[List.mem_singleton] at hk;subst hk;exact hn.2
 ·exact⟨by rw[hn.1];omega,hn.2⟩
theorem regL_in{nm:ByteArray}{t pos pos2:Int}{minus:Bool}(h0:0≤pos∧pos≤B)(h2:0≤pos2∧pos2≤B)(s:PS):(c.regL nm t pos pos2 minus s).1.In B M:=by
 unfold PC.regL
 split
 ·exact⟨h0,zPx_in hB hM⟩
 ·exact regE_in hB hM h0 h2 (literal_sz hB s) _
theorem regN_in{nm:ByteArray}{pos:Int}(h0:0≤pos∧pos≤B)(s:PS):(c.regN nm pos s).1.In B M:=by
 unfold PC.regN
 split
 ·exact⟨h0,zPx_in hB hM⟩
 ·unfold PC.regT;exact regL_in hB hM h0 (now_pos hB _) _
theorem reg_in(s:PS):(c.reg s).1.In B M:=by unfold PC.reg;exact regN_in hB hM (take_pos hB _ s) _
theorem subN_in{x y z:Px}{pos o:Int}(h0:0≤pos∧pos≤B)(hx:InX B M x)(hy:InX B M y)(hz:InX B M z)(s:PS):(c.subN x y pos z o s).1.In B M:=⟨h0,hx,hy,hz,zPx_in hB hM⟩
theorem subZ_in{x y z:Px}{pos:Int}(h0:0≤pos∧pos≤B)(hx:InX B M x)(hy:InX B M y)(hz:InX B M z)(s:PS):(c.subZ x y pos z s).1.In B M:=by
 unfold PC.subZ
 split
 ·exact⟨h0,hx,hy,hz,zPx_in hB hM⟩
 ·exact subN_in hB hM h0 hx hy hz _
theorem subY_in{x y:Px}{pos:Int}(h0:0≤pos∧pos≤B)(hx:InX B M x)(hy:InX B M y){s:PS}(hs:s.next≤c.l.length):(c.subY x y pos s).1.In B M:=by
 unfold PC.subY
 split
 ·exact⟨h0,hx,hy,zPx_in hB hM,zPx_in hB hM⟩
 ·rename_i h2
  split
  ·exact subZ_in hB hM h0 hx hy (ex0_in hB hM ((Up.inc (any_lt (Int.not_lt.1 h2)).1).2 hs)).1 _
  ·exact subN_in hB hM h0 hx hy (zPx_in hB hM) _
theorem submit_in{s:PS}(hs:s.next≤c.l.length):(c.submit s).1.In B M:=by
 unfold PC.submit PC.subX
 obtain⟨h1,h2⟩:=ex0_in hB hM ((Up.take (c:=c) (s:=s) (⟨#[115,117,98,109,105,116]⟩:ByteArray)).2 hs)
 obtain⟨h3,h4⟩:=ex0_in hB hM ((Up.take (c:=c) (s:=(c.ex0 (c.take (⟨#[115,117,98,109,105,116]⟩:ByteArray) s).2).2) (⟨#[111,102]⟩:ByteArray)).2 h2)
 exact subY_in hB hM (take_pos hB _ s) h1 h3 h4
theorem doN_in{k:Int}{nm:ByteArray}{pos:Int}(h0:0≤pos∧pos≤B){s:PS}(hs:s.next≤c.l.length):(c.doN k nm pos s).1.In B M:=by
 unfold PC.doN
 have hz:=zPx_in hB hM
 split
 ·unfold PC.doA
  obtain⟨h1,h2⟩:=ex0_in hB hM ((Up.take (c:=c) (s:=s) (⟨#[116,111]⟩:ByteArray)).2 hs)
  exact⟨h0,hz,h1,(ex0_in hB hM ((Up.take (c:=c) (s:=(c.ex0 (c.take (⟨#[116,111]⟩:ByteArray) s).2).2) (⟨#[97,116]⟩:ByteArray)).2 h2)).1,hz⟩
 ·split
  ·unfold PC.doS
   exact⟨h0,hz,hz,hz,(ex0_in hB hM ((Up.take (c:=c) (s:=s) (⟨#[61]⟩:ByteArray)).2 hs)).1⟩
  ·exact⟨h0,hz,hz,hz,hz⟩
theorem do_in{s:PS}(hs:s.next≤c.l.length):(c.do s).1.In B M:=by
 unfold PC.do
 have hz:=zPx_in hB hM
 split
 ·exact⟨⟨Int.le_refl 0,hB.1⟩,hz,hz,hz,hz⟩
 ·rename_i h2
  have hi:=(Up.inc (any_lt (Int.not_lt.1 h2)).1:Up c s s.inc).2 hs
  split
  ·exact submit_in hB hM hs
  ·split
   ·exact doN_in hB hM (now_pos hB s) hi
   ·exact doN_in hB hM (now_pos hB s) (Up.name.2 hi)
theorem dosF_in:∀(m:Nat) (l:List DoP) (s:PS),s.next≤c.l.length→(∀d∈l,d.In B M)→(∀d∈(c.dosF m l s).1,d.In B M)∧(c.dosF m l s).1.length≤l.length+m
 | 0,l,s,hs,hl=>⟨hl,Nat.le_refl _⟩
 | m+1,l,s,hs,hl=>by
   rw[PC.dosF]
   have hd:=do_in hB hM hs
   have hl2:∀d∈l++[(c.do s).1],d.In B M:=fun d hm=>by
    rcases List.mem_append.1 hm with hm | hm
    ·exact hl d hm
    ·rw[List.mem_singleton] at hm;subst hm;exact hd
   have hn:=(Up.do s).2 hs
   have he:(l++[(c.do s).1]).length=l.length+1:=by rw[List.length_append];rfl
   split
   ·rename_i h1
    have hlt:=isW_lt h1
    split
    ·exact⟨hl2,by show (l++[(c.do s).1]).length≤_;omega⟩
    ·obtain⟨g1,g2⟩:=dosF_in m (l++[(c.do s).1]) (c.many (l.length+1) 8 (c.do s).2).inc (by rw[inc_next,many_next];exact hlt) hl2
     exact⟨g1,by omega⟩
   ·exact⟨hl2,by show (l++[(c.do s).1]).length≤_;omega⟩
theorem rule_in{s:PS}(hs:s.next≤c.l.length):(c.rule s).1.In B M:=by
 unfold PC.rule PC.ruleD
 obtain⟨h1,h2⟩:=ex0_in hB hM ((Up.take (c:=c) (s:=s) (⟨#[119,104,101,110]⟩:ByteArray)).2 hs)
 obtain⟨h3,h4⟩:=dosF_in hB hM 8 [] (c.take (⟨#[100,111]⟩:ByteArray) (c.ex0 (c.take (⟨#[119,104,101,110]⟩:ByteArray) s).2).2).2 ((Up.take (c:=c) (s:=(c.ex0 (c.take (⟨#[119,104,101,110]⟩:ByteArray) s).2).2) (⟨#[100,111]⟩:ByteArray)).2 h2) (fun d hd=>by cases hd)
 exact⟨take_pos hB _ s,h1,by simpa using h4,h3⟩
omit hB hM in
theorem listF_in{α:Type}{w:ByteArray}{most:Nat}{one:PS→α×PS}{Q:α→Prop}(hm:Mono c one)(h1:∀s:PS,s.next≤c.l.length→Q (one s).1):∀(m:Nat) (l:List α) (s:PS),s.next≤c.l.length→(∀x∈l,Q x)→(∀x∈(c.listF w most one m l s).1,Q x)∧(c.listF w most one m l s).1.length≤l.length+m
 | 0,l,s,hs,hl=>⟨hl,Nat.le_refl _⟩
 | m+1,l,s,hs,hl=>by
   rw[PC.listF]
   split
   ·split
    ·exact⟨hl,Nat.le_add_right _ _⟩
    ·have hn:(c.many l.length most s).next≤c.l.length:=by rw[many_next];exact hs
     obtain⟨g1,g2⟩:=listF_in hm h1 m (l++[(one (c.many l.length most s)).1]) (one (c.many l.length most s)).2 ((hm _).2 hn) fun x hx=>by
      rcases List.mem_append.1 hx with hx | hx
      ·exact hl x hx
      ·rw[List.mem_singleton] at hx;subst hx;exact h1 _ hn
     rw[List.length_append,List.length_singleton] at g2
     exact⟨g1,by omega⟩
   ·exact⟨hl,Nat.le_add_right _ _⟩
theorem state_in{s:PS}(hs:s.next≤c.l.length):(c.state s).1.In B M:=by
 unfold PC.state PC.stateN
 have h1:=(Up.take (c:=c) (s:=s) (⟨#[115,116,97,116,101]⟩:ByteArray)).2 hs
 have h2:=(Up.name (c:=c) (s:=(c.take (⟨#[115,116,97,116,101]⟩:ByteArray) s).2)).2 h1
 have h3:=(Up.take (c:=c) (s:=(c.name (c.take (⟨#[115,116,97,116,101]⟩:ByteArray) s).2).2) (⟨#[123]⟩:ByteArray)).2 h2
 obtain⟨h4,h5⟩:=listF_in (w:=(⟨#[119,104,101,110]⟩:ByteArray)) (most:=12) (Q:=RuleP.In B M) Up.rule (fun s hs=>rule_in hB hM hs) 12 [] _ h3 (fun x hx=>by cases hx)
 exact⟨take_pos hB _ s,h5,h4⟩
theorem slot_in(s:PS):(c.slot s).1.In B:=by
 have _:=hM
 exact take_pos hB _ s
theorem whole_in{s:PS}(hs:s.next≤c.l.length):(c.whole s).1.In B M:=by
 unfold PC.whole PC.wholeR PC.wholeS PC.wholeT PC.wholeE
 have h1:=(Up.take (c:=c) (s:=s) (⟨#[115,116,114,97,116,101,103,121]⟩:ByteArray)).2 hs
 have h2:=(Up.name (c:=c) (s:=(c.take (⟨#[115,116,114,97,116,101,103,121]⟩:ByteArray) s).2)).2 h1
 have h3:=(Up.take (c:=c) (s:=(c.name (c.take (⟨#[115,116,114,97,116,101,103,121]⟩:ByteArray) s).2).2) (⟨#[123]⟩:ByteArray)).2 h2
 obtain⟨h4,h5⟩:=listF_in (w:=(⟨#[114,101,103]⟩:ByteArray)) (most:=12) (Q:=RegP.In B M) Up.reg (fun s hs=>reg_in hB hM s) 12 [] _ h3 (fun x hx=>by cases hx)
 have h6:=(Up.list (w:=(⟨#[114,101,103]⟩:ByteArray)) (most:=12) Up.reg (c.take (⟨#[123]⟩:ByteArray) (c.name (c.take (⟨#[115,116,114,97,116,101,103,121]⟩:ByteArray) s).2).2).2).2 h3
 obtain⟨h7,h8⟩:=listF_in (w:=(⟨#[115,108,111,116]⟩:ByteArray)) (most:=4) (Q:=SlotP.In B) Up.slot (fun s hs=>slot_in hB hM s) 4 [] _ h6 (fun x hx=>by cases hx)
 have h9:=(Up.list (w:=(⟨#[115,108,111,116]⟩:ByteArray)) (most:=4) Up.slot (c.list (⟨#[114,101,103]⟩:ByteArray) 12 c.reg (c.take (⟨#[123]⟩:ByteArray) (c.name (c.take (⟨#[115,116,114,97,116,101,103,121]⟩:ByteArray) s).2).2).2).2).2 h6
 obtain⟨h10,h11⟩:=listF_in (w:=(⟨#[115,116,97,116,101]⟩:ByteArray)) (most:=12) (Q:=StateP.In B M) Up.state (fun s hs=>state_in hB hM hs) 12 [] _ h9 (fun x hx=>by cases hx)
 exact⟨h5,h4,h8,h7,h11,h10⟩
end
theorem parseS_in(t:ByteArray):(parseS t).1.In t.size 20000:=by
 unfold parseS
 show (if ((begC t).whole (begS t)).2.over then _ else _:StgP×PF).1.In t.size 20000
 split
 ·exact⟨Nat.zero_le _,fun x hx=>(by cases hx),Nat.zero_le _,fun x hx=>(by cases hx),Nat.zero_le _,fun x hx=>(by cases hx)⟩
 ·exact whole_in (begC_tok t) (by have:=begC_len t;omega) (Nat.zero_le _)
theorem StgP.In.thin{B:Int}{s:StgP}(h:s.In B 20000):s.Thin:=by
 have h1:=h.rl
 have h2:=h.sl
 have h3:=h.tl
 refine⟨by omega,fun r hr=>?_,by omega,by omega,fun x hx=>?_⟩
 ·have:=(h.rr r hr).2.1;omega
 ·obtain⟨_,g1,g2⟩:=h.tt x hx
  refine⟨by omega,fun r hr=>?_⟩
  obtain⟨_,k1,k2,k3⟩:=g2 r hr
  refine⟨by have:=k1.1;omega,by omega,fun d hd=>?_⟩
  obtain⟨_,d1,d2,d3,d4⟩:=k3 d hd
  intro y hy
  simp only[DoP.nds,List.mem_cons,List.not_mem_nil,or_false] at hy
  rcases hy with rfl | rfl | rfl | rfl
  ·have:=d1.1;omega
  ·have:=d2.1;omega
  ·have:=d3.1;omega
  ·have:=d4.1;omega
section
variable {B M:Int} {s:StgP}
theorem nodeE_pos{x:Px}(h0:0≤B)(hp:x.pos≤B)(l:List Int):(nodeE s x l).2.pos≤B:=by
 unfold nodeE
 split
 ·exact hp
 ·split
  ·exact h0
  ·exact hp
theorem typed_pos:∀x:Px,PosB B x→(typed s x).2.pos≤B:=by
 refine Px.ind fun x ih h=>?_
 have h0:0≤B:=by have:=h.pos;omega
 have hL:∀l:List Px,(∀k∈l,(typed s k).2.pos≤B)→(typedL s l).2.pos≤B:=fun l h=>by
  induction l with
  | nil=>rw[typedL];exact h0
  | cons y r ih2 =>
    rw[typedL]
    split
    ·exact h y (.head _)
    ·exact ih2 fun k hk=>h k (.tail _ hk)
 rw[typed_eq]
 split
 ·exact hL _ fun k hk=>ih k hk (h.kid k hk)
 ·exact nodeE_pos h0 h.pos.2 _
theorem typeOf_pos{x:Px}(h:PosB B x):(typeOf s x).2.pos≤B:=by
 unfold typeOf
 split
 ·have:=h.pos;show (0:Int)≤B;omega
 ·exact typed_pos x h
theorem mustT_pos{x:Px}(h:PosB B x)(t:Int):(mustT s x t).pos≤B:=by
 unfold mustT
 split
 ·exact typeOf_pos h
 ·split
  ·exact h.pos.2
  ·have:=h.pos;show (0:Int)≤B;omega
theorem thenT_pos{a b:TF}(ha:a.pos≤B)(hb:b.pos≤B):(thenT a b).pos≤B:=by
 unfold thenT;split
 ·exact ha
 ·exact hb
theorem firstT_pos{α:Type}{f:α→TF}(h0:0≤B):∀{l:List α},(∀x∈l,(f x).pos≤B)→(firstT f l).pos≤B
 | [],_=>h0
 | x::r,h=>by
   rw[firstT];split
   ·exact h x (.head _)
   ·exact firstT_pos h0 fun y hy=>h y (.tail _ hy)
variable (h0:0≤B)
include h0
theorem doT_pos{d:DoP}(h:d.In B M):(doT s d).pos≤B:=by
 unfold doT
 split
 ·exact h.1.2
 ·refine firstT_pos h0 fun f hf=>?_
  unfold doL at hf
  simp only[List.mem_append] at hf
  rcases hf with hf | hf | hf | hf
  all_goals
   split at hf
   ·rw[List.mem_singleton] at hf;subst hf;first | exact mustT_pos h.2.1.2 _ | exact mustT_pos h.2.2.1.2 _ | exact mustT_pos h.2.2.2.1.2 _ | exact mustT_pos h.2.2.2.2.2 _
   ·cases hf
theorem dosT_pos:∀{l:List DoP} {b:Bool},(∀d∈l,d.In B M)→(dosT s l b).pos≤B
 | [],b,_=>h0
 | d::l,b,h=>by
   rw[dosT];split
   ·exact (h d (.head _)).1.2
   ·split
    ·exact doT_pos h0 (h d (.head _))
    ·exact dosT_pos fun y hy=>h y (.tail _ hy)
theorem namedR_pos:∀{l:List RegP} {i:Int},(∀r∈l,r.In B M)→(namedR s l i).pos≤B
 | [],i,_=>h0
 | r::l,i,h=>by
   rw[namedR];split
   ·exact (h r (.head _)).1.2
   ·split
    ·exact (h r (.head _)).1.2
    ·exact namedR_pos fun y hy=>h y (.tail _ hy)
theorem namedS_pos:∀{l:List SlotP} {i:Int},(∀r∈l,r.In B)→(namedS s l i).pos≤B
 | [],i,_=>h0
 | r::l,i,h=>by
   rw[namedS];split
   ·exact (h r (.head _)).2
   ·exact namedS_pos fun y hy=>h y (.tail _ hy)
theorem namedT_pos:∀{l:List StateP} {i:Int},(∀r∈l,r.In B M)→(namedT s l i).pos≤B
 | [],i,_=>h0
 | r::l,i,h=>by
   rw[namedT];split
   ·exact (h r (.head _)).1.2
   ·exact namedT_pos fun y hy=>h y (.tail _ hy)
theorem types_pos(h:s.In B M):s.types.pos≤B:=by
 unfold StgP.types
 split
 ·exact h0
 ·refine thenT_pos (thenT_pos (namedR_pos h0 h.rr) (thenT_pos (namedS_pos h0 h.ss) (namedT_pos h0 h.tt))) (firstT_pos h0 fun x hx=>firstT_pos h0 fun r hr=>?_)
  obtain⟨_,_,k⟩:=h.tt x hx
  obtain⟨_,k1,_,k3⟩:=k r hr
  exact thenT_pos (mustT_pos k1.2 5) (dosT_pos h0 k3)
end
end Go.Lx
namespace Go.Vc
open Go.ChangeShapes Go.WideShapes Go.ChangeAt Go.RowKit
def Imm.all(w:World):Imm:=⟨fun b=>w.heap[b]?,w.os,w.output⟩
theorem Sat.all(w:World):Sat (Imm.all w) [] w:=⟨fun _ _ h=>h,fun _ _ h=>by simp at h,fun _ _ h=>by simp at h,List.nodup_nil,rfl,rfl⟩
structure Stays (w w':World):Prop where
 heap:∀i,i<w.heap.size→w'.heap[i]? = w.heap[i]?
 os:w'.os=w.os
 out:w'.output=w.output
theorem Stays.of{w w':World}{I:Imm}{F:Heap}(hl:Imm.le (Imm.all w) I)(hs:Sat I F w'):Stays w w':=by
 refine⟨fun i hi=>?_,hs.env.1.trans hl.2.1,hs.env.2.trans hl.2.2⟩
 obtain⟨o,ho⟩:∃o,w.heap[i]? = some o:=⟨_,Array.getElem?_eq_getElem hi⟩
 rw[ho]
 exact hs.imm _ _ (hl.1 i o ho)
theorem Stays.kept{w w':World}(h:Stays w w')(may:MemPlace→Prop):w.keptBut w' may:=by
 refine⟨h.os,h.out,fun i hi=>?_⟩
 rw[h.heap i hi]
 cases w.heap[i]? with
 | none=>rfl
 | some o=>cases o with
   | cells c t fr=>exact⟨rfl,rfl,rfl,fun _ _=>rfl⟩
   | map es clock=>exact .inr ⟨rfl,rfl⟩
   | _=>rfl
theorem Stays.frozen{w w':World}(h:Stays w w'){a:Addr}(ha:a.block<w.heap.size):w'.frozen? a=w.frozen? a:=by
 unfold World.frozen?;rw[h.heap _ ha]
theorem post_stays{H:Type}{enc:TypeId×Value→H}{P:Program}{f:Func}{s:ChangeSpec}{apart fresh handsOn again:Bool}{W W':World}{args:Array Value}{v:Value}{ds gs:List (DataW H)}{before pa pv:List MemPlace}
  (hW:DataW.Whole enc P f.params.toList s.vars apart W args.toList ds gs before)
  (hres:∀(b:Nat) (sp:Nat→Bool) (hd:Bool),DataW.TrodAll enc P W' b sp hd f.resultTypes.toList (v.resultList f.resultTypes.size) (s.fn H (ds++gs)).results [])
  (hargs:∀sp:Nat→Bool,(∀p∈before,sp p.block=true)→DataW.TrodAll enc P W' 0 sp true f.params.toList args.toList (s.fn H (ds++gs)).args pa)
  (hvars:∀sp:Nat→Bool,(∀p∈before,sp p.block=true)→DataW.TrodVars enc P W' sp s.vars (s.fn H (ds++gs)).vars pv)
  (hps:before=pa++pv) (hk:Stays W W')
  (hok:∀(j:Nat) (t:TypeId) (r:Value),f.resultTypes[j]? = some t→(v.resultList f.resultTypes.size)[j]? = some r→Value.okWide P W' .any 0 t r) :
  s.post enc P f apart fresh handsOn again W args v W':=by
 have hold:∀p∈before,(fun b=>decide (b<W.heap.size)) p.block=true:=fun p hp=>by simpa using hW.lt p hp
 have hlt:∀p∈before,p.block<W.heap.size:=fun p hp=>hW.lt p hp
 refine⟨ds,gs,before,[],pa,pv,hW,hres _ _ _,hargs _ hold,hvars _ hold,World.keptBut_mono (fun p hp=>⟨hp, ?_⟩) (hk.kept (·∈before)),fun _=>?_⟩
 ·rw[hps,List.mem_append] at hp
  exact Or.inr hp
 ·obtain⟨_,_,_,_,_,hz,hn⟩:=hW
  refine⟨hok,_,_,([]++pa)++pv,⟨[]++pa,pv,trodAll_append (hargs _ (fun _ _=>rfl)) (hres _ _ _),hvars _ (fun _ _=>rfl),rfl, ?_, ?_⟩, ?_⟩
  ·intro b off hp
   have hp':MemPlace.cell b off∈before:=by rw[hps];simpa using hp
   rw[hk.frozen (hlt _ hp')]
   exact hz b off hp'
  ·intro ha
   have:=hn ha
   rw[hps] at this
   simpa using this
  ·intro p hp _
   rw[hps]
   simpa using hp
end Go.Vc
namespace Go.Lx
open Go.Vc Go.Proofs.Tryz
def shT_y1:List (Nat×List Sh):=[(3,[.one (.int .i64)]),(4,[.one .bool]),(31,[.one (.int .u8)]),(35,[.agg [(.int .u8),(.int .u8),(.int .u8),(.int .i64),(.int .u8),.str,.slc,(.int .i64)]]),(38,[.one .any]),(40,[.one (.int .i64)]),(54,[.one (.int .u8),.one .any]),(59,[.one .ptr]),(68,[.agg [.str,(.int .u8),(.int .u8),(.int .u8),(.int .u8),(.int .i64),(.int .u8),.str,.slc,(.int .i64),(.int .i64)]]),(71,[.agg [.str,(.int .i64)]]),(74,[.agg [.str,.slc,(.int .i64)]]),(83,[.one .ptr]),(87,[.agg [(.int .u8),(.int .u8),(.int .u8),(.int .i64),(.int .u8),.str,.slc,(.int .i64),.slc,(.int .i64)]]),(92,[.one (.int .u8)]),(95,[.agg [(.int .u8),(.int .u8),.str,(.int .u8),(.int .u8),(.int .u8),(.int .i64),(.int .u8),.str,.slc,(.int .i64),(.int .u8),(.int .u8),(.int .u8),(.int .i64),(.int .u8),.str,.slc,(.int .i64),(.int .u8),(.int .u8),(.int .u8),(.int .i64),(.int .u8),.str,.slc,(.int .i64),(.int .u8),(.int .u8),(.int .u8),(.int .i64),(.int .u8),.str,.slc,(.int .i64),(.int .i64)]]),(123,[.one .map]),(124,[.one .map]),(127,[.one (.int .u8),.one .bool]),(176,[.one .slc]),(178,[.agg [(.int .u8),(.int .u8),(.int .u8),(.int .i64),(.int .u8),.str,.slc,(.int .i64),(.int .u8)]])]
def types_number.V(t:Int)(I:Imm)(F:Heap)(Q:PostQ)  : Prop:=(Dt (1≤t) (Q (.returned (.bool (decide (t≤4)))) I F) (Q (.returned (.bool false)) I F))
theorem types_number.vc{t:Int}{I:Imm}{F:Heap}{Q:PostQ}  (h:types_number.V t I F Q):Tri P 117 #[.int .u8 t] I F Q :=
 tw (A:=(an [1001] [] shT_y1)) [] func117 h
def types_wrong.V(f g h i j:Int)(k:Bs)(c:OA)(d e:Nat)(a e1:Int)(I:Imm)(F:Heap)(Q:PostQ)  : Prop:=∀l:Nat,∀b:Nat,Q (.returned (.tuple #[.int .u8 0,Value.iface 59 (.pointer (some (⟨b,0,none⟩:Addr)))])) I (((b,Obj.cells #[.string (⟨#[79,102]⟩:Bs),.int .i64 a,Value.iface 40 (.int .i64 e1)] 63 (0,0))::F))
theorem types_wrong.vc{d e f g i:Int}{j:Bs}{a:OA}{b c:Nat}{k e1:Int}{I:Imm}{F:Heap}{Q:PostQ}  (h:types_wrong.V d e f g i j a b c k e1 I F Q):Tri P 90 #[.agg #[.int .u8 d,.int .u8 e,.int .u8 f,.int .i64 g,.int .u8 i,.string j,.slice a b c,.int .i64 k],.int .i64 e1] I F Q :=
 tw (A:=(annL [] [] [] shT_y1 [] [] [1005] [] [] [(1,[0,2,3,7,1,4,5,6,8])] [])) [] func90 h
def types_single.V(c:Nat→Nat×Obj)(vb:Int→Value)(vt:Bool→Value)(e b f j k:Int)(l:Bs)(g:OA)(h i:Nat)(m a:Int)(I:Imm)(F:Heap)(Q:PostQ)  : Prop:=∀d:Nat,(It (e==9) (Tc1 P 117 #[vb a] I ((c d)::·) F vt fun r I1 F1=>(It r (Q (.returned (vb f)) I1 F1) (It (e==9) (Q (.returned (vb 0)) I1 F1) (It (b==2) (It (a==5) (Q (.returned (vb a)) I1 F1) (It (b != 2) (Tc1 P 117 #[vb a] I1 ((c d)::·) F1 vt fun r1 I2 F2=>(It r1 (Q (.returned (vb a)) I2 F2) (Q (.returned (vb 0)) I2 F2))) (Q (.returned (vb 0)) I1 F1))) (It (b != 2) (Tc1 P 117 #[vb a] I1 ((c d)::·) F1 vt fun r2 I3 F3=>(It r2 (Q (.returned (vb a)) I3 F3) (Q (.returned (vb 0)) I3 F3))) (Q (.returned (vb 0)) I1 F1)))))) (It (e==9) (Q (.returned (vb 0)) I F) (It (b==2) (It (a==5) (Q (.returned (vb a)) I F) (It (b != 2) (Tc1 P 117 #[vb a] I ((c d)::·) F vt fun r3 I4 F4=>(It r3 (Q (.returned (vb a)) I4 F4) (Q (.returned (vb 0)) I4 F4))) (Q (.returned (vb 0)) I F))) (It (b != 2) (Tc1 P 117 #[vb a] I ((c d)::·) F vt fun r4 I5 F5=>(It r4 (Q (.returned (vb a)) I5 F5) (Q (.returned (vb 0)) I5 F5))) (Q (.returned (vb 0)) I F)))))
theorem types_single.vc{f g i j k:Int}{l:Bs}{c:OA}{d e:Nat}{m a:Int}{I:Imm}{F:Heap}{Q:PostQ}  (h:types_single.V (fun b=>(b,Obj.cells #[.int .u8 f,.int .u8 g,.int .u8 i,.int .i64 j,.int .u8 k,.string l,.slice c d e,.int .i64 m] 35 (0,0))) (.int .u8) .bool f g i j k l c d e m a I F Q):Tri P 88 #[.agg #[.int .u8 f,.int .u8 g,.int .u8 i,.int .i64 j,.int .u8 k,.string l,.slice c d e,.int .i64 m],.int .u8 a] I F Q :=
 tw (A:=(an [1002,1005,3002,4002,4005,5002,5005] [117] shT_y1)) [117] func88 h
def types_double.V(vb:Int→Value)(vt:Bool→Value)(o a b:Int)(I:Imm)(F:Heap)(Q:PostQ)  : Prop:=(It (o==8) (It (a==1) (Tc1 P 117 #[vb b] I (·) F vt fun r I1 F1=>Q (.returned (.tuple #[vb b,vt r])) I1 F1) (It (b==1) (Tc1 P 117 #[vb a] I (·) F vt fun r1 I2 F2=>Q (.returned (.tuple #[vb a,vt r1])) I2 F2) (It (a != b) (It ((IntKind.wrap .u8 (a+b))==5) (Tc1 P 117 #[vb a] I (·) F vt fun r2 I3 F3=>(It r2 (Tc1 P 117 #[vb b] I3 (·) F3 vt fun r3 I4 F4=>Q (.returned (.tuple #[vb 1,vt r3])) I4 F4) (Q (.returned (.tuple #[vb 1,vt false])) I3 F3))) (Q (.returned (.tuple #[vb 1,vt false])) I F)) (Q (.returned (.tuple #[vb 1,vt false])) I F)))) (It (o==9) (It (b==1) (Tc1 P 117 #[vb a] I (·) F vt fun r4 I5 F5=>Q (.returned (.tuple #[vb a,vt r4])) I5 F5) (It (a==b) (Tc1 P 117 #[vb a] I (·) F vt fun r5 I6 F6=>Q (.returned (.tuple #[vb 1,vt r5])) I6 F6) (Q (.returned (.tuple #[vb 1,vt false])) I F))) (It (o==11) (Q (.returned (.tuple #[vb 5,vt (a==b)])) I F) (It (o==12) (Q (.returned (.tuple #[vb 5,vt (a==b)])) I F) (It (o==17) (It (a==b) (Q (.returned (.tuple #[vb a,vt (a==5)])) I F) (Q (.returned (.tuple #[vb a,vt false])) I F)) (It (o==18) (It (a==b) (Q (.returned (.tuple #[vb a,vt (a==5)])) I F) (Q (.returned (.tuple #[vb a,vt false])) I F)) (It (o==13) (It (a==b) (Tc1 P 117 #[vb a] I (·) F vt fun r6 I7 F7=>Q (.returned (.tuple #[vb 5,vt r6])) I7 F7) (Q (.returned (.tuple #[vb 5,vt false])) I F)) (It (o==14) (It (a==b) (Tc1 P 117 #[vb a] I (·) F vt fun r7 I8 F8=>Q (.returned (.tuple #[vb 5,vt r7])) I8 F8) (Q (.returned (.tuple #[vb 5,vt false])) I F)) (It (o==15) (It (a==b) (Tc1 P 117 #[vb a] I (·) F vt fun r8 I9 F9=>Q (.returned (.tuple #[vb 5,vt r8])) I9 F9) (Q (.returned (.tuple #[vb 5,vt false])) I F)) (It (o==16) (It (a==b) (Tc1 P 117 #[vb a] I (·) F vt fun r9 I10 F10=>Q (.returned (.tuple #[vb 5,vt r9])) I10 F10) (Q (.returned (.tuple #[vb 5,vt false])) I F)) (It (a==b) (Tc1 P 117 #[vb a] I (·) F vt fun c I11 F11=>Q (.returned (.tuple #[vb a,vt c])) I11 F11) (Q (.returned (.tuple #[vb a,vt false])) I F))))))))))))
theorem types_double.vc{o a b:Int}{I:Imm}{F:Heap}{Q:PostQ}  (h:types_double.V (.int .u8) .bool o a b I F Q):Tri P 89 #[.int .u8 o,.int .u8 a,.int .u8 b] I F Q :=
 tw (A:=(an [2000,3001,5001,7002,7007,7011,8000,9001,11002,12000,13000,15000,16000,17003,18000,19000,20000,21000,22002,23003] [117] shT_y1)) [117] func89 h
def types_registers.V(ka:Nat→Bs→Int→Int→Int→Int→Int→Int→Bs→OA→Nat→Nat→Int→Int→Nat×Obj)(kb:Nat→(Option Nat)→(Option Nat)→(Option Nat)→Nat×Obj)(c:Nat→Nat×Obj)(vb vi:Int→Value)(vs:Bs→Value)(vl:OA→Nat→Nat→Value)(ai:Bs)(w:OA)(t aa:Nat)(ab:OA)(ac ae:Nat)(af:OA)(ag ah:Nat)(I:Imm)(F:Heap)(Q:PostQ)(Inv8:OA→OA→Int→Nat→Imm→Heap→Imm→Heap→Prop):Prop:=∀a:Nat,TriE P (Instr.makeMap 123 none) I ((c a)::F) fun v I1 G1=>∃(r:Option Nat),v=.map r∧∃F1:Heap,List.Perm G1 ((c a)::F1)∧TriE P (Instr.makeMap 124 none) I1 ((c a)::F1) fun v1 I2 G2=>∃(r1:Option Nat),v1=.map r1∧∃F2:Heap,List.Perm G2 ((c a)::F2)∧TriE P (Instr.makeMap 124 none) I2 ((c a)::F2) fun v2 I3 G3=>∃(r2:Option Nat),v2=.map r2∧∃F3:Heap,List.Perm G3 ((c a)::F3)∧∀b:Nat,(∃m:Nat,Inv8 (some ⟨a,0,none⟩) (some (⟨b,0,none⟩:Addr)) 0 m I3 ((kb b r r1 r2)::F3) I3 ((kb b r r1 r2)::F3))∧∀(x:Int) (m1:Nat) (I4:Imm) (F4:Heap),Imm.le I3 I4→Inv8 (some ⟨a,0,none⟩) (some (⟨b,0,none⟩:Addr)) x m1 I3 ((kb b r r1 r2)::F3) I4 F4→(Dt (x<(t:Int)) ((0≤x∧x<(t:Int))∧∃ad:Addr,w=some ad∧∃(h:Bs) (i j k l n o:Int) (p:Bs) (d:OA) (e f:Nat) (q g:Int),Rd I4 ((c a)::F4) (ad.add (Int.toNat x*11)) [vs h,vb i,vb j,vb k,vb l,vi n,vb o,vs p,vl d e f,vi q,vi g]∧∀s:Nat,∃y:Addr,some (⟨b,0,none⟩:Addr)=some y∧∃(m2:Option Nat),Rd I4 ((c a)::(ka s h i j k l n o p d e f q g)::F4) (y.add 0) [.map m2]∧TriE P (Instr.lookup 123 (.map m2) (vs h) true) I4 ((c a)::(ka s h i j k l n o p d e f q g)::F4) fun v3 I5 G4=>∃(r0:Int) (u:Bool),v3=.tuple #[vb r0,.bool u]∧∃F5:Heap,List.Perm G4 ((c a)::(ka s h i j k l n o p d e f q g)::F5)∧(It (!u) (∃z:Addr,some (⟨b,0,none⟩:Addr)=some z∧∃(m3:Option Nat),Rd I5 ((c a)::(ka s h i j k l n o p d e f q g)::F5) (z.add 0) [.map m3]∧TriU P (Instr.mapUpdate 123 (.map m3) (vs h) (vb i)) I5 ((c a)::(ka s h i j k l n o p d e f q g)::F5) fun I6 G5=>∃F6:Heap,List.Perm G5 ((c a)::(ka s h i j k l n o p d e f q g)::F6)∧(∃m4:Nat,m4<m1∧Inv8 (some ⟨a,0,none⟩) (some (⟨b,0,none⟩:Addr)) (IntKind.wrap .i64 (x+1)) m4 I3 ((kb b r r1 r2)::F3) I6 F6)) (∃m5:Nat,m5<m1∧Inv8 (some ⟨a,0,none⟩) (some (⟨b,0,none⟩:Addr)) (IntKind.wrap .i64 (x+1)) m5 I3 ((kb b r r1 r2)::F3) I5 F5))) (Q (.returned (.pointer (some (⟨b,0,none⟩:Addr)))) I4 F4))
theorem types_registers.vc{w:Bs}{n:OA}{o p:Nat}{q:OA}{r s:Nat}{t:OA}{u v:Nat}{I:Imm}{F:Heap}{Q:PostQ}(Inv8:OA→OA→Int→Nat→Imm→Heap→Imm→Heap→Prop)(h:types_registers.V (fun W a b c d e f g h i j k l m=>(W,Obj.cells #[.string a,.int .u8 b,.int .u8 c,.int .u8 d,.int .u8 e,.int .i64 f,.int .u8 g,.string h,.slice i j k,.int .i64 l,.int .i64 m] 68 (0,0))) (fun W a b c=>(W,Obj.cells #[.map a,.map b,.map c] 126 (0,0))) (fun b=>(b,Obj.cells #[.string w,.slice n o p,.slice q r s,.slice t u v] 26 (0,0))) (.int .u8) (.int .i64) .string .slice w n o p q r s t u v I F Q Inv8):Tri P 33 #[.agg #[.string w,.slice n o p,.slice q r s,.slice t u v]] I F Q :=
 tw (A:=(annL [3000,6001] [] [] shT_y1 [(8,⟨[(16,(.int .i64))],[],fun fs I0 F0 vs m I F=>match fs,vs with | [.pointer y0,.pointer y1],[.int _ y2]=>Inv8 y0 y1 y2 m I0 F0 I F | _,_=>False,[1,3],[]⟩)] [] [1004] [] [] [(5,[0,1,2,4,3,5,6,7,8,9,10,11]),(7,[0,1,2,4,6,3,5,7,8])] [])) [] func33 h
def types_refused.V(vp:OA→Value)(c:Int)(et:TypeId)(ev:Value)(I:Imm)(F:Heap)(Q:PostQ)  : Prop:=∀a:Nat,Tri P 22 (#[Value.iface et ev,Value.iface 61 (vp (some (⟨a,0,none⟩:Addr)))]) I (((a,Obj.cells #[vp none] 59 (0,0))::F)) fun e1 I1 G1=>∃(r:Bool),e1=.returned (.bool r)∧∃F1:Heap,List.Perm G1 F1∧(It r (∃(m:OA),Rd I1 F1 (⟨a,0,none⟩:Addr) [vp m]∧∃ad:Addr,m=some ad∧∃(m1:Int),Rd I1 F1 (ad.add 1) [.int .i64 m1]∧∀b:Nat,Q (.returned (Value.iface 59 (vp (some (⟨b,0,none⟩:Addr))))) I1 (((b,Obj.cells #[.string (⟨#[67,104,101,99,107]⟩:Bs),.int .i64 m1,Value.iface et ev] 63 (0,0))::F1))) (∀b1:Nat,Q (.returned (Value.iface 59 (vp (some (⟨b1,0,none⟩:Addr))))) I1 (((b1,Obj.cells #[.string (⟨#[67,104,101,99,107]⟩:Bs),.int .i64 c,Value.iface et ev] 63 (0,0))::F1))))
theorem types_refused.vc{a:Int}{et:TypeId}{ev:Value}{I:Imm}{F:Heap}{Q:PostQ}  (h:types_refused.V .pointer a et ev I F Q):Tri P 32 #[.int .i64 a,Value.iface et ev] I F Q :=
 tw (A:=(annL [2002] [] [22] shT_y1 [] [] [1000,4003] [] [] [] [])) [22] func32 h
def types_Of.V(a c:Nat→Nat×Obj)(nV:Int→Int→Int→Int→Int→Bs→OA→Nat→Nat→Int→Value)(aa:Bs)(i:OA)(j k:Nat)(l:OA)(m n:Nat)(o:OA)(p q:Nat)(s t u v w:Int)(x:Bs)(f:OA)(g h:Nat)(y:Int)(I:Imm)(F:Heap)(Q:PostQ)  : Prop:=∀d:Nat,∀e:Nat,Tc1 P 44 #[nV s t u v w x f g h y] I ((c d)::(a e)::·) F (.int .i64) fun r I1 F1=>(It (r != 0) (∀b:Nat,Q (.returned (.tuple #[.int .u8 0,Value.iface 59 (.pointer (some (⟨b,0,none⟩:Addr)))])) I1 (((b,Obj.cells #[.string (⟨#[79,102]⟩:Bs),.int .i64 0,Value.iface 40 (.int .i64 r)] 63 (0,0))::F1))) (Tc1 P 33 #[.agg #[.string aa,.slice i j k,.slice l m n,.slice o p q]] I1 ((c d)::(a e)::·) F1 .pointer fun r1 I2 F2=>Tcn P 45 #[.pointer r1,nV s t u v w x f g h y] I2 ((c d)::(a e)::·) F2 fun e3 I3 G3=>∃(r0:Int) (z:Value),e3=.returned (.tuple #[.int .u8 r0,z])∧G3 fun F3=>Q (.returned (.tuple #[.int .u8 r0,z])) I3 F3))
theorem types_Of.vc{y:Bs}{d:OA}{e g:Nat}{i:OA}{j m:Nat}{p:OA}{r u:Nat}{z aa ab ac ad:Int}{ae:Bs}{v:OA}{w x:Nat}{af:Int}{I:Imm}{F:Heap}{Q:PostQ}  (h:types_Of.V (fun b=>(b,Obj.cells #[.int .u8 z,.int .u8 aa,.int .u8 ab,.int .i64 ac,.int .u8 ad,.string ae,.slice v w x,.int .i64 af] 35 (0,0))) (fun b=>(b,Obj.cells #[.string y,.slice d e g,.slice i j m,.slice p r u] 26 (0,0))) (fun k o t n f s a l c q=>.agg #[.int .u8 k,.int .u8 o,.int .u8 t,.int .i64 n,.int .u8 f,.string s,.slice a l c,.int .i64 q]) y d e g i j m p r u z aa ab ac ad ae v w x af I F Q):Tri P 19 #[.agg #[.string y,.slice d e g,.slice i j m,.slice p r u],.agg #[.int .u8 z,.int .u8 aa,.int .u8 ab,.int .i64 ac,.int .u8 ad,.string ae,.slice v w x,.int .i64 af]] I F Q :=
 tw (A:=(annL [2001] [] [33,44,45] shT_y1 [] [] [3003] [] [] [(4,[2,0,1,3,4,5,6,7])] [] [] [(4,[2],8)])) [33,44,45] func19 h
def types_Check.V(b:Nat→Nat×Obj)(vb vi:Int→Value)(vs:Bs→Value)(vl:OA→Nat→Nat→Value)(aj:Bs)(o:OA)(p s:Nat)(t:OA)(u v:Nat)(f:OA)(d w:Nat)(I:Imm)(F:Heap)(Q:PostQ)(Inv28:OA→Value→Int→Nat→Imm→Heap→Imm→Heap→Prop)(Inv42:OA→Int→Value→Int→Nat→Imm→Heap→Imm→Heap→Prop):Prop:=∀c:Nat,Tc1 P 31 #[.agg #[vs aj,vl o p s,vl t u v,vl f d w]] I ((b c)::·) F vi fun r I1 F1=>(It (r != 0) (Tcn P 32 (#[vi 0,Value.iface 40 (vi r)]) I1 ((b c)::·) F1 fun e2 I2 G2=>∃(r1:Value),e2=.returned r1∧G2 fun F2=>Q (.returned r1) I2 F2) (Tc1 P 33 #[.agg #[vs aj,vl o p s,vl t u v,vl f d w]] I1 ((b c)::·) F1 .pointer fun r2 I3 F3=>Tcn P 34 #[.pointer r2,.agg #[vs aj,vl o p s,vl t u v,vl f d w]] I3 ((b c)::·) F3 fun e4 I4 G4=>∃(r3:Value),e4=.returned r3∧G4 fun F4=>∃q:Bool,BinRun P .neq 38 (.tmp 23) (.const (Value.nilIface)) r3 Value.nilIface q∧(It q (Q (.returned r3) I4 F4) ((∃m:Nat,Inv28 r2 Value.nilIface 0 m I4 F4 I4 F4)∧∀(x:Value) (x1:Int) (m1:Nat) (I5:Imm) (F5:Heap),Imm.le I4 I5→Inv28 r2 x x1 m1 I4 F4 I5 F5→(Dt (x1<(d:Int)) ((0≤x1∧x1<(d:Int))∧∃ad:Addr,f=some ad∧∃(aa:Bs) (e:OA) (a g:Nat) (ab:Int),Rd I5 ((b c)::F5) (ad.add (Int.toNat x1*3)) [vs aa,vl e a g,vi ab]∧∀ak:Nat,(∃m2:Nat,Inv42 r2 x1 x 0 m2 I5 F5 I5 F5)∧∀(x2:Value) (x3:Int) (m3:Nat) (I6:Imm) (F6:Heap),Imm.le I5 I6→Inv42 r2 x1 x2 x3 m3 I5 F5 I6 F6→(Dt (x3<(a:Int)) ((0≤x3∧x3<(a:Int))∧∃al:Addr,e=some al∧∃(y ac z ae af:Int) (ag:Bs) (h:OA) (i j:Nat) (ah:Int) (k:OA) (l n:Nat) (ai:Int),Rd I6 ((b c)::(ak,Obj.cells #[vs aa,vl e a g,vi ab] 74 (0,0))::F6) (al.add (Int.toNat x3*10)) [vb y,vb ac,vb z,vi ae,vb af,vs ag,vl h i j,vi ah,vl k l n,vi ai]∧∀am:Nat,Tcn P 35 #[.pointer r2,.agg #[vb y,vb ac,vb z,vi ae,vb af,vs ag,vl h i j,vi ah,vl k l n,vi ai]] I6 ((b c)::(ak,Obj.cells #[vs aa,vl e a g,vi ab] 74 (0,0))::(am,Obj.cells #[vb y,vb ac,vb z,vi ae,vb af,vs ag,vl h i j,vi ah,vl k l n,vi ai] 87 (0,0))::·) F6 fun e5 I7 G5=>∃(r4:Value),e5=.returned r4∧G5 fun F7=>∃q1:Bool,BinRun P .neq 38 (.tmp 43) (.const (Value.nilIface)) r4 Value.nilIface q1∧(It q1 (Q (.returned r4) I7 F7) (∃m4:Nat,m4<m3∧Inv42 r2 x1 x2 (IntKind.wrap .i64 (x3+1)) m4 I5 F5 I7 F7))) (∃m5:Nat,m5<m1∧Inv28 r2 x2 (IntKind.wrap .i64 (x1+1)) m5 I4 F4 I6 F6))) (Q (.returned (Value.nilIface)) I5 F5))))))
theorem types_Check.vc{l:Bs}{a:OA}{c d:Nat}{e:OA}{f g:Nat}{i:OA}{j k:Nat}{I:Imm}{F:Heap}{Q:PostQ}(Inv28:OA→Value→Int→Nat→Imm→Heap→Imm→Heap→Prop)(Inv42:OA→Int→Value→Int→Nat→Imm→Heap→Imm→Heap→Prop)(h:types_Check.V (fun b=>(b,Obj.cells #[.string l,.slice a c d,.slice e f g,.slice i j k] 26 (0,0))) (.int .u8) (.int .i64) .string .slice l a c d e f g i j k I F Q Inv28 Inv42):Tri P 13 #[.agg #[.string l,.slice a c d,.slice e f g,.slice i j k]] I F Q :=
 tw (A:=(annL [2001,6001,9000,12000,15001] [] [31,32,33,34,35] shT_y1 [(28,⟨[(2,.any),(29,(.int .i64))],[],fun fs I0 F0 vs m I F=>match fs,vs with | [.pointer y0],[y1,.int _ y2]=>Inv28 y0 y1 y2 m I0 F0 I F | _,_=>False,[4],[]⟩),(42,⟨[(2,.any),(36,(.int .i64))],[],fun fs I0 F0 vs m I F=>match fs,vs with | [.pointer y0,.int _ y1],[y2,.int _ y3]=>Inv42 y0 y1 y2 y3 m I0 F0 I F | _,_=>False,[4,29],[]⟩)] [] [] [] [] [] [])) [31,32,33,34,35] func13 h
def types_scope_leaf.V(d:Nat→Nat×Obj)(vb:Int→Value)(c:Addr)(a n i o b:Int)(j:Bs)(f:OA)(g h:Nat)(p:Int)(I:Imm)(F:Heap)(Q:PostQ)  : Prop:=∀e:Nat,(It (a==1) (Q (.returned (.tuple #[vb i,Value.nilIface])) I F) (It (a==4) (Q (.returned (.tuple #[vb 5,Value.nilIface])) I F) (It (a==2) (∃ad:Addr,some c=some ad∧∃(m:Option Nat),Rd I ((d e)::F) (ad.add 0) [.map m]∧TriE P (Instr.lookup 123 (.map m) (.string j) true) I ((d e)::F) fun v I1 G1=>∃(r0:Int) (r1:Bool),v=.tuple #[vb r0,.bool r1]∧∃F1:Heap,List.Perm G1 ((d e)::F1)∧(It r1 (Q (.returned (.tuple #[vb r0,Value.nilIface])) I1 F1) (Tcn P 90 #[.agg #[vb a,vb n,vb i,.int .i64 o,vb b,.string j,.slice f g h,.int .i64 p],.int .i64 151] I1 ((d e)::·) F1 fun e1 I2 G2=>∃(k:Int) (l:Value),e1=.returned (.tuple #[vb k,l])∧G2 fun F2=>Q (.returned (.tuple #[vb k,l])) I2 F2))) (It (b==5) (Q (.returned (.tuple #[vb 4,Value.nilIface])) I F) (It (b==4) (Q (.returned (.tuple #[vb 2,Value.nilIface])) I F) (It (b==6) (Q (.returned (.tuple #[vb 2,Value.nilIface])) I F) (Q (.returned (.tuple #[vb 3,Value.nilIface])) I F)))))))
theorem types_scope_leaf.vc{c:Addr}{f g i j k:Int}{l:Bs}{a:OA}{d e:Nat}{m:Int}{I:Imm}{F:Heap}{Q:PostQ}  (h:types_scope_leaf.V (fun b=>(b,Obj.cells #[.int .u8 f,.int .u8 g,.int .u8 i,.int .i64 j,.int .u8 k,.string l,.slice a d e,.int .i64 m] 35 (0,0))) (.int .u8) c f g i j k l a d e m I F Q):Tri P 87 #[.pointer (some c),.agg #[.int .u8 f,.int .u8 g,.int .u8 i,.int .i64 j,.int .u8 k,.string l,.slice a d e,.int .i64 m]] I F Q :=
 tw (A:=(annL [2000,4000,6000,8000,12000,14000,15000] [] [90] shT_y1 [] [] [] [] [] [(7,[0,1,2,4,3,5,6,7,8,9,10,11])] [])) [90] func87 h
def types_scope_of.V(d u:Nat→Nat×Obj)(nV:Int→Int→Int→Int→Int→Bs→OA→Nat→Nat→Int→Value)(nO:Int→Int→Int→Int→Int→Bs→OA→Nat→Nat→Int→Obj)(vb vi:Int→Value)(c:Addr)(l k n o p:Int)(s:Bs)(f:OA)(b g:Nat)(t:Int)(I:Imm)(F:Heap)(Q:PostQ)(Inv8:OA→OA→Int→Value→Int→Nat→Imm→Heap→Imm→Heap→Prop):Prop:=∀a:Nat,∀e:Nat,(∃m:Nat,Inv8 (some ⟨a,0,none⟩) (some (⟨e,0,none⟩:Addr)) 0 Value.nilIface 0 m I ((u e)::F) I ((u e)::F))∧∀(x:Int) (x1:Value) (x2:Int) (m1:Nat) (I1:Imm) (F1:Heap),Imm.le I I1→Inv8 (some ⟨a,0,none⟩) (some (⟨e,0,none⟩:Addr)) x x1 x2 m1 I ((u e)::F) I1 F1→(Dt (x2<(b:Int)) ((0≤x2∧x2<(b:Int))∧∃ad:Addr,f=some ad∧∃(v w y z aa:Int) (ab:Bs) (h:OA) (i j:Nat) (ac:Int),Rd I1 ((d a)::F1) (ad.add (Int.toNat x2*8)) [vb v,vb w,vb y,vi z,vb aa,.string ab,.slice h i j,vi ac]∧∀aq:Nat,Tcn P 45 (#[.pointer (some c),nV v w y z aa ab h i j ac]) I1 ((d a)::(aq,nO v w y z aa ab h i j ac)::·) F1 fun e1 I2 G1=>∃(r0:Int) (r1:Value),e1=.returned (.tuple #[vb r0,r1])∧G1 fun F2=>∃q:Bool,BinRun P .neq 38 (.tmp 27) (.const (Value.nilIface)) r1 Value.nilIface q∧(It q (Q (.returned (.tuple #[vb 0,r1])) I2 F2) ((0≤x2∧x2<(3:Int))∧∃(cs:List Value) (el:Nat) (F3:Heap),List.Perm F2 ((((⟨e,0,none⟩:Addr).add (Int.toNat x2*1)).block,Obj.cells cs.toArray el (0,0))::F3)∧((⟨e,0,none⟩:Addr).add (Int.toNat x2*1)).spot=none∧((⟨e,0,none⟩:Addr).add (Int.toNat x2*1)).off+1≤cs.length∧(∃m2:Nat,m2<m1∧Inv8 (some ⟨a,0,none⟩) (some (⟨e,0,none⟩:Addr)) x x1 (IntKind.wrap .i64 (x2+1)) m2 I ((u e)::F) I2 ((((⟨e,0,none⟩:Addr).add (Int.toNat x2*1)).block,Obj.cells (splice ((⟨e,0,none⟩:Addr).add (Int.toNat x2*1)).off [vb r0] cs).toArray el (0,0))::F3))))) (It ((b:Int)==0) (Tcn P 87 (#[.pointer (some c),nV l k n o p s f b g t]) I1 ((d a)::·) F1 fun e2 I3 G2=>∃(af:Int) (ag:Value),e2=.returned (.tuple #[vb af,ag])∧G2 fun F4=>Q (.returned (.tuple #[vb af,ag])) I3 F4) (It ((b:Int)==1) ((0≤(0:Int)∧(0:Int)<(3:Int))∧∃(m3:Int),Rd I1 ((d a)::F1) ((⟨e,0,none⟩:Addr).add (Int.toNat 0*1)) [vb m3]∧Tc1 P 88 #[nV l k n o p s f b g t,vb m3] I1 ((d a)::·) F1 vb fun r I4 F5=>(It (!(r != 0)) (Tcn P 90 #[nV l k n o p s f b g t,vi 152] I4 ((d a)::·) F5 fun e4 I5 G4=>∃(ah:Int) (ai:Value),e4=.returned (.tuple #[vb ah,ai])∧G4 fun F6=>Q (.returned (.tuple #[vb ah,ai])) I5 F6) (Q (.returned (.tuple #[vb r,Value.nilIface])) I4 F5))) (It ((b:Int)==2) ((0≤(0:Int)∧(0:Int)<(3:Int))∧∃(m4:Int),Rd I1 ((d a)::F1) ((⟨e,0,none⟩:Addr).add (Int.toNat 0*1)) [vb m4]∧((0≤(1:Int)∧(1:Int)<(3:Int))∧∃(m5:Int),Rd I1 ((d a)::F1) ((⟨e,0,none⟩:Addr).add (Int.toNat 1*1)) [vb m5]∧Tcn P 89 #[vb k,vb m4,vb m5] I1 ((d a)::·) F1 fun e5 I6 G5=>∃(aj:Int) (ae:Bool),e5=.returned (.tuple #[vb aj,.bool ae])∧G5 fun F7=>(It (!ae) (Tcn P 90 #[nV l k n o p s f b g t,vi 152] I6 ((d a)::·) F7 fun e6 I7 G6=>∃(ak:Int) (al:Value),e6=.returned (.tuple #[vb ak,al])∧G6 fun F8=>Q (.returned (.tuple #[vb ak,al])) I7 F8) (Q (.returned (.tuple #[vb aj,Value.nilIface])) I6 F7)))) ((0≤(1:Int)∧(1:Int)<(3:Int))∧∃(m6:Int),Rd I1 ((d a)::F1) ((⟨e,0,none⟩:Addr).add (Int.toNat 1*1)) [vb m6]∧((0≤(0:Int)∧(0:Int)<(3:Int))∧∃(m7:Int),Rd I1 ((d a)::F1) ((⟨e,0,none⟩:Addr).add (Int.toNat 0*1)) [vb m7]∧(It (m7==5) ((0≤(1:Int)∧(1:Int)<(3:Int))∧∃(m8:Int),Rd I1 ((d a)::F1) ((⟨e,0,none⟩:Addr).add (Int.toNat 1*1)) [vb m8]∧((0≤(2:Int)∧(2:Int)<(3:Int))∧∃(m9:Int),Rd I1 ((d a)::F1) ((⟨e,0,none⟩:Addr).add (Int.toNat 2*1)) [vb m9]∧(It (!(m8==m9)) (Tcn P 90 #[nV l k n o p s f b g t,vi 152] I1 ((d a)::·) F1 fun e7 I8 G7=>∃(am:Int) (an:Value),e7=.returned (.tuple #[vb am,an])∧G7 fun F9=>Q (.returned (.tuple #[vb am,an])) I8 F9) (Q (.returned (.tuple #[vb m6,Value.nilIface])) I1 F1)))) (It true (Tcn P 90 #[nV l k n o p s f b g t,vi 152] I1 ((d a)::·) F1 fun e8 I9 G8=>∃(ao:Int) (ap:Value),e8=.returned (.tuple #[vb ao,ap])∧G8 fun F10=>Q (.returned (.tuple #[vb ao,ap])) I9 F10) (Q (.returned (.tuple #[vb m6,Value.nilIface])) I1 F1)))))))))
theorem types_scope_of.vc{c:Addr}{i j p r u:Int}{v:Bs}{d:OA}{e g:Nat}{w:Int}{I:Imm}{F:Heap}{Q:PostQ}(Inv8:OA→OA→Int→Value→Int→Nat→Imm→Heap→Imm→Heap→Prop)(h:types_scope_of.V (fun b=>(b,Obj.cells #[.int .u8 i,.int .u8 j,.int .u8 p,.int .i64 r,.int .u8 u,.string v,.slice d e g,.int .i64 w] 35 (0,0))) (fun b=>(b,Obj.cells #[.int .u8 0,.int .u8 0,.int .u8 0] 145 (0,0))) (fun k o t n f s a l c q=>.agg #[.int .u8 k,.int .u8 o,.int .u8 t,.int .i64 n,.int .u8 f,.string s,.slice a l c,.int .i64 q]) (fun k o t n f s a l c q=>.cells #[.int .u8 k,.int .u8 o,.int .u8 t,.int .i64 n,.int .u8 f,.string s,.slice a l c,.int .i64 q] 35 (0,0)) (.int .u8) (.int .i64) c i j p r u v d e g w I F Q Inv8):Tri P 45 #[.pointer (some c),.agg #[.int .u8 i,.int .u8 j,.int .u8 p,.int .i64 r,.int .u8 u,.string v,.slice d e g,.int .i64 w]] I F Q :=
 tw (A:=(annL [3000,6001,13004,14000,16000,19000,21001] [] [45,87,88,89,90] shT_y1 [(8,⟨[(4,(.int .u8)),(5,.any),(16,(.int .i64))],[],fun fs I0 F0 vs m I F=>match fs,vs with | [.pointer y0,.pointer y1],[.int _ y2,y3,.int _ y4]=>Inv8 y0 y1 y2 y3 y4 m I0 F0 I F | _,_=>False,[3,6],[]⟩)] [] [1000] [] [] [] [])) [45,87,88,89,90] func45 h
def types_scope_must.V(a:Nat→Nat×Obj)(vb vi:Int→Value)(c:Addr)(i j k l m:Int)(n:Bs)(e:OA)(f g:Nat)(h d:Int)(I:Imm)(F:Heap)(Q:PostQ)  : Prop:=∀b:Nat,Tcn P 45 (#[.pointer (some c),.agg #[vb i,vb j,vb k,vi l,vb m,.string n,.slice e f g,vi h]]) I ((a b)::·) F fun e1 I1 G1=>∃(r0:Int) (r1:Value),e1=.returned (.tuple #[vb r0,r1])∧G1 fun F1=>∃q:Bool,BinRun P .neq 38 (.tmp 16) (.const (Value.nilIface)) r1 Value.nilIface q∧(It q (Tcn P 32 #[vi 0,r1] I1 ((a b)::·) F1 fun e2 I2 G2=>∃(r:Value),e2=.returned r∧G2 fun F2=>Q (.returned r) I2 F2) (It (r0 != d) (Tcn P 32 (#[vi h,Value.iface 40 (vi 152)]) I1 ((a b)::·) F1 fun e3 I3 G3=>∃(r2:Value),e3=.returned r2∧G3 fun F3=>Q (.returned r2) I3 F3) (Q (.returned (Value.nilIface)) I1 F1)))
theorem types_scope_must.vc{c:Addr}{f g i j k:Int}{l:Bs}{a:OA}{d e:Nat}{m n:Int}{I:Imm}{F:Heap}{Q:PostQ}  (h:types_scope_must.V (fun b=>(b,Obj.cells #[.int .u8 f,.int .u8 g,.int .u8 i,.int .i64 j,.int .u8 k,.string l,.slice a d e,.int .i64 m] 35 (0,0))) (.int .u8) (.int .i64) c f g i j k l a d e m n I F Q):Tri P 65 #[.pointer (some c),.agg #[.int .u8 f,.int .u8 g,.int .u8 i,.int .i64 j,.int .u8 k,.string l,.slice a d e,.int .i64 m],.int .u8 n] I F Q :=
 tw (A:=(an [2001,4002] [32,45] shT_y1)) [32,45] func65 h
def types_scope_declared.V(ka:Nat→Bs→Int→Int→Int→Int→Int→Int→Bs→OA→Nat→Nat→Int→Int→Nat×Obj)(kb:Nat→Bs→OA→Nat→Nat→Int→Nat×Obj)(kc:Nat→Bs→Int→Nat×Obj)(a:Nat→Nat×Obj)(vb vi:Int→Value)(vs:Bs→Value)(vl:OA→Nat→Nat→Value)(wr:Int→Int)(c:Addr)(aB:Bs)(aj:OA)(af ay:Nat)(ak:OA)(ag az:Nat)(al:OA)(ah aA:Nat)(I:Imm)(F:Heap)(Q:PostQ)(Inv8:Option Nat→Value→Int→Nat→Imm→Heap→Imm→Heap→Prop)(Inv43:Value→Int→Nat→Imm→Heap→Imm→Heap→Prop)(Inv68:Value→Int→Nat→Imm→Heap→Imm→Heap→Prop):Prop:=∀b:Nat,TriE P (Instr.makeMap 124 none) I ((a b)::F) fun v I1 G1=>∃(r:Option Nat),v=.map r∧∃F1:Heap,List.Perm G1 ((a b)::F1)∧(∃m:Nat,Inv8 r Value.nilIface 0 m I1 F1 I1 F1)∧∀(x:Value) (x1:Int) (m1:Nat) (I2:Imm) (F2:Heap),Imm.le I1 I2→Inv8 r x x1 m1 I1 F1 I2 F2→(Dt (x1<(af:Int)) ((0≤x1∧x1<(af:Int))∧∃ad:Addr,aj=some ad∧∃(p:Bs) (q s t u w y:Int) (z:Bs) (d:OA) (e f:Nat) (aa g:Int),Rd I2 ((a b)::F2) (ad.add (Int.toNat x1*11)) [vs p,vb q,vb s,vb t,vb u,vi w,vb y,vs z,vl d e f,vi aa,vi g]∧∀ac:Nat,TriE P (Instr.lookup 124 (.map r) (vs p) false) I2 ((a b)::(ka ac p q s t u w y z d e f aa g)::F2) fun v1 I3 G2=>∃(r1:Int),v1=vi r1∧∃F3:Heap,List.Perm G2 ((a b)::(ka ac p q s t u w y z d e f aa g)::F3)∧TriU P (Instr.mapUpdate 124 (.map r) (vs p) (vi (wr (r1+1)))) I3 ((a b)::(ka ac p q s t u w y z d e f aa g)::F3) fun I4 G3=>∃F4:Heap,List.Perm G3 ((a b)::(ka ac p q s t u w y z d e f aa g)::F4)∧TriE P (Instr.lookup 124 (.map r) (vs p) false) I4 ((a b)::(ka ac p q s t u w y z d e f aa g)::F4) fun v2 I5 G4=>∃(r2:Int),v2=vi r2∧∃F5:Heap,List.Perm G4 ((a b)::(ka ac p q s t u w y z d e f aa g)::F5)∧(Dt (r2>1) (Tcn P 32 (#[vi g,Value.iface 40 (vi 150)]) I5 ((a b)::(ka ac p q s t u w y z d e f aa g)::·) F5 fun e1 I6 G5=>∃(r3:Value),e1=.returned r3∧G5 fun F6=>Q (.returned r3) I6 F6) (Tcn P 45 (#[.pointer (some c),.agg #[vb s,vb t,vb u,vi w,vb y,vs z,vl d e f,vi aa]]) I5 ((a b)::(ka ac p q s t u w y z d e f aa g)::·) F5 fun e2 I7 G6=>∃(r0:Int) (ax:Value),e2=.returned (.tuple #[vb r0,ax])∧G6 fun F7=>(It (r0 != q) (Tcn P 32 (#[vi g,Value.iface 40 (vi 152)]) I7 ((a b)::(ka ac p q s t u w y z d e f aa g)::·) F7 fun e3 I8 G7=>∃(r4:Value),e3=.returned r4∧G7 fun F8=>Q (.returned r4) I8 F8) (∃m2:Nat,m2<m1∧Inv8 r x (wr (x1+1)) m2 I1 F1 I7 F7))))) ((∃m3:Nat,Inv43 x 0 m3 I2 F2 I2 F2)∧∀(x2:Value) (x3:Int) (m4:Nat) (I9:Imm) (F9:Heap),Imm.le I2 I9→Inv43 x2 x3 m4 I2 F2 I9 F9→(Dt (x3<(ag:Int)) ((0≤x3∧x3<(ag:Int))∧∃ao:Addr,ak=some ao∧∃(h:Bs) (n:Int),Rd I9 ((a b)::F9) (ao.add (Int.toNat x3*2)) [vs h,vi n]∧∀ae:Nat,∃ap:Addr,some c=some ap∧∃(m5:Option Nat),Rd I9 ((a b)::(kc ae h n)::F9) (ap.add 1) [.map m5]∧TriE P (Instr.lookup 124 (.map m5) (vs h) false) I9 ((a b)::(kc ae h n)::F9) fun v3 I10 G8=>∃(r5:Int),v3=vi r5∧∃F10:Heap,List.Perm G8 ((a b)::(kc ae h n)::F10)∧TriU P (Instr.mapUpdate 124 (.map m5) (vs h) (vi (wr (r5+1)))) I10 ((a b)::(kc ae h n)::F10) fun I11 G9=>∃F11:Heap,List.Perm G9 ((a b)::(kc ae h n)::F11)∧∃aq:Addr,some c=some aq∧∃(m6:Option Nat),Rd I11 ((a b)::(kc ae h n)::F11) (aq.add 1) [.map m6]∧TriE P (Instr.lookup 124 (.map m6) (vs h) false) I11 ((a b)::(kc ae h n)::F11) fun v4 I12 G10=>∃(r6:Int),v4=vi r6∧∃F12:Heap,List.Perm G10 ((a b)::(kc ae h n)::F12)∧(Dt (r6>1) (Tcn P 32 (#[vi n,Value.iface 40 (vi 150)]) I12 ((a b)::(kc ae h n)::·) F12 fun e4 I13 G11=>∃(r7:Value),e4=.returned r7∧G11 fun F13=>Q (.returned r7) I13 F13) (∃m7:Nat,m7<m4∧Inv43 x2 (wr (x3+1)) m7 I2 F2 I12 F12))) ((∃m8:Nat,Inv68 x2 0 m8 I9 F9 I9 F9)∧∀(x4:Value) (x5:Int) (m9:Nat) (I14:Imm) (F14:Heap),Imm.le I9 I14→Inv68 x4 x5 m9 I9 F9 I14 F14→(Dt (x5<(ah:Int)) ((0≤x5∧x5<(ah:Int))∧∃ar:Addr,al=some ar∧∃(i:Bs) (j:OA) (k l:Nat) (o:Int),Rd I14 ((a b)::F14) (ar.add (Int.toNat x5*3)) [vs i,vl j k l,vi o]∧∀ab:Nat,∃au:Addr,some c=some au∧∃(ai:Option Nat),Rd I14 ((a b)::(kb ab i j k l o)::F14) (au.add 2) [.map ai]∧TriE P (Instr.lookup 124 (.map ai) (vs i) false) I14 ((a b)::(kb ab i j k l o)::F14) fun v5 I15 G12=>∃(r8:Int),v5=vi r8∧∃F15:Heap,List.Perm G12 ((a b)::(kb ab i j k l o)::F15)∧TriU P (Instr.mapUpdate 124 (.map ai) (vs i) (vi (wr (r8+1)))) I15 ((a b)::(kb ab i j k l o)::F15) fun I16 G13=>∃F16:Heap,List.Perm G13 ((a b)::(kb ab i j k l o)::F16)∧∃av:Addr,some c=some av∧∃(am:Option Nat),Rd I16 ((a b)::(kb ab i j k l o)::F16) (av.add 2) [.map am]∧TriE P (Instr.lookup 124 (.map am) (vs i) false) I16 ((a b)::(kb ab i j k l o)::F16) fun v6 I17 G14=>∃(r9:Int),v6=vi r9∧∃F17:Heap,List.Perm G14 ((a b)::(kb ab i j k l o)::F17)∧(Dt (r9>1) (Tcn P 32 (#[vi o,Value.iface 40 (vi 150)]) I17 ((a b)::(kb ab i j k l o)::·) F17 fun e5 I18 G15=>∃(an:Value),e5=.returned an∧G15 fun F18=>Q (.returned an) I18 F18) (∃aw:Nat,aw<m9∧Inv68 x4 (wr (x5+1)) aw I9 F9 I17 F17))) (Q (.returned (Value.nilIface)) I14 F14))))))
theorem types_scope_declared.vc{c:Addr}{w:Bs}{n:OA}{o p:Nat}{q:OA}{r s:Nat}{t:OA}{u v:Nat}{I:Imm}{F:Heap}{Q:PostQ}(Inv8:Option Nat→Value→Int→Nat→Imm→Heap→Imm→Heap→Prop)(Inv43:Value→Int→Nat→Imm→Heap→Imm→Heap→Prop)(Inv68:Value→Int→Nat→Imm→Heap→Imm→Heap→Prop)(h:types_scope_declared.V (fun W a b c d e f g h i j k l m=>(W,Obj.cells #[.string a,.int .u8 b,.int .u8 c,.int .u8 d,.int .u8 e,.int .i64 f,.int .u8 g,.string h,.slice i j k,.int .i64 l,.int .i64 m] 68 (0,0))) (fun W a b c d e=>(W,Obj.cells #[.string a,.slice b c d,.int .i64 e] 74 (0,0))) (fun W a b=>(W,Obj.cells #[.string a,.int .i64 b] 71 (0,0))) (fun b=>(b,Obj.cells #[.string w,.slice n o p,.slice q r s,.slice t u v] 26 (0,0))) (.int .u8) (.int .i64) .string .slice (IntKind.wrap .i64) c w n o p q r s t u v I F Q Inv8 Inv43 Inv68):Tri P 34 #[.pointer (some c),.agg #[.string w,.slice n o p,.slice q r s,.slice t u v]] I F Q :=
 tw (A:=(annL [3000,6004,9003,13000,16007,20000,23007] [] [32,45] shT_y1 [(8,⟨[(4,.any),(18,(.int .i64))],[],fun fs I0 F0 vs m I F=>match fs,vs with | [.map y0],[y1,.int _ y2]=>Inv8 y0 y1 y2 m I0 F0 I F | _,_=>False,[5],[]⟩),(43,⟨[(4,.any),(55,(.int .i64))],[],fun fs I0 F0 vs m I F=>match fs,vs with | [],[y0,.int _ y1]=>Inv43 y0 y1 m I0 F0 I F | _,_=>False,[],[]⟩),(68,⟨[(4,.any),(83,(.int .i64))],[],fun fs I0 F0 vs m I F=>match fs,vs with | [],[y0,.int _ y1]=>Inv68 y0 y1 m I0 F0 I F | _,_=>False,[],[]⟩)] [] [] [] [] [(15,[0,1,2,4,3,5,6,7,8]),(16,[0,1,2,4,3,5,6,7]),(22,[0,1,2,4,3,5,6,7,8]),(23,[0,1,2,4,3,5,6,7])] [])) [32,45] func34 h
def types_scope_do.V(a:Nat→Nat×Obj)(vb vi:Int→Value)(vs:Bs→Value)(vl:OA→Nat→Nat→Value)(c:Addr)(h aS:Int)(p:Bs)(a9 ba bb bc bd:Int)(be:Bs)(aO:OA)(aP aQ:Nat)(a0 aj ak al am an:Int)(ao:Bs)(s:OA)(t u:Nat)(ap aq ar au av aw:Int)(ax:Bs)(w:OA)(y z:Nat)(ay a1 a2 a3 a4 a5:Int)(a6:Bs)(az:OA)(aA aB:Nat)(a7 a8:Int)(I:Imm)(F:Heap)(Q:PostQ)(Inv9:Int→Bool→OA→Nat→Nat→Imm→Heap→Imm→Heap→Prop)(Inv18:OA→Nat→Nat→Imm→Heap→Imm→Heap→Prop)(Inv64:OA→Nat→Nat→Value→Int→Nat→Imm→Heap→Imm→Heap→Prop):Prop:=∀d:Nat,((It (h==1) (∀(b:Nat) (I1:Imm),Imm.le I I1→I1 b=some (Obj.cells #[vb a9,vb ba,vb bb,vi bc,vb bd,vs be,vl aO aP aQ,vi a0,vb 6,vb aj,vb ak,vb al,vi am,vb an,vs ao,vl s t u,vi ap,vb 2] 178 (0,0))→TriE P (Builtin.append_ #[176,176] 176 #[vl none 0 0,vl (some ⟨b,0,none⟩) 2 2]) I1 ((a d)::F) fun v I2 G1=>∃(aC:OA) (aD aE:Nat),v=vl aC aD aE∧∃F1:Heap,List.Perm G1 ((a d)::F1)∧((It (aS != 2) (∀(b1:Nat) (I3:Imm),Imm.le I2 I3→I3 b1=some (Obj.cells #[vb aq,vb ar,vb au,vi av,vb aw,vs ax,vl w y z,vi ay,vb 3] 178 (0,0))→TriE P (Builtin.append_ #[176,176] 176 #[vl aC aD aE,vl (some ⟨b1,0,none⟩) 1 1]) I3 ((a d)::F1) fun v1 I4 G2=>∃(aF:OA) (aG aH:Nat),v1=vl aF aG aH∧∃F2:Heap,List.Perm G2 ((a d)::F2)∧Inv18 aF aG aH I2 F1 I4 F2) (Inv18 aC aD aE I2 F1 I2 F1)))∧∀(i:OA) (j k:Nat) (I5:Imm) (F3:Heap),Imm.le I2 I5→Inv18 i j k I2 F1 I5 F3→(It (p.toList==(⟨#[]⟩:Bs).toList) (Inv9 5 true i j k I F I5 F3) (∃ad:Addr,some c=some ad∧∃(m:Option Nat),Rd I5 ((a d)::F3) (ad.add 1) [.map m]∧TriE P (Instr.lookup 124 (.map m) (vs p) false) I5 ((a d)::F3) fun v2 I6 G3=>∃(r:Int),v2=vi r∧∃F4:Heap,List.Perm G3 ((a d)::F4)∧Inv9 5 (decide (r>0)) i j k I F I6 F4))) (It (h==2) (∀(b2:Nat) (I7:Imm),Imm.le I I7→I7 b2=some (Obj.cells #[vb aj,vb ak,vb al,vi am,vb an,vs ao,vl s t u,vi ap,vb 2,vb aq,vb ar,vb au,vi av,vb aw,vs ax,vl w y z,vi ay,vb 3] 178 (0,0))→TriE P (Builtin.append_ #[176,176] 176 #[vl none 0 0,vl (some ⟨b2,0,none⟩) 2 2]) I7 ((a d)::F) fun v3 I8 G4=>∃(aI:OA) (aJ aK:Nat),v3=vl aI aJ aK∧∃F5:Heap,List.Perm G4 ((a d)::F5)∧∃aU:Addr,some c=some aU∧∃(m1:Option Nat),Rd I8 ((a d)::F5) (aU.add 1) [.map m1]∧TriE P (Instr.lookup 124 (.map m1) (vs p) false) I8 ((a d)::F5) fun v4 I9 G5=>∃(r1:Int),v4=vi r1∧∃F6:Heap,List.Perm G5 ((a d)::F6)∧Inv9 5 (decide (r1>0)) aI aJ aK I F I9 F6) (It (h==3) (∃aV:Addr,some c=some aV∧∃(m2:Option Nat),Rd I ((a d)::F) (aV.add 1) [.map m2]∧TriE P (Instr.lookup 124 (.map m2) (vs p) false) I ((a d)::F) fun v5 I10 G6=>∃(r2:Int),v5=vi r2∧∃F7:Heap,List.Perm G6 ((a d)::F7)∧Inv9 5 (decide (r2>0)) none 0 0 I F I10 F7) (It (h==4) (∃aW:Addr,some c=some aW∧∃(m3:Option Nat),Rd I ((a d)::F) (aW.add 0) [.map m3]∧TriE P (Instr.lookup 123 (.map m3) (vs p) true) I ((a d)::F) fun v6 I11 G7=>∃(r0:Int) (aT:Bool),v6=.tuple #[vb r0,.bool aT]∧∃F8:Heap,List.Perm G7 ((a d)::F8)∧∀(b3:Nat) (I12:Imm),Imm.le I11 I12→I12 b3=some (Obj.cells #[vb a1,vb a2,vb a3,vi a4,vb a5,vs a6,vl az aA aB,vi a7,vb r0] 178 (0,0))→TriE P (Builtin.append_ #[176,176] 176 #[vl none 0 0,vl (some ⟨b3,0,none⟩) 1 1]) I12 ((a d)::F8) fun v7 I13 G8=>∃(aL:OA) (aM aN:Nat),v7=vl aL aM aN∧∃F9:Heap,List.Perm G8 ((a d)::F9)∧Inv9 r0 aT aL aM aN I F I13 F9) (It (h==5) (∃aX:Addr,some c=some aX∧∃(m4:Option Nat),Rd I ((a d)::F) (aX.add 2) [.map m4]∧TriE P (Instr.lookup 124 (.map m4) (vs p) false) I ((a d)::F) fun v8 I14 G9=>∃(r3:Int),v8=vi r3∧∃F10:Heap,List.Perm G9 ((a d)::F10)∧Inv9 5 (decide (r3>0)) none 0 0 I F I14 F10) (Inv9 5 true none 0 0 I F I F)))))))∧∀(aR:Int) (is:Bool) (f:OA) (e g:Nat) (I15:Imm) (F11:Heap),Imm.le I I15→Inv9 aR is f e g I F I15 F11→(It (!is) (Tcn P 32 (#[vi a8,Value.iface 40 (vi 151)]) I15 ((a d)::·) F11 fun e1 I16 G10=>∃(r4:Value),e1=.returned r4∧G10 fun F12=>Q (.returned r4) I16 F12) ((∃m5:Nat,Inv64 f e g Value.nilIface 0 m5 I15 F11 I15 F11)∧∀(x:Value) (x1:Int) (m6:Nat) (I17:Imm) (F13:Heap),Imm.le I15 I17→Inv64 f e g x x1 m6 I15 F11 I17 F13→(Dt (x1<(e:Int)) ((0≤x1∧x1<(e:Int))∧∃aY:Addr,f=some aY∧∃(aa ab ac ae af:Int) (ag:Bs) (l:OA) (n o:Nat) (ah ai:Int),Rd I17 ((a d)::F13) (aY.add (Int.toNat x1*9)) [vb aa,vb ab,vb ac,vi ae,vb af,vs ag,vl l n o,vi ah,vb ai]∧∀aZ:Nat,Tcn P 65 (#[.pointer (some c),.agg #[vb aa,vb ab,vb ac,vi ae,vb af,vs ag,vl l n o,vi ah],vb ai]) I17 ((a d)::(aZ,Obj.cells #[vb aa,vb ab,vb ac,vi ae,vb af,vs ag,vl l n o,vi ah,vb ai] 178 (0,0))::·) F13 fun e2 I18 G11=>∃(r5:Value),e2=.returned r5∧G11 fun F14=>∃q:Bool,BinRun P .neq 38 (.tmp 120) (.const (Value.nilIface)) r5 Value.nilIface q∧(It q (Q (.returned r5) I18 F14) (∃m7:Nat,m7<m6∧Inv64 f e g x (IntKind.wrap .i64 (x1+1)) m7 I15 F11 I18 F14))) (Q (.returned (Value.nilIface)) I17 F13))))
theorem types_scope_do.vc{c:Addr}{an ao:Int}{ap:Bs}{aq ar au av aw:Int}{ax:Bs}{n:OA}{o p:Nat}{q r s t u v:Int}{w:Bs}{a:OA}{d e:Nat}{x y z aa ab ac:Int}{ad:Bs}{f:OA}{g i:Nat}{ae af ag ah ai aj:Int}{ak:Bs}{j:OA}{k l:Nat}{al am:Int}{I:Imm}{F:Heap}{Q:PostQ}(Inv9:Int→Bool→OA→Nat→Nat→Imm→Heap→Imm→Heap→Prop)(Inv18:OA→Nat→Nat→Imm→Heap→Imm→Heap→Prop)(Inv64:OA→Nat→Nat→Value→Int→Nat→Imm→Heap→Imm→Heap→Prop)(h:types_scope_do.V (fun b=>(b,Obj.cells #[.int .u8 an,.int .u8 ao,.string ap,.int .u8 aq,.int .u8 ar,.int .u8 au,.int .i64 av,.int .u8 aw,.string ax,.slice n o p,.int .i64 q,.int .u8 r,.int .u8 s,.int .u8 t,.int .i64 u,.int .u8 v,.string w,.slice a d e,.int .i64 x,.int .u8 y,.int .u8 z,.int .u8 aa,.int .i64 ab,.int .u8 ac,.string ad,.slice f g i,.int .i64 ae,.int .u8 af,.int .u8 ag,.int .u8 ah,.int .i64 ai,.int .u8 aj,.string ak,.slice j k l,.int .i64 al,.int .i64 am] 95 (0,0))) (.int .u8) (.int .i64) .string .slice c an ao ap aq ar au av aw ax n o p q r s t u v w a d e x y z aa ab ac ad f g i ae af ag ah ai aj ak j k l al am I F Q Inv9 Inv18 Inv64):Tri P 66 #[.pointer (some c),.agg #[.int .u8 an,.int .u8 ao,.string ap,.int .u8 aq,.int .u8 ar,.int .u8 au,.int .i64 av,.int .u8 aw,.string ax,.slice n o p,.int .i64 q,.int .u8 r,.int .u8 s,.int .u8 t,.int .i64 u,.int .u8 v,.string w,.slice a d e,.int .i64 x,.int .u8 y,.int .u8 z,.int .u8 aa,.int .i64 ab,.int .u8 ac,.string ad,.slice f g i,.int .i64 ae,.int .u8 af,.int .u8 ag,.int .u8 ah,.int .i64 ai,.int .u8 aj,.string ak,.slice j k l,.int .i64 al,.int .i64 am]] I F Q :=
 tw (A:=(annL [4000,6002,8002,10000,13000,15000,18000,20001,23000,26001] [] [32,65] shT_y1 [(9,⟨[(5,(.int .u8)),(6,.bool),(7,.slc)],[],fun fs I0 F0 vs m I F=>match fs,vs with | [],[.int _ y0,.bool y1,.slice y2 y3 y4]=>Inv9 y0 y1 y2 y3 y4 I0 F0 I F | _,_=>False,[],[]⟩),(18,⟨[(7,.slc)],[],fun fs I0 F0 vs m I F=>match fs,vs with | [],[.slice y0 y1 y2]=>Inv18 y0 y1 y2 I0 F0 I F | _,_=>False,[],[]⟩),(64,⟨[(4,.any),(110,(.int .i64))],[],fun fs I0 F0 vs m I F=>match fs,vs with | [.slice y0 y1 y2],[y3,.int _ y4]=>Inv64 y0 y1 y2 y3 y4 m I0 F0 I F | _,_=>False,[7],[]⟩)] [5007,7004,11007,17005] [] [] [] [(9,[0,1,2,4,3,5,6,7,8]),(12,[0,1,2,4,3,5,6,7,8]),(14,[0,1,2,4,3,5,6,7,8]),(16,[0,1,2,4,3,5,6,7,8,9,10,11]),(19,[0,1,2,4,3,5,6,7,8])] [])) [32,65] func66 h
def types_scope_rule.V(ka:Nat→Int→Int→Bs→Int→Int→Int→Int→Int→Bs→OA→Nat→Nat→Int→Int→Int→Int→Int→Int→Bs→OA→Nat→Nat→Int→Int→Int→Int→Int→Int→Bs→OA→Nat→Nat→Int→Int→Int→Int→Int→Int→Bs→OA→Nat→Nat→Int→Int→Nat×Obj)(ap:Nat→Nat×Obj)(vb vi:Int→Value)(vs:Bs→Value)(vl:OA→Nat→Nat→Value)(wr:Int→Int)(c:Addr)(aJ aK aL aM aN:Int)(aO:Bs)(aF:OA)(aG aH:Nat)(aP:Int)(aE:OA)(aC aQ:Nat)(aR:Int)(I:Imm)(F:Heap)(Q:PostQ)(Inv16:Value→Int→Nat→Imm→Heap→Prop):Prop:=∀aB:Nat,Tcn P 65 (#[.pointer (some c),.agg #[vb aJ,vb aK,vb aL,vi aM,vb aN,vs aO,vl aF aG aH,vi aP],vb 5]) I ((ap aB)::·) F fun e1 I1 G1=>∃(r:Value),e1=.returned r∧G1 fun F1=>∃q:Bool,BinRun P .neq 38 (.tmp 13) (.const (Value.nilIface)) r Value.nilIface q∧(It q (Q (.returned r) I1 F1) ((∃m:Nat,Inv16 Value.nilIface 0 m I1 F1)∧∀(x:Value) (x1:Int) (m1:Nat) (I2:Imm) (F2:Heap),Imm.le I1 I2→Inv16 x x1 m1 I2 F2→(Dt (x1<(aC:Int)) ((0≤x1∧x1<(aC:Int))∧∃ad:Addr,aE=some ad∧∃(aq ar:Int) (au:Bs) (av aw ax ay az:Int) (aA:Bs) (k:OA) (l n:Nat) (p s t u v w:Int) (y:Bs) (a:OA) (b d:Nat) (z aa ab ac ae af:Int) (ag:Bs) (e:OA) (f g:Nat) (ah ai aj ak al am:Int) (an:Bs) (h:OA) (i j:Nat) (ao o:Int),Rd I2 ((ap aB)::F2) (ad.add (Int.toNat x1*36)) [vb aq,vb ar,vs au,vb av,vb aw,vb ax,vi ay,vb az,vs aA,vl k l n,vi p,vb s,vb t,vb u,vi v,vb w,vs y,vl a b d,vi z,vb aa,vb ab,vb ac,vi ae,vb af,vs ag,vl e f g,vi ah,vb ai,vb aj,vb ak,vi al,vb am,vs an,vl h i j,vi ao,vi o]∧∀aD:Nat,(Dt (x1>0) ((0≤(wr (x1-1))∧(wr (x1-1))<(aC:Int))∧∃aI:Addr,aE=some aI∧∃(m2:Int),Rd I2 ((ap aB)::(ka aD aq ar au av aw ax ay az aA k l n p s t u v w y a b d z aa ab ac ae af ag e f g ah ai aj ak al am an h i j ao o)::F2) ((aI.add (Int.toNat (wr (x1-1))*36)).add 0) [vb m2]∧(Dt (m2≥5) (Tcn P 32 (#[vi o,Value.iface 40 (vi 153)]) I2 ((ap aB)::(ka aD aq ar au av aw ax ay az aA k l n p s t u v w y a b d z aa ab ac ae af ag e f g ah ai aj ak al am an h i j ao o)::·) F2 fun e2 I3 G2=>∃(r1:Value),e2=.returned r1∧G2 fun F3=>Q (.returned r1) I3 F3) (Tcn P 66 (#[.pointer (some c),.agg #[vb aq,vb ar,vs au,vb av,vb aw,vb ax,vi ay,vb az,vs aA,vl k l n,vi p,vb s,vb t,vb u,vi v,vb w,vs y,vl a b d,vi z,vb aa,vb ab,vb ac,vi ae,vb af,vs ag,vl e f g,vi ah,vb ai,vb aj,vb ak,vi al,vb am,vs an,vl h i j,vi ao,vi o]]) I2 ((ap aB)::(ka aD aq ar au av aw ax ay az aA k l n p s t u v w y a b d z aa ab ac ae af ag e f g ah ai aj ak al am an h i j ao o)::·) F2 fun e3 I4 G3=>∃(r2:Value),e3=.returned r2∧G3 fun F4=>∃q1:Bool,BinRun P .neq 38 (.tmp 43) (.const (Value.nilIface)) r2 Value.nilIface q1∧(It q1 (Q (.returned r2) I4 F4) (∃m3:Nat,m3<m1∧Inv16 x (wr (x1+1)) m3 I4 F4))))) (Tcn P 66 (#[.pointer (some c),.agg #[vb aq,vb ar,vs au,vb av,vb aw,vb ax,vi ay,vb az,vs aA,vl k l n,vi p,vb s,vb t,vb u,vi v,vb w,vs y,vl a b d,vi z,vb aa,vb ab,vb ac,vi ae,vb af,vs ag,vl e f g,vi ah,vb ai,vb aj,vb ak,vi al,vb am,vs an,vl h i j,vi ao,vi o]]) I2 ((ap aB)::(ka aD aq ar au av aw ax ay az aA k l n p s t u v w y a b d z aa ab ac ae af ag e f g ah ai aj ak al am an h i j ao o)::·) F2 fun e4 I5 G4=>∃(r3:Value),e4=.returned r3∧G4 fun F5=>∃q2:Bool,BinRun P .neq 38 (.tmp 43) (.const (Value.nilIface)) r3 Value.nilIface q2∧(It q2 (Q (.returned r3) I5 F5) (∃m4:Nat,m4<m1∧Inv16 x (wr (x1+1)) m4 I5 F5))))) (Q (.returned (Value.nilIface)) I2 F2))))
theorem types_scope_rule.vc{c:Addr}{aA aB aC aD aE:Int}{aF:Bs}{au:OA}{av aw:Nat}{aG:Int}{ax:OA}{ay az:Nat}{aH:Int}{I:Imm}{F:Heap}{Q:PostQ}(Inv16:Value→Int→Nat→Imm→Heap→Prop)(h:types_scope_rule.V (fun W a b c d e f g h i j k l m n o p q r s t u v w x y z aa ab ac ad ae af ag ah ai aj ak al am an ao ap aq ar=>(W,Obj.cells #[.int .u8 a,.int .u8 b,.string c,.int .u8 d,.int .u8 e,.int .u8 f,.int .i64 g,.int .u8 h,.string i,.slice j k l,.int .i64 m,.int .u8 n,.int .u8 o,.int .u8 p,.int .i64 q,.int .u8 r,.string s,.slice t u v,.int .i64 w,.int .u8 x,.int .u8 y,.int .u8 z,.int .i64 aa,.int .u8 ab,.string ac,.slice ad ae af,.int .i64 ag,.int .u8 ah,.int .u8 ai,.int .u8 aj,.int .i64 ak,.int .u8 al,.string am,.slice an ao ap,.int .i64 aq,.int .i64 ar] 95 (0,0))) (fun b=>(b,Obj.cells #[.int .u8 aA,.int .u8 aB,.int .u8 aC,.int .i64 aD,.int .u8 aE,.string aF,.slice au av aw,.int .i64 aG,.slice ax ay az,.int .i64 aH] 87 (0,0))) (.int .u8) (.int .i64) .string .slice (IntKind.wrap .i64) c aA aB aC aD aE aF au av aw aG ax ay az aH I F Q Inv16):Tri P 35 #[.pointer (some c),.agg #[.int .u8 aA,.int .u8 aB,.int .u8 aC,.int .i64 aD,.int .u8 aE,.string aF,.slice au av aw,.int .i64 aG,.slice ax ay az,.int .i64 aH]] I F Q :=
 tw (A:=(annL [2001,5000,7001,7010,10001] [] [32,65,66] shT_y1 [(16,⟨[(4,.any),(19,(.int .i64))],[],fun _ _ _ vs m I F=>match vs with | [y0,.int _ y1]=>Inv16 y0 y1 m I F | _=>False,[],[]⟩)] [] [] [] [] [] [])) [32,65,66] func35 h
end Go.Lx
namespace Go.Vc
def RetV(R:Value→Imm→Prop)(F:Heap)(e:Ending)(I:Imm)(G:Heap):Prop:=∃v,e=.returned v∧R v I∧G=F
theorem Sat.still:∀(H:Heap) {I:Imm} {F:Heap} {w:World},Sat I (H++F) w→∃J,Imm.le I J∧(∀x∈H,J x.1=some x.2)∧Sat J F w
 | [],I,F,w,h=>⟨I,Imm.le_refl I,fun x hx=>absurd hx (by simp),h⟩
 | (b,o)::H,I,F,w,h=>by
   obtain⟨h1,h2⟩:=Sat.promote (b:=b) (o:=o) h
   obtain⟨J,g1,g2,g3⟩:=Sat.still H h2
   refine⟨J,Imm.le_trans h1 g1,fun x hx=>?_,g3⟩
   rcases List.mem_cons.1 hx with rfl | hx
   ·exact g1.at (by simp[Imm.put])
   ·exact g2 x hx
section
variable {P:Program} {f:FuncId} {args:Array Value} {I:Imm} {F:Heap} {R:Value→Imm→Prop}
theorem Tri.still(h:Tri P f args I F fun e I' G=>∃v H,e=.returned v∧G.Perm (H++F)∧∀J,Imm.le I' J→(∀x∈H,J x.1=some x.2)→R v J):Tri P f args I F (RetV R F) :=
 h.keep fun e I' G w hl hs ⟨v,H,he,hp,hk⟩=>by
  obtain⟨J,g1,g2,g3⟩:=Sat.still H (hs.perm hp)
  exact⟨J,F,g1,g3,v,he,hk J g1 g2,rfl⟩
theorem Tri.retV{Q:Ending→Imm→Heap→Prop}(h:Tri P f args I F (RetV R F))(k:∀v I',Imm.le I I'→R v I'→Q (.returned v) I' F):Tri P f args I F Q :=
 h.mono fun e I' G hl ⟨v,he,hr,hG⟩=>by subst he hG;exact k v I' hl hr
end
def ifaceT(P:Program)(t:TypeId):Bool:=match P.underlying t with
 | some (.interface _)=>true
 | _=>false
theorem ifaceT_at{P:Program}{t:TypeId}(h:ifaceT P t=true):∃ms,P.underlying t=some (.interface ms):=by
 unfold ifaceT at h
 split at h
 ·rename_i ht;exact⟨_,ht⟩
 ·cases h
theorem nil_nil{P:Program}{t:TypeId}(h:ifaceT P t=true){x:Operand}:BinRun P .neq t x (.const .nilIface) .nilIface .nilIface false:=by
 obtain⟨ms,ht⟩:=ifaceT_at h
 intro w
 have he:(Op.equal t .nilIface .nilIface).run P w=.ok true w:=by
  show (Op.equalIn (9999+1) t .nilIface .nilIface).run P w=_
  unfold Op.equalIn
  simp[Sem.run_bind,underlying_run ht]
 simp[eqGuard,binOp,Sem.run_bind,he]
theorem some_nil{P:Program}{t:TypeId}(h:ifaceT P t=true){x:Operand}{d:TypeId}{v:Value}:BinRun P .neq t x (.const .nilIface) (.iface d v) .nilIface true:=by
 obtain⟨ms,ht⟩:=ifaceT_at h
 intro w
 have he:(Op.equal t (.iface d v) .nilIface).run P w=.ok false w:=by
  show (Op.equalIn (9999+1) t (.iface d v) .nilIface).run P w=_
  unfold Op.equalIn
  simp[Sem.run_bind,underlying_run ht]
 simp[eqGuard,binOp,Sem.run_bind,he]
theorem nil_nil'{P:Program}{t:TypeId}(h:ifaceT P t=true){x:Operand}:BinRun P .eql t x (.const .nilIface) .nilIface .nilIface true:=by
 obtain⟨ms,ht⟩:=ifaceT_at h
 intro w
 have he:(Op.equal t .nilIface .nilIface).run P w=.ok true w:=by
  show (Op.equalIn (9999+1) t .nilIface .nilIface).run P w=_
  unfold Op.equalIn
  simp[Sem.run_bind,underlying_run ht]
 simp[eqGuard,binOp,Sem.run_bind,he]
theorem some_nil'{P:Program}{t:TypeId}(h:ifaceT P t=true){x:Operand}{d:TypeId}{v:Value}:BinRun P .eql t x (.const .nilIface) (.iface d v) .nilIface false:=by
 obtain⟨ms,ht⟩:=ifaceT_at h
 intro w
 have he:(Op.equal t (.iface d v) .nilIface).run P w=.ok false w:=by
  show (Op.equalIn (9999+1) t (.iface d v) .nilIface).run P w=_
  unfold Op.equalIn
  simp[Sem.run_bind,underlying_run ht]
 simp[eqGuard,binOp,Sem.run_bind,he]
end Go.Vc
namespace Go.Lx
open Go.Vc
def callOf:ByteArray:=⟨#[79,102]⟩
def callCheck:ByteArray:=⟨#[67,104,101,99,107]⟩
abbrev errno(e:Int):Value:=.iface 40 (.int .i64 e)
def Flr(I:Imm)(call:ByteArray)(pos:Int)(err v:Value):Prop:=∃b,v=.iface 59 (.pointer (some ⟨b,0,none⟩))∧I b=some (.cells #[.string call,.int .i64 pos,err] 63 (0,0))
theorem Flr.mono{I J:Imm}{call:ByteArray}{pos:Int}{err v:Value}(h:Flr I call pos err v)(hl:Imm.le I J):Flr J call pos err v:=let ⟨b,h1,h2⟩:=h;⟨b,h1,hl.at h2⟩
def OfE(I:Imm)(f:TF)(w:Value):Prop:=(f.e=0→w=.nilIface)∧(f.e≠0→Flr I callOf f.pos (errno f.e) w)
theorem OfE.mono{I J:Imm}{f:TF}{w:Value}(h:OfE I f w)(hl:Imm.le I J):OfE J f w:=⟨h.1,fun he=>(h.2 he).mono hl⟩
theorem OfE.ok{I:Imm}:OfE I zTF .nilIface:=⟨fun _=>rfl,fun h=>absurd rfl h⟩
def OfV(r:Int×TF)(v:Value)(I:Imm):Prop:=∃w,v=.tuple #[.int .u8 r.1,w]∧OfE I r.2 w
theorem OfE.neq{I:Imm}{f:TF}{w:Value}(h:OfE I f w){t:TypeId}(ht:ifaceT P t=true){x:Operand}:BinRun P .neq t x (.const .nilIface) w .nilIface (f.e != 0):=by
 by_cases he:f.e=0
 ·rw[h.1 he,he];exact nil_nil ht
 ·obtain⟨b,hw,_⟩:=h.2 he
  rw[hw,show (f.e != 0)=true by simpa using he];exact some_nil ht
theorem tnum_spec(t:Int)(I:Imm)(F:Heap):Tri P 117 #[.int .u8 t] I F (Ret (.bool (numT t)) F):=by
 refine types_number.vc ⟨fun h=>⟨?_,rfl⟩,fun h=>⟨?_,rfl⟩⟩<;>simp[numT] at h ⊢<;>omega
theorem twrong_spec(t:Nd)(e:Int)(I:Imm)(F:Heap)(he:e≠0)(b:Bool):Tri P 90 #[t.v,.int .i64 e] I F (RetV (OfV (0,⟨e,t.pos,b⟩)) F):=by
 refine Tri.still (types_wrong.vc ?_)
 unfold types_wrong.V
 intro b_n b1
 refine⟨_,[(b1,.cells #[.string callOf,.int .i64 t.pos,errno e] 63 (0,0))],rfl,.refl _,fun J hJ hx=>⟨_,rfl,fun h=>absurd h he,fun _=>⟨b1,rfl, ?_⟩⟩⟩
 exact hx _ (List.mem_singleton.2 rfl)
def oneT(k o typ a:Int):Int:=if k=9 then (if numT a then typ else 0) else if o=2∧a=5∨o≠2∧numT a then a else 0
theorem tone_spec(t:Nd)(a:Int)(I:Imm)(F:Heap):Tri P 88 #[t.v,.int .u8 a] I F (Ret (.int .u8 (oneT t.kind t.oper t.typ a)) F):=by
 refine types_single.vc ?_
 unfold types_single.V
 unfold oneT
 intro b_n
 refine⟨fun h9=>Tri.ret (tnum_spec a I _) fun I1 l1=>⟨_,rfl,F,.refl _,fun hn=>?_,fun hn=>⟨fun _=>?_,fun h=>?_⟩⟩,fun h9=>⟨fun h=>?_,fun _=>⟨fun h2=>⟨fun h5=>?_,fun h5=>⟨fun h=>?_,fun _=>?_⟩⟩,fun h2=>⟨fun _=>Tri.ret (tnum_spec a I _) fun I1 l1=>⟨_,rfl,F,.refl _,fun hn=>?_,fun hn=>?_⟩,fun h=>?_⟩⟩⟩⟩
 ·have h9:t.kind=9:=by simpa using h9
  rw[if_pos h9,if_pos hn];exact⟨rfl,rfl⟩
 ·have h9:t.kind=9:=by simpa using h9
  rw[if_pos h9,if_neg (by rw[hn];exact Bool.false_ne_true)];exact⟨rfl,rfl⟩
 ·rw[h9] at h;cases h
 ·rw[h9] at h;cases h
 ·have h9:t.kind≠9:=by simpa using h9
  have h2:t.oper=2:=by simpa using h2
  have h5:a=5:=by simpa using h5
  rw[if_neg h9,if_pos (.inl ⟨h2,h5⟩)];exact⟨rfl,rfl⟩
 ·have h2:t.oper=2:=by simpa using h2
  simp[h2] at h
 ·have h9:t.kind≠9:=by simpa using h9
  have h2:t.oper=2:=by simpa using h2
  have h5:a≠5:=by simpa using h5
  rw[if_neg h9,if_neg (by omega)];exact⟨rfl,rfl⟩
 ·have h9:t.kind≠9:=by simpa using h9
  have h2:t.oper≠2:=by simpa using h2
  rw[if_neg h9,if_pos (.inr ⟨h2,hn⟩)];exact⟨rfl,rfl⟩
 ·have h9:t.kind≠9:=by simpa using h9
  have h2:t.oper≠2:=by simpa using h2
  rw[if_neg h9,if_neg (by rw[hn];intro h;rcases h with h | h;exact h2 h.1;exact Bool.false_ne_true h.2)];exact⟨rfl,rfl⟩
 ·simp at h2 h;exact absurd h h2
def TwoV(o a b:Int)(v:Value)(_:Imm):Prop:=∃t,v=.tuple #[.int .u8 t,.bool (twoT o a b).2]∧((twoT o a b).2=true→t=(twoT o a b).1)
theorem two_fin{o a b t:Int}{r:Bool}{I:Imm}{F:Heap}(h1:r=(twoT o a b).2)(h2:r=true→t=(twoT o a b).1):RetV (TwoV o a b) F (.returned (.tuple #[.int .u8 t,.bool r])) I F :=
 ⟨_,rfl,⟨t,by rw[h1],h1▸h2⟩,rfl⟩
theorem num_bool{a:Int}:numT a=true↔1≤a∧a≤4:=by unfold numT;rw[decide_eq_true_eq]
theorem num_not{a:Int}:numT a=false↔¬(1≤a∧a≤4):=by unfold numT;rw[decide_eq_false_iff_not]
theorem wrap_five{a b:Int}(ha:numT a=true)(hb:numT b=true):IntKind.wrap .u8 (a+b)=a+b:=by
 have:=num_bool.1 ha;have:=num_bool.1 hb
 unfold IntKind.wrap;simp[IntKind.bits,IntKind.signed];omega
theorem tdbl_spec(o a b:Int)(ho:4≤o∧o≤18)(I:Imm)(F:Heap):Tri P 89 #[.int .u8 o,.int .u8 a,.int .u8 b] I F (RetV (TwoV o a b) F):=by
 refine types_double.vc ?_
 unfold types_double.V
 have e8:o=8→twoT o a b=(prodT a b,prodT a b != 0):=fun h=>by subst h;unfold twoT;rw[if_neg (by omega),if_pos rfl]
 have e9:o=9→twoT o a b=(quoT a b,quoT a b != 0):=fun h=>by subst h;unfold twoT;rw[if_neg (by omega),if_neg (by omega),if_pos rfl]
 have eq_:o=11∨o=12→twoT o a b=(5,a==b):=fun h=>by unfold twoT;rw[if_neg (by omega),if_neg (by omega),if_neg (by omega),if_pos h]
 have ea:o=17∨o=18→twoT o a b=(5,a==b&&a==5):=fun h=>by unfold twoT;rw[if_neg (by omega),if_neg (by omega),if_neg (by omega),if_neg (by omega),if_pos h]
 have el:o=13∨o=14∨o=15∨o=16→twoT o a b=(5,a==b&&numT a):=fun h=>by unfold twoT;rw[if_neg (by omega),if_neg (by omega),if_neg (by omega),if_neg (by omega),if_neg (by omega)]
 have es:o=4∨o=5∨o=6∨o=7∨o=10→twoT o a b=(a,a==b&&numT a):=fun h=>by unfold twoT;rw[if_pos (by omega)]
 have hless:∀{q:Int},(o==q)=true→o=q:=fun h=>by simpa using h
 have hnot:∀{q:Int},(o==q)=false→o≠q:=fun h=>by simpa using h
 have lt:o=13∨o=14∨o=15∨o=16→((a==b)=true→Tri P 117 #[.int .u8 a] I F fun e7 I7 G7=>∃r:Bool,e7=.returned (.bool r)∧∃F7:Heap,G7.Perm F7∧RetV (TwoV o a b) F (.returned (.tuple #[.int .u8 5,.bool r])) I7 F7)∧((a==b)=false→RetV (TwoV o a b) F (.returned (.tuple #[.int .u8 5,.bool false])) I F):=fun h =>
  ⟨fun hab=>Tri.ret (tnum_spec a I _) fun I1 l1=>⟨_,rfl,F,.refl _,two_fin (by rw[el h,hab,Bool.true_and]) fun _=>by rw[el h]⟩,fun hab=>two_fin (by rw[el h,hab,Bool.false_and]) fun h=>by cases h⟩
 have an:o=17∨o=18→((a==b)=true→RetV (TwoV o a b) F (.returned (.tuple #[.int .u8 a,.bool (a==5)])) I F)∧((a==b)=false→RetV (TwoV o a b) F (.returned (.tuple #[.int .u8 a,.bool false])) I F):=fun h =>
  ⟨fun hab=>two_fin (by rw[ea h,hab,Bool.true_and]) fun h5=>by rw[ea h];simpa using h5,fun hab=>two_fin (by rw[ea h,hab,Bool.false_and]) fun h=>by cases h⟩
 refine⟨fun h8=>?_,fun h8=>⟨fun h9=>?_,fun h9=>⟨fun h=>two_fin (by rw[eq_ (.inl (hless h))]) fun _=>by rw[eq_ (.inl (hless h))],fun h11=>⟨fun h=>two_fin (by rw[eq_ (.inr (hless h))]) fun _=>by rw[eq_ (.inr (hless h))],fun h12=>⟨fun h=>an (.inl (hless h)),fun h17=>⟨fun h=>an (.inr (hless h)),fun h18=>⟨fun h=>lt (.inl (hless h)),fun h13=>⟨fun h=>lt (.inr (.inl (hless h))),fun h14=>⟨fun h=>lt (.inr (.inr (.inl (hless h)))),fun h15=>⟨fun h=>lt (.inr (.inr (.inr (hless h)))),fun h16=>?_⟩⟩⟩⟩⟩⟩⟩⟩⟩⟩
 ·have e:=e8 (hless h8)
  refine⟨fun h1=>Tri.ret (tnum_spec b I _) fun I1 l1=>⟨_,rfl,F,.refl _, ?_⟩,fun h1=>⟨fun h2=>Tri.ret (tnum_spec a I _) fun I1 l1=>⟨_,rfl,F,.refl _, ?_⟩,fun h2=>⟨fun h3=>⟨fun h4=>Tri.ret (tnum_spec a I _) fun I1 l1=>⟨_,rfl,F,.refl _,fun h5=>Tri.ret (tnum_spec b I1 _) fun I2 l2=>⟨_,rfl,F,.refl _, ?_⟩,fun h5=>?_⟩,fun h4=>?_⟩,fun h3=>?_⟩⟩⟩
  ·have h1:a=1:=by simpa using h1
   subst h1
   cases hb:numT b
   ·have:=num_not.1 hb
    exact two_fin (by rw[e];unfold prodT;simp[hb];omega) fun h=>by cases h
   ·have:=num_bool.1 hb
    exact two_fin (by rw[e];unfold prodT;simp[hb];omega) fun _=>by rw[e];unfold prodT;simp[hb]
  ·have h1:a≠1:=by simpa using h1
   have h2:b=1:=by simpa using h2
   subst h2
   cases hb:numT a
   ·have:=num_not.1 hb
    exact two_fin (by rw[e];unfold prodT;simp[hb,h1]) fun h=>by cases h
   ·have:=num_bool.1 hb
    exact two_fin (by rw[e];unfold prodT;simp[hb,h1];omega) fun _=>by rw[e];unfold prodT;simp[hb,h1]
  ·have h1:a≠1:=by simpa using h1
   have h2:b≠1:=by simpa using h2
   have h3:a≠b:=by simpa using h3
   have h4:IntKind.wrap .u8 (a+b)=5:=by simpa using h4
   have ha:=num_bool.1 h5
   cases hb:numT b
   ·have:=num_not.1 hb
    have hz:prodT a b=0:=by unfold prodT;rw[if_neg (fun h=>h1 h.1),if_neg (fun h=>h2 h.1),if_neg (by omega)]
    exact two_fin (by rw[e,hz];rfl) fun h=>by cases h
   ·have:=num_bool.1 hb
    rw[wrap_five h5 hb] at h4
    have hz:prodT a b=1:=by unfold prodT;rw[if_neg (fun h=>h1 h.1),if_neg (fun h=>h2 h.1),if_pos (by omega)]
    exact two_fin (by rw[e,hz];rfl) fun _=>by rw[e,hz]
  ·have h1:a≠1:=by simpa using h1
   have h2:b≠1:=by simpa using h2
   have:=num_not.1 h5
   have hz:prodT a b=0:=by unfold prodT;rw[if_neg (fun h=>h1 h.1),if_neg (fun h=>h2 h.1),if_neg (by omega)]
   exact two_fin (by rw[e,hz];rfl) fun h=>by cases h
  ·have h1:a≠1:=by simpa using h1
   have h2:b≠1:=by simpa using h2
   have hz:prodT a b=0:=by
    unfold prodT;rw[if_neg (fun h=>h1 h.1),if_neg (fun h=>h2 h.1),if_neg]
    intro h
    rcases h with ⟨rfl,rfl⟩ | ⟨rfl,rfl⟩<;>exact absurd h4 (by decide)
   exact two_fin (by rw[e,hz];rfl) fun h=>by cases h
  ·have h1:a≠1:=by simpa using h1
   have h2:b≠1:=by simpa using h2
   have h3:a=b:=by simpa using h3
   have hz:prodT a b=0:=by unfold prodT;rw[if_neg (fun h=>h1 h.1),if_neg (fun h=>h2 h.1),if_neg (by omega)]
   exact two_fin (by rw[e,hz];rfl) fun h=>by cases h
 ·have e:=e9 (hless h9)
  refine⟨fun h1=>Tri.ret (tnum_spec a I _) fun I1 l1=>⟨_,rfl,F,.refl _, ?_⟩,fun h1=>⟨fun h2=>Tri.ret (tnum_spec a I _) fun I1 l1=>⟨_,rfl,F,.refl _, ?_⟩,fun h2=>?_⟩⟩
  ·have h1:b=1:=by simpa using h1
   subst h1
   cases ha:numT a
   ·exact two_fin (by rw[e];unfold quoT;simp[ha]) fun h=>by cases h
   ·have:=num_bool.1 ha
    exact two_fin (by rw[e];unfold quoT;simp[ha];omega) fun _=>by rw[e];unfold quoT;simp[ha]
  ·have h1:b≠1:=by simpa using h1
   have h2:a=b:=by simpa using h2
   subst h2
   cases ha:numT a
   ·exact two_fin (by rw[e];unfold quoT;simp[ha]) fun h=>by cases h
   ·exact two_fin (by rw[e];unfold quoT;simp[ha,h1]) fun _=>by rw[e];unfold quoT;simp[ha,h1]
  ·have h1:b≠1:=by simpa using h1
   have h2:a≠b:=by simpa using h2
   exact two_fin (by rw[e];unfold quoT;simp[h1,h2]) fun h=>by cases h
 ·have e:=es (by have:=hnot h8;have:=hnot h9;have:=hnot h11;have:=hnot h12;have:=hnot h17;have:=hnot h18;have:=hnot h13;have:=hnot h14;have:=hnot h15;have:=hnot h16;omega)
  exact⟨fun hab=>Tri.ret (tnum_spec a I _) fun I1 l1=>⟨_,rfl,F,.refl _,two_fin (by rw[e,hab,Bool.true_and]) fun _=>by rw[e]⟩,fun hab=>two_fin (by rw[e,hab,Bool.false_and]) fun h=>by cases h⟩
end Go.Lx
namespace Go.Lx
open Go.Vc
def firstG:List RegP→ByteArray→Option Int
 | [],_=>none
 | r::l,k=>if k=r.name then some r.typ else firstG l k
theorem bytes_eq{a b:ByteArray}:(a.toList==b.toList)=true↔a=b:=by
 rw[beq_iff_eq]
 exact⟨ba_eq,fun h=>by rw[h]⟩
theorem firstG_ix(k:ByteArray):∀(l:List RegP) (i:Int),0≤i→firstG l k=if ixF k (l.map RegP.name) i<0 then none else ((l[(ixF k (l.map RegP.name) i-i).toNat]?).map RegP.typ)
 | [],i,hi=>by rw[firstG,List.map_nil,ixF,if_pos (by omega)]
 | r::l,i,hi=>by
   rw[firstG,List.map_cons,ixF]
   by_cases h:k=r.name
   ·rw[if_pos h,if_pos (bytes_eq.2 h.symm),if_neg (by omega)];simp
   ·rw[if_neg h,if_neg (fun h'=>h (bytes_eq.1 h').symm),firstG_ix k l (i+1) (by omega)]
    by_cases hn:ixF k (l.map RegP.name) (i+1)<0
    ·rw[if_pos hn,if_pos hn]
    ·rw[if_neg hn,if_neg hn]
     have hge:∀(l:List ByteArray) (j:Int),¬ixF k l j<0→j≤ixF k l j:=by
      intro l
      induction l with
      | nil=>intro j h;rw[ixF] at h;exact absurd (by decide) h
      | cons x r ih =>
        intro j h
        rw[ixF] at h ⊢
        split
        ·exact Int.le_refl _
        ·rename_i hx;rw[if_neg hx] at h;have:=ih (j+1) h;omega
     have:=hge _ _ hn
     rw[show (ixF k (l.map RegP.name) (i+1)-i).toNat=(ixF k (l.map RegP.name) (i+1)-(i+1)).toNat+1 by omega,List.getElem?_cons_succ]
theorem ixF_ge(k:ByteArray):∀(l:List ByteArray) (j:Int),¬ixF k l j<0→j≤ixF k l j∧ixF k l j<j+l.length
 | [],j,h=>by rw[ixF] at h;exact absurd (by decide) h
 | x::r,j,h=>by
   rw[ixF] at h ⊢
   split
   ·rw[List.length_cons];exact⟨Int.le_refl _,by omega⟩
   ·rename_i hx;rw[if_neg hx] at h;have:=ixF_ge k r (j+1) h;rw[List.length_cons];omega
theorem firstG_reg(s:StgP)(k:ByteArray):firstG s.regs k=if s.reg k<0 then none else some (s.regT (s.reg k)):=by
 rw[firstG_ix k s.regs 0 (by omega)]
 unfold StgP.regT StgP.reg
 by_cases h:ixF k (s.regs.map RegP.name) 0<0
 ·rw[if_pos h,if_pos h]
 ·rw[if_neg h,if_neg h]
  obtain⟨h1,h2⟩:=ixF_ge k _ _ h
  rw[List.length_map] at h2
  rw[Int.sub_zero]
  have hlt:(ixF k (s.regs.map RegP.name) 0).toNat<s.regs.length:=by omega
  rw[List.getElem?_eq_getElem hlt];rfl
theorem firstG_snoc(k:ByteArray)(r:RegP):∀l:List RegP,firstG (l++[r]) k=match firstG l k with
  | some t=>some t
  | none=>if k=r.name then some r.typ else none
 | []=>by rw[List.nil_append,firstG,firstG,firstG]
 | x::l=>by
   rw[List.cons_append,firstG,firstG]
   by_cases h:k=x.name
   ·rw[if_pos h,if_pos h]
   ·rw[if_neg h,if_neg h,firstG_snoc k r l]
def Scp(I:Imm)(c:Nat)(s:StgP)(m1 m2:Nat):Prop:=∃m0 es ck,I c=some (.cells #[.map (some m0),.map (some m1),.map (some m2)] 126 (0,0))∧I m0=some (.map es ck)∧MapG Value.string (Value.int .u8) (firstG s.regs) es ck
theorem Scp.mono{I J:Imm}{c:Nat}{s:StgP}{m1 m2:Nat}(h:Scp I c s m1 m2)(hl:Imm.le I J):Scp J c s m1 m2:=let ⟨m0,es,ck,h1,h2,h3⟩:=h;⟨m0,es,ck,hl.at h1,hl.at h2,h3⟩
theorem mapR:P.underlying 123=some (.map 9 31):=by kernel_rfl
theorem mapS:P.underlying 124=some (.map 9 3):=by kernel_rfl
theorem strD:P.underlying 9=some .string:=by kernel_rfl
theorem zeroR:(P.info? 31).map (·.zero)=some (some (.int .u8 0)):=by kernel_rfl
theorem zeroS:(P.info? 3).map (·.zero)=some (some (.int .i64 0)):=by kernel_rfl
theorem formed_leaf{x:Px}(h:x.formed=true)(h0:x.kids.length=0):x.kind=1∨x.kind=2∨x.kind=3∨x.kind=4:=by
 rcases Classical.em (x.kind=1) with h1 | h1
 ·exact .inl h1
 rcases Classical.em (x.kind=2) with h2 | h2
 ·exact .inr (.inl h2)
 rcases Classical.em (x.kind=3) with h3 | h3
 ·exact .inr (.inr (.inl h3))
 rcases Classical.em (x.kind=4) with h4 | h4
 ·exact .inr (.inr (.inr h4))
 rcases Classical.em (x.kind=7) with h7 | h7
 ·have:=formed_cond h h7;omega
 rcases Classical.em (x.kind=9) with h9 | h9
 ·have:=formed_conv h h9;omega
 have:=formed_rest h h1 h2 h3 h4 h7 h9
 omega
theorem formed_typ{x:Px}(h:x.formed=true)(hk:x.kind=9):x.typ≠0:=by
 have h1:=(formed_one h).1
 unfold Px.fitB at h1
 rw[if_neg (by omega),if_neg (by omega),if_neg (by omega),if_neg (by omega),if_neg (by omega),if_neg (by omega),if_neg (by omega),if_neg (by omega),if_pos hk] at h1
 have:=of_decide_eq_true h1
 omega
theorem formed_two{x:Px}(h:x.formed=true)(h2:x.kids.length=2):x.kind≠1∧x.kind≠2∧x.kind≠3∧x.kind≠4∧x.kind≠7∧x.kind≠9∧((x.kind=6∧6≤x.oper∧x.oper≤18)∨(x.kind=8∧(x.oper=4∨x.oper=5))):=by
 obtain⟨g1,g2⟩:=formed_one h
 rw[h2] at g2
 unfold Px.arity at g2
 unfold Px.fitB at g1
 split at g2
 ·omega
 ·rename_i k59
  split at g2
  ·rename_i k6
   rw[if_neg (by omega),if_neg (by omega),if_neg (by omega),if_neg (by omega),if_neg (by omega),if_pos k6] at g1
   have:=of_decide_eq_true g1
   omega
  ·split at g2
   ·omega
   ·split at g2
    ·rename_i k8
     rw[if_neg (by omega),if_neg (by omega),if_neg (by omega),if_neg (by omega),if_neg (by omega),if_neg (by omega),if_neg (by omega),if_pos k8] at g1
     have:=of_decide_eq_true g1
     split at g2<;>omega
    ·omega
theorem formed_1{x:Px}(h:x.formed=true)(h2:x.kids.length=1):x.kind≠1∧x.kind≠2∧x.kind≠3∧x.kind≠4∧x.kind≠7∧x.kind≠6:=by
 obtain⟨g1,g2⟩:=formed_one h
 rw[h2] at g2
 unfold Px.arity at g2
 split at g2
 ·omega
 ·split at g2
  ·omega
  ·split at g2
   ·omega
   ·split at g2<;>omega
theorem formed_3{x:Px}(h:x.formed=true)(h2:3≤x.kids.length):x.kind=7∧x.kids.length=3:=by
 obtain⟨g1,g2⟩:=formed_one h
 unfold Px.arity at g2
 split at g2
 ·omega
 ·split at g2
  ·omega
  ·split at g2
   ·exact⟨by assumption,g2⟩
   ·split at g2
    ·split at g2<;>omega
    ·omega
theorem leaf_spec{s:StgN}{c m1 m2:Nat}(t:Nd)(hf:t.px.formed=true)(h0:t.kids.length=0)(I:Imm)(F:Heap)(hS:Scp I c s.p m1 m2) :
  Tri P 87 #[.pointer (some ⟨c,0,none⟩),t.v] I F (RetV (OfV (nodeE s.p t.px [])) F):=by
 refine types_scope_leaf.vc ?_
 unfold types_scope_leaf.V
 have hk:t.kind=1∨t.kind=2∨t.kind=3∨t.kind=4:=by
  have:=formed_leaf hf (by rw[Nd.px_len,h0]);rwa [Nd.px_kind] at this
 have hfld:t.kind=3→1≤t.field∧t.field≤6:=fun h=>by
  have:=formed_field hf (by rw[Nd.px_kind];exact h);rwa [Nd.px_field] at this
 have ok:∀{J:Imm} {x:Int},nodeE s.p t.px []=(x,zTF)→RetV (OfV (nodeE s.p t.px [])) F (.returned (.tuple #[.int .u8 x,.nilIface])) J F:=fun e=>by rw[e];exact⟨_,rfl,⟨_,rfl,OfE.ok⟩,rfl⟩
 have eN:∀{x:Int},(t.kind=2→¬s.p.reg t.name<0)→nodeT s.p t.px []=(x,true)→nodeE s.p t.px []=(x,zTF):=fun hn e=>by
  unfold nodeE;rw[Nd.px_kind,Nd.px_name,if_neg (fun h=>hn h.1 h.2),e,if_pos rfl]
 have e1:t.kind=1→nodeE s.p t.px []=(t.typ,zTF):=fun h=>eN (fun h2=>by omega) (by
  unfold nodeT;rw[Nd.px_kind,Nd.px_typ,if_pos h])
 have e4:t.kind=4→nodeE s.p t.px []=(5,zTF):=fun h=>eN (fun h2=>by omega) (by
  unfold nodeT;rw[Nd.px_kind,if_neg (by omega),if_neg (by omega),if_neg (by omega),if_pos h])
 have e3:t.kind=3→nodeE s.p t.px []=(at0 fieldL (t.field-1).toNat,zTF):=fun h=>eN (fun h2=>by omega) (by
  unfold nodeT;rw[Nd.px_kind,Nd.px_field,if_neg (by omega),if_neg (by omega),if_pos h])
 intro b_n
 refine⟨fun h=>ok (e1 (by simpa using h)),fun h1=>⟨fun h=>ok (e4 (by simpa using h)),fun h4=>⟨fun h=>?_,fun h2=>?_⟩⟩⟩
 ·have h2:t.kind=2:=by simpa using h
  obtain⟨m0,es,ck,hc,hm,hg⟩:=hS
  refine⟨_,rfl,some m0,⟨rfl,_,_,_,.inl hc,fun j hj=>?_⟩, ?_⟩
  ·have:j=0:=by simpa using hj
   subst this;rfl
  refine TriE.mono (lookup_ok mapR strD str_key str_inj zeroR hg (.inl hm) t.name) fun v I1 G hl ⟨hv,hI,hG⟩=>?_
  subst hI hG
  rw[firstG_reg] at hv
  by_cases hr:s.p.reg t.name<0
  ·rw[if_pos hr] at hv
   refine⟨0,false,hv,F,.refl _,fun h=>(by cases h),fun _=>?_⟩
   refine Tri.retV (twrong_spec t 151 I1 _ (by decide) true) fun v1 I2 l2 ⟨w,hv1,hw⟩=>?_
   refine⟨_,_,by rw[hv1],F,.refl _,_,rfl,⟨w, ?_, ?_⟩,rfl⟩
   ·unfold nodeE;rw[Nd.px_kind,Nd.px_name,if_pos ⟨h2,hr⟩]
   ·unfold nodeE;rw[Nd.px_kind,Nd.px_name,if_pos ⟨h2,hr⟩,Nd.px_pos];exact hw
  ·rw[if_neg hr] at hv
   refine⟨s.p.regT (s.p.reg t.name),true,hv,F,.refl _,fun _=>ok ?_,fun h=>by cases h⟩
   exact eN (fun _=>hr) (by unfold nodeT;rw[Nd.px_kind,Nd.px_name,if_neg (by omega),if_pos h2])
 ·have h3:t.kind=3:=by simp at h1 h4 h2;omega
  obtain⟨f1,f2⟩:=hfld h3
  refine⟨fun h=>ok ?_,fun h5=>⟨fun h=>ok ?_,fun h4=>⟨fun h=>ok ?_,fun h6=>ok ?_⟩⟩⟩<;>rw[e3 h3]
  ·rw[show t.field=5 by simpa using h];rfl
  ·rw[show t.field=4 by simpa using h];rfl
  ·rw[show t.field=6 by simpa using h];rfl
  ·have:t.field=1∨t.field=2∨t.field=3:=by simp at h5 h4 h6;omega
   rcases this with h | h | h<;>rw[h]<;>rfl
end Go.Lx
namespace Go.Lx
open Go.Vc
def lO(ts:List Int):Obj:=.cells #[.int .u8 (at0 ts 0),.int .u8 (at0 ts 1),.int .u8 (at0 ts 2)] 145 (0,0)
theorem addr0(b n:Nat):(⟨b,0,none⟩:Addr).add n=⟨b,n,none⟩:=by unfold Addr.add;split<;>simp_all
theorem lO_rd{I:Imm}{G:Heap}{b:Nat}{ts:List Int}(h:(b,lO ts)∈G){i:Nat}(hi:i<3):Rd I G ((⟨b,0,none⟩:Addr).add i) [.int .u8 (at0 ts i)]:=by
 rw[addr0]
 refine⟨rfl,_,_,_,.inr h,fun j hj=>?_⟩
 have:j=0:=by simpa using hj
 subst this
 match i,hi with
 | 0,_=>rfl
 | 1,_=>rfl
 | 2,_=>rfl
theorem lO_put{ts:List Int}(x:Int)(h:ts.length<3):Obj.cells (splice ts.length [Value.int .u8 x] [.int .u8 (at0 ts 0),.int .u8 (at0 ts 1),.int .u8 (at0 ts 2)]).toArray 145 (0,0)=lO (ts++[x]):=by
 match ts,h with
 | [],_=>rfl
 | [a],_=>rfl
 | [a,b],_=>rfl
theorem formed_len{x:Px}(h:x.formed=true):x.kids.length≤3:=by
 rw[(formed_one h).2]
 unfold Px.arity
 repeat' split
 all_goals omega
def oneN(k o typ a:Int):Int×Bool:=if k=9 then (typ,numT a) else if o=2 then (5,a==5) else (a,numT a)
theorem oneN_T(k o typ a:Int)(ht:k=9→typ≠0):((oneN k o typ a).2=true↔oneT k o typ a≠0)∧(oneT k o typ a≠0→(oneN k o typ a).1=oneT k o typ a):=by
 have h0:numT a=true→a≠0:=fun h=>by have:=num_bool.1 h;omega
 unfold oneN oneT
 by_cases h9:k=9
 ·by_cases hn:numT a=true
  ·simp[h9,hn,ht h9]
  ·simp[h9,hn]
 ·by_cases ho:o=2
  ·by_cases h5:a=5
   ·simp[h9,ho,h5]
   ·simp[h9,ho,h5]
  ·by_cases hn:numT a=true
   ·simp[h9,ho,hn,h0 hn]
   ·simp[h9,ho,hn]
set_option maxHeartbeats 1000000 in
theorem of_spec{s:StgN}{c m1 m2:Nat}:∀(t:Nd),t.px.formed=true→∀(I:Imm) (F:Heap),Scp I c s.p m1 m2→NdOk I F t →
  Tri P 45 #[.pointer (some ⟨c,0,none⟩),t.v] I F (RetV (OfV (typed s.p t.px)) F):=by
 refine Nd.ind fun t ih hf I F hS ht=>Tri.still ?_
 have ekid:t.px.kids=t.kids.map Nd.px:=Nd.px_kids t
 have hlen:t.kids.length≤3:=by have:=formed_len hf;rwa [Nd.px_len] at this
 refine types_scope_of.vc (fun nA lA x x1 i m I0 F0 I' F'=>0≤i∧i≤t.kids.length∧m=(t.kids.length-i).toNat∧(∀k∈t.kids.take i.toNat,(typed s.p k.px).2.e=0) ∧
  ∃b,lA=some (⟨b,0,none⟩:Addr)∧F'.Perm ((b,lO ((t.kids.take i.toNat).map fun k=>(typed s.p k.px).1))::F)) ?_
 unfold types_scope_of.V
 intro b_n b_l
 refine⟨⟨_,by omega,by omega,rfl,fun k hk=>by simp at hk,b_l,rfl,.refl _⟩,fun x x1 i m I1 F1 l1 ⟨g0,g1,gm,hall,b,hb,hF1⟩=>?_⟩
 obtain rfl:b_l=b:=by simpa using hb
 have hS1:Scp I1 c s.p m1 m2:=hS.mono l1
 have hsub:∀y,y∈F→y∈F1:=fun y hy=>hF1.mem_iff.2 (List.mem_cons_of_mem _ hy)
 have ht1:NdOk I1 F1 t:=ht.mono l1 hsub
 refine⟨fun hlt=>?_,fun hlt=>?_⟩
 ·have hlt:=of_decide_eq_true hlt
  obtain⟨ad,k,had,hk,hrd,hko,hkm⟩:=ht1.kids.at g0 hlt
  have hkf:=Px.formed_kid hf k.px (by rw[ekid];exact List.mem_map_of_mem hkm)
  have hbad:(typed s.p k.px).2.e≠0→typed s.p t.px=(0,(typed s.p k.px).2):=fun he=>typed_bad (i:=i.toNat) (fun y hy=>by
   rw[ekid,←List.map_take] at hy
   obtain⟨z,hz,rfl⟩:=List.mem_map.1 hy
   exact hall z hz) (by rw[ekid,List.getElem?_map,hk];rfl) he
  refine⟨⟨g0,hlt⟩,ad,had,_,_,_,_,_,_,_,_,_,_,hrd.sub (Imm.le_refl _) (fun y hy=>.tail _ hy), ?_⟩
  intro b_k
  refine Tri.retV (ih k hkm hkf I1 _ hS1 (hko.mono (Imm.le_refl _) fun y hy=>.tail _ (.tail _ hy))) fun v I2 l2 ⟨w,hv,hw⟩=>?_
  refine⟨_,_,by rw[hv],F1,.refl _,_,hw.neq (by kernel_rfl),fun hq=>?_,fun hq=>?_⟩
  ·have he:(typed s.p k.px).2.e≠0:=by simpa using hq
   refine⟨_,[_],rfl,hF1,fun J hJ hx=>?_⟩
   rw[hbad he]
   exact⟨w,rfl,hw.mono hJ⟩
  ·have he:(typed s.p k.px).2.e=0:=by simpa using hq
   have hl3:(((t.kids.take i.toNat).map fun k=>(typed s.p k.px).1)).length=i.toNat:=by rw[List.length_map,List.length_take];omega
   refine⟨⟨g0,by omega⟩,_,_,F,by rw[addr0];exact hF1,by rw[addr0],by rw[addr0];simp only[List.length_cons,List.length_nil];omega,(t.kids.length-(i+1)).toNat,by omega, ?_⟩
   rw[w64 (n:=i+1) (by omega)]
   refine⟨by omega,by omega,rfl, ?_,b_l,rfl, ?_⟩
   ·rw[show (i+1).toNat=i.toNat+1 by omega]
    exact take_all hk hall he
   ·rw[addr0,show (i+1).toNat=i.toNat+1 by omega,map_snoc0 hk,←lO_put _ (by rw[hl3];omega),hl3,Nat.mul_one]
 ·have hlt:=of_decide_eq_false hlt
  rw[List.take_of_length_le (l:=t.kids) (i:=i.toNat) (by omega)] at hall hF1
  have hty:typed s.p t.px=nodeE s.p t.px (t.kids.map fun k=>(typed s.p k.px).1):=by
   rw[typed_ok (fun k hk=>by
    rw[ekid] at hk
    obtain⟨z,hz,rfl⟩:=List.mem_map.1 hk
    exact hall z hz),ekid,List.map_map]
   rfl
  rw[hty]
  have htl:(t.kids.map fun k=>(typed s.p k.px).1).length=t.kids.length:=List.length_map ..
  generalize (t.kids.map fun k=>(typed s.p k.px).1)=ts at hF1 htl ⊢
  have hmem:∀y:Nat×Obj,(b_l,lO ts)∈y::F1:=fun y=>.tail _ (hF1.mem_iff.2 (.head _))
  have ek:t.px.kind=t.kind:=Nd.px_kind t
  have wr:∀{J:Imm} {G:Heap},nodeE s.p t.px ts=(0,⟨152,t.pos,true⟩)→Tri P 90 #[t.v,.int .i64 152] J G (RetV (OfV (nodeE s.p t.px ts)) G):=fun e=>by
   rw[e];exact twrong_spec t 152 _ _ (by decide) true
  have fin:∀{J:Imm} {x:Int},nodeE s.p t.px ts=(x,zTF)→∃v H,Ending.returned (Value.tuple #[.int .u8 x,.nilIface])=.returned v∧F1.Perm (H++F)∧∀K,Imm.le J K→(∀z∈H,K z.1=some z.2)→OfV (nodeE s.p t.px ts) v K :=
   fun e=>⟨_,[_],rfl,hF1,fun K hJ hx=>by rw[e];exact⟨_,rfl,OfE.ok⟩⟩
  have finw:∀{J:Imm} {v:Value},OfV (nodeE s.p t.px ts) v J→∃v1 H,Ending.returned v=.returned v1∧F1.Perm (H++F)∧∀K,Imm.le J K→(∀z∈H,K z.1=some z.2)→OfV (nodeE s.p t.px ts) v1 K :=
   fun ⟨w,hv,hw⟩=>⟨_,[_],rfl,hF1,fun K hJ hx=>⟨w,hv,hw.mono hJ⟩⟩
  have eN:¬t.kind=2→nodeE s.p t.px ts=if (nodeT s.p t.px ts).2 then ((nodeT s.p t.px ts).1,zTF) else (0,⟨152,t.pos,true⟩):=fun h2=>by
   unfold nodeE;rw[ek,if_neg (fun h=>h2 h.1),Nd.px_pos]
  refine⟨fun h=>?_,fun h=>⟨fun h1=>?_,fun h1=>⟨fun h2=>?_,fun h2=>?_⟩⟩⟩
  ·have h0:t.kids.length=0:=by simpa using h
   obtain rfl:ts=[]:=List.length_eq_zero_iff.1 (by omega)
   refine Tri.retV (leaf_spec t hf h0 I1 _ hS1) fun v I3 l3 hv=>?_
   obtain⟨w,hv1,hw⟩:=id hv
   exact⟨_,_,by rw[hv1],F1,.refl _,by rw[←hv1];exact finw hv⟩
  ·have h1:t.kids.length=1:=by simp at h1;omega
   obtain⟨n1,n2,n3,n4,n7,n6⟩:=formed_1 hf (by rw[Nd.px_len,h1])
   rw[ek] at n1 n2 n3 n4 n7 n6
   have hn:nodeT s.p t.px ts=oneN t.kind t.oper t.typ (at0 ts 0):=by
    unfold nodeT oneN
    rw[ek,Nd.px_typ,Nd.px_oper,if_neg n1,if_neg n2,if_neg n3,if_neg n4,if_neg n7,if_neg (show ¬ts.length=2 by omega)]
   have hty:t.kind=9→t.typ≠0:=fun h9=>by have:=formed_typ hf (by rw[ek];exact h9);rwa [Nd.px_typ] at this
   obtain⟨ho1,ho2⟩:=oneN_T t.kind t.oper t.typ (at0 ts 0) hty
   have hE:oneT t.kind t.oper t.typ (at0 ts 0)≠0→nodeE s.p t.px ts=(oneT t.kind t.oper t.typ (at0 ts 0),zTF):=fun h=>by
    rw[eN n2,hn,if_pos (ho1.2 h),ho2 h]
   have hN:oneT t.kind t.oper t.typ (at0 ts 0)=0→nodeE s.p t.px ts=(0,⟨152,t.pos,true⟩):=fun h=>by
    rw[eN n2,hn,if_neg (fun h'=>ho1.1 h' h)]
   refine⟨⟨by omega,by omega⟩,at0 ts 0,lO_rd (i:=0) (hmem _) (by decide), ?_⟩
   refine Tri.ret (tone_spec t (at0 ts 0) I1 _) fun I3 l3=>⟨_,rfl,F1,.refl _,fun hz=>?_,fun hz=>?_⟩
   ·have hz:oneT t.kind t.oper t.typ (at0 ts 0)=0:=by simpa using hz
    refine Tri.retV (wr (hN hz)) fun v I4 l4 hv=>?_
    obtain⟨w,hv1,hw⟩:=id hv
    exact⟨_,_,by rw[hv1],F1,.refl _,by rw[←hv1];exact finw hv⟩
   ·have hz:oneT t.kind t.oper t.typ (at0 ts 0)≠0:=by simpa using hz
    exact fin (hE hz)
  ·have h2:t.kids.length=2:=by simp at h2;omega
   obtain⟨n1,n2,n3,n4,n7,n9,ho⟩:=formed_two hf (by rw[Nd.px_len,h2])
   rw[ek] at n1 n2 n3 n4 n7 n9
   have hn:nodeT s.p t.px ts=twoT t.oper (at0 ts 0) (at0 ts 1):=by
    unfold nodeT
    rw[ek,Nd.px_oper,if_neg n1,if_neg n2,if_neg n3,if_neg n4,if_neg n7,if_neg n9,if_pos (show ts.length=2 by omega)]
   rw[Nd.px_oper] at ho
   refine⟨⟨by omega,by omega⟩,at0 ts 0,lO_rd (i:=0) (hmem _) (by decide),⟨by omega,by omega⟩,at0 ts 1,lO_rd (i:=1) (hmem _) (by decide), ?_⟩
   refine Tri.retV (tdbl_spec t.oper (at0 ts 0) (at0 ts 1) (by omega) I1 _) fun v I3 l3 ⟨x,hv,hx⟩=>⟨_,_,congrArg Ending.returned hv,F1,.refl _,fun hz=>?_,fun hz=>?_⟩
   ·have hz:(twoT t.oper (at0 ts 0) (at0 ts 1)).2=false:=by simpa using hz
    have e:nodeE s.p t.px ts=(0,⟨152,t.pos,true⟩):=by rw[eN n2,hn,hz];rfl
    refine Tri.retV (wr e) fun v I4 l4 hv=>?_
    obtain⟨w,hv1,hw⟩:=id hv
    exact⟨_,_,by rw[hv1],F1,.refl _,by rw[←hv1];exact finw hv⟩
   ·have hz:(twoT t.oper (at0 ts 0) (at0 ts 1)).2=true:=by simpa using hz
    exact fin (by rw[eN n2,hn,if_pos hz,←hx hz])
  ·have h3:3≤t.px.kids.length:=by
    rw[Nd.px_len]
    have g0:t.kids.length≠0:=fun e=>by rw[e] at h;cases h
    have g1:t.kids.length≠1:=fun e=>by rw[e] at h1;cases h1
    have g2:t.kids.length≠2:=fun e=>by rw[e] at h2;cases h2
    omega
   obtain⟨k7,k3⟩:=formed_3 hf h3
   rw[Nd.px_len] at k3
   rw[ek] at k7
   have hn:nodeT s.p t.px ts=(at0 ts 1,at0 ts 0==5&&at0 ts 1==at0 ts 2):=by
    unfold nodeT
    rw[ek,if_neg (show ¬t.kind=1 by omega),if_neg (show ¬t.kind=2 by omega),if_neg (show ¬t.kind=3 by omega),if_neg (show ¬t.kind=4 by omega),if_pos k7]
   have n2:¬t.kind=2:=by omega
   refine⟨⟨by omega,by omega⟩,at0 ts 1,lO_rd (i:=1) (hmem _) (by decide),⟨by omega,by omega⟩,at0 ts 0,lO_rd (i:=0) (hmem _) (by decide),fun h5=>⟨⟨by omega,by omega⟩,at0 ts 1,lO_rd (i:=1) (hmem _) (by decide),⟨by omega,by omega⟩,at0 ts 2,lO_rd (i:=2) (hmem _) (by decide),fun hz=>?_,fun hz=>?_⟩,fun h5=>⟨fun _=>?_,fun h=>(by cases h)⟩⟩
   ·have e:nodeE s.p t.px ts=(0,⟨152,t.pos,true⟩):=by
     rw[eN n2,hn]
     have:(at0 ts 1==at0 ts 2)=false:=by simpa using hz
     rw[this,Bool.and_false];rfl
    refine Tri.retV (wr e) fun v I4 l4 hv=>?_
    obtain⟨w,hv1,hw⟩:=id hv
    exact⟨_,_,by rw[hv1],F1,.refl _,by rw[←hv1];exact finw hv⟩
   ·have h12:(at0 ts 1==at0 ts 2)=true:=by simpa using hz
    exact fin (by rw[eN n2,hn,h5,h12];rfl)
   ·have e:nodeE s.p t.px ts=(0,⟨152,t.pos,true⟩):=by
     rw[eN n2,hn,h5,Bool.false_and];rfl
    refine Tri.retV (wr e) fun v I4 l4 hv=>?_
    obtain⟨w,hv1,hw⟩:=id hv
    exact⟨_,_,by rw[hv1],F1,.refl _,by rw[←hv1];exact finw hv⟩
end Go.Lx
namespace Go.As
open Go.RowKit Go.Extern.Stop Go.Stop Go.Extern
theorem rlm(z:Sem Value)(f:TypeId→Addr→Nat→Nat→Sem Value)(v:Value) :
  ReflectliteValue.method z f #[v]=(do match ←ReflectliteValue.parts v with | none=>z | some (t,a,fl)=>f t a fl (fl % 32)):=rfl
theorem rls(v x:Value):ReflectliteValue.set #[v,x]=(do
  let (some (dst,a,fl),some (src,b,_)):=(←ReflectliteValue.parts v,←ReflectliteValue.parts x)
   | unsupported (.noEntry "extern/(internal/reflectlite.Value).Set.zeroValue")
  if fl / ReflectliteValue.flagAddr % 2==0 then unsupported (.noEntry "extern/(internal/reflectlite.Value).Set.unaddressable")
  let val ←loadVar src b
  if ←Rtype.directlyAssignable dst src then storeVar dst a val
  else if ←Rtype.implements dst src then
   if (←Rtype.kind src)==20 then
    match val with
    | .nilIface=>unsupported (.noEntry "extern/reflectlite: a nil value of one interface type handed on as a value of another")
    | _=>storeVar dst a val
   else storeVar dst a (.iface src val)
  else panicString ("reflectlite.Set: value of type " ++ (←Rtype.spelt src) ++ " is not assignable to type " ++ (←Rtype.spelt dst))
  pure (.tuple #[])):=rfl
theorem methodKind(h:Value)(w:World):(Go.method 345 153 (.agg #[h]) "Kind").run Go.Proofs.Tryz.prog w=.ok (178,h) w:=by kernel_rfl
theorem methodElem(h:Value)(w:World):(Go.method 345 153 (.agg #[h]) "Elem").run Go.Proofs.Tryz.prog w=.ok (190,.agg #[h]) w:=by kernel_rfl
theorem methodImplements(h:Value)(w:World):(Go.method 345 153 (.agg #[h]) "Implements").run Go.Proofs.Tryz.prog w=.ok (191,.agg #[h]) w:=by kernel_rfl
theorem methodAssignableTo(h:Value)(w:World):(Go.method 345 153 (.agg #[h]) "AssignableTo").run Go.Proofs.Tryz.prog w=.ok (188,.agg #[h]) w:=by kernel_rfl
theorem valueOfF(t:Addr)(w:World):(ReflectliteValue.unpack (.iface 61 (.pointer (some t)))).run Go.Proofs.Tryz.prog w=.ok (.agg #[.pointer (some ⟨1,61,none⟩),.pointer (some ⟨w.heap.size,0,none⟩),.int .u64 150]) (w.alloc (.cells #[.pointer (some t)] 61)):=by kernel_rfl
theorem typeF(a:Addr)(w:World):(ReflectliteValue.methodAny (ReflectliteValue.valueError "reflectlite.Value.Type" 0) (fun t _ _ _=>ReflectliteType.toType t) #[(.agg #[.pointer (some ⟨1,61,none⟩),.pointer (some a),.int .u64 150])]).run Go.Proofs.Tryz.prog w=.ok (.iface 153 (.agg #[.pointer (some ⟨1,61,none⟩)])) w:=by kernel_rfl
theorem kindPF(w:World):((ReflectliteType.abiMethod fun t=>(fun a:Nat=>Value.int IntKind.u8 (a:Int)) <$> Rtype.kind t) #[.pointer (some ⟨1,61,none⟩)]).run Go.Proofs.Tryz.prog w=.ok (.int .u8 22) w:=by kernel_rfl
theorem kindF(w:World):((ReflectliteType.abiMethod fun t=>(fun a:Nat=>Value.int IntKind.u8 (a:Int)) <$> Rtype.kind t) #[.pointer (some ⟨1,59,none⟩)]).run Go.Proofs.Tryz.prog w=.ok (.int .u8 22) w:=by kernel_rfl
theorem partsPF(a:Addr)(w:World):(ReflectliteValue.parts (.agg #[.pointer (some ⟨1,61,none⟩),.pointer (some a),.int .u64 150])).run Go.Proofs.Tryz.prog w=.ok (some (61,a,150)) w:=by kernel_rfl
theorem underPF:Go.Proofs.Tryz.prog.underlying 61=some (.pointer 59):=by kernel_rfl
theorem isNilF(a p:Addr)(W:World)(ha:W.cell? a=some (.pointer (some p))) :
  (ReflectliteValue.method (ReflectliteValue.valueError "reflectlite.Value.IsNil" 0) ReflectliteValue.isNil #[(.agg #[.pointer (some ⟨1,61,none⟩),.pointer (some a),.int .u64 150])]).run Go.Proofs.Tryz.prog W=.ok (.bool false) W:=by
 rw[rlm]
 simp only[Sem.run_bind,partsPF,Result.andThen]
 simp[ReflectliteValue.isNil,loadVar,isAgg,underlying,underPF,ha,Result.andThen]
theorem elemF(w:World):(ReflectliteType.method ReflectliteType.elem #[.agg #[.pointer (some ⟨1,61,none⟩)]]).run Go.Proofs.Tryz.prog w=.ok (.iface 153 (.agg #[.pointer (some ⟨1,59,none⟩)])) w:=by kernel_rfl
theorem implF(w:World):(ReflectliteType.relation "Implements" ReflectliteType.implements_ #[.agg #[.pointer (some ⟨1,59,none⟩)],.iface 153 (.agg #[.pointer (some ⟨1,38,none⟩)])]).run Go.Proofs.Tryz.prog w=.ok (.bool true) w:=by kernel_rfl
theorem typeOfF(v:Value)(w:World):(ReflectliteType.typeOf #[.iface 59 v]).run Go.Proofs.Tryz.prog w=.ok (.iface 153 (.agg #[.pointer (some ⟨1,59,none⟩)])) w:=by kernel_rfl
theorem elemOfF(w:World):(Rtype.elem? 61).run Go.Proofs.Tryz.prog w=.ok (some 59) w:=by kernel_rfl
theorem mkF(p:Addr)(w:World):(ReflectliteValue.mk 59 p ReflectliteValue.flagAddr).run Go.Proofs.Tryz.prog w=.ok (.agg #[.pointer (some ⟨1,59,none⟩),.pointer (some p),.int .u64 406]) w:=by kernel_rfl
theorem elemVF(a p:Addr)(W:World)(ha:W.cell? a=some (.pointer (some p))) :
  (ReflectliteValue.method (ReflectliteValue.valueError "reflectlite.Value.Elem" 0) ReflectliteValue.elem #[(.agg #[.pointer (some ⟨1,61,none⟩),.pointer (some a),.int .u64 150])]).run Go.Proofs.Tryz.prog W=.ok (.agg #[.pointer (some ⟨1,59,none⟩),.pointer (some p),.int .u64 406]) W:=by
 rw[rlm]
 simp only[Sem.run_bind,partsPF,Result.andThen]
 simp[ReflectliteValue.elem,loadVar,isAgg,underlying,underPF,ha,Result.andThen,elemOfF,mkF]
theorem partsFa(a:Addr)(w:World):(ReflectliteValue.parts (.agg #[.pointer (some ⟨1,59,none⟩),.pointer (some a),.int .u64 406])).run Go.Proofs.Tryz.prog w=.ok (some (59,a,406)) w:=by kernel_rfl
theorem partsF(a:Addr)(w:World):(ReflectliteValue.parts (.agg #[.pointer (some ⟨1,59,none⟩),.pointer (some a),.int .u64 150])).run Go.Proofs.Tryz.prog w=.ok (some (59,a,150)) w:=by kernel_rfl
theorem directF(w:World):(Rtype.directlyAssignable 59 59).run Go.Proofs.Tryz.prog w=.ok true w:=by kernel_rfl
theorem underF:Go.Proofs.Tryz.prog.underlying 59=some (.pointer 63):=by kernel_rfl
theorem valueF(x:Addr)(w:World):(ReflectliteValue.unpack (.iface 59 (.pointer (some x)))).run Go.Proofs.Tryz.prog w=.ok (.agg #[.pointer (some ⟨1,59,none⟩),.pointer (some ⟨w.heap.size,0,none⟩),.int .u64 150]) (w.alloc (.cells #[.pointer (some x)] 59)):=by kernel_rfl
theorem setF(ta b:Addr)(x:Addr)(old:Value)(W:World)(hb:W.cell? b=some (.pointer (some x)))(ht:W.cell? ta=some old)(hf:W.frozen? ta=false) :
  (ReflectliteValue.set #[(.agg #[.pointer (some ⟨1,59,none⟩),.pointer (some ta),.int .u64 406]),(.agg #[.pointer (some ⟨1,59,none⟩),.pointer (some b),.int .u64 150])]).run Go.Proofs.Tryz.prog W=.ok (.tuple #[]) (W.setCell ta (.pointer (some x))):=by
 rw[rls]
 simp only[Sem.run_bind,partsFa,partsF,Result.andThen]
 simp[ReflectliteValue.flagAddr,loadVar,isAgg,underlying,underF,hb,Result.andThen,directF,storeVar,Value.cells,storeCells,Addr.add]
 rw[run_store Go.Proofs.Tryz.prog W ta _ _ (by rfl)]
 simp[ht,hf]
theorem valueOfE(t:Addr)(w:World):(ReflectliteValue.unpack (.iface 89 (.pointer (some t)))).run Go.Proofs.Tryz.prog w=.ok (.agg #[.pointer (some ⟨1,89,none⟩),.pointer (some ⟨w.heap.size,0,none⟩),.int .u64 150]) (w.alloc (.cells #[.pointer (some t)] 89)):=by kernel_rfl
theorem typeE(a:Addr)(w:World):(ReflectliteValue.methodAny (ReflectliteValue.valueError "reflectlite.Value.Type" 0) (fun t _ _ _=>ReflectliteType.toType t) #[(.agg #[.pointer (some ⟨1,89,none⟩),.pointer (some a),.int .u64 150])]).run Go.Proofs.Tryz.prog w=.ok (.iface 153 (.agg #[.pointer (some ⟨1,89,none⟩)])) w:=by kernel_rfl
theorem kindPE(w:World):((ReflectliteType.abiMethod fun t=>(fun a:Nat=>Value.int IntKind.u8 (a:Int)) <$> Rtype.kind t) #[.pointer (some ⟨1,89,none⟩)]).run Go.Proofs.Tryz.prog w=.ok (.int .u8 22) w:=by kernel_rfl
theorem kindE(w:World):((ReflectliteType.abiMethod fun t=>(fun a:Nat=>Value.int IntKind.u8 (a:Int)) <$> Rtype.kind t) #[.pointer (some ⟨1,40,none⟩)]).run Go.Proofs.Tryz.prog w=.ok (.int .u8 2) w:=by kernel_rfl
theorem partsPE(a:Addr)(w:World):(ReflectliteValue.parts (.agg #[.pointer (some ⟨1,89,none⟩),.pointer (some a),.int .u64 150])).run Go.Proofs.Tryz.prog w=.ok (some (89,a,150)) w:=by kernel_rfl
theorem underPE:Go.Proofs.Tryz.prog.underlying 89=some (.pointer 40):=by kernel_rfl
theorem isNilE(a p:Addr)(W:World)(ha:W.cell? a=some (.pointer (some p))) :
  (ReflectliteValue.method (ReflectliteValue.valueError "reflectlite.Value.IsNil" 0) ReflectliteValue.isNil #[(.agg #[.pointer (some ⟨1,89,none⟩),.pointer (some a),.int .u64 150])]).run Go.Proofs.Tryz.prog W=.ok (.bool false) W:=by
 rw[rlm]
 simp only[Sem.run_bind,partsPE,Result.andThen]
 simp[ReflectliteValue.isNil,loadVar,isAgg,underlying,underPE,ha,Result.andThen]
theorem elemE(w:World):(ReflectliteType.method ReflectliteType.elem #[.agg #[.pointer (some ⟨1,89,none⟩)]]).run Go.Proofs.Tryz.prog w=.ok (.iface 153 (.agg #[.pointer (some ⟨1,40,none⟩)])) w:=by kernel_rfl
theorem implE(w:World):(ReflectliteType.relation "Implements" ReflectliteType.implements_ #[.agg #[.pointer (some ⟨1,40,none⟩)],.iface 153 (.agg #[.pointer (some ⟨1,38,none⟩)])]).run Go.Proofs.Tryz.prog w=.ok (.bool true) w:=by kernel_rfl
theorem typeOfE(v:Value)(w:World):(ReflectliteType.typeOf #[.iface 40 v]).run Go.Proofs.Tryz.prog w=.ok (.iface 153 (.agg #[.pointer (some ⟨1,40,none⟩)])) w:=by kernel_rfl
theorem elemOfE(w:World):(Rtype.elem? 89).run Go.Proofs.Tryz.prog w=.ok (some 40) w:=by kernel_rfl
theorem mkE(p:Addr)(w:World):(ReflectliteValue.mk 40 p ReflectliteValue.flagAddr).run Go.Proofs.Tryz.prog w=.ok (.agg #[.pointer (some ⟨1,40,none⟩),.pointer (some p),.int .u64 386]) w:=by kernel_rfl
theorem elemVE(a p:Addr)(W:World)(ha:W.cell? a=some (.pointer (some p))) :
  (ReflectliteValue.method (ReflectliteValue.valueError "reflectlite.Value.Elem" 0) ReflectliteValue.elem #[(.agg #[.pointer (some ⟨1,89,none⟩),.pointer (some a),.int .u64 150])]).run Go.Proofs.Tryz.prog W=.ok (.agg #[.pointer (some ⟨1,40,none⟩),.pointer (some p),.int .u64 386]) W:=by
 rw[rlm]
 simp only[Sem.run_bind,partsPE,Result.andThen]
 simp[ReflectliteValue.elem,loadVar,isAgg,underlying,underPE,ha,Result.andThen,elemOfE,mkE]
theorem partsEa(a:Addr)(w:World):(ReflectliteValue.parts (.agg #[.pointer (some ⟨1,40,none⟩),.pointer (some a),.int .u64 386])).run Go.Proofs.Tryz.prog w=.ok (some (40,a,386)) w:=by kernel_rfl
theorem partsE(a:Addr)(w:World):(ReflectliteValue.parts (.agg #[.pointer (some ⟨1,40,none⟩),.pointer (some a),.int .u64 130])).run Go.Proofs.Tryz.prog w=.ok (some (40,a,130)) w:=by kernel_rfl
theorem directE(w:World):(Rtype.directlyAssignable 40 40).run Go.Proofs.Tryz.prog w=.ok true w:=by kernel_rfl
theorem underE:Go.Proofs.Tryz.prog.underlying 40=some (.int .i64):=by kernel_rfl
theorem valueE(x:Int)(w:World):(ReflectliteValue.unpack (.iface 40 (.int .i64 x))).run Go.Proofs.Tryz.prog w=.ok (.agg #[.pointer (some ⟨1,40,none⟩),.pointer (some ⟨w.heap.size,0,none⟩),.int .u64 130]) (w.alloc (.cells #[.int .i64 x] 40)):=by kernel_rfl
theorem setE(ta b:Addr)(x:Int)(old:Value)(W:World)(hb:W.cell? b=some (.int .i64 x))(ht:W.cell? ta=some old)(hf:W.frozen? ta=false) :
  (ReflectliteValue.set #[(.agg #[.pointer (some ⟨1,40,none⟩),.pointer (some ta),.int .u64 386]),(.agg #[.pointer (some ⟨1,40,none⟩),.pointer (some b),.int .u64 130])]).run Go.Proofs.Tryz.prog W=.ok (.tuple #[]) (W.setCell ta (.int .i64 x)):=by
 rw[rls]
 simp only[Sem.run_bind,partsEa,partsE,Result.andThen]
 simp[ReflectliteValue.flagAddr,loadVar,isAgg,underlying,underE,hb,Result.andThen,directE,storeVar,Value.cells,storeCells,Addr.add]
 rw[run_store Go.Proofs.Tryz.prog W ta _ _ (by rfl)]
 simp[ht,hf]
theorem assignFF(w:World):(ReflectliteType.relation "AssignableTo" ReflectliteType.assignableTo #[.agg #[.pointer (some ⟨1,59,none⟩)],.iface 153 (.agg #[.pointer (some ⟨1,59,none⟩)])]).run Go.Proofs.Tryz.prog w=.ok (.bool true) w:=by kernel_rfl
theorem assignFE(w:World):(ReflectliteType.relation "AssignableTo" ReflectliteType.assignableTo #[.agg #[.pointer (some ⟨1,59,none⟩)],.iface 153 (.agg #[.pointer (some ⟨1,40,none⟩)])]).run Go.Proofs.Tryz.prog w=.ok (.bool false) w:=by kernel_rfl
theorem assignEF(w:World):(ReflectliteType.relation "AssignableTo" ReflectliteType.assignableTo #[.agg #[.pointer (some ⟨1,40,none⟩)],.iface 153 (.agg #[.pointer (some ⟨1,59,none⟩)])]).run Go.Proofs.Tryz.prog w=.ok (.bool false) w:=by kernel_rfl
theorem assignEE(w:World):(ReflectliteType.relation "AssignableTo" ReflectliteType.assignableTo #[.agg #[.pointer (some ⟨1,40,none⟩)],.iface 153 (.agg #[.pointer (some ⟨1,40,none⟩)])]).run Go.Proofs.Tryz.prog w=.ok (.bool true) w:=by kernel_rfl
theorem taAsF(v:Value)(xT:TypeId)(w:World):(Instr.typeAssert (.iface 59 v) xT 158 true).run Go.Proofs.Tryz.prog w=.ok (.tuple #[.nilIface,.bool false]) w:=run_typeAssert_lacksB Go.Proofs.Tryz.underlying158 (by kernel_rfl) (by kernel_rfl) v xT w
theorem taUnF(v:Value)(xT:TypeId)(w:World):(Instr.typeAssert (.iface 59 v) xT 161 true).run Go.Proofs.Tryz.prog w=.ok (.tuple #[.iface 59 v,.bool true]) w:=run_typeAssert_hasB Go.Proofs.Tryz.underlying161 (by kernel_rfl) v xT w
theorem taAsE(v:Value)(xT:TypeId)(w:World):(Instr.typeAssert (.iface 40 v) xT 158 true).run Go.Proofs.Tryz.prog w=.ok (.tuple #[.nilIface,.bool false]) w:=run_typeAssert_lacksB Go.Proofs.Tryz.underlying158 (by kernel_rfl) (by kernel_rfl) v xT w
theorem taUnE(v:Value)(xT:TypeId)(w:World):(Instr.typeAssert (.iface 40 v) xT 161 true).run Go.Proofs.Tryz.prog w=.ok (.tuple #[.nilIface,.bool false]) w:=run_typeAssert_lacksB Go.Proofs.Tryz.underlying161 (by kernel_rfl) (by kernel_rfl) v xT w
theorem taUsE(v:Value)(xT:TypeId)(w:World):(Instr.typeAssert (.iface 40 v) xT 163 true).run Go.Proofs.Tryz.prog w=.ok (.tuple #[.nilIface,.bool false]) w:=run_typeAssert_lacksB Go.Proofs.Tryz.underlying163 (by kernel_rfl) (by kernel_rfl) v xT w
theorem methodUnwrap(e:Addr)(w:World):(Go.method 345 59 (.pointer (some e)) "Unwrap").run Go.Proofs.Tryz.prog w=.ok (183,.pointer (some e)) w:=by kernel_rfl
end Go.As
namespace Go.As
open Go.RowKit Go.Extern.Stop Go.Stop Go.Extern
abbrev tyF:Value:=.iface 153 (.agg #[.pointer (some ⟨1,59,none⟩)])
abbrev tyE:Value:=.iface 153 (.agg #[.pointer (some ⟨1,40,none⟩)])
abbrev rvO(PT:Nat)(a:Addr):Obj:=.cells #[.pointer (some ⟨1,PT,none⟩),.pointer (some a),.int .u64 150] 107
set_option maxHeartbeats 4000000 in
theorem as_FF(e t a:Addr)(old tgt:Value)(w:World)(ha:w.cell? a=some (.pointer (some t)))(ht0:w.cell? t=some old)(hf0:w.frozen? t=false) :
  Calls Go.Proofs.Tryz.prog 52 #[.iface 59 (.pointer (some e)),tgt,.agg #[.pointer (some ⟨1,61,none⟩),.pointer (some a),.int .u64 150],tyF] w fun ev w'=>ev=.returned (.bool true) ∧
   w'=((w.alloc (rvO 61 a)).alloc (.cells #[.pointer (some e)] 59)).setCell t (.pointer (some e)):=by
 have hTO:=@run_callFunc_extern Go.Proofs.Tryz.prog 94 _ ReflectliteType.typeOf Go.Proofs.Tryz.func94 (by kernel_rfl) (by kernel_rfl) (by kernel_rfl) (by kernel_rfl)
 have hA:=@run_callFunc_extern Go.Proofs.Tryz.prog 188 _ (ReflectliteType.relation "AssignableTo" ReflectliteType.assignableTo) Go.Proofs.Tryz.func188 (by kernel_rfl) (by kernel_rfl) (by kernel_rfl) (by kernel_rfl)
 have hVE:=@run_callFunc_extern Go.Proofs.Tryz.prog 95 _ (ReflectliteValue.method (ReflectliteValue.valueError "reflectlite.Value.Elem" 0) ReflectliteValue.elem) Go.Proofs.Tryz.func95 (by kernel_rfl) (by kernel_rfl) (by kernel_rfl) (by kernel_rfl)
 have hS:=@run_callFunc_extern Go.Proofs.Tryz.prog 96 _ ReflectliteValue.set Go.Proofs.Tryz.func96 (by kernel_rfl) (by kernel_rfl) (by kernel_rfl) (by kernel_rfl)
 have hV:=@run_callFunc_extern Go.Proofs.Tryz.prog 49 _ (fun args=>ReflectliteValue.unpack (args.getD 0 (.tuple #[]))) Go.Proofs.Tryz.func49 (by kernel_rfl) (by kernel_rfl) (by kernel_rfl) (by kernel_rfl)
 have tO:=typeOfF
 have mA:=methodAssignableTo
 have aF:=assignFF
 have vF:=valueF
 have hal:a.block<w.heap.size:=by
  rcases Nat.lt_or_ge a.block w.heap.size with h | h
  ·exact h
  ·simp[World.cell?,Array.getElem?_eq_none h] at ha
 have htl:t.block<w.heap.size:=by
  rcases Nat.lt_or_ge t.block w.heap.size with h | h
  ·exact h
  ·simp[World.cell?,Array.getElem?_eq_none h] at ht0
 have el:=elemVF a t (w.alloc (rvO 61 a)) (by rw[World.cell?_alloc_lt _ _ a hal];exact ha)
 have st:=setF t ⟨w.heap.size+1,0,none⟩ e old ((w.alloc (rvO 61 a)).alloc (.cells #[.pointer (some e)] 59))
  (by rw[World.cell?_alloc_at _ _ _ _ (by simp)];rfl)
  (by rw[World.cell?_alloc_lt _ _ t (by simp;omega),World.cell?_alloc_lt _ _ t htl];exact ht0)
  (by rw[World.frozen?_alloc_old _ _ t (by simp;omega),World.frozen?_alloc_old _ _ t (Nat.ne_of_lt htl)];exact hf0)
 go_enter Go.Proofs.Tryz.func52,Go.Proofs.Tryz.ntmps52
 go_wp2
 refine wp_loop_rounds 1 ?_
 rw[rounds_succ]
 go_wp2
 go_ret
 exact⟨rfl,rfl⟩
set_option maxHeartbeats 4000000 in
theorem as_EF(n:Int)(a:Addr)(tgt:Value)(w:World) :
  Calls Go.Proofs.Tryz.prog 52 #[.iface 40 (.int .i64 n),tgt,.agg #[.pointer (some ⟨1,61,none⟩),.pointer (some a),.int .u64 150],tyF] w fun ev w'=>ev=.returned (.bool false) ∧
   w'=w.alloc (rvO 61 a):=by
 have hTO:=@run_callFunc_extern Go.Proofs.Tryz.prog 94 _ ReflectliteType.typeOf Go.Proofs.Tryz.func94 (by kernel_rfl) (by kernel_rfl) (by kernel_rfl) (by kernel_rfl)
 have hA:=@run_callFunc_extern Go.Proofs.Tryz.prog 188 _ (ReflectliteType.relation "AssignableTo" ReflectliteType.assignableTo) Go.Proofs.Tryz.func188 (by kernel_rfl) (by kernel_rfl) (by kernel_rfl) (by kernel_rfl)
 have tO:=typeOfE
 have mA:=methodAssignableTo
 have aF:=assignEF
 have t1:=taAsE
 have t2:=taUnE
 have t3:=taUsE
 go_enter Go.Proofs.Tryz.func52,Go.Proofs.Tryz.ntmps52
 go_wp2
 refine wp_loop_rounds 1 ?_
 rw[rounds_succ]
 go_wp2
 go_ret
 exact⟨rfl,rfl⟩
set_option maxHeartbeats 4000000 in
theorem as_EE(n:Int)(t a:Addr)(old tgt:Value)(w:World)(ha:w.cell? a=some (.pointer (some t)))(ht0:w.cell? t=some old)(hf0:w.frozen? t=false) :
  Calls Go.Proofs.Tryz.prog 52 #[.iface 40 (.int .i64 n),tgt,.agg #[.pointer (some ⟨1,89,none⟩),.pointer (some a),.int .u64 150],tyE] w fun ev w'=>ev=.returned (.bool true) ∧
   w'=((w.alloc (rvO 89 a)).alloc (.cells #[.int .i64 n] 40)).setCell t (.int .i64 n):=by
 have hTO:=@run_callFunc_extern Go.Proofs.Tryz.prog 94 _ ReflectliteType.typeOf Go.Proofs.Tryz.func94 (by kernel_rfl) (by kernel_rfl) (by kernel_rfl) (by kernel_rfl)
 have hA:=@run_callFunc_extern Go.Proofs.Tryz.prog 188 _ (ReflectliteType.relation "AssignableTo" ReflectliteType.assignableTo) Go.Proofs.Tryz.func188 (by kernel_rfl) (by kernel_rfl) (by kernel_rfl) (by kernel_rfl)
 have hVE:=@run_callFunc_extern Go.Proofs.Tryz.prog 95 _ (ReflectliteValue.method (ReflectliteValue.valueError "reflectlite.Value.Elem" 0) ReflectliteValue.elem) Go.Proofs.Tryz.func95 (by kernel_rfl) (by kernel_rfl) (by kernel_rfl) (by kernel_rfl)
 have hS:=@run_callFunc_extern Go.Proofs.Tryz.prog 96 _ ReflectliteValue.set Go.Proofs.Tryz.func96 (by kernel_rfl) (by kernel_rfl) (by kernel_rfl) (by kernel_rfl)
 have hV:=@run_callFunc_extern Go.Proofs.Tryz.prog 49 _ (fun args=>ReflectliteValue.unpack (args.getD 0 (.tuple #[]))) Go.Proofs.Tryz.func49 (by kernel_rfl) (by kernel_rfl) (by kernel_rfl) (by kernel_rfl)
 have tO:=typeOfE
 have mA:=methodAssignableTo
 have aE:=assignEE
 have vE:=valueE
 have hal:a.block<w.heap.size:=by
  rcases Nat.lt_or_ge a.block w.heap.size with h | h
  ·exact h
  ·simp[World.cell?,Array.getElem?_eq_none h] at ha
 have htl:t.block<w.heap.size:=by
  rcases Nat.lt_or_ge t.block w.heap.size with h | h
  ·exact h
  ·simp[World.cell?,Array.getElem?_eq_none h] at ht0
 have el:=elemVE a t (w.alloc (rvO 89 a)) (by rw[World.cell?_alloc_lt _ _ a hal];exact ha)
 have st:=setE t ⟨w.heap.size+1,0,none⟩ n old ((w.alloc (rvO 89 a)).alloc (.cells #[.int .i64 n] 40))
  (by rw[World.cell?_alloc_at _ _ _ _ (by simp)];rfl)
  (by rw[World.cell?_alloc_lt _ _ t (by simp;omega),World.cell?_alloc_lt _ _ t htl];exact ht0)
  (by rw[World.frozen?_alloc_old _ _ t (by simp;omega),World.frozen?_alloc_old _ _ t (Nat.ne_of_lt htl)];exact hf0)
 go_enter Go.Proofs.Tryz.func52,Go.Proofs.Tryz.ntmps52
 go_wp2
 refine wp_loop_rounds 1 ?_
 rw[rounds_succ]
 go_wp2
 go_ret
 exact⟨rfl,rfl⟩
end Go.As
namespace Go.As
open Go.RowKit Go.Extern.Stop Go.Stop Go.Extern
abbrev errT:Value:=.iface 153 (.agg #[.pointer (some ⟨1,38,none⟩)])
set_option maxHeartbeats 4000000 in
theorem As_F(d:TypeId)(v:Value)(t:Addr)(w w2:World)(r:Bool)(hg:w.cell? ⟨0,0,none⟩=some errT)
  (h:Calls Go.Proofs.Tryz.prog 52 #[.iface d v,.iface 61 (.pointer (some t)),.agg #[.pointer (some ⟨1,61,none⟩),.pointer (some ⟨w.heap.size,0,none⟩),.int .u64 150],tyF] ((w.alloc (.cells #[.pointer (some t)] 61)).alloc (rvO 61 ⟨w.heap.size,0,none⟩)) fun ev w'=>ev=.returned (.bool r)∧w'=w2) :
  Calls Go.Proofs.Tryz.prog 22 #[.iface d v,.iface 61 (.pointer (some t))] w fun ev w'=>ev=.returned (.bool r)∧w'=w2:=by
 have hV:=@run_callFunc_extern Go.Proofs.Tryz.prog 49 _ (fun args=>ReflectliteValue.unpack (args.getD 0 (.tuple #[]))) Go.Proofs.Tryz.func49 (by kernel_rfl) (by kernel_rfl) (by kernel_rfl) (by kernel_rfl)
 have hT:=@run_callFunc_extern Go.Proofs.Tryz.prog 50 _ (ReflectliteValue.methodAny (ReflectliteValue.valueError "reflectlite.Value.Type" 0) (fun t _ _ _=>ReflectliteType.toType t)) Go.Proofs.Tryz.func50 (by kernel_rfl) (by kernel_rfl) (by kernel_rfl) (by kernel_rfl)
 have hN:=@run_callFunc_extern Go.Proofs.Tryz.prog 51 _ (ReflectliteValue.method (ReflectliteValue.valueError "reflectlite.Value.IsNil" 0) ReflectliteValue.isNil) Go.Proofs.Tryz.func51 (by kernel_rfl) (by kernel_rfl) (by kernel_rfl) (by kernel_rfl)
 have hK:=@run_callFunc_extern Go.Proofs.Tryz.prog 178 _ (ReflectliteType.abiMethod fun t=>do pure (.int .u8 (←Rtype.kind t))) Go.Proofs.Tryz.func178 (by kernel_rfl) (by kernel_rfl) (by kernel_rfl) (by kernel_rfl)
 have hE:=@run_callFunc_extern Go.Proofs.Tryz.prog 190 _ (ReflectliteType.method ReflectliteType.elem) Go.Proofs.Tryz.func190 (by kernel_rfl) (by kernel_rfl) (by kernel_rfl) (by kernel_rfl)
 have hI:=@run_callFunc_extern Go.Proofs.Tryz.prog 191 _ (ReflectliteType.relation "Implements" ReflectliteType.implements_) Go.Proofs.Tryz.func191 (by kernel_rfl) (by kernel_rfl) (by kernel_rfl) (by kernel_rfl)
 have f6:=valueOfF
 have f7:=typeF
 have mK:=methodKind
 have mE:=methodElem
 have mI:=methodImplements
 have kP:=kindPF
 have kT:=kindF
 have eT:=elemF
 have iT:=implF
 have n8:=isNilF ⟨w.heap.size,0,none⟩ t ((w.alloc (.cells #[.pointer (some t)] 61)).alloc (rvO 61 ⟨w.heap.size,0,none⟩)) (by simp)
 have hlt:0<w.heap.size:=by
  rcases Nat.eq_zero_or_pos w.heap.size with h0 | h
  ·simp[World.cell?,h0] at hg
  ·exact h
 have hg2:((w.alloc (.cells #[.pointer (some t)] 61)).alloc (rvO 61 ⟨w.heap.size,0,none⟩)).cell? ⟨0,0,none⟩=some errT:=by
  rw[World.cell?_alloc_lt _ _ ⟨0,0,none⟩ (by simp),World.cell?_alloc_lt _ _ ⟨0,0,none⟩ hlt];exact hg
 go_enter Go.Proofs.Tryz.func22,Go.Proofs.Tryz.ntmps22
 go_wp2_with (first | (go_at_call 52;refine h.mono ?_;rintro e w' ⟨rfl,rfl⟩))
 go_ret
 exact⟨rfl,rfl⟩
set_option maxHeartbeats 4000000 in
theorem As_E(d:TypeId)(v:Value)(t:Addr)(w w2:World)(r:Bool)(hg:w.cell? ⟨0,0,none⟩=some errT)
  (h:Calls Go.Proofs.Tryz.prog 52 #[.iface d v,.iface 89 (.pointer (some t)),.agg #[.pointer (some ⟨1,89,none⟩),.pointer (some ⟨w.heap.size,0,none⟩),.int .u64 150],tyE] ((w.alloc (.cells #[.pointer (some t)] 89)).alloc (rvO 89 ⟨w.heap.size,0,none⟩)) fun ev w'=>ev=.returned (.bool r)∧w'=w2) :
  Calls Go.Proofs.Tryz.prog 22 #[.iface d v,.iface 89 (.pointer (some t))] w fun ev w'=>ev=.returned (.bool r)∧w'=w2:=by
 have hV:=@run_callFunc_extern Go.Proofs.Tryz.prog 49 _ (fun args=>ReflectliteValue.unpack (args.getD 0 (.tuple #[]))) Go.Proofs.Tryz.func49 (by kernel_rfl) (by kernel_rfl) (by kernel_rfl) (by kernel_rfl)
 have hT:=@run_callFunc_extern Go.Proofs.Tryz.prog 50 _ (ReflectliteValue.methodAny (ReflectliteValue.valueError "reflectlite.Value.Type" 0) (fun t _ _ _=>ReflectliteType.toType t)) Go.Proofs.Tryz.func50 (by kernel_rfl) (by kernel_rfl) (by kernel_rfl) (by kernel_rfl)
 have hN:=@run_callFunc_extern Go.Proofs.Tryz.prog 51 _ (ReflectliteValue.method (ReflectliteValue.valueError "reflectlite.Value.IsNil" 0) ReflectliteValue.isNil) Go.Proofs.Tryz.func51 (by kernel_rfl) (by kernel_rfl) (by kernel_rfl) (by kernel_rfl)
 have hK:=@run_callFunc_extern Go.Proofs.Tryz.prog 178 _ (ReflectliteType.abiMethod fun t=>do pure (.int .u8 (←Rtype.kind t))) Go.Proofs.Tryz.func178 (by kernel_rfl) (by kernel_rfl) (by kernel_rfl) (by kernel_rfl)
 have hE:=@run_callFunc_extern Go.Proofs.Tryz.prog 190 _ (ReflectliteType.method ReflectliteType.elem) Go.Proofs.Tryz.func190 (by kernel_rfl) (by kernel_rfl) (by kernel_rfl) (by kernel_rfl)
 have hI:=@run_callFunc_extern Go.Proofs.Tryz.prog 191 _ (ReflectliteType.relation "Implements" ReflectliteType.implements_) Go.Proofs.Tryz.func191 (by kernel_rfl) (by kernel_rfl) (by kernel_rfl) (by kernel_rfl)
 have f6:=valueOfE
 have f7:=typeE
 have mK:=methodKind
 have mE:=methodElem
 have mI:=methodImplements
 have kP:=kindPE
 have kT:=kindE
 have eT:=elemE
 have iT:=implE
 have n8:=isNilE ⟨w.heap.size,0,none⟩ t ((w.alloc (.cells #[.pointer (some t)] 89)).alloc (rvO 89 ⟨w.heap.size,0,none⟩)) (by simp)
 have hlt:0<w.heap.size:=by
  rcases Nat.eq_zero_or_pos w.heap.size with h0 | h
  ·simp[World.cell?,h0] at hg
  ·exact h
 have hg2:((w.alloc (.cells #[.pointer (some t)] 89)).alloc (rvO 89 ⟨w.heap.size,0,none⟩)).cell? ⟨0,0,none⟩=some errT:=by
  rw[World.cell?_alloc_lt _ _ ⟨0,0,none⟩ (by simp),World.cell?_alloc_lt _ _ ⟨0,0,none⟩ hlt];exact hg
 go_enter Go.Proofs.Tryz.func22,Go.Proofs.Tryz.ntmps22
 go_wp2_with (first | (go_at_call 52;refine h.mono ?_;rintro e w' ⟨rfl,rfl⟩))
 go_ret
 exact⟨rfl,rfl⟩
end Go.As
namespace Go.As
open Go.RowKit Go.Extern.Stop Go.Stop Go.Extern
open Go.Vc (Sat)
theorem unwrap(b:Nat)(v:Value)(w:World)(he:w.cell? ⟨b,2,none⟩=some v):Calls Go.Proofs.Tryz.prog 183 #[.pointer (some ⟨b,0,none⟩)] w fun ev w'=>ev=.returned v∧w'=w:=by
 go_enter Go.Proofs.Tryz.func183,Go.Proofs.Tryz.ntmps183
 go_wp2
 go_ret
 exact⟨rfl,rfl⟩
set_option maxHeartbeats 4000000 in
theorem as_F1E(b:Nat)(n:Int)(t a:Addr)(old tgt:Value)(w:World)(he:w.cell? ⟨b,2,none⟩=some (.iface 40 (.int .i64 n)))(ha:w.cell? a=some (.pointer (some t)))(ht0:w.cell? t=some old)(hf0:w.frozen? t=false) :
  Calls Go.Proofs.Tryz.prog 52 #[.iface 59 (.pointer (some ⟨b,0,none⟩)),tgt,.agg #[.pointer (some ⟨1,89,none⟩),.pointer (some a),.int .u64 150],tyE] w fun ev w'=>ev=.returned (.bool true) ∧
   w'=((w.alloc (rvO 89 a)).alloc (.cells #[.int .i64 n] 40)).setCell t (.int .i64 n):=by
 have hTO:=@run_callFunc_extern Go.Proofs.Tryz.prog 94 _ ReflectliteType.typeOf Go.Proofs.Tryz.func94 (by kernel_rfl) (by kernel_rfl) (by kernel_rfl) (by kernel_rfl)
 have hA:=@run_callFunc_extern Go.Proofs.Tryz.prog 188 _ (ReflectliteType.relation "AssignableTo" ReflectliteType.assignableTo) Go.Proofs.Tryz.func188 (by kernel_rfl) (by kernel_rfl) (by kernel_rfl) (by kernel_rfl)
 have hVE:=@run_callFunc_extern Go.Proofs.Tryz.prog 95 _ (ReflectliteValue.method (ReflectliteValue.valueError "reflectlite.Value.Elem" 0) ReflectliteValue.elem) Go.Proofs.Tryz.func95 (by kernel_rfl) (by kernel_rfl) (by kernel_rfl) (by kernel_rfl)
 have hS:=@run_callFunc_extern Go.Proofs.Tryz.prog 96 _ ReflectliteValue.set Go.Proofs.Tryz.func96 (by kernel_rfl) (by kernel_rfl) (by kernel_rfl) (by kernel_rfl)
 have hV:=@run_callFunc_extern Go.Proofs.Tryz.prog 49 _ (fun args=>ReflectliteValue.unpack (args.getD 0 (.tuple #[]))) Go.Proofs.Tryz.func49 (by kernel_rfl) (by kernel_rfl) (by kernel_rfl) (by kernel_rfl)
 have tO:=typeOfE
 have tO2:=typeOfF
 have mA:=methodAssignableTo
 have aE:=assignEE
 have aF:=assignFE
 have vE:=valueE
 have t1:=taAsF
 have t2:=taUnF
 have mU:=methodUnwrap
 have hal:a.block<w.heap.size:=by
  rcases Nat.lt_or_ge a.block w.heap.size with h | h
  ·exact h
  ·simp[World.cell?,Array.getElem?_eq_none h] at ha
 have hel:b<w.heap.size:=by
  rcases Nat.lt_or_ge b w.heap.size with h | h
  ·exact h
  ·simp[World.cell?,Array.getElem?_eq_none h] at he
 have htl:t.block<w.heap.size:=by
  rcases Nat.lt_or_ge t.block w.heap.size with h | h
  ·exact h
  ·simp[World.cell?,Array.getElem?_eq_none h] at ht0
 have he1:(w.alloc (rvO 89 a)).cell? ⟨b,2,none⟩=some (.iface 40 (.int .i64 n)):=by rw[World.cell?_alloc_lt _ _ _ hel];exact he
 have el:=elemVE a t (w.alloc (rvO 89 a)) (by rw[World.cell?_alloc_lt _ _ a hal];exact ha)
 have st:=setE t ⟨w.heap.size+1,0,none⟩ n old ((w.alloc (rvO 89 a)).alloc (.cells #[.int .i64 n] 40))
  (by rw[World.cell?_alloc_at _ _ _ _ (by simp)];rfl)
  (by rw[World.cell?_alloc_lt _ _ t (by simp;omega),World.cell?_alloc_lt _ _ t htl];exact ht0)
  (by rw[World.frozen?_alloc_old _ _ t (by simp;omega),World.frozen?_alloc_old _ _ t (Nat.ne_of_lt htl)];exact hf0)
 go_enter Go.Proofs.Tryz.func52,Go.Proofs.Tryz.ntmps52
 go_wp2
 refine wp_loop_rounds 2 ?_
 rw[rounds_succ]
 go_wp2_with (first | (go_at_call 183;refine (unwrap b _ _ he1).mono ?_;rintro e w' ⟨rfl,rfl⟩))
 rw[rounds_succ]
 go_wp2
 go_ret
 exact⟨rfl,rfl⟩
end Go.As
namespace Go.As
open Go.RowKit Go.Extern.Stop Go.Stop Go.Extern
set_option maxHeartbeats 4000000 in
theorem as_F2E(b c:Nat)(n:Int)(t a:Addr)(old tgt:Value)(w:World)(he:w.cell? ⟨b,2,none⟩=some (.iface 59 (.pointer (some ⟨c,0,none⟩))))(hc:w.cell? ⟨c,2,none⟩=some (.iface 40 (.int .i64 n)))(ha:w.cell? a=some (.pointer (some t)))(ht0:w.cell? t=some old)(hf0:w.frozen? t=false) :
  Calls Go.Proofs.Tryz.prog 52 #[.iface 59 (.pointer (some ⟨b,0,none⟩)),tgt,.agg #[.pointer (some ⟨1,89,none⟩),.pointer (some a),.int .u64 150],tyE] w fun ev w'=>ev=.returned (.bool true) ∧
   w'=((w.alloc (rvO 89 a)).alloc (.cells #[.int .i64 n] 40)).setCell t (.int .i64 n):=by
 have hTO:=@run_callFunc_extern Go.Proofs.Tryz.prog 94 _ ReflectliteType.typeOf Go.Proofs.Tryz.func94 (by kernel_rfl) (by kernel_rfl) (by kernel_rfl) (by kernel_rfl)
 have hA:=@run_callFunc_extern Go.Proofs.Tryz.prog 188 _ (ReflectliteType.relation "AssignableTo" ReflectliteType.assignableTo) Go.Proofs.Tryz.func188 (by kernel_rfl) (by kernel_rfl) (by kernel_rfl) (by kernel_rfl)
 have hVE:=@run_callFunc_extern Go.Proofs.Tryz.prog 95 _ (ReflectliteValue.method (ReflectliteValue.valueError "reflectlite.Value.Elem" 0) ReflectliteValue.elem) Go.Proofs.Tryz.func95 (by kernel_rfl) (by kernel_rfl) (by kernel_rfl) (by kernel_rfl)
 have hS:=@run_callFunc_extern Go.Proofs.Tryz.prog 96 _ ReflectliteValue.set Go.Proofs.Tryz.func96 (by kernel_rfl) (by kernel_rfl) (by kernel_rfl) (by kernel_rfl)
 have hV:=@run_callFunc_extern Go.Proofs.Tryz.prog 49 _ (fun args=>ReflectliteValue.unpack (args.getD 0 (.tuple #[]))) Go.Proofs.Tryz.func49 (by kernel_rfl) (by kernel_rfl) (by kernel_rfl) (by kernel_rfl)
 have tO:=typeOfE
 have tO2:=typeOfF
 have mA:=methodAssignableTo
 have aE:=assignEE
 have aF:=assignFE
 have vE:=valueE
 have t1:=taAsF
 have t2:=taUnF
 have mU:=methodUnwrap
 have hal:a.block<w.heap.size:=by
  rcases Nat.lt_or_ge a.block w.heap.size with h | h
  ·exact h
  ·simp[World.cell?,Array.getElem?_eq_none h] at ha
 have hel:b<w.heap.size:=by
  rcases Nat.lt_or_ge b w.heap.size with h | h
  ·exact h
  ·simp[World.cell?,Array.getElem?_eq_none h] at he
 have htl:t.block<w.heap.size:=by
  rcases Nat.lt_or_ge t.block w.heap.size with h | h
  ·exact h
  ·simp[World.cell?,Array.getElem?_eq_none h] at ht0
 have he1:(w.alloc (rvO 89 a)).cell? ⟨b,2,none⟩=some (.iface 59 (.pointer (some ⟨c,0,none⟩))):=by rw[World.cell?_alloc_lt _ _ _ hel];exact he
 have hcl:c<w.heap.size:=by
  rcases Nat.lt_or_ge c w.heap.size with h | h
  ·exact h
  ·simp[World.cell?,Array.getElem?_eq_none h] at hc
 have hc1:(w.alloc (rvO 89 a)).cell? ⟨c,2,none⟩=some (.iface 40 (.int .i64 n)):=by rw[World.cell?_alloc_lt _ _ _ hcl];exact hc
 have el:=elemVE a t (w.alloc (rvO 89 a)) (by rw[World.cell?_alloc_lt _ _ a hal];exact ha)
 have st:=setE t ⟨w.heap.size+1,0,none⟩ n old ((w.alloc (rvO 89 a)).alloc (.cells #[.int .i64 n] 40))
  (by rw[World.cell?_alloc_at _ _ _ _ (by simp)];rfl)
  (by rw[World.cell?_alloc_lt _ _ t (by simp;omega),World.cell?_alloc_lt _ _ t htl];exact ht0)
  (by rw[World.frozen?_alloc_old _ _ t (by simp;omega),World.frozen?_alloc_old _ _ t (Nat.ne_of_lt htl)];exact hf0)
 go_enter Go.Proofs.Tryz.func52,Go.Proofs.Tryz.ntmps52
 go_wp2
 refine wp_loop_rounds 3 ?_
 rw[rounds_succ]
 go_wp2_with (first | (go_at_call 183;refine (unwrap b _ _ he1).mono ?_;rintro e w' ⟨rfl,rfl⟩))
 rw[rounds_succ]
 go_wp2_with (first | (go_at_call 183;refine (unwrap c _ _ hc1).mono ?_;rintro e w' ⟨rfl,rfl⟩))
 rw[rounds_succ]
 go_wp2
 go_ret
 exact⟨rfl,rfl⟩
end Go.As
namespace Go.Lx
open Go.Vc
def Gl(I:Imm):Prop:=∃cs ty fz,I 0=some (.cells cs ty fz)∧cs[0]? = some Go.As.errT
theorem Gl.mono{I J:Imm}(h:Gl I)(hl:Imm.le I J):Gl J:=let ⟨cs,ty,fz,h1,h2⟩:=h;⟨cs,ty,fz,hl.at h1,h2⟩
theorem Gl.cell{I:Imm}{F:Heap}{w:World}(h:Gl I)(hw:Sat I F w):w.cell? ⟨0,0,none⟩=some Go.As.errT:=by
 obtain⟨cs,ty,fz,h1,h2⟩:=h
 have:=hw.imm _ _ h1
 unfold World.cell?
 simp[this,h2]
theorem Gl.of_cell{w:World}(h:w.cell? ⟨0,0,none⟩=some Go.As.errT):Gl (Imm.all w):=by
 unfold World.cell? at h
 split at h
 ·rename_i c ty fz hc
  exact⟨c,ty,fz,hc,by simpa using h⟩
 ·cases h
theorem own_cell{I:Imm}{F:Heap}{w:World}{t ty:Nat}{old:Value}(hw:Sat I ((t,.cells #[old] ty (0,0))::F) w):w.cell? ⟨t,0,none⟩=some old∧w.frozen? ⟨t,0,none⟩=false:=by
 have:=hw.own _ _ (.head _)
 unfold World.cell? World.frozen?
 simp[this]
theorem Flr.cell{I:Imm}{F:Heap}{w:World}{b ty:Nat}{fz:Nat×Nat}{x y z:Value}(h:I b=some (.cells #[x,y,z] ty fz))(hw:Sat I F w):w.cell? ⟨b,2,none⟩=some z:=by
 have:=hw.imm _ _ h
 unfold World.cell?
 simp[this]
theorem alloc_lt{w:World}{o o':Obj}{a:Addr}{v:Value}(h:w.cell? a=some v):((w.alloc o).alloc o').cell? a=some v:=by
 have hl:a.block<w.heap.size:=by
  rcases Nat.lt_or_ge a.block w.heap.size with h1 | h1
  ·exact h1
  ·simp[World.cell?,Array.getElem?_eq_none h1] at h
 rw[World.cell?_alloc_lt _ _ _ (by simp;omega),World.cell?_alloc_lt _ _ _ hl];exact h
theorem frozen_lt{w:World}{o o':Obj}{a:Addr}{v:Value}(h:w.cell? a=some v)(hf:w.frozen? a=false):((w.alloc o).alloc o').frozen? a=false:=by
 have hl:a.block<w.heap.size:=by
  rcases Nat.lt_or_ge a.block w.heap.size with h1 | h1
  ·exact h1
  ·simp[World.cell?,Array.getElem?_eq_none h1] at h
 rw[World.frozen?_alloc_old _ _ _ (by simp;omega),World.frozen?_alloc_old _ _ _ (Nat.ne_of_lt hl)];exact hf
end Go.Lx
namespace Go.Vc
theorem Sat.allocW{I:Imm}{F:Heap}{w:World}(h:Sat I F w)(o:Obj):Sat I F (w.alloc o):=(h.alloc o).drop (A:=[_])
theorem Sat.setW{I:Imm}{F:Heap}{w:World}{t ty:Nat}{old v:Value}(h:Sat I ((t,.cells #[old] ty (0,0))::F) w):Sat I ((t,.cells #[v] ty (0,0))::F) (w.setCell ⟨t,0,none⟩ v) :=
 Sat.set h (setCell_heap (cs:=[old]) (h.own _ _ (.head _)) 0 v) ⟨rfl,rfl⟩
end Go.Vc
namespace Go.Lx
open Go.Vc
def AsQ(r:Bool)(G:Heap)(e:Ending)(I:Imm)(F:Heap):Prop:=e=.returned (.bool r)∧F=G
section
variable {I:Imm} {F:Heap} {t ty:Nat} {old:Value}
theorem As_hitF(hg:Gl I)(b:Nat):Tri P 22 #[.iface 59 (.pointer (some ⟨b,0,none⟩)),.iface 61 (.pointer (some ⟨t,0,none⟩))] I ((t,.cells #[old] ty (0,0))::F) (AsQ true ((t,.cells #[.pointer (some ⟨b,0,none⟩)] ty (0,0))::F)):=fun w hw=>by
 obtain⟨hc,hf⟩:=own_cell hw
 refine (Go.As.As_F _ _ _ w _ true (hg.cell hw) (Go.As.as_FF ⟨b,0,none⟩ ⟨t,0,none⟩ ⟨w.heap.size,0,none⟩ old _ _ (by simp) (alloc_lt hc) (frozen_lt hc hf))).mono fun e w' ⟨he,hw'⟩=>⟨I,_,Imm.le_refl I, ?_,he,rfl⟩
 rw[hw']
 exact Sat.setW ((((hw.allocW _).allocW _).allocW _).allocW _)
theorem As_noF(hg:Gl I)(n:Int):Tri P 22 #[errno n,.iface 61 (.pointer (some ⟨t,0,none⟩))] I F (AsQ false F):=fun w hw=>by
 refine (Go.As.As_F _ _ _ w _ false (hg.cell hw) (Go.As.as_EF n ⟨w.heap.size,0,none⟩ _ _)).mono fun e w' ⟨he,hw'⟩=>⟨I,_,Imm.le_refl I, ?_,he,rfl⟩
 rw[hw']
 exact ((hw.allocW _).allocW _).allocW _
theorem As_E0(hg:Gl I)(n:Int):Tri P 22 #[errno n,.iface 89 (.pointer (some ⟨t,0,none⟩))] I ((t,.cells #[old] ty (0,0))::F) (AsQ true ((t,.cells #[.int .i64 n] ty (0,0))::F)):=fun w hw=>by
 obtain⟨hc,hf⟩:=own_cell hw
 refine (Go.As.As_E _ _ _ w _ true (hg.cell hw) (Go.As.as_EE n ⟨t,0,none⟩ ⟨w.heap.size,0,none⟩ old _ _ (by simp) (alloc_lt hc) (frozen_lt hc hf))).mono fun e w' ⟨he,hw'⟩=>⟨I,_,Imm.le_refl I, ?_,he,rfl⟩
 rw[hw']
 exact Sat.setW ((((hw.allocW _).allocW _).allocW _).allocW _)
theorem As_E1(hg:Gl I){call:ByteArray}{pos n:Int}{v:Value}(h:Flr I call pos (errno n) v):Tri P 22 #[v,.iface 89 (.pointer (some ⟨t,0,none⟩))] I ((t,.cells #[old] ty (0,0))::F) (AsQ true ((t,.cells #[.int .i64 n] ty (0,0))::F)):=fun w hw=>by
 obtain⟨b,rfl,hb⟩:=h
 obtain⟨hc,hf⟩:=own_cell hw
 refine (Go.As.As_E _ _ _ w _ true (hg.cell hw) (Go.As.as_F1E b n ⟨t,0,none⟩ ⟨w.heap.size,0,none⟩ old _ _ (alloc_lt (Flr.cell hb hw)) (by simp) (alloc_lt hc) (frozen_lt hc hf))).mono fun e w' ⟨he,hw'⟩=>⟨I,_,Imm.le_refl I, ?_,he,rfl⟩
 rw[hw']
 exact Sat.setW ((((hw.allocW _).allocW _).allocW _).allocW _)
theorem As_E2(hg:Gl I){call call':ByteArray}{pos pos' n:Int}{v u:Value}(h:Flr I call pos u v)(h':Flr I call' pos' (errno n) u):Tri P 22 #[v,.iface 89 (.pointer (some ⟨t,0,none⟩))] I ((t,.cells #[old] ty (0,0))::F) (AsQ true ((t,.cells #[.int .i64 n] ty (0,0))::F)):=fun w hw=>by
 obtain⟨b,rfl,hb⟩:=h
 obtain⟨c,rfl,hc'⟩:=h'
 obtain⟨hc,hf⟩:=own_cell hw
 refine (Go.As.As_E _ _ _ w _ true (hg.cell hw) (Go.As.as_F2E b c n ⟨t,0,none⟩ ⟨w.heap.size,0,none⟩ old _ _ (alloc_lt (Flr.cell hb hw)) (alloc_lt (Flr.cell hc' hw)) (by simp) (alloc_lt hc) (frozen_lt hc hf))).mono fun e w' ⟨he,hw'⟩=>⟨I,_,Imm.le_refl I, ?_,he,rfl⟩
 rw[hw']
 exact Sat.setW ((((hw.allocW _).allocW _).allocW _).allocW _)
end
def ChkE(I:Imm)(f:TF)(v:Value):Prop :=
 (f.e=0→v=.nilIface)∧(f.e≠0→if f.of then ∃u,Flr I callOf f.pos (errno f.e) u∧Flr I callCheck f.pos u v else Flr I callCheck f.pos (errno f.e) v)
theorem ChkE.mono{I J:Imm}{f:TF}{w:Value}(h:ChkE I f w)(hl:Imm.le I J):ChkE J f w:=⟨h.1,fun he=>by
 have:=h.2 he
 split at this
 ·rename_i hof;rw[if_pos hof];obtain⟨u,h1,h2⟩:=this;exact⟨u,h1.mono hl,h2.mono hl⟩
 ·rename_i hof;rw[if_neg hof];exact this.mono hl⟩
theorem ChkE.ok{I:Imm}:ChkE I zTF .nilIface:=⟨fun _=>rfl,fun h=>absurd rfl h⟩
theorem ChkE.neq{I:Imm}{f:TF}{w:Value}(h:ChkE I f w){t:TypeId}(ht:ifaceT P t=true){x:Operand}:BinRun P .neq t x (.const .nilIface) w .nilIface (f.e != 0):=by
 by_cases he:f.e=0
 ·rw[h.1 he,he];exact nil_nil ht
 ·have h2:=h.2 he
  rw[show (f.e != 0)=true by simpa using he]
  split at h2
  ·obtain⟨u,_,b,hw,_⟩:=h2;rw[hw];exact some_nil ht
  ·obtain⟨b,hw,_⟩:=h2;rw[hw];exact some_nil ht
theorem refused_no{I:Imm}(hg:Gl I)(pos n:Int)(hn:n≠0)(F:Heap):Tri P 32 #[.int .i64 pos,errno n] I F (RetV (fun v J=>ChkE J ⟨n,pos,false⟩ v) F):=by
 refine Tri.still (types_refused.vc ?_)
 unfold types_refused.V
 intro b_below
 refine (As_noF hg n).mono fun e I1 G l1 ⟨he,hG⟩=>?_
 subst hG
 refine⟨false,he,_,.refl _,fun h=>(by cases h),fun _ b1=>⟨_,[_,_],rfl,.refl _,fun J hJ hx=>⟨fun h=>absurd h hn,fun _=>?_⟩⟩⟩
 rw[if_neg (by simp)]
 exact⟨b1,rfl,hx _ (.head _)⟩
theorem refused_of{I:Imm}(hg:Gl I)(pos0 pos n:Int)(hn:n≠0){u:Value}(hu:Flr I callOf pos (errno n) u)(F:Heap):Tri P 32 #[.int .i64 pos0,u] I F (RetV (fun v J=>ChkE J ⟨n,pos,true⟩ v) F):=by
 obtain⟨b,rfl,hb⟩:=hu
 refine Tri.still (types_refused.vc ?_)
 unfold types_refused.V
 intro b_below
 refine (As_hitF hg b).mono fun e I1 G l1 ⟨he,hG⟩=>?_
 subst hG
 refine⟨true,he,_,.refl _,fun _=>⟨some ⟨b,0,none⟩,Rd.of_own (.head _) 0 (fun j hj=>?_),⟨b,0,none⟩,rfl,pos, ?_,fun b1=>⟨_,[_,_],rfl,.refl _,fun J hJ hx=>⟨fun h=>absurd h hn,fun _=>?_⟩⟩⟩,fun h=>(by cases h)⟩
 ·have:j=0:=by simpa using hj
  subst this;rfl
 ·rw[addr0]
  exact Rd.of_imm (l1.at hb) _ 1 fun j hj=>by
   have:j=0:=by simpa using hj
   subst this;rfl
 ·rw[if_pos rfl]
  exact⟨_,⟨b,rfl,hJ.at (l1.at hb)⟩,b1,rfl,hx _ (.head _)⟩
end Go.Lx
namespace Go.Lx
open Go.Vc
theorem firstG_old{l:List RegP}{r:RegP}{t:Int}(h:firstG l r.name=some t)(k:ByteArray):firstG (l++[r]) k=firstG l k:=by
 rw[firstG_snoc]
 cases hk:firstG l k with
 | some t=>rfl
 | none =>
   show (if k=r.name then some r.typ else none)=none
   rw[if_neg]
   intro e;subst e;rw[hk] at h;cases h
theorem firstG_new{l:List RegP}{r:RegP}(h:firstG l r.name=none)(k:ByteArray):firstG (l++[r]) k=putG (firstG l) r.name r.typ k:=by
 rw[firstG_snoc]
 unfold putG
 by_cases e:k=r.name
 ·subst e;rw[h,if_pos rfl]
 ·rw[if_neg e,if_neg e]
  cases hk:firstG l k<;>rfl
def scO(m0 m1 m2:Nat):Obj:=.cells #[.map (some m0),.map (some m1),.map (some m2)] 126 (0,0)
def RegsQ(s:StgN)(F:Heap)(e:Ending)(I:Imm)(G:Heap):Prop:=∃c m1 m2,e=.returned (.pointer (some ⟨c,0,none⟩))∧Scp I c s.p m1 m2∧G=(m1,.map #[] 0)::(m2,.map #[] 0)::F
theorem pmS{α:Type}{a b c d:α}{l:List α}:(a::b::(c::d::l)).Perm (c::d::(a::b::l)):=List.perm_append_comm_assoc [a,b] [c,d] l
theorem registers_spec(s:StgN)(hl:s.regs.length≤1048576)(I:Imm)(F:Heap)(hok:s.Ok I F):Tri P 33 #[s.v] I F (RegsQ s F):=by
 refine Tri.keep (Q:=fun e I' G=>∃c m0 m1 m2 es ck,e=.returned (.pointer (some ⟨c,0,none⟩))∧MapG Value.string (Value.int .u8) (firstG s.p.regs) es ck∧G.Perm ((m0,.map es ck)::(c,scO m0 m1 m2)::(m1,.map #[] 0)::(m2,.map #[] 0)::F)) ?_ fun e I' G w hl hs ⟨c,m0,m1,m2,es,ck,he,hg,hp⟩=>by
  obtain⟨J,g1,g2,g3⟩:=Sat.still [_,_] (hs.perm hp)
  exact⟨J,_,g1,g3,c,m1,m2,he,⟨m0,es,ck,g2 _ (.tail _ (.head _)),g2 _ (.head _),hg⟩,rfl⟩
 refine types_registers.vc (fun sA cA i m I0 F0 I' F'=>0≤i∧i≤s.regs.length∧m=(s.regs.length-i).toNat∧∃c m0 m1 m2 es ck,cA=some (⟨c,0,none⟩:Addr)∧MapG Value.string (Value.int .u8) (firstG (s.p.regs.take i.toNat)) es ck∧F'.Perm ((m0,.map es ck)::(c,scO m0 m1 m2)::(m1,.map #[] 0)::(m2,.map #[] 0)::F)) ?_
 unfold types_registers.V
 intro b_s
 refine TriE.mono makeMap_spec fun v I1 G h1 ⟨r,hv,hI,hG⟩=>?_
 subst hI hG
 refine⟨some r,hv,(r,.map #[] 0)::F,.swap .., ?_⟩
 refine TriE.mono makeMap_spec fun v1 I1 G h1 ⟨r1,hv1,hI,hG⟩=>?_
 subst hI hG
 refine⟨some r1,hv1,(r1,.map #[] 0)::(r,.map #[] 0)::F,.swap .., ?_⟩
 refine TriE.mono makeMap_spec fun v2 I1 G h1 ⟨r2,hv2,hI,hG⟩=>?_
 subst hI hG
 refine⟨some r2,hv2,(r2,.map #[] 0)::(r1,.map #[] 0)::(r,.map #[] 0)::F,.swap .., ?_⟩
 intro b
 refine⟨⟨_,by omega,by omega,rfl,b,r,r1,r2,_,_,rfl,MapG.nil 0, ?_⟩,fun i m I2 F2 l2 ⟨g0,g1,gm,c,m0,m1,m2,es,ck,hc,hg,hp⟩=>?_⟩
 ·exact pm3.trans (((List.Perm.swap ..).cons _).cons _)
 obtain rfl:b=c:=by simpa using hc
 have hok1:s.Ok I2 F2:=hok.mono l2 fun y hy=>hp.mem_iff.2 (.tail _ (.tail _ (.tail _ (.tail _ hy))))
 refine⟨fun hlt=>?_,fun hlt=>?_⟩
 ·have hlt:=of_decide_eq_true hlt
  obtain⟨ad,g,had,hg1,hrd,hgm⟩:=SlG.atm (hok1.cons (x:=(b_s,Obj.cells #[.string s.name,.slice s.ra s.regs.length s.rc,.slice s.sa s.slots.length s.sc,.slice s.ta s.states.length s.tc] 26 (0,0)))).regs g0 hlt
  refine⟨⟨g0,hlt⟩,ad,had,_,_,_,_,_,_,_,_,_,_,_,_,_,hrd,fun b_r=>?_⟩
  have hmc:∀(x y:Nat×Obj),(b,scO m0 m1 m2)∈x::y::F2:=fun x y=>.tail _ (.tail _ (hp.mem_iff.2 (.tail _ (.head _))))
  have hm0:∀(x y:Nat×Obj),(m0,Obj.map es ck)∈x::y::F2:=fun x y=>.tail _ (.tail _ (hp.mem_iff.2 (.head _)))
  have hrdm:∀(J:Imm) (x y:Nat×Obj),Rd J (x::y::F2) (⟨b,0,none⟩:Addr) [.map (some m0)]:=fun J x y=>Rd.of_own (hmc x y) 0 fun j hj=>by
   have:j=0:=by simpa using hj
   subst this;rfl
  have hgl:s.p.regs[i.toNat]? = some g.p:=by
   show (s.regs.map RegN.p)[i.toNat]? = _
   rw[List.getElem?_map,hg1];rfl
  have htk:s.p.regs.take (i+1).toNat=s.p.regs.take i.toNat++[g.p]:=by
   rw[show (i+1).toNat=i.toNat+1 by omega,List.take_add_one,hgl];rfl
  refine⟨_,rfl,some m0,hrdm _ _ _, ?_⟩
  refine TriE.mono (lookup_ok mapR strD str_key str_inj zeroR hg (.inr (hm0 _ _)) g.name) fun v3 I3 G h3 ⟨hv3,hI,hG⟩=>?_
  subst hI hG
  refine⟨((firstG (s.p.regs.take i.toNat) g.name).getD 0),(firstG (s.p.regs.take i.toNat) g.name).isSome,by rw[hv3];cases firstG (s.p.regs.take i.toNat) g.name<;>rfl,F2,.refl _,fun hn=>?_,fun hn=>⟨(s.regs.length-(i+1)).toNat,by omega, ?_⟩⟩
  ·have hn:firstG (s.p.regs.take i.toNat) g.name=none:=by simpa using hn
   refine⟨_,rfl,some m0,hrdm _ _ _, ?_⟩
   refine TriU.perm (TriU.mono (update_spec mapR strD str_key str_inj hg g.name g.typ (F:=(b_s,Obj.cells #[.string s.name,.slice s.ra s.regs.length s.rc,.slice s.sa s.slots.length s.sc,.slice s.ta s.states.length s.tc] 26 (0,0))::(b_r,.cells g.enc.toArray 68 (0,0))::(b,scO m0 m1 m2)::(m1,.map #[] 0)::(m2,.map #[] 0)::F)) fun I4 G h4 ⟨hI,es',c',hG,hg'⟩=>?_) (((hp.cons _).cons _).trans pm2)
   subst hI hG
   refine⟨(m0,.map es' c')::(b,scO m0 m1 m2)::(m1,.map #[] 0)::(m2,.map #[] 0)::F,pm2.symm,(s.regs.length-(i+1)).toNat,by omega, ?_⟩
   rw[w64 (n:=i+1) (by omega)]
   refine⟨by omega,by omega,rfl,b,m0,m1,m2,es',c',rfl, ?_,.refl _⟩
   rw[htk]
   exact hg'.congr fun k=>(firstG_new (r:=g.p) hn k).symm
  ·obtain⟨t,hn⟩:∃t,firstG (s.p.regs.take i.toNat) g.name=some t:=by
    cases h:firstG (s.p.regs.take i.toNat) g.name with
    | none=>rw[h] at hn;cases hn
    | some t=>exact⟨t,rfl⟩
   rw[w64 (n:=i+1) (by omega)]
   refine⟨by omega,by omega,rfl,b,m0,m1,m2,es,ck,rfl, ?_,hp⟩
   rw[htk]
   exact hg.congr fun k=>(firstG_old (r:=g.p) hn k).symm
 ·have hlt:=of_decide_eq_false hlt
  refine⟨b,m0,m1,m2,es,ck,rfl, ?_,hp⟩
  rw[List.take_of_length_le (by show (s.regs.map RegN.p).length≤_;rw[List.length_map];omega)] at hg
  exact hg
theorem pOf_specB(s:StgN)(hl:s.regs.length≤1048576)(t:Nd)(hs:t.px.size≤4194304)(I:Imm)(F:Heap)(hok:s.Ok I F)(ht:NdOk I F t) :
  Tri P 19 #[s.v,t.v] I F (RetV (OfV (typeOf s.p t.px)) F):=by
 refine Tri.still (types_Of.vc ?_)
 unfold types_Of.V
 unfold typeOf
 intro b_s b_n
 refine Tri.ret (checkExpr_specB t hs I _ (ht.mono (Imm.le_refl I) fun y hy=>.tail _ (.tail _ hy))) fun I1 l1=>⟨_,rfl,F,.refl _,fun h=>?_,fun h=>?_⟩
 ·have h:t.px.checkE≠0:=by simpa using h
  rw[if_pos h]
  intro b
  refine⟨_,[_],rfl,.refl _,fun J hJ hx=>⟨_,rfl,fun he=>absurd he h,fun _=>⟨b,rfl,hx _ (.head _)⟩⟩⟩
 ·have h:t.px.checkE=0:=by simpa using h
  rw[if_neg (by simpa using h)]
  refine (registers_spec s hl I1 _ (hok.mono l1 fun y hy=>.tail _ (.tail _ hy))).mono fun e I2 G l2 ⟨c,m1,m2,he,hS,hG⟩=>?_
  subst hG
  refine⟨_,he,(m1,.map #[] 0)::(m2,.map #[] 0)::F,pmS, ?_⟩
  refine Tri.retV (of_spec t (checkE_formed h) I2 _ hS (ht.mono (Imm.le_trans l1 l2) fun y hy=>.tail _ (.tail _ (.tail _ (.tail _ hy))))) fun v I3 l3 ⟨w,hv,hw⟩=>?_
  exact⟨_,_,congrArg Ending.returned hv,_,.refl _,_,[_,_],rfl,.refl _,fun J hJ hx=>⟨w,rfl,hw.mono hJ⟩⟩
theorem pOf_spec(s:StgN)(hl:s.regs.length≤1048576)(t:Nd)(hs:t.px.size≤1048576)(I:Imm)(F:Heap)(hok:s.Ok I F)(ht:NdOk I F t) :
  Tri P 19 #[s.v,t.v] I F (RetV (OfV (typeOf s.p t.px)) F):=pOf_specB s hl t (by omega) I F hok ht
end Go.Lx
namespace Go.Lx
open Go.Vc
theorem has_ix(nm:ByteArray):∀(l:List ByteArray) (i:Nat) (j:Int),l[i]? = some nm→(ixF nm l j<j+i↔hasS (l.take i) nm=true)∧0≤ixF nm l j-j
 | [],i,j,h=>by simp at h
 | x::l,0,j,h=>by
   simp only[List.getElem?_cons_zero,Option.some.injEq] at h
   subst h
   rw[ixF,if_pos (by simp)]
   refine⟨⟨fun h=>by omega,fun h=>by simp[hasS] at h⟩,by omega⟩
 | x::l,i+1,j,h=>by
   rw[ixF]
   have ih:=has_ix nm l i (j+1) (by simpa using h)
   by_cases hx:(x.toList==nm.toList)=true
   ·rw[if_pos hx]
    have:=bytes_eq.1 hx
    subst this
    refine⟨⟨fun _=>by simp[hasS],fun _=>by omega⟩,by omega⟩
   ·rw[if_neg hx]
    have hne:¬x=nm:=fun e=>hx (bytes_eq.2 e)
    refine⟨?_,by omega⟩
    rw[List.take_succ_cons]
    have e:hasS (x::l.take i) nm=hasS (l.take i) nm:=by
     unfold hasS;rw[List.any_cons,decide_eq_false hne,Bool.false_or]
    rw[e,←ih.1]
    constructor<;>intro h<;>omega
theorem ix_none(nm:ByteArray):∀(l:List ByteArray) (j:Int),0≤j→(ixF nm l j<0↔hasS l nm=false)
 | [],j,h=>by rw[ixF];simp[hasS]
 | x::l,j,h=>by
   rw[ixF]
   by_cases hx:(x.toList==nm.toList)=true
   ·rw[if_pos hx]
    have:=bytes_eq.1 hx
    subst this
    refine⟨fun h=>by omega,fun h=>by simp[hasS] at h⟩
   ·rw[if_neg hx,ix_none nm l (j+1) (by omega)]
    have hne:¬x=nm:=fun e=>hx (bytes_eq.2 e)
    unfold hasS;rw[List.any_cons,decide_eq_false hne,Bool.false_or]
def Cnt(l:List ByteArray)(k:Nat)(o:Obj):Prop:=∃es ck g,o=.map es ck∧MapG Value.string (Value.int .i64) g es ck∧Met l k g
theorem Cnt.nil:Cnt [] 0 (.map #[] 0):=⟨_,_,_,rfl,MapG.nil 0,Met.nil⟩
def cntN(l:List ByteArray)(i:Nat)(nm:ByteArray)(c:Int):Prop:=1≤c∧c≤i+1∧(1<c↔hasS (l.take i) nm=true)
theorem Met.step{l:List ByteArray}{i:Nat}{g:ByteArray→Option Int}{nm:ByteArray}(h:Met (l.take i) i g)(hl:l[i]? = some nm) :
  Met (l.take (i+1)) (i+1) (putG g nm ((g nm).getD 0+1))∧cntN l i nm ((g nm).getD 0+1):=by
 have htk:l.take (i+1)=l.take i++[nm]:=by rw[List.take_add_one,hl];rfl
 by_cases hs:hasS (l.take i) nm=true
 ·obtain⟨m,h1,h2,h3⟩:=(h nm).1 hs
  rw[h1]
  refine⟨?_, ?_, ?_, ?_⟩
  ·intro s
   have:=(h.more hs h2 h3) s
   rw[htk]
   have e:hasS (l.take i++[nm]) s=hasS (l.take i) s:=by
    unfold hasS at hs ⊢;rw[List.any_append]
    by_cases hsn:nm=s
    ·subst hsn;rw[hs];rfl
    ·simp[hsn]
   rw[e];exact this
  ·show 1≤m+1;omega
  ·show m+1≤i+1;omega
  ·exact⟨fun _=>hs,fun _=>by show 1<m+1;omega⟩
 ·have hs:hasS (l.take i) nm=false:=by simpa using hs
  have h1:=(h nm).2 hs
  rw[h1]
  refine⟨?_, ?_, ?_, ?_⟩
  ·rw[htk];exact h.new
  ·show (1:Int)≤0+1;omega
  ·show (0:Int)+1≤i+1;omega
  ·rw[hs];exact⟨fun h=>by simp at h,fun h=>by cases h⟩
section
variable {I:Imm} {l:List ByteArray} {i:Nat} {nm:ByteArray} {o:Obj} {m:Nat} {G R:Heap}
theorem cnt_get(hc:Cnt (l.take i) i o)(hl:l[i]? = some nm)(hi:i≤1048576)(hm:(m,o)∈G):TriE P (Instr.lookup 124 (.map (some m)) (.string nm) false) I G fun v I' G'=>∃r:Int,v=.int .i64 r∧I'=I∧G'=G ∧
  (∀G2,G.Perm ((m,o)::G2)→TriU P (Instr.mapUpdate 124 (.map (some m)) (.string nm) (.int .i64 (IntKind.wrap .i64 (r+1)))) I G fun I' G'=>I'=I∧∃o',Cnt (l.take (i+1)) (i+1) o'∧G'=(m,o')::G2 ∧
   ∀G3,(m,o')∈G3→TriE P (Instr.lookup 124 (.map (some m)) (.string nm) false) I G3 fun v I' G'=>∃c:Int,v=.int .i64 c∧I'=I∧G'=G3∧cntN l i nm c):=by
 obtain⟨es,ck,g,rfl,hg,hmet⟩:=hc
 obtain⟨h1,h2⟩:=hmet.step hl
 refine TriE.mono (lookup_one mapS strD str_key str_inj zeroS hg (.inr hm) nm) fun v I1 G1 hl1 ⟨hv,hI,hG⟩=>⟨(g nm).getD 0, ?_,hI,hG,fun G2 hp=>?_⟩
 ·rw[hv];cases g nm<;>rfl
 ·have hw:IntKind.wrap .i64 ((g nm).getD 0+1)=(g nm).getD 0+1:=w64 (by unfold cntN at h2;omega)
  rw[hw]
  refine TriU.perm (TriU.mono (update_spec mapS strD str_key str_inj hg nm ((g nm).getD 0+1) (F:=G2)) fun I2 G3 hl2 ⟨hI2,es',ck',hG3,hg'⟩=>⟨hI2,_,⟨es',ck',_,rfl,hg',h1⟩,hG3,fun G4 hm4=>?_⟩) hp
  refine TriE.mono (lookup_one mapS strD str_key str_inj zeroS hg' (.inr hm4) nm) fun v3 I3 G5 hl3 ⟨hv3,hI3,hG5⟩=>⟨(g nm).getD 0+1, ?_,hI3,hG5,h2⟩
  rw[hv3];unfold putG;rw[if_pos rfl];rfl
end
section
variable (s:StgN) (hl:s.p.Light) {I:Imm} {F:Heap} (hok:s.Ok I F)
def slotL(s:StgN):List ByteArray:=s.slots.map SlotP.name
def roomL(s:StgN):List ByteArray:=s.states.map StateN.name
def regL(s:StgN):List ByteArray:=s.regs.map RegN.name
def DecQ(s:StgN)(m1 m2:Nat)(F:Heap)(e:Ending)(I:Imm)(G:Heap):Prop:=∃v,e=.returned v∧ChkE I s.p.named v∧∃o1 o2,G=(m1,o1)::(m2,o2)::F∧(s.p.named.e=0→Cnt (slotL s) s.slots.length o1∧Cnt (roomL s) s.states.length o2)
theorem regL_ix(nm:ByteArray):s.p.reg nm=ixF nm (regL s) 0:=by
 unfold StgP.reg regL
 show ixF nm ((s.regs.map RegN.p).map RegP.name) 0=_
 rw[List.map_map];rfl
theorem roomL_ix(nm:ByteArray):s.p.room nm=ixF nm (roomL s) 0:=by
 unfold StgP.room roomL
 show ixF nm ((s.states.map StateN.p).map StateP.name) 0=_
 rw[List.map_map];rfl
end
end Go.Lx
namespace Go.Lx
open Go.Vc
theorem Scp.rd{I:Imm}{c m1 m2:Nat}{s:StgP}(h:Scp I c s m1 m2)(G:Heap):Rd I G ((⟨c,0,none⟩:Addr).add 1) [.map (some m1)]∧Rd I G ((⟨c,0,none⟩:Addr).add 2) [.map (some m2)]:=by
 obtain⟨m0,es,ck,hc,_,_⟩:=h
 rw[addr0,addr0]
 exact⟨Rd.of_imm hc _ 1 fun j hj=>by
  have:j=0:=by simpa using hj
  subst this;rfl,Rd.of_imm hc _ 2 fun j hj=>by
  have:j=0:=by simpa using hj
  subst this;rfl⟩
theorem thenT_n{n p:Int}{b:Bool}(h:n≠0)(x:TF):thenT ⟨n,p,b⟩ x=⟨n,p,b⟩:=thenT_e _ h x
section
variable {s:StgN} (hl:s.p.Thin) {I:Imm} {F:Heap} (hok:s.Ok I F)
include hl hok
theorem declared_spec(hg:Gl I)(hf:∀r∈s.regs,r.init.px.formed=true){c m1 m2:Nat}(hS:Scp I c s.p m1 m2) :
  Tri P 34 #[.pointer (some ⟨c,0,none⟩),s.v] I ((m1,.map #[] 0)::(m2,.map #[] 0)::F) (DecQ s m1 m2 F):=by
 have lr:=hl.regs
 have ls:=hl.slots
 have lt:=hl.states
 simp only[StgN.p,List.length_map] at lr ls lt
 refine Tri.keep (Q:=fun e I' G=>∃v o1 o2 H,e=.returned v∧ChkE I' s.p.named v∧G.Perm ((m1,o1)::(m2,o2)::(H++F))∧(s.p.named.e=0→Cnt (slotL s) s.slots.length o1∧Cnt (roomL s) s.states.length o2)) ?_
  fun e I' G w hl hs ⟨v,o1,o2,H,he,hv,hp,hk⟩=>⟨I',_,Imm.le_refl _,(hs.perm hp).sub (((List.sublist_append_right H F).cons_cons _).cons_cons _),v,he,hv,o1,o2,rfl,hk⟩
 refine types_scope_declared.vc
  (fun r x i m I0 F0 I' F'=>0≤i∧i≤s.regs.length∧m=(s.regs.length-i).toNat∧s.p.named=thenT (namedR s.p (s.p.regs.drop i.toNat) i) (thenT (namedS s.p s.slots 0) (namedT s.p s.p.states 0)) ∧
    ∃r0 o,r=some r0∧Cnt ((regL s).take i.toNat) i.toNat o∧F'.Perm ((r0,o)::(m1,.map #[] 0)::(m2,.map #[] 0)::F))
  (fun x i m I0 F0 I' F'=>0≤i∧i≤s.slots.length∧m=(s.slots.length-i).toNat∧s.p.named=thenT (namedS s.p (s.slots.drop i.toNat) i) (namedT s.p s.p.states 0) ∧
    ∃H o,Cnt ((slotL s).take i.toNat) i.toNat o∧F'.Perm ((m1,o)::(m2,.map #[] 0)::(H++F)))
  (fun x i m I0 F0 I' F'=>0≤i∧i≤s.states.length∧m=(s.states.length-i).toNat∧s.p.named=namedT s.p (s.p.states.drop i.toNat) i ∧
    ∃H o1 o,Cnt (slotL s) s.slots.length o1∧Cnt ((roomL s).take i.toNat) i.toNat o∧F'.Perm ((m1,o1)::(m2,o)::(H++F))) ?_
 unfold types_scope_declared.V
 intro b_s
 refine TriE.mono makeMap_spec fun v I1 G h1 ⟨r,hv,hI,hG⟩=>?_
 subst hI hG
 refine⟨some r,hv,(r,.map #[] 0)::(m1,.map #[] 0)::(m2,.map #[] 0)::F,.swap .., ?_⟩
 refine⟨⟨_,by omega,by omega,rfl,rfl,r,_,rfl,Cnt.nil,.refl _⟩,fun x i m I2 F2 l2 ⟨g0,g1,gm,ge,r',o,hr,hcn,hp⟩=>?_⟩
 obtain rfl:r=r':=by simpa using hr
 refine⟨fun hlt=>?_,fun hlt=>⟨⟨_,by omega,by omega,rfl, ?_,[_],_,Cnt.nil,hp.trans pm2.symm⟩,fun x2 i2 m4 I9 F9 l9 ⟨k0,k1,km,ke,H,o2,kcn,kp⟩=>⟨fun hlt2=>?_,fun hlt2=>⟨⟨_,by omega,by omega,rfl, ?_,H,o2,.map #[] 0, ?_,Cnt.nil,kp⟩,
  fun x4 i3 m9 I14 F14 l14 ⟨q0,q1,qm,qe,H',o1,o3,qs,qcn,qp⟩=>⟨fun hlt3=>?_,fun hlt3=>?_⟩⟩⟩⟩⟩
 ·have hlt:=of_decide_eq_true hlt
  have hok2:∀{J:Imm} (G:Heap),Imm.le I1 J→(∀y,y∈F→y∈G)→s.Ok J G:=fun G hJ h=>hok.mono hJ h
  have hsub2:∀y,y∈F→y∈F2:=fun y hy=>hp.mem_iff.2 (.tail _ (.tail _ (.tail _ hy)))
  obtain⟨ad,g,had,hg1,hrd,hgm⟩:=SlG.atm (hok2 ((b_s,Obj.cells #[.string s.name,.slice s.ra s.regs.length s.rc,.slice s.sa s.slots.length s.sc,.slice s.ta s.states.length s.tc] 26 (0,0))::F2) l2 fun y hy=>.tail _ (hsub2 y hy)).regs g0 hlt
  have hgl:(regL s)[i.toNat]? = some g.name:=by unfold regL;rw[List.getElem?_map,hg1];rfl
  have hgp:s.p.regs[i.toNat]? = some g.p:=by
   show (s.regs.map RegN.p)[i.toNat]? = _
   rw[List.getElem?_map,hg1];rfl
  have hdr:s.p.regs.drop i.toNat=g.p::s.p.regs.drop (i.toNat+1):=by
   obtain⟨h1,h2⟩:=List.getElem?_eq_some_iff.1 hgp
   rw[List.drop_eq_getElem_cons h1,h2]
  rw[hdr,namedR] at ge
  refine⟨⟨g0,hlt⟩,ad,had,_,_,_,_,_,_,_,_,_,_,_,_,_,hrd,fun b_r=>?_⟩
  have hm0:∀(x y:Nat×Obj),(r,o)∈x::y::F2:=fun x y=>.tail _ (.tail _ (hp.mem_iff.2 (.head _)))
  refine TriE.mono (cnt_get hcn hgl (by omega) (hm0 _ _)) fun v1 I3 G hl3 ⟨r1,hv1,hI,hG,hu⟩=>⟨r1,hv1,F2,by rw[hG], ?_⟩
  subst hI hG
  refine TriU.mono (hu _ (((hp.cons _).cons _).trans pm2)) fun I4 G hl4 ⟨hI,o',hcn',hG,hlk⟩=>?_
  subst hI hG
  refine⟨(r,o')::(m1,.map #[] 0)::(m2,.map #[] 0)::F,pm2.symm, ?_⟩
  refine TriE.mono (hlk _ (.tail _ (.tail _ (.head _)))) fun v2 I5 G hl5 ⟨r2,hv2,hI,hG,n1,n2,n3⟩=>?_
  subst hI hG
  have hix:=(has_ix g.name (regL s) i.toNat 0 hgl).1
  rw[←regL_ix,Int.zero_add,Int.toNat_of_nonneg g0] at hix
  have hgI:Gl I5:=hg.mono l2
  refine⟨r2,hv2,(r,o')::(m1,.map #[] 0)::(m2,.map #[] 0)::F,.refl _,fun h2=>?_,fun h2=>?_⟩
  ·have h2:=of_decide_eq_true h2
   rw[if_pos (show s.p.reg g.p.name<i from hix.2 (n3.1 h2)),thenT_n (n:=150) (by decide)] at ge
   refine Tri.retV (refused_no hgI g.pos 150 (by decide) _) fun v I6 l6 hv=>⟨v,rfl,_,.refl _,v,_,_,[_],rfl, ?_,pm2.symm,fun h=>?_⟩
   ·rw[ge];exact hv
   ·rw[ge] at h;exact absurd h (show (150:Int)≠0 by decide)
  ·have h2:=of_decide_eq_false h2
   rw[if_neg (show ¬s.p.reg g.p.name<i from fun h=>h2 (n3.2 (hix.1 h)))] at ge
   refine Tri.retV (of_spec g.init (hf g hgm) I5 _ (hS.mono l2) (NdOk.mono (hok.reg _ hgm) l2 fun y hy=>.tail _ (.tail _ (.tail _ (.tail _ (.tail _ hy)))))) fun v I7 l7 ⟨w,hv,hw⟩=>⟨_,_,congrArg Ending.returned hv,_,.refl _,fun ht=>?_,fun ht=>?_⟩
   ·have ht:(typed s.p g.init.px).1≠g.typ:=by simpa using ht
    rw[if_pos (show (typed s.p g.p.init).1≠g.p.typ from ht),thenT_n (n:=152) (by decide)] at ge
    refine Tri.retV (refused_no (hgI.mono l7) g.pos 152 (by decide) _) fun v I8 l8 hv=>⟨v,rfl,_,.refl _,v,_,_,[_],rfl, ?_,pm2.symm,fun h=>?_⟩
    ·rw[ge];exact hv
    ·rw[ge] at h;exact absurd h (show (152:Int)≠0 by decide)
   ·have ht:(typed s.p g.init.px).1=g.typ:=by simpa using ht
    rw[if_neg (show ¬(typed s.p g.p.init).1≠g.p.typ from fun h=>h ht)] at ge
    refine⟨(s.regs.length-(i+1)).toNat,by omega, ?_⟩
    rw[w64 (n:=i+1) (by omega)]
    refine⟨by omega,by omega,rfl, ?_,r,o',rfl, ?_,.refl _⟩
    ·rw[ge,show (i+1).toNat=i.toNat+1 by omega]
    ·rw[show (i+1).toNat=i.toNat+1 by omega];exact hcn'
 ·have hlt:=of_decide_eq_false hlt
  rw[ge,List.drop_eq_nil_of_le (by show (s.regs.map RegN.p).length≤_;rw[List.length_map];omega)];rfl
 ·have hlt2:=of_decide_eq_true hlt2
  have l29:=Imm.le_trans l2 l9
  have hsub2:∀y,y∈F→y∈F9:=fun y hy=>kp.mem_iff.2 (.tail _ (.tail _ (List.mem_append_right _ hy)))
  obtain⟨ad,g,had,hg1,hrd,hgm⟩:=SlG.atm (hok.mono (H:=(b_s,Obj.cells #[.string s.name,.slice s.ra s.regs.length s.rc,.slice s.sa s.slots.length s.sc,.slice s.ta s.states.length s.tc] 26 (0,0))::F9) l29 fun y hy=>.tail _ (hsub2 y hy)).slots k0 hlt2
  have hgl:(slotL s)[i2.toNat]? = some g.name:=by unfold slotL;rw[List.getElem?_map,hg1];rfl
  have hdr:s.slots.drop i2.toNat=g::s.slots.drop (i2.toNat+1):=by
   obtain⟨h1,h2⟩:=List.getElem?_eq_some_iff.1 hg1
   rw[List.drop_eq_getElem_cons h1,h2]
  rw[hdr,namedS] at ke
  refine⟨⟨k0,hlt2⟩,ad,had,_,_,hrd,fun b_x=>?_⟩
  have hSJ:=hS.mono l29
  refine⟨_,rfl,some m1,(hSJ.rd _).1, ?_⟩
  have hm0:∀(x y:Nat×Obj),(m1,o2)∈x::y::F9:=fun x y=>.tail _ (.tail _ (kp.mem_iff.2 (.head _)))
  refine TriE.mono (cnt_get kcn hgl (by omega) (hm0 _ _)) fun v1 I3 G hl3 ⟨r1,hv1,hI,hG,hu⟩=>⟨r1,hv1,F9,by rw[hG], ?_⟩
  subst hI hG
  refine TriU.mono (hu _ (((kp.cons _).cons _).trans pm2)) fun I4 G hl4 ⟨hI,o',hcn',hG,hlk⟩=>?_
  subst hI hG
  refine⟨(m1,o')::(m2,.map #[] 0)::(H++F),pm2.symm,_,rfl,some m1,(hSJ.rd _).1, ?_⟩
  refine TriE.mono (hlk _ (.tail _ (.tail _ (.head _)))) fun v2 I5 G hl5 ⟨r2,hv2,hI,hG,n1,n2,n3⟩=>?_
  subst hI hG
  have hix:=(has_ix g.name (slotL s) i2.toNat 0 hgl).1
  rw[show ixF g.name (slotL s) 0=s.p.slot g.name from rfl,Int.zero_add,Int.toNat_of_nonneg k0] at hix
  refine⟨r2,hv2,(m1,o')::(m2,.map #[] 0)::(H++F),.refl _,fun h2=>?_,fun h2=>⟨(s.slots.length-(i2+1)).toNat,by omega, ?_⟩⟩
  ·have h2:=of_decide_eq_true h2
   rw[if_pos (hix.2 (n3.1 h2)),thenT_n (n:=150) (by decide)] at ke
   refine Tri.retV (refused_no (hg.mono l29) g.pos 150 (by decide) _) fun v I6 l6 hv=>⟨v,rfl,_,.refl _,v,_,_,H,rfl, ?_,.refl _,fun h=>?_⟩
   ·rw[ke];exact hv
   ·rw[ke] at h;exact absurd h (show (150:Int)≠0 by decide)
  ·have h2:=of_decide_eq_false h2
   rw[if_neg (fun h=>h2 (n3.2 (hix.1 h)))] at ke
   rw[w64 (n:=i2+1) (by omega)]
   refine⟨by omega,by omega,rfl, ?_,H,o', ?_,.refl _⟩
   ·rw[ke,show (i2+1).toNat=i2.toNat+1 by omega]
   ·rw[show (i2+1).toNat=i2.toNat+1 by omega];exact hcn'
 ·have hlt2:=of_decide_eq_false hlt2
  rw[ke,List.drop_eq_nil_of_le (by omega)];rfl
 ·have hlt2:=of_decide_eq_false hlt2
  rw[List.take_of_length_le (by unfold slotL;rw[List.length_map];omega),show i2.toNat=s.slots.length by omega] at kcn
  exact kcn
 ·have hlt3:=of_decide_eq_true hlt3
  have l29:=Imm.le_trans l2 (Imm.le_trans l9 l14)
  have hsub2:∀y,y∈F→y∈F14:=fun y hy=>qp.mem_iff.2 (.tail _ (.tail _ (List.mem_append_right _ hy)))
  obtain⟨ad,g,had,hg1,hrd,hgm⟩:=SlG.atm (hok.mono (H:=(b_s,Obj.cells #[.string s.name,.slice s.ra s.regs.length s.rc,.slice s.sa s.slots.length s.sc,.slice s.ta s.states.length s.tc] 26 (0,0))::F14) l29 fun y hy=>.tail _ (hsub2 y hy)).states q0 hlt3
  have hgl:(roomL s)[i3.toNat]? = some g.name:=by unfold roomL;rw[List.getElem?_map,hg1];rfl
  have hgp:s.p.states[i3.toNat]? = some g.p:=by
   show (s.states.map StateN.p)[i3.toNat]? = _
   rw[List.getElem?_map,hg1];rfl
  have hdr:s.p.states.drop i3.toNat=g.p::s.p.states.drop (i3.toNat+1):=by
   obtain⟨h1,h2⟩:=List.getElem?_eq_some_iff.1 hgp
   rw[List.drop_eq_getElem_cons h1,h2]
  rw[hdr,namedT] at qe
  refine⟨⟨q0,hlt3⟩,ad,had,_,_,_,_,_,hrd,fun b_x=>?_⟩
  have hSJ:=hS.mono l29
  refine⟨_,rfl,some m2,(hSJ.rd _).2, ?_⟩
  have hm0:∀(x y:Nat×Obj),(m2,o3)∈x::y::F14:=fun x y=>.tail _ (.tail _ (qp.mem_iff.2 (.tail _ (.head _))))
  refine TriE.mono (cnt_get qcn hgl (by omega) (hm0 _ _)) fun v1 I3 G hl3 ⟨r1,hv1,hI,hG,hu⟩=>⟨r1,hv1,F14,by rw[hG], ?_⟩
  subst hI hG
  refine TriU.mono (hu _ (((qp.cons _).cons _).trans pm3)) fun I4 G hl4 ⟨hI,o',hcn',hG,hlk⟩=>?_
  subst hI hG
  refine⟨(m1,o1)::(m2,o')::(H'++F),pm3.symm,_,rfl,some m2,(hSJ.rd _).2, ?_⟩
  refine TriE.mono (hlk _ (.tail _ (.tail _ (.tail _ (.head _))))) fun v2 I5 G hl5 ⟨r2,hv2,hI,hG,n1,n2,n3⟩=>?_
  subst hI hG
  have hix:=(has_ix g.name (roomL s) i3.toNat 0 hgl).1
  rw[←roomL_ix,Int.zero_add,Int.toNat_of_nonneg q0] at hix
  refine⟨r2,hv2,(m1,o1)::(m2,o')::(H'++F),.refl _,fun h2=>?_,fun h2=>⟨(s.states.length-(i3+1)).toNat,by omega, ?_⟩⟩
  ·have h2:=of_decide_eq_true h2
   rw[if_pos (show s.p.room g.p.name<i3 from hix.2 (n3.1 h2))] at qe
   refine Tri.retV (refused_no (hg.mono l29) g.pos 150 (by decide) _) fun v I6 l6 hv=>⟨v,rfl,_,.refl _,v,_,_,H',rfl, ?_,.refl _,fun h=>?_⟩
   ·rw[qe];exact hv
   ·rw[qe] at h;exact absurd h (show (150:Int)≠0 by decide)
  ·have h2:=of_decide_eq_false h2
   rw[if_neg (show ¬s.p.room g.p.name<i3 from fun h=>h2 (n3.2 (hix.1 h)))] at qe
   rw[w64 (n:=i3+1) (by omega)]
   refine⟨by omega,by omega,rfl, ?_,H',o1,o',qs, ?_,.refl _⟩
   ·rw[qe,show (i3+1).toNat=i3.toNat+1 by omega]
   ·rw[show (i3+1).toNat=i3.toNat+1 by omega];exact hcn'
 ·have hlt3:=of_decide_eq_false hlt3
  rw[List.drop_eq_nil_of_le (by show (s.states.map StateN.p).length≤_;rw[List.length_map];omega)] at qe
  rw[List.take_of_length_le (by unfold roomL;rw[List.length_map];omega),show i3.toNat=s.states.length by omega] at qcn
  refine⟨_,o1,o3,H',rfl, ?_,qp,fun _=>⟨qs,qcn⟩⟩
  rw[qe];exact ChkE.ok
end
end Go.Lx
namespace Go.Lx
open Go.Vc
def FltE(f:TF)(v:Value)(J:Imm):Prop:=ChkE J f v
mutual
theorem typed_of(s:StgP):∀x:Px,(typed s x).2.e≠0→(typed s x).2.of=true
 | .mk k o t n f nm l q,h=>by
   rw[typed] at h ⊢
   split
   ·rename_i h1;exact typedL_of s l h1
   ·rename_i h1
    rw[if_neg h1] at h
    unfold nodeE at h ⊢
    split
    ·rfl
    ·rename_i h2
     rw[if_neg h2] at h
     split
     ·rename_i h3;rw[if_pos h3] at h;exact absurd rfl h
     ·rfl
theorem typedL_of(s:StgP):∀l:List Px,(typedL s l).2.e≠0→(typedL s l).2.of=true
 | [],h=>by rw[typedL] at h;exact absurd rfl h
 | x::r,h=>by
   rw[typedL] at h ⊢
   split
   ·rename_i h1;exact typed_of s x h1
   ·rename_i h1;rw[if_neg h1] at h;exact typedL_of s r h
end
theorem typeOf_ok{s:StgP}{x:Px}(h:x.checkE=0):typeOf s x=typed s x:=by
 unfold typeOf
 rw[if_neg (fun h'=>h' h)]
theorem pmust_spec{s:StgN}{c m1 m2:Nat}(t:Nd)(hc:t.px.checkE=0)(want:Int){I:Imm}{F:Heap}(hg:Gl I)(hS:Scp I c s.p m1 m2)(ht:NdOk I F t) :
  Tri P 65 #[.pointer (some ⟨c,0,none⟩),t.v,.int .u8 want] I F (RetV (FltE (mustT s.p t.px want)) F):=by
 refine types_scope_must.vc ?_
 unfold types_scope_must.V
 unfold mustT
 have hf:=checkE_formed hc
 rw[typeOf_ok hc]
 intro b_n
 refine Tri.retV (of_spec t hf I _ hS (ht.mono (Imm.le_refl I) fun y hy=>.tail _ hy)) fun v I1 l1 ⟨w,hv,hw⟩=>⟨_,_,congrArg Ending.returned hv,F,.refl _,_,hw.neq (by kernel_rfl),fun hq=>?_,fun hq=>?_⟩
 ·have he:(typed s.p t.px).2.e≠0:=by simpa using hq
  have hof:=typed_of s.p t.px he
  rw[if_pos he]
  have e:(⟨(typed s.p t.px).2.e,(typed s.p t.px).2.pos,true⟩:TF)=(typed s.p t.px).2:=by rw[←hof]
  refine Tri.retV (refused_of (hg.mono l1) 0 (typed s.p t.px).2.pos (typed s.p t.px).2.e he (hw.2 he) _) fun v2 I2 l2 hv2=>⟨v2,rfl,F,.refl _,v2,rfl, ?_,rfl⟩
  rw[e] at hv2;exact hv2
 ·have he:(typed s.p t.px).2.e=0:=by simpa using hq
  rw[if_neg (fun h=>h he)]
  refine⟨fun hn=>?_,fun hn=>?_⟩
  ·have hn:(typed s.p t.px).1≠want:=by simpa using hn
   rw[if_pos hn,Nd.px_pos]
   exact Tri.retV (refused_no (hg.mono l1) t.pos 152 (by decide) _) fun v2 I2 l2 hv2=>⟨v2,rfl,F,.refl _,v2,rfl,hv2,rfl⟩
  ·have hn:(typed s.p t.px).1=want:=by simpa using hn
   rw[if_neg (fun h=>h hn)]
   exact⟨_,rfl,ChkE.ok,rfl⟩
theorem firstT_hit{α:Type}{f:α→TF}:∀{l:List α} {i:Nat} {x:α},(∀y∈l.take i,(f y).e=0)→l[i]? = some x→(f x).e≠0→firstT f l=f x
 | y::r,0,x,_,hx,he=>by
   simp only[List.getElem?_cons_zero,Option.some.injEq] at hx
   subst hx;rw[firstT,if_pos he]
 | y::r,i+1,x,h,hx,he=>by
   rw[List.take_succ_cons] at h
   rw[firstT,if_neg (by simpa using h y (.head _))]
   exact firstT_hit (fun k hk=>h k (.tail _ hk)) (by simpa using hx) he
theorem firstT_all{α:Type}{f:α→TF}:∀{l:List α},(∀y∈l,(f y).e=0)→firstT f l=zTF
 | [],_=>rfl
 | y::r,h=>by rw[firstT,if_neg (by simpa using h y (.head _))];exact firstT_all fun k hk=>h k (.tail _ hk)
theorem firstT_map{α β:Type}{f:β→TF}{g:α→β}:∀l:List α,firstT f (l.map g)=firstT (fun x=>f (g x)) l
 | []=>rfl
 | x::r=>by rw[List.map_cons,firstT,firstT,firstT_map r]
def ptE(p:Nd×Int):List Value:=[.int .u8 p.1.kind,.int .u8 p.1.oper,.int .u8 p.1.typ,.int .i64 p.1.n,.int .u8 p.1.field,.string p.1.name,.slice p.1.a p.1.kids.length p.1.c,.int .i64 p.1.pos,.int .u8 p.2]
theorem ptE_one(p:Nd×Int):∀u∈ptE p,u.oneCell'=true:=by
 intro u hu
 simp only[ptE,List.mem_cons,List.not_mem_nil,or_false] at hu
 rcases hu with h | h | h | h | h | h | h | h | h<;>(subst h;rfl)
theorem pt_app{a:Option Addr}{n c b1 m:Nat}{l:List (Nd×Int)}{A F R:Heap}{I:Imm}(hA:Acc 9 ptE 178 a n c l A)(hl:l.length≤100)(xs:List (Nd×Int))(hx:xs≠[])(hx2:xs.length≤2)(hm:m=xs.length)
  (hb:I b1=some (.cells (xs.flatMap ptE).toArray 178 (0,0))) (hF:F.Perm (A++R)) :
  TriE P (Builtin.append_ #[176,176] 176 #[.slice a n c,.slice (some ⟨b1,0,none⟩) m m]) I F fun v I' G=>∃a' n' c' A',v=.slice a' n' c'∧Acc 9 ptE 178 a' n' c' (l++xs) A'∧G.Perm (A'++R):=by
 refine TriE.perm (TriE.mono (append_spec' (f:=ptE) (z:=9) (zv:=.agg (ptE (zNd,0)).toArray) (fun _=>rfl) (by':=80) (by kernel_rfl) (by kernel_rfl) rfl (by decide) hA (xs:=xs) (fun y _=>ptE_one y) hx hm ?_ ?_ (F:=R)) fun v I' G _ ⟨a',n',c',A',h1,h2,h3,_⟩=>⟨a',n',c',A',h1,h2,by rw[h3]⟩) hF
 ·exact⟨rfl,_,_,_,.inl hb,fun j hj=>by simp⟩
 ·have:(l.length+xs.length)*80≤102*80:=Nat.mul_le_mul (by omega) (Nat.le_refl _)
  omega
def dparts(d:DoN)(v:Int):List (Nd×Int) :=
 if d.kind=1 then [(d.side,6),(d.qty,2)]++(if d.order≠2 then [(d.price,3)] else []) else if d.kind=2 then [(d.qty,2),(d.price,3)] else if d.kind=4 then [(d.value,v)] else []
theorem dparts_len(d:DoN)(v:Int):(dparts d v).length≤3:=by
 unfold dparts
 split
 ·split<;>simp
 ·split
  ·simp
  ·split<;>simp
theorem doL_parts(s:StgP)(d:DoN):doL s d.p=(dparts d (s.regT (doI s d.p))).map fun p=>mustT s p.1.px p.2:=by
 unfold doL dparts
 show (if d.kind=1 then _ else _)++((if d.kind=1∨d.kind=2 then _ else _)++((if d.kind=1∧d.order≠2∨d.kind=2 then _ else _)++(if d.kind=4 then _ else _)))=_
 by_cases h1:d.kind=1
 ·rw[if_pos h1,if_pos (.inl h1),if_neg (show ¬d.kind=4 by omega),if_pos h1]
  by_cases ho:d.order≠2
  ·rw[if_pos (.inl ⟨h1,ho⟩),if_pos ho];rfl
  ·rw[if_neg (by omega),if_neg ho];rfl
 ·rw[if_neg h1,if_neg h1]
  by_cases h2:d.kind=2
  ·rw[if_pos (.inr h2),if_pos (.inr h2),if_neg (by omega),if_pos h2];rfl
  ·rw[if_neg (by omega),if_neg (by omega),if_neg h2]
   by_cases h4:d.kind=4
   ·rw[if_pos h4,if_pos h4];rfl
   ·rw[if_neg h4,if_neg h4];rfl
def ScA(I:Imm)(c:Nat)(s:StgN):Prop:=∃m1 m2 o1 o2,Scp I c s.p m1 m2∧I m1=some o1∧Cnt (slotL s) s.slots.length o1∧I m2=some o2∧Cnt (roomL s) s.states.length o2
theorem ScA.mono{I J:Imm}{c:Nat}{s:StgN}(h:ScA I c s)(hl:Imm.le I J):ScA J c s:=let ⟨m1,m2,o1,o2,h1,h2,h3,h4,h5⟩:=h;⟨m1,m2,o1,o2,h1.mono hl,hl.at h2,h3,hl.at h4,h5⟩
theorem cnt_has{l:List ByteArray}{k:Nat}{o:Obj}{m:Nat}{I:Imm}{G:Heap}(hc:Cnt l k o)(hm:I m=some o)(nm:ByteArray):TriE P (Instr.lookup 124 (.map (some m)) (.string nm) false) I G fun v I' G'=>∃r:Int,v=.int .i64 r∧I'=I∧G'=G∧decide (r>0)=hasS l nm:=by
 obtain⟨es,ck,g,rfl,hg,hmet⟩:=hc
 refine TriE.mono (lookup_one mapS strD str_key str_inj zeroS hg (.inl hm) nm) fun v I1 G1 hl1 ⟨hv,hI,hG⟩=>⟨(g nm).getD 0, ?_,hI,hG, ?_⟩
 ·rw[hv];cases g nm<;>rfl
 ·cases hs:hasS l nm with
  | true=>obtain⟨x,h1,h2,_⟩:=(hmet nm).1 hs;rw[h1];exact decide_eq_true (by show x>0;omega)
  | false=>rw[(hmet nm).2 hs];rfl
end Go.Lx
namespace Go.Lx
open Go.Vc
def DoN.Fit(d:DoN):Prop:=∀v,∀p∈dparts d v,p.1.px.checkE=0
theorem check_parts{d:DoN}(h:d.p.check=0):d.Fit:=by
 unfold DoP.check at h
 obtain⟨_,h⟩:=thenE_z h
 obtain⟨_,h⟩:=thenE_z h
 obtain⟨_,h⟩:=thenE_z h
 obtain⟨h1,h⟩:=thenE_z h
 obtain⟨h2,h⟩:=thenE_z h
 obtain⟨h3,h4⟩:=thenE_z h
 have e1:d.p.kind=d.kind:=rfl
 have e2:d.p.order=d.order:=rfl
 rw[e1] at h1 h2 h3 h4
 rw[e2] at h3
 have part:∀{b:Bool} {x:Px},partE b x=0→b=true→x.checkE=0:=fun {b} {x} h hb=>by unfold partE at h;rw[if_pos hb] at h;exact h
 intro v p hp
 unfold dparts at hp
 split at hp
 ·rename_i k1
  rcases List.mem_append.1 hp with hp | hp
  ·simp only[List.mem_cons,List.not_mem_nil,or_false] at hp
   rcases hp with rfl | rfl
   ·exact part h1 (decide_eq_true k1)
   ·exact part h2 (decide_eq_true (.inl k1))
  ·split at hp
   ·rename_i ho
    rw[List.mem_singleton] at hp;subst hp
    exact part h3 (decide_eq_true (.inl ⟨k1,ho⟩))
   ·simp at hp
 ·split at hp
  ·rename_i k2
   simp only[List.mem_cons,List.not_mem_nil,or_false] at hp
   rcases hp with rfl | rfl
   ·exact part h2 (decide_eq_true (.inr k2))
   ·exact part h3 (decide_eq_true (.inr k2))
  ·split at hp
   ·rename_i k4
    rw[List.mem_singleton] at hp;subst hp
    exact part h4 (decide_eq_true k4)
   ·simp at hp
theorem dparts_ok{d:DoN}{I:Imm}{G:Heap}(h:d.Ok I G){v:Int}:∀p∈dparts d v,NdOk I G p.1:=by
 obtain⟨o1,o2,o3,o4⟩:=h
 intro p hp
 unfold dparts at hp
 split at hp
 ·rcases List.mem_append.1 hp with hp | hp
  ·simp only[List.mem_cons,List.not_mem_nil,or_false] at hp
   rcases hp with rfl | rfl<;>assumption
  ·split at hp
   ·rw[List.mem_singleton] at hp;subst hp;assumption
   ·simp at hp
 ·split at hp
  ·simp only[List.mem_cons,List.not_mem_nil,or_false] at hp
   rcases hp with rfl | rfl<;>assumption
  ·split at hp
   ·rw[List.mem_singleton] at hp;subst hp;assumption
   ·simp at hp
theorem two_enc{I:Imm}{b:Nat}{p q:Nd×Int}(h:I b=some (.cells (ptE p++ptE q).toArray 178 (0,0))):I b=some (.cells ([p,q].flatMap ptE).toArray 178 (0,0)):=by
 rw[h];simp
section
variable {s:StgN} {I:Imm} {F:Heap} {c:Nat}
theorem slot_has(nm:ByteArray):hasS (slotL s) nm = !decide (s.p.slot nm<0):=by
 have h:=ix_none nm (slotL s) 0 (Int.le_refl 0)
 have e:s.p.slot nm=ixF nm (slotL s) 0:=rfl
 rw[e]
 cases hb:hasS (slotL s) nm with
 | true=>rw[hb] at h;simp at h;simp[h]
 | false=>rw[hb] at h;simp at h;simp[h]
theorem room_has(nm:ByteArray):hasS (roomL s) nm = !decide (s.p.room nm<0):=by
 have h:=ix_none nm (roomL s) 0 (Int.le_refl 0)
 rw[roomL_ix]
 cases hb:hasS (roomL s) nm with
 | true=>rw[hb] at h;simp at h;simp[h]
 | false=>rw[hb] at h;simp at h;simp[h]
set_option maxHeartbeats 1000000 in
theorem pdo_spec(hg:Gl I)(hA:ScA I c s)(d:DoN)(hdo:d.Ok I F)(hfit:d.Fit):Tri P 66 #[.pointer (some ⟨c,0,none⟩),d.v] I F (RetV (FltE (doT s.p d.p)) F):=by
 refine Tri.still ?_
 obtain⟨i0,hi0⟩:∃i0,i0=doI s.p d.p:=⟨_,rfl⟩
 have hI:doI s.p d.p=if d.kind=1 then (if d.name.toList=[] then 0 else s.p.slot d.name) else if d.kind=2∨d.kind=3 then s.p.slot d.name else if d.kind=4 then s.p.reg d.name else if d.kind=5 then s.p.room d.name else 0:=rfl
 obtain⟨ps,hps⟩:∃ps,ps=dparts d (s.p.regT i0):=⟨_,rfl⟩
 have hpl:ps.length≤3:=by rw[hps];exact dparts_len _ _
 have hpd:dparts d (s.p.regT i0)=if d.kind=1 then [(d.side,6),(d.qty,2)]++(if d.order≠2 then [(d.price,3)] else []) else if d.kind=2 then [(d.qty,2),(d.price,3)] else if d.kind=4 then [(d.value,s.p.regT i0)] else []:=rfl
 have hdT:doT s.p d.p=if i0<0 then ⟨151,d.pos,false⟩ else firstT (fun p:Nd×Int=>mustT s.p p.1.px p.2) ps:=by
  unfold doT
  rw[doL_parts,←hi0,←hps,firstT_map];rfl
 refine types_scope_do.vc
  (fun v is a n k I0 F0 I' F'=>is = !decide (i0<0)∧∃A,F'.Perm (A++F)∧(is=true→Acc 9 ptE 178 a n k ps A))
  (fun a n k I0 F0 I' F'=>∃A,F'.Perm (A++F)∧Acc 9 ptE 178 a n k ps A)
  (fun a n k x i m I0 F0 I' F'=>0≤i∧i≤n∧m=(n-i).toNat∧¬i0<0∧∃A,F'.Perm (A++F)∧Acc 9 ptE 178 a n k ps A∧∀p∈ps.take i.toNat,(mustT s.p p.1.px p.2).e=0) ?_
 unfold types_scope_do.V
 intro b_d
 have hsc:∀{J:Imm},Imm.le I J→ScA J c s:=fun h=>hA.mono h
 refine⟨⟨fun h1=>?_,fun h1=>⟨fun h2=>?_,fun h2=>⟨fun h3=>?_,fun h3=>⟨fun h4=>?_,fun h4=>⟨fun h5=>?_,fun h5=>?_⟩⟩⟩⟩⟩,fun v is a n k I15 F11 l15 ⟨his,A,hF11,hAcc⟩=>⟨fun hq=>?_,fun hq=>?_⟩⟩
 ·have h1:d.kind=1:=by simpa using h1
  rw[if_pos h1] at hI hpd
  intro b I1 l1 hb
  have happ:=pt_app (R:=(b_d,Obj.cells #[.int .u8 d.kind,.int .u8 d.order,.string d.name,.int .u8 d.side.kind,.int .u8 d.side.oper,.int .u8 d.side.typ,.int .i64 d.side.n,.int .u8 d.side.field,.string d.side.name,.slice d.side.a d.side.kids.length d.side.c,.int .i64 d.side.pos,.int .u8 d.qty.kind,.int .u8 d.qty.oper,.int .u8 d.qty.typ,.int .i64 d.qty.n,.int .u8 d.qty.field,.string d.qty.name,.slice d.qty.a d.qty.kids.length d.qty.c,.int .i64 d.qty.pos,.int .u8 d.price.kind,.int .u8 d.price.oper,.int .u8 d.price.typ,.int .i64 d.price.n,.int .u8 d.price.field,.string d.price.name,.slice d.price.a d.price.kids.length d.price.c,.int .i64 d.price.pos,.int .u8 d.value.kind,.int .u8 d.value.oper,.int .u8 d.value.typ,.int .i64 d.value.n,.int .u8 d.value.field,.string d.value.name,.slice d.value.a d.value.kids.length d.value.c,.int .i64 d.value.pos,.int .i64 d.pos] 95 (0,0))::F) (A:=[]) (m:=2) Acc.nil (by simp) [(d.side,6),(d.qty,2)] (by simp) (by simp) rfl (two_enc hb) (.refl _)
  refine TriE.mono happ fun v I2 G l2 ⟨a',n',c',A',hv,hA',hG⟩=>⟨a',n',c',hv,A'++F,hG.trans List.perm_middle,⟨fun ho=>?_,fun ho=>?_⟩,fun pa pn pc I5 F3 l5 ⟨A3,hF3,hA3⟩=>⟨fun hn=>?_,fun hn=>?_⟩⟩
  ·have ho:d.order≠2:=by simpa using ho
   rw[if_pos ho] at hpd
   intro b1 I3 l3 hb1
   have happ:=pt_app (R:=(b_d,Obj.cells #[.int .u8 d.kind,.int .u8 d.order,.string d.name,.int .u8 d.side.kind,.int .u8 d.side.oper,.int .u8 d.side.typ,.int .i64 d.side.n,.int .u8 d.side.field,.string d.side.name,.slice d.side.a d.side.kids.length d.side.c,.int .i64 d.side.pos,.int .u8 d.qty.kind,.int .u8 d.qty.oper,.int .u8 d.qty.typ,.int .i64 d.qty.n,.int .u8 d.qty.field,.string d.qty.name,.slice d.qty.a d.qty.kids.length d.qty.c,.int .i64 d.qty.pos,.int .u8 d.price.kind,.int .u8 d.price.oper,.int .u8 d.price.typ,.int .i64 d.price.n,.int .u8 d.price.field,.string d.price.name,.slice d.price.a d.price.kids.length d.price.c,.int .i64 d.price.pos,.int .u8 d.value.kind,.int .u8 d.value.oper,.int .u8 d.value.typ,.int .i64 d.value.n,.int .u8 d.value.field,.string d.value.name,.slice d.value.a d.value.kids.length d.value.c,.int .i64 d.value.pos,.int .i64 d.pos] 95 (0,0))::F) (A:=A') hA' (by simp) [(d.price,3)] (by simp) (by simp) rfl hb1 List.perm_middle.symm
   refine TriE.mono happ fun v I4 G l4 ⟨a2,n2,c2,A2,hv,hA2,hG⟩=>⟨a2,n2,c2,hv,A2++F,hG.trans List.perm_middle,A2,.refl _, ?_⟩
   rw[hps,hpd];exact hA2
  ·have ho:d.order=2:=by simpa using ho
   rw[if_neg (by simpa using ho)] at hpd
   refine⟨A',.refl _, ?_⟩
   rw[hps,hpd];exact hA'
  ·have hn:d.name.toList=[]:=by simpa using hn
   rw[if_pos hn] at hI
   exact⟨by rw[hi0,hI];rfl,A3,hF3,fun _=>hA3⟩
  ·have hn:¬d.name.toList=[]:=by simpa using hn
   rw[if_neg hn] at hI
   obtain⟨m1,m2,o1,o2,hS,hm1,hc1,hm2,hc2⟩:=hsc (Imm.le_trans l1 (Imm.le_trans l2 l5))
   refine⟨_,rfl,some m1,(hS.rd _).1,(cnt_has hc1 hm1 d.name).mono fun v I6 G l6 ⟨r,hv,hI6,hG,hr⟩=>⟨r,hv,F3,by rw[hG], ?_,A3,hF3,fun _=>hA3⟩⟩
   rw[hr,slot_has,hi0,hI]
 ·have h1:d.kind≠1:=by simpa using h1
  have h2:d.kind=2:=by simpa using h2
  rw[if_neg h1,if_pos (.inl h2)] at hI
  rw[if_neg h1,if_pos h2] at hpd
  intro b I1 l1 hb
  have happ:=pt_app (R:=(b_d,Obj.cells #[.int .u8 d.kind,.int .u8 d.order,.string d.name,.int .u8 d.side.kind,.int .u8 d.side.oper,.int .u8 d.side.typ,.int .i64 d.side.n,.int .u8 d.side.field,.string d.side.name,.slice d.side.a d.side.kids.length d.side.c,.int .i64 d.side.pos,.int .u8 d.qty.kind,.int .u8 d.qty.oper,.int .u8 d.qty.typ,.int .i64 d.qty.n,.int .u8 d.qty.field,.string d.qty.name,.slice d.qty.a d.qty.kids.length d.qty.c,.int .i64 d.qty.pos,.int .u8 d.price.kind,.int .u8 d.price.oper,.int .u8 d.price.typ,.int .i64 d.price.n,.int .u8 d.price.field,.string d.price.name,.slice d.price.a d.price.kids.length d.price.c,.int .i64 d.price.pos,.int .u8 d.value.kind,.int .u8 d.value.oper,.int .u8 d.value.typ,.int .i64 d.value.n,.int .u8 d.value.field,.string d.value.name,.slice d.value.a d.value.kids.length d.value.c,.int .i64 d.value.pos,.int .i64 d.pos] 95 (0,0))::F) (A:=[]) (m:=2) Acc.nil (by simp) [(d.qty,2),(d.price,3)] (by simp) (by simp) rfl (two_enc hb) (.refl _)
  refine TriE.mono happ fun v I2 G l2 ⟨a',n',c',A',hv,hA',hG⟩=>⟨a',n',c',hv,A'++F,hG.trans List.perm_middle, ?_⟩
  obtain⟨m1,m2,o1,o2,hS,hm1,hc1,hm2,hc2⟩:=hsc (Imm.le_trans l1 l2)
  refine⟨_,rfl,some m1,(hS.rd _).1,(cnt_has hc1 hm1 d.name).mono fun v I6 G l6 ⟨r,hv,hI6,hG,hr⟩=>⟨r,hv,A'++F,by rw[hG], ?_,A',.refl _,fun _=>?_⟩⟩
  ·rw[hr,slot_has,hi0,hI]
  ·rw[hps,hpd];exact hA'
 ·have h1:d.kind≠1:=by simpa using h1
  have h2:d.kind≠2:=by simpa using h2
  have h3:d.kind=3:=by simpa using h3
  rw[if_neg h1,if_pos (.inr h3)] at hI
  rw[if_neg h1,if_neg h2,if_neg (by omega)] at hpd
  obtain⟨m1,m2,o1,o2,hS,hm1,hc1,hm2,hc2⟩:=hA
  refine⟨_,rfl,some m1,(hS.rd _).1,(cnt_has hc1 hm1 d.name).mono fun v I6 G l6 ⟨r,hv,hI6,hG,hr⟩=>⟨r,hv,F,by rw[hG], ?_,[],.refl _,fun _=>?_⟩⟩
  ·rw[hr,slot_has,hi0,hI]
  ·rw[hps,hpd];exact Acc.nil
 ·have h1:d.kind≠1:=by simpa using h1
  have h2:d.kind≠2:=by simpa using h2
  have h3:d.kind≠3:=by simpa using h3
  have h4:d.kind=4:=by simpa using h4
  rw[if_neg h1,if_neg (by omega),if_pos h4] at hI
  rw[if_neg h1,if_neg h2,if_pos h4] at hpd
  obtain⟨m1,m2,o1,o2,⟨m0,es,ck,hc,hm,hgm⟩,hm1,hc1,hm2,hc2⟩:=hA
  refine⟨_,rfl,some m0,Rd.of_imm hc _ 0 fun j hj=>?_, ?_⟩
  ·have:j=0:=by simpa using hj
   subst this;rfl
  refine TriE.mono (lookup_ok mapR strD str_key str_inj zeroR hgm (.inl hm) d.name) fun v I3 G l3 ⟨hv,hI3,hG⟩=>?_
  subst hI3 hG
  rw[firstG_reg] at hv
  by_cases hr:s.p.reg d.name<0
  ·rw[if_pos hr] at hv
   refine⟨0,false,hv,F,.refl _,fun b I4 l4 hb=>?_⟩
   have happ:=pt_app (R:=(b_d,Obj.cells #[.int .u8 d.kind,.int .u8 d.order,.string d.name,.int .u8 d.side.kind,.int .u8 d.side.oper,.int .u8 d.side.typ,.int .i64 d.side.n,.int .u8 d.side.field,.string d.side.name,.slice d.side.a d.side.kids.length d.side.c,.int .i64 d.side.pos,.int .u8 d.qty.kind,.int .u8 d.qty.oper,.int .u8 d.qty.typ,.int .i64 d.qty.n,.int .u8 d.qty.field,.string d.qty.name,.slice d.qty.a d.qty.kids.length d.qty.c,.int .i64 d.qty.pos,.int .u8 d.price.kind,.int .u8 d.price.oper,.int .u8 d.price.typ,.int .i64 d.price.n,.int .u8 d.price.field,.string d.price.name,.slice d.price.a d.price.kids.length d.price.c,.int .i64 d.price.pos,.int .u8 d.value.kind,.int .u8 d.value.oper,.int .u8 d.value.typ,.int .i64 d.value.n,.int .u8 d.value.field,.string d.value.name,.slice d.value.a d.value.kids.length d.value.c,.int .i64 d.value.pos,.int .i64 d.pos] 95 (0,0))::F) (A:=[]) Acc.nil (by simp) [(d.value,0)] (by simp) (by simp) rfl hb (.refl _)
   refine TriE.mono happ fun v I2 G l2 ⟨a',n',c',A',hv,hA',hG⟩=>⟨a',n',c',hv,A'++F,hG.trans List.perm_middle, ?_,A',.refl _,fun h=>(by cases h)⟩
   rw[hi0,hI,decide_eq_true hr];rfl
  ·rw[if_neg hr] at hv
   refine⟨s.p.regT (s.p.reg d.name),true,hv,F,.refl _,fun b I4 l4 hb=>?_⟩
   have happ:=pt_app (R:=(b_d,Obj.cells #[.int .u8 d.kind,.int .u8 d.order,.string d.name,.int .u8 d.side.kind,.int .u8 d.side.oper,.int .u8 d.side.typ,.int .i64 d.side.n,.int .u8 d.side.field,.string d.side.name,.slice d.side.a d.side.kids.length d.side.c,.int .i64 d.side.pos,.int .u8 d.qty.kind,.int .u8 d.qty.oper,.int .u8 d.qty.typ,.int .i64 d.qty.n,.int .u8 d.qty.field,.string d.qty.name,.slice d.qty.a d.qty.kids.length d.qty.c,.int .i64 d.qty.pos,.int .u8 d.price.kind,.int .u8 d.price.oper,.int .u8 d.price.typ,.int .i64 d.price.n,.int .u8 d.price.field,.string d.price.name,.slice d.price.a d.price.kids.length d.price.c,.int .i64 d.price.pos,.int .u8 d.value.kind,.int .u8 d.value.oper,.int .u8 d.value.typ,.int .i64 d.value.n,.int .u8 d.value.field,.string d.value.name,.slice d.value.a d.value.kids.length d.value.c,.int .i64 d.value.pos,.int .i64 d.pos] 95 (0,0))::F) (A:=[]) Acc.nil (by simp) [(d.value,s.p.regT (s.p.reg d.name))] (by simp) (by simp) rfl hb (.refl _)
   refine TriE.mono happ fun v I2 G l2 ⟨a',n',c',A',hv,hA',hG⟩=>⟨a',n',c',hv,A'++F,hG.trans List.perm_middle, ?_,A',.refl _,fun _=>?_⟩
   ·rw[hi0,hI,decide_eq_false hr];rfl
   ·rw[hps,hpd,hi0,hI];exact hA'
 ·have h1:d.kind≠1:=by simpa using h1
  have h2:d.kind≠2:=by simpa using h2
  have h3:d.kind≠3:=by simpa using h3
  have h4:d.kind≠4:=by simpa using h4
  have h5:d.kind=5:=by simpa using h5
  rw[if_neg h1,if_neg (by omega),if_neg h4,if_pos h5] at hI
  rw[if_neg h1,if_neg h2,if_neg h4] at hpd
  obtain⟨m1,m2,o1,o2,hS,hm1,hc1,hm2,hc2⟩:=hA
  refine⟨_,rfl,some m2,(hS.rd _).2,(cnt_has hc2 hm2 d.name).mono fun v I6 G l6 ⟨r,hv,hI6,hG,hr⟩=>⟨r,hv,F,by rw[hG], ?_,[],.refl _,fun _=>?_⟩⟩
  ·rw[hr,room_has,hi0,hI]
  ·rw[hps,hpd];exact Acc.nil
 ·have h1:d.kind≠1:=by simpa using h1
  have h2:d.kind≠2:=by simpa using h2
  have h3:d.kind≠3:=by simpa using h3
  have h4:d.kind≠4:=by simpa using h4
  have h5:d.kind≠5:=by simpa using h5
  rw[if_neg h1,if_neg (by omega),if_neg h4,if_neg h5] at hI
  rw[if_neg h1,if_neg h2,if_neg h4] at hpd
  refine⟨by rw[hi0,hI];rfl,[],.refl _,fun _=>?_⟩
  rw[hps,hpd];exact Acc.nil
 ·have hneg:i0<0:=by rw[his] at hq;simpa using hq
  rw[if_pos hneg] at hdT
  refine Tri.retV (refused_no (hg.mono l15) d.pos 151 (by decide) _) fun v2 I2 l2 hv2=>⟨v2,rfl,F11,.refl _,v2,A,rfl,hF11,fun J hJ hx=>?_⟩
  rw[hdT];exact ChkE.mono hv2 hJ
 ·have hq:is=true:=by simpa using hq
  have hneg:¬i0<0:=by rw[his] at hq;simpa using hq
  rw[if_neg hneg] at hdT
  have hAcc:=hAcc hq
  have hn:=hAcc.1
  refine⟨⟨_,by omega,by omega,rfl,hneg,A,hF11,hAcc,fun p hp=>by simp at hp⟩,fun x i m I17 F13 l17 ⟨g0,g1,gm,_,A2,hF13,hA2,hall⟩=>⟨fun hlt=>?_,fun hlt=>?_⟩⟩
  ·have hlt:=of_decide_eq_true hlt
   have l:=Imm.le_trans l15 l17
   have hS2:=hA2.slg (z:=9) (f:=ptE) (fun _=>rfl) I17 (G:=(b_d,Obj.cells #[.int .u8 d.kind,.int .u8 d.order,.string d.name,.int .u8 d.side.kind,.int .u8 d.side.oper,.int .u8 d.side.typ,.int .i64 d.side.n,.int .u8 d.side.field,.string d.side.name,.slice d.side.a d.side.kids.length d.side.c,.int .i64 d.side.pos,.int .u8 d.qty.kind,.int .u8 d.qty.oper,.int .u8 d.qty.typ,.int .i64 d.qty.n,.int .u8 d.qty.field,.string d.qty.name,.slice d.qty.a d.qty.kids.length d.qty.c,.int .i64 d.qty.pos,.int .u8 d.price.kind,.int .u8 d.price.oper,.int .u8 d.price.typ,.int .i64 d.price.n,.int .u8 d.price.field,.string d.price.name,.slice d.price.a d.price.kids.length d.price.c,.int .i64 d.price.pos,.int .u8 d.value.kind,.int .u8 d.value.oper,.int .u8 d.value.typ,.int .i64 d.value.n,.int .u8 d.value.field,.string d.value.name,.slice d.value.a d.value.kids.length d.value.c,.int .i64 d.value.pos,.int .i64 d.pos] 95 (0,0))::F13) fun y hy=>.tail _ (hF13.mem_iff.2 (List.mem_append_left _ hy))
   obtain⟨ad,p,had,hp,hrd,hpm⟩:=SlG.atm hS2 g0 hlt
   refine⟨⟨g0,hlt⟩,ad,had,_,_,_,_,_,_,_,_,_,_,_,hrd,fun b_p=>?_⟩
   have hpm':p∈dparts d (s.p.regT i0):=hps▸hpm
   obtain⟨m1,m2,o1,o2,hS,hm1,hc1,hm2,hc2⟩:=hsc l
   refine Tri.retV (pmust_spec p.1 (hfit _ p hpm') p.2 (hg.mono l) hS ((dparts_ok hdo p hpm').mono l fun y hy=>.tail _ (.tail _ (hF13.mem_iff.2 (List.mem_append_right _ hy))))) fun v2 I2 l2 hv2=>⟨v2,rfl,F13,.refl _,_,ChkE.neq hv2 (by kernel_rfl),fun he=>?_,fun he=>⟨(n-(i+1)).toNat,by omega, ?_⟩⟩
   ·have he:(mustT s.p p.1.px p.2).e≠0:=by simpa using he
    refine⟨v2,A2,rfl,hF13,fun J hJ hx=>?_⟩
    rw[hdT,firstT_hit (f:=fun p:Nd×Int=>mustT s.p p.1.px p.2) hall hp he]
    exact ChkE.mono hv2 hJ
   ·have he:(mustT s.p p.1.px p.2).e=0:=by simpa using he
    rw[w64 (n:=i+1) (by omega)]
    refine⟨by omega,by omega,rfl,hneg,A2,hF13,hA2, ?_⟩
    rw[show (i+1).toNat=i.toNat+1 by omega]
    exact take_all hp hall he
  ·have hlt:=of_decide_eq_false hlt
   refine⟨_,A2,rfl,hF13,fun J hJ hx=>?_⟩
   rw[List.take_of_length_le (by omega)] at hall
   rw[hdT,firstT_all hall]
   exact ChkE.ok
end
end Go.Lx
namespace Go.Lx
open Go.Vc
def RuleN.Fit(r:RuleN):Prop:=r.when.px.checkE=0∧∀d∈r.dos,d.Fit∧d.kind≤6
theorem check_rule{r:RuleN}(h:r.p.check=0):r.Fit:=by
 unfold RuleP.check at h
 obtain⟨h1,h⟩:=thenE_z h
 obtain⟨_,h⟩:=thenE_z h
 obtain⟨_,h⟩:=thenE_z h
 refine⟨h1,fun d hd=>?_⟩
 have hd:=firstE_z h d.p (List.mem_map_of_mem hd)
 refine⟨check_parts hd, ?_⟩
 unfold DoP.check at hd
 have h1:=errB_z (by decide) (thenE_z hd).1
 have:=of_decide_eq_true h1
 exact this.2
theorem check_rules{s:StgN}(h:s.p.check=0):∀x∈s.states,∀r∈x.rules,r.Fit:=by
 unfold StgP.check at h
 obtain⟨_,h⟩:=thenE_z h
 obtain⟨_,h⟩:=thenE_z h
 obtain⟨_,h⟩:=thenE_z h
 obtain⟨_,h⟩:=thenE_z h
 obtain⟨_,h⟩:=thenE_z h
 obtain⟨_,h⟩:=thenE_z h
 obtain⟨_,h⟩:=thenE_z h
 intro x hx r hr
 have h1:=firstE_z h x.p (List.mem_map_of_mem hx)
 unfold StateP.check at h1
 obtain⟨_,h1⟩:=thenE_z h1
 obtain⟨_,h1⟩:=thenE_z h1
 exact check_rule (firstE_z h1 r.p (List.mem_map_of_mem hr))
def lastB(l:List DoN)(i:Int):Bool:=decide (0<i)&&(match l[i.toNat-1]? with
 | some d=>decide (d.kind=5∨d.kind=6)
 | none=>false)
section
variable {s:StgN} {I:Imm} {F:Heap} {c:Nat}
set_option maxHeartbeats 1000000 in
theorem prule_spec(hg:Gl I)(hA:ScA I c s)(r:RuleN)(hro:r.Ok I F)(hfit:r.Fit)(hlen:r.dos.length≤1048576):Tri P 35 #[.pointer (some ⟨c,0,none⟩),r.v] I F (RetV (FltE (ruleT s.p r.p)) F):=by
 obtain⟨hw,hds⟩:=hfit
 have hrt:ruleT s.p r.p=thenT (mustT s.p r.when.px 5) (dosT s.p (r.dos.map DoN.p) false):=rfl
 refine types_scope_rule.vc (fun x i m I' F'=>F'=F∧0≤i∧i≤r.dos.length∧m=(r.dos.length-i).toNat∧ruleT s.p r.p=dosT s.p ((r.dos.drop i.toNat).map DoN.p) (lastB r.dos i)) ?_
 unfold types_scope_rule.V
 intro b_r
 have hS:∃m1 m2,Scp I c s.p m1 m2:=let ⟨m1,m2,_,_,h,_⟩:=hA;⟨m1,m2,h⟩
 obtain⟨m1,m2,hS⟩:=hS
 refine Tri.retV (pmust_spec r.when hw 5 hg hS (hro.1.mono (Imm.le_refl I) fun y hy=>.tail _ hy)) fun v I1 l1 hv=>⟨v,rfl,F,.refl _,_,ChkE.neq hv (by kernel_rfl),fun he=>?_,fun he=>?_⟩
 ·have he:(mustT s.p r.when.px 5).e≠0:=by simpa using he
  rw[hrt,thenT_e _ he]
  exact⟨v,rfl,hv,rfl⟩
 have he:(mustT s.p r.when.px 5).e=0:=by simpa using he
 rw[thenT_z _ he] at hrt
 refine⟨⟨_,rfl,by omega,by omega,rfl,hrt⟩,fun x i m I2 F2 l2 ⟨gF,g0,g1,gm,ge⟩=>⟨fun hlt=>?_,fun hlt=>?_⟩⟩
 ·subst gF
  have hlt:=of_decide_eq_true hlt
  have l:=Imm.le_trans l1 l2
  have hr2:∀x:Nat×Obj,RuleN.Ok I2 (x::F2) r:=fun x=>hro.mono l fun y hy=>.tail _ hy
  obtain⟨ad,d,had,hd,hrd,hdm⟩:=SlG.atm (hr2 (b_r,Obj.cells #[.int .u8 r.when.kind,.int .u8 r.when.oper,.int .u8 r.when.typ,.int .i64 r.when.n,.int .u8 r.when.field,.string r.when.name,.slice r.when.a r.when.kids.length r.when.c,.int .i64 r.when.pos,.slice r.a r.dos.length r.c,.int .i64 r.pos] 87 (0,0))).2.1 g0 hlt
  obtain⟨hk,hdk⟩:=List.getElem?_eq_some_iff.1 hd
  obtain⟨hdf,hd6⟩:=hds d hdm
  rw[List.drop_eq_getElem_cons hk,hdk,List.map_cons,dosT] at ge
  have step:∀b_d:Nat,lastB r.dos i=false→Tri P 66 #[.pointer (some ⟨c,0,none⟩),d.v] I2 ((b_r,Obj.cells #[.int .u8 r.when.kind,.int .u8 r.when.oper,.int .u8 r.when.typ,.int .i64 r.when.n,.int .u8 r.when.field,.string r.when.name,.slice r.when.a r.when.kids.length r.when.c,.int .i64 r.when.pos,.slice r.a r.dos.length r.c,.int .i64 r.pos] 87 (0,0))::(b_d,Obj.cells #[.int .u8 d.kind,.int .u8 d.order,.string d.name,.int .u8 d.side.kind,.int .u8 d.side.oper,.int .u8 d.side.typ,.int .i64 d.side.n,.int .u8 d.side.field,.string d.side.name,.slice d.side.a d.side.kids.length d.side.c,.int .i64 d.side.pos,.int .u8 d.qty.kind,.int .u8 d.qty.oper,.int .u8 d.qty.typ,.int .i64 d.qty.n,.int .u8 d.qty.field,.string d.qty.name,.slice d.qty.a d.qty.kids.length d.qty.c,.int .i64 d.qty.pos,.int .u8 d.price.kind,.int .u8 d.price.oper,.int .u8 d.price.typ,.int .i64 d.price.n,.int .u8 d.price.field,.string d.price.name,.slice d.price.a d.price.kids.length d.price.c,.int .i64 d.price.pos,.int .u8 d.value.kind,.int .u8 d.value.oper,.int .u8 d.value.typ,.int .i64 d.value.n,.int .u8 d.value.field,.string d.value.name,.slice d.value.a d.value.kids.length d.value.c,.int .i64 d.value.pos,.int .i64 d.pos] 95 (0,0))::F2) (RetV (FltE (doT s.p d.p)) ((b_r,Obj.cells #[.int .u8 r.when.kind,.int .u8 r.when.oper,.int .u8 r.when.typ,.int .i64 r.when.n,.int .u8 r.when.field,.string r.when.name,.slice r.when.a r.when.kids.length r.when.c,.int .i64 r.when.pos,.slice r.a r.dos.length r.c,.int .i64 r.pos] 87 (0,0))::(b_d,Obj.cells #[.int .u8 d.kind,.int .u8 d.order,.string d.name,.int .u8 d.side.kind,.int .u8 d.side.oper,.int .u8 d.side.typ,.int .i64 d.side.n,.int .u8 d.side.field,.string d.side.name,.slice d.side.a d.side.kids.length d.side.c,.int .i64 d.side.pos,.int .u8 d.qty.kind,.int .u8 d.qty.oper,.int .u8 d.qty.typ,.int .i64 d.qty.n,.int .u8 d.qty.field,.string d.qty.name,.slice d.qty.a d.qty.kids.length d.qty.c,.int .i64 d.qty.pos,.int .u8 d.price.kind,.int .u8 d.price.oper,.int .u8 d.price.typ,.int .i64 d.price.n,.int .u8 d.price.field,.string d.price.name,.slice d.price.a d.price.kids.length d.price.c,.int .i64 d.price.pos,.int .u8 d.value.kind,.int .u8 d.value.oper,.int .u8 d.value.typ,.int .i64 d.value.n,.int .u8 d.value.field,.string d.value.name,.slice d.value.a d.value.kids.length d.value.c,.int .i64 d.value.pos,.int .i64 d.pos] 95 (0,0))::F2)):=fun b_d _ =>
   pdo_spec (hg.mono l) (hA.mono l) d ((hro.2.2 d hdm).mono l fun y hy=>.tail _ (.tail _ hy)) hdf
  have next:lastB r.dos i=false→(doT s.p d.p).e=0→ruleT s.p r.p=dosT s.p ((r.dos.drop (i+1).toNat).map DoN.p) (lastB r.dos (i+1)):=fun hb h0=>by
   rw[ge,hb,if_neg (by simp),if_neg (by simpa using h0),show (i+1).toNat=i.toNat+1 by omega]
   have:lastB r.dos (i+1)=decide (d.p.kind=5∨d.p.kind=6):=by
    unfold lastB
    rw[show (i+1).toNat-1=i.toNat by omega,hd,decide_eq_true (show 0<i+1 by omega)]
    rfl
   rw[this]
  refine⟨⟨g0,hlt⟩,ad,had,_,_,_,_,_,_,_,_,_,_,_,_,_,_,_,_,_,_,_,_,_,_,_,_,_,_,_,_,_,_,_,_,_,_,_,_,_,_,_,_,_,_,_,_,hrd,fun b_d=>⟨fun hp=>?_,fun hp=>?_⟩⟩
  ·have hp:=of_decide_eq_true hp
   have hw1:IntKind.wrap .i64 (i-1)=i-1:=w64 (by omega)
   rw[hw1]
   obtain⟨ad1,d1,had1,hd1,hrd1,hdm1⟩:=SlG.atm ((hr2 (b_d,Obj.cells #[.int .u8 d.kind,.int .u8 d.order,.string d.name,.int .u8 d.side.kind,.int .u8 d.side.oper,.int .u8 d.side.typ,.int .i64 d.side.n,.int .u8 d.side.field,.string d.side.name,.slice d.side.a d.side.kids.length d.side.c,.int .i64 d.side.pos,.int .u8 d.qty.kind,.int .u8 d.qty.oper,.int .u8 d.qty.typ,.int .i64 d.qty.n,.int .u8 d.qty.field,.string d.qty.name,.slice d.qty.a d.qty.kids.length d.qty.c,.int .i64 d.qty.pos,.int .u8 d.price.kind,.int .u8 d.price.oper,.int .u8 d.price.typ,.int .i64 d.price.n,.int .u8 d.price.field,.string d.price.name,.slice d.price.a d.price.kids.length d.price.c,.int .i64 d.price.pos,.int .u8 d.value.kind,.int .u8 d.value.oper,.int .u8 d.value.typ,.int .i64 d.value.n,.int .u8 d.value.field,.string d.value.name,.slice d.value.a d.value.kids.length d.value.c,.int .i64 d.value.pos,.int .i64 d.pos] 95 (0,0))).cons (x:=(b_r,Obj.cells #[.int .u8 r.when.kind,.int .u8 r.when.oper,.int .u8 r.when.typ,.int .i64 r.when.n,.int .u8 r.when.field,.string r.when.name,.slice r.when.a r.when.kids.length r.when.c,.int .i64 r.when.pos,.slice r.a r.dos.length r.c,.int .i64 r.pos] 87 (0,0)))).2.1 (i:=i-1) (by omega) (by omega)
   have hlb:lastB r.dos i=decide (d1.kind=5∨d1.kind=6):=by
    unfold lastB
    rw[show i.toNat-1=(i-1).toNat by omega,hd1,decide_eq_true hp]
    rfl
   have h16:=(hds d1 hdm1).2
   refine⟨⟨by omega,by omega⟩,ad1,had1,d1.kind,hrd1.field (o:=0) rfl,fun h5=>?_,fun h5=>?_⟩
   ·have h5:=of_decide_eq_true h5
    have hb:lastB r.dos i=true:=by rw[hlb];exact decide_eq_true (by omega)
    rw[hb,if_pos rfl] at ge
    exact Tri.retV (refused_no (hg.mono l) d.pos 153 (by decide) _) fun v2 I3 l3 hv2=>⟨v2,rfl,F2,.refl _,v2,rfl,by rw[ge];exact hv2,rfl⟩
   ·have h5:=of_decide_eq_false h5
    have hb:lastB r.dos i=false:=by rw[hlb];exact decide_eq_false (by omega)
    refine Tri.retV (step b_d hb) fun v2 I3 l3 hv2=>⟨v2,rfl,F2,.refl _,_,ChkE.neq hv2 (by kernel_rfl),fun hq=>?_,fun hq=>⟨(r.dos.length-(i+1)).toNat,by omega, ?_⟩⟩
    ·have hq:(doT s.p d.p).e≠0:=by simpa using hq
     rw[ge,hb,if_neg (by simp),if_pos hq]
     exact⟨v2,rfl,hv2,rfl⟩
    ·have hq:(doT s.p d.p).e=0:=by simpa using hq
     rw[w64 (n:=i+1) (by omega)]
     exact⟨rfl,by omega,by omega,rfl,next hb hq⟩
  ·have hp:=of_decide_eq_false hp
   have hb:lastB r.dos i=false:=by unfold lastB;rw[decide_eq_false (by omega)];rfl
   refine Tri.retV (step b_d hb) fun v2 I3 l3 hv2=>⟨v2,rfl,F2,.refl _,_,ChkE.neq hv2 (by kernel_rfl),fun hq=>?_,fun hq=>⟨(r.dos.length-(i+1)).toNat,by omega, ?_⟩⟩
   ·have hq:(doT s.p d.p).e≠0:=by simpa using hq
    rw[ge,hb,if_neg (by simp),if_pos hq]
    exact⟨v2,rfl,hv2,rfl⟩
   ·have hq:(doT s.p d.p).e=0:=by simpa using hq
    rw[w64 (n:=i+1) (by omega)]
    exact⟨rfl,by omega,by omega,rfl,next hb hq⟩
 ·subst gF
  have hlt:=of_decide_eq_false hlt
  rw[List.drop_eq_nil_of_le (by omega),List.map_nil,dosT] at ge
  rw[ge];exact⟨_,rfl,ChkE.ok,rfl⟩
theorem declared2_spec(hl:s.p.Thin)(hok:s.Ok I F)(hg:Gl I)(hf:∀r∈s.regs,r.init.px.formed=true){m1 m2:Nat}(hS:Scp I c s.p m1 m2) :
  Tri P 34 #[.pointer (some ⟨c,0,none⟩),s.v] I ((m1,.map #[] 0)::(m2,.map #[] 0)::F) (RetV (fun v J=>FltE s.p.named v J∧(s.p.named.e=0→ScA J c s)) F) :=
 Tri.keep (declared_spec hl hok hg hf hS) fun e I' G w l hs ⟨v,he,hv,o1,o2,hG,hk⟩=>by
  subst hG
  obtain⟨J,g1,g2,g3⟩:=Sat.still [(m1,o1),(m2,o2)] hs
  exact⟨J,F,g1,g3,v,he,⟨hv.mono g1,fun h0=>⟨m1,m2,o1,o2,hS.mono (Imm.le_trans l g1),g2 _ (.head _),(hk h0).1,g2 _ (.tail _ (.head _)),(hk h0).2⟩⟩,rfl⟩
end
end Go.Lx
namespace Go.Lx
open Go.Vc
set_option maxHeartbeats 1000000 in
theorem pCheck_specT(s:StgN)(hl:s.p.Thin){I:Imm}{F:Heap}(hok:s.Ok I F)(hg:Gl I):Tri P 13 #[s.v] I F (RetV (FltE s.p.types) F):=by
 have lr:=hl.regs
 have lt:=hl.states
 simp only[StgN.p,List.length_map] at lr lt
 have hdef:s.p.types=if s.p.check≠0 then ⟨s.p.check,0,false⟩ else thenT s.p.named (firstT (fun x=>firstT (ruleT s.p) x.rules) (s.states.map StateN.p)):=rfl
 refine types_Check.vc
  (fun cA x i m I0 F0 I' F'=>F'=F∧0≤i∧i≤s.states.length∧m=(s.states.length-i).toNat∧(∃c,cA=some (⟨c,0,none⟩:Addr)∧ScA I' c s)∧(∀x∈s.states,∀r∈x.rules,r.Fit)∧s.p.types=firstT (fun x=>firstT (ruleT s.p) x.rules) ((s.states.drop i.toNat).map StateN.p))
  (fun cA i x k m I0 F0 I' F'=>F'=F∧∃y,s.states[i.toNat]? = some y∧0≤k∧k≤y.rules.length∧m=(y.rules.length-k).toNat∧(∃c,cA=some (⟨c,0,none⟩:Addr)∧ScA I' c s)∧(∀x∈s.states,∀r∈x.rules,r.Fit) ∧
    s.p.types=thenT (firstT (ruleT s.p) ((y.rules.drop k.toNat).map RuleN.p)) (firstT (fun x=>firstT (ruleT s.p) x.rules) ((s.states.drop (i.toNat+1)).map StateN.p))) ?_
 unfold types_Check.V
 intro b_s
 have ok1:∀{J:Imm} {x:Nat×Obj},Imm.le I J→s.Ok J (x::F):=fun hJ=>hok.mono hJ fun y hy=>.tail _ hy
 refine Tri.ret (Check_spec s hl.small hl.lens I _ (ok1 (Imm.le_refl I))) fun I1 l1=>⟨_,rfl,F,.refl _,fun hc=>?_,fun hc=>?_⟩
 ·have hc:s.p.check≠0:=by simpa using hc
  rw[hdef,if_pos hc]
  exact Tri.retV (refused_no (hg.mono l1) 0 s.p.check hc _) fun v I2 l2 hv=>⟨v,rfl,F,.refl _,v,rfl,hv,rfl⟩
 have hc:s.p.check=0:=by simpa using hc
 rw[if_neg (by simpa using hc)] at hdef
 have hfit:=check_rules hc
 have hfm:∀r∈s.regs,r.init.px.formed=true:=fun r hr=>check_regs hc r.p (List.mem_map_of_mem hr)
 refine (registers_spec s lr I1 _ (ok1 l1)).mono fun e I2 G l2 ⟨c,m1,m2,he,hS,hG⟩=>?_
 subst hG
 have l12:=Imm.le_trans l1 l2
 refine⟨_,he,(m1,.map #[] 0)::(m2,.map #[] 0)::F,pm2, ?_⟩
 have hdec:=declared2_spec (F:=(b_s,Obj.cells #[.string s.name,.slice s.ra s.regs.length s.rc,.slice s.sa s.slots.length s.sc,.slice s.ta s.states.length s.tc] 26 (0,0))::F) hl (ok1 l12) (hg.mono l12) hfm hS
 refine (hdec.perm pm2.symm).mono fun e I3 G l3 ⟨v,he,⟨hv,hk⟩,hG⟩=>⟨v,he,F,by rw[hG],_,ChkE.neq hv (by kernel_rfl),fun hq=>?_,fun hq=>?_⟩
 ·have hq:s.p.named.e≠0:=by simpa using hq
  rw[hdef,thenT_e _ hq]
  exact⟨v,rfl,hv,rfl⟩
 have hq:s.p.named.e=0:=by simpa using hq
 rw[thenT_z _ hq] at hdef
 have l123:=Imm.le_trans l12 l3
 refine⟨⟨_,rfl,by omega,by omega,rfl,⟨c,rfl,hk hq⟩,hfit,hdef⟩,fun x i m I4 F4 l4 ⟨gF,g0,g1,gm,⟨c',hc',hA⟩,_,ge⟩=>⟨fun hlt=>?_,fun hlt=>?_⟩⟩
 ·subst gF
  obtain rfl:c=c':=by simpa using hc'
  have hlt:=of_decide_eq_true hlt
  have l:=Imm.le_trans l123 l4
  obtain⟨ad,y,had,hy,hrd,hym⟩:=SlG.atm (ok1 (x:=(b_s,Obj.cells #[.string s.name,.slice s.ra s.regs.length s.rc,.slice s.sa s.slots.length s.sc,.slice s.ta s.states.length s.tc] 26 (0,0))) l).states g0 hlt
  obtain⟨hk2,hyk⟩:=List.getElem?_eq_some_iff.1 hy
  rw[List.drop_eq_getElem_cons hk2,hyk,List.map_cons] at ge
  have hly:=(hl.state y.p (List.mem_map_of_mem hym)).1
  have hlr:=(hl.state y.p (List.mem_map_of_mem hym)).2
  simp only[StateN.p,List.length_map] at hly
  refine⟨⟨g0,hlt⟩,ad,had,_,_,_,_,_,hrd,fun b_x=>⟨⟨_,rfl,y,hy,by omega,by omega,rfl,⟨c,rfl,hA⟩,hfit, ?_⟩,fun x2 k m3 I5 F5 l5 ⟨hF,y',hy',h0,h1,hm,⟨c2,hc2,hA2⟩,_,he2⟩=>⟨fun hlt2=>?_,fun hlt2=>⟨(s.states.length-(i+1)).toNat,by omega, ?_⟩⟩⟩⟩
  ·rw[ge];unfold thenT;rw[firstT];rfl
  ·subst hF
   obtain rfl:y=y':=by rw[hy] at hy';exact Option.some.inj hy'
   obtain rfl:c=c2:=by simpa using hc2
   have hlt2:=of_decide_eq_true hlt2
   have l5':=Imm.le_trans l l5
   have hyo:y.Ok I5 ((b_s,Obj.cells #[.string s.name,.slice s.ra s.regs.length s.rc,.slice s.sa s.slots.length s.sc,.slice s.ta s.states.length s.tc] 26 (0,0))::(b_x,Obj.cells #[.string y.name,.slice y.a y.rules.length y.c,.int .i64 y.pos] 74 (0,0))::F5):=(hok.state y hym).mono l5' fun z hz=>.tail _ (.tail _ hz)
   obtain⟨ad1,r,had1,hr,hrd1,hrm⟩:=SlG.atm hyo.1 h0 hlt2
   obtain⟨hk3,hrk⟩:=List.getElem?_eq_some_iff.1 hr
   rw[List.drop_eq_getElem_cons hk3,hrk,List.map_cons,firstT] at he2
   have hdl:=(hlr r.p (List.mem_map_of_mem hrm)).2.1
   simp only[RuleN.p,List.length_map] at hdl
   refine⟨⟨h0,hlt2⟩,ad1,had1,_,_,_,_,_,_,_,_,_,_,_,_,_,_,hrd1,fun b_r=>?_⟩
   refine Tri.retV (prule_spec (hg.mono l5') hA2 r ((hyo.2 r hrm).mono (Imm.le_refl _) fun z hz=>by
    rcases List.mem_cons.1 hz with rfl | hz
    ·exact .head _
    ·rcases List.mem_cons.1 hz with rfl | hz
     ·exact .tail _ (.head _)
     ·exact .tail _ (.tail _ (.tail _ hz))) (hfit y hym r hrm) hdl) fun v2 I6 l6 hv2=>⟨v2,rfl,F5,.refl _,_,ChkE.neq hv2 (by kernel_rfl),fun hq=>?_,fun hq=>⟨(y.rules.length-(k+1)).toNat,by omega, ?_⟩⟩
   ·have hq:(ruleT s.p r.p).e≠0:=by simpa using hq
    rw[he2,if_pos hq,thenT_e _ hq]
    exact⟨v2,rfl,hv2,rfl⟩
   ·have hq:(ruleT s.p r.p).e=0:=by simpa using hq
    rw[if_neg (by simpa using hq)] at he2
    rw[w64 (n:=k+1) (by omega)]
    refine⟨rfl,y,hy,by omega,by omega,rfl,⟨c,rfl,hA2.mono l6⟩,hfit, ?_⟩
    rw[he2,show (k+1).toNat=k.toNat+1 by omega]
  ·subst hF
   obtain rfl:y=y':=by rw[hy] at hy';exact Option.some.inj hy'
   obtain rfl:c=c2:=by simpa using hc2
   have hlt2:=of_decide_eq_false hlt2
   rw[List.drop_eq_nil_of_le (by omega),List.map_nil,firstT,thenT_z _ rfl] at he2
   rw[w64 (n:=i+1) (by omega)]
   refine⟨rfl,by omega,by omega,rfl,⟨c,rfl,hA2⟩,hfit, ?_⟩
   rw[he2,show (i+1).toNat=i.toNat+1 by omega]
 ·subst gF
  have hlt:=of_decide_eq_false hlt
  rw[List.drop_eq_nil_of_le (by omega),List.map_nil,firstT] at ge
  rw[ge];exact⟨_,rfl,ChkE.ok,rfl⟩
theorem pCheck_spec(s:StgN)(hl:s.p.Light){I:Imm}{F:Heap}(hok:s.Ok I F)(hg:Gl I):Tri P 13 #[s.v] I F (RetV (FltE s.p.types) F):=pCheck_specT s hl.thin hok hg
end Go.Lx
namespace Go.Lx
open Go.Vc Go.Proofs.Tryz
def shT_y2:List (Nat×List Sh):=[(3,[.one (.int .i64)]),(4,[.one .bool]),(40,[.one (.int .i64)]),(59,[.one .ptr])]
def parse_Wrong.V(vi:Int→Value)(vp:OA→Value)(b:Value)(I:Imm)(F:Heap)(Q:PostQ)  : Prop:=∃q:Bool,BinRun P .eql 38 (.tmp 7) (.const (Value.nilIface)) b Value.nilIface q∧(It q (Q (.returned (.tuple #[vi 0,vi 0])) I F) (∀a:Nat,∃(cs:List Value) (el:Nat) (F1:Heap),List.Perm ((a,Obj.cells #[vi 0] 40 (0,0))::F) (((⟨a,0,none⟩:Addr).block,Obj.cells cs.toArray el (0,0))::F1)∧(⟨a,0,none⟩:Addr).spot=none∧(⟨a,0,none⟩:Addr).off+1≤cs.length∧∀c:Nat,Tri P 22 (#[b,Value.iface 61 (vp (some (⟨c,0,none⟩:Addr)))]) I (((c,Obj.cells #[vp none] 59 (0,0))::(((⟨a,0,none⟩:Addr).block,Obj.cells (splice (⟨a,0,none⟩:Addr).off [vi (-1)] cs).toArray el (0,0))::F1))) fun e1 I1 G1=>∃(r:Bool),e1=.returned (.bool r)∧∃F2:Heap,List.Perm G1 F2∧(It r (∃(m:OA),Rd I1 F2 (⟨c,0,none⟩:Addr) [vp m]∧∃ad:Addr,m=some ad∧∃(m1:Int),Rd I1 F2 (ad.add 1) [vi m1]∧Tc1 P 22 (#[b,Value.iface 89 (vp (some (⟨a,0,none⟩:Addr)))]) I1 (·) F2 .bool fun r1 I2 F3=>∃(m2:Int),Rd I2 F3 (⟨a,0,none⟩:Addr) [vi m2]∧Q (.returned (.tuple #[vi m2,vi m1])) I2 F3) (Tc1 P 22 (#[b,Value.iface 89 (vp (some (⟨a,0,none⟩:Addr)))]) I1 (·) F2 .bool fun r2 I3 F4=>∃(m3:Int),Rd I3 F4 (⟨a,0,none⟩:Addr) [vi m3]∧Q (.returned (.tuple #[vi m3,vi 0])) I3 F4))))
theorem parse_Wrong.vc{a:Value}{I:Imm}{F:Heap}{Q:PostQ}  (h:parse_Wrong.V (.int .i64) .pointer a I F Q):Tri P 14 #[a] I F Q :=
 tw (A:=(annL [1001,5002] [] [22] shT_y2 [] [] [3000,4000] [] [] [] [])) [22] func14 h
end Go.Lx
namespace Go.Lx
open Go.Vc
theorem rd_own{I:Imm}{G:Heap}{b ty:Nat}{v:Value}(h:(b,Obj.cells #[v] ty (0,0))∈G):Rd I G (⟨b,0,none⟩:Addr) [v]:=Rd.of_own h 0 fun j hj=>by
 have:j=0:=by simpa using hj
 subst this;rfl
theorem wrong_nil(I:Imm)(F:Heap):Tri P 14 #[.nilIface] I F (Ret (.tuple #[.int .i64 0,.int .i64 0]) F):=by
 refine parse_Wrong.vc ?_
 unfold parse_Wrong.V
 exact⟨true,nil_nil' (by kernel_rfl),fun _=>⟨rfl,rfl⟩,fun h=>(by cases h)⟩
theorem wrong_core{I:Imm}(hg:Gl I){b:Nat}{call:ByteArray}{pos n:Int}{u:Value}(hb:I b=some (.cells #[.string call,.int .i64 pos,u] 63 (0,0)))
  (hE:∀J,Imm.le I J→∀(G:Heap) (t ty:Nat) (old:Value),Tri P 22 #[.iface 59 (.pointer (some ⟨b,0,none⟩)),.iface 89 (.pointer (some ⟨t,0,none⟩))] J ((t,.cells #[old] ty (0,0))::G) (AsQ true ((t,.cells #[.int .i64 n] ty (0,0))::G))) (F:Heap) :
  Tri P 14 #[.iface 59 (.pointer (some ⟨b,0,none⟩))] I F (Ret (.tuple #[.int .i64 n,.int .i64 pos]) F):=by
 refine Tri.clean ?_
 refine parse_Wrong.vc ?_
 unfold parse_Wrong.V
 refine⟨false,some_nil' (by kernel_rfl),fun h=>(by cases h),fun _ b_e=>⟨[.int .i64 0],_,F,.refl _,rfl,by simp,fun b_f=>?_⟩⟩
 refine (As_hitF hg b).mono fun e I1 G l1 ⟨he,hG⟩=>?_
 subst hG
 refine⟨true,he,_,.refl _,fun _=>⟨some ⟨b,0,none⟩,rd_own (.head _),⟨b,0,none⟩,rfl,pos, ?_, ?_⟩,fun h=>(by cases h)⟩
 ·rw[addr0]
  exact Rd.of_imm (l1.at hb) _ 1 fun j hj=>by
   have:j=0:=by simpa using hj
   subst this;rfl
 ·refine Tri.perm ((hE I1 l1 ((b_f,.cells #[.pointer (some ⟨b,0,none⟩)] 59 (0,0))::F) b_e 40 (.int .i64 (-1))).mono fun e I2 G l2 ⟨he,hG⟩=>?_) (.swap ..)
  subst hG
  exact⟨true,he,_,.refl _,n,rd_own (.head _),rfl,[_,_],.refl _⟩
def TF.w(f:TF):Value:=.tuple #[.int .i64 f.e,.int .i64 f.pos]
theorem Wrong_chk{I:Imm}(hg:Gl I){f:TF}(hz:f.Z){v:Value}(h:ChkE I f v)(F:Heap):Tri P 14 #[v] I F (Ret f.w F):=by
 by_cases he:f.e=0
 ·rw[h.1 he,hz he];exact wrong_nil I F
 ·have h2:=h.2 he
  split at h2
  ·obtain⟨u,hu,hv⟩:=h2
   obtain⟨b,rfl,hb⟩:=id hv
   exact wrong_core hg hb (fun J hJ G t ty old=>As_E2 (hg.mono hJ) (hv.mono hJ) (hu.mono hJ)) F
  ·obtain⟨b,rfl,hb⟩:=id h2
   exact wrong_core hg hb (fun J hJ G t ty old=>As_E1 (hg.mono hJ) (h2.mono hJ)) F
theorem Wrong_of{I:Imm}(hg:Gl I){f:TF}(hz:f.Z){v:Value}(h:OfE I f v)(F:Heap):Tri P 14 #[v] I F (Ret f.w F):=by
 by_cases he:f.e=0
 ·rw[h.1 he,hz he];exact wrong_nil I F
 ·have h2:=h.2 he
  obtain⟨b,rfl,hb⟩:=id h2
  exact wrong_core hg hb (fun J hJ G t ty old=>As_E1 (hg.mono hJ) (h2.mono hJ)) F
theorem types_Z(s:StgP):s.types.Z:=by
 unfold StgP.types
 split
 ·rename_i h;exact err_Z h
 ·refine thenT_Z (named_Z s) ?_
  have fz:∀{α:Type} (f:α→TF) (l:List α),(∀x,(f x).Z)→(firstT f l).Z:=fun f l h=>by
   induction l with
   | nil=>exact zTF_Z
   | cons x r ih =>
     rw[firstT];split
     ·exact h x
     ·exact ih
  exact fz _ _ fun x=>fz _ _ fun r=>ruleT_Z s r
theorem typed_Z(s:StgP)(x:Px):(typed s x).2.Z:=by
 have hn:∀(y:Px) (l:List Int),(nodeE s y l).2.Z:=fun y l=>by
  unfold nodeE
  split
  ·exact err_Z (by decide)
  ·split
   ·exact zTF_Z
   ·exact err_Z (by decide)
 rw[typed_eq]
 split
 ·rename_i h;exact fun h'=>absurd h' h
 ·exact hn _ _
theorem typeOf_Z(s:StgP)(x:Px):(typeOf s x).2.Z:=by
 unfold typeOf
 split
 ·rename_i h;exact err_Z h
 ·exact typed_Z s x
end Go.Lx
