import Derived.Test.YtmbkaikdndflbaaGreatDoorCostExprsB5
set_option linter.unusedVariables false
set_option linter.unusedSimpArgs false
set_option linter.unusedSectionVars false
set_option maxRecDepth 100000
namespace Go.Lx
open Go.Vc
def Gl(I:Imm):Prop:=∃cs ty fz,I 0=some (.cells cs ty fz)∧cs[0]? = some Go.As.errT
theorem Gl.mono{I J:Imm}(h:Gl I)(hl:Imm.le I J):Gl J:=let ⟨cs,ty,fz,h1,h2⟩:=h;⟨cs,ty,fz,hl.at h1,h2⟩
theorem Gl.cell{I:Imm}{F:Heap}{w:World}(h:Gl I)(hw:Sat I F w):w.cell? ⟨0,0,none⟩=some Go.As.errT:=by
 obtain⟨cs,ty,fz,h1,h2⟩:=h
 have:=hw.imm _ _ h1
 unfold World.cell?
 simp[this,h2]
theorem Gl.of_cell{w:World}(h:w.cell? ⟨0,0,none⟩=some Go.As.errT):Gl (Imm.all w):=by
 unfold World.cell? at h
 split at h
 ·rename_i c ty fz hc
  exact⟨c,ty,fz,hc,by simpa using h⟩
 ·cases h
theorem own_cell{I:Imm}{F:Heap}{w:World}{t ty:Nat}{old:Value}(hw:Sat I ((t,.cells #[old] ty (0,0))::F) w):w.cell? ⟨t,0,none⟩=some old∧w.frozen? ⟨t,0,none⟩=false:=by
 have:=hw.own _ _ (.head _)
 unfold World.cell? World.frozen?
 simp[this]
theorem Flr.cell{I:Imm}{F:Heap}{w:World}{b ty:Nat}{fz:Nat×Nat}{x y z:Value}(h:I b=some (.cells #[x,y,z] ty fz))(hw:Sat I F w):w.cell? ⟨b,2,none⟩=some z:=by
 have:=hw.imm _ _ h
 unfold World.cell?
 simp[this]
theorem alloc_lt{w:World}{o o':Obj}{a:Addr}{v:Value}(h:w.cell? a=some v):((w.alloc o).alloc o').cell? a=some v:=by
 have hl:a.block<w.heap.size:=by
  rcases Nat.lt_or_ge a.block w.heap.size with h1 | h1
  ·exact h1
  ·simp[World.cell?,Array.getElem?_eq_none h1] at h
 rw[World.cell?_alloc_lt _ _ _ (by simp;omega),World.cell?_alloc_lt _ _ _ hl];exact h
theorem frozen_lt{w:World}{o o':Obj}{a:Addr}{v:Value}(h:w.cell? a=some v)(hf:w.frozen? a=false):((w.alloc o).alloc o').frozen? a=false:=by
 have hl:a.block<w.heap.size:=by
  rcases Nat.lt_or_ge a.block w.heap.size with h1 | h1
  ·exact h1
  ·simp[World.cell?,Array.getElem?_eq_none h1] at h
 rw[World.frozen?_alloc_old _ _ _ (by simp;omega),World.frozen?_alloc_old _ _ _ (Nat.ne_of_lt hl)];exact hf
end Go.Lx
namespace Go.Vc
theorem Sat.allocW{I:Imm}{F:Heap}{w:World}(h:Sat I F w)(o:Obj):Sat I F (w.alloc o):=(h.alloc o).drop (A:=[_])
theorem Sat.setW{I:Imm}{F:Heap}{w:World}{t ty:Nat}{old v:Value}(h:Sat I ((t,.cells #[old] ty (0,0))::F) w):Sat I ((t,.cells #[v] ty (0,0))::F) (w.setCell ⟨t,0,none⟩ v) :=
 Sat.set h (setCell_heap (cs:=[old]) (h.own _ _ (.head _)) 0 v) ⟨rfl,rfl⟩
end Go.Vc
namespace Go.Lx
open Go.Vc
def AsQ(r:Bool)(G:Heap)(e:Ending)(I:Imm)(F:Heap):Prop:=e=.returned (.bool r)∧F=G
section
variable {I:Imm} {F:Heap} {t ty:Nat} {old:Value}
theorem As_hitF(hg:Gl I)(b:Nat):Tri P 44 #[.iface 89 (.pointer (some ⟨b,0,none⟩)),.iface 91 (.pointer (some ⟨t,0,none⟩))] I ((t,.cells #[old] ty (0,0))::F) (AsQ true ((t,.cells #[.pointer (some ⟨b,0,none⟩)] ty (0,0))::F)):=fun w hw=>by
 obtain⟨hc,hf⟩:=own_cell hw
 refine (Go.As.As_F _ _ _ w _ true (hg.cell hw) (Go.As.as_FF ⟨b,0,none⟩ ⟨t,0,none⟩ ⟨w.heap.size,0,none⟩ old _ _ (by simp) (alloc_lt hc) (frozen_lt hc hf))).mono fun e w' ⟨he,hw'⟩=>⟨I,_,Imm.le_refl I, ?_,he,rfl⟩
 rw[hw']
 exact Sat.setW ((((hw.allocW _).allocW _).allocW _).allocW _)
theorem As_noF(hg:Gl I)(n:Int):Tri P 44 #[errno n,.iface 91 (.pointer (some ⟨t,0,none⟩))] I F (AsQ false F):=fun w hw=>by
 refine (Go.As.As_F _ _ _ w _ false (hg.cell hw) (Go.As.as_EF n ⟨w.heap.size,0,none⟩ _ _)).mono fun e w' ⟨he,hw'⟩=>⟨I,_,Imm.le_refl I, ?_,he,rfl⟩
 rw[hw']
 exact ((hw.allocW _).allocW _).allocW _
end
def ChkE(I:Imm)(f:TF)(v:Value):Prop :=
 (f.e=0→v=.nilIface)∧(f.e≠0→if f.of then ∃u,Flr I callOf f.pos (errno f.e) u∧Flr I callCheck f.pos u v else Flr I callCheck f.pos (errno f.e) v)
theorem ChkE.mono{I J:Imm}{f:TF}{w:Value}(h:ChkE I f w)(hl:Imm.le I J):ChkE J f w:=⟨h.1,fun he=>by
 have:=h.2 he
 split at this
 ·rename_i hof;rw[if_pos hof];obtain⟨u,h1,h2⟩:=this;exact⟨u,h1.mono hl,h2.mono hl⟩
 ·rename_i hof;rw[if_neg hof];exact this.mono hl⟩
theorem ChkE.ok{I:Imm}:ChkE I zTF .nilIface:=⟨fun _=>rfl,fun h=>absurd rfl h⟩
theorem ChkE.neq{I:Imm}{f:TF}{w:Value}(h:ChkE I f w){t:TypeId}(ht:ifaceT P t=true){x:Operand}:BinRun P .neq t x (.const .nilIface) w .nilIface (f.e != 0):=by
 by_cases he:f.e=0
 ·rw[h.1 he,he];exact nil_nil ht
 ·have h2:=h.2 he
  rw[show (f.e != 0)=true by simpa using he]
  split at h2
  ·obtain⟨u,_,b,hw,_⟩:=h2;rw[hw];exact some_nil ht
  ·obtain⟨b,hw,_⟩:=h2;rw[hw];exact some_nil ht
theorem refused_no{I:Imm}(hg:Gl I)(pos n:Int)(hn:n≠0)(F:Heap):Tri P 65 #[.int .i64 pos,errno n] I F (RetV (fun v J=>ChkE J ⟨n,pos,false⟩ v) F):=by
 refine Tri.still (types_refused.vc ?_)
 unfold types_refused.V
 intro b_below
 refine (As_noF hg n).mono fun e I1 G l1 ⟨he,hG⟩=>?_
 subst hG
 refine⟨false,he,_,.refl _,fun h=>(by cases h),fun _ b1=>⟨_,[_,_],rfl,.refl _,fun J hJ hx=>⟨fun h=>absurd h hn,fun _=>?_⟩⟩⟩
 rw[if_neg (by simp)]
 exact⟨b1,rfl,hx _ (.head _)⟩
theorem refused_of{I:Imm}(hg:Gl I)(pos0 pos n:Int)(hn:n≠0){u:Value}(hu:Flr I callOf pos (errno n) u)(F:Heap):Tri P 65 #[.int .i64 pos0,u] I F (RetV (fun v J=>ChkE J ⟨n,pos,true⟩ v) F):=by
 obtain⟨b,rfl,hb⟩:=hu
 refine Tri.still (types_refused.vc ?_)
 unfold types_refused.V
 intro b_below
 refine (As_hitF hg b).mono fun e I1 G l1 ⟨he,hG⟩=>?_
 subst hG
 refine⟨true,he,_,.refl _,fun _=>⟨some ⟨b,0,none⟩,Rd.of_own (.head _) 0 (fun j hj=>?_),⟨b,0,none⟩,rfl,pos, ?_,fun b1=>⟨_,[_,_],rfl,.refl _,fun J hJ hx=>⟨fun h=>absurd h hn,fun _=>?_⟩⟩⟩,fun h=>(by cases h)⟩
 ·have:j=0:=by simpa using hj
  subst this;rfl
 ·rw[addr0]
  exact Rd.of_imm (l1.at hb) _ 1 fun j hj=>by
   have:j=0:=by simpa using hj
   subst this;rfl
 ·rw[if_pos rfl]
  exact⟨_,⟨b,rfl,hJ.at (l1.at hb)⟩,b1,rfl,hx _ (.head _)⟩
end Go.Lx
namespace Go.Lx
open Go.Vc
theorem firstG_old{l:List RegP}{r:RegP}{t:Int}(h:firstG l r.name=some t)(k:ByteArray):firstG (l++[r]) k=firstG l k:=by
 rw[firstG_snoc]
 cases hk:firstG l k with
 | some t=>rfl
 | none =>
   show (if k=r.name then some r.typ else none)=none
   rw[if_neg]
   intro e;subst e;rw[hk] at h;cases h
theorem firstG_new{l:List RegP}{r:RegP}(h:firstG l r.name=none)(k:ByteArray):firstG (l++[r]) k=putG (firstG l) r.name r.typ k:=by
 rw[firstG_snoc]
 unfold putG
 by_cases e:k=r.name
 ·subst e;rw[h,if_pos rfl]
 ·rw[if_neg e,if_neg e]
  cases hk:firstG l k<;>rfl
def scO(m0 m1 m2:Nat):Obj:=.cells #[.map (some m0),.map (some m1),.map (some m2)] 164 (0,0)
def RegsQ(s:StgN)(F:Heap)(e:Ending)(I:Imm)(G:Heap):Prop:=∃c m1 m2,e=.returned (.pointer (some ⟨c,0,none⟩))∧Scp I c s.p m1 m2∧G=(m1,.map #[] 0)::(m2,.map #[] 0)::F
theorem registers_spec(s:StgN)(hl:s.regs.length≤1048576)(I:Imm)(F:Heap)(hok:s.Ok I F):Tri P 66 #[s.v] I F (RegsQ s F):=by
 refine Tri.keep (Q:=fun e I' G=>∃c m0 m1 m2 es ck,e=.returned (.pointer (some ⟨c,0,none⟩))∧MapG Value.string (Value.int .u8) (firstG s.p.regs) es ck∧G.Perm ((m0,.map es ck)::(c,scO m0 m1 m2)::(m1,.map #[] 0)::(m2,.map #[] 0)::F)) ?_ fun e I' G w hl hs ⟨c,m0,m1,m2,es,ck,he,hg,hp⟩=>by
  obtain⟨J,g1,g2,g3⟩:=Sat.still [_,_] (hs.perm hp)
  exact⟨J,_,g1,g3,c,m1,m2,he,⟨m0,es,ck,g2 _ (.tail _ (.head _)),g2 _ (.head _),hg⟩,rfl⟩
 refine types_registers.vc (fun sA cA i m I0 F0 I' F'=>0≤i∧i≤s.regs.length∧m=(s.regs.length-i).toNat∧∃c m0 m1 m2 es ck,cA=some (⟨c,0,none⟩:Addr)∧MapG Value.string (Value.int .u8) (firstG (s.p.regs.take i.toNat)) es ck∧F'.Perm ((m0,.map es ck)::(c,scO m0 m1 m2)::(m1,.map #[] 0)::(m2,.map #[] 0)::F)) ?_
 unfold types_registers.V
 intro b_s
 refine TriE.mono makeMap_spec fun v I1 G h1 ⟨r,hv,hI,hG⟩=>?_
 subst hI hG
 refine⟨some r,hv,(r,.map #[] 0)::F,.swap .., ?_⟩
 refine TriE.mono makeMap_spec fun v1 I1 G h1 ⟨r1,hv1,hI,hG⟩=>?_
 subst hI hG
 refine⟨some r1,hv1,(r1,.map #[] 0)::(r,.map #[] 0)::F,.swap .., ?_⟩
 refine TriE.mono makeMap_spec fun v2 I1 G h1 ⟨r2,hv2,hI,hG⟩=>?_
 subst hI hG
 refine⟨some r2,hv2,(r2,.map #[] 0)::(r1,.map #[] 0)::(r,.map #[] 0)::F,.swap .., ?_⟩
 intro b
 refine⟨⟨_,by omega,by omega,rfl,b,r,r1,r2,_,_,rfl,MapG.nil 0, ?_⟩,fun i m I2 F2 l2 ⟨g0,g1,gm,c,m0,m1,m2,es,ck,hc,hg,hp⟩=>?_⟩
 ·exact pm3.trans (((List.Perm.swap ..).cons _).cons _)
 obtain rfl:b=c:=by simpa using hc
 have hok1:s.Ok I2 F2:=hok.mono l2 fun y hy=>hp.mem_iff.2 (.tail _ (.tail _ (.tail _ (.tail _ hy))))
 refine⟨fun hlt=>?_,fun hlt=>?_⟩
 ·have hlt:=of_decide_eq_true hlt
  obtain⟨ad,g,had,hg1,hrd,hgm⟩:=SlG.atm (hok1.cons (x:=(b_s,Obj.cells #[.string s.name,.slice s.ra s.regs.length s.rc,.slice s.sa s.slots.length s.sc,.slice s.ta s.states.length s.tc] 39 (0,0)))).regs g0 hlt
  refine⟨⟨g0,hlt⟩,ad,had,_,_,_,_,_,_,_,_,_,_,_,_,_,hrd,fun b_r=>?_⟩
  have hmc:∀(x y:Nat×Obj),(b,scO m0 m1 m2)∈x::y::F2:=fun x y=>.tail _ (.tail _ (hp.mem_iff.2 (.tail _ (.head _))))
  have hm0:∀(x y:Nat×Obj),(m0,Obj.map es ck)∈x::y::F2:=fun x y=>.tail _ (.tail _ (hp.mem_iff.2 (.head _)))
  have hrdm:∀(J:Imm) (x y:Nat×Obj),Rd J (x::y::F2) (⟨b,0,none⟩:Addr) [.map (some m0)]:=fun J x y=>Rd.of_own (hmc x y) 0 fun j hj=>by
   have:j=0:=by simpa using hj
   subst this;rfl
  have hgl:s.p.regs[i.toNat]? = some g.p:=by
   show (s.regs.map RegN.p)[i.toNat]? = _
   rw[List.getElem?_map,hg1];rfl
  have htk:s.p.regs.take (i+1).toNat=s.p.regs.take i.toNat++[g.p]:=by
   rw[show (i+1).toNat=i.toNat+1 by omega,List.take_add_one,hgl];rfl
  refine⟨_,rfl,some m0,hrdm _ _ _, ?_⟩
  refine TriE.mono (lookup_ok mapR strD str_key str_inj zeroR hg (.inr (hm0 _ _)) g.name) fun v3 I3 G h3 ⟨hv3,hI,hG⟩=>?_
  subst hI hG
  refine⟨((firstG (s.p.regs.take i.toNat) g.name).getD 0),(firstG (s.p.regs.take i.toNat) g.name).isSome,by rw[hv3];cases firstG (s.p.regs.take i.toNat) g.name<;>rfl,F2,.refl _,fun hn=>?_,fun hn=>⟨(s.regs.length-(i+1)).toNat,by omega, ?_⟩⟩
  ·have hn:firstG (s.p.regs.take i.toNat) g.name=none:=by simpa using hn
   refine⟨_,rfl,some m0,hrdm _ _ _, ?_⟩
   refine TriU.perm (TriU.mono (update_spec mapR strD str_key str_inj hg g.name g.typ (F:=(b_s,Obj.cells #[.string s.name,.slice s.ra s.regs.length s.rc,.slice s.sa s.slots.length s.sc,.slice s.ta s.states.length s.tc] 39 (0,0))::(b_r,.cells g.enc.toArray 77 (0,0))::(b,scO m0 m1 m2)::(m1,.map #[] 0)::(m2,.map #[] 0)::F)) fun I4 G h4 ⟨hI,es',c',hG,hg'⟩=>?_) (((hp.cons _).cons _).trans pm2)
   subst hI hG
   refine⟨(m0,.map es' c')::(b,scO m0 m1 m2)::(m1,.map #[] 0)::(m2,.map #[] 0)::F,pm2.symm,(s.regs.length-(i+1)).toNat,by omega, ?_⟩
   rw[w64 (n:=i+1) (by omega)]
   refine⟨by omega,by omega,rfl,b,m0,m1,m2,es',c',rfl, ?_,.refl _⟩
   rw[htk]
   exact hg'.congr fun k=>(firstG_new (r:=g.p) hn k).symm
  ·obtain⟨t,hn⟩:∃t,firstG (s.p.regs.take i.toNat) g.name=some t:=by
    cases h:firstG (s.p.regs.take i.toNat) g.name with
    | none=>rw[h] at hn;cases hn
    | some t=>exact⟨t,rfl⟩
   rw[w64 (n:=i+1) (by omega)]
   refine⟨by omega,by omega,rfl,b,m0,m1,m2,es,ck,rfl, ?_,hp⟩
   rw[htk]
   exact hg.congr fun k=>(firstG_old (r:=g.p) hn k).symm
 ·have hlt:=of_decide_eq_false hlt
  refine⟨b,m0,m1,m2,es,ck,rfl, ?_,hp⟩
  rw[List.take_of_length_le (by show (s.regs.map RegN.p).length≤_;rw[List.length_map];omega)] at hg
  exact hg
end Go.Lx
namespace Go.Lx
open Go.Vc
theorem has_ix(nm:ByteArray):∀(l:List ByteArray) (i:Nat) (j:Int),l[i]? = some nm→(ixF nm l j<j+i↔hasS (l.take i) nm=true)∧0≤ixF nm l j-j
 | [],i,j,h=>by simp at h
 | x::l,0,j,h=>by
   simp only[List.getElem?_cons_zero,Option.some.injEq] at h
   subst h
   rw[ixF,if_pos (by simp)]
   refine⟨⟨fun h=>by omega,fun h=>by simp[hasS] at h⟩,by omega⟩
 | x::l,i+1,j,h=>by
   rw[ixF]
   have ih:=has_ix nm l i (j+1) (by simpa using h)
   by_cases hx:(x.toList==nm.toList)=true
   ·rw[if_pos hx]
    have:=bytes_eq.1 hx
    subst this
    refine⟨⟨fun _=>by simp[hasS],fun _=>by omega⟩,by omega⟩
   ·rw[if_neg hx]
    have hne:¬x=nm:=fun e=>hx (bytes_eq.2 e)
    refine⟨?_,by omega⟩
    rw[List.take_succ_cons]
    have e:hasS (x::l.take i) nm=hasS (l.take i) nm:=by
     unfold hasS;rw[List.any_cons,decide_eq_false hne,Bool.false_or]
    rw[e,←ih.1]
    constructor<;>intro h<;>omega
theorem ix_none(nm:ByteArray):∀(l:List ByteArray) (j:Int),0≤j→(ixF nm l j<0↔hasS l nm=false)
 | [],j,h=>by rw[ixF];simp[hasS]
 | x::l,j,h=>by
   rw[ixF]
   by_cases hx:(x.toList==nm.toList)=true
   ·rw[if_pos hx]
    have:=bytes_eq.1 hx
    subst this
    refine⟨fun h=>by omega,fun h=>by simp[hasS] at h⟩
   ·rw[if_neg hx,ix_none nm l (j+1) (by omega)]
    have hne:¬x=nm:=fun e=>hx (bytes_eq.2 e)
    unfold hasS;rw[List.any_cons,decide_eq_false hne,Bool.false_or]
def Cnt(l:List ByteArray)(k:Nat)(o:Obj):Prop:=∃es ck g,o=.map es ck∧MapG Value.string (Value.int .i64) g es ck∧Met l k g
theorem Cnt.nil:Cnt [] 0 (.map #[] 0):=⟨_,_,_,rfl,MapG.nil 0,Met.nil⟩
def cntN(l:List ByteArray)(i:Nat)(nm:ByteArray)(c:Int):Prop:=1≤c∧c≤i+1∧(1<c↔hasS (l.take i) nm=true)
theorem Met.step{l:List ByteArray}{i:Nat}{g:ByteArray→Option Int}{nm:ByteArray}(h:Met (l.take i) i g)(hl:l[i]? = some nm) :
  Met (l.take (i+1)) (i+1) (putG g nm ((g nm).getD 0+1))∧cntN l i nm ((g nm).getD 0+1):=by
 have htk:l.take (i+1)=l.take i++[nm]:=by rw[List.take_add_one,hl];rfl
 by_cases hs:hasS (l.take i) nm=true
 ·obtain⟨m,h1,h2,h3⟩:=(h nm).1 hs
  rw[h1]
  refine⟨?_, ?_, ?_, ?_⟩
  ·intro s
   have:=(h.more hs h2 h3) s
   rw[htk]
   have e:hasS (l.take i++[nm]) s=hasS (l.take i) s:=by
    unfold hasS at hs ⊢;rw[List.any_append]
    by_cases hsn:nm=s
    ·subst hsn;rw[hs];rfl
    ·simp[hsn]
   rw[e];exact this
  ·show 1≤m+1;omega
  ·show m+1≤i+1;omega
  ·exact⟨fun _=>hs,fun _=>by show 1<m+1;omega⟩
 ·have hs:hasS (l.take i) nm=false:=by simpa using hs
  have h1:=(h nm).2 hs
  rw[h1]
  refine⟨?_, ?_, ?_, ?_⟩
  ·rw[htk];exact h.new
  ·show (1:Int)≤0+1;omega
  ·show (0:Int)+1≤i+1;omega
  ·rw[hs];exact⟨fun h=>by simp at h,fun h=>by cases h⟩
section
variable {I:Imm} {l:List ByteArray} {i:Nat} {nm:ByteArray} {o:Obj} {m:Nat} {G R:Heap}
theorem cnt_get(hc:Cnt (l.take i) i o)(hl:l[i]? = some nm)(hi:i≤1048576)(hm:(m,o)∈G):TriE P (Instr.lookup 162 (.map (some m)) (.string nm) false) I G fun v I' G'=>∃r:Int,v=.int .i64 r∧I'=I∧G'=G ∧
  (∀G2,G.Perm ((m,o)::G2)→TriU P (Instr.mapUpdate 162 (.map (some m)) (.string nm) (.int .i64 (IntKind.wrap .i64 (r+1)))) I G fun I' G'=>I'=I∧∃o',Cnt (l.take (i+1)) (i+1) o'∧G'=(m,o')::G2 ∧
   ∀G3,(m,o')∈G3→TriE P (Instr.lookup 162 (.map (some m)) (.string nm) false) I G3 fun v I' G'=>∃c:Int,v=.int .i64 c∧I'=I∧G'=G3∧cntN l i nm c):=by
 obtain⟨es,ck,g,rfl,hg,hmet⟩:=hc
 obtain⟨h1,h2⟩:=hmet.step hl
 refine TriE.mono (lookup_one mapS strD str_key str_inj zeroS hg (.inr hm) nm) fun v I1 G1 hl1 ⟨hv,hI,hG⟩=>⟨(g nm).getD 0, ?_,hI,hG,fun G2 hp=>?_⟩
 ·rw[hv];cases g nm<;>rfl
 ·have hw:IntKind.wrap .i64 ((g nm).getD 0+1)=(g nm).getD 0+1:=w64 (by unfold cntN at h2;omega)
  rw[hw]
  refine TriU.perm (TriU.mono (update_spec mapS strD str_key str_inj hg nm ((g nm).getD 0+1) (F:=G2)) fun I2 G3 hl2 ⟨hI2,es',ck',hG3,hg'⟩=>⟨hI2,_,⟨es',ck',_,rfl,hg',h1⟩,hG3,fun G4 hm4=>?_⟩) hp
  refine TriE.mono (lookup_one mapS strD str_key str_inj zeroS hg' (.inr hm4) nm) fun v3 I3 G5 hl3 ⟨hv3,hI3,hG5⟩=>⟨(g nm).getD 0+1, ?_,hI3,hG5,h2⟩
  rw[hv3];unfold putG;rw[if_pos rfl];rfl
end
section
variable (s:StgN) (hl:s.p.Light) {I:Imm} {F:Heap} (hok:s.Ok I F)
def slotL(s:StgN):List ByteArray:=s.slots.map SlotP.name
def roomL(s:StgN):List ByteArray:=s.states.map StateN.name
def regL(s:StgN):List ByteArray:=s.regs.map RegN.name
def DecQ(s:StgN)(m1 m2:Nat)(F:Heap)(e:Ending)(I:Imm)(G:Heap):Prop:=∃v,e=.returned v∧ChkE I s.p.named v∧∃o1 o2,G=(m1,o1)::(m2,o2)::F∧(s.p.named.e=0→Cnt (slotL s) s.slots.length o1∧Cnt (roomL s) s.states.length o2)
theorem regL_ix(nm:ByteArray):s.p.reg nm=ixF nm (regL s) 0:=by
 unfold StgP.reg regL
 show ixF nm ((s.regs.map RegN.p).map RegP.name) 0=_
 rw[List.map_map];rfl
theorem roomL_ix(nm:ByteArray):s.p.room nm=ixF nm (roomL s) 0:=by
 unfold StgP.room roomL
 show ixF nm ((s.states.map StateN.p).map StateP.name) 0=_
 rw[List.map_map];rfl
end
end Go.Lx
namespace Go.Lx
open Go.Vc
theorem Scp.rd{I:Imm}{c m1 m2:Nat}{s:StgP}(h:Scp I c s m1 m2)(G:Heap):Rd I G ((⟨c,0,none⟩:Addr).add 1) [.map (some m1)]∧Rd I G ((⟨c,0,none⟩:Addr).add 2) [.map (some m2)]:=by
 obtain⟨m0,es,ck,hc,_,_⟩:=h
 rw[addr0,addr0]
 exact⟨Rd.of_imm hc _ 1 fun j hj=>by
  have:j=0:=by simpa using hj
  subst this;rfl,Rd.of_imm hc _ 2 fun j hj=>by
  have:j=0:=by simpa using hj
  subst this;rfl⟩
theorem thenT_n{n p:Int}{b:Bool}(h:n≠0)(x:TF):thenT ⟨n,p,b⟩ x=⟨n,p,b⟩:=thenT_e _ h x
section
variable {s:StgN} (hl:s.p.Thin) {I:Imm} {F:Heap} (hok:s.Ok I F)
include hl hok
theorem declared_spec(hg:Gl I)(hf:∀r∈s.regs,r.init.px.formed=true){c m1 m2:Nat}(hS:Scp I c s.p m1 m2) :
  Tri P 67 #[.pointer (some ⟨c,0,none⟩),s.v] I ((m1,.map #[] 0)::(m2,.map #[] 0)::F) (DecQ s m1 m2 F):=by
 have lr:=hl.regs
 have ls:=hl.slots
 have lt:=hl.states
 simp only[StgN.p,List.length_map] at lr ls lt
 refine Tri.keep (Q:=fun e I' G=>∃v o1 o2 H,e=.returned v∧ChkE I' s.p.named v∧G.Perm ((m1,o1)::(m2,o2)::(H++F))∧(s.p.named.e=0→Cnt (slotL s) s.slots.length o1∧Cnt (roomL s) s.states.length o2)) ?_
  fun e I' G w hl hs ⟨v,o1,o2,H,he,hv,hp,hk⟩=>⟨I',_,Imm.le_refl _,(hs.perm hp).sub (((List.sublist_append_right H F).cons_cons _).cons_cons _),v,he,hv,o1,o2,rfl,hk⟩
 refine types_scope_declared.vc
  (fun r x i m I0 F0 I' F'=>0≤i∧i≤s.regs.length∧m=(s.regs.length-i).toNat∧s.p.named=thenT (namedR s.p (s.p.regs.drop i.toNat) i) (thenT (namedS s.p s.slots 0) (namedT s.p s.p.states 0)) ∧
    ∃r0 o,r=some r0∧Cnt ((regL s).take i.toNat) i.toNat o∧F'.Perm ((r0,o)::(m1,.map #[] 0)::(m2,.map #[] 0)::F))
  (fun x i m I0 F0 I' F'=>0≤i∧i≤s.slots.length∧m=(s.slots.length-i).toNat∧s.p.named=thenT (namedS s.p (s.slots.drop i.toNat) i) (namedT s.p s.p.states 0) ∧
    ∃H o,Cnt ((slotL s).take i.toNat) i.toNat o∧F'.Perm ((m1,o)::(m2,.map #[] 0)::(H++F)))
  (fun x i m I0 F0 I' F'=>0≤i∧i≤s.states.length∧m=(s.states.length-i).toNat∧s.p.named=namedT s.p (s.p.states.drop i.toNat) i ∧
    ∃H o1 o,Cnt (slotL s) s.slots.length o1∧Cnt ((roomL s).take i.toNat) i.toNat o∧F'.Perm ((m1,o1)::(m2,o)::(H++F))) ?_
 unfold types_scope_declared.V
 intro b_s
 refine TriE.mono makeMap_spec fun v I1 G h1 ⟨r,hv,hI,hG⟩=>?_
 subst hI hG
 refine⟨some r,hv,(r,.map #[] 0)::(m1,.map #[] 0)::(m2,.map #[] 0)::F,.swap .., ?_⟩
 refine⟨⟨_,by omega,by omega,rfl,rfl,r,_,rfl,Cnt.nil,.refl _⟩,fun x i m I2 F2 l2 ⟨g0,g1,gm,ge,r',o,hr,hcn,hp⟩=>?_⟩
 obtain rfl:r=r':=by simpa using hr
 refine⟨fun hlt=>?_,fun hlt=>⟨⟨_,by omega,by omega,rfl, ?_,[_],_,Cnt.nil,hp.trans pm2.symm⟩,fun x2 i2 m4 I9 F9 l9 ⟨k0,k1,km,ke,H,o2,kcn,kp⟩=>⟨fun hlt2=>?_,fun hlt2=>⟨⟨_,by omega,by omega,rfl, ?_,H,o2,.map #[] 0, ?_,Cnt.nil,kp⟩,
  fun x4 i3 m9 I14 F14 l14 ⟨q0,q1,qm,qe,H',o1,o3,qs,qcn,qp⟩=>⟨fun hlt3=>?_,fun hlt3=>?_⟩⟩⟩⟩⟩
 ·have hlt:=of_decide_eq_true hlt
  have hok2:∀{J:Imm} (G:Heap),Imm.le I1 J→(∀y,y∈F→y∈G)→s.Ok J G:=fun G hJ h=>hok.mono hJ h
  have hsub2:∀y,y∈F→y∈F2:=fun y hy=>hp.mem_iff.2 (.tail _ (.tail _ (.tail _ hy)))
  obtain⟨ad,g,had,hg1,hrd,hgm⟩:=SlG.atm (hok2 ((b_s,Obj.cells #[.string s.name,.slice s.ra s.regs.length s.rc,.slice s.sa s.slots.length s.sc,.slice s.ta s.states.length s.tc] 39 (0,0))::F2) l2 fun y hy=>.tail _ (hsub2 y hy)).regs g0 hlt
  have hgl:(regL s)[i.toNat]? = some g.name:=by unfold regL;rw[List.getElem?_map,hg1];rfl
  have hgp:s.p.regs[i.toNat]? = some g.p:=by
   show (s.regs.map RegN.p)[i.toNat]? = _
   rw[List.getElem?_map,hg1];rfl
  have hdr:s.p.regs.drop i.toNat=g.p::s.p.regs.drop (i.toNat+1):=by
   obtain⟨h1,h2⟩:=List.getElem?_eq_some_iff.1 hgp
   rw[List.drop_eq_getElem_cons h1,h2]
  rw[hdr,namedR] at ge
  refine⟨⟨g0,hlt⟩,ad,had,_,_,_,_,_,_,_,_,_,_,_,_,_,hrd,fun b_r=>?_⟩
  have hm0:∀(x y:Nat×Obj),(r,o)∈x::y::F2:=fun x y=>.tail _ (.tail _ (hp.mem_iff.2 (.head _)))
  refine TriE.mono (cnt_get hcn hgl (by omega) (hm0 _ _)) fun v1 I3 G hl3 ⟨r1,hv1,hI,hG,hu⟩=>⟨r1,hv1,F2,by rw[hG], ?_⟩
  subst hI hG
  refine TriU.mono (hu _ (((hp.cons _).cons _).trans pm2)) fun I4 G hl4 ⟨hI,o',hcn',hG,hlk⟩=>?_
  subst hI hG
  refine⟨(r,o')::(m1,.map #[] 0)::(m2,.map #[] 0)::F,pm2.symm, ?_⟩
  refine TriE.mono (hlk _ (.tail _ (.tail _ (.head _)))) fun v2 I5 G hl5 ⟨r2,hv2,hI,hG,n1,n2,n3⟩=>?_
  subst hI hG
  have hix:=(has_ix g.name (regL s) i.toNat 0 hgl).1
  rw[←regL_ix,Int.zero_add,Int.toNat_of_nonneg g0] at hix
  have hgI:Gl I5:=hg.mono l2
  refine⟨r2,hv2,(r,o')::(m1,.map #[] 0)::(m2,.map #[] 0)::F,.refl _,fun h2=>?_,fun h2=>?_⟩
  ·have h2:=of_decide_eq_true h2
   rw[if_pos (show s.p.reg g.p.name<i from hix.2 (n3.1 h2)),thenT_n (n:=150) (by decide)] at ge
   refine Tri.retV (refused_no hgI g.pos 150 (by decide) _) fun v I6 l6 hv=>⟨v,rfl,_,.refl _,v,_,_,[_],rfl, ?_,pm2.symm,fun h=>?_⟩
   ·rw[ge];exact hv
   ·rw[ge] at h;exact absurd h (show (150:Int)≠0 by decide)
  ·have h2:=of_decide_eq_false h2
   rw[if_neg (show ¬s.p.reg g.p.name<i from fun h=>h2 (n3.2 (hix.1 h)))] at ge
   refine Tri.retV (of_spec g.init (hf g hgm) I5 _ (hS.mono l2) (NdOk.mono (hok.reg _ hgm) l2 fun y hy=>.tail _ (.tail _ (.tail _ (.tail _ (.tail _ hy)))))) fun v I7 l7 ⟨w,hv,hw⟩=>⟨_,_,congrArg Ending.returned hv,_,.refl _,fun ht=>?_,fun ht=>?_⟩
   ·have ht:(typed s.p g.init.px).1≠g.typ:=by simpa using ht
    rw[if_pos (show (typed s.p g.p.init).1≠g.p.typ from ht),thenT_n (n:=152) (by decide)] at ge
    refine Tri.retV (refused_no (hgI.mono l7) g.pos 152 (by decide) _) fun v I8 l8 hv=>⟨v,rfl,_,.refl _,v,_,_,[_],rfl, ?_,pm2.symm,fun h=>?_⟩
    ·rw[ge];exact hv
    ·rw[ge] at h;exact absurd h (show (152:Int)≠0 by decide)
   ·have ht:(typed s.p g.init.px).1=g.typ:=by simpa using ht
    rw[if_neg (show ¬(typed s.p g.p.init).1≠g.p.typ from fun h=>h ht)] at ge
    refine⟨(s.regs.length-(i+1)).toNat,by omega, ?_⟩
    rw[w64 (n:=i+1) (by omega)]
    refine⟨by omega,by omega,rfl, ?_,r,o',rfl, ?_,.refl _⟩
    ·rw[ge,show (i+1).toNat=i.toNat+1 by omega]
    ·rw[show (i+1).toNat=i.toNat+1 by omega];exact hcn'
 ·have hlt:=of_decide_eq_false hlt
  rw[ge,List.drop_eq_nil_of_le (by show (s.regs.map RegN.p).length≤_;rw[List.length_map];omega)];rfl
 ·have hlt2:=of_decide_eq_true hlt2
  have l29:=Imm.le_trans l2 l9
  have hsub2:∀y,y∈F→y∈F9:=fun y hy=>kp.mem_iff.2 (.tail _ (.tail _ (List.mem_append_right _ hy)))
  obtain⟨ad,g,had,hg1,hrd,hgm⟩:=SlG.atm (hok.mono (H:=(b_s,Obj.cells #[.string s.name,.slice s.ra s.regs.length s.rc,.slice s.sa s.slots.length s.sc,.slice s.ta s.states.length s.tc] 39 (0,0))::F9) l29 fun y hy=>.tail _ (hsub2 y hy)).slots k0 hlt2
  have hgl:(slotL s)[i2.toNat]? = some g.name:=by unfold slotL;rw[List.getElem?_map,hg1];rfl
  have hdr:s.slots.drop i2.toNat=g::s.slots.drop (i2.toNat+1):=by
   obtain⟨h1,h2⟩:=List.getElem?_eq_some_iff.1 hg1
   rw[List.drop_eq_getElem_cons h1,h2]
  rw[hdr,namedS] at ke
  refine⟨⟨k0,hlt2⟩,ad,had,_,_,hrd,fun b_x=>?_⟩
  have hSJ:=hS.mono l29
  refine⟨_,rfl,some m1,(hSJ.rd _).1, ?_⟩
  have hm0:∀(x y:Nat×Obj),(m1,o2)∈x::y::F9:=fun x y=>.tail _ (.tail _ (kp.mem_iff.2 (.head _)))
  refine TriE.mono (cnt_get kcn hgl (by omega) (hm0 _ _)) fun v1 I3 G hl3 ⟨r1,hv1,hI,hG,hu⟩=>⟨r1,hv1,F9,by rw[hG], ?_⟩
  subst hI hG
  refine TriU.mono (hu _ (((kp.cons _).cons _).trans pm2)) fun I4 G hl4 ⟨hI,o',hcn',hG,hlk⟩=>?_
  subst hI hG
  refine⟨(m1,o')::(m2,.map #[] 0)::(H++F),pm2.symm,_,rfl,some m1,(hSJ.rd _).1, ?_⟩
  refine TriE.mono (hlk _ (.tail _ (.tail _ (.head _)))) fun v2 I5 G hl5 ⟨r2,hv2,hI,hG,n1,n2,n3⟩=>?_
  subst hI hG
  have hix:=(has_ix g.name (slotL s) i2.toNat 0 hgl).1
  rw[show ixF g.name (slotL s) 0=s.p.slot g.name from rfl,Int.zero_add,Int.toNat_of_nonneg k0] at hix
  refine⟨r2,hv2,(m1,o')::(m2,.map #[] 0)::(H++F),.refl _,fun h2=>?_,fun h2=>⟨(s.slots.length-(i2+1)).toNat,by omega, ?_⟩⟩
  ·have h2:=of_decide_eq_true h2
   rw[if_pos (hix.2 (n3.1 h2)),thenT_n (n:=150) (by decide)] at ke
   refine Tri.retV (refused_no (hg.mono l29) g.pos 150 (by decide) _) fun v I6 l6 hv=>⟨v,rfl,_,.refl _,v,_,_,H,rfl, ?_,.refl _,fun h=>?_⟩
   ·rw[ke];exact hv
   ·rw[ke] at h;exact absurd h (show (150:Int)≠0 by decide)
  ·have h2:=of_decide_eq_false h2
   rw[if_neg (fun h=>h2 (n3.2 (hix.1 h)))] at ke
   rw[w64 (n:=i2+1) (by omega)]
   refine⟨by omega,by omega,rfl, ?_,H,o', ?_,.refl _⟩
   ·rw[ke,show (i2+1).toNat=i2.toNat+1 by omega]
   ·rw[show (i2+1).toNat=i2.toNat+1 by omega];exact hcn'
 ·have hlt2:=of_decide_eq_false hlt2
  rw[ke,List.drop_eq_nil_of_le (by omega)];rfl
 ·have hlt2:=of_decide_eq_false hlt2
  rw[List.take_of_length_le (by unfold slotL;rw[List.length_map];omega),show i2.toNat=s.slots.length by omega] at kcn
  exact kcn
 ·have hlt3:=of_decide_eq_true hlt3
  have l29:=Imm.le_trans l2 (Imm.le_trans l9 l14)
  have hsub2:∀y,y∈F→y∈F14:=fun y hy=>qp.mem_iff.2 (.tail _ (.tail _ (List.mem_append_right _ hy)))
  obtain⟨ad,g,had,hg1,hrd,hgm⟩:=SlG.atm (hok.mono (H:=(b_s,Obj.cells #[.string s.name,.slice s.ra s.regs.length s.rc,.slice s.sa s.slots.length s.sc,.slice s.ta s.states.length s.tc] 39 (0,0))::F14) l29 fun y hy=>.tail _ (hsub2 y hy)).states q0 hlt3
  have hgl:(roomL s)[i3.toNat]? = some g.name:=by unfold roomL;rw[List.getElem?_map,hg1];rfl
  have hgp:s.p.states[i3.toNat]? = some g.p:=by
   show (s.states.map StateN.p)[i3.toNat]? = _
   rw[List.getElem?_map,hg1];rfl
  have hdr:s.p.states.drop i3.toNat=g.p::s.p.states.drop (i3.toNat+1):=by
   obtain⟨h1,h2⟩:=List.getElem?_eq_some_iff.1 hgp
   rw[List.drop_eq_getElem_cons h1,h2]
  rw[hdr,namedT] at qe
  refine⟨⟨q0,hlt3⟩,ad,had,_,_,_,_,_,hrd,fun b_x=>?_⟩
  have hSJ:=hS.mono l29
  refine⟨_,rfl,some m2,(hSJ.rd _).2, ?_⟩
  have hm0:∀(x y:Nat×Obj),(m2,o3)∈x::y::F14:=fun x y=>.tail _ (.tail _ (qp.mem_iff.2 (.tail _ (.head _))))
  refine TriE.mono (cnt_get qcn hgl (by omega) (hm0 _ _)) fun v1 I3 G hl3 ⟨r1,hv1,hI,hG,hu⟩=>⟨r1,hv1,F14,by rw[hG], ?_⟩
  subst hI hG
  refine TriU.mono (hu _ (((qp.cons _).cons _).trans pm3)) fun I4 G hl4 ⟨hI,o',hcn',hG,hlk⟩=>?_
  subst hI hG
  refine⟨(m1,o1)::(m2,o')::(H'++F),pm3.symm,_,rfl,some m2,(hSJ.rd _).2, ?_⟩
  refine TriE.mono (hlk _ (.tail _ (.tail _ (.tail _ (.head _))))) fun v2 I5 G hl5 ⟨r2,hv2,hI,hG,n1,n2,n3⟩=>?_
  subst hI hG
  have hix:=(has_ix g.name (roomL s) i3.toNat 0 hgl).1
  rw[←roomL_ix,Int.zero_add,Int.toNat_of_nonneg q0] at hix
  refine⟨r2,hv2,(m1,o1)::(m2,o')::(H'++F),.refl _,fun h2=>?_,fun h2=>⟨(s.states.length-(i3+1)).toNat,by omega, ?_⟩⟩
  ·have h2:=of_decide_eq_true h2
   rw[if_pos (show s.p.room g.p.name<i3 from hix.2 (n3.1 h2))] at qe
   refine Tri.retV (refused_no (hg.mono l29) g.pos 150 (by decide) _) fun v I6 l6 hv=>⟨v,rfl,_,.refl _,v,_,_,H',rfl, ?_,.refl _,fun h=>?_⟩
   ·rw[qe];exact hv
   ·rw[qe] at h;exact absurd h (show (150:Int)≠0 by decide)
  ·have h2:=of_decide_eq_false h2
   rw[if_neg (show ¬s.p.room g.p.name<i3 from fun h=>h2 (n3.2 (hix.1 h)))] at qe
   rw[w64 (n:=i3+1) (by omega)]
   refine⟨by omega,by omega,rfl, ?_,H',o1,o',qs, ?_,.refl _⟩
   ·rw[qe,show (i3+1).toNat=i3.toNat+1 by omega]
   ·rw[show (i3+1).toNat=i3.toNat+1 by omega];exact hcn'
 ·have hlt3:=of_decide_eq_false hlt3
  rw[List.drop_eq_nil_of_le (by show (s.states.map StateN.p).length≤_;rw[List.length_map];omega)] at qe
  rw[List.take_of_length_le (by unfold roomL;rw[List.length_map];omega),show i3.toNat=s.states.length by omega] at qcn
  refine⟨_,o1,o3,H',rfl, ?_,qp,fun _=>⟨qs,qcn⟩⟩
  rw[qe];exact ChkE.ok
end
end Go.Lx
namespace Go.Lx
open Go.Vc
def FltE(f:TF)(v:Value)(J:Imm):Prop:=ChkE J f v
mutual
theorem typed_of(s:StgP):∀x:Px,(typed s x).2.e≠0→(typed s x).2.of=true
 | .mk k o t n f nm l q,h=>by
   rw[typed] at h ⊢
   split
   ·rename_i h1;exact typedL_of s l h1
   ·rename_i h1
    rw[if_neg h1] at h
    unfold nodeE at h ⊢
    split
    ·rfl
    ·rename_i h2
     rw[if_neg h2] at h
     split
     ·rename_i h3;rw[if_pos h3] at h;exact absurd rfl h
     ·rfl
theorem typedL_of(s:StgP):∀l:List Px,(typedL s l).2.e≠0→(typedL s l).2.of=true
 | [],h=>by rw[typedL] at h;exact absurd rfl h
 | x::r,h=>by
   rw[typedL] at h ⊢
   split
   ·rename_i h1;exact typed_of s x h1
   ·rename_i h1;rw[if_neg h1] at h;exact typedL_of s r h
end
theorem typeOf_ok{s:StgP}{x:Px}(h:x.checkE=0):typeOf s x=typed s x:=by
 unfold typeOf
 rw[if_neg (fun h'=>h' h)]
theorem pmust_spec{s:StgN}{c m1 m2:Nat}(t:Nd)(hc:t.px.checkE=0)(want:Int){I:Imm}{F:Heap}(hg:Gl I)(hS:Scp I c s.p m1 m2)(ht:NdOk I F t) :
  Tri P 108 #[.pointer (some ⟨c,0,none⟩),t.v,.int .u8 want] I F (RetV (FltE (mustT s.p t.px want)) F):=by
 refine types_scope_must.vc ?_
 unfold types_scope_must.V
 unfold mustT
 have hf:=checkE_formed hc
 rw[typeOf_ok hc]
 intro b_n
 refine Tri.retV (of_spec t hf I _ hS (ht.mono (Imm.le_refl I) fun y hy=>.tail _ hy)) fun v I1 l1 ⟨w,hv,hw⟩=>⟨_,_,congrArg Ending.returned hv,F,.refl _,_,hw.neq (by kernel_rfl),fun hq=>?_,fun hq=>?_⟩
 ·have he:(typed s.p t.px).2.e≠0:=by simpa using hq
  have hof:=typed_of s.p t.px he
  rw[if_pos he]
  have e:(⟨(typed s.p t.px).2.e,(typed s.p t.px).2.pos,true⟩:TF)=(typed s.p t.px).2:=by rw[←hof]
  refine Tri.retV (refused_of (hg.mono l1) 0 (typed s.p t.px).2.pos (typed s.p t.px).2.e he (hw.2 he) _) fun v2 I2 l2 hv2=>⟨v2,rfl,F,.refl _,v2,rfl, ?_,rfl⟩
  rw[e] at hv2;exact hv2
 ·have he:(typed s.p t.px).2.e=0:=by simpa using hq
  rw[if_neg (fun h=>h he)]
  refine⟨fun hn=>?_,fun hn=>?_⟩
  ·have hn:(typed s.p t.px).1≠want:=by simpa using hn
   rw[if_pos hn,Nd.px_pos]
   exact Tri.retV (refused_no (hg.mono l1) t.pos 152 (by decide) _) fun v2 I2 l2 hv2=>⟨v2,rfl,F,.refl _,v2,rfl,hv2,rfl⟩
  ·have hn:(typed s.p t.px).1=want:=by simpa using hn
   rw[if_neg (fun h=>h hn)]
   exact⟨_,rfl,ChkE.ok,rfl⟩
theorem firstT_hit{α:Type}{f:α→TF}:∀{l:List α} {i:Nat} {x:α},(∀y∈l.take i,(f y).e=0)→l[i]? = some x→(f x).e≠0→firstT f l=f x
 | y::r,0,x,_,hx,he=>by
   simp only[List.getElem?_cons_zero,Option.some.injEq] at hx
   subst hx;rw[firstT,if_pos he]
 | y::r,i+1,x,h,hx,he=>by
   rw[List.take_succ_cons] at h
   rw[firstT,if_neg (by simpa using h y (.head _))]
   exact firstT_hit (fun k hk=>h k (.tail _ hk)) (by simpa using hx) he
theorem firstT_all{α:Type}{f:α→TF}:∀{l:List α},(∀y∈l,(f y).e=0)→firstT f l=zTF
 | [],_=>rfl
 | y::r,h=>by rw[firstT,if_neg (by simpa using h y (.head _))];exact firstT_all fun k hk=>h k (.tail _ hk)
theorem firstT_map{α β:Type}{f:β→TF}{g:α→β}:∀l:List α,firstT f (l.map g)=firstT (fun x=>f (g x)) l
 | []=>rfl
 | x::r=>by rw[List.map_cons,firstT,firstT,firstT_map r]
def ptE(p:Nd×Int):List Value:=[.int .u8 p.1.kind,.int .u8 p.1.oper,.int .u8 p.1.typ,.int .i64 p.1.n,.int .u8 p.1.field,.string p.1.name,.slice p.1.a p.1.kids.length p.1.c,.int .i64 p.1.pos,.int .u8 p.2]
theorem ptE_one(p:Nd×Int):∀u∈ptE p,u.oneCell'=true:=by
 intro u hu
 simp only[ptE,List.mem_cons,List.not_mem_nil,or_false] at hu
 rcases hu with h | h | h | h | h | h | h | h | h<;>(subst h;rfl)
theorem pt_app{a:Option Addr}{n c b1 m:Nat}{l:List (Nd×Int)}{A F R:Heap}{I:Imm}(hA:Acc 9 ptE 210 a n c l A)(hl:l.length≤100)(xs:List (Nd×Int))(hx:xs≠[])(hx2:xs.length≤2)(hm:m=xs.length)
  (hb:I b1=some (.cells (xs.flatMap ptE).toArray 210 (0,0))) (hF:F.Perm (A++R)) :
  TriE P (Builtin.append_ #[208,208] 208 #[.slice a n c,.slice (some ⟨b1,0,none⟩) m m]) I F fun v I' G=>∃a' n' c' A',v=.slice a' n' c'∧Acc 9 ptE 210 a' n' c' (l++xs) A'∧G.Perm (A'++R):=by
 refine TriE.perm (TriE.mono (append_spec' (f:=ptE) (z:=9) (zv:=.agg (ptE (zNd,0)).toArray) (fun _=>rfl) (by':=80) (by kernel_rfl) (by kernel_rfl) rfl (by decide) hA (xs:=xs) (fun y _=>ptE_one y) hx hm ?_ ?_ (F:=R)) fun v I' G _ ⟨a',n',c',A',h1,h2,h3,_⟩=>⟨a',n',c',A',h1,h2,by rw[h3]⟩) hF
 ·exact⟨rfl,_,_,_,.inl hb,fun j hj=>by simp⟩
 ·have:(l.length+xs.length)*80≤102*80:=Nat.mul_le_mul (by omega) (Nat.le_refl _)
  omega
def dparts(d:DoN)(v:Int):List (Nd×Int) :=
 if d.kind=1 then [(d.side,6),(d.qty,2)]++(if d.order≠2 then [(d.price,3)] else []) else if d.kind=2 then [(d.qty,2),(d.price,3)] else if d.kind=4 then [(d.value,v)] else []
theorem dparts_len(d:DoN)(v:Int):(dparts d v).length≤3:=by
 unfold dparts
 split
 ·split<;>simp
 ·split
  ·simp
  ·split<;>simp
theorem doL_parts(s:StgP)(d:DoN):doL s d.p=(dparts d (s.regT (doI s d.p))).map fun p=>mustT s p.1.px p.2:=by
 unfold doL dparts
 show (if d.kind=1 then _ else _)++((if d.kind=1∨d.kind=2 then _ else _)++((if d.kind=1∧d.order≠2∨d.kind=2 then _ else _)++(if d.kind=4 then _ else _)))=_
 by_cases h1:d.kind=1
 ·rw[if_pos h1,if_pos (.inl h1),if_neg (show ¬d.kind=4 by omega),if_pos h1]
  by_cases ho:d.order≠2
  ·rw[if_pos (.inl ⟨h1,ho⟩),if_pos ho];rfl
  ·rw[if_neg (by omega),if_neg ho];rfl
 ·rw[if_neg h1,if_neg h1]
  by_cases h2:d.kind=2
  ·rw[if_pos (.inr h2),if_pos (.inr h2),if_neg (by omega),if_pos h2];rfl
  ·rw[if_neg (by omega),if_neg (by omega),if_neg h2]
   by_cases h4:d.kind=4
   ·rw[if_pos h4,if_pos h4];rfl
   ·rw[if_neg h4,if_neg h4];rfl
def ScA(I:Imm)(c:Nat)(s:StgN):Prop:=∃m1 m2 o1 o2,Scp I c s.p m1 m2∧I m1=some o1∧Cnt (slotL s) s.slots.length o1∧I m2=some o2∧Cnt (roomL s) s.states.length o2
theorem ScA.mono{I J:Imm}{c:Nat}{s:StgN}(h:ScA I c s)(hl:Imm.le I J):ScA J c s:=let ⟨m1,m2,o1,o2,h1,h2,h3,h4,h5⟩:=h;⟨m1,m2,o1,o2,h1.mono hl,hl.at h2,h3,hl.at h4,h5⟩
theorem cnt_has{l:List ByteArray}{k:Nat}{o:Obj}{m:Nat}{I:Imm}{G:Heap}(hc:Cnt l k o)(hm:I m=some o)(nm:ByteArray):TriE P (Instr.lookup 162 (.map (some m)) (.string nm) false) I G fun v I' G'=>∃r:Int,v=.int .i64 r∧I'=I∧G'=G∧decide (r>0)=hasS l nm:=by
 obtain⟨es,ck,g,rfl,hg,hmet⟩:=hc
 refine TriE.mono (lookup_one mapS strD str_key str_inj zeroS hg (.inl hm) nm) fun v I1 G1 hl1 ⟨hv,hI,hG⟩=>⟨(g nm).getD 0, ?_,hI,hG, ?_⟩
 ·rw[hv];cases g nm<;>rfl
 ·cases hs:hasS l nm with
  | true=>obtain⟨x,h1,h2,_⟩:=(hmet nm).1 hs;rw[h1];exact decide_eq_true (by show x>0;omega)
  | false=>rw[(hmet nm).2 hs];rfl
end Go.Lx
namespace Go.Lx
open Go.Vc
def DoN.Fit(d:DoN):Prop:=∀v,∀p∈dparts d v,p.1.px.checkE=0
theorem check_parts{d:DoN}(h:d.p.check=0):d.Fit:=by
 unfold DoP.check at h
 obtain⟨_,h⟩:=thenE_z h
 obtain⟨_,h⟩:=thenE_z h
 obtain⟨_,h⟩:=thenE_z h
 obtain⟨h1,h⟩:=thenE_z h
 obtain⟨h2,h⟩:=thenE_z h
 obtain⟨h3,h4⟩:=thenE_z h
 have e1:d.p.kind=d.kind:=rfl
 have e2:d.p.order=d.order:=rfl
 rw[e1] at h1 h2 h3 h4
 rw[e2] at h3
 have part:∀{b:Bool} {x:Px},partE b x=0→b=true→x.checkE=0:=fun {b} {x} h hb=>by unfold partE at h;rw[if_pos hb] at h;exact h
 intro v p hp
 unfold dparts at hp
 split at hp
 ·rename_i k1
  rcases List.mem_append.1 hp with hp | hp
  ·simp only[List.mem_cons,List.not_mem_nil,or_false] at hp
   rcases hp with rfl | rfl
   ·exact part h1 (decide_eq_true k1)
   ·exact part h2 (decide_eq_true (.inl k1))
  ·split at hp
   ·rename_i ho
    rw[List.mem_singleton] at hp;subst hp
    exact part h3 (decide_eq_true (.inl ⟨k1,ho⟩))
   ·simp at hp
 ·split at hp
  ·rename_i k2
   simp only[List.mem_cons,List.not_mem_nil,or_false] at hp
   rcases hp with rfl | rfl
   ·exact part h2 (decide_eq_true (.inr k2))
   ·exact part h3 (decide_eq_true (.inr k2))
  ·split at hp
   ·rename_i k4
    rw[List.mem_singleton] at hp;subst hp
    exact part h4 (decide_eq_true k4)
   ·simp at hp
theorem dparts_ok{d:DoN}{I:Imm}{G:Heap}(h:d.Ok I G){v:Int}:∀p∈dparts d v,NdOk I G p.1:=by
 obtain⟨o1,o2,o3,o4⟩:=h
 intro p hp
 unfold dparts at hp
 split at hp
 ·rcases List.mem_append.1 hp with hp | hp
  ·simp only[List.mem_cons,List.not_mem_nil,or_false] at hp
   rcases hp with rfl | rfl<;>assumption
  ·split at hp
   ·rw[List.mem_singleton] at hp;subst hp;assumption
   ·simp at hp
 ·split at hp
  ·simp only[List.mem_cons,List.not_mem_nil,or_false] at hp
   rcases hp with rfl | rfl<;>assumption
  ·split at hp
   ·rw[List.mem_singleton] at hp;subst hp;assumption
   ·simp at hp
theorem two_enc{I:Imm}{b:Nat}{p q:Nd×Int}(h:I b=some (.cells (ptE p++ptE q).toArray 210 (0,0))):I b=some (.cells ([p,q].flatMap ptE).toArray 210 (0,0)):=by
 rw[h];simp
section
variable {s:StgN} {I:Imm} {F:Heap} {c:Nat}
theorem slot_has(nm:ByteArray):hasS (slotL s) nm = !decide (s.p.slot nm<0):=by
 have h:=ix_none nm (slotL s) 0 (Int.le_refl 0)
 have e:s.p.slot nm=ixF nm (slotL s) 0:=rfl
 rw[e]
 cases hb:hasS (slotL s) nm with
 | true=>rw[hb] at h;simp at h;simp[h]
 | false=>rw[hb] at h;simp at h;simp[h]
theorem room_has(nm:ByteArray):hasS (roomL s) nm = !decide (s.p.room nm<0):=by
 have h:=ix_none nm (roomL s) 0 (Int.le_refl 0)
 rw[roomL_ix]
 cases hb:hasS (roomL s) nm with
 | true=>rw[hb] at h;simp at h;simp[h]
 | false=>rw[hb] at h;simp at h;simp[h]
set_option maxHeartbeats 1000000 in
theorem pdo_spec(hg:Gl I)(hA:ScA I c s)(d:DoN)(hdo:d.Ok I F)(hfit:d.Fit):Tri P 109 #[.pointer (some ⟨c,0,none⟩),d.v] I F (RetV (FltE (doT s.p d.p)) F):=by
 refine Tri.still ?_
 obtain⟨i0,hi0⟩:∃i0,i0=doI s.p d.p:=⟨_,rfl⟩
 have hI:doI s.p d.p=if d.kind=1 then (if d.name.toList=[] then 0 else s.p.slot d.name) else if d.kind=2∨d.kind=3 then s.p.slot d.name else if d.kind=4 then s.p.reg d.name else if d.kind=5 then s.p.room d.name else 0:=rfl
 obtain⟨ps,hps⟩:∃ps,ps=dparts d (s.p.regT i0):=⟨_,rfl⟩
 have hpl:ps.length≤3:=by rw[hps];exact dparts_len _ _
 have hpd:dparts d (s.p.regT i0)=if d.kind=1 then [(d.side,6),(d.qty,2)]++(if d.order≠2 then [(d.price,3)] else []) else if d.kind=2 then [(d.qty,2),(d.price,3)] else if d.kind=4 then [(d.value,s.p.regT i0)] else []:=rfl
 have hdT:doT s.p d.p=if i0<0 then ⟨151,d.pos,false⟩ else firstT (fun p:Nd×Int=>mustT s.p p.1.px p.2) ps:=by
  unfold doT
  rw[doL_parts,←hi0,←hps,firstT_map];rfl
 refine types_scope_do.vc
  (fun v is a n k I0 F0 I' F'=>is = !decide (i0<0)∧∃A,F'.Perm (A++F)∧(is=true→Acc 9 ptE 210 a n k ps A))
  (fun a n k I0 F0 I' F'=>∃A,F'.Perm (A++F)∧Acc 9 ptE 210 a n k ps A)
  (fun a n k x i m I0 F0 I' F'=>0≤i∧i≤n∧m=(n-i).toNat∧¬i0<0∧∃A,F'.Perm (A++F)∧Acc 9 ptE 210 a n k ps A∧∀p∈ps.take i.toNat,(mustT s.p p.1.px p.2).e=0) ?_
 unfold types_scope_do.V
 intro b_d
 have hsc:∀{J:Imm},Imm.le I J→ScA J c s:=fun h=>hA.mono h
 refine⟨⟨fun h1=>?_,fun h1=>⟨fun h2=>?_,fun h2=>⟨fun h3=>?_,fun h3=>⟨fun h4=>?_,fun h4=>⟨fun h5=>?_,fun h5=>?_⟩⟩⟩⟩⟩,fun v is a n k I15 F11 l15 ⟨his,A,hF11,hAcc⟩=>⟨fun hq=>?_,fun hq=>?_⟩⟩
 ·have h1:d.kind=1:=by simpa using h1
  rw[if_pos h1] at hI hpd
  intro b I1 l1 hb
  have happ:=pt_app (R:=(b_d,Obj.cells #[.int .u8 d.kind,.int .u8 d.order,.string d.name,.int .u8 d.side.kind,.int .u8 d.side.oper,.int .u8 d.side.typ,.int .i64 d.side.n,.int .u8 d.side.field,.string d.side.name,.slice d.side.a d.side.kids.length d.side.c,.int .i64 d.side.pos,.int .u8 d.qty.kind,.int .u8 d.qty.oper,.int .u8 d.qty.typ,.int .i64 d.qty.n,.int .u8 d.qty.field,.string d.qty.name,.slice d.qty.a d.qty.kids.length d.qty.c,.int .i64 d.qty.pos,.int .u8 d.price.kind,.int .u8 d.price.oper,.int .u8 d.price.typ,.int .i64 d.price.n,.int .u8 d.price.field,.string d.price.name,.slice d.price.a d.price.kids.length d.price.c,.int .i64 d.price.pos,.int .u8 d.value.kind,.int .u8 d.value.oper,.int .u8 d.value.typ,.int .i64 d.value.n,.int .u8 d.value.field,.string d.value.name,.slice d.value.a d.value.kids.length d.value.c,.int .i64 d.value.pos,.int .i64 d.pos] 99 (0,0))::F) (A:=[]) (m:=2) Acc.nil (by simp) [(d.side,6),(d.qty,2)] (by simp) (by simp) rfl (two_enc hb) (.refl _)
  refine TriE.mono happ fun v I2 G l2 ⟨a',n',c',A',hv,hA',hG⟩=>⟨a',n',c',hv,A'++F,hG.trans List.perm_middle,⟨fun ho=>?_,fun ho=>?_⟩,fun pa pn pc I5 F3 l5 ⟨A3,hF3,hA3⟩=>⟨fun hn=>?_,fun hn=>?_⟩⟩
  ·have ho:d.order≠2:=by simpa using ho
   rw[if_pos ho] at hpd
   intro b1 I3 l3 hb1
   have happ:=pt_app (R:=(b_d,Obj.cells #[.int .u8 d.kind,.int .u8 d.order,.string d.name,.int .u8 d.side.kind,.int .u8 d.side.oper,.int .u8 d.side.typ,.int .i64 d.side.n,.int .u8 d.side.field,.string d.side.name,.slice d.side.a d.side.kids.length d.side.c,.int .i64 d.side.pos,.int .u8 d.qty.kind,.int .u8 d.qty.oper,.int .u8 d.qty.typ,.int .i64 d.qty.n,.int .u8 d.qty.field,.string d.qty.name,.slice d.qty.a d.qty.kids.length d.qty.c,.int .i64 d.qty.pos,.int .u8 d.price.kind,.int .u8 d.price.oper,.int .u8 d.price.typ,.int .i64 d.price.n,.int .u8 d.price.field,.string d.price.name,.slice d.price.a d.price.kids.length d.price.c,.int .i64 d.price.pos,.int .u8 d.value.kind,.int .u8 d.value.oper,.int .u8 d.value.typ,.int .i64 d.value.n,.int .u8 d.value.field,.string d.value.name,.slice d.value.a d.value.kids.length d.value.c,.int .i64 d.value.pos,.int .i64 d.pos] 99 (0,0))::F) (A:=A') hA' (by simp) [(d.price,3)] (by simp) (by simp) rfl hb1 List.perm_middle.symm
   refine TriE.mono happ fun v I4 G l4 ⟨a2,n2,c2,A2,hv,hA2,hG⟩=>⟨a2,n2,c2,hv,A2++F,hG.trans List.perm_middle,A2,.refl _, ?_⟩
   rw[hps,hpd];exact hA2
  ·have ho:d.order=2:=by simpa using ho
   rw[if_neg (by simpa using ho)] at hpd
   refine⟨A',.refl _, ?_⟩
   rw[hps,hpd];exact hA'
  ·have hn:d.name.toList=[]:=by simpa using hn
   rw[if_pos hn] at hI
   exact⟨by rw[hi0,hI];rfl,A3,hF3,fun _=>hA3⟩
  ·have hn:¬d.name.toList=[]:=by simpa using hn
   rw[if_neg hn] at hI
   obtain⟨m1,m2,o1,o2,hS,hm1,hc1,hm2,hc2⟩:=hsc (Imm.le_trans l1 (Imm.le_trans l2 l5))
   refine⟨_,rfl,some m1,(hS.rd _).1,(cnt_has hc1 hm1 d.name).mono fun v I6 G l6 ⟨r,hv,hI6,hG,hr⟩=>⟨r,hv,F3,by rw[hG], ?_,A3,hF3,fun _=>hA3⟩⟩
   rw[hr,slot_has,hi0,hI]
 ·have h1:d.kind≠1:=by simpa using h1
  have h2:d.kind=2:=by simpa using h2
  rw[if_neg h1,if_pos (.inl h2)] at hI
  rw[if_neg h1,if_pos h2] at hpd
  intro b I1 l1 hb
  have happ:=pt_app (R:=(b_d,Obj.cells #[.int .u8 d.kind,.int .u8 d.order,.string d.name,.int .u8 d.side.kind,.int .u8 d.side.oper,.int .u8 d.side.typ,.int .i64 d.side.n,.int .u8 d.side.field,.string d.side.name,.slice d.side.a d.side.kids.length d.side.c,.int .i64 d.side.pos,.int .u8 d.qty.kind,.int .u8 d.qty.oper,.int .u8 d.qty.typ,.int .i64 d.qty.n,.int .u8 d.qty.field,.string d.qty.name,.slice d.qty.a d.qty.kids.length d.qty.c,.int .i64 d.qty.pos,.int .u8 d.price.kind,.int .u8 d.price.oper,.int .u8 d.price.typ,.int .i64 d.price.n,.int .u8 d.price.field,.string d.price.name,.slice d.price.a d.price.kids.length d.price.c,.int .i64 d.price.pos,.int .u8 d.value.kind,.int .u8 d.value.oper,.int .u8 d.value.typ,.int .i64 d.value.n,.int .u8 d.value.field,.string d.value.name,.slice d.value.a d.value.kids.length d.value.c,.int .i64 d.value.pos,.int .i64 d.pos] 99 (0,0))::F) (A:=[]) (m:=2) Acc.nil (by simp) [(d.qty,2),(d.price,3)] (by simp) (by simp) rfl (two_enc hb) (.refl _)
  refine TriE.mono happ fun v I2 G l2 ⟨a',n',c',A',hv,hA',hG⟩=>⟨a',n',c',hv,A'++F,hG.trans List.perm_middle, ?_⟩
  obtain⟨m1,m2,o1,o2,hS,hm1,hc1,hm2,hc2⟩:=hsc (Imm.le_trans l1 l2)
  refine⟨_,rfl,some m1,(hS.rd _).1,(cnt_has hc1 hm1 d.name).mono fun v I6 G l6 ⟨r,hv,hI6,hG,hr⟩=>⟨r,hv,A'++F,by rw[hG], ?_,A',.refl _,fun _=>?_⟩⟩
  ·rw[hr,slot_has,hi0,hI]
  ·rw[hps,hpd];exact hA'
 ·have h1:d.kind≠1:=by simpa using h1
  have h2:d.kind≠2:=by simpa using h2
  have h3:d.kind=3:=by simpa using h3
  rw[if_neg h1,if_pos (.inr h3)] at hI
  rw[if_neg h1,if_neg h2,if_neg (by omega)] at hpd
  obtain⟨m1,m2,o1,o2,hS,hm1,hc1,hm2,hc2⟩:=hA
  refine⟨_,rfl,some m1,(hS.rd _).1,(cnt_has hc1 hm1 d.name).mono fun v I6 G l6 ⟨r,hv,hI6,hG,hr⟩=>⟨r,hv,F,by rw[hG], ?_,[],.refl _,fun _=>?_⟩⟩
  ·rw[hr,slot_has,hi0,hI]
  ·rw[hps,hpd];exact Acc.nil
 ·have h1:d.kind≠1:=by simpa using h1
  have h2:d.kind≠2:=by simpa using h2
  have h3:d.kind≠3:=by simpa using h3
  have h4:d.kind=4:=by simpa using h4
  rw[if_neg h1,if_neg (by omega),if_pos h4] at hI
  rw[if_neg h1,if_neg h2,if_pos h4] at hpd
  obtain⟨m1,m2,o1,o2,⟨m0,es,ck,hc,hm,hgm⟩,hm1,hc1,hm2,hc2⟩:=hA
  refine⟨_,rfl,some m0,Rd.of_imm hc _ 0 fun j hj=>?_, ?_⟩
  ·have:j=0:=by simpa using hj
   subst this;rfl
  refine TriE.mono (lookup_ok mapR strD str_key str_inj zeroR hgm (.inl hm) d.name) fun v I3 G l3 ⟨hv,hI3,hG⟩=>?_
  subst hI3 hG
  rw[firstG_reg] at hv
  by_cases hr:s.p.reg d.name<0
  ·rw[if_pos hr] at hv
   refine⟨0,false,hv,F,.refl _,fun b I4 l4 hb=>?_⟩
   have happ:=pt_app (R:=(b_d,Obj.cells #[.int .u8 d.kind,.int .u8 d.order,.string d.name,.int .u8 d.side.kind,.int .u8 d.side.oper,.int .u8 d.side.typ,.int .i64 d.side.n,.int .u8 d.side.field,.string d.side.name,.slice d.side.a d.side.kids.length d.side.c,.int .i64 d.side.pos,.int .u8 d.qty.kind,.int .u8 d.qty.oper,.int .u8 d.qty.typ,.int .i64 d.qty.n,.int .u8 d.qty.field,.string d.qty.name,.slice d.qty.a d.qty.kids.length d.qty.c,.int .i64 d.qty.pos,.int .u8 d.price.kind,.int .u8 d.price.oper,.int .u8 d.price.typ,.int .i64 d.price.n,.int .u8 d.price.field,.string d.price.name,.slice d.price.a d.price.kids.length d.price.c,.int .i64 d.price.pos,.int .u8 d.value.kind,.int .u8 d.value.oper,.int .u8 d.value.typ,.int .i64 d.value.n,.int .u8 d.value.field,.string d.value.name,.slice d.value.a d.value.kids.length d.value.c,.int .i64 d.value.pos,.int .i64 d.pos] 99 (0,0))::F) (A:=[]) Acc.nil (by simp) [(d.value,0)] (by simp) (by simp) rfl hb (.refl _)
   refine TriE.mono happ fun v I2 G l2 ⟨a',n',c',A',hv,hA',hG⟩=>⟨a',n',c',hv,A'++F,hG.trans List.perm_middle, ?_,A',.refl _,fun h=>(by cases h)⟩
   rw[hi0,hI,decide_eq_true hr];rfl
  ·rw[if_neg hr] at hv
   refine⟨s.p.regT (s.p.reg d.name),true,hv,F,.refl _,fun b I4 l4 hb=>?_⟩
   have happ:=pt_app (R:=(b_d,Obj.cells #[.int .u8 d.kind,.int .u8 d.order,.string d.name,.int .u8 d.side.kind,.int .u8 d.side.oper,.int .u8 d.side.typ,.int .i64 d.side.n,.int .u8 d.side.field,.string d.side.name,.slice d.side.a d.side.kids.length d.side.c,.int .i64 d.side.pos,.int .u8 d.qty.kind,.int .u8 d.qty.oper,.int .u8 d.qty.typ,.int .i64 d.qty.n,.int .u8 d.qty.field,.string d.qty.name,.slice d.qty.a d.qty.kids.length d.qty.c,.int .i64 d.qty.pos,.int .u8 d.price.kind,.int .u8 d.price.oper,.int .u8 d.price.typ,.int .i64 d.price.n,.int .u8 d.price.field,.string d.price.name,.slice d.price.a d.price.kids.length d.price.c,.int .i64 d.price.pos,.int .u8 d.value.kind,.int .u8 d.value.oper,.int .u8 d.value.typ,.int .i64 d.value.n,.int .u8 d.value.field,.string d.value.name,.slice d.value.a d.value.kids.length d.value.c,.int .i64 d.value.pos,.int .i64 d.pos] 99 (0,0))::F) (A:=[]) Acc.nil (by simp) [(d.value,s.p.regT (s.p.reg d.name))] (by simp) (by simp) rfl hb (.refl _)
   refine TriE.mono happ fun v I2 G l2 ⟨a',n',c',A',hv,hA',hG⟩=>⟨a',n',c',hv,A'++F,hG.trans List.perm_middle, ?_,A',.refl _,fun _=>?_⟩
   ·rw[hi0,hI,decide_eq_false hr];rfl
   ·rw[hps,hpd,hi0,hI];exact hA'
 ·have h1:d.kind≠1:=by simpa using h1
  have h2:d.kind≠2:=by simpa using h2
  have h3:d.kind≠3:=by simpa using h3
  have h4:d.kind≠4:=by simpa using h4
  have h5:d.kind=5:=by simpa using h5
  rw[if_neg h1,if_neg (by omega),if_neg h4,if_pos h5] at hI
  rw[if_neg h1,if_neg h2,if_neg h4] at hpd
  obtain⟨m1,m2,o1,o2,hS,hm1,hc1,hm2,hc2⟩:=hA
  refine⟨_,rfl,some m2,(hS.rd _).2,(cnt_has hc2 hm2 d.name).mono fun v I6 G l6 ⟨r,hv,hI6,hG,hr⟩=>⟨r,hv,F,by rw[hG], ?_,[],.refl _,fun _=>?_⟩⟩
  ·rw[hr,room_has,hi0,hI]
  ·rw[hps,hpd];exact Acc.nil
 ·have h1:d.kind≠1:=by simpa using h1
  have h2:d.kind≠2:=by simpa using h2
  have h3:d.kind≠3:=by simpa using h3
  have h4:d.kind≠4:=by simpa using h4
  have h5:d.kind≠5:=by simpa using h5
  rw[if_neg h1,if_neg (by omega),if_neg h4,if_neg h5] at hI
  rw[if_neg h1,if_neg h2,if_neg h4] at hpd
  refine⟨by rw[hi0,hI];rfl,[],.refl _,fun _=>?_⟩
  rw[hps,hpd];exact Acc.nil
 ·have hneg:i0<0:=by rw[his] at hq;simpa using hq
  rw[if_pos hneg] at hdT
  refine Tri.retV (refused_no (hg.mono l15) d.pos 151 (by decide) _) fun v2 I2 l2 hv2=>⟨v2,rfl,F11,.refl _,v2,A,rfl,hF11,fun J hJ hx=>?_⟩
  rw[hdT];exact ChkE.mono hv2 hJ
 ·have hq:is=true:=by simpa using hq
  have hneg:¬i0<0:=by rw[his] at hq;simpa using hq
  rw[if_neg hneg] at hdT
  have hAcc:=hAcc hq
  have hn:=hAcc.1
  refine⟨⟨_,by omega,by omega,rfl,hneg,A,hF11,hAcc,fun p hp=>by simp at hp⟩,fun x i m I17 F13 l17 ⟨g0,g1,gm,_,A2,hF13,hA2,hall⟩=>⟨fun hlt=>?_,fun hlt=>?_⟩⟩
  ·have hlt:=of_decide_eq_true hlt
   have l:=Imm.le_trans l15 l17
   have hS2:=hA2.slg (z:=9) (f:=ptE) (fun _=>rfl) I17 (G:=(b_d,Obj.cells #[.int .u8 d.kind,.int .u8 d.order,.string d.name,.int .u8 d.side.kind,.int .u8 d.side.oper,.int .u8 d.side.typ,.int .i64 d.side.n,.int .u8 d.side.field,.string d.side.name,.slice d.side.a d.side.kids.length d.side.c,.int .i64 d.side.pos,.int .u8 d.qty.kind,.int .u8 d.qty.oper,.int .u8 d.qty.typ,.int .i64 d.qty.n,.int .u8 d.qty.field,.string d.qty.name,.slice d.qty.a d.qty.kids.length d.qty.c,.int .i64 d.qty.pos,.int .u8 d.price.kind,.int .u8 d.price.oper,.int .u8 d.price.typ,.int .i64 d.price.n,.int .u8 d.price.field,.string d.price.name,.slice d.price.a d.price.kids.length d.price.c,.int .i64 d.price.pos,.int .u8 d.value.kind,.int .u8 d.value.oper,.int .u8 d.value.typ,.int .i64 d.value.n,.int .u8 d.value.field,.string d.value.name,.slice d.value.a d.value.kids.length d.value.c,.int .i64 d.value.pos,.int .i64 d.pos] 99 (0,0))::F13) fun y hy=>.tail _ (hF13.mem_iff.2 (List.mem_append_left _ hy))
   obtain⟨ad,p,had,hp,hrd,hpm⟩:=SlG.atm hS2 g0 hlt
   refine⟨⟨g0,hlt⟩,ad,had,_,_,_,_,_,_,_,_,_,_,_,hrd,fun b_p=>?_⟩
   have hpm':p∈dparts d (s.p.regT i0):=hps▸hpm
   obtain⟨m1,m2,o1,o2,hS,hm1,hc1,hm2,hc2⟩:=hsc l
   refine Tri.retV (pmust_spec p.1 (hfit _ p hpm') p.2 (hg.mono l) hS ((dparts_ok hdo p hpm').mono l fun y hy=>.tail _ (.tail _ (hF13.mem_iff.2 (List.mem_append_right _ hy))))) fun v2 I2 l2 hv2=>⟨v2,rfl,F13,.refl _,_,ChkE.neq hv2 (by kernel_rfl),fun he=>?_,fun he=>⟨(n-(i+1)).toNat,by omega, ?_⟩⟩
   ·have he:(mustT s.p p.1.px p.2).e≠0:=by simpa using he
    refine⟨v2,A2,rfl,hF13,fun J hJ hx=>?_⟩
    rw[hdT,firstT_hit (f:=fun p:Nd×Int=>mustT s.p p.1.px p.2) hall hp he]
    exact ChkE.mono hv2 hJ
   ·have he:(mustT s.p p.1.px p.2).e=0:=by simpa using he
    rw[w64 (n:=i+1) (by omega)]
    refine⟨by omega,by omega,rfl,hneg,A2,hF13,hA2, ?_⟩
    rw[show (i+1).toNat=i.toNat+1 by omega]
    exact take_all hp hall he
  ·have hlt:=of_decide_eq_false hlt
   refine⟨_,A2,rfl,hF13,fun J hJ hx=>?_⟩
   rw[List.take_of_length_le (by omega)] at hall
   rw[hdT,firstT_all hall]
   exact ChkE.ok
end
end Go.Lx
namespace Go.Lx
open Go.Vc
def RuleN.Fit(r:RuleN):Prop:=r.when.px.checkE=0∧∀d∈r.dos,d.Fit∧d.kind≤6
theorem check_rule{r:RuleN}(h:r.p.check=0):r.Fit:=by
 unfold RuleP.check at h
 obtain⟨h1,h⟩:=thenE_z h
 obtain⟨_,h⟩:=thenE_z h
 obtain⟨_,h⟩:=thenE_z h
 refine⟨h1,fun d hd=>?_⟩
 have hd:=firstE_z h d.p (List.mem_map_of_mem hd)
 refine⟨check_parts hd, ?_⟩
 unfold DoP.check at hd
 have h1:=errB_z (by decide) (thenE_z hd).1
 have:=of_decide_eq_true h1
 exact this.2
theorem check_rules{s:StgN}(h:s.p.check=0):∀x∈s.states,∀r∈x.rules,r.Fit:=by
 unfold StgP.check at h
 obtain⟨_,h⟩:=thenE_z h
 obtain⟨_,h⟩:=thenE_z h
 obtain⟨_,h⟩:=thenE_z h
 obtain⟨_,h⟩:=thenE_z h
 obtain⟨_,h⟩:=thenE_z h
 obtain⟨_,h⟩:=thenE_z h
 obtain⟨_,h⟩:=thenE_z h
 intro x hx r hr
 have h1:=firstE_z h x.p (List.mem_map_of_mem hx)
 unfold StateP.check at h1
 obtain⟨_,h1⟩:=thenE_z h1
 obtain⟨_,h1⟩:=thenE_z h1
 exact check_rule (firstE_z h1 r.p (List.mem_map_of_mem hr))
def lastB(l:List DoN)(i:Int):Bool:=decide (0<i)&&(match l[i.toNat-1]? with
 | some d=>decide (d.kind=5∨d.kind=6)
 | none=>false)
section
variable {s:StgN} {I:Imm} {F:Heap} {c:Nat}
set_option maxHeartbeats 1000000 in
theorem prule_spec(hg:Gl I)(hA:ScA I c s)(r:RuleN)(hro:r.Ok I F)(hfit:r.Fit)(hlen:r.dos.length≤1048576):Tri P 68 #[.pointer (some ⟨c,0,none⟩),r.v] I F (RetV (FltE (ruleT s.p r.p)) F):=by
 obtain⟨hw,hds⟩:=hfit
 have hrt:ruleT s.p r.p=thenT (mustT s.p r.when.px 5) (dosT s.p (r.dos.map DoN.p) false):=rfl
 refine types_scope_rule.vc (fun x i m I' F'=>F'=F∧0≤i∧i≤r.dos.length∧m=(r.dos.length-i).toNat∧ruleT s.p r.p=dosT s.p ((r.dos.drop i.toNat).map DoN.p) (lastB r.dos i)) ?_
 unfold types_scope_rule.V
 intro b_r
 have hS:∃m1 m2,Scp I c s.p m1 m2:=let ⟨m1,m2,_,_,h,_⟩:=hA;⟨m1,m2,h⟩
 obtain⟨m1,m2,hS⟩:=hS
 refine Tri.retV (pmust_spec r.when hw 5 hg hS (hro.1.mono (Imm.le_refl I) fun y hy=>.tail _ hy)) fun v I1 l1 hv=>⟨v,rfl,F,.refl _,_,ChkE.neq hv (by kernel_rfl),fun he=>?_,fun he=>?_⟩
 ·have he:(mustT s.p r.when.px 5).e≠0:=by simpa using he
  rw[hrt,thenT_e _ he]
  exact⟨v,rfl,hv,rfl⟩
 have he:(mustT s.p r.when.px 5).e=0:=by simpa using he
 rw[thenT_z _ he] at hrt
 refine⟨⟨_,rfl,by omega,by omega,rfl,hrt⟩,fun x i m I2 F2 l2 ⟨gF,g0,g1,gm,ge⟩=>⟨fun hlt=>?_,fun hlt=>?_⟩⟩
 ·subst gF
  have hlt:=of_decide_eq_true hlt
  have l:=Imm.le_trans l1 l2
  have hr2:∀x:Nat×Obj,RuleN.Ok I2 (x::F2) r:=fun x=>hro.mono l fun y hy=>.tail _ hy
  obtain⟨ad,d,had,hd,hrd,hdm⟩:=SlG.atm (hr2 (b_r,Obj.cells #[.int .u8 r.when.kind,.int .u8 r.when.oper,.int .u8 r.when.typ,.int .i64 r.when.n,.int .u8 r.when.field,.string r.when.name,.slice r.when.a r.when.kids.length r.when.c,.int .i64 r.when.pos,.slice r.a r.dos.length r.c,.int .i64 r.pos] 84 (0,0))).2.1 g0 hlt
  obtain⟨hk,hdk⟩:=List.getElem?_eq_some_iff.1 hd
  obtain⟨hdf,hd6⟩:=hds d hdm
  rw[List.drop_eq_getElem_cons hk,hdk,List.map_cons,dosT] at ge
  have step:∀b_d:Nat,lastB r.dos i=false→Tri P 109 #[.pointer (some ⟨c,0,none⟩),d.v] I2 ((b_r,Obj.cells #[.int .u8 r.when.kind,.int .u8 r.when.oper,.int .u8 r.when.typ,.int .i64 r.when.n,.int .u8 r.when.field,.string r.when.name,.slice r.when.a r.when.kids.length r.when.c,.int .i64 r.when.pos,.slice r.a r.dos.length r.c,.int .i64 r.pos] 84 (0,0))::(b_d,Obj.cells #[.int .u8 d.kind,.int .u8 d.order,.string d.name,.int .u8 d.side.kind,.int .u8 d.side.oper,.int .u8 d.side.typ,.int .i64 d.side.n,.int .u8 d.side.field,.string d.side.name,.slice d.side.a d.side.kids.length d.side.c,.int .i64 d.side.pos,.int .u8 d.qty.kind,.int .u8 d.qty.oper,.int .u8 d.qty.typ,.int .i64 d.qty.n,.int .u8 d.qty.field,.string d.qty.name,.slice d.qty.a d.qty.kids.length d.qty.c,.int .i64 d.qty.pos,.int .u8 d.price.kind,.int .u8 d.price.oper,.int .u8 d.price.typ,.int .i64 d.price.n,.int .u8 d.price.field,.string d.price.name,.slice d.price.a d.price.kids.length d.price.c,.int .i64 d.price.pos,.int .u8 d.value.kind,.int .u8 d.value.oper,.int .u8 d.value.typ,.int .i64 d.value.n,.int .u8 d.value.field,.string d.value.name,.slice d.value.a d.value.kids.length d.value.c,.int .i64 d.value.pos,.int .i64 d.pos] 99 (0,0))::F2) (RetV (FltE (doT s.p d.p)) ((b_r,Obj.cells #[.int .u8 r.when.kind,.int .u8 r.when.oper,.int .u8 r.when.typ,.int .i64 r.when.n,.int .u8 r.when.field,.string r.when.name,.slice r.when.a r.when.kids.length r.when.c,.int .i64 r.when.pos,.slice r.a r.dos.length r.c,.int .i64 r.pos] 84 (0,0))::(b_d,Obj.cells #[.int .u8 d.kind,.int .u8 d.order,.string d.name,.int .u8 d.side.kind,.int .u8 d.side.oper,.int .u8 d.side.typ,.int .i64 d.side.n,.int .u8 d.side.field,.string d.side.name,.slice d.side.a d.side.kids.length d.side.c,.int .i64 d.side.pos,.int .u8 d.qty.kind,.int .u8 d.qty.oper,.int .u8 d.qty.typ,.int .i64 d.qty.n,.int .u8 d.qty.field,.string d.qty.name,.slice d.qty.a d.qty.kids.length d.qty.c,.int .i64 d.qty.pos,.int .u8 d.price.kind,.int .u8 d.price.oper,.int .u8 d.price.typ,.int .i64 d.price.n,.int .u8 d.price.field,.string d.price.name,.slice d.price.a d.price.kids.length d.price.c,.int .i64 d.price.pos,.int .u8 d.value.kind,.int .u8 d.value.oper,.int .u8 d.value.typ,.int .i64 d.value.n,.int .u8 d.value.field,.string d.value.name,.slice d.value.a d.value.kids.length d.value.c,.int .i64 d.value.pos,.int .i64 d.pos] 99 (0,0))::F2)):=fun b_d _ =>
   pdo_spec (hg.mono l) (hA.mono l) d ((hro.2.2 d hdm).mono l fun y hy=>.tail _ (.tail _ hy)) hdf
  have next:lastB r.dos i=false→(doT s.p d.p).e=0→ruleT s.p r.p=dosT s.p ((r.dos.drop (i+1).toNat).map DoN.p) (lastB r.dos (i+1)):=fun hb h0=>by
   rw[ge,hb,if_neg (by simp),if_neg (by simpa using h0),show (i+1).toNat=i.toNat+1 by omega]
   have:lastB r.dos (i+1)=decide (d.p.kind=5∨d.p.kind=6):=by
    unfold lastB
    rw[show (i+1).toNat-1=i.toNat by omega,hd,decide_eq_true (show 0<i+1 by omega)]
    rfl
   rw[this]
  refine⟨⟨g0,hlt⟩,ad,had,_,_,_,_,_,_,_,_,_,_,_,_,_,_,_,_,_,_,_,_,_,_,_,_,_,_,_,_,_,_,_,_,_,_,_,_,_,_,_,_,_,_,_,_,hrd,fun b_d=>⟨fun hp=>?_,fun hp=>?_⟩⟩
  ·have hp:=of_decide_eq_true hp
   have hw1:IntKind.wrap .i64 (i-1)=i-1:=w64 (by omega)
   rw[hw1]
   obtain⟨ad1,d1,had1,hd1,hrd1,hdm1⟩:=SlG.atm ((hr2 (b_d,Obj.cells #[.int .u8 d.kind,.int .u8 d.order,.string d.name,.int .u8 d.side.kind,.int .u8 d.side.oper,.int .u8 d.side.typ,.int .i64 d.side.n,.int .u8 d.side.field,.string d.side.name,.slice d.side.a d.side.kids.length d.side.c,.int .i64 d.side.pos,.int .u8 d.qty.kind,.int .u8 d.qty.oper,.int .u8 d.qty.typ,.int .i64 d.qty.n,.int .u8 d.qty.field,.string d.qty.name,.slice d.qty.a d.qty.kids.length d.qty.c,.int .i64 d.qty.pos,.int .u8 d.price.kind,.int .u8 d.price.oper,.int .u8 d.price.typ,.int .i64 d.price.n,.int .u8 d.price.field,.string d.price.name,.slice d.price.a d.price.kids.length d.price.c,.int .i64 d.price.pos,.int .u8 d.value.kind,.int .u8 d.value.oper,.int .u8 d.value.typ,.int .i64 d.value.n,.int .u8 d.value.field,.string d.value.name,.slice d.value.a d.value.kids.length d.value.c,.int .i64 d.value.pos,.int .i64 d.pos] 99 (0,0))).cons (x:=(b_r,Obj.cells #[.int .u8 r.when.kind,.int .u8 r.when.oper,.int .u8 r.when.typ,.int .i64 r.when.n,.int .u8 r.when.field,.string r.when.name,.slice r.when.a r.when.kids.length r.when.c,.int .i64 r.when.pos,.slice r.a r.dos.length r.c,.int .i64 r.pos] 84 (0,0)))).2.1 (i:=i-1) (by omega) (by omega)
   have hlb:lastB r.dos i=decide (d1.kind=5∨d1.kind=6):=by
    unfold lastB
    rw[show i.toNat-1=(i-1).toNat by omega,hd1,decide_eq_true hp]
    rfl
   have h16:=(hds d1 hdm1).2
   refine⟨⟨by omega,by omega⟩,ad1,had1,d1.kind,hrd1.field (o:=0) rfl,fun h5=>?_,fun h5=>?_⟩
   ·have h5:=of_decide_eq_true h5
    have hb:lastB r.dos i=true:=by rw[hlb];exact decide_eq_true (by omega)
    rw[hb,if_pos rfl] at ge
    exact Tri.retV (refused_no (hg.mono l) d.pos 153 (by decide) _) fun v2 I3 l3 hv2=>⟨v2,rfl,F2,.refl _,v2,rfl,by rw[ge];exact hv2,rfl⟩
   ·have h5:=of_decide_eq_false h5
    have hb:lastB r.dos i=false:=by rw[hlb];exact decide_eq_false (by omega)
    refine Tri.retV (step b_d hb) fun v2 I3 l3 hv2=>⟨v2,rfl,F2,.refl _,_,ChkE.neq hv2 (by kernel_rfl),fun hq=>?_,fun hq=>⟨(r.dos.length-(i+1)).toNat,by omega, ?_⟩⟩
    ·have hq:(doT s.p d.p).e≠0:=by simpa using hq
     rw[ge,hb,if_neg (by simp),if_pos hq]
     exact⟨v2,rfl,hv2,rfl⟩
    ·have hq:(doT s.p d.p).e=0:=by simpa using hq
     rw[w64 (n:=i+1) (by omega)]
     exact⟨rfl,by omega,by omega,rfl,next hb hq⟩
  ·have hp:=of_decide_eq_false hp
   have hb:lastB r.dos i=false:=by unfold lastB;rw[decide_eq_false (by omega)];rfl
   refine Tri.retV (step b_d hb) fun v2 I3 l3 hv2=>⟨v2,rfl,F2,.refl _,_,ChkE.neq hv2 (by kernel_rfl),fun hq=>?_,fun hq=>⟨(r.dos.length-(i+1)).toNat,by omega, ?_⟩⟩
   ·have hq:(doT s.p d.p).e≠0:=by simpa using hq
    rw[ge,hb,if_neg (by simp),if_pos hq]
    exact⟨v2,rfl,hv2,rfl⟩
   ·have hq:(doT s.p d.p).e=0:=by simpa using hq
    rw[w64 (n:=i+1) (by omega)]
    exact⟨rfl,by omega,by omega,rfl,next hb hq⟩
 ·subst gF
  have hlt:=of_decide_eq_false hlt
  rw[List.drop_eq_nil_of_le (by omega),List.map_nil,dosT] at ge
  rw[ge];exact⟨_,rfl,ChkE.ok,rfl⟩
theorem declared2_spec(hl:s.p.Thin)(hok:s.Ok I F)(hg:Gl I)(hf:∀r∈s.regs,r.init.px.formed=true){m1 m2:Nat}(hS:Scp I c s.p m1 m2) :
  Tri P 67 #[.pointer (some ⟨c,0,none⟩),s.v] I ((m1,.map #[] 0)::(m2,.map #[] 0)::F) (RetV (fun v J=>FltE s.p.named v J∧(s.p.named.e=0→ScA J c s)) F) :=
 Tri.keep (declared_spec hl hok hg hf hS) fun e I' G w l hs ⟨v,he,hv,o1,o2,hG,hk⟩=>by
  subst hG
  obtain⟨J,g1,g2,g3⟩:=Sat.still [(m1,o1),(m2,o2)] hs
  exact⟨J,F,g1,g3,v,he,⟨hv.mono g1,fun h0=>⟨m1,m2,o1,o2,hS.mono (Imm.le_trans l g1),g2 _ (.head _),(hk h0).1,g2 _ (.tail _ (.head _)),(hk h0).2⟩⟩,rfl⟩
end
end Go.Lx
namespace Go.Lx
open Go.Vc
set_option maxHeartbeats 1000000 in
theorem pCheck_specT(s:StgN)(hl:s.p.Thin){I:Imm}{F:Heap}(hok:s.Ok I F)(hg:Gl I):Tri P 39 #[s.v] I F (RetV (FltE s.p.types) F):=by
 have lr:=hl.regs
 have lt:=hl.states
 simp only[StgN.p,List.length_map] at lr lt
 have hdef:s.p.types=if s.p.check≠0 then ⟨s.p.check,0,false⟩ else thenT s.p.named (firstT (fun x=>firstT (ruleT s.p) x.rules) (s.states.map StateN.p)):=rfl
 refine types_Check.vc
  (fun cA x i m I0 F0 I' F'=>F'=F∧0≤i∧i≤s.states.length∧m=(s.states.length-i).toNat∧(∃c,cA=some (⟨c,0,none⟩:Addr)∧ScA I' c s)∧(∀x∈s.states,∀r∈x.rules,r.Fit)∧s.p.types=firstT (fun x=>firstT (ruleT s.p) x.rules) ((s.states.drop i.toNat).map StateN.p))
  (fun cA i x k m I0 F0 I' F'=>F'=F∧∃y,s.states[i.toNat]? = some y∧0≤k∧k≤y.rules.length∧m=(y.rules.length-k).toNat∧(∃c,cA=some (⟨c,0,none⟩:Addr)∧ScA I' c s)∧(∀x∈s.states,∀r∈x.rules,r.Fit) ∧
    s.p.types=thenT (firstT (ruleT s.p) ((y.rules.drop k.toNat).map RuleN.p)) (firstT (fun x=>firstT (ruleT s.p) x.rules) ((s.states.drop (i.toNat+1)).map StateN.p))) ?_
 unfold types_Check.V
 intro b_s
 have ok1:∀{J:Imm} {x:Nat×Obj},Imm.le I J→s.Ok J (x::F):=fun hJ=>hok.mono hJ fun y hy=>.tail _ hy
 refine Tri.ret (Check_spec s hl.small hl.lens I _ (ok1 (Imm.le_refl I))) fun I1 l1=>⟨_,rfl,F,.refl _,fun hc=>?_,fun hc=>?_⟩
 ·have hc:s.p.check≠0:=by simpa using hc
  rw[hdef,if_pos hc]
  exact Tri.retV (refused_no (hg.mono l1) 0 s.p.check hc _) fun v I2 l2 hv=>⟨v,rfl,F,.refl _,v,rfl,hv,rfl⟩
 have hc:s.p.check=0:=by simpa using hc
 rw[if_neg (by simpa using hc)] at hdef
 have hfit:=check_rules hc
 have hfm:∀r∈s.regs,r.init.px.formed=true:=fun r hr=>check_regs hc r.p (List.mem_map_of_mem hr)
 refine (registers_spec s lr I1 _ (ok1 l1)).mono fun e I2 G l2 ⟨c,m1,m2,he,hS,hG⟩=>?_
 subst hG
 have l12:=Imm.le_trans l1 l2
 refine⟨_,he,(m1,.map #[] 0)::(m2,.map #[] 0)::F,pm2, ?_⟩
 have hdec:=declared2_spec (F:=(b_s,Obj.cells #[.string s.name,.slice s.ra s.regs.length s.rc,.slice s.sa s.slots.length s.sc,.slice s.ta s.states.length s.tc] 39 (0,0))::F) hl (ok1 l12) (hg.mono l12) hfm hS
 refine (hdec.perm pm2.symm).mono fun e I3 G l3 ⟨v,he,⟨hv,hk⟩,hG⟩=>⟨v,he,F,by rw[hG],_,ChkE.neq hv (by kernel_rfl),fun hq=>?_,fun hq=>?_⟩
 ·have hq:s.p.named.e≠0:=by simpa using hq
  rw[hdef,thenT_e _ hq]
  exact⟨v,rfl,hv,rfl⟩
 have hq:s.p.named.e=0:=by simpa using hq
 rw[thenT_z _ hq] at hdef
 have l123:=Imm.le_trans l12 l3
 refine⟨⟨_,rfl,by omega,by omega,rfl,⟨c,rfl,hk hq⟩,hfit,hdef⟩,fun x i m I4 F4 l4 ⟨gF,g0,g1,gm,⟨c',hc',hA⟩,_,ge⟩=>⟨fun hlt=>?_,fun hlt=>?_⟩⟩
 ·subst gF
  obtain rfl:c=c':=by simpa using hc'
  have hlt:=of_decide_eq_true hlt
  have l:=Imm.le_trans l123 l4
  obtain⟨ad,y,had,hy,hrd,hym⟩:=SlG.atm (ok1 (x:=(b_s,Obj.cells #[.string s.name,.slice s.ra s.regs.length s.rc,.slice s.sa s.slots.length s.sc,.slice s.ta s.states.length s.tc] 39 (0,0))) l).states g0 hlt
  obtain⟨hk2,hyk⟩:=List.getElem?_eq_some_iff.1 hy
  rw[List.drop_eq_getElem_cons hk2,hyk,List.map_cons] at ge
  have hly:=(hl.state y.p (List.mem_map_of_mem hym)).1
  have hlr:=(hl.state y.p (List.mem_map_of_mem hym)).2
  simp only[StateN.p,List.length_map] at hly
  refine⟨⟨g0,hlt⟩,ad,had,_,_,_,_,_,hrd,fun b_x=>⟨⟨_,rfl,y,hy,by omega,by omega,rfl,⟨c,rfl,hA⟩,hfit, ?_⟩,fun x2 k m3 I5 F5 l5 ⟨hF,y',hy',h0,h1,hm,⟨c2,hc2,hA2⟩,_,he2⟩=>⟨fun hlt2=>?_,fun hlt2=>⟨(s.states.length-(i+1)).toNat,by omega, ?_⟩⟩⟩⟩
  ·rw[ge];unfold thenT;rw[firstT];rfl
  ·subst hF
   obtain rfl:y=y':=by rw[hy] at hy';exact Option.some.inj hy'
   obtain rfl:c=c2:=by simpa using hc2
   have hlt2:=of_decide_eq_true hlt2
   have l5':=Imm.le_trans l l5
   have hyo:y.Ok I5 ((b_s,Obj.cells #[.string s.name,.slice s.ra s.regs.length s.rc,.slice s.sa s.slots.length s.sc,.slice s.ta s.states.length s.tc] 39 (0,0))::(b_x,Obj.cells #[.string y.name,.slice y.a y.rules.length y.c,.int .i64 y.pos] 65 (0,0))::F5):=(hok.state y hym).mono l5' fun z hz=>.tail _ (.tail _ hz)
   obtain⟨ad1,r,had1,hr,hrd1,hrm⟩:=SlG.atm hyo.1 h0 hlt2
   obtain⟨hk3,hrk⟩:=List.getElem?_eq_some_iff.1 hr
   rw[List.drop_eq_getElem_cons hk3,hrk,List.map_cons,firstT] at he2
   have hdl:=(hlr r.p (List.mem_map_of_mem hrm)).2.1
   simp only[RuleN.p,List.length_map] at hdl
   refine⟨⟨h0,hlt2⟩,ad1,had1,_,_,_,_,_,_,_,_,_,_,_,_,_,_,hrd1,fun b_r=>?_⟩
   refine Tri.retV (prule_spec (hg.mono l5') hA2 r ((hyo.2 r hrm).mono (Imm.le_refl _) fun z hz=>by
    rcases List.mem_cons.1 hz with rfl | hz
    ·exact .head _
    ·rcases List.mem_cons.1 hz with rfl | hz
     ·exact .tail _ (.head _)
     ·exact .tail _ (.tail _ (.tail _ hz))) (hfit y hym r hrm) hdl) fun v2 I6 l6 hv2=>⟨v2,rfl,F5,.refl _,_,ChkE.neq hv2 (by kernel_rfl),fun hq=>?_,fun hq=>⟨(y.rules.length-(k+1)).toNat,by omega, ?_⟩⟩
   ·have hq:(ruleT s.p r.p).e≠0:=by simpa using hq
    rw[he2,if_pos hq,thenT_e _ hq]
    exact⟨v2,rfl,hv2,rfl⟩
   ·have hq:(ruleT s.p r.p).e=0:=by simpa using hq
    rw[if_neg (by simpa using hq)] at he2
    rw[w64 (n:=k+1) (by omega)]
    refine⟨rfl,y,hy,by omega,by omega,rfl,⟨c,rfl,hA2.mono l6⟩,hfit, ?_⟩
    rw[he2,show (k+1).toNat=k.toNat+1 by omega]
  ·subst hF
   obtain rfl:y=y':=by rw[hy] at hy';exact Option.some.inj hy'
   obtain rfl:c=c2:=by simpa using hc2
   have hlt2:=of_decide_eq_false hlt2
   rw[List.drop_eq_nil_of_le (by omega),List.map_nil,firstT,thenT_z _ rfl] at he2
   rw[w64 (n:=i+1) (by omega)]
   refine⟨rfl,by omega,by omega,rfl,⟨c,rfl,hA2⟩,hfit, ?_⟩
   rw[he2,show (i+1).toNat=i.toNat+1 by omega]
 ·subst gF
  have hlt:=of_decide_eq_false hlt
  rw[List.drop_eq_nil_of_le (by omega),List.map_nil,firstT] at ge
  rw[ge];exact⟨_,rfl,ChkE.ok,rfl⟩
end Go.Lx
namespace Go.Lx
open Go.Vc Go.Proofs.Tryz
def shT_y2:List (Nat×List Sh):=[(3,[.one (.int .i64)]),(4,[.one .bool]),(47,[.one (.int .i64)]),(89,[.one .ptr])]
def parse_Wrong.V(vi:Int→Value)(vp:OA→Value)(b:Value)(I:Imm)(F:Heap)(Q:PostQ)  : Prop:=∃q:Bool,BinRun P .eql 44 (.tmp 7) (.const (Value.nilIface)) b Value.nilIface q∧(It q (Q (.returned (.tuple #[vi 0,vi 0])) I F) (∀a:Nat,∃(cs:List Value) (el:Nat) (F1:Heap),List.Perm ((a,Obj.cells #[vi 0] 47 (0,0))::F) (((⟨a,0,none⟩:Addr).block,Obj.cells cs.toArray el (0,0))::F1)∧(⟨a,0,none⟩:Addr).spot=none∧(⟨a,0,none⟩:Addr).off+1≤cs.length∧∀c:Nat,Tri P 44 (#[b,Value.iface 91 (vp (some (⟨c,0,none⟩:Addr)))]) I (((c,Obj.cells #[vp none] 89 (0,0))::(((⟨a,0,none⟩:Addr).block,Obj.cells (splice (⟨a,0,none⟩:Addr).off [vi (-1)] cs).toArray el (0,0))::F1))) fun e1 I1 G1=>∃(r:Bool),e1=.returned (.bool r)∧∃F2:Heap,List.Perm G1 F2∧(It r (∃(m:OA),Rd I1 F2 (⟨c,0,none⟩:Addr) [vp m]∧∃ad:Addr,m=some ad∧∃(m1:Int),Rd I1 F2 (ad.add 1) [vi m1]∧Tc1 P 44 (#[b,Value.iface 94 (vp (some (⟨a,0,none⟩:Addr)))]) I1 (·) F2 .bool fun r1 I2 F3=>∃(m2:Int),Rd I2 F3 (⟨a,0,none⟩:Addr) [vi m2]∧Q (.returned (.tuple #[vi m2,vi m1])) I2 F3) (Tc1 P 44 (#[b,Value.iface 94 (vp (some (⟨a,0,none⟩:Addr)))]) I1 (·) F2 .bool fun r2 I3 F4=>∃(m3:Int),Rd I3 F4 (⟨a,0,none⟩:Addr) [vi m3]∧Q (.returned (.tuple #[vi m3,vi 0])) I3 F4))))
theorem parse_Wrong.vc{a:Value}{I:Imm}{F:Heap}{Q:PostQ}  (h:parse_Wrong.V (.int .i64) .pointer a I F Q):Tri P 20 #[a] I F Q :=
 tw (A:=(annL [1001,5002] [] [44] shT_y2 [] [] [3000,4000] [] [] [] [])) [44] func20 h
end Go.Lx
namespace Go.Lx
open Go.Vc
def TF.w(f:TF):Value:=.tuple #[.int .i64 f.e,.int .i64 f.pos]
end Go.Lx
namespace Go.Lx
open Go.Vc Go.Proofs.Tryz
def shT_y3:List (Nat×List Sh):=[(28,[.agg [(.int .u8),(.int .u8),(.int .u8),(.int .i64),(.int .u8),.str,.slc,(.int .i64)]]),(35,[.one .slc]),(36,[.one .slc]),(37,[.one .slc]),(63,[.one .slc]),(65,[.agg [.str,.slc,(.int .i64)]]),(77,[.agg [.str,(.int .u8),(.int .u8),(.int .u8),(.int .u8),(.int .i64),(.int .u8),.str,.slc,(.int .i64),(.int .i64)]]),(82,[.one .slc]),(84,[.agg [(.int .u8),(.int .u8),(.int .u8),(.int .i64),(.int .u8),.str,.slc,(.int .i64),.slc,(.int .i64)]]),(99,[.agg [(.int .u8),(.int .u8),.str,(.int .u8),(.int .u8),(.int .u8),(.int .i64),(.int .u8),.str,.slc,(.int .i64),(.int .u8),(.int .u8),(.int .u8),(.int .i64),(.int .u8),.str,.slc,(.int .i64),(.int .u8),(.int .u8),(.int .u8),(.int .i64),(.int .u8),.str,.slc,(.int .i64),(.int .u8),(.int .u8),(.int .u8),(.int .i64),(.int .u8),.str,.slc,(.int .i64),(.int .i64)]])]
def ref00_CopyStrategy.V(y:Nat→Nat×Obj)(nV:Int→Int→Int→Int→Int→Bs→OA→Nat→Nat→Int→Value)(vb vi:Int→Value)(vs:Bs→Value)(vl:OA→Nat→Nat→Value)(a3:Bs)(aU:OA)(al a4:Nat)(aV:OA)(aW aX:Nat)(aY:OA)(am a5:Nat)(I:Imm)(F:Heap)(Q:PostQ)(Inv8:Int→Bs→OA→Nat→Nat→OA→Nat→Nat→OA→Nat→Nat→Nat→Imm→Heap→Prop)(Inv29:Int→Bs→OA→Nat→Nat→OA→Nat→Nat→OA→Nat→Nat→Nat→Imm→Heap→Prop):Prop:=∀z:Nat,∀b:Nat,∀aa:Nat,(∃m:Nat,Inv8 0 a3 none 0 0 none 0 0 none 0 0 m I F)∧∀(i:Int) (w:Bs) (a:OA) (c d:Nat) (e:OA) (f g:Nat) (h:OA) (j k m1:Nat) (I1:Imm) (F1:Heap),Imm.le I I1→Inv8 i w a c d e f g h j k m1 I1 F1→((decide (i<(al:Int))=true→((0≤i∧i<(al:Int))∧∃ad:Addr,aU=some ad∧∃(aj:Bs) (ak an ao ap aq ar:Int) (au:Bs) (ac:OA) (ae af:Nat) (av ab:Int),Rd I1 ((y z)::(b,Obj.cells #[vs (⟨#[]⟩:Bs),vl none 0 0,vl none 0 0,vl none 0 0] 39 (0,0))::(aa,Obj.cells #[vs w,vl a c d,vl e f g,vl h j k] 39 (0,0))::F1) (ad.add (Int.toNat i*11)) [vs aj,vb ak,vb an,vb ao,vb ap,vi aq,vb ar,vs au,vl ac ae af,vi av,vi ab]∧∀aJ:Nat,Tri P 50 #[nV an ao ap aq ar au ac ae af av] I1 ((y z)::(b,Obj.cells #[vs (⟨#[]⟩:Bs),vl none 0 0,vl none 0 0,vl none 0 0] 39 (0,0))::(aa,Obj.cells #[vs w,vl a c d,vl e f g,vl h j k] 39 (0,0))::(aJ,Obj.cells #[vs aj,vb ak,vb an,vb ao,vb ap,vi aq,vb ar,vs au,vl ac ae af,vi av,vi ab] 77 (0,0))::F1) fun e1 I2 G1=>∃(aw ax ay az aA:Int) (aB:Bs) (ag:OA) (ah ai:Nat) (aC:Int),e1=.returned (nV aw ax ay az aA aB ag ah ai aC)∧∃F2:Heap,List.Perm G1 ((y z)::(b,Obj.cells #[vs (⟨#[]⟩:Bs),vl none 0 0,vl none 0 0,vl none 0 0] 39 (0,0))::(aa,Obj.cells #[vs w,vl a c d,vl e f g,vl h j k] 39 (0,0))::(aJ,Obj.cells #[vs aj,vb ak,vb an,vb ao,vb ap,vi aq,vb ar,vs au,vl ac ae af,vi av,vi ab] 77 (0,0))::F2)∧∀(b1:Nat) (I3:Imm),Imm.le I2 I3→I3 b1=some (Obj.cells #[vs aj,vb ak,vb aw,vb ax,vb ay,vi az,vb aA,vs aB,vl ag ah ai,vi aC,vi ab] 77 (0,0))→TriE P (Builtin.append_ #[35,35] 35 #[vl a c d,vl (some ⟨b1,0,none⟩) 1 1]) I3 ((y z)::(b,Obj.cells #[vs (⟨#[]⟩:Bs),vl none 0 0,vl none 0 0,vl none 0 0] 39 (0,0))::(aa,Obj.cells #[vs w,vl a c d,vl e f g,vl h j k] 39 (0,0))::(aJ,Obj.cells #[vs aj,vb ak,vb aw,vb ax,vb ay,vi az,vb aA,vs aB,vl ag ah ai,vi aC,vi ab] 77 (0,0))::F2) fun v I4 G2=>∃(aZ:OA) (a0 a1:Nat),v=vl aZ a0 a1∧∃F3:Heap,List.Perm G2 ((y z)::(b,Obj.cells #[vs (⟨#[]⟩:Bs),vl none 0 0,vl none 0 0,vl none 0 0] 39 (0,0))::(aa,Obj.cells #[vs w,vl a c d,vl e f g,vl h j k] 39 (0,0))::(aJ,Obj.cells #[vs aj,vb ak,vb aw,vb ax,vb ay,vi az,vb aA,vs aB,vl ag ah ai,vi aC,vi ab] 77 (0,0))::F3)∧(∃m2:Nat,m2<m1∧Inv8 (IntKind.wrap .i64 (i+1)) w aZ a0 a1 e f g h j k m2 I4 F3)))∧(decide (i<(al:Int))=false→TriE P (Builtin.append_ #[36,36] 36 #[vl e f g,vl aV aW aX]) I1 ((y z)::(b,Obj.cells #[vs (⟨#[]⟩:Bs),vl none 0 0,vl none 0 0,vl none 0 0] 39 (0,0))::(aa,Obj.cells #[vs w,vl a c d,vl e f g,vl h j k] 39 (0,0))::F1) fun v1 I5 G3=>∃(aK:OA) (aL aM:Nat),v1=vl aK aL aM∧∃F4:Heap,List.Perm G3 ((y z)::(b,Obj.cells #[vs (⟨#[]⟩:Bs),vl none 0 0,vl none 0 0,vl none 0 0] 39 (0,0))::(aa,Obj.cells #[vs w,vl a c d,vl e f g,vl h j k] 39 (0,0))::F4)∧(∃m3:Nat,Inv29 0 w a c d aK aL aM h j k m3 I5 F4)∧∀(i1:Int) (x:Bs) (l:OA) (n o:Nat) (p:OA) (q r:Nat) (s:OA) (t u m4:Nat) (I6:Imm) (F5:Heap),Imm.le I5 I6→Inv29 i1 x l n o p q r s t u m4 I6 F5→((decide (i1<(am:Int))=true→((0≤i1∧i1<(am:Int))∧∃a2:Addr,aY=some a2∧∃(aN:Bs) (aD:OA) (aE aF:Nat) (aO:Int),Rd I6 ((y z)::(b,Obj.cells #[vs (⟨#[]⟩:Bs),vl none 0 0,vl none 0 0,vl none 0 0] 39 (0,0))::(aa,Obj.cells #[vs x,vl l n o,vl p q r,vl s t u] 39 (0,0))::F5) (a2.add (Int.toNat i1*3)) [vs aN,vl aD aE aF,vi aO]∧Tri P 51 #[.agg #[vs aN,vl aD aE aF,vi aO]] I6 ((y z)::(b,Obj.cells #[vs (⟨#[]⟩:Bs),vl none 0 0,vl none 0 0,vl none 0 0] 39 (0,0))::(aa,Obj.cells #[vs x,vl l n o,vl p q r,vl s t u] 39 (0,0))::F5) fun e2 I7 G4=>∃(aP:Bs) (aG:OA) (aH aI:Nat) (aQ:Int),e2=.returned (.agg #[vs aP,vl aG aH aI,vi aQ])∧∃F6:Heap,List.Perm G4 ((y z)::(b,Obj.cells #[vs (⟨#[]⟩:Bs),vl none 0 0,vl none 0 0,vl none 0 0] 39 (0,0))::(aa,Obj.cells #[vs x,vl l n o,vl p q r,vl s t u] 39 (0,0))::F6)∧∀(b2:Nat) (I8:Imm),Imm.le I7 I8→I8 b2=some (Obj.cells #[vs aP,vl aG aH aI,vi aQ] 65 (0,0))→TriE P (Builtin.append_ #[37,37] 37 #[vl s t u,vl (some ⟨b2,0,none⟩) 1 1]) I8 ((y z)::(b,Obj.cells #[vs (⟨#[]⟩:Bs),vl none 0 0,vl none 0 0,vl none 0 0] 39 (0,0))::(aa,Obj.cells #[vs x,vl l n o,vl p q r,vl s t u] 39 (0,0))::F6) fun v2 I9 G5=>∃(aR:OA) (aS aT:Nat),v2=vl aR aS aT∧∃F7:Heap,List.Perm G5 ((y z)::(b,Obj.cells #[vs (⟨#[]⟩:Bs),vl none 0 0,vl none 0 0,vl none 0 0] 39 (0,0))::(aa,Obj.cells #[vs x,vl l n o,vl p q r,vl s t u] 39 (0,0))::F7)∧(∃m5:Nat,m5<m4∧Inv29 (IntKind.wrap .i64 (i1+1)) x l n o p q r aR aS aT m5 I9 F7)))∧(decide (i1<(am:Int))=false→Q (.returned (.agg #[vs x,vl l n o,vl p q r,vl s t u])) I6 F5))))
theorem ref00_CopyStrategy.vc{w:Bs}{d:OA}{e g:Nat}{i:OA}{j p:Nat}{r:OA}{u v:Nat}{I:Imm}{F:Heap}{Q:PostQ}(Inv8:Int→Bs→OA→Nat→Nat→OA→Nat→Nat→OA→Nat→Nat→Nat→Imm→Heap→Prop)(Inv29:Int→Bs→OA→Nat→Nat→OA→Nat→Nat→OA→Nat→Nat→Nat→Imm→Heap→Prop)(h:ref00_CopyStrategy.V (fun b=>(b,Obj.cells #[.string w,.slice d e g,.slice i j p,.slice r u v] 39 (0,0))) (fun k o t n f s a l c q=>.agg #[.int .u8 k,.int .u8 o,.int .u8 t,.int .i64 n,.int .u8 f,.string s,.slice a l c,.int .i64 q]) (.int .u8) (.int .i64) .string .slice w d e g i j p r u v I F Q Inv8 Inv29):Tri P 27 #[.agg #[.string w,.slice d e g,.slice i j p,.slice r u v]] I F Q :=
 tw (A:=(annL [3004,10004] [] [50,51] shT_y3 [(8,⟨[(4,(.int .i64))],[(2,[.str,.slc,.slc,.slc])],fun _ _ _ vs m I F=>match vs with | [.int _ y0,.string y1,.slice y2 y3 y4,.slice y5 y6 y7,.slice y8 y9 y10]=>Inv8 y0 y1 y2 y3 y4 y5 y6 y7 y8 y9 y10 m I F | _=>False,[],[]⟩),(29,⟨[(6,(.int .i64))],[(2,[.str,.slc,.slc,.slc])],fun _ _ _ vs m I F=>match vs with | [.int _ y0,.string y1,.slice y2 y3 y4,.slice y5 y6 y7,.slice y8 y9 y10]=>Inv29 y0 y1 y2 y3 y4 y5 y6 y7 y8 y9 y10 m I F | _=>False,[],[]⟩)] [7003,12008] [] [] [] [(12,[0,2,4,1,3,5,6,7,8,9,10,11])] [] [] [(12,[1],11)])) [50,51] func27 h
def ref00_copyState.V(s:Nat→Nat×Obj)(nV:Int→Int→Int→Int→Int→Bs→OA→Nat→Nat→Int→Value)(vb vi:Int→Value)(vs:Bs→Value)(vl:OA→Nat→Nat→Value)(bZ:Bs)(bJ:OA)(w b3:Nat)(b0:Int)(I:Imm)(F:Heap)(Q:PostQ)(Inv8:OA→Nat→Nat→Int→Nat→Imm→Heap→Imm→Heap→Prop)(Inv25:Int→OA→Nat→Nat→Int→Nat→Imm→Heap→Imm→Heap→Prop):Prop:=∀t:Nat,∀b:Nat,(∃m:Nat,Inv8 none 0 0 0 m I F I F)∧∀(aH:OA) (aI aJ:Nat) (i:Int) (m1:Nat) (I1:Imm) (F1:Heap),Imm.le I I1→Inv8 aH aI aJ i m1 I F I1 F1→((decide (i<(w:Int))=true→((0≤i∧i<(w:Int))∧∃ad:Addr,bJ=some ad∧∃(h j l n o:Int) (p:Bs) (c:OA) (d e:Nat) (q:Int) (f:OA) (a g:Nat) (r:Int),Rd I1 ((s t)::(b,Obj.cells #[vs (⟨#[]⟩:Bs),vl none 0 0,vi 0] 65 (0,0))::F1) (ad.add (Int.toNat i*10)) [vb h,vb j,vb l,vi n,vb o,vs p,vl c d e,vi q,vl f a g,vi r]∧∀u:Nat,(∃m2:Nat,Inv25 i none 0 0 0 m2 I1 F1 I1 F1)∧∀(x:OA) (y z:Nat) (k:Int) (m3:Nat) (I2:Imm) (F2:Heap),Imm.le I1 I2→Inv25 i x y z k m3 I1 F1 I2 F2→((decide (k<(a:Int))=true→((0≤k∧k<(a:Int))∧∃bY:Addr,f=some bY∧∃(aK aL:Int) (aM:Bs) (aN aO aP bK aQ:Int) (bL:Bs) (av:OA) (aw ax:Nat) (aR ay aS aT aU aV:Int) (aW:Bs) (aa:OA) (ab ac:Nat) (aX aY aZ az a0 a1:Int) (a2:Bs) (ae:OA) (af ag:Nat) (a3 a4 a5 a6 a7 aA:Int) (a8:Bs) (ah:OA) (ai aj:Nat) (a9 ba:Int),Rd I2 ((s t)::(b,Obj.cells #[vs (⟨#[]⟩:Bs),vl none 0 0,vi 0] 65 (0,0))::(u,Obj.cells #[vb h,vb j,vb l,vi n,vb o,vs p,vl c d e,vi q,vl f a g,vi r] 84 (0,0))::F2) (bY.add (Int.toNat k*36)) [vb aK,vb aL,vs aM,vb aN,vb aO,vb aP,vi bK,vb aQ,vs bL,vl av aw ax,vi aR,vb ay,vb aS,vb aT,vi aU,vb aV,vs aW,vl aa ab ac,vi aX,vb aY,vb aZ,vb az,vi a0,vb a1,vs a2,vl ae af ag,vi a3,vb a4,vb a5,vb a6,vi a7,vb aA,vs a8,vl ah ai aj,vi a9,vi ba]∧Tri P 83 #[.agg #[vb aK,vb aL,vs aM,vb aN,vb aO,vb aP,vi bK,vb aQ,vs bL,vl av aw ax,vi aR,vb ay,vb aS,vb aT,vi aU,vb aV,vs aW,vl aa ab ac,vi aX,vb aY,vb aZ,vb az,vi a0,vb a1,vs a2,vl ae af ag,vi a3,vb a4,vb a5,vb a6,vi a7,vb aA,vs a8,vl ah ai aj,vi a9,vi ba]] I2 ((s t)::(b,Obj.cells #[vs (⟨#[]⟩:Bs),vl none 0 0,vi 0] 65 (0,0))::(u,Obj.cells #[vb h,vb j,vb l,vi n,vb o,vs p,vl c d e,vi q,vl f a g,vi r] 84 (0,0))::F2) fun e1 I3 G1=>∃(bM bN:Int) (bO:Bs) (bP bQ bR bS bT:Int) (bU:Bs) (aB:OA) (aC aD:Nat) (bb bc bd be bf bg:Int) (bh:Bs) (ak:OA) (al am:Nat) (bi bj bk bl bm bn:Int) (bo:Bs) (an:OA) (ao ap:Nat) (bp bq br bs bt bu:Int) (bv:Bs) (aq:OA) (ar au:Nat) (bw bx:Int),e1=.returned (.agg #[vb bM,vb bN,vs bO,vb bP,vb bQ,vb bR,vi bS,vb bT,vs bU,vl aB aC aD,vi bb,vb bc,vb bd,vb be,vi bf,vb bg,vs bh,vl ak al am,vi bi,vb bj,vb bk,vb bl,vi bm,vb bn,vs bo,vl an ao ap,vi bp,vb bq,vb br,vb bs,vi bt,vb bu,vs bv,vl aq ar au,vi bw,vi bx])∧∃F3:Heap,List.Perm G1 ((s t)::(b,Obj.cells #[vs (⟨#[]⟩:Bs),vl none 0 0,vi 0] 65 (0,0))::(u,Obj.cells #[vb h,vb j,vb l,vi n,vb o,vs p,vl c d e,vi q,vl f a g,vi r] 84 (0,0))::F3)∧∀(b1:Nat) (I4:Imm),Imm.le I3 I4→I4 b1=some (Obj.cells #[vb bM,vb bN,vs bO,vb bP,vb bQ,vb bR,vi bS,vb bT,vs bU,vl aB aC aD,vi bb,vb bc,vb bd,vb be,vi bf,vb bg,vs bh,vl ak al am,vi bi,vb bj,vb bk,vb bl,vi bm,vb bn,vs bo,vl an ao ap,vi bp,vb bq,vb br,vb bs,vi bt,vb bu,vs bv,vl aq ar au,vi bw,vi bx] 99 (0,0))→TriE P (Builtin.append_ #[82,82] 82 #[vl x y z,vl (some ⟨b1,0,none⟩) 1 1]) I4 ((s t)::(b,Obj.cells #[vs (⟨#[]⟩:Bs),vl none 0 0,vi 0] 65 (0,0))::(u,Obj.cells #[vb h,vb j,vb l,vi n,vb o,vs p,vl c d e,vi q,vl f a g,vi r] 84 (0,0))::F3) fun v I5 G2=>∃(bV:OA) (bW bX:Nat),v=vl bV bW bX∧∃F4:Heap,List.Perm G2 ((s t)::(b,Obj.cells #[vs (⟨#[]⟩:Bs),vl none 0 0,vi 0] 65 (0,0))::(u,Obj.cells #[vb h,vb j,vb l,vi n,vb o,vs p,vl c d e,vi q,vl f a g,vi r] 84 (0,0))::F4)∧(∃m4:Nat,m4<m3∧Inv25 i bV bW bX (IntKind.wrap .i64 (k+1)) m4 I1 F1 I5 F4)))∧(decide (k<(a:Int))=false→Tri P 50 #[nV h j l n o p c d e q] I2 ((s t)::(b,Obj.cells #[vs (⟨#[]⟩:Bs),vl none 0 0,vi 0] 65 (0,0))::(u,Obj.cells #[vb h,vb j,vb l,vi n,vb o,vs p,vl c d e,vi q,vl f a g,vi r] 84 (0,0))::F2) fun e2 I6 G3=>∃(bz bA bB bC bD:Int) (bE:Bs) (aE:OA) (aF aG:Nat) (bF:Int),e2=.returned (nV bz bA bB bC bD bE aE aF aG bF)∧∃F5:Heap,List.Perm G3 ((s t)::(b,Obj.cells #[vs (⟨#[]⟩:Bs),vl none 0 0,vi 0] 65 (0,0))::(u,Obj.cells #[vb h,vb j,vb l,vi n,vb o,vs p,vl c d e,vi q,vl f a g,vi r] 84 (0,0))::F5)∧∀(b2:Nat) (I7:Imm),Imm.le I6 I7→I7 b2=some (Obj.cells #[vb bz,vb bA,vb bB,vi bC,vb bD,vs bE,vl aE aF aG,vi bF,vl x y z,vi r] 84 (0,0))→TriE P (Builtin.append_ #[63,63] 63 #[vl aH aI aJ,vl (some ⟨b2,0,none⟩) 1 1]) I7 ((s t)::(b,Obj.cells #[vs (⟨#[]⟩:Bs),vl none 0 0,vi 0] 65 (0,0))::(u,Obj.cells #[vb h,vb j,vb l,vi n,vb o,vs p,vl c d e,vi q,vl f a g,vi r] 84 (0,0))::F5) fun v1 I8 G4=>∃(bG:OA) (bH bI:Nat),v1=vl bG bH bI∧∃F6:Heap,List.Perm G4 ((s t)::(b,Obj.cells #[vs (⟨#[]⟩:Bs),vl none 0 0,vi 0] 65 (0,0))::(u,Obj.cells #[vb h,vb j,vb l,vi n,vb o,vs p,vl c d e,vi q,vl f a g,vi r] 84 (0,0))::F6)∧(∃m5:Nat,m5<m1∧Inv8 bG bH bI (IntKind.wrap .i64 (i+1)) m5 I F I8 F6)))))∧(decide (i<(w:Int))=false→Q (.returned (.agg #[vs bZ,vl aH aI aJ,vi b0])) I1 F1))
theorem ref00_copyState.vc{i:Bs}{d:OA}{e g:Nat}{j:Int}{I:Imm}{F:Heap}{Q:PostQ}(Inv8:OA→Nat→Nat→Int→Nat→Imm→Heap→Imm→Heap→Prop)(Inv25:Int→OA→Nat→Nat→Int→Nat→Imm→Heap→Imm→Heap→Prop)(h:ref00_copyState.V (fun b=>(b,Obj.cells #[.string i,.slice d e g,.int .i64 j] 65 (0,0))) (fun k o t n f s a l c q=>.agg #[.int .u8 k,.int .u8 o,.int .u8 t,.int .i64 n,.int .u8 f,.string s,.slice a l c,.int .i64 q]) (.int .u8) (.int .i64) .string .slice i d e g j I F Q Inv8 Inv25):Tri P 51 #[.agg #[.string i,.slice d e g,.int .i64 j]] I F Q :=
 tw (A:=(annL [3004,8004] [] [50,83] shT_y3 [(8,⟨[(3,.slc),(4,(.int .i64))],[],fun fs I0 F0 vs m I F=>match fs,vs with | [],[.slice y0 y1 y2,.int _ y3]=>Inv8 y0 y1 y2 y3 m I0 F0 I F | _,_=>False,[],[]⟩),(25,⟨[(6,.slc),(7,(.int .i64))],[],fun fs I0 F0 vs m I F=>match fs,vs with | [.int _ y0],[.slice y1 y2 y3,.int _ y4]=>Inv25 y0 y1 y2 y3 y4 m I0 F0 I F | _,_=>False,[4],[]⟩)] [10007,11008] [] [] [] [(11,[0,1,4,5,6,2,3,7,8,9,10])] [] [] [(11,[6],11)])) [50,83] func51 h
def ref00_copyDo.V(nV:Int→Int→Int→Int→Int→Bs→OA→Nat→Nat→Int→Value)(vb vi:Int→Value)(vs:Bs→Value)(vl:OA→Nat→Nat→Value)(af ag:Int)(ah:Bs)(aX aY aZ a0 a1:Int)(a2:Bs)(aJ:OA)(aK aL:Nat)(aW aC aD aE aF aG:Int)(aH:Bs)(v:OA)(w x:Nat)(aI y z aa ab ac:Int)(ad:Bs)(e:OA)(f g:Nat)(ae n o p q r:Int)(s:Bs)(a:OA)(c d:Nat)(t u:Int)(I:Imm)(F:Heap)(Q:PostQ)  : Prop:=∀aB:Nat,∀b:Nat,Tri P 50 #[nV aX aY aZ a0 a1 a2 aJ aK aL aW] I ((aB,Obj.cells #[vb af,vb ag,vs ah,vb aX,vb aY,vb aZ,vi a0,vb a1,vs a2,vl aJ aK aL,vi aW,vb aC,vb aD,vb aE,vi aF,vb aG,vs aH,vl v w x,vi aI,vb y,vb z,vb aa,vi ab,vb ac,vs ad,vl e f g,vi ae,vb n,vb o,vb p,vi q,vb r,vs s,vl a c d,vi t,vi u] 99 (0,0))::(b,Obj.cells #[vb 0,vb 0,vs (⟨#[]⟩:Bs),vb 0,vb 0,vb 0,vi 0,vb 0,vs (⟨#[]⟩:Bs),vl none 0 0,vi 0,vb 0,vb 0,vb 0,vi 0,vb 0,vs (⟨#[]⟩:Bs),vl none 0 0,vi 0,vb 0,vb 0,vb 0,vi 0,vb 0,vs (⟨#[]⟩:Bs),vl none 0 0,vi 0,vb 0,vb 0,vb 0,vi 0,vb 0,vs (⟨#[]⟩:Bs),vl none 0 0,vi 0,vi 0] 99 (0,0))::F) fun e1 I1 G1=>∃(au av aw ax ay:Int) (az:Bs) (h:OA) (i j:Nat) (aA:Int),e1=.returned (nV au av aw ax ay az h i j aA)∧∃F1:Heap,List.Perm G1 ((aB,Obj.cells #[vb af,vb ag,vs ah,vb aX,vb aY,vb aZ,vi a0,vb a1,vs a2,vl aJ aK aL,vi aW,vb aC,vb aD,vb aE,vi aF,vb aG,vs aH,vl v w x,vi aI,vb y,vb z,vb aa,vi ab,vb ac,vs ad,vl e f g,vi ae,vb n,vb o,vb p,vi q,vb r,vs s,vl a c d,vi t,vi u] 99 (0,0))::(b,Obj.cells #[vb 0,vb 0,vs (⟨#[]⟩:Bs),vb 0,vb 0,vb 0,vi 0,vb 0,vs (⟨#[]⟩:Bs),vl none 0 0,vi 0,vb 0,vb 0,vb 0,vi 0,vb 0,vs (⟨#[]⟩:Bs),vl none 0 0,vi 0,vb 0,vb 0,vb 0,vi 0,vb 0,vs (⟨#[]⟩:Bs),vl none 0 0,vi 0,vb 0,vb 0,vb 0,vi 0,vb 0,vs (⟨#[]⟩:Bs),vl none 0 0,vi 0,vi 0] 99 (0,0))::F1)∧Tri P 50 #[nV aC aD aE aF aG aH v w x aI] I1 ((aB,Obj.cells #[vb af,vb ag,vs ah,vb au,vb av,vb aw,vi ax,vb ay,vs az,vl h i j,vi aA,vb aC,vb aD,vb aE,vi aF,vb aG,vs aH,vl v w x,vi aI,vb y,vb z,vb aa,vi ab,vb ac,vs ad,vl e f g,vi ae,vb n,vb o,vb p,vi q,vb r,vs s,vl a c d,vi t,vi u] 99 (0,0))::(b,Obj.cells #[vb 0,vb 0,vs (⟨#[]⟩:Bs),vb 0,vb 0,vb 0,vi 0,vb 0,vs (⟨#[]⟩:Bs),vl none 0 0,vi 0,vb 0,vb 0,vb 0,vi 0,vb 0,vs (⟨#[]⟩:Bs),vl none 0 0,vi 0,vb 0,vb 0,vb 0,vi 0,vb 0,vs (⟨#[]⟩:Bs),vl none 0 0,vi 0,vb 0,vb 0,vb 0,vi 0,vb 0,vs (⟨#[]⟩:Bs),vl none 0 0,vi 0,vi 0] 99 (0,0))::F1) fun e2 I2 G2=>∃(al am an ao ap:Int) (aq:Bs) (k:OA) (l m:Nat) (ar:Int),e2=.returned (nV al am an ao ap aq k l m ar)∧∃F2:Heap,List.Perm G2 ((aB,Obj.cells #[vb af,vb ag,vs ah,vb au,vb av,vb aw,vi ax,vb ay,vs az,vl h i j,vi aA,vb aC,vb aD,vb aE,vi aF,vb aG,vs aH,vl v w x,vi aI,vb y,vb z,vb aa,vi ab,vb ac,vs ad,vl e f g,vi ae,vb n,vb o,vb p,vi q,vb r,vs s,vl a c d,vi t,vi u] 99 (0,0))::(b,Obj.cells #[vb 0,vb 0,vs (⟨#[]⟩:Bs),vb 0,vb 0,vb 0,vi 0,vb 0,vs (⟨#[]⟩:Bs),vl none 0 0,vi 0,vb 0,vb 0,vb 0,vi 0,vb 0,vs (⟨#[]⟩:Bs),vl none 0 0,vi 0,vb 0,vb 0,vb 0,vi 0,vb 0,vs (⟨#[]⟩:Bs),vl none 0 0,vi 0,vb 0,vb 0,vb 0,vi 0,vb 0,vs (⟨#[]⟩:Bs),vl none 0 0,vi 0,vi 0] 99 (0,0))::F2)∧Tri P 50 #[nV y z aa ab ac ad e f g ae] I2 ((aB,Obj.cells #[vb af,vb ag,vs ah,vb au,vb av,vb aw,vi ax,vb ay,vs az,vl h i j,vi aA,vb al,vb am,vb an,vi ao,vb ap,vs aq,vl k l m,vi ar,vb y,vb z,vb aa,vi ab,vb ac,vs ad,vl e f g,vi ae,vb n,vb o,vb p,vi q,vb r,vs s,vl a c d,vi t,vi u] 99 (0,0))::(b,Obj.cells #[vb 0,vb 0,vs (⟨#[]⟩:Bs),vb 0,vb 0,vb 0,vi 0,vb 0,vs (⟨#[]⟩:Bs),vl none 0 0,vi 0,vb 0,vb 0,vb 0,vi 0,vb 0,vs (⟨#[]⟩:Bs),vl none 0 0,vi 0,vb 0,vb 0,vb 0,vi 0,vb 0,vs (⟨#[]⟩:Bs),vl none 0 0,vi 0,vb 0,vb 0,vb 0,vi 0,vb 0,vs (⟨#[]⟩:Bs),vl none 0 0,vi 0,vi 0] 99 (0,0))::F2) fun e3 I3 G3=>∃(aM aN aO aP aQ:Int) (aR:Bs) (ai:OA) (aj ak:Nat) (aS:Int),e3=.returned (nV aM aN aO aP aQ aR ai aj ak aS)∧∃F3:Heap,List.Perm G3 ((aB,Obj.cells #[vb af,vb ag,vs ah,vb au,vb av,vb aw,vi ax,vb ay,vs az,vl h i j,vi aA,vb al,vb am,vb an,vi ao,vb ap,vs aq,vl k l m,vi ar,vb y,vb z,vb aa,vi ab,vb ac,vs ad,vl e f g,vi ae,vb n,vb o,vb p,vi q,vb r,vs s,vl a c d,vi t,vi u] 99 (0,0))::(b,Obj.cells #[vb 0,vb 0,vs (⟨#[]⟩:Bs),vb 0,vb 0,vb 0,vi 0,vb 0,vs (⟨#[]⟩:Bs),vl none 0 0,vi 0,vb 0,vb 0,vb 0,vi 0,vb 0,vs (⟨#[]⟩:Bs),vl none 0 0,vi 0,vb 0,vb 0,vb 0,vi 0,vb 0,vs (⟨#[]⟩:Bs),vl none 0 0,vi 0,vb 0,vb 0,vb 0,vi 0,vb 0,vs (⟨#[]⟩:Bs),vl none 0 0,vi 0,vi 0] 99 (0,0))::F3)∧Tri P 50 #[nV n o p q r s a c d t] I3 ((aB,Obj.cells #[vb af,vb ag,vs ah,vb au,vb av,vb aw,vi ax,vb ay,vs az,vl h i j,vi aA,vb al,vb am,vb an,vi ao,vb ap,vs aq,vl k l m,vi ar,vb aM,vb aN,vb aO,vi aP,vb aQ,vs aR,vl ai aj ak,vi aS,vb n,vb o,vb p,vi q,vb r,vs s,vl a c d,vi t,vi u] 99 (0,0))::(b,Obj.cells #[vb 0,vb 0,vs (⟨#[]⟩:Bs),vb 0,vb 0,vb 0,vi 0,vb 0,vs (⟨#[]⟩:Bs),vl none 0 0,vi 0,vb 0,vb 0,vb 0,vi 0,vb 0,vs (⟨#[]⟩:Bs),vl none 0 0,vi 0,vb 0,vb 0,vb 0,vi 0,vb 0,vs (⟨#[]⟩:Bs),vl none 0 0,vi 0,vb 0,vb 0,vb 0,vi 0,vb 0,vs (⟨#[]⟩:Bs),vl none 0 0,vi 0,vi 0] 99 (0,0))::F3) fun e4 I4 G4=>∃(a3 a4 a5 a6 a7:Int) (a8:Bs) (aT:OA) (aU aV:Nat) (a9:Int),e4=.returned (nV a3 a4 a5 a6 a7 a8 aT aU aV a9)∧∃F4:Heap,List.Perm G4 ((aB,Obj.cells #[vb af,vb ag,vs ah,vb au,vb av,vb aw,vi ax,vb ay,vs az,vl h i j,vi aA,vb al,vb am,vb an,vi ao,vb ap,vs aq,vl k l m,vi ar,vb aM,vb aN,vb aO,vi aP,vb aQ,vs aR,vl ai aj ak,vi aS,vb n,vb o,vb p,vi q,vb r,vs s,vl a c d,vi t,vi u] 99 (0,0))::(b,Obj.cells #[vb 0,vb 0,vs (⟨#[]⟩:Bs),vb 0,vb 0,vb 0,vi 0,vb 0,vs (⟨#[]⟩:Bs),vl none 0 0,vi 0,vb 0,vb 0,vb 0,vi 0,vb 0,vs (⟨#[]⟩:Bs),vl none 0 0,vi 0,vb 0,vb 0,vb 0,vi 0,vb 0,vs (⟨#[]⟩:Bs),vl none 0 0,vi 0,vb 0,vb 0,vb 0,vi 0,vb 0,vs (⟨#[]⟩:Bs),vl none 0 0,vi 0,vi 0] 99 (0,0))::F4)∧Q (.returned (.agg #[vb af,vb ag,vs ah,vb au,vb av,vb aw,vi ax,vb ay,vs az,vl h i j,vi aA,vb al,vb am,vb an,vi ao,vb ap,vs aq,vl k l m,vi ar,vb aM,vb aN,vb aO,vi aP,vb aQ,vs aR,vl ai aj ak,vi aS,vb a3,vb a4,vb a5,vi a6,vb a7,vs a8,vl aT aU aV,vi a9,vi u])) I4 (F4)
theorem ref00_copyDo.vc{ax ay:Int}{az:Bs}{aA aB aC aD aE:Int}{aF:Bs}{u:OA}{v w:Nat}{x y z aa ab ac:Int}{ad:Bs}{b:OA}{d e:Nat}{ae af ag ah ai aj:Int}{ak:Bs}{g:OA}{i j:Nat}{al am ao ap aq ar:Int}{au:Bs}{m:OA}{p r:Nat}{av aw:Int}{I:Imm}{F:Heap}{Q:PostQ}  (h:ref00_copyDo.V (fun k o t n f s a l c q=>.agg #[.int .u8 k,.int .u8 o,.int .u8 t,.int .i64 n,.int .u8 f,.string s,.slice a l c,.int .i64 q]) (.int .u8) (.int .i64) .string .slice ax ay az aA aB aC aD aE aF u v w x y z aa ab ac ad b d e ae af ag ah ai aj ak g i j al am ao ap aq ar au m p r av aw I F Q):Tri P 83 #[.agg #[.int .u8 ax,.int .u8 ay,.string az,.int .u8 aA,.int .u8 aB,.int .u8 aC,.int .i64 aD,.int .u8 aE,.string aF,.slice u v w,.int .i64 x,.int .u8 y,.int .u8 z,.int .u8 aa,.int .i64 ab,.int .u8 ac,.string ad,.slice b d e,.int .i64 ae,.int .u8 af,.int .u8 ag,.int .u8 ah,.int .i64 ai,.int .u8 aj,.string ak,.slice g i j,.int .i64 al,.int .u8 am,.int .u8 ao,.int .u8 ap,.int .i64 aq,.int .u8 ar,.string au,.slice m p r,.int .i64 av,.int .i64 aw]] I F Q :=
 tw (A:=(an [] [50] shT_y3)) [50] func83 h
end Go.Lx
namespace Go.Lx
open Go.Vc
theorem sub0{F:Heap}:∀x,x∈([]:Heap)→x∈F:=fun x hx=>absurd hx (by simp)
end Go.Lx
namespace Go.Lx
open Go.Vc
def sumW:List Int→Int
 | []=>0
 | x::r=>x+sumW r
def wtF(k:Int)(w:List Int):Int:=if k=7 then at0 w 0+max (at0 w 1) (at0 w 2)+2 else (if k=9 then 0 else 1)+sumW w
namespace Px
mutual
def wt:Px→Int
 | .mk k _ _ _ _ _ l _=>wtF k (wtL l)
def wtL:List Px→List Int
 | []=>[]
 | x::r=>wt x::wtL r
end
theorem wtL_map:∀l:List Px,wtL l=l.map wt
 | []=>by rw[wtL];rfl
 | x::r=>by rw[wtL,wtL_map r];rfl
theorem wt_eq(x:Px):x.wt=wtF x.kind (x.kids.map wt):=by cases x;rw[wt,wtL_map];rfl
theorem wtL_range:∀{l:List Px},(∀k∈l,1≤k.wt∧k.wt+1≤2*k.size)→(l.length:Int)≤sumW (l.map wt)∧sumW (l.map wt)+l.length≤2*sizeL l
 | [],_=>⟨Int.le_refl 0,Int.le_refl 0⟩
 | x::r,h=>by
   have h1:=h x (.head _)
   have h2:=wtL_range fun k hk=>h k (.tail _ hk)
   rw[List.map_cons,sumW,sizeL,List.length_cons]
   omega
theorem wt_range:∀x:Px,x.formed=true→1≤x.wt∧x.wt+1≤2*x.size:=by
 refine ind fun x ih hf=>?_
 have h1:x.oneB=true:=by rw[formed_eq,Bool.and_eq_true] at hf;exact hf.1
 have hl:x.kids.length=arity x:=by
  unfold oneB at h1
  rw[Bool.and_eq_true,decide_eq_true_eq] at h1
  exact h1.2
 have hk:∀k∈x.kids,1≤k.wt∧k.wt+1≤2*k.size:=fun k hm=>ih k hm (formed_kid hf k hm)
 rw[wt_eq,size_eq]
 have hs:=wtL_range hk
 unfold wtF
 by_cases h7:x.kind=7
 ·rw[if_pos h7]
  have h3:x.kids.length=3:=by rw[hl];unfold arity;rw[h7];rfl
  match hx:x.kids,h3 with
  | [a,b,c],_ =>
    rw[hx] at hk
    have ha:=hk a (.head _)
    have hb:=hk b (.tail _ (.head _))
    have hc:=hk c (.tail _ (.tail _ (.head _)))
    rw[sizeL,sizeL,sizeL,sizeL]
    show 1≤a.wt+max b.wt c.wt+2∧a.wt+max b.wt c.wt+2+1≤_
    omega
 ·rw[if_neg h7]
  by_cases h9:x.kind=9
  ·rw[if_pos h9]
   have h1:x.kids.length=1:=by rw[hl];unfold arity;rw[h9];rfl
   omega
  ·rw[if_neg h9];omega
end Px
def partW(x:Px):Int:=if x.kind=0 then 0 else x.wt
def DoP.wt(d:DoP):Int:=partW d.side+partW d.qty+partW d.price+partW d.value
def DoP.act(d:DoP):Int:=if d.kind=1∨d.kind=2∨d.kind=3 then 1 else 0
def RuleP.body(r:RuleP):Int:=sumW (r.dos.map DoP.wt)
def RuleP.acts(r:RuleP):Int:=sumW (r.dos.map DoP.act)
def maxW(m:Int)(l:List Int):Int:=l.foldl max m
def StateP.steps(x:StateP):Int:=sumW (x.rules.map fun r=>r.when.wt)+maxW 0 (x.rules.map RuleP.body)
def StateP.acts(x:StateP):Int:=maxW 0 (x.rules.map RuleP.acts)
end Go.Lx
namespace Go.Lx
open Go.Vc Go.Proofs.Tryz
def shT_c0:List (Nat×List Sh):=[(0,[]),(3,[.one (.int .i64)]),(28,[.agg [(.int .u8),(.int .u8),(.int .u8),(.int .i64),(.int .u8),.str,.slc,(.int .i64)]]),(42,[.one .slc]),(44,[.one .any]),(45,[.one .slc,.one .any]),(47,[.one (.int .i64)]),(57,[.agg [(.int .i64),(.int .i64)]]),(65,[.agg [.str,.slc,(.int .i64)]]),(84,[.agg [(.int .u8),(.int .u8),(.int .u8),(.int .i64),(.int .u8),.str,.slc,(.int .i64),.slc,(.int .i64)]]),(99,[.agg [(.int .u8),(.int .u8),.str,(.int .u8),(.int .u8),(.int .u8),(.int .i64),(.int .u8),.str,.slc,(.int .i64),(.int .u8),(.int .u8),(.int .u8),(.int .i64),(.int .u8),.str,.slc,(.int .i64),(.int .u8),(.int .u8),(.int .u8),(.int .i64),(.int .u8),.str,.slc,(.int .i64),(.int .u8),(.int .u8),(.int .u8),(.int .i64),(.int .u8),.str,.slc,(.int .i64),(.int .i64)]])]
def cost_greatest.V(c:Int)(d:OA)(b e:Nat)(I:Imm)(F:Heap)(Q:PostQ)(Inv6:Int→Int→Nat→Imm→Heap→Prop):Prop:=(∃m:Nat,Inv6 c 0 m I F)∧∀(a x:Int) (m1:Nat) (I1:Imm) (F1:Heap),Imm.le I I1→Inv6 a x m1 I1 F1→(Dt (x<(b:Int)) ((0≤x∧x<(b:Int))∧∃ad:Addr,d=some ad∧∃(m2:Int),Rd I1 F1 (ad.add (Int.toNat x*1)) [.int .i64 m2]∧(∃m3:Nat,m3<m1∧Inv6 (if m2>a then m2 else a) (IntKind.wrap .i64 (x+1)) m3 I1 F1)) (Q (.returned (.int .i64 a)) I1 F1))
theorem cost_greatest.vc{a:Int}{b:OA}{c d:Nat}{I:Imm}{F:Heap}{Q:PostQ}(Inv6:Int→Int→Nat→Imm→Heap→Prop)(h:cost_greatest.V a b c d I F Q Inv6):Tri P 42 #[.int .i64 a,.slice b c d] I F Q :=
 tw (A:=(annL [2000] [] [] shT_c0 [(6,⟨[(0,(.int .i64)),(9,(.int .i64))],[],fun _ _ _ vs m I F=>match vs with | [.int _ y0,.int _ y1]=>Inv6 y0 y1 m I F | _=>False,[],[]⟩)] [] [] [] [] [] [])) [] func42 h
def cost_weight.V(c:Nat→Nat×Obj)(nV:Int→Int→Int→Int→Int→Bs→OA→Nat→Nat→Int→Value)(nO:Int→Int→Int→Int→Int→Bs→OA→Nat→Nat→Int→Obj)(nL:Int→Int→Int→Int→Int→Bs→OA→Nat→Nat→Int→List Value)(vi:Int→Value)(wr:Int→Int)(ab aR aS aT aU:Int)(aV:Bs)(e:OA)(d aQ:Nat)(aW:Int)(I:Imm)(F:Heap)(Q:PostQ)(Inv25:OA→Int→Int→Nat→Imm→Heap→Imm→Heap→Prop):Prop:=∀a:Nat,(It (ab==7) ((0≤(0:Int)∧(0:Int)<(d:Int))∧∃ad:Addr,e=some ad∧((0≤(1:Int)∧(1:Int)<(d:Int))∧∃aL:Addr,e=some aL∧∃(aE aF aG aH aI:Int) (aJ:Bs) (ac:OA) (ae af:Nat) (aK:Int),Rd I ([]) (aL.add (Int.toNat 1*8)) (nL aE aF aG aH aI aJ ac ae af aK)∧((0≤(2:Int)∧(2:Int)<(d:Int))∧∃aM:Addr,e=some aM∧∃(ag ah ai aj ak:Int) (al:Bs) (q:OA) (s t:Nat) (am:Int),Rd I ([]) (aM.add (Int.toNat 2*8)) (nL ag ah ai aj ak al q s t am)∧∃(an ao ap aq ar:Int) (au:Bs) (u:OA) (v w:Nat) (av:Int),Rd I ((c a)::F) (ad.add (Int.toNat 0*8)) (nL an ao ap aq ar au u v w av)∧Tc1 P 32 #[nV an ao ap aq ar au u v w av] I ((c a)::·) F vi fun r I1 F1=>Tc1 P 32 #[nV aE aF aG aH aI aJ ac ae af aK] I1 ((c a)::·) F1 vi fun r1 I2 F2=>Tc1 P 32 #[nV ag ah ai aj ak al q s t am] I2 ((c a)::·) F2 vi fun r2 I3 F3=>∀(b:Nat) (I4:Imm),Imm.le I3 I4→I4 b=some (Obj.cells #[vi r2] 3 (0,0))→Tc1 P 42 (#[vi r1,.slice (some ⟨b,0,none⟩) 1 1]) I4 ((c a)::·) F3 vi fun r3 I5 F4=>Q (.returned (vi (wr ((wr (r+r3))+2)))) I5 F4))) (It (ab==9) ((0≤(0:Int)∧(0:Int)<(d:Int))∧∃aN:Addr,e=some aN∧∃(aw ax ay az aA:Int) (aB:Bs) (y:OA) (z aa:Nat) (aC:Int),Rd I ((c a)::F) (aN.add (Int.toNat 0*8)) (nL aw ax ay az aA aB y z aa aC)∧Tc1 P 32 #[nV aw ax ay az aA aB y z aa aC] I ((c a)::·) F vi fun r4 I6 F5=>Q (.returned (vi r4)) I6 F5) ((∃m:Nat,Inv25 (some ⟨a,0,none⟩) 1 0 m I F I F)∧∀(aD x:Int) (m1:Nat) (I7:Imm) (F6:Heap),Imm.le I I7→Inv25 (some ⟨a,0,none⟩) aD x m1 I F I7 F6→(Dt (x<(d:Int)) ((0≤x∧x<(d:Int))∧∃aO:Addr,e=some aO∧∃(i j k l n:Int) (o:Bs) (f:OA) (g h:Nat) (p:Int),Rd I7 ((c a)::F6) (aO.add (Int.toNat x*8)) (nL i j k l n o f g h p)∧∀aP:Nat,Tc1 P 32 #[nV i j k l n o f g h p] I7 ((c a)::(aP,nO i j k l n o f g h p)::·) F6 vi fun r5 I8 F7=>(∃m2:Nat,m2<m1∧Inv25 (some ⟨a,0,none⟩) (wr (aD+r5)) (wr (x+1)) m2 I F I8 F7)) (Q (.returned (vi aD)) I7 F6)))))
theorem cost_weight.vc{i j p r u:Int}{v:Bs}{d:OA}{e g:Nat}{w:Int}{I:Imm}{F:Heap}{Q:PostQ}(Inv25:OA→Int→Int→Nat→Imm→Heap→Imm→Heap→Prop)(h:cost_weight.V (fun b=>(b,Obj.cells #[.int .u8 i,.int .u8 j,.int .u8 p,.int .i64 r,.int .u8 u,.string v,.slice d e g,.int .i64 w] 28 (0,0))) (fun k o t n f s a l c q=>.agg #[.int .u8 k,.int .u8 o,.int .u8 t,.int .i64 n,.int .u8 f,.string s,.slice a l c,.int .i64 q]) (fun k o t n f s a l c q=>.cells #[.int .u8 k,.int .u8 o,.int .u8 t,.int .i64 n,.int .u8 f,.string s,.slice a l c,.int .i64 q] 28 (0,0)) (fun k o t n f s a l c q=>[.int .u8 k,.int .u8 o,.int .u8 t,.int .i64 n,.int .u8 f,.string s,.slice a l c,.int .i64 q]) (.int .i64) (IntKind.wrap .i64) i j p r u v d e g w I F Q Inv25):Tri P 32 #[.agg #[.int .u8 i,.int .u8 j,.int .u8 p,.int .i64 r,.int .u8 u,.string v,.slice d e g,.int .i64 w]] I F Q :=
 tw (A:=(annL [2000,4000,8000] [] [32,42] shT_c0 [(25,⟨[(3,(.int .i64)),(39,(.int .i64))],[],fun fs I0 F0 vs m I F=>match fs,vs with | [.pointer y0],[.int _ y1,.int _ y2]=>Inv25 y0 y1 y2 m I0 F0 I F | _,_=>False,[1],[]⟩)] [3015] [] [] [] [(3,[0,5,10,1,2,6,7,8,11,12,13,3,4,9,14,15,16,17,18,19])] [] [] [(3,[1,6,8,11,13],20)])) [32,42] func32 h
def cost_Expr.V(a:Nat→Nat×Obj)(nV:Int→Int→Int→Int→Int→Bs→OA→Nat→Nat→Int→Value)(vi:Int→Value)(f g h i j:Int)(k:Bs)(b:OA)(c d:Nat)(l:Int)(I:Imm)(F:Heap)(Q:PostQ)  : Prop:=∀e:Nat,Tc1 P 31 #[nV f g h i j k b c d l] I ((a e)::·) F vi fun r I1 F1=>(It (r==120) (Q (.returned (vi 0)) I1 F1) (Tc1 P 32 #[nV f g h i j k b c d l] I1 ((a e)::·) F1 vi fun r1 I2 F2=>Q (.returned (vi r1)) I2 F2))
theorem cost_Expr.vc{i j m p r:Int}{u:Bs}{d:OA}{e g:Nat}{v:Int}{I:Imm}{F:Heap}{Q:PostQ}  (h:cost_Expr.V (fun b=>(b,Obj.cells #[.int .u8 i,.int .u8 j,.int .u8 m,.int .i64 p,.int .u8 r,.string u,.slice d e g,.int .i64 v] 28 (0,0))) (fun k o t n f s a l c q=>.agg #[.int .u8 k,.int .u8 o,.int .u8 t,.int .i64 n,.int .u8 f,.string s,.slice a l c,.int .i64 q]) (.int .i64) i j m p r u d e g v I F Q):Tri P 12 #[.agg #[.int .u8 i,.int .u8 j,.int .u8 m,.int .i64 p,.int .u8 r,.string u,.slice d e g,.int .i64 v]] I F Q :=
 tw (A:=(an [1002] [31,32] shT_c0)) [31,32] func12 h
def cost_each.V(aG:Nat→Nat×Obj)(nO:Int→Int→Int→Int→Int→Bs→OA→Nat→Nat→Int→Obj)(vb vi:Int→Value)(vs:Bs→Value)(vl:OA→Nat→Nat→Value)(aW aX aY aZ a0:Int)(a1:Bs)(aS:OA)(aT aU:Nat)(a2:Int)(aO:OA)(aq aV:Nat)(a3:Int)(aR:Fn)(aL aM:Array Value)(I:Imm)(F:Heap)(Q:PostQ)(Inv5:Int→Nat→Imm→Heap→Imm→Heap→Prop)(Inv19:Int→Int→Nat→Imm→Heap→Imm→Heap→Prop):Prop:=∀aK:Nat,(∃m:Nat,Inv5 0 m I F I F)∧∀(x:Int) (m1:Nat) (I1:Imm) (F1:Heap),Imm.le I I1→Inv5 x m1 I F I1 F1→(Dt (x<(aq:Int)) ((0≤x∧x<(aq:Int))∧∃ad:Addr,aO=some ad∧∃(aH aI:Int) (aJ:Bs) (aA aB aC aD aE:Int) (aF:Bs) (k:OA) (l n:Nat) (s t u v w y:Int) (z:Bs) (a:OA) (c d:Nat) (aa ab ac ae af ag:Int) (ah:Bs) (e:OA) (f g:Nat) (ai aj ak al am an:Int) (ao:Bs) (h:OA) (i j:Nat) (ap ar:Int),Rd I1 ((aG aK)::F1) (ad.add (Int.toNat x*36)) [vb aH,vb aI,vs aJ,vb aA,vb aB,vb aC,vi aD,vb aE,vs aF,vl k l n,vi s,vb t,vb u,vb v,vi w,vb y,vs z,vl a c d,vi aa,vb ab,vb ac,vb ae,vi af,vb ag,vs ah,vl e f g,vi ai,vb aj,vb ak,vb al,vi am,vb an,vs ao,vl h i j,vi ap,vi ar]∧∀aN:Nat,∀(b:Nat) (I2:Imm),Imm.le I1 I2→I2 b=some (Obj.cells #[vb aA,vb aB,vb aC,vi aD,vb aE,vs aF,vl k l n,vi s,vb t,vb u,vb v,vi w,vb y,vs z,vl a c d,vi aa,vb ab,vb ac,vb ae,vi af,vb ag,vs ah,vl e f g,vi ai,vb aj,vb ak,vb al,vi am,vb an,vs ao,vl h i j,vi ap] 28 (0,0))→(∃m2:Nat,Inv19 x 0 m2 I2 F1 I2 F1)∧∀(x1:Int) (m3:Nat) (I3:Imm) (F2:Heap),Imm.le I2 I3→Inv19 x x1 m3 I2 F1 I3 F2→(Dt (x1<(4:Int)) ((0≤x1∧x1<(4:Int))∧∃aP:Addr,some ⟨b,0,none⟩=some aP∧∃(o au av aw ax:Int) (ay:Bs) (p:OA) (q r:Nat) (az:Int),Rd I3 ((aG aK)::(aN,Obj.cells #[vb aH,vb aI,vs aJ,vb aA,vb aB,vb aC,vi aD,vb aE,vs aF,vl k l n,vi s,vb t,vb u,vb v,vi w,vb y,vs z,vl a c d,vi aa,vb ab,vb ac,vb ae,vi af,vb ag,vs ah,vl e f g,vi ai,vb aj,vb ak,vb al,vi am,vb an,vs ao,vl h i j,vi ap,vi ar] 99 (0,0))::F2) (aP.add (Int.toNat x1*8)) [vb o,vb au,vb av,vi aw,vb ax,vs ay,vl p q r,vi az]∧∀aQ:Nat,(It (o != 0) (TriV P (.func aR aL aM) [.agg #[vb o,vb au,vb av,vi aw,vb ax,vs ay,vl p q r,vi az]] I3 ((aG aK)::(aN,Obj.cells #[vb aH,vb aI,vs aJ,vb aA,vb aB,vb aC,vi aD,vb aE,vs aF,vl k l n,vi s,vb t,vb u,vb v,vi w,vb y,vs z,vl a c d,vi aa,vb ab,vb ac,vb ae,vi af,vb ag,vs ah,vl e f g,vi ai,vb aj,vb ak,vb al,vi am,vb an,vs ao,vl h i j,vi ap,vi ar] 99 (0,0))::(aQ,nO o au av aw ax ay p q r az)::F2) fun e1 I4 G1=>e1=.returned (.tuple #[])∧∃F3:Heap,List.Perm G1 ((aG aK)::(aN,Obj.cells #[vb aH,vb aI,vs aJ,vb aA,vb aB,vb aC,vi aD,vb aE,vs aF,vl k l n,vi s,vb t,vb u,vb v,vi w,vb y,vs z,vl a c d,vi aa,vb ab,vb ac,vb ae,vi af,vb ag,vs ah,vl e f g,vi ai,vb aj,vb ak,vb al,vi am,vb an,vs ao,vl h i j,vi ap,vi ar] 99 (0,0))::(aQ,nO o au av aw ax ay p q r az)::F3)∧(∃m4:Nat,m4<m3∧Inv19 x (IntKind.wrap .i64 (x1+1)) m4 I2 F1 I4 F3)) (∃m5:Nat,m5<m3∧Inv19 x (IntKind.wrap .i64 (x1+1)) m5 I2 F1 I3 F2))) (∃m6:Nat,m6<m1∧Inv5 (IntKind.wrap .i64 (x+1)) m6 I F I3 F2))) (Q (.returned (.tuple #[])) I1 F1))
theorem cost_each.vc{v w x y z:Int}{aa:Bs}{d:OA}{e g:Nat}{ab:Int}{i:OA}{j p:Nat}{ac:Int}{ad:Fn}{r u:Array Value}{I:Imm}{F:Heap}{Q:PostQ}(Inv5:Int→Nat→Imm→Heap→Imm→Heap→Prop)(Inv19:Int→Int→Nat→Imm→Heap→Imm→Heap→Prop)(h:cost_each.V (fun b=>(b,Obj.cells #[.int .u8 v,.int .u8 w,.int .u8 x,.int .i64 y,.int .u8 z,.string aa,.slice d e g,.int .i64 ab,.slice i j p,.int .i64 ac] 84 (0,0))) (fun k o t n f s a l c q=>.cells #[.int .u8 k,.int .u8 o,.int .u8 t,.int .i64 n,.int .u8 f,.string s,.slice a l c,.int .i64 q] 28 (0,0)) (.int .u8) (.int .i64) .string .slice v w x y z aa d e g ab i j p ac ad r u I F Q Inv5 Inv19):Tri P 40 #[.agg #[.int .u8 v,.int .u8 w,.int .u8 x,.int .i64 y,.int .u8 z,.string aa,.slice d e g,.int .i64 ab,.slice i j p,.int .i64 ac],.func ad r u] I F Q :=
 tw (A:=(annL [2000,5000,7002] [] [] shT_c0 [(5,⟨[(11,(.int .i64))],[],fun fs I0 F0 vs m I F=>match fs,vs with | [],[.int _ y0]=>Inv5 y0 m I0 F0 I F | _,_=>False,[],[]⟩),(19,⟨[(25,(.int .i64))],[],fun fs I0 F0 vs m I F=>match fs,vs with | [.int _ y0],[.int _ y1]=>Inv19 y0 y1 m I0 F0 I F | _,_=>False,[11],[]⟩)] [4008] [] [] [8002] [] [])) [] func40 h
def cost_acts.V(vb vi:Int→Value)(vs:Bs→Value)(vl:OA→Nat→Nat→Value)(wr:Int→Int)(aw ax ay az aA:Int)(aB:Bs)(o:OA)(p q:Nat)(aC:Int)(d:OA)(b r:Nat)(aD:Int)(I:Imm)(F:Heap)(Q:PostQ)(Inv8:Int→Int→Nat→Imm→Heap→Prop):Prop:=∀aM:Nat,(∃m:Nat,Inv8 0 0 m I F)∧∀(a x:Int) (m1:Nat) (I1:Imm) (F1:Heap),Imm.le I I1→Inv8 a x m1 I1 F1→(Dt (x<(b:Int)) ((0≤x∧x<(b:Int))∧∃ad:Addr,d=some ad∧∃(c aE:Int) (aF:Bs) (aG aH aI aJ aK:Int) (aL:Bs) (s:OA) (t u:Nat) (v w y z aa ab:Int) (ac:Bs) (e:OA) (f g:Nat) (ae af ag ah ai aj:Int) (ak:Bs) (h:OA) (i j:Nat) (al am an ao ap aq:Int) (ar:Bs) (k:OA) (l n:Nat) (au av:Int),Rd I1 ((aM,Obj.cells #[vb aw,vb ax,vb ay,vi az,vb aA,vs aB,vl o p q,vi aC,vl d b r,vi aD] 84 (0,0))::F1) (ad.add (Int.toNat x*36)) [vb c,vb aE,vs aF,vb aG,vb aH,vb aI,vi aJ,vb aK,vs aL,vl s t u,vi v,vb w,vb y,vb z,vi aa,vb ab,vs ac,vl e f g,vi ae,vb af,vb ag,vb ah,vi ai,vb aj,vs ak,vl h i j,vi al,vb am,vb an,vb ao,vi ap,vb aq,vs ar,vl k l n,vi au,vi av]∧∀aN:Nat,(It (c==1) (∃m2:Nat,m2<m1∧Inv8 (wr (a+1)) (wr (x+1)) m2 I1 F1) (It (c==2) (∃m3:Nat,m3<m1∧Inv8 (wr (a+1)) (wr (x+1)) m3 I1 F1) (It (c==3) (∃m4:Nat,m4<m1∧Inv8 (wr (a+1)) (wr (x+1)) m4 I1 F1) (∃m5:Nat,m5<m1∧Inv8 a (wr (x+1)) m5 I1 F1))))) (Q (.returned (vi a)) I1 F1))
theorem cost_acts.vc{g i j k l:Int}{n:Bs}{a:OA}{b c:Nat}{o:Int}{d:OA}{e f:Nat}{p:Int}{I:Imm}{F:Heap}{Q:PostQ}(Inv8:Int→Int→Nat→Imm→Heap→Prop)(h:cost_acts.V (.int .u8) (.int .i64) .string .slice (IntKind.wrap .i64) g i j k l n a b c o d e f p I F Q Inv8):Tri P 43 #[.agg #[.int .u8 g,.int .u8 i,.int .u8 j,.int .i64 k,.int .u8 l,.string n,.slice a b c,.int .i64 o,.slice d e f,.int .i64 p]] I F Q :=
 tw (A:=(annL [3000,6000,7000,8000] [] [] shT_c0 [(8,⟨[(3,(.int .i64)),(9,(.int .i64))],[],fun _ _ _ vs m I F=>match vs with | [.int _ y0,.int _ y1]=>Inv8 y0 y1 m I F | _=>False,[],[]⟩)] [] [] [] [] [] [])) [] func43 h
def cost_States_1.V(nO:Int→Int→Int→Int→Int→Bs→OA→Nat→Nat→Int→Obj)(vb vi:Int→Value)(e f g h i:Int)(j:Bs)(a:OA)(b d:Nat)(k:Int)(l:Nat)(c:Int)(I:Imm)(F:Heap)(Q:PostQ)  : Prop:=∀m:Nat,∃(r:Int),(Tri P 32 #[.agg #[vb e,vb f,vb g,vi h,vb i,.string j,.slice a b d,vi k]] I ((l,Obj.cells #[vi c] 3 (0,0))::(m,nO e f g h i j a b d k)::F) fun e1 I1 G1=>e1=.returned (vi r)∧List.Perm G1 ((l,Obj.cells #[vi c] 3 (0,0))::(m,nO e f g h i j a b d k)::F))∧Q (.returned (.tuple #[])) I ((l,Obj.cells #[vi (IntKind.wrap .i64 (c+r))] 3 (0,0))::F)
theorem cost_States_1.vc{i j m r u:Int}{w:Bs}{b:OA}{d e:Nat}{x:Int}{g:Nat}{c:Int}{I:Imm}{F:Heap}{Q:PostQ}  (h:cost_States_1.V (fun k o t n f s a l c q=>.cells #[.int .u8 k,.int .u8 o,.int .u8 t,.int .i64 n,.int .u8 f,.string s,.slice a l c,.int .i64 q] 28 (0,0)) (.int .u8) (.int .i64) i j m r u w b d e x g c I F Q):Tri P 41 #[.agg #[.int .u8 i,.int .u8 j,.int .u8 m,.int .i64 r,.int .u8 u,.string w,.slice b d e,.int .i64 x],.pointer (some ⟨g,0,none⟩)] I ((g,Obj.cells #[.int .i64 c] 3 (0,0))::F) Q :=
 tv (A:=(annL [] [] [32] shT_c0 [] [] [] [(1,4,[0])] [] [] [])) (args:=[.a (.v (.agg #[.int .u8 i,.int .u8 j,.int .u8 m,.int .i64 r,.int .u8 u,.string w,.slice b d e,.int .i64 x])),.a (.p 0 g 0)]) (own:=[⟨g,3,false,[.a (.v (.int .i64 c))]⟩]) (keep:=[0]) [32] func41 h
def cost_States.V(ka:Nat→Int→Int→Int→Int→Int→Bs→OA→Nat→Nat→Int→OA→Nat→Nat→Int→Nat×Obj)(kb:Nat→Bs→OA→Nat→Nat→Int→Nat×Obj)(s:Nat→Nat×Obj)(vb vi:Int→Value)(vs:Bs→Value)(vl:OA→Nat→Nat→Value)(wr:Int→Int)(aI:Bs)(av:OA)(aw ax:Nat)(ay:OA)(az aA:Nat)(ap:OA)(ah aB:Nat)(I:Imm)(F:Heap)(Q:PostQ)(Inv21:OA→OA→Nat→Nat→Int→Nat→Imm→Heap→Imm→Heap→Prop)(Inv44:OA→OA→Nat→Nat→Int→OA→Int→Int→Nat→Imm→Heap→Imm→Heap→Prop):Prop:=∀h:Nat,Tcn P 39 #[.agg #[vs aI,vl av aw ax,vl ay az aA,vl ap ah aB]] I ((s h)::·) F fun e1 I1 G1=>∃(r:Value),e1=.returned r∧G1 fun F1=>∃q:Bool,BinRun P .neq 44 (.tmp 14) (.const (Value.nilIface)) r Value.nilIface q∧(It q (Q (.returned (.tuple #[vl none 0 0,r])) I1 F1) (TriE P (Instr.makeSlice 42 (vi (ah:Int)) (vi (ah:Int))) I1 ((s h)::F1) fun v I2 G2=>∃(t:OA) (u aj:Nat),v=vl t u aj∧∃F2:Heap,List.Perm G2 ((s h)::F2)∧(∃m:Nat,Inv21 (some ⟨h,0,none⟩) t u aj 0 m I2 F2 I2 F2)∧∀(x:Int) (m1:Nat) (I3:Imm) (F3:Heap),Imm.le I2 I3→Inv21 (some ⟨h,0,none⟩) t u aj x m1 I2 F2 I3 F3→(Dt (x<(ah:Int)) ((0≤x∧x<(ah:Int))∧∃ad:Addr,ap=some ad∧∃(ae:Bs) (d:OA) (a i:Nat) (af:Int),Rd I3 ((s h)::F3) (ad.add (Int.toNat x*3)) [vs ae,vl d a i,vi af]∧∀w:Nat,(It ((a:Int)==0) (∃m2:Nat,m2<m1∧Inv21 (some ⟨h,0,none⟩) t u aj (wr (x+1)) m2 I2 F2 I3 F3) ((∃m3:Nat,Inv44 (some ⟨h,0,none⟩) t u aj x (some ⟨w,0,none⟩) 0 0 m3 I3 F3 I3 F3)∧∀(ao x1:Int) (m4:Nat) (I4:Imm) (F4:Heap),Imm.le I3 I4→Inv44 (some ⟨h,0,none⟩) t u aj x (some ⟨w,0,none⟩) ao x1 m4 I3 F3 I4 F4→(Dt (x1<(a:Int)) ((0≤x1∧x1<(a:Int))∧∃aE:Addr,d=some aE∧∃(n y o z aa:Int) (ab:Bs) (e:OA) (f g:Nat) (ac:Int) (j:OA) (k l:Nat) (ag:Int),Rd I4 ((s h)::(kb w ae d a i af)::F4) (aE.add (Int.toNat x1*10)) [vb n,vb y,vb o,vi z,vb aa,vs ab,vl e f g,vi ac,vl j k l,vi ag]∧∀ai:Nat,∀p:Nat,Tri P 40 (#[.agg #[vb n,vb y,vb o,vi z,vb aa,vs ab,vl e f g,vi ac,vl j k l,vi ag],.func (.func 41) #[] #[.pointer (some ⟨p,0,none⟩)]]) I4 ((s h)::(kb w ae d a i af)::(ka ai n y o z aa ab e f g ac j k l ag)::(p,Obj.cells #[vi 0] 3 (0,0))::F4) fun e2 I5 G3=>e2=.returned (.tuple #[])∧∃(c:Int),∃F5:Heap,List.Perm G3 ((s h)::(kb w ae d a i af)::(ka ai n y o z aa ab e f g ac j k l ag)::(p,Obj.cells #[vi c] 3 (0,0))::F5)∧∀(b:Nat) (I6:Imm),Imm.le I5 I6→I6 b=some (Obj.cells #[vi c] 3 (0,0))→Tc1 P 42 (#[vi ao,vl (some ⟨b,0,none⟩) 1 1]) I6 ((s h)::(kb w ae d a i af)::(ka ai n y o z aa ab e f g ac j k l ag)::(p,Obj.cells #[vi c] 3 (0,0))::·) F5 vi fun r1 I7 F6=>∃(hb:Nat) (ho:Obj) (F7:Heap),List.Perm F6 ((hb,ho)::F7)∧((0≤x∧x<(u:Int))∧∃aF:Addr,t=some aF∧∃(m5:Int),Rd (Imm.put I7 hb ho) ([]) ((aF.add (Int.toNat x*2)).add 1) [vi m5]∧Tri P 43 #[.agg #[vb n,vb y,vb o,vi z,vb aa,vs ab,vl e f g,vi ac,vl j k l,vi ag]] (Imm.put I7 hb ho) ((s h)::(kb w ae d a i af)::(ka ai n y o z aa ab e f g ac j k l ag)::(p,Obj.cells #[vi c] 3 (0,0))::F7) fun e4 I8 G5=>∃(r2:Int),e4=.returned (vi r2)∧∃F8:Heap,List.Perm G5 ((s h)::(kb w ae d a i af)::(ka ai n y o z aa ab e f g ac j k l ag)::(p,Obj.cells #[vi c] 3 (0,0))::F8)∧∀(b1:Nat) (I9:Imm),Imm.le I8 I9→I9 b1=some (Obj.cells #[vi r2] 3 (0,0))→Tc1 P 42 (#[vi m5,vl (some ⟨b1,0,none⟩) 1 1]) I9 ((s h)::(kb w ae d a i af)::(ka ai n y o z aa ab e f g ac j k l ag)::(p,Obj.cells #[vi c] 3 (0,0))::·) F8 vi fun r3 I10 F9=>((0≤x∧x<(u:Int))∧∃ak:Addr,t=some ak∧∃(cs:List Value) (el:Nat) (F10:Heap),List.Perm ((hb,ho)::F9) ((((ak.add (Int.toNat x*2)).add 1).block,Obj.cells cs.toArray el (0,0))::F10)∧((ak.add (Int.toNat x*2)).add 1).spot=none∧((ak.add (Int.toNat x*2)).add 1).off+1≤cs.length∧∃(an:Nat) (aq:Obj) (F11:Heap),List.Perm ((((ak.add (Int.toNat x*2)).add 1).block,Obj.cells (splice ((ak.add (Int.toNat x*2)).add 1).off [vi r3] cs).toArray el (0,0))::F10) ((an,aq)::F11)∧((0≤x∧x<(u:Int))∧∃aG:Addr,t=some aG∧∃(m6:Int),Rd (Imm.put (Imm.del I10 hb) an aq) ([]) ((aG.add (Int.toNat x*2)).add 0) [vi m6]∧Tri P 32 #[.agg #[vb n,vb y,vb o,vi z,vb aa,vs ab,vl e f g,vi ac]] (Imm.put (Imm.del I10 hb) an aq) ((s h)::(kb w ae d a i af)::(ka ai n y o z aa ab e f g ac j k l ag)::(p,Obj.cells #[vi c] 3 (0,0))::F11) fun e6 I11 G7=>∃(r4:Int),e6=.returned (vi r4)∧∃F12:Heap,List.Perm G7 ((s h)::(kb w ae d a i af)::(ka ai n y o z aa ab e f g ac j k l ag)::(p,Obj.cells #[vi c] 3 (0,0))::F12)∧((0≤x∧x<(u:Int))∧∃al:Addr,t=some al∧∃(ar:List Value) (aC:Nat) (F13:Heap),List.Perm ((an,aq)::F12) ((((al.add (Int.toNat x*2)).add 0).block,Obj.cells ar.toArray aC (0,0))::F13)∧((al.add (Int.toNat x*2)).add 0).spot=none∧((al.add (Int.toNat x*2)).add 0).off+1≤ar.length∧(∃m7:Nat,m7<m4∧Inv44 (some ⟨h,0,none⟩) t u aj x (some ⟨w,0,none⟩) r1 (wr (x1+1)) m7 I3 F3 (Imm.del I11 an) ((((al.add (Int.toNat x*2)).add 0).block,Obj.cells (splice ((al.add (Int.toNat x*2)).add 0).off [vi (wr (m6+r4))] ar).toArray aC (0,0))::F13))))))) ((0≤x∧x<(u:Int))∧∃aH:Addr,t=some aH∧∃(m8:Int),Rd I4 ((s h)::(kb w ae d a i af)::F4) ((aH.add (Int.toNat x*2)).add 0) [vi m8]∧((0≤x∧x<(u:Int))∧∃am:Addr,t=some am∧∃(au:List Value) (aD:Nat) (F14:Heap),List.Perm F4 ((((am.add (Int.toNat x*2)).add 0).block,Obj.cells au.toArray aD (0,0))::F14)∧((am.add (Int.toNat x*2)).add 0).spot=none∧((am.add (Int.toNat x*2)).add 0).off+1≤au.length∧(∃m9:Nat,m9<m1∧Inv21 (some ⟨h,0,none⟩) t u aj (wr (x+1)) m9 I2 F2 I4 ((((am.add (Int.toNat x*2)).add 0).block,Obj.cells (splice ((am.add (Int.toNat x*2)).add 0).off [vi (wr (m8+ao))] au).toArray aD (0,0))::F14)))))))) (Q (.returned (.tuple #[vl t u aj,Value.nilIface])) I3 F3))))
theorem cost_States.vc{x:Bs}{o:OA}{p q:Nat}{r:OA}{s t:Nat}{u:OA}{v w:Nat}{I:Imm}{F:Heap}{Q:PostQ}(Inv21:OA→OA→Nat→Nat→Int→Nat→Imm→Heap→Imm→Heap→Prop)(Inv44:OA→OA→Nat→Nat→Int→OA→Int→Int→Nat→Imm→Heap→Imm→Heap→Prop)(h:cost_States.V (fun W a b c d e f g h i j k l m n=>(W,Obj.cells #[.int .u8 a,.int .u8 b,.int .u8 c,.int .i64 d,.int .u8 e,.string f,.slice g h i,.int .i64 j,.slice k l m,.int .i64 n] 84 (0,0))) (fun W a b c d e=>(W,Obj.cells #[.string a,.slice b c d,.int .i64 e] 65 (0,0))) (fun b=>(b,Obj.cells #[.string x,.slice o p q,.slice r s t,.slice u v w] 39 (0,0))) (.int .u8) (.int .i64) .string .slice (IntKind.wrap .i64) x o p q r s t u v w I F Q Inv21 Inv44):Tri P 19 #[.agg #[.string x,.slice o p q,.slice r s t,.slice u v w]] I F Q :=
 tw (A:=(annL [2001,6000,8003,11000] [] [32,39,40,42,43] shT_c0 [(21,⟨[(24,(.int .i64))],[],fun fs I0 F0 vs m I F=>match fs,vs with | [.pointer y0,.slice y1 y2 y3],[.int _ y4]=>Inv21 y0 y1 y2 y3 y4 m I0 F0 I F | _,_=>False,[1,5],[]⟩),(44,⟨[(8,(.int .i64)),(36,(.int .i64))],[],fun fs I0 F0 vs m I F=>match fs,vs with | [.pointer y0,.slice y1 y2 y3,.int _ y4,.pointer y5],[.int _ y6,.int _ y7]=>Inv44 y0 y1 y2 y3 y4 y5 y6 y7 m I0 F0 I F | _,_=>False,[1,5,6,7],[]⟩)] [15002,16009] [] [] [] [] [] [] [] [(16,[6,1000],.fin [0,1,2,3,4,5,6,7,8,9,10,11,12] [13]),(17,[4,1000],.fin [0,1,2,3,5,4,6,7,8,9,10] [11])])) [32,39,40,42,43] func19 h
def cost_Strategy.V(ka:Nat→Int→Int→Nat×Obj)(g:Nat→Nat×Obj)(vi:Int→Value)(vl:OA→Nat→Nat→Value)(z:Bs)(n:OA)(o p:Nat)(s:OA)(t u:Nat)(v:OA)(w y:Nat)(I:Imm)(F:Heap)(Q:PostQ)(Inv18:OA→OA→Nat→Nat→OA→Int→Int→Int→Nat→Imm→Heap→Imm→Heap→Prop):Prop:=∀d:Nat,∀b:Nat,Tcn P 19 #[.agg #[.string z,vl n o p,vl s t u,vl v w y]] I ((g d)::(ka b 0 0)::·) F fun e1 I1 G1=>∃(k:OA) (i l:Nat) (r1:Value),e1=.returned (.tuple #[vl k i l,r1])∧G1 fun F1=>∃q:Bool,BinRun P .neq 44 (.tmp 14) (.const (Value.nilIface)) r1 Value.nilIface q∧(It q (Q (.returned (.tuple #[.agg #[vi 0,vi 0],r1])) I1 F1) (∀e:Nat,(∃m:Nat,Inv18 (some ⟨d,0,none⟩) k i l (some ⟨e,0,none⟩) 0 0 0 m I1 F1 I1 F1)∧∀(x a c:Int) (m1:Nat) (I2:Imm) (F2:Heap),Imm.le I1 I2→Inv18 (some ⟨d,0,none⟩) k i l (some ⟨e,0,none⟩) x a c m1 I1 F1 I2 F2→(Dt (x<(i:Int)) ((0≤x∧x<(i:Int))∧∃ad:Addr,k=some ad∧∃(h f:Int),Rd I2 ((g d)::(ka b 0 0)::(ka e a c)::F2) (ad.add (Int.toNat x*2)) [vi h,vi f]∧∀j:Nat,(∀(b1:Nat) (I3:Imm),Imm.le I2 I3→I3 b1=some (Obj.cells #[vi h] 3 (0,0))→(Tc1 P 42 (#[vi a,vl (some ⟨b1,0,none⟩) 1 1]) I3 ((g d)::(ka b 0 0)::(ka e a c)::(ka j h f)::·) F2 vi fun r I4 F3=>∀(b2:Nat) (I5:Imm),Imm.le I4 I5→I5 b2=some (Obj.cells #[vi f] 3 (0,0))→Tc1 P 42 (#[vi c,vl (some ⟨b2,0,none⟩) 1 1]) I5 ((g d)::(ka b 0 0)::(ka e a c)::(ka j h f)::·) F3 vi fun r2 I6 F4=>(∃m2:Nat,m2<m1∧Inv18 (some ⟨d,0,none⟩) k i l (some ⟨e,0,none⟩) (IntKind.wrap .i64 (x+1)) r r2 m2 I1 F1 I6 F4))∧(∀(b3:Nat) (I7:Imm),Imm.le I3 I7→I7 b3=some (Obj.cells #[vi f] 3 (0,0))→Tc1 P 42 (#[vi a,vl (some ⟨b1,0,none⟩) 1 1]) I7 ((g d)::(ka b 0 0)::(ka e a c)::(ka j h f)::·) F2 vi fun r3 I8 F5=>Tc1 P 42 (#[vi c,vl (some ⟨b3,0,none⟩) 1 1]) I8 ((g d)::(ka b 0 0)::(ka e a c)::(ka j h f)::·) F5 vi fun r4 I9 F6=>(∃m3:Nat,m3<m1∧Inv18 (some ⟨d,0,none⟩) k i l (some ⟨e,0,none⟩) (IntKind.wrap .i64 (x+1)) r3 r4 m3 I1 F1 I9 F6)))∧(∀(b4:Nat) (I10:Imm),Imm.le I2 I10→I10 b4=some (Obj.cells #[vi f] 3 (0,0))→∀(b5:Nat) (I11:Imm),Imm.le I10 I11→I11 b5=some (Obj.cells #[vi h] 3 (0,0))→Tc1 P 42 (#[vi a,vl (some ⟨b5,0,none⟩) 1 1]) I11 ((g d)::(ka b 0 0)::(ka e a c)::(ka j h f)::·) F2 vi fun r5 I12 F7=>Tc1 P 42 (#[vi c,vl (some ⟨b4,0,none⟩) 1 1]) I12 ((g d)::(ka b 0 0)::(ka e a c)::(ka j h f)::·) F7 vi fun r6 I13 F8=>(∃m4:Nat,m4<m1∧Inv18 (some ⟨d,0,none⟩) k i l (some ⟨e,0,none⟩) (IntKind.wrap .i64 (x+1)) r5 r6 m4 I1 F1 I13 F8))) (Dt (a>500) (∀b6:Nat,Q (.returned (.tuple #[.agg #[vi 0,vi 0],Value.iface 89 (.pointer (some (⟨b6,0,none⟩:Addr)))])) I2 (((b6,Obj.cells #[.string (⟨#[83,116,114,97,116,101,103,121]⟩:Bs),vi 0,Value.iface 47 (vi 160)] 93 (0,0))::F2))) (Q (.returned (.tuple #[.agg #[vi a,vi c],Value.nilIface])) I2 F2)))))
theorem cost_Strategy.vc{n:Bs}{c:OA}{d e:Nat}{f:OA}{g i:Nat}{j:OA}{k l:Nat}{I:Imm}{F:Heap}{Q:PostQ}(Inv18:OA→OA→Nat→Nat→OA→Int→Int→Int→Nat→Imm→Heap→Imm→Heap→Prop)(h:cost_Strategy.V (fun W a b=>(W,Obj.cells #[.int .i64 a,.int .i64 b] 57 (0,0))) (fun b=>(b,Obj.cells #[.string n,.slice c d e,.slice f g i,.slice j k l] 39 (0,0))) (.int .i64) .slice n c d e f g i j k l I F Q Inv18):Tri P 24 #[.agg #[.string n,.slice c d e,.slice f g i,.slice j k l]] I F Q :=
 tw (A:=(annL [2001,6000,10002] [] [19,42] shT_c0 [(18,⟨[(20,(.int .i64))],[(2,[(.int .i64),(.int .i64)])],fun fs I0 F0 vs m I F=>match fs,vs with | [.pointer y0,.slice y1 y2 y3,.pointer y4],[.int _ y5,.int _ y6,.int _ y7]=>Inv18 y0 y1 y2 y3 y4 y5 y6 y7 m I0 F0 I F | _,_=>False,[1,4,6],[]⟩)] [8004,8010] [11003] [] [] [] [] [] [] [(8,[1,3,7,9],.fork [0,2,6,8,1,3,7,9] 4 10 (.fork [] 5 10 (.fin [12,10,11] [13,14,15]) (.fin [5,12,11] [13,14,15])) (.fin [4,5,12,11] [13,14,15]))])) [19,42] func24 h
end Go.Lx
namespace Go.Lx
open Go.Vc Go.Proofs.Tryz
def shT_c1:List (Nat×List Sh):=[(3,[.one (.int .i64)]),(4,[.one .bool]),(22,[.one (.int .u8)]),(28,[.agg [(.int .u8),(.int .u8),(.int .u8),(.int .i64),(.int .u8),.str,.slc,(.int .i64)]]),(42,[.one .slc]),(45,[.one .slc,.one .any]),(51,[.agg [(.int .i64),(.int .i64),.bool]]),(52,[.one .slc,.agg [(.int .i64),(.int .i64),.bool]]),(57,[.agg [(.int .i64),(.int .i64)]]),(58,[.agg [(.int .i64),(.int .i64)],.one .any]),(65,[.agg [.str,.slc,(.int .i64)]]),(69,[.agg [(.int .u8),(.int .u8),(.int .u8),(.int .i64),(.int .u8),.str,.slc,(.int .i64)],.agg [(.int .i64),(.int .i64),.bool]]),(71,[.agg [.str,.slc,.slc,.slc],.agg [(.int .i64),(.int .i64),.bool]]),(84,[.agg [(.int .u8),(.int .u8),(.int .u8),(.int .i64),(.int .u8),.str,.slc,(.int .i64),.slc,(.int .i64)]]),(99,[.agg [(.int .u8),(.int .u8),.str,(.int .u8),(.int .u8),(.int .u8),(.int .i64),(.int .u8),.str,.slc,(.int .i64),(.int .u8),(.int .u8),(.int .u8),(.int .i64),(.int .u8),.str,.slc,(.int .i64),(.int .u8),(.int .u8),(.int .u8),(.int .i64),(.int .u8),.str,.slc,(.int .i64),(.int .u8),(.int .u8),(.int .u8),(.int .i64),(.int .u8),.str,.slc,(.int .i64),(.int .i64)]]),(129,[.one (.int .i64),.one (.int .i64)])]
def ref16_weight.V(a:Nat→Nat×Obj)(nV:Int→Int→Int→Int→Int→Bs→OA→Nat→Nat→Int→Value)(nL:Int→Int→Int→Int→Int→Bs→OA→Nat→Nat→Int→List Value)(vi:Int→Value)(wr:Int→Int)(x a0 a1 a2 a3:Int)(a4:Bs)(d:OA)(c aZ:Nat)(a5:Int)(I:Imm)(F:Heap)(Q:PostQ)(Inv32:Int→Int→Nat→Imm→Heap→Prop):Prop:=∀b:Nat,(It (x==7) ((0≤(1:Int)∧(1:Int)<(c:Int))∧∃ad:Addr,d=some ad∧∃(aN aO aP aQ aR:Int) (aS:Bs) (y:OA) (z aa:Nat) (aT:Int),Rd I ((a b)::F) (ad.add (Int.toNat 1*8)) (nL aN aO aP aQ aR aS y z aa aT)∧Tc1 P 35 #[nV aN aO aP aQ aR aS y z aa aT] I ((a b)::·) F vi fun r I1 F1=>((0≤(2:Int)∧(2:Int)<(c:Int))∧∃aU:Addr,d=some aU∧∃(ab ac ae af ag:Int) (ah:Bs) (e:OA) (f g:Nat) (ai:Int),Rd I1 ((a b)::F1) (aU.add (Int.toNat 2*8)) (nL ab ac ae af ag ah e f g ai)∧Tc1 P 35 #[nV ab ac ae af ag ah e f g ai] I1 ((a b)::·) F1 vi fun r1 I2 F2=>(Dt (r1>r) ((0≤(0:Int)∧(0:Int)<(c:Int))∧∃aV:Addr,d=some aV∧∃(aj ak al am an:Int) (ao:Bs) (h:OA) (j k:Nat) (ap:Int),Rd I2 ((a b)::F2) (aV.add (Int.toNat 0*8)) (nL aj ak al am an ao h j k ap)∧Tc1 P 35 #[nV aj ak al am an ao h j k ap] I2 ((a b)::·) F2 vi fun r2 I3 F3=>Q (.returned (vi (wr ((wr (r2+r1))+2)))) I3 F3) ((0≤(0:Int)∧(0:Int)<(c:Int))∧∃aW:Addr,d=some aW∧∃(aq ar au av aw:Int) (ax:Bs) (l:OA) (n o:Nat) (ay:Int),Rd I2 ((a b)::F2) (aW.add (Int.toNat 0*8)) (nL aq ar au av aw ax l n o ay)∧Tc1 P 35 #[nV aq ar au av aw ax l n o ay] I2 ((a b)::·) F2 vi fun r3 I4 F4=>Q (.returned (vi (wr ((wr (r3+r))+2)))) I4 F4)))) (It (x==9) ((∃m:Nat,Inv32 0 0 m I F)∧∀(w i:Int) (m1:Nat) (I5:Imm) (F5:Heap),Imm.le I I5→Inv32 w i m1 I5 F5→(Dt (i<(c:Int)) ((0≤i∧i<(c:Int))∧∃aX:Addr,d=some aX∧∃(az aA aB aC aD:Int) (aE:Bs) (p:OA) (q s:Nat) (aF:Int),Rd I5 ((a b)::F5) (aX.add (Int.toNat i*8)) (nL az aA aB aC aD aE p q s aF)∧Tc1 P 35 #[nV az aA aB aC aD aE p q s aF] I5 ((a b)::·) F5 vi fun r4 I6 F6=>(∃m2:Nat,m2<m1∧Inv32 (wr (w+r4)) (wr (i+1)) m2 I6 F6)) (Q (.returned (vi w)) I5 F5))) ((∃m3:Nat,Inv32 1 0 m3 I F)∧∀(w1 i1:Int) (m4:Nat) (I7:Imm) (F7:Heap),Imm.le I I7→Inv32 w1 i1 m4 I7 F7→(Dt (i1<(c:Int)) ((0≤i1∧i1<(c:Int))∧∃aY:Addr,d=some aY∧∃(aG aH aI aJ aK:Int) (aL:Bs) (t:OA) (u v:Nat) (aM:Int),Rd I7 ((a b)::F7) (aY.add (Int.toNat i1*8)) (nL aG aH aI aJ aK aL t u v aM)∧Tc1 P 35 #[nV aG aH aI aJ aK aL t u v aM] I7 ((a b)::·) F7 vi fun r5 I8 F8=>(∃m5:Nat,m5<m4∧Inv32 (wr (w1+r5)) (wr (i1+1)) m5 I8 F8)) (Q (.returned (vi w1)) I7 F7)))))
theorem ref16_weight.vc{i j p r u:Int}{v:Bs}{d:OA}{e g:Nat}{w:Int}{I:Imm}{F:Heap}{Q:PostQ}(Inv32:Int→Int→Nat→Imm→Heap→Prop)(h:ref16_weight.V (fun b=>(b,Obj.cells #[.int .u8 i,.int .u8 j,.int .u8 p,.int .i64 r,.int .u8 u,.string v,.slice d e g,.int .i64 w] 28 (0,0))) (fun k o t n f s a l c q=>.agg #[.int .u8 k,.int .u8 o,.int .u8 t,.int .i64 n,.int .u8 f,.string s,.slice a l c,.int .i64 q]) (fun k o t n f s a l c q=>[.int .u8 k,.int .u8 o,.int .u8 t,.int .i64 n,.int .u8 f,.string s,.slice a l c,.int .i64 q]) (.int .i64) (IntKind.wrap .i64) i j p r u v d e g w I F Q Inv32):Tri P 35 #[.agg #[.int .u8 i,.int .u8 j,.int .u8 p,.int .i64 r,.int .u8 u,.string v,.slice d e g,.int .i64 w]] I F Q :=
 tw (A:=(annL [1002,4002,8002,11004] [] [35] shT_c1 [(32,⟨[(5,(.int .i64)),(6,(.int .i64))],[],fun _ _ _ vs m I F=>match vs with | [.int _ y0,.int _ y1]=>Inv32 y0 y1 m I F | _=>False,[],[]⟩)] [] [] [] [] [] [])) [35] func35 h
def ref16_Expr.V(a:Nat→Nat×Obj)(nV:Int→Int→Int→Int→Int→Bs→OA→Nat→Nat→Int→Value)(f g h i j:Int)(k:Bs)(b:OA)(c d:Nat)(l:Int)(I:Imm)(F:Heap)(Q:PostQ)  : Prop:=∀e:Nat,Tc1 P 15 #[nV f g h i j k b c d l] I ((a e)::·) F .bool fun r I1 F1=>(It (!r) (Q (.returned (.int .i64 0)) I1 F1) (Tc1 P 35 #[nV f g h i j k b c d l] I1 ((a e)::·) F1 (.int .i64) fun r1 I2 F2=>Q (.returned (.int .i64 r1)) I2 F2))
theorem ref16_Expr.vc{i j m p r:Int}{u:Bs}{d:OA}{e g:Nat}{v:Int}{I:Imm}{F:Heap}{Q:PostQ}  (h:ref16_Expr.V (fun b=>(b,Obj.cells #[.int .u8 i,.int .u8 j,.int .u8 m,.int .i64 p,.int .u8 r,.string u,.slice d e g,.int .i64 v] 28 (0,0))) (fun k o t n f s a l c q=>.agg #[.int .u8 k,.int .u8 o,.int .u8 t,.int .i64 n,.int .u8 f,.string s,.slice a l c,.int .i64 q]) i j m p r u d e g v I F Q):Tri P 14 #[.agg #[.int .u8 i,.int .u8 j,.int .u8 m,.int .i64 p,.int .u8 r,.string u,.slice d e g,.int .i64 v]] I F Q :=
 tw (A:=(an [2001] [15,35] shT_c1)) [15,35] func14 h
def ref16_body.V(aB:Nat→Nat×Obj)(vb vi:Int→Value)(vs:Bs→Value)(vl:OA→Nat→Nat→Value)(wr:Int→Int)(aY aZ a0 a1 a2:Int)(a3:Bs)(aU:OA)(aV aW:Nat)(a4:Int)(aQ:OA)(aA aX:Nat)(a5:Int)(I:Imm)(F:Heap)(Q:PostQ)(Inv10:Int→Int→Int→Nat→Imm→Heap→Imm→Heap→Prop)(Inv27:Int→Int→Int→Nat→Imm→Heap→Imm→Heap→Prop):Prop:=∀aE:Nat,(∃m:Nat,Inv10 0 0 0 m I F I F)∧∀(w s i:Int) (m1:Nat) (I1:Imm) (F1:Heap),Imm.le I I1→Inv10 w s i m1 I F I1 F1→(Dt (i<(aA:Int)) ((0≤i∧i<(aA:Int))∧∃ad:Addr,aQ=some ad∧∃(n aC:Int) (aD:Bs) (au av aw ax ay:Int) (az:Bs) (o:OA) (p q:Nat) (t u v x y z:Int) (aa:Bs) (a:OA) (c d:Nat) (ab ac ae af ag ah:Int) (ai:Bs) (e:OA) (f g:Nat) (aj ak al am an ao:Int) (ap:Bs) (h:OA) (j l:Nat) (aq ar:Int),Rd I1 ((aB aE)::F1) (ad.add (Int.toNat i*36)) [vb n,vb aC,vs aD,vb au,vb av,vb aw,vi ax,vb ay,vs az,vl o p q,vi t,vb u,vb v,vb x,vi y,vb z,vs aa,vl a c d,vi ab,vb ac,vb ae,vb af,vi ag,vb ah,vs ai,vl e f g,vi aj,vb ak,vb al,vb am,vi an,vb ao,vs ap,vl h j l,vi aq,vi ar]∧∀aI:Nat,∀(b:Nat) (I2:Imm),Imm.le I1 I2→I2 b=some (Obj.cells #[vb au,vb av,vb aw,vi ax,vb ay,vs az,vl o p q,vi t,vb u,vb v,vb x,vi y,vb z,vs aa,vl a c d,vi ab,vb ac,vb ae,vb af,vi ag,vb ah,vs ai,vl e f g,vi aj,vb ak,vb al,vb am,vi an,vb ao,vs ap,vl h j l,vi aq] 28 (0,0))→(∃m2:Nat,Inv27 i w 0 m2 I2 F1 I2 F1)∧∀(w1 k:Int) (m3:Nat) (I3:Imm) (F2:Heap),Imm.le I2 I3→Inv27 i w1 k m3 I2 F1 I3 F2→(Dt (k<(4:Int)) ((0≤k∧k<(4:Int))∧∃aR:Addr,some ⟨b,0,none⟩=some aR∧∃(m4:Int),Rd I3 ((aB aE)::(aI,Obj.cells #[vb n,vb aC,vs aD,vb au,vb av,vb aw,vi ax,vb ay,vs az,vl o p q,vi t,vb u,vb v,vb x,vi y,vb z,vs aa,vl a c d,vi ab,vb ac,vb ae,vb af,vi ag,vb ah,vs ai,vl e f g,vi aj,vb ak,vb al,vb am,vi an,vb ao,vs ap,vl h j l,vi aq,vi ar] 99 (0,0))::F2) ((aR.add (Int.toNat k*8)).add 0) [vb m4]∧(It (m4 != 0) ((0≤k∧k<(4:Int))∧∃aS:Addr,some ⟨b,0,none⟩=some aS∧∃(aJ aK aL aM aN:Int) (aO:Bs) (aF:OA) (aG aH:Nat) (aP:Int),Rd I3 ((aB aE)::(aI,Obj.cells #[vb n,vb aC,vs aD,vb au,vb av,vb aw,vi ax,vb ay,vs az,vl o p q,vi t,vb u,vb v,vb x,vi y,vb z,vs aa,vl a c d,vi ab,vb ac,vb ae,vb af,vi ag,vb ah,vs ai,vl e f g,vi aj,vb ak,vb al,vb am,vi an,vb ao,vs ap,vl h j l,vi aq,vi ar] 99 (0,0))::F2) (aS.add (Int.toNat k*8)) [vb aJ,vb aK,vb aL,vi aM,vb aN,vs aO,vl aF aG aH,vi aP]∧Tc1 P 35 #[.agg #[vb aJ,vb aK,vb aL,vi aM,vb aN,vs aO,vl aF aG aH,vi aP]] I3 ((aB aE)::(aI,Obj.cells #[vb n,vb aC,vs aD,vb au,vb av,vb aw,vi ax,vb ay,vs az,vl o p q,vi t,vb u,vb v,vb x,vi y,vb z,vs aa,vl a c d,vi ab,vb ac,vb ae,vb af,vi ag,vb ah,vs ai,vl e f g,vi aj,vb ak,vb al,vb am,vi an,vb ao,vs ap,vl h j l,vi aq,vi ar] 99 (0,0))::·) F2 vi fun r I4 F3=>(∃m5:Nat,m5<m3∧Inv27 i (wr (w1+r)) (wr (k+1)) m5 I2 F1 I4 F3)) (∃m6:Nat,m6<m3∧Inv27 i w1 (wr (k+1)) m6 I2 F1 I3 F2))) (It (n==1) (∃m7:Nat,m7<m1∧Inv10 w1 (wr (s+1)) (wr (i+1)) m7 I F I3 F2) (It (n==2) (∃m8:Nat,m8<m1∧Inv10 w1 (wr (s+1)) (wr (i+1)) m8 I F I3 F2) (It (n==3) (∃m9:Nat,m9<m1∧Inv10 w1 (wr (s+1)) (wr (i+1)) m9 I F I3 F2) (∃aT:Nat,aT<m1∧Inv10 w1 s (wr (i+1)) aT I F I3 F2)))))) (Q (.returned (.tuple #[vi w,vi s])) I1 F1))
theorem ref16_body.vc{i j k l n:Int}{o:Bs}{a:OA}{c d:Nat}{p:Int}{e:OA}{f g:Nat}{q:Int}{I:Imm}{F:Heap}{Q:PostQ}(Inv10:Int→Int→Int→Nat→Imm→Heap→Imm→Heap→Prop)(Inv27:Int→Int→Int→Nat→Imm→Heap→Imm→Heap→Prop)(h:ref16_body.V (fun b=>(b,Obj.cells #[.int .u8 i,.int .u8 j,.int .u8 k,.int .i64 l,.int .u8 n,.string o,.slice a c d,.int .i64 p,.slice e f g,.int .i64 q] 84 (0,0))) (.int .u8) (.int .i64) .string .slice (IntKind.wrap .i64) i j k l n o a c d p e f g q I F Q Inv10 Inv27):Tri P 73 #[.agg #[.int .u8 i,.int .u8 j,.int .u8 k,.int .i64 l,.int .u8 n,.string o,.slice a c d,.int .i64 p,.slice e f g,.int .i64 q]] I F Q :=
 tw (A:=(annL [4004,9003,11005,13002,13006,13011] [] [35] shT_c1 [(10,⟨[(4,(.int .i64)),(5,(.int .i64)),(6,(.int .i64))],[],fun fs I0 F0 vs m I F=>match fs,vs with | [],[.int _ y0,.int _ y1,.int _ y2]=>Inv10 y0 y1 y2 m I0 F0 I F | _,_=>False,[],[]⟩),(27,⟨[(4,(.int .i64)),(9,(.int .i64))],[],fun fs I0 F0 vs m I F=>match fs,vs with | [.int _ y0],[.int _ y1,.int _ y2]=>Inv27 y0 y1 y2 m I0 F0 I F | _,_=>False,[6],[]⟩)] [7008] [] [] [] [] [])) [35] func73 h
def ref16_state.V(ka:Nat→Int→Int→Nat×Obj)(d:Nat→Nat×Obj)(nV:Int→Int→Int→Int→Int→Bs→OA→Nat→Nat→Int→Value)(nL:Int→Int→Int→Int→Int→Bs→OA→Nat→Nat→Int→List Value)(vb vi:Int→Value)(vl:OA→Nat→Nat→Value)(wr:Int→Int)(aW:Bs)(h:OA)(g aV:Nat)(aX:Int)(I:Imm)(F:Heap)(Q:PostQ)(Inv10:Int→Int→Int→Int→Nat→Imm→Heap→Prop):Prop:=∀e:Nat,∀b:Nat,∀f:Nat,(∃m:Nat,Inv10 0 0 0 0 m I F)∧∀(j i a c:Int) (m1:Nat) (I1:Imm) (F1:Heap),Imm.le I I1→Inv10 j i a c m1 I1 F1→(Dt (i<(g:Int)) ((0≤i∧i<(g:Int))∧∃ad:Addr,h=some ad∧∃(aJ aK aL aM aN:Int) (aO:Bs) (y:OA) (z aa:Nat) (aP:Int) (ab:OA) (ac ae:Nat) (aQ:Int),Rd I1 ((d e)::(ka b 0 0)::(ka f a c)::F1) (ad.add (Int.toNat i*10)) [vb aJ,vb aK,vb aL,vi aM,vb aN,.string aO,vl y z aa,vi aP,vl ab ac ae,vi aQ]∧Tcn P 73 #[.agg #[vb aJ,vb aK,vb aL,vi aM,vb aN,.string aO,vl y z aa,vi aP,vl ab ac ae,vi aQ]] I1 ((d e)::(ka b 0 0)::(ka f a c)::·) F1 fun e1 I2 G1=>∃(r0 r1:Int),e1=.returned (.tuple #[vi r0,vi r1])∧G1 fun F2=>(Dt (r0>j) (Dt (r1>c) ((0≤i∧i<(g:Int))∧∃aR:Addr,h=some aR∧∃(af ag ah ai aj:Int) (ak:Bs) (k:OA) (l n:Nat) (al:Int),Rd I2 ((d e)::(ka b 0 0)::(ka f a r1)::F2) ((aR.add (Int.toNat i*10)).add 0) (nL af ag ah ai aj ak k l n al)∧∃(r:Int),(Tri P 35 #[nV af ag ah ai aj ak k l n al] I2 ((d e)::(ka b 0 0)::(ka f a r1)::F2) fun e2 I3 G2=>e2=.returned (vi r)∧List.Perm G2 ((d e)::(ka b 0 0)::(ka f a r1)::F2))∧(∃m2:Nat,m2<m1∧Inv10 r0 (wr (i+1)) (wr (a+r)) r1 m2 I2 F2)) ((0≤i∧i<(g:Int))∧∃aS:Addr,h=some aS∧∃(am an ao ap aq:Int) (ar:Bs) (o:OA) (p q:Nat) (au:Int),Rd I2 ((d e)::(ka b 0 0)::(ka f a c)::F2) ((aS.add (Int.toNat i*10)).add 0) (nL am an ao ap aq ar o p q au)∧∃(r2:Int),(Tri P 35 #[nV am an ao ap aq ar o p q au] I2 ((d e)::(ka b 0 0)::(ka f a c)::F2) fun e3 I4 G3=>e3=.returned (vi r2)∧List.Perm G3 ((d e)::(ka b 0 0)::(ka f a c)::F2))∧(∃m3:Nat,m3<m1∧Inv10 r0 (wr (i+1)) (wr (a+r2)) c m3 I2 F2))) (Dt (r1>c) ((0≤i∧i<(g:Int))∧∃aT:Addr,h=some aT∧∃(av aw ax ay az:Int) (aA:Bs) (s:OA) (t u:Nat) (aB:Int),Rd I2 ((d e)::(ka b 0 0)::(ka f a r1)::F2) ((aT.add (Int.toNat i*10)).add 0) (nL av aw ax ay az aA s t u aB)∧∃(r3:Int),(Tri P 35 #[nV av aw ax ay az aA s t u aB] I2 ((d e)::(ka b 0 0)::(ka f a r1)::F2) fun e4 I5 G4=>e4=.returned (vi r3)∧List.Perm G4 ((d e)::(ka b 0 0)::(ka f a r1)::F2))∧(∃m4:Nat,m4<m1∧Inv10 j (wr (i+1)) (wr (a+r3)) r1 m4 I2 F2)) ((0≤i∧i<(g:Int))∧∃aU:Addr,h=some aU∧∃(aC aD aE aF aG:Int) (aH:Bs) (v:OA) (w x:Nat) (aI:Int),Rd I2 ((d e)::(ka b 0 0)::(ka f a c)::F2) ((aU.add (Int.toNat i*10)).add 0) (nL aC aD aE aF aG aH v w x aI)∧∃(r4:Int),(Tri P 35 #[nV aC aD aE aF aG aH v w x aI] I2 ((d e)::(ka b 0 0)::(ka f a c)::F2) fun e5 I6 G5=>e5=.returned (vi r4)∧List.Perm G5 ((d e)::(ka b 0 0)::(ka f a c)::F2))∧(∃m5:Nat,m5<m1∧Inv10 j (wr (i+1)) (wr (a+r4)) c m5 I2 F2))))) (Q (.returned (.agg #[vi (wr (a+j)),vi c])) I1 F1))
theorem ref16_state.vc{i:Bs}{d:OA}{e g:Nat}{j:Int}{I:Imm}{F:Heap}{Q:PostQ}(Inv10:Int→Int→Int→Int→Nat→Imm→Heap→Prop)(h:ref16_state.V (fun W a b=>(W,Obj.cells #[.int .i64 a,.int .i64 b] 57 (0,0))) (fun b=>(b,Obj.cells #[.string i,.slice d e g,.int .i64 j] 65 (0,0))) (fun k o t n f s a l c q=>.agg #[.int .u8 k,.int .u8 o,.int .u8 t,.int .i64 n,.int .u8 f,.string s,.slice a l c,.int .i64 q]) (fun k o t n f s a l c q=>[.int .u8 k,.int .u8 o,.int .u8 t,.int .i64 n,.int .u8 f,.string s,.slice a l c,.int .i64 q]) (.int .u8) (.int .i64) .slice (IntKind.wrap .i64) i d e g j I F Q Inv10):Tri P 45 #[.agg #[.string i,.slice d e g,.int .i64 j]] I F Q :=
 tw (A:=(annL [4004,7002,9003] [] [35,73] shT_c1 [(10,⟨[(4,(.int .i64)),(5,(.int .i64))],[(2,[(.int .i64),(.int .i64)])],fun _ _ _ vs m I F=>match vs with | [.int _ y0,.int _ y1,.int _ y2,.int _ y3]=>Inv10 y0 y1 y2 y3 m I F | _=>False,[],[]⟩)] [] [] [(11,11,[2])] [] [] [])) [35,73] func45 h
def ref16_States.V(ka:Nat→Int→Int→Bool→Nat×Obj)(f:Nat→Nat×Obj)(vi:Int→Value)(vl:OA→Nat→Nat→Value)(vt:Bool→Value)(ah:Bs)(t:OA)(u w:Nat)(x:OA)(y z:Nat)(j:OA)(e aa:Nat)(I:Imm)(F:Heap)(Q:PostQ)(Inv18:OA→Nat→Nat→Int→Nat→Imm→Heap→Prop):Prop:=∀g:Nat,∀b:Nat,Tcn P 26 #[.agg #[.string ah,vl t u w,vl x y z,vl j e aa]] I ((f g)::(ka b 0 0 false)::·) F fun e1 I1 G1=>∃(a c:Int) (d:Bool),e1=.returned (.agg #[vi a,vi c,vt d])∧G1 fun F1=>∀h:Nat,(It (a != 0) (Q (.returned (.tuple #[vl none 0 0,.agg #[vi a,vi c,vt d]])) I1 F1) ((∃m:Nat,Inv18 none 0 0 0 m I1 F1)∧∀(o:OA) (p q:Nat) (i:Int) (m1:Nat) (I2:Imm) (F2:Heap),Imm.le I1 I2→Inv18 o p q i m1 I2 F2→(Dt (i<(e:Int)) ((0≤i∧i<(e:Int))∧∃ad:Addr,j=some ad∧∃(ab:Bs) (k:OA) (l n:Nat) (ac:Int),Rd I2 ((f g)::(ka b 0 0 false)::(ka h a c d)::F2) (ad.add (Int.toNat i*3)) [.string ab,vl k l n,vi ac]∧Tcn P 45 #[.agg #[.string ab,vl k l n,vi ac]] I2 ((f g)::(ka b 0 0 false)::(ka h a c d)::·) F2 fun e2 I3 G2=>∃(r s:Int),e2=.returned (.agg #[vi r,vi s])∧G2 fun F3=>∀(b1:Nat) (I4:Imm),Imm.le I3 I4→I4 b1=some (Obj.cells #[vi r,vi s] 57 (0,0))→TriE P (Builtin.append_ #[42,42] 42 #[vl o p q,vl (some ⟨b1,0,none⟩) 1 1]) I4 ((f g)::(ka b 0 0 false)::(ka h a c d)::F3) fun v I5 G3=>∃(ae:OA) (af ag:Nat),v=vl ae af ag∧∃F4:Heap,List.Perm G3 ((f g)::(ka b 0 0 false)::(ka h a c d)::F4)∧(∃m2:Nat,m2<m1∧Inv18 ae af ag (IntKind.wrap .i64 (i+1)) m2 I5 F4)) (Q (.returned (.tuple #[vl o p q,.agg #[vi a,vi c,vt d]])) I2 F2))))
theorem ref16_States.vc{o:Bs}{d:OA}{e f:Nat}{g:OA}{i j:Nat}{k:OA}{l n:Nat}{I:Imm}{F:Heap}{Q:PostQ}(Inv18:OA→Nat→Nat→Int→Nat→Imm→Heap→Prop)(h:ref16_States.V (fun W a b c=>(W,Obj.cells #[.int .i64 a,.int .i64 b,.bool c] 51 (0,0))) (fun b=>(b,Obj.cells #[.string o,.slice d e f,.slice g i j,.slice k l n] 39 (0,0))) (.int .i64) .slice .bool o d e f g i j k l n I F Q Inv18):Tri P 21 #[.agg #[.string o,.slice d e f,.slice g i j,.slice k l n]] I F Q :=
 tw (A:=(annL [2002,6004] [] [26,45] shT_c1 [(18,⟨[(5,.slc),(6,(.int .i64))],[],fun _ _ _ vs m I F=>match vs with | [.slice y0 y1 y2,.int _ y3]=>Inv18 y0 y1 y2 y3 m I F | _=>False,[],[]⟩)] [8007] [] [(3,2,[1]),(9,3,[1])] [] [] [])) [26,45] func21 h
def ref16_Strategy.V(ka:Nat→Int→Int→Bool→Nat×Obj)(kb:Nat→Int→Int→Nat×Obj)(j:Nat→Nat×Obj)(vi:Int→Value)(vl:OA→Nat→Nat→Value)(vt:Bool→Value)(wr:Int→Int)(ag:Bs)(o:OA)(p q:Nat)(r:OA)(s t:Nat)(u:OA)(v w:Nat)(I:Imm)(F:Heap)(Q:PostQ)(Inv10:Int→Int→Int→Nat→Imm→Heap→Prop):Prop:=∀k:Nat,∀b:Nat,∀b1:Nat,Tcn P 21 #[.agg #[.string ag,vl o p q,vl r s t,vl u v w]] I ((j k)::(kb b 0 0)::(ka b1 0 0 false)::·) F fun e1 I1 G1=>∃(h:OA) (d af:Nat) (e f:Int) (g:Bool),e1=.returned (.tuple #[vl h d af,.agg #[vi e,vi f,vt g]])∧G1 fun F1=>∀l:Nat,∀n:Nat,(∃m:Nat,Inv10 0 0 0 m I1 F1)∧∀(i c a:Int) (m1:Nat) (I2:Imm) (F2:Heap),Imm.le I1 I2→Inv10 i c a m1 I2 F2→(Dt (i<(d:Int)) ((0≤i∧i<(d:Int))∧∃ad:Addr,h=some ad∧∃(m2:Int),Rd I2 ((j k)::(kb b 0 0)::(ka b1 0 0 false)::(ka l e f g)::(kb n c a)::F2) ((ad.add (Int.toNat i*2)).add 0) [vi m2]∧(Dt (m2>c) ((0≤i∧i<(d:Int))∧∃x:Addr,h=some x∧∃(m3:Int),Rd I2 ((j k)::(kb b 0 0)::(ka b1 0 0 false)::(ka l e f g)::(kb n c a)::F2) ((x.add (Int.toNat i*2)).add 0) [vi m3]∧((0≤i∧i<(d:Int))∧∃y:Addr,h=some y∧∃(m4:Int),Rd I2 ((j k)::(kb b 0 0)::(ka b1 0 0 false)::(ka l e f g)::(kb n m3 a)::F2) ((y.add (Int.toNat i*2)).add 1) [vi m4]∧(Dt (m4>a) ((0≤i∧i<(d:Int))∧∃z:Addr,h=some z∧∃(m5:Int),Rd I2 ((j k)::(kb b 0 0)::(ka b1 0 0 false)::(ka l e f g)::(kb n m3 a)::F2) ((z.add (Int.toNat i*2)).add 1) [vi m5]∧(∃m6:Nat,m6<m1∧Inv10 (wr (i+1)) m3 m5 m6 I2 F2)) (∃m7:Nat,m7<m1∧Inv10 (wr (i+1)) m3 a m7 I2 F2)))) ((0≤i∧i<(d:Int))∧∃aa:Addr,h=some aa∧∃(m8:Int),Rd I2 ((j k)::(kb b 0 0)::(ka b1 0 0 false)::(ka l e f g)::(kb n c a)::F2) ((aa.add (Int.toNat i*2)).add 1) [vi m8]∧(Dt (m8>a) ((0≤i∧i<(d:Int))∧∃ab:Addr,h=some ab∧∃(m9:Int),Rd I2 ((j k)::(kb b 0 0)::(ka b1 0 0 false)::(ka l e f g)::(kb n c a)::F2) ((ab.add (Int.toNat i*2)).add 1) [vi m9]∧(∃ac:Nat,ac<m1∧Inv10 (wr (i+1)) c m9 ac I2 F2)) (∃ae:Nat,ae<m1∧Inv10 (wr (i+1)) c a ae I2 F2))))) (Dt (c>500) (Q (.returned (.tuple #[.agg #[vi 0,vi 0],.agg #[vi 160,vi 0,vt false]])) I2 F2) (Q (.returned (.tuple #[.agg #[vi c,vi a],.agg #[vi e,vi f,vt g]])) I2 F2)))
theorem ref16_Strategy.vc{o:Bs}{d:OA}{e f:Nat}{g:OA}{i j:Nat}{k:OA}{l n:Nat}{I:Imm}{F:Heap}{Q:PostQ}(Inv10:Int→Int→Int→Nat→Imm→Heap→Prop)(h:ref16_Strategy.V (fun W a b c=>(W,Obj.cells #[.int .i64 a,.int .i64 b,.bool c] 51 (0,0))) (fun W a b=>(W,Obj.cells #[.int .i64 a,.int .i64 b] 57 (0,0))) (fun b=>(b,Obj.cells #[.string o,.slice d e f,.slice g i j,.slice k l n] 39 (0,0))) (.int .i64) .slice .bool (IntKind.wrap .i64) o d e f g i j k l n I F Q Inv10):Tri P 25 #[.agg #[.string o,.slice d e f,.slice g i j,.slice k l n]] I F Q :=
 tw (A:=(annL [4003,6007,8007,10002] [] [21] shT_c1 [(10,⟨[(7,(.int .i64))],[(4,[(.int .i64),(.int .i64)])],fun _ _ _ vs m I F=>match vs with | [.int _ y0,.int _ y1,.int _ y2]=>Inv10 y0 y1 y2 m I F | _=>False,[],[]⟩)] [] [] [(12,2,[1])] [] [] [(12,3)])) [21] func25 h
def law16_awake.V(ka:Nat→Int→Int→Bool→Nat×Obj)(kb:Nat→Bs→OA→Nat→Nat→OA→Nat→Nat→OA→Nat→Nat→Nat×Obj)(kc:Nat→Int→Int→Nat×Obj)(nV:Int→Int→Int→Int→Int→Bs→OA→Nat→Nat→Int→Value)(nO:Int→Int→Int→Int→Int→Bs→OA→Nat→Nat→Int→Obj)(vi:Int→Value)(vs:Bs→Value)(vl:OA→Nat→Nat→Value)(vt:Bool→Value)(I:Imm)(F:Heap)(Q:PostQ)  : Prop:=Tcn P 28 (#[vs (⟨#[100,111,110,101,32,63,32,98,105,100,32,58,32,98,105,100,32,43,32,49,112]⟩:Bs)]) I (·) F fun e1 I1 G1=>∃(s t u v w:Int) (x:Bs) (a:OA) (b c:Nat) (y z aa:Int) (ab:Bool),e1=.returned (.tuple #[nV s t u v w x a b c y,.agg #[vi z,vi aa,vt ab]])∧G1 fun F1=>∀ae:Nat,∀af:Nat,Tcn P 29 (#[vs (⟨#[115,116,114,97,116,101,103,121,32,115,32,123,32,114,101,103,32,110,32,105,110,116,32,61,32,48,59,32,115,108,111,116,32,111,59,32,115,116,97,116,101,32,97,32,123,32,119,104,101,110,32,104,97,115,32,98,105,100,32,100,111,32,115,117,98,109,105,116,32,98,117,121,32,111,102,32,50,113,32,97,116,32,98,105,100,32,43,32,49,112,32,108,105,109,105,116,44,32,104,97,108,116,59,32,119,104,101,110,32,110,111,119,32,62,32,53,116,32,100,111,32,115,101,116,32,110,32,61,32,110,32,43,32,49,44,32,99,97,110,99,101,108,32,111,44,32,99,97,110,99,101,108,32,111,59,32,125,32,115,116,97,116,101,32,98,32,123,125,32,125]⟩:Bs)]) I1 ((ae,nO s t u v w x a b c y)::(ka af z aa ab)::·) F1 fun e2 I2 G2=>∃(m:Bs) (d:OA) (e f:Nat) (g:OA) (h i:Nat) (j:OA) (k l:Nat) (n o:Int) (p:Bool),e2=.returned (.tuple #[.agg #[vs m,vl d e f,vl g h i,vl j k l],.agg #[vi n,vi o,vt p]])∧G2 fun F2=>∀ai:Nat,∀ac:Nat,Tc1 P 12 #[nV s t u v w x a b c y] I2 ((ae,nO s t u v w x a b c y)::(ka af z aa ab)::(kb ai m d e f g h i j k l)::(ka ac n o p)::·) F2 vi fun r I3 F3=>Tc1 P 12 (#[nV 0 0 0 0 0 (⟨#[]⟩:Bs) none 0 0 0]) I3 ((ae,nO s t u v w x a b c y)::(ka af z aa ab)::(kb ai m d e f g h i j k l)::(ka ac n o p)::·) F3 vi fun r1 I4 F4=>Tcn P 24 #[.agg #[vs m,vl d e f,vl g h i,vl j k l]] I4 ((ae,nO s t u v w x a b c y)::(ka af z aa ab)::(kb ai m d e f g h i j k l)::(ka ac n o p)::·) F4 fun e5 I5 G5=>∃(ag ah:Int) (ap:Value),e5=.returned (.tuple #[.agg #[vi ag,vi ah],ap])∧G5 fun F5=>∀ak:Nat,Tcn P 19 #[.agg #[vs m,vl d e f,vl g h i,vl j k l]] I5 ((ae,nO s t u v w x a b c y)::(ka af z aa ab)::(kb ai m d e f g h i j k l)::(ka ac n o p)::(kc ak ag ah)::·) F5 fun e6 I6 G6=>∃(al:OA) (aj aw:Nat) (aq:Value),e6=.returned (.tuple #[vl al aj aw,aq])∧G6 fun F6=>Tcn P 19 (#[.agg #[vs (⟨#[]⟩:Bs),vl none 0 0,vl none 0 0,vl none 0 0]]) I6 ((ae,nO s t u v w x a b c y)::(ka af z aa ab)::(kb ai m d e f g h i j k l)::(ka ac n o p)::(kc ak ag ah)::·) F6 fun e7 I7 G7=>∃(am:OA) (an ao:Nat) (ar:Value),e7=.returned (.tuple #[vl am an ao,ar])∧G7 fun F7=>(It (r==6) (It (r1==0) (∃q:Bool,BinRun P .eql 44 (.tmp 47) (.const (Value.nilIface)) ap Value.nilIface q∧(It q (∃q1:Bool,BinRun P .eql 57 (.tmp 51) (.tmp 52) (.agg #[vi ag,vi ah]) (.agg #[vi 9,vi 2]) q1∧(It q1 (∃q2:Bool,BinRun P .eql 44 (.tmp 56) (.const (Value.nilIface)) aq Value.nilIface q2∧(It q2 (It ((aj:Int)==2) ((0≤(1:Int)∧(1:Int)<(aj:Int))∧∃ad:Addr,al=some ad∧∃(au av:Int),Rd I7 ((ae,nO s t u v w x a b c y)::(ka af z aa ab)::(kb ai m d e f g h i j k l)::(ka ac n o p)::(kc ak ag ah)::F7) (ad.add (Int.toNat 1*2)) [vi au,vi av]∧∃q3:Bool,BinRun P .eql 57 (.tmp 67) (.tmp 68) (.agg #[vi au,vi av]) (.agg #[vi 0,vi 0]) q3∧(It q3 (∃q4:Bool,BinRun P .neq 44 (.tmp 72) (.const (Value.nilIface)) ar Value.nilIface q4∧Q (.returned (vt q4)) I7 F7) (Q (.returned (vt false)) I7 F7))) (Q (.returned (vt false)) I7 F7)) (Q (.returned (vt false)) I7 F7))) (Q (.returned (vt false)) I7 F7))) (Q (.returned (vt false)) I7 F7))) (Q (.returned (vt false)) I7 F7)) (Q (.returned (vt false)) I7 F7))
theorem law16_awake.vc  {I:Imm}{F:Heap}{Q:PostQ}  (h:law16_awake.V (fun W a b c=>(W,Obj.cells #[.int .i64 a,.int .i64 b,.bool c] 68 (0,0))) (fun W a b c d e f g h i j=>(W,Obj.cells #[.string a,.slice b c d,.slice e f g,.slice h i j] 39 (0,0))) (fun W a b=>(W,Obj.cells #[.int .i64 a,.int .i64 b] 57 (0,0))) (fun k o t n f s a l c q=>.agg #[.int .u8 k,.int .u8 o,.int .u8 t,.int .i64 n,.int .u8 f,.string s,.slice a l c,.int .i64 q]) (fun k o t n f s a l c q=>.cells #[.int .u8 k,.int .u8 o,.int .u8 t,.int .i64 n,.int .u8 f,.string s,.slice a l c,.int .i64 q] 28 (0,0)) (.int .i64) .string .slice .bool I F Q):Tri P 9 #[] I F Q :=
 tw (A:=(an [8001,8004,8008,8013,8017,8022,8029] [12,19,24,28,29] shT_c1)) [12,19,24,28,29] func9 h
def law16_far.V(vl:OA→Nat→Nat→Value)(j:Bs)(a:OA)(b c:Nat)(d:OA)(e f:Nat)(g:OA)(h i:Nat)(I:Imm)(F:Heap)(Q:PostQ)  : Prop:=∀k:Nat,Tc1 P 37 #[.agg #[.string j,vl a b c,vl d e f,vl g h i]] I ((k,Obj.cells #[.string j,vl a b c,vl d e f,vl g h i] 39 (0,0))::·) F (.int .i64) fun r I1 F1=>Q (.returned (.bool (decide (r>1048576)))) I1 (F1)
theorem law16_far.vc{k:Bs}{a:OA}{b c:Nat}{d:OA}{e f:Nat}{g:OA}{i j:Nat}{I:Imm}{F:Heap}{Q:PostQ}  (h:law16_far.V .slice k a b c d e f g i j I F Q):Tri P 17 #[.agg #[.string k,.slice a b c,.slice d e f,.slice g i j]] I F Q :=
 tw (A:=(an [] [37] shT_c1)) [37] func17 h
def law16_farExpr.V(nO:Int→Int→Int→Int→Int→Bs→OA→Nat→Nat→Int→Obj)(vb vi:Int→Value)(d e f g h:Int)(i:Bs)(a:OA)(b c:Nat)(j:Int)(I:Imm)(F:Heap)(Q:PostQ)  : Prop:=∀k:Nat,Tc1 P 30 #[.agg #[vb d,vb e,vb f,vi g,vb h,.string i,.slice a b c,vi j],vi 0,vi 0] I ((k,nO d e f g h i a b c j)::·) F vi fun r I1 F1=>Q (.returned (.bool (decide (r>1048576)))) I1 (F1)
theorem law16_farExpr.vc{g i j m p:Int}{r:Bs}{b:OA}{d e:Nat}{u:Int}{I:Imm}{F:Heap}{Q:PostQ}  (h:law16_farExpr.V (fun k o t n f s a l c q=>.cells #[.int .u8 k,.int .u8 o,.int .u8 t,.int .i64 n,.int .u8 f,.string s,.slice a l c,.int .i64 q] 28 (0,0)) (.int .u8) (.int .i64) g i j m p r b d e u I F Q):Tri P 10 #[.agg #[.int .u8 g,.int .u8 i,.int .u8 j,.int .i64 m,.int .u8 p,.string r,.slice b d e,.int .i64 u]] I F Q :=
 tw (A:=(an [] [30] shT_c1)) [30] func10 h
def law16_sameCosts.V(vi:Int→Value)(h:OA)(a k:Nat)(j:OA)(b l:Nat)(I:Imm)(F:Heap)(Q:PostQ)(Inv14:Bool→Int→Nat→Imm→Heap→Prop):Prop:=(It ((a:Int)!=(b:Int)) (Q (.returned (.bool false)) I F) ((∃m:Nat,Inv14 false 0 m I F)∧∀(x:Bool) (i:Int) (m1:Nat) (I1:Imm) (F1:Heap),Imm.le I I1→Inv14 x i m1 I1 F1→(Dt (i<(a:Int)) ((0≤i∧i<(a:Int))∧∃ad:Addr,h=some ad∧∃(e f:Int),Rd I1 F1 (ad.add (Int.toNat i*2)) [vi e,vi f]∧((0≤i∧i<(b:Int))∧∃g:Addr,j=some g∧∃(c d:Int),Rd I1 F1 (g.add (Int.toNat i*2)) [vi c,vi d]∧∃q:Bool,BinRun P .neq 57 (.tmp 20) (.tmp 24) (.agg #[vi e,vi f]) (.agg #[vi c,vi d]) q∧(It q (Q (.returned (.bool false)) I1 F1) (∃m2:Nat,m2<m1∧Inv14 x (IntKind.wrap .i64 (i+1)) m2 I1 F1)))) (Q (.returned (.bool true)) I1 F1))))
theorem law16_sameCosts.vc{a:OA}{b c:Nat}{d:OA}{e f:Nat}{I:Imm}{F:Heap}{Q:PostQ}(Inv14:Bool→Int→Nat→Imm→Heap→Prop)(h:law16_sameCosts.V (.int .i64) a b c d e f I F Q Inv14):Tri P 22 #[.slice a b c,.slice d e f] I F Q :=
 tw (A:=(annL [1004,4003,6008] [] [] shT_c1 [(14,⟨[(4,.bool),(5,(.int .i64))],[],fun _ _ _ vs m I F=>match vs with | [.bool y0,.int _ y1]=>Inv14 y0 y1 m I F | _=>False,[],[]⟩)] [] [] [] [] [] [])) [] func22 h
end Go.Lx
namespace Go.Vc
section
variable {P:Program} {f:FuncId} {args:Array Value} {v:Value}
theorem Tri.lend1{I:Imm}{F:Heap}{b:Nat}{o:Obj}(h:∀J,Imm.le I J→J b=some o→Tri P f args J F (Go.Lx.Ret v F)):Tri P f args I ((b,o)::F) (Go.Lx.Ret v ((b,o)::F)):=fun w hw=>by
 have hb:=hw.off b o (List.mem_cons_self ..)
 obtain⟨hl,hs⟩:=hw.promote
 refine (h (I.put b o) hl (Imm.put_same I b o) w hs).mono fun e w' ⟨I',F',g1,g2,g3,g4⟩=>?_
 subst g4
 obtain⟨d1,d2⟩:=Sat.demote hb g1 g2
 exact⟨I'.del b,(b,o)::F',d1,d2,g3,rfl⟩
theorem Tri.lendL:∀(A:Heap) {I:Imm} {F:Heap} (h:∀J,Imm.le I J→(∀x∈A,J x.1=some x.2)→Tri P f args J F (Go.Lx.Ret v F)),Tri P f args I (A++F) (Go.Lx.Ret v (A++F))
 | [],I,F,h=>h I (Imm.le_refl I) fun x hx=>absurd hx (by simp)
 | (b,o)::A,I,F,h=>Tri.lend1 fun J hJ hb=>Tri.lendL A fun K hK hA=>h K (Imm.le_trans hJ hK) fun x hx=>by
   rcases List.mem_cons.1 hx with rfl | hx
   ·exact hK.at hb
   ·exact hA x hx
theorem Tri.lend{F:Heap}{I:Imm}(h:∀J,Imm.le I J→(∀x∈F,J x.1=some x.2)→Tri P f args J [] (Go.Lx.Ret v [])):Tri P f args I F (Go.Lx.Ret v F):=by
 have:=Tri.lendL (f:=f) (args:=args) (v:=v) F (F:=[]) h
 rwa [List.append_nil] at this
end
theorem Rd.lend{I J:Imm}{G:Heap}{ad:Addr}{cs:List Value}(h:Rd I G ad cs)(hl:Imm.le I J)(hs:∀x∈G,J x.1=some x.2):Rd J [] ad cs:=by
 obtain⟨h1,cells,e,fz,h2,h3⟩:=h
 exact⟨h1,cells,e,fz,.inl (h2.elim (fun h=>hl.at h) fun h=>hs _ h),h3⟩
theorem SlG.lend{α:Type}{I J:Imm}{G:Heap}{z:Nat}{f:α→List Value}{a:Option Addr}{n:Nat}{l:List α}(h:SlG I G z f a n l)(hl:Imm.le I J)(hs:∀x∈G,J x.1=some x.2):SlG J [] z f a n l :=
 ⟨h.1,fun hne=>let ⟨ad,ha,hr⟩:=h.2 hne;⟨ad,ha,fun i x hx=>(hr i x hx).lend hl hs⟩⟩
end Go.Vc
namespace Go.Lx
open Go.Vc
theorem NdOk.lend{I J:Imm}{G:Heap}{t:Nd}(h:NdOk I G t)(hl:Imm.le I J)(hs:∀x∈G,J x.1=some x.2):NdOk J [] t:=by
 induction h with
 | mk h1 h2 ih=>exact .mk (h1.lend hl hs) ih
def encI(x:Int):List Value:=[.int .i64 x]
theorem greatest_spec(first:Int){a:Option Addr}{n c:Nat}{l:List Int}{I:Imm}{F:Heap}(hS:SlG I F 1 encI a n l)(hn:(n:Int)≤1000000000):Tri P 42 #[.int .i64 first,.slice a n c] I F (Ret (.int .i64 (maxW first l)) F):=by
 refine cost_greatest.vc (fun m i k I' F'=>0≤i∧i≤n∧k=(n-i).toNat∧maxW first l=maxW m (l.drop i.toNat)∧F'=F) ?_
 unfold cost_greatest.V
 have hl:=hS.1
 refine⟨⟨_,by omega,by omega,rfl,rfl,rfl⟩,fun m i k I1 F1 hI ⟨g0,g1,gk,gm,gF⟩=>⟨fun hlt=>?_,fun hlt=>⟨?_,gF⟩⟩⟩
 ·have hlt:=of_decide_eq_true hlt
  subst gF
  obtain⟨ad,x,had,hx,hrd⟩:=(hS.mono hI fun _ h=>h).at g0 hlt
  refine⟨⟨g0,hlt⟩,ad,had,x,hrd,(n-(i+1)).toNat,by omega, ?_⟩
  rw[w64 (n:=i+1) (by omega)]
  refine⟨by omega,by omega,rfl, ?_,rfl⟩
  have hd:l.drop i.toNat=x::l.drop (i.toNat+1):=by
   have hk:i.toNat<l.length:=by omega
   rw[List.drop_eq_getElem_cons hk]
   rw[List.getElem?_eq_getElem hk] at hx
   cases hx;rfl
  rw[gm,hd,show (i+1).toNat=i.toNat+1 by omega]
  show maxW (max m x) _=_
  congr 1
  split<;>omega
 ·have hlt:=of_decide_eq_false hlt
  rw[gm,List.drop_eq_nil_of_le (by omega)];rfl
theorem greatest1(first x:Int){b t:Nat}{fz:Nat×Nat}{I:Imm}{F:Heap}(hb:I b=some (.cells #[.int .i64 x] t fz)):Tri P 42 #[.int .i64 first,.slice (some ⟨b,0,none⟩) 1 1] I F (Ret (.int .i64 (max first x)) F):=by
 have h:SlG I F 1 encI (some ⟨b,0,none⟩) 1 [x]:=(Sl.of_block (f:=encI) (z:=1) (l:=[x]) (fun _=>rfl) hb (fun k hk=>by
  have:k<1:=hk
  have:k=0:=by omega
  subst this;rfl)).slg F
 exact greatest_spec first h (by omega)
theorem sumW_drop{l:List Nd}{i:Nat}{x:Nd}(h:l[i]? = some x):sumW ((l.drop i).map fun y=>y.px.wt)=x.px.wt+sumW ((l.drop (i+1)).map fun y=>y.px.wt):=by
 obtain⟨hk,hx⟩:=List.getElem?_eq_some_iff.1 h
 rw[List.drop_eq_getElem_cons hk,List.map_cons,sumW,hx]
theorem sumW_le:∀{l:List Nd},(∀k∈l,k.px.formed=true)→0≤sumW (l.map fun y=>y.px.wt)∧sumW (l.map fun y=>y.px.wt)≤2*Px.sizeL (l.map Nd.px)
 | [],_=>⟨Int.le_refl 0,Int.le_refl 0⟩
 | x::r,h=>by
   have h1:=Px.wt_range x.px (h x (.head _))
   have h2:=sumW_le fun k hk=>h k (.tail _ hk)
   rw[List.map_cons,List.map_cons,sumW,Px.sizeL]
   omega
theorem wt_kids(t:Nd):t.px.wt=wtF t.kind (t.kids.map fun y=>y.px.wt):=by rw[Px.wt_eq,Nd.px_kind,Nd.px_kids,List.map_map];rfl
theorem weight_spec0:∀(t:Nd),t.px.size≤4194304→t.px.formed=true→∀(I:Imm) (F:Heap),NdOk I [] t→Tri P 32 #[t.v] I F (Ret (.int .i64 t.px.wt) F):=by
 refine Nd.ind fun t ih hs hf I F ht=>?_
 have hln:=size_len hs
 have hr:=Px.wt_range t.px hf
 have h1:t.px.oneB=true:=by rw[Px.formed_eq,Bool.and_eq_true] at hf;exact hf.1
 have hl:(t.kids.length:Nat)=Px.arity t.px:=by
  unfold Px.oneB at h1
  rw[Bool.and_eq_true,decide_eq_true_eq,Nd.px_kids,List.length_map] at h1
  exact h1.2
 have hkf:∀k∈t.kids,k.px.formed=true:=fun k hk=>Px.formed_kid hf _ (by rw[Nd.px_kids];exact List.mem_map_of_mem hk)
 have hat:∀{J:Imm} {G:Heap} {i:Int},Imm.le I J→0≤i→i<t.kids.length→∃ad x,t.a=some ad∧t.kids[i.toNat]? = some x∧Rd J G (ad.add (Int.toNat i*8)) x.enc ∧
   (1≤x.px.wt∧x.px.wt+1≤2*x.px.size)∧x.px.size≤4194304∧∀(K:Imm) (H:Heap),Imm.le J K→Tri P 32 #[x.v] K H (Ret (.int .i64 x.px.wt) H):=by
  intro J G i hJ g0 hlt
  obtain⟨ad,x,had,hx,hrd,hxo,hxm⟩:=(ht.mono hJ fun _ h=>h).kids.at g0 hlt
  exact⟨ad,x,had,hx,hrd.sub (Imm.le_refl J) (fun _ h=>absurd h (by simp)),Px.wt_range _ (hkf x hxm),size_kid hxm hs,fun K H hK=>ih x hxm (size_kid hxm hs) (hkf x hxm) K H (hxo.mono hK fun _ h=>h)⟩
 have hwt:=wt_kids t
 refine cost_weight.vc (fun _ sum i m I0 F0 I' F'=>0≤i∧i≤t.kids.length∧m=(t.kids.length-i).toNat∧1≤sum∧t.px.wt=sum+sumW ((t.kids.drop i.toNat).map fun y=>y.px.wt)∧F'=F) ?_
 unfold cost_weight.V
 intro b_n
 refine⟨fun h7=>?_,fun h7=>⟨fun h9=>?_,fun h9=>⟨?_,fun sum i m I1 F1 hI ⟨g0,g1,gm,g2,gs,gF⟩=>⟨fun hlt=>?_,fun hlt=>⟨?_,gF⟩⟩⟩⟩⟩
 ·have h7:t.kind=7:=by simpa using h7
  have h3:t.kids.length=3:=by rw[hl];unfold Px.arity;rw[Nd.px_kind,h7];rfl
  obtain⟨ad0,x0,ha0,hx0,hr0,hw0,hs0,ht0⟩:=hat (i:=0) (G:=(b_n,.cells t.enc.toArray 28 (0,0))::F) (Imm.le_refl I) (by omega) (by omega)
  obtain⟨ad1,x1,ha1,hx1,hr1,hw1,hs1,ht1⟩:=hat (i:=1) (G:=[]) (Imm.le_refl I) (by omega) (by omega)
  obtain⟨ad2,x2,ha2,hx2,hr2,hw2,hs2,ht2⟩:=hat (i:=2) (G:=[]) (Imm.le_refl I) (by omega) (by omega)
  refine⟨⟨by omega,by omega⟩,ad0,ha0,⟨by omega,by omega⟩,ad1,ha1,_,_,_,_,_,_,_,_,_,_,hr1,⟨by omega,by omega⟩,ad2,ha2,_,_,_,_,_,_,_,_,_,_,hr2,_,_,_,_,_,_,_,_,_,_,hr0, ?_⟩
  refine Tri.ret (ht0 I _ (Imm.le_refl I)) fun I1 l1=>⟨_,rfl,F,.refl _,Tri.ret (ht1 I1 _ l1) fun I2 l2=>⟨_,rfl,F,.refl _,Tri.ret (ht2 I2 _ (Imm.le_trans l1 l2)) fun I3 l3=>⟨_,rfl,F,.refl _,fun b I4 l4 hb =>
   Tri.ret (greatest1 x1.px.wt x2.px.wt hb) fun I5 l5=>⟨_,rfl,F,.refl _, ?_,rfl⟩⟩⟩⟩
  rw[w64 (n:=x0.px.wt+max x1.px.wt x2.px.wt) (by omega),w64 (by omega),hwt]
  unfold wtF
  rw[if_pos h7]
  match hk:t.kids,h3 with
  | [a,b,c],_ =>
    rw[hk] at hx0 hx1 hx2
    cases hx0;cases hx1;cases hx2
    rfl
 ·have h7:t.kind≠7:=by simpa using h7
  have h9:t.kind=9:=by simpa using h9
  have h3:t.kids.length=1:=by rw[hl];unfold Px.arity;rw[Nd.px_kind,h9];rfl
  obtain⟨ad0,x0,ha0,hx0,hr0,hw0,hs0,ht0⟩:=hat (i:=0) (G:=(b_n,.cells t.enc.toArray 28 (0,0))::F) (Imm.le_refl I) (by omega) (by omega)
  refine⟨⟨by omega,by omega⟩,ad0,ha0,_,_,_,_,_,_,_,_,_,_,hr0,Tri.ret (ht0 I _ (Imm.le_refl I)) fun I1 l1=>⟨_,rfl,F,.refl _, ?_,rfl⟩⟩
  rw[hwt]
  unfold wtF
  rw[if_neg h7,if_pos h9]
  match hk:t.kids,h3 with
  | [a],_ =>
    rw[hk] at hx0
    cases hx0
    show _=Ending.returned (Value.int .i64 (0+(x0.px.wt+0)))
    rw[Int.add_zero,Int.zero_add]
 ·have h7:t.kind≠7:=by simpa using h7
  have h9:t.kind≠9:=by simpa using h9
  refine⟨_,by omega,by omega,rfl,by omega, ?_,rfl⟩
  rw[hwt]
  unfold wtF
  rw[if_neg h7,if_neg h9];rfl
 ·have hlt:=of_decide_eq_true hlt
  subst gF
  obtain⟨ad0,x0,ha0,hx0,hr0,hw0,hs0,ht0⟩:=hat (G:=(b_n,.cells t.enc.toArray 28 (0,0))::F1) hI g0 hlt
  have hd:=sumW_le (l:=t.kids.drop (i.toNat+1)) fun k hk=>hkf k (List.mem_of_mem_drop hk)
  rw[sumW_drop hx0] at gs
  refine⟨⟨g0,hlt⟩,ad0,ha0,_,_,_,_,_,_,_,_,_,_,hr0,fun b_k=>Tri.ret (ht0 I1 _ (Imm.le_refl I1)) fun I2 l2=>⟨_,rfl,F1,.refl _,(t.kids.length-(i+1)).toNat,by omega, ?_⟩⟩
  rw[w64 (n:=i+1) (by omega),w64 (n:=sum+x0.px.wt) (by omega)]
  refine⟨by omega,by omega,rfl,by omega, ?_,rfl⟩
  rw[gs,show (i+1).toNat=i.toNat+1 by omega,Int.add_assoc]
 ·have hlt:=of_decide_eq_false hlt
  rw[gs,List.drop_eq_nil_of_le (by omega)]
  show _=Ending.returned (Value.int .i64 (sum+0))
  rw[Int.add_zero]
theorem weight_spec(t:Nd)(hs:t.px.size≤4194304)(hf:t.px.formed=true)(I:Imm)(F:Heap)(ht:NdOk I F t):Tri P 32 #[t.v] I F (Ret (.int .i64 t.px.wt) F) :=
 Tri.lend fun J hJ hF=>weight_spec0 t hs hf J [] (ht.lend hJ hF)
end Go.Lx
namespace Go.Lx
open Go.Vc
theorem sumW_nonneg:∀{l:List Int},(∀x∈l,0≤x)→0≤sumW l
 | [],_=>Int.le_refl 0
 | x::r,h=>by
   have h1:=h x (.head _)
   have h2:=sumW_nonneg fun y hy=>h y (.tail _ hy)
   rw[sumW];omega
theorem sumW_most{B:Int}:∀{l:List Int},(∀x∈l,x≤B)→sumW l≤B*l.length
 | [],_=>by rw[sumW];simp
 | x::r,h=>by
   have h1:=h x (.head _)
   have h2:=sumW_most fun y hy=>h y (.tail _ hy)
   rw[sumW,List.length_cons,Int.natCast_add,Int.mul_add];omega
structure Px.Part (x:Px):Prop where
 ok:x.kind=0∨x.formed=true
 size:x.size≤1048576
theorem Px.Part.range{x:Px}(h:x.Part):0≤partW x∧partW x≤2097152:=by
 unfold partW
 split
 ·omega
 ·rename_i h0
  have:=Px.wt_range x (h.ok.resolve_left h0)
  have:=h.size
  omega
def DoP.Sound(d:DoP):Prop:=∀x∈d.nds,x.Part
theorem DoP.Sound.range{d:DoP}(h:d.Sound):0≤d.wt∧d.wt≤8388608:=by
 have h1:=(h d.side (.head _)).range
 have h2:=(h d.qty (.tail _ (.head _))).range
 have h3:=(h d.price (.tail _ (.tail _ (.head _)))).range
 have h4:=(h d.value (.tail _ (.tail _ (.tail _ (.head _))))).range
 unfold DoP.wt;omega
structure RuleP.Sound (r:RuleP):Prop where
 when:r.when.formed=true
 size:r.when.size≤1048576
 len:r.dos.length≤8
 dos:∀d∈r.dos,d.Sound
theorem RuleP.Sound.body{r:RuleP}(h:r.Sound):0≤r.body∧r.body≤67108864:=by
 have h1:=sumW_nonneg (l:=r.dos.map DoP.wt) fun x hx=>by obtain⟨d,hd,rfl⟩:=List.mem_map.1 hx;exact (h.dos d hd).range.1
 have h2:=sumW_most (B:=8388608) (l:=r.dos.map DoP.wt) fun x hx=>by obtain⟨d,hd,rfl⟩:=List.mem_map.1 hx;exact (h.dos d hd).range.2
 rw[List.length_map] at h2
 have h3:=h.len
 unfold RuleP.body;omega
theorem DoP.act_range(d:DoP):0≤d.act∧d.act≤1:=by unfold DoP.act;split<;>omega
theorem RuleP.acts_range(r:RuleP):0≤r.acts∧r.acts≤r.dos.length:=by
 have h1:=sumW_nonneg (l:=r.dos.map DoP.act) fun x hx=>by obtain⟨d,hd,rfl⟩:=List.mem_map.1 hx;exact d.act_range.1
 have h2:=sumW_most (B:=1) (l:=r.dos.map DoP.act) fun x hx=>by obtain⟨d,hd,rfl⟩:=List.mem_map.1 hx;exact d.act_range.2
 rw[List.length_map] at h2
 unfold RuleP.acts;omega
structure StateP.Sound (x:StateP):Prop where
 len:x.rules.length≤12
 rules:∀r∈x.rules,r.Sound
structure StgP.Sound (s:StgP):Prop where
 some:0<s.states.length
 len:s.states.length≤12
 states:∀x∈s.states,x.Sound
theorem partE_part{b:Bool}{x:Px}(h:partE b x=0)(hs:x.size≤1048576):x.Part:=by
 refine⟨?_,hs⟩
 unfold partE at h
 split at h
 ·exact .inr (checkE_formed h)
 ·have:=errB_z (by decide) h
  unfold Px.noneB at this
  simp only[Bool.and_eq_true,beq_iff_eq] at this
  exact .inl this.1.1
theorem StgP.sound{s:StgP}(h:s.check=0)(hl:s.Thin):s.Sound:=by
 unfold StgP.check at h
 obtain⟨_,h⟩:=thenE_z h
 obtain⟨_,h⟩:=thenE_z h
 obtain⟨_,h⟩:=thenE_z h
 obtain⟨_,h⟩:=thenE_z h
 obtain⟨_,h⟩:=thenE_z h
 obtain⟨h0,h⟩:=thenE_z h
 obtain⟨h12,h⟩:=thenE_z h
 refine⟨of_decide_eq_true (errB_z (by decide) h0),of_decide_eq_true (errB_z (by decide) h12),fun x hx=>?_⟩
 have h1:=firstE_z h x hx
 have hxl:=(hl.state x hx).2
 unfold StateP.check at h1
 obtain⟨_,h1⟩:=thenE_z h1
 obtain⟨h2,h1⟩:=thenE_z h1
 refine⟨of_decide_eq_true (errB_z (by decide) h2),fun r hr=>?_⟩
 have h3:=firstE_z h1 r hr
 obtain⟨l1,l2,l3⟩:=hxl r hr
 unfold RuleP.check at h3
 obtain⟨hw,h3⟩:=thenE_z h3
 obtain⟨_,h3⟩:=thenE_z h3
 obtain⟨h8,h3⟩:=thenE_z h3
 refine⟨checkE_formed hw,l1,of_decide_eq_true (errB_z (by decide) h8),fun d hd=>?_⟩
 have h4:=firstE_z h3 d hd
 have l4:=l3 d hd
 unfold DoP.check at h4
 obtain⟨_,h4⟩:=thenE_z h4
 obtain⟨_,h4⟩:=thenE_z h4
 obtain⟨_,h4⟩:=thenE_z h4
 obtain⟨p1,h4⟩:=thenE_z h4
 obtain⟨p2,h4⟩:=thenE_z h4
 obtain⟨p3,p4⟩:=thenE_z h4
 intro y hy
 have hy':=l4 y hy
 simp only[DoP.nds,List.mem_cons,List.not_mem_nil,or_false] at hy
 rcases hy with rfl | rfl | rfl | rfl
 ·exact partE_part p1 hy'
 ·exact partE_part p2 hy'
 ·exact partE_part p3 hy'
 ·exact partE_part p4 hy'
theorem expr16_spec(t:Nd)(hs:t.px.size≤4194304)(I:Imm)(F:Heap)(ht:NdOk I F t):Tri P 12 #[t.v] I F (Ret (.int .i64 (if t.px.formed then t.px.wt else 0)) F):=by
 refine cost_Expr.vc ?_
 unfold cost_Expr.V
 intro b_n
 refine Tri.ret (checkExpr_specB t hs I _ (ht.cons (x:=(b_n,Obj.cells #[.int .u8 t.kind,.int .u8 t.oper,.int .u8 t.typ,.int .i64 t.n,.int .u8 t.field,.string t.name,.slice t.a t.kids.length t.c,.int .i64 t.pos] 28 (0,0))))) fun I1 l1=>⟨_,rfl,F,.refl _,fun h=>?_,fun h=>?_⟩
 ·have h:t.px.checkE=120:=by simpa using h
  have hf:t.px.formed=false:=by
   cases hf:t.px.formed with
   | false=>rfl
   | true=>unfold Px.checkE at h;rw[hf,if_pos rfl] at h;split at h<;>cases h
  rw[hf];exact⟨rfl,rfl⟩
 ·have h:t.px.checkE≠120:=by simpa using h
  have hf:t.px.formed=true:=by
   cases hf:t.px.formed with
   | true=>rfl
   | false=>exact absurd (by unfold Px.checkE;rw[hf];rfl) h
  refine Tri.ret (weight_spec t hs hf I1 _ ((ht.mono l1 fun _ h=>h).cons (x:=(b_n,Obj.cells #[.int .u8 t.kind,.int .u8 t.oper,.int .u8 t.typ,.int .i64 t.n,.int .u8 t.field,.string t.name,.slice t.a t.kids.length t.c,.int .i64 t.pos] 28 (0,0))))) fun I2 l2=>⟨_,rfl,F,.refl _, ?_⟩
  rw[hf];exact⟨rfl,rfl⟩
theorem enters_look:Enters P 41:=hP_of [41] (by kernel_rfl) _ (by decide)
theorem look16_spec(t:Nd)(hs:t.px.size≤4194304)(hf:t.px.formed=true)(b:Nat)(c:Int)(h0:0≤c)(h1:c≤1000000000)(I:Imm)(F:Heap)(ht:NdOk I F t) :
  Tri P 41 #[t.v,.pointer (some ⟨b,0,none⟩)] I ((b,.cells #[.int .i64 c] 3 (0,0))::F) fun e I' G=>e=.returned (.tuple #[])∧G=(b,.cells #[.int .i64 (c+t.px.wt)] 3 (0,0))::F:=by
 refine cost_States_1.vc ?_
 unfold cost_States_1.V
 intro b_n
 have hr:=Px.wt_range t.px hf
 refine⟨t.px.wt,(weight_spec t hs hf I _ (ht.mono (Imm.le_refl I) fun y hy=>.tail _ (.tail _ hy))).mono fun e I1 G l1 ⟨he,hG⟩=>⟨he,by rw[hG]⟩,rfl, ?_⟩
 rw[w64 (by omega)]
def partsN(d:DoN):List Nd:=[d.side,d.qty,d.price,d.value]
def sumK(l:List Nd):Int:=sumW (l.map fun y=>partW y.px)
theorem parts_sl{d:DoN}{b t:Nat}{fz:Nat×Nat}{I:Imm}(hb:I b=some (.cells #[.int .u8 d.side.kind,.int .u8 d.side.oper,.int .u8 d.side.typ,.int .i64 d.side.n,.int .u8 d.side.field,.string d.side.name,.slice d.side.a d.side.kids.length d.side.c,.int .i64 d.side.pos,.int .u8 d.qty.kind,.int .u8 d.qty.oper,.int .u8 d.qty.typ,.int .i64 d.qty.n,.int .u8 d.qty.field,.string d.qty.name,.slice d.qty.a d.qty.kids.length d.qty.c,.int .i64 d.qty.pos,.int .u8 d.price.kind,.int .u8 d.price.oper,.int .u8 d.price.typ,.int .i64 d.price.n,.int .u8 d.price.field,.string d.price.name,.slice d.price.a d.price.kids.length d.price.c,.int .i64 d.price.pos,.int .u8 d.value.kind,.int .u8 d.value.oper,.int .u8 d.value.typ,.int .i64 d.value.n,.int .u8 d.value.field,.string d.value.name,.slice d.value.a d.value.kids.length d.value.c,.int .i64 d.value.pos] t fz))(F:Heap):SlG I F 8 Nd.enc (some ⟨b,0,none⟩) 4 (partsN d) :=
 (Sl.of_block (f:=Nd.enc) (z:=8) (l:=partsN d) (fun _=>rfl) hb (fun k hk=>by
   show (List.toArray ((partsN d).flatMap Nd.enc))[k]? = _
   rw[List.getElem?_toArray])).slg F
theorem parts_ok{d:DoN}{I:Imm}{F:Heap}(h:d.Ok I F):∀x∈partsN d,NdOk I F x:=by
 intro x hx
 simp only[partsN,List.mem_cons,List.not_mem_nil,or_false] at hx
 rcases hx with rfl | rfl | rfl | rfl
 ·exact h.1
 ·exact h.2.1
 ·exact h.2.2.1
 ·exact h.2.2.2
theorem parts_sound{d:DoN}(h:d.p.Sound):∀x∈partsN d,x.px.Part:=fun x hx=>h x.px (by
 have:(partsN d).map Nd.px=d.p.nds:=rfl
 rw[←this];exact List.mem_map_of_mem hx)
theorem sumK_drop{l:List Nd}{i:Nat}{x:Nd}(h:l[i]? = some x):sumK (l.drop i)=partW x.px+sumK (l.drop (i+1)):=by
 obtain⟨hk,hx⟩:=List.getElem?_eq_some_iff.1 h
 unfold sumK
 rw[List.drop_eq_getElem_cons hk,List.map_cons,sumW,hx]
theorem sumK_nonneg{l:List Nd}(h:∀x∈l,x.px.Part):0≤sumK l:=sumW_nonneg fun x hx=>by
 obtain⟨y,hy,rfl⟩:=List.mem_map.1 hx
 exact (h y hy).range.1
theorem sumK_do(d:DoN):sumK (partsN d)=d.p.wt:=by
 show partW d.side.px+(partW d.qty.px+(partW d.price.px+(partW d.value.px+0)))=partW d.side.px+partW d.qty.px+partW d.price.px+partW d.value.px
 omega
theorem sumD_drop(f:DoP→Int){l:List DoN}{i:Nat}{x:DoN}(h:l[i]? = some x):sumW ((l.drop i).map fun d=>f d.p)=f x.p+sumW ((l.drop (i+1)).map fun d=>f d.p):=by
 obtain⟨hk,hx⟩:=List.getElem?_eq_some_iff.1 h
 rw[List.drop_eq_getElem_cons hk,List.map_cons,sumW,hx]
theorem sumD_nonneg{r:RuleN}(h:r.p.Sound)(i:Nat):0≤sumW ((r.dos.drop i).map fun d=>d.p.wt):=sumW_nonneg fun x hx=>by
 obtain⟨y,hy,rfl⟩:=List.mem_map.1 hx
 exact ((h.dos y.p (List.mem_map_of_mem (List.mem_of_mem_drop hy))).range).1
theorem body_eq(r:RuleN):r.p.body=sumW (r.dos.map fun d=>d.p.wt):=by
 show sumW ((r.dos.map DoN.p).map DoP.wt)=_
 rw[List.map_map];rfl
theorem acts_eq(r:RuleN):r.p.acts=sumW (r.dos.map fun d=>d.p.act):=by
 show sumW ((r.dos.map DoN.p).map DoP.act)=_
 rw[List.map_map];rfl
set_option maxHeartbeats 1000000 in
theorem each_spec(r:RuleN){I:Imm}{F:Heap}(hr:r.Ok I F)(hs:r.p.Sound)(b:Nat)(v:Int)(h0:0≤v)(h1:v≤100000000) :
  Tri P 40 #[r.v,.func (.func 41) #[] #[.pointer (some ⟨b,0,none⟩)]] I ((b,.cells #[.int .i64 v] 3 (0,0))::F) fun e I' G=>e=.returned (.tuple #[])∧G=(b,.cells #[.int .i64 (v+r.p.body)] 3 (0,0))::F:=by
 have hbd:=hs.body
 have hlen:=hs.len
 have hlen:r.dos.length≤8:=by simpa[RuleN.p] using hlen
 refine cost_each.vc
  (fun x m I0 F0 I' F'=>0≤x∧x≤r.dos.length∧m=(r.dos.length-x).toNat∧∃u,F'=(b,.cells #[.int .i64 u] 3 (0,0))::F∧0≤u∧u+sumW ((r.dos.drop x.toNat).map fun d=>d.p.wt)=v+r.p.body)
  (fun x k m I0 F0 I' F'=>∃d,r.dos[x.toNat]? = some d∧0≤k∧k≤4∧m=(4-k).toNat∧∃u,F'=(b,.cells #[.int .i64 u] 3 (0,0))::F∧0≤u∧u+sumK ((partsN d).drop k.toNat)+sumW ((r.dos.drop (x.toNat+1)).map fun d=>d.p.wt)=v+r.p.body) ?_
 unfold cost_each.V
 intro b_r
 refine⟨⟨_,by omega,by omega,rfl,v,rfl,h0, ?_⟩,fun x m I1 F1 l1 ⟨g0,g1,gm,u,gF,gu,gs⟩=>⟨fun hlt=>?_,fun hlt=>?_⟩⟩
 ·rw[body_eq];rfl
 ·have hlt:=of_decide_eq_true hlt
  have hr1:r.Ok I1 ((b_r,Obj.cells #[.int .u8 r.when.kind,.int .u8 r.when.oper,.int .u8 r.when.typ,.int .i64 r.when.n,.int .u8 r.when.field,.string r.when.name,.slice r.when.a r.when.kids.length r.when.c,.int .i64 r.when.pos,.slice r.a r.dos.length r.c,.int .i64 r.pos] 84 (0,0))::F1):=hr.mono l1 fun y hy=>by rw[gF];exact .tail _ (.tail _ hy)
  obtain⟨ad,d,had,hd,hrd,hdm⟩:=SlG.atm hr1.2.1 g0 hlt
  refine⟨⟨g0,hlt⟩,ad,had,_,_,_,_,_,_,_,_,_,_,_,_,_,_,_,_,_,_,_,_,_,_,_,_,_,_,_,_,_,_,_,_,_,_,_,_,_,_,_,_,_,_,_,_,hrd,fun b_d b2 I2 l2 hb2=>⟨⟨_,d,hd,by omega,by omega,rfl,u,gF,gu, ?_⟩,fun k m3 I3 F3 l3 ⟨d',hd',k0,k4,km,u',kF,ku,ks⟩=>⟨fun hk=>?_,fun hk=>?_⟩⟩⟩
  ·rw[←gs,sumD_drop DoP.wt hd]
   show u+sumK (partsN d)+_=_
   rw[sumK_do,Int.add_assoc]
  ·obtain rfl:d=d':=by rw[hd] at hd';exact Option.some.inj hd'
   have hk:=of_decide_eq_true hk
   have hso:=parts_sound (hs.dos d.p (List.mem_map_of_mem hdm))
   obtain⟨ad1,x1,had1,hx1,hrd1,hxm⟩:=SlG.atm (parts_sl (l3.at hb2) ((b_r,Obj.cells #[.int .u8 r.when.kind,.int .u8 r.when.oper,.int .u8 r.when.typ,.int .i64 r.when.n,.int .u8 r.when.field,.string r.when.name,.slice r.when.a r.when.kids.length r.when.c,.int .i64 r.when.pos,.slice r.a r.dos.length r.c,.int .i64 r.pos] 84 (0,0))::(b_d,Obj.cells #[.int .u8 d.kind,.int .u8 d.order,.string d.name,.int .u8 d.side.kind,.int .u8 d.side.oper,.int .u8 d.side.typ,.int .i64 d.side.n,.int .u8 d.side.field,.string d.side.name,.slice d.side.a d.side.kids.length d.side.c,.int .i64 d.side.pos,.int .u8 d.qty.kind,.int .u8 d.qty.oper,.int .u8 d.qty.typ,.int .i64 d.qty.n,.int .u8 d.qty.field,.string d.qty.name,.slice d.qty.a d.qty.kids.length d.qty.c,.int .i64 d.qty.pos,.int .u8 d.price.kind,.int .u8 d.price.oper,.int .u8 d.price.typ,.int .i64 d.price.n,.int .u8 d.price.field,.string d.price.name,.slice d.price.a d.price.kids.length d.price.c,.int .i64 d.price.pos,.int .u8 d.value.kind,.int .u8 d.value.oper,.int .u8 d.value.typ,.int .i64 d.value.n,.int .u8 d.value.field,.string d.value.name,.slice d.value.a d.value.kids.length d.value.c,.int .i64 d.value.pos,.int .i64 d.pos] 99 (0,0))::F3)) k0 hk
   have hp:=hso x1 hxm
   have hpr:=hp.range
   have n1:=sumK_nonneg (l:=(partsN d).drop (k.toNat+1)) fun y hy=>hso y (List.mem_of_mem_drop hy)
   have n2:=sumD_nonneg hs (x.toNat+1)
   rw[sumK_drop hx1] at ks
   refine⟨⟨k0,hk⟩,ad1,had1,_,_,_,_,_,_,_,_,_,_,hrd1,fun b_n=>⟨fun hn=>?_,fun hn=>⟨(4-(k+1)).toNat,by omega,d,hd, ?_⟩⟩⟩
   ·have hn:x1.px.kind≠0:=by rw[Nd.px_kind];simpa using hn
    have hw:partW x1.px=x1.px.wt:=if_neg hn
    subst kF
    have hok:NdOk I3 ((b_r,Obj.cells #[.int .u8 r.when.kind,.int .u8 r.when.oper,.int .u8 r.when.typ,.int .i64 r.when.n,.int .u8 r.when.field,.string r.when.name,.slice r.when.a r.when.kids.length r.when.c,.int .i64 r.when.pos,.slice r.a r.dos.length r.c,.int .i64 r.pos] 84 (0,0))::(b_d,Obj.cells #[.int .u8 d.kind,.int .u8 d.order,.string d.name,.int .u8 d.side.kind,.int .u8 d.side.oper,.int .u8 d.side.typ,.int .i64 d.side.n,.int .u8 d.side.field,.string d.side.name,.slice d.side.a d.side.kids.length d.side.c,.int .i64 d.side.pos,.int .u8 d.qty.kind,.int .u8 d.qty.oper,.int .u8 d.qty.typ,.int .i64 d.qty.n,.int .u8 d.qty.field,.string d.qty.name,.slice d.qty.a d.qty.kids.length d.qty.c,.int .i64 d.qty.pos,.int .u8 d.price.kind,.int .u8 d.price.oper,.int .u8 d.price.typ,.int .i64 d.price.n,.int .u8 d.price.field,.string d.price.name,.slice d.price.a d.price.kids.length d.price.c,.int .i64 d.price.pos,.int .u8 d.value.kind,.int .u8 d.value.oper,.int .u8 d.value.typ,.int .i64 d.value.n,.int .u8 d.value.field,.string d.value.name,.slice d.value.a d.value.kids.length d.value.c,.int .i64 d.value.pos,.int .i64 d.pos] 99 (0,0))::(b_n,Obj.cells #[.int .u8 x1.kind,.int .u8 x1.oper,.int .u8 x1.typ,.int .i64 x1.n,.int .u8 x1.field,.string x1.name,.slice x1.a x1.kids.length x1.c,.int .i64 x1.pos] 28 (0,0))::F) x1:=(parts_ok (hr.2.2 d hdm) x1 hxm).mono (Imm.le_trans (Imm.le_trans l1 l2) l3) fun y hy=>.tail _ (.tail _ (.tail _ hy))
    have hsz:=hp.size
    refine TriV.fn enters_look (by simp) (((look16_spec x1 (by omega) (hp.ok.resolve_left hn) b u' ku (by omega) I3 _ hok).perm ?_).mono fun e I4 G l4 ⟨he,hG⟩=>⟨he,(b,.cells #[.int .i64 (u'+x1.px.wt)] 3 (0,0))::F, ?_,(4-(k+1)).toNat,by omega,d,hd, ?_⟩)
    ·exact (perm_of fun z=>by simp only[cn_app,cn_cons,cn_nil];omega)
    ·rw[hG];exact (perm_of fun z=>by simp only[cn_app,cn_cons,cn_nil];omega)
    ·rw[w64 (n:=k+1) (by omega)]
     refine⟨by omega,by omega,rfl,u'+x1.px.wt,rfl,by omega, ?_⟩
     rw[show (k+1).toNat=k.toNat+1 by omega,←ks,hw];omega
   ·have hn:x1.px.kind=0:=by rw[Nd.px_kind];simpa using hn
    have hw:partW x1.px=0:=if_pos hn
    rw[w64 (n:=k+1) (by omega)]
    refine⟨by omega,by omega,rfl,u',kF,ku, ?_⟩
    rw[show (k+1).toNat=k.toNat+1 by omega,←ks,hw];omega
  ·obtain rfl:d=d':=by rw[hd] at hd';exact Option.some.inj hd'
   have hk:=of_decide_eq_false hk
   refine⟨(r.dos.length-(x+1)).toNat,by omega, ?_⟩
   rw[w64 (n:=x+1) (by omega)]
   refine⟨by omega,by omega,rfl,u',kF,ku, ?_⟩
   rw[show (x+1).toNat=x.toNat+1 by omega,←ks,List.drop_eq_nil_of_le (show (partsN d).length≤k.toNat by show 4≤_;omega)]
   show _=u'+0+_
   omega
 ·have hlt:=of_decide_eq_false hlt
  rw[List.drop_eq_nil_of_le (by omega)] at gs
  have gs:u+0=v+r.p.body:=gs
  refine⟨rfl, ?_⟩
  rw[gF,←gs,Int.add_zero]
theorem acts16_spec(r:RuleN){I:Imm}{F:Heap}(hr:r.Ok I F)(hlen:r.dos.length≤1048576):Tri P 43 #[r.v] I F (Ret (.int .i64 r.p.acts) F):=by
 refine cost_acts.vc (fun u x m I' F'=>0≤x∧x≤r.dos.length∧m=(r.dos.length-x).toNat∧F'=F∧0≤u∧u≤x∧u+sumW ((r.dos.drop x.toNat).map fun d=>d.p.act)=r.p.acts) ?_
 unfold cost_acts.V
 intro b_r
 refine⟨⟨_,by omega,by omega,rfl,rfl,by omega,by omega, ?_⟩,fun u x m I1 F1 l1 ⟨g0,g1,gm,gF,u0,u1,gs⟩=>⟨fun hlt=>?_,fun hlt=>⟨?_,gF⟩⟩⟩
 ·rw[acts_eq,Int.zero_add];rfl
 ·have hlt:=of_decide_eq_true hlt
  subst gF
  obtain⟨ad,d,had,hd,hrd,hdm⟩:=SlG.atm ((hr.mono l1 fun _ h=>h).cons (x:=(b_r,Obj.cells #[.int .u8 r.when.kind,.int .u8 r.when.oper,.int .u8 r.when.typ,.int .i64 r.when.n,.int .u8 r.when.field,.string r.when.name,.slice r.when.a r.when.kids.length r.when.c,.int .i64 r.when.pos,.slice r.a r.dos.length r.c,.int .i64 r.pos] 84 (0,0)))).2.1 g0 hlt
  rw[sumD_drop DoP.act hd] at gs
  have key:∀w,w=u+d.p.act→∃m2:Nat,m2<m∧(0≤IntKind.wrap .i64 (x+1)∧IntKind.wrap .i64 (x+1)≤r.dos.length∧m2=(r.dos.length-IntKind.wrap .i64 (x+1)).toNat∧F1=F1∧0≤w∧w≤IntKind.wrap .i64 (x+1) ∧
    w+sumW ((r.dos.drop (IntKind.wrap .i64 (x+1)).toNat).map fun d=>d.p.act)=r.p.acts):=by
   intro w hw
   have:=d.p.act_range
   rw[w64 (n:=x+1) (by omega)]
   refine⟨(r.dos.length-(x+1)).toNat,by omega,by omega,by omega,rfl,rfl,by omega,by omega, ?_⟩
   rw[show (x+1).toNat=x.toNat+1 by omega,←gs];omega
  have hk:d.p.kind=d.kind:=rfl
  have hw:IntKind.wrap .i64 (u+1)=u+1:=w64 (by omega)
  refine⟨⟨g0,hlt⟩,ad,had,_,_,_,_,_,_,_,_,_,_,_,_,_,_,_,_,_,_,_,_,_,_,_,_,_,_,_,_,_,_,_,_,_,_,_,_,_,_,_,_,_,_,_,_,hrd,fun b_d=>⟨fun h=>?_,fun h=>⟨fun h2=>?_,fun h2=>⟨fun h3=>?_,fun h3=>?_⟩⟩⟩⟩
  ·rw[hw];exact key _ (by unfold DoP.act;rw[hk,if_pos (by simp at h;exact .inl h)])
  ·rw[hw];exact key _ (by unfold DoP.act;rw[hk,if_pos (by simp at h2;exact .inr (.inl h2))])
  ·rw[hw];exact key _ (by unfold DoP.act;rw[hk,if_pos (by simp at h3;exact .inr (.inr h3))])
  ·refine key _ ?_
   simp at h h2 h3
   unfold DoP.act;rw[hk,if_neg (by omega),Int.add_zero]
 ·have hlt:=of_decide_eq_false hlt
  rw[List.drop_eq_nil_of_le (by omega)] at gs
  have gs:u+0=r.p.acts:=gs
  rw[←gs,Int.add_zero]
end Go.Lx
namespace Go.Vc
theorem Imm.le_put{I:Imm}{b:Nat}{o:Obj}(h:I b=none):Imm.le I (I.put b o):=⟨fun c x hc=>by
 have hne:c≠b:=fun e=>by rw[e,h] at hc;cases hc
 show (if c=b then some o else I c)=some x
 rw[if_neg hne];exact hc,rfl,rfl⟩
theorem Imm.le_del{I I':Imm}{b:Nat}{o:Obj}(hb:I b=none)(hl:Imm.le (I.put b o) I'):Imm.le I (I'.del b):=⟨fun x y hx=>by
 have hne:x≠b:=fun e=>by rw[e,hb] at hx;cases hx
 show (if x=b then none else I' x)=some y
 rw[if_neg hne]
 exact hl.at (by simp[Imm.put,hne,hx]),hl.2.1,hl.2.2⟩
theorem Imm.del_none(I:Imm)(b:Nat):I.del b b=none:=if_pos rfl
theorem splice_app{α:Type}(v w:α)(B:List α):∀A:List α,splice A.length [v] (A++w::B)=A++v::B
 | []=>by cases B<;>simp[splice]
 | a::A=>by rw[List.length_cons,List.cons_append,splice,splice_app v w B A];rfl
theorem Tri.off{P:Program}{f:FuncId}{args:Array Value}{I:Imm}{F:Heap}{Q:Ending→Imm→Heap→Prop}(h:Tri P f args I F Q):Tri P f args I F fun e I' G=>Q e I' G∧∀b o,(b,o)∈G→I' b=none :=
 h.keep fun e I' G w hl hs hq=>⟨I',G,Imm.le_refl I',hs,hq,fun b o hm=>hs.off b o hm⟩
end Go.Vc
namespace Go.Lx
open Go.Vc
abbrev C2:Type:=Int×Int
def encC(c:C2):List Value:=[.int .i64 c.1,.int .i64 c.2]
def StateP.cost(x:StateP):C2:=(x.steps,x.acts)
def StgP.costs(s:StgP):List C2:=s.states.map StateP.cost
def z16:Value:=.int .i64 0
theorem made16(n:Nat):madeCells (Value.agg #[.int .i64 0,.int .i64 0]).cells n=(List.replicate n z16).toArray:=by
 show madeCells #[z16,z16] n=_
 refine Array.ext (by rw[size_madeCells];simp) fun i h1 h2=>?_
 have:i % 2=0∨i % 2=1:=by omega
 rcases this with h | h<;>simp[madeCells,h]
theorem maxW_cons(m x:Int)(r:List Int):maxW m (x::r)=maxW (max m x) r:=rfl
theorem maxW_ge:∀(l:List Int) (m:Int),m≤maxW m l
 | [],m=>Int.le_refl m
 | x::r,m=>by have:=maxW_ge r (max m x);rw[maxW_cons];omega
theorem maxW_le{B:Int}:∀(l:List Int) (m:Int),m≤B→(∀x∈l,x≤B)→maxW m l≤B
 | [],m,h,_=>h
 | x::r,m,h,hl=>by rw[maxW_cons];exact maxW_le r _ (by have:=hl x (.head _);omega) fun y hy=>hl y (.tail _ hy)
theorem steps_eq(x:StateN):x.p.steps=sumW (x.rules.map fun r=>r.when.px.wt)+maxW 0 (x.rules.map fun r=>r.p.body):=by
 show sumW ((x.rules.map RuleN.p).map fun r=>r.when.wt)+maxW 0 ((x.rules.map RuleN.p).map RuleP.body)=_
 rw[List.map_map,List.map_map];rfl
theorem acts_st(x:StateN):x.p.acts=maxW 0 (x.rules.map fun r=>r.p.acts):=by
 show maxW 0 ((x.rules.map RuleN.p).map RuleP.acts)=_
 rw[List.map_map];rfl
theorem StateP.Sound.when{x:StateN}(h:x.p.Sound):∀r∈x.rules,0≤r.when.px.wt∧r.when.px.wt≤2097152:=fun r hr=>by
 have h1:=h.rules r.p (List.mem_map_of_mem hr)
 have:=Px.wt_range r.when.px h1.when
 have:r.when.px.size≤1048576:=h1.size
 omega
theorem StateP.Sound.range{x:StateN}(h:x.p.Sound):(0≤x.p.steps∧x.p.steps≤100000000)∧0≤x.p.acts∧x.p.acts≤8:=by
 have h1:=sumW_nonneg (l:=x.rules.map fun r=>r.when.px.wt) fun w hw=>by obtain⟨r,hr,rfl⟩:=List.mem_map.1 hw;exact (h.when r hr).1
 have h2:=sumW_most (B:=2097152) (l:=x.rules.map fun r=>r.when.px.wt) fun w hw=>by obtain⟨r,hr,rfl⟩:=List.mem_map.1 hw;exact (h.when r hr).2
 have h3:=maxW_ge (x.rules.map fun r=>r.p.body) 0
 have h4:=maxW_le (B:=67108864) (x.rules.map fun r=>r.p.body) 0 (by decide) fun w hw=>by obtain⟨r,hr,rfl⟩:=List.mem_map.1 hw;exact (h.rules r.p (List.mem_map_of_mem hr)).body.2
 have h5:=maxW_ge (x.rules.map fun r=>r.p.acts) 0
 have h6:=maxW_le (B:=8) (x.rules.map fun r=>r.p.acts) 0 (by decide) fun w hw=>by
  obtain⟨r,hr,rfl⟩:=List.mem_map.1 hw
  have:=r.p.acts_range
  have:=(h.rules r.p (List.mem_map_of_mem hr)).len
  omega
 have hl:=h.len
 have hl:x.rules.length≤12:=by simpa[StateN.p] using hl
 rw[List.length_map] at h2
 rw[steps_eq,acts_st]
 omega
def doneC(s:StgN)(i:Nat):List Value:=(s.states.take i).flatMap fun y=>encC y.p.cost
theorem doneC_len(s:StgN){i:Nat}(h:i≤s.states.length):(doneC s i).length=i*2:=by
 unfold doneC
 rw[flat_len (z:=2) (fun _=>rfl),List.length_take,Nat.min_eq_left h]
theorem doneC_next(s:StgN){i:Nat}{y:StateN}(h:s.states[i]? = some y):doneC s (i+1)=doneC s i++[.int .i64 y.p.steps,.int .i64 y.p.acts]:=by
 obtain⟨hk,hx⟩:=List.getElem?_eq_some_iff.1 h
 unfold doneC
 rw[List.take_succ_eq_append_getElem hk,List.flatMap_append,hx]
 show _=_++_
 simp[encC,StateP.cost]
def cells16(s:StgN)(i:Nat)(st ac:Int):List Value:=doneC s i ++ .int .i64 st :: .int .i64 ac::List.replicate ((s.states.length-(i+1))*2) z16
def cells0(s:StgN)(i:Nat):List Value:=doneC s i++List.replicate ((s.states.length-i)*2) z16
theorem cells0_at(s:StgN){i:Nat}(h:i<s.states.length):cells0 s i=cells16 s i 0 0:=by
 unfold cells0 cells16
 rw[show (s.states.length-i)*2=(s.states.length-(i+1))*2+1+1 by omega,List.replicate_succ,List.replicate_succ];rfl
theorem cells16_done(s:StgN){i:Nat}{y:StateN}(h:s.states[i]? = some y):cells16 s i y.p.steps y.p.acts=cells0 s (i+1):=by
 unfold cells0 cells16
 rw[doneC_next s h,List.append_assoc];rfl
theorem cells0_end(s:StgN):cells0 s s.states.length=s.p.costs.flatMap encC:=by
 unfold cells0 doneC StgP.costs
 rw[List.take_length,Nat.sub_self,Nat.zero_mul,List.replicate_zero,List.append_nil]
 show _=((s.states.map StateN.p).map StateP.cost).flatMap encC
 rw[List.map_map,List.flatMap_map];rfl
theorem cells16_len(s:StgN){i:Nat}(h:i<s.states.length)(st ac:Int):(cells16 s i st ac).length=s.states.length*2:=by
 unfold cells16
 rw[List.length_append,doneC_len s (by omega),List.length_cons,List.length_cons,List.length_replicate];omega
theorem cells16_steps(s:StgN){i:Nat}(h:i<s.states.length)(st ac v:Int):splice (i*2) [.int .i64 v] (cells16 s i st ac)=cells16 s i v ac:=by
 unfold cells16
 rw[←doneC_len s (by omega),splice_app]
theorem cells16_acts(s:StgN){i:Nat}(h:i<s.states.length)(st ac v:Int):splice (i*2+1) [.int .i64 v] (cells16 s i st ac)=cells16 s i st v:=by
 unfold cells16
 have e:∀w:Int,doneC s i ++ .int .i64 st :: .int .i64 w::List.replicate ((s.states.length-(i+1))*2) z16=(doneC s i++[.int .i64 st]) ++ .int .i64 w::List.replicate ((s.states.length-(i+1))*2) z16:=fun w=>by rw[List.append_assoc];rfl
 rw[e,e,show i*2+1=(doneC s i++[Value.int .i64 st]).length by rw[List.length_append,doneC_len s (by omega)];rfl,splice_app]
theorem cells16_at0(s:StgN){i:Nat}(h:i<s.states.length)(st ac:Int):(cells16 s i st ac)[i*2]? = some (.int .i64 st):=by
 unfold cells16
 have hd:=doneC_len s (i:=i) (by omega)
 rw[List.getElem?_append_right (by omega),show i*2-(doneC s i).length=0 by omega];rfl
theorem cells16_at1(s:StgN){i:Nat}(h:i<s.states.length)(st ac:Int):(cells16 s i st ac)[i*2+1]? = some (.int .i64 ac):=by
 unfold cells16
 have hd:=doneC_len s (i:=i) (by omega)
 rw[List.getElem?_append_right (by omega),show i*2+1-(doneC s i).length=1 by omega];rfl
theorem addr2(b n k:Nat):((⟨b,0,none⟩:Addr).add n).add k=⟨b,n+k,none⟩:=by rw[add_lit0];unfold Addr.add;split<;>simp_all
abbrev cost16(s:StgN)(bl i:Nat)(st ac:Int):Nat×Obj:=(bl,.cells (cells16 s i st ac).toArray 57 (0,0))
theorem rd16_0{s:StgN}{bl i:Nat}{st ac:Int}(hi:i<s.states.length){I:Imm}{G:Heap}(h:I bl=some (cost16 s bl i st ac).2∨cost16 s bl i st ac∈G):Rd I G (⟨bl,i*2+0,none⟩:Addr) [.int .i64 st] :=
 ⟨rfl,_,_,_,h,fun j hj=>by
   have:j=0:=by simpa using hj
   subst this
   show (cells16 s i st ac).toArray[i*2+0+0]? = _
   rw[List.getElem?_toArray];exact cells16_at0 s hi st ac⟩
theorem rd16_1{s:StgN}{bl i:Nat}{st ac:Int}(hi:i<s.states.length){I:Imm}{G:Heap}(h:I bl=some (cost16 s bl i st ac).2∨cost16 s bl i st ac∈G):Rd I G (⟨bl,i*2+1,none⟩:Addr) [.int .i64 ac] :=
 ⟨rfl,_,_,_,h,fun j hj=>by
   have:j=0:=by simpa using hj
   subst this
   show (cells16 s i st ac).toArray[i*2+1+0]? = _
   rw[List.getElem?_toArray];exact cells16_at1 s hi st ac⟩
theorem sumR_drop(f:RuleN→Int){l:List RuleN}{i:Nat}{x:RuleN}(h:l[i]? = some x):sumW ((l.drop i).map f)=f x+sumW ((l.drop (i+1)).map f):=by
 obtain⟨hk,hx⟩:=List.getElem?_eq_some_iff.1 h
 rw[List.drop_eq_getElem_cons hk,List.map_cons,sumW,hx]
theorem maxR_drop(f:RuleN→Int){l:List RuleN}{i:Nat}{x:RuleN}(h:l[i]? = some x)(m:Int):maxW m ((l.drop i).map f)=maxW (max m (f x)) ((l.drop (i+1)).map f):=by
 obtain⟨hk,hx⟩:=List.getElem?_eq_some_iff.1 h
 rw[List.drop_eq_getElem_cons hk,List.map_cons,maxW_cons,hx]
theorem types_check{s:StgP}(h:s.types.e=0):s.check=0:=by
 unfold StgP.types at h
 split at h
 ·rename_i hc;exact absurd h hc
 ·rename_i hc;exact Decidable.not_not.1 hc
def StatesQ(s:StgN)(F:Heap)(e:Ending)(I:Imm)(G:Heap):Prop :=
 (s.p.types.e≠0∧∃v,e=.returned (.tuple #[.slice none 0 0,v])∧FltE s.p.types v I∧G=F) ∨
 (s.p.types.e=0∧∃bl,e=.returned (.tuple #[.slice (some ⟨bl,0,none⟩) s.states.length s.states.length,.nilIface])∧G.Perm ((bl,.cells (s.p.costs.flatMap encC).toArray 57 (0,0))::F))
set_option maxHeartbeats 4000000 in
theorem states16_spec(s:StgN)(hl:s.p.Thin){I:Imm}{F:Heap}(hok:s.Ok I F)(hg:Gl I):Tri P 19 #[s.v] I F (StatesQ s F):=by
 refine cost_States.vc
  (fun ps ra rn rc x m I0 F0 I' F'=>0≤x∧x≤s.states.length∧m=(s.states.length-x).toNat∧s.p.types.e=0∧∃bl,ra=some (⟨bl,0,none⟩:Addr)∧rn=s.states.length∧rc=s.states.length∧F'.Perm ((bl,.cells (cells0 s x.toNat).toArray 57 (0,0))::F))
  (fun ps ra rn rc x px most k m I0 F0 I' F'=>∃y,s.states[x.toNat]? = some y∧0≤k∧k≤y.rules.length∧m=(y.rules.length-k).toNat∧∃(bl:Nat) (st ac:Int),ra=some (⟨bl,0,none⟩:Addr)∧F'.Perm (cost16 s bl x.toNat st ac::F) ∧
    0≤st∧st≤2097152*k∧(0≤most∧most≤67108864)∧(0≤ac∧ac≤8)∧st+sumW ((y.rules.drop k.toNat).map fun r=>r.when.px.wt)+maxW most ((y.rules.drop k.toNat).map fun r=>r.p.body)=y.p.steps∧maxW ac ((y.rules.drop k.toNat).map fun r=>r.p.acts)=y.p.acts) ?_
 unfold cost_States.V
 intro b_s
 refine Tri.retV (pCheck_specT s hl (hok.cons (x:=(b_s,Obj.cells #[.string s.name,.slice s.ra s.regs.length s.rc,.slice s.sa s.slots.length s.sc,.slice s.ta s.states.length s.tc] 39 (0,0)))) hg) fun v I1 l1 hv=>⟨v,rfl,F,.refl _,_,ChkE.neq hv (by kernel_rfl),fun hq=>?_,fun hq=>?_⟩
 ·exact .inl ⟨by simpa using hq,v,rfl,hv,rfl⟩
 have hq:s.p.types.e=0:=by simpa using hq
 have hs:=StgP.sound (types_check hq) hl
 have hn:s.states.length≤12:=by have:=hs.len;simpa[StgN.p] using this
 refine TriE.mono (make_spec (e:=57) (z:=2) (by':=16) (zv:=.agg #[.int .i64 0,.int .i64 0]) (by kernel_rfl) (by kernel_rfl) (by omega) (Int.le_refl _) (by omega) (by omega)) fun v2 I2 G l2 ⟨bl,cs,hv2,hcl,hcs,hI,hG⟩=>?_
 rw[made16] at hcs
 subst hG
 have hcs:cs=cells0 s 0:=by
  have h:cs=List.replicate ((s.states.length:Int).toNat*2) z16:=by have:=congrArg Array.toList hcs;simpa using this
  rw[h];unfold cells0 doneC;simp
 subst hcs
 have htn:(s.states.length:Int).toNat=s.states.length:=by omega
 rw[htn] at hv2
 have l02:=Imm.le_trans l1 l2
 refine⟨_,_,_,hv2,(bl,.cells (cells0 s 0).toArray 57 (0,0))::F,.swap ..,⟨_,by omega,by omega,rfl,hq,bl,rfl,rfl,rfl,.refl _⟩,fun x m I3 F3 l3 ⟨g0,g1,gm,_,bl',hbl,_,_,gF⟩=>⟨fun hlt=>?_,fun hlt=>?_⟩⟩
 ·obtain rfl:bl=bl':=by simpa using hbl
  have hlt:=of_decide_eq_true hlt
  have hxn:x.toNat<s.states.length:=by omega
  have l03:=Imm.le_trans l02 l3
  have hsub:∀y,y∈F→y∈F3:=fun y hy=>gF.mem_iff.2 (.tail _ hy)
  obtain⟨ad,y,had,hy,hrd,hym⟩:=SlG.atm ((hok.mono l03 hsub).cons (x:=(b_s,Obj.cells #[.string s.name,.slice s.ra s.regs.length s.rc,.slice s.sa s.slots.length s.sc,.slice s.ta s.states.length s.tc] 39 (0,0)))).states g0 hlt
  have hyo:=hok.state y hym
  have hys:=hs.states y.p (List.mem_map_of_mem hym)
  have hyl:y.rules.length≤12:=by have:=hys.len;simpa[StateN.p] using this
  have hyr:=hys.range
  rw[cells0_at s hxn] at gF
  refine⟨⟨g0,hlt⟩,ad,had,_,_,_,_,_,hrd,fun b_x=>⟨fun h=>?_,fun h=>⟨⟨_,y,hy,by omega,by omega,rfl,bl,0,0,rfl,gF,by omega,by omega,by omega,by omega, ?_, ?_⟩,fun most k m4 I4 F4 l4 ⟨y',hy',k0,k1,km,bl',st,ac,hbl',kF,s0,s1,mo,a0,ks,ka⟩=>⟨fun hk=>?_,fun hk=>?_⟩⟩⟩⟩
  ·have h0:(y.rules.length:Int)=0:=by simpa using h
   have hr0:y.rules=[]:=List.length_eq_zero_iff.1 (by omega)
   refine⟨(s.states.length-(x+1)).toNat,by omega, ?_⟩
   rw[w64 (n:=x+1) (by omega)]
   refine⟨by omega,by omega,rfl,hq,bl,rfl,rfl,rfl, ?_⟩
   have e1:y.p.steps=0:=by rw[steps_eq,hr0];rfl
   have e2:y.p.acts=0:=by rw[acts_st,hr0];rfl
   have:=cells16_done s hy
   rw[e1,e2] at this
   rw[show (x+1).toNat=x.toNat+1 by omega,←this];exact gF
  ·rw[steps_eq];show 0+_+_=_;rw[Int.zero_add];rfl
  ·rw[acts_st];rfl
  ·obtain rfl:y=y':=by rw[hy] at hy';exact Option.some.inj hy'
   obtain rfl:bl=bl':=by simpa using hbl'
   have hk:=of_decide_eq_true hk
   have l04:=Imm.le_trans l03 l4
   have sub4:∀z,z∈F→z∈F4:=fun z hz=>kF.mem_iff.2 (.tail _ hz)
   obtain⟨ad1,r,had1,hr,hrd1,hrm⟩:=SlG.atm (((hyo.mono l04 sub4).cons (x:=(b_x,Obj.cells #[.string y.name,.slice y.a y.rules.length y.c,.int .i64 y.pos] 65 (0,0)))).cons (x:=(b_s,Obj.cells #[.string s.name,.slice s.ra s.regs.length s.rc,.slice s.sa s.slots.length s.sc,.slice s.ta s.states.length s.tc] 39 (0,0)))).1 k0 hk
   have hro:=hyo.2 r hrm
   have hrs:=hys.rules r.p (List.mem_map_of_mem hrm)
   have hrw:=hys.when r hrm
   have hbd:=hrs.body
   have hra:=r.p.acts_range
   have hrl:=hrs.len
   have hrl:r.dos.length≤8:=by simpa[RuleN.p] using hrl
   have hrp:r.p.dos.length=r.dos.length:=by simp[RuleN.p]
   refine⟨⟨k0,hk⟩,ad1,had1,_,_,_,_,_,_,_,_,_,_,_,_,_,_,hrd1,fun b_r b_sum=>?_⟩
   refine Tri.perm (F:=(b_sum,.cells #[.int .i64 0] 3 (0,0))::(b_s,Obj.cells #[.string s.name,.slice s.ra s.regs.length s.rc,.slice s.sa s.slots.length s.sc,.slice s.ta s.states.length s.tc] 39 (0,0))::(b_x,Obj.cells #[.string y.name,.slice y.a y.rules.length y.c,.int .i64 y.pos] 65 (0,0))::(b_r,Obj.cells #[.int .u8 r.when.kind,.int .u8 r.when.oper,.int .u8 r.when.typ,.int .i64 r.when.n,.int .u8 r.when.field,.string r.when.name,.slice r.when.a r.when.kids.length r.when.c,.int .i64 r.when.pos,.slice r.a r.dos.length r.c,.int .i64 r.pos] 84 (0,0))::F4) ((each_spec r (hro.mono l04 fun z hz=>.tail _ (.tail _ (.tail _ (sub4 z hz)))) hrs b_sum 0 (by omega) (by omega)).mono fun e I5 G5 l5 ⟨he,hG5⟩=>?_) (perm_of fun z=>by simp only[cn_app,cn_cons,cn_nil];omega)
   refine⟨he,0+r.p.body,F4,by rw[hG5];exact (perm_of fun z=>by simp only[cn_app,cn_cons,cn_nil];omega),fun b I6 l6 hb6=>?_⟩
   have hbody:(0:Int)+r.p.body=r.p.body:=Int.zero_add _
   rw[hbody] at hb6 hG5 ⊢
   refine (greatest1 most r.p.body hb6).off.mono fun e I7 G7 l7 ⟨⟨he,hG7⟩,hoff⟩=>?_
   refine⟨_,he,F4,by rw[hG7],bl,(cost16 s bl x.toNat st ac).2,F,kF,⟨g0,hlt⟩,_,rfl,ac, ?_, ?_⟩
   ·rw[addr2];exact rd16_1 hxn (.inl (Imm.put_same _ _ _))
   have hn7:I7 bl=none:=hoff bl _ (by rw[hG7];exact .tail _ (.tail _ (.tail _ (.tail _ (kF.mem_iff.2 (.head _))))))
   have l07:=Imm.le_trans l04 (Imm.le_trans l5 (Imm.le_trans l6 l7))
   have l7p:Imm.le I7 (I7.put bl (cost16 s bl x.toNat st ac).2):=Imm.le_put hn7
   refine Tri.ret (acts16_spec r (hro.mono (Imm.le_trans l07 l7p) fun z hz=>.tail _ (.tail _ (.tail _ (.tail _ hz)))) (by omega)) fun I8 l8=>⟨_,rfl,F,.refl _,fun b1 I9 l9 hb1=>Tri.ret (greatest1 ac r.p.acts hb1) fun I10 l10=>⟨_,rfl,F,.refl _,⟨g0,hlt⟩,_,rfl,cells16 s x.toNat st ac,57,F, ?_⟩⟩
   have l7d:Imm.le I7 (I10.del bl):=Imm.le_del hn7 (Imm.le_trans l8 (Imm.le_trans l9 l10))
   rw[addr2]
   refine⟨.refl _,rfl,by rw[cells16_len s hxn];show x.toNat*2+1+1≤_;omega,bl,(cost16 s bl x.toNat st (max ac r.p.acts)).2,F, ?_,⟨g0,hlt⟩,_,rfl,st, ?_, ?_⟩
   ·show List.Perm ((bl,Obj.cells (splice (x.toNat*2+1) _ _).toArray _ _)::F) _
    rw[cells16_acts s hxn]
   ·rw[addr2];exact rd16_0 hxn (.inl (Imm.put_same _ _ _))
   have l7q:Imm.le I7 ((I10.del bl).put bl (cost16 s bl x.toNat st (max ac r.p.acts)).2):=Imm.le_trans l7d (Imm.le_put (Imm.del_none _ _))
   have hsz:=hrs.size
   have hsz:r.when.px.size≤1048576:=hsz
   refine Tri.ret (weight_spec r.when (by omega) hrs.when _ _ (hro.1.mono (Imm.le_trans l07 l7q) fun z hz=>.tail _ (.tail _ (.tail _ (.tail _ hz))))) fun I11 l11=>⟨_,rfl,F,.refl _,⟨g0,hlt⟩,_,rfl,cells16 s x.toNat st (max ac r.p.acts),57,F, ?_⟩
   rw[addr2]
   refine⟨.refl _,rfl,by rw[cells16_len s hxn];show x.toNat*2+0+1≤_;omega,(y.rules.length-(k+1)).toNat,by omega, ?_⟩
   rw[w64 (n:=k+1) (by omega),w64 (n:=st+r.when.px.wt) (by omega)]
   refine⟨y,hy,by omega,by omega,rfl,bl,st+r.when.px.wt,max ac r.p.acts,rfl, ?_,by omega,by omega,by omega,by omega, ?_, ?_⟩
   ·show List.Perm ((bl,Obj.cells (splice (x.toNat*2) _ _).toArray _ _)::F) _
    rw[cells16_steps s hxn]
   ·rw[sumR_drop _ hr,maxR_drop _ hr] at ks
    rw[show (k+1).toNat=k.toNat+1 by omega,←ks];omega
   ·rw[maxR_drop _ hr] at ka
    rw[show (k+1).toNat=k.toNat+1 by omega,←ka]
  ·obtain rfl:y=y':=by rw[hy] at hy';exact Option.some.inj hy'
   obtain rfl:bl=bl':=by simpa using hbl'
   have hk:=of_decide_eq_false hk
   rw[List.drop_eq_nil_of_le (by omega)] at ks ka
   have ks:st+0+most=y.p.steps:=ks
   have ka:ac=y.p.acts:=ka
   refine⟨⟨g0,hlt⟩,_,rfl,st, ?_,⟨g0,hlt⟩,_,rfl,cells16 s x.toNat st ac,57,F, ?_⟩
   ·rw[addr2];exact rd16_0 hxn (.inr (.tail _ (.tail _ (kF.mem_iff.2 (.head _)))))
   rw[addr2]
   refine⟨kF,rfl,by rw[cells16_len s hxn];show x.toNat*2+0+1≤_;omega,(s.states.length-(x+1)).toNat,by omega, ?_⟩
   rw[w64 (n:=x+1) (by omega),w64 (n:=st+most) (by omega)]
   refine⟨by omega,by omega,rfl,hq,bl,rfl,rfl,rfl, ?_⟩
   show List.Perm ((bl,Obj.cells (splice (x.toNat*2) _ _).toArray _ _)::F) _
   rw[cells16_steps s hxn,ka,show st+most=y.p.steps by omega,cells16_done s hy,show (x+1).toNat=x.toNat+1 by omega]
 ·obtain rfl:bl=bl':=by simpa using hbl
  have hlt:=of_decide_eq_false hlt
  rw[show x.toNat=s.states.length by omega,cells0_end] at gF
  exact .inr ⟨hq,bl,rfl,gF⟩
end Go.Lx
namespace Go.Lx
open Go.Vc
def StgP.top(s:StgP):C2:=(maxW 0 (s.costs.map Prod.fst),maxW 0 (s.costs.map Prod.snd))
def StgP.cost(s:StgP):C2×TF:=if s.types.e≠0 then ((0,0),s.types) else if 500<s.top.1 then ((0,0),⟨160,0,false⟩) else (s.top,zTF)
def callStrategy:ByteArray:=⟨#[83,116,114,97,116,101,103,121]⟩
def CstE(s:StgP)(I:Imm)(w:Value):Prop:=if s.types.e≠0 then ChkE I s.types w else if 500<s.top.1 then Flr I callStrategy 0 (errno 160) w else w=.nilIface
theorem CstE.mono{s:StgP}{I J:Imm}{w:Value}(h:CstE s I w)(hl:Imm.le I J):CstE s J w:=by
 unfold CstE at h ⊢
 split at h
 ·rename_i he;rw[if_pos he];exact h.mono hl
 ·rename_i he
  rw[if_neg he]
  split at h
  ·rename_i hm;rw[if_pos hm];exact h.mono hl
  ·rename_i hm;rw[if_neg hm];exact h
def StatesS(s:StgN)(F:Heap)(e:Ending)(I:Imm)(G:Heap):Prop :=
 (s.p.types.e≠0∧∃v,e=.returned (.tuple #[.slice none 0 0,v])∧FltE s.p.types v I∧G=F) ∨
 (s.p.types.e=0∧∃bl,e=.returned (.tuple #[.slice (some ⟨bl,0,none⟩) s.states.length s.states.length,.nilIface])∧Sl I 2 encC (some ⟨bl,0,none⟩) s.states.length s.p.costs∧G=F)
theorem costs_len(s:StgN):s.p.costs.length=s.states.length:=by simp[StgP.costs,StgN.p]
theorem states16_still(s:StgN)(hl:s.p.Thin){I:Imm}{F:Heap}(hok:s.Ok I F)(hg:Gl I):Tri P 19 #[s.v] I F (StatesS s F) :=
 (states16_spec s hl hok hg).keep fun e I' G w l1 hs hq=>by
   rcases hq with ⟨he,v,h1,h2,h3⟩ | ⟨he,bl,h1,h2⟩
   ·exact⟨I',G,Imm.le_refl I',hs,.inl ⟨he,v,h1,h2,h3⟩⟩
   ·obtain⟨k1,k2⟩:=(hs.perm h2).promote
    refine⟨_,F,k1,k2,.inr ⟨he,bl,h1, ?_,rfl⟩⟩
    rw[←costs_len s]
    exact Sl.of_block (f:=encC) (z:=2) (fun _=>rfl) (Imm.put_same _ _ _) fun k hk=>by rw[List.getElem?_toArray]
theorem maxC_drop(f:C2→Int){l:List C2}{i:Nat}{x:C2}(h:l[i]? = some x)(m:Int):maxW m ((l.drop i).map f)=maxW (max m (f x)) ((l.drop (i+1)).map f):=by
 obtain⟨hk,hx⟩:=List.getElem?_eq_some_iff.1 h
 rw[List.drop_eq_getElem_cons hk,List.map_cons,maxW_cons,hx]
set_option maxHeartbeats 2000000 in
theorem strategy16_spec(s:StgN)(hl:s.p.Thin){I:Imm}{F:Heap}(hok:s.Ok I F)(hg:Gl I):Tri P 24 #[s.v] I F (RetV (fun v J=>∃w,v=.tuple #[.agg #[.int .i64 s.p.cost.1.1,.int .i64 s.p.cost.1.2],w]∧CstE s.p J w) F):=by
 refine Tri.still (cost_Strategy.vc (fun ps ra rn rc pc x c0 c1 m I0 F0 I' F'=>F'=F∧0≤x∧x≤s.states.length∧m=(s.states.length-x).toNat∧s.p.types.e=0∧maxW c0 ((s.p.costs.drop x.toNat).map Prod.fst)=s.p.top.1∧maxW c1 ((s.p.costs.drop x.toNat).map Prod.snd)=s.p.top.2) ?_)
 unfold cost_Strategy.V
 intro b_s b
 refine (states16_still s hl (hok.mono (Imm.le_refl I) fun y hy=>.tail _ (.tail _ hy)) hg).mono fun e I1 G l1 hq=>?_
 rcases hq with ⟨he,v,h1,hv,hG⟩ | ⟨he,bl,h1,hS,hG⟩
 ·subst hG
  refine⟨_,_,_,v,h1,F,.refl _,_,ChkE.neq hv (by kernel_rfl),fun hq=>⟨_,[],rfl,.refl _,fun J hJ hx=>⟨v, ?_, ?_⟩⟩,fun hq=>absurd he (by simpa using hq)⟩
  ·unfold StgP.cost;rw[if_pos he]
  ·unfold CstE;rw[if_pos he];exact ChkE.mono hv hJ
 ·subst hG
  have hs:=StgP.sound (types_check he) hl
  have hn:s.states.length≤12:=by have:=hs.len;simpa[StgN.p] using this
  have hcl:=costs_len s
  refine⟨_,_,_,_,h1,F,.refl _,false,nil_nil (by kernel_rfl),fun h=>(by cases h),fun _ b_c=>⟨⟨_,rfl,by omega,by omega,rfl,he,rfl,rfl⟩,fun x c0 c1 m I2 F2 l2 ⟨gF,g0,g1,gm,_,gs,ga⟩=>⟨fun hlt=>?_,fun hlt=>⟨fun hc=>?_,fun hc=>?_⟩⟩⟩⟩
  ·subst gF
   have hlt:=of_decide_eq_true hlt
   obtain⟨ad,c,had,hc,hrd,hcm⟩:=SlG.atm ((hS.mono l2).slg ((b_s,Obj.cells #[.string s.name,.slice s.ra s.regs.length s.rc,.slice s.sa s.slots.length s.sc,.slice s.ta s.states.length s.tc] 39 (0,0))::(b,.cells #[.int .i64 0,.int .i64 0] 57 (0,0))::(b_c,.cells #[.int .i64 c0,.int .i64 c1] 57 (0,0))::F2)) g0 hlt
   rw[maxC_drop _ hc] at gs ga
   have key:∀(J:Imm),∃m2:Nat,m2<m∧(F2=F2∧0≤IntKind.wrap .i64 (x+1)∧IntKind.wrap .i64 (x+1)≤s.states.length∧m2=(s.states.length-IntKind.wrap .i64 (x+1)).toNat∧s.p.types.e=0∧maxW (max c0 c.1) ((s.p.costs.drop (IntKind.wrap .i64 (x+1)).toNat).map Prod.fst)=s.p.top.1 ∧
     maxW (max c1 c.2) ((s.p.costs.drop (IntKind.wrap .i64 (x+1)).toNat).map Prod.snd)=s.p.top.2):=fun J=>by
    rw[w64 (n:=x+1) (by omega)]
    refine⟨(s.states.length-(x+1)).toNat,by omega,rfl,by omega,by omega,rfl,he, ?_, ?_⟩
    ·rw[show (x+1).toNat=x.toNat+1 by omega,←gs]
    ·rw[show (x+1).toNat=x.toNat+1 by omega,←ga]
   refine⟨⟨g0,hlt⟩,ad,had,_,_,hrd,fun b_x=>⟨fun b1 I3 l3 h1=>⟨?_,fun b3 I7 l7 h3=>?_⟩,fun b4 I10 l10 h4 b5 I11 l11 h5=>?_⟩⟩
   ·exact Tri.ret (greatest1 c0 c.1 h1) fun I4 l4=>⟨_,rfl,F2,.refl _,fun b2 I5 l5 h2=>Tri.ret (greatest1 c1 c.2 h2) fun I6 l6=>⟨_,rfl,F2,.refl _,key I6⟩⟩
   ·exact Tri.ret (greatest1 c0 c.1 (l7.at h1)) fun I4 l4=>⟨_,rfl,F2,.refl _,Tri.ret (greatest1 c1 c.2 (l4.at h3)) fun I6 l6=>⟨_,rfl,F2,.refl _,key I6⟩⟩
   ·exact Tri.ret (greatest1 c0 c.1 h5) fun I4 l4=>⟨_,rfl,F2,.refl _,Tri.ret (greatest1 c1 c.2 (l4.at (l11.at h4))) fun I6 l6=>⟨_,rfl,F2,.refl _,key I6⟩⟩
  ·intro b6
   have hlt:=of_decide_eq_false hlt
   have hc:=of_decide_eq_true hc
   rw[List.drop_eq_nil_of_le (by omega)] at gs
   have gs:c0=s.p.top.1:=gs
   refine⟨_,[_],rfl,by rw[gF];exact .refl _,fun J hJ hx=>⟨.iface 89 (.pointer (some ⟨b6,0,none⟩)), ?_, ?_⟩⟩
   ·unfold StgP.cost;rw[if_neg (by simpa using he),if_pos (by omega)]
   ·unfold CstE;rw[if_neg (by simpa using he),if_pos (by omega)]
    exact⟨b6,rfl,hx _ (.head _)⟩
  ·have hlt:=of_decide_eq_false hlt
   have hc:=of_decide_eq_false hc
   rw[List.drop_eq_nil_of_le (by omega)] at gs ga
   have gs:c0=s.p.top.1:=gs
   have ga:c1=s.p.top.2:=ga
   refine⟨_,[],rfl,by rw[gF];exact .refl _,fun J hJ hx=>⟨.nilIface, ?_, ?_⟩⟩
   ·unfold StgP.cost;rw[if_neg (by simpa using he),if_neg (by omega),gs,ga]
   ·unfold CstE;rw[if_neg (by simpa using he),if_neg (by omega)]
end Go.Lx
namespace Go.Lx
open Go.Vc
theorem rweight_spec:∀(t:Nd),t.px.size≤4194304→t.px.formed=true→∀(I:Imm) (F:Heap),NdOk I F t→Tri P 35 #[t.v] I F (Ret (.int .i64 t.px.wt) F):=by
 refine Nd.ind fun t ih hs hf I F ht=>?_
 have hln:=size_len hs
 have h1:t.px.oneB=true:=by rw[Px.formed_eq,Bool.and_eq_true] at hf;exact hf.1
 have hl:(t.kids.length:Nat)=Px.arity t.px:=by
  unfold Px.oneB at h1
  rw[Bool.and_eq_true,decide_eq_true_eq,Nd.px_kids,List.length_map] at h1
  exact h1.2
 have hr:=Px.wt_range t.px hf
 have hkf:∀k∈t.kids,k.px.formed=true:=fun k hk=>Px.formed_kid hf _ (by rw[Nd.px_kids];exact List.mem_map_of_mem hk)
 have hat:∀{J:Imm} {i:Int},Imm.le I J→0≤i→i<t.kids.length→∀b_n:Nat,∃ad x,t.a=some ad∧t.kids[i.toNat]? = some x∧Rd J ((b_n,Obj.cells #[.int .u8 t.kind,.int .u8 t.oper,.int .u8 t.typ,.int .i64 t.n,.int .u8 t.field,.string t.name,.slice t.a t.kids.length t.c,.int .i64 t.pos] 28 (0,0))::F) (ad.add (Int.toNat i*8)) x.enc ∧
   (1≤x.px.wt∧x.px.wt+1≤2*x.px.size)∧x.px.size≤4194304∧Tri P 35 #[x.v] J ((b_n,Obj.cells #[.int .u8 t.kind,.int .u8 t.oper,.int .u8 t.typ,.int .i64 t.n,.int .u8 t.field,.string t.name,.slice t.a t.kids.length t.c,.int .i64 t.pos] 28 (0,0))::F) (Ret (.int .i64 x.px.wt) ((b_n,Obj.cells #[.int .u8 t.kind,.int .u8 t.oper,.int .u8 t.typ,.int .i64 t.n,.int .u8 t.field,.string t.name,.slice t.a t.kids.length t.c,.int .i64 t.pos] 28 (0,0))::F)):=by
  intro J i hJ g0 hlt b_n
  obtain⟨ad,x,had,hx,hrd,hxo,hxm⟩:=((ht.mono hJ fun _ h=>h).cons (x:=(b_n,Obj.cells #[.int .u8 t.kind,.int .u8 t.oper,.int .u8 t.typ,.int .i64 t.n,.int .u8 t.field,.string t.name,.slice t.a t.kids.length t.c,.int .i64 t.pos] 28 (0,0)))).kids.at g0 hlt
  exact⟨ad,x,had,hx,hrd,Px.wt_range _ (hkf x hxm),size_kid hxm hs,ih x hxm (size_kid hxm hs) (hkf x hxm) J _ hxo⟩
 have hwt:=wt_kids t
 refine ref16_weight.vc (fun w i m I' F'=>t.kind≠7∧0≤i∧i≤t.kids.length∧m=(t.kids.length-i).toNat∧0≤w∧t.px.wt=w+sumW ((t.kids.drop i.toNat).map fun y=>y.px.wt)∧F'=F) ?_
 unfold ref16_weight.V
 intro b_n
 refine⟨fun h7=>?_,fun h7=>⟨fun h9=>⟨⟨_,by simpa using h7,by omega,by omega,rfl,by omega, ?_,rfl⟩,fun w i m I1 F1 hI hinv=>?_⟩,fun h9=>⟨⟨_,by simpa using h7,by omega,by omega,rfl,by omega, ?_,rfl⟩,fun w i m I1 F1 hI hinv=>?_⟩⟩⟩
 ·have h7:t.kind=7:=by simpa using h7
  have h3:t.kids.length=3:=by rw[hl];unfold Px.arity;rw[Nd.px_kind,h7];rfl
  obtain⟨ad1,x1,ha1,hx1,hr1,hw1,hs1,ht1⟩:=hat (i:=1) (Imm.le_refl I) (by omega) (by omega) b_n
  refine⟨⟨by omega,by omega⟩,ad1,ha1,_,_,_,_,_,_,_,_,_,_,hr1,Tri.ret ht1 fun I1 l1=>⟨_,rfl,F,.refl _, ?_⟩⟩
  obtain⟨ad2,x2,ha2,hx2,hr2,hw2,hs2,ht2⟩:=hat (i:=2) l1 (by omega) (by omega) b_n
  refine⟨⟨by omega,by omega⟩,ad2,ha2,_,_,_,_,_,_,_,_,_,_,hr2,Tri.ret ht2 fun I2 l2=>⟨_,rfl,F,.refl _, ?_⟩⟩
  obtain⟨ad0,x0,ha0,hx0,hr0,hw0,hs0,ht0⟩:=hat (i:=0) (Imm.le_trans l1 l2) (by omega) (by omega) b_n
  have key:t.px.wt=x0.px.wt+max x1.px.wt x2.px.wt+2:=by
   rw[hwt]
   unfold wtF
   rw[if_pos h7]
   match hk:t.kids,h3 with
   | [a,b,c],_ =>
     rw[hk] at hx0 hx1 hx2
     cases hx0;cases hx1;cases hx2
     rfl
  refine⟨fun h=>⟨⟨by omega,by omega⟩,ad0,ha0,_,_,_,_,_,_,_,_,_,_,hr0,Tri.ret ht0 fun I3 l3=>⟨_,rfl,F,.refl _, ?_,rfl⟩⟩,fun h=>⟨⟨by omega,by omega⟩,ad0,ha0,_,_,_,_,_,_,_,_,_,_,hr0,Tri.ret ht0 fun I3 l3=>⟨_,rfl,F,.refl _, ?_,rfl⟩⟩⟩
  ·have h:=of_decide_eq_true h
   rw[w64 (n:=x0.px.wt+x2.px.wt) (by omega),w64 (by omega),show x0.px.wt+x2.px.wt+2=t.px.wt by omega]
  ·have h:=of_decide_eq_false h
   rw[w64 (n:=x0.px.wt+x1.px.wt) (by omega),w64 (by omega),show x0.px.wt+x1.px.wt+2=t.px.wt by omega]
 ·have h7:t.kind≠7:=by simpa using h7
  have h9:t.kind=9:=by simpa using h9
  rw[hwt];unfold wtF;rw[if_neg h7,if_pos h9];rfl
 ·obtain⟨h7,g0,g1,gm,g2,gs,gF⟩:=hinv
  subst gF
  refine⟨fun hlt=>?_,fun hlt=>⟨?_,rfl⟩⟩
  ·have hlt:=of_decide_eq_true hlt
   obtain⟨ad0,x0,ha0,hx0,hr0,hw0,hs0,ht0⟩:=hat hI g0 hlt b_n
   have hd:=sumW_le (l:=t.kids.drop (i.toNat+1)) fun k hk=>hkf k (List.mem_of_mem_drop hk)
   rw[sumW_drop hx0] at gs
   refine⟨⟨g0,hlt⟩,ad0,ha0,_,_,_,_,_,_,_,_,_,_,hr0,Tri.ret ht0 fun I2 l2=>⟨_,rfl,F1,.refl _,(t.kids.length-(i+1)).toNat,by omega, ?_⟩⟩
   rw[w64 (n:=i+1) (by omega),w64 (n:=w+x0.px.wt) (by omega)]
   refine⟨h7,by omega,by omega,rfl,by omega, ?_,rfl⟩
   rw[gs,show (i+1).toNat=i.toNat+1 by omega,Int.add_assoc]
  ·have hlt:=of_decide_eq_false hlt
   rw[gs,List.drop_eq_nil_of_le (by omega)]
   show _=Ending.returned (Value.int .i64 (w+0))
   rw[Int.add_zero]
 ·have h7:t.kind≠7:=by simpa using h7
  have h9:t.kind≠9:=by simpa using h9
  rw[hwt];unfold wtF;rw[if_neg h7,if_neg h9];rfl
 ·obtain⟨h7,g0,g1,gm,g2,gs,gF⟩:=hinv
  subst gF
  refine⟨fun hlt=>?_,fun hlt=>⟨?_,rfl⟩⟩
  ·have hlt:=of_decide_eq_true hlt
   obtain⟨ad0,x0,ha0,hx0,hr0,hw0,hs0,ht0⟩:=hat hI g0 hlt b_n
   have hd:=sumW_le (l:=t.kids.drop (i.toNat+1)) fun k hk=>hkf k (List.mem_of_mem_drop hk)
   rw[sumW_drop hx0] at gs
   refine⟨⟨g0,hlt⟩,ad0,ha0,_,_,_,_,_,_,_,_,_,_,hr0,Tri.ret ht0 fun I2 l2=>⟨_,rfl,F1,.refl _,(t.kids.length-(i+1)).toNat,by omega, ?_⟩⟩
   rw[w64 (n:=i+1) (by omega),w64 (n:=w+x0.px.wt) (by omega)]
   refine⟨h7,by omega,by omega,rfl,by omega, ?_,rfl⟩
   rw[gs,show (i+1).toNat=i.toNat+1 by omega,Int.add_assoc]
  ·have hlt:=of_decide_eq_false hlt
   rw[gs,List.drop_eq_nil_of_le (by omega)]
   show _=Ending.returned (Value.int .i64 (w+0))
   rw[Int.add_zero]
theorem rexpr16_spec(t:Nd)(hs:t.px.size≤1048576)(I:Imm)(F:Heap)(ht:NdOk I F t):Tri P 14 #[t.v] I F (Ret (.int .i64 (if t.px.formed then t.px.wt else 0)) F):=by
 refine ref16_Expr.vc ?_
 unfold ref16_Expr.V
 intro b_n
 refine Tri.ret (formed_spec t hs I _ (ht.cons (x:=(b_n,Obj.cells #[.int .u8 t.kind,.int .u8 t.oper,.int .u8 t.typ,.int .i64 t.n,.int .u8 t.field,.string t.name,.slice t.a t.kids.length t.c,.int .i64 t.pos] 28 (0,0))))) fun I1 l1=>⟨_,rfl,F,.refl _,fun h=>?_,fun h=>?_⟩
 ·have hf:t.px.formed=false:=by simpa using h
  rw[hf];exact⟨rfl,rfl⟩
 ·have hf:t.px.formed=true:=by simpa using h
  refine Tri.ret (rweight_spec t (by omega) hf I1 _ ((ht.mono l1 fun _ h=>h).cons (x:=(b_n,Obj.cells #[.int .u8 t.kind,.int .u8 t.oper,.int .u8 t.typ,.int .i64 t.n,.int .u8 t.field,.string t.name,.slice t.a t.kids.length t.c,.int .i64 t.pos] 28 (0,0))))) fun I2 l2=>⟨_,rfl,F,.refl _, ?_⟩
  rw[hf];exact⟨rfl,rfl⟩
end Go.Lx
namespace Go.Lx
open Go.Vc
theorem cost_under:P.underlying 57=some (.struct (P.fieldsOf 57)):=by kernel_rfl
theorem cost_stood:P.stoodInHeld 57=false:=by kernel_rfl
theorem cost_guard:P.eqGuardType P.depth 57=false:=by kernel_rfl
theorem cost_flat(a p b q:Int):flatEq P #[.int .i64 a,.int .i64 p] #[.int .i64 b,.int .i64 q] (P.fieldsOf 57).toList=some (a==b&&(p==q&&true)):=by kernel_rfl
theorem cost_b(a p b q:Int):(a==b&&(p==q&&true))=decide (((a,p):C2)=(b,q)):=by
 by_cases h1:a=b<;>by_cases h2:p=q<;>simp[h1,h2]
theorem cost_eql(a p b q:Int){x y:Operand}:BinRun P .eql 57 x y (.agg #[.int .i64 a,.int .i64 p]) (.agg #[.int .i64 b,.int .i64 q]) (decide (((a,p):C2)=(b,q))):=by
 rw[←cost_b];exact struct_eql cost_under cost_stood cost_guard (cost_flat ..)
def exE16:ByteArray:=(⟨#[100,111,110,101,32,63,32,98,105,100,32,58,32,98,105,100,32,43,32,49,112]⟩:ByteArray)
def exS16:ByteArray:=(⟨#[115,116,114,97,116,101,103,121,32,115,32,123,32,114,101,103,32,110,32,105,110,116,32,61,32,48,59,32,115,108,111,116,32,111,59,32,115,116,97,116,101,32,97,32,123,32,119,104,101,110,32,104,97,115,32,98,105,100,32,100,111,32,115,117,98,109,105,116,32,98,117,121,32,111,102,32,50,113,32,97,116,32,98,105,100,32,43,32,49,112,32,108,105,109,105,116,44,32,104,97,108,116,59,32,119,104,101,110,32,110,111,119,32,62,32,53,116,32,100,111,32,115,101,116,32,110,32,61,32,110,32,43,32,49,44,32,99,97,110,99,101,108,32,111,44,32,99,97,110,99,101,108,32,111,59,32,125,32,115,116,97,116,101,32,98,32,123,125,32,125]⟩:ByteArray)
abbrev awE16:Px:=(parseE exE16).1
abbrev awS16:StgP:=(parseS exS16).1
theorem e16_size:awE16.size≤1048576:=of_decide_eq_true (by kernel_rfl)
theorem e16_wt:(if awE16.formed then awE16.wt else 0)=6:=by kernel_rfl
theorem s16_light:awS16.Light:=StgP.light (of_decide_eq_true (by kernel_rfl))
theorem s16_types:awS16.types.e=0:=by kernel_rfl
theorem s16_cost:awS16.cost=((9,2),zTF):=by kernel_rfl
theorem s16_costs:awS16.costs=[(9,2),(0,0)]:=by kernel_rfl
theorem zStg16_light:zStg.p.Light:=StgP.light (by decide)
theorem zStg16_types:zStg.p.types.e≠0:=by
 have h:zStg.p.types.e=120:=by kernel_rfl
 rw[h];decide
theorem zStg16_ok{I:Imm}{F:Heap}:zStg.Ok I F:=⟨SlG.nil,fun r hr=>(by cases hr),SlG.nil,SlG.nil,fun x hx=>(by cases hx)⟩
end Go.Lx
namespace Go.Lx
open Go.Vc
theorem CstE.eql{I:Imm}{s:StgP}{w:Value}(h:CstE s I w){t:TypeId}(ht:ifaceT P t=true){x:Operand}:BinRun P .eql t x (.const .nilIface) w .nilIface (s.cost.2.e==0):=by
 unfold CstE at h
 unfold StgP.cost
 split at h
 ·rename_i he
  rw[if_pos he]
  have h2:=h.2 he
  rw[show (s.types.e==0)=false by simpa using he]
  split at h2
  ·obtain⟨u,_,b,hw,_⟩:=h2;rw[hw];exact some_nil' ht
  ·obtain⟨b,hw,_⟩:=h2;rw[hw];exact some_nil' ht
 ·rename_i he
  rw[if_neg he]
  split at h
  ·rename_i hm
   rw[if_pos hm]
   obtain⟨b,hw,_⟩:=h
   rw[hw];exact some_nil' ht
  ·rename_i hm
   rw[if_neg hm,h];exact nil_nil' ht
set_option maxHeartbeats 1000000 in
theorem awake16_spec{I:Imm}(hg:Gl I)(F:Heap):Tri P 9 #[] I F (Ret (.bool true) F):=by
 refine law16_awake.vc ?_
 unfold law16_awake.V
 refine (rExpr_spec exE16 (by unfold Short;decide) I _).mono fun e I1 G l1 ⟨n,he,hn,okn,hG⟩=>?_
 refine⟨_,_,_,_,_,_,_,_,_,_,_,_,_,he,F,by rw[hG],fun b_n b__=>?_⟩
 refine (rStrategy_spec exS16 (by unfold Short;exact of_decide_eq_true (by kernel_rfl)) I1 _).mono fun e I2 G l2 ⟨s,he,hs,oks,hG⟩=>?_
 refine⟨_,_,_,_,_,_,_,_,_,_,_,_,_,he,F,by rw[hG],fun b_s b_1=>?_⟩
 have ls:s.p.Light:=hs▸s16_light
 have lth:=ls.thin
 have hnz:n.px.size≤1048576:=by rw[hn];exact e16_size
 have hnw:(if n.px.formed then n.px.wt else 0)=6:=by rw[hn];exact e16_wt
 have hst:s.p.types.e=0:=by rw[hs];exact s16_types
 have hsc:s.p.cost=((9,2),zTF):=by rw[hs];exact s16_cost
 have hsl:s.p.costs=[(9,2),(0,0)]:=by rw[hs];exact s16_costs
 refine Tri.ret (expr16_spec n (by omega) I2 _ (okn.mono l2 sub0)) fun I3 l3=>⟨_,rfl,F,.refl _, ?_⟩
 refine Tri.ret (expr16_spec zNd (by decide) I3 _ (zNd_ok.mono (Imm.le_refl _) sub0)) fun I4 l4=>⟨_,rfl,F,.refl _, ?_⟩
 have l24:=Imm.le_trans l3 l4
 have l04:=Imm.le_trans l1 (Imm.le_trans l2 l24)
 refine Tri.retV (strategy16_spec s lth (oks.mono l24 sub0) (hg.mono l04)) fun v5 I5 l5 ⟨w5,hv5,hw5⟩=>⟨_,_,w5,congrArg Ending.returned hv5,F,.refl _,fun b_c=>?_⟩
 have l25:=Imm.le_trans l24 l5
 have l05:=Imm.le_trans l04 l5
 refine (states16_still s lth (oks.mono l25 sub0) (hg.mono l05)).mono fun e I6 G l6 hq=>?_
 rcases hq with ⟨h,_⟩ | ⟨_,bl,he,hS,hG⟩
 ·exact absurd hst h
 refine⟨_,_,_,_,he,F,by rw[hG], ?_⟩
 have l06:=Imm.le_trans l05 l6
 refine (states16_still zStg zStg16_light.thin zStg16_ok (hg.mono l06)).mono fun e I7 G7 l7 hq=>?_
 rcases hq with ⟨hz,v7,he,hv7,hG7⟩ | ⟨h,_⟩
 rotate_left
 ·exact absurd h zStg16_types
 refine⟨_,_,_,_,he,F,by rw[hG7], ?_⟩
 have h2:s.states.length=2:=by rw[←costs_len s,hsl];rfl
 have hzw:(if zNd.px.formed then zNd.px.wt else 0)=0:=by decide
 rw[hnw,hzw]
 have hw5':w5=.nilIface:=by
  unfold CstE at hw5
  rw[if_neg (by simpa using hst)] at hw5
  have htop:¬500<s.p.top.1:=by
   unfold StgP.top;rw[hsl];decide
  rwa [if_neg htop] at hw5
 rw[hw5',hsc]
 refine⟨fun _=>⟨fun _=>⟨true,nil_nil' (by kernel_rfl),fun _=>⟨true,cost_eql 9 2 9 2,fun _=>⟨true,nil_nil' (by kernel_rfl),fun _=>⟨fun _=>⟨⟨by decide,by rw[h2];decide⟩,⟨bl,0,none⟩,rfl,0,0, ?_,⟨true,cost_eql 0 0 0 0,fun _=>⟨true, ?_,rfl,rfl⟩,fun h=>(by cases h)⟩⟩,fun h=>?_⟩,fun h=>(by cases h)⟩,fun h=>(by cases h)⟩,fun h=>(by cases h)⟩,fun h=>(by cases h)⟩,fun h=>(by cases h)⟩
 ·obtain⟨ad,c,had,hc,hrd,_⟩:=SlG.atm ((hS.mono l7).slg _) (i:=1) (by decide) (by rw[h2];decide)
  rw[hsl] at hc
  cases hc
  cases had
  exact hrd
 ·have:=ChkE.neq hv7 (t:=44) (by kernel_rfl) (x:=.tmp 72)
  rwa [show (zStg.p.types.e != 0)=true by simpa using zStg16_types] at this
 ·rw[h2] at h;cases h
theorem farExpr16_spec(t:Nd)(hs:t.px.ShortP)(I:Imm)(F:Heap)(ht:NdOk I F t):Tri P 10 #[t.v] I F (Ret (.bool (decide (t.px.weigh 0 0>1048576))) F):=by
 refine law16_farExpr.vc ?_
 unfold law16_farExpr.V
 intro b_n
 exact Tri.ret (weigh_spec t hs 0 0 I _ ht.cons (by decide) (by decide) (by decide) (by decide)) fun I1 _=>⟨_,rfl,F,.refl _,rfl,rfl⟩
end Go.Lx
namespace Go.Lx
open Go.Vc Go.Proofs.Tryz
def shT_lCostExprs:List (Nat×List Sh):=[(3,[.one (.int .i64)]),(4,[.one .bool]),(28,[.agg [(.int .u8),(.int .u8),(.int .u8),(.int .i64),(.int .u8),.str,.slc,(.int .i64)]])]
def law16_CostExprs.V(d:Nat→Nat×Obj)(nV:Int→Int→Int→Int→Int→Bs→OA→Nat→Nat→Int→Value)(nO:Int→Int→Int→Int→Int→Bs→OA→Nat→Nat→Int→Obj)(vt:Bool→Value)(q s t u v:Int)(w:Bs)(m:OA)(n o:Nat)(x:Int)(I:Imm)(F:Heap)(Q:PostQ)  : Prop:=∀e:Nat,Tc1 P 9 #[] I ((d e)::·) F vt fun r I1 F1=>Tc1 P 10 #[nV q s t u v w m n o x] I1 ((d e)::·) F1 vt fun r1 I2 F2=>(It (!r) (Q (.returned (vt r)) I2 F2) (It r1 (Q (.returned (vt r)) I2 F2) (Tcn P 11 #[nV q s t u v w m n o x] I2 ((d e)::·) F2 fun e3 I3 G3=>∃(f g h i j:Int) (k:Bs) (a:OA) (b c:Nat) (l:Int),e3=.returned (nV f g h i j k a b c l)∧G3 fun F3=>∀p:Nat,Tc1 P 12 #[nV f g h i j k a b c l] I3 ((d e)::(p,nO f g h i j k a b c l)::·) F3 (.int .i64) fun r2 I4 F4=>Tc1 P 13 #[nV f g h i j k a b c l,nV q s t u v w m n o x] I4 ((d e)::(p,nO f g h i j k a b c l)::·) F4 vt fun r3 I5 F5=>Tc1 P 14 #[nV q s t u v w m n o x] I5 ((d e)::(p,nO f g h i j k a b c l)::·) F5 (.int .i64) fun r4 I6 F6=>(It (r2==r4) (Q (.returned (vt r3)) I6 F6) (Q (.returned (vt false)) I6 F6)))))
theorem law16_CostExprs.vc{i j m p r:Int}{u:Bs}{d:OA}{e g:Nat}{v:Int}{I:Imm}{F:Heap}{Q:PostQ}  (h:law16_CostExprs.V (fun b=>(b,Obj.cells #[.int .u8 i,.int .u8 j,.int .u8 m,.int .i64 p,.int .u8 r,.string u,.slice d e g,.int .i64 v] 28 (0,0))) (fun k o t n f s a l c q=>.agg #[.int .u8 k,.int .u8 o,.int .u8 t,.int .i64 n,.int .u8 f,.string s,.slice a l c,.int .i64 q]) (fun k o t n f s a l c q=>.cells #[.int .u8 k,.int .u8 o,.int .u8 t,.int .i64 n,.int .u8 f,.string s,.slice a l c,.int .i64 q] 28 (0,0)) .bool i j m p r u d e g v I F Q):Tri P 3 #[.agg #[.int .u8 i,.int .u8 j,.int .u8 m,.int .i64 p,.int .u8 r,.string u,.slice d e g,.int .i64 v]] I F Q :=
 tw (A:=(an [3001,3003,8003] [9,10,11,12,13,14] shT_lCostExprs)) [9,10,11,12,13,14] func3 h
end Go.Lx
namespace Go.Lx
open Go.Vc
theorem CostExprs_spec(t:Nd)(hst:t.px.ShortP)(I:Imm)(hg:Gl I)(F:Heap)(ht:NdOk I F t):Tri P 3 #[t.v] I F fun e I' G=>e=.returned (.bool true):=by
 refine law16_CostExprs.vc ?_
 unfold law16_CostExprs.V
 intro b_n
 have okt:∀{J:Imm} {G:Heap},Imm.le I J→(∀a,a∈F→a∈G)→NdOk J G t:=fun hl hs=>ht.mono hl hs
 refine Tri.ret (awake16_spec hg _) fun I1 l1=>⟨_,rfl,F,.refl _, ?_⟩
 refine Tri.ret (farExpr16_spec t hst I1 _ (okt l1 fun a ha=>by simp only[List.mem_cons,List.mem_append];simp only[ha,true_or,or_true])) fun I2 h2=>⟨_,rfl,F,.refl _,fun h=>(by cases h),fun _=>⟨fun _=>rfl,fun f1=>?_⟩⟩
 have l2:=Imm.le_trans l1 h2
 have st:=far_size f1
 refine (lend_spec t st I2 _ (okt l2 fun a ha=>by simp only[List.mem_cons,List.mem_append];simp only[ha,true_or,or_true])).mono fun e I3 G h3 ⟨x,Hx,he,px,hOx,hG⟩=>?_
 have l3:=Imm.le_trans l2 h3
 refine⟨_,_,_,_,_,_,_,_,_,_,he,Hx++F,hG.trans (perm_of fun z=>by simp only[cn_app,cn_cons,cn_nil];omega),fun b_x=>?_⟩
 have sx:x.px.size≤1048576:=by rw[px];exact st
 have hsx:x.px.ShortP:=by rw[px];exact hst
 refine Tri.ret (expr16_spec x (by omega) I3 _ (hOx.ok fun a ha=>by simp only[List.mem_cons,List.mem_append];simp only[ha,true_or,or_true])) fun I4 h4=>⟨_,rfl,Hx++F,.refl _, ?_⟩
 have l4:=Imm.le_trans l3 h4
 refine Tri.ret (whole_spec (u:=t) sx hsx px hOx fun a ha=>by simp only[List.mem_cons,List.mem_append];simp only[ha,true_or,or_true] (okt l4 fun a ha=>by simp only[List.mem_cons,List.mem_append];simp only[ha,true_or,or_true])) fun I5 h5=>⟨_,rfl,Hx++F,.refl _, ?_⟩
 refine Tri.ret (rexpr16_spec t st I5 _ (okt (Imm.le_trans l4 h5) fun a ha=>by simp only[List.mem_cons,List.mem_append];simp only[ha,true_or,or_true])) fun I6 h6=>⟨_,rfl,Hx++F,.refl _, ?_⟩
 rw[px]
 refine⟨fun _=>rfl,fun h=>?_⟩
 simp at h
end Go.Lx
namespace Go.Vc
open Go.ChangeShapes Go.WideShapes Go.ChangeAt Go.RowKit
theorem Stays.cell{w w':World}(h:Stays w w'){a:Addr}(ha:a.block<w.heap.size):w'.cell? a=w.cell? a:=by
 unfold World.cell?;rw[h.heap _ ha]
theorem Stays.same{w w':World}(h:Stays w w'){p:MemPlace}(hp:p.block<w.heap.size):w.sameAt w' p:=by
 cases p with
 | cell b off=>exact h.cell (a:=⟨b,off,none⟩) hp
 | map b=>exact h.heap b hp
theorem trodAll_stays{H:Type}{enc:TypeId×Value→H}{P:Program}{T:TypeId→Prop}{w w':World}(K:Kids P T)(hsz:∀{t e:TypeId},T t→P.underlying t=some (.slice e)→0<P.cellsOf e)(st:Stays w w'){sp':Nat→Bool} :
  ∀{ts:List TypeId} {vs:List Value} {ds:List (DataW H)} {ps:List MemPlace},(∀t∈ts,T t)→DataW.TrodAll enc P w 0 (fun _=>true) true ts vs ds ps→(∀p∈ps,sp' p.block=true)→DataW.TrodAll enc P w' 0 sp' true ts vs ds ps
 | [],[],[],ps,_,h,_=>h
 | t::ts,v::vs,d::ds,ps,ht,⟨p,q,⟨n,h1⟩,h2,e⟩,hs=>by
   subst e
   have hlt:∀x∈p,x.block<w.heap.size:=DataW.trod_lt n t v.cells.toList (d,p) h1
   refine⟨p,q,⟨n, ?_⟩,trodAll_stays K hsz st (fun t' ht'=>ht t' (List.mem_cons_of_mem _ ht')) h2 (fun x hx=>hs x (List.mem_append_right _ hx)),rfl⟩
   exact DataW.trod_stays K hsz (fun h=>by cases h) (ht t (List.mem_cons_self ..)) h1 (fun x hx=>st.same (hlt x hx)) (fun x hx=>hs x (List.mem_append_left _ hx))
 | [],_::_,_,_,_,h,_=>h.elim
 | [],[],_::_,_,_,h,_=>h.elim
 | _::_,[],_,_,_,h,_=>h.elim
 | _::_,_::_,[],_,_,h,_=>h.elim
theorem Rd.of_cell{W:World}{ad:Addr}{v:Value}(h:W.cell? ad=some v)(G:Heap):Rd (Imm.all W) G ad [v]:=by
 unfold World.cell? at h
 cases hb:W.heap[ad.block]? with
 | none=>rw[hb] at h;cases h
 | some o =>
   rw[hb] at h
   cases o with
   | cells c e fz =>
     simp only at h
     cases hs:ad.spot with
     | some x=>rw[hs] at h;simp at h
     | none =>
       rw[hs] at h
       refine⟨hs,c,e,fz,.inl hb,fun j hj=>?_⟩
       have:j=0:=by simpa using hj
       subst this
       simpa using h
   | _=>cases h
end Go.Vc
namespace Go.Vc
open Go.ChangeShapes Go.WideShapes Go.ChangeAt Go.RowKit
theorem list_choice{α:Type}{p:Nat→α→Prop}:∀(n:Nat),(∀i,i<n→∃x,p i x)→∃l:List α,l.length=n∧∀(i:Nat) (x:α),l[i]? = some x→p i x
 | 0,_=>⟨[],rfl,fun i x h=>by simp at h⟩
 | n+1,h=>by
   obtain⟨l,hl,hp⟩:=list_choice n fun i hi=>h i (by omega)
   obtain⟨x,hx⟩:=h n (by omega)
   refine⟨l++[x],by simp[hl],fun i y hy=>?_⟩
   rw[List.getElem?_append] at hy
   split at hy
   ·exact hp i y hy
   ·rename_i hi
    have:i-l.length=0:=by
     rcases Nat.eq_zero_or_pos (i-l.length) with h | h
     ·exact h
     ·rw[List.getElem?_eq_none (by simp;omega)] at hy;cases hy
    rw[this] at hy
    simp only[List.getElem?_cons_zero,Option.some.injEq] at hy
    subst hy
    have:i=n:=by omega
    rw[this];exact hx
theorem Rd.of_row{W:World}{ad:Addr}{n:Nat}{cs:List Value}{base:Nat}(h:W.cells? base ad n=some cs)(hn:0<n)(G:Heap):ad.spot=none→Rd (Imm.all W) G ad cs:=by
 intro hsp
 obtain⟨_,hl,hc⟩:=World.cells?_some h
 have h0:W.cell? ad=cs[0]?:=by have:=hc 0 hn;rwa [show ad.add 0=ad from rfl] at this
 have hlen:cs.length=n:=hl
 unfold World.cell? at h0
 cases hb:W.heap[ad.block]? with
 | none=>rw[hb] at h0;simp only at h0;rw[List.getElem?_eq_getElem (by omega)] at h0;cases h0
 | some o =>
   cases o with
   | cells c e fz =>
     refine⟨hsp,c,e,fz,.inl hb,fun j hj=>?_⟩
     have h1:=hc j (by omega)
     have hadd:ad.add j=⟨ad.block,ad.off+j,none⟩:=by
      obtain⟨b,off,sp⟩:=ad
      simp only at hsp;subst hsp
      unfold Addr.add;split<;>simp_all
     rw[hadd] at h1
     unfold World.cell? at h1
     simp only[hb] at h1
     simpa using h1
   | _=>rw[hb] at h0;simp only at h0;rw[List.getElem?_eq_getElem (by omega)] at h0;cases h0
end Go.Vc
namespace Go.Vc
open Go.ChangeShapes Go.WideShapes Go.ChangeAt Go.RowKit
def Opens{H α:Type}(en:TypeId×Value→H)(P:Program)(W:World)(sp:Nat→Bool)(hd:Bool)(n:Nat)(t:TypeId)(f:α→List Value)(R S:α→Prop):Prop :=
 ∀cs d ps,DataW.trod en P W 0 sp hd n t cs=some (d,ps)→∃x,cs=f x∧R x∧((∀m∈d.weights P t,m≤reachBytes)→S x)
def OpensF{H α:Type}(en:TypeId×Value→H)(P:Program)(W:World)(sp:Nat→Bool)(hd:Bool)(n:Nat)(z:Nat)(fs:List (TypeId×Nat))(o:Nat)(f:α→List Value)(R S:α→Prop):Prop :=
 ∀(cs:List Value) (xs:List (DataW H×List MemPlace)),(fs.mapM fun p=>DataW.trod en P W 0 sp hd n p.1 ((cs.drop p.2).take (P.cellsOf p.1)))=some xs→cs.length=z→∃x,cs.drop o=f x∧R x∧((∀m∈DataW.weightsEach P (fs.map Prod.fst) (xs.map Prod.fst),m≤reachBytes)→S x)
def structB(P:Program)(t:TypeId)(l:List (TypeId×Nat))(z:Nat):Bool:=match P.underlying t with
 | some (.struct fs)=>(fs.toList.map fun f=>(f.type,f.offset))==l&&P.cellsOf t==z
 | _=>false
theorem mapM_via{α β γ:Type}(h:α→β)(g:β→Option γ):∀l:List α,(l.map h).mapM g=l.mapM fun x=>g (h x)
 | []=>rfl
 | x::l=>by simp[List.mapM_cons,mapM_via h g l]
section
variable {H:Type} {en:TypeId×Value→H} {P:Program} {W:World} {sp:Nat→Bool} {hd:Bool} {n:Nat}
theorem OpensF.nil{z:Nat}:OpensF en P W sp hd n z [] z (fun _:Unit=>[]) (fun _=>True) (fun _=>True):=by
 intro cs xs h hl
 exact⟨(),List.drop_eq_nil_of_le (by omega),trivial,fun _=>trivial⟩
theorem OpensF.cons{α β:Type}{z o k:Nat}{t:TypeId}{fs:List (TypeId×Nat)}{f:α→List Value}{g:β→List Value}{R S:α→Prop}{R' S':β→Prop}(h:Opens en P W sp hd n t f R S)(hc:P.cellsOf t=k)
  (hs:OpensF en P W sp hd n z fs (o+k) g R' S'):OpensF en P W sp hd n z ((t,o)::fs) o (fun x:α×β=>f x.1++g x.2) (fun x=>R x.1∧R' x.2) (fun x=>S x.1∧S' x.2):=by
 intro cs xs hm hl
 rw[List.mapM_cons] at hm
 cases h0:DataW.trod en P W 0 sp hd n t ((cs.drop o).take (P.cellsOf t)) with
 | none=>simp[h0] at hm
 | some x0 =>
   cases h1:(fs.mapM fun p=>DataW.trod en P W 0 sp hd n p.1 ((cs.drop p.2).take (P.cellsOf p.1))) with
   | none=>simp[h0,h1] at hm
   | some ys =>
     simp[h0,h1] at hm
     subst hm
     obtain⟨d0,p0⟩:=x0
     obtain⟨x,e1,r1,s1⟩:=h _ _ _ h0
     obtain⟨y,e2,r2,s2⟩:=hs _ _ h1 hl
     refine⟨(x,y), ?_,⟨r1,r2⟩,fun hw=>⟨s1 fun m hm=>hw m ?_,s2 fun m hm=>hw m ?_⟩⟩
     ·show cs.drop o=f x++g y
      rw[←e1,←e2,hc,←List.drop_drop,List.take_append_drop]
     ·simp only[List.map_cons,DataW.weightsEach,List.mem_append];exact .inl hm
     ·simp only[List.map_cons,DataW.weightsEach,List.mem_append];exact .inr hm
theorem Opens.struct{α:Type}{z:Nat}{t:TypeId}{fs:List (TypeId×Nat)}{f:α→List Value}{R S:α→Prop}(ht:structB P t fs z=true)(h:OpensF en P W sp hd n z fs 0 f R S):Opens en P W sp hd (n+1) t f R S:=by
 intro cs d ps hr
 unfold structB at ht
 split at ht
 ·rename_i gs hg
  simp only[Bool.and_eq_true,beq_iff_eq] at ht
  obtain⟨ht,hz⟩:=ht
  simp only[DataW.trod,hg] at hr
  split at hr
  ·rename_i hl
   rw[hz] at hl
   cases hm:gs.toList.mapM fun f=>DataW.trod en P W 0 sp hd n f.type ((cs.drop f.offset).take (P.cellsOf f.type)) with
   | none=>rw[hm] at hr;cases hr
   | some xs =>
     rw[hm] at hr
     simp only[Option.map_some,Option.some.injEq,Prod.mk.injEq] at hr
     have hm':(fs.mapM fun p=>DataW.trod en P W 0 sp hd n p.1 ((cs.drop p.2).take (P.cellsOf p.1)))=some xs:=by rw[←ht,mapM_via];exact hm
     obtain⟨x,e,r,s⟩:=h cs xs hm' hl
     refine⟨x,by simpa using e,r,fun hw=>s fun m hmm=>hw m ?_⟩
     rw[←hr.1]
     simp only[DataW.weights,hg]
     have:gs.toList.map (fun f=>f.type)=fs.map Prod.fst:=by rw[←ht,List.map_map];rfl
     rw[this];exact hmm
  ·cases hr
 ·cases ht
theorem Opens.map{α β:Type}{t:TypeId}{f:α→List Value}{g:β→List Value}{R S:α→Prop}{R' S':β→Prop}(h:Opens en P W sp hd n t f R S)(φ:α→β)(hf:∀x,R x→f x=g (φ x))(hr:∀x,R x→R' (φ x))(hs:∀x,R x→S x→S' (φ x)):Opens en P W sp hd n t g R' S':=by
 intro cs d ps hd
 obtain⟨x,e,r,s⟩:=h cs d ps hd
 exact⟨φ x,e.trans (hf x r),hr x r,fun hw=>hs x r (s hw)⟩
theorem Opens.int{k:IntKind}{t:TypeId}(ht:P.underlying t=some (.int k)):Opens en P W sp hd n t (fun x:Int=>[.int k x]) (fun x=>(Lit.int k x).wf=true) (fun _=>True):=by
 intro cs d ps h
 obtain⟨x,e,_,hw⟩:=DataW.trod_int ht h
 exact⟨x,e,hw,fun _=>trivial⟩
theorem Opens.str{t:TypeId}(ht:P.underlying t=some .string):Opens en P W sp hd n t (fun x:ByteArray=>[.string x]) (fun x=>x.size≤maxLen) (fun x=>x.size≤reachBytes):=by
 intro cs d ps h
 obtain⟨s,e,hx,hl⟩:=DataW.trod_string ht h
 refine⟨s,e,hl,fun hw=>?_⟩
 simp only[Prod.mk.injEq] at hx
 have:=hw s.data.toList.length (by rw[hx.1];simp[DataW.weights])
 simpa using this
structure SlV (β:Type) where
 a:Option Addr
 n:Nat
 c:Nat
 l:List β
theorem Opens.slice{β:Type}{z by':Nat}{t e:TypeId}{f:β→List Value}{R S:β→Prop}(ht:P.underlying t=some (.slice e))(hc:P.cellsOf e=z)(hz:0<z)(hb:P.bytesOf e=by')(hb1:1≤by')(hf:∀x,(f x).length=z)(h:Opens en P W sp hd n e f R S) :
  Opens en P W sp hd (n+1) t (fun s:SlV β=>[.slice s.a s.n s.c]) (fun s=>SlG (Imm.all W) [] z f s.a s.n s.l∧∀x∈s.l,R x) (fun s=>s.l.length≤reachBytes∧∀x∈s.l,S x):=by
 intro cs d ps hr
 rcases DataW.trod_slice ht hr with ⟨h1,h2⟩ | ⟨ad,len,cap,elems,rest,n',hn,hcs,hx,_,_,_,hlen,hel,_,_⟩
 ·exact⟨⟨none,0,0,[]⟩,h1,⟨⟨rfl,fun h=>absurd rfl h⟩,fun x hx=>by cases hx⟩,fun _=>⟨by simp,fun x hx=>by cases hx⟩⟩
 ·cases hn
  simp only[Prod.mk.injEq] at hx
  obtain⟨hdd,hps⟩:=hx
  clear hps
  subst hcs
  have hone:∀i,i<len→∃x,Rd (Imm.all W) [] (ad.add (i*z)) (f x)∧R x∧((∀y∈elems,∀m∈y.1.weights P e,m≤reachBytes)→S x):=by
   intro i hi
   have hfy:=hel i hi
   obtain⟨y,hy⟩:∃y,elems[i]? = some y:=⟨_,List.getElem?_eq_getElem (by omega)⟩
   rw[hc,hy] at hfy
   cases hcs:W.cells? 0 (ad.add (i*z)) z with
   | none=>rw[hcs] at hfy;cases hfy
   | some cs =>
     rw[hcs] at hfy
     simp only[Option.bind_some] at hfy
     obtain⟨x,e1,r1,s1⟩:=h cs y.1 y.2 hfy
     subst e1
     have hspk:(ad.add (i*z)).spot=none:=by
      obtain⟨_,hl,hc'⟩:=World.cells?_some hcs
      have h0:=hc' 0 hz
      rw[show (ad.add (i*z)).add 0=ad.add (i*z) from rfl,List.getElem?_eq_getElem (by rw[hf];omega)] at h0
      cases hs:(ad.add (i*z)).spot with
      | none=>rfl
      | some q =>
        unfold World.cell? at h0
        split at h0<;>simp_all
     refine⟨x,Rd.of_row hcs hz [] hspk,r1,fun hw=>s1 fun m hm=>hw y (List.mem_of_getElem? hy) m hm⟩
  obtain⟨l,hll,hlx⟩:=list_choice len hone
  refine⟨⟨some ad,len,cap,l⟩,rfl,⟨⟨hll.symm,fun _=>⟨ad,rfl,fun i x hx=>(hlx i x hx).1⟩⟩,fun x hx=>?_⟩,fun hw=>⟨?_,fun x hx=>?_⟩⟩
  ·obtain⟨i,hi,rfl⟩:=List.mem_iff_getElem.1 hx
   exact (hlx i _ (List.getElem?_eq_getElem hi)).2.1
  ·have h1:=hw ((elems.length+rest.length)*by') (by rw[hdd];simp only[DataW.weights,ht,List.length_map,hb];exact List.mem_cons_self ..)
   have h2:elems.length+rest.length≤(elems.length+rest.length)*by':=Nat.le_mul_of_pos_right _ hb1
   show l.length≤reachBytes
   omega
  ·obtain⟨i,hi,rfl⟩:=List.mem_iff_getElem.1 hx
   refine (hlx i _ (List.getElem?_eq_getElem hi)).2.2 fun y hy m hm=>hw m ?_
   rw[hdd]
   simp only[DataW.weights,ht]
   refine List.mem_cons_of_mem _ (List.mem_append_left _ ?_)
   clear hx hlen hel hone hlx hdd hr hw hi hll
   induction elems with
   | nil=>cases hy
   | cons q qs ihq =>
     simp only[List.map_cons,DataW.weightsAll,List.mem_append]
     rcases List.mem_cons.1 hy with rfl | hy
     ·exact .inl hm
     ·exact .inr (ihq hy)
theorem Opens.zero{α:Type}{t:TypeId}{f:α→List Value}{R S:α→Prop}:Opens en P W sp hd 0 t f R S:=fun cs d ps h=>by cases h
end
end Go.Vc
namespace Go.Lx
open Go.Vc Go.ChangeShapes Go.WideShapes Go.ChangeAt Go.RowKit
def ndF:List (TypeId×Nat):=[(22,0),(23,1),(24,2),(2,3),(25,4),(9,5),(26,6),(3,7)]
theorem wf8{x:Int}(h:(Lit.int .u8 x).wf=true):0≤x∧x≤255:=by
 simp[Lit.wf,IntKind.min,IntKind.max,IntKind.signed,IntKind.bits] at h;omega
theorem wf64{x:Int}(h:(Lit.int .i64 x).wf=true) : -9223372036854775808≤x∧x≤9223372036854775807:=by
 simp[Lit.wf,IntKind.min,IntKind.max,IntKind.signed,IntKind.bits] at h;omega
theorem Wf.mk{t:Nd}(h:t.px.Fit)(hk:∀k∈t.kids,k.px.Wf):t.px.Wf:=by
 intro y hy
 rw[←nodes_px] at hy
 obtain⟨x,hx,rfl⟩:=List.mem_map.1 hy
 rw[Nd.nodes_eq] at hx
 rcases List.mem_cons.1 hx with rfl | hx
 ·exact h
 ·have hL:∀l:List Nd,(∀k∈l,k.px.Wf)→x∈Nd.nodesL l→x.px.Fit:=by
   intro l
   induction l with
   | nil=>intro _ h;rw[Nd.nodesL] at h;cases h
   | cons z r ih =>
     intro hz h
     rw[Nd.nodesL] at h
     rcases List.mem_append.1 h with h | h
     ·exact Wf.nd (hz z (List.mem_cons_self ..)) x h
     ·exact ih (fun k hk=>hz k (List.mem_cons_of_mem _ hk)) h
  exact hL _ hk hx
theorem open_nd{H:Type}{en:TypeId×Value→H}{W:World}{sp:Nat→Bool}{hd:Bool}:∀n,Opens en P W sp hd n 28 Nd.enc (fun t=>NdOk (Imm.all W) [] t∧t.px.Wf) (fun t=>t.px.ShortP):=by
 intro n
 induction n using Nat.strongRecOn with
 | ind n ih =>
   cases n with
   | zero=>exact Opens.zero
   | succ n =>
     have hsl:Opens en P W sp hd n 26 (fun s:SlV Nd=>[.slice s.a s.n s.c]) (fun s=>SlG (Imm.all W) [] 8 Nd.enc s.a s.n s.l∧∀x∈s.l,NdOk (Imm.all W) [] x∧x.px.Wf) (fun s=>s.l.length≤reachBytes∧∀x∈s.l,x.px.ShortP):=by
      cases n with
      | zero=>exact Opens.zero
      | succ n=>exact Opens.slice (z:=8) (by':=72) (by kernel_rfl) (by kernel_rfl) (by decide) (by kernel_rfl) (by decide) Nd.enc_len (ih n (by omega))
     refine (Opens.struct (z:=8) (fs:=ndF) (by kernel_rfl) ((OpensF.cons (k:=1) (Opens.int (k:=.u8) (by kernel_rfl)) (by kernel_rfl)<|OpensF.cons (k:=1) (Opens.int (k:=.u8) (by kernel_rfl)) (by kernel_rfl)<|OpensF.cons (k:=1) (Opens.int (k:=.u8) (by kernel_rfl)) (by kernel_rfl) <|
      OpensF.cons (k:=1) (Opens.int (k:=.i64) (by kernel_rfl)) (by kernel_rfl)<|OpensF.cons (k:=1) (Opens.int (k:=.u8) (by kernel_rfl)) (by kernel_rfl)<|OpensF.cons (k:=1) (Opens.str (by kernel_rfl)) (by kernel_rfl)<|OpensF.cons (k:=1) hsl (by kernel_rfl) <|
      OpensF.cons (k:=1) (Opens.int (k:=.i64) (by kernel_rfl)) (by kernel_rfl) OpensF.nil))).map (fun x=>Nd.mk x.1 x.2.1 x.2.2.1 x.2.2.2.1 x.2.2.2.2.1 x.2.2.2.2.2.1 x.2.2.2.2.2.2.1.a x.2.2.2.2.2.2.1.c x.2.2.2.2.2.2.1.l x.2.2.2.2.2.2.2.1) ?_ ?_ ?_
     ·intro ⟨k,o,ty,m,f,s,⟨a,l,c,ks⟩,q,u⟩ ⟨_,_,_,_,_,_,⟨h7,_⟩,_⟩
      have hl:l=ks.length:=h7.1
      subst hl;rfl
     ·intro ⟨k,o,ty,m,f,s,⟨a,l,c,ks⟩,q,u⟩ ⟨h1,h2,h3,h4,h5,h6,⟨h7,h8⟩,h9,_⟩
      have hl:l=ks.length:=h7.1
      subst hl
      refine⟨.mk h7 fun x hx=>(h8 x hx).1,Wf.mk ?_ fun x hx=>(h8 x hx).2⟩
      unfold Px.Fit
      rw[Nd.px_kind,Nd.px_oper,Nd.px_typ,Nd.px_n,Nd.px_field,Nd.px_pos]
      exact⟨wf8 h1,wf8 h2,wf8 h3,wf64 h4,wf8 h5,wf64 h9⟩
     ·intro ⟨k,o,ty,m,f,s,⟨a,l,c,ks⟩,q,u⟩ _ ⟨_,_,_,_,_,g6,⟨g7,g8⟩,_⟩
      refine .mk (by rw[Nd.px_name];exact g6) (by rw[Nd.px_len];exact g7) fun x hx=>?_
      rw[Nd.px_kids] at hx
      obtain⟨y,hy,rfl⟩:=List.mem_map.1 hx
      exact g8 y hy
theorem agg_of{P:Program}{W:World}{r:Reach}{b0:Nat}{t:TypeId}{v:Value}{fs:List (TypeId×Nat)}{z:Nat}(hst:structB P t fs z=true)(hval:Value.okWide P W r b0 t v):v=.agg v.cells.toList.toArray:=by
 unfold structB at hst
 split at hst
 ·rename_i gs hg
  have h5:=okWide_struct hg hval
  obtain⟨cs,hv,hcs⟩:=h5
  clear hcs
  subst hv
  rfl
 ·cases hst
theorem open_node{H:Type}{en:TypeId×Value→H}{W:World}{base:Nat}{sp:Nat→Bool}{hd:Bool}{v:Value}{d:DataW H}{ps:List MemPlace}{r:Reach}(hval:Value.okWide P W r base 28 v)(h:DataW.Trod en P W 0 sp hd 28 v d ps) :
  ∃t:Nd,v=t.v∧NdOk (Imm.all W) [] t∧t.px.Wf∧((∀m∈d.weights P 28,m≤reachBytes)→t.px.ShortP):=by
 have hv:=agg_of (fs:=ndF) (z:=8) (by kernel_rfl) hval
 obtain⟨fuel,hf⟩:=h
 obtain⟨t,e,⟨h1,h2⟩,h3⟩:=open_nd fuel _ d ps hf
 exact⟨t,by rw[hv,e],h1,h2,h3⟩
end Go.Lx
namespace Go.Lx
open Go.Vc Go.ChangeShapes Go.WideShapes Go.ChangeAt Go.RowKit
def _root_.Go.Vc.SlV.v{β:Type}(s:SlV β):Value:=.slice s.a s.n s.c
end Go.Lx
