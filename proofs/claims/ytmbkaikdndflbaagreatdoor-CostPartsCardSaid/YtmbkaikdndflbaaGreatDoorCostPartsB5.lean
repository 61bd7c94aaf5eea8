import Derived.Test.YtmbkaikdndflbaaGreatDoorCostPartsB4
set_option linter.unusedVariables false
set_option linter.unusedSimpArgs false
set_option linter.unusedSectionVars false
set_option maxRecDepth 100000
namespace Go.As
open Go.RowKit Go.Extern.Stop Go.Stop Go.Extern
abbrev BA:Value:=.iface 171 (.agg #[.pointer (some ⟨1,44,none⟩)])
set_option maxHeartbeats 4000000 in
theorem Eg(d:TypeId)(v:Value)(t:Addr)(w w2:World)(r:Bool)(hg:w.cell? ⟨0,0,none⟩=some BA)
  (h:Calls Go.Proofs.Tryz.prog 72 #[.iface d v,.iface 91 (.pointer (some t)),.agg #[.pointer (some ⟨1,91,none⟩),.pointer (some ⟨w.heap.size,0,none⟩),.int .u64 150],EE] ((w.alloc (.cells #[.pointer (some t)] 91)).alloc (Dy 91 ⟨w.heap.size,0,none⟩)) fun ev w'=>ev=.returned (.bool r)∧w'=w2) :
  Calls Go.Proofs.Tryz.prog 44 #[.iface d v,.iface 91 (.pointer (some t))] w fun ev w'=>ev=.returned (.bool r)∧w'=w2:=by
 have hV:=@run_callFunc_extern Go.Proofs.Tryz.prog 69 _ (fun args=>ReflectliteValue.unpack (args.getD 0 (.tuple #[]))) Go.Proofs.Tryz.func69 (by kernel_rfl) (by kernel_rfl) (by kernel_rfl) (by kernel_rfl)
 have hT:=@run_callFunc_extern Go.Proofs.Tryz.prog 70 _ (ReflectliteValue.methodAny (ReflectliteValue.valueError "reflectlite.Value.Type" 0) (fun t _ _ _=>ReflectliteType.toType t)) Go.Proofs.Tryz.func70 (by kernel_rfl) (by kernel_rfl) (by kernel_rfl) (by kernel_rfl)
 have hN:=@run_callFunc_extern Go.Proofs.Tryz.prog 71 _ (ReflectliteValue.method (ReflectliteValue.valueError "reflectlite.Value.IsNil" 0) ReflectliteValue.isNil) Go.Proofs.Tryz.func71 (by kernel_rfl) (by kernel_rfl) (by kernel_rfl) (by kernel_rfl)
 have hK:=@run_callFunc_extern Go.Proofs.Tryz.prog 189 _ (ReflectliteType.abiMethod fun t=>do pure (.int .u8 (←Rtype.kind t))) Go.Proofs.Tryz.func189 (by kernel_rfl) (by kernel_rfl) (by kernel_rfl) (by kernel_rfl)
 have hE:=@run_callFunc_extern Go.Proofs.Tryz.prog 201 _ (ReflectliteType.method ReflectliteType.elem) Go.Proofs.Tryz.func201 (by kernel_rfl) (by kernel_rfl) (by kernel_rfl) (by kernel_rfl)
 have hI:=@run_callFunc_extern Go.Proofs.Tryz.prog 202 _ (ReflectliteType.relation "Implements" ReflectliteType.implements_) Go.Proofs.Tryz.func202 (by kernel_rfl) (by kernel_rfl) (by kernel_rfl) (by kernel_rfl)
 have f6:=Bw
 have f7:=D7
 have mK:=ya
 have mE:=yb
 have mI:=pf
 have kP:=Dr
 have kT:=D8
 have eT:=D9
 have iT:=Ea
 have n8:=Ds ⟨w.heap.size,0,none⟩ t ((w.alloc (.cells #[.pointer (some t)] 91)).alloc (Dy 91 ⟨w.heap.size,0,none⟩)) (by simp)
 have hlt:0<w.heap.size:=by
  rcases Nat.eq_zero_or_pos w.heap.size with h0 | h
  ·simp[World.cell?,h0] at hg
  ·exact h
 have hg2:((w.alloc (.cells #[.pointer (some t)] 91)).alloc (Dy 91 ⟨w.heap.size,0,none⟩)).cell? ⟨0,0,none⟩=some BA:=by
  rw[World.cell?_alloc_lt _ _ ⟨0,0,none⟩ (by simp),World.cell?_alloc_lt _ _ ⟨0,0,none⟩ hlt];exact hg
 go_enter Go.Proofs.Tryz.func44,Go.Proofs.Tryz.ntmps44
 go_wp2_with (first | (go_at_call 72;refine h.mono ?_;rintro e w' ⟨rfl,rfl⟩))
 go_ret
 exact⟨rfl,rfl⟩
open Go.Vc (Sat)
end Go.As
namespace Go.Lx
open Go.Vc
def Gl(I:cc):Prop:=∃cs ty fz,I 0=some (.cells cs ty fz)∧cs[0]? = some Go.As.BA
theorem Gl.mono{I J:cc}(h:Gl I)(hl:cc.le I J):Gl J:=let ⟨cs,ty,fz,h1,h2⟩:=h;⟨cs,ty,fz,hl.at h1,h2⟩
theorem Gl.cell{I:cc}{F:bZ}{w:World}(h:Gl I)(hw:Sat I F w):w.cell? ⟨0,0,none⟩=some Go.As.BA:=by
 obtain⟨cs,ty,fz,h1,h2⟩:=h
 have:=hw.imm _ _ h1
 unfold World.cell?
 simp[this,h2]
theorem Gl.Cq{w:World}(h:w.cell? ⟨0,0,none⟩=some Go.As.BA):Gl (cc.all w):=by
 unfold World.cell? at h
 split at h
 ·rename_i c ty fz hc
  exact⟨c,ty,fz,hc,by simpa using h⟩
 ·cases h
theorem nK{I:cc}{F:bZ}{w:World}{t ty:Nat}{old:Value}(hw:Sat I ((t,.cells #[old] ty (0,0))::F) w):w.cell? ⟨t,0,none⟩=some old∧w.frozen? ⟨t,0,none⟩=false:=by
 have:=hw.own _ _ (.head _)
 unfold World.cell? World.frozen?
 simp[this]
theorem BB{w:World}{o o':Obj}{a:Addr}{v:Value}(h:w.cell? a=some v):((w.alloc o).alloc o').cell? a=some v:=by
 have hl:a.block<w.heap.size:=by
  rcases Nat.lt_or_ge a.block w.heap.size with h1 | h1
  ·exact h1
  ·simp[World.cell?,Array.getElem?_eq_none h1] at h
 rw[World.cell?_alloc_lt _ _ _ (by simp;omega),World.cell?_alloc_lt _ _ _ hl];exact h
theorem Ab{w:World}{o o':Obj}{a:Addr}{v:Value}(h:w.cell? a=some v)(hf:w.frozen? a=false):((w.alloc o).alloc o').frozen? a=false:=by
 have hl:a.block<w.heap.size:=by
  rcases Nat.lt_or_ge a.block w.heap.size with h1 | h1
  ·exact h1
  ·simp[World.cell?,Array.getElem?_eq_none h1] at h
 rw[World.frozen?_alloc_old _ _ _ (by simp;omega),World.frozen?_alloc_old _ _ _ (Nat.ne_of_lt hl)];exact hf
end Go.Lx
namespace Go.Vc
theorem Sat.nF{I:cc}{F:bZ}{w:World}(h:Sat I F w)(o:Obj):Sat I F (w.alloc o):=(h.alloc o).drop (A:=[_])
theorem Sat.EF{I:cc}{F:bZ}{w:World}{t ty:Nat}{old v:Value}(h:Sat I ((t,.cells #[old] ty (0,0))::F) w):Sat I ((t,.cells #[v] ty (0,0))::F) (w.setCell ⟨t,0,none⟩ v) :=
 Sat.set h (nJ (cs:=[old]) (h.own _ _ (.head _)) 0 v) ⟨rfl,rfl⟩
end Go.Vc
namespace Go.Lx
open Go.Vc
def EV(r:Bool)(G:bZ)(e:Ending)(I:cc)(F:bZ):Prop:=e=.returned (.bool r)∧F=G
section
variable {I:cc} {F:bZ} {t ty:Nat} {old:Value}
theorem Cr(hg:Gl I)(b:Nat):cf P 44 #[.iface 89 (.pointer (some ⟨b,0,none⟩)),.iface 91 (.pointer (some ⟨t,0,none⟩))] I ((t,.cells #[old] ty (0,0))::F) (EV true ((t,.cells #[.pointer (some ⟨b,0,none⟩)] ty (0,0))::F)):=fun w hw=>by
 obtain⟨hc,hf⟩:=nK hw
 refine (Go.As.Eg _ _ _ w _ true (hg.cell hw) (Go.As.Ee ⟨b,0,none⟩ ⟨t,0,none⟩ ⟨w.heap.size,0,none⟩ old _ _ (by simp) (BB hc) (Ab hc hf))).mono fun e w' ⟨he,hw'⟩=>⟨I,_,cc.le_refl I, ?_,he,rfl⟩
 rw[hw']
 exact Sat.EF ((((hw.nF _).nF _).nF _).nF _)
theorem Dz(hg:Gl I)(n:Int):cf P 44 #[pS n,.iface 91 (.pointer (some ⟨t,0,none⟩))] I F (EV false F):=fun w hw=>by
 refine (Go.As.Eg _ _ _ w _ false (hg.cell hw) (Go.As.Ef n ⟨w.heap.size,0,none⟩ _ _)).mono fun e w' ⟨he,hw'⟩=>⟨I,_,cc.le_refl I, ?_,he,rfl⟩
 rw[hw']
 exact ((hw.nF _).nF _).nF _
end
def fZ(I:cc)(f:TF)(v:Value):Prop :=
 (f.e=0→v=.nilIface)∧(f.e≠0→if f.of then ∃u,Ch I ur f.pos (pS f.e) u∧Ch I tr f.pos u v else Ch I tr f.pos (pS f.e) v)
theorem fZ.mono{I J:cc}{f:TF}{w:Value}(h:fZ I f w)(hl:cc.le I J):fZ J f w:=⟨h.1,fun he=>by
 have:=h.2 he
 split at this
 ·rename_i hof;rw[if_pos hof];obtain⟨u,h1,h2⟩:=this;exact⟨u,h1.mono hl,h2.mono hl⟩
 ·rename_i hof;rw[if_neg hof];exact this.mono hl⟩
theorem fZ.ok{I:cc}:fZ I rL .nilIface:=⟨fun _=>rfl,fun h=>absurd rfl h⟩
theorem fZ.neq{I:cc}{f:TF}{w:Value}(h:fZ I f w){t:TypeId}(ht:nE P t=true){x:Operand}:cS P .neq t x (.const .nilIface) w .nilIface (f.e != 0):=by
 by_cases he:f.e=0
 ·rw[h.1 he,he];exact uq ht
 ·have h2:=h.2 he
  rw[show (f.e != 0)=true by simpa using he]
  split at h2
  ·obtain⟨u,_,b,hw,_⟩:=h2;rw[hw];exact rR ht
  ·obtain⟨b,hw,_⟩:=h2;rw[hw];exact rR ht
theorem eZ{I:cc}(hg:Gl I)(pos n:Int)(hn:n≠0)(F:bZ):cf P 65 #[.int .i64 pos,pS n] I F (jk (fun v J=>fZ J ⟨n,pos,false⟩ v) F):=by
 refine cf.still (eG.vc ?_)
 unfold eG.V
 intro b_below
 refine (Dz hg n).mono fun e I1 G l1 ⟨he,hG⟩=>?_
 subst hG
 refine⟨false,he,_,.refl _,fun h=>(by cases h),fun _ b1=>⟨_,[_,_],rfl,.refl _,fun J hJ hx=>⟨fun h=>absurd h hn,fun _=>?_⟩⟩⟩
 rw[if_neg (by simp)]
 exact⟨b1,rfl,hx _ (.head _)⟩
theorem yc{I:cc}(hg:Gl I)(pos0 pos n:Int)(hn:n≠0){u:Value}(hu:Ch I ur pos (pS n) u)(F:bZ):cf P 65 #[.int .i64 pos0,u] I F (jk (fun v J=>fZ J ⟨n,pos,true⟩ v) F):=by
 obtain⟨b,rfl,hb⟩:=hu
 refine cf.still (eG.vc ?_)
 unfold eG.V
 intro b_below
 refine (Cr hg b).mono fun e I1 G l1 ⟨he,hG⟩=>?_
 subst hG
 refine⟨true,he,_,.refl _,fun _=>⟨some ⟨b,0,none⟩,Rd.tW (.head _) 0 (fun j hj=>?_),⟨b,0,none⟩,rfl,pos, ?_,fun b1=>⟨_,[_,_],rfl,.refl _,fun J hJ hx=>⟨fun h=>absurd h hn,fun _=>?_⟩⟩⟩,fun h=>(by cases h)⟩
 ·have:j=0:=by simpa using hj
  subst this;rfl
 ·rw[pU]
  exact Rd.tV (l1.at hb) _ 1 fun j hj=>by
   have:j=0:=by simpa using hj
   subst this;rfl
 ·rw[if_pos rfl]
  exact⟨_,⟨b,rfl,hJ.at (l1.at hb)⟩,b1,rfl,hx _ (.head _)⟩
end Go.Lx
namespace Go.Lx
open Go.Vc
theorem yd{l:List dJ}{r:dJ}{t:Int}(h:de l r.name=some t)(k:ByteArray):de (l++[r]) k=de l k:=by
 rw[lR]
 cases hk:de l k with
 | some t=>rfl
 | none =>
   show (if k=r.name then some r.cq else none)=none
   rw[if_neg]
   intro e;subst e;rw[hk] at h;cases h
theorem ye{l:List dJ}{r:dJ}(h:de l r.name=none)(k:ByteArray):de (l++[r]) k=nt (de l) r.name r.cq k:=by
 rw[lR]
 unfold nt
 by_cases e:k=r.name
 ·subst e;rw[h,if_pos rfl]
 ·rw[if_neg e,if_neg e]
  cases hk:de l k<;>rfl
def Eh(m0 m1 m2:Nat):Obj:=.cells #[.map (some m0),.map (some m1),.map (some m2)] 164 (0,0)
def Ei(s:cH)(F:bZ)(e:Ending)(I:cc)(G:bZ):Prop:=∃c m1 m2,e=.returned (.pointer (some ⟨c,0,none⟩))∧yQ I c s.p m1 m2∧G=(m1,.map #[] 0)::(m2,.map #[] 0)::F
theorem rV(s:cH)(hl:s.regs.length≤1048576)(I:cc)(F:bZ)(hok:s.Ok I F):cf P 66 #[s.v] I F (Ei s F):=by
 refine cf.keep (Q:=fun e I' G=>∃c m0 m1 m2 es ck,e=.returned (.pointer (some ⟨c,0,none⟩))∧iX Value.string (Value.int .u8) (de s.p.regs) es ck∧G.Perm ((m0,.map es ck)::(c,Eh m0 m1 m2)::(m1,.map #[] 0)::(m2,.map #[] 0)::F)) ?_ fun e I' G w hl hs ⟨c,m0,m1,m2,es,ck,he,hg,hp⟩=>by
  obtain⟨J,g1,g2,g3⟩:=Sat.still [_,_] (hs.perm hp)
  exact⟨J,_,g1,g3,c,m1,m2,he,⟨m0,es,ck,g2 _ (.tail _ (.head _)),g2 _ (.head _),hg⟩,rfl⟩
 refine fH.vc (fun sA cA i m I0 F0 I' F'=>0≤i∧i≤s.regs.length∧m=(s.regs.length-i).toNat∧∃c m0 m1 m2 es ck,cA=some (⟨c,0,none⟩:Addr)∧iX Value.string (Value.int .u8) (de (s.p.regs.take i.toNat)) es ck∧F'.Perm ((m0,.map es ck)::(c,Eh m0 m1 m2)::(m1,.map #[] 0)::(m2,.map #[] 0)::F)) ?_
 unfold fH.V
 intro b_s
 refine cI.mono iA fun v I1 G h1 ⟨r,hv,hI,hG⟩=>?_
 subst hI hG
 refine⟨some r,hv,(r,.map #[] 0)::F,.swap .., ?_⟩
 refine cI.mono iA fun v1 I1 G h1 ⟨r1,hv1,hI,hG⟩=>?_
 subst hI hG
 refine⟨some r1,hv1,(r1,.map #[] 0)::(r,.map #[] 0)::F,.swap .., ?_⟩
 refine cI.mono iA fun v2 I1 G h1 ⟨r2,hv2,hI,hG⟩=>?_
 subst hI hG
 refine⟨some r2,hv2,(r2,.map #[] 0)::(r1,.map #[] 0)::(r,.map #[] 0)::F,.swap .., ?_⟩
 intro b
 refine⟨⟨_,by omega,by omega,rfl,b,r,r1,r2,_,_,rfl,iX.nil 0, ?_⟩,fun i m I2 F2 l2 ⟨g0,g1,gm,c,m0,m1,m2,es,ck,hc,hg,hp⟩=>?_⟩
 ·exact p6.trans (((List.Perm.swap ..).cons _).cons _)
 obtain rfl:b=c:=by simpa using hc
 have hok1:s.Ok I2 F2:=hok.mono l2 fun y hy=>hp.mem_iff.2 (.tail _ (.tail _ (.tail _ (.tail _ hy))))
 refine⟨fun hlt=>?_,fun hlt=>?_⟩
 ·have hlt:=of_decide_eq_true hlt
  obtain⟨ad,g,had,hg1,hrd,hgm⟩:=gg.sG (hok1.cons (x:=(b_s,Obj.cells #[.string s.name,.slice s.ra s.regs.length s.rc,.slice s.sa s.slots.length s.sc,.slice s.ta s.states.length s.tc] 39 (0,0)))).regs g0 hlt
  refine⟨⟨g0,hlt⟩,ad,had,_,_,_,_,_,_,_,_,_,_,_,_,_,hrd,fun b_r=>?_⟩
  have hmc:∀(x y:Nat×Obj),(b,Eh m0 m1 m2)∈x::y::F2:=fun x y=>.tail _ (.tail _ (hp.mem_iff.2 (.tail _ (.head _))))
  have hm0:∀(x y:Nat×Obj),(m0,Obj.map es ck)∈x::y::F2:=fun x y=>.tail _ (.tail _ (hp.mem_iff.2 (.head _)))
  have hrdm:∀(J:cc) (x y:Nat×Obj),Rd J (x::y::F2) (⟨b,0,none⟩:Addr) [.map (some m0)]:=fun J x y=>Rd.tW (hmc x y) 0 fun j hj=>by
   have:j=0:=by simpa using hj
   subst this;rfl
  have hgl:s.p.regs[i.toNat]? = some g.p:=by
   show (s.regs.map dA.p)[i.toNat]? = _
   rw[List.getElem?_map,hg1];rfl
  have htk:s.p.regs.take (i+1).toNat=s.p.regs.take i.toNat++[g.p]:=by
   rw[show (i+1).toNat=i.toNat+1 by omega,List.take_add_one,hgl];rfl
  refine⟨_,rfl,some m0,hrdm _ _ _, ?_⟩
  refine cI.mono (oY Ci wk jt str_inj Bq hg (.inr (hm0 _ _)) g.name) fun v3 I3 G h3 ⟨hv3,hI,hG⟩=>?_
  subst hI hG
  refine⟨((de (s.p.regs.take i.toNat) g.name).getD 0),(de (s.p.regs.take i.toNat) g.name).isSome,by rw[hv3];cases de (s.p.regs.take i.toNat) g.name<;>rfl,F2,.refl _,fun hn=>?_,fun hn=>⟨(s.regs.length-(i+1)).toNat,by omega, ?_⟩⟩
  ·have hn:de (s.p.regs.take i.toNat) g.name=none:=by simpa using hn
   refine⟨_,rfl,some m0,hrdm _ _ _, ?_⟩
   refine jR.perm (jR.mono (pN Ci wk jt str_inj hg g.name g.cq (F:=(b_s,Obj.cells #[.string s.name,.slice s.ra s.regs.length s.rc,.slice s.sa s.slots.length s.sc,.slice s.ta s.states.length s.tc] 39 (0,0))::(b_r,.cells g.enc.toArray 77 (0,0))::(b,Eh m0 m1 m2)::(m1,.map #[] 0)::(m2,.map #[] 0)::F)) fun I4 G h4 ⟨hI,es',c',hG,hg'⟩=>?_) (((hp.cons _).cons _).trans cU)
   subst hI hG
   refine⟨(m0,.map es' c')::(b,Eh m0 m1 m2)::(m1,.map #[] 0)::(m2,.map #[] 0)::F,cU.symm,(s.regs.length-(i+1)).toNat,by omega, ?_⟩
   rw[dW (n:=i+1) (by omega)]
   refine⟨by omega,by omega,rfl,b,m0,m1,m2,es',c',rfl, ?_,.refl _⟩
   rw[htk]
   exact hg'.congr fun k=>(ye (r:=g.p) hn k).symm
  ·obtain⟨t,hn⟩:∃t,de (s.p.regs.take i.toNat) g.name=some t:=by
    cases h:de (s.p.regs.take i.toNat) g.name with
    | none=>rw[h] at hn;cases hn
    | some t=>exact⟨t,rfl⟩
   rw[dW (n:=i+1) (by omega)]
   refine⟨by omega,by omega,rfl,b,m0,m1,m2,es,ck,rfl, ?_,hp⟩
   rw[htk]
   exact hg.congr fun k=>(yd (r:=g.p) hn k).symm
 ·have hlt:=of_decide_eq_false hlt
  refine⟨b,m0,m1,m2,es,ck,rfl, ?_,hp⟩
  rw[List.take_of_length_le (by show (s.regs.map dA.p).length≤_;rw[List.length_map];omega)] at hg
  exact hg
theorem uu(nm:ByteArray):∀(l:List ByteArray) (i:Nat) (j:Int),l[i]? = some nm→(lM nm l j<j+i↔gq (l.take i) nm=true)∧0≤lM nm l j-j
 | [],i,j,h=>by simp at h
 | x::l,0,j,h=>by
   simp only[List.getElem?_cons_zero,Option.some.injEq] at h
   subst h
   rw[lM,if_pos (by simp)]
   refine⟨⟨fun h=>by omega,fun h=>by simp[gq] at h⟩,by omega⟩
 | x::l,i+1,j,h=>by
   rw[lM]
   have ih:=uu nm l i (j+1) (by simpa using h)
   by_cases hx:(x.toList==nm.toList)=true
   ·rw[if_pos hx]
    have:=j5.1 hx
    subst this
    refine⟨⟨fun _=>by simp[gq],fun _=>by omega⟩,by omega⟩
   ·rw[if_neg hx]
    have hne:¬x=nm:=fun e=>hx (j5.2 e)
    refine⟨?_,by omega⟩
    rw[List.take_succ_cons]
    have e:gq (x::l.take i) nm=gq (l.take i) nm:=by
     unfold gq;rw[List.any_cons,decide_eq_false hne,Bool.false_or]
    rw[e,←ih.1]
    constructor<;>intro h<;>omega
theorem uv(nm:ByteArray):∀(l:List ByteArray) (j:Int),0≤j→(lM nm l j<0↔gq l nm=false)
 | [],j,h=>by rw[lM];simp[gq]
 | x::l,j,h=>by
   rw[lM]
   by_cases hx:(x.toList==nm.toList)=true
   ·rw[if_pos hx]
    have:=j5.1 hx
    subst this
    refine⟨fun h=>by omega,fun h=>by simp[gq] at h⟩
   ·rw[if_neg hx,uv nm l (j+1) (by omega)]
    have hne:¬x=nm:=fun e=>hx (j5.2 e)
    unfold gq;rw[List.any_cons,decide_eq_false hne,Bool.false_or]
def uJ(l:List ByteArray)(k:Nat)(o:Obj):Prop:=∃es ck g,o=.map es ck∧iX Value.string (Value.int .i64) g es ck∧wM l k g
theorem uJ.nil:uJ [] 0 (.map #[] 0):=⟨_,_,_,rfl,iX.nil 0,wM.nil⟩
def DA(l:List ByteArray)(i:Nat)(nm:ByteArray)(c:Int):Prop:=1≤c∧c≤i+1∧(1<c↔gq (l.take i) nm=true)
theorem wM.step{l:List ByteArray}{i:Nat}{g:ByteArray→Option Int}{nm:ByteArray}(h:wM (l.take i) i g)(hl:l[i]? = some nm) :
  wM (l.take (i+1)) (i+1) (nt g nm ((g nm).getD 0+1))∧DA l i nm ((g nm).getD 0+1):=by
 have htk:l.take (i+1)=l.take i++[nm]:=by rw[List.take_add_one,hl];rfl
 by_cases hs:gq (l.take i) nm=true
 ·obtain⟨m,h1,h2,h3⟩:=(h nm).1 hs
  rw[h1]
  refine⟨?_, ?_, ?_, ?_⟩
  ·intro s
   have:=(h.more hs h2 h3) s
   rw[htk]
   have e:gq (l.take i++[nm]) s=gq (l.take i) s:=by
    unfold gq at hs ⊢;rw[List.any_append]
    by_cases hsn:nm=s
    ·subst hsn;rw[hs];rfl
    ·simp[hsn]
   rw[e];exact this
  ·show 1≤m+1;omega
  ·show m+1≤i+1;omega
  ·exact⟨fun _=>hs,fun _=>by show 1<m+1;omega⟩
 ·have hs:gq (l.take i) nm=false:=by simpa using hs
  have h1:=(h nm).2 hs
  rw[h1]
  refine⟨?_, ?_, ?_, ?_⟩
  ·rw[htk];exact h.new
  ·show (1:Int)≤0+1;omega
  ·show (0:Int)+1≤i+1;omega
  ·rw[hs];exact⟨fun h=>by simp at h,fun h=>by cases h⟩
section
variable {I:cc} {l:List ByteArray} {i:Nat} {nm:ByteArray} {o:Obj} {m:Nat} {G R:bZ}
theorem uw(hc:uJ (l.take i) i o)(hl:l[i]? = some nm)(hi:i≤1048576)(hm:(m,o)∈G):cI P (Instr.lookup 162 (.map (some m)) (.string nm) false) I G fun v I' G'=>∃r:Int,v=.int .i64 r∧I'=I∧G'=G ∧
  (∀G2,G.Perm ((m,o)::G2)→jR P (Instr.mapUpdate 162 (.map (some m)) (.string nm) (.int .i64 (IntKind.wrap .i64 (r+1)))) I G fun I' G'=>I'=I∧∃o',uJ (l.take (i+1)) (i+1) o'∧G'=(m,o')::G2 ∧
   ∀G3,(m,o')∈G3→cI P (Instr.lookup 162 (.map (some m)) (.string nm) false) I G3 fun v I' G'=>∃c:Int,v=.int .i64 c∧I'=I∧G'=G3∧DA l i nm c):=by
 obtain⟨es,ck,g,rfl,hg,hmet⟩:=hc
 obtain⟨h1,h2⟩:=hmet.step hl
 refine cI.mono (nu Cj wk jt str_inj Br hg (.inr hm) nm) fun v I1 G1 hl1 ⟨hv,hI,hG⟩=>⟨(g nm).getD 0, ?_,hI,hG,fun G2 hp=>?_⟩
 ·rw[hv];cases g nm<;>rfl
 ·have hw:IntKind.wrap .i64 ((g nm).getD 0+1)=(g nm).getD 0+1:=dW (by unfold DA at h2;omega)
  rw[hw]
  refine jR.perm (jR.mono (pN Cj wk jt str_inj hg nm ((g nm).getD 0+1) (F:=G2)) fun I2 G3 hl2 ⟨hI2,es',ck',hG3,hg'⟩=>⟨hI2,_,⟨es',ck',_,rfl,hg',h1⟩,hG3,fun G4 hm4=>?_⟩) hp
  refine cI.mono (nu Cj wk jt str_inj Br hg' (.inr hm4) nm) fun v3 I3 G5 hl3 ⟨hv3,hI3,hG5⟩=>⟨(g nm).getD 0+1, ?_,hI3,hG5,h2⟩
  rw[hv3];unfold nt;rw[if_pos rfl];rfl
end
section
variable (s:cH) (hl:s.p.fC) {I:cc} {F:bZ} (hok:s.Ok I F)
def jB(s:cH):List ByteArray:=s.slots.map dq.name
def j6(s:cH):List ByteArray:=s.states.map cp.name
def oB(s:cH):List ByteArray:=s.regs.map dA.name
def EG(s:cH)(m1 m2:Nat)(F:bZ)(e:Ending)(I:cc)(G:bZ):Prop:=∃v,e=.returned v∧fZ I s.p.named v∧∃o1 o2,G=(m1,o1)::(m2,o2)::F∧(s.p.named.e=0→uJ (jB s) s.slots.length o1∧uJ (j6 s) s.states.length o2)
theorem Cs(nm:ByteArray):s.p.ji nm=lM nm (oB s) 0:=by
 unfold cw.ji oB
 show lM nm ((s.regs.map dA.p).map dJ.name) 0=_
 rw[List.map_map];rfl
theorem wo(nm:ByteArray):s.p.room nm=lM nm (j6 s) 0:=by
 unfold cw.room j6
 show lM nm ((s.states.map cp.p).map cD.name) 0=_
 rw[List.map_map];rfl
end
end Go.Lx
namespace Go.Lx
open Go.Vc
theorem yQ.rd{I:cc}{c m1 m2:Nat}{s:cw}(h:yQ I c s m1 m2)(G:bZ):Rd I G ((⟨c,0,none⟩:Addr).add 1) [.map (some m1)]∧Rd I G ((⟨c,0,none⟩:Addr).add 2) [.map (some m2)]:=by
 obtain⟨m0,es,ck,hc,_,_⟩:=h
 rw[pU,pU]
 exact⟨Rd.tV hc _ 1 fun j hj=>by
  have:j=0:=by simpa using hj
  subst this;rfl,Rd.tV hc _ 2 fun j hj=>by
  have:j=0:=by simpa using hj
  subst this;rfl⟩
theorem ux{n p:Int}{b:Bool}(h:n≠0)(x:TF):il ⟨n,p,b⟩ x=⟨n,p,b⟩:=qi _ h x
section
variable {s:cH} (hl:s.p.nC) {I:cc} {F:bZ} (hok:s.Ok I F)
include hl hok
theorem sH(hg:Gl I)(hf:∀r∈s.regs,r.init.px.formed=true){c m1 m2:Nat}(hS:yQ I c s.p m1 m2) :
  cf P 67 #[.pointer (some ⟨c,0,none⟩),s.v] I ((m1,.map #[] 0)::(m2,.map #[] 0)::F) (EG s m1 m2 F):=by
 have lr:=hl.regs
 have ls:=hl.slots
 have lt:=hl.states
 simp only[cH.p,List.length_map] at lr ls lt
 refine cf.keep (Q:=fun e I' G=>∃v o1 o2 H,e=.returned v∧fZ I' s.p.named v∧G.Perm ((m1,o1)::(m2,o2)::(H++F))∧(s.p.named.e=0→uJ (jB s) s.slots.length o1∧uJ (j6 s) s.states.length o2)) ?_
  fun e I' G w hl hs ⟨v,o1,o2,H,he,hv,hp,hk⟩=>⟨I',_,cc.le_refl _,(hs.perm hp).sub (((List.sublist_append_right H F).cons_cons _).cons_cons _),v,he,hv,o1,o2,rfl,hk⟩
 refine dP.vc
  (fun r x i m I0 F0 I' F'=>0≤i∧i≤s.regs.length∧m=(s.regs.length-i).toNat∧s.p.named=il (uk s.p (s.p.regs.drop i.toNat) i) (il (rO s.p s.slots 0) (o9 s.p s.p.states 0)) ∧
    ∃r0 o,r=some r0∧uJ ((oB s).take i.toNat) i.toNat o∧F'.Perm ((r0,o)::(m1,.map #[] 0)::(m2,.map #[] 0)::F))
  (fun x i m I0 F0 I' F'=>0≤i∧i≤s.slots.length∧m=(s.slots.length-i).toNat∧s.p.named=il (rO s.p (s.slots.drop i.toNat) i) (o9 s.p s.p.states 0) ∧
    ∃H o,uJ ((jB s).take i.toNat) i.toNat o∧F'.Perm ((m1,o)::(m2,.map #[] 0)::(H++F)))
  (fun x i m I0 F0 I' F'=>0≤i∧i≤s.states.length∧m=(s.states.length-i).toNat∧s.p.named=o9 s.p (s.p.states.drop i.toNat) i ∧
    ∃H o1 o,uJ (jB s) s.slots.length o1∧uJ ((j6 s).take i.toNat) i.toNat o∧F'.Perm ((m1,o1)::(m2,o)::(H++F))) ?_
 unfold dP.V
 intro b_s
 refine cI.mono iA fun v I1 G h1 ⟨r,hv,hI,hG⟩=>?_
 subst hI hG
 refine⟨some r,hv,(r,.map #[] 0)::(m1,.map #[] 0)::(m2,.map #[] 0)::F,.swap .., ?_⟩
 refine⟨⟨_,by omega,by omega,rfl,rfl,r,_,rfl,uJ.nil,.refl _⟩,fun x i m I2 F2 l2 ⟨g0,g1,gm,ge,r',o,hr,hcn,hp⟩=>?_⟩
 obtain rfl:r=r':=by simpa using hr
 refine⟨fun hlt=>?_,fun hlt=>⟨⟨_,by omega,by omega,rfl, ?_,[_],_,uJ.nil,hp.trans cU.symm⟩,fun x2 i2 m4 I9 F9 l9 ⟨k0,k1,km,ke,H,o2,kcn,kp⟩=>⟨fun hlt2=>?_,fun hlt2=>⟨⟨_,by omega,by omega,rfl, ?_,H,o2,.map #[] 0, ?_,uJ.nil,kp⟩,
  fun x4 i3 m9 I14 F14 l14 ⟨q0,q1,qm,qe,H',o1,o3,qs,qcn,qp⟩=>⟨fun hlt3=>?_,fun hlt3=>?_⟩⟩⟩⟩⟩
 ·have hlt:=of_decide_eq_true hlt
  have hok2:∀{J:cc} (G:bZ),cc.le I1 J→(∀y,y∈F→y∈G)→s.Ok J G:=fun G hJ h=>hok.mono hJ h
  have hsub2:∀y,y∈F→y∈F2:=fun y hy=>hp.mem_iff.2 (.tail _ (.tail _ (.tail _ hy)))
  obtain⟨ad,g,had,hg1,hrd,hgm⟩:=gg.sG (hok2 ((b_s,Obj.cells #[.string s.name,.slice s.ra s.regs.length s.rc,.slice s.sa s.slots.length s.sc,.slice s.ta s.states.length s.tc] 39 (0,0))::F2) l2 fun y hy=>.tail _ (hsub2 y hy)).regs g0 hlt
  have hgl:(oB s)[i.toNat]? = some g.name:=by unfold oB;rw[List.getElem?_map,hg1];rfl
  have hgp:s.p.regs[i.toNat]? = some g.p:=by
   show (s.regs.map dA.p)[i.toNat]? = _
   rw[List.getElem?_map,hg1];rfl
  have hdr:s.p.regs.drop i.toNat=g.p::s.p.regs.drop (i.toNat+1):=by
   obtain⟨h1,h2⟩:=List.getElem?_eq_some_iff.1 hgp
   rw[List.drop_eq_getElem_cons h1,h2]
  rw[hdr,uk] at ge
  refine⟨⟨g0,hlt⟩,ad,had,_,_,_,_,_,_,_,_,_,_,_,_,_,hrd,fun b_r=>?_⟩
  have hm0:∀(x y:Nat×Obj),(r,o)∈x::y::F2:=fun x y=>.tail _ (.tail _ (hp.mem_iff.2 (.head _)))
  refine cI.mono (uw hcn hgl (by omega) (hm0 _ _)) fun v1 I3 G hl3 ⟨r1,hv1,hI,hG,hu⟩=>⟨r1,hv1,F2,by rw[hG], ?_⟩
  subst hI hG
  refine jR.mono (hu _ (((hp.cons _).cons _).trans cU)) fun I4 G hl4 ⟨hI,o',hcn',hG,hlk⟩=>?_
  subst hI hG
  refine⟨(r,o')::(m1,.map #[] 0)::(m2,.map #[] 0)::F,cU.symm, ?_⟩
  refine cI.mono (hlk _ (.tail _ (.tail _ (.head _)))) fun v2 I5 G hl5 ⟨r2,hv2,hI,hG,n1,n2,n3⟩=>?_
  subst hI hG
  have hix:=(uu g.name (oB s) i.toNat 0 hgl).1
  rw[←Cs,Int.zero_add,Int.toNat_of_nonneg g0] at hix
  have hgI:Gl I5:=hg.mono l2
  refine⟨r2,hv2,(r,o')::(m1,.map #[] 0)::(m2,.map #[] 0)::F,.refl _,fun h2=>?_,fun h2=>?_⟩
  ·have h2:=of_decide_eq_true h2
   rw[if_pos (show s.p.ji g.p.name<i from hix.2 (n3.1 h2)),ux (n:=150) (by decide)] at ge
   refine cf.hM (eZ hgI g.pos 150 (by decide) _) fun v I6 l6 hv=>⟨v,rfl,_,.refl _,v,_,_,[_],rfl, ?_,cU.symm,fun h=>?_⟩
   ·rw[ge];exact hv
   ·rw[ge] at h;exact absurd h (show (150:Int)≠0 by decide)
  ·have h2:=of_decide_eq_false h2
   rw[if_neg (show ¬s.p.ji g.p.name<i from fun h=>h2 (n3.2 (hix.1 h)))] at ge
   refine cf.hM (yR g.init (hf g hgm) I5 _ (hS.mono l2) (cy.mono (hok.ji _ hgm) l2 fun y hy=>.tail _ (.tail _ (.tail _ (.tail _ (.tail _ hy)))))) fun v I7 l7 ⟨w,hv,hw⟩=>⟨_,_,congrArg Ending.returned hv,_,.refl _,fun ht=>?_,fun ht=>?_⟩
   ·have ht:(typed s.p g.init.px).1≠g.cq:=by simpa using ht
    rw[if_pos (show (typed s.p g.p.init).1≠g.p.cq from ht),ux (n:=152) (by decide)] at ge
    refine cf.hM (eZ (hgI.mono l7) g.pos 152 (by decide) _) fun v I8 l8 hv=>⟨v,rfl,_,.refl _,v,_,_,[_],rfl, ?_,cU.symm,fun h=>?_⟩
    ·rw[ge];exact hv
    ·rw[ge] at h;exact absurd h (show (152:Int)≠0 by decide)
   ·have ht:(typed s.p g.init.px).1=g.cq:=by simpa using ht
    rw[if_neg (show ¬(typed s.p g.p.init).1≠g.p.cq from fun h=>h ht)] at ge
    refine⟨(s.regs.length-(i+1)).toNat,by omega, ?_⟩
    rw[dW (n:=i+1) (by omega)]
    refine⟨by omega,by omega,rfl, ?_,r,o',rfl, ?_,.refl _⟩
    ·rw[ge,show (i+1).toNat=i.toNat+1 by omega]
    ·rw[show (i+1).toNat=i.toNat+1 by omega];exact hcn'
 ·have hlt:=of_decide_eq_false hlt
  rw[ge,List.drop_eq_nil_of_le (by show (s.regs.map dA.p).length≤_;rw[List.length_map];omega)];rfl
 ·have hlt2:=of_decide_eq_true hlt2
  have l29:=cc.le_trans l2 l9
  have hsub2:∀y,y∈F→y∈F9:=fun y hy=>kp.mem_iff.2 (.tail _ (.tail _ (List.mem_append_right _ hy)))
  obtain⟨ad,g,had,hg1,hrd,hgm⟩:=gg.sG (hok.mono (H:=(b_s,Obj.cells #[.string s.name,.slice s.ra s.regs.length s.rc,.slice s.sa s.slots.length s.sc,.slice s.ta s.states.length s.tc] 39 (0,0))::F9) l29 fun y hy=>.tail _ (hsub2 y hy)).slots k0 hlt2
  have hgl:(jB s)[i2.toNat]? = some g.name:=by unfold jB;rw[List.getElem?_map,hg1];rfl
  have hdr:s.slots.drop i2.toNat=g::s.slots.drop (i2.toNat+1):=by
   obtain⟨h1,h2⟩:=List.getElem?_eq_some_iff.1 hg1
   rw[List.drop_eq_getElem_cons h1,h2]
  rw[hdr,rO] at ke
  refine⟨⟨k0,hlt2⟩,ad,had,_,_,hrd,fun b_x=>?_⟩
  have hSJ:=hS.mono l29
  refine⟨_,rfl,some m1,(hSJ.rd _).1, ?_⟩
  have hm0:∀(x y:Nat×Obj),(m1,o2)∈x::y::F9:=fun x y=>.tail _ (.tail _ (kp.mem_iff.2 (.head _)))
  refine cI.mono (uw kcn hgl (by omega) (hm0 _ _)) fun v1 I3 G hl3 ⟨r1,hv1,hI,hG,hu⟩=>⟨r1,hv1,F9,by rw[hG], ?_⟩
  subst hI hG
  refine jR.mono (hu _ (((kp.cons _).cons _).trans cU)) fun I4 G hl4 ⟨hI,o',hcn',hG,hlk⟩=>?_
  subst hI hG
  refine⟨(m1,o')::(m2,.map #[] 0)::(H++F),cU.symm,_,rfl,some m1,(hSJ.rd _).1, ?_⟩
  refine cI.mono (hlk _ (.tail _ (.tail _ (.head _)))) fun v2 I5 G hl5 ⟨r2,hv2,hI,hG,n1,n2,n3⟩=>?_
  subst hI hG
  have hix:=(uu g.name (jB s) i2.toNat 0 hgl).1
  rw[show lM g.name (jB s) 0=s.p.slot g.name from rfl,Int.zero_add,Int.toNat_of_nonneg k0] at hix
  refine⟨r2,hv2,(m1,o')::(m2,.map #[] 0)::(H++F),.refl _,fun h2=>?_,fun h2=>⟨(s.slots.length-(i2+1)).toNat,by omega, ?_⟩⟩
  ·have h2:=of_decide_eq_true h2
   rw[if_pos (hix.2 (n3.1 h2)),ux (n:=150) (by decide)] at ke
   refine cf.hM (eZ (hg.mono l29) g.pos 150 (by decide) _) fun v I6 l6 hv=>⟨v,rfl,_,.refl _,v,_,_,H,rfl, ?_,.refl _,fun h=>?_⟩
   ·rw[ke];exact hv
   ·rw[ke] at h;exact absurd h (show (150:Int)≠0 by decide)
  ·have h2:=of_decide_eq_false h2
   rw[if_neg (fun h=>h2 (n3.2 (hix.1 h)))] at ke
   rw[dW (n:=i2+1) (by omega)]
   refine⟨by omega,by omega,rfl, ?_,H,o', ?_,.refl _⟩
   ·rw[ke,show (i2+1).toNat=i2.toNat+1 by omega]
   ·rw[show (i2+1).toNat=i2.toNat+1 by omega];exact hcn'
 ·have hlt2:=of_decide_eq_false hlt2
  rw[ke,List.drop_eq_nil_of_le (by omega)];rfl
 ·have hlt2:=of_decide_eq_false hlt2
  rw[List.take_of_length_le (by unfold jB;rw[List.length_map];omega),show i2.toNat=s.slots.length by omega] at kcn
  exact kcn
 ·have hlt3:=of_decide_eq_true hlt3
  have l29:=cc.le_trans l2 (cc.le_trans l9 l14)
  have hsub2:∀y,y∈F→y∈F14:=fun y hy=>qp.mem_iff.2 (.tail _ (.tail _ (List.mem_append_right _ hy)))
  obtain⟨ad,g,had,hg1,hrd,hgm⟩:=gg.sG (hok.mono (H:=(b_s,Obj.cells #[.string s.name,.slice s.ra s.regs.length s.rc,.slice s.sa s.slots.length s.sc,.slice s.ta s.states.length s.tc] 39 (0,0))::F14) l29 fun y hy=>.tail _ (hsub2 y hy)).states q0 hlt3
  have hgl:(j6 s)[i3.toNat]? = some g.name:=by unfold j6;rw[List.getElem?_map,hg1];rfl
  have hgp:s.p.states[i3.toNat]? = some g.p:=by
   show (s.states.map cp.p)[i3.toNat]? = _
   rw[List.getElem?_map,hg1];rfl
  have hdr:s.p.states.drop i3.toNat=g.p::s.p.states.drop (i3.toNat+1):=by
   obtain⟨h1,h2⟩:=List.getElem?_eq_some_iff.1 hgp
   rw[List.drop_eq_getElem_cons h1,h2]
  rw[hdr,o9] at qe
  refine⟨⟨q0,hlt3⟩,ad,had,_,_,_,_,_,hrd,fun b_x=>?_⟩
  have hSJ:=hS.mono l29
  refine⟨_,rfl,some m2,(hSJ.rd _).2, ?_⟩
  have hm0:∀(x y:Nat×Obj),(m2,o3)∈x::y::F14:=fun x y=>.tail _ (.tail _ (qp.mem_iff.2 (.tail _ (.head _))))
  refine cI.mono (uw qcn hgl (by omega) (hm0 _ _)) fun v1 I3 G hl3 ⟨r1,hv1,hI,hG,hu⟩=>⟨r1,hv1,F14,by rw[hG], ?_⟩
  subst hI hG
  refine jR.mono (hu _ (((qp.cons _).cons _).trans p6)) fun I4 G hl4 ⟨hI,o',hcn',hG,hlk⟩=>?_
  subst hI hG
  refine⟨(m1,o1)::(m2,o')::(H'++F),p6.symm,_,rfl,some m2,(hSJ.rd _).2, ?_⟩
  refine cI.mono (hlk _ (.tail _ (.tail _ (.tail _ (.head _))))) fun v2 I5 G hl5 ⟨r2,hv2,hI,hG,n1,n2,n3⟩=>?_
  subst hI hG
  have hix:=(uu g.name (j6 s) i3.toNat 0 hgl).1
  rw[←wo,Int.zero_add,Int.toNat_of_nonneg q0] at hix
  refine⟨r2,hv2,(m1,o1)::(m2,o')::(H'++F),.refl _,fun h2=>?_,fun h2=>⟨(s.states.length-(i3+1)).toNat,by omega, ?_⟩⟩
  ·have h2:=of_decide_eq_true h2
   rw[if_pos (show s.p.room g.p.name<i3 from hix.2 (n3.1 h2))] at qe
   refine cf.hM (eZ (hg.mono l29) g.pos 150 (by decide) _) fun v I6 l6 hv=>⟨v,rfl,_,.refl _,v,_,_,H',rfl, ?_,.refl _,fun h=>?_⟩
   ·rw[qe];exact hv
   ·rw[qe] at h;exact absurd h (show (150:Int)≠0 by decide)
  ·have h2:=of_decide_eq_false h2
   rw[if_neg (show ¬s.p.room g.p.name<i3 from fun h=>h2 (n3.2 (hix.1 h)))] at qe
   rw[dW (n:=i3+1) (by omega)]
   refine⟨by omega,by omega,rfl, ?_,H',o1,o',qs, ?_,.refl _⟩
   ·rw[qe,show (i3+1).toNat=i3.toNat+1 by omega]
   ·rw[show (i3+1).toNat=i3.toNat+1 by omega];exact hcn'
 ·have hlt3:=of_decide_eq_false hlt3
  rw[List.drop_eq_nil_of_le (by show (s.states.map cp.p).length≤_;rw[List.length_map];omega)] at qe
  rw[List.take_of_length_le (by unfold j6;rw[List.length_map];omega),show i3.toNat=s.states.length by omega] at qcn
  refine⟨_,o1,o3,H',rfl, ?_,qp,fun _=>⟨qs,qcn⟩⟩
  rw[qe];exact fZ.ok
end
end Go.Lx
namespace Go.Lx
open Go.Vc
def wq(f:TF)(v:Value)(J:cc):Prop:=fZ J f v
mutual
theorem wu(s:cw):∀x:Px,(typed s x).2.e≠0→(typed s x).2.of=true
 | .mk k o t n f nm l q,h=>by
   rw[typed] at h ⊢
   split
   ·rename_i h1;exact tu s l h1
   ·rename_i h1
    rw[if_neg h1] at h
    unfold dU at h ⊢
    split
    ·rfl
    ·rename_i h2
     rw[if_neg h2] at h
     split
     ·rename_i h3;rw[if_pos h3] at h;exact absurd rfl h
     ·rfl
theorem tu(s:cw):∀l:List Px,(eJ s l).2.e≠0→(eJ s l).2.of=true
 | [],h=>by rw[eJ] at h;exact absurd rfl h
 | x::r,h=>by
   rw[eJ] at h ⊢
   split
   ·rename_i h1;exact wu s x h1
   ·rename_i h1;rw[if_neg h1] at h;exact tu s r h
end
theorem Ac{s:cw}{x:Px}(h:x.dv=0):typeOf s x=typed s x:=by
 unfold typeOf
 rw[if_neg (fun h'=>h' h)]
theorem rW{s:cH}{c m1 m2:Nat}(t:Nd)(hc:t.px.dv=0)(want:Int){I:cc}{F:bZ}(hg:Gl I)(hS:yQ I c s.p m1 m2)(ht:cy I F t) :
  cf P 108 #[.pointer (some ⟨c,0,none⟩),t.v,.int .u8 want] I F (jk (wq (iq s.p t.px want)) F):=by
 refine fq.vc ?_
 unfold fq.V
 unfold iq
 have hf:=jO hc
 rw[Ac hc]
 intro b_n
 refine cf.hM (yR t hf I _ hS (ht.mono (cc.le_refl I) fun y hy=>.tail _ hy)) fun v I1 l1 ⟨w,hv,hw⟩=>⟨_,_,congrArg Ending.returned hv,F,.refl _,_,hw.neq (by kernel_rfl),fun hq=>?_,fun hq=>?_⟩
 ·have he:(typed s.p t.px).2.e≠0:=by simpa using hq
  have hof:=wu s.p t.px he
  rw[if_pos he]
  have e:(⟨(typed s.p t.px).2.e,(typed s.p t.px).2.pos,true⟩:TF)=(typed s.p t.px).2:=by rw[←hof]
  refine cf.hM (yc (hg.mono l1) 0 (typed s.p t.px).2.pos (typed s.p t.px).2.e he (hw.2 he) _) fun v2 I2 l2 hv2=>⟨v2,rfl,F,.refl _,v2,rfl, ?_,rfl⟩
  rw[e] at hv2;exact hv2
 ·have he:(typed s.p t.px).2.e=0:=by simpa using hq
  rw[if_neg (fun h=>h he)]
  refine⟨fun hn=>?_,fun hn=>?_⟩
  ·have hn:(typed s.p t.px).1≠want:=by simpa using hn
   rw[if_pos hn,Nd.tZ]
   exact cf.hM (eZ (hg.mono l1) t.pos 152 (by decide) _) fun v2 I2 l2 hv2=>⟨v2,rfl,F,.refl _,v2,rfl,hv2,rfl⟩
  ·have hn:(typed s.p t.px).1=want:=by simpa using hn
   rw[if_neg (fun h=>h hn)]
   exact⟨_,rfl,fZ.ok,rfl⟩
theorem rX{α:Type}{f:α→TF}:∀{l:List α} {i:Nat} {x:α},(∀y∈l.take i,(f y).e=0)→l[i]? = some x→(f x).e≠0→dD f l=f x
 | y::r,0,x,_,hx,he=>by
   simp only[List.getElem?_cons_zero,Option.some.injEq] at hx
   subst hx;rw[dD,if_pos he]
 | y::r,i+1,x,h,hx,he=>by
   rw[List.take_succ_cons] at h
   rw[dD,if_neg (by simpa using h y (.head _))]
   exact rX (fun k hk=>h k (.tail _ hk)) (by simpa using hx) he
theorem rY{α:Type}{f:α→TF}:∀{l:List α},(∀y∈l,(f y).e=0)→dD f l=rL
 | [],_=>rfl
 | y::r,h=>by rw[dD,if_neg (by simpa using h y (.head _))];exact rY fun k hk=>h k (.tail _ hk)
theorem rZ{α β:Type}{f:β→TF}{g:α→β}:∀l:List α,dD f (l.map g)=dD (fun x=>f (g x)) l
 | []=>rfl
 | x::r=>by rw[List.map_cons,dD,dD,rZ r]
def yU(p:Nd×Int):List Value:=[.int .u8 p.1.kind,.int .u8 p.1.oper,.int .u8 p.1.cq,.int .i64 p.1.n,.int .u8 p.1.field,.string p.1.name,.slice p.1.a p.1.kids.length p.1.c,.int .i64 p.1.pos,.int .u8 p.2]
theorem Ct(p:Nd×Int):∀u∈yU p,u.oneCell'=true:=by
 intro u hu
 simp only[yU,List.mem_cons,List.not_mem_nil,or_false] at hu
 rcases hu with h | h | h | h | h | h | h | h | h<;>(subst h;rfl)
theorem sd{a:Option Addr}{n c b1 m:Nat}{l:List (Nd×Int)}{A F R:bZ}{I:cc}(hA:Acc 9 yU 210 a n c l A)(hl:l.length≤100)(xs:List (Nd×Int))(hx:xs≠[])(hx2:xs.length≤2)(hm:m=xs.length)
  (hb:I b1=some (.cells (xs.flatMap yU).toArray 210 (0,0))) (hF:F.Perm (A++R)) :
  cI P (Builtin.append_ #[208,208] 208 #[.slice a n c,.slice (some ⟨b1,0,none⟩) m m]) I F fun v I' G=>∃a' n' c' A',v=.slice a' n' c'∧Acc 9 yU 210 a' n' c' (l++xs) A'∧G.Perm (A'++R):=by
 refine cI.perm (cI.mono (iv (f:=yU) (z:=9) (zv:=.agg (yU (ib,0)).toArray) (fun _=>rfl) (by':=80) (by kernel_rfl) (by kernel_rfl) rfl (by decide) hA (xs:=xs) (fun y _=>Ct y) hx hm ?_ ?_ (F:=R)) fun v I' G _ ⟨a',n',c',A',h1,h2,h3,_⟩=>⟨a',n',c',A',h1,h2,by rw[h3]⟩) hF
 ·exact⟨rfl,_,_,_,.inl hb,fun j hj=>by simp⟩
 ·have:(l.length+xs.length)*80≤102*80:=Nat.mul_le_mul (by omega) (Nat.le_refl _)
  omega
def je(d:eI)(v:Int):List (Nd×Int) :=
 if d.kind=1 then [(d.side,6),(d.qty,2)]++(if d.order≠2 then [(d.price,3)] else []) else if d.kind=2 then [(d.qty,2),(d.price,3)] else if d.kind=4 then [(d.value,v)] else []
theorem yf(d:eI)(v:Int):(je d v).length≤3:=by
 unfold je
 split
 ·split<;>simp
 ·split
  ·simp
  ·split<;>simp
theorem Ad(s:cw)(d:eI):EC s d.p=(je d (s.kM (D6 s d.p))).map fun p=>iq s p.1.px p.2:=by
 unfold EC je
 show (if d.kind=1 then _ else _)++((if d.kind=1∨d.kind=2 then _ else _)++((if d.kind=1∧d.order≠2∨d.kind=2 then _ else _)++(if d.kind=4 then _ else _)))=_
 by_cases h1:d.kind=1
 ·rw[if_pos h1,if_pos (.inl h1),if_neg (show ¬d.kind=4 by omega),if_pos h1]
  by_cases ho:d.order≠2
  ·rw[if_pos (.inl ⟨h1,ho⟩),if_pos ho];rfl
  ·rw[if_neg (by omega),if_neg ho];rfl
 ·rw[if_neg h1,if_neg h1]
  by_cases h2:d.kind=2
  ·rw[if_pos (.inr h2),if_pos (.inr h2),if_neg (by omega),if_pos h2];rfl
  ·rw[if_neg (by omega),if_neg (by omega),if_neg h2]
   by_cases h4:d.kind=4
   ·rw[if_pos h4,if_pos h4];rfl
   ·rw[if_neg h4,if_neg h4];rfl
def Cu(I:cc)(c:Nat)(s:cH):Prop:=∃m1 m2 o1 o2,yQ I c s.p m1 m2∧I m1=some o1∧uJ (jB s) s.slots.length o1∧I m2=some o2∧uJ (j6 s) s.states.length o2
theorem Cu.mono{I J:cc}{c:Nat}{s:cH}(h:Cu I c s)(hl:cc.le I J):Cu J c s:=let ⟨m1,m2,o1,o2,h1,h2,h3,h4,h5⟩:=h;⟨m1,m2,o1,o2,h1.mono hl,hl.at h2,h3,hl.at h4,h5⟩
theorem qk{l:List ByteArray}{k:Nat}{o:Obj}{m:Nat}{I:cc}{G:bZ}(hc:uJ l k o)(hm:I m=some o)(nm:ByteArray):cI P (Instr.lookup 162 (.map (some m)) (.string nm) false) I G fun v I' G'=>∃r:Int,v=.int .i64 r∧I'=I∧G'=G∧decide (r>0)=gq l nm:=by
 obtain⟨es,ck,g,rfl,hg,hmet⟩:=hc
 refine cI.mono (nu Cj wk jt str_inj Br hg (.inl hm) nm) fun v I1 G1 hl1 ⟨hv,hI,hG⟩=>⟨(g nm).getD 0, ?_,hI,hG, ?_⟩
 ·rw[hv];cases g nm<;>rfl
 ·cases hs:gq l nm with
  | true=>obtain⟨x,h1,h2,_⟩:=(hmet nm).1 hs;rw[h1];exact decide_eq_true (by show x>0;omega)
  | false=>rw[(hmet nm).2 hs];rfl
def eI.Fit(d:eI):Prop:=∀v,∀p∈je d v,p.1.px.dv=0
theorem wv{d:eI}(h:d.p.check=0):d.Fit:=by
 unfold dS.check at h
 obtain⟨_,h⟩:=cu h
 obtain⟨_,h⟩:=cu h
 obtain⟨_,h⟩:=cu h
 obtain⟨h1,h⟩:=cu h
 obtain⟨h2,h⟩:=cu h
 obtain⟨h3,h4⟩:=cu h
 have e1:d.p.kind=d.kind:=rfl
 have e2:d.p.order=d.order:=rfl
 rw[e1] at h1 h2 h3 h4
 rw[e2] at h3
 have part:∀{b:Bool} {x:Px},db b x=0→b=true→x.dv=0:=fun {b} {x} h hb=>by unfold db at h;rw[if_pos hb] at h;exact h
 intro v p hp
 unfold je at hp
 split at hp
 ·rename_i k1
  rcases List.mem_append.1 hp with hp | hp
  ·simp only[List.mem_cons,List.not_mem_nil,or_false] at hp
   rcases hp with rfl | rfl
   ·exact part h1 (decide_eq_true k1)
   ·exact part h2 (decide_eq_true (.inl k1))
  ·split at hp
   ·rename_i ho
    rw[List.mem_singleton] at hp;subst hp
    exact part h3 (decide_eq_true (.inl ⟨k1,ho⟩))
   ·simp at hp
 ·split at hp
  ·rename_i k2
   simp only[List.mem_cons,List.not_mem_nil,or_false] at hp
   rcases hp with rfl | rfl
   ·exact part h2 (decide_eq_true (.inr k2))
   ·exact part h3 (decide_eq_true (.inr k2))
  ·split at hp
   ·rename_i k4
    rw[List.mem_singleton] at hp;subst hp
    exact part h4 (decide_eq_true k4)
   ·simp at hp
theorem Ae{d:eI}{I:cc}{G:bZ}(h:d.Ok I G){v:Int}:∀p∈je d v,cy I G p.1:=by
 obtain⟨o1,o2,o3,o4⟩:=h
 intro p hp
 unfold je at hp
 split at hp
 ·rcases List.mem_append.1 hp with hp | hp
  ·simp only[List.mem_cons,List.not_mem_nil,or_false] at hp
   rcases hp with rfl | rfl<;>assumption
  ·split at hp
   ·rw[List.mem_singleton] at hp;subst hp;assumption
   ·simp at hp
 ·split at hp
  ·simp only[List.mem_cons,List.not_mem_nil,or_false] at hp
   rcases hp with rfl | rfl<;>assumption
  ·split at hp
   ·rw[List.mem_singleton] at hp;subst hp;assumption
   ·simp at hp
theorem yV{I:cc}{b:Nat}{p q:Nd×Int}(h:I b=some (.cells (yU p++yU q).toArray 210 (0,0))):I b=some (.cells ([p,q].flatMap yU).toArray 210 (0,0)):=by
 rw[h];simp
section
variable {s:cH} {I:cc} {F:bZ} {c:Nat}
theorem se(nm:ByteArray):gq (jB s) nm = !decide (s.p.slot nm<0):=by
 have h:=uv nm (jB s) 0 (Int.le_refl 0)
 have e:s.p.slot nm=lM nm (jB s) 0:=rfl
 rw[e]
 cases hb:gq (jB s) nm with
 | true=>rw[hb] at h;simp at h;simp[h]
 | false=>rw[hb] at h;simp at h;simp[h]
theorem BC(nm:ByteArray):gq (j6 s) nm = !decide (s.p.room nm<0):=by
 have h:=uv nm (j6 s) 0 (Int.le_refl 0)
 rw[wo]
 cases hb:gq (j6 s) nm with
 | true=>rw[hb] at h;simp at h;simp[h]
 | false=>rw[hb] at h;simp at h;simp[h]
set_option maxHeartbeats 1000000 in
theorem BD(hg:Gl I)(hA:Cu I c s)(d:eI)(hdo:d.Ok I F)(hfit:d.Fit):cf P 109 #[.pointer (some ⟨c,0,none⟩),d.v] I F (jk (wq (Bn s.p d.p)) F):=by
 refine cf.still ?_
 obtain⟨i0,hi0⟩:∃i0,i0=D6 s.p d.p:=⟨_,rfl⟩
 have hI:D6 s.p d.p=if d.kind=1 then (if d.name.toList=[] then 0 else s.p.slot d.name) else if d.kind=2∨d.kind=3 then s.p.slot d.name else if d.kind=4 then s.p.ji d.name else if d.kind=5 then s.p.room d.name else 0:=rfl
 obtain⟨ps,hps⟩:∃ps,ps=je d (s.p.kM i0):=⟨_,rfl⟩
 have hpl:ps.length≤3:=by rw[hps];exact yf _ _
 have hpd:je d (s.p.kM i0)=if d.kind=1 then [(d.side,6),(d.qty,2)]++(if d.order≠2 then [(d.price,3)] else []) else if d.kind=2 then [(d.qty,2),(d.price,3)] else if d.kind=4 then [(d.value,s.p.kM i0)] else []:=rfl
 have hdT:Bn s.p d.p=if i0<0 then ⟨151,d.pos,false⟩ else dD (fun p:Nd×Int=>iq s.p p.1.px p.2) ps:=by
  unfold Bn
  rw[Ad,←hi0,←hps,rZ];rfl
 refine gA.vc
  (fun v is a n k I0 F0 I' F'=>is = !decide (i0<0)∧∃A,F'.Perm (A++F)∧(is=true→Acc 9 yU 210 a n k ps A))
  (fun a n k I0 F0 I' F'=>∃A,F'.Perm (A++F)∧Acc 9 yU 210 a n k ps A)
  (fun a n k x i m I0 F0 I' F'=>0≤i∧i≤n∧m=(n-i).toNat∧¬i0<0∧∃A,F'.Perm (A++F)∧Acc 9 yU 210 a n k ps A∧∀p∈ps.take i.toNat,(iq s.p p.1.px p.2).e=0) ?_
 unfold gA.V
 intro b_d
 have hsc:∀{J:cc},cc.le I J→Cu J c s:=fun h=>hA.mono h
 refine⟨⟨fun h1=>?_,fun h1=>⟨fun h2=>?_,fun h2=>⟨fun h3=>?_,fun h3=>⟨fun h4=>?_,fun h4=>⟨fun h5=>?_,fun h5=>?_⟩⟩⟩⟩⟩,fun v is a n k I15 F11 l15 ⟨his,A,hF11,hAcc⟩=>⟨fun hq=>?_,fun hq=>?_⟩⟩
 ·have h1:d.kind=1:=by simpa using h1
  rw[if_pos h1] at hI hpd
  intro b I1 l1 hb
  have happ:=sd (R:=(b_d,Obj.cells #[.int .u8 d.kind,.int .u8 d.order,.string d.name,.int .u8 d.side.kind,.int .u8 d.side.oper,.int .u8 d.side.cq,.int .i64 d.side.n,.int .u8 d.side.field,.string d.side.name,.slice d.side.a d.side.kids.length d.side.c,.int .i64 d.side.pos,.int .u8 d.qty.kind,.int .u8 d.qty.oper,.int .u8 d.qty.cq,.int .i64 d.qty.n,.int .u8 d.qty.field,.string d.qty.name,.slice d.qty.a d.qty.kids.length d.qty.c,.int .i64 d.qty.pos,.int .u8 d.price.kind,.int .u8 d.price.oper,.int .u8 d.price.cq,.int .i64 d.price.n,.int .u8 d.price.field,.string d.price.name,.slice d.price.a d.price.kids.length d.price.c,.int .i64 d.price.pos,.int .u8 d.value.kind,.int .u8 d.value.oper,.int .u8 d.value.cq,.int .i64 d.value.n,.int .u8 d.value.field,.string d.value.name,.slice d.value.a d.value.kids.length d.value.c,.int .i64 d.value.pos,.int .i64 d.pos] 99 (0,0))::F) (A:=[]) (m:=2) Acc.nil (by simp) [(d.side,6),(d.qty,2)] (by simp) (by simp) rfl (yV hb) (.refl _)
  refine cI.mono happ fun v I2 G l2 ⟨a',n',c',A',hv,hA',hG⟩=>⟨a',n',c',hv,A'++F,hG.trans List.perm_middle,⟨fun ho=>?_,fun ho=>?_⟩,fun pa pn pc I5 F3 l5 ⟨A3,hF3,hA3⟩=>⟨fun hn=>?_,fun hn=>?_⟩⟩
  ·have ho:d.order≠2:=by simpa using ho
   rw[if_pos ho] at hpd
   intro b1 I3 l3 hb1
   have happ:=sd (R:=(b_d,Obj.cells #[.int .u8 d.kind,.int .u8 d.order,.string d.name,.int .u8 d.side.kind,.int .u8 d.side.oper,.int .u8 d.side.cq,.int .i64 d.side.n,.int .u8 d.side.field,.string d.side.name,.slice d.side.a d.side.kids.length d.side.c,.int .i64 d.side.pos,.int .u8 d.qty.kind,.int .u8 d.qty.oper,.int .u8 d.qty.cq,.int .i64 d.qty.n,.int .u8 d.qty.field,.string d.qty.name,.slice d.qty.a d.qty.kids.length d.qty.c,.int .i64 d.qty.pos,.int .u8 d.price.kind,.int .u8 d.price.oper,.int .u8 d.price.cq,.int .i64 d.price.n,.int .u8 d.price.field,.string d.price.name,.slice d.price.a d.price.kids.length d.price.c,.int .i64 d.price.pos,.int .u8 d.value.kind,.int .u8 d.value.oper,.int .u8 d.value.cq,.int .i64 d.value.n,.int .u8 d.value.field,.string d.value.name,.slice d.value.a d.value.kids.length d.value.c,.int .i64 d.value.pos,.int .i64 d.pos] 99 (0,0))::F) (A:=A') hA' (by simp) [(d.price,3)] (by simp) (by simp) rfl hb1 List.perm_middle.symm
   refine cI.mono happ fun v I4 G l4 ⟨a2,n2,c2,A2,hv,hA2,hG⟩=>⟨a2,n2,c2,hv,A2++F,hG.trans List.perm_middle,A2,.refl _, ?_⟩
   rw[hps,hpd];exact hA2
  ·have ho:d.order=2:=by simpa using ho
   rw[if_neg (by simpa using ho)] at hpd
   refine⟨A',.refl _, ?_⟩
   rw[hps,hpd];exact hA'
  ·have hn:d.name.toList=[]:=by simpa using hn
   rw[if_pos hn] at hI
   exact⟨by rw[hi0,hI];rfl,A3,hF3,fun _=>hA3⟩
  ·have hn:¬d.name.toList=[]:=by simpa using hn
   rw[if_neg hn] at hI
   obtain⟨m1,m2,o1,o2,hS,hm1,hc1,hm2,hc2⟩:=hsc (cc.le_trans l1 (cc.le_trans l2 l5))
   refine⟨_,rfl,some m1,(hS.rd _).1,(qk hc1 hm1 d.name).mono fun v I6 G l6 ⟨r,hv,hI6,hG,hr⟩=>⟨r,hv,F3,by rw[hG], ?_,A3,hF3,fun _=>hA3⟩⟩
   rw[hr,se,hi0,hI]
 ·have h1:d.kind≠1:=by simpa using h1
  have h2:d.kind=2:=by simpa using h2
  rw[if_neg h1,if_pos (.inl h2)] at hI
  rw[if_neg h1,if_pos h2] at hpd
  intro b I1 l1 hb
  have happ:=sd (R:=(b_d,Obj.cells #[.int .u8 d.kind,.int .u8 d.order,.string d.name,.int .u8 d.side.kind,.int .u8 d.side.oper,.int .u8 d.side.cq,.int .i64 d.side.n,.int .u8 d.side.field,.string d.side.name,.slice d.side.a d.side.kids.length d.side.c,.int .i64 d.side.pos,.int .u8 d.qty.kind,.int .u8 d.qty.oper,.int .u8 d.qty.cq,.int .i64 d.qty.n,.int .u8 d.qty.field,.string d.qty.name,.slice d.qty.a d.qty.kids.length d.qty.c,.int .i64 d.qty.pos,.int .u8 d.price.kind,.int .u8 d.price.oper,.int .u8 d.price.cq,.int .i64 d.price.n,.int .u8 d.price.field,.string d.price.name,.slice d.price.a d.price.kids.length d.price.c,.int .i64 d.price.pos,.int .u8 d.value.kind,.int .u8 d.value.oper,.int .u8 d.value.cq,.int .i64 d.value.n,.int .u8 d.value.field,.string d.value.name,.slice d.value.a d.value.kids.length d.value.c,.int .i64 d.value.pos,.int .i64 d.pos] 99 (0,0))::F) (A:=[]) (m:=2) Acc.nil (by simp) [(d.qty,2),(d.price,3)] (by simp) (by simp) rfl (yV hb) (.refl _)
  refine cI.mono happ fun v I2 G l2 ⟨a',n',c',A',hv,hA',hG⟩=>⟨a',n',c',hv,A'++F,hG.trans List.perm_middle, ?_⟩
  obtain⟨m1,m2,o1,o2,hS,hm1,hc1,hm2,hc2⟩:=hsc (cc.le_trans l1 l2)
  refine⟨_,rfl,some m1,(hS.rd _).1,(qk hc1 hm1 d.name).mono fun v I6 G l6 ⟨r,hv,hI6,hG,hr⟩=>⟨r,hv,A'++F,by rw[hG], ?_,A',.refl _,fun _=>?_⟩⟩
  ·rw[hr,se,hi0,hI]
  ·rw[hps,hpd];exact hA'
 ·have h1:d.kind≠1:=by simpa using h1
  have h2:d.kind≠2:=by simpa using h2
  have h3:d.kind=3:=by simpa using h3
  rw[if_neg h1,if_pos (.inr h3)] at hI
  rw[if_neg h1,if_neg h2,if_neg (by omega)] at hpd
  obtain⟨m1,m2,o1,o2,hS,hm1,hc1,hm2,hc2⟩:=hA
  refine⟨_,rfl,some m1,(hS.rd _).1,(qk hc1 hm1 d.name).mono fun v I6 G l6 ⟨r,hv,hI6,hG,hr⟩=>⟨r,hv,F,by rw[hG], ?_,[],.refl _,fun _=>?_⟩⟩
  ·rw[hr,se,hi0,hI]
  ·rw[hps,hpd];exact Acc.nil
 ·have h1:d.kind≠1:=by simpa using h1
  have h2:d.kind≠2:=by simpa using h2
  have h3:d.kind≠3:=by simpa using h3
  have h4:d.kind=4:=by simpa using h4
  rw[if_neg h1,if_neg (by omega),if_pos h4] at hI
  rw[if_neg h1,if_neg h2,if_pos h4] at hpd
  obtain⟨m1,m2,o1,o2,⟨m0,es,ck,hc,hm,hgm⟩,hm1,hc1,hm2,hc2⟩:=hA
  refine⟨_,rfl,some m0,Rd.tV hc _ 0 fun j hj=>?_, ?_⟩
  ·have:j=0:=by simpa using hj
   subst this;rfl
  refine cI.mono (oY Ci wk jt str_inj Bq hgm (.inl hm) d.name) fun v I3 G l3 ⟨hv,hI3,hG⟩=>?_
  subst hI3 hG
  rw[rT] at hv
  by_cases hr:s.p.ji d.name<0
  ·rw[if_pos hr] at hv
   refine⟨0,false,hv,F,.refl _,fun b I4 l4 hb=>?_⟩
   have happ:=sd (R:=(b_d,Obj.cells #[.int .u8 d.kind,.int .u8 d.order,.string d.name,.int .u8 d.side.kind,.int .u8 d.side.oper,.int .u8 d.side.cq,.int .i64 d.side.n,.int .u8 d.side.field,.string d.side.name,.slice d.side.a d.side.kids.length d.side.c,.int .i64 d.side.pos,.int .u8 d.qty.kind,.int .u8 d.qty.oper,.int .u8 d.qty.cq,.int .i64 d.qty.n,.int .u8 d.qty.field,.string d.qty.name,.slice d.qty.a d.qty.kids.length d.qty.c,.int .i64 d.qty.pos,.int .u8 d.price.kind,.int .u8 d.price.oper,.int .u8 d.price.cq,.int .i64 d.price.n,.int .u8 d.price.field,.string d.price.name,.slice d.price.a d.price.kids.length d.price.c,.int .i64 d.price.pos,.int .u8 d.value.kind,.int .u8 d.value.oper,.int .u8 d.value.cq,.int .i64 d.value.n,.int .u8 d.value.field,.string d.value.name,.slice d.value.a d.value.kids.length d.value.c,.int .i64 d.value.pos,.int .i64 d.pos] 99 (0,0))::F) (A:=[]) Acc.nil (by simp) [(d.value,0)] (by simp) (by simp) rfl hb (.refl _)
   refine cI.mono happ fun v I2 G l2 ⟨a',n',c',A',hv,hA',hG⟩=>⟨a',n',c',hv,A'++F,hG.trans List.perm_middle, ?_,A',.refl _,fun h=>(by cases h)⟩
   rw[hi0,hI,decide_eq_true hr];rfl
  ·rw[if_neg hr] at hv
   refine⟨s.p.kM (s.p.ji d.name),true,hv,F,.refl _,fun b I4 l4 hb=>?_⟩
   have happ:=sd (R:=(b_d,Obj.cells #[.int .u8 d.kind,.int .u8 d.order,.string d.name,.int .u8 d.side.kind,.int .u8 d.side.oper,.int .u8 d.side.cq,.int .i64 d.side.n,.int .u8 d.side.field,.string d.side.name,.slice d.side.a d.side.kids.length d.side.c,.int .i64 d.side.pos,.int .u8 d.qty.kind,.int .u8 d.qty.oper,.int .u8 d.qty.cq,.int .i64 d.qty.n,.int .u8 d.qty.field,.string d.qty.name,.slice d.qty.a d.qty.kids.length d.qty.c,.int .i64 d.qty.pos,.int .u8 d.price.kind,.int .u8 d.price.oper,.int .u8 d.price.cq,.int .i64 d.price.n,.int .u8 d.price.field,.string d.price.name,.slice d.price.a d.price.kids.length d.price.c,.int .i64 d.price.pos,.int .u8 d.value.kind,.int .u8 d.value.oper,.int .u8 d.value.cq,.int .i64 d.value.n,.int .u8 d.value.field,.string d.value.name,.slice d.value.a d.value.kids.length d.value.c,.int .i64 d.value.pos,.int .i64 d.pos] 99 (0,0))::F) (A:=[]) Acc.nil (by simp) [(d.value,s.p.kM (s.p.ji d.name))] (by simp) (by simp) rfl hb (.refl _)
   refine cI.mono happ fun v I2 G l2 ⟨a',n',c',A',hv,hA',hG⟩=>⟨a',n',c',hv,A'++F,hG.trans List.perm_middle, ?_,A',.refl _,fun _=>?_⟩
   ·rw[hi0,hI,decide_eq_false hr];rfl
   ·rw[hps,hpd,hi0,hI];exact hA'
 ·have h1:d.kind≠1:=by simpa using h1
  have h2:d.kind≠2:=by simpa using h2
  have h3:d.kind≠3:=by simpa using h3
  have h4:d.kind≠4:=by simpa using h4
  have h5:d.kind=5:=by simpa using h5
  rw[if_neg h1,if_neg (by omega),if_neg h4,if_pos h5] at hI
  rw[if_neg h1,if_neg h2,if_neg h4] at hpd
  obtain⟨m1,m2,o1,o2,hS,hm1,hc1,hm2,hc2⟩:=hA
  refine⟨_,rfl,some m2,(hS.rd _).2,(qk hc2 hm2 d.name).mono fun v I6 G l6 ⟨r,hv,hI6,hG,hr⟩=>⟨r,hv,F,by rw[hG], ?_,[],.refl _,fun _=>?_⟩⟩
  ·rw[hr,BC,hi0,hI]
  ·rw[hps,hpd];exact Acc.nil
 ·have h1:d.kind≠1:=by simpa using h1
  have h2:d.kind≠2:=by simpa using h2
  have h3:d.kind≠3:=by simpa using h3
  have h4:d.kind≠4:=by simpa using h4
  have h5:d.kind≠5:=by simpa using h5
  rw[if_neg h1,if_neg (by omega),if_neg h4,if_neg h5] at hI
  rw[if_neg h1,if_neg h2,if_neg h4] at hpd
  refine⟨by rw[hi0,hI];rfl,[],.refl _,fun _=>?_⟩
  rw[hps,hpd];exact Acc.nil
 ·have hneg:i0<0:=by rw[his] at hq;simpa using hq
  rw[if_pos hneg] at hdT
  refine cf.hM (eZ (hg.mono l15) d.pos 151 (by decide) _) fun v2 I2 l2 hv2=>⟨v2,rfl,F11,.refl _,v2,A,rfl,hF11,fun J hJ hx=>?_⟩
  rw[hdT];exact fZ.mono hv2 hJ
 ·have hq:is=true:=by simpa using hq
  have hneg:¬i0<0:=by rw[his] at hq;simpa using hq
  rw[if_neg hneg] at hdT
  have hAcc:=hAcc hq
  have hn:=hAcc.1
  refine⟨⟨_,by omega,by omega,rfl,hneg,A,hF11,hAcc,fun p hp=>by simp at hp⟩,fun x i m I17 F13 l17 ⟨g0,g1,gm,_,A2,hF13,hA2,hall⟩=>⟨fun hlt=>?_,fun hlt=>?_⟩⟩
  ·have hlt:=of_decide_eq_true hlt
   have l:=cc.le_trans l15 l17
   have hS2:=hA2.yI (z:=9) (f:=yU) (fun _=>rfl) I17 (G:=(b_d,Obj.cells #[.int .u8 d.kind,.int .u8 d.order,.string d.name,.int .u8 d.side.kind,.int .u8 d.side.oper,.int .u8 d.side.cq,.int .i64 d.side.n,.int .u8 d.side.field,.string d.side.name,.slice d.side.a d.side.kids.length d.side.c,.int .i64 d.side.pos,.int .u8 d.qty.kind,.int .u8 d.qty.oper,.int .u8 d.qty.cq,.int .i64 d.qty.n,.int .u8 d.qty.field,.string d.qty.name,.slice d.qty.a d.qty.kids.length d.qty.c,.int .i64 d.qty.pos,.int .u8 d.price.kind,.int .u8 d.price.oper,.int .u8 d.price.cq,.int .i64 d.price.n,.int .u8 d.price.field,.string d.price.name,.slice d.price.a d.price.kids.length d.price.c,.int .i64 d.price.pos,.int .u8 d.value.kind,.int .u8 d.value.oper,.int .u8 d.value.cq,.int .i64 d.value.n,.int .u8 d.value.field,.string d.value.name,.slice d.value.a d.value.kids.length d.value.c,.int .i64 d.value.pos,.int .i64 d.pos] 99 (0,0))::F13) fun y hy=>.tail _ (hF13.mem_iff.2 (List.mem_append_left _ hy))
   obtain⟨ad,p,had,hp,hrd,hpm⟩:=gg.sG hS2 g0 hlt
   refine⟨⟨g0,hlt⟩,ad,had,_,_,_,_,_,_,_,_,_,_,_,hrd,fun b_p=>?_⟩
   have hpm':p∈je d (s.p.kM i0):=hps▸hpm
   obtain⟨m1,m2,o1,o2,hS,hm1,hc1,hm2,hc2⟩:=hsc l
   refine cf.hM (rW p.1 (hfit _ p hpm') p.2 (hg.mono l) hS ((Ae hdo p hpm').mono l fun y hy=>.tail _ (.tail _ (hF13.mem_iff.2 (List.mem_append_right _ hy))))) fun v2 I2 l2 hv2=>⟨v2,rfl,F13,.refl _,_,fZ.neq hv2 (by kernel_rfl),fun he=>?_,fun he=>⟨(n-(i+1)).toNat,by omega, ?_⟩⟩
   ·have he:(iq s.p p.1.px p.2).e≠0:=by simpa using he
    refine⟨v2,A2,rfl,hF13,fun J hJ hx=>?_⟩
    rw[hdT,rX (f:=fun p:Nd×Int=>iq s.p p.1.px p.2) hall hp he]
    exact fZ.mono hv2 hJ
   ·have he:(iq s.p p.1.px p.2).e=0:=by simpa using he
    rw[dW (n:=i+1) (by omega)]
    refine⟨by omega,by omega,rfl,hneg,A2,hF13,hA2, ?_⟩
    rw[show (i+1).toNat=i.toNat+1 by omega]
    exact wi hp hall he
  ·have hlt:=of_decide_eq_false hlt
   refine⟨_,A2,rfl,hF13,fun J hJ hx=>?_⟩
   rw[List.take_of_length_le (by omega)] at hall
   rw[hdT,rY hall]
   exact fZ.ok
end
end Go.Lx
namespace Go.Lx
open Go.Vc
def cz.Fit(r:cz):Prop:=r.when.px.dv=0∧∀d∈r.dos,d.Fit∧d.kind≤6
theorem yg{r:cz}(h:r.p.check=0):r.Fit:=by
 unfold cM.check at h
 obtain⟨h1,h⟩:=cu h
 obtain⟨_,h⟩:=cu h
 obtain⟨_,h⟩:=cu h
 refine⟨h1,fun d hd=>?_⟩
 have hd:=g9 h d.p (List.mem_map_of_mem hd)
 refine⟨wv hd, ?_⟩
 unfold dS.check at hd
 have h1:=nD (by decide) (cu hd).1
 have:=of_decide_eq_true h1
 exact this.2
theorem wz{s:cH}(h:s.p.check=0):∀x∈s.states,∀r∈x.rules,r.Fit:=by
 unfold cw.check at h
 obtain⟨_,h⟩:=cu h
 obtain⟨_,h⟩:=cu h
 obtain⟨_,h⟩:=cu h
 obtain⟨_,h⟩:=cu h
 obtain⟨_,h⟩:=cu h
 obtain⟨_,h⟩:=cu h
 obtain⟨_,h⟩:=cu h
 intro x hx r hr
 have h1:=g9 h x.p (List.mem_map_of_mem hx)
 unfold cD.check at h1
 obtain⟨_,h1⟩:=cu h1
 obtain⟨_,h1⟩:=cu h1
 exact yg (g9 h1 r.p (List.mem_map_of_mem hr))
def ld(l:List eI)(i:Int):Bool:=decide (0<i)&&(match l[i.toNat-1]? with
 | some d=>decide (d.kind=5∨d.kind=6)
 | none=>false)
section
variable {s:cH} {I:cc} {F:bZ} {c:Nat}
set_option maxHeartbeats 1000000 in
theorem yh(hg:Gl I)(hA:Cu I c s)(r:cz)(hro:r.Ok I F)(hfit:r.Fit)(hlen:r.dos.length≤1048576):cf P 68 #[.pointer (some ⟨c,0,none⟩),r.v] I F (jk (wq (lN s.p r.p)) F):=by
 obtain⟨hw,hds⟩:=hfit
 have hrt:lN s.p r.p=il (iq s.p r.when.px 5) (xW s.p (r.dos.map eI.p) false):=rfl
 refine ft.vc (fun x i m I' F'=>F'=F∧0≤i∧i≤r.dos.length∧m=(r.dos.length-i).toNat∧lN s.p r.p=xW s.p ((r.dos.drop i.toNat).map eI.p) (ld r.dos i)) ?_
 unfold ft.V
 intro b_r
 have hS:∃m1 m2,yQ I c s.p m1 m2:=let ⟨m1,m2,_,_,h,_⟩:=hA;⟨m1,m2,h⟩
 obtain⟨m1,m2,hS⟩:=hS
 refine cf.hM (rW r.when hw 5 hg hS (hro.1.mono (cc.le_refl I) fun y hy=>.tail _ hy)) fun v I1 l1 hv=>⟨v,rfl,F,.refl _,_,fZ.neq hv (by kernel_rfl),fun he=>?_,fun he=>?_⟩
 ·have he:(iq s.p r.when.px 5).e≠0:=by simpa using he
  rw[hrt,qi _ he]
  exact⟨v,rfl,hv,rfl⟩
 have he:(iq s.p r.when.px 5).e=0:=by simpa using he
 rw[uo _ he] at hrt
 refine⟨⟨_,rfl,by omega,by omega,rfl,hrt⟩,fun x i m I2 F2 l2 ⟨gF,g0,g1,gm,ge⟩=>⟨fun hlt=>?_,fun hlt=>?_⟩⟩
 ·subst gF
  have hlt:=of_decide_eq_true hlt
  have l:=cc.le_trans l1 l2
  have hr2:∀x:Nat×Obj,cz.Ok I2 (x::F2) r:=fun x=>hro.mono l fun y hy=>.tail _ hy
  obtain⟨ad,d,had,hd,hrd,hdm⟩:=gg.sG (hr2 (b_r,Obj.cells #[.int .u8 r.when.kind,.int .u8 r.when.oper,.int .u8 r.when.cq,.int .i64 r.when.n,.int .u8 r.when.field,.string r.when.name,.slice r.when.a r.when.kids.length r.when.c,.int .i64 r.when.pos,.slice r.a r.dos.length r.c,.int .i64 r.pos] 84 (0,0))).2.1 g0 hlt
  obtain⟨hk,hdk⟩:=List.getElem?_eq_some_iff.1 hd
  obtain⟨hdf,hd6⟩:=hds d hdm
  rw[List.drop_eq_getElem_cons hk,hdk,List.map_cons,xW] at ge
  have step:∀b_d:Nat,ld r.dos i=false→cf P 109 #[.pointer (some ⟨c,0,none⟩),d.v] I2 ((b_r,Obj.cells #[.int .u8 r.when.kind,.int .u8 r.when.oper,.int .u8 r.when.cq,.int .i64 r.when.n,.int .u8 r.when.field,.string r.when.name,.slice r.when.a r.when.kids.length r.when.c,.int .i64 r.when.pos,.slice r.a r.dos.length r.c,.int .i64 r.pos] 84 (0,0))::(b_d,Obj.cells #[.int .u8 d.kind,.int .u8 d.order,.string d.name,.int .u8 d.side.kind,.int .u8 d.side.oper,.int .u8 d.side.cq,.int .i64 d.side.n,.int .u8 d.side.field,.string d.side.name,.slice d.side.a d.side.kids.length d.side.c,.int .i64 d.side.pos,.int .u8 d.qty.kind,.int .u8 d.qty.oper,.int .u8 d.qty.cq,.int .i64 d.qty.n,.int .u8 d.qty.field,.string d.qty.name,.slice d.qty.a d.qty.kids.length d.qty.c,.int .i64 d.qty.pos,.int .u8 d.price.kind,.int .u8 d.price.oper,.int .u8 d.price.cq,.int .i64 d.price.n,.int .u8 d.price.field,.string d.price.name,.slice d.price.a d.price.kids.length d.price.c,.int .i64 d.price.pos,.int .u8 d.value.kind,.int .u8 d.value.oper,.int .u8 d.value.cq,.int .i64 d.value.n,.int .u8 d.value.field,.string d.value.name,.slice d.value.a d.value.kids.length d.value.c,.int .i64 d.value.pos,.int .i64 d.pos] 99 (0,0))::F2) (jk (wq (Bn s.p d.p)) ((b_r,Obj.cells #[.int .u8 r.when.kind,.int .u8 r.when.oper,.int .u8 r.when.cq,.int .i64 r.when.n,.int .u8 r.when.field,.string r.when.name,.slice r.when.a r.when.kids.length r.when.c,.int .i64 r.when.pos,.slice r.a r.dos.length r.c,.int .i64 r.pos] 84 (0,0))::(b_d,Obj.cells #[.int .u8 d.kind,.int .u8 d.order,.string d.name,.int .u8 d.side.kind,.int .u8 d.side.oper,.int .u8 d.side.cq,.int .i64 d.side.n,.int .u8 d.side.field,.string d.side.name,.slice d.side.a d.side.kids.length d.side.c,.int .i64 d.side.pos,.int .u8 d.qty.kind,.int .u8 d.qty.oper,.int .u8 d.qty.cq,.int .i64 d.qty.n,.int .u8 d.qty.field,.string d.qty.name,.slice d.qty.a d.qty.kids.length d.qty.c,.int .i64 d.qty.pos,.int .u8 d.price.kind,.int .u8 d.price.oper,.int .u8 d.price.cq,.int .i64 d.price.n,.int .u8 d.price.field,.string d.price.name,.slice d.price.a d.price.kids.length d.price.c,.int .i64 d.price.pos,.int .u8 d.value.kind,.int .u8 d.value.oper,.int .u8 d.value.cq,.int .i64 d.value.n,.int .u8 d.value.field,.string d.value.name,.slice d.value.a d.value.kids.length d.value.c,.int .i64 d.value.pos,.int .i64 d.pos] 99 (0,0))::F2)):=fun b_d _ =>
   BD (hg.mono l) (hA.mono l) d ((hro.2.2 d hdm).mono l fun y hy=>.tail _ (.tail _ hy)) hdf
  have next:ld r.dos i=false→(Bn s.p d.p).e=0→lN s.p r.p=xW s.p ((r.dos.drop (i+1).toNat).map eI.p) (ld r.dos (i+1)):=fun hb h0=>by
   rw[ge,hb,if_neg (by simp),if_neg (by simpa using h0),show (i+1).toNat=i.toNat+1 by omega]
   have:ld r.dos (i+1)=decide (d.p.kind=5∨d.p.kind=6):=by
    unfold ld
    rw[show (i+1).toNat-1=i.toNat by omega,hd,decide_eq_true (show 0<i+1 by omega)]
    rfl
   rw[this]
  refine⟨⟨g0,hlt⟩,ad,had,_,_,_,_,_,_,_,_,_,_,_,_,_,_,_,_,_,_,_,_,_,_,_,_,_,_,_,_,_,_,_,_,_,_,_,_,_,_,_,_,_,_,_,_,hrd,fun b_d=>⟨fun hp=>?_,fun hp=>?_⟩⟩
  ·have hp:=of_decide_eq_true hp
   have hw1:IntKind.wrap .i64 (i-1)=i-1:=dW (by omega)
   rw[hw1]
   obtain⟨ad1,d1,had1,hd1,hrd1,hdm1⟩:=gg.sG ((hr2 (b_d,Obj.cells #[.int .u8 d.kind,.int .u8 d.order,.string d.name,.int .u8 d.side.kind,.int .u8 d.side.oper,.int .u8 d.side.cq,.int .i64 d.side.n,.int .u8 d.side.field,.string d.side.name,.slice d.side.a d.side.kids.length d.side.c,.int .i64 d.side.pos,.int .u8 d.qty.kind,.int .u8 d.qty.oper,.int .u8 d.qty.cq,.int .i64 d.qty.n,.int .u8 d.qty.field,.string d.qty.name,.slice d.qty.a d.qty.kids.length d.qty.c,.int .i64 d.qty.pos,.int .u8 d.price.kind,.int .u8 d.price.oper,.int .u8 d.price.cq,.int .i64 d.price.n,.int .u8 d.price.field,.string d.price.name,.slice d.price.a d.price.kids.length d.price.c,.int .i64 d.price.pos,.int .u8 d.value.kind,.int .u8 d.value.oper,.int .u8 d.value.cq,.int .i64 d.value.n,.int .u8 d.value.field,.string d.value.name,.slice d.value.a d.value.kids.length d.value.c,.int .i64 d.value.pos,.int .i64 d.pos] 99 (0,0))).cons (x:=(b_r,Obj.cells #[.int .u8 r.when.kind,.int .u8 r.when.oper,.int .u8 r.when.cq,.int .i64 r.when.n,.int .u8 r.when.field,.string r.when.name,.slice r.when.a r.when.kids.length r.when.c,.int .i64 r.when.pos,.slice r.a r.dos.length r.c,.int .i64 r.pos] 84 (0,0)))).2.1 (i:=i-1) (by omega) (by omega)
   have hlb:ld r.dos i=decide (d1.kind=5∨d1.kind=6):=by
    unfold ld
    rw[show i.toNat-1=(i-1).toNat by omega,hd1,decide_eq_true hp]
    rfl
   have h16:=(hds d1 hdm1).2
   refine⟨⟨by omega,by omega⟩,ad1,had1,d1.kind,hrd1.field (o:=0) rfl,fun h5=>?_,fun h5=>?_⟩
   ·have h5:=of_decide_eq_true h5
    have hb:ld r.dos i=true:=by rw[hlb];exact decide_eq_true (by omega)
    rw[hb,if_pos rfl] at ge
    exact cf.hM (eZ (hg.mono l) d.pos 153 (by decide) _) fun v2 I3 l3 hv2=>⟨v2,rfl,F2,.refl _,v2,rfl,by rw[ge];exact hv2,rfl⟩
   ·have h5:=of_decide_eq_false h5
    have hb:ld r.dos i=false:=by rw[hlb];exact decide_eq_false (by omega)
    refine cf.hM (step b_d hb) fun v2 I3 l3 hv2=>⟨v2,rfl,F2,.refl _,_,fZ.neq hv2 (by kernel_rfl),fun hq=>?_,fun hq=>⟨(r.dos.length-(i+1)).toNat,by omega, ?_⟩⟩
    ·have hq:(Bn s.p d.p).e≠0:=by simpa using hq
     rw[ge,hb,if_neg (by simp),if_pos hq]
     exact⟨v2,rfl,hv2,rfl⟩
    ·have hq:(Bn s.p d.p).e=0:=by simpa using hq
     rw[dW (n:=i+1) (by omega)]
     exact⟨rfl,by omega,by omega,rfl,next hb hq⟩
  ·have hp:=of_decide_eq_false hp
   have hb:ld r.dos i=false:=by unfold ld;rw[decide_eq_false (by omega)];rfl
   refine cf.hM (step b_d hb) fun v2 I3 l3 hv2=>⟨v2,rfl,F2,.refl _,_,fZ.neq hv2 (by kernel_rfl),fun hq=>?_,fun hq=>⟨(r.dos.length-(i+1)).toNat,by omega, ?_⟩⟩
   ·have hq:(Bn s.p d.p).e≠0:=by simpa using hq
    rw[ge,hb,if_neg (by simp),if_pos hq]
    exact⟨v2,rfl,hv2,rfl⟩
   ·have hq:(Bn s.p d.p).e=0:=by simpa using hq
    rw[dW (n:=i+1) (by omega)]
    exact⟨rfl,by omega,by omega,rfl,next hb hq⟩
 ·subst gF
  have hlt:=of_decide_eq_false hlt
  rw[List.drop_eq_nil_of_le (by omega),List.map_nil,xW] at ge
  rw[ge];exact⟨_,rfl,fZ.ok,rfl⟩
theorem sf(hl:s.p.nC)(hok:s.Ok I F)(hg:Gl I)(hf:∀r∈s.regs,r.init.px.formed=true){m1 m2:Nat}(hS:yQ I c s.p m1 m2) :
  cf P 67 #[.pointer (some ⟨c,0,none⟩),s.v] I ((m1,.map #[] 0)::(m2,.map #[] 0)::F) (jk (fun v J=>wq s.p.named v J∧(s.p.named.e=0→Cu J c s)) F) :=
 cf.keep (sH hl hok hg hf hS) fun e I' G w l hs ⟨v,he,hv,o1,o2,hG,hk⟩=>by
  subst hG
  obtain⟨J,g1,g2,g3⟩:=Sat.still [(m1,o1),(m2,o2)] hs
  exact⟨J,F,g1,g3,v,he,⟨hv.mono g1,fun h0=>⟨m1,m2,o1,o2,hS.mono (cc.le_trans l g1),g2 _ (.head _),(hk h0).1,g2 _ (.tail _ (.head _)),(hk h0).2⟩⟩,rfl⟩
end
end Go.Lx
namespace Go.Lx
open Go.Vc
set_option maxHeartbeats 1000000 in
theorem uy(s:cH)(hl:s.p.nC){I:cc}{F:bZ}(hok:s.Ok I F)(hg:Gl I):cf P 39 #[s.v] I F (jk (wq s.p.types) F):=by
 have lr:=hl.regs
 have lt:=hl.states
 simp only[cH.p,List.length_map] at lr lt
 have hdef:s.p.types=if s.p.check≠0 then ⟨s.p.check,0,false⟩ else il s.p.named (dD (fun x=>dD (lN s.p) x.rules) (s.states.map cp.p)):=rfl
 refine jA.vc
  (fun cA x i m I0 F0 I' F'=>F'=F∧0≤i∧i≤s.states.length∧m=(s.states.length-i).toNat∧(∃c,cA=some (⟨c,0,none⟩:Addr)∧Cu I' c s)∧(∀x∈s.states,∀r∈x.rules,r.Fit)∧s.p.types=dD (fun x=>dD (lN s.p) x.rules) ((s.states.drop i.toNat).map cp.p))
  (fun cA i x k m I0 F0 I' F'=>F'=F∧∃y,s.states[i.toNat]? = some y∧0≤k∧k≤y.rules.length∧m=(y.rules.length-k).toNat∧(∃c,cA=some (⟨c,0,none⟩:Addr)∧Cu I' c s)∧(∀x∈s.states,∀r∈x.rules,r.Fit) ∧
    s.p.types=il (dD (lN s.p) ((y.rules.drop k.toNat).map cz.p)) (dD (fun x=>dD (lN s.p) x.rules) ((s.states.drop (i.toNat+1)).map cp.p))) ?_
 unfold jA.V
 intro b_s
 have ok1:∀{J:cc} {x:Nat×Obj},cc.le I J→s.Ok J (x::F):=fun hJ=>hok.mono hJ fun y hy=>.tail _ hy
 refine cf.ret (xO s hl.small hl.lens I _ (ok1 (cc.le_refl I))) fun I1 l1=>⟨_,rfl,F,.refl _,fun hc=>?_,fun hc=>?_⟩
 ·have hc:s.p.check≠0:=by simpa using hc
  rw[hdef,if_pos hc]
  exact cf.hM (eZ (hg.mono l1) 0 s.p.check hc _) fun v I2 l2 hv=>⟨v,rfl,F,.refl _,v,rfl,hv,rfl⟩
 have hc:s.p.check=0:=by simpa using hc
 rw[if_neg (by simpa using hc)] at hdef
 have hfit:=wz hc
 have hfm:∀r∈s.regs,r.init.px.formed=true:=fun r hr=>xX hc r.p (List.mem_map_of_mem hr)
 refine (rV s lr I1 _ (ok1 l1)).mono fun e I2 G l2 ⟨c,m1,m2,he,hS,hG⟩=>?_
 subst hG
 have l12:=cc.le_trans l1 l2
 refine⟨_,he,(m1,.map #[] 0)::(m2,.map #[] 0)::F,cU, ?_⟩
 have hdec:=sf (F:=(b_s,Obj.cells #[.string s.name,.slice s.ra s.regs.length s.rc,.slice s.sa s.slots.length s.sc,.slice s.ta s.states.length s.tc] 39 (0,0))::F) hl (ok1 l12) (hg.mono l12) hfm hS
 refine (hdec.perm cU.symm).mono fun e I3 G l3 ⟨v,he,⟨hv,hk⟩,hG⟩=>⟨v,he,F,by rw[hG],_,fZ.neq hv (by kernel_rfl),fun hq=>?_,fun hq=>?_⟩
 ·have hq:s.p.named.e≠0:=by simpa using hq
  rw[hdef,qi _ hq]
  exact⟨v,rfl,hv,rfl⟩
 have hq:s.p.named.e=0:=by simpa using hq
 rw[uo _ hq] at hdef
 have l123:=cc.le_trans l12 l3
 refine⟨⟨_,rfl,by omega,by omega,rfl,⟨c,rfl,hk hq⟩,hfit,hdef⟩,fun x i m I4 F4 l4 ⟨gF,g0,g1,gm,⟨c',hc',hA⟩,_,ge⟩=>⟨fun hlt=>?_,fun hlt=>?_⟩⟩
 ·subst gF
  obtain rfl:c=c':=by simpa using hc'
  have hlt:=of_decide_eq_true hlt
  have l:=cc.le_trans l123 l4
  obtain⟨ad,y,had,hy,hrd,hym⟩:=gg.sG (ok1 (x:=(b_s,Obj.cells #[.string s.name,.slice s.ra s.regs.length s.rc,.slice s.sa s.slots.length s.sc,.slice s.ta s.states.length s.tc] 39 (0,0))) l).states g0 hlt
  obtain⟨hk2,hyk⟩:=List.getElem?_eq_some_iff.1 hy
  rw[List.drop_eq_getElem_cons hk2,hyk,List.map_cons] at ge
  have hly:=(hl.state y.p (List.mem_map_of_mem hym)).1
  have hlr:=(hl.state y.p (List.mem_map_of_mem hym)).2
  simp only[cp.p,List.length_map] at hly
  refine⟨⟨g0,hlt⟩,ad,had,_,_,_,_,_,hrd,fun b_x=>⟨⟨_,rfl,y,hy,by omega,by omega,rfl,⟨c,rfl,hA⟩,hfit, ?_⟩,fun x2 k m3 I5 F5 l5 ⟨hF,y',hy',h0,h1,hm,⟨c2,hc2,hA2⟩,_,he2⟩=>⟨fun hlt2=>?_,fun hlt2=>⟨(s.states.length-(i+1)).toNat,by omega, ?_⟩⟩⟩⟩
  ·rw[ge];unfold il;rw[dD];rfl
  ·subst hF
   obtain rfl:y=y':=by rw[hy] at hy';exact Option.some.inj hy'
   obtain rfl:c=c2:=by simpa using hc2
   have hlt2:=of_decide_eq_true hlt2
   have l5':=cc.le_trans l l5
   have hyo:y.Ok I5 ((b_s,Obj.cells #[.string s.name,.slice s.ra s.regs.length s.rc,.slice s.sa s.slots.length s.sc,.slice s.ta s.states.length s.tc] 39 (0,0))::(b_x,Obj.cells #[.string y.name,.slice y.a y.rules.length y.c,.int .i64 y.pos] 65 (0,0))::F5):=(hok.state y hym).mono l5' fun z hz=>.tail _ (.tail _ hz)
   obtain⟨ad1,r,had1,hr,hrd1,hrm⟩:=gg.sG hyo.1 h0 hlt2
   obtain⟨hk3,hrk⟩:=List.getElem?_eq_some_iff.1 hr
   rw[List.drop_eq_getElem_cons hk3,hrk,List.map_cons,dD] at he2
   have hdl:=(hlr r.p (List.mem_map_of_mem hrm)).2.1
   simp only[cz.p,List.length_map] at hdl
   refine⟨⟨h0,hlt2⟩,ad1,had1,_,_,_,_,_,_,_,_,_,_,_,_,_,_,hrd1,fun b_r=>?_⟩
   refine cf.hM (yh (hg.mono l5') hA2 r ((hyo.2 r hrm).mono (cc.le_refl _) fun z hz=>by
    rcases List.mem_cons.1 hz with rfl | hz
    ·exact .head _
    ·rcases List.mem_cons.1 hz with rfl | hz
     ·exact .tail _ (.head _)
     ·exact .tail _ (.tail _ (.tail _ hz))) (hfit y hym r hrm) hdl) fun v2 I6 l6 hv2=>⟨v2,rfl,F5,.refl _,_,fZ.neq hv2 (by kernel_rfl),fun hq=>?_,fun hq=>⟨(y.rules.length-(k+1)).toNat,by omega, ?_⟩⟩
   ·have hq:(lN s.p r.p).e≠0:=by simpa using hq
    rw[he2,if_pos hq,qi _ hq]
    exact⟨v2,rfl,hv2,rfl⟩
   ·have hq:(lN s.p r.p).e=0:=by simpa using hq
    rw[if_neg (by simpa using hq)] at he2
    rw[dW (n:=k+1) (by omega)]
    refine⟨rfl,y,hy,by omega,by omega,rfl,⟨c,rfl,hA2.mono l6⟩,hfit, ?_⟩
    rw[he2,show (k+1).toNat=k.toNat+1 by omega]
  ·subst hF
   obtain rfl:y=y':=by rw[hy] at hy';exact Option.some.inj hy'
   obtain rfl:c=c2:=by simpa using hc2
   have hlt2:=of_decide_eq_false hlt2
   rw[List.drop_eq_nil_of_le (by omega),List.map_nil,dD,uo _ rfl] at he2
   rw[dW (n:=i+1) (by omega)]
   refine⟨rfl,by omega,by omega,rfl,⟨c,rfl,hA2⟩,hfit, ?_⟩
   rw[he2,show (i+1).toNat=i.toNat+1 by omega]
 ·subst gF
  have hlt:=of_decide_eq_false hlt
  rw[List.drop_eq_nil_of_le (by omega),List.map_nil,dD] at ge
  rw[ge];exact⟨_,rfl,fZ.ok,rfl⟩
theorem Cv{F:bZ}:∀x,x∈([]:bZ)→x∈F:=fun x hx=>absurd hx (by simp)
theorem cy.Ej{I:cc}{b:Nat}{l:List Nd}{G:bZ}(hb:I b=some (.cells (l.flatMap Nd.enc).toArray 28 (0,0)))(hk:∀k∈l,cy I G k)(k o ty n f pos:Int)(s:ByteArray)(c:Nat):cy I G (.mk k o ty n f s (some ⟨b,0,none⟩) c l pos):=by
 have hS:Sl I 8 Nd.enc (some ⟨b,0,none⟩) l.length l:=Sl.iP (f:=Nd.enc) (z:=8) Nd.og hb (by simp)
 exact .mk (hS.yI G) hk
def eg:List Int→Int
 | []=>0
 | x::r=>x+eg r
def Cw(k:Int)(w:List Int):Int:=if k=7 then gY w 0+max (gY w 1) (gY w 2)+2 else (if k=9 then 0 else 1)+eg w
namespace Px
mutual
def wt:Px→Int
 | .mk k _ _ _ _ _ l _=>Cw k (Ek l)
def Ek:List Px→List Int
 | []=>[]
 | x::r=>wt x::Ek r
end
theorem yW:∀l:List Px,Ek l=l.map wt
 | []=>by rw[Ek];rfl
 | x::r=>by rw[Ek,yW r];rfl
theorem tx(x:Px):x.wt=Cw x.kind (x.kids.map wt):=by cases x;rw[wt,yW];rfl
theorem tz:∀{l:List Px},(∀k∈l,1≤k.wt∧k.wt+1≤2*k.size)→(l.length:Int)≤eg (l.map wt)∧eg (l.map wt)+l.length≤2*cR l
 | [],_=>⟨Int.le_refl 0,Int.le_refl 0⟩
 | x::r,h=>by
   have h1:=h x (.head _)
   have h2:=tz fun k hk=>h k (.tail _ hk)
   rw[List.map_cons,eg,cR,List.length_cons]
   omega
theorem gB:∀x:Px,x.formed=true→1≤x.wt∧x.wt+1≤2*x.size:=by
 refine ind fun x ih hf=>?_
 have h1:x.eW=true:=by rw[dK,Bool.and_eq_true] at hf;exact hf.1
 have hl:x.kids.length=arity x:=by
  unfold eW at h1
  rw[Bool.and_eq_true,decide_eq_true_eq] at h1
  exact h1.2
 have hk:∀k∈x.kids,1≤k.wt∧k.wt+1≤2*k.size:=fun k hm=>ih k hm (kA hf k hm)
 rw[tx,size_eq]
 have hs:=tz hk
 unfold Cw
 by_cases h7:x.kind=7
 ·rw[if_pos h7]
  have h3:x.kids.length=3:=by rw[hl];unfold arity;rw[h7];rfl
  match hx:x.kids,h3 with
  | [a,b,c],_ =>
    rw[hx] at hk
    have ha:=hk a (.head _)
    have hb:=hk b (.tail _ (.head _))
    have hc:=hk c (.tail _ (.tail _ (.head _)))
    rw[cR,cR,cR,cR]
    show 1≤a.wt+max b.wt c.wt+2∧a.wt+max b.wt c.wt+2+1≤_
    omega
 ·rw[if_neg h7]
  by_cases h9:x.kind=9
  ·rw[if_pos h9]
   have h1:x.kids.length=1:=by rw[hl];unfold arity;rw[h9];rfl
   omega
  ·rw[if_neg h9];omega
end Px
def gC(x:Px):Int:=if x.kind=0 then 0 else x.wt
def dS.wt(d:dS):Int:=gC d.side+gC d.qty+gC d.price+gC d.value
def dS.act(d:dS):Int:=if d.kind=1∨d.kind=2∨d.kind=3 then 1 else 0
def cM.body(r:cM):Int:=eg (r.dos.map dS.wt)
def cM.gD(r:cM):Int:=eg (r.dos.map dS.act)
def hU(m:Int)(l:List Int):Int:=l.foldl max m
def cD.steps(x:cD):Int:=eg (x.rules.map fun r=>r.when.wt)+hU 0 (x.rules.map cM.body)
def cD.gD(x:cD):Int:=hU 0 (x.rules.map cM.gD)
end Go.Lx
namespace Go.Lx
open Go.Vc Go.Proofs.Tryz
def lS:List (Nat×List Sh):=[(0,[]),(3,[.one (.int .i64)]),(28,[.agg [(.int .u8),(.int .u8),(.int .u8),(.int .i64),(.int .u8),.str,.slc,(.int .i64)]]),(42,[.one .slc]),(44,[.one .any]),(45,[.one .slc,.one .any]),(47,[.one (.int .i64)]),(57,[.agg [(.int .i64),(.int .i64)]]),(65,[.agg [.str,.slc,(.int .i64)]]),(84,[.agg [(.int .u8),(.int .u8),(.int .u8),(.int .i64),(.int .u8),.str,.slc,(.int .i64),.slc,(.int .i64)]]),(99,[.agg [(.int .u8),(.int .u8),.str,(.int .u8),(.int .u8),(.int .u8),(.int .i64),(.int .u8),.str,.slc,(.int .i64),(.int .u8),(.int .u8),(.int .u8),(.int .i64),(.int .u8),.str,.slc,(.int .i64),(.int .u8),(.int .u8),(.int .u8),(.int .i64),(.int .u8),.str,.slc,(.int .i64),(.int .u8),(.int .u8),(.int .u8),(.int .i64),(.int .u8),.str,.slc,(.int .i64),(.int .i64)]])]
def gP.V(c:Int)(d:OA)(b e:Nat)(I:cc)(F:bZ)(Q:cd)(Inv6:Int→Int→Nat→cc→bZ→Prop):Prop:=(∃m:Nat,Inv6 c 0 m I F)∧∀(a x:Int) (m1:Nat) (I1:cc) (F1:bZ),cc.le I I1→Inv6 a x m1 I1 F1→(Dt (x<(b:Int)) ((0≤x∧x<(b:Int))∧∃ad:Addr,d=some ad∧∃(m2:Int),Rd I1 F1 (ad.add (Int.toNat x*1)) [.int .i64 m2]∧(∃m3:Nat,m3<m1∧Inv6 (if m2>a then m2 else a) (IntKind.wrap .i64 (x+1)) m3 I1 F1)) (Q (.returned (.int .i64 a)) I1 F1))
theorem gP.vc{a:Int}{b:OA}{c d:Nat}{I:cc}{F:bZ}{Q:cd}(Inv6:Int→Int→Nat→cc→bZ→Prop)(h:gP.V a b c d I F Q Inv6):cf P 42 #[.int .i64 a,.slice b c d] I F Q :=
 tw (A:=(cQ [2000] [] [] lS [(6,⟨[(0,(.int .i64)),(9,(.int .i64))],[],fun _ _ _ vs m I F=>match vs with | [.int _ y0,.int _ y1]=>Inv6 y0 y1 m I F | _=>False,[],[]⟩)] [] [] [] [] [] [])) [] func42 h
def jC.V(c:Nat→Nat×Obj)(nV:Int→Int→Int→Int→Int→Bs→OA→Nat→Nat→Int→Value)(nO:Int→Int→Int→Int→Int→Bs→OA→Nat→Nat→Int→Obj)(nL:Int→Int→Int→Int→Int→Bs→OA→Nat→Nat→Int→List Value)(vi:Int→Value)(wr:Int→Int)(ab aR aS aT aU:Int)(aV:Bs)(e:OA)(d aQ:Nat)(aW:Int)(I:cc)(F:bZ)(Q:cd)(Inv25:OA→Int→Int→Nat→cc→bZ→cc→bZ→Prop):Prop:=∀a:Nat,(It (ab==7) ((0≤(0:Int)∧(0:Int)<(d:Int))∧∃ad:Addr,e=some ad∧((0≤(1:Int)∧(1:Int)<(d:Int))∧∃aL:Addr,e=some aL∧∃(aE aF aG aH aI:Int) (aJ:Bs) (ac:OA) (ae af:Nat) (aK:Int),Rd I ([]) (aL.add (Int.toNat 1*8)) (nL aE aF aG aH aI aJ ac ae af aK)∧((0≤(2:Int)∧(2:Int)<(d:Int))∧∃aM:Addr,e=some aM∧∃(ag ah ai aj ak:Int) (al:Bs) (q:OA) (s t:Nat) (am:Int),Rd I ([]) (aM.add (Int.toNat 2*8)) (nL ag ah ai aj ak al q s t am)∧∃(an ao ap aq ar:Int) (au:Bs) (u:OA) (v w:Nat) (av:Int),Rd I ((c a)::F) (ad.add (Int.toNat 0*8)) (nL an ao ap aq ar au u v w av)∧cE P 32 #[nV an ao ap aq ar au u v w av] I ((c a)::·) F vi fun r I1 F1=>cE P 32 #[nV aE aF aG aH aI aJ ac ae af aK] I1 ((c a)::·) F1 vi fun r1 I2 F2=>cE P 32 #[nV ag ah ai aj ak al q s t am] I2 ((c a)::·) F2 vi fun r2 I3 F3=>∀(b:Nat) (I4:cc),cc.le I3 I4→I4 b=some (Obj.cells #[vi r2] 3 (0,0))→cE P 42 (#[vi r1,.slice (some ⟨b,0,none⟩) 1 1]) I4 ((c a)::·) F3 vi fun r3 I5 F4=>Q (.returned (vi (wr ((wr (r+r3))+2)))) I5 F4))) (It (ab==9) ((0≤(0:Int)∧(0:Int)<(d:Int))∧∃aN:Addr,e=some aN∧∃(aw ax ay az aA:Int) (aB:Bs) (y:OA) (z aa:Nat) (aC:Int),Rd I ((c a)::F) (aN.add (Int.toNat 0*8)) (nL aw ax ay az aA aB y z aa aC)∧cE P 32 #[nV aw ax ay az aA aB y z aa aC] I ((c a)::·) F vi fun r4 I6 F5=>Q (.returned (vi r4)) I6 F5) ((∃m:Nat,Inv25 (some ⟨a,0,none⟩) 1 0 m I F I F)∧∀(aD x:Int) (m1:Nat) (I7:cc) (F6:bZ),cc.le I I7→Inv25 (some ⟨a,0,none⟩) aD x m1 I F I7 F6→(Dt (x<(d:Int)) ((0≤x∧x<(d:Int))∧∃aO:Addr,e=some aO∧∃(i j k l n:Int) (o:Bs) (f:OA) (g h:Nat) (p:Int),Rd I7 ((c a)::F6) (aO.add (Int.toNat x*8)) (nL i j k l n o f g h p)∧∀aP:Nat,cE P 32 #[nV i j k l n o f g h p] I7 ((c a)::(aP,nO i j k l n o f g h p)::·) F6 vi fun r5 I8 F7=>(∃m2:Nat,m2<m1∧Inv25 (some ⟨a,0,none⟩) (wr (aD+r5)) (wr (x+1)) m2 I F I8 F7)) (Q (.returned (vi aD)) I7 F6)))))
theorem jC.vc{i j p r u:Int}{v:Bs}{d:OA}{e g:Nat}{w:Int}{I:cc}{F:bZ}{Q:cd}(Inv25:OA→Int→Int→Nat→cc→bZ→cc→bZ→Prop)(h:jC.V (fun b=>(b,Obj.cells #[.int .u8 i,.int .u8 j,.int .u8 p,.int .i64 r,.int .u8 u,.string v,.slice d e g,.int .i64 w] 28 (0,0))) (fun k o t n f s a l c q=>.agg #[.int .u8 k,.int .u8 o,.int .u8 t,.int .i64 n,.int .u8 f,.string s,.slice a l c,.int .i64 q]) (fun k o t n f s a l c q=>.cells #[.int .u8 k,.int .u8 o,.int .u8 t,.int .i64 n,.int .u8 f,.string s,.slice a l c,.int .i64 q] 28 (0,0)) (fun k o t n f s a l c q=>[.int .u8 k,.int .u8 o,.int .u8 t,.int .i64 n,.int .u8 f,.string s,.slice a l c,.int .i64 q]) (.int .i64) (IntKind.wrap .i64) i j p r u v d e g w I F Q Inv25):cf P 32 #[.agg #[.int .u8 i,.int .u8 j,.int .u8 p,.int .i64 r,.int .u8 u,.string v,.slice d e g,.int .i64 w]] I F Q :=
 tw (A:=(cQ [2000,4000,8000] [] [32,42] lS [(25,⟨[(3,(.int .i64)),(39,(.int .i64))],[],fun fs I0 F0 vs m I F=>match fs,vs with | [.pointer y0],[.int _ y1,.int _ y2]=>Inv25 y0 y1 y2 m I0 F0 I F | _,_=>False,[1],[]⟩)] [3015] [] [] [] [(3,[0,5,10,1,2,6,7,8,11,12,13,3,4,9,14,15,16,17,18,19])] [] [] [(3,[1,6,8,11,13],20)])) [32,42] func32 h
def mw.V(a:Nat→Nat×Obj)(nV:Int→Int→Int→Int→Int→Bs→OA→Nat→Nat→Int→Value)(vi:Int→Value)(f g h i j:Int)(k:Bs)(b:OA)(c d:Nat)(l:Int)(I:cc)(F:bZ)(Q:cd)  : Prop:=∀e:Nat,cE P 31 #[nV f g h i j k b c d l] I ((a e)::·) F vi fun r I1 F1=>(It (r==120) (Q (.returned (vi 0)) I1 F1) (cE P 32 #[nV f g h i j k b c d l] I1 ((a e)::·) F1 vi fun r1 I2 F2=>Q (.returned (vi r1)) I2 F2))
theorem mw.vc{i j m p r:Int}{u:Bs}{d:OA}{e g:Nat}{v:Int}{I:cc}{F:bZ}{Q:cd}  (h:mw.V (fun b=>(b,Obj.cells #[.int .u8 i,.int .u8 j,.int .u8 m,.int .i64 p,.int .u8 r,.string u,.slice d e g,.int .i64 v] 28 (0,0))) (fun k o t n f s a l c q=>.agg #[.int .u8 k,.int .u8 o,.int .u8 t,.int .i64 n,.int .u8 f,.string s,.slice a l c,.int .i64 q]) (.int .i64) i j m p r u d e g v I F Q):cf P 12 #[.agg #[.int .u8 i,.int .u8 j,.int .u8 m,.int .i64 p,.int .u8 r,.string u,.slice d e g,.int .i64 v]] I F Q :=
 tw (A:=(an [1002] [31,32] lS)) [31,32] func12 h
def my.V(aG:Nat→Nat×Obj)(nO:Int→Int→Int→Int→Int→Bs→OA→Nat→Nat→Int→Obj)(vb vi:Int→Value)(vs:Bs→Value)(vl:OA→Nat→Nat→Value)(aW aX aY aZ a0:Int)(a1:Bs)(aS:OA)(aT aU:Nat)(a2:Int)(aO:OA)(aq aV:Nat)(a3:Int)(aR:Fn)(aL aM:Array Value)(I:cc)(F:bZ)(Q:cd)(Inv5:Int→Nat→cc→bZ→cc→bZ→Prop)(Inv19:Int→Int→Nat→cc→bZ→cc→bZ→Prop):Prop:=∀aK:Nat,(∃m:Nat,Inv5 0 m I F I F)∧∀(x:Int) (m1:Nat) (I1:cc) (F1:bZ),cc.le I I1→Inv5 x m1 I F I1 F1→(Dt (x<(aq:Int)) ((0≤x∧x<(aq:Int))∧∃ad:Addr,aO=some ad∧∃(aH aI:Int) (aJ:Bs) (aA aB aC aD aE:Int) (aF:Bs) (k:OA) (l n:Nat) (s t u v w y:Int) (z:Bs) (a:OA) (c d:Nat) (aa ab ac ae af ag:Int) (ah:Bs) (e:OA) (f g:Nat) (ai aj ak al am an:Int) (ao:Bs) (h:OA) (i j:Nat) (ap ar:Int),Rd I1 ((aG aK)::F1) (ad.add (Int.toNat x*36)) [vb aH,vb aI,vs aJ,vb aA,vb aB,vb aC,vi aD,vb aE,vs aF,vl k l n,vi s,vb t,vb u,vb v,vi w,vb y,vs z,vl a c d,vi aa,vb ab,vb ac,vb ae,vi af,vb ag,vs ah,vl e f g,vi ai,vb aj,vb ak,vb al,vi am,vb an,vs ao,vl h i j,vi ap,vi ar]∧∀aN:Nat,∀(b:Nat) (I2:cc),cc.le I1 I2→I2 b=some (Obj.cells #[vb aA,vb aB,vb aC,vi aD,vb aE,vs aF,vl k l n,vi s,vb t,vb u,vb v,vi w,vb y,vs z,vl a c d,vi aa,vb ab,vb ac,vb ae,vi af,vb ag,vs ah,vl e f g,vi ai,vb aj,vb ak,vb al,vi am,vb an,vs ao,vl h i j,vi ap] 28 (0,0))→(∃m2:Nat,Inv19 x 0 m2 I2 F1 I2 F1)∧∀(x1:Int) (m3:Nat) (I3:cc) (F2:bZ),cc.le I2 I3→Inv19 x x1 m3 I2 F1 I3 F2→(Dt (x1<(4:Int)) ((0≤x1∧x1<(4:Int))∧∃aP:Addr,some ⟨b,0,none⟩=some aP∧∃(o au av aw ax:Int) (ay:Bs) (p:OA) (q r:Nat) (az:Int),Rd I3 ((aG aK)::(aN,Obj.cells #[vb aH,vb aI,vs aJ,vb aA,vb aB,vb aC,vi aD,vb aE,vs aF,vl k l n,vi s,vb t,vb u,vb v,vi w,vb y,vs z,vl a c d,vi aa,vb ab,vb ac,vb ae,vi af,vb ag,vs ah,vl e f g,vi ai,vb aj,vb ak,vb al,vi am,vb an,vs ao,vl h i j,vi ap,vi ar] 99 (0,0))::F2) (aP.add (Int.toNat x1*8)) [vb o,vb au,vb av,vi aw,vb ax,vs ay,vl p q r,vi az]∧∀aQ:Nat,(It (o != 0) (oK P (.func aR aL aM) [.agg #[vb o,vb au,vb av,vi aw,vb ax,vs ay,vl p q r,vi az]] I3 ((aG aK)::(aN,Obj.cells #[vb aH,vb aI,vs aJ,vb aA,vb aB,vb aC,vi aD,vb aE,vs aF,vl k l n,vi s,vb t,vb u,vb v,vi w,vb y,vs z,vl a c d,vi aa,vb ab,vb ac,vb ae,vi af,vb ag,vs ah,vl e f g,vi ai,vb aj,vb ak,vb al,vi am,vb an,vs ao,vl h i j,vi ap,vi ar] 99 (0,0))::(aQ,nO o au av aw ax ay p q r az)::F2) fun e1 I4 G1=>e1=.returned (.tuple #[])∧∃F3:bZ,List.Perm G1 ((aG aK)::(aN,Obj.cells #[vb aH,vb aI,vs aJ,vb aA,vb aB,vb aC,vi aD,vb aE,vs aF,vl k l n,vi s,vb t,vb u,vb v,vi w,vb y,vs z,vl a c d,vi aa,vb ab,vb ac,vb ae,vi af,vb ag,vs ah,vl e f g,vi ai,vb aj,vb ak,vb al,vi am,vb an,vs ao,vl h i j,vi ap,vi ar] 99 (0,0))::(aQ,nO o au av aw ax ay p q r az)::F3)∧(∃m4:Nat,m4<m3∧Inv19 x (IntKind.wrap .i64 (x1+1)) m4 I2 F1 I4 F3)) (∃m5:Nat,m5<m3∧Inv19 x (IntKind.wrap .i64 (x1+1)) m5 I2 F1 I3 F2))) (∃m6:Nat,m6<m1∧Inv5 (IntKind.wrap .i64 (x+1)) m6 I F I3 F2))) (Q (.returned (.tuple #[])) I1 F1))
theorem my.vc{v w x y z:Int}{aa:Bs}{d:OA}{e g:Nat}{ab:Int}{i:OA}{j p:Nat}{ac:Int}{ad:Fn}{r u:Array Value}{I:cc}{F:bZ}{Q:cd}(Inv5:Int→Nat→cc→bZ→cc→bZ→Prop)(Inv19:Int→Int→Nat→cc→bZ→cc→bZ→Prop)(h:my.V (fun b=>(b,Obj.cells #[.int .u8 v,.int .u8 w,.int .u8 x,.int .i64 y,.int .u8 z,.string aa,.slice d e g,.int .i64 ab,.slice i j p,.int .i64 ac] 84 (0,0))) (fun k o t n f s a l c q=>.cells #[.int .u8 k,.int .u8 o,.int .u8 t,.int .i64 n,.int .u8 f,.string s,.slice a l c,.int .i64 q] 28 (0,0)) (.int .u8) (.int .i64) .string .slice v w x y z aa d e g ab i j p ac ad r u I F Q Inv5 Inv19):cf P 40 #[.agg #[.int .u8 v,.int .u8 w,.int .u8 x,.int .i64 y,.int .u8 z,.string aa,.slice d e g,.int .i64 ab,.slice i j p,.int .i64 ac],.func ad r u] I F Q :=
 tw (A:=(cQ [2000,5000,7002] [] [] lS [(5,⟨[(11,(.int .i64))],[],fun fs I0 F0 vs m I F=>match fs,vs with | [],[.int _ y0]=>Inv5 y0 m I0 F0 I F | _,_=>False,[],[]⟩),(19,⟨[(25,(.int .i64))],[],fun fs I0 F0 vs m I F=>match fs,vs with | [.int _ y0],[.int _ y1]=>Inv19 y0 y1 m I0 F0 I F | _,_=>False,[11],[]⟩)] [4008] [] [] [8002] [] [])) [] func40 h
def mz.V(vb vi:Int→Value)(vs:Bs→Value)(vl:OA→Nat→Nat→Value)(wr:Int→Int)(aw ax ay az aA:Int)(aB:Bs)(o:OA)(p q:Nat)(aC:Int)(d:OA)(b r:Nat)(aD:Int)(I:cc)(F:bZ)(Q:cd)(Inv8:Int→Int→Nat→cc→bZ→Prop):Prop:=∀aM:Nat,(∃m:Nat,Inv8 0 0 m I F)∧∀(a x:Int) (m1:Nat) (I1:cc) (F1:bZ),cc.le I I1→Inv8 a x m1 I1 F1→(Dt (x<(b:Int)) ((0≤x∧x<(b:Int))∧∃ad:Addr,d=some ad∧∃(c aE:Int) (aF:Bs) (aG aH aI aJ aK:Int) (aL:Bs) (s:OA) (t u:Nat) (v w y z aa ab:Int) (ac:Bs) (e:OA) (f g:Nat) (ae af ag ah ai aj:Int) (ak:Bs) (h:OA) (i j:Nat) (al am an ao ap aq:Int) (ar:Bs) (k:OA) (l n:Nat) (au av:Int),Rd I1 ((aM,Obj.cells #[vb aw,vb ax,vb ay,vi az,vb aA,vs aB,vl o p q,vi aC,vl d b r,vi aD] 84 (0,0))::F1) (ad.add (Int.toNat x*36)) [vb c,vb aE,vs aF,vb aG,vb aH,vb aI,vi aJ,vb aK,vs aL,vl s t u,vi v,vb w,vb y,vb z,vi aa,vb ab,vs ac,vl e f g,vi ae,vb af,vb ag,vb ah,vi ai,vb aj,vs ak,vl h i j,vi al,vb am,vb an,vb ao,vi ap,vb aq,vs ar,vl k l n,vi au,vi av]∧∀aN:Nat,(It (c==1) (∃m2:Nat,m2<m1∧Inv8 (wr (a+1)) (wr (x+1)) m2 I1 F1) (It (c==2) (∃m3:Nat,m3<m1∧Inv8 (wr (a+1)) (wr (x+1)) m3 I1 F1) (It (c==3) (∃m4:Nat,m4<m1∧Inv8 (wr (a+1)) (wr (x+1)) m4 I1 F1) (∃m5:Nat,m5<m1∧Inv8 a (wr (x+1)) m5 I1 F1))))) (Q (.returned (vi a)) I1 F1))
theorem mz.vc{g i j k l:Int}{n:Bs}{a:OA}{b c:Nat}{o:Int}{d:OA}{e f:Nat}{p:Int}{I:cc}{F:bZ}{Q:cd}(Inv8:Int→Int→Nat→cc→bZ→Prop)(h:mz.V (.int .u8) (.int .i64) .string .slice (IntKind.wrap .i64) g i j k l n a b c o d e f p I F Q Inv8):cf P 43 #[.agg #[.int .u8 g,.int .u8 i,.int .u8 j,.int .i64 k,.int .u8 l,.string n,.slice a b c,.int .i64 o,.slice d e f,.int .i64 p]] I F Q :=
 tw (A:=(cQ [3000,6000,7000,8000] [] [] lS [(8,⟨[(3,(.int .i64)),(9,(.int .i64))],[],fun _ _ _ vs m I F=>match vs with | [.int _ y0,.int _ y1]=>Inv8 y0 y1 m I F | _=>False,[],[]⟩)] [] [] [] [] [] [])) [] func43 h
def gQ.V(nO:Int→Int→Int→Int→Int→Bs→OA→Nat→Nat→Int→Obj)(vb vi:Int→Value)(e f g h i:Int)(j:Bs)(a:OA)(b d:Nat)(k:Int)(l:Nat)(c:Int)(I:cc)(F:bZ)(Q:cd)  : Prop:=∀m:Nat,∃(r:Int),(cf P 32 #[.agg #[vb e,vb f,vb g,vi h,vb i,.string j,.slice a b d,vi k]] I ((l,Obj.cells #[vi c] 3 (0,0))::(m,nO e f g h i j a b d k)::F) fun e1 I1 G1=>e1=.returned (vi r)∧List.Perm G1 ((l,Obj.cells #[vi c] 3 (0,0))::(m,nO e f g h i j a b d k)::F))∧Q (.returned (.tuple #[])) I ((l,Obj.cells #[vi (IntKind.wrap .i64 (c+r))] 3 (0,0))::F)
theorem gQ.vc{i j m r u:Int}{w:Bs}{b:OA}{d e:Nat}{x:Int}{g:Nat}{c:Int}{I:cc}{F:bZ}{Q:cd}  (h:gQ.V (fun k o t n f s a l c q=>.cells #[.int .u8 k,.int .u8 o,.int .u8 t,.int .i64 n,.int .u8 f,.string s,.slice a l c,.int .i64 q] 28 (0,0)) (.int .u8) (.int .i64) i j m r u w b d e x g c I F Q):cf P 41 #[.agg #[.int .u8 i,.int .u8 j,.int .u8 m,.int .i64 r,.int .u8 u,.string w,.slice b d e,.int .i64 x],.pointer (some ⟨g,0,none⟩)] I ((g,Obj.cells #[.int .i64 c] 3 (0,0))::F) Q :=
 tv (A:=(cQ [] [] [32] lS [] [] [] [(1,4,[0])] [] [] [])) (args:=[.a (.v (.agg #[.int .u8 i,.int .u8 j,.int .u8 m,.int .i64 r,.int .u8 u,.string w,.slice b d e,.int .i64 x])),.a (.p 0 g 0)]) (own:=[⟨g,3,false,[.a (.v (.int .i64 c))]⟩]) (keep:=[0]) [32] func41 h
def jD.V(ka:Nat→Int→Int→Int→Int→Int→Bs→OA→Nat→Nat→Int→OA→Nat→Nat→Int→Nat×Obj)(kb:Nat→Bs→OA→Nat→Nat→Int→Nat×Obj)(s:Nat→Nat×Obj)(vb vi:Int→Value)(vs:Bs→Value)(vl:OA→Nat→Nat→Value)(wr:Int→Int)(aI:Bs)(av:OA)(aw ax:Nat)(ay:OA)(az aA:Nat)(ap:OA)(ah aB:Nat)(I:cc)(F:bZ)(Q:cd)(Inv21:OA→OA→Nat→Nat→Int→Nat→cc→bZ→cc→bZ→Prop)(Inv44:OA→OA→Nat→Nat→Int→OA→Int→Int→Nat→cc→bZ→cc→bZ→Prop):Prop:=∀h:Nat,dk P 39 #[.agg #[vs aI,vl av aw ax,vl ay az aA,vl ap ah aB]] I ((s h)::·) F fun e1 I1 G1=>∃(r:Value),e1=.returned r∧G1 fun F1=>∃q:Bool,cS P .neq 44 (.tmp 14) (.const (Value.nilIface)) r Value.nilIface q∧(It q (Q (.returned (.tuple #[vl none 0 0,r])) I1 F1) (cI P (Instr.makeSlice 42 (vi (ah:Int)) (vi (ah:Int))) I1 ((s h)::F1) fun v I2 G2=>∃(t:OA) (u aj:Nat),v=vl t u aj∧∃F2:bZ,List.Perm G2 ((s h)::F2)∧(∃m:Nat,Inv21 (some ⟨h,0,none⟩) t u aj 0 m I2 F2 I2 F2)∧∀(x:Int) (m1:Nat) (I3:cc) (F3:bZ),cc.le I2 I3→Inv21 (some ⟨h,0,none⟩) t u aj x m1 I2 F2 I3 F3→(Dt (x<(ah:Int)) ((0≤x∧x<(ah:Int))∧∃ad:Addr,ap=some ad∧∃(ae:Bs) (d:OA) (a i:Nat) (af:Int),Rd I3 ((s h)::F3) (ad.add (Int.toNat x*3)) [vs ae,vl d a i,vi af]∧∀w:Nat,(It ((a:Int)==0) (∃m2:Nat,m2<m1∧Inv21 (some ⟨h,0,none⟩) t u aj (wr (x+1)) m2 I2 F2 I3 F3) ((∃m3:Nat,Inv44 (some ⟨h,0,none⟩) t u aj x (some ⟨w,0,none⟩) 0 0 m3 I3 F3 I3 F3)∧∀(ao x1:Int) (m4:Nat) (I4:cc) (F4:bZ),cc.le I3 I4→Inv44 (some ⟨h,0,none⟩) t u aj x (some ⟨w,0,none⟩) ao x1 m4 I3 F3 I4 F4→(Dt (x1<(a:Int)) ((0≤x1∧x1<(a:Int))∧∃aE:Addr,d=some aE∧∃(n y o z aa:Int) (ab:Bs) (e:OA) (f g:Nat) (ac:Int) (j:OA) (k l:Nat) (ag:Int),Rd I4 ((s h)::(kb w ae d a i af)::F4) (aE.add (Int.toNat x1*10)) [vb n,vb y,vb o,vi z,vb aa,vs ab,vl e f g,vi ac,vl j k l,vi ag]∧∀ai:Nat,∀p:Nat,cf P 40 (#[.agg #[vb n,vb y,vb o,vi z,vb aa,vs ab,vl e f g,vi ac,vl j k l,vi ag],.func (.func 41) #[] #[.pointer (some ⟨p,0,none⟩)]]) I4 ((s h)::(kb w ae d a i af)::(ka ai n y o z aa ab e f g ac j k l ag)::(p,Obj.cells #[vi 0] 3 (0,0))::F4) fun e2 I5 G3=>e2=.returned (.tuple #[])∧∃(c:Int),∃F5:bZ,List.Perm G3 ((s h)::(kb w ae d a i af)::(ka ai n y o z aa ab e f g ac j k l ag)::(p,Obj.cells #[vi c] 3 (0,0))::F5)∧∀(b:Nat) (I6:cc),cc.le I5 I6→I6 b=some (Obj.cells #[vi c] 3 (0,0))→cE P 42 (#[vi ao,vl (some ⟨b,0,none⟩) 1 1]) I6 ((s h)::(kb w ae d a i af)::(ka ai n y o z aa ab e f g ac j k l ag)::(p,Obj.cells #[vi c] 3 (0,0))::·) F5 vi fun r1 I7 F6=>∃(hb:Nat) (ho:Obj) (F7:bZ),List.Perm F6 ((hb,ho)::F7)∧((0≤x∧x<(u:Int))∧∃aF:Addr,t=some aF∧∃(m5:Int),Rd (cc.put I7 hb ho) ([]) ((aF.add (Int.toNat x*2)).add 1) [vi m5]∧cf P 43 #[.agg #[vb n,vb y,vb o,vi z,vb aa,vs ab,vl e f g,vi ac,vl j k l,vi ag]] (cc.put I7 hb ho) ((s h)::(kb w ae d a i af)::(ka ai n y o z aa ab e f g ac j k l ag)::(p,Obj.cells #[vi c] 3 (0,0))::F7) fun e4 I8 G5=>∃(r2:Int),e4=.returned (vi r2)∧∃F8:bZ,List.Perm G5 ((s h)::(kb w ae d a i af)::(ka ai n y o z aa ab e f g ac j k l ag)::(p,Obj.cells #[vi c] 3 (0,0))::F8)∧∀(b1:Nat) (I9:cc),cc.le I8 I9→I9 b1=some (Obj.cells #[vi r2] 3 (0,0))→cE P 42 (#[vi m5,vl (some ⟨b1,0,none⟩) 1 1]) I9 ((s h)::(kb w ae d a i af)::(ka ai n y o z aa ab e f g ac j k l ag)::(p,Obj.cells #[vi c] 3 (0,0))::·) F8 vi fun r3 I10 F9=>((0≤x∧x<(u:Int))∧∃ak:Addr,t=some ak∧∃(cs:List Value) (el:Nat) (F10:bZ),List.Perm ((hb,ho)::F9) ((((ak.add (Int.toNat x*2)).add 1).block,Obj.cells cs.toArray el (0,0))::F10)∧((ak.add (Int.toNat x*2)).add 1).spot=none∧((ak.add (Int.toNat x*2)).add 1).off+1≤cs.length∧∃(an:Nat) (aq:Obj) (F11:bZ),List.Perm ((((ak.add (Int.toNat x*2)).add 1).block,Obj.cells (cg ((ak.add (Int.toNat x*2)).add 1).off [vi r3] cs).toArray el (0,0))::F10) ((an,aq)::F11)∧((0≤x∧x<(u:Int))∧∃aG:Addr,t=some aG∧∃(m6:Int),Rd (cc.put (cc.del I10 hb) an aq) ([]) ((aG.add (Int.toNat x*2)).add 0) [vi m6]∧cf P 32 #[.agg #[vb n,vb y,vb o,vi z,vb aa,vs ab,vl e f g,vi ac]] (cc.put (cc.del I10 hb) an aq) ((s h)::(kb w ae d a i af)::(ka ai n y o z aa ab e f g ac j k l ag)::(p,Obj.cells #[vi c] 3 (0,0))::F11) fun e6 I11 G7=>∃(r4:Int),e6=.returned (vi r4)∧∃F12:bZ,List.Perm G7 ((s h)::(kb w ae d a i af)::(ka ai n y o z aa ab e f g ac j k l ag)::(p,Obj.cells #[vi c] 3 (0,0))::F12)∧((0≤x∧x<(u:Int))∧∃al:Addr,t=some al∧∃(ar:List Value) (aC:Nat) (F13:bZ),List.Perm ((an,aq)::F12) ((((al.add (Int.toNat x*2)).add 0).block,Obj.cells ar.toArray aC (0,0))::F13)∧((al.add (Int.toNat x*2)).add 0).spot=none∧((al.add (Int.toNat x*2)).add 0).off+1≤ar.length∧(∃m7:Nat,m7<m4∧Inv44 (some ⟨h,0,none⟩) t u aj x (some ⟨w,0,none⟩) r1 (wr (x1+1)) m7 I3 F3 (cc.del I11 an) ((((al.add (Int.toNat x*2)).add 0).block,Obj.cells (cg ((al.add (Int.toNat x*2)).add 0).off [vi (wr (m6+r4))] ar).toArray aC (0,0))::F13))))))) ((0≤x∧x<(u:Int))∧∃aH:Addr,t=some aH∧∃(m8:Int),Rd I4 ((s h)::(kb w ae d a i af)::F4) ((aH.add (Int.toNat x*2)).add 0) [vi m8]∧((0≤x∧x<(u:Int))∧∃am:Addr,t=some am∧∃(au:List Value) (aD:Nat) (F14:bZ),List.Perm F4 ((((am.add (Int.toNat x*2)).add 0).block,Obj.cells au.toArray aD (0,0))::F14)∧((am.add (Int.toNat x*2)).add 0).spot=none∧((am.add (Int.toNat x*2)).add 0).off+1≤au.length∧(∃m9:Nat,m9<m1∧Inv21 (some ⟨h,0,none⟩) t u aj (wr (x+1)) m9 I2 F2 I4 ((((am.add (Int.toNat x*2)).add 0).block,Obj.cells (cg ((am.add (Int.toNat x*2)).add 0).off [vi (wr (m8+ao))] au).toArray aD (0,0))::F14)))))))) (Q (.returned (.tuple #[vl t u aj,Value.nilIface])) I3 F3))))
theorem jD.vc{x:Bs}{o:OA}{p q:Nat}{r:OA}{s t:Nat}{u:OA}{v w:Nat}{I:cc}{F:bZ}{Q:cd}(Inv21:OA→OA→Nat→Nat→Int→Nat→cc→bZ→cc→bZ→Prop)(Inv44:OA→OA→Nat→Nat→Int→OA→Int→Int→Nat→cc→bZ→cc→bZ→Prop)(h:jD.V (fun W a b c d e f g h i j k l m n=>(W,Obj.cells #[.int .u8 a,.int .u8 b,.int .u8 c,.int .i64 d,.int .u8 e,.string f,.slice g h i,.int .i64 j,.slice k l m,.int .i64 n] 84 (0,0))) (fun W a b c d e=>(W,Obj.cells #[.string a,.slice b c d,.int .i64 e] 65 (0,0))) (fun b=>(b,Obj.cells #[.string x,.slice o p q,.slice r s t,.slice u v w] 39 (0,0))) (.int .u8) (.int .i64) .string .slice (IntKind.wrap .i64) x o p q r s t u v w I F Q Inv21 Inv44):cf P 19 #[.agg #[.string x,.slice o p q,.slice r s t,.slice u v w]] I F Q :=
 tw (A:=(cQ [2001,6000,8003,11000] [] [32,39,40,42,43] lS [(21,⟨[(24,(.int .i64))],[],fun fs I0 F0 vs m I F=>match fs,vs with | [.pointer y0,.slice y1 y2 y3],[.int _ y4]=>Inv21 y0 y1 y2 y3 y4 m I0 F0 I F | _,_=>False,[1,5],[]⟩),(44,⟨[(8,(.int .i64)),(36,(.int .i64))],[],fun fs I0 F0 vs m I F=>match fs,vs with | [.pointer y0,.slice y1 y2 y3,.int _ y4,.pointer y5],[.int _ y6,.int _ y7]=>Inv44 y0 y1 y2 y3 y4 y5 y6 y7 m I0 F0 I F | _,_=>False,[1,5,6,7],[]⟩)] [15002,16009] [] [] [] [] [] [] [] [(16,[6,1000],.fin [0,1,2,3,4,5,6,7,8,9,10,11,12] [13]),(17,[4,1000],.fin [0,1,2,3,5,4,6,7,8,9,10] [11])])) [32,39,40,42,43] func19 h
def gR.V(ka:Nat→Int→Int→Nat×Obj)(g:Nat→Nat×Obj)(vi:Int→Value)(vl:OA→Nat→Nat→Value)(z:Bs)(n:OA)(o p:Nat)(s:OA)(t u:Nat)(v:OA)(w y:Nat)(I:cc)(F:bZ)(Q:cd)(Inv18:OA→OA→Nat→Nat→OA→Int→Int→Int→Nat→cc→bZ→cc→bZ→Prop):Prop:=∀d:Nat,∀b:Nat,dk P 19 #[.agg #[.string z,vl n o p,vl s t u,vl v w y]] I ((g d)::(ka b 0 0)::·) F fun e1 I1 G1=>∃(k:OA) (i l:Nat) (r1:Value),e1=.returned (.tuple #[vl k i l,r1])∧G1 fun F1=>∃q:Bool,cS P .neq 44 (.tmp 14) (.const (Value.nilIface)) r1 Value.nilIface q∧(It q (Q (.returned (.tuple #[.agg #[vi 0,vi 0],r1])) I1 F1) (∀e:Nat,(∃m:Nat,Inv18 (some ⟨d,0,none⟩) k i l (some ⟨e,0,none⟩) 0 0 0 m I1 F1 I1 F1)∧∀(x a c:Int) (m1:Nat) (I2:cc) (F2:bZ),cc.le I1 I2→Inv18 (some ⟨d,0,none⟩) k i l (some ⟨e,0,none⟩) x a c m1 I1 F1 I2 F2→(Dt (x<(i:Int)) ((0≤x∧x<(i:Int))∧∃ad:Addr,k=some ad∧∃(h f:Int),Rd I2 ((g d)::(ka b 0 0)::(ka e a c)::F2) (ad.add (Int.toNat x*2)) [vi h,vi f]∧∀j:Nat,(∀(b1:Nat) (I3:cc),cc.le I2 I3→I3 b1=some (Obj.cells #[vi h] 3 (0,0))→(cE P 42 (#[vi a,vl (some ⟨b1,0,none⟩) 1 1]) I3 ((g d)::(ka b 0 0)::(ka e a c)::(ka j h f)::·) F2 vi fun r I4 F3=>∀(b2:Nat) (I5:cc),cc.le I4 I5→I5 b2=some (Obj.cells #[vi f] 3 (0,0))→cE P 42 (#[vi c,vl (some ⟨b2,0,none⟩) 1 1]) I5 ((g d)::(ka b 0 0)::(ka e a c)::(ka j h f)::·) F3 vi fun r2 I6 F4=>(∃m2:Nat,m2<m1∧Inv18 (some ⟨d,0,none⟩) k i l (some ⟨e,0,none⟩) (IntKind.wrap .i64 (x+1)) r r2 m2 I1 F1 I6 F4))∧(∀(b3:Nat) (I7:cc),cc.le I3 I7→I7 b3=some (Obj.cells #[vi f] 3 (0,0))→cE P 42 (#[vi a,vl (some ⟨b1,0,none⟩) 1 1]) I7 ((g d)::(ka b 0 0)::(ka e a c)::(ka j h f)::·) F2 vi fun r3 I8 F5=>cE P 42 (#[vi c,vl (some ⟨b3,0,none⟩) 1 1]) I8 ((g d)::(ka b 0 0)::(ka e a c)::(ka j h f)::·) F5 vi fun r4 I9 F6=>(∃m3:Nat,m3<m1∧Inv18 (some ⟨d,0,none⟩) k i l (some ⟨e,0,none⟩) (IntKind.wrap .i64 (x+1)) r3 r4 m3 I1 F1 I9 F6)))∧(∀(b4:Nat) (I10:cc),cc.le I2 I10→I10 b4=some (Obj.cells #[vi f] 3 (0,0))→∀(b5:Nat) (I11:cc),cc.le I10 I11→I11 b5=some (Obj.cells #[vi h] 3 (0,0))→cE P 42 (#[vi a,vl (some ⟨b5,0,none⟩) 1 1]) I11 ((g d)::(ka b 0 0)::(ka e a c)::(ka j h f)::·) F2 vi fun r5 I12 F7=>cE P 42 (#[vi c,vl (some ⟨b4,0,none⟩) 1 1]) I12 ((g d)::(ka b 0 0)::(ka e a c)::(ka j h f)::·) F7 vi fun r6 I13 F8=>(∃m4:Nat,m4<m1∧Inv18 (some ⟨d,0,none⟩) k i l (some ⟨e,0,none⟩) (IntKind.wrap .i64 (x+1)) r5 r6 m4 I1 F1 I13 F8))) (Dt (a>500) (∀b6:Nat,Q (.returned (.tuple #[.agg #[vi 0,vi 0],Value.iface 89 (.pointer (some (⟨b6,0,none⟩:Addr)))])) I2 (((b6,Obj.cells #[.string (⟨#[83,116,114,97,116,101,103,121]⟩:Bs),vi 0,Value.iface 47 (vi 160)] 93 (0,0))::F2))) (Q (.returned (.tuple #[.agg #[vi a,vi c],Value.nilIface])) I2 F2)))))
theorem gR.vc{n:Bs}{c:OA}{d e:Nat}{f:OA}{g i:Nat}{j:OA}{k l:Nat}{I:cc}{F:bZ}{Q:cd}(Inv18:OA→OA→Nat→Nat→OA→Int→Int→Int→Nat→cc→bZ→cc→bZ→Prop)(h:gR.V (fun W a b=>(W,Obj.cells #[.int .i64 a,.int .i64 b] 57 (0,0))) (fun b=>(b,Obj.cells #[.string n,.slice c d e,.slice f g i,.slice j k l] 39 (0,0))) (.int .i64) .slice n c d e f g i j k l I F Q Inv18):cf P 24 #[.agg #[.string n,.slice c d e,.slice f g i,.slice j k l]] I F Q :=
 tw (A:=(cQ [2001,6000,10002] [] [19,42] lS [(18,⟨[(20,(.int .i64))],[(2,[(.int .i64),(.int .i64)])],fun fs I0 F0 vs m I F=>match fs,vs with | [.pointer y0,.slice y1 y2 y3,.pointer y4],[.int _ y5,.int _ y6,.int _ y7]=>Inv18 y0 y1 y2 y3 y4 y5 y6 y7 m I0 F0 I F | _,_=>False,[1,4,6],[]⟩)] [8004,8010] [11003] [] [] [] [] [] [] [(8,[1,3,7,9],.fork [0,2,6,8,1,3,7,9] 4 10 (.fork [] 5 10 (.fin [12,10,11] [13,14,15]) (.fin [5,12,11] [13,14,15])) (.fin [4,5,12,11] [13,14,15]))])) [19,42] func24 h
def BE:List (Nat×List Sh):=[(3,[.one (.int .i64)]),(4,[.one .bool]),(22,[.one (.int .u8)]),(28,[.agg [(.int .u8),(.int .u8),(.int .u8),(.int .i64),(.int .u8),.str,.slc,(.int .i64)]]),(42,[.one .slc]),(45,[.one .slc,.one .any]),(51,[.agg [(.int .i64),(.int .i64),.bool]]),(52,[.one .slc,.agg [(.int .i64),(.int .i64),.bool]]),(57,[.agg [(.int .i64),(.int .i64)]]),(58,[.agg [(.int .i64),(.int .i64)],.one .any]),(65,[.agg [.str,.slc,(.int .i64)]]),(69,[.agg [(.int .u8),(.int .u8),(.int .u8),(.int .i64),(.int .u8),.str,.slc,(.int .i64)],.agg [(.int .i64),(.int .i64),.bool]]),(71,[.agg [.str,.slc,.slc,.slc],.agg [(.int .i64),(.int .i64),.bool]]),(84,[.agg [(.int .u8),(.int .u8),(.int .u8),(.int .i64),(.int .u8),.str,.slc,(.int .i64),.slc,(.int .i64)]]),(99,[.agg [(.int .u8),(.int .u8),.str,(.int .u8),(.int .u8),(.int .u8),(.int .i64),(.int .u8),.str,.slc,(.int .i64),(.int .u8),(.int .u8),(.int .u8),(.int .i64),(.int .u8),.str,.slc,(.int .i64),(.int .u8),(.int .u8),(.int .u8),(.int .i64),(.int .u8),.str,.slc,(.int .i64),(.int .u8),(.int .u8),(.int .u8),(.int .i64),(.int .u8),.str,.slc,(.int .i64),(.int .i64)]]),(129,[.one (.int .i64),.one (.int .i64)])]
def jE.V(ka:Nat→Int→Int→Bool→Nat×Obj)(kb:Nat→Bs→OA→Nat→Nat→OA→Nat→Nat→OA→Nat→Nat→Nat×Obj)(kc:Nat→Int→Int→Nat×Obj)(nV:Int→Int→Int→Int→Int→Bs→OA→Nat→Nat→Int→Value)(nO:Int→Int→Int→Int→Int→Bs→OA→Nat→Nat→Int→Obj)(vi:Int→Value)(vs:Bs→Value)(vl:OA→Nat→Nat→Value)(vt:Bool→Value)(I:cc)(F:bZ)(Q:cd)  : Prop:=dk P 28 (#[vs (⟨#[100,111,110,101,32,63,32,98,105,100,32,58,32,98,105,100,32,43,32,49,112]⟩:Bs)]) I (·) F fun e1 I1 G1=>∃(s t u v w:Int) (x:Bs) (a:OA) (b c:Nat) (y z aa:Int) (ab:Bool),e1=.returned (.tuple #[nV s t u v w x a b c y,.agg #[vi z,vi aa,vt ab]])∧G1 fun F1=>∀ae:Nat,∀af:Nat,dk P 29 (#[vs (⟨#[115,116,114,97,116,101,103,121,32,115,32,123,32,114,101,103,32,110,32,105,110,116,32,61,32,48,59,32,115,108,111,116,32,111,59,32,115,116,97,116,101,32,97,32,123,32,119,104,101,110,32,104,97,115,32,98,105,100,32,100,111,32,115,117,98,109,105,116,32,98,117,121,32,111,102,32,50,113,32,97,116,32,98,105,100,32,43,32,49,112,32,108,105,109,105,116,44,32,104,97,108,116,59,32,119,104,101,110,32,110,111,119,32,62,32,53,116,32,100,111,32,115,101,116,32,110,32,61,32,110,32,43,32,49,44,32,99,97,110,99,101,108,32,111,44,32,99,97,110,99,101,108,32,111,59,32,125,32,115,116,97,116,101,32,98,32,123,125,32,125]⟩:Bs)]) I1 ((ae,nO s t u v w x a b c y)::(ka af z aa ab)::·) F1 fun e2 I2 G2=>∃(m:Bs) (d:OA) (e f:Nat) (g:OA) (h i:Nat) (j:OA) (k l:Nat) (n o:Int) (p:Bool),e2=.returned (.tuple #[.agg #[vs m,vl d e f,vl g h i,vl j k l],.agg #[vi n,vi o,vt p]])∧G2 fun F2=>∀ai:Nat,∀ac:Nat,cE P 12 #[nV s t u v w x a b c y] I2 ((ae,nO s t u v w x a b c y)::(ka af z aa ab)::(kb ai m d e f g h i j k l)::(ka ac n o p)::·) F2 vi fun r I3 F3=>cE P 12 (#[nV 0 0 0 0 0 (⟨#[]⟩:Bs) none 0 0 0]) I3 ((ae,nO s t u v w x a b c y)::(ka af z aa ab)::(kb ai m d e f g h i j k l)::(ka ac n o p)::·) F3 vi fun r1 I4 F4=>dk P 24 #[.agg #[vs m,vl d e f,vl g h i,vl j k l]] I4 ((ae,nO s t u v w x a b c y)::(ka af z aa ab)::(kb ai m d e f g h i j k l)::(ka ac n o p)::·) F4 fun e5 I5 G5=>∃(ag ah:Int) (ap:Value),e5=.returned (.tuple #[.agg #[vi ag,vi ah],ap])∧G5 fun F5=>∀ak:Nat,dk P 19 #[.agg #[vs m,vl d e f,vl g h i,vl j k l]] I5 ((ae,nO s t u v w x a b c y)::(ka af z aa ab)::(kb ai m d e f g h i j k l)::(ka ac n o p)::(kc ak ag ah)::·) F5 fun e6 I6 G6=>∃(al:OA) (aj aw:Nat) (aq:Value),e6=.returned (.tuple #[vl al aj aw,aq])∧G6 fun F6=>dk P 19 (#[.agg #[vs (⟨#[]⟩:Bs),vl none 0 0,vl none 0 0,vl none 0 0]]) I6 ((ae,nO s t u v w x a b c y)::(ka af z aa ab)::(kb ai m d e f g h i j k l)::(ka ac n o p)::(kc ak ag ah)::·) F6 fun e7 I7 G7=>∃(am:OA) (an ao:Nat) (ar:Value),e7=.returned (.tuple #[vl am an ao,ar])∧G7 fun F7=>(It (r==6) (It (r1==0) (∃q:Bool,cS P .eql 44 (.tmp 47) (.const (Value.nilIface)) ap Value.nilIface q∧(It q (∃q1:Bool,cS P .eql 57 (.tmp 51) (.tmp 52) (.agg #[vi ag,vi ah]) (.agg #[vi 9,vi 2]) q1∧(It q1 (∃q2:Bool,cS P .eql 44 (.tmp 56) (.const (Value.nilIface)) aq Value.nilIface q2∧(It q2 (It ((aj:Int)==2) ((0≤(1:Int)∧(1:Int)<(aj:Int))∧∃ad:Addr,al=some ad∧∃(au av:Int),Rd I7 ((ae,nO s t u v w x a b c y)::(ka af z aa ab)::(kb ai m d e f g h i j k l)::(ka ac n o p)::(kc ak ag ah)::F7) (ad.add (Int.toNat 1*2)) [vi au,vi av]∧∃q3:Bool,cS P .eql 57 (.tmp 67) (.tmp 68) (.agg #[vi au,vi av]) (.agg #[vi 0,vi 0]) q3∧(It q3 (∃q4:Bool,cS P .neq 44 (.tmp 72) (.const (Value.nilIface)) ar Value.nilIface q4∧Q (.returned (vt q4)) I7 F7) (Q (.returned (vt false)) I7 F7))) (Q (.returned (vt false)) I7 F7)) (Q (.returned (vt false)) I7 F7))) (Q (.returned (vt false)) I7 F7))) (Q (.returned (vt false)) I7 F7))) (Q (.returned (vt false)) I7 F7)) (Q (.returned (vt false)) I7 F7))
theorem jE.vc  {I:cc}{F:bZ}{Q:cd}  (h:jE.V (fun W a b c=>(W,Obj.cells #[.int .i64 a,.int .i64 b,.bool c] 68 (0,0))) (fun W a b c d e f g h i j=>(W,Obj.cells #[.string a,.slice b c d,.slice e f g,.slice h i j] 39 (0,0))) (fun W a b=>(W,Obj.cells #[.int .i64 a,.int .i64 b] 57 (0,0))) (fun k o t n f s a l c q=>.agg #[.int .u8 k,.int .u8 o,.int .u8 t,.int .i64 n,.int .u8 f,.string s,.slice a l c,.int .i64 q]) (fun k o t n f s a l c q=>.cells #[.int .u8 k,.int .u8 o,.int .u8 t,.int .i64 n,.int .u8 f,.string s,.slice a l c,.int .i64 q] 28 (0,0)) (.int .i64) .string .slice .bool I F Q):cf P 9 #[] I F Q :=
 tw (A:=(an [8001,8004,8008,8013,8017,8022,8029] [12,19,24,28,29] BE)) [12,19,24,28,29] func9 h
def gS.V(nO:Int→Int→Int→Int→Int→Bs→OA→Nat→Nat→Int→Obj)(vb vi:Int→Value)(d e f g h:Int)(i:Bs)(a:OA)(b c:Nat)(j:Int)(I:cc)(F:bZ)(Q:cd)  : Prop:=∀k:Nat,cE P 30 #[.agg #[vb d,vb e,vb f,vi g,vb h,.string i,.slice a b c,vi j],vi 0,vi 0] I ((k,nO d e f g h i a b c j)::·) F vi fun r I1 F1=>Q (.returned (.bool (decide (r>1048576)))) I1 (F1)
theorem gS.vc{g i j m p:Int}{r:Bs}{b:OA}{d e:Nat}{u:Int}{I:cc}{F:bZ}{Q:cd}  (h:gS.V (fun k o t n f s a l c q=>.cells #[.int .u8 k,.int .u8 o,.int .u8 t,.int .i64 n,.int .u8 f,.string s,.slice a l c,.int .i64 q] 28 (0,0)) (.int .u8) (.int .i64) g i j m p r b d e u I F Q):cf P 10 #[.agg #[.int .u8 g,.int .u8 i,.int .u8 j,.int .i64 m,.int .u8 p,.string r,.slice b d e,.int .i64 u]] I F Q :=
 tw (A:=(an [] [30] BE)) [30] func10 h
end Go.Lx
namespace Go.Vc
section
variable {P:Program} {f:FuncId} {args:Array Value} {v:Value}
theorem cf.El{I:cc}{F:bZ}{b:Nat}{o:Obj}(h:∀J,cc.le I J→J b=some o→cf P f args J F (Go.Lx.gE v F)):cf P f args I ((b,o)::F) (Go.Lx.gE v ((b,o)::F)):=fun w hw=>by
 have hb:=hw.off b o (List.mem_cons_self ..)
 obtain⟨hl,hs⟩:=hw.jl
 refine (h (I.put b o) hl (cc.iI I b o) w hs).mono fun e w' ⟨I',F',g1,g2,g3,g4⟩=>?_
 subst g4
 obtain⟨d1,d2⟩:=Sat.xd hb g1 g2
 exact⟨I'.del b,(b,o)::F',d1,d2,g3,rfl⟩
theorem cf.CQ:∀(A:bZ) {I:cc} {F:bZ} (h:∀J,cc.le I J→(∀x∈A,J x.1=some x.2)→cf P f args J F (Go.Lx.gE v F)),cf P f args I (A++F) (Go.Lx.gE v (A++F))
 | [],I,F,h=>h I (cc.le_refl I) fun x hx=>absurd hx (by simp)
 | (b,o)::A,I,F,h=>cf.El fun J hJ hb=>cf.CQ A fun K hK hA=>h K (cc.le_trans hJ hK) fun x hx=>by
   rcases List.mem_cons.1 hx with rfl | hx
   ·exact hK.at hb
   ·exact hA x hx
theorem cf.yi{F:bZ}{I:cc}(h:∀J,cc.le I J→(∀x∈F,J x.1=some x.2)→cf P f args J [] (Go.Lx.gE v [])):cf P f args I F (Go.Lx.gE v F):=by
 have:=cf.CQ (f:=f) (args:=args) (v:=v) F (F:=[]) h
 rwa [List.append_nil] at this
end
theorem Rd.yi{I J:cc}{G:bZ}{ad:Addr}{cs:List Value}(h:Rd I G ad cs)(hl:cc.le I J)(hs:∀x∈G,J x.1=some x.2):Rd J [] ad cs:=by
 obtain⟨h1,cells,e,fz,h2,h3⟩:=h
 exact⟨h1,cells,e,fz,.inl (h2.elim (fun h=>hl.at h) fun h=>hs _ h),h3⟩
theorem gg.yi{α:Type}{I J:cc}{G:bZ}{z:Nat}{f:α→List Value}{a:Option Addr}{n:Nat}{l:List α}(h:gg I G z f a n l)(hl:cc.le I J)(hs:∀x∈G,J x.1=some x.2):gg J [] z f a n l :=
 ⟨h.1,fun hne=>let ⟨ad,ha,hr⟩:=h.2 hne;⟨ad,ha,fun i x hx=>(hr i x hx).yi hl hs⟩⟩
end Go.Vc
namespace Go.Lx
open Go.Vc
theorem cy.yi{I J:cc}{G:bZ}{t:Nd}(h:cy I G t)(hl:cc.le I J)(hs:∀x∈G,J x.1=some x.2):cy J [] t:=by
 induction h with
 | mk h1 h2 ih=>exact .mk (h1.yi hl hs) ih
def DB(x:Int):List Value:=[.int .i64 x]
theorem sI(first:Int){a:Option Addr}{n c:Nat}{l:List Int}{I:cc}{F:bZ}(hS:gg I F 1 DB a n l)(hn:(n:Int)≤1000000000):cf P 42 #[.int .i64 first,.slice a n c] I F (gE (.int .i64 (hU first l)) F):=by
 refine gP.vc (fun m i k I' F'=>0≤i∧i≤n∧k=(n-i).toNat∧hU first l=hU m (l.drop i.toNat)∧F'=F) ?_
 unfold gP.V
 have hl:=hS.1
 refine⟨⟨_,by omega,by omega,rfl,rfl,rfl⟩,fun m i k I1 F1 hI ⟨g0,g1,gk,gm,gF⟩=>⟨fun hlt=>?_,fun hlt=>⟨?_,gF⟩⟩⟩
 ·have hlt:=of_decide_eq_true hlt
  subst gF
  obtain⟨ad,x,had,hx,hrd⟩:=(hS.mono hI fun _ h=>h).at g0 hlt
  refine⟨⟨g0,hlt⟩,ad,had,x,hrd,(n-(i+1)).toNat,by omega, ?_⟩
  rw[dW (n:=i+1) (by omega)]
  refine⟨by omega,by omega,rfl, ?_,rfl⟩
  have hd:l.drop i.toNat=x::l.drop (i.toNat+1):=by
   have hk:i.toNat<l.length:=by omega
   rw[List.drop_eq_getElem_cons hk]
   rw[List.getElem?_eq_getElem hk] at hx
   cases hx;rfl
  rw[gm,hd,show (i+1).toNat=i.toNat+1 by omega]
  show hU (max m x) _=_
  congr 1
  split<;>omega
 ·have hlt:=of_decide_eq_false hlt
  rw[gm,List.drop_eq_nil_of_le (by omega)];rfl
theorem fu(first x:Int){b t:Nat}{fz:Nat×Nat}{I:cc}{F:bZ}(hb:I b=some (.cells #[.int .i64 x] t fz)):cf P 42 #[.int .i64 first,.slice (some ⟨b,0,none⟩) 1 1] I F (gE (.int .i64 (max first x)) F):=by
 have h:gg I F 1 DB (some ⟨b,0,none⟩) 1 [x]:=(Sl.jY (f:=DB) (z:=1) (l:=[x]) (fun _=>rfl) hb (fun k hk=>by
  have:k<1:=hk
  have:k=0:=by omega
  subst this;rfl)).yI F
 exact sI first h (by omega)
theorem Af{l:List Nd}{i:Nat}{x:Nd}(h:l[i]? = some x):eg ((l.drop i).map fun y=>y.px.wt)=x.px.wt+eg ((l.drop (i+1)).map fun y=>y.px.wt):=by
 obtain⟨hk,hx⟩:=List.getElem?_eq_some_iff.1 h
 rw[List.drop_eq_getElem_cons hk,List.map_cons,eg,hx]
theorem yX:∀{l:List Nd},(∀k∈l,k.px.formed=true)→0≤eg (l.map fun y=>y.px.wt)∧eg (l.map fun y=>y.px.wt)≤2*Px.cR (l.map Nd.px)
 | [],_=>⟨Int.le_refl 0,Int.le_refl 0⟩
 | x::r,h=>by
   have h1:=Px.gB x.px (h x (.head _))
   have h2:=yX fun k hk=>h k (.tail _ hk)
   rw[List.map_cons,List.map_cons,eg,Px.cR]
   omega
theorem Cx(t:Nd):t.px.wt=Cw t.kind (t.kids.map fun y=>y.px.wt):=by rw[Px.tx,Nd.cT,Nd.dX,List.map_map];rfl
theorem uz:∀(t:Nd),t.px.size≤4194304→t.px.formed=true→∀(I:cc) (F:bZ),cy I [] t→cf P 32 #[t.v] I F (gE (.int .i64 t.px.wt) F):=by
 refine Nd.ind fun t ih hs hf I F ht=>?_
 have hln:=ow hs
 have hr:=Px.gB t.px hf
 have h1:t.px.eW=true:=by rw[Px.dK,Bool.and_eq_true] at hf;exact hf.1
 have hl:(t.kids.length:Nat)=Px.arity t.px:=by
  unfold Px.eW at h1
  rw[Bool.and_eq_true,decide_eq_true_eq,Nd.dX,List.length_map] at h1
  exact h1.2
 have hkf:∀k∈t.kids,k.px.formed=true:=fun k hk=>Px.kA hf _ (by rw[Nd.dX];exact List.mem_map_of_mem hk)
 have hat:∀{J:cc} {G:bZ} {i:Int},cc.le I J→0≤i→i<t.kids.length→∃ad x,t.a=some ad∧t.kids[i.toNat]? = some x∧Rd J G (ad.add (Int.toNat i*8)) x.enc ∧
   (1≤x.px.wt∧x.px.wt+1≤2*x.px.size)∧x.px.size≤4194304∧∀(K:cc) (H:bZ),cc.le J K→cf P 32 #[x.v] K H (gE (.int .i64 x.px.wt) H):=by
  intro J G i hJ g0 hlt
  obtain⟨ad,x,had,hx,hrd,hxo,hxm⟩:=(ht.mono hJ fun _ h=>h).kids.at g0 hlt
  exact⟨ad,x,had,hx,hrd.sub (cc.le_refl J) (fun _ h=>absurd h (by simp)),Px.gB _ (hkf x hxm),lD hxm hs,fun K H hK=>ih x hxm (lD hxm hs) (hkf x hxm) K H (hxo.mono hK fun _ h=>h)⟩
 have hwt:=Cx t
 refine jC.vc (fun _ sum i m I0 F0 I' F'=>0≤i∧i≤t.kids.length∧m=(t.kids.length-i).toNat∧1≤sum∧t.px.wt=sum+eg ((t.kids.drop i.toNat).map fun y=>y.px.wt)∧F'=F) ?_
 unfold jC.V
 intro b_n
 refine⟨fun h7=>?_,fun h7=>⟨fun h9=>?_,fun h9=>⟨?_,fun sum i m I1 F1 hI ⟨g0,g1,gm,g2,gs,gF⟩=>⟨fun hlt=>?_,fun hlt=>⟨?_,gF⟩⟩⟩⟩⟩
 ·have h7:t.kind=7:=by simpa using h7
  have h3:t.kids.length=3:=by rw[hl];unfold Px.arity;rw[Nd.cT,h7];rfl
  obtain⟨ad0,x0,ha0,hx0,hr0,hw0,hs0,ht0⟩:=hat (i:=0) (G:=(b_n,.cells t.enc.toArray 28 (0,0))::F) (cc.le_refl I) (by omega) (by omega)
  obtain⟨ad1,x1,ha1,hx1,hr1,hw1,hs1,ht1⟩:=hat (i:=1) (G:=[]) (cc.le_refl I) (by omega) (by omega)
  obtain⟨ad2,x2,ha2,hx2,hr2,hw2,hs2,ht2⟩:=hat (i:=2) (G:=[]) (cc.le_refl I) (by omega) (by omega)
  refine⟨⟨by omega,by omega⟩,ad0,ha0,⟨by omega,by omega⟩,ad1,ha1,_,_,_,_,_,_,_,_,_,_,hr1,⟨by omega,by omega⟩,ad2,ha2,_,_,_,_,_,_,_,_,_,_,hr2,_,_,_,_,_,_,_,_,_,_,hr0, ?_⟩
  refine cf.ret (ht0 I _ (cc.le_refl I)) fun I1 l1=>⟨_,rfl,F,.refl _,cf.ret (ht1 I1 _ l1) fun I2 l2=>⟨_,rfl,F,.refl _,cf.ret (ht2 I2 _ (cc.le_trans l1 l2)) fun I3 l3=>⟨_,rfl,F,.refl _,fun b I4 l4 hb =>
   cf.ret (fu x1.px.wt x2.px.wt hb) fun I5 l5=>⟨_,rfl,F,.refl _, ?_,rfl⟩⟩⟩⟩
  rw[dW (n:=x0.px.wt+max x1.px.wt x2.px.wt) (by omega),dW (by omega),hwt]
  unfold Cw
  rw[if_pos h7]
  match hk:t.kids,h3 with
  | [a,b,c],_ =>
    rw[hk] at hx0 hx1 hx2
    cases hx0;cases hx1;cases hx2
    rfl
 ·have h7:t.kind≠7:=by simpa using h7
  have h9:t.kind=9:=by simpa using h9
  have h3:t.kids.length=1:=by rw[hl];unfold Px.arity;rw[Nd.cT,h9];rfl
  obtain⟨ad0,x0,ha0,hx0,hr0,hw0,hs0,ht0⟩:=hat (i:=0) (G:=(b_n,.cells t.enc.toArray 28 (0,0))::F) (cc.le_refl I) (by omega) (by omega)
  refine⟨⟨by omega,by omega⟩,ad0,ha0,_,_,_,_,_,_,_,_,_,_,hr0,cf.ret (ht0 I _ (cc.le_refl I)) fun I1 l1=>⟨_,rfl,F,.refl _, ?_,rfl⟩⟩
  rw[hwt]
  unfold Cw
  rw[if_neg h7,if_pos h9]
  match hk:t.kids,h3 with
  | [a],_ =>
    rw[hk] at hx0
    cases hx0
    show _=Ending.returned (Value.int .i64 (0+(x0.px.wt+0)))
    rw[Int.add_zero,Int.zero_add]
 ·have h7:t.kind≠7:=by simpa using h7
  have h9:t.kind≠9:=by simpa using h9
  refine⟨_,by omega,by omega,rfl,by omega, ?_,rfl⟩
  rw[hwt]
  unfold Cw
  rw[if_neg h7,if_neg h9];rfl
 ·have hlt:=of_decide_eq_true hlt
  subst gF
  obtain⟨ad0,x0,ha0,hx0,hr0,hw0,hs0,ht0⟩:=hat (G:=(b_n,.cells t.enc.toArray 28 (0,0))::F1) hI g0 hlt
  have hd:=yX (l:=t.kids.drop (i.toNat+1)) fun k hk=>hkf k (List.mem_of_mem_drop hk)
  rw[Af hx0] at gs
  refine⟨⟨g0,hlt⟩,ad0,ha0,_,_,_,_,_,_,_,_,_,_,hr0,fun b_k=>cf.ret (ht0 I1 _ (cc.le_refl I1)) fun I2 l2=>⟨_,rfl,F1,.refl _,(t.kids.length-(i+1)).toNat,by omega, ?_⟩⟩
  rw[dW (n:=i+1) (by omega),dW (n:=sum+x0.px.wt) (by omega)]
  refine⟨by omega,by omega,rfl,by omega, ?_,rfl⟩
  rw[gs,show (i+1).toNat=i.toNat+1 by omega,Int.add_assoc]
 ·have hlt:=of_decide_eq_false hlt
  rw[gs,List.drop_eq_nil_of_le (by omega)]
  show _=Ending.returned (Value.int .i64 (sum+0))
  rw[Int.add_zero]
theorem lT(t:Nd)(hs:t.px.size≤4194304)(hf:t.px.formed=true)(I:cc)(F:bZ)(ht:cy I F t):cf P 32 #[t.v] I F (gE (.int .i64 t.px.wt) F) :=
 cf.yi fun J hJ hF=>uz t hs hf J [] (ht.yi hJ hF)
theorem fV:∀{l:List Int},(∀x∈l,0≤x)→0≤eg l
 | [],_=>Int.le_refl 0
 | x::r,h=>by
   have h1:=h x (.head _)
   have h2:=fV fun y hy=>h y (.tail _ hy)
   rw[eg];omega
theorem mB{B:Int}:∀{l:List Int},(∀x∈l,x≤B)→eg l≤B*l.length
 | [],_=>by rw[eg];simp
 | x::r,h=>by
   have h1:=h x (.head _)
   have h2:=mB fun y hy=>h y (.tail _ hy)
   rw[eg,List.length_cons,Int.natCast_add,Int.mul_add];omega
structure Px.Part (x:Px):Prop where
 ok:x.kind=0∨x.formed=true
 size:x.size≤1048576
theorem Px.Part.range{x:Px}(h:x.Part):0≤gC x∧gC x≤2097152:=by
 unfold gC
 split
 ·omega
 ·rename_i h0
  have:=Px.gB x (h.ok.resolve_left h0)
  have:=h.size
  omega
def dS.Sound(d:dS):Prop:=∀x∈d.oz,x.Part
theorem dS.Sound.range{d:dS}(h:d.Sound):0≤d.wt∧d.wt≤8388608:=by
 have h1:=(h d.side (.head _)).range
 have h2:=(h d.qty (.tail _ (.head _))).range
 have h3:=(h d.price (.tail _ (.tail _ (.head _)))).range
 have h4:=(h d.value (.tail _ (.tail _ (.tail _ (.head _))))).range
 unfold dS.wt;omega
structure cM.Sound (r:cM):Prop where
 when:r.when.formed=true
 size:r.when.size≤1048576
 len:r.dos.length≤8
 dos:∀d∈r.dos,d.Sound
theorem cM.Sound.body{r:cM}(h:r.Sound):0≤r.body∧r.body≤67108864:=by
 have h1:=fV (l:=r.dos.map dS.wt) fun x hx=>by obtain⟨d,hd,rfl⟩:=List.mem_map.1 hx;exact (h.dos d hd).range.1
 have h2:=mB (B:=8388608) (l:=r.dos.map dS.wt) fun x hx=>by obtain⟨d,hd,rfl⟩:=List.mem_map.1 hx;exact (h.dos d hd).range.2
 rw[List.length_map] at h2
 have h3:=h.len
 unfold cM.body;omega
theorem dS.pg(d:dS):0≤d.act∧d.act≤1:=by unfold dS.act;split<;>omega
theorem cM.sg(r:cM):0≤r.gD∧r.gD≤r.dos.length:=by
 have h1:=fV (l:=r.dos.map dS.act) fun x hx=>by obtain⟨d,hd,rfl⟩:=List.mem_map.1 hx;exact d.pg.1
 have h2:=mB (B:=1) (l:=r.dos.map dS.act) fun x hx=>by obtain⟨d,hd,rfl⟩:=List.mem_map.1 hx;exact d.pg.2
 rw[List.length_map] at h2
 unfold cM.gD;omega
structure cD.Sound (x:cD):Prop where
 len:x.rules.length≤12
 rules:∀r∈x.rules,r.Sound
structure cw.Sound (s:cw):Prop where
 some:0<s.states.length
 len:s.states.length≤12
 states:∀x∈s.states,x.Sound
theorem kX{b:Bool}{x:Px}(h:db b x=0)(hs:x.size≤1048576):x.Part:=by
 refine⟨?_,hs⟩
 unfold db at h
 split at h
 ·exact .inr (jO h)
 ·have:=nD (by decide) h
  unfold Px.vL at this
  simp only[Bool.and_eq_true,beq_iff_eq] at this
  exact .inl this.1.1
theorem cw.sound{s:cw}(h:s.check=0)(hl:s.nC):s.Sound:=by
 unfold cw.check at h
 obtain⟨_,h⟩:=cu h
 obtain⟨_,h⟩:=cu h
 obtain⟨_,h⟩:=cu h
 obtain⟨_,h⟩:=cu h
 obtain⟨_,h⟩:=cu h
 obtain⟨h0,h⟩:=cu h
 obtain⟨h12,h⟩:=cu h
 refine⟨of_decide_eq_true (nD (by decide) h0),of_decide_eq_true (nD (by decide) h12),fun x hx=>?_⟩
 have h1:=g9 h x hx
 have hxl:=(hl.state x hx).2
 unfold cD.check at h1
 obtain⟨_,h1⟩:=cu h1
 obtain⟨h2,h1⟩:=cu h1
 refine⟨of_decide_eq_true (nD (by decide) h2),fun r hr=>?_⟩
 have h3:=g9 h1 r hr
 obtain⟨l1,l2,l3⟩:=hxl r hr
 unfold cM.check at h3
 obtain⟨hw,h3⟩:=cu h3
 obtain⟨_,h3⟩:=cu h3
 obtain⟨h8,h3⟩:=cu h3
 refine⟨jO hw,l1,of_decide_eq_true (nD (by decide) h8),fun d hd=>?_⟩
 have h4:=g9 h3 d hd
 have l4:=l3 d hd
 unfold dS.check at h4
 obtain⟨_,h4⟩:=cu h4
 obtain⟨_,h4⟩:=cu h4
 obtain⟨_,h4⟩:=cu h4
 obtain⟨p1,h4⟩:=cu h4
 obtain⟨p2,h4⟩:=cu h4
 obtain⟨p3,p4⟩:=cu h4
 intro y hy
 have hy':=l4 y hy
 simp only[dS.oz,List.mem_cons,List.not_mem_nil,or_false] at hy
 rcases hy with rfl | rfl | rfl | rfl
 ·exact kX p1 hy'
 ·exact kX p2 hy'
 ·exact kX p3 hy'
 ·exact kX p4 hy'
theorem fW(t:Nd)(hs:t.px.size≤4194304)(I:cc)(F:bZ)(ht:cy I F t):cf P 12 #[t.v] I F (gE (.int .i64 (if t.px.formed then t.px.wt else 0)) F):=by
 refine mw.vc ?_
 unfold mw.V
 intro b_n
 refine cf.ret (p5 t hs I _ (ht.cons (x:=(b_n,Obj.cells #[.int .u8 t.kind,.int .u8 t.oper,.int .u8 t.cq,.int .i64 t.n,.int .u8 t.field,.string t.name,.slice t.a t.kids.length t.c,.int .i64 t.pos] 28 (0,0))))) fun I1 l1=>⟨_,rfl,F,.refl _,fun h=>?_,fun h=>?_⟩
 ·have h:t.px.dv=120:=by simpa using h
  have hf:t.px.formed=false:=by
   cases hf:t.px.formed with
   | false=>rfl
   | true=>unfold Px.dv at h;rw[hf,if_pos rfl] at h;split at h<;>cases h
  rw[hf];exact⟨rfl,rfl⟩
 ·have h:t.px.dv≠120:=by simpa using h
  have hf:t.px.formed=true:=by
   cases hf:t.px.formed with
   | true=>rfl
   | false=>exact absurd (by unfold Px.dv;rw[hf];rfl) h
  refine cf.ret (lT t hs hf I1 _ ((ht.mono l1 fun _ h=>h).cons (x:=(b_n,Obj.cells #[.int .u8 t.kind,.int .u8 t.oper,.int .u8 t.cq,.int .i64 t.n,.int .u8 t.field,.string t.name,.slice t.a t.kids.length t.c,.int .i64 t.pos] 28 (0,0))))) fun I2 l2=>⟨_,rfl,F,.refl _, ?_⟩
  rw[hf];exact⟨rfl,rfl⟩
theorem wA:cY P 41:=vm [41] (by kernel_rfl) _ (by decide)
theorem wB(t:Nd)(hs:t.px.size≤4194304)(hf:t.px.formed=true)(b:Nat)(c:Int)(h0:0≤c)(h1:c≤1000000000)(I:cc)(F:bZ)(ht:cy I F t) :
  cf P 41 #[t.v,.pointer (some ⟨b,0,none⟩)] I ((b,.cells #[.int .i64 c] 3 (0,0))::F) fun e I' G=>e=.returned (.tuple #[])∧G=(b,.cells #[.int .i64 (c+t.px.wt)] 3 (0,0))::F:=by
 refine gQ.vc ?_
 unfold gQ.V
 intro b_n
 have hr:=Px.gB t.px hf
 refine⟨t.px.wt,(lT t hs hf I _ (ht.mono (cc.le_refl I) fun y hy=>.tail _ (.tail _ hy))).mono fun e I1 G l1 ⟨he,hG⟩=>⟨he,by rw[hG]⟩,rfl, ?_⟩
 rw[dW (by omega)]
def ig(d:eI):List Nd:=[d.side,d.qty,d.price,d.value]
def yj(l:List Nd):Int:=eg (l.map fun y=>gC y.px)
theorem BF{d:eI}{b t:Nat}{fz:Nat×Nat}{I:cc}(hb:I b=some (.cells #[.int .u8 d.side.kind,.int .u8 d.side.oper,.int .u8 d.side.cq,.int .i64 d.side.n,.int .u8 d.side.field,.string d.side.name,.slice d.side.a d.side.kids.length d.side.c,.int .i64 d.side.pos,.int .u8 d.qty.kind,.int .u8 d.qty.oper,.int .u8 d.qty.cq,.int .i64 d.qty.n,.int .u8 d.qty.field,.string d.qty.name,.slice d.qty.a d.qty.kids.length d.qty.c,.int .i64 d.qty.pos,.int .u8 d.price.kind,.int .u8 d.price.oper,.int .u8 d.price.cq,.int .i64 d.price.n,.int .u8 d.price.field,.string d.price.name,.slice d.price.a d.price.kids.length d.price.c,.int .i64 d.price.pos,.int .u8 d.value.kind,.int .u8 d.value.oper,.int .u8 d.value.cq,.int .i64 d.value.n,.int .u8 d.value.field,.string d.value.name,.slice d.value.a d.value.kids.length d.value.c,.int .i64 d.value.pos] t fz))(F:bZ):gg I F 8 Nd.enc (some ⟨b,0,none⟩) 4 (ig d) :=
 (Sl.jY (f:=Nd.enc) (z:=8) (l:=ig d) (fun _=>rfl) hb (fun k hk=>by
   show (List.toArray ((ig d).flatMap Nd.enc))[k]? = _
   rw[List.getElem?_toArray])).yI F
theorem BG{d:eI}{I:cc}{F:bZ}(h:d.Ok I F):∀x∈ig d,cy I F x:=by
 intro x hx
 simp only[ig,List.mem_cons,List.not_mem_nil,or_false] at hx
 rcases hx with rfl | rfl | rfl | rfl
 ·exact h.1
 ·exact h.2.1
 ·exact h.2.2.1
 ·exact h.2.2.2
theorem wC{d:eI}(h:d.p.Sound):∀x∈ig d,x.px.Part:=fun x hx=>h x.px (by
 have:(ig d).map Nd.px=d.p.oz:=rfl
 rw[←this];exact List.mem_map_of_mem hx)
theorem Ag{l:List Nd}{i:Nat}{x:Nd}(h:l[i]? = some x):yj (l.drop i)=gC x.px+yj (l.drop (i+1)):=by
 obtain⟨hk,hx⟩:=List.getElem?_eq_some_iff.1 h
 unfold yj
 rw[List.drop_eq_getElem_cons hk,List.map_cons,eg,hx]
theorem wE{l:List Nd}(h:∀x∈l,x.px.Part):0≤yj l:=fV fun x hx=>by
 obtain⟨y,hy,rfl⟩:=List.mem_map.1 hx
 exact (h y hy).range.1
theorem Cy(d:eI):yj (ig d)=d.p.wt:=by
 show gC d.side.px+(gC d.qty.px+(gC d.price.px+(gC d.value.px+0)))=gC d.side.px+gC d.qty.px+gC d.price.px+gC d.value.px
 omega
theorem tA(f:dS→Int){l:List eI}{i:Nat}{x:eI}(h:l[i]? = some x):eg ((l.drop i).map fun d=>f d.p)=f x.p+eg ((l.drop (i+1)).map fun d=>f d.p):=by
 obtain⟨hk,hx⟩:=List.getElem?_eq_some_iff.1 h
 rw[List.drop_eq_getElem_cons hk,List.map_cons,eg,hx]
theorem wF{r:cz}(h:r.p.Sound)(i:Nat):0≤eg ((r.dos.drop i).map fun d=>d.p.wt):=fV fun x hx=>by
 obtain⟨y,hy,rfl⟩:=List.mem_map.1 hx
 exact ((h.dos y.p (List.mem_map_of_mem (List.mem_of_mem_drop hy))).range).1
theorem Cz(r:cz):r.p.body=eg (r.dos.map fun d=>d.p.wt):=by
 show eg ((r.dos.map eI.p).map dS.wt)=_
 rw[List.map_map];rfl
theorem CA(r:cz):r.p.gD=eg (r.dos.map fun d=>d.p.act):=by
 show eg ((r.dos.map eI.p).map dS.act)=_
 rw[List.map_map];rfl
set_option maxHeartbeats 1000000 in
theorem Ah(r:cz){I:cc}{F:bZ}(hr:r.Ok I F)(hs:r.p.Sound)(b:Nat)(v:Int)(h0:0≤v)(h1:v≤100000000) :
  cf P 40 #[r.v,.func (.func 41) #[] #[.pointer (some ⟨b,0,none⟩)]] I ((b,.cells #[.int .i64 v] 3 (0,0))::F) fun e I' G=>e=.returned (.tuple #[])∧G=(b,.cells #[.int .i64 (v+r.p.body)] 3 (0,0))::F:=by
 have hbd:=hs.body
 have hlen:=hs.len
 have hlen:r.dos.length≤8:=by simpa[cz.p] using hlen
 refine my.vc
  (fun x m I0 F0 I' F'=>0≤x∧x≤r.dos.length∧m=(r.dos.length-x).toNat∧∃u,F'=(b,.cells #[.int .i64 u] 3 (0,0))::F∧0≤u∧u+eg ((r.dos.drop x.toNat).map fun d=>d.p.wt)=v+r.p.body)
  (fun x k m I0 F0 I' F'=>∃d,r.dos[x.toNat]? = some d∧0≤k∧k≤4∧m=(4-k).toNat∧∃u,F'=(b,.cells #[.int .i64 u] 3 (0,0))::F∧0≤u∧u+yj ((ig d).drop k.toNat)+eg ((r.dos.drop (x.toNat+1)).map fun d=>d.p.wt)=v+r.p.body) ?_
 unfold my.V
 intro b_r
 refine⟨⟨_,by omega,by omega,rfl,v,rfl,h0, ?_⟩,fun x m I1 F1 l1 ⟨g0,g1,gm,u,gF,gu,gs⟩=>⟨fun hlt=>?_,fun hlt=>?_⟩⟩
 ·rw[Cz];rfl
 ·have hlt:=of_decide_eq_true hlt
  have hr1:r.Ok I1 ((b_r,Obj.cells #[.int .u8 r.when.kind,.int .u8 r.when.oper,.int .u8 r.when.cq,.int .i64 r.when.n,.int .u8 r.when.field,.string r.when.name,.slice r.when.a r.when.kids.length r.when.c,.int .i64 r.when.pos,.slice r.a r.dos.length r.c,.int .i64 r.pos] 84 (0,0))::F1):=hr.mono l1 fun y hy=>by rw[gF];exact .tail _ (.tail _ hy)
  obtain⟨ad,d,had,hd,hrd,hdm⟩:=gg.sG hr1.2.1 g0 hlt
  refine⟨⟨g0,hlt⟩,ad,had,_,_,_,_,_,_,_,_,_,_,_,_,_,_,_,_,_,_,_,_,_,_,_,_,_,_,_,_,_,_,_,_,_,_,_,_,_,_,_,_,_,_,_,_,hrd,fun b_d b2 I2 l2 hb2=>⟨⟨_,d,hd,by omega,by omega,rfl,u,gF,gu, ?_⟩,fun k m3 I3 F3 l3 ⟨d',hd',k0,k4,km,u',kF,ku,ks⟩=>⟨fun hk=>?_,fun hk=>?_⟩⟩⟩
  ·rw[←gs,tA dS.wt hd]
   show u+yj (ig d)+_=_
   rw[Cy,Int.add_assoc]
  ·obtain rfl:d=d':=by rw[hd] at hd';exact Option.some.inj hd'
   have hk:=of_decide_eq_true hk
   have hso:=wC (hs.dos d.p (List.mem_map_of_mem hdm))
   obtain⟨ad1,x1,had1,hx1,hrd1,hxm⟩:=gg.sG (BF (l3.at hb2) ((b_r,Obj.cells #[.int .u8 r.when.kind,.int .u8 r.when.oper,.int .u8 r.when.cq,.int .i64 r.when.n,.int .u8 r.when.field,.string r.when.name,.slice r.when.a r.when.kids.length r.when.c,.int .i64 r.when.pos,.slice r.a r.dos.length r.c,.int .i64 r.pos] 84 (0,0))::(b_d,Obj.cells #[.int .u8 d.kind,.int .u8 d.order,.string d.name,.int .u8 d.side.kind,.int .u8 d.side.oper,.int .u8 d.side.cq,.int .i64 d.side.n,.int .u8 d.side.field,.string d.side.name,.slice d.side.a d.side.kids.length d.side.c,.int .i64 d.side.pos,.int .u8 d.qty.kind,.int .u8 d.qty.oper,.int .u8 d.qty.cq,.int .i64 d.qty.n,.int .u8 d.qty.field,.string d.qty.name,.slice d.qty.a d.qty.kids.length d.qty.c,.int .i64 d.qty.pos,.int .u8 d.price.kind,.int .u8 d.price.oper,.int .u8 d.price.cq,.int .i64 d.price.n,.int .u8 d.price.field,.string d.price.name,.slice d.price.a d.price.kids.length d.price.c,.int .i64 d.price.pos,.int .u8 d.value.kind,.int .u8 d.value.oper,.int .u8 d.value.cq,.int .i64 d.value.n,.int .u8 d.value.field,.string d.value.name,.slice d.value.a d.value.kids.length d.value.c,.int .i64 d.value.pos,.int .i64 d.pos] 99 (0,0))::F3)) k0 hk
   have hp:=hso x1 hxm
   have hpr:=hp.range
   have n1:=wE (l:=(ig d).drop (k.toNat+1)) fun y hy=>hso y (List.mem_of_mem_drop hy)
   have n2:=wF hs (x.toNat+1)
   rw[Ag hx1] at ks
   refine⟨⟨k0,hk⟩,ad1,had1,_,_,_,_,_,_,_,_,_,_,hrd1,fun b_n=>⟨fun hn=>?_,fun hn=>⟨(4-(k+1)).toNat,by omega,d,hd, ?_⟩⟩⟩
   ·have hn:x1.px.kind≠0:=by rw[Nd.cT];simpa using hn
    have hw:gC x1.px=x1.px.wt:=if_neg hn
    subst kF
    have hok:cy I3 ((b_r,Obj.cells #[.int .u8 r.when.kind,.int .u8 r.when.oper,.int .u8 r.when.cq,.int .i64 r.when.n,.int .u8 r.when.field,.string r.when.name,.slice r.when.a r.when.kids.length r.when.c,.int .i64 r.when.pos,.slice r.a r.dos.length r.c,.int .i64 r.pos] 84 (0,0))::(b_d,Obj.cells #[.int .u8 d.kind,.int .u8 d.order,.string d.name,.int .u8 d.side.kind,.int .u8 d.side.oper,.int .u8 d.side.cq,.int .i64 d.side.n,.int .u8 d.side.field,.string d.side.name,.slice d.side.a d.side.kids.length d.side.c,.int .i64 d.side.pos,.int .u8 d.qty.kind,.int .u8 d.qty.oper,.int .u8 d.qty.cq,.int .i64 d.qty.n,.int .u8 d.qty.field,.string d.qty.name,.slice d.qty.a d.qty.kids.length d.qty.c,.int .i64 d.qty.pos,.int .u8 d.price.kind,.int .u8 d.price.oper,.int .u8 d.price.cq,.int .i64 d.price.n,.int .u8 d.price.field,.string d.price.name,.slice d.price.a d.price.kids.length d.price.c,.int .i64 d.price.pos,.int .u8 d.value.kind,.int .u8 d.value.oper,.int .u8 d.value.cq,.int .i64 d.value.n,.int .u8 d.value.field,.string d.value.name,.slice d.value.a d.value.kids.length d.value.c,.int .i64 d.value.pos,.int .i64 d.pos] 99 (0,0))::(b_n,Obj.cells #[.int .u8 x1.kind,.int .u8 x1.oper,.int .u8 x1.cq,.int .i64 x1.n,.int .u8 x1.field,.string x1.name,.slice x1.a x1.kids.length x1.c,.int .i64 x1.pos] 28 (0,0))::F) x1:=(BG (hr.2.2 d hdm) x1 hxm).mono (cc.le_trans (cc.le_trans l1 l2) l3) fun y hy=>.tail _ (.tail _ (.tail _ hy))
    have hsz:=hp.size
    refine oK.fn wA (by simp) (((wB x1 (by omega) (hp.ok.resolve_left hn) b u' ku (by omega) I3 _ hok).perm ?_).mono fun e I4 G l4 ⟨he,hG⟩=>⟨he,(b,.cells #[.int .i64 (u'+x1.px.wt)] 3 (0,0))::F, ?_,(4-(k+1)).toNat,by omega,d,hd, ?_⟩)
    ·exact (od fun z=>by simp only[rk,oc,tU];omega)
    ·rw[hG];exact (od fun z=>by simp only[rk,oc,tU];omega)
    ·rw[dW (n:=k+1) (by omega)]
     refine⟨by omega,by omega,rfl,u'+x1.px.wt,rfl,by omega, ?_⟩
     rw[show (k+1).toNat=k.toNat+1 by omega,←ks,hw];omega
   ·have hn:x1.px.kind=0:=by rw[Nd.cT];simpa using hn
    have hw:gC x1.px=0:=if_pos hn
    rw[dW (n:=k+1) (by omega)]
    refine⟨by omega,by omega,rfl,u',kF,ku, ?_⟩
    rw[show (k+1).toNat=k.toNat+1 by omega,←ks,hw];omega
  ·obtain rfl:d=d':=by rw[hd] at hd';exact Option.some.inj hd'
   have hk:=of_decide_eq_false hk
   refine⟨(r.dos.length-(x+1)).toNat,by omega, ?_⟩
   rw[dW (n:=x+1) (by omega)]
   refine⟨by omega,by omega,rfl,u',kF,ku, ?_⟩
   rw[show (x+1).toNat=x.toNat+1 by omega,←ks,List.drop_eq_nil_of_le (show (ig d).length≤k.toNat by show 4≤_;omega)]
   show _=u'+0+_
   omega
 ·have hlt:=of_decide_eq_false hlt
  rw[List.drop_eq_nil_of_le (by omega)] at gs
  have gs:u+0=v+r.p.body:=gs
  refine⟨rfl, ?_⟩
  rw[gF,←gs,Int.add_zero]
theorem wG(r:cz){I:cc}{F:bZ}(hr:r.Ok I F)(hlen:r.dos.length≤1048576):cf P 43 #[r.v] I F (gE (.int .i64 r.p.gD) F):=by
 refine mz.vc (fun u x m I' F'=>0≤x∧x≤r.dos.length∧m=(r.dos.length-x).toNat∧F'=F∧0≤u∧u≤x∧u+eg ((r.dos.drop x.toNat).map fun d=>d.p.act)=r.p.gD) ?_
 unfold mz.V
 intro b_r
 refine⟨⟨_,by omega,by omega,rfl,rfl,by omega,by omega, ?_⟩,fun u x m I1 F1 l1 ⟨g0,g1,gm,gF,u0,u1,gs⟩=>⟨fun hlt=>?_,fun hlt=>⟨?_,gF⟩⟩⟩
 ·rw[CA,Int.zero_add];rfl
 ·have hlt:=of_decide_eq_true hlt
  subst gF
  obtain⟨ad,d,had,hd,hrd,hdm⟩:=gg.sG ((hr.mono l1 fun _ h=>h).cons (x:=(b_r,Obj.cells #[.int .u8 r.when.kind,.int .u8 r.when.oper,.int .u8 r.when.cq,.int .i64 r.when.n,.int .u8 r.when.field,.string r.when.name,.slice r.when.a r.when.kids.length r.when.c,.int .i64 r.when.pos,.slice r.a r.dos.length r.c,.int .i64 r.pos] 84 (0,0)))).2.1 g0 hlt
  rw[tA dS.act hd] at gs
  have key:∀w,w=u+d.p.act→∃m2:Nat,m2<m∧(0≤IntKind.wrap .i64 (x+1)∧IntKind.wrap .i64 (x+1)≤r.dos.length∧m2=(r.dos.length-IntKind.wrap .i64 (x+1)).toNat∧F1=F1∧0≤w∧w≤IntKind.wrap .i64 (x+1) ∧
    w+eg ((r.dos.drop (IntKind.wrap .i64 (x+1)).toNat).map fun d=>d.p.act)=r.p.gD):=by
   intro w hw
   have:=d.p.pg
   rw[dW (n:=x+1) (by omega)]
   refine⟨(r.dos.length-(x+1)).toNat,by omega,by omega,by omega,rfl,rfl,by omega,by omega, ?_⟩
   rw[show (x+1).toNat=x.toNat+1 by omega,←gs];omega
  have hk:d.p.kind=d.kind:=rfl
  have hw:IntKind.wrap .i64 (u+1)=u+1:=dW (by omega)
  refine⟨⟨g0,hlt⟩,ad,had,_,_,_,_,_,_,_,_,_,_,_,_,_,_,_,_,_,_,_,_,_,_,_,_,_,_,_,_,_,_,_,_,_,_,_,_,_,_,_,_,_,_,_,_,hrd,fun b_d=>⟨fun h=>?_,fun h=>⟨fun h2=>?_,fun h2=>⟨fun h3=>?_,fun h3=>?_⟩⟩⟩⟩
  ·rw[hw];exact key _ (by unfold dS.act;rw[hk,if_pos (by simp at h;exact .inl h)])
  ·rw[hw];exact key _ (by unfold dS.act;rw[hk,if_pos (by simp at h2;exact .inr (.inl h2))])
  ·rw[hw];exact key _ (by unfold dS.act;rw[hk,if_pos (by simp at h3;exact .inr (.inr h3))])
  ·refine key _ ?_
   simp at h h2 h3
   unfold dS.act;rw[hk,if_neg (by omega),Int.add_zero]
 ·have hlt:=of_decide_eq_false hlt
  rw[List.drop_eq_nil_of_le (by omega)] at gs
  have gs:u+0=r.p.gD:=gs
  rw[←gs,Int.add_zero]
end Go.Lx
namespace Go.Vc
theorem cc.BH{I:cc}{b:Nat}{o:Obj}(h:I b=none):cc.le I (I.put b o):=⟨fun c x hc=>by
 have hne:c≠b:=fun e=>by rw[e,h] at hc;cases hc
 show (if c=b then some o else I c)=some x
 rw[if_neg hne];exact hc,rfl,rfl⟩
theorem cc.DC{I I':cc}{b:Nat}{o:Obj}(hb:I b=none)(hl:cc.le (I.put b o) I'):cc.le I (I'.del b):=⟨fun x y hx=>by
 have hne:x≠b:=fun e=>by rw[e,hb] at hx;cases hx
 show (if x=b then none else I' x)=some y
 rw[if_neg hne]
 exact hl.at (by simp[cc.put,hne,hx]),hl.2.1,hl.2.2⟩
theorem cc.BI(I:cc)(b:Nat):I.del b b=none:=if_pos rfl
theorem nG{α:Type}(v w:α)(B:List α):∀A:List α,cg A.length [v] (A++w::B)=A++v::B
 | []=>by cases B<;>simp[cg]
 | a::A=>by rw[List.length_cons,List.cons_append,cg,nG v w B A];rfl
theorem cf.off{P:Program}{f:FuncId}{args:Array Value}{I:cc}{F:bZ}{Q:Ending→cc→bZ→Prop}(h:cf P f args I F Q):cf P f args I F fun e I' G=>Q e I' G∧∀b o,(b,o)∈G→I' b=none :=
 h.keep fun e I' G w hl hs hq=>⟨I',G,cc.le_refl I',hs,hq,fun b o hm=>hs.off b o hm⟩
end Go.Vc
namespace Go.Lx
open Go.Vc
abbrev C2:Type:=Int×Int
def yk(c:C2):List Value:=[.int .i64 c.1,.int .i64 c.2]
def cD.cost(x:cD):C2:=(x.steps,x.gD)
def cw.jF(s:cw):List C2:=s.states.map cD.cost
def CR:Value:=.int .i64 0
theorem DD(n:Nat):madeCells (Value.agg #[.int .i64 0,.int .i64 0]).cells n=(List.replicate n CR).toArray:=by
 show madeCells #[CR,CR] n=_
 refine Array.ext (by rw[size_madeCells];simp) fun i h1 h2=>?_
 have:i % 2=0∨i % 2=1:=by omega
 rcases this with h | h<;>simp[madeCells,h]
theorem mC(m x:Int)(r:List Int):hU m (x::r)=hU (max m x) r:=rfl
theorem uA:∀(l:List Int) (m:Int),m≤hU m l
 | [],m=>Int.le_refl m
 | x::r,m=>by have:=uA r (max m x);rw[mC];omega
theorem uB{B:Int}:∀(l:List Int) (m:Int),m≤B→(∀x∈l,x≤B)→hU m l≤B
 | [],m,h,_=>h
 | x::r,m,h,hl=>by rw[mC];exact uB r _ (by have:=hl x (.head _);omega) fun y hy=>hl y (.tail _ hy)
theorem si(x:cp):x.p.steps=eg (x.rules.map fun r=>r.when.px.wt)+hU 0 (x.rules.map fun r=>r.p.body):=by
 show eg ((x.rules.map cz.p).map fun r=>r.when.wt)+hU 0 ((x.rules.map cz.p).map cM.body)=_
 rw[List.map_map,List.map_map];rfl
theorem uC(x:cp):x.p.gD=hU 0 (x.rules.map fun r=>r.p.gD):=by
 show hU 0 ((x.rules.map cz.p).map cM.gD)=_
 rw[List.map_map];rfl
theorem cD.Sound.when{x:cp}(h:x.p.Sound):∀r∈x.rules,0≤r.when.px.wt∧r.when.px.wt≤2097152:=fun r hr=>by
 have h1:=h.rules r.p (List.mem_map_of_mem hr)
 have:=Px.gB r.when.px h1.when
 have:r.when.px.size≤1048576:=h1.size
 omega
theorem cD.Sound.range{x:cp}(h:x.p.Sound):(0≤x.p.steps∧x.p.steps≤100000000)∧0≤x.p.gD∧x.p.gD≤8:=by
 have h1:=fV (l:=x.rules.map fun r=>r.when.px.wt) fun w hw=>by obtain⟨r,hr,rfl⟩:=List.mem_map.1 hw;exact (h.when r hr).1
 have h2:=mB (B:=2097152) (l:=x.rules.map fun r=>r.when.px.wt) fun w hw=>by obtain⟨r,hr,rfl⟩:=List.mem_map.1 hw;exact (h.when r hr).2
 have h3:=uA (x.rules.map fun r=>r.p.body) 0
 have h4:=uB (B:=67108864) (x.rules.map fun r=>r.p.body) 0 (by decide) fun w hw=>by obtain⟨r,hr,rfl⟩:=List.mem_map.1 hw;exact (h.rules r.p (List.mem_map_of_mem hr)).body.2
 have h5:=uA (x.rules.map fun r=>r.p.gD) 0
 have h6:=uB (B:=8) (x.rules.map fun r=>r.p.gD) 0 (by decide) fun w hw=>by
  obtain⟨r,hr,rfl⟩:=List.mem_map.1 hw
  have:=r.p.sg
  have:=(h.rules r.p (List.mem_map_of_mem hr)).len
  omega
 have hl:=h.len
 have hl:x.rules.length≤12:=by simpa[cp.p] using hl
 rw[List.length_map] at h2
 rw[si,uC]
 omega
def jG(s:cH)(i:Nat):List Value:=(s.states.take i).flatMap fun y=>yk y.p.cost
theorem j7(s:cH){i:Nat}(h:i≤s.states.length):(jG s i).length=i*2:=by
 unfold jG
 rw[iQ (z:=2) (fun _=>rfl),List.length_take,Nat.min_eq_left h]
theorem yl(s:cH){i:Nat}{y:cp}(h:s.states[i]? = some y):jG s (i+1)=jG s i++[.int .i64 y.p.steps,.int .i64 y.p.gD]:=by
 obtain⟨hk,hx⟩:=List.getElem?_eq_some_iff.1 h
 unfold jG
 rw[List.take_succ_eq_append_getElem hk,List.flatMap_append,hx]
 show _=_++_
 simp[yk,cD.cost]
def dn(s:cH)(i:Nat)(st ac:Int):List Value:=jG s i ++ .int .i64 st :: .int .i64 ac::List.replicate ((s.states.length-(i+1))*2) CR
def jP(s:cH)(i:Nat):List Value:=jG s i++List.replicate ((s.states.length-i)*2) CR
theorem Ai(s:cH){i:Nat}(h:i<s.states.length):jP s i=dn s i 0 0:=by
 unfold jP dn
 rw[show (s.states.length-i)*2=(s.states.length-(i+1))*2+1+1 by omega,List.replicate_succ,List.replicate_succ];rfl
theorem oF(s:cH){i:Nat}{y:cp}(h:s.states[i]? = some y):dn s i y.p.steps y.p.gD=jP s (i+1):=by
 unfold jP dn
 rw[yl s h,List.append_assoc];rfl
theorem ym(s:cH):jP s s.states.length=s.p.jF.flatMap yk:=by
 unfold jP jG cw.jF
 rw[List.take_length,Nat.sub_self,Nat.zero_mul,List.replicate_zero,List.append_nil]
 show _=((s.states.map cp.p).map cD.cost).flatMap yk
 rw[List.map_map,List.flatMap_map];rfl
theorem lU(s:cH){i:Nat}(h:i<s.states.length)(st ac:Int):(dn s i st ac).length=s.states.length*2:=by
 unfold dn
 rw[List.length_append,j7 s (by omega),List.length_cons,List.length_cons,List.length_replicate];omega
theorem mV(s:cH){i:Nat}(h:i<s.states.length)(st ac v:Int):cg (i*2) [.int .i64 v] (dn s i st ac)=dn s i v ac:=by
 unfold dn
 rw[←j7 s (by omega),nG]
theorem uD(s:cH){i:Nat}(h:i<s.states.length)(st ac v:Int):cg (i*2+1) [.int .i64 v] (dn s i st ac)=dn s i st v:=by
 unfold dn
 have e:∀w:Int,jG s i ++ .int .i64 st :: .int .i64 w::List.replicate ((s.states.length-(i+1))*2) CR=(jG s i++[.int .i64 st]) ++ .int .i64 w::List.replicate ((s.states.length-(i+1))*2) CR:=fun w=>by rw[List.append_assoc];rfl
 rw[e,e,show i*2+1=(jG s i++[Value.int .i64 st]).length by rw[List.length_append,j7 s (by omega)];rfl,nG]
theorem wH(s:cH){i:Nat}(h:i<s.states.length)(st ac:Int):(dn s i st ac)[i*2]? = some (.int .i64 st):=by
 unfold dn
 have hd:=j7 s (i:=i) (by omega)
 rw[List.getElem?_append_right (by omega),show i*2-(jG s i).length=0 by omega];rfl
theorem wI(s:cH){i:Nat}(h:i<s.states.length)(st ac:Int):(dn s i st ac)[i*2+1]? = some (.int .i64 ac):=by
 unfold dn
 have hd:=j7 s (i:=i) (by omega)
 rw[List.getElem?_append_right (by omega),show i*2+1-(jG s i).length=1 by omega];rfl
theorem tB(b n k:Nat):((⟨b,0,none⟩:Addr).add n).add k=⟨b,n+k,none⟩:=by rw[iR];unfold Addr.add;split<;>simp_all
abbrev kY(s:cH)(bl i:Nat)(st ac:Int):Nat×Obj:=(bl,.cells (dn s i st ac).toArray 57 (0,0))
theorem BJ{s:cH}{bl i:Nat}{st ac:Int}(hi:i<s.states.length){I:cc}{G:bZ}(h:I bl=some (kY s bl i st ac).2∨kY s bl i st ac∈G):Rd I G (⟨bl,i*2+0,none⟩:Addr) [.int .i64 st] :=
 ⟨rfl,_,_,_,h,fun j hj=>by
   have:j=0:=by simpa using hj
   subst this
   show (dn s i st ac).toArray[i*2+0+0]? = _
   rw[List.getElem?_toArray];exact wH s hi st ac⟩
theorem DE{s:cH}{bl i:Nat}{st ac:Int}(hi:i<s.states.length){I:cc}{G:bZ}(h:I bl=some (kY s bl i st ac).2∨kY s bl i st ac∈G):Rd I G (⟨bl,i*2+1,none⟩:Addr) [.int .i64 ac] :=
 ⟨rfl,_,_,_,h,fun j hj=>by
   have:j=0:=by simpa using hj
   subst this
   show (dn s i st ac).toArray[i*2+1+0]? = _
   rw[List.getElem?_toArray];exact wI s hi st ac⟩
theorem Aj(f:cz→Int){l:List cz}{i:Nat}{x:cz}(h:l[i]? = some x):eg ((l.drop i).map f)=f x+eg ((l.drop (i+1)).map f):=by
 obtain⟨hk,hx⟩:=List.getElem?_eq_some_iff.1 h
 rw[List.drop_eq_getElem_cons hk,List.map_cons,eg,hx]
theorem tC(f:cz→Int){l:List cz}{i:Nat}{x:cz}(h:l[i]? = some x)(m:Int):hU m ((l.drop i).map f)=hU (max m (f x)) ((l.drop (i+1)).map f):=by
 obtain⟨hk,hx⟩:=List.getElem?_eq_some_iff.1 h
 rw[List.drop_eq_getElem_cons hk,List.map_cons,mC,hx]
theorem sj{s:cw}(h:s.types.e=0):s.check=0:=by
 unfold cw.types at h
 split at h
 ·rename_i hc;exact absurd h hc
 ·rename_i hc;exact Decidable.not_not.1 hc
def CB(s:cH)(F:bZ)(e:Ending)(I:cc)(G:bZ):Prop :=
 (s.p.types.e≠0∧∃v,e=.returned (.tuple #[.slice none 0 0,v])∧wq s.p.types v I∧G=F) ∨
 (s.p.types.e=0∧∃bl,e=.returned (.tuple #[.slice (some ⟨bl,0,none⟩) s.states.length s.states.length,.nilIface])∧G.Perm ((bl,.cells (s.p.jF.flatMap yk).toArray 57 (0,0))::F))
set_option maxHeartbeats 4000000 in
theorem sJ(s:cH)(hl:s.p.nC){I:cc}{F:bZ}(hok:s.Ok I F)(hg:Gl I):cf P 19 #[s.v] I F (CB s F):=by
 refine jD.vc
  (fun ps ra rn rc x m I0 F0 I' F'=>0≤x∧x≤s.states.length∧m=(s.states.length-x).toNat∧s.p.types.e=0∧∃bl,ra=some (⟨bl,0,none⟩:Addr)∧rn=s.states.length∧rc=s.states.length∧F'.Perm ((bl,.cells (jP s x.toNat).toArray 57 (0,0))::F))
  (fun ps ra rn rc x px most k m I0 F0 I' F'=>∃y,s.states[x.toNat]? = some y∧0≤k∧k≤y.rules.length∧m=(y.rules.length-k).toNat∧∃(bl:Nat) (st ac:Int),ra=some (⟨bl,0,none⟩:Addr)∧F'.Perm (kY s bl x.toNat st ac::F) ∧
    0≤st∧st≤2097152*k∧(0≤most∧most≤67108864)∧(0≤ac∧ac≤8)∧st+eg ((y.rules.drop k.toNat).map fun r=>r.when.px.wt)+hU most ((y.rules.drop k.toNat).map fun r=>r.p.body)=y.p.steps∧hU ac ((y.rules.drop k.toNat).map fun r=>r.p.gD)=y.p.gD) ?_
 unfold jD.V
 intro b_s
 refine cf.hM (uy s hl (hok.cons (x:=(b_s,Obj.cells #[.string s.name,.slice s.ra s.regs.length s.rc,.slice s.sa s.slots.length s.sc,.slice s.ta s.states.length s.tc] 39 (0,0)))) hg) fun v I1 l1 hv=>⟨v,rfl,F,.refl _,_,fZ.neq hv (by kernel_rfl),fun hq=>?_,fun hq=>?_⟩
 ·exact .inl ⟨by simpa using hq,v,rfl,hv,rfl⟩
 have hq:s.p.types.e=0:=by simpa using hq
 have hs:=cw.sound (sj hq) hl
 have hn:s.states.length≤12:=by have:=hs.len;simpa[cH.p] using this
 refine cI.mono (zI (e:=57) (z:=2) (by':=16) (zv:=.agg #[.int .i64 0,.int .i64 0]) (by kernel_rfl) (by kernel_rfl) (by omega) (Int.le_refl _) (by omega) (by omega)) fun v2 I2 G l2 ⟨bl,cs,hv2,hcl,hcs,hI,hG⟩=>?_
 rw[DD] at hcs
 subst hG
 have hcs:cs=jP s 0:=by
  have h:cs=List.replicate ((s.states.length:Int).toNat*2) CR:=by have:=congrArg Array.toList hcs;simpa using this
  rw[h];unfold jP jG;simp
 subst hcs
 have htn:(s.states.length:Int).toNat=s.states.length:=by omega
 rw[htn] at hv2
 have l02:=cc.le_trans l1 l2
 refine⟨_,_,_,hv2,(bl,.cells (jP s 0).toArray 57 (0,0))::F,.swap ..,⟨_,by omega,by omega,rfl,hq,bl,rfl,rfl,rfl,.refl _⟩,fun x m I3 F3 l3 ⟨g0,g1,gm,_,bl',hbl,_,_,gF⟩=>⟨fun hlt=>?_,fun hlt=>?_⟩⟩
 ·obtain rfl:bl=bl':=by simpa using hbl
  have hlt:=of_decide_eq_true hlt
  have hxn:x.toNat<s.states.length:=by omega
  have l03:=cc.le_trans l02 l3
  have hsub:∀y,y∈F→y∈F3:=fun y hy=>gF.mem_iff.2 (.tail _ hy)
  obtain⟨ad,y,had,hy,hrd,hym⟩:=gg.sG ((hok.mono l03 hsub).cons (x:=(b_s,Obj.cells #[.string s.name,.slice s.ra s.regs.length s.rc,.slice s.sa s.slots.length s.sc,.slice s.ta s.states.length s.tc] 39 (0,0)))).states g0 hlt
  have hyo:=hok.state y hym
  have hys:=hs.states y.p (List.mem_map_of_mem hym)
  have hyl:y.rules.length≤12:=by have:=hys.len;simpa[cp.p] using this
  have hyr:=hys.range
  rw[Ai s hxn] at gF
  refine⟨⟨g0,hlt⟩,ad,had,_,_,_,_,_,hrd,fun b_x=>⟨fun h=>?_,fun h=>⟨⟨_,y,hy,by omega,by omega,rfl,bl,0,0,rfl,gF,by omega,by omega,by omega,by omega, ?_, ?_⟩,fun most k m4 I4 F4 l4 ⟨y',hy',k0,k1,km,bl',st,ac,hbl',kF,s0,s1,mo,a0,ks,ka⟩=>⟨fun hk=>?_,fun hk=>?_⟩⟩⟩⟩
  ·have h0:(y.rules.length:Int)=0:=by simpa using h
   have hr0:y.rules=[]:=List.length_eq_zero_iff.1 (by omega)
   refine⟨(s.states.length-(x+1)).toNat,by omega, ?_⟩
   rw[dW (n:=x+1) (by omega)]
   refine⟨by omega,by omega,rfl,hq,bl,rfl,rfl,rfl, ?_⟩
   have e1:y.p.steps=0:=by rw[si,hr0];rfl
   have e2:y.p.gD=0:=by rw[uC,hr0];rfl
   have:=oF s hy
   rw[e1,e2] at this
   rw[show (x+1).toNat=x.toNat+1 by omega,←this];exact gF
  ·rw[si];show 0+_+_=_;rw[Int.zero_add];rfl
  ·rw[uC];rfl
  ·obtain rfl:y=y':=by rw[hy] at hy';exact Option.some.inj hy'
   obtain rfl:bl=bl':=by simpa using hbl'
   have hk:=of_decide_eq_true hk
   have l04:=cc.le_trans l03 l4
   have sub4:∀z,z∈F→z∈F4:=fun z hz=>kF.mem_iff.2 (.tail _ hz)
   obtain⟨ad1,r,had1,hr,hrd1,hrm⟩:=gg.sG (((hyo.mono l04 sub4).cons (x:=(b_x,Obj.cells #[.string y.name,.slice y.a y.rules.length y.c,.int .i64 y.pos] 65 (0,0)))).cons (x:=(b_s,Obj.cells #[.string s.name,.slice s.ra s.regs.length s.rc,.slice s.sa s.slots.length s.sc,.slice s.ta s.states.length s.tc] 39 (0,0)))).1 k0 hk
   have hro:=hyo.2 r hrm
   have hrs:=hys.rules r.p (List.mem_map_of_mem hrm)
   have hrw:=hys.when r hrm
   have hbd:=hrs.body
   have hra:=r.p.sg
   have hrl:=hrs.len
   have hrl:r.dos.length≤8:=by simpa[cz.p] using hrl
   have hrp:r.p.dos.length=r.dos.length:=by simp[cz.p]
   refine⟨⟨k0,hk⟩,ad1,had1,_,_,_,_,_,_,_,_,_,_,_,_,_,_,hrd1,fun b_r b_sum=>?_⟩
   refine cf.perm (F:=(b_sum,.cells #[.int .i64 0] 3 (0,0))::(b_s,Obj.cells #[.string s.name,.slice s.ra s.regs.length s.rc,.slice s.sa s.slots.length s.sc,.slice s.ta s.states.length s.tc] 39 (0,0))::(b_x,Obj.cells #[.string y.name,.slice y.a y.rules.length y.c,.int .i64 y.pos] 65 (0,0))::(b_r,Obj.cells #[.int .u8 r.when.kind,.int .u8 r.when.oper,.int .u8 r.when.cq,.int .i64 r.when.n,.int .u8 r.when.field,.string r.when.name,.slice r.when.a r.when.kids.length r.when.c,.int .i64 r.when.pos,.slice r.a r.dos.length r.c,.int .i64 r.pos] 84 (0,0))::F4) ((Ah r (hro.mono l04 fun z hz=>.tail _ (.tail _ (.tail _ (sub4 z hz)))) hrs b_sum 0 (by omega) (by omega)).mono fun e I5 G5 l5 ⟨he,hG5⟩=>?_) (od fun z=>by simp only[rk,oc,tU];omega)
   refine⟨he,0+r.p.body,F4,by rw[hG5];exact (od fun z=>by simp only[rk,oc,tU];omega),fun b I6 l6 hb6=>?_⟩
   have hbody:(0:Int)+r.p.body=r.p.body:=Int.zero_add _
   rw[hbody] at hb6 hG5 ⊢
   refine (fu most r.p.body hb6).off.mono fun e I7 G7 l7 ⟨⟨he,hG7⟩,hoff⟩=>?_
   refine⟨_,he,F4,by rw[hG7],bl,(kY s bl x.toNat st ac).2,F,kF,⟨g0,hlt⟩,_,rfl,ac, ?_, ?_⟩
   ·rw[tB];exact DE hxn (.inl (cc.iI _ _ _))
   have hn7:I7 bl=none:=hoff bl _ (by rw[hG7];exact .tail _ (.tail _ (.tail _ (.tail _ (kF.mem_iff.2 (.head _))))))
   have l07:=cc.le_trans l04 (cc.le_trans l5 (cc.le_trans l6 l7))
   have l7p:cc.le I7 (I7.put bl (kY s bl x.toNat st ac).2):=cc.BH hn7
   refine cf.ret (wG r (hro.mono (cc.le_trans l07 l7p) fun z hz=>.tail _ (.tail _ (.tail _ (.tail _ hz)))) (by omega)) fun I8 l8=>⟨_,rfl,F,.refl _,fun b1 I9 l9 hb1=>cf.ret (fu ac r.p.gD hb1) fun I10 l10=>⟨_,rfl,F,.refl _,⟨g0,hlt⟩,_,rfl,dn s x.toNat st ac,57,F, ?_⟩⟩
   have l7d:cc.le I7 (I10.del bl):=cc.DC hn7 (cc.le_trans l8 (cc.le_trans l9 l10))
   rw[tB]
   refine⟨.refl _,rfl,by rw[lU s hxn];show x.toNat*2+1+1≤_;omega,bl,(kY s bl x.toNat st (max ac r.p.gD)).2,F, ?_,⟨g0,hlt⟩,_,rfl,st, ?_, ?_⟩
   ·show List.Perm ((bl,Obj.cells (cg (x.toNat*2+1) _ _).toArray _ _)::F) _
    rw[uD s hxn]
   ·rw[tB];exact BJ hxn (.inl (cc.iI _ _ _))
   have l7q:cc.le I7 ((I10.del bl).put bl (kY s bl x.toNat st (max ac r.p.gD)).2):=cc.le_trans l7d (cc.BH (cc.BI _ _))
   have hsz:=hrs.size
   have hsz:r.when.px.size≤1048576:=hsz
   refine cf.ret (lT r.when (by omega) hrs.when _ _ (hro.1.mono (cc.le_trans l07 l7q) fun z hz=>.tail _ (.tail _ (.tail _ (.tail _ hz))))) fun I11 l11=>⟨_,rfl,F,.refl _,⟨g0,hlt⟩,_,rfl,dn s x.toNat st (max ac r.p.gD),57,F, ?_⟩
   rw[tB]
   refine⟨.refl _,rfl,by rw[lU s hxn];show x.toNat*2+0+1≤_;omega,(y.rules.length-(k+1)).toNat,by omega, ?_⟩
   rw[dW (n:=k+1) (by omega),dW (n:=st+r.when.px.wt) (by omega)]
   refine⟨y,hy,by omega,by omega,rfl,bl,st+r.when.px.wt,max ac r.p.gD,rfl, ?_,by omega,by omega,by omega,by omega, ?_, ?_⟩
   ·show List.Perm ((bl,Obj.cells (cg (x.toNat*2) _ _).toArray _ _)::F) _
    rw[mV s hxn]
   ·rw[Aj _ hr,tC _ hr] at ks
    rw[show (k+1).toNat=k.toNat+1 by omega,←ks];omega
   ·rw[tC _ hr] at ka
    rw[show (k+1).toNat=k.toNat+1 by omega,←ka]
  ·obtain rfl:y=y':=by rw[hy] at hy';exact Option.some.inj hy'
   obtain rfl:bl=bl':=by simpa using hbl'
   have hk:=of_decide_eq_false hk
   rw[List.drop_eq_nil_of_le (by omega)] at ks ka
   have ks:st+0+most=y.p.steps:=ks
   have ka:ac=y.p.gD:=ka
   refine⟨⟨g0,hlt⟩,_,rfl,st, ?_,⟨g0,hlt⟩,_,rfl,dn s x.toNat st ac,57,F, ?_⟩
   ·rw[tB];exact BJ hxn (.inr (.tail _ (.tail _ (kF.mem_iff.2 (.head _)))))
   rw[tB]
   refine⟨kF,rfl,by rw[lU s hxn];show x.toNat*2+0+1≤_;omega,(s.states.length-(x+1)).toNat,by omega, ?_⟩
   rw[dW (n:=x+1) (by omega),dW (n:=st+most) (by omega)]
   refine⟨by omega,by omega,rfl,hq,bl,rfl,rfl,rfl, ?_⟩
   show List.Perm ((bl,Obj.cells (cg (x.toNat*2) _ _).toArray _ _)::F) _
   rw[mV s hxn,ka,show st+most=y.p.steps by omega,oF s hy,show (x+1).toNat=x.toNat+1 by omega]
 ·obtain rfl:bl=bl':=by simpa using hbl
  have hlt:=of_decide_eq_false hlt
  rw[show x.toNat=s.states.length by omega,ym] at gF
  exact .inr ⟨hq,bl,rfl,gF⟩
def cw.top(s:cw):C2:=(hU 0 (s.jF.map Prod.fst),hU 0 (s.jF.map Prod.snd))
def cw.cost(s:cw):C2×TF:=if s.types.e≠0 then ((0,0),s.types) else if 500<s.top.1 then ((0,0),⟨160,0,false⟩) else (s.top,rL)
def uE:ByteArray:=⟨#[83,116,114,97,116,101,103,121]⟩
def BK(s:cw)(I:cc)(w:Value):Prop:=if s.types.e≠0 then fZ I s.types w else if 500<s.top.1 then Ch I uE 0 (pS 160) w else w=.nilIface
def CC(s:cH)(F:bZ)(e:Ending)(I:cc)(G:bZ):Prop :=
 (s.p.types.e≠0∧∃v,e=.returned (.tuple #[.slice none 0 0,v])∧wq s.p.types v I∧G=F) ∨
 (s.p.types.e=0∧∃bl,e=.returned (.tuple #[.slice (some ⟨bl,0,none⟩) s.states.length s.states.length,.nilIface])∧Sl I 2 yk (some ⟨bl,0,none⟩) s.states.length s.p.jF∧G=F)
theorem ph(s:cH):s.p.jF.length=s.states.length:=by simp[cw.jF,cH.p]
theorem jf(s:cH)(hl:s.p.nC){I:cc}{F:bZ}(hok:s.Ok I F)(hg:Gl I):cf P 19 #[s.v] I F (CC s F) :=
 (sJ s hl hok hg).keep fun e I' G w l1 hs hq=>by
   rcases hq with ⟨he,v,h1,h2,h3⟩ | ⟨he,bl,h1,h2⟩
   ·exact⟨I',G,cc.le_refl I',hs,.inl ⟨he,v,h1,h2,h3⟩⟩
   ·obtain⟨k1,k2⟩:=(hs.perm h2).jl
    refine⟨_,F,k1,k2,.inr ⟨he,bl,h1, ?_,rfl⟩⟩
    rw[←ph s]
    exact Sl.jY (f:=yk) (z:=2) (fun _=>rfl) (cc.iI _ _ _) fun k hk=>by rw[List.getElem?_toArray]
theorem Ak(f:C2→Int){l:List C2}{i:Nat}{x:C2}(h:l[i]? = some x)(m:Int):hU m ((l.drop i).map f)=hU (max m (f x)) ((l.drop (i+1)).map f):=by
 obtain⟨hk,hx⟩:=List.getElem?_eq_some_iff.1 h
 rw[List.drop_eq_getElem_cons hk,List.map_cons,mC,hx]
set_option maxHeartbeats 2000000 in
theorem p7(s:cH)(hl:s.p.nC){I:cc}{F:bZ}(hok:s.Ok I F)(hg:Gl I):cf P 24 #[s.v] I F (jk (fun v J=>∃w,v=.tuple #[.agg #[.int .i64 s.p.cost.1.1,.int .i64 s.p.cost.1.2],w]∧BK s.p J w) F):=by
 refine cf.still (gR.vc (fun ps ra rn rc pc x c0 c1 m I0 F0 I' F'=>F'=F∧0≤x∧x≤s.states.length∧m=(s.states.length-x).toNat∧s.p.types.e=0∧hU c0 ((s.p.jF.drop x.toNat).map Prod.fst)=s.p.top.1∧hU c1 ((s.p.jF.drop x.toNat).map Prod.snd)=s.p.top.2) ?_)
 unfold gR.V
 intro b_s b
 refine (jf s hl (hok.mono (cc.le_refl I) fun y hy=>.tail _ (.tail _ hy)) hg).mono fun e I1 G l1 hq=>?_
 rcases hq with ⟨he,v,h1,hv,hG⟩ | ⟨he,bl,h1,hS,hG⟩
 ·subst hG
  refine⟨_,_,_,v,h1,F,.refl _,_,fZ.neq hv (by kernel_rfl),fun hq=>⟨_,[],rfl,.refl _,fun J hJ hx=>⟨v, ?_, ?_⟩⟩,fun hq=>absurd he (by simpa using hq)⟩
  ·unfold cw.cost;rw[if_pos he]
  ·unfold BK;rw[if_pos he];exact fZ.mono hv hJ
 ·subst hG
  have hs:=cw.sound (sj he) hl
  have hn:s.states.length≤12:=by have:=hs.len;simpa[cH.p] using this
  have hcl:=ph s
  refine⟨_,_,_,_,h1,F,.refl _,false,uq (by kernel_rfl),fun h=>(by cases h),fun _ b_c=>⟨⟨_,rfl,by omega,by omega,rfl,he,rfl,rfl⟩,fun x c0 c1 m I2 F2 l2 ⟨gF,g0,g1,gm,_,gs,ga⟩=>⟨fun hlt=>?_,fun hlt=>⟨fun hc=>?_,fun hc=>?_⟩⟩⟩⟩
  ·subst gF
   have hlt:=of_decide_eq_true hlt
   obtain⟨ad,c,had,hc,hrd,hcm⟩:=gg.sG ((hS.mono l2).yI ((b_s,Obj.cells #[.string s.name,.slice s.ra s.regs.length s.rc,.slice s.sa s.slots.length s.sc,.slice s.ta s.states.length s.tc] 39 (0,0))::(b,.cells #[.int .i64 0,.int .i64 0] 57 (0,0))::(b_c,.cells #[.int .i64 c0,.int .i64 c1] 57 (0,0))::F2)) g0 hlt
   rw[Ak _ hc] at gs ga
   have key:∀(J:cc),∃m2:Nat,m2<m∧(F2=F2∧0≤IntKind.wrap .i64 (x+1)∧IntKind.wrap .i64 (x+1)≤s.states.length∧m2=(s.states.length-IntKind.wrap .i64 (x+1)).toNat∧s.p.types.e=0∧hU (max c0 c.1) ((s.p.jF.drop (IntKind.wrap .i64 (x+1)).toNat).map Prod.fst)=s.p.top.1 ∧
     hU (max c1 c.2) ((s.p.jF.drop (IntKind.wrap .i64 (x+1)).toNat).map Prod.snd)=s.p.top.2):=fun J=>by
    rw[dW (n:=x+1) (by omega)]
    refine⟨(s.states.length-(x+1)).toNat,by omega,rfl,by omega,by omega,rfl,he, ?_, ?_⟩
    ·rw[show (x+1).toNat=x.toNat+1 by omega,←gs]
    ·rw[show (x+1).toNat=x.toNat+1 by omega,←ga]
   refine⟨⟨g0,hlt⟩,ad,had,_,_,hrd,fun b_x=>⟨fun b1 I3 l3 h1=>⟨?_,fun b3 I7 l7 h3=>?_⟩,fun b4 I10 l10 h4 b5 I11 l11 h5=>?_⟩⟩
   ·exact cf.ret (fu c0 c.1 h1) fun I4 l4=>⟨_,rfl,F2,.refl _,fun b2 I5 l5 h2=>cf.ret (fu c1 c.2 h2) fun I6 l6=>⟨_,rfl,F2,.refl _,key I6⟩⟩
   ·exact cf.ret (fu c0 c.1 (l7.at h1)) fun I4 l4=>⟨_,rfl,F2,.refl _,cf.ret (fu c1 c.2 (l4.at h3)) fun I6 l6=>⟨_,rfl,F2,.refl _,key I6⟩⟩
   ·exact cf.ret (fu c0 c.1 h5) fun I4 l4=>⟨_,rfl,F2,.refl _,cf.ret (fu c1 c.2 (l4.at (l11.at h4))) fun I6 l6=>⟨_,rfl,F2,.refl _,key I6⟩⟩
  ·intro b6
   have hlt:=of_decide_eq_false hlt
   have hc:=of_decide_eq_true hc
   rw[List.drop_eq_nil_of_le (by omega)] at gs
   have gs:c0=s.p.top.1:=gs
   refine⟨_,[_],rfl,by rw[gF];exact .refl _,fun J hJ hx=>⟨.iface 89 (.pointer (some ⟨b6,0,none⟩)), ?_, ?_⟩⟩
   ·unfold cw.cost;rw[if_neg (by simpa using he),if_pos (by omega)]
   ·unfold BK;rw[if_neg (by simpa using he),if_pos (by omega)]
    exact⟨b6,rfl,hx _ (.head _)⟩
  ·have hlt:=of_decide_eq_false hlt
   have hc:=of_decide_eq_false hc
   rw[List.drop_eq_nil_of_le (by omega)] at gs ga
   have gs:c0=s.p.top.1:=gs
   have ga:c1=s.p.top.2:=ga
   refine⟨_,[],rfl,by rw[gF];exact .refl _,fun J hJ hx=>⟨.nilIface, ?_, ?_⟩⟩
   ·unfold cw.cost;rw[if_neg (by simpa using he),if_neg (by omega),gs,ga]
   ·unfold BK;rw[if_neg (by simpa using he),if_neg (by omega)]
theorem yn:P.underlying 57=some (.struct (P.fieldsOf 57)):=by kernel_rfl
theorem yo:P.stoodInHeld 57=false:=by kernel_rfl
theorem yp:P.eqGuardType P.depth 57=false:=by kernel_rfl
theorem Al(a p b q:Int):oS P #[.int .i64 a,.int .i64 p] #[.int .i64 b,.int .i64 q] (P.fieldsOf 57).toList=some (a==b&&(p==q&&true)):=by kernel_rfl
theorem DF(a p b q:Int):(a==b&&(p==q&&true))=decide (((a,p):C2)=(b,q)):=by
 by_cases h1:a=b<;>by_cases h2:p=q<;>simp[h1,h2]
theorem wJ(a p b q:Int){x y:Operand}:cS P .eql 57 x y (.agg #[.int .i64 a,.int .i64 p]) (.agg #[.int .i64 b,.int .i64 q]) (decide (((a,p):C2)=(b,q))):=by
 rw[←DF];exact rj yn yo yp (Al ..)
def CS:ByteArray:=(⟨#[100,111,110,101,32,63,32,98,105,100,32,58,32,98,105,100,32,43,32,49,112]⟩:ByteArray)
def CT:ByteArray:=(⟨#[115,116,114,97,116,101,103,121,32,115,32,123,32,114,101,103,32,110,32,105,110,116,32,61,32,48,59,32,115,108,111,116,32,111,59,32,115,116,97,116,101,32,97,32,123,32,119,104,101,110,32,104,97,115,32,98,105,100,32,100,111,32,115,117,98,109,105,116,32,98,117,121,32,111,102,32,50,113,32,97,116,32,98,105,100,32,43,32,49,112,32,108,105,109,105,116,44,32,104,97,108,116,59,32,119,104,101,110,32,110,111,119,32,62,32,53,116,32,100,111,32,115,101,116,32,110,32,61,32,110,32,43,32,49,44,32,99,97,110,99,101,108,32,111,44,32,99,97,110,99,101,108,32,111,59,32,125,32,115,116,97,116,101,32,98,32,123,125,32,125]⟩:ByteArray)
abbrev BL:Px:=(kO CS).1
abbrev yY:cw:=(kN CT).1
theorem BM:BL.size≤1048576:=of_decide_eq_true (by kernel_rfl)
theorem DG:(if BL.formed then BL.wt else 0)=6:=by kernel_rfl
theorem Am:yY.fC:=cw.pR (of_decide_eq_true (by kernel_rfl))
theorem An:yY.types.e=0:=by kernel_rfl
theorem BN:yY.cost=((9,2),rL):=by kernel_rfl
theorem Ao:yY.jF=[(9,2),(0,0)]:=by kernel_rfl
theorem uF:xU.p.fC:=cw.pR (by decide)
theorem oG:xU.p.types.e≠0:=by
 have h:xU.p.types.e=120:=by kernel_rfl
 rw[h];decide
theorem Ap{I:cc}{F:bZ}:xU.Ok I F:=⟨gg.nil,fun r hr=>(by cases hr),gg.nil,gg.nil,fun x hx=>(by cases hx)⟩
set_option maxHeartbeats 1000000 in
theorem uG{I:cc}(hg:Gl I)(F:bZ):cf P 9 #[] I F (gE (.bool true) F):=by
 refine jE.vc ?_
 unfold jE.V
 refine (xV CS (by unfold ij;decide) I _).mono fun e I1 G l1 ⟨n,he,hn,okn,hG⟩=>?_
 refine⟨_,_,_,_,_,_,_,_,_,_,_,_,_,he,F,by rw[hG],fun b_n b__=>?_⟩
 refine (rK CT (by unfold ij;exact of_decide_eq_true (by kernel_rfl)) I1 _).mono fun e I2 G l2 ⟨s,he,hs,oks,hG⟩=>?_
 refine⟨_,_,_,_,_,_,_,_,_,_,_,_,_,he,F,by rw[hG],fun b_s b_1=>?_⟩
 have ls:s.p.fC:=hs▸Am
 have lth:=ls.thin
 have hnz:n.px.size≤1048576:=by rw[hn];exact BM
 have hnw:(if n.px.formed then n.px.wt else 0)=6:=by rw[hn];exact DG
 have hst:s.p.types.e=0:=by rw[hs];exact An
 have hsc:s.p.cost=((9,2),rL):=by rw[hs];exact BN
 have hsl:s.p.jF=[(9,2),(0,0)]:=by rw[hs];exact Ao
 refine cf.ret (fW n (by omega) I2 _ (okn.mono l2 Cv)) fun I3 l3=>⟨_,rfl,F,.refl _, ?_⟩
 refine cf.ret (fW ib (by decide) I3 _ (dj.mono (cc.le_refl _) Cv)) fun I4 l4=>⟨_,rfl,F,.refl _, ?_⟩
 have l24:=cc.le_trans l3 l4
 have l04:=cc.le_trans l1 (cc.le_trans l2 l24)
 refine cf.hM (p7 s lth (oks.mono l24 Cv) (hg.mono l04)) fun v5 I5 l5 ⟨w5,hv5,hw5⟩=>⟨_,_,w5,congrArg Ending.returned hv5,F,.refl _,fun b_c=>?_⟩
 have l25:=cc.le_trans l24 l5
 have l05:=cc.le_trans l04 l5
 refine (jf s lth (oks.mono l25 Cv) (hg.mono l05)).mono fun e I6 G l6 hq=>?_
 rcases hq with ⟨h,_⟩ | ⟨_,bl,he,hS,hG⟩
 ·exact absurd hst h
 refine⟨_,_,_,_,he,F,by rw[hG], ?_⟩
 have l06:=cc.le_trans l05 l6
 refine (jf xU uF.thin Ap (hg.mono l06)).mono fun e I7 G7 l7 hq=>?_
 rcases hq with ⟨hz,v7,he,hv7,hG7⟩ | ⟨h,_⟩
 rotate_left
 ·exact absurd h oG
 refine⟨_,_,_,_,he,F,by rw[hG7], ?_⟩
 have h2:s.states.length=2:=by rw[←ph s,hsl];rfl
 have hzw:(if ib.px.formed then ib.px.wt else 0)=0:=by decide
 rw[hnw,hzw]
 have hw5':w5=.nilIface:=by
  unfold BK at hw5
  rw[if_neg (by simpa using hst)] at hw5
  have htop:¬500<s.p.top.1:=by
   unfold cw.top;rw[hsl];decide
  rwa [if_neg htop] at hw5
 rw[hw5',hsc]
 refine⟨fun _=>⟨fun _=>⟨true,wj (by kernel_rfl),fun _=>⟨true,wJ 9 2 9 2,fun _=>⟨true,wj (by kernel_rfl),fun _=>⟨fun _=>⟨⟨by decide,by rw[h2];decide⟩,⟨bl,0,none⟩,rfl,0,0, ?_,⟨true,wJ 0 0 0 0,fun _=>⟨true, ?_,rfl,rfl⟩,fun h=>(by cases h)⟩⟩,fun h=>?_⟩,fun h=>(by cases h)⟩,fun h=>(by cases h)⟩,fun h=>(by cases h)⟩,fun h=>(by cases h)⟩,fun h=>(by cases h)⟩
 ·obtain⟨ad,c,had,hc,hrd,_⟩:=gg.sG ((hS.mono l7).yI _) (i:=1) (by decide) (by rw[h2];decide)
  rw[hsl] at hc
  cases hc
  cases had
  exact hrd
 ·have:=fZ.neq hv7 (t:=44) (by kernel_rfl) (x:=.tmp 72)
  rwa [show (xU.p.types.e != 0)=true by simpa using oG] at this
 ·rw[h2] at h;cases h
theorem jg(t:Nd)(hs:t.px.eY)(I:cc)(F:bZ)(ht:cy I F t):cf P 10 #[t.v] I F (gE (.bool (decide (t.px.k9 0 0>1048576))) F):=by
 refine gS.vc ?_
 unfold gS.V
 intro b_n
 exact cf.ret (xy t hs 0 0 I _ ht.cons (by decide) (by decide) (by decide) (by decide)) fun I1 _=>⟨_,rfl,F,.refl _,rfl,rfl⟩
end Go.Lx
namespace Go.Lx
open Go.Vc Go.Proofs.Tryz
def sk:List (Nat×List Sh):=[(3,[.one (.int .i64)]),(4,[.one .bool])]
def fI.V(a c d:Nat→Nat×Obj)(nV:Int→Int→Int→Int→Int→Bs→OA→Nat→Nat→Int→Value)(nO:Int→Int→Int→Int→Int→Bs→OA→Nat→Nat→Int→Obj)(vb vi:Int→Value)(vs:Bs→Value)(vl:OA→Nat→Nat→Value)(vt:Bool→Value)(wr:Int→Int)(q s t u v:Int)(w:Bs)(h:OA)(i j:Nat)(x aa ab ac ad ae:Int)(af:Bs)(k:OA)(l m:Nat)(ag ah ai aj ak al:Int)(am:Bs)(n:OA)(o p:Nat)(an:Int)(I:cc)(F:bZ)(Q:cd)  : Prop:=∀e:Nat,∀f:Nat,∀g:Nat,cE P 9 #[] I ((d e)::(c f)::(a g)::·) F vt fun r I1 F1=>cE P 10 #[nV q s t u v w h i j x] I1 ((d e)::(c f)::(a g)::·) F1 vt fun r1 I2 F2=>cE P 10 #[nV aa ab ac ad ae af k l m ag] I2 ((d e)::(c f)::(a g)::·) F2 vt fun r2 I3 F3=>cE P 10 #[nV ah ai aj ak al am n o p an] I3 ((d e)::(c f)::(a g)::·) F3 vt fun r3 I4 F4=>(It (!r) (Q (.returned (vt r)) I4 F4) (It r1 (Q (.returned (vt r)) I4 F4) (It r2 (Q (.returned (vt r)) I4 F4) (It r3 (Q (.returned (vt r)) I4 F4) (cE P 15 #[nV q s t u v w h i j x] I4 ((d e)::(c f)::(a g)::·) F4 vt fun r4 I5 F5=>(It r4 (cE P 15 #[nV aa ab ac ad ae af k l m ag] I5 ((d e)::(c f)::(a g)::·) F5 vt fun r5 I6 F6=>(It r5 (cE P 15 #[nV ah ai aj ak al am n o p an] I6 ((d e)::(c f)::(a g)::·) F6 vt fun r6 I7 F7=>(It (!r6) (Q (.returned (vt true)) I7 F7) (cE P 12 #[nV q s t u v w h i j x] I7 ((d e)::(c f)::(a g)::·) F7 vi fun r7 I8 F8=>cE P 12 #[nV aa ab ac ad ae af k l m ag] I8 ((d e)::(c f)::(a g)::·) F8 vi fun r8 I9 F9=>cE P 12 #[nV ah ai aj ak al am n o p an] I9 ((d e)::(c f)::(a g)::·) F9 vi fun r9 I10 F10=>∀(b:Nat) (I11:cc),cc.le I10 I11→I11 b=some (Obj.cells #[vb q,vb s,vb t,vi u,vb v,vs w,vl h i j,vi x,vb aa,vb ab,vb ac,vi ad,vb ae,vs af,vl k l m,vi ag,vb ah,vb ai,vb aj,vi ak,vb al,vs am,vl n o p,vi an] 28 (0,0))→cE P 12 (#[nV 7 0 0 0 0 (⟨#[]⟩:Bs) (some ⟨b,0,none⟩) 3 3 0]) I11 ((d e)::(c f)::(a g)::·) F10 vi fun aq I12 F11=>∀(b1:Nat) (I13:cc),cc.le I12 I13→I13 b1=some (Obj.cells #[vb q,vb s,vb t,vi u,vb v,vs w,vl h i j,vi x,vb ah,vb ai,vb aj,vi ak,vb al,vs am,vl n o p,vi an,vb aa,vb ab,vb ac,vi ad,vb ae,vs af,vl k l m,vi ag] 28 (0,0))→cE P 12 (#[nV 7 0 0 0 0 (⟨#[]⟩:Bs) (some ⟨b1,0,none⟩) 3 3 0]) I13 ((d e)::(c f)::(a g)::·) F11 vi fun ax I14 F12=>∀(b2:Nat) (I15:cc),cc.le I14 I15→I15 b2=some (Obj.cells #[vb q,vb s,vb t,vi u,vb v,vs w,vl h i j,vi x,vb aa,vb ab,vb ac,vi ad,vb ae,vs af,vl k l m,vi ag] 28 (0,0))→cE P 12 (#[nV 6 17 0 0 0 (⟨#[]⟩:Bs) (some ⟨b2,0,none⟩) 2 2 0]) I15 ((d e)::(c f)::(a g)::·) F12 vi fun ay I16 F13=>∀(b3:Nat) (I17:cc),cc.le I16 I17→I17 b3=some (Obj.cells #[vb aa,vb ab,vb ac,vi ad,vb ae,vs af,vl k l m,vi ag,vb ah,vb ai,vb aj,vi ak,vb al,vs am,vl n o p,vi an] 28 (0,0))→cE P 12 (#[nV 8 4 0 0 0 (⟨#[]⟩:Bs) (some ⟨b3,0,none⟩) 2 2 0]) I17 ((d e)::(c f)::(a g)::·) F13 vi fun az I18 F14=>∀(b4:Nat) (I19:cc),cc.le I18 I19→I19 b4=some (nO q s t u v w h i j x)→cE P 12 (#[nV 5 2 0 0 0 (⟨#[]⟩:Bs) (some ⟨b4,0,none⟩) 1 1 0]) I19 ((d e)::(c f)::(a g)::·) F14 vi fun aA I20 F15=>∀(b5:Nat) (I21:cc),cc.le I20 I21→I21 b5=some (nO q s t u v w h i j x)→cE P 12 (#[nV 9 0 1 0 0 (⟨#[]⟩:Bs) (some ⟨b5,0,none⟩) 1 1 0]) I21 ((d e)::(c f)::(a g)::·) F15 vi fun aJ I22 F16=>(Dt (r9>r8) (Dt (r7>0) (It (aq==(wr ((wr (r7+r9))+2))) (It (ax==aq) (It (ay==(wr ((wr (r7+r8))+1))) (It (az==(wr ((wr (r8+r9))+1))) (It (aA==(wr (r7+1))) (Q (.returned (vt (aJ==r7))) I22 F16) (Q (.returned (vt false)) I22 F16)) (Q (.returned (vt false)) I22 F16)) (Q (.returned (vt false)) I22 F16)) (Q (.returned (vt false)) I22 F16)) (Q (.returned (vt false)) I22 F16)) (Q (.returned (vt false)) I22 F16)) (Dt (r7>0) (It (aq==(wr ((wr (r7+r8))+2))) (It (ax==aq) (It (ay==(wr ((wr (r7+r8))+1))) (It (az==(wr ((wr (r8+r9))+1))) (It (aA==(wr (r7+1))) (Q (.returned (vt (aJ==r7))) I22 F16) (Q (.returned (vt false)) I22 F16)) (Q (.returned (vt false)) I22 F16)) (Q (.returned (vt false)) I22 F16)) (Q (.returned (vt false)) I22 F16)) (Q (.returned (vt false)) I22 F16)) (Q (.returned (vt false)) I22 F16)))))) (It true (Q (.returned (vt true)) I6 F6) (cE P 12 #[nV q s t u v w h i j x] I6 ((d e)::(c f)::(a g)::·) F6 vi fun y I23 F17=>cE P 12 #[nV aa ab ac ad ae af k l m ag] I23 ((d e)::(c f)::(a g)::·) F17 vi fun ao I24 F18=>cE P 12 #[nV ah ai aj ak al am n o p an] I24 ((d e)::(c f)::(a g)::·) F18 vi fun ar I25 F19=>∀(b6:Nat) (I26:cc),cc.le I25 I26→I26 b6=some (Obj.cells #[vb q,vb s,vb t,vi u,vb v,vs w,vl h i j,vi x,vb aa,vb ab,vb ac,vi ad,vb ae,vs af,vl k l m,vi ag,vb ah,vb ai,vb aj,vi ak,vb al,vs am,vl n o p,vi an] 28 (0,0))→cE P 12 (#[nV 7 0 0 0 0 (⟨#[]⟩:Bs) (some ⟨b6,0,none⟩) 3 3 0]) I26 ((d e)::(c f)::(a g)::·) F19 vi fun au I27 F20=>∀(b7:Nat) (I28:cc),cc.le I27 I28→I28 b7=some (Obj.cells #[vb q,vb s,vb t,vi u,vb v,vs w,vl h i j,vi x,vb ah,vb ai,vb aj,vi ak,vb al,vs am,vl n o p,vi an,vb aa,vb ab,vb ac,vi ad,vb ae,vs af,vl k l m,vi ag] 28 (0,0))→cE P 12 (#[nV 7 0 0 0 0 (⟨#[]⟩:Bs) (some ⟨b7,0,none⟩) 3 3 0]) I28 ((d e)::(c f)::(a g)::·) F20 vi fun aB I29 F21=>∀(b8:Nat) (I30:cc),cc.le I29 I30→I30 b8=some (Obj.cells #[vb q,vb s,vb t,vi u,vb v,vs w,vl h i j,vi x,vb aa,vb ab,vb ac,vi ad,vb ae,vs af,vl k l m,vi ag] 28 (0,0))→cE P 12 (#[nV 6 17 0 0 0 (⟨#[]⟩:Bs) (some ⟨b8,0,none⟩) 2 2 0]) I30 ((d e)::(c f)::(a g)::·) F21 vi fun aC I31 F22=>∀(b9:Nat) (I32:cc),cc.le I31 I32→I32 b9=some (Obj.cells #[vb aa,vb ab,vb ac,vi ad,vb ae,vs af,vl k l m,vi ag,vb ah,vb ai,vb aj,vi ak,vb al,vs am,vl n o p,vi an] 28 (0,0))→cE P 12 (#[nV 8 4 0 0 0 (⟨#[]⟩:Bs) (some ⟨b9,0,none⟩) 2 2 0]) I32 ((d e)::(c f)::(a g)::·) F22 vi fun aD I33 F23=>∀(aM:Nat) (I34:cc),cc.le I33 I34→I34 aM=some (nO q s t u v w h i j x)→cE P 12 (#[nV 5 2 0 0 0 (⟨#[]⟩:Bs) (some ⟨aM,0,none⟩) 1 1 0]) I34 ((d e)::(c f)::(a g)::·) F23 vi fun aE I35 F24=>∀(aN:Nat) (I36:cc),cc.le I35 I36→I36 aN=some (nO q s t u v w h i j x)→cE P 12 (#[nV 9 0 1 0 0 (⟨#[]⟩:Bs) (some ⟨aN,0,none⟩) 1 1 0]) I36 ((d e)::(c f)::(a g)::·) F24 vi fun aK I37 F25=>(Dt (ar>ao) (Dt (y>0) (It (au==(wr ((wr (y+ar))+2))) (It (aB==au) (It (aC==(wr ((wr (y+ao))+1))) (It (aD==(wr ((wr (ao+ar))+1))) (It (aE==(wr (y+1))) (Q (.returned (vt (aK==y))) I37 F25) (Q (.returned (vt false)) I37 F25)) (Q (.returned (vt false)) I37 F25)) (Q (.returned (vt false)) I37 F25)) (Q (.returned (vt false)) I37 F25)) (Q (.returned (vt false)) I37 F25)) (Q (.returned (vt false)) I37 F25)) (Dt (y>0) (It (au==(wr ((wr (y+ao))+2))) (It (aB==au) (It (aC==(wr ((wr (y+ao))+1))) (It (aD==(wr ((wr (ao+ar))+1))) (It (aE==(wr (y+1))) (Q (.returned (vt (aK==y))) I37 F25) (Q (.returned (vt false)) I37 F25)) (Q (.returned (vt false)) I37 F25)) (Q (.returned (vt false)) I37 F25)) (Q (.returned (vt false)) I37 F25)) (Q (.returned (vt false)) I37 F25)) (Q (.returned (vt false)) I37 F25))))))) (It true (Q (.returned (vt true)) I5 F5) (cE P 12 #[nV q s t u v w h i j x] I5 ((d e)::(c f)::(a g)::·) F5 vi fun z I38 F26=>cE P 12 #[nV aa ab ac ad ae af k l m ag] I38 ((d e)::(c f)::(a g)::·) F26 vi fun ap I39 F27=>cE P 12 #[nV ah ai aj ak al am n o p an] I39 ((d e)::(c f)::(a g)::·) F27 vi fun av I40 F28=>∀(aO:Nat) (I41:cc),cc.le I40 I41→I41 aO=some (Obj.cells #[vb q,vb s,vb t,vi u,vb v,vs w,vl h i j,vi x,vb aa,vb ab,vb ac,vi ad,vb ae,vs af,vl k l m,vi ag,vb ah,vb ai,vb aj,vi ak,vb al,vs am,vl n o p,vi an] 28 (0,0))→cE P 12 (#[nV 7 0 0 0 0 (⟨#[]⟩:Bs) (some ⟨aO,0,none⟩) 3 3 0]) I41 ((d e)::(c f)::(a g)::·) F28 vi fun aw I42 F29=>∀(aP:Nat) (I43:cc),cc.le I42 I43→I43 aP=some (Obj.cells #[vb q,vb s,vb t,vi u,vb v,vs w,vl h i j,vi x,vb ah,vb ai,vb aj,vi ak,vb al,vs am,vl n o p,vi an,vb aa,vb ab,vb ac,vi ad,vb ae,vs af,vl k l m,vi ag] 28 (0,0))→cE P 12 (#[nV 7 0 0 0 0 (⟨#[]⟩:Bs) (some ⟨aP,0,none⟩) 3 3 0]) I43 ((d e)::(c f)::(a g)::·) F29 vi fun aF I44 F30=>∀(aQ:Nat) (I45:cc),cc.le I44 I45→I45 aQ=some (Obj.cells #[vb q,vb s,vb t,vi u,vb v,vs w,vl h i j,vi x,vb aa,vb ab,vb ac,vi ad,vb ae,vs af,vl k l m,vi ag] 28 (0,0))→cE P 12 (#[nV 6 17 0 0 0 (⟨#[]⟩:Bs) (some ⟨aQ,0,none⟩) 2 2 0]) I45 ((d e)::(c f)::(a g)::·) F30 vi fun aG I46 F31=>∀(aR:Nat) (I47:cc),cc.le I46 I47→I47 aR=some (Obj.cells #[vb aa,vb ab,vb ac,vi ad,vb ae,vs af,vl k l m,vi ag,vb ah,vb ai,vb aj,vi ak,vb al,vs am,vl n o p,vi an] 28 (0,0))→cE P 12 (#[nV 8 4 0 0 0 (⟨#[]⟩:Bs) (some ⟨aR,0,none⟩) 2 2 0]) I47 ((d e)::(c f)::(a g)::·) F31 vi fun aH I48 F32=>∀(aS:Nat) (I49:cc),cc.le I48 I49→I49 aS=some (nO q s t u v w h i j x)→cE P 12 (#[nV 5 2 0 0 0 (⟨#[]⟩:Bs) (some ⟨aS,0,none⟩) 1 1 0]) I49 ((d e)::(c f)::(a g)::·) F32 vi fun aI I50 F33=>∀(aT:Nat) (I51:cc),cc.le I50 I51→I51 aT=some (nO q s t u v w h i j x)→cE P 12 (#[nV 9 0 1 0 0 (⟨#[]⟩:Bs) (some ⟨aT,0,none⟩) 1 1 0]) I51 ((d e)::(c f)::(a g)::·) F33 vi fun aL I52 F34=>(Dt (av>ap) (Dt (z>0) (It (aw==(wr ((wr (z+av))+2))) (It (aF==aw) (It (aG==(wr ((wr (z+ap))+1))) (It (aH==(wr ((wr (ap+av))+1))) (It (aI==(wr (z+1))) (Q (.returned (vt (aL==z))) I52 F34) (Q (.returned (vt false)) I52 F34)) (Q (.returned (vt false)) I52 F34)) (Q (.returned (vt false)) I52 F34)) (Q (.returned (vt false)) I52 F34)) (Q (.returned (vt false)) I52 F34)) (Q (.returned (vt false)) I52 F34)) (Dt (z>0) (It (aw==(wr ((wr (z+ap))+2))) (It (aF==aw) (It (aG==(wr ((wr (z+ap))+1))) (It (aH==(wr ((wr (ap+av))+1))) (It (aI==(wr (z+1))) (Q (.returned (vt (aL==z))) I52 F34) (Q (.returned (vt false)) I52 F34)) (Q (.returned (vt false)) I52 F34)) (Q (.returned (vt false)) I52 F34)) (Q (.returned (vt false)) I52 F34)) (Q (.returned (vt false)) I52 F34)) (Q (.returned (vt false)) I52 F34)))))))))))
theorem fI.vc{v w x y z:Int}{aa:Bs}{d:OA}{e g:Nat}{ab ac ad ae af ag:Int}{ah:Bs}{i:OA}{j m:Nat}{ai aj ak al am an:Int}{ao:Bs}{p:OA}{r u:Nat}{ap:Int}{I:cc}{F:bZ}{Q:cd}  (h:fI.V (fun b=>(b,Obj.cells #[.int .u8 aj,.int .u8 ak,.int .u8 al,.int .i64 am,.int .u8 an,.string ao,.slice p r u,.int .i64 ap] 28 (0,0))) (fun b=>(b,Obj.cells #[.int .u8 ac,.int .u8 ad,.int .u8 ae,.int .i64 af,.int .u8 ag,.string ah,.slice i j m,.int .i64 ai] 28 (0,0))) (fun b=>(b,Obj.cells #[.int .u8 v,.int .u8 w,.int .u8 x,.int .i64 y,.int .u8 z,.string aa,.slice d e g,.int .i64 ab] 28 (0,0))) (fun k o t n f s a l c q=>.agg #[.int .u8 k,.int .u8 o,.int .u8 t,.int .i64 n,.int .u8 f,.string s,.slice a l c,.int .i64 q]) (fun k o t n f s a l c q=>.cells #[.int .u8 k,.int .u8 o,.int .u8 t,.int .i64 n,.int .u8 f,.string s,.slice a l c,.int .i64 q] 28 (0,0)) (.int .u8) (.int .i64) .string .slice .bool (IntKind.wrap .i64) v w x y z aa d e g ab ac ad ae af ag ah i j m ai aj ak al am an ao p r u ap I F Q):cf P 4 #[.agg #[.int .u8 v,.int .u8 w,.int .u8 x,.int .i64 y,.int .u8 z,.string aa,.slice d e g,.int .i64 ab],.agg #[.int .u8 ac,.int .u8 ad,.int .u8 ae,.int .i64 af,.int .u8 ag,.string ah,.slice i j m,.int .i64 ai],.agg #[.int .u8 aj,.int .u8 ak,.int .u8 al,.int .i64 am,.int .u8 an,.string ao,.slice p r u,.int .i64 ap]] I F Q :=
 tw (A:=(cQ [5001,5003,5006,5009,7001,7004,8001,20002,22001,22008,22013,22021,22029,22035] [] [9,10,12,15] sk [] [13003,14003,15002,16002,17001,18001] [] [] [] [] [])) [9,10,12,15] func4 h
end Go.Lx
namespace Go.Lx
open Go.Vc
theorem yZ(a b c:Px):(Px.mk 7 0 0 0 0 ⟨#[]⟩ [a,b,c] 0).wt=a.wt+max b.wt c.wt+2:=by rw[Px.tx];rfl
theorem BO{k:Int}(hk:k=6∨k=8)(o:Int)(a b:Px):(Px.mk k o 0 0 0 ⟨#[]⟩ [a,b] 0).wt=a.wt+b.wt+1:=by
 rw[Px.tx]
 show Cw k [a.wt,b.wt]=_
 unfold Cw
 rw[if_neg (by omega),if_neg (by omega)]
 show 1+(a.wt+(b.wt+0))=_
 omega
theorem DH(a:Px):(Px.mk 5 2 0 0 0 ⟨#[]⟩ [a] 0).wt=a.wt+1:=by
 rw[Px.tx]
 show 1+(a.wt+0)=_
 omega
theorem CD(a:Px):(Px.mk 9 0 1 0 0 ⟨#[]⟩ [a] 0).wt=a.wt:=by
 rw[Px.tx]
 show 0+(a.wt+0)=_
 omega
theorem tD{k o ty:Int}{l:List Nd}{m n c:Nat}(h1:Px.eW (Px.mk k o ty 0 0 ⟨#[]⟩ (l.map Nd.px) 0)=true)(hf:∀x∈l,x.px.formed=true)(hs:Px.cR (l.map Nd.px)≤3145728){I:cc}{F:bZ}
  (hm:I m=some (.cells (l.flatMap Nd.enc).toArray 28 (0,0))) (ho:∀x∈l,cy I F x) (hn:n=l.length) :
  cf P 12 #[.agg #[.int .u8 k,.int .u8 o,.int .u8 ty,.int .i64 0,.int .u8 0,.string ⟨#[]⟩,.slice (some ⟨m,0,none⟩) n c,.int .i64 0]] I F (gE (.int .i64 (Px.mk k o ty 0 0 ⟨#[]⟩ (l.map Nd.px) 0).wt) F):=by
 subst hn
 have hk:cy I F (.mk k o ty 0 0 ⟨#[]⟩ (some ⟨m,0,none⟩) c l 0):=cy.Ej hm ho ..
 have hL:∀q:List Nd,Nd.vw q=q.map Nd.px:=fun q=>by induction q with
  | nil=>rfl
  | cons x r ih=>rw[Nd.vw,ih];rfl
 have hp:(Nd.mk k o ty 0 0 ⟨#[]⟩ (some ⟨m,0,none⟩) c l 0).px=Px.mk k o ty 0 0 ⟨#[]⟩ (l.map Nd.px) 0:=by rw[Nd.px,hL]
 have hfL:∀q:List Px,(∀x∈q,x.formed=true)→Px.eu q=true:=fun q=>by induction q with
  | nil=>intro _;rfl
  | cons x r ih=>intro h;rw[Px.eu,h x (.head _),ih fun y hy=>h y (.tail _ hy)];rfl
 have hfm:(Px.mk k o ty 0 0 ⟨#[]⟩ (l.map Nd.px) 0).formed=true:=by
  rw[Px.dK,h1]
  show (true&&Px.eu (l.map Nd.px))=true
  rw[hfL _ fun x hx=>by obtain⟨y,hy,rfl⟩:=List.mem_map.1 hx;exact hf y hy];rfl
 have:=fW _ (by rw[hp,Px.size_eq];show 1+Px.cR (l.map Nd.px)≤_;omega) I F hk
 rw[hp,hfm] at this
 exact this
set_option maxHeartbeats 2000000 in
theorem sm(a b c:Nd)(hsa:a.px.eY)(hsb:b.px.eY)(hsc:c.px.eY)(I:cc)(hg:Gl I)(F:bZ)(ka:cy I F a)(kb:cy I F b)(kc:cy I F c) :
  cf P 4 #[a.v,b.v,c.v] I F fun e I' G=>e=.returned (.bool true):=by
 refine fI.vc ?_
 unfold fI.V
 intro b_a b_b b_c
 have oka:∀{J:cc} {G:bZ},cc.le I J→(∀a,a∈F→a∈G)→cy J G a:=fun hl h=>ka.mono hl h
 have okb:∀{J:cc} {G:bZ},cc.le I J→(∀a,a∈F→a∈G)→cy J G b:=fun hl h=>kb.mono hl h
 have okc:∀{J:cc} {G:bZ},cc.le I J→(∀a,a∈F→a∈G)→cy J G c:=fun hl h=>kc.mono hl h
 refine cf.ret (uG hg _) fun I1 l1=>⟨_,rfl,F,.refl _, ?_⟩
 refine cf.ret (jg a hsa I1 _ (oka l1 fun a ha=>by simp only[List.mem_cons,List.mem_append];simp only[ha,true_or,or_true])) fun I2 h2=>⟨_,rfl,F,.refl _, ?_⟩
 have l2:=cc.le_trans l1 h2
 refine cf.ret (jg b hsb I2 _ (okb l2 fun a ha=>by simp only[List.mem_cons,List.mem_append];simp only[ha,true_or,or_true])) fun I3 h3=>⟨_,rfl,F,.refl _, ?_⟩
 have l3:=cc.le_trans l2 h3
 refine cf.ret (jg c hsc I3 _ (okc l3 fun a ha=>by simp only[List.mem_cons,List.mem_append];simp only[ha,true_or,or_true])) fun I4 h4=>⟨_,rfl,F,.refl _, ?_⟩
 have l4:=cc.le_trans l3 h4
 refine⟨fun h=>(by cases h),fun _=>⟨fun _=>rfl,fun e1=>⟨fun _=>rfl,fun e2=>⟨fun _=>rfl,fun e3=>?_⟩⟩⟩⟩
 have sa:=rQ e1
 have sb:=rQ e2
 have sc:=rQ e3
 have pa:=Px.size_pos a.px
 have pb:=Px.size_pos b.px
 have pc:=Px.size_pos c.px
 refine cf.ret (lE a sa I4 _ (oka l4 fun a ha=>by simp only[List.mem_cons,List.mem_append];simp only[ha,true_or,or_true])) fun I5 h5=>⟨_,rfl,F,.refl _,fun fa=>?_,fun _=>⟨fun _=>rfl,fun h=>(by cases h)⟩⟩
 have l5:=cc.le_trans l4 h5
 refine cf.ret (lE b sb I5 _ (okb l5 fun a ha=>by simp only[List.mem_cons,List.mem_append];simp only[ha,true_or,or_true])) fun I6 h6=>⟨_,rfl,F,.refl _,fun fb=>?_,fun _=>⟨fun _=>rfl,fun h=>(by cases h)⟩⟩
 have l6:=cc.le_trans l5 h6
 refine cf.ret (lE c sc I6 _ (okc l6 fun a ha=>by simp only[List.mem_cons,List.mem_append];simp only[ha,true_or,or_true])) fun I7 h7=>⟨_,rfl,F,.refl _,fun _=>rfl,fun fc=>?_⟩
 have l7:=cc.le_trans l6 h7
 have fc:c.px.formed=true:=by simpa using fc
 have wa:=Px.gB a.px fa
 have wb:=Px.gB b.px fb
 have wc:=Px.gB c.px fc
 refine cf.ret (fW a (by omega) I7 _ (oka l7 fun a ha=>by simp only[List.mem_cons,List.mem_append];simp only[ha,true_or,or_true])) fun I8 h8=>⟨_,rfl,F,.refl _, ?_⟩
 have l8:=cc.le_trans l7 h8
 refine cf.ret (fW b (by omega) I8 _ (okb l8 fun a ha=>by simp only[List.mem_cons,List.mem_append];simp only[ha,true_or,or_true])) fun I9 h9=>⟨_,rfl,F,.refl _, ?_⟩
 have l9:=cc.le_trans l8 h9
 refine cf.ret (fW c (by omega) I9 _ (okc l9 fun a ha=>by simp only[List.mem_cons,List.mem_append];simp only[ha,true_or,or_true])) fun I10 h10=>⟨_,rfl,F,.refl _, ?_⟩
 have l10:=cc.le_trans l9 h10
 rw[fa,fb,fc,if_pos rfl,if_pos rfl,if_pos rfl]
 have z3:∀x y z:Px,Px.cR [x,y,z]=x.size+(y.size+(z.size+0)):=fun x y z=>by rw[Px.cR,Px.cR,Px.cR,Px.cR]
 have z2:∀x y:Px,Px.cR [x,y]=x.size+(y.size+0):=fun x y=>by rw[Px.cR,Px.cR,Px.cR]
 have z1:∀x:Px,Px.cR [x]=x.size+0:=fun x=>by rw[Px.cR,Px.cR]
 intro m1 I11 h11 hm1
 have l11:=cc.le_trans l10 h11
 refine cf.ret (tD (k:=7) (o:=0) (ty:=0) (l:=[a,b,c]) (by unfold Px.eW Px.oh Px.oj Px.arity;simp[Px.kind,Px.oper,Px.cq,Px.n,Px.field,Px.name,Px.kids,cN]) (fun x hx=>by
  simp only[List.mem_cons,List.not_mem_nil,or_false] at hx
  rcases hx with rfl | rfl | rfl<;>assumption) (by show Px.cR [a.px,b.px,c.px]≤_;rw[z3];omega) hm1 (fun x hx=>by
  simp only[List.mem_cons,List.not_mem_nil,or_false] at hx
  rcases hx with rfl | rfl | rfl
  ·exact oka l11 fun a ha=>by simp only[List.mem_cons,List.mem_append];simp only[ha,true_or,or_true]
  ·exact okb l11 fun a ha=>by simp only[List.mem_cons,List.mem_append];simp only[ha,true_or,or_true]
  ·exact okc l11 fun a ha=>by simp only[List.mem_cons,List.mem_append];simp only[ha,true_or,or_true]) rfl) fun I12 h12=>⟨_,rfl,F,.refl _, ?_⟩
 have l12:=cc.le_trans l11 h12
 intro m2 I13 h13 hm2
 have l13:=cc.le_trans l12 h13
 refine cf.ret (tD (k:=7) (o:=0) (ty:=0) (l:=[a,c,b]) (by unfold Px.eW Px.oh Px.oj Px.arity;simp[Px.kind,Px.oper,Px.cq,Px.n,Px.field,Px.name,Px.kids,cN]) (fun x hx=>by
  simp only[List.mem_cons,List.not_mem_nil,or_false] at hx
  rcases hx with rfl | rfl | rfl<;>assumption) (by show Px.cR [a.px,c.px,b.px]≤_;rw[z3];omega) hm2 (fun x hx=>by
  simp only[List.mem_cons,List.not_mem_nil,or_false] at hx
  rcases hx with rfl | rfl | rfl
  ·exact oka l13 fun a ha=>by simp only[List.mem_cons,List.mem_append];simp only[ha,true_or,or_true]
  ·exact okc l13 fun a ha=>by simp only[List.mem_cons,List.mem_append];simp only[ha,true_or,or_true]
  ·exact okb l13 fun a ha=>by simp only[List.mem_cons,List.mem_append];simp only[ha,true_or,or_true]) rfl) fun I14 h14=>⟨_,rfl,F,.refl _, ?_⟩
 have l14:=cc.le_trans l13 h14
 intro m3 I15 h15 hm3
 have l15:=cc.le_trans l14 h15
 refine cf.ret (tD (k:=6) (o:=17) (ty:=0) (l:=[a,b]) (by unfold Px.eW Px.oh Px.oj Px.arity;simp[Px.kind,Px.oper,Px.cq,Px.n,Px.field,Px.name,Px.kids,cN]) (fun x hx=>by
  simp only[List.mem_cons,List.not_mem_nil,or_false] at hx
  rcases hx with rfl | rfl<;>assumption) (by show Px.cR [a.px,b.px]≤_;rw[z2];omega) hm3 (fun x hx=>by
  simp only[List.mem_cons,List.not_mem_nil,or_false] at hx
  rcases hx with rfl | rfl
  ·exact oka l15 fun a ha=>by simp only[List.mem_cons,List.mem_append];simp only[ha,true_or,or_true]
  ·exact okb l15 fun a ha=>by simp only[List.mem_cons,List.mem_append];simp only[ha,true_or,or_true]) rfl) fun I16 h16=>⟨_,rfl,F,.refl _, ?_⟩
 have l16:=cc.le_trans l15 h16
 intro m4 I17 h17 hm4
 have l17:=cc.le_trans l16 h17
 refine cf.ret (tD (k:=8) (o:=4) (ty:=0) (l:=[b,c]) (by unfold Px.eW Px.oh Px.oj Px.arity;simp[Px.kind,Px.oper,Px.cq,Px.n,Px.field,Px.name,Px.kids,cN]) (fun x hx=>by
  simp only[List.mem_cons,List.not_mem_nil,or_false] at hx
  rcases hx with rfl | rfl<;>assumption) (by show Px.cR [b.px,c.px]≤_;rw[z2];omega) hm4 (fun x hx=>by
  simp only[List.mem_cons,List.not_mem_nil,or_false] at hx
  rcases hx with rfl | rfl
  ·exact okb l17 fun a ha=>by simp only[List.mem_cons,List.mem_append];simp only[ha,true_or,or_true]
  ·exact okc l17 fun a ha=>by simp only[List.mem_cons,List.mem_append];simp only[ha,true_or,or_true]) rfl) fun I18 h18=>⟨_,rfl,F,.refl _, ?_⟩
 have l18:=cc.le_trans l17 h18
 intro m5 I19 h19 hm5
 have l19:=cc.le_trans l18 h19
 refine cf.ret (tD (k:=5) (o:=2) (ty:=0) (l:=[a]) (by unfold Px.eW Px.oh Px.oj Px.arity;simp[Px.kind,Px.oper,Px.cq,Px.n,Px.field,Px.name,Px.kids,cN]) (fun x hx=>by rw[List.mem_singleton.1 hx];exact fa) (by show Px.cR [a.px]≤_;rw[z1];omega) hm5 (fun x hx=>by rw[List.mem_singleton.1 hx];exact oka l19 fun a ha=>by simp only[List.mem_cons,List.mem_append];simp only[ha,true_or,or_true]) rfl) fun I20 h20=>⟨_,rfl,F,.refl _, ?_⟩
 have l20:=cc.le_trans l19 h20
 intro m6 I21 h21 hm6
 have l21:=cc.le_trans l20 h21
 refine cf.ret (tD (k:=9) (o:=0) (ty:=1) (l:=[a]) (by unfold Px.eW Px.oh Px.oj Px.arity;simp[Px.kind,Px.oper,Px.cq,Px.n,Px.field,Px.name,Px.kids,cN]) (fun x hx=>by rw[List.mem_singleton.1 hx];exact fa) (by show Px.cR [a.px]≤_;rw[z1];omega) hm6 (fun x hx=>by rw[List.mem_singleton.1 hx];exact oka l21 fun a ha=>by simp only[List.mem_cons,List.mem_append];simp only[ha,true_or,or_true]) rfl) fun I22 h22=>⟨_,rfl,F,.refl _, ?_⟩
 have c1:=yZ a.px b.px c.px
 have c2:=yZ a.px c.px b.px
 have c3:=BO (.inl rfl) 17 a.px b.px
 have c4:=BO (.inr rfl) 4 b.px c.px
 have c5:=DH a.px
 have c6:=CD a.px
 try dsimp only
 try simp only[List.map]
 rw[c1,c2,c3,c4,c5,c6]
 generalize a.px.wt=x at *
 generalize b.px.wt=y at *
 generalize c.px.wt=z at *
 rw[dW (n:=x+z) (by omega),dW (n:=x+y) (by omega),dW (n:=y+z) (by omega),dW (n:=x+1) (by omega),dW (n:=x+z+2) (by omega),dW (n:=x+y+2) (by omega),dW (n:=x+y+1) (by omega),dW (n:=y+z+1) (by omega)]
 clear c1 c2 c3 c4 c5 c6
 constructor<;>intro q1<;>(try have q1:=of_decide_eq_true q1)<;>(try have q1:=of_decide_eq_false q1)
 all_goals
  refine⟨fun _=>⟨fun _=>⟨fun _=>⟨fun _=>⟨fun _=>⟨fun _=>?_,fun h=>?_⟩,fun h=>?_⟩,fun h=>?_⟩,fun h=>?_⟩,fun h=>?_⟩,fun h=>?_⟩
 all_goals (try (simp only[beq_self_eq_true]))
 all_goals first
  | (exfalso;simp only[beq_eq_false_iff_ne,ne_eq,decide_eq_false_iff_not,not_true_eq_false] at h;done)
  | (exfalso;simp only[beq_eq_false_iff_ne,ne_eq,decide_eq_false_iff_not] at h;omega)
end Go.Lx
namespace Go.Vc
open Go.ChangeShapes Go.WideShapes Go.ChangeAt Go.RowKit
theorem jr.cell{w w':World}(h:jr w w'){a:Addr}(ha:a.block<w.heap.size):w'.cell? a=w.cell? a:=by
 unfold World.cell?;rw[h.heap _ ha]
theorem jr.same{w w':World}(h:jr w w'){p:MemPlace}(hp:p.block<w.heap.size):w.sameAt w' p:=by
 cases p with
 | cell b off=>exact h.cell (a:=⟨b,off,none⟩) hp
 | map b=>exact h.heap b hp
theorem mW{H:Type}{enc:TypeId×Value→H}{P:Program}{T:TypeId→Prop}{w w':World}(K:Kids P T)(hsz:∀{t e:TypeId},T t→P.underlying t=some (.slice e)→0<P.cellsOf e)(st:jr w w'){sp':Nat→Bool} :
  ∀{ts:List TypeId} {vs:List Value} {ds:List (DataW H)} {ps:List MemPlace},(∀t∈ts,T t)→DataW.TrodAll enc P w 0 (fun _=>true) true ts vs ds ps→(∀p∈ps,sp' p.block=true)→DataW.TrodAll enc P w' 0 sp' true ts vs ds ps
 | [],[],[],ps,_,h,_=>h
 | t::ts,v::vs,d::ds,ps,ht,⟨p,q,⟨n,h1⟩,h2,e⟩,hs=>by
   subst e
   have hlt:∀x∈p,x.block<w.heap.size:=DataW.trod_lt n t v.cells.toList (d,p) h1
   refine⟨p,q,⟨n, ?_⟩,mW K hsz st (fun t' ht'=>ht t' (List.mem_cons_of_mem _ ht')) h2 (fun x hx=>hs x (List.mem_append_right _ hx)),rfl⟩
   exact DataW.trod_stays K hsz (fun h=>by cases h) (ht t (List.mem_cons_self ..)) h1 (fun x hx=>st.same (hlt x hx)) (fun x hx=>hs x (List.mem_append_left _ hx))
 | [],_::_,_,_,_,h,_=>h.elim
 | [],[],_::_,_,_,h,_=>h.elim
 | _::_,[],_,_,_,h,_=>h.elim
 | _::_,_::_,[],_,_,h,_=>h.elim
theorem pV{α:Type}{p:Nat→α→Prop}:∀(n:Nat),(∀i,i<n→∃x,p i x)→∃l:List α,l.length=n∧∀(i:Nat) (x:α),l[i]? = some x→p i x
 | 0,_=>⟨[],rfl,fun i x h=>by simp at h⟩
 | n+1,h=>by
   obtain⟨l,hl,hp⟩:=pV n fun i hi=>h i (by omega)
   obtain⟨x,hx⟩:=h n (by omega)
   refine⟨l++[x],by simp[hl],fun i y hy=>?_⟩
   rw[List.getElem?_append] at hy
   split at hy
   ·exact hp i y hy
   ·rename_i hi
    have:i-l.length=0:=by
     rcases Nat.eq_zero_or_pos (i-l.length) with h | h
     ·exact h
     ·rw[List.getElem?_eq_none (by simp;omega)] at hy;cases hy
    rw[this] at hy
    simp only[List.getElem?_cons_zero,Option.some.injEq] at hy
    subst hy
    have:i=n:=by omega
    rw[this];exact hx
theorem Rd.DI{W:World}{ad:Addr}{n:Nat}{cs:List Value}{base:Nat}(h:W.cells? base ad n=some cs)(hn:0<n)(G:bZ):ad.spot=none→Rd (cc.all W) G ad cs:=by
 intro hsp
 obtain⟨_,hl,hc⟩:=World.cells?_some h
 have h0:W.cell? ad=cs[0]?:=by have:=hc 0 hn;rwa [show ad.add 0=ad from rfl] at this
 have hlen:cs.length=n:=hl
 unfold World.cell? at h0
 cases hb:W.heap[ad.block]? with
 | none=>rw[hb] at h0;simp only at h0;rw[List.getElem?_eq_getElem (by omega)] at h0;cases h0
 | some o =>
   cases o with
   | cells c e fz =>
     refine⟨hsp,c,e,fz,.inl hb,fun j hj=>?_⟩
     have h1:=hc j (by omega)
     have hadd:ad.add j=⟨ad.block,ad.off+j,none⟩:=by
      obtain⟨b,off,sp⟩:=ad
      simp only at hsp;subst hsp
      unfold Addr.add;split<;>simp_all
     rw[hadd] at h1
     unfold World.cell? at h1
     simp only[hb] at h1
     simpa using h1
   | _=>rw[hb] at h0;simp only at h0;rw[List.getElem?_eq_getElem (by omega)] at h0;cases h0
def dV{H α:Type}(en:TypeId×Value→H)(P:Program)(W:World)(sp:Nat→Bool)(hd:Bool)(n:Nat)(t:TypeId)(f:α→List Value)(R S:α→Prop):Prop :=
 ∀cs d ps,DataW.trod en P W 0 sp hd n t cs=some (d,ps)→∃x,cs=f x∧R x∧((∀m∈d.weights P t,m≤reachBytes)→S x)
def fN{H α:Type}(en:TypeId×Value→H)(P:Program)(W:World)(sp:Nat→Bool)(hd:Bool)(n:Nat)(z:Nat)(fs:List (TypeId×Nat))(o:Nat)(f:α→List Value)(R S:α→Prop):Prop :=
 ∀(cs:List Value) (xs:List (DataW H×List MemPlace)),(fs.mapM fun p=>DataW.trod en P W 0 sp hd n p.1 ((cs.drop p.2).take (P.cellsOf p.1)))=some xs→cs.length=z→∃x,cs.drop o=f x∧R x∧((∀m∈DataW.weightsEach P (fs.map Prod.fst) (xs.map Prod.fst),m≤reachBytes)→S x)
def ql(P:Program)(t:TypeId)(l:List (TypeId×Nat))(z:Nat):Bool:=match P.underlying t with
 | some (.struct fs)=>(fs.toList.map fun f=>(f.type,f.offset))==l&&P.cellsOf t==z
 | _=>false
theorem wK{α β γ:Type}(h:α→β)(g:β→Option γ):∀l:List α,(l.map h).mapM g=l.mapM fun x=>g (h x)
 | []=>rfl
 | x::l=>by simp[List.mapM_cons,wK h g l]
section
variable {H:Type} {en:TypeId×Value→H} {P:Program} {W:World} {sp:Nat→Bool} {hd:Bool} {n:Nat}
theorem fN.nil{z:Nat}:fN en P W sp hd n z [] z (fun _:Unit=>[]) (fun _=>True) (fun _=>True):=by
 intro cs xs h hl
 exact⟨(),List.drop_eq_nil_of_le (by omega),trivial,fun _=>trivial⟩
theorem fN.cons{α β:Type}{z o k:Nat}{t:TypeId}{fs:List (TypeId×Nat)}{f:α→List Value}{g:β→List Value}{R S:α→Prop}{R' S':β→Prop}(h:dV en P W sp hd n t f R S)(hc:P.cellsOf t=k)
  (hs:fN en P W sp hd n z fs (o+k) g R' S'):fN en P W sp hd n z ((t,o)::fs) o (fun x:α×β=>f x.1++g x.2) (fun x=>R x.1∧R' x.2) (fun x=>S x.1∧S' x.2):=by
 intro cs xs hm hl
 rw[List.mapM_cons] at hm
 cases h0:DataW.trod en P W 0 sp hd n t ((cs.drop o).take (P.cellsOf t)) with
 | none=>simp[h0] at hm
 | some x0 =>
   cases h1:(fs.mapM fun p=>DataW.trod en P W 0 sp hd n p.1 ((cs.drop p.2).take (P.cellsOf p.1))) with
   | none=>simp[h0,h1] at hm
   | some ys =>
     simp[h0,h1] at hm
     subst hm
     obtain⟨d0,p0⟩:=x0
     obtain⟨x,e1,r1,s1⟩:=h _ _ _ h0
     obtain⟨y,e2,r2,s2⟩:=hs _ _ h1 hl
     refine⟨(x,y), ?_,⟨r1,r2⟩,fun hw=>⟨s1 fun m hm=>hw m ?_,s2 fun m hm=>hw m ?_⟩⟩
     ·show cs.drop o=f x++g y
      rw[←e1,←e2,hc,←List.drop_drop,List.take_append_drop]
     ·simp only[List.map_cons,DataW.weightsEach,List.mem_append];exact .inl hm
     ·simp only[List.map_cons,DataW.weightsEach,List.mem_append];exact .inr hm
theorem dV.struct{α:Type}{z:Nat}{t:TypeId}{fs:List (TypeId×Nat)}{f:α→List Value}{R S:α→Prop}(ht:ql P t fs z=true)(h:fN en P W sp hd n z fs 0 f R S):dV en P W sp hd (n+1) t f R S:=by
 intro cs d ps hr
 unfold ql at ht
 split at ht
 ·rename_i gs hg
  simp only[Bool.and_eq_true,beq_iff_eq] at ht
  obtain⟨ht,hz⟩:=ht
  simp only[DataW.trod,hg] at hr
  split at hr
  ·rename_i hl
   rw[hz] at hl
   cases hm:gs.toList.mapM fun f=>DataW.trod en P W 0 sp hd n f.type ((cs.drop f.offset).take (P.cellsOf f.type)) with
   | none=>rw[hm] at hr;cases hr
   | some xs =>
     rw[hm] at hr
     simp only[Option.map_some,Option.some.injEq,Prod.mk.injEq] at hr
     have hm':(fs.mapM fun p=>DataW.trod en P W 0 sp hd n p.1 ((cs.drop p.2).take (P.cellsOf p.1)))=some xs:=by rw[←ht,wK];exact hm
     obtain⟨x,e,r,s⟩:=h cs xs hm' hl
     refine⟨x,by simpa using e,r,fun hw=>s fun m hmm=>hw m ?_⟩
     rw[←hr.1]
     simp only[DataW.weights,hg]
     have:gs.toList.map (fun f=>f.type)=fs.map Prod.fst:=by rw[←ht,List.map_map];rfl
     rw[this];exact hmm
  ·cases hr
 ·cases ht
theorem dV.map{α β:Type}{t:TypeId}{f:α→List Value}{g:β→List Value}{R S:α→Prop}{R' S':β→Prop}(h:dV en P W sp hd n t f R S)(φ:α→β)(hf:∀x,R x→f x=g (φ x))(hr:∀x,R x→R' (φ x))(hs:∀x,R x→S x→S' (φ x)):dV en P W sp hd n t g R' S':=by
 intro cs d ps hd
 obtain⟨x,e,r,s⟩:=h cs d ps hd
 exact⟨φ x,e.trans (hf x r),hr x r,fun hw=>hs x r (s hw)⟩
theorem dV.int{k:IntKind}{t:TypeId}(ht:P.underlying t=some (.int k)):dV en P W sp hd n t (fun x:Int=>[.int k x]) (fun x=>(Lit.int k x).wf=true) (fun _=>True):=by
 intro cs d ps h
 obtain⟨x,e,_,hw⟩:=DataW.trod_int ht h
 exact⟨x,e,hw,fun _=>trivial⟩
theorem dV.str{t:TypeId}(ht:P.underlying t=some .string):dV en P W sp hd n t (fun x:ByteArray=>[.string x]) (fun x=>x.size≤maxLen) (fun x=>x.size≤reachBytes):=by
 intro cs d ps h
 obtain⟨s,e,hx,hl⟩:=DataW.trod_string ht h
 refine⟨s,e,hl,fun hw=>?_⟩
 simp only[Prod.mk.injEq] at hx
 have:=hw s.data.toList.length (by rw[hx.1];simp[DataW.weights])
 simpa using this
structure EW (β:Type) where
 a:Option Addr
 n:Nat
 c:Nat
 l:List β
theorem dV.slice{β:Type}{z by':Nat}{t e:TypeId}{f:β→List Value}{R S:β→Prop}(ht:P.underlying t=some (.slice e))(hc:P.cellsOf e=z)(hz:0<z)(hb:P.bytesOf e=by')(hb1:1≤by')(hf:∀x,(f x).length=z)(h:dV en P W sp hd n e f R S) :
  dV en P W sp hd (n+1) t (fun s:EW β=>[.slice s.a s.n s.c]) (fun s=>gg (cc.all W) [] z f s.a s.n s.l∧∀x∈s.l,R x) (fun s=>s.l.length≤reachBytes∧∀x∈s.l,S x):=by
 intro cs d ps hr
 rcases DataW.trod_slice ht hr with ⟨h1,h2⟩ | ⟨ad,len,cap,elems,rest,n',hn,hcs,hx,_,_,_,hlen,hel,_,_⟩
 ·exact⟨⟨none,0,0,[]⟩,h1,⟨⟨rfl,fun h=>absurd rfl h⟩,fun x hx=>by cases hx⟩,fun _=>⟨by simp,fun x hx=>by cases hx⟩⟩
 ·cases hn
  simp only[Prod.mk.injEq] at hx
  obtain⟨hdd,hps⟩:=hx
  clear hps
  subst hcs
  have hone:∀i,i<len→∃x,Rd (cc.all W) [] (ad.add (i*z)) (f x)∧R x∧((∀y∈elems,∀m∈y.1.weights P e,m≤reachBytes)→S x):=by
   intro i hi
   have hfy:=hel i hi
   obtain⟨y,hy⟩:∃y,elems[i]? = some y:=⟨_,List.getElem?_eq_getElem (by omega)⟩
   rw[hc,hy] at hfy
   cases hcs:W.cells? 0 (ad.add (i*z)) z with
   | none=>rw[hcs] at hfy;cases hfy
   | some cs =>
     rw[hcs] at hfy
     simp only[Option.bind_some] at hfy
     obtain⟨x,e1,r1,s1⟩:=h cs y.1 y.2 hfy
     subst e1
     have hspk:(ad.add (i*z)).spot=none:=by
      obtain⟨_,hl,hc'⟩:=World.cells?_some hcs
      have h0:=hc' 0 hz
      rw[show (ad.add (i*z)).add 0=ad.add (i*z) from rfl,List.getElem?_eq_getElem (by rw[hf];omega)] at h0
      cases hs:(ad.add (i*z)).spot with
      | none=>rfl
      | some q =>
        unfold World.cell? at h0
        split at h0<;>simp_all
     refine⟨x,Rd.DI hcs hz [] hspk,r1,fun hw=>s1 fun m hm=>hw y (List.mem_of_getElem? hy) m hm⟩
  obtain⟨l,hll,hlx⟩:=pV len hone
  refine⟨⟨some ad,len,cap,l⟩,rfl,⟨⟨hll.symm,fun _=>⟨ad,rfl,fun i x hx=>(hlx i x hx).1⟩⟩,fun x hx=>?_⟩,fun hw=>⟨?_,fun x hx=>?_⟩⟩
  ·obtain⟨i,hi,rfl⟩:=List.mem_iff_getElem.1 hx
   exact (hlx i _ (List.getElem?_eq_getElem hi)).2.1
  ·have h1:=hw ((elems.length+rest.length)*by') (by rw[hdd];simp only[DataW.weights,ht,List.length_map,hb];exact List.mem_cons_self ..)
   have h2:elems.length+rest.length≤(elems.length+rest.length)*by':=Nat.le_mul_of_pos_right _ hb1
   show l.length≤reachBytes
   omega
  ·obtain⟨i,hi,rfl⟩:=List.mem_iff_getElem.1 hx
   refine (hlx i _ (List.getElem?_eq_getElem hi)).2.2 fun y hy m hm=>hw m ?_
   rw[hdd]
   simp only[DataW.weights,ht]
   refine List.mem_cons_of_mem _ (List.mem_append_left _ ?_)
   clear hx hlen hel hone hlx hdd hr hw hi hll
   induction elems with
   | nil=>cases hy
   | cons q qs ihq =>
     simp only[List.map_cons,DataW.weightsAll,List.mem_append]
     rcases List.mem_cons.1 hy with rfl | hy
     ·exact .inl hm
     ·exact .inr (ihq hy)
theorem dV.zero{α:Type}{t:TypeId}{f:α→List Value}{R S:α→Prop}:dV en P W sp hd 0 t f R S:=fun cs d ps h=>by cases h
end
end Go.Vc
namespace Go.Lx
open Go.Vc Go.ChangeShapes Go.WideShapes Go.ChangeAt Go.RowKit
def EX:List (TypeId×Nat):=[(22,0),(23,1),(24,2),(2,3),(25,4),(9,5),(26,6),(3,7)]
theorem Ep{x:Int}(h:(Lit.int .u8 x).wf=true):0≤x∧x≤255:=by
 simp[Lit.wf,IntKind.min,IntKind.max,IntKind.signed,IntKind.bits] at h;omega
theorem Em{x:Int}(h:(Lit.int .i64 x).wf=true) : -9223372036854775808≤x∧x≤9223372036854775807:=by
 simp[Lit.wf,IntKind.min,IntKind.max,IntKind.signed,IntKind.bits] at h;omega
theorem Wf.mk{t:Nd}(h:t.px.Fit)(hk:∀k∈t.kids,k.px.Wf):t.px.Wf:=by
 intro y hy
 rw[←vI] at hy
 obtain⟨x,hx,rfl⟩:=List.mem_map.1 hy
 rw[Nd.om] at hx
 rcases List.mem_cons.1 hx with rfl | hx
 ·exact h
 ·have hL:∀l:List Nd,(∀k∈l,k.px.Wf)→x∈Nd.gi l→x.px.Fit:=by
   intro l
   induction l with
   | nil=>intro _ h;rw[Nd.gi] at h;cases h
   | cons z r ih =>
     intro hz h
     rw[Nd.gi] at h
     rcases List.mem_append.1 h with h | h
     ·exact Wf.nd (hz z (List.mem_cons_self ..)) x h
     ·exact ih (fun k hk=>hz k (List.mem_cons_of_mem _ hk)) h
  exact hL _ hk hx
theorem CE{H:Type}{en:TypeId×Value→H}{W:World}{sp:Nat→Bool}{hd:Bool}:∀n,dV en P W sp hd n 28 Nd.enc (fun t=>cy (cc.all W) [] t∧t.px.Wf) (fun t=>t.px.eY):=by
 intro n
 induction n using Nat.strongRecOn with
 | ind n ih =>
   cases n with
   | zero=>exact dV.zero
   | succ n =>
     have hsl:dV en P W sp hd n 26 (fun s:EW Nd=>[.slice s.a s.n s.c]) (fun s=>gg (cc.all W) [] 8 Nd.enc s.a s.n s.l∧∀x∈s.l,cy (cc.all W) [] x∧x.px.Wf) (fun s=>s.l.length≤reachBytes∧∀x∈s.l,x.px.eY):=by
      cases n with
      | zero=>exact dV.zero
      | succ n=>exact dV.slice (z:=8) (by':=72) (by kernel_rfl) (by kernel_rfl) (by decide) (by kernel_rfl) (by decide) Nd.og (ih n (by omega))
     refine (dV.struct (z:=8) (fs:=EX) (by kernel_rfl) ((fN.cons (k:=1) (dV.int (k:=.u8) (by kernel_rfl)) (by kernel_rfl)<|fN.cons (k:=1) (dV.int (k:=.u8) (by kernel_rfl)) (by kernel_rfl)<|fN.cons (k:=1) (dV.int (k:=.u8) (by kernel_rfl)) (by kernel_rfl) <|
      fN.cons (k:=1) (dV.int (k:=.i64) (by kernel_rfl)) (by kernel_rfl)<|fN.cons (k:=1) (dV.int (k:=.u8) (by kernel_rfl)) (by kernel_rfl)<|fN.cons (k:=1) (dV.str (by kernel_rfl)) (by kernel_rfl)<|fN.cons (k:=1) hsl (by kernel_rfl) <|
      fN.cons (k:=1) (dV.int (k:=.i64) (by kernel_rfl)) (by kernel_rfl) fN.nil))).map (fun x=>Nd.mk x.1 x.2.1 x.2.2.1 x.2.2.2.1 x.2.2.2.2.1 x.2.2.2.2.2.1 x.2.2.2.2.2.2.1.a x.2.2.2.2.2.2.1.c x.2.2.2.2.2.2.1.l x.2.2.2.2.2.2.2.1) ?_ ?_ ?_
     ·intro ⟨k,o,ty,m,f,s,⟨a,l,c,ks⟩,q,u⟩ ⟨_,_,_,_,_,_,⟨h7,_⟩,_⟩
      have hl:l=ks.length:=h7.1
      subst hl;rfl
     ·intro ⟨k,o,ty,m,f,s,⟨a,l,c,ks⟩,q,u⟩ ⟨h1,h2,h3,h4,h5,h6,⟨h7,h8⟩,h9,_⟩
      have hl:l=ks.length:=h7.1
      subst hl
      refine⟨.mk h7 fun x hx=>(h8 x hx).1,Wf.mk ?_ fun x hx=>(h8 x hx).2⟩
      unfold Px.Fit
      rw[Nd.cT,Nd.iw,Nd.jL,Nd.zu,Nd.jZ,Nd.tZ]
      exact⟨Ep h1,Ep h2,Ep h3,Em h4,Ep h5,Em h9⟩
     ·intro ⟨k,o,ty,m,f,s,⟨a,l,c,ks⟩,q,u⟩ _ ⟨_,_,_,_,_,g6,⟨g7,g8⟩,_⟩
      refine .mk (by rw[Nd.gN];exact g6) (by rw[Nd.ia];exact g7) fun x hx=>?_
      rw[Nd.dX] at hx
      obtain⟨y,hy,rfl⟩:=List.mem_map.1 hx
      exact g8 y hy
theorem DJ{P:Program}{W:World}{r:Reach}{b0:Nat}{t:TypeId}{v:Value}{fs:List (TypeId×Nat)}{z:Nat}(hst:ql P t fs z=true)(hval:Value.okWide P W r b0 t v):v=.agg v.cells.toList.toArray:=by
 unfold ql at hst
 split at hst
 ·rename_i gs hg
  have h5:=okWide_struct hg hval
  obtain⟨cs,hv,hcs⟩:=h5
  clear hcs
  subst hv
  rfl
 ·cases hst
theorem pj{H:Type}{en:TypeId×Value→H}{W:World}{base:Nat}{sp:Nat→Bool}{hd:Bool}{v:Value}{d:DataW H}{ps:List MemPlace}{r:Reach}(hval:Value.okWide P W r base 28 v)(h:DataW.Trod en P W 0 sp hd 28 v d ps) :
  ∃t:Nd,v=t.v∧cy (cc.all W) [] t∧t.px.Wf∧((∀m∈d.weights P 28,m≤reachBytes)→t.px.eY):=by
 have hv:=DJ (fs:=EX) (z:=8) (by kernel_rfl) hval
 obtain⟨fuel,hf⟩:=h
 obtain⟨t,e,⟨h1,h2⟩,h3⟩:=CE fuel _ d ps hf
 exact⟨t,by rw[hv,e],h1,h2,h3⟩
end Go.Lx
