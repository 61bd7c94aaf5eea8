import Derived.Test.YtmbkaikdndflbaaGreatDoorCostStrategiesB6
set_option linter.unusedVariables false
set_option linter.unusedSimpArgs false
set_option linter.unusedSectionVars false
set_option maxRecDepth 100000
namespace Go.Lx
open Go.Vc
theorem sumW_nonneg:∀{l:List Int},(∀x∈l,0≤x)→0≤sumW l
 | [],_=>Int.le_refl 0
 | x::r,h=>by
   have h1:=h x (.head _)
   have h2:=sumW_nonneg fun y hy=>h y (.tail _ hy)
   rw[sumW];omega
theorem sumW_most{B:Int}:∀{l:List Int},(∀x∈l,x≤B)→sumW l≤B*l.length
 | [],_=>by rw[sumW];simp
 | x::r,h=>by
   have h1:=h x (.head _)
   have h2:=sumW_most fun y hy=>h y (.tail _ hy)
   rw[sumW,List.length_cons,Int.natCast_add,Int.mul_add];omega
structure Px.Part (x:Px):Prop where
 ok:x.kind=0∨x.formed=true
 size:x.size≤1048576
theorem Px.Part.range{x:Px}(h:x.Part):0≤partW x∧partW x≤2097152:=by
 unfold partW
 split
 ·omega
 ·rename_i h0
  have:=Px.wt_range x (h.ok.resolve_left h0)
  have:=h.size
  omega
def DoP.Sound(d:DoP):Prop:=∀x∈d.nds,x.Part
theorem DoP.Sound.range{d:DoP}(h:d.Sound):0≤d.wt∧d.wt≤8388608:=by
 have h1:=(h d.side (.head _)).range
 have h2:=(h d.qty (.tail _ (.head _))).range
 have h3:=(h d.price (.tail _ (.tail _ (.head _)))).range
 have h4:=(h d.value (.tail _ (.tail _ (.tail _ (.head _))))).range
 unfold DoP.wt;omega
structure RuleP.Sound (r:RuleP):Prop where
 when:r.when.formed=true
 size:r.when.size≤1048576
 len:r.dos.length≤8
 dos:∀d∈r.dos,d.Sound
theorem RuleP.Sound.body{r:RuleP}(h:r.Sound):0≤r.body∧r.body≤67108864:=by
 have h1:=sumW_nonneg (l:=r.dos.map DoP.wt) fun x hx=>by obtain⟨d,hd,rfl⟩:=List.mem_map.1 hx;exact (h.dos d hd).range.1
 have h2:=sumW_most (B:=8388608) (l:=r.dos.map DoP.wt) fun x hx=>by obtain⟨d,hd,rfl⟩:=List.mem_map.1 hx;exact (h.dos d hd).range.2
 rw[List.length_map] at h2
 have h3:=h.len
 unfold RuleP.body;omega
theorem DoP.act_range(d:DoP):0≤d.act∧d.act≤1:=by unfold DoP.act;split<;>omega
theorem RuleP.acts_range(r:RuleP):0≤r.acts∧r.acts≤r.dos.length:=by
 have h1:=sumW_nonneg (l:=r.dos.map DoP.act) fun x hx=>by obtain⟨d,hd,rfl⟩:=List.mem_map.1 hx;exact d.act_range.1
 have h2:=sumW_most (B:=1) (l:=r.dos.map DoP.act) fun x hx=>by obtain⟨d,hd,rfl⟩:=List.mem_map.1 hx;exact d.act_range.2
 rw[List.length_map] at h2
 unfold RuleP.acts;omega
structure StateP.Sound (x:StateP):Prop where
 len:x.rules.length≤12
 rules:∀r∈x.rules,r.Sound
structure StgP.Sound (s:StgP):Prop where
 some:0<s.states.length
 len:s.states.length≤12
 states:∀x∈s.states,x.Sound
theorem partE_part{b:Bool}{x:Px}(h:partE b x=0)(hs:x.size≤1048576):x.Part:=by
 refine⟨?_,hs⟩
 unfold partE at h
 split at h
 ·exact .inr (checkE_formed h)
 ·have:=errB_z (by decide) h
  unfold Px.noneB at this
  simp only[Bool.and_eq_true,beq_iff_eq] at this
  exact .inl this.1.1
theorem StgP.sound{s:StgP}(h:s.check=0)(hl:s.Thin):s.Sound:=by
 unfold StgP.check at h
 obtain⟨_,h⟩:=thenE_z h
 obtain⟨_,h⟩:=thenE_z h
 obtain⟨_,h⟩:=thenE_z h
 obtain⟨_,h⟩:=thenE_z h
 obtain⟨_,h⟩:=thenE_z h
 obtain⟨h0,h⟩:=thenE_z h
 obtain⟨h12,h⟩:=thenE_z h
 refine⟨of_decide_eq_true (errB_z (by decide) h0),of_decide_eq_true (errB_z (by decide) h12),fun x hx=>?_⟩
 have h1:=firstE_z h x hx
 have hxl:=(hl.state x hx).2
 unfold StateP.check at h1
 obtain⟨_,h1⟩:=thenE_z h1
 obtain⟨h2,h1⟩:=thenE_z h1
 refine⟨of_decide_eq_true (errB_z (by decide) h2),fun r hr=>?_⟩
 have h3:=firstE_z h1 r hr
 obtain⟨l1,l2,l3⟩:=hxl r hr
 unfold RuleP.check at h3
 obtain⟨hw,h3⟩:=thenE_z h3
 obtain⟨_,h3⟩:=thenE_z h3
 obtain⟨h8,h3⟩:=thenE_z h3
 refine⟨checkE_formed hw,l1,of_decide_eq_true (errB_z (by decide) h8),fun d hd=>?_⟩
 have h4:=firstE_z h3 d hd
 have l4:=l3 d hd
 unfold DoP.check at h4
 obtain⟨_,h4⟩:=thenE_z h4
 obtain⟨_,h4⟩:=thenE_z h4
 obtain⟨_,h4⟩:=thenE_z h4
 obtain⟨p1,h4⟩:=thenE_z h4
 obtain⟨p2,h4⟩:=thenE_z h4
 obtain⟨p3,p4⟩:=thenE_z h4
 intro y hy
 have hy':=l4 y hy
 simp only[DoP.nds,List.mem_cons,List.not_mem_nil,or_false] at hy
 rcases hy with rfl | rfl | rfl | rfl
 ·exact partE_part p1 hy'
 ·exact partE_part p2 hy'
 ·exact partE_part p3 hy'
 ·exact partE_part p4 hy'
theorem expr16_spec(t:Nd)(hs:t.px.size≤4194304)(I:Imm)(F:Heap)(ht:NdOk I F t):Tri P 12 #[t.v] I F (Ret (.int .i64 (if t.px.formed then t.px.wt else 0)) F):=by
 refine cost_Expr.vc ?_
 unfold cost_Expr.V
 intro b_n
 refine Tri.ret (checkExpr_specB t hs I _ (ht.cons (x:=(b_n,Obj.cells #[.int .u8 t.kind,.int .u8 t.oper,.int .u8 t.typ,.int .i64 t.n,.int .u8 t.field,.string t.name,.slice t.a t.kids.length t.c,.int .i64 t.pos] 28 (0,0))))) fun I1 l1=>⟨_,rfl,F,.refl _,fun h=>?_,fun h=>?_⟩
 ·have h:t.px.checkE=120:=by simpa using h
  have hf:t.px.formed=false:=by
   cases hf:t.px.formed with
   | false=>rfl
   | true=>unfold Px.checkE at h;rw[hf,if_pos rfl] at h;split at h<;>cases h
  rw[hf];exact⟨rfl,rfl⟩
 ·have h:t.px.checkE≠120:=by simpa using h
  have hf:t.px.formed=true:=by
   cases hf:t.px.formed with
   | true=>rfl
   | false=>exact absurd (by unfold Px.checkE;rw[hf];rfl) h
  refine Tri.ret (weight_spec t hs hf I1 _ ((ht.mono l1 fun _ h=>h).cons (x:=(b_n,Obj.cells #[.int .u8 t.kind,.int .u8 t.oper,.int .u8 t.typ,.int .i64 t.n,.int .u8 t.field,.string t.name,.slice t.a t.kids.length t.c,.int .i64 t.pos] 28 (0,0))))) fun I2 l2=>⟨_,rfl,F,.refl _, ?_⟩
  rw[hf];exact⟨rfl,rfl⟩
theorem enters_look:Enters P 41:=hP_of [41] (by kernel_rfl) _ (by decide)
theorem look16_spec(t:Nd)(hs:t.px.size≤4194304)(hf:t.px.formed=true)(b:Nat)(c:Int)(h0:0≤c)(h1:c≤1000000000)(I:Imm)(F:Heap)(ht:NdOk I F t) :
  Tri P 41 #[t.v,.pointer (some ⟨b,0,none⟩)] I ((b,.cells #[.int .i64 c] 3 (0,0))::F) fun e I' G=>e=.returned (.tuple #[])∧G=(b,.cells #[.int .i64 (c+t.px.wt)] 3 (0,0))::F:=by
 refine cost_States_1.vc ?_
 unfold cost_States_1.V
 intro b_n
 have hr:=Px.wt_range t.px hf
 refine⟨t.px.wt,(weight_spec t hs hf I _ (ht.mono (Imm.le_refl I) fun y hy=>.tail _ (.tail _ hy))).mono fun e I1 G l1 ⟨he,hG⟩=>⟨he,by rw[hG]⟩,rfl, ?_⟩
 rw[w64 (by omega)]
def partsN(d:DoN):List Nd:=[d.side,d.qty,d.price,d.value]
def sumK(l:List Nd):Int:=sumW (l.map fun y=>partW y.px)
theorem parts_sl{d:DoN}{b t:Nat}{fz:Nat×Nat}{I:Imm}(hb:I b=some (.cells #[.int .u8 d.side.kind,.int .u8 d.side.oper,.int .u8 d.side.typ,.int .i64 d.side.n,.int .u8 d.side.field,.string d.side.name,.slice d.side.a d.side.kids.length d.side.c,.int .i64 d.side.pos,.int .u8 d.qty.kind,.int .u8 d.qty.oper,.int .u8 d.qty.typ,.int .i64 d.qty.n,.int .u8 d.qty.field,.string d.qty.name,.slice d.qty.a d.qty.kids.length d.qty.c,.int .i64 d.qty.pos,.int .u8 d.price.kind,.int .u8 d.price.oper,.int .u8 d.price.typ,.int .i64 d.price.n,.int .u8 d.price.field,.string d.price.name,.slice d.price.a d.price.kids.length d.price.c,.int .i64 d.price.pos,.int .u8 d.value.kind,.int .u8 d.value.oper,.int .u8 d.value.typ,.int .i64 d.value.n,.int .u8 d.value.field,.string d.value.name,.slice d.value.a d.value.kids.length d.value.c,.int .i64 d.value.pos] t fz))(F:Heap):SlG I F 8 Nd.enc (some ⟨b,0,none⟩) 4 (partsN d) :=
 (Sl.of_block (f:=Nd.enc) (z:=8) (l:=partsN d) (fun _=>rfl) hb (fun k hk=>by
   show (List.toArray ((partsN d).flatMap Nd.enc))[k]? = _
   rw[List.getElem?_toArray])).slg F
theorem parts_ok{d:DoN}{I:Imm}{F:Heap}(h:d.Ok I F):∀x∈partsN d,NdOk I F x:=by
 intro x hx
 simp only[partsN,List.mem_cons,List.not_mem_nil,or_false] at hx
 rcases hx with rfl | rfl | rfl | rfl
 ·exact h.1
 ·exact h.2.1
 ·exact h.2.2.1
 ·exact h.2.2.2
theorem parts_sound{d:DoN}(h:d.p.Sound):∀x∈partsN d,x.px.Part:=fun x hx=>h x.px (by
 have:(partsN d).map Nd.px=d.p.nds:=rfl
 rw[←this];exact List.mem_map_of_mem hx)
theorem sumK_drop{l:List Nd}{i:Nat}{x:Nd}(h:l[i]? = some x):sumK (l.drop i)=partW x.px+sumK (l.drop (i+1)):=by
 obtain⟨hk,hx⟩:=List.getElem?_eq_some_iff.1 h
 unfold sumK
 rw[List.drop_eq_getElem_cons hk,List.map_cons,sumW,hx]
theorem sumK_nonneg{l:List Nd}(h:∀x∈l,x.px.Part):0≤sumK l:=sumW_nonneg fun x hx=>by
 obtain⟨y,hy,rfl⟩:=List.mem_map.1 hx
 exact (h y hy).range.1
theorem sumK_do(d:DoN):sumK (partsN d)=d.p.wt:=by
 show partW d.side.px+(partW d.qty.px+(partW d.price.px+(partW d.value.px+0)))=partW d.side.px+partW d.qty.px+partW d.price.px+partW d.value.px
 omega
theorem sumD_drop(f:DoP→Int){l:List DoN}{i:Nat}{x:DoN}(h:l[i]? = some x):sumW ((l.drop i).map fun d=>f d.p)=f x.p+sumW ((l.drop (i+1)).map fun d=>f d.p):=by
 obtain⟨hk,hx⟩:=List.getElem?_eq_some_iff.1 h
 rw[List.drop_eq_getElem_cons hk,List.map_cons,sumW,hx]
theorem sumD_nonneg{r:RuleN}(h:r.p.Sound)(i:Nat):0≤sumW ((r.dos.drop i).map fun d=>d.p.wt):=sumW_nonneg fun x hx=>by
 obtain⟨y,hy,rfl⟩:=List.mem_map.1 hx
 exact ((h.dos y.p (List.mem_map_of_mem (List.mem_of_mem_drop hy))).range).1
theorem body_eq(r:RuleN):r.p.body=sumW (r.dos.map fun d=>d.p.wt):=by
 show sumW ((r.dos.map DoN.p).map DoP.wt)=_
 rw[List.map_map];rfl
theorem acts_eq(r:RuleN):r.p.acts=sumW (r.dos.map fun d=>d.p.act):=by
 show sumW ((r.dos.map DoN.p).map DoP.act)=_
 rw[List.map_map];rfl
set_option maxHeartbeats 1000000 in
theorem each_spec(r:RuleN){I:Imm}{F:Heap}(hr:r.Ok I F)(hs:r.p.Sound)(b:Nat)(v:Int)(h0:0≤v)(h1:v≤100000000) :
  Tri P 40 #[r.v,.func (.func 41) #[] #[.pointer (some ⟨b,0,none⟩)]] I ((b,.cells #[.int .i64 v] 3 (0,0))::F) fun e I' G=>e=.returned (.tuple #[])∧G=(b,.cells #[.int .i64 (v+r.p.body)] 3 (0,0))::F:=by
 have hbd:=hs.body
 have hlen:=hs.len
 have hlen:r.dos.length≤8:=by simpa[RuleN.p] using hlen
 refine cost_each.vc
  (fun x m I0 F0 I' F'=>0≤x∧x≤r.dos.length∧m=(r.dos.length-x).toNat∧∃u,F'=(b,.cells #[.int .i64 u] 3 (0,0))::F∧0≤u∧u+sumW ((r.dos.drop x.toNat).map fun d=>d.p.wt)=v+r.p.body)
  (fun x k m I0 F0 I' F'=>∃d,r.dos[x.toNat]? = some d∧0≤k∧k≤4∧m=(4-k).toNat∧∃u,F'=(b,.cells #[.int .i64 u] 3 (0,0))::F∧0≤u∧u+sumK ((partsN d).drop k.toNat)+sumW ((r.dos.drop (x.toNat+1)).map fun d=>d.p.wt)=v+r.p.body) ?_
 unfold cost_each.V
 intro b_r
 refine⟨⟨_,by omega,by omega,rfl,v,rfl,h0, ?_⟩,fun x m I1 F1 l1 ⟨g0,g1,gm,u,gF,gu,gs⟩=>⟨fun hlt=>?_,fun hlt=>?_⟩⟩
 ·rw[body_eq];rfl
 ·have hlt:=of_decide_eq_true hlt
  have hr1:r.Ok I1 ((b_r,Obj.cells #[.int .u8 r.when.kind,.int .u8 r.when.oper,.int .u8 r.when.typ,.int .i64 r.when.n,.int .u8 r.when.field,.string r.when.name,.slice r.when.a r.when.kids.length r.when.c,.int .i64 r.when.pos,.slice r.a r.dos.length r.c,.int .i64 r.pos] 84 (0,0))::F1):=hr.mono l1 fun y hy=>by rw[gF];exact .tail _ (.tail _ hy)
  obtain⟨ad,d,had,hd,hrd,hdm⟩:=SlG.atm hr1.2.1 g0 hlt
  refine⟨⟨g0,hlt⟩,ad,had,_,_,_,_,_,_,_,_,_,_,_,_,_,_,_,_,_,_,_,_,_,_,_,_,_,_,_,_,_,_,_,_,_,_,_,_,_,_,_,_,_,_,_,_,hrd,fun b_d b2 I2 l2 hb2=>⟨⟨_,d,hd,by omega,by omega,rfl,u,gF,gu, ?_⟩,fun k m3 I3 F3 l3 ⟨d',hd',k0,k4,km,u',kF,ku,ks⟩=>⟨fun hk=>?_,fun hk=>?_⟩⟩⟩
  ·rw[←gs,sumD_drop DoP.wt hd]
   show u+sumK (partsN d)+_=_
   rw[sumK_do,Int.add_assoc]
  ·obtain rfl:d=d':=by rw[hd] at hd';exact Option.some.inj hd'
   have hk:=of_decide_eq_true hk
   have hso:=parts_sound (hs.dos d.p (List.mem_map_of_mem hdm))
   obtain⟨ad1,x1,had1,hx1,hrd1,hxm⟩:=SlG.atm (parts_sl (l3.at hb2) ((b_r,Obj.cells #[.int .u8 r.when.kind,.int .u8 r.when.oper,.int .u8 r.when.typ,.int .i64 r.when.n,.int .u8 r.when.field,.string r.when.name,.slice r.when.a r.when.kids.length r.when.c,.int .i64 r.when.pos,.slice r.a r.dos.length r.c,.int .i64 r.pos] 84 (0,0))::(b_d,Obj.cells #[.int .u8 d.kind,.int .u8 d.order,.string d.name,.int .u8 d.side.kind,.int .u8 d.side.oper,.int .u8 d.side.typ,.int .i64 d.side.n,.int .u8 d.side.field,.string d.side.name,.slice d.side.a d.side.kids.length d.side.c,.int .i64 d.side.pos,.int .u8 d.qty.kind,.int .u8 d.qty.oper,.int .u8 d.qty.typ,.int .i64 d.qty.n,.int .u8 d.qty.field,.string d.qty.name,.slice d.qty.a d.qty.kids.length d.qty.c,.int .i64 d.qty.pos,.int .u8 d.price.kind,.int .u8 d.price.oper,.int .u8 d.price.typ,.int .i64 d.price.n,.int .u8 d.price.field,.string d.price.name,.slice d.price.a d.price.kids.length d.price.c,.int .i64 d.price.pos,.int .u8 d.value.kind,.int .u8 d.value.oper,.int .u8 d.value.typ,.int .i64 d.value.n,.int .u8 d.value.field,.string d.value.name,.slice d.value.a d.value.kids.length d.value.c,.int .i64 d.value.pos,.int .i64 d.pos] 99 (0,0))::F3)) k0 hk
   have hp:=hso x1 hxm
   have hpr:=hp.range
   have n1:=sumK_nonneg (l:=(partsN d).drop (k.toNat+1)) fun y hy=>hso y (List.mem_of_mem_drop hy)
   have n2:=sumD_nonneg hs (x.toNat+1)
   rw[sumK_drop hx1] at ks
   refine⟨⟨k0,hk⟩,ad1,had1,_,_,_,_,_,_,_,_,_,_,hrd1,fun b_n=>⟨fun hn=>?_,fun hn=>⟨(4-(k+1)).toNat,by omega,d,hd, ?_⟩⟩⟩
   ·have hn:x1.px.kind≠0:=by rw[Nd.px_kind];simpa using hn
    have hw:partW x1.px=x1.px.wt:=if_neg hn
    subst kF
    have hok:NdOk I3 ((b_r,Obj.cells #[.int .u8 r.when.kind,.int .u8 r.when.oper,.int .u8 r.when.typ,.int .i64 r.when.n,.int .u8 r.when.field,.string r.when.name,.slice r.when.a r.when.kids.length r.when.c,.int .i64 r.when.pos,.slice r.a r.dos.length r.c,.int .i64 r.pos] 84 (0,0))::(b_d,Obj.cells #[.int .u8 d.kind,.int .u8 d.order,.string d.name,.int .u8 d.side.kind,.int .u8 d.side.oper,.int .u8 d.side.typ,.int .i64 d.side.n,.int .u8 d.side.field,.string d.side.name,.slice d.side.a d.side.kids.length d.side.c,.int .i64 d.side.pos,.int .u8 d.qty.kind,.int .u8 d.qty.oper,.int .u8 d.qty.typ,.int .i64 d.qty.n,.int .u8 d.qty.field,.string d.qty.name,.slice d.qty.a d.qty.kids.length d.qty.c,.int .i64 d.qty.pos,.int .u8 d.price.kind,.int .u8 d.price.oper,.int .u8 d.price.typ,.int .i64 d.price.n,.int .u8 d.price.field,.string d.price.name,.slice d.price.a d.price.kids.length d.price.c,.int .i64 d.price.pos,.int .u8 d.value.kind,.int .u8 d.value.oper,.int .u8 d.value.typ,.int .i64 d.value.n,.int .u8 d.value.field,.string d.value.name,.slice d.value.a d.value.kids.length d.value.c,.int .i64 d.value.pos,.int .i64 d.pos] 99 (0,0))::(b_n,Obj.cells #[.int .u8 x1.kind,.int .u8 x1.oper,.int .u8 x1.typ,.int .i64 x1.n,.int .u8 x1.field,.string x1.name,.slice x1.a x1.kids.length x1.c,.int .i64 x1.pos] 28 (0,0))::F) x1:=(parts_ok (hr.2.2 d hdm) x1 hxm).mono (Imm.le_trans (Imm.le_trans l1 l2) l3) fun y hy=>.tail _ (.tail _ (.tail _ hy))
    have hsz:=hp.size
    refine TriV.fn enters_look (by simp) (((look16_spec x1 (by omega) (hp.ok.resolve_left hn) b u' ku (by omega) I3 _ hok).perm ?_).mono fun e I4 G l4 ⟨he,hG⟩=>⟨he,(b,.cells #[.int .i64 (u'+x1.px.wt)] 3 (0,0))::F, ?_,(4-(k+1)).toNat,by omega,d,hd, ?_⟩)
    ·exact (perm_of fun z=>by simp only[cn_app,cn_cons,cn_nil];omega)
    ·rw[hG];exact (perm_of fun z=>by simp only[cn_app,cn_cons,cn_nil];omega)
    ·rw[w64 (n:=k+1) (by omega)]
     refine⟨by omega,by omega,rfl,u'+x1.px.wt,rfl,by omega, ?_⟩
     rw[show (k+1).toNat=k.toNat+1 by omega,←ks,hw];omega
   ·have hn:x1.px.kind=0:=by rw[Nd.px_kind];simpa using hn
    have hw:partW x1.px=0:=if_pos hn
    rw[w64 (n:=k+1) (by omega)]
    refine⟨by omega,by omega,rfl,u',kF,ku, ?_⟩
    rw[show (k+1).toNat=k.toNat+1 by omega,←ks,hw];omega
  ·obtain rfl:d=d':=by rw[hd] at hd';exact Option.some.inj hd'
   have hk:=of_decide_eq_false hk
   refine⟨(r.dos.length-(x+1)).toNat,by omega, ?_⟩
   rw[w64 (n:=x+1) (by omega)]
   refine⟨by omega,by omega,rfl,u',kF,ku, ?_⟩
   rw[show (x+1).toNat=x.toNat+1 by omega,←ks,List.drop_eq_nil_of_le (show (partsN d).length≤k.toNat by show 4≤_;omega)]
   show _=u'+0+_
   omega
 ·have hlt:=of_decide_eq_false hlt
  rw[List.drop_eq_nil_of_le (by omega)] at gs
  have gs:u+0=v+r.p.body:=gs
  refine⟨rfl, ?_⟩
  rw[gF,←gs,Int.add_zero]
theorem acts16_spec(r:RuleN){I:Imm}{F:Heap}(hr:r.Ok I F)(hlen:r.dos.length≤1048576):Tri P 43 #[r.v] I F (Ret (.int .i64 r.p.acts) F):=by
 refine cost_acts.vc (fun u x m I' F'=>0≤x∧x≤r.dos.length∧m=(r.dos.length-x).toNat∧F'=F∧0≤u∧u≤x∧u+sumW ((r.dos.drop x.toNat).map fun d=>d.p.act)=r.p.acts) ?_
 unfold cost_acts.V
 intro b_r
 refine⟨⟨_,by omega,by omega,rfl,rfl,by omega,by omega, ?_⟩,fun u x m I1 F1 l1 ⟨g0,g1,gm,gF,u0,u1,gs⟩=>⟨fun hlt=>?_,fun hlt=>⟨?_,gF⟩⟩⟩
 ·rw[acts_eq,Int.zero_add];rfl
 ·have hlt:=of_decide_eq_true hlt
  subst gF
  obtain⟨ad,d,had,hd,hrd,hdm⟩:=SlG.atm ((hr.mono l1 fun _ h=>h).cons (x:=(b_r,Obj.cells #[.int .u8 r.when.kind,.int .u8 r.when.oper,.int .u8 r.when.typ,.int .i64 r.when.n,.int .u8 r.when.field,.string r.when.name,.slice r.when.a r.when.kids.length r.when.c,.int .i64 r.when.pos,.slice r.a r.dos.length r.c,.int .i64 r.pos] 84 (0,0)))).2.1 g0 hlt
  rw[sumD_drop DoP.act hd] at gs
  have key:∀w,w=u+d.p.act→∃m2:Nat,m2<m∧(0≤IntKind.wrap .i64 (x+1)∧IntKind.wrap .i64 (x+1)≤r.dos.length∧m2=(r.dos.length-IntKind.wrap .i64 (x+1)).toNat∧F1=F1∧0≤w∧w≤IntKind.wrap .i64 (x+1) ∧
    w+sumW ((r.dos.drop (IntKind.wrap .i64 (x+1)).toNat).map fun d=>d.p.act)=r.p.acts):=by
   intro w hw
   have:=d.p.act_range
   rw[w64 (n:=x+1) (by omega)]
   refine⟨(r.dos.length-(x+1)).toNat,by omega,by omega,by omega,rfl,rfl,by omega,by omega, ?_⟩
   rw[show (x+1).toNat=x.toNat+1 by omega,←gs];omega
  have hk:d.p.kind=d.kind:=rfl
  have hw:IntKind.wrap .i64 (u+1)=u+1:=w64 (by omega)
  refine⟨⟨g0,hlt⟩,ad,had,_,_,_,_,_,_,_,_,_,_,_,_,_,_,_,_,_,_,_,_,_,_,_,_,_,_,_,_,_,_,_,_,_,_,_,_,_,_,_,_,_,_,_,_,hrd,fun b_d=>⟨fun h=>?_,fun h=>⟨fun h2=>?_,fun h2=>⟨fun h3=>?_,fun h3=>?_⟩⟩⟩⟩
  ·rw[hw];exact key _ (by unfold DoP.act;rw[hk,if_pos (by simp at h;exact .inl h)])
  ·rw[hw];exact key _ (by unfold DoP.act;rw[hk,if_pos (by simp at h2;exact .inr (.inl h2))])
  ·rw[hw];exact key _ (by unfold DoP.act;rw[hk,if_pos (by simp at h3;exact .inr (.inr h3))])
  ·refine key _ ?_
   simp at h h2 h3
   unfold DoP.act;rw[hk,if_neg (by omega),Int.add_zero]
 ·have hlt:=of_decide_eq_false hlt
  rw[List.drop_eq_nil_of_le (by omega)] at gs
  have gs:u+0=r.p.acts:=gs
  rw[←gs,Int.add_zero]
end Go.Lx
namespace Go.Vc
theorem Imm.le_put{I:Imm}{b:Nat}{o:Obj}(h:I b=none):Imm.le I (I.put b o):=⟨fun c x hc=>by
 have hne:c≠b:=fun e=>by rw[e,h] at hc;cases hc
 show (if c=b then some o else I c)=some x
 rw[if_neg hne];exact hc,rfl,rfl⟩
theorem Imm.le_del{I I':Imm}{b:Nat}{o:Obj}(hb:I b=none)(hl:Imm.le (I.put b o) I'):Imm.le I (I'.del b):=⟨fun x y hx=>by
 have hne:x≠b:=fun e=>by rw[e,hb] at hx;cases hx
 show (if x=b then none else I' x)=some y
 rw[if_neg hne]
 exact hl.at (by simp[Imm.put,hne,hx]),hl.2.1,hl.2.2⟩
theorem Imm.del_none(I:Imm)(b:Nat):I.del b b=none:=if_pos rfl
theorem splice_app{α:Type}(v w:α)(B:List α):∀A:List α,splice A.length [v] (A++w::B)=A++v::B
 | []=>by cases B<;>simp[splice]
 | a::A=>by rw[List.length_cons,List.cons_append,splice,splice_app v w B A];rfl
theorem Tri.off{P:Program}{f:FuncId}{args:Array Value}{I:Imm}{F:Heap}{Q:Ending→Imm→Heap→Prop}(h:Tri P f args I F Q):Tri P f args I F fun e I' G=>Q e I' G∧∀b o,(b,o)∈G→I' b=none :=
 h.keep fun e I' G w hl hs hq=>⟨I',G,Imm.le_refl I',hs,hq,fun b o hm=>hs.off b o hm⟩
end Go.Vc
namespace Go.Lx
open Go.Vc
abbrev C2:Type:=Int×Int
def encC(c:C2):List Value:=[.int .i64 c.1,.int .i64 c.2]
def StateP.cost(x:StateP):C2:=(x.steps,x.acts)
def StgP.costs(s:StgP):List C2:=s.states.map StateP.cost
def z16:Value:=.int .i64 0
theorem made16(n:Nat):madeCells (Value.agg #[.int .i64 0,.int .i64 0]).cells n=(List.replicate n z16).toArray:=by
 show madeCells #[z16,z16] n=_
 refine Array.ext (by rw[size_madeCells];simp) fun i h1 h2=>?_
 have:i % 2=0∨i % 2=1:=by omega
 rcases this with h | h<;>simp[madeCells,h]
theorem maxW_cons(m x:Int)(r:List Int):maxW m (x::r)=maxW (max m x) r:=rfl
theorem maxW_ge:∀(l:List Int) (m:Int),m≤maxW m l
 | [],m=>Int.le_refl m
 | x::r,m=>by have:=maxW_ge r (max m x);rw[maxW_cons];omega
theorem maxW_le{B:Int}:∀(l:List Int) (m:Int),m≤B→(∀x∈l,x≤B)→maxW m l≤B
 | [],m,h,_=>h
 | x::r,m,h,hl=>by rw[maxW_cons];exact maxW_le r _ (by have:=hl x (.head _);omega) fun y hy=>hl y (.tail _ hy)
theorem steps_eq(x:StateN):x.p.steps=sumW (x.rules.map fun r=>r.when.px.wt)+maxW 0 (x.rules.map fun r=>r.p.body):=by
 show sumW ((x.rules.map RuleN.p).map fun r=>r.when.wt)+maxW 0 ((x.rules.map RuleN.p).map RuleP.body)=_
 rw[List.map_map,List.map_map];rfl
theorem acts_st(x:StateN):x.p.acts=maxW 0 (x.rules.map fun r=>r.p.acts):=by
 show maxW 0 ((x.rules.map RuleN.p).map RuleP.acts)=_
 rw[List.map_map];rfl
theorem StateP.Sound.when{x:StateN}(h:x.p.Sound):∀r∈x.rules,0≤r.when.px.wt∧r.when.px.wt≤2097152:=fun r hr=>by
 have h1:=h.rules r.p (List.mem_map_of_mem hr)
 have:=Px.wt_range r.when.px h1.when
 have:r.when.px.size≤1048576:=h1.size
 omega
theorem StateP.Sound.range{x:StateN}(h:x.p.Sound):(0≤x.p.steps∧x.p.steps≤100000000)∧0≤x.p.acts∧x.p.acts≤8:=by
 have h1:=sumW_nonneg (l:=x.rules.map fun r=>r.when.px.wt) fun w hw=>by obtain⟨r,hr,rfl⟩:=List.mem_map.1 hw;exact (h.when r hr).1
 have h2:=sumW_most (B:=2097152) (l:=x.rules.map fun r=>r.when.px.wt) fun w hw=>by obtain⟨r,hr,rfl⟩:=List.mem_map.1 hw;exact (h.when r hr).2
 have h3:=maxW_ge (x.rules.map fun r=>r.p.body) 0
 have h4:=maxW_le (B:=67108864) (x.rules.map fun r=>r.p.body) 0 (by decide) fun w hw=>by obtain⟨r,hr,rfl⟩:=List.mem_map.1 hw;exact (h.rules r.p (List.mem_map_of_mem hr)).body.2
 have h5:=maxW_ge (x.rules.map fun r=>r.p.acts) 0
 have h6:=maxW_le (B:=8) (x.rules.map fun r=>r.p.acts) 0 (by decide) fun w hw=>by
  obtain⟨r,hr,rfl⟩:=List.mem_map.1 hw
  have:=r.p.acts_range
  have:=(h.rules r.p (List.mem_map_of_mem hr)).len
  omega
 have hl:=h.len
 have hl:x.rules.length≤12:=by simpa[StateN.p] using hl
 rw[List.length_map] at h2
 rw[steps_eq,acts_st]
 omega
def doneC(s:StgN)(i:Nat):List Value:=(s.states.take i).flatMap fun y=>encC y.p.cost
theorem doneC_len(s:StgN){i:Nat}(h:i≤s.states.length):(doneC s i).length=i*2:=by
 unfold doneC
 rw[flat_len (z:=2) (fun _=>rfl),List.length_take,Nat.min_eq_left h]
theorem doneC_next(s:StgN){i:Nat}{y:StateN}(h:s.states[i]? = some y):doneC s (i+1)=doneC s i++[.int .i64 y.p.steps,.int .i64 y.p.acts]:=by
 obtain⟨hk,hx⟩:=List.getElem?_eq_some_iff.1 h
 unfold doneC
 rw[List.take_succ_eq_append_getElem hk,List.flatMap_append,hx]
 show _=_++_
 simp[encC,StateP.cost]
def cells16(s:StgN)(i:Nat)(st ac:Int):List Value:=doneC s i ++ .int .i64 st :: .int .i64 ac::List.replicate ((s.states.length-(i+1))*2) z16
def cells0(s:StgN)(i:Nat):List Value:=doneC s i++List.replicate ((s.states.length-i)*2) z16
theorem cells0_at(s:StgN){i:Nat}(h:i<s.states.length):cells0 s i=cells16 s i 0 0:=by
 unfold cells0 cells16
 rw[show (s.states.length-i)*2=(s.states.length-(i+1))*2+1+1 by omega,List.replicate_succ,List.replicate_succ];rfl
theorem cells16_done(s:StgN){i:Nat}{y:StateN}(h:s.states[i]? = some y):cells16 s i y.p.steps y.p.acts=cells0 s (i+1):=by
 unfold cells0 cells16
 rw[doneC_next s h,List.append_assoc];rfl
theorem cells0_end(s:StgN):cells0 s s.states.length=s.p.costs.flatMap encC:=by
 unfold cells0 doneC StgP.costs
 rw[List.take_length,Nat.sub_self,Nat.zero_mul,List.replicate_zero,List.append_nil]
 show _=((s.states.map StateN.p).map StateP.cost).flatMap encC
 rw[List.map_map,List.flatMap_map];rfl
theorem cells16_len(s:StgN){i:Nat}(h:i<s.states.length)(st ac:Int):(cells16 s i st ac).length=s.states.length*2:=by
 unfold cells16
 rw[List.length_append,doneC_len s (by omega),List.length_cons,List.length_cons,List.length_replicate];omega
theorem cells16_steps(s:StgN){i:Nat}(h:i<s.states.length)(st ac v:Int):splice (i*2) [.int .i64 v] (cells16 s i st ac)=cells16 s i v ac:=by
 unfold cells16
 rw[←doneC_len s (by omega),splice_app]
theorem cells16_acts(s:StgN){i:Nat}(h:i<s.states.length)(st ac v:Int):splice (i*2+1) [.int .i64 v] (cells16 s i st ac)=cells16 s i st v:=by
 unfold cells16
 have e:∀w:Int,doneC s i ++ .int .i64 st :: .int .i64 w::List.replicate ((s.states.length-(i+1))*2) z16=(doneC s i++[.int .i64 st]) ++ .int .i64 w::List.replicate ((s.states.length-(i+1))*2) z16:=fun w=>by rw[List.append_assoc];rfl
 rw[e,e,show i*2+1=(doneC s i++[Value.int .i64 st]).length by rw[List.length_append,doneC_len s (by omega)];rfl,splice_app]
theorem cells16_at0(s:StgN){i:Nat}(h:i<s.states.length)(st ac:Int):(cells16 s i st ac)[i*2]? = some (.int .i64 st):=by
 unfold cells16
 have hd:=doneC_len s (i:=i) (by omega)
 rw[List.getElem?_append_right (by omega),show i*2-(doneC s i).length=0 by omega];rfl
theorem cells16_at1(s:StgN){i:Nat}(h:i<s.states.length)(st ac:Int):(cells16 s i st ac)[i*2+1]? = some (.int .i64 ac):=by
 unfold cells16
 have hd:=doneC_len s (i:=i) (by omega)
 rw[List.getElem?_append_right (by omega),show i*2+1-(doneC s i).length=1 by omega];rfl
theorem addr2(b n k:Nat):((⟨b,0,none⟩:Addr).add n).add k=⟨b,n+k,none⟩:=by rw[add_lit0];unfold Addr.add;split<;>simp_all
abbrev cost16(s:StgN)(bl i:Nat)(st ac:Int):Nat×Obj:=(bl,.cells (cells16 s i st ac).toArray 57 (0,0))
theorem rd16_0{s:StgN}{bl i:Nat}{st ac:Int}(hi:i<s.states.length){I:Imm}{G:Heap}(h:I bl=some (cost16 s bl i st ac).2∨cost16 s bl i st ac∈G):Rd I G (⟨bl,i*2+0,none⟩:Addr) [.int .i64 st] :=
 ⟨rfl,_,_,_,h,fun j hj=>by
   have:j=0:=by simpa using hj
   subst this
   show (cells16 s i st ac).toArray[i*2+0+0]? = _
   rw[List.getElem?_toArray];exact cells16_at0 s hi st ac⟩
theorem rd16_1{s:StgN}{bl i:Nat}{st ac:Int}(hi:i<s.states.length){I:Imm}{G:Heap}(h:I bl=some (cost16 s bl i st ac).2∨cost16 s bl i st ac∈G):Rd I G (⟨bl,i*2+1,none⟩:Addr) [.int .i64 ac] :=
 ⟨rfl,_,_,_,h,fun j hj=>by
   have:j=0:=by simpa using hj
   subst this
   show (cells16 s i st ac).toArray[i*2+1+0]? = _
   rw[List.getElem?_toArray];exact cells16_at1 s hi st ac⟩
theorem sumR_drop(f:RuleN→Int){l:List RuleN}{i:Nat}{x:RuleN}(h:l[i]? = some x):sumW ((l.drop i).map f)=f x+sumW ((l.drop (i+1)).map f):=by
 obtain⟨hk,hx⟩:=List.getElem?_eq_some_iff.1 h
 rw[List.drop_eq_getElem_cons hk,List.map_cons,sumW,hx]
theorem maxR_drop(f:RuleN→Int){l:List RuleN}{i:Nat}{x:RuleN}(h:l[i]? = some x)(m:Int):maxW m ((l.drop i).map f)=maxW (max m (f x)) ((l.drop (i+1)).map f):=by
 obtain⟨hk,hx⟩:=List.getElem?_eq_some_iff.1 h
 rw[List.drop_eq_getElem_cons hk,List.map_cons,maxW_cons,hx]
theorem types_check{s:StgP}(h:s.types.e=0):s.check=0:=by
 unfold StgP.types at h
 split at h
 ·rename_i hc;exact absurd h hc
 ·rename_i hc;exact Decidable.not_not.1 hc
def StatesQ(s:StgN)(F:Heap)(e:Ending)(I:Imm)(G:Heap):Prop :=
 (s.p.types.e≠0∧∃v,e=.returned (.tuple #[.slice none 0 0,v])∧FltE s.p.types v I∧G=F) ∨
 (s.p.types.e=0∧∃bl,e=.returned (.tuple #[.slice (some ⟨bl,0,none⟩) s.states.length s.states.length,.nilIface])∧G.Perm ((bl,.cells (s.p.costs.flatMap encC).toArray 57 (0,0))::F))
set_option maxHeartbeats 4000000 in
theorem states16_spec(s:StgN)(hl:s.p.Thin){I:Imm}{F:Heap}(hok:s.Ok I F)(hg:Gl I):Tri P 19 #[s.v] I F (StatesQ s F):=by
 refine cost_States.vc
  (fun ps ra rn rc x m I0 F0 I' F'=>0≤x∧x≤s.states.length∧m=(s.states.length-x).toNat∧s.p.types.e=0∧∃bl,ra=some (⟨bl,0,none⟩:Addr)∧rn=s.states.length∧rc=s.states.length∧F'.Perm ((bl,.cells (cells0 s x.toNat).toArray 57 (0,0))::F))
  (fun ps ra rn rc x px most k m I0 F0 I' F'=>∃y,s.states[x.toNat]? = some y∧0≤k∧k≤y.rules.length∧m=(y.rules.length-k).toNat∧∃(bl:Nat) (st ac:Int),ra=some (⟨bl,0,none⟩:Addr)∧F'.Perm (cost16 s bl x.toNat st ac::F) ∧
    0≤st∧st≤2097152*k∧(0≤most∧most≤67108864)∧(0≤ac∧ac≤8)∧st+sumW ((y.rules.drop k.toNat).map fun r=>r.when.px.wt)+maxW most ((y.rules.drop k.toNat).map fun r=>r.p.body)=y.p.steps∧maxW ac ((y.rules.drop k.toNat).map fun r=>r.p.acts)=y.p.acts) ?_
 unfold cost_States.V
 intro b_s
 refine Tri.retV (pCheck_specT s hl (hok.cons (x:=(b_s,Obj.cells #[.string s.name,.slice s.ra s.regs.length s.rc,.slice s.sa s.slots.length s.sc,.slice s.ta s.states.length s.tc] 39 (0,0)))) hg) fun v I1 l1 hv=>⟨v,rfl,F,.refl _,_,ChkE.neq hv (by kernel_rfl),fun hq=>?_,fun hq=>?_⟩
 ·exact .inl ⟨by simpa using hq,v,rfl,hv,rfl⟩
 have hq:s.p.types.e=0:=by simpa using hq
 have hs:=StgP.sound (types_check hq) hl
 have hn:s.states.length≤12:=by have:=hs.len;simpa[StgN.p] using this
 refine TriE.mono (make_spec (e:=57) (z:=2) (by':=16) (zv:=.agg #[.int .i64 0,.int .i64 0]) (by kernel_rfl) (by kernel_rfl) (by omega) (Int.le_refl _) (by omega) (by omega)) fun v2 I2 G l2 ⟨bl,cs,hv2,hcl,hcs,hI,hG⟩=>?_
 rw[made16] at hcs
 subst hG
 have hcs:cs=cells0 s 0:=by
  have h:cs=List.replicate ((s.states.length:Int).toNat*2) z16:=by have:=congrArg Array.toList hcs;simpa using this
  rw[h];unfold cells0 doneC;simp
 subst hcs
 have htn:(s.states.length:Int).toNat=s.states.length:=by omega
 rw[htn] at hv2
 have l02:=Imm.le_trans l1 l2
 refine⟨_,_,_,hv2,(bl,.cells (cells0 s 0).toArray 57 (0,0))::F,.swap ..,⟨_,by omega,by omega,rfl,hq,bl,rfl,rfl,rfl,.refl _⟩,fun x m I3 F3 l3 ⟨g0,g1,gm,_,bl',hbl,_,_,gF⟩=>⟨fun hlt=>?_,fun hlt=>?_⟩⟩
 ·obtain rfl:bl=bl':=by simpa using hbl
  have hlt:=of_decide_eq_true hlt
  have hxn:x.toNat<s.states.length:=by omega
  have l03:=Imm.le_trans l02 l3
  have hsub:∀y,y∈F→y∈F3:=fun y hy=>gF.mem_iff.2 (.tail _ hy)
  obtain⟨ad,y,had,hy,hrd,hym⟩:=SlG.atm ((hok.mono l03 hsub).cons (x:=(b_s,Obj.cells #[.string s.name,.slice s.ra s.regs.length s.rc,.slice s.sa s.slots.length s.sc,.slice s.ta s.states.length s.tc] 39 (0,0)))).states g0 hlt
  have hyo:=hok.state y hym
  have hys:=hs.states y.p (List.mem_map_of_mem hym)
  have hyl:y.rules.length≤12:=by have:=hys.len;simpa[StateN.p] using this
  have hyr:=hys.range
  rw[cells0_at s hxn] at gF
  refine⟨⟨g0,hlt⟩,ad,had,_,_,_,_,_,hrd,fun b_x=>⟨fun h=>?_,fun h=>⟨⟨_,y,hy,by omega,by omega,rfl,bl,0,0,rfl,gF,by omega,by omega,by omega,by omega, ?_, ?_⟩,fun most k m4 I4 F4 l4 ⟨y',hy',k0,k1,km,bl',st,ac,hbl',kF,s0,s1,mo,a0,ks,ka⟩=>⟨fun hk=>?_,fun hk=>?_⟩⟩⟩⟩
  ·have h0:(y.rules.length:Int)=0:=by simpa using h
   have hr0:y.rules=[]:=List.length_eq_zero_iff.1 (by omega)
   refine⟨(s.states.length-(x+1)).toNat,by omega, ?_⟩
   rw[w64 (n:=x+1) (by omega)]
   refine⟨by omega,by omega,rfl,hq,bl,rfl,rfl,rfl, ?_⟩
   have e1:y.p.steps=0:=by rw[steps_eq,hr0];rfl
   have e2:y.p.acts=0:=by rw[acts_st,hr0];rfl
   have:=cells16_done s hy
   rw[e1,e2] at this
   rw[show (x+1).toNat=x.toNat+1 by omega,←this];exact gF
  ·rw[steps_eq];show 0+_+_=_;rw[Int.zero_add];rfl
  ·rw[acts_st];rfl
  ·obtain rfl:y=y':=by rw[hy] at hy';exact Option.some.inj hy'
   obtain rfl:bl=bl':=by simpa using hbl'
   have hk:=of_decide_eq_true hk
   have l04:=Imm.le_trans l03 l4
   have sub4:∀z,z∈F→z∈F4:=fun z hz=>kF.mem_iff.2 (.tail _ hz)
   obtain⟨ad1,r,had1,hr,hrd1,hrm⟩:=SlG.atm (((hyo.mono l04 sub4).cons (x:=(b_x,Obj.cells #[.string y.name,.slice y.a y.rules.length y.c,.int .i64 y.pos] 65 (0,0)))).cons (x:=(b_s,Obj.cells #[.string s.name,.slice s.ra s.regs.length s.rc,.slice s.sa s.slots.length s.sc,.slice s.ta s.states.length s.tc] 39 (0,0)))).1 k0 hk
   have hro:=hyo.2 r hrm
   have hrs:=hys.rules r.p (List.mem_map_of_mem hrm)
   have hrw:=hys.when r hrm
   have hbd:=hrs.body
   have hra:=r.p.acts_range
   have hrl:=hrs.len
   have hrl:r.dos.length≤8:=by simpa[RuleN.p] using hrl
   have hrp:r.p.dos.length=r.dos.length:=by simp[RuleN.p]
   refine⟨⟨k0,hk⟩,ad1,had1,_,_,_,_,_,_,_,_,_,_,_,_,_,_,hrd1,fun b_r b_sum=>?_⟩
   refine Tri.perm (F:=(b_sum,.cells #[.int .i64 0] 3 (0,0))::(b_s,Obj.cells #[.string s.name,.slice s.ra s.regs.length s.rc,.slice s.sa s.slots.length s.sc,.slice s.ta s.states.length s.tc] 39 (0,0))::(b_x,Obj.cells #[.string y.name,.slice y.a y.rules.length y.c,.int .i64 y.pos] 65 (0,0))::(b_r,Obj.cells #[.int .u8 r.when.kind,.int .u8 r.when.oper,.int .u8 r.when.typ,.int .i64 r.when.n,.int .u8 r.when.field,.string r.when.name,.slice r.when.a r.when.kids.length r.when.c,.int .i64 r.when.pos,.slice r.a r.dos.length r.c,.int .i64 r.pos] 84 (0,0))::F4) ((each_spec r (hro.mono l04 fun z hz=>.tail _ (.tail _ (.tail _ (sub4 z hz)))) hrs b_sum 0 (by omega) (by omega)).mono fun e I5 G5 l5 ⟨he,hG5⟩=>?_) (perm_of fun z=>by simp only[cn_app,cn_cons,cn_nil];omega)
   refine⟨he,0+r.p.body,F4,by rw[hG5];exact (perm_of fun z=>by simp only[cn_app,cn_cons,cn_nil];omega),fun b I6 l6 hb6=>?_⟩
   have hbody:(0:Int)+r.p.body=r.p.body:=Int.zero_add _
   rw[hbody] at hb6 hG5 ⊢
   refine (greatest1 most r.p.body hb6).off.mono fun e I7 G7 l7 ⟨⟨he,hG7⟩,hoff⟩=>?_
   refine⟨_,he,F4,by rw[hG7],bl,(cost16 s bl x.toNat st ac).2,F,kF,⟨g0,hlt⟩,_,rfl,ac, ?_, ?_⟩
   ·rw[addr2];exact rd16_1 hxn (.inl (Imm.put_same _ _ _))
   have hn7:I7 bl=none:=hoff bl _ (by rw[hG7];exact .tail _ (.tail _ (.tail _ (.tail _ (kF.mem_iff.2 (.head _))))))
   have l07:=Imm.le_trans l04 (Imm.le_trans l5 (Imm.le_trans l6 l7))
   have l7p:Imm.le I7 (I7.put bl (cost16 s bl x.toNat st ac).2):=Imm.le_put hn7
   refine Tri.ret (acts16_spec r (hro.mono (Imm.le_trans l07 l7p) fun z hz=>.tail _ (.tail _ (.tail _ (.tail _ hz)))) (by omega)) fun I8 l8=>⟨_,rfl,F,.refl _,fun b1 I9 l9 hb1=>Tri.ret (greatest1 ac r.p.acts hb1) fun I10 l10=>⟨_,rfl,F,.refl _,⟨g0,hlt⟩,_,rfl,cells16 s x.toNat st ac,57,F, ?_⟩⟩
   have l7d:Imm.le I7 (I10.del bl):=Imm.le_del hn7 (Imm.le_trans l8 (Imm.le_trans l9 l10))
   rw[addr2]
   refine⟨.refl _,rfl,by rw[cells16_len s hxn];show x.toNat*2+1+1≤_;omega,bl,(cost16 s bl x.toNat st (max ac r.p.acts)).2,F, ?_,⟨g0,hlt⟩,_,rfl,st, ?_, ?_⟩
   ·show List.Perm ((bl,Obj.cells (splice (x.toNat*2+1) _ _).toArray _ _)::F) _
    rw[cells16_acts s hxn]
   ·rw[addr2];exact rd16_0 hxn (.inl (Imm.put_same _ _ _))
   have l7q:Imm.le I7 ((I10.del bl).put bl (cost16 s bl x.toNat st (max ac r.p.acts)).2):=Imm.le_trans l7d (Imm.le_put (Imm.del_none _ _))
   have hsz:=hrs.size
   have hsz:r.when.px.size≤1048576:=hsz
   refine Tri.ret (weight_spec r.when (by omega) hrs.when _ _ (hro.1.mono (Imm.le_trans l07 l7q) fun z hz=>.tail _ (.tail _ (.tail _ (.tail _ hz))))) fun I11 l11=>⟨_,rfl,F,.refl _,⟨g0,hlt⟩,_,rfl,cells16 s x.toNat st (max ac r.p.acts),57,F, ?_⟩
   rw[addr2]
   refine⟨.refl _,rfl,by rw[cells16_len s hxn];show x.toNat*2+0+1≤_;omega,(y.rules.length-(k+1)).toNat,by omega, ?_⟩
   rw[w64 (n:=k+1) (by omega),w64 (n:=st+r.when.px.wt) (by omega)]
   refine⟨y,hy,by omega,by omega,rfl,bl,st+r.when.px.wt,max ac r.p.acts,rfl, ?_,by omega,by omega,by omega,by omega, ?_, ?_⟩
   ·show List.Perm ((bl,Obj.cells (splice (x.toNat*2) _ _).toArray _ _)::F) _
    rw[cells16_steps s hxn]
   ·rw[sumR_drop _ hr,maxR_drop _ hr] at ks
    rw[show (k+1).toNat=k.toNat+1 by omega,←ks];omega
   ·rw[maxR_drop _ hr] at ka
    rw[show (k+1).toNat=k.toNat+1 by omega,←ka]
  ·obtain rfl:y=y':=by rw[hy] at hy';exact Option.some.inj hy'
   obtain rfl:bl=bl':=by simpa using hbl'
   have hk:=of_decide_eq_false hk
   rw[List.drop_eq_nil_of_le (by omega)] at ks ka
   have ks:st+0+most=y.p.steps:=ks
   have ka:ac=y.p.acts:=ka
   refine⟨⟨g0,hlt⟩,_,rfl,st, ?_,⟨g0,hlt⟩,_,rfl,cells16 s x.toNat st ac,57,F, ?_⟩
   ·rw[addr2];exact rd16_0 hxn (.inr (.tail _ (.tail _ (kF.mem_iff.2 (.head _)))))
   rw[addr2]
   refine⟨kF,rfl,by rw[cells16_len s hxn];show x.toNat*2+0+1≤_;omega,(s.states.length-(x+1)).toNat,by omega, ?_⟩
   rw[w64 (n:=x+1) (by omega),w64 (n:=st+most) (by omega)]
   refine⟨by omega,by omega,rfl,hq,bl,rfl,rfl,rfl, ?_⟩
   show List.Perm ((bl,Obj.cells (splice (x.toNat*2) _ _).toArray _ _)::F) _
   rw[cells16_steps s hxn,ka,show st+most=y.p.steps by omega,cells16_done s hy,show (x+1).toNat=x.toNat+1 by omega]
 ·obtain rfl:bl=bl':=by simpa using hbl
  have hlt:=of_decide_eq_false hlt
  rw[show x.toNat=s.states.length by omega,cells0_end] at gF
  exact .inr ⟨hq,bl,rfl,gF⟩
end Go.Lx
namespace Go.Lx
open Go.Vc
def StgP.top(s:StgP):C2:=(maxW 0 (s.costs.map Prod.fst),maxW 0 (s.costs.map Prod.snd))
def StgP.cost(s:StgP):C2×TF:=if s.types.e≠0 then ((0,0),s.types) else if 500<s.top.1 then ((0,0),⟨160,0,false⟩) else (s.top,zTF)
def callStrategy:ByteArray:=⟨#[83,116,114,97,116,101,103,121]⟩
def CstE(s:StgP)(I:Imm)(w:Value):Prop:=if s.types.e≠0 then ChkE I s.types w else if 500<s.top.1 then Flr I callStrategy 0 (errno 160) w else w=.nilIface
theorem Wrong_cst{I:Imm}(hg:Gl I){s:StgP}{w:Value}(h:CstE s I w)(F:Heap):Tri P 20 #[w] I F (Ret s.cost.2.w F):=by
 unfold CstE at h
 unfold StgP.cost
 split at h
 ·rename_i he;rw[if_pos he];exact Wrong_chk hg (types_Z s) h F
 ·rename_i he
  rw[if_neg he]
  split at h
  ·rename_i hm
   rw[if_pos hm]
   obtain⟨b,rfl,hb⟩:=id h
   exact wrong_core hg hb (fun J hJ G t ty old=>As_E1 (hg.mono hJ) (h.mono hJ)) F
  ·rename_i hm
   rw[if_neg hm,h];exact wrong_nil I F
theorem CstE.mono{s:StgP}{I J:Imm}{w:Value}(h:CstE s I w)(hl:Imm.le I J):CstE s J w:=by
 unfold CstE at h ⊢
 split at h
 ·rename_i he;rw[if_pos he];exact h.mono hl
 ·rename_i he
  rw[if_neg he]
  split at h
  ·rename_i hm;rw[if_pos hm];exact h.mono hl
  ·rename_i hm;rw[if_neg hm];exact h
def StatesS(s:StgN)(F:Heap)(e:Ending)(I:Imm)(G:Heap):Prop :=
 (s.p.types.e≠0∧∃v,e=.returned (.tuple #[.slice none 0 0,v])∧FltE s.p.types v I∧G=F) ∨
 (s.p.types.e=0∧∃bl,e=.returned (.tuple #[.slice (some ⟨bl,0,none⟩) s.states.length s.states.length,.nilIface])∧Sl I 2 encC (some ⟨bl,0,none⟩) s.states.length s.p.costs∧G=F)
theorem costs_len(s:StgN):s.p.costs.length=s.states.length:=by simp[StgP.costs,StgN.p]
theorem states16_still(s:StgN)(hl:s.p.Thin){I:Imm}{F:Heap}(hok:s.Ok I F)(hg:Gl I):Tri P 19 #[s.v] I F (StatesS s F) :=
 (states16_spec s hl hok hg).keep fun e I' G w l1 hs hq=>by
   rcases hq with ⟨he,v,h1,h2,h3⟩ | ⟨he,bl,h1,h2⟩
   ·exact⟨I',G,Imm.le_refl I',hs,.inl ⟨he,v,h1,h2,h3⟩⟩
   ·obtain⟨k1,k2⟩:=(hs.perm h2).promote
    refine⟨_,F,k1,k2,.inr ⟨he,bl,h1, ?_,rfl⟩⟩
    rw[←costs_len s]
    exact Sl.of_block (f:=encC) (z:=2) (fun _=>rfl) (Imm.put_same _ _ _) fun k hk=>by rw[List.getElem?_toArray]
theorem maxC_drop(f:C2→Int){l:List C2}{i:Nat}{x:C2}(h:l[i]? = some x)(m:Int):maxW m ((l.drop i).map f)=maxW (max m (f x)) ((l.drop (i+1)).map f):=by
 obtain⟨hk,hx⟩:=List.getElem?_eq_some_iff.1 h
 rw[List.drop_eq_getElem_cons hk,List.map_cons,maxW_cons,hx]
set_option maxHeartbeats 2000000 in
theorem strategy16_spec(s:StgN)(hl:s.p.Thin){I:Imm}{F:Heap}(hok:s.Ok I F)(hg:Gl I):Tri P 24 #[s.v] I F (RetV (fun v J=>∃w,v=.tuple #[.agg #[.int .i64 s.p.cost.1.1,.int .i64 s.p.cost.1.2],w]∧CstE s.p J w) F):=by
 refine Tri.still (cost_Strategy.vc (fun ps ra rn rc pc x c0 c1 m I0 F0 I' F'=>F'=F∧0≤x∧x≤s.states.length∧m=(s.states.length-x).toNat∧s.p.types.e=0∧maxW c0 ((s.p.costs.drop x.toNat).map Prod.fst)=s.p.top.1∧maxW c1 ((s.p.costs.drop x.toNat).map Prod.snd)=s.p.top.2) ?_)
 unfold cost_Strategy.V
 intro b_s b
 refine (states16_still s hl (hok.mono (Imm.le_refl I) fun y hy=>.tail _ (.tail _ hy)) hg).mono fun e I1 G l1 hq=>?_
 rcases hq with ⟨he,v,h1,hv,hG⟩ | ⟨he,bl,h1,hS,hG⟩
 ·subst hG
  refine⟨_,_,_,v,h1,F,.refl _,_,ChkE.neq hv (by kernel_rfl),fun hq=>⟨_,[],rfl,.refl _,fun J hJ hx=>⟨v, ?_, ?_⟩⟩,fun hq=>absurd he (by simpa using hq)⟩
  ·unfold StgP.cost;rw[if_pos he]
  ·unfold CstE;rw[if_pos he];exact ChkE.mono hv hJ
 ·subst hG
  have hs:=StgP.sound (types_check he) hl
  have hn:s.states.length≤12:=by have:=hs.len;simpa[StgN.p] using this
  have hcl:=costs_len s
  refine⟨_,_,_,_,h1,F,.refl _,false,nil_nil (by kernel_rfl),fun h=>(by cases h),fun _ b_c=>⟨⟨_,rfl,by omega,by omega,rfl,he,rfl,rfl⟩,fun x c0 c1 m I2 F2 l2 ⟨gF,g0,g1,gm,_,gs,ga⟩=>⟨fun hlt=>?_,fun hlt=>⟨fun hc=>?_,fun hc=>?_⟩⟩⟩⟩
  ·subst gF
   have hlt:=of_decide_eq_true hlt
   obtain⟨ad,c,had,hc,hrd,hcm⟩:=SlG.atm ((hS.mono l2).slg ((b_s,Obj.cells #[.string s.name,.slice s.ra s.regs.length s.rc,.slice s.sa s.slots.length s.sc,.slice s.ta s.states.length s.tc] 39 (0,0))::(b,.cells #[.int .i64 0,.int .i64 0] 57 (0,0))::(b_c,.cells #[.int .i64 c0,.int .i64 c1] 57 (0,0))::F2)) g0 hlt
   rw[maxC_drop _ hc] at gs ga
   have key:∀(J:Imm),∃m2:Nat,m2<m∧(F2=F2∧0≤IntKind.wrap .i64 (x+1)∧IntKind.wrap .i64 (x+1)≤s.states.length∧m2=(s.states.length-IntKind.wrap .i64 (x+1)).toNat∧s.p.types.e=0∧maxW (max c0 c.1) ((s.p.costs.drop (IntKind.wrap .i64 (x+1)).toNat).map Prod.fst)=s.p.top.1 ∧
     maxW (max c1 c.2) ((s.p.costs.drop (IntKind.wrap .i64 (x+1)).toNat).map Prod.snd)=s.p.top.2):=fun J=>by
    rw[w64 (n:=x+1) (by omega)]
    refine⟨(s.states.length-(x+1)).toNat,by omega,rfl,by omega,by omega,rfl,he, ?_, ?_⟩
    ·rw[show (x+1).toNat=x.toNat+1 by omega,←gs]
    ·rw[show (x+1).toNat=x.toNat+1 by omega,←ga]
   refine⟨⟨g0,hlt⟩,ad,had,_,_,hrd,fun b_x=>⟨fun b1 I3 l3 h1=>⟨?_,fun b3 I7 l7 h3=>?_⟩,fun b4 I10 l10 h4 b5 I11 l11 h5=>?_⟩⟩
   ·exact Tri.ret (greatest1 c0 c.1 h1) fun I4 l4=>⟨_,rfl,F2,.refl _,fun b2 I5 l5 h2=>Tri.ret (greatest1 c1 c.2 h2) fun I6 l6=>⟨_,rfl,F2,.refl _,key I6⟩⟩
   ·exact Tri.ret (greatest1 c0 c.1 (l7.at h1)) fun I4 l4=>⟨_,rfl,F2,.refl _,Tri.ret (greatest1 c1 c.2 (l4.at h3)) fun I6 l6=>⟨_,rfl,F2,.refl _,key I6⟩⟩
   ·exact Tri.ret (greatest1 c0 c.1 h5) fun I4 l4=>⟨_,rfl,F2,.refl _,Tri.ret (greatest1 c1 c.2 (l4.at (l11.at h4))) fun I6 l6=>⟨_,rfl,F2,.refl _,key I6⟩⟩
  ·intro b6
   have hlt:=of_decide_eq_false hlt
   have hc:=of_decide_eq_true hc
   rw[List.drop_eq_nil_of_le (by omega)] at gs
   have gs:c0=s.p.top.1:=gs
   refine⟨_,[_],rfl,by rw[gF];exact .refl _,fun J hJ hx=>⟨.iface 89 (.pointer (some ⟨b6,0,none⟩)), ?_, ?_⟩⟩
   ·unfold StgP.cost;rw[if_neg (by simpa using he),if_pos (by omega)]
   ·unfold CstE;rw[if_neg (by simpa using he),if_pos (by omega)]
    exact⟨b6,rfl,hx _ (.head _)⟩
  ·have hlt:=of_decide_eq_false hlt
   have hc:=of_decide_eq_false hc
   rw[List.drop_eq_nil_of_le (by omega)] at gs ga
   have gs:c0=s.p.top.1:=gs
   have ga:c1=s.p.top.2:=ga
   refine⟨_,[],rfl,by rw[gF];exact .refl _,fun J hJ hx=>⟨.nilIface, ?_, ?_⟩⟩
   ·unfold StgP.cost;rw[if_neg (by simpa using he),if_neg (by omega),gs,ga]
   ·unfold CstE;rw[if_neg (by simpa using he),if_neg (by omega)]
end Go.Lx
namespace Go.Lx
open Go.Vc
theorem rweight_spec:∀(t:Nd),t.px.size≤4194304→t.px.formed=true→∀(I:Imm) (F:Heap),NdOk I F t→Tri P 35 #[t.v] I F (Ret (.int .i64 t.px.wt) F):=by
 refine Nd.ind fun t ih hs hf I F ht=>?_
 have hln:=size_len hs
 have h1:t.px.oneB=true:=by rw[Px.formed_eq,Bool.and_eq_true] at hf;exact hf.1
 have hl:(t.kids.length:Nat)=Px.arity t.px:=by
  unfold Px.oneB at h1
  rw[Bool.and_eq_true,decide_eq_true_eq,Nd.px_kids,List.length_map] at h1
  exact h1.2
 have hr:=Px.wt_range t.px hf
 have hkf:∀k∈t.kids,k.px.formed=true:=fun k hk=>Px.formed_kid hf _ (by rw[Nd.px_kids];exact List.mem_map_of_mem hk)
 have hat:∀{J:Imm} {i:Int},Imm.le I J→0≤i→i<t.kids.length→∀b_n:Nat,∃ad x,t.a=some ad∧t.kids[i.toNat]? = some x∧Rd J ((b_n,Obj.cells #[.int .u8 t.kind,.int .u8 t.oper,.int .u8 t.typ,.int .i64 t.n,.int .u8 t.field,.string t.name,.slice t.a t.kids.length t.c,.int .i64 t.pos] 28 (0,0))::F) (ad.add (Int.toNat i*8)) x.enc ∧
   (1≤x.px.wt∧x.px.wt+1≤2*x.px.size)∧x.px.size≤4194304∧Tri P 35 #[x.v] J ((b_n,Obj.cells #[.int .u8 t.kind,.int .u8 t.oper,.int .u8 t.typ,.int .i64 t.n,.int .u8 t.field,.string t.name,.slice t.a t.kids.length t.c,.int .i64 t.pos] 28 (0,0))::F) (Ret (.int .i64 x.px.wt) ((b_n,Obj.cells #[.int .u8 t.kind,.int .u8 t.oper,.int .u8 t.typ,.int .i64 t.n,.int .u8 t.field,.string t.name,.slice t.a t.kids.length t.c,.int .i64 t.pos] 28 (0,0))::F)):=by
  intro J i hJ g0 hlt b_n
  obtain⟨ad,x,had,hx,hrd,hxo,hxm⟩:=((ht.mono hJ fun _ h=>h).cons (x:=(b_n,Obj.cells #[.int .u8 t.kind,.int .u8 t.oper,.int .u8 t.typ,.int .i64 t.n,.int .u8 t.field,.string t.name,.slice t.a t.kids.length t.c,.int .i64 t.pos] 28 (0,0)))).kids.at g0 hlt
  exact⟨ad,x,had,hx,hrd,Px.wt_range _ (hkf x hxm),size_kid hxm hs,ih x hxm (size_kid hxm hs) (hkf x hxm) J _ hxo⟩
 have hwt:=wt_kids t
 refine ref16_weight.vc (fun w i m I' F'=>t.kind≠7∧0≤i∧i≤t.kids.length∧m=(t.kids.length-i).toNat∧0≤w∧t.px.wt=w+sumW ((t.kids.drop i.toNat).map fun y=>y.px.wt)∧F'=F) ?_
 unfold ref16_weight.V
 intro b_n
 refine⟨fun h7=>?_,fun h7=>⟨fun h9=>⟨⟨_,by simpa using h7,by omega,by omega,rfl,by omega, ?_,rfl⟩,fun w i m I1 F1 hI hinv=>?_⟩,fun h9=>⟨⟨_,by simpa using h7,by omega,by omega,rfl,by omega, ?_,rfl⟩,fun w i m I1 F1 hI hinv=>?_⟩⟩⟩
 ·have h7:t.kind=7:=by simpa using h7
  have h3:t.kids.length=3:=by rw[hl];unfold Px.arity;rw[Nd.px_kind,h7];rfl
  obtain⟨ad1,x1,ha1,hx1,hr1,hw1,hs1,ht1⟩:=hat (i:=1) (Imm.le_refl I) (by omega) (by omega) b_n
  refine⟨⟨by omega,by omega⟩,ad1,ha1,_,_,_,_,_,_,_,_,_,_,hr1,Tri.ret ht1 fun I1 l1=>⟨_,rfl,F,.refl _, ?_⟩⟩
  obtain⟨ad2,x2,ha2,hx2,hr2,hw2,hs2,ht2⟩:=hat (i:=2) l1 (by omega) (by omega) b_n
  refine⟨⟨by omega,by omega⟩,ad2,ha2,_,_,_,_,_,_,_,_,_,_,hr2,Tri.ret ht2 fun I2 l2=>⟨_,rfl,F,.refl _, ?_⟩⟩
  obtain⟨ad0,x0,ha0,hx0,hr0,hw0,hs0,ht0⟩:=hat (i:=0) (Imm.le_trans l1 l2) (by omega) (by omega) b_n
  have key:t.px.wt=x0.px.wt+max x1.px.wt x2.px.wt+2:=by
   rw[hwt]
   unfold wtF
   rw[if_pos h7]
   match hk:t.kids,h3 with
   | [a,b,c],_ =>
     rw[hk] at hx0 hx1 hx2
     cases hx0;cases hx1;cases hx2
     rfl
  refine⟨fun h=>⟨⟨by omega,by omega⟩,ad0,ha0,_,_,_,_,_,_,_,_,_,_,hr0,Tri.ret ht0 fun I3 l3=>⟨_,rfl,F,.refl _, ?_,rfl⟩⟩,fun h=>⟨⟨by omega,by omega⟩,ad0,ha0,_,_,_,_,_,_,_,_,_,_,hr0,Tri.ret ht0 fun I3 l3=>⟨_,rfl,F,.refl _, ?_,rfl⟩⟩⟩
  ·have h:=of_decide_eq_true h
   rw[w64 (n:=x0.px.wt+x2.px.wt) (by omega),w64 (by omega),show x0.px.wt+x2.px.wt+2=t.px.wt by omega]
  ·have h:=of_decide_eq_false h
   rw[w64 (n:=x0.px.wt+x1.px.wt) (by omega),w64 (by omega),show x0.px.wt+x1.px.wt+2=t.px.wt by omega]
 ·have h7:t.kind≠7:=by simpa using h7
  have h9:t.kind=9:=by simpa using h9
  rw[hwt];unfold wtF;rw[if_neg h7,if_pos h9];rfl
 ·obtain⟨h7,g0,g1,gm,g2,gs,gF⟩:=hinv
  subst gF
  refine⟨fun hlt=>?_,fun hlt=>⟨?_,rfl⟩⟩
  ·have hlt:=of_decide_eq_true hlt
   obtain⟨ad0,x0,ha0,hx0,hr0,hw0,hs0,ht0⟩:=hat hI g0 hlt b_n
   have hd:=sumW_le (l:=t.kids.drop (i.toNat+1)) fun k hk=>hkf k (List.mem_of_mem_drop hk)
   rw[sumW_drop hx0] at gs
   refine⟨⟨g0,hlt⟩,ad0,ha0,_,_,_,_,_,_,_,_,_,_,hr0,Tri.ret ht0 fun I2 l2=>⟨_,rfl,F1,.refl _,(t.kids.length-(i+1)).toNat,by omega, ?_⟩⟩
   rw[w64 (n:=i+1) (by omega),w64 (n:=w+x0.px.wt) (by omega)]
   refine⟨h7,by omega,by omega,rfl,by omega, ?_,rfl⟩
   rw[gs,show (i+1).toNat=i.toNat+1 by omega,Int.add_assoc]
  ·have hlt:=of_decide_eq_false hlt
   rw[gs,List.drop_eq_nil_of_le (by omega)]
   show _=Ending.returned (Value.int .i64 (w+0))
   rw[Int.add_zero]
 ·have h7:t.kind≠7:=by simpa using h7
  have h9:t.kind≠9:=by simpa using h9
  rw[hwt];unfold wtF;rw[if_neg h7,if_neg h9];rfl
 ·obtain⟨h7,g0,g1,gm,g2,gs,gF⟩:=hinv
  subst gF
  refine⟨fun hlt=>?_,fun hlt=>⟨?_,rfl⟩⟩
  ·have hlt:=of_decide_eq_true hlt
   obtain⟨ad0,x0,ha0,hx0,hr0,hw0,hs0,ht0⟩:=hat hI g0 hlt b_n
   have hd:=sumW_le (l:=t.kids.drop (i.toNat+1)) fun k hk=>hkf k (List.mem_of_mem_drop hk)
   rw[sumW_drop hx0] at gs
   refine⟨⟨g0,hlt⟩,ad0,ha0,_,_,_,_,_,_,_,_,_,_,hr0,Tri.ret ht0 fun I2 l2=>⟨_,rfl,F1,.refl _,(t.kids.length-(i+1)).toNat,by omega, ?_⟩⟩
   rw[w64 (n:=i+1) (by omega),w64 (n:=w+x0.px.wt) (by omega)]
   refine⟨h7,by omega,by omega,rfl,by omega, ?_,rfl⟩
   rw[gs,show (i+1).toNat=i.toNat+1 by omega,Int.add_assoc]
  ·have hlt:=of_decide_eq_false hlt
   rw[gs,List.drop_eq_nil_of_le (by omega)]
   show _=Ending.returned (Value.int .i64 (w+0))
   rw[Int.add_zero]
set_option maxHeartbeats 1000000 in
theorem rbody_spec(r:RuleN){I:Imm}{F:Heap}(hr:r.Ok I F)(hs:r.p.Sound):Tri P 73 #[r.v] I F (Ret (.tuple #[.int .i64 r.p.body,.int .i64 r.p.acts]) F):=by
 have hbd:=hs.body
 have hlen:=hs.len
 have hlen:r.dos.length≤8:=by simpa[RuleN.p] using hlen
 refine ref16_body.vc
  (fun w u x m I0 F0 I' F'=>0≤x∧x≤r.dos.length∧m=(r.dos.length-x).toNat∧F'=F∧0≤w∧w+sumW ((r.dos.drop x.toNat).map fun d=>d.p.wt)=r.p.body∧0≤u∧u≤x∧u+sumW ((r.dos.drop x.toNat).map fun d=>d.p.act)=r.p.acts)
  (fun x w k m I0 F0 I' F'=>∃d,r.dos[x.toNat]? = some d∧0≤k∧k≤4∧m=(4-k).toNat∧F'=F∧0≤w∧w+sumK ((partsN d).drop k.toNat)+sumW ((r.dos.drop (x.toNat+1)).map fun d=>d.p.wt)=r.p.body) ?_
 unfold ref16_body.V
 intro b_r
 refine⟨⟨_,by omega,by omega,rfl,rfl,by omega, ?_,by omega,by omega, ?_⟩,fun w u x m I1 F1 l1 ⟨g0,g1,gm,gF,gw,gs,u0,u1,ga⟩=>⟨fun hlt=>?_,fun hlt=>?_⟩⟩
 ·rw[body_eq,Int.zero_add];rfl
 ·rw[acts_eq,Int.zero_add];rfl
 ·have hlt:=of_decide_eq_true hlt
  subst gF
  have hr1:r.Ok I1 ((b_r,Obj.cells #[.int .u8 r.when.kind,.int .u8 r.when.oper,.int .u8 r.when.typ,.int .i64 r.when.n,.int .u8 r.when.field,.string r.when.name,.slice r.when.a r.when.kids.length r.when.c,.int .i64 r.when.pos,.slice r.a r.dos.length r.c,.int .i64 r.pos] 84 (0,0))::F1):=hr.mono l1 fun y hy=>.tail _ hy
  obtain⟨ad,d,had,hd,hrd,hdm⟩:=SlG.atm hr1.2.1 g0 hlt
  refine⟨⟨g0,hlt⟩,ad,had,_,_,_,_,_,_,_,_,_,_,_,_,_,_,_,_,_,_,_,_,_,_,_,_,_,_,_,_,_,_,_,_,_,_,_,_,_,_,_,_,_,_,_,_,hrd,fun b_d b2 I2 l2 hb2=>⟨⟨_,d,hd,by omega,by omega,rfl,rfl,gw, ?_⟩,fun w' k m3 I3 F3 l3 ⟨d',hd',k0,k4,km,kF,ku,ks⟩=>⟨fun hk=>?_,fun hk=>?_⟩⟩⟩
  ·rw[←gs,sumD_drop DoP.wt hd]
   show w+sumK (partsN d)+_=_
   rw[sumK_do,Int.add_assoc]
  ·obtain rfl:d=d':=by rw[hd] at hd';exact Option.some.inj hd'
   have hk:=of_decide_eq_true hk
   subst kF
   have hso:=parts_sound (hs.dos d.p (List.mem_map_of_mem hdm))
   obtain⟨ad1,x1,had1,hx1,hrd1,hxm⟩:=SlG.atm (parts_sl (l3.at hb2) ((b_r,Obj.cells #[.int .u8 r.when.kind,.int .u8 r.when.oper,.int .u8 r.when.typ,.int .i64 r.when.n,.int .u8 r.when.field,.string r.when.name,.slice r.when.a r.when.kids.length r.when.c,.int .i64 r.when.pos,.slice r.a r.dos.length r.c,.int .i64 r.pos] 84 (0,0))::(b_d,Obj.cells #[.int .u8 d.kind,.int .u8 d.order,.string d.name,.int .u8 d.side.kind,.int .u8 d.side.oper,.int .u8 d.side.typ,.int .i64 d.side.n,.int .u8 d.side.field,.string d.side.name,.slice d.side.a d.side.kids.length d.side.c,.int .i64 d.side.pos,.int .u8 d.qty.kind,.int .u8 d.qty.oper,.int .u8 d.qty.typ,.int .i64 d.qty.n,.int .u8 d.qty.field,.string d.qty.name,.slice d.qty.a d.qty.kids.length d.qty.c,.int .i64 d.qty.pos,.int .u8 d.price.kind,.int .u8 d.price.oper,.int .u8 d.price.typ,.int .i64 d.price.n,.int .u8 d.price.field,.string d.price.name,.slice d.price.a d.price.kids.length d.price.c,.int .i64 d.price.pos,.int .u8 d.value.kind,.int .u8 d.value.oper,.int .u8 d.value.typ,.int .i64 d.value.n,.int .u8 d.value.field,.string d.value.name,.slice d.value.a d.value.kids.length d.value.c,.int .i64 d.value.pos,.int .i64 d.pos] 99 (0,0))::F3)) k0 hk
   have hp:=hso x1 hxm
   have hpr:=hp.range
   have n1:=sumK_nonneg (l:=(partsN d).drop (k.toNat+1)) fun y hy=>hso y (List.mem_of_mem_drop hy)
   have n2:=sumD_nonneg hs (x.toNat+1)
   rw[sumK_drop hx1] at ks
   refine⟨⟨k0,hk⟩,ad1,had1,x1.kind, ?_,fun hn=>⟨⟨k0,hk⟩,ad1,had1,_,_,_,_,_,_,_,_,_,_,hrd1, ?_⟩,fun hn=>⟨(4-(k+1)).toNat,by omega,d,hd, ?_⟩⟩
   ·obtain⟨q1,cells,e,fz,q2,q3⟩:=hrd1
    have ha:∀a:Addr,a.add 0=a:=fun a=>by unfold Addr.add;rfl
    rw[ha]
    exact⟨q1,cells,e,fz,q2,fun j hj=>by
     have:j=0:=by simpa using hj
     subst this
     exact q3 0 (by show 0<8;decide)⟩
   ·have hn:x1.px.kind≠0:=by rw[Nd.px_kind];simpa using hn
    have hw:partW x1.px=x1.px.wt:=if_neg hn
    have hok:NdOk I3 ((b_r,Obj.cells #[.int .u8 r.when.kind,.int .u8 r.when.oper,.int .u8 r.when.typ,.int .i64 r.when.n,.int .u8 r.when.field,.string r.when.name,.slice r.when.a r.when.kids.length r.when.c,.int .i64 r.when.pos,.slice r.a r.dos.length r.c,.int .i64 r.pos] 84 (0,0))::(b_d,Obj.cells #[.int .u8 d.kind,.int .u8 d.order,.string d.name,.int .u8 d.side.kind,.int .u8 d.side.oper,.int .u8 d.side.typ,.int .i64 d.side.n,.int .u8 d.side.field,.string d.side.name,.slice d.side.a d.side.kids.length d.side.c,.int .i64 d.side.pos,.int .u8 d.qty.kind,.int .u8 d.qty.oper,.int .u8 d.qty.typ,.int .i64 d.qty.n,.int .u8 d.qty.field,.string d.qty.name,.slice d.qty.a d.qty.kids.length d.qty.c,.int .i64 d.qty.pos,.int .u8 d.price.kind,.int .u8 d.price.oper,.int .u8 d.price.typ,.int .i64 d.price.n,.int .u8 d.price.field,.string d.price.name,.slice d.price.a d.price.kids.length d.price.c,.int .i64 d.price.pos,.int .u8 d.value.kind,.int .u8 d.value.oper,.int .u8 d.value.typ,.int .i64 d.value.n,.int .u8 d.value.field,.string d.value.name,.slice d.value.a d.value.kids.length d.value.c,.int .i64 d.value.pos,.int .i64 d.pos] 99 (0,0))::F3) x1:=(parts_ok (hr.2.2 d hdm) x1 hxm).mono (Imm.le_trans (Imm.le_trans l1 l2) l3) fun y hy=>.tail _ (.tail _ hy)
    have hsz:=hp.size
    refine Tri.ret (rweight_spec x1 (by omega) (hp.ok.resolve_left hn) I3 _ hok) fun I4 l4=>⟨_,rfl,F3,.refl _,(4-(k+1)).toNat,by omega,d,hd, ?_⟩
    rw[w64 (n:=k+1) (by omega),w64 (n:=w'+x1.px.wt) (by omega)]
    refine⟨by omega,by omega,rfl,rfl,by omega, ?_⟩
    rw[show (k+1).toNat=k.toNat+1 by omega,←ks,hw];omega
   ·have hn:x1.px.kind=0:=by rw[Nd.px_kind];simpa using hn
    have hw:partW x1.px=0:=if_pos hn
    rw[w64 (n:=k+1) (by omega)]
    refine⟨by omega,by omega,rfl,rfl,ku, ?_⟩
    rw[show (k+1).toNat=k.toNat+1 by omega,←ks,hw];omega
  ·obtain rfl:d=d':=by rw[hd] at hd';exact Option.some.inj hd'
   have hk:=of_decide_eq_false hk
   rw[List.drop_eq_nil_of_le (show (partsN d).length≤k.toNat by show 4≤_;omega)] at ks
   have ks:w'+0+sumW ((r.dos.drop (x.toNat+1)).map fun d=>d.p.wt)=r.p.body:=ks
   rw[sumD_drop DoP.act hd] at ga
   subst kF
   have key:∀v,v=u+d.p.act→∃m2:Nat,m2<m∧(0≤IntKind.wrap .i64 (x+1)∧IntKind.wrap .i64 (x+1)≤r.dos.length∧m2=(r.dos.length-IntKind.wrap .i64 (x+1)).toNat∧F3=F3∧0≤w'∧w'+sumW ((r.dos.drop (IntKind.wrap .i64 (x+1)).toNat).map fun d=>d.p.wt)=r.p.body ∧
     0≤v∧v≤IntKind.wrap .i64 (x+1)∧v+sumW ((r.dos.drop (IntKind.wrap .i64 (x+1)).toNat).map fun d=>d.p.act)=r.p.acts):=by
    intro v hv
    have:=d.p.act_range
    rw[w64 (n:=x+1) (by omega)]
    refine⟨(r.dos.length-(x+1)).toNat,by omega,by omega,by omega,rfl,rfl,ku, ?_,by omega,by omega, ?_⟩
    ·rw[show (x+1).toNat=x.toNat+1 by omega,←ks];omega
    ·rw[show (x+1).toNat=x.toNat+1 by omega,←ga];omega
   have hk:d.p.kind=d.kind:=rfl
   have hw:IntKind.wrap .i64 (u+1)=u+1:=w64 (by omega)
   refine⟨fun h=>?_,fun h=>⟨fun h2=>?_,fun h2=>⟨fun h3=>?_,fun h3=>?_⟩⟩⟩
   ·rw[hw];exact key _ (by unfold DoP.act;rw[hk,if_pos (by simp at h;exact .inl h)])
   ·rw[hw];exact key _ (by unfold DoP.act;rw[hk,if_pos (by simp at h2;exact .inr (.inl h2))])
   ·rw[hw];exact key _ (by unfold DoP.act;rw[hk,if_pos (by simp at h3;exact .inr (.inr h3))])
   ·refine key _ ?_
    simp at h h2 h3
    unfold DoP.act;rw[hk,if_neg (by omega),Int.add_zero]
 ·have hlt:=of_decide_eq_false hlt
  rw[List.drop_eq_nil_of_le (by omega)] at gs ga
  have gs:w+0=r.p.body:=gs
  have ga:u+0=r.p.acts:=ga
  refine⟨?_,gF⟩
  rw[←gs,←ga,Int.add_zero,Int.add_zero]
set_option maxHeartbeats 1000000 in
theorem rstate16_spec(x:StateN){I:Imm}{F:Heap}(hx:x.Ok I F)(hs:x.p.Sound):Tri P 45 #[x.v] I F (Ret (.agg #[.int .i64 x.p.steps,.int .i64 x.p.acts]) F):=by
 have hyl:x.rules.length≤12:=by have:=hs.len;simpa[StateN.p] using this
 have hyr:=hs.range
 refine ref16_state.vc (fun most k st ac m I' F'=>F'=F∧0≤k∧k≤x.rules.length∧m=(x.rules.length-k).toNat∧0≤st∧st≤2097152*k∧(0≤most∧most≤67108864)∧(0≤ac∧ac≤8) ∧
  st+sumW ((x.rules.drop k.toNat).map fun r=>r.when.px.wt)+maxW most ((x.rules.drop k.toNat).map fun r=>r.p.body)=x.p.steps∧maxW ac ((x.rules.drop k.toNat).map fun r=>r.p.acts)=x.p.acts) ?_
 unfold ref16_state.V
 intro b_x b b_c
 refine⟨⟨_,rfl,by omega,by omega,rfl,by omega,by omega,by omega,by omega, ?_, ?_⟩,fun most k st ac m I1 F1 l1 ⟨gF,k0,k1,km,s0,s1,mo,a0,ks,ka⟩=>⟨fun hk=>?_,fun hk=>⟨?_,gF⟩⟩⟩
 ·rw[steps_eq];show 0+_+_=_;rw[Int.zero_add];rfl
 ·rw[acts_st];rfl
 ·have hk:=of_decide_eq_true hk
  subst gF
  have hx1:∀{J:Imm} (z1 z2 z3:Nat×Obj),Imm.le I J→x.Ok J (z1::z2::z3::F1):=fun z1 z2 z3 hJ=>hx.mono hJ fun _ h=>.tail _ (.tail _ (.tail _ h))
  obtain⟨ad,r,had,hr,hrd,hrm⟩:=SlG.atm (hx1 (b_x,Obj.cells #[.string x.name,.slice x.a x.rules.length x.c,.int .i64 x.pos] 65 (0,0)) (b,.cells #[.int .i64 0,.int .i64 0] 57 (0,0)) (b_c,.cells #[.int .i64 st,.int .i64 ac] 57 (0,0)) l1).1 k0 hk
  have hrs:=hs.rules r.p (List.mem_map_of_mem hrm)
  have hrw:=hs.when r hrm
  have hbd:=hrs.body
  have hra:=r.p.acts_range
  have hrl:=hrs.len
  have hsz:r.when.px.size≤1048576:=hrs.size
  rw[sumR_drop _ hr,maxR_drop _ hr] at ks
  rw[maxR_drop _ hr] at ka
  refine⟨⟨k0,hk⟩,ad,had,_,_,_,_,_,_,_,_,_,_,_,_,_,_,hrd,Tri.ret (rbody_spec r ((hx1 _ _ _ l1).2 r hrm) hrs) fun I2 l2=>⟨_,_,rfl,F1,.refl _, ?_⟩⟩
  have l02:=Imm.le_trans l1 l2
  have key:∀most2 ac2,most2=max most r.p.body→ac2=max ac r.p.acts→((0≤k∧k<(x.rules.length:Int))∧∃ad1:Addr,x.a=some ad1∧∃(m_01 m_11 m_21 m_31 m_41:Int) (m_51:ByteArray) (m_6_a1:Option Addr) (m_6_n1 m_6_c1:Nat) (m_71:Int),
    Rd I2 ((b_x,Obj.cells #[.string x.name,.slice x.a x.rules.length x.c,.int .i64 x.pos] 65 (0,0))::(b,.cells #[.int .i64 0,.int .i64 0] 57 (0,0))::(b_c,.cells #[.int .i64 st,.int .i64 ac2] 57 (0,0))::F1) ((ad1.add (k.toNat*10)).add 0) [.int .u8 m_01,.int .u8 m_11,.int .u8 m_21,.int .i64 m_31,.int .u8 m_41,.string m_51,.slice m_6_a1 m_6_n1 m_6_c1,.int .i64 m_71]∧∃(q:Int),
    (Tri P 35 #[.agg #[.int .u8 m_01,.int .u8 m_11,.int .u8 m_21,.int .i64 m_31,.int .u8 m_41,.string m_51,.slice m_6_a1 m_6_n1 m_6_c1,.int .i64 m_71]] I2 ((b_x,Obj.cells #[.string x.name,.slice x.a x.rules.length x.c,.int .i64 x.pos] 65 (0,0))::(b,.cells #[.int .i64 0,.int .i64 0] 57 (0,0))::(b_c,.cells #[.int .i64 st,.int .i64 ac2] 57 (0,0))::F1) fun e2 I3 G2=>e2=.returned (.int .i64 q)∧G2.Perm ((b_x,Obj.cells #[.string x.name,.slice x.a x.rules.length x.c,.int .i64 x.pos] 65 (0,0))::(b,.cells #[.int .i64 0,.int .i64 0] 57 (0,0))::(b_c,.cells #[.int .i64 st,.int .i64 ac2] 57 (0,0))::F1)) ∧
    ∃m2:Nat,m2<m∧(F1=F1∧0≤IntKind.wrap .i64 (k+1)∧IntKind.wrap .i64 (k+1)≤x.rules.length∧m2=(x.rules.length-IntKind.wrap .i64 (k+1)).toNat∧0≤IntKind.wrap .i64 (st+q)∧IntKind.wrap .i64 (st+q)≤2097152*IntKind.wrap .i64 (k+1)∧(0≤most2∧most2≤67108864)∧(0≤ac2∧ac2≤8) ∧
     IntKind.wrap .i64 (st+q)+sumW ((x.rules.drop (IntKind.wrap .i64 (k+1)).toNat).map fun r=>r.when.px.wt)+maxW most2 ((x.rules.drop (IntKind.wrap .i64 (k+1)).toNat).map fun r=>r.p.body)=x.p.steps∧maxW ac2 ((x.rules.drop (IntKind.wrap .i64 (k+1)).toNat).map fun r=>r.p.acts)=x.p.acts)):=by
   intro most2 ac2 hm ha
   have hxx:=hx1 (b_x,Obj.cells #[.string x.name,.slice x.a x.rules.length x.c,.int .i64 x.pos] 65 (0,0)) (b,.cells #[.int .i64 0,.int .i64 0] 57 (0,0)) (b_c,.cells #[.int .i64 st,.int .i64 ac2] 57 (0,0)) l02
   obtain⟨ad1,r1,had1,hr1,hrd1,_⟩:=SlG.atm hxx.1 k0 hk
   obtain rfl:r=r1:=by rw[hr] at hr1;exact Option.some.inj hr1
   refine⟨⟨k0,hk⟩,ad1,had1,_,_,_,_,_,_,_,_,_,_, ?_,r.when.px.wt,(rweight_spec r.when (by omega) hrs.when I2 _ (hxx.2 r hrm).1).mono fun e I3 G l3 ⟨he,hG⟩=>⟨he,by rw[hG]⟩,(x.rules.length-(k+1)).toNat,by omega, ?_⟩
   ·obtain⟨q1,cells,e,fz,q2,q3⟩:=hrd1
    have ha:∀a:Addr,a.add 0=a:=fun a=>by unfold Addr.add;rfl
    rw[ha]
    exact⟨q1,cells,e,fz,q2,fun j hj=>by
     have hj:j<8:=hj
     have h:=q3 j (by show j<10;omega)
     rw[h]
     match j,hj with
     | 0,_=>rfl
     | 1,_=>rfl
     | 2,_=>rfl
     | 3,_=>rfl
     | 4,_=>rfl
     | 5,_=>rfl
     | 6,_=>rfl
     | 7,_=>rfl⟩
   ·have hrp:r.p.dos.length=r.dos.length:=by simp[RuleN.p]
    rw[w64 (n:=k+1) (by omega),w64 (n:=st+r.when.px.wt) (by omega)]
    refine⟨rfl,by omega,by omega,rfl,by omega,by omega,by omega,by omega, ?_, ?_⟩
    ·rw[show (k+1).toNat=k.toNat+1 by omega,←ks,hm];omega
    ·rw[show (k+1).toNat=k.toNat+1 by omega,←ka,ha]
  refine⟨fun h=>⟨fun h2=>key _ _ ?_ ?_,fun h2=>key _ _ ?_ ?_⟩,fun h=>⟨fun h2=>key _ _ ?_ ?_,fun h2=>key _ _ ?_ ?_⟩⟩
  all_goals (first | have h:=of_decide_eq_true h | have h:=of_decide_eq_false h)
  all_goals (first | have h2:=of_decide_eq_true h2 | have h2:=of_decide_eq_false h2)
  all_goals omega
 ·have hk:=of_decide_eq_false hk
  rw[List.drop_eq_nil_of_le (by omega)] at ks ka
  have ks:st+0+most=x.p.steps:=ks
  have ka:ac=x.p.acts:=ka
  rw[w64 (n:=st+most) (by omega),show st+most=x.p.steps by omega,ka]
end Go.Lx
namespace Go.Lx
open Go.Vc
theorem cost_under:P.underlying 57=some (.struct (P.fieldsOf 57)):=by kernel_rfl
theorem cost_stood:P.stoodInHeld 57=false:=by kernel_rfl
theorem cost_guard:P.eqGuardType P.depth 57=false:=by kernel_rfl
theorem cost_flat(a p b q:Int):flatEq P #[.int .i64 a,.int .i64 p] #[.int .i64 b,.int .i64 q] (P.fieldsOf 57).toList=some (a==b&&(p==q&&true)):=by kernel_rfl
theorem cost_b(a p b q:Int):(a==b&&(p==q&&true))=decide (((a,p):C2)=(b,q)):=by
 by_cases h1:a=b<;>by_cases h2:p=q<;>simp[h1,h2]
theorem cost_eql(a p b q:Int){x y:Operand}:BinRun P .eql 57 x y (.agg #[.int .i64 a,.int .i64 p]) (.agg #[.int .i64 b,.int .i64 q]) (decide (((a,p):C2)=(b,q))):=by
 rw[←cost_b];exact struct_eql cost_under cost_stood cost_guard (cost_flat ..)
def StgP.said(s:StgP):List C2:=if s.types.e≠0 then [] else s.costs
def SaidQ(s:StgN)(F:Heap)(e:Ending)(I:Imm)(G:Heap):Prop:=∃(a:Option Addr) (n c:Nat),e=.returned (.tuple #[.slice a n c,s.p.types.v])∧Sl I 2 encC a n s.p.said∧G=F
theorem take_snoc{l:List C2}{i:Nat}{x:C2}(h:l[i]? = some x):l.take (i+1)=l.take i++[x]:=by
 obtain⟨hk,hx⟩:=List.getElem?_eq_some_iff.1 h
 rw[List.take_succ_eq_append_getElem hk,hx]
theorem encC_one(c:C2):∀u∈encC c,u.oneCell'=true:=by
 intro u hu
 simp only[encC,List.mem_cons,List.not_mem_nil,or_false] at hu
 rcases hu with h | h<;>(subst h;rfl)
set_option maxHeartbeats 1000000 in
theorem rstates16_spec(s:StgN)(hl:s.p.Thin){I:Imm}{F:Heap}(hok:s.Ok I F):Tri P 21 #[s.v] I F (SaidQ s F):=by
 refine Tri.keep (Q:=fun e I' G=>∃(a:Option Addr) (n c:Nat) (A:Heap),e=.returned (.tuple #[.slice a n c,s.p.types.v])∧Acc 2 encC 57 a n c s.p.said A∧G.Perm (A++F)) ?_ fun e I' G w _ hs ⟨a,n,c,A,he,hA,hG⟩=>by
  obtain⟨J,k1,k2,k3⟩:=Acc.keep (z:=2) (f:=encC) (fun _=>rfl) hA (hs.perm hG)
  exact⟨J,F,k1,k2,a,n,c,he,k3,rfl⟩
 refine ref16_States.vc (fun a n c i m I' F'=>s.p.types.e=0∧0≤i∧i≤s.states.length∧m=(s.states.length-i).toNat∧∃A,Acc 2 encC 57 a n c (s.p.costs.take i.toNat) A∧F'.Perm (A++F)) ?_
 unfold ref16_States.V
 intro b_s b
 refine Tri.ret (Check15_specT s hl (hok.mono (Imm.le_refl I) fun y hy=>.tail _ (.tail _ hy))) fun I1 l1=>⟨_,_,_,rfl,F,.refl _,fun b_f=>⟨fun h=>?_,fun h=>?_⟩⟩
 ·have h:s.p.types.e≠0:=by simpa using h
  refine⟨none,0,0,[],rfl, ?_,.refl _⟩
  unfold StgP.said;rw[if_pos h];exact Acc.nil
 have h:s.p.types.e=0:=by simpa using h
 have hs:=StgP.sound (types_check h) hl
 have hn:s.states.length≤12:=by have:=hs.len;simpa[StgN.p] using this
 have hcl:=costs_len s
 refine⟨⟨_,h,by omega,by omega,rfl,[],Acc.nil,.refl _⟩,fun a n c i m I2 F2 l2 ⟨_,g0,g1,gm,A,hA,gF⟩=>⟨fun hlt=>?_,fun hlt=>?_⟩⟩
 ·have hlt:=of_decide_eq_true hlt
  have hsub:∀y,y∈F→y∈F2:=fun y hy=>gF.mem_iff.2 (List.mem_append_right _ hy)
  have l02:=Imm.le_trans l1 l2
  have hok3:∀{J:Imm} (x1 x2 x3:Nat×Obj),Imm.le I J→s.Ok J (x1::x2::x3::F2):=fun x1 x2 x3 hJ=>hok.mono hJ fun y hy=>.tail _ (.tail _ (.tail _ (hsub y hy)))
  obtain⟨ad,y,had,hy,hrd,hym⟩:=SlG.atm (hok3 (b_s,Obj.cells #[.string s.name,.slice s.ra s.regs.length s.rc,.slice s.sa s.slots.length s.sc,.slice s.ta s.states.length s.tc] 39 (0,0)) (b,.cells #[.int .i64 0,.int .i64 0,.bool false] 51 (0,0)) (b_f,.cells #[.int .i64 s.p.types.e,.int .i64 s.p.types.pos,.bool s.p.types.of] 51 (0,0)) l02).states g0 hlt
  refine⟨⟨g0,hlt⟩,ad,had,_,_,_,_,_,hrd,Tri.ret (rstate16_spec y ((hok3 _ _ _ l02).state y hym) (hs.states y.p (List.mem_map_of_mem hym))) fun I3 l3=>⟨_,_,rfl,F2,.refl _,fun b1 I4 l4 hb1=>?_⟩⟩
  have hlen:(s.p.costs.take i.toNat).length≤100:=by rw[List.length_take];omega
  refine TriE.mono (p_app (z:=2) (f:=encC) (by':=16) (zv:=.agg #[.int .i64 0,.int .i64 0]) (fun _=>rfl) (by kernel_rfl) (by kernel_rfl) rfl (by decide) (by decide) hA hlen (y.p.steps,y.p.acts) (encC_one _) hb1 rfl (R:=(b_s,Obj.cells #[.string s.name,.slice s.ra s.regs.length s.rc,.slice s.sa s.slots.length s.sc,.slice s.ta s.states.length s.tc] 39 (0,0))::(b,.cells #[.int .i64 0,.int .i64 0,.bool false] 51 (0,0))::(b_f,.cells #[.int .i64 s.p.types.e,.int .i64 s.p.types.pos,.bool s.p.types.of] 51 (0,0))::F) (perm_of fun z=>by have q0:=cn_perm gF z;simp only[cn_app,cn_cons,cn_nil] at q0 ⊢;omega)) fun v I5 G l5 ⟨a',n',c',A',hv,hA',hG⟩=>?_
  refine⟨a',n',c',hv,A'++F,hG.trans (perm_of fun z=>by simp only[cn_app,cn_cons,cn_nil];omega),(s.states.length-(i+1)).toNat,by omega, ?_⟩
  rw[w64 (n:=i+1) (by omega)]
  refine⟨h,by omega,by omega,rfl,A', ?_,.refl _⟩
  have hcy:s.p.costs[i.toNat]? = some (y.p.steps,y.p.acts):=by
   show ((s.states.map StateN.p).map StateP.cost)[i.toNat]? = _
   rw[List.getElem?_map,List.getElem?_map,hy];rfl
  rw[show (i+1).toNat=i.toNat+1 by omega,take_snoc hcy];exact hA'
 ·have hlt:=of_decide_eq_false hlt
  rw[List.take_of_length_le (by omega)] at hA
  refine⟨a,n,c,A,rfl, ?_,gF⟩
  unfold StgP.said;rw[if_neg (by simpa using h)];exact hA
theorem cost_of(s:StgP):s.cost=if 500<maxW 0 (s.said.map Prod.fst) then ((0,0),⟨160,0,false⟩) else ((maxW 0 (s.said.map Prod.fst),maxW 0 (s.said.map Prod.snd)),s.types):=by
 unfold StgP.cost StgP.said
 by_cases h:s.types.e≠0
 ·rw[if_pos h,if_pos h];rfl
 ·rw[if_neg h,if_neg h]
  have hz:s.types=zTF:=types_Z s (by simpa using h)
  rw[hz];rfl
set_option maxHeartbeats 1000000 in
theorem rstrategy16_spec(s:StgN)(hl:s.p.Thin){I:Imm}{F:Heap}(hok:s.Ok I F):Tri P 25 #[s.v] I F (Ret (.tuple #[.agg #[.int .i64 s.p.cost.1.1,.int .i64 s.p.cost.1.2],s.p.cost.2.v]) F):=by
 have hlen:s.p.said.length≤1048576:=by
  unfold StgP.said
  split
  ·decide
  ·have:=hl.states;have:=costs_len s;simp only[StgN.p,List.length_map] at *;omega
 refine ref16_Strategy.vc (fun i c0 c1 m I' F'=>F'=F∧0≤i∧i≤s.p.said.length∧m=(s.p.said.length-i).toNat∧maxW c0 ((s.p.said.drop i.toNat).map Prod.fst)=maxW 0 (s.p.said.map Prod.fst)∧maxW c1 ((s.p.said.drop i.toNat).map Prod.snd)=maxW 0 (s.p.said.map Prod.snd)) ?_
 unfold ref16_Strategy.V
 intro b_s b b1
 refine (rstates16_spec s hl (hok.mono (Imm.le_refl I) fun y hy=>.tail _ (.tail _ (.tail _ hy)))).mono fun e I1 G l1 ⟨a,n,c,he,hS,hG⟩=>?_
 subst hG
 have hn:=hS.1
 refine⟨_,_,_,_,_,_,he,F,.refl _,fun b_f b_c=>⟨⟨_,rfl,by omega,by omega,rfl,rfl,rfl⟩,fun x c0 c1 m I2 F2 l2 ⟨gF,g0,g1,gm,gs,ga⟩=>⟨fun hlt=>?_,fun hlt=>?_⟩⟩⟩
 ·have hlt:=of_decide_eq_true hlt
  subst gF
  have hlt':x<(n:Int):=hlt
  have rd:∃(ad:Addr) (c:C2),a=some ad∧s.p.said[x.toNat]? = some c∧(∀G,Rd I2 G ((ad.add (x.toNat*2)).add 0) [.int .i64 c.1])∧∀G,Rd I2 G ((ad.add (x.toNat*2)).add 1) [.int .i64 c.2]:=by
   obtain⟨ad,ha,hr⟩:=hS.2 (by intro e;rw[e] at hn;simp at hn;omega)
   have hk:x.toNat<s.p.said.length:=by omega
   have hc:s.p.said[x.toNat]? = some s.p.said[x.toNat]:=List.getElem?_eq_getElem hk
   refine⟨ad,s.p.said[x.toNat],ha,hc,fun G=>?_,fun G=>?_⟩
   all_goals
    obtain⟨q1,cells,e,fz,q2,q3⟩:=((hr _ _ hc) G).mono l2
   ·have ha:∀a:Addr,a.add 0=a:=fun a=>by unfold Addr.add;rfl
    rw[ha]
    exact⟨q1,cells,e,fz,q2,fun j hj=>by
     have:j=0:=by simpa using hj
     subst this
     exact q3 0 (by show 0<2;decide)⟩
   ·have h2:∀z:Addr,z.spot=none→z.add 1=⟨z.block,z.off+1,none⟩:=fun z hz=>by
     cases z;simp only at hz;subst hz;rfl
    rw[h2 _ q1]
    exact⟨rfl,cells,e,fz,q2,fun j hj=>by
     have:j=0:=by simpa using hj
     subst this
     exact q3 1 (by show 1<2;decide)⟩
  obtain⟨ad,c,had,hc,hr0,hr1⟩:=rd
  rw[maxC_drop _ hc] at gs ga
  have key:∀d0 d1:Int,d0=max c0 c.1→d1=max c1 c.2→∃m2:Nat,m2<m∧(F2=F2∧0≤IntKind.wrap .i64 (x+1)∧IntKind.wrap .i64 (x+1)≤s.p.said.length∧m2=(s.p.said.length-IntKind.wrap .i64 (x+1)).toNat ∧
    maxW d0 ((s.p.said.drop (IntKind.wrap .i64 (x+1)).toNat).map Prod.fst)=maxW 0 (s.p.said.map Prod.fst)∧maxW d1 ((s.p.said.drop (IntKind.wrap .i64 (x+1)).toNat).map Prod.snd)=maxW 0 (s.p.said.map Prod.snd)):=fun d0 d1 h0 h1=>by
   rw[w64 (n:=x+1) (by omega)]
   refine⟨(s.p.said.length-(x+1)).toNat,by omega,rfl,by omega,by omega,rfl, ?_, ?_⟩
   ·rw[show (x+1).toNat=x.toNat+1 by omega,h0,←gs]
   ·rw[show (x+1).toNat=x.toNat+1 by omega,h1,←ga]
  refine⟨⟨g0,hlt⟩,ad,had,c.1,hr0 _,fun h=>⟨⟨g0,hlt⟩,ad,had,c.1,hr0 _,⟨g0,hlt⟩,ad,had,c.2,hr1 _,fun h2=>⟨⟨g0,hlt⟩,ad,had,c.2,hr1 _,key _ _ ?_ ?_⟩,fun h2=>key _ _ ?_ ?_⟩,fun h=>⟨⟨g0,hlt⟩,ad,had,c.2,hr1 _,fun h2=>⟨⟨g0,hlt⟩,ad,had,c.2,hr1 _,key _ _ ?_ ?_⟩,fun h2=>key _ _ ?_ ?_⟩⟩
  all_goals (first | have h:=of_decide_eq_true h | have h:=of_decide_eq_false h)
  all_goals (first | have h2:=of_decide_eq_true h2 | have h2:=of_decide_eq_false h2)
  all_goals omega
 ·have hlt:=of_decide_eq_false hlt
  rw[List.drop_eq_nil_of_le (by omega)] at gs ga
  have gs:c0=maxW 0 (s.p.said.map Prod.fst):=gs
  have ga:c1=maxW 0 (s.p.said.map Prod.snd):=ga
  rw[cost_of]
  refine⟨fun h=>⟨?_,gF⟩,fun h=>⟨?_,gF⟩⟩
  ·have h:=of_decide_eq_true h
   rw[if_pos (by omega)];rfl
  ·have h:=of_decide_eq_false h
   rw[if_neg (by omega),gs,ga];rfl
def exE16:ByteArray:=(⟨#[100,111,110,101,32,63,32,98,105,100,32,58,32,98,105,100,32,43,32,49,112]⟩:ByteArray)
def exS16:ByteArray:=(⟨#[115,116,114,97,116,101,103,121,32,115,32,123,32,114,101,103,32,110,32,105,110,116,32,61,32,48,59,32,115,108,111,116,32,111,59,32,115,116,97,116,101,32,97,32,123,32,119,104,101,110,32,104,97,115,32,98,105,100,32,100,111,32,115,117,98,109,105,116,32,98,117,121,32,111,102,32,50,113,32,97,116,32,98,105,100,32,43,32,49,112,32,108,105,109,105,116,44,32,104,97,108,116,59,32,119,104,101,110,32,110,111,119,32,62,32,53,116,32,100,111,32,115,101,116,32,110,32,61,32,110,32,43,32,49,44,32,99,97,110,99,101,108,32,111,44,32,99,97,110,99,101,108,32,111,59,32,125,32,115,116,97,116,101,32,98,32,123,125,32,125]⟩:ByteArray)
abbrev awE16:Px:=(parseE exE16).1
abbrev awS16:StgP:=(parseS exS16).1
theorem e16_size:awE16.size≤1048576:=of_decide_eq_true (by kernel_rfl)
theorem e16_wt:(if awE16.formed then awE16.wt else 0)=6:=by kernel_rfl
theorem s16_light:awS16.Light:=StgP.light (of_decide_eq_true (by kernel_rfl))
theorem s16_types:awS16.types.e=0:=by kernel_rfl
theorem s16_cost:awS16.cost=((9,2),zTF):=by kernel_rfl
theorem s16_costs:awS16.costs=[(9,2),(0,0)]:=by kernel_rfl
theorem zStg16_light:zStg.p.Light:=StgP.light (by decide)
theorem zStg16_types:zStg.p.types.e≠0:=by
 have h:zStg.p.types.e=120:=by kernel_rfl
 rw[h];decide
theorem zStg16_ok{I:Imm}{F:Heap}:zStg.Ok I F:=⟨SlG.nil,fun r hr=>(by cases hr),SlG.nil,SlG.nil,fun x hx=>(by cases hx)⟩
end Go.Lx
namespace Go.Lx
open Go.Vc
theorem CstE.eql{I:Imm}{s:StgP}{w:Value}(h:CstE s I w){t:TypeId}(ht:ifaceT P t=true){x:Operand}:BinRun P .eql t x (.const .nilIface) w .nilIface (s.cost.2.e==0):=by
 unfold CstE at h
 unfold StgP.cost
 split at h
 ·rename_i he
  rw[if_pos he]
  have h2:=h.2 he
  rw[show (s.types.e==0)=false by simpa using he]
  split at h2
  ·obtain⟨u,_,b,hw,_⟩:=h2;rw[hw];exact some_nil' ht
  ·obtain⟨b,hw,_⟩:=h2;rw[hw];exact some_nil' ht
 ·rename_i he
  rw[if_neg he]
  split at h
  ·rename_i hm
   rw[if_pos hm]
   obtain⟨b,hw,_⟩:=h
   rw[hw];exact some_nil' ht
  ·rename_i hm
   rw[if_neg hm,h];exact nil_nil' ht
set_option maxHeartbeats 1000000 in
theorem awake16_spec{I:Imm}(hg:Gl I)(F:Heap):Tri P 9 #[] I F (Ret (.bool true) F):=by
 refine law16_awake.vc ?_
 unfold law16_awake.V
 refine (rExpr_spec exE16 (by unfold Short;decide) I _).mono fun e I1 G l1 ⟨n,he,hn,okn,hG⟩=>?_
 refine⟨_,_,_,_,_,_,_,_,_,_,_,_,_,he,F,by rw[hG],fun b_n b__=>?_⟩
 refine (rStrategy_spec exS16 (by unfold Short;exact of_decide_eq_true (by kernel_rfl)) I1 _).mono fun e I2 G l2 ⟨s,he,hs,oks,hG⟩=>?_
 refine⟨_,_,_,_,_,_,_,_,_,_,_,_,_,he,F,by rw[hG],fun b_s b_1=>?_⟩
 have ls:s.p.Light:=hs▸s16_light
 have lth:=ls.thin
 have hnz:n.px.size≤1048576:=by rw[hn];exact e16_size
 have hnw:(if n.px.formed then n.px.wt else 0)=6:=by rw[hn];exact e16_wt
 have hst:s.p.types.e=0:=by rw[hs];exact s16_types
 have hsc:s.p.cost=((9,2),zTF):=by rw[hs];exact s16_cost
 have hsl:s.p.costs=[(9,2),(0,0)]:=by rw[hs];exact s16_costs
 refine Tri.ret (expr16_spec n (by omega) I2 _ (okn.mono l2 sub0)) fun I3 l3=>⟨_,rfl,F,.refl _, ?_⟩
 refine Tri.ret (expr16_spec zNd (by decide) I3 _ (zNd_ok.mono (Imm.le_refl _) sub0)) fun I4 l4=>⟨_,rfl,F,.refl _, ?_⟩
 have l24:=Imm.le_trans l3 l4
 have l04:=Imm.le_trans l1 (Imm.le_trans l2 l24)
 refine Tri.retV (strategy16_spec s lth (oks.mono l24 sub0) (hg.mono l04)) fun v5 I5 l5 ⟨w5,hv5,hw5⟩=>⟨_,_,w5,congrArg Ending.returned hv5,F,.refl _,fun b_c=>?_⟩
 have l25:=Imm.le_trans l24 l5
 have l05:=Imm.le_trans l04 l5
 refine (states16_still s lth (oks.mono l25 sub0) (hg.mono l05)).mono fun e I6 G l6 hq=>?_
 rcases hq with ⟨h,_⟩ | ⟨_,bl,he,hS,hG⟩
 ·exact absurd hst h
 refine⟨_,_,_,_,he,F,by rw[hG], ?_⟩
 have l06:=Imm.le_trans l05 l6
 refine (states16_still zStg zStg16_light.thin zStg16_ok (hg.mono l06)).mono fun e I7 G7 l7 hq=>?_
 rcases hq with ⟨hz,v7,he,hv7,hG7⟩ | ⟨h,_⟩
 rotate_left
 ·exact absurd h zStg16_types
 refine⟨_,_,_,_,he,F,by rw[hG7], ?_⟩
 have h2:s.states.length=2:=by rw[←costs_len s,hsl];rfl
 have hzw:(if zNd.px.formed then zNd.px.wt else 0)=0:=by decide
 rw[hnw,hzw]
 have hw5':w5=.nilIface:=by
  unfold CstE at hw5
  rw[if_neg (by simpa using hst)] at hw5
  have htop:¬500<s.p.top.1:=by
   unfold StgP.top;rw[hsl];decide
  rwa [if_neg htop] at hw5
 rw[hw5',hsc]
 refine⟨fun _=>⟨fun _=>⟨true,nil_nil' (by kernel_rfl),fun _=>⟨true,cost_eql 9 2 9 2,fun _=>⟨true,nil_nil' (by kernel_rfl),fun _=>⟨fun _=>⟨⟨by decide,by rw[h2];decide⟩,⟨bl,0,none⟩,rfl,0,0, ?_,⟨true,cost_eql 0 0 0 0,fun _=>⟨true, ?_,rfl,rfl⟩,fun h=>(by cases h)⟩⟩,fun h=>?_⟩,fun h=>(by cases h)⟩,fun h=>(by cases h)⟩,fun h=>(by cases h)⟩,fun h=>(by cases h)⟩,fun h=>(by cases h)⟩
 ·obtain⟨ad,c,had,hc,hrd,_⟩:=SlG.atm ((hS.mono l7).slg _) (i:=1) (by decide) (by rw[h2];decide)
  rw[hsl] at hc
  cases hc
  cases had
  exact hrd
 ·have:=ChkE.neq hv7 (t:=44) (by kernel_rfl) (x:=.tmp 72)
  rwa [show (zStg.p.types.e != 0)=true by simpa using zStg16_types] at this
 ·rw[h2] at h;cases h
theorem far16_spec(s:StgN)(hs:s.p.Short)(I:Imm)(F:Heap)(hok:s.Ok I F):Tri P 17 #[s.v] I F fun e I' G=>∃r:Bool,e=.returned (.bool r)∧G=F∧(r=false→s.p.Light):=by
 refine law16_far.vc ?_
 unfold law16_far.V
 intro b_s
 refine (weighStg_spec s hs I _ hok.cons).mono fun e I1 G l1 ⟨r,he,hG,h0,h1,hl⟩=>?_
 subst hG
 exact⟨r,he,F,.refl _,_,rfl,rfl,fun h=>hl (by have:=of_decide_eq_false h;omega)⟩
end Go.Lx
namespace Go.Lx
open Go.Vc Go.Proofs.Tryz
def shT_lCostStrategies:List (Nat×List Sh):=[(4,[.one .bool]),(48,[.one (.int .i64),.one (.int .i64)]),(58,[.agg [(.int .i64),(.int .i64)],.one .any]),(60,[.agg [(.int .i64),(.int .i64)],.agg [(.int .i64),(.int .i64),.bool]])]
def law16_CostStrategies.V(a:Nat→Nat×Obj)(vi:Int→Value)(vl:OA→Nat→Nat→Value)(vt:Bool→Value)(u:Bs)(e:OA)(f g:Nat)(h:OA)(i j:Nat)(k:OA)(l m:Nat)(I:Imm)(F:Heap)(Q:PostQ)  : Prop:=∀b:Nat,Tc1 P 9 #[] I ((a b)::·) F vt fun r I1 F1=>Tc1 P 17 #[.agg #[.string u,vl e f g,vl h i j,vl k l m]] I1 ((a b)::·) F1 vt fun r1 I2 F2=>(It (!r) (Q (.returned (vt r)) I2 F2) (It r1 (Q (.returned (vt r)) I2 F2) (Tcn P 24 #[.agg #[.string u,vl e f g,vl h i j,vl k l m]] I2 ((a b)::·) F2 fun e3 I3 G3=>∃(c d:Int) (v:Value),e3=.returned (.tuple #[.agg #[vi c,vi d],v])∧G3 fun F3=>∀t:Nat,Tcn P 20 #[v] I3 ((a b)::(t,Obj.cells #[vi c,vi d] 57 (0,0))::·) F3 fun e4 I4 G4=>∃(r0 w:Int),e4=.returned (.tuple #[vi r0,vi w])∧G4 fun F4=>Tcn P 25 #[.agg #[.string u,vl e f g,vl h i j,vl k l m]] I4 ((a b)::(t,Obj.cells #[vi c,vi d] 57 (0,0))::·) F4 fun e5 I5 G5=>∃(p s n o:Int) (x:Bool),e5=.returned (.tuple #[.agg #[vi p,vi s],.agg #[vi n,vi o,vt x]])∧G5 fun F5=>∀y:Nat,∀z:Nat,∃q:Bool,BinRun P .eql 57 (.tmp 35) (.tmp 36) (.agg #[vi c,vi d]) (.agg #[vi p,vi s]) q∧(It q (It (r0==n) (It (w==o) (∃q1:Bool,BinRun P .eql 44 (.tmp 51) (.const (Value.nilIface)) v Value.nilIface q1∧Q (.returned (vt (q1==(r0==0)))) I5 F5) (Q (.returned (vt false)) I5 F5)) (Q (.returned (vt false)) I5 F5)) (Q (.returned (vt false)) I5 F5)))))
theorem law16_CostStrategies.vc{l:Bs}{a:OA}{c d:Nat}{e:OA}{f g:Nat}{i:OA}{j k:Nat}{I:Imm}{F:Heap}{Q:PostQ}  (h:law16_CostStrategies.V (fun b=>(b,Obj.cells #[.string l,.slice a c d,.slice e f g,.slice i j k] 39 (0,0))) (.int .i64) .slice .bool l a c d e f g i j k I F Q):Tri P 7 #[.agg #[.string l,.slice a c d,.slice e f g,.slice i j k]] I F Q :=
 tw (A:=(an [3001,3003,8002,8007,8013] [9,17,20,24,25] shT_lCostStrategies)) [9,17,20,24,25] func7 h
end Go.Lx
namespace Go.Lx
open Go.Vc
theorem CostStrategies_spec(s:StgN)(hss:s.p.Short)(I:Imm)(hg:Gl I)(F:Heap)(hs:s.Ok I F):Tri P 7 #[s.v] I F fun e I' G=>e=.returned (.bool true):=by
 refine law16_CostStrategies.vc ?_
 unfold law16_CostStrategies.V
 intro b_s
 have oks:∀{J:Imm} {G:Heap},Imm.le I J→(∀a,a∈F→a∈G)→s.Ok J G:=fun hl h=>hs.mono hl h
 refine Tri.ret (awake16_spec hg _) fun I1 l1=>⟨_,rfl,F,.refl _, ?_⟩
 refine (far16_spec s hss I1 _ (oks l1 fun a ha=>by simp only[List.mem_cons,List.mem_append];simp only[ha,true_or,or_true])).mono fun e I2 G h2 ⟨r1,he,hG,f1⟩=>?_
 subst hG
 refine⟨_,he,F,.refl _,fun h=>(by cases h),fun _=>⟨fun _=>rfl,fun e1=>?_⟩⟩
 have l2:=Imm.le_trans l1 h2
 have ls:=(f1 e1).thin
 refine Tri.retV (strategy16_spec s ls (oks l2 fun a ha=>by simp only[List.mem_cons,List.mem_append];simp only[ha,true_or,or_true]) (hg.mono l2)) fun v3 I3 h3 ⟨w3,hv3,hw3⟩=>⟨_,_,w3,congrArg Ending.returned hv3,F,.refl _,fun b_c=>?_⟩
 have l3:=Imm.le_trans l2 h3
 refine Tri.ret (Wrong_cst (hg.mono l3) hw3 _) fun I4 h4=>⟨_,_,rfl,F,.refl _, ?_⟩
 have l4:=Imm.le_trans l3 h4
 refine Tri.ret (rstrategy16_spec s ls (oks l4 fun a ha=>by simp only[List.mem_cons,List.mem_append];simp only[ha,true_or,or_true])) fun I5 h5=>⟨_,_,_,_,_,rfl,F,.refl _,fun b_want b_f=>?_⟩
 refine⟨_,cost_eql _ _ _ _,fun _=>⟨fun _=>⟨fun _=>⟨_,hw3.eql (by kernel_rfl), ?_⟩,fun h=>?_⟩,fun h=>?_⟩,fun h=>?_⟩
 ·simp
 ·simp at h
 ·simp at h
 ·simp at h
end Go.Lx
namespace Go.Vc
open Go.ChangeShapes Go.WideShapes Go.ChangeAt Go.RowKit
theorem Stays.cell{w w':World}(h:Stays w w'){a:Addr}(ha:a.block<w.heap.size):w'.cell? a=w.cell? a:=by
 unfold World.cell?;rw[h.heap _ ha]
theorem Stays.same{w w':World}(h:Stays w w'){p:MemPlace}(hp:p.block<w.heap.size):w.sameAt w' p:=by
 cases p with
 | cell b off=>exact h.cell (a:=⟨b,off,none⟩) hp
 | map b=>exact h.heap b hp
theorem trodAll_stays{H:Type}{enc:TypeId×Value→H}{P:Program}{T:TypeId→Prop}{w w':World}(K:Kids P T)(hsz:∀{t e:TypeId},T t→P.underlying t=some (.slice e)→0<P.cellsOf e)(st:Stays w w'){sp':Nat→Bool} :
  ∀{ts:List TypeId} {vs:List Value} {ds:List (DataW H)} {ps:List MemPlace},(∀t∈ts,T t)→DataW.TrodAll enc P w 0 (fun _=>true) true ts vs ds ps→(∀p∈ps,sp' p.block=true)→DataW.TrodAll enc P w' 0 sp' true ts vs ds ps
 | [],[],[],ps,_,h,_=>h
 | t::ts,v::vs,d::ds,ps,ht,⟨p,q,⟨n,h1⟩,h2,e⟩,hs=>by
   subst e
   have hlt:∀x∈p,x.block<w.heap.size:=DataW.trod_lt n t v.cells.toList (d,p) h1
   refine⟨p,q,⟨n, ?_⟩,trodAll_stays K hsz st (fun t' ht'=>ht t' (List.mem_cons_of_mem _ ht')) h2 (fun x hx=>hs x (List.mem_append_right _ hx)),rfl⟩
   exact DataW.trod_stays K hsz (fun h=>by cases h) (ht t (List.mem_cons_self ..)) h1 (fun x hx=>st.same (hlt x hx)) (fun x hx=>hs x (List.mem_append_left _ hx))
 | [],_::_,_,_,_,h,_=>h.elim
 | [],[],_::_,_,_,h,_=>h.elim
 | _::_,[],_,_,_,h,_=>h.elim
 | _::_,_::_,[],_,_,h,_=>h.elim
theorem Rd.of_cell{W:World}{ad:Addr}{v:Value}(h:W.cell? ad=some v)(G:Heap):Rd (Imm.all W) G ad [v]:=by
 unfold World.cell? at h
 cases hb:W.heap[ad.block]? with
 | none=>rw[hb] at h;cases h
 | some o =>
   rw[hb] at h
   cases o with
   | cells c e fz =>
     simp only at h
     cases hs:ad.spot with
     | some x=>rw[hs] at h;simp at h
     | none =>
       rw[hs] at h
       refine⟨hs,c,e,fz,.inl hb,fun j hj=>?_⟩
       have:j=0:=by simpa using hj
       subst this
       simpa using h
   | _=>cases h
end Go.Vc
namespace Go.Vc
open Go.ChangeShapes Go.WideShapes Go.ChangeAt Go.RowKit
theorem list_choice{α:Type}{p:Nat→α→Prop}:∀(n:Nat),(∀i,i<n→∃x,p i x)→∃l:List α,l.length=n∧∀(i:Nat) (x:α),l[i]? = some x→p i x
 | 0,_=>⟨[],rfl,fun i x h=>by simp at h⟩
 | n+1,h=>by
   obtain⟨l,hl,hp⟩:=list_choice n fun i hi=>h i (by omega)
   obtain⟨x,hx⟩:=h n (by omega)
   refine⟨l++[x],by simp[hl],fun i y hy=>?_⟩
   rw[List.getElem?_append] at hy
   split at hy
   ·exact hp i y hy
   ·rename_i hi
    have:i-l.length=0:=by
     rcases Nat.eq_zero_or_pos (i-l.length) with h | h
     ·exact h
     ·rw[List.getElem?_eq_none (by simp;omega)] at hy;cases hy
    rw[this] at hy
    simp only[List.getElem?_cons_zero,Option.some.injEq] at hy
    subst hy
    have:i=n:=by omega
    rw[this];exact hx
theorem Rd.of_row{W:World}{ad:Addr}{n:Nat}{cs:List Value}{base:Nat}(h:W.cells? base ad n=some cs)(hn:0<n)(G:Heap):ad.spot=none→Rd (Imm.all W) G ad cs:=by
 intro hsp
 obtain⟨_,hl,hc⟩:=World.cells?_some h
 have h0:W.cell? ad=cs[0]?:=by have:=hc 0 hn;rwa [show ad.add 0=ad from rfl] at this
 have hlen:cs.length=n:=hl
 unfold World.cell? at h0
 cases hb:W.heap[ad.block]? with
 | none=>rw[hb] at h0;simp only at h0;rw[List.getElem?_eq_getElem (by omega)] at h0;cases h0
 | some o =>
   cases o with
   | cells c e fz =>
     refine⟨hsp,c,e,fz,.inl hb,fun j hj=>?_⟩
     have h1:=hc j (by omega)
     have hadd:ad.add j=⟨ad.block,ad.off+j,none⟩:=by
      obtain⟨b,off,sp⟩:=ad
      simp only at hsp;subst hsp
      unfold Addr.add;split<;>simp_all
     rw[hadd] at h1
     unfold World.cell? at h1
     simp only[hb] at h1
     simpa using h1
   | _=>rw[hb] at h0;simp only at h0;rw[List.getElem?_eq_getElem (by omega)] at h0;cases h0
end Go.Vc
namespace Go.Vc
open Go.ChangeShapes Go.WideShapes Go.ChangeAt Go.RowKit
def Opens{H α:Type}(en:TypeId×Value→H)(P:Program)(W:World)(sp:Nat→Bool)(hd:Bool)(n:Nat)(t:TypeId)(f:α→List Value)(R S:α→Prop):Prop :=
 ∀cs d ps,DataW.trod en P W 0 sp hd n t cs=some (d,ps)→∃x,cs=f x∧R x∧((∀m∈d.weights P t,m≤reachBytes)→S x)
def OpensF{H α:Type}(en:TypeId×Value→H)(P:Program)(W:World)(sp:Nat→Bool)(hd:Bool)(n:Nat)(z:Nat)(fs:List (TypeId×Nat))(o:Nat)(f:α→List Value)(R S:α→Prop):Prop :=
 ∀(cs:List Value) (xs:List (DataW H×List MemPlace)),(fs.mapM fun p=>DataW.trod en P W 0 sp hd n p.1 ((cs.drop p.2).take (P.cellsOf p.1)))=some xs→cs.length=z→∃x,cs.drop o=f x∧R x∧((∀m∈DataW.weightsEach P (fs.map Prod.fst) (xs.map Prod.fst),m≤reachBytes)→S x)
def structB(P:Program)(t:TypeId)(l:List (TypeId×Nat))(z:Nat):Bool:=match P.underlying t with
 | some (.struct fs)=>(fs.toList.map fun f=>(f.type,f.offset))==l&&P.cellsOf t==z
 | _=>false
theorem mapM_via{α β γ:Type}(h:α→β)(g:β→Option γ):∀l:List α,(l.map h).mapM g=l.mapM fun x=>g (h x)
 | []=>rfl
 | x::l=>by simp[List.mapM_cons,mapM_via h g l]
section
variable {H:Type} {en:TypeId×Value→H} {P:Program} {W:World} {sp:Nat→Bool} {hd:Bool} {n:Nat}
theorem OpensF.nil{z:Nat}:OpensF en P W sp hd n z [] z (fun _:Unit=>[]) (fun _=>True) (fun _=>True):=by
 intro cs xs h hl
 exact⟨(),List.drop_eq_nil_of_le (by omega),trivial,fun _=>trivial⟩
theorem OpensF.cons{α β:Type}{z o k:Nat}{t:TypeId}{fs:List (TypeId×Nat)}{f:α→List Value}{g:β→List Value}{R S:α→Prop}{R' S':β→Prop}(h:Opens en P W sp hd n t f R S)(hc:P.cellsOf t=k)
  (hs:OpensF en P W sp hd n z fs (o+k) g R' S'):OpensF en P W sp hd n z ((t,o)::fs) o (fun x:α×β=>f x.1++g x.2) (fun x=>R x.1∧R' x.2) (fun x=>S x.1∧S' x.2):=by
 intro cs xs hm hl
 rw[List.mapM_cons] at hm
 cases h0:DataW.trod en P W 0 sp hd n t ((cs.drop o).take (P.cellsOf t)) with
 | none=>simp[h0] at hm
 | some x0 =>
   cases h1:(fs.mapM fun p=>DataW.trod en P W 0 sp hd n p.1 ((cs.drop p.2).take (P.cellsOf p.1))) with
   | none=>simp[h0,h1] at hm
   | some ys =>
     simp[h0,h1] at hm
     subst hm
     obtain⟨d0,p0⟩:=x0
     obtain⟨x,e1,r1,s1⟩:=h _ _ _ h0
     obtain⟨y,e2,r2,s2⟩:=hs _ _ h1 hl
     refine⟨(x,y), ?_,⟨r1,r2⟩,fun hw=>⟨s1 fun m hm=>hw m ?_,s2 fun m hm=>hw m ?_⟩⟩
     ·show cs.drop o=f x++g y
      rw[←e1,←e2,hc,←List.drop_drop,List.take_append_drop]
     ·simp only[List.map_cons,DataW.weightsEach,List.mem_append];exact .inl hm
     ·simp only[List.map_cons,DataW.weightsEach,List.mem_append];exact .inr hm
theorem Opens.struct{α:Type}{z:Nat}{t:TypeId}{fs:List (TypeId×Nat)}{f:α→List Value}{R S:α→Prop}(ht:structB P t fs z=true)(h:OpensF en P W sp hd n z fs 0 f R S):Opens en P W sp hd (n+1) t f R S:=by
 intro cs d ps hr
 unfold structB at ht
 split at ht
 ·rename_i gs hg
  simp only[Bool.and_eq_true,beq_iff_eq] at ht
  obtain⟨ht,hz⟩:=ht
  simp only[DataW.trod,hg] at hr
  split at hr
  ·rename_i hl
   rw[hz] at hl
   cases hm:gs.toList.mapM fun f=>DataW.trod en P W 0 sp hd n f.type ((cs.drop f.offset).take (P.cellsOf f.type)) with
   | none=>rw[hm] at hr;cases hr
   | some xs =>
     rw[hm] at hr
     simp only[Option.map_some,Option.some.injEq,Prod.mk.injEq] at hr
     have hm':(fs.mapM fun p=>DataW.trod en P W 0 sp hd n p.1 ((cs.drop p.2).take (P.cellsOf p.1)))=some xs:=by rw[←ht,mapM_via];exact hm
     obtain⟨x,e,r,s⟩:=h cs xs hm' hl
     refine⟨x,by simpa using e,r,fun hw=>s fun m hmm=>hw m ?_⟩
     rw[←hr.1]
     simp only[DataW.weights,hg]
     have:gs.toList.map (fun f=>f.type)=fs.map Prod.fst:=by rw[←ht,List.map_map];rfl
     rw[this];exact hmm
  ·cases hr
 ·cases ht
theorem Opens.map{α β:Type}{t:TypeId}{f:α→List Value}{g:β→List Value}{R S:α→Prop}{R' S':β→Prop}(h:Opens en P W sp hd n t f R S)(φ:α→β)(hf:∀x,R x→f x=g (φ x))(hr:∀x,R x→R' (φ x))(hs:∀x,R x→S x→S' (φ x)):Opens en P W sp hd n t g R' S':=by
 intro cs d ps hd
 obtain⟨x,e,r,s⟩:=h cs d ps hd
 exact⟨φ x,e.trans (hf x r),hr x r,fun hw=>hs x r (s hw)⟩
theorem Opens.int{k:IntKind}{t:TypeId}(ht:P.underlying t=some (.int k)):Opens en P W sp hd n t (fun x:Int=>[.int k x]) (fun x=>(Lit.int k x).wf=true) (fun _=>True):=by
 intro cs d ps h
 obtain⟨x,e,_,hw⟩:=DataW.trod_int ht h
 exact⟨x,e,hw,fun _=>trivial⟩
theorem Opens.str{t:TypeId}(ht:P.underlying t=some .string):Opens en P W sp hd n t (fun x:ByteArray=>[.string x]) (fun x=>x.size≤maxLen) (fun x=>x.size≤reachBytes):=by
 intro cs d ps h
 obtain⟨s,e,hx,hl⟩:=DataW.trod_string ht h
 refine⟨s,e,hl,fun hw=>?_⟩
 simp only[Prod.mk.injEq] at hx
 have:=hw s.data.toList.length (by rw[hx.1];simp[DataW.weights])
 simpa using this
structure SlV (β:Type) where
 a:Option Addr
 n:Nat
 c:Nat
 l:List β
theorem Opens.slice{β:Type}{z by':Nat}{t e:TypeId}{f:β→List Value}{R S:β→Prop}(ht:P.underlying t=some (.slice e))(hc:P.cellsOf e=z)(hz:0<z)(hb:P.bytesOf e=by')(hb1:1≤by')(hf:∀x,(f x).length=z)(h:Opens en P W sp hd n e f R S) :
  Opens en P W sp hd (n+1) t (fun s:SlV β=>[.slice s.a s.n s.c]) (fun s=>SlG (Imm.all W) [] z f s.a s.n s.l∧∀x∈s.l,R x) (fun s=>s.l.length≤reachBytes∧∀x∈s.l,S x):=by
 intro cs d ps hr
 rcases DataW.trod_slice ht hr with ⟨h1,h2⟩ | ⟨ad,len,cap,elems,rest,n',hn,hcs,hx,_,_,_,hlen,hel,_,_⟩
 ·exact⟨⟨none,0,0,[]⟩,h1,⟨⟨rfl,fun h=>absurd rfl h⟩,fun x hx=>by cases hx⟩,fun _=>⟨by simp,fun x hx=>by cases hx⟩⟩
 ·cases hn
  simp only[Prod.mk.injEq] at hx
  obtain⟨hdd,hps⟩:=hx
  clear hps
  subst hcs
  have hone:∀i,i<len→∃x,Rd (Imm.all W) [] (ad.add (i*z)) (f x)∧R x∧((∀y∈elems,∀m∈y.1.weights P e,m≤reachBytes)→S x):=by
   intro i hi
   have hfy:=hel i hi
   obtain⟨y,hy⟩:∃y,elems[i]? = some y:=⟨_,List.getElem?_eq_getElem (by omega)⟩
   rw[hc,hy] at hfy
   cases hcs:W.cells? 0 (ad.add (i*z)) z with
   | none=>rw[hcs] at hfy;cases hfy
   | some cs =>
     rw[hcs] at hfy
     simp only[Option.bind_some] at hfy
     obtain⟨x,e1,r1,s1⟩:=h cs y.1 y.2 hfy
     subst e1
     have hspk:(ad.add (i*z)).spot=none:=by
      obtain⟨_,hl,hc'⟩:=World.cells?_some hcs
      have h0:=hc' 0 hz
      rw[show (ad.add (i*z)).add 0=ad.add (i*z) from rfl,List.getElem?_eq_getElem (by rw[hf];omega)] at h0
      cases hs:(ad.add (i*z)).spot with
      | none=>rfl
      | some q =>
        unfold World.cell? at h0
        split at h0<;>simp_all
     refine⟨x,Rd.of_row hcs hz [] hspk,r1,fun hw=>s1 fun m hm=>hw y (List.mem_of_getElem? hy) m hm⟩
  obtain⟨l,hll,hlx⟩:=list_choice len hone
  refine⟨⟨some ad,len,cap,l⟩,rfl,⟨⟨hll.symm,fun _=>⟨ad,rfl,fun i x hx=>(hlx i x hx).1⟩⟩,fun x hx=>?_⟩,fun hw=>⟨?_,fun x hx=>?_⟩⟩
  ·obtain⟨i,hi,rfl⟩:=List.mem_iff_getElem.1 hx
   exact (hlx i _ (List.getElem?_eq_getElem hi)).2.1
  ·have h1:=hw ((elems.length+rest.length)*by') (by rw[hdd];simp only[DataW.weights,ht,List.length_map,hb];exact List.mem_cons_self ..)
   have h2:elems.length+rest.length≤(elems.length+rest.length)*by':=Nat.le_mul_of_pos_right _ hb1
   show l.length≤reachBytes
   omega
  ·obtain⟨i,hi,rfl⟩:=List.mem_iff_getElem.1 hx
   refine (hlx i _ (List.getElem?_eq_getElem hi)).2.2 fun y hy m hm=>hw m ?_
   rw[hdd]
   simp only[DataW.weights,ht]
   refine List.mem_cons_of_mem _ (List.mem_append_left _ ?_)
   clear hx hlen hel hone hlx hdd hr hw hi hll
   induction elems with
   | nil=>cases hy
   | cons q qs ihq =>
     simp only[List.map_cons,DataW.weightsAll,List.mem_append]
     rcases List.mem_cons.1 hy with rfl | hy
     ·exact .inl hm
     ·exact .inr (ihq hy)
theorem Opens.zero{α:Type}{t:TypeId}{f:α→List Value}{R S:α→Prop}:Opens en P W sp hd 0 t f R S:=fun cs d ps h=>by cases h
end
end Go.Vc
namespace Go.Lx
open Go.Vc Go.ChangeShapes Go.WideShapes Go.ChangeAt Go.RowKit
def ndF:List (TypeId×Nat):=[(22,0),(23,1),(24,2),(2,3),(25,4),(9,5),(26,6),(3,7)]
theorem wf8{x:Int}(h:(Lit.int .u8 x).wf=true):0≤x∧x≤255:=by
 simp[Lit.wf,IntKind.min,IntKind.max,IntKind.signed,IntKind.bits] at h;omega
theorem wf64{x:Int}(h:(Lit.int .i64 x).wf=true) : -9223372036854775808≤x∧x≤9223372036854775807:=by
 simp[Lit.wf,IntKind.min,IntKind.max,IntKind.signed,IntKind.bits] at h;omega
theorem Wf.mk{t:Nd}(h:t.px.Fit)(hk:∀k∈t.kids,k.px.Wf):t.px.Wf:=by
 intro y hy
 rw[←nodes_px] at hy
 obtain⟨x,hx,rfl⟩:=List.mem_map.1 hy
 rw[Nd.nodes_eq] at hx
 rcases List.mem_cons.1 hx with rfl | hx
 ·exact h
 ·have hL:∀l:List Nd,(∀k∈l,k.px.Wf)→x∈Nd.nodesL l→x.px.Fit:=by
   intro l
   induction l with
   | nil=>intro _ h;rw[Nd.nodesL] at h;cases h
   | cons z r ih =>
     intro hz h
     rw[Nd.nodesL] at h
     rcases List.mem_append.1 h with h | h
     ·exact Wf.nd (hz z (List.mem_cons_self ..)) x h
     ·exact ih (fun k hk=>hz k (List.mem_cons_of_mem _ hk)) h
  exact hL _ hk hx
theorem open_nd{H:Type}{en:TypeId×Value→H}{W:World}{sp:Nat→Bool}{hd:Bool}:∀n,Opens en P W sp hd n 28 Nd.enc (fun t=>NdOk (Imm.all W) [] t∧t.px.Wf) (fun t=>t.px.ShortP):=by
 intro n
 induction n using Nat.strongRecOn with
 | ind n ih =>
   cases n with
   | zero=>exact Opens.zero
   | succ n =>
     have hsl:Opens en P W sp hd n 26 (fun s:SlV Nd=>[.slice s.a s.n s.c]) (fun s=>SlG (Imm.all W) [] 8 Nd.enc s.a s.n s.l∧∀x∈s.l,NdOk (Imm.all W) [] x∧x.px.Wf) (fun s=>s.l.length≤reachBytes∧∀x∈s.l,x.px.ShortP):=by
      cases n with
      | zero=>exact Opens.zero
      | succ n=>exact Opens.slice (z:=8) (by':=72) (by kernel_rfl) (by kernel_rfl) (by decide) (by kernel_rfl) (by decide) Nd.enc_len (ih n (by omega))
     refine (Opens.struct (z:=8) (fs:=ndF) (by kernel_rfl) ((OpensF.cons (k:=1) (Opens.int (k:=.u8) (by kernel_rfl)) (by kernel_rfl)<|OpensF.cons (k:=1) (Opens.int (k:=.u8) (by kernel_rfl)) (by kernel_rfl)<|OpensF.cons (k:=1) (Opens.int (k:=.u8) (by kernel_rfl)) (by kernel_rfl) <|
      OpensF.cons (k:=1) (Opens.int (k:=.i64) (by kernel_rfl)) (by kernel_rfl)<|OpensF.cons (k:=1) (Opens.int (k:=.u8) (by kernel_rfl)) (by kernel_rfl)<|OpensF.cons (k:=1) (Opens.str (by kernel_rfl)) (by kernel_rfl)<|OpensF.cons (k:=1) hsl (by kernel_rfl) <|
      OpensF.cons (k:=1) (Opens.int (k:=.i64) (by kernel_rfl)) (by kernel_rfl) OpensF.nil))).map (fun x=>Nd.mk x.1 x.2.1 x.2.2.1 x.2.2.2.1 x.2.2.2.2.1 x.2.2.2.2.2.1 x.2.2.2.2.2.2.1.a x.2.2.2.2.2.2.1.c x.2.2.2.2.2.2.1.l x.2.2.2.2.2.2.2.1) ?_ ?_ ?_
     ·intro ⟨k,o,ty,m,f,s,⟨a,l,c,ks⟩,q,u⟩ ⟨_,_,_,_,_,_,⟨h7,_⟩,_⟩
      have hl:l=ks.length:=h7.1
      subst hl;rfl
     ·intro ⟨k,o,ty,m,f,s,⟨a,l,c,ks⟩,q,u⟩ ⟨h1,h2,h3,h4,h5,h6,⟨h7,h8⟩,h9,_⟩
      have hl:l=ks.length:=h7.1
      subst hl
      refine⟨.mk h7 fun x hx=>(h8 x hx).1,Wf.mk ?_ fun x hx=>(h8 x hx).2⟩
      unfold Px.Fit
      rw[Nd.px_kind,Nd.px_oper,Nd.px_typ,Nd.px_n,Nd.px_field,Nd.px_pos]
      exact⟨wf8 h1,wf8 h2,wf8 h3,wf64 h4,wf8 h5,wf64 h9⟩
     ·intro ⟨k,o,ty,m,f,s,⟨a,l,c,ks⟩,q,u⟩ _ ⟨_,_,_,_,_,g6,⟨g7,g8⟩,_⟩
      refine .mk (by rw[Nd.px_name];exact g6) (by rw[Nd.px_len];exact g7) fun x hx=>?_
      rw[Nd.px_kids] at hx
      obtain⟨y,hy,rfl⟩:=List.mem_map.1 hx
      exact g8 y hy
theorem agg_of{P:Program}{W:World}{r:Reach}{b0:Nat}{t:TypeId}{v:Value}{fs:List (TypeId×Nat)}{z:Nat}(hst:structB P t fs z=true)(hval:Value.okWide P W r b0 t v):v=.agg v.cells.toList.toArray:=by
 unfold structB at hst
 split at hst
 ·rename_i gs hg
  have h5:=okWide_struct hg hval
  obtain⟨cs,hv,hcs⟩:=h5
  clear hcs
  subst hv
  rfl
 ·cases hst
end Go.Lx
namespace Go.Lx
open Go.Vc Go.ChangeShapes Go.WideShapes Go.ChangeAt Go.RowKit
def i64B(x:Int):Prop:=-9223372036854775808≤x∧x≤9223372036854775807
def u8B(x:Int):Prop:=0≤x∧x≤255
def DoP.Wf(d:DoP):Prop:=(u8B d.kind∧u8B d.order∧i64B d.pos)∧d.side.Wf∧d.qty.Wf∧d.price.Wf∧d.value.Wf
def RuleP.Wf(r:RuleP):Prop:=i64B r.pos∧r.when.Wf∧∀d∈r.dos,d.Wf
def StateP.Wf(x:StateP):Prop:=i64B x.pos∧∀r∈x.rules,r.Wf
def RegP.Wf(r:RegP):Prop:=(u8B r.typ∧i64B r.pos)∧r.init.Wf
def SlotP.Wf(r:SlotP):Prop:=i64B r.pos
def StgP.Wf(s:StgP):Prop:=(∀r∈s.regs,r.Wf)∧(∀r∈s.slots,r.Wf)∧∀x∈s.states,x.Wf
section
variable {H:Type} {en:TypeId×Value→H} {W:World} {sp:Nat→Bool} {hd:Bool}
def regF:List (TypeId×Nat):=[(9,0),(24,1),(28,2),(3,10)]
theorem open_regS(n:Nat):Opens en P W sp hd (n+1) 77 RegN.enc (fun r=>r.Ok (Imm.all W) []∧r.p.Wf) (fun r=>r.p.Short):=by
 refine (Opens.struct (z:=11) (fs:=regF) (by kernel_rfl) (OpensF.cons (k:=1) (Opens.str (by kernel_rfl)) (by kernel_rfl)<|OpensF.cons (k:=1) (Opens.int (k:=.u8) (by kernel_rfl)) (by kernel_rfl) <|
  OpensF.cons (k:=8) (open_nd n) (by kernel_rfl)<|OpensF.cons (k:=1) (Opens.int (k:=.i64) (by kernel_rfl)) (by kernel_rfl) OpensF.nil)).map (fun x=>RegN.mk x.1 x.2.1 x.2.2.1 x.2.2.2.1) ?_ ?_ ?_
 ·intro ⟨a,b,c,d,u⟩ _;rfl
 ·intro ⟨a,b,c,d,u⟩ ⟨h1,h2,h3,h4,_⟩
  exact⟨h3.1,⟨wf8 h2,wf64 h4⟩,h3.2⟩
 ·intro ⟨a,b,c,d,u⟩ _ ⟨g1,g2,g3,g4,_⟩
  exact⟨g1,g3⟩
def slotF:List (TypeId×Nat):=[(9,0),(3,1)]
theorem open_slotS(n:Nat):Opens en P W sp hd (n+1) 79 SlotP.enc (fun r=>r.Wf) (fun r=>r.Short):=by
 refine (Opens.struct (z:=2) (fs:=slotF) (by kernel_rfl) (OpensF.cons (k:=1) (Opens.str (by kernel_rfl)) (by kernel_rfl)<|OpensF.cons (k:=1) (Opens.int (k:=.i64) (by kernel_rfl)) (by kernel_rfl) OpensF.nil)).map (fun x=>SlotP.mk x.1 x.2.1) ?_ ?_ ?_
 ·intro ⟨a,b,u⟩ _;rfl
 ·intro ⟨a,b,u⟩ ⟨h1,h2,_⟩;exact wf64 h2
 ·intro ⟨a,b,u⟩ _ ⟨g1,g2,_⟩;exact g1
def doF:List (TypeId×Nat):=[(96,0),(97,1),(9,2),(28,3),(28,11),(28,19),(28,27),(3,35)]
theorem open_doS(n:Nat):Opens en P W sp hd (n+1) 99 DoN.enc (fun r=>r.Ok (Imm.all W) []∧r.p.Wf) (fun r=>r.p.Short):=by
 refine (Opens.struct (z:=36) (fs:=doF) (by kernel_rfl) (OpensF.cons (k:=1) (Opens.int (k:=.u8) (by kernel_rfl)) (by kernel_rfl)<|OpensF.cons (k:=1) (Opens.int (k:=.u8) (by kernel_rfl)) (by kernel_rfl)<|OpensF.cons (k:=1) (Opens.str (by kernel_rfl)) (by kernel_rfl) <|
  OpensF.cons (k:=8) (open_nd n) (by kernel_rfl)<|OpensF.cons (k:=8) (open_nd n) (by kernel_rfl)<|OpensF.cons (k:=8) (open_nd n) (by kernel_rfl)<|OpensF.cons (k:=8) (open_nd n) (by kernel_rfl)<|OpensF.cons (k:=1) (Opens.int (k:=.i64) (by kernel_rfl)) (by kernel_rfl) OpensF.nil)).map
   (fun x=>DoN.mk x.1 x.2.1 x.2.2.1 x.2.2.2.1 x.2.2.2.2.1 x.2.2.2.2.2.1 x.2.2.2.2.2.2.1 x.2.2.2.2.2.2.2.1) ?_ ?_ ?_
 ·intro ⟨a,b,c,d,e,f,g,h,u⟩ _;rfl
 ·intro ⟨a,b,c,d,e,f,g,h,u⟩ ⟨h1,h2,h3,h4,h5,h6,h7,h8,_⟩
  exact⟨⟨h4.1,h5.1,h6.1,h7.1⟩,⟨wf8 h1,wf8 h2,wf64 h8⟩,h4.2,h5.2,h6.2,h7.2⟩
 ·intro ⟨a,b,c,d,e,f,g,h,u⟩ _ ⟨g1,g2,g3,g4,g5,g6,g7,g8,_⟩
  refine⟨g3,fun x hx=>?_⟩
  simp only[DoP.nds,DoN.p,List.mem_cons,List.not_mem_nil,or_false] at hx
  rcases hx with rfl | rfl | rfl | rfl
  ·exact g4
  ·exact g5
  ·exact g6
  ·exact g7
def ruleF:List (TypeId×Nat):=[(28,0),(82,8),(3,9)]
theorem open_dosS:∀n,Opens en P W sp hd n 82 (fun s:SlV DoN=>[.slice s.a s.n s.c]) (fun s=>SlG (Imm.all W) [] 36 DoN.enc s.a s.n s.l∧∀x∈s.l,x.Ok (Imm.all W) []∧x.p.Wf) (fun s=>s.l.length≤reachBytes∧∀x∈s.l,x.p.Short)
 | 0=>Opens.zero
 | 1=>Opens.slice (e:=99) (z:=36) (by':=320) (by kernel_rfl) (by kernel_rfl) (by decide) (by kernel_rfl) (by decide) (fun _=>rfl) Opens.zero
 | n+2=>Opens.slice (e:=99) (z:=36) (by':=320) (by kernel_rfl) (by kernel_rfl) (by decide) (by kernel_rfl) (by decide) (fun _=>rfl) (open_doS n)
theorem open_ruleS(n:Nat):Opens en P W sp hd (n+1) 84 RuleN.enc (fun r=>r.Ok (Imm.all W) []∧r.p.Wf) (fun r=>r.p.Short):=by
 refine (Opens.struct (z:=10) (fs:=ruleF) (by kernel_rfl) (OpensF.cons (k:=8) (open_nd n) (by kernel_rfl)<|OpensF.cons (k:=1) (open_dosS n) (by kernel_rfl)<|OpensF.cons (k:=1) (Opens.int (k:=.i64) (by kernel_rfl)) (by kernel_rfl) OpensF.nil)).map
  (fun x=>RuleN.mk x.1 x.2.1.a x.2.1.c x.2.1.l x.2.2.1) ?_ ?_ ?_
 ·intro ⟨a,⟨sa,sn,sc,sl⟩,c,u⟩ ⟨_,⟨h2,_⟩,_⟩
  have e:sn=sl.length:=h2.1
  subst e;rfl
 ·intro ⟨a,⟨sa,sn,sc,sl⟩,c,u⟩ ⟨h1,⟨h2,h2'⟩,h3,_⟩
  have e:sn=sl.length:=h2.1
  subst e
  refine⟨⟨h1.1,h2,fun d hd=>(h2' d hd).1⟩,wf64 h3,h1.2,fun d hd=>?_⟩
  obtain⟨d',hd',rfl⟩:=List.mem_map.1 hd
  exact (h2' d' hd').2
 ·intro ⟨a,⟨sa,sn,sc,sl⟩,c,u⟩ _ ⟨g1,⟨g2,g2'⟩,_⟩
  refine⟨g1,by simp only[RuleN.p,List.length_map];exact g2,fun d hd=>?_⟩
  obtain⟨d',hd',rfl⟩:=List.mem_map.1 hd
  exact g2' d' hd'
def stateF:List (TypeId×Nat):=[(9,0),(63,1),(3,2)]
theorem open_rulesS:∀n,Opens en P W sp hd n 63 (fun s:SlV RuleN=>[.slice s.a s.n s.c]) (fun s=>SlG (Imm.all W) [] 10 RuleN.enc s.a s.n s.l∧∀x∈s.l,x.Ok (Imm.all W) []∧x.p.Wf) (fun s=>s.l.length≤reachBytes∧∀x∈s.l,x.p.Short)
 | 0=>Opens.zero
 | 1=>Opens.slice (e:=84) (z:=10) (by':=104) (by kernel_rfl) (by kernel_rfl) (by decide) (by kernel_rfl) (by decide) (fun _=>rfl) Opens.zero
 | n+2=>Opens.slice (e:=84) (z:=10) (by':=104) (by kernel_rfl) (by kernel_rfl) (by decide) (by kernel_rfl) (by decide) (fun _=>rfl) (open_ruleS n)
theorem open_stateS(n:Nat):Opens en P W sp hd (n+1) 65 StateN.enc (fun r=>r.Ok (Imm.all W) []∧r.p.Wf) (fun r=>r.p.Short):=by
 refine (Opens.struct (z:=3) (fs:=stateF) (by kernel_rfl) (OpensF.cons (k:=1) (Opens.str (by kernel_rfl)) (by kernel_rfl)<|OpensF.cons (k:=1) (open_rulesS n) (by kernel_rfl)<|OpensF.cons (k:=1) (Opens.int (k:=.i64) (by kernel_rfl)) (by kernel_rfl) OpensF.nil)).map
  (fun x=>StateN.mk x.1 x.2.1.a x.2.1.c x.2.1.l x.2.2.1) ?_ ?_ ?_
 ·intro ⟨a,⟨sa,sn,sc,sl⟩,c,u⟩ ⟨_,⟨h2,_⟩,_⟩
  have e:sn=sl.length:=h2.1
  subst e;rfl
 ·intro ⟨a,⟨sa,sn,sc,sl⟩,c,u⟩ ⟨h1,⟨h2,h2'⟩,h3,_⟩
  have e:sn=sl.length:=h2.1
  subst e
  refine⟨⟨h2,fun d hd=>(h2' d hd).1⟩,wf64 h3,fun d hd=>?_⟩
  obtain⟨d',hd',rfl⟩:=List.mem_map.1 hd
  exact (h2' d' hd').2
 ·intro ⟨a,⟨sa,sn,sc,sl⟩,c,u⟩ _ ⟨g1,⟨g2,g2'⟩,_⟩
  refine⟨g1,by simp only[StateN.p,List.length_map];exact g2,fun d hd=>?_⟩
  obtain⟨d',hd',rfl⟩:=List.mem_map.1 hd
  exact g2' d' hd'
def stgF:List (TypeId×Nat):=[(9,0),(35,1),(36,2),(37,3)]
theorem open_regsS:∀n,Opens en P W sp hd n 35 (fun s:SlV RegN=>[.slice s.a s.n s.c]) (fun s=>SlG (Imm.all W) [] 11 RegN.enc s.a s.n s.l∧∀x∈s.l,x.Ok (Imm.all W) []∧x.p.Wf) (fun s=>s.l.length≤reachBytes∧∀x∈s.l,x.p.Short)
 | 0=>Opens.zero
 | 1=>Opens.slice (e:=77) (z:=11) (by':=104) (by kernel_rfl) (by kernel_rfl) (by decide) (by kernel_rfl) (by decide) (fun _=>rfl) Opens.zero
 | n+2=>Opens.slice (e:=77) (z:=11) (by':=104) (by kernel_rfl) (by kernel_rfl) (by decide) (by kernel_rfl) (by decide) (fun _=>rfl) (open_regS n)
theorem open_slotsS:∀n,Opens en P W sp hd n 36 (fun s:SlV SlotP=>[.slice s.a s.n s.c]) (fun s=>SlG (Imm.all W) [] 2 SlotP.enc s.a s.n s.l∧∀x∈s.l,x.Wf) (fun s=>s.l.length≤reachBytes∧∀x∈s.l,x.Short)
 | 0=>Opens.zero
 | 1=>Opens.slice (e:=79) (z:=2) (by':=24) (by kernel_rfl) (by kernel_rfl) (by decide) (by kernel_rfl) (by decide) (fun _=>rfl) Opens.zero
 | n+2=>Opens.slice (e:=79) (z:=2) (by':=24) (by kernel_rfl) (by kernel_rfl) (by decide) (by kernel_rfl) (by decide) (fun _=>rfl) (open_slotS n)
theorem open_statesS:∀n,Opens en P W sp hd n 37 (fun s:SlV StateN=>[.slice s.a s.n s.c]) (fun s=>SlG (Imm.all W) [] 3 StateN.enc s.a s.n s.l∧∀x∈s.l,x.Ok (Imm.all W) []∧x.p.Wf) (fun s=>s.l.length≤reachBytes∧∀x∈s.l,x.p.Short)
 | 0=>Opens.zero
 | 1=>Opens.slice (e:=65) (z:=3) (by':=48) (by kernel_rfl) (by kernel_rfl) (by decide) (by kernel_rfl) (by decide) (fun _=>rfl) Opens.zero
 | n+2=>Opens.slice (e:=65) (z:=3) (by':=48) (by kernel_rfl) (by kernel_rfl) (by decide) (by kernel_rfl) (by decide) (fun _=>rfl) (open_stateS n)
theorem open_stgS(n:Nat):Opens en P W sp hd (n+1) 39 StgN.enc (fun r=>r.Ok (Imm.all W) []∧r.p.Wf) (fun r=>r.p.Short):=by
 refine (Opens.struct (z:=4) (fs:=stgF) (by kernel_rfl) (OpensF.cons (k:=1) (Opens.str (by kernel_rfl)) (by kernel_rfl)<|OpensF.cons (k:=1) (open_regsS n) (by kernel_rfl)<|OpensF.cons (k:=1) (open_slotsS n) (by kernel_rfl)<|OpensF.cons (k:=1) (open_statesS n) (by kernel_rfl) OpensF.nil)).map
  (fun x=>StgN.mk x.1 x.2.1.a x.2.1.c x.2.1.l x.2.2.1.a x.2.2.1.c x.2.2.1.l x.2.2.2.1.a x.2.2.2.1.c x.2.2.2.1.l) ?_ ?_ ?_
 ·intro ⟨a,⟨ra,rn,rc,rl⟩,⟨sa,sn,sc,sl⟩,⟨ta,tn,tc,tl⟩,u⟩ ⟨_,⟨h2,_⟩,⟨h3,_⟩,⟨h4,_⟩,_⟩
  have e2:rn=rl.length:=h2.1
  have e3:sn=sl.length:=h3.1
  have e4:tn=tl.length:=h4.1
  subst e2 e3 e4;rfl
 ·intro ⟨a,⟨ra,rn,rc,rl⟩,⟨sa,sn,sc,sl⟩,⟨ta,tn,tc,tl⟩,u⟩ ⟨h1,⟨h2,h2'⟩,⟨h3,h3'⟩,⟨h4,h4'⟩,_⟩
  have e2:rn=rl.length:=h2.1
  have e3:sn=sl.length:=h3.1
  have e4:tn=tl.length:=h4.1
  subst e2 e3 e4
  refine⟨⟨h2,fun d hd=>(h2' d hd).1,h3,h4,fun d hd=>(h4' d hd).1⟩,fun d hd=>?_,h3',fun d hd=>?_⟩
  ·obtain⟨d',hd',rfl⟩:=List.mem_map.1 hd
   exact (h2' d' hd').2
  ·obtain⟨d',hd',rfl⟩:=List.mem_map.1 hd
   exact (h4' d' hd').2
 ·intro ⟨a,⟨ra,rn,rc,rl⟩,⟨sa,sn,sc,sl⟩,⟨ta,tn,tc,tl⟩,u⟩ _ ⟨g1,⟨g2,g2'⟩,⟨g3,g3'⟩,⟨g4,g4'⟩,_⟩
  refine⟨g1,by simp only[StgN.p,List.length_map];exact g2,fun d hd=>?_,g3,g3',by simp only[StgN.p,List.length_map];exact g4,fun d hd=>?_⟩
  ·obtain⟨d',hd',rfl⟩:=List.mem_map.1 hd
   exact g2' d' hd'
  ·obtain⟨d',hd',rfl⟩:=List.mem_map.1 hd
   exact g4' d' hd'
end
theorem open_stg{H:Type}{en:TypeId×Value→H}{W:World}{base:Nat}{sp:Nat→Bool}{hd:Bool}{v:Value}{d:DataW H}{ps:List MemPlace}{r:Reach}(hval:Value.okWide P W r base 39 v)(h:DataW.Trod en P W 0 sp hd 39 v d ps) :
  ∃s:StgN,v=s.v∧s.Ok (Imm.all W) []∧s.p.Wf∧((∀m∈d.weights P 39,m≤reachBytes)→s.p.Short):=by
 have hv:=agg_of (fs:=stgF) (z:=4) (by kernel_rfl) hval
 obtain⟨fuel,hf⟩:=h
 cases fuel with
 | zero=>cases hf
 | succ n =>
   obtain⟨t,e,⟨h1,h2⟩,h3⟩:=open_stgS n _ d ps hf
   exact⟨t,by rw[hv,e],h1,h2,h3⟩
end Go.Lx
