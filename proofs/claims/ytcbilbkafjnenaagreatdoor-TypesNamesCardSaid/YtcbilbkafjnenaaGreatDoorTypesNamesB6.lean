import Derived.Test.YtcbilbkafjnenaaGreatDoorTypesNamesB5
set_option linter.unusedVariables false
set_option linter.unusedSimpArgs false
set_option linter.unusedSectionVars false
set_option maxRecDepth 100000
namespace Go.Lx
open Go.Vc
def lO(ts:List Int):Obj:=.cells #[.int .u8 (at0 ts 0),.int .u8 (at0 ts 1),.int .u8 (at0 ts 2)] 145 (0,0)
theorem addr0(b n:Nat):(⟨b,0,none⟩:Addr).add n=⟨b,n,none⟩:=by unfold Addr.add;split<;>simp_all
theorem lO_rd{I:Imm}{G:Heap}{b:Nat}{ts:List Int}(h:(b,lO ts)∈G){i:Nat}(hi:i<3):Rd I G ((⟨b,0,none⟩:Addr).add i) [.int .u8 (at0 ts i)]:=by
 rw[addr0]
 refine⟨rfl,_,_,_,.inr h,fun j hj=>?_⟩
 have:j=0:=by simpa using hj
 subst this
 match i,hi with
 | 0,_=>rfl
 | 1,_=>rfl
 | 2,_=>rfl
theorem lO_put{ts:List Int}(x:Int)(h:ts.length<3):Obj.cells (splice ts.length [Value.int .u8 x] [.int .u8 (at0 ts 0),.int .u8 (at0 ts 1),.int .u8 (at0 ts 2)]).toArray 145 (0,0)=lO (ts++[x]):=by
 match ts,h with
 | [],_=>rfl
 | [a],_=>rfl
 | [a,b],_=>rfl
theorem formed_len{x:Px}(h:x.formed=true):x.kids.length≤3:=by
 rw[(formed_one h).2]
 unfold Px.arity
 repeat' split
 all_goals omega
def oneN(k o typ a:Int):Int×Bool:=if k=9 then (typ,numT a) else if o=2 then (5,a==5) else (a,numT a)
theorem oneN_T(k o typ a:Int)(ht:k=9→typ≠0):((oneN k o typ a).2=true↔oneT k o typ a≠0)∧(oneT k o typ a≠0→(oneN k o typ a).1=oneT k o typ a):=by
 have h0:numT a=true→a≠0:=fun h=>by have:=num_bool.1 h;omega
 unfold oneN oneT
 by_cases h9:k=9
 ·by_cases hn:numT a=true
  ·simp[h9,hn,ht h9]
  ·simp[h9,hn]
 ·by_cases ho:o=2
  ·by_cases h5:a=5
   ·simp[h9,ho,h5]
   ·simp[h9,ho,h5]
  ·by_cases hn:numT a=true
   ·simp[h9,ho,hn,h0 hn]
   ·simp[h9,ho,hn]
set_option maxHeartbeats 1000000 in
theorem of_spec{s:StgN}{c m1 m2:Nat}:∀(t:Nd),t.px.formed=true→∀(I:Imm) (F:Heap),Scp I c s.p m1 m2→NdOk I F t →
  Tri P 45 #[.pointer (some ⟨c,0,none⟩),t.v] I F (RetV (OfV (typed s.p t.px)) F):=by
 refine Nd.ind fun t ih hf I F hS ht=>Tri.still ?_
 have ekid:t.px.kids=t.kids.map Nd.px:=Nd.px_kids t
 have hlen:t.kids.length≤3:=by have:=formed_len hf;rwa [Nd.px_len] at this
 refine types_scope_of.vc (fun nA lA x x1 i m I0 F0 I' F'=>0≤i∧i≤t.kids.length∧m=(t.kids.length-i).toNat∧(∀k∈t.kids.take i.toNat,(typed s.p k.px).2.e=0) ∧
  ∃b,lA=some (⟨b,0,none⟩:Addr)∧F'.Perm ((b,lO ((t.kids.take i.toNat).map fun k=>(typed s.p k.px).1))::F)) ?_
 unfold types_scope_of.V
 intro b_n b_l
 refine⟨⟨_,by omega,by omega,rfl,fun k hk=>by simp at hk,b_l,rfl,.refl _⟩,fun x x1 i m I1 F1 l1 ⟨g0,g1,gm,hall,b,hb,hF1⟩=>?_⟩
 obtain rfl:b_l=b:=by simpa using hb
 have hS1:Scp I1 c s.p m1 m2:=hS.mono l1
 have hsub:∀y,y∈F→y∈F1:=fun y hy=>hF1.mem_iff.2 (List.mem_cons_of_mem _ hy)
 have ht1:NdOk I1 F1 t:=ht.mono l1 hsub
 refine⟨fun hlt=>?_,fun hlt=>?_⟩
 ·have hlt:=of_decide_eq_true hlt
  obtain⟨ad,k,had,hk,hrd,hko,hkm⟩:=ht1.kids.at g0 hlt
  have hkf:=Px.formed_kid hf k.px (by rw[ekid];exact List.mem_map_of_mem hkm)
  have hbad:(typed s.p k.px).2.e≠0→typed s.p t.px=(0,(typed s.p k.px).2):=fun he=>typed_bad (i:=i.toNat) (fun y hy=>by
   rw[ekid,←List.map_take] at hy
   obtain⟨z,hz,rfl⟩:=List.mem_map.1 hy
   exact hall z hz) (by rw[ekid,List.getElem?_map,hk];rfl) he
  refine⟨⟨g0,hlt⟩,ad,had,_,_,_,_,_,_,_,_,_,_,hrd.sub (Imm.le_refl _) (fun y hy=>.tail _ hy), ?_⟩
  intro b_k
  refine Tri.retV (ih k hkm hkf I1 _ hS1 (hko.mono (Imm.le_refl _) fun y hy=>.tail _ (.tail _ hy))) fun v I2 l2 ⟨w,hv,hw⟩=>?_
  refine⟨_,_,by rw[hv],F1,.refl _,_,hw.neq (by kernel_rfl),fun hq=>?_,fun hq=>?_⟩
  ·have he:(typed s.p k.px).2.e≠0:=by simpa using hq
   refine⟨_,[_],rfl,hF1,fun J hJ hx=>?_⟩
   rw[hbad he]
   exact⟨w,rfl,hw.mono hJ⟩
  ·have he:(typed s.p k.px).2.e=0:=by simpa using hq
   have hl3:(((t.kids.take i.toNat).map fun k=>(typed s.p k.px).1)).length=i.toNat:=by rw[List.length_map,List.length_take];omega
   refine⟨⟨g0,by omega⟩,_,_,F,by rw[addr0];exact hF1,by rw[addr0],by rw[addr0];simp only[List.length_cons,List.length_nil];omega,(t.kids.length-(i+1)).toNat,by omega, ?_⟩
   rw[w64 (n:=i+1) (by omega)]
   refine⟨by omega,by omega,rfl, ?_,b_l,rfl, ?_⟩
   ·rw[show (i+1).toNat=i.toNat+1 by omega]
    exact take_all hk hall he
   ·rw[addr0,show (i+1).toNat=i.toNat+1 by omega,map_snoc0 hk,←lO_put _ (by rw[hl3];omega),hl3,Nat.mul_one]
 ·have hlt:=of_decide_eq_false hlt
  rw[List.take_of_length_le (l:=t.kids) (i:=i.toNat) (by omega)] at hall hF1
  have hty:typed s.p t.px=nodeE s.p t.px (t.kids.map fun k=>(typed s.p k.px).1):=by
   rw[typed_ok (fun k hk=>by
    rw[ekid] at hk
    obtain⟨z,hz,rfl⟩:=List.mem_map.1 hk
    exact hall z hz),ekid,List.map_map]
   rfl
  rw[hty]
  have htl:(t.kids.map fun k=>(typed s.p k.px).1).length=t.kids.length:=List.length_map ..
  generalize (t.kids.map fun k=>(typed s.p k.px).1)=ts at hF1 htl ⊢
  have hmem:∀y:Nat×Obj,(b_l,lO ts)∈y::F1:=fun y=>.tail _ (hF1.mem_iff.2 (.head _))
  have ek:t.px.kind=t.kind:=Nd.px_kind t
  have wr:∀{J:Imm} {G:Heap},nodeE s.p t.px ts=(0,⟨152,t.pos,true⟩)→Tri P 90 #[t.v,.int .i64 152] J G (RetV (OfV (nodeE s.p t.px ts)) G):=fun e=>by
   rw[e];exact twrong_spec t 152 _ _ (by decide) true
  have fin:∀{J:Imm} {x:Int},nodeE s.p t.px ts=(x,zTF)→∃v H,Ending.returned (Value.tuple #[.int .u8 x,.nilIface])=.returned v∧F1.Perm (H++F)∧∀K,Imm.le J K→(∀z∈H,K z.1=some z.2)→OfV (nodeE s.p t.px ts) v K :=
   fun e=>⟨_,[_],rfl,hF1,fun K hJ hx=>by rw[e];exact⟨_,rfl,OfE.ok⟩⟩
  have finw:∀{J:Imm} {v:Value},OfV (nodeE s.p t.px ts) v J→∃v1 H,Ending.returned v=.returned v1∧F1.Perm (H++F)∧∀K,Imm.le J K→(∀z∈H,K z.1=some z.2)→OfV (nodeE s.p t.px ts) v1 K :=
   fun ⟨w,hv,hw⟩=>⟨_,[_],rfl,hF1,fun K hJ hx=>⟨w,hv,hw.mono hJ⟩⟩
  have eN:¬t.kind=2→nodeE s.p t.px ts=if (nodeT s.p t.px ts).2 then ((nodeT s.p t.px ts).1,zTF) else (0,⟨152,t.pos,true⟩):=fun h2=>by
   unfold nodeE;rw[ek,if_neg (fun h=>h2 h.1),Nd.px_pos]
  refine⟨fun h=>?_,fun h=>⟨fun h1=>?_,fun h1=>⟨fun h2=>?_,fun h2=>?_⟩⟩⟩
  ·have h0:t.kids.length=0:=by simpa using h
   obtain rfl:ts=[]:=List.length_eq_zero_iff.1 (by omega)
   refine Tri.retV (leaf_spec t hf h0 I1 _ hS1) fun v I3 l3 hv=>?_
   obtain⟨w,hv1,hw⟩:=id hv
   exact⟨_,_,by rw[hv1],F1,.refl _,by rw[←hv1];exact finw hv⟩
  ·have h1:t.kids.length=1:=by simp at h1;omega
   obtain⟨n1,n2,n3,n4,n7,n6⟩:=formed_1 hf (by rw[Nd.px_len,h1])
   rw[ek] at n1 n2 n3 n4 n7 n6
   have hn:nodeT s.p t.px ts=oneN t.kind t.oper t.typ (at0 ts 0):=by
    unfold nodeT oneN
    rw[ek,Nd.px_typ,Nd.px_oper,if_neg n1,if_neg n2,if_neg n3,if_neg n4,if_neg n7,if_neg (show ¬ts.length=2 by omega)]
   have hty:t.kind=9→t.typ≠0:=fun h9=>by have:=formed_typ hf (by rw[ek];exact h9);rwa [Nd.px_typ] at this
   obtain⟨ho1,ho2⟩:=oneN_T t.kind t.oper t.typ (at0 ts 0) hty
   have hE:oneT t.kind t.oper t.typ (at0 ts 0)≠0→nodeE s.p t.px ts=(oneT t.kind t.oper t.typ (at0 ts 0),zTF):=fun h=>by
    rw[eN n2,hn,if_pos (ho1.2 h),ho2 h]
   have hN:oneT t.kind t.oper t.typ (at0 ts 0)=0→nodeE s.p t.px ts=(0,⟨152,t.pos,true⟩):=fun h=>by
    rw[eN n2,hn,if_neg (fun h'=>ho1.1 h' h)]
   refine⟨⟨by omega,by omega⟩,at0 ts 0,lO_rd (i:=0) (hmem _) (by decide), ?_⟩
   refine Tri.ret (tone_spec t (at0 ts 0) I1 _) fun I3 l3=>⟨_,rfl,F1,.refl _,fun hz=>?_,fun hz=>?_⟩
   ·have hz:oneT t.kind t.oper t.typ (at0 ts 0)=0:=by simpa using hz
    refine Tri.retV (wr (hN hz)) fun v I4 l4 hv=>?_
    obtain⟨w,hv1,hw⟩:=id hv
    exact⟨_,_,by rw[hv1],F1,.refl _,by rw[←hv1];exact finw hv⟩
   ·have hz:oneT t.kind t.oper t.typ (at0 ts 0)≠0:=by simpa using hz
    exact fin (hE hz)
  ·have h2:t.kids.length=2:=by simp at h2;omega
   obtain⟨n1,n2,n3,n4,n7,n9,ho⟩:=formed_two hf (by rw[Nd.px_len,h2])
   rw[ek] at n1 n2 n3 n4 n7 n9
   have hn:nodeT s.p t.px ts=twoT t.oper (at0 ts 0) (at0 ts 1):=by
    unfold nodeT
    rw[ek,Nd.px_oper,if_neg n1,if_neg n2,if_neg n3,if_neg n4,if_neg n7,if_neg n9,if_pos (show ts.length=2 by omega)]
   rw[Nd.px_oper] at ho
   refine⟨⟨by omega,by omega⟩,at0 ts 0,lO_rd (i:=0) (hmem _) (by decide),⟨by omega,by omega⟩,at0 ts 1,lO_rd (i:=1) (hmem _) (by decide), ?_⟩
   refine Tri.retV (tdbl_spec t.oper (at0 ts 0) (at0 ts 1) (by omega) I1 _) fun v I3 l3 ⟨x,hv,hx⟩=>⟨_,_,congrArg Ending.returned hv,F1,.refl _,fun hz=>?_,fun hz=>?_⟩
   ·have hz:(twoT t.oper (at0 ts 0) (at0 ts 1)).2=false:=by simpa using hz
    have e:nodeE s.p t.px ts=(0,⟨152,t.pos,true⟩):=by rw[eN n2,hn,hz];rfl
    refine Tri.retV (wr e) fun v I4 l4 hv=>?_
    obtain⟨w,hv1,hw⟩:=id hv
    exact⟨_,_,by rw[hv1],F1,.refl _,by rw[←hv1];exact finw hv⟩
   ·have hz:(twoT t.oper (at0 ts 0) (at0 ts 1)).2=true:=by simpa using hz
    exact fin (by rw[eN n2,hn,if_pos hz,←hx hz])
  ·have h3:3≤t.px.kids.length:=by
    rw[Nd.px_len]
    have g0:t.kids.length≠0:=fun e=>by rw[e] at h;cases h
    have g1:t.kids.length≠1:=fun e=>by rw[e] at h1;cases h1
    have g2:t.kids.length≠2:=fun e=>by rw[e] at h2;cases h2
    omega
   obtain⟨k7,k3⟩:=formed_3 hf h3
   rw[Nd.px_len] at k3
   rw[ek] at k7
   have hn:nodeT s.p t.px ts=(at0 ts 1,at0 ts 0==5&&at0 ts 1==at0 ts 2):=by
    unfold nodeT
    rw[ek,if_neg (show ¬t.kind=1 by omega),if_neg (show ¬t.kind=2 by omega),if_neg (show ¬t.kind=3 by omega),if_neg (show ¬t.kind=4 by omega),if_pos k7]
   have n2:¬t.kind=2:=by omega
   refine⟨⟨by omega,by omega⟩,at0 ts 1,lO_rd (i:=1) (hmem _) (by decide),⟨by omega,by omega⟩,at0 ts 0,lO_rd (i:=0) (hmem _) (by decide),fun h5=>⟨⟨by omega,by omega⟩,at0 ts 1,lO_rd (i:=1) (hmem _) (by decide),⟨by omega,by omega⟩,at0 ts 2,lO_rd (i:=2) (hmem _) (by decide),fun hz=>?_,fun hz=>?_⟩,fun h5=>⟨fun _=>?_,fun h=>(by cases h)⟩⟩
   ·have e:nodeE s.p t.px ts=(0,⟨152,t.pos,true⟩):=by
     rw[eN n2,hn]
     have:(at0 ts 1==at0 ts 2)=false:=by simpa using hz
     rw[this,Bool.and_false];rfl
    refine Tri.retV (wr e) fun v I4 l4 hv=>?_
    obtain⟨w,hv1,hw⟩:=id hv
    exact⟨_,_,by rw[hv1],F1,.refl _,by rw[←hv1];exact finw hv⟩
   ·have h12:(at0 ts 1==at0 ts 2)=true:=by simpa using hz
    exact fin (by rw[eN n2,hn,h5,h12];rfl)
   ·have e:nodeE s.p t.px ts=(0,⟨152,t.pos,true⟩):=by
     rw[eN n2,hn,h5,Bool.false_and];rfl
    refine Tri.retV (wr e) fun v I4 l4 hv=>?_
    obtain⟨w,hv1,hw⟩:=id hv
    exact⟨_,_,by rw[hv1],F1,.refl _,by rw[←hv1];exact finw hv⟩
end Go.Lx
namespace Go.As
open Go.RowKit Go.Extern.Stop Go.Stop Go.Extern
theorem rlm(z:Sem Value)(f:TypeId→Addr→Nat→Nat→Sem Value)(v:Value) :
  ReflectliteValue.method z f #[v]=(do match ←ReflectliteValue.parts v with | none=>z | some (t,a,fl)=>f t a fl (fl % 32)):=rfl
theorem rls(v x:Value):ReflectliteValue.set #[v,x]=(do
  let (some (dst,a,fl),some (src,b,_)):=(←ReflectliteValue.parts v,←ReflectliteValue.parts x)
   | unsupported (.noEntry "extern/(internal/reflectlite.Value).Set.zeroValue")
  if fl / ReflectliteValue.flagAddr % 2==0 then unsupported (.noEntry "extern/(internal/reflectlite.Value).Set.unaddressable")
  let val ←loadVar src b
  if ←Rtype.directlyAssignable dst src then storeVar dst a val
  else if ←Rtype.implements dst src then
   if (←Rtype.kind src)==20 then
    match val with
    | .nilIface=>unsupported (.noEntry "extern/reflectlite: a nil value of one interface type handed on as a value of another")
    | _=>storeVar dst a val
   else storeVar dst a (.iface src val)
  else panicString ("reflectlite.Set: value of type " ++ (←Rtype.spelt src) ++ " is not assignable to type " ++ (←Rtype.spelt dst))
  pure (.tuple #[])):=rfl
theorem methodKind(h:Value)(w:World):(Go.method 345 153 (.agg #[h]) "Kind").run Go.Proofs.Tryz.prog w=.ok (178,h) w:=by kernel_rfl
theorem methodElem(h:Value)(w:World):(Go.method 345 153 (.agg #[h]) "Elem").run Go.Proofs.Tryz.prog w=.ok (190,.agg #[h]) w:=by kernel_rfl
theorem methodImplements(h:Value)(w:World):(Go.method 345 153 (.agg #[h]) "Implements").run Go.Proofs.Tryz.prog w=.ok (191,.agg #[h]) w:=by kernel_rfl
theorem methodAssignableTo(h:Value)(w:World):(Go.method 345 153 (.agg #[h]) "AssignableTo").run Go.Proofs.Tryz.prog w=.ok (188,.agg #[h]) w:=by kernel_rfl
theorem valueOfF(t:Addr)(w:World):(ReflectliteValue.unpack (.iface 61 (.pointer (some t)))).run Go.Proofs.Tryz.prog w=.ok (.agg #[.pointer (some ⟨1,61,none⟩),.pointer (some ⟨w.heap.size,0,none⟩),.int .u64 150]) (w.alloc (.cells #[.pointer (some t)] 61)):=by kernel_rfl
theorem typeF(a:Addr)(w:World):(ReflectliteValue.methodAny (ReflectliteValue.valueError "reflectlite.Value.Type" 0) (fun t _ _ _=>ReflectliteType.toType t) #[(.agg #[.pointer (some ⟨1,61,none⟩),.pointer (some a),.int .u64 150])]).run Go.Proofs.Tryz.prog w=.ok (.iface 153 (.agg #[.pointer (some ⟨1,61,none⟩)])) w:=by kernel_rfl
theorem kindPF(w:World):((ReflectliteType.abiMethod fun t=>(fun a:Nat=>Value.int IntKind.u8 (a:Int)) <$> Rtype.kind t) #[.pointer (some ⟨1,61,none⟩)]).run Go.Proofs.Tryz.prog w=.ok (.int .u8 22) w:=by kernel_rfl
theorem kindF(w:World):((ReflectliteType.abiMethod fun t=>(fun a:Nat=>Value.int IntKind.u8 (a:Int)) <$> Rtype.kind t) #[.pointer (some ⟨1,59,none⟩)]).run Go.Proofs.Tryz.prog w=.ok (.int .u8 22) w:=by kernel_rfl
theorem partsPF(a:Addr)(w:World):(ReflectliteValue.parts (.agg #[.pointer (some ⟨1,61,none⟩),.pointer (some a),.int .u64 150])).run Go.Proofs.Tryz.prog w=.ok (some (61,a,150)) w:=by kernel_rfl
theorem underPF:Go.Proofs.Tryz.prog.underlying 61=some (.pointer 59):=by kernel_rfl
theorem isNilF(a p:Addr)(W:World)(ha:W.cell? a=some (.pointer (some p))) :
  (ReflectliteValue.method (ReflectliteValue.valueError "reflectlite.Value.IsNil" 0) ReflectliteValue.isNil #[(.agg #[.pointer (some ⟨1,61,none⟩),.pointer (some a),.int .u64 150])]).run Go.Proofs.Tryz.prog W=.ok (.bool false) W:=by
 rw[rlm]
 simp only[Sem.run_bind,partsPF,Result.andThen]
 simp[ReflectliteValue.isNil,loadVar,isAgg,underlying,underPF,ha,Result.andThen]
theorem elemF(w:World):(ReflectliteType.method ReflectliteType.elem #[.agg #[.pointer (some ⟨1,61,none⟩)]]).run Go.Proofs.Tryz.prog w=.ok (.iface 153 (.agg #[.pointer (some ⟨1,59,none⟩)])) w:=by kernel_rfl
theorem implF(w:World):(ReflectliteType.relation "Implements" ReflectliteType.implements_ #[.agg #[.pointer (some ⟨1,59,none⟩)],.iface 153 (.agg #[.pointer (some ⟨1,38,none⟩)])]).run Go.Proofs.Tryz.prog w=.ok (.bool true) w:=by kernel_rfl
theorem typeOfF(v:Value)(w:World):(ReflectliteType.typeOf #[.iface 59 v]).run Go.Proofs.Tryz.prog w=.ok (.iface 153 (.agg #[.pointer (some ⟨1,59,none⟩)])) w:=by kernel_rfl
theorem elemOfF(w:World):(Rtype.elem? 61).run Go.Proofs.Tryz.prog w=.ok (some 59) w:=by kernel_rfl
theorem mkF(p:Addr)(w:World):(ReflectliteValue.mk 59 p ReflectliteValue.flagAddr).run Go.Proofs.Tryz.prog w=.ok (.agg #[.pointer (some ⟨1,59,none⟩),.pointer (some p),.int .u64 406]) w:=by kernel_rfl
theorem elemVF(a p:Addr)(W:World)(ha:W.cell? a=some (.pointer (some p))) :
  (ReflectliteValue.method (ReflectliteValue.valueError "reflectlite.Value.Elem" 0) ReflectliteValue.elem #[(.agg #[.pointer (some ⟨1,61,none⟩),.pointer (some a),.int .u64 150])]).run Go.Proofs.Tryz.prog W=.ok (.agg #[.pointer (some ⟨1,59,none⟩),.pointer (some p),.int .u64 406]) W:=by
 rw[rlm]
 simp only[Sem.run_bind,partsPF,Result.andThen]
 simp[ReflectliteValue.elem,loadVar,isAgg,underlying,underPF,ha,Result.andThen,elemOfF,mkF]
theorem partsFa(a:Addr)(w:World):(ReflectliteValue.parts (.agg #[.pointer (some ⟨1,59,none⟩),.pointer (some a),.int .u64 406])).run Go.Proofs.Tryz.prog w=.ok (some (59,a,406)) w:=by kernel_rfl
theorem partsF(a:Addr)(w:World):(ReflectliteValue.parts (.agg #[.pointer (some ⟨1,59,none⟩),.pointer (some a),.int .u64 150])).run Go.Proofs.Tryz.prog w=.ok (some (59,a,150)) w:=by kernel_rfl
theorem directF(w:World):(Rtype.directlyAssignable 59 59).run Go.Proofs.Tryz.prog w=.ok true w:=by kernel_rfl
theorem underF:Go.Proofs.Tryz.prog.underlying 59=some (.pointer 63):=by kernel_rfl
theorem valueF(x:Addr)(w:World):(ReflectliteValue.unpack (.iface 59 (.pointer (some x)))).run Go.Proofs.Tryz.prog w=.ok (.agg #[.pointer (some ⟨1,59,none⟩),.pointer (some ⟨w.heap.size,0,none⟩),.int .u64 150]) (w.alloc (.cells #[.pointer (some x)] 59)):=by kernel_rfl
theorem setF(ta b:Addr)(x:Addr)(old:Value)(W:World)(hb:W.cell? b=some (.pointer (some x)))(ht:W.cell? ta=some old)(hf:W.frozen? ta=false) :
  (ReflectliteValue.set #[(.agg #[.pointer (some ⟨1,59,none⟩),.pointer (some ta),.int .u64 406]),(.agg #[.pointer (some ⟨1,59,none⟩),.pointer (some b),.int .u64 150])]).run Go.Proofs.Tryz.prog W=.ok (.tuple #[]) (W.setCell ta (.pointer (some x))):=by
 rw[rls]
 simp only[Sem.run_bind,partsFa,partsF,Result.andThen]
 simp[ReflectliteValue.flagAddr,loadVar,isAgg,underlying,underF,hb,Result.andThen,directF,storeVar,Value.cells,storeCells,Addr.add]
 rw[run_store Go.Proofs.Tryz.prog W ta _ _ (by rfl)]
 simp[ht,hf]
theorem valueOfE(t:Addr)(w:World):(ReflectliteValue.unpack (.iface 89 (.pointer (some t)))).run Go.Proofs.Tryz.prog w=.ok (.agg #[.pointer (some ⟨1,89,none⟩),.pointer (some ⟨w.heap.size,0,none⟩),.int .u64 150]) (w.alloc (.cells #[.pointer (some t)] 89)):=by kernel_rfl
theorem typeE(a:Addr)(w:World):(ReflectliteValue.methodAny (ReflectliteValue.valueError "reflectlite.Value.Type" 0) (fun t _ _ _=>ReflectliteType.toType t) #[(.agg #[.pointer (some ⟨1,89,none⟩),.pointer (some a),.int .u64 150])]).run Go.Proofs.Tryz.prog w=.ok (.iface 153 (.agg #[.pointer (some ⟨1,89,none⟩)])) w:=by kernel_rfl
theorem kindPE(w:World):((ReflectliteType.abiMethod fun t=>(fun a:Nat=>Value.int IntKind.u8 (a:Int)) <$> Rtype.kind t) #[.pointer (some ⟨1,89,none⟩)]).run Go.Proofs.Tryz.prog w=.ok (.int .u8 22) w:=by kernel_rfl
theorem kindE(w:World):((ReflectliteType.abiMethod fun t=>(fun a:Nat=>Value.int IntKind.u8 (a:Int)) <$> Rtype.kind t) #[.pointer (some ⟨1,40,none⟩)]).run Go.Proofs.Tryz.prog w=.ok (.int .u8 2) w:=by kernel_rfl
theorem partsPE(a:Addr)(w:World):(ReflectliteValue.parts (.agg #[.pointer (some ⟨1,89,none⟩),.pointer (some a),.int .u64 150])).run Go.Proofs.Tryz.prog w=.ok (some (89,a,150)) w:=by kernel_rfl
theorem underPE:Go.Proofs.Tryz.prog.underlying 89=some (.pointer 40):=by kernel_rfl
theorem isNilE(a p:Addr)(W:World)(ha:W.cell? a=some (.pointer (some p))) :
  (ReflectliteValue.method (ReflectliteValue.valueError "reflectlite.Value.IsNil" 0) ReflectliteValue.isNil #[(.agg #[.pointer (some ⟨1,89,none⟩),.pointer (some a),.int .u64 150])]).run Go.Proofs.Tryz.prog W=.ok (.bool false) W:=by
 rw[rlm]
 simp only[Sem.run_bind,partsPE,Result.andThen]
 simp[ReflectliteValue.isNil,loadVar,isAgg,underlying,underPE,ha,Result.andThen]
theorem elemE(w:World):(ReflectliteType.method ReflectliteType.elem #[.agg #[.pointer (some ⟨1,89,none⟩)]]).run Go.Proofs.Tryz.prog w=.ok (.iface 153 (.agg #[.pointer (some ⟨1,40,none⟩)])) w:=by kernel_rfl
theorem implE(w:World):(ReflectliteType.relation "Implements" ReflectliteType.implements_ #[.agg #[.pointer (some ⟨1,40,none⟩)],.iface 153 (.agg #[.pointer (some ⟨1,38,none⟩)])]).run Go.Proofs.Tryz.prog w=.ok (.bool true) w:=by kernel_rfl
theorem typeOfE(v:Value)(w:World):(ReflectliteType.typeOf #[.iface 40 v]).run Go.Proofs.Tryz.prog w=.ok (.iface 153 (.agg #[.pointer (some ⟨1,40,none⟩)])) w:=by kernel_rfl
theorem elemOfE(w:World):(Rtype.elem? 89).run Go.Proofs.Tryz.prog w=.ok (some 40) w:=by kernel_rfl
theorem mkE(p:Addr)(w:World):(ReflectliteValue.mk 40 p ReflectliteValue.flagAddr).run Go.Proofs.Tryz.prog w=.ok (.agg #[.pointer (some ⟨1,40,none⟩),.pointer (some p),.int .u64 386]) w:=by kernel_rfl
theorem elemVE(a p:Addr)(W:World)(ha:W.cell? a=some (.pointer (some p))) :
  (ReflectliteValue.method (ReflectliteValue.valueError "reflectlite.Value.Elem" 0) ReflectliteValue.elem #[(.agg #[.pointer (some ⟨1,89,none⟩),.pointer (some a),.int .u64 150])]).run Go.Proofs.Tryz.prog W=.ok (.agg #[.pointer (some ⟨1,40,none⟩),.pointer (some p),.int .u64 386]) W:=by
 rw[rlm]
 simp only[Sem.run_bind,partsPE,Result.andThen]
 simp[ReflectliteValue.elem,loadVar,isAgg,underlying,underPE,ha,Result.andThen,elemOfE,mkE]
theorem partsEa(a:Addr)(w:World):(ReflectliteValue.parts (.agg #[.pointer (some ⟨1,40,none⟩),.pointer (some a),.int .u64 386])).run Go.Proofs.Tryz.prog w=.ok (some (40,a,386)) w:=by kernel_rfl
theorem partsE(a:Addr)(w:World):(ReflectliteValue.parts (.agg #[.pointer (some ⟨1,40,none⟩),.pointer (some a),.int .u64 130])).run Go.Proofs.Tryz.prog w=.ok (some (40,a,130)) w:=by kernel_rfl
theorem directE(w:World):(Rtype.directlyAssignable 40 40).run Go.Proofs.Tryz.prog w=.ok true w:=by kernel_rfl
theorem underE:Go.Proofs.Tryz.prog.underlying 40=some (.int .i64):=by kernel_rfl
theorem valueE(x:Int)(w:World):(ReflectliteValue.unpack (.iface 40 (.int .i64 x))).run Go.Proofs.Tryz.prog w=.ok (.agg #[.pointer (some ⟨1,40,none⟩),.pointer (some ⟨w.heap.size,0,none⟩),.int .u64 130]) (w.alloc (.cells #[.int .i64 x] 40)):=by kernel_rfl
theorem setE(ta b:Addr)(x:Int)(old:Value)(W:World)(hb:W.cell? b=some (.int .i64 x))(ht:W.cell? ta=some old)(hf:W.frozen? ta=false) :
  (ReflectliteValue.set #[(.agg #[.pointer (some ⟨1,40,none⟩),.pointer (some ta),.int .u64 386]),(.agg #[.pointer (some ⟨1,40,none⟩),.pointer (some b),.int .u64 130])]).run Go.Proofs.Tryz.prog W=.ok (.tuple #[]) (W.setCell ta (.int .i64 x)):=by
 rw[rls]
 simp only[Sem.run_bind,partsEa,partsE,Result.andThen]
 simp[ReflectliteValue.flagAddr,loadVar,isAgg,underlying,underE,hb,Result.andThen,directE,storeVar,Value.cells,storeCells,Addr.add]
 rw[run_store Go.Proofs.Tryz.prog W ta _ _ (by rfl)]
 simp[ht,hf]
theorem assignFF(w:World):(ReflectliteType.relation "AssignableTo" ReflectliteType.assignableTo #[.agg #[.pointer (some ⟨1,59,none⟩)],.iface 153 (.agg #[.pointer (some ⟨1,59,none⟩)])]).run Go.Proofs.Tryz.prog w=.ok (.bool true) w:=by kernel_rfl
theorem assignFE(w:World):(ReflectliteType.relation "AssignableTo" ReflectliteType.assignableTo #[.agg #[.pointer (some ⟨1,59,none⟩)],.iface 153 (.agg #[.pointer (some ⟨1,40,none⟩)])]).run Go.Proofs.Tryz.prog w=.ok (.bool false) w:=by kernel_rfl
theorem assignEF(w:World):(ReflectliteType.relation "AssignableTo" ReflectliteType.assignableTo #[.agg #[.pointer (some ⟨1,40,none⟩)],.iface 153 (.agg #[.pointer (some ⟨1,59,none⟩)])]).run Go.Proofs.Tryz.prog w=.ok (.bool false) w:=by kernel_rfl
theorem assignEE(w:World):(ReflectliteType.relation "AssignableTo" ReflectliteType.assignableTo #[.agg #[.pointer (some ⟨1,40,none⟩)],.iface 153 (.agg #[.pointer (some ⟨1,40,none⟩)])]).run Go.Proofs.Tryz.prog w=.ok (.bool true) w:=by kernel_rfl
theorem taAsF(v:Value)(xT:TypeId)(w:World):(Instr.typeAssert (.iface 59 v) xT 158 true).run Go.Proofs.Tryz.prog w=.ok (.tuple #[.nilIface,.bool false]) w:=run_typeAssert_lacksB Go.Proofs.Tryz.underlying158 (by kernel_rfl) (by kernel_rfl) v xT w
theorem taUnF(v:Value)(xT:TypeId)(w:World):(Instr.typeAssert (.iface 59 v) xT 161 true).run Go.Proofs.Tryz.prog w=.ok (.tuple #[.iface 59 v,.bool true]) w:=run_typeAssert_hasB Go.Proofs.Tryz.underlying161 (by kernel_rfl) v xT w
theorem taAsE(v:Value)(xT:TypeId)(w:World):(Instr.typeAssert (.iface 40 v) xT 158 true).run Go.Proofs.Tryz.prog w=.ok (.tuple #[.nilIface,.bool false]) w:=run_typeAssert_lacksB Go.Proofs.Tryz.underlying158 (by kernel_rfl) (by kernel_rfl) v xT w
theorem taUnE(v:Value)(xT:TypeId)(w:World):(Instr.typeAssert (.iface 40 v) xT 161 true).run Go.Proofs.Tryz.prog w=.ok (.tuple #[.nilIface,.bool false]) w:=run_typeAssert_lacksB Go.Proofs.Tryz.underlying161 (by kernel_rfl) (by kernel_rfl) v xT w
theorem taUsE(v:Value)(xT:TypeId)(w:World):(Instr.typeAssert (.iface 40 v) xT 163 true).run Go.Proofs.Tryz.prog w=.ok (.tuple #[.nilIface,.bool false]) w:=run_typeAssert_lacksB Go.Proofs.Tryz.underlying163 (by kernel_rfl) (by kernel_rfl) v xT w
theorem methodUnwrap(e:Addr)(w:World):(Go.method 345 59 (.pointer (some e)) "Unwrap").run Go.Proofs.Tryz.prog w=.ok (183,.pointer (some e)) w:=by kernel_rfl
end Go.As
namespace Go.As
open Go.RowKit Go.Extern.Stop Go.Stop Go.Extern
abbrev tyF:Value:=.iface 153 (.agg #[.pointer (some ⟨1,59,none⟩)])
abbrev tyE:Value:=.iface 153 (.agg #[.pointer (some ⟨1,40,none⟩)])
abbrev rvO(PT:Nat)(a:Addr):Obj:=.cells #[.pointer (some ⟨1,PT,none⟩),.pointer (some a),.int .u64 150] 107
set_option maxHeartbeats 4000000 in
theorem as_FF(e t a:Addr)(old tgt:Value)(w:World)(ha:w.cell? a=some (.pointer (some t)))(ht0:w.cell? t=some old)(hf0:w.frozen? t=false) :
  Calls Go.Proofs.Tryz.prog 52 #[.iface 59 (.pointer (some e)),tgt,.agg #[.pointer (some ⟨1,61,none⟩),.pointer (some a),.int .u64 150],tyF] w fun ev w'=>ev=.returned (.bool true) ∧
   w'=((w.alloc (rvO 61 a)).alloc (.cells #[.pointer (some e)] 59)).setCell t (.pointer (some e)):=by
 have hTO:=@run_callFunc_extern Go.Proofs.Tryz.prog 94 _ ReflectliteType.typeOf Go.Proofs.Tryz.func94 (by kernel_rfl) (by kernel_rfl) (by kernel_rfl) (by kernel_rfl)
 have hA:=@run_callFunc_extern Go.Proofs.Tryz.prog 188 _ (ReflectliteType.relation "AssignableTo" ReflectliteType.assignableTo) Go.Proofs.Tryz.func188 (by kernel_rfl) (by kernel_rfl) (by kernel_rfl) (by kernel_rfl)
 have hVE:=@run_callFunc_extern Go.Proofs.Tryz.prog 95 _ (ReflectliteValue.method (ReflectliteValue.valueError "reflectlite.Value.Elem" 0) ReflectliteValue.elem) Go.Proofs.Tryz.func95 (by kernel_rfl) (by kernel_rfl) (by kernel_rfl) (by kernel_rfl)
 have hS:=@run_callFunc_extern Go.Proofs.Tryz.prog 96 _ ReflectliteValue.set Go.Proofs.Tryz.func96 (by kernel_rfl) (by kernel_rfl) (by kernel_rfl) (by kernel_rfl)
 have hV:=@run_callFunc_extern Go.Proofs.Tryz.prog 49 _ (fun args=>ReflectliteValue.unpack (args.getD 0 (.tuple #[]))) Go.Proofs.Tryz.func49 (by kernel_rfl) (by kernel_rfl) (by kernel_rfl) (by kernel_rfl)
 have tO:=typeOfF
 have mA:=methodAssignableTo
 have aF:=assignFF
 have vF:=valueF
 have hal:a.block<w.heap.size:=by
  rcases Nat.lt_or_ge a.block w.heap.size with h | h
  ·exact h
  ·simp[World.cell?,Array.getElem?_eq_none h] at ha
 have htl:t.block<w.heap.size:=by
  rcases Nat.lt_or_ge t.block w.heap.size with h | h
  ·exact h
  ·simp[World.cell?,Array.getElem?_eq_none h] at ht0
 have el:=elemVF a t (w.alloc (rvO 61 a)) (by rw[World.cell?_alloc_lt _ _ a hal];exact ha)
 have st:=setF t ⟨w.heap.size+1,0,none⟩ e old ((w.alloc (rvO 61 a)).alloc (.cells #[.pointer (some e)] 59))
  (by rw[World.cell?_alloc_at _ _ _ _ (by simp)];rfl)
  (by rw[World.cell?_alloc_lt _ _ t (by simp;omega),World.cell?_alloc_lt _ _ t htl];exact ht0)
  (by rw[World.frozen?_alloc_old _ _ t (by simp;omega),World.frozen?_alloc_old _ _ t (Nat.ne_of_lt htl)];exact hf0)
 go_enter Go.Proofs.Tryz.func52,Go.Proofs.Tryz.ntmps52
 go_wp2
 refine wp_loop_rounds 1 ?_
 rw[rounds_succ]
 go_wp2
 go_ret
 exact⟨rfl,rfl⟩
set_option maxHeartbeats 4000000 in
theorem as_EF(n:Int)(a:Addr)(tgt:Value)(w:World) :
  Calls Go.Proofs.Tryz.prog 52 #[.iface 40 (.int .i64 n),tgt,.agg #[.pointer (some ⟨1,61,none⟩),.pointer (some a),.int .u64 150],tyF] w fun ev w'=>ev=.returned (.bool false) ∧
   w'=w.alloc (rvO 61 a):=by
 have hTO:=@run_callFunc_extern Go.Proofs.Tryz.prog 94 _ ReflectliteType.typeOf Go.Proofs.Tryz.func94 (by kernel_rfl) (by kernel_rfl) (by kernel_rfl) (by kernel_rfl)
 have hA:=@run_callFunc_extern Go.Proofs.Tryz.prog 188 _ (ReflectliteType.relation "AssignableTo" ReflectliteType.assignableTo) Go.Proofs.Tryz.func188 (by kernel_rfl) (by kernel_rfl) (by kernel_rfl) (by kernel_rfl)
 have tO:=typeOfE
 have mA:=methodAssignableTo
 have aF:=assignEF
 have t1:=taAsE
 have t2:=taUnE
 have t3:=taUsE
 go_enter Go.Proofs.Tryz.func52,Go.Proofs.Tryz.ntmps52
 go_wp2
 refine wp_loop_rounds 1 ?_
 rw[rounds_succ]
 go_wp2
 go_ret
 exact⟨rfl,rfl⟩
set_option maxHeartbeats 4000000 in
theorem as_EE(n:Int)(t a:Addr)(old tgt:Value)(w:World)(ha:w.cell? a=some (.pointer (some t)))(ht0:w.cell? t=some old)(hf0:w.frozen? t=false) :
  Calls Go.Proofs.Tryz.prog 52 #[.iface 40 (.int .i64 n),tgt,.agg #[.pointer (some ⟨1,89,none⟩),.pointer (some a),.int .u64 150],tyE] w fun ev w'=>ev=.returned (.bool true) ∧
   w'=((w.alloc (rvO 89 a)).alloc (.cells #[.int .i64 n] 40)).setCell t (.int .i64 n):=by
 have hTO:=@run_callFunc_extern Go.Proofs.Tryz.prog 94 _ ReflectliteType.typeOf Go.Proofs.Tryz.func94 (by kernel_rfl) (by kernel_rfl) (by kernel_rfl) (by kernel_rfl)
 have hA:=@run_callFunc_extern Go.Proofs.Tryz.prog 188 _ (ReflectliteType.relation "AssignableTo" ReflectliteType.assignableTo) Go.Proofs.Tryz.func188 (by kernel_rfl) (by kernel_rfl) (by kernel_rfl) (by kernel_rfl)
 have hVE:=@run_callFunc_extern Go.Proofs.Tryz.prog 95 _ (ReflectliteValue.method (ReflectliteValue.valueError "reflectlite.Value.Elem" 0) ReflectliteValue.elem) Go.Proofs.Tryz.func95 (by kernel_rfl) (by kernel_rfl) (by kernel_rfl) (by kernel_rfl)
 have hS:=@run_callFunc_extern Go.Proofs.Tryz.prog 96 _ ReflectliteValue.set Go.Proofs.Tryz.func96 (by kernel_rfl) (by kernel_rfl) (by kernel_rfl) (by kernel_rfl)
 have hV:=@run_callFunc_extern Go.Proofs.Tryz.prog 49 _ (fun args=>ReflectliteValue.unpack (args.getD 0 (.tuple #[]))) Go.Proofs.Tryz.func49 (by kernel_rfl) (by kernel_rfl) (by kernel_rfl) (by kernel_rfl)
 have tO:=typeOfE
 have mA:=methodAssignableTo
 have aE:=assignEE
 have vE:=valueE
 have hal:a.block<w.heap.size:=by
  rcases Nat.lt_or_ge a.block w.heap.size with h | h
  ·exact h
  ·simp[World.cell?,Array.getElem?_eq_none h] at ha
 have htl:t.block<w.heap.size:=by
  rcases Nat.lt_or_ge t.block w.heap.size with h | h
  ·exact h
  ·simp[World.cell?,Array.getElem?_eq_none h] at ht0
 have el:=elemVE a t (w.alloc (rvO 89 a)) (by rw[World.cell?_alloc_lt _ _ a hal];exact ha)
 have st:=setE t ⟨w.heap.size+1,0,none⟩ n old ((w.alloc (rvO 89 a)).alloc (.cells #[.int .i64 n] 40))
  (by rw[World.cell?_alloc_at _ _ _ _ (by simp)];rfl)
  (by rw[World.cell?_alloc_lt _ _ t (by simp;omega),World.cell?_alloc_lt _ _ t htl];exact ht0)
  (by rw[World.frozen?_alloc_old _ _ t (by simp;omega),World.frozen?_alloc_old _ _ t (Nat.ne_of_lt htl)];exact hf0)
 go_enter Go.Proofs.Tryz.func52,Go.Proofs.Tryz.ntmps52
 go_wp2
 refine wp_loop_rounds 1 ?_
 rw[rounds_succ]
 go_wp2
 go_ret
 exact⟨rfl,rfl⟩
end Go.As
namespace Go.As
open Go.RowKit Go.Extern.Stop Go.Stop Go.Extern
abbrev errT:Value:=.iface 153 (.agg #[.pointer (some ⟨1,38,none⟩)])
set_option maxHeartbeats 4000000 in
theorem As_F(d:TypeId)(v:Value)(t:Addr)(w w2:World)(r:Bool)(hg:w.cell? ⟨0,0,none⟩=some errT)
  (h:Calls Go.Proofs.Tryz.prog 52 #[.iface d v,.iface 61 (.pointer (some t)),.agg #[.pointer (some ⟨1,61,none⟩),.pointer (some ⟨w.heap.size,0,none⟩),.int .u64 150],tyF] ((w.alloc (.cells #[.pointer (some t)] 61)).alloc (rvO 61 ⟨w.heap.size,0,none⟩)) fun ev w'=>ev=.returned (.bool r)∧w'=w2) :
  Calls Go.Proofs.Tryz.prog 22 #[.iface d v,.iface 61 (.pointer (some t))] w fun ev w'=>ev=.returned (.bool r)∧w'=w2:=by
 have hV:=@run_callFunc_extern Go.Proofs.Tryz.prog 49 _ (fun args=>ReflectliteValue.unpack (args.getD 0 (.tuple #[]))) Go.Proofs.Tryz.func49 (by kernel_rfl) (by kernel_rfl) (by kernel_rfl) (by kernel_rfl)
 have hT:=@run_callFunc_extern Go.Proofs.Tryz.prog 50 _ (ReflectliteValue.methodAny (ReflectliteValue.valueError "reflectlite.Value.Type" 0) (fun t _ _ _=>ReflectliteType.toType t)) Go.Proofs.Tryz.func50 (by kernel_rfl) (by kernel_rfl) (by kernel_rfl) (by kernel_rfl)
 have hN:=@run_callFunc_extern Go.Proofs.Tryz.prog 51 _ (ReflectliteValue.method (ReflectliteValue.valueError "reflectlite.Value.IsNil" 0) ReflectliteValue.isNil) Go.Proofs.Tryz.func51 (by kernel_rfl) (by kernel_rfl) (by kernel_rfl) (by kernel_rfl)
 have hK:=@run_callFunc_extern Go.Proofs.Tryz.prog 178 _ (ReflectliteType.abiMethod fun t=>do pure (.int .u8 (←Rtype.kind t))) Go.Proofs.Tryz.func178 (by kernel_rfl) (by kernel_rfl) (by kernel_rfl) (by kernel_rfl)
 have hE:=@run_callFunc_extern Go.Proofs.Tryz.prog 190 _ (ReflectliteType.method ReflectliteType.elem) Go.Proofs.Tryz.func190 (by kernel_rfl) (by kernel_rfl) (by kernel_rfl) (by kernel_rfl)
 have hI:=@run_callFunc_extern Go.Proofs.Tryz.prog 191 _ (ReflectliteType.relation "Implements" ReflectliteType.implements_) Go.Proofs.Tryz.func191 (by kernel_rfl) (by kernel_rfl) (by kernel_rfl) (by kernel_rfl)
 have f6:=valueOfF
 have f7:=typeF
 have mK:=methodKind
 have mE:=methodElem
 have mI:=methodImplements
 have kP:=kindPF
 have kT:=kindF
 have eT:=elemF
 have iT:=implF
 have n8:=isNilF ⟨w.heap.size,0,none⟩ t ((w.alloc (.cells #[.pointer (some t)] 61)).alloc (rvO 61 ⟨w.heap.size,0,none⟩)) (by simp)
 have hlt:0<w.heap.size:=by
  rcases Nat.eq_zero_or_pos w.heap.size with h0 | h
  ·simp[World.cell?,h0] at hg
  ·exact h
 have hg2:((w.alloc (.cells #[.pointer (some t)] 61)).alloc (rvO 61 ⟨w.heap.size,0,none⟩)).cell? ⟨0,0,none⟩=some errT:=by
  rw[World.cell?_alloc_lt _ _ ⟨0,0,none⟩ (by simp),World.cell?_alloc_lt _ _ ⟨0,0,none⟩ hlt];exact hg
 go_enter Go.Proofs.Tryz.func22,Go.Proofs.Tryz.ntmps22
 go_wp2_with (first | (go_at_call 52;refine h.mono ?_;rintro e w' ⟨rfl,rfl⟩))
 go_ret
 exact⟨rfl,rfl⟩
set_option maxHeartbeats 4000000 in
theorem As_E(d:TypeId)(v:Value)(t:Addr)(w w2:World)(r:Bool)(hg:w.cell? ⟨0,0,none⟩=some errT)
  (h:Calls Go.Proofs.Tryz.prog 52 #[.iface d v,.iface 89 (.pointer (some t)),.agg #[.pointer (some ⟨1,89,none⟩),.pointer (some ⟨w.heap.size,0,none⟩),.int .u64 150],tyE] ((w.alloc (.cells #[.pointer (some t)] 89)).alloc (rvO 89 ⟨w.heap.size,0,none⟩)) fun ev w'=>ev=.returned (.bool r)∧w'=w2) :
  Calls Go.Proofs.Tryz.prog 22 #[.iface d v,.iface 89 (.pointer (some t))] w fun ev w'=>ev=.returned (.bool r)∧w'=w2:=by
 have hV:=@run_callFunc_extern Go.Proofs.Tryz.prog 49 _ (fun args=>ReflectliteValue.unpack (args.getD 0 (.tuple #[]))) Go.Proofs.Tryz.func49 (by kernel_rfl) (by kernel_rfl) (by kernel_rfl) (by kernel_rfl)
 have hT:=@run_callFunc_extern Go.Proofs.Tryz.prog 50 _ (ReflectliteValue.methodAny (ReflectliteValue.valueError "reflectlite.Value.Type" 0) (fun t _ _ _=>ReflectliteType.toType t)) Go.Proofs.Tryz.func50 (by kernel_rfl) (by kernel_rfl) (by kernel_rfl) (by kernel_rfl)
 have hN:=@run_callFunc_extern Go.Proofs.Tryz.prog 51 _ (ReflectliteValue.method (ReflectliteValue.valueError "reflectlite.Value.IsNil" 0) ReflectliteValue.isNil) Go.Proofs.Tryz.func51 (by kernel_rfl) (by kernel_rfl) (by kernel_rfl) (by kernel_rfl)
 have hK:=@run_callFunc_extern Go.Proofs.Tryz.prog 178 _ (ReflectliteType.abiMethod fun t=>do pure (.int .u8 (←Rtype.kind t))) Go.Proofs.Tryz.func178 (by kernel_rfl) (by kernel_rfl) (by kernel_rfl) (by kernel_rfl)
 have hE:=@run_callFunc_extern Go.Proofs.Tryz.prog 190 _ (ReflectliteType.method ReflectliteType.elem) Go.Proofs.Tryz.func190 (by kernel_rfl) (by kernel_rfl) (by kernel_rfl) (by kernel_rfl)
 have hI:=@run_callFunc_extern Go.Proofs.Tryz.prog 191 _ (ReflectliteType.relation "Implements" ReflectliteType.implements_) Go.Proofs.Tryz.func191 (by kernel_rfl) (by kernel_rfl) (by kernel_rfl) (by kernel_rfl)
 have f6:=valueOfE
 have f7:=typeE
 have mK:=methodKind
 have mE:=methodElem
 have mI:=methodImplements
 have kP:=kindPE
 have kT:=kindE
 have eT:=elemE
 have iT:=implE
 have n8:=isNilE ⟨w.heap.size,0,none⟩ t ((w.alloc (.cells #[.pointer (some t)] 89)).alloc (rvO 89 ⟨w.heap.size,0,none⟩)) (by simp)
 have hlt:0<w.heap.size:=by
  rcases Nat.eq_zero_or_pos w.heap.size with h0 | h
  ·simp[World.cell?,h0] at hg
  ·exact h
 have hg2:((w.alloc (.cells #[.pointer (some t)] 89)).alloc (rvO 89 ⟨w.heap.size,0,none⟩)).cell? ⟨0,0,none⟩=some errT:=by
  rw[World.cell?_alloc_lt _ _ ⟨0,0,none⟩ (by simp),World.cell?_alloc_lt _ _ ⟨0,0,none⟩ hlt];exact hg
 go_enter Go.Proofs.Tryz.func22,Go.Proofs.Tryz.ntmps22
 go_wp2_with (first | (go_at_call 52;refine h.mono ?_;rintro e w' ⟨rfl,rfl⟩))
 go_ret
 exact⟨rfl,rfl⟩
end Go.As
namespace Go.As
open Go.RowKit Go.Extern.Stop Go.Stop Go.Extern
open Go.Vc (Sat)
theorem unwrap(b:Nat)(v:Value)(w:World)(he:w.cell? ⟨b,2,none⟩=some v):Calls Go.Proofs.Tryz.prog 183 #[.pointer (some ⟨b,0,none⟩)] w fun ev w'=>ev=.returned v∧w'=w:=by
 go_enter Go.Proofs.Tryz.func183,Go.Proofs.Tryz.ntmps183
 go_wp2
 go_ret
 exact⟨rfl,rfl⟩
set_option maxHeartbeats 4000000 in
theorem as_F1E(b:Nat)(n:Int)(t a:Addr)(old tgt:Value)(w:World)(he:w.cell? ⟨b,2,none⟩=some (.iface 40 (.int .i64 n)))(ha:w.cell? a=some (.pointer (some t)))(ht0:w.cell? t=some old)(hf0:w.frozen? t=false) :
  Calls Go.Proofs.Tryz.prog 52 #[.iface 59 (.pointer (some ⟨b,0,none⟩)),tgt,.agg #[.pointer (some ⟨1,89,none⟩),.pointer (some a),.int .u64 150],tyE] w fun ev w'=>ev=.returned (.bool true) ∧
   w'=((w.alloc (rvO 89 a)).alloc (.cells #[.int .i64 n] 40)).setCell t (.int .i64 n):=by
 have hTO:=@run_callFunc_extern Go.Proofs.Tryz.prog 94 _ ReflectliteType.typeOf Go.Proofs.Tryz.func94 (by kernel_rfl) (by kernel_rfl) (by kernel_rfl) (by kernel_rfl)
 have hA:=@run_callFunc_extern Go.Proofs.Tryz.prog 188 _ (ReflectliteType.relation "AssignableTo" ReflectliteType.assignableTo) Go.Proofs.Tryz.func188 (by kernel_rfl) (by kernel_rfl) (by kernel_rfl) (by kernel_rfl)
 have hVE:=@run_callFunc_extern Go.Proofs.Tryz.prog 95 _ (ReflectliteValue.method (ReflectliteValue.valueError "reflectlite.Value.Elem" 0) ReflectliteValue.elem) Go.Proofs.Tryz.func95 (by kernel_rfl) (by kernel_rfl) (by kernel_rfl) (by kernel_rfl)
 have hS:=@run_callFunc_extern Go.Proofs.Tryz.prog 96 _ ReflectliteValue.set Go.Proofs.Tryz.func96 (by kernel_rfl) (by kernel_rfl) (by kernel_rfl) (by kernel_rfl)
 have hV:=@run_callFunc_extern Go.Proofs.Tryz.prog 49 _ (fun args=>ReflectliteValue.unpack (args.getD 0 (.tuple #[]))) Go.Proofs.Tryz.func49 (by kernel_rfl) (by kernel_rfl) (by kernel_rfl) (by kernel_rfl)
 have tO:=typeOfE
 have tO2:=typeOfF
 have mA:=methodAssignableTo
 have aE:=assignEE
 have aF:=assignFE
 have vE:=valueE
 have t1:=taAsF
 have t2:=taUnF
 have mU:=methodUnwrap
 have hal:a.block<w.heap.size:=by
  rcases Nat.lt_or_ge a.block w.heap.size with h | h
  ·exact h
  ·simp[World.cell?,Array.getElem?_eq_none h] at ha
 have hel:b<w.heap.size:=by
  rcases Nat.lt_or_ge b w.heap.size with h | h
  ·exact h
  ·simp[World.cell?,Array.getElem?_eq_none h] at he
 have htl:t.block<w.heap.size:=by
  rcases Nat.lt_or_ge t.block w.heap.size with h | h
  ·exact h
  ·simp[World.cell?,Array.getElem?_eq_none h] at ht0
 have he1:(w.alloc (rvO 89 a)).cell? ⟨b,2,none⟩=some (.iface 40 (.int .i64 n)):=by rw[World.cell?_alloc_lt _ _ _ hel];exact he
 have el:=elemVE a t (w.alloc (rvO 89 a)) (by rw[World.cell?_alloc_lt _ _ a hal];exact ha)
 have st:=setE t ⟨w.heap.size+1,0,none⟩ n old ((w.alloc (rvO 89 a)).alloc (.cells #[.int .i64 n] 40))
  (by rw[World.cell?_alloc_at _ _ _ _ (by simp)];rfl)
  (by rw[World.cell?_alloc_lt _ _ t (by simp;omega),World.cell?_alloc_lt _ _ t htl];exact ht0)
  (by rw[World.frozen?_alloc_old _ _ t (by simp;omega),World.frozen?_alloc_old _ _ t (Nat.ne_of_lt htl)];exact hf0)
 go_enter Go.Proofs.Tryz.func52,Go.Proofs.Tryz.ntmps52
 go_wp2
 refine wp_loop_rounds 2 ?_
 rw[rounds_succ]
 go_wp2_with (first | (go_at_call 183;refine (unwrap b _ _ he1).mono ?_;rintro e w' ⟨rfl,rfl⟩))
 rw[rounds_succ]
 go_wp2
 go_ret
 exact⟨rfl,rfl⟩
end Go.As
namespace Go.As
open Go.RowKit Go.Extern.Stop Go.Stop Go.Extern
set_option maxHeartbeats 4000000 in
theorem as_F2E(b c:Nat)(n:Int)(t a:Addr)(old tgt:Value)(w:World)(he:w.cell? ⟨b,2,none⟩=some (.iface 59 (.pointer (some ⟨c,0,none⟩))))(hc:w.cell? ⟨c,2,none⟩=some (.iface 40 (.int .i64 n)))(ha:w.cell? a=some (.pointer (some t)))(ht0:w.cell? t=some old)(hf0:w.frozen? t=false) :
  Calls Go.Proofs.Tryz.prog 52 #[.iface 59 (.pointer (some ⟨b,0,none⟩)),tgt,.agg #[.pointer (some ⟨1,89,none⟩),.pointer (some a),.int .u64 150],tyE] w fun ev w'=>ev=.returned (.bool true) ∧
   w'=((w.alloc (rvO 89 a)).alloc (.cells #[.int .i64 n] 40)).setCell t (.int .i64 n):=by
 have hTO:=@run_callFunc_extern Go.Proofs.Tryz.prog 94 _ ReflectliteType.typeOf Go.Proofs.Tryz.func94 (by kernel_rfl) (by kernel_rfl) (by kernel_rfl) (by kernel_rfl)
 have hA:=@run_callFunc_extern Go.Proofs.Tryz.prog 188 _ (ReflectliteType.relation "AssignableTo" ReflectliteType.assignableTo) Go.Proofs.Tryz.func188 (by kernel_rfl) (by kernel_rfl) (by kernel_rfl) (by kernel_rfl)
 have hVE:=@run_callFunc_extern Go.Proofs.Tryz.prog 95 _ (ReflectliteValue.method (ReflectliteValue.valueError "reflectlite.Value.Elem" 0) ReflectliteValue.elem) Go.Proofs.Tryz.func95 (by kernel_rfl) (by kernel_rfl) (by kernel_rfl) (by kernel_rfl)
 have hS:=@run_callFunc_extern Go.Proofs.Tryz.prog 96 _ ReflectliteValue.set Go.Proofs.Tryz.func96 (by kernel_rfl) (by kernel_rfl) (by kernel_rfl) (by kernel_rfl)
 have hV:=@run_callFunc_extern Go.Proofs.Tryz.prog 49 _ (fun args=>ReflectliteValue.unpack (args.getD 0 (.tuple #[]))) Go.Proofs.Tryz.func49 (by kernel_rfl) (by kernel_rfl) (by kernel_rfl) (by kernel_rfl)
 have tO:=typeOfE
 have tO2:=typeOfF
 have mA:=methodAssignableTo
 have aE:=assignEE
 have aF:=assignFE
 have vE:=valueE
 have t1:=taAsF
 have t2:=taUnF
 have mU:=methodUnwrap
 have hal:a.block<w.heap.size:=by
  rcases Nat.lt_or_ge a.block w.heap.size with h | h
  ·exact h
  ·simp[World.cell?,Array.getElem?_eq_none h] at ha
 have hel:b<w.heap.size:=by
  rcases Nat.lt_or_ge b w.heap.size with h | h
  ·exact h
  ·simp[World.cell?,Array.getElem?_eq_none h] at he
 have htl:t.block<w.heap.size:=by
  rcases Nat.lt_or_ge t.block w.heap.size with h | h
  ·exact h
  ·simp[World.cell?,Array.getElem?_eq_none h] at ht0
 have he1:(w.alloc (rvO 89 a)).cell? ⟨b,2,none⟩=some (.iface 59 (.pointer (some ⟨c,0,none⟩))):=by rw[World.cell?_alloc_lt _ _ _ hel];exact he
 have hcl:c<w.heap.size:=by
  rcases Nat.lt_or_ge c w.heap.size with h | h
  ·exact h
  ·simp[World.cell?,Array.getElem?_eq_none h] at hc
 have hc1:(w.alloc (rvO 89 a)).cell? ⟨c,2,none⟩=some (.iface 40 (.int .i64 n)):=by rw[World.cell?_alloc_lt _ _ _ hcl];exact hc
 have el:=elemVE a t (w.alloc (rvO 89 a)) (by rw[World.cell?_alloc_lt _ _ a hal];exact ha)
 have st:=setE t ⟨w.heap.size+1,0,none⟩ n old ((w.alloc (rvO 89 a)).alloc (.cells #[.int .i64 n] 40))
  (by rw[World.cell?_alloc_at _ _ _ _ (by simp)];rfl)
  (by rw[World.cell?_alloc_lt _ _ t (by simp;omega),World.cell?_alloc_lt _ _ t htl];exact ht0)
  (by rw[World.frozen?_alloc_old _ _ t (by simp;omega),World.frozen?_alloc_old _ _ t (Nat.ne_of_lt htl)];exact hf0)
 go_enter Go.Proofs.Tryz.func52,Go.Proofs.Tryz.ntmps52
 go_wp2
 refine wp_loop_rounds 3 ?_
 rw[rounds_succ]
 go_wp2_with (first | (go_at_call 183;refine (unwrap b _ _ he1).mono ?_;rintro e w' ⟨rfl,rfl⟩))
 rw[rounds_succ]
 go_wp2_with (first | (go_at_call 183;refine (unwrap c _ _ hc1).mono ?_;rintro e w' ⟨rfl,rfl⟩))
 rw[rounds_succ]
 go_wp2
 go_ret
 exact⟨rfl,rfl⟩
end Go.As
namespace Go.Lx
open Go.Vc
def Gl(I:Imm):Prop:=∃cs ty fz,I 0=some (.cells cs ty fz)∧cs[0]? = some Go.As.errT
theorem Gl.mono{I J:Imm}(h:Gl I)(hl:Imm.le I J):Gl J:=let ⟨cs,ty,fz,h1,h2⟩:=h;⟨cs,ty,fz,hl.at h1,h2⟩
theorem Gl.cell{I:Imm}{F:Heap}{w:World}(h:Gl I)(hw:Sat I F w):w.cell? ⟨0,0,none⟩=some Go.As.errT:=by
 obtain⟨cs,ty,fz,h1,h2⟩:=h
 have:=hw.imm _ _ h1
 unfold World.cell?
 simp[this,h2]
theorem Gl.of_cell{w:World}(h:w.cell? ⟨0,0,none⟩=some Go.As.errT):Gl (Imm.all w):=by
 unfold World.cell? at h
 split at h
 ·rename_i c ty fz hc
  exact⟨c,ty,fz,hc,by simpa using h⟩
 ·cases h
theorem own_cell{I:Imm}{F:Heap}{w:World}{t ty:Nat}{old:Value}(hw:Sat I ((t,.cells #[old] ty (0,0))::F) w):w.cell? ⟨t,0,none⟩=some old∧w.frozen? ⟨t,0,none⟩=false:=by
 have:=hw.own _ _ (.head _)
 unfold World.cell? World.frozen?
 simp[this]
theorem Flr.cell{I:Imm}{F:Heap}{w:World}{b ty:Nat}{fz:Nat×Nat}{x y z:Value}(h:I b=some (.cells #[x,y,z] ty fz))(hw:Sat I F w):w.cell? ⟨b,2,none⟩=some z:=by
 have:=hw.imm _ _ h
 unfold World.cell?
 simp[this]
theorem alloc_lt{w:World}{o o':Obj}{a:Addr}{v:Value}(h:w.cell? a=some v):((w.alloc o).alloc o').cell? a=some v:=by
 have hl:a.block<w.heap.size:=by
  rcases Nat.lt_or_ge a.block w.heap.size with h1 | h1
  ·exact h1
  ·simp[World.cell?,Array.getElem?_eq_none h1] at h
 rw[World.cell?_alloc_lt _ _ _ (by simp;omega),World.cell?_alloc_lt _ _ _ hl];exact h
theorem frozen_lt{w:World}{o o':Obj}{a:Addr}{v:Value}(h:w.cell? a=some v)(hf:w.frozen? a=false):((w.alloc o).alloc o').frozen? a=false:=by
 have hl:a.block<w.heap.size:=by
  rcases Nat.lt_or_ge a.block w.heap.size with h1 | h1
  ·exact h1
  ·simp[World.cell?,Array.getElem?_eq_none h1] at h
 rw[World.frozen?_alloc_old _ _ _ (by simp;omega),World.frozen?_alloc_old _ _ _ (Nat.ne_of_lt hl)];exact hf
end Go.Lx
namespace Go.Vc
theorem Sat.allocW{I:Imm}{F:Heap}{w:World}(h:Sat I F w)(o:Obj):Sat I F (w.alloc o):=(h.alloc o).drop (A:=[_])
theorem Sat.setW{I:Imm}{F:Heap}{w:World}{t ty:Nat}{old v:Value}(h:Sat I ((t,.cells #[old] ty (0,0))::F) w):Sat I ((t,.cells #[v] ty (0,0))::F) (w.setCell ⟨t,0,none⟩ v) :=
 Sat.set h (setCell_heap (cs:=[old]) (h.own _ _ (.head _)) 0 v) ⟨rfl,rfl⟩
end Go.Vc
namespace Go.Lx
open Go.Vc
def AsQ(r:Bool)(G:Heap)(e:Ending)(I:Imm)(F:Heap):Prop:=e=.returned (.bool r)∧F=G
section
variable {I:Imm} {F:Heap} {t ty:Nat} {old:Value}
theorem As_hitF(hg:Gl I)(b:Nat):Tri P 22 #[.iface 59 (.pointer (some ⟨b,0,none⟩)),.iface 61 (.pointer (some ⟨t,0,none⟩))] I ((t,.cells #[old] ty (0,0))::F) (AsQ true ((t,.cells #[.pointer (some ⟨b,0,none⟩)] ty (0,0))::F)):=fun w hw=>by
 obtain⟨hc,hf⟩:=own_cell hw
 refine (Go.As.As_F _ _ _ w _ true (hg.cell hw) (Go.As.as_FF ⟨b,0,none⟩ ⟨t,0,none⟩ ⟨w.heap.size,0,none⟩ old _ _ (by simp) (alloc_lt hc) (frozen_lt hc hf))).mono fun e w' ⟨he,hw'⟩=>⟨I,_,Imm.le_refl I, ?_,he,rfl⟩
 rw[hw']
 exact Sat.setW ((((hw.allocW _).allocW _).allocW _).allocW _)
theorem As_noF(hg:Gl I)(n:Int):Tri P 22 #[errno n,.iface 61 (.pointer (some ⟨t,0,none⟩))] I F (AsQ false F):=fun w hw=>by
 refine (Go.As.As_F _ _ _ w _ false (hg.cell hw) (Go.As.as_EF n ⟨w.heap.size,0,none⟩ _ _)).mono fun e w' ⟨he,hw'⟩=>⟨I,_,Imm.le_refl I, ?_,he,rfl⟩
 rw[hw']
 exact ((hw.allocW _).allocW _).allocW _
theorem As_E0(hg:Gl I)(n:Int):Tri P 22 #[errno n,.iface 89 (.pointer (some ⟨t,0,none⟩))] I ((t,.cells #[old] ty (0,0))::F) (AsQ true ((t,.cells #[.int .i64 n] ty (0,0))::F)):=fun w hw=>by
 obtain⟨hc,hf⟩:=own_cell hw
 refine (Go.As.As_E _ _ _ w _ true (hg.cell hw) (Go.As.as_EE n ⟨t,0,none⟩ ⟨w.heap.size,0,none⟩ old _ _ (by simp) (alloc_lt hc) (frozen_lt hc hf))).mono fun e w' ⟨he,hw'⟩=>⟨I,_,Imm.le_refl I, ?_,he,rfl⟩
 rw[hw']
 exact Sat.setW ((((hw.allocW _).allocW _).allocW _).allocW _)
theorem As_E1(hg:Gl I){call:ByteArray}{pos n:Int}{v:Value}(h:Flr I call pos (errno n) v):Tri P 22 #[v,.iface 89 (.pointer (some ⟨t,0,none⟩))] I ((t,.cells #[old] ty (0,0))::F) (AsQ true ((t,.cells #[.int .i64 n] ty (0,0))::F)):=fun w hw=>by
 obtain⟨b,rfl,hb⟩:=h
 obtain⟨hc,hf⟩:=own_cell hw
 refine (Go.As.As_E _ _ _ w _ true (hg.cell hw) (Go.As.as_F1E b n ⟨t,0,none⟩ ⟨w.heap.size,0,none⟩ old _ _ (alloc_lt (Flr.cell hb hw)) (by simp) (alloc_lt hc) (frozen_lt hc hf))).mono fun e w' ⟨he,hw'⟩=>⟨I,_,Imm.le_refl I, ?_,he,rfl⟩
 rw[hw']
 exact Sat.setW ((((hw.allocW _).allocW _).allocW _).allocW _)
theorem As_E2(hg:Gl I){call call':ByteArray}{pos pos' n:Int}{v u:Value}(h:Flr I call pos u v)(h':Flr I call' pos' (errno n) u):Tri P 22 #[v,.iface 89 (.pointer (some ⟨t,0,none⟩))] I ((t,.cells #[old] ty (0,0))::F) (AsQ true ((t,.cells #[.int .i64 n] ty (0,0))::F)):=fun w hw=>by
 obtain⟨b,rfl,hb⟩:=h
 obtain⟨c,rfl,hc'⟩:=h'
 obtain⟨hc,hf⟩:=own_cell hw
 refine (Go.As.As_E _ _ _ w _ true (hg.cell hw) (Go.As.as_F2E b c n ⟨t,0,none⟩ ⟨w.heap.size,0,none⟩ old _ _ (alloc_lt (Flr.cell hb hw)) (alloc_lt (Flr.cell hc' hw)) (by simp) (alloc_lt hc) (frozen_lt hc hf))).mono fun e w' ⟨he,hw'⟩=>⟨I,_,Imm.le_refl I, ?_,he,rfl⟩
 rw[hw']
 exact Sat.setW ((((hw.allocW _).allocW _).allocW _).allocW _)
end
def ChkE(I:Imm)(f:TF)(v:Value):Prop :=
 (f.e=0→v=.nilIface)∧(f.e≠0→if f.of then ∃u,Flr I callOf f.pos (errno f.e) u∧Flr I callCheck f.pos u v else Flr I callCheck f.pos (errno f.e) v)
theorem ChkE.mono{I J:Imm}{f:TF}{w:Value}(h:ChkE I f w)(hl:Imm.le I J):ChkE J f w:=⟨h.1,fun he=>by
 have:=h.2 he
 split at this
 ·rename_i hof;rw[if_pos hof];obtain⟨u,h1,h2⟩:=this;exact⟨u,h1.mono hl,h2.mono hl⟩
 ·rename_i hof;rw[if_neg hof];exact this.mono hl⟩
theorem ChkE.ok{I:Imm}:ChkE I zTF .nilIface:=⟨fun _=>rfl,fun h=>absurd rfl h⟩
theorem ChkE.neq{I:Imm}{f:TF}{w:Value}(h:ChkE I f w){t:TypeId}(ht:ifaceT P t=true){x:Operand}:BinRun P .neq t x (.const .nilIface) w .nilIface (f.e != 0):=by
 by_cases he:f.e=0
 ·rw[h.1 he,he];exact nil_nil ht
 ·have h2:=h.2 he
  rw[show (f.e != 0)=true by simpa using he]
  split at h2
  ·obtain⟨u,_,b,hw,_⟩:=h2;rw[hw];exact some_nil ht
  ·obtain⟨b,hw,_⟩:=h2;rw[hw];exact some_nil ht
theorem refused_no{I:Imm}(hg:Gl I)(pos n:Int)(hn:n≠0)(F:Heap):Tri P 32 #[.int .i64 pos,errno n] I F (RetV (fun v J=>ChkE J ⟨n,pos,false⟩ v) F):=by
 refine Tri.still (types_refused.vc ?_)
 unfold types_refused.V
 intro b_below
 refine (As_noF hg n).mono fun e I1 G l1 ⟨he,hG⟩=>?_
 subst hG
 refine⟨false,he,_,.refl _,fun h=>(by cases h),fun _ b1=>⟨_,[_,_],rfl,.refl _,fun J hJ hx=>⟨fun h=>absurd h hn,fun _=>?_⟩⟩⟩
 rw[if_neg (by simp)]
 exact⟨b1,rfl,hx _ (.head _)⟩
theorem refused_of{I:Imm}(hg:Gl I)(pos0 pos n:Int)(hn:n≠0){u:Value}(hu:Flr I callOf pos (errno n) u)(F:Heap):Tri P 32 #[.int .i64 pos0,u] I F (RetV (fun v J=>ChkE J ⟨n,pos,true⟩ v) F):=by
 obtain⟨b,rfl,hb⟩:=hu
 refine Tri.still (types_refused.vc ?_)
 unfold types_refused.V
 intro b_below
 refine (As_hitF hg b).mono fun e I1 G l1 ⟨he,hG⟩=>?_
 subst hG
 refine⟨true,he,_,.refl _,fun _=>⟨some ⟨b,0,none⟩,Rd.of_own (.head _) 0 (fun j hj=>?_),⟨b,0,none⟩,rfl,pos, ?_,fun b1=>⟨_,[_,_],rfl,.refl _,fun J hJ hx=>⟨fun h=>absurd h hn,fun _=>?_⟩⟩⟩,fun h=>(by cases h)⟩
 ·have:j=0:=by simpa using hj
  subst this;rfl
 ·rw[addr0]
  exact Rd.of_imm (l1.at hb) _ 1 fun j hj=>by
   have:j=0:=by simpa using hj
   subst this;rfl
 ·rw[if_pos rfl]
  exact⟨_,⟨b,rfl,hJ.at (l1.at hb)⟩,b1,rfl,hx _ (.head _)⟩
end Go.Lx
namespace Go.Lx
open Go.Vc
theorem firstG_old{l:List RegP}{r:RegP}{t:Int}(h:firstG l r.name=some t)(k:ByteArray):firstG (l++[r]) k=firstG l k:=by
 rw[firstG_snoc]
 cases hk:firstG l k with
 | some t=>rfl
 | none =>
   show (if k=r.name then some r.typ else none)=none
   rw[if_neg]
   intro e;subst e;rw[hk] at h;cases h
theorem firstG_new{l:List RegP}{r:RegP}(h:firstG l r.name=none)(k:ByteArray):firstG (l++[r]) k=putG (firstG l) r.name r.typ k:=by
 rw[firstG_snoc]
 unfold putG
 by_cases e:k=r.name
 ·subst e;rw[h,if_pos rfl]
 ·rw[if_neg e,if_neg e]
  cases hk:firstG l k<;>rfl
def scO(m0 m1 m2:Nat):Obj:=.cells #[.map (some m0),.map (some m1),.map (some m2)] 126 (0,0)
def RegsQ(s:StgN)(F:Heap)(e:Ending)(I:Imm)(G:Heap):Prop:=∃c m1 m2,e=.returned (.pointer (some ⟨c,0,none⟩))∧Scp I c s.p m1 m2∧G=(m1,.map #[] 0)::(m2,.map #[] 0)::F
theorem pmS{α:Type}{a b c d:α}{l:List α}:(a::b::(c::d::l)).Perm (c::d::(a::b::l)):=List.perm_append_comm_assoc [a,b] [c,d] l
theorem registers_spec(s:StgN)(hl:s.regs.length≤1048576)(I:Imm)(F:Heap)(hok:s.Ok I F):Tri P 33 #[s.v] I F (RegsQ s F):=by
 refine Tri.keep (Q:=fun e I' G=>∃c m0 m1 m2 es ck,e=.returned (.pointer (some ⟨c,0,none⟩))∧MapG Value.string (Value.int .u8) (firstG s.p.regs) es ck∧G.Perm ((m0,.map es ck)::(c,scO m0 m1 m2)::(m1,.map #[] 0)::(m2,.map #[] 0)::F)) ?_ fun e I' G w hl hs ⟨c,m0,m1,m2,es,ck,he,hg,hp⟩=>by
  obtain⟨J,g1,g2,g3⟩:=Sat.still [_,_] (hs.perm hp)
  exact⟨J,_,g1,g3,c,m1,m2,he,⟨m0,es,ck,g2 _ (.tail _ (.head _)),g2 _ (.head _),hg⟩,rfl⟩
 refine types_registers.vc (fun sA cA i m I0 F0 I' F'=>0≤i∧i≤s.regs.length∧m=(s.regs.length-i).toNat∧∃c m0 m1 m2 es ck,cA=some (⟨c,0,none⟩:Addr)∧MapG Value.string (Value.int .u8) (firstG (s.p.regs.take i.toNat)) es ck∧F'.Perm ((m0,.map es ck)::(c,scO m0 m1 m2)::(m1,.map #[] 0)::(m2,.map #[] 0)::F)) ?_
 unfold types_registers.V
 intro b_s
 refine TriE.mono makeMap_spec fun v I1 G h1 ⟨r,hv,hI,hG⟩=>?_
 subst hI hG
 refine⟨some r,hv,(r,.map #[] 0)::F,.swap .., ?_⟩
 refine TriE.mono makeMap_spec fun v1 I1 G h1 ⟨r1,hv1,hI,hG⟩=>?_
 subst hI hG
 refine⟨some r1,hv1,(r1,.map #[] 0)::(r,.map #[] 0)::F,.swap .., ?_⟩
 refine TriE.mono makeMap_spec fun v2 I1 G h1 ⟨r2,hv2,hI,hG⟩=>?_
 subst hI hG
 refine⟨some r2,hv2,(r2,.map #[] 0)::(r1,.map #[] 0)::(r,.map #[] 0)::F,.swap .., ?_⟩
 intro b
 refine⟨⟨_,by omega,by omega,rfl,b,r,r1,r2,_,_,rfl,MapG.nil 0, ?_⟩,fun i m I2 F2 l2 ⟨g0,g1,gm,c,m0,m1,m2,es,ck,hc,hg,hp⟩=>?_⟩
 ·exact pm3.trans (((List.Perm.swap ..).cons _).cons _)
 obtain rfl:b=c:=by simpa using hc
 have hok1:s.Ok I2 F2:=hok.mono l2 fun y hy=>hp.mem_iff.2 (.tail _ (.tail _ (.tail _ (.tail _ hy))))
 refine⟨fun hlt=>?_,fun hlt=>?_⟩
 ·have hlt:=of_decide_eq_true hlt
  obtain⟨ad,g,had,hg1,hrd,hgm⟩:=SlG.atm (hok1.cons (x:=(b_s,Obj.cells #[.string s.name,.slice s.ra s.regs.length s.rc,.slice s.sa s.slots.length s.sc,.slice s.ta s.states.length s.tc] 26 (0,0)))).regs g0 hlt
  refine⟨⟨g0,hlt⟩,ad,had,_,_,_,_,_,_,_,_,_,_,_,_,_,hrd,fun b_r=>?_⟩
  have hmc:∀(x y:Nat×Obj),(b,scO m0 m1 m2)∈x::y::F2:=fun x y=>.tail _ (.tail _ (hp.mem_iff.2 (.tail _ (.head _))))
  have hm0:∀(x y:Nat×Obj),(m0,Obj.map es ck)∈x::y::F2:=fun x y=>.tail _ (.tail _ (hp.mem_iff.2 (.head _)))
  have hrdm:∀(J:Imm) (x y:Nat×Obj),Rd J (x::y::F2) (⟨b,0,none⟩:Addr) [.map (some m0)]:=fun J x y=>Rd.of_own (hmc x y) 0 fun j hj=>by
   have:j=0:=by simpa using hj
   subst this;rfl
  have hgl:s.p.regs[i.toNat]? = some g.p:=by
   show (s.regs.map RegN.p)[i.toNat]? = _
   rw[List.getElem?_map,hg1];rfl
  have htk:s.p.regs.take (i+1).toNat=s.p.regs.take i.toNat++[g.p]:=by
   rw[show (i+1).toNat=i.toNat+1 by omega,List.take_add_one,hgl];rfl
  refine⟨_,rfl,some m0,hrdm _ _ _, ?_⟩
  refine TriE.mono (lookup_ok mapR strD str_key str_inj zeroR hg (.inr (hm0 _ _)) g.name) fun v3 I3 G h3 ⟨hv3,hI,hG⟩=>?_
  subst hI hG
  refine⟨((firstG (s.p.regs.take i.toNat) g.name).getD 0),(firstG (s.p.regs.take i.toNat) g.name).isSome,by rw[hv3];cases firstG (s.p.regs.take i.toNat) g.name<;>rfl,F2,.refl _,fun hn=>?_,fun hn=>⟨(s.regs.length-(i+1)).toNat,by omega, ?_⟩⟩
  ·have hn:firstG (s.p.regs.take i.toNat) g.name=none:=by simpa using hn
   refine⟨_,rfl,some m0,hrdm _ _ _, ?_⟩
   refine TriU.perm (TriU.mono (update_spec mapR strD str_key str_inj hg g.name g.typ (F:=(b_s,Obj.cells #[.string s.name,.slice s.ra s.regs.length s.rc,.slice s.sa s.slots.length s.sc,.slice s.ta s.states.length s.tc] 26 (0,0))::(b_r,.cells g.enc.toArray 68 (0,0))::(b,scO m0 m1 m2)::(m1,.map #[] 0)::(m2,.map #[] 0)::F)) fun I4 G h4 ⟨hI,es',c',hG,hg'⟩=>?_) (((hp.cons _).cons _).trans pm2)
   subst hI hG
   refine⟨(m0,.map es' c')::(b,scO m0 m1 m2)::(m1,.map #[] 0)::(m2,.map #[] 0)::F,pm2.symm,(s.regs.length-(i+1)).toNat,by omega, ?_⟩
   rw[w64 (n:=i+1) (by omega)]
   refine⟨by omega,by omega,rfl,b,m0,m1,m2,es',c',rfl, ?_,.refl _⟩
   rw[htk]
   exact hg'.congr fun k=>(firstG_new (r:=g.p) hn k).symm
  ·obtain⟨t,hn⟩:∃t,firstG (s.p.regs.take i.toNat) g.name=some t:=by
    cases h:firstG (s.p.regs.take i.toNat) g.name with
    | none=>rw[h] at hn;cases hn
    | some t=>exact⟨t,rfl⟩
   rw[w64 (n:=i+1) (by omega)]
   refine⟨by omega,by omega,rfl,b,m0,m1,m2,es,ck,rfl, ?_,hp⟩
   rw[htk]
   exact hg.congr fun k=>(firstG_old (r:=g.p) hn k).symm
 ·have hlt:=of_decide_eq_false hlt
  refine⟨b,m0,m1,m2,es,ck,rfl, ?_,hp⟩
  rw[List.take_of_length_le (by show (s.regs.map RegN.p).length≤_;rw[List.length_map];omega)] at hg
  exact hg
theorem pOf_specB(s:StgN)(hl:s.regs.length≤1048576)(t:Nd)(hs:t.px.size≤4194304)(I:Imm)(F:Heap)(hok:s.Ok I F)(ht:NdOk I F t) :
  Tri P 19 #[s.v,t.v] I F (RetV (OfV (typeOf s.p t.px)) F):=by
 refine Tri.still (types_Of.vc ?_)
 unfold types_Of.V
 unfold typeOf
 intro b_s b_n
 refine Tri.ret (checkExpr_specB t hs I _ (ht.mono (Imm.le_refl I) fun y hy=>.tail _ (.tail _ hy))) fun I1 l1=>⟨_,rfl,F,.refl _,fun h=>?_,fun h=>?_⟩
 ·have h:t.px.checkE≠0:=by simpa using h
  rw[if_pos h]
  intro b
  refine⟨_,[_],rfl,.refl _,fun J hJ hx=>⟨_,rfl,fun he=>absurd he h,fun _=>⟨b,rfl,hx _ (.head _)⟩⟩⟩
 ·have h:t.px.checkE=0:=by simpa using h
  rw[if_neg (by simpa using h)]
  refine (registers_spec s hl I1 _ (hok.mono l1 fun y hy=>.tail _ (.tail _ hy))).mono fun e I2 G l2 ⟨c,m1,m2,he,hS,hG⟩=>?_
  subst hG
  refine⟨_,he,(m1,.map #[] 0)::(m2,.map #[] 0)::F,pmS, ?_⟩
  refine Tri.retV (of_spec t (checkE_formed h) I2 _ hS (ht.mono (Imm.le_trans l1 l2) fun y hy=>.tail _ (.tail _ (.tail _ (.tail _ hy))))) fun v I3 l3 ⟨w,hv,hw⟩=>?_
  exact⟨_,_,congrArg Ending.returned hv,_,.refl _,_,[_,_],rfl,.refl _,fun J hJ hx=>⟨w,rfl,hw.mono hJ⟩⟩
theorem pOf_spec(s:StgN)(hl:s.regs.length≤1048576)(t:Nd)(hs:t.px.size≤1048576)(I:Imm)(F:Heap)(hok:s.Ok I F)(ht:NdOk I F t) :
  Tri P 19 #[s.v,t.v] I F (RetV (OfV (typeOf s.p t.px)) F):=pOf_specB s hl t (by omega) I F hok ht
end Go.Lx
namespace Go.Lx
open Go.Vc
theorem has_ix(nm:ByteArray):∀(l:List ByteArray) (i:Nat) (j:Int),l[i]? = some nm→(ixF nm l j<j+i↔hasS (l.take i) nm=true)∧0≤ixF nm l j-j
 | [],i,j,h=>by simp at h
 | x::l,0,j,h=>by
   simp only[List.getElem?_cons_zero,Option.some.injEq] at h
   subst h
   rw[ixF,if_pos (by simp)]
   refine⟨⟨fun h=>by omega,fun h=>by simp[hasS] at h⟩,by omega⟩
 | x::l,i+1,j,h=>by
   rw[ixF]
   have ih:=has_ix nm l i (j+1) (by simpa using h)
   by_cases hx:(x.toList==nm.toList)=true
   ·rw[if_pos hx]
    have:=bytes_eq.1 hx
    subst this
    refine⟨⟨fun _=>by simp[hasS],fun _=>by omega⟩,by omega⟩
   ·rw[if_neg hx]
    have hne:¬x=nm:=fun e=>hx (bytes_eq.2 e)
    refine⟨?_,by omega⟩
    rw[List.take_succ_cons]
    have e:hasS (x::l.take i) nm=hasS (l.take i) nm:=by
     unfold hasS;rw[List.any_cons,decide_eq_false hne,Bool.false_or]
    rw[e,←ih.1]
    constructor<;>intro h<;>omega
theorem ix_none(nm:ByteArray):∀(l:List ByteArray) (j:Int),0≤j→(ixF nm l j<0↔hasS l nm=false)
 | [],j,h=>by rw[ixF];simp[hasS]
 | x::l,j,h=>by
   rw[ixF]
   by_cases hx:(x.toList==nm.toList)=true
   ·rw[if_pos hx]
    have:=bytes_eq.1 hx
    subst this
    refine⟨fun h=>by omega,fun h=>by simp[hasS] at h⟩
   ·rw[if_neg hx,ix_none nm l (j+1) (by omega)]
    have hne:¬x=nm:=fun e=>hx (bytes_eq.2 e)
    unfold hasS;rw[List.any_cons,decide_eq_false hne,Bool.false_or]
def Cnt(l:List ByteArray)(k:Nat)(o:Obj):Prop:=∃es ck g,o=.map es ck∧MapG Value.string (Value.int .i64) g es ck∧Met l k g
theorem Cnt.nil:Cnt [] 0 (.map #[] 0):=⟨_,_,_,rfl,MapG.nil 0,Met.nil⟩
def cntN(l:List ByteArray)(i:Nat)(nm:ByteArray)(c:Int):Prop:=1≤c∧c≤i+1∧(1<c↔hasS (l.take i) nm=true)
theorem Met.step{l:List ByteArray}{i:Nat}{g:ByteArray→Option Int}{nm:ByteArray}(h:Met (l.take i) i g)(hl:l[i]? = some nm) :
  Met (l.take (i+1)) (i+1) (putG g nm ((g nm).getD 0+1))∧cntN l i nm ((g nm).getD 0+1):=by
 have htk:l.take (i+1)=l.take i++[nm]:=by rw[List.take_add_one,hl];rfl
 by_cases hs:hasS (l.take i) nm=true
 ·obtain⟨m,h1,h2,h3⟩:=(h nm).1 hs
  rw[h1]
  refine⟨?_, ?_, ?_, ?_⟩
  ·intro s
   have:=(h.more hs h2 h3) s
   rw[htk]
   have e:hasS (l.take i++[nm]) s=hasS (l.take i) s:=by
    unfold hasS at hs ⊢;rw[List.any_append]
    by_cases hsn:nm=s
    ·subst hsn;rw[hs];rfl
    ·simp[hsn]
   rw[e];exact this
  ·show 1≤m+1;omega
  ·show m+1≤i+1;omega
  ·exact⟨fun _=>hs,fun _=>by show 1<m+1;omega⟩
 ·have hs:hasS (l.take i) nm=false:=by simpa using hs
  have h1:=(h nm).2 hs
  rw[h1]
  refine⟨?_, ?_, ?_, ?_⟩
  ·rw[htk];exact h.new
  ·show (1:Int)≤0+1;omega
  ·show (0:Int)+1≤i+1;omega
  ·rw[hs];exact⟨fun h=>by simp at h,fun h=>by cases h⟩
section
variable {I:Imm} {l:List ByteArray} {i:Nat} {nm:ByteArray} {o:Obj} {m:Nat} {G R:Heap}
theorem cnt_get(hc:Cnt (l.take i) i o)(hl:l[i]? = some nm)(hi:i≤1048576)(hm:(m,o)∈G):TriE P (Instr.lookup 124 (.map (some m)) (.string nm) false) I G fun v I' G'=>∃r:Int,v=.int .i64 r∧I'=I∧G'=G ∧
  (∀G2,G.Perm ((m,o)::G2)→TriU P (Instr.mapUpdate 124 (.map (some m)) (.string nm) (.int .i64 (IntKind.wrap .i64 (r+1)))) I G fun I' G'=>I'=I∧∃o',Cnt (l.take (i+1)) (i+1) o'∧G'=(m,o')::G2 ∧
   ∀G3,(m,o')∈G3→TriE P (Instr.lookup 124 (.map (some m)) (.string nm) false) I G3 fun v I' G'=>∃c:Int,v=.int .i64 c∧I'=I∧G'=G3∧cntN l i nm c):=by
 obtain⟨es,ck,g,rfl,hg,hmet⟩:=hc
 obtain⟨h1,h2⟩:=hmet.step hl
 refine TriE.mono (lookup_one mapS strD str_key str_inj zeroS hg (.inr hm) nm) fun v I1 G1 hl1 ⟨hv,hI,hG⟩=>⟨(g nm).getD 0, ?_,hI,hG,fun G2 hp=>?_⟩
 ·rw[hv];cases g nm<;>rfl
 ·have hw:IntKind.wrap .i64 ((g nm).getD 0+1)=(g nm).getD 0+1:=w64 (by unfold cntN at h2;omega)
  rw[hw]
  refine TriU.perm (TriU.mono (update_spec mapS strD str_key str_inj hg nm ((g nm).getD 0+1) (F:=G2)) fun I2 G3 hl2 ⟨hI2,es',ck',hG3,hg'⟩=>⟨hI2,_,⟨es',ck',_,rfl,hg',h1⟩,hG3,fun G4 hm4=>?_⟩) hp
  refine TriE.mono (lookup_one mapS strD str_key str_inj zeroS hg' (.inr hm4) nm) fun v3 I3 G5 hl3 ⟨hv3,hI3,hG5⟩=>⟨(g nm).getD 0+1, ?_,hI3,hG5,h2⟩
  rw[hv3];unfold putG;rw[if_pos rfl];rfl
end
section
variable (s:StgN) (hl:s.p.Light) {I:Imm} {F:Heap} (hok:s.Ok I F)
def slotL(s:StgN):List ByteArray:=s.slots.map SlotP.name
def roomL(s:StgN):List ByteArray:=s.states.map StateN.name
def regL(s:StgN):List ByteArray:=s.regs.map RegN.name
def DecQ(s:StgN)(m1 m2:Nat)(F:Heap)(e:Ending)(I:Imm)(G:Heap):Prop:=∃v,e=.returned v∧ChkE I s.p.named v∧∃o1 o2,G=(m1,o1)::(m2,o2)::F∧(s.p.named.e=0→Cnt (slotL s) s.slots.length o1∧Cnt (roomL s) s.states.length o2)
theorem regL_ix(nm:ByteArray):s.p.reg nm=ixF nm (regL s) 0:=by
 unfold StgP.reg regL
 show ixF nm ((s.regs.map RegN.p).map RegP.name) 0=_
 rw[List.map_map];rfl
theorem roomL_ix(nm:ByteArray):s.p.room nm=ixF nm (roomL s) 0:=by
 unfold StgP.room roomL
 show ixF nm ((s.states.map StateN.p).map StateP.name) 0=_
 rw[List.map_map];rfl
end
end Go.Lx
namespace Go.Lx
open Go.Vc
theorem Scp.rd{I:Imm}{c m1 m2:Nat}{s:StgP}(h:Scp I c s m1 m2)(G:Heap):Rd I G ((⟨c,0,none⟩:Addr).add 1) [.map (some m1)]∧Rd I G ((⟨c,0,none⟩:Addr).add 2) [.map (some m2)]:=by
 obtain⟨m0,es,ck,hc,_,_⟩:=h
 rw[addr0,addr0]
 exact⟨Rd.of_imm hc _ 1 fun j hj=>by
  have:j=0:=by simpa using hj
  subst this;rfl,Rd.of_imm hc _ 2 fun j hj=>by
  have:j=0:=by simpa using hj
  subst this;rfl⟩
theorem thenT_n{n p:Int}{b:Bool}(h:n≠0)(x:TF):thenT ⟨n,p,b⟩ x=⟨n,p,b⟩:=thenT_e _ h x
section
variable {s:StgN} (hl:s.p.Thin) {I:Imm} {F:Heap} (hok:s.Ok I F)
include hl hok
theorem declared_spec(hg:Gl I)(hf:∀r∈s.regs,r.init.px.formed=true){c m1 m2:Nat}(hS:Scp I c s.p m1 m2) :
  Tri P 34 #[.pointer (some ⟨c,0,none⟩),s.v] I ((m1,.map #[] 0)::(m2,.map #[] 0)::F) (DecQ s m1 m2 F):=by
 have lr:=hl.regs
 have ls:=hl.slots
 have lt:=hl.states
 simp only[StgN.p,List.length_map] at lr ls lt
 refine Tri.keep (Q:=fun e I' G=>∃v o1 o2 H,e=.returned v∧ChkE I' s.p.named v∧G.Perm ((m1,o1)::(m2,o2)::(H++F))∧(s.p.named.e=0→Cnt (slotL s) s.slots.length o1∧Cnt (roomL s) s.states.length o2)) ?_
  fun e I' G w hl hs ⟨v,o1,o2,H,he,hv,hp,hk⟩=>⟨I',_,Imm.le_refl _,(hs.perm hp).sub (((List.sublist_append_right H F).cons_cons _).cons_cons _),v,he,hv,o1,o2,rfl,hk⟩
 refine types_scope_declared.vc
  (fun r x i m I0 F0 I' F'=>0≤i∧i≤s.regs.length∧m=(s.regs.length-i).toNat∧s.p.named=thenT (namedR s.p (s.p.regs.drop i.toNat) i) (thenT (namedS s.p s.slots 0) (namedT s.p s.p.states 0)) ∧
    ∃r0 o,r=some r0∧Cnt ((regL s).take i.toNat) i.toNat o∧F'.Perm ((r0,o)::(m1,.map #[] 0)::(m2,.map #[] 0)::F))
  (fun x i m I0 F0 I' F'=>0≤i∧i≤s.slots.length∧m=(s.slots.length-i).toNat∧s.p.named=thenT (namedS s.p (s.slots.drop i.toNat) i) (namedT s.p s.p.states 0) ∧
    ∃H o,Cnt ((slotL s).take i.toNat) i.toNat o∧F'.Perm ((m1,o)::(m2,.map #[] 0)::(H++F)))
  (fun x i m I0 F0 I' F'=>0≤i∧i≤s.states.length∧m=(s.states.length-i).toNat∧s.p.named=namedT s.p (s.p.states.drop i.toNat) i ∧
    ∃H o1 o,Cnt (slotL s) s.slots.length o1∧Cnt ((roomL s).take i.toNat) i.toNat o∧F'.Perm ((m1,o1)::(m2,o)::(H++F))) ?_
 unfold types_scope_declared.V
 intro b_s
 refine TriE.mono makeMap_spec fun v I1 G h1 ⟨r,hv,hI,hG⟩=>?_
 subst hI hG
 refine⟨some r,hv,(r,.map #[] 0)::(m1,.map #[] 0)::(m2,.map #[] 0)::F,.swap .., ?_⟩
 refine⟨⟨_,by omega,by omega,rfl,rfl,r,_,rfl,Cnt.nil,.refl _⟩,fun x i m I2 F2 l2 ⟨g0,g1,gm,ge,r',o,hr,hcn,hp⟩=>?_⟩
 obtain rfl:r=r':=by simpa using hr
 refine⟨fun hlt=>?_,fun hlt=>⟨⟨_,by omega,by omega,rfl, ?_,[_],_,Cnt.nil,hp.trans pm2.symm⟩,fun x2 i2 m4 I9 F9 l9 ⟨k0,k1,km,ke,H,o2,kcn,kp⟩=>⟨fun hlt2=>?_,fun hlt2=>⟨⟨_,by omega,by omega,rfl, ?_,H,o2,.map #[] 0, ?_,Cnt.nil,kp⟩,
  fun x4 i3 m9 I14 F14 l14 ⟨q0,q1,qm,qe,H',o1,o3,qs,qcn,qp⟩=>⟨fun hlt3=>?_,fun hlt3=>?_⟩⟩⟩⟩⟩
 ·have hlt:=of_decide_eq_true hlt
  have hok2:∀{J:Imm} (G:Heap),Imm.le I1 J→(∀y,y∈F→y∈G)→s.Ok J G:=fun G hJ h=>hok.mono hJ h
  have hsub2:∀y,y∈F→y∈F2:=fun y hy=>hp.mem_iff.2 (.tail _ (.tail _ (.tail _ hy)))
  obtain⟨ad,g,had,hg1,hrd,hgm⟩:=SlG.atm (hok2 ((b_s,Obj.cells #[.string s.name,.slice s.ra s.regs.length s.rc,.slice s.sa s.slots.length s.sc,.slice s.ta s.states.length s.tc] 26 (0,0))::F2) l2 fun y hy=>.tail _ (hsub2 y hy)).regs g0 hlt
  have hgl:(regL s)[i.toNat]? = some g.name:=by unfold regL;rw[List.getElem?_map,hg1];rfl
  have hgp:s.p.regs[i.toNat]? = some g.p:=by
   show (s.regs.map RegN.p)[i.toNat]? = _
   rw[List.getElem?_map,hg1];rfl
  have hdr:s.p.regs.drop i.toNat=g.p::s.p.regs.drop (i.toNat+1):=by
   obtain⟨h1,h2⟩:=List.getElem?_eq_some_iff.1 hgp
   rw[List.drop_eq_getElem_cons h1,h2]
  rw[hdr,namedR] at ge
  refine⟨⟨g0,hlt⟩,ad,had,_,_,_,_,_,_,_,_,_,_,_,_,_,hrd,fun b_r=>?_⟩
  have hm0:∀(x y:Nat×Obj),(r,o)∈x::y::F2:=fun x y=>.tail _ (.tail _ (hp.mem_iff.2 (.head _)))
  refine TriE.mono (cnt_get hcn hgl (by omega) (hm0 _ _)) fun v1 I3 G hl3 ⟨r1,hv1,hI,hG,hu⟩=>⟨r1,hv1,F2,by rw[hG], ?_⟩
  subst hI hG
  refine TriU.mono (hu _ (((hp.cons _).cons _).trans pm2)) fun I4 G hl4 ⟨hI,o',hcn',hG,hlk⟩=>?_
  subst hI hG
  refine⟨(r,o')::(m1,.map #[] 0)::(m2,.map #[] 0)::F,pm2.symm, ?_⟩
  refine TriE.mono (hlk _ (.tail _ (.tail _ (.head _)))) fun v2 I5 G hl5 ⟨r2,hv2,hI,hG,n1,n2,n3⟩=>?_
  subst hI hG
  have hix:=(has_ix g.name (regL s) i.toNat 0 hgl).1
  rw[←regL_ix,Int.zero_add,Int.toNat_of_nonneg g0] at hix
  have hgI:Gl I5:=hg.mono l2
  refine⟨r2,hv2,(r,o')::(m1,.map #[] 0)::(m2,.map #[] 0)::F,.refl _,fun h2=>?_,fun h2=>?_⟩
  ·have h2:=of_decide_eq_true h2
   rw[if_pos (show s.p.reg g.p.name<i from hix.2 (n3.1 h2)),thenT_n (n:=150) (by decide)] at ge
   refine Tri.retV (refused_no hgI g.pos 150 (by decide) _) fun v I6 l6 hv=>⟨v,rfl,_,.refl _,v,_,_,[_],rfl, ?_,pm2.symm,fun h=>?_⟩
   ·rw[ge];exact hv
   ·rw[ge] at h;exact absurd h (show (150:Int)≠0 by decide)
  ·have h2:=of_decide_eq_false h2
   rw[if_neg (show ¬s.p.reg g.p.name<i from fun h=>h2 (n3.2 (hix.1 h)))] at ge
   refine Tri.retV (of_spec g.init (hf g hgm) I5 _ (hS.mono l2) (NdOk.mono (hok.reg _ hgm) l2 fun y hy=>.tail _ (.tail _ (.tail _ (.tail _ (.tail _ hy)))))) fun v I7 l7 ⟨w,hv,hw⟩=>⟨_,_,congrArg Ending.returned hv,_,.refl _,fun ht=>?_,fun ht=>?_⟩
   ·have ht:(typed s.p g.init.px).1≠g.typ:=by simpa using ht
    rw[if_pos (show (typed s.p g.p.init).1≠g.p.typ from ht),thenT_n (n:=152) (by decide)] at ge
    refine Tri.retV (refused_no (hgI.mono l7) g.pos 152 (by decide) _) fun v I8 l8 hv=>⟨v,rfl,_,.refl _,v,_,_,[_],rfl, ?_,pm2.symm,fun h=>?_⟩
    ·rw[ge];exact hv
    ·rw[ge] at h;exact absurd h (show (152:Int)≠0 by decide)
   ·have ht:(typed s.p g.init.px).1=g.typ:=by simpa using ht
    rw[if_neg (show ¬(typed s.p g.p.init).1≠g.p.typ from fun h=>h ht)] at ge
    refine⟨(s.regs.length-(i+1)).toNat,by omega, ?_⟩
    rw[w64 (n:=i+1) (by omega)]
    refine⟨by omega,by omega,rfl, ?_,r,o',rfl, ?_,.refl _⟩
    ·rw[ge,show (i+1).toNat=i.toNat+1 by omega]
    ·rw[show (i+1).toNat=i.toNat+1 by omega];exact hcn'
 ·have hlt:=of_decide_eq_false hlt
  rw[ge,List.drop_eq_nil_of_le (by show (s.regs.map RegN.p).length≤_;rw[List.length_map];omega)];rfl
 ·have hlt2:=of_decide_eq_true hlt2
  have l29:=Imm.le_trans l2 l9
  have hsub2:∀y,y∈F→y∈F9:=fun y hy=>kp.mem_iff.2 (.tail _ (.tail _ (List.mem_append_right _ hy)))
  obtain⟨ad,g,had,hg1,hrd,hgm⟩:=SlG.atm (hok.mono (H:=(b_s,Obj.cells #[.string s.name,.slice s.ra s.regs.length s.rc,.slice s.sa s.slots.length s.sc,.slice s.ta s.states.length s.tc] 26 (0,0))::F9) l29 fun y hy=>.tail _ (hsub2 y hy)).slots k0 hlt2
  have hgl:(slotL s)[i2.toNat]? = some g.name:=by unfold slotL;rw[List.getElem?_map,hg1];rfl
  have hdr:s.slots.drop i2.toNat=g::s.slots.drop (i2.toNat+1):=by
   obtain⟨h1,h2⟩:=List.getElem?_eq_some_iff.1 hg1
   rw[List.drop_eq_getElem_cons h1,h2]
  rw[hdr,namedS] at ke
  refine⟨⟨k0,hlt2⟩,ad,had,_,_,hrd,fun b_x=>?_⟩
  have hSJ:=hS.mono l29
  refine⟨_,rfl,some m1,(hSJ.rd _).1, ?_⟩
  have hm0:∀(x y:Nat×Obj),(m1,o2)∈x::y::F9:=fun x y=>.tail _ (.tail _ (kp.mem_iff.2 (.head _)))
  refine TriE.mono (cnt_get kcn hgl (by omega) (hm0 _ _)) fun v1 I3 G hl3 ⟨r1,hv1,hI,hG,hu⟩=>⟨r1,hv1,F9,by rw[hG], ?_⟩
  subst hI hG
  refine TriU.mono (hu _ (((kp.cons _).cons _).trans pm2)) fun I4 G hl4 ⟨hI,o',hcn',hG,hlk⟩=>?_
  subst hI hG
  refine⟨(m1,o')::(m2,.map #[] 0)::(H++F),pm2.symm,_,rfl,some m1,(hSJ.rd _).1, ?_⟩
  refine TriE.mono (hlk _ (.tail _ (.tail _ (.head _)))) fun v2 I5 G hl5 ⟨r2,hv2,hI,hG,n1,n2,n3⟩=>?_
  subst hI hG
  have hix:=(has_ix g.name (slotL s) i2.toNat 0 hgl).1
  rw[show ixF g.name (slotL s) 0=s.p.slot g.name from rfl,Int.zero_add,Int.toNat_of_nonneg k0] at hix
  refine⟨r2,hv2,(m1,o')::(m2,.map #[] 0)::(H++F),.refl _,fun h2=>?_,fun h2=>⟨(s.slots.length-(i2+1)).toNat,by omega, ?_⟩⟩
  ·have h2:=of_decide_eq_true h2
   rw[if_pos (hix.2 (n3.1 h2)),thenT_n (n:=150) (by decide)] at ke
   refine Tri.retV (refused_no (hg.mono l29) g.pos 150 (by decide) _) fun v I6 l6 hv=>⟨v,rfl,_,.refl _,v,_,_,H,rfl, ?_,.refl _,fun h=>?_⟩
   ·rw[ke];exact hv
   ·rw[ke] at h;exact absurd h (show (150:Int)≠0 by decide)
  ·have h2:=of_decide_eq_false h2
   rw[if_neg (fun h=>h2 (n3.2 (hix.1 h)))] at ke
   rw[w64 (n:=i2+1) (by omega)]
   refine⟨by omega,by omega,rfl, ?_,H,o', ?_,.refl _⟩
   ·rw[ke,show (i2+1).toNat=i2.toNat+1 by omega]
   ·rw[show (i2+1).toNat=i2.toNat+1 by omega];exact hcn'
 ·have hlt2:=of_decide_eq_false hlt2
  rw[ke,List.drop_eq_nil_of_le (by omega)];rfl
 ·have hlt2:=of_decide_eq_false hlt2
  rw[List.take_of_length_le (by unfold slotL;rw[List.length_map];omega),show i2.toNat=s.slots.length by omega] at kcn
  exact kcn
 ·have hlt3:=of_decide_eq_true hlt3
  have l29:=Imm.le_trans l2 (Imm.le_trans l9 l14)
  have hsub2:∀y,y∈F→y∈F14:=fun y hy=>qp.mem_iff.2 (.tail _ (.tail _ (List.mem_append_right _ hy)))
  obtain⟨ad,g,had,hg1,hrd,hgm⟩:=SlG.atm (hok.mono (H:=(b_s,Obj.cells #[.string s.name,.slice s.ra s.regs.length s.rc,.slice s.sa s.slots.length s.sc,.slice s.ta s.states.length s.tc] 26 (0,0))::F14) l29 fun y hy=>.tail _ (hsub2 y hy)).states q0 hlt3
  have hgl:(roomL s)[i3.toNat]? = some g.name:=by unfold roomL;rw[List.getElem?_map,hg1];rfl
  have hgp:s.p.states[i3.toNat]? = some g.p:=by
   show (s.states.map StateN.p)[i3.toNat]? = _
   rw[List.getElem?_map,hg1];rfl
  have hdr:s.p.states.drop i3.toNat=g.p::s.p.states.drop (i3.toNat+1):=by
   obtain⟨h1,h2⟩:=List.getElem?_eq_some_iff.1 hgp
   rw[List.drop_eq_getElem_cons h1,h2]
  rw[hdr,namedT] at qe
  refine⟨⟨q0,hlt3⟩,ad,had,_,_,_,_,_,hrd,fun b_x=>?_⟩
  have hSJ:=hS.mono l29
  refine⟨_,rfl,some m2,(hSJ.rd _).2, ?_⟩
  have hm0:∀(x y:Nat×Obj),(m2,o3)∈x::y::F14:=fun x y=>.tail _ (.tail _ (qp.mem_iff.2 (.tail _ (.head _))))
  refine TriE.mono (cnt_get qcn hgl (by omega) (hm0 _ _)) fun v1 I3 G hl3 ⟨r1,hv1,hI,hG,hu⟩=>⟨r1,hv1,F14,by rw[hG], ?_⟩
  subst hI hG
  refine TriU.mono (hu _ (((qp.cons _).cons _).trans pm3)) fun I4 G hl4 ⟨hI,o',hcn',hG,hlk⟩=>?_
  subst hI hG
  refine⟨(m1,o1)::(m2,o')::(H'++F),pm3.symm,_,rfl,some m2,(hSJ.rd _).2, ?_⟩
  refine TriE.mono (hlk _ (.tail _ (.tail _ (.tail _ (.head _))))) fun v2 I5 G hl5 ⟨r2,hv2,hI,hG,n1,n2,n3⟩=>?_
  subst hI hG
  have hix:=(has_ix g.name (roomL s) i3.toNat 0 hgl).1
  rw[←roomL_ix,Int.zero_add,Int.toNat_of_nonneg q0] at hix
  refine⟨r2,hv2,(m1,o1)::(m2,o')::(H'++F),.refl _,fun h2=>?_,fun h2=>⟨(s.states.length-(i3+1)).toNat,by omega, ?_⟩⟩
  ·have h2:=of_decide_eq_true h2
   rw[if_pos (show s.p.room g.p.name<i3 from hix.2 (n3.1 h2))] at qe
   refine Tri.retV (refused_no (hg.mono l29) g.pos 150 (by decide) _) fun v I6 l6 hv=>⟨v,rfl,_,.refl _,v,_,_,H',rfl, ?_,.refl _,fun h=>?_⟩
   ·rw[qe];exact hv
   ·rw[qe] at h;exact absurd h (show (150:Int)≠0 by decide)
  ·have h2:=of_decide_eq_false h2
   rw[if_neg (show ¬s.p.room g.p.name<i3 from fun h=>h2 (n3.2 (hix.1 h)))] at qe
   rw[w64 (n:=i3+1) (by omega)]
   refine⟨by omega,by omega,rfl, ?_,H',o1,o',qs, ?_,.refl _⟩
   ·rw[qe,show (i3+1).toNat=i3.toNat+1 by omega]
   ·rw[show (i3+1).toNat=i3.toNat+1 by omega];exact hcn'
 ·have hlt3:=of_decide_eq_false hlt3
  rw[List.drop_eq_nil_of_le (by show (s.states.map StateN.p).length≤_;rw[List.length_map];omega)] at qe
  rw[List.take_of_length_le (by unfold roomL;rw[List.length_map];omega),show i3.toNat=s.states.length by omega] at qcn
  refine⟨_,o1,o3,H',rfl, ?_,qp,fun _=>⟨qs,qcn⟩⟩
  rw[qe];exact ChkE.ok
end
end Go.Lx
namespace Go.Lx
open Go.Vc
def FltE(f:TF)(v:Value)(J:Imm):Prop:=ChkE J f v
mutual
theorem typed_of(s:StgP):∀x:Px,(typed s x).2.e≠0→(typed s x).2.of=true
 | .mk k o t n f nm l q,h=>by
   rw[typed] at h ⊢
   split
   ·rename_i h1;exact typedL_of s l h1
   ·rename_i h1
    rw[if_neg h1] at h
    unfold nodeE at h ⊢
    split
    ·rfl
    ·rename_i h2
     rw[if_neg h2] at h
     split
     ·rename_i h3;rw[if_pos h3] at h;exact absurd rfl h
     ·rfl
theorem typedL_of(s:StgP):∀l:List Px,(typedL s l).2.e≠0→(typedL s l).2.of=true
 | [],h=>by rw[typedL] at h;exact absurd rfl h
 | x::r,h=>by
   rw[typedL] at h ⊢
   split
   ·rename_i h1;exact typed_of s x h1
   ·rename_i h1;rw[if_neg h1] at h;exact typedL_of s r h
end
theorem typeOf_ok{s:StgP}{x:Px}(h:x.checkE=0):typeOf s x=typed s x:=by
 unfold typeOf
 rw[if_neg (fun h'=>h' h)]
theorem pmust_spec{s:StgN}{c m1 m2:Nat}(t:Nd)(hc:t.px.checkE=0)(want:Int){I:Imm}{F:Heap}(hg:Gl I)(hS:Scp I c s.p m1 m2)(ht:NdOk I F t) :
  Tri P 65 #[.pointer (some ⟨c,0,none⟩),t.v,.int .u8 want] I F (RetV (FltE (mustT s.p t.px want)) F):=by
 refine types_scope_must.vc ?_
 unfold types_scope_must.V
 unfold mustT
 have hf:=checkE_formed hc
 rw[typeOf_ok hc]
 intro b_n
 refine Tri.retV (of_spec t hf I _ hS (ht.mono (Imm.le_refl I) fun y hy=>.tail _ hy)) fun v I1 l1 ⟨w,hv,hw⟩=>⟨_,_,congrArg Ending.returned hv,F,.refl _,_,hw.neq (by kernel_rfl),fun hq=>?_,fun hq=>?_⟩
 ·have he:(typed s.p t.px).2.e≠0:=by simpa using hq
  have hof:=typed_of s.p t.px he
  rw[if_pos he]
  have e:(⟨(typed s.p t.px).2.e,(typed s.p t.px).2.pos,true⟩:TF)=(typed s.p t.px).2:=by rw[←hof]
  refine Tri.retV (refused_of (hg.mono l1) 0 (typed s.p t.px).2.pos (typed s.p t.px).2.e he (hw.2 he) _) fun v2 I2 l2 hv2=>⟨v2,rfl,F,.refl _,v2,rfl, ?_,rfl⟩
  rw[e] at hv2;exact hv2
 ·have he:(typed s.p t.px).2.e=0:=by simpa using hq
  rw[if_neg (fun h=>h he)]
  refine⟨fun hn=>?_,fun hn=>?_⟩
  ·have hn:(typed s.p t.px).1≠want:=by simpa using hn
   rw[if_pos hn,Nd.px_pos]
   exact Tri.retV (refused_no (hg.mono l1) t.pos 152 (by decide) _) fun v2 I2 l2 hv2=>⟨v2,rfl,F,.refl _,v2,rfl,hv2,rfl⟩
  ·have hn:(typed s.p t.px).1=want:=by simpa using hn
   rw[if_neg (fun h=>h hn)]
   exact⟨_,rfl,ChkE.ok,rfl⟩
theorem firstT_hit{α:Type}{f:α→TF}:∀{l:List α} {i:Nat} {x:α},(∀y∈l.take i,(f y).e=0)→l[i]? = some x→(f x).e≠0→firstT f l=f x
 | y::r,0,x,_,hx,he=>by
   simp only[List.getElem?_cons_zero,Option.some.injEq] at hx
   subst hx;rw[firstT,if_pos he]
 | y::r,i+1,x,h,hx,he=>by
   rw[List.take_succ_cons] at h
   rw[firstT,if_neg (by simpa using h y (.head _))]
   exact firstT_hit (fun k hk=>h k (.tail _ hk)) (by simpa using hx) he
theorem firstT_all{α:Type}{f:α→TF}:∀{l:List α},(∀y∈l,(f y).e=0)→firstT f l=zTF
 | [],_=>rfl
 | y::r,h=>by rw[firstT,if_neg (by simpa using h y (.head _))];exact firstT_all fun k hk=>h k (.tail _ hk)
theorem firstT_map{α β:Type}{f:β→TF}{g:α→β}:∀l:List α,firstT f (l.map g)=firstT (fun x=>f (g x)) l
 | []=>rfl
 | x::r=>by rw[List.map_cons,firstT,firstT,firstT_map r]
def ptE(p:Nd×Int):List Value:=[.int .u8 p.1.kind,.int .u8 p.1.oper,.int .u8 p.1.typ,.int .i64 p.1.n,.int .u8 p.1.field,.string p.1.name,.slice p.1.a p.1.kids.length p.1.c,.int .i64 p.1.pos,.int .u8 p.2]
theorem ptE_one(p:Nd×Int):∀u∈ptE p,u.oneCell'=true:=by
 intro u hu
 simp only[ptE,List.mem_cons,List.not_mem_nil,or_false] at hu
 rcases hu with h | h | h | h | h | h | h | h | h<;>(subst h;rfl)
theorem pt_app{a:Option Addr}{n c b1 m:Nat}{l:List (Nd×Int)}{A F R:Heap}{I:Imm}(hA:Acc 9 ptE 178 a n c l A)(hl:l.length≤100)(xs:List (Nd×Int))(hx:xs≠[])(hx2:xs.length≤2)(hm:m=xs.length)
  (hb:I b1=some (.cells (xs.flatMap ptE).toArray 178 (0,0))) (hF:F.Perm (A++R)) :
  TriE P (Builtin.append_ #[176,176] 176 #[.slice a n c,.slice (some ⟨b1,0,none⟩) m m]) I F fun v I' G=>∃a' n' c' A',v=.slice a' n' c'∧Acc 9 ptE 178 a' n' c' (l++xs) A'∧G.Perm (A'++R):=by
 refine TriE.perm (TriE.mono (append_spec' (f:=ptE) (z:=9) (zv:=.agg (ptE (zNd,0)).toArray) (fun _=>rfl) (by':=80) (by kernel_rfl) (by kernel_rfl) rfl (by decide) hA (xs:=xs) (fun y _=>ptE_one y) hx hm ?_ ?_ (F:=R)) fun v I' G _ ⟨a',n',c',A',h1,h2,h3,_⟩=>⟨a',n',c',A',h1,h2,by rw[h3]⟩) hF
 ·exact⟨rfl,_,_,_,.inl hb,fun j hj=>by simp⟩
 ·have:(l.length+xs.length)*80≤102*80:=Nat.mul_le_mul (by omega) (Nat.le_refl _)
  omega
def dparts(d:DoN)(v:Int):List (Nd×Int) :=
 if d.kind=1 then [(d.side,6),(d.qty,2)]++(if d.order≠2 then [(d.price,3)] else []) else if d.kind=2 then [(d.qty,2),(d.price,3)] else if d.kind=4 then [(d.value,v)] else []
theorem dparts_len(d:DoN)(v:Int):(dparts d v).length≤3:=by
 unfold dparts
 split
 ·split<;>simp
 ·split
  ·simp
  ·split<;>simp
theorem doL_parts(s:StgP)(d:DoN):doL s d.p=(dparts d (s.regT (doI s d.p))).map fun p=>mustT s p.1.px p.2:=by
 unfold doL dparts
 show (if d.kind=1 then _ else _)++((if d.kind=1∨d.kind=2 then _ else _)++((if d.kind=1∧d.order≠2∨d.kind=2 then _ else _)++(if d.kind=4 then _ else _)))=_
 by_cases h1:d.kind=1
 ·rw[if_pos h1,if_pos (.inl h1),if_neg (show ¬d.kind=4 by omega),if_pos h1]
  by_cases ho:d.order≠2
  ·rw[if_pos (.inl ⟨h1,ho⟩),if_pos ho];rfl
  ·rw[if_neg (by omega),if_neg ho];rfl
 ·rw[if_neg h1,if_neg h1]
  by_cases h2:d.kind=2
  ·rw[if_pos (.inr h2),if_pos (.inr h2),if_neg (by omega),if_pos h2];rfl
  ·rw[if_neg (by omega),if_neg (by omega),if_neg h2]
   by_cases h4:d.kind=4
   ·rw[if_pos h4,if_pos h4];rfl
   ·rw[if_neg h4,if_neg h4];rfl
def ScA(I:Imm)(c:Nat)(s:StgN):Prop:=∃m1 m2 o1 o2,Scp I c s.p m1 m2∧I m1=some o1∧Cnt (slotL s) s.slots.length o1∧I m2=some o2∧Cnt (roomL s) s.states.length o2
theorem ScA.mono{I J:Imm}{c:Nat}{s:StgN}(h:ScA I c s)(hl:Imm.le I J):ScA J c s:=let ⟨m1,m2,o1,o2,h1,h2,h3,h4,h5⟩:=h;⟨m1,m2,o1,o2,h1.mono hl,hl.at h2,h3,hl.at h4,h5⟩
theorem cnt_has{l:List ByteArray}{k:Nat}{o:Obj}{m:Nat}{I:Imm}{G:Heap}(hc:Cnt l k o)(hm:I m=some o)(nm:ByteArray):TriE P (Instr.lookup 124 (.map (some m)) (.string nm) false) I G fun v I' G'=>∃r:Int,v=.int .i64 r∧I'=I∧G'=G∧decide (r>0)=hasS l nm:=by
 obtain⟨es,ck,g,rfl,hg,hmet⟩:=hc
 refine TriE.mono (lookup_one mapS strD str_key str_inj zeroS hg (.inl hm) nm) fun v I1 G1 hl1 ⟨hv,hI,hG⟩=>⟨(g nm).getD 0, ?_,hI,hG, ?_⟩
 ·rw[hv];cases g nm<;>rfl
 ·cases hs:hasS l nm with
  | true=>obtain⟨x,h1,h2,_⟩:=(hmet nm).1 hs;rw[h1];exact decide_eq_true (by show x>0;omega)
  | false=>rw[(hmet nm).2 hs];rfl
end Go.Lx
namespace Go.Lx
open Go.Vc
def DoN.Fit(d:DoN):Prop:=∀v,∀p∈dparts d v,p.1.px.checkE=0
theorem check_parts{d:DoN}(h:d.p.check=0):d.Fit:=by
 unfold DoP.check at h
 obtain⟨_,h⟩:=thenE_z h
 obtain⟨_,h⟩:=thenE_z h
 obtain⟨_,h⟩:=thenE_z h
 obtain⟨h1,h⟩:=thenE_z h
 obtain⟨h2,h⟩:=thenE_z h
 obtain⟨h3,h4⟩:=thenE_z h
 have e1:d.p.kind=d.kind:=rfl
 have e2:d.p.order=d.order:=rfl
 rw[e1] at h1 h2 h3 h4
 rw[e2] at h3
 have part:∀{b:Bool} {x:Px},partE b x=0→b=true→x.checkE=0:=fun {b} {x} h hb=>by unfold partE at h;rw[if_pos hb] at h;exact h
 intro v p hp
 unfold dparts at hp
 split at hp
 ·rename_i k1
  rcases List.mem_append.1 hp with hp | hp
  ·simp only[List.mem_cons,List.not_mem_nil,or_false] at hp
   rcases hp with rfl | rfl
   ·exact part h1 (decide_eq_true k1)
   ·exact part h2 (decide_eq_true (.inl k1))
  ·split at hp
   ·rename_i ho
    rw[List.mem_singleton] at hp;subst hp
    exact part h3 (decide_eq_true (.inl ⟨k1,ho⟩))
   ·simp at hp
 ·split at hp
  ·rename_i k2
   simp only[List.mem_cons,List.not_mem_nil,or_false] at hp
   rcases hp with rfl | rfl
   ·exact part h2 (decide_eq_true (.inr k2))
   ·exact part h3 (decide_eq_true (.inr k2))
  ·split at hp
   ·rename_i k4
    rw[List.mem_singleton] at hp;subst hp
    exact part h4 (decide_eq_true k4)
   ·simp at hp
theorem dparts_ok{d:DoN}{I:Imm}{G:Heap}(h:d.Ok I G){v:Int}:∀p∈dparts d v,NdOk I G p.1:=by
 obtain⟨o1,o2,o3,o4⟩:=h
 intro p hp
 unfold dparts at hp
 split at hp
 ·rcases List.mem_append.1 hp with hp | hp
  ·simp only[List.mem_cons,List.not_mem_nil,or_false] at hp
   rcases hp with rfl | rfl<;>assumption
  ·split at hp
   ·rw[List.mem_singleton] at hp;subst hp;assumption
   ·simp at hp
 ·split at hp
  ·simp only[List.mem_cons,List.not_mem_nil,or_false] at hp
   rcases hp with rfl | rfl<;>assumption
  ·split at hp
   ·rw[List.mem_singleton] at hp;subst hp;assumption
   ·simp at hp
theorem two_enc{I:Imm}{b:Nat}{p q:Nd×Int}(h:I b=some (.cells (ptE p++ptE q).toArray 178 (0,0))):I b=some (.cells ([p,q].flatMap ptE).toArray 178 (0,0)):=by
 rw[h];simp
section
variable {s:StgN} {I:Imm} {F:Heap} {c:Nat}
theorem slot_has(nm:ByteArray):hasS (slotL s) nm = !decide (s.p.slot nm<0):=by
 have h:=ix_none nm (slotL s) 0 (Int.le_refl 0)
 have e:s.p.slot nm=ixF nm (slotL s) 0:=rfl
 rw[e]
 cases hb:hasS (slotL s) nm with
 | true=>rw[hb] at h;simp at h;simp[h]
 | false=>rw[hb] at h;simp at h;simp[h]
theorem room_has(nm:ByteArray):hasS (roomL s) nm = !decide (s.p.room nm<0):=by
 have h:=ix_none nm (roomL s) 0 (Int.le_refl 0)
 rw[roomL_ix]
 cases hb:hasS (roomL s) nm with
 | true=>rw[hb] at h;simp at h;simp[h]
 | false=>rw[hb] at h;simp at h;simp[h]
set_option maxHeartbeats 1000000 in
theorem pdo_spec(hg:Gl I)(hA:ScA I c s)(d:DoN)(hdo:d.Ok I F)(hfit:d.Fit):Tri P 66 #[.pointer (some ⟨c,0,none⟩),d.v] I F (RetV (FltE (doT s.p d.p)) F):=by
 refine Tri.still ?_
 obtain⟨i0,hi0⟩:∃i0,i0=doI s.p d.p:=⟨_,rfl⟩
 have hI:doI s.p d.p=if d.kind=1 then (if d.name.toList=[] then 0 else s.p.slot d.name) else if d.kind=2∨d.kind=3 then s.p.slot d.name else if d.kind=4 then s.p.reg d.name else if d.kind=5 then s.p.room d.name else 0:=rfl
 obtain⟨ps,hps⟩:∃ps,ps=dparts d (s.p.regT i0):=⟨_,rfl⟩
 have hpl:ps.length≤3:=by rw[hps];exact dparts_len _ _
 have hpd:dparts d (s.p.regT i0)=if d.kind=1 then [(d.side,6),(d.qty,2)]++(if d.order≠2 then [(d.price,3)] else []) else if d.kind=2 then [(d.qty,2),(d.price,3)] else if d.kind=4 then [(d.value,s.p.regT i0)] else []:=rfl
 have hdT:doT s.p d.p=if i0<0 then ⟨151,d.pos,false⟩ else firstT (fun p:Nd×Int=>mustT s.p p.1.px p.2) ps:=by
  unfold doT
  rw[doL_parts,←hi0,←hps,firstT_map];rfl
 refine types_scope_do.vc
  (fun v is a n k I0 F0 I' F'=>is = !decide (i0<0)∧∃A,F'.Perm (A++F)∧(is=true→Acc 9 ptE 178 a n k ps A))
  (fun a n k I0 F0 I' F'=>∃A,F'.Perm (A++F)∧Acc 9 ptE 178 a n k ps A)
  (fun a n k x i m I0 F0 I' F'=>0≤i∧i≤n∧m=(n-i).toNat∧¬i0<0∧∃A,F'.Perm (A++F)∧Acc 9 ptE 178 a n k ps A∧∀p∈ps.take i.toNat,(mustT s.p p.1.px p.2).e=0) ?_
 unfold types_scope_do.V
 intro b_d
 have hsc:∀{J:Imm},Imm.le I J→ScA J c s:=fun h=>hA.mono h
 refine⟨⟨fun h1=>?_,fun h1=>⟨fun h2=>?_,fun h2=>⟨fun h3=>?_,fun h3=>⟨fun h4=>?_,fun h4=>⟨fun h5=>?_,fun h5=>?_⟩⟩⟩⟩⟩,fun v is a n k I15 F11 l15 ⟨his,A,hF11,hAcc⟩=>⟨fun hq=>?_,fun hq=>?_⟩⟩
 ·have h1:d.kind=1:=by simpa using h1
  rw[if_pos h1] at hI hpd
  intro b I1 l1 hb
  have happ:=pt_app (R:=(b_d,Obj.cells #[.int .u8 d.kind,.int .u8 d.order,.string d.name,.int .u8 d.side.kind,.int .u8 d.side.oper,.int .u8 d.side.typ,.int .i64 d.side.n,.int .u8 d.side.field,.string d.side.name,.slice d.side.a d.side.kids.length d.side.c,.int .i64 d.side.pos,.int .u8 d.qty.kind,.int .u8 d.qty.oper,.int .u8 d.qty.typ,.int .i64 d.qty.n,.int .u8 d.qty.field,.string d.qty.name,.slice d.qty.a d.qty.kids.length d.qty.c,.int .i64 d.qty.pos,.int .u8 d.price.kind,.int .u8 d.price.oper,.int .u8 d.price.typ,.int .i64 d.price.n,.int .u8 d.price.field,.string d.price.name,.slice d.price.a d.price.kids.length d.price.c,.int .i64 d.price.pos,.int .u8 d.value.kind,.int .u8 d.value.oper,.int .u8 d.value.typ,.int .i64 d.value.n,.int .u8 d.value.field,.string d.value.name,.slice d.value.a d.value.kids.length d.value.c,.int .i64 d.value.pos,.int .i64 d.pos] 95 (0,0))::F) (A:=[]) (m:=2) Acc.nil (by simp) [(d.side,6),(d.qty,2)] (by simp) (by simp) rfl (two_enc hb) (.refl _)
  refine TriE.mono happ fun v I2 G l2 ⟨a',n',c',A',hv,hA',hG⟩=>⟨a',n',c',hv,A'++F,hG.trans List.perm_middle,⟨fun ho=>?_,fun ho=>?_⟩,fun pa pn pc I5 F3 l5 ⟨A3,hF3,hA3⟩=>⟨fun hn=>?_,fun hn=>?_⟩⟩
  ·have ho:d.order≠2:=by simpa using ho
   rw[if_pos ho] at hpd
   intro b1 I3 l3 hb1
   have happ:=pt_app (R:=(b_d,Obj.cells #[.int .u8 d.kind,.int .u8 d.order,.string d.name,.int .u8 d.side.kind,.int .u8 d.side.oper,.int .u8 d.side.typ,.int .i64 d.side.n,.int .u8 d.side.field,.string d.side.name,.slice d.side.a d.side.kids.length d.side.c,.int .i64 d.side.pos,.int .u8 d.qty.kind,.int .u8 d.qty.oper,.int .u8 d.qty.typ,.int .i64 d.qty.n,.int .u8 d.qty.field,.string d.qty.name,.slice d.qty.a d.qty.kids.length d.qty.c,.int .i64 d.qty.pos,.int .u8 d.price.kind,.int .u8 d.price.oper,.int .u8 d.price.typ,.int .i64 d.price.n,.int .u8 d.price.field,.string d.price.name,.slice d.price.a d.price.kids.length d.price.c,.int .i64 d.price.pos,.int .u8 d.value.kind,.int .u8 d.value.oper,.int .u8 d.value.typ,.int .i64 d.value.n,.int .u8 d.value.field,.string d.value.name,.slice d.value.a d.value.kids.length d.value.c,.int .i64 d.value.pos,.int .i64 d.pos] 95 (0,0))::F) (A:=A') hA' (by simp) [(d.price,3)] (by simp) (by simp) rfl hb1 List.perm_middle.symm
   refine TriE.mono happ fun v I4 G l4 ⟨a2,n2,c2,A2,hv,hA2,hG⟩=>⟨a2,n2,c2,hv,A2++F,hG.trans List.perm_middle,A2,.refl _, ?_⟩
   rw[hps,hpd];exact hA2
  ·have ho:d.order=2:=by simpa using ho
   rw[if_neg (by simpa using ho)] at hpd
   refine⟨A',.refl _, ?_⟩
   rw[hps,hpd];exact hA'
  ·have hn:d.name.toList=[]:=by simpa using hn
   rw[if_pos hn] at hI
   exact⟨by rw[hi0,hI];rfl,A3,hF3,fun _=>hA3⟩
  ·have hn:¬d.name.toList=[]:=by simpa using hn
   rw[if_neg hn] at hI
   obtain⟨m1,m2,o1,o2,hS,hm1,hc1,hm2,hc2⟩:=hsc (Imm.le_trans l1 (Imm.le_trans l2 l5))
   refine⟨_,rfl,some m1,(hS.rd _).1,(cnt_has hc1 hm1 d.name).mono fun v I6 G l6 ⟨r,hv,hI6,hG,hr⟩=>⟨r,hv,F3,by rw[hG], ?_,A3,hF3,fun _=>hA3⟩⟩
   rw[hr,slot_has,hi0,hI]
 ·have h1:d.kind≠1:=by simpa using h1
  have h2:d.kind=2:=by simpa using h2
  rw[if_neg h1,if_pos (.inl h2)] at hI
  rw[if_neg h1,if_pos h2] at hpd
  intro b I1 l1 hb
  have happ:=pt_app (R:=(b_d,Obj.cells #[.int .u8 d.kind,.int .u8 d.order,.string d.name,.int .u8 d.side.kind,.int .u8 d.side.oper,.int .u8 d.side.typ,.int .i64 d.side.n,.int .u8 d.side.field,.string d.side.name,.slice d.side.a d.side.kids.length d.side.c,.int .i64 d.side.pos,.int .u8 d.qty.kind,.int .u8 d.qty.oper,.int .u8 d.qty.typ,.int .i64 d.qty.n,.int .u8 d.qty.field,.string d.qty.name,.slice d.qty.a d.qty.kids.length d.qty.c,.int .i64 d.qty.pos,.int .u8 d.price.kind,.int .u8 d.price.oper,.int .u8 d.price.typ,.int .i64 d.price.n,.int .u8 d.price.field,.string d.price.name,.slice d.price.a d.price.kids.length d.price.c,.int .i64 d.price.pos,.int .u8 d.value.kind,.int .u8 d.value.oper,.int .u8 d.value.typ,.int .i64 d.value.n,.int .u8 d.value.field,.string d.value.name,.slice d.value.a d.value.kids.length d.value.c,.int .i64 d.value.pos,.int .i64 d.pos] 95 (0,0))::F) (A:=[]) (m:=2) Acc.nil (by simp) [(d.qty,2),(d.price,3)] (by simp) (by simp) rfl (two_enc hb) (.refl _)
  refine TriE.mono happ fun v I2 G l2 ⟨a',n',c',A',hv,hA',hG⟩=>⟨a',n',c',hv,A'++F,hG.trans List.perm_middle, ?_⟩
  obtain⟨m1,m2,o1,o2,hS,hm1,hc1,hm2,hc2⟩:=hsc (Imm.le_trans l1 l2)
  refine⟨_,rfl,some m1,(hS.rd _).1,(cnt_has hc1 hm1 d.name).mono fun v I6 G l6 ⟨r,hv,hI6,hG,hr⟩=>⟨r,hv,A'++F,by rw[hG], ?_,A',.refl _,fun _=>?_⟩⟩
  ·rw[hr,slot_has,hi0,hI]
  ·rw[hps,hpd];exact hA'
 ·have h1:d.kind≠1:=by simpa using h1
  have h2:d.kind≠2:=by simpa using h2
  have h3:d.kind=3:=by simpa using h3
  rw[if_neg h1,if_pos (.inr h3)] at hI
  rw[if_neg h1,if_neg h2,if_neg (by omega)] at hpd
  obtain⟨m1,m2,o1,o2,hS,hm1,hc1,hm2,hc2⟩:=hA
  refine⟨_,rfl,some m1,(hS.rd _).1,(cnt_has hc1 hm1 d.name).mono fun v I6 G l6 ⟨r,hv,hI6,hG,hr⟩=>⟨r,hv,F,by rw[hG], ?_,[],.refl _,fun _=>?_⟩⟩
  ·rw[hr,slot_has,hi0,hI]
  ·rw[hps,hpd];exact Acc.nil
 ·have h1:d.kind≠1:=by simpa using h1
  have h2:d.kind≠2:=by simpa using h2
  have h3:d.kind≠3:=by simpa using h3
  have h4:d.kind=4:=by simpa using h4
  rw[if_neg h1,if_neg (by omega),if_pos h4] at hI
  rw[if_neg h1,if_neg h2,if_pos h4] at hpd
  obtain⟨m1,m2,o1,o2,⟨m0,es,ck,hc,hm,hgm⟩,hm1,hc1,hm2,hc2⟩:=hA
  refine⟨_,rfl,some m0,Rd.of_imm hc _ 0 fun j hj=>?_, ?_⟩
  ·have:j=0:=by simpa using hj
   subst this;rfl
  refine TriE.mono (lookup_ok mapR strD str_key str_inj zeroR hgm (.inl hm) d.name) fun v I3 G l3 ⟨hv,hI3,hG⟩=>?_
  subst hI3 hG
  rw[firstG_reg] at hv
  by_cases hr:s.p.reg d.name<0
  ·rw[if_pos hr] at hv
   refine⟨0,false,hv,F,.refl _,fun b I4 l4 hb=>?_⟩
   have happ:=pt_app (R:=(b_d,Obj.cells #[.int .u8 d.kind,.int .u8 d.order,.string d.name,.int .u8 d.side.kind,.int .u8 d.side.oper,.int .u8 d.side.typ,.int .i64 d.side.n,.int .u8 d.side.field,.string d.side.name,.slice d.side.a d.side.kids.length d.side.c,.int .i64 d.side.pos,.int .u8 d.qty.kind,.int .u8 d.qty.oper,.int .u8 d.qty.typ,.int .i64 d.qty.n,.int .u8 d.qty.field,.string d.qty.name,.slice d.qty.a d.qty.kids.length d.qty.c,.int .i64 d.qty.pos,.int .u8 d.price.kind,.int .u8 d.price.oper,.int .u8 d.price.typ,.int .i64 d.price.n,.int .u8 d.price.field,.string d.price.name,.slice d.price.a d.price.kids.length d.price.c,.int .i64 d.price.pos,.int .u8 d.value.kind,.int .u8 d.value.oper,.int .u8 d.value.typ,.int .i64 d.value.n,.int .u8 d.value.field,.string d.value.name,.slice d.value.a d.value.kids.length d.value.c,.int .i64 d.value.pos,.int .i64 d.pos] 95 (0,0))::F) (A:=[]) Acc.nil (by simp) [(d.value,0)] (by simp) (by simp) rfl hb (.refl _)
   refine TriE.mono happ fun v I2 G l2 ⟨a',n',c',A',hv,hA',hG⟩=>⟨a',n',c',hv,A'++F,hG.trans List.perm_middle, ?_,A',.refl _,fun h=>(by cases h)⟩
   rw[hi0,hI,decide_eq_true hr];rfl
  ·rw[if_neg hr] at hv
   refine⟨s.p.regT (s.p.reg d.name),true,hv,F,.refl _,fun b I4 l4 hb=>?_⟩
   have happ:=pt_app (R:=(b_d,Obj.cells #[.int .u8 d.kind,.int .u8 d.order,.string d.name,.int .u8 d.side.kind,.int .u8 d.side.oper,.int .u8 d.side.typ,.int .i64 d.side.n,.int .u8 d.side.field,.string d.side.name,.slice d.side.a d.side.kids.length d.side.c,.int .i64 d.side.pos,.int .u8 d.qty.kind,.int .u8 d.qty.oper,.int .u8 d.qty.typ,.int .i64 d.qty.n,.int .u8 d.qty.field,.string d.qty.name,.slice d.qty.a d.qty.kids.length d.qty.c,.int .i64 d.qty.pos,.int .u8 d.price.kind,.int .u8 d.price.oper,.int .u8 d.price.typ,.int .i64 d.price.n,.int .u8 d.price.field,.string d.price.name,.slice d.price.a d.price.kids.length d.price.c,.int .i64 d.price.pos,.int .u8 d.value.kind,.int .u8 d.value.oper,.int .u8 d.value.typ,.int .i64 d.value.n,.int .u8 d.value.field,.string d.value.name,.slice d.value.a d.value.kids.length d.value.c,.int .i64 d.value.pos,.int .i64 d.pos] 95 (0,0))::F) (A:=[]) Acc.nil (by simp) [(d.value,s.p.regT (s.p.reg d.name))] (by simp) (by simp) rfl hb (.refl _)
   refine TriE.mono happ fun v I2 G l2 ⟨a',n',c',A',hv,hA',hG⟩=>⟨a',n',c',hv,A'++F,hG.trans List.perm_middle, ?_,A',.refl _,fun _=>?_⟩
   ·rw[hi0,hI,decide_eq_false hr];rfl
   ·rw[hps,hpd,hi0,hI];exact hA'
 ·have h1:d.kind≠1:=by simpa using h1
  have h2:d.kind≠2:=by simpa using h2
  have h3:d.kind≠3:=by simpa using h3
  have h4:d.kind≠4:=by simpa using h4
  have h5:d.kind=5:=by simpa using h5
  rw[if_neg h1,if_neg (by omega),if_neg h4,if_pos h5] at hI
  rw[if_neg h1,if_neg h2,if_neg h4] at hpd
  obtain⟨m1,m2,o1,o2,hS,hm1,hc1,hm2,hc2⟩:=hA
  refine⟨_,rfl,some m2,(hS.rd _).2,(cnt_has hc2 hm2 d.name).mono fun v I6 G l6 ⟨r,hv,hI6,hG,hr⟩=>⟨r,hv,F,by rw[hG], ?_,[],.refl _,fun _=>?_⟩⟩
  ·rw[hr,room_has,hi0,hI]
  ·rw[hps,hpd];exact Acc.nil
 ·have h1:d.kind≠1:=by simpa using h1
  have h2:d.kind≠2:=by simpa using h2
  have h3:d.kind≠3:=by simpa using h3
  have h4:d.kind≠4:=by simpa using h4
  have h5:d.kind≠5:=by simpa using h5
  rw[if_neg h1,if_neg (by omega),if_neg h4,if_neg h5] at hI
  rw[if_neg h1,if_neg h2,if_neg h4] at hpd
  refine⟨by rw[hi0,hI];rfl,[],.refl _,fun _=>?_⟩
  rw[hps,hpd];exact Acc.nil
 ·have hneg:i0<0:=by rw[his] at hq;simpa using hq
  rw[if_pos hneg] at hdT
  refine Tri.retV (refused_no (hg.mono l15) d.pos 151 (by decide) _) fun v2 I2 l2 hv2=>⟨v2,rfl,F11,.refl _,v2,A,rfl,hF11,fun J hJ hx=>?_⟩
  rw[hdT];exact ChkE.mono hv2 hJ
 ·have hq:is=true:=by simpa using hq
  have hneg:¬i0<0:=by rw[his] at hq;simpa using hq
  rw[if_neg hneg] at hdT
  have hAcc:=hAcc hq
  have hn:=hAcc.1
  refine⟨⟨_,by omega,by omega,rfl,hneg,A,hF11,hAcc,fun p hp=>by simp at hp⟩,fun x i m I17 F13 l17 ⟨g0,g1,gm,_,A2,hF13,hA2,hall⟩=>⟨fun hlt=>?_,fun hlt=>?_⟩⟩
  ·have hlt:=of_decide_eq_true hlt
   have l:=Imm.le_trans l15 l17
   have hS2:=hA2.slg (z:=9) (f:=ptE) (fun _=>rfl) I17 (G:=(b_d,Obj.cells #[.int .u8 d.kind,.int .u8 d.order,.string d.name,.int .u8 d.side.kind,.int .u8 d.side.oper,.int .u8 d.side.typ,.int .i64 d.side.n,.int .u8 d.side.field,.string d.side.name,.slice d.side.a d.side.kids.length d.side.c,.int .i64 d.side.pos,.int .u8 d.qty.kind,.int .u8 d.qty.oper,.int .u8 d.qty.typ,.int .i64 d.qty.n,.int .u8 d.qty.field,.string d.qty.name,.slice d.qty.a d.qty.kids.length d.qty.c,.int .i64 d.qty.pos,.int .u8 d.price.kind,.int .u8 d.price.oper,.int .u8 d.price.typ,.int .i64 d.price.n,.int .u8 d.price.field,.string d.price.name,.slice d.price.a d.price.kids.length d.price.c,.int .i64 d.price.pos,.int .u8 d.value.kind,.int .u8 d.value.oper,.int .u8 d.value.typ,.int .i64 d.value.n,.int .u8 d.value.field,.string d.value.name,.slice d.value.a d.value.kids.length d.value.c,.int .i64 d.value.pos,.int .i64 d.pos] 95 (0,0))::F13) fun y hy=>.tail _ (hF13.mem_iff.2 (List.mem_append_left _ hy))
   obtain⟨ad,p,had,hp,hrd,hpm⟩:=SlG.atm hS2 g0 hlt
   refine⟨⟨g0,hlt⟩,ad,had,_,_,_,_,_,_,_,_,_,_,_,hrd,fun b_p=>?_⟩
   have hpm':p∈dparts d (s.p.regT i0):=hps▸hpm
   obtain⟨m1,m2,o1,o2,hS,hm1,hc1,hm2,hc2⟩:=hsc l
   refine Tri.retV (pmust_spec p.1 (hfit _ p hpm') p.2 (hg.mono l) hS ((dparts_ok hdo p hpm').mono l fun y hy=>.tail _ (.tail _ (hF13.mem_iff.2 (List.mem_append_right _ hy))))) fun v2 I2 l2 hv2=>⟨v2,rfl,F13,.refl _,_,ChkE.neq hv2 (by kernel_rfl),fun he=>?_,fun he=>⟨(n-(i+1)).toNat,by omega, ?_⟩⟩
   ·have he:(mustT s.p p.1.px p.2).e≠0:=by simpa using he
    refine⟨v2,A2,rfl,hF13,fun J hJ hx=>?_⟩
    rw[hdT,firstT_hit (f:=fun p:Nd×Int=>mustT s.p p.1.px p.2) hall hp he]
    exact ChkE.mono hv2 hJ
   ·have he:(mustT s.p p.1.px p.2).e=0:=by simpa using he
    rw[w64 (n:=i+1) (by omega)]
    refine⟨by omega,by omega,rfl,hneg,A2,hF13,hA2, ?_⟩
    rw[show (i+1).toNat=i.toNat+1 by omega]
    exact take_all hp hall he
  ·have hlt:=of_decide_eq_false hlt
   refine⟨_,A2,rfl,hF13,fun J hJ hx=>?_⟩
   rw[List.take_of_length_le (by omega)] at hall
   rw[hdT,firstT_all hall]
   exact ChkE.ok
end
end Go.Lx
namespace Go.Lx
open Go.Vc
def RuleN.Fit(r:RuleN):Prop:=r.when.px.checkE=0∧∀d∈r.dos,d.Fit∧d.kind≤6
theorem check_rule{r:RuleN}(h:r.p.check=0):r.Fit:=by
 unfold RuleP.check at h
 obtain⟨h1,h⟩:=thenE_z h
 obtain⟨_,h⟩:=thenE_z h
 obtain⟨_,h⟩:=thenE_z h
 refine⟨h1,fun d hd=>?_⟩
 have hd:=firstE_z h d.p (List.mem_map_of_mem hd)
 refine⟨check_parts hd, ?_⟩
 unfold DoP.check at hd
 have h1:=errB_z (by decide) (thenE_z hd).1
 have:=of_decide_eq_true h1
 exact this.2
theorem check_rules{s:StgN}(h:s.p.check=0):∀x∈s.states,∀r∈x.rules,r.Fit:=by
 unfold StgP.check at h
 obtain⟨_,h⟩:=thenE_z h
 obtain⟨_,h⟩:=thenE_z h
 obtain⟨_,h⟩:=thenE_z h
 obtain⟨_,h⟩:=thenE_z h
 obtain⟨_,h⟩:=thenE_z h
 obtain⟨_,h⟩:=thenE_z h
 obtain⟨_,h⟩:=thenE_z h
 intro x hx r hr
 have h1:=firstE_z h x.p (List.mem_map_of_mem hx)
 unfold StateP.check at h1
 obtain⟨_,h1⟩:=thenE_z h1
 obtain⟨_,h1⟩:=thenE_z h1
 exact check_rule (firstE_z h1 r.p (List.mem_map_of_mem hr))
def lastB(l:List DoN)(i:Int):Bool:=decide (0<i)&&(match l[i.toNat-1]? with
 | some d=>decide (d.kind=5∨d.kind=6)
 | none=>false)
section
variable {s:StgN} {I:Imm} {F:Heap} {c:Nat}
set_option maxHeartbeats 1000000 in
theorem prule_spec(hg:Gl I)(hA:ScA I c s)(r:RuleN)(hro:r.Ok I F)(hfit:r.Fit)(hlen:r.dos.length≤1048576):Tri P 35 #[.pointer (some ⟨c,0,none⟩),r.v] I F (RetV (FltE (ruleT s.p r.p)) F):=by
 obtain⟨hw,hds⟩:=hfit
 have hrt:ruleT s.p r.p=thenT (mustT s.p r.when.px 5) (dosT s.p (r.dos.map DoN.p) false):=rfl
 refine types_scope_rule.vc (fun x i m I' F'=>F'=F∧0≤i∧i≤r.dos.length∧m=(r.dos.length-i).toNat∧ruleT s.p r.p=dosT s.p ((r.dos.drop i.toNat).map DoN.p) (lastB r.dos i)) ?_
 unfold types_scope_rule.V
 intro b_r
 have hS:∃m1 m2,Scp I c s.p m1 m2:=let ⟨m1,m2,_,_,h,_⟩:=hA;⟨m1,m2,h⟩
 obtain⟨m1,m2,hS⟩:=hS
 refine Tri.retV (pmust_spec r.when hw 5 hg hS (hro.1.mono (Imm.le_refl I) fun y hy=>.tail _ hy)) fun v I1 l1 hv=>⟨v,rfl,F,.refl _,_,ChkE.neq hv (by kernel_rfl),fun he=>?_,fun he=>?_⟩
 ·have he:(mustT s.p r.when.px 5).e≠0:=by simpa using he
  rw[hrt,thenT_e _ he]
  exact⟨v,rfl,hv,rfl⟩
 have he:(mustT s.p r.when.px 5).e=0:=by simpa using he
 rw[thenT_z _ he] at hrt
 refine⟨⟨_,rfl,by omega,by omega,rfl,hrt⟩,fun x i m I2 F2 l2 ⟨gF,g0,g1,gm,ge⟩=>⟨fun hlt=>?_,fun hlt=>?_⟩⟩
 ·subst gF
  have hlt:=of_decide_eq_true hlt
  have l:=Imm.le_trans l1 l2
  have hr2:∀x:Nat×Obj,RuleN.Ok I2 (x::F2) r:=fun x=>hro.mono l fun y hy=>.tail _ hy
  obtain⟨ad,d,had,hd,hrd,hdm⟩:=SlG.atm (hr2 (b_r,Obj.cells #[.int .u8 r.when.kind,.int .u8 r.when.oper,.int .u8 r.when.typ,.int .i64 r.when.n,.int .u8 r.when.field,.string r.when.name,.slice r.when.a r.when.kids.length r.when.c,.int .i64 r.when.pos,.slice r.a r.dos.length r.c,.int .i64 r.pos] 87 (0,0))).2.1 g0 hlt
  obtain⟨hk,hdk⟩:=List.getElem?_eq_some_iff.1 hd
  obtain⟨hdf,hd6⟩:=hds d hdm
  rw[List.drop_eq_getElem_cons hk,hdk,List.map_cons,dosT] at ge
  have step:∀b_d:Nat,lastB r.dos i=false→Tri P 66 #[.pointer (some ⟨c,0,none⟩),d.v] I2 ((b_r,Obj.cells #[.int .u8 r.when.kind,.int .u8 r.when.oper,.int .u8 r.when.typ,.int .i64 r.when.n,.int .u8 r.when.field,.string r.when.name,.slice r.when.a r.when.kids.length r.when.c,.int .i64 r.when.pos,.slice r.a r.dos.length r.c,.int .i64 r.pos] 87 (0,0))::(b_d,Obj.cells #[.int .u8 d.kind,.int .u8 d.order,.string d.name,.int .u8 d.side.kind,.int .u8 d.side.oper,.int .u8 d.side.typ,.int .i64 d.side.n,.int .u8 d.side.field,.string d.side.name,.slice d.side.a d.side.kids.length d.side.c,.int .i64 d.side.pos,.int .u8 d.qty.kind,.int .u8 d.qty.oper,.int .u8 d.qty.typ,.int .i64 d.qty.n,.int .u8 d.qty.field,.string d.qty.name,.slice d.qty.a d.qty.kids.length d.qty.c,.int .i64 d.qty.pos,.int .u8 d.price.kind,.int .u8 d.price.oper,.int .u8 d.price.typ,.int .i64 d.price.n,.int .u8 d.price.field,.string d.price.name,.slice d.price.a d.price.kids.length d.price.c,.int .i64 d.price.pos,.int .u8 d.value.kind,.int .u8 d.value.oper,.int .u8 d.value.typ,.int .i64 d.value.n,.int .u8 d.value.field,.string d.value.name,.slice d.value.a d.value.kids.length d.value.c,.int .i64 d.value.pos,.int .i64 d.pos] 95 (0,0))::F2) (RetV (FltE (doT s.p d.p)) ((b_r,Obj.cells #[.int .u8 r.when.kind,.int .u8 r.when.oper,.int .u8 r.when.typ,.int .i64 r.when.n,.int .u8 r.when.field,.string r.when.name,.slice r.when.a r.when.kids.length r.when.c,.int .i64 r.when.pos,.slice r.a r.dos.length r.c,.int .i64 r.pos] 87 (0,0))::(b_d,Obj.cells #[.int .u8 d.kind,.int .u8 d.order,.string d.name,.int .u8 d.side.kind,.int .u8 d.side.oper,.int .u8 d.side.typ,.int .i64 d.side.n,.int .u8 d.side.field,.string d.side.name,.slice d.side.a d.side.kids.length d.side.c,.int .i64 d.side.pos,.int .u8 d.qty.kind,.int .u8 d.qty.oper,.int .u8 d.qty.typ,.int .i64 d.qty.n,.int .u8 d.qty.field,.string d.qty.name,.slice d.qty.a d.qty.kids.length d.qty.c,.int .i64 d.qty.pos,.int .u8 d.price.kind,.int .u8 d.price.oper,.int .u8 d.price.typ,.int .i64 d.price.n,.int .u8 d.price.field,.string d.price.name,.slice d.price.a d.price.kids.length d.price.c,.int .i64 d.price.pos,.int .u8 d.value.kind,.int .u8 d.value.oper,.int .u8 d.value.typ,.int .i64 d.value.n,.int .u8 d.value.field,.string d.value.name,.slice d.value.a d.value.kids.length d.value.c,.int .i64 d.value.pos,.int .i64 d.pos] 95 (0,0))::F2)):=fun b_d _ =>
   pdo_spec (hg.mono l) (hA.mono l) d ((hro.2.2 d hdm).mono l fun y hy=>.tail _ (.tail _ hy)) hdf
  have next:lastB r.dos i=false→(doT s.p d.p).e=0→ruleT s.p r.p=dosT s.p ((r.dos.drop (i+1).toNat).map DoN.p) (lastB r.dos (i+1)):=fun hb h0=>by
   rw[ge,hb,if_neg (by simp),if_neg (by simpa using h0),show (i+1).toNat=i.toNat+1 by omega]
   have:lastB r.dos (i+1)=decide (d.p.kind=5∨d.p.kind=6):=by
    unfold lastB
    rw[show (i+1).toNat-1=i.toNat by omega,hd,decide_eq_true (show 0<i+1 by omega)]
    rfl
   rw[this]
  refine⟨⟨g0,hlt⟩,ad,had,_,_,_,_,_,_,_,_,_,_,_,_,_,_,_,_,_,_,_,_,_,_,_,_,_,_,_,_,_,_,_,_,_,_,_,_,_,_,_,_,_,_,_,_,hrd,fun b_d=>⟨fun hp=>?_,fun hp=>?_⟩⟩
  ·have hp:=of_decide_eq_true hp
   have hw1:IntKind.wrap .i64 (i-1)=i-1:=w64 (by omega)
   rw[hw1]
   obtain⟨ad1,d1,had1,hd1,hrd1,hdm1⟩:=SlG.atm ((hr2 (b_d,Obj.cells #[.int .u8 d.kind,.int .u8 d.order,.string d.name,.int .u8 d.side.kind,.int .u8 d.side.oper,.int .u8 d.side.typ,.int .i64 d.side.n,.int .u8 d.side.field,.string d.side.name,.slice d.side.a d.side.kids.length d.side.c,.int .i64 d.side.pos,.int .u8 d.qty.kind,.int .u8 d.qty.oper,.int .u8 d.qty.typ,.int .i64 d.qty.n,.int .u8 d.qty.field,.string d.qty.name,.slice d.qty.a d.qty.kids.length d.qty.c,.int .i64 d.qty.pos,.int .u8 d.price.kind,.int .u8 d.price.oper,.int .u8 d.price.typ,.int .i64 d.price.n,.int .u8 d.price.field,.string d.price.name,.slice d.price.a d.price.kids.length d.price.c,.int .i64 d.price.pos,.int .u8 d.value.kind,.int .u8 d.value.oper,.int .u8 d.value.typ,.int .i64 d.value.n,.int .u8 d.value.field,.string d.value.name,.slice d.value.a d.value.kids.length d.value.c,.int .i64 d.value.pos,.int .i64 d.pos] 95 (0,0))).cons (x:=(b_r,Obj.cells #[.int .u8 r.when.kind,.int .u8 r.when.oper,.int .u8 r.when.typ,.int .i64 r.when.n,.int .u8 r.when.field,.string r.when.name,.slice r.when.a r.when.kids.length r.when.c,.int .i64 r.when.pos,.slice r.a r.dos.length r.c,.int .i64 r.pos] 87 (0,0)))).2.1 (i:=i-1) (by omega) (by omega)
   have hlb:lastB r.dos i=decide (d1.kind=5∨d1.kind=6):=by
    unfold lastB
    rw[show i.toNat-1=(i-1).toNat by omega,hd1,decide_eq_true hp]
    rfl
   have h16:=(hds d1 hdm1).2
   refine⟨⟨by omega,by omega⟩,ad1,had1,d1.kind,hrd1.field (o:=0) rfl,fun h5=>?_,fun h5=>?_⟩
   ·have h5:=of_decide_eq_true h5
    have hb:lastB r.dos i=true:=by rw[hlb];exact decide_eq_true (by omega)
    rw[hb,if_pos rfl] at ge
    exact Tri.retV (refused_no (hg.mono l) d.pos 153 (by decide) _) fun v2 I3 l3 hv2=>⟨v2,rfl,F2,.refl _,v2,rfl,by rw[ge];exact hv2,rfl⟩
   ·have h5:=of_decide_eq_false h5
    have hb:lastB r.dos i=false:=by rw[hlb];exact decide_eq_false (by omega)
    refine Tri.retV (step b_d hb) fun v2 I3 l3 hv2=>⟨v2,rfl,F2,.refl _,_,ChkE.neq hv2 (by kernel_rfl),fun hq=>?_,fun hq=>⟨(r.dos.length-(i+1)).toNat,by omega, ?_⟩⟩
    ·have hq:(doT s.p d.p).e≠0:=by simpa using hq
     rw[ge,hb,if_neg (by simp),if_pos hq]
     exact⟨v2,rfl,hv2,rfl⟩
    ·have hq:(doT s.p d.p).e=0:=by simpa using hq
     rw[w64 (n:=i+1) (by omega)]
     exact⟨rfl,by omega,by omega,rfl,next hb hq⟩
  ·have hp:=of_decide_eq_false hp
   have hb:lastB r.dos i=false:=by unfold lastB;rw[decide_eq_false (by omega)];rfl
   refine Tri.retV (step b_d hb) fun v2 I3 l3 hv2=>⟨v2,rfl,F2,.refl _,_,ChkE.neq hv2 (by kernel_rfl),fun hq=>?_,fun hq=>⟨(r.dos.length-(i+1)).toNat,by omega, ?_⟩⟩
   ·have hq:(doT s.p d.p).e≠0:=by simpa using hq
    rw[ge,hb,if_neg (by simp),if_pos hq]
    exact⟨v2,rfl,hv2,rfl⟩
   ·have hq:(doT s.p d.p).e=0:=by simpa using hq
    rw[w64 (n:=i+1) (by omega)]
    exact⟨rfl,by omega,by omega,rfl,next hb hq⟩
 ·subst gF
  have hlt:=of_decide_eq_false hlt
  rw[List.drop_eq_nil_of_le (by omega),List.map_nil,dosT] at ge
  rw[ge];exact⟨_,rfl,ChkE.ok,rfl⟩
theorem declared2_spec(hl:s.p.Thin)(hok:s.Ok I F)(hg:Gl I)(hf:∀r∈s.regs,r.init.px.formed=true){m1 m2:Nat}(hS:Scp I c s.p m1 m2) :
  Tri P 34 #[.pointer (some ⟨c,0,none⟩),s.v] I ((m1,.map #[] 0)::(m2,.map #[] 0)::F) (RetV (fun v J=>FltE s.p.named v J∧(s.p.named.e=0→ScA J c s)) F) :=
 Tri.keep (declared_spec hl hok hg hf hS) fun e I' G w l hs ⟨v,he,hv,o1,o2,hG,hk⟩=>by
  subst hG
  obtain⟨J,g1,g2,g3⟩:=Sat.still [(m1,o1),(m2,o2)] hs
  exact⟨J,F,g1,g3,v,he,⟨hv.mono g1,fun h0=>⟨m1,m2,o1,o2,hS.mono (Imm.le_trans l g1),g2 _ (.head _),(hk h0).1,g2 _ (.tail _ (.head _)),(hk h0).2⟩⟩,rfl⟩
end
end Go.Lx
namespace Go.Lx
open Go.Vc
set_option maxHeartbeats 1000000 in
theorem pCheck_specT(s:StgN)(hl:s.p.Thin){I:Imm}{F:Heap}(hok:s.Ok I F)(hg:Gl I):Tri P 13 #[s.v] I F (RetV (FltE s.p.types) F):=by
 have lr:=hl.regs
 have lt:=hl.states
 simp only[StgN.p,List.length_map] at lr lt
 have hdef:s.p.types=if s.p.check≠0 then ⟨s.p.check,0,false⟩ else thenT s.p.named (firstT (fun x=>firstT (ruleT s.p) x.rules) (s.states.map StateN.p)):=rfl
 refine types_Check.vc
  (fun cA x i m I0 F0 I' F'=>F'=F∧0≤i∧i≤s.states.length∧m=(s.states.length-i).toNat∧(∃c,cA=some (⟨c,0,none⟩:Addr)∧ScA I' c s)∧(∀x∈s.states,∀r∈x.rules,r.Fit)∧s.p.types=firstT (fun x=>firstT (ruleT s.p) x.rules) ((s.states.drop i.toNat).map StateN.p))
  (fun cA i x k m I0 F0 I' F'=>F'=F∧∃y,s.states[i.toNat]? = some y∧0≤k∧k≤y.rules.length∧m=(y.rules.length-k).toNat∧(∃c,cA=some (⟨c,0,none⟩:Addr)∧ScA I' c s)∧(∀x∈s.states,∀r∈x.rules,r.Fit) ∧
    s.p.types=thenT (firstT (ruleT s.p) ((y.rules.drop k.toNat).map RuleN.p)) (firstT (fun x=>firstT (ruleT s.p) x.rules) ((s.states.drop (i.toNat+1)).map StateN.p))) ?_
 unfold types_Check.V
 intro b_s
 have ok1:∀{J:Imm} {x:Nat×Obj},Imm.le I J→s.Ok J (x::F):=fun hJ=>hok.mono hJ fun y hy=>.tail _ hy
 refine Tri.ret (Check_spec s hl.small hl.lens I _ (ok1 (Imm.le_refl I))) fun I1 l1=>⟨_,rfl,F,.refl _,fun hc=>?_,fun hc=>?_⟩
 ·have hc:s.p.check≠0:=by simpa using hc
  rw[hdef,if_pos hc]
  exact Tri.retV (refused_no (hg.mono l1) 0 s.p.check hc _) fun v I2 l2 hv=>⟨v,rfl,F,.refl _,v,rfl,hv,rfl⟩
 have hc:s.p.check=0:=by simpa using hc
 rw[if_neg (by simpa using hc)] at hdef
 have hfit:=check_rules hc
 have hfm:∀r∈s.regs,r.init.px.formed=true:=fun r hr=>check_regs hc r.p (List.mem_map_of_mem hr)
 refine (registers_spec s lr I1 _ (ok1 l1)).mono fun e I2 G l2 ⟨c,m1,m2,he,hS,hG⟩=>?_
 subst hG
 have l12:=Imm.le_trans l1 l2
 refine⟨_,he,(m1,.map #[] 0)::(m2,.map #[] 0)::F,pm2, ?_⟩
 have hdec:=declared2_spec (F:=(b_s,Obj.cells #[.string s.name,.slice s.ra s.regs.length s.rc,.slice s.sa s.slots.length s.sc,.slice s.ta s.states.length s.tc] 26 (0,0))::F) hl (ok1 l12) (hg.mono l12) hfm hS
 refine (hdec.perm pm2.symm).mono fun e I3 G l3 ⟨v,he,⟨hv,hk⟩,hG⟩=>⟨v,he,F,by rw[hG],_,ChkE.neq hv (by kernel_rfl),fun hq=>?_,fun hq=>?_⟩
 ·have hq:s.p.named.e≠0:=by simpa using hq
  rw[hdef,thenT_e _ hq]
  exact⟨v,rfl,hv,rfl⟩
 have hq:s.p.named.e=0:=by simpa using hq
 rw[thenT_z _ hq] at hdef
 have l123:=Imm.le_trans l12 l3
 refine⟨⟨_,rfl,by omega,by omega,rfl,⟨c,rfl,hk hq⟩,hfit,hdef⟩,fun x i m I4 F4 l4 ⟨gF,g0,g1,gm,⟨c',hc',hA⟩,_,ge⟩=>⟨fun hlt=>?_,fun hlt=>?_⟩⟩
 ·subst gF
  obtain rfl:c=c':=by simpa using hc'
  have hlt:=of_decide_eq_true hlt
  have l:=Imm.le_trans l123 l4
  obtain⟨ad,y,had,hy,hrd,hym⟩:=SlG.atm (ok1 (x:=(b_s,Obj.cells #[.string s.name,.slice s.ra s.regs.length s.rc,.slice s.sa s.slots.length s.sc,.slice s.ta s.states.length s.tc] 26 (0,0))) l).states g0 hlt
  obtain⟨hk2,hyk⟩:=List.getElem?_eq_some_iff.1 hy
  rw[List.drop_eq_getElem_cons hk2,hyk,List.map_cons] at ge
  have hly:=(hl.state y.p (List.mem_map_of_mem hym)).1
  have hlr:=(hl.state y.p (List.mem_map_of_mem hym)).2
  simp only[StateN.p,List.length_map] at hly
  refine⟨⟨g0,hlt⟩,ad,had,_,_,_,_,_,hrd,fun b_x=>⟨⟨_,rfl,y,hy,by omega,by omega,rfl,⟨c,rfl,hA⟩,hfit, ?_⟩,fun x2 k m3 I5 F5 l5 ⟨hF,y',hy',h0,h1,hm,⟨c2,hc2,hA2⟩,_,he2⟩=>⟨fun hlt2=>?_,fun hlt2=>⟨(s.states.length-(i+1)).toNat,by omega, ?_⟩⟩⟩⟩
  ·rw[ge];unfold thenT;rw[firstT];rfl
  ·subst hF
   obtain rfl:y=y':=by rw[hy] at hy';exact Option.some.inj hy'
   obtain rfl:c=c2:=by simpa using hc2
   have hlt2:=of_decide_eq_true hlt2
   have l5':=Imm.le_trans l l5
   have hyo:y.Ok I5 ((b_s,Obj.cells #[.string s.name,.slice s.ra s.regs.length s.rc,.slice s.sa s.slots.length s.sc,.slice s.ta s.states.length s.tc] 26 (0,0))::(b_x,Obj.cells #[.string y.name,.slice y.a y.rules.length y.c,.int .i64 y.pos] 74 (0,0))::F5):=(hok.state y hym).mono l5' fun z hz=>.tail _ (.tail _ hz)
   obtain⟨ad1,r,had1,hr,hrd1,hrm⟩:=SlG.atm hyo.1 h0 hlt2
   obtain⟨hk3,hrk⟩:=List.getElem?_eq_some_iff.1 hr
   rw[List.drop_eq_getElem_cons hk3,hrk,List.map_cons,firstT] at he2
   have hdl:=(hlr r.p (List.mem_map_of_mem hrm)).2.1
   simp only[RuleN.p,List.length_map] at hdl
   refine⟨⟨h0,hlt2⟩,ad1,had1,_,_,_,_,_,_,_,_,_,_,_,_,_,_,hrd1,fun b_r=>?_⟩
   refine Tri.retV (prule_spec (hg.mono l5') hA2 r ((hyo.2 r hrm).mono (Imm.le_refl _) fun z hz=>by
    rcases List.mem_cons.1 hz with rfl | hz
    ·exact .head _
    ·rcases List.mem_cons.1 hz with rfl | hz
     ·exact .tail _ (.head _)
     ·exact .tail _ (.tail _ (.tail _ hz))) (hfit y hym r hrm) hdl) fun v2 I6 l6 hv2=>⟨v2,rfl,F5,.refl _,_,ChkE.neq hv2 (by kernel_rfl),fun hq=>?_,fun hq=>⟨(y.rules.length-(k+1)).toNat,by omega, ?_⟩⟩
   ·have hq:(ruleT s.p r.p).e≠0:=by simpa using hq
    rw[he2,if_pos hq,thenT_e _ hq]
    exact⟨v2,rfl,hv2,rfl⟩
   ·have hq:(ruleT s.p r.p).e=0:=by simpa using hq
    rw[if_neg (by simpa using hq)] at he2
    rw[w64 (n:=k+1) (by omega)]
    refine⟨rfl,y,hy,by omega,by omega,rfl,⟨c,rfl,hA2.mono l6⟩,hfit, ?_⟩
    rw[he2,show (k+1).toNat=k.toNat+1 by omega]
  ·subst hF
   obtain rfl:y=y':=by rw[hy] at hy';exact Option.some.inj hy'
   obtain rfl:c=c2:=by simpa using hc2
   have hlt2:=of_decide_eq_false hlt2
   rw[List.drop_eq_nil_of_le (by omega),List.map_nil,firstT,thenT_z _ rfl] at he2
   rw[w64 (n:=i+1) (by omega)]
   refine⟨rfl,by omega,by omega,rfl,⟨c,rfl,hA2⟩,hfit, ?_⟩
   rw[he2,show (i+1).toNat=i.toNat+1 by omega]
 ·subst gF
  have hlt:=of_decide_eq_false hlt
  rw[List.drop_eq_nil_of_le (by omega),List.map_nil,firstT] at ge
  rw[ge];exact⟨_,rfl,ChkE.ok,rfl⟩
theorem pCheck_spec(s:StgN)(hl:s.p.Light){I:Imm}{F:Heap}(hok:s.Ok I F)(hg:Gl I):Tri P 13 #[s.v] I F (RetV (FltE s.p.types) F):=pCheck_specT s hl.thin hok hg
end Go.Lx
namespace Go.Lx
open Go.Vc Go.Proofs.Tryz
def shT_y2:List (Nat×List Sh):=[(3,[.one (.int .i64)]),(4,[.one .bool]),(40,[.one (.int .i64)]),(59,[.one .ptr])]
def parse_Wrong.V(vi:Int→Value)(vp:OA→Value)(b:Value)(I:Imm)(F:Heap)(Q:PostQ)  : Prop:=∃q:Bool,BinRun P .eql 38 (.tmp 7) (.const (Value.nilIface)) b Value.nilIface q∧(It q (Q (.returned (.tuple #[vi 0,vi 0])) I F) (∀a:Nat,∃(cs:List Value) (el:Nat) (F1:Heap),List.Perm ((a,Obj.cells #[vi 0] 40 (0,0))::F) (((⟨a,0,none⟩:Addr).block,Obj.cells cs.toArray el (0,0))::F1)∧(⟨a,0,none⟩:Addr).spot=none∧(⟨a,0,none⟩:Addr).off+1≤cs.length∧∀c:Nat,Tri P 22 (#[b,Value.iface 61 (vp (some (⟨c,0,none⟩:Addr)))]) I (((c,Obj.cells #[vp none] 59 (0,0))::(((⟨a,0,none⟩:Addr).block,Obj.cells (splice (⟨a,0,none⟩:Addr).off [vi (-1)] cs).toArray el (0,0))::F1))) fun e1 I1 G1=>∃(r:Bool),e1=.returned (.bool r)∧∃F2:Heap,List.Perm G1 F2∧(It r (∃(m:OA),Rd I1 F2 (⟨c,0,none⟩:Addr) [vp m]∧∃ad:Addr,m=some ad∧∃(m1:Int),Rd I1 F2 (ad.add 1) [vi m1]∧Tc1 P 22 (#[b,Value.iface 89 (vp (some (⟨a,0,none⟩:Addr)))]) I1 (·) F2 .bool fun r1 I2 F3=>∃(m2:Int),Rd I2 F3 (⟨a,0,none⟩:Addr) [vi m2]∧Q (.returned (.tuple #[vi m2,vi m1])) I2 F3) (Tc1 P 22 (#[b,Value.iface 89 (vp (some (⟨a,0,none⟩:Addr)))]) I1 (·) F2 .bool fun r2 I3 F4=>∃(m3:Int),Rd I3 F4 (⟨a,0,none⟩:Addr) [vi m3]∧Q (.returned (.tuple #[vi m3,vi 0])) I3 F4))))
theorem parse_Wrong.vc{a:Value}{I:Imm}{F:Heap}{Q:PostQ}  (h:parse_Wrong.V (.int .i64) .pointer a I F Q):Tri P 14 #[a] I F Q :=
 tw (A:=(annL [1001,5002] [] [22] shT_y2 [] [] [3000,4000] [] [] [] [])) [22] func14 h
end Go.Lx
namespace Go.Lx
open Go.Vc
theorem rd_own{I:Imm}{G:Heap}{b ty:Nat}{v:Value}(h:(b,Obj.cells #[v] ty (0,0))∈G):Rd I G (⟨b,0,none⟩:Addr) [v]:=Rd.of_own h 0 fun j hj=>by
 have:j=0:=by simpa using hj
 subst this;rfl
theorem wrong_nil(I:Imm)(F:Heap):Tri P 14 #[.nilIface] I F (Ret (.tuple #[.int .i64 0,.int .i64 0]) F):=by
 refine parse_Wrong.vc ?_
 unfold parse_Wrong.V
 exact⟨true,nil_nil' (by kernel_rfl),fun _=>⟨rfl,rfl⟩,fun h=>(by cases h)⟩
theorem wrong_core{I:Imm}(hg:Gl I){b:Nat}{call:ByteArray}{pos n:Int}{u:Value}(hb:I b=some (.cells #[.string call,.int .i64 pos,u] 63 (0,0)))
  (hE:∀J,Imm.le I J→∀(G:Heap) (t ty:Nat) (old:Value),Tri P 22 #[.iface 59 (.pointer (some ⟨b,0,none⟩)),.iface 89 (.pointer (some ⟨t,0,none⟩))] J ((t,.cells #[old] ty (0,0))::G) (AsQ true ((t,.cells #[.int .i64 n] ty (0,0))::G))) (F:Heap) :
  Tri P 14 #[.iface 59 (.pointer (some ⟨b,0,none⟩))] I F (Ret (.tuple #[.int .i64 n,.int .i64 pos]) F):=by
 refine Tri.clean ?_
 refine parse_Wrong.vc ?_
 unfold parse_Wrong.V
 refine⟨false,some_nil' (by kernel_rfl),fun h=>(by cases h),fun _ b_e=>⟨[.int .i64 0],_,F,.refl _,rfl,by simp,fun b_f=>?_⟩⟩
 refine (As_hitF hg b).mono fun e I1 G l1 ⟨he,hG⟩=>?_
 subst hG
 refine⟨true,he,_,.refl _,fun _=>⟨some ⟨b,0,none⟩,rd_own (.head _),⟨b,0,none⟩,rfl,pos, ?_, ?_⟩,fun h=>(by cases h)⟩
 ·rw[addr0]
  exact Rd.of_imm (l1.at hb) _ 1 fun j hj=>by
   have:j=0:=by simpa using hj
   subst this;rfl
 ·refine Tri.perm ((hE I1 l1 ((b_f,.cells #[.pointer (some ⟨b,0,none⟩)] 59 (0,0))::F) b_e 40 (.int .i64 (-1))).mono fun e I2 G l2 ⟨he,hG⟩=>?_) (.swap ..)
  subst hG
  exact⟨true,he,_,.refl _,n,rd_own (.head _),rfl,[_,_],.refl _⟩
def TF.w(f:TF):Value:=.tuple #[.int .i64 f.e,.int .i64 f.pos]
theorem Wrong_chk{I:Imm}(hg:Gl I){f:TF}(hz:f.Z){v:Value}(h:ChkE I f v)(F:Heap):Tri P 14 #[v] I F (Ret f.w F):=by
 by_cases he:f.e=0
 ·rw[h.1 he,hz he];exact wrong_nil I F
 ·have h2:=h.2 he
  split at h2
  ·obtain⟨u,hu,hv⟩:=h2
   obtain⟨b,rfl,hb⟩:=id hv
   exact wrong_core hg hb (fun J hJ G t ty old=>As_E2 (hg.mono hJ) (hv.mono hJ) (hu.mono hJ)) F
  ·obtain⟨b,rfl,hb⟩:=id h2
   exact wrong_core hg hb (fun J hJ G t ty old=>As_E1 (hg.mono hJ) (h2.mono hJ)) F
theorem Wrong_of{I:Imm}(hg:Gl I){f:TF}(hz:f.Z){v:Value}(h:OfE I f v)(F:Heap):Tri P 14 #[v] I F (Ret f.w F):=by
 by_cases he:f.e=0
 ·rw[h.1 he,hz he];exact wrong_nil I F
 ·have h2:=h.2 he
  obtain⟨b,rfl,hb⟩:=id h2
  exact wrong_core hg hb (fun J hJ G t ty old=>As_E1 (hg.mono hJ) (h2.mono hJ)) F
theorem types_Z(s:StgP):s.types.Z:=by
 unfold StgP.types
 split
 ·rename_i h;exact err_Z h
 ·refine thenT_Z (named_Z s) ?_
  have fz:∀{α:Type} (f:α→TF) (l:List α),(∀x,(f x).Z)→(firstT f l).Z:=fun f l h=>by
   induction l with
   | nil=>exact zTF_Z
   | cons x r ih =>
     rw[firstT];split
     ·exact h x
     ·exact ih
  exact fz _ _ fun x=>fz _ _ fun r=>ruleT_Z s r
theorem typed_Z(s:StgP)(x:Px):(typed s x).2.Z:=by
 have hn:∀(y:Px) (l:List Int),(nodeE s y l).2.Z:=fun y l=>by
  unfold nodeE
  split
  ·exact err_Z (by decide)
  ·split
   ·exact zTF_Z
   ·exact err_Z (by decide)
 rw[typed_eq]
 split
 ·rename_i h;exact fun h'=>absurd h' h
 ·exact hn _ _
theorem typeOf_Z(s:StgP)(x:Px):(typeOf s x).2.Z:=by
 unfold typeOf
 split
 ·rename_i h;exact err_Z h
 ·exact typed_Z s x
end Go.Lx
namespace Go.Lx
open Go.Vc Go.Proofs.Tryz
def shT_y3:List (Nat×List Sh):=[(3,[.one (.int .i64)]),(4,[.one .bool]),(22,[.one .slc]),(23,[.one .slc]),(24,[.one .slc]),(33,[.one .slc]),(35,[.agg [(.int .u8),(.int .u8),(.int .u8),(.int .i64),(.int .u8),.str,.slc,(.int .i64)]]),(38,[.one .any]),(41,[.one (.int .i64),.one (.int .i64)]),(50,[.agg [.str,.slc,.slc,.slc],.agg [(.int .i64),(.int .i64),.bool]]),(54,[.one (.int .u8),.one .any]),(68,[.agg [.str,(.int .u8),(.int .u8),(.int .u8),(.int .u8),(.int .i64),(.int .u8),.str,.slc,(.int .i64),(.int .i64)]]),(72,[.one .slc]),(74,[.agg [.str,.slc,(.int .i64)]]),(76,[.agg [(.int .u8),(.int .u8),(.int .u8),(.int .i64),(.int .u8),.str,.slc,(.int .i64)],.agg [(.int .i64),(.int .i64),.bool]]),(85,[.one .slc]),(87,[.agg [(.int .u8),(.int .u8),(.int .u8),(.int .i64),(.int .u8),.str,.slc,(.int .i64),.slc,(.int .i64)]]),(95,[.agg [(.int .u8),(.int .u8),.str,(.int .u8),(.int .u8),(.int .u8),(.int .i64),(.int .u8),.str,.slc,(.int .i64),(.int .u8),(.int .u8),(.int .u8),(.int .i64),(.int .u8),.str,.slc,(.int .i64),(.int .u8),(.int .u8),(.int .u8),(.int .i64),(.int .u8),.str,.slc,(.int .i64),(.int .u8),(.int .u8),(.int .u8),(.int .i64),(.int .u8),.str,.slc,(.int .i64),(.int .i64)]])]
def law15_awake.V(ka:Nat→Int→Int→Bool→Nat×Obj)(kb:Nat→Bs→OA→Nat→Nat→OA→Nat→Nat→OA→Nat→Nat→Nat×Obj)(nV:Int→Int→Int→Int→Int→Bs→OA→Nat→Nat→Int→Value)(nO:Int→Int→Int→Int→Int→Bs→OA→Nat→Nat→Int→Obj)(vi:Int→Value)(vs:Bs→Value)(vl:OA→Nat→Nat→Value)(vt:Bool→Value)(I:Imm)(F:Heap)(Q:PostQ)  : Prop:=Tcn P 17 (#[vs (⟨#[115,116,114,97,116,101,103,121,32,115,32,123,32,114,101,103,32,110,32,105,110,116,32,61,32,49,59,32,114,101,103,32,100,111,110,101,32,98,111,111,108,32,61,32,116,114,117,101,59,32,115,116,97,116,101,32,97,32,123,32,119,104,101,110,32,100,111,110,101,32,100,111,32,103,111,116,111,32,97,59,32,125,32,125]⟩:Bs)]) I (·) F fun e1 I1 G1=>∃(ab:Bs) (a:OA) (b c:Nat) (d:OA) (e f:Nat) (g:OA) (h i:Nat) (ag ah:Int) (ai:Bool),e1=.returned (.tuple #[.agg #[vs ab,vl a b c,vl d e f,vl g h i],.agg #[vi ag,vi ah,vt ai]])∧G1 fun F1=>∀aG:Nat,∀aH:Nat,Tcn P 17 (#[vs (⟨#[115,116,114,97,116,101,103,121,32,115,32,123,32,115,116,97,116,101,32,97,32,123,32,119,104,101,110,32,116,114,117,101,32,100,111,32,103,111,116,111,32,98,59,32,125,32,125]⟩:Bs)]) I1 ((kb aG ab a b c d e f g h i)::(ka aH ag ah ai)::·) F1 fun e2 I2 G2=>∃(aa:Bs) (j:OA) (k l:Nat) (m:OA) (n o:Nat) (p:OA) (s t:Nat) (ac ad:Int) (ae:Bool),e2=.returned (.tuple #[.agg #[vs aa,vl j k l,vl m n o,vl p s t],.agg #[vi ac,vi ad,vt ae]])∧G2 fun F2=>∀aJ:Nat,∀aE:Nat,Tcn P 27 (#[vs (⟨#[98,105,100,32,47,32,110]⟩:Bs)]) I2 ((kb aG ab a b c d e f g h i)::(ka aH ag ah ai)::(kb aJ aa j k l m n o p s t)::(ka aE ac ad ae)::·) F2 fun e3 I3 G3=>∃(af ay az aA aB:Int) (aC:Bs) (x:OA) (y z:Nat) (aD aj ak:Int) (al:Bool),e3=.returned (.tuple #[nV af ay az aA aB aC x y z aD,.agg #[vi aj,vi ak,vt al]])∧G3 fun F3=>∀aK:Nat,∀aF:Nat,Tcn P 27 (#[vs (⟨#[98,105,100,32,43,32,49]⟩:Bs)]) I3 ((kb aG ab a b c d e f g h i)::(ka aH ag ah ai)::(kb aJ aa j k l m n o p s t)::(ka aE ac ad ae)::(aK,nO af ay az aA aB aC x y z aD)::(ka aF aj ak al)::·) F3 fun e4 I4 G4=>∃(am an ao ap aq:Int) (ar:Bs) (u:OA) (v w:Nat) (au av aw:Int) (ax:Bool),e4=.returned (.tuple #[nV am an ao ap aq ar u v w au,.agg #[vi av,vi aw,vt ax]])∧G4 fun F4=>∀aL:Nat,∀aI:Nat,Tcn P 13 #[.agg #[vs ab,vl a b c,vl d e f,vl g h i]] I4 ((kb aG ab a b c d e f g h i)::(ka aH ag ah ai)::(kb aJ aa j k l m n o p s t)::(ka aE ac ad ae)::(aK,nO af ay az aA aB aC x y z aD)::(ka aF aj ak al)::(aL,nO am an ao ap aq ar u v w au)::(ka aI av aw ax)::·) F4 fun e5 I5 G5=>∃(r:Value),e5=.returned r∧G5 fun F5=>Tcn P 13 #[.agg #[vs aa,vl j k l,vl m n o,vl p s t]] I5 ((kb aG ab a b c d e f g h i)::(ka aH ag ah ai)::(kb aJ aa j k l m n o p s t)::(ka aE ac ad ae)::(aK,nO af ay az aA aB aC x y z aD)::(ka aF aj ak al)::(aL,nO am an ao ap aq ar u v w au)::(ka aI av aw ax)::·) F5 fun e6 I6 G6=>∃(r1:Value),e6=.returned r1∧G6 fun F6=>Tcn P 14 #[r1] I6 ((kb aG ab a b c d e f g h i)::(ka aH ag ah ai)::(kb aJ aa j k l m n o p s t)::(ka aE ac ad ae)::(aK,nO af ay az aA aB aC x y z aD)::(ka aF aj ak al)::(aL,nO am an ao ap aq ar u v w au)::(ka aI av aw ax)::·) F6 fun e7 I7 G7=>∃(r0 aM:Int),e7=.returned (.tuple #[vi r0,vi aM])∧G7 fun F7=>Tcn P 19 #[.agg #[vs ab,vl a b c,vl d e f,vl g h i],nV af ay az aA aB aC x y z aD] I7 ((kb aG ab a b c d e f g h i)::(ka aH ag ah ai)::(kb aJ aa j k l m n o p s t)::(ka aE ac ad ae)::(aK,nO af ay az aA aB aC x y z aD)::(ka aF aj ak al)::(aL,nO am an ao ap aq ar u v w au)::(ka aI av aw ax)::·) F7 fun e8 I8 G8=>∃(aN:Int) (aP:Value),e8=.returned (.tuple #[.int .u8 aN,aP])∧G8 fun F8=>Tcn P 19 #[.agg #[vs ab,vl a b c,vl d e f,vl g h i],nV am an ao ap aq ar u v w au] I8 ((kb aG ab a b c d e f g h i)::(ka aH ag ah ai)::(kb aJ aa j k l m n o p s t)::(ka aE ac ad ae)::(aK,nO af ay az aA aB aC x y z aD)::(ka aF aj ak al)::(aL,nO am an ao ap aq ar u v w au)::(ka aI av aw ax)::·) F8 fun e9 I9 G9=>∃(aS:Int) (aQ:Value),e9=.returned (.tuple #[.int .u8 aS,aQ])∧G9 fun F9=>Tcn P 14 #[aQ] I9 ((kb aG ab a b c d e f g h i)::(ka aH ag ah ai)::(kb aJ aa j k l m n o p s t)::(ka aE ac ad ae)::(aK,nO af ay az aA aB aC x y z aD)::(ka aF aj ak al)::(aL,nO am an ao ap aq ar u v w au)::(ka aI av aw ax)::·) F9 fun aT I10 G10=>∃(aO aR:Int),aT=.returned (.tuple #[vi aO,vi aR])∧G10 fun F10=>∃q:Bool,BinRun P .eql 38 (.tmp 59) (.const (Value.nilIface)) r Value.nilIface q∧(It q (It (r0==151) (It (aM==36) (∃q1:Bool,BinRun P .eql 38 (.tmp 70) (.const (Value.nilIface)) aP Value.nilIface q1∧(It q1 (It (aN==3) (It (aO==152) (Q (.returned (vt (aR==4))) I10 F10) (Q (.returned (vt false)) I10 F10)) (Q (.returned (vt false)) I10 F10)) (Q (.returned (vt false)) I10 F10))) (Q (.returned (vt false)) I10 F10)) (Q (.returned (vt false)) I10 F10)) (Q (.returned (vt false)) I10 F10))
theorem law15_awake.vc  {I:Imm}{F:Heap}{Q:PostQ}  (h:law15_awake.V (fun W a b c=>(W,Obj.cells #[.int .i64 a,.int .i64 b,.bool c] 49 (0,0))) (fun W a b c d e f g h i j=>(W,Obj.cells #[.string a,.slice b c d,.slice e f g,.slice h i j] 26 (0,0))) (fun k o t n f s a l c q=>.agg #[.int .u8 k,.int .u8 o,.int .u8 t,.int .i64 n,.int .u8 f,.string s,.slice a l c,.int .i64 q]) (fun k o t n f s a l c q=>.cells #[.int .u8 k,.int .u8 o,.int .u8 t,.int .i64 n,.int .u8 f,.string s,.slice a l c,.int .i64 q] 35 (0,0)) (.int .i64) .string .slice .bool I F Q):Tri P 10 #[] I F Q :=
 tw (A:=(an [10001,10004,10008,10012,10016,10020] [13,14,17,19,27] shT_y3)) [13,14,17,19,27] func10 h
def law15_far.V(a b:Nat→Nat×Obj)(vb vi:Int→Value)(vl:OA→Nat→Nat→Value)(q:Bs)(e:OA)(f g:Nat)(h:OA)(i j:Nat)(k:OA)(l m:Nat)(s t u v w:Int)(x:Bs)(n:OA)(o p:Nat)(y:Int)(I:Imm)(F:Heap)(Q:PostQ)  : Prop:=∀c:Nat,∀d:Nat,Tc1 P 28 #[.agg #[.string q,vl e f g,vl h i j,vl k l m]] I ((b c)::(a d)::·) F vi fun r I1 F1=>(Dt (r>1048576) (Q (.returned (.bool true)) I1 F1) (Tc1 P 29 #[.agg #[vb s,vb t,vb u,vi v,vb w,.string x,vl n o p,vi y],vi r,vi 0] I1 ((b c)::(a d)::·) F1 vi fun r1 I2 F2=>Q (.returned (.bool (decide (r1>1048576)))) I2 F2))
theorem law15_far.vc{o:Bs}{a:OA}{c d:Nat}{e:OA}{f g:Nat}{i:OA}{j k:Nat}{p q r s t:Int}{u:Bs}{l:OA}{m n:Nat}{v:Int}{I:Imm}{F:Heap}{Q:PostQ}  (h:law15_far.V (fun b=>(b,Obj.cells #[.int .u8 p,.int .u8 q,.int .u8 r,.int .i64 s,.int .u8 t,.string u,.slice l m n,.int .i64 v] 35 (0,0))) (fun b=>(b,Obj.cells #[.string o,.slice a c d,.slice e f g,.slice i j k] 26 (0,0))) (.int .u8) (.int .i64) .slice o a c d e f g i j k p q r s t u l m n v I F Q):Tri P 11 #[.agg #[.string o,.slice a c d,.slice e f g,.slice i j k],.agg #[.int .u8 p,.int .u8 q,.int .u8 r,.int .i64 s,.int .u8 t,.string u,.slice l m n,.int .i64 v]] I F Q :=
 tw (A:=(an [2001] [28,29] shT_y3)) [28,29] func11 h
def law15_types3.V(a b c d:Nat→Nat×Obj)(nV:Int→Int→Int→Int→Int→Bs→OA→Nat→Nat→Int→Value)(vb:Int→Value)(vl:OA→Nat→Nat→Value)(u:Bs)(i:OA)(j k:Nat)(l:OA)(m n:Nat)(o:OA)(p r:Nat)(ag ah ai aj ak:Int)(al:Bs)(v:OA)(w x:Nat)(am an ao ap aq ar:Int)(au:Bs)(y:OA)(z aa:Nat)(av aw ax ay az aA:Int)(aB:Bs)(ab:OA)(ac ad:Nat)(aC:Int)(I:Imm)(F:Heap)(Q:PostQ)  : Prop:=∀e:Nat,∀f:Nat,∀g:Nat,∀h:Nat,Tcn P 19 #[.agg #[.string u,vl i j k,vl l m n,vl o p r],nV ag ah ai aj ak al v w x am] I ((d e)::(c f)::(a g)::(b h)::·) F fun e1 I1 G1=>∃(r0:Int) (r1:Value),e1=.returned (.tuple #[vb r0,r1])∧G1 fun F1=>Tcn P 19 #[.agg #[.string u,vl i j k,vl l m n,vl o p r],nV an ao ap aq ar au y z aa av] I1 ((d e)::(c f)::(a g)::(b h)::·) F1 fun e2 I2 G2=>∃(s:Int) (ae:Value),e2=.returned (.tuple #[vb s,ae])∧G2 fun F2=>Tcn P 19 #[.agg #[.string u,vl i j k,vl l m n,vl o p r],nV aw ax ay az aA aB ab ac ad aC] I2 ((d e)::(c f)::(a g)::(b h)::·) F2 fun e3 I3 G3=>∃(t:Int) (af:Value),e3=.returned (.tuple #[vb t,af])∧G3 fun F3=>∃q:Bool,BinRun P .eql 38 (.tmp 39) (.const (Value.nilIface)) r1 Value.nilIface q∧(It q (∃q1:Bool,BinRun P .eql 38 (.tmp 42) (.const (Value.nilIface)) ae Value.nilIface q1∧(It q1 (∃q2:Bool,BinRun P .eql 38 (.tmp 46) (.const (Value.nilIface)) af Value.nilIface q2∧Q (.returned (.tuple #[vb r0,vb s,vb t,.bool q2])) I3 F3) (Q (.returned (.tuple #[vb r0,vb s,vb t,.bool false])) I3 F3))) (Q (.returned (.tuple #[vb r0,vb s,vb t,.bool false])) I3 F3))
theorem law15_types3.vc{ae:Bs}{d:OA}{e g:Nat}{i:OA}{j m:Nat}{p:OA}{r u:Nat}{af ag ah ai aj:Int}{ak:Bs}{v:OA}{w x:Nat}{al am ao ap aq ar:Int}{au:Bs}{y:OA}{z aa:Nat}{av aw ax ay az aA:Int}{aB:Bs}{ab:OA}{ac ad:Nat}{aC:Int}{I:Imm}{F:Heap}{Q:PostQ}  (h:law15_types3.V (fun b=>(b,Obj.cells #[.int .u8 am,.int .u8 ao,.int .u8 ap,.int .i64 aq,.int .u8 ar,.string au,.slice y z aa,.int .i64 av] 35 (0,0))) (fun b=>(b,Obj.cells #[.int .u8 aw,.int .u8 ax,.int .u8 ay,.int .i64 az,.int .u8 aA,.string aB,.slice ab ac ad,.int .i64 aC] 35 (0,0))) (fun b=>(b,Obj.cells #[.int .u8 af,.int .u8 ag,.int .u8 ah,.int .i64 ai,.int .u8 aj,.string ak,.slice v w x,.int .i64 al] 35 (0,0))) (fun b=>(b,Obj.cells #[.string ae,.slice d e g,.slice i j m,.slice p r u] 26 (0,0))) (fun k o t n f s a l c q=>.agg #[.int .u8 k,.int .u8 o,.int .u8 t,.int .i64 n,.int .u8 f,.string s,.slice a l c,.int .i64 q]) (.int .u8) .slice ae d e g i j m p r u af ag ah ai aj ak v w x al am ao ap aq ar au y z aa av aw ax ay az aA aB ab ac ad aC I F Q):Tri P 23 #[.agg #[.string ae,.slice d e g,.slice i j m,.slice p r u],.agg #[.int .u8 af,.int .u8 ag,.int .u8 ah,.int .i64 ai,.int .u8 aj,.string ak,.slice v w x,.int .i64 al],.agg #[.int .u8 am,.int .u8 ao,.int .u8 ap,.int .i64 aq,.int .u8 ar,.string au,.slice y z aa,.int .i64 av],.agg #[.int .u8 aw,.int .u8 ax,.int .u8 ay,.int .i64 az,.int .u8 aA,.string aB,.slice ab ac ad,.int .i64 aC]] I F Q :=
 tw (A:=(an [4004,4007] [19] shT_y3)) [19] func23 h
def law15_turned.V(nV:Int→Int→Int→Int→Int→Bs→OA→Nat→Nat→Int→Value)(nO:Int→Int→Int→Int→Int→Bs→OA→Nat→Nat→Int→Obj)(vb:Int→Value)(vl:OA→Nat→Nat→Value)(r aa ab ac ae:Int)(n:Bs)(o:OA)(p q:Nat)(af:Int)(I:Imm)(F:Heap)(Q:PostQ)(Inv2:Int→Int→Int→Int→Int→Bs→OA→Nat→Nat→Int→Imm→Heap→Prop)(Inv14:OA→Nat→Nat→Int→Nat→Imm→Heap→Prop):Prop:=∀s:Nat,∀b:Nat,((((r==2)=true→((decide ((n.size:Int)<15)=true→(((((⟨#[122]⟩:Bs).size+n.size:Nat):Int)≤IntKind.i64.max)∧Inv2 r aa ab ac ae ((⟨#[122]⟩:Bs)++n) o p q af I F))∧(decide ((n.size:Int)<15)=false→Inv2 r aa ab ac ae n o p q af I F)))∧((r==2)=false→Inv2 r aa ab ac ae n o p q af I F)))∧∀(e f g h j:Int) (k:Bs) (c:OA) (a d:Nat) (l:Int) (I1:Imm) (F1:Heap),Imm.le I I1→Inv2 e f g h j k c a d l I1 F1→(∃m:Nat,Inv14 none 0 0 0 m I1 F1)∧∀(ag:OA) (ah ai:Nat) (i:Int) (m1:Nat) (I2:Imm) (F2:Heap),Imm.le I1 I2→Inv14 ag ah ai i m1 I2 F2→((decide (i<(a:Int))=true→((0≤i∧i<(a:Int))∧∃ad:Addr,c=some ad∧∃(aj ak al am an:Int) (ao:Bs) (t:OA) (u w:Nat) (ap:Int),Rd I2 ((s,nO e f g h j k c a d l)::(b,nO 0 0 0 0 0 (⟨#[]⟩:Bs) none 0 0 0)::F2) (ad.add (Int.toNat i*8)) [vb aj,vb ak,vb al,.int .i64 am,vb an,.string ao,vl t u w,.int .i64 ap]∧Tri P 25 #[nV aj ak al am an ao t u w ap] I2 ((s,nO e f g h j k c a d l)::(b,nO 0 0 0 0 0 (⟨#[]⟩:Bs) none 0 0 0)::F2) fun e1 I3 G1=>∃(aq ar au av aw:Int) (ax:Bs) (x:OA) (y z:Nat) (ay:Int),e1=.returned (nV aq ar au av aw ax x y z ay)∧∃F3:Heap,List.Perm G1 ((s,nO e f g h j k c a d l)::(b,nO 0 0 0 0 0 (⟨#[]⟩:Bs) none 0 0 0)::F3)∧∀(b1:Nat) (I4:Imm),Imm.le I3 I4→I4 b1=some (nO aq ar au av aw ax x y z ay)→TriE P (Builtin.append_ #[33,33] 33 #[vl ag ah ai,vl (some ⟨b1,0,none⟩) 1 1]) I4 ((s,nO e f g h j k c a d l)::(b,nO 0 0 0 0 0 (⟨#[]⟩:Bs) none 0 0 0)::F3) fun v I5 G2=>∃(az:OA) (aA aB:Nat),v=vl az aA aB∧∃F4:Heap,List.Perm G2 ((s,nO e f g h j k c a d l)::(b,nO 0 0 0 0 0 (⟨#[]⟩:Bs) none 0 0 0)::F4)∧(∃m2:Nat,m2<m1∧Inv14 az aA aB (IntKind.wrap .i64 (i+1)) m2 I5 F4)))∧(decide (i<(a:Int))=false→Q (.returned (nV e f g h j k ag ah ai l)) I2 F2))
theorem law15_turned.vc{g i j p r:Int}{u:Bs}{b:OA}{d e:Nat}{v:Int}{I:Imm}{F:Heap}{Q:PostQ}(Inv2:Int→Int→Int→Int→Int→Bs→OA→Nat→Nat→Int→Imm→Heap→Prop)(Inv14:OA→Nat→Nat→Int→Nat→Imm→Heap→Prop)(h:law15_turned.V (fun k o t n f s a l c q=>.agg #[.int .u8 k,.int .u8 o,.int .u8 t,.int .i64 n,.int .u8 f,.string s,.slice a l c,.int .i64 q]) (fun k o t n f s a l c q=>.cells #[.int .u8 k,.int .u8 o,.int .u8 t,.int .i64 n,.int .u8 f,.string s,.slice a l c,.int .i64 q] 35 (0,0)) (.int .u8) .slice g i j p r u b d e v I F Q Inv2 Inv14):Tri P 25 #[.agg #[.int .u8 g,.int .u8 i,.int .u8 j,.int .i64 p,.int .u8 r,.string u,.slice b d e,.int .i64 v]] I F Q :=
 tw (A:=(annL [1002,1007,5004] [] [25] shT_y3 [(2,⟨[],[(0,[(.int .u8),(.int .u8),(.int .u8),(.int .i64),(.int .u8),.str,.slc,(.int .i64)])],fun _ _ _ vs m I F=>match vs with | [.int _ y0,.int _ y1,.int _ y2,.int _ y3,.int _ y4,.string y5,.slice y6 y7 y8,.int _ y9]=>Inv2 y0 y1 y2 y3 y4 y5 y6 y7 y8 y9 I F | _=>False,[],[]⟩),(14,⟨[(3,.slc),(4,(.int .i64))],[],fun _ _ _ vs m I F=>match vs with | [.slice y0 y1 y2,.int _ y3]=>Inv14 y0 y1 y2 y3 m I F | _=>False,[],[]⟩)] [7007] [] [] [] [] [])) [25] func25 h
def law15_longer.V(b c:Nat→Nat×Obj)(vb vi:Int→Value)(vs:Bs→Value)(vl:OA→Nat→Nat→Value)(vt:Bool→Value)(v ai aj ak al:Int)(w:Bs)(j:OA)(a ah:Nat)(am:Int)(ag:Bs)(k:OA)(l n:Nat)(o:OA)(p q:Nat)(s:OA)(t u:Nat)(I:Imm)(F:Heap)(Q:PostQ)(Inv16:Bool→Int→Nat→Imm→Heap→Prop):Prop:=∀d:Nat,∀e:Nat,(((v==2)=true→Tri P 55 #[vs w] I ((b d)::(c e)::F) fun e1 I1 G1=>∃(r:Bool),e1=.returned (vt r)∧∃F1:Heap,List.Perm G1 ((b d)::(c e)::F1)∧((r=true→Q (.returned (vt true)) I1 F1)∧(r=false→Q (.returned (vt (decide ((w.size:Int)≥15)))) I1 F1)))∧((v==2)=false→(∃m:Nat,Inv16 false 0 m I F)∧∀(x:Bool) (i:Int) (m1:Nat) (I2:Imm) (F2:Heap),Imm.le I I2→Inv16 x i m1 I2 F2→((decide (i<(a:Int))=true→((0≤i∧i<(a:Int))∧∃ad:Addr,j=some ad∧∃(y z aa ab ac:Int) (ae:Bs) (f:OA) (g h:Nat) (af:Int),Rd I2 ((b d)::(c e)::F2) (ad.add (Int.toNat i*8)) [vb y,vb z,vb aa,vi ab,vb ac,vs ae,vl f g h,vi af]∧∃(r1:Bool),(Tri P 26 #[.agg #[vb y,vb z,vb aa,vi ab,vb ac,vs ae,vl f g h,vi af],.agg #[vs ag,vl k l n,vl o p q,vl s t u]] I2 ((b d)::(c e)::F2) fun e2 I3 G2=>e2=.returned (vt r1)∧List.Perm G2 ((b d)::(c e)::F2))∧((r1=true→Q (.returned (vt true)) I2 F2)∧(r1=false→(∃m2:Nat,m2<m1∧Inv16 x (IntKind.wrap .i64 (i+1)) m2 I2 F2)))))∧(decide (i<(a:Int))=false→Q (.returned (vt false)) I2 F2))))
theorem law15_longer.vc{p q r s t:Int}{u:Bs}{a:OA}{c d:Nat}{v:Int}{w:Bs}{e:OA}{f g:Nat}{i:OA}{j k:Nat}{l:OA}{n o:Nat}{I:Imm}{F:Heap}{Q:PostQ}(Inv16:Bool→Int→Nat→Imm→Heap→Prop)(h:law15_longer.V (fun b=>(b,Obj.cells #[.int .u8 p,.int .u8 q,.int .u8 r,.int .i64 s,.int .u8 t,.string u,.slice a c d,.int .i64 v] 35 (0,0))) (fun b=>(b,Obj.cells #[.string w,.slice e f g,.slice i j k,.slice l n o] 26 (0,0))) (.int .u8) (.int .i64) .string .slice .bool p q r s t u a c d v w e f g i j k l n o I F Q Inv16):Tri P 26 #[.agg #[.int .u8 p,.int .u8 q,.int .u8 r,.int .i64 s,.int .u8 t,.string u,.slice a c d,.int .i64 v],.agg #[.string w,.slice e f g,.slice i j k,.slice l n o]] I F Q :=
 tw (A:=(annL [1002,3000,5004,8000] [] [26,55] shT_y3 [(16,⟨[(4,.bool),(6,(.int .i64))],[],fun _ _ _ vs m I F=>match vs with | [.bool y0,.int _ y1]=>Inv16 y0 y1 m I F | _=>False,[],[]⟩)] [] [] [] [] [] [])) [26,55] func26 h
def ref00_CopyStrategy.V(y:Nat→Nat×Obj)(nV:Int→Int→Int→Int→Int→Bs→OA→Nat→Nat→Int→Value)(vb vi:Int→Value)(vs:Bs→Value)(vl:OA→Nat→Nat→Value)(a3:Bs)(aU:OA)(al a4:Nat)(aV:OA)(aW aX:Nat)(aY:OA)(am a5:Nat)(I:Imm)(F:Heap)(Q:PostQ)(Inv8:Int→Bs→OA→Nat→Nat→OA→Nat→Nat→OA→Nat→Nat→Nat→Imm→Heap→Prop)(Inv29:Int→Bs→OA→Nat→Nat→OA→Nat→Nat→OA→Nat→Nat→Nat→Imm→Heap→Prop):Prop:=∀z:Nat,∀b:Nat,∀aa:Nat,(∃m:Nat,Inv8 0 a3 none 0 0 none 0 0 none 0 0 m I F)∧∀(i:Int) (w:Bs) (a:OA) (c d:Nat) (e:OA) (f g:Nat) (h:OA) (j k m1:Nat) (I1:Imm) (F1:Heap),Imm.le I I1→Inv8 i w a c d e f g h j k m1 I1 F1→((decide (i<(al:Int))=true→((0≤i∧i<(al:Int))∧∃ad:Addr,aU=some ad∧∃(aj:Bs) (ak an ao ap aq ar:Int) (au:Bs) (ac:OA) (ae af:Nat) (av ab:Int),Rd I1 ((y z)::(b,Obj.cells #[vs (⟨#[]⟩:Bs),vl none 0 0,vl none 0 0,vl none 0 0] 26 (0,0))::(aa,Obj.cells #[vs w,vl a c d,vl e f g,vl h j k] 26 (0,0))::F1) (ad.add (Int.toNat i*11)) [vs aj,vb ak,vb an,vb ao,vb ap,vi aq,vb ar,vs au,vl ac ae af,vi av,vi ab]∧∀aJ:Nat,Tri P 53 #[nV an ao ap aq ar au ac ae af av] I1 ((y z)::(b,Obj.cells #[vs (⟨#[]⟩:Bs),vl none 0 0,vl none 0 0,vl none 0 0] 26 (0,0))::(aa,Obj.cells #[vs w,vl a c d,vl e f g,vl h j k] 26 (0,0))::(aJ,Obj.cells #[vs aj,vb ak,vb an,vb ao,vb ap,vi aq,vb ar,vs au,vl ac ae af,vi av,vi ab] 68 (0,0))::F1) fun e1 I2 G1=>∃(aw ax ay az aA:Int) (aB:Bs) (ag:OA) (ah ai:Nat) (aC:Int),e1=.returned (nV aw ax ay az aA aB ag ah ai aC)∧∃F2:Heap,List.Perm G1 ((y z)::(b,Obj.cells #[vs (⟨#[]⟩:Bs),vl none 0 0,vl none 0 0,vl none 0 0] 26 (0,0))::(aa,Obj.cells #[vs w,vl a c d,vl e f g,vl h j k] 26 (0,0))::(aJ,Obj.cells #[vs aj,vb ak,vb an,vb ao,vb ap,vi aq,vb ar,vs au,vl ac ae af,vi av,vi ab] 68 (0,0))::F2)∧∀(b1:Nat) (I3:Imm),Imm.le I2 I3→I3 b1=some (Obj.cells #[vs aj,vb ak,vb aw,vb ax,vb ay,vi az,vb aA,vs aB,vl ag ah ai,vi aC,vi ab] 68 (0,0))→TriE P (Builtin.append_ #[22,22] 22 #[vl a c d,vl (some ⟨b1,0,none⟩) 1 1]) I3 ((y z)::(b,Obj.cells #[vs (⟨#[]⟩:Bs),vl none 0 0,vl none 0 0,vl none 0 0] 26 (0,0))::(aa,Obj.cells #[vs w,vl a c d,vl e f g,vl h j k] 26 (0,0))::(aJ,Obj.cells #[vs aj,vb ak,vb aw,vb ax,vb ay,vi az,vb aA,vs aB,vl ag ah ai,vi aC,vi ab] 68 (0,0))::F2) fun v I4 G2=>∃(aZ:OA) (a0 a1:Nat),v=vl aZ a0 a1∧∃F3:Heap,List.Perm G2 ((y z)::(b,Obj.cells #[vs (⟨#[]⟩:Bs),vl none 0 0,vl none 0 0,vl none 0 0] 26 (0,0))::(aa,Obj.cells #[vs w,vl a c d,vl e f g,vl h j k] 26 (0,0))::(aJ,Obj.cells #[vs aj,vb ak,vb aw,vb ax,vb ay,vi az,vb aA,vs aB,vl ag ah ai,vi aC,vi ab] 68 (0,0))::F3)∧(∃m2:Nat,m2<m1∧Inv8 (IntKind.wrap .i64 (i+1)) w aZ a0 a1 e f g h j k m2 I4 F3)))∧(decide (i<(al:Int))=false→TriE P (Builtin.append_ #[23,23] 23 #[vl e f g,vl aV aW aX]) I1 ((y z)::(b,Obj.cells #[vs (⟨#[]⟩:Bs),vl none 0 0,vl none 0 0,vl none 0 0] 26 (0,0))::(aa,Obj.cells #[vs w,vl a c d,vl e f g,vl h j k] 26 (0,0))::F1) fun v1 I5 G3=>∃(aK:OA) (aL aM:Nat),v1=vl aK aL aM∧∃F4:Heap,List.Perm G3 ((y z)::(b,Obj.cells #[vs (⟨#[]⟩:Bs),vl none 0 0,vl none 0 0,vl none 0 0] 26 (0,0))::(aa,Obj.cells #[vs w,vl a c d,vl e f g,vl h j k] 26 (0,0))::F4)∧(∃m3:Nat,Inv29 0 w a c d aK aL aM h j k m3 I5 F4)∧∀(i1:Int) (x:Bs) (l:OA) (n o:Nat) (p:OA) (q r:Nat) (s:OA) (t u m4:Nat) (I6:Imm) (F5:Heap),Imm.le I5 I6→Inv29 i1 x l n o p q r s t u m4 I6 F5→((decide (i1<(am:Int))=true→((0≤i1∧i1<(am:Int))∧∃a2:Addr,aY=some a2∧∃(aN:Bs) (aD:OA) (aE aF:Nat) (aO:Int),Rd I6 ((y z)::(b,Obj.cells #[vs (⟨#[]⟩:Bs),vl none 0 0,vl none 0 0,vl none 0 0] 26 (0,0))::(aa,Obj.cells #[vs x,vl l n o,vl p q r,vl s t u] 26 (0,0))::F5) (a2.add (Int.toNat i1*3)) [vs aN,vl aD aE aF,vi aO]∧Tri P 54 #[.agg #[vs aN,vl aD aE aF,vi aO]] I6 ((y z)::(b,Obj.cells #[vs (⟨#[]⟩:Bs),vl none 0 0,vl none 0 0,vl none 0 0] 26 (0,0))::(aa,Obj.cells #[vs x,vl l n o,vl p q r,vl s t u] 26 (0,0))::F5) fun e2 I7 G4=>∃(aP:Bs) (aG:OA) (aH aI:Nat) (aQ:Int),e2=.returned (.agg #[vs aP,vl aG aH aI,vi aQ])∧∃F6:Heap,List.Perm G4 ((y z)::(b,Obj.cells #[vs (⟨#[]⟩:Bs),vl none 0 0,vl none 0 0,vl none 0 0] 26 (0,0))::(aa,Obj.cells #[vs x,vl l n o,vl p q r,vl s t u] 26 (0,0))::F6)∧∀(b2:Nat) (I8:Imm),Imm.le I7 I8→I8 b2=some (Obj.cells #[vs aP,vl aG aH aI,vi aQ] 74 (0,0))→TriE P (Builtin.append_ #[24,24] 24 #[vl s t u,vl (some ⟨b2,0,none⟩) 1 1]) I8 ((y z)::(b,Obj.cells #[vs (⟨#[]⟩:Bs),vl none 0 0,vl none 0 0,vl none 0 0] 26 (0,0))::(aa,Obj.cells #[vs x,vl l n o,vl p q r,vl s t u] 26 (0,0))::F6) fun v2 I9 G5=>∃(aR:OA) (aS aT:Nat),v2=vl aR aS aT∧∃F7:Heap,List.Perm G5 ((y z)::(b,Obj.cells #[vs (⟨#[]⟩:Bs),vl none 0 0,vl none 0 0,vl none 0 0] 26 (0,0))::(aa,Obj.cells #[vs x,vl l n o,vl p q r,vl s t u] 26 (0,0))::F7)∧(∃m5:Nat,m5<m4∧Inv29 (IntKind.wrap .i64 (i1+1)) x l n o p q r aR aS aT m5 I9 F7)))∧(decide (i1<(am:Int))=false→Q (.returned (.agg #[vs x,vl l n o,vl p q r,vl s t u])) I6 F5))))
theorem ref00_CopyStrategy.vc{w:Bs}{d:OA}{e g:Nat}{i:OA}{j p:Nat}{r:OA}{u v:Nat}{I:Imm}{F:Heap}{Q:PostQ}(Inv8:Int→Bs→OA→Nat→Nat→OA→Nat→Nat→OA→Nat→Nat→Nat→Imm→Heap→Prop)(Inv29:Int→Bs→OA→Nat→Nat→OA→Nat→Nat→OA→Nat→Nat→Nat→Imm→Heap→Prop)(h:ref00_CopyStrategy.V (fun b=>(b,Obj.cells #[.string w,.slice d e g,.slice i j p,.slice r u v] 26 (0,0))) (fun k o t n f s a l c q=>.agg #[.int .u8 k,.int .u8 o,.int .u8 t,.int .i64 n,.int .u8 f,.string s,.slice a l c,.int .i64 q]) (.int .u8) (.int .i64) .string .slice w d e g i j p r u v I F Q Inv8 Inv29):Tri P 24 #[.agg #[.string w,.slice d e g,.slice i j p,.slice r u v]] I F Q :=
 tw (A:=(annL [3004,10004] [] [53,54] shT_y3 [(8,⟨[(4,(.int .i64))],[(2,[.str,.slc,.slc,.slc])],fun _ _ _ vs m I F=>match vs with | [.int _ y0,.string y1,.slice y2 y3 y4,.slice y5 y6 y7,.slice y8 y9 y10]=>Inv8 y0 y1 y2 y3 y4 y5 y6 y7 y8 y9 y10 m I F | _=>False,[],[]⟩),(29,⟨[(6,(.int .i64))],[(2,[.str,.slc,.slc,.slc])],fun _ _ _ vs m I F=>match vs with | [.int _ y0,.string y1,.slice y2 y3 y4,.slice y5 y6 y7,.slice y8 y9 y10]=>Inv29 y0 y1 y2 y3 y4 y5 y6 y7 y8 y9 y10 m I F | _=>False,[],[]⟩)] [7003,12008] [] [] [] [(12,[0,2,4,1,3,5,6,7,8,9,10,11])] [] [] [(12,[1],11)])) [53,54] func24 h
def ref00_copyState.V(s:Nat→Nat×Obj)(nV:Int→Int→Int→Int→Int→Bs→OA→Nat→Nat→Int→Value)(vb vi:Int→Value)(vs:Bs→Value)(vl:OA→Nat→Nat→Value)(bZ:Bs)(bJ:OA)(w b3:Nat)(b0:Int)(I:Imm)(F:Heap)(Q:PostQ)(Inv8:OA→Nat→Nat→Int→Nat→Imm→Heap→Imm→Heap→Prop)(Inv25:Int→OA→Nat→Nat→Int→Nat→Imm→Heap→Imm→Heap→Prop):Prop:=∀t:Nat,∀b:Nat,(∃m:Nat,Inv8 none 0 0 0 m I F I F)∧∀(aH:OA) (aI aJ:Nat) (i:Int) (m1:Nat) (I1:Imm) (F1:Heap),Imm.le I I1→Inv8 aH aI aJ i m1 I F I1 F1→((decide (i<(w:Int))=true→((0≤i∧i<(w:Int))∧∃ad:Addr,bJ=some ad∧∃(h j l n o:Int) (p:Bs) (c:OA) (d e:Nat) (q:Int) (f:OA) (a g:Nat) (r:Int),Rd I1 ((s t)::(b,Obj.cells #[vs (⟨#[]⟩:Bs),vl none 0 0,vi 0] 74 (0,0))::F1) (ad.add (Int.toNat i*10)) [vb h,vb j,vb l,vi n,vb o,vs p,vl c d e,vi q,vl f a g,vi r]∧∀u:Nat,(∃m2:Nat,Inv25 i none 0 0 0 m2 I1 F1 I1 F1)∧∀(x:OA) (y z:Nat) (k:Int) (m3:Nat) (I2:Imm) (F2:Heap),Imm.le I1 I2→Inv25 i x y z k m3 I1 F1 I2 F2→((decide (k<(a:Int))=true→((0≤k∧k<(a:Int))∧∃bY:Addr,f=some bY∧∃(aK aL:Int) (aM:Bs) (aN aO aP bK aQ:Int) (bL:Bs) (av:OA) (aw ax:Nat) (aR ay aS aT aU aV:Int) (aW:Bs) (aa:OA) (ab ac:Nat) (aX aY aZ az a0 a1:Int) (a2:Bs) (ae:OA) (af ag:Nat) (a3 a4 a5 a6 a7 aA:Int) (a8:Bs) (ah:OA) (ai aj:Nat) (a9 ba:Int),Rd I2 ((s t)::(b,Obj.cells #[vs (⟨#[]⟩:Bs),vl none 0 0,vi 0] 74 (0,0))::(u,Obj.cells #[vb h,vb j,vb l,vi n,vb o,vs p,vl c d e,vi q,vl f a g,vi r] 87 (0,0))::F2) (bY.add (Int.toNat k*36)) [vb aK,vb aL,vs aM,vb aN,vb aO,vb aP,vi bK,vb aQ,vs bL,vl av aw ax,vi aR,vb ay,vb aS,vb aT,vi aU,vb aV,vs aW,vl aa ab ac,vi aX,vb aY,vb aZ,vb az,vi a0,vb a1,vs a2,vl ae af ag,vi a3,vb a4,vb a5,vb a6,vi a7,vb aA,vs a8,vl ah ai aj,vi a9,vi ba]∧Tri P 97 #[.agg #[vb aK,vb aL,vs aM,vb aN,vb aO,vb aP,vi bK,vb aQ,vs bL,vl av aw ax,vi aR,vb ay,vb aS,vb aT,vi aU,vb aV,vs aW,vl aa ab ac,vi aX,vb aY,vb aZ,vb az,vi a0,vb a1,vs a2,vl ae af ag,vi a3,vb a4,vb a5,vb a6,vi a7,vb aA,vs a8,vl ah ai aj,vi a9,vi ba]] I2 ((s t)::(b,Obj.cells #[vs (⟨#[]⟩:Bs),vl none 0 0,vi 0] 74 (0,0))::(u,Obj.cells #[vb h,vb j,vb l,vi n,vb o,vs p,vl c d e,vi q,vl f a g,vi r] 87 (0,0))::F2) fun e1 I3 G1=>∃(bM bN:Int) (bO:Bs) (bP bQ bR bS bT:Int) (bU:Bs) (aB:OA) (aC aD:Nat) (bb bc bd be bf bg:Int) (bh:Bs) (ak:OA) (al am:Nat) (bi bj bk bl bm bn:Int) (bo:Bs) (an:OA) (ao ap:Nat) (bp bq br bs bt bu:Int) (bv:Bs) (aq:OA) (ar au:Nat) (bw bx:Int),e1=.returned (.agg #[vb bM,vb bN,vs bO,vb bP,vb bQ,vb bR,vi bS,vb bT,vs bU,vl aB aC aD,vi bb,vb bc,vb bd,vb be,vi bf,vb bg,vs bh,vl ak al am,vi bi,vb bj,vb bk,vb bl,vi bm,vb bn,vs bo,vl an ao ap,vi bp,vb bq,vb br,vb bs,vi bt,vb bu,vs bv,vl aq ar au,vi bw,vi bx])∧∃F3:Heap,List.Perm G1 ((s t)::(b,Obj.cells #[vs (⟨#[]⟩:Bs),vl none 0 0,vi 0] 74 (0,0))::(u,Obj.cells #[vb h,vb j,vb l,vi n,vb o,vs p,vl c d e,vi q,vl f a g,vi r] 87 (0,0))::F3)∧∀(b1:Nat) (I4:Imm),Imm.le I3 I4→I4 b1=some (Obj.cells #[vb bM,vb bN,vs bO,vb bP,vb bQ,vb bR,vi bS,vb bT,vs bU,vl aB aC aD,vi bb,vb bc,vb bd,vb be,vi bf,vb bg,vs bh,vl ak al am,vi bi,vb bj,vb bk,vb bl,vi bm,vb bn,vs bo,vl an ao ap,vi bp,vb bq,vb br,vb bs,vi bt,vb bu,vs bv,vl aq ar au,vi bw,vi bx] 95 (0,0))→TriE P (Builtin.append_ #[85,85] 85 #[vl x y z,vl (some ⟨b1,0,none⟩) 1 1]) I4 ((s t)::(b,Obj.cells #[vs (⟨#[]⟩:Bs),vl none 0 0,vi 0] 74 (0,0))::(u,Obj.cells #[vb h,vb j,vb l,vi n,vb o,vs p,vl c d e,vi q,vl f a g,vi r] 87 (0,0))::F3) fun v I5 G2=>∃(bV:OA) (bW bX:Nat),v=vl bV bW bX∧∃F4:Heap,List.Perm G2 ((s t)::(b,Obj.cells #[vs (⟨#[]⟩:Bs),vl none 0 0,vi 0] 74 (0,0))::(u,Obj.cells #[vb h,vb j,vb l,vi n,vb o,vs p,vl c d e,vi q,vl f a g,vi r] 87 (0,0))::F4)∧(∃m4:Nat,m4<m3∧Inv25 i bV bW bX (IntKind.wrap .i64 (k+1)) m4 I1 F1 I5 F4)))∧(decide (k<(a:Int))=false→Tri P 53 #[nV h j l n o p c d e q] I2 ((s t)::(b,Obj.cells #[vs (⟨#[]⟩:Bs),vl none 0 0,vi 0] 74 (0,0))::(u,Obj.cells #[vb h,vb j,vb l,vi n,vb o,vs p,vl c d e,vi q,vl f a g,vi r] 87 (0,0))::F2) fun e2 I6 G3=>∃(bz bA bB bC bD:Int) (bE:Bs) (aE:OA) (aF aG:Nat) (bF:Int),e2=.returned (nV bz bA bB bC bD bE aE aF aG bF)∧∃F5:Heap,List.Perm G3 ((s t)::(b,Obj.cells #[vs (⟨#[]⟩:Bs),vl none 0 0,vi 0] 74 (0,0))::(u,Obj.cells #[vb h,vb j,vb l,vi n,vb o,vs p,vl c d e,vi q,vl f a g,vi r] 87 (0,0))::F5)∧∀(b2:Nat) (I7:Imm),Imm.le I6 I7→I7 b2=some (Obj.cells #[vb bz,vb bA,vb bB,vi bC,vb bD,vs bE,vl aE aF aG,vi bF,vl x y z,vi r] 87 (0,0))→TriE P (Builtin.append_ #[72,72] 72 #[vl aH aI aJ,vl (some ⟨b2,0,none⟩) 1 1]) I7 ((s t)::(b,Obj.cells #[vs (⟨#[]⟩:Bs),vl none 0 0,vi 0] 74 (0,0))::(u,Obj.cells #[vb h,vb j,vb l,vi n,vb o,vs p,vl c d e,vi q,vl f a g,vi r] 87 (0,0))::F5) fun v1 I8 G4=>∃(bG:OA) (bH bI:Nat),v1=vl bG bH bI∧∃F6:Heap,List.Perm G4 ((s t)::(b,Obj.cells #[vs (⟨#[]⟩:Bs),vl none 0 0,vi 0] 74 (0,0))::(u,Obj.cells #[vb h,vb j,vb l,vi n,vb o,vs p,vl c d e,vi q,vl f a g,vi r] 87 (0,0))::F6)∧(∃m5:Nat,m5<m1∧Inv8 bG bH bI (IntKind.wrap .i64 (i+1)) m5 I F I8 F6)))))∧(decide (i<(w:Int))=false→Q (.returned (.agg #[vs bZ,vl aH aI aJ,vi b0])) I1 F1))
theorem ref00_copyState.vc{i:Bs}{d:OA}{e g:Nat}{j:Int}{I:Imm}{F:Heap}{Q:PostQ}(Inv8:OA→Nat→Nat→Int→Nat→Imm→Heap→Imm→Heap→Prop)(Inv25:Int→OA→Nat→Nat→Int→Nat→Imm→Heap→Imm→Heap→Prop)(h:ref00_copyState.V (fun b=>(b,Obj.cells #[.string i,.slice d e g,.int .i64 j] 74 (0,0))) (fun k o t n f s a l c q=>.agg #[.int .u8 k,.int .u8 o,.int .u8 t,.int .i64 n,.int .u8 f,.string s,.slice a l c,.int .i64 q]) (.int .u8) (.int .i64) .string .slice i d e g j I F Q Inv8 Inv25):Tri P 54 #[.agg #[.string i,.slice d e g,.int .i64 j]] I F Q :=
 tw (A:=(annL [3004,8004] [] [53,97] shT_y3 [(8,⟨[(3,.slc),(4,(.int .i64))],[],fun fs I0 F0 vs m I F=>match fs,vs with | [],[.slice y0 y1 y2,.int _ y3]=>Inv8 y0 y1 y2 y3 m I0 F0 I F | _,_=>False,[],[]⟩),(25,⟨[(6,.slc),(7,(.int .i64))],[],fun fs I0 F0 vs m I F=>match fs,vs with | [.int _ y0],[.slice y1 y2 y3,.int _ y4]=>Inv25 y0 y1 y2 y3 y4 m I0 F0 I F | _,_=>False,[4],[]⟩)] [10007,11008] [] [] [] [(11,[0,1,4,5,6,2,3,7,8,9,10])] [] [] [(11,[6],11)])) [53,97] func54 h
def ref00_copyDo.V(nV:Int→Int→Int→Int→Int→Bs→OA→Nat→Nat→Int→Value)(vb vi:Int→Value)(vs:Bs→Value)(vl:OA→Nat→Nat→Value)(af ag:Int)(ah:Bs)(aX aY aZ a0 a1:Int)(a2:Bs)(aJ:OA)(aK aL:Nat)(aW aC aD aE aF aG:Int)(aH:Bs)(v:OA)(w x:Nat)(aI y z aa ab ac:Int)(ad:Bs)(e:OA)(f g:Nat)(ae n o p q r:Int)(s:Bs)(a:OA)(c d:Nat)(t u:Int)(I:Imm)(F:Heap)(Q:PostQ)  : Prop:=∀aB:Nat,∀b:Nat,Tri P 53 #[nV aX aY aZ a0 a1 a2 aJ aK aL aW] I ((aB,Obj.cells #[vb af,vb ag,vs ah,vb aX,vb aY,vb aZ,vi a0,vb a1,vs a2,vl aJ aK aL,vi aW,vb aC,vb aD,vb aE,vi aF,vb aG,vs aH,vl v w x,vi aI,vb y,vb z,vb aa,vi ab,vb ac,vs ad,vl e f g,vi ae,vb n,vb o,vb p,vi q,vb r,vs s,vl a c d,vi t,vi u] 95 (0,0))::(b,Obj.cells #[vb 0,vb 0,vs (⟨#[]⟩:Bs),vb 0,vb 0,vb 0,vi 0,vb 0,vs (⟨#[]⟩:Bs),vl none 0 0,vi 0,vb 0,vb 0,vb 0,vi 0,vb 0,vs (⟨#[]⟩:Bs),vl none 0 0,vi 0,vb 0,vb 0,vb 0,vi 0,vb 0,vs (⟨#[]⟩:Bs),vl none 0 0,vi 0,vb 0,vb 0,vb 0,vi 0,vb 0,vs (⟨#[]⟩:Bs),vl none 0 0,vi 0,vi 0] 95 (0,0))::F) fun e1 I1 G1=>∃(au av aw ax ay:Int) (az:Bs) (h:OA) (i j:Nat) (aA:Int),e1=.returned (nV au av aw ax ay az h i j aA)∧∃F1:Heap,List.Perm G1 ((aB,Obj.cells #[vb af,vb ag,vs ah,vb aX,vb aY,vb aZ,vi a0,vb a1,vs a2,vl aJ aK aL,vi aW,vb aC,vb aD,vb aE,vi aF,vb aG,vs aH,vl v w x,vi aI,vb y,vb z,vb aa,vi ab,vb ac,vs ad,vl e f g,vi ae,vb n,vb o,vb p,vi q,vb r,vs s,vl a c d,vi t,vi u] 95 (0,0))::(b,Obj.cells #[vb 0,vb 0,vs (⟨#[]⟩:Bs),vb 0,vb 0,vb 0,vi 0,vb 0,vs (⟨#[]⟩:Bs),vl none 0 0,vi 0,vb 0,vb 0,vb 0,vi 0,vb 0,vs (⟨#[]⟩:Bs),vl none 0 0,vi 0,vb 0,vb 0,vb 0,vi 0,vb 0,vs (⟨#[]⟩:Bs),vl none 0 0,vi 0,vb 0,vb 0,vb 0,vi 0,vb 0,vs (⟨#[]⟩:Bs),vl none 0 0,vi 0,vi 0] 95 (0,0))::F1)∧Tri P 53 #[nV aC aD aE aF aG aH v w x aI] I1 ((aB,Obj.cells #[vb af,vb ag,vs ah,vb au,vb av,vb aw,vi ax,vb ay,vs az,vl h i j,vi aA,vb aC,vb aD,vb aE,vi aF,vb aG,vs aH,vl v w x,vi aI,vb y,vb z,vb aa,vi ab,vb ac,vs ad,vl e f g,vi ae,vb n,vb o,vb p,vi q,vb r,vs s,vl a c d,vi t,vi u] 95 (0,0))::(b,Obj.cells #[vb 0,vb 0,vs (⟨#[]⟩:Bs),vb 0,vb 0,vb 0,vi 0,vb 0,vs (⟨#[]⟩:Bs),vl none 0 0,vi 0,vb 0,vb 0,vb 0,vi 0,vb 0,vs (⟨#[]⟩:Bs),vl none 0 0,vi 0,vb 0,vb 0,vb 0,vi 0,vb 0,vs (⟨#[]⟩:Bs),vl none 0 0,vi 0,vb 0,vb 0,vb 0,vi 0,vb 0,vs (⟨#[]⟩:Bs),vl none 0 0,vi 0,vi 0] 95 (0,0))::F1) fun e2 I2 G2=>∃(al am an ao ap:Int) (aq:Bs) (k:OA) (l m:Nat) (ar:Int),e2=.returned (nV al am an ao ap aq k l m ar)∧∃F2:Heap,List.Perm G2 ((aB,Obj.cells #[vb af,vb ag,vs ah,vb au,vb av,vb aw,vi ax,vb ay,vs az,vl h i j,vi aA,vb aC,vb aD,vb aE,vi aF,vb aG,vs aH,vl v w x,vi aI,vb y,vb z,vb aa,vi ab,vb ac,vs ad,vl e f g,vi ae,vb n,vb o,vb p,vi q,vb r,vs s,vl a c d,vi t,vi u] 95 (0,0))::(b,Obj.cells #[vb 0,vb 0,vs (⟨#[]⟩:Bs),vb 0,vb 0,vb 0,vi 0,vb 0,vs (⟨#[]⟩:Bs),vl none 0 0,vi 0,vb 0,vb 0,vb 0,vi 0,vb 0,vs (⟨#[]⟩:Bs),vl none 0 0,vi 0,vb 0,vb 0,vb 0,vi 0,vb 0,vs (⟨#[]⟩:Bs),vl none 0 0,vi 0,vb 0,vb 0,vb 0,vi 0,vb 0,vs (⟨#[]⟩:Bs),vl none 0 0,vi 0,vi 0] 95 (0,0))::F2)∧Tri P 53 #[nV y z aa ab ac ad e f g ae] I2 ((aB,Obj.cells #[vb af,vb ag,vs ah,vb au,vb av,vb aw,vi ax,vb ay,vs az,vl h i j,vi aA,vb al,vb am,vb an,vi ao,vb ap,vs aq,vl k l m,vi ar,vb y,vb z,vb aa,vi ab,vb ac,vs ad,vl e f g,vi ae,vb n,vb o,vb p,vi q,vb r,vs s,vl a c d,vi t,vi u] 95 (0,0))::(b,Obj.cells #[vb 0,vb 0,vs (⟨#[]⟩:Bs),vb 0,vb 0,vb 0,vi 0,vb 0,vs (⟨#[]⟩:Bs),vl none 0 0,vi 0,vb 0,vb 0,vb 0,vi 0,vb 0,vs (⟨#[]⟩:Bs),vl none 0 0,vi 0,vb 0,vb 0,vb 0,vi 0,vb 0,vs (⟨#[]⟩:Bs),vl none 0 0,vi 0,vb 0,vb 0,vb 0,vi 0,vb 0,vs (⟨#[]⟩:Bs),vl none 0 0,vi 0,vi 0] 95 (0,0))::F2) fun e3 I3 G3=>∃(aM aN aO aP aQ:Int) (aR:Bs) (ai:OA) (aj ak:Nat) (aS:Int),e3=.returned (nV aM aN aO aP aQ aR ai aj ak aS)∧∃F3:Heap,List.Perm G3 ((aB,Obj.cells #[vb af,vb ag,vs ah,vb au,vb av,vb aw,vi ax,vb ay,vs az,vl h i j,vi aA,vb al,vb am,vb an,vi ao,vb ap,vs aq,vl k l m,vi ar,vb y,vb z,vb aa,vi ab,vb ac,vs ad,vl e f g,vi ae,vb n,vb o,vb p,vi q,vb r,vs s,vl a c d,vi t,vi u] 95 (0,0))::(b,Obj.cells #[vb 0,vb 0,vs (⟨#[]⟩:Bs),vb 0,vb 0,vb 0,vi 0,vb 0,vs (⟨#[]⟩:Bs),vl none 0 0,vi 0,vb 0,vb 0,vb 0,vi 0,vb 0,vs (⟨#[]⟩:Bs),vl none 0 0,vi 0,vb 0,vb 0,vb 0,vi 0,vb 0,vs (⟨#[]⟩:Bs),vl none 0 0,vi 0,vb 0,vb 0,vb 0,vi 0,vb 0,vs (⟨#[]⟩:Bs),vl none 0 0,vi 0,vi 0] 95 (0,0))::F3)∧Tri P 53 #[nV n o p q r s a c d t] I3 ((aB,Obj.cells #[vb af,vb ag,vs ah,vb au,vb av,vb aw,vi ax,vb ay,vs az,vl h i j,vi aA,vb al,vb am,vb an,vi ao,vb ap,vs aq,vl k l m,vi ar,vb aM,vb aN,vb aO,vi aP,vb aQ,vs aR,vl ai aj ak,vi aS,vb n,vb o,vb p,vi q,vb r,vs s,vl a c d,vi t,vi u] 95 (0,0))::(b,Obj.cells #[vb 0,vb 0,vs (⟨#[]⟩:Bs),vb 0,vb 0,vb 0,vi 0,vb 0,vs (⟨#[]⟩:Bs),vl none 0 0,vi 0,vb 0,vb 0,vb 0,vi 0,vb 0,vs (⟨#[]⟩:Bs),vl none 0 0,vi 0,vb 0,vb 0,vb 0,vi 0,vb 0,vs (⟨#[]⟩:Bs),vl none 0 0,vi 0,vb 0,vb 0,vb 0,vi 0,vb 0,vs (⟨#[]⟩:Bs),vl none 0 0,vi 0,vi 0] 95 (0,0))::F3) fun e4 I4 G4=>∃(a3 a4 a5 a6 a7:Int) (a8:Bs) (aT:OA) (aU aV:Nat) (a9:Int),e4=.returned (nV a3 a4 a5 a6 a7 a8 aT aU aV a9)∧∃F4:Heap,List.Perm G4 ((aB,Obj.cells #[vb af,vb ag,vs ah,vb au,vb av,vb aw,vi ax,vb ay,vs az,vl h i j,vi aA,vb al,vb am,vb an,vi ao,vb ap,vs aq,vl k l m,vi ar,vb aM,vb aN,vb aO,vi aP,vb aQ,vs aR,vl ai aj ak,vi aS,vb n,vb o,vb p,vi q,vb r,vs s,vl a c d,vi t,vi u] 95 (0,0))::(b,Obj.cells #[vb 0,vb 0,vs (⟨#[]⟩:Bs),vb 0,vb 0,vb 0,vi 0,vb 0,vs (⟨#[]⟩:Bs),vl none 0 0,vi 0,vb 0,vb 0,vb 0,vi 0,vb 0,vs (⟨#[]⟩:Bs),vl none 0 0,vi 0,vb 0,vb 0,vb 0,vi 0,vb 0,vs (⟨#[]⟩:Bs),vl none 0 0,vi 0,vb 0,vb 0,vb 0,vi 0,vb 0,vs (⟨#[]⟩:Bs),vl none 0 0,vi 0,vi 0] 95 (0,0))::F4)∧Q (.returned (.agg #[vb af,vb ag,vs ah,vb au,vb av,vb aw,vi ax,vb ay,vs az,vl h i j,vi aA,vb al,vb am,vb an,vi ao,vb ap,vs aq,vl k l m,vi ar,vb aM,vb aN,vb aO,vi aP,vb aQ,vs aR,vl ai aj ak,vi aS,vb a3,vb a4,vb a5,vi a6,vb a7,vs a8,vl aT aU aV,vi a9,vi u])) I4 (F4)
theorem ref00_copyDo.vc{ax ay:Int}{az:Bs}{aA aB aC aD aE:Int}{aF:Bs}{u:OA}{v w:Nat}{x y z aa ab ac:Int}{ad:Bs}{b:OA}{d e:Nat}{ae af ag ah ai aj:Int}{ak:Bs}{g:OA}{i j:Nat}{al am ao ap aq ar:Int}{au:Bs}{m:OA}{p r:Nat}{av aw:Int}{I:Imm}{F:Heap}{Q:PostQ}  (h:ref00_copyDo.V (fun k o t n f s a l c q=>.agg #[.int .u8 k,.int .u8 o,.int .u8 t,.int .i64 n,.int .u8 f,.string s,.slice a l c,.int .i64 q]) (.int .u8) (.int .i64) .string .slice ax ay az aA aB aC aD aE aF u v w x y z aa ab ac ad b d e ae af ag ah ai aj ak g i j al am ao ap aq ar au m p r av aw I F Q):Tri P 97 #[.agg #[.int .u8 ax,.int .u8 ay,.string az,.int .u8 aA,.int .u8 aB,.int .u8 aC,.int .i64 aD,.int .u8 aE,.string aF,.slice u v w,.int .i64 x,.int .u8 y,.int .u8 z,.int .u8 aa,.int .i64 ab,.int .u8 ac,.string ad,.slice b d e,.int .i64 ae,.int .u8 af,.int .u8 ag,.int .u8 ah,.int .i64 ai,.int .u8 aj,.string ak,.slice g i j,.int .i64 al,.int .u8 am,.int .u8 ao,.int .u8 ap,.int .i64 aq,.int .u8 ar,.string au,.slice m p r,.int .i64 av,.int .i64 aw]] I F Q :=
 tw (A:=(an [] [53] shT_y3)) [53] func97 h
def ref15_Word.V(vt:Bool→Value)(s:Bs)(I:Imm)(F:Heap)(Q:PostQ)  : Prop:=Tri P 67 #[.string s] I F fun e1 I1 G1=>∃(r:Bool),e1=.returned (vt r)∧∃F1:Heap,List.Perm G1 F1∧(((((⟨#[122]⟩:Bs).size+s.size:Nat):Int)≤IntKind.i64.max)∧Tri P 67 (#[.string ((⟨#[122]⟩:Bs)++s)]) I1 F1 fun e2 I2 G2=>∃(r1:Bool),e2=.returned (vt r1)∧∃F2:Heap,List.Perm G2 F2∧(((!r)=true→Q (.returned (vt true)) I2 F2)∧((!r)=false→Q (.returned (vt (!r1))) I2 F2)))
theorem ref15_Word.vc{s:Bs}{I:Imm}{F:Heap}{Q:PostQ}  (h:ref15_Word.V .bool s I F Q):Tri P 55 #[.string s] I F Q :=
 tw (A:=(an [3001] [67] shT_y3)) [67] func55 h
end Go.Lx
namespace Go.Lx
open Go.Vc
abbrev awS:StgP:=(parseS exS).1
abbrev awT:StgP:=(parseS exT).1
theorem aw_s:awS.types=zTF:=by kernel_rfl
theorem aw_t:awT.types=⟨151,36,false⟩:=by kernel_rfl
theorem aw_n:typeOf awS (parseE exN).1=(3,zTF):=by kernel_rfl
theorem aw_m:(typeOf awS (parseE exM).1).2=⟨152,4,true⟩:=by kernel_rfl
theorem aw_ls:awS.Light:=StgP.light (of_decide_eq_true (by kernel_rfl))
theorem aw_lt:awT.Light:=StgP.light (of_decide_eq_true (by kernel_rfl))
theorem aw_zn:(parseE exN).1.size≤1048576:=of_decide_eq_true (by kernel_rfl)
theorem aw_zm:(parseE exM).1.size≤1048576:=of_decide_eq_true (by kernel_rfl)
theorem sub0{F:Heap}:∀x,x∈([]:Heap)→x∈F:=fun x hx=>absurd hx (by simp)
theorem awake15_spec{I:Imm}(hg:Gl I)(F:Heap):Tri P 10 #[] I F (Ret (.bool true) F):=by
 refine law15_awake.vc ?_
 unfold law15_awake.V
 refine (rStrategy_spec exS (by unfold Short;decide) I _).mono fun e I1 G l1 ⟨s,he,hs,oks,hG⟩=>?_
 refine⟨_,_,_,_,_,_,_,_,_,_,_,_,_,he,F,by rw[hG],fun b_s b_=>?_⟩
 refine (rStrategy_spec exT (by unfold Short;decide) I1 _).mono fun e I2 G l2 ⟨t,he,ht,okt,hG⟩=>?_
 refine⟨_,_,_,_,_,_,_,_,_,_,_,_,_,he,F,by rw[hG],fun b_t b_1=>?_⟩
 refine (rExpr_spec exN (by unfold Short;decide) I2 _).mono fun e I3 G l3 ⟨n,he,hn,okn,hG⟩=>?_
 refine⟨_,_,_,_,_,_,_,_,_,_,_,_,_,he,F,by rw[hG],fun b_n b_2=>?_⟩
 refine (rExpr_spec exM (by unfold Short;decide) I3 _).mono fun e I4 G l4 ⟨m,he,hm,okm,hG⟩=>?_
 refine⟨_,_,_,_,_,_,_,_,_,_,_,_,_,he,F,by rw[hG],fun b_m b_3=>?_⟩
 have ls:s.p.Light:=hs▸aw_ls
 have lt:t.p.Light:=ht▸aw_lt
 have lr:=ls.regs
 simp only[StgN.p,List.length_map] at lr
 have l24:=Imm.le_trans l2 (Imm.le_trans l3 l4)
 have l34:=Imm.le_trans l3 l4
 have hg4:=hg.mono (Imm.le_trans l1 l24)
 refine Tri.retV (pCheck_spec s ls (oks.mono l24 sub0) hg4) fun v5 I5 l5 hv5=>⟨v5,rfl,F,.refl _, ?_⟩
 refine Tri.retV (pCheck_spec t lt (okt.mono (Imm.le_trans l34 l5) sub0) (hg4.mono l5)) fun v6 I6 l6 hv6=>⟨v6,rfl,F,.refl _, ?_⟩
 have l56:=Imm.le_trans l5 l6
 refine Tri.ret (Wrong_chk (hg4.mono l56) (types_Z t.p) hv6 _) fun I7 l7=>⟨_,_,rfl,F,.refl _, ?_⟩
 have l57:=Imm.le_trans l56 l7
 refine Tri.retV (pOf_spec s lr n (by rw[hn];exact aw_zn) I7 _ (oks.mono (Imm.le_trans l24 l57) sub0) (okn.mono (Imm.le_trans l4 l57) sub0)) fun v8 I8 l8 ⟨w8,hv8,hw8⟩=>⟨_,_,congrArg Ending.returned hv8,F,.refl _, ?_⟩
 have l58:=Imm.le_trans l57 l8
 refine Tri.retV (pOf_spec s lr m (by rw[hm];exact aw_zm) I8 _ (oks.mono (Imm.le_trans l24 l58) sub0) (okm.mono l58 sub0)) fun v9 I9 l9 ⟨w9,hv9,hw9⟩=>⟨_,_,congrArg Ending.returned hv9,F,.refl _, ?_⟩
 refine Tri.ret (Wrong_of (hg4.mono (Imm.le_trans l58 l9)) (typeOf_Z s.p m.px) hw9 _) fun I10 l10=>⟨_,_,rfl,F,.refl _, ?_⟩
 have e5:v5=.nilIface:=hv5.1 (by rw[hs];show awS.types.e=0;rw[aw_s];rfl)
 have e8:w8=.nilIface:=hw8.1 (by rw[hs,hn];show (typeOf awS (parseE exN).1).2.e=0;rw[aw_n];rfl)
 have et:t.p.types=⟨151,36,false⟩:=by rw[ht];exact aw_t
 have em:(typeOf s.p m.px).2=⟨152,4,true⟩:=by rw[hs,hm];exact aw_m
 have en:(typeOf s.p n.px).1=3:=by rw[hs,hn];show (typeOf awS (parseE exN).1).1=3;rw[aw_n]
 rw[e5,e8,et,em,en]
 refine⟨true,nil_nil' (by kernel_rfl),fun _=>⟨fun _=>⟨fun _=>⟨true,nil_nil' (by kernel_rfl),fun _=>⟨fun _=>⟨fun _=>⟨rfl,rfl⟩,fun h=>(by cases h)⟩,fun h=>(by cases h)⟩,fun h=>(by cases h)⟩,fun h=>(by cases h)⟩,fun h=>(by cases h)⟩,fun h=>(by cases h)⟩
theorem far15_spec(s:StgN)(t:Nd)(hs:s.p.Short)(ht:t.px.ShortP)(I:Imm)(F:Heap)(hok:s.Ok I F)(hto:NdOk I F t):Tri P 11 #[s.v,t.v] I F fun e I' G=>∃r:Bool,e=.returned (.bool r)∧G=F∧(r=false→s.p.Light∧t.px.size≤1048576):=by
 refine law15_far.vc ?_
 unfold law15_far.V
 intro b_s b_n
 refine (weighStg_spec s hs I _ hok.cons.cons).mono fun e I1 G l1 ⟨r,he,hG,h0,h1,hl⟩=>?_
 subst hG
 refine⟨r,he,F,.refl _,fun hr=>⟨true,rfl,rfl,fun h=>(by cases h)⟩,fun hr=>?_⟩
 have hr:=of_decide_eq_false hr
 refine Tri.ret (weigh_spec t ht r 0 I1 _ (hto.mono l1 fun y hy=>.tail _ (.tail _ hy)) h0 (by omega) (by decide) (by decide)) fun I2 l2=>⟨_,rfl,F,.refl _,_,rfl,rfl,fun h=>⟨hl (by omega), ?_⟩⟩
 have h:=of_decide_eq_false h
 have:=Px.weigh_size t.px r 0 (by omega)
 omega
end Go.Lx
namespace Go.Vc
theorem append_whole{P:Program}{α:Type}{z:Nat}{f:α→List Value}(hz:∀x,(f x).length=z)(hz0:0<z){t ty e:TypeId}{zv:Value}{by':Nat}(ht:P.underlying t=some (.slice e))(hi:(P.info? e).map (fun i=>(i.zero,i.size,i.bytes))=some (some zv,z,by'))(hzs:zv.cells.size=z)(hb:1≤by')
  {xs:List α} {sa:Option Addr} {m sc:Nat} {I:Imm} {F:Heap} (hS:SlG I F z f sa m xs) (hfit:xs.length*by'≤140737488355328) :
  TriE P (Builtin.append_ #[t,t] ty #[.slice none 0 0,.slice sa m sc]) I F fun v I' G=>∃a' n' c' A',v=.slice a' n' c'∧Acc z f e a' n' c' xs A'∧G=A'++F:=by
 cases h:P.info? e with
 | none=>rw[h] at hi;cases hi
 | some i =>
   rw[h] at hi
   simp only[Option.map_some,Option.some.injEq,Prod.mk.injEq] at hi
   obtain⟨hzv,hsz,hby⟩:=hi
   intro w hw
   obtain⟨hn,hr⟩:=hS
   subst hn hsz hby
   by_cases hx:xs=[]
   ·subst hx
    refine⟨.slice none 0 0,w,I,F, ?_,Imm.le_refl I,hw,none,0,0,[],rfl,Acc.nil,rfl⟩
    cases sa with
    | none=>simp[Builtin.append_,run_underlying ht,sizeOf,typeInfo,h,Builtin.lenOf,Builtin.firstCells]
    | some a =>
      have hf:=run_firstCells_some (P:=P) w i.size 0 a 0 sc [] (by simp) (by simp)
      simp[Builtin.append_,run_underlying ht,sizeOf,typeInfo,h,Builtin.lenOf,hf]
   ·obtain⟨ad,rfl,hrd⟩:=hr hx
    have hlen:(xs.flatMap f).length=xs.length*i.size:=flat_len hz xs
    have hxp:0<xs.length:=List.length_pos_iff.2 hx
    have hle:xs.length≤140737488355328:=Nat.le_trans (Nat.le_mul_of_pos_right _ hb) hfit
    have hnews:∀j u,(xs.flatMap f)[j]? = some u→w.cell? (ad.add j)=some u:=fun j u hj=>by
     have hjl:j<xs.length*i.size:=by
      rw[←hlen];exact (List.getElem?_eq_some_iff.1 hj).1
     have h1:j / i.size<xs.length:=Nat.div_lt_of_lt_mul (by rw[Nat.mul_comm];exact hjl)
     have h2:j % i.size<i.size:=Nat.mod_lt _ hz0
     have hxi:xs[j / i.size]? = some xs[j / i.size]:=List.getElem?_eq_getElem h1
     have hc:=(hrd _ _ hxi).cell hw (j % i.size) (by rw[hz];exact h2)
     have hg:=flat_get f i.size hz xs _ _ (j % i.size) hxi h2
     have hd:j / i.size*i.size+j % i.size=j:=Nat.div_add_mod' j i.size
     rw[hd,hj] at hg
     rw[Addr.add_add,hd,←hg] at hc
     exact hc
    have hrun:=run_append_nil (P:=P) w t ty e i zv ht h hzv ad xs.length sc _ hlen hnews hxp (by omega) (by omega)
    have hge:=grownCap_ge w xs.length 0 e
    have hsat:Sat I F w.drew:=hw.of_heap rfl ⟨rfl,rfl⟩
    refine⟨_,_,I,_,hrun,Imm.le_refl I,hsat.alloc _,_,_,_,[_],rfl,⟨rfl,.inr ⟨_,_,rfl,rfl, ?_,hge, ?_⟩⟩,rfl⟩
    ·simp only[Array.size_append,List.size_toArray,size_zeroCells,hzs,hlen,←Nat.add_mul]
     congr 1;omega
    ·rw[Array.toList_append,←hlen];exact List.take_left
end Go.Vc
namespace Go.Lx
open Go.Vc
theorem flatH_nils:∀n:Nat,flatH n (fun _=>([]:Heap))=[]
 | 0=>by rw[flatH_zero]
 | n+1=>by rw[flatH_succ,flatH_nils n];rfl
theorem copyDo_spec(d:DoN)(hs:Small d.p.nds)(I:Imm)(F:Heap)(hd:d.Ok I F):Tri P 97 #[d.v] I F fun e I' G=>∃(d':DoN) (H:Heap),e=.returned d'.v∧d'.p=d.p∧DoOwn false d' H∧G.Perm (H++F):=by
 refine ref00_copyDo.vc ?_
 unfold ref00_copyDo.V
 intro b_d b
 simp only[Small,DoP.nds,DoN.p,List.mem_cons,List.not_mem_nil,or_false] at hs
 refine (copy_spec d.side (hs _ (.inl rfl)) I _ hd.1.cons.cons).mono fun e I1 G l1 ⟨t1,H1,he,p1,o1,hG⟩=>?_
 subst he
 refine⟨_,_,_,_,_,_,_,_,_,_,rfl,H1++F,hG.trans (perm_of fun z=>by simp only[cn_app,cn_cons,cn_nil];omega), ?_⟩
 have k1:d.Ok I1 (H1++F):=hd.mono l1 fun a ha=>List.mem_append_right _ ha
 refine (copy_spec d.qty (hs _ (.inr (.inl rfl))) I1 _ k1.2.1.cons.cons).mono fun e I2 G l2 ⟨t2,H2,he,p2,o2,hG⟩=>?_
 subst he
 refine⟨_,_,_,_,_,_,_,_,_,_,rfl,H2++(H1++F),hG.trans (perm_of fun z=>by simp only[cn_app,cn_cons,cn_nil];omega), ?_⟩
 have k2:d.Ok I2 (H2++(H1++F)):=k1.mono l2 fun a ha=>List.mem_append_right _ ha
 refine (copy_spec d.price (hs _ (.inr (.inr (.inl rfl)))) I2 _ k2.2.2.1.cons.cons).mono fun e I3 G l3 ⟨t3,H3,he,p3,o3,hG⟩=>?_
 subst he
 refine⟨_,_,_,_,_,_,_,_,_,_,rfl,H3++(H2++(H1++F)),hG.trans (perm_of fun z=>by simp only[cn_app,cn_cons,cn_nil];omega), ?_⟩
 have k3:d.Ok I3 (H3++(H2++(H1++F))):=k2.mono l3 fun a ha=>List.mem_append_right _ ha
 refine (copy_spec d.value (hs _ (.inr (.inr (.inr rfl)))) I3 _ k3.2.2.2.cons.cons).mono fun e I4 G l4 ⟨t4,H4,he,p4,o4,hG⟩=>?_
 subst he
 refine⟨_,_,_,_,_,_,_,_,_,_,rfl,H4++(H3++(H2++(H1++F))),hG.trans (perm_of fun z=>by simp only[cn_app,cn_cons,cn_nil];omega),⟨d.kind,d.order,d.name,t1,t2,t3,t4,d.pos⟩,H1++(H2++(H3++H4)),rfl, ?_,⟨H1,H2,H3,H4,rfl,o1,o2,o3,o4⟩,(perm_of fun z=>by simp only[cn_app,cn_cons,cn_nil];omega)⟩
 show DoP.mk _ _ _ _ _ _ _ _=_
 rw[p1,p2,p3,p4];rfl
theorem copyState_spec(x:StateN)(hs:x.p.Light)(I:Imm)(F:Heap)(hx:x.Ok I F):Tri P 54 #[x.v] I F fun e I' G=>∃(x':StateN) (H:Heap),e=.returned x'.v∧x'.p=x.p∧StateOwn false x' H∧G.Perm (H++F):=by
 have hl:=hs.1
 have hru:∀r∈x.rules,r.p.Light:=fun r hr=>hs.2 _ (List.mem_map_of_mem hr)
 have hdl:∀r∈x.rules,r.dos.length≤1048576:=fun r hr=>by have:=(hru r hr).2.1;simpa only[RuleN.p,List.length_map] using this
 simp only[StateN.p,List.length_map] at hl
 refine ref00_copyState.vc
  (fun a n c i m I0 F0 I' F'=>0≤i∧i≤x.rules.length∧m=(x.rules.length-i).toNat∧∃ks:List RuleN,ks.map RuleN.p=(x.rules.take i.toNat).map RuleN.p∧Part 10 RuleN.enc 87 (RuleOwn false) a n c ks F F')
  (fun i a n c k m I0 F0 I' F'=>∃r,x.rules[i.toNat]? = some r∧0≤k∧k≤r.dos.length∧m=(r.dos.length-k).toNat∧∃ds:List DoN,ds.map DoN.p=(r.dos.take k.toNat).map DoN.p∧Part 36 DoN.enc 95 (DoOwn false) a n c ds F0 F') ?_
 unfold ref00_copyState.V
 intro b_x b
 refine⟨⟨_,by omega,by omega,rfl,[],by simp,Part.nil⟩,fun a n c i m I1 F1 l1 ⟨g0,g1,gm,ks,gk,gP⟩=>⟨fun hlt=>?_,fun hlt=>?_⟩⟩
 ·have hlt:=of_decide_eq_true hlt
  have ok1:x.Ok I1 F1:=hx.mono l1 gP.mem
  obtain⟨ad,r,had,hr,hrd,hrm⟩:=SlG.atm (ok1.cons.cons (x:=(b_x,Obj.cells #[.string x.name,.slice x.a x.rules.length x.c,.int .i64 x.pos] 74 (0,0))) (s:=x)).1 g0 hlt
  have hkl:=map_len0 gk (by omega)
  refine⟨⟨g0,hlt⟩,ad,had,_,_,_,_,_,_,_,_,_,_,_,_,_,_,hrd,fun b_r=>⟨⟨_,r,hr,by omega,by omega,rfl,[],by simp,Part.nil⟩,fun da dn dc k m3 I2 F2 l2 ⟨r',hr',k0,k1,km,ds,dk,dP⟩=>⟨fun hlt2=>?_,fun hlt2=>?_⟩⟩⟩
  ·obtain rfl:r=r':=by rw[hr] at hr';exact Option.some.inj hr'
   have hlt2:=of_decide_eq_true hlt2
   have ok2:r.Ok I2 F2:=(ok1.2 r hrm).mono l2 dP.mem
   obtain⟨ad1,d,had1,hd,hrd1,hdm⟩:=SlG.atm (ok2.cons.cons.cons (x:=(b_x,Obj.cells #[.string x.name,.slice x.a x.rules.length x.c,.int .i64 x.pos] 74 (0,0))) (s:=r)).2.1 k0 hlt2
   have hdlen:=map_len0 dk (by omega)
   have hrl:=hdl r hrm
   refine⟨⟨k0,hlt2⟩,ad1,had1,_,_,_,_,_,_,_,_,_,_,_,_,_,_,_,_,_,_,_,_,_,_,_,_,_,_,_,_,_,_,_,_,_,_,_,_,_,_,_,_,_,_,_,_,hrd1,(copyDo_spec d ((hru r hrm).2.2 _ (List.mem_map_of_mem hdm)) I2 _ ((ok2.2.2 d hdm).cons.cons.cons)).mono fun e I3 G l3 ⟨d',Hd,he,pd,od,hG⟩=>?_⟩
   subst he
   refine⟨_,_,_,_,_,_,_,_,_,_,_,_,_,_,_,_,_,_,_,_,_,_,_,_,_,_,_,_,_,_,_,_,_,_,_,_,_,_,_,_,_,_,_,_,rfl,Hd++F2,hG.trans (perm_of fun z=>by simp only[cn_app,cn_cons,cn_nil];omega),fun b1 I4 l4 hb1=>?_⟩
   refine TriE.mono (push_spec (f:=DoN.enc) (fun _=>rfl) (zv:=(⟨0,0,⟨#[]⟩,zNd,zNd,zNd,zNd,0⟩:DoN).v) (by':=320) (by kernel_rfl) (by kernel_rfl) rfl (by decide) dP (x:=d') (fun u hu=>?_) (R0:=[(b_x,Obj.cells #[.string x.name,.slice x.a x.rules.length x.c,.int .i64 x.pos] 74 (0,0)),(b,Obj.cells #[.string ⟨#[]⟩,.slice none 0 0,.int .i64 0] 74 (0,0)),(b_r,Obj.cells #[.int .u8 r.when.kind,.int .u8 r.when.oper,.int .u8 r.when.typ,.int .i64 r.when.n,.int .u8 r.when.field,.string r.when.name,.slice r.when.a r.when.kids.length r.when.c,.int .i64 r.when.pos,.slice r.a r.dos.length r.c,.int .i64 r.pos] 87 (0,0))]) rfl hb1 od (.refl _) (by omega)) fun v I5 G2 l5 ⟨a',n',c',hv,F3,hG2,hP2⟩=>?_
   ·simp only[DoN.enc,List.mem_cons,List.not_mem_nil,or_false] at hu
    rcases hu with rfl | rfl | rfl | rfl | rfl | rfl | rfl | rfl | rfl | rfl | rfl | rfl | rfl | rfl | rfl | rfl | rfl | rfl | rfl | rfl | rfl | rfl | rfl | rfl | rfl | rfl | rfl | rfl | rfl | rfl | rfl | rfl | rfl | rfl | rfl | rfl<;>rfl
   ·refine⟨a',n',c',hv,F3,hG2,(r.dos.length-(k+1)).toNat,by omega,r,hr, ?_⟩
    rw[w64 (n:=k+1) (by omega)]
    refine⟨by omega,by omega,rfl,ds++[d'], ?_,hP2⟩
    rw[show (k+1).toNat=k.toNat+1 by omega,map_snoc0 hd,List.map_append,dk,List.map_singleton,pd]
  ·obtain rfl:r=r':=by rw[hr] at hr';exact Option.some.inj hr'
   have hlt2:=of_decide_eq_false hlt2
   have ok2:r.Ok I2 F2:=(ok1.2 r hrm).mono l2 dP.mem
   refine (copy_spec r.when (hru r hrm).1 I2 _ ok2.1.cons.cons.cons).mono fun e I6 G l6 ⟨w,Hw,he,pw,ow,hG⟩=>?_
   subst he
   refine⟨_,_,_,_,_,_,_,_,_,_,rfl,Hw++F2,hG.trans (perm_of fun z=>by simp only[cn_app,cn_cons,cn_nil];omega),fun b2 I7 l7 hb2=>?_⟩
   have hdn:=dP.len
   subst hdn
   obtain⟨Hd,hO,hp⟩:=dP.own
   refine TriE.mono (push_spec (f:=RuleN.enc) (fun _=>rfl) (zv:=(⟨zNd,none,0,[],0⟩:RuleN).v) (by':=104) (by kernel_rfl) (by kernel_rfl) rfl (by decide) gP (x:=⟨w,da,dc,ds,r.pos⟩) (fun u hu=>?_) (R0:=[(b_x,Obj.cells #[.string x.name,.slice x.a x.rules.length x.c,.int .i64 x.pos] 74 (0,0)),(b,Obj.cells #[.string ⟨#[]⟩,.slice none 0 0,.int .i64 0] 74 (0,0)),(b_r,Obj.cells #[.int .u8 r.when.kind,.int .u8 r.when.oper,.int .u8 r.when.typ,.int .i64 r.when.n,.int .u8 r.when.field,.string r.when.name,.slice r.when.a r.when.kids.length r.when.c,.int .i64 r.when.pos,.slice r.a r.dos.length r.c,.int .i64 r.pos] 87 (0,0))]) rfl hb2 (Hx:=Hw++Hd) ⟨Hw,Hd,rfl,ow,hO⟩ ?_ (by omega)) fun v I8 G2 l8 ⟨a',n',c',hv,F3,hG2,hP2⟩=>?_
   ·simp only[RuleN.enc,List.mem_cons,List.not_mem_nil,or_false] at hu
    rcases hu with rfl | rfl | rfl | rfl | rfl | rfl | rfl | rfl | rfl | rfl<;>rfl
   ·exact (perm_of fun z=>by have q0:=cn_perm hp z;simp only[cn_app,cn_cons,cn_nil] at q0 ⊢;omega)
   ·refine⟨a',n',c',hv,F3,hG2,(x.rules.length-(i+1)).toNat,by omega, ?_⟩
    rw[w64 (n:=i+1) (by omega)]
    refine⟨by omega,by omega,rfl,_, ?_,hP2⟩
    rw[show (i+1).toNat=i.toNat+1 by omega,map_snoc0 hr,List.map_append,gk,List.map_singleton]
    congr 2
    show RuleP.mk w.px (ds.map DoN.p) r.pos=⟨r.when.px,r.dos.map DoN.p,r.pos⟩
    rw[pw,dk,List.take_of_length_le (by omega)]
 ·have hlt:=of_decide_eq_false hlt
  have hn:=gP.len
  subst hn
  obtain⟨H,hO,hp⟩:=gP.own
  refine⟨⟨x.name,a,c,ks,x.pos⟩,H,rfl, ?_,hO,hp⟩
  show StateP.mk x.name (ks.map RuleN.p) x.pos=⟨x.name,x.rules.map RuleN.p,x.pos⟩
  rw[gk,List.take_of_length_le (by omega)]
theorem copyStg_spec(s:StgN)(hs:s.p.Light)(I:Imm)(F:Heap)(hx:s.Ok I F):Tri P 24 #[s.v] I F fun e I' G=>∃(s':StgN) (H:Heap),e=.returned s'.v∧s'.p=s.p∧StgOwn false s' H∧G.Perm (H++F):=by
 have lr:=hs.regs
 have ls:=hs.slots
 have lt:=hs.states
 simp only[StgN.p,List.length_map] at lr ls lt
 have hnm:∀r∈s.regs,r.init.px.size≤1048576:=fun r hr=>hs.reg _ (List.mem_map_of_mem hr)
 have hst:∀x∈s.states,x.p.Light:=fun x hx=>hs.state _ (List.mem_map_of_mem hx)
 refine ref00_CopyStrategy.vc
  (fun i nm a n c a2 n2 c2 a3 n3 c3 m I' F'=>nm=s.name∧(a2=none∧n2=0∧c2=0)∧(a3=none∧n3=0∧c3=0)∧0≤i∧i≤s.regs.length∧m=(s.regs.length-i).toNat∧Imm.le I I'∧∃rs:List RegN,rs.map RegN.p=(s.regs.take i.toNat).map RegN.p∧Part 11 RegN.enc 68 (RegOwn false) a n c rs F F')
  (fun i nm a n c a2 n2 c2 a3 n3 c3 m I' F'=>nm=s.name∧0≤i∧i≤s.states.length∧m=(s.states.length-i).toNat∧Imm.le I I'∧∃(rs:List RegN) (H1:Heap) (H2:Heap) (ts:List StateN),rs.map RegN.p=s.regs.map RegN.p∧n=rs.length∧OwnL false 11 RegN.enc 68 (RegOwn false) a n c rs H1 ∧
    n2=s.slots.length∧OwnL false 2 SlotP.enc 71 SlotOwn a2 n2 c2 s.slots H2∧ts.map StateN.p=(s.states.take i.toNat).map StateN.p∧Part 3 StateN.enc 74 (StateOwn false) a3 n3 c3 ts (H1++(H2++F)) F') ?_
 unfold ref00_CopyStrategy.V
 intro b_s b b_x
 refine⟨⟨_,rfl,⟨rfl,rfl,rfl⟩,⟨rfl,rfl,rfl⟩,by omega,by omega,rfl,Imm.le_refl I,[],by simp,Part.nil⟩,fun i nm a n c a2 n2 c2 a3 n3 c3 m I1 F1 _ ⟨hnm1,⟨e1,e2,e3⟩,⟨e4,e5,e6⟩,g0,g1,gm,l1,rs,gk,gP⟩=>⟨fun hlt=>?_,fun hlt=>?_⟩⟩
 ·subst e1 e2 e3 e4 e5 e6 hnm1
  have hlt:=of_decide_eq_true hlt
  have ok1:s.Ok I1 F1:=hx.mono l1 gP.mem
  obtain⟨ad,r,had,hr,hrd,hrm⟩:=SlG.atm (ok1.cons.cons.cons (x:=(b_s,Obj.cells #[.string s.name,.slice s.ra s.regs.length s.rc,.slice s.sa s.slots.length s.sc,.slice s.ta s.states.length s.tc] 26 (0,0))) (s:=s)).regs g0 hlt
  have hkl:=map_len0 gk (by omega)
  refine⟨⟨g0,hlt⟩,ad,had,_,_,_,_,_,_,_,_,_,_,_,_,_,hrd,fun b_r=>(copy_spec r.init (hnm r hrm) I1 _ ((ok1.reg r hrm).mono (Imm.le_refl _) fun a ha=>.tail _ (.tail _ (.tail _ (.tail _ ha))))).mono fun e I2 G l2 ⟨w,Hw,he,pw,ow,hG⟩=>?_⟩
  subst he
  refine⟨_,_,_,_,_,_,_,_,_,_,rfl,Hw++F1,hG.trans (perm_of fun z=>by simp only[cn_app,cn_cons,cn_nil];omega),fun b1 I3 l3 hb1=>?_⟩
  refine TriE.mono (push_spec (f:=RegN.enc) (fun _=>rfl) (zv:=(⟨⟨#[]⟩,0,zNd,0⟩:RegN).v) (by':=104) (by kernel_rfl) (by kernel_rfl) rfl (by decide) gP (x:=⟨r.name,r.typ,w,r.pos⟩) (fun u hu=>?_) (R0:=[(b_s,Obj.cells #[.string s.name,.slice s.ra s.regs.length s.rc,.slice s.sa s.slots.length s.sc,.slice s.ta s.states.length s.tc] 26 (0,0)),(b,_),(b_x,_),(b_r,_)]) rfl hb1 (Hx:=Hw) ow (.refl _) (by omega)) fun v I4 G2 l4 ⟨a',n',c',hv,F3,hG2,hP2⟩=>?_
  ·simp only[RegN.enc,List.mem_cons,List.not_mem_nil,or_false] at hu
   rcases hu with rfl | rfl | rfl | rfl | rfl | rfl | rfl | rfl | rfl | rfl | rfl<;>rfl
  ·refine⟨a',n',c',hv,F3,hG2,(s.regs.length-(i+1)).toNat,by omega,rfl,⟨rfl,rfl,rfl⟩,⟨rfl,rfl,rfl⟩, ?_⟩
   rw[w64 (n:=i+1) (by omega)]
   refine⟨by omega,by omega,rfl,Imm.le_trans l1 (Imm.le_trans l2 (Imm.le_trans l3 l4)),_, ?_,hP2⟩
   rw[show (i+1).toNat=i.toNat+1 by omega,map_snoc0 hr,List.map_append,gk,List.map_singleton]
   congr 2
   show RegP.mk r.name r.typ w.px r.pos=⟨r.name,r.typ,r.init.px,r.pos⟩
   rw[pw]
 ·subst e1 e2 e3 e4 e5 e6 hnm1
  have hlt:=of_decide_eq_false hlt
  obtain⟨H1,hO1,hp1⟩:=gP.own
  have ok1:s.Ok I1 F1:=hx.mono l1 gP.mem
  refine TriE.mono (append_whole (f:=SlotP.enc) (z:=2) (e:=71) (fun _=>rfl) (by decide) (zv:=(⟨⟨#[]⟩,0⟩:SlotP).v) (by':=24) (by kernel_rfl) (by kernel_rfl) rfl (by decide) (ok1.cons.cons.cons (x:=(b_s,Obj.cells #[.string s.name,.slice s.ra s.regs.length s.rc,.slice s.sa s.slots.length s.sc,.slice s.ta s.states.length s.tc] 26 (0,0))) (s:=s)).slots (by omega)) fun v I5 G2 l5 ⟨a',n',c',A',hv,hA,hG2⟩=>?_
  have hn2:=hA.1
  refine⟨a',n',c',hv,A'++F1,by rw[hG2];exact (perm_of fun z=>by simp only[cn_app,cn_cons,cn_nil];omega),⟨_,rfl,by omega,by omega,rfl,Imm.le_trans l1 l5,rs,H1,A'++flatH n' (fun _=>[]),[],by rw[gk,List.take_of_length_le (by omega)],gP.len,hO1,hn2,⟨A',fun _=>[],rfl,hA,fun h=>(by cases h),fun i k h=>rfl⟩,by simp,[],fun _=>[],Acc.nil,fun i k h=>by simp at h, ?_⟩,fun i nm a n c a2 n2 c2 a3 n3 c3 m I8 F6 _ ⟨hnm1,g0,g1,gm,l8,rs,H1,H2,ts,gr,hn,hO1,hn2,hO2,gk,gP⟩=>⟨fun hlt=>?_,fun hlt=>?_⟩⟩
  ·rw[show flatH n' (fun _=>([]:Heap))=[] from flatH_nils n',List.append_nil]
   show List.Perm _ (H1++(A'++F))
   exact (perm_of fun z=>by have q0:=cn_perm hp1 z;simp only[cn_app,cn_cons,cn_nil] at q0 ⊢;omega)
  ·subst hnm1
   have hlt:=of_decide_eq_true hlt
   have ok1:s.Ok I8 F6:=hx.mono l8 fun a ha=>gP.mem a (List.mem_append_right _ (List.mem_append_right _ ha))
   obtain⟨ad,x,had,hx',hrd,hxm⟩:=SlG.atm (ok1.cons.cons.cons (x:=(b_s,Obj.cells #[.string s.name,.slice s.ra s.regs.length s.rc,.slice s.sa s.slots.length s.sc,.slice s.ta s.states.length s.tc] 26 (0,0))) (s:=s)).states g0 hlt
   have hkl:=map_len0 gk (by omega)
   refine⟨⟨g0,hlt⟩,ad,had,_,_,_,_,_,hrd,(copyState_spec x (hst x hxm) I8 _ (((ok1.state x hxm).cons).cons.cons)).mono fun e I9 G l9 ⟨x',Hx,he,px,ox,hG⟩=>?_⟩
   subst he
   refine⟨_,_,_,_,_,rfl,Hx++F6,hG.trans (perm_of fun z=>by simp only[cn_app,cn_cons,cn_nil];omega),fun b3 I10 l10 hb3=>?_⟩
   refine TriE.mono (push_spec (f:=StateN.enc) (fun _=>rfl) (zv:=(⟨⟨#[]⟩,none,0,[],0⟩:StateN).v) (by':=48) (by kernel_rfl) (by kernel_rfl) rfl (by decide) gP (x:=x') (fun u hu=>?_) (R0:=[(b_s,Obj.cells #[.string s.name,.slice s.ra s.regs.length s.rc,.slice s.sa s.slots.length s.sc,.slice s.ta s.states.length s.tc] 26 (0,0)),(b,_),(b_x,_)]) rfl hb3 (Hx:=Hx) ox (.refl _) (by omega)) fun v I11 G2 l11 ⟨a',n',c',hv,F3,hG2,hP2⟩=>?_
   ·simp only[StateN.enc,List.mem_cons,List.not_mem_nil,or_false] at hu
    rcases hu with rfl | rfl | rfl<;>rfl
   ·refine⟨a',n',c',hv,F3,hG2,(s.states.length-(i+1)).toNat,by omega,rfl, ?_⟩
    rw[w64 (n:=i+1) (by omega)]
    refine⟨by omega,by omega,rfl,Imm.le_trans l8 (Imm.le_trans l9 (Imm.le_trans l10 l11)),rs,H1,H2,_,gr,hn,hO1,hn2,hO2, ?_,hP2⟩
    rw[show (i+1).toNat=i.toNat+1 by omega,map_snoc0 hx',List.map_append,gk,List.map_singleton,px]
  ·subst hnm1
   have hlt:=of_decide_eq_false hlt
   have hn3:=gP.len
   subst hn hn2 hn3
   obtain⟨H3,hO3,hp3⟩:=gP.own
   refine⟨⟨s.name,a,c,rs,a2,c2,s.slots,a3,c3,ts⟩,H1++(H2++H3),rfl, ?_,⟨H1,H2,H3,rfl,hO1,hO2,hO3⟩,(perm_of fun z=>by have q0:=cn_perm hp3 z;simp only[cn_app,cn_cons,cn_nil] at q0 ⊢;omega)⟩
   show StgP.mk s.name (rs.map RegN.p) s.slots (ts.map StateN.p)=⟨s.name,s.regs.map RegN.p,s.slots,s.states.map StateN.p⟩
   rw[gr,gk,List.take_of_length_le (by omega)]
end Go.Lx
namespace Go.Lx
open Go.Vc Go.Proofs.Tryz
def shT_lTypesChecks:List (Nat×List Sh):=[(4,[.one .bool]),(26,[.agg [.str,.slc,.slc,.slc]]),(38,[.one .any]),(41,[.one (.int .i64),.one (.int .i64)]),(44,[.agg [(.int .i64),(.int .i64),.bool]])]
def law15_TypesChecks.V(ka:Nat→Bs→OA→Nat→Nat→OA→Nat→Nat→OA→Nat→Nat→Nat×Obj)(j:Nat→Nat×Obj)(vb vi:Int→Value)(vs:Bs→Value)(vl:OA→Nat→Nat→Value)(vt:Bool→Value)(ab:Bs)(n:OA)(o p:Nat)(s:OA)(t u:Nat)(v:OA)(w x:Nat)(I:Imm)(F:Heap)(Q:PostQ)  : Prop:=∀k:Nat,Tc1 P 10 #[] I ((j k)::·) F vt fun r I1 F1=>Tc1 P 11 (#[.agg #[vs ab,vl n o p,vl s t u,vl v w x],.agg #[vb 0,vb 0,vb 0,vi 0,vb 0,vs (⟨#[]⟩:Bs),vl none 0 0,vi 0]]) I1 ((j k)::·) F1 vt fun r1 I2 F2=>(It (!r) (Q (.returned (vt r)) I2 F2) (It r1 (Q (.returned (vt r)) I2 F2) (Tcn P 12 #[.agg #[vs ab,vl n o p,vl s t u,vl v w x]] I2 ((j k)::·) F2 fun e3 I3 G3=>∃(l:Bs) (a:OA) (b c:Nat) (d:OA) (e f:Nat) (g:OA) (h i:Nat),e3=.returned (.agg #[vs l,vl a b c,vl d e f,vl g h i])∧G3 fun F3=>∀m:Nat,Tcn P 13 #[.agg #[vs l,vl a b c,vl d e f,vl g h i]] I3 ((j k)::(ka m l a b c d e f g h i)::·) F3 fun e4 I4 G4=>∃(r2:Value),e4=.returned r2∧G4 fun F4=>Tcn P 13 #[.agg #[vs l,vl a b c,vl d e f,vl g h i]] I4 ((j k)::(ka m l a b c d e f g h i)::·) F4 fun e5 I5 G5=>∃(r3:Value),e5=.returned r3∧G5 fun F5=>Tcn P 14 #[r2] I5 ((j k)::(ka m l a b c d e f g h i)::·) F5 fun e6 I6 G6=>∃(r0 z:Int),e6=.returned (.tuple #[vi r0,vi z])∧G6 fun F6=>Tcn P 14 #[r3] I6 ((j k)::(ka m l a b c d e f g h i)::·) F6 fun e7 I7 G7=>∃(ac ad:Int),e7=.returned (.tuple #[vi ac,vi ad])∧G7 fun F7=>Tcn P 15 #[.agg #[vs ab,vl n o p,vl s t u,vl v w x]] I7 ((j k)::(ka m l a b c d e f g h i)::·) F7 fun e8 I8 G8=>∃(y aa:Int) (ae:Bool),e8=.returned (.agg #[vi y,vi aa,vt ae])∧G8 fun F8=>∀af:Nat,Tc1 P 16 #[.agg #[vs l,vl a b c,vl d e f,vl g h i],.agg #[vs ab,vl n o p,vl s t u,vl v w x]] I8 ((j k)::(ka m l a b c d e f g h i)::(af,Obj.cells #[vi y,vi aa,vt ae] 44 (0,0))::·) F8 vt fun r4 I9 F9=>(It (r0==y) (It (z==aa) (It (ac==r0) (It (ad==z) (∃q:Bool,BinRun P .eql 38 (.tmp 66) (.const (Value.nilIface)) r2 Value.nilIface q∧(It (q==(r0==0)) (Q (.returned (vt r4)) I9 F9) (Q (.returned (vt false)) I9 F9))) (Q (.returned (vt false)) I9 F9)) (Q (.returned (vt false)) I9 F9)) (Q (.returned (vt false)) I9 F9)) (Q (.returned (vt false)) I9 F9)))))
theorem law15_TypesChecks.vc{t:Bs}{k:OA}{l m:Nat}{n:OA}{o p:Nat}{q:OA}{r s:Nat}{I:Imm}{F:Heap}{Q:PostQ}  (h:law15_TypesChecks.V (fun W a b c d e f g h i j=>(W,Obj.cells #[.string a,.slice b c d,.slice e f g,.slice h i j] 26 (0,0))) (fun b=>(b,Obj.cells #[.string t,.slice k l m,.slice n o p,.slice q r s] 26 (0,0))) (.int .u8) (.int .i64) .string .slice .bool t k l m n o p q r s I F Q):Tri P 3 #[.agg #[.string t,.slice k l m,.slice n o p,.slice q r s]] I F Q :=
 tw (A:=(an [3001,3003,12003,12008,12013,12018,12025] [10,11,12,13,14,15,16] shT_lTypesChecks)) [10,11,12,13,14,15,16] func3 h
end Go.Lx
namespace Go.Lx
open Go.Vc
theorem ChkE.eql{I:Imm}{f:TF}{w:Value}(h:ChkE I f w){t:TypeId}(ht:ifaceT P t=true){x:Operand}:BinRun P .eql t x (.const .nilIface) w .nilIface (f.e==0):=by
 by_cases he:f.e=0
 ·rw[h.1 he,he];exact nil_nil' ht
 ·have h2:=h.2 he
  rw[show (f.e==0)=false by simpa using he]
  split at h2
  ·obtain⟨u,_,b,hw,_⟩:=h2;rw[hw];exact some_nil' ht
  ·obtain⟨b,hw,_⟩:=h2;rw[hw];exact some_nil' ht
theorem OfE.eql{I:Imm}{f:TF}{w:Value}(h:OfE I f w){t:TypeId}(ht:ifaceT P t=true){x:Operand}:BinRun P .eql t x (.const .nilIface) w .nilIface (f.e==0):=by
 by_cases he:f.e=0
 ·rw[h.1 he,he];exact nil_nil' ht
 ·obtain⟨b,hw,_⟩:=h.2 he
  rw[hw,show (f.e==0)=false by simpa using he];exact some_nil' ht
end Go.Lx
namespace Go.Lx
open Go.Vc
def zN:ByteArray:=⟨#[122]⟩
def tName(k:Int)(s:ByteArray):ByteArray:=if k=2∧s.size<15 then zN++s else s
namespace Px
mutual
def turn:Px→Px
 | .mk k o t n f s l q=>.mk k o t n f (tName k s) (turnL l) q
def turnL:List Px→List Px
 | []=>[]
 | x::r=>turn x::turnL r
end
theorem turnL_map:∀l:List Px,turnL l=l.map turn
 | []=>by rw[turnL];rfl
 | x::r=>by rw[turnL,turnL_map r];rfl
theorem turn_eq(x:Px):x.turn=.mk x.kind x.oper x.typ x.n x.field (tName x.kind x.name) (x.kids.map turn) x.pos:=by cases x;rw[turn,turnL_map];rfl
mutual
def long:Px→Bool
 | .mk k _ _ _ _ s l _=>if k=2 then (!(nameB s) || !(nameB (zN++s)))||decide (15≤s.size) else longL l
def longL:List Px→Bool
 | []=>false
 | x::r=>long x||longL r
end
theorem long_eq(x:Px):x.long=if x.kind=2 then (!(nameB x.name) || !(nameB (zN++x.name)))||decide (15≤x.name.size) else longL x.kids:=by cases x;rw[long];rfl
end Px
theorem turned_spec:∀(t:Nd),t.px.size≤1048576→∀(I:Imm) (F:Heap),NdOk I F t→Tri P 25 #[t.v] I F (Made 35 false t.px.turn F):=by
 refine Nd.ind fun t ih hs I F ht=>?_
 have hln:=size_len hs
 refine law15_turned.vc (fun k o ty n f nm a l c q I' F'=>k=t.kind∧o=t.oper∧ty=t.typ∧n=t.n∧f=t.field∧nm=tName t.kind t.name∧a=t.a∧l=t.kids.length∧c=t.c∧q=t.pos∧F'=F)
  (fun a n c i m I' F'=>0≤i∧i≤t.kids.length∧m=(t.kids.length-i).toNat∧∃ks:List Nd,ks.map Nd.px=((t.kids.take i.toNat).map Nd.px).map Px.turn∧Part 8 Nd.enc 35 (OwnT 35 false) a n c ks F F') ?_
 unfold law15_turned.V
 intro b_n b
 refine⟨⟨fun h2=>⟨fun h=>⟨?_,rfl,rfl,rfl,rfl,rfl, ?_,rfl,rfl,rfl,rfl,rfl⟩,fun h=>⟨rfl,rfl,rfl,rfl,rfl, ?_,rfl,rfl,rfl,rfl,rfl⟩⟩,fun h2=>⟨rfl,rfl,rfl,rfl,rfl, ?_,rfl,rfl,rfl,rfl,rfl⟩⟩, ?_⟩
 ·have h:=of_decide_eq_true h
  have:(⟨#[122]⟩:ByteArray).size=1:=by decide
  rw[this];unfold IntKind.max;simp only[IntKind.bits,IntKind.signed];omega
 ·have h:=of_decide_eq_true h
  have h2:t.kind=2:=by simpa using h2
  unfold tName;rw[if_pos ⟨h2,by omega⟩];rfl
 ·have h:=of_decide_eq_false h
  unfold tName;rw[if_neg (by omega)]
 ·have h2:t.kind≠2:=by simpa using h2
  unfold tName;rw[if_neg (by omega)]
 rintro k o ty n f nm a l c q I1 F1 l1 ⟨rfl,rfl,rfl,rfl,rfl,rfl,rfl,rfl,rfl,rfl,rfl⟩
 refine⟨⟨_,by omega,by omega,rfl,[],by simp,Part.nil⟩,fun a n c i m I2 F2 l2 ⟨g0,g1,gm,ks,hp,gP⟩=>⟨fun hlt=>?_,fun hlt=>?_⟩⟩
 ·have hlt:=of_decide_eq_true hlt
  have ht1:NdOk I2 F2 t:=ht.mono (Imm.le_trans l1 l2) gP.mem
  obtain⟨ad,x,had,hx,hrd,hxo,hxm⟩:=(ht1.cons.cons (t:=t)).kids.at g0 hlt
  have hkl:=map_len hp (by omega)
  refine⟨⟨g0,hlt⟩,ad,had,_,_,_,_,_,_,_,_,_,_,hrd,(ih x hxm (size_kid hxm hs) I2 _ hxo).mono fun e I3 G l3 ⟨t',H,he,hpx,hO,hG⟩=>?_⟩
  subst he
  refine⟨_,_,_,_,_,_,_,_,_,_,rfl,H++F2,hG.trans (perm_of fun z=>by simp only[cn_app,cn_cons,cn_nil];omega),fun b1 I4 l4 hb1=>?_⟩
  refine TriE.mono (push_spec (f:=Nd.enc) (z:=8) Nd.enc_len (zv:=zNd.v) (by':=72) (by kernel_rfl) (by kernel_rfl) rfl (by decide) gP (x:=t') t'.enc_one (R0:=[(b_n,_),(b,_)]) rfl hb1 (Hx:=H) hO (.refl _) (by omega)) fun v I5 G2 l5 ⟨a',n',c',hv,F3,hG2,hP2⟩=>?_
  refine⟨a',n',c',hv,F3,hG2,(t.kids.length-(i+1)).toNat,by omega, ?_⟩
  rw[w64 (n:=i+1) (by omega)]
  refine⟨by omega,by omega,rfl,ks++[t'], ?_,hP2⟩
  rw[show (i+1).toNat=i.toNat+1 by omega,map_snoc hx,List.map_append,hp,List.map_singleton,hpx]
 ·have hlt:=of_decide_eq_false hlt
  obtain⟨A,hh,hA,hk,hF⟩:=gP
  have hn:=hA.1
  subst hn
  refine⟨.mk t.kind t.oper t.typ t.n t.field (tName t.kind t.name) a c ks t.pos,A++flatH ks.length hh,rfl, ?_,.mk (t:=.mk t.kind t.oper t.typ t.n t.field (tName t.kind t.name) a c ks t.pos) hA (fun h=>by cases h) hk,by rw[List.append_assoc];exact hF⟩
  rw[Nd.px,Nd.pxs_map,hp,Px.turn_eq,Nd.px_kids,List.take_of_length_le (by omega),Nd.px_kind,Nd.px_oper,Nd.px_typ,Nd.px_n,Nd.px_field,Nd.px_name,Nd.px_pos]
theorem word15_spec(nm:ByteArray)(h:nm.size≤140737488351232)(I:Imm)(F:Heap):Tri P 55 #[.string nm] I F (Ret (.bool (!(nameB nm) || !(nameB (zN++nm)))) F):=by
 refine ref15_Word.vc ?_
 unfold ref15_Word.V
 refine Tri.ret (rName_spec I _) fun I1 l1=>⟨_,rfl,F,.refl _, ?_,Tri.ret (rName_spec I1 _) fun I2 l2=>⟨_,rfl,F,.refl _,fun h=>⟨?_,rfl⟩,fun h=>⟨?_,rfl⟩⟩⟩
 ·have:(⟨#[122]⟩:ByteArray).size=1:=by decide
  rw[this];unfold IntKind.max;simp only[IntKind.bits,IntKind.signed];omega
 ·rw[show (!(nameB nm))=true from h,Bool.true_or]
 ·rw[show (!(nameB nm))=false from h,Bool.false_or];rfl
theorem longer_spec(s:StgN):∀(t:Nd),t.px.size≤1048576→t.px.ShortP→∀(I:Imm) (F:Heap),NdOk I F t→Tri P 26 #[t.v,s.v] I F (Ret (.bool t.px.long) F):=by
 refine Nd.ind fun t ih hs hsh I F ht=>?_
 have hln:=size_len hs
 refine law15_longer.vc (fun x i m I' F'=>0≤i∧i≤t.kids.length∧m=(t.kids.length-i).toNat∧Px.longL t.px.kids=Px.longL ((t.kids.drop i.toNat).map Nd.px)∧F'=F) ?_
 unfold law15_longer.V
 intro b_n b_s
 refine⟨fun h2=>?_,fun h2=>⟨⟨_,by omega,by omega,rfl,by rw[Nd.px_kids];rfl,rfl⟩,fun x i m I2 F2 l2 ⟨g0,g1,gm,gl,gF⟩=>⟨fun hlt=>?_,fun hlt=>?_⟩⟩⟩
 ·have h2:t.kind=2:=by simpa using h2
  have hnm:=hsh.name
  rw[Nd.px_name] at hnm
  refine Tri.ret (word15_spec t.name (by omega) I _) fun I1 l1=>⟨_,rfl,F,.refl _,fun h=>⟨?_,rfl⟩,fun h=>⟨?_,rfl⟩⟩
  ·rw[Px.long_eq,Nd.px_kind,Nd.px_name,if_pos h2,h,Bool.true_or]
  ·rw[Px.long_eq,Nd.px_kind,Nd.px_name,if_pos h2,h,Bool.false_or]
   have:decide ((t.name.size:Int)≥15)=decide (15≤t.name.size):=decide_eq_decide.2 ⟨fun h=>by omega,fun h=>by omega⟩
   rw[this]
 all_goals have h2:t.kind≠2:=by simpa using h2
 ·have hlt:=of_decide_eq_true hlt
  subst gF
  have ht1:NdOk I2 F2 t:=ht.mono l2 fun _ h=>h
  obtain⟨ad,x,had,hx,hrd,hxo,hxm⟩:=(ht1.cons.cons (t:=t)).kids.at g0 hlt
  refine⟨⟨g0,hlt⟩,ad,had,_,_,_,_,_,_,_,_,_,_,hrd,_,(ih x hxm (size_kid hxm hs) (hsh.kid x.px (by rw[Nd.px_kids];exact List.mem_map_of_mem hxm)) I2 _ hxo).perm',fun h=>⟨?_,rfl⟩,fun h=>⟨(t.kids.length-(i+1)).toNat,by omega, ?_⟩⟩
  ·rw[Px.long_eq,Nd.px_kind,if_neg h2,gl,drop_map hx,Px.longL,h,Bool.true_or]
  ·rw[w64 (n:=i+1) (by omega)]
   refine⟨by omega,by omega,rfl, ?_,rfl⟩
   rw[gl,drop_map hx,Px.longL,h,Bool.false_or,show (i+1).toNat=i.toNat+1 by omega]
 ·have hlt:=of_decide_eq_false hlt
  subst gF
  rw[Px.long_eq,Nd.px_kind,if_neg h2,gl,drop_end (by omega),Px.longL]
  exact⟨rfl,rfl⟩
end Go.Lx
namespace Go.Lx
open Go.Vc
theorem Flr.rd{I:Imm}{b:Nat}{call:ByteArray}{pos:Int}{err:Value}(h:I b=some (.cells #[.string call,.int .i64 pos,err] 63 (0,0))){J:Imm}(hl:Imm.le I J)(G:Heap) :
  Rd J G ((⟨b,0,none⟩:Addr).add 0) [.string call]∧Rd J G ((⟨b,0,none⟩:Addr).add 1) [.int .i64 pos]∧Rd J G ((⟨b,0,none⟩:Addr).add 2) [err]:=by
 rw[addr0,addr0,addr0]
 refine⟨Rd.of_imm (hl.at h) _ 0 fun j hj=>?_,Rd.of_imm (hl.at h) _ 1 fun j hj=>?_,Rd.of_imm (hl.at h) _ 2 fun j hj=>?_⟩ <;>
 ·have:j=0:=by simpa using hj
  subst this;rfl
end Go.Lx
namespace Go.Lx
open Go.Vc
structure StgP.Fine (s:StgP):Prop where
 nm:errB (nameB s.name) 120=0
 r1:s.regs.length≤12
 r2:firstE RegP.check s.regs=0
 s1:s.slots.length≤4
 s2:firstE SlotP.check s.slots=0
 t0:0<s.states.length
 t1:s.states.length≤12
 t2:firstE StateP.check s.states=0
end Go.Lx
namespace Go.Lx
open Go.Vc
theorem zN_list(y:ByteArray):(zN++y).toList=122::y.toList:=by
 rw[Lib.toList_data,Lib.toList_data,ByteArray.data_append,Array.toList_append];rfl
theorem zN_eq(y x:ByteArray):((zN++y).toList==(zN++x).toList)=(y.toList==x.toList):=by
 rw[zN_list,zN_list,Bool.eq_iff_iff,beq_iff_eq,beq_iff_eq]
 exact⟨fun h=>(List.cons.inj h).2,fun h=>by rw[h]⟩
def RegP.turn(r:RegP):RegP:=⟨tName 2 r.name,r.typ,r.init,r.pos⟩
def StgP.turn(s:StgP):StgP:=⟨s.name,s.regs.map RegP.turn,s.slots,s.states⟩
theorem ixF_turn{nm:ByteArray}:∀(l:List ByteArray) (i:Int),(∀y∈l,y.size<15)→ixF (zN++nm) (l.map (tName 2)) i=ixF nm l i
 | [],i,h=>rfl
 | x::r,i,h=>by
   rw[List.map_cons,ixF,ixF,ixF_turn r (i+1) fun y hy=>h y (.tail _ hy)]
   have:tName 2 x=zN++x:=if_pos ⟨rfl,h x (.head _)⟩
   rw[this,zN_eq]
theorem turn_regT(s:StgP)(i:Int):s.turn.regT i=s.regT i:=by
 unfold StgP.regT StgP.turn
 rw[List.getElem?_map,Option.map_map];rfl
theorem turn_reg{s:StgP}(h:∀r∈s.regs,r.name.size<15)(nm:ByteArray):s.turn.reg (zN++nm)=s.reg nm:=by
 unfold StgP.reg StgP.turn
 rw[←ixF_turn (nm:=nm) (s.regs.map RegP.name) 0 fun y hy=>by obtain⟨r,hr,rfl⟩:=List.mem_map.1 hy;exact h r hr]
 rw[List.map_map,List.map_map];rfl
theorem longL_kids:∀{l:List Px},Px.longL l=false→∀k∈l,k.long=false
 | x::r,h,k,hk=>by
   rw[Px.longL,Bool.or_eq_false_iff] at h
   rcases List.mem_cons.1 hk with rfl | hk
   ·exact h.1
   ·exact longL_kids h.2 k hk
theorem long_2{x:Px}(h:x.long=false)(hk:x.kind=2):nameB x.name=true∧nameB (zN++x.name)=true∧x.name.size<15:=by
 rw[Px.long_eq,if_pos hk,Bool.or_eq_false_iff,Bool.or_eq_false_iff] at h
 exact⟨by simpa using h.1.1,by simpa using h.1.2,by simpa using h.2⟩
theorem long_n{x:Px}(h:x.long=false)(hk:x.kind≠2):∀k∈x.kids,k.long=false:=by
 rw[Px.long_eq,if_neg hk] at h
 exact longL_kids h
section
variable (x:Px)
theorem turn_kind:x.turn.kind=x.kind:=by rw[Px.turn_eq];rfl
theorem turn_oper:x.turn.oper=x.oper:=by rw[Px.turn_eq];rfl
theorem turn_typ:x.turn.typ=x.typ:=by rw[Px.turn_eq];rfl
theorem turn_n:x.turn.n=x.n:=by rw[Px.turn_eq];rfl
theorem turn_field:x.turn.field=x.field:=by rw[Px.turn_eq];rfl
theorem turn_name:x.turn.name=tName x.kind x.name:=by rw[Px.turn_eq];rfl
theorem turn_kids:x.turn.kids=x.kids.map Px.turn:=by rw[Px.turn_eq];rfl
theorem turn_pos:x.turn.pos=x.pos:=by rw[Px.turn_eq];rfl
end
theorem turn_one{x:Px}(h:x.long=false):x.turn.oneB=x.oneB:=by
 by_cases hk:x.kind=2
 ·obtain⟨h1,h2,h3⟩:=long_2 h hk
  unfold Px.oneB Px.fitB Px.zeroB Px.arity
  have e:tName 2 x.name=zN++x.name:=if_pos ⟨rfl,h3⟩
  rw[turn_kind,turn_oper,turn_typ,turn_n,turn_field,turn_name,turn_kids,List.length_map,hk,e]
  simp[h1,h2]
 ·unfold Px.oneB Px.fitB Px.zeroB Px.arity Px.litB
  have e:tName x.kind x.name=x.name:=if_neg fun h=>hk h.1
  rw[turn_kind,turn_oper,turn_typ,turn_n,turn_field,turn_name,turn_kids,List.length_map,e]
theorem formedL_turn:∀{l:List Px},(∀k∈l,k.turn.formed=k.formed)→Px.formedL (l.map Px.turn)=Px.formedL l
 | [],_=>rfl
 | x::r,h=>by rw[List.map_cons,Px.formedL,Px.formedL,h x (.head _),formedL_turn fun k hk=>h k (.tail _ hk)]
theorem one_leaf{x:Px}(hk:x.kind=2)(h:x.oneB=true):x.kids=[]:=by
 unfold Px.oneB at h
 rw[Bool.and_eq_true,decide_eq_true_eq] at h
 have:=h.2
 unfold Px.arity at this
 rw[hk] at this
 exact List.length_eq_zero_iff.1 (by simpa using this)
theorem turn_formed:∀x:Px,x.long=false→x.turn.formed=x.formed:=by
 refine Px.ind fun x ih h=>?_
 rw[Px.formed_eq,Px.formed_eq,turn_one h,turn_kids]
 by_cases hk:x.kind=2
 ·cases h1:x.oneB
  ·rfl
  ·rw[one_leaf hk h1];rfl
 ·rw[formedL_turn fun k hm=>ih k hm (long_n h hk k hm)]
theorem turn_depth:∀x:Px,x.turn.depth=x.depth:=by
 refine Px.ind fun x ih=>?_
 rw[Px.depth_eq,Px.depth_eq,turn_kids]
 have hl:∀y:Px,y.turn.level=y.level:=fun y=>by unfold Px.level;rw[turn_kind,turn_oper]
 have ha:∀(k:Px) (i:Int),x.turn.adds k.turn i=x.adds k i:=fun k i=>by
  unfold Px.adds Px.asks;rw[hl,hl,turn_kind]
 have hL:∀(l:List Px) (i m:Int),(∀k∈l,k.turn.depth=k.depth)→Px.depthL x.turn i (l.map Px.turn) m=Px.depthL x i l m:=fun l=>by
  induction l with
  | nil=>intro i m _;rw[List.map_nil,Px.depthL,Px.depthL]
  | cons y r ih2 =>
    intro i m h
    rw[List.map_cons,Px.depthL,Px.depthL,h y (.head _),ha,ih2 _ _ fun k hk=>h k (.tail _ hk)]
 exact hL x.kids 0 0 ih
theorem turn_typed{s:StgP}(hs:∀r∈s.regs,r.name.size<15):∀x:Px,x.formed=true→x.long=false→typed s.turn x.turn=typed s x:=by
 refine Px.ind fun x ih hf h=>?_
 have h1:x.oneB=true:=by rw[Px.formed_eq,Bool.and_eq_true] at hf;exact hf.1
 have hkl:∀k∈x.kids,k.long=false:=fun k hk=>by
  by_cases h2:x.kind=2
  ·rw[one_leaf h2 h1] at hk;cases hk
  ·exact long_n h h2 k hk
 have hL:∀l:List Px,(∀k∈l,typed s.turn k.turn=typed s k)→typedL s.turn (l.map Px.turn)=typedL s l:=fun l h=>by
  induction l with
  | nil=>rw[List.map_nil,typedL,typedL]
  | cons y r ih2=>rw[List.map_cons,typedL,typedL,h y (.head _),ih2 fun k hk=>h k (.tail _ hk)]
 have hE:∀l:List Int,nodeE s.turn x.turn l=nodeE s x l:=fun l=>by
  unfold nodeE nodeT
  rw[turn_kind,turn_oper,turn_typ,turn_field,turn_name,turn_pos,turn_regT]
  by_cases h2:x.kind=2
  ·have e:tName 2 x.name=zN++x.name:=if_pos ⟨rfl,(long_2 h h2).2.2⟩
   rw[h2,e,turn_reg hs]
  ·simp[h2]
 rw[typed_eq,typed_eq,turn_kids,hL _ fun k hk=>ih k hk (Px.formed_kid hf k hk) (hkl k hk),hE]
theorem types_turn{s:StgP}(hs:∀r∈s.regs,r.name.size<15){x:Px}(h:x.long=false):typeOf s.turn x.turn=typeOf s x:=by
 have hc:x.turn.checkE=x.checkE:=by unfold Px.checkE;rw[turn_formed x h,turn_depth]
 unfold typeOf
 rw[hc]
 by_cases h0:x.checkE≠0
 ·rw[if_pos h0,if_pos h0]
 ·rw[if_neg h0,if_neg h0]
  exact turn_typed hs x (checkE_formed (by simpa using h0)) h
theorem turn_size:∀x:Px,x.turn.size=x.size:=by
 refine Px.ind fun x ih=>?_
 have hL:∀l:List Px,(∀k∈l,k.turn.size=k.size)→Px.sizeL (l.map Px.turn)=Px.sizeL l:=fun l h=>by
  induction l with
  | nil=>rfl
  | cons y r ih2=>rw[List.map_cons,Px.sizeL,Px.sizeL,h y (.head _),ih2 fun k hk=>h k (.tail _ hk)]
 rw[Px.size_eq,Px.size_eq,turn_kids,hL _ ih]
def turnK(l:List RegP)(k:Nat):List RegP:=(l.take k).map RegP.turn++l.drop k
theorem turnK_get{l:List RegP}{k:Nat}{r:RegP}(h:l[k]? = some r):(turnK l k)[k]? = some r∧(turnK l k).set k r.turn=turnK l (k+1):=by
 obtain⟨hk,rfl⟩:=List.getElem?_eq_some_iff.1 h
 have hl:((l.take k).map RegP.turn).length=k:=by rw[List.length_map,List.length_take];omega
 have hd:l.drop k=l[k]::l.drop (k+1):=List.drop_eq_getElem_cons hk
 unfold turnK
 refine⟨?_, ?_⟩
 ·rw[List.getElem?_append_right (by omega),hl,Nat.sub_self,hd];rfl
 ·rw[List.set_append_right _ _ (by omega),hl,Nat.sub_self,hd,List.set_cons_zero,List.take_succ_eq_append_getElem hk,List.map_append,List.append_assoc];rfl
theorem turnK_same{l:List RegP}{k:Nat}{r:RegP}(h:l[k]? = some r)(hn:¬r.name.size<15):turnK l (k+1)=turnK l k:=by
 obtain⟨h1,h2⟩:=turnK_get h
 have:r.turn=r:=by
  unfold RegP.turn tName
  rw[if_neg fun h=>hn h.2]
 rw[←h2,this]
 obtain⟨hk,hv⟩:=List.getElem?_eq_some_iff.1 h1
 rw[←hv,List.set_getElem_self]
end Go.Lx
namespace Go.Vc
theorem flat_head{α:Type}{z:Nat}{f:α→List Value}(hz:∀x,(f x).length=z){x y:α}{u v:Value}{t:List Value}(hx:f x=u::t)(hy:f y=v::t):∀(l:List α) (k:Nat),l[k]? = some x→(l.flatMap f).set (k*z) v=(l.set k y).flatMap f
 | [],k,h=>by simp at h
 | a::r,0,h=>by
   simp only[List.getElem?_cons_zero,Option.some.injEq] at h
   subst h
   rw[Nat.zero_mul,List.set_cons_zero,List.flatMap_cons,List.flatMap_cons,hx,hy];rfl
 | a::r,k+1,h=>by
   rw[List.set_cons_succ,List.flatMap_cons,List.flatMap_cons,←flat_head hz hx hy r k (by simpa using h),List.set_append_right _ _ (by rw[hz,Nat.succ_mul];omega),hz,Nat.succ_mul,Nat.add_sub_cancel]
theorem Acc.head{α:Type}{z e n c k:Nat}{f:α→List Value}(hz:∀x,(f x).length=z)(hz0:0<z){a:Option Addr}{l:List α}{A:Heap}(h:Acc z f e a n c l A){x y:α}(hx:l[k]? = some x){u v:Value}{t:List Value}(hxf:f x=u::t)(hyf:f y=v::t) :
  ∃b cs,a=some ⟨b,0,none⟩∧A=[(b,Obj.cells cs.toArray e (0,0))]∧k*z+1≤cs.length∧Acc z f e a n c (l.set k y) [(b,Obj.cells (splice (k*z) [v] cs).toArray e (0,0))]:=by
 obtain⟨hn,⟨ha,hc,hl,hA⟩ | ⟨b,cells,ha,hA,hcs,hnc,htk⟩⟩:=h
 ·subst hl;simp at hx
 ·have hk:k<l.length:=(List.getElem?_eq_some_iff.1 hx).1
  have hlt:k*z+1≤n*z:=by
   have:(k+1)*z≤n*z:=Nat.mul_le_mul_right z (by omega)
   rw[Nat.succ_mul] at this;omega
  have hle:n*z≤cells.size:=by rw[hcs];exact Nat.mul_le_mul_right z hnc
  refine⟨b,cells.toList,ha,by simpa using hA,by simp;omega,by rw[List.length_set];exact hn,.inr ⟨b,_,ha,rfl, ?_,hnc, ?_⟩⟩
  ·rw[splice_one _ _ _ (by simp;omega)];simpa using hcs
  ·rw[splice_one _ _ _ (by simp;omega),←flat_head hz hxf hyf l k hx,←htk]
   rw[List.take_set]
end Go.Vc
namespace Go.Lx
open Go.Vc
theorem OwnL.head{α:Type}{z E n c k:Nat}{f:α→List Value}(hz:∀x,(f x).length=z)(hz0:0<z){O:α→Heap→Prop}{a:Option Addr}{l:List α}{H:Heap}(h:OwnL false z f E O a n c l H){x y:α}(hx:l[k]? = some x){u v:Value}{t:List Value}(hxf:f x=u::t)(hyf:f y=v::t)(hO:∀H',O x H'→O y H')(R:Heap) :
  ∃b cs F9,a=some ⟨b,0,none⟩∧k*z+1≤cs.length∧(H++R).Perm ((b,Obj.cells cs.toArray E (0,0))::F9)∧∃H',OwnL false z f E O a n c (l.set k y) H'∧((b,Obj.cells (splice (k*z) [v] cs).toArray E (0,0))::F9).Perm (H'++R):=by
 obtain⟨A,hs,rfl,hA, -,hk⟩:=h
 obtain⟨b,cs,h1,rfl,h3,h4⟩:=hA.head hz hz0 hx hxf hyf
 refine⟨b,cs,flatH n hs++R,h1,h3,by rw[List.append_assoc];exact .refl _,[(b,Obj.cells (splice (k*z) [v] cs).toArray E (0,0))]++flatH n hs,⟨_,hs,rfl,h4,fun h=>(by cases h),fun i q hq=>?_⟩,by rw[List.append_assoc];exact .refl _⟩
 rw[List.getElem?_set] at hq
 split at hq
 ·rename_i hik
  subst hik
  split at hq
  ·cases hq;exact hO _ (hk _ _ hx)
  ·cases hq
 ·exact hk i q hq
end Go.Lx
namespace Go.Lx
open Go.Vc Go.Proofs.Tryz
def shT_lTypesNames:List (Nat×List Sh):=[(4,[.one .bool]),(9,[.one .str]),(26,[.agg [.str,.slc,.slc,.slc]]),(35,[.agg [(.int .u8),(.int .u8),(.int .u8),(.int .i64),(.int .u8),.str,.slc,(.int .i64)]]),(41,[.one (.int .i64),.one (.int .i64)]),(54,[.one (.int .u8),.one .any])]
def law15_TypesNames.V(l n:Nat→Nat×Obj)(nV:Int→Int→Int→Int→Int→Bs→OA→Nat→Nat→Int→Value)(nO:Int→Int→Int→Int→Int→Bs→OA→Nat→Nat→Int→Obj)(vi:Int→Value)(vs:Bs→Value)(vl:OA→Nat→Nat→Value)(vt:Bool→Value)(au:Bs)(ag:OA)(w ah:Nat)(ai:OA)(aj ak:Nat)(al:OA)(am an:Nat)(av aw ax ay az:Int)(aA:Bs)(ao:OA)(ap aq:Nat)(aB:Int)(I:Imm)(F:Heap)(Q:PostQ)(Inv20:Int→Bs→OA→Nat→Nat→OA→Nat→Nat→OA→Nat→Nat→Nat→Imm→Heap→Imm→Heap→Prop)(Inv39:Bool→Int→Nat→Imm→Heap→Imm→Heap→Prop):Prop:=∀o:Nat,∀p:Nat,Tri P 10 #[] I ((n o)::(l p)::F) fun e1 I1 G1=>∃(r:Bool),e1=.returned (vt r)∧∃F1:Heap,List.Perm G1 ((n o)::(l p)::F1)∧Tri P 11 #[.agg #[vs au,vl ag w ah,vl ai aj ak,vl al am an],nV av aw ax ay az aA ao ap aq aB] I1 ((n o)::(l p)::F1) fun e2 I2 G2=>∃(r1:Bool),e2=.returned (vt r1)∧∃F2:Heap,List.Perm G2 ((n o)::(l p)::F2)∧(((!r)=true→Q (.returned (vt r)) I2 F2)∧((!r)=false→((r1=true→Q (.returned (vt r)) I2 F2)∧(r1=false→Tri P 24 #[.agg #[vs au,vl ag w ah,vl ai aj ak,vl al am an]] I2 ((n o)::(l p)::F2) fun e3 I3 G3=>∃(aO:Bs) (aC:OA) (aD aE:Nat) (aF:OA) (aG aH:Nat) (aI:OA) (aJ aK:Nat),e3=.returned (.agg #[vs aO,vl aC aD aE,vl aF aG aH,vl aI aJ aK])∧∃F3:Heap,List.Perm G3 ((n o)::(l p)::F3)∧∀v:Nat,(∃m:Nat,Inv20 0 aO aC aD aE aF aG aH aI aJ aK m I3 F3 I3 F3)∧∀(i:Int) (k:Bs) (b:OA) (a c:Nat) (d:OA) (e f:Nat) (g:OA) (h j m1:Nat) (I4:Imm) (F4:Heap),Imm.le I3 I4→Inv20 i k b a c d e f g h j m1 I3 F3 I4 F4→((decide (i<(a:Int))=true→((0≤i∧i<(a:Int))∧∃ad:Addr,b=some ad∧∃(m2:Bs),Rd I4 ((n o)::(l p)::(v,Obj.cells #[vs k,vl b a c,vl d e f,vl g h j] 26 (0,0))::F4) ((ad.add (Int.toNat i*11)).add 0) [vs m2]∧((decide ((m2.size:Int)<15)=true→((0≤i∧i<(a:Int))∧∃aT:Addr,b=some aT∧∃(m3:Bs),Rd I4 ((n o)::(l p)::(v,Obj.cells #[vs k,vl b a c,vl d e f,vl g h j] 26 (0,0))::F4) ((aT.add (Int.toNat i*11)).add 0) [vs m3]∧(((((⟨#[122]⟩:Bs).size+m3.size:Nat):Int)≤IntKind.i64.max)∧((0≤i∧i<(a:Int))∧∃ar:Addr,b=some ar∧∃(cs:List Value) (el:Nat) (F5:Heap),List.Perm F4 ((((ar.add (Int.toNat i*11)).add 0).block,Obj.cells cs.toArray el (0,0))::F5)∧((ar.add (Int.toNat i*11)).add 0).spot=none∧((ar.add (Int.toNat i*11)).add 0).off+1≤cs.length∧(∃m4:Nat,m4<m1∧Inv20 (IntKind.wrap .i64 (i+1)) k b a c d e f g h j m4 I3 F3 I4 ((((ar.add (Int.toNat i*11)).add 0).block,Obj.cells (splice ((ar.add (Int.toNat i*11)).add 0).off [vs ((⟨#[122]⟩:Bs)++m3)] cs).toArray el (0,0))::F5))))))∧(decide ((m2.size:Int)<15)=false→(∃m5:Nat,m5<m1∧Inv20 (IntKind.wrap .i64 (i+1)) k b a c d e f g h j m5 I3 F3 I4 F4)))))∧(decide (i<(a:Int))=false→(∃m6:Nat,Inv39 false 0 m6 I4 F4 I4 F4)∧∀(x:Bool) (i1:Int) (m7:Nat) (I5:Imm) (F6:Heap),Imm.le I4 I5→Inv39 x i1 m7 I4 F4 I5 F6→((decide (i1<(w:Int))=true→((0≤i1∧i1<(w:Int))∧∃aU:Addr,ag=some aU∧∃(m8:Bs),Rd I5 ((n o)::(l p)::(v,Obj.cells #[vs k,vl b a c,vl d e f,vl g h j] 26 (0,0))::F6) ((aU.add (Int.toNat i1*11)).add 0) [vs m8]∧((decide ((m8.size:Int)≥15)=true→Q (.returned (vt true)) I5 F6)∧(decide ((m8.size:Int)≥15)=false→(∃m9:Nat,m9<m7∧Inv39 x (IntKind.wrap .i64 (i1+1)) m9 I4 F4 I5 F6)))))∧(decide (i1<(w:Int))=false→Tri P 25 #[nV av aw ax ay az aA ao ap aq aB] I5 ((n o)::(l p)::(v,Obj.cells #[vs k,vl b a c,vl d e f,vl g h j] 26 (0,0))::F6) fun e4 I6 G4=>∃(u y z aa ab:Int) (ac:Bs) (q:OA) (s t:Nat) (ae:Int),e4=.returned (nV u y z aa ab ac q s t ae)∧∃F7:Heap,List.Perm G4 ((n o)::(l p)::(v,Obj.cells #[vs k,vl b a c,vl d e f,vl g h j] 26 (0,0))::F7)∧∀af:Nat,Tri P 26 #[nV av aw ax ay az aA ao ap aq aB,.agg #[vs au,vl ag w ah,vl ai aj ak,vl al am an]] I6 ((n o)::(l p)::(v,Obj.cells #[vs k,vl b a c,vl d e f,vl g h j] 26 (0,0))::(af,nO u y z aa ab ac q s t ae)::F7) fun e5 I7 G5=>∃(r2:Bool),e5=.returned (vt r2)∧∃F8:Heap,List.Perm G5 ((n o)::(l p)::(v,Obj.cells #[vs k,vl b a c,vl d e f,vl g h j] 26 (0,0))::(af,nO u y z aa ab ac q s t ae)::F8)∧((r2=true→Q (.returned (vt true)) I7 F8)∧(r2=false→Tri P 19 #[.agg #[vs au,vl ag w ah,vl ai aj ak,vl al am an],nV av aw ax ay az aA ao ap aq aB] I7 ((n o)::(l p)::(v,Obj.cells #[vs k,vl b a c,vl d e f,vl g h j] 26 (0,0))::(af,nO u y z aa ab ac q s t ae)::F8) fun e6 I8 G6=>∃(r0:Int) (aP:Value),e6=.returned (.tuple #[.int .u8 r0,aP])∧∃F9:Heap,List.Perm G6 ((n o)::(l p)::(v,Obj.cells #[vs k,vl b a c,vl d e f,vl g h j] 26 (0,0))::(af,nO u y z aa ab ac q s t ae)::F9)∧Tri P 19 #[.agg #[vs k,vl b a c,vl d e f,vl g h j],nV u y z aa ab ac q s t ae] I8 ((n o)::(l p)::(v,Obj.cells #[vs k,vl b a c,vl d e f,vl g h j] 26 (0,0))::(af,nO u y z aa ab ac q s t ae)::F9) fun e7 I9 G7=>∃(aL:Int) (aQ:Value),e7=.returned (.tuple #[.int .u8 aL,aQ])∧∃F10:Heap,List.Perm G7 ((n o)::(l p)::(v,Obj.cells #[vs k,vl b a c,vl d e f,vl g h j] 26 (0,0))::(af,nO u y z aa ab ac q s t ae)::F10)∧Tri P 14 #[aP] I9 ((n o)::(l p)::(v,Obj.cells #[vs k,vl b a c,vl d e f,vl g h j] 26 (0,0))::(af,nO u y z aa ab ac q s t ae)::F10) fun e8 I10 G8=>∃(aM aR:Int),e8=.returned (.tuple #[vi aM,vi aR])∧∃F11:Heap,List.Perm G8 ((n o)::(l p)::(v,Obj.cells #[vs k,vl b a c,vl d e f,vl g h j] 26 (0,0))::(af,nO u y z aa ab ac q s t ae)::F11)∧Tri P 14 #[aQ] I10 ((n o)::(l p)::(v,Obj.cells #[vs k,vl b a c,vl d e f,vl g h j] 26 (0,0))::(af,nO u y z aa ab ac q s t ae)::F11) fun e9 I11 G9=>∃(aN aS:Int),e9=.returned (.tuple #[vi aN,vi aS])∧∃F12:Heap,List.Perm G9 ((n o)::(l p)::(v,Obj.cells #[vs k,vl b a c,vl d e f,vl g h j] 26 (0,0))::(af,nO u y z aa ab ac q s t ae)::F12)∧(((r0==aL)=true→(((aM==aN)=true→Q (.returned (vt (aR==aS))) I11 F12)∧((aM==aN)=false→Q (.returned (vt false)) I11 F12)))∧((r0==aL)=false→Q (.returned (vt false)) I11 F12))))))))))))
theorem law15_TypesNames.vc{z:Bs}{d:OA}{e g:Nat}{i:OA}{j p:Nat}{r:OA}{u v:Nat}{aa ab ac ad ae:Int}{af:Bs}{w:OA}{x y:Nat}{ag:Int}{I:Imm}{F:Heap}{Q:PostQ}(Inv20:Int→Bs→OA→Nat→Nat→OA→Nat→Nat→OA→Nat→Nat→Nat→Imm→Heap→Imm→Heap→Prop)(Inv39:Bool→Int→Nat→Imm→Heap→Imm→Heap→Prop)(h:law15_TypesNames.V (fun b=>(b,Obj.cells #[.int .u8 aa,.int .u8 ab,.int .u8 ac,.int .i64 ad,.int .u8 ae,.string af,.slice w x y,.int .i64 ag] 35 (0,0))) (fun b=>(b,Obj.cells #[.string z,.slice d e g,.slice i j p,.slice r u v] 26 (0,0))) (fun k o t n f s a l c q=>.agg #[.int .u8 k,.int .u8 o,.int .u8 t,.int .i64 n,.int .u8 f,.string s,.slice a l c,.int .i64 q]) (fun k o t n f s a l c q=>.cells #[.int .u8 k,.int .u8 o,.int .u8 t,.int .i64 n,.int .u8 f,.string s,.slice a l c,.int .i64 q] 35 (0,0)) (.int .i64) .string .slice .bool z d e g i j p r u v aa ab ac ad ae af w x y ag I F Q Inv20 Inv39):Tri P 8 #[.agg #[.string z,.slice d e g,.slice i j p,.slice r u v],.agg #[.int .u8 aa,.int .u8 ab,.int .u8 ac,.int .i64 ad,.int .u8 ae,.string af,.slice w x y,.int .i64 ag]] I F Q :=
 tw (A:=(annL [3001,3003,7004,9007,12004,14007,18000,24002,24006] [] [10,11,14,19,24,25,26] shT_lTypesNames [(20,⟨[(8,(.int .i64))],[(2,[.str,.slc,.slc,.slc])],fun fs I0 F0 vs m I F=>match fs,vs with | [],[.int _ y0,.string y1,.slice y2 y3 y4,.slice y5 y6 y7,.slice y8 y9 y10]=>Inv20 y0 y1 y2 y3 y4 y5 y6 y7 y8 y9 y10 m I0 F0 I F | _,_=>False,[],[]⟩),(39,⟨[(4,.bool),(9,(.int .i64))],[],fun fs I0 F0 vs m I F=>match fs,vs with | [],[.bool y0,.int _ y1]=>Inv39 y0 y1 m I0 F0 I F | _,_=>False,[],[]⟩)] [] [] [(10,12,[])] [] [] [])) [10,11,14,19,24,25,26] func8 h
end Go.Lx
namespace Go.Lx
open Go.Vc
def Turned(s:StgN)(F:Heap)(k:Nat)(nm:ByteArray)(a:Option Addr)(n c:Nat)(a2:Option Addr)(n2 c2:Nat)(a3:Option Addr)(n3 c3:Nat)(F':Heap):Prop :=
 ∃(x:StgN) (H:Heap),(nm=x.name∧a=x.ra∧n=x.regs.length∧c=x.rc)∧(a2=x.sa∧n2=x.slots.length∧c2=x.sc)∧(a3=x.ta∧n3=x.states.length∧c3=x.tc)∧StgOwn false x H∧F'.Perm (H++F)∧x.p=⟨s.name,turnK (s.regs.map RegN.p) k,s.slots,s.states.map StateN.p⟩
theorem Turned.rd{s:StgN}{F F':Heap}{k:Nat}{nm:ByteArray}{a a2 a3:Option Addr}{n c n2 c2 n3 c3:Nat}(h:Turned s F k nm a n c a2 n2 c2 a3 n3 c3 F')(hk:k<n):∃r q,s.regs[k]? = some r∧r.name=q∧n=s.regs.length ∧
  ∀(I:Imm) (G:Heap),(∀x,x∈F'→x∈G)→∃ad,a=some ad∧Rd I G ((ad.add (k*11)).add 0) [.string q]:=by
 obtain⟨x,H,⟨rfl,rfl,rfl,rfl⟩, -, -,hO,hF,px⟩:=h
 have er:x.regs.map RegN.p=turnK (s.regs.map RegN.p) k:=congrArg StgP.regs px
 have hn:x.regs.length=s.regs.length:=by
  have:=congrArg List.length er
  unfold turnK at this
  simp only[List.length_map,List.length_append,List.length_take,List.length_drop] at this
  omega
 have hs:s.regs[k]? = some s.regs[k]:=List.getElem?_eq_getElem (by omega)
 have hx:x.regs[k]? = some x.regs[k]:=List.getElem?_eq_getElem hk
 have hp:(s.regs.map RegN.p)[k]? = some s.regs[k].p:=by rw[List.getElem?_map,hs];rfl
 have h1:=(turnK_get hp).1
 rw[←er,List.getElem?_map,hx] at h1
 have h2:x.regs[k].p=s.regs[k].p:=by simpa using h1
 refine⟨s.regs[k],_,hs,rfl,hn,fun I G hG=>?_⟩
 have ok:=hO.ok (I:=I) (G:=G) fun y hy=>hG y (hF.mem_iff.2 (List.mem_append_left _ hy))
 obtain⟨ad,ha,hr⟩:=ok.regs.2 (by intro e;rw[e] at hk;simp at hk)
 have:=(hr k _ hx).field (o:=0) (v:=.string x.regs[k].name) rfl
 rw[show x.regs[k].name=s.regs[k].name from congrArg RegP.name h2] at this
 exact⟨ad,ha,this⟩
theorem Turned.skip{s:StgN}{F F':Heap}{k:Nat}{nm:ByteArray}{a a2 a3:Option Addr}{n c n2 c2 n3 c3:Nat}(h:Turned s F k nm a n c a2 n2 c2 a3 n3 c3 F'){r:RegN}(hr:s.regs[k]? = some r)(hl:¬r.name.size<15):Turned s F (k+1) nm a n c a2 n2 c2 a3 n3 c3 F':=by
 obtain⟨x,H,h1,h2,h3,hO,hF,px⟩:=h
 refine⟨x,H,h1,h2,h3,hO,hF, ?_⟩
 rw[px,turnK_same (r:=r.p) (by rw[List.getElem?_map,hr];rfl) hl]
theorem Turned.put{s:StgN}{F F':Heap}{k:Nat}{nm:ByteArray}{a a2 a3:Option Addr}{n c n2 c2 n3 c3:Nat}(h:Turned s F k nm a n c a2 n2 c2 a3 n3 c3 F')(hk:k<n){r:RegN}(hr:s.regs[k]? = some r)(hl:r.name.size<15) :
  ∃b cs F9,a=some ⟨b,0,none⟩∧k*11+1≤cs.length∧F'.Perm ((b,Obj.cells cs.toArray 68 (0,0))::F9)∧Turned s F (k+1) nm a n c a2 n2 c2 a3 n3 c3 ((b,Obj.cells (splice (k*11) [.string (zN++r.name)] cs).toArray 68 (0,0))::F9):=by
 obtain⟨x,H,⟨rfl,rfl,rfl,rfl⟩,⟨rfl,rfl,rfl⟩,⟨rfl,rfl,rfl⟩,⟨H1,H2,H3,rfl,o1,o2,o3⟩,hF,px⟩:=h
 have er:x.regs.map RegN.p=turnK (s.regs.map RegN.p) k:=congrArg StgP.regs px
 have hx:x.regs[k]? = some x.regs[k]:=List.getElem?_eq_getElem hk
 have hp:(s.regs.map RegN.p)[k]? = some r.p:=by rw[List.getElem?_map,hr];rfl
 obtain⟨h1,h2⟩:=turnK_get hp
 rw[←er,List.getElem?_map,hx] at h1
 have h3:x.regs[k].p=r.p:=by simpa using h1
 have hnm:x.regs[k].name=r.name:=congrArg RegP.name h3
 obtain⟨b,cs,F9,g1,g2,g3,H',g4,g5⟩:=OwnL.head (f:=RegN.enc) (z:=11) (fun _=>rfl) (by decide) o1 hx (y:=⟨zN++r.name,x.regs[k].typ,x.regs[k].init,x.regs[k].pos⟩) (u:=.string x.regs[k].name) (v:=.string (zN++r.name)) (t:=x.regs[k].enc.tail) rfl rfl (fun H' h=>h) (H2++(H3++F))
 refine⟨b,cs,F9,g1,g2,hF.trans (.trans (perm_of fun z=>by simp only[cn_app,cn_cons,cn_nil];omega) g3),⟨x.name,x.ra,x.rc,x.regs.set k ⟨zN++r.name,x.regs[k].typ,x.regs[k].init,x.regs[k].pos⟩,x.sa,x.sc,x.slots,x.ta,x.tc,x.states⟩,H'++(H2++H3),⟨rfl,rfl,(List.length_set ..).symm,rfl⟩,⟨rfl,rfl,rfl⟩,⟨rfl,rfl,rfl⟩,⟨H',H2,H3,rfl, ?_,o2,o3⟩,g5.trans (perm_of fun z=>by simp only[cn_app,cn_cons,cn_nil];omega), ?_⟩
 ·show OwnL false 11 RegN.enc _ _ x.ra (x.regs.set k _).length x.rc (x.regs.set k _) H'
  rw[List.length_set];exact g4
 ·show StgP.mk x.name ((x.regs.set k _).map RegN.p) x.slots (x.states.map StateN.p)=_
  have e1:x.name=s.name:=congrArg StgP.name px
  have e3:x.slots=s.slots:=congrArg StgP.slots px
  have e4:x.states.map StateN.p=s.states.map StateN.p:=congrArg StgP.states px
  rw[List.map_set,er,e1,e3,e4,←h2]
  congr 2
  show RegP.mk (zN++r.name) x.regs[k].p.typ x.regs[k].p.init x.regs[k].p.pos=r.p.turn
  rw[h3]
  have:tName 2 r.name=zN++r.name:=if_pos ⟨rfl,hl⟩
  show _=RegP.mk (tName 2 r.name) _ _ _
  rw[this]
theorem TypesNames_spec(s:StgN)(t:Nd)(hss:s.p.Short)(hst:t.px.ShortP)(I:Imm)(hg:Gl I)(F:Heap)(hs:s.Ok I F)(ht:NdOk I F t):Tri P 8 #[s.v,t.v] I F fun e I' G=>e=.returned (.bool true):=by
 refine law15_TypesNames.vc (fun i nm a n c a2 n2 c2 a3 n3 c3 m I0 F0 I' F'=>0≤i∧i≤n∧m=(n-i).toNat∧(n:Int)≤1048576∧Turned s F i.toNat nm a n c a2 n2 c2 a3 n3 c3 F')
  (fun x i m I0 F0 I' F'=>0≤i∧i≤s.regs.length∧m=(s.regs.length-i).toNat∧(∀r∈s.regs.take i.toNat,r.name.size<15)∧F'=F0) ?_
 unfold law15_TypesNames.V
 intro b_s b_n
 have oks:∀{J:Imm} {G:Heap},Imm.le I J→(∀a,a∈F→a∈G)→s.Ok J G:=fun hl h=>hs.mono hl h
 have okt:∀{J:Imm} {G:Heap},Imm.le I J→(∀a,a∈F→a∈G)→NdOk J G t:=fun hl h=>ht.mono hl h
 refine Tri.ret (awake15_spec hg _) fun I1 l1=>⟨_,rfl,F,.refl _, ?_⟩
 refine (far15_spec s t hss hst I1 _ (oks l1 fun a ha=>by simp only[List.mem_cons,List.mem_append];simp only[ha,true_or,or_true]) (okt l1 fun a ha=>by simp only[List.mem_cons,List.mem_append];simp only[ha,true_or,or_true])).mono fun e I2 G h2 ⟨r1,he,hG,f1⟩=>?_
 subst hG
 refine⟨_,he,F,.refl _, ?_⟩
 have l2:=Imm.le_trans l1 h2
 refine⟨fun h=>(by cases h),fun _=>⟨fun _=>rfl,fun e1=>?_⟩⟩
 obtain⟨ls,lt⟩:=f1 e1
 have lr:=ls.regs
 simp only[StgN.p,List.length_map] at lr
 refine (copyStg_spec s ls I2 _ (oks l2 fun a ha=>by simp only[List.mem_cons,List.mem_append];simp only[ha,true_or,or_true])).mono fun e I3 G h3 ⟨x0,H0,he,px0,hO0,hG⟩=>?_
 have l3:=Imm.le_trans l2 h3
 refine⟨_,_,_,_,_,_,_,_,_,_,he,H0++F,hG.trans (perm_of fun z=>by simp only[cn_app,cn_cons,cn_nil];omega),fun b_x=>?_⟩
 have n1:x0.regs.length=s.regs.length:=by have:=congrArg List.length (congrArg StgP.regs px0);simpa[StgN.p] using this
 refine⟨⟨_,by omega,by omega,rfl,by omega,x0,H0,⟨rfl,rfl,rfl,rfl⟩,⟨rfl,rfl,rfl⟩,⟨rfl,rfl,rfl⟩,hO0,.refl _,px0⟩,fun i nm a n c a2 n2 c2 a3 n3 c3 m I4 F4 h4 ⟨g0,g1,gm,gn,gT⟩=>⟨fun hlt=>?_,fun hlt=>?_⟩⟩
 ·have hlt:=of_decide_eq_true hlt
  have hkn:i.toNat<n:=by omega
  obtain⟨r,q,hr,rfl,hnn,hrd⟩:=gT.rd hkn
  have hnext:(i+1).toNat=i.toNat+1:=by omega
  obtain⟨ad,had,hrd1⟩:=hrd I4 ((b_s,Obj.cells #[.string s.name,.slice s.ra s.regs.length s.rc,.slice s.sa s.slots.length s.sc,.slice s.ta s.states.length s.tc] 26 (0,0))::(b_n,Obj.cells t.enc.toArray 35 (0,0))::(b_x,Obj.cells #[.string nm,.slice a n c,.slice a2 n2 c2,.slice a3 n3 c3] 26 (0,0))::F4) (fun a ha=>.tail _ (.tail _ (.tail _ ha)))
  refine⟨⟨g0,hlt⟩,ad,had,r.name,hrd1,fun hsz=>?_,fun hsz=>⟨(n-(i+1)).toNat,by omega, ?_⟩⟩
  ·have hsz:=of_decide_eq_true hsz
   have hsz':r.name.size<15:=by omega
   obtain⟨b,cs,F9,ga,gl,gF,gT'⟩:=gT.put hkn hr hsz'
   refine⟨⟨g0,hlt⟩,ad,had,r.name,hrd1, ?_,⟨g0,hlt⟩,⟨b,0,none⟩,ga,cs,68,F9, ?_⟩
   ·have:(⟨#[122]⟩:ByteArray).size=1:=by decide
    rw[this];unfold IntKind.max;simp only[IntKind.bits,IntKind.signed];omega
   rw[add_add]
   refine⟨gF,rfl,by show Int.toNat i*11+0+1≤cs.length;omega,(n-(i+1)).toNat,by omega, ?_⟩
   rw[w64 (n:=i+1) (by omega)]
   refine⟨by omega,by omega,rfl,gn, ?_⟩
   rw[hnext];exact gT'
  ·have hsz:=of_decide_eq_false hsz
   rw[w64 (n:=i+1) (by omega)]
   refine⟨by omega,by omega,rfl,gn, ?_⟩
   rw[hnext];exact gT.skip hr (by omega)
 have hlt:=of_decide_eq_false hlt
 have l4:=Imm.le_trans l3 h4
 obtain⟨x,H,⟨rfl,rfl,rfl,rfl⟩,⟨rfl,rfl,rfl⟩,⟨rfl,rfl,rfl⟩,hO,hF,px⟩:=gT
 have hi:i.toNat=x.regs.length:=by omega
 have n2:x.regs.length=s.regs.length:=by
  have:=congrArg List.length (congrArg StgP.regs px)
  show x.regs.length=_
  simp only[StgN.p,turnK,List.length_map,List.length_append,List.length_take,List.length_drop] at this
  omega
 have pxt:x.p=s.p.turn:=by
  rw[px]
  unfold turnK
  rw[List.take_of_length_le (by rw[List.length_map];omega),List.drop_eq_nil_of_le (by rw[List.length_map];omega),List.append_nil];rfl
 have inF:∀a,a∈F→a∈F4:=fun a ha=>hF.mem_iff.2 (List.mem_append_right _ ha)
 refine⟨⟨_,by omega,by omega,rfl,by simp,rfl⟩,fun y j m I5 F6 h5 ⟨j0,j1,jm,jl,jF⟩=>⟨fun hlt=>?_,fun hlt=>?_⟩⟩
 ·have hlt:=of_decide_eq_true hlt
  subst jF
  have l5:=Imm.le_trans l4 h5
  obtain⟨ad,r,had,hr,hrd,hrm⟩:=SlG.atm ((oks l5 inF).cons.cons.cons (x:=(b_s,Obj.cells #[.string s.name,.slice s.ra s.regs.length s.rc,.slice s.sa s.slots.length s.sc,.slice s.ta s.states.length s.tc] 26 (0,0))) (s:=s)).regs j0 hlt
  refine⟨⟨j0,hlt⟩,ad,had,r.name,hrd.field (o:=0) rfl,fun hsz=>rfl,fun hsz=>⟨(s.regs.length-(j+1)).toNat,by omega, ?_⟩⟩
  have hsz:=of_decide_eq_false hsz
  rw[w64 (n:=j+1) (by omega)]
  refine⟨by omega,by omega,rfl,fun q hq=>?_,rfl⟩
  rw[show (j+1).toNat=j.toNat+1 by omega] at hq
  obtain⟨hk,hv⟩:=List.getElem?_eq_some_iff.1 hr
  rw[List.take_succ_eq_append_getElem hk,hv] at hq
  rcases List.mem_append.1 hq with hq | hq
  ·exact jl q hq
  ·rw[List.mem_singleton] at hq;subst hq;omega
 have hlt:=of_decide_eq_false hlt
 subst jF
 have l5:=Imm.le_trans l4 h5
 rw[List.take_of_length_le (by omega)] at jl
 have jl':∀r∈s.p.regs,r.name.size<15:=fun r hr=>by
  obtain⟨q,hq,rfl⟩:=List.mem_map.1 hr;exact jl q hq
 refine (turned_spec t lt I5 _ (okt l5 fun a ha=>.tail _ (.tail _ (.tail _ (inF a ha))))).mono fun e I6 G h6 ⟨y,Hy,he,py,hOy,hG⟩=>?_
 have l6:=Imm.le_trans l5 h6
 refine⟨_,_,_,_,_,_,_,_,_,_,he,Hy++F6,hG.trans (perm_of fun z=>by simp only[cn_app,cn_cons,cn_nil];omega),fun b_m=>?_⟩
 have inG:∀{a1 a2 a3 a4:Nat×Obj},∀a,a∈F→a∈a1::a2::a3::a4::(Hy++F6):=fun a ha=>.tail _ (.tail _ (.tail _ (.tail _ (List.mem_append_right _ (inF a ha)))))
 refine Tri.ret (longer_spec s t lt hst I6 _ (okt l6 inG)) fun I7 h7=>⟨_,rfl,Hy++F6,.refl _,fun _=>rfl,fun hlg=>?_⟩
 have l7:=Imm.le_trans l6 h7
 refine Tri.retV (pOf_spec s lr t lt I7 _ (oks l7 inG) (okt l7 inG)) fun v8 I8 h8 ⟨w8,hv8,hw8⟩=>⟨_,_,congrArg Ending.returned hv8,Hy++F6,.refl _, ?_⟩
 have l8:=Imm.le_trans l7 h8
 have hzy:y.px.size≤1048576:=by rw[py,turn_size];exact lt
 refine Tri.retV (pOf_spec x (by omega) y hzy I8 _ (hO.ok fun a ha=>.tail _ (.tail _ (.tail _ (.tail _ (List.mem_append_right _ (hF.mem_iff.2 (List.mem_append_left _ ha))))))) (hOy.ok fun a ha=>.tail _ (.tail _ (.tail _ (.tail _ (List.mem_append_left _ ha)))))) fun v9 I9 h9 ⟨w9,hv9,hw9⟩=>⟨_,_,congrArg Ending.returned hv9,Hy++F6,.refl _, ?_⟩
 have l9:=Imm.le_trans l8 h9
 rw[pxt,py,types_turn jl' hlg] at hw9 ⊢
 refine Tri.ret (Wrong_of (hg.mono l9) (typeOf_Z s.p t.px) (hw8.mono h9) _) fun I10 h10=>⟨_,_,rfl,Hy++F6,.refl _, ?_⟩
 have l10:=Imm.le_trans l9 h10
 refine Tri.ret (Wrong_of (hg.mono l10) (typeOf_Z s.p t.px) (hw9.mono h10) _) fun I11 h11=>⟨_,_,rfl,Hy++F6,.refl _, ?_⟩
 refine⟨fun _=>⟨fun _=>?_,fun h=>?_⟩,fun h=>?_⟩
 ·rw[beq_self_eq_true]
 ·simp at h
 ·simp at h
end Go.Lx
namespace Go.Vc
open Go.ChangeShapes Go.WideShapes Go.ChangeAt Go.RowKit
theorem Stays.cell{w w':World}(h:Stays w w'){a:Addr}(ha:a.block<w.heap.size):w'.cell? a=w.cell? a:=by
 unfold World.cell?;rw[h.heap _ ha]
theorem Stays.same{w w':World}(h:Stays w w'){p:MemPlace}(hp:p.block<w.heap.size):w.sameAt w' p:=by
 cases p with
 | cell b off=>exact h.cell (a:=⟨b,off,none⟩) hp
 | map b=>exact h.heap b hp
theorem trodAll_stays{H:Type}{enc:TypeId×Value→H}{P:Program}{T:TypeId→Prop}{w w':World}(K:Kids P T)(hsz:∀{t e:TypeId},T t→P.underlying t=some (.slice e)→0<P.cellsOf e)(st:Stays w w'){sp':Nat→Bool} :
  ∀{ts:List TypeId} {vs:List Value} {ds:List (DataW H)} {ps:List MemPlace},(∀t∈ts,T t)→DataW.TrodAll enc P w 0 (fun _=>true) true ts vs ds ps→(∀p∈ps,sp' p.block=true)→DataW.TrodAll enc P w' 0 sp' true ts vs ds ps
 | [],[],[],ps,_,h,_=>h
 | t::ts,v::vs,d::ds,ps,ht,⟨p,q,⟨n,h1⟩,h2,e⟩,hs=>by
   subst e
   have hlt:∀x∈p,x.block<w.heap.size:=DataW.trod_lt n t v.cells.toList (d,p) h1
   refine⟨p,q,⟨n, ?_⟩,trodAll_stays K hsz st (fun t' ht'=>ht t' (List.mem_cons_of_mem _ ht')) h2 (fun x hx=>hs x (List.mem_append_right _ hx)),rfl⟩
   exact DataW.trod_stays K hsz (fun h=>by cases h) (ht t (List.mem_cons_self ..)) h1 (fun x hx=>st.same (hlt x hx)) (fun x hx=>hs x (List.mem_append_left _ hx))
 | [],_::_,_,_,_,h,_=>h.elim
 | [],[],_::_,_,_,h,_=>h.elim
 | _::_,[],_,_,_,h,_=>h.elim
 | _::_,_::_,[],_,_,h,_=>h.elim
theorem Rd.of_cell{W:World}{ad:Addr}{v:Value}(h:W.cell? ad=some v)(G:Heap):Rd (Imm.all W) G ad [v]:=by
 unfold World.cell? at h
 cases hb:W.heap[ad.block]? with
 | none=>rw[hb] at h;cases h
 | some o =>
   rw[hb] at h
   cases o with
   | cells c e fz =>
     simp only at h
     cases hs:ad.spot with
     | some x=>rw[hs] at h;simp at h
     | none =>
       rw[hs] at h
       refine⟨hs,c,e,fz,.inl hb,fun j hj=>?_⟩
       have:j=0:=by simpa using hj
       subst this
       simpa using h
   | _=>cases h
end Go.Vc
namespace Go.Vc
open Go.ChangeShapes Go.WideShapes Go.ChangeAt Go.RowKit
theorem list_choice{α:Type}{p:Nat→α→Prop}:∀(n:Nat),(∀i,i<n→∃x,p i x)→∃l:List α,l.length=n∧∀(i:Nat) (x:α),l[i]? = some x→p i x
 | 0,_=>⟨[],rfl,fun i x h=>by simp at h⟩
 | n+1,h=>by
   obtain⟨l,hl,hp⟩:=list_choice n fun i hi=>h i (by omega)
   obtain⟨x,hx⟩:=h n (by omega)
   refine⟨l++[x],by simp[hl],fun i y hy=>?_⟩
   rw[List.getElem?_append] at hy
   split at hy
   ·exact hp i y hy
   ·rename_i hi
    have:i-l.length=0:=by
     rcases Nat.eq_zero_or_pos (i-l.length) with h | h
     ·exact h
     ·rw[List.getElem?_eq_none (by simp;omega)] at hy;cases hy
    rw[this] at hy
    simp only[List.getElem?_cons_zero,Option.some.injEq] at hy
    subst hy
    have:i=n:=by omega
    rw[this];exact hx
theorem Rd.of_row{W:World}{ad:Addr}{n:Nat}{cs:List Value}{base:Nat}(h:W.cells? base ad n=some cs)(hn:0<n)(G:Heap):ad.spot=none→Rd (Imm.all W) G ad cs:=by
 intro hsp
 obtain⟨_,hl,hc⟩:=World.cells?_some h
 have h0:W.cell? ad=cs[0]?:=by have:=hc 0 hn;rwa [show ad.add 0=ad from rfl] at this
 have hlen:cs.length=n:=hl
 unfold World.cell? at h0
 cases hb:W.heap[ad.block]? with
 | none=>rw[hb] at h0;simp only at h0;rw[List.getElem?_eq_getElem (by omega)] at h0;cases h0
 | some o =>
   cases o with
   | cells c e fz =>
     refine⟨hsp,c,e,fz,.inl hb,fun j hj=>?_⟩
     have h1:=hc j (by omega)
     have hadd:ad.add j=⟨ad.block,ad.off+j,none⟩:=by
      obtain⟨b,off,sp⟩:=ad
      simp only at hsp;subst hsp
      unfold Addr.add;split<;>simp_all
     rw[hadd] at h1
     unfold World.cell? at h1
     simp only[hb] at h1
     simpa using h1
   | _=>rw[hb] at h0;simp only at h0;rw[List.getElem?_eq_getElem (by omega)] at h0;cases h0
end Go.Vc
namespace Go.Vc
open Go.ChangeShapes Go.WideShapes Go.ChangeAt Go.RowKit
def Opens{H α:Type}(en:TypeId×Value→H)(P:Program)(W:World)(sp:Nat→Bool)(hd:Bool)(n:Nat)(t:TypeId)(f:α→List Value)(R S:α→Prop):Prop :=
 ∀cs d ps,DataW.trod en P W 0 sp hd n t cs=some (d,ps)→∃x,cs=f x∧R x∧((∀m∈d.weights P t,m≤reachBytes)→S x)
def OpensF{H α:Type}(en:TypeId×Value→H)(P:Program)(W:World)(sp:Nat→Bool)(hd:Bool)(n:Nat)(z:Nat)(fs:List (TypeId×Nat))(o:Nat)(f:α→List Value)(R S:α→Prop):Prop :=
 ∀(cs:List Value) (xs:List (DataW H×List MemPlace)),(fs.mapM fun p=>DataW.trod en P W 0 sp hd n p.1 ((cs.drop p.2).take (P.cellsOf p.1)))=some xs→cs.length=z→∃x,cs.drop o=f x∧R x∧((∀m∈DataW.weightsEach P (fs.map Prod.fst) (xs.map Prod.fst),m≤reachBytes)→S x)
def structB(P:Program)(t:TypeId)(l:List (TypeId×Nat))(z:Nat):Bool:=match P.underlying t with
 | some (.struct fs)=>(fs.toList.map fun f=>(f.type,f.offset))==l&&P.cellsOf t==z
 | _=>false
theorem mapM_via{α β γ:Type}(h:α→β)(g:β→Option γ):∀l:List α,(l.map h).mapM g=l.mapM fun x=>g (h x)
 | []=>rfl
 | x::l=>by simp[List.mapM_cons,mapM_via h g l]
section
variable {H:Type} {en:TypeId×Value→H} {P:Program} {W:World} {sp:Nat→Bool} {hd:Bool} {n:Nat}
theorem OpensF.nil{z:Nat}:OpensF en P W sp hd n z [] z (fun _:Unit=>[]) (fun _=>True) (fun _=>True):=by
 intro cs xs h hl
 exact⟨(),List.drop_eq_nil_of_le (by omega),trivial,fun _=>trivial⟩
theorem OpensF.cons{α β:Type}{z o k:Nat}{t:TypeId}{fs:List (TypeId×Nat)}{f:α→List Value}{g:β→List Value}{R S:α→Prop}{R' S':β→Prop}(h:Opens en P W sp hd n t f R S)(hc:P.cellsOf t=k)
  (hs:OpensF en P W sp hd n z fs (o+k) g R' S'):OpensF en P W sp hd n z ((t,o)::fs) o (fun x:α×β=>f x.1++g x.2) (fun x=>R x.1∧R' x.2) (fun x=>S x.1∧S' x.2):=by
 intro cs xs hm hl
 rw[List.mapM_cons] at hm
 cases h0:DataW.trod en P W 0 sp hd n t ((cs.drop o).take (P.cellsOf t)) with
 | none=>simp[h0] at hm
 | some x0 =>
   cases h1:(fs.mapM fun p=>DataW.trod en P W 0 sp hd n p.1 ((cs.drop p.2).take (P.cellsOf p.1))) with
   | none=>simp[h0,h1] at hm
   | some ys =>
     simp[h0,h1] at hm
     subst hm
     obtain⟨d0,p0⟩:=x0
     obtain⟨x,e1,r1,s1⟩:=h _ _ _ h0
     obtain⟨y,e2,r2,s2⟩:=hs _ _ h1 hl
     refine⟨(x,y), ?_,⟨r1,r2⟩,fun hw=>⟨s1 fun m hm=>hw m ?_,s2 fun m hm=>hw m ?_⟩⟩
     ·show cs.drop o=f x++g y
      rw[←e1,←e2,hc,←List.drop_drop,List.take_append_drop]
     ·simp only[List.map_cons,DataW.weightsEach,List.mem_append];exact .inl hm
     ·simp only[List.map_cons,DataW.weightsEach,List.mem_append];exact .inr hm
theorem Opens.struct{α:Type}{z:Nat}{t:TypeId}{fs:List (TypeId×Nat)}{f:α→List Value}{R S:α→Prop}(ht:structB P t fs z=true)(h:OpensF en P W sp hd n z fs 0 f R S):Opens en P W sp hd (n+1) t f R S:=by
 intro cs d ps hr
 unfold structB at ht
 split at ht
 ·rename_i gs hg
  simp only[Bool.and_eq_true,beq_iff_eq] at ht
  obtain⟨ht,hz⟩:=ht
  simp only[DataW.trod,hg] at hr
  split at hr
  ·rename_i hl
   rw[hz] at hl
   cases hm:gs.toList.mapM fun f=>DataW.trod en P W 0 sp hd n f.type ((cs.drop f.offset).take (P.cellsOf f.type)) with
   | none=>rw[hm] at hr;cases hr
   | some xs =>
     rw[hm] at hr
     simp only[Option.map_some,Option.some.injEq,Prod.mk.injEq] at hr
     have hm':(fs.mapM fun p=>DataW.trod en P W 0 sp hd n p.1 ((cs.drop p.2).take (P.cellsOf p.1)))=some xs:=by rw[←ht,mapM_via];exact hm
     obtain⟨x,e,r,s⟩:=h cs xs hm' hl
     refine⟨x,by simpa using e,r,fun hw=>s fun m hmm=>hw m ?_⟩
     rw[←hr.1]
     simp only[DataW.weights,hg]
     have:gs.toList.map (fun f=>f.type)=fs.map Prod.fst:=by rw[←ht,List.map_map];rfl
     rw[this];exact hmm
  ·cases hr
 ·cases ht
theorem Opens.map{α β:Type}{t:TypeId}{f:α→List Value}{g:β→List Value}{R S:α→Prop}{R' S':β→Prop}(h:Opens en P W sp hd n t f R S)(φ:α→β)(hf:∀x,R x→f x=g (φ x))(hr:∀x,R x→R' (φ x))(hs:∀x,R x→S x→S' (φ x)):Opens en P W sp hd n t g R' S':=by
 intro cs d ps hd
 obtain⟨x,e,r,s⟩:=h cs d ps hd
 exact⟨φ x,e.trans (hf x r),hr x r,fun hw=>hs x r (s hw)⟩
theorem Opens.int{k:IntKind}{t:TypeId}(ht:P.underlying t=some (.int k)):Opens en P W sp hd n t (fun x:Int=>[.int k x]) (fun x=>(Lit.int k x).wf=true) (fun _=>True):=by
 intro cs d ps h
 obtain⟨x,e,_,hw⟩:=DataW.trod_int ht h
 exact⟨x,e,hw,fun _=>trivial⟩
theorem Opens.str{t:TypeId}(ht:P.underlying t=some .string):Opens en P W sp hd n t (fun x:ByteArray=>[.string x]) (fun x=>x.size≤maxLen) (fun x=>x.size≤reachBytes):=by
 intro cs d ps h
 obtain⟨s,e,hx,hl⟩:=DataW.trod_string ht h
 refine⟨s,e,hl,fun hw=>?_⟩
 simp only[Prod.mk.injEq] at hx
 have:=hw s.data.toList.length (by rw[hx.1];simp[DataW.weights])
 simpa using this
structure SlV (β:Type) where
 a:Option Addr
 n:Nat
 c:Nat
 l:List β
theorem Opens.slice{β:Type}{z by':Nat}{t e:TypeId}{f:β→List Value}{R S:β→Prop}(ht:P.underlying t=some (.slice e))(hc:P.cellsOf e=z)(hz:0<z)(hb:P.bytesOf e=by')(hb1:1≤by')(hf:∀x,(f x).length=z)(h:Opens en P W sp hd n e f R S) :
  Opens en P W sp hd (n+1) t (fun s:SlV β=>[.slice s.a s.n s.c]) (fun s=>SlG (Imm.all W) [] z f s.a s.n s.l∧∀x∈s.l,R x) (fun s=>s.l.length≤reachBytes∧∀x∈s.l,S x):=by
 intro cs d ps hr
 rcases DataW.trod_slice ht hr with ⟨h1,h2⟩ | ⟨ad,len,cap,elems,rest,n',hn,hcs,hx,_,_,_,hlen,hel,_,_⟩
 ·exact⟨⟨none,0,0,[]⟩,h1,⟨⟨rfl,fun h=>absurd rfl h⟩,fun x hx=>by cases hx⟩,fun _=>⟨by simp,fun x hx=>by cases hx⟩⟩
 ·cases hn
  simp only[Prod.mk.injEq] at hx
  obtain⟨hdd,hps⟩:=hx
  clear hps
  subst hcs
  have hone:∀i,i<len→∃x,Rd (Imm.all W) [] (ad.add (i*z)) (f x)∧R x∧((∀y∈elems,∀m∈y.1.weights P e,m≤reachBytes)→S x):=by
   intro i hi
   have hfy:=hel i hi
   obtain⟨y,hy⟩:∃y,elems[i]? = some y:=⟨_,List.getElem?_eq_getElem (by omega)⟩
   rw[hc,hy] at hfy
   cases hcs:W.cells? 0 (ad.add (i*z)) z with
   | none=>rw[hcs] at hfy;cases hfy
   | some cs =>
     rw[hcs] at hfy
     simp only[Option.bind_some] at hfy
     obtain⟨x,e1,r1,s1⟩:=h cs y.1 y.2 hfy
     subst e1
     have hspk:(ad.add (i*z)).spot=none:=by
      obtain⟨_,hl,hc'⟩:=World.cells?_some hcs
      have h0:=hc' 0 hz
      rw[show (ad.add (i*z)).add 0=ad.add (i*z) from rfl,List.getElem?_eq_getElem (by rw[hf];omega)] at h0
      cases hs:(ad.add (i*z)).spot with
      | none=>rfl
      | some q =>
        unfold World.cell? at h0
        split at h0<;>simp_all
     refine⟨x,Rd.of_row hcs hz [] hspk,r1,fun hw=>s1 fun m hm=>hw y (List.mem_of_getElem? hy) m hm⟩
  obtain⟨l,hll,hlx⟩:=list_choice len hone
  refine⟨⟨some ad,len,cap,l⟩,rfl,⟨⟨hll.symm,fun _=>⟨ad,rfl,fun i x hx=>(hlx i x hx).1⟩⟩,fun x hx=>?_⟩,fun hw=>⟨?_,fun x hx=>?_⟩⟩
  ·obtain⟨i,hi,rfl⟩:=List.mem_iff_getElem.1 hx
   exact (hlx i _ (List.getElem?_eq_getElem hi)).2.1
  ·have h1:=hw ((elems.length+rest.length)*by') (by rw[hdd];simp only[DataW.weights,ht,List.length_map,hb];exact List.mem_cons_self ..)
   have h2:elems.length+rest.length≤(elems.length+rest.length)*by':=Nat.le_mul_of_pos_right _ hb1
   show l.length≤reachBytes
   omega
  ·obtain⟨i,hi,rfl⟩:=List.mem_iff_getElem.1 hx
   refine (hlx i _ (List.getElem?_eq_getElem hi)).2.2 fun y hy m hm=>hw m ?_
   rw[hdd]
   simp only[DataW.weights,ht]
   refine List.mem_cons_of_mem _ (List.mem_append_left _ ?_)
   clear hx hlen hel hone hlx hdd hr hw hi hll
   induction elems with
   | nil=>cases hy
   | cons q qs ihq =>
     simp only[List.map_cons,DataW.weightsAll,List.mem_append]
     rcases List.mem_cons.1 hy with rfl | hy
     ·exact .inl hm
     ·exact .inr (ihq hy)
theorem Opens.zero{α:Type}{t:TypeId}{f:α→List Value}{R S:α→Prop}:Opens en P W sp hd 0 t f R S:=fun cs d ps h=>by cases h
end
end Go.Vc
namespace Go.Lx
open Go.Vc Go.ChangeShapes Go.WideShapes Go.ChangeAt Go.RowKit
def ndF:List (TypeId×Nat):=[(29,0),(30,1),(31,2),(2,3),(32,4),(9,5),(33,6),(3,7)]
theorem wf8{x:Int}(h:(Lit.int .u8 x).wf=true):0≤x∧x≤255:=by
 simp[Lit.wf,IntKind.min,IntKind.max,IntKind.signed,IntKind.bits] at h;omega
theorem wf64{x:Int}(h:(Lit.int .i64 x).wf=true) : -9223372036854775808≤x∧x≤9223372036854775807:=by
 simp[Lit.wf,IntKind.min,IntKind.max,IntKind.signed,IntKind.bits] at h;omega
theorem Wf.mk{t:Nd}(h:t.px.Fit)(hk:∀k∈t.kids,k.px.Wf):t.px.Wf:=by
 intro y hy
 rw[←nodes_px] at hy
 obtain⟨x,hx,rfl⟩:=List.mem_map.1 hy
 rw[Nd.nodes_eq] at hx
 rcases List.mem_cons.1 hx with rfl | hx
 ·exact h
 ·have hL:∀l:List Nd,(∀k∈l,k.px.Wf)→x∈Nd.nodesL l→x.px.Fit:=by
   intro l
   induction l with
   | nil=>intro _ h;rw[Nd.nodesL] at h;cases h
   | cons z r ih =>
     intro hz h
     rw[Nd.nodesL] at h
     rcases List.mem_append.1 h with h | h
     ·exact Wf.nd (hz z (List.mem_cons_self ..)) x h
     ·exact ih (fun k hk=>hz k (List.mem_cons_of_mem _ hk)) h
  exact hL _ hk hx
theorem open_nd{H:Type}{en:TypeId×Value→H}{W:World}{sp:Nat→Bool}{hd:Bool}:∀n,Opens en P W sp hd n 35 Nd.enc (fun t=>NdOk (Imm.all W) [] t∧t.px.Wf) (fun t=>t.px.ShortP):=by
 intro n
 induction n using Nat.strongRecOn with
 | ind n ih =>
   cases n with
   | zero=>exact Opens.zero
   | succ n =>
     have hsl:Opens en P W sp hd n 33 (fun s:SlV Nd=>[.slice s.a s.n s.c]) (fun s=>SlG (Imm.all W) [] 8 Nd.enc s.a s.n s.l∧∀x∈s.l,NdOk (Imm.all W) [] x∧x.px.Wf) (fun s=>s.l.length≤reachBytes∧∀x∈s.l,x.px.ShortP):=by
      cases n with
      | zero=>exact Opens.zero
      | succ n=>exact Opens.slice (z:=8) (by':=72) (by kernel_rfl) (by kernel_rfl) (by decide) (by kernel_rfl) (by decide) Nd.enc_len (ih n (by omega))
     refine (Opens.struct (z:=8) (fs:=ndF) (by kernel_rfl) ((OpensF.cons (k:=1) (Opens.int (k:=.u8) (by kernel_rfl)) (by kernel_rfl)<|OpensF.cons (k:=1) (Opens.int (k:=.u8) (by kernel_rfl)) (by kernel_rfl)<|OpensF.cons (k:=1) (Opens.int (k:=.u8) (by kernel_rfl)) (by kernel_rfl) <|
      OpensF.cons (k:=1) (Opens.int (k:=.i64) (by kernel_rfl)) (by kernel_rfl)<|OpensF.cons (k:=1) (Opens.int (k:=.u8) (by kernel_rfl)) (by kernel_rfl)<|OpensF.cons (k:=1) (Opens.str (by kernel_rfl)) (by kernel_rfl)<|OpensF.cons (k:=1) hsl (by kernel_rfl) <|
      OpensF.cons (k:=1) (Opens.int (k:=.i64) (by kernel_rfl)) (by kernel_rfl) OpensF.nil))).map (fun x=>Nd.mk x.1 x.2.1 x.2.2.1 x.2.2.2.1 x.2.2.2.2.1 x.2.2.2.2.2.1 x.2.2.2.2.2.2.1.a x.2.2.2.2.2.2.1.c x.2.2.2.2.2.2.1.l x.2.2.2.2.2.2.2.1) ?_ ?_ ?_
     ·intro ⟨k,o,ty,m,f,s,⟨a,l,c,ks⟩,q,u⟩ ⟨_,_,_,_,_,_,⟨h7,_⟩,_⟩
      have hl:l=ks.length:=h7.1
      subst hl;rfl
     ·intro ⟨k,o,ty,m,f,s,⟨a,l,c,ks⟩,q,u⟩ ⟨h1,h2,h3,h4,h5,h6,⟨h7,h8⟩,h9,_⟩
      have hl:l=ks.length:=h7.1
      subst hl
      refine⟨.mk h7 fun x hx=>(h8 x hx).1,Wf.mk ?_ fun x hx=>(h8 x hx).2⟩
      unfold Px.Fit
      rw[Nd.px_kind,Nd.px_oper,Nd.px_typ,Nd.px_n,Nd.px_field,Nd.px_pos]
      exact⟨wf8 h1,wf8 h2,wf8 h3,wf64 h4,wf8 h5,wf64 h9⟩
     ·intro ⟨k,o,ty,m,f,s,⟨a,l,c,ks⟩,q,u⟩ _ ⟨_,_,_,_,_,g6,⟨g7,g8⟩,_⟩
      refine .mk (by rw[Nd.px_name];exact g6) (by rw[Nd.px_len];exact g7) fun x hx=>?_
      rw[Nd.px_kids] at hx
      obtain⟨y,hy,rfl⟩:=List.mem_map.1 hx
      exact g8 y hy
theorem agg_of{P:Program}{W:World}{r:Reach}{b0:Nat}{t:TypeId}{v:Value}{fs:List (TypeId×Nat)}{z:Nat}(hst:structB P t fs z=true)(hval:Value.okWide P W r b0 t v):v=.agg v.cells.toList.toArray:=by
 unfold structB at hst
 split at hst
 ·rename_i gs hg
  have h5:=okWide_struct hg hval
  obtain⟨cs,hv,hcs⟩:=h5
  clear hcs
  subst hv
  rfl
 ·cases hst
theorem open_node{H:Type}{en:TypeId×Value→H}{W:World}{base:Nat}{sp:Nat→Bool}{hd:Bool}{v:Value}{d:DataW H}{ps:List MemPlace}{r:Reach}(hval:Value.okWide P W r base 35 v)(h:DataW.Trod en P W 0 sp hd 35 v d ps) :
  ∃t:Nd,v=t.v∧NdOk (Imm.all W) [] t∧t.px.Wf∧((∀m∈d.weights P 35,m≤reachBytes)→t.px.ShortP):=by
 have hv:=agg_of (fs:=ndF) (z:=8) (by kernel_rfl) hval
 obtain⟨fuel,hf⟩:=h
 obtain⟨t,e,⟨h1,h2⟩,h3⟩:=open_nd fuel _ d ps hf
 exact⟨t,by rw[hv,e],h1,h2,h3⟩
end Go.Lx
