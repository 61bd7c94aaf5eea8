import Derived.Test.YtcbilbkafjnenaaGreatDoorB6
set_option linter.unusedVariables false
set_option linter.unusedSimpArgs false
set_option maxRecDepth 100000
namespace Go.Lx
open Go.Vc Go.Proofs.Tryz
def shT_lTypesOfs:List (Nat×List Sh):=[(4,[.one .bool]),(26,[.agg [.str,.slc,.slc,.slc]]),(35,[.agg [(.int .u8),(.int .u8),(.int .u8),(.int .i64),(.int .u8),.str,.slc,(.int .i64)]]),(41,[.one (.int .i64),.one (.int .i64)]),(54,[.one (.int .u8),.one .any]),(56,[.one (.int .u8),.agg [(.int .i64),(.int .i64),.bool]])]
def law15_TypesOfs.V(ka:Nat→Bs→OA→Nat→Nat→OA→Nat→Nat→OA→Nat→Nat→Nat×Obj)(m n:Nat→Nat×Obj)(nV:Int→Int→Int→Int→Int→Bs→OA→Nat→Nat→Int→Value)(nO:Int→Int→Int→Int→Int→Bs→OA→Nat→Nat→Int→Obj)(vi:Int→Value)(vs:Bs→Value)(vl:OA→Nat→Nat→Value)(vt:Bool→Value)(au:Bs)(ae:OA)(af ag:Nat)(ah:OA)(ai aj:Nat)(ak:OA)(al am:Nat)(av aw ax ay az:Int)(aA:Bs)(an:OA)(ao ap:Nat)(aB:Int)(I:Imm)(F:Heap)(Q:PostQ)  : Prop:=∀o:Nat,∀p:Nat,Tc1 P 10 #[] I ((n o)::(m p)::·) F vt fun r I1 F1=>Tc1 P 11 #[.agg #[vs au,vl ae af ag,vl ah ai aj,vl ak al am],nV av aw ax ay az aA an ao ap aB] I1 ((n o)::(m p)::·) F1 vt fun r1 I2 F2=>(It (!r) (Q (.returned (vt r)) I2 F2) (It r1 (Q (.returned (vt r)) I2 F2) (Tcn P 12 #[.agg #[vs au,vl ae af ag,vl ah ai aj,vl ak al am]] I2 ((n o)::(m p)::·) F2 fun e3 I3 G3=>∃(t:Bs) (a:OA) (b c:Nat) (d:OA) (e f:Nat) (g:OA) (h i:Nat),e3=.returned (.agg #[vs t,vl a b c,vl d e f,vl g h i])∧G3 fun F3=>∀aa:Nat,Tcn P 18 #[nV av aw ax ay az aA an ao ap aB] I3 ((n o)::(m p)::(ka aa t a b c d e f g h i)::·) F3 fun e4 I4 G4=>∃(s u v w x:Int) (y:Bs) (j:OA) (k l:Nat) (z:Int),e4=.returned (nV s u v w x y j k l z)∧G4 fun F4=>∀ab:Nat,Tcn P 19 #[.agg #[vs t,vl a b c,vl d e f,vl g h i],nV s u v w x y j k l z] I4 ((n o)::(m p)::(ka aa t a b c d e f g h i)::(ab,nO s u v w x y j k l z)::·) F4 fun e5 I5 G5=>∃(r0:Int) (aD:Value),e5=.returned (.tuple #[.int .u8 r0,aD])∧G5 fun F5=>Tcn P 14 #[aD] I5 ((n o)::(m p)::(ka aa t a b c d e f g h i)::(ab,nO s u v w x y j k l z)::·) F5 fun e6 I6 G6=>∃(ar aE:Int),e6=.returned (.tuple #[vi ar,vi aE])∧G6 fun F6=>Tcn P 20 #[.agg #[vs au,vl ae af ag,vl ah ai aj,vl ak al am],nV av aw ax ay az aA an ao ap aB] I6 ((n o)::(m p)::(ka aa t a b c d e f g h i)::(ab,nO s u v w x y j k l z)::·) F6 fun e7 I7 G7=>∃(aF ac ad:Int) (aq:Bool),e7=.returned (.tuple #[.int .u8 aF,.agg #[vi ac,vi ad,vt aq]])∧G7 fun F7=>∀aC:Nat,Tc1 P 16 #[.agg #[vs t,vl a b c,vl d e f,vl g h i],.agg #[vs au,vl ae af ag,vl ah ai aj,vl ak al am]] I7 ((n o)::(m p)::(ka aa t a b c d e f g h i)::(ab,nO s u v w x y j k l z)::(aC,Obj.cells #[vi ac,vi ad,vt aq] 44 (0,0))::·) F7 vt fun r2 I8 F8=>Tc1 P 21 #[nV s u v w x y j k l z,nV av aw ax ay az aA an ao ap aB] I8 ((n o)::(m p)::(ka aa t a b c d e f g h i)::(ab,nO s u v w x y j k l z)::(aC,Obj.cells #[vi ac,vi ad,vt aq] 44 (0,0))::·) F8 vt fun r3 I9 F9=>(It (r0==aF) (It (ar==ac) (It (aE==ad) (∃q:Bool,BinRun P .eql 38 (.tmp 70) (.const (Value.nilIface)) aD Value.nilIface q∧(It (q==(ar==0)) (It r2 (Q (.returned (vt r3)) I9 F9) (Q (.returned (vt false)) I9 F9)) (Q (.returned (vt false)) I9 F9))) (Q (.returned (vt false)) I9 F9)) (Q (.returned (vt false)) I9 F9)) (Q (.returned (vt false)) I9 F9)))))
theorem law15_TypesOfs.vc{ad:Bs}{m:OA}{p r:Nat}{u:OA}{v w:Nat}{x:OA}{y z:Nat}{ae af ag ah ai:Int}{aj:Bs}{aa:OA}{ab ac:Nat}{ak:Int}{I:Imm}{F:Heap}{Q:PostQ}  (h:law15_TypesOfs.V (fun W a b c d e f g h i j=>(W,Obj.cells #[.string a,.slice b c d,.slice e f g,.slice h i j] 26 (0,0))) (fun b=>(b,Obj.cells #[.int .u8 ae,.int .u8 af,.int .u8 ag,.int .i64 ah,.int .u8 ai,.string aj,.slice aa ab ac,.int .i64 ak] 35 (0,0))) (fun b=>(b,Obj.cells #[.string ad,.slice m p r,.slice u v w,.slice x y z] 26 (0,0))) (fun k o t n f s a l c q=>.agg #[.int .u8 k,.int .u8 o,.int .u8 t,.int .i64 n,.int .u8 f,.string s,.slice a l c,.int .i64 q]) (fun k o t n f s a l c q=>.cells #[.int .u8 k,.int .u8 o,.int .u8 t,.int .i64 n,.int .u8 f,.string s,.slice a l c,.int .i64 q] 35 (0,0)) (.int .i64) .string .slice .bool ad m p r u v w x y z ae af ag ah ai aj aa ab ac ak I F Q):Tri P 5 #[.agg #[.string ad,.slice m p r,.slice u v w,.slice x y z],.agg #[.int .u8 ae,.int .u8 af,.int .u8 ag,.int .i64 ah,.int .u8 ai,.string aj,.slice aa ab ac,.int .i64 ak]] I F Q :=
 tw (A:=(an [3001,3003,12002,12007,12013,12020,12023] [10,11,12,14,16,18,19,20,21] shT_lTypesOfs)) [10,11,12,14,16,18,19,20,21] func5 h
end Go.Lx
namespace Go.Lx
open Go.Vc
theorem TypesOfs_spec(s:StgN)(t:Nd)(hss:s.p.Short)(hst:t.px.ShortP)(I:Imm)(hg:Gl I)(F:Heap)(hs:s.Ok I F)(ht:NdOk I F t):Tri P 5 #[s.v,t.v] I F fun e I' G=>e=.returned (.bool true):=by
 refine law15_TypesOfs.vc ?_
 unfold law15_TypesOfs.V
 intro b_s b_n
 have oks:∀{J:Imm} {G:Heap},Imm.le I J→(∀a,a∈F→a∈G)→s.Ok J G:=fun hl h=>hs.mono hl h
 have okt:∀{J:Imm} {G:Heap},Imm.le I J→(∀a,a∈F→a∈G)→NdOk J G t:=fun hl h=>ht.mono hl h
 refine Tri.ret (awake15_spec hg _) fun I1 l1=>⟨_,rfl,F,.refl _, ?_⟩
 refine (far15_spec s t hss hst I1 _ (oks l1 fun a ha=>by simp only[List.mem_cons,List.mem_append];simp only[ha,true_or,or_true]) (okt l1 fun a ha=>by simp only[List.mem_cons,List.mem_append];simp only[ha,true_or,or_true])).mono fun e I2 G h2 ⟨r1,he,hG,f1⟩=>?_
 subst hG
 refine⟨_,he,F,.refl _, ?_⟩
 have l2:=Imm.le_trans l1 h2
 refine⟨fun h=>(by cases h),fun _=>⟨fun _=>rfl,fun e1=>?_⟩⟩
 obtain⟨ls,lt⟩:=f1 e1
 have lr:=ls.regs
 simp only[StgN.p,List.length_map] at lr
 refine (lendStg_spec s ls I2 _ (oks l2 fun a ha=>by simp only[List.mem_cons,List.mem_append];simp only[ha,true_or,or_true])).mono fun e I3 G h3 ⟨x,Hx,he,px,hOx,hG⟩=>?_
 have l3:=Imm.le_trans l2 h3
 refine⟨_,_,_,_,_,_,_,_,_,_,he,Hx++F,hG.trans (perm_of fun z=>by simp only[cn_app,cn_cons,cn_nil];omega),fun b_x=>?_⟩
 refine (lend_spec t lt I3 _ (okt l3 fun a ha=>by simp only[List.mem_cons,List.mem_append];simp only[ha,true_or,or_true])).mono fun e I4 G h4 ⟨y,Hy,he,py,hOy,hG⟩=>?_
 have l4:=Imm.le_trans l3 h4
 refine⟨_,_,_,_,_,_,_,_,_,_,he,Hy++(Hx++F),hG.trans (perm_of fun z=>by simp only[cn_app,cn_cons,cn_nil];omega),fun b_y=>?_⟩
 have lx:x.p.Light:=by rw[px];exact ls
 have hsx:x.p.Short:=by rw[px];exact hss
 have lrx:=lx.regs
 simp only[StgN.p,List.length_map] at lrx
 have hy:y.px.size≤1048576:=by rw[py];exact lt
 have hsy:y.px.ShortP:=by rw[py];exact hst
 refine Tri.retV (pOf_spec x lrx y hy I4 _ (hOx.ok fun a ha=>by simp only[List.mem_cons,List.mem_append];simp only[ha,true_or,or_true]) (hOy.ok fun a ha=>by simp only[List.mem_cons,List.mem_append];simp only[ha,true_or,or_true])) fun v5 I5 h5 ⟨w5,hv5,hw5⟩=>⟨_,_,congrArg Ending.returned hv5,Hy++(Hx++F),.refl _, ?_⟩
 have l5:=Imm.le_trans l4 h5
 refine Tri.ret (Wrong_of (hg.mono l5) (typeOf_Z x.p y.px) hw5 _) fun I6 h6=>⟨_,_,rfl,Hy++(Hx++F),.refl _, ?_⟩
 have l6:=Imm.le_trans l5 h6
 refine Tri.ret (Of15_spec s lr t lt I6 _ (oks l6 fun a ha=>by simp only[List.mem_cons,List.mem_append];simp only[ha,true_or,or_true]) (okt l6 fun a ha=>by simp only[List.mem_cons,List.mem_append];simp only[ha,true_or,or_true])) fun I7 h7=>⟨_,_,_,_,rfl,Hy++(Hx++F),.refl _,fun b_f=>?_⟩
 have l7:=Imm.le_trans l6 h7
 refine Tri.ret (wholeStg_spec (u:=s) lx hsx px hOx fun a ha=>by simp only[List.mem_cons,List.mem_append];simp only[ha,true_or,or_true] (oks l7 fun a ha=>by simp only[List.mem_cons,List.mem_append];simp only[ha,true_or,or_true])) fun I8 h8=>⟨_,rfl,Hy++(Hx++F),.refl _, ?_⟩
 have l8:=Imm.le_trans l7 h8
 refine Tri.ret (whole_spec (u:=t) hy hsy py hOy fun a ha=>by simp only[List.mem_cons,List.mem_append];simp only[ha,true_or,or_true] (okt l8 fun a ha=>by simp only[List.mem_cons,List.mem_append];simp only[ha,true_or,or_true])) fun I9 h9=>⟨_,rfl,Hy++(Hx++F),.refl _, ?_⟩
 have hq:BinRun P .eql 38 (.tmp 70) (.const (.nilIface)) w5 .nilIface ((typeOf s.p t.px).2.e==0):=by
  have:=hw5.eql (t:=38) (x:=.tmp 70) (by kernel_rfl)
  rwa [px,py] at this
 rw[px,py]
 refine⟨fun _=>⟨fun _=>⟨fun _=>⟨_,hq,fun _=>⟨fun _=>rfl,fun h=>?_⟩,fun h=>?_⟩,fun h=>?_⟩,fun h=>?_⟩,fun h=>?_⟩<;>simp at h
end Go.Lx
namespace Go.Vc
open Go.ChangeShapes Go.WideShapes Go.ChangeAt Go.RowKit
theorem Stays.cell{w w':World}(h:Stays w w'){a:Addr}(ha:a.block<w.heap.size):w'.cell? a=w.cell? a:=by
 unfold World.cell?;rw[h.heap _ ha]
theorem Stays.same{w w':World}(h:Stays w w'){p:MemPlace}(hp:p.block<w.heap.size):w.sameAt w' p:=by
 cases p with
 | cell b off=>exact h.cell (a:=⟨b,off,none⟩) hp
 | map b=>exact h.heap b hp
theorem trodAll_stays{H:Type}{enc:TypeId×Value→H}{P:Program}{T:TypeId→Prop}{w w':World}(K:Kids P T)(hsz:∀{t e:TypeId},T t→P.underlying t=some (.slice e)→0<P.cellsOf e)(st:Stays w w'){sp':Nat→Bool} :
  ∀{ts:List TypeId} {vs:List Value} {ds:List (DataW H)} {ps:List MemPlace},(∀t∈ts,T t)→DataW.TrodAll enc P w 0 (fun _=>true) true ts vs ds ps→(∀p∈ps,sp' p.block=true)→DataW.TrodAll enc P w' 0 sp' true ts vs ds ps
 | [],[],[],ps,_,h,_=>h
 | t::ts,v::vs,d::ds,ps,ht,⟨p,q,⟨n,h1⟩,h2,e⟩,hs=>by
   subst e
   have hlt:∀x∈p,x.block<w.heap.size:=DataW.trod_lt n t v.cells.toList (d,p) h1
   refine⟨p,q,⟨n, ?_⟩,trodAll_stays K hsz st (fun t' ht'=>ht t' (List.mem_cons_of_mem _ ht')) h2 (fun x hx=>hs x (List.mem_append_right _ hx)),rfl⟩
   exact DataW.trod_stays K hsz (fun h=>by cases h) (ht t (List.mem_cons_self ..)) h1 (fun x hx=>st.same (hlt x hx)) (fun x hx=>hs x (List.mem_append_left _ hx))
 | [],_::_,_,_,_,h,_=>h.elim
 | [],[],_::_,_,_,h,_=>h.elim
 | _::_,[],_,_,_,h,_=>h.elim
 | _::_,_::_,[],_,_,h,_=>h.elim
theorem Rd.of_cell{W:World}{ad:Addr}{v:Value}(h:W.cell? ad=some v)(G:Heap):Rd (Imm.all W) G ad [v]:=by
 unfold World.cell? at h
 cases hb:W.heap[ad.block]? with
 | none=>rw[hb] at h;cases h
 | some o =>
   rw[hb] at h
   cases o with
   | cells c e fz =>
     simp only at h
     cases hs:ad.spot with
     | some x=>rw[hs] at h;simp at h
     | none =>
       rw[hs] at h
       refine⟨hs,c,e,fz,.inl hb,fun j hj=>?_⟩
       have:j=0:=by simpa using hj
       subst this
       simpa using h
   | _=>cases h
end Go.Vc
namespace Go.Vc
open Go.ChangeShapes Go.WideShapes Go.ChangeAt Go.RowKit
theorem list_choice{α:Type}{p:Nat→α→Prop}:∀(n:Nat),(∀i,i<n→∃x,p i x)→∃l:List α,l.length=n∧∀(i:Nat) (x:α),l[i]? = some x→p i x
 | 0,_=>⟨[],rfl,fun i x h=>by simp at h⟩
 | n+1,h=>by
   obtain⟨l,hl,hp⟩:=list_choice n fun i hi=>h i (by omega)
   obtain⟨x,hx⟩:=h n (by omega)
   refine⟨l++[x],by simp[hl],fun i y hy=>?_⟩
   rw[List.getElem?_append] at hy
   split at hy
   ·exact hp i y hy
   ·rename_i hi
    have:i-l.length=0:=by
     rcases Nat.eq_zero_or_pos (i-l.length) with h | h
     ·exact h
     ·rw[List.getElem?_eq_none (by simp;omega)] at hy;cases hy
    rw[this] at hy
    simp only[List.getElem?_cons_zero,Option.some.injEq] at hy
    subst hy
    have:i=n:=by omega
    rw[this];exact hx
theorem Rd.of_row{W:World}{ad:Addr}{n:Nat}{cs:List Value}{base:Nat}(h:W.cells? base ad n=some cs)(hn:0<n)(G:Heap):ad.spot=none→Rd (Imm.all W) G ad cs:=by
 intro hsp
 obtain⟨_,hl,hc⟩:=World.cells?_some h
 have h0:W.cell? ad=cs[0]?:=by have:=hc 0 hn;rwa [show ad.add 0=ad from rfl] at this
 have hlen:cs.length=n:=hl
 unfold World.cell? at h0
 cases hb:W.heap[ad.block]? with
 | none=>rw[hb] at h0;simp only at h0;rw[List.getElem?_eq_getElem (by omega)] at h0;cases h0
 | some o =>
   cases o with
   | cells c e fz =>
     refine⟨hsp,c,e,fz,.inl hb,fun j hj=>?_⟩
     have h1:=hc j (by omega)
     have hadd:ad.add j=⟨ad.block,ad.off+j,none⟩:=by
      obtain⟨b,off,sp⟩:=ad
      simp only at hsp;subst hsp
      unfold Addr.add;split<;>simp_all
     rw[hadd] at h1
     unfold World.cell? at h1
     simp only[hb] at h1
     simpa using h1
   | _=>rw[hb] at h0;simp only at h0;rw[List.getElem?_eq_getElem (by omega)] at h0;cases h0
end Go.Vc
namespace Go.Vc
open Go.ChangeShapes Go.WideShapes Go.ChangeAt Go.RowKit
def Opens{H α:Type}(en:TypeId×Value→H)(P:Program)(W:World)(sp:Nat→Bool)(hd:Bool)(n:Nat)(t:TypeId)(f:α→List Value)(R S:α→Prop):Prop :=
 ∀cs d ps,DataW.trod en P W 0 sp hd n t cs=some (d,ps)→∃x,cs=f x∧R x∧((∀m∈d.weights P t,m≤reachBytes)→S x)
def OpensF{H α:Type}(en:TypeId×Value→H)(P:Program)(W:World)(sp:Nat→Bool)(hd:Bool)(n:Nat)(z:Nat)(fs:List (TypeId×Nat))(o:Nat)(f:α→List Value)(R S:α→Prop):Prop :=
 ∀(cs:List Value) (xs:List (DataW H×List MemPlace)),(fs.mapM fun p=>DataW.trod en P W 0 sp hd n p.1 ((cs.drop p.2).take (P.cellsOf p.1)))=some xs→cs.length=z→∃x,cs.drop o=f x∧R x∧((∀m∈DataW.weightsEach P (fs.map Prod.fst) (xs.map Prod.fst),m≤reachBytes)→S x)
def structB(P:Program)(t:TypeId)(l:List (TypeId×Nat))(z:Nat):Bool:=match P.underlying t with
 | some (.struct fs)=>(fs.toList.map fun f=>(f.type,f.offset))==l&&P.cellsOf t==z
 | _=>false
theorem mapM_via{α β γ:Type}(h:α→β)(g:β→Option γ):∀l:List α,(l.map h).mapM g=l.mapM fun x=>g (h x)
 | []=>rfl
 | x::l=>by simp[List.mapM_cons,mapM_via h g l]
section
variable {H:Type} {en:TypeId×Value→H} {P:Program} {W:World} {sp:Nat→Bool} {hd:Bool} {n:Nat}
theorem OpensF.nil{z:Nat}:OpensF en P W sp hd n z [] z (fun _:Unit=>[]) (fun _=>True) (fun _=>True):=by
 intro cs xs h hl
 exact⟨(),List.drop_eq_nil_of_le (by omega),trivial,fun _=>trivial⟩
theorem OpensF.cons{α β:Type}{z o k:Nat}{t:TypeId}{fs:List (TypeId×Nat)}{f:α→List Value}{g:β→List Value}{R S:α→Prop}{R' S':β→Prop}(h:Opens en P W sp hd n t f R S)(hc:P.cellsOf t=k)
  (hs:OpensF en P W sp hd n z fs (o+k) g R' S'):OpensF en P W sp hd n z ((t,o)::fs) o (fun x:α×β=>f x.1++g x.2) (fun x=>R x.1∧R' x.2) (fun x=>S x.1∧S' x.2):=by
 intro cs xs hm hl
 rw[List.mapM_cons] at hm
 cases h0:DataW.trod en P W 0 sp hd n t ((cs.drop o).take (P.cellsOf t)) with
 | none=>simp[h0] at hm
 | some x0 =>
   cases h1:(fs.mapM fun p=>DataW.trod en P W 0 sp hd n p.1 ((cs.drop p.2).take (P.cellsOf p.1))) with
   | none=>simp[h0,h1] at hm
   | some ys =>
     simp[h0,h1] at hm
     subst hm
     obtain⟨d0,p0⟩:=x0
     obtain⟨x,e1,r1,s1⟩:=h _ _ _ h0
     obtain⟨y,e2,r2,s2⟩:=hs _ _ h1 hl
     refine⟨(x,y), ?_,⟨r1,r2⟩,fun hw=>⟨s1 fun m hm=>hw m ?_,s2 fun m hm=>hw m ?_⟩⟩
     ·show cs.drop o=f x++g y
      rw[←e1,←e2,hc,←List.drop_drop,List.take_append_drop]
     ·simp only[List.map_cons,DataW.weightsEach,List.mem_append];exact .inl hm
     ·simp only[List.map_cons,DataW.weightsEach,List.mem_append];exact .inr hm
theorem Opens.struct{α:Type}{z:Nat}{t:TypeId}{fs:List (TypeId×Nat)}{f:α→List Value}{R S:α→Prop}(ht:structB P t fs z=true)(h:OpensF en P W sp hd n z fs 0 f R S):Opens en P W sp hd (n+1) t f R S:=by
 intro cs d ps hr
 unfold structB at ht
 split at ht
 ·rename_i gs hg
  simp only[Bool.and_eq_true,beq_iff_eq] at ht
  obtain⟨ht,hz⟩:=ht
  simp only[DataW.trod,hg] at hr
  split at hr
  ·rename_i hl
   rw[hz] at hl
   cases hm:gs.toList.mapM fun f=>DataW.trod en P W 0 sp hd n f.type ((cs.drop f.offset).take (P.cellsOf f.type)) with
   | none=>rw[hm] at hr;cases hr
   | some xs =>
     rw[hm] at hr
     simp only[Option.map_some,Option.some.injEq,Prod.mk.injEq] at hr
     have hm':(fs.mapM fun p=>DataW.trod en P W 0 sp hd n p.1 ((cs.drop p.2).take (P.cellsOf p.1)))=some xs:=by rw[←ht,mapM_via];exact hm
     obtain⟨x,e,r,s⟩:=h cs xs hm' hl
     refine⟨x,by simpa using e,r,fun hw=>s fun m hmm=>hw m ?_⟩
     rw[←hr.1]
     simp only[DataW.weights,hg]
     have:gs.toList.map (fun f=>f.type)=fs.map Prod.fst:=by rw[←ht,List.map_map];rfl
     rw[this];exact hmm
  ·cases hr
 ·cases ht
theorem Opens.map{α β:Type}{t:TypeId}{f:α→List Value}{g:β→List Value}{R S:α→Prop}{R' S':β→Prop}(h:Opens en P W sp hd n t f R S)(φ:α→β)(hf:∀x,R x→f x=g (φ x))(hr:∀x,R x→R' (φ x))(hs:∀x,R x→S x→S' (φ x)):Opens en P W sp hd n t g R' S':=by
 intro cs d ps hd
 obtain⟨x,e,r,s⟩:=h cs d ps hd
 exact⟨φ x,e.trans (hf x r),hr x r,fun hw=>hs x r (s hw)⟩
theorem Opens.int{k:IntKind}{t:TypeId}(ht:P.underlying t=some (.int k)):Opens en P W sp hd n t (fun x:Int=>[.int k x]) (fun x=>(Lit.int k x).wf=true) (fun _=>True):=by
 intro cs d ps h
 obtain⟨x,e,_,hw⟩:=DataW.trod_int ht h
 exact⟨x,e,hw,fun _=>trivial⟩
theorem Opens.str{t:TypeId}(ht:P.underlying t=some .string):Opens en P W sp hd n t (fun x:ByteArray=>[.string x]) (fun x=>x.size≤maxLen) (fun x=>x.size≤reachBytes):=by
 intro cs d ps h
 obtain⟨s,e,hx,hl⟩:=DataW.trod_string ht h
 refine⟨s,e,hl,fun hw=>?_⟩
 simp only[Prod.mk.injEq] at hx
 have:=hw s.data.toList.length (by rw[hx.1];simp[DataW.weights])
 simpa using this
structure SlV (β:Type) where
 a:Option Addr
 n:Nat
 c:Nat
 l:List β
theorem Opens.slice{β:Type}{z by':Nat}{t e:TypeId}{f:β→List Value}{R S:β→Prop}(ht:P.underlying t=some (.slice e))(hc:P.cellsOf e=z)(hz:0<z)(hb:P.bytesOf e=by')(hb1:1≤by')(hf:∀x,(f x).length=z)(h:Opens en P W sp hd n e f R S) :
  Opens en P W sp hd (n+1) t (fun s:SlV β=>[.slice s.a s.n s.c]) (fun s=>SlG (Imm.all W) [] z f s.a s.n s.l∧∀x∈s.l,R x) (fun s=>s.l.length≤reachBytes∧∀x∈s.l,S x):=by
 intro cs d ps hr
 rcases DataW.trod_slice ht hr with ⟨h1,h2⟩ | ⟨ad,len,cap,elems,rest,n',hn,hcs,hx,_,_,_,hlen,hel,_,_⟩
 ·exact⟨⟨none,0,0,[]⟩,h1,⟨⟨rfl,fun h=>absurd rfl h⟩,fun x hx=>by cases hx⟩,fun _=>⟨by simp,fun x hx=>by cases hx⟩⟩
 ·cases hn
  simp only[Prod.mk.injEq] at hx
  obtain⟨hdd,hps⟩:=hx
  clear hps
  subst hcs
  have hone:∀i,i<len→∃x,Rd (Imm.all W) [] (ad.add (i*z)) (f x)∧R x∧((∀y∈elems,∀m∈y.1.weights P e,m≤reachBytes)→S x):=by
   intro i hi
   have hfy:=hel i hi
   obtain⟨y,hy⟩:∃y,elems[i]? = some y:=⟨_,List.getElem?_eq_getElem (by omega)⟩
   rw[hc,hy] at hfy
   cases hcs:W.cells? 0 (ad.add (i*z)) z with
   | none=>rw[hcs] at hfy;cases hfy
   | some cs =>
     rw[hcs] at hfy
     simp only[Option.bind_some] at hfy
     obtain⟨x,e1,r1,s1⟩:=h cs y.1 y.2 hfy
     subst e1
     have hspk:(ad.add (i*z)).spot=none:=by
      obtain⟨_,hl,hc'⟩:=World.cells?_some hcs
      have h0:=hc' 0 hz
      rw[show (ad.add (i*z)).add 0=ad.add (i*z) from rfl,List.getElem?_eq_getElem (by rw[hf];omega)] at h0
      cases hs:(ad.add (i*z)).spot with
      | none=>rfl
      | some q =>
        unfold World.cell? at h0
        split at h0<;>simp_all
     refine⟨x,Rd.of_row hcs hz [] hspk,r1,fun hw=>s1 fun m hm=>hw y (List.mem_of_getElem? hy) m hm⟩
  obtain⟨l,hll,hlx⟩:=list_choice len hone
  refine⟨⟨some ad,len,cap,l⟩,rfl,⟨⟨hll.symm,fun _=>⟨ad,rfl,fun i x hx=>(hlx i x hx).1⟩⟩,fun x hx=>?_⟩,fun hw=>⟨?_,fun x hx=>?_⟩⟩
  ·obtain⟨i,hi,rfl⟩:=List.mem_iff_getElem.1 hx
   exact (hlx i _ (List.getElem?_eq_getElem hi)).2.1
  ·have h1:=hw ((elems.length+rest.length)*by') (by rw[hdd];simp only[DataW.weights,ht,List.length_map,hb];exact List.mem_cons_self ..)
   have h2:elems.length+rest.length≤(elems.length+rest.length)*by':=Nat.le_mul_of_pos_right _ hb1
   show l.length≤reachBytes
   omega
  ·obtain⟨i,hi,rfl⟩:=List.mem_iff_getElem.1 hx
   refine (hlx i _ (List.getElem?_eq_getElem hi)).2.2 fun y hy m hm=>hw m ?_
   rw[hdd]
   simp only[DataW.weights,ht]
   refine List.mem_cons_of_mem _ (List.mem_append_left _ ?_)
   clear hx hlen hel hone hlx hdd hr hw hi hll
   induction elems with
   | nil=>cases hy
   | cons q qs ihq =>
     simp only[List.map_cons,DataW.weightsAll,List.mem_append]
     rcases List.mem_cons.1 hy with rfl | hy
     ·exact .inl hm
     ·exact .inr (ihq hy)
theorem Opens.zero{α:Type}{t:TypeId}{f:α→List Value}{R S:α→Prop}:Opens en P W sp hd 0 t f R S:=fun cs d ps h=>by cases h
end
end Go.Vc
namespace Go.Lx
open Go.Vc Go.ChangeShapes Go.WideShapes Go.ChangeAt Go.RowKit
def ndF:List (TypeId×Nat):=[(29,0),(30,1),(31,2),(2,3),(32,4),(9,5),(33,6),(3,7)]
theorem wf8{x:Int}(h:(Lit.int .u8 x).wf=true):0≤x∧x≤255:=by
 simp[Lit.wf,IntKind.min,IntKind.max,IntKind.signed,IntKind.bits] at h;omega
theorem wf64{x:Int}(h:(Lit.int .i64 x).wf=true) : -9223372036854775808≤x∧x≤9223372036854775807:=by
 simp[Lit.wf,IntKind.min,IntKind.max,IntKind.signed,IntKind.bits] at h;omega
theorem Wf.mk{t:Nd}(h:t.px.Fit)(hk:∀k∈t.kids,k.px.Wf):t.px.Wf:=by
 intro y hy
 rw[←nodes_px] at hy
 obtain⟨x,hx,rfl⟩:=List.mem_map.1 hy
 rw[Nd.nodes_eq] at hx
 rcases List.mem_cons.1 hx with rfl | hx
 ·exact h
 ·have hL:∀l:List Nd,(∀k∈l,k.px.Wf)→x∈Nd.nodesL l→x.px.Fit:=by
   intro l
   induction l with
   | nil=>intro _ h;rw[Nd.nodesL] at h;cases h
   | cons z r ih =>
     intro hz h
     rw[Nd.nodesL] at h
     rcases List.mem_append.1 h with h | h
     ·exact Wf.nd (hz z (List.mem_cons_self ..)) x h
     ·exact ih (fun k hk=>hz k (List.mem_cons_of_mem _ hk)) h
  exact hL _ hk hx
theorem open_nd{H:Type}{en:TypeId×Value→H}{W:World}{sp:Nat→Bool}{hd:Bool}:∀n,Opens en P W sp hd n 35 Nd.enc (fun t=>NdOk (Imm.all W) [] t∧t.px.Wf) (fun t=>t.px.ShortP):=by
 intro n
 induction n using Nat.strongRecOn with
 | ind n ih =>
   cases n with
   | zero=>exact Opens.zero
   | succ n =>
     have hsl:Opens en P W sp hd n 33 (fun s:SlV Nd=>[.slice s.a s.n s.c]) (fun s=>SlG (Imm.all W) [] 8 Nd.enc s.a s.n s.l∧∀x∈s.l,NdOk (Imm.all W) [] x∧x.px.Wf) (fun s=>s.l.length≤reachBytes∧∀x∈s.l,x.px.ShortP):=by
      cases n with
      | zero=>exact Opens.zero
      | succ n=>exact Opens.slice (z:=8) (by':=72) (by kernel_rfl) (by kernel_rfl) (by decide) (by kernel_rfl) (by decide) Nd.enc_len (ih n (by omega))
     refine (Opens.struct (z:=8) (fs:=ndF) (by kernel_rfl) ((OpensF.cons (k:=1) (Opens.int (k:=.u8) (by kernel_rfl)) (by kernel_rfl)<|OpensF.cons (k:=1) (Opens.int (k:=.u8) (by kernel_rfl)) (by kernel_rfl)<|OpensF.cons (k:=1) (Opens.int (k:=.u8) (by kernel_rfl)) (by kernel_rfl) <|
      OpensF.cons (k:=1) (Opens.int (k:=.i64) (by kernel_rfl)) (by kernel_rfl)<|OpensF.cons (k:=1) (Opens.int (k:=.u8) (by kernel_rfl)) (by kernel_rfl)<|OpensF.cons (k:=1) (Opens.str (by kernel_rfl)) (by kernel_rfl)<|OpensF.cons (k:=1) hsl (by kernel_rfl) <|
      OpensF.cons (k:=1) (Opens.int (k:=.i64) (by kernel_rfl)) (by kernel_rfl) OpensF.nil))).map (fun x=>Nd.mk x.1 x.2.1 x.2.2.1 x.2.2.2.1 x.2.2.2.2.1 x.2.2.2.2.2.1 x.2.2.2.2.2.2.1.a x.2.2.2.2.2.2.1.c x.2.2.2.2.2.2.1.l x.2.2.2.2.2.2.2.1) ?_ ?_ ?_
     ·intro ⟨k,o,ty,m,f,s,⟨a,l,c,ks⟩,q,u⟩ ⟨_,_,_,_,_,_,⟨h7,_⟩,_⟩
      have hl:l=ks.length:=h7.1
      subst hl;rfl
     ·intro ⟨k,o,ty,m,f,s,⟨a,l,c,ks⟩,q,u⟩ ⟨h1,h2,h3,h4,h5,h6,⟨h7,h8⟩,h9,_⟩
      have hl:l=ks.length:=h7.1
      subst hl
      refine⟨.mk h7 fun x hx=>(h8 x hx).1,Wf.mk ?_ fun x hx=>(h8 x hx).2⟩
      unfold Px.Fit
      rw[Nd.px_kind,Nd.px_oper,Nd.px_typ,Nd.px_n,Nd.px_field,Nd.px_pos]
      exact⟨wf8 h1,wf8 h2,wf8 h3,wf64 h4,wf8 h5,wf64 h9⟩
     ·intro ⟨k,o,ty,m,f,s,⟨a,l,c,ks⟩,q,u⟩ _ ⟨_,_,_,_,_,g6,⟨g7,g8⟩,_⟩
      refine .mk (by rw[Nd.px_name];exact g6) (by rw[Nd.px_len];exact g7) fun x hx=>?_
      rw[Nd.px_kids] at hx
      obtain⟨y,hy,rfl⟩:=List.mem_map.1 hx
      exact g8 y hy
theorem agg_of{P:Program}{W:World}{r:Reach}{b0:Nat}{t:TypeId}{v:Value}{fs:List (TypeId×Nat)}{z:Nat}(hst:structB P t fs z=true)(hval:Value.okWide P W r b0 t v):v=.agg v.cells.toList.toArray:=by
 unfold structB at hst
 split at hst
 ·rename_i gs hg
  have h5:=okWide_struct hg hval
  obtain⟨cs,hv,hcs⟩:=h5
  clear hcs
  subst hv
  rfl
 ·cases hst
theorem open_node{H:Type}{en:TypeId×Value→H}{W:World}{base:Nat}{sp:Nat→Bool}{hd:Bool}{v:Value}{d:DataW H}{ps:List MemPlace}{r:Reach}(hval:Value.okWide P W r base 35 v)(h:DataW.Trod en P W 0 sp hd 35 v d ps) :
  ∃t:Nd,v=t.v∧NdOk (Imm.all W) [] t∧t.px.Wf∧((∀m∈d.weights P 35,m≤reachBytes)→t.px.ShortP):=by
 have hv:=agg_of (fs:=ndF) (z:=8) (by kernel_rfl) hval
 obtain⟨fuel,hf⟩:=h
 obtain⟨t,e,⟨h1,h2⟩,h3⟩:=open_nd fuel _ d ps hf
 exact⟨t,by rw[hv,e],h1,h2,h3⟩
end Go.Lx
namespace Go.Lx
open Go.Vc Go.ChangeShapes Go.WideShapes Go.ChangeAt Go.RowKit
def i64B(x:Int):Prop:=-9223372036854775808≤x∧x≤9223372036854775807
def u8B(x:Int):Prop:=0≤x∧x≤255
def DoP.Wf(d:DoP):Prop:=(u8B d.kind∧u8B d.order∧i64B d.pos)∧d.side.Wf∧d.qty.Wf∧d.price.Wf∧d.value.Wf
def RuleP.Wf(r:RuleP):Prop:=i64B r.pos∧r.when.Wf∧∀d∈r.dos,d.Wf
def StateP.Wf(x:StateP):Prop:=i64B x.pos∧∀r∈x.rules,r.Wf
def RegP.Wf(r:RegP):Prop:=(u8B r.typ∧i64B r.pos)∧r.init.Wf
def SlotP.Wf(r:SlotP):Prop:=i64B r.pos
def StgP.Wf(s:StgP):Prop:=(∀r∈s.regs,r.Wf)∧(∀r∈s.slots,r.Wf)∧∀x∈s.states,x.Wf
section
variable {H:Type} {en:TypeId×Value→H} {W:World} {sp:Nat→Bool} {hd:Bool}
def regF:List (TypeId×Nat):=[(9,0),(31,1),(35,2),(3,10)]
theorem open_regS(n:Nat):Opens en P W sp hd (n+1) 68 RegN.enc (fun r=>r.Ok (Imm.all W) []∧r.p.Wf) (fun r=>r.p.Short):=by
 refine (Opens.struct (z:=11) (fs:=regF) (by kernel_rfl) (OpensF.cons (k:=1) (Opens.str (by kernel_rfl)) (by kernel_rfl)<|OpensF.cons (k:=1) (Opens.int (k:=.u8) (by kernel_rfl)) (by kernel_rfl) <|
  OpensF.cons (k:=8) (open_nd n) (by kernel_rfl)<|OpensF.cons (k:=1) (Opens.int (k:=.i64) (by kernel_rfl)) (by kernel_rfl) OpensF.nil)).map (fun x=>RegN.mk x.1 x.2.1 x.2.2.1 x.2.2.2.1) ?_ ?_ ?_
 ·intro ⟨a,b,c,d,u⟩ _;rfl
 ·intro ⟨a,b,c,d,u⟩ ⟨h1,h2,h3,h4,_⟩
  exact⟨h3.1,⟨wf8 h2,wf64 h4⟩,h3.2⟩
 ·intro ⟨a,b,c,d,u⟩ _ ⟨g1,g2,g3,g4,_⟩
  exact⟨g1,g3⟩
def slotF:List (TypeId×Nat):=[(9,0),(3,1)]
theorem open_slotS(n:Nat):Opens en P W sp hd (n+1) 71 SlotP.enc (fun r=>r.Wf) (fun r=>r.Short):=by
 refine (Opens.struct (z:=2) (fs:=slotF) (by kernel_rfl) (OpensF.cons (k:=1) (Opens.str (by kernel_rfl)) (by kernel_rfl)<|OpensF.cons (k:=1) (Opens.int (k:=.i64) (by kernel_rfl)) (by kernel_rfl) OpensF.nil)).map (fun x=>SlotP.mk x.1 x.2.1) ?_ ?_ ?_
 ·intro ⟨a,b,u⟩ _;rfl
 ·intro ⟨a,b,u⟩ ⟨h1,h2,_⟩;exact wf64 h2
 ·intro ⟨a,b,u⟩ _ ⟨g1,g2,_⟩;exact g1
def doF:List (TypeId×Nat):=[(92,0),(93,1),(9,2),(35,3),(35,11),(35,19),(35,27),(3,35)]
theorem open_doS(n:Nat):Opens en P W sp hd (n+1) 95 DoN.enc (fun r=>r.Ok (Imm.all W) []∧r.p.Wf) (fun r=>r.p.Short):=by
 refine (Opens.struct (z:=36) (fs:=doF) (by kernel_rfl) (OpensF.cons (k:=1) (Opens.int (k:=.u8) (by kernel_rfl)) (by kernel_rfl)<|OpensF.cons (k:=1) (Opens.int (k:=.u8) (by kernel_rfl)) (by kernel_rfl)<|OpensF.cons (k:=1) (Opens.str (by kernel_rfl)) (by kernel_rfl) <|
  OpensF.cons (k:=8) (open_nd n) (by kernel_rfl)<|OpensF.cons (k:=8) (open_nd n) (by kernel_rfl)<|OpensF.cons (k:=8) (open_nd n) (by kernel_rfl)<|OpensF.cons (k:=8) (open_nd n) (by kernel_rfl)<|OpensF.cons (k:=1) (Opens.int (k:=.i64) (by kernel_rfl)) (by kernel_rfl) OpensF.nil)).map
   (fun x=>DoN.mk x.1 x.2.1 x.2.2.1 x.2.2.2.1 x.2.2.2.2.1 x.2.2.2.2.2.1 x.2.2.2.2.2.2.1 x.2.2.2.2.2.2.2.1) ?_ ?_ ?_
 ·intro ⟨a,b,c,d,e,f,g,h,u⟩ _;rfl
 ·intro ⟨a,b,c,d,e,f,g,h,u⟩ ⟨h1,h2,h3,h4,h5,h6,h7,h8,_⟩
  exact⟨⟨h4.1,h5.1,h6.1,h7.1⟩,⟨wf8 h1,wf8 h2,wf64 h8⟩,h4.2,h5.2,h6.2,h7.2⟩
 ·intro ⟨a,b,c,d,e,f,g,h,u⟩ _ ⟨g1,g2,g3,g4,g5,g6,g7,g8,_⟩
  refine⟨g3,fun x hx=>?_⟩
  simp only[DoP.nds,DoN.p,List.mem_cons,List.not_mem_nil,or_false] at hx
  rcases hx with rfl | rfl | rfl | rfl
  ·exact g4
  ·exact g5
  ·exact g6
  ·exact g7
def ruleF:List (TypeId×Nat):=[(35,0),(85,8),(3,9)]
theorem open_dosS:∀n,Opens en P W sp hd n 85 (fun s:SlV DoN=>[.slice s.a s.n s.c]) (fun s=>SlG (Imm.all W) [] 36 DoN.enc s.a s.n s.l∧∀x∈s.l,x.Ok (Imm.all W) []∧x.p.Wf) (fun s=>s.l.length≤reachBytes∧∀x∈s.l,x.p.Short)
 | 0=>Opens.zero
 | 1=>Opens.slice (e:=95) (z:=36) (by':=320) (by kernel_rfl) (by kernel_rfl) (by decide) (by kernel_rfl) (by decide) (fun _=>rfl) Opens.zero
 | n+2=>Opens.slice (e:=95) (z:=36) (by':=320) (by kernel_rfl) (by kernel_rfl) (by decide) (by kernel_rfl) (by decide) (fun _=>rfl) (open_doS n)
theorem open_ruleS(n:Nat):Opens en P W sp hd (n+1) 87 RuleN.enc (fun r=>r.Ok (Imm.all W) []∧r.p.Wf) (fun r=>r.p.Short):=by
 refine (Opens.struct (z:=10) (fs:=ruleF) (by kernel_rfl) (OpensF.cons (k:=8) (open_nd n) (by kernel_rfl)<|OpensF.cons (k:=1) (open_dosS n) (by kernel_rfl)<|OpensF.cons (k:=1) (Opens.int (k:=.i64) (by kernel_rfl)) (by kernel_rfl) OpensF.nil)).map
  (fun x=>RuleN.mk x.1 x.2.1.a x.2.1.c x.2.1.l x.2.2.1) ?_ ?_ ?_
 ·intro ⟨a,⟨sa,sn,sc,sl⟩,c,u⟩ ⟨_,⟨h2,_⟩,_⟩
  have e:sn=sl.length:=h2.1
  subst e;rfl
 ·intro ⟨a,⟨sa,sn,sc,sl⟩,c,u⟩ ⟨h1,⟨h2,h2'⟩,h3,_⟩
  have e:sn=sl.length:=h2.1
  subst e
  refine⟨⟨h1.1,h2,fun d hd=>(h2' d hd).1⟩,wf64 h3,h1.2,fun d hd=>?_⟩
  obtain⟨d',hd',rfl⟩:=List.mem_map.1 hd
  exact (h2' d' hd').2
 ·intro ⟨a,⟨sa,sn,sc,sl⟩,c,u⟩ _ ⟨g1,⟨g2,g2'⟩,_⟩
  refine⟨g1,by simp only[RuleN.p,List.length_map];exact g2,fun d hd=>?_⟩
  obtain⟨d',hd',rfl⟩:=List.mem_map.1 hd
  exact g2' d' hd'
def stateF:List (TypeId×Nat):=[(9,0),(72,1),(3,2)]
theorem open_rulesS:∀n,Opens en P W sp hd n 72 (fun s:SlV RuleN=>[.slice s.a s.n s.c]) (fun s=>SlG (Imm.all W) [] 10 RuleN.enc s.a s.n s.l∧∀x∈s.l,x.Ok (Imm.all W) []∧x.p.Wf) (fun s=>s.l.length≤reachBytes∧∀x∈s.l,x.p.Short)
 | 0=>Opens.zero
 | 1=>Opens.slice (e:=87) (z:=10) (by':=104) (by kernel_rfl) (by kernel_rfl) (by decide) (by kernel_rfl) (by decide) (fun _=>rfl) Opens.zero
 | n+2=>Opens.slice (e:=87) (z:=10) (by':=104) (by kernel_rfl) (by kernel_rfl) (by decide) (by kernel_rfl) (by decide) (fun _=>rfl) (open_ruleS n)
theorem open_stateS(n:Nat):Opens en P W sp hd (n+1) 74 StateN.enc (fun r=>r.Ok (Imm.all W) []∧r.p.Wf) (fun r=>r.p.Short):=by
 refine (Opens.struct (z:=3) (fs:=stateF) (by kernel_rfl) (OpensF.cons (k:=1) (Opens.str (by kernel_rfl)) (by kernel_rfl)<|OpensF.cons (k:=1) (open_rulesS n) (by kernel_rfl)<|OpensF.cons (k:=1) (Opens.int (k:=.i64) (by kernel_rfl)) (by kernel_rfl) OpensF.nil)).map
  (fun x=>StateN.mk x.1 x.2.1.a x.2.1.c x.2.1.l x.2.2.1) ?_ ?_ ?_
 ·intro ⟨a,⟨sa,sn,sc,sl⟩,c,u⟩ ⟨_,⟨h2,_⟩,_⟩
  have e:sn=sl.length:=h2.1
  subst e;rfl
 ·intro ⟨a,⟨sa,sn,sc,sl⟩,c,u⟩ ⟨h1,⟨h2,h2'⟩,h3,_⟩
  have e:sn=sl.length:=h2.1
  subst e
  refine⟨⟨h2,fun d hd=>(h2' d hd).1⟩,wf64 h3,fun d hd=>?_⟩
  obtain⟨d',hd',rfl⟩:=List.mem_map.1 hd
  exact (h2' d' hd').2
 ·intro ⟨a,⟨sa,sn,sc,sl⟩,c,u⟩ _ ⟨g1,⟨g2,g2'⟩,_⟩
  refine⟨g1,by simp only[StateN.p,List.length_map];exact g2,fun d hd=>?_⟩
  obtain⟨d',hd',rfl⟩:=List.mem_map.1 hd
  exact g2' d' hd'
def stgF:List (TypeId×Nat):=[(9,0),(22,1),(23,2),(24,3)]
theorem open_regsS:∀n,Opens en P W sp hd n 22 (fun s:SlV RegN=>[.slice s.a s.n s.c]) (fun s=>SlG (Imm.all W) [] 11 RegN.enc s.a s.n s.l∧∀x∈s.l,x.Ok (Imm.all W) []∧x.p.Wf) (fun s=>s.l.length≤reachBytes∧∀x∈s.l,x.p.Short)
 | 0=>Opens.zero
 | 1=>Opens.slice (e:=68) (z:=11) (by':=104) (by kernel_rfl) (by kernel_rfl) (by decide) (by kernel_rfl) (by decide) (fun _=>rfl) Opens.zero
 | n+2=>Opens.slice (e:=68) (z:=11) (by':=104) (by kernel_rfl) (by kernel_rfl) (by decide) (by kernel_rfl) (by decide) (fun _=>rfl) (open_regS n)
theorem open_slotsS:∀n,Opens en P W sp hd n 23 (fun s:SlV SlotP=>[.slice s.a s.n s.c]) (fun s=>SlG (Imm.all W) [] 2 SlotP.enc s.a s.n s.l∧∀x∈s.l,x.Wf) (fun s=>s.l.length≤reachBytes∧∀x∈s.l,x.Short)
 | 0=>Opens.zero
 | 1=>Opens.slice (e:=71) (z:=2) (by':=24) (by kernel_rfl) (by kernel_rfl) (by decide) (by kernel_rfl) (by decide) (fun _=>rfl) Opens.zero
 | n+2=>Opens.slice (e:=71) (z:=2) (by':=24) (by kernel_rfl) (by kernel_rfl) (by decide) (by kernel_rfl) (by decide) (fun _=>rfl) (open_slotS n)
theorem open_statesS:∀n,Opens en P W sp hd n 24 (fun s:SlV StateN=>[.slice s.a s.n s.c]) (fun s=>SlG (Imm.all W) [] 3 StateN.enc s.a s.n s.l∧∀x∈s.l,x.Ok (Imm.all W) []∧x.p.Wf) (fun s=>s.l.length≤reachBytes∧∀x∈s.l,x.p.Short)
 | 0=>Opens.zero
 | 1=>Opens.slice (e:=74) (z:=3) (by':=48) (by kernel_rfl) (by kernel_rfl) (by decide) (by kernel_rfl) (by decide) (fun _=>rfl) Opens.zero
 | n+2=>Opens.slice (e:=74) (z:=3) (by':=48) (by kernel_rfl) (by kernel_rfl) (by decide) (by kernel_rfl) (by decide) (fun _=>rfl) (open_stateS n)
theorem open_stgS(n:Nat):Opens en P W sp hd (n+1) 26 StgN.enc (fun r=>r.Ok (Imm.all W) []∧r.p.Wf) (fun r=>r.p.Short):=by
 refine (Opens.struct (z:=4) (fs:=stgF) (by kernel_rfl) (OpensF.cons (k:=1) (Opens.str (by kernel_rfl)) (by kernel_rfl)<|OpensF.cons (k:=1) (open_regsS n) (by kernel_rfl)<|OpensF.cons (k:=1) (open_slotsS n) (by kernel_rfl)<|OpensF.cons (k:=1) (open_statesS n) (by kernel_rfl) OpensF.nil)).map
  (fun x=>StgN.mk x.1 x.2.1.a x.2.1.c x.2.1.l x.2.2.1.a x.2.2.1.c x.2.2.1.l x.2.2.2.1.a x.2.2.2.1.c x.2.2.2.1.l) ?_ ?_ ?_
 ·intro ⟨a,⟨ra,rn,rc,rl⟩,⟨sa,sn,sc,sl⟩,⟨ta,tn,tc,tl⟩,u⟩ ⟨_,⟨h2,_⟩,⟨h3,_⟩,⟨h4,_⟩,_⟩
  have e2:rn=rl.length:=h2.1
  have e3:sn=sl.length:=h3.1
  have e4:tn=tl.length:=h4.1
  subst e2 e3 e4;rfl
 ·intro ⟨a,⟨ra,rn,rc,rl⟩,⟨sa,sn,sc,sl⟩,⟨ta,tn,tc,tl⟩,u⟩ ⟨h1,⟨h2,h2'⟩,⟨h3,h3'⟩,⟨h4,h4'⟩,_⟩
  have e2:rn=rl.length:=h2.1
  have e3:sn=sl.length:=h3.1
  have e4:tn=tl.length:=h4.1
  subst e2 e3 e4
  refine⟨⟨h2,fun d hd=>(h2' d hd).1,h3,h4,fun d hd=>(h4' d hd).1⟩,fun d hd=>?_,h3',fun d hd=>?_⟩
  ·obtain⟨d',hd',rfl⟩:=List.mem_map.1 hd
   exact (h2' d' hd').2
  ·obtain⟨d',hd',rfl⟩:=List.mem_map.1 hd
   exact (h4' d' hd').2
 ·intro ⟨a,⟨ra,rn,rc,rl⟩,⟨sa,sn,sc,sl⟩,⟨ta,tn,tc,tl⟩,u⟩ _ ⟨g1,⟨g2,g2'⟩,⟨g3,g3'⟩,⟨g4,g4'⟩,_⟩
  refine⟨g1,by simp only[StgN.p,List.length_map];exact g2,fun d hd=>?_,g3,g3',by simp only[StgN.p,List.length_map];exact g4,fun d hd=>?_⟩
  ·obtain⟨d',hd',rfl⟩:=List.mem_map.1 hd
   exact g2' d' hd'
  ·obtain⟨d',hd',rfl⟩:=List.mem_map.1 hd
   exact g4' d' hd'
end
theorem open_stg{H:Type}{en:TypeId×Value→H}{W:World}{base:Nat}{sp:Nat→Bool}{hd:Bool}{v:Value}{d:DataW H}{ps:List MemPlace}{r:Reach}(hval:Value.okWide P W r base 26 v)(h:DataW.Trod en P W 0 sp hd 26 v d ps) :
  ∃s:StgN,v=s.v∧s.Ok (Imm.all W) []∧s.p.Wf∧((∀m∈d.weights P 26,m≤reachBytes)→s.p.Short):=by
 have hv:=agg_of (fs:=stgF) (z:=4) (by kernel_rfl) hval
 obtain⟨fuel,hf⟩:=h
 cases fuel with
 | zero=>cases hf
 | succ n =>
   obtain⟨t,e,⟨h1,h2⟩,h3⟩:=open_stgS n _ d ps hf
   exact⟨t,by rw[hv,e],h1,h2,h3⟩
end Go.Lx
namespace Go.Lx
open Go.Vc Go.ChangeShapes Go.WideShapes Go.ChangeAt Go.RowKit
def _root_.Go.Vc.SlV.v{β:Type}(s:SlV β):Value:=.slice s.a s.n s.c
end Go.Lx
