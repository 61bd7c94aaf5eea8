import Derived.Test.YtcbilbkafjnenaaGreatDoorB6
set_option linter.unusedVariables false
set_option linter.unusedSimpArgs false
set_option maxRecDepth 100000
namespace Go.Lx
open Go.Vc Go.Proofs.Tryz
def shT_lTypesChains:List (Nat×List Sh):=[(3,[.one (.int .i64)]),(4,[.one .bool]),(9,[.one .str]),(38,[.one .any]),(44,[.agg [(.int .i64),(.int .i64),.bool]]),(59,[.one .ptr])]
def law15_TypesChains.V(ka:Nat→Int→Int→Bool→Nat×Obj)(a u:Nat→Nat×Obj)(vb vi:Int→Value)(vs:Bs→Value)(vl:OA→Nat→Nat→Value)(vt:Bool→Value)(vp:OA→Value)(v:Bs)(i:OA)(j k:Nat)(l:OA)(n o:Nat)(p:OA)(s t:Nat)(I:Imm)(F:Heap)(Q:PostQ)  : Prop:=∀b:Nat,Tc1 P 10 #[] I ((a b)::·) F vt fun r I1 F1=>Tc1 P 11 #[.agg #[vs v,vl i j k,vl l n o,vl p s t],.agg #[vb 0,vb 0,vb 0,vi 0,vb 0,vs nB,vl none 0 0,vi 0]] I1 ((a b)::·) F1 vt fun r1 I2 F2=>(It (!r) (Q (.returned (vt r)) I2 F2) (It r1 (Q (.returned (vt r)) I2 F2) (Tcn P 13 #[.agg #[vs v,vl i j k,vl l n o,vl p s t]] I2 ((a b)::·) F2 fun e3 I3 G3=>∃(r2:Value),e3=.returned r2∧G3 fun F3=>Tcn P 15 #[.agg #[vs v,vl i j k,vl l n o,vl p s t]] I3 ((a b)::·) F3 fun e4 I4 G4=>∃(c d:Int) (e:Bool),e4=.returned (.agg #[vi c,vi d,vt e])∧G4 fun F4=>∀f:Nat,(It (c==0) (∃q:Bool,BinRun P .eql 38 (.tmp 28) (.const (Value.nilIface)) r2 Value.nilIface q∧Q (.returned (vt q)) I4 F4) (∀h:Nat,Tri P 22 (#[r2,Value.iface 61 (vp (some (⟨h,0,none⟩:Addr)))]) I4 ((a b)::(ka f c d e)::((h,Obj.cells #[vp none] 59 (0,0))::F4)) fun e5 I5 G5=>∃(r3:Bool),e5=.returned (vt r3)∧∃F5:Heap,List.Perm G5 ((a b)::(ka f c d e)::F5)∧(It (!r3) (Q (.returned (vt false)) I5 F5) (∃(m:OA),Rd I5 ((a b)::(ka f c d e)::F5) (⟨h,0,none⟩:Addr) [vp m]∧∃ad:Addr,m=some ad∧∃(m1:Bs),Rd I5 ((a b)::(ka f c d e)::F5) (ad.add 0) [vs m1]∧(It (!(m1.toList==(⟨#[67,104,101,99,107]⟩:Bs).toList)) (Q (.returned (vt false)) I5 F5) (∃(m2:OA),Rd I5 ((a b)::(ka f c d e)::F5) (⟨h,0,none⟩:Addr) [vp m2]∧∃aa:Addr,m2=some aa∧∃(m3:Int),Rd I5 ((a b)::(ka f c d e)::F5) (aa.add 1) [vi m3]∧(It (m3 != d) (Q (.returned (vt false)) I5 F5) (It (!e) (∃(m4:OA),Rd I5 ((a b)::(ka f c d e)::F5) (⟨h,0,none⟩:Addr) [vp m4]∧∃ab:Addr,m4=some ab∧∃(m5:Value),Rd I5 ((a b)::(ka f c d e)::F5) (ab.add 2) [m5]∧∃q1:Bool,BinRun P .eql 38 (.tmp 57) (.tmp 60) m5 (Value.iface 40 (vi c)) q1∧Q (.returned (vt q1)) I5 F5) (∀g:Nat,∃(m6:OA),Rd I5 ((a b)::(ka f c d e)::((u g)::F5)) (⟨h,0,none⟩:Addr) [vp m6]∧∃ac:Addr,m6=some ac∧∃(m7:Value),Rd I5 ((a b)::(ka f c d e)::((u g)::F5)) (ac.add 2) [m7]∧Tri P 22 (#[m7,Value.iface 61 (vp (some (⟨g,0,none⟩:Addr)))]) I5 ((a b)::(ka f c d e)::((u g)::F5)) fun e6 I6 G6=>∃(r4:Bool),e6=.returned (vt r4)∧∃F6:Heap,List.Perm G6 ((a b)::(ka f c d e)::F6)∧(It r4 (∃(m8:OA),Rd I6 ((a b)::(ka f c d e)::F6) (⟨g,0,none⟩:Addr) [vp m8]∧∃ae:Addr,m8=some ae∧∃(m9:Bs),Rd I6 ((a b)::(ka f c d e)::F6) (ae.add 0) [vs m9]∧(It (m9.toList==(⟨#[79,102]⟩:Bs).toList) (∃(x:OA),Rd I6 ((a b)::(ka f c d e)::F6) (⟨g,0,none⟩:Addr) [vp x]∧∃af:Addr,x=some af∧∃(w:Int),Rd I6 ((a b)::(ka f c d e)::F6) (af.add 1) [vi w]∧(It (w==d) (∃(y:OA),Rd I6 ((a b)::(ka f c d e)::F6) (⟨g,0,none⟩:Addr) [vp y]∧∃ag:Addr,y=some ag∧∃(z:Value),Rd I6 ((a b)::(ka f c d e)::F6) (ag.add 2) [z]∧∃q2:Bool,BinRun P .eql 38 (.tmp 89) (.tmp 92) z (Value.iface 40 (vi c)) q2∧Q (.returned (vt q2)) I6 F6) (Q (.returned (vt false)) I6 F6))) (Q (.returned (vt false)) I6 F6))) (Q (.returned (vt false)) I6 F6))))))))))))))
theorem law15_TypesChains.vc{n:Bs}{d:OA}{e f:Nat}{g:OA}{i j:Nat}{k:OA}{l m:Nat}{I:Imm}{F:Heap}{Q:PostQ}  (h:law15_TypesChains.V (fun W a b c=>(W,Obj.cells #[.int .i64 a,.int .i64 b,.bool c] 44 (0,0))) (fun b=>(b,Obj.cells #[.string n,.slice d e f,.slice g i j,.slice k l m] 26 (0,0))) (fun b=>(b,Obj.cells #[.pointer none] 59 (0,0))) (.int .u8) (.int .i64) .string .slice .bool .pointer n d e f g i j k l m I F Q):Tri P 6 #[.agg #[.string n,.slice d e f,.slice g i j,.slice k l m]] I F Q :=
 tw (A:=(annL [3001,3003,7002,11001,11007,11016,13002,17000,17006,17015] [] [10,11,13,15,22] shT_lTypesChains [] [] [9000,15000] [] [] [(11,[0,1,2,3,4,5,6,7,8,9,14,10,11,12,13,15,16,17]),(14,[4,0,1,2,3,5,6,7,8]),(17,[0,1,2,3,4,5,6,7,8,13,9,10,11,12,14,15,16,17,22,18,19,20,21,23,24,25,26,27])] [])) [10,11,13,15,22] func6 h
end Go.Lx
namespace Go.Lx
open Go.Vc
theorem TypesChains_spec(s:StgN)(hss:s.p.Short)(I:Imm)(hg:Gl I)(F:Heap)(hs:s.Ok I F):Tri P 6 #[s.v] I F fun e I' G=>e=.returned (.bool true):=by
 refine law15_TypesChains.vc ?_
 unfold law15_TypesChains.V
 intro b_s
 have oks:∀{J:Imm} {G:Heap},Imm.le I J→(∀a,a∈F→a∈G)→s.Ok J G:=fun hl h=>hs.mono hl h
 refine Tri.ret (awake15_spec hg _) fun I1 l1=>⟨_,rfl,F,.refl _, ?_⟩
 refine (far15_spec s zNd hss zNd_short I1 _ (oks l1 fun a ha=>by simp only[List.mem_cons,List.mem_append];simp only[ha,true_or,or_true]) (zNd_ok.mono (Imm.le_refl _) sub0)).mono fun e I2 G h2 ⟨r1,he,hG,f1⟩=>?_
 subst hG
 refine⟨_,he,F,.refl _, ?_⟩
 have l2:=Imm.le_trans l1 h2
 refine⟨fun h=>(by cases h),fun _=>⟨fun _=>rfl,fun e1=>?_⟩⟩
 have ls:=(f1 e1).1
 refine Tri.retV (pCheck_spec s ls (oks l2 fun a ha=>by simp only[List.mem_cons,List.mem_append];simp only[ha,true_or,or_true]) (hg.mono l2)) fun v3 I3 h3 hv3=>⟨v3,rfl,F,.refl _, ?_⟩
 have l3:=Imm.le_trans l2 h3
 refine Tri.ret (Check15_spec s ls (oks l3 fun a ha=>by simp only[List.mem_cons,List.mem_append];simp only[ha,true_or,or_true])) fun I4 h4=>⟨_,_,_,rfl,F,.refl _,fun b_f=>?_⟩
 have l4:=Imm.le_trans l3 h4
 have hv:ChkE I4 s.p.types v3:=ChkE.mono hv3 h4
 refine⟨fun h0=>⟨_,hv.eql (by kernel_rfl), ?_⟩,fun hne b_x=>?_⟩
 ·rw[h0]
 have he0:s.p.types.e≠0:=by simpa using hne
 obtain⟨X,hX,hXX⟩:∃X,Flr I4 callCheck s.p.types.pos X v3∧(if s.p.types.of then Flr I4 callOf s.p.types.pos (errno s.p.types.e) X else X=errno s.p.types.e):=by
  have h2:=hv.2 he0
  split at h2
  ·rename_i ho;obtain⟨u,h3,h4⟩:=h2;exact⟨u,h4,by rw[if_pos ho];exact h3⟩
  ·rename_i ho;exact⟨_,h2,by rw[if_neg ho]⟩
 obtain⟨b,rfl,hb⟩:=hX
 refine Tri.perm ((As_hitF (hg.mono l4) b).mono fun e I5 G h5 ⟨he,hG⟩=>?_) (List.perm_middle (l₁:=[_,_]))
 subst hG
 have l5:=Imm.le_trans l4 h5
 refine⟨true,he,(b_x,.cells #[.pointer (some ⟨b,0,none⟩)] 59 (0,0))::F,(List.perm_middle (l₁:=[_,_])).symm,fun h=>(by cases h),fun _=>?_⟩
 have hrd:=fun G=>Flr.rd hb h5 G
 have hm:∀{x y z:Nat×Obj},z∈x::y::z::F:=.tail _ (.tail _ (.head _))
 refine⟨some ⟨b,0,none⟩,rd_own hm,⟨b,0,none⟩,rfl,callCheck,(hrd _).1,fun h=>?_,fun _=>⟨some ⟨b,0,none⟩,rd_own hm,⟨b,0,none⟩,rfl,s.p.types.pos,(hrd _).2.1,fun h=>?_,fun _=>⟨fun hof=>⟨some ⟨b,0,none⟩,rd_own hm,⟨b,0,none⟩,rfl,X,(hrd _).2.2,true, ?_,rfl⟩,fun hof b_y=>⟨some ⟨b,0,none⟩,rd_own (.tail _ (.tail _ (.tail _ (.head _)))),⟨b,0,none⟩,rfl,X,(hrd _).2.2, ?_⟩⟩⟩⟩
 ·simp[callCheck] at h
 ·simp at h
 ·have hof:s.p.types.of=false:=by simpa using hof
  rw[if_neg (by rw[hof];exact Bool.false_ne_true)] at hXX
  rw[hXX]
  have:=errno_eql (t:=38) (by kernel_rfl) (by kernel_rfl) (by kernel_rfl) (x:=.tmp 57) (y:=.tmp 60) s.p.types.e s.p.types.e
  rwa [beq_self_eq_true] at this
 ·have hof:s.p.types.of=true:=by simpa using hof
  rw[if_pos hof] at hXX
  obtain⟨c,rfl,hc⟩:=hXX
  refine Tri.perm ((As_hitF (hg.mono l5) c).mono fun e I6 G h6 ⟨he,hG⟩=>?_) (List.perm_middle (l₁:=[_,_]))
  subst hG
  have hrd:=fun G=>Flr.rd hc (Imm.le_trans h5 h6) G
  refine⟨true,he,(b_y,.cells #[.pointer (some ⟨c,0,none⟩)] 59 (0,0))::(b_x,.cells #[.pointer (some ⟨b,0,none⟩)] 59 (0,0))::F,(List.perm_middle (l₁:=[_,_])).symm,fun _=>?_,fun h=>(by cases h)⟩
  have hm:∀{x y z u:Nat×Obj},z∈x::y::z::u::F:=.tail _ (.tail _ (.head _))
  refine⟨some ⟨c,0,none⟩,rd_own hm,⟨c,0,none⟩,rfl,callOf,(hrd _).1,fun _=>⟨some ⟨c,0,none⟩,rd_own hm,⟨c,0,none⟩,rfl,s.p.types.pos,(hrd _).2.1,fun _=>⟨some ⟨c,0,none⟩,rd_own hm,⟨c,0,none⟩,rfl,errno s.p.types.e,(hrd _).2.2,true, ?_,rfl⟩,fun h=>?_⟩,fun h=>?_⟩
  ·have:=errno_eql (t:=38) (by kernel_rfl) (by kernel_rfl) (by kernel_rfl) (x:=.tmp 89) (y:=.tmp 92) s.p.types.e s.p.types.e
   rwa [beq_self_eq_true] at this
  ·simp at h
  ·simp[callOf] at h
end Go.Lx
namespace Go.Vc
open Go.ChangeShapes Go.WideShapes Go.ChangeAt Go.RowKit
theorem Stays.cell{w w':World}(h:Stays w w'){a:Addr}(ha:a.block<w.heap.size):w'.cell? a=w.cell? a:=by
 unfold World.cell?;rw[h.heap _ ha]
theorem Stays.same{w w':World}(h:Stays w w'){p:MemPlace}(hp:p.block<w.heap.size):w.sameAt w' p:=by
 cases p with
 | cell b off=>exact h.cell (a:=⟨b,off,none⟩) hp
 | map b=>exact h.heap b hp
theorem trodAll_stays{H:Type}{enc:TypeId×Value→H}{P:Program}{T:TypeId→Prop}{w w':World}(K:Kids P T)(hsz:∀{t e:TypeId},T t→P.underlying t=some (.slice e)→0<P.cellsOf e)(st:Stays w w'){sp':Nat→Bool} :
  ∀{ts:List TypeId} {vs:List Value} {ds:List (DataW H)} {ps:List MemPlace},(∀t∈ts,T t)→DataW.TrodAll enc P w 0 (fun _=>true) true ts vs ds ps→(∀p∈ps,sp' p.block=true)→DataW.TrodAll enc P w' 0 sp' true ts vs ds ps
 | [],[],[],ps,_,h,_=>h
 | t::ts,v::vs,d::ds,ps,ht,⟨p,q,⟨n,h1⟩,h2,e⟩,hs=>by
   subst e
   have hlt:∀x∈p,x.block<w.heap.size:=DataW.trod_lt n t v.cells.toList (d,p) h1
   refine⟨p,q,⟨n, ?_⟩,trodAll_stays K hsz st (fun t' ht'=>ht t' (List.mem_cons_of_mem _ ht')) h2 (fun x hx=>hs x (List.mem_append_right _ hx)),rfl⟩
   exact DataW.trod_stays K hsz (fun h=>by cases h) (ht t (List.mem_cons_self ..)) h1 (fun x hx=>st.same (hlt x hx)) (fun x hx=>hs x (List.mem_append_left _ hx))
 | [],_::_,_,_,_,h,_=>h.elim
 | [],[],_::_,_,_,h,_=>h.elim
 | _::_,[],_,_,_,h,_=>h.elim
 | _::_,_::_,[],_,_,h,_=>h.elim
theorem Rd.of_cell{W:World}{ad:Addr}{v:Value}(h:W.cell? ad=some v)(G:Heap):Rd (Imm.all W) G ad [v]:=by
 unfold World.cell? at h
 cases hb:W.heap[ad.block]? with
 | none=>rw[hb] at h;cases h
 | some o =>
   rw[hb] at h
   cases o with
   | cells c e fz =>
     simp only at h
     cases hs:ad.spot with
     | some x=>rw[hs] at h;simp at h
     | none =>
       rw[hs] at h
       refine⟨hs,c,e,fz,.inl hb,fun j hj=>?_⟩
       have:j=0:=by simpa using hj
       subst this
       simpa using h
   | _=>cases h
end Go.Vc
namespace Go.Vc
open Go.ChangeShapes Go.WideShapes Go.ChangeAt Go.RowKit
theorem list_choice{α:Type}{p:Nat→α→Prop}:∀(n:Nat),(∀i,i<n→∃x,p i x)→∃l:List α,l.length=n∧∀(i:Nat) (x:α),l[i]? = some x→p i x
 | 0,_=>⟨[],rfl,fun i x h=>by simp at h⟩
 | n+1,h=>by
   obtain⟨l,hl,hp⟩:=list_choice n fun i hi=>h i (by omega)
   obtain⟨x,hx⟩:=h n (by omega)
   refine⟨l++[x],by simp[hl],fun i y hy=>?_⟩
   rw[List.getElem?_append] at hy
   split at hy
   ·exact hp i y hy
   ·rename_i hi
    have:i-l.length=0:=by
     rcases Nat.eq_zero_or_pos (i-l.length) with h | h
     ·exact h
     ·rw[List.getElem?_eq_none (by simp;omega)] at hy;cases hy
    rw[this] at hy
    simp only[List.getElem?_cons_zero,Option.some.injEq] at hy
    subst hy
    have:i=n:=by omega
    rw[this];exact hx
theorem Rd.of_row{W:World}{ad:Addr}{n:Nat}{cs:List Value}{base:Nat}(h:W.cells? base ad n=some cs)(hn:0<n)(G:Heap):ad.spot=none→Rd (Imm.all W) G ad cs:=by
 intro hsp
 obtain⟨_,hl,hc⟩:=World.cells?_some h
 have h0:W.cell? ad=cs[0]?:=by have:=hc 0 hn;rwa [show ad.add 0=ad from rfl] at this
 have hlen:cs.length=n:=hl
 unfold World.cell? at h0
 cases hb:W.heap[ad.block]? with
 | none=>rw[hb] at h0;simp only at h0;rw[List.getElem?_eq_getElem (by omega)] at h0;cases h0
 | some o =>
   cases o with
   | cells c e fz =>
     refine⟨hsp,c,e,fz,.inl hb,fun j hj=>?_⟩
     have h1:=hc j (by omega)
     have hadd:ad.add j=⟨ad.block,ad.off+j,none⟩:=by
      obtain⟨b,off,sp⟩:=ad
      simp only at hsp;subst hsp
      unfold Addr.add;split<;>simp_all
     rw[hadd] at h1
     unfold World.cell? at h1
     simp only[hb] at h1
     simpa using h1
   | _=>rw[hb] at h0;simp only at h0;rw[List.getElem?_eq_getElem (by omega)] at h0;cases h0
end Go.Vc
namespace Go.Vc
open Go.ChangeShapes Go.WideShapes Go.ChangeAt Go.RowKit
def Opens{H α:Type}(en:TypeId×Value→H)(P:Program)(W:World)(sp:Nat→Bool)(hd:Bool)(n:Nat)(t:TypeId)(f:α→List Value)(R S:α→Prop):Prop :=
 ∀cs d ps,DataW.trod en P W 0 sp hd n t cs=some (d,ps)→∃x,cs=f x∧R x∧((∀m∈d.weights P t,m≤reachBytes)→S x)
def OpensF{H α:Type}(en:TypeId×Value→H)(P:Program)(W:World)(sp:Nat→Bool)(hd:Bool)(n:Nat)(z:Nat)(fs:List (TypeId×Nat))(o:Nat)(f:α→List Value)(R S:α→Prop):Prop :=
 ∀(cs:List Value) (xs:List (DataW H×List MemPlace)),(fs.mapM fun p=>DataW.trod en P W 0 sp hd n p.1 ((cs.drop p.2).take (P.cellsOf p.1)))=some xs→cs.length=z→∃x,cs.drop o=f x∧R x∧((∀m∈DataW.weightsEach P (fs.map Prod.fst) (xs.map Prod.fst),m≤reachBytes)→S x)
def structB(P:Program)(t:TypeId)(l:List (TypeId×Nat))(z:Nat):Bool:=match P.underlying t with
 | some (.struct fs)=>(fs.toList.map fun f=>(f.type,f.offset))==l&&P.cellsOf t==z
 | _=>false
theorem mapM_via{α β γ:Type}(h:α→β)(g:β→Option γ):∀l:List α,(l.map h).mapM g=l.mapM fun x=>g (h x)
 | []=>rfl
 | x::l=>by simp[List.mapM_cons,mapM_via h g l]
section
variable {H:Type} {en:TypeId×Value→H} {P:Program} {W:World} {sp:Nat→Bool} {hd:Bool} {n:Nat}
theorem OpensF.nil{z:Nat}:OpensF en P W sp hd n z [] z (fun _:Unit=>[]) (fun _=>True) (fun _=>True):=by
 intro cs xs h hl
 exact⟨(),List.drop_eq_nil_of_le (by omega),trivial,fun _=>trivial⟩
theorem OpensF.cons{α β:Type}{z o k:Nat}{t:TypeId}{fs:List (TypeId×Nat)}{f:α→List Value}{g:β→List Value}{R S:α→Prop}{R' S':β→Prop}(h:Opens en P W sp hd n t f R S)(hc:P.cellsOf t=k)
  (hs:OpensF en P W sp hd n z fs (o+k) g R' S'):OpensF en P W sp hd n z ((t,o)::fs) o (fun x:α×β=>f x.1++g x.2) (fun x=>R x.1∧R' x.2) (fun x=>S x.1∧S' x.2):=by
 intro cs xs hm hl
 rw[List.mapM_cons] at hm
 cases h0:DataW.trod en P W 0 sp hd n t ((cs.drop o).take (P.cellsOf t)) with
 | none=>simp[h0] at hm
 | some x0 =>
   cases h1:(fs.mapM fun p=>DataW.trod en P W 0 sp hd n p.1 ((cs.drop p.2).take (P.cellsOf p.1))) with
   | none=>simp[h0,h1] at hm
   | some ys =>
     simp[h0,h1] at hm
     subst hm
     obtain⟨d0,p0⟩:=x0
     obtain⟨x,e1,r1,s1⟩:=h _ _ _ h0
     obtain⟨y,e2,r2,s2⟩:=hs _ _ h1 hl
     refine⟨(x,y), ?_,⟨r1,r2⟩,fun hw=>⟨s1 fun m hm=>hw m ?_,s2 fun m hm=>hw m ?_⟩⟩
     ·show cs.drop o=f x++g y
      rw[←e1,←e2,hc,←List.drop_drop,List.take_append_drop]
     ·simp only[List.map_cons,DataW.weightsEach,List.mem_append];exact .inl hm
     ·simp only[List.map_cons,DataW.weightsEach,List.mem_append];exact .inr hm
theorem Opens.struct{α:Type}{z:Nat}{t:TypeId}{fs:List (TypeId×Nat)}{f:α→List Value}{R S:α→Prop}(ht:structB P t fs z=true)(h:OpensF en P W sp hd n z fs 0 f R S):Opens en P W sp hd (n+1) t f R S:=by
 intro cs d ps hr
 unfold structB at ht
 split at ht
 ·rename_i gs hg
  simp only[Bool.and_eq_true,beq_iff_eq] at ht
  obtain⟨ht,hz⟩:=ht
  simp only[DataW.trod,hg] at hr
  split at hr
  ·rename_i hl
   rw[hz] at hl
   cases hm:gs.toList.mapM fun f=>DataW.trod en P W 0 sp hd n f.type ((cs.drop f.offset).take (P.cellsOf f.type)) with
   | none=>rw[hm] at hr;cases hr
   | some xs =>
     rw[hm] at hr
     simp only[Option.map_some,Option.some.injEq,Prod.mk.injEq] at hr
     have hm':(fs.mapM fun p=>DataW.trod en P W 0 sp hd n p.1 ((cs.drop p.2).take (P.cellsOf p.1)))=some xs:=by rw[←ht,mapM_via];exact hm
     obtain⟨x,e,r,s⟩:=h cs xs hm' hl
     refine⟨x,by simpa using e,r,fun hw=>s fun m hmm=>hw m ?_⟩
     rw[←hr.1]
     simp only[DataW.weights,hg]
     have:gs.toList.map (fun f=>f.type)=fs.map Prod.fst:=by rw[←ht,List.map_map];rfl
     rw[this];exact hmm
  ·cases hr
 ·cases ht
theorem Opens.map{α β:Type}{t:TypeId}{f:α→List Value}{g:β→List Value}{R S:α→Prop}{R' S':β→Prop}(h:Opens en P W sp hd n t f R S)(φ:α→β)(hf:∀x,R x→f x=g (φ x))(hr:∀x,R x→R' (φ x))(hs:∀x,R x→S x→S' (φ x)):Opens en P W sp hd n t g R' S':=by
 intro cs d ps hd
 obtain⟨x,e,r,s⟩:=h cs d ps hd
 exact⟨φ x,e.trans (hf x r),hr x r,fun hw=>hs x r (s hw)⟩
theorem Opens.int{k:IntKind}{t:TypeId}(ht:P.underlying t=some (.int k)):Opens en P W sp hd n t (fun x:Int=>[.int k x]) (fun x=>(Lit.int k x).wf=true) (fun _=>True):=by
 intro cs d ps h
 obtain⟨x,e,_,hw⟩:=DataW.trod_int ht h
 exact⟨x,e,hw,fun _=>trivial⟩
theorem Opens.str{t:TypeId}(ht:P.underlying t=some .string):Opens en P W sp hd n t (fun x:ByteArray=>[.string x]) (fun x=>x.size≤maxLen) (fun x=>x.size≤reachBytes):=by
 intro cs d ps h
 obtain⟨s,e,hx,hl⟩:=DataW.trod_string ht h
 refine⟨s,e,hl,fun hw=>?_⟩
 simp only[Prod.mk.injEq] at hx
 have:=hw s.data.toList.length (by rw[hx.1];simp[DataW.weights])
 simpa using this
structure SlV (β:Type) where
 a:Option Addr
 n:Nat
 c:Nat
 l:List β
theorem Opens.slice{β:Type}{z by':Nat}{t e:TypeId}{f:β→List Value}{R S:β→Prop}(ht:P.underlying t=some (.slice e))(hc:P.cellsOf e=z)(hz:0<z)(hb:P.bytesOf e=by')(hb1:1≤by')(hf:∀x,(f x).length=z)(h:Opens en P W sp hd n e f R S) :
  Opens en P W sp hd (n+1) t (fun s:SlV β=>[.slice s.a s.n s.c]) (fun s=>SlG (Imm.all W) [] z f s.a s.n s.l∧∀x∈s.l,R x) (fun s=>s.l.length≤reachBytes∧∀x∈s.l,S x):=by
 intro cs d ps hr
 rcases DataW.trod_slice ht hr with ⟨h1,h2⟩ | ⟨ad,len,cap,elems,rest,n',hn,hcs,hx,_,_,_,hlen,hel,_,_⟩
 ·exact⟨⟨none,0,0,[]⟩,h1,⟨⟨rfl,fun h=>absurd rfl h⟩,fun x hx=>by cases hx⟩,fun _=>⟨by simp,fun x hx=>by cases hx⟩⟩
 ·cases hn
  simp only[Prod.mk.injEq] at hx
  obtain⟨hdd,hps⟩:=hx
  clear hps
  subst hcs
  have hone:∀i,i<len→∃x,Rd (Imm.all W) [] (ad.add (i*z)) (f x)∧R x∧((∀y∈elems,∀m∈y.1.weights P e,m≤reachBytes)→S x):=by
   intro i hi
   have hfy:=hel i hi
   obtain⟨y,hy⟩:∃y,elems[i]? = some y:=⟨_,List.getElem?_eq_getElem (by omega)⟩
   rw[hc,hy] at hfy
   cases hcs:W.cells? 0 (ad.add (i*z)) z with
   | none=>rw[hcs] at hfy;cases hfy
   | some cs =>
     rw[hcs] at hfy
     simp only[Option.bind_some] at hfy
     obtain⟨x,e1,r1,s1⟩:=h cs y.1 y.2 hfy
     subst e1
     have hspk:(ad.add (i*z)).spot=none:=by
      obtain⟨_,hl,hc'⟩:=World.cells?_some hcs
      have h0:=hc' 0 hz
      rw[show (ad.add (i*z)).add 0=ad.add (i*z) from rfl,List.getElem?_eq_getElem (by rw[hf];omega)] at h0
      cases hs:(ad.add (i*z)).spot with
      | none=>rfl
      | some q =>
        unfold World.cell? at h0
        split at h0<;>simp_all
     refine⟨x,Rd.of_row hcs hz [] hspk,r1,fun hw=>s1 fun m hm=>hw y (List.mem_of_getElem? hy) m hm⟩
  obtain⟨l,hll,hlx⟩:=list_choice len hone
  refine⟨⟨some ad,len,cap,l⟩,rfl,⟨⟨hll.symm,fun _=>⟨ad,rfl,fun i x hx=>(hlx i x hx).1⟩⟩,fun x hx=>?_⟩,fun hw=>⟨?_,fun x hx=>?_⟩⟩
  ·obtain⟨i,hi,rfl⟩:=List.mem_iff_getElem.1 hx
   exact (hlx i _ (List.getElem?_eq_getElem hi)).2.1
  ·have h1:=hw ((elems.length+rest.length)*by') (by rw[hdd];simp only[DataW.weights,ht,List.length_map,hb];exact List.mem_cons_self ..)
   have h2:elems.length+rest.length≤(elems.length+rest.length)*by':=Nat.le_mul_of_pos_right _ hb1
   show l.length≤reachBytes
   omega
  ·obtain⟨i,hi,rfl⟩:=List.mem_iff_getElem.1 hx
   refine (hlx i _ (List.getElem?_eq_getElem hi)).2.2 fun y hy m hm=>hw m ?_
   rw[hdd]
   simp only[DataW.weights,ht]
   refine List.mem_cons_of_mem _ (List.mem_append_left _ ?_)
   clear hx hlen hel hone hlx hdd hr hw hi hll
   induction elems with
   | nil=>cases hy
   | cons q qs ihq =>
     simp only[List.map_cons,DataW.weightsAll,List.mem_append]
     rcases List.mem_cons.1 hy with rfl | hy
     ·exact .inl hm
     ·exact .inr (ihq hy)
theorem Opens.zero{α:Type}{t:TypeId}{f:α→List Value}{R S:α→Prop}:Opens en P W sp hd 0 t f R S:=fun cs d ps h=>by cases h
end
end Go.Vc
namespace Go.Lx
open Go.Vc Go.ChangeShapes Go.WideShapes Go.ChangeAt Go.RowKit
def ndF:List (TypeId×Nat):=[(29,0),(30,1),(31,2),(2,3),(32,4),(9,5),(33,6),(3,7)]
theorem wf8{x:Int}(h:(Lit.int .u8 x).wf=true):0≤x∧x≤255:=by
 simp[Lit.wf,IntKind.min,IntKind.max,IntKind.signed,IntKind.bits] at h;omega
theorem wf64{x:Int}(h:(Lit.int .i64 x).wf=true) : -9223372036854775808≤x∧x≤9223372036854775807:=by
 simp[Lit.wf,IntKind.min,IntKind.max,IntKind.signed,IntKind.bits] at h;omega
theorem Wf.mk{t:Nd}(h:t.px.Fit)(hk:∀k∈t.kids,k.px.Wf):t.px.Wf:=by
 intro y hy
 rw[←nodes_px] at hy
 obtain⟨x,hx,rfl⟩:=List.mem_map.1 hy
 rw[Nd.nodes_eq] at hx
 rcases List.mem_cons.1 hx with rfl | hx
 ·exact h
 ·have hL:∀l:List Nd,(∀k∈l,k.px.Wf)→x∈Nd.nodesL l→x.px.Fit:=by
   intro l
   induction l with
   | nil=>intro _ h;rw[Nd.nodesL] at h;cases h
   | cons z r ih =>
     intro hz h
     rw[Nd.nodesL] at h
     rcases List.mem_append.1 h with h | h
     ·exact Wf.nd (hz z (List.mem_cons_self ..)) x h
     ·exact ih (fun k hk=>hz k (List.mem_cons_of_mem _ hk)) h
  exact hL _ hk hx
theorem open_nd{H:Type}{en:TypeId×Value→H}{W:World}{sp:Nat→Bool}{hd:Bool}:∀n,Opens en P W sp hd n 35 Nd.enc (fun t=>NdOk (Imm.all W) [] t∧t.px.Wf) (fun t=>t.px.ShortP):=by
 intro n
 induction n using Nat.strongRecOn with
 | ind n ih =>
   cases n with
   | zero=>exact Opens.zero
   | succ n =>
     have hsl:Opens en P W sp hd n 33 (fun s:SlV Nd=>[.slice s.a s.n s.c]) (fun s=>SlG (Imm.all W) [] 8 Nd.enc s.a s.n s.l∧∀x∈s.l,NdOk (Imm.all W) [] x∧x.px.Wf) (fun s=>s.l.length≤reachBytes∧∀x∈s.l,x.px.ShortP):=by
      cases n with
      | zero=>exact Opens.zero
      | succ n=>exact Opens.slice (z:=8) (by':=72) (by kernel_rfl) (by kernel_rfl) (by decide) (by kernel_rfl) (by decide) Nd.enc_len (ih n (by omega))
     refine (Opens.struct (z:=8) (fs:=ndF) (by kernel_rfl) ((OpensF.cons (k:=1) (Opens.int (k:=.u8) (by kernel_rfl)) (by kernel_rfl)<|OpensF.cons (k:=1) (Opens.int (k:=.u8) (by kernel_rfl)) (by kernel_rfl)<|OpensF.cons (k:=1) (Opens.int (k:=.u8) (by kernel_rfl)) (by kernel_rfl) <|
      OpensF.cons (k:=1) (Opens.int (k:=.i64) (by kernel_rfl)) (by kernel_rfl)<|OpensF.cons (k:=1) (Opens.int (k:=.u8) (by kernel_rfl)) (by kernel_rfl)<|OpensF.cons (k:=1) (Opens.str (by kernel_rfl)) (by kernel_rfl)<|OpensF.cons (k:=1) hsl (by kernel_rfl) <|
      OpensF.cons (k:=1) (Opens.int (k:=.i64) (by kernel_rfl)) (by kernel_rfl) OpensF.nil))).map (fun x=>Nd.mk x.1 x.2.1 x.2.2.1 x.2.2.2.1 x.2.2.2.2.1 x.2.2.2.2.2.1 x.2.2.2.2.2.2.1.a x.2.2.2.2.2.2.1.c x.2.2.2.2.2.2.1.l x.2.2.2.2.2.2.2.1) ?_ ?_ ?_
     ·intro ⟨k,o,ty,m,f,s,⟨a,l,c,ks⟩,q,u⟩ ⟨_,_,_,_,_,_,⟨h7,_⟩,_⟩
      have hl:l=ks.length:=h7.1
      subst hl;rfl
     ·intro ⟨k,o,ty,m,f,s,⟨a,l,c,ks⟩,q,u⟩ ⟨h1,h2,h3,h4,h5,h6,⟨h7,h8⟩,h9,_⟩
      have hl:l=ks.length:=h7.1
      subst hl
      refine⟨.mk h7 fun x hx=>(h8 x hx).1,Wf.mk ?_ fun x hx=>(h8 x hx).2⟩
      unfold Px.Fit
      rw[Nd.px_kind,Nd.px_oper,Nd.px_typ,Nd.px_n,Nd.px_field,Nd.px_pos]
      exact⟨wf8 h1,wf8 h2,wf8 h3,wf64 h4,wf8 h5,wf64 h9⟩
     ·intro ⟨k,o,ty,m,f,s,⟨a,l,c,ks⟩,q,u⟩ _ ⟨_,_,_,_,_,g6,⟨g7,g8⟩,_⟩
      refine .mk (by rw[Nd.px_name];exact g6) (by rw[Nd.px_len];exact g7) fun x hx=>?_
      rw[Nd.px_kids] at hx
      obtain⟨y,hy,rfl⟩:=List.mem_map.1 hx
      exact g8 y hy
theorem agg_of{P:Program}{W:World}{r:Reach}{b0:Nat}{t:TypeId}{v:Value}{fs:List (TypeId×Nat)}{z:Nat}(hst:structB P t fs z=true)(hval:Value.okWide P W r b0 t v):v=.agg v.cells.toList.toArray:=by
 unfold structB at hst
 split at hst
 ·rename_i gs hg
  have h5:=okWide_struct hg hval
  obtain⟨cs,hv,hcs⟩:=h5
  clear hcs
  subst hv
  rfl
 ·cases hst
end Go.Lx
namespace Go.Lx
open Go.Vc Go.ChangeShapes Go.WideShapes Go.ChangeAt Go.RowKit
def i64B(x:Int):Prop:=-9223372036854775808≤x∧x≤9223372036854775807
def u8B(x:Int):Prop:=0≤x∧x≤255
def DoP.Wf(d:DoP):Prop:=(u8B d.kind∧u8B d.order∧i64B d.pos)∧d.side.Wf∧d.qty.Wf∧d.price.Wf∧d.value.Wf
def RuleP.Wf(r:RuleP):Prop:=i64B r.pos∧r.when.Wf∧∀d∈r.dos,d.Wf
def StateP.Wf(x:StateP):Prop:=i64B x.pos∧∀r∈x.rules,r.Wf
def RegP.Wf(r:RegP):Prop:=(u8B r.typ∧i64B r.pos)∧r.init.Wf
def SlotP.Wf(r:SlotP):Prop:=i64B r.pos
def StgP.Wf(s:StgP):Prop:=(∀r∈s.regs,r.Wf)∧(∀r∈s.slots,r.Wf)∧∀x∈s.states,x.Wf
section
variable {H:Type} {en:TypeId×Value→H} {W:World} {sp:Nat→Bool} {hd:Bool}
def regF:List (TypeId×Nat):=[(9,0),(31,1),(35,2),(3,10)]
theorem open_regS(n:Nat):Opens en P W sp hd (n+1) 68 RegN.enc (fun r=>r.Ok (Imm.all W) []∧r.p.Wf) (fun r=>r.p.Short):=by
 refine (Opens.struct (z:=11) (fs:=regF) (by kernel_rfl) (OpensF.cons (k:=1) (Opens.str (by kernel_rfl)) (by kernel_rfl)<|OpensF.cons (k:=1) (Opens.int (k:=.u8) (by kernel_rfl)) (by kernel_rfl) <|
  OpensF.cons (k:=8) (open_nd n) (by kernel_rfl)<|OpensF.cons (k:=1) (Opens.int (k:=.i64) (by kernel_rfl)) (by kernel_rfl) OpensF.nil)).map (fun x=>RegN.mk x.1 x.2.1 x.2.2.1 x.2.2.2.1) ?_ ?_ ?_
 ·intro ⟨a,b,c,d,u⟩ _;rfl
 ·intro ⟨a,b,c,d,u⟩ ⟨h1,h2,h3,h4,_⟩
  exact⟨h3.1,⟨wf8 h2,wf64 h4⟩,h3.2⟩
 ·intro ⟨a,b,c,d,u⟩ _ ⟨g1,g2,g3,g4,_⟩
  exact⟨g1,g3⟩
def slotF:List (TypeId×Nat):=[(9,0),(3,1)]
theorem open_slotS(n:Nat):Opens en P W sp hd (n+1) 71 SlotP.enc (fun r=>r.Wf) (fun r=>r.Short):=by
 refine (Opens.struct (z:=2) (fs:=slotF) (by kernel_rfl) (OpensF.cons (k:=1) (Opens.str (by kernel_rfl)) (by kernel_rfl)<|OpensF.cons (k:=1) (Opens.int (k:=.i64) (by kernel_rfl)) (by kernel_rfl) OpensF.nil)).map (fun x=>SlotP.mk x.1 x.2.1) ?_ ?_ ?_
 ·intro ⟨a,b,u⟩ _;rfl
 ·intro ⟨a,b,u⟩ ⟨h1,h2,_⟩;exact wf64 h2
 ·intro ⟨a,b,u⟩ _ ⟨g1,g2,_⟩;exact g1
def doF:List (TypeId×Nat):=[(92,0),(93,1),(9,2),(35,3),(35,11),(35,19),(35,27),(3,35)]
theorem open_doS(n:Nat):Opens en P W sp hd (n+1) 95 DoN.enc (fun r=>r.Ok (Imm.all W) []∧r.p.Wf) (fun r=>r.p.Short):=by
 refine (Opens.struct (z:=36) (fs:=doF) (by kernel_rfl) (OpensF.cons (k:=1) (Opens.int (k:=.u8) (by kernel_rfl)) (by kernel_rfl)<|OpensF.cons (k:=1) (Opens.int (k:=.u8) (by kernel_rfl)) (by kernel_rfl)<|OpensF.cons (k:=1) (Opens.str (by kernel_rfl)) (by kernel_rfl) <|
  OpensF.cons (k:=8) (open_nd n) (by kernel_rfl)<|OpensF.cons (k:=8) (open_nd n) (by kernel_rfl)<|OpensF.cons (k:=8) (open_nd n) (by kernel_rfl)<|OpensF.cons (k:=8) (open_nd n) (by kernel_rfl)<|OpensF.cons (k:=1) (Opens.int (k:=.i64) (by kernel_rfl)) (by kernel_rfl) OpensF.nil)).map
   (fun x=>DoN.mk x.1 x.2.1 x.2.2.1 x.2.2.2.1 x.2.2.2.2.1 x.2.2.2.2.2.1 x.2.2.2.2.2.2.1 x.2.2.2.2.2.2.2.1) ?_ ?_ ?_
 ·intro ⟨a,b,c,d,e,f,g,h,u⟩ _;rfl
 ·intro ⟨a,b,c,d,e,f,g,h,u⟩ ⟨h1,h2,h3,h4,h5,h6,h7,h8,_⟩
  exact⟨⟨h4.1,h5.1,h6.1,h7.1⟩,⟨wf8 h1,wf8 h2,wf64 h8⟩,h4.2,h5.2,h6.2,h7.2⟩
 ·intro ⟨a,b,c,d,e,f,g,h,u⟩ _ ⟨g1,g2,g3,g4,g5,g6,g7,g8,_⟩
  refine⟨g3,fun x hx=>?_⟩
  simp only[DoP.nds,DoN.p,List.mem_cons,List.not_mem_nil,or_false] at hx
  rcases hx with rfl | rfl | rfl | rfl
  ·exact g4
  ·exact g5
  ·exact g6
  ·exact g7
def ruleF:List (TypeId×Nat):=[(35,0),(85,8),(3,9)]
theorem open_dosS:∀n,Opens en P W sp hd n 85 (fun s:SlV DoN=>[.slice s.a s.n s.c]) (fun s=>SlG (Imm.all W) [] 36 DoN.enc s.a s.n s.l∧∀x∈s.l,x.Ok (Imm.all W) []∧x.p.Wf) (fun s=>s.l.length≤reachBytes∧∀x∈s.l,x.p.Short)
 | 0=>Opens.zero
 | 1=>Opens.slice (e:=95) (z:=36) (by':=320) (by kernel_rfl) (by kernel_rfl) (by decide) (by kernel_rfl) (by decide) (fun _=>rfl) Opens.zero
 | n+2=>Opens.slice (e:=95) (z:=36) (by':=320) (by kernel_rfl) (by kernel_rfl) (by decide) (by kernel_rfl) (by decide) (fun _=>rfl) (open_doS n)
theorem open_ruleS(n:Nat):Opens en P W sp hd (n+1) 87 RuleN.enc (fun r=>r.Ok (Imm.all W) []∧r.p.Wf) (fun r=>r.p.Short):=by
 refine (Opens.struct (z:=10) (fs:=ruleF) (by kernel_rfl) (OpensF.cons (k:=8) (open_nd n) (by kernel_rfl)<|OpensF.cons (k:=1) (open_dosS n) (by kernel_rfl)<|OpensF.cons (k:=1) (Opens.int (k:=.i64) (by kernel_rfl)) (by kernel_rfl) OpensF.nil)).map
  (fun x=>RuleN.mk x.1 x.2.1.a x.2.1.c x.2.1.l x.2.2.1) ?_ ?_ ?_
 ·intro ⟨a,⟨sa,sn,sc,sl⟩,c,u⟩ ⟨_,⟨h2,_⟩,_⟩
  have e:sn=sl.length:=h2.1
  subst e;rfl
 ·intro ⟨a,⟨sa,sn,sc,sl⟩,c,u⟩ ⟨h1,⟨h2,h2'⟩,h3,_⟩
  have e:sn=sl.length:=h2.1
  subst e
  refine⟨⟨h1.1,h2,fun d hd=>(h2' d hd).1⟩,wf64 h3,h1.2,fun d hd=>?_⟩
  obtain⟨d',hd',rfl⟩:=List.mem_map.1 hd
  exact (h2' d' hd').2
 ·intro ⟨a,⟨sa,sn,sc,sl⟩,c,u⟩ _ ⟨g1,⟨g2,g2'⟩,_⟩
  refine⟨g1,by simp only[RuleN.p,List.length_map];exact g2,fun d hd=>?_⟩
  obtain⟨d',hd',rfl⟩:=List.mem_map.1 hd
  exact g2' d' hd'
def stateF:List (TypeId×Nat):=[(9,0),(72,1),(3,2)]
theorem open_rulesS:∀n,Opens en P W sp hd n 72 (fun s:SlV RuleN=>[.slice s.a s.n s.c]) (fun s=>SlG (Imm.all W) [] 10 RuleN.enc s.a s.n s.l∧∀x∈s.l,x.Ok (Imm.all W) []∧x.p.Wf) (fun s=>s.l.length≤reachBytes∧∀x∈s.l,x.p.Short)
 | 0=>Opens.zero
 | 1=>Opens.slice (e:=87) (z:=10) (by':=104) (by kernel_rfl) (by kernel_rfl) (by decide) (by kernel_rfl) (by decide) (fun _=>rfl) Opens.zero
 | n+2=>Opens.slice (e:=87) (z:=10) (by':=104) (by kernel_rfl) (by kernel_rfl) (by decide) (by kernel_rfl) (by decide) (fun _=>rfl) (open_ruleS n)
theorem open_stateS(n:Nat):Opens en P W sp hd (n+1) 74 StateN.enc (fun r=>r.Ok (Imm.all W) []∧r.p.Wf) (fun r=>r.p.Short):=by
 refine (Opens.struct (z:=3) (fs:=stateF) (by kernel_rfl) (OpensF.cons (k:=1) (Opens.str (by kernel_rfl)) (by kernel_rfl)<|OpensF.cons (k:=1) (open_rulesS n) (by kernel_rfl)<|OpensF.cons (k:=1) (Opens.int (k:=.i64) (by kernel_rfl)) (by kernel_rfl) OpensF.nil)).map
  (fun x=>StateN.mk x.1 x.2.1.a x.2.1.c x.2.1.l x.2.2.1) ?_ ?_ ?_
 ·intro ⟨a,⟨sa,sn,sc,sl⟩,c,u⟩ ⟨_,⟨h2,_⟩,_⟩
  have e:sn=sl.length:=h2.1
  subst e;rfl
 ·intro ⟨a,⟨sa,sn,sc,sl⟩,c,u⟩ ⟨h1,⟨h2,h2'⟩,h3,_⟩
  have e:sn=sl.length:=h2.1
  subst e
  refine⟨⟨h2,fun d hd=>(h2' d hd).1⟩,wf64 h3,fun d hd=>?_⟩
  obtain⟨d',hd',rfl⟩:=List.mem_map.1 hd
  exact (h2' d' hd').2
 ·intro ⟨a,⟨sa,sn,sc,sl⟩,c,u⟩ _ ⟨g1,⟨g2,g2'⟩,_⟩
  refine⟨g1,by simp only[StateN.p,List.length_map];exact g2,fun d hd=>?_⟩
  obtain⟨d',hd',rfl⟩:=List.mem_map.1 hd
  exact g2' d' hd'
def stgF:List (TypeId×Nat):=[(9,0),(22,1),(23,2),(24,3)]
theorem open_regsS:∀n,Opens en P W sp hd n 22 (fun s:SlV RegN=>[.slice s.a s.n s.c]) (fun s=>SlG (Imm.all W) [] 11 RegN.enc s.a s.n s.l∧∀x∈s.l,x.Ok (Imm.all W) []∧x.p.Wf) (fun s=>s.l.length≤reachBytes∧∀x∈s.l,x.p.Short)
 | 0=>Opens.zero
 | 1=>Opens.slice (e:=68) (z:=11) (by':=104) (by kernel_rfl) (by kernel_rfl) (by decide) (by kernel_rfl) (by decide) (fun _=>rfl) Opens.zero
 | n+2=>Opens.slice (e:=68) (z:=11) (by':=104) (by kernel_rfl) (by kernel_rfl) (by decide) (by kernel_rfl) (by decide) (fun _=>rfl) (open_regS n)
theorem open_slotsS:∀n,Opens en P W sp hd n 23 (fun s:SlV SlotP=>[.slice s.a s.n s.c]) (fun s=>SlG (Imm.all W) [] 2 SlotP.enc s.a s.n s.l∧∀x∈s.l,x.Wf) (fun s=>s.l.length≤reachBytes∧∀x∈s.l,x.Short)
 | 0=>Opens.zero
 | 1=>Opens.slice (e:=71) (z:=2) (by':=24) (by kernel_rfl) (by kernel_rfl) (by decide) (by kernel_rfl) (by decide) (fun _=>rfl) Opens.zero
 | n+2=>Opens.slice (e:=71) (z:=2) (by':=24) (by kernel_rfl) (by kernel_rfl) (by decide) (by kernel_rfl) (by decide) (fun _=>rfl) (open_slotS n)
theorem open_statesS:∀n,Opens en P W sp hd n 24 (fun s:SlV StateN=>[.slice s.a s.n s.c]) (fun s=>SlG (Imm.all W) [] 3 StateN.enc s.a s.n s.l∧∀x∈s.l,x.Ok (Imm.all W) []∧x.p.Wf) (fun s=>s.l.length≤reachBytes∧∀x∈s.l,x.p.Short)
 | 0=>Opens.zero
 | 1=>Opens.slice (e:=74) (z:=3) (by':=48) (by kernel_rfl) (by kernel_rfl) (by decide) (by kernel_rfl) (by decide) (fun _=>rfl) Opens.zero
 | n+2=>Opens.slice (e:=74) (z:=3) (by':=48) (by kernel_rfl) (by kernel_rfl) (by decide) (by kernel_rfl) (by decide) (fun _=>rfl) (open_stateS n)
theorem open_stgS(n:Nat):Opens en P W sp hd (n+1) 26 StgN.enc (fun r=>r.Ok (Imm.all W) []∧r.p.Wf) (fun r=>r.p.Short):=by
 refine (Opens.struct (z:=4) (fs:=stgF) (by kernel_rfl) (OpensF.cons (k:=1) (Opens.str (by kernel_rfl)) (by kernel_rfl)<|OpensF.cons (k:=1) (open_regsS n) (by kernel_rfl)<|OpensF.cons (k:=1) (open_slotsS n) (by kernel_rfl)<|OpensF.cons (k:=1) (open_statesS n) (by kernel_rfl) OpensF.nil)).map
  (fun x=>StgN.mk x.1 x.2.1.a x.2.1.c x.2.1.l x.2.2.1.a x.2.2.1.c x.2.2.1.l x.2.2.2.1.a x.2.2.2.1.c x.2.2.2.1.l) ?_ ?_ ?_
 ·intro ⟨a,⟨ra,rn,rc,rl⟩,⟨sa,sn,sc,sl⟩,⟨ta,tn,tc,tl⟩,u⟩ ⟨_,⟨h2,_⟩,⟨h3,_⟩,⟨h4,_⟩,_⟩
  have e2:rn=rl.length:=h2.1
  have e3:sn=sl.length:=h3.1
  have e4:tn=tl.length:=h4.1
  subst e2 e3 e4;rfl
 ·intro ⟨a,⟨ra,rn,rc,rl⟩,⟨sa,sn,sc,sl⟩,⟨ta,tn,tc,tl⟩,u⟩ ⟨h1,⟨h2,h2'⟩,⟨h3,h3'⟩,⟨h4,h4'⟩,_⟩
  have e2:rn=rl.length:=h2.1
  have e3:sn=sl.length:=h3.1
  have e4:tn=tl.length:=h4.1
  subst e2 e3 e4
  refine⟨⟨h2,fun d hd=>(h2' d hd).1,h3,h4,fun d hd=>(h4' d hd).1⟩,fun d hd=>?_,h3',fun d hd=>?_⟩
  ·obtain⟨d',hd',rfl⟩:=List.mem_map.1 hd
   exact (h2' d' hd').2
  ·obtain⟨d',hd',rfl⟩:=List.mem_map.1 hd
   exact (h4' d' hd').2
 ·intro ⟨a,⟨ra,rn,rc,rl⟩,⟨sa,sn,sc,sl⟩,⟨ta,tn,tc,tl⟩,u⟩ _ ⟨g1,⟨g2,g2'⟩,⟨g3,g3'⟩,⟨g4,g4'⟩,_⟩
  refine⟨g1,by simp only[StgN.p,List.length_map];exact g2,fun d hd=>?_,g3,g3',by simp only[StgN.p,List.length_map];exact g4,fun d hd=>?_⟩
  ·obtain⟨d',hd',rfl⟩:=List.mem_map.1 hd
   exact g2' d' hd'
  ·obtain⟨d',hd',rfl⟩:=List.mem_map.1 hd
   exact g4' d' hd'
end
theorem open_stg{H:Type}{en:TypeId×Value→H}{W:World}{base:Nat}{sp:Nat→Bool}{hd:Bool}{v:Value}{d:DataW H}{ps:List MemPlace}{r:Reach}(hval:Value.okWide P W r base 26 v)(h:DataW.Trod en P W 0 sp hd 26 v d ps) :
  ∃s:StgN,v=s.v∧s.Ok (Imm.all W) []∧s.p.Wf∧((∀m∈d.weights P 26,m≤reachBytes)→s.p.Short):=by
 have hv:=agg_of (fs:=stgF) (z:=4) (by kernel_rfl) hval
 obtain⟨fuel,hf⟩:=h
 cases fuel with
 | zero=>cases hf
 | succ n =>
   obtain⟨t,e,⟨h1,h2⟩,h3⟩:=open_stgS n _ d ps hf
   exact⟨t,by rw[hv,e],h1,h2,h3⟩
end Go.Lx
