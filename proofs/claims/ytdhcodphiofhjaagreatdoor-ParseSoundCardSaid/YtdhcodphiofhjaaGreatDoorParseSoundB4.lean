import Derived.Test.YtdhcodphiofhjaaGreatDoorParseSoundB3
set_option linter.unusedVariables false
set_option linter.unusedSimpArgs false
set_option linter.unusedSectionVars false
set_option maxRecDepth 100000
namespace Go.Lx
open Go.Vc
theorem x8(t:Nd)(I:cS)(F:cR):cV P 148 #[t.v] I F (jg (.bool t.px.wI) F):=by
 refine mD.vc ?_
 unfold mD.V
 intro b_n
 have hdef:t.px.wI=(t.kind==0&&(zB t.oper t.dJ t.n t.field t.name&&decide (t.kids.length=0))):=by
  unfold Px.wI zB
  rw[Nd.jB,Nd.pt,Nd.uQ,Nd.Ds,Nd.wh,Nd.yN,Nd.im,List.length_map,eE]
  simp only[Bool.and_assoc]
 rw[hdef]
 refine⟨fun h=>cV.ret (qe _ _ _ _ _ _ _ _ _ _ I _) fun I1 l1=>⟨_,rfl,F,.refl _,fun h2=>⟨?_,rfl⟩,fun h2=>⟨?_,rfl⟩⟩,fun h=>⟨?_,rfl⟩⟩
 ·rw[h,h2]
  simp only[Bool.true_and]
  have:(((t.kids.length:Nat):Int)==0)=decide (t.kids.length=0):=by
   rw[Bool.eq_iff_iff];simp
  rw[this]
 ·rw[h,h2];rfl
 ·rw[h];rfl
theorem ec(q:Bool)(t:Nd)(hs:t.px.size≤1048576)(I:cS)(F:cR)(ht:fR I F t):cV P 132 #[.bool q,t.v] I F (jg (.int .i64 (fg q t.px)) F):=by
 refine mC.vc ?_
 unfold mC.V
 intro b_n
 unfold fg
 refine⟨fun h=>cV.ret (mO t hs I _ ht.cons) fun I1 l1=>⟨_,rfl,F,.refl _, ?_,rfl⟩,fun h=>cV.ret (x8 t I _) fun I1 l1=>⟨_,rfl,F,.refl _,fun h2=>⟨?_,rfl⟩,fun h2=>⟨?_,rfl⟩⟩⟩
 ·subst h;rfl
 ·subst h;rw[qH h2];rfl
 ·subst h;rw[pJ h2];rfl
theorem x9{a:Option Addr}{c:Nat}{l:List Int}(I:cS)(F:cR)(hl:l.length≤1000000)(ha:pY I F 1 (fun x=>[Value.int .i64 x]) a l.length l):cV P 133 #[.slice a l.length c] I F (jg (.int .i64 (dL id l)) F):=by
 refine kW.vc (fun x i m I' F'=>F'=F∧0≤i∧i≤l.length∧m=(l.length-i).toNat∧cS.le I I'∧dL id l=dL id (l.drop i.toNat)) ?_
 unfold kW.V
 refine⟨⟨_,rfl,by omega,by omega,rfl,cS.le_refl I,rfl⟩,fun x i m I1 F1 _ ⟨gF,g0,g1,gm,l1,ge⟩=>?_⟩
 subst gF
 refine⟨fun hlt=>?_,fun hlt=>⟨?_,rfl⟩⟩
 ·have hlt:=of_decide_eq_true hlt
  obtain⟨ad,x,had,hx,hrd,hxm⟩:=pY.DE (ha.mono l1 fun _ h=>h) g0 hlt
  refine⟨⟨g0,hlt⟩,ad,had,x,hrd,fun h=>⟨⟨g0,hlt⟩,ad,had,x,hrd, ?_,rfl⟩,fun h=>⟨(l.length-(i+1)).toNat,by omega,rfl, ?_⟩⟩
  ·have hne:x≠0:=by simpa using h
   rw[ge,qG id hx]
   show _=Ending.returned (.int .i64 (dg x _))
   rw[ng hne]
  ·rw[gN (n:=i+1) (by omega)]
   have he:x=0:=by simpa using h
   refine⟨by omega,by omega,rfl,l1, ?_⟩
   rw[ge,qG id hx,show (i+1).toNat=i.toNat+1 by omega]
   show dg x _=_
   rw[he,kl]
 ·have hlt:=of_decide_eq_false hlt
  rw[ge,List.drop_eq_nil_of_le (by omega)];rfl
theorem Bv(d:gZ)(hs:Small d.p.Fb)(I:cS)(F:cR)(hd:d.Ok I F):cV P 121 #[d.v] I F (jg (.int .i64 d.p.check) F):=by
 simp only[Small,fA.Fb,gZ.p,List.mem_cons,List.not_mem_nil,or_false] at hs
 have z1:=hs _ (.inl rfl)
 have z2:=hs _ (.inr (.inl rfl))
 have z3:=hs _ (.inr (.inr (.inl rfl)))
 have z4:=hs _ (.inr (.inr (.inr rfl)))
 have hdef:d.p.check=dg (fJ d.p.pA 120) (dg (fJ d.p.oP 120) (dg (fJ d.p.dK 120) (dg (fg (decide (d.kind=1)) d.side.px) (dg (fg (decide (d.kind=1∨d.kind=2)) d.qty.px)
  (dg (fg (decide (d.kind=1∧d.order≠2∨d.kind=2)) d.price.px) (fg (decide (d.kind=4)) d.value.px)))))):=rfl
 have kdef:d.p.pA=decide (1≤d.kind∧d.kind≤6):=rfl
 have odef:d.p.oP=decide (d.kind=1∧1≤d.order∧d.order≤5∨d.kind≠1∧d.order=0):=rfl
 have ndef:d.p.dK=if d.kind=6 then d.name.toList==[] else if d.kind≠1∨d.name.toList≠[] then dK d.name else true:=rfl
 refine pL.vc (fun x I' F'=>F'=F∧cS.le I I'∧d.p.pA=true) (fun x I' F'=>F'=F∧cS.le I I'∧d.p.pA=true∧d.p.oP=true) (fun x I' F'=>F'=F∧cS.le I I'∧d.p.pA=true∧d.p.oP=true∧d.p.dK=true) ?_
 unfold pL.V
 intro b_d
 have ok:∀{J:cS},cS.le I J→d.Ok J ((b_d,Obj.cells #[.int .u8 d.kind,.int .u8 d.order,.string d.name,.int .u8 d.side.kind,.int .u8 d.side.oper,.int .u8 d.side.dJ,.int .i64 d.side.n,.int .u8 d.side.field,.string d.side.name,.slice d.side.a d.side.kids.length d.side.c,.int .i64 d.side.pos,.int .u8 d.qty.kind,.int .u8 d.qty.oper,.int .u8 d.qty.dJ,.int .i64 d.qty.n,.int .u8 d.qty.field,.string d.qty.name,.slice d.qty.a d.qty.kids.length d.qty.c,.int .i64 d.qty.pos,.int .u8 d.price.kind,.int .u8 d.price.oper,.int .u8 d.price.dJ,.int .i64 d.price.n,.int .u8 d.price.field,.string d.price.name,.slice d.price.a d.price.kids.length d.price.c,.int .i64 d.price.pos,.int .u8 d.value.kind,.int .u8 d.value.oper,.int .u8 d.value.dJ,.int .i64 d.value.n,.int .u8 d.value.field,.string d.value.name,.slice d.value.a d.value.kids.length d.value.c,.int .i64 d.value.pos,.int .i64 d.pos] 114 (0,0))::F):=fun hl=>(hd.mono hl fun _ h=>h).cons
 have hk:d.p.pA=false→Ending.returned (.int .i64 120)=.returned (.int .i64 d.p.check):=fun h=>by rw[hdef,h];rfl
 have ho:d.p.pA=true→d.p.oP=false→Ending.returned (.int .i64 120)=.returned (.int .i64 d.p.check):=fun h h'=>by rw[hdef,h,h'];rfl
 have hn:d.p.pA=true→d.p.oP=true→d.p.dK=false→Ending.returned (.int .i64 120)=.returned (.int .i64 d.p.check):=fun h h' h2=>by rw[hdef,h,h',h2];rfl
 rw[eE]
 refine⟨⟨fun h1=>⟨hk (by rw[kdef];simp only[decide_eq_true_eq] at h1;exact decide_eq_false (by omega)),rfl⟩,fun h1=>⟨fun h2=>⟨hk (by rw[kdef];simp only[decide_eq_true_eq] at h2;exact decide_eq_false (by omega)),rfl⟩,fun h2=>⟨rfl,cS.le_refl I,by rw[kdef];simp only[decide_eq_false_iff_not] at h1 h2;exact decide_eq_true (by omega)⟩⟩⟩,fun x I1 F1 _ ⟨gF,l1,k1⟩=>?_⟩
 subst gF
 refine⟨⟨fun h1=>⟨fun h2=>⟨ho k1 ?_,rfl⟩,fun h2=>⟨fun h3=>⟨ho k1 ?_,rfl⟩,fun h3=>⟨fun h4=>⟨fun h5=>⟨ho k1 ?_,rfl⟩,fun h5=>⟨rfl,l1,k1, ?_⟩⟩,fun h4=>⟨rfl,l1,k1, ?_⟩⟩⟩⟩,fun h1=>⟨fun h4=>⟨fun h5=>⟨ho k1 ?_,rfl⟩,fun h5=>⟨rfl,l1,k1, ?_⟩⟩,fun h4=>⟨rfl,l1,k1, ?_⟩⟩⟩,fun x1 I2 F2 _ ⟨gF,l2,k2,o2⟩=>?_⟩
 ·rw[odef];simp only[decide_eq_true_eq,beq_iff_eq] at h1 h2;exact decide_eq_false (by omega)
 ·rw[odef];simp only[decide_eq_true_eq,beq_iff_eq] at h1 h3;exact decide_eq_false (by omega)
 ·rw[h1] at h4;cases h4
 ·rw[h1] at h4;cases h4
 ·rw[odef];simp only[decide_eq_false_iff_not,beq_iff_eq] at h1 h2 h3;exact decide_eq_true (by omega)
 ·rw[odef];simp only[beq_eq_false_iff_ne,bne_iff_ne,ne_eq] at h1 h5;exact decide_eq_false (by omega)
 ·rw[odef];simp only[beq_eq_false_iff_ne,bne_eq_false_iff_eq,ne_eq] at h1 h5;exact decide_eq_true (by omega)
 ·rw[h1] at h4;cases h4
 subst gF
 refine cV.ret (jt I2 _) fun I3 l3=>⟨_,rfl,F2,.refl _, ?_⟩
 have l23:=cS.le_trans l2 l3
 refine⟨⟨fun h1=>⟨fun h2=>⟨hn k2 o2 ?_,rfl⟩,fun h2=>⟨fun h3=>?_,fun h3=>⟨rfl,l23,k2,o2, ?_⟩⟩⟩,fun h1=>⟨fun h3=>⟨fun h4=>⟨fun h5=>⟨fun h6=>⟨hn k2 o2 ?_,rfl⟩,fun h6=>⟨rfl,l23,k2,o2, ?_⟩⟩,fun h5=>⟨fun h6=>⟨hn k2 o2 ?_,rfl⟩,fun h6=>by cases h6⟩⟩,fun h4=>⟨rfl,l23,k2,o2, ?_⟩⟩,fun h3=>?_⟩⟩,fun x2 I4 F4 _ ⟨gF,l4,k4,o4,n4⟩=>?_⟩
 ·rw[ndef,if_pos (by simpa using h1)];exact qH h2
 ·have e1:d.kind=6:=by simpa using h1
  have e2:d.kind≠6:=by simpa using h3
  exact absurd e1 e2
 ·rw[ndef,if_pos (by simpa using h1)];exact pJ h2
 ·rw[ndef,if_neg (by simpa using h1),if_pos (.inr (by simpa using h6))];exact qH h4
 ·have e1:d.kind=1:=by simpa using h5
  have e2:d.name.toList=[]:=by simpa using h6
  rw[ndef,if_neg (by simpa using h1),if_neg (fun h=>h.elim (fun h=>h e1) fun h=>h e2)]
 ·have e1:d.kind≠1:=by simpa using h5
  rw[ndef,if_neg (by simpa using h1),if_pos (.inl e1)];exact qH h4
 ·rw[ndef,if_neg (by simpa using h1)]
  split
  ·exact pJ h4
  ·rfl
 ·have e1:d.kind≠6:=by simpa using h1
  have e2:d.kind=6:=by simpa using h3
  exact absurd e2 e1
 subst gF
 have hb:∀a b:Int,(a==b)=decide (a=b):=fun a b=>by rw[Bool.eq_iff_iff];simp
 rw[hb,hb]
 have hT:d.p.check=dg (fg (decide (d.kind=1)) d.side.px) (dg (fg (decide (d.kind=1∨d.kind=2)) d.qty.px) (dg (fg (decide (d.kind=1∧d.order≠2∨d.kind=2)) d.price.px) (fg (decide (d.kind=4)) d.value.px))):=by
  rw[hdef,k4,o4,n4];rfl
 have thz:∀a:Int,dg a 0=a:=fun a=>by
  unfold dg
  by_cases h:a=0
  ·rw[if_pos h,h]
  ·rw[if_neg h]
 have fin:∀(q2 q3:Bool),q2=decide (d.kind=1∨d.kind=2)→q3=decide (d.kind=1∧d.order≠2∨d.kind=2)→∀(J:cS) (G:cR) (b:Nat),J b=some (.cells #[.int .i64 (fg (decide (d.kind=1)) d.side.px),.int .i64 (fg q2 d.qty.px),.int .i64 (fg q3 d.price.px),.int .i64 (fg (decide (d.kind=4)) d.value.px)] 48 (0,0)) →
   cV P 133 #[.slice (some ⟨b,0,none⟩) 4 4] J G (jg (.int .i64 d.p.check) G):=fun q2 q3 e2 e3 J G b hb=>by
  have:=x9 (a:=some ⟨b,0,none⟩) (c:=4) (l:=[fg (decide (d.kind=1)) d.side.px,fg q2 d.qty.px,fg q3 d.price.px,fg (decide (d.kind=4)) d.value.px]) J G (by show 4≤1000000;decide) ⟨rfl,fun _=>⟨_,rfl,fun i x hx=>?_⟩⟩
  ·rw[hT,←e2,←e3]
   have e:dL id [fg (decide (d.kind=1)) d.side.px,fg q2 d.qty.px,fg q3 d.price.px,fg (decide (d.kind=4)) d.value.px]=dg (fg (decide (d.kind=1)) d.side.px) (dg (fg q2 d.qty.px) (dg (fg q3 d.price.px) (fg (decide (d.kind=4)) d.value.px))):=by
    show dg _ (dg _ (dg _ (dg _ 0)))=_
    rw[thz];rfl
   rw[←e];exact this
  ·rw[fy]
   refine Rd.xP hb _ _ fun j hj=>?_
   obtain rfl:j=0:=by simpa using hj
   rw[Nat.add_zero,Nat.mul_one]
   have hi:i<4:=(List.getElem?_eq_some_iff.1 hx).1
   have:i=0∨i=1∨i=2∨i=3:=by omega
   rcases this with rfl | rfl | rfl | rfl<;>(cases hx;rfl)
 refine cV.ret (ec _ d.side z1 I4 _ (ok l4).1) fun I5 h5=>⟨_,rfl,F4,.refl _, ?_⟩
 have l5:=cS.le_trans l4 h5
 refine⟨fun c1=>cV.ret (ec _ d.qty z2 I5 _ (ok l5).2.1) fun I6 h6=>⟨_,rfl,F4,.refl _, ?_⟩,fun c1=>cV.ret (ec _ d.qty z2 I5 _ (ok l5).2.1) fun I6 h6=>⟨_,rfl,F4,.refl _, ?_⟩⟩
 ·have l6:=cS.le_trans l5 h6
  have c1':=of_decide_eq_true c1
  refine⟨fun c2=>⟨fun c3=>?_,fun c3=>?_⟩,fun c2=>?_⟩
  ·have c2':=of_decide_eq_true c2
   have c3':d.order≠2:=by simpa using c3
   exact cV.ret (ec _ d.price z3 I6 _ (ok l6).2.2.1) fun I7 h7=>⟨_,rfl,F4,.refl _,cV.ret (ec _ d.value z4 I7 _ (ok (cS.le_trans l6 h7)).2.2.2) fun I8 h8=>⟨_,rfl,F4,.refl _,fun b I9 h9 hb9=>cV.ret (fin _ _ (decide_eq_true (by omega)).symm (decide_eq_true (by omega)).symm I9 _ b hb9) fun I10 _=>⟨_,rfl,F4,.refl _,rfl,rfl⟩⟩⟩
  ·have c2':=of_decide_eq_true c2
   have c3':d.order=2:=by simpa using c3
   exact cV.ret (ec _ d.price z3 I6 _ (ok l6).2.2.1) fun I7 h7=>⟨_,rfl,F4,.refl _,cV.ret (ec _ d.value z4 I7 _ (ok (cS.le_trans l6 h7)).2.2.2) fun I8 h8=>⟨_,rfl,F4,.refl _,fun b I9 h9 hb9=>cV.ret (fin _ _ (decide_eq_true (by omega)).symm (by rw[hb];exact decide_eq_decide.2 (by omega)) I9 _ b hb9) fun I10 _=>⟨_,rfl,F4,.refl _,rfl,rfl⟩⟩⟩
  ·have c2':=of_decide_eq_false c2
   exact cV.ret (ec _ d.price z3 I6 _ (ok l6).2.2.1) fun I7 h7=>⟨_,rfl,F4,.refl _,cV.ret (ec _ d.value z4 I7 _ (ok (cS.le_trans l6 h7)).2.2.2) fun I8 h8=>⟨_,rfl,F4,.refl _,fun b I9 h9 hb9=>cV.ret (fin _ _ (decide_eq_true (by omega)).symm (by rw[hb];exact decide_eq_decide.2 (by omega)) I9 _ b hb9) fun I10 _=>⟨_,rfl,F4,.refl _,rfl,rfl⟩⟩⟩
 ·have l6:=cS.le_trans l5 h6
  have c1':=of_decide_eq_false c1
  refine⟨fun c2=>⟨fun c3=>?_,fun c3=>?_⟩,fun c2=>?_⟩
  ·have c2':=of_decide_eq_true c2
   have c3':d.order≠2:=by simpa using c3
   exact cV.ret (ec _ d.price z3 I6 _ (ok l6).2.2.1) fun I7 h7=>⟨_,rfl,F4,.refl _,cV.ret (ec _ d.value z4 I7 _ (ok (cS.le_trans l6 h7)).2.2.2) fun I8 h8=>⟨_,rfl,F4,.refl _,fun b I9 h9 hb9=>cV.ret (fin _ _ (by rw[hb];exact decide_eq_decide.2 (by omega)) (decide_eq_true (by omega)).symm I9 _ b hb9) fun I10 _=>⟨_,rfl,F4,.refl _,rfl,rfl⟩⟩⟩
  ·have c2':=of_decide_eq_true c2
   have c3':d.order=2:=by simpa using c3
   exact cV.ret (ec _ d.price z3 I6 _ (ok l6).2.2.1) fun I7 h7=>⟨_,rfl,F4,.refl _,cV.ret (ec _ d.value z4 I7 _ (ok (cS.le_trans l6 h7)).2.2.2) fun I8 h8=>⟨_,rfl,F4,.refl _,fun b I9 h9 hb9=>cV.ret (fin _ _ (by rw[hb];exact decide_eq_decide.2 (by omega)) (by rw[hb];exact decide_eq_decide.2 (by omega)) I9 _ b hb9) fun I10 _=>⟨_,rfl,F4,.refl _,rfl,rfl⟩⟩⟩
  ·have c2':=of_decide_eq_false c2
   exact cV.ret (ec _ d.price z3 I6 _ (ok l6).2.2.1) fun I7 h7=>⟨_,rfl,F4,.refl _,cV.ret (ec _ d.value z4 I7 _ (ok (cS.le_trans l6 h7)).2.2.2) fun I8 h8=>⟨_,rfl,F4,.refl _,fun b I9 h9 hb9=>cV.ret (fin _ _ (by rw[hb];exact decide_eq_decide.2 (by omega)) (by rw[hb];exact decide_eq_decide.2 (by omega)) I9 _ b hb9) fun I10 _=>⟨_,rfl,F4,.refl _,rfl,rfl⟩⟩⟩
theorem ya(r:dy)(hs:r.p.np)(I:cS)(F:cR)(hr:r.Ok I F):cV P 99 #[r.v] I F (jg (.int .i64 r.p.check) F):=by
 have hc:r.p.check=dg r.when.px.fk (dg (fJ (decide (0<r.dos.length)) 120) (dg (fJ (decide (r.dos.length≤8)) 121) (dL fA.check (r.dos.map gZ.p)))):=by
  show dg _ (dg (fJ (decide (0<(r.dos.map gZ.p).length)) 120) (dg (fJ (decide ((r.dos.map gZ.p).length≤8)) 121) _))=_
  rw[List.length_map];rfl
 refine mB.vc (fun x e i m I' F'=>F'=F∧0≤i∧i≤r.dos.length∧m=(r.dos.length-i).toNat∧cS.le I I'∧r.dos.length≤8∧r.p.check=dL fA.check ((r.dos.drop i.toNat).map gZ.p)) ?_
 unfold mB.V
 intro b_r
 refine cV.ret (mO r.when hs.1 I _ hr.cons.1) fun I1 l1=>⟨_,rfl,F,.refl _,fun h=>⟨?_,rfl⟩,fun h=>⟨fun h2=>⟨?_,rfl⟩,fun h2=>⟨fun h3=>⟨?_,rfl⟩,fun h3=>⟨⟨_,rfl,by omega,by omega,rfl,l1, ?_, ?_⟩,fun x e i m I2 F2 _ ⟨gF,g0,g1,gm,l2,gl,ge⟩=>?_⟩⟩⟩⟩
 ·rw[hc,ng (by simpa using h)]
 ·have e1:r.when.px.fk=0:=by simpa using h
  have e2:r.dos.length=0:=by have:(r.dos.length:Int)=0:=by simpa using h2
                             omega
  rw[hc,e1,e2];rfl
 ·have e1:r.when.px.fk=0:=by simpa using h
  have e3:=of_decide_eq_true h3
  rw[hc,e1,decide_eq_true (show 0<r.dos.length by omega),decide_eq_false (show ¬r.dos.length≤8 by omega)];rfl
 ·have e3:=of_decide_eq_false h3
  omega
 ·have e1:r.when.px.fk=0:=by simpa using h
  have e2:¬r.dos.length=0:=fun e=>by rw[e] at h2;simp at h2
  have e3:=of_decide_eq_false h3
  rw[hc,e1,decide_eq_true (show 0<r.dos.length by omega),decide_eq_true (show r.dos.length≤8 by omega)];rfl
 subst gF
 have okr:=(hr.mono l2 fun _ h=>h).cons (x:=(b_r,Obj.cells #[.int .u8 r.when.kind,.int .u8 r.when.oper,.int .u8 r.when.dJ,.int .i64 r.when.n,.int .u8 r.when.field,.string r.when.name,.slice r.when.a r.when.kids.length r.when.c,.int .i64 r.when.pos,.slice r.a r.dos.length r.c,.int .i64 r.pos] 110 (0,0)))
 refine⟨fun hlt=>?_,fun hlt=>⟨?_,rfl⟩⟩
 ·have hlt:=of_decide_eq_true hlt
  obtain⟨ad,d,had,hd,hrd,hdm⟩:=pY.DE okr.2.1 g0 hlt
  refine⟨⟨g0,hlt⟩,ad,had,_,_,_,_,_,_,_,_,_,_,_,_,_,_,_,_,_,_,_,_,_,_,_,_,_,_,_,_,_,_,_,_,_,_,_,_,_,_,_,_,_,_,_,_,hrd,cV.ret (Bv d (hs.2.2 _ (List.mem_map_of_mem hdm)) I2 _ (okr.2.2 d hdm)) fun I3 l3=>⟨_,rfl,F2,.refl _,fun h=>⟨?_,rfl⟩,fun h=>⟨(r.dos.length-(i+1)).toNat,by omega,rfl, ?_⟩⟩⟩
  ·rw[ge,fH fA.check gZ.p hd,ng (by simpa using h)]
  ·have e1:d.p.check=0:=by simpa using h
   rw[gN (n:=i+1) (by omega)]
   refine⟨by omega,by omega,rfl,cS.le_trans l2 l3,gl, ?_⟩
   rw[ge,fH fA.check gZ.p hd,e1,kl,show (i+1).toNat=i.toNat+1 by omega]
 ·have hlt:=of_decide_eq_false hlt
  rw[ge,gR fA.check gZ.p (by omega)]
theorem wR(x:di)(hs:x.p.np)(I:cS)(F:cR)(hx:x.Ok I F):cV P 52 #[x.v] I F (jg (.int .i64 x.p.check) F):=by
 have hc:x.p.check=dg (fJ (dK x.name) 120) (dg (fJ (decide (x.rules.length≤12)) 121) (dL ej.check (x.rules.map dy.p))):=by
  show dg _ (dg (fJ (decide ((x.rules.map dy.p).length≤12)) 121) _)=_
  rw[List.length_map];rfl
 refine kV.vc (fun q i m I' F'=>F'=F∧0≤i∧i≤x.rules.length∧m=(x.rules.length-i).toNat∧cS.le I I'∧x.rules.length≤12∧x.p.check=dL ej.check ((x.rules.drop i.toNat).map dy.p)) ?_
 unfold kV.V
 intro b_s
 refine cV.ret (jt I _) fun I1 l1=>⟨_,rfl,F,.refl _,fun h=>⟨?_,rfl⟩,fun h=>⟨fun h3=>⟨?_,rfl⟩,fun h3=>⟨⟨_,rfl,by omega,by omega,rfl,l1, ?_, ?_⟩,fun q i m I2 F2 _ ⟨gF,g0,g1,gm,l2,gl,ge⟩=>?_⟩⟩⟩
 ·rw[hc,qH h];rfl
 ·have e3:=of_decide_eq_true h3
  rw[hc,pJ h,decide_eq_false (show ¬x.rules.length≤12 by omega)];rfl
 ·have e3:=of_decide_eq_false h3
  omega
 ·have e3:=of_decide_eq_false h3
  rw[hc,pJ h,decide_eq_true (show x.rules.length≤12 by omega)];rfl
 subst gF
 have okx:=(hx.mono l2 fun _ h=>h).cons (x:=(b_s,Obj.cells #[.string x.name,.slice x.a x.rules.length x.c,.int .i64 x.pos] 88 (0,0)))
 refine⟨fun hlt=>?_,fun hlt=>⟨?_,rfl⟩⟩
 ·have hlt:=of_decide_eq_true hlt
  obtain⟨ad,r,had,hr,hrd,hrm⟩:=pY.DE okx.1 g0 hlt
  refine⟨⟨g0,hlt⟩,ad,had,_,_,_,_,_,_,_,_,_,_,_,_,_,_,hrd,cV.ret (ya r (hs.2 _ (List.mem_map_of_mem hrm)) I2 _ (okx.2 r hrm)) fun I3 l3=>⟨_,rfl,F2,.refl _,fun h=>⟨?_,rfl⟩,fun h=>⟨(x.rules.length-(i+1)).toNat,by omega,rfl, ?_⟩⟩⟩
  ·rw[ge,fH ej.check dy.p hr,ng (by simpa using h)]
  ·have e1:r.p.check=0:=by simpa using h
   rw[gN (n:=i+1) (by omega)]
   refine⟨by omega,by omega,rfl,cS.le_trans l2 l3,gl, ?_⟩
   rw[ge,fH ej.check dy.p hr,e1,kl,show (i+1).toNat=i.toNat+1 by omega]
 ·have hlt:=of_decide_eq_false hlt
  rw[ge,gR ej.check dy.p (by omega)]
theorem wS{x:Px}(h:x.formed=true)(hk:x.kind=5):x.kids.length=1:=by
 rw[Px.gT,Bool.and_eq_true] at h
 have h1:=h.1
 unfold Px.iK at h1
 simp only[Bool.and_eq_true,decide_eq_true_eq] at h1
 rw[h1.2]
 unfold Px.arity
 rw[if_pos (.inl hk)]
theorem wT(t:Nd)(hs:t.px.size≤1048576)(I:cS)(F:cR)(ht:fR I F t):cV P 98 #[t.v] I F (jg (.bool (t.px.formed&&t.px.nf)) F):=by
 refine jV.vc ?_
 unfold jV.V
 intro b_n
 have hdef:t.px.nf=if t.kind=5∧t.oper=1 then (match t.px.kids with | k::_=>decide (k.kind=1∧k.dJ≤4) | []=>false) else decide (t.kind=1):=by
  unfold Px.nf;rw[Nd.jB,Nd.pt];rfl
 have hb:∀a b:Int,(a==b)=decide (a=b):=fun a b=>by rw[Bool.eq_iff_iff];simp
 refine⟨fun h1=>⟨fun h2=>⟨fun h3=>?_,fun h3=>?_⟩,fun h2=>?_⟩,fun h1=>?_⟩
 ·have e1:t.kind=5:=by simpa using h1
  have e2:t.oper=1:=by simpa using h2
  have e3:t.kids.length=1:=by have:(t.kids.length:Int)=1:=by simpa using h3
                              omega
  obtain⟨ad,k,had,hk,hrd,hko,hkm⟩:=(ht.cons (x:=(b_n,Obj.cells #[.int .u8 t.kind,.int .u8 t.oper,.int .u8 t.dJ,.int .i64 t.n,.int .u8 t.field,.string t.name,.slice t.a t.kids.length t.c,.int .i64 t.pos] 64 (0,0)))).kids.at (i:=0) (Int.le_refl 0) (by omega)
  have hkids:t.px.kids=[k.px]:=by
   rw[Nd.im]
   cases hkk:t.kids with
   | nil=>rw[hkk] at e3;cases e3
   | cons y l =>
     rw[hkk] at hk e3
     cases l with
     | nil=>cases hk;rfl
     | cons z l=>simp at e3
  rw[hdef,if_pos ⟨e1,e2⟩,hkids]
  refine⟨⟨Int.le_refl 0,by omega⟩,ad,had,_,_,_,_,_,_,_,_,_,_,hrd,fun b_k=>cV.ret (jH t hs I _ (ht.cons.cons)) fun I1 l1=>⟨_,rfl,F,.refl _,fun h4=>⟨fun h5=>⟨?_,rfl⟩,fun h5=>⟨?_,rfl⟩⟩,fun h4=>⟨?_,rfl⟩⟩⟩
  ·have e5:k.kind=1:=by simpa using h5
   rw[h4]
   show _=Ending.returned (.bool (true&&decide (k.px.kind=1∧k.px.dJ≤4)))
   rw[Nd.jB,Nd.uQ,e5];simp
  ·have e5:k.kind≠1:=by simpa using h5
   rw[h4]
   show _=Ending.returned (.bool (true&&decide (k.px.kind=1∧k.px.dJ≤4)))
   rw[Nd.jB,decide_eq_false (fun h=>e5 h.1)];rfl
  ·rw[h4];rfl
 ·have e1:t.kind=5:=by simpa using h1
  have e3:t.kids.length≠1:=fun e=>by rw[e] at h3;simp at h3
  have hf:t.px.formed=false:=by
   cases hh:t.px.formed with
   | false=>rfl
   | true =>
     have:=wS hh (by rw[Nd.jB];exact e1)
     rw[Nd.im,List.length_map] at this
     exact absurd this e3
  refine cV.ret (jH t hs I _ ht.cons) fun I1 l1=>⟨_,rfl,F,.refl _,fun h4=>?_,fun h4=>⟨?_,rfl⟩⟩
  ·rw[hf] at h4;cases h4
  ·rw[hf];rfl
 ·have e2:t.oper≠1:=by simpa using h2
  rw[hdef,if_neg (fun h=>e2 h.2)]
  refine cV.ret (jH t hs I _ ht.cons) fun I1 l1=>⟨_,rfl,F,.refl _,fun h4=>⟨?_,rfl⟩,fun h4=>⟨?_,rfl⟩⟩
  ·rw[h4,hb];rfl
  ·rw[h4];rfl
 ·have e1:t.kind≠5:=by simpa using h1
  rw[hdef,if_neg (fun h=>e1 h.1)]
  refine cV.ret (jH t hs I _ ht.cons) fun I1 l1=>⟨_,rfl,F,.refl _,fun h4=>⟨?_,rfl⟩,fun h4=>⟨?_,rfl⟩⟩
  ·rw[h4,hb];rfl
  ·rw[h4];rfl
theorem Aa(r:eW)(hs:r.init.px.size≤1048576)(I:cS)(F:cR)(hr:r.Ok I F):cV P 51 #[r.v] I F (jg (.bool (dK r.name&&(decide (1≤r.dJ∧r.dJ≤6)&&(r.init.px.formed&&r.init.px.nf)))) F):=by
 refine nT.vc ?_
 unfold nT.V
 intro b_r
 refine cV.ret (jt I _) fun I1 l1=>⟨_,rfl,F,.refl _,fun h1=>⟨fun h2=>⟨fun h3=>?_,fun h3=>⟨?_,rfl⟩⟩,fun h2=>⟨?_,rfl⟩⟩,fun h1=>⟨?_,rfl⟩⟩
 ·have e2:=of_decide_eq_true h2
  have e3:=of_decide_eq_true h3
  refine cV.ret (wT r.init hs I1 _ (fR.mono hr l1 fun a ha=>.tail _ ha)) fun I2 l2=>⟨_,rfl,F,.refl _, ?_,rfl⟩
  rw[h1,decide_eq_true (show 1≤r.dJ∧r.dJ≤6 by omega)];rfl
 ·have e3:=of_decide_eq_false h3
  rw[h1,decide_eq_false (show ¬(1≤r.dJ∧r.dJ≤6) by omega)];rfl
 ·have e2:=of_decide_eq_false h2
  rw[h1,decide_eq_false (show ¬(1≤r.dJ∧r.dJ≤6) by omega)];rfl
 ·rw[h1];rfl
theorem u7(s:gy)(hs:s.p.zZ)(I:cS)(F:cR)(hok:s.Ok I F):cV P 21 #[s.v] I F (jg (.int .i64 s.p.check) F):=by
 have hc:s.p.check=dg (fJ (dK s.name) 120) (dg (fJ (decide (s.regs.length≤12)) 121) (dg (dL eg.check (s.regs.map eW.p)) (dg (fJ (decide (s.slots.length≤4)) 121) (dg (dL dm.check s.slots)
   (dg (fJ (decide (0<s.states.length)) 120) (dg (fJ (decide (s.states.length≤12)) 121) (dL dt.check (s.states.map di.p)))))))):=by
  show dg _ (dg (fJ (decide ((s.regs.map eW.p).length≤12)) 121) (dg _ (dg _ (dg _ (dg (fJ (decide (0<(s.states.map di.p).length)) 120) (dg (fJ (decide ((s.states.map di.p).length≤12)) 121) _))))))=_
  rw[List.length_map,List.length_map];rfl
 have hnm:∀r∈s.regs,r.init.px.size≤1048576:=fun r hr=>hs.kR _ (List.mem_map_of_mem hr)
 have hst:∀x∈s.states,x.p.np:=fun x hx=>hs.state _ (List.mem_map_of_mem hx)
 have lr:=hs.regs
 have ls:=hs.slots
 have lt:=hs.states
 simp only[gy.p,List.length_map] at lr ls lt
 refine kU.vc
  (fun x q i m I' F'=>F'=F∧0≤i∧i≤s.regs.length∧m=(s.regs.length-i).toNat∧cS.le I I'∧s.p.check=dg (dL eg.check ((s.regs.drop i.toNat).map eW.p)) (dg (fJ (decide (s.slots.length≤4)) 121) (dg (dL dm.check s.slots)
    (dg (fJ (decide (0<s.states.length)) 120) (dg (fJ (decide (s.states.length≤12)) 121) (dL dt.check (s.states.map di.p)))))))
  (fun x q i m I' F'=>F'=F∧0≤i∧i≤s.slots.length∧m=(s.slots.length-i).toNat∧cS.le I I'∧s.p.check=dg (dL dm.check ((s.slots.drop i.toNat).map id)) (dg (fJ (decide (0<s.states.length)) 120) (dg (fJ (decide (s.states.length≤12)) 121) (dL dt.check (s.states.map di.p)))))
  (fun x i m I' F'=>F'=F∧0≤i∧i≤s.states.length∧m=(s.states.length-i).toNat∧cS.le I I'∧s.p.check=dL dt.check ((s.states.drop i.toNat).map di.p)) ?_
 unfold kU.V
 intro b_s
 have ok:∀{J:cS},cS.le I J→s.Ok J ((b_s,Obj.cells #[.string s.name,.slice s.ra s.regs.length s.rc,.slice s.sa s.slots.length s.sc,.slice s.ta s.states.length s.tc] 43 (0,0))::F):=fun hl=>(hok.mono hl fun _ h=>h).cons
 refine cV.ret (jt I _) fun I1 l1=>⟨_,rfl,F,.refl _,fun h=>⟨?_,rfl⟩,fun h=>⟨fun h3=>⟨?_,rfl⟩,fun h3=>⟨⟨_,rfl,by omega,by omega,rfl,l1, ?_⟩,fun x q i m I2 F2 _ ⟨gF,g0,g1,gm,l2,ge⟩=>?_⟩⟩⟩
 ·rw[hc,qH h];rfl
 ·have e3:=of_decide_eq_true h3
  rw[hc,pJ h,decide_eq_false (show ¬s.regs.length≤12 by omega)];rfl
 ·have e3:=of_decide_eq_false h3
  rw[hc,pJ h,decide_eq_true (show s.regs.length≤12 by omega)];rfl
 subst gF
 refine⟨fun hlt=>?_,fun hlt=>⟨fun h4=>⟨?_,rfl⟩,fun h4=>⟨⟨_,rfl,by omega,by omega,rfl,l2, ?_⟩,fun x1 q1 j m4 I4 F4 _ ⟨gF,j0,j1,jm,l4,je⟩=>?_⟩⟩⟩
 ·have hlt:=of_decide_eq_true hlt
  obtain⟨ad,r,had,hr,hrd,hrm⟩:=pY.DE (ok l2).regs g0 hlt
  have hcr:r.p.check=fJ (dK r.name&&(decide (1≤r.dJ∧r.dJ≤6)&&(r.init.px.formed&&r.init.px.nf))) 120:=rfl
  refine⟨⟨g0,hlt⟩,ad,had,_,_,_,_,_,_,_,_,_,_,_,_,_,hrd,cV.ret (Aa r (hnm r hrm) I2 _ ((ok l2).kR r hrm)) fun I3 l3=>⟨_,rfl,F2,.refl _,fun h=>⟨?_,rfl⟩,fun h=>⟨(s.regs.length-(i+1)).toNat,by omega,rfl, ?_⟩⟩⟩
  ·rw[ge,fH eg.check eW.p hr,hcr,qH h];rfl
  ·rw[gN (n:=i+1) (by omega)]
   refine⟨by omega,by omega,rfl,cS.le_trans l2 l3, ?_⟩
   rw[ge,fH eg.check eW.p hr,hcr,pJ h,show (i+1).toNat=i.toNat+1 by omega];rfl
 ·have hlt:=of_decide_eq_false hlt
  have e4:=of_decide_eq_true h4
  rw[ge,gR eg.check eW.p (by omega),decide_eq_false (show ¬s.slots.length≤4 by omega)];rfl
 ·have hlt:=of_decide_eq_false hlt
  have e4:=of_decide_eq_false h4
  rw[ge,gR eg.check eW.p (by omega),decide_eq_true (show s.slots.length≤4 by omega)]
  show dg 0 (dg 0 (dg (dL dm.check s.slots) _))=dg (dL dm.check (s.slots.map id)) _
  rw[List.map_id];rfl
 subst gF
 refine⟨fun hlt=>?_,fun hlt=>⟨fun h5=>⟨?_,rfl⟩,fun h5=>⟨fun h6=>⟨?_,rfl⟩,fun h6=>⟨⟨_,rfl,by omega,by omega,rfl,l4, ?_⟩,fun x2 k m8 I6 F6 _ ⟨gF,k0,k1,km,l6,ke⟩=>?_⟩⟩⟩⟩
 ·have hlt:=of_decide_eq_true hlt
  obtain⟨ad,r,had,hr,hrd,hrm⟩:=pY.DE (ok l4).slots j0 hlt
  have hcr:dm.check r=fJ (dK r.name) 120:=rfl
  refine⟨⟨j0,hlt⟩,ad,had,r.name,hrd.field (o:=0) rfl,cV.ret (jt I4 _) fun I5 l5=>⟨_,rfl,F4,.refl _,fun h=>⟨?_,rfl⟩,fun h=>⟨(s.slots.length-(j+1)).toNat,by omega,rfl, ?_⟩⟩⟩
  ·rw[je,fH dm.check id hr]
   show _=Ending.returned (.int .i64 (dg (dg (dm.check r) _) _))
   rw[hcr,qH h];rfl
  ·rw[gN (n:=j+1) (by omega)]
   refine⟨by omega,by omega,rfl,cS.le_trans l4 l5, ?_⟩
   rw[je,fH dm.check id hr,show (j+1).toNat=j.toNat+1 by omega]
   show dg (dg (dm.check r) _) _=_
   rw[hcr,pJ h];rfl
 ·have hlt:=of_decide_eq_false hlt
  have e5:s.states.length=0:=by have:(s.states.length:Int)=0:=by simpa using h5
                                omega
  rw[je,gR dm.check id (by omega),e5];rfl
 ·have hlt:=of_decide_eq_false hlt
  have e6:=of_decide_eq_true h6
  rw[je,gR dm.check id (by omega),decide_eq_true (show 0<s.states.length by omega),decide_eq_false (show ¬s.states.length≤12 by omega)];rfl
 ·have hlt:=of_decide_eq_false hlt
  have e5:¬s.states.length=0:=fun e=>by rw[e] at h5;simp at h5
  have e6:=of_decide_eq_false h6
  rw[je,gR dm.check id (by omega),decide_eq_true (show 0<s.states.length by omega),decide_eq_true (show s.states.length≤12 by omega)];rfl
 subst gF
 refine⟨fun hlt=>?_,fun hlt=>⟨?_,rfl⟩⟩
 ·have hlt:=of_decide_eq_true hlt
  obtain⟨ad,x,had,hx,hrd,hxm⟩:=pY.DE (ok l6).states k0 hlt
  refine⟨⟨k0,hlt⟩,ad,had,_,_,_,_,_,hrd,cV.ret (wR x (hst x hxm) I6 _ ((ok l6).state x hxm)) fun I7 l7=>⟨_,rfl,F6,.refl _,fun h=>⟨?_,rfl⟩,fun h=>⟨(s.states.length-(k+1)).toNat,by omega,rfl, ?_⟩⟩⟩
  ·rw[ke,fH dt.check di.p hx,ng (by simpa using h)]
  ·have e1:x.p.check=0:=by simpa using h
   rw[gN (n:=k+1) (by omega)]
   refine⟨by omega,by omega,rfl,cS.le_trans l6 l7, ?_⟩
   rw[ke,fH dt.check di.p hx,e1,kl,show (k+1).toNat=k.toNat+1 by omega]
 ·have hlt:=of_decide_eq_false hlt
  rw[ke,gR dt.check di.p (by omega)]
def TF.enc(f:TF):List Value:=[.int .i64 f.e,.int .i64 f.pos,.bool f.of]
section
variable (s:gy) (hl:s.p.zZ) {I:cS} {F:cR} (hok:s.Ok I F)
include hl hok
end
end Go.Lx
namespace Go.Lx
open Go.Vc
section
variable (s:gy) (hl:s.p.zZ) {I:cS} {F:cR} (hok:s.Ok I F)
include hl hok
end
end Go.Lx
namespace Go.Lx
open Go.Vc
section
variable (s:gy) (hl:s.p.zZ) {I:cS} {F:cR} (hok:s.Ok I F)
include hl hok
end
end Go.Lx
namespace Go.Lx
open Go.Vc
inductive kE (B:Int):Px→Prop
 | mk {k o t n f:Int} {s:ByteArray} {l:List Px} {q:Int}:0≤q→q≤B→(∀x∈l,kE B x)→(s.size:Int)≤B→kE B (.mk k o t n f s l q)
theorem kE.pos{B:Int}{x:Px}(h:kE B x):0≤x.pos∧x.pos≤B:=by cases h;exact⟨by assumption,by assumption⟩
theorem yb{B q:Int}(h0:0≤q)(h1:q≤B):(((⟨#[]⟩:ByteArray).size:Nat):Int)≤B:=Int.le_trans h0 h1
theorem kE.Ed{B:Int}{x:Px}(h:kE B x):∀k∈x.kids,kE B k:=by cases h;assumption
theorem kE.leaf{B:Int}{k o t n f:Int}{q:Int}(h0:0≤q)(h1:q≤B):kE B (.mk k o t n f ⟨#[]⟩ [] q):=.mk h0 h1 (fun x hx=>by cases hx) (yb h0 h1)
def u9(c:PC)(B:Int):Prop:=0≤B∧∀t∈c.l,(0≤t.pos∧t.pos≤B)∧(t.text.size:Int)≤B
def Sz(c:PC)(B:Int)(g:PS→Px×PS):Prop:=∀s,(g s).1.size+3*s.next≤1+3*(g s).2.next∧kE B (g s).1
section
variable {c:PC} {B:Int} (hB:u9 c B)
include hB
theorem yY(i:Nat):0≤(c.tok i).pos∧(c.tok i).pos≤B:=by
 unfold PC.tok
 cases h:c.l[i]? with
 | none=>exact⟨Int.le_refl 0,hB.1⟩
 | some t=>exact (hB.2 t (List.mem_of_getElem? h)).1
theorem iY(s:PS):0≤(c.now s).pos∧(c.now s).pos≤B:=by
 unfold PC.now
 split
 ·exact⟨Int.le_refl 0,hB.1⟩
 ·exact yY hB _
theorem Bw(s:PS):((c.now s).text.size:Int)≤B:=by
 unfold PC.now
 split
 ·exact hB.1
 ·unfold PC.tok
  cases h:c.l[s.next]? with
  | none=>exact hB.1
  | some t=>exact (hB.2 t (List.mem_of_getElem? h)).2
theorem nU(s:PS):((c.name s).1.size:Int)≤B:=by
 unfold PC.name
 split
 ·exact Bw hB s
 ·exact hB.1
theorem jW:kE B eP:=.leaf (Int.le_refl 0) hB.1
theorem nw(w:ByteArray)(s:PS):0≤(c.take w s).1∧(c.take w s).1≤B:=by
 unfold PC.take
 split
 ·exact iY hB s
 ·exact⟨Int.le_refl 0,hB.1⟩
theorem sI(s:PS):(c.literal s).1.1.size=1∧kE B (c.literal s).1.1:=by
 unfold PC.literal
 have hn:=iY hB s
 have one:∀(a b:Int),(pG a b (c.now s).pos).size=1∧kE B (pG a b (c.now s).pos):=fun a b=>⟨rfl,.leaf hn.1 hn.2⟩
 split
 ·exact one _ _
 ·split
  ·exact one _ _
  ·split
   ·exact one _ _
   ·exact⟨rfl,jW hB⟩
end
theorem qi(a b:Px):Px.fI [a,b]=a.size+b.size:=by rw[Px.fI,Px.fI,Px.fI];omega
section
variable {c:PC} {B:Int} (hB:u9 c B) {nx:Lv} (hx:Sz c B nx.ex) (hu:Sz c B nx.un)
include hB hx
theorem yZ:∀(n:Nat) (f:Bool) (s:PS),Px.fI (c.dB nx n f s).1+3*s.next≤n+3*(c.dB nx n f s).2.next∧∀k∈(c.dB nx n f s).1,kE B k
 | 0,f,s=>by rw[PC.dB];exact⟨by show (0:Int)+3*(s.next:Int)≤((0:Nat):Int)+3*(s.next:Int);omega,fun k hk=>by cases hk⟩
 | n+1,f,s=>by
   have _:=hB
   rw[PC.dB]
   have h1:s.next≤(if f then s else (c.take (⟨#[44]⟩:ByteArray) s).2).next:=by
    split
    ·exact Nat.le_refl _
    ·exact (Up.take _).1
   obtain⟨h2,h3⟩:=hx (if f then s else (c.take (⟨#[44]⟩:ByteArray) s).2)
   obtain⟨h4,h5⟩:=yZ n false (nx.ex (if f then s else (c.take (⟨#[44]⟩:ByteArray) s).2)).2
   refine⟨?_,fun k hk=>?_⟩
   ·show Px.fI ((nx.ex _).1::_)+_≤_
    rw[Px.fI]
    show _≤_+3*(((c.dB nx n false (nx.ex (if f then s else (c.take (⟨#[44]⟩:ByteArray) s).2)).2).2.next:Nat):Int)
    omega
   ·rcases List.mem_cons.1 hk with rfl | hk
    ·exact h3
    ·exact h5 k hk
theorem za{d kind oper dJ pos:Int}{many:Nat}{s:PS}(hm:many≤3)(h0:0≤pos)(h1:pos≤B):(c.call nx d kind oper dJ pos many s).1.size+3*s.next≤1+3*(c.call nx d kind oper dJ pos many s).2.next∧kE B (c.call nx d kind oper dJ pos many s).1:=by
 unfold PC.call
 split
 ·rw[ef];exact⟨Int.le_refl _,jW hB⟩
 ·have h2:(c.cT d s).inc.next=s.next+1:=by rw[fB,ef]
  have h3:=(Up.take (c:=c) (s:=(c.cT d s).inc) (⟨#[40]⟩:ByteArray)).1
  obtain⟨h4,h5⟩:=yZ hB hx many true (c.take (⟨#[40]⟩:ByteArray) (c.cT d s).inc).2
  have h6:=(Up.take (c:=c) (s:=(c.dB nx many true (c.take (⟨#[40]⟩:ByteArray) (c.cT d s).inc).2).2) (⟨#[41]⟩:ByteArray)).1
  refine⟨?_,.mk h0 h1 h5 (yb h0 h1)⟩
  show Px.size (.mk kind oper dJ 0 0 ⟨#[]⟩ _ pos)+_≤1+3*((c.take (⟨#[41]⟩:ByteArray) (c.dB nx many true (c.take (⟨#[40]⟩:ByteArray) (c.cT d s).inc).2).2).2.next:Int)
  rw[Px.size]
  omega
theorem Co(d:Int):Sz c B (c.rest nx d):=fun s=>by
 unfold PC.rest
 have hn:=iY hB s
 split
 ·split
  ·rw[ga,fB];exact⟨by show (1:Int)+_≤_;omega,jW hB⟩
  ·exact⟨by show (1:Int)+3*(s.next:Int)≤1+3*((s.next+1+1:Nat):Int);omega,.leaf hn.1 hn.2⟩
 ·split
  ·split
   ·rw[ef];exact⟨Int.le_refl _,jW hB⟩
   ·have h2:(c.cT d s).inc.next=s.next+1:=by rw[fB,ef]
    obtain⟨h3,h4⟩:=hx (c.cT d s).inc
    have h5:=(Up.take (c:=c) (s:=(nx.ex (c.cT d s).inc).2) (⟨#[41]⟩:ByteArray)).1
    exact⟨by show (nx.ex (c.cT d s).inc).1.size+_≤1+3*((c.take (⟨#[41]⟩:ByteArray) (nx.ex (c.cT d s).inc).2).2.next:Int);omega,h4⟩
  ·rw[ga];exact⟨Int.le_refl _,jW hB⟩
theorem DM(d:Int):Sz c B (c.one nx d):=fun s=>by
 unfold PC.one
 have hn:=iY hB s
 split
 ·obtain⟨h1,h2⟩:=sI hB s
  have h3:=(Up.literal (c:=c) (s:=s)).1
  exact⟨by show (c.literal s).1.1.size+_≤1+3*((c.literal s).2.next:Int);rw[h1];omega,h2⟩
 ·split
  ·exact⟨by show (1:Int)+3*(s.next:Int)≤1+3*((s.next+1:Nat):Int);omega,.mk hn.1 hn.2 (fun x hx=>by cases hx) (Bw hB s)⟩
  ·split
   ·exact⟨by show (1:Int)+3*(s.next:Int)≤1+3*((s.next+1:Nat):Int);omega,.leaf hn.1 hn.2⟩
   ·split
    ·exact za hB hx (by split<;>decide) hn.1 hn.2
    ·split
     ·exact za hB hx (by decide) hn.1 hn.2
     ·exact Co hB hx d s
include hu
theorem sJ(d:Int):Sz c B (c.unary nx d):=fun s=>by
 unfold PC.unary
 have hn:=iY hB (c.cT d s)
 split
 ·exact DM hB hx d s
 ·split
  ·rw[ef];exact⟨Int.le_refl _,jW hB⟩
  ·have h2:(c.cT d s).inc.next=s.next+1:=by rw[fB,ef]
   obtain⟨h3,h4⟩:=hu (c.cT d s).inc
   refine⟨?_,.mk hn.1 hn.2 (fun k hk=>?_) (yb hn.1 hn.2)⟩
   ·show Px.size (.mk 5 _ 0 0 0 ⟨#[]⟩ [(nx.un (c.cT d s).inc).1] _)+_≤1+3*((nx.un (c.cT d s).inc).2.next:Int)
    rw[Px.size,Px.fI,Px.fI];omega
   ·rw[List.mem_singleton] at hk;subst hk;exact h4
end
theorem wU{c:PC}{B:Int}(hB:u9 c B){ws:List ByteArray}{o:Int}{sub:PS→Px×PS}(h:Sz c B sub):∀(m:Nat) (n:Px) (s:PS) (s0:Int),n.size+s0≤1+3*s.next→kE B n→(c.dM ws o sub m n s).1.size+s0≤1+3*(c.dM ws o sub m n s).2.next∧kE B (c.dM ws o sub m n s).1
 | 0,n,s,s0,hn,hp=>⟨hn,hp⟩
 | m+1,n,s,s0,hn,hp=>by
   rw[PC.dM]
   split
   ·exact⟨hn,hp⟩
   ·have hq:=iY hB s
    obtain⟨h1,h2⟩:=h s.inc
    rw[fB] at h1
    refine wU hB h m _ _ s0 ?_ (.mk hq.1 hq.2 (fun k hk=>?_) (yb hq.1 hq.2))
    ·rw[iS,Px.size,qi];omega
    ·rcases List.mem_cons.1 hk with rfl | hk
     ·exact hp
     ·rw[List.mem_singleton] at hk;subst hk;exact h2
theorem qZ{c:PC}{B:Int}(hB:u9 c B){ws:List ByteArray}{o:Int}{sub:PS→Px×PS}(h:Sz c B sub):Sz c B (c.loop ws o sub):=fun s=>wU hB h _ _ _ _ (h s).1 (h s).2
section
variable {c:PC} {B:Int} (hB:u9 c B) {nx:Lv} (hx:Sz c B nx.ex) (hu:Sz c B nx.un) (hm:dR c nx.ex) (hmu:dR c nx.un) (d:Int)
include hB hx hu
theorem yc:Sz c B (c.product nx d):=qZ hB (sJ hB hx hu d)
theorem Bx:Sz c B (c.sum nx d):=qZ hB (yc hB hx hu d)
theorem yd:Sz c B (c.compare nx d):=fun s=>by
 unfold PC.compare
 obtain⟨h1,h2⟩:=Bx hB hx hu d s
 have hq:=iY hB (c.sum nx d s).2
 show (if c.any iU (c.sum nx d s).2<0 then c.sum nx d s else _).1.size+_≤1+3*((if c.any iU (c.sum nx d s).2<0 then c.sum nx d s else _:Px×PS).2.next:Int)∧kE B (if c.any iU (c.sum nx d s).2<0 then c.sum nx d s else _:Px×PS).1
 split
 ·exact⟨h1,h2⟩
 ·obtain⟨h3,h4⟩:=Bx hB hx hu d (c.sum nx d s).2.inc
  rw[fB] at h3
  refine⟨?_,.mk hq.1 hq.2 (fun k hk=>?_) (yb hq.1 hq.2)⟩
  ·show Px.size (iS _ _ _ _)+_≤1+3*((c.sum nx d (c.sum nx d s).2.inc).2.next:Int)
   rw[iS,Px.size,qi];omega
  ·rcases List.mem_cons.1 hk with rfl | hk
   ·exact h2
   ·rw[List.mem_singleton] at hk;subst hk;exact h4
theorem DN:Sz c B (c.and nx d):=qZ hB (yd hB hx hu d)
theorem EB:Sz c B (c.or nx d):=qZ hB (DN hB hx hu d)
include hm hmu
theorem zb:Sz c B (c.expr nx d):=fun s=>by
 unfold PC.expr
 obtain⟨h1,h2⟩:=EB hB hx hu d s
 have hup:=(Up.or hm hmu d s).1
 show (if c.eo _ (c.or nx d s).2 then _ else c.or nx d s:Px×PS).1.size+_≤1+3*((if c.eo _ (c.or nx d s).2 then _ else c.or nx d s:Px×PS).2.next:Int)∧kE B (if c.eo _ (c.or nx d s).2 then _ else c.or nx d s:Px×PS).1
 split
 ·show (if (c.cT d (c.or nx d s).2).over then _ else _:Px×PS).1.size+_≤1+3*((if (c.cT d (c.or nx d s).2).over then _ else _:Px×PS).2.next:Int)∧kE B (if (c.cT d (c.or nx d s).2).over then _ else _:Px×PS).1
  have hq:=iY hB (c.cT d (c.or nx d s).2)
  split
  ·rw[ef];exact⟨by show (1:Int)+_≤_;omega,jW hB⟩
  ·have h3:(c.cT d (c.or nx d s).2).inc.next=(c.or nx d s).2.next+1:=by rw[fB,ef]
   obtain⟨h4,h5⟩:=hx (c.cT d (c.or nx d s).2).inc
   have h6:=(Up.take (c:=c) (s:=(nx.ex (c.cT d (c.or nx d s).2).inc).2) (⟨#[58]⟩:ByteArray)).1
   obtain⟨h7,h8⟩:=hx (c.take (⟨#[58]⟩:ByteArray) (nx.ex (c.cT d (c.or nx d s).2).inc).2).2
   refine⟨?_,.mk hq.1 hq.2 (fun k hk=>?_) (yb hq.1 hq.2)⟩
   ·show Px.size (.mk 7 0 0 0 0 ⟨#[]⟩ [(c.or nx d s).1,(nx.ex (c.cT d (c.or nx d s).2).inc).1,(nx.ex (c.take (⟨#[58]⟩:ByteArray) (nx.ex (c.cT d (c.or nx d s).2).inc).2).2).1] _)+_≤1+3*((nx.ex (c.take (⟨#[58]⟩:ByteArray) (nx.ex (c.cT d (c.or nx d s).2).inc).2).2).2.next:Int)
    rw[Px.size,Px.fI,qi];omega
   ·rcases List.mem_cons.1 hk with rfl | hk
    ·exact h2
    ·rcases List.mem_cons.1 hk with rfl | hk
     ·exact h5
     ·rw[List.mem_singleton] at hk;subst hk;exact h8
 ·exact⟨h1,h2⟩
end
theorem sK{c:PC}{B:Int}(hB:u9 c B):∀(k:Nat) (d:Int),Sz c B (c.lvl k d).ex∧Sz c B (c.lvl k d).un
 | 0,d=>by
   have hz:Sz c B (fun s=>(eP,s)):=fun s=>⟨Int.le_refl _,jW hB⟩
   exact⟨zb hB hz hz (fun s=>.refl) (fun s=>.refl) d,sJ hB hz hz d⟩
 | k+1,d=>⟨zb hB (sK hB k (d+1)).1 (sK hB k (d+1)).2 (Up.lvl k (d+1)).1 (Up.lvl k (d+1)).2 d,sJ hB (sK hB k (d+1)).1 (sK hB k (d+1)).2 d⟩
theorem DO{c:PC}{B:Int}(hB:u9 c B):Sz c B c.dW:=(sK hB 24 0).1
theorem wV{s:ByteArray}:∀(n:Nat) (f:Int),0≤f→f≤s.size→∀t∈(jl s n f).1,(0≤t.pos∧t.pos≤s.size)∧(t.text.size:Int)≤s.size
 | 0,f,h0,h1,t,ht=>by rw[jl] at ht;cases ht
 | n+1,f,h0,h1,t,ht=>by
   rw[jl] at ht
   split at ht
   ·cases ht
   ·rename_i u hu
    obtain⟨g1,g2,_⟩:=gO h0 h1 hu
    have hp:(0≤u.pos∧u.pos≤s.size)∧(u.text.size:Int)≤s.size:=⟨⟨by omega,by omega⟩,by omega⟩
    split at ht
    ·rw[List.mem_singleton] at ht;subst ht;exact hp
    ·rcases List.mem_cons.1 ht with rfl | ht
     ·exact hp
     ·exact wV n _ (by omega) g1 t ht
theorem wW(t:ByteArray):u9 (de t) t.size:=by
 refine⟨by omega,fun u hu=>?_⟩
 unfold de at hu
 split at hu
 ·cases hu
 ·exact wV _ 0 (Int.le_refl 0) (by omega) u hu
theorem Bz(t:ByteArray):(de t).l.length≤4097:=by
 unfold de
 split
 ·decide
 ·have:=uh t ((t.size:Int)-0+1).toNat 0
  show (hU t 0).1.length≤4097
  unfold hU
  omega
end Go.Lx
namespace Go.Lx
open Go.Vc
def wX(B M:Int)(x:Px):Prop:=x.size≤M∧kE B x
def fA.In(B M:Int)(d:fA):Prop:=((0≤d.pos∧d.pos≤B)∧(d.name.size:Int)≤B)∧wX B M d.side∧wX B M d.qty∧wX B M d.price∧wX B M d.value
def ej.In(B M:Int)(r:ej):Prop:=(0≤r.pos∧r.pos≤B)∧wX B M r.when∧r.dos.length≤8∧∀d∈r.dos,d.In B M
def dt.In(B M:Int)(x:dt):Prop:=((0≤x.pos∧x.pos≤B)∧(x.name.size:Int)≤B)∧x.rules.length≤12∧∀r∈x.rules,r.In B M
def eg.In(B M:Int)(r:eg):Prop:=((0≤r.pos∧r.pos≤B)∧(r.name.size:Int)≤B)∧wX B M r.init
def dm.In(B:Int)(r:dm):Prop:=(0≤r.pos∧r.pos≤B)∧(r.name.size:Int)≤B
structure fm.In (B M:Int) (s:fm):Prop where
 rl:s.regs.length≤12
 rr:∀x∈s.regs,x.In B M
 sl:s.slots.length≤4
 ss:∀x∈s.slots,x.In B
 tl:s.states.length≤12
 tt:∀x∈s.states,x.In B M
 nn:(s.name.size:Int)≤B
section
variable {c:PC} {B M:Int} (hB:u9 c B) (hM:2+3*(c.l.length:Int)≤M)
include hB hM
theorem mF:wX B M eP:=⟨by show (1:Int)≤M;omega,jW hB⟩
theorem oU{s:PS}(hs:s.next≤c.l.length):wX B M (c.dW s).1∧(c.dW s).2.next≤c.l.length:=by
 obtain⟨h1,h2⟩:=DO hB s
 have h3:=(Up.dW (c:=c) s).2 hs
 exact⟨⟨by omega,h2⟩,h3⟩
theorem Cp{nm:ByteArray}{t pos pos2:Int}{minus:Bool}{n:Px}(h0:(0≤pos∧pos≤B)∧(nm.size:Int)≤B)(h2:0≤pos2∧pos2≤B)(hn:n.size=1∧kE B n)(s:PS):(c.jL nm t pos pos2 minus n s).1.In B M:=by
 have _:=hB
 unfold PC.jL eg.In
 refine⟨h0, ?_⟩
 show wX B M (if minus then _ else n)
 split
 ·refine⟨?_,.mk h2.1 h2.2 (fun k hk=>?_) (yb h2.1 h2.2)⟩
  ·rw[Px.size,Px.fI,Px.fI,hn.1];omega
  ·rw[List.mem_singleton] at hk;subst hk;exact hn.2
 ·exact⟨by rw[hn.1];omega,hn.2⟩
theorem Cq{nm:ByteArray}{t pos pos2:Int}{minus:Bool}(h0:(0≤pos∧pos≤B)∧(nm.size:Int)≤B)(h2:0≤pos2∧pos2≤B)(s:PS):(c.hY nm t pos pos2 minus s).1.In B M:=by
 unfold PC.hY
 split
 ·exact⟨h0,mF hB hM⟩
 ·exact Cp hB hM h0 h2 (sI hB s) _
theorem Cr{nm:ByteArray}{pos:Int}(h0:(0≤pos∧pos≤B)∧(nm.size:Int)≤B)(s:PS):(c.ig nm pos s).1.In B M:=by
 unfold PC.ig
 split
 ·exact⟨h0,mF hB hM⟩
 ·unfold PC.jh;exact Cq hB hM h0 (iY hB _) _
theorem DP(s:PS):(c.kR s).1.In B M:=by unfold PC.kR;exact Cr hB hM ⟨nw hB _ s,nU hB _⟩ _
theorem Ab(s:PS):((c.eh s).1.size:Int)≤B:=by
 have _:=hM
 unfold PC.eh
 split
 ·exact nU hB _
 ·exact hB.1
theorem zc{x y z:Px}{pos o:Int}(h0:0≤pos∧pos≤B)(hx:wX B M x)(hy:wX B M y)(hz:wX B M z)(s:PS):(c.jI x y pos z o s).1.In B M:=⟨⟨h0,Ab hB hM _⟩,hx,hy,hz,mF hB hM⟩
theorem Cs{x y z:Px}{pos:Int}(h0:0≤pos∧pos≤B)(hx:wX B M x)(hy:wX B M y)(hz:wX B M z)(s:PS):(c.ij x y pos z s).1.In B M:=by
 unfold PC.ij
 split
 ·exact⟨⟨h0,hB.1⟩,hx,hy,hz,mF hB hM⟩
 ·exact zc hB hM h0 hx hy hz _
theorem Ct{x y:Px}{pos:Int}(h0:0≤pos∧pos≤B)(hx:wX B M x)(hy:wX B M y){s:PS}(hs:s.next≤c.l.length):(c.hZ x y pos s).1.In B M:=by
 unfold PC.hZ
 split
 ·exact⟨⟨h0,hB.1⟩,hx,hy,mF hB hM,mF hB hM⟩
 ·rename_i h2
  split
  ·exact Cs hB hM h0 hx hy (oU hB hM ((Up.inc (dx (Int.not_lt.1 h2)).1).2 hs)).1 _
  ·exact zc hB hM h0 hx hy (mF hB hM) _
theorem Ac{s:PS}(hs:s.next≤c.l.length):(c.fZ s).1.In B M:=by
 unfold PC.fZ PC.sF
 obtain⟨h1,h2⟩:=oU hB hM ((Up.take (c:=c) (s:=s) (⟨#[115,117,98,109,105,116]⟩:ByteArray)).2 hs)
 obtain⟨h3,h4⟩:=oU hB hM ((Up.take (c:=c) (s:=(c.dW (c.take (⟨#[115,117,98,109,105,116]⟩:ByteArray) s).2).2) (⟨#[111,102]⟩:ByteArray)).2 h2)
 exact Ct hB hM (nw hB _ s) h1 h3 h4
theorem BA{k:Int}{nm:ByteArray}{pos:Int}(h0:(0≤pos∧pos≤B)∧(nm.size:Int)≤B){s:PS}(hs:s.next≤c.l.length):(c.nj k nm pos s).1.In B M:=by
 unfold PC.nj
 have hz:=mF hB hM
 split
 ·unfold PC.Aw
  obtain⟨h1,h2⟩:=oU hB hM ((Up.take (c:=c) (s:=s) (⟨#[116,111]⟩:ByteArray)).2 hs)
  exact⟨h0,hz,h1,(oU hB hM ((Up.take (c:=c) (s:=(c.dW (c.take (⟨#[116,111]⟩:ByteArray) s).2).2) (⟨#[97,116]⟩:ByteArray)).2 h2)).1,hz⟩
 ·split
  ·unfold PC.DD
   exact⟨h0,hz,hz,hz,(oU hB hM ((Up.take (c:=c) (s:=s) (⟨#[61]⟩:ByteArray)).2 hs)).1⟩
  ·exact⟨h0,hz,hz,hz,hz⟩
theorem EC{s:PS}(hs:s.next≤c.l.length):(c.do s).1.In B M:=by
 unfold PC.do
 have hz:=mF hB hM
 split
 ·exact⟨⟨⟨Int.le_refl 0,hB.1⟩,hB.1⟩,hz,hz,hz,hz⟩
 ·rename_i h2
  have hi:=(Up.inc (dx (Int.not_lt.1 h2)).1:Up c s s.inc).2 hs
  split
  ·exact Ac hB hM hs
  ·split
   ·exact BA hB hM (nm:=⟨#[]⟩) ⟨iY hB s,hB.1⟩ hi
   ·exact BA hB hM ⟨iY hB s,nU hB _⟩ (Up.name.2 hi)
theorem zd:∀(m:Nat) (l:List fA) (s:PS),s.next≤c.l.length→(∀d∈l,d.In B M)→(∀d∈(c.eX m l s).1,d.In B M)∧(c.eX m l s).1.length≤l.length+m
 | 0,l,s,hs,hl=>⟨hl,Nat.le_refl _⟩
 | m+1,l,s,hs,hl=>by
   rw[PC.eX]
   have hd:=EC hB hM hs
   have hl2:∀d∈l++[(c.do s).1],d.In B M:=fun d hm=>by
    rcases List.mem_append.1 hm with hm | hm
    ·exact hl d hm
    ·rw[List.mem_singleton] at hm;subst hm;exact hd
   have hn:=(Up.do s).2 hs
   have he:(l++[(c.do s).1]).length=l.length+1:=by rw[List.length_append];rfl
   split
   ·rename_i h1
    have hlt:=gQ h1
    split
    ·exact⟨hl2,by show (l++[(c.do s).1]).length≤_;omega⟩
    ·obtain⟨g1,g2⟩:=zd m (l++[(c.do s).1]) (c.many (l.length+1) 8 (c.do s).2).inc (by rw[fB,j5];exact hlt) hl2
     exact⟨g1,by omega⟩
   ·exact⟨hl2,by show (l++[(c.do s).1]).length≤_;omega⟩
theorem Cu{s:PS}(hs:s.next≤c.l.length):(c.fG s).1.In B M:=by
 unfold PC.fG PC.kS
 obtain⟨h1,h2⟩:=oU hB hM ((Up.take (c:=c) (s:=s) (⟨#[119,104,101,110]⟩:ByteArray)).2 hs)
 obtain⟨h3,h4⟩:=zd hB hM 8 [] (c.take (⟨#[100,111]⟩:ByteArray) (c.dW (c.take (⟨#[119,104,101,110]⟩:ByteArray) s).2).2).2 ((Up.take (c:=c) (s:=(c.dW (c.take (⟨#[119,104,101,110]⟩:ByteArray) s).2).2) (⟨#[100,111]⟩:ByteArray)).2 h2) (fun d hd=>by cases hd)
 exact⟨nw hB _ s,h1,by simpa using h4,h3⟩
omit hB hM in
theorem ny{α:Type}{w:ByteArray}{most:Nat}{one:PS→α×PS}{Q:α→Prop}(hm:dR c one)(h1:∀s:PS,s.next≤c.l.length→Q (one s).1):∀(m:Nat) (l:List α) (s:PS),s.next≤c.l.length→(∀x∈l,Q x)→(∀x∈(c.dH w most one m l s).1,Q x)∧(c.dH w most one m l s).1.length≤l.length+m
 | 0,l,s,hs,hl=>⟨hl,Nat.le_refl _⟩
 | m+1,l,s,hs,hl=>by
   rw[PC.dH]
   split
   ·split
    ·exact⟨hl,Nat.le_add_right _ _⟩
    ·have hn:(c.many l.length most s).next≤c.l.length:=by rw[j5];exact hs
     obtain⟨g1,g2⟩:=ny hm h1 m (l++[(one (c.many l.length most s)).1]) (one (c.many l.length most s)).2 ((hm _).2 hn) fun x hx=>by
      rcases List.mem_append.1 hx with hx | hx
      ·exact hl x hx
      ·rw[List.mem_singleton] at hx;subst hx;exact h1 _ hn
     rw[List.length_append,List.length_singleton] at g2
     exact⟨g1,by omega⟩
   ·exact⟨hl,Nat.le_add_right _ _⟩
theorem BB{s:PS}(hs:s.next≤c.l.length):(c.state s).1.In B M:=by
 unfold PC.state PC.ko
 have h1:=(Up.take (c:=c) (s:=s) (⟨#[115,116,97,116,101]⟩:ByteArray)).2 hs
 have h2:=(Up.name (c:=c) (s:=(c.take (⟨#[115,116,97,116,101]⟩:ByteArray) s).2)).2 h1
 have h3:=(Up.take (c:=c) (s:=(c.name (c.take (⟨#[115,116,97,116,101]⟩:ByteArray) s).2).2) (⟨#[123]⟩:ByteArray)).2 h2
 obtain⟨h4,h5⟩:=ny (w:=(⟨#[119,104,101,110]⟩:ByteArray)) (most:=12) (Q:=ej.In B M) Up.fG (fun s hs=>Cu hB hM hs) 12 [] _ h3 (fun x hx=>by cases hx)
 exact⟨⟨nw hB _ s,nU hB _⟩,h5,h4⟩
theorem Cv(s:PS):(c.slot s).1.In B:=by
 have _:=hM
 exact⟨nw hB _ s,nU hB _⟩
theorem BC{s:PS}(hs:s.next≤c.l.length):(c.whole s).1.In B M:=by
 unfold PC.whole PC.lh PC.lg PC.lf PC.ia
 have h1:=(Up.take (c:=c) (s:=s) (⟨#[115,116,114,97,116,101,103,121]⟩:ByteArray)).2 hs
 have h2:=(Up.name (c:=c) (s:=(c.take (⟨#[115,116,114,97,116,101,103,121]⟩:ByteArray) s).2)).2 h1
 have h3:=(Up.take (c:=c) (s:=(c.name (c.take (⟨#[115,116,114,97,116,101,103,121]⟩:ByteArray) s).2).2) (⟨#[123]⟩:ByteArray)).2 h2
 obtain⟨h4,h5⟩:=ny (w:=(⟨#[114,101,103]⟩:ByteArray)) (most:=12) (Q:=eg.In B M) Up.kR (fun s hs=>DP hB hM s) 12 [] _ h3 (fun x hx=>by cases hx)
 have h6:=(Up.list (w:=(⟨#[114,101,103]⟩:ByteArray)) (most:=12) Up.kR (c.take (⟨#[123]⟩:ByteArray) (c.name (c.take (⟨#[115,116,114,97,116,101,103,121]⟩:ByteArray) s).2).2).2).2 h3
 obtain⟨h7,h8⟩:=ny (w:=(⟨#[115,108,111,116]⟩:ByteArray)) (most:=4) (Q:=dm.In B) Up.slot (fun s hs=>Cv hB hM s) 4 [] _ h6 (fun x hx=>by cases hx)
 have h9:=(Up.list (w:=(⟨#[115,108,111,116]⟩:ByteArray)) (most:=4) Up.slot (c.list (⟨#[114,101,103]⟩:ByteArray) 12 c.kR (c.take (⟨#[123]⟩:ByteArray) (c.name (c.take (⟨#[115,116,114,97,116,101,103,121]⟩:ByteArray) s).2).2).2).2).2 h6
 obtain⟨h10,h11⟩:=ny (w:=(⟨#[115,116,97,116,101]⟩:ByteArray)) (most:=12) (Q:=dt.In B M) Up.state (fun s hs=>BB hB hM hs) 12 [] _ h9 (fun x hx=>by cases hx)
 exact⟨h5,h4,h8,h7,h11,h10,nU hB _⟩
end
theorem Ad(t:ByteArray):(dI t).1.In t.size 20000:=by
 unfold dI
 show (if ((de t).whole (dN t)).2.over then _ else _:fm×PF).1.In t.size 20000
 split
 ·exact⟨Nat.zero_le _,fun x hx=>(by cases hx),Nat.zero_le _,fun x hx=>(by cases hx),Nat.zero_le _,fun x hx=>(by cases hx),Int.natCast_nonneg _⟩
 ·exact BC (wW t) (by have:=Bz t;omega) (Nat.zero_le _)
theorem fm.In.thin{B:Int}{s:fm}(h:s.In B 20000):s.zZ:=by
 have h1:=h.rl
 have h2:=h.sl
 have h3:=h.tl
 refine⟨by omega,fun r hr=>?_,by omega,by omega,fun x hx=>?_⟩
 ·have:=(h.rr r hr).2.1;omega
 ·obtain⟨_,g1,g2⟩:=h.tt x hx
  refine⟨by omega,fun r hr=>?_⟩
  obtain⟨_,k1,k2,k3⟩:=g2 r hr
  refine⟨by have:=k1.1;omega,by omega,fun d hd=>?_⟩
  obtain⟨_,d1,d2,d3,d4⟩:=k3 d hd
  intro y hy
  simp only[fA.Fb,List.mem_cons,List.not_mem_nil,or_false] at hy
  rcases hy with rfl | rfl | rfl | rfl
  ·have:=d1.1;omega
  ·have:=d2.1;omega
  ·have:=d3.1;omega
  ·have:=d4.1;omega
section
variable {B M:Int} {s:fm}
variable (h0:0≤B)
include h0
end
end Go.Lx
namespace Go.Lx
open Go.Vc
theorem DQ{s:ByteArray}{f:Int}(h0:0≤f)(h1:f≤s.size){t:Tok}(h:eJ s f=.ok t):(t.kind=2→dK t.text=true)∧(t.kind=3→1≤t.dJ∧t.dJ≤4∧0≤t.n):=by
 by_cases hk:t.kind=0
 ·exact⟨fun h=>by omega,fun h=>by omega⟩
 obtain⟨hlt,hr⟩:=sG h0 h1 h hk
 have ho:=eO h1
 generalize da s f=i at *
 unfold kr at hr
 split at hr
 ·obtain⟨E,e2,hE,he2,hc,rfl⟩:=qY hr
  refine⟨fun h=>absurd h (by show ¬((3:Int)=2);decide),fun _=>⟨?_, ?_, ?_⟩⟩
  ·show 1≤dE _
   unfold dE;repeat' split
   all_goals decide
  ·show dE _≤4
   unfold dE;repeat' split
   all_goals decide
  ·exact uO _ _ _ _ (Int.le_refl 0)
 ·split at hr
  ·rename_i hd hm
   have hrn:=dw (p:=c9) hlt
   rw[if_pos (by simp[c9,hm])] at hrn
   have hEb:=dU (p:=c9) (s:=s) (i:=i+1) (by omega)
   rw[←hrn] at hEb
   unfold iP at hr
   simp only at hr
   split at hr
   ·cases hr
   ·rename_i h16
    have htt:=TR.ok.inj hr
    subst htt
    refine⟨fun h2=>?_,fun h3=>?_⟩
    ·have hsz:=eD (by omega:0≤i) (by omega:i≤dh c9 s i) hEb.2
     have hw:kL (cut s i (dh c9 s i))=false:=by
      cases hw:kL (cut s i (dh c9 s i)) with
      | false=>rfl
      | true=>rw[hw] at h2;exact absurd h2 (by show ¬((1:Int)=2);decide)
     show dK (cut s i (dh c9 s i))=true
     unfold dK
     have hb:∀k,0≤k→k<dh c9 s i-i→bt (cut s i (dh c9 s i)) k=bt s (i+k):=fun k g0 g1=>ld (by omega) g0 (by omega) hEb.2
     have e1:(!((cut s i (dh c9 s i)).toList==[]))=true:=by
      cases hh:(cut s i (dh c9 s i)).toList==[] with
      | false=>rfl
      | true =>
        have h2:=eq_of_beq hh
        rw[Lib.toList_data] at h2
        have h3:=congrArg List.length h2
        have h4:(cut s i (dh c9 s i)).size=0:=h3
        omega
     have e2:fj (bt (cut s i (dh c9 s i)) 0)=true:=by rw[hb 0 (Int.le_refl 0) (by omega),Int.add_zero];exact hm
     have e3:dh c9 (cut s i (dh c9 s i)) 0=(cut s i (dh c9 s i)).size:=by
      refine nu (by omega) (Int.le_refl _) (fun k g0 g1=>?_) fun h=>by omega
      rw[hb k g0 (by omega)]
      exact iI (p:=c9) (i:=i) (by omega) (by omega) (by omega)
     rw[e1,e2,hw,decide_eq_true e3,decide_eq_true (by omega)];rfl
    ·exfalso
     have h3:(if kL (cut s i (dh c9 s i)) then (1:Int) else 2)=3:=h3
     split at h3<;>omega
  ·unfold iQ at hr
   split at hr
   ·cases hr
   ·have htt:=TR.ok.inj hr
    subst htt
    exact⟨fun h=>absurd h (by show ¬((4:Int)=2);decide),fun h=>absurd h (by show ¬((4:Int)=3);decide)⟩
theorem sL{s:ByteArray}{p:Tok→Prop}(h:∀f t,0≤f→f≤(s.size:Int)→eJ s f=.ok t→p t):∀(n:Nat) (f:Int),0≤f→f≤s.size→(s.size-f).toNat=n→∀t∈(hU s f).1,p t:=by
 intro n
 induction n using Nat.strongRecOn with
 | _ n ih =>
   intro f h0 h1 hn t ht
   rw[fQ h0 h1] at ht
   cases htk:eJ s f with
   | bad e q=>rw[htk] at ht;cases ht
   | ok u =>
     rw[htk] at ht
     simp only at ht
     have hnx:=gO h0 h1 htk
     by_cases hk:u.kind=0
     ·rw[if_pos hk] at ht
      have ht:t∈[u]:=ht
      rw[List.mem_singleton] at ht
      subst ht;exact h f t h0 h1 htk
     ·rw[if_neg hk] at ht
      have:=hnx.2.2 hk
      rcases List.mem_cons.1 ht with ht | ht
      ·subst ht;exact h f t h0 h1 htk
      ·exact ih _ (by omega) _ (by omega) hnx.1 rfl t ht
theorem wY{s:ByteArray}:∀(n:Nat) (f:Int),0≤f→f≤s.size→(s.size-f).toNat=n→∀e p,(hU s f).2=some (e,p)→e≠0∧f≤p∧p≤s.size∧eJ s p=.bad e p:=by
 intro n
 induction n using Nat.strongRecOn with
 | _ n ih =>
   intro f h0 h1 hn e p ht
   rw[fQ h0 h1] at ht
   have ho:=eO h1
   cases htk:eJ s f with
   | bad e' q =>
     rw[htk] at ht
     have ht:some (e',q)=some (e,p):=ht
     cases ht
     rcases fF h0 h1 with ⟨u,hu,_⟩ | ⟨e2,hu,he2⟩
     ·rw[htk] at hu;cases hu
     ·rw[htk] at hu
      cases hu
      refine⟨by omega,ho.1,ho.2, ?_⟩
      rw[jy] at htk ⊢
      by_cases he:da s f=s.size
      ·rw[if_pos he] at htk;cases htk
      ·rw[if_neg he] at htk
       have hlt:da s f<s.size:=by omega
       obtain⟨st1,st2⟩:=pq h1 hlt
       rw[ma hlt st1 st2,if_neg he,htk]
   | ok u =>
     rw[htk] at ht
     simp only at ht
     have hnx:=gO h0 h1 htk
     by_cases hk:u.kind=0
     ·rw[if_pos hk] at ht;cases ht
     ·rw[if_neg hk] at ht
      have:=hnx.2.2 hk
      obtain⟨g1,g2,g3,g4⟩:=ih _ (by omega) _ (by omega) hnx.1 rfl e p ht
      exact⟨g1,by omega,g3,g4⟩
theorem Ae{s:ByteArray}:∀(n:Nat) (f:Int),0≤f→f≤s.size→(s.size-f).toNat=n→(hU s f).2=none→∃t r,(hU s f).1=r++[t]∧t.kind=0:=by
 intro n
 induction n using Nat.strongRecOn with
 | _ n ih =>
   intro f h0 h1 hn ht
   rw[fQ h0 h1] at ht ⊢
   cases htk:eJ s f with
   | bad e' q=>rw[htk] at ht;cases ht
   | ok u =>
     rw[htk] at ht
     simp only at ht ⊢
     have hnx:=gO h0 h1 htk
     by_cases hk:u.kind=0
     ·rw[if_pos hk];exact⟨u,[],rfl,hk⟩
     ·rw[if_neg hk] at ht ⊢
      have:=hnx.2.2 hk
      obtain⟨t,r,g1,g2⟩:=ih _ (by omega) _ (by omega) hnx.1 rfl ht
      exact⟨t,u::r,by show u::(hU s (u.pos+u.text.size)).1=_;rw[g1];rfl,g2⟩
theorem DR(t:ByteArray):tz (de t):=by
 unfold de tz
 split
 ·intro u hu;cases hu
 ·exact sL (fun f u h0 h1 h=>DQ h0 h1 h) _ 0 (Int.le_refl 0) (by omega) rfl
theorem jz{t:ByteArray}(h:(t.size:Int)≤4096):de t=⟨(hU t 0).1,((hU t 0).2.map Prod.fst).getD 0,((hU t 0).2.map Prod.snd).getD 0⟩:=if_neg (by omega)
theorem oV{t:ByteArray}(h:(t.size:Int)≤4096):dN t=⟨0,0,0,false⟩:=by unfold dN;rw[if_neg (by omega)]
theorem ui{t:ByteArray}(h:4096<(t.size:Int)):dN t=⟨0,110,0,true⟩:=by unfold dN;rw[if_pos h]
theorem lG(t:ByteArray):dI t=if ((de t).whole (dN t)).2.over then (⟨⟨#[]⟩,[],[],[]⟩,((de t).whole (dN t)).2.f) else (((de t).whole (dN t)).1,zF):=rfl
theorem BD{c:PC}{f:PF}:Kp c f c.whole:=fun s h=>Kp.lh _ _ ((h.take _).name.take _)
theorem oW{t:ByteArray}(h:4096<(t.size:Int)):dI t=(⟨⟨#[]⟩,[],[],[]⟩,⟨110,0,true⟩):=by
 have ho:(dN t).over=true:=by rw[ui h];rfl
 have hd:=BD _ (jw (c:=de t) ho)
 have hbad:(de t).bad=0:=by unfold de;rw[if_pos h]
 have ho2:((de t).whole (dN t)).2.over=true:=by
  cases ho2:((de t).whole (dN t)).2.over with
  | true=>rfl
  | false=>exact absurd hbad (hd.2 ho2)
 have h1:=hd.1
 unfold PC.fin at h1
 rw[if_pos ho2] at h1
 rw[lG,if_pos ho2,Option.some.inj h1,ui h]
theorem sM{t:ByteArray}(h:(t.size:Int)≤4096):Told (de t) ((de t).whole (dN t)).2:=by
 refine Told.via (dz.whole _) ?_
 rw[oV h]
 have ho:PS.over ⟨0,0,0,false⟩=false:=rfl
 exact⟨fun h=>by (rw[ho] at h;cases h),fun h=>by (rw[ho] at h;cases h),.inl rfl⟩
theorem BE{t:ByteArray}(h:(dI t).2.e=0):(dI t).1.check=0:=by
 by_cases hl:4096<(t.size:Int)
 ·rw[oW hl] at h;exact absurd h (by decide)
 have hl:(t.size:Int)≤4096:=by omega
 have htd:=sM hl
 have hwf:=Cm (DR t) (dN t)
 have hend:∀r:fm×PS,(∃s,r.2=(de t).end s)→r.2.over=false→r.2.next<(de t).l.length∨((de t).bad=0∧(de t).l.length≤r.2.next):=fun r ⟨s,hs⟩ ho=>by
  rw[hs] at ho ⊢
  rw[wP]
  by_cases hn:s.next<(de t).l.length
  ·exact .inl hn
  ·refine .inr ⟨?_,by omega⟩
   unfold PC.end at ho
   split at ho
   ·rename_i h1;rw[h1] at ho;cases ho
   ·rename_i h1
    rw[if_pos (.inl (by omega))] at ho
    unfold PC.cX at ho
    rw[if_neg h1,if_pos (by omega)] at ho
    simpa[PS.over] using ho
 have hex:∃s,((de t).whole (dN t)).2=(de t).end s:=⟨_,rfl⟩
 have hend:=hend _ hex
 rw[lG] at h ⊢
 generalize (de t).whole (dN t)=r at *
 cases ho:r.2.over with
 | true =>
   rw[ho,if_pos rfl] at h
   have h:r.2.f.e=0:=h
   unfold PS.over at ho
   rw[h] at ho;cases ho
 | false =>
   rw[if_neg (by decide)]
   refine hwf ⟨ho, ?_⟩
   rcases hend ho with hn | ⟨hb,hn⟩
   ·exact hn
   ·exfalso
    have hnone:(hU t 0).2=none:=by
     cases hq:(hU t 0).2 with
     | none=>rfl
     | some ep =>
       obtain⟨e,p⟩:=ep
       have:=(wY _ 0 (Int.le_refl 0) (by omega) rfl e p hq).1
       rw[jz hl,hq] at hb
       exact absurd hb this
    obtain⟨u,q,hq,hu⟩:=Ae _ 0 (Int.le_refl 0) (by omega) rfl hnone
    have hll:(de t).l=q++[u]:=by rw[jz hl];exact hq
    have hlen:(de t).l.length=q.length+1:=by rw[hll,List.length_append,List.length_singleton]
    rcases htd.last with h1 | ⟨h1,h2⟩
    ·omega
    ·refine h2 ?_
     unfold PC.tok
     rw[hll,show r.2.next-1=q.length by omega,List.getElem?_append_right (Nat.le_refl _),Nat.sub_self]
     exact hu
theorem wZ{t:ByteArray}(hl:(t.size:Int)≤4096)(h:(dI t).2.e≠0):dI t=(⟨⟨#[]⟩,[],[],[]⟩,((de t).whole (dN t)).2.f)∧0≤(dI t).2.pos∧(dI t).2.pos≤t.size ∧
  (((de t).whole (dN t)).2.next<(de t).l.length∧(dI t).2.pos=((de t).tok ((de t).whole (dN t)).2.next).pos∨∃e,eJ t (dI t).2.pos=.bad e (dI t).2.pos):=by
 have htd:=sM hl
 have htp:=yY (wW t)
 rw[lG] at h ⊢
 generalize (de t).whole (dN t)=r at *
 cases ho:r.2.over with
 | false=>rw[ho,if_neg (by decide)] at h;exact absurd rfl h
 | true =>
   rw[if_pos rfl]
   by_cases hn:r.2.next<(de t).l.length
   ·obtain⟨h1,h2⟩:=htd.here ho hn
    refine⟨rfl, ?_, ?_,.inl ⟨hn,h2⟩⟩
    ·show 0≤r.2.f.pos;rw[h2];exact (htp _).1
    ·show r.2.f.pos≤_;rw[h2];exact (htp _).2
   ·obtain⟨h1,h2,h3⟩:=htd.bad ho (by omega)
    rw[ho,if_pos rfl] at h
    have h:r.2.f.e≠0:=h
    rw[h2,jz hl] at h
    cases hq:(hU t 0).2 with
    | none=>rw[hq] at h;exact absurd rfl h
    | some ep =>
      obtain⟨e,p⟩:=ep
      obtain⟨g1,g2,g3,g4⟩:=wY _ 0 (Int.le_refl 0) (by omega) rfl e p hq
      have hp:r.2.f.pos=p:=by rw[h3,jz hl,hq];rfl
      exact⟨rfl,by show 0≤r.2.f.pos;omega,by show r.2.f.pos≤_;omega,.inr ⟨e,by show eJ t r.2.f.pos=.bad e r.2.f.pos;rw[hp];exact g4⟩⟩
structure Alike (s z:ByteArray) (E:Int):Prop where
 le:E≤(s.size:Int)
 lt:E<(z.size:Int)
 same:∀k,0≤k→k<E→bt z k=bt s k
 nl:bt z E=10
theorem uj{s z:ByteArray}{E:Int}(h:Alike s z E):∀(n:Nat) (r:Bool) (f:Int),0≤f→f≤s.size→(s.size-f).toNat=n→fT s r f<E→fT z r f=fT s r f:=by
 have hs:=h.le
 have hz:=h.lt
 intro n
 induction n with
 | zero =>
   intro r f h0 h1 hn hl
   rw[gz (by omega)] at hl;omega
 | succ n ih =>
   intro r f h0 h1 hn hl
   have hge:=sm s (s.size-f).toNat r f
   have hf:f<E:=by unfold fT at hl;omega
   have hb:=h.same f h0 hf
   have st:=eb (s:=s) (r:=r) (i:=f) (by omega)
   have st':=eb (s:=z) (r:=r) (i:=f) (by omega)
   rw[hb] at st'
   rw[st] at hl ⊢
   rw[st']
   split
   ·rfl
   ·rename_i hc
    rw[if_neg hc] at hl
    exact ih _ (f+1) (by omega) (by omega) (by omega) hl
theorem Af{s:ByteArray}{f:Int}(h1:f≤s.size):da s (da s f)=da s f:=by
 have ho:=eO h1
 by_cases he:da s f=s.size
 ·rw[he];unfold da;rw[gz (Int.le_refl _)]
 ·have hlt:da s f<s.size:=by omega
  obtain⟨a,b⟩:=pq h1 hlt
  exact ma hlt a b
theorem BF{s:ByteArray}{f:Int}(h0:0≤f)(h1:f≤s.size){t:Tok}(h:eJ s f=.ok t):eJ s t.pos=.ok t:=by
 have hp:=(lE h0 h1 h).1
 rw[jy] at h ⊢
 rw[hp,Af h1];exact h
theorem w6{s z:ByteArray}{E:Int}(h:Alike s z E){p:Int→Bool}{i:Int}(h0:0≤i)(hi:i≤s.size)(hr:dh p s i<E):dh p z i=dh p s i:=by
 have hs:=h.le
 have hz:=h.lt
 have hE:=dU (p:=p) hi
 refine nu hE.1 (by omega) (fun k g0 g1=>?_) fun hl=>?_
 ·rw[h.same k (by omega) (by omega)];exact iI g0 g1 hi
 ·rw[h.same _ (by omega) hr];exact fe hi (by omega)
theorem uk{s z:ByteArray}{E:Int}(h:Alike s z E){i:Int}(h0:0≤i)(hi:i<E):cW z i=cW s i:=by
 have hs:=h.le
 have hz:=h.lt
 unfold cW;rw[if_pos (by omega),if_pos (by omega),h.same i h0 hi]
theorem sN{s z:ByteArray}{E:Int}(h:Alike s z E){i e:Int}(h0:0≤i)(h1:i≤e)(h2:e≤E):cut z i e=cut s i e:=by
 have hs:=h.le
 have hz:=h.lt
 have hc:=nv (s:=s) (s':=z) (i:=i) (i':=i) (n:=e-i) h0 h0 (by omega) (by omega) (by omega) fun k g0 g1=>h.same _ (by omega) (by omega)
 rwa [show i+(e-i)=e by omega] at hc
theorem Ag{s z:ByteArray}{E:Int}(h:Alike s z E){i:Int}{t:Tok}(h0:0≤i)(hi:i<E)(ht:kr s i=.ok t)(he:i+t.text.size<E):kr z i=.ok t:=by
 have hs:=h.le
 have hz:=h.lt
 have hb0:bt z i=bt s i:=h.same i h0 hi
 rw[←ht]
 unfold kr at ht ⊢
 rw[hb0]
 by_cases hd:db (bt s i)=true
 ·rw[if_pos hd] at ht
  rw[if_pos hd,if_pos hd]
  obtain⟨D,e2,hD,he2,hc,htt⟩:=qY ht
  have hEb:=dU (p:=db) (s:=s) (i:=i) (by omega)
  rw[←hD] at hEb
  have htE:dE (cW s D)≠1→D<s.size:=fun hne=>by
   rcases Int.lt_or_le D s.size with h | h
   ·exact h
   ·rw[show cW s D=0 by unfold cW;rw[if_neg (by omega)]] at hne;exact absurd rfl hne
  have he2b:D≤e2∧e2≤s.size:=by
   rw[he2];split
   ·omega
   ·rename_i h;have:=htE h;omega
  have hn:(t.text.size:Int)=e2-i:=by rw[htt];exact eD h0 (by omega) he2b.2
  have hr:dh db z i=D:=by rw[w6 h h0 (by omega) (by omega),hD]
  have hv:dS z i 0=dS s i 0:=by
   refine my (E:=D) hEb.1 hEb.2 (by omega) (fun k g0 g1=>h.same _ (by omega) (by omega)) (fun k g0 g1=>iI g0 (by omega) (by omega)) (fun hl=>by rw[hD] at hl ⊢;exact fe (by omega) hl) (fun hl=>?_) 0
   rw[show i+(D-i)=D by omega,h.same _ (by omega) (by omega),hD];exact fe (by omega) (by omega)
  have hby:=uk h (i:=D) (by omega) (by omega)
  have hcc:(e2<z.size∧(c9 (bt z e2)=true∨(65≤bt z e2∧bt z e2≤90)))↔(e2<s.size∧(c9 (bt s e2)=true∨(65≤bt s e2∧bt s e2≤90))):=by
   rw[h.same e2 (by omega) (by omega)]
   exact⟨fun x=>⟨by omega,x.2⟩,fun x=>⟨by omega,x.2⟩⟩
  unfold js
  simp only[hr,←hD,hby,←he2,hv,hb0,sN h h0 (by omega:i≤e2) (by omega)]
  exact yX (or_congr Iff.rfl (or_congr Iff.rfl hcc)) _ _
 ·rw[if_neg hd] at ht
  rw[if_neg hd,if_neg hd]
  by_cases hm:fj (bt s i)=true
  ·rw[if_pos hm] at ht
   rw[if_pos hm,if_pos hm]
   have hEb:=dU (p:=c9) (s:=s) (i:=i) (by omega)
   have hr:dh c9 s i<E:=by
    unfold iP at ht
    simp only at ht
    split at ht
    ·cases ht
    ·have htt:=TR.ok.inj ht
     have hn:(t.text.size:Int)=dh c9 s i-i:=by rw[←htt];exact eD h0 hEb.1 hEb.2
     omega
   unfold iP
   simp only[w6 h h0 (by omega) hr,sN h h0 hEb.1 (by omega)]
  ·rw[if_neg hm] at ht
   rw[if_neg hm,if_neg hm]
   have hrg:=iH s i
   have hl:=lz (s:=s) (i:=i) (by omega)
   have hsz:0<dP s i∧(t.text.size:Int)=dP s i:=by
    unfold iQ at ht
    split at ht
    ·cases ht
    ·have htt:=TR.ok.inj ht
     have hc:=eD h0 (by omega:i≤i+dP s i) hl
     refine⟨by omega, ?_⟩
     rw[←htt]
     show ((cut s i (i+dP s i)).size:Int)=_
     omega
   have hmk:dP z i=dP s i:=by
    unfold dP;rw[hb0,uk h (i:=i+1) (by omega) (by omega)]
   unfold iQ
   rw[hmk,sN h h0 (by omega) (by omega)]
theorem BG{s z:ByteArray}{E:Int}(h:Alike s z E){f:Int}{t:Tok}(h0:0≤f)(h1:f≤s.size)(ht:eJ s f=.ok t)(hk:t.kind≠0)(he:t.pos+t.text.size<E):eJ z f=.ok t:=by
 have hz:=h.lt
 have hs:=h.le
 obtain⟨hlt,hr⟩:=sG h0 h1 ht hk
 have hp:=(lE h0 h1 ht).1
 have ho:=eO h1
 have hov:da z f=da s f:=uj h _ false f h0 h1 rfl (by have:fT s false f=da s f:=rfl;omega)
 rw[jy,hov,if_neg (by omega)]
 exact Ag h (by omega) (by omega) hr (by omega)
theorem BH{s z:ByteArray}{E:Int}(h:Alike s z E){f:Int}{t:Tok}(h0:0≤f)(h1:f≤s.size)(ht:eJ s f=.ok t)(hk:t.kind≠0)(he:t.pos+t.text.size=E):eJ z f=.ok t:=by
 have hz:=h.lt
 have hs:=h.le
 obtain⟨hlt,hr⟩:=sG h0 h1 ht hk
 have hsh:=lE h0 h1 ht
 have hp:=hsh.1
 have hsz:0<t.text.size:=by
  rcases hsh.2.2.2 with ⟨h,_⟩ | ⟨_,_,h⟩
  ·exact absurd h hk
  ·exact h
 have ho:=eO h1
 have hov:da z f=da s f:=uj h _ false f h0 h1 rfl (by have:fT s false f=da s f:=rfl;omega)
 rw[jy,hov,if_neg (by omega)]
 have:=z9 (s':=z) (i':=da s f) (by omega) hlt (by omega) hr (by omega) (fun k g0 g1=>h.same _ (by omega) (by omega)) (fun _=>by rw[show da s f+(t.text.size:Int)=E by omega,h.nl];rfl)
 rw[this,←hp]
theorem Cw{s:ByteArray}:∀(n:Nat) (f:Int),0≤f→f≤s.size→(s.size-f).toNat=n→∀t∈(hU s f).1,f≤t.pos:=by
 intro n
 induction n using Nat.strongRecOn with
 | _ n ih =>
   intro f h0 h1 hn t ht
   rw[fQ h0 h1] at ht
   cases htk:eJ s f with
   | bad e q=>rw[htk] at ht;cases ht
   | ok u =>
     rw[htk] at ht
     simp only at ht
     have hnx:=gO h0 h1 htk
     by_cases hk:u.kind=0
     ·rw[if_pos hk] at ht
      have ht:t∈[u]:=ht
      rw[List.mem_singleton] at ht
      subst ht;exact hnx.2.1
     ·rw[if_neg hk] at ht
      have:=hnx.2.2 hk
      rcases List.mem_cons.1 ht with ht | ht
      ·subst ht;exact hnx.2.1
      ·have:=ih _ (by omega) _ (by omega) hnx.1 rfl t ht
       omega
theorem w7{s z:ByteArray}{E:Int}(h:Alike s z E):∀(K:Nat) (f:Int) (t:Tok),0≤f→f≤s.size→(hU s f).1[K]? = some t→t.kind≠0→t.pos+t.text.size=E→∀i,i≤K→(hU z f).1[i]? = (hU s f).1[i]?
 | K,f,t,h0,h1,ht,hk,he,i,hi=>by
   have hz:=h.lt
   have hs:=h.le
   rw[fQ h0 h1] at ht
   cases htk:eJ s f with
   | bad e q=>rw[htk] at ht;simp at ht
   | ok u =>
     rw[htk] at ht
     simp only at ht
     have hnx:=gO h0 h1 htk
     cases K with
     | zero =>
       have hut:u=t:=by
        split at ht
        ·simpa using ht
        ·simpa using ht
       subst hut
       obtain rfl:i=0:=by omega
       have hz2:=BH h h0 h1 htk hk he
       rw[fQ h0 h1,htk,fQ h0 (by omega),hz2]
       simp only[if_neg hk,List.getElem?_cons_zero]
     | succ K =>
       by_cases huk:u.kind=0
       ·rw[if_pos huk] at ht;simp at ht
       ·rw[if_neg huk] at ht
        have ht:(hU s (u.pos+u.text.size)).1[K]? = some t:=by simpa using ht
        have hf:=hnx.2.2 huk
        have hge:=Cw _ _ (by omega) hnx.1 rfl t (List.mem_of_getElem? ht)
        have hts:0<t.text.size:=by
         have:=sL (s:=s) (p:=fun t=>t.kind≠0→0<t.text.size) (fun f t h0 h1 ht hk=>by
          rcases (lE h0 h1 ht).2.2.2 with ⟨h,_⟩ | ⟨_,_,h⟩
          ·exact absurd h hk
          ·exact h) _ _ (by omega) hnx.1 rfl t (List.mem_of_getElem? ht)
         exact this hk
        have hz2:=BG h h0 h1 htk huk (by omega)
        rw[fQ h0 h1,htk,fQ h0 (by omega),hz2]
        simp only[if_neg huk]
        cases i with
        | zero=>simp
        | succ i =>
          simp only[List.getElem?_cons_succ]
          exact w7 h K _ t (by omega) hnx.1 ht hk he i (by omega)
theorem ED:∀{f f':PF},f'.e=f.e→f'.tok=f.tok→f.pos=f'.pos→f'=f
 | ⟨_,_,_⟩,⟨_,_,_⟩,rfl,rfl,rfl=>rfl
theorem ye{s z:ByteArray}{t:Tok}{E:Int}(hs:(s.size:Int)≤4096)(hz:(z.size:Int)≤4096)(h:(dI s).2.e≠0)(ht:eJ s (dI s).2.pos=.ok t)(hk:t.kind≠0)(hE:t.pos+t.text.size=E)(hA:Alike s z E):dI z=(⟨⟨#[]⟩,[],[],[]⟩,(dI s).2):=by
 obtain⟨h1,h2,h3,h4⟩:=wZ hs h
 rcases h4 with ⟨hn,hp⟩ | ⟨e,hb⟩
 ·have hll:(de s).l=(hU s 0).1:=by rw[jz hs]
  have hlz:(de z).l=(hU z 0).1:=by rw[jz hz]
  have ho:((de s).whole (dN s)).2.over=true:=by
   rw[lG] at h
   cases ho:((de s).whole (dN s)).2.over with
   | true=>rfl
   | false=>rw[ho,if_neg (by decide)] at h;exact absurd rfl h
  have hgd0:∀r:fm×PS,(de s).whole (dN s)=r→r.2.next<(de s).l.length→(dI s).2.pos=((de s).tok r.2.next).pos→dI s=(⟨⟨#[]⟩,[],[],[]⟩,r.2.f)→r.2.over=true→dI z=(⟨⟨#[]⟩,[],[],[]⟩,(dI s).2):=by
   intro r hr hn hp h1 ho
   have hK:(de s).l[r.2.next]? = some ((de s).tok r.2.next):=by
    unfold PC.tok
    rw[List.getElem?_eq_getElem hn];rfl
   have hself:=sL (s:=s) (p:=fun u=>eJ s u.pos=.ok u) (fun f u h0 h1 hu=>BF h0 h1 hu) _ 0 (Int.le_refl 0) (by omega) rfl _ (by rw[←hll];exact List.mem_of_getElem? hK)
   rw[←hp,ht] at hself
   have hut:=TR.ok.inj hself
   rw[←hut] at hK
   have hcut:=w7 hA r.2.next 0 t (Int.le_refl 0) (by omega) (by rw[←hll];exact hK) hk hE
   rw[←hll,←hlz] at hcut
   have hlen:∀i,i≤r.2.next→i<(de s).l.length∧i<(de z).l.length∧(de z).tok i=(de s).tok i:=fun i hi=>by
    have hi1:i<(de s).l.length:=by omega
    have h5:=hcut i hi
    refine⟨hi1, ?_,by unfold PC.tok;rw[h5]⟩
    rw[List.getElem?_eq_getElem hi1] at h5
    exact (List.getElem?_eq_some_iff.1 h5).1
   have hok:c7.Ok ⟨de s,de z,0,0,r.2.next,false,Eq⟩:=by
    refine⟨Int.le_refl 0,fun i hi=>?_,fun i hi hl=>?_,fun h=>by (cases h),.inl hn⟩
    ·exact⟨fun _=>(hlen i hi).2.1,fun _=>(hlen i hi).1⟩
    ·have:=(hlen i hi).2.2
     have h6:(de z).tok (i+0)=(de s).tok i:=this
     exact⟨.inl (by show ((de z).tok (i+0)).kind=_∧_;rw[h6];exact⟨rfl,rfl,rfl,rfl⟩),by show _=((de z).tok (i+0)).pos;rw[h6]⟩
   have hrs:c7.Rs ⟨de s,de z,0,0,r.2.next,false,Eq⟩ (dN s) (dN z):=by
    rw[oV hs,oV hz]
    exact⟨rfl,rfl,rfl,fun _=>rfl⟩
   obtain⟨⟨_,g1,g2,g3⟩,_⟩:=c7.whole hok rfl rfl (dN s) (dN z) hrs (by rw[show c7.c ⟨de s,de z,0,0,r.2.next,false,Eq⟩=de s from rfl,hr];exact⟨Nat.le_refl _,fun h=>by cases h⟩)
   have g1:((de z).whole (dN z)).2.f.e=((de s).whole (dN s)).2.f.e:=g1
   have g2:((de z).whole (dN z)).2.f.tok=((de s).whole (dN s)).2.f.tok:=g2
   have g3:((de s).whole (dN s)).2.f.e≠0→((de s).whole (dN s)).2.f.pos=((de z).whole (dN z)).2.f.pos:=g3
   rw[hr] at g1 g2 g3
   have hne:r.2.f.e≠0:=fun h=>by unfold PS.over at ho;rw[h] at ho;cases ho
   have ho2:((de z).whole (dN z)).2.over=true:=by
    unfold PS.over at ho ⊢;rw[g1];exact ho
   have hf:((de z).whole (dN z)).2.f=r.2.f:=ED g1 g2 (g3 hne)
   rw[lG z,if_pos ho2,hf,h1]
  exact hgd0 _ rfl hn hp h1 ho
 ·rw[ht] at hb;cases hb
theorem nz{x y:ByteArray}{k:Int}(h0:0≤k)(h:k<x.size):bt (x++y) k=bt x k:=by
 obtain⟨n,rfl⟩:∃n:Nat,k=n:=⟨k.toNat,by omega⟩
 have hx:n<x.size:=by omega
 have hxy:n<(x++y).size:=by rw[ByteArray.size_append];omega
 rw[qf hxy,qf hx]
 have:(x++y).data=x.data++y.data:=ByteArray.data_append
 simp only[this]
 rw[Array.getElem_append_left (by exact hx)]
theorem va{x y:ByteArray}{k:Int}(h0:0≤k)(h:k<y.size):bt (x++y) (x.size+k)=bt y k:=by
 obtain⟨n,rfl⟩:∃n:Nat,k=n:=⟨k.toNat,by omega⟩
 have hy:n<y.size:=by omega
 have hxy:x.size+n<(x++y).size:=by rw[ByteArray.size_append];omega
 rw[show (x.size:Int)+(n:Int)=((x.size+n:Nat):Int) by omega,qf hxy,qf hy]
 have:(x++y).data=x.data++y.data:=ByteArray.data_append
 simp only[this]
 rw[Array.getElem_append_right (by show x.data.size≤x.size+n;exact Nat.le_add_right _ _)]
 have hh:x.size+n-x.data.size=n:=Nat.add_sub_cancel_left x.size n
 simp only[hh]
theorem lH{α:Type}{f:α→Int}{M:Int}:∀{l:List α},(∀x∈l,f x≤M)→ji f l≤M*l.length
 | [],_=>by rw[ji];simp
 | x::r,h=>by
   have h1:=lH fun y hy=>h y (List.Mem.tail _ hy)
   have h2:=h x (.head _)
   rw[ji,List.length_cons,Int.natCast_add,Int.mul_add]
   omega
theorem pM{n m:Nat}{M:Int}(h:n≤m)(h0:0≤M):M*(n:Int)≤M*(m:Int):=Int.mul_le_mul_of_nonneg_left (by omega) h0
theorem fm.In.fK{B:Int}{s:fm}(h:s.In B 20000):s.fK≤100000000:=by
 have h1:=pM (M:=20001) h.rl (by decide)
 have h2:=h.sl
 have h3:=pM (M:=7920181) h.tl (by decide)
 have g1:ji eg.fK s.regs≤20001*s.regs.length:=lH fun r hr=>by
  have:=(h.rr r hr).2.1
  show 1+r.init.size≤_
  omega
 have g3:ji dt.fK s.states≤7920181*s.states.length:=lH fun x hx=>by
  obtain⟨_,g2,g3⟩:=h.tt x hx
  have k:=pM (M:=660015) g2 (by decide)
  have:ji ej.fK x.rules≤660015*x.rules.length:=lH fun r hr=>by
   obtain⟨_,k1,k2,k3⟩:=g3 r hr
   have j:=pM (M:=80001) k2 (by decide)
   have:ji fA.fK r.dos≤80001*r.dos.length:=lH fun d hd=>by
    obtain⟨_,d1,d2,d3,d4⟩:=k3 d hd
    have e1:=d1.1
    have e2:=d2.1
    have e3:=d3.1
    have e4:=d4.1
    show 1+d.side.size+d.qty.size+d.price.size+d.value.size≤_
    omega
   have e1:=k1.1
   show 1+r.when.size+ji fA.fK r.dos≤_
   omega
  show 1+ji ej.fK x.rules≤_
  omega
 unfold fm.fK
 omega
end Go.Lx
namespace Go.Vc
open Go.ChangeShapes Go.WideShapes Go.ChangeAt Go.RowKit
def cS.all(w:World):cS:=⟨fun b=>w.heap[b]?,w.os,w.output⟩
theorem Sat.all(w:World):Sat (cS.all w) [] w:=⟨fun _ _ h=>h,fun _ _ h=>by simp at h,fun _ _ h=>by simp at h,List.nodup_nil,rfl,rfl⟩
structure kX (w w':World):Prop where
 heap:∀i,i<w.heap.size→w'.heap[i]? = w.heap[i]?
 os:w'.os=w.os
 out:w'.output=w.output
theorem kX.of{w w':World}{I:cS}{F:cR}(hl:cS.le (cS.all w) I)(hs:Sat I F w'):kX w w':=by
 refine⟨fun i hi=>?_,hs.env.1.trans hl.2.1,hs.env.2.trans hl.2.2⟩
 obtain⟨o,ho⟩:∃o,w.heap[i]? = some o:=⟨_,Array.getElem?_eq_getElem hi⟩
 rw[ho]
 exact hs.imm _ _ (hl.1 i o ho)
theorem kX.kept{w w':World}(h:kX w w')(may:MemPlace→Prop):w.keptBut w' may:=by
 refine⟨h.os,h.out,fun i hi=>?_⟩
 rw[h.heap i hi]
 cases w.heap[i]? with
 | none=>rfl
 | some o=>cases o with
   | cells c t fr=>exact⟨rfl,rfl,rfl,fun _ _=>rfl⟩
   | map es clock=>exact .inr ⟨rfl,rfl⟩
   | _=>rfl
theorem kX.frozen{w w':World}(h:kX w w'){a:Addr}(ha:a.block<w.heap.size):w'.frozen? a=w.frozen? a:=by
 unfold World.frozen?;rw[h.heap _ ha]
theorem yf{H:Type}{enc:TypeId×Value→H}{P:Program}{f:Func}{s:ChangeSpec}{apart fresh handsOn again:Bool}{W W':World}{args:Array Value}{v:Value}{ds gs:List (DataW H)}{before pa pv:List MemPlace}
  (hW:DataW.Whole enc P f.params.toList s.vars apart W args.toList ds gs before)
  (hres:∀(b:Nat) (sp:Nat→Bool) (hd:Bool),DataW.TrodAll enc P W' b sp hd f.resultTypes.toList (v.resultList f.resultTypes.size) (s.fn H (ds++gs)).results [])
  (hargs:∀sp:Nat→Bool,(∀p∈before,sp p.block=true)→DataW.TrodAll enc P W' 0 sp true f.params.toList args.toList (s.fn H (ds++gs)).args pa)
  (hvars:∀sp:Nat→Bool,(∀p∈before,sp p.block=true)→DataW.TrodVars enc P W' sp s.vars (s.fn H (ds++gs)).vars pv)
  (hps:before=pa++pv) (hk:kX W W')
  (hok:∀(j:Nat) (t:TypeId) (r:Value),f.resultTypes[j]? = some t→(v.resultList f.resultTypes.size)[j]? = some r→Value.okWide P W' .any 0 t r) :
  s.post enc P f apart fresh handsOn again W args v W':=by
 have hold:∀p∈before,(fun b=>decide (b<W.heap.size)) p.block=true:=fun p hp=>by simpa using hW.lt p hp
 have hlt:∀p∈before,p.block<W.heap.size:=fun p hp=>hW.lt p hp
 refine⟨ds,gs,before,[],pa,pv,hW,hres _ _ _,hargs _ hold,hvars _ hold,World.keptBut_mono (fun p hp=>⟨hp, ?_⟩) (hk.kept (·∈before)),fun _=>?_⟩
 ·rw[hps,List.mem_append] at hp
  exact Or.inr hp
 ·obtain⟨_,_,_,_,_,hz,hn⟩:=hW
  refine⟨hok,_,_,([]++pa)++pv,⟨[]++pa,pv,trodAll_append (hargs _ (fun _ _=>rfl)) (hres _ _ _),hvars _ (fun _ _=>rfl),rfl, ?_, ?_⟩, ?_⟩
  ·intro b off hp
   have hp':MemPlace.cell b off∈before:=by rw[hps];simpa using hp
   rw[hk.frozen (hlt _ hp')]
   exact hz b off hp'
  ·intro ha
   have:=hn ha
   rw[hps] at this
   simpa using this
  ·intro p hp _
   rw[hps]
   simpa using hp
end Go.Vc
namespace Go.Lx
open Go.Vc
end Go.Lx
namespace Go.Vc
section
variable {P:Program} {f:FuncId} {args:Array Value} {I:cS} {F:cR} {R:Value→cS→Prop}
end
def nA(P:Program)(t:TypeId):Bool:=match P.underlying t with
 | some (.interface _)=>true
 | _=>false
theorem nW{P:Program}{t:TypeId}(h:nA P t=true):∃ms,P.underlying t=some (.interface ms):=by
 unfold nA at h
 split at h
 ·rename_i ht;exact⟨_,ht⟩
 ·cases h
theorem Cx{P:Program}{t:TypeId}(h:nA P t=true){x:Operand}:eU P .neq t x (.const .nilIface) .nilIface .nilIface false:=by
 obtain⟨ms,ht⟩:=nW h
 intro w
 have he:(Op.equal t .nilIface .nilIface).run P w=.ok true w:=by
  show (Op.equalIn (9999+1) t .nilIface .nilIface).run P w=_
  unfold Op.equalIn
  simp[Sem.run_bind,dF ht]
 simp[eqGuard,binOp,Sem.run_bind,he]
theorem w9{P:Program}{t:TypeId}(h:nA P t=true){x:Operand}{d:TypeId}{v:Value}:eU P .neq t x (.const .nilIface) (.iface d v) .nilIface true:=by
 obtain⟨ms,ht⟩:=nW h
 intro w
 have he:(Op.equal t (.iface d v) .nilIface).run P w=.ok false w:=by
  show (Op.equalIn (9999+1) t (.iface d v) .nilIface).run P w=_
  unfold Op.equalIn
  simp[Sem.run_bind,dF ht]
 simp[eqGuard,binOp,Sem.run_bind,he]
theorem pN{P:Program}{t:TypeId}(h:nA P t=true){x:Operand}:eU P .eql t x (.const .nilIface) .nilIface .nilIface true:=by
 obtain⟨ms,ht⟩:=nW h
 intro w
 have he:(Op.equal t .nilIface .nilIface).run P w=.ok true w:=by
  show (Op.equalIn (9999+1) t .nilIface .nilIface).run P w=_
  unfold Op.equalIn
  simp[Sem.run_bind,dF ht]
 simp[eqGuard,binOp,Sem.run_bind,he]
theorem qj{P:Program}{t:TypeId}(h:nA P t=true){x:Operand}{d:TypeId}{v:Value}:eU P .eql t x (.const .nilIface) (.iface d v) .nilIface false:=by
 obtain⟨ms,ht⟩:=nW h
 intro w
 have he:(Op.equal t (.iface d v) .nilIface).run P w=.ok false w:=by
  show (Op.equalIn (9999+1) t (.iface d v) .nilIface).run P w=_
  unfold Op.equalIn
  simp[Sem.run_bind,dF ht]
 simp[eqGuard,binOp,Sem.run_bind,he]
end Go.Vc
namespace Go.Lx
open Go.Vc
def BI:ByteArray:=⟨#[79,102]⟩
def um:ByteArray:=⟨#[67,104,101,99,107]⟩
abbrev oq(e:Int):Value:=.iface 48 (.int .i64 e)
def xa(I:cS)(call:ByteArray)(pos:Int)(err v:Value):Prop:=∃b,v=.iface 97 (.pointer (some ⟨b,0,none⟩))∧I b=some (.cells #[.string call,.int .i64 pos,err] 101 (0,0))
theorem xa.mono{I J:cS}{call:ByteArray}{pos:Int}{err v:Value}(h:xa I call pos err v)(hl:cS.le I J):xa J call pos err v:=let ⟨b,h1,h2⟩:=h;⟨b,h1,hl.at h2⟩
def EE(I:cS)(f:TF)(w:Value):Prop:=(f.e=0→w=.nilIface)∧(f.e≠0→xa I BI f.pos (oq f.e) w)
theorem EE.mono{I J:cS}{f:TF}{w:Value}(h:EE I f w)(hl:cS.le I J):EE J f w:=⟨h.1,fun he=>(h.2 he).mono hl⟩
theorem EE.ok{I:cS}:EE I Gb .nilIface:=⟨fun _=>rfl,fun h=>absurd rfl h⟩
theorem EF(b n:Nat):(⟨b,0,none⟩:Addr).add n=⟨b,n,none⟩:=by unfold Addr.add;split<;>simp_all
end Go.Lx
namespace Go.As
open Go.RowKit Go.Extern.Stop Go.Stop Go.Extern
theorem Fe(z:Sem Value)(f:TypeId→Addr→Nat→Nat→Sem Value)(v:Value) :
  ReflectliteValue.method z f #[v]=(do match ←ReflectliteValue.parts v with | none=>z | some (t,a,fl)=>f t a fl (fl % 32)):=rfl
theorem Gc(v x:Value):ReflectliteValue.set #[v,x]=(do
  let (some (dst,a,fl),some (src,b,_)):=(←ReflectliteValue.parts v,←ReflectliteValue.parts x)
   | unsupported (.noEntry "extern/(internal/reflectlite.Value).Set.zeroValue")
  if fl / ReflectliteValue.flagAddr % 2==0 then unsupported (.noEntry "extern/(internal/reflectlite.Value).Set.unaddressable")
  let val ←loadVar src b
  if ←Rtype.directlyAssignable dst src then storeVar dst a val
  else if ←Rtype.implements dst src then
   if (←Rtype.kind src)==20 then
    match val with
    | .nilIface=>unsupported (.noEntry "extern/reflectlite: a nil value of one interface type handed on as a value of another")
    | _=>storeVar dst a val
   else storeVar dst a (.iface src val)
  else panicString ("reflectlite.Set: value of type " ++ (←Rtype.spelt src) ++ " is not assignable to type " ++ (←Rtype.spelt dst))
  pure (.tuple #[])):=rfl
theorem sO(h:Value)(w:World):(Go.method 368 196 (.agg #[h]) "Kind").run Go.Proofs.Tryz.prog w=.ok (176,h) w:=by kernel_rfl
theorem sP(h:Value)(w:World):(Go.method 368 196 (.agg #[h]) "Elem").run Go.Proofs.Tryz.prog w=.ok (188,.agg #[h]) w:=by kernel_rfl
theorem lI(h:Value)(w:World):(Go.method 368 196 (.agg #[h]) "Implements").run Go.Proofs.Tryz.prog w=.ok (189,.agg #[h]) w:=by kernel_rfl
theorem gb(h:Value)(w:World):(Go.method 368 196 (.agg #[h]) "AssignableTo").run Go.Proofs.Tryz.prog w=.ok (186,.agg #[h]) w:=by kernel_rfl
theorem BJ(t:Addr)(w:World):(ReflectliteValue.unpack (.iface 99 (.pointer (some t)))).run Go.Proofs.Tryz.prog w=.ok (.agg #[.pointer (some ⟨1,99,none⟩),.pointer (some ⟨w.heap.size,0,none⟩),.int .u64 150]) (w.alloc (.cells #[.pointer (some t)] 99)):=by kernel_rfl
theorem EG(a:Addr)(w:World):(ReflectliteValue.methodAny (ReflectliteValue.valueError "reflectlite.Value.Type" 0) (fun t _ _ _=>ReflectliteType.toType t) #[(.agg #[.pointer (some ⟨1,99,none⟩),.pointer (some a),.int .u64 150])]).run Go.Proofs.Tryz.prog w=.ok (.iface 196 (.agg #[.pointer (some ⟨1,99,none⟩)])) w:=by kernel_rfl
theorem DS(w:World):((ReflectliteType.abiMethod fun t=>(fun a:Nat=>Value.int IntKind.u8 (a:Int)) <$> Rtype.kind t) #[.pointer (some ⟨1,99,none⟩)]).run Go.Proofs.Tryz.prog w=.ok (.int .u8 22) w:=by kernel_rfl
theorem EH(w:World):((ReflectliteType.abiMethod fun t=>(fun a:Nat=>Value.int IntKind.u8 (a:Int)) <$> Rtype.kind t) #[.pointer (some ⟨1,97,none⟩)]).run Go.Proofs.Tryz.prog w=.ok (.int .u8 22) w:=by kernel_rfl
theorem ze(a:Addr)(w:World):(ReflectliteValue.parts (.agg #[.pointer (some ⟨1,99,none⟩),.pointer (some a),.int .u64 150])).run Go.Proofs.Tryz.prog w=.ok (some (99,a,150)) w:=by kernel_rfl
theorem zf:Go.Proofs.Tryz.prog.underlying 99=some (.pointer 97):=by kernel_rfl
theorem DT(a p:Addr)(W:World)(ha:W.cell? a=some (.pointer (some p))) :
  (ReflectliteValue.method (ReflectliteValue.valueError "reflectlite.Value.IsNil" 0) ReflectliteValue.isNil #[(.agg #[.pointer (some ⟨1,99,none⟩),.pointer (some a),.int .u64 150])]).run Go.Proofs.Tryz.prog W=.ok (.bool false) W:=by
 rw[Fe]
 simp only[Sem.run_bind,ze,Result.andThen]
 simp[ReflectliteValue.isNil,loadVar,isAgg,underlying,zf,ha,Result.andThen]
theorem EI(w:World):(ReflectliteType.method ReflectliteType.elem #[.agg #[.pointer (some ⟨1,99,none⟩)]]).run Go.Proofs.Tryz.prog w=.ok (.iface 196 (.agg #[.pointer (some ⟨1,97,none⟩)])) w:=by kernel_rfl
theorem EJ(w:World):(ReflectliteType.relation "Implements" ReflectliteType.implements_ #[.agg #[.pointer (some ⟨1,97,none⟩)],.iface 196 (.agg #[.pointer (some ⟨1,45,none⟩)])]).run Go.Proofs.Tryz.prog w=.ok (.bool true) w:=by kernel_rfl
theorem vd(v:Value)(w:World):(ReflectliteType.typeOf #[.iface 97 v]).run Go.Proofs.Tryz.prog w=.ok (.iface 196 (.agg #[.pointer (some ⟨1,97,none⟩)])) w:=by kernel_rfl
theorem Cy(w:World):(Rtype.elem? 99).run Go.Proofs.Tryz.prog w=.ok (some 97) w:=by kernel_rfl
theorem Gi(p:Addr)(w:World):(ReflectliteValue.mk 97 p ReflectliteValue.flagAddr).run Go.Proofs.Tryz.prog w=.ok (.agg #[.pointer (some ⟨1,97,none⟩),.pointer (some p),.int .u64 406]) w:=by kernel_rfl
theorem DU(a p:Addr)(W:World)(ha:W.cell? a=some (.pointer (some p))) :
  (ReflectliteValue.method (ReflectliteValue.valueError "reflectlite.Value.Elem" 0) ReflectliteValue.elem #[(.agg #[.pointer (some ⟨1,99,none⟩),.pointer (some a),.int .u64 150])]).run Go.Proofs.Tryz.prog W=.ok (.agg #[.pointer (some ⟨1,97,none⟩),.pointer (some p),.int .u64 406]) W:=by
 rw[Fe]
 simp only[Sem.run_bind,ze,Result.andThen]
 simp[ReflectliteValue.elem,loadVar,isAgg,underlying,zf,ha,Result.andThen,Cy,Gi]
theorem Cz(a:Addr)(w:World):(ReflectliteValue.parts (.agg #[.pointer (some ⟨1,97,none⟩),.pointer (some a),.int .u64 406])).run Go.Proofs.Tryz.prog w=.ok (some (97,a,406)) w:=by kernel_rfl
theorem DV(a:Addr)(w:World):(ReflectliteValue.parts (.agg #[.pointer (some ⟨1,97,none⟩),.pointer (some a),.int .u64 150])).run Go.Proofs.Tryz.prog w=.ok (some (97,a,150)) w:=by kernel_rfl
theorem CA(w:World):(Rtype.directlyAssignable 97 97).run Go.Proofs.Tryz.prog w=.ok true w:=by kernel_rfl
theorem DW:Go.Proofs.Tryz.prog.underlying 97=some (.pointer 101):=by kernel_rfl
theorem DX(x:Addr)(w:World):(ReflectliteValue.unpack (.iface 97 (.pointer (some x)))).run Go.Proofs.Tryz.prog w=.ok (.agg #[.pointer (some ⟨1,97,none⟩),.pointer (some ⟨w.heap.size,0,none⟩),.int .u64 150]) (w.alloc (.cells #[.pointer (some x)] 97)):=by kernel_rfl
theorem Fu(ta b:Addr)(x:Addr)(old:Value)(W:World)(hb:W.cell? b=some (.pointer (some x)))(ht:W.cell? ta=some old)(hf:W.frozen? ta=false) :
  (ReflectliteValue.set #[(.agg #[.pointer (some ⟨1,97,none⟩),.pointer (some ta),.int .u64 406]),(.agg #[.pointer (some ⟨1,97,none⟩),.pointer (some b),.int .u64 150])]).run Go.Proofs.Tryz.prog W=.ok (.tuple #[]) (W.setCell ta (.pointer (some x))):=by
 rw[Gc]
 simp only[Sem.run_bind,Cz,DV,Result.andThen]
 simp[ReflectliteValue.flagAddr,loadVar,isAgg,underlying,DW,hb,Result.andThen,CA,storeVar,Value.cells,storeCells,Addr.add]
 rw[run_store Go.Proofs.Tryz.prog W ta _ _ (by rfl)]
 simp[ht,hf]
theorem BK(t:Addr)(w:World):(ReflectliteValue.unpack (.iface 102 (.pointer (some t)))).run Go.Proofs.Tryz.prog w=.ok (.agg #[.pointer (some ⟨1,102,none⟩),.pointer (some ⟨w.heap.size,0,none⟩),.int .u64 150]) (w.alloc (.cells #[.pointer (some t)] 102)):=by kernel_rfl
theorem EK(a:Addr)(w:World):(ReflectliteValue.methodAny (ReflectliteValue.valueError "reflectlite.Value.Type" 0) (fun t _ _ _=>ReflectliteType.toType t) #[(.agg #[.pointer (some ⟨1,102,none⟩),.pointer (some a),.int .u64 150])]).run Go.Proofs.Tryz.prog w=.ok (.iface 196 (.agg #[.pointer (some ⟨1,102,none⟩)])) w:=by kernel_rfl
theorem DY(w:World):((ReflectliteType.abiMethod fun t=>(fun a:Nat=>Value.int IntKind.u8 (a:Int)) <$> Rtype.kind t) #[.pointer (some ⟨1,102,none⟩)]).run Go.Proofs.Tryz.prog w=.ok (.int .u8 22) w:=by kernel_rfl
theorem EL(w:World):((ReflectliteType.abiMethod fun t=>(fun a:Nat=>Value.int IntKind.u8 (a:Int)) <$> Rtype.kind t) #[.pointer (some ⟨1,48,none⟩)]).run Go.Proofs.Tryz.prog w=.ok (.int .u8 2) w:=by kernel_rfl
theorem zg(a:Addr)(w:World):(ReflectliteValue.parts (.agg #[.pointer (some ⟨1,102,none⟩),.pointer (some a),.int .u64 150])).run Go.Proofs.Tryz.prog w=.ok (some (102,a,150)) w:=by kernel_rfl
theorem zh:Go.Proofs.Tryz.prog.underlying 102=some (.pointer 48):=by kernel_rfl
theorem DZ(a p:Addr)(W:World)(ha:W.cell? a=some (.pointer (some p))) :
  (ReflectliteValue.method (ReflectliteValue.valueError "reflectlite.Value.IsNil" 0) ReflectliteValue.isNil #[(.agg #[.pointer (some ⟨1,102,none⟩),.pointer (some a),.int .u64 150])]).run Go.Proofs.Tryz.prog W=.ok (.bool false) W:=by
 rw[Fe]
 simp only[Sem.run_bind,zg,Result.andThen]
 simp[ReflectliteValue.isNil,loadVar,isAgg,underlying,zh,ha,Result.andThen]
theorem EM(w:World):(ReflectliteType.method ReflectliteType.elem #[.agg #[.pointer (some ⟨1,102,none⟩)]]).run Go.Proofs.Tryz.prog w=.ok (.iface 196 (.agg #[.pointer (some ⟨1,48,none⟩)])) w:=by kernel_rfl
theorem EN(w:World):(ReflectliteType.relation "Implements" ReflectliteType.implements_ #[.agg #[.pointer (some ⟨1,48,none⟩)],.iface 196 (.agg #[.pointer (some ⟨1,45,none⟩)])]).run Go.Proofs.Tryz.prog w=.ok (.bool true) w:=by kernel_rfl
theorem ve(v:Value)(w:World):(ReflectliteType.typeOf #[.iface 48 v]).run Go.Proofs.Tryz.prog w=.ok (.iface 196 (.agg #[.pointer (some ⟨1,48,none⟩)])) w:=by kernel_rfl
theorem CB(w:World):(Rtype.elem? 102).run Go.Proofs.Tryz.prog w=.ok (some 48) w:=by kernel_rfl
theorem Gj(p:Addr)(w:World):(ReflectliteValue.mk 48 p ReflectliteValue.flagAddr).run Go.Proofs.Tryz.prog w=.ok (.agg #[.pointer (some ⟨1,48,none⟩),.pointer (some p),.int .u64 386]) w:=by kernel_rfl
theorem yg(a p:Addr)(W:World)(ha:W.cell? a=some (.pointer (some p))) :
  (ReflectliteValue.method (ReflectliteValue.valueError "reflectlite.Value.Elem" 0) ReflectliteValue.elem #[(.agg #[.pointer (some ⟨1,102,none⟩),.pointer (some a),.int .u64 150])]).run Go.Proofs.Tryz.prog W=.ok (.agg #[.pointer (some ⟨1,48,none⟩),.pointer (some p),.int .u64 386]) W:=by
 rw[Fe]
 simp only[Sem.run_bind,zg,Result.andThen]
 simp[ReflectliteValue.elem,loadVar,isAgg,underlying,zh,ha,Result.andThen,CB,Gj]
theorem CC(a:Addr)(w:World):(ReflectliteValue.parts (.agg #[.pointer (some ⟨1,48,none⟩),.pointer (some a),.int .u64 386])).run Go.Proofs.Tryz.prog w=.ok (some (48,a,386)) w:=by kernel_rfl
theorem D0(a:Addr)(w:World):(ReflectliteValue.parts (.agg #[.pointer (some ⟨1,48,none⟩),.pointer (some a),.int .u64 130])).run Go.Proofs.Tryz.prog w=.ok (some (48,a,130)) w:=by kernel_rfl
theorem CD(w:World):(Rtype.directlyAssignable 48 48).run Go.Proofs.Tryz.prog w=.ok true w:=by kernel_rfl
theorem D1:Go.Proofs.Tryz.prog.underlying 48=some (.int .i64):=by kernel_rfl
theorem yh(x:Int)(w:World):(ReflectliteValue.unpack (.iface 48 (.int .i64 x))).run Go.Proofs.Tryz.prog w=.ok (.agg #[.pointer (some ⟨1,48,none⟩),.pointer (some ⟨w.heap.size,0,none⟩),.int .u64 130]) (w.alloc (.cells #[.int .i64 x] 48)):=by kernel_rfl
theorem D2(ta b:Addr)(x:Int)(old:Value)(W:World)(hb:W.cell? b=some (.int .i64 x))(ht:W.cell? ta=some old)(hf:W.frozen? ta=false) :
  (ReflectliteValue.set #[(.agg #[.pointer (some ⟨1,48,none⟩),.pointer (some ta),.int .u64 386]),(.agg #[.pointer (some ⟨1,48,none⟩),.pointer (some b),.int .u64 130])]).run Go.Proofs.Tryz.prog W=.ok (.tuple #[]) (W.setCell ta (.int .i64 x)):=by
 rw[Gc]
 simp only[Sem.run_bind,CC,D0,Result.andThen]
 simp[ReflectliteValue.flagAddr,loadVar,isAgg,underlying,D1,hb,Result.andThen,CD,storeVar,Value.cells,storeCells,Addr.add]
 rw[run_store Go.Proofs.Tryz.prog W ta _ _ (by rfl)]
 simp[ht,hf]
theorem BL(w:World):(ReflectliteType.relation "AssignableTo" ReflectliteType.assignableTo #[.agg #[.pointer (some ⟨1,97,none⟩)],.iface 196 (.agg #[.pointer (some ⟨1,97,none⟩)])]).run Go.Proofs.Tryz.prog w=.ok (.bool true) w:=by kernel_rfl
theorem xb(w:World):(ReflectliteType.relation "AssignableTo" ReflectliteType.assignableTo #[.agg #[.pointer (some ⟨1,97,none⟩)],.iface 196 (.agg #[.pointer (some ⟨1,48,none⟩)])]).run Go.Proofs.Tryz.prog w=.ok (.bool false) w:=by kernel_rfl
theorem sQ(w:World):(ReflectliteType.relation "AssignableTo" ReflectliteType.assignableTo #[.agg #[.pointer (some ⟨1,48,none⟩)],.iface 196 (.agg #[.pointer (some ⟨1,48,none⟩)])]).run Go.Proofs.Tryz.prog w=.ok (.bool true) w:=by kernel_rfl
theorem C0(v:Value)(xT:TypeId)(w:World):(Instr.typeAssert (.iface 97 v) xT 216 true).run Go.Proofs.Tryz.prog w=.ok (.tuple #[.nilIface,.bool false]) w:=run_typeAssert_lacksB Go.Proofs.Tryz.underlying216 (by kernel_rfl) (by kernel_rfl) v xT w
theorem C1(v:Value)(xT:TypeId)(w:World):(Instr.typeAssert (.iface 97 v) xT 201 true).run Go.Proofs.Tryz.prog w=.ok (.tuple #[.iface 97 v,.bool true]) w:=run_typeAssert_hasB Go.Proofs.Tryz.underlying201 (by kernel_rfl) v xT w
theorem pO(e:Addr)(w:World):(Go.method 368 97 (.pointer (some e)) "Unwrap").run Go.Proofs.Tryz.prog w=.ok (181,.pointer (some e)) w:=by kernel_rfl
abbrev Ge:Value:=.iface 196 (.agg #[.pointer (some ⟨1,97,none⟩)])
abbrev Ff:Value:=.iface 196 (.agg #[.pointer (some ⟨1,48,none⟩)])
abbrev tA(PT:Nat)(a:Addr):Obj:=.cells #[.pointer (some ⟨1,PT,none⟩),.pointer (some a),.int .u64 150] 162
set_option maxHeartbeats 4000000 in
theorem EO(e t a:Addr)(old tgt:Value)(w:World)(ha:w.cell? a=some (.pointer (some t)))(ht0:w.cell? t=some old)(hf0:w.frozen? t=false) :
  Calls Go.Proofs.Tryz.prog 85 #[.iface 97 (.pointer (some e)),tgt,.agg #[.pointer (some ⟨1,99,none⟩),.pointer (some a),.int .u64 150],Ge] w fun ev w'=>ev=.returned (.bool true) ∧
   w'=((w.alloc (tA 99 a)).alloc (.cells #[.pointer (some e)] 97)).setCell t (.pointer (some e)):=by
 have hTO:=@run_callFunc_extern Go.Proofs.Tryz.prog 61 _ ReflectliteType.typeOf Go.Proofs.Tryz.func61 (by kernel_rfl) (by kernel_rfl) (by kernel_rfl) (by kernel_rfl)
 have hA:=@run_callFunc_extern Go.Proofs.Tryz.prog 186 _ (ReflectliteType.relation "AssignableTo" ReflectliteType.assignableTo) Go.Proofs.Tryz.func186 (by kernel_rfl) (by kernel_rfl) (by kernel_rfl) (by kernel_rfl)
 have hVE:=@run_callFunc_extern Go.Proofs.Tryz.prog 111 _ (ReflectliteValue.method (ReflectliteValue.valueError "reflectlite.Value.Elem" 0) ReflectliteValue.elem) Go.Proofs.Tryz.func111 (by kernel_rfl) (by kernel_rfl) (by kernel_rfl) (by kernel_rfl)
 have hS:=@run_callFunc_extern Go.Proofs.Tryz.prog 112 _ ReflectliteValue.set Go.Proofs.Tryz.func112 (by kernel_rfl) (by kernel_rfl) (by kernel_rfl) (by kernel_rfl)
 have hV:=@run_callFunc_extern Go.Proofs.Tryz.prog 82 _ (fun args=>ReflectliteValue.unpack (args.getD 0 (.tuple #[]))) Go.Proofs.Tryz.func82 (by kernel_rfl) (by kernel_rfl) (by kernel_rfl) (by kernel_rfl)
 have tO:=vd
 have mA:=gb
 have aF:=BL
 have vF:=DX
 have hal:a.block<w.heap.size:=by
  rcases Nat.lt_or_ge a.block w.heap.size with h | h
  ·exact h
  ·simp[World.cell?,Array.getElem?_eq_none h] at ha
 have htl:t.block<w.heap.size:=by
  rcases Nat.lt_or_ge t.block w.heap.size with h | h
  ·exact h
  ·simp[World.cell?,Array.getElem?_eq_none h] at ht0
 have el:=DU a t (w.alloc (tA 99 a)) (by rw[World.cell?_alloc_lt _ _ a hal];exact ha)
 have st:=Fu t ⟨w.heap.size+1,0,none⟩ e old ((w.alloc (tA 99 a)).alloc (.cells #[.pointer (some e)] 97))
  (by rw[World.cell?_alloc_at _ _ _ _ (by simp)];rfl)
  (by rw[World.cell?_alloc_lt _ _ t (by simp;omega),World.cell?_alloc_lt _ _ t htl];exact ht0)
  (by rw[World.frozen?_alloc_old _ _ t (by simp;omega),World.frozen?_alloc_old _ _ t (Nat.ne_of_lt htl)];exact hf0)
 go_enter Go.Proofs.Tryz.func85,Go.Proofs.Tryz.ntmps85
 go_wp2
 refine wp_loop_rounds 1 ?_
 rw[rounds_succ]
 go_wp2
 go_ret
 exact⟨rfl,rfl⟩
set_option maxHeartbeats 4000000 in
theorem EP(n:Int)(t a:Addr)(old tgt:Value)(w:World)(ha:w.cell? a=some (.pointer (some t)))(ht0:w.cell? t=some old)(hf0:w.frozen? t=false) :
  Calls Go.Proofs.Tryz.prog 85 #[.iface 48 (.int .i64 n),tgt,.agg #[.pointer (some ⟨1,102,none⟩),.pointer (some a),.int .u64 150],Ff] w fun ev w'=>ev=.returned (.bool true) ∧
   w'=((w.alloc (tA 102 a)).alloc (.cells #[.int .i64 n] 48)).setCell t (.int .i64 n):=by
 have hTO:=@run_callFunc_extern Go.Proofs.Tryz.prog 61 _ ReflectliteType.typeOf Go.Proofs.Tryz.func61 (by kernel_rfl) (by kernel_rfl) (by kernel_rfl) (by kernel_rfl)
 have hA:=@run_callFunc_extern Go.Proofs.Tryz.prog 186 _ (ReflectliteType.relation "AssignableTo" ReflectliteType.assignableTo) Go.Proofs.Tryz.func186 (by kernel_rfl) (by kernel_rfl) (by kernel_rfl) (by kernel_rfl)
 have hVE:=@run_callFunc_extern Go.Proofs.Tryz.prog 111 _ (ReflectliteValue.method (ReflectliteValue.valueError "reflectlite.Value.Elem" 0) ReflectliteValue.elem) Go.Proofs.Tryz.func111 (by kernel_rfl) (by kernel_rfl) (by kernel_rfl) (by kernel_rfl)
 have hS:=@run_callFunc_extern Go.Proofs.Tryz.prog 112 _ ReflectliteValue.set Go.Proofs.Tryz.func112 (by kernel_rfl) (by kernel_rfl) (by kernel_rfl) (by kernel_rfl)
 have hV:=@run_callFunc_extern Go.Proofs.Tryz.prog 82 _ (fun args=>ReflectliteValue.unpack (args.getD 0 (.tuple #[]))) Go.Proofs.Tryz.func82 (by kernel_rfl) (by kernel_rfl) (by kernel_rfl) (by kernel_rfl)
 have tO:=ve
 have mA:=gb
 have aE:=sQ
 have vE:=yh
 have hal:a.block<w.heap.size:=by
  rcases Nat.lt_or_ge a.block w.heap.size with h | h
  ·exact h
  ·simp[World.cell?,Array.getElem?_eq_none h] at ha
 have htl:t.block<w.heap.size:=by
  rcases Nat.lt_or_ge t.block w.heap.size with h | h
  ·exact h
  ·simp[World.cell?,Array.getElem?_eq_none h] at ht0
 have el:=yg a t (w.alloc (tA 102 a)) (by rw[World.cell?_alloc_lt _ _ a hal];exact ha)
 have st:=D2 t ⟨w.heap.size+1,0,none⟩ n old ((w.alloc (tA 102 a)).alloc (.cells #[.int .i64 n] 48))
  (by rw[World.cell?_alloc_at _ _ _ _ (by simp)];rfl)
  (by rw[World.cell?_alloc_lt _ _ t (by simp;omega),World.cell?_alloc_lt _ _ t htl];exact ht0)
  (by rw[World.frozen?_alloc_old _ _ t (by simp;omega),World.frozen?_alloc_old _ _ t (Nat.ne_of_lt htl)];exact hf0)
 go_enter Go.Proofs.Tryz.func85,Go.Proofs.Tryz.ntmps85
 go_wp2
 refine wp_loop_rounds 1 ?_
 rw[rounds_succ]
 go_wp2
 go_ret
 exact⟨rfl,rfl⟩
abbrev yi:Value:=.iface 196 (.agg #[.pointer (some ⟨1,45,none⟩)])
set_option maxHeartbeats 4000000 in
theorem Fv(d:TypeId)(v:Value)(t:Addr)(w w2:World)(r:Bool)(hg:w.cell? ⟨0,0,none⟩=some yi)
  (h:Calls Go.Proofs.Tryz.prog 85 #[.iface d v,.iface 99 (.pointer (some t)),.agg #[.pointer (some ⟨1,99,none⟩),.pointer (some ⟨w.heap.size,0,none⟩),.int .u64 150],Ge] ((w.alloc (.cells #[.pointer (some t)] 99)).alloc (tA 99 ⟨w.heap.size,0,none⟩)) fun ev w'=>ev=.returned (.bool r)∧w'=w2) :
  Calls Go.Proofs.Tryz.prog 31 #[.iface d v,.iface 99 (.pointer (some t))] w fun ev w'=>ev=.returned (.bool r)∧w'=w2:=by
 have hV:=@run_callFunc_extern Go.Proofs.Tryz.prog 82 _ (fun args=>ReflectliteValue.unpack (args.getD 0 (.tuple #[]))) Go.Proofs.Tryz.func82 (by kernel_rfl) (by kernel_rfl) (by kernel_rfl) (by kernel_rfl)
 have hT:=@run_callFunc_extern Go.Proofs.Tryz.prog 83 _ (ReflectliteValue.methodAny (ReflectliteValue.valueError "reflectlite.Value.Type" 0) (fun t _ _ _=>ReflectliteType.toType t)) Go.Proofs.Tryz.func83 (by kernel_rfl) (by kernel_rfl) (by kernel_rfl) (by kernel_rfl)
 have hN:=@run_callFunc_extern Go.Proofs.Tryz.prog 84 _ (ReflectliteValue.method (ReflectliteValue.valueError "reflectlite.Value.IsNil" 0) ReflectliteValue.isNil) Go.Proofs.Tryz.func84 (by kernel_rfl) (by kernel_rfl) (by kernel_rfl) (by kernel_rfl)
 have hK:=@run_callFunc_extern Go.Proofs.Tryz.prog 176 _ (ReflectliteType.abiMethod fun t=>do pure (.int .u8 (←Rtype.kind t))) Go.Proofs.Tryz.func176 (by kernel_rfl) (by kernel_rfl) (by kernel_rfl) (by kernel_rfl)
 have hE:=@run_callFunc_extern Go.Proofs.Tryz.prog 188 _ (ReflectliteType.method ReflectliteType.elem) Go.Proofs.Tryz.func188 (by kernel_rfl) (by kernel_rfl) (by kernel_rfl) (by kernel_rfl)
 have hI:=@run_callFunc_extern Go.Proofs.Tryz.prog 189 _ (ReflectliteType.relation "Implements" ReflectliteType.implements_) Go.Proofs.Tryz.func189 (by kernel_rfl) (by kernel_rfl) (by kernel_rfl) (by kernel_rfl)
 have f6:=BJ
 have f7:=EG
 have mK:=sO
 have mE:=sP
 have mI:=lI
 have kP:=DS
 have kT:=EH
 have eT:=EI
 have iT:=EJ
 have n8:=DT ⟨w.heap.size,0,none⟩ t ((w.alloc (.cells #[.pointer (some t)] 99)).alloc (tA 99 ⟨w.heap.size,0,none⟩)) (by simp)
 have hlt:0<w.heap.size:=by
  rcases Nat.eq_zero_or_pos w.heap.size with h0 | h
  ·simp[World.cell?,h0] at hg
  ·exact h
 have hg2:((w.alloc (.cells #[.pointer (some t)] 99)).alloc (tA 99 ⟨w.heap.size,0,none⟩)).cell? ⟨0,0,none⟩=some yi:=by
  rw[World.cell?_alloc_lt _ _ ⟨0,0,none⟩ (by simp),World.cell?_alloc_lt _ _ ⟨0,0,none⟩ hlt];exact hg
 go_enter Go.Proofs.Tryz.func31,Go.Proofs.Tryz.ntmps31
 go_wp2_with (first | (go_at_call 85;refine h.mono ?_;rintro e w' ⟨rfl,rfl⟩))
 go_ret
 exact⟨rfl,rfl⟩
set_option maxHeartbeats 4000000 in
theorem D3(d:TypeId)(v:Value)(t:Addr)(w w2:World)(r:Bool)(hg:w.cell? ⟨0,0,none⟩=some yi)
  (h:Calls Go.Proofs.Tryz.prog 85 #[.iface d v,.iface 102 (.pointer (some t)),.agg #[.pointer (some ⟨1,102,none⟩),.pointer (some ⟨w.heap.size,0,none⟩),.int .u64 150],Ff] ((w.alloc (.cells #[.pointer (some t)] 102)).alloc (tA 102 ⟨w.heap.size,0,none⟩)) fun ev w'=>ev=.returned (.bool r)∧w'=w2) :
  Calls Go.Proofs.Tryz.prog 31 #[.iface d v,.iface 102 (.pointer (some t))] w fun ev w'=>ev=.returned (.bool r)∧w'=w2:=by
 have hV:=@run_callFunc_extern Go.Proofs.Tryz.prog 82 _ (fun args=>ReflectliteValue.unpack (args.getD 0 (.tuple #[]))) Go.Proofs.Tryz.func82 (by kernel_rfl) (by kernel_rfl) (by kernel_rfl) (by kernel_rfl)
 have hT:=@run_callFunc_extern Go.Proofs.Tryz.prog 83 _ (ReflectliteValue.methodAny (ReflectliteValue.valueError "reflectlite.Value.Type" 0) (fun t _ _ _=>ReflectliteType.toType t)) Go.Proofs.Tryz.func83 (by kernel_rfl) (by kernel_rfl) (by kernel_rfl) (by kernel_rfl)
 have hN:=@run_callFunc_extern Go.Proofs.Tryz.prog 84 _ (ReflectliteValue.method (ReflectliteValue.valueError "reflectlite.Value.IsNil" 0) ReflectliteValue.isNil) Go.Proofs.Tryz.func84 (by kernel_rfl) (by kernel_rfl) (by kernel_rfl) (by kernel_rfl)
 have hK:=@run_callFunc_extern Go.Proofs.Tryz.prog 176 _ (ReflectliteType.abiMethod fun t=>do pure (.int .u8 (←Rtype.kind t))) Go.Proofs.Tryz.func176 (by kernel_rfl) (by kernel_rfl) (by kernel_rfl) (by kernel_rfl)
 have hE:=@run_callFunc_extern Go.Proofs.Tryz.prog 188 _ (ReflectliteType.method ReflectliteType.elem) Go.Proofs.Tryz.func188 (by kernel_rfl) (by kernel_rfl) (by kernel_rfl) (by kernel_rfl)
 have hI:=@run_callFunc_extern Go.Proofs.Tryz.prog 189 _ (ReflectliteType.relation "Implements" ReflectliteType.implements_) Go.Proofs.Tryz.func189 (by kernel_rfl) (by kernel_rfl) (by kernel_rfl) (by kernel_rfl)
 have f6:=BK
 have f7:=EK
 have mK:=sO
 have mE:=sP
 have mI:=lI
 have kP:=DY
 have kT:=EL
 have eT:=EM
 have iT:=EN
 have n8:=DZ ⟨w.heap.size,0,none⟩ t ((w.alloc (.cells #[.pointer (some t)] 102)).alloc (tA 102 ⟨w.heap.size,0,none⟩)) (by simp)
 have hlt:0<w.heap.size:=by
  rcases Nat.eq_zero_or_pos w.heap.size with h0 | h
  ·simp[World.cell?,h0] at hg
  ·exact h
 have hg2:((w.alloc (.cells #[.pointer (some t)] 102)).alloc (tA 102 ⟨w.heap.size,0,none⟩)).cell? ⟨0,0,none⟩=some yi:=by
  rw[World.cell?_alloc_lt _ _ ⟨0,0,none⟩ (by simp),World.cell?_alloc_lt _ _ ⟨0,0,none⟩ hlt];exact hg
 go_enter Go.Proofs.Tryz.func31,Go.Proofs.Tryz.ntmps31
 go_wp2_with (first | (go_at_call 85;refine h.mono ?_;rintro e w' ⟨rfl,rfl⟩))
 go_ret
 exact⟨rfl,rfl⟩
open Go.Vc (Sat)
theorem yj(b:Nat)(v:Value)(w:World)(he:w.cell? ⟨b,2,none⟩=some v):Calls Go.Proofs.Tryz.prog 181 #[.pointer (some ⟨b,0,none⟩)] w fun ev w'=>ev=.returned v∧w'=w:=by
 go_enter Go.Proofs.Tryz.func181,Go.Proofs.Tryz.ntmps181
 go_wp2
 go_ret
 exact⟨rfl,rfl⟩
set_option maxHeartbeats 4000000 in
theorem D4(b:Nat)(n:Int)(t a:Addr)(old tgt:Value)(w:World)(he:w.cell? ⟨b,2,none⟩=some (.iface 48 (.int .i64 n)))(ha:w.cell? a=some (.pointer (some t)))(ht0:w.cell? t=some old)(hf0:w.frozen? t=false) :
  Calls Go.Proofs.Tryz.prog 85 #[.iface 97 (.pointer (some ⟨b,0,none⟩)),tgt,.agg #[.pointer (some ⟨1,102,none⟩),.pointer (some a),.int .u64 150],Ff] w fun ev w'=>ev=.returned (.bool true) ∧
   w'=((w.alloc (tA 102 a)).alloc (.cells #[.int .i64 n] 48)).setCell t (.int .i64 n):=by
 have hTO:=@run_callFunc_extern Go.Proofs.Tryz.prog 61 _ ReflectliteType.typeOf Go.Proofs.Tryz.func61 (by kernel_rfl) (by kernel_rfl) (by kernel_rfl) (by kernel_rfl)
 have hA:=@run_callFunc_extern Go.Proofs.Tryz.prog 186 _ (ReflectliteType.relation "AssignableTo" ReflectliteType.assignableTo) Go.Proofs.Tryz.func186 (by kernel_rfl) (by kernel_rfl) (by kernel_rfl) (by kernel_rfl)
 have hVE:=@run_callFunc_extern Go.Proofs.Tryz.prog 111 _ (ReflectliteValue.method (ReflectliteValue.valueError "reflectlite.Value.Elem" 0) ReflectliteValue.elem) Go.Proofs.Tryz.func111 (by kernel_rfl) (by kernel_rfl) (by kernel_rfl) (by kernel_rfl)
 have hS:=@run_callFunc_extern Go.Proofs.Tryz.prog 112 _ ReflectliteValue.set Go.Proofs.Tryz.func112 (by kernel_rfl) (by kernel_rfl) (by kernel_rfl) (by kernel_rfl)
 have hV:=@run_callFunc_extern Go.Proofs.Tryz.prog 82 _ (fun args=>ReflectliteValue.unpack (args.getD 0 (.tuple #[]))) Go.Proofs.Tryz.func82 (by kernel_rfl) (by kernel_rfl) (by kernel_rfl) (by kernel_rfl)
 have tO:=ve
 have tO2:=vd
 have mA:=gb
 have aE:=sQ
 have aF:=xb
 have vE:=yh
 have t1:=C0
 have t2:=C1
 have mU:=pO
 have hal:a.block<w.heap.size:=by
  rcases Nat.lt_or_ge a.block w.heap.size with h | h
  ·exact h
  ·simp[World.cell?,Array.getElem?_eq_none h] at ha
 have hel:b<w.heap.size:=by
  rcases Nat.lt_or_ge b w.heap.size with h | h
  ·exact h
  ·simp[World.cell?,Array.getElem?_eq_none h] at he
 have htl:t.block<w.heap.size:=by
  rcases Nat.lt_or_ge t.block w.heap.size with h | h
  ·exact h
  ·simp[World.cell?,Array.getElem?_eq_none h] at ht0
 have he1:(w.alloc (tA 102 a)).cell? ⟨b,2,none⟩=some (.iface 48 (.int .i64 n)):=by rw[World.cell?_alloc_lt _ _ _ hel];exact he
 have el:=yg a t (w.alloc (tA 102 a)) (by rw[World.cell?_alloc_lt _ _ a hal];exact ha)
 have st:=D2 t ⟨w.heap.size+1,0,none⟩ n old ((w.alloc (tA 102 a)).alloc (.cells #[.int .i64 n] 48))
  (by rw[World.cell?_alloc_at _ _ _ _ (by simp)];rfl)
  (by rw[World.cell?_alloc_lt _ _ t (by simp;omega),World.cell?_alloc_lt _ _ t htl];exact ht0)
  (by rw[World.frozen?_alloc_old _ _ t (by simp;omega),World.frozen?_alloc_old _ _ t (Nat.ne_of_lt htl)];exact hf0)
 go_enter Go.Proofs.Tryz.func85,Go.Proofs.Tryz.ntmps85
 go_wp2
 refine wp_loop_rounds 2 ?_
 rw[rounds_succ]
 go_wp2_with (first | (go_at_call 181;refine (yj b _ _ he1).mono ?_;rintro e w' ⟨rfl,rfl⟩))
 rw[rounds_succ]
 go_wp2
 go_ret
 exact⟨rfl,rfl⟩
set_option maxHeartbeats 4000000 in
theorem D5(b c:Nat)(n:Int)(t a:Addr)(old tgt:Value)(w:World)(he:w.cell? ⟨b,2,none⟩=some (.iface 97 (.pointer (some ⟨c,0,none⟩))))(hc:w.cell? ⟨c,2,none⟩=some (.iface 48 (.int .i64 n)))(ha:w.cell? a=some (.pointer (some t)))(ht0:w.cell? t=some old)(hf0:w.frozen? t=false) :
  Calls Go.Proofs.Tryz.prog 85 #[.iface 97 (.pointer (some ⟨b,0,none⟩)),tgt,.agg #[.pointer (some ⟨1,102,none⟩),.pointer (some a),.int .u64 150],Ff] w fun ev w'=>ev=.returned (.bool true) ∧
   w'=((w.alloc (tA 102 a)).alloc (.cells #[.int .i64 n] 48)).setCell t (.int .i64 n):=by
 have hTO:=@run_callFunc_extern Go.Proofs.Tryz.prog 61 _ ReflectliteType.typeOf Go.Proofs.Tryz.func61 (by kernel_rfl) (by kernel_rfl) (by kernel_rfl) (by kernel_rfl)
 have hA:=@run_callFunc_extern Go.Proofs.Tryz.prog 186 _ (ReflectliteType.relation "AssignableTo" ReflectliteType.assignableTo) Go.Proofs.Tryz.func186 (by kernel_rfl) (by kernel_rfl) (by kernel_rfl) (by kernel_rfl)
 have hVE:=@run_callFunc_extern Go.Proofs.Tryz.prog 111 _ (ReflectliteValue.method (ReflectliteValue.valueError "reflectlite.Value.Elem" 0) ReflectliteValue.elem) Go.Proofs.Tryz.func111 (by kernel_rfl) (by kernel_rfl) (by kernel_rfl) (by kernel_rfl)
 have hS:=@run_callFunc_extern Go.Proofs.Tryz.prog 112 _ ReflectliteValue.set Go.Proofs.Tryz.func112 (by kernel_rfl) (by kernel_rfl) (by kernel_rfl) (by kernel_rfl)
 have hV:=@run_callFunc_extern Go.Proofs.Tryz.prog 82 _ (fun args=>ReflectliteValue.unpack (args.getD 0 (.tuple #[]))) Go.Proofs.Tryz.func82 (by kernel_rfl) (by kernel_rfl) (by kernel_rfl) (by kernel_rfl)
 have tO:=ve
 have tO2:=vd
 have mA:=gb
 have aE:=sQ
 have aF:=xb
 have vE:=yh
 have t1:=C0
 have t2:=C1
 have mU:=pO
 have hal:a.block<w.heap.size:=by
  rcases Nat.lt_or_ge a.block w.heap.size with h | h
  ·exact h
  ·simp[World.cell?,Array.getElem?_eq_none h] at ha
 have hel:b<w.heap.size:=by
  rcases Nat.lt_or_ge b w.heap.size with h | h
  ·exact h
  ·simp[World.cell?,Array.getElem?_eq_none h] at he
 have htl:t.block<w.heap.size:=by
  rcases Nat.lt_or_ge t.block w.heap.size with h | h
  ·exact h
  ·simp[World.cell?,Array.getElem?_eq_none h] at ht0
 have he1:(w.alloc (tA 102 a)).cell? ⟨b,2,none⟩=some (.iface 97 (.pointer (some ⟨c,0,none⟩))):=by rw[World.cell?_alloc_lt _ _ _ hel];exact he
 have hcl:c<w.heap.size:=by
  rcases Nat.lt_or_ge c w.heap.size with h | h
  ·exact h
  ·simp[World.cell?,Array.getElem?_eq_none h] at hc
 have hc1:(w.alloc (tA 102 a)).cell? ⟨c,2,none⟩=some (.iface 48 (.int .i64 n)):=by rw[World.cell?_alloc_lt _ _ _ hcl];exact hc
 have el:=yg a t (w.alloc (tA 102 a)) (by rw[World.cell?_alloc_lt _ _ a hal];exact ha)
 have st:=D2 t ⟨w.heap.size+1,0,none⟩ n old ((w.alloc (tA 102 a)).alloc (.cells #[.int .i64 n] 48))
  (by rw[World.cell?_alloc_at _ _ _ _ (by simp)];rfl)
  (by rw[World.cell?_alloc_lt _ _ t (by simp;omega),World.cell?_alloc_lt _ _ t htl];exact ht0)
  (by rw[World.frozen?_alloc_old _ _ t (by simp;omega),World.frozen?_alloc_old _ _ t (Nat.ne_of_lt htl)];exact hf0)
 go_enter Go.Proofs.Tryz.func85,Go.Proofs.Tryz.ntmps85
 go_wp2
 refine wp_loop_rounds 3 ?_
 rw[rounds_succ]
 go_wp2_with (first | (go_at_call 181;refine (yj b _ _ he1).mono ?_;rintro e w' ⟨rfl,rfl⟩))
 rw[rounds_succ]
 go_wp2_with (first | (go_at_call 181;refine (yj c _ _ hc1).mono ?_;rintro e w' ⟨rfl,rfl⟩))
 rw[rounds_succ]
 go_wp2
 go_ret
 exact⟨rfl,rfl⟩
end Go.As
namespace Go.Lx
open Go.Vc
def Gl(I:cS):Prop:=∃cs ty fz,I 0=some (.cells cs ty fz)∧cs[0]? = some Go.As.yi
theorem Gl.mono{I J:cS}(h:Gl I)(hl:cS.le I J):Gl J:=let ⟨cs,ty,fz,h1,h2⟩:=h;⟨cs,ty,fz,hl.at h1,h2⟩
theorem Gl.cell{I:cS}{F:cR}{w:World}(h:Gl I)(hw:Sat I F w):w.cell? ⟨0,0,none⟩=some Go.As.yi:=by
 obtain⟨cs,ty,fz,h1,h2⟩:=h
 have:=hw.imm _ _ h1
 unfold World.cell?
 simp[this,h2]
theorem Gl.CE{w:World}(h:w.cell? ⟨0,0,none⟩=some Go.As.yi):Gl (cS.all w):=by
 unfold World.cell? at h
 split at h
 ·rename_i c ty fz hc
  exact⟨c,ty,fz,hc,by simpa using h⟩
 ·cases h
theorem j9{I:cS}{F:cR}{w:World}{t ty:Nat}{old:Value}(hw:Sat I ((t,.cells #[old] ty (0,0))::F) w):w.cell? ⟨t,0,none⟩=some old∧w.frozen? ⟨t,0,none⟩=false:=by
 have:=hw.own _ _ (.head _)
 unfold World.cell? World.frozen?
 simp[this]
theorem xa.cell{I:cS}{F:cR}{w:World}{b ty:Nat}{fz:Nat×Nat}{x y z:Value}(h:I b=some (.cells #[x,y,z] ty fz))(hw:Sat I F w):w.cell? ⟨b,2,none⟩=some z:=by
 have:=hw.imm _ _ h
 unfold World.cell?
 simp[this]
theorem kv{w:World}{o o':Obj}{a:Addr}{v:Value}(h:w.cell? a=some v):((w.alloc o).alloc o').cell? a=some v:=by
 have hl:a.block<w.heap.size:=by
  rcases Nat.lt_or_ge a.block w.heap.size with h1 | h1
  ·exact h1
  ·simp[World.cell?,Array.getElem?_eq_none h1] at h
 rw[World.cell?_alloc_lt _ _ _ (by simp;omega),World.cell?_alloc_lt _ _ _ hl];exact h
theorem nX{w:World}{o o':Obj}{a:Addr}{v:Value}(h:w.cell? a=some v)(hf:w.frozen? a=false):((w.alloc o).alloc o').frozen? a=false:=by
 have hl:a.block<w.heap.size:=by
  rcases Nat.lt_or_ge a.block w.heap.size with h1 | h1
  ·exact h1
  ·simp[World.cell?,Array.getElem?_eq_none h1] at h
 rw[World.frozen?_alloc_old _ _ _ (by simp;omega),World.frozen?_alloc_old _ _ _ (Nat.ne_of_lt hl)];exact hf
end Go.Lx
namespace Go.Vc
theorem Sat.ib{I:cS}{F:cR}{w:World}(h:Sat I F w)(o:Obj):Sat I F (w.alloc o):=(h.alloc o).drop (A:=[_])
theorem Sat.CF{I:cS}{F:cR}{w:World}{t ty:Nat}{old v:Value}(h:Sat I ((t,.cells #[old] ty (0,0))::F) w):Sat I ((t,.cells #[v] ty (0,0))::F) (w.setCell ⟨t,0,none⟩ v) :=
 Sat.set h (o3 (cs:=[old]) (h.own _ _ (.head _)) 0 v) ⟨rfl,rfl⟩
end Go.Vc
namespace Go.Lx
open Go.Vc
def ER(r:Bool)(G:cR)(e:Ending)(I:cS)(F:cR):Prop:=e=.returned (.bool r)∧F=G
section
variable {I:cS} {F:cR} {t ty:Nat} {old:Value}
theorem CG(hg:Gl I)(b:Nat):cV P 31 #[.iface 97 (.pointer (some ⟨b,0,none⟩)),.iface 99 (.pointer (some ⟨t,0,none⟩))] I ((t,.cells #[old] ty (0,0))::F) (ER true ((t,.cells #[.pointer (some ⟨b,0,none⟩)] ty (0,0))::F)):=fun w hw=>by
 obtain⟨hc,hf⟩:=j9 hw
 refine (Go.As.Fv _ _ _ w _ true (hg.cell hw) (Go.As.EO ⟨b,0,none⟩ ⟨t,0,none⟩ ⟨w.heap.size,0,none⟩ old _ _ (by simp) (kv hc) (nX hc hf))).mono fun e w' ⟨he,hw'⟩=>⟨I,_,cS.le_refl I, ?_,he,rfl⟩
 rw[hw']
 exact Sat.CF ((((hw.ib _).ib _).ib _).ib _)
theorem Gf(hg:Gl I)(n:Int):cV P 31 #[oq n,.iface 102 (.pointer (some ⟨t,0,none⟩))] I ((t,.cells #[old] ty (0,0))::F) (ER true ((t,.cells #[.int .i64 n] ty (0,0))::F)):=fun w hw=>by
 obtain⟨hc,hf⟩:=j9 hw
 refine (Go.As.D3 _ _ _ w _ true (hg.cell hw) (Go.As.EP n ⟨t,0,none⟩ ⟨w.heap.size,0,none⟩ old _ _ (by simp) (kv hc) (nX hc hf))).mono fun e w' ⟨he,hw'⟩=>⟨I,_,cS.le_refl I, ?_,he,rfl⟩
 rw[hw']
 exact Sat.CF ((((hw.ib _).ib _).ib _).ib _)
theorem ES(hg:Gl I){call:ByteArray}{pos n:Int}{v:Value}(h:xa I call pos (oq n) v):cV P 31 #[v,.iface 102 (.pointer (some ⟨t,0,none⟩))] I ((t,.cells #[old] ty (0,0))::F) (ER true ((t,.cells #[.int .i64 n] ty (0,0))::F)):=fun w hw=>by
 obtain⟨b,rfl,hb⟩:=h
 obtain⟨hc,hf⟩:=j9 hw
 refine (Go.As.D3 _ _ _ w _ true (hg.cell hw) (Go.As.D4 b n ⟨t,0,none⟩ ⟨w.heap.size,0,none⟩ old _ _ (kv (xa.cell hb hw)) (by simp) (kv hc) (nX hc hf))).mono fun e w' ⟨he,hw'⟩=>⟨I,_,cS.le_refl I, ?_,he,rfl⟩
 rw[hw']
 exact Sat.CF ((((hw.ib _).ib _).ib _).ib _)
theorem ET(hg:Gl I){call call':ByteArray}{pos pos' n:Int}{v u:Value}(h:xa I call pos u v)(h':xa I call' pos' (oq n) u):cV P 31 #[v,.iface 102 (.pointer (some ⟨t,0,none⟩))] I ((t,.cells #[old] ty (0,0))::F) (ER true ((t,.cells #[.int .i64 n] ty (0,0))::F)):=fun w hw=>by
 obtain⟨b,rfl,hb⟩:=h
 obtain⟨c,rfl,hc'⟩:=h'
 obtain⟨hc,hf⟩:=j9 hw
 refine (Go.As.D3 _ _ _ w _ true (hg.cell hw) (Go.As.D5 b c n ⟨t,0,none⟩ ⟨w.heap.size,0,none⟩ old _ _ (kv (xa.cell hb hw)) (kv (xa.cell hc' hw)) (by simp) (kv hc) (nX hc hf))).mono fun e w' ⟨he,hw'⟩=>⟨I,_,cS.le_refl I, ?_,he,rfl⟩
 rw[hw']
 exact Sat.CF ((((hw.ib _).ib _).ib _).ib _)
end
def BM(I:cS)(f:TF)(v:Value):Prop :=
 (f.e=0→v=.nilIface)∧(f.e≠0→if f.of then ∃u,xa I BI f.pos (oq f.e) u∧xa I um f.pos u v else xa I um f.pos (oq f.e) v)
theorem BM.mono{I J:cS}{f:TF}{w:Value}(h:BM I f w)(hl:cS.le I J):BM J f w:=⟨h.1,fun he=>by
 have:=h.2 he
 split at this
 ·rename_i hof;rw[if_pos hof];obtain⟨u,h1,h2⟩:=this;exact⟨u,h1.mono hl,h2.mono hl⟩
 ·rename_i hof;rw[if_neg hof];exact this.mono hl⟩
theorem BM.ok{I:cS}:BM I Gb .nilIface:=⟨fun _=>rfl,fun h=>absurd rfl h⟩
end Go.Lx
namespace Go.Lx
open Go.Vc
def jo(t:Tok):Int:=t.pos+t.text.size
def mQ(l:List Tok)(f:Int):Nat→Int
 | 0=>f
 | i+1=>jo ((l[i]?).getD (iL 0))
theorem oX(t:Tok)(l:List Tok)(f:Int)(i:Nat):mQ (t::l) f (i+1)=mQ l (jo t) i:=by cases i<;>rfl
structure Steps (s:ByteArray) (f:Int) (l:List Tok) (o:Option (Int×Int)):Prop where
 tk:∀i,i<l.length→eJ s (mQ l f i)=.ok ((l[i]?).getD (iL 0))
 EU:∀i,i≤l.length→0≤mQ l f i∧mQ l f i≤s.size
 kinds:∀i,i+1<l.length→((l[i]?).getD (iL 0)).kind≠0
 last:o=none→0<l.length∧((l[l.length-1]?).getD (iL 0)).kind=0
 bad:∀e p,o=some (e,p)→eJ s (mQ l f l.length)=.bad e p∧e≠0∧∀i,i<l.length→((l[i]?).getD (iL 0)).kind≠0
theorem Steps.cons{s:ByteArray}{f:Int}{t:Tok}{l:List Tok}{o:Option (Int×Int)}(h0:0≤f)(h1:f≤s.size)(ht:eJ s f=.ok t)(hk:t.kind≠0)(h:Steps s (jo t) l o):Steps s f (t::l) o:=by
 refine⟨fun i hi=>?_,fun i hi=>?_,fun i hi=>?_,fun ho=>?_,fun e p ho=>?_⟩
 ·cases i with
  | zero=>exact ht
  | succ i=>rw[oX,List.getElem?_cons_succ];exact h.tk i (by simpa using hi)
 ·cases i with
  | zero=>exact⟨h0,h1⟩
  | succ i=>rw[oX];exact h.EU i (by simpa using hi)
 ·cases i with
  | zero=>exact hk
  | succ i=>rw[List.getElem?_cons_succ];exact h.kinds i (by simpa using hi)
 ·obtain⟨g0,g1⟩:=h.last ho
  refine⟨by simp, ?_⟩
  obtain⟨n,hn⟩:∃n,l.length=n+1:=⟨l.length-1,by omega⟩
  rw[List.length_cons,hn,Nat.add_sub_cancel,List.getElem?_cons_succ]
  rw[hn,Nat.add_sub_cancel] at g1;exact g1
 ·obtain⟨g1,g2,g3⟩:=h.bad e p ho
  refine⟨by rw[List.length_cons,oX];exact g1,g2,fun i hi=>?_⟩
  cases i with
  | zero=>exact hk
  | succ i=>rw[List.getElem?_cons_succ];exact g3 i (by simpa using hi)
theorem qI(s:ByteArray):∀(n:Nat) (f:Int),0≤f→f≤s.size→(s.size-f+1).toNat≤n→Steps s f (jl s n f).1 (jl s n f).2
 | 0,f,h0,h1,hn=>by omega
 | n+1,f,h0,h1,hn=>by
   unfold jl
   rcases fF h0 h1 with ⟨t,ht,_⟩ | ⟨e,ht,he⟩
   ·have hx:=gO h0 h1 ht
    rw[ht]
    by_cases hk:t.kind=0
    ·simp only[hk,if_true]
     refine⟨fun i hi=>?_,fun i hi=>?_,fun i hi=>?_,fun _=>⟨by simp,hk⟩,fun e p ho=>(by cases ho)⟩
     ·have:i=0:=by simpa using hi
      subst this;exact ht
     ·have hi:i≤1:=hi
      cases i with
      | zero=>exact⟨h0,h1⟩
      | succ i =>
        have:i=0:=by omega
        subst this
        show 0≤t.pos+t.text.size∧t.pos+t.text.size≤(s.size:Int)
        omega
     ·simp at hi
    ·simp only[hk,if_false]
     have:=hx.2.2 hk
     have e0:jo t=t.pos+t.text.size:=rfl
     exact .cons h0 h1 ht hk (qI s n _ (by omega) (by omega) (by omega))
   ·rw[ht]
    refine⟨fun i hi=>(by simp at hi),fun i hi=>?_,fun i hi=>(by simp at hi),fun ho=>(by cases ho),fun e' p' ho=>?_⟩
    ·have:i=0:=by simpa using hi
     subst this;exact⟨h0,h1⟩
    ·cases ho
     exact⟨ht,by rcases he with rfl | rfl | rfl<;>decide,fun i hi=>(by simp at hi)⟩
structure PC.Of (c:PC) (t:ByteArray):Prop where
 len:(t.size:Int)≤4096
 p7:c.l.length≤5000
 st:∃o,Steps t 0 c.l o∧c.bad=(o.map Prod.fst).getD 0∧c.pos=(o.map Prod.snd).getD 0
theorem vf{t:ByteArray}(h:(t.size:Int)≤4096):(de t).Of t:=by
 unfold de
 rw[if_neg (by omega)]
 exact⟨h,by have:=sH t (t.size-0+1:Int).toNat 0;show (hU t 0).1.length≤5000;unfold hU;omega,_,qI t _ 0 (by decide) (by omega) (Nat.le_refl _),rfl,rfl⟩
def PC.Live(c:PC)(s:PS):Prop:=s.over=false∧s.next<c.l.length
def PC.Fx(c:PC):PF:=⟨c.bad,c.pos,true⟩
section
variable {c:PC} {t:ByteArray} {s:PS}
theorem PC.Of.tk(h:c.Of t){i:Nat}(hi:i<c.l.length):eJ t (mQ c.l 0 i)=.ok (c.tok i):=let ⟨_,h,_⟩:=h.st;h.tk i hi
theorem PC.Of.EU(h:c.Of t){i:Nat}(hi:i≤c.l.length):0≤mQ c.l 0 i∧mQ c.l 0 i≤t.size:=let ⟨_,h,_⟩:=h.st;h.EU i hi
theorem PC.Of.next(h:c.Of t){i:Nat}(hi:i<c.l.length)(hk:(c.tok i).kind≠0):i+1<c.l.length∨(i+1=c.l.length∧c.bad≠0∧eJ t (mQ c.l 0 (i+1))=.bad c.bad c.pos):=by
 obtain⟨o,h,hb,hp⟩:=h.st
 by_cases hl:i+1<c.l.length
 ·exact .inl hl
 ·have hl:i+1=c.l.length:=by omega
  right
  cases o with
  | none =>
    have:=(h.last rfl).2
    rw[←hl,Nat.add_sub_cancel] at this
    exact absurd this hk
  | some ep =>
    obtain⟨g1,g2,_⟩:=h.bad ep.1 ep.2 rfl
    rw[hb,hp,hl];exact⟨rfl,g2,g1⟩
theorem PC.Of.none(h:c.Of t)(hl:c.l.length=0):c.bad≠0∧eJ t 0=.bad c.bad c.pos:=by
 obtain⟨o,h,hb,hp⟩:=h.st
 cases o with
 | none=>have:=(h.last rfl).1;omega
 | some ep =>
   obtain⟨g1,g2,_⟩:=h.bad ep.1 ep.2 rfl
   rw[hl] at g1
   rw[hb,hp];exact⟨g2,g1⟩
theorem PC.Live.now(h:c.Live s):c.now s=c.tok s.next:=by
 unfold PC.now;rw[h.1,if_neg];have:=h.2;simp;omega
theorem PC.Live.inc(h:c.Of t)(hl:c.Live s)(hk:(c.tok s.next).kind≠0):c.Live s.inc∨(s.next+1=c.l.length∧c.dD c.Fx s.inc):=by
 rcases h.next hl.2 hk with h1 | ⟨h1,h2,_⟩
 ·exact .inl ⟨hl.1,h1⟩
 ·refine .inr ⟨h1, ?_,fun _=>h2⟩
  have h1:c.l.length≤s.inc.next:=by show _≤s.next+1;omega
  have ho:s.inc.over=false:=hl.1
  unfold PC.fin;rw[ho,if_neg (by simp),if_pos h1];rfl
theorem PC.Live.cX(hl:c.Live s){e:Int}(he:e≠0):c.cX e s=⟨s.next,⟨e,(c.tok s.next).pos,false⟩⟩∧c.dD ⟨e,(c.tok s.next).pos,false⟩ (c.cX e s):=by
 have h1:c.cX e s=⟨s.next,⟨e,(c.tok s.next).pos,false⟩⟩:=by
  unfold PC.cX;rw[hl.1,if_neg (by simp),if_neg (by have:=hl.2;omega)]
 refine⟨h1, ?_⟩
 have ho:PS.over ⟨s.next,⟨e,(c.tok s.next).pos,false⟩⟩=true:=by simpa[PS.over] using he
 rw[h1]
 exact⟨by unfold PC.fin;rw[if_pos ho],fun h=>by rw[ho] at h;cases h⟩
end
def EV(t:ByteArray)(k:Tok)(f:Int):List Value:=[.string t,.int .u8 k.kind,.string k.text,.int .u8 k.dJ,.int .i64 k.n,.int .i64 k.pos,.int .i64 f]
def CH(t:ByteArray)(k:Tok)(f:Int):Obj:=.cells (EV t k f).toArray 143 (0,0)
def pX(t:ByteArray)(b:Nat)(k:Tok)(f:Int):Nat×Obj:=(b,CH t k f)
def PC.px(c:PC)(t:ByteArray)(b:Nat)(s:PS):Nat×Obj:=pX t b (c.tok s.next) (jo (c.tok s.next))
def Fy(b:Nat):List PanicEntry:=[{ v:=.iface 97 (.pointer (some ⟨b,0,none⟩)),recovered:=false }]
def C2(f:PF)(u:Value)(B:cR):Prop:=match f.tok with
 | true=>∃b,u=.iface 97 (.pointer (some ⟨b,0,none⟩))∧B=[(b,.cells #[.string (⟨#[84,111,107,101,110,115]⟩:ByteArray),.int .i64 f.pos,oq f.e] 101 (0,0))]
 | false=>u=oq f.e∧B=[]
def dk(f:PF)(F0:cR)(e:Ending)(G:cR):Prop:=∃(b:Nat) (u:Value) (B X:cR),e=.panicked (Fy b)∧C2 f u B∧G.Perm ((b,.cells #[.string ⟨#[]⟩,.int .i64 f.pos,u] 101 (0,0))::(B++(X++F0)))
theorem dk.perm{f:PF}{F0 F1 G H:cR}{e:Ending}(h:dk f F0 e G)(p:F0.Perm F1)(q:H.Perm G):dk f F1 e H :=
 let ⟨b,u,B,X,he,hu,hG⟩:=h;⟨b,u,B,X,he,hu,q.trans (hG.trans (((p.append_left X).append_left B).cons _))⟩
theorem dk.more{f:PF}{A F0 G:cR}{e:Ending}(h:dk f (A++F0) e G):dk f F0 e G :=
 let ⟨b,u,B,X,he,hu,hG⟩:=h;⟨b,u,B,X++A,he,hu,by rw[List.append_assoc];exact hG⟩
theorem dk.C3{f:PF}{x:Nat×Obj}{F0 G:cR}{e:Ending}(h:dk f F0 e G):dk f F0 e (x::G) :=
 let ⟨b,u,B,X,he,hu,hG⟩:=h;⟨b,u,B,x::X,he,hu,(hG.cons x).trans (cY fun z=>by simp only[c6,cZ,c8];omega)⟩
theorem dk.pass{f:PF}{F0 G:cR}{e:Ending}{I:cS}{Q:Ending→cS→cR→Prop}(h:dk f F0 e G)(k:∀e',dk f F0 e' G→Q e' I G):∃ch,e=.panicked ch∧∃F2:cR,List.Perm G F2∧Q (.panicked ch) I F2 :=
 let ⟨b,u,B,X,he,hu,hG⟩:=h;⟨_,he,G,.refl _,k _ ⟨b,u,B,X,rfl,hu,hG⟩⟩
theorem dk.dG{f:PF}{F0 G:cR}{e:Ending}{I:cS}{Q:Ending→cS→cR→Prop}(L:cR)(h:dk f (L++F0) e G)(k:∀e' G',dk f F0 e' G'→Q e' I G'):∃ch,e=.panicked ch∧∃F2:cR,List.Perm G (L++F2)∧Q (.panicked ch) I F2:=by
 obtain⟨b,u,B,X,he,hu,hG⟩:=h
 exact⟨_,he,_,hG.trans (cY fun z=>by simp only[c6,cZ,c8];omega),k _ _ ⟨b,u,B,X,rfl,hu,.refl _⟩⟩
def dc(c:PC)(t:ByteArray)(b:Nat){α:Type}(val:α→Value→cR→Prop)(F0:cR)(r:α×PS)(e:Ending)(I:cS)(G:cR):Prop :=
 (c.Live r.2∧∃v H,e=.returned v∧val r.1 v H∧G.Perm (c.px t b r.2::(H++F0)))∨∃f,c.dD f r.2∧dk f F0 e G
section
variable {c:PC} {t:ByteArray} {b:Nat} {α:Type} {val:α→Value→cR→Prop} {F0:cR} {r:α×PS}
theorem dc.use{g:Nat}{args:Array Value}{I:cS}{F:cR}{Q:Ending→cS→cR→Prop}(h:cV P g args I F (dc c t b val F0 r))
  (k1:∀v H I' G,cS.le I I'→c.Live r.2→val r.1 v H→G.Perm (c.px t b r.2::(H++F0))→Q (.returned v) I' G) (k2:∀f e I' G,cS.le I I'→c.dD f r.2→dk f F0 e G→Q e I' G):cV P g args I F Q :=
 h.mono fun e I' G hl hd=>by
  rcases hd with ⟨h1,v,H,rfl,hv,hG⟩ | ⟨f,hd,hf⟩
  ·exact k1 v H I' G hl h1 hv hG
  ·exact k2 f e I' G hl hd hf
end
def Fz(x:Unit)(v:Value)(H:cR):Prop:=v=.tuple #[]∧H=[]
def FA(x:Int)(v:Value)(H:cR):Prop:=v=.int .i64 x∧H=[]
def FB(x:ByteArray)(v:Value)(H:cR):Prop:=v=.string x∧H=[]
def pP(x:Px)(v:Value)(H:cR):Prop:=∃t:Nd,v=t.v∧t.px=x∧eG 64 false t H
end Go.Lx
namespace Go.Lx
open Go.Vc Go.Proofs.Tryz
def ky:List (Nat×List Sh):=[(0,[]),(2,[.one (.int .i64)]),(3,[.one (.int .i64)]),(9,[.one .str]),(60,[.one (.int .u8)]),(74,[.one (.int .u8)]),(81,[.one .slc,.one (.int .i64),.one (.int .i64)]),(206,[.agg [(.int .u8),.str,(.int .u8),(.int .i64),(.int .i64)],.one (.int .i64),.one (.int .i64)])]
def jX.V(b:OA)(a c:Nat)(v:Bs)(I:cS)(F:cR)(Q:cU)(Inv6:Int→Int→Nat→cS→cR→Prop):Prop:=(∃m:Nat,Inv6 0 0 m I F)∧∀(x x1:Int) (m1:Nat) (I1:cS) (F1:cR),cS.le I I1→Inv6 x x1 m1 I1 F1→(Dt (x1<(a:Int)) ((0≤x1∧x1<(a:Int))∧∃ad:Addr,b=some ad∧∃(m2:Bs),Rd I1 F1 (ad.add (Int.toNat x1*1)) [.string m2]∧(It (v.toList==m2.toList) (Q (.returned (.int .i64 x1)) I1 F1) (∃m3:Nat,m3<m1∧Inv6 x (IntKind.wrap .i64 (x1+1)) m3 I1 F1))) (Q (.returned (.int .i64 (-1))) I1 F1))
theorem jX.vc{a:OA}{b c:Nat}{v:Bs}{I:cS}{F:cR}{Q:cU}(Inv6:Int→Int→Nat→cS→cR→Prop)(h:jX.V a b c v I F Q Inv6):cV P 125 #[.slice a b c,.string v] I F Q :=
 tw (A:=(eM [2000,4005] [] [] ky [(6,⟨[(4,(.int .i64)),(8,(.int .i64))],[],fun _ _ _ vs m I F=>match vs with | [.int _ y0,.int _ y1]=>Inv6 y0 y1 m I F | _=>False,[],[]⟩)] [] [] [] [] [] [])) [] func125 h
def jY.V(s:Bs)(a:Int)(I:cS)(F:cR)(Q:cU)  : Prop:=((0≤a∧a≤(s.size:Int)∧(s.size:Int)≤(s.size:Int))∧sg P 124 (#[.string (s.extract (Int.toNat a) (Int.toNat ((s.size:Int))))]) I (·) F fun e1 I1 G1=>∃(b:OA) (c d:Nat) (r1 r2:Int),e1=.returned (.tuple #[.slice b c d,.int .i64 r1,.int .i64 r2])∧G1 fun F1=>Q (.returned (.int .i64 (IntKind.wrap .i64 (a+r2)))) I1 F1)
theorem jY.vc{s:Bs}{a:Int}{I:cS}{F:cR}{Q:cU}  (h:jY.V s a I F Q):cV P 103 #[.string s,.int .i64 a] I F Q :=
 tw (A:=(an [] [124] ky)) [124] func103 h
def kY.V(vb:Int→Value)(vs:Bs→Value)(vl:OA→Nat→Nat→Value)(a:Int)(I:cS)(F:cR)(Q:cU)  : Prop:=(It (a==2) (∀(b:Nat) (I1:cS),cS.le I I1→I1 b=some (Obj.cells #[vs (⟨#[124,124]⟩:Bs)] 9 (0,0))→Q (.returned (.tuple #[vl (some ⟨b,0,none⟩) 1 1,vb 18])) I1 F) (It (a==3) (∀(b1:Nat) (I2:cS),cS.le I I2→I2 b1=some (Obj.cells #[vs (⟨#[38,38]⟩:Bs)] 9 (0,0))→Q (.returned (.tuple #[vl (some ⟨b1,0,none⟩) 1 1,vb 17])) I2 F) (It (a==4) (∀(b2:Nat) (I3:cS),cS.le I I3→I3 b2=some (Obj.cells #[vs (⟨#[61,61]⟩:Bs),vs (⟨#[33,61]⟩:Bs),vs (⟨#[60]⟩:Bs),vs (⟨#[60,61]⟩:Bs),vs (⟨#[62]⟩:Bs),vs (⟨#[62,61]⟩:Bs)] 9 (0,0))→Q (.returned (.tuple #[vl (some ⟨b2,0,none⟩) 6 6,vb 11])) I3 F) (It (a==5) (∀(b3:Nat) (I4:cS),cS.le I I4→I4 b3=some (Obj.cells #[vs (⟨#[43]⟩:Bs),vs (⟨#[45]⟩:Bs)] 9 (0,0))→Q (.returned (.tuple #[vl (some ⟨b3,0,none⟩) 2 2,vb 6])) I4 F) (∀(b4:Nat) (I5:cS),cS.le I I5→I5 b4=some (Obj.cells #[vs (⟨#[42]⟩:Bs),vs (⟨#[47]⟩:Bs),vs (⟨#[37]⟩:Bs)] 9 (0,0))→Q (.returned (.tuple #[vl (some ⟨b4,0,none⟩) 3 3,vb 8])) I5 F)))))
theorem kY.vc{a:Int}{I:cS}{F:cR}{Q:cU}  (h:kY.V (.int .u8) .string .slice a I F Q):cV P 115 #[.int .i64 a] I F Q :=
 tw (A:=(eM [2000,4000,6000,8000] [] [] ky [] [3000,5000,7000,9000,10000] [] [] [] [] [])) [] func115 h
def gh.V(p:Addr)(e1:Int)(I:cS)(F:cR)(Q:cU)  : Prop:=∃ad:Addr,some p=some ad∧∃(m:Int),Rd I F ((ad.add 1).add 4) [.int .i64 m]∧∀b:Nat,Q (.panicked ([{ v:=Value.iface 97 (.pointer (some (⟨b,0,none⟩:Addr))),recovered:=false }])) I (((b,Obj.cells #[.string (⟨#[]⟩:Bs),.int .i64 m,Value.iface 48 (.int .i64 e1)] 101 (0,0))::F))
theorem gh.vc{p:Addr}{e1:Int}{I:cS}{F:cR}{Q:cU}  (h:gh.V p e1 I F Q):cV P 65 #[.pointer (some p),.int .i64 e1] I F Q :=
 tw (A:=(eM [] [] [] ky [] [] [8] [] [] [] [])) [] func65 h
def eQ.V(ka:Nat→Int→Bs→Int→Int→Int→Nat×Obj)(kb:Nat→Bs→Int→Value→Nat×Obj)(vb vi:Int→Value)(vs:Bs→Value)(vp:OA→Value)(p:Addr)(I:cS)(F:cR)(Q:cU)  : Prop:=∃ad:Addr,some p=some ad∧∃ae:Addr,some p=some ae∧∃(m:Bs),Rd I F (ad.add 0) [vs m]∧∃(m1:Int),Rd I F (ae.add 6) [vi m1]∧(sg P 102 #[vs m,vi m1] I (·) F fun e1 I1 G1=>∃(g:Int) (h:Bs) (i j k r1 r2:Int),e1=.returned (.tuple #[.agg #[vb g,vs h,vb i,vi j,vi k],vi r1,vi r2])∧G1 fun F1=>∀u:Nat,(It (r2 != 0) (It (r2 != 110) (∃af:Addr,some p=some af∧∃ag:Addr,some p=some ag∧∃(m2:Bs),Rd I1 ((ka u g h i j k)::F1) (af.add 0) [vs m2]∧∃(m3:Int),Rd I1 ((ka u g h i j k)::F1) (ag.add 6) [vi m3]∧fp P 103 #[vs m2,vi m3] I1 ((ka u g h i j k)::·) F1 vi fun r I2 F2=>∀b:Nat,∀b1:Nat,Q (.panicked ([{ v:=Value.iface 97 (vp (some (⟨b1,0,none⟩:Addr))),recovered:=false }])) I2 (((kb b1 (⟨#[]⟩:Bs) r (Value.iface 97 (vp (some (⟨b,0,none⟩:Addr)))))::((kb b (⟨#[84,111,107,101,110,115]⟩:Bs) r (Value.iface 48 (vi r2)))::F2)))) (∀b2:Nat,∀b3:Nat,Q (.panicked ([{ v:=Value.iface 97 (vp (some (⟨b3,0,none⟩:Addr))),recovered:=false }])) I1 (((kb b3 (⟨#[]⟩:Bs) 0 (Value.iface 97 (vp (some (⟨b2,0,none⟩:Addr)))))::((kb b2 (⟨#[84,111,107,101,110,115]⟩:Bs) 0 (Value.iface 48 (vi r2)))::F1))))) (∃o:Addr,some p=some o∧∃(cs:List Value) (el:Nat) (F3:cR),List.Perm F1 (((o.add 1).block,Obj.cells cs.toArray el (0,0))::F3)∧(o.add 1).spot=none∧(o.add 1).off+5≤cs.length∧∃q:Addr,some p=some q∧∃(w:List Value) (z:Nat) (F4:cR),List.Perm (((o.add 1).block,Obj.cells (dn (o.add 1).off [vb g,vs h,vb i,vi j,vi k] cs).toArray el (0,0))::F3) (((q.add 6).block,Obj.cells w.toArray z (0,0))::F4)∧(q.add 6).spot=none∧(q.add 6).off+1≤w.length∧Q (.returned (.tuple #[])) I1 ((((q.add 6).block,Obj.cells (dn (q.add 6).off [vi r1] w).toArray z (0,0))::F4)))))∧(∀l:Nat,sg P 102 #[vs m,vi m1] I ((ka l 0 (⟨#[]⟩:Bs) 0 0 0)::·) F fun e3 I3 G3=>∃(a:Int) (c:Bs) (d e f aa n:Int),e3=.returned (.tuple #[.agg #[vb a,vs c,vb d,vi e,vi f],vi aa,vi n])∧G3 fun F5=>(It (n != 0) (It (n != 110) (∃ah:Addr,some p=some ah∧∃ai:Addr,some p=some ai∧∃(m4:Bs),Rd I3 ((ka l a c d e f)::F5) (ah.add 0) [vs m4]∧∃(m5:Int),Rd I3 ((ka l a c d e f)::F5) (ai.add 6) [vi m5]∧fp P 103 #[vs m4,vi m5] I3 ((ka l a c d e f)::·) F5 vi fun r3 I4 F6=>∀b4:Nat,∀b5:Nat,Q (.panicked ([{ v:=Value.iface 97 (vp (some (⟨b5,0,none⟩:Addr))),recovered:=false }])) I4 (((kb b5 (⟨#[]⟩:Bs) r3 (Value.iface 97 (vp (some (⟨b4,0,none⟩:Addr)))))::((kb b4 (⟨#[84,111,107,101,110,115]⟩:Bs) r3 (Value.iface 48 (vi n)))::F6)))) (∀b6:Nat,∀b7:Nat,Q (.panicked ([{ v:=Value.iface 97 (vp (some (⟨b7,0,none⟩:Addr))),recovered:=false }])) I3 (((kb b7 (⟨#[]⟩:Bs) 0 (Value.iface 97 (vp (some (⟨b6,0,none⟩:Addr)))))::((kb b6 (⟨#[84,111,107,101,110,115]⟩:Bs) 0 (Value.iface 48 (vi n)))::F5))))) (∃s:Addr,some p=some s∧∃(x:List Value) (ab:Nat) (F7:cR),List.Perm F5 (((s.add 1).block,Obj.cells x.toArray ab (0,0))::F7)∧(s.add 1).spot=none∧(s.add 1).off+5≤x.length∧∃t:Addr,some p=some t∧∃(y:List Value) (ac:Nat) (F8:cR),List.Perm (((s.add 1).block,Obj.cells (dn (s.add 1).off [vb a,vs c,vb d,vi e,vi f] x).toArray ab (0,0))::F7) (((t.add 6).block,Obj.cells y.toArray ac (0,0))::F8)∧(t.add 6).spot=none∧(t.add 6).off+1≤y.length∧Q (.returned (.tuple #[])) I3 ((((t.add 6).block,Obj.cells (dn (t.add 6).off [vi aa] y).toArray ac (0,0))::F8)))))
theorem eQ.vc{p:Addr}{I:cS}{F:cR}{Q:cU}  (h:eQ.V (fun W a b c d e=>(W,Obj.cells #[.int .u8 a,.string b,.int .u8 c,.int .i64 d,.int .i64 e] 76 (0,0))) (fun W a b c=>(W,Obj.cells #[.string a,.int .i64 b,c] 101 (0,0))) (.int .u8) (.int .i64) .string .pointer p I F Q):cV P 64 #[.pointer (some p)] I F Q :=
 tw (A:=(eM [1001,3001] [] [102,103] ky [] [] [5005,5008] [] [] [(0,[0,1,2,4,5,6,3,7]),(4,[0,1,2,4,5,6,3,7,8,9])] [] [(0,8,13,[9,10,11,12,13,14,15,16],[8,9,10,11,12,14,15,16])])) [102,103] func64 h
def iv.V(p:Addr)(s:Bs)(I:cS)(F:cR)(Q:cU)  : Prop:=∃ad:Addr,some p=some ad∧∃(m:Int),Rd I F ((ad.add 1).add 0) [.int .u8 m]∧(It (m==1) (∃a:Addr,some p=some a∧∃(m1:Bs),Rd I F ((a.add 1).add 1) [.string m1]∧Q (.returned (.bool (m1.toList==s.toList))) I F) (∃b:Addr,some p=some b∧∃(m2:Int),Rd I F ((b.add 1).add 0) [.int .u8 m2]∧(It (m2==4) (∃c:Addr,some p=some c∧∃(m3:Bs),Rd I F ((c.add 1).add 1) [.string m3]∧Q (.returned (.bool (m3.toList==s.toList))) I F) (Q (.returned (.bool false)) I F))))
theorem iv.vc{p:Addr}{s:Bs}{I:cS}{F:cR}{Q:cU}  (h:iv.V p s I F Q):cV P 91 #[.pointer (some p),.string s] I F Q :=
 tw (A:=(an [1005,1012] [] ky)) [] func91 h
def gj.V(vi:Int→Value)(vs:Bs→Value)(p:Addr)(a:OA)(b c:Nat)(I:cS)(F:cR)(Q:cU)  : Prop:=∃ad:Addr,some p=some ad∧∃(m:Int),Rd I F ((ad.add 1).add 0) [.int .u8 m]∧(It (m != 1) (∃d:Addr,some p=some d∧∃(m1:Int),Rd I F ((d.add 1).add 0) [.int .u8 m1]∧(It (m1 != 4) (Q (.returned (vi (-1))) I F) (∃e:Addr,some p=some e∧∃(m2:Bs),Rd I F ((e.add 1).add 1) [vs m2]∧fp P 125 #[.slice a b c,vs m2] I (·) F vi fun r I1 F1=>Q (.returned (vi r)) I1 F1))) (∃f:Addr,some p=some f∧∃(m3:Bs),Rd I F ((f.add 1).add 1) [vs m3]∧fp P 125 #[.slice a b c,vs m3] I (·) F vi fun r1 I2 F2=>Q (.returned (vi r1)) I2 F2))
theorem gj.vc{p:Addr}{a:OA}{b c:Nat}{I:cS}{F:cR}{Q:cU}  (h:gj.V (.int .i64) .string p a b c I F Q):cV P 104 #[.pointer (some p),.slice a b c] I F Q :=
 tw (A:=(an [1005,1012] [125] ky)) [125] func104 h
def gU.V(vi:Int→Value)(vp:OA→Value)(p:Addr)(c:OA)(d e:Nat)(I:cS)(F:cR)(Q:cU)  : Prop:=fp P 104 (#[vp (some p),.slice c d e]) I (·) F vi fun r I1 F1=>(Dt (r<0) (cV P 65 (#[vp (some p),vi 130]) I1 F1 fun e2 I2 G2=>((e2=.returned (.tuple #[])∧∃F2:cR,List.Perm G2 F2∧cV P 64 (#[vp (some p)]) I2 F2 fun e3 I3 G3=>((e3=.returned (.tuple #[])∧∃F3:cR,List.Perm G3 F3∧Q (.returned (vi r)) I3 F3)∨(∃ch:List PanicEntry,e3=.panicked ch∧∃F4:cR,List.Perm G3 F4∧Q (.panicked ch) I3 F4)))∨(∃a:List PanicEntry,e2=.panicked a∧∃F5:cR,List.Perm G2 F5∧Q (.panicked a) I2 F5))) (cV P 64 (#[vp (some p)]) I1 F1 fun e4 I4 G4=>((e4=.returned (.tuple #[])∧∃F6:cR,List.Perm G4 F6∧Q (.returned (vi r)) I4 F6)∨(∃b:List PanicEntry,e4=.panicked b∧∃F7:cR,List.Perm G4 F7∧Q (.panicked b) I4 F7))))
theorem gU.vc{p:Addr}{a:OA}{b c:Nat}{I:cS}{F:cR}{Q:cU}  (h:gU.V (.int .i64) .pointer p a b c I F Q):cV P 66 #[.pointer (some p),.slice a b c] I F Q :=
 tw (A:=(eM [2001] [64,65] [64,65,104] ky [] [] [] [] [] [] [])) [64,65,104] func66 h
def gG.V(p:Addr)(I:cS)(F:cR)(Q:cU)  : Prop:=∃ad:Addr,some p=some ad∧∃(m:Bs),Rd I F ((ad.add 1).add 1) [.string m]∧∃a:Addr,some p=some a∧∃(m1:Int),Rd I F ((a.add 1).add 0) [.int .u8 m1]∧(It (m1 != 2) (cV P 65 (#[.pointer (some p),.int .i64 130]) I F fun e1 I1 G1=>((e1=.returned (.tuple #[])∧∃F1:cR,List.Perm G1 F1∧cV P 64 (#[.pointer (some p)]) I1 F1 fun e2 I2 G2=>((e2=.returned (.tuple #[])∧∃F2:cR,List.Perm G2 F2∧Q (.returned (.string m)) I2 F2)∨(∃ch:List PanicEntry,e2=.panicked ch∧∃F3:cR,List.Perm G2 F3∧Q (.panicked ch) I2 F3)))∨(∃b:List PanicEntry,e1=.panicked b∧∃F4:cR,List.Perm G1 F4∧Q (.panicked b) I1 F4))) (cV P 64 (#[.pointer (some p)]) I F fun e3 I3 G3=>((e3=.returned (.tuple #[])∧∃F5:cR,List.Perm G3 F5∧Q (.returned (.string m)) I3 F5)∨(∃c:List PanicEntry,e3=.panicked c∧∃F6:cR,List.Perm G3 F6∧Q (.panicked c) I3 F6))))
theorem gG.vc{p:Addr}{I:cS}{F:cR}{Q:cU}  (h:gG.V p I F Q):cV P 67 #[.pointer (some p)] I F Q :=
 tw (A:=(eM [2005] [64,65] [64,65] ky [] [] [] [] [] [] [])) [64,65] func67 h
def fM.V(p:Addr)(d:Int)(I:cS)(F:cR)(Q:cU)  : Prop:=(It (d==24) (cV P 65 (#[.pointer (some p),.int .i64 132]) I F fun e1 I1 G1=>((e1=.returned (.tuple #[])∧∃F1:cR,List.Perm G1 F1∧Q (.returned (.int .i64 (IntKind.wrap .i64 (d+1)))) I1 F1)∨(∃ch:List PanicEntry,e1=.panicked ch∧∃F2:cR,List.Perm G1 F2∧Q (.panicked ch) I1 F2))) (Q (.returned (.int .i64 (IntKind.wrap .i64 (d+1)))) I F))
theorem fM.vc{p:Addr}{d:Int}{I:cS}{F:cR}{Q:cU}  (h:fM.V p d I F Q):cV P 92 #[.pointer (some p),.int .i64 d] I F Q :=
 tw (A:=(eM [1001] [65] [65] ky [] [] [] [] [] [] [])) [65] func92 h
def fC.V(nV:Int→Int→Int→Int→Int→Bs→OA→Nat→Nat→Int→Value)(nO:Int→Int→Int→Int→Int→Bs→OA→Nat→Nat→Int→Obj)(vs:Bs→Value)(vt:Bool→Value)(vp:OA→Value)(wr:Int→Int)(p:Addr)(I:cS)(F:cR)(Q:cU)  : Prop:=∀b:Nat,∃ad:Addr,some p=some ad∧∃(m:Int),Rd I ((b,nO 0 0 0 0 0 (⟨#[]⟩:Bs) none 0 0 0)::F) ((ad.add 1).add 4) [.int .i64 m]∧∀a:Nat,∃c:Addr,some p=some c∧∃(m1:Int),Rd I ((b,nO 0 0 0 0 0 (⟨#[]⟩:Bs) none 0 0 0)::(a,nO 1 0 0 0 0 (⟨#[]⟩:Bs) none 0 0 m)::F) ((c.add 1).add 0) [.int .u8 m1]∧(It (m1==3) (∃d:Addr,some p=some d∧∃(m2:Int),Rd I ((b,nO 0 0 0 0 0 (⟨#[]⟩:Bs) none 0 0 0)::(a,nO 1 0 0 0 0 (⟨#[]⟩:Bs) none 0 0 m)::F) ((d.add 1).add 2) [.int .u8 m2]∧∃e:Addr,some p=some e∧∃(m3:Int),Rd I F ((e.add 1).add 3) [.int .i64 m3]∧cV P 64 (#[vp (some p)]) I ((b,nO 0 0 0 0 0 (⟨#[]⟩:Bs) none 0 0 0)::(a,nO 1 0 m2 m3 0 (⟨#[]⟩:Bs) none 0 0 m)::F) fun e1 I1 G1=>((e1=.returned (.tuple #[])∧∃F1:cR,List.Perm G1 ((b,nO 0 0 0 0 0 (⟨#[]⟩:Bs) none 0 0 0)::(a,nO 1 0 m2 m3 0 (⟨#[]⟩:Bs) none 0 0 m)::F1)∧Q (.returned (.tuple #[nV 1 0 m2 m3 0 (⟨#[]⟩:Bs) none 0 0 m,vt true])) I1 F1)∨(∃ch:List PanicEntry,e1=.panicked ch∧∃F2:cR,List.Perm G1 ((b,nO 0 0 0 0 0 (⟨#[]⟩:Bs) none 0 0 0)::(a,nO 1 0 m2 m3 0 (⟨#[]⟩:Bs) none 0 0 m)::F2)∧Q (.panicked ch) I1 F2))) (∀(b1:Nat) (I2:cS),cS.le I I2→I2 b1=some (Obj.cells #[vs (⟨#[102,97,108,115,101]⟩:Bs),vs (⟨#[116,114,117,101]⟩:Bs),vs (⟨#[98,117,121]⟩:Bs),vs (⟨#[115,101,108,108]⟩:Bs)] 9 (0,0))→fp P 104 (#[vp (some p),.slice (some ⟨b1,0,none⟩) 4 4]) I2 ((b,nO 0 0 0 0 0 (⟨#[]⟩:Bs) none 0 0 0)::(a,nO 1 0 0 0 0 (⟨#[]⟩:Bs) none 0 0 m)::·) F (.int .i64) fun r I3 F3=>(Dt (r<0) (Q (.returned (.tuple #[nV 0 0 0 0 0 (⟨#[]⟩:Bs) none 0 0 0,vt false])) I3 F3) (Dt (r>1) (cV P 64 (#[vp (some p)]) I3 ((b,nO 0 0 0 0 0 (⟨#[]⟩:Bs) none 0 0 0)::(a,nO 1 0 6 (wr (r-1)) 0 (⟨#[]⟩:Bs) none 0 0 m)::F3) fun e3 I4 G3=>((e3=.returned (.tuple #[])∧∃F4:cR,List.Perm G3 ((b,nO 0 0 0 0 0 (⟨#[]⟩:Bs) none 0 0 0)::(a,nO 1 0 6 (wr (r-1)) 0 (⟨#[]⟩:Bs) none 0 0 m)::F4)∧Q (.returned (.tuple #[nV 1 0 6 (wr (r-1)) 0 (⟨#[]⟩:Bs) none 0 0 m,vt true])) I4 F4)∨(∃f:List PanicEntry,e3=.panicked f∧∃F5:cR,List.Perm G3 ((b,nO 0 0 0 0 0 (⟨#[]⟩:Bs) none 0 0 0)::(a,nO 1 0 6 (wr (r-1)) 0 (⟨#[]⟩:Bs) none 0 0 m)::F5)∧Q (.panicked f) I4 F5))) (cV P 64 (#[vp (some p)]) I3 ((b,nO 0 0 0 0 0 (⟨#[]⟩:Bs) none 0 0 0)::(a,nO 1 0 5 r 0 (⟨#[]⟩:Bs) none 0 0 m)::F3) fun e4 I5 G4=>((e4=.returned (.tuple #[])∧∃F6:cR,List.Perm G4 ((b,nO 0 0 0 0 0 (⟨#[]⟩:Bs) none 0 0 0)::(a,nO 1 0 5 r 0 (⟨#[]⟩:Bs) none 0 0 m)::F6)∧Q (.returned (.tuple #[nV 1 0 5 r 0 (⟨#[]⟩:Bs) none 0 0 m,vt true])) I5 F6)∨(∃g:List PanicEntry,e4=.panicked g∧∃F7:cR,List.Perm G4 ((b,nO 0 0 0 0 0 (⟨#[]⟩:Bs) none 0 0 0)::(a,nO 1 0 5 r 0 (⟨#[]⟩:Bs) none 0 0 m)::F7)∧Q (.panicked g) I5 F7)))))))
theorem fC.vc{p:Addr}{I:cS}{F:cR}{Q:cU}  (h:fC.V (fun k o t n f s a l c q=>.agg #[.int .u8 k,.int .u8 o,.int .u8 t,.int .i64 n,.int .u8 f,.string s,.slice a l c,.int .i64 q]) (fun k o t n f s a l c q=>.cells #[.int .u8 k,.int .u8 o,.int .u8 t,.int .i64 n,.int .u8 f,.string s,.slice a l c,.int .i64 q] 64 (0,0)) .string .bool .pointer (IntKind.wrap .i64) p I F Q):cV P 105 #[.pointer (some p)] I F Q :=
 tw (A:=(eM [2005,5001,8001] [64] [64,104] ky [] [4001] [] [(3,11,[1])] [] [] [(3,12)])) [64,104] func105 h
end Go.Lx
namespace Go.Lx
open Go.Vc
def eu(I:cS)(G:cR)(t:ByteArray)(b:Nat)(k:Tok)(f:Int):Prop:=I b=some (CH t k f)∨(b,CH t k f)∈G
theorem eu.rd{I:cS}{G:cR}{t:ByteArray}{b:Nat}{k:Tok}{f:Int}(h:eu I G t b k f):Rd I G (⟨b,0,none⟩:Addr) (EV t k f):=⟨rfl,_,_,_,h,fun j hj=>by simp⟩
theorem eu.mono{I J:cS}{G H:cR}{t:ByteArray}{b:Nat}{k:Tok}{f:Int}(h:eu I G t b k f)(hl:cS.le I J)(hs:∀x,x∈G→x∈H):eu J H t b k f:=h.imp (fun h=>hl.at h) (hs _)
theorem eu.of{I:cS}{F G:cR}{t:ByteArray}{b:Nat}{k:Tok}{f:Int}(h:F.Perm (pX t b k f::G)):eu I F t b k f:=.inr (h.mem_iff.2 (.head _))
theorem fD{I:cS}{F:cR}{t:ByteArray}{b:Nat}{k:Tok}{f:Int}(h:eu I F t b k f)(e:Int):cV P 65 #[.pointer (some ⟨b,0,none⟩),.int .i64 e] I F fun e' I' G=>dk ⟨e,k.pos,false⟩ F e' G:=by
 refine gh.vc ?_
 unfold gh.V
 exact⟨_,rfl,_,h.rd.dQ (p:=1) (q:=4) rfl,fun b1=>⟨b1,_,[],[],rfl,⟨rfl,rfl⟩,.refl _⟩⟩
theorem zi{I:cS}{G:cR}{b ty:Nat}{v:Value}(h:(b,Obj.cells #[v] ty (0,0))∈G):Rd I G (⟨b,0,none⟩:Addr) [v]:=Rd.AY h 0 fun j hj=>by
 have:j=0:=by simpa using hj
 subst this;rfl
theorem vg{x p:Nat×Obj}{F F0:cR}(h:F.Perm (p::F0)):(x::F).Perm (p::x::F0):=(h.cons x).trans (.swap ..)
theorem gB{x y p:Nat×Obj}{F F0:cR}(h:F.Perm (p::F0)):(x::y::F).Perm (p::x::y::F0):=vg (vg h)
theorem vh{x y z p:Nat×Obj}{F F0:cR}(h:F.Perm (p::F0)):(x::y::z::F).Perm (p::x::y::z::F0):=vg (vg (vg h))
theorem xq{x y z u p:Nat×Obj}{F F0:cR}(h:F.Perm (p::F0)):(x::y::z::u::F).Perm (p::x::y::z::u::F0):=vg (vg (vg (vg h)))
theorem dk.tail{f:PF}{x:Nat×Obj}{F F0 G:cR}{e:Ending}(h:dk f F e G)(p:F.Perm (x::F0)):dk f F0 e G:=dk.more (A:=[x]) (h.perm p (.refl _))
theorem yk{t:ByteArray}{f:Int}(h0:0≤f)(h1:f≤t.size):gS (cut t f t.size) t f :=
 ⟨h0,by rw[eD h0 h1 (Int.le_refl _)];omega,fun k g0 g1=>by
   rw[eD h0 h1 (Int.le_refl _)] at g1
   rw[ld h0 g0 (by omega) (Int.le_refl _),Int.add_comm]⟩
theorem nC{t:ByteArray}(hs:(t.size:Int)≤4096){f:Int}(h0:0≤f)(h1:f≤t.size){e p:Int}(ht:eJ t f=.bad e p)(I:cS)(F:cR):cV P 103 #[.string t,.int .i64 f] I F (jg (.int .i64 p) F):=by
 have hB:=yk h0 h1
 have hz:=eD h0 h1 (Int.le_refl _)
 have hp:0≤p∧p≤t.size:=by
  have ho:=eO (s:=t) h1
  rcases fF h0 h1 with ⟨_,h,_⟩ | ⟨e',h,_⟩
  ·rw[ht] at h;cases h
  ·rw[ht] at h
   have:p=da t f:=(TR.bad.inj h).2
   omega
 have htk:=hB.tok (f:=0) (by decide) (by omega)
 rw[Int.zero_add,ht] at htk
 have hb:eJ (cut t f t.size) 0=.bad e (p-f):=by
  cases hc:eJ (cut t f t.size) 0 with
  | ok u=>rw[hc] at htk;cases htk
  | bad e' p' =>
    rw[hc] at htk
    obtain⟨rfl,rfl⟩:=TR.bad.inj htk
    rw[show p'+f-f=p' by omega]
 have hT:pE (cut t f t.size)=.error (e,p-f):=by
  unfold pE
  rw[if_neg (by omega),fQ (by decide) (by omega),hb]
 refine jY.vc ?_
 unfold jY.V
 refine⟨⟨h0,h1,Int.le_refl _⟩,(wO (s:=cut t f t.size) (by unfold dV;omega) I F).mono fun e1 I1 G l1 hr=>?_⟩
 obtain⟨rfl,hr⟩:=hr
 rw[hT] at hr
 refine⟨_,_,_,_,_,hr,_,.refl _, ?_,rfl⟩
 rw[gN (by omega),show f+(p-f)=p by omega]
theorem zj{I:cS}{F F0:cR}{t:ByteArray}(hs:(t.size:Int)≤4096){b:Nat}{k:Tok}{f:Int}(h0:0≤f)(h1:f≤t.size)(hF:F.Perm (pX t b k f::F0)) :
  cV P 64 #[.pointer (some ⟨b,0,none⟩)] I F fun e' I' G=>match eJ t f with
   | .ok k'=>e'=.returned (.tuple #[])∧G.Perm (pX t b k' (jo k')::F0)
   | .bad e p=>dk ⟨e,p,true⟩ F0 e' G:=by
 have hp:=eu.of (I:=I) hF
 refine eQ.vc ?_
 unfold eQ.V
 have hshort:dV t:=by unfold dV;omega
 have hnx:ue t f=match eJ t f with
  | .ok t'=>.tuple #[t'.v,.int .i64 (t'.pos+t'.text.size),.int .i64 0]
  | .bad e p=>.tuple #[(iL 0).v,.int .i64 0,.int .i64 e]:=by unfold ue;rw[if_neg (by omega),if_neg (by omega)];cases eJ t f<;>rfl
 have hst:∀(k':Tok),pX t b k' (jo k')=(((⟨b,0,none⟩:Addr).add 6).block,Obj.cells (dn ((⟨b,0,none⟩:Addr).add 6).off [.int .i64 (jo k')] (dn ((⟨b,0,none⟩:Addr).add 1).off [.int .u8 k'.kind,.string k'.text,.int .u8 k'.dJ,.int .i64 k'.n,.int .i64 k'.pos] (EV t k f))).toArray 143 (0,0)):=fun k'=>by
  rw[fy,fy];rfl
 refine⟨_,rfl,_,rfl,_,hp.rd.field (o:=0) rfl,_,hp.rd.field (o:=6) rfl, ?_,fun b_t=>?_⟩
 ·refine cV.ret (nQ hshort I _) fun I1 l1=>?_
  rw[hnx]
  rcases fF h0 h1 with ⟨k',ht,_⟩ | ⟨e,ht,he⟩
  ·rw[ht]
   refine⟨_,_,_,_,_,_,_,rfl,_,.refl _,fun b_t=>⟨fun h=>absurd h (by decide),fun _=>⟨_,rfl,EV t k f,143,F0,hF,rfl,by rw[fy];exact (by decide:1+5≤7),_,rfl,_,143,F0,.refl _,rfl,by rw[fy,fy];exact (by decide:6+1≤7),rfl, ?_⟩⟩⟩
   rw[hst k'];exact .refl _
  ·rw[ht]
   refine⟨_,_,_,_,_,_,_,rfl,_,.refl _,fun b_t=>⟨fun _=>⟨fun _=>?_,fun h=>?_⟩,fun h=>?_⟩⟩
   ·have hp1:=(hp.mono (J:=I1) (H:=(b_t,Obj.cells #[.int .u8 0,.string ⟨#[]⟩,.int .u8 0,.int .i64 0,.int .i64 0] 76 (0,0))::F) l1 fun x hx=>.tail _ hx)
    refine⟨_,rfl,_,rfl,_,hp1.rd.field (o:=0) rfl,_,hp1.rd.field (o:=6) rfl,cV.ret (nC hs h0 h1 ht I1 _) fun I2 l2=>⟨_,rfl,F,.refl _,fun b1 b2=>?_⟩⟩
    exact dk.tail (F:=F) ⟨b2,_,_,[],rfl,⟨b1,rfl,rfl⟩,.refl _⟩ hF
   ·rcases he with rfl | rfl | rfl<;>exact absurd h (by decide)
   ·rcases he with rfl | rfl | rfl<;>exact absurd h (by decide)
 ·refine cV.ret (nQ hshort I _) fun I1 l1=>?_
  rw[hnx]
  rcases fF h0 h1 with ⟨k',ht,_⟩ | ⟨e,ht,he⟩
  ·rw[ht]
   refine⟨_,_,_,_,_,_,_,rfl,_,.refl _,⟨fun h=>absurd h (by decide),fun _=>⟨_,rfl,EV t k f,143,F0,hF,rfl,by rw[fy];exact (by decide:1+5≤7),_,rfl,_,143,F0,.refl _,rfl,by rw[fy,fy];exact (by decide:6+1≤7),rfl, ?_⟩⟩⟩
   rw[hst k'];exact .refl _
  ·rw[ht]
   refine⟨_,_,_,_,_,_,_,rfl,_,.refl _,⟨fun _=>⟨fun _=>?_,fun h=>?_⟩,fun h=>?_⟩⟩
   ·have hp1:=(hp.mono (J:=I1) (H:=(b_t,Obj.cells #[.int .u8 0,.string ⟨#[]⟩,.int .u8 0,.int .i64 0,.int .i64 0] 76 (0,0))::F) l1 fun x hx=>.tail _ hx)
    refine⟨_,rfl,_,rfl,_,hp1.rd.field (o:=0) rfl,_,hp1.rd.field (o:=6) rfl,cV.ret (nC hs h0 h1 ht I1 _) fun I2 l2=>⟨_,rfl,F,.refl _,fun b1 b2=>?_⟩⟩
    exact dk.tail (F:=F) ⟨b2,_,_,[],rfl,⟨b1,rfl,rfl⟩,.refl _⟩ hF
   ·rcases he with rfl | rfl | rfl<;>exact absurd h (by decide)
   ·rcases he with rfl | rfl | rfl<;>exact absurd h (by decide)
theorem BN{I:cS}{F F0:cR}{t:ByteArray}(hs:4096<(t.size:Int))(hs2:dV t){b:Nat}{k:Tok}{f:Int}(hF:F.Perm (pX t b k f::F0)) :
  cV P 64 #[.pointer (some ⟨b,0,none⟩)] I F fun e' I' G=>dk ⟨110,0,true⟩ F0 e' G:=by
 have hp:=eu.of (I:=I) hF
 refine eQ.vc ?_
 unfold eQ.V
 have hnx:ue t f=.tuple #[(iL 0).v,.int .i64 0,.int .i64 110]:=by unfold ue;rw[if_pos (by omega)]
 refine⟨_,rfl,_,rfl,_,hp.rd.field (o:=0) rfl,_,hp.rd.field (o:=6) rfl, ?_,fun b_t=>?_⟩
 ·refine cV.ret (nQ hs2 I _) fun I1 l1=>?_
  rw[hnx]
  exact⟨_,_,_,_,_,_,_,rfl,_,.refl _,fun b_t=>⟨fun _=>⟨fun h=>absurd h (by decide),fun _ b1 b2=>dk.tail (F:=F) ⟨b2,_,_,[],rfl,⟨b1,rfl,rfl⟩,.refl _⟩ hF⟩,fun h=>absurd h (by decide)⟩⟩
 ·refine cV.ret (nQ hs2 I _) fun I1 l1=>?_
  rw[hnx]
  exact⟨_,_,_,_,_,_,_,rfl,_,.refl _,⟨fun _=>⟨fun h=>absurd h (by decide),fun _ b1 b2=>dk.tail (F:=F) ⟨b2,_,_,[],rfl,⟨b1,rfl,rfl⟩,.refl _⟩ hF⟩,fun h=>absurd h (by decide)⟩⟩
def xc(v:ByteArray):List ByteArray→Int→Int
 | [],_=>-1
 | w::r,i=>if v.toList==w.toList then i else xc v r (i+1)
theorem sR{c:PC}{s:PS}(hk:(c.now s).kind=1∨(c.now s).kind=4):∀(ws:List ByteArray) (i:Int),c.gA s ws i=xc (c.now s).text ws i
 | [],i=>rfl
 | w::r,i=>by
   rw[PC.gA,xc,sR hk r]
   have:c.eo w s=((c.now s).text.toList==w.toList):=by
    unfold PC.eo
    rcases hk with h | h<;>rw[h]<;>simp
   rw[this]
theorem any_none{c:PC}{s:PS}(h1:(c.now s).kind≠1)(h4:(c.now s).kind≠4):∀(ws:List ByteArray) (i:Int),c.gA s ws i = -1
 | [],i=>rfl
 | w::r,i=>by
   have:c.eo w s=false:=by unfold PC.eo;simp[h1,h4]
   rw[PC.gA,this,if_neg (by simp),any_none h1 h4 r]
theorem sS{v:ByteArray}{a:Option Addr}{n k:Nat}{ws:List ByteArray}{I:cS}(hS:Sl I 1 lb a n ws)(hl:n≤100)(F:cR):cV P 125 #[.slice a n k,.string v] I F (jg (.int .i64 (xc v ws 0)) F):=by
 have hn:=hS.1
 refine jX.vc (fun x i m I' F'=>F'=F∧0≤i∧i≤n∧m=(n-i).toNat∧xc v ws 0=xc v (ws.drop i.toNat) i) ?_
 unfold jX.V
 refine⟨⟨_,rfl,by omega,by omega,rfl,rfl⟩,fun x i m1 I1 F1 l1 ⟨gF,g0,g1,gm,ge⟩=>⟨fun hlt=>?_,fun hlt=>⟨?_,gF⟩⟩⟩
 ·subst gF
  have hlt:=of_decide_eq_true hlt
  obtain⟨ad,w,ha,hw,hr⟩:=(hS.mono l1).at g0 hlt
  obtain⟨hk,rfl⟩:=List.getElem?_eq_some_iff.1 hw
  rw[List.drop_eq_getElem_cons hk,xc] at ge
  refine⟨⟨g0,hlt⟩,ad,ha,_,hr _,fun h=>⟨?_,rfl⟩,fun h=>⟨(n-(i+1)).toNat,by omega,rfl, ?_⟩⟩
  ·rw[ge,if_pos h]
  ·rw[gN (n:=i+1) (by omega)]
   refine⟨by omega,by omega,rfl, ?_⟩
   rw[ge,if_neg (by simp[h]),show (i+1).toNat=i.toNat+1 by omega]
 ·have hlt:=of_decide_eq_false hlt
  rw[ge,List.drop_eq_nil_of_le (by omega),xc]
section
variable {c:PC} {t:ByteArray} {s:PS} {b:Nat} {I:cS} {F F0:cR}
theorem pQ(hl:c.Live s)(hp:eu I F t b (c.tok s.next) (jo (c.tok s.next)))(w:ByteArray):cV P 91 #[.pointer (some ⟨b,0,none⟩),.string w] I F (jg (.bool (c.eo w s)) F):=by
 refine iv.vc ?_
 unfold iv.V
 have hn:=hl.now
 refine⟨_,rfl,_,hp.rd.dQ (p:=1) (q:=0) rfl,fun h=>⟨_,rfl,_,hp.rd.dQ (p:=1) (q:=1) rfl, ?_,rfl⟩,fun h=>⟨_,rfl,_,hp.rd.dQ (p:=1) (q:=0) rfl,fun h2=>⟨_,rfl,_,hp.rd.dQ (p:=1) (q:=1) rfl, ?_,rfl⟩,fun h2=>⟨?_,rfl⟩⟩⟩ <;>
  unfold PC.eo<;>rw[hn]<;>simp_all
theorem ik(hl:c.Live s)(hp:eu I F t b (c.tok s.next) (jo (c.tok s.next))){a:Option Addr}{n k:Nat}{ws:List ByteArray}(hS:Sl I 1 lb a n ws)(hn:n≤100) :
  cV P 104 #[.pointer (some ⟨b,0,none⟩),.slice a n k] I F (jg (.int .i64 (c.any ws s)) F):=by
 refine gj.vc ?_
 unfold gj.V
 have hw:=hl.now
 refine⟨_,rfl,_,hp.rd.dQ (p:=1) (q:=0) rfl,fun h=>⟨_,rfl,_,hp.rd.dQ (p:=1) (q:=0) rfl,fun h2=>⟨?_,rfl⟩,fun h2=>⟨_,rfl,_,hp.rd.dQ (p:=1) (q:=1) rfl,cV.ret (sS hS hn F) fun I1 l1=>⟨_,rfl,F,.refl _, ?_,rfl⟩⟩⟩,fun h=>⟨_,rfl,_,hp.rd.dQ (p:=1) (q:=1) rfl,cV.ret (sS hS hn F) fun I1 l1=>⟨_,rfl,F,.refl _, ?_,rfl⟩⟩⟩
 ·unfold PC.any;rw[any_none (by rw[hw];simpa using h) (by rw[hw];simpa using h2)]
 ·unfold PC.any;rw[sR (.inr (by rw[hw];simpa using h2)),hw]
 ·unfold PC.any;rw[sR (.inl (by rw[hw];simpa using h)),hw]
def PC.oneOf(c:PC)(ws:List ByteArray)(s:PS):Int×PS:=(c.any ws s,if c.any ws s<0 then c.cX 130 s else s.inc)
theorem oY(c:PC)(w:ByteArray)(s:PS):(c.take w s).2=(c.oneOf [w] s).2:=by
 unfold PC.take PC.oneOf PC.any PC.gA PC.gA
 split
 ·rw[if_neg (by decide)]
 ·rw[if_pos (by decide)]
theorem il{ws:List ByteArray}(hl:c.Live s)(h:0≤c.any ws s):(c.tok s.next).kind≠0:=fun hk=>by
 have:c.any ws s = -1:=any_none (by rw[hl.now,hk];decide) (by rw[hl.now,hk];decide) ws 0
 omega
theorem eA(hc:c.Of t)(hl:c.Live s)(hk:(c.tok s.next).kind≠0)(hF:F.Perm (c.px t b s::F0)):cV P 64 #[.pointer (some ⟨b,0,none⟩)] I F (dc c t b Fz F0 ((),s.inc)):=by
 have hfr:mQ c.l 0 (s.next+1)=jo (c.tok s.next):=rfl
 have hr:=hc.EU (i:=s.next+1) hl.2
 rw[hfr] at hr
 refine (zj hc.len hr.1 hr.2 hF).mono fun e I' G l h=>?_
 rcases hc.next hl.2 hk with h1 | ⟨h1,h2,h3⟩
 ·have ht:=hc.tk h1
  rw[hfr] at ht
  rw[ht] at h
  exact .inl ⟨⟨hl.1,h1⟩,_,[],h.1,⟨rfl,rfl⟩,h.2⟩
 ·rw[hfr] at h3
  rw[h3] at h
  rcases hl.inc hc hk with g | ⟨_,g⟩
  ·have:=g.2
   have h9:s.inc.next=s.next+1:=rfl
   omega
  ·exact .inr ⟨_,g,h⟩
theorem qk(hc:c.Of t)(hl:c.Live s){a:Option Addr}{n k:Nat}{ws:List ByteArray}(hS:Sl I 1 lb a n ws)(hn:n≤100)(hF:F.Perm (c.px t b s::F0)) :
  cV P 66 #[.pointer (some ⟨b,0,none⟩),.slice a n k] I F (dc c t b FA F0 (c.oneOf ws s)):=by
 refine gU.vc ?_
 unfold gU.V
 refine cV.ret (ik hl (.of hF) hS hn) fun I1 l1=>⟨_,rfl,F,.refl _,fun h=>?_,fun h=>?_⟩
 ·have h:=of_decide_eq_true h
  refine (fD (.of hF) 130).mono fun e I2 G l2 hf=>.inr ?_
  refine dk.pass hf fun e' hf'=>.inr ⟨_, ?_,hf'.tail hF⟩
  show c.dD _ (if c.any ws s<0 then c.cX 130 s else s.inc)
  rw[if_pos h];exact (hl.cX (by decide)).2
 ·have h:=of_decide_eq_false h
  have hk:=il (ws:=ws) hl (by omega)
  have e2:(c.oneOf ws s).2=s.inc:=if_neg h
  refine dc.use (eA hc hl hk hF) (fun v H I2 G l2 hL hv hG=>.inl ?_) fun f e I2 G l2 hd hf=>.inr ?_
  ·obtain⟨rfl,rfl⟩:=hv
   exact⟨rfl,G,.refl _,.inl ⟨by rw[e2];exact hL,_,[],rfl,⟨rfl,rfl⟩,by rw[e2];exact hG⟩⟩
  ·exact dk.pass hf fun e' hf'=>.inr ⟨f,by rw[e2];exact hd,hf'⟩
theorem jD(hc:c.Of t)(hl:c.Live s)(hF:F.Perm (c.px t b s::F0)):cV P 67 #[.pointer (some ⟨b,0,none⟩)] I F (dc c t b FB F0 (c.name s)):=by
 have hp:=eu.of (I:=I) hF
 have hw:=hl.now
 refine gG.vc ?_
 unfold gG.V
 refine⟨_,rfl,_,hp.rd.dQ (p:=1) (q:=1) rfl,_,rfl,_,hp.rd.dQ (p:=1) (q:=0) rfl,fun h=>?_,fun h=>?_⟩
 ·have h:(c.tok s.next).kind≠2:=by simpa using h
  refine (fD hp 130).mono fun e I2 G l2 hf=>.inr ?_
  refine dk.pass hf fun e' hf'=>.inr ⟨_, ?_,hf'.tail hF⟩
  unfold PC.name
  rw[hw,if_neg h];exact (hl.cX (by decide)).2
 ·have h:(c.tok s.next).kind=2:=by simpa using h
  have e1:c.name s=((c.tok s.next).text,s.inc):=by unfold PC.name;rw[hw,if_pos h]
  rw[e1]
  refine dc.use (eA hc hl (by rw[h];decide) hF) (fun v H I2 G l2 hL hv hG=>.inl ?_) fun f e I2 G l2 hd hf=>.inr ?_
  ·obtain⟨rfl,rfl⟩:=hv
   exact⟨rfl,G,.refl _,.inl ⟨hL,_,[],rfl,⟨rfl,rfl⟩,hG⟩⟩
  ·exact dk.pass hf fun e' hf'=>.inr ⟨f,hd,hf'⟩
theorem nY{k:Tok}{f:Int}(hp:eu I F t b k f){d:Int}(h0:0≤d)(h1:d≤24):cV P 92 #[.pointer (some ⟨b,0,none⟩),.int .i64 d] I F fun e I' G=>(d<24∧e=.returned (.int .i64 (d+1))∧G=F)∨(d=24∧dk ⟨132,k.pos,false⟩ F e G):=by
 refine fM.vc ?_
 unfold fM.V
 rw[gN (n:=d+1) (by omega)]
 refine⟨fun h=>?_,fun h=>.inl ⟨?_,rfl,rfl⟩⟩
 ·have h:d=24:=by simpa using h
  refine (fD hp 132).mono fun e I2 G l2 hf=>.inr ?_
  exact dk.pass (I:=I2) (Q:=fun e I' G=>(d<24∧e=.returned (.int .i64 (d+1))∧G=F)∨(d=24∧dk ⟨132,k.pos,false⟩ F e G)) hf fun e' hf'=>.inr ⟨h,hf'⟩
 ·have h:d≠24:=by simpa using h
  omega
def q8(l:Int):List ByteArray:=if l=2 then Fp else if l=3 then DC else if l=4 then iU else if l=5 then DB else Cj
def Ah(l:Int):Int:=if l=2 then 18 else if l=3 then 17 else if l=4 then 11 else if l=5 then 6 else 8
theorem xd(l:Int)(I:cS)(F:cR):cV P 115 #[.int .i64 l] I F fun e I' G=>∃(a:Option Addr) (n k:Nat),e=.returned (.tuple #[.slice a n k,.int .u8 (Ah l)])∧Sl I' 1 lb a n (q8 l)∧n≤100∧G=F:=by
 refine kY.vc ?_
 unfold kY.V
 have key:∀{b:Nat} {I1:cS} {ws:List ByteArray} {cs:Array Value},I1 b=some (.cells cs 9 (0,0))→cs.toList=ws.flatMap lb→Sl I1 1 lb (some ⟨b,0,none⟩) ws.length ws:=fun hb hc=>Sl.ki (f:=lb) (z:=1) (fun _=>rfl) hb hc
 refine⟨fun h=>fun b I1 l1 hb=>?_,fun h2=>⟨fun h=>fun b I1 l1 hb=>?_,fun h3=>⟨fun h=>fun b I1 l1 hb=>?_,fun h4=>⟨fun h=>fun b I1 l1 hb=>?_,fun h5=>fun b I1 l1 hb=>?_⟩⟩⟩⟩
 ·have h:l=2:=by simpa using h
  subst h
  exact⟨_,_,_,rfl,key (ws:=Fp) hb rfl,by decide,rfl⟩
 ·have h:l=3:=by simpa using h
  subst h
  exact⟨_,_,_,rfl,key (ws:=DC) hb rfl,by decide,rfl⟩
 ·have h:l=4:=by simpa using h
  subst h
  exact⟨_,_,_,rfl,key (ws:=iU) hb rfl,by decide,rfl⟩
 ·have h:l=5:=by simpa using h
  subst h
  exact⟨_,_,_,rfl,key (ws:=DB) hb rfl,by decide,rfl⟩
 ·have e2:l≠2:=by simpa using h2
  have e3:l≠3:=by simpa using h3
  have e4:l≠4:=by simpa using h4
  have e5:l≠5:=by simpa using h5
  have hO:Ah l=8:=by unfold Ah;rw[if_neg e2,if_neg e3,if_neg e4,if_neg e5]
  have hW:q8 l=Cj:=by unfold q8;rw[if_neg e2,if_neg e3,if_neg e4,if_neg e5]
  rw[hO,hW]
  exact⟨_,_,_,rfl,key (ws:=Cj) hb rfl,by decide,rfl⟩
end
end Go.Lx
namespace Go.Lx
open Go.Vc
theorem Ai{t:ByteArray}{f:Int}{k:Tok}(h0:0≤f)(h1:f≤t.size)(h:eJ t f=.ok k)(hk:k.kind=4):fj (bt k.text 0)=false:=by
 have ho:=eO (s:=t) h1
 unfold eJ at h
 simp only at h
 split at h
 ·have:=TR.ok.inj h
  subst this
  exact absurd hk (by show ¬(0:Int)=4;decide)
 ·rename_i hne
  split at h
  ·obtain⟨E,e2,_,_,_,rfl⟩:=qY h
   exact absurd hk (by show ¬(3:Int)=4;decide)
  ·split at h
   ·unfold iP at h
    simp only at h
    split at h
    ·cases h
    ·have:=TR.ok.inj h
     subst this
     simp only at hk
     split at hk<;>omega
   ·rename_i hs
    unfold iQ at h
    split at h
    ·cases h
    ·rename_i hm
     have:=TR.ok.inj h
     subst this
     have hr:=iH t (da t f)
     have hl:=lz (s:=t) (i:=da t f) (by omega)
     show fj (bt (cut t (da t f) (da t f+dP t (da t f))) 0)=false
     rw[ld (by omega) (Int.le_refl 0) (by omega) (by omega),Int.add_zero]
     simpa using hs
theorem yl{x w:ByteArray}(h:fj (bt x 0)=false)(hw:fj (bt w 0)=true):(x.toList==w.toList)=false:=by
 rw[Bool.eq_false_iff]
 intro he
 have he:x.toList=w.toList:=by simpa using he
 have:x=w:=CW he
 rw[this,hw] at h;cases h
theorem vj{x y:List UInt8}(h:(x==y)=false):x≠y:=fun e=>by rw[e] at h;simp at h
def mG:List ByteArray:=[(⟨#[102,97,108,115,101]⟩:ByteArray),(⟨#[116,114,117,101]⟩:ByteArray),(⟨#[98,117,121]⟩:ByteArray),(⟨#[115,101,108,108]⟩:ByteArray)]
def D6(i:Int)(pos:Int):Px:=if i>1 then pG 6 (i-1) pos else pG 5 i pos
section
variable {c:PC} {t:ByteArray} {s:PS}
theorem vk(hl:c.Live s)(h:(c.tok s.next).kind=3):c.literal s=((pG (c.tok s.next).dJ (c.tok s.next).n (c.tok s.next).pos,true),s.inc):=by
 unfold PC.literal;rw[hl.now,if_pos h]
theorem zk(hc:c.Of t)(hl:c.Live s)(h:(c.tok s.next).kind≠3):c.literal s=if c.any mG s<0 then ((eP,false),s) else ((D6 (c.any mG s) (c.tok s.next).pos,true),s.inc):=by
 have hn:=hl.now
 have hr:=hc.EU (Nat.le_of_lt hl.2)
 have hmk:=fun hk=>Ai hr.1 hr.2 (hc.tk hl.2) hk
 have hw:∀w∈mG,fj (bt w 0)=true:=by decide
 have hi:∀w∈mG,c.eo w s=((c.tok s.next).text.toList==w.toList&&(c.tok s.next).kind==1):=fun w hwm=>by
  unfold PC.eo;rw[hn]
  by_cases h4:(c.tok s.next).kind=4
  ·rw[yl (hmk h4) (hw w hwm)];rfl
  ·have:((c.tok s.next).kind==4)=false:=by simpa using h4
   rw[this,Bool.or_false]
 have ea:c.any mG s=if (c.tok s.next).kind=1 then (if (c.tok s.next).text.toList=(⟨#[102,97,108,115,101]⟩:ByteArray).toList then 0 else if (c.tok s.next).text.toList=(⟨#[116,114,117,101]⟩:ByteArray).toList then 1 else if (c.tok s.next).text.toList=(⟨#[98,117,121]⟩:ByteArray).toList then 2 else if (c.tok s.next).text.toList=(⟨#[115,101,108,108]⟩:ByteArray).toList then 3 else -1) else -1:=by
  show c.gA s mG 0=_
  unfold mG
  rw[PC.gA,PC.gA,PC.gA,PC.gA,PC.gA,hi _ (.head _),hi _ (.tail _ (.head _)),hi _ (.tail _ (.tail _ (.head _))),hi _ (.tail _ (.tail _ (.tail _ (.head _))))]
  by_cases h1:(c.tok s.next).kind=1
  ·rw[if_pos h1]
   simp only[h1,Bool.and_eq_true,beq_iff_eq,and_true]
   rfl
  ·rw[if_neg h1]
   have:((c.tok s.next).kind==1)=false:=by simpa using h1
   simp only[this,Bool.and_false,Bool.false_eq_true,if_false]
 have d1:(⟨#[116,114,117,101]⟩:ByteArray).toList≠(⟨#[102,97,108,115,101]⟩:ByteArray).toList:=vj (by kernel_rfl)
 have d2:(⟨#[98,117,121]⟩:ByteArray).toList≠(⟨#[115,101,108,108]⟩:ByteArray).toList:=vj (by kernel_rfl)
 have d3:(⟨#[102,97,108,115,101]⟩:ByteArray).toList≠(⟨#[116,114,117,101]⟩:ByteArray).toList:=vj (by kernel_rfl)
 have d4:(⟨#[115,101,108,108]⟩:ByteArray).toList≠(⟨#[98,117,121]⟩:ByteArray).toList:=vj (by kernel_rfl)
 unfold PC.literal
 rw[hn,if_neg h,ea]
 generalize (c.tok s.next).text.toList=x
 by_cases h1:(c.tok s.next).kind=1
 ·rw[if_pos h1]
  by_cases x0:x=(⟨#[102,97,108,115,101]⟩:ByteArray).toList
  ·subst x0
   rw[if_pos rfl,if_pos ⟨h1,.inr rfl⟩,if_neg d3,if_neg (by decide)];rfl
  ·rw[if_neg x0]
   by_cases x1:x=(⟨#[116,114,117,101]⟩:ByteArray).toList
   ·subst x1
    rw[if_pos rfl,if_pos ⟨h1,.inl rfl⟩,if_pos rfl,if_neg (by decide)];rfl
   ·rw[if_neg x1,if_neg (by rintro ⟨_,h | h⟩;exact x1 h;exact x0 h)]
    by_cases x2:x=(⟨#[98,117,121]⟩:ByteArray).toList
    ·subst x2
     rw[if_pos rfl,if_pos ⟨h1,.inl rfl⟩,if_neg d2,if_neg x1,if_neg (by decide)];rfl
    ·rw[if_neg x2]
     by_cases x3:x=(⟨#[115,101,108,108]⟩:ByteArray).toList
     ·subst x3
      rw[if_pos rfl,if_pos ⟨h1,.inr rfl⟩,if_pos rfl,if_neg x1,if_neg (by decide)];rfl
     ·rw[if_neg (by rintro ⟨_,h | h⟩;exact x2 h;exact x3 h),if_neg x1,if_neg x3,if_pos (by decide)]
 ·rw[if_neg h1,if_neg (fun h=>h1 h.1),if_neg (fun h=>h1 h.1),if_pos (by decide)]
def FC(x:Px×Bool)(v:Value)(H:cR):Prop:=∃n:Nd,v=.tuple #[n.v,.bool x.2]∧n.px=x.1∧eG 64 false n H∧H=[]
theorem eG.leaf{k o ty n f p:Int}{w:ByteArray}:eG 64 false (.mk k o ty n f w none 0 [] p) [] :=
 .mk (t:=.mk k o ty n f w none 0 [] p) (hs:=fun _=>[]) Acc.nil (fun h=>by cases h) fun i k h=>by simp[Nd.kids] at h
theorem oZ(hc:c.Of t)(hl:c.Live s){b:Nat}{I:cS}{F F0:cR}(hF:F.Perm (c.px t b s::F0)):cV P 105 #[.pointer (some ⟨b,0,none⟩)] I F (dc c t b FC F0 (c.literal s)):=by
 have hp:=eu.of (I:=I) hF
 refine fC.vc ?_
 unfold fC.V
 intro b0
 refine⟨_,rfl,_,(hp.mono (cS.le_refl I) fun x hx=>.tail _ hx).rd.dQ (p:=1) (q:=4) rfl,fun bn=>⟨_,rfl,_,(hp.mono (cS.le_refl I) fun x hx=>.tail _ (.tail _ hx)).rd.dQ (p:=1) (q:=0) rfl,fun h=>?_,fun h=>?_⟩⟩
 ·have h:(c.tok s.next).kind=3:=by simpa using h
  have e1:=vk hl h
  refine⟨_,rfl,_,(hp.mono (cS.le_refl I) fun x hx=>.tail _ (.tail _ hx)).rd.dQ (p:=1) (q:=2) rfl,_,rfl,_,hp.rd.dQ (p:=1) (q:=3) rfl, ?_⟩
  refine dc.use (eA hc hl (by rw[h];decide) (gB hF)) (fun v H I2 G l2 hL hv hG=>.inl ?_) fun f e I2 G l2 hd hf=>.inr ?_
  ·obtain⟨rfl,rfl⟩:=hv
   exact⟨rfl,c.px t b s.inc::F0,hG.trans (cY fun z=>by simp only[cZ,c6,c8];omega),.inl ⟨by rw[e1];exact hL,_,[],rfl,by rw[e1];exact⟨.mk 1 0 (c.tok s.next).dJ (c.tok s.next).n 0 ⟨#[]⟩ none 0 [] (c.tok s.next).pos,rfl,by simp only[Nd.px,Nd.wg];rfl,eG.leaf,rfl⟩,by rw[e1];exact .refl _⟩⟩
  ·exact dk.dG [_,_] hf fun e' G' hf'=>.inr ⟨f,by rw[e1];exact hd,hf'⟩
 ·have h:(c.tok s.next).kind≠3:=by simpa using h
  have e1:=zk hc hl h
  intro b1 I2 l2 hb1
  have hS:Sl I2 1 lb (some ⟨b1,0,none⟩) 4 mG:=Sl.ki (f:=lb) (z:=1) (l:=mG) (fun _=>rfl) hb1 rfl
  refine cV.ret (ik hl (hp.mono l2 fun x hx=>.tail _ (.tail _ hx)) hS (by decide)) fun I3 l3=>⟨_,rfl,F,.refl _,fun hi=>?_,fun hi=>?_⟩
  ·have hi:=of_decide_eq_true hi
   rw[if_pos hi] at e1
   exact .inl ⟨by rw[e1];exact hl,_,[],rfl,by rw[e1];exact⟨mT,rfl,by simp only[mT,Nd.px,Nd.wg];rfl,eG.leaf,rfl⟩,by rw[e1];exact hF⟩
  ·have hi:=of_decide_eq_false hi
   rw[if_neg hi] at e1
   have hk:=il (ws:=mG) hl (by omega)
   have hlt:=(dx (c:=c) (s:=s) (ws:=mG) (by omega)).2
   have hlt:c.any mG s<4:=hlt
   refine⟨fun h2=>?_,fun h2=>?_⟩
   ·have h2:=of_decide_eq_true h2
    rw[gN (n:=c.any mG s-1) (by omega)]
    have e3:D6 (c.any mG s) (c.tok s.next).pos=pG 6 (c.any mG s-1) (c.tok s.next).pos:=if_pos h2
    refine dc.use (eA hc hl hk (gB hF)) (fun v H I4 G l4 hL hv hG=>.inl ?_) fun f e I4 G l4 hd hf=>.inr ?_
    ·obtain⟨rfl,rfl⟩:=hv
     exact⟨rfl,c.px t b s.inc::F0,hG.trans (cY fun z=>by simp only[cZ,c6,c8];omega),.inl ⟨by rw[e1];exact hL,_,[],rfl,by rw[e1,e3];exact⟨.mk 1 0 6 (c.any mG s-1) 0 ⟨#[]⟩ none 0 [] (c.tok s.next).pos,rfl,by simp only[Nd.px,Nd.wg];rfl,eG.leaf,rfl⟩,by rw[e1];exact .refl _⟩⟩
    ·exact dk.dG [_,_] hf fun e' G' hf'=>.inr ⟨f,by rw[e1];exact hd,hf'⟩
   ·have h2:=of_decide_eq_false h2
    have e3:D6 (c.any mG s) (c.tok s.next).pos=pG 5 (c.any mG s) (c.tok s.next).pos:=if_neg h2
    refine dc.use (eA hc hl hk (gB hF)) (fun v H I4 G l4 hL hv hG=>.inl ?_) fun f e I4 G l4 hd hf=>.inr ?_
    ·obtain⟨rfl,rfl⟩:=hv
     exact⟨rfl,c.px t b s.inc::F0,hG.trans (cY fun z=>by simp only[cZ,c6,c8];omega),.inl ⟨by rw[e1];exact hL,_,[],rfl,by rw[e1,e3];exact⟨.mk 1 0 5 (c.any mG s) 0 ⟨#[]⟩ none 0 [] (c.tok s.next).pos,rfl,by simp only[Nd.px,Nd.wg];rfl,eG.leaf,rfl⟩,by rw[e1];exact .refl _⟩⟩
    ·exact dk.dG [_,_] hf fun e' G' hf'=>.inr ⟨f,by rw[e1];exact hd,hf'⟩
end
end Go.Lx
namespace Go.Lx
open Go.Vc Go.Proofs.Tryz
def ql:List (Nat×List Sh):=[(0,[]),(3,[.one (.int .i64)]),(4,[.one .bool]),(9,[.one .str]),(62,[.one .slc]),(64,[.agg [(.int .u8),(.int .u8),(.int .u8),(.int .i64),(.int .u8),.str,.slc,(.int .i64)]]),(74,[.one (.int .u8)]),(92,[.one .ptr]),(208,[.agg [(.int .u8),(.int .u8),(.int .u8),(.int .i64),(.int .u8),.str,.slc,(.int .i64)],.one .bool]),(219,[.one .slc,.one (.int .u8)])]
def gV.V(al ah:Nat→Nat×Obj)(nV:Int→Int→Int→Int→Int→Bs→OA→Nat→Nat→Int→Value)(nO:Int→Int→Int→Int→Int→Bs→OA→Nat→Nat→Int→Obj)(vb vi:Int→Value)(vs:Bs→Value)(vl:OA→Nat→Nat→Value)(vp:OA→Value)(wr:Int→Int)(p:Addr)(aj d:Int)(I:cS)(F:cR)(Q:cU)(Inv18:Int→OA→Int→Int→Int→Int→Int→Int→Bs→OA→Nat→Nat→Int→Nat→cS→cR→Prop):Prop:=∀w:Nat,∀a:Nat,∀b:Nat,(Dt (aj<6) (sg P 115 #[vi aj] I ((al w)::(ah a)::(b,nO 0 0 0 0 0 (⟨#[]⟩:Bs) none 0 0 0)::·) F fun e1 I1 G1=>∃(aJ:OA) (aK aL:Nat) (r1:Int),e1=.returned (.tuple #[vl aJ aK aL,vb r1])∧G1 fun F1=>cV P 114 (#[vi d,vp (some ⟨w,0,none⟩),vp (some ⟨a,0,none⟩)]) I1 ((al w)::(ah a)::(b,nO 0 0 0 0 0 (⟨#[]⟩:Bs) none 0 0 0)::F1) fun e2 I2 G2=>((∃(br bs bt bu bv:Int) (bw:Bs) (aM:OA) (aN aO:Nat) (bx:Int),e2=.returned (nV br bs bt bu bv bw aM aN aO bx)∧∃(aP:OA) (am:Int),∃F2:cR,List.Perm G2 ((w,Obj.cells #[vp aP] 92 (0,0))::(a,Obj.cells #[vi am] 3 (0,0))::(b,nO 0 0 0 0 0 (⟨#[]⟩:Bs) none 0 0 0)::F2)∧∀ai:Nat,(∃m:Nat,Inv18 0 aP am br bs bt bu bv bw aM aN aO bx m I2 F2)∧∀(an:Int) (x:OA) (e y z aa ab ac:Int) (ae:Bs) (i:OA) (j k:Nat) (af:Int) (m1:Nat) (I3:cS) (F3:cR),cS.le I2 I3→Inv18 an x e y z aa ab ac ae i j k af m1 I3 F3→(It (e != 4) (fp P 104 #[vp x,vl aJ aK aL] I3 ((w,Obj.cells #[vp x] 92 (0,0))::(a,Obj.cells #[vi e] 3 (0,0))::(b,nO 0 0 0 0 0 (⟨#[]⟩:Bs) none 0 0 0)::(ai,nO y z aa ab ac ae i j k af)::·) F3 vi fun r I4 F4=>(Dt (r<0) (Q (.returned (nV y z aa ab ac ae i j k af)) I4 F4) (∃ad:Addr,x=some ad∧∃(m2:Int),Rd I4 ((w,Obj.cells #[vp x] 92 (0,0))::(a,Obj.cells #[vi e] 3 (0,0))::(b,nO 0 0 0 0 0 (⟨#[]⟩:Bs) none 0 0 0)::(ai,nO y z aa ab ac ae i j k af)::F4) ((ad.add 1).add 4) [vi m2]∧cV P 64 #[vp x] I4 ((w,Obj.cells #[vp x] 92 (0,0))::(a,Obj.cells #[vi e] 3 (0,0))::(b,nO 0 0 0 0 0 (⟨#[]⟩:Bs) none 0 0 0)::(ai,nO y z aa ab ac ae i j k af)::F4) fun e4 I5 G4=>((e4=.returned (.tuple #[])∧∃F5:cR,List.Perm G4 ((w,Obj.cells #[vp x] 92 (0,0))::(a,Obj.cells #[vi e] 3 (0,0))::(b,nO 0 0 0 0 0 (⟨#[]⟩:Bs) none 0 0 0)::(ai,nO y z aa ab ac ae i j k af)::F5)∧cV P 114 (#[vi d,vp (some ⟨w,0,none⟩),vp (some ⟨a,0,none⟩)]) I5 ((w,Obj.cells #[vp x] 92 (0,0))::(a,Obj.cells #[vi e] 3 (0,0))::(b,nO 0 0 0 0 0 (⟨#[]⟩:Bs) none 0 0 0)::(ai,nO y z aa ab ac ae i j k af)::F5) fun e5 I6 G5=>((∃(aQ aR aS aT aU:Int) (aV:Bs) (au:OA) (av aw:Nat) (aW:Int),e5=.returned (nV aQ aR aS aT aU aV au av aw aW)∧∃F6:cR,List.Perm G5 ((w,Obj.cells #[vp x] 92 (0,0))::(a,Obj.cells #[vi e] 3 (0,0))::(b,nO 0 0 0 0 0 (⟨#[]⟩:Bs) none 0 0 0)::(ai,nO y z aa ab ac ae i j k af)::F6)∧∀b1:Nat,(∃m3:Nat,m3<m1∧Inv18 (wr (an+1)) x e 6 (IntKind.wrap .u8 (r1+(IntKind.wrap .u8 r))) 0 0 0 (⟨#[]⟩:Bs) (some ⟨b1,0,none⟩) 2 2 m2 m3 I6 ((b1,Obj.cells #[vb y,vb z,vb aa,vi ab,vb ac,vs ae,vl i j k,vi af,vb aQ,vb aR,vb aS,vi aT,vb aU,vs aV,vl au av aw,vi aW] 64 (0,0))::F6)))∨(∃ch:List PanicEntry,e5=.panicked ch∧∃F7:cR,List.Perm G5 ((w,Obj.cells #[vp x] 92 (0,0))::(a,Obj.cells #[vi e] 3 (0,0))::(b,nO 0 0 0 0 0 (⟨#[]⟩:Bs) none 0 0 0)::(ai,nO y z aa ab ac ae i j k af)::F7)∧Q (.panicked ch) I6 F7)))∨(∃bA:List PanicEntry,e4=.panicked bA∧∃F8:cR,List.Perm G4 ((w,Obj.cells #[vp x] 92 (0,0))::(a,Obj.cells #[vi e] 3 (0,0))::(b,nO 0 0 0 0 0 (⟨#[]⟩:Bs) none 0 0 0)::(ai,nO y z aa ab ac ae i j k af)::F8)∧Q (.panicked bA) I5 F8))))) (It (an==0) (fp P 104 #[vp x,vl aJ aK aL] I3 ((w,Obj.cells #[vp x] 92 (0,0))::(a,Obj.cells #[vi e] 3 (0,0))::(b,nO 0 0 0 0 0 (⟨#[]⟩:Bs) none 0 0 0)::(ai,nO y z aa ab ac ae i j k af)::·) F3 vi fun r2 I7 F9=>(Dt (r2<0) (Q (.returned (nV y z aa ab ac ae i j k af)) I7 F9) (∃bB:Addr,x=some bB∧∃(m4:Int),Rd I7 ((w,Obj.cells #[vp x] 92 (0,0))::(a,Obj.cells #[vi e] 3 (0,0))::(b,nO 0 0 0 0 0 (⟨#[]⟩:Bs) none 0 0 0)::(ai,nO y z aa ab ac ae i j k af)::F9) ((bB.add 1).add 4) [vi m4]∧cV P 64 #[vp x] I7 ((w,Obj.cells #[vp x] 92 (0,0))::(a,Obj.cells #[vi e] 3 (0,0))::(b,nO 0 0 0 0 0 (⟨#[]⟩:Bs) none 0 0 0)::(ai,nO y z aa ab ac ae i j k af)::F9) fun e7 I8 G7=>((e7=.returned (.tuple #[])∧∃F10:cR,List.Perm G7 ((w,Obj.cells #[vp x] 92 (0,0))::(a,Obj.cells #[vi e] 3 (0,0))::(b,nO 0 0 0 0 0 (⟨#[]⟩:Bs) none 0 0 0)::(ai,nO y z aa ab ac ae i j k af)::F10)∧cV P 114 (#[vi d,vp (some ⟨w,0,none⟩),vp (some ⟨a,0,none⟩)]) I8 ((w,Obj.cells #[vp x] 92 (0,0))::(a,Obj.cells #[vi e] 3 (0,0))::(b,nO 0 0 0 0 0 (⟨#[]⟩:Bs) none 0 0 0)::(ai,nO y z aa ab ac ae i j k af)::F10) fun e8 I9 G8=>((∃(aX aY aZ a0 a1:Int) (a2:Bs) (ax:OA) (ay az:Nat) (a3:Int),e8=.returned (nV aX aY aZ a0 a1 a2 ax ay az a3)∧∃F11:cR,List.Perm G8 ((w,Obj.cells #[vp x] 92 (0,0))::(a,Obj.cells #[vi e] 3 (0,0))::(b,nO 0 0 0 0 0 (⟨#[]⟩:Bs) none 0 0 0)::(ai,nO y z aa ab ac ae i j k af)::F11)∧∀b2:Nat,(∃m5:Nat,m5<m1∧Inv18 (wr (an+1)) x e 6 (IntKind.wrap .u8 (r1+(IntKind.wrap .u8 r2))) 0 0 0 (⟨#[]⟩:Bs) (some ⟨b2,0,none⟩) 2 2 m4 m5 I9 ((b2,Obj.cells #[vb y,vb z,vb aa,vi ab,vb ac,vs ae,vl i j k,vi af,vb aX,vb aY,vb aZ,vi a0,vb a1,vs a2,vl ax ay az,vi a3] 64 (0,0))::F11)))∨(∃bC:List PanicEntry,e8=.panicked bC∧∃F12:cR,List.Perm G8 ((w,Obj.cells #[vp x] 92 (0,0))::(a,Obj.cells #[vi e] 3 (0,0))::(b,nO 0 0 0 0 0 (⟨#[]⟩:Bs) none 0 0 0)::(ai,nO y z aa ab ac ae i j k af)::F12)∧Q (.panicked bC) I9 F12)))∨(∃bD:List PanicEntry,e7=.panicked bD∧∃F13:cR,List.Perm G7 ((w,Obj.cells #[vp x] 92 (0,0))::(a,Obj.cells #[vi e] 3 (0,0))::(b,nO 0 0 0 0 0 (⟨#[]⟩:Bs) none 0 0 0)::(ai,nO y z aa ab ac ae i j k af)::F13)∧Q (.panicked bD) I8 F13))))) (Q (.returned (nV y z aa ab ac ae i j k af)) I3 F3))))∨(∃bE:List PanicEntry,e2=.panicked bE∧∃(a4:OA) (ao:Int),∃F14:cR,List.Perm G2 ((w,Obj.cells #[vp a4] 92 (0,0))::(a,Obj.cells #[vi ao] 3 (0,0))::(b,nO 0 0 0 0 0 (⟨#[]⟩:Bs) none 0 0 0)::F14)∧Q (.panicked bE) I2 F14))) (sg P 115 #[vi aj] I ((al w)::(ah a)::(b,nO 0 0 0 0 0 (⟨#[]⟩:Bs) none 0 0 0)::·) F fun e9 I10 G9=>∃(ap:OA) (aq ar:Nat) (a5:Int),e9=.returned (.tuple #[vl ap aq ar,vb a5])∧G9 fun F15=>cV P 113 (#[vp (some p),vi d]) I10 ((al w)::(ah a)::(b,nO 0 0 0 0 0 (⟨#[]⟩:Bs) none 0 0 0)::F15) fun bN I11 G10=>((∃(a6 a7 a8 a9 ba:Int) (bb:Bs) (aA:OA) (aB aC:Nat) (bc:Int),bN=.returned (nV a6 a7 a8 a9 ba bb aA aB aC bc)∧∃F16:cR,List.Perm G10 ((al w)::(ah a)::(b,nO 0 0 0 0 0 (⟨#[]⟩:Bs) none 0 0 0)::F16)∧∀ag:Nat,(∃m6:Nat,Inv18 0 (some p) aj a6 a7 a8 a9 ba bb aA aB aC bc m6 I11 F16)∧∀(ak:Int) (l:OA) (c n o q s t:Int) (u:Bs) (f:OA) (g h:Nat) (v:Int) (m7:Nat) (I12:cS) (F17:cR),cS.le I11 I12→Inv18 ak l c n o q s t u f g h v m7 I12 F17→(It (c != 4) (fp P 104 #[vp l,vl ap aq ar] I12 ((w,Obj.cells #[vp l] 92 (0,0))::(a,Obj.cells #[vi c] 3 (0,0))::(b,nO 0 0 0 0 0 (⟨#[]⟩:Bs) none 0 0 0)::(ag,nO n o q s t u f g h v)::·) F17 vi fun r3 I13 F18=>(Dt (r3<0) (Q (.returned (nV n o q s t u f g h v)) I13 F18) (∃bF:Addr,l=some bF∧∃(m8:Int),Rd I13 ((w,Obj.cells #[vp l] 92 (0,0))::(a,Obj.cells #[vi c] 3 (0,0))::(b,nO 0 0 0 0 0 (⟨#[]⟩:Bs) none 0 0 0)::(ag,nO n o q s t u f g h v)::F18) ((bF.add 1).add 4) [vi m8]∧cV P 64 #[vp l] I13 ((w,Obj.cells #[vp l] 92 (0,0))::(a,Obj.cells #[vi c] 3 (0,0))::(b,nO 0 0 0 0 0 (⟨#[]⟩:Bs) none 0 0 0)::(ag,nO n o q s t u f g h v)::F18) fun bO I14 G12=>((bO=.returned (.tuple #[])∧∃F19:cR,List.Perm G12 ((w,Obj.cells #[vp l] 92 (0,0))::(a,Obj.cells #[vi c] 3 (0,0))::(b,nO 0 0 0 0 0 (⟨#[]⟩:Bs) none 0 0 0)::(ag,nO n o q s t u f g h v)::F19)∧cV P 113 (#[vp (some p),vi d]) I14 ((w,Obj.cells #[vp l] 92 (0,0))::(a,Obj.cells #[vi c] 3 (0,0))::(b,nO 0 0 0 0 0 (⟨#[]⟩:Bs) none 0 0 0)::(ag,nO n o q s t u f g h v)::F19) fun bP I15 G13=>((∃(bd be bf bg bh:Int) (bi:Bs) (aD:OA) (aE aF:Nat) (bj:Int),bP=.returned (nV bd be bf bg bh bi aD aE aF bj)∧∃F20:cR,List.Perm G13 ((w,Obj.cells #[vp l] 92 (0,0))::(a,Obj.cells #[vi c] 3 (0,0))::(b,nO 0 0 0 0 0 (⟨#[]⟩:Bs) none 0 0 0)::(ag,nO n o q s t u f g h v)::F20)∧∀b3:Nat,(∃m9:Nat,m9<m7∧Inv18 (wr (ak+1)) l c 6 (IntKind.wrap .u8 (a5+(IntKind.wrap .u8 r3))) 0 0 0 (⟨#[]⟩:Bs) (some ⟨b3,0,none⟩) 2 2 m8 m9 I15 ((b3,Obj.cells #[vb n,vb o,vb q,vi s,vb t,vs u,vl f g h,vi v,vb bd,vb be,vb bf,vi bg,vb bh,vs bi,vl aD aE aF,vi bj] 64 (0,0))::F20)))∨(∃bG:List PanicEntry,bP=.panicked bG∧∃F21:cR,List.Perm G13 ((w,Obj.cells #[vp l] 92 (0,0))::(a,Obj.cells #[vi c] 3 (0,0))::(b,nO 0 0 0 0 0 (⟨#[]⟩:Bs) none 0 0 0)::(ag,nO n o q s t u f g h v)::F21)∧Q (.panicked bG) I15 F21)))∨(∃bH:List PanicEntry,bO=.panicked bH∧∃F22:cR,List.Perm G12 ((w,Obj.cells #[vp l] 92 (0,0))::(a,Obj.cells #[vi c] 3 (0,0))::(b,nO 0 0 0 0 0 (⟨#[]⟩:Bs) none 0 0 0)::(ag,nO n o q s t u f g h v)::F22)∧Q (.panicked bH) I14 F22))))) (It (ak==0) (fp P 104 #[vp l,vl ap aq ar] I12 ((w,Obj.cells #[vp l] 92 (0,0))::(a,Obj.cells #[vi c] 3 (0,0))::(b,nO 0 0 0 0 0 (⟨#[]⟩:Bs) none 0 0 0)::(ag,nO n o q s t u f g h v)::·) F17 vi fun r4 I16 F23=>(Dt (r4<0) (Q (.returned (nV n o q s t u f g h v)) I16 F23) (∃bI:Addr,l=some bI∧∃(bz:Int),Rd I16 ((w,Obj.cells #[vp l] 92 (0,0))::(a,Obj.cells #[vi c] 3 (0,0))::(b,nO 0 0 0 0 0 (⟨#[]⟩:Bs) none 0 0 0)::(ag,nO n o q s t u f g h v)::F23) ((bI.add 1).add 4) [vi bz]∧cV P 64 #[vp l] I16 ((w,Obj.cells #[vp l] 92 (0,0))::(a,Obj.cells #[vi c] 3 (0,0))::(b,nO 0 0 0 0 0 (⟨#[]⟩:Bs) none 0 0 0)::(ag,nO n o q s t u f g h v)::F23) fun bQ I17 G15=>((bQ=.returned (.tuple #[])∧∃F24:cR,List.Perm G15 ((w,Obj.cells #[vp l] 92 (0,0))::(a,Obj.cells #[vi c] 3 (0,0))::(b,nO 0 0 0 0 0 (⟨#[]⟩:Bs) none 0 0 0)::(ag,nO n o q s t u f g h v)::F24)∧cV P 113 (#[vp (some p),vi d]) I17 ((w,Obj.cells #[vp l] 92 (0,0))::(a,Obj.cells #[vi c] 3 (0,0))::(b,nO 0 0 0 0 0 (⟨#[]⟩:Bs) none 0 0 0)::(ag,nO n o q s t u f g h v)::F24) fun bR I18 G16=>((∃(bk bl bm bn bo:Int) (bp:Bs) (aG:OA) (aH aI:Nat) (bq:Int),bR=.returned (nV bk bl bm bn bo bp aG aH aI bq)∧∃F25:cR,List.Perm G16 ((w,Obj.cells #[vp l] 92 (0,0))::(a,Obj.cells #[vi c] 3 (0,0))::(b,nO 0 0 0 0 0 (⟨#[]⟩:Bs) none 0 0 0)::(ag,nO n o q s t u f g h v)::F25)∧∀b4:Nat,(∃bJ:Nat,bJ<m7∧Inv18 (wr (ak+1)) l c 6 (IntKind.wrap .u8 (a5+(IntKind.wrap .u8 r4))) 0 0 0 (⟨#[]⟩:Bs) (some ⟨b4,0,none⟩) 2 2 bz bJ I18 ((b4,Obj.cells #[vb n,vb o,vb q,vi s,vb t,vs u,vl f g h,vi v,vb bk,vb bl,vb bm,vi bn,vb bo,vs bp,vl aG aH aI,vi bq] 64 (0,0))::F25)))∨(∃bK:List PanicEntry,bR=.panicked bK∧∃F26:cR,List.Perm G16 ((w,Obj.cells #[vp l] 92 (0,0))::(a,Obj.cells #[vi c] 3 (0,0))::(b,nO 0 0 0 0 0 (⟨#[]⟩:Bs) none 0 0 0)::(ag,nO n o q s t u f g h v)::F26)∧Q (.panicked bK) I18 F26)))∨(∃bL:List PanicEntry,bQ=.panicked bL∧∃F27:cR,List.Perm G15 ((w,Obj.cells #[vp l] 92 (0,0))::(a,Obj.cells #[vi c] 3 (0,0))::(b,nO 0 0 0 0 0 (⟨#[]⟩:Bs) none 0 0 0)::(ag,nO n o q s t u f g h v)::F27)∧Q (.panicked bL) I17 F27))))) (Q (.returned (nV n o q s t u f g h v)) I12 F17))))∨(∃bM:List PanicEntry,bN=.panicked bM∧∃F28:cR,List.Perm G10 ((al w)::(ah a)::(b,nO 0 0 0 0 0 (⟨#[]⟩:Bs) none 0 0 0)::F28)∧Q (.panicked bM) I11 F28))))
theorem gV.vc{p:Addr}{e d:Int}{I:cS}{F:cR}{Q:cU}(Inv18:Int→OA→Int→Int→Int→Int→Int→Int→Bs→OA→Nat→Nat→Int→Nat→cS→cR→Prop)(h:gV.V (fun b=>(b,Obj.cells #[.pointer (some p)] 92 (0,0))) (fun b=>(b,Obj.cells #[.int .i64 e] 3 (0,0))) (fun k o t n f s a l c q=>.agg #[.int .u8 k,.int .u8 o,.int .u8 t,.int .i64 n,.int .u8 f,.string s,.slice a l c,.int .i64 q]) (fun k o t n f s a l c q=>.cells #[.int .u8 k,.int .u8 o,.int .u8 t,.int .i64 n,.int .u8 f,.string s,.slice a l c,.int .i64 q] 64 (0,0)) (.int .u8) (.int .i64) .string .slice .pointer (IntKind.wrap .i64) p e d I F Q Inv18):cV P 90 #[.pointer (some p),.int .i64 e,.int .i64 d] I F Q :=
 tw (A:=(eM [2001,7001,7004,10001] [64,113,114] [64,104,113,114,115] ql [(18,⟨[(11,(.int .i64))],[(0,[.ptr]),(1,[(.int .i64)]),(3,[(.int .u8),(.int .u8),(.int .u8),(.int .i64),(.int .u8),.str,.slc,(.int .i64)])],fun _ _ _ vs m I F=>match vs with | [.int _ y0,.pointer y1,.int _ y2,.int _ y3,.int _ y4,.int _ y5,.int _ y6,.int _ y7,.string y8,.slice y9 y10 y11,.int _ y12]=>Inv18 y0 y1 y2 y3 y4 y5 y6 y7 y8 y9 y10 y11 y12 m I F | _=>False,[],[]⟩)] [] [13008] [] [] [(13,[0,1,2,3,5,6,9,4,7,8,10,11])] [] [] [(13,[4],11)])) [64,104,113,114,115] func90 h
def gn.V(nV:Int→Int→Int→Int→Int→Bs→OA→Nat→Nat→Int→Value)(nO:Int→Int→Int→Int→Int→Bs→OA→Nat→Nat→Int→Obj)(d:Int)(c c1:Addr)(I:cS)(F:cR)(Q:cU)  : Prop:=∀b:Nat,∃(m:OA),Rd I ((b,nO 0 0 0 0 0 (⟨#[]⟩:Bs) none 0 0 0)::F) c [.pointer m]∧∃(m1:Int),Rd I ((b,nO 0 0 0 0 0 (⟨#[]⟩:Bs) none 0 0 0)::F) c1 [.int .i64 m1]∧cV P 90 (#[.pointer m,.int .i64 (IntKind.wrap .i64 (m1+1)),.int .i64 d]) I ((b,nO 0 0 0 0 0 (⟨#[]⟩:Bs) none 0 0 0)::F) fun e1 I1 G1=>((∃(g h i j k:Int) (l:Bs) (a:OA) (e f:Nat) (n:Int),e1=.returned (nV g h i j k l a e f n)∧∃F1:cR,List.Perm G1 ((b,nO 0 0 0 0 0 (⟨#[]⟩:Bs) none 0 0 0)::F1)∧Q (.returned (nV g h i j k l a e f n)) I1 F1)∨(∃ch:List PanicEntry,e1=.panicked ch∧∃F2:cR,List.Perm G1 ((b,nO 0 0 0 0 0 (⟨#[]⟩:Bs) none 0 0 0)::F2)∧Q (.panicked ch) I1 F2))
theorem gn.vc{d:Int}{c c1:Addr}{I:cS}{F:cR}{Q:cU}  (h:gn.V (fun k o t n f s a l c q=>.agg #[.int .u8 k,.int .u8 o,.int .u8 t,.int .i64 n,.int .u8 f,.string s,.slice a l c,.int .i64 q]) (fun k o t n f s a l c q=>.cells #[.int .u8 k,.int .u8 o,.int .u8 t,.int .i64 n,.int .u8 f,.string s,.slice a l c,.int .i64 q] 64 (0,0)) d c c1 I F Q):cV P 114 #[.int .i64 d,.pointer (some c),.pointer (some c1)] I F Q :=
 tw (A:=(eM [] [90] [90] ql [] [] [] [] [] [] [])) [90] func114 h
def gH.V(nV:Int→Int→Int→Int→Int→Bs→OA→Nat→Nat→Int→Value)(nO:Int→Int→Int→Int→Int→Bs→OA→Nat→Nat→Int→Obj)(vb vi:Int→Value)(vs:Bs→Value)(vl:OA→Nat→Nat→Value)(vp:OA→Value)(p:Addr)(d:Int)(I:cS)(F:cR)(Q:cU)  : Prop:=∀b:Nat,cV P 90 (#[vp (some p),vi 2,vi d]) I ((b,nO 0 0 0 0 0 (⟨#[]⟩:Bs) none 0 0 0)::F) fun e1 I1 G1=>((∃(f g h i j:Int) (k:Bs) (a:OA) (c e:Nat) (l:Int),e1=.returned (nV f g h i j k a c e l)∧∃F1:cR,List.Perm G1 ((b,nO 0 0 0 0 0 (⟨#[]⟩:Bs) none 0 0 0)::F1)∧∀s:Nat,fp P 91 (#[vp (some p),vs (⟨#[63]⟩:Bs)]) I1 ((b,nO 0 0 0 0 0 (⟨#[]⟩:Bs) none 0 0 0)::(s,nO f g h i j k a c e l)::·) F1 .bool fun r I2 F2=>(It (!r) (Q (.returned (nV f g h i j k a c e l)) I2 F2) (∃(hb:Nat) (ho:Obj) (F3:cR),List.Perm F2 ((hb,ho)::F3)∧∃ad:Addr,some p=some ad∧∃(m:Int),Rd (cS.put I2 hb ho) ([]) ((ad.add 1).add 4) [vi m]∧cV P 92 (#[vp (some p),vi d]) (cS.put I2 hb ho) ((b,nO 0 0 0 0 0 (⟨#[]⟩:Bs) none 0 0 0)::(s,nO f g h i j k a c e l)::F3) fun e3 I3 G3=>((∃(r1:Int),e3=.returned (vi r1)∧∃F4:cR,List.Perm G3 ((b,nO 0 0 0 0 0 (⟨#[]⟩:Bs) none 0 0 0)::(s,nO f g h i j k a c e l)::F4)∧cV P 64 (#[vp (some p)]) (cS.del I3 hb) ((b,nO 0 0 0 0 0 (⟨#[]⟩:Bs) none 0 0 0)::(s,nO f g h i j k a c e l)::((hb,ho)::F4)) fun e4 I4 G4=>((e4=.returned (.tuple #[])∧∃F5:cR,List.Perm G4 ((b,nO 0 0 0 0 0 (⟨#[]⟩:Bs) none 0 0 0)::(s,nO f g h i j k a c e l)::F5)∧cV P 47 (#[vp (some p),vi r1]) I4 ((b,nO 0 0 0 0 0 (⟨#[]⟩:Bs) none 0 0 0)::(s,nO f g h i j k a c e l)::F5) fun e5 I5 G5=>((∃(t u v w x:Int) (y:Bs) (n:OA) (o q:Nat) (z:Int),e5=.returned (nV t u v w x y n o q z)∧∃F6:cR,List.Perm G5 ((b,nO 0 0 0 0 0 (⟨#[]⟩:Bs) none 0 0 0)::(s,nO f g h i j k a c e l)::F6)∧∀aa:Nat,∀(b1:Nat) (I6:cS),cS.le I5 I6→I6 b1=some (Obj.cells #[vs (⟨#[58]⟩:Bs)] 9 (0,0))→cV P 66 (#[vp (some p),vl (some ⟨b1,0,none⟩) 1 1]) I6 ((b,nO 0 0 0 0 0 (⟨#[]⟩:Bs) none 0 0 0)::(s,nO f g h i j k a c e l)::(aa,nO t u v w x y n o q z)::F6) fun e6 I7 G6=>((∃(r2:Int),e6=.returned (vi r2)∧∃F7:cR,List.Perm G6 ((b,nO 0 0 0 0 0 (⟨#[]⟩:Bs) none 0 0 0)::(s,nO f g h i j k a c e l)::(aa,nO t u v w x y n o q z)::F7)∧cV P 47 (#[vp (some p),vi r1]) I7 ((b,nO 0 0 0 0 0 (⟨#[]⟩:Bs) none 0 0 0)::(s,nO f g h i j k a c e l)::(aa,nO t u v w x y n o q z)::F7) fun e7 I8 G7=>((∃(af ag ah ai aj:Int) (ak:Bs) (ab:OA) (ac ae:Nat) (al:Int),e7=.returned (nV af ag ah ai aj ak ab ac ae al)∧∃F8:cR,List.Perm G7 ((b,nO 0 0 0 0 0 (⟨#[]⟩:Bs) none 0 0 0)::(s,nO f g h i j k a c e l)::(aa,nO t u v w x y n o q z)::F8)∧∀b2:Nat,Q (.returned (nV 7 0 0 0 0 (⟨#[]⟩:Bs) (some ⟨b2,0,none⟩) 3 3 m)) I8 (((b2,Obj.cells #[vb f,vb g,vb h,vi i,vb j,vs k,vl a c e,vi l,vb t,vb u,vb v,vi w,vb x,vs y,vl n o q,vi z,vb af,vb ag,vb ah,vi ai,vb aj,vs ak,vl ab ac ae,vi al] 64 (0,0))::F8)))∨(∃ch:List PanicEntry,e7=.panicked ch∧∃F9:cR,List.Perm G7 ((b,nO 0 0 0 0 0 (⟨#[]⟩:Bs) none 0 0 0)::(s,nO f g h i j k a c e l)::(aa,nO t u v w x y n o q z)::F9)∧Q (.panicked ch) I8 F9)))∨(∃am:List PanicEntry,e6=.panicked am∧∃F10:cR,List.Perm G6 ((b,nO 0 0 0 0 0 (⟨#[]⟩:Bs) none 0 0 0)::(s,nO f g h i j k a c e l)::(aa,nO t u v w x y n o q z)::F10)∧Q (.panicked am) I7 F10)))∨(∃an:List PanicEntry,e5=.panicked an∧∃F11:cR,List.Perm G5 ((b,nO 0 0 0 0 0 (⟨#[]⟩:Bs) none 0 0 0)::(s,nO f g h i j k a c e l)::F11)∧Q (.panicked an) I5 F11)))∨(∃ao:List PanicEntry,e4=.panicked ao∧∃F12:cR,List.Perm G4 ((b,nO 0 0 0 0 0 (⟨#[]⟩:Bs) none 0 0 0)::(s,nO f g h i j k a c e l)::F12)∧Q (.panicked ao) I4 F12)))∨(∃ap:List PanicEntry,e3=.panicked ap∧∃F13:cR,List.Perm G3 ((b,nO 0 0 0 0 0 (⟨#[]⟩:Bs) none 0 0 0)::(s,nO f g h i j k a c e l)::F13)∧Q (.panicked ap) (cS.del I3 hb) (((hb,ho)::F13)))))))∨(∃aq:List PanicEntry,e1=.panicked aq∧∃F14:cR,List.Perm G1 ((b,nO 0 0 0 0 0 (⟨#[]⟩:Bs) none 0 0 0)::F14)∧Q (.panicked aq) I1 F14))
theorem gH.vc{p:Addr}{d:Int}{I:cS}{F:cR}{Q:cU}  (h:gH.V (fun k o t n f s a l c q=>.agg #[.int .u8 k,.int .u8 o,.int .u8 t,.int .i64 n,.int .u8 f,.string s,.slice a l c,.int .i64 q]) (fun k o t n f s a l c q=>.cells #[.int .u8 k,.int .u8 o,.int .u8 t,.int .i64 n,.int .u8 f,.string s,.slice a l c,.int .i64 q] 64 (0,0)) (.int .u8) (.int .i64) .string .slice .pointer p d I F Q):cV P 47 #[.pointer (some p),.int .i64 d] I F Q :=
 tw (A:=(eM [2002] [47,64,66,90,92] [47,64,66,90,91,92] ql [] [7001] [8005] [] [] [(4,[0,1,3,4,5,6,7,2,8,9]),(8,[2,3,6,0,1,4,5,7,8])] [] [] [(4,[7,1000],10),(8,[0,1],8)])) [47,64,66,90,91,92] func47 h
def gq.V(nV:Int→Int→Int→Int→Int→Bs→OA→Nat→Nat→Int→Value)(nO:Int→Int→Int→Int→Int→Bs→OA→Nat→Nat→Int→Obj)(vb vi:Int→Value)(vp:OA→Value)(p:Addr)(d:Int)(I:cS)(F:cR)(Q:cU)  : Prop:=∀b:Nat,∀(b1:Nat) (I1:cS),cS.le I I1→I1 b1=some (Obj.cells #[.string (⟨#[45]⟩:Bs),.string (⟨#[33]⟩:Bs)] 9 (0,0))→fp P 104 (#[vp (some p),.slice (some ⟨b1,0,none⟩) 2 2]) I1 ((b,nO 0 0 0 0 0 (⟨#[]⟩:Bs) none 0 0 0)::·) F vi fun r I2 F1=>(Dt (r<0) (cV P 128 (#[vp (some p),vi d]) I2 ((b,nO 0 0 0 0 0 (⟨#[]⟩:Bs) none 0 0 0)::F1) fun e2 I3 G2=>((∃(s t u v w:Int) (x:Bs) (f:OA) (g h:Nat) (y:Int),e2=.returned (nV s t u v w x f g h y)∧∃F2:cR,List.Perm G2 ((b,nO 0 0 0 0 0 (⟨#[]⟩:Bs) none 0 0 0)::F2)∧Q (.returned (nV s t u v w x f g h y)) I3 F2)∨(∃ch:List PanicEntry,e2=.panicked ch∧∃F3:cR,List.Perm G2 ((b,nO 0 0 0 0 0 (⟨#[]⟩:Bs) none 0 0 0)::F3)∧Q (.panicked ch) I3 F3))) (∃(hb:Nat) (ho:Obj) (F4:cR),List.Perm F1 ((hb,ho)::F4)∧∃ad:Addr,some p=some ad∧∃(m:Int),Rd (cS.put I2 hb ho) ([]) ((ad.add 1).add 4) [vi m]∧cV P 92 (#[vp (some p),vi d]) (cS.put I2 hb ho) ((b,nO 0 0 0 0 0 (⟨#[]⟩:Bs) none 0 0 0)::F4) fun e3 I4 G3=>((∃(r1:Int),e3=.returned (vi r1)∧∃F5:cR,List.Perm G3 ((b,nO 0 0 0 0 0 (⟨#[]⟩:Bs) none 0 0 0)::F5)∧cV P 64 (#[vp (some p)]) (cS.del I4 hb) ((b,nO 0 0 0 0 0 (⟨#[]⟩:Bs) none 0 0 0)::((hb,ho)::F5)) fun e4 I5 G4=>((e4=.returned (.tuple #[])∧∃F6:cR,List.Perm G4 ((b,nO 0 0 0 0 0 (⟨#[]⟩:Bs) none 0 0 0)::F6)∧cV P 113 (#[vp (some p),vi r1]) I5 ((b,nO 0 0 0 0 0 (⟨#[]⟩:Bs) none 0 0 0)::F6) fun e5 I6 G5=>((∃(i j k l n:Int) (o:Bs) (a:OA) (c e:Nat) (q:Int),e5=.returned (nV i j k l n o a c e q)∧∃F7:cR,List.Perm G5 ((b,nO 0 0 0 0 0 (⟨#[]⟩:Bs) none 0 0 0)::F7)∧∀b2:Nat,Q (.returned (.agg #[vb 5,vb (IntKind.wrap .u8 (1+(IntKind.wrap .u8 r))),vb 0,vi 0,vb 0,.string (⟨#[]⟩:Bs),.slice (some ⟨b2,0,none⟩) 1 1,vi m])) I6 (((b2,nO i j k l n o a c e q)::F7)))∨(∃z:List PanicEntry,e5=.panicked z∧∃F8:cR,List.Perm G5 ((b,nO 0 0 0 0 0 (⟨#[]⟩:Bs) none 0 0 0)::F8)∧Q (.panicked z) I6 F8)))∨(∃aa:List PanicEntry,e4=.panicked aa∧∃F9:cR,List.Perm G4 ((b,nO 0 0 0 0 0 (⟨#[]⟩:Bs) none 0 0 0)::F9)∧Q (.panicked aa) I5 F9)))∨(∃ab:List PanicEntry,e3=.panicked ab∧∃F10:cR,List.Perm G3 ((b,nO 0 0 0 0 0 (⟨#[]⟩:Bs) none 0 0 0)::F10)∧Q (.panicked ab) (cS.del I4 hb) (((hb,ho)::F10))))))
theorem gq.vc{p:Addr}{d:Int}{I:cS}{F:cR}{Q:cU}  (h:gq.V (fun k o t n f s a l c q=>.agg #[.int .u8 k,.int .u8 o,.int .u8 t,.int .i64 n,.int .u8 f,.string s,.slice a l c,.int .i64 q]) (fun k o t n f s a l c q=>.cells #[.int .u8 k,.int .u8 o,.int .u8 t,.int .i64 n,.int .u8 f,.string s,.slice a l c,.int .i64 q] 64 (0,0)) (.int .u8) (.int .i64) .pointer p d I F Q):cV P 113 #[.pointer (some p),.int .i64 d] I F Q :=
 tw (A:=(eM [2001] [64,92,113,128] [64,92,104,113,128] ql [] [1001] [6006] [] [] [(4,[0,1,3,4,5,6,7,2,8,9])] [] [] [(4,[7,1000],10)])) [64,92,104,113,128] func113 h
def gI.V(nV:Int→Int→Int→Int→Int→Bs→OA→Nat→Nat→Int→Value)(nO:Int→Int→Int→Int→Int→Bs→OA→Nat→Nat→Int→Obj)(vi:Int→Value)(vl:OA→Nat→Nat→Value)(vp:OA→Value)(p:Addr)(t u w y z:Int)(aa:Bs)(o:OA)(q s:Nat)(aL ai d:Int)(I:cS)(F:cR)(Q:cU)(Inv14:Int→Int→Int→Int→Int→Int→Bs→OA→Nat→Nat→Int→Nat→cS→cR→Prop):Prop:=∀n:Nat,∀b:Nat,∃ad:Addr,some p=some ad∧∃(m:Int),Rd I ((n,nO t u w y z aa o q s aL)::(b,nO 0 0 0 0 0 (⟨#[]⟩:Bs) none 0 0 0)::F) ((ad.add 1).add 4) [vi m]∧cV P 92 (#[vp (some p),vi d]) I ((n,nO t u w y z aa o q s m)::(b,nO 0 0 0 0 0 (⟨#[]⟩:Bs) none 0 0 0)::F) fun e1 I1 G1=>((∃(r:Int),e1=.returned (vi r)∧∃F1:cR,List.Perm G1 ((n,nO t u w y z aa o q s m)::(b,nO 0 0 0 0 0 (⟨#[]⟩:Bs) none 0 0 0)::F1)∧cV P 64 (#[vp (some p)]) I1 ((n,nO t u w y z aa o q s m)::(b,nO 0 0 0 0 0 (⟨#[]⟩:Bs) none 0 0 0)::F1) fun e2 I2 G2=>((e2=.returned (.tuple #[])∧∃F2:cR,List.Perm G2 ((n,nO t u w y z aa o q s m)::(b,nO 0 0 0 0 0 (⟨#[]⟩:Bs) none 0 0 0)::F2)∧∀(b1:Nat) (I3:cS),cS.le I2 I3→I3 b1=some (Obj.cells #[.string (⟨#[40]⟩:Bs)] 9 (0,0))→cV P 66 (#[vp (some p),vl (some ⟨b1,0,none⟩) 1 1]) I3 ((n,nO t u w y z aa o q s m)::(b,nO 0 0 0 0 0 (⟨#[]⟩:Bs) none 0 0 0)::F2) fun e3 I4 G3=>((∃(r1:Int),e3=.returned (vi r1)∧∃F3:cR,List.Perm G3 ((n,nO t u w y z aa o q s m)::(b,nO 0 0 0 0 0 (⟨#[]⟩:Bs) none 0 0 0)::F3)∧(∃m1:Nat,Inv14 0 t u w y z aa o q s m m1 I4 F3)∧∀(x f g h i j:Int) (k:Bs) (a:OA) (c e:Nat) (l:Int) (m2:Nat) (I5:cS) (F4:cR),cS.le I4 I5→Inv14 x f g h i j k a c e l m2 I5 F4→(Dt (x<ai) (Dt (x>0) (∀(b2:Nat) (I6:cS),cS.le I5 I6→I6 b2=some (Obj.cells #[.string (⟨#[44]⟩:Bs)] 9 (0,0))→cV P 66 (#[vp (some p),vl (some ⟨b2,0,none⟩) 1 1]) I6 ((n,nO f g h i j k a c e l)::(b,nO 0 0 0 0 0 (⟨#[]⟩:Bs) none 0 0 0)::F4) fun e4 I7 G4=>((∃(r2:Int),e4=.returned (vi r2)∧∃F5:cR,List.Perm G4 ((n,nO f g h i j k a c e l)::(b,nO 0 0 0 0 0 (⟨#[]⟩:Bs) none 0 0 0)::F5)∧cV P 47 (#[vp (some p),vi r]) I7 ((n,nO f g h i j k a c e l)::(b,nO 0 0 0 0 0 (⟨#[]⟩:Bs) none 0 0 0)::F5) fun e5 I8 G5=>((∃(av aw ax ay az:Int) (aA:Bs) (af:OA) (ag ah:Nat) (aB:Int),e5=.returned (nV av aw ax ay az aA af ag ah aB)∧∃F6:cR,List.Perm G5 ((n,nO f g h i j k a c e l)::(b,nO 0 0 0 0 0 (⟨#[]⟩:Bs) none 0 0 0)::F6)∧∀(b3:Nat) (I9:cS),cS.le I8 I9→I9 b3=some (nO av aw ax ay az aA af ag ah aB)→fh P (Builtin.append_ #[62,62] 62 #[vl a c e,vl (some ⟨b3,0,none⟩) 1 1]) I9 ((n,nO f g h i j k a c e l)::(b,nO 0 0 0 0 0 (⟨#[]⟩:Bs) none 0 0 0)::F6) fun v I10 G6=>∃(aC:OA) (aD aE:Nat),v=vl aC aD aE∧∃F7:cR,List.Perm G6 ((n,nO f g h i j k a c e l)::(b,nO 0 0 0 0 0 (⟨#[]⟩:Bs) none 0 0 0)::F7)∧(∃m3:Nat,m3<m2∧Inv14 (IntKind.wrap .i64 (x+1)) f g h i j k aC aD aE l m3 I10 F7))∨(∃ch:List PanicEntry,e5=.panicked ch∧∃F8:cR,List.Perm G5 ((n,nO f g h i j k a c e l)::(b,nO 0 0 0 0 0 (⟨#[]⟩:Bs) none 0 0 0)::F8)∧Q (.panicked ch) I8 F8)))∨(∃aF:List PanicEntry,e4=.panicked aF∧∃F9:cR,List.Perm G4 ((n,nO f g h i j k a c e l)::(b,nO 0 0 0 0 0 (⟨#[]⟩:Bs) none 0 0 0)::F9)∧Q (.panicked aF) I7 F9))) (cV P 47 (#[vp (some p),vi r]) I5 ((n,nO f g h i j k a c e l)::(b,nO 0 0 0 0 0 (⟨#[]⟩:Bs) none 0 0 0)::F4) fun e6 I11 G7=>((∃(aj ak al am an:Int) (ao:Bs) (ab:OA) (ac ae:Nat) (ap:Int),e6=.returned (nV aj ak al am an ao ab ac ae ap)∧∃F10:cR,List.Perm G7 ((n,nO f g h i j k a c e l)::(b,nO 0 0 0 0 0 (⟨#[]⟩:Bs) none 0 0 0)::F10)∧∀(b4:Nat) (I12:cS),cS.le I11 I12→I12 b4=some (nO aj ak al am an ao ab ac ae ap)→fh P (Builtin.append_ #[62,62] 62 #[vl a c e,vl (some ⟨b4,0,none⟩) 1 1]) I12 ((n,nO f g h i j k a c e l)::(b,nO 0 0 0 0 0 (⟨#[]⟩:Bs) none 0 0 0)::F10) fun v1 I13 G8=>∃(aq:OA) (ar au:Nat),v1=vl aq ar au∧∃F11:cR,List.Perm G8 ((n,nO f g h i j k a c e l)::(b,nO 0 0 0 0 0 (⟨#[]⟩:Bs) none 0 0 0)::F11)∧(∃m4:Nat,m4<m2∧Inv14 (IntKind.wrap .i64 (x+1)) f g h i j k aq ar au l m4 I13 F11))∨(∃aG:List PanicEntry,e6=.panicked aG∧∃F12:cR,List.Perm G7 ((n,nO f g h i j k a c e l)::(b,nO 0 0 0 0 0 (⟨#[]⟩:Bs) none 0 0 0)::F12)∧Q (.panicked aG) I11 F12)))) (∀(b5:Nat) (I14:cS),cS.le I5 I14→I14 b5=some (Obj.cells #[.string (⟨#[41]⟩:Bs)] 9 (0,0))→cV P 66 (#[vp (some p),vl (some ⟨b5,0,none⟩) 1 1]) I14 ((n,nO f g h i j k a c e l)::(b,nO 0 0 0 0 0 (⟨#[]⟩:Bs) none 0 0 0)::F4) fun e7 I15 G9=>((∃(r3:Int),e7=.returned (vi r3)∧∃F13:cR,List.Perm G9 ((n,nO f g h i j k a c e l)::(b,nO 0 0 0 0 0 (⟨#[]⟩:Bs) none 0 0 0)::F13)∧Q (.returned (nV f g h i j k a c e l)) I15 F13)∨(∃aH:List PanicEntry,e7=.panicked aH∧∃F14:cR,List.Perm G9 ((n,nO f g h i j k a c e l)::(b,nO 0 0 0 0 0 (⟨#[]⟩:Bs) none 0 0 0)::F14)∧Q (.panicked aH) I15 F14)))))∨(∃aI:List PanicEntry,e3=.panicked aI∧∃F15:cR,List.Perm G3 ((n,nO t u w y z aa o q s m)::(b,nO 0 0 0 0 0 (⟨#[]⟩:Bs) none 0 0 0)::F15)∧Q (.panicked aI) I4 F15)))∨(∃aJ:List PanicEntry,e2=.panicked aJ∧∃F16:cR,List.Perm G2 ((n,nO t u w y z aa o q s m)::(b,nO 0 0 0 0 0 (⟨#[]⟩:Bs) none 0 0 0)::F16)∧Q (.panicked aJ) I2 F16)))∨(∃aK:List PanicEntry,e1=.panicked aK∧∃F17:cR,List.Perm G1 ((n,nO t u w y z aa o q s m)::(b,nO 0 0 0 0 0 (⟨#[]⟩:Bs) none 0 0 0)::F17)∧Q (.panicked aK) I1 F17))
theorem gI.vc{p:Addr}{j r u v w:Int}{x:Bs}{b:OA}{e g:Nat}{y i d:Int}{I:cS}{F:cR}{Q:cU}(Inv14:Int→Int→Int→Int→Int→Int→Bs→OA→Nat→Nat→Int→Nat→cS→cR→Prop)(h:gI.V (fun k o t n f s a l c q=>.agg #[.int .u8 k,.int .u8 o,.int .u8 t,.int .i64 n,.int .u8 f,.string s,.slice a l c,.int .i64 q]) (fun k o t n f s a l c q=>.cells #[.int .u8 k,.int .u8 o,.int .u8 t,.int .i64 n,.int .u8 f,.string s,.slice a l c,.int .i64 q] 64 (0,0)) (.int .i64) .slice .pointer p j r u v w x b e g y i d I F Q Inv14):cV P 143 #[.pointer (some p),.agg #[.int .u8 j,.int .u8 r,.int .u8 u,.int .i64 v,.int .u8 w,.string x,.slice b e g,.int .i64 y],.int .i64 i,.int .i64 d] I F Q :=
 tw (A:=(eM [6000,8001] [47,64,66,92] [47,64,66,92] ql [(14,⟨[(26,(.int .i64))],[(0,[(.int .u8),(.int .u8),(.int .u8),(.int .i64),(.int .u8),.str,.slc,(.int .i64)])],fun _ _ _ vs m I F=>match vs with | [.int _ y0,.int _ y1,.int _ y2,.int _ y3,.int _ y4,.int _ y5,.string y6,.slice y7 y8 y9,.int _ y10]=>Inv14 y0 y1 y2 y3 y4 y5 y6 y7 y8 y9 y10 m I F | _=>False,[],[]⟩)] [4001,9001,10005,12001] [] [] [] [(10,[0,2,3,1,4,5,6,7,8])] [] [] [(10,[1],8)])) [47,64,66,92] func143 h
def fN.V(nV:Int→Int→Int→Int→Int→Bs→OA→Nat→Nat→Int→Value)(nO:Int→Int→Int→Int→Int→Bs→OA→Nat→Nat→Int→Obj)(vb vi:Int→Value)(vs:Bs→Value)(vl:OA→Nat→Nat→Value)(vp:OA→Value)(p:Addr)(d:Int)(I:cS)(F:cR)(Q:cU)  : Prop:=∀b:Nat,cV P 105 (#[vp (some p)]) I ((b,nO 0 0 0 0 0 (⟨#[]⟩:Bs) none 0 0 0)::F) fun e1 I1 G1=>((∃(f g h i j:Int) (k:Bs) (a:OA) (c e:Nat) (l:Int) (r1:Bool),e1=.returned (.tuple #[nV f g h i j k a c e l,.bool r1])∧∃F1:cR,List.Perm G1 ((b,nO 0 0 0 0 0 (⟨#[]⟩:Bs) none 0 0 0)::F1)∧∀n:Nat,(It r1 (Q (.returned (nV f g h i j k a c e l)) I1 F1) (∃ad:Addr,some p=some ad∧∃(m:Int),Rd I1 ((b,nO 0 0 0 0 0 (⟨#[]⟩:Bs) none 0 0 0)::(n,nO f g h i j k a c e l)::F1) ((ad.add 1).add 4) [vi m]∧∃aW:Addr,some p=some aW∧∃(m1:Int),Rd I1 ((b,nO 0 0 0 0 0 (⟨#[]⟩:Bs) none 0 0 0)::(n,nO f g h i j k a c e l)::F1) ((aW.add 1).add 0) [vb m1]∧(It (m1==2) (cV P 67 (#[vp (some p)]) I1 ((b,nO 0 0 0 0 0 (⟨#[]⟩:Bs) none 0 0 0)::(n,nO f g h i j k a c e l)::F1) fun e2 I2 G2=>((∃(r:Bs),e2=.returned (vs r)∧∃F2:cR,List.Perm G2 ((b,nO 0 0 0 0 0 (⟨#[]⟩:Bs) none 0 0 0)::(n,nO f g h i j k a c e l)::F2)∧Q (.returned (nV 2 0 0 0 0 r none 0 0 m)) I2 F2)∨(∃ch:List PanicEntry,e2=.panicked ch∧∃F3:cR,List.Perm G2 ((b,nO 0 0 0 0 0 (⟨#[]⟩:Bs) none 0 0 0)::(n,nO f g h i j k a c e l)::F3)∧Q (.panicked ch) I2 F3))) (∀(b1:Nat) (I3:cS),cS.le I1 I3→I3 b1=some (Obj.cells #[vs (⟨#[98,105,100]⟩:Bs),vs (⟨#[97,115,107]⟩:Bs),vs (⟨#[108,97,115,116]⟩:Bs),vs (⟨#[118,111,108,117,109,101]⟩:Bs),vs (⟨#[110,111,119]⟩:Bs),vs (⟨#[111,112,101,110]⟩:Bs)] 9 (0,0))→fp P 104 (#[vp (some p),vl (some ⟨b1,0,none⟩) 6 6]) I3 ((b,nO 0 0 0 0 0 (⟨#[]⟩:Bs) none 0 0 0)::(n,nO f g h i j k a c e l)::·) F1 vi fun r2 I4 F4=>(Dt (r2≥0) (cV P 64 (#[vp (some p)]) I4 ((b,nO 0 0 0 0 0 (⟨#[]⟩:Bs) none 0 0 0)::(n,nO f g h i j k a c e l)::F4) fun e4 I5 G4=>((e4=.returned (.tuple #[])∧∃F5:cR,List.Perm G4 ((b,nO 0 0 0 0 0 (⟨#[]⟩:Bs) none 0 0 0)::(n,nO f g h i j k a c e l)::F5)∧Q (.returned (.agg #[vb 3,vb 0,vb 0,vi 0,vb (IntKind.wrap .u8 (1+(IntKind.wrap .u8 r2))),vs (⟨#[]⟩:Bs),vl none 0 0,vi m])) I5 F5)∨(∃aX:List PanicEntry,e4=.panicked aX∧∃F6:cR,List.Perm G4 ((b,nO 0 0 0 0 0 (⟨#[]⟩:Bs) none 0 0 0)::(n,nO f g h i j k a c e l)::F6)∧Q (.panicked aX) I5 F6))) (∀(b2:Nat) (I6:cS),cS.le I4 I6→I6 b2=some (Obj.cells #[vs (⟨#[105,110,116]⟩:Bs),vs (⟨#[113,116,121]⟩:Bs),vs (⟨#[112,114,105,99,101]⟩:Bs),vs (⟨#[116,105,109,101]⟩:Bs)] 9 (0,0))→fp P 104 (#[vp (some p),vl (some ⟨b2,0,none⟩) 4 4]) I6 ((b,nO 0 0 0 0 0 (⟨#[]⟩:Bs) none 0 0 0)::(n,nO f g h i j k a c e l)::·) F4 vi fun r3 I7 F7=>(Dt (r3≥0) (cV P 143 (#[vp (some p),.agg #[vb 9,vb 0,vb (IntKind.wrap .u8 (1+(IntKind.wrap .u8 r3))),vi 0,vb 0,vs (⟨#[]⟩:Bs),vl none 0 0,vi 0],vi 1,vi d]) I7 ((b,nO 0 0 0 0 0 (⟨#[]⟩:Bs) none 0 0 0)::(n,nO f g h i j k a c e l)::F7) fun e6 I8 G6=>((∃(aP aQ aR aS aT:Int) (aU:Bs) (al:OA) (am an:Nat) (aV:Int),e6=.returned (nV aP aQ aR aS aT aU al am an aV)∧∃F8:cR,List.Perm G6 ((b,nO 0 0 0 0 0 (⟨#[]⟩:Bs) none 0 0 0)::(n,nO f g h i j k a c e l)::F8)∧Q (.returned (nV aP aQ aR aS aT aU al am an aV)) I8 F8)∨(∃aY:List PanicEntry,e6=.panicked aY∧∃F9:cR,List.Perm G6 ((b,nO 0 0 0 0 0 (⟨#[]⟩:Bs) none 0 0 0)::(n,nO f g h i j k a c e l)::F9)∧Q (.panicked aY) I8 F9))) (∀(b3:Nat) (I9:cS),cS.le I7 I9→I9 b3=some (Obj.cells #[vs (⟨#[97,98,115]⟩:Bs),vs (⟨#[109,105,110]⟩:Bs),vs (⟨#[109,97,120]⟩:Bs),vs (⟨#[104,97,115]⟩:Bs),vs (⟨#[40]⟩:Bs)] 9 (0,0))→fp P 104 (#[vp (some p),vl (some ⟨b3,0,none⟩) 5 5]) I9 ((b,nO 0 0 0 0 0 (⟨#[]⟩:Bs) none 0 0 0)::(n,nO f g h i j k a c e l)::·) F7 vi fun r4 I10 F10=>(It (r4==0) (cV P 143 (#[vp (some p),nV 8 3 0 0 0 (⟨#[]⟩:Bs) none 0 0 0,vi 1,vi d]) I10 ((b,nO 0 0 0 0 0 (⟨#[]⟩:Bs) none 0 0 0)::(n,nO f g h i j k a c e l)::F10) fun e8 I11 G8=>((∃(ao ap aq ar au:Int) (av:Bs) (aa:OA) (ab ac:Nat) (aw:Int),e8=.returned (nV ao ap aq ar au av aa ab ac aw)∧∃F11:cR,List.Perm G8 ((b,nO 0 0 0 0 0 (⟨#[]⟩:Bs) none 0 0 0)::(n,nO f g h i j k a c e l)::F11)∧Q (.returned (nV ao ap aq ar au av aa ab ac aw)) I11 F11)∨(∃aZ:List PanicEntry,e8=.panicked aZ∧∃F12:cR,List.Perm G8 ((b,nO 0 0 0 0 0 (⟨#[]⟩:Bs) none 0 0 0)::(n,nO f g h i j k a c e l)::F12)∧Q (.panicked aZ) I11 F12))) (It (r4==1) (cV P 143 (#[vp (some p),nV 8 4 0 0 0 (⟨#[]⟩:Bs) none 0 0 0,vi 2,vi d]) I10 ((b,nO 0 0 0 0 0 (⟨#[]⟩:Bs) none 0 0 0)::(n,nO f g h i j k a c e l)::F10) fun e9 I12 G9=>((∃(ax ay az aA aB:Int) (aC:Bs) (ae:OA) (af ag:Nat) (aD:Int),e9=.returned (nV ax ay az aA aB aC ae af ag aD)∧∃F13:cR,List.Perm G9 ((b,nO 0 0 0 0 0 (⟨#[]⟩:Bs) none 0 0 0)::(n,nO f g h i j k a c e l)::F13)∧Q (.returned (nV ax ay az aA aB aC ae af ag aD)) I12 F13)∨(∃a0:List PanicEntry,e9=.panicked a0∧∃F14:cR,List.Perm G9 ((b,nO 0 0 0 0 0 (⟨#[]⟩:Bs) none 0 0 0)::(n,nO f g h i j k a c e l)::F14)∧Q (.panicked a0) I12 F14))) (It (r4==2) (cV P 143 (#[vp (some p),nV 8 5 0 0 0 (⟨#[]⟩:Bs) none 0 0 0,vi 2,vi d]) I10 ((b,nO 0 0 0 0 0 (⟨#[]⟩:Bs) none 0 0 0)::(n,nO f g h i j k a c e l)::F10) fun a6 I13 G10=>((∃(aE aF aG aH aI:Int) (aJ:Bs) (ah:OA) (ai aj:Nat) (aK:Int),a6=.returned (nV aE aF aG aH aI aJ ah ai aj aK)∧∃F15:cR,List.Perm G10 ((b,nO 0 0 0 0 0 (⟨#[]⟩:Bs) none 0 0 0)::(n,nO f g h i j k a c e l)::F15)∧Q (.returned (nV aE aF aG aH aI aJ ah ai aj aK)) I13 F15)∨(∃a1:List PanicEntry,a6=.panicked a1∧∃F16:cR,List.Perm G10 ((b,nO 0 0 0 0 0 (⟨#[]⟩:Bs) none 0 0 0)::(n,nO f g h i j k a c e l)::F16)∧Q (.panicked a1) I13 F16))) (It (r4==3) (cV P 64 (#[vp (some p)]) I10 ((b,nO 0 0 0 0 0 (⟨#[]⟩:Bs) none 0 0 0)::(n,nO f g h i j k a c e l)::F10) fun a7 I14 G11=>((a7=.returned (.tuple #[])∧∃F17:cR,List.Perm G11 ((b,nO 0 0 0 0 0 (⟨#[]⟩:Bs) none 0 0 0)::(n,nO f g h i j k a c e l)::F17)∧∀(b4:Nat) (I15:cS),cS.le I14 I15→I15 b4=some (Obj.cells #[vs (⟨#[98,105,100]⟩:Bs),vs (⟨#[97,115,107]⟩:Bs),vs (⟨#[108,97,115,116]⟩:Bs)] 9 (0,0))→cV P 66 (#[vp (some p),vl (some ⟨b4,0,none⟩) 3 3]) I15 ((b,nO 0 0 0 0 0 (⟨#[]⟩:Bs) none 0 0 0)::(n,nO f g h i j k a c e l)::F17) fun a8 I16 G12=>((∃(r5:Int),a8=.returned (vi r5)∧∃F18:cR,List.Perm G12 ((b,nO 0 0 0 0 0 (⟨#[]⟩:Bs) none 0 0 0)::(n,nO f g h i j k a c e l)::F18)∧Q (.returned (.agg #[vb 4,vb 0,vb 0,vi 0,vb (IntKind.wrap .u8 (1+(IntKind.wrap .u8 r5))),vs (⟨#[]⟩:Bs),vl none 0 0,vi m])) I16 F18)∨(∃a2:List PanicEntry,a8=.panicked a2∧∃F19:cR,List.Perm G12 ((b,nO 0 0 0 0 0 (⟨#[]⟩:Bs) none 0 0 0)::(n,nO f g h i j k a c e l)::F19)∧Q (.panicked a2) I16 F19)))∨(∃a3:List PanicEntry,a7=.panicked a3∧∃F20:cR,List.Perm G11 ((b,nO 0 0 0 0 0 (⟨#[]⟩:Bs) none 0 0 0)::(n,nO f g h i j k a c e l)::F20)∧Q (.panicked a3) I14 F20))) (It (r4==4) (cV P 92 (#[vp (some p),vi d]) I10 ((b,nO 0 0 0 0 0 (⟨#[]⟩:Bs) none 0 0 0)::(n,nO f g h i j k a c e l)::F10) fun a9 I17 G13=>((∃(r6:Int),a9=.returned (vi r6)∧∃F21:cR,List.Perm G13 ((b,nO 0 0 0 0 0 (⟨#[]⟩:Bs) none 0 0 0)::(n,nO f g h i j k a c e l)::F21)∧cV P 64 (#[vp (some p)]) I17 ((b,nO 0 0 0 0 0 (⟨#[]⟩:Bs) none 0 0 0)::(n,nO f g h i j k a c e l)::F21) fun ba I18 G14=>((ba=.returned (.tuple #[])∧∃F22:cR,List.Perm G14 ((b,nO 0 0 0 0 0 (⟨#[]⟩:Bs) none 0 0 0)::(n,nO f g h i j k a c e l)::F22)∧cV P 47 (#[vp (some p),vi r6]) I18 ((b,nO 0 0 0 0 0 (⟨#[]⟩:Bs) none 0 0 0)::(n,nO f g h i j k a c e l)::F22) fun bb I19 G15=>((∃(t u v w x:Int) (y:Bs) (o:OA) (q s:Nat) (z:Int),bb=.returned (nV t u v w x y o q s z)∧∃F23:cR,List.Perm G15 ((b,nO 0 0 0 0 0 (⟨#[]⟩:Bs) none 0 0 0)::(n,nO f g h i j k a c e l)::F23)∧∀ak:Nat,∀(b5:Nat) (I20:cS),cS.le I19 I20→I20 b5=some (Obj.cells #[vs (⟨#[41]⟩:Bs)] 9 (0,0))→cV P 66 (#[vp (some p),vl (some ⟨b5,0,none⟩) 1 1]) I20 ((b,nO 0 0 0 0 0 (⟨#[]⟩:Bs) none 0 0 0)::(n,nO f g h i j k a c e l)::(ak,nO t u v w x y o q s z)::F23) fun bc I21 G16=>((∃(r7:Int),bc=.returned (vi r7)∧∃F24:cR,List.Perm G16 ((b,nO 0 0 0 0 0 (⟨#[]⟩:Bs) none 0 0 0)::(n,nO f g h i j k a c e l)::(ak,nO t u v w x y o q s z)::F24)∧Q (.returned (nV t u v w x y o q s z)) I21 F24)∨(∃a4:List PanicEntry,bc=.panicked a4∧∃F25:cR,List.Perm G16 ((b,nO 0 0 0 0 0 (⟨#[]⟩:Bs) none 0 0 0)::(n,nO f g h i j k a c e l)::(ak,nO t u v w x y o q s z)::F25)∧Q (.panicked a4) I21 F25)))∨(∃a5:List PanicEntry,bb=.panicked a5∧∃F26:cR,List.Perm G15 ((b,nO 0 0 0 0 0 (⟨#[]⟩:Bs) none 0 0 0)::(n,nO f g h i j k a c e l)::F26)∧Q (.panicked a5) I19 F26)))∨(∃aL:List PanicEntry,ba=.panicked aL∧∃F27:cR,List.Perm G14 ((b,nO 0 0 0 0 0 (⟨#[]⟩:Bs) none 0 0 0)::(n,nO f g h i j k a c e l)::F27)∧Q (.panicked aL) I18 F27)))∨(∃aM:List PanicEntry,a9=.panicked aM∧∃F28:cR,List.Perm G13 ((b,nO 0 0 0 0 0 (⟨#[]⟩:Bs) none 0 0 0)::(n,nO f g h i j k a c e l)::F28)∧Q (.panicked aM) I17 F28))) (cV P 65 (#[vp (some p),vi 130]) I10 ((b,nO 0 0 0 0 0 (⟨#[]⟩:Bs) none 0 0 0)::(n,nO f g h i j k a c e l)::F10) fun bd I22 G17=>((bd=.returned (.tuple #[])∧∃F29:cR,List.Perm G17 ((b,nO 0 0 0 0 0 (⟨#[]⟩:Bs) none 0 0 0)::(n,nO f g h i j k a c e l)::F29)∧Q (.returned (nV 0 0 0 0 0 (⟨#[]⟩:Bs) none 0 0 0)) I22 F29)∨(∃aN:List PanicEntry,bd=.panicked aN∧∃F30:cR,List.Perm G17 ((b,nO 0 0 0 0 0 (⟨#[]⟩:Bs) none 0 0 0)::(n,nO f g h i j k a c e l)::F30)∧Q (.panicked aN) I22 F30)))))))))))))))))∨(∃aO:List PanicEntry,e1=.panicked aO∧∃F31:cR,List.Perm G1 ((b,nO 0 0 0 0 0 (⟨#[]⟩:Bs) none 0 0 0)::F31)∧Q (.panicked aO) I1 F31))
theorem fN.vc{p:Addr}{d:Int}{I:cS}{F:cR}{Q:cU}  (h:fN.V (fun k o t n f s a l c q=>.agg #[.int .u8 k,.int .u8 o,.int .u8 t,.int .i64 n,.int .u8 f,.string s,.slice a l c,.int .i64 q]) (fun k o t n f s a l c q=>.cells #[.int .u8 k,.int .u8 o,.int .u8 t,.int .i64 n,.int .u8 f,.string s,.slice a l c,.int .i64 q] 64 (0,0)) (.int .u8) (.int .i64) .string .slice .pointer p d I F Q):cV P 128 #[.pointer (some p),.int .i64 d] I F Q :=
 tw (A:=(eM [2000,5005,8001,12001,15000,17000,19000,21000,24000] [47,64,65,66,67,92,105,143] [47,64,65,66,67,92,104,105,143] ql [] [7001,11001,14001,23001,28001] [] [] [] [] [])) [47,64,65,66,67,92,104,105,143] func128 h
end Go.Lx
namespace Go.Lx
open Go.Vc
def FD(x:Int)(v:Value)(H:cR):Prop:=(∃i:Int,v=.int .i64 i)∧H=[]
def ym(c:PC)(t:ByteArray)(f:Nat)(d:Int)(g:PS→Px×PS):Prop:=∀(b:Nat) (s:PS) (I:cS) (F F0:cR),c.Live s→F.Perm (c.px t b s::F0)→cV P f #[.pointer (some ⟨b,0,none⟩),.int .i64 d] I F (dc c t b pP F0 (g s))
section
variable {c:PC} {t:ByteArray} {s:PS} {b:Nat} {I:cS} {F F0:cR}
theorem D7{b1:Nat}{w:ByteArray}(hb:I b1=some (.cells #[.string w] 9 (0,0))):Sl I 1 lb (some ⟨b1,0,none⟩) 1 [w]:=Sl.ki (f:=lb) (z:=1) (l:=[w]) (fun _=>rfl) hb rfl
theorem eR(hc:c.Of t)(hl:c.Live s){b1:Nat}{w:ByteArray}(hb:I b1=some (.cells #[.string w] 9 (0,0)))(hF:F.Perm (c.px t b s::F0)) :
  cV P 66 #[.pointer (some ⟨b,0,none⟩),.slice (some ⟨b1,0,none⟩) 1 1] I F (dc c t b FD F0 (c.take w s)):=by
 refine dc.use (qk hc hl (D7 hb) (by decide) hF) (fun v H I2 G l2 hL hv hG=>?_) fun f e I2 G l2 hd hf=>?_
 ·obtain⟨rfl,rfl⟩:=hv
  exact .inl ⟨by rw[oY];exact hL,_,[],rfl,⟨⟨_,rfl⟩,rfl⟩,by rw[oY];exact hG⟩
 ·exact .inr ⟨f,by rw[oY];exact hd,hf⟩
theorem qm{d:Int}(h:d<24):c.cT d s=s:=by unfold PC.cT;rw[if_neg (by omega)]
theorem lJ(hl:c.Live s):(c.cT 24 s).over=true∧c.dD ⟨132,(c.tok s.next).pos,false⟩ (c.cT 24 s):=by
 unfold PC.cT;rw[if_pos (by decide)]
 have:=hl.cX (e:=132) (by decide)
 exact⟨by rw[this.1];rfl,this.2⟩
theorem CI{nx:Lv}{d kind oper dJ pos:Int}{many:Nat}(hl:c.Live s)(h:d<24) :
  c.call nx d kind oper dJ pos many s=(.mk kind oper dJ 0 0 ⟨#[]⟩ (c.dB nx many true (c.take (⟨#[40]⟩:ByteArray) s.inc).2).1 pos,(c.take (⟨#[41]⟩:ByteArray) (c.dB nx many true (c.take (⟨#[40]⟩:ByteArray) s.inc).2).2).2):=by
 unfold PC.call;rw[qm h,hl.1,if_neg (by simp)]
theorem CJ{nx:Lv}{kind oper dJ pos:Int}{many:Nat}(hl:c.Live s):c.call nx 24 kind oper dJ pos many s=(eP,c.cT 24 s):=by
 unfold PC.call;rw[(lJ hl).1,if_pos rfl]
theorem q9(hc:c.Of t)(hl:c.Live s)(hk:(c.tok s.next).kind≠0){nx:Lv}{d:Int}(h0:0≤d)(h1:d≤24)(hx:d<24→ym c t 47 (d+1) nx.ex)(hkp:∀f,Kp c f nx.ex)(kind oper dJ pos0:Int)(many:Nat)(hm:many≤2)(hF:F.Perm (c.px t b s::F0)) :
  cV P 143 #[.pointer (some ⟨b,0,none⟩),(Nd.mk kind oper dJ 0 0 ⟨#[]⟩ none 0 [] pos0).v,.int .i64 many,.int .i64 d] I F (dc c t b pP F0 (c.call nx d kind oper dJ (c.tok s.next).pos many s)):=by
 have hp:=eu.of (I:=I) hF
 refine gI.vc (fun x n0 n1 n2 n3 n4 n5 a n k n7 m I' F'=>n0=kind∧n1=oper∧n2=dJ∧n3=0∧n4=0∧n5=⟨#[]⟩∧n7=(c.tok s.next).pos∧d<24∧0≤x∧x≤many∧m=(many-x).toNat ∧
  ∃(ks:List Nd) (si:PS),(ks.length:Int)=x∧c.Live si∧c.dB nx many true (c.take (⟨#[40]⟩:ByteArray) s.inc).2=(ks.map Nd.px++(c.dB nx (many-x).toNat (decide (x=0)) si).1,(c.dB nx (many-x).toNat (decide (x=0)) si).2)∧Part 8 Nd.enc 64 (eG 64 false) a n k ks (c.px t b si::F0) F') ?_
 unfold gI.V
 intro bn b0
 refine⟨_,rfl,_,(hp.mono (cS.le_refl I) fun x hx=>.tail _ (.tail _ hx)).rd.dQ (p:=1) (q:=4) rfl, ?_⟩
 refine (nY (hp.mono (cS.le_refl I) fun x hx=>.tail _ (.tail _ hx)) h0 h1).mono fun e I1 G l1 hd=>?_
 rcases hd with ⟨hlt,rfl,rfl⟩ | ⟨rfl,hf⟩
 rotate_left
 ·refine .inr (dk.dG [_,_] (hf.perm (F1:=[_,_]++F) (.refl _) (.refl _)) fun e' G' hf'=>.inr ⟨_, ?_,hf'.tail hF⟩)
  rw[CJ hl];exact (lJ hl).2
 rw[CI hl hlt]
 refine .inl ⟨_,rfl,F,.refl _, ?_⟩
 have dead1:∀{f:PF} {s':PS},c.dD f s'→s'=(c.take (⟨#[40]⟩:ByteArray) s.inc).2→c.dD f (c.take (⟨#[41]⟩:ByteArray) (c.dB nx many true (c.take (⟨#[40]⟩:ByteArray) s.inc).2).2).2:=fun h e=>(Kp.kids (hkp _) _ _ _ (e▸h)).take _
 refine dc.use (eA hc hl hk (gB hF)) (fun v H I2 G l2 hL hv hG=>.inl ?_) fun f e I2 G l2 hd hf=>.inr ?_
 rotate_left
 ·exact dk.dG [_,_] hf fun e' G' hf'=>.inr ⟨f,dead1 (hd.take _) rfl,hf'⟩
 obtain⟨rfl,rfl⟩:=hv
 refine⟨rfl,c.px t b s.inc::F0,hG.trans (cY fun z=>by simp only[cZ,c6,c8];omega),fun b1 I3 l3 hb1=>?_⟩
 refine dc.use (eR hc hL hb1 (gB (.refl _))) (fun v H I4 G l4 hL1 hv hG=>.inl ?_) fun f e I4 G l4 hd hf=>.inr ?_
 rotate_left
 ·exact dk.dG [_,_] hf fun e' G' hf'=>.inr ⟨f,dead1 hd rfl,hf'⟩
 obtain⟨⟨i1,rfl⟩,rfl⟩:=hv
 refine⟨_,rfl,c.px t b (c.take (⟨#[40]⟩:ByteArray) s.inc).2::F0,hG.trans (cY fun z=>by simp only[cZ,c6,c8];omega),⟨_,rfl,rfl,rfl,rfl,rfl,rfl,rfl,hlt,by decide,by omega,rfl,[],_,rfl,hL1, ?_,Part.nil⟩, ?_⟩
 ·rw[decide_eq_true rfl,show ((many:Int)-0).toNat=many by omega];rfl
 intro x n0 n1 n2 n3 n4 n5 a n k n7 m I5 F4 l5 ⟨g0,g1,g2,g3,g4,g5,g7,_,x0,x1,gm,ks,si,gl,hLi,gk,gP⟩
 subst g0 g1 g2 g3 g4 g5 g7
 obtain⟨A,hs,hA,hO,hFp⟩:=gP
 have hnl:=hA.1
 have frame:∀(X Y:Nat×Obj),(X::Y::F4).Perm (c.px t b si::([X,Y]++(A++(dT ks.length hs++F0)))):=fun X Y=>(hFp.cons _ |>.cons _).trans (cY fun z=>by simp only[cZ,c6,c8];omega)
 have key:∀(sj:PS) (X Y:Nat×Obj) (I5:cS) (F5:cR) (Q':Ending→cS→cR→Prop),c.Live sj→F5.Perm (A++(dT ks.length hs++(c.px t b sj::F0))) →
   c.dB nx (many-x).toNat (decide (x=0)) si=((nx.ex sj).1::(c.dB nx (many-(x+1)).toNat false (nx.ex sj).2).1,(c.dB nx (many-(x+1)).toNat false (nx.ex sj).2).2)→0≤x→x<many →
   (∀(tn:Nd) (I8:cS) (G F6:cR),cS.le I5 I8→G.Perm (X::Y::F6) →
    (∀(b3:Nat) (I9:cS),cS.le I8 I9→I9 b3=some (.cells tn.enc.toArray 64 (0,0))→fh P (Builtin.append_ #[62,62] 62 #[.slice a n k,.slice (some ⟨b3,0,none⟩) 1 1]) I9 (X::Y::F6) fun v I10 G6=>∃(ra:Option Addr) (rn rc:Nat),v=.slice ra rn rc∧∃F7:cR,G6.Perm (X::Y::F7) ∧
     ∃(ks:List Nd) (si:PS),(ks.length:Int)=x+1∧c.Live si∧c.dB nx many true (c.take (⟨#[40]⟩:ByteArray) s.inc).2=(ks.map Nd.px++(c.dB nx (many-(x+1)).toNat (decide (x+1=0)) si).1,(c.dB nx (many-(x+1)).toNat (decide (x+1=0)) si).2)∧Part 8 Nd.enc 64 (eG 64 false) ra rn rc ks (c.px t b si::F0) F7)→Q' (.returned tn.v) I8 G) →
   (∀(f:PF) (e:Ending) (I8:cS) (G:cR),cS.le I5 I8→c.dD f (c.dB nx many true (c.take (⟨#[40]⟩:ByteArray) s.inc).2).2→dk f ([X,Y]++F0) e G→Q' e I8 G) →
   cV P 47 #[.pointer (some ⟨b,0,none⟩),.int .i64 (d+1)] I5 (X::Y::F5) Q':=by
  intro sj X Y I5 F5 Q' hLj hF5 hkd x0 x1 k1 k2
  refine dc.use (hx hlt b sj I5 _ ([X,Y]++(A++(dT ks.length hs++F0))) hLj ((hF5.cons _ |>.cons _).trans (cY fun z=>by simp only[cZ,c6,c8];omega))) (fun v H I8 G l8 hL8 hv hG=>?_) fun f e I8 G l8 hd hf=>?_
  ·obtain⟨tn,rfl,hpx,hOt⟩:=hv
   refine k1 tn I8 G (H++(A++(dT ks.length hs++(c.px t b (nx.ex sj).2::F0)))) l8 (hG.trans (cY fun z=>by simp only[cZ,c6,c8];omega)) fun b3 I9 l9 hb3=>?_
   refine fh.mono (j6 (f:=Nd.enc) Nd.yO (zv:=mT.v) (by':=72) (by kernel_rfl) (by kernel_rfl) rfl (by decide) (O:=eG 64 false) (x:=tn) (F:=c.px t b (nx.ex sj).2::F0) (R0:=[X,Y]) ⟨A,hs,hA,hO,.refl _⟩ tn.Cd rfl hb3 hOt (.refl _) (by omega)) fun v I10 G2 l10 ⟨ra,rn,rc,hv,F7,hG7,hP7⟩=>?_
   refine⟨ra,rn,rc,hv,F7,hG7,ks++[tn],(nx.ex sj).2,by rw[List.length_append,List.length_singleton];omega,hL8, ?_,hP7⟩
   rw[gk,hkd,decide_eq_false (by omega:¬x+1=0),List.map_append,List.append_assoc,List.map_singleton,hpx];rfl
  ·refine k2 f e I8 G l8 ?_ ?_
   ·rw[gk,hkd];exact Kp.kids (hkp _) _ _ _ hd
   ·refine dk.more (A:=A++dT ks.length hs) (hf.perm (cY fun z=>by simp only[c6];omega) (.refl _))
 refine⟨fun hlt2=>?_,fun hge=>?_⟩
 ·have hlt2:=of_decide_eq_true hlt2
  have hsz:((many:Int)-x).toNat=((many:Int)-(x+1)).toNat+1:=by omega
  refine⟨fun hpos=>fun b2 I6 l6 hb2=>?_,fun hpos=>?_⟩
  ·have hpos:=of_decide_eq_true hpos
   have hkd:c.dB nx (many-x).toNat (decide (x=0)) si=((nx.ex (c.take (⟨#[44]⟩:ByteArray) si).2).1::(c.dB nx (many-(x+1)).toNat false (nx.ex (c.take (⟨#[44]⟩:ByteArray) si).2).2).1,(c.dB nx (many-(x+1)).toNat false (nx.ex (c.take (⟨#[44]⟩:ByteArray) si).2).2).2):=by
    rw[hsz,PC.dB,decide_eq_false (by omega)];rfl
   refine dc.use (eR hc hLi hb2 (frame _ _)) (fun v H I7 G l7 hL7 hv hG=>.inl ?_) fun f e I7 G l7 hd hf=>.inr ?_
   rotate_left
   ·refine dk.dG [_,_] hf fun e' G' hf'=>.inr ⟨f,PC.dD.take ?_ _,dk.more (A:=A++dT ks.length hs) (hf'.perm (cY fun z=>by simp only[c6];omega) (.refl _))⟩
    rw[gk,hkd];exact Kp.kids (hkp _) _ _ _ (hkp _ _ hd)
   obtain⟨⟨i2,rfl⟩,rfl⟩:=hv
   refine⟨_,rfl,A++(dT ks.length hs++(c.px t b (c.take (⟨#[44]⟩:ByteArray) si).2::F0)),hG.trans (cY fun z=>by simp only[cZ,c6,c8];omega),key _ _ _ _ _ _ hL7 (.refl _) hkd x0 hlt2 (fun tn I8 G F6 l8 hG8 kA=>.inl ⟨_,_,_,_,_,_,_,_,_,_,rfl,F6,hG8,fun b3 I9 l9 hb3=>?_⟩) fun f e I8 G l8 hd hf=>.inr (dk.dG [_,_] hf fun e' G' hf'=>.inr ⟨f,hd.take _,hf'⟩)⟩
   refine fh.mono (kA b3 I9 l9 hb3) fun v I10 G6 l10 ⟨ra,rn,rc,hv,F7,hG7,r⟩=>⟨ra,rn,rc,hv,F7,hG7,(many-(x+1)).toNat,by omega, ?_⟩
   rw[gN (n:=x+1) (by omega)]
   exact⟨rfl,rfl,rfl,rfl,rfl,rfl,rfl,hlt,by omega,by omega,rfl,r⟩
  ·have hpos:x=0:=by have:=of_decide_eq_false hpos;omega
   have hkd:c.dB nx (many-x).toNat (decide (x=0)) si=((nx.ex si).1::(c.dB nx (many-(x+1)).toNat false (nx.ex si).2).1,(c.dB nx (many-(x+1)).toNat false (nx.ex si).2).2):=by
    rw[hsz,PC.dB,decide_eq_true hpos];rfl
   refine key _ _ _ _ _ _ hLi hFp hkd x0 hlt2 (fun tn I8 G F6 l8 hG8 kA=>.inl ⟨_,_,_,_,_,_,_,_,_,_,rfl,F6,hG8,fun b3 I9 l9 hb3=>?_⟩) fun f e I8 G l8 hd hf=>.inr (dk.dG [_,_] hf fun e' G' hf'=>.inr ⟨f,hd.take _,hf'⟩)
   refine fh.mono (kA b3 I9 l9 hb3) fun v I10 G6 l10 ⟨ra,rn,rc,hv,F7,hG7,r⟩=>⟨ra,rn,rc,hv,F7,hG7,(many-(x+1)).toNat,by omega, ?_⟩
   rw[gN (n:=x+1) (by omega)]
   exact⟨rfl,rfl,rfl,rfl,rfl,rfl,rfl,hlt,by omega,by omega,rfl,r⟩
 ·have hge:=of_decide_eq_false hge
  intro b5 I6 l6 hb5
  have hxm:((many:Int)-x).toNat=0:=by omega
  have hend:c.dB nx many true (c.take (⟨#[40]⟩:ByteArray) s.inc).2=(ks.map Nd.px,si):=by rw[gk,hxm,PC.dB,List.append_nil]
  rw[hend]
  refine dc.use (eR hc hLi hb5 (frame _ _)) (fun v H I7 G l7 hL7 hv hG=>.inl ?_) fun f e I7 G l7 hd hf=>.inr ?_
  ·obtain⟨⟨i3,rfl⟩,rfl⟩:=hv
   subst hnl
   refine⟨_,rfl,c.px t b (c.take (⟨#[41]⟩:ByteArray) si).2::((A++dT ks.length hs)++F0),hG.trans (cY fun z=>by simp only[cZ,c6,c8];omega),.inl ⟨hL7,_,A++dT ks.length hs,rfl,⟨.mk n0 n1 n2 0 0 ⟨#[]⟩ a k ks (c.tok s.next).pos,rfl, ?_,.mk (t:=.mk n0 n1 n2 0 0 ⟨#[]⟩ a k ks (c.tok s.next).pos) hA (fun h=>by cases h) hO⟩,.refl _⟩⟩
   rw[Nd.px,Nd.uP]
  ·exact dk.dG [_,_] hf fun e' G' hf'=>.inr ⟨f,hd,dk.more (A:=A++dT ks.length hs) (hf'.perm (cY fun z=>by simp only[c6];omega) (.refl _))⟩
end
end Go.Lx
namespace Go.Lx
open Go.Vc
section
variable {c:PC} {t:ByteArray} {s:PS} {b:Nat} {I:cS} {F F0:cR}
theorem PC.dD.live{f:PF}(h:c.dD f s)(hl:c.Live s):False:=by
 have:=h.1
 unfold PC.fin at this
 rw[hl.1,if_neg (by simp),if_neg (by have:=hl.2;omega)] at this
 cases this
theorem xe{ws:List ByteArray}(h:0≤c.any ws s):∃w∈ws,c.eo w s=true:=by
 have:∀(ws:List ByteArray) (i:Int),0≤c.gA s ws i→∃w∈ws,c.eo w s=true:=by
  intro ws
  induction ws with
  | nil=>intro i h;rw[PC.gA] at h;omega
  | cons w r ih =>
    intro i h
    rw[PC.gA] at h
    by_cases hw:c.eo w s=true
    ·exact⟨w,.head _,hw⟩
    ·rw[if_neg hw] at h
     obtain⟨x,hx,hxw⟩:=ih _ h
     exact⟨x,.tail _ hx,hxw⟩
 exact this ws 0 h
def EW(l m:List ByteArray):Bool:=l.all fun w=>m.all fun x=>!(w.toList==x.toList)
theorem CK{l m:List ByteArray}(hf:EW l m=true)(h:0≤c.any l s):c.any m s<0:=by
 apply Int.not_le.1
 intro h2
 obtain⟨w,hw,h3⟩:=xe h
 obtain⟨x,hx,h4⟩:=xe h2
 unfold PC.eo at h3 h4
 simp only[Bool.and_eq_true,beq_iff_eq] at h3 h4
 have:=List.all_eq_true.1 (List.all_eq_true.1 hf w hw) x hx
 rw[←h3.1,←h4.1] at this
 simp at this
def zl:List ByteArray:=[(⟨#[97,98,115]⟩:ByteArray),(⟨#[109,105,110]⟩:ByteArray),(⟨#[109,97,120]⟩:ByteArray),(⟨#[104,97,115]⟩:ByteArray),(⟨#[40]⟩:ByteArray)]
theorem FE:(0≤c.any gE s→c.any zl s=c.any gE s)∧(c.any gE s<0→c.any zl s=if c.eo (⟨#[104,97,115]⟩:ByteArray) s then 3 else if c.eo (⟨#[40]⟩:ByteArray) s then 4 else -1):=by
 unfold PC.any zl gE
 simp only[PC.gA]
 generalize c.eo _ s=b1
 generalize c.eo _ s=b2
 generalize c.eo _ s=b3
 generalize c.eo _ s=b4
 generalize c.eo _ s=b5
 cases b1<;>cases b2<;>cases b3<;>cases b4<;>cases b5<;>decide
theorem nZ(hc:c.Of t)(hl:c.Live s)(h:(c.literal s).1.2=false):c.literal s=((eP,false),s):=by
 by_cases hk:(c.tok s.next).kind=3
 ·rw[vk hl hk] at h;cases h
 ·have:=zk hc hl hk
  split at this
  ·exact this
  ·rw[this] at h;cases h
theorem dc.leaf{r:Px×PS}{e:Ending}{G:cR}(hL:c.Live r.2){k o ty n f p:Int}{w:ByteArray}(h:r.1=.mk k o ty n f w [] p)(he:e=.returned (Nd.mk k o ty n f w none 0 [] p).v)(hG:G.Perm (c.px t b r.2::F0)):dc c t b pP F0 r e I G :=
 .inl ⟨hL,_,[],he,⟨_,rfl,by rw[h];simp only[Nd.px,Nd.wg],eG.leaf⟩,hG⟩
theorem words{b1:Nat}{ws:List ByteArray}{cs:Array Value}(hb:I b1=some (.cells cs 9 (0,0)))(h:cs.toList=ws.flatMap lb):Sl I 1 lb (some ⟨b1,0,none⟩) ws.length ws:=Sl.ki (f:=lb) (z:=1) (fun _=>rfl) hb h
theorem Aj(hc:c.Of t){nx:Lv}{d:Int}(h0:0≤d)(h1:d≤24)(hx:d<24→ym c t 47 (d+1) nx.ex)(hkp:∀f,Kp c f nx.ex)(hl:c.Live s)(hF:F.Perm (c.px t b s::F0)) :
  cV P 128 #[.pointer (some ⟨b,0,none⟩),.int .i64 d] I F (dc c t b pP F0 (c.one nx d s)):=by
 have hn:=hl.now
 refine fN.vc ?_
 unfold fN.V
 intro b0
 refine dc.use (oZ hc hl (vg hF)) (fun v H I1 G l1 hL hv hG=>.inl ?_) fun f e I1 G l1 hd hf=>.inr ?_
 rotate_left
 ·refine dk.dG [_] hf fun e' G' hf'=>.inr ⟨f, ?_,hf'⟩
  cases h2:(c.literal s).1.2 with
  | true=>unfold PC.one;rw[h2,if_pos rfl];exact hd
  | false=>rw[nZ hc hl h2] at hd;exact (hd.live hl).elim
 obtain⟨n,rfl,hpx,hO,rfl⟩:=hv
 refine⟨_,_,_,_,_,_,_,_,_,_,_,rfl,c.px t b (c.literal s).2::F0,hG.trans (cY fun z=>by simp only[cZ,c6,c8];omega),fun bn=>⟨fun h2=>?_,fun h2=>?_⟩⟩
 ·have e1:c.one nx d s=((c.literal s).1.1,(c.literal s).2):=by unfold PC.one;rw[h2,if_pos rfl]
  rw[e1]
  exact .inl ⟨hL,_,[],rfl,⟨n,rfl,hpx,hO⟩,.refl _⟩
 have eL:=nZ hc hl h2
 clear hG
 rw[eL]
 generalize hF1:c.px t b (((eP,false),s):(Px×Bool)×PS).2::F0=F1
 have hF1:F1.Perm (c.px t b s::F0):=by rw[←hF1]
 have one_:c.one nx d s=if (c.tok s.next).kind=2 then (.mk 2 0 0 0 0 (c.tok s.next).text [] (c.tok s.next).pos,s.inc)
   else if 0≤c.any jv s then (.mk 3 0 0 0 (c.any jv s+1) ⟨#[]⟩ [] (c.tok s.next).pos,s.inc)
   else if 0≤c.any gE s then c.call nx d 8 (3+c.any gE s) 0 (c.tok s.next).pos (if c.any gE s=0 then 1 else 2) s
   else if 0≤c.any jN s then c.call nx d 9 0 (1+c.any jN s) (c.tok s.next).pos 1 s else c.rest nx d s:=by
  unfold PC.one;rw[eL,if_neg (by simp),hn]
 have hp1:∀{J:cS} (X Y:Nat×Obj),eu J (X::Y::F1) t b (c.tok s.next) (jo (c.tok s.next)):=fun X Y=>.inr (.tail _ (.tail _ (hF1.mem_iff.2 (.head _))))
 have up:∀{G:cR} {X Y:Nat×Obj} {s':PS} {K:cR},G.Perm (c.px t b s'::(K++(X::Y::F0)))→G.Perm (X::Y::(c.px t b s'::(K++F0))):=fun h=>h.trans (cY fun z=>by simp only[cZ,c6,c8];omega)
 refine⟨_,rfl,_,(hp1 _ _).rd.dQ (p:=1) (q:=4) rfl,_,rfl,_,(hp1 _ _).rd.dQ (p:=1) (q:=0) rfl,fun h3=>?_,fun h3=>?_⟩
 ·have h3:(c.tok s.next).kind=2:=by simpa using h3
  have e1:c.one nx d s=(.mk 2 0 0 0 0 (c.tok s.next).text [] (c.tok s.next).pos,s.inc):=by rw[one_,if_pos h3]
  have e2:c.name s=((c.tok s.next).text,s.inc):=by unfold PC.name;rw[hn,if_pos h3]
  rw[e1]
  refine dc.use (jD hc hl (gB hF1)) (fun v K I2 G l2 hL hv hG=>.inl ?_) fun f e I2 G l2 hd hf=>.inr ?_
  ·obtain⟨rfl,rfl⟩:=hv
   rw[e2] at hL hG ⊢
   exact⟨_,rfl,_,up hG,.leaf hL rfl rfl (.refl _)⟩
  ·rw[e2] at hd
   exact dk.dG [_,_] hf fun e' G' hf'=>.inr ⟨f,hd,hf'⟩
 have h3:(c.tok s.next).kind≠2:=by simpa using h3
 rw[if_neg h3] at one_
 intro b1 I3 l3 hb1
 refine cV.ret (ik hl (hp1 _ _) (words (ws:=jv) hb1 rfl) (by decide)) fun I4 l4=>⟨_,rfl,F1,.refl _,fun h4=>?_,fun h4=>?_⟩
 ·have h4:0≤c.any jv s:=of_decide_eq_true h4
  have hlt:c.any jv s<6:=(dx h4).2
  rw[one_,if_pos h4]
  refine dc.use (eA hc hl (il hl h4) (gB hF1)) (fun v K I5 G l5 hL hv hG=>.inl ?_) fun f e I5 G l5 hd hf=>.inr (dk.dG [_,_] hf fun e' G' hf'=>.inr ⟨f,hd,hf'⟩)
  obtain⟨rfl,rfl⟩:=hv
  refine⟨rfl,_,up hG,.leaf hL rfl ?_ (.refl _)⟩
  rw[w8 (n:=c.any jv s) (by omega),w8 (n:=1+c.any jv s) (by omega),Int.add_comm 1];rfl
 have h4:¬0≤c.any jv s:=of_decide_eq_false h4
 rw[if_neg h4] at one_
 have pass:∀{r:Px×PS} {g:Nat} {args:Array Value} {I5:cS} {X Y:Nat×Obj} {H1:cR} {Q':Ending→cS→cR→Prop},cV P g args I5 H1 (dc c t b pP (X::Y::F0) r) →
   (∀(n:Nd) (I6:cS) (G F8:cR),G.Perm (X::Y::F8)→dc c t b pP F0 r (.returned n.v) I6 F8→Q' (.returned n.v) I6 G)→(∀(f:PF) (e:Ending) (I6:cS) (G:cR),c.dD f r.2→dk f ([X,Y]++F0) e G→Q' e I6 G)→cV P g args I5 H1 Q':=fun h k1 k2 =>
  dc.use h (fun v K I6 G l6 hL hv hG=>by
   obtain⟨n,rfl,hv⟩:=hv
   exact k1 n I6 G _ (up hG) (.inl ⟨hL,_,K,rfl,⟨n,rfl,hv⟩,.refl _⟩)) fun f e I6 G l6 hd hf=>k2 f e I6 G hd hf
 intro b2 I6 l6 hb2
 refine cV.ret (ik hl (hp1 _ _) (words (ws:=jN) hb2 rfl) (by decide)) fun I7 l7=>⟨_,rfl,F1,.refl _,fun h5=>?_,fun h5=>?_⟩
 ·have h5:0≤c.any jN s:=of_decide_eq_true h5
  have hlt:c.any jN s<4:=(dx h5).2
  have h6:c.any gE s<0:=CK (by kernel_rfl:EW jN gE=true) h5
  rw[one_,if_neg (by omega),if_pos h5]
  have hw:IntKind.wrap .u8 (1+IntKind.wrap .u8 (c.any jN s))=1+c.any jN s:=by rw[w8 (n:=c.any jN s) (by omega),w8 (by omega)]
  rw[hw]
  exact pass (q9 hc hl (il hl h5) h0 h1 hx hkp 9 0 (1+c.any jN s) 0 1 (by decide) (gB hF1)) (fun n I8 G F8 hG hD=>.inl ⟨_,_,_,_,_,_,_,_,_,_,rfl,F8,hG,hD⟩) fun f e I8 G hd hf=>.inr (dk.dG [_,_] hf fun e' G' hf'=>.inr ⟨f,hd,hf'⟩)
 have h5:¬0≤c.any jN s:=of_decide_eq_false h5
 rw[if_neg h5] at one_
 intro b3 I9 l9 hb3
 obtain⟨a1,a2⟩:=FE (c:=c) (s:=s)
 refine cV.ret (ik hl (hp1 _ _) (words (ws:=zl) hb3 rfl) (by decide)) fun I10 l10=>⟨_,rfl,F1,.refl _, ?_⟩
 by_cases hcall:0≤c.any gE s
 ·have hlt:c.any gE s<3:=(dx hcall).2
  rw[a1 hcall,one_,if_pos hcall]
  have hkd:=il hl hcall
  refine⟨fun h6=>?_,fun h6=>⟨fun h7=>?_,fun h7=>⟨fun h8=>?_,fun h8=>?_⟩⟩⟩
  ·have h6:c.any gE s=0:=by simpa using h6
   rw[h6,if_pos rfl]
   exact pass (q9 hc hl hkd h0 h1 hx hkp 8 3 0 0 1 (by decide) (gB hF1)) (fun n I8 G F8 hG hD=>.inl ⟨_,_,_,_,_,_,_,_,_,_,rfl,F8,hG,hD⟩) fun f e I8 G hd hf=>.inr (dk.dG [_,_] hf fun e' G' hf'=>.inr ⟨f,hd,hf'⟩)
  ·have h7:c.any gE s=1:=by simpa using h7
   rw[h7,if_neg (by decide)]
   exact pass (q9 hc hl hkd h0 h1 hx hkp 8 4 0 0 2 (by decide) (gB hF1)) (fun n I8 G F8 hG hD=>.inl ⟨_,_,_,_,_,_,_,_,_,_,rfl,F8,hG,hD⟩) fun f e I8 G hd hf=>.inr (dk.dG [_,_] hf fun e' G' hf'=>.inr ⟨f,hd,hf'⟩)
  ·have h8:c.any gE s=2:=by simpa using h8
   rw[h8,if_neg (by decide)]
   exact pass (q9 hc hl hkd h0 h1 hx hkp 8 5 0 0 2 (by decide) (gB hF1)) (fun n I8 G F8 hG hD=>.inl ⟨_,_,_,_,_,_,_,_,_,_,rfl,F8,hG,hD⟩) fun f e I8 G hd hf=>.inr (dk.dG [_,_] hf fun e' G' hf'=>.inr ⟨f,hd,hf'⟩)
  ·have h6:c.any gE s≠0:=by simpa using h6
   have h7:c.any gE s≠1:=by simpa using h7
   have h8:c.any gE s≠2:=by simpa using h8
   omega
 rw[if_neg hcall] at one_
 rw[a2 (by omega),one_]
 unfold PC.rest
 have isk:∀{w:ByteArray},c.eo w s=true→(c.tok s.next).kind≠0:=fun h hk=>by
  unfold PC.eo at h;rw[hn,hk] at h;simp at h
 by_cases hhas:c.eo (⟨#[104,97,115]⟩:ByteArray) s=true
 ·rw[if_pos hhas,if_pos hhas]
  refine⟨fun h=>absurd h (by decide),fun _=>⟨fun h=>absurd h (by decide),fun _=>⟨fun h=>absurd h (by decide),fun _=>⟨fun _=>?_,fun h=>absurd h (by decide)⟩⟩⟩⟩
  have hst:∀(x:Px),(if c.any [(⟨#[98,105,100]⟩:ByteArray),(⟨#[97,115,107]⟩:ByteArray),(⟨#[108,97,115,116]⟩:ByteArray)] s.inc<0 then (eP,c.cX 130 s.inc) else (x,s.inc.inc):Px×PS).2=(c.oneOf [(⟨#[98,105,100]⟩:ByteArray),(⟨#[97,115,107]⟩:ByteArray),(⟨#[108,97,115,116]⟩:ByteArray)] s.inc).2:=fun x=>by
   unfold PC.oneOf;split<;>rfl
  refine dc.use (eA hc hl (isk hhas) (gB hF1)) (fun v K I5 G l5 hL hv hG=>.inl ?_) fun f e I5 G l5 hd hf=>.inr (dk.dG [_,_] hf fun e' G' hf'=>.inr ⟨f, ?_,hf'⟩)
  rotate_left
  ·rw[hst,PC.oneOf,hd.any,if_pos (by decide)];exact hd.cX _
  obtain⟨rfl,rfl⟩:=hv
  refine⟨rfl,_,up hG,fun b4 I8 l8 hb4=>?_⟩
  refine dc.use (qk hc hL (words (ws:=[(⟨#[98,105,100]⟩:ByteArray),(⟨#[97,115,107]⟩:ByteArray),(⟨#[108,97,115,116]⟩:ByteArray)]) hb4 rfl) (by decide) (gB (.refl _))) (fun v K I9 G l9 hL9 hv hG=>.inl ?_) fun f e I9 G l9 hd hf=>.inr (dk.dG [_,_] hf fun e' G' hf'=>.inr ⟨f,by rw[hst];exact hd,hf'⟩)
  obtain⟨rfl,rfl⟩:=hv
  have hge:¬c.any [(⟨#[98,105,100]⟩:ByteArray),(⟨#[97,115,107]⟩:ByteArray),(⟨#[108,97,115,116]⟩:ByteArray)] s.inc<0:=fun hlt=>by
   have:(c.oneOf [(⟨#[98,105,100]⟩:ByteArray),(⟨#[97,115,107]⟩:ByteArray),(⟨#[108,97,115,116]⟩:ByteArray)] s.inc).2=c.cX 130 s.inc:=if_pos hlt
   rw[this] at hL9
   exact (hL.cX (e:=130) (by decide)).2.live hL9
  have hlt:c.any [(⟨#[98,105,100]⟩:ByteArray),(⟨#[97,115,107]⟩:ByteArray),(⟨#[108,97,115,116]⟩:ByteArray)] s.inc<3:=(dx (Int.not_lt.1 hge)).2
  have e2:(c.oneOf [(⟨#[98,105,100]⟩:ByteArray),(⟨#[97,115,107]⟩:ByteArray),(⟨#[108,97,115,116]⟩:ByteArray)] s.inc).2=s.inc.inc:=if_neg hge
  rw[e2] at hL9 hG
  rw[if_neg hge]
  refine⟨_,rfl,_,up hG,.leaf hL9 (by rw[hn]) ?_ (.refl _)⟩
  show _=Ending.returned (Value.agg #[_,_,_,_,.int .u8 (c.any [(⟨#[98,105,100]⟩:ByteArray),(⟨#[97,115,107]⟩:ByteArray),(⟨#[108,97,115,116]⟩:ByteArray)] s.inc+1),_,_,_])
  show Ending.returned (Value.agg #[_,_,_,_,.int .u8 (IntKind.wrap .u8 (1+IntKind.wrap .u8 (c.any [(⟨#[98,105,100]⟩:ByteArray),(⟨#[97,115,107]⟩:ByteArray),(⟨#[108,97,115,116]⟩:ByteArray)] s.inc))),_,_,_])=_
  rw[w8 (n:=c.any [(⟨#[98,105,100]⟩:ByteArray),(⟨#[97,115,107]⟩:ByteArray),(⟨#[108,97,115,116]⟩:ByteArray)] s.inc) (by omega),w8 (n:=1+c.any [(⟨#[98,105,100]⟩:ByteArray),(⟨#[97,115,107]⟩:ByteArray),(⟨#[108,97,115,116]⟩:ByteArray)] s.inc) (by omega),Int.add_comm 1];rfl
 have hhas:c.eo (⟨#[104,97,115]⟩:ByteArray) s=false:=by simpa using hhas
 have ff:¬(false=true):=by decide
 rw[hhas,if_neg ff,if_neg ff]
 by_cases hop:c.eo (⟨#[40]⟩:ByteArray) s=true
 ·rw[if_pos hop,if_pos hop]
  refine⟨fun h=>absurd h (by decide),fun _=>⟨fun h=>absurd h (by decide),fun _=>⟨fun h=>absurd h (by decide),fun _=>⟨fun h=>absurd h (by decide),fun _=>⟨fun _=>?_,fun h=>absurd h (by decide)⟩⟩⟩⟩⟩
  refine (nY (hp1 _ _) h0 h1).mono fun e I5 G l5 hd=>?_
  rcases hd with ⟨hlt,rfl,rfl⟩ | ⟨rfl,hf⟩
  rotate_left
  ·rw[(lJ hl).1,if_pos rfl]
   exact .inr (dk.dG [_,_] (hf.perm (F1:=[_,_]++F1) (.refl _) (.refl _)) fun e' G' hf'=>.inr ⟨_,(lJ hl).2,hf'.tail hF1⟩)
  rw[qm hlt,hl.1,if_neg (by simp)]
  refine .inl ⟨_,rfl,F1,.refl _, ?_⟩
  refine dc.use (eA hc hl (isk hop) (gB hF1)) (fun v K I6 G l6 hL hv hG=>.inl ?_) fun f e I6 G l6 hd hf=>.inr (dk.dG [_,_] hf fun e' G' hf'=>.inr ⟨f,(hkp f _ hd).take _,hf'⟩)
  obtain⟨rfl,rfl⟩:=hv
  refine⟨rfl,_,up hG, ?_⟩
  refine dc.use (hx hlt b s.inc I6 _ _ hL (gB (.refl _))) (fun v K I7 G l7 hL7 hv hG=>.inl ?_) fun f e I7 G l7 hd hf=>.inr (dk.dG [_,_] hf fun e' G' hf'=>.inr ⟨f,hd.take _,hf'⟩)
  obtain⟨n7,rfl,hpx7,hO7⟩:=hv
  refine⟨_,_,_,_,_,_,_,_,_,_,rfl,_,up hG,fun bn1 b5 I8 l8 hb5=>?_⟩
  refine dc.use (eR hc hL7 hb5 (F0:=_::_::_::(K++F0)) (vh (.refl _))) (fun v L I9 G l9 hL9 hv hG=>.inl ?_) fun f e I9 G l9 hd hf=>.inr (dk.dG [_,_,_] hf fun e' G' hf'=>.inr ⟨f,hd,hf'.more⟩)
  obtain⟨⟨i9,rfl⟩,rfl⟩:=hv
  exact⟨_,rfl,c.px t b (c.take (⟨#[41]⟩:ByteArray) (nx.ex s.inc).2).2::(K++F0),hG.trans (cY fun z=>by simp only[cZ,c6,c8];omega),.inl ⟨hL9,_,K,rfl,⟨n7,rfl,hpx7,hO7⟩,.refl _⟩⟩
 have hop:c.eo (⟨#[40]⟩:ByteArray) s=false:=by simpa using hop
 rw[hop,if_neg ff,if_neg ff]
 refine⟨fun h=>absurd h (by decide),fun _=>⟨fun h=>absurd h (by decide),fun _=>⟨fun h=>absurd h (by decide),fun _=>⟨fun h=>absurd h (by decide),fun _=>⟨fun h=>absurd h (by decide),fun _=>?_⟩⟩⟩⟩⟩
 refine (fD (hp1 _ _) 130).mono fun e I5 G l5 hf=>.inr ?_
 exact dk.dG [_,_] (hf.perm (F1:=[_,_]++F1) (.refl _) (.refl _)) fun e' G' hf'=>.inr ⟨_,(hl.cX (by decide)).2,hf'.tail hF1⟩
end
end Go.Lx
